/- The ideal machine, part 17: a region that draws its order, evaluated in the order of the text. Nothing here is a claim of its own. -/
import Derived.Test.YtnapimfiikgaiaaEng15
namespace Go.Proofs.Ytnapimfiikgaiaa.Eng
open Go.RowKit
set_option linter.unusedSimpArgs false
set_option linter.unusedVariables false

/-- What is planned for an operation: a reading (effects ahead of it, effects that may be ahead of it), a block, an effect. -/
inductive DI | rd (lo hi : Nat) | mk (r kap : Nat) | ef (k : Nat)
  deriving DecidableEq

def maskAt (acc : List Nat) (o : Oper) : Nat := o.after.toList.foldl (fun m e => if Region.binds .any e then m ||| ((1 <<< e.on) ||| acc.getD e.on 0) else m) 0
def masks : List Oper → List Nat → List Nat
  | [], acc => acc
  | o :: r, acc => masks r (acc ++ [maskAt acc o])
def mbit (ms : List Nat) (i j : Nat) : Bool := (ms.getD j 0).testBit i

def esOf (dis : List DI) : List Nat := dis.zipIdx.filterMap fun | (.ef _, i) => some i | _ => none
def mksOf (dis : List DI) : List Nat := dis.zipIdx.filterMap fun | (.mk _ _, i) => some i | _ => none
def seqOK (K : Nat) : List DI → Nat → Bool
  | [], k => k == K
  | .ef k' :: l, k => k' == k && seqOK K l (k + 1)
  | .rd _ _ :: l, k => seqOK K l k
  | .mk _ _ :: l, k => seqOK K l k
def chkDI (ms es mks : List Nat) (m j : Nat) : DI → Bool
  | .ef k => es[k]? == some j
  | .mk r kap => decide (r < m) && mks[r]? == some j && decide (1 ≤ kap) && decide (kap ≤ es.length + 1) && !es.contains j && es.zipIdx.all fun p => mbit ms j p.1 == decide (kap ≤ p.2 + 1)
  | .rd lo hi => !es.contains j && decide (lo ≤ es.length) && decide (hi ≤ es.length) && es.zipIdx.all fun p => (mbit ms p.1 j == decide (p.2 < lo)) && (mbit ms j p.1 == decide (hi ≤ p.2))
def useOf (ops : Array Oper) : List (List Tmp × Option Tmp) := ops.toList.map fun o => (names ops o ++ o.dst.toList, o.dst)
def tmpsOK (ms : List Nat) (us : List (List Tmp × Option Tmp)) : Bool :=
  us.zipIdx.all fun y => match y.1.2 with
    | none => true
    | some t => us.zipIdx.all fun x => x.2 == y.2 || !x.1.1.contains t || mbit ms x.2 y.2 || mbit ms y.2 x.2
def chainOK (ms : List Nat) : List Nat → Bool
  | [] => true
  | e :: l => l.all (fun e' => mbit ms e e') && chainOK ms l
def planOK (ops : Array Oper) (pl : List DI × Nat) : Bool :=
  let ms := masks ops.toList []
  let es := esOf pl.1
  edgesBack ops && pl.1.length == ops.size && seqOK es.length pl.1 0 && chainOK ms es && tmpsOK ms (useOf ops) && es.all (fun e => decide (e < ops.size)) && pl.1.zipIdx.all fun p => chkDI ms es (mksOf pl.1) pl.2 p.2 p.1

section masks
variable {ops : Array Oper}
theorem mask_fold {acc : List Nat} {j : Nat} {o : Oper} (ho : ops[j]? = some o) (hacc : ∀ k i, (acc.getD k 0).testBit i = true → Before ops i k) : ∀ (l : List Edge) (m : Nat), (∀ e ∈ l, e ∈ o.after) → (∀ i, m.testBit i = true → Before ops i j) →
    ∀ i, (l.foldl (fun m e => if Region.binds .any e then m ||| ((1 <<< e.on) ||| acc.getD e.on 0) else m) m).testBit i = true → Before ops i j
  | [], m, _, hm, i, h => hm i h
  | e :: l, m, hl, hm, i, h => by
    simp only [List.foldl_cons] at h
    refine mask_fold ho hacc l _ (fun e' he' => hl e' (List.mem_cons_of_mem _ he')) ?_ i h
    intro i hi
    split at hi
    · rename_i hb
      rw [Nat.testBit_or, Nat.testBit_or] at hi
      simp only [Bool.or_eq_true] at hi
      rcases hi with hi | hi | hi
      · exact hm i hi
      · rw [Nat.one_shiftLeft, Nat.testBit_two_pow] at hi
        have : e.on = i := by simpa using hi
        subst this
        exact .edge j o e ho (hl e (List.mem_cons_self ..)) hb
      · exact .trans i e.on j (hacc _ _ hi) (.edge j o e ho (hl e (List.mem_cons_self ..)) hb)
    · exact hm i hi
theorem masks_before : ∀ (l : List Oper) (acc : List Nat), l = ops.toList.drop acc.length → (∀ k i, (acc.getD k 0).testBit i = true → Before ops i k) → ∀ k i, ((masks l acc).getD k 0).testBit i = true → Before ops i k
  | [], acc, _, hacc, k, i, h => hacc k i h
  | o :: l, acc, hl, hacc, k, i, h => by
    have ho : ops[acc.length]? = some o := by
      have : (ops.toList.drop acc.length)[0]? = some o := by rw [← hl]; rfl
      simpa using this
    refine masks_before l (acc ++ [maskAt acc o]) ?_ ?_ k i h
    · have : l = (ops.toList.drop acc.length).drop 1 := by rw [← hl]; rfl
      rw [this, List.drop_drop]; simp
    · intro k i hk
      rcases Nat.lt_trichotomy k acc.length with h1 | h1 | h1
      · simp only [List.getD_eq_getElem?_getD, List.getElem?_append_left h1] at hk
        exact hacc k i (by simpa [List.getD_eq_getElem?_getD] using hk)
      · subst h1
        simp only [List.getD_eq_getElem?_getD, List.getElem?_append_right (Nat.le_refl _), Nat.sub_self, List.getElem?_cons_zero, Option.getD_some] at hk
        exact mask_fold ho hacc o.after.toList 0 (fun e he => by simpa using he) (fun i h => by simp at h) i hk
      · simp only [List.getD_eq_getElem?_getD] at hk
        rw [List.getElem?_eq_none (by simp; omega)] at hk
        simp at hk
end masks

/-! #### the run in the order of the text -/
def IH.room (H : IH) (m : Nat) : IH := ⟨H.n + m, fun i => if H.n ≤ i ∧ i < H.n + m then .dead else H.f i, H.lo⟩
theorem IH.room_zero (H : IH) : H.room 0 = H := by
  unfold IH.room
  have : (fun i => if H.n ≤ i ∧ i < H.n + 0 then IB.dead else H.f i) = H.f := by funext i; rw [if_neg (by omega)]
  rw [this]; rfl
def IH.lay (V : IH) (i : Nat) (ib : IB) : IH := ⟨V.n, fun j => if j = i then ib else V.f j, V.lo⟩
def inst (V : IH) (k : Nat) : List (Nat × Nat × IB) → IH
  | [] => V
  | p :: l => if p.2.1 = k + 1 then (inst V k l).lay p.1 p.2.2 else inst V k l
def keepPast (b : IB) (r : Nat) : List IH → Prop
  | [] => True
  | W :: l => W.f r = b ∧ keepPast b r l
def keepLater (k : Nat) (V H1 : IH) : List (Nat × Nat) → Prop
  | [] => True
  | x :: l => (k < x.2 → H1.f x.1 = V.f x.1) ∧ keepLater k V H1 l
theorem keepPast_iff {b : IB} {r : Nat} : ∀ {l : List IH}, keepPast b r l ↔ ∀ W ∈ l, W.f r = b
  | [] => by simp [keepPast]
  | W :: l => by simp [keepPast, keepPast_iff (l := l)]
theorem keepLater_iff {k : Nat} {V H1 : IH} : ∀ {l : List (Nat × Nat)}, keepLater k V H1 l ↔ ∀ x ∈ l, k < x.2 → H1.f x.1 = V.f x.1
  | [] => by simp [keepLater]
  | x :: l => by simp [keepLater, keepLater_iff (l := l)]

/-- A call, and what is asked behind it. -/
def wcall (P : Program) (prim : CallRel) (f : FuncId) (args : List IV) (H : IH) (K : IV → IH → Prop) : Prop := ∃ v H', ICall P prim f args H v H' ∧ K v H'

def wdr (P : Program) (prim : CallRel) (ops : Array Oper) (n0 m : Nat) : List (Oper × DI) → List IV → IH → List IH → List (Nat × Nat × IB) → List (Nat × Nat) → (List IV → IH → Prop) → Prop
  | [], a, V, past, pm, later, Q => Q a (inst V past.length pm)
  | (o, d) :: rest, a, V, past, pm, later, Q =>
    match iwanted ops o a with
    | none => False
    | some false => match d with
      | .ef k => wdr P prim ops n0 m rest (iput a o.dst (.tup [])) (inst V k pm) (past ++ [V]) pm later Q
      | _ => wdr P prim ops n0 m rest (iput a o.dst (.tup [])) V past pm later Q
    | some true => match d with
      | .rd lo hi => match stepR P (ev a) V o.op with
        | none => False
        | some v => match rid (ev a) o.op with
          | none => wdr P prim ops n0 m rest (iput a o.dst v) V past pm later Q
          | some r => (m = 0 ∨ r < n0 ∨ n0 + m ≤ r) ∧ keepPast (V.f r) r (past.drop lo) ∧ wdr P prim ops n0 m rest (iput a o.dst v) V past pm (if past.length < hi then (r, hi) :: later else later) Q
      | .mk r kap => match stepA P (ev a) o.op with
        | none => False
        | some (ib, mk) => wdr P prim ops n0 m rest (iput a o.dst (mk (n0 + r))) V past ((n0 + r, kap, ib) :: pm) later Q
      | .ef k => match stepE P (ev a) (inst V k pm) o.op with
        | some (v, H1) => keepLater k V H1 later ∧ wdr P prim ops n0 m rest (iput a o.dst v) H1 (past ++ [V]) pm later Q
        | none => match stepC (ev a) o.op with
          | none => False
          | some (f, args) => wcall P prim f args (inst V k pm) fun v H1 => keepLater k V H1 later ∧ wdr P prim ops n0 m rest (iput a o.dst v) H1 (past ++ [V]) pm later Q

/-! #### sound -/
theorem inst_f (V : IH) (k : Nat) : ∀ {pm : List (Nat × Nat × IB)} {id : Nat}, (∀ p ∈ pm, p.2.1 = k + 1 → p.1 ≠ id) → (inst V k pm).f id = V.f id
  | [], _, _ => rfl
  | p :: l, id, h => by
    simp only [inst]
    split
    · rename_i hk
      have := h p (List.mem_cons_self ..) hk
      simp only [IH.lay, if_neg (Ne.symm this)]
      exact inst_f V k fun q hq => h q (List.mem_cons_of_mem _ hq)
    · exact inst_f V k fun q hq => h q (List.mem_cons_of_mem _ hq)
theorem inst_n (V : IH) (k : Nat) : ∀ (pm : List (Nat × Nat × IB)), (inst V k pm).n = V.n ∧ (inst V k pm).lo = V.lo
  | [] => ⟨rfl, rfl⟩
  | p :: l => by
    simp only [inst]
    split
    · exact inst_n V k l
    · exact inst_n V k l
theorem inst_at (V : IH) (k : Nat) : ∀ {pm : List (Nat × Nat × IB)} {p : Nat × Nat × IB}, (pm.map (·.1)).Nodup → p ∈ pm → (inst V k pm).f p.1 = if p.2.1 = k + 1 then p.2.2 else V.f p.1
  | q :: l, p, hn, hp => by
    simp only [List.map_cons, List.nodup_cons] at hn
    simp only [inst]
    cases hp with
    | head =>
      split
      · simp [IH.lay]
      · exact inst_f V k fun x hx _ he => hn.1 (List.mem_map.2 ⟨x, hx, he⟩)
    | tail _ hp =>
      have hne : p.1 ≠ q.1 := fun he => hn.1 (List.mem_map.2 ⟨p, hp, he⟩)
      split
      · simp only [IH.lay, if_neg hne]
        exact inst_at V k hn.2 hp
      · exact inst_at V k hn.2 hp
theorem inst_skip (V : IH) (k : Nat) : ∀ {tp pm : List (Nat × Nat × IB)}, (∀ p ∈ tp, p.2.1 ≠ k + 1) → inst V k (tp ++ pm) = inst V k pm
  | [], pm, _ => rfl
  | p :: l, pm, h => by
    simp only [List.cons_append, inst, if_neg (h p (List.mem_cons_self ..))]
    exact inst_skip V k fun q hq => h q (List.mem_cons_of_mem _ hq)

section sound
variable {P : Program} {prim : CallRel} {ops : Array Oper} {dis : List DI} {n0 m K : Nat} {a0 : List IV} {H : IH}

def PMok (dis : List DI) (n0 lo hi : Nat) (pm : List (Nat × Nat × IB)) : Prop := ∀ q ∈ pm, ∃ i r, lo ≤ i ∧ i < hi ∧ dis[i]? = some (.mk r q.2.1) ∧ q.1 = n0 + r

def frV (ops : Array Oper) (a0 vF : List IV) (j : Nat) : List IV := frD ops (fun j => vF.getD j .dead) a0 (fun _ => true) j

def FactJ (P : Program) (prim : CallRel) (ops : Array Oper) (dis : List DI) (n0 m : Nat) (a0 : List IV) (H : IH) (vF : List IV) (VF : List IH) (pF : List (Nat × Nat × IB)) (j : Nat) : Prop :=
  ∀ o d, ops[j]? = some o → dis[j]? = some d → match d with
  | .rd lo hi => (iwanted ops o (frV ops a0 vF j) = some false ∧ vF.getD j .dead = .tup []) ∨ (iwanted ops o (frV ops a0 vF j) = some true ∧ (∀ r, rid (ev (frV ops a0 vF j)) o.op = some r → m = 0 ∨ r < n0 ∨ n0 + m ≤ r) ∧
      ∀ q, lo ≤ q → q ≤ hi → q < VF.length → stepR P (ev (frV ops a0 vF j)) (VF.getD q H) o.op = some (vF.getD j .dead))
  | .mk r kap => (iwanted ops o (frV ops a0 vF j) = some false ∧ vF.getD j .dead = .tup [] ∧ ∀ q ∈ pF, q.1 ≠ n0 + r) ∨ (iwanted ops o (frV ops a0 vF j) = some true ∧ ∃ ib mk, stepA P (ev (frV ops a0 vF j)) o.op = some (ib, mk) ∧ vF.getD j .dead = mk (n0 + r) ∧ (n0 + r, kap, ib) ∈ pF)
  | .ef k => (iwanted ops o (frV ops a0 vF j) = some false ∧ vF.getD j .dead = .tup [] ∧ VF.getD (k + 1) H = inst (VF.getD k H) k pF) ∨ (iwanted ops o (frV ops a0 vF j) = some true ∧ stepE P (ev (frV ops a0 vF j)) (inst (VF.getD k H) k pF) o.op = some (vF.getD j .dead, VF.getD (k + 1) H)) ∨
      (iwanted ops o (frV ops a0 vF j) = some true ∧ ∃ f args, stepC (ev (frV ops a0 vF j)) o.op = some (f, args) ∧ ICall P prim f args (inst (VF.getD k H) k pF) (vF.getD j .dead) (VF.getD (k + 1) H))

theorem frD_val {val val' : Nat → IV} {D : Nat → Bool} : ∀ {n : Nat}, (∀ j, j < n → val j = val' j) → frD ops val a0 D n = frD ops val' a0 D n
  | 0, _ => rfl
  | n + 1, h => by simp only [frD]; rw [h n (by omega), frD_val fun j hj => h j (by omega)]
theorem getD_pre {α : Type} {d : α} (l t : List α) {j : Nat} (h : j < l.length) : (l ++ t).getD j d = l.getD j d := by
  simp [List.getD_eq_getElem?_getD, List.getElem?_append_left h]
theorem getD_at {α : Type} {d v : α} (l t : List α) : (l ++ v :: t).getD l.length d = v := by
  simp [List.getD_eq_getElem?_getD]
theorem frV_pre (vals tv : List IV) {p : Nat} (h : p ≤ vals.length) : frV ops a0 (vals ++ tv) p = frV ops a0 vals p := frD_val fun j hj => getD_pre _ _ (by omega)
theorem frV_next (vals tv : List IV) {v : IV} {o : Oper} (ho : ops[vals.length]? = some o) : frV ops a0 (vals ++ [v]) (vals.length + 1) = iput (frV ops a0 vals vals.length) o.dst v := by
  unfold frV
  rw [frD, if_pos rfl, ho, show (vals ++ [v]).getD vals.length IV.dead = v from getD_at vals [], frD_val (val' := fun j => vals.getD j IV.dead) fun j hj => getD_pre _ _ hj]
  rfl

theorem wdr_trace (hlen : dis.length = ops.size) (hmk : ∀ (i i' r kap kap' : Nat), dis[i]? = some (.mk r kap) → dis[i']? = some (.mk r kap') → i = i') (hr : ∀ (i r kap : Nat), dis[i]? = some (.mk r kap) → r < m) (hkap : ∀ (i r kap j k : Nat), dis[i]? = some (.mk r kap) → dis[j]? = some (.ef k) → j < i → kap ≠ k + 1)
    {Q : List IV → IH → Prop} : ∀ (rest : List (Oper × DI)) (vals : List IV) (a : List IV) (V : IH) (past : List IH) (pm : List (Nat × Nat × IB)) (later : List (Nat × Nat)),
    rest = (ops.toList.zip dis).drop vals.length → vals.length ≤ ops.size → a = frV ops a0 vals vals.length → PMok dis n0 0 vals.length pm → (pm.map (·.1)).Nodup → seqOK K (dis.drop vals.length) past.length = true →
    (∀ x ∈ later, m = 0 ∨ x.1 < n0 ∨ n0 + m ≤ x.1) → wdr P prim ops n0 m rest a V past pm later Q →
    ∃ tv tV tp, (vals ++ tv).length = ops.size ∧ past.length + tV.length = K ∧ PMok dis n0 0 ops.size (tp ++ pm) ∧ ((tp ++ pm).map (·.1)).Nodup ∧ PMok dis n0 vals.length ops.size tp ∧
      (∀ j, vals.length ≤ j → FactJ P prim ops dis n0 m a0 H (vals ++ tv) (past ++ V :: tV) (tp ++ pm) j) ∧ (∀ x ∈ later, ∀ q, past.length ≤ q → q ≤ x.2 → q ≤ K → ((past ++ V :: tV).getD q H).f x.1 = V.f x.1) ∧
      Q (frV ops a0 (vals ++ tv) ops.size) (inst ((past ++ V :: tV).getD K H) K (tp ++ pm))
  | [], vals, a, V, past, pm, later, hrest, hle, ha, hpm, hnd, hseq, hlat, h => by
    have hp : vals.length = ops.size := by
      have : ((ops.toList.zip dis).drop vals.length).length = 0 := by rw [← hrest]; rfl
      simp [hlen] at this; omega
    have hK : past.length = K := by
      rw [List.drop_eq_nil_of_le (by omega)] at hseq
      simpa [seqOK] using hseq
    refine ⟨[], [], [], by simp [hp], by simp [hK], by simpa [hp] using hpm, by simpa using hnd, fun q hq => by simp at hq, fun j hj o d ho hd => ?_, fun x hx q h1 h2 h3 => ?_, ?_⟩
    · have := (Array.getElem?_eq_some_iff.1 ho).1; omega
    · have : q = past.length := by omega
      subst this
      rw [getD_at]
    · simp only [List.append_nil, List.nil_append]
      rw [← hp, ← ha, ← hK, getD_at]
      exact h
  | (o, d) :: rest, vals, a, V, past, pm, later, hrest, hle, ha, hpm, hnd, hseq, hlat, h => by
    have hz : (ops.toList.zip dis)[vals.length]? = some (o, d) := by
      have : ((ops.toList.zip dis).drop vals.length)[0]? = some (o, d) := by rw [← hrest]; rfl
      simpa using this
    rw [List.getElem?_zip_eq_some] at hz
    have hd : dis[vals.length]? = some d := hz.2
    have ho : ops[vals.length]? = some o := by have := hz.1; simpa using this
    clear hz
    have hlt : vals.length < ops.size := (Array.getElem?_eq_some_iff.1 ho).1
    have hdd : dis.drop vals.length = d :: dis.drop (vals.length + 1) := by
      have hl : vals.length < dis.length := by omega
      rw [List.drop_eq_getElem_cons hl]
      rw [List.getElem?_eq_getElem hl] at hd
      simp only [Option.some.injEq] at hd
      rw [hd]
    have hrest' : rest = (ops.toList.zip dis).drop (vals.length + 1) := by
      have : rest = ((ops.toList.zip dis).drop vals.length).drop 1 := by rw [← hrest]; rfl
      rw [this, List.drop_drop]
    have hfr : ∀ v, iput a o.dst v = frV ops a0 (vals ++ [v]) (vals ++ [v]).length := fun v => by
      rw [List.length_append, List.length_singleton, frV_next vals [] ho, ← ha]
    have hpm' : ∀ v : IV, PMok dis n0 0 (vals ++ [v]).length pm := fun v q hq => by
      obtain ⟨i, r, h1, h2, h3, h4⟩ := hpm q hq
      exact ⟨i, r, h1, by simp; omega, h3, h4⟩
    have hfrj : ∀ tv, frV ops a0 (vals ++ tv) vals.length = a := fun tv => by rw [frV_pre vals tv (Nat.le_refl _), ha]
    have hval : ∀ v tv, (vals ++ ([v] ++ tv)).getD vals.length IV.dead = v := fun v tv => by rw [List.singleton_append, getD_at]
    -- the next operations, from the induction
    have go : ∀ (v : IV) (V' : IH) (past' : List IH) (pm' : List (Nat × Nat × IB)) (later' : List (Nat × Nat)), PMok dis n0 0 (vals ++ [v]).length pm' → (pm'.map (·.1)).Nodup → seqOK K (dis.drop (vals.length + 1)) past'.length = true → (∀ x ∈ later', m = 0 ∨ x.1 < n0 ∨ n0 + m ≤ x.1) →
        wdr P prim ops n0 m rest (iput a o.dst v) V' past' pm' later' Q → _ := fun v V' past' pm' later' h1 h2 h3 h4 h5 =>
      wdr_trace hlen hmk hr hkap rest (vals ++ [v]) (iput a o.dst v) V' past' pm' later' (by rw [hrest', List.length_append, List.length_singleton]) (by simp; omega) (hfr v) h1 h2 (by rw [List.length_append, List.length_singleton]; exact h3) h4 h5
    have fix : ∀ (v : IV) (tv : List IV) (VF : List IH) (pF : List (Nat × Nat × IB)), (∀ j, (vals ++ [v]).length ≤ j → FactJ P prim ops dis n0 m a0 H (vals ++ [v] ++ tv) VF pF j) →
        FactJ P prim ops dis n0 m a0 H (vals ++ ([v] ++ tv)) VF pF vals.length → ∀ j, vals.length ≤ j → FactJ P prim ops dis n0 m a0 H (vals ++ ([v] ++ tv)) VF pF j := fun v tv VF pF h1 h2 j hj => by
      rcases Nat.lt_or_ge vals.length j with hlt | hge
      · have := h1 j (by simp; omega)
        rwa [List.append_assoc] at this
      · have : j = vals.length := by omega
        subst this
        exact h2
    have low : ∀ {tp : List (Nat × Nat × IB)} {v : IV}, PMok dis n0 (vals ++ [v]).length ops.size tp → PMok dis n0 vals.length ops.size tp := fun hp q hq => by
      obtain ⟨i, r, h1, h2, h3, h4⟩ := hp q hq
      exact ⟨i, r, by simp at h1; omega, h2, h3, h4⟩
    -- nothing is laid behind an effect that the effect would see
    have hskip : ∀ {tp : List (Nat × Nat × IB)} {v : IV} {k : Nat} (W : IH), d = .ef k → PMok dis n0 (vals ++ [v]).length ops.size tp → inst W k (tp ++ pm) = inst W k pm := fun W hdk hp => inst_skip W _ fun q hq => by
      obtain ⟨i, r, h1, _, h3, _⟩ := hp q hq
      exact hkap i r _ vals.length _ h3 (by rw [hd, hdk]) (by simp at h1; omega)
    -- behind an effect
    have eff : ∀ (k : Nat) (v : IV) (V' : IH), d = .ef k → (∀ tv, FactJ P prim ops dis n0 m a0 H (vals ++ ([v] ++ tv)) [] [] vals.length ∨ True) → keepLater k V V' later → wdr P prim ops n0 m rest (iput a o.dst v) V' (past ++ [V]) pm later Q →
        (∀ tv (VF : List IH) (pF : List (Nat × Nat × IB)), VF.getD k H = V → VF.getD (k + 1) H = V' → inst V k pF = inst V k pm → FactJ P prim ops dis n0 m a0 H (vals ++ ([v] ++ tv)) VF pF vals.length) →
        ∃ tv tV tp, (vals ++ tv).length = ops.size ∧ past.length + tV.length = K ∧ PMok dis n0 0 ops.size (tp ++ pm) ∧ ((tp ++ pm).map (·.1)).Nodup ∧ PMok dis n0 vals.length ops.size tp ∧
      (∀ j, vals.length ≤ j → FactJ P prim ops dis n0 m a0 H (vals ++ tv) (past ++ V :: tV) (tp ++ pm) j) ∧ (∀ x ∈ later, ∀ q, past.length ≤ q → q ≤ x.2 → q ≤ K → ((past ++ V :: tV).getD q H).f x.1 = V.f x.1) ∧
      Q (frV ops a0 (vals ++ tv) ops.size) (inst ((past ++ V :: tV).getD K H) K (tp ++ pm)) := fun k v V' hdk _ hkl h1 hfact => by
      have hk : k = past.length ∧ seqOK K (dis.drop (vals.length + 1)) (past.length + 1) = true := by
        rw [hdd, hdk] at hseq
        simpa [seqOK] using hseq
      obtain ⟨tv, tV, tp, e1, e2, e3, e4, e5, e6, e7, e8⟩ := go v V' (past ++ [V]) pm later (hpm' v) hnd (by rw [List.length_append, List.length_singleton]; exact hk.2) hlat h1
      have hVF : past ++ [V] ++ V' :: tV = past ++ V :: (V' :: tV) := by simp
      rw [hVF] at e6 e7 e8
      refine ⟨[v] ++ tv, V' :: tV, tp, by rw [← List.append_assoc]; exact e1, by simp at e2 ⊢; omega, e3, e4, low e5, fix v tv _ _ e6 (hfact tv _ _ (by rw [hk.1]; exact getD_at _ _) ?_ (hskip V hdk e5)), fun x hx q h2 h3 h4 => ?_, by rw [← List.append_assoc]; exact e8⟩
      · rw [hk.1]
        have := getD_at (d := H) (v := V') (past ++ [V]) tV
        rw [hVF] at this
        simp at this ⊢
      · rcases Nat.lt_or_ge past.length q with hq | hq
        · rw [e7 x hx q (by simp; omega) h3 h4]
          exact (keepLater_iff.1 hkl) x hx (by omega)
        · have : q = past.length := by omega
          subst this
          rw [getD_at]
    -- no effect
    have quiet : ∀ (v : IV) (pm' : List (Nat × Nat × IB)) (later' : List (Nat × Nat)), (∀ k, d ≠ .ef k) → PMok dis n0 0 (vals ++ [v]).length pm' → (pm'.map (·.1)).Nodup → (∀ x ∈ later', m = 0 ∨ x.1 < n0 ∨ n0 + m ≤ x.1) → wdr P prim ops n0 m rest (iput a o.dst v) V past pm' later' Q → _ := fun v pm' later' hne h1 h2 h3 h4 =>
      go v V past pm' later' h1 h2 (by
        rw [hdd] at hseq
        cases d with
        | ef k => exact absurd rfl (hne k)
        | rd lo hi => exact hseq
        | mk r kap => exact hseq) h3 h4
    simp only [wdr] at h
    cases hw : iwanted ops o a with
    | none => rw [hw] at h; exact h.elim
    | some b =>
      rw [hw] at h
      cases b with
      | false =>
        simp only at h
        cases d with
        | ef k =>
          refine eff k (.tup []) (inst V k pm) rfl (fun _ => .inr trivial) (keepLater_iff.2 fun x hx _ => inst_f V k fun q hq _ => ?_) h fun tv VF pF hv1 hv2 hi o' d' ho' hd' => ?_
          · obtain ⟨i, r, _, _, h3, h4⟩ := hpm q hq
            have := hr i r _ h3
            rcases hlat x hx with h5 | h5 | h5 <;> omega
          · rw [ho] at ho'; rw [hd] at hd'; cases ho'; cases hd'
            refine .inl ⟨?_, hval _ _, ?_⟩
            · rw [hfrj]; exact hw
            · rw [hv1, hv2, hi]
        | rd lo hi =>
          obtain ⟨tv, tV, tp, e1, e2, e3, e4, e5, e6, e7, e8⟩ := quiet (.tup []) pm later (fun _ => by simp) (hpm' _) hnd hlat h
          refine ⟨[.tup []] ++ tv, tV, tp, by rw [← List.append_assoc]; exact e1, e2, e3, e4, low e5, fix _ tv _ _ e6 fun o' d' ho' hd' => ?_, e7, by rw [← List.append_assoc]; exact e8⟩
          rw [ho] at ho'; rw [hd] at hd'; cases ho'; cases hd'
          exact .inl ⟨by rw [hfrj]; exact hw, hval _ _⟩
        | mk r kap =>
          obtain ⟨tv, tV, tp, e1, e2, e3, e4, e5, e6, e7, e8⟩ := quiet (.tup []) pm later (fun _ => by simp) (hpm' _) hnd hlat h
          refine ⟨[.tup []] ++ tv, tV, tp, by rw [← List.append_assoc]; exact e1, e2, e3, e4, low e5, fix _ tv _ _ e6 fun o' d' ho' hd' => ?_, e7, by rw [← List.append_assoc]; exact e8⟩
          rw [ho] at ho'; rw [hd] at hd'; cases ho'; cases hd'
          refine .inl ⟨by rw [hfrj]; exact hw, hval _ _, fun q hq he => ?_⟩
          rcases List.mem_append.1 hq with hq | hq
          · obtain ⟨i, r', h1, _, h3, h4⟩ := e5 q hq
            have : r' = r := by omega
            subst this
            have := hmk _ _ _ _ _ h3 hd
            simp at h1; omega
          · obtain ⟨i, r', _, h2, h3, h4⟩ := hpm q hq
            have : r' = r := by omega
            subst this
            have := hmk _ _ _ _ _ h3 hd
            omega
      | true =>
        simp only at h
        cases d with
        | ef k =>
          simp only at h
          split at h
          · rename_i v H1 hs
            refine eff k v H1 rfl (fun _ => .inr trivial) h.1 h.2 fun tv VF pF hv1 hv2 hi o' d' ho' hd' => ?_
            rw [ho] at ho'; rw [hd] at hd'; cases ho'; cases hd'
            refine .inr (.inl ⟨by rw [hfrj]; exact hw, ?_⟩)
            rw [hfrj, hv1, hv2, hi, hval]; exact hs
          · split at h
            · exact h.elim
            · rename_i f args hs
              obtain ⟨v, H1, hc, h⟩ := h
              refine eff k v H1 rfl (fun _ => .inr trivial) h.1 h.2 fun tv VF pF hv1 hv2 hi o' d' ho' hd' => ?_
              rw [ho] at ho'; rw [hd] at hd'; cases ho'; cases hd'
              refine .inr (.inr ⟨by rw [hfrj]; exact hw, f, args, ?_, ?_⟩)
              · rw [hfrj]; exact hs
              · rw [hv1, hv2, hi, hval]; exact hc
        | rd lo hi =>
          simp only at h
          cases hs : stepR P (ev a) V o.op with
          | none => rw [hs] at h; exact h.elim
          | some v =>
            rw [hs] at h
            simp only at h
            cases hrd : rid (ev a) o.op with
            | none =>
              rw [hrd] at h
              obtain ⟨tv, tV, tp, e1, e2, e3, e4, e5, e6, e7, e8⟩ := quiet v pm later (fun _ => by simp) (hpm' _) hnd hlat h
              refine ⟨[v] ++ tv, tV, tp, by rw [← List.append_assoc]; exact e1, e2, e3, e4, low e5, fix _ tv _ _ e6 fun o' d' ho' hd' => ?_, e7, by rw [← List.append_assoc]; exact e8⟩
              rw [ho] at ho'; rw [hd] at hd'; cases ho'; cases hd'
              refine .inr ⟨by rw [hfrj]; exact hw, fun r hr => ?_, fun q h1 h2 h3 => ?_⟩
              · rw [hfrj, hrd] at hr; cases hr
              · rw [hfrj, hval, stepR_at (H' := V) fun r hr => by rw [hrd] at hr; cases hr]
                exact hs
            | some r =>
              rw [hrd] at h
              simp only at h
              obtain ⟨hown, hpast, h⟩ := h
              obtain ⟨tv, tV, tp, e1, e2, e3, e4, e5, e6, e7, e8⟩ := quiet v pm _ (fun _ => by simp) (hpm' _) hnd (fun x hx => by
                split at hx
                · cases hx with
                  | head => exact hown
                  | tail _ hx => exact hlat x hx
                · exact hlat x hx) h
              refine ⟨[v] ++ tv, tV, tp, by rw [← List.append_assoc]; exact e1, e2, e3, e4, low e5, fix _ tv _ _ e6 fun o' d' ho' hd' => ?_, fun x hx => e7 x (by split <;> simp [hx]), by rw [← List.append_assoc]; exact e8⟩
              rw [ho] at ho'; rw [hd] at hd'; cases ho'; cases hd'
              refine .inr ⟨by rw [hfrj]; exact hw, fun r' hr' => ?_, fun q h1 h2 h3 => ?_⟩
              · rw [hfrj, hrd] at hr'; cases hr'; exact hown
              · rw [hfrj, hval, stepR_at (H' := V) fun r' hr' => ?_]
                · exact hs
                · rw [hrd] at hr'; cases hr'
                  rcases Nat.lt_or_ge q past.length with hq | hq
                  · rw [getD_pre _ _ hq]
                    refine (keepPast_iff.1 hpast) _ ?_
                    rw [List.getD_eq_getElem?_getD, List.getElem?_eq_getElem hq, Option.getD_some]
                    refine List.mem_iff_getElem.2 ⟨q - lo, by simp; omega, ?_⟩
                    rw [List.getElem_drop]
                    congr 1; omega
                  · rcases Nat.lt_or_ge past.length hi with hh | hh
                    · refine e7 (r, hi) (by rw [if_pos hh]; exact List.mem_cons_self ..) q hq h2 ?_
                      simp at h3; omega
                    · have : q = past.length := by omega
                      subst this
                      rw [getD_at]
        | mk r kap =>
          simp only at h
          cases hs : stepA P (ev a) o.op with
          | none => rw [hs] at h; exact h.elim
          | some x =>
            obtain ⟨ib, mk⟩ := x
            rw [hs] at h
            simp only at h
            have hnew : ∀ q ∈ pm, q.1 ≠ n0 + r := fun q hq he => by
              obtain ⟨i, r', _, h2, h3, h4⟩ := hpm q hq
              have : r' = r := by omega
              subst this
              have := hmk _ _ _ _ _ h3 hd
              omega
            obtain ⟨tv, tV, tp, e1, e2, e3, e4, e5, e6, e7, e8⟩ := quiet (mk (n0 + r)) ((n0 + r, kap, ib) :: pm) later (fun _ => by simp) (fun q hq => by
              cases hq with
              | head => exact ⟨vals.length, r, Nat.zero_le _, by simp, hd, rfl⟩
              | tail _ hq => exact hpm' (mk (n0 + r)) q hq) (by
                simp only [List.map_cons, List.nodup_cons]
                exact ⟨fun hm => by obtain ⟨q, hq, he⟩ := List.mem_map.1 hm; exact hnew q hq he, hnd⟩) hlat h
            have hpF : tp ++ (n0 + r, kap, ib) :: pm = (tp ++ [(n0 + r, kap, ib)]) ++ pm := by simp
            rw [hpF] at e3 e4 e6 e8
            refine ⟨[mk (n0 + r)] ++ tv, tV, tp ++ [(n0 + r, kap, ib)], by rw [← List.append_assoc]; exact e1, e2, e3, e4, fun q hq => ?_, fix _ tv _ _ e6 fun o' d' ho' hd' => ?_, e7, by rw [← List.append_assoc]; exact e8⟩
            · rcases List.mem_append.1 hq with hq | hq
              · exact low e5 q hq
              · simp at hq; subst hq
                exact ⟨vals.length, r, Nat.le_refl _, hlt, hd, rfl⟩
            · rw [ho] at ho'; rw [hd] at hd'; cases ho'; cases hd'
              refine .inr ⟨by rw [hfrj]; exact hw, ib, mk, by rw [hfrj]; exact hs, hval _ _, ?_⟩
              simp

theorem chainOK_get {ms : List Nat} : ∀ {es : List Nat}, chainOK ms es = true → ∀ (q q' e e' : Nat), q < q' → es[q]? = some e → es[q']? = some e' → mbit ms e e' = true
  | [], _, q, q', e, e', _, h, _ => by simp at h
  | x :: l, hc, q, q', e, e', hlt, h1, h2 => by
    simp only [chainOK, Bool.and_eq_true, List.all_eq_true] at hc
    cases q' with
    | zero => omega
    | succ q' =>
      simp only [List.getElem?_cons_succ] at h2
      cases q with
      | zero =>
        simp only [List.getElem?_cons_zero, Option.some.injEq] at h1
        subst h1
        exact hc.1 e' (List.mem_of_getElem? h2)
      | succ q =>
        simp only [List.getElem?_cons_succ] at h1
        exact chainOK_get hc.2 q q' e e' (by omega) h1 h2

theorem find_of_mem : ∀ {pF : List (Nat × Nat × IB)} {p : Nat × Nat × IB}, (pF.map (·.1)).Nodup → p ∈ pF → pF.find? (fun q => q.1 == p.1) = some p
  | q :: l, p, hn, hp => by
    simp only [List.map_cons, List.nodup_cons] at hn
    cases hp with
    | head => simp
    | tail _ hp =>
      have hne : (q.1 == p.1) = false := by simp; exact fun he => hn.1 (List.mem_map.2 ⟨p, hp, he.symm⟩)
      rw [List.find?_cons, hne]
      exact find_of_mem hn.2 hp

/-- **A region that draws its order, in the order of the text.** -/
theorem wdr_sound {pl : List DI × Nat} (hp : planOK ops pl = true) (id : Nat) {a : List IV} {Q : List IV → IH → Prop} (h : wdr P prim ops H.n pl.2 (ops.toList.zip pl.1) a (H.room pl.2) [] [] [] Q) : ∃ a' H', ICode P prim (.region id ops true) a H .normal a' H' ∧ Q a' H' := by
  obtain ⟨dis, m⟩ := pl
  simp only [planOK, Bool.and_eq_true, List.all_eq_true, decide_eq_true_eq, beq_iff_eq] at hp h
  obtain ⟨⟨⟨⟨⟨⟨hedge, hlen⟩, hseq⟩, hchain⟩, htmps⟩, hesz⟩, hchk⟩ := hp
  have hbef : ∀ i j, mbit (masks ops.toList []) i j = true → Before ops i j := fun i j hb => masks_before ops.toList [] (by simp) (fun k i h => by simp at h) j i hb
  have hchk : ∀ (j : Nat) (d : DI), dis[j]? = some d → chkDI (masks ops.toList []) (esOf dis) (mksOf dis) m j d = true := fun j d hj => hchk (d, j) (by rw [List.mem_zipIdx_iff_getElem?]; exact hj)
  generalize hms : masks ops.toList [] = ms at *
  have cef : ∀ (j k : Nat), dis[j]? = some (.ef k) → (esOf dis)[k]? = some j := fun j k hj => by simpa [chkDI] using hchk j _ hj
  have cmk : ∀ (j r kap : Nat), dis[j]? = some (.mk r kap) → r < m ∧ (mksOf dis)[r]? = some j ∧ 1 ≤ kap ∧ kap ≤ (esOf dis).length + 1 ∧ j ∉ esOf dis ∧ ∀ (q e : Nat), (esOf dis)[q]? = some e → (mbit ms j e = true ↔ kap ≤ q + 1) := fun j r kap hj => by
    have := hchk j _ hj
    simp only [chkDI, Bool.and_eq_true, decide_eq_true_eq, beq_iff_eq, Bool.not_eq_true', List.all_eq_true] at this
    obtain ⟨⟨⟨⟨⟨h1, h2⟩, h3⟩, h4⟩, h5⟩, h6⟩ := this
    refine ⟨h1, h2, h3, h4, by simpa using h5, fun q e hq => ?_⟩
    have := h6 (e, q) (by rw [List.mem_zipIdx_iff_getElem?]; exact hq)
    simp only at this
    rw [this]; simp
  have crd : ∀ (j lo hi : Nat), dis[j]? = some (.rd lo hi) → j ∉ esOf dis ∧ lo ≤ (esOf dis).length ∧ hi ≤ (esOf dis).length ∧ ∀ (q e : Nat), (esOf dis)[q]? = some e → (mbit ms e j = true ↔ q < lo) ∧ (mbit ms j e = true ↔ hi ≤ q) := fun j lo hi hj => by
    have := hchk j _ hj
    simp only [chkDI, Bool.and_eq_true, decide_eq_true_eq, beq_iff_eq, Bool.not_eq_true', List.all_eq_true] at this
    obtain ⟨⟨⟨h5, h6⟩, h7⟩, h8⟩ := this
    refine ⟨by simpa using h5, h6, h7, fun q e hq => ?_⟩
    have := h8 (e, q) (by rw [List.mem_zipIdx_iff_getElem?]; exact hq)
    simp only at this
    rw [this.1, this.2]; simp
  obtain ⟨vF, tV, pF, e1, e2, e3, e4, e5, e6, _, e8⟩ := wdr_trace (P := P) (prim := prim) (ops := ops) (dis := dis) (n0 := H.n) (m := m) (K := (esOf dis).length) (a0 := a) (H := H) hlen (fun i i' r kap kap' h1 h2 => by
      have h1 := (cmk _ _ _ h1).2.1
      have h2 := (cmk _ _ _ h2).2.1
      rw [h1] at h2; exact Option.some.inj h2) (fun i r kap h => (cmk _ _ _ h).1) (fun i r kap j k h1 h2 hlt he => by
      have := ((cmk _ _ _ h1).2.2.2.2.2 k j (cef _ _ h2)).2 (by omega)
      have := (hbef _ _ this).lt hedge
      omega) (Q := Q) (ops.toList.zip dis) [] a (H.room m) [] [] [] rfl (Nat.zero_le _) rfl (fun q hq => by simp at hq) (by simp) hseq (fun x hx => by simp at hx) h
  simp only [List.nil_append, List.append_nil, List.length_nil, Nat.zero_le, true_implies] at e1 e2 e3 e4 e5 e6 e8
  let c : Cert := {
    val := fun j => vF.getD j .dead
    own := fun id => match pF.find? (fun p => p.1 == id) with | some p => (mksOf dis)[p.1 - H.n]? | none => none
    rid := fun i => match dis[i]? with | some (.mk r _) => H.n + r | _ => 0
    blk := fun i => match dis[i]? with | some (.mk r _) => (match pF.find? (fun p => p.1 == H.n + r) with | some p => p.2.2 | none => .dead) | _ => .dead
    kap := fun i => match dis[i]? with | some (.mk _ kap) => kap | _ => 0
    es := esOf dis
    V := fun k => (H.room m :: tV).getD k H
    bef := mbit ms }
  have ownI : ∀ id i, c.own id = some i → ∃ p r, p ∈ pF ∧ p.1 = id ∧ id = H.n + r ∧ dis[i]? = some (.mk r p.2.1) ∧ i < ops.size ∧ pF.find? (fun p => p.1 == id) = some p := fun id i ho => by
    simp only [c] at ho
    split at ho
    · rename_i p hf
      have hm := List.mem_of_find?_eq_some hf
      have hid : p.1 = id := by have := List.find?_some hf; simpa using this
      obtain ⟨i0, r, _, h2, h3, h4⟩ := e3 p hm
      rw [h4, Nat.add_sub_cancel_left, (cmk _ _ _ h3).2.1] at ho
      cases ho
      exact ⟨p, r, hm, hid, by omega, h3, h2, hf⟩
    · cases ho
  have ownO : ∀ p ∈ pF, ∀ i r kap, dis[i]? = some (.mk r kap) → p.1 = H.n + r → c.own (H.n + r) = some i ∧ kap = p.2.1 := fun p hm i r kap hd he => by
    obtain ⟨i0, r0, _, h2, h3, h4⟩ := e3 p hm
    have : r0 = r := by omega
    subst this
    have hi0 : i0 = i := by
      have h5 := (cmk _ _ _ h3).2.1
      rw [(cmk _ _ _ hd).2.1] at h5
      exact (Option.some.inj h5).symm
    subst hi0
    rw [hd] at h3
    simp only [Option.some.injEq, DI.mk.injEq] at h3
    refine ⟨?_, h3.2⟩
    have hf : pF.find? (fun q => q.1 == H.n + r0) = some p := by rw [← he]; exact find_of_mem e4 hm
    simp only [c, hf, he, Nat.add_sub_cancel_left, (cmk _ _ _ hd).2.1]
  have ownN : ∀ id, c.own id = none → ∀ p ∈ pF, p.1 ≠ id := fun id ho p hm he => by
    obtain ⟨i0, r0, _, h2, h3, h4⟩ := e3 p hm
    have := (ownO p hm i0 r0 _ h3 h4).1
    rw [← h4, he, ho] at this
    cases this
  have hblk : ∀ id i, c.own id = some i → ∃ p, p ∈ pF ∧ p.1 = id ∧ c.kap i = p.2.1 ∧ c.blk i = p.2.2 := fun id i ho => by
    obtain ⟨p, r, h1, h2, h3, h4, h5, h6⟩ := ownI id i ho
    rw [h3] at h6
    exact ⟨p, h1, h2, by simp only [c, h4], by simp only [c, h4, h6]⟩
  have hhin : ∀ k, c.hin k = inst (c.V k) k pF := fun k => by
    have hf : ∀ id, (c.hin k).f id = (inst (c.V k) k pF).f id := fun id => by
      simp only [Cert.hin]
      cases ho : c.own id with
      | none => exact (inst_f _ _ fun p hm _ => ownN id ho p hm).symm
      | some i =>
        obtain ⟨p, h1, h2, h3, h4⟩ := hblk id i ho
        simp only [h3, h4]
        rw [← h2, inst_at _ _ e4 h1]
    have hn := inst_n (c.V k) k pF
    show (⟨(c.V k).n, (c.hin k).f, (c.V k).lo⟩ : IH) = inst (c.V k) k pF
    rw [← hn.1, ← hn.2, show (c.hin k).f = (inst (c.V k) k pF).f from funext hf]
  have hcur : c.cur (fun _ => true) (esOf dis).length = inst (c.V (esOf dis).length) (esOf dis).length pF := by
    rw [← hhin]
    unfold Cert.cur Cert.hin
    congr 1
    funext id
    cases ho : c.own id with
    | none => rfl
    | some i =>
      obtain ⟨p, r, h1, h2, h3, h4, _, _⟩ := ownI id i ho
      have hkap : c.kap i ≤ (esOf dis).length + 1 := by simp only [c, h4]; exact (cmk _ _ _ h4).2.2.2.1
      simp only [true_and]
      by_cases hk : c.kap i = (esOf dis).length + 1
      · rw [if_pos hk, if_pos (by omega)]
      · rw [if_neg hk, if_neg (by omega)]
  have hnoown : ∀ (i : Nat) (d : DI), dis[i]? = some d → (∀ r kap, d ≠ .mk r kap) → ∀ id, c.own id ≠ some i := fun i d hd hne id ho => by
    obtain ⟨p, r, _, _, _, h4, _, _⟩ := ownI id i ho
    rw [hd] at h4
    exact hne _ _ (Option.some.inj h4)
  have hv0 : c.V 0 = H.room m := rfl
  have cert : CertOK P ops c a H (ICall P prim) := by
    refine ⟨hedge, hbef, chainOK_get hchain, fun q e hq => hesz e (List.mem_of_getElem? hq), fun i j o t hij ho ht hj => ?_, by rw [hv0]; exact Nat.le_add_right _ _, fun i hi => ?_, fun i h1 h2 => ?_, rfl, fun id i ho => ?_, fun i o ho => ?_⟩
    · have hjo : ∃ oj, ops[j]? = some oj ∧ oj.dst = some t := by
        cases hoj : ops[j]? with
        | none => rw [hoj] at hj; cases hj
        | some oj => exact ⟨oj, rfl, by rw [hoj] at hj; exact hj⟩
      obtain ⟨oj, hoj, hdj⟩ := hjo
      have h1 := htmps
      simp only [tmpsOK, List.all_eq_true] at h1
      have h2 := h1 ((names ops oj ++ oj.dst.toList, oj.dst), j) (by rw [List.mem_zipIdx_iff_getElem?]; simp [useOf, hoj])
      simp only [hdj, List.all_eq_true] at h2
      have h3 := h2 ((names ops o ++ o.dst.toList, o.dst), i) (by rw [List.mem_zipIdx_iff_getElem?]; simp [useOf, ho])
      have hc : (names ops o ++ o.dst.toList).contains t = true := by
        rw [List.contains_iff_mem, List.mem_append]
        rcases ht with ht | ht
        · exact .inl ht
        · exact .inr (by rw [ht]; simp)
      simp only [hc, Bool.not_true, Bool.or_false, Bool.or_eq_true, beq_iff_eq] at h3
      rcases h3 with (h3 | h3) | h3
      · exact absurd h3 hij
      · exact .inl h3
      · exact .inr h3
    · rw [hv0]; simp only [IH.room]; rw [if_neg (by omega)]
    · rw [hv0] at h2 ⊢; simp only [IH.room] at h2 ⊢; rw [if_pos ⟨h1, h2⟩]
    · obtain ⟨p, r, _, _, h3, h4, h5, _⟩ := ownI id i ho
      have := (cmk _ _ _ h4).1
      rw [hv0]
      simp only [IH.room]
      exact ⟨by omega, by omega, h5⟩
    · have hi := (Array.getElem?_eq_some_iff.1 ho).1
      have hd : dis[i]? = some dis[i] := List.getElem?_eq_getElem (by omega)
      generalize dis[i] = d at hd
      have hfact := e6 i o d ho hd
      cases d with
      | rd lo hi =>
        obtain ⟨h1, h2, h3, h4⟩ := crd i lo hi hd
        rcases hfact with ⟨f1, f2⟩ | ⟨f1, f2, f3⟩
        · exact .idle f1 f2 h1 (hnoown i _ hd fun _ _ => by simp)
        · refine .read f1 h1 (hnoown i _ hd fun _ _ => by simp) (fun r hr => ?_) fun k hk hb => f3 k ?_ ?_ ?_
          · cases ho2 : c.own r with
            | none => rfl
            | some i' =>
              obtain ⟨p, r', _, _, g3, g4, _, _⟩ := ownI r i' ho2
              have := (cmk _ _ _ g4).1
              rcases f2 r hr with h | h | h <;> omega
          · cases lo with
            | zero => exact Nat.zero_le _
            | succ lo =>
              have hq : (esOf dis)[lo]? = some (esOf dis)[lo] := List.getElem?_eq_getElem (by omega)
              have := (hb lo _ hq).1 ((h4 lo _ hq).1.2 (by omega))
              omega
          · rcases Nat.lt_or_ge hi (esOf dis).length with hlt | hge
            · have hq : (esOf dis)[hi]? = some (esOf dis)[hi] := List.getElem?_eq_getElem hlt
              exact (hb hi _ hq).2 ((h4 hi _ hq).2.2 (Nat.le_refl _))
            · have : k ≤ (esOf dis).length := hk
              omega
          · have : k ≤ (esOf dis).length := hk
            simp; omega
      | mk r kap =>
        obtain ⟨h1, h2, h3, h4, h5, h6⟩ := cmk i r kap hd
        rcases hfact with ⟨f1, f2, f3⟩ | ⟨f1, ib, mk, f2, f3, f4⟩
        · refine .idle f1 f2 h5 fun id ho2 => ?_
          obtain ⟨p, r', g1, g2, g3, g4, _, _⟩ := ownI id i ho2
          rw [hd] at g4
          simp only [Option.some.injEq, DI.mk.injEq] at g4
          exact f3 p g1 (by omega)
        · have hrid : c.rid i = H.n + r := by simp only [c, hd]
          have hkap : c.kap i = kap := by simp only [c, hd]
          have hb : c.blk i = ib := by
            have hf := find_of_mem e4 f4
            simp only at hf
            simp only [c, hd, hf]
          refine .make mk f1 h5 (by rw [hb]; exact f2) (by rw [hrid]; exact f3) (by rw [hrid]; exact (ownO _ f4 i r kap hd rfl).1) (fun id ho2 => ?_) (by rw [hkap]; exact h3) (fun q e hq => by rw [hkap]; exact h6 q e hq) (by rw [hkap]; exact h4)
          obtain ⟨p, r', g1, g2, g3, g4, _, _⟩ := ownI id i ho2
          rw [hd] at g4
          simp only [Option.some.injEq, DI.mk.injEq] at g4
          rw [hrid]; omega
      | ef k =>
        have hek := cef i k hd
        have hno := hnoown i _ hd fun _ _ => by simp
        rcases hfact with ⟨f1, f2, f3⟩ | ⟨f1, f2⟩ | ⟨f1, f, args, f2, f3⟩
        · exact .nop k f1 hno hek f2 (by rw [hhin]; exact f3)
        · exact .eff k f1 hno hek (by rw [hhin]; exact f2)
        · exact .call k f args f1 hno hek f2 (by rw [hhin]; exact f3)
  refine ⟨_, _, .draw id ops c a H (ICall P prim) cert fun _ _ _ _ _ h => h, ?_⟩
  have : c.es.length = (esOf dis).length := rfl
  rw [this, hcur]
  exact e8
end sound
end Go.Proofs.Ytnapimfiikgaiaa.Eng
