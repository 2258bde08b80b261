/- The ideal machine, part 13: a region that draws its order. Nothing here is a claim of its own. -/
import Derived.Test.YtnapimfiikgaiaaEng12
namespace Go.Proofs.Ytnapimfiikgaiaa.Eng
open Go.RowKit
set_option linter.unusedSimpArgs false
set_option linter.unusedVariables false

theorem MR.mono' {env env' : Env} {N N' : Nat} (he : EnvOn N env env') (hN : N ≤ N') : ∀ {l : List (IV × IV)} {r : List MapEntry}, MR env N l r → MR env' N' l r
  | _, _, .nil => .nil
  | _, _, .cons _ _ _ _ _ hk hv hs => .cons _ _ _ _ _ (hk.mono' he hN) (hv.mono' he hN) (MR.mono' he hN hs)
theorem Cells.keep' {env env' : Env} {N N' : Nat} {w w' : World} {p : Pl} {es : List (List IV)} (h : Cells env N w p es) (he : EnvOn N env env') (hN : N ≤ N')
    (hb : w'.heap[p.b]? = w.heap[p.b]?) : Cells env' N' w' p es :=
  ⟨h.1, fun k e hk j v hj => let ⟨x, hx, hv⟩ := h.2 k e hk j v hj; ⟨x, by rw [World.cell?_of_block (w := w) hb]; exact hx, hv.mono' he hN⟩⟩
theorem BR.keep' {base : Nat} {env env' : Env} {N N' : Nat} {w w' : World} {p : Pl} {ib : IB} (h : BR base env N w p ib) (he : EnvOn N env env') (hN : N ≤ N')
    (hb : w'.heap[p.b]? = w.heap[p.b]?) : BR base env' N' w' p ib := by
  cases ib with
  | dead => trivial
  | cells own s es =>
    cases own with
    | true =>
      obtain ⟨h1, h2, h3, h4⟩ := h
      exact ⟨h1, h2.keep' he hN hb, h3, by unfold OwnRow at *; rw [hb]; exact h4⟩
    | false =>
      obtain ⟨h1, h2, arr, h3⟩ := h
      exact ⟨h1, h2.keep' he hN hb, arr, he.le _ _ h3⟩
  | map es =>
    obtain ⟨h1, ents, clock, h2, h3⟩ := h
    exact ⟨h1, ents, clock, by rw [hb]; exact h2, h3.mono' he hN⟩

/-- A new block of the model is what an ideal block says. -/
theorem NewOK.br {base : Nat} {env env' : Env} {N : Nat} {w : World} {ob : Obj} {p : Pl} {ib : IB} (h : NewOK env N w ob p ib) (hb : base ≤ w.heap.size) (he : EnvOn N env env') :
    BR base env' N { w with heap := w.heap.push ob } p ib ∧ p.b = w.heap.size := by
  cases ib with
  | dead => exact h.elim
  | map es =>
    obtain ⟨rfl, rfl, rfl⟩ := h
    exact ⟨⟨hb, #[], 0, by simp, .nil⟩, rfl⟩
  | cells own s es =>
    cases own with
    | false => exact h.elim
    | true =>
      obtain ⟨arr, ty, rfl, rfl, h1, h2, h3⟩ := h
      have hnew : (w.heap.push (Obj.cells arr ty (0, 0)))[w.heap.size]? = some (.cells arr ty (0, 0)) := by simp
      refine ⟨⟨rfl, ⟨h1, fun k e hk j v hj => ?_⟩, hb, arr, ty, 0, 0, hnew, Nat.le_refl _, by simpa using h2, fun o _ => by omega⟩, rfl⟩
      obtain ⟨x, hx, hv⟩ := h3 k e hk j v hj
      refine ⟨x, ?_, hv.mono' he (Nat.le_refl _)⟩
      simp only [World.cell?, hnew]
      simpa using hx

theorem NewOK.owned {env : Env} {N : Nat} {w : World} {ob : Obj} {p : Pl} {ib : IB} (h : NewOK env N w ob p ib) : ib ≠ .dead := by
  intro e; subst e; exact h.elim

theorem Sim.revive {base : Nat} {env0 env : Env} {H S : IH} {w0 w : World} (h0 : Sim base env0 H w0 env S w) {r : Nat} (hr : H.n ≤ r) (hr2 : r < S.n) (hd : S.f r = .dead) (hoff : (env r).on = false)
    {ob : Obj} {p : Pl} {ib : IB} (hn : NewOK env S.n w ob p ib) :
    Sim base env0 H w0 ⟨fun i => if i = r then p else env i, env.fz⟩ ⟨S.n, fun i => if i = r then ib else S.f i, S.lo⟩ { w with heap := w.heap.push ob } := by
  have he : EnvOn S.n env ⟨fun i => if i = r then p else env i, env.fz⟩ := ⟨fun i _ hi => by
    have : i ≠ r := fun e => by subst e; rw [hoff] at hi; cases hi
    show (if i = r then p else env i) = env i
    simp [this], Env.le_refl _⟩
  obtain ⟨hbr, hpb⟩ := hn.br h0.sr.bs he
  have hsame : ∀ b, b < w.heap.size → (w.heap.push ob)[b]? = w.heap[b]? := fun b hb => by rw [Array.getElem?_push, if_neg (by omega)]
  have hown : ∀ i, i ≠ r → (Owned (⟨S.n, fun i => if i = r then ib else S.f i, S.lo⟩ : IH) i ↔ Owned S i) := fun i hi => Owned.of_f (by simp [hi])
  have hfr : ∀ b arr, env.fz b = some arr → b < w.heap.size := fun b arr hb => h0.sr.frz_lt hb
  refine ⟨⟨?_, fun i hi => ?_, fun i j hi hj hij h1 h2 => ?_, fun b arr hb => ⟨let ⟨ty, fr, e⟩ := (h0.sr.frz b arr hb).1; ⟨ty, fr, (hsame b (hfr b arr hb)).trans e⟩, fun i hi ho => ?_⟩⟩, ⟨fun i hi => ?_, h0.envEq.le⟩, h0.nle, h0.lole, ?_, h0.os, h0.tape, h0.output, ?_, ?_, ?_, ?_, fun b arr hb => h0.fprov b arr hb⟩
  · have := h0.sr.bs; simp; omega
  · by_cases e : i = r
    · subst e; simpa using hbr
    · simp only [e, if_false]
      have hb := h0.sr.blk i hi
      by_cases hdi : S.f i = .dead
      · rw [hdi]; trivial
      · exact hb.keep' he (Nat.le_refl _) (hsame _ (SR.bound_any h0.sr hi hdi))
  · by_cases e : i = r
    · subst e
      have hj' := (hown j (Ne.symm hij)).1 h2
      have := (BR.bound h0.sr hj hj').2
      simp only [if_true, if_neg (Ne.symm hij), hpb]; omega
    · have hi' := (hown i e).1 h1
      have hb1 := (BR.bound h0.sr hi hi').2
      by_cases e2 : j = r
      · subst e2; simp only [if_true, if_neg e, hpb]; omega
      · simp only [if_neg e, if_neg e2]
        exact h0.sr.dis i j hi hj hij hi' ((hown j e2).1 h2)
  · have hb2 := hfr b arr hb
    show (if i = r then p else env i).b ≠ b
    by_cases e : i = r
    · rw [if_pos e, hpb]; omega
    · rw [if_neg e]; exact (h0.sr.frz b arr hb).2 i hi ((hown i e).1 ho)
  · have : i ≠ r := by omega
    show (if i = r then p else env i) = env0 i
    simp only [this, if_false]; exact h0.envEq i hi
  · have := h0.size; simp; omega
  · intro b hb hall
    exact (hsame b (by have := h0.size; omega)).trans (h0.frame b hb hall)
  · intro j hj hoj
    by_cases e : j = r
    · subst e; refine .inr (.inl ?_); simp only [if_true, hpb]; exact h0.size
    · simp only [if_neg e]; exact h0.prov j hj ((hown j e).1 hoj)
  · intro j hj hdj
    have : j ≠ r := by omega
    simp only [this, if_false]; exact h0.deadst j hj hdj
  · intro j hj hl
    have : j ≠ r := by omega
    simp only [this, if_false]; exact h0.keepf j hj hl

/-! #### frames and guards -/
def iput (a : List IV) : Option Tmp → IV → List IV
  | some d, v => a.set d v
  | none, _ => a

def iwanted (ops : Array Oper) (o : Oper) (a : List IV) : Option Bool :=
  match o.guard with
  | none => some true
  | some (j, want) => match (ops[j]?).bind (·.dst) with
    | none => some false
    | some d => match a[d]? with
      | some (.bool b) => some (b == want)
      | some .dead => none
      | _ => some false

theorem iput_AR {env : Env} {N : Nat} {a : List IV} {act : Act} (h : AR env N a act) (d : Option Tmp) {v : IV} {x : Value} (hv : VR env N v x) : AR env N (iput a d v) (act.put d x) := by
  cases d with
  | none => exact h
  | some d => exact h.put d hv

theorem AR.mono {env env' : Env} {N N' : Nat} (he : EnvOn N env env') (hN : N ≤ N') {a : List IV} {act : Act} (h : AR env N a act) : AR env' N' a act := ⟨h.1.mono' he hN, h.2⟩

theorem wanted_sound {env : Env} {N : Nat} {a : List IV} {act : Act} (h : AR env N a act) {ops : Array Oper} {o : Oper} {b : Bool} (hw : iwanted ops o a = some b) : Region.wanted o (yielded ops act.tmps) = b := by
  unfold iwanted at hw
  unfold Region.wanted
  split at hw
  · rename_i hg; cases hw; rw [hg]
  · rename_i j want hg
    rw [hg]
    simp only [yielded]
    split at hw
    · rename_i hd; cases hw; rw [hd]; rfl
    · rename_i d hd
      rw [hd]
      simp only [Option.bind_some]
      have hget : ∀ v, a[d]? = some v → ∃ x, act.tmps[d]? = some x ∧ VR env N v x := fun v hv => by
        obtain ⟨x, hx, hvr⟩ := h.1.get d v hv
        exact ⟨x, by simpa using hx, hvr⟩
      cases hv : a[d]? with
      | none =>
        rw [hv] at hw; cases hw
        have : act.tmps[d]? = none := by
          have hl := h.1.length
          have h1 := List.getElem?_eq_none_iff.1 hv
          simp at hl; simp; omega
        simp only [this]; rfl
      | some v =>
        obtain ⟨x, hx, hvr⟩ := hget v hv
        rw [hv] at hw
        rw [hx]
        cases hvr <;> simp only [reduceCtorEq, Option.some.injEq] at hw <;> (subst hw) <;> first | rfl | skip

/-! #### what stands ahead of what -/
inductive Before (ops : Array Oper) : Nat → Nat → Prop
  | edge (j : Nat) (o : Oper) (e : Edge) (ho : ops[j]? = some o) (he : e ∈ o.after) (hb : Region.binds .any e = true) : Before ops e.on j
  | trans (i k j : Nat) (h1 : Before ops i k) (h2 : Before ops k j) : Before ops i j

def Closed (ops : Array Oper) (L : Array Bool) : Prop := ∀ j o, ops[j]? = some o → L.getD j false = true → ∀ e ∈ o.after, Region.binds .any e = true → L.getD e.on false = true

theorem Closed.before {ops : Array Oper} {L : Array Bool} (h : Closed ops L) {i j : Nat} (hb : Before ops i j) : L.getD j false = true → L.getD i false = true := by
  induction hb with
  | edge j o e ho he hbd => intro hj; exact h j o ho hj e he hbd
  | trans i k j _ _ ih1 ih2 => intro hj; exact ih1 (ih2 hj)
theorem ready_before {ops : Array Oper} {L : Array Bool} (h : Closed ops L) {i j : Nat} (hb : Before ops i j) (hr : j ∈ Region.ready .any ops L) : L.getD i false = true := by
  induction hb with
  | edge j o e ho he hbd =>
    obtain ⟨_, o', ho', hall⟩ := mem_ready.1 hr
    rw [ho] at ho'; cases ho'
    exact hall e he hbd
  | trans i k j h1 _ ih1 ih2 => exact h.before h1 (ih2 hr)

/-- All edges that bind lead back. -/
def edgesBack (ops : Array Oper) : Bool := (List.range ops.size).all fun j => match ops[j]? with
  | some o => o.after.toList.all fun e => !Region.binds .any e || decide (e.on < j)
  | none => true
theorem Before.lt {ops : Array Oper} (h : edgesBack ops = true) {i j : Nat} (hb : Before ops i j) : i < j := by
  induction hb with
  | edge j o e ho he hbd =>
    have hj : j < ops.size := (Array.getElem?_eq_some_iff.1 ho).1
    have h1 := List.all_eq_true.1 h j (List.mem_range.2 hj)
    simp only [ho] at h1
    have h2 := List.all_eq_true.1 h1 e (by simpa using he)
    simpa [hbd] using h2
  | trans i k j _ _ ih1 ih2 => omega

/-- The frame behind the operations of D, in the order of the text. -/
def frD (ops : Array Oper) (val : Nat → IV) (a0 : List IV) (D : Nat → Bool) : Nat → List IV
  | 0 => a0
  | i + 1 => if D i then iput (frD ops val a0 D i) ((ops[i]?).bind (·.dst)) (val i) else frD ops val a0 D i

theorem frD_length (ops : Array Oper) (val : Nat → IV) (a0 : List IV) (D : Nat → Bool) : ∀ i, (frD ops val a0 D i).length = a0.length
  | 0 => rfl
  | i + 1 => by
    simp only [frD]
    split
    · cases h : (ops[i]?).bind (·.dst) <;> simp [iput, frD_length]
    · exact frD_length ops val a0 D i
theorem frD_get (ops : Array Oper) (val : Nat → IV) (a0 : List IV) {D D' : Nat → Bool} {t : Tmp} : ∀ (n : Nat), (∀ j, j < n → (ops[j]?).bind (·.dst) = some t → D j = D' j) → (frD ops val a0 D n)[t]? = (frD ops val a0 D' n)[t]?
  | 0, _ => rfl
  | i + 1, h => by
    have ih := frD_get ops val a0 (D := D) (D' := D') (t := t) i fun j hj => h j (by omega)
    simp only [frD]
    cases hd : (ops[i]?).bind (·.dst) with
    | none =>
      have : ∀ (a : List IV) (v : IV), iput a none v = a := fun _ _ => rfl
      simp only [this]
      split <;> split <;> exact ih
    | some d =>
      by_cases e : d = t
      · subst e
        have he := h i (by omega) hd
        rw [he]
        split
        · simp only [iput]
          rcases Nat.lt_or_ge d a0.length with hl | hl
          · rw [List.getElem?_set_self (by rw [frD_length]; exact hl), List.getElem?_set_self (by rw [frD_length]; exact hl)]
          · have hn1 : ∀ (D : Nat → Bool), ((frD ops val a0 D i).set d (val i))[d]? = none := fun D => List.getElem?_eq_none (by rw [List.length_set, frD_length]; omega)
            rw [hn1, hn1]
        · exact ih
      · have : ∀ (a : List IV) (v : IV), (iput a (some d) v)[t]? = a[t]? := fun a v => by simp [iput, List.getElem?_set_ne e]
        split <;> split <;> (try simp only [this]) <;> exact ih

/-- An operation's turn: the frame of D and of what stands ahead of it in D. -/
theorem frD_put (ops : Array Oper) (val : Nat → IV) (a0 : List IV) {D : Nat → Bool} {i : Nat} (hDi : D i = false) {n : Nat} (hi : i < n) (hl : ∀ d, (ops[i]?).bind (·.dst) = some d → ∀ j, i < j → j < n → (ops[j]?).bind (·.dst) = some d → D j = false) :
    frD ops val a0 (fun j => D j || j == i) n = iput (frD ops val a0 D n) ((ops[i]?).bind (·.dst)) (val i) := by
  have hlow : ∀ m, m ≤ i → frD ops val a0 (fun j => D j || j == i) m = frD ops val a0 D m := by
    intro m
    induction m with
    | zero => intro _; rfl
    | succ m ih =>
      intro hm
      have hne : (m == i) = false := by simp; omega
      simp only [frD, hne, Bool.or_false, ih (by omega)]
  induction n with
  | zero => omega
  | succ n ih =>
    by_cases hn : i = n
    · subst hn
      simp only [frD, hDi, beq_self_eq_true, Bool.or_true, if_true, hlow i (Nat.le_refl _), Bool.false_eq_true, if_false]
    · have hne : (n == i) = false := by simp; omega
      have ih' := ih (by omega) fun d hd j h1 h2 => hl d hd j h1 (by omega)
      simp only [frD, hne, Bool.or_false, ih']
      cases hdi : (ops[i]?).bind (·.dst) with
      | none => simp only [iput]
      | some d =>
        split
        · rename_i hDn
          cases hdn : (ops[n]?).bind (·.dst) with
          | none => simp only [iput]
          | some d' =>
            have hdd : d ≠ d' := fun e => by
              subst e
              have := hl d hdi n (by omega) (by omega) hdn
              rw [this] at hDn; cases hDn
            simp only [iput]
            rw [List.set_comm _ _ hdd]
        · rfl

end Go.Proofs.Ytnapimfiikgaiaa.Eng
