/- The ideal machine, part 14: a region that draws its order, by a certificate. Nothing here is a claim of its own. -/
import Derived.Test.YtnapimfiikgaiaaEng13
namespace Go.Proofs.Ytnapimfiikgaiaa.Eng
open Go.RowKit
set_option linter.unusedSimpArgs false
set_option linter.unusedVariables false

structure Cert where
  val : Nat → IV
  own : Nat → Option Nat
  rid : Nat → Nat
  blk : Nat → IB
  kap : Nat → Nat
  es : List Nat
  V : Nat → IH
  bef : Nat → Nat → Bool

def Cert.hin (c : Cert) (k : Nat) : IH := ⟨(c.V k).n, fun id => match c.own id with
  | some i => if c.kap i = k + 1 then c.blk i else (c.V k).f id
  | none => (c.V k).f id, (c.V k).lo⟩
def Cert.cur (c : Cert) (L : Nat → Bool) (k : Nat) : IH := ⟨(c.V k).n, fun id => match c.own id with
  | some i => if L i = true ∧ k < c.kap i then c.blk i else (c.V k).f id
  | none => (c.V k).f id, (c.V k).lo⟩

def names (ops : Array Oper) (o : Oper) : List Tmp :=
  o.op.operands.toList.filterMap (fun | .tmp t => some t | _ => none) ++ (match o.guard with
    | some (j, _) => ((ops[j]?).bind (·.dst)).toList
    | none => [])

abbrev CallRel := FuncId → List IV → IH → IV → IH → Prop

def frT (ops : Array Oper) (c : Cert) (a0 : List IV) (i : Nat) : List IV := frD ops c.val a0 (fun _ => true) i

inductive OpOK (P : Program) (ops : Array Oper) (c : Cert) (a0 : List IV) (CR : CallRel) (i : Nat) (o : Oper) : Prop
  | idle (hw : iwanted ops o (frT ops c a0 i) = some false) (hv : c.val i = .tup []) (he : i ∉ c.es) (ho : ∀ id, c.own id ≠ some i) : OpOK P ops c a0 CR i o
  | read (hw : iwanted ops o (frT ops c a0 i) = some true) (he : i ∉ c.es) (ho : ∀ id, c.own id ≠ some i) (hr : ∀ r, Eng.rid (ev (frT ops c a0 i)) o.op = some r → c.own r = none)
      (hs : ∀ k, k ≤ c.es.length → (∀ q e, c.es[q]? = some e → (c.bef e i = true → q < k) ∧ (c.bef i e = true → k ≤ q)) → stepR P (ev (frT ops c a0 i)) (c.V k) o.op = some (c.val i)) : OpOK P ops c a0 CR i o
  | make (mk : Nat → IV) (hw : iwanted ops o (frT ops c a0 i) = some true) (he : i ∉ c.es) (hs : stepA P (ev (frT ops c a0 i)) o.op = some (c.blk i, mk)) (hv : c.val i = mk (c.rid i)) (ho : c.own (c.rid i) = some i) (hu : ∀ id, c.own id = some i → id = c.rid i)
      (hk : 1 ≤ c.kap i) (hb : ∀ q e, c.es[q]? = some e → (c.bef i e = true ↔ c.kap i ≤ q + 1)) (hkm : c.kap i ≤ c.es.length + 1) : OpOK P ops c a0 CR i o
  | eff (k : Nat) (hw : iwanted ops o (frT ops c a0 i) = some true) (ho : ∀ id, c.own id ≠ some i) (he : c.es[k]? = some i) (hs : stepE P (ev (frT ops c a0 i)) (c.hin k) o.op = some (c.val i, c.V (k + 1))) : OpOK P ops c a0 CR i o
  | nop (k : Nat) (hw : iwanted ops o (frT ops c a0 i) = some false) (ho : ∀ id, c.own id ≠ some i) (he : c.es[k]? = some i) (hv : c.val i = .tup []) (hV : c.V (k + 1) = c.hin k) : OpOK P ops c a0 CR i o
  | call (k : Nat) (f : FuncId) (args : List IV) (hw : iwanted ops o (frT ops c a0 i) = some true) (ho : ∀ id, c.own id ≠ some i) (he : c.es[k]? = some i) (hs : stepC (ev (frT ops c a0 i)) o.op = some (f, args)) (hc : CR f args (c.hin k) (c.val i) (c.V (k + 1))) : OpOK P ops c a0 CR i o

structure CertOK (P : Program) (ops : Array Oper) (c : Cert) (a0 : List IV) (H : IH) (CR : CallRel) : Prop where
  edges : edgesBack ops = true
  bef : ∀ i j, c.bef i j = true → Before ops i j
  chain : ∀ (q q' e e' : Nat), q < q' → c.es[q]? = some e → c.es[q']? = some e' → c.bef e e' = true
  esz : ∀ (q e : Nat), c.es[q]? = some e → e < ops.size
  tmps : ∀ (i j : Nat) (o : Oper) (t : Tmp), i ≠ j → ops[i]? = some o → (t ∈ names ops o ∨ o.dst = some t) → (ops[j]?).bind (·.dst) = some t → c.bef i j = true ∨ c.bef j i = true
  v0n : H.n ≤ (c.V 0).n
  v0f : ∀ i, i < H.n → (c.V 0).f i = H.f i
  v0d : ∀ i, H.n ≤ i → i < (c.V 0).n → (c.V 0).f i = .dead
  v0lo : (c.V 0).lo = H.lo
  ownr : ∀ id i, c.own id = some i → H.n ≤ id ∧ id < (c.V 0).n ∧ i < ops.size
  ops : ∀ i o, ops[i]? = some o → OpOK P ops c a0 CR i o

def CallSound (P : Program) (base : Nat) (f : FuncId) (args : List IV) (H : IH) (v : IV) (H' : IH) : Prop :=
  (∃ fn, P.funcs[f]? = some fn ∧ fn.body.isSome = true ∧ (fn.name == "runtime.NumGoroutine") = false) ∧
  ∀ env w xs, SR base env H w → VRs env H.n args xs → Calls P f xs.toArray w fun e w' => ∃ x env', e = .returned x ∧ Sim base env H w env' H' w' ∧ VR env' H'.n v x

theorem frD_congr (ops : Array Oper) (val : Nat → IV) (a0 : List IV) {D D' : Nat → Bool} : ∀ n, (∀ j, j < n → D j = D' j) → frD ops val a0 D n = frD ops val a0 D' n
  | 0, _ => rfl
  | n + 1, h => by simp only [frD]; rw [h n (by omega), frD_congr ops val a0 n fun j hj => h j (by omega)]
theorem frD_cut (ops : Array Oper) (val : Nat → IV) (a0 : List IV) (i : Nat) : ∀ n, i ≤ n → frD ops val a0 (fun j => decide (j < i)) n = frD ops val a0 (fun _ => true) i
  | 0, h => by have : i = 0 := by omega
               subst this; rfl
  | n + 1, h => by
    by_cases e : i = n + 1
    · subst e; exact frD_congr ops val a0 _ fun j hj => by simp [hj]
    · have hd : decide (n < i) = false := by simp; omega
      simp only [frD, hd, Bool.false_eq_true, if_false]
      exact frD_cut ops val a0 i n (by omega)

theorem ev_congr {a a' : List IV} {x : Operand} (h : ∀ t, x = .tmp t → a[t]? = a'[t]?) : ev a x = ev a' x := by
  cases x with
  | tmp t => simp only [ev, List.getD]; rw [h t rfl]
  | _ => rfl

section sound
variable {P : Program} {base : Nat} {env : Env} {H : IH} {w0 : World} {ops : Array Oper} {c : Cert} {a0 : List IV} {CR : CallRel}

/-- What holds behind some operations of the region. -/
structure Inv (P : Program) (base : Nat) (env : Env) (H : IH) (w0 : World) (ops : Array Oper) (c : Cert) (a0 : List IV) (L : Array Bool) (act : Act) (w : World) (k : Nat) (env1 : Env) : Prop where
  size : L.size = ops.size
  closed : Closed ops L
  kle : k ≤ c.es.length
  ke : ∀ q e, c.es[q]? = some e → (L.getD e false = true ↔ q < k)
  sim : Sim base env H w0 env1 (c.cur (L.getD · false) k) w
  fr : AR env1 (c.V k).n (frD ops c.val a0 (L.getD · false) ops.size) act
  off : ∀ id i, c.own id = some i → L.getD i false = false → (env1 id).on = false
  dead : ∀ id i, c.own id = some i → k < c.kap i → (c.V k).f id = .dead
  vn : (c.V 0).n ≤ (c.V k).n

theorem unl {L : Array Bool} {i : Nat} (h : L.getD i true = false) : L.getD i false = false := by
  rcases Nat.lt_or_ge i L.size with h' | h'
  · simp [h'] at h ⊢; exact h
  · simp [Array.getElem?_eq_none h'] at h

theorem getD_set {L : Array Bool} {i j : Nat} (hi : i < L.size) : (L.setIfInBounds i true).getD j false = (L.getD j false || j == i) := by
  simp only [Array.getD_eq_getD_getElem?, Array.getElem?_setIfInBounds]
  by_cases e : i = j
  · subst e; simp [hi]
  · have : (j == i) = false := by simp; exact fun h => e h.symm
    simp [e, this]

theorem Inv.frame (hc : CertOK P ops c a0 H CR) {L : Array Bool} {act : Act} {w : World} {k : Nat} {env1 : Env} (inv : Inv P base env H w0 ops c a0 L act w k env1) {i : Nat} (hr : i ∈ Region.ready .any ops L) {o : Oper} (ho : ops[i]? = some o) {t : Tmp} (ht : t ∈ names ops o ∨ o.dst = some t) :
    (frD ops c.val a0 (L.getD · false) ops.size)[t]? = (frT ops c a0 i)[t]? := by
  have hi : i < ops.size := (Array.getElem?_eq_some_iff.1 ho).1
  obtain ⟨hun, _⟩ := mem_ready.1 hr
  have hun' : L.getD i false = false := unl hun
  unfold frT
  rw [← frD_cut ops c.val a0 i ops.size (by omega)]
  refine frD_get ops c.val a0 _ fun j hj hd => ?_
  by_cases e : i = j
  · subst e; rw [hun']; simp
  · rcases hc.tmps i j o t e ho ht hd with h | h
    · have hb := hc.bef _ _ h
      have hlt := hb.lt hc.edges
      have : L.getD j false = false := by
        cases hq : L.getD j false with
        | false => rfl
        | true => have := inv.closed.before hb hq; rw [hun'] at this; cases this
      rw [this]; simp; omega
    · have hb := hc.bef _ _ h
      have hlt := hb.lt hc.edges
      rw [ready_before inv.closed hb hr]; simp; omega

/-- The turn of an operation, for frame and listing. -/
theorem Inv.next (hc : CertOK P ops c a0 H CR) {L : Array Bool} {act : Act} {w : World} {k : Nat} {env1 : Env} (inv : Inv P base env H w0 ops c a0 L act w k env1) {i : Nat} (hr : i ∈ Region.ready .any ops L) {o : Oper} (ho : ops[i]? = some o)
    {k' : Nat} {w' : World} {env2 : Env} {x : Value} (he : EnvOn (c.V k).n env1 env2) (hkn : (c.V k).n ≤ (c.V k').n) (hx : VR env2 (c.V k').n (c.val i) x)
    (hsim : Sim base env H w0 env2 (c.cur (fun j => L.getD j false || j == i) k') w') (hkle : k' ≤ c.es.length) (hke : ∀ q e, c.es[q]? = some e → ((L.getD e false || e == i) = true ↔ q < k'))
    (hoff : ∀ id i', c.own id = some i' → (L.getD i' false || i' == i) = false → (env2 id).on = false) (hdead : ∀ id i', c.own id = some i' → k' < c.kap i' → (c.V k').f id = .dead) :
    Inv P base env H w0 ops c a0 (L.setIfInBounds i true) (act.put o.dst x) w' k' env2 := by
  have hi : i < ops.size := (Array.getElem?_eq_some_iff.1 ho).1
  obtain ⟨hun, oi, hoi, hall⟩ := mem_ready.1 hr
  rw [ho] at hoi; cases hoi
  have hun' : L.getD i false = false := unl hun
  have hL : ∀ j, (L.setIfInBounds i true).getD j false = (L.getD j false || j == i) := fun j => getD_set (by rw [inv.size]; exact hi)
  have hLf : (fun j => (L.setIfInBounds i true).getD j false) = fun j => L.getD j false || j == i := funext hL
  have hfr : frD ops c.val a0 (fun j => L.getD j false || j == i) ops.size = iput (frD ops c.val a0 (L.getD · false) ops.size) o.dst (c.val i) := by
    have := frD_put ops c.val a0 (D := (L.getD · false)) (i := i) hun' hi fun d hd j hij hj hdj => by
      have hod : o.dst = some d := by rw [ho] at hd; exact hd
      rcases hc.tmps i j o d (by omega) ho (.inr hod) hdj with h | h
      · have hb := hc.bef _ _ h
        cases hq : L.getD j false with
        | false => rfl
        | true => have := inv.closed.before hb hq; rw [hun'] at this; cases this
      · have := (hc.bef _ _ h).lt hc.edges; omega
    rw [this, ho]; rfl
  refine ⟨by simp [inv.size], fun j oj hj hlj e he' hb => ?_, hkle, fun q e hq => by rw [hL]; exact hke q e hq, by rw [hLf]; exact hsim, ?_, fun id i' h1 h2 => hoff id i' h1 (by rw [← hL]; exact h2), hdead, Nat.le_trans inv.vn hkn⟩
  · rw [hL] at hlj ⊢
    by_cases hji : j = i
    · subst hji
      rw [ho] at hj; cases hj
      rw [hall e he' hb]; rfl
    · have : (j == i) = false := by simp [hji]
      rw [this, Bool.or_false] at hlj
      rw [inv.closed j oj hj hlj e he' hb]; rfl
  · rw [hLf, hfr]
    exact iput_AR (inv.fr.mono he hkn) o.dst hx

theorem draw_step (hc : CertOK P ops c a0 H CR) (hCR : ∀ f args H1 v H2, CR f args H1 v H2 → CallSound P base f args H1 v H2) {Q : Exit → Act → World → Prop} {L : Array Bool} {act : Act} {w : World} {k : Nat} {env1 : Env} (inv : Inv P base env H w0 ops c a0 L act w k env1)
    {i : Nat} (hr : i ∈ Region.ready .any ops L) {K : Act → World → Prop} (hK : ∀ act' w' k' env', Inv P base env H w0 ops c a0 (L.setIfInBounds i true) act' w' k' env' → K act' w') : wpOp P ops Q i K act w := by
  obtain ⟨hun, o, ho, hall⟩ := mem_ready.1 hr
  have hi : i < ops.size := (Array.getElem?_eq_some_iff.1 ho).1
  have hun' : L.getD i false = false := unl hun
  -- the frame that the operation sees
  have hops : ∀ x ∈ o.op.operands, ev (frD ops c.val a0 (L.getD · false) ops.size) x = ev (frT ops c a0 i) x := fun x hx => ev_congr fun t ht => by
    subst ht
    refine inv.frame hc hr ho (.inl ?_)
    unfold names
    refine List.mem_append_left _ (List.mem_filterMap.2 ⟨.tmp t, by simpa using hx, rfl⟩)
  have hwant : iwanted ops o (frD ops c.val a0 (L.getD · false) ops.size) = iwanted ops o (frT ops c a0 i) := by
    unfold iwanted
    split
    · rfl
    · rename_i j want hg
      split
      · rfl
      · rename_i d hd
        rw [inv.frame hc hr ho (t := d) (.inl ?_)]
        unfold names
        rw [hg]
        exact List.mem_append_right _ (by simp only [hd]; simp)
  have hρ : ∀ x, VR env1 (c.V k).n (ev (frD ops c.val a0 (L.getD · false) ops.size) x) (act.eval x) := fun x => ev_VR inv.fr x
  have hcurn : (c.cur (L.getD · false) k).n = (c.V k).n := rfl
  have hesne : ∀ q e, c.es[q]? = some e → i ∉ c.es → (e == i) = false := fun q e hq hn => by
    simp; intro h; subst h; exact hn (List.mem_of_getElem? hq)
  -- nothing turns in the heap
  have hcur_same : (∀ id, c.own id ≠ some i) → c.cur (fun j => L.getD j false || j == i) k = c.cur (L.getD · false) k := fun hno => by
    unfold Cert.cur
    congr 1
    funext id
    cases hq : c.own id with
    | none => rfl
    | some i' =>
      have : (i' == i) = false := by simp; intro h; subst h; exact hno id hq
      simp [this]
  have hoff_same : (∀ id, c.own id ≠ some i) → ∀ id i', c.own id = some i' → (L.getD i' false || i' == i) = false → (env1 id).on = false := fun hno id i' h1 h2 => inv.off id i' h1 (by simp at h2; simpa using h2.1)
  have hke_same : i ∉ c.es → ∀ q e, c.es[q]? = some e → ((L.getD e false || e == i) = true ↔ q < k) := fun hn q e hq => by
    rw [hesne q e hq hn, Bool.or_false]; exact inv.ke q e hq
  -- an effect's place in the chain
  have hkk : ∀ k0, c.es[k0]? = some i → k0 = k := fun k0 hk0 => by
    have h1 : ¬ k0 < k := fun h => by have := (inv.ke k0 i hk0).2 h; rw [hun'] at this; cases this
    have h2 : ∀ q, q < k0 → q < k := fun q hq => by
      have hql : q < c.es.length := by have := (List.getElem?_eq_some_iff.1 hk0).1; omega
      have hqe := List.getElem?_eq_getElem hql
      exact (inv.ke q _ hqe).1 (ready_before inv.closed (hc.bef _ _ (hc.chain q k0 _ _ hq hqe hk0)) hr)
    rcases Nat.lt_or_ge k k0 with h | h
    · have := h2 k h; omega
    · omega
  -- a block of the region that an operation laid
  have hmk : ∀ id i', c.own id = some i' → ∃ o', ops[i']? = some o' ∧ i' ∉ c.es ∧ 1 ≤ c.kap i' ∧ (∀ q e, c.es[q]? = some e → (c.bef i' e = true ↔ c.kap i' ≤ q + 1)) ∧ id = c.rid i' := fun id i' h => by
    have hi' := (hc.ownr id i' h).2.2
    refine ⟨ops[i'], Array.getElem?_eq_getElem hi', ?_⟩
    cases hc.ops i' _ (Array.getElem?_eq_getElem hi') with
    | idle _ _ _ ho => exact absurd h (ho id)
    | read _ _ ho _ _ => exact absurd h (ho id)
    | eff _ _ ho _ _ => exact absurd h (ho id)
    | nop _ _ ho _ _ _ => exact absurd h (ho id)
    | call _ _ _ _ ho _ _ _ => exact absurd h (ho id)
    | make mk _ he _ _ _ hu hk hb _ => exact ⟨he, hk, hb, hu id h⟩
  have hlaid : ∀ id i', c.own id = some i' → c.kap i' ≤ k → L.getD i' false = true := fun id i' h hle => by
    obtain ⟨o', ho', _, h1, hb, _⟩ := hmk id i' h
    have hq : c.kap i' - 1 < c.es.length := by have := inv.kle; omega
    have hqe := List.getElem?_eq_getElem hq
    have hbe := (hb _ _ hqe).2 (by omega)
    exact inv.closed.before (hc.bef _ _ hbe) ((inv.ke _ _ hqe).2 (by omega))
  -- the heap that an effect sees
  have hGS : c.es[k]? = some i → ∀ id, id < (c.V k).n → ((c.hin k).f id = (c.cur (L.getD · false) k).f id ∧ ∀ i', c.own id = some i' → c.kap i' ≤ k + 1) ∨ ((c.hin k).f id = .dead ∧ ∃ i', c.own id = some i' ∧ k + 1 < c.kap i') := fun hek id hid => by
    simp only [Cert.hin, Cert.cur]
    cases hq : c.own id with
    | none => exact .inl ⟨rfl, fun i' h => by cases h⟩
    | some i' =>
      simp only
      obtain ⟨o', ho', hne, h1, hb, _⟩ := hmk id i' hq
      by_cases hk1 : c.kap i' = k + 1
      · have hLi : L.getD i' false = true := ready_before inv.closed (hc.bef _ _ ((hb k i hek).2 (by omega))) hr
        rw [if_pos hk1, if_pos ⟨hLi, by omega⟩]
        exact .inl ⟨rfl, fun i'' h => by cases h; omega⟩
      · rw [if_neg hk1]
        by_cases h2 : k < c.kap i'
        · exact .inr ⟨inv.dead id i' hq h2, i', rfl, by omega⟩
        · rw [if_neg (by omega)]; exact .inl ⟨rfl, fun i'' h => by cases h; omega⟩
  have hhin : c.es[k]? = some i → SR base env1 (c.hin k) w := fun hek => inv.sim.sr.less rfl fun id hid => by
    rcases hGS hek id hid with h | h
    · exact .inl h.1
    · exact .inr h.1
  -- behind an effect
  have heff : c.es[k]? = some i → (∀ id, c.own id ≠ some i) → ∀ w' env2 x, Sim base env1 (c.hin k) w env2 (c.V (k + 1)) w' → VR env2 (c.V (k + 1)).n (c.val i) x → K (act.put o.dst x) w' := fun hek hno w' env2 x hsim hx => by
    have hdead2 : ∀ id i', c.own id = some i' → k + 1 < c.kap i' → (c.V (k + 1)).f id = .dead := fun id i' h1 h2 => by
      have hid : id < (c.V k).n := Nat.lt_of_lt_of_le (hc.ownr id i' h1).2.1 inv.vn
      refine hsim.deadst id hid ?_
      simp only [Cert.hin, h1]
      rw [if_neg (by omega)]
      exact inv.dead id i' h1 (by omega)
    have hover : Sim base env1 (c.cur (L.getD · false) k) w env2 (c.cur (fun j => L.getD j false || j == i) (k + 1)) w' := by
      refine Sim.over (G := c.hin k) (G' := c.V (k + 1)) inv.sim.sr rfl rfl hsim rfl rfl (fun id hid => ?_) (fun id hid => ?_)
      · have hid' : id < (c.V k).n := hid
        rcases hGS hek id hid' with ⟨h1, h2⟩ | ⟨h1, i', h2, h3⟩
        · refine .inl ⟨?_, h1⟩
          simp only [Cert.cur]
          cases hq : c.own id with
          | none => rfl
          | some i' =>
            have := h2 i' hq
            simp only
            rw [if_neg (by omega)]
        · refine .inr ⟨h1, ?_⟩
          have hii : (i' == i) = false := by simp; intro h; subst h; exact hno id h2
          simp only [Cert.cur, h2, hii, Bool.or_false]
          by_cases hl : L.getD i' false = true
          · rw [if_pos ⟨hl, by omega⟩, if_pos ⟨hl, by omega⟩]
          · rw [if_neg (fun h => hl h.1), if_neg (fun h => hl h.1), hdead2 id i' h2 h3, inv.dead id i' h2 (by omega)]
      · have : c.own id = none := by
          cases hq : c.own id with
          | none => rfl
          | some i' =>
            have := (hc.ownr id i' hq).2.1
            have hvn := inv.vn
            have : (c.V k).n ≤ id := hid
            omega
        simp only [Cert.cur, this]
    have hkl : k < c.es.length := (List.getElem?_eq_some_iff.1 hek).1
    refine hK _ _ (k + 1) env2 (inv.next hc hr ho hsim.envEq.on hsim.nle hx (inv.sim.trans hover) hkl (fun q e hq => ?_) (fun id i' h1 h2 => ?_) hdead2)
    · by_cases hqk : q = k
      · subst hqk
        rw [hek] at hq; cases hq
        simp
      · have hei : (e == i) = false := by
          simp
          intro h
          subst h
          exact hqk (hkk q hq)
        rw [hei, Bool.or_false, inv.ke q e hq]
        omega
    · simp at h2
      have hid : id < (c.V k).n := Nat.lt_of_lt_of_le (hc.ownr id i' h1).2.1 inv.vn
      rw [hsim.envEq id hid]
      exact inv.off id i' h1 (by simpa using h2.1)
  unfold wpOp
  simp only [ho]
  cases hc.ops i o ho with
  | idle hw hv he hno =>
    rw [wanted_sound inv.fr (hwant.trans hw)]
    simp only [Bool.false_eq_true, if_false]
    refine hK _ _ k env1 (inv.next hc hr ho (EnvEq.refl _ _).on (Nat.le_refl _) (by rw [hv]; exact .tup [] [] .nil) (by rw [hcur_same hno]; exact inv.sim) inv.kle (hke_same he) (hoff_same hno) inv.dead)
  | read hw he hno hrid hs =>
    rw [wanted_sound inv.fr (hwant.trans hw)]
    simp only [if_true]
    have hv : stepR P (ev (frD ops c.val a0 (L.getD · false) ops.size)) (c.cur (L.getD · false) k) o.op = some (c.val i) := by
      rw [stepR_congr hops, stepR_at (H' := c.V k) fun r hrr => by simp only [Cert.cur, hrid r hrr]]
      refine hs k inv.kle fun q e hq => ⟨fun hb => (inv.ke q e hq).1 (ready_before inv.closed (hc.bef _ _ hb) hr), fun hb => ?_⟩
      rcases Nat.lt_or_ge q k with h | h
      · have := inv.closed.before (hc.bef _ _ hb) ((inv.ke q e hq).2 h)
        rw [hun'] at this; cases this
      · exact h
    obtain ⟨x, hx, hvx⟩ := stepR_sound inv.sim.sr hρ o hv
    refine .inl ?_
    unfold Oper.wp
    rw [hx]
    exact hK _ _ k env1 (inv.next hc hr ho (EnvEq.refl _ _).on (Nat.le_refl _) hvx (by rw [hcur_same hno]; exact inv.sim) inv.kle (hke_same he) (hoff_same hno) inv.dead)
  | make mk hw he hs hv hown hu hk hb hkm =>
    rw [wanted_sound inv.fr (hwant.trans hw)]
    simp only [if_true]
    have hrb := hc.ownr _ _ hown
    have hkk : k < c.kap i := by
      rcases Nat.lt_or_ge k (c.kap i) with h | h
      · exact h
      · have := hlaid _ _ hown h; rw [hun'] at this; cases this
    have hrn : c.rid i < (c.V k).n := Nat.lt_of_lt_of_le hrb.2.1 inv.vn
    have hdr : (c.cur (L.getD · false) k).f (c.rid i) = .dead := by
      simp only [Cert.cur, hown, hun', Bool.false_eq_true, false_and, if_false]
      exact inv.dead _ _ hown hkk
    obtain ⟨x, ob, p, hrun, hnew, hvr⟩ := stepA_run (P := P) (w := w) (H := c.cur (L.getD · false) k) (ρ := ev (frD ops c.val a0 (L.getD · false) ops.size)) hρ o (by rw [stepA_congr hops]; exact hs)
    have hsim := inv.sim.revive hrb.1 hrn hdr (inv.off _ _ hown hun') hnew
    have hpon : p.on = true := by
      cases hib : c.blk i with
      | dead => rw [hib] at hnew; exact hnew.elim
      | map es => rw [hib] at hnew; rw [hnew.2.2]
      | cells own s es =>
        rw [hib] at hnew
        cases own with
        | false => exact hnew.elim
        | true => obtain ⟨_, _, _, h, _⟩ := hnew; rw [h]
    have hcur : c.cur (fun j => L.getD j false || j == i) k = ⟨(c.cur (L.getD · false) k).n, fun id => if id = c.rid i then c.blk i else (c.cur (L.getD · false) k).f id, (c.cur (L.getD · false) k).lo⟩ := by
      unfold Cert.cur
      congr 1
      funext id
      by_cases e : id = c.rid i
      · subst e; simp [hown, hkk]
      · rw [if_neg e]
        cases hq : c.own id with
        | none => simp only [hq]
        | some i' =>
          have : (i' == i) = false := by simp; intro h; subst h; exact e (hu id hq)
          simp only [hq, this, Bool.or_false]
    refine .inl ?_
    unfold Oper.wp
    rw [hrun]
    refine hK _ _ k _ (inv.next hc hr ho (env2 := ⟨fun id => if id = c.rid i then p else env1 id, env1.fz⟩) ⟨fun id _ hon => ?_, Env.le_refl _⟩ (Nat.le_refl _) (by rw [hv]; exact hvr _ _ _ hrn (by simp)) (by rw [hcur]; exact hsim) inv.kle (hke_same he) (fun id i' h1 h2 => ?_) inv.dead)
    · have : id ≠ c.rid i := fun e => by subst e; rw [inv.off _ _ hown hun'] at hon; cases hon
      show (if id = c.rid i then p else env1 id) = env1 id
      simp [this]
    · simp at h2
      have : id ≠ c.rid i := fun e => by subst e; rw [hown] at h1; cases h1; exact h2.2 rfl
      show (if id = c.rid i then p else env1 id).on = false
      simp only [this, if_false]
      exact inv.off id i' h1 (by simpa using h2.1)
  | nop k0 hw hno hek hv hV =>
    rw [wanted_sound inv.fr (hwant.trans hw)]
    simp only [Bool.false_eq_true, if_false]
    have hk0 := hkk k0 hek
    subst hk0
    exact heff hek hno w env1 undef (by rw [hV]; exact Sim.refl (hhin hek)) (by rw [hv]; exact .tup [] [] .nil)
  | eff k0 hw hno hek hs =>
    rw [wanted_sound inv.fr (hwant.trans hw)]
    simp only [if_true]
    have hk0 := hkk k0 hek
    subst hk0
    obtain ⟨x, w', env2, hrun, hsim, hvx⟩ := stepE_sound (H := c.hin k0) (hhin hek) (ρ := ev (frD ops c.val a0 (L.getD · false) ops.size)) hρ o (by rw [stepE_congr hops]; exact hs)
    refine .inl ?_
    unfold Oper.wp
    rcases hrun with hrun | ⟨hrun, hx⟩
    · rw [hrun]; exact heff hek hno _ _ _ hsim hvx
    · rw [hrun]; subst hx; exact heff hek hno _ _ _ hsim hvx
  | call k0 f args hw hno hek hs hcall =>
    rw [wanted_sound inv.fr (hwant.trans hw)]
    simp only [if_true]
    have hk0 := hkk k0 hek
    subst hk0
    obtain ⟨⟨fn, hf, hb, hnm⟩, hcs⟩ := hCR _ _ _ _ _ hcall
    obtain ⟨xs, hrun, hxs⟩ := stepC_sound (P := P) (H := c.hin k0) (w := w) (ρ := ev (frD ops c.val a0 (L.getD · false) ops.size)) hρ o (by rw [stepC_congr hops]; exact hs) hf hb hnm
    refine .inl ?_
    unfold Oper.wp
    rw [hrun]
    refine Calls.mono (hcs env1 w xs (hhin hek) hxs) fun e w' => ?_
    rintro ⟨x, env2, rfl, hsim, hvx⟩
    exact heff hek hno _ _ _ hsim hvx

theorem all_listed {L : Array Bool} (hs : L.size = ops.size) (he : edgesBack ops = true) (hr : Region.ready .any ops L = []) : ∀ j, j < ops.size → L.getD j false = true := by
  intro j
  induction j using Nat.strongRecOn with
  | _ j ih =>
    intro hj
    cases hq : L.getD j false with
    | true => rfl
    | false =>
      exfalso
      have hjo : ops[j]? = some ops[j] := Array.getElem?_eq_getElem hj
      have hm : j ∈ Region.ready .any ops L := by
        refine mem_ready.2 ⟨?_, ops[j], hjo, fun e hea hb => ?_⟩
        · have hl : j < L.size := by omega
          simp [hl] at hq ⊢; exact hq
        · have hlt := (Before.edge j ops[j] e hjo hea hb).lt he
          exact ih e.on hlt (by omega)
      rw [hr] at hm; cases hm

def open_ (L : Array Bool) (n : Nat) : Nat := ((List.range n).filter fun j => !L.getD j false).length
theorem open_pos {L : Array Bool} {n j : Nat} (hj : j < n) (h : L.getD j false = false) : 0 < open_ L n := by
  unfold open_
  exact List.length_pos_of_mem (List.mem_filter.2 ⟨List.mem_range.2 hj, by rw [h]; rfl⟩)
theorem filter_drop (p : Nat → Bool) (i : Nat) : ∀ (l : List Nat), l.Nodup → i ∈ l → p i = true → (l.filter p).length = (l.filter fun j => p j && !(j == i)).length + 1
  | [], _, h, _ => by cases h
  | a :: l, hn, hm, hp => by
    rw [List.nodup_cons] at hn
    by_cases e : a = i
    · subst e
      have : l.filter (fun j => p j && !(j == a)) = l.filter p := List.filter_congr fun x hx => by
        have : x ≠ a := fun e => by subst e; exact hn.1 hx
        simp [this]
      simp [List.filter_cons, hp, this]
    · have hm' : i ∈ l := by cases hm with | head => exact absurd rfl e | tail _ h => exact h
      have ih := filter_drop p i l hn.2 hm' hp
      simp only [List.filter_cons]
      have hai : (a == i) = false := by simp [e]
      rw [hai]
      by_cases hpa : p a = true
      · simp [hpa, ih]
      · simp [hpa, ih]
theorem open_set {L : Array Bool} {n i : Nat} (hL : L.size = n) (hi : i < n) (h : L.getD i false = false) : open_ L n = open_ (L.setIfInBounds i true) n + 1 := by
  unfold open_
  rw [filter_drop (fun j => !L.getD j false) i (List.range n) List.nodup_range (List.mem_range.2 hi) (by rw [h]; rfl)]
  congr 1
  congr 1
  refine List.filter_congr fun j _ => ?_
  rw [getD_set (by omega)]
  simp

/-- **A region that draws its order, by its certificate.** -/
theorem draw_sound (hm : P.follows .mixedOrders = true) (hc : CertOK P ops c a0 H CR) (hCR : ∀ f args H1 v H2, CR f args H1 v H2 → CallSound P base f args H1 v H2) {Q : Exit → Act → World → Prop} {act : Act} {w : World} (hS : SR base env H w) (hA : AR env H.n a0 act) (id : Nat)
    (hQ : ∀ act' w' env', Sim base env H w env' (c.cur (fun _ => true) c.es.length) w' → AR env' (c.V c.es.length).n (frT ops c a0 ops.size) act' → Q .normal act' w') : (Code.region id ops true).wp P Q act w := by
  refine wp_region_any hm ?_
  have key : ∀ (fuel : Nat) (L : Array Bool) (act' : Act) (w' : World) (k : Nat) (env1 : Env), Inv P base env H w ops c a0 L act' w' k env1 → open_ L ops.size = fuel → wpAny P .any ops Q fuel L act' w' := by
    have fin : ∀ (L : Array Bool) (act' : Act) (w' : World) (k : Nat) (env1 : Env), Inv P base env H w ops c a0 L act' w' k env1 → Region.ready .any ops L = [] → Q .normal act' w' := by
      intro L act' w' k env1 inv hr
      have hall := all_listed inv.size hc.edges hr
      have hk : k = c.es.length := by
        rcases Nat.lt_or_ge k c.es.length with h | h
        · exfalso
          have hq := List.getElem?_eq_getElem h
          have hlt : c.es[k] < ops.size := hc.esz k _ hq
          have := (inv.ke k _ hq).1 (hall _ hlt)
          omega
        · have := inv.kle; omega
      subst hk
      refine hQ act' w' env1 ?_ ?_
      · have : c.cur (L.getD · false) c.es.length = c.cur (fun _ => true) c.es.length := by
          unfold Cert.cur
          congr 1
          funext id
          cases hq : c.own id with
          | none => rfl
          | some i => simp only [hall i (hc.ownr id i hq).2.2]
        rw [← this]; exact inv.sim
      · have : frD ops c.val a0 (L.getD · false) ops.size = frT ops c a0 ops.size := frD_congr ops c.val a0 _ fun j hj => hall j hj
        rw [← this]; exact inv.fr
    intro fuel
    induction fuel with
    | zero =>
      intro L act' w' k env1 inv hf
      have hr : Region.ready .any ops L = [] := by
        cases hr : Region.ready .any ops L with
        | nil => rfl
        | cons i l =>
          exfalso
          have hi : i ∈ Region.ready .any ops L := by rw [hr]; exact List.mem_cons_self ..
          obtain ⟨hun, o, ho, _⟩ := mem_ready.1 hi
          have := open_pos (L := L) (Array.getElem?_eq_some_iff.1 ho).1 (unl hun)
          omega
      exact ⟨hr, fin L act' w' k env1 inv hr⟩
    | succ fuel ih =>
      intro L act' w' k env1 inv hf
      refine ⟨fun hr => fin L act' w' k env1 inv hr, fun i hi => ?_⟩
      obtain ⟨hun, o, ho, _⟩ := mem_ready.1 hi
      have hlt := (Array.getElem?_eq_some_iff.1 ho).1
      exact draw_step hc hCR inv hi fun act2 w2 k2 env2 inv2 => ih _ _ _ _ _ inv2 (by have := open_set inv.size hlt (unl hun); omega)
  have hfalse : ∀ j, (Array.replicate ops.size false).getD j false = false := fun j => by
    by_cases h : j < ops.size
    · simp [h]
    · simp [h]
  have hopen : open_ (Array.replicate ops.size false) ops.size = ops.size := by
    unfold open_
    rw [List.filter_eq_self.2 fun j _ => by rw [hfalse]; rfl]
    simp
  have hcur0 : ∀ i, (c.cur (fun j => (Array.replicate ops.size false).getD j false) 0).f i = match c.own i with | some _ => (c.V 0).f i | none => (c.V 0).f i := fun i => by
    simp only [Cert.cur]
    cases hq : c.own i with
    | none => rfl
    | some i' => simp only [hfalse, Bool.false_eq_true, false_and, if_false]
  have hcur0' : ∀ i, (c.cur (fun j => (Array.replicate ops.size false).getD j false) 0).f i = (c.V 0).f i := fun i => by rw [hcur0]; cases c.own i <;> rfl
  let env1 : Env := ⟨fun i => if i < H.n then env i else ⟨0, 0, 0, 0, false⟩, env.fz⟩
  have he1 : EnvEq H.n env env1 := ⟨fun i hi => by show (if i < H.n then env i else ⟨0, 0, 0, 0, false⟩) = env i; rw [if_pos hi], Env.le_refl _⟩
  have hd : SR base env H { w with drawn := w.drawn + 1 } := hS.same rfl
  have hown0 : ∀ i, i < (c.V 0).n → Owned (c.cur (fun j => (Array.replicate ops.size false).getD j false) 0) i → i < H.n ∧ Owned H i := fun i hi ho => by
    rcases Nat.lt_or_ge i H.n with h | h
    · exact ⟨h, (Owned.of_f (by rw [hcur0', hc.v0f i h])).1 ho⟩
    · exact absurd ho (Owned.not_dead (by rw [hcur0', hc.v0d i h hi]))
  refine key ops.size _ act _ 0 env1 ⟨by simp, (fun j o _ hj => by rw [hfalse] at hj; exact absurd hj (by simp)), Nat.zero_le _, (fun q e _ => by rw [hfalse]; simp), ?_, ?_, fun id i h _ => ?_, fun id i h _ => ?_, Nat.le_refl _⟩ hopen
  · refine ⟨⟨hd.bs, fun i hi => ?_, fun i j hi hj hij h1 h2 => ?_, fun b arr hb => ⟨(hd.frz b arr hb).1, fun i hi ho => ?_⟩⟩, he1, hc.v0n, by show (c.V 0).lo ≤ H.lo; rw [hc.v0lo]; exact Nat.le_refl _, Nat.le_refl _, rfl, rfl, rfl, fun _ _ _ => rfl, fun j hj hoj => .inl (hown0 j hj hoj), fun j hj hdj => by rw [hcur0', hc.v0f j hj]; exact hdj, fun j hj _ => by rw [hcur0', hc.v0f j hj], fun _ _ h => .inl h⟩
    · rw [hcur0']
      rcases Nat.lt_or_ge i H.n with h | h
      · rw [hc.v0f i h, he1 i h]
        exact (hd.blk i h).keep he1 hc.v0n rfl
      · rw [hc.v0d i h hi]; trivial
    · obtain ⟨hi', h1'⟩ := hown0 i hi h1
      obtain ⟨hj', h2'⟩ := hown0 j hj h2
      rw [he1 i hi', he1 j hj']
      exact hd.dis i j hi' hj' hij h1' h2'
    · obtain ⟨hi', ho'⟩ := hown0 i hi ho
      rw [he1 i hi']
      exact (hd.frz b arr hb).2 i hi' ho'
  · have : frD ops c.val a0 (fun j => (Array.replicate ops.size false).getD j false) ops.size = a0 := by
      have : ∀ n, frD ops c.val a0 (fun j => (Array.replicate ops.size false).getD j false) n = a0 := by
        intro n
        induction n with
        | zero => rfl
        | succ n ih =>
          rw [frD]
          rw [if_neg (by rw [hfalse]; simp)]
          exact ih
      exact this _
    rw [this]
    exact hA.mono he1.on hc.v0n
  · have := (hc.ownr id i h).1
    show (if id < H.n then env id else (⟨0, 0, 0, 0, false⟩ : Pl)).on = false
    rw [if_neg (by omega)]
  · have := hc.ownr id i h
    exact hc.v0d id this.1 this.2.1

end sound
end Go.Proofs.Ytnapimfiikgaiaa.Eng
