/- The ideal machine, part 15: code, calls; what they say of the model. Nothing here is a claim of its own. -/
import Derived.Test.YtnapimfiikgaiaaEng14
import Derived.LoopN
namespace Go.Proofs.Ytnapimfiikgaiaa.Eng
open Go.RowKit
set_option linter.unusedSimpArgs false
set_option linter.unusedVariables false

def LtB (m : Nat) : IB → Prop
  | .dead => True
  | .cells _ _ es => ∀ e ∈ es, ∀ v ∈ e, Lt m v
  | .map es => ∀ p ∈ es, Lt m p.1 ∧ Lt m p.2

/-- Slots may be forgotten. -/
inductive Weak : List IV → List IV → Prop
  | nil : Weak [] []
  | keep (v : IV) (l l' : List IV) (h : Weak l l') : Weak (v :: l) (v :: l')
  | kill (v : IV) (l l' : List IV) (h : Weak l l') : Weak (v :: l) (.dead :: l')

/-- What is left of a heap behind a run that began at H (its mark set to H.n) and came to H1. -/
inductive GcH (H H1 : IH) : IH → Bool → Prop
  | raw : GcH H H1 ⟨H1.n, H1.f, min H.lo H1.lo⟩ false
  | quiet (h : H.n ≤ H1.lo) : GcH H H1 H true
  | part (H2 : IH) (hn : H2.n = H.n) (hf : ∀ i, i < H.n → H2.f i = H1.f i) (hlo : H2.lo ≤ min H.lo H1.lo) (hl : ∀ i, i < H.n → H1.f i = H.f i ∨ LtB H.n (H1.f i)) : GcH H H1 H2 true

/-- The same in the model, seen otherwise: slots and blocks are told by other ideal values. -/
def Gh (a : List IV) (H : IH) (a' : List IV) (H' : IH) : Prop :=
  ∀ (base : Nat) (env : Env) (w : World) (xs : List Value), SR base env H w → VRs env H.n a xs → ∃ env', Sim base env H w env' H' w ∧ VRs env' H'.n a' xs
theorem Gh.refl (a : List IV) (H : IH) : Gh a H a H := fun base env w xs h hv => ⟨env, Sim.refl h, hv⟩
theorem Gh.trans {a a1 a2 : List IV} {H H1 H2 : IH} (x : Gh a H a1 H1) (y : Gh a1 H1 a2 H2) : Gh a H a2 H2 := fun base env w xs h hv => by
  obtain ⟨env1, s1, v1⟩ := x base env w xs h hv
  obtain ⟨env2, s2, v2⟩ := y base env1 w xs s1.sr v1
  exact ⟨env2, s1.trans s2, v2⟩

def ires1 (P : Program) (a : List IV) (H : IH) : ResultVar → Option IV
  | .tmp t => some (a.getD t (.tup []))
  | .cell p t => match a.getD p (.tup []) with
    | .ptr i k j => match rd H i k with
      | some e => ipart P t e j
      | none => none
    | _ => none
def iresL (P : Program) (a : List IV) (H : IH) : List ResultVar → Option (List IV)
  | [] => some []
  | r :: rs => match ires1 P a H r, iresL P a H rs with
    | some v, some vs => some (v :: vs)
    | _, _ => none
def ires (P : Program) (a : List IV) (H : IH) (rs : List ResultVar) : Option IV :=
  match iresL P a H rs with
  | some [v] => some v
  | some l => some (.tup l)
  | none => none

mutual
inductive ICode (P : Program) (prim : CallRel) : Code → List IV → IH → Exit → List IV → IH → Prop
  | skip (a : List IV) (H : IH) : ICode P prim .skip a H .normal a H
  | ret (a : List IV) (H : IH) : ICode P prim .ret a H .ret a H
  | exit (id : Nat) (a : List IV) (H : IH) : ICode P prim (.exit id) a H (.exit id) a H
  | seqN (x y : Code) (a : List IV) (H : IH) (a1 : List IV) (H1 : IH) (e : Exit) (a' : List IV) (H' : IH) (h1 : ICode P prim x a H .normal a1 H1) (h2 : ICode P prim y a1 H1 e a' H') : ICode P prim (.seq x y) a H e a' H'
  | seqE (x y : Code) (a : List IV) (H : IH) (e : Exit) (a' : List IV) (H' : IH) (h1 : ICode P prim x a H e a' H') (he : e ≠ .normal) : ICode P prim (.seq x y) a H e a' H'
  | condT (c : Operand) (x y : Code) (a : List IV) (H : IH) (e : Exit) (a' : List IV) (H' : IH) (hc : ev a c = .bool true) (h : ICode P prim x a H e a' H') : ICode P prim (.cond c x y) a H e a' H'
  | condF (c : Operand) (x y : Code) (a : List IV) (H : IH) (e : Exit) (a' : List IV) (H' : IH) (hc : ev a c = .bool false) (h : ICode P prim y a H e a' H') : ICode P prim (.cond c x y) a H e a' H'
  | blockN (id : Nat) (c : Code) (a : List IV) (H : IH) (e : Exit) (a' : List IV) (H' : IH) (h : ICode P prim c a H e a' H') (he : e ≠ .exit id) : ICode P prim (.block id c) a H e a' H'
  | blockE (id : Nat) (c : Code) (a : List IV) (H : IH) (a' : List IV) (H' : IH) (h : ICode P prim c a H (.exit id) a' H') : ICode P prim (.block id c) a H .normal a' H'
  | loop (c : Code) (a : List IV) (H : IH) (a1 : List IV) (H1 : IH) (e : Exit) (a' : List IV) (H' : IH) (a3 : List IV) (H3 : IH) (a2 : List IV) (H2 : IH) (b : Bool) (hgh : Gh a H a1 H1) (h : ILoop P prim c a1 ⟨H1.n, H1.f, H1.n⟩ e a' H') (hgh2 : Gh a' H' a3 H3) (hg : GcH H1 H3 H2 b) (hw : Weak a3 a2) (hl : b = true → ∀ v ∈ a2, Lt H1.n v) : ICode P prim (.loop c) a H e a2 H2
  | region (id : Nat) (ops : Array Oper) (a : List IV) (H : IH) (a' : List IV) (H' : IH) (h : IOps P prim ops ops.toList a H a' H') : ICode P prim (.region id ops false) a H .normal a' H'
  | draw (id : Nat) (ops : Array Oper) (c : Cert) (a : List IV) (H : IH) (CR : CallRel) (h : CertOK P ops c a H CR) (hCR : ∀ f args H v H', CR f args H v H' → ICall P prim f args H v H') : ICode P prim (.region id ops true) a H .normal (frT ops c a ops.size) (c.cur (fun _ => true) c.es.length)
inductive ILoop (P : Program) (prim : CallRel) : Code → List IV → IH → Exit → List IV → IH → Prop
  | out (c : Code) (a : List IV) (H : IH) (e : Exit) (a1 : List IV) (H1 : IH) (a3 : List IV) (H3 : IH) (a2 : List IV) (H2 : IH) (b : Bool) (h : ICode P prim c a ⟨H.n, H.f, H.n⟩ e a1 H1) (he : e ≠ .normal) (hgh : Gh a1 H1 a3 H3) (hg : GcH H H3 H2 b) (hw : Weak a3 a2) (hl : b = true → ∀ v ∈ a2, Lt H.n v) : ILoop P prim c a H e a2 H2
  | next (c : Code) (a : List IV) (H : IH) (a1 : List IV) (H1 : IH) (a3 : List IV) (H3 : IH) (a2 : List IV) (H2 : IH) (b : Bool) (e : Exit) (a' : List IV) (H' : IH) (h : ICode P prim c a ⟨H.n, H.f, H.n⟩ .normal a1 H1) (hgh : Gh a1 H1 a3 H3) (hg : GcH H H3 H2 b) (hw : Weak a3 a2) (hl : b = true → ∀ v ∈ a2, Lt H.n v)
      (h2 : ILoop P prim c a2 H2 e a' H') : ILoop P prim c a H e a' H'
inductive IOps (P : Program) (prim : CallRel) : Array Oper → List Oper → List IV → IH → List IV → IH → Prop
  | nil (ops : Array Oper) (a : List IV) (H : IH) : IOps P prim ops [] a H a H
  | idle (ops : Array Oper) (o : Oper) (r : List Oper) (a : List IV) (H : IH) (a' : List IV) (H' : IH) (hw : iwanted ops o a = some false) (h : IOps P prim ops r (iput a o.dst (.tup [])) H a' H') : IOps P prim ops (o :: r) a H a' H'
  | read (ops : Array Oper) (o : Oper) (r : List Oper) (a : List IV) (H : IH) (a' : List IV) (H' : IH) (v : IV) (hw : iwanted ops o a = some true) (hs : stepR P (ev a) H o.op = some v) (h : IOps P prim ops r (iput a o.dst v) H a' H') : IOps P prim ops (o :: r) a H a' H'
  | make (ops : Array Oper) (o : Oper) (r : List Oper) (a : List IV) (H : IH) (a' : List IV) (H' : IH) (ib : IB) (mk : Nat → IV) (hw : iwanted ops o a = some true) (hs : stepA P (ev a) o.op = some (ib, mk)) (h : IOps P prim ops r (iput a o.dst (mk H.n)) (H.push ib) a' H') : IOps P prim ops (o :: r) a H a' H'
  | eff (ops : Array Oper) (o : Oper) (r : List Oper) (a : List IV) (H : IH) (a' : List IV) (H' : IH) (v : IV) (H1 : IH) (hw : iwanted ops o a = some true) (hs : stepE P (ev a) H o.op = some (v, H1)) (h : IOps P prim ops r (iput a o.dst v) H1 a' H') : IOps P prim ops (o :: r) a H a' H'
  | call (ops : Array Oper) (o : Oper) (r : List Oper) (a : List IV) (H : IH) (a' : List IV) (H' : IH) (f : FuncId) (args : List IV) (v : IV) (H1 : IH) (hw : iwanted ops o a = some true) (hs : stepC (ev a) o.op = some (f, args)) (hc : ICall P prim f args H v H1)
      (h : IOps P prim ops r (iput a o.dst v) H1 a' H') : IOps P prim ops (o :: r) a H a' H'
inductive ICall (P : Program) (prim : CallRel) : FuncId → List IV → IH → IV → IH → Prop
  | prim (f : FuncId) (args : List IV) (H : IH) (v : IV) (H' : IH) (h : prim f args H v H') : ICall P prim f args H v H'
  | body (f : FuncId) (args : List IV) (H : IH) (fn : Func) (c : Code) (e : Exit) (a' : List IV) (H1 : IH) (v : IV) (v' : IV) (H3 H2 : IH) (b : Bool) (hf : P.funcs[f]? = some fn) (hn : (fn.name == "runtime.NumGoroutine") = false) (hb : fn.body = some c)
      (h : ICode P prim c (args ++ List.replicate (fn.ntmps - args.length) (.tup [])) ⟨H.n, H.f, H.n⟩ e a' H1) (he : e = .normal ∨ e = .ret) (hv : ires P a' H1 fn.results.toList = some v) (hgh : Gh [v] H1 [v'] H3) (hg : GcH H H3 H2 b) (hl : b = true → Lt H.n v') : ICall P prim f args H v' H2
  | gh (f : FuncId) (args : List IV) (H : IH) (args' : List IV) (H' : IH) (v : IV) (H2 : IH) (hgh : Gh args H args' H') (h : ICall P prim f args' H' v H2) : ICall P prim f args H v H2
end

section sound
variable {P : Program} {base : Nat} {prim : CallRel}

theorem Weak.VRs {env : Env} {N : Nat} : ∀ {a a' : List IV} {xs : List Value}, Weak a a' → VRs env N a xs → VRs env N a' xs
  | _, _, _, .nil, h => h
  | _, _, _, .keep _ _ _ hw, .cons _ _ _ _ h hs => .cons _ _ _ _ h (Weak.VRs hw hs)
  | _, _, _, .kill _ _ _ hw, .cons _ _ _ _ h hs => .cons _ _ _ _ (.dead _) (Weak.VRs hw hs)

theorem Gh.weak {a a' : List IV} {H : IH} (h : Weak a a') : Gh a H a' H := fun base env w xs hS hv => ⟨env, Sim.refl hS, h.VRs hv⟩

theorem BR.ltB {env : Env} {N : Nat} {w : World} {p : Pl} {ib : IB} (h : BR base env N w p ib) : LtB N ib := by
  cases ib with
  | dead => trivial
  | cells own s es =>
    have hc : Cells env N w p es := by cases own <;> exact h.2.1
    intro e he v hv
    obtain ⟨k, hk, rfl⟩ := List.mem_iff_getElem.1 he
    obtain ⟨j, hj, rfl⟩ := List.mem_iff_getElem.1 hv
    obtain ⟨x, _, hvr⟩ := hc.2 k _ (List.getElem?_eq_getElem hk) j _ (List.getElem?_eq_getElem hj)
    exact hvr.lt
  | map es =>
    obtain ⟨_, ents, clock, _, hm⟩ := h
    intro p hp
    have : ∀ {l : List (IV × IV)} {r : List MapEntry}, MR env N l r → ∀ p ∈ l, Lt N p.1 ∧ Lt N p.2 := by
      intro l r hlr
      induction hlr with
      | nil => intro p hp; cases hp
      | cons k v e l r hk hv _ ih =>
        intro p hp
        cases hp with
        | head => exact ⟨hk.lt, hv.lt⟩
        | tail _ hp => exact ih p hp
    exact this hm p hp

theorem BR.lower {env : Env} {N m : Nat} {w : World} {p : Pl} {ib : IB} (h : BR base env N w p ib) (hl : LtB m ib) : BR base env m w p ib := by
  cases ib with
  | dead => trivial
  | cells own s es =>
    have lc : ∀ (hc : Cells env N w p es), Cells env m w p es := fun hc =>
      ⟨hc.1, fun k e hk j v hj => let ⟨x, hx, hvr⟩ := hc.2 k e hk j v hj; ⟨x, hx, hvr.lower (hl e (List.mem_of_getElem? hk) v (List.mem_of_getElem? hj))⟩⟩
    cases own with
    | true => exact ⟨h.1, lc h.2.1, h.2.2⟩
    | false => exact ⟨h.1, lc h.2.1, h.2.2⟩
  | map es =>
    obtain ⟨h1, ents, clock, h2, hm⟩ := h
    refine ⟨h1, ents, clock, h2, ?_⟩
    have : ∀ {l : List (IV × IV)} {r : List MapEntry}, MR env N l r → (∀ p ∈ l, Lt m p.1 ∧ Lt m p.2) → MR env m l r := by
      intro l r hlr
      induction hlr with
      | nil => intro _; exact .nil
      | cons k v e l r hk hv _ ih =>
        intro hp
        have := hp (k, v) (List.mem_cons_self ..)
        exact .cons _ _ _ _ _ (hk.lower this.1) (hv.lower this.2) (ih fun p h => hp p (List.mem_cons_of_mem _ h))
    exact this hm hl

theorem SR.mark {env : Env} {H : IH} {w : World} (h : SR base env H w) (l : Nat) : SR base env ⟨H.n, H.f, l⟩ w := ⟨h.bs, h.blk, h.dis, h.frz⟩

theorem gc_sim {env env' : Env} {H H1 H2 : IH} {w w' : World} {b : Bool} (h : SR base env H w) (hs : Sim base env ⟨H.n, H.f, H.n⟩ w env' H1 w') (hg : GcH H H1 H2 b) :
    Sim base env H w env' H2 w' ∧ (b = true → H2.n = H.n) ∧ (b = false → H2.n = H1.n) := by
  cases hg with
  | raw =>
    refine ⟨⟨hs.sr.mark _, hs.envEq, hs.nle, Nat.min_le_left _ _, hs.size, hs.os, hs.tape, hs.output, fun c hc hall => hs.frame c hc fun i hi ho hb => ?_, fun j hj ho => ?_, hs.deadst, fun i hi hl => hs.keepf i hi ?_, fun c arr hc => ?_⟩, (fun h => by cases h), fun _ => rfl⟩
    · exact Nat.lt_of_lt_of_le (hall i hi ho hb) (Nat.min_le_right _ _)
    · rcases hs.prov j hj ho with h1 | h1 | ⟨i, hi, ho', hb, hl⟩
      · exact .inl h1
      · exact .inr (.inl h1)
      · exact .inr (.inr ⟨i, hi, ho', hb, Nat.le_trans (Nat.min_le_right _ _) hl⟩)
    · exact Nat.lt_of_lt_of_le hl (Nat.min_le_right _ _)
    · rcases hs.fprov c arr hc with h1 | h1 | ⟨i, hi, ho', hb, hl⟩
      · exact .inl h1
      · exact .inr (.inl h1)
      · exact .inr (.inr ⟨i, hi, ho', hb, Nat.le_trans (Nat.min_le_right _ _) hl⟩)
  | quiet hq =>
    have hun : ∀ b, b < w.heap.size → w'.heap[b]? = w.heap[b]? := fun c hc => hs.frame c hc fun i hi _ _ => Nat.lt_of_lt_of_le hi hq
    have hfp : ∀ c arr, env'.fz c = some arr → env.fz c = some arr ∨ w.heap.size ≤ c := fun c arr hc => by
      rcases hs.fprov c arr hc with h1 | h1 | ⟨i, hi, ho', hb, hl⟩
      · exact .inl h1
      · exact .inr h1
      · exact absurd (Nat.le_trans hq hl) (Nat.not_le.2 hi)
    refine ⟨⟨⟨Nat.le_trans h.bs hs.size, fun i hi => ?_, fun i j hi hj hij h1 h2 => ?_, fun c arr hc => ⟨(hs.sr.frz c arr hc).1, fun i hi ho => ?_⟩⟩, hs.envEq, Nat.le_refl _, Nat.le_refl _, hs.size, hs.os, hs.tape, hs.output, fun c hc _ => hun c hc, fun j hj ho => .inl ⟨hj, ho⟩, fun _ _ h => h, fun _ _ _ => rfl, fun c arr hc => ?_⟩, fun _ => rfl, (fun h => by cases h)⟩
    · rw [hs.envEq i hi]
      by_cases hd : H.f i = .dead
      · rw [hd]; trivial
      · exact (h.blk i hi).keep hs.envEq (Nat.le_refl _) (hun _ (SR.bound_any h hi hd))
    · rw [hs.envEq i hi, hs.envEq j hj]; exact h.dis i j hi hj hij h1 h2
    · rw [hs.envEq i hi]
      rcases hfp c arr hc with h1 | h1
      · exact (h.frz c arr h1).2 i hi ho
      · have := (BR.bound h hi ho).2; omega
    · rcases hfp c arr hc with h1 | h1
      · exact .inl h1
      · exact .inr (.inl h1)
  | part H2 hn hf hlo hl =>
    have hnle : H.n ≤ H1.n := hs.nle
    have hlt : ∀ i, i < H.n → LtB H.n (H1.f i) := fun i hi => by
      rcases hl i hi with h1 | h1
      · rw [h1]; exact (h.blk i hi).ltB
      · exact h1
    have hown : ∀ i, i < H.n → (Owned H2 i ↔ Owned H1 i) := fun i hi => Owned.of_f (hf i hi)
    refine ⟨⟨⟨hs.sr.bs, fun i hi => ?_, fun i j hi hj hij h1 h2 => ?_, fun c arr hc => ⟨(hs.sr.frz c arr hc).1, fun i hi ho => ?_⟩⟩, hs.envEq, by rw [hn]; exact Nat.le_refl _, Nat.le_trans hlo (Nat.min_le_left _ _), hs.size, hs.os, hs.tape, hs.output, fun c hc hall => hs.frame c hc fun i hi ho hb => ?_, fun j hj ho => ?_, fun j hj hd => ?_, fun i hi hl' => ?_, fun c arr hc => ?_⟩, fun _ => hn, (fun h => by cases h)⟩
    · rw [hn] at hi ⊢
      rw [hf i hi]
      exact (hs.sr.blk i (by omega)).lower (hlt i hi)
    · rw [hn] at hi hj
      exact hs.sr.dis i j (by omega) (by omega) hij ((hown i hi).1 h1) ((hown j hj).1 h2)
    · rw [hn] at hi
      exact (hs.sr.frz c arr hc).2 i (by omega) ((hown i hi).1 ho)
    · exact Nat.lt_of_lt_of_le (hall i hi ho hb) (Nat.le_trans hlo (Nat.min_le_right _ _))
    · rw [hn] at hj
      rcases hs.prov j (by omega) ((hown j hj).1 ho) with h1 | h1 | ⟨i, hi, ho', hb, hl'⟩
      · exact .inl h1
      · exact .inr (.inl h1)
      · exact .inr (.inr ⟨i, hi, ho', hb, Nat.le_trans (Nat.le_trans hlo (Nat.min_le_right _ _)) hl'⟩)
    · rw [hf j hj]; exact hs.deadst j hj hd
    · rw [hf i hi]; exact hs.keepf i hi (Nat.lt_of_lt_of_le hl' (Nat.le_trans hlo (Nat.min_le_right _ _)))
    · rcases hs.fprov c arr hc with h1 | h1 | ⟨i, hi, ho', hb, hl'⟩
      · exact .inl h1
      · exact .inr (.inl h1)
      · exact .inr (.inr ⟨i, hi, ho', hb, Nat.le_trans (Nat.le_trans hlo (Nat.min_le_right _ _)) hl'⟩)

def CodeSound (P : Program) (base : Nat) (c : Code) (a : List IV) (H : IH) (e : Exit) (a' : List IV) (H' : IH) : Prop :=
  ∀ (env : Env) (act : Act) (w : World) (Q : Exit → Act → World → Prop), SR base env H w → AR env H.n a act →
    (∀ env' act' w', Sim base env H w env' H' w' → AR env' H'.n a' act' → Q e act' w') → c.wp P Q act w
def LoopSound (P : Program) (base : Nat) (c : Code) (a : List IV) (H : IH) (e : Exit) (a' : List IV) (H' : IH) : Prop :=
  ∃ n, ∀ (env : Env) (act : Act) (w : World) (Q : Exit → Act → World → Prop), SR base env H w → AR env H.n a act →
    (∀ env' act' w', Sim base env H w env' H' w' → AR env' H'.n a' act' → Q e act' w') → Code.rounds P c Q n act w
def OpsSound (P : Program) (base : Nat) (ops : Array Oper) (l : List Oper) (a : List IV) (H : IH) (a' : List IV) (H' : IH) : Prop :=
  ∀ (env : Env) (act : Act) (w : World) (Q : Exit → Act → World → Prop), SR base env H w → AR env H.n a act →
    (∀ env' act' w', Sim base env H w env' H' w' → AR env' H'.n a' act' → Q .normal act' w') → wpList P ops Q l act w

def resG (tmps : Array Value) : ResultVar → Sem Value
  | .tmp t => pure (tmps.getD t undef)
  | .cell p t => do loadVar t (← asAddr (tmps.getD p undef))
theorem results_eq (fn : Func) (tmps : Array Value) : results fn tmps = (do let vs ← fn.results.mapM (resG tmps); pure (if h : vs.size = 1 then vs[0] else .tuple vs)) := by
  unfold results
  congr 1

theorem ires_sound {env : Env} {H : IH} {w : World} {a : List IV} {act : Act} (h : SR base env H w) (hA : AR env H.n a act) {fn : Func} {v : IV} (hv : ires P a H fn.results.toList = some v) :
    ∃ x, (results fn act.tmps).run P w = .ok x w ∧ VR env H.n v x := by
  have hget : ∀ t, VR env H.n (a.getD t (.tup [])) (act.tmps.getD t undef) := fun t => by
    have hl := hA.1.length
    cases ht : a[t]? with
    | none =>
      have h1 := List.getElem?_eq_none_iff.1 ht
      have : act.tmps.getD t undef = undef := by
        simp at hl
        simp [Array.getElem?_eq_none (by omega : act.tmps.size ≤ t)]
      rw [this]; simp [List.getD, ht]; exact .tup [] [] .nil
    | some v =>
      obtain ⟨x, hx, hvr⟩ := hA.1.get t v ht
      have : act.tmps.getD t undef = x := by
        simp [Array.getD_eq_getD_getElem?]
        rw [← Array.getElem?_toList, hx]; rfl
      rw [this]; simpa [List.getD, ht] using hvr
  have one : ∀ (r : ResultVar) (v : IV), ires1 P a H r = some v → ∃ x, (resG act.tmps r).run P w = .ok x w ∧ VR env H.n v x := by
    intro r v hr
    cases r with
    | tmp t => simp only [ires1] at hr; cases hr; exact ⟨_, rfl, hget t⟩
    | cell p t =>
      simp only [ires1] at hr
      have hp := hget p
      split at hr
      · rename_i i k j hpe
        rw [hpe] at hp
        obtain ⟨hx, hi, _⟩ := hp.inv_ptr
        split at hr
        · rename_i e he
          obtain ⟨x, hrun, hvr⟩ := load_sound (P := P) h hi he hr
          refine ⟨x, ?_, hvr⟩
          simp only [resG, hx, asAddr, Sem.run_bind, Sem.run_pure, Result.andThen_ok]
          exact hrun
        · cases hr
      · cases hr
  have many : ∀ (rs : List ResultVar) (vs : List IV), iresL P a H rs = some vs → ∃ xs : List Value, (rs.mapM (resG act.tmps)).run P w = .ok xs w ∧ VRs env H.n vs xs := by
    intro rs
    induction rs with
    | nil => intro vs hvs; simp [iresL] at hvs; subst hvs; exact ⟨[], rfl, .nil⟩
    | cons r rs ih =>
      intro vs hvs
      simp only [iresL] at hvs
      split at hvs
      · rename_i v vs' h1 h2
        cases hvs
        obtain ⟨x, hx, hvx⟩ := one r v h1
        obtain ⟨xs, hxs, hvxs⟩ := ih vs' h2
        refine ⟨x :: xs, ?_, .cons _ _ _ _ hvx hvxs⟩
        rw [List.mapM_cons]
        simp only [Sem.run_bind, hx, Result.andThen_ok, hxs, Sem.run_pure]
      · cases hvs
  unfold ires at hv
  have hres : ∀ (xs : List Value), (fn.results.toList.mapM (resG act.tmps)).run P w = .ok xs w →
      (results fn act.tmps).run P w = .ok (if h : xs.toArray.size = 1 then xs.toArray[0] else .tuple xs.toArray) w := by
    intro xs hx
    rw [results_eq]
    simp only [Array.mapM_eq_mapM_toList, Sem.run_bind, map_eq_pure_bind, bind_assoc, pure_bind]
    rw [hx]
    rfl
  split at hv
  · rename_i v' hl
    cases hv
    obtain ⟨xs, hx, hxs⟩ := many _ _ hl
    cases hxs with
    | cons _ x _ xs' h1 h2 =>
      cases h2
      exact ⟨x, by rw [hres _ hx]; simp, h1⟩
  · rename_i l hne hl
    cases hv
    obtain ⟨xs, hx, hxs⟩ := many _ _ hl
    refine ⟨.tuple xs.toArray, ?_, .tup _ _ hxs⟩
    rw [hres _ hx]
    have : ¬ xs.toArray.size = 1 := by
      intro h1
      simp at h1
      have hll := hxs.length
      cases l with
      | nil => simp at hll; omega
      | cons v l =>
        cases l with
        | nil => exact hne v rfl
        | cons _ _ => simp at hll; omega
    rw [dif_neg this]
  · cases hv

theorem ops_idle {ops : Array Oper} {o : Oper} {r : List Oper} {Q : Exit → Act → World → Prop} {act : Act} {w : World} (hw : Region.wanted o (yielded ops act.tmps) = false) (h : wpList P ops Q r (act.put o.dst undef) w) : wpList P ops Q (o :: r) act w := by
  unfold wpList; rw [hw]; simpa using h
theorem ops_val {ops : Array Oper} {o : Oper} {r : List Oper} {Q : Exit → Act → World → Prop} {act : Act} {w w' : World} {x : Value} (hw : Region.wanted o (yielded ops act.tmps) = true) (hx : (execOp act.eval o).run P w = .ok (.value x) w' ∨ ((execOp act.eval o).run P w = .ok .skip w' ∧ x = undef)) (h : wpList P ops Q r (act.put o.dst x) w') : wpList P ops Q (o :: r) act w := by
  unfold wpList; rw [hw]; simp only [if_true]
  refine .inl ?_
  unfold Oper.wp
  rcases hx with hx | ⟨hx, rfl⟩
  · rw [hx]; exact h
  · rw [hx]; exact h

mutual
theorem code_sound (hm : P.follows .mixedOrders = true) (hprim : ∀ f args H v H', prim f args H v H' → CallSound P base f args H v H') : ∀ {c : Code} {a : List IV} {H : IH} {e : Exit} {a' : List IV} {H' : IH}, ICode P prim c a H e a' H' → CodeSound P base c a H e a' H'
  | _, _, _, _, _, _, .skip a H => fun env act w Q hS hA hQ => wp_skip (hQ env act w (Sim.refl hS) hA)
  | _, _, _, _, _, _, .ret a H => fun env act w Q hS hA hQ => wp_ret (hQ env act w (Sim.refl hS) hA)
  | _, _, _, _, _, _, .exit id a H => fun env act w Q hS hA hQ => wp_exit (hQ env act w (Sim.refl hS) hA)
  | _, _, _, _, _, _, .seqN x y a H a1 H1 e a' H' h1 h2 => fun env act w Q hS hA hQ =>
    wp_seq (code_sound hm hprim h1 env act w _ hS hA fun env1 act1 w1 s1 A1 => code_sound hm hprim h2 env1 act1 w1 Q s1.sr A1 fun env2 act2 w2 s2 A2 => hQ env2 act2 w2 (s1.trans s2) A2)
  | _, _, _, _, _, _, .seqE x y a H e a' H' h1 he => fun env act w Q hS hA hQ =>
    wp_seq (code_sound hm hprim h1 env act w _ hS hA fun env1 act1 w1 s1 A1 => by cases e <;> first | exact absurd rfl he | exact hQ env1 act1 w1 s1 A1)
  | _, _, _, _, _, _, .condT c x y a H e a' H' hc h => fun env act w Q hS hA hQ =>
    wp_cond_true (by have := ev_VR hA c; rw [hc] at this; exact this.inv_bool) (code_sound hm hprim h env act w Q hS hA hQ)
  | _, _, _, _, _, _, .condF c x y a H e a' H' hc h => fun env act w Q hS hA hQ =>
    wp_cond_false (by have := ev_VR hA c; rw [hc] at this; exact this.inv_bool) (code_sound hm hprim h env act w Q hS hA hQ)
  | _, _, _, _, _, _, .blockN id c a H e a' H' h he => fun env act w Q hS hA hQ =>
    wp_block (code_sound hm hprim h env act w _ hS hA fun env1 act1 w1 s1 A1 => by
      cases e with
      | exit id' =>
        have hne : ¬ id' = id := fun h => he (by rw [h])
        simp only [Exit.inBlock, hne, if_false]; exact hQ env1 act1 w1 s1 A1
      | normal => exact hQ env1 act1 w1 s1 A1
      | goto l => exact hQ env1 act1 w1 s1 A1
      | ret => exact hQ env1 act1 w1 s1 A1
      | panic ch => exact hQ env1 act1 w1 s1 A1
      | outgrown => exact hQ env1 act1 w1 s1 A1)
  | _, _, _, _, _, _, .blockE id c a H a' H' h => fun env act w Q hS hA hQ =>
    wp_block (code_sound hm hprim h env act w _ hS hA fun env1 act1 w1 s1 A1 => by simp only [Exit.inBlock, if_true]; exact hQ env1 act1 w1 s1 A1)
  | _, _, _, _, _, _, .loop c a H a1 H1 e a' H' a3 H3 a2 H2 b hgh h hgh2 hg hw hl => fun env act w Q hS hA hQ =>
    let ⟨n, hn⟩ := loop_sound hm hprim h
    let ⟨env1, s1, v1⟩ := hgh base env w act.tmps.toList hS hA.1
    wp_loop_rounds n (hn env1 act w Q (s1.sr.mark _) ⟨v1, hA.2⟩ fun env2 act2 w2 s2 A2 => by
      obtain ⟨env3, sg, vg⟩ := hgh2 base env2 w2 act2.tmps.toList s2.sr A2.1
      obtain ⟨s3, hb1, hb2⟩ := gc_sim s1.sr (s2.trans sg) hg
      refine hQ env3 act2 w2 (s1.trans s3) ⟨?_, A2.2⟩
      have hv := hw.VRs vg
      cases b with
      | true => rw [hb1 rfl]; exact hv.lower (hl rfl)
      | false => rw [hb2 rfl]; exact hv)
  | _, _, _, _, _, _, .region id ops a H a' H' h => fun env act w Q hS hA hQ => wp_region_list (ops_sound hm hprim h env act w Q hS hA hQ)
  | _, _, _, _, _, _, .draw id ops c a H CR h hCR => fun env act w Q hS hA hQ =>
    draw_sound hm h (fun f args H1 v H2 hc => call_sound hm hprim (hCR f args H1 v H2 hc)) hS hA id fun act' w' env' s A => hQ env' act' w' s A
theorem loop_sound (hm : P.follows .mixedOrders = true) (hprim : ∀ f args H v H', prim f args H v H' → CallSound P base f args H v H') : ∀ {c : Code} {a : List IV} {H : IH} {e : Exit} {a' : List IV} {H' : IH}, ILoop P prim c a H e a' H' → LoopSound P base c a H e a' H'
  | _, _, _, _, _, _, .out c a H e a1 H1 a3 H3 a2 H2 b h he hgh hg hw hl => ⟨1, fun env act w Q hS hA hQ => code_sound hm hprim h env act w _ (hS.mark _) hA fun env1 act1 w1 s1 A1 => by
      obtain ⟨env2, sg, vg⟩ := hgh base env1 w1 act1.tmps.toList s1.sr A1.1
      obtain ⟨s2, hb1, hb2⟩ := gc_sim hS (s1.trans sg) hg
      have A2 : AR env2 H2.n a2 act1 := by
        refine ⟨?_, A1.2⟩
        have hv := hw.VRs vg
        cases b with
        | true => rw [hb1 rfl]; exact hv.lower (hl rfl)
        | false => rw [hb2 rfl]; exact hv
      cases e <;> first | exact absurd rfl he | exact hQ env2 act1 w1 s2 A2⟩
  | _, _, _, _, _, _, .next c a H a1 H1 a3 H3 a2 H2 b e a' H' h hgh hg hw hl h2 =>
    let ⟨n, hn⟩ := loop_sound hm hprim h2
    ⟨n + 1, fun env act w Q hS hA hQ => code_sound hm hprim h env act w _ (hS.mark _) hA fun env1 act1 w1 s1 A1 => by
      obtain ⟨env2, sg, vg⟩ := hgh base env1 w1 act1.tmps.toList s1.sr A1.1
      obtain ⟨s2, hb1, hb2⟩ := gc_sim hS (s1.trans sg) hg
      have A2 : AR env2 H2.n a2 act1 := by
        refine ⟨?_, A1.2⟩
        have hv := hw.VRs vg
        cases b with
        | true => rw [hb1 rfl]; exact hv.lower (hl rfl)
        | false => rw [hb2 rfl]; exact hv
      exact hn env2 act1 w1 Q s2.sr A2 fun env3 act2 w2 s3 A3 => hQ env3 act2 w2 (s2.trans s3) A3⟩
theorem ops_sound (hm : P.follows .mixedOrders = true) (hprim : ∀ f args H v H', prim f args H v H' → CallSound P base f args H v H') : ∀ {ops : Array Oper} {l : List Oper} {a : List IV} {H : IH} {a' : List IV} {H' : IH}, IOps P prim ops l a H a' H' → OpsSound P base ops l a H a' H'
  | _, _, _, _, _, _, .nil ops a H => fun env act w Q hS hA hQ => hQ env act w (Sim.refl hS) hA
  | _, _, _, _, _, _, .idle ops o r a H a' H' hw h => fun env act w Q hS hA hQ =>
    ops_idle (wanted_sound hA hw) (ops_sound hm hprim h env _ w Q hS (iput_AR hA o.dst (.tup [] [] .nil)) hQ)
  | _, _, _, _, _, _, .read ops o r a H a' H' v hw hs h => fun env act w Q hS hA hQ =>
    let ⟨x, hx, hvx⟩ := stepR_sound hS (fun x => ev_VR hA x) o hs
    ops_val (wanted_sound hA hw) (.inl hx) (ops_sound hm hprim h env _ w Q hS (iput_AR hA o.dst hvx) hQ)
  | _, _, _, _, _, _, .make ops o r a H a' H' ib mk hw hs h => fun env act w Q hS hA hQ =>
    let ⟨x, w1, env1, hx, s1, hvx⟩ := stepA_sound hS (fun x => ev_VR hA x) o hs
    ops_val (wanted_sound hA hw) (.inl hx) (ops_sound hm hprim h env1 _ w1 Q s1.sr (iput_AR (hA.mono s1.envEq.on s1.nle) o.dst hvx) fun env2 act2 w2 s2 A2 => hQ env2 act2 w2 (s1.trans s2) A2)
  | _, _, _, _, _, _, .eff ops o r a H a' H' v H1 hw hs h => fun env act w Q hS hA hQ =>
    let ⟨x, w1, env1, hx, s1, hvx⟩ := stepE_sound hS (fun x => ev_VR hA x) o hs
    ops_val (wanted_sound hA hw) hx (ops_sound hm hprim h env1 _ w1 Q s1.sr (iput_AR (hA.mono s1.envEq.on s1.nle) o.dst hvx) fun env2 act2 w2 s2 A2 => hQ env2 act2 w2 (s1.trans s2) A2)
  | _, _, _, _, _, _, .call ops o r a H a' H' f args v H1 hw hs hc h => fun env act w Q hS hA hQ => by
    obtain ⟨⟨fn, hf, hb, hnm⟩, hcs⟩ := call_sound hm hprim hc
    obtain ⟨xs, hrun, hxs⟩ := stepC_sound (P := P) (H := H) (w := w) (fun x => ev_VR hA x) o hs hf hb hnm
    unfold wpList
    rw [wanted_sound hA hw]
    simp only [if_true]
    refine .inl ?_
    unfold Oper.wp
    rw [hrun]
    refine Calls.mono (hcs env w xs hS hxs) fun e w1 => ?_
    rintro ⟨x, env1, rfl, s1, hvx⟩
    exact ops_sound hm hprim h env1 _ w1 Q s1.sr (iput_AR (hA.mono s1.envEq.on s1.nle) o.dst hvx) fun env2 act2 w2 s2 A2 => hQ env2 act2 w2 (s1.trans s2) A2
theorem call_sound (hm : P.follows .mixedOrders = true) (hprim : ∀ f args H v H', prim f args H v H' → CallSound P base f args H v H') : ∀ {f : FuncId} {args : List IV} {H : IH} {v : IV} {H' : IH}, ICall P prim f args H v H' → CallSound P base f args H v H'
  | _, _, _, _, _, .prim f args H v H' h => hprim f args H v H' h
  | _, _, _, _, _, .gh f args H args' H' v H2 hgh h => by
    obtain ⟨h1, hcs⟩ := call_sound hm hprim h
    refine ⟨h1, fun env w xs hS hxs => ?_⟩
    obtain ⟨env1, s1, hv1⟩ := hgh base env w xs hS hxs
    refine Calls.mono (hcs env1 w xs s1.sr hv1) fun e w1 => ?_
    rintro ⟨x, env2, rfl, s2, hvx⟩
    exact ⟨x, env2, rfl, s1.trans s2, hvx⟩
  | _, _, _, _, _, .body f args H fn c e a' H1 v v' H3 H2 b hf hn hb h he hv hgh hg hl => ⟨⟨fn, hf, by rw [hb]; rfl, hn⟩, fun env w xs hS hxs => by
    refine calls_of_wp hf hb ?_
    refine code_sound hm hprim h env _ w _ (hS.mark _) ⟨?_, rfl⟩ fun env1 act1 w1 s1 A1 => ?_
    · have : (xs.toArray ++ Array.replicate (fn.ntmps - xs.toArray.size) undef).toList = xs ++ List.replicate (fn.ntmps - args.length) undef := by
        have := hxs.length
        simp [this]
      simp only [this]
      exact hxs.append (VRs.replicate (.tup [] [] .nil) _)
    · obtain ⟨x, hx, hvx⟩ := ires_sound (fn := fn) s1.sr A1 hv
      obtain ⟨env2, sg, vg⟩ := hgh base env1 w1 [x] s1.sr (.cons _ _ _ _ hvx .nil)
      obtain ⟨s2, hb1, hb2⟩ := gc_sim hS (s1.trans sg) hg
      have hvx' : VR env2 H3.n v' x := by cases vg; assumption
      have hv2 : VR env2 H2.n v' x := by
        cases b with
        | true => rw [hb1 rfl]; exact hvx'.lower (hl rfl)
        | false => rw [hb2 rfl]; exact hvx'
      rcases he with rfl | rfl
      · exact ⟨A1.2, x, hx, x, env2, rfl, s2, hv2⟩
      · exact ⟨A1.2, x, hx, x, env2, rfl, s2, hv2⟩⟩
end

end sound
end Go.Proofs.Ytnapimfiikgaiaa.Eng
