/- The ideal machine, part 16: evaluation by rewriting. Nothing here is a claim of its own. -/
import Derived.Test.YtnapimfiikgaiaaEng17
namespace Go.Proofs.Ytnapimfiikgaiaa.Eng
open Go.RowKit
set_option linter.unusedSimpArgs false
set_option linter.unusedVariables false

section
variable (P : Program) (prim : CallRel)

abbrev Post := Exit → List IV → IH → Prop

def IH.mark (H : IH) : IH := ⟨H.n, H.f, H.n⟩

/-- The operations of a region, in the order of the text. -/
def wops (ops : Array Oper) : List Oper → List IV → IH → (List IV → IH → Prop) → Prop
  | [], a, H, Q => Q a H
  | o :: r, a, H, Q =>
    match iwanted ops o a with
    | none => False
    | some false => wops ops r (iput a o.dst (.tup [])) H Q
    | some true =>
      match stepR P (ev a) H o.op with
      | some v => wops ops r (iput a o.dst v) H Q
      | none => match stepA P (ev a) o.op with
        | some (ib, mk) => wops ops r (iput a o.dst (mk H.n)) (H.push ib) Q
        | none => match stepE P (ev a) H o.op with
          | some (v, H1) => wops ops r (iput a o.dst v) H1 Q
          | none => match stepC (ev a) o.op with
            | some (f, args) => wcall P prim f args H fun v H1 => wops ops r (iput a o.dst v) H1 Q
            | none => False

/-- What is left behind a round, a loop, a call: seen otherwise, rid of what was made, slots forgotten. -/
def lout (H : IH) (a1 : List IV) (H1 : IH) (R : List IV → IH → Prop) : Prop := ∃ a3 H3 a2 H2 b, Gh a1 H1 a3 H3 ∧ GcH H H3 H2 b ∧ Weak a3 a2 ∧ (b = true → ∀ v ∈ a2, Lt H.n v) ∧ R a2 H2
def wloop (c : Code) (a : List IV) (H : IH) (Q : Post) : Prop := ∃ a1 H1 e a' H', Gh a H a1 H1 ∧ ILoop P prim c a1 H1.mark e a' H' ∧ lout H1 a' H' (Q e)
/-- The plans of the regions that draw, by their numbers. -/
abbrev Plans := Nat → List DI × Nat
variable (D : Plans)
def wcode : Code → List IV → IH → Post → Prop
  | .skip, a, H, Q => Q .normal a H
  | .ret, a, H, Q => Q .ret a H
  | .exit id, a, H, Q => Q (.exit id) a H
  | .seq x y, a, H, Q => wcode x a H fun e a1 H1 => match e with
    | .normal => wcode y a1 H1 Q
    | e => Q e a1 H1
  | .cond c x y, a, H, Q => match ev a c with
    | .bool b => (b = true → wcode x a H Q) ∧ (b = false → wcode y a H Q)
    | _ => False
  | .block id c, a, H, Q => wcode c a H fun e a1 H1 => match e with
    | .exit id' => if id' = id then Q .normal a1 H1 else Q (.exit id') a1 H1
    | e => Q e a1 H1
  | .loop c, a, H, Q => wloop P prim c a H Q
  | .region id ops d, a, H, Q => if d then wdr P prim ops H.n (D id).2 (ops.toList.zip (D id).1) a (H.room (D id).2) [] [] [] (Q .normal) else wops P prim ops ops.toList a H (Q .normal)
  | _, _, _, _ => False

/-! The same with continuations that rewriting does not look into. -/
def kseq (y : Code) (Q : Post) : Post := fun e a1 H1 => match e with
    | .normal => wcode P prim D y a1 H1 Q
    | e => Q e a1 H1
def kblock (id : Nat) (Q : Post) : Post := fun e a1 H1 => match e with
    | .exit id' => if id' = id then Q .normal a1 H1 else Q (.exit id') a1 H1
    | e => Q e a1 H1
def kops (ops : Array Oper) (r : List Oper) (a : List IV) (d : Option Tmp) (Q : List IV → IH → Prop) : IV → IH → Prop := fun v H1 => wops P prim ops r (iput a d v) H1 Q
def wcond (v : IV) (x y : Code) (a : List IV) (H : IH) (Q : Post) : Prop := match v with
    | .bool b => (b = true → wcode P prim D x a H Q) ∧ (b = false → wcode P prim D y a H Q)
    | _ => False
/-! An operation's four readings, one behind the other. -/
def wcl (o : Oper) (ops : Array Oper) (r : List Oper) (a : List IV) (H : IH) (Q : List IV → IH → Prop) (q : Option (FuncId × List IV)) : Prop := match q with
  | some (f, args) => wcall P prim f args H (kops P prim ops r a o.dst Q)
  | none => False
def wef (o : Oper) (ops : Array Oper) (r : List Oper) (a : List IV) (H : IH) (Q : List IV → IH → Prop) (q : Option (IV × IH)) : Prop := match q with
  | some (v, H1) => wops P prim ops r (iput a o.dst v) H1 Q
  | none => wcl P prim o ops r a H Q (stepC (ev a) o.op)
def wmk (o : Oper) (ops : Array Oper) (r : List Oper) (a : List IV) (H : IH) (Q : List IV → IH → Prop) (q : Option (IB × (Nat → IV))) : Prop := match q with
  | some (ib, mk) => wops P prim ops r (iput a o.dst (mk H.n)) (H.push ib) Q
  | none => wef P prim o ops r a H Q (stepE P (ev a) H o.op)
def wdo (o : Oper) (ops : Array Oper) (r : List Oper) (a : List IV) (H : IH) (Q : List IV → IH → Prop) (q : Option IV) : Prop := match q with
  | some v => wops P prim ops r (iput a o.dst v) H Q
  | none => wmk P prim o ops r a H Q (stepA P (ev a) o.op)
def wif (o : Oper) (ops : Array Oper) (r : List Oper) (a : List IV) (H : IH) (Q : List IV → IH → Prop) (q : Option Bool) : Prop := match q with
  | none => False
  | some false => wops P prim ops r (iput a o.dst (.tup [])) H Q
  | some true => wdo P prim o ops r a H Q (stepR P (ev a) H o.op)

variable {P prim D}

theorem wops_sound {ops : Array Oper} : ∀ {l : List Oper} {a : List IV} {H : IH} {Q : List IV → IH → Prop}, wops P prim ops l a H Q → ∃ a' H', IOps P prim ops l a H a' H' ∧ Q a' H'
  | [], a, H, Q, h => ⟨a, H, .nil _ _ _, h⟩
  | o :: r, a, H, Q, h => by
    simp only [wops] at h
    split at h
    · exact h.elim
    · rename_i hw
      obtain ⟨a', H', h1, h2⟩ := wops_sound h
      exact ⟨a', H', .idle _ _ _ _ _ _ _ hw h1, h2⟩
    · rename_i hw
      split at h
      · rename_i v hs
        obtain ⟨a', H', h1, h2⟩ := wops_sound h
        exact ⟨a', H', .read _ _ _ _ _ _ _ v hw hs h1, h2⟩
      · split at h
        · rename_i ib mk hs
          obtain ⟨a', H', h1, h2⟩ := wops_sound h
          exact ⟨a', H', .make _ _ _ _ _ _ _ ib mk hw hs h1, h2⟩
        · split at h
          · rename_i v H1 hs
            obtain ⟨a', H', h1, h2⟩ := wops_sound h
            exact ⟨a', H', .eff _ _ _ _ _ _ _ v H1 hw hs h1, h2⟩
          · split at h
            · rename_i f args hs
              obtain ⟨v, H1, hc, h⟩ := h
              obtain ⟨a', H', h1, h2⟩ := wops_sound h
              exact ⟨a', H', .call _ _ _ _ _ _ _ f args v H1 hw hs hc h1, h2⟩
            · exact h.elim

/-- Every region that draws has its plan. -/
def plansOK (D : Plans) : Code → Bool
  | .seq x y => plansOK D x && plansOK D y
  | .cond _ x y => plansOK D x && plansOK D y
  | .block _ c => plansOK D c
  | .loop c => plansOK D c
  | .region id ops d => !d || planOK ops (D id)
  | _ => true

theorem wcode_sound : ∀ {c : Code} {a : List IV} {H : IH} {Q : Post}, plansOK D c = true → wcode P prim D c a H Q → ∃ e a' H', ICode P prim c a H e a' H' ∧ Q e a' H'
  | .skip, a, H, Q, hd, h => ⟨_, _, _, .skip a H, h⟩
  | .ret, a, H, Q, hd, h => ⟨_, _, _, .ret a H, h⟩
  | .exit id, a, H, Q, hd, h => ⟨_, _, _, .exit id a H, h⟩
  | .seq x y, a, H, Q, hd, h => by
    simp only [plansOK, Bool.and_eq_true] at hd
    simp only [wcode] at h
    obtain ⟨e, a1, H1, h1, h2⟩ := wcode_sound hd.1 h
    cases e with
    | normal =>
      obtain ⟨e, a2, H2, h3, h4⟩ := wcode_sound hd.2 h2
      exact ⟨e, a2, H2, .seqN _ _ _ _ _ _ _ _ _ h1 h3, h4⟩
    | exit id => exact ⟨_, _, _, .seqE _ _ _ _ _ _ _ h1 (by simp), h2⟩
    | goto l => exact ⟨_, _, _, .seqE _ _ _ _ _ _ _ h1 (by simp), h2⟩
    | ret => exact ⟨_, _, _, .seqE _ _ _ _ _ _ _ h1 (by simp), h2⟩
    | panic ch => exact ⟨_, _, _, .seqE _ _ _ _ _ _ _ h1 (by simp), h2⟩
    | outgrown => exact ⟨_, _, _, .seqE _ _ _ _ _ _ _ h1 (by simp), h2⟩
  | .cond c x y, a, H, Q, hd, h => by
    simp only [plansOK, Bool.and_eq_true] at hd
    simp only [wcode] at h
    split at h
    · rename_i b hb
      cases b with
      | true => obtain ⟨e, a1, H1, h1, h2⟩ := wcode_sound hd.1 (h.1 rfl); exact ⟨_, _, _, .condT _ _ _ _ _ _ _ _ hb h1, h2⟩
      | false => obtain ⟨e, a1, H1, h1, h2⟩ := wcode_sound hd.2 (h.2 rfl); exact ⟨_, _, _, .condF _ _ _ _ _ _ _ _ hb h1, h2⟩
    · exact h.elim
  | .block id c, a, H, Q, hd, h => by
    simp only [wcode] at h
    obtain ⟨e, a1, H1, h1, h2⟩ := wcode_sound (c := c) hd h
    cases e with
    | exit id' =>
      simp only at h2
      by_cases hid : id' = id
      · rw [if_pos hid] at h2; subst hid; exact ⟨_, _, _, .blockE _ _ _ _ _ _ h1, h2⟩
      · rw [if_neg hid] at h2; exact ⟨_, _, _, .blockN _ _ _ _ _ _ _ h1 (by simp [hid]), h2⟩
    | normal => exact ⟨_, _, _, .blockN _ _ _ _ _ _ _ h1 (by simp), h2⟩
    | goto l => exact ⟨_, _, _, .blockN _ _ _ _ _ _ _ h1 (by simp), h2⟩
    | ret => exact ⟨_, _, _, .blockN _ _ _ _ _ _ _ h1 (by simp), h2⟩
    | panic ch => exact ⟨_, _, _, .blockN _ _ _ _ _ _ _ h1 (by simp), h2⟩
    | outgrown => exact ⟨_, _, _, .blockN _ _ _ _ _ _ _ h1 (by simp), h2⟩
  | .loop c, a, H, Q, hd, h => by
    obtain ⟨a1, H1, e, a', H', hg, h1, a3, H3, a2, H2, b, g2, gc, w, l, h2⟩ := h
    exact ⟨e, a2, H2, .loop _ _ _ _ _ _ _ _ _ _ _ _ _ hg h1 g2 gc w l, h2⟩
  | .region id ops d, a, H, Q, hd, h => by
    simp only [wcode] at h
    cases d with
    | true => obtain ⟨a', H', h1, h2⟩ := wdr_sound (pl := D id) (by simpa [plansOK] using hd) id h; exact ⟨_, a', H', h1, h2⟩
    | false => obtain ⟨a', H', h1, h2⟩ := wops_sound h; exact ⟨_, a', H', .region _ _ _ _ _ _ h1, h2⟩
  | .rangeFunc .., a, H, Q, hd, h => by simp [wcode] at h
  | .scope .., a, H, Q, hd, h => by simp [wcode] at h
  | .label .., a, H, Q, hd, h => by simp [wcode] at h
  | .goto .., a, H, Q, hd, h => by simp [wcode] at h
  | .refuse .., a, H, Q, hd, h => by simp [wcode] at h


section rules
variable {ops : Array Oper} {o : Oper} {r : List Oper} {a : List IV} {H : IH} {x y c : Code} {id : Nat} {Q : Post} {R : List IV → IH → Prop}
theorem w_nil : wops P prim ops [] a H R = R a H := rfl
theorem w_cons : wops P prim ops (o :: r) a H R = wif P prim o ops r a H R (iwanted ops o a) := by
  simp only [wops]
  cases iwanted ops o a with
  | none => rfl
  | some b => cases b with
    | false => rfl
    | true =>
      simp only [wif]
      cases stepR P (ev a) H o.op with
      | some v => rfl
      | none =>
        simp only [wdo]
        cases stepA P (ev a) o.op with
        | some x => rfl
        | none =>
          simp only [wmk]
          cases stepE P (ev a) H o.op with
          | some x => rfl
          | none =>
            simp only [wef]
            cases stepC (ev a) o.op with
            | some x => rfl
            | none => rfl
theorem w_if_no : wif P prim o ops r a H R (some false) = wops P prim ops r (iput a o.dst (.tup [])) H R := rfl
theorem w_if_yes : wif P prim o ops r a H R (some true) = wdo P prim o ops r a H R (stepR P (ev a) H o.op) := rfl
theorem w_do {v : IV} : wdo P prim o ops r a H R (some v) = wops P prim ops r (iput a o.dst v) H R := rfl
theorem w_do_none : wdo P prim o ops r a H R none = wmk P prim o ops r a H R (stepA P (ev a) o.op) := rfl
theorem w_mk {ib : IB} {mk : Nat → IV} : wmk P prim o ops r a H R (some (ib, mk)) = wops P prim ops r (iput a o.dst (mk H.n)) (H.push ib) R := rfl
theorem w_mk_none : wmk P prim o ops r a H R none = wef P prim o ops r a H R (stepE P (ev a) H o.op) := rfl
theorem w_ef {v : IV} {H1 : IH} : wef P prim o ops r a H R (some (v, H1)) = wops P prim ops r (iput a o.dst v) H1 R := rfl
theorem w_ef_none : wef P prim o ops r a H R none = wcl P prim o ops r a H R (stepC (ev a) o.op) := rfl
theorem w_cl {f : FuncId} {args : List IV} : wcl P prim o ops r a H R (some (f, args)) = wcall P prim f args H (kops P prim ops r a o.dst R) := rfl
theorem w_skip : wcode P prim D .skip a H Q = Q .normal a H := rfl
theorem w_ret : wcode P prim D .ret a H Q = Q .ret a H := rfl
theorem w_exit : wcode P prim D (.exit id) a H Q = Q (.exit id) a H := rfl
theorem w_seq : wcode P prim D (.seq x y) a H Q = wcode P prim D x a H (kseq P prim D y Q) := rfl
theorem w_block : wcode P prim D (.block id c) a H Q = wcode P prim D c a H (kblock id Q) := rfl
theorem w_cond {v : Operand} : wcode P prim D (.cond v x y) a H Q = wcond P prim D (ev a v) x y a H Q := rfl
theorem w_loop : wcode P prim D (.loop c) a H Q = wloop P prim c a H Q := rfl
theorem w_region : wcode P prim D (.region id ops false) a H Q = wops P prim ops ops.toList a H (Q .normal) := rfl
theorem w_draw : wcode P prim D (.region id ops true) a H Q = wdr P prim ops H.n (D id).2 (ops.toList.zip (D id).1) a (H.room (D id).2) [] [] [] (Q .normal) := rfl
theorem k_seq_n : kseq P prim D y Q .normal a H = wcode P prim D y a H Q := rfl
theorem k_seq_r : kseq P prim D y Q .ret a H = Q .ret a H := rfl
theorem k_seq_e : kseq P prim D y Q (.exit id) a H = Q (.exit id) a H := rfl
theorem k_block_n : kblock id Q .normal a H = Q .normal a H := rfl
theorem k_block_r : kblock id Q .ret a H = Q .ret a H := rfl
theorem k_block_e {id' : Nat} : kblock id Q (.exit id') a H = if id' = id then Q .normal a H else Q (.exit id') a H := rfl
theorem k_ops {d : Option Tmp} {v : IV} : kops P prim ops r a d R v H = wops P prim ops r (iput a d v) H R := rfl
theorem w_cond_t : wcond P prim D (.bool true) x y a H Q = wcode P prim D x a H Q := by simp [wcond]
theorem w_cond_f : wcond P prim D (.bool false) x y a H Q = wcode P prim D y a H Q := by simp [wcond]
theorem w_cond_of {b : Bool} (h1 : b = true → wcode P prim D x a H Q) (h2 : b = false → wcode P prim D y a H Q) : wcond P prim D (.bool b) x y a H Q := ⟨h1, h2⟩
theorem w_cond_dec {p : Prop} [Decidable p] (h1 : p → wcode P prim D x a H Q) (h2 : ¬ p → wcode P prim D y a H Q) : wcond P prim D (.bool (decide p)) x y a H Q := ⟨fun h => h1 (of_decide_eq_true h), fun h => h2 (of_decide_eq_false h)⟩
theorem w_call {f : FuncId} {args : List IV} {K : IV → IH → Prop} {v : IV} {H' : IH} (h : ICall P prim f args H v H') (hk : K v H') : wcall P prim f args H K := ⟨v, H', h, hk⟩
end rules

theorem Weak.rfl : ∀ {a : List IV}, Weak a a
  | [] => .nil
  | v :: l => .keep v l l Weak.rfl
section
variable {H H1 : IH} {a1 : List IV} {R : List IV → IH → Prop}
theorem lout_raw {a2 : List IV} (hw : Weak a1 a2) (h : R a2 ⟨H1.n, H1.f, min H.lo H1.lo⟩) : lout H a1 H1 R := ⟨a1, H1, a2, _, false, Gh.refl _ _, .raw, hw, fun h => (by cases h), h⟩
theorem lout_quiet {a2 : List IV} (hl : H.n ≤ H1.lo) (hw : Weak a1 a2) (hlt : ∀ v ∈ a2, Lt H.n v) (h : R a2 H) : lout H a1 H1 R := ⟨a1, H1, a2, _, true, Gh.refl _ _, .quiet hl, hw, fun _ => hlt, h⟩
theorem lout_part {a2 : List IV} {H2 : IH} (hn : H2.n = H.n) (hf : ∀ i, i < H.n → H2.f i = H1.f i) (hlo : H2.lo ≤ min H.lo H1.lo) (hl : ∀ i, i < H.n → H1.f i = H.f i ∨ LtB H.n (H1.f i)) (hw : Weak a1 a2) (hlt : ∀ v ∈ a2, Lt H.n v) (h : R a2 H2) : lout H a1 H1 R :=
  ⟨a1, H1, a2, _, true, Gh.refl _ _, .part H2 hn hf hlo hl, hw, fun _ => hlt, h⟩
theorem lout_gh {a3 : List IV} {H3 : IH} (hg : Gh a1 H1 a3 H3) (h : lout H a3 H3 R) : lout H a1 H1 R := by
  obtain ⟨a4, H4, a2, H2, b, g, gc, w, l, r⟩ := h
  exact ⟨a4, H4, a2, H2, b, hg.trans g, gc, w, l, r⟩
end
/-- A call's end. -/
def KE (P : Program) (H : IH) (rs : List ResultVar) (Q : IV → IH → Prop) : Post := fun e a' H1 => (e = .normal ∨ e = .ret) ∧ ∃ v, ires P a' H1 rs = some v ∧ lout H [v] H1 fun a2 H2 => ∃ v', a2 = [v'] ∧ Q v' H2
theorem call_gen {f : FuncId} {args : List IV} {H : IH} {fn : Func} {c : Code} {Q : IV → IH → Prop} {nt : Nat} {rs : List ResultVar} (hf : P.funcs[f]? = some fn) (hr : fn.results.toList = rs) (ht : fn.ntmps = nt) (hn : (fn.name == "runtime.NumGoroutine") = false) (hb : fn.body = some c) (hd : plansOK D c = true)
    (h : wcode P prim D c (args ++ List.replicate (nt - args.length) (.tup [])) H.mark (KE P H rs Q)) : wcall P prim f args H Q := by
  subst hr; subst ht
  obtain ⟨e, a', H1, h1, he, v, hv, a3, H3, a2, H2, b, hg, hgc, hw, hl, v', rfl, hq⟩ := wcode_sound hd h
  cases hw with
  | keep _ _ _ hw' =>
    cases hw'
    exact ⟨v', _, .body f args H fn c e a' H1 v v' H3 H2 b hf hn hb h1 he hv hg hgc fun h => hl h v' (by simp), hq⟩
  | kill v3 _ _ hw' =>
    cases hw'
    exact ⟨.dead, _, .body f args H fn c e a' H1 v .dead H3 H2 b hf hn hb h1 he hv (hg.trans (Gh.weak (.kill _ _ _ .nil))) hgc fun h => hl h .dead (by simp), hq⟩
/-- Arguments seen otherwise. -/
theorem wcall_gh {f : FuncId} {args args' : List IV} {H H' : IH} {K : IV → IH → Prop} (hg : Gh args H args' H') (h : wcall P prim f args' H' K) : wcall P prim f args H K := by
  obtain ⟨v, H2, h1, h2⟩ := h
  exact ⟨v, H2, .gh f args H args' H' v H2 hg h1, h2⟩
theorem wcall_mono {f : FuncId} {args : List IV} {H : IH} {K K' : IV → IH → Prop} (h : wcall P prim f args H K) (hk : ∀ v H', K v H' → K' v H') : wcall P prim f args H K' := by
  obtain ⟨v, H2, h1, h2⟩ := h
  exact ⟨v, H2, h1, hk v H2 h2⟩

/-- A call that leaves the heap as it was. -/
def KQ (P : Program) (H : IH) (rs : List ResultVar) (v : IV) : Post := fun e a' H1 => (e = .normal ∨ e = .ret) ∧ ires P a' H1 rs = some v ∧ H.n ≤ H1.lo ∧ Lt H.n v
theorem call_quiet {f : FuncId} {args : List IV} {H : IH} {fn : Func} {c : Code} {v : IV} {nt : Nat} {rs : List ResultVar} (hf : P.funcs[f]? = some fn) (hr : fn.results.toList = rs) (ht : fn.ntmps = nt) (hn : (fn.name == "runtime.NumGoroutine") = false) (hb : fn.body = some c) (hd : plansOK D c = true)
    (h : wcode P prim D c (args ++ List.replicate (nt - args.length) (.tup [])) H.mark (KQ P H rs v)) : ICall P prim f args H v H := by
  subst hr; subst ht
  obtain ⟨e, a', H1, h1, he, hv, hl, hlt⟩ := wcode_sound hd h
  exact .body f args H fn c e a' H1 v v H1 H true hf hn hb h1 he hv (Gh.refl _ _) (.quiet hl) fun _ => hlt
/-- Back at a call's or a round's start: the mark falls to what it was. -/
def IH.back (H H1 : IH) : IH := ⟨H1.n, H1.f, min H.lo H1.lo⟩
/-- A call that keeps what it made. -/
def KR (P : Program) (H : IH) (rs : List ResultVar) (Q : IV → IH → Prop) : Post := fun e a' H1 => (e = .normal ∨ e = .ret) ∧ ∃ v, ires P a' H1 rs = some v ∧ Q v (H.back H1)
theorem call_raw {f : FuncId} {args : List IV} {H : IH} {fn : Func} {c : Code} {Q : IV → IH → Prop} {nt : Nat} {rs : List ResultVar} (hf : P.funcs[f]? = some fn) (hr : fn.results.toList = rs) (ht : fn.ntmps = nt) (hn : (fn.name == "runtime.NumGoroutine") = false) (hb : fn.body = some c) (hd : plansOK D c = true)
    (h : wcode P prim D c (args ++ List.replicate (nt - args.length) (.tup [])) H.mark (KR P H rs Q)) : wcall P prim f args H Q := by
  subst hr; subst ht
  obtain ⟨e, a', H1, h1, he, v, hv, hq⟩ := wcode_sound hd h
  exact ⟨v, _, .body f args H fn c e a' H1 v v H1 _ false hf hn hb h1 he hv (Gh.refl _ _) .raw (fun h => by cases h), hq⟩

end
end Go.Proofs.Ytnapimfiikgaiaa.Eng
