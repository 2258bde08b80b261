/- The ideal machine, part 18: rules for evaluation (drawn regions, loops, what a call leaves), and the set of rules that evaluate. Nothing here is a claim of its own. -/
import Derived.Test.YtnapimfiikgaiaaEng16
import Derived.Attr
namespace Go.Proofs.Ytnapimfiikgaiaa.Eng
open Go.RowKit
set_option linter.unusedSimpArgs false
set_option linter.unusedVariables false

/-! #### drawn regions, by steps -/
section
variable (P : Program) (prim : CallRel)
def kdr (ops : Array Oper) (n0 m k : Nat) (o : Oper) (rest : List (Oper × DI)) (a : List IV) (V : IH) (past : List IH) (pm : List (Nat × Nat × IB)) (later : List (Nat × Nat)) (Q : List IV → IH → Prop) : IV → IH → Prop := fun v H1 =>
  keepLater k V H1 later ∧ wdr P prim ops n0 m rest (iput a o.dst v) H1 (past ++ [V]) pm later Q
def dcl (ops : Array Oper) (n0 m k : Nat) (o : Oper) (rest : List (Oper × DI)) (a : List IV) (V : IH) (past : List IH) (pm : List (Nat × Nat × IB)) (later : List (Nat × Nat)) (Q : List IV → IH → Prop) : Option (FuncId × List IV) → Prop
  | none => False
  | some (f, args) => wcall P prim f args (inst V k pm) (kdr P prim ops n0 m k o rest a V past pm later Q)
def deff (ops : Array Oper) (n0 m k : Nat) (o : Oper) (rest : List (Oper × DI)) (a : List IV) (V : IH) (past : List IH) (pm : List (Nat × Nat × IB)) (later : List (Nat × Nat)) (Q : List IV → IH → Prop) : Option (IV × IH) → Prop
  | some (v, H1) => keepLater k V H1 later ∧ wdr P prim ops n0 m rest (iput a o.dst v) H1 (past ++ [V]) pm later Q
  | none => dcl P prim ops n0 m k o rest a V past pm later Q (stepC (ev a) o.op)
def drid (ops : Array Oper) (n0 m hi lo : Nat) (o : Oper) (rest : List (Oper × DI)) (a : List IV) (V : IH) (past : List IH) (pm : List (Nat × Nat × IB)) (later : List (Nat × Nat)) (Q : List IV → IH → Prop) (v : IV) : Option Nat → Prop
  | none => wdr P prim ops n0 m rest (iput a o.dst v) V past pm later Q
  | some r => (m = 0 ∨ r < n0 ∨ n0 + m ≤ r) ∧ keepPast (V.f r) r (past.drop lo) ∧ wdr P prim ops n0 m rest (iput a o.dst v) V past pm (if past.length < hi then (r, hi) :: later else later) Q
def dread (ops : Array Oper) (n0 m hi lo : Nat) (o : Oper) (rest : List (Oper × DI)) (a : List IV) (V : IH) (past : List IH) (pm : List (Nat × Nat × IB)) (later : List (Nat × Nat)) (Q : List IV → IH → Prop) : Option IV → Prop
  | none => False
  | some v => drid P prim ops n0 m hi lo o rest a V past pm later Q v (rid (ev a) o.op)
def dmake (ops : Array Oper) (n0 m r kap : Nat) (o : Oper) (rest : List (Oper × DI)) (a : List IV) (V : IH) (past : List IH) (pm : List (Nat × Nat × IB)) (later : List (Nat × Nat)) (Q : List IV → IH → Prop) : Option (IB × (Nat → IV)) → Prop
  | none => False
  | some (ib, mk) => wdr P prim ops n0 m rest (iput a o.dst (mk (n0 + r))) V past ((n0 + r, kap, ib) :: pm) later Q
def dif (ops : Array Oper) (n0 m : Nat) (o : Oper) (d : DI) (rest : List (Oper × DI)) (a : List IV) (V : IH) (past : List IH) (pm : List (Nat × Nat × IB)) (later : List (Nat × Nat)) (Q : List IV → IH → Prop) : Option Bool → Prop
  | none => False
  | some false => match d with
    | .ef k => wdr P prim ops n0 m rest (iput a o.dst (.tup [])) (inst V k pm) (past ++ [V]) pm later Q
    | _ => wdr P prim ops n0 m rest (iput a o.dst (.tup [])) V past pm later Q
  | some true => match d with
    | .rd lo hi => dread P prim ops n0 m hi lo o rest a V past pm later Q (stepR P (ev a) V o.op)
    | .mk r kap => dmake P prim ops n0 m r kap o rest a V past pm later Q (stepA P (ev a) o.op)
    | .ef k => deff P prim ops n0 m k o rest a V past pm later Q (stepE P (ev a) (inst V k pm) o.op)
variable {P prim}
variable {ops : Array Oper} {n0 m k lo hi r kap : Nat} {o : Oper} {d : DI} {rest : List (Oper × DI)} {a : List IV} {V : IH} {past : List IH} {pm : List (Nat × Nat × IB)} {later : List (Nat × Nat)} {Q : List IV → IH → Prop}
theorem d_nil : wdr P prim ops n0 m [] a V past pm later Q = Q a (inst V past.length pm) := rfl
theorem d_cons : wdr P prim ops n0 m ((o, d) :: rest) a V past pm later Q = dif P prim ops n0 m o d rest a V past pm later Q (iwanted ops o a) := by
  simp only [wdr]
  cases iwanted ops o a with
  | none => rfl
  | some b =>
    cases b with
    | false => cases d <;> rfl
    | true =>
      cases d with
      | rd lo hi =>
        simp only [dif, dread]
        cases stepR P (ev a) V o.op with
        | none => rfl
        | some v => simp only [drid]; cases rid (ev a) o.op <;> rfl
      | mk r kap => simp only [dif, dmake]; cases stepA P (ev a) o.op with
        | none => rfl
        | some x => rfl
      | ef k => simp only [dif, deff]; cases stepE P (ev a) (inst V k pm) o.op with
        | none => simp only [dcl]; cases stepC (ev a) o.op <;> rfl
        | some x => rfl
theorem d_no_ef : dif P prim ops n0 m o (.ef k) rest a V past pm later Q (some false) = wdr P prim ops n0 m rest (iput a o.dst (.tup [])) (inst V k pm) (past ++ [V]) pm later Q := rfl
theorem d_no_rd : dif P prim ops n0 m o (.rd lo hi) rest a V past pm later Q (some false) = wdr P prim ops n0 m rest (iput a o.dst (.tup [])) V past pm later Q := rfl
theorem d_no_mk : dif P prim ops n0 m o (.mk r kap) rest a V past pm later Q (some false) = wdr P prim ops n0 m rest (iput a o.dst (.tup [])) V past pm later Q := rfl
theorem d_rd : dif P prim ops n0 m o (.rd lo hi) rest a V past pm later Q (some true) = dread P prim ops n0 m hi lo o rest a V past pm later Q (stepR P (ev a) V o.op) := rfl
theorem d_mk : dif P prim ops n0 m o (.mk r kap) rest a V past pm later Q (some true) = dmake P prim ops n0 m r kap o rest a V past pm later Q (stepA P (ev a) o.op) := rfl
theorem d_ef : dif P prim ops n0 m o (.ef k) rest a V past pm later Q (some true) = deff P prim ops n0 m k o rest a V past pm later Q (stepE P (ev a) (inst V k pm) o.op) := rfl
theorem d_read {v : IV} : dread P prim ops n0 m hi lo o rest a V past pm later Q (some v) = drid P prim ops n0 m hi lo o rest a V past pm later Q v (rid (ev a) o.op) := rfl
theorem d_rid_no {v : IV} : drid P prim ops n0 m hi lo o rest a V past pm later Q v none = wdr P prim ops n0 m rest (iput a o.dst v) V past pm later Q := rfl
theorem d_rid {v : IV} {r : Nat} : drid P prim ops n0 m hi lo o rest a V past pm later Q v (some r) = ((m = 0 ∨ r < n0 ∨ n0 + m ≤ r) ∧ keepPast (V.f r) r (past.drop lo) ∧ wdr P prim ops n0 m rest (iput a o.dst v) V past pm (if past.length < hi then (r, hi) :: later else later) Q) := rfl
theorem d_make {ib : IB} {mk : Nat → IV} : dmake P prim ops n0 m r kap o rest a V past pm later Q (some (ib, mk)) = wdr P prim ops n0 m rest (iput a o.dst (mk (n0 + r))) V past ((n0 + r, kap, ib) :: pm) later Q := rfl
theorem d_eff {v : IV} {H1 : IH} : deff P prim ops n0 m k o rest a V past pm later Q (some (v, H1)) = (keepLater k V H1 later ∧ wdr P prim ops n0 m rest (iput a o.dst v) H1 (past ++ [V]) pm later Q) := rfl
theorem d_call : deff P prim ops n0 m k o rest a V past pm later Q none = dcl P prim ops n0 m k o rest a V past pm later Q (stepC (ev a) o.op) := rfl
theorem d_cl {f : FuncId} {args : List IV} : dcl P prim ops n0 m k o rest a V past pm later Q (some (f, args)) = wcall P prim f args (inst V k pm) (kdr P prim ops n0 m k o rest a V past pm later Q) := rfl
theorem k_dr {v : IV} {H1 : IH} : kdr P prim ops n0 m k o rest a V past pm later Q v H1 = (keepLater k V H1 later ∧ wdr P prim ops n0 m rest (iput a o.dst v) H1 (past ++ [V]) pm later Q) := rfl
end

theorem inst_nil (V : IH) (k : Nat) : inst V k [] = V := rfl
theorem inst_cons (V : IH) (k : Nat) (p : Nat × Nat × IB) (l : List (Nat × Nat × IB)) : inst V k (p :: l) = if p.2.1 = k + 1 then (inst V k l).lay p.1 p.2.2 else inst V k l := rfl
theorem keepPast_nil (b : IB) (r : Nat) : keepPast b r [] = True := rfl
theorem keepPast_cons (b : IB) (r : Nat) (W : IH) (l : List IH) : keepPast b r (W :: l) = (W.f r = b ∧ keepPast b r l) := rfl
theorem keepLater_nil (k : Nat) (V H1 : IH) : keepLater k V H1 [] = True := rfl
theorem keepLater_cons (k : Nat) (V H1 : IH) (x : Nat × Nat) (l : List (Nat × Nat)) : keepLater k V H1 (x :: l) = ((k < x.2 → H1.f x.1 = V.f x.1) ∧ keepLater k V H1 l) := rfl
theorem IH.room_lay (H : IH) (b : IB) : (H.room 1).lay H.n b = H.push b := by
  simp only [IH.room, IH.lay, IH.push]
  congr 1
  funext j
  by_cases h : j = H.n
  · simp [h]
  · rw [if_neg h, if_neg h, if_neg (by omega)]
theorem IH.mark_n (H : IH) : H.mark.n = H.n := id rfl
theorem IH.mark_f (H : IH) : H.mark.f = H.f := id rfl
theorem IH.mark_lo (H : IH) : H.mark.lo = H.n := id rfl
theorem IH.push_n (H : IH) (b : IB) : (H.push b).n = H.n + 1 := id rfl
theorem IH.push_f' (H : IH) (b : IB) (i : Nat) : (H.push b).f i = if i = H.n then b else H.f i := id rfl
theorem IH.push_lo (H : IH) (b : IB) : (H.push b).lo = H.lo := id rfl
theorem IH.set_n (H : IH) (i : Nat) (b : IB) : (H.set i b).n = H.n := id rfl
theorem IH.set_f' (H : IH) (i : Nat) (b : IB) (j : Nat) : (H.set i b).f j = if j = i then b else H.f j := id rfl
theorem IH.set_lo (H : IH) (i : Nat) (b : IB) : (H.set i b).lo = if i < H.lo then i else H.lo := id rfl
theorem IH.lay_n (H : IH) (i : Nat) (b : IB) : (H.lay i b).n = H.n := id rfl
theorem IH.lay_f (H : IH) (i : Nat) (b : IB) (j : Nat) : (H.lay i b).f j = if j = i then b else H.f j := id rfl
theorem IH.lay_lo (H : IH) (i : Nat) (b : IB) : (H.lay i b).lo = H.lo := id rfl
theorem IH.room_n (H : IH) (m : Nat) : (H.room m).n = H.n + m := id rfl
theorem IH.room_f (H : IH) (m i : Nat) : (H.room m).f i = if H.n ≤ i ∧ i < H.n + m then .dead else H.f i := id rfl
theorem IH.room_lo (H : IH) (m : Nat) : (H.room m).lo = H.lo := id rfl
theorem IH.back_n (H H1 : IH) : (H.back H1).n = H1.n := id rfl
theorem IH.back_f (H H1 : IH) : (H.back H1).f = H1.f := id rfl
theorem IH.back_lo (H H1 : IH) : (H.back H1).lo = min H.lo H1.lo := id rfl
theorem IH.mk_n (n : Nat) (f : Nat → IB) (l : Nat) : (⟨n, f, l⟩ : IH).n = n := id rfl
theorem IH.mk_f (n : Nat) (f : Nat → IB) (l : Nat) : (⟨n, f, l⟩ : IH).f = f := id rfl
theorem IH.mk_lo (n : Nat) (f : Nat → IB) (l : Nat) : (⟨n, f, l⟩ : IH).lo = l := id rfl
theorem IH.ext' {H H' : IH} (h1 : H.n = H'.n) (h2 : ∀ i, H.f i = H'.f i) (h3 : H.lo = H'.lo) : H = H' := by
  cases H; cases H'
  simp only at h1 h2 h3
  subst h1; subst h3
  congr 1
  exact funext h2

theorem ev_tmp (a : List IV) (t : Nat) : ev a (.tmp t) = a.getD t .dead := rfl
theorem ev_const (a : List IV) (v : Value) : ev a (.const v) = cv v := rfl
theorem ev_func (a : List IV) (f : FuncId) : ev a (.func f) = .fn (.func f) [] [] := rfl
theorem cv_int (k : IntKind) (n : Int) : cv (.int k n) = .int k n := rfl
theorem cv_bool (b : Bool) : cv (.bool b) = .bool b := rfl
theorem cv_str (s : ByteArray) : cv (.string s) = .str s := rfl
theorem cv_nilp : cv (.pointer none) = .nilp := rfl
theorem cv_nils : cv (.slice none 0 0) = .nils := rfl
theorem cv_nilm : cv (.map none) = .nilm := rfl
theorem cv_nilf : cv .nilFunc = .nilf := rfl
theorem cv_nili : cv .nilIface = .nili := rfl
theorem iput_some (a : List IV) (d : Tmp) (v : IV) : iput a (some d) v = a.set d v := rfl
theorem iput_none (a : List IV) (v : IV) : iput a none v = a := rfl

/-! #### what lies below a mark -/
theorem lt_int {m : Nat} (k : IntKind) (n : Int) : Lt m (.int k n) = True := eq_true (.int k n)
theorem lt_bool {m : Nat} (b : Bool) : Lt m (.bool b) = True := eq_true (.bool b)
theorem lt_str {m : Nat} (b : ByteArray) : Lt m (.str b) = True := eq_true (.str b)
theorem lt_ptr {m i k j : Nat} : Lt m (.ptr i k j) = (i < m) := propext ⟨fun h => by cases h; assumption, fun h => .ptr i k j h⟩
theorem lt_slc {m i k n s : Nat} {f : Bool} : Lt m (.slc i k n s f) = (i < m) := propext ⟨fun h => by cases h; assumption, fun h => .slc i k n s f h⟩
theorem lt_map {m i : Nat} : Lt m (.map i) = (i < m) := propext ⟨fun h => by cases h; assumption, fun h => .map i h⟩
theorem lt_nilp {m : Nat} : Lt m .nilp = True := eq_true .nilp
theorem lt_nils {m : Nat} : Lt m .nils = True := eq_true .nils
theorem lt_nilm {m : Nat} : Lt m .nilm = True := eq_true .nilm
theorem lt_nilf {m : Nat} : Lt m .nilf = True := eq_true .nilf
theorem lt_nili {m : Nat} : Lt m .nili = True := eq_true .nili
theorem lt_dead {m : Nat} : Lt m .dead = True := eq_true .dead
theorem lt_agg {m : Nat} {cs : List IV} : Lt m (.agg cs) = ∀ v ∈ cs, Lt m v := propext ⟨fun h => by cases h; assumption, fun h => .agg cs h⟩
theorem lt_tup {m : Nat} {cs : List IV} : Lt m (.tup cs) = ∀ v ∈ cs, Lt m v := propext ⟨fun h => by cases h; assumption, fun h => .tup cs h⟩
theorem lt_iface {m : Nat} {t : TypeId} {v : IV} : Lt m (.iface t v) = Lt m v := propext ⟨fun h => by cases h; assumption, fun h => .iface t v h⟩
theorem lt_fn {m : Nat} {f : Fn} {fs cs : List IV} : Lt m (.fn f fs cs) = ((∀ v ∈ fs, Lt m v) ∧ ∀ v ∈ cs, Lt m v) := propext ⟨fun h => by cases h; exact ⟨by assumption, by assumption⟩, fun h => .fn f fs cs h.1 h.2⟩
theorem lt_vs {m s : Nat} {es : List (List IV)} {f : Bool} : Lt m (.vs s es f) = ∀ v ∈ es.flatten, Lt m v := propext ⟨fun h => by cases h; assumption, fun h => .vs s es f h⟩
theorem lt_vp {m j : Nat} {e : List IV} : Lt m (.vp e j) = ∀ v ∈ e, Lt m v := propext ⟨fun h => by cases h; assumption, fun h => .vp e j h⟩
theorem all_nil {p : IV → Prop} : (∀ v ∈ ([] : List IV), p v) = True := eq_true (fun v h => by cases h)
theorem all_cons {p : IV → Prop} {x : IV} {l : List IV} : (∀ v ∈ x :: l, p v) = (p x ∧ ∀ v ∈ l, p v) := propext List.forall_mem_cons

/-! #### loops -/
section
variable (P : Program) (prim : CallRel)
def kloop (H : IH) (N : List IV → IH → Prop) (Q : Post) : Post := fun e a1 H1 => match e with
  | .normal => lout H a1 H1 N
  | e => lout H a1 H1 (Q e)
variable {P prim} {H H1 : IH} {a1 : List IV} {N : List IV → IH → Prop} {Q : Post} {R : List IV → IH → Prop}
theorem k_loop_n : kloop H N Q .normal a1 H1 = lout H a1 H1 N := rfl
theorem k_loop_e {id : Nat} : kloop H N Q (.exit id) a1 H1 = lout H a1 H1 (Q (.exit id)) := rfl
theorem k_loop_r : kloop H N Q .ret a1 H1 = lout H a1 H1 (Q .ret) := rfl
/-- A loop, by a measure; what is made in it may be given up behind it. -/
theorem w_loop_ind {D : Plans} {c : Code} (hd : plansOK D c = true) {H : IH} (I : Nat → List IV → IH → Prop) (hstep : ∀ n a H', I n a H' → wcode P prim D c a H'.mark (kloop H' (fun a2 H2 => ∃ n', n' < n ∧ I n' a2 H2) (fun e a2 H2 => lout H a2 H2 (Q e)))) : ∀ n a, I n a H.mark → wloop P prim c a H Q := by
  suffices key : ∀ n a H', I n a H' → ∃ e a' H2, ILoop P prim c a H' e a' H2 ∧ lout H a' H2 (Q e) from fun n a hI => by
    obtain ⟨e, a', H', h1, h2⟩ := key n a H.mark hI
    exact ⟨a, H, e, a', H', Gh.refl _ _, h1, h2⟩
  intro n
  induction n using Nat.strongRecOn with
  | _ n ih =>
    intro a H' hI
    obtain ⟨e, a1, H1, h1, h2⟩ := wcode_sound hd (hstep n a H' hI)
    have out : ∀ e, e ≠ Exit.normal → ICode P prim c a H'.mark e a1 H1 → lout H' a1 H1 (fun a2 H2 => lout H a2 H2 (Q e)) → ∃ e a' H2, ILoop P prim c a H' e a' H2 ∧ lout H a' H2 (Q e) := fun e he h1 h2 => by
      obtain ⟨a3, H3, a2, H2, b, hgh, hg, hw, hl, hq⟩ := h2
      exact ⟨e, a2, H2, .out c a H' e a1 H1 a3 H3 a2 H2 b h1 he hgh hg hw hl, hq⟩
    cases e with
    | normal =>
      obtain ⟨a3, H3, a2, H2, b, hgh, hg, hw, hl, n', hn', hI'⟩ := h2
      obtain ⟨e', a', H4, h3, h4⟩ := ih n' hn' a2 H2 hI'
      exact ⟨e', a', H4, .next c a H' a1 H1 a3 H3 a2 H2 b e' a' H4 h1 hgh hg hw hl h3, h4⟩
    | exit id => exact out _ (by simp) h1 h2
    | goto l => exact out _ (by simp) h1 h2
    | ret => exact out _ (by simp) h1 h2
    | panic ch => exact out _ (by simp) h1 h2
    | outgrown => exact out _ (by simp) h1 h2
end

theorem lout_mono {H H1 : IH} {a1 : List IV} {R R' : List IV → IH → Prop} (hr : ∀ a H, R a H → R' a H) (h : lout H a1 H1 R) : lout H a1 H1 R' := by
  obtain ⟨a3, H3, a2, H2, b, hgh, hg, hw, hl, hq⟩ := h
  exact ⟨a3, H3, a2, H2, b, hgh, hg, hw, hl, hr _ _ hq⟩
theorem w_if_split {P : Program} {prim : CallRel} {o : Oper} {ops : Array Oper} {r : List Oper} {a : List IV} {H : IH} {R : List IV → IH → Prop} {b : Bool} (h1 : b = true → wif P prim o ops r a H R (some true)) (h2 : b = false → wif P prim o ops r a H R (some false)) : wif P prim o ops r a H R (some b) := by
  cases b with
  | true => exact h1 rfl
  | false => exact h2 rfl
theorem d_if_split {P : Program} {prim : CallRel} {ops : Array Oper} {n0 m : Nat} {o : Oper} {d : DI} {rest : List (Oper × DI)} {a : List IV} {V : IH} {past : List IH} {pm : List (Nat × Nat × IB)} {later : List (Nat × Nat)} {Q : List IV → IH → Prop} {b : Bool} (h1 : b = true → dif P prim ops n0 m o d rest a V past pm later Q (some true)) (h2 : b = false → dif P prim ops n0 m o d rest a V past pm later Q (some false)) : dif P prim ops n0 m o d rest a V past pm later Q (some b) := by
  cases b with
  | true => exact h1 rfl
  | false => exact h2 rfl
theorem ncond_t {b : Bool} : ((!b) = true) = (b = false) := by cases b <;> simp
theorem ncond_f {b : Bool} : ((!b) = false) = (b = true) := by cases b <;> simp
theorem wops_mono {P : Program} {prim : CallRel} {ops : Array Oper} {R R' : List IV → IH → Prop} (h : ∀ a H, R a H → R' a H) : ∀ {l : List Oper} {a : List IV} {H : IH}, wops P prim ops l a H R → wops P prim ops l a H R'
  | [], a, H, hw => h a H hw
  | o :: r, a, H, hw => by
    simp only [wops] at hw ⊢
    split at hw
    · exact hw.elim
    · exact wops_mono h hw
    · split at hw
      · exact wops_mono h hw
      · split at hw
        · exact wops_mono h hw
        · split at hw
          · exact wops_mono h hw
          · split at hw
            · exact wcall_mono hw fun v H' hw => wops_mono h hw
            · exact hw.elim
theorem wdr_mono {P : Program} {prim : CallRel} {ops : Array Oper} {n0 m : Nat} {R R' : List IV → IH → Prop} (h : ∀ a H, R a H → R' a H) : ∀ {l : List (Oper × DI)} {a : List IV} {V : IH} {past : List IH} {pm : List (Nat × Nat × IB)} {later : List (Nat × Nat)}, wdr P prim ops n0 m l a V past pm later R → wdr P prim ops n0 m l a V past pm later R'
  | [], a, V, past, pm, later, hw => h _ _ hw
  | (o, d) :: r, a, V, past, pm, later, hw => by
    simp only [wdr] at hw ⊢
    split at hw
    · exact hw.elim
    · split at hw <;> exact wdr_mono h hw
    · split at hw
      · split at hw
        · exact hw.elim
        · split at hw
          · exact wdr_mono h hw
          · exact ⟨hw.1, hw.2.1, wdr_mono h hw.2.2⟩
      · split at hw
        · exact hw.elim
        · exact wdr_mono h hw
      · split at hw
        · exact ⟨hw.1, wdr_mono h hw.2⟩
        · split at hw
          · exact hw.elim
          · exact wcall_mono hw fun v H' hw => ⟨hw.1, wdr_mono h hw.2⟩
theorem wloop_mono {P : Program} {prim : CallRel} {c : Code} {a : List IV} {H : IH} {Q Q' : Post} (h : ∀ e a H, Q e a H → Q' e a H) (hw : wloop P prim c a H Q) : wloop P prim c a H Q' := by
  obtain ⟨a1, H1, e, a', H', g, h1, h2⟩ := hw
  exact ⟨a1, H1, e, a', H', g, h1, lout_mono (h e) h2⟩
theorem wcode_mono {P : Program} {prim : CallRel} {D : Plans} : ∀ {c : Code} {a : List IV} {H : IH} {Q Q' : Post}, (∀ e a H, Q e a H → Q' e a H) → wcode P prim D c a H Q → wcode P prim D c a H Q'
  | .skip, a, H, Q, Q', h, hw => h _ _ _ hw
  | .ret, a, H, Q, Q', h, hw => h _ _ _ hw
  | .exit id, a, H, Q, Q', h, hw => h _ _ _ hw
  | .seq x y, a, H, Q, Q', h, hw => by
    simp only [wcode] at hw ⊢
    refine wcode_mono (fun e a1 H1 h1 => ?_) hw
    cases e <;> first | exact h _ _ _ h1 | exact wcode_mono h h1
  | .cond c x y, a, H, Q, Q', h, hw => by
    simp only [wcode] at hw ⊢
    split at hw
    · exact ⟨fun hb => wcode_mono h (hw.1 hb), fun hb => wcode_mono h (hw.2 hb)⟩
    · exact hw.elim
  | .block id c, a, H, Q, Q', h, hw => by
    simp only [wcode] at hw ⊢
    refine wcode_mono (fun e a1 H1 h1 => ?_) hw
    cases e with
    | exit id' =>
      simp only at h1 ⊢
      split at h1
      · rename_i e; rw [if_pos e]; exact h _ _ _ h1
      · rename_i e; rw [if_neg e]; exact h _ _ _ h1
    | normal => exact h _ _ _ h1
    | goto l => exact h _ _ _ h1
    | ret => exact h _ _ _ h1
    | panic ch => exact h _ _ _ h1
    | outgrown => exact h _ _ _ h1
  | .loop c, a, H, Q, Q', h, hw => wloop_mono h hw
  | .region id ops d, a, H, Q, Q', h, hw => by
    simp only [wcode] at hw ⊢
    cases d with
    | true => exact wdr_mono (fun a H hw => h _ _ _ hw) hw
    | false => exact wops_mono (fun a H hw => h _ _ _ hw) hw
  | .rangeFunc .., a, H, Q, Q', h, hw => by simp [wcode] at hw
  | .scope .., a, H, Q, Q', h, hw => by simp [wcode] at hw
  | .label .., a, H, Q, Q', h, hw => by simp [wcode] at hw
  | .goto .., a, H, Q, Q', h, hw => by simp [wcode] at hw
  | .refuse .., a, H, Q, Q', h, hw => by simp [wcode] at hw
theorem w_loop_gh {P : Program} {prim : CallRel} {c : Code} {a a1 : List IV} {H H1 : IH} {Q : Post} (hg : Gh a H a1 H1) (h : wloop P prim c a1 H1 Q) : wloop P prim c a H Q := by
  obtain ⟨a2, H2, e, a', H', g, h1, h2⟩ := h
  exact ⟨a2, H2, e, a', H', hg.trans g, h1, h2⟩

theorem wrap_i64 {x : Int} (h1 : -2^63 ≤ x) (h2 : x < 2^63) : IntKind.i64.wrap x = x := by
  simp only [IntKind.wrap]
  simp [IntKind.bits, IntKind.signed]
  try omega
theorem wrap_u64 {x : Int} (h1 : 0 ≤ x) (h2 : x < 2^64) : IntKind.u64.wrap x = x := by
  simp only [IntKind.wrap]
  simp [IntKind.bits, IntKind.signed]
  try omega
theorem wrap_u8 {x : Int} (h1 : 0 ≤ x) (h2 : x < 2^8) : IntKind.u8.wrap x = x := by
  simp only [IntKind.wrap]
  simp [IntKind.bits, IntKind.signed]
  try omega

theorem one_int (k : IntKind) (n : Int) : IV.one (.int k n) = true := by first | rfl | simp [IV.one, IV.one]
theorem solid_int (k : IntKind) (n : Int) : IV.solid (.int k n) = true := by first | rfl | simp [IV.solid, IV.one]
theorem cells_int (k : IntKind) (n : Int) : IV.cells (.int k n) = [.int k n] := by first | rfl | simp [IV.cells, IV.one]
theorem boxable_int (k : IntKind) (n : Int) : boxable (.int k n) = true := by first | rfl | simp [boxable, IV.one]
theorem one_bool (b : Bool) : IV.one (.bool b) = true := by first | rfl | simp [IV.one, IV.one]
theorem solid_bool (b : Bool) : IV.solid (.bool b) = true := by first | rfl | simp [IV.solid, IV.one]
theorem cells_bool (b : Bool) : IV.cells (.bool b) = [.bool b] := by first | rfl | simp [IV.cells, IV.one]
theorem boxable_bool (b : Bool) : boxable (.bool b) = true := by first | rfl | simp [boxable, IV.one]
theorem one_str (s : ByteArray) : IV.one (.str s) = true := by first | rfl | simp [IV.one, IV.one]
theorem solid_str (s : ByteArray) : IV.solid (.str s) = true := by first | rfl | simp [IV.solid, IV.one]
theorem cells_str (s : ByteArray) : IV.cells (.str s) = [.str s] := by first | rfl | simp [IV.cells, IV.one]
theorem boxable_str (s : ByteArray) : boxable (.str s) = true := by first | rfl | simp [boxable, IV.one]
theorem one_ptr (i k j : Nat) : IV.one (.ptr i k j) = true := by first | rfl | simp [IV.one, IV.one]
theorem solid_ptr (i k j : Nat) : IV.solid (.ptr i k j) = true := by first | rfl | simp [IV.solid, IV.one]
theorem cells_ptr (i k j : Nat) : IV.cells (.ptr i k j) = [.ptr i k j] := by first | rfl | simp [IV.cells, IV.one]
theorem boxable_ptr (i k j : Nat) : boxable (.ptr i k j) = true := by first | rfl | simp [boxable, IV.one]
theorem one_vs (s : Nat) (es : List (List IV)) (f : Bool) : IV.one (.vs s es f) = true := by first | rfl | simp [IV.one, IV.one]
theorem solid_vs (s : Nat) (es : List (List IV)) (f : Bool) : IV.solid (.vs s es f) = true := by first | rfl | simp [IV.solid, IV.one]
theorem cells_vs (s : Nat) (es : List (List IV)) (f : Bool) : IV.cells (.vs s es f) = [.vs s es f] := by first | rfl | simp [IV.cells, IV.one]
theorem boxable_vs (s : Nat) (es : List (List IV)) (f : Bool) : boxable (.vs s es f) = true := by first | rfl | simp [boxable, IV.one]
theorem one_vp (e : List IV) (j : Nat) : IV.one (.vp e j) = true := by first | rfl | simp [IV.one, IV.one]
theorem solid_vp (e : List IV) (j : Nat) : IV.solid (.vp e j) = true := by first | rfl | simp [IV.solid, IV.one]
theorem cells_vp (e : List IV) (j : Nat) : IV.cells (.vp e j) = [.vp e j] := by first | rfl | simp [IV.cells, IV.one]
theorem boxable_vp (e : List IV) (j : Nat) : boxable (.vp e j) = true := by first | rfl | simp [boxable, IV.one]
attribute [go_sem] one_vs solid_vs cells_vs boxable_vs one_vp solid_vp cells_vp boxable_vp lt_vs lt_vp
theorem one_nilp : IV.one (.nilp) = true := by first | rfl | simp [IV.one, IV.one]
theorem solid_nilp : IV.solid (.nilp) = true := by first | rfl | simp [IV.solid, IV.one]
theorem cells_nilp : IV.cells (.nilp) = [.nilp] := by first | rfl | simp [IV.cells, IV.one]
theorem boxable_nilp : boxable (.nilp) = true := by first | rfl | simp [boxable, IV.one]
theorem one_slc (i k n s : Nat) (f : Bool) : IV.one (.slc i k n s f) = true := by first | rfl | simp [IV.one, IV.one]
theorem solid_slc (i k n s : Nat) (f : Bool) : IV.solid (.slc i k n s f) = true := by first | rfl | simp [IV.solid, IV.one]
theorem cells_slc (i k n s : Nat) (f : Bool) : IV.cells (.slc i k n s f) = [.slc i k n s f] := by first | rfl | simp [IV.cells, IV.one]
theorem boxable_slc (i k n s : Nat) (f : Bool) : boxable (.slc i k n s f) = true := by first | rfl | simp [boxable, IV.one]
theorem one_nils : IV.one (.nils) = true := by first | rfl | simp [IV.one, IV.one]
theorem solid_nils : IV.solid (.nils) = true := by first | rfl | simp [IV.solid, IV.one]
theorem cells_nils : IV.cells (.nils) = [.nils] := by first | rfl | simp [IV.cells, IV.one]
theorem boxable_nils : boxable (.nils) = true := by first | rfl | simp [boxable, IV.one]
theorem one_map (i : Nat) : IV.one (.map i) = true := by first | rfl | simp [IV.one, IV.one]
theorem solid_map (i : Nat) : IV.solid (.map i) = true := by first | rfl | simp [IV.solid, IV.one]
theorem cells_map (i : Nat) : IV.cells (.map i) = [.map i] := by first | rfl | simp [IV.cells, IV.one]
theorem boxable_map (i : Nat) : boxable (.map i) = true := by first | rfl | simp [boxable, IV.one]
theorem one_nilm : IV.one (.nilm) = true := by first | rfl | simp [IV.one, IV.one]
theorem solid_nilm : IV.solid (.nilm) = true := by first | rfl | simp [IV.solid, IV.one]
theorem cells_nilm : IV.cells (.nilm) = [.nilm] := by first | rfl | simp [IV.cells, IV.one]
theorem boxable_nilm : boxable (.nilm) = true := by first | rfl | simp [boxable, IV.one]
theorem one_fn (f : Fn) (a b : List IV) : IV.one (.fn f a b) = true := by first | rfl | simp [IV.one, IV.one]
theorem solid_fn (f : Fn) (a b : List IV) : IV.solid (.fn f a b) = true := by first | rfl | simp [IV.solid, IV.one]
theorem cells_fn (f : Fn) (a b : List IV) : IV.cells (.fn f a b) = [.fn f a b] := by first | rfl | simp [IV.cells, IV.one]
theorem boxable_fn (f : Fn) (a b : List IV) : boxable (.fn f a b) = true := by first | rfl | simp [boxable, IV.one]
theorem one_nilf : IV.one (.nilf) = true := by first | rfl | simp [IV.one, IV.one]
theorem solid_nilf : IV.solid (.nilf) = true := by first | rfl | simp [IV.solid, IV.one]
theorem cells_nilf : IV.cells (.nilf) = [.nilf] := by first | rfl | simp [IV.cells, IV.one]
theorem boxable_nilf : boxable (.nilf) = true := by first | rfl | simp [boxable, IV.one]
theorem one_iface (t : TypeId) (v : IV) : IV.one (.iface t v) = true := by first | rfl | simp [IV.one, IV.one]
theorem solid_iface (t : TypeId) (v : IV) : IV.solid (.iface t v) = true := by first | rfl | simp [IV.solid, IV.one]
theorem cells_iface (t : TypeId) (v : IV) : IV.cells (.iface t v) = [.iface t v] := by first | rfl | simp [IV.cells, IV.one]
theorem boxable_iface (t : TypeId) (v : IV) : boxable (.iface t v) = true := by first | rfl | simp [boxable, IV.one]
theorem one_nili : IV.one (.nili) = true := by first | rfl | simp [IV.one, IV.one]
theorem solid_nili : IV.solid (.nili) = true := by first | rfl | simp [IV.solid, IV.one]
theorem cells_nili : IV.cells (.nili) = [.nili] := by first | rfl | simp [IV.cells, IV.one]
theorem boxable_nili : boxable (.nili) = true := by first | rfl | simp [boxable, IV.one]
theorem cells_agg (l : List IV) : IV.cells (.agg l) = l := rfl
theorem solid_agg (l : List IV) : IV.solid (.agg l) = l.all IV.one := rfl
theorem boxable_agg (l : List IV) : boxable (.agg l) = true := rfl
attribute [go_sem] one_int solid_int cells_int boxable_int one_bool solid_bool cells_bool boxable_bool one_str solid_str cells_str boxable_str one_ptr solid_ptr cells_ptr boxable_ptr one_nilp solid_nilp cells_nilp boxable_nilp one_slc solid_slc cells_slc boxable_slc one_nils solid_nils cells_nils boxable_nils one_map solid_map cells_map boxable_map one_nilm solid_nilm cells_nilm boxable_nilm one_fn solid_fn cells_fn boxable_fn one_nilf solid_nilf cells_nilf boxable_nilf one_iface solid_iface cells_iface boxable_iface one_nili solid_nili cells_nili boxable_nili cells_agg solid_agg boxable_agg
theorem nR_alloc {P : Program} {ρ : Operand → IV} {H : IH} (e : TypeId) : stepR P ρ H (.alloc e) = none := rfl
theorem nR_box {P : Program} {ρ : Operand → IV} {H : IH} (t : TypeId) (x : Operand) : stepR P ρ H (.box t x) = none := rfl
theorem nR_buildSlice {P : Program} {ρ : Operand → IV} {H : IH} (t : TypeId) (n : Nat) (ps : Array (Nat × Operand)) : stepR P ρ H (.buildSlice t n ps) = none := rfl
theorem nR_makeMap {P : Program} {ρ : Operand → IV} {H : IH} (t : TypeId) (x : Option Operand) : stepR P ρ H (.makeMap t x) = none := rfl
theorem nR_makeSlice {P : Program} {ρ : Operand → IV} {H : IH} (t : TypeId) (x y : Operand) : stepR P ρ H (.makeSlice t x y) = none := rfl
theorem nR_store {P : Program} {ρ : Operand → IV} {H : IH} (t : TypeId) (x y : Operand) : stepR P ρ H (.store t x y) = none := rfl
theorem nA_store {P : Program} {ρ : Operand → IV} (t : TypeId) (x y : Operand) : stepA P ρ (.store t x y) = none := rfl
theorem nR_mapUpdate {P : Program} {ρ : Operand → IV} {H : IH} (t : TypeId) (x y z : Operand) : stepR P ρ H (.mapUpdate t x y z) = none := rfl
theorem nA_mapUpdate {P : Program} {ρ : Operand → IV} (t : TypeId) (x y z : Operand) : stepA P ρ (.mapUpdate t x y z) = none := rfl
theorem nR_insert {P : Program} {ρ : Operand → IV} {H : IH} (t : TypeId) (x y z : Operand) : stepR P ρ H (.insert t x y z) = none := rfl
theorem nA_insert {P : Program} {ρ : Operand → IV} (t : TypeId) (x y z : Operand) : stepA P ρ (.insert t x y z) = none := rfl
theorem nR_append {P : Program} {ρ : Operand → IV} {H : IH} (xs : Array Operand) (ts : Array TypeId) : stepR P ρ H (.call ⟨.builtin .append, xs, ts⟩) = none := rfl
theorem nA_append {P : Program} {ρ : Operand → IV} (xs : Array Operand) (ts : Array TypeId) : stepA P ρ (.call ⟨.builtin .append, xs, ts⟩) = none := rfl
theorem nR_callv {P : Program} {ρ : Operand → IV} {H : IH} (f : Operand) (xs : Array Operand) (ts : Array TypeId) : stepR P ρ H (.call ⟨.value f, xs, ts⟩) = none := rfl
theorem nA_callv {P : Program} {ρ : Operand → IV} (f : Operand) (xs : Array Operand) (ts : Array TypeId) : stepA P ρ (.call ⟨.value f, xs, ts⟩) = none := rfl
theorem nE_callv {P : Program} {ρ : Operand → IV} {H : IH} (f : Operand) (xs : Array Operand) (ts : Array TypeId) : stepE P ρ H (.call ⟨.value f, xs, ts⟩) = none := rfl
attribute [go_sem] nR_alloc nR_box nR_buildSlice nR_makeMap nR_makeSlice nR_store nA_store nR_mapUpdate nA_mapUpdate nR_insert nA_insert nR_append nA_append nR_callv nA_callv nE_callv stepR.eq_1 stepR.eq_2 stepR.eq_3 stepR.eq_4 stepR.eq_5 stepR.eq_6 stepR.eq_7 stepR.eq_8 stepR.eq_9 stepR.eq_10 stepR.eq_12 stepR.eq_13 stepR.eq_15 stepR.eq_16 stepR.eq_17 stepR.eq_18 stepR.eq_19 stepA.eq_1 stepA.eq_2 stepA.eq_3 stepA.eq_4 stepA.eq_5 stepE.eq_1 stepE.eq_2 stepE.eq_3
theorem bool_t (b : Bool) : (b == true) = b := by cases b <;> rfl
theorem bool_f (b : Bool) : (b == false) = !b := by cases b <;> rfl
theorem int_beq (a b : Int) : (a == b) = decide (a = b) := by by_cases h : a = b <;> simp [h]
theorem int_bne (a b : Int) : (a != b) = !decide (a = b) := by by_cases h : a = b <;> simp [h]
def binN (op : BinOp) : Option Bool → Option IV
  | some r => boolEq op r
  | none => none
theorem binN_some (op : BinOp) (r : Bool) : binN op (some r) = boolEq op r := rfl
section
variable {P : Program} {op : BinOp} {t e a b : TypeId}
theorem bI_int (k k' : IntKind) (x y : Int) : binI P op t (.int k x) (.int k' y) = intOp op k x k' y := rfl
theorem bI_str (x y : ByteArray) : binI P op t (.str x) (.str y) = strOp op x y := rfl
theorem bI_bool (x y : Bool) : binI P op t (.bool x) (.bool y) = binN op (eqNil (P.underlying t) (.bool x) (.bool y)) := rfl
theorem bI_p1 (i k j : Nat) : binI P op t (.ptr i k j) .nilp = binN op (eqNil (P.underlying t) (.ptr i k j) .nilp) := rfl
theorem bI_p2 (i k j : Nat) : binI P op t .nilp (.ptr i k j) = binN op (eqNil (P.underlying t) .nilp (.ptr i k j)) := rfl
theorem bI_p3 : binI P op t .nilp .nilp = binN op (eqNil (P.underlying t) .nilp .nilp) := rfl
theorem bI_s1 (i k n s : Nat) (f : Bool) : binI P op t (.slc i k n s f) .nils = binN op (eqNil (P.underlying t) (.slc i k n s f) .nils) := rfl
theorem bI_s2 (i k n s : Nat) (f : Bool) : binI P op t .nils (.slc i k n s f) = binN op (eqNil (P.underlying t) .nils (.slc i k n s f)) := rfl
theorem bI_v1 (s : Nat) (es : List (List IV)) (f : Bool) : binI P op t (.vs s es f) .nils = binN op (eqNil (P.underlying t) (.vs s es f) .nils) := rfl
theorem bI_v2 (s : Nat) (es : List (List IV)) (f : Bool) : binI P op t .nils (.vs s es f) = binN op (eqNil (P.underlying t) .nils (.vs s es f)) := rfl
theorem bI_vp1 (l : List IV) (j : Nat) : binI P op t (.vp l j) .nilp = binN op (eqNil (P.underlying t) (.vp l j) .nilp) := rfl
theorem bI_s3 : binI P op t .nils .nils = binN op (eqNil (P.underlying t) .nils .nils) := rfl
theorem bI_m1 (i : Nat) : binI P op t (.map i) .nilm = binN op (eqNil (P.underlying t) (.map i) .nilm) := rfl
theorem bI_m3 : binI P op t .nilm .nilm = binN op (eqNil (P.underlying t) .nilm .nilm) := rfl
theorem bI_f1 (f : Fn) (x y : List IV) : binI P op t (.fn f x y) .nilf = binN op (eqNil (P.underlying t) (.fn f x y) .nilf) := rfl
theorem bI_f3 : binI P op t .nilf .nilf = binN op (eqNil (P.underlying t) .nilf .nilf) := rfl
theorem eN_bool (x y : Bool) : eqNil (some .bool) (.bool x) (.bool y) = some (x == y) := rfl
theorem eN_p1 (i k j : Nat) : eqNil (some (.pointer e)) (.ptr i k j) .nilp = some false := rfl
theorem eN_p2 (i k j : Nat) : eqNil (some (.pointer e)) .nilp (.ptr i k j) = some false := rfl
theorem eN_p3 : eqNil (some (.pointer e)) .nilp .nilp = some true := rfl
theorem eN_s1 (i k n s : Nat) (f : Bool) : eqNil (some (.slice e)) (.slc i k n s f) .nils = some false := rfl
theorem eN_s2 (i k n s : Nat) (f : Bool) : eqNil (some (.slice e)) .nils (.slc i k n s f) = some false := rfl
theorem eN_v1 (s : Nat) (es : List (List IV)) (f : Bool) : eqNil (some (.slice e)) (.vs s es f) .nils = some false := rfl
theorem eN_v2 (s : Nat) (es : List (List IV)) (f : Bool) : eqNil (some (.slice e)) .nils (.vs s es f) = some false := rfl
theorem eN_vp1 (l : List IV) (j : Nat) : eqNil (some (.pointer e)) (.vp l j) .nilp = some false := rfl
theorem eN_s3 : eqNil (some (.slice e)) .nils .nils = some true := rfl
theorem eN_m1 (i : Nat) : eqNil (some (.map a b)) (.map i) .nilm = some false := rfl
theorem eN_m3 : eqNil (some (.map a b)) .nilm .nilm = some true := rfl
end
attribute [go_sem] bI_v1 bI_v2 bI_vp1 eN_v1 eN_v2 eN_vp1 binN_some bI_int bI_str bI_bool bI_p1 bI_p2 bI_p3 bI_s1 bI_s2 bI_s3 bI_m1 bI_m3 bI_f1 bI_f3 eN_bool eN_p1 eN_p2 eN_p3 eN_s1 eN_s2 eN_s3 eN_m1 eN_m3
theorem isl_slc {i k n s : Nat} {full : Bool} {lo hi mx : Option IV} : isl (.slc i k n s full) lo hi mx = (match ibound mx n n with
    | none => none
    | some m => match ibound hi m n with
      | none => none
      | some h => if (hi.isSome ∨ mx.isNone) ∧ h ≤ m then match ibound lo h 0 with
        | none => none
        | some l => some (.slc i (k + l) (h - l) s (if mx.isSome then h == m else full && h == n)) else none) := rfl
theorem isl_vs {s : Nat} {es : List (List IV)} {full : Bool} {lo hi mx : Option IV} : isl (.vs s es full) lo hi mx = (match ibound mx es.length es.length with
    | none => none
    | some m => match ibound hi m es.length with
      | none => none
      | some h => if (hi.isSome ∨ mx.isNone) ∧ h ≤ m then match ibound lo h 0 with
        | none => none
        | some l => some (.vs s ((es.drop l).take (h - l)) (if mx.isSome then h == m else full && h == es.length)) else none) := rfl
theorem isl_nils {lo hi mx : Option IV} : isl .nils lo hi mx = (match ibound mx 0 0, ibound hi 0 0, ibound lo 0 0 with
    | some _, some _, some _ => if hi.isSome ∨ mx.isNone then some .nils else none
    | _, _, _ => none) := rfl
theorem isl_str {b : ByteArray} {lo hi mx : Option IV} : isl (.str b) lo hi mx = (if mx.isSome then none else
    match ibound hi b.size b.size with
    | none => none
    | some h => match ibound lo h 0 with
      | none => none
      | some l => some (.str (b.extract l h))) := rfl
theorem se_nils {H : IH} {s : Nat} : srcElems H s .nils = some [] := rfl
theorem se_slc {H : IH} {s i k n s' : Nat} {f : Bool} : srcElems H s (.slc i k n s' f) = (if s' = s then (if n = 0 then some [] else match H.f i with
    | .cells _ _ es => if k + n ≤ es.length then some ((es.drop k).take n) else none
    | _ => none) else none) := rfl
theorem se_vs {H : IH} {s s' : Nat} {es : List (List IV)} {f : Bool} : srcElems H s (.vs s' es f) = (if s' = s then some es else none) := rfl
theorem se_str {H : IH} {s : Nat} {b : ByteArray} : srcElems H s (.str b) = (if s = 1 then some (b.data.toList.map fun c => [.int .u8 c.toNat]) else none) := rfl
section
variable {P : Program} {f : Nat → IB} {d : TypeDesc} {e : TypeId} {k k' : IntKind} {n : Int}
theorem cv_int_ : cvI P f (some d) (some (.int k)) (.int k' n) = some (.int k (k.wrap n)) := rfl
theorem cv_str_ {s : ByteArray} : cvI P f (some d) (some .string) (.str s) = some (.str s) := rfl
theorem cv_nils_ : cvI P f (some (.slice e)) (some .string) .nils = (match P.underlying e with
      | some (.int .u8) => some (.str .empty)
      | _ => none) := rfl
theorem cv_slc_ {i a b s : Nat} {g : Bool} : cvI P f (some (.slice e)) (some .string) (.slc i a b s g) = (match P.underlying e, f i with
      | some (.int .u8), .cells _ _ es => if a + b ≤ es.length then (bytesOf ((es.drop a).take b)).map fun l => .str ⟨l.toArray⟩ else none
      | _, _ => none) := rfl
theorem cv_vs_ {s : Nat} {es : List (List IV)} {g : Bool} : cvI P f (some (.slice e)) (some .string) (.vs s es g) = (match P.underlying e with
      | some (.int .u8) => (bytesOf es).map fun l => .str ⟨l.toArray⟩
      | _ => none) := rfl
end
theorem nlit (n : Nat) : (((no_index (OfNat.ofNat n)) : Nat) : Int) = (OfNat.ofNat n : Int) := rfl
attribute [go_sem] nlit
def mapId : IV → Option Nat | .map i => some i | _ => none
def ptrId : IV → Option Nat | .ptr i _ _ => some i | _ => none
def slcId : IV → Option Nat | .slc i _ _ _ _ => some i | _ => none
section
variable {ρ : Operand → IV} {t t' : TypeId} {x y z : Operand}
theorem r_load : rid ρ (.load t x) = ptrId (ρ x) := rfl
theorem r_conv : rid ρ (.convert t t' x) = slcId (ρ x) := rfl
theorem r_lookup {b : Bool} : rid ρ (.lookup t x y b) = mapId (ρ x) := rfl
theorem r_len {ts : Array TypeId} : rid ρ (.call ⟨.builtin .len, #[x], ts⟩) = mapId (ρ x) := rfl
theorem r_move : rid ρ (.move x) = none := rfl
theorem r_assign : rid ρ (.assign x) = none := rfl
theorem r_pick : rid ρ (.pick x y z) = none := rfl
theorem r_build {ps : Array (Nat × Operand)} : rid ρ (.build t ps) = none := rfl
theorem r_nilCheck : rid ρ (.nilCheck x) = none := rfl
theorem r_binOp {op : BinOp} : rid ρ (.binOp op t x y t') = none := rfl
theorem r_unOp {op : UnOp} : rid ρ (.unOp op t x) = none := rfl
theorem r_makeFunc {f : Fn} {a b : Array Operand} : rid ρ (.makeFunc f a b) = none := rfl
theorem r_slice {a b c : Option Operand} : rid ρ (.slice t x a b c) = none := rfl
theorem r_fieldAddr {f : Nat} : rid ρ (.fieldAddr t x f) = none := rfl
theorem r_field {f : Nat} : rid ρ (.field t x f) = none := rfl
theorem r_indexAddr : rid ρ (.indexAddr t x y) = none := rfl
theorem r_index : rid ρ (.index t x y) = none := rfl
theorem r_extract {f : Nat} : rid ρ (.extract x f) = none := rfl
theorem r_makeInterface : rid ρ (.makeInterface t x) = none := rfl
end
theorem mapId_int (k : IntKind) (n : Int) : mapId (.int k n) = none := rfl
theorem ptrId_int (k : IntKind) (n : Int) : ptrId (.int k n) = none := rfl
theorem slcId_int (k : IntKind) (n : Int) : slcId (.int k n) = none := rfl
theorem mapId_bool (b : Bool) : mapId (.bool b) = none := rfl
theorem ptrId_bool (b : Bool) : ptrId (.bool b) = none := rfl
theorem slcId_bool (b : Bool) : slcId (.bool b) = none := rfl
theorem mapId_str (b : ByteArray) : mapId (.str b) = none := rfl
theorem ptrId_str (b : ByteArray) : ptrId (.str b) = none := rfl
theorem slcId_str (b : ByteArray) : slcId (.str b) = none := rfl
theorem mapId_ptr (i k j : Nat) : mapId (.ptr i k j) = none := rfl
theorem ptrId_ptr (i k j : Nat) : ptrId (.ptr i k j) = some i := rfl
theorem slcId_ptr (i k j : Nat) : slcId (.ptr i k j) = none := rfl
theorem mapId_nilp  : mapId (.nilp) = none := rfl
theorem ptrId_nilp  : ptrId (.nilp) = none := rfl
theorem slcId_nilp  : slcId (.nilp) = none := rfl
theorem mapId_slc (i k n s : Nat) (f : Bool) : mapId (.slc i k n s f) = none := rfl
theorem ptrId_slc (i k n s : Nat) (f : Bool) : ptrId (.slc i k n s f) = none := rfl
theorem slcId_slc (i k n s : Nat) (f : Bool) : slcId (.slc i k n s f) = some i := rfl
theorem mapId_nils  : mapId (.nils) = none := rfl
theorem ptrId_nils  : ptrId (.nils) = none := rfl
theorem slcId_nils  : slcId (.nils) = none := rfl
theorem mapId_map (i : Nat) : mapId (.map i) = some i := rfl
theorem ptrId_map (i : Nat) : ptrId (.map i) = none := rfl
theorem slcId_map (i : Nat) : slcId (.map i) = none := rfl
theorem mapId_nilm  : mapId (.nilm) = none := rfl
theorem ptrId_nilm  : ptrId (.nilm) = none := rfl
theorem slcId_nilm  : slcId (.nilm) = none := rfl
theorem mapId_vs (s : Nat) (es : List (List IV)) (f : Bool) : mapId (.vs s es f) = none := rfl
theorem ptrId_vs (s : Nat) (es : List (List IV)) (f : Bool) : ptrId (.vs s es f) = none := rfl
theorem slcId_vs (s : Nat) (es : List (List IV)) (f : Bool) : slcId (.vs s es f) = none := rfl
theorem mapId_vp (e : List IV) (j : Nat) : mapId (.vp e j) = none := rfl
theorem ptrId_vp (e : List IV) (j : Nat) : ptrId (.vp e j) = none := rfl
theorem slcId_vp (e : List IV) (j : Nat) : slcId (.vp e j) = none := rfl
theorem mapId_agg (l : List IV) : mapId (.agg l) = none := rfl
theorem ptrId_agg (l : List IV) : ptrId (.agg l) = none := rfl
theorem slcId_agg (l : List IV) : slcId (.agg l) = none := rfl
theorem mapId_fn (f : Fn) (a b : List IV) : mapId (.fn f a b) = none := rfl
theorem ptrId_fn (f : Fn) (a b : List IV) : ptrId (.fn f a b) = none := rfl
theorem slcId_fn (f : Fn) (a b : List IV) : slcId (.fn f a b) = none := rfl
theorem mapId_nilf  : mapId (.nilf) = none := rfl
theorem ptrId_nilf  : ptrId (.nilf) = none := rfl
theorem slcId_nilf  : slcId (.nilf) = none := rfl
attribute [go_sem] r_load r_conv r_lookup r_len r_move r_assign r_pick r_build r_nilCheck r_binOp r_unOp r_makeFunc r_slice r_fieldAddr r_field r_indexAddr r_index r_extract r_makeInterface mapId_int ptrId_int slcId_int mapId_bool ptrId_bool slcId_bool mapId_str ptrId_str slcId_str mapId_ptr ptrId_ptr slcId_ptr mapId_nilp ptrId_nilp slcId_nilp mapId_slc ptrId_slc slcId_slc mapId_nils ptrId_nils slcId_nils mapId_map ptrId_map slcId_map mapId_nilm ptrId_nilm slcId_nilm mapId_vs ptrId_vs slcId_vs mapId_vp ptrId_vp slcId_vp mapId_agg ptrId_agg slcId_agg mapId_fn ptrId_fn slcId_fn mapId_nilf ptrId_nilf slcId_nilf
theorem nle_add {n k : Nat} : (n + (k + 1) ≤ n) = False := eq_false (by omega)
theorem nle_add2 {n k j : Nat} : (n + k + (j + 1) ≤ n) = False := eq_false (by omega)
attribute [go_sem] nle_add nle_add2
theorem nlt_add {n k : Nat} : (n + k < n) = False := eq_false (by omega)
theorem nlt_add2 {n k j : Nat} : (n + k + j < n) = False := eq_false (by omega)
theorem le_add2 {n k j : Nat} : (n ≤ n + k + j) = True := eq_true (by omega)
theorem lt_add2 {n k : Nat} : (n < n + k + 1) = True := eq_true (by omega)
theorem ne_add2 {n k j : Nat} : (n = n + k + (j + 1)) = False := eq_false (by omega)
theorem ne_add3 {n k j : Nat} : (n + k + (j + 1) = n) = False := eq_false (by omega)
attribute [go_sem] nlt_add nlt_add2 le_add2 lt_add2 ne_add2 ne_add3 Bool.not_not
attribute [go_sem] isl_slc isl_vs isl_nils isl_str se_nils se_slc se_vs se_str cv_int_ cv_str_ cv_nils_ cv_slc_ cv_vs_
attribute [go_sem] w_nil w_cons w_if_no w_if_yes w_do w_do_none w_mk w_mk_none w_ef w_ef_none w_cl w_skip w_ret w_exit w_seq w_block w_cond w_loop w_region w_draw k_seq_n k_seq_r k_seq_e k_block_n k_block_r k_block_e k_ops w_cond_t w_cond_f
  d_nil d_cons d_no_ef d_no_rd d_no_mk d_rd d_mk d_ef d_read d_rid_no d_rid d_make d_eff d_call d_cl k_dr inst_nil inst_cons keepPast_nil keepPast_cons keepLater_nil keepLater_cons IH.room_zero IH.room_lay
  iwanted iput_some iput_none ev_tmp ev_const ev_func cv_int cv_bool cv_str cv_nilp cv_nils cv_nilm cv_nilf cv_nili ofFlat stepC intOp strOp unI ipart rd splice boolEq
  ibound solidEs notInt ifill ibuild mapAt keyOk ifind keyEq bytesOf stepA.ielems
  k_loop_n k_loop_e k_loop_r
  IH.mark_n IH.mark_f IH.mark_lo IH.push_n IH.push_f' IH.push_lo IH.set_n IH.set_f' IH.set_lo IH.lay_n IH.lay_f IH.lay_lo IH.room_n IH.room_f IH.room_lo IH.mk_n IH.mk_f IH.mk_lo IH.back_n IH.back_f IH.back_lo
  lt_int lt_bool lt_str lt_ptr lt_slc lt_map lt_nilp lt_nils lt_nilm lt_nilf lt_nili lt_dead lt_agg lt_tup lt_iface lt_fn all_nil all_cons
  ires iresL ires1 KQ KR
  Option.getD_some Option.getD_none List.all_cons List.all_nil Bool.and_true Bool.true_and Bool.and_false Bool.false_and List.set_cons_zero List.set_cons_succ List.getD_cons_zero List.getD_cons_succ List.getElem?_cons_zero List.getElem?_cons_succ
  List.length_cons List.length_nil List.drop_zero List.drop_succ_cons List.take_succ_cons List.take_zero List.take_nil if_true if_false ite_true ite_false Option.map_some Option.map_none List.map_cons List.map_nil
  List.cons_append List.nil_append List.append_nil List.getElem?_toArray reduceIte reduceCtorEq Option.bind_some Option.bind_none List.replicate List.zip_cons_cons List.zip_nil_right List.zip_nil_left Option.isSome_some Option.isSome_none
  decide_true decide_false Nat.lt_irrefl Nat.min_self bool_t bool_f int_beq int_bne false_and and_false Bool.or_true Bool.or_false Bool.true_or Bool.false_or ge_iff_le gt_iff_lt Option.some.injEq exists_eq_left exists_eq_left' Nat.le_refl Int.natCast_nonneg Int.toNat_natCast Int.natCast_zero beq_self_eq_true and_true true_and and_self or_true true_or or_false false_or not_true_eq_false not_false_eq_true Bool.not_true Bool.not_false Nat.add_zero Nat.zero_add
end Go.Proofs.Ytnapimfiikgaiaa.Eng
