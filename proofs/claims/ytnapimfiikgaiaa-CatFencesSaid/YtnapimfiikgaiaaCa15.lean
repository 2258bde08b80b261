/- Cat, part 15: CatFences, what it computes. Nothing here is a claim of its own. -/
import Derived.Test.YtnapimfiikgaiaaCa14
namespace Go.Proofs.Ytnapimfiikgaiaa.Eng
open Tab
set_option linter.unusedSimpArgs false
set_option linter.unusedVariables false
set_option maxRecDepth 4000
set_option maxHeartbeats 4000000

def lessI (i k : Int) : Int := if k < i then IntKind.i64.wrap (i - 1) else i
theorem less_ok (prim : CallRel) (H : IH) (i k : Int) : ICall Try.prog prim 21 [.int .i64 i, .int .i64 k] H (.int .i64 (lessI i k)) H := by
  refine call_quiet (D := pl) Try.func21 res_21 Try.ntmps21 rfl rfl (by kernel_rfl) ?_
  simp -implicitDefEqProofs only [go_sem, Nat.reduceAdd, Nat.reduceSub, Nat.reduceMul, Nat.reduceEqDiff, Nat.reduceLeDiff, Nat.reduceLT, Nat.reduceBEq, Nat.reducePow, Int.reduceLE, Int.reduceEq, Int.reduceLT, Int.reduceToNat, Int.reduceNeg, List.length_replicate, Nat.left_eq_add, Nat.add_eq_left, Nat.add_left_cancel_iff, Nat.lt_add_right_iff_pos, Nat.lt_add_left_iff_pos, Nat.add_lt_add_iff_left, Nat.le_add_right, Nat.lt_add_one, Nat.mul_one]
  refine w_cond_dec (fun h => ?_) (fun h => ?_)
  · simp -implicitDefEqProofs only [go_sem, Nat.reduceAdd, Nat.reduceSub, Nat.reduceMul, Nat.reduceEqDiff, Nat.reduceLeDiff, Nat.reduceLT, Nat.reduceBEq, Nat.reducePow, Int.reduceLE, Int.reduceEq, Int.reduceLT, Int.reduceToNat, Int.reduceNeg, List.length_replicate, Nat.left_eq_add, Nat.add_eq_left, Nat.add_left_cancel_iff, Nat.lt_add_right_iff_pos, Nat.lt_add_left_iff_pos, Nat.add_lt_add_iff_left, Nat.le_add_right, Nat.lt_add_one, Nat.mul_one]
    simp [lessI, h]
  · simp -implicitDefEqProofs only [go_sem, Nat.reduceAdd, Nat.reduceSub, Nat.reduceMul, Nat.reduceEqDiff, Nat.reduceLeDiff, Nat.reduceLT, Nat.reduceBEq, Nat.reducePow, Int.reduceLE, Int.reduceEq, Int.reduceLT, Int.reduceToNat, Int.reduceNeg, List.length_replicate, Nat.left_eq_add, Nat.add_eq_left, Nat.add_left_cancel_iff, Nat.lt_add_right_iff_pos, Nat.lt_add_left_iff_pos, Nat.add_lt_add_iff_left, Nat.le_add_right, Nat.lt_add_one, Nat.mul_one]
    simp [lessI, h]
theorem sl_vla {α : Type} {enc : α → List IV} {s : Nat} {B G : IH} {o : SL} {L : List α} (ho : o.New B G s (L.map enc)) : ∃ y : VL α, y.iv enc s = o.fv s (L.map enc) ∧ y.l = L := by
  cases o with
  | nil =>
    have : L.map enc = [] := ho.at'
    have hL : L = [] := by simpa using this
    exact ⟨.nil, rfl, by simp [hL, VL.l]⟩
  | mk i k n f => exact ⟨.mk L f, rfl, rfl⟩
/-- A slice that was built, in a cell of a block of one row, seen as a value. -/
theorem gh_row {a : List IV} {B H1 : IH} {c S j s : Nat} {e0 : List IV} {es : List (List IV)} {o : SL} (hcB : c < B.n) (hn : B.n ≤ H1.n) (ho : o.New B H1 s es) (hc : H1.f c = .cells true S [e0]) (hj : e0[j]? = some (o.iv s)) :
    ∃ H3, Gh a H1 a H3 ∧ H3.n = H1.n ∧ (∀ i, (o.isNil = false → i ≠ o.blk) → i ≠ c → H3.f i = H1.f i) ∧ H3.f c = .cells true S [e0.set j (o.fv s es)] ∧ ∀ m, m ≤ c → m ≤ H1.lo → m ≤ H3.lo := by
  cases o with
  | nil =>
    refine ⟨H1, Gh.refl _ _, rfl, fun _ _ _ => rfl, ?_, fun m _ h => h⟩
    have : e0.set j (SL.fv s es .nil) = e0 := by
      apply List.ext_getElem?
      intro u
      by_cases e : u = j
      · subst e; rw [List.getElem?_set_self (List.getElem?_eq_some_iff.1 hj).1, hj]; rfl
      · rw [List.getElem?_set_ne (Ne.symm e)]
    rw [this]; exact hc
  | mk i q r f =>
    obtain ⟨own, es2, h1, h2, h3⟩ := ho.at'
    have hi : i < H1.n := ho.lt
    have hin : B.n ≤ i := ho.new rfl
    have hcf : (H1.frz i s es2).f c = .cells true S [e0] := by
      simp only [IH.frz, IH.set_f]; rw [if_neg (by omega)]; exact hc
    refine ⟨_, (gh_frz hi h1).trans (gh_one (r' := e0.set j (SL.fv s es (.mk i q r f))) (Nat.lt_of_lt_of_le hcB hn) hcf ⟨by simp, fun u v v' hu hu' => ?_⟩), rfl, fun x hx hne => ?_, by rw [IH.set_f, if_pos rfl], fun m hm hl => ?_⟩
    · by_cases hju : j = u
      · subst hju
        rw [List.getElem?_set_self (List.getElem?_eq_some_iff.1 hj).1] at hu'
        rw [hj] at hu
        cases hu; cases hu'
        simp only [SL.fv, SL.iv]
        rw [← h3]
        exact .vs i q r s f es2 (by simp [IH.frz, IH.set_f]) h2
      · rw [List.getElem?_set_ne hju] at hu'
        rw [hu] at hu'; cases hu'; exact .rfl _
    · have := hx rfl
      simp only [SL.blk] at this
      rw [IH.set_f, if_neg hne]
      simp only [IH.frz, IH.set_f]; rw [if_neg this]
    · simp only [IH.frz, IH.set]
      split <;> split <;> omega
/-- A list without its element at k, as far as q. -/
def wo {α : Type} (k : Nat) (l : List α) : List α := l.eraseIdx k
theorem wo_skip {α : Type} {k : Nat} {l : List α} {e : α} (h : l[k]? = some e) : wo k (l.take (k + 1)) = wo k (l.take k) := by
  have hk := (List.getElem?_eq_some_iff.1 h).1
  have h1 : (l.take k).eraseIdx k = l.take k := List.eraseIdx_of_length_le (by simp; omega)
  rw [take_next h, wo, wo, List.eraseIdx_append_of_length_le (by simp; omega), List.length_take, Nat.min_eq_left (by omega), Nat.sub_self, h1]
  simp
theorem wo_next {α : Type} {k q : Nat} {l : List α} {e : α} (h : l[q]? = some e) (hne : q ≠ k) : wo k (l.take (q + 1)) = wo k (l.take q) ++ [e] := by
  have hq := (List.getElem?_eq_some_iff.1 h).1
  rw [take_next h, wo, wo]
  rcases Nat.lt_or_ge k q with h1 | h1
  · rw [List.eraseIdx_append_of_lt_length (by simp; omega)]
  · rw [List.eraseIdx_of_length_le (by simp; omega), List.eraseIdx_of_length_le (by simp; omega)]
theorem wo_len {α : Type} {k : Nat} {l : List α} : (wo k l).length ≤ l.length := by simp only [wo, List.length_eraseIdx]; split <;> omega
def keepP (k : Int) (p : Int × Int) : Bool := !decide (p.1 = k) && !decide (p.2 = k)
def lessP (k : Int) (p : Int × Int) : Int × Int := (lessI p.1 k, lessI p.2 k)
theorem SL.New.keep {B H1 H2 : IH} {s : Nat} {es : List (List IV)} {d : SL} (h : d.New B H1 s es) (hn : H1.n ≤ H2.n) (hf : d.isNil = false → H2.f d.blk = H1.f d.blk) : d.New B H2 s es :=
  ⟨h.at'.of hf, SL.own_of h.own hf, SL.lt_mono hn h.lt, h.new⟩
theorem Cd.moved {H H1 H2 : IH} {c S j s : Nat} {e0 : List IV} {z : IV} {es : List (List IV)} {o : SL} (h : Cd H H1 c S j s e0 z es o) (hc : c < H.n) (hn : H1.n ≤ H2.n) (hf : ∀ i, i < H1.n → H2.f i = H1.f i) (hlo : c ≤ H2.lo) : Cd H H2 c S j s e0 z es o :=
  ⟨Nat.le_trans h.n hn, fun i hi hne => (hf i (Nat.lt_of_lt_of_le hi h.n)).trans (h.f i hi hne), hlo, (hf c (Nat.lt_of_lt_of_le hc h.n)).trans h.cell, h.new.ext hn hf, h.val⟩
theorem Ex.ix53 {x : Ex} {i : Nat} (h : i < x.l.l.length) : ixD Try.prog (some (TypeDesc.slice 53)) (x.l.iv Ev.enc 9) (.int .i64 (i : Int)) = some (.vp (x.e i).enc 0) := by
  refine vl_ix (by omega) size_53 ?_
  simp [Ex.e, h]
end Go.Proofs.Ytnapimfiikgaiaa.Eng
