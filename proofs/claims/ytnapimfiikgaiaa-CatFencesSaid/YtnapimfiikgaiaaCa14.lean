/- Cat, part 14: CatWeaker, what it computes. Nothing here is a claim of its own. -/
import Derived.Test.YtnapimfiikgaiaaCa13
namespace Go.Proofs.Ytnapimfiikgaiaa.Eng
open Tab
set_option linter.unusedSimpArgs false
set_option linter.unusedVariables false
set_option maxRecDepth 4000
set_option maxHeartbeats 4000000

def Ev.weak (e : Ev) : Ev := { e with acq := false, q := false, rel := false }
def weakL (l : List Ev) (k : Nat) : List Ev := match l[k]? with
  | some e => l.set k e.weak
  | none => l
def weakB (x : Ex) (k : Int) : Bool := !((ordS (ours (cutX x))).isSome && decide (0 ≤ k) && decide (k < (cutX x).l.l.length)) || (ordS (ours { cutX x with l := .mk (weakL (cutX x).l.l k.toNat) false })).isSome
theorem cut_len {α : Type} {x : VL α} {n : Nat} : (cutV n x).l.length ≤ n := by
  unfold cutV
  split
  · rw [VL.cut_l]; simp; omega
  · omega
theorem w_ap0 {P : Program} {e : TypeId} {H : IH} {s i b : Nat} {y : IV} {z : List IV} {d2 : TypeDesc} {new : List (List IV)} {F : Option (IV × IH) → Prop} (hs : tSize P e = some s) (hb : tBytes P e = some b) (hz : tZero P e = some z) (h1 : z.length = s ∧ 0 < s ∧ 0 < b) (h2 : notInt d2 = true) (hy : srcElems H s y = some new) (hsol : solidEs new = true) (hne : new ≠ []) (hd : H.f i = .cells true s []) (hlen : new.length * b ≤ 2 ^ 47)
    (hF : F (some (.slc H.n 0 new.length s false, H.push (.cells true s new)))) : F (apD P H (some (.slice e)) (some d2) (.slc i 0 0 s true) y) := by
  have := apD_sl (d := SL.mk i 0 0 true) (es := []) hs hb hz h1 h2 hy hsol hne ⟨true, [], hd, by simp, by simp⟩ (fun h => by cases h) (by simpa using hlen)
  simp only [SL.iv, List.length_nil, Nat.zero_add, SL.free, if_true, List.nil_append] at this
  rw [this]; exact hF
theorem gh_exl {H : IH} {b n : Nat} {o f : Bool} {l : List Ev} {y : Ex} {r : List IV} (hb : H.f b = .cells o 9 (l.map Ev.enc)) (hl : b < H.n) (hn : n = l.length) : Gh (.agg [.slc b 0 n 9 f, y.rf.iv encI 1, y.co.iv encI 1, y.x.iv encP 2] :: r) H (Ex.enc { y with l := .mk l f } :: r) (H.frz b 9 (l.map Ev.enc)) := by
  subst hn
  refine (gh_frz (H := H) hl hb).trans (gh_cv (H := H.frz b 9 (l.map Ev.enc)) (.cons (.agg _ _ rfl (CVs.cons ?_ (.cons (.rfl _) (.cons (.rfl _) (.cons (.rfl _) .nil)))).2) .rfl'))
  have := CV.vs (H := H.frz b 9 (l.map Ev.enc)) b 0 l.length 9 f (l.map Ev.enc) (by simp only [IH.frz, IH.set_f]; simp) (by simp)
  rw [List.drop_zero, List.take_of_length_le (by simp)] at this
  exact this
theorem Weaker_ok (prim : CallRel) (H : IH) (x : Ex) (k : Int) : ICall Try.prog prim 6 [x.enc, .int .i64 k] H (.bool (weakB x k)) H := by
  refine call_quiet (D := pl) Try.func6 res_6 Try.ntmps6 rfl rfl (by kernel_rfl) ?_
  simp -implicitDefEqProofs only [go_sem, Nat.reduceAdd, Nat.reduceSub, Nat.reduceMul, Nat.reduceEqDiff, Nat.reduceLeDiff, Nat.reduceLT, Nat.reduceBEq, Nat.reducePow, Int.reduceLE, Int.reduceEq, Int.reduceLT, Int.reduceToNat, Int.reduceNeg, List.length_replicate, Nat.left_eq_add, Nat.add_eq_left, Nat.add_left_cancel_iff, Nat.lt_add_right_iff_pos, Nat.lt_add_left_iff_pos, Nat.add_lt_add_iff_left, Nat.le_add_right, Nat.lt_add_one, Nat.mul_one, Ex.enc, Ex.cs]
  refine w_callE (Cut_ok prim _ x) rfl ?_
  have hl1 : (cutX x).l.l.length ≤ 24 := cut_len
  have hl2 : (cutX x).co.l.length ≤ 24 := cut_len
  have hl3 : (cutX x).x.l.length ≤ 6 := cut_len
  have hwb : weakB x k = (!((ordS (ours (cutX x))).isSome && decide (0 ≤ k) && decide (k < (cutX x).l.l.length)) || (ordS (ours { cutX x with l := .mk (weakL (cutX x).l.l k.toNat) false })).isSome) := rfl
  rw [hwb]
  clear hwb
  generalize cutX x = y at *
  simp -implicitDefEqProofs only [go_sem, Nat.reduceAdd, Nat.reduceSub, Nat.reduceMul, Nat.reduceEqDiff, Nat.reduceLeDiff, Nat.reduceLT, Nat.reduceBEq, Nat.reducePow, Int.reduceLE, Int.reduceEq, Int.reduceLT, Int.reduceToNat, Int.reduceNeg, List.length_replicate, Nat.left_eq_add, Nat.add_eq_left, Nat.add_left_cancel_iff, Nat.lt_add_right_iff_pos, Nat.lt_add_left_iff_pos, Nat.add_lt_add_iff_left, Nat.le_add_right, Nat.lt_add_one, Nat.mul_one, Ex.enc, Ex.cs]
  refine w_callE (Ours_ok prim _ y (by omega)) rfl ?_
  simp -implicitDefEqProofs only [go_sem, Nat.reduceAdd, Nat.reduceSub, Nat.reduceMul, Nat.reduceEqDiff, Nat.reduceLeDiff, Nat.reduceLT, Nat.reduceBEq, Nat.reducePow, Int.reduceLE, Int.reduceEq, Int.reduceLT, Int.reduceToNat, Int.reduceNeg, List.length_replicate, Nat.left_eq_add, Nat.add_eq_left, Nat.add_left_cancel_iff, Nat.lt_add_right_iff_pos, Nat.lt_add_left_iff_pos, Nat.add_lt_add_iff_left, Nat.le_add_right, Nat.lt_add_one, Nat.mul_one]
  refine Order_ok prim _ (ours y) (by simp only [ours]; omega) (by simp only [ours]; omega) _ (fun out z hs hz => ?_) (fun hs => ?_)
  · have hso : (ordS (ours y)).isSome = true := by rw [hs]; rfl
    simp -implicitDefEqProofs only [go_sem, Nat.reduceAdd, Nat.reduceSub, Nat.reduceMul, Nat.reduceEqDiff, Nat.reduceLeDiff, Nat.reduceLT, Nat.reduceBEq, Nat.reducePow, Int.reduceLE, Int.reduceEq, Int.reduceLT, Int.reduceToNat, Int.reduceNeg, List.length_replicate, Nat.left_eq_add, Nat.add_eq_left, Nat.add_left_cancel_iff, Nat.lt_add_right_iff_pos, Nat.lt_add_left_iff_pos, Nat.add_lt_add_iff_left, Nat.le_add_right, Nat.lt_add_one, Nat.mul_one]
    by_cases hk0 : k < 0
    · simp -implicitDefEqProofs only [go_sem, Nat.reduceAdd, Nat.reduceSub, Nat.reduceMul, Nat.reduceEqDiff, Nat.reduceLeDiff, Nat.reduceLT, Nat.reduceBEq, Nat.reducePow, Int.reduceLE, Int.reduceEq, Int.reduceLT, Int.reduceToNat, Int.reduceNeg, List.length_replicate, Nat.left_eq_add, Nat.add_eq_left, Nat.add_left_cancel_iff, Nat.lt_add_right_iff_pos, Nat.lt_add_left_iff_pos, Nat.add_lt_add_iff_left, Nat.le_add_right, Nat.lt_add_one, Nat.mul_one, hk0]
      refine w_call (awake_ok prim _) ?_
      simp -implicitDefEqProofs only [go_sem, Nat.reduceAdd, Nat.reduceSub, Nat.reduceMul, Nat.reduceEqDiff, Nat.reduceLeDiff, Nat.reduceLT, Nat.reduceBEq, Nat.reducePow, Int.reduceLE, Int.reduceEq, Int.reduceLT, Int.reduceToNat, Int.reduceNeg, List.length_replicate, Nat.left_eq_add, Nat.add_eq_left, Nat.add_left_cancel_iff, Nat.lt_add_right_iff_pos, Nat.lt_add_left_iff_pos, Nat.add_lt_add_iff_left, Nat.le_add_right, Nat.lt_add_one, Nat.mul_one]
      have : ¬ 0 ≤ k := by omega
      simp [this]
    · by_cases hk1 : (y.l.l.length : Int) ≤ k
      · simp -implicitDefEqProofs only [go_sem, Nat.reduceAdd, Nat.reduceSub, Nat.reduceMul, Nat.reduceEqDiff, Nat.reduceLeDiff, Nat.reduceLT, Nat.reduceBEq, Nat.reducePow, Int.reduceLE, Int.reduceEq, Int.reduceLT, Int.reduceToNat, Int.reduceNeg, List.length_replicate, Nat.left_eq_add, Nat.add_eq_left, Nat.add_left_cancel_iff, Nat.lt_add_right_iff_pos, Nat.lt_add_left_iff_pos, Nat.add_lt_add_iff_left, Nat.le_add_right, Nat.lt_add_one, Nat.mul_one, hk0, hk1]
        refine w_call (awake_ok prim _) ?_
        simp -implicitDefEqProofs only [go_sem, Nat.reduceAdd, Nat.reduceSub, Nat.reduceMul, Nat.reduceEqDiff, Nat.reduceLeDiff, Nat.reduceLT, Nat.reduceBEq, Nat.reducePow, Int.reduceLE, Int.reduceEq, Int.reduceLT, Int.reduceToNat, Int.reduceNeg, List.length_replicate, Nat.left_eq_add, Nat.add_eq_left, Nat.add_left_cancel_iff, Nat.lt_add_right_iff_pos, Nat.lt_add_left_iff_pos, Nat.add_lt_add_iff_left, Nat.le_add_right, Nat.lt_add_one, Nat.mul_one]
        have : ¬ k < y.l.l.length := by omega
        simp [this]
      · obtain ⟨e, he⟩ := get_lt (l := y.l.l) (q := k.toNat) (by omega)
        have hk2 : 0 ≤ k := by omega
        have hk3 : k < y.l.l.length := by omega
        simp -implicitDefEqProofs only [go_sem, Nat.reduceAdd, Nat.reduceSub, Nat.reduceMul, Nat.reduceEqDiff, Nat.reduceLeDiff, Nat.reduceLT, Nat.reduceBEq, Nat.reducePow, Int.reduceLE, Int.reduceEq, Int.reduceLT, Int.reduceToNat, Int.reduceNeg, List.length_replicate, Nat.left_eq_add, Nat.add_eq_left, Nat.add_left_cancel_iff, Nat.lt_add_right_iff_pos, Nat.lt_add_left_iff_pos, Nat.add_lt_add_iff_left, Nat.le_add_right, Nat.lt_add_one, Nat.mul_one, hk0, hk1]
        have hne : y.l.l ≠ [] := fun h => by rw [h] at he; simp at he
        refine w_ap0 (new := y.l.l.map Ev.enc) size_53 bytes_53 zero_53 ⟨rfl, by decide, by decide⟩ rfl (by simp -implicitDefEqProofs only [go_sem, Nat.reduceAdd, Nat.reduceSub, Nat.reduceMul, Nat.reduceEqDiff, Nat.reduceLeDiff, Nat.reduceLT, Nat.reduceBEq, Nat.reducePow, Int.reduceLE, Int.reduceEq, Int.reduceLT, Int.reduceToNat, Int.reduceNeg, List.length_replicate, Nat.left_eq_add, Nat.add_eq_left, Nat.add_left_cancel_iff, Nat.lt_add_right_iff_pos, Nat.lt_add_left_iff_pos, Nat.add_lt_add_iff_left, Nat.le_add_right, Nat.lt_add_one, Nat.mul_one]) (by simp [solidEs, Ev.enc, one_int, one_bool]) (by simpa using hne) (by simp -implicitDefEqProofs only [go_sem, Nat.reduceAdd, Nat.reduceSub, Nat.reduceMul, Nat.reduceEqDiff, Nat.reduceLeDiff, Nat.reduceLT, Nat.reduceBEq, Nat.reducePow, Int.reduceLE, Int.reduceEq, Int.reduceLT, Int.reduceToNat, Int.reduceNeg, List.length_replicate, Nat.left_eq_add, Nat.add_eq_left, Nat.add_left_cancel_iff, Nat.lt_add_right_iff_pos, Nat.lt_add_left_iff_pos, Nat.add_lt_add_iff_left, Nat.le_add_right, Nat.lt_add_one, Nat.mul_one]) (by simp; omega) ?_
        have hg0 : (y.l.l.map Ev.enc)[k.toNat]? = some e.enc := by rw [List.getElem?_map, he]; rfl
        have hg1 : ∀ v, ((y.l.l.map Ev.enc).set k.toNat v)[k.toNat]? = some v := fun v => List.getElem?_set_self (by simp; omega)
        have hln : (y.l.l.map Ev.enc).length = y.l.l.length := by simp
        simp -implicitDefEqProofs only [go_sem, Nat.reduceAdd, Nat.reduceSub, Nat.reduceMul, Nat.reduceEqDiff, Nat.reduceLeDiff, Nat.reduceLT, Nat.reduceBEq, Nat.reducePow, Int.reduceLE, Int.reduceEq, Int.reduceLT, Int.reduceToNat, Int.reduceNeg, List.length_replicate, Nat.left_eq_add, Nat.add_eq_left, Nat.add_left_cancel_iff, Nat.lt_add_right_iff_pos, Nat.lt_add_left_iff_pos, Nat.add_lt_add_iff_left, Nat.le_add_right, Nat.lt_add_one, Nat.mul_one, hk2, hk3, hg0, hg1, hln, Ev.enc, List.set_set]
        have hwl : (weakL y.l.l k.toNat).length = y.l.l.length := by simp [weakL, he]
        have hwm : (y.l.l.map Ev.enc).set k.toNat [.int .i64 e.t, .int .i64 e.k, .int .u64 e.at', .int .i64 e.w, .bool false, .bool false, .bool false, .bool e.ex, .int .i64 e.f] = (weakL y.l.l k.toNat).map Ev.enc := by
          simp only [weakL, he, List.map_set]
          rfl
        rw [hwm]
        refine wcall_gh (gh_exl (y := y) (l := weakL y.l.l k.toNat) (o := true) (by simp -implicitDefEqProofs only [go_sem, Nat.reduceAdd, Nat.reduceSub, Nat.reduceMul, Nat.reduceEqDiff, Nat.reduceLeDiff, Nat.reduceLT, Nat.reduceBEq, Nat.reducePow, Int.reduceLE, Int.reduceEq, Int.reduceLT, Int.reduceToNat, Int.reduceNeg, List.length_replicate, Nat.left_eq_add, Nat.add_eq_left, Nat.add_left_cancel_iff, Nat.lt_add_right_iff_pos, Nat.lt_add_left_iff_pos, Nat.add_lt_add_iff_left, Nat.le_add_right, Nat.lt_add_one, Nat.mul_one]) (by simp -implicitDefEqProofs only [go_sem, Nat.reduceAdd, Nat.reduceSub, Nat.reduceMul, Nat.reduceEqDiff, Nat.reduceLeDiff, Nat.reduceLT, Nat.reduceBEq, Nat.reducePow, Int.reduceLE, Int.reduceEq, Int.reduceLT, Int.reduceToNat, Int.reduceNeg, List.length_replicate, Nat.left_eq_add, Nat.add_eq_left, Nat.add_left_cancel_iff, Nat.lt_add_right_iff_pos, Nat.lt_add_left_iff_pos, Nat.add_lt_add_iff_left, Nat.le_add_right, Nat.lt_add_one, Nat.mul_one]) hwl.symm) ?_
        refine w_call (Ours_ok prim _ _ (by show (weakL y.l.l k.toNat).length ≤ 1000; omega)) ?_
        simp -implicitDefEqProofs only [go_sem, Nat.reduceAdd, Nat.reduceSub, Nat.reduceMul, Nat.reduceEqDiff, Nat.reduceLeDiff, Nat.reduceLT, Nat.reduceBEq, Nat.reducePow, Int.reduceLE, Int.reduceEq, Int.reduceLT, Int.reduceToNat, Int.reduceNeg, List.length_replicate, Nat.left_eq_add, Nat.add_eq_left, Nat.add_left_cancel_iff, Nat.lt_add_right_iff_pos, Nat.lt_add_left_iff_pos, Nat.add_lt_add_iff_left, Nat.le_add_right, Nat.lt_add_one, Nat.mul_one, IH.frz]
        refine Order_ok prim _ (ours { y with l := .mk (weakL y.l.l k.toNat) false }) (by simp only [ours]; omega) (by simp only [ours]; omega) _ (fun out2 z2 hs2 hz2 => ?_) (fun hs2 => ?_)
        · simp -implicitDefEqProofs only [go_sem, Nat.reduceAdd, Nat.reduceSub, Nat.reduceMul, Nat.reduceEqDiff, Nat.reduceLeDiff, Nat.reduceLT, Nat.reduceBEq, Nat.reducePow, Int.reduceLE, Int.reduceEq, Int.reduceLT, Int.reduceToNat, Int.reduceNeg, List.length_replicate, Nat.left_eq_add, Nat.add_eq_left, Nat.add_left_cancel_iff, Nat.lt_add_right_iff_pos, Nat.lt_add_left_iff_pos, Nat.add_lt_add_iff_left, Nat.le_add_right, Nat.lt_add_one, Nat.mul_one]
          refine w_call (awake_ok prim _) ?_
          simp -implicitDefEqProofs only [go_sem, Nat.reduceAdd, Nat.reduceSub, Nat.reduceMul, Nat.reduceEqDiff, Nat.reduceLeDiff, Nat.reduceLT, Nat.reduceBEq, Nat.reducePow, Int.reduceLE, Int.reduceEq, Int.reduceLT, Int.reduceToNat, Int.reduceNeg, List.length_replicate, Nat.left_eq_add, Nat.add_eq_left, Nat.add_left_cancel_iff, Nat.lt_add_right_iff_pos, Nat.lt_add_left_iff_pos, Nat.add_lt_add_iff_left, Nat.le_add_right, Nat.lt_add_one, Nat.mul_one]
          simp [hs2]
        · simp -implicitDefEqProofs only [go_sem, Nat.reduceAdd, Nat.reduceSub, Nat.reduceMul, Nat.reduceEqDiff, Nat.reduceLeDiff, Nat.reduceLT, Nat.reduceBEq, Nat.reducePow, Int.reduceLE, Int.reduceEq, Int.reduceLT, Int.reduceToNat, Int.reduceNeg, List.length_replicate, Nat.left_eq_add, Nat.add_eq_left, Nat.add_left_cancel_iff, Nat.lt_add_right_iff_pos, Nat.lt_add_left_iff_pos, Nat.add_lt_add_iff_left, Nat.le_add_right, Nat.lt_add_one, Nat.mul_one]
          simp [hs2, hso]
  · simp -implicitDefEqProofs only [go_sem, Nat.reduceAdd, Nat.reduceSub, Nat.reduceMul, Nat.reduceEqDiff, Nat.reduceLeDiff, Nat.reduceLT, Nat.reduceBEq, Nat.reducePow, Int.reduceLE, Int.reduceEq, Int.reduceLT, Int.reduceToNat, Int.reduceNeg, List.length_replicate, Nat.left_eq_add, Nat.add_eq_left, Nat.add_left_cancel_iff, Nat.lt_add_right_iff_pos, Nat.lt_add_left_iff_pos, Nat.add_lt_add_iff_left, Nat.le_add_right, Nat.lt_add_one, Nat.mul_one]
    refine w_call (awake_ok prim _) ?_
    simp -implicitDefEqProofs only [go_sem, Nat.reduceAdd, Nat.reduceSub, Nat.reduceMul, Nat.reduceEqDiff, Nat.reduceLeDiff, Nat.reduceLT, Nat.reduceBEq, Nat.reducePow, Int.reduceLE, Int.reduceEq, Int.reduceLT, Int.reduceToNat, Int.reduceNeg, List.length_replicate, Nat.left_eq_add, Nat.add_eq_left, Nat.add_left_cancel_iff, Nat.lt_add_right_iff_pos, Nat.lt_add_left_iff_pos, Nat.add_lt_add_iff_left, Nat.le_add_right, Nat.lt_add_one, Nat.mul_one]
    simp [hs]
end Go.Proofs.Ytnapimfiikgaiaa.Eng
