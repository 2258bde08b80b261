/- Cat, part 1: events. Nothing here is a claim of its own. -/
import Derived.Test.YtnapimfiikgaiaaTab
import Derived.Test.YtnapimfiikgaiaaVal1
namespace Go.Proofs.Ytnapimfiikgaiaa.Eng
open Tab
set_option linter.unusedSimpArgs false
set_option linter.unusedVariables false
set_option maxRecDepth 4000

structure Ev where
  t : Int
  k : Int
  at' : Int
  w : Int
  acq : Bool
  q : Bool
  rel : Bool
  ex : Bool
  f : Int
def Ev.enc (e : Ev) : List IV := [.int .i64 e.t, .int .i64 e.k, .int .u64 e.at', .int .i64 e.w, .bool e.acq, .bool e.q, .bool e.rel, .bool e.ex, .int .i64 e.f]
theorem Ev.pu : Pu Ev.enc := fun y v hv m => by
  simp only [Ev.enc, List.mem_cons, List.not_mem_nil, or_false] at hv
  rcases hv with rfl | rfl | rfl | rfl | rfl | rfl | rfl | rfl | rfl <;> first | exact .int _ _ | exact .bool _
theorem Ev.lt_ {m s : Nat} {x : VL Ev} : Lt m (x.iv Ev.enc s) = True := eq_true (vl_lt Ev.pu)
def encI (z : Int) : List IV := [.int .i64 z]
theorem pu_I : Pu encI := fun y v hv m => by simp [encI] at hv; subst hv; exact .int _ _
theorem ltI_ {m s : Nat} {x : VL Int} : Lt m (x.iv encI s) = True := eq_true (vl_lt pu_I)
def encP (z : Int × Int) : List IV := [.int .i64 z.1, .int .i64 z.2]
theorem pu_P : Pu encP := fun y v hv m => by
  simp only [encP, List.mem_cons, List.not_mem_nil, or_false] at hv
  rcases hv with rfl | rfl <;> exact .int _ _
theorem ltP_ {m s : Nat} {x : VL (Int × Int)} : Lt m (x.iv encP s) = True := eq_true (vl_lt pu_P)
attribute [go_sem] Ev.lt_ ltI_ ltP_

def isW (w : Int) : Bool := decide (w = 1 ∨ w = 2 ∨ w = 4 ∨ w = 8)
theorem is_ok (prim : CallRel) (H : IH) (w : Int) : ICall Try.prog prim 67 [.int .i64 w] H (.bool (isW w)) H := by
  refine call_quiet (D := pl) Try.func67 res_67 Try.ntmps67 rfl rfl (by kernel_rfl) ?_
  simp -implicitDefEqProofs only [go_sem, Nat.reduceAdd, Nat.reduceSub, Nat.reduceMul, Nat.reduceEqDiff, Nat.reduceLeDiff, Nat.reduceLT, Nat.reduceBEq, Nat.reducePow, Int.reduceLE, Int.reduceEq, Int.reduceLT, Int.reduceToNat, Int.reduceNeg, List.length_replicate, Nat.left_eq_add, Nat.add_eq_left, Nat.add_left_cancel_iff, Nat.lt_add_right_iff_pos, Nat.lt_add_left_iff_pos, Nat.add_lt_add_iff_left, Nat.le_add_right, Nat.lt_add_one, Nat.mul_one]
  repeat ((first | refine w_if_split (fun hb => ?_) (fun hb => ?_) | refine d_if_split (fun hb => ?_) (fun hb => ?_) | refine w_cond_of (fun hb => ?_) (fun hb => ?_)) <;> (try simp only [ncond_t, ncond_f, decide_eq_true_eq, decide_eq_false_iff_not, Decidable.not_not] at hb) <;> simp -implicitDefEqProofs only [go_sem, Nat.reduceAdd, Nat.reduceSub, Nat.reduceMul, Nat.reduceEqDiff, Nat.reduceLeDiff, Nat.reduceLT, Nat.reduceBEq, Nat.reducePow, Int.reduceLE, Int.reduceEq, Int.reduceLT, Int.reduceToNat, Int.reduceNeg, List.length_replicate, Nat.left_eq_add, Nat.add_eq_left, Nat.add_left_cancel_iff, Nat.lt_add_right_iff_pos, Nat.lt_add_left_iff_pos, Nat.add_lt_add_iff_left, Nat.le_add_right, Nat.lt_add_one, Nat.mul_one, hb])
  all_goals simp [isW, *]

def Ev.acc (e : Ev) : Bool := decide (e.k = 1 ∨ e.k = 2)
theorem access_ok (prim : CallRel) (H : IH) (e : Ev) : ICall Try.prog prim 75 [.agg e.enc] H (.bool e.acc) H := by
  refine call_quiet (D := pl) Try.func75 res_75 Try.ntmps75 rfl rfl (by kernel_rfl) ?_
  simp -implicitDefEqProofs only [go_sem, Nat.reduceAdd, Nat.reduceSub, Nat.reduceMul, Nat.reduceEqDiff, Nat.reduceLeDiff, Nat.reduceLT, Nat.reduceBEq, Nat.reducePow, Int.reduceLE, Int.reduceEq, Int.reduceLT, Int.reduceToNat, Int.reduceNeg, List.length_replicate, Nat.left_eq_add, Nat.add_eq_left, Nat.add_left_cancel_iff, Nat.lt_add_right_iff_pos, Nat.lt_add_left_iff_pos, Nat.add_lt_add_iff_left, Nat.le_add_right, Nat.lt_add_one, Nat.mul_one, Ev.enc]
  repeat ((first | refine w_if_split (fun hb => ?_) (fun hb => ?_) | refine d_if_split (fun hb => ?_) (fun hb => ?_) | refine w_cond_of (fun hb => ?_) (fun hb => ?_)) <;> (try simp only [ncond_t, ncond_f, decide_eq_true_eq, decide_eq_false_iff_not, Decidable.not_not] at hb) <;> simp -implicitDefEqProofs only [go_sem, Nat.reduceAdd, Nat.reduceSub, Nat.reduceMul, Nat.reduceEqDiff, Nat.reduceLeDiff, Nat.reduceLT, Nat.reduceBEq, Nat.reducePow, Int.reduceLE, Int.reduceEq, Int.reduceLT, Int.reduceToNat, Int.reduceNeg, List.length_replicate, Nat.left_eq_add, Nat.add_eq_left, Nat.add_left_cancel_iff, Nat.lt_add_right_iff_pos, Nat.lt_add_left_iff_pos, Nat.add_lt_add_iff_left, Nat.le_add_right, Nat.lt_add_one, Nat.mul_one, hb])
  all_goals simp [Ev.acc, *]

def Ev.pla (e f : Ev) : Bool := e.acc && f.acc && decide (e.at' = f.at') && decide (e.w = f.w)
theorem place_ok (prim : CallRel) (H : IH) (e f : Ev) : ICall Try.prog prim 76 [.agg e.enc, .agg f.enc] H (.bool (e.pla f)) H := by
  refine call_quiet (D := pl) Try.func76 res_76 Try.ntmps76 rfl rfl (by kernel_rfl) ?_
  simp -implicitDefEqProofs only [go_sem, Nat.reduceAdd, Nat.reduceSub, Nat.reduceMul, Nat.reduceEqDiff, Nat.reduceLeDiff, Nat.reduceLT, Nat.reduceBEq, Nat.reducePow, Int.reduceLE, Int.reduceEq, Int.reduceLT, Int.reduceToNat, Int.reduceNeg, List.length_replicate, Nat.left_eq_add, Nat.add_eq_left, Nat.add_left_cancel_iff, Nat.lt_add_right_iff_pos, Nat.lt_add_left_iff_pos, Nat.add_lt_add_iff_left, Nat.le_add_right, Nat.lt_add_one, Nat.mul_one, Ev.enc]
  refine w_call (access_ok prim _ e) ?_
  simp -implicitDefEqProofs only [go_sem, Nat.reduceAdd, Nat.reduceSub, Nat.reduceMul, Nat.reduceEqDiff, Nat.reduceLeDiff, Nat.reduceLT, Nat.reduceBEq, Nat.reducePow, Int.reduceLE, Int.reduceEq, Int.reduceLT, Int.reduceToNat, Int.reduceNeg, List.length_replicate, Nat.left_eq_add, Nat.add_eq_left, Nat.add_left_cancel_iff, Nat.lt_add_right_iff_pos, Nat.lt_add_left_iff_pos, Nat.add_lt_add_iff_left, Nat.le_add_right, Nat.lt_add_one, Nat.mul_one]
  ((first | refine w_if_split (fun hb => ?_) (fun hb => ?_) | refine d_if_split (fun hb => ?_) (fun hb => ?_) | refine w_cond_of (fun hb => ?_) (fun hb => ?_)) <;> (try simp only [ncond_t, ncond_f, decide_eq_true_eq, decide_eq_false_iff_not, Decidable.not_not] at hb) <;> simp -implicitDefEqProofs only [go_sem, Nat.reduceAdd, Nat.reduceSub, Nat.reduceMul, Nat.reduceEqDiff, Nat.reduceLeDiff, Nat.reduceLT, Nat.reduceBEq, Nat.reducePow, Int.reduceLE, Int.reduceEq, Int.reduceLT, Int.reduceToNat, Int.reduceNeg, List.length_replicate, Nat.left_eq_add, Nat.add_eq_left, Nat.add_left_cancel_iff, Nat.lt_add_right_iff_pos, Nat.lt_add_left_iff_pos, Nat.add_lt_add_iff_left, Nat.le_add_right, Nat.lt_add_one, Nat.mul_one, hb])
  · refine w_call (access_ok prim _ f) ?_
    simp -implicitDefEqProofs only [go_sem, Nat.reduceAdd, Nat.reduceSub, Nat.reduceMul, Nat.reduceEqDiff, Nat.reduceLeDiff, Nat.reduceLT, Nat.reduceBEq, Nat.reducePow, Int.reduceLE, Int.reduceEq, Int.reduceLT, Int.reduceToNat, Int.reduceNeg, List.length_replicate, Nat.left_eq_add, Nat.add_eq_left, Nat.add_left_cancel_iff, Nat.lt_add_right_iff_pos, Nat.lt_add_left_iff_pos, Nat.add_lt_add_iff_left, Nat.le_add_right, Nat.lt_add_one, Nat.mul_one]
    repeat ((first | refine w_if_split (fun hb => ?_) (fun hb => ?_) | refine d_if_split (fun hb => ?_) (fun hb => ?_) | refine w_cond_of (fun hb => ?_) (fun hb => ?_)) <;> (try simp only [ncond_t, ncond_f, decide_eq_true_eq, decide_eq_false_iff_not, Decidable.not_not] at hb) <;> simp -implicitDefEqProofs only [go_sem, Nat.reduceAdd, Nat.reduceSub, Nat.reduceMul, Nat.reduceEqDiff, Nat.reduceLeDiff, Nat.reduceLT, Nat.reduceBEq, Nat.reducePow, Int.reduceLE, Int.reduceEq, Int.reduceLT, Int.reduceToNat, Int.reduceNeg, List.length_replicate, Nat.left_eq_add, Nat.add_eq_left, Nat.add_left_cancel_iff, Nat.lt_add_right_iff_pos, Nat.lt_add_left_iff_pos, Nat.add_lt_add_iff_left, Nat.le_add_right, Nat.lt_add_one, Nat.mul_one, hb])
    all_goals simp [Ev.pla, *]
  · simp [Ev.pla, *]

def Ev.mee (e f : Ev) : Bool := e.acc && f.acc && (decide (IntKind.u64.wrap (f.at' - e.at') < IntKind.u64.wrap e.w) || decide (IntKind.u64.wrap (e.at' - f.at') < IntKind.u64.wrap f.w))
theorem meets_ok (prim : CallRel) (H : IH) (e f : Ev) : ICall Try.prog prim 92 [.agg e.enc, .agg f.enc] H (.bool (e.mee f)) H := by
  refine call_quiet (D := pl) Try.func92 res_92 Try.ntmps92 rfl rfl (by kernel_rfl) ?_
  simp -implicitDefEqProofs only [go_sem, Nat.reduceAdd, Nat.reduceSub, Nat.reduceMul, Nat.reduceEqDiff, Nat.reduceLeDiff, Nat.reduceLT, Nat.reduceBEq, Nat.reducePow, Int.reduceLE, Int.reduceEq, Int.reduceLT, Int.reduceToNat, Int.reduceNeg, List.length_replicate, Nat.left_eq_add, Nat.add_eq_left, Nat.add_left_cancel_iff, Nat.lt_add_right_iff_pos, Nat.lt_add_left_iff_pos, Nat.add_lt_add_iff_left, Nat.le_add_right, Nat.lt_add_one, Nat.mul_one, Ev.enc]
  refine w_call (access_ok prim _ e) ?_
  simp -implicitDefEqProofs only [go_sem, Nat.reduceAdd, Nat.reduceSub, Nat.reduceMul, Nat.reduceEqDiff, Nat.reduceLeDiff, Nat.reduceLT, Nat.reduceBEq, Nat.reducePow, Int.reduceLE, Int.reduceEq, Int.reduceLT, Int.reduceToNat, Int.reduceNeg, List.length_replicate, Nat.left_eq_add, Nat.add_eq_left, Nat.add_left_cancel_iff, Nat.lt_add_right_iff_pos, Nat.lt_add_left_iff_pos, Nat.add_lt_add_iff_left, Nat.le_add_right, Nat.lt_add_one, Nat.mul_one]
  ((first | refine w_if_split (fun hb => ?_) (fun hb => ?_) | refine d_if_split (fun hb => ?_) (fun hb => ?_) | refine w_cond_of (fun hb => ?_) (fun hb => ?_)) <;> (try simp only [ncond_t, ncond_f, decide_eq_true_eq, decide_eq_false_iff_not, Decidable.not_not] at hb) <;> simp -implicitDefEqProofs only [go_sem, Nat.reduceAdd, Nat.reduceSub, Nat.reduceMul, Nat.reduceEqDiff, Nat.reduceLeDiff, Nat.reduceLT, Nat.reduceBEq, Nat.reducePow, Int.reduceLE, Int.reduceEq, Int.reduceLT, Int.reduceToNat, Int.reduceNeg, List.length_replicate, Nat.left_eq_add, Nat.add_eq_left, Nat.add_left_cancel_iff, Nat.lt_add_right_iff_pos, Nat.lt_add_left_iff_pos, Nat.add_lt_add_iff_left, Nat.le_add_right, Nat.lt_add_one, Nat.mul_one, hb])
  · refine w_call (access_ok prim _ f) ?_
    simp -implicitDefEqProofs only [go_sem, Nat.reduceAdd, Nat.reduceSub, Nat.reduceMul, Nat.reduceEqDiff, Nat.reduceLeDiff, Nat.reduceLT, Nat.reduceBEq, Nat.reducePow, Int.reduceLE, Int.reduceEq, Int.reduceLT, Int.reduceToNat, Int.reduceNeg, List.length_replicate, Nat.left_eq_add, Nat.add_eq_left, Nat.add_left_cancel_iff, Nat.lt_add_right_iff_pos, Nat.lt_add_left_iff_pos, Nat.add_lt_add_iff_left, Nat.le_add_right, Nat.lt_add_one, Nat.mul_one]
    repeat ((first | refine w_if_split (fun hb => ?_) (fun hb => ?_) | refine d_if_split (fun hb => ?_) (fun hb => ?_) | refine w_cond_of (fun hb => ?_) (fun hb => ?_)) <;> (try simp only [ncond_t, ncond_f, decide_eq_true_eq, decide_eq_false_iff_not, Decidable.not_not] at hb) <;> simp -implicitDefEqProofs only [go_sem, Nat.reduceAdd, Nat.reduceSub, Nat.reduceMul, Nat.reduceEqDiff, Nat.reduceLeDiff, Nat.reduceLT, Nat.reduceBEq, Nat.reducePow, Int.reduceLE, Int.reduceEq, Int.reduceLT, Int.reduceToNat, Int.reduceNeg, List.length_replicate, Nat.left_eq_add, Nat.add_eq_left, Nat.add_left_cancel_iff, Nat.lt_add_right_iff_pos, Nat.lt_add_left_iff_pos, Nat.add_lt_add_iff_left, Nat.le_add_right, Nat.lt_add_one, Nat.mul_one, hb])
    all_goals simp [Ev.mee, *]
  · simp [Ev.mee, *]

def Ev.may (e : Ev) : Bool := decide (1 ≤ e.k) && decide (e.k ≤ 4) && decide (0 ≤ e.t) && decide (e.t ≤ 7) && (!e.acc || isW e.w)
theorem maye_ok (prim : CallRel) (H : IH) (e : Ev) : ICall Try.prog prim 79 [.agg e.enc] H (.bool e.may) H := by
  refine call_quiet (D := pl) Try.func79 res_79 Try.ntmps79 rfl rfl (by kernel_rfl) ?_
  simp -implicitDefEqProofs only [go_sem, Nat.reduceAdd, Nat.reduceSub, Nat.reduceMul, Nat.reduceEqDiff, Nat.reduceLeDiff, Nat.reduceLT, Nat.reduceBEq, Nat.reducePow, Int.reduceLE, Int.reduceEq, Int.reduceLT, Int.reduceToNat, Int.reduceNeg, List.length_replicate, Nat.left_eq_add, Nat.add_eq_left, Nat.add_left_cancel_iff, Nat.lt_add_right_iff_pos, Nat.lt_add_left_iff_pos, Nat.add_lt_add_iff_left, Nat.le_add_right, Nat.lt_add_one, Nat.mul_one, Ev.enc]
  repeat ((first | refine w_if_split (fun hb => ?_) (fun hb => ?_) | refine d_if_split (fun hb => ?_) (fun hb => ?_) | refine w_cond_of (fun hb => ?_) (fun hb => ?_)) <;> (try simp only [ncond_t, ncond_f, decide_eq_true_eq, decide_eq_false_iff_not, Decidable.not_not] at hb) <;> simp -implicitDefEqProofs only [go_sem, Nat.reduceAdd, Nat.reduceSub, Nat.reduceMul, Nat.reduceEqDiff, Nat.reduceLeDiff, Nat.reduceLT, Nat.reduceBEq, Nat.reducePow, Int.reduceLE, Int.reduceEq, Int.reduceLT, Int.reduceToNat, Int.reduceNeg, List.length_replicate, Nat.left_eq_add, Nat.add_eq_left, Nat.add_left_cancel_iff, Nat.lt_add_right_iff_pos, Nat.lt_add_left_iff_pos, Nat.add_lt_add_iff_left, Nat.le_add_right, Nat.lt_add_one, Nat.mul_one, hb])
  · refine w_call (access_ok prim _ e) ?_
    simp -implicitDefEqProofs only [go_sem, Nat.reduceAdd, Nat.reduceSub, Nat.reduceMul, Nat.reduceEqDiff, Nat.reduceLeDiff, Nat.reduceLT, Nat.reduceBEq, Nat.reducePow, Int.reduceLE, Int.reduceEq, Int.reduceLT, Int.reduceToNat, Int.reduceNeg, List.length_replicate, Nat.left_eq_add, Nat.add_eq_left, Nat.add_left_cancel_iff, Nat.lt_add_right_iff_pos, Nat.lt_add_left_iff_pos, Nat.add_lt_add_iff_left, Nat.le_add_right, Nat.lt_add_one, Nat.mul_one]
    ((first | refine w_if_split (fun hb => ?_) (fun hb => ?_) | refine d_if_split (fun hb => ?_) (fun hb => ?_) | refine w_cond_of (fun hb => ?_) (fun hb => ?_)) <;> (try simp only [ncond_t, ncond_f, decide_eq_true_eq, decide_eq_false_iff_not, Decidable.not_not] at hb) <;> simp -implicitDefEqProofs only [go_sem, Nat.reduceAdd, Nat.reduceSub, Nat.reduceMul, Nat.reduceEqDiff, Nat.reduceLeDiff, Nat.reduceLT, Nat.reduceBEq, Nat.reducePow, Int.reduceLE, Int.reduceEq, Int.reduceLT, Int.reduceToNat, Int.reduceNeg, List.length_replicate, Nat.left_eq_add, Nat.add_eq_left, Nat.add_left_cancel_iff, Nat.lt_add_right_iff_pos, Nat.lt_add_left_iff_pos, Nat.add_lt_add_iff_left, Nat.le_add_right, Nat.lt_add_one, Nat.mul_one, hb])
    · refine w_call (is_ok prim _ e.w) ?_
      simp -implicitDefEqProofs only [go_sem, Nat.reduceAdd, Nat.reduceSub, Nat.reduceMul, Nat.reduceEqDiff, Nat.reduceLeDiff, Nat.reduceLT, Nat.reduceBEq, Nat.reducePow, Int.reduceLE, Int.reduceEq, Int.reduceLT, Int.reduceToNat, Int.reduceNeg, List.length_replicate, Nat.left_eq_add, Nat.add_eq_left, Nat.add_left_cancel_iff, Nat.lt_add_right_iff_pos, Nat.lt_add_left_iff_pos, Nat.add_lt_add_iff_left, Nat.le_add_right, Nat.lt_add_one, Nat.mul_one]
      simp [Ev.may, *]
    · simp [Ev.may, *]
  all_goals simp [Ev.may, *]

/-- An execution. -/
structure Ex where
  l : VL Ev
  rf : VL Int
  co : VL Int
  x : VL (Int × Int)
def Ex.cs (x : Ex) : List IV := [x.l.iv Ev.enc 9, x.rf.iv encI 1, x.co.iv encI 1, x.x.iv encP 2]
def Ex.enc (x : Ex) : IV := .agg x.cs
def Ex.has (x : Ex) (i : Int) : Bool := decide (0 ≤ i) && decide (i < x.l.l.length)
theorem has_ok (prim : CallRel) (H : IH) (x : Ex) (i : Int) : ICall Try.prog prim 80 [x.enc, .int .i64 i] H (.bool (x.has i)) H := by
  refine call_quiet (D := pl) Try.func80 res_80 Try.ntmps80 rfl rfl (by kernel_rfl) ?_
  simp -implicitDefEqProofs only [go_sem, Nat.reduceAdd, Nat.reduceSub, Nat.reduceMul, Nat.reduceEqDiff, Nat.reduceLeDiff, Nat.reduceLT, Nat.reduceBEq, Nat.reducePow, Int.reduceLE, Int.reduceEq, Int.reduceLT, Int.reduceToNat, Int.reduceNeg, List.length_replicate, Nat.left_eq_add, Nat.add_eq_left, Nat.add_left_cancel_iff, Nat.lt_add_right_iff_pos, Nat.lt_add_left_iff_pos, Nat.add_lt_add_iff_left, Nat.le_add_right, Nat.lt_add_one, Nat.mul_one, Ex.enc, Ex.cs]
  repeat ((first | refine w_if_split (fun hb => ?_) (fun hb => ?_) | refine d_if_split (fun hb => ?_) (fun hb => ?_) | refine w_cond_of (fun hb => ?_) (fun hb => ?_)) <;> (try simp only [ncond_t, ncond_f, decide_eq_true_eq, decide_eq_false_iff_not, Decidable.not_not] at hb) <;> simp -implicitDefEqProofs only [go_sem, Nat.reduceAdd, Nat.reduceSub, Nat.reduceMul, Nat.reduceEqDiff, Nat.reduceLeDiff, Nat.reduceLT, Nat.reduceBEq, Nat.reducePow, Int.reduceLE, Int.reduceEq, Int.reduceLT, Int.reduceToNat, Int.reduceNeg, List.length_replicate, Nat.left_eq_add, Nat.add_eq_left, Nat.add_left_cancel_iff, Nat.lt_add_right_iff_pos, Nat.lt_add_left_iff_pos, Nat.add_lt_add_iff_left, Nat.le_add_right, Nat.lt_add_one, Nat.mul_one, hb])
  all_goals simp [Ex.has, *]
end Go.Proofs.Ytnapimfiikgaiaa.Eng
