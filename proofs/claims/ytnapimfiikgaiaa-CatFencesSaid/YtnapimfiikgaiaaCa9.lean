/- Cat, part 9: an order, as the code finds it. Nothing here is a claim of its own. -/
import Derived.Test.YtnapimfiikgaiaaCa8
import Derived.Test.YtnapimfiikgaiaaVal2
namespace Go.Proofs.Ytnapimfiikgaiaa.Eng
open Tab
set_option linter.unusedSimpArgs false
set_option linter.unusedVariables false
set_option maxRecDepth 4000
set_option maxHeartbeats 4000000

/-- How many of a list are ahead of k. -/
def cnt (R : Nat → Nat → Bool) (L : List Nat) (k : Nat) : Nat := L.countP fun i => R i k
def nx (n : Nat) (R : Nat → Nat → Bool) (i : Nat) : List Nat := (List.range n).filter fun k => R i k
def left (n : Nat) (out : List Nat) : List Nat := (List.range n).filter fun i => !out.contains i
def step (n : Nat) (R : Nat → Nat → Bool) (out : List Nat) : Option Nat := (List.range n).find? fun k => !out.contains k && decide (cnt R (left n out) k = 0)
def srt (n : Nat) (R : Nat → Nat → Bool) : Nat → List Nat → Option (List Nat)
  | 0, out => some out
  | f + 1, out => match step n R out with
    | none => none
    | some k => srt n R f (out ++ [k])
def cells1 (n : Nat) (g : Nat → IV) : List (List IV) := (List.range n).map fun k => [g k]
theorem cells1_len {n : Nat} {g : Nat → IV} : (cells1 n g).length = n := by simp [cells1]
theorem cells1_get {n k : Nat} {g : Nat → IV} (h : k < n) : (cells1 n g)[k]? = some [g k] := by simp [cells1, h]
theorem cells1_set {n k : Nat} {g g' : Nat → IV} {v : IV} (hv : k < n → v = g' k) (h : ∀ i, i < n → i ≠ k → g i = g' i) : (cells1 n g).set k [v] = cells1 n g' := by
  apply List.ext_getElem (by simp [cells1])
  intro i h1 h2
  simp only [cells1, List.getElem_set, List.getElem_map, List.getElem_range]
  simp [cells1] at h2
  split
  · rename_i e; subst e; rw [hv h2]
  · rename_i e; rw [h i h2 (Ne.symm e)]
theorem cells1_congr {n : Nat} {g g' : Nat → IV} (h : ∀ i, i < n → g i = g' i) : cells1 n g = cells1 n g' := by
  apply List.ext_getElem (by simp [cells1])
  intro i h1 h2
  simp only [cells1, List.getElem_map, List.getElem_range]
  simp [cells1] at h2
  rw [h i h2]
theorem rep_cells1 {n : Nat} {v : IV} : List.replicate n [v] = cells1 n fun _ => v := by
  apply List.ext_getElem (by simp [cells1])
  intro i h1 h2
  simp [cells1]
theorem cnt_succ {R : Nat → Nat → Bool} {q k : Nat} : cnt R (List.range (q + 1)) k = cnt R (List.range q) k + if R q k then 1 else 0 := by
  simp [cnt, List.range_succ, List.countP_append, List.countP_cons]
theorem cnt_le {R : Nat → Nat → Bool} {L : List Nat} {k : Nat} : cnt R L k ≤ L.length := List.countP_le_length
/-- The cells of before, in the round of q behind j. -/
def befV (R : Nat → Nat → Bool) (q j k : Nat) : IV := .int .i64 (cnt R (List.range (if k < j then q + 1 else q)) k : Nat)
def encN (z : Nat) : List IV := [.int .i64 z]
structure Rows (n : Nat) (R : Nat → Nat → Bool) (q : Nat) (w : Nat → VL Nat) : Prop where
  done : ∀ k, k < q → (w k).l = nx n R k
  rest : ∀ k, q ≤ k → w k = .nil
end Go.Proofs.Ytnapimfiikgaiaa.Eng
