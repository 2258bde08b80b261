/- The ideal machine, part 19: frames at a loop's head, heaps that grow. Nothing here is a claim of its own. -/
import Derived.Test.YtnapimfiikgaiaaEng18
namespace Go.Proofs.Ytnapimfiikgaiaa.Eng
set_option linter.unusedSimpArgs false
set_option linter.unusedVariables false

/-- What some slots of a frame hold. -/
def Fr (a : List IV) (n : Nat) (l : List (Nat × IV)) : Prop := a.length = n ∧ ∀ p ∈ l, a[p.1]? = some p.2
def slot (l : List (Nat × IV)) (j : Nat → IV) (t : Nat) : IV := match l with
  | [] => j t
  | p :: r => if p.1 = t then p.2 else slot r j t
def frame (l : List (Nat × IV)) (j : Nat → IV) : Nat → Nat → List IV
  | _, 0 => []
  | t, n + 1 => slot l j t :: frame l j (t + 1) n
theorem frame_length (l : List (Nat × IV)) (j : Nat → IV) : ∀ t n, (frame l j t n).length = n
  | _, 0 => rfl
  | t, n + 1 => by simp [frame, frame_length l j (t + 1) n]
theorem frame_get (l : List (Nat × IV)) (j : Nat → IV) : ∀ t n i, i < n → (frame l j t n)[i]? = some (slot l j (t + i))
  | t, 0, i, h => by omega
  | t, n + 1, 0, h => by simp [frame]
  | t, n + 1, i + 1, h => by simp only [frame, List.getElem?_cons_succ]; rw [frame_get l j (t + 1) n i (by omega)]; congr 2; omega
theorem slot_of {a : List IV} : ∀ {l : List (Nat × IV)} {t : Nat} {v : IV}, (∀ p ∈ l, a[p.1]? = some p.2) → a[t]? = some v → slot l (fun t => a.getD t .dead) t = v
  | [], t, v, _, h => by simp [slot, List.getD, h]
  | p :: l, t, v, hl, h => by
    simp only [slot]
    split
    · rename_i he
      have := hl p (List.mem_cons_self ..)
      rw [he, h] at this
      exact (Option.some.inj this).symm
    · exact slot_of (fun q hq => hl q (List.mem_cons_of_mem _ hq)) h
theorem Fr.frame {a : List IV} {n : Nat} {l : List (Nat × IV)} (h : Fr a n l) : ∃ j, a = frame l j 0 n := by
  refine ⟨fun t => a.getD t .dead, List.ext_getElem? fun i => ?_⟩
  rcases Nat.lt_or_ge i n with hi | hi
  · rw [frame_get _ _ _ _ _ hi, Nat.zero_add]
    obtain ⟨v, ha⟩ : ∃ v, a[i]? = some v := ⟨_, List.getElem?_eq_getElem (show i < a.length by rw [h.1]; exact hi)⟩
    rw [ha, slot_of h.2 ha]
  · rw [List.getElem?_eq_none (by rw [h.1]; exact hi), List.getElem?_eq_none (by rw [frame_length]; exact hi)]
theorem fr_nil {a : List IV} {n : Nat} : Fr a n [] = (a.length = n) := by simp [Fr]
theorem fr_cons {a : List IV} {n : Nat} {p : Nat × IV} {l : List (Nat × IV)} : Fr a n (p :: l) = (a[p.1]? = some p.2 ∧ Fr a n l) := by
  simp only [Fr, List.forall_mem_cons, eq_iff_iff]
  exact ⟨fun h => ⟨h.2.1, h.1, h.2.2⟩, fun h => ⟨h.2.1, h.1, h.2.2⟩⟩
theorem lout_all {H H1 : IH} {a1 : List IV} {R : List IV → IH → Prop} (h : R a1 (H.back H1)) : lout H a1 H1 R := lout_raw Weak.rfl h
theorem lout_same {H H1 : IH} {a1 : List IV} {R : List IV → IH → Prop} (hl : H.n ≤ H1.lo) (hlt : ∀ v ∈ a1, Lt H.n v) (h : R a1 H) : lout H a1 H1 R := lout_quiet hl Weak.rfl hlt h

/-- A heap that grew; what stood stands. -/
structure Ext (H H' : IH) : Prop where
  n : H.n ≤ H'.n
  f : ∀ i, i < H.n → H'.f i = H.f i
  lo : min H.lo H.n ≤ H'.lo
theorem Ext.refl (H : IH) : Ext H H := ⟨Nat.le_refl _, fun _ _ => rfl, Nat.min_le_left _ _⟩
theorem Ext.trans {H H1 H2 : IH} (h1 : Ext H H1) (h2 : Ext H1 H2) : Ext H H2 := ⟨Nat.le_trans h1.n h2.n, fun i hi => (h2.f i (Nat.lt_of_lt_of_le hi h1.n)).trans (h1.f i hi), by have := h1.n; have := h1.lo; have := h2.lo; omega⟩
theorem Ext.push (H : IH) (b : IB) : Ext H (H.push b) := ⟨Nat.le_succ _, fun i hi => by rw [IH.push_f, if_neg (by omega)], Nat.min_le_left _ _⟩
theorem Ext.set {H H1 : IH} (h : Ext H H1) {i : Nat} (hi : H.n ≤ i) (b : IB) : Ext H (H1.set i b) := ⟨h.n, fun j hj => by rw [IH.set_f', if_neg (by omega)]; exact h.f j hj, by rw [IH.set_lo]; have := h.lo; split <;> omega⟩
theorem Ext.pushed {H H1 : IH} (h : Ext H H1) (b : IB) : Ext H (H1.push b) := h.trans (Ext.push H1 b)
theorem Ext.back {H H1 : IH} (h : Ext H.mark H1) : Ext H (H.back H1) := ⟨h.n, h.f, by have := h.lo; have : min H.n H.n ≤ H1.lo := this; show min H.lo H.n ≤ min H.lo H1.lo; omega⟩
theorem Ext.marked (H : IH) : Ext H H.mark := ⟨Nat.le_refl _, fun _ _ => rfl, Nat.min_le_right _ _⟩
theorem Ext.quiet {H H1 : IH} (h : Ext H.mark H1) : H.n ≤ H1.lo := by have := h.lo; have : min H.n H.n ≤ H1.lo := this; omega
/-- Behind a round: what began at a marked heap. -/
theorem Ext.round {H0 H H1 : IH} (h0 : Ext H0 H) (h : Ext H.mark H1) : Ext H0 (H.back H1) := h0.trans h.back
/-- The same where blocks made behind H0 were given up. -/
theorem Ext.backs {H0 H H1 : IH} (h0 : Ext H0 H) (h : Ext H0 H1) : Ext H0 (H.back H1) := ⟨h.n, h.f, by have := h.lo; have := h0.lo; show min H0.lo H0.n ≤ min H.lo H1.lo; omega⟩
attribute [go_sem] fr_nil fr_cons frame slot
end Go.Proofs.Ytnapimfiikgaiaa.Eng
