/- Cat: orders, plainly. Nothing here is a claim of its own. -/
import Derived.Test.YtnapimfiikgaiaaCa14
namespace Go.Proofs.Ytnapimfiikgaiaa.Eng
set_option linter.unusedSimpArgs false
set_option linter.unusedVariables false

theorem left_mem {n i : Nat} {out : List Nat} : i ∈ left n out ↔ i < n ∧ i ∉ out := by simp [left]
theorem left_step {n k : Nat} {out : List Nat} (hk : k < n) (ho : k ∉ out) : (left n (out ++ [k])).length + 1 = (left n out).length := by
  have := cnt_left (n := n) (i := k) (k := 0) (R := fun _ _ => true) (out := out) hk (by simpa using ho)
  simpa [cnt] using this
theorem cnt_zero {R : Nat → Nat → Bool} {L : List Nat} {k : Nat} : cnt R L k = 0 ↔ ∀ i ∈ L, R i k = false := by
  simp [cnt, List.countP_eq_zero]
theorem step_spec {n k : Nat} {R : Nat → Nat → Bool} {out : List Nat} (h : step n R out = some k) : k < n ∧ k ∉ out ∧ ∀ i, i < n → R i k = true → i ∈ out := by
  have h1 := List.mem_of_find?_eq_some h
  have h2 := List.find?_some h
  simp at h1 h2
  refine ⟨h1, h2.1, fun i hi hr => ?_⟩
  have h3 := cnt_zero.1 h2.2
  apply Classical.byContradiction
  intro hn
  have := h3 i (left_mem.2 ⟨hi, hn⟩)
  rw [hr] at this; cases this
/-- What is so of an order under way. -/
structure Od (n : Nat) (R : Nat → Nat → Bool) (out : List Nat) : Prop where
  nd : out.Nodup
  lt : ∀ k ∈ out, k < n
  od : ∀ k ∈ out, ∀ i, i < n → R i k = true → i ∈ out ∧ out.idxOf i < out.idxOf k
theorem Od.nil {n : Nat} {R : Nat → Nat → Bool} : Od n R [] := ⟨List.nodup_nil, fun k h => (by cases h), fun k h => (by cases h)⟩
theorem Od.next {n k : Nat} {R : Nat → Nat → Bool} {out : List Nat} (h : Od n R out) (hs : step n R out = some k) : Od n R (out ++ [k]) := by
  obtain ⟨h1, h2, h3⟩ := step_spec hs
  refine ⟨?_, fun j hj => ?_, fun j hj i hi hr => ?_⟩
  · rw [List.nodup_append]
    exact ⟨h.nd, by simp, fun a ha b hb e => h2 (by simp at hb; rw [← hb, ← e]; exact ha)⟩
  · rcases List.mem_append.1 hj with h4 | h4
    · exact h.lt j h4
    · simp at h4; rw [h4]; exact h1
  · have key : ∀ i, i ∈ out → (out ++ [k]).idxOf i = out.idxOf i := fun i hi => by rw [List.idxOf_append, if_pos hi]
    rcases List.mem_append.1 hj with h4 | h4
    · obtain ⟨h5, h6⟩ := h.od j h4 i hi hr
      exact ⟨List.mem_append_left _ h5, by rw [key i h5, key j h4]; exact h6⟩
    · simp at h4; subst h4
      have h5 := h3 i hi hr
      refine ⟨List.mem_append_left _ h5, ?_⟩
      rw [key i h5, List.idxOf_append, if_neg h2]
      have := List.idxOf_lt_length_iff.2 h5
      omega
theorem srt_od {n : Nat} {R : Nat → Nat → Bool} : ∀ (f : Nat) (out o : List Nat), srt n R f out = some o → Od n R out → (left n out).length = f → Od n R o ∧ left n o = []
  | 0, out, o, h, hO, hf => by
    simp only [srt] at h; cases h
    exact ⟨hO, List.eq_nil_of_length_eq_zero hf⟩
  | f + 1, out, o, h, hO, hf => by
    simp only [srt] at h
    cases hs : step n R out with
    | none => rw [hs] at h; cases h
    | some k =>
      rw [hs] at h
      obtain ⟨h1, h2, _⟩ := step_spec hs
      exact srt_od f _ o h (hO.next hs) (by have := left_step h1 h2; omega)
theorem left0 {n : Nat} : (left n []).length = n := by simp [left_nil]
theorem srt_od0 {n : Nat} {R : Nat → Nat → Bool} {o : List Nat} (h : srt n R n [] = some o) : Od n R o ∧ ∀ k, k < n → k ∈ o := by
  obtain ⟨h1, h2⟩ := srt_od n [] o h .nil left0
  refine ⟨h1, fun k hk => ?_⟩
  apply Classical.byContradiction
  intro hn
  have := left_mem.2 ⟨hk, hn⟩
  rw [h2] at this; cases this
theorem srt_rank {n : Nat} {R : Nat → Nat → Bool} {o : List Nat} (h : srt n R n [] = some o) (i k : Nat) (hi : i < n) (hk : k < n) (hr : R i k = true) : o.idxOf i < o.idxOf k :=
  ((srt_od0 h).1.od k ((srt_od0 h).2 k hk) i hi hr).2
/-- The least of a list, by a rank. -/
theorem least (rk : Nat → Nat) : ∀ (L : List Nat), L ≠ [] → ∃ k ∈ L, ∀ i ∈ L, rk k ≤ rk i
  | [], h => absurd rfl h
  | [a], _ => ⟨a, by simp, fun i hi => by simp at hi; rw [hi]; exact Nat.le_refl _⟩
  | a :: b :: L, _ => by
    obtain ⟨k, hk, h⟩ := least rk (b :: L) (by simp)
    by_cases hle : rk a ≤ rk k
    · refine ⟨a, by simp, fun i hi => ?_⟩
      cases hi with
      | head => exact Nat.le_refl _
      | tail _ hi => exact Nat.le_trans hle (h i hi)
    · refine ⟨k, List.mem_cons_of_mem _ hk, fun i hi => ?_⟩
      cases hi with
      | head => omega
      | tail _ hi => exact h i hi
theorem rank_go {n : Nat} {R : Nat → Nat → Bool} (rk : Nat → Nat) (h : ∀ i k, i < n → k < n → R i k = true → rk i < rk k) : ∀ (f : Nat) (out : List Nat), (left n out).length = f → (srt n R f out).isSome = true
  | 0, out, _ => rfl
  | f + 1, out, hf => by
    obtain ⟨k, hk, hl⟩ := least rk (left n out) (fun e => by rw [e] at hf; cases hf)
    obtain ⟨hkn, hko⟩ := left_mem.1 hk
    have hc : cnt R (left n out) k = 0 := cnt_zero.2 fun i hi => by
      cases hr : R i k with
      | false => rfl
      | true => have h1 := h i k (left_mem.1 hi).1 hkn hr; have h2 := hl i hi; omega
    have : (step n R out).isSome = true := by
      rw [step, List.find?_isSome]
      exact ⟨k, by simpa using hkn, by simp [hko, hc]⟩
    obtain ⟨j, hj⟩ := Option.isSome_iff_exists.1 this
    obtain ⟨h1, h2, _⟩ := step_spec hj
    simp only [srt, hj]
    exact rank_go rk h f _ (by have := left_step h1 h2; omega)
theorem rank_srt {n : Nat} {R : Nat → Nat → Bool} (rk : Nat → Nat) (h : ∀ i k, i < n → k < n → R i k = true → rk i < rk k) : (srt n R n []).isSome = true := rank_go rk h n [] left0
end Go.Proofs.Ytnapimfiikgaiaa.Eng
