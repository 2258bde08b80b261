/- Cat: an execution as an argument. Nothing here is a claim of its own. -/
import Derived.Test.YtnapimfiikgaiaaLa2
import Derived.Test.YtnapimfiikgaiaaEng22
namespace Go.Proofs.Ytnapimfiikgaiaa.Eng
open Go.RowKit
set_option linter.unusedSimpArgs false
set_option linter.unusedVariables false
set_option maxRecDepth 4000

theorem map_of {α : Type} {enc : α → List IV} {Q : List IV → Prop} (h : ∀ e, Q e → ∃ y, e = enc y) : ∀ (es : List (List IV)), (∀ e ∈ es, Q e) → ∃ l : List α, es = l.map enc
  | [], _ => ⟨[], rfl⟩
  | e :: es, hq => by
    obtain ⟨y, rfl⟩ := h e (hq e (List.mem_cons_self ..))
    obtain ⟨l, rfl⟩ := map_of h es fun e he => hq e (List.mem_cons_of_mem _ he)
    exact ⟨y :: l, rfl⟩
theorem tv_vl {α : Type} {P : Program} {enc : α → List IV} {n s : Nat} {t e : TypeId} {l : List IV} (ht : P.underlying t = some (.slice e)) (hs : P.cellsOf e = s) (hen : ∀ x, TV P n e x → ∃ y, x = enc y) (h : TV P (n + 1) t l) : ∃ x : VL α, l = [x.iv enc s] ∧ x.l.length * P.bytesOf e ≤ reachBytes := by
  simp only [TV, ht] at h
  rcases h with rfl | ⟨es, full, rfl, hsz, hes⟩
  · exact ⟨.nil, rfl, by simp [VL.l]⟩
  · obtain ⟨l, rfl⟩ := map_of hen es hes
    exact ⟨.mk l full, by rw [hs]; rfl, by simpa [VL.l] using hsz⟩
theorem tv_int {P : Program} {n : Nat} {t : TypeId} {k : IntKind} {l : List IV} (ht : P.underlying t = some (.int k)) (h : TV P (n + 1) t l) : ∃ z, l = [.int k z] := by
  simp only [TV, ht] at h
  obtain ⟨z, h, _⟩ := h
  exact ⟨z, h⟩
theorem tv_bool {P : Program} {n : Nat} {t : TypeId} {l : List IV} (ht : P.underlying t = some .bool) (h : TV P (n + 1) t l) : ∃ z, l = [.bool z] := by
  simp only [TV, ht] at h
  exact h
theorem tv_ev {n : Nat} {l : List IV} (h : TV Try.prog (n + 2) 53 l) : ∃ e : Ev, l = e.enc := by
  rw [TV, Try.underlying53] at h
  simp only [List.map_cons, List.map_nil, TVs] at h
  obtain ⟨a0, r0, rfl, h0, a1, r1, rfl, h1, a2, r2, rfl, h2, a3, r3, rfl, h3, a4, r4, rfl, h4, a5, r5, rfl, h5, a6, r6, rfl, h6, a7, r7, rfl, h7, a8, r8, rfl, h8, rfl⟩ := h
  obtain ⟨z0, rfl⟩ := tv_int Try.underlying3 h0
  obtain ⟨z1, rfl⟩ := tv_int Try.underlying3 h1
  obtain ⟨z2, rfl⟩ := tv_int Try.underlying30 h2
  obtain ⟨z3, rfl⟩ := tv_int Try.underlying3 h3
  obtain ⟨z4, rfl⟩ := tv_bool Try.underlying4 h4
  obtain ⟨z5, rfl⟩ := tv_bool Try.underlying4 h5
  obtain ⟨z6, rfl⟩ := tv_bool Try.underlying4 h6
  obtain ⟨z7, rfl⟩ := tv_bool Try.underlying4 h7
  obtain ⟨z8, rfl⟩ := tv_int Try.underlying3 h8
  exact ⟨⟨z0, z1, z2, z3, z4, z5, z6, z7, z8⟩, rfl⟩
theorem tv_I {n : Nat} {l : List IV} (h : TV Try.prog (n + 1) 3 l) : ∃ e : Int, l = encI e := tv_int Try.underlying3 h
theorem tv_P {n : Nat} {l : List IV} (h : TV Try.prog (n + 2) 55 l) : ∃ e : Int × Int, l = encP e := by
  rw [TV, Try.underlying55] at h
  simp only [List.replicate, TVs] at h
  obtain ⟨a0, r0, rfl, h0, a1, r1, rfl, h1, rfl⟩ := h
  obtain ⟨z0, rfl⟩ := tv_int Try.underlying3 h0
  obtain ⟨z1, rfl⟩ := tv_int Try.underlying3 h1
  exact ⟨(z0, z1), rfl⟩
theorem tv_ex {n : Nat} {l : List IV} (h : TV Try.prog (n + 4) 44 l) : ∃ x : Ex, l = x.cs := by
  rw [TV, Try.underlying44] at h
  simp only [List.map_cons, List.map_nil, TVs] at h
  obtain ⟨a0, r0, rfl, h0, a1, r1, rfl, h1, a2, r2, rfl, h2, a3, r3, rfl, h3, rfl⟩ := h
  obtain ⟨x0, rfl, s0⟩ := tv_vl (enc := Ev.enc) (s := 9) Try.underlying40 (by kernel_rfl) (fun x hx => tv_ev hx) h0
  obtain ⟨x1, rfl, s1⟩ := tv_vl (enc := encI) (s := 1) Try.underlying41 (by kernel_rfl) (fun x hx => tv_I hx) h1
  obtain ⟨x2, rfl, s2⟩ := tv_vl (enc := encI) (s := 1) Try.underlying41 (by kernel_rfl) (fun x hx => tv_I hx) h2
  obtain ⟨x3, rfl, s3⟩ := tv_vl (enc := encP) (s := 2) Try.underlying42 (by kernel_rfl) (fun x hx => tv_P hx) h3
  exact ⟨⟨x0, x1, x2, x3⟩, rfl⟩
end Go.Proofs.Ytnapimfiikgaiaa.Eng
