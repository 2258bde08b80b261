/- CatFences: for every execution and every number, removing a fence from an allowed execution gives an allowed one. Conditions: none. -/
import Derived.Test.YtnapimfiikgaiaaRows
import Derived.Test.YtnapimfiikgaiaaRx
import Derived.Test.YtnapimfiikgaiaaLa3
import Derived.Test.YtnapimfiikgaiaaCa16
import Derived.WalkKit
import Derived.ProofKit
import Derived.OpenShut
import Derived.ShutString
import Derived.ChangeOld
import Derived.Below
import Derived.SizedLaws
namespace Go.Proofs.Ytnapimfiikgaiaa.catFences
open Go.ChangeShapes Go.WideShapes Go.ChangeAt Go.RowKit
open Go.Proofs.Ytnapimfiikgaiaa.Eng
set_option linter.unusedVariables false
set_option linter.unusedSimpArgs false
theorem own : ownKnob Try.prog.godebug = none := by kernel_rfl
theorem laidOut : laidOutB Try.prog = true := by kernel_rfl
set_option maxRecDepth 100000 in
theorem lifted (os : Os) (started : os.Started) (H : Type) (enc : TypeId × Value → H) :
    ReturnsInHanded {} Try.checked os 4 .any (Rows.catFencesSpec.pre6 enc Try.prog Try.f4 Rows.catFencesRow.domain false) (Rows.catFencesSpec.post enc Try.prog Try.f4 false true false false) := by
  refine returnsInHanded_of_change_sized (C := Try.checked) own started (by kernel_rfl) Try.func4
    (ChangeSpec.witness6 (enc := enc) (C := Try.checked) false ⟨#[], #[.agg #[.slice none 0 0, .slice none 0 0, .slice none 0 0, .slice none 0 0], .int .i64 0], []⟩ 8 (by kernel_rfl) (by kernel_rfl) (by kernel_rfl) (by kernel_rfl)) ?_
  intro W base args ds gs before hval0 hW hcnd hsz0 _
  have hsz : (DataW.weightsEach Try.prog (Try.f4.params.toList ++ Rows.catFencesSpec.plain.varTypes Try.prog) (ds ++ gs)).all (· ≤ reachBytes) = true := hsz0
  have hval : ∀ (j : Nat) t v, Try.f4.params[j]? = some t → args[j]? = some v → Value.okWide Try.prog W .any base t v := hval0
  have hW' := hW
  obtain ⟨p, q, hA0, hV, rfl, hfz, hnd⟩ := hW
  have hA : DataW.TrodAll enc Try.prog W 0 (fun _ => true) true Try.f4.params.toList args.toList ds p := hA0
  rw [Try.params4] at hA hval hsz
  obtain ⟨v0, vs0, d0, ds0, p0, q0, hargs, rfl, rfl, h0, r0⟩ := trodAll_cons hA
  obtain ⟨v1, vs1, d1, ds1, p1, q1, rfl, rfl, rfl, h1, r1⟩ := trodAll_cons r0
  obtain ⟨rfl, rfl, rfl⟩ := trodAll_nil r1
  obtain rfl : args = #[v0, v1] := by cases args; simp_all
  obtain ⟨rfl, rfl⟩ := trodVars_none hV
  have hv1 := hval 1 3 v1 rfl rfl
  have k0 := h0
  have k1 := h1
  have lt0 : ∀ x ∈ p0, x.block < W.heap.size := by obtain ⟨m, hm⟩ := k0; exact DataW.trod_lt m _ _ _ hm
  obtain ⟨z, rfl, rfl, rfl, w1⟩ := open_int Try.underlying3 hv1 h1
  obtain ⟨fuel, hf⟩ := h0
  obtain ⟨l, hl, ht⟩ := lay fuel 8 44 _ _ hf (by kernel_rfl) (fun m hm => by
    have := List.all_eq_true.1 hsz m (w_each (i := 0) rfl rfl hm)
    simpa using this)
  obtain ⟨x, rfl⟩ := tv_ex (n := 4) ht
  obtain ⟨cs, rfl, hx⟩ : ∃ cs, v0 = .agg cs ∧ VR (Fz W) 0 x.enc v0 := by
    rcases vr_of_cells hl with ⟨cs, e, h⟩ | ⟨_, y, e, _⟩
    · exact ⟨cs, e, h⟩
    · cases e
  have hv : VRs (Fz W) 0 [x.enc, .int .i64 z] [.agg cs, .int .i64 z] := .cons _ _ _ _ hx (.cons _ _ _ _ (.int _ _) .nil)
  have hc : ICall Try.prog (fun _ _ _ _ _ => False) 4 [x.enc, .int .i64 z] H0 (.bool true) H0 := by
    exact Fences_ok (fun _ _ _ _ _ => False) H0 x z fun ho h0 h1 h3 y g1 g2 g3 g4 => fences_law (cutX x) z.toNat ho (by omega) h3 y g1 g2 g3 g4
  refine (row_calls (P := Try.prog) (W := W) (by kernel_rfl) (fun f args H v H' h => h.elim) hv hc).mono fun e W' ⟨he, bel⟩ => ?_
  subst he
  exact ⟨_, rfl, _, _, _, [], _, [], hW', trodAll_mk1 (shut_bool Try.underlying4 _), trodAll_cons_mk (Below.trod laidOut (by kernel_rfl) (of_decide_eq_true (by kernel_rfl)) k0 bel lt0) (trodAll_cons_mk (shut_int Try.underlying3 w1) trodAll_mk0), rfl, bel.frame _, fun h => by cases h⟩
theorem over : Rows.catFencesRow.holds Try.pinned (OpenSpec.ofChange Rows.catFencesSpec) :=
  OpenClaim.holds_of_wide 4 Try.f4 rfl rfl rfl rfl rfl rfl rfl ⟨rfl, rfl, rfl, rfl, rfl⟩ rfl rfl rfl rfl rfl (by kernel_rfl) Try.func4 (by kernel_rfl)
    (of_decide_eq_true (by kernel_rfl)) (by unfold Func.isWrapper; first | (rw [if_pos (by decide +kernel)]; kernel_rfl) | (rw [if_neg (by decide +kernel)]; exact ⟨rfl, rfl⟩))
    (fun os started H enc _ => lifted os started H enc)
theorem proved : Rows.CatFencesSaid := over
#print axioms proved
end Go.Proofs.Ytnapimfiikgaiaa.catFences
