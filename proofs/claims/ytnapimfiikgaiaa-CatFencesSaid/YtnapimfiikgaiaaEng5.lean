/- The ideal machine, part 5: its operations that read stand to the model's: the rest of them. Nothing here is a claim of its own. -/
import Derived.Test.YtnapimfiikgaiaaEng4
import Derived.Laws.Tables
import Derived.Laws.BytesString
namespace Go.Proofs.Ytnapimfiikgaiaa.Eng
open Go.RowKit
set_option linter.unusedSimpArgs false
set_option linter.unusedVariables false

def vsplice (e : List Value) (j : Nat) : List Value → List Value
  | [] => e
  | v :: vs => vsplice (e.set j v) (j + 1) vs
theorem splice_VRs {env : Env} {N : Nat} : ∀ {vs : List IV} {ys : List Value} (j : Nat) {e : List IV} {xs : List Value}, VRs env N e xs → VRs env N vs ys → VRs env N (splice e j vs) (vsplice xs j ys)
  | _, _, j, _, _, h, .nil => h
  | _, _, j, _, _, h, .cons _ _ _ _ hv hs => splice_VRs (j + 1) (h.set hv j) hs
theorem vsplice_length : ∀ (vs : List Value) (j : Nat) (e : List Value), (vsplice e j vs).length = e.length
  | [], _, _ => rfl
  | v :: vs, j, e => by simp [vsplice, vsplice_length vs]
theorem splice_length : ∀ (vs : List IV) (j : Nat) (e : List IV), (splice e j vs).length = e.length
  | [], _, _ => rfl
  | v :: vs, j, e => by simp [splice, splice_length vs]

theorem fold_splice (off : Nat) : ∀ (ys : List Value) (m : Nat) (xs : List Value),
    (ys.zipIdx m).foldl (fun (cs : Array Value) (p : Value × Nat) => cs.setIfInBounds (off + p.2) p.1) xs.toArray = (vsplice xs (off + m) ys).toArray
  | [], m, xs => rfl
  | y :: ys, m, xs => by
    simp only [List.zipIdx_cons, List.foldl_cons, vsplice]
    rw [List.setIfInBounds_toArray, fold_splice off ys (m + 1)]
    rfl

inductive PR (env : Env) (N : Nat) : List (Nat × IV) → List (Nat × Value) → Prop
  | nil : PR env N [] []
  | cons (i : Nat) (v : IV) (x : Value) (l : List (Nat × IV)) (r : List (Nat × Value)) (h : VR env N v x) (hs : PR env N l r) : PR env N ((i, v) :: l) ((i, x) :: r)
theorem PR.of_map {env : Env} {N : Nat} {ρ : Operand → IV} {ρ' : Operand → Value} (hρ : ∀ x, VR env N (ρ x) (ρ' x)) : ∀ (l : List (Nat × Operand)), PR env N (l.map fun (i, x) => (i, ρ x)) (l.map fun (i, x) => (i, ρ' x))
  | [] => .nil
  | (i, x) :: l => .cons i _ _ _ _ (hρ x) (PR.of_map hρ l)

theorem solid_ok {v : IV} (h : v.solid = true) : v ≠ .dead ∧ (∀ l, v ≠ .tup l) ∧ ∀ u ∈ v.cells, u.one = true := by
  cases v <;> simp [IV.solid, IV.one, IV.cells] at h ⊢
  exact h

theorem fill_sound {env : Env} {N : Nat} (place : Nat → Option (Nat × Nat)) : ∀ {ps : List (Nat × IV)} {qs : List (Nat × Value)} {cells : List IV} {xs : List Value} {r : List IV}, PR env N ps qs → VRs env N cells xs → ifill place cells ps = some r →
    ∃ ys : List Value, Instr.fill place xs.toArray qs = some ys.toArray ∧ VRs env N r ys
  | _, _, cells, xs, r, .nil, h, hr => by simp [ifill] at hr; subst hr; exact ⟨xs, rfl, h⟩
  | _, _, cells, xs, r, .cons i v x l q hv hs, h, hr => by
    simp only [ifill] at hr
    split at hr
    · cases hr
    · rename_i off size hp
      split at hr
      · rename_i hc
        obtain ⟨h1, h2, h3⟩ := solid_ok hc.1
        have hcv := hv.cells h1 h2
        obtain ⟨ys, hy, hys⟩ := fill_sound place hs (splice_VRs off h hcv) hr
        refine ⟨ys, ?_, hys⟩
        have hl : x.cells.size = size := by have := hcv.length; simp at this; omega
        have hl2 : xs.length = cells.length := h.length.symm
        rw [Instr.fill]
        simp only [hp, hl, List.size_toArray, hl2]
        rw [if_neg (by simp; omega)]
        rw [← hy]
        congr 1
        have := fold_splice off x.cells.toList 0 xs
        rw [← Array.foldl_toList, Array.toList_zipIdx]
        exact this
      · cases hr

section sound
variable {P : Program} {base : Nat} {env : Env} {H : IH} {w : World}

theorem tZero_spec {t : TypeId} {z : List IV} (h : tZero P t = some z) : ∃ i x, P.info? t = some i ∧ i.zero = some x ∧ ofFlats x.cells.toList = some z := by
  unfold tZero at h
  split at h
  · rename_i i hi
    split at h
    · rename_i x hx; exact ⟨i, x, hi, hx, h⟩
    · cases h
  · cases h
theorem tZero_VRs {t : TypeId} {z : List IV} {env : Env} {N : Nat} (h : tZero P t = some z) : ∃ x, (∀ w, (zeroValue t).run P w = .ok x w) ∧ VRs env N z x.cells.toList ∧ ∃ i, P.info? t = some i ∧ i.zero = some x := by
  obtain ⟨i, x, hi, hx, hz⟩ := tZero_spec h
  exact ⟨x, fun w => by simp [zeroValue, typeInfo, hi, hx], ofFlats_VR hz, i, hi, hx⟩

theorem build_sound {t : TypeId} {ps : List (Nat × IV)} {qs : List (Nat × Value)} (hp : PR env H.n ps qs) {v : IV} (hv : ibuild P t ps = some v) :
    ∃ x, (Instr.build t qs.toArray).run P w = .ok x w ∧ VR env H.n v x := by
  unfold ibuild at hv
  split at hv
  · rename_i z pl hz hpl
    cases hf : ifill (fun i => pl[i]?) z ps with
    | none => simp [hf] at hv
    | some r =>
      simp [hf] at hv; subst hv
      obtain ⟨x, _, hxs, i, hi, hx⟩ := tZero_VRs (env := env) (N := H.n) hz
      obtain ⟨ys, hy, hys⟩ := fill_sound _ hp hxs hf
      refine ⟨.agg ys.toArray, run_build w t _ _ ?_, .agg _ _ hys⟩
      unfold sPlaces at hpl
      split at hpl
      · rename_i fs hu
        unfold Program.built
        simp only [hi, hu, hx, hpl]
        simpa using hy
      · cases hpl
  · rename_i z n e hz _ ha
    unfold tArr at ha
    split at ha
    · rename_i n' e' hu
      cases ha
      split at hv
      · rename_i m hm
        cases hf : ifill (fun i => some (i * m, m)) z ps with
        | none => simp [hf] at hv
        | some r =>
          simp [hf] at hv; subst hv
          obtain ⟨x, _, hxs, i, hi, hx⟩ := tZero_VRs (env := env) (N := H.n) hz
          obtain ⟨ys, hy, hys⟩ := fill_sound _ hp hxs hf
          refine ⟨.agg ys.toArray, run_build w t _ _ ?_, .agg _ _ hys⟩
          unfold tSize at hm
          cases hie : P.info? e with
          | none => simp [hie] at hm
          | some ie =>
            simp [hie] at hm; subst hm
            unfold Program.built
            simp only [hi, hu, hx, hie]
            simpa using hy
      · cases hv
    · cases ha
  · cases hv

theorem bound_sound {x : Option IV} {x' : Option Value} (hx : x = none ∧ x' = none ∨ ∃ a b, x = some a ∧ x' = some b ∧ VR env H.n a b) {y d r : Nat} (h : ibound x y d = some r) :
    (x' = none ∧ r = d ∧ x = none) ∨ ∃ b, x' = some b ∧ (∀ c, (Instr.sliceBound b y c).run P w = .ok r w) ∧ r ≤ y ∧ x ≠ none := by
  unfold ibound at h
  rcases hx with ⟨rfl, rfl⟩ | ⟨a, b, rfl, rfl, hab⟩
  · simp at h; exact .inl ⟨rfl, h.symm, rfl⟩
  · right
    split at h
    · rename_i h'; cases h'
    · rename_i k i h'
      cases h'
      cases hab
      split at h
      · rename_i hi
        cases h
        refine ⟨_, rfl, fun c => ?_, by omega, by simp⟩
        simp [Instr.sliceBound, asIntOf, hi]
      · cases h
    · cases h

theorem opt_VR {ρ : Operand → IV} {ρ' : Operand → Value} (hρ : ∀ x, VR env H.n (ρ x) (ρ' x)) (x : Option Operand) :
    (x.map ρ = none ∧ x.map ρ' = none) ∨ ∃ a b, x.map ρ = some a ∧ x.map ρ' = some b ∧ VR env H.n a b := by
  cases x with
  | none => exact .inl ⟨rfl, rfl⟩
  | some x => exact .inr ⟨_, _, rfl, rfl, hρ x⟩

/-- Slice bounds, as the model asks them. -/
theorem bounds_sound {lo hi mx : Option IV} {lo' hi' mx' : Option Value} (hlo : lo = none ∧ lo' = none ∨ ∃ a b, lo = some a ∧ lo' = some b ∧ VR env H.n a b) (hhi : hi = none ∧ hi' = none ∨ ∃ a b, hi = some a ∧ hi' = some b ∧ VR env H.n a b)
    (hmx : mx = none ∧ mx' = none ∨ ∃ a b, mx = some a ∧ mx' = some b ∧ VR env H.n a b) (isS : Bool) {n c m h l : Nat} (hnc : n ≤ c) (h1 : ibound mx n n = some m) (h2 : ibound hi m n = some h) (h3 : ibound lo h 0 = some l) (hmh : hi = none → mx = none) (hhm : h ≤ m) :
    (Instr.sliceBounds isS n c lo' hi' mx').run P w = .ok (l, h, if mx.isSome then m else c) w ∧ l ≤ h ∧ m ≤ n := by
  have widen : ∀ (b : Value) (y y' r : Nat) (cd : BoundsCode), y ≤ y' → (∀ c, (Instr.sliceBound b y c).run P w = .ok r w) → r ≤ y → (Instr.sliceBound b y' cd).run P w = .ok r w := by
    intro b y y' r cd hy hb hr
    have := hb cd
    unfold Instr.sliceBound at this ⊢
    simp only [Sem.run_bind] at this ⊢
    cases ha : (asIntOf b).run P w with
    | ok ki w2 =>
      obtain ⟨k, i⟩ := ki
      simp only [ha, Result.andThen_ok] at this ⊢
      by_cases hi : 0 ≤ i ∧ i ≤ (y : Int)
      · rw [if_pos hi] at this; rw [if_pos (by omega)]; exact this
      · rw [if_neg hi] at this
        exfalso
        unfold boundsPanic at this
        simp only [Sem.run_bind] at this
        split at this
        · simp [choose, Sem.run, Question.forced, Result.andThen, runtimePanic, program, goPanic] at this
        · simp [runtimePanic, program, goPanic, Result.andThen, Sem.run] at this
    | halt hh w2 => simp only [ha, Result.andThen] at this; cases this
  have b1 := bound_sound (P := P) (w := w) hmx h1
  have b2 := bound_sound (P := P) (w := w) hhi h2
  have b3 := bound_sound (P := P) (w := w) hlo h3
  have hm : m ≤ n := by rcases b1 with ⟨_, rfl, _⟩ | ⟨_, _, _, h, _⟩ <;> omega
  have hl : l ≤ h := by rcases b3 with ⟨_, rfl, _⟩ | ⟨_, _, _, h, _⟩ <;> omega
  refine ⟨?_, hl, hm⟩
  unfold Instr.sliceBounds
  rcases b1 with ⟨rfl, rfl, rfl⟩ | ⟨bm, rfl, hbm, hbm', hne⟩
  · rcases b2 with ⟨rfl, rfl, _⟩ | ⟨bh, rfl, hbh, hbh', _⟩
    · rcases b3 with ⟨rfl, rfl, _⟩ | ⟨bl, rfl, hbl, _, _⟩
      · simp [Sem.run_bind]
      · simp [Sem.run_bind, hbl]
    · rcases b3 with ⟨rfl, rfl, _⟩ | ⟨bl, rfl, hbl, _, _⟩
      · simp [Sem.run_bind, widen bh _ c h _ hnc hbh hbh']
      · simp [Sem.run_bind, widen bh _ c h _ hnc hbh hbh', hbl]
  · have hms : mx.isSome = true := by cases mx <;> simp_all
    rcases b2 with ⟨rfl, rfl, hno⟩ | ⟨bh, rfl, hbh, hbh', _⟩
    · exact absurd (hmh hno) hne
    · rcases b3 with ⟨rfl, rfl, _⟩ | ⟨bl, rfl, hbl, _, _⟩
      · simp [Sem.run_bind, widen bm _ c m _ hnc hbm hbm', hbh, hms]
      · simp [Sem.run_bind, widen bm _ c m _ hnc hbm hbm', hbh, hbl, hms]

end sound
end Go.Proofs.Ytnapimfiikgaiaa.Eng
