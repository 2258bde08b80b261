/- The ideal machine, part 10: append, and every operation that writes; calls. Nothing here is a claim of its own. -/
import Derived.Test.YtnapimfiikgaiaaEng9
import Derived.Laws.Append
namespace Go.Proofs.Ytnapimfiikgaiaa.Eng
open Go.RowKit
set_option linter.unusedSimpArgs false
set_option linter.unusedVariables false

theorem flat_get' {α : Type} {s : Nat} : ∀ {es : List (List α)}, (∀ e ∈ es, e.length = s) → ∀ {q : Nat} {v : α}, es.flatten[q]? = some v → ∃ k e j, es[k]? = some e ∧ e[j]? = some v ∧ q = k * s + j
  | [], _, q, v, h => by simp at h
  | e0 :: es, hs, q, v, h => by
    have h0 := hs e0 (List.mem_cons_self ..)
    rw [List.flatten_cons] at h
    by_cases hq : q < e0.length
    · rw [List.getElem?_append_left hq] at h
      exact ⟨0, e0, q, rfl, h, by omega⟩
    · rw [List.getElem?_append_right (by omega)] at h
      obtain ⟨k, e, j, h1, h2, h3⟩ := flat_get' (fun e he => hs e (List.mem_cons_of_mem _ he)) h
      exact ⟨k + 1, e, j, by simpa using h1, h2, by rw [Nat.add_mul]; omega⟩

section sound
variable {P : Program} {base : Nat} {env : Env} {H : IH} {w : World} {ρ : Operand → IV} {ρ' : Operand → Value}

theorem cells_of (h : SR base env H w) {i : Nat} (hi : i < H.n) {own : Bool} {s : Nat} {es : List (List IV)} (hf : H.f i = .cells own s es) : (env i).s = s ∧ Cells env H.n w (env i) es := by
  have hb := h.blk i hi
  rw [hf] at hb
  cases own <;> exact ⟨hb.1, hb.2.1⟩

/-- A range of elements, read. -/
theorem read_rows (h : SR base env H w) {i : Nat} (hi : i < H.n) {own : Bool} {s : Nat} {es : List (List IV)} (hf : H.f i = .cells own s es) {k n : Nat} (hkn : k + n ≤ es.length) :
    ∃ xs : List Value, VRs env H.n ((es.drop k).take n).flatten xs ∧ xs.length = n * s ∧ (∀ q x, xs[q]? = some x → w.cell? ⟨(env i).b, (env i).d + k * s + q, none⟩ = some x) ∧ (loadCells ⟨(env i).b, (env i).d + k * s, none⟩ (n * s)).run P w = .ok xs.toArray w := by
  obtain ⟨hs, hrow, hcell⟩ := cells_of h hi hf
  have hrows : ∀ e ∈ (es.drop k).take n, e.length = s := fun e he => by rw [hrow e (List.mem_of_mem_drop (List.mem_of_mem_take he)), hs]
  have hfl : ((es.drop k).take n).flatten.length = n * s := by rw [flat_length hrows]; simp; rw [Nat.min_eq_left (by omega)]
  obtain ⟨xs, h1, h2, h3, h4⟩ := read_list (P := P) (w := w) (H := H) (env := env) (b := (env i).b) (o := (env i).d + k * s) (vs := ((es.drop k).take n).flatten) fun q v hq => by
    obtain ⟨k', e, j, e1, e2, e3⟩ := flat_get' hrows hq
    have hk' : k' < n := by have := (List.getElem?_eq_some_iff.1 e1).1; simp at this; omega
    rw [List.getElem?_take_of_lt hk', List.getElem?_drop] at e1
    obtain ⟨x, hx, hv⟩ := hcell _ _ e1 _ _ e2
    refine ⟨x, ?_, hv⟩
    rw [e3, show (env i).d + k * s + (k' * s + j) = (env i).d + ((k + k') * (env i).s + j) by rw [hs, Nat.add_mul]; omega]
    exact hx
  exact ⟨xs, h2, by rw [h1, hfl], h3, by rw [← hfl]; exact h4⟩

theorem src_sound (h : SR base env H w) {s : Nat} {y : IV} {y' : Value} (hy : VR env H.n y y') {new : List (List IV)} (hn : srcElems H s y = some new) :
    (∀ e ∈ new, e.length = s) ∧ (Builtin.lenOf y').run P w = .ok new.length w ∧ ∃ xs : List Value, VRs env H.n new.flatten xs ∧ (Builtin.firstCells s new.length y').run P w = .ok xs.toArray w := by
  unfold srcElems at hn
  split at hn
  · cases hn
    cases hy
    exact ⟨by simp, rfl, [], .nil, rfl⟩
  · rename_i i k n s' full
    split at hn
    · rename_i hs
      by_cases hn0 : n = 0
      · rw [if_pos hn0] at hn
        cases hn
        obtain ⟨a, c, rfl, _⟩ := hy.inv_slc
        subst hn0
        refine ⟨by simp, rfl, [], .nil, ?_⟩
        show (loadCells a (0 * s)).run P w = _
        simp [loadCells, loadCellsFrom]
      rw [if_neg hn0] at hn
      split at hn
      · rename_i own s2 es hf
        split at hn
        · rename_i hkn
          cases hn
          obtain ⟨a, c, rfl, ⟨hi, _⟩, hes, hnc, _, ha⟩ := hy.inv_slc
          obtain ⟨hs2, hrow, hcell⟩ := cells_of h hi hf
          have hss : s2 = s := by omega
          subst hss
          obtain ⟨xs, h1, h2, h3, h4⟩ := read_rows (P := P) h hi hf hkn
          have hl : ((es.drop k).take n).length = n := by simp; omega
          refine ⟨fun e he => by rw [hrow e (List.mem_of_mem_drop (List.mem_of_mem_take he)), hs2], by rw [hl]; rfl, xs, h1, ?_⟩
          rw [hl]
          show (loadCells a (n * s2)).run P w = _
          by_cases h0 : c = 0
          · have hn0 : n = 0 := by omega
            subst hn0
            have : xs = [] := List.eq_nil_of_length_eq_zero (by simpa using h2)
            subst this
            simp [loadCells, loadCellsFrom]
          · obtain ⟨ha1, _⟩ := ha h0
            rw [ha1, hs]
            exact h4
        · cases hn
      · cases hn
    · cases hn
  · rename_i s' es full
    split at hn
    · rename_i hs
      cases hn
      subst hs
      obtain ⟨a, c, rfl, hnc, _, ha⟩ := hy.inv_vs
      rcases ha with ha | ⟨b, o, arr, ys, rfl, hF, hl, hxs, hvs⟩
      · subst ha
        refine ⟨by simp, rfl, [], .nil, ?_⟩
        show (loadCells a (0 * _)).run P w = _
        simp [loadCells, loadCellsFrom]
      · obtain ⟨xs, h1, h2, _, h4⟩ := read_list (P := P) (w := w) (H := H) (env := env) (b := b) (o := o) (vs := new.flatten) (vp_cells h hF hxs hvs)
        refine ⟨hl, rfl, xs, h2, ?_⟩
        show (loadCells _ (_ * _)).run P w = _
        rw [flat_length hl] at h4; exact h4
    · cases hn
  · rename_i b
    split at hn
    · rename_i hs
      cases hn
      subst hs
      cases hy
      refine ⟨by simp, by simp only [List.length_map, Array.length_toList]; rfl, b.data.toList.map fun c => .int .u8 c.toNat, ?_, ?_⟩
      · have : (b.data.toList.map fun c => [IV.int .u8 (c.toNat : Int)]).flatten = b.data.toList.map fun c => IV.int .u8 (c.toNat : Int) := by
          generalize b.data.toList = l
          induction l with
          | nil => rfl
          | cons c l ih => simp [ih]
        rw [this]
        generalize b.data.toList = l
        induction l with
        | nil => exact .nil
        | cons c l ih => exact .cons _ _ _ _ (.int _ _) ih
      · simp only [Builtin.firstCells, List.length_map]
        have he : b.extract 0 b.data.toList.length = b := by
          have : b.data.toList.length = b.size := Array.length_toList
          rw [this]; simp
        rw [he]
        show Result.ok _ w = _
        congr 1
        apply Array.ext'
        simp
    · cases hn
  · cases hn

theorem tBytes_run {e : TypeId} {b : Nat} (hb : tBytes P e = some b) : ∃ it, (∀ w, (typeInfo e).run P w = .ok it w) ∧ it.bytes = b := by
  unfold tBytes at hb
  cases hq : P.info? e with
  | none => simp [hq] at hb
  | some it => simp [hq] at hb; exact ⟨it, fun w => by simp [typeInfo, hq], hb⟩

/-- Append, in place. -/
theorem run_append_room {t t2 e ty : TypeId} {ts : Array TypeId} {args : Array Value} (hu : P.underlying t = some (.slice e)) {d2 : TypeDesc} (hu2 : P.underlying t2 = some d2) (hd2 : notInt d2 = true)
    {s : Nat} (hs : tSize P e = some s) (h0 : ts[0]? = some t) (h1 : ts[1]? = some t2) {bs : Option Addr} {n c m : Nat} {y' : Value} (hx : args[0]? = some (.slice bs n c)) (hy : args[1]? = some y')
    (hl : (Builtin.lenOf y').run P w = .ok m w) {xs : Array Value} (hf : (Builtin.firstCells s m y').run P w = .ok xs w) (hroom : n + m ≤ c) {w' : World} (hst : (match bs with | some a => storeCells (a.add (n * s)) xs.toList | none => pure () : Sem Unit).run P w = .ok () w') :
    (Builtin.append_ ts ty args).run P w = .ok (.slice bs (n + m) c) w' := by
  unfold Builtin.append_
  simp only [h0, hx, hy, h1, Sem.run_bind, run_und hu, Result.andThen_ok, run_size hs, run_und hu2, Sem.run_pure]
  cases d2 <;> first | (simp [notInt] at hd2; done) | skip
  all_goals
    simp only [Bool.false_eq_true, if_false, hl, if_pos hroom, Bool.not_false, if_true, hf, Sem.run_bind, Result.andThen_ok, Sem.run_pure]
    cases bs with
    | none => simp only [Sem.run_pure, Result.andThen_ok] at hst ⊢; cases hst; rfl
    | some a => simp only [Sem.run_bind, hst, Result.andThen_ok, Sem.run_pure]

/-- Append, into a new row. -/
theorem run_append_grow {t t2 e ty : TypeId} {ts : Array TypeId} {args : Array Value} (hu : P.underlying t = some (.slice e)) {d2 : TypeDesc} (hu2 : P.underlying t2 = some d2) (hd2 : notInt d2 = true)
    {s b : Nat} (hs : tSize P e = some s) (hb : tBytes P e = some b) (hb0 : 0 < b) {z : Value} (hz : ∀ w, (zeroValue e).run P w = .ok z w) (h0 : ts[0]? = some t) (h1 : ts[1]? = some t2) {bs : Option Addr} {n c m : Nat} {y' : Value} (hx : args[0]? = some (.slice bs n c)) (hy : args[1]? = some y')
    (hl : (Builtin.lenOf y').run P w = .ok m w) {xs os : Array Value} (hf : (Builtin.firstCells s m y').run P { w with drawn := w.drawn + 1 } = .ok xs { w with drawn := w.drawn + 1 }) (hgrow : c < n + m) (hsz : (n + m) * b ≤ 2 ^ 47)
    (ho : (Builtin.firstCells s n (.slice bs n c)).run P { w with drawn := w.drawn + 1 } = .ok os { w with drawn := w.drawn + 1 }) :
    ∃ nc, n + m ≤ nc ∧ (Builtin.append_ ts ty args).run P w = .ok (.slice (some ⟨w.heap.size, 0, none⟩) (n + m) nc)
      { w with drawn := w.drawn + 1, heap := w.heap.push (.cells (os ++ xs ++ Builtin.zeroCells z.cells (nc - (n + m))) e) } := by
  obtain ⟨it, hit, hbb⟩ := tBytes_run hb
  refine ⟨(Question.appendCap (n + m) c e).cut (w.tape w.drawn (.appendCap (n + m) c e)), by simp [Question.cut], ?_⟩
  have hng : ¬ (n + m ≤ c) := by omega
  have hfit : ¬ (Builtin.nextslicecap (n + m) c * b > 2 ^ 48) := by
    have := growslice_fits (old := c) (need := n + m) (bytes := b) hgrow (by omega)
    omega
  unfold Builtin.append_
  have hb00 : ¬ b = 0 := by omega
  have hch : (choose (.appendCap (n + m) c e)).run P w = .ok ((Question.appendCap (n + m) c e).cut (w.tape w.drawn (.appendCap (n + m) c e))) { w with drawn := w.drawn + 1 } := by
    simp [choose, Sem.run, Question.forced]
  have hask : ∀ k (w : World), (askRoom k).run P w = .ok () w := fun k w => by unfold askRoom; split <;> simp [mark, Sem.run]
  simp only [h0, hx, hy, h1, Sem.run_bind, run_und hu, Result.andThen_ok, run_size hs, run_und hu2, Sem.run_pure]
  cases d2 <;> first | (simp [notInt] at hd2; done) | skip
  all_goals
    simp only [Bool.false_eq_true, if_false, hl, if_neg hng, Bool.not_false, if_true, hit, hbb, Sem.run_bind, Result.andThen_ok, false_or, hb00, and_false, if_neg hfit, hch, hask, ho, hf, hz, run_newRow, Sem.run_pure]

end sound
end Go.Proofs.Ytnapimfiikgaiaa.Eng
