/- The ideal machine, part 8: operations that make a block stand to the model's. Nothing here is a claim of its own. -/
import Derived.Test.YtnapimfiikgaiaaEng7
namespace Go.Proofs.Ytnapimfiikgaiaa.Eng
open Go.RowKit
set_option linter.unusedSimpArgs false
set_option linter.unusedVariables false

/-! #### rows of elements, flat -/
theorem flat_get {α : Type} {s : Nat} : ∀ {es : List (List α)}, (∀ e ∈ es, e.length = s) → ∀ {k : Nat} {e : List α}, es[k]? = some e → ∀ {j : Nat} {v : α}, e[j]? = some v → es.flatten[k * s + j]? = some v
  | [], _, k, e, h, _, _, _ => by simp at h
  | e0 :: es, hs, 0, e, h, j, v, hv => by
    simp at h; subst h
    have : j < e0.length := (List.getElem?_eq_some_iff.1 hv).1
    simp [List.getElem?_append_left this, hv]
  | e0 :: es, hs, k + 1, e, h, j, v, hv => by
    have h0 := hs e0 (List.mem_cons_self ..)
    have ih := flat_get (fun e he => hs e (List.mem_cons_of_mem _ he)) (k := k) (by simpa using h) hv
    rw [List.flatten_cons, List.getElem?_append_right (by rw [h0, Nat.add_mul]; omega), h0, ← ih]
    congr 1
    rw [Nat.add_mul]; omega
theorem flat_length {α : Type} {s : Nat} : ∀ {es : List (List α)}, (∀ e ∈ es, e.length = s) → es.flatten.length = es.length * s
  | [], _ => by simp
  | e :: es, h => by
    rw [List.flatten_cons, List.length_append, flat_length (fun e he => h e (List.mem_cons_of_mem _ he)), h e (List.mem_cons_self ..), List.length_cons, Nat.add_mul]
    omega
theorem splice_append_left (a b : List IV) : ∀ (c : List IV) (j : Nat), j + c.length ≤ a.length → splice (a ++ b) j c = splice a j c ++ b
  | [], j, _ => rfl
  | v :: vs, j, h => by
    simp only [splice, List.length_cons] at h ⊢
    rw [List.set_append_left _ _ (by omega)]
    exact splice_append_left (a.set j v) b vs (j + 1) (by simp; omega)
theorem splice_append_right (a b : List IV) : ∀ (c : List IV) (j : Nat), splice (a ++ b) (a.length + j) c = a ++ splice b j c
  | [], j => rfl
  | v :: vs, j => by
    simp only [splice]
    rw [List.set_append_right _ _ (by omega), Nat.add_sub_cancel_left]
    exact splice_append_right a (b.set j v) vs (j + 1)
theorem splice_all : ∀ (c a : List IV), c.length = a.length → splice a 0 c = c := by
  have key : ∀ (c p a : List IV), c.length = a.length → splice (p ++ a) p.length c = p ++ c := by
    intro c
    induction c with
    | nil => intro p a h; cases a with | nil => rfl | cons _ _ => simp at h
    | cons v vs ih =>
      intro p a h
      cases a with
      | nil => simp at h
      | cons x a =>
        simp only [splice]
        rw [List.set_append_right _ _ (by omega), Nat.sub_self, List.set_cons_zero]
        have := ih (p ++ [v]) a (by simpa using h)
        simpa using this
  intro c a h
  have := key c [] a h
  simpa using this
theorem flat_set {s : Nat} : ∀ {es : List (List IV)}, (∀ e ∈ es, e.length = s) → ∀ {k : Nat} {c : List IV}, c.length = s → k < es.length → splice es.flatten (k * s) c = (es.set k c).flatten
  | [], _, k, c, _, h => by simp at h
  | e0 :: es, hs, 0, c, hc, _ => by
    have h0 := hs e0 (List.mem_cons_self ..)
    rw [Nat.zero_mul, List.flatten_cons, splice_append_left _ _ _ _ (by omega), splice_all _ _ (by omega)]
    rfl
  | e0 :: es, hs, k + 1, c, hc, h => by
    have h0 := hs e0 (List.mem_cons_self ..)
    rw [List.flatten_cons, show (k + 1) * s = e0.length + k * s by rw [Nat.add_mul, h0]; omega, splice_append_right, flat_set (fun e he => hs e (List.mem_cons_of_mem _ he)) hc (by simpa using h)]
    rfl
theorem ielems_spec {s : Nat} : ∀ {ps : List (Nat × IV)} {es es' : List (List IV)}, (∀ e ∈ es, e.length = s) → stepA.ielems s es ps = some es' →
    (∀ e ∈ es', e.length = s) ∧ es'.length = es.length ∧ ifill (fun i => some (i * s, s)) es.flatten ps = some es'.flatten
  | [], es, es', h, he => by simp [stepA.ielems] at he; subst he; exact ⟨h, rfl, rfl⟩
  | (i, v) :: ps, es, es', h, he => by
    simp only [stepA.ielems] at he
    split at he
    · rename_i hc
      have h2 : ∀ e ∈ es.set i v.cells, e.length = s := fun e he => by
        rcases List.mem_or_eq_of_mem_set he with h1 | h1
        · exact h e h1
        · rw [h1]; exact hc.2.1
      obtain ⟨h3, h4, h5⟩ := ielems_spec h2 he
      refine ⟨h3, by simpa using h4, ?_⟩
      simp only [ifill]
      rw [if_pos, flat_set h hc.2.1 hc.2.2, h5]
      refine ⟨hc.1, hc.2.1, ?_⟩
      rw [flat_length h]
      have := Nat.mul_le_mul_right s (show i + 1 ≤ es.length by omega)
      rw [Nat.add_mul] at this
      omega
    · cases he

section sound
variable {P : Program} {base : Nat} {env : Env} {H : IH} {w : World} {ρ : Operand → IV} {ρ' : Operand → Value}

theorem flat_cells {N : Nat} {es : List (List IV)} {s : Nat} {arr : Array Value} (hs : ∀ e ∈ es, e.length = s) {xs rest : List Value} (hx : VRs env N es.flatten xs) (ha : arr.toList = xs ++ rest) :
    ∀ (k : Nat) (e : List IV), es[k]? = some e → ∀ (j : Nat) (v : IV), e[j]? = some v → ∃ x, arr[k * s + j]? = some x ∧ VR env N v x := by
  intro k e hk j v hj
  obtain ⟨x, h1, h2⟩ := hx.get _ _ (flat_get hs hk hj)
  refine ⟨x, ?_, h2⟩
  rw [← Array.getElem?_toList, ha, List.getElem?_append_left (List.getElem?_eq_some_iff.1 h1).1]
  exact h1

/-- Zeros. -/
theorem zeros_get {z : Array Value} {m q : Nat} (hq : q < m) (hz : 0 < z.size) : ((Array.range m).map (z[· % z.size]!))[q]? = z[q % z.size]? := by
  have : q % z.size < z.size := Nat.mod_lt _ hz
  simp [hq, this]
theorem replicate_flat_get {α : Type} (z : List α) (n q : Nat) (hq : q < n * z.length) (hz : 0 < z.length) : (List.replicate n z).flatten[q]? = z[q % z.length]? := by
  have h1 : q / z.length < n := (Nat.div_lt_iff_lt_mul hz).2 hq
  have h2 : q % z.length < z.length := Nat.mod_lt _ hz
  have h3 : (q / z.length) * z.length + q % z.length = q := by have := Nat.div_add_mod q z.length; rw [Nat.mul_comm] at this; exact this
  have := flat_get (es := List.replicate n z) (s := z.length) (fun e he => by rw [(List.mem_replicate.1 he).2]) (k := q / z.length) (e := z) (by simp [h1]) (j := q % z.length) (v := z[q % z.length]) (by simp [h2])
  rw [h3] at this
  rw [this]; simp [h2]
theorem zeros_VRs {N : Nat} {z : List IV} {zs : Array Value} (hz : VRs env N z zs.toList) (h0 : 0 < z.length) (n m : Nat) (hnm : n * z.length ≤ m) :
    ∃ xs rest, ((Array.range m).map (zs[· % zs.size]!)).toList = xs ++ rest ∧ VRs env N (List.replicate n z).flatten xs := by
  have hl : zs.size = z.length := by have := hz.length; simpa using this.symm
  refine ⟨(((Array.range m).map (zs[· % zs.size]!)).toList).take (n * z.length), (((Array.range m).map (zs[· % zs.size]!)).toList).drop (n * z.length), (List.take_append_drop _ _).symm, ?_⟩
  refine VRs.of_get ?_ fun q v x hv hx => ?_
  · rw [flat_length (s := z.length) (fun e he => by rw [(List.mem_replicate.1 he).2])]
    simp
    omega
  · have hq : q < n * z.length := by
      have := (List.getElem?_eq_some_iff.1 hv).1
      rw [flat_length (s := z.length) (fun e he => by rw [(List.mem_replicate.1 he).2])] at this
      simpa using this
    rw [replicate_flat_get z n q hq h0] at hv
    rw [List.getElem?_take_of_lt hq, Array.getElem?_toList, zeros_get (by omega) (by omega), hl] at hx
    obtain ⟨x', h1, h2⟩ := hz.get _ _ hv
    rw [Array.getElem?_toList] at h1
    rw [h1] at hx; cases hx
    exact h2

theorem run_newRow (e : TypeId) (cells : Array Value) : (newRow e cells).run P w = .ok ⟨w.heap.size, 0, none⟩ { w with heap := w.heap.push (.cells cells e) } := by
  simp [newRow, newObj, Sem.run_bind, Sem.run, Result.andThen]

theorem one_cells {N : Nat} {z : List IV} {arr : Array Value} (hz : VRs env N z arr.toList) : ∀ (k : Nat) (e : List IV), [z][k]? = some e → ∀ (j : Nat) (v : IV), e[j]? = some v → ∃ x, arr[k * z.length + j]? = some x ∧ VR env N v x := by
  intro k e hk j v hj
  cases k with
  | succ k => simp at hk
  | zero =>
    simp at hk; subst hk
    obtain ⟨x, h1, h2⟩ := hz.get j v hj
    exact ⟨x, by simpa using h1, h2⟩

/-- What a new block of the model is, for an ideal one. -/
def NewOK (env : Env) (N : Nat) (w : World) (ob : Obj) (p : Pl) : IB → Prop
  | .cells true s es => ∃ arr ty, ob = .cells arr ty (0, 0) ∧ p = ⟨w.heap.size, 0, s, arr.size, true⟩ ∧ (∀ e ∈ es, e.length = s) ∧ es.length * s ≤ arr.size ∧
      ∀ (k : Nat) (e : List IV), es[k]? = some e → ∀ (j : Nat) (v : IV), e[j]? = some v → ∃ x, arr[k * s + j]? = some x ∧ VR env N v x
  | .map es => es = [] ∧ ob = .map #[] 0 ∧ p = ⟨w.heap.size, 0, 0, 0, true⟩
  | _ => False

theorem push_new (h : SR base env H w) {ob : Obj} {p : Pl} {ib : IB} (hn : NewOK env H.n w ob p ib) : Sim base env H w (upd env H.n p) (H.push ib) { w with heap := w.heap.push ob } := by
  cases ib with
  | dead => exact hn.elim
  | map es => obtain ⟨rfl, rfl, rfl⟩ := hn; exact Sim.pushMap h rfl rfl rfl rfl
  | cells own s es =>
    cases own with
    | false => exact hn.elim
    | true =>
      obtain ⟨arr, ty, rfl, rfl, h1, h2, h3⟩ := hn
      exact Sim.pushCells h arr ty 0 0 s es rfl rfl rfl rfl h1 h2 (fun o _ => by omega) h3

theorem one_new {e : TypeId} {z : List IV} {arr : Array Value} (hz : VRs env H.n z arr.toList) : NewOK env H.n w (.cells arr e) ⟨w.heap.size, 0, z.length, arr.size, true⟩ (.cells true z.length [z]) :=
  ⟨arr, e, rfl, rfl, by simp, by have := hz.length; simp at this; simp; omega, one_cells hz⟩
theorem ptr_new {p : Pl} {w : World} {s z : Nat} (hp : p = ⟨w.heap.size, 0, s, z, true⟩) : ∀ (env' : Env) (i N' : Nat), i < N' → env' i = p → VR env' N' (.ptr i 0 0) (.pointer (some ⟨w.heap.size, 0, none⟩)) := by
  intro env' i N' hi he
  have := VR.ptr (env := env') (N := N') i 0 0 hi (by rw [he, hp])
  rw [he, hp] at this
  simpa using this

theorem stepA_run (hρ : ∀ x, VR env H.n (ρ x) (ρ' x)) (o : Oper) {ib : IB} {mk : Nat → IV} (hv : stepA P ρ o.op = some (ib, mk)) :
    ∃ x ob p, (execOp ρ' o).run P w = .ok (.value x) { w with heap := w.heap.push ob } ∧ NewOK env H.n w ob p ib ∧ ∀ (env' : Env) (i N' : Nat), i < N' → env' i = p → VR env' N' (mk i) x := by
  obtain ⟨dst, op, ty, pos, after, guard⟩ := o
  simp only at hv
  cases op <;> simp only [stepA] at hv <;> first | cases hv; done | skip
  case alloc e =>
    split at hv
    · rename_i z hz
      cases hv
      obtain ⟨x, hx, hxs, i, hi, hiz⟩ := tZero_VRs (env := env) (N := H.n) hz
      refine ⟨_, _, _, ?_, one_new (e := e) hxs, ptr_new rfl⟩
      simp only [execOp]
      refine val_run ?_
      simp only [Instr.alloc, Sem.run_bind, hx, Result.andThen_ok, newVar, run_newRow, Sem.run_pure]
    · cases hv
  case box e x =>
    split at hv
    · rename_i hb
      cases hv
      have hxs := (hρ x).cells (by intro e; rw [e] at hb; simp [boxable] at hb) (by intro l e; rw [e] at hb; simp [boxable] at hb)
      refine ⟨_, _, _, ?_, one_new (e := e) hxs, ptr_new rfl⟩
      simp only [execOp]
      refine val_run ?_
      simp only [Instr.box, Sem.run_bind, Result.andThen_ok, newVar, run_newRow, Sem.run_pure]
    · cases hv
  case buildSlice t len parts =>
    split at hv
    · rename_i e hu
      split at hv
      · rename_i s z hs hz
        split at hv
        · rename_i hc
          split at hv
          · rename_i es he
            cases hv
            obtain ⟨hzl, hsmall⟩ := hc
            subst hzl
            obtain ⟨x, hx, hxs, i, hi, hiz⟩ := tZero_VRs (env := env) (N := H.n) hz
            obtain ⟨h1, h2, h3⟩ := ielems_spec (fun e he => by rw [(List.mem_replicate.1 he).2]) he
            have hlen : es.length = len := by simpa using h2
            have hin : ∃ cs : Array Value, (∀ k : Sem Value → Prop, True) ∧ cs.toList.length = len * z.length ∧ VRs env H.n (List.replicate len z).flatten cs.toList ∧ cs = (Array.range (len * z.length)).map ((if len * z.length = 0 then (#[] : Array Value) else x.cells)[· % (if len * z.length = 0 then (#[] : Array Value) else x.cells).size]!) := by
              refine ⟨_, fun _ => trivial, by simp, ?_, rfl⟩
              by_cases h0 : len * z.length = 0
              · have : (List.replicate len z).flatten = [] := by
                  apply List.eq_nil_of_length_eq_zero
                  rw [flat_length (s := z.length) (fun e he => by rw [(List.mem_replicate.1 he).2])]
                  simpa using h0
                rw [this, if_pos h0, h0, show (Array.range 0) = #[] from rfl]
                simpa using VRs.nil
              · rw [if_neg h0]
                have hzp : 0 < z.length := by
                  rcases Nat.eq_zero_or_pos z.length with h | h
                  · rw [h] at h0; simp at h0
                  · exact h
                obtain ⟨xs, rest, ha, hv⟩ := zeros_VRs hxs hzp len (len * z.length) (Nat.le_refl _)
                have hl := hv.length
                rw [flat_length (s := z.length) (fun e he => by rw [(List.mem_replicate.1 he).2])] at hl
                have hr : rest = [] := by
                  have := congrArg List.length ha
                  simp at this hl
                  exact List.eq_nil_of_length_eq_zero (by omega)
                rw [ha, hr, List.append_nil]
                exact hv
            obtain ⟨cs, _, hcl, hcv, hcs⟩ := hin
            obtain ⟨ys, hy, hys⟩ := fill_sound _ (PR.of_map hρ parts.toList) hcv h3
            have hyl : ys.length = len * z.length := by have := hys.length; rw [flat_length h1, hlen] at this; exact this.symm
            refine ⟨.slice (some ⟨w.heap.size, 0, none⟩) len len, .cells ys.toArray e, _, ?_, ⟨ys.toArray, e, rfl, rfl, h1, by rw [hlen]; simp [hyl], flat_cells h1 hys (rest := []) (by simp)⟩, ?_⟩
            · simp only [execOp]
              refine val_run ?_
              simp only [Instr.buildSlice, Sem.run_bind, run_und hu, Result.andThen_ok, run_size hs]
              rw [if_neg (by omega)]
              have hK : ∀ (K : Array Value → Sem Value), (if len * z.length = 0 then ((pure #[] : Sem (Array Value)) >>= K) else (zeroValue e >>= fun d => (pure d.cells : Sem (Array Value)) >>= K)).run P w = (K (if len * z.length = 0 then (#[] : Array Value) else x.cells)).run P w := by
                intro K
                split <;> simp [Sem.run_bind, hx]
              refine (hK _).trans ?_
              simp only [← hcs]
              have hparts : (parts.map fun (i, x) => (i, ρ' x)).toList = parts.toList.map fun (i, x) => (i, ρ' x) := by simp
              rw [hparts]
              have hy' : Instr.fill (fun i => some (i * z.length, z.length)) cs (parts.toList.map fun (i, x) => (i, ρ' x)) = some ys.toArray := by simpa using hy
              simp only [hy', Sem.run_bind, run_newRow, Result.andThen_ok, Sem.run_pure]
            · intro env' i N' hi he
              refine VR.slc _ _ _ _ _ _ _ hi (by rw [he]) (by rw [he]) (Nat.le_refl _) (fun _ => rfl) (fun _ => ?_)
              rw [he]
              exact ⟨by simp, by show 0 + (0 + len) * z.length ≤ ys.toArray.size; simp [hyl]⟩
          · cases hv
        · cases hv
      · cases hv
    · cases hv
  case makeMap t r =>
    cases r with
    | some r => simp at hv
    | none =>
      simp at hv
      obtain ⟨rfl, rfl⟩ := hv
      refine ⟨.map (some w.heap.size), .map #[] 0, ⟨w.heap.size, 0, 0, 0, true⟩, ?_, ⟨rfl, rfl, rfl⟩, ?_⟩
      · simp only [execOp]
        refine val_run ?_
        simp [Instr.makeMap, Sem.run_bind, newObj, Sem.run, Result.andThen]
      · intro env' i N' hi he
        have := VR.map (env := env') (N := N') i hi (by rw [he])
        rw [he] at this
        exact this
  case makeSlice t l c =>
    split at hv
    · rename_i e hu
      split at hv
      · rename_i s z b kn n km m hs hz hb hl hc
        split at hv
        · rename_i hcond
          obtain ⟨hzl, hs0, hn0, hnm, hm63, hbm⟩ := hcond
          cases hv
          subst hzl
          have hl' := hρ l; rw [hl] at hl'
          have hc' := hρ c; rw [hc] at hc'
          obtain ⟨x, hx, hxs, i, hi, hiz⟩ := tZero_VRs (env := env) (N := H.n) hz
          have hnm' : n.toNat * z.length ≤ m.toNat * z.length := Nat.mul_le_mul_right _ (by omega)
          obtain ⟨xs, rest, ha, hxr⟩ := zeros_VRs hxs hs0 n.toNat (m.toNat * z.length) hnm'
          have hrl : ∀ e ∈ List.replicate n.toNat z, e.length = z.length := fun e he => by rw [(List.mem_replicate.1 he).2]
          refine ⟨.slice (some ⟨w.heap.size, 0, none⟩) n.toNat m.toNat, .cells ((Array.range (m.toNat * z.length)).map (x.cells[· % x.cells.size]!)) e, _, ?_, ⟨_, e, rfl, rfl, hrl, by simpa using hnm', flat_cells hrl hxr ha⟩, ?_⟩
          · simp only [execOp, hl'.inv_int, hc'.inv_int]
            refine val_run ?_
            have hw1 : IntKind.i64.wrap n = n := Go.IntWalk.i64_in n (by omega)
            have hw2 : IntKind.i64.wrap m = m := Go.IntWalk.i64_in m (by omega)
            have hbi : ∃ it, P.info? e = some it ∧ it.bytes = b := by
              unfold tBytes at hb
              cases hq : P.info? e with
              | none => simp [hq] at hb
              | some it => simp [hq] at hb; exact ⟨it, rfl, hb⟩
            obtain ⟨it, hit, hbb⟩ := hbi
            have hti : (typeInfo e).run P w = .ok it w := by simp [typeInfo, hit]
            simp only [Instr.makeSlice, Sem.run_bind, run_und hu, Result.andThen_ok, asInt, asIntOf, Sem.run_pure, hti, hbb, hw1, hw2]
            have hg : (((decide (m < 0) || decide (↑b * m > 2 ^ 48)) || decide (n < 0)) || decide (n > m)) = false := by
              simp only [Bool.or_eq_false_iff, decide_eq_false_iff_not]
              omega
            rw [hg]
            simp only [Bool.false_eq_true, if_false, Sem.run_bind]
            have hask : (askRoom (m.toNat * b)).run P w = .ok () w := by unfold askRoom; split <;> simp [mark, Sem.run]
            simp only [hask, Result.andThen_ok, run_size hs]
            have hK : ∀ (K : Array Value → Sem Value), (if m.toNat * z.length = 0 then ((pure #[] : Sem (Array Value)) >>= K) else (zeroValue e >>= fun d => (pure d.cells : Sem (Array Value)) >>= K)).run P w = (K (if m.toNat * z.length = 0 then (#[] : Array Value) else x.cells)).run P w := by
              intro K
              split <;> simp [Sem.run_bind, hx]
            refine (hK _).trans ?_
            simp only [run_newRow, Sem.run_bind, Sem.run_pure, Result.andThen_ok]
            congr 4
            by_cases h0 : m.toNat * z.length = 0
            · rw [if_pos h0, h0, show (Array.range 0) = #[] from rfl]; simp
            · rw [if_neg h0]
          · intro env' i N' hi he
            refine VR.slc _ _ _ _ _ _ _ hi (by rw [he]) (by rw [he]) (by omega) (fun hf => by simp at hf; rw [hf]) (fun _ => ?_)
            rw [he]
            exact ⟨by simp, by show 0 + (0 + m.toNat) * z.length ≤ ((Array.range (m.toNat * z.length)).map (x.cells[· % x.cells.size]!)).size; simp⟩
        · cases hv
      · cases hv
    · cases hv

theorem stepA_sound (h : SR base env H w) (hρ : ∀ x, VR env H.n (ρ x) (ρ' x)) (o : Oper) {ib : IB} {mk : Nat → IV} (hv : stepA P ρ o.op = some (ib, mk)) :
    ∃ x w' env', (execOp ρ' o).run P w = .ok (.value x) w' ∧ Sim base env H w env' (H.push ib) w' ∧ VR env' (H.n + 1) (mk H.n) x := by
  obtain ⟨x, ob, p, h1, h2, h3⟩ := stepA_run (P := P) (w := w) hρ o hv
  exact ⟨x, _, _, h1, push_new h h2, h3 _ _ _ (by omega) upd_at⟩

end sound
end Go.Proofs.Ytnapimfiikgaiaa.Eng
