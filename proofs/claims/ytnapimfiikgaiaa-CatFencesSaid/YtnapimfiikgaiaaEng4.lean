/- The ideal machine, part 4: its operations that read stand to the model's. Nothing here is a claim of its own. -/
import Derived.Test.YtnapimfiikgaiaaEng3
import Derived.Laws.IdiomCopy
namespace Go.Proofs.Ytnapimfiikgaiaa.Eng
open Go.RowKit
set_option linter.unusedSimpArgs false
set_option linter.unusedVariables false

section runs
variable {P : Program} {w : World}
theorem run_size {t : TypeId} {m : Nat} (h : tSize P t = some m) : (sizeOf t).run P w = .ok m w := by
  unfold tSize at h
  cases hi : P.info? t with
  | none => simp [hi] at h
  | some i => simp [hi] at h; simp [sizeOf, typeInfo, hi, h]
theorem run_und {t : TypeId} {d : TypeDesc} (h : P.underlying t = some d) : (underlying t).run P w = .ok d w := run_underlying h w
theorem run_agg {t : TypeId} {g : Bool} (h : tAgg P t = some g) : (isAgg t).run P w = .ok g w := by
  unfold tAgg at h
  cases hu : P.underlying t with
  | none => simp [hu] at h
  | some d => simp [hu] at h; subst h; simp only [isAgg, Sem.run_bind, run_und hu, Result.andThen_ok]; cases d <;> rfl
end runs

theorem ofFlat_VR {env : Env} {N : Nat} {x : Value} {v : IV} (h : ofFlat x = some v) : VR env N v x := by
  unfold ofFlat at h
  split at h <;> first | (cases h; constructor) | cases h
theorem ofFlat_ok {x : Value} {v : IV} (h : ofFlat x = some v) : v ≠ .dead ∧ (∀ l, v ≠ .tup l) ∧ v.one = true ∧ v.cells = [v] ∧ x.cells = #[x] := by
  unfold ofFlat at h
  split at h <;> first | (cases h; exact ⟨by simp, by simp, rfl, rfl, rfl⟩) | cases h
theorem ofFlats_VR {env : Env} {N : Nat} : ∀ {xs : List Value} {vs : List IV}, ofFlats xs = some vs → VRs env N vs xs
  | [], vs, h => by simp [ofFlats] at h; subst h; exact .nil
  | x :: xs, vs, h => by
    simp only [ofFlats] at h
    split at h
    · rename_i v us hv hus; cases h; exact .cons _ _ _ _ (ofFlat_VR hv) (ofFlats_VR hus)
    · cases h
theorem ofFlats_one : ∀ {xs : List Value} {vs : List IV}, ofFlats xs = some vs → ∀ v ∈ vs, v.one = true
  | [], vs, h => by simp [ofFlats] at h; subst h; simp
  | x :: xs, vs, h => by
    simp only [ofFlats] at h
    split at h
    · rename_i v us hv hus; cases h
      intro u hu
      cases hu with
      | head => exact (ofFlat_ok hv).2.2.1
      | tail _ hu => exact ofFlats_one hus u hu
    · cases h
theorem cv_VR {env : Env} {N : Nat} (x : Value) : VR env N (cv x) x := by
  unfold cv
  split
  · rename_i cs
    split
    · rename_i l hl
      have := VR.agg (env := env) (N := N) _ _ (ofFlats_VR hl)
      simpa using this
    · exact .dead _
  · cases h : ofFlat x with
    | none => exact .dead _
    | some v => exact ofFlat_VR h

/-- The frames stand to each other. -/
def AR (env : Env) (N : Nat) (a : List IV) (act : Act) : Prop := VRs env N a act.tmps.toList ∧ act.defers = []

theorem ev_VR {env : Env} {N : Nat} {a : List IV} {act : Act} (h : AR env N a act) (x : Operand) : VR env N (ev a x) (act.eval x) := by
  cases x with
  | tmp t =>
    simp only [ev, Act.eval]
    cases ht : a[t]? with
    | none => simp [List.getD, ht]; exact .dead _
    | some v =>
      obtain ⟨x, hx, hv⟩ := h.1.get t v ht
      simp only [List.getD, ht, Option.getD_some]
      have : act.tmps.getD t undef = x := by
        simp [Array.getD_eq_getD_getElem?]
        rw [← Array.getElem?_toList, hx]; rfl
      rw [this]; exact hv
  | const v => exact cv_VR v
  | global g => exact .dead _
  | func f => exact .fn _ _ _ [] [] .nil .nil

theorem AR.put {env : Env} {N : Nat} {a : List IV} {act : Act} (h : AR env N a act) (d : Nat) {v : IV} {x : Value} (hv : VR env N v x) : AR env N (a.set d v) (act.put (some d) x) := by
  refine ⟨?_, h.2⟩
  simp only [Act.put, Array.toList_setIfInBounds]
  exact h.1.set hv d

/-! #### inversion -/
section inv
variable {env : Env} {N : Nat} {x : Value}
theorem VR.inv_int {k : IntKind} {n : Int} (h : VR env N (.int k n) x) : x = .int k n := by cases h; rfl
theorem VR.inv_bool {b : Bool} (h : VR env N (.bool b) x) : x = .bool b := by cases h; rfl
theorem VR.inv_str {b : ByteArray} (h : VR env N (.str b) x) : x = .string b := by cases h; rfl
theorem VR.inv_ptr {i k j : Nat} (h : VR env N (.ptr i k j) x) : x = .pointer (some ⟨(env i).b, (env i).d + (k * (env i).s + j), none⟩) ∧ i < N ∧ (env i).on = true := by cases h; exact ⟨rfl, by assumption, by assumption⟩
theorem VR.inv_nilp (h : VR env N .nilp x) : x = .pointer none := by cases h; rfl
theorem VR.inv_nils (h : VR env N .nils x) : x = .slice none 0 0 := by cases h; rfl
theorem VR.inv_nilm (h : VR env N .nilm x) : x = .map none := by cases h; rfl
theorem VR.inv_nilf (h : VR env N .nilf x) : x = .nilFunc := by cases h; rfl
theorem VR.inv_nili (h : VR env N .nili x) : x = .nilIface := by cases h; rfl
theorem VR.inv_map {i : Nat} (h : VR env N (.map i) x) : x = .map (some (env i).b) ∧ i < N ∧ (env i).on = true := by cases h; exact ⟨rfl, by assumption, by assumption⟩
theorem VR.inv_slc {i k n s : Nat} {full : Bool} (h : VR env N (.slc i k n s full) x) : ∃ a c, x = .slice (some a) n c ∧ (i < N ∧ (env i).on = true) ∧ (env i).s = s ∧ n ≤ c ∧ (full = true → c = n) ∧
    (c ≠ 0 → a = ⟨(env i).b, (env i).d + k * s, none⟩ ∧ (env i).d + (k + c) * s ≤ (env i).z) := by
  cases h; rename_i c a hs hf ha hc ho h; exact ⟨a, c, rfl, ⟨by assumption, by assumption⟩, by assumption, by assumption, by assumption, by assumption⟩
theorem VR.inv_vs {s : Nat} {es : List (List IV)} {full : Bool} (h : VR env N (.vs s es full) x) : ∃ a c, x = .slice (some a) es.length c ∧ es.length ≤ c ∧ (full = true → c = es.length) ∧
    (es = [] ∨ ∃ b o arr xs, a = ⟨b, o, none⟩ ∧ env.fz b = some arr ∧ (∀ e ∈ es, e.length = s) ∧ (∀ (q : Nat) (x : Value), xs[q]? = some x → arr[o + q]? = some x) ∧ VRs env N es.flatten xs) := by
  cases h with
  | vs0 _ _ a c hf => exact ⟨a, c, rfl, Nat.zero_le _, hf, .inl rfl⟩
  | vs _ _ _ b o c arr xs hF hl hc hf hx h => exact ⟨⟨b, o, none⟩, c, rfl, hc, hf, .inr ⟨b, o, arr, xs, rfl, hF, hl, hx, h⟩⟩
theorem VR.inv_vp {e : List IV} {j : Nat} (h : VR env N (.vp e j) x) : ∃ b o arr xs, x = .pointer (some ⟨b, o + j, none⟩) ∧ env.fz b = some arr ∧ (∀ (q : Nat) (x : Value), xs[q]? = some x → arr[o + q]? = some x) ∧ VRs env N e xs := by
  cases h with
  | vp _ _ b o arr xs hF hx h => exact ⟨b, o, arr, xs, rfl, hF, hx, h⟩
theorem VR.inv_agg {cs : List IV} (h : VR env N (.agg cs) x) : ∃ xs : List Value, x = .agg xs.toArray ∧ VRs env N cs xs := by cases h; exact ⟨_, rfl, by assumption⟩
theorem VR.inv_tup {cs : List IV} (h : VR env N (.tup cs) x) : ∃ xs : List Value, x = .tuple xs.toArray ∧ VRs env N cs xs := by cases h; exact ⟨_, rfl, by assumption⟩
theorem VR.inv_fn {f : Fn} {fs cs : List IV} (h : VR env N (.fn f fs cs) x) : ∃ xs ys : List Value, x = .func f xs.toArray ys.toArray ∧ VRs env N fs xs ∧ VRs env N cs ys := by cases h; exact ⟨_, _, rfl, by assumption, by assumption⟩
theorem VR.inv_iface {t : TypeId} {v : IV} (h : VR env N (.iface t v) x) : ∃ y, x = .iface t y ∧ VR env N v y := by cases h; exact ⟨_, rfl, by assumption⟩
end inv

/-! #### reading cells -/
theorem addr_add (b o n : Nat) : (⟨b, o, none⟩ : Addr).add n = ⟨b, o + n, none⟩ := by unfold Addr.add; split <;> simp_all

section sound
variable {P : Program} {base : Nat} {env : Env} {H : IH} {w : World}

theorem rd_cells (h : SR base env H w) {i k : Nat} (hi : i < H.n) {e : List IV} (he : rd H i k = some e) :
    e.length = (env i).s ∧ ∀ (j : Nat) (v : IV), e[j]? = some v → ∃ x, w.cell? ⟨(env i).b, (env i).d + (k * (env i).s + j), none⟩ = some x ∧ VR env H.n v x := by
  unfold rd at he
  have hb := h.blk i hi
  split at he
  · rename_i own s es hf
    rw [hf] at hb
    have hc : (env i).s = s ∧ Cells env H.n w (env i) es := by cases own <;> exact ⟨hb.1, hb.2.1⟩
    exact ⟨hc.2.1 e (List.mem_of_getElem? he), hc.2.2 k e he⟩
  · cases he

/-- Cells that are known one by one are read as a list. -/
theorem read_list {b o : Nat} {vs : List IV} (hc : ∀ (j : Nat) (v : IV), vs[j]? = some v → ∃ x, w.cell? ⟨b, o + j, none⟩ = some x ∧ VR env H.n v x) :
    ∃ xs : List Value, xs.length = vs.length ∧ VRs env H.n vs xs ∧ (∀ j x, xs[j]? = some x → w.cell? ⟨b, o + j, none⟩ = some x) ∧ (loadCells ⟨b, o, none⟩ vs.length).run P w = .ok xs.toArray w := by
  have key : ∀ (vs : List IV) (o : Nat), (∀ (j : Nat) (v : IV), vs[j]? = some v → ∃ x, w.cell? ⟨b, o + j, none⟩ = some x ∧ VR env H.n v x) →
      ∃ xs : List Value, VRs env H.n vs xs ∧ (∀ j x, xs[j]? = some x → w.cell? ⟨b, o + j, none⟩ = some x) := by
    intro vs
    induction vs with
    | nil => intro o _; exact ⟨[], .nil, by simp⟩
    | cons v vs ih =>
      intro o hc
      obtain ⟨x, hx, hv⟩ := hc 0 v rfl
      obtain ⟨xs, hxs, hcs⟩ := ih (o + 1) fun j u hu => by have := hc (j + 1) u (by simpa using hu); rwa [show o + (j + 1) = o + 1 + j by omega] at this
      refine ⟨x :: xs, .cons _ _ _ _ hv hxs, fun j y hy => ?_⟩
      cases j with
      | zero => simp at hy; subst hy; exact hx
      | succ j => have := hcs j y (by simpa using hy); rwa [show o + (j + 1) = o + 1 + j by omega]
  obtain ⟨xs, hxs, hcs⟩ := key vs o hc
  refine ⟨xs, hxs.length.symm, hxs, hcs, ?_⟩
  rw [hxs.length]
  exact run_loadCells_list w _ xs fun j v hv => by rw [addr_add]; exact hcs j v hv

theorem load_cells {t : TypeId} {b o j : Nat} {e : List IV} (hc : ∀ (j : Nat) (v : IV), e[j]? = some v → ∃ x, w.cell? ⟨b, o + j, none⟩ = some x ∧ VR env H.n v x) {v : IV} (hv : ipart P t e j = some v) :
    ∃ x, (loadVar t ⟨b, o + j, none⟩).run P w = .ok x w ∧ VR env H.n v x := by
  unfold ipart at hv
  split at hv
  · rename_i m ha hs
    split at hv
    · rename_i hm
      cases hv
      obtain ⟨xs, hx1, hx2, _, hrun⟩ := read_list (P := P) (w := w) (H := H) (env := env) (b := b) (o := o + j) (vs := (e.drop j).take m) fun q v hv => by
        have hq : q < m := by have := (List.getElem?_eq_some_iff.1 hv).1; simp at this; omega
        rw [List.getElem?_take_of_lt hq, List.getElem?_drop] at hv
        have := hc (j + q) v hv
        rwa [show o + (j + q) = o + j + q by omega] at this
      refine ⟨.agg xs.toArray, ?_, .agg _ _ hx2⟩
      have hlen : ((e.drop j).take m).length = m := by simp; omega
      rw [hlen] at hrun
      simp only [loadVar, Sem.run_bind, run_agg ha, Result.andThen_ok, if_true, run_size hs, hrun]
      rfl
    · cases hv
  · rename_i ha
    obtain ⟨x, hx, hvr⟩ := hc j v hv
    refine ⟨x, ?_, hvr⟩
    simp [loadVar, Sem.run_bind, run_agg ha, run_load, hx]
  · cases hv

theorem load_sound (h : SR base env H w) {t : TypeId} {i k j : Nat} (hi : i < H.n) {e : List IV} (he : rd H i k = some e) {v : IV} (hv : ipart P t e j = some v) :
    ∃ x, (loadVar t ⟨(env i).b, (env i).d + (k * (env i).s + j), none⟩).run P w = .ok x w ∧ VR env H.n v x := by
  obtain ⟨hl, hc⟩ := rd_cells h hi he
  rw [← Nat.add_assoc]
  exact load_cells (fun j v hj => by rw [Nat.add_assoc]; exact hc j v hj) hv
theorem frz_cell (h : SR base env H w) {b : Nat} {arr : Array Value} (hb : env.fz b = some arr) (q : Nat) : w.cell? ⟨b, q, none⟩ = arr[q]? := by
  obtain ⟨⟨ty, fr, e⟩, _⟩ := h.frz b arr hb
  simp only [World.cell?, e]
  simp
theorem vp_cells (h : SR base env H w) {b o : Nat} {arr : Array Value} {xs : List Value} {e : List IV} (hb : env.fz b = some arr) (hx : ∀ (q : Nat) (x : Value), xs[q]? = some x → arr[o + q]? = some x) (he : VRs env H.n e xs) :
    ∀ (j : Nat) (v : IV), e[j]? = some v → ∃ x, w.cell? ⟨b, o + j, none⟩ = some x ∧ VR env H.n v x := fun j v hj => by
  obtain ⟨x, h1, h2⟩ := he.get j v hj
  exact ⟨x, by rw [frz_cell h hb]; exact hx j x h1, h2⟩

theorem part_sound {t : TypeId} {cs : List IV} {xs : List Value} {off : Nat} {v : IV} (hcs : VRs env H.n cs xs) (hv : ipart P t cs off = some v) :
    ∃ x, (part t xs.toArray off).run P w = .ok x w ∧ VR env H.n v x := by
  unfold ipart at hv
  split at hv
  · rename_i m ha hs
    split at hv
    · cases hv
      refine ⟨.agg ((xs.drop off).take m).toArray, ?_, .agg _ _ ((hcs.drop off).take m)⟩
      simp only [part, Sem.run_bind, run_agg ha, Result.andThen_ok, if_true, run_size hs]
      rw [List.extract_toArray, List.extract_eq_take_drop, Nat.add_sub_cancel_left]
      rfl
    · cases hv
  · rename_i ha
    obtain ⟨x, hx, hvr⟩ := hcs.get off v hv
    refine ⟨x, ?_, hvr⟩
    simp [part, Sem.run_bind, run_agg ha, hx]
  · cases hv

theorem bin_sound {op : BinOp} {t : TypeId} {x y : Operand} {a b : IV} {a' b' : Value} (ha : VR env H.n a a') (hb : VR env H.n b b') {v : IV} (hv : binI P op t a b = some v) :
    ∃ r, (do eqGuard op t x y a' b'; binOp op t a' b' : Sem Value).run P w = .ok r w ∧ VR env H.n v r := by
  unfold binI at hv
  split at hv
  · rename_i k n k' m
    cases ha; cases hb
    have hg : eqGuard op t x y (.int k n) (.int k' m) = pure () := by cases op <;> rfl
    simp only [hg, Sem.run_bind, Sem.run_pure, Result.andThen_ok]
    unfold intOp at hv
    split at hv
    case h_1 => split at hv <;> cases hv; rename_i hn; exact ⟨_, by simp [binOp, Op.shift, hn], .int _ _⟩
    case h_2 => split at hv <;> cases hv; rename_i hn; exact ⟨_, by simp [binOp, Op.shift, hn], .int _ _⟩
    case h_6 => split at hv <;> cases hv; rename_i hn; refine ⟨_, ?_, .int _ _⟩; simp [binOp, Op.intDiv, hn.1, hn.2]
    case h_7 => split at hv <;> cases hv; rename_i hn; refine ⟨_, ?_, .int _ _⟩; simp [binOp, Op.intDiv, hn.1, hn.2]
    all_goals
      split at hv <;> cases hv
      rename_i hk
      subst hk
      first
      | (refine ⟨_, ?_, .int _ _⟩; simp [binOp, Op.intArith]; done)
      | (refine ⟨_, ?_, .int _ _⟩; simp only [binOp, ne_eq, not_true_eq_false, if_false]; rfl)
      | (refine ⟨_, ?_, .bool _⟩; simp [binOp, Op.intCmp]; done)
      | (refine ⟨_, ?_, .bool _⟩; simp [binOp]; rfl)
  · rename_i s1 s2
    cases ha; cases hb
    have hg : eqGuard op t x y (.string s1) (.string s2) = pure () := by cases op <;> rfl
    simp only [hg, Sem.run_bind, Sem.run_pure, Result.andThen_ok]
    unfold strOp at hv
    split at hv
    case h_1 =>
      split at hv <;> cases hv
      rename_i hn
      exact ⟨_, by simp only [binOp, Op.stringOp, if_neg hn]; rfl, .str _⟩
    case h_8 => cases hv
    all_goals cases hv; exact ⟨_, rfl, .bool _⟩
  · rename_i hni hns
    split at hv
    · rename_i r hr
      have main : ∃ d, P.underlying t = some d ∧ (∀ n, (Op.equalIn (n + 1) t a' b').run P w = .ok r w) ∧ eqGuard .eql t x y a' b' = pure () ∧ eqGuard .neq t x y a' b' = pure () ∧
          binOp .eql t a' b' = (do pure (.bool (← Op.equal t a' b'))) ∧ binOp .neq t a' b' = (do pure (.bool (!(← Op.equal t a' b')))) := by
        unfold eqNil at hr
        split at hr <;> first | cases hr | skip
        all_goals
          rename_i hu
          refine ⟨_, hu, ?_⟩
          cases ha <;> cases hb <;> (
          refine ⟨fun n => ?_, rfl, rfl, rfl, rfl⟩
          simp only [Op.equalIn, Sem.run_bind, run_und hu, Result.andThen_ok]
          rfl)
      obtain ⟨d, hu, hrun', g1, g2, b1, b2⟩ := main
      have hrun : (Op.equal t a' b').run P w = .ok r w := hrun' 9999
      unfold boolEq at hv
      split at hv
      · cases hv
        rw [g1, b1]
        exact ⟨_, by simp only [Sem.run_bind, Sem.run_pure, Result.andThen_ok, hrun], .bool _⟩
      · cases hv
        rw [g2, b2]
        exact ⟨_, by simp only [Sem.run_bind, Sem.run_pure, Result.andThen_ok, hrun], .bool _⟩
      · cases hv
    · cases hv

theorem un_sound {op : UnOp} {a : IV} {a' : Value} (ha : VR env H.n a a') {v : IV} (hv : unI op a = some v) : ∃ r, (Op.unary op a').run P w = .ok r w ∧ VR env H.n v r := by
  unfold unI at hv
  split at hv <;> first | (cases hv; cases ha) | cases hv
  · exact ⟨_, by simp [Op.unary], .bool _⟩
  · exact ⟨_, by simp [Op.unary, Op.intArith], .int _ _⟩
  · exact ⟨_, by simp [Op.unary, Op.intBits], .int _ _⟩

end sound
end Go.Proofs.Ytnapimfiikgaiaa.Eng
