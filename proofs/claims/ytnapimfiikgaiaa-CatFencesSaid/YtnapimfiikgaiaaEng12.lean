/- The ideal machine, part 12: what an operation looks at; heaps laid over heaps. Nothing here is a claim of its own. -/
import Derived.Test.YtnapimfiikgaiaaEng11
import Derived.Orders
namespace Go.Proofs.Ytnapimfiikgaiaa.Eng
open Go.RowKit
set_option linter.unusedSimpArgs false
set_option linter.unusedVariables false

section congr
variable {P : Program} {H : IH} {ρ ρ' : Operand → IV}

theorem parts_congr {l : List (Nat × Operand)} (h : ∀ p ∈ l, ρ p.2 = ρ' p.2) : l.map (fun (i, x) => (i, ρ x)) = l.map fun (i, x) => (i, ρ' x) :=
  List.map_congr_left fun p hp => by obtain ⟨i, x⟩ := p; show (i, ρ x) = (i, ρ' x); rw [h (i, x) hp]
theorem opt_congr {x : Option Operand} (h : ∀ y ∈ x.toArray, ρ y = ρ' y) : x.map ρ = x.map ρ' := by
  cases x with
  | none => rfl
  | some y => simp [h y (by simp)]

theorem mem_parts {ps : Array (Nat × Operand)} {p : Nat × Operand} (hp : p ∈ ps.toList) : p.2 ∈ (ps.toList.map (·.2)).toArray := by
  simp; exact ⟨p.1, by simpa using hp⟩

theorem call_congr {c : Call} (h : ∀ x ∈ c.operands, ρ x = ρ' x) : c.args.toList.map ρ = c.args.toList.map ρ' ∧ (∀ f, c.callee = .value f → ρ f = ρ' f) ∧ ∀ (i : Nat) (x : Operand), c.args[i]? = some x → ρ x = ρ' x := by
  have ha : ∀ x ∈ c.args, ρ x = ρ' x := fun x hx => h x (by simp [Call.operands, hx])
  refine ⟨List.map_congr_left fun x hx => ha x (by simpa using hx), fun f hf => h f (by simp [Call.operands, hf]), fun i x hx => ha x (Array.mem_of_getElem? hx)⟩

theorem stepR_congr {op : Op} (h : ∀ x ∈ op.operands, ρ x = ρ' x) : stepR P ρ H op = stepR P ρ' H op := by
  cases op <;> simp only [stepR] <;> try rfl
  case move x => rw [h x (by simp [Op.operands])]
  case assign x => rw [h x (by simp [Op.operands])]
  case pick c a b => rw [h a (by simp [Op.operands]), h b (by simp [Op.operands]), h c (by simp [Op.operands])]
  case build t ps => rw [parts_congr fun p hp => h _ (by simp only [Op.operands]; exact mem_parts hp)]
  case load t x => rw [h x (by simp [Op.operands])]
  case nilCheck x => rw [h x (by simp [Op.operands])]
  case binOp op t x y yt => rw [h x (by simp [Op.operands]), h y (by simp [Op.operands])]
  case unOp op t x => rw [h x (by simp [Op.operands])]
  case convert s d x => rw [h x (by simp [Op.operands])]
  case makeInterface t x => rw [h x (by simp [Op.operands])]
  case makeFunc fn a b => rw [List.map_congr_left fun x hx => h x (by simp only [Op.operands]; simp; left; simpa using hx), List.map_congr_left fun x hx => h x (by simp only [Op.operands]; simp; right; simpa using hx)]
  case slice t x lo hi mx =>
    rw [h x (by simp [Op.operands]), opt_congr fun y hy => h y (by simp only [Op.operands, Array.mem_append]; exact .inl (.inl (.inr hy))), opt_congr (x := hi) fun y hy => h y (by simp only [Op.operands, Array.mem_append]; exact .inl (.inr hy)), opt_congr (x := mx) fun y hy => h y (by simp only [Op.operands, Array.mem_append]; exact .inr hy)]
  case fieldAddr s x f => rw [h x (by simp [Op.operands])]
  case field s x f => rw [h x (by simp [Op.operands])]
  case indexAddr t x y => rw [h x (by simp [Op.operands]), h y (by simp [Op.operands])]
  case index t x y => rw [h x (by simp [Op.operands]), h y (by simp [Op.operands])]
  case lookup t x y ok => rw [h x (by simp [Op.operands]), h y (by simp [Op.operands])]
  case extract x i => rw [h x (by simp [Op.operands])]
  case call c =>
    obtain ⟨_, _, h3⟩ := call_congr (ρ := ρ) (ρ' := ρ') (c := c) h
    obtain ⟨callee, args, ts⟩ := c
    cases callee with
    | value f => rfl
    | invoke r m => rfl
    | builtin b =>
      cases b <;> try rfl
      simp only
      split
      · rename_i t x ht hx; rw [h3 0 x hx]
      · rfl

theorem rid_congr {op : Op} (h : ∀ x ∈ op.operands, ρ x = ρ' x) : rid ρ op = rid ρ' op := by
  cases op <;> simp only [rid] <;> try rfl
  case load t x => rw [h x (by simp [Op.operands])]
  case convert s d x => rw [h x (by simp [Op.operands])]
  case lookup t x y ok => rw [h x (by simp [Op.operands])]
  case call c =>
    obtain ⟨_, _, h3⟩ := call_congr (ρ := ρ) (ρ' := ρ') (c := c) h
    obtain ⟨callee, args, ts⟩ := c
    cases callee with
    | value f => rfl
    | invoke r m => rfl
    | builtin b =>
      cases b <;> try rfl
      simp only
      split
      · rename_i x hx; rw [h3 0 x hx]
      · rfl

theorem stepA_congr {op : Op} (h : ∀ x ∈ op.operands, ρ x = ρ' x) : stepA P ρ op = stepA P ρ' op := by
  cases op <;> simp only [stepA] <;> try rfl
  case makeMap t r => cases r <;> rfl
  case box t x => rw [h x (by simp [Op.operands])]
  case buildSlice t len ps => rw [parts_congr fun p hp => h _ (by simp only [Op.operands]; exact mem_parts hp)]
  case makeSlice t x y => rw [h x (by simp [Op.operands]), h y (by simp [Op.operands])]

theorem stepE_congr {op : Op} (h : ∀ x ∈ op.operands, ρ x = ρ' x) : stepE P ρ H op = stepE P ρ' H op := by
  cases op <;> simp only [stepE] <;> try rfl
  case store t x y => rw [h x (by simp [Op.operands]), h y (by simp [Op.operands])]
  case mapUpdate t m k x => rw [h m (by simp [Op.operands]), h k (by simp [Op.operands]), h x (by simp [Op.operands])]
  case insert t m k x => rw [h m (by simp [Op.operands]), h k (by simp [Op.operands]), h x (by simp [Op.operands])]
  case call c =>
    obtain ⟨_, _, h3⟩ := call_congr (ρ := ρ) (ρ' := ρ') (c := c) h
    obtain ⟨callee, args, ts⟩ := c
    cases callee with
    | value f => rfl
    | invoke r m => rfl
    | builtin b =>
      cases b <;> try rfl
      simp only
      split
      · rename_i t t2 x y ht ht2 hx hy; rw [h3 0 x hx, h3 1 y hy]
      · rfl

theorem stepC_congr {op : Op} (h : ∀ x ∈ op.operands, ρ x = ρ' x) : stepC ρ op = stepC ρ' op := by
  cases op <;> simp only [stepC] <;> try rfl
  case call c =>
    obtain ⟨h1, h2, _⟩ := call_congr (ρ := ρ) (ρ' := ρ') (c := c) h
    obtain ⟨callee, args, ts⟩ := c
    cases callee with
    | value f => simp only; rw [h2 f rfl, h1]
    | invoke r m => rfl
    | builtin b => rfl

/-- A reading operation looks at one block at most. -/
theorem stepR_at {H' : IH} {op : Op} (h : ∀ r, rid ρ op = some r → H.f r = H'.f r) : stepR P ρ H op = stepR P ρ H' op := by
  cases op <;> simp only [stepR] <;> try rfl
  case load t x =>
    split
    · rename_i i k j hx
      have := h i (by simp [rid, hx])
      simp only [rd, this]
    · rfl
    · rfl
  case convert s d x =>
    have gen : ∀ y : IV, (∀ i k n s f, y = IV.slc i k n s f → H.f i = H'.f i) → ∀ u1 u2 : Option TypeDesc, cvI P H.f u1 u2 y = cvI P H'.f u1 u2 y := by
      intro y hy u1 u2
      unfold cvI
      split <;> try rfl
      rename_i e i k n s' f
      rw [hy i k n s' f rfl]
    exact gen (ρ x) (fun i k n s' f hx => h i (by simp [rid, hx])) _ _
  case lookup t x y ok =>
    have hm : mapAt H (ρ x) = mapAt H' (ρ x) := by
      cases hx : ρ x <;> try rfl
      rename_i i
      have := h i (by simp [rid, hx])
      simp only [mapAt, this]
    rw [hm]
  case call c =>
    obtain ⟨callee, args, ts⟩ := c
    cases callee with
    | value f => rfl
    | invoke r m => rfl
    | builtin b =>
      cases b <;> try rfl
      simp only
      split
      · rename_i t x ht hxa
        have : ilen P H t (ρ x) = ilen P H' t (ρ x) := by
          have hm : mapAt H (ρ x) = mapAt H' (ρ x) := by
            cases hx : ρ x <;> try rfl
            rename_i i
            have := h i (by simp [rid, hxa, hx])
            simp only [mapAt, this]
          have gen : ∀ y, mapAt H y = mapAt H' y → ilen P H t y = ilen P H' t y := fun y hy => by
            unfold ilen
            cases P.underlying t with
            | none => rfl
            | some d => cases d <;> first | rfl | (cases y <;> first | rfl | simp only [hy])
          exact gen _ hm
        rw [this]
      · rfl
end congr

/-! #### heaps laid over heaps -/
section over
variable {base : Nat} {env env' : Env} {w w' : World}

theorem Owned.of_f {G S : IH} {i : Nat} (h : G.f i = S.f i) : Owned G i ↔ Owned S i := by unfold Owned; rw [h]
theorem Owned.not_dead {G : IH} {i : Nat} (h : G.f i = .dead) : ¬ Owned G i := by
  unfold Owned; rw [h]; rintro (⟨_, _, h⟩ | ⟨_, h⟩) <;> cases h

/-- Some blocks forgotten. -/
theorem SR.less {S G : IH} (h : SR base env S w) (hn : G.n = S.n) (hf : ∀ i, i < S.n → G.f i = S.f i ∨ G.f i = .dead) : SR base env G w := by
  refine ⟨h.bs, fun i hi => ?_, fun i j hi hj hij h1 h2 => ?_, fun b arr hb => ⟨(h.frz b arr hb).1, fun i hi ho => ?_⟩⟩
  · rw [hn] at hi ⊢
    rcases hf i hi with e | e
    · rw [e]; exact h.blk i hi
    · rw [e]; trivial
  · rw [hn] at hi hj
    refine h.dis i j hi hj hij ?_ ?_
    · rcases hf i hi with e | e
      · exact (Owned.of_f e).1 h1
      · exact absurd h1 (Owned.not_dead e)
    · rcases hf j hj with e | e
      · exact (Owned.of_f e).1 h2
      · exact absurd h2 (Owned.not_dead e)
  · rw [hn] at hi
    refine (h.frz b arr hb).2 i hi ?_
    rcases hf i hi with e | e
    · exact (Owned.of_f e).1 ho
    · exact absurd ho (Owned.not_dead e)

theorem SR.bound_any {H : IH} (h : SR base env H w) {i : Nat} (hi : i < H.n) (hd : H.f i ≠ .dead) : (env i).b < w.heap.size := by
  have hb := h.blk i hi
  cases hf : H.f i with
  | dead => exact absurd hf hd
  | map es => exact (BR.bound h hi (.inr ⟨es, hf⟩)).2
  | cells own s es =>
    cases own with
    | true => exact (BR.bound h hi (.inl ⟨s, es, hf⟩)).2
    | false => rw [hf] at hb; obtain ⟨_, _, arr, hb⟩ := hb; exact h.frz_lt hb

/-- A run that did not see some blocks leaves them. -/
theorem Sim.over {S G G' S' : IH} (hS : SR base env S w) (hn : G.n = S.n) (hlo : G.lo = S.lo) (hsim : Sim base env G w env' G' w') (hn' : S'.n = G'.n) (hlo' : S'.lo = G'.lo)
    (hold : ∀ i, i < G.n → (S'.f i = G'.f i ∧ G.f i = S.f i) ∨ (G.f i = .dead ∧ S'.f i = S.f i)) (hnew : ∀ i, G.n ≤ i → S'.f i = G'.f i) : Sim base env S w env' S' w' := by
  have hGS : ∀ i, i < S.n → G.f i = S.f i ∨ G.f i = .dead := fun i hi => by
    rcases hold i (by omega) with ⟨_, e⟩ | ⟨e, _⟩
    · exact .inl e
    · exact .inr e
  -- hidden: a block of S that G does not know
  have hhid : ∀ i, i < G.n → G.f i = .dead → S'.f i = S.f i → S.f i ≠ .dead → w'.heap[(env i).b]? = w.heap[(env i).b]? := by
    intro i hi hd he hne
    have hi2 : i < S.n := by omega
    refine hsim.frame _ (hS.bound_any hi2 hne) fun j hj hoj hb => ?_
    have hj2 : j < S.n := by omega
    have hoj' : Owned S j := by
      rcases hGS j hj2 with e | e
      · exact (Owned.of_f e).1 hoj
      · exact absurd hoj (Owned.not_dead e)
    have hij : j ≠ i := by
      intro e; subst e; exact (Owned.not_dead hd) hoj
    by_cases hoi : Owned S i
    · exact absurd hb (hS.dis j i hj2 hi2 hij hoj' hoi)
    · -- a block that never changes is not an owned one
      have hb2 := hS.blk i hi2
      cases hf : S.f i with
      | dead => exact absurd hf hne
      | map es => exact absurd (.inr ⟨es, hf⟩) hoi
      | cells own s es =>
        cases own with
        | true => exact absurd (.inl ⟨s, es, hf⟩) hoi
        | false =>
          rw [hf] at hb2
          obtain ⟨_, _, arr, hb2⟩ := hb2
          exact absurd hb ((hS.frz _ _ hb2).2 j hj2 hoj')
  have hcase : ∀ i, i < S'.n → (S'.f i = G'.f i ∧ (i < G.n → G.f i = S.f i)) ∨ (i < G.n ∧ G.f i = .dead ∧ S'.f i = S.f i) := fun i hi => by
    by_cases hi2 : i < G.n
    · rcases hold i hi2 with ⟨e1, e2⟩ | ⟨e1, e2⟩
      · exact .inl ⟨e1, fun _ => e2⟩
      · exact .inr ⟨hi2, e1, e2⟩
    · exact .inl ⟨hnew i (by omega), fun h => absurd h hi2⟩
  have hdis1 : ∀ i j, i < G'.n → S'.f i = G'.f i → Owned G' i → j < G.n → G.f j = .dead → Owned S j → (env' i).b ≠ (env' j).b := by
    intro i j hi he hoi hj hdj hoj
    have hj2 : j < S.n := by omega
    have hbj := BR.bound hS hj2 hoj
    rw [hsim.envEq j hj]
    rcases hsim.prov i hi hoi with ⟨hi2, hoi2⟩ | hge | ⟨q, hq, hoq, hbq, _⟩
    · have hoS : Owned S i := by
        rcases hGS i (by omega) with e | e
        · exact (Owned.of_f e).1 hoi2
        · exact absurd hoi2 (Owned.not_dead e)
      rw [hsim.envEq i hi2]
      refine hS.dis i j (by omega) hj2 (fun e => ?_) hoS hoj
      subst e; exact (Owned.not_dead hdj) hoi2
    · omega
    · have hoS : Owned S q := by
        rcases hGS q (by omega) with e | e
        · exact (Owned.of_f e).1 hoq
        · exact absurd hoq (Owned.not_dead e)
      rw [← hbq]
      refine hS.dis q j (by omega) hj2 (fun e => ?_) hoS hoj
      subst e; exact (Owned.not_dead hdj) hoq
  have hown : ∀ i, i < G.n → Owned G i → Owned S i := fun i hi ho => by
    rcases hGS i (by omega) with e | e
    · exact (Owned.of_f e).1 ho
    · exact absurd ho (Owned.not_dead e)
  refine ⟨⟨hsim.sr.bs, fun i hi => ?_, fun i j hi hj hij h1 h2 => ?_, fun b arr hb => ⟨(hsim.sr.frz b arr hb).1, fun i hi ho => ?_⟩⟩, hsim.envEq.less (by omega), by rw [hn', ← hn]; exact hsim.nle, by rw [hlo', ← hlo]; exact hsim.lole, hsim.size, hsim.os, hsim.tape, hsim.output, ?_, ?_, ?_, ?_, fun b arr hb => ?_⟩
  · rw [hn']
    rcases hcase i hi with ⟨e, _⟩ | ⟨hi2, e1, e2⟩
    · rw [e]; exact hsim.sr.blk i (by omega)
    · rw [e2, hsim.envEq i hi2]
      by_cases hd : S.f i = .dead
      · rw [hd]; trivial
      · exact (hS.blk i (by omega)).keep (hsim.envEq.less (by omega)) (by rw [← hn]; exact hsim.nle) (hhid i hi2 e1 e2 hd)
  · rw [hn'] at hi hj
    rcases hcase i (by omega) with ⟨e, _⟩ | ⟨hi2, e1, e2⟩
    · rcases hcase j (by omega) with ⟨e', _⟩ | ⟨hj2, e1', e2'⟩
      · exact hsim.sr.dis i j hi hj hij ((Owned.of_f e).1 h1) ((Owned.of_f e').1 h2)
      · exact hdis1 i j hi e ((Owned.of_f e).1 h1) hj2 e1' ((Owned.of_f e2').1 h2)
    · rcases hcase j (by omega) with ⟨e', _⟩ | ⟨hj2, e1', e2'⟩
      · exact Ne.symm (hdis1 j i hj e' ((Owned.of_f e').1 h2) hi2 e1 ((Owned.of_f e2).1 h1))
      · rw [hsim.envEq i hi2, hsim.envEq j hj2]
        exact hS.dis i j (by omega) (by omega) hij ((Owned.of_f e2).1 h1) ((Owned.of_f e2').1 h2)
  · rw [hn'] at hi
    rcases hcase i (by omega) with ⟨e, _⟩ | ⟨hi2, e1, e2⟩
    · exact (hsim.sr.frz b arr hb).2 i hi ((Owned.of_f e).1 ho)
    · rw [hsim.envEq i hi2]
      have hoS : Owned S i := (Owned.of_f e2).1 ho
      have hbi := BR.bound hS (by omega) hoS
      rcases hsim.fprov b arr hb with h | h | ⟨q, hq, hoq, hbq, _⟩
      · exact (hS.frz b arr h).2 i (by omega) hoS
      · omega
      · rw [← hbq]
        refine hS.dis i q (by omega) (by omega) (fun e => ?_) hoS (hown q hq hoq)
        subst e; exact (Owned.not_dead e1) hoq
  · intro b hb hall
    refine hsim.frame b hb fun i hi hoi hbi => ?_
    rw [← hlo']
    refine hall i (by omega) ?_ hbi
    rcases hGS i (by omega) with e | e
    · exact (Owned.of_f e).1 hoi
    · exact absurd hoi (Owned.not_dead e)
  · intro j hj hoj
    rw [hn'] at hj
    rcases hcase j (by omega) with ⟨e, ecap⟩ | ⟨hj2, e1, e2⟩
    · rcases hsim.prov j hj ((Owned.of_f e).1 hoj) with ⟨hj3, hoj3⟩ | hge | ⟨q, hq, hoq, hbq, hlq⟩
      · exact .inl ⟨by omega, (Owned.of_f (ecap hj3)).1 hoj3⟩
      · exact .inr (.inl hge)
      · refine .inr (.inr ⟨q, by omega, ?_, hbq, by rw [hlo']; exact hlq⟩)
        rcases hGS q (by omega) with e' | e'
        · exact (Owned.of_f e').1 hoq
        · exact absurd hoq (Owned.not_dead e')
    · exact .inl ⟨by omega, (Owned.of_f e2).1 hoj⟩
  · intro j hj hd
    rcases hold j (by omega) with ⟨e1, e2⟩ | ⟨e1, e2⟩
    · rw [e1]; exact hsim.deadst j (by omega) (by rw [e2]; exact hd)
    · rw [e2]; exact hd
  · intro i hi hl
    rcases hold i (by omega) with ⟨e1, e2⟩ | ⟨e1, e2⟩
    · rw [e1, ← e2]; exact hsim.keepf i (by omega) (by rw [← hlo']; exact hl)
    · exact e2
  · rcases hsim.fprov b arr hb with h | h | ⟨q, hq, hoq, hbq, hlq⟩
    · exact .inl h
    · exact .inr (.inl h)
    · exact .inr (.inr ⟨q, by omega, hown q hq hoq, hbq, by rw [hlo']; exact hlq⟩)

end over
end Go.Proofs.Ytnapimfiikgaiaa.Eng
