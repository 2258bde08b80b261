/- The ideal machine, part 7: every operation that reads stands to the model's. Nothing here is a claim of its own. -/
import Derived.Test.YtnapimfiikgaiaaEng6
namespace Go.Proofs.Ytnapimfiikgaiaa.Eng
open Go.RowKit
set_option linter.unusedSimpArgs false
set_option linter.unusedVariables false

section sound
variable {P : Program} {base : Nat} {env : Env} {H : IH} {w : World} {ρ : Operand → IV} {ρ' : Operand → Value}

/-- A value made, as the operation's outcome. -/
theorem val_run {s : Sem Value} {x : Value} {w' : World} (h : s.run P w = .ok x w') : (do pure (Next.value (← s)) : Sem Next).run P w = .ok (.value x) w' := by
  simp only [Sem.run_bind, h, Result.andThen_ok, Sem.run_pure]

theorem maps_VRs (hρ : ∀ x, VR env H.n (ρ x) (ρ' x)) : ∀ (l : List Operand), VRs env H.n (l.map ρ) (l.map ρ')
  | [] => .nil
  | x :: l => .cons _ _ _ _ (hρ x) (maps_VRs hρ l)

theorem fld_spec {s : TypeId} {f off m : Nat} (h : fldPlace P s f = some (off, m)) : ∃ fs fd, P.underlying s = some (.struct fs) ∧ fs[f]? = some fd ∧ fd.offset = off ∧ tSize P fd.type = some m := by
  unfold fldPlace at h
  split at h
  · rename_i off' t hf
    split at h
    · rename_i m' hm
      cases h
      unfold tFld at hf
      split at hf
      · rename_i fs hu
        cases hfd : fs[f]? with
        | none => simp [hfd] at hf
        | some fd => simp [hfd] at hf; exact ⟨fs, fd, hu, hfd, hf.1, by rw [hf.2]; exact hm⟩
      · cases hf
    · cases h
  · cases h

theorem ilen_sound (h : SR base env H w) {t : TypeId} {x : IV} {x' : Value} (hx : VR env H.n x x') {n : Nat} (hn : ilen P H t x = some n) (ts : Array TypeId) (ty : TypeId) (hts : ts[0]? = some t) (args : Array Value) (ha : args[0]? = some x') :
    (Builtin.len_ ts ty args).run P w = .ok (.int .i64 n) w := by
  cases hu : P.underlying t with
  | none => simp [ilen, hu] at hn
  | some d =>
    simp only [ilen, hu] at hn
    cases d
    case string => cases x <;> simp at hn; subst hn; cases hx; simp [Builtin.len_, hts, ha, run_und hu, goInt]
    case array m e => cases hn; simp [Builtin.len_, hts, ha, run_und hu, goInt]
    case slice e =>
      cases x <;> simp at hn
      · subst hn; obtain ⟨a, c, rfl, _⟩ := hx.inv_slc; simp [Builtin.len_, hts, ha, run_und hu, goInt]
      · subst hn; cases hx; simp [Builtin.len_, hts, ha, run_und hu, goInt]
      · subst hn; obtain ⟨a, c, rfl, _⟩ := hx.inv_vs; simp [Builtin.len_, hts, ha, run_und hu, goInt]
    case map k e =>
      cases hm : mapAt H x with
      | none => simp [hm] at hn
      | some es =>
        simp [hm] at hn
        rcases mapAt_sound h hx hm with ⟨rfl, rfl⟩ | ⟨r, ents, clock, rfl, h1, h2⟩
        · simp at hn; subst hn; simp [Builtin.len_, hts, ha, run_und hu, goInt]
        · have hg : (getObj r).run P w = .ok (.map ents clock) w := by simp [getObj, Sem.run, h1]
          have hl : ents.size = n := by
            have : ∀ {l : List (IV × IV)} {r : List MapEntry}, MR env H.n l r → l.length = r.length := by
              intro l r hlr
              induction hlr with
              | nil => rfl
              | cons _ _ _ _ _ _ _ _ ih => simp [ih]
            have := this h2
            simp at this; omega
          simp [Builtin.len_, hts, ha, run_und hu, goInt, hg, hl]
    case pointer a =>
      cases hu2 : P.underlying a with
      | none => simp [hu2] at hn
      | some d2 => cases d2 <;> simp [hu2] at hn; subst hn; simp [Builtin.len_, hts, ha, run_und hu, run_und hu2, goInt]
    all_goals simp at hn

theorem stepR_sound (h : SR base env H w) (hρ : ∀ x, VR env H.n (ρ x) (ρ' x)) (o : Oper) {v : IV} (hv : stepR P ρ H o.op = some v) :
    ∃ x, (execOp ρ' o).run P w = .ok (.value x) w ∧ VR env H.n v x := by
  obtain ⟨dst, op, ty, pos, after, guard⟩ := o
  simp only at hv
  cases op <;> simp only [stepR] at hv <;> first | cases hv; done | skip
  case move x => cases hv; exact ⟨_, rfl, hρ x⟩
  case assign x => cases hv; exact ⟨_, rfl, hρ x⟩
  case pick c a b =>
    have hc := hρ c
    split at hv
    · rename_i t ht
      cases hv
      rw [ht] at hc
      have := hc.inv_bool
      refine ⟨if t then ρ' a else ρ' b, ?_, ?_⟩
      · simp [execOp, this, asBool]
      · cases t <;> simp [hρ]
    · cases hv
  case build t parts =>
    obtain ⟨x, hx, hvx⟩ := build_sound (P := P) (w := w) (PR.of_map hρ parts.toList) hv
    refine ⟨x, ?_, hvx⟩
    simp only [execOp]
    refine val_run ?_
    rw [← hx]
    congr 2
    apply Array.ext'
    simp
  case load t a =>
    have ha := hρ a
    split at hv
    · rename_i i k j hp
      rw [hp] at ha
      obtain ⟨ha1, hi, hon⟩ := ha.inv_ptr
      split at hv
      · rename_i e he
        obtain ⟨x, hx, hvx⟩ := load_sound (P := P) h hi he hv
        refine ⟨x, ?_, hvx⟩
        simp only [execOp]
        exact val_run (by simp only [Instr.loadAt, ha1, Instr.sureAddr, Sem.run_bind, Sem.run_pure, Result.andThen_ok]; exact hx)
      · cases hv
    · rename_i e j hp
      rw [hp] at ha
      obtain ⟨b, o, arr, xs, ha1, hF, hxs, hvs⟩ := ha.inv_vp
      obtain ⟨x, hx, hvx⟩ := load_cells (P := P) (vp_cells h hF hxs hvs) hv
      refine ⟨x, ?_, hvx⟩
      simp only [execOp]
      exact val_run (by simp only [Instr.loadAt, ha1, Instr.sureAddr, Sem.run_bind, Sem.run_pure, Result.andThen_ok]; exact hx)
    · cases hv
  case nilCheck x =>
    have hx := hρ x
    split at hv
    · rename_i i k j hp
      cases hv
      rw [hp] at hx
      refine ⟨ρ' x, ?_, hx⟩
      have := hx.inv_ptr.1
      simp only [execOp, this]
      rfl
    · rename_i e j hp
      cases hv
      rw [hp] at hx
      refine ⟨ρ' x, ?_, hx⟩
      obtain ⟨b, o, arr, xs, ha1, _⟩ := hx.inv_vp
      simp only [execOp, ha1]
      rfl
    · rename_i f a b hp
      cases hv
      rw [hp] at hx
      refine ⟨ρ' x, ?_, hx⟩
      obtain ⟨xs, ys, he, _⟩ := hx.inv_fn
      simp only [execOp, he]
      rfl
    · cases hv
  case binOp op t x y yt =>
    obtain ⟨r, hr, hvr⟩ := bin_sound (P := P) (w := w) (x := x) (y := y) (hρ x) (hρ y) hv
    exact ⟨r, by simp only [execOp]; exact val_run hr, hvr⟩
  case unOp op t x =>
    obtain ⟨r, hr, hvr⟩ := un_sound (P := P) (w := w) (hρ x) hv
    exact ⟨r, by simp only [execOp]; exact val_run hr, hvr⟩
  case convert src dst x =>
    have hx := hρ x
    unfold cvI at hv
    split at hv
    · rename_i ds k q n h1 h2 h3
      cases hv
      rw [h3] at hx
      have := hx.inv_int
      refine ⟨.int k (k.wrap n), ?_, .int _ _⟩
      simp only [execOp, this]
      refine val_run ?_
      simp only [convert, Sem.run_bind, run_und h1, run_und h2, Result.andThen_ok]
      rfl
    · rename_i ds s h1 h2 h3
      cases hv
      rw [h3] at hx
      have := hx.inv_str
      refine ⟨.string s, ?_, .str _⟩
      simp only [execOp, this]
      refine val_run ?_
      simp only [convert, Sem.run_bind, run_und h1, run_und h2, Result.andThen_ok]
      cases ds <;> rfl
    · rename_i e h1 h2 h3
      split at hv
      · rename_i he
        cases hv
        rw [h3] at hx
        have := hx.inv_nils
        refine ⟨.string .empty, ?_, .str _⟩
        simp only [execOp, this]
        refine val_run ?_
        simp only [convert, Sem.run_bind, run_und h1, run_und h2, Result.andThen_ok, run_und he]
        rfl
      · cases hv
    · rename_i e i k n s f h1 h2 h3
      split at hv
      · rename_i own s' es he hf
        split at hv
        · rename_i hkn
          cases hb : bytesOf ((es.drop k).take n) with
          | none => simp [hb] at hv
          | some l =>
            simp [hb] at hv; subst hv
            rw [h3] at hx
            refine ⟨.string ⟨l.toArray⟩, ?_, .str _⟩
            simp only [execOp]
            exact val_run (bytes_sound h h1 h2 he hx hf hkn hb)
        · cases hv
      · cases hv
    · rename_i e s es f h1 h2 h3
      split at hv
      · rename_i he
        cases hb : bytesOf es with
        | none => simp [hb] at hv
        | some l =>
          simp [hb] at hv; subst hv
          rw [h3] at hx
          refine ⟨.string ⟨l.toArray⟩, ?_, .str _⟩
          simp only [execOp]
          exact val_run (vs_bytes_sound h h1 h2 he hx hb)
      · cases hv
    · cases hv
  case makeInterface t x =>
    split at hv
    · cases hv
    · rename_i d hn hu
      cases hv
      refine ⟨.iface t (ρ' x), ?_, .iface _ _ _ (hρ x)⟩
      simp only [execOp]
      refine val_run ?_
      simp only [Instr.makeInterface, Sem.run_bind, run_und hu, Result.andThen_ok]
      cases d <;> first | rfl | exact absurd hu (hn _)
    · cases hv
  case makeFunc fn first captured =>
    cases hv
    refine ⟨.func fn (first.toList.map ρ').toArray (captured.toList.map ρ').toArray, ?_, .fn _ _ _ _ _ (maps_VRs hρ _) (maps_VRs hρ _)⟩
    simp only [execOp]
    refine val_run ?_
    simp only [Instr.makeFunc, Sem.run_pure]
    congr 2 <;> (apply Array.ext'; simp)
  case slice t x lo hi mx =>
    have hx := hρ x
    split at hv
    · rename_i e hu
      split at hv
      · rename_i i k n s f hp
        split at hv
        · rename_i hs
          obtain ⟨r, hr, hvr⟩ := sl_sound (P := P) (w := w) hu hx (.inl ⟨i, k, n, s, f, hp, hs⟩) (opt_VR hρ lo) (opt_VR hρ hi) (opt_VR hρ mx) (by rw [hp]; exact hv)
          exact ⟨r, by simp only [execOp]; exact val_run hr, hvr⟩
        · cases hv
      · rename_i hp
        split at hv
        · rename_i hs
          obtain ⟨r, hr, hvr⟩ := sl_sound (P := P) (w := w) hu hx (.inr (.inl ⟨hp, hs⟩)) (opt_VR hρ lo) (opt_VR hρ hi) (opt_VR hρ mx) (by rw [hp]; exact hv)
          exact ⟨r, by simp only [execOp]; exact val_run hr, hvr⟩
        · cases hv
      · rename_i s es f hp
        split at hv
        · rename_i hs
          obtain ⟨r, hr, hvr⟩ := sl_sound (P := P) (w := w) hu hx (.inr (.inr ⟨s, es, f, hp, hs⟩)) (opt_VR hρ lo) (opt_VR hρ hi) (opt_VR hρ mx) (by rw [hp]; exact hv)
          exact ⟨r, by simp only [execOp]; exact val_run hr, hvr⟩
        · cases hv
      · cases hv
    · rename_i hu
      split at hv
      · rename_i b hp
        rw [hp] at hx
        have := hx.inv_str
        obtain ⟨r, hr, hvr⟩ := str_sl_sound (P := P) (w := w) hu (opt_VR hρ lo) (opt_VR hρ hi) (opt_VR hρ mx) hv
        exact ⟨r, by simp only [execOp, this]; exact val_run hr, hvr⟩
      · cases hv
    · cases hv
  case fieldAddr s x f =>
    have hx := hρ x
    split at hv
    · rename_i i k j off m hp hf
      cases hv
      rw [hp] at hx
      obtain ⟨hx1, hi, hon⟩ := hx.inv_ptr
      obtain ⟨fs, fd, hu, hfd, ho, hm⟩ := fld_spec hf
      refine ⟨.pointer (some ⟨(env i).b, (env i).d + (k * (env i).s + (j + off)), none⟩), ?_, .ptr _ _ _ hi hon⟩
      simp only [execOp, hx1]
      refine val_run ?_
      simp only [Instr.fieldAt, Sem.run_bind, run_und hu, Result.andThen_ok, hfd, Instr.sureAddr, Sem.run_pure, fieldPlace, run_size hm]
      rw [if_neg (by omega)]
      simp only [Sem.run_pure, Result.andThen_ok, addr_add, ho, Nat.add_assoc]
    · rename_i e j off m hp hf
      cases hv
      rw [hp] at hx
      obtain ⟨b, o, arr, xs, hx1, hF, hxs, hvs⟩ := hx.inv_vp
      obtain ⟨fs, fd, hu, hfd, ho, hm⟩ := fld_spec hf
      refine ⟨.pointer (some ⟨b, o + (j + off), none⟩), ?_, .vp _ _ _ _ _ _ hF hxs hvs⟩
      simp only [execOp, hx1]
      refine val_run ?_
      simp only [Instr.fieldAt, Sem.run_bind, run_und hu, Result.andThen_ok, hfd, Instr.sureAddr, Sem.run_pure, fieldPlace, run_size hm]
      rw [if_neg (by omega)]
      simp only [Sem.run_pure, Result.andThen_ok, addr_add, ho, Nat.add_assoc]
    · cases hv
  case field s x f =>
    have hx := hρ x
    split at hv
    · rename_i cs off t hp hf
      rw [hp] at hx
      obtain ⟨xs, hx1, hxs⟩ := hx.inv_agg
      obtain ⟨r, hr, hvr⟩ := part_sound (P := P) (w := w) hxs hv
      unfold tFld at hf
      split at hf
      · rename_i fs hu
        cases hfd : fs[f]? with
        | none => simp [hfd] at hf
        | some fd =>
          simp [hfd] at hf
          refine ⟨r, ?_, hvr⟩
          simp only [execOp, hx1]
          refine val_run ?_
          simp only [Instr.field, Sem.run_bind, run_und hu, Result.andThen_ok, hfd, asAgg, Sem.run_pure, hf.1, hf.2]
          exact hr
      · cases hf
    · cases hv
  case indexAddr t x ix =>
    have hx := hρ x
    have hix := hρ ix
    split at hv
    · rename_i e i k n s f q z hu hp hz
      split at hv
      · rename_i hc
        cases hv
        rw [hp] at hx; rw [hz] at hix
        obtain ⟨a, c, hx1, ⟨hi, hon⟩, hs, hnc, _, ha⟩ := hx.inv_slc
        have hz1 := hix.inv_int
        refine ⟨.pointer (some ⟨(env i).b, (env i).d + ((k + z.toNat) * (env i).s + 0), none⟩), ?_, .ptr _ _ _ hi hon⟩
        simp only [execOp, hx1, hz1]
        refine val_run ?_
        obtain ⟨ha1, _⟩ := ha (by omega)
        simp only [Instr.indexAt, Sem.run_bind, asIntOf, Sem.run_pure, Result.andThen_ok, run_und hu, run_size hc.2.2]
        rw [if_pos ⟨hc.1, hc.2.1⟩]
        simp only [Sem.run_bind, run_size hc.2.2, Result.andThen_ok, Sem.run_pure, ha1, addr_add, hs, Nat.add_zero, Nat.add_mul, Nat.add_assoc]
      · cases hv
    · rename_i len e i k j q z hu hp hz
      split at hv
      · rename_i m hm
        split at hv
        · rename_i hc
          cases hv
          rw [hp] at hx; rw [hz] at hix
          obtain ⟨hx1, hi, hon⟩ := hx.inv_ptr
          have hz1 := hix.inv_int
          refine ⟨.pointer (some ⟨(env i).b, (env i).d + (k * (env i).s + (j + z.toNat * m)), none⟩), ?_, .ptr _ _ _ hi hon⟩
          simp only [execOp, hx1, hz1]
          refine val_run ?_
          simp only [Instr.indexAt, Sem.run_bind, asIntOf, Sem.run_pure, Result.andThen_ok, run_und hu, Instr.sureAddr]
          rw [if_pos hc]
          simp only [Sem.run_bind, run_size hm, Result.andThen_ok, Sem.run_pure, addr_add, Nat.add_assoc]
        · cases hv
      · cases hv
    · rename_i e s es f q z hu hp hz
      split at hv
      · rename_i hc
        cases he : es[z.toNat]? with
        | none => simp [he] at hv
        | some e' =>
          simp [he] at hv; subst hv
          rw [hp] at hx; rw [hz] at hix
          obtain ⟨a, c, hx1, hnc, _, ha⟩ := hx.inv_vs
          have hz1 := hix.inv_int
          have hzl := (List.getElem?_eq_some_iff.1 he).1
          rcases ha with ha | ⟨b, o, arr, xs, rfl, hF, hl, hxs, hvs⟩
          · subst ha; simp at he
          · have hel : e'.length = s := hl e' (List.mem_of_getElem? he)
            refine ⟨.pointer (some ⟨b, o + z.toNat * s + 0, none⟩), ?_, .vp e' 0 b (o + z.toNat * s) arr ((xs.drop (z.toNat * s)).take s) hF (fun q x hq => ?_) ?_⟩
            · simp only [execOp, hx1, hz1]
              refine val_run ?_
              simp only [Instr.indexAt, Sem.run_bind, asIntOf, Sem.run_pure, Result.andThen_ok, run_und hu, run_size hc.2]
              rw [if_pos ⟨hc.1, by omega⟩]
              simp only [Sem.run_bind, run_size hc.2, Result.andThen_ok, Sem.run_pure, addr_add, Nat.add_zero]
            · have hq2 : q < s := by have := (List.getElem?_eq_some_iff.1 hq).1; simp at this; omega
              rw [List.getElem?_take_of_lt hq2, List.getElem?_drop] at hq
              have := hxs _ _ hq
              rwa [Nat.add_assoc]
            · have : e' = (es.flatten.drop (z.toNat * s)).take s := by
                have h1 : ((es.drop z.toNat).take 1).flatten = e' := by rw [List.drop_eq_getElem_cons hzl]; simp [(List.getElem_eq_iff hzl).2 he]
                rw [← h1, flatten_take (fun e he => hl e (List.mem_of_mem_drop he)) 1, flatten_drop hl, Nat.one_mul]
              have hvv := (hvs.drop (z.toNat * s)).take s
              rw [← this] at hvv
              exact hvv
      · cases hv
    · rename_i len e e' j q z hu hp hz
      split at hv
      · rename_i m hm
        split at hv
        · rename_i hc
          cases hv
          rw [hp] at hx; rw [hz] at hix
          obtain ⟨b, o, arr, xs, hx1, hF, hxs, hvs⟩ := hx.inv_vp
          have hz1 := hix.inv_int
          refine ⟨.pointer (some ⟨b, o + (j + z.toNat * m), none⟩), ?_, .vp _ _ _ _ _ _ hF hxs hvs⟩
          simp only [execOp, hx1, hz1]
          refine val_run ?_
          simp only [Instr.indexAt, Sem.run_bind, asIntOf, Sem.run_pure, Result.andThen_ok, run_und hu, Instr.sureAddr]
          rw [if_pos hc]
          simp only [Sem.run_bind, run_size hm, Result.andThen_ok, Sem.run_pure, addr_add, Nat.add_assoc]
        · cases hv
      · cases hv
    · cases hv
  case index t x ix =>
    have hx := hρ x
    have hix := hρ ix
    split at hv
    · rename_i len e cs q z hu hp hz
      split at hv
      · rename_i m hm
        split at hv
        · rename_i hc
          rw [hp] at hx; rw [hz] at hix
          obtain ⟨xs, hx1, hxs⟩ := hx.inv_agg
          have hz1 := hix.inv_int
          obtain ⟨r, hr, hvr⟩ := part_sound (P := P) (w := w) hxs hv
          refine ⟨r, ?_, hvr⟩
          simp only [execOp, hx1, hz1]
          refine val_run ?_
          simp only [Instr.index, Sem.run_bind, asIntOf, Sem.run_pure, Result.andThen_ok, run_und hu]
          rw [if_pos hc]
          simp only [Sem.run_bind, run_size hm, Result.andThen_ok]
          exact hr
        · cases hv
      · cases hv
    · rename_i s q z hu hp hz
      split at hv
      · rename_i hc
        split at hv
        · rename_i b hb
          cases hv
          rw [hp] at hx; rw [hz] at hix
          have hx1 := hx.inv_str
          have hz1 := hix.inv_int
          refine ⟨.int .u8 b.toNat, ?_, .int _ _⟩
          simp only [execOp, hx1, hz1]
          refine val_run ?_
          simp only [Instr.index, Sem.run_bind, asIntOf, Sem.run_pure, Result.andThen_ok, run_und hu, if_pos hc, hb]
        · cases hv
      · cases hv
    · cases hv
  case lookup t x ix ok =>
    split at hv
    · rename_i key elem hu
      split at hv
      · rename_i hd
        split at hv
        · rename_i es he
          have : ∀ o, ifind (ρ ix) es 0 = some o → luRes P elem ok o = some v →
              ∃ r, (execOp ρ' ⟨dst, .lookup t x ix ok, ty, pos, after, guard⟩).run P w = .ok (.value r) w ∧ VR env H.n v r := fun o ho hvo => by
            obtain ⟨r, hr, hvr⟩ := lookup_sound h hu (hρ x) (hρ ix) hd he ho hvo
            exact ⟨r, by simp only [execOp]; exact val_run hr, hvr⟩
          split at hv
          · rename_i p v' hf; exact this _ hf hv
          · rename_i hf; exact this _ hf hv
          · cases hv
        · cases hv
      · cases hv
    · cases hv
  case extract x ix =>
    have hx := hρ x
    split at hv
    · rename_i vs hp
      rw [hp] at hx
      obtain ⟨xs, hx1, hxs⟩ := hx.inv_tup
      obtain ⟨r, hr, hvr⟩ := hxs.get ix v hv
      refine ⟨r, ?_, hvr⟩
      simp only [execOp, hx1]
      refine val_run ?_
      simp [Instr.extract, hr]
    · cases hv
  case call c =>
    obtain ⟨callee, args, ts⟩ := c
    cases callee with
    | value f => simp at hv
    | invoke r m => simp at hv
    | builtin b =>
    cases b <;> simp only [reduceCtorEq] at hv
    split at hv
    · rename_i t x ht hxa
      cases hn : ilen P H t (ρ x) with
      | none => simp [hn] at hv
      | some n =>
        simp [hn] at hv; subst hv
        have hl := ilen_sound h (hρ x) hn ts ty ht (args.map ρ') (by simp [hxa])
        refine ⟨.int .i64 n, ?_, .int _ _⟩
        simp only [execOp, resolve, Sem.run_bind, Sem.run_pure, Result.andThen_ok, invoke, builtin]
        rw [hl]
        rfl
    · cases hv

end sound
end Go.Proofs.Ytnapimfiikgaiaa.Eng
