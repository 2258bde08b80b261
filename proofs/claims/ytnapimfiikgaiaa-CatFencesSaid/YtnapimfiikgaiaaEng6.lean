/- The ideal machine, part 6: an operation that reads, as a whole. Nothing here is a claim of its own. -/
import Derived.Test.YtnapimfiikgaiaaEng5
namespace Go.Proofs.Ytnapimfiikgaiaa.Eng
open Go.RowKit
set_option linter.unusedSimpArgs false
set_option linter.unusedVariables false

section sound
variable {P : Program} {base : Nat} {env : Env} {H : IH} {w : World}

theorem ibound_le {x : Option IV} {y d r : Nat} (h : ibound x y d = some r) : r = d ∨ r ≤ y := by
  unfold ibound at h
  split at h
  · cases h; exact .inl rfl
  · split at h
    · cases h; right; omega
    · cases h
  · cases h

theorem flatten_drop {α : Type} {s : Nat} : ∀ {es : List (List α)}, (∀ e ∈ es, e.length = s) → ∀ l : Nat, (es.drop l).flatten = es.flatten.drop (l * s)
  | es, _, 0 => by simp
  | [], _, l + 1 => by simp
  | e :: es, h, l + 1 => by
    have he := h e (List.mem_cons_self ..)
    have h1 : e.drop ((l + 1) * s) = [] := List.drop_eq_nil_of_le (by rw [he, Nat.add_mul]; omega)
    rw [List.drop_succ_cons, flatten_drop (fun e' he => h e' (List.mem_cons_of_mem _ he)) l, List.flatten_cons, List.drop_append, h1, List.nil_append, he]
    congr 1
    rw [Nat.add_mul]; omega
theorem flatten_take {α : Type} {s : Nat} : ∀ {es : List (List α)}, (∀ e ∈ es, e.length = s) → ∀ l : Nat, (es.take l).flatten = es.flatten.take (l * s)
  | es, _, 0 => by simp
  | [], _, l + 1 => by simp
  | e :: es, h, l + 1 => by
    have he := h e (List.mem_cons_self ..)
    have h1 : e.take ((l + 1) * s) = e := List.take_of_length_le (by rw [he, Nat.add_mul]; omega)
    rw [List.take_succ_cons, List.flatten_cons, flatten_take (fun e' he => h e' (List.mem_cons_of_mem _ he)) l, List.flatten_cons, List.take_append, he, h1]
    congr 2
    rw [Nat.add_mul]; omega
theorem sl_sound {t e : TypeId} (hu : P.underlying t = some (.slice e)) {x : IV} {x' : Value} (hx : VR env H.n x x')
    (hs : (∃ i k n s full, x = .slc i k n s full ∧ tSize P e = some s) ∨ (x = .nils ∧ (tSize P e).isSome = true) ∨ (∃ s es full, x = .vs s es full ∧ tSize P e = some s)) {lo hi mx : Option IV} {lo' hi' mx' : Option Value}
    (hlo : lo = none ∧ lo' = none ∨ ∃ a b, lo = some a ∧ lo' = some b ∧ VR env H.n a b) (hhi : hi = none ∧ hi' = none ∨ ∃ a b, hi = some a ∧ hi' = some b ∧ VR env H.n a b)
    (hmx : mx = none ∧ mx' = none ∨ ∃ a b, mx = some a ∧ mx' = some b ∧ VR env H.n a b) {v : IV} (hv : isl x lo hi mx = some v) :
    ∃ r, (Instr.sliceAt t x' lo' hi' mx').run P w = .ok r w ∧ VR env H.n v r := by
  rcases hs with ⟨i, k, n, s, full, rfl, hsz⟩ | ⟨rfl, hsz⟩ | ⟨s, es, full, rfl, hsz⟩
  · obtain ⟨a, c, rfl, ⟨hi0, hon⟩, hes, hnc, hf, ha⟩ := hx.inv_slc
    simp only [isl] at hv
    split at hv
    · cases hv
    · rename_i m h1
      split at hv
      · cases hv
      · rename_i h h2
        split at hv
        · rename_i hmh
          split at hv
          · cases hv
          · rename_i l h3
            cases hv
            obtain ⟨hb, hlh, hmn⟩ := bounds_sound (P := P) (w := w) hlo hhi hmx true hnc h1 h2 h3 (fun e => by rw [e] at hmh; simpa using hmh.1) hmh.2
            refine ⟨_, by simp only [Instr.sliceAt, Sem.run_bind, run_und hu, Result.andThen_ok, Instr.slice, hb, run_size hsz]; rfl, ?_⟩
            have hh : (Option.map (fun x : Addr => x.add (l * s)) (some a)) = some (a.add (l * s)) := rfl
            simp only [hh]
            have hif : ∀ q : Nat, (if q = l then some a else some (a.add (l * s))) = some (if q = l then a else a.add (l * s)) := fun q => by by_cases hq : q = l <;> simp [hq]
            rw [hif]
            have hle : h ≤ (if mx.isSome = true then m else c) := by split <;> omega
            have hle2 : (if mx.isSome = true then m else c) ≤ c := by split <;> omega
            have hh2 : h - l ≤ (if mx.isSome = true then m else c) - l := by omega
            refine VR.slc i (k + l) (h - l) s _ _ _ hi0 hon hes hh2 ?_ ?_
            · intro hfull
              by_cases hms : mx.isSome = true
              · rw [if_pos hms] at hfull ⊢; simp at hfull; omega
              · rw [if_neg hms] at hfull ⊢
                simp at hfull
                have := hf hfull.1
                omega
            · intro hne
              have hc0 : c ≠ 0 := by omega
              obtain ⟨ha1, ha2⟩ := ha hc0
              rw [if_neg (by omega), ha1, addr_add]
              refine ⟨by congr 1; rw [Nat.add_mul]; omega, ?_⟩
              have : (k + l + ((if mx.isSome = true then m else c) - l)) ≤ k + c := by omega
              have := Nat.mul_le_mul_right s this
              omega
        · cases hv
  · have := hx.inv_nils
    subst this
    simp only [isl] at hv
    split at hv
    · rename_i m h l h1 h2 h3
      split at hv
      · rename_i hok
        cases hv
        obtain ⟨s, hsz⟩ := Option.isSome_iff_exists.1 hsz
        have hm0 : m = 0 := by have := ibound_le h1; omega
        subst hm0
        have hh0 : h = 0 := by have := ibound_le h2; omega
        subst hh0
        obtain ⟨hb, hlh, hmn⟩ := bounds_sound (P := P) (w := w) hlo hhi hmx true (Nat.le_refl 0) h1 h2 h3 (fun e => by rw [e] at hok; simpa using hok) (Nat.le_refl 0)
        have hl0 : l = 0 := by omega
        subst hl0
        refine ⟨.slice none 0 0, ?_, .nils⟩
        simp only [Instr.sliceAt, Sem.run_bind, run_und hu, Result.andThen_ok, Instr.slice, hb, run_size hsz]
        simp
      · cases hv
    · cases hv
  · obtain ⟨a, c, rfl, hnc, hf, ha⟩ := hx.inv_vs
    simp only [isl] at hv
    split at hv
    · cases hv
    · rename_i m h1
      split at hv
      · cases hv
      · rename_i h h2
        split at hv
        · rename_i hmh
          split at hv
          · cases hv
          · rename_i l h3
            cases hv
            obtain ⟨hb, hlh, hmn⟩ := bounds_sound (P := P) (w := w) hlo hhi hmx true hnc h1 h2 h3 (fun e => by rw [e] at hmh; simpa using hmh.1) hmh.2
            refine ⟨_, by simp only [Instr.sliceAt, Sem.run_bind, run_und hu, Result.andThen_ok, Instr.slice, hb, run_size hsz]; rfl, ?_⟩
            have hh : (Option.map (fun x : Addr => x.add (l * s)) (some a)) = some (a.add (l * s)) := rfl
            simp only [hh]
            have hif : ∀ q : Nat, (if q = l then some a else some (a.add (l * s))) = some (if q = l then a else a.add (l * s)) := fun q => by by_cases hq : q = l <;> simp [hq]
            rw [hif]
            have hle : h ≤ (if mx.isSome = true then m else c) := by split <;> omega
            have hh2 : h - l ≤ (if mx.isSome = true then m else c) - l := by omega
            have hlen : ((es.drop l).take (h - l)).length = h - l := by simp; omega
            have hfull : (if mx.isSome then h == m else full && h == es.length) = true → (if mx.isSome = true then m else c) - l = h - l := by
              intro hfull
              by_cases hms : mx.isSome = true
              · rw [if_pos hms] at hfull ⊢; simp at hfull; omega
              · rw [if_neg hms] at hfull ⊢
                simp at hfull
                have := hf hfull.1
                omega
            revert hfull hh2 hle
            generalize (if mx.isSome then h == m else full && h == es.length) = fl
            generalize (if mx.isSome = true then m else c) = c'
            intro hle hh2 hfull
            by_cases h0 : h - l = 0
            · have : (es.drop l).take (h - l) = [] := List.eq_nil_of_length_eq_zero (by rw [hlen, h0])
              rw [this, h0]
              exact .vs0 _ _ _ _ fun h => by have := hfull h; omega
            · rcases ha with ha | ⟨b, o, arr, xs, rfl, hF, hl, hxs, hvs⟩
              · subst ha; simp at hlen; omega
              · rw [if_neg (by omega), addr_add]
                have hfl : ((es.drop l).take (h - l)).flatten = ((es.flatten).drop (l * s)).take ((h - l) * s) := by
                  rw [← flatten_drop hl l, ← flatten_take (fun e he => hl e (List.mem_of_mem_drop he)) (h - l)]
                have := VR.vs (env := env) (N := H.n) s ((es.drop l).take (h - l)) fl b (o + l * s) (c' - l) arr ((xs.drop (l * s)).take ((h - l) * s)) hF
                  (fun e he => hl e (List.mem_of_mem_drop (List.mem_of_mem_take he))) (by rw [hlen]; exact hh2) (fun h => by rw [hlen]; exact hfull h)
                  (fun q x hq => by
                    have hq2 : q < (h - l) * s := by have := (List.getElem?_eq_some_iff.1 hq).1; simp at this; omega
                    rw [List.getElem?_take_of_lt hq2, List.getElem?_drop] at hq
                    have := hxs _ _ hq
                    rwa [Nat.add_assoc])
                  (by rw [hfl]; exact (hvs.drop _).take _)
                rw [hlen] at this
                exact this
        · cases hv

theorem str_sl_sound {t : TypeId} (hu : P.underlying t = some .string) {b : ByteArray} {lo hi mx : Option IV} {lo' hi' mx' : Option Value}
    (hlo : lo = none ∧ lo' = none ∨ ∃ a b, lo = some a ∧ lo' = some b ∧ VR env H.n a b) (hhi : hi = none ∧ hi' = none ∨ ∃ a b, hi = some a ∧ hi' = some b ∧ VR env H.n a b)
    (hmx : mx = none ∧ mx' = none ∨ ∃ a b, mx = some a ∧ mx' = some b ∧ VR env H.n a b) {v : IV} (hv : isl (.str b) lo hi mx = some v) :
    ∃ r, (Instr.sliceAt t (.string b) lo' hi' mx').run P w = .ok r w ∧ VR env H.n v r := by
  simp only [isl] at hv
  split at hv
  · cases hv
  · rename_i hms
    split at hv
    · cases hv
    · rename_i h h2
      split at hv
      · cases hv
      · rename_i l h3
        cases hv
        have hmn : mx = none := by cases mx <;> simp_all
        have hmn' : mx' = none := by
          rcases hmx with ⟨_, h⟩ | ⟨_, _, h, _⟩
          · exact h
          · rw [hmn] at h; cases h
        subst hmn; subst hmn'
        have hle : h ≤ b.size := by have := ibound_le h2; omega
        obtain ⟨hb, hlh, _⟩ := bounds_sound (P := P) (w := w) hlo hhi (mx := none) (mx' := none) (.inl ⟨rfl, rfl⟩) false (n := b.size) (c := b.size) (Nat.le_refl _) rfl h2 h3 (fun _ => rfl) hle
        refine ⟨_, ?_, .str _⟩
        simp [Instr.sliceAt, Sem.run_bind, run_und hu, Result.andThen_ok, Instr.slice, hb]

theorem bytesOf_spec : ∀ {es : List (List IV)} {l : List UInt8}, bytesOf es = some l → ∃ ns : List Int, es = ns.map (fun n => [IV.int .u8 n]) ∧ l = ns.map fun n => UInt8.ofNat n.toNat
  | [], l, h => by simp [bytesOf] at h; subst h; exact ⟨[], rfl, rfl⟩
  | e :: es, l, h => by
    unfold bytesOf at h
    split at h
    · rename_i h'; cases h'
    · rename_i n r h'
      cases h'
      cases hr : bytesOf es with
      | none => simp [hr] at h
      | some l' =>
        simp [hr] at h; subst h
        obtain ⟨ns, h1, h2⟩ := bytesOf_spec hr
        exact ⟨n :: ns, by simp [h1], by simp [h2]⟩
    · cases h

theorem push_fold : ∀ (ns : List Int) (b : ByteArray), ns.foldl (fun r n => r.push (UInt8.ofNat n.toNat)) b = ⟨b.data ++ (ns.map fun n => UInt8.ofNat n.toNat).toArray⟩
  | [], b => by simp
  | n :: ns, b => by
    simp only [List.foldl_cons, push_fold ns, List.map_cons]
    congr 1
    show b.data.push _ ++ _ = _
    rw [Array.push_eq_append]
    simp [Array.append_assoc]

theorem ints_VRs : ∀ {ns : List Int} {xs : List Value}, VRs env H.n (ns.map fun n => IV.int .u8 n) xs → xs = ns.map (Value.int .u8)
  | [], _, .nil => rfl
  | n :: ns, _, .cons _ _ _ _ h hs => by cases h; rw [ints_VRs hs]; rfl

theorem bytes_sound (h : SR base env H w) {src dst e : TypeId} (hs : P.underlying src = some (.slice e)) (hd : P.underlying dst = some .string) (he : P.underlying e = some (.int .u8)) {i k n s : Nat} {full : Bool} {x' : Value} (hx : VR env H.n (.slc i k n s full) x')
    {own : Bool} {s' : Nat} {es : List (List IV)} (hf : H.f i = .cells own s' es) (hkn : k + n ≤ es.length) {l : List UInt8} (hl : bytesOf ((es.drop k).take n) = some l) :
    (convert src dst x').run P w = .ok (.string ⟨l.toArray⟩) w := by
  obtain ⟨a, c, rfl, ⟨hi0, hon⟩, hes, hnc, hfu, ha⟩ := hx.inv_slc
  obtain ⟨ns, h1, h2⟩ := bytesOf_spec hl
  have hln : ns.length = n := by have := congrArg List.length h1; simp at this; omega
  have hb := h.blk i hi0
  rw [hf] at hb
  have hc : (env i).s = s' ∧ Cells env H.n w (env i) es := by cases own <;> exact ⟨hb.1, hb.2.1⟩
  have hel : ∀ q, q < n → es[k + q]? = some [IV.int .u8 (ns.getD q 0)] := fun q hq => by
    have := congrArg (fun l => l[q]?) h1
    simp only [List.getElem?_take_of_lt hq, List.getElem?_drop, List.getElem?_map] at this
    rw [this]
    simp [List.getD, List.getElem?_eq_getElem (by omega : q < ns.length)]
  have hrun : (loadCells a n).run P w = .ok (ns.map (Value.int .u8)).toArray w := by
    cases n with
    | zero => cases ns with
      | nil => simp [loadCells, loadCellsFrom]
      | cons _ _ => simp at hln
    | succ n =>
      have hs1 : (env i).s = 1 := by
        have := hc.2.1 _ (List.mem_of_getElem? (hel 0 (by omega)))
        simpa using this.symm
      have hs1' : s = 1 := by omega
      subst hs1'
      obtain ⟨ha1, _⟩ := ha (by omega)
      obtain ⟨xs, hx1, hx2, _, hrun⟩ := read_list (P := P) (w := w) (H := H) (env := env) (b := (env i).b) (o := (env i).d + k * 1) (vs := ns.map fun n => IV.int .u8 n) fun q v hq => by
        have hq2 : q < n + 1 := by have := (List.getElem?_eq_some_iff.1 hq).1; simp at this; omega
        have hv : v = .int .u8 (ns.getD q 0) := by
          rw [List.getElem?_map, List.getElem?_eq_getElem (by omega : q < ns.length)] at hq
          simp at hq
          rw [← hq]; simp [List.getD, List.getElem?_eq_getElem (by omega : q < ns.length)]
        obtain ⟨x, hx, hvx⟩ := hc.2.2 (k + q) _ (hel q hq2) 0 _ rfl
        refine ⟨x, ?_, hv ▸ hvx⟩
        rw [hs1] at hx
        rw [show (env i).d + k * 1 + q = (env i).d + ((k + q) * 1 + 0) by omega]; exact hx
      rw [ints_VRs hx2] at hrun
      rw [ha1]
      simpa [hln] using hrun
  have hcv : (convert src dst (.slice (some a) n c)).run P w = (Conv.bytesToString (.slice (some a) n c)).run P w := by
    simp only [convert, Sem.run_bind, run_und hs, run_und hd, Result.andThen_ok, run_und he]
  rw [hcv, run_bytesToString w a n c ns hrun, push_fold, h2]
  simp [ByteArray.empty, ByteArray.emptyWithCapacity]
  rfl

theorem vs_bytes_sound (h : SR base env H w) {src dst e : TypeId} (hs : P.underlying src = some (.slice e)) (hd : P.underlying dst = some .string) (he : P.underlying e = some (.int .u8)) {s : Nat} {es : List (List IV)} {full : Bool} {x' : Value} (hx : VR env H.n (.vs s es full) x')
    {l : List UInt8} (hl : bytesOf es = some l) : (convert src dst x').run P w = .ok (.string ⟨l.toArray⟩) w := by
  obtain ⟨a, c, rfl, hnc, hfu, ha⟩ := hx.inv_vs
  obtain ⟨ns, h1, h2⟩ := bytesOf_spec hl
  have hrun : (loadCells a es.length).run P w = .ok (ns.map (Value.int .u8)).toArray w := by
    rcases ha with ha | ⟨b, o, arr, xs, rfl, hF, hl, hxs, hvs⟩
    · subst ha
      cases ns with
      | nil => simp [loadCells, loadCellsFrom]
      | cons _ _ => simp at h1
    · have hfl : es.flatten = ns.map fun n => IV.int .u8 n := by
        rw [h1]
        generalize ns = ns
        induction ns with
        | nil => rfl
        | cons n ns ih => simp [ih]
      rw [hfl] at hvs
      obtain ⟨ys, hy1, hy2, _, hrun⟩ := read_list (P := P) (w := w) (H := H) (env := env) (b := b) (o := o) (vs := ns.map fun n => IV.int .u8 n) (vp_cells h hF hxs hvs)
      rw [ints_VRs hy2] at hrun
      rw [h1]
      simpa using hrun
  have hcv : (convert src dst (.slice (some a) es.length c)).run P w = (Conv.bytesToString (.slice (some a) es.length c)).run P w := by
    simp only [convert, Sem.run_bind, run_und hs, run_und hd, Result.andThen_ok, run_und he]
  rw [hcv, run_bytesToString w a es.length c ns hrun, push_fold, h2]
  simp [ByteArray.empty, ByteArray.emptyWithCapacity]
  rfl

/-! #### maps -/
theorem sameNow_sound {d : TypeDesc} {k x : IV} {k' x' : Value} (hd : keyOk (some d) k = true) (hk : VR env H.n k k') (hx : VR env H.n x x') {r : Bool} (h : keyEq k x = some r) : Instr.sameNow d k' x' = some r := by
  unfold keyEq at h
  split at h <;> first | cases h | skip
  · rename_i a b c e
    cases hk; cases hx
    split at h
    · rename_i hab; cases h; subst hab
      cases d <;> simp [keyOk] at hd
      simp [Instr.sameNow]
    · cases h
  · cases hk; cases hx
    cases d <;> simp [keyOk] at hd
    simp [Instr.sameNow]
  · cases hk; cases hx
    cases d <;> simp [keyOk] at hd
    simp [Instr.sameNow]

theorem find_sound {d : TypeDesc} {k : IV} {k' : Value} (hd : keyOk (some d) k = true) (hk : VR env H.n k k') : ∀ {l : List (IV × IV)} {r : List MapEntry} (i : Nat) {o : Option (Nat × IV)}, MR env H.n l r → ifind k l i = some o →
    (o = none ∧ Instr.findNow d k' r i = some none) ∨ ∃ p v x, o = some (p, v) ∧ Instr.findNow d k' r i = some (some (p, x)) ∧ VR env H.n v x ∧ i ≤ p ∧ p - i < r.length ∧ ∃ e : MapEntry, r[p - i]? = some e ∧ Instr.sameNow d k' e.key = some true
  | _, _, i, o, .nil, h => by simp [ifind] at h; exact .inl ⟨h.symm, rfl⟩
  | _, _, i, o, .cons x v e l r hx hv hs, h => by
    simp only [ifind] at h
    split at h
    · rename_i he
      cases h
      have hse := sameNow_sound hd hk hx he
      exact .inr ⟨i, v, e.val, rfl, by simp [Instr.findNow, hse], hv, Nat.le_refl _, by simp, e, by simp, hse⟩
    · rename_i he
      rcases find_sound hd hk (i + 1) hs h with ⟨h1, h2⟩ | ⟨p, v2, x2, h1, h2, h3, h4, h5, e2, h6, h7⟩
      · exact .inl ⟨h1, by simp [Instr.findNow, sameNow_sound hd hk hx he, h2]⟩
      · refine .inr ⟨p, v2, x2, h1, by simp [Instr.findNow, sameNow_sound hd hk hx he, h2], h3, by omega, by simp; omega, e2, ?_, h7⟩
        rw [show p - i = (p - (i + 1)) + 1 by omega]; simpa using h6
    · cases h

theorem key_run {key : TypeId} {d : TypeDesc} (hu : P.underlying key = some d) {k : IV} {k' : Value} (hd : keyOk (some d) k = true) (hk : VR env H.n k k') (em : Bool) (n : Nat) : (Instr.checkKey em (n + 1) key k').run P w = .ok () w := by
  unfold keyOk at hd
  split at hd <;> first | cases hd | skip
  all_goals
    rename_i h1
    cases h1
    cases hk
    simp only [Instr.checkKey, Sem.run_bind, run_und hu, Result.andThen_ok]
    rfl

theorem cvo_VR {x : Value} {v : IV} (h : cvo x = some v) : VR env H.n v x := by
  unfold cvo at h
  split at h
  · rename_i cs
    cases hl : ofFlats cs.toList with
    | none => simp [hl] at h
    | some l => simp [hl] at h; subst h; simpa using VR.agg (env := env) (N := H.n) _ _ (ofFlats_VR hl)
  · exact ofFlat_VR h
theorem izero_sound {t : TypeId} {v : IV} (h : izero P t = some v) : ∃ x, (zeroValue t).run P w = .ok x w ∧ VR env H.n v x := by
  unfold izero at h
  split at h
  · rename_i i hi
    split at h
    · rename_i z hz; exact ⟨z, by simp [zeroValue, typeInfo, hi, hz], cvo_VR h⟩
    · cases h
  · cases h

theorem mapAt_sound (h : SR base env H w) {m : IV} {m' : Value} (hm : VR env H.n m m') {es : List (IV × IV)} (he : mapAt H m = some es) :
    (m' = .map none ∧ es = []) ∨ ∃ r ents clock, m' = .map (some r) ∧ w.heap[r]? = some (.map ents clock) ∧ MR env H.n es ents.toList := by
  unfold mapAt at he
  split at he
  · cases he; cases hm; exact .inl ⟨rfl, rfl⟩
  · rename_i i
    split at he
    · rename_i es' hf
      cases he
      obtain ⟨rfl, hi, _⟩ := hm.inv_map
      have hb := h.blk i hi
      rw [hf] at hb
      obtain ⟨_, ents, clock, h1, h2⟩ := hb
      exact .inr ⟨_, ents, clock, rfl, h1, h2⟩
    · cases he
  · cases he

def luRes (P : Program) (elem : TypeId) (ok : Bool) : Option (Nat × IV) → Option IV
  | some (_, v) => some (if ok then IV.tup [v, .bool true] else v)
  | none => (izero P elem).map fun v => if ok then IV.tup [v, .bool false] else v
theorem lookup_sound (h : SR base env H w) {t key elem : TypeId} (hu : P.underlying t = some (.map key elem)) {m k : IV} {m' k' : Value} (hm : VR env H.n m m') (hk : VR env H.n k k') {es : List (IV × IV)} (hd : keyOk (P.underlying key) k = true) (he : mapAt H m = some es)
    {o : Option (Nat × IV)} (hf : ifind k es 0 = some o) {ok : Bool} {v : IV} (hv : luRes P elem ok o = some v) :
    ∃ x, (Instr.lookup t m' k' ok).run P w = .ok x w ∧ VR env H.n v x := by
  cases hku : P.underlying key with
  | none => rw [hku] at hd; cases k <;> simp [keyOk] at hd
  | some d =>
    rw [hku] at hd
    have main : ∀ (ents : Array MapEntry) (em : Bool), MR env H.n es ents.toList → ∃ r, (do Instr.checkKey em 10000 key k'
                                                                                            let (v, ok') ← match ← Instr.findKey key k' ents.toList with
                                                                                              | some (_, v) => pure (v, true)
                                                                                              | none => pure (← zeroValue elem, false)
                                                                                            pure (if ok then .tuple #[v, .bool ok'] else v) : Sem Value).run P w = .ok r w ∧ VR env H.n v r := by
      intro ents em hmr
      have hck := key_run (P := P) (w := w) hku hd hk em 9999
      have hck' : (Instr.checkKey em 10000 key k').run P w = .ok () w := hck
      rcases find_sound hd hk 0 hmr hf with ⟨rfl, h2⟩ | ⟨p, v2, x2, rfl, h2, h3, _⟩
      · cases hz : izero P elem with
        | none => simp [luRes, hz] at hv
        | some z =>
          simp [luRes, hz] at hv
          obtain ⟨x, hx, hvx⟩ := izero_sound (env := env) (H := H) (w := w) hz
          refine ⟨if ok then .tuple #[x, .bool false] else x, ?_, ?_⟩
          · simp only [Sem.run_bind, hck', Result.andThen_ok, Instr.findKey, run_und hku, h2, Sem.run_pure, hx]
          · subst hv
            cases ok
            · exact hvx
            · exact .tup _ [x, .bool false] (.cons _ _ _ _ hvx (.cons _ _ _ _ (.bool _) .nil))
      · simp [luRes] at hv
        refine ⟨if ok then .tuple #[x2, .bool true] else x2, ?_, ?_⟩
        · simp only [Sem.run_bind, hck', Result.andThen_ok, Instr.findKey, run_und hku, h2, Sem.run_pure]
        · subst hv
          cases ok
          · exact h3
          · exact .tup _ [x2, .bool true] (.cons _ _ _ _ h3 (.cons _ _ _ _ (.bool _) .nil))
    rcases mapAt_sound h hm he with ⟨rfl, rfl⟩ | ⟨r, ents, clock, rfl, h1, h2⟩
    · obtain ⟨r, hr, hvr⟩ := main #[] true .nil
      refine ⟨r, ?_, hvr⟩
      simp only [Instr.lookup, Sem.run_bind, run_und hu, Result.andThen_ok, Sem.run_pure] at hr ⊢
      exact hr
    · obtain ⟨r', hr, hvr⟩ := main ents ents.isEmpty h2
      refine ⟨r', ?_, hvr⟩
      have hg : (getObj r).run P w = .ok (.map ents clock) w := by simp [getObj, Sem.run, h1]
      simp only [Instr.lookup, Sem.run_bind, run_und hu, Result.andThen_ok, Sem.run_pure, hg] at hr ⊢
      exact hr

end sound
end Go.Proofs.Ytnapimfiikgaiaa.Eng
