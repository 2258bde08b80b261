/- The ideal machine, part 11: every operation that writes stands to the model's; calls. Nothing here is a claim of its own. -/
import Derived.Test.YtnapimfiikgaiaaEng10
namespace Go.Proofs.Ytnapimfiikgaiaa.Eng
open Go.RowKit
set_option linter.unusedSimpArgs false
set_option linter.unusedVariables false

section sound
variable {P : Program} {base : Nat} {env : Env} {H : IH} {w : World} {ρ : Operand → IV} {ρ' : Operand → Value}

theorem rows_flatten {s : Nat} {a b : List (List IV)} {xs ys : List Value} {N : Nat} (ha : VRs env N a.flatten xs) (hb : VRs env N b.flatten ys) : VRs env N (a ++ b).flatten (xs ++ ys) := by
  rw [List.flatten_append]; exact ha.append hb

/-- Growth: what the new row is. -/
theorem grow_sim (h : SR base env H w) {e : TypeId} {s n m nc : Nat} {old new : List (List IV)} {os xs : List Value} {z : Value} {zi : List IV} (ho : VRs env H.n old.flatten os) (hx : VRs env H.n new.flatten xs) (hol : old.length = n) (hnl : new.length = m)
    (hor : ∀ e ∈ old, e.length = s) (hnr : ∀ e ∈ new, e.length = s) (hz : VRs env H.n zi z.cells.toList) (hzl : zi.length = s) (hnc : n + m ≤ nc) {w' : World} (hw : w' = { w with drawn := w.drawn + 1, heap := w.heap.push (.cells (os.toArray ++ xs.toArray ++ Builtin.zeroCells z.cells (nc - (n + m))) e) }) :
    ∃ env', Sim base env H w env' (H.push (.cells true s (old ++ new))) w' ∧ VR env' (H.n + 1) (.slc H.n 0 (n + m) s false) (.slice (some ⟨w.heap.size, 0, none⟩) (n + m) nc) := by
  have hrows : ∀ e ∈ old ++ new, e.length = s := fun e he => by
    rcases List.mem_append.1 he with h1 | h1
    · exact hor e h1
    · exact hnr e h1
  have hol' : os.length = n * s := by rw [← ho.length, flat_length hor, hol]
  have hxl' : xs.length = m * s := by rw [← hx.length, flat_length hnr, hnl]
  have hzs : z.cells.size = s := by have := hz.length; simp at this; omega
  have hsize : (os.toArray ++ xs.toArray ++ Builtin.zeroCells z.cells (nc - (n + m))).size = nc * s := by
    simp [Builtin.zeroCells, hol', hxl', hzs]
    rw [← Nat.add_mul, ← Nat.add_mul]
    congr 1
    omega
  have hlen : (old ++ new).length = n + m := by simp [hol, hnl]
  subst hw
  refine ⟨_, Sim.pushCells h _ e 0 0 s (old ++ new) rfl rfl rfl rfl hrows ?_ (fun o _ => by omega) (flat_cells hrows (rows_flatten (s := s) ho hx) (rest := (Builtin.zeroCells z.cells (nc - (n + m))).toList) (by simp)), ?_⟩
  · rw [hlen, hsize]; exact Nat.mul_le_mul_right s hnc
  · refine VR.slc _ _ _ _ _ _ _ (by omega) (by rw [upd_at]) (by rw [upd_at]) hnc (fun h => by cases h) (fun _ => ?_)
    rw [upd_at]
    exact ⟨by simp, by show 0 + (0 + nc) * s ≤ _; rw [hsize]; simp⟩

theorem append_sound (h : SR base env H w) {t t2 e ty : TypeId} {ts : Array TypeId} {args : Array Value} (hu : P.underlying t = some (.slice e)) {d2 : TypeDesc} (hu2 : P.underlying t2 = some d2) (hd2 : notInt d2 = true)
    {s b : Nat} {zi : List IV} (hs : tSize P e = some s) (hb : tBytes P e = some b) (hz : tZero P e = some zi) (hzl : zi.length = s) (hs0 : 0 < s) (hb0 : 0 < b) (h0 : ts[0]? = some t) (h1 : ts[1]? = some t2) {x y : IV} {x' y' : Value} (hx : VR env H.n x x') (hy : VR env H.n y y') (hax : args[0]? = some x') (hay : args[1]? = some y')
    {new : List (List IV)} (hn : srcElems H s y = some new) (hsol : solidEs new = true) {v : IV} {H' : IH}
    (hv : (match x with
      | .nils => if new = [] then some (IV.nils, H) else if new.length * b ≤ 2 ^ 47 then some (IV.slc H.n 0 new.length s false, H.push (.cells true s new)) else none
      | .slc i k n s' full => if s' = s ∧ (n + new.length) * b ≤ 2 ^ 47 then (if n = 0 ∧ full = true then (if new = [] then some (.slc i k n s full, H) else some (.slc H.n 0 new.length s false, H.push (.cells true s new))) else match H.f i with
                | .cells own _ es => if k + n ≤ es.length then
                    if new = [] then some (.slc i k n s full, H)
                    else if full then some (.slc H.n 0 (n + new.length) s false, H.push (.cells true s ((es.drop k).take n ++ new)))
                    else if own then some (.slc H.n 0 (n + new.length) s false, (H.set i .dead).push (.cells true s ((es.drop k).take n ++ new)))
                    else none
                  else none
                | _ => none) else none
      | .vs s' es full => if s' = s ∧ (es.length + new.length) * b ≤ 2 ^ 47 then (if new = [] then some (.vs s es full, H) else if full then some (.slc H.n 0 (es.length + new.length) s false, H.push (.cells true s (es ++ new))) else none) else none
      | _ => none) = some (v, H')) :
    ∃ r w' env', (Builtin.append_ ts ty args).run P w = .ok r w' ∧ Sim base env H w env' H' w' ∧ VR env' H'.n v r := by
  obtain ⟨hnr, hl, xs, hxs, hf⟩ := src_sound (P := P) h hy hn
  obtain ⟨z, hzr, hzv, _⟩ := tZero_VRs (env := env) (N := H.n) hz
  have hd : SR base env H { w with drawn := w.drawn + 1 } := h.same rfl
  obtain ⟨_, _, xs2, hxs2, hf2⟩ := src_sound (P := P) hd hy hn
  have hempty : new = [] → xs = [] := fun e => by
    subst e
    cases hxs
    rfl
  split at hv
  · have hx' := hx.inv_nils
    subst hx'
    by_cases hne : new = []
    · rw [if_pos hne] at hv
      cases hv
      subst hne
      refine ⟨.slice none 0 0, w, env, ?_, Sim.refl h, .nils⟩
      have := run_append_room (P := P) (w := w) (ty := ty) hu hu2 hd2 hs h0 h1 hax hay hl hf (Nat.le_refl 0) (w' := w) rfl
      simpa using this
    · rw [if_neg hne] at hv
      split at hv
      · rename_i hsz
        cases hv
        have hpos : 0 < new.length := by cases new with | nil => exact absurd rfl hne | cons _ _ => simp
        obtain ⟨nc, hnc, hrun⟩ := run_append_grow (P := P) (w := w) (ty := ty) hu hu2 hd2 hs hb hb0 hzr h0 h1 hax hay hl hf2 (by omega) (by simpa using hsz) (os := #[]) rfl
        obtain ⟨env', hsim, hvr⟩ := grow_sim (e := e) (n := 0) (old := []) (os := []) h .nil hxs2 rfl rfl (by simp) hnr hzv hzl hnc rfl
        refine ⟨_, _, env', hrun, ?_, ?_⟩
        · simpa using hsim
        · show VR env' (H.n + 1) _ _
          simpa using hvr
      · cases hv
  · rename_i i k n s' full
    split at hv
    · rename_i hc
      obtain ⟨rfl, hsz⟩ := hc
      obtain ⟨a, c, hx', ⟨hi, hon⟩, hes, hnc, hfu, ha⟩ := hx.inv_slc
      subst hx'
      by_cases hnf : n = 0 ∧ full = true
      · rw [if_pos hnf] at hv
        obtain ⟨hn0, hful⟩ := hnf
        have hcn := hfu hful
        subst hn0
        by_cases hne : new = []
        · rw [if_pos hne] at hv
          cases hv
          have hx0 := hempty hne
          subst hne; subst hx0
          refine ⟨.slice (some a) 0 c, w, env, ?_, Sim.refl h, hx⟩
          have := run_append_room (P := P) (w := w) (ty := ty) hu hu2 hd2 hs h0 h1 hax hay hl hf (by simp) (w' := w) rfl
          simpa using this
        · rw [if_neg hne] at hv
          cases hv
          have hpos : 0 < new.length := by cases new with | nil => exact absurd rfl hne | cons _ _ => simp
          obtain ⟨nc, hnc, hrun⟩ := run_append_grow (P := P) (w := w) (ty := ty) hu hu2 hd2 hs hb hb0 hzr h0 h1 hax hay hl hf2 (by omega) (by simpa using hsz) (os := #[]) (by
            show (loadCells a (0 * s')).run P _ = _
            simp [loadCells, loadCellsFrom])
          obtain ⟨env', hsim, hvr⟩ := grow_sim (e := e) (n := 0) (old := []) (os := []) h .nil hxs2 rfl rfl (by simp) hnr hzv hzl hnc rfl
          refine ⟨_, _, env', hrun, ?_, ?_⟩
          · simpa using hsim
          · show VR env' (H.n + 1) _ _
            simpa using hvr
      rw [if_neg hnf] at hv
      split at hv
      · rename_i own s2 es hfi
        split at hv
        · rename_i hkn
          obtain ⟨hs2, hrow, hcell⟩ := cells_of h hi hfi
          have hss : s2 = s' := by omega
          subst hss
          have hor : ∀ e ∈ (es.drop k).take n, e.length = s2 := fun e he => by rw [hrow e (List.mem_of_mem_drop (List.mem_of_mem_take he)), hs2]
          have hol : ((es.drop k).take n).length = n := by simp; omega
          split at hv
          · rename_i hne
            cases hv
            have hx0 := hempty hne
            subst hne; subst hx0
            refine ⟨.slice (some a) n c, w, env, ?_, Sim.refl h, hx⟩
            have := run_append_room (P := P) (w := w) (ty := ty) hu hu2 hd2 hs h0 h1 hax hay hl hf (by simpa using hnc) (w' := w) rfl
            simpa using this
          · rename_i hne
            have hpos : 0 < new.length := by cases new with | nil => exact absurd rfl hne | cons _ _ => simp
            -- the old elements, behind the draw
            have hold : ∃ os : List Value, VRs env H.n ((es.drop k).take n).flatten os ∧ (Builtin.firstCells s2 n (.slice (some a) n c)).run P { w with drawn := w.drawn + 1 } = .ok os.toArray { w with drawn := w.drawn + 1 } := by
              obtain ⟨os, o1, o2, o3, o4⟩ := read_rows (P := P) hd hi hfi hkn
              refine ⟨os, o1, ?_⟩
              show (loadCells a (n * s2)).run P _ = _
              by_cases h0 : c = 0
              · have hn0 : n = 0 := by omega
                subst hn0
                have : os = [] := List.eq_nil_of_length_eq_zero (by simpa using o2)
                subst this
                simp [loadCells, loadCellsFrom]
              · obtain ⟨ha1, _⟩ := ha h0
                rw [ha1]; exact o4
            obtain ⟨os, hos, hosr⟩ := hold
            have hgrow : c < n + new.length → ∃ nc w', (Builtin.append_ ts ty args).run P w = .ok (.slice (some ⟨w.heap.size, 0, none⟩) (n + new.length) nc) w' ∧
                (∀ {H0 : IH}, SR base env H0 w → H0.n = H.n → ∃ env', Sim base env H0 w env' (H0.push (.cells true s2 ((es.drop k).take n ++ new))) w' ∧ VR env' (H0.n + 1) (.slc H0.n 0 (n + new.length) s2 false) (.slice (some ⟨w.heap.size, 0, none⟩) (n + new.length) nc)) := by
              intro hlt
              obtain ⟨nc, hnc', hrun⟩ := run_append_grow (P := P) (w := w) (ty := ty) hu hu2 hd2 hs hb hb0 hzr h0 h1 hax hay hl hf2 hlt hsz hosr
              refine ⟨nc, _, hrun, fun {H0} h0' hn0 => ?_⟩
              exact grow_sim (e := e) h0' (by rw [hn0]; exact hos) (by rw [hn0]; exact hxs2) hol rfl hor hnr (by rw [hn0]; exact hzv) hzl hnc' rfl
            split at hv
            · rename_i hfull
              cases hv
              have hcn := hfu hfull
              obtain ⟨nc, w', hrun, hsim⟩ := hgrow (by omega)
              obtain ⟨env', hs1, hv1⟩ := hsim h rfl
              exact ⟨_, w', env', hrun, hs1, hv1⟩
            · split at hv
              · rename_i hfull hown
                cases hv
                subst hown
                by_cases hroom : n + new.length ≤ c
                · -- in place
                  have hb' := h.blk i hi
                  rw [hfi] at hb'
                  obtain ⟨_, _, hbase, arr, ty', lo, hi', harr, hzz, hdz, hfr⟩ := hb'
                  obtain ⟨ha1, ha2⟩ := ha (by omega)
                  have hbs : (env i).b < w.heap.size := (Array.getElem?_eq_some_iff.1 harr).1
                  have hxl : xs.length = new.length * s2 := by rw [← hxs.length, flat_length hnr]
                  have hkc : (k + (n + new.length)) * s2 ≤ (k + c) * s2 := Nat.mul_le_mul_right _ (by omega)
                  have hbound : (env i).d + (k + n) * s2 + xs.length ≤ (env i).z := by
                    rw [hxl, Nat.add_assoc, ← Nat.add_mul]
                    have : k + n + new.length = k + (n + new.length) := by omega
                    rw [this]; omega
                  have hone : ∀ x ∈ xs, x.oneCell' = true := fun x hxm => by
                    obtain ⟨q, hq, rfl⟩ := List.mem_iff_getElem.1 hxm
                    obtain ⟨v, hv1, hv2⟩ := hxs.get' q _ (List.getElem?_eq_getElem hq)
                    refine hv2.oneCell ?_
                    obtain ⟨e1, he1, he2⟩ := List.mem_flatten.1 (List.mem_of_getElem? hv1)
                    have := List.all_eq_true.1 hsol e1 he1
                    exact List.all_eq_true.1 this v he2
                  have hrun := stores_run (P := P) (b := (env i).b) (o := (env i).d + (k + n) * s2) (ty := ty') (lo := lo) (hi := hi') xs 0 w arr harr (by omega) (fun q h1 h2 => hfr q (by omega)) hone
                  have hadd : a.add (n * s2) = ⟨(env i).b, (env i).d + (k + n) * s2, none⟩ := by rw [ha1, addr_add]; congr 1; rw [Nat.add_mul]; omega
                  have happ := run_append_room (P := P) (w := w) (ty := ty) hu hu2 hd2 hs h0 h1 hax hay hl hf hroom (w' := World.putRow w (env i).b (vsplice arr.toList ((env i).d + (k + n) * s2 + 0) xs).toArray ty' (lo, hi')) (by simp only [hadd]; exact hrun)
                  have hnew := putRow_same w (vsplice arr.toList ((env i).d + (k + n) * s2 + 0) xs).toArray ty' (lo, hi') hbs
                  have hvl : (vsplice arr.toList ((env i).d + (k + n) * s2 + 0) xs).length = arr.size := by rw [vsplice_length]; simp
                  have hcell' : ∀ q, (World.putRow w (env i).b (vsplice arr.toList ((env i).d + (k + n) * s2 + 0) xs).toArray ty' (lo, hi')).cell? ⟨(env i).b, q, none⟩ = if (env i).d + (k + n) * s2 ≤ q ∧ q < (env i).d + (k + n) * s2 + xs.length then xs[q - ((env i).d + (k + n) * s2)]? else w.cell? ⟨(env i).b, q, none⟩ := by
                    intro q
                    simp only [World.cell?, hnew, harr]
                    simp only [Option.isSome_none, Bool.false_eq_true, if_false]
                    rw [List.getElem?_toArray, vsplice_get _ _ _ _ (by simp; omega)]
                    simp
                  have hrows : ∀ e ∈ (es.drop k).take n ++ new, e.length = s2 := fun e he => by
                    rcases List.mem_append.1 he with h1 | h1
                    · exact hor e h1
                    · exact hnr e h1
                  have hlen : ((es.drop k).take n ++ new).length = n + new.length := by rw [List.length_append, hol]
                  refine ⟨.slice (some a) (n + new.length) c, _, _, happ, Sim.move h hi (.inl ⟨_, _, hfi⟩) ⟨(env i).b, (env i).d + k * s2, s2, (env i).z, true⟩ rfl s2 _ (fun b _ hne => putRow_other w _ _ _ hne) (by simp [World.putRow]) rfl rfl rfl rfl ⟨hrows, ?_⟩ ?_, ?_⟩
                  · intro q e' hq j v hj
                    show ∃ x, (World.putRow w (env i).b (vsplice arr.toList ((env i).d + (k + n) * s2 + 0) xs).toArray ty' (lo, hi')).cell? ⟨(env i).b, (env i).d + k * s2 + (q * s2 + j), none⟩ = some x ∧ VR env H.n v x
                    have hjs : j < s2 := by
                      have h1 := (List.getElem?_eq_some_iff.1 hj).1
                      have h2 := hrows e' (List.mem_of_getElem? hq)
                      omega
                    rw [hcell']
                    by_cases hqn : q < n
                    · rw [List.getElem?_append_left (by omega), List.getElem?_take_of_lt hqn, List.getElem?_drop] at hq
                      have h1 := hcell (k + q) e' hq j v hj
                      have h2 := Nat.mul_le_mul_right s2 (show q + 1 ≤ n by omega)
                      rw [Nat.add_mul] at h2
                      rw [if_neg (by rw [Nat.add_mul]; omega)]
                      rw [hs2, Nat.add_mul] at h1
                      rwa [show (env i).d + k * s2 + (q * s2 + j) = (env i).d + (k * s2 + q * s2 + j) by omega]
                    · rw [List.getElem?_append_right (by omega), hol] at hq
                      obtain ⟨x, hx1, hx2⟩ := hxs.get _ _ (flat_get hnr hq hj)
                      refine ⟨x, ?_, hx2⟩
                      have h3 : q * s2 = n * s2 + (q - n) * s2 := by rw [← Nat.add_mul]; congr 1; omega
                      have h4 := (List.getElem?_eq_some_iff.1 hx1).1
                      rw [if_pos (by rw [Nat.add_mul]; omega), show (env i).d + k * s2 + (q * s2 + j) - ((env i).d + (k + n) * s2) = (q - n) * s2 + j by rw [Nat.add_mul]; omega]
                      exact hx1
                  · refine ⟨_, ty', lo, hi', hnew, by rw [List.size_toArray, hvl]; exact hzz, ?_, hfr⟩
                    show (env i).d + k * s2 + ((es.drop k).take n ++ new).length * s2 ≤ (env i).z
                    rw [hlen, Nat.add_assoc, ← Nat.add_mul]; omega
                  · refine VR.slc _ _ _ _ _ _ _ (by simp [IH.push, IH.set]) (by show (upd env H.n _ H.n).on = true; rw [upd_at]) (by show (upd env H.n _ H.n).s = s2; rw [upd_at]) hroom (fun h => by cases h) (fun _ => ?_)
                    have : ((H.set i .dead).n) = H.n := rfl
                    rw [show (upd env H.n (⟨(env i).b, (env i).d + k * s2, s2, (env i).z, true⟩ : Pl)) H.n = (⟨(env i).b, (env i).d + k * s2, s2, (env i).z, true⟩ : Pl) from upd_at]
                    refine ⟨by rw [ha1]; simp, ?_⟩
                    show (env i).d + k * s2 + (0 + c) * s2 ≤ (env i).z
                    rw [Nat.zero_add, Nat.add_assoc, ← Nat.add_mul]; exact ha2
                · obtain ⟨nc, w', hrun, hsim⟩ := hgrow (by omega)
                  have hk := Sim.kill h i
                  obtain ⟨env', hs1, hv1⟩ := hsim hk.sr rfl
                  exact ⟨_, w', env', hrun, hk.trans hs1, hv1⟩
              · cases hv
        · cases hv
      · cases hv
    · cases hv
  · rename_i s' es full
    split at hv
    · rename_i hc
      obtain ⟨rfl, hsz⟩ := hc
      obtain ⟨a, c, hx', hnc, hfu, ha⟩ := hx.inv_vs
      subst hx'
      split at hv
      · rename_i hne
        cases hv
        have hx0 := hempty hne
        subst hne; subst hx0
        refine ⟨.slice (some a) es.length c, w, env, ?_, Sim.refl h, hx⟩
        have := run_append_room (P := P) (w := w) (ty := ty) hu hu2 hd2 hs h0 h1 hax hay hl hf (by simpa using hnc) (w' := w) rfl
        simpa using this
      · rename_i hne
        split at hv
        · rename_i hfull
          cases hv
          have hpos : 0 < new.length := by cases new with | nil => exact absurd rfl hne | cons _ _ => simp
          have hcn := hfu hfull
          have hold : ∃ os : List Value, VRs env H.n es.flatten os ∧ (∀ e ∈ es, e.length = s') ∧ (Builtin.firstCells s' es.length (.slice (some a) es.length c)).run P { w with drawn := w.drawn + 1 } = .ok os.toArray { w with drawn := w.drawn + 1 } := by
            rcases ha with ha | ⟨b', o, arr, ys, rfl, hF, hl', hxs', hvs⟩
            · subst ha
              refine ⟨[], .nil, by simp, ?_⟩
              show (loadCells a (0 * s')).run P _ = _
              simp [loadCells, loadCellsFrom]
            · obtain ⟨os, o1, o2, _, o4⟩ := read_list (P := P) (w := { w with drawn := w.drawn + 1 }) (H := H) (env := env) (b := b') (o := o) (vs := es.flatten) (vp_cells hd hF hxs' hvs)
              refine ⟨os, o2, hl', ?_⟩
              show (loadCells _ (es.length * s')).run P _ = _
              rw [flat_length hl'] at o4; exact o4
          obtain ⟨os, hos, hor, hosr⟩ := hold
          obtain ⟨nc, hnc', hrun⟩ := run_append_grow (P := P) (w := w) (ty := ty) hu hu2 hd2 hs hb hb0 hzr h0 h1 hax hay hl hf2 (by omega) hsz hosr
          obtain ⟨env', hs1, hv1⟩ := grow_sim (e := e) h hos hxs2 rfl rfl hor hnr hzv hzl hnc' rfl
          exact ⟨_, _, env', hrun, hs1, hv1⟩
        · cases hv
    · cases hv
  · cases hv

theorem stepE_sound (h : SR base env H w) (hρ : ∀ x, VR env H.n (ρ x) (ρ' x)) (o : Oper) {v : IV} {H' : IH} (hv : stepE P ρ H o.op = some (v, H')) :
    ∃ x w' env', ((execOp ρ' o).run P w = .ok (.value x) w' ∨ ((execOp ρ' o).run P w = .ok .skip w' ∧ x = undef)) ∧ Sim base env H w env' H' w' ∧ VR env' H'.n v x := by
  obtain ⟨dst, op, ty, pos, after, guard⟩ := o
  simp only at hv
  have mp : ∀ (t : TypeId) (mp k x : Operand), (match P.underlying t, ρ mp with
    | some (.map key _), .map i => match H.f i with
      | .map es => if keyOk (P.underlying key) (ρ k) then match ifind (ρ k) es 0 with
        | some (some (p, _)) => some (IV.dead, H.set i (.map (es.set p (ρ k, ρ x))))
        | some none => some (IV.dead, H.set i (.map (es ++ [(ρ k, ρ x)])))
        | none => none else none
      | _ => none
    | _, _ => none) = some (v, H') → ∃ w' env', (do Instr.mapUpdate t (ρ' mp) (ρ' k) (ρ' x); pure Next.skip : Sem Next).run P w = .ok .skip w' ∧ Sim base env H w env' H' w' ∧ v = .dead := by
    intro t mp k x hv
    split at hv
    · rename_i key elem i hu hm
      have hm' := hρ mp
      rw [hm] at hm'
      obtain ⟨hm1, hi, _⟩ := hm'.inv_map
      split at hv
      · rename_i es hf
        split at hv
        · rename_i hd
          have main : ∀ o, ifind (ρ k) es 0 = some o → ∃ w', (do Instr.mapUpdate t (ρ' mp) (ρ' k) (ρ' x); pure Next.skip : Sem Next).run P w = .ok .skip w' ∧ Sim base env H w env (H.set i (.map (mapPut es (ρ k) (ρ x) o))) w' := fun o ho => by
            obtain ⟨w', hrun, hsim⟩ := mapUpdate_sound h hu hi hf (hρ k) (hρ x) hd ho
            exact ⟨w', by rw [hm1]; simp only [Sem.run_bind, hrun, Result.andThen_ok, Sem.run_pure], hsim⟩
          split at hv
          · rename_i p v' ho
            cases hv
            obtain ⟨w', h1, h2⟩ := main _ ho
            exact ⟨w', env, h1, h2, rfl⟩
          · rename_i ho
            cases hv
            obtain ⟨w', h1, h2⟩ := main _ ho
            exact ⟨w', env, h1, h2, rfl⟩
          · cases hv
        · cases hv
      · cases hv
    · cases hv
  cases op <;> simp only [stepE] at hv <;> first | cases hv; done | skip
  case store t a x =>
    split at hv
    · rename_i i k j m ha hm
      split at hv
      · rename_i s es hf
        split at hv
        · rename_i e he
          split at hv
          · rename_i hc
            cases hv
            have ha' := hρ a
            rw [ha] at ha'
            obtain ⟨ha1, hi, hon⟩ := ha'.inv_ptr
            obtain ⟨s1, s2, s3⟩ := solid_ok hc.1
            have hxs := (hρ x).cells s1 s2
            obtain ⟨w', hrun, hsim⟩ := store_block (P := P) h hi hf he hxs s3 (by rw [hc.2.1]; exact hc.2.2)
            refine ⟨undef, w', env, .inr ⟨?_, rfl⟩, hsim, .dead _⟩
            have hsz : (ρ' x).cells.size = m := by have := hxs.length; simp at this; omega
            simp only [execOp, Sem.run_bind, Instr.storeAt, ha1, Instr.sureAddr, Sem.run_pure, Result.andThen_ok, storeVar, run_size hm, hsz, ne_eq, not_true_eq_false, if_false, hrun]
          · cases hv
        · cases hv
      · cases hv
    · cases hv
  case mapUpdate t m k x =>
    obtain ⟨w', env', h1, h2, rfl⟩ := mp t m k x hv
    exact ⟨undef, w', env', .inr ⟨by simpa only [execOp] using h1, rfl⟩, h2, .dead _⟩
  case insert t m k x =>
    obtain ⟨w', env', h1, h2, rfl⟩ := mp t m k x hv
    exact ⟨undef, w', env', .inr ⟨by simpa only [execOp] using h1, rfl⟩, h2, .dead _⟩
  case call c =>
    obtain ⟨callee, args, ts⟩ := c
    cases callee with
    | value f => simp at hv
    | invoke r m => simp at hv
    | builtin b =>
    cases b <;> simp only [reduceCtorEq] at hv
    split at hv
    · rename_i t t2 x y ht ht2 hx hy
      split at hv
      · rename_i e d2 hu hu2
        split at hv
        · rename_i s b z hs hb hz
          split at hv
          · rename_i hc
            split at hv
            · cases hv
            · rename_i new hn
              split at hv
              · rename_i hsol
                obtain ⟨r, w', env', hrun, hsim, hvr⟩ := append_sound (ty := ty) (args := args.map ρ') h hu hu2 hc.2.2.2 hs hb hz hc.1 hc.2.1 hc.2.2.1 ht ht2 (hρ x) (hρ y) (by simp [hx]) (by simp [hy]) hn hsol hv
                refine ⟨r, w', env', .inl ?_, hsim, hvr⟩
                simp only [execOp, resolve, Sem.run_bind, Sem.run_pure, Result.andThen_ok, invoke, builtin]
                rw [hrun]
                rfl
              · cases hv
          · cases hv
        · cases hv
      · cases hv
    · cases hv

/-- A call is entered. -/
theorem stepC_sound (hρ : ∀ x, VR env H.n (ρ x) (ρ' x)) (o : Oper) {f : FuncId} {args : List IV} (hv : stepC ρ o.op = some (f, args)) {fn : Func} (hf : P.funcs[f]? = some fn) (hb : fn.body.isSome = true) (hname : (fn.name == "runtime.NumGoroutine") = false) :
    ∃ xs : List Value, (execOp ρ' o).run P w = .ok (.enter f xs.toArray) w ∧ VRs env H.n args xs := by
  obtain ⟨dst, op, ty, pos, after, guard⟩ := o
  simp only at hv
  cases op <;> simp only [stepC] at hv <;> first | cases hv; done | skip
  case call c =>
    obtain ⟨callee, cargs, ts⟩ := c
    cases callee with
    | builtin b => simp at hv
    | invoke r m => simp at hv
    | value g =>
      simp only at hv
      split at hv
      · rename_i g' first captured hg
        cases hv
        have hg' := hρ g
        rw [hg] at hg'
        obtain ⟨xs, ys, he, hxs, hys⟩ := hg'.inv_fn
        refine ⟨xs ++ cargs.toList.map ρ' ++ ys, ?_, (hxs.append (maps_VRs hρ _)).append hys⟩
        have hnb : fn.body.isNone = false := by cases h : fn.body <;> simp [h] at hb ⊢
        simp only [execOp, resolve, he, Deferred.ofValue, Sem.run_bind, Sem.run_pure, Result.andThen_ok, invoke, callFunc]
        have hprog : (program).run P w = .ok P w := rfl
        simp only [hprog, Result.andThen_ok, hf, hname, hnb, Bool.false_eq_true, if_false, Sem.run_pure]
        congr 2
        apply Array.ext'
        simp
      · cases hv

end sound
end Go.Proofs.Ytnapimfiikgaiaa.Eng
