/- The ideal machine, part 9: stores and maps. Nothing here is a claim of its own. -/
import Derived.Test.YtnapimfiikgaiaaEng8
namespace Go.Proofs.Ytnapimfiikgaiaa.Eng
open Go.RowKit
set_option linter.unusedSimpArgs false
set_option linter.unusedVariables false

theorem vsplice_get : ∀ (vs : List Value) (o : Nat) (l : List Value) (q : Nat), o + vs.length ≤ l.length → (vsplice l o vs)[q]? = if o ≤ q ∧ q < o + vs.length then vs[q - o]? else l[q]?
  | [], o, l, q, _ => by simp only [vsplice, List.length_nil]; rw [if_neg (by omega)]
  | v :: vs, o, l, q, h => by
    simp only [vsplice, List.length_cons] at h ⊢
    rw [vsplice_get vs (o + 1) (l.set o v) q (by simp; omega)]
    by_cases h1 : o + 1 ≤ q ∧ q < o + 1 + vs.length
    · rw [if_pos h1, if_pos (by omega), show q - o = (q - (o + 1)) + 1 by omega]; simp
    · rw [if_neg h1]
      by_cases h2 : q = o
      · subst h2; rw [if_pos (by omega), List.getElem?_set_self (by omega), Nat.sub_self]; rfl
      · rw [if_neg (by omega), List.getElem?_set_ne (fun e => h2 e.symm)]
theorem splice_get : ∀ (vs : List IV) (o : Nat) (l : List IV) (q : Nat), o + vs.length ≤ l.length → (splice l o vs)[q]? = if o ≤ q ∧ q < o + vs.length then vs[q - o]? else l[q]?
  | [], o, l, q, _ => by simp only [splice, List.length_nil]; rw [if_neg (by omega)]
  | v :: vs, o, l, q, h => by
    simp only [splice, List.length_cons] at h ⊢
    rw [splice_get vs (o + 1) (l.set o v) q (by simp; omega)]
    by_cases h1 : o + 1 ≤ q ∧ q < o + 1 + vs.length
    · rw [if_pos h1, if_pos (by omega), show q - o = (q - (o + 1)) + 1 by omega]; simp
    · rw [if_neg h1]
      by_cases h2 : q = o
      · subst h2; rw [if_pos (by omega), List.getElem?_set_self (by omega), Nat.sub_self]; rfl
      · rw [if_neg (by omega), List.getElem?_set_ne (fun e => h2 e.symm)]

def World.putRow (w : World) (b : Nat) (arr : Array Value) (ty : TypeId) (fr : Nat × Nat) : World := { w with heap := w.heap.setIfInBounds b (.cells arr ty fr) }

theorem putRow_same (w : World) {b : Nat} (arr : Array Value) (ty : TypeId) (fr : Nat × Nat) (h : b < w.heap.size) : (World.putRow w b arr ty fr).heap[b]? = some (.cells arr ty fr) := by
  simp [World.putRow, h]
theorem putRow_other (w : World) {b c : Nat} (arr : Array Value) (ty : TypeId) (fr : Nat × Nat) (h : c ≠ b) : (World.putRow w b arr ty fr).heap[c]? = w.heap[c]? := by
  simp [World.putRow, Array.getElem?_setIfInBounds, Ne.symm h]

theorem setCell_put (w : World) {b o : Nat} {arr : Array Value} {ty : TypeId} {fr : Nat × Nat} (h : w.heap[b]? = some (.cells arr ty fr)) (v : Value) :
    w.setCell ⟨b, o, none⟩ v = World.putRow w b (arr.setIfInBounds o v) ty fr := by
  unfold World.setCell World.putRow
  congr 1
  apply Array.ext_getElem?
  intro i
  rw [Array.getElem?_modify, Array.getElem?_setIfInBounds]
  by_cases e : b = i
  · subst e
    rw [if_pos rfl, if_pos rfl, if_pos (Array.getElem?_eq_some_iff.1 h).1, h]
    rfl
  · rw [if_neg e, if_neg e]
theorem putRow_put (w : World) (b : Nat) (arr arr' : Array Value) (ty : TypeId) (fr : Nat × Nat) : World.putRow (World.putRow w b arr ty fr) b arr' ty fr = World.putRow w b arr' ty fr := by
  simp [World.putRow]
theorem putRow_self (w : World) {b : Nat} {arr : Array Value} {ty : TypeId} {fr : Nat × Nat} (h : w.heap[b]? = some (.cells arr ty fr)) : World.putRow w b arr ty fr = w := by
  unfold World.putRow
  have : w.heap.setIfInBounds b (.cells arr ty fr) = w.heap := by
    apply Array.ext_getElem?
    intro i
    rw [Array.getElem?_setIfInBounds]
    by_cases e : b = i
    · subst e; rw [if_pos rfl, if_pos (Array.getElem?_eq_some_iff.1 h).1, h]
    · rw [if_neg e]
  rw [this]

section sound
variable {P : Program} {base : Nat} {env : Env} {H : IH} {ρ : Operand → IV} {ρ' : Operand → Value}

theorem stores_run {b o : Nat} {ty : TypeId} {lo hi : Nat} : ∀ (vs : List Value) (i : Nat) (w : World) (arr : Array Value), w.heap[b]? = some (.cells arr ty (lo, hi)) → o + i + vs.length ≤ arr.size →
    (∀ q, o + i ≤ q → q < o + i + vs.length → ¬ (lo ≤ q ∧ q < hi)) → (∀ v ∈ vs, v.oneCell' = true) →
    (storeCells ⟨b, o, none⟩ vs i).run P w = .ok () (World.putRow w b (vsplice arr.toList (o + i) vs).toArray ty (lo, hi))
  | [], i, w, arr, h, _, _, _ => by
    simp only [storeCells, vsplice, Array.toArray_toList, putRow_self w h]; rfl
  | v :: vs, i, w, arr, h, hl, hf, h1 => by
    simp only [List.length_cons] at hl hf
    have hcell : w.cell? ⟨b, o + i, none⟩ = some arr[o + i] := by simp [World.cell?, h, show o + i < arr.size by omega]
    have hfro : w.frozen? ⟨b, o + i, none⟩ = false := by
      have := hf (o + i) (Nat.le_refl _) (by omega)
      simp only [World.frozen?, h]
      simpa using this
    have hst : (store ((⟨b, o, none⟩ : Addr).add i) v).run P w = .ok () (World.putRow w b (arr.setIfInBounds (o + i) v) ty (lo, hi)) := by
      rw [addr_add, run_store P w _ v _ (h1 v (by simp)), hcell]
      simp [hfro, setCell_put w h]
    have hb : b < w.heap.size := (Array.getElem?_eq_some_iff.1 h).1
    have ih := stores_run (b := b) (o := o) (ty := ty) (lo := lo) (hi := hi) vs (i + 1) (World.putRow w b (arr.setIfInBounds (o + i) v) ty (lo, hi)) (arr.setIfInBounds (o + i) v) (putRow_same w _ _ _ hb) (by simp; omega)
      (fun q h2 h3 => hf q (by omega) (by omega)) (fun x hx => h1 x (by simp [hx]))
    simp only [storeCells, Sem.run_bind, hst, Result.andThen_ok, ih, putRow_put, vsplice, Array.toList_setIfInBounds, Nat.add_assoc]

/-- A store into an element of an owned row. -/
theorem store_block {w : World} (h : SR base env H w) {i k j : Nat} (hi : i < H.n) {s : Nat} {es : List (List IV)} (hf : H.f i = .cells true s es) {e : List IV} (he : es[k]? = some e) {cs : List IV} {xs : List Value} (hx : VRs env H.n cs xs)
    (hone : ∀ v ∈ cs, v.one = true) (hj : j + cs.length ≤ e.length) :
    ∃ w', (storeCells ⟨(env i).b, (env i).d + (k * (env i).s + j), none⟩ xs).run P w = .ok () w' ∧ Sim base env H w env (H.set i (.cells true s (es.set k (splice e j cs)))) w' := by
  have hb := h.blk i hi
  rw [hf] at hb
  obtain ⟨hs, ⟨hrow, hcell⟩, hbase, arr, ty, lo, hi', harr, hz, hdz, hfr⟩ := hb
  have hel : e.length = s := by rw [hrow e (List.mem_of_getElem? he), hs]
  have hkl : k < es.length := (List.getElem?_eq_some_iff.1 he).1
  have hxl : xs.length = cs.length := hx.length.symm
  have hbound : (env i).d + (k * s + j) + xs.length ≤ (env i).z := by
    have := Nat.mul_le_mul_right s (show k + 1 ≤ es.length by omega)
    rw [Nat.add_mul] at this
    rw [hs] at hdz
    omega
  have hbs : (env i).b < w.heap.size := (Array.getElem?_eq_some_iff.1 harr).1
  have hx1 : ∀ x ∈ xs, x.oneCell' = true := fun x hxm => by
    obtain ⟨q, hq, rfl⟩ := List.mem_iff_getElem.1 hxm
    obtain ⟨v, hv1, hv2⟩ := hx.get' q _ (List.getElem?_eq_getElem hq)
    exact hv2.oneCell (hone v (List.mem_of_getElem? hv1))
  have hrun := stores_run (P := P) (b := (env i).b) (o := (env i).d + (k * s + j)) (ty := ty) (lo := lo) (hi := hi') xs 0 w arr harr (by omega) (fun q h1 h2 => hfr q (by omega)) hx1
  rw [hs]
  refine ⟨_, hrun, Sim.setBlock h hi (.inl ⟨s, es, hf⟩) _ (fun b _ hne => putRow_other w _ _ _ hne) (by simp [World.putRow]) rfl rfl rfl ?_⟩
  have hnew := putRow_same w (vsplice arr.toList ((env i).d + (k * s + j) + 0) xs).toArray ty (lo, hi') hbs
  have hvl : (vsplice arr.toList ((env i).d + (k * s + j) + 0) xs).length = arr.size := by rw [vsplice_length]; simp
  refine ⟨hs, ⟨?_, ?_⟩, hbase, _, ty, lo, hi', hnew, by rw [List.size_toArray, hvl]; exact hz, by simpa using hdz, hfr⟩
  · intro e' he'
    rcases List.mem_or_eq_of_mem_set he' with h1 | h1
    · exact hrow e' h1
    · rw [h1, splice_length, hel, hs]
  · intro k' e' hk' j' v' hj'
    have hcell' : ∀ q, (World.putRow w (env i).b (vsplice arr.toList ((env i).d + (k * s + j) + 0) xs).toArray ty (lo, hi')).cell? ⟨(env i).b, q, none⟩ = if (env i).d + (k * s + j) ≤ q ∧ q < (env i).d + (k * s + j) + xs.length then xs[q - ((env i).d + (k * s + j))]? else w.cell? ⟨(env i).b, q, none⟩ := by
      intro q
      simp only [World.cell?, hnew, harr]
      simp only [Option.isSome_none, Bool.false_eq_true, if_false]
      rw [List.getElem?_toArray, vsplice_get _ _ _ _ (by simp; omega)]
      simp
    rw [hs, hcell']
    by_cases hkk : k' = k
    · subst hkk
      rw [List.getElem?_set_self hkl] at hk'
      cases hk'
      rw [splice_get _ _ _ _ (by omega)] at hj'
      by_cases hin : j ≤ j' ∧ j' < j + cs.length
      · rw [if_pos hin] at hj'
        obtain ⟨x, hx1, hx2⟩ := hx.get _ _ hj'
        refine ⟨x, ?_, hx2⟩
        rw [if_pos (by omega), show (env i).d + (k' * s + j') - ((env i).d + (k' * s + j)) = j' - j by omega]
        exact hx1
      · rw [if_neg hin] at hj'
        rw [if_neg (by omega)]
        have := hcell k' e he j' v' hj'
        rwa [hs] at this
    · rw [List.getElem?_set_ne (fun e => hkk e.symm)] at hk'
      have hjs : j' < s := by
        have h1 := (List.getElem?_eq_some_iff.1 hj').1
        have h2 := hrow e' (List.mem_of_getElem? hk')
        omega
      rw [if_neg, ← hs]
      · exact hcell k' e' hk' j' v' hj'
      · intro hin
        rcases Nat.lt_or_gt_of_ne hkk with hlt | hgt
        · have := Nat.mul_le_mul_right s (show k' + 1 ≤ k by omega)
          rw [Nat.add_mul] at this
          omega
        · have := Nat.mul_le_mul_right s (show k + 1 ≤ k' by omega)
          rw [Nat.add_mul] at this
          omega

theorem MR.set {N : Nat} {k v : IV} {x : Value} {kx : Value} (hk : VR env N k kx) (hv : VR env N v x) : ∀ {l : List (IV × IV)} {r : List MapEntry} (p : Nat) {e : MapEntry}, MR env N l r → r[p]? = some e → MR env N (l.set p (k, v)) (r.set p { e with key := kx, val := x })
  | _, _, p, e, .nil, h => by simp at h
  | _, _, 0, e, .cons _ _ _ _ _ h1 h2 hs, h => by simp at h; subst h; exact .cons _ _ _ _ _ hk hv hs
  | _, _, p + 1, e, .cons _ _ _ _ _ h1 h2 hs, h => .cons _ _ _ _ _ h1 h2 (MR.set hk hv p hs (by simpa using h))
theorem MR.snoc {N : Nat} {k v : IV} {e : MapEntry} (hk : VR env N k e.key) (hv : VR env N v e.val) : ∀ {l : List (IV × IV)} {r : List MapEntry}, MR env N l r → MR env N (l ++ [(k, v)]) (r ++ [e])
  | _, _, .nil => .cons _ _ _ _ _ hk hv .nil
  | _, _, .cons _ _ _ _ _ h1 h2 hs => .cons _ _ _ _ _ h1 h2 (MR.snoc hk hv hs)

theorem sameNow_eq {d : TypeDesc} {a b : Value} (h : Instr.sameNow d a b = some true) : a = b ∧ Instr.sameBits 10000 b a = true := by
  unfold Instr.sameNow at h
  split at h
  · split at h
    · rename_i hk; subst hk; simp at h; subst h; exact ⟨rfl, by simp [Instr.sameBits]⟩
    · cases h
  · rename_i x y
    have h' : (x == y) = true := Option.some.inj h
    have hd : (x.data == y.data) = true := h'
    have hxy : x = y := by cases x; cases y; congr 1; simpa using hd
    subst hxy
    exact ⟨rfl, h'⟩
  · simp at h; subst h; exact ⟨rfl, by simp [Instr.sameBits]⟩
  · cases h

def mapPut (es : List (IV × IV)) (k v : IV) : Option (Nat × IV) → List (IV × IV)
  | some (p, _) => es.set p (k, v)
  | none => es ++ [(k, v)]
theorem mapUpdate_sound {w : World} (h : SR base env H w) {t key elem : TypeId} (hu : P.underlying t = some (.map key elem)) {i : Nat} (hi : i < H.n) {es : List (IV × IV)} (hf : H.f i = .map es) {k v : IV} {k' v' : Value} (hk : VR env H.n k k') (hv : VR env H.n v v')
    (hd : keyOk (P.underlying key) k = true) {o : Option (Nat × IV)} (ho : ifind k es 0 = some o) :
    ∃ w', (Instr.mapUpdate t (.map (some (env i).b)) k' v').run P w = .ok () w' ∧ Sim base env H w env (H.set i (.map (mapPut es k v o))) w' := by
  have hb := h.blk i hi
  rw [hf] at hb
  obtain ⟨hbase, ents, clock, hm, hmr⟩ := hb
  have hbs : (env i).b < w.heap.size := (Array.getElem?_eq_some_iff.1 hm).1
  have hg : (getObj (env i).b).run P w = .ok (.map ents clock) w := by simp [getObj, Sem.run, hm]
  have hset : ∀ o : Obj, (setObj (env i).b o).run P w = .ok () { w with heap := w.heap.setIfInBounds (env i).b o } := fun o => by simp [setObj, Sem.run, hm]
  cases hku : P.underlying key with
  | none => rw [hku] at hd; cases k <;> simp [keyOk] at hd
  | some d =>
    rw [hku] at hd
    have hck' : (Instr.checkKey false 10000 key k').run P w = .ok () w := key_run (P := P) (w := w) hku hd hk false 9999
    have hother : ∀ (o : Obj) (b : Nat), b < w.heap.size → b ≠ (env i).b → (w.heap.setIfInBounds (env i).b o)[b]? = w.heap[b]? := fun o b _ hne => by simp [Array.getElem?_setIfInBounds, Ne.symm hne]
    rcases find_sound hd hk 0 hmr ho with ⟨rfl, h2⟩ | ⟨p, v2, x2, rfl, h2, h3, h4, h5, e, h6, h7⟩
    · refine ⟨{ w with heap := w.heap.setIfInBounds (env i).b (.map (ents.push { key := k', val := v', born := clock }) (clock + 1)) }, ?_, Sim.setBlock h hi (.inr ⟨es, hf⟩) _ (hother (.map (ents.push { key := k', val := v', born := clock }) (clock + 1))) (by simp) rfl rfl rfl ?_⟩
      · simp only [Instr.mapUpdate, Sem.run_bind, run_und hu, Result.andThen_ok, hg, hck', Instr.findKey, run_und hku, h2, Sem.run_pure, hset]
      · refine ⟨hbase, ents.push { key := k', val := v', born := clock }, clock + 1, by simp [hbs], ?_⟩
        simpa [mapPut] using MR.snoc (e := { key := k', val := v', born := clock }) hk hv hmr
    · obtain ⟨he1, he2⟩ := sameNow_eq h7
      refine ⟨{ w with heap := w.heap.setIfInBounds (env i).b (.map (ents.modify p fun e => { e with key := k', val := v' }) clock) }, ?_, Sim.setBlock h hi (.inr ⟨es, hf⟩) _ (hother (.map (ents.modify p fun e => { e with key := k', val := v' }) clock)) (by simp) rfl rfl rfl ?_⟩
      · have hp : ents[p]? = some e := by simpa using h6
        simp only [Instr.mapUpdate, Sem.run_bind, run_und hu, Result.andThen_ok, hg, hck', Instr.findKey, run_und hku, h2, Sem.run_pure, hset, hp, Option.map_some, Option.getD_some, Instr.keyThatStays, he2, if_true]
      · refine ⟨hbase, ents.modify p fun e => { e with key := k', val := v' }, clock, by simp [hbs], ?_⟩
        have hms := MR.set hk hv p hmr (e := e) (by simpa using h6)
        have : (ents.modify p fun e => { e with key := k', val := v' }).toList = ents.toList.set p { e with key := k', val := v' } := by
          apply List.ext_getElem?
          intro q
          rw [Array.getElem?_toList, Array.getElem?_modify, List.getElem?_set]
          by_cases hq : p = q
          · subst hq
            have hp : ents[p]? = some e := by simpa using h6
            rw [if_pos rfl, if_pos rfl, if_pos (by simpa using (Array.getElem?_eq_some_iff.1 hp).1), hp]; rfl
          · rw [if_neg hq, if_neg hq, Array.getElem?_toList]
        rw [this]
        exact hms

end sound
end Go.Proofs.Ytnapimfiikgaiaa.Eng
