/- The ideal machine, part 22: arguments as values; from a call of the ideal machine to a call of the model. Nothing here is a claim of its own. -/
import Derived.Test.YtnapimfiikgaiaaEng21
import Derived.ChangeArms
import Derived.SizedLaws
namespace Go.Proofs.Ytnapimfiikgaiaa.Eng
open Go.RowKit
set_option linter.unusedSimpArgs false
set_option linter.unusedVariables false

def TVs (T : TypeId → List IV → Prop) : List TypeId → List IV → Prop
  | [], l => l = []
  | t :: ts, l => ∃ a b, l = a ++ b ∧ T t a ∧ TVs T ts b
/-- Cells of a type, as values. -/
def TV (P : Program) : Nat → TypeId → List IV → Prop
  | 0, _, _ => False
  | n + 1, t, l => match P.underlying t with
    | some .bool => ∃ b, l = [.bool b]
    | some (.int k) => ∃ z, l = [.int k z] ∧ (Lit.int k z).wf = true
    | some .string => ∃ s, l = [.str s] ∧ s.size ≤ reachBytes
    | some (.slice e) => l = [.nils] ∨ ∃ es full, l = [.vs (P.cellsOf e) es full] ∧ es.length * P.bytesOf e ≤ reachBytes ∧ ∀ x ∈ es, TV P n e x
    | some (.struct fs) => TVs (TV P n) (fs.toList.map (·.type)) l
    | some (.array k e) => TVs (TV P n) (List.replicate k e) l
    | _ => False
def tiles (P : Program) (tot : Nat) : List Field → Nat → Bool
  | [], o => o == tot
  | f :: fs, o => f.offset == o && tiles P tot fs (o + P.cellsOf f.type)
def plainT (P : Program) : Nat → TypeId → Bool
  | 0, _ => false
  | n + 1, t => match P.underlying t with
    | some .bool => true
    | some (.int _) => true
    | some .string => true
    | some (.slice e) => decide (0 < P.cellsOf e) && plainT P n e
    | some (.struct fs) => tiles P (P.cellsOf t) fs.toList 0 && fs.toList.all fun f => plainT P n f.type
    | some (.array k e) => k * P.cellsOf e == P.cellsOf t && plainT P n e
    | _ => false

/-- Where nothing is ours yet. -/
def Fz (W : World) : Env := ⟨fun _ => ⟨0, 0, 0, 0, false⟩, fun b => match W.heap[b]? with
  | some (.cells arr _ _) => some arr
  | _ => none⟩
def H0 : IH := ⟨0, fun _ => .dead, 0⟩
theorem sr0 (W : World) : SR W.heap.size (Fz W) H0 W := by
  refine ⟨Nat.le_refl _, fun i hi => absurd hi (Nat.not_lt_zero _), fun i _ hi => absurd hi (Nat.not_lt_zero _), fun b arr hb => ⟨?_, fun i hi => absurd hi (Nat.not_lt_zero _)⟩⟩
  simp only [Fz] at hb
  split at hb
  · rename_i arr' ty fr h; cases hb; exact ⟨ty, fr, h⟩
  · cases hb
theorem fz_cell {W : World} {a : Addr} {v : Value} (h : W.cell? a = some v) : a.spot = none ∧ ∃ arr, (Fz W).fz a.block = some arr ∧ arr[a.off]? = some v := by
  unfold World.cell? at h
  split at h
  · rename_i arr ty fr hb
    split at h
    · cases h
    · rename_i hs
      exact ⟨by simpa using hs, arr, by simp only [Fz, hb], h⟩
  · cases h
theorem cells_get {W : World} {a : Addr} {n : Nat} {cs : List Value} (h : W.cells? 0 a n = some cs) : cs.length = n ∧ ∀ (j : Nat) (v : Value), cs[j]? = some v → W.cell? (a.add j) = some v := by
  unfold World.cells? at h
  rw [if_pos (Nat.zero_le _)] at h
  have hl : cs.length = n := by simpa using mapM_some_length h
  refine ⟨hl, fun j v hj => ?_⟩
  have hjl := (List.getElem?_eq_some_iff.1 hj).1
  have := mapM_some_get h j j (List.getElem?_range (by omega))
  rw [this, hj]
theorem add_add (a : Addr) (m n : Nat) (h : a.spot = none) : (a.add m).add n = ⟨a.block, a.off + m + n, none⟩ := by
  cases a with
  | mk b o sp =>
    simp only at h
    subst h
    simp [addr_add]
theorem choose2 {α β : Type} (len : Nat) (R : Nat → α → β → Prop) (h : ∀ i, i < len → ∃ c l, R i c l) : ∃ (cs : List α) (ls : List β), cs.length = len ∧ ls.length = len ∧ ∀ i c l, cs[i]? = some c → ls[i]? = some l → R i c l := by
  induction len with
  | zero => exact ⟨[], [], rfl, rfl, fun i c l h => by simp at h⟩
  | succ len ih =>
    obtain ⟨cs, ls, h1, h2, h3⟩ := ih fun i hi => h i (by omega)
    obtain ⟨c, l, hr⟩ := h len (by omega)
    refine ⟨cs ++ [c], ls ++ [l], by simp [h1], by simp [h2], fun i c' l' hc hl => ?_⟩
    rcases Nat.lt_or_ge i len with hi | hi
    · rw [List.getElem?_append_left (by omega)] at hc hl
      exact h3 i c' l' hc hl
    · rw [List.getElem?_append_right (by omega)] at hc hl
      have : i = len := by
        have := (List.getElem?_eq_some_iff.1 hc).1
        simp at this; omega
      subst this
      rw [h1] at hc; rw [h2] at hl
      simp at hc hl
      subst hc; subst hl
      exact hr

section
variable {Hh : Type} {enc : TypeId × Value → Hh} {P : Program} {W : World}
theorem w_all {e : TypeId} : ∀ {ds : List (DataW Hh)} {d : DataW Hh} {m : Nat}, d ∈ ds → m ∈ d.weights P e → m ∈ DataW.weightsAll P e ds
  | d0 :: ds, d, m, hd, hm => by
    simp only [DataW.weightsAll, List.mem_append]
    cases hd with
    | head => exact .inl hm
    | tail _ hd => exact .inr (w_all hd hm)
theorem w_each : ∀ {ts : List TypeId} {ds : List (DataW Hh)} {i : Nat} {t : TypeId} {d : DataW Hh} {m : Nat}, ts[i]? = some t → ds[i]? = some d → m ∈ d.weights P t → m ∈ DataW.weightsEach P ts ds := fun ht hd hm => DataW.weights_mem_each ht hd _ hm

theorem lay (fuel : Nat) : ∀ (n : Nat) (t : TypeId) (cs : List Value) (x : DataW Hh × List MemPlace), DataW.trod enc P W 0 (fun _ => true) true fuel t cs = some x → plainT P n t = true → (∀ m ∈ x.1.weights P t, m ≤ reachBytes) → ∃ l, VRs (Fz W) 0 l cs ∧ TV P n t l := by
  induction fuel with
  | zero => intro n t cs x h; simp [DataW.trod] at h
  | succ fuel ih =>
    intro n t cs x h hp hw
    cases n with
    | zero => simp [plainT] at hp
    | succ n =>
      cases hu : P.underlying t with
      | none => simp [plainT, hu] at hp
      | some d =>
        simp only [plainT, hu] at hp
        simp only [TV, hu]
        cases d <;> simp only [Bool.false_eq_true] at hp <;> simp only []
        case bool =>
          obtain ⟨b, rfl, rfl⟩ := DataW.trod_bool hu h
          exact ⟨[.bool b], .cons _ _ _ _ (.bool b) .nil, b, rfl⟩
        case int k =>
          obtain ⟨z, rfl, rfl, hz⟩ := DataW.trod_int hu h
          exact ⟨[.int k z], .cons _ _ _ _ (.int k z) .nil, z, rfl, hz⟩
        case string =>
          obtain ⟨s, rfl, rfl, hs⟩ := DataW.trod_string hu h
          exact ⟨[.str s], .cons _ _ _ _ (.str s) .nil, s, rfl, by have := hw s.data.toList.length (by simp [DataW.weights]); simpa using this⟩
        case slice e =>
          simp only [Bool.and_eq_true, decide_eq_true_eq] at hp
          rcases DataW.trod_slice hu h with ⟨rfl, rfl⟩ | ⟨a, len, cap, elems, rest, n', hn', rfl, rfl, _, hlc, _, hel, hget, _, _⟩
          · exact ⟨[.nils], .cons _ _ _ _ .nils .nil, .inl rfl⟩
          · cases hn'
            simp only [DataW.weights, hu] at hw
            have hex : ∀ i, i < len → ∃ c l, (W.cells? 0 (a.add (i * P.cellsOf e)) (P.cellsOf e) = some c ∧ VRs (Fz W) 0 l c ∧ TV P n e l) := fun i hi => by
              have h1 := hget i hi
              have h2 : i < elems.length := by omega
              rw [List.getElem?_eq_getElem h2] at h1
              obtain ⟨c, hc, ht⟩ := Option.bind_eq_some_iff.1 h1
              obtain ⟨l, hl1, hl2⟩ := ih n e c _ ht hp.2 fun m hm => hw m (List.mem_cons_of_mem _ (List.mem_append_left _ (w_all (List.mem_map_of_mem (List.getElem_mem h2)) hm)))
              exact ⟨c, l, hc, hl1, hl2⟩
            obtain ⟨css, es, hcl, hesl, hR⟩ := choose2 len _ hex
            have hcs : ∀ i (c : List Value), css[i]? = some c → c.length = P.cellsOf e ∧ W.cells? 0 (a.add (i * P.cellsOf e)) (P.cellsOf e) = some c := fun i c hc => by
              have hi := (List.getElem?_eq_some_iff.1 hc).1
              obtain ⟨h1, h2, h3⟩ := hR i c _ hc (List.getElem?_eq_getElem (by omega : i < es.length))
              exact ⟨(cells_get h1).1, h1⟩
            have hclen : ∀ c ∈ css, c.length = P.cellsOf e := fun c hc => by
              obtain ⟨i, hi, rfl⟩ := List.mem_iff_getElem.1 hc
              exact (hcs i _ (List.getElem?_eq_getElem hi)).1
            have hes : ∀ l ∈ es, l.length = P.cellsOf e ∧ TV P n e l := fun l hl => by
              obtain ⟨i, hi, rfl⟩ := List.mem_iff_getElem.1 hl
              obtain ⟨h1, h2, h3⟩ := hR i _ _ (List.getElem?_eq_getElem (by omega : i < css.length)) (List.getElem?_eq_getElem hi)
              exact ⟨by rw [h2.length]; exact (cells_get h1).1, h3⟩
            have hflat : VRs (Fz W) 0 es.flatten css.flatten := by
              have key : ∀ (es : List (List IV)) (css : List (List Value)), es.length = css.length → (∀ (i : Nat) (c : List Value) (l : List IV), css[i]? = some c → es[i]? = some l → VRs (Fz W) 0 l c) → VRs (Fz W) 0 es.flatten css.flatten := by
                intro es
                induction es with
                | nil => intro css h _; cases css with
                  | nil => exact .nil
                  | cons => simp at h
                | cons l es ih => intro css h hv; cases css with
                  | nil => simp at h
                  | cons c css =>
                    simp only [List.flatten_cons]
                    exact (hv 0 c l rfl rfl).append (ih css (by simpa using h) fun i c l hc hl => hv (i + 1) c l (by simpa using hc) (by simpa using hl))
              exact key es css (by omega) fun i c l hc hl => (hR i c l hc hl).2.1
            refine ⟨[.vs (P.cellsOf e) es (cap == len)], .cons _ _ _ _ ?_ .nil, .inr ⟨es, cap == len, rfl, ?_, fun l hl => (hes l hl).2⟩⟩
            · by_cases h0 : len = 0
              · subst h0
                have : es = [] := List.eq_nil_of_length_eq_zero hesl
                subst this
                exact .vs0 _ _ _ _ fun h => by simpa using h
              · obtain ⟨c0, hc0⟩ : ∃ c, css[0]? = some c := ⟨_, List.getElem?_eq_getElem (by omega)⟩
                obtain ⟨hc0l, hc0c⟩ := hcs 0 c0 hc0
                obtain ⟨v0, hv0⟩ : ∃ v, c0[0]? = some v := ⟨_, List.getElem?_eq_getElem (by omega)⟩
                have hcell0 := (cells_get hc0c).2 0 v0 hv0
                have ha0 : (a.add (0 * P.cellsOf e)).add 0 = a := by simp [Addr.add]
                rw [ha0] at hcell0
                obtain ⟨hsp, arr, harr, _⟩ := fz_cell hcell0
                have hae : a = ⟨a.block, a.off, none⟩ := by cases a; simp only at hsp; subst hsp; rfl
                rw [hae]
                have := VR.vs (env := Fz W) (N := 0) (P.cellsOf e) es (cap == len) a.block a.off cap arr css.flatten harr (fun l hl => (hes l hl).1) (by omega) (fun h => by simp at h; omega) (fun q x hq => by
                  obtain ⟨k, c, j, e1, e2, e3⟩ := flat_get' hclen hq
                  obtain ⟨_, hcc⟩ := hcs k c e1
                  have := (cells_get hcc).2 j x e2
                  rw [add_add _ _ _ hsp] at this
                  obtain ⟨_, arr', harr', hx⟩ := fz_cell this
                  simp only at harr' hx
                  rw [harr] at harr'; cases harr'
                  rw [e3, ← Nat.add_assoc]; exact hx) hflat
                rw [hesl] at this
                exact this
            · have h1 := hw _ (List.mem_cons_self ..)
              have h2 : es.length * P.bytesOf e ≤ ((elems.map (·.1)).length + (rest.map (·.1)).length) * P.bytesOf e := Nat.mul_le_mul_right _ (by simp; omega)
              omega
        case struct fs =>
          obtain ⟨xs, n', hn', rfl, hcl, hxl, hget⟩ := DataW.trod_struct hu h
          cases hn'
          simp only [DataW.weights, hu] at hw
          simp only [Bool.and_eq_true, List.all_eq_true] at hp
          have key : ∀ (l : List Field) (o : Nat) (k : Nat), tiles P (P.cellsOf t) l o = true → (∀ (i : Nat) (f : Field), l[i]? = some f → fs.toList[k + i]? = some f) → o ≤ cs.length → ∃ r, VRs (Fz W) 0 r (cs.drop o) ∧ TVs (TV P n) (l.map (·.type)) r := by
            intro l
            induction l with
            | nil =>
              intro o k ht _ ho
              simp only [tiles, beq_iff_eq] at ht
              refine ⟨[], ?_, rfl⟩
              rw [List.drop_eq_nil_of_le (by omega)]; exact .nil
            | cons f l ihl =>
              intro o k ht hf ho
              simp only [tiles, Bool.and_eq_true, beq_iff_eq] at ht
              have hfk := hf 0 f rfl
              rw [Nat.add_zero] at hfk
              have hfk' : fs[k]? = some f := by simpa using hfk
              have h1 := hget k f hfk'
              have hk : k < xs.length := by have := (Array.getElem?_eq_some_iff.1 hfk').1; omega
              rw [List.getElem?_eq_getElem hk] at h1
              obtain ⟨a, ha1, ha2⟩ := ih n f.type _ _ h1 (hp.2 f (List.mem_of_getElem? hfk)) fun m hm => hw m (w_each (i := k) (t := f.type) (d := xs[k].1) (by rw [List.getElem?_map, hfk]; rfl) (by rw [List.getElem?_map, List.getElem?_eq_getElem hk]; rfl) hm)
              rw [ht.1] at ha1
              by_cases hle : o + P.cellsOf f.type ≤ cs.length
              · obtain ⟨r, hr1, hr2⟩ := ihl (o + P.cellsOf f.type) (k + 1) ht.2 (fun i f' hi => by have := hf (i + 1) f' (by simpa using hi); rwa [show k + (i + 1) = k + 1 + i by omega] at this) hle
                refine ⟨a ++ r, ?_, a, r, rfl, ha2, hr2⟩
                have : cs.drop o = (cs.drop o).take (P.cellsOf f.type) ++ cs.drop (o + P.cellsOf f.type) := by rw [← List.drop_drop, List.take_append_drop]
                rw [this]
                exact ha1.append hr1
              · exfalso
                have : ∀ (l : List Field) (o : Nat), tiles P (P.cellsOf t) l o = true → o ≤ P.cellsOf t := by
                  intro l
                  induction l with
                  | nil => intro o h; simp only [tiles, beq_iff_eq] at h; omega
                  | cons f l ih => intro o h; simp only [tiles, Bool.and_eq_true] at h; have := ih _ h.2; omega
                have := this _ _ ht.2
                omega
          obtain ⟨r, hr1, hr2⟩ := key fs.toList 0 0 hp.1 (fun i f h => by rw [Nat.zero_add]; exact h) (Nat.zero_le _)
          exact ⟨r, hr1, hr2⟩
        case array k e =>
          simp only [Bool.and_eq_true, beq_iff_eq] at hp
          unfold DataW.trod at h
          rw [hu] at h
          simp only [] at h
          split at h
          · rename_i hcl
            obtain ⟨xs, hxs, rfl⟩ := Option.map_eq_some_iff.1 h
            have hxl := mapM_some_length hxs
            simp only [List.length_range] at hxl
            simp only [DataW.weights, hu] at hw
            have key : ∀ (m i : Nat), i + m = k → ∃ r, VRs (Fz W) 0 r (cs.drop (i * P.cellsOf e)) ∧ TVs (TV P n) (List.replicate m e) r := by
              intro m
              induction m with
              | zero =>
                intro i hi
                refine ⟨[], ?_, rfl⟩
                have : i = k := by omega
                subst this
                rw [List.drop_eq_nil_of_le (by omega)]; exact .nil
              | succ m ihm =>
                intro i hi
                have h1 := mapM_some_get hxs i i (List.getElem?_range (by omega))
                have hk : i < xs.length := by omega
                rw [List.getElem?_eq_getElem hk] at h1
                obtain ⟨a, ha1, ha2⟩ := ih n e _ _ h1 hp.2 fun m hm => hw m (w_all (List.mem_map_of_mem (List.getElem_mem hk)) hm)
                obtain ⟨r, hr1, hr2⟩ := ihm (i + 1) (by omega)
                refine ⟨a ++ r, ?_, a, r, rfl, ha2, hr2⟩
                have : cs.drop (i * P.cellsOf e) = (cs.drop (i * P.cellsOf e)).take (P.cellsOf e) ++ cs.drop ((i + 1) * P.cellsOf e) := by rw [Nat.add_mul, Nat.one_mul, ← List.drop_drop, List.take_append_drop]
                rw [this]
                exact ha1.append hr1
            obtain ⟨r, hr1, hr2⟩ := key k 0 (by omega)
            rw [Nat.zero_mul] at hr1
            exact ⟨r, hr1, hr2⟩
          · cases h

/-- A call with plain arguments. -/
theorem row_calls (hm : P.follows .mixedOrders = true) {prim : CallRel} (hprim : ∀ f args H v H', prim f args H v H' → CallSound P W.heap.size f args H v H') {f : FuncId} {ivs : List IV} {xs : List Value} (hv : VRs (Fz W) 0 ivs xs) {H' : IH} (hc : ICall P prim f ivs H0 (.bool true) H') :
    Calls P f xs.toArray W fun e W' => e = .returned (.bool true) ∧ Below W.heap.size W W' := by
  refine Calls.mono ((call_sound hm hprim hc).2 (Fz W) W xs (sr0 W) hv) fun e w' => ?_
  rintro ⟨x, env', rfl, hs, hx⟩
  have := hx.inv_bool
  subst this
  exact ⟨rfl, hs.os, hs.tape, hs.output, hs.size, fun k hk => hs.frame k hk fun i hi => absurd hi (Nat.not_lt_zero _)⟩
/-- An argument, as values of a cell or as an aggregate. -/
theorem vr_of_cells {env : Env} {N : Nat} {l : List IV} {v : Value} (h : VRs env N l v.cells.toList) : (∃ cs, v = .agg cs ∧ VR env N (.agg l) v) ∨ ((∀ cs, v ≠ .agg cs) ∧ ∃ y, l = [y] ∧ VR env N y v) := by
  cases v
  case agg cs =>
    refine .inl ⟨cs, rfl, ?_⟩
    simp only [Value.cells] at h
    have := VR.agg (env := env) (N := N) l cs.toList h
    simpa using this
  all_goals
    refine .inr ⟨by simp, ?_⟩
    simp only [Value.cells] at h
    cases h with
    | cons y x vs xs hy hs => cases hs; exact ⟨y, rfl, hy⟩
end
end Go.Proofs.Ytnapimfiikgaiaa.Eng
