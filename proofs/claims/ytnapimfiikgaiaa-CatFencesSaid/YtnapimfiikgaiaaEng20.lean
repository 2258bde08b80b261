/- The ideal machine, part 20: slices as wholes. Nothing here is a claim of its own. -/
import Derived.Test.YtnapimfiikgaiaaEng19
namespace Go.Proofs.Ytnapimfiikgaiaa.Eng
set_option linter.unusedSimpArgs false
set_option linter.unusedVariables false

/-- Slices. -/
inductive SL | nil | mk (i k n : Nat) (full : Bool)
def SL.iv (s : Nat) : SL → IV | .nil => .nils | .mk i k n f => .slc i k n s f
def SL.len : SL → Nat | .nil => 0 | .mk _ _ n _ => n
def SL.blk : SL → Nat | .nil => 0 | .mk i _ _ _ => i
def SL.off : SL → Nat | .nil => 0 | .mk _ k _ _ => k
def SL.isNil : SL → Bool | .nil => true | .mk _ _ _ _ => false
def SL.lt (m : Nat) : SL → Prop | .nil => True | .mk i _ _ _ => i < m
/-- What a slice of elements of s cells holds. -/
def SL.At (H : IH) (s : Nat) (es : List (List IV)) : SL → Prop
  | .nil => es = []
  | .mk i k n full => ∃ own es', H.f i = .cells own s es' ∧ k + n ≤ es'.length ∧ (es'.drop k).take n = es
/-- A slice whose block may be written (unless it is full). -/
def SL.own (H : IH) : SL → Prop
  | .nil => True
  | .mk i _ _ full => full = false → ∃ s es, H.f i = .cells true s es
def SL.free (H : IH) : SL → IH
  | .nil => H
  | .mk i _ _ full => if full then H else H.set i .dead

theorem SL.At.len {H : IH} {s : Nat} {es : List (List IV)} : ∀ {d : SL}, d.At H s es → d.len = es.length
  | .nil, h => by simp only [SL.At] at h; simp [h, SL.len]
  | .mk i k n f, ⟨own, es', h1, h2, h3⟩ => by rw [← h3]; simp [SL.len]; omega
theorem SL.At.of {H H' : IH} {s : Nat} {es : List (List IV)} : ∀ {d : SL}, d.At H s es → (d.isNil = false → H'.f d.blk = H.f d.blk) → d.At H' s es
  | .nil, h, _ => h
  | .mk i k n f, ⟨own, es', h1, h2, h3⟩, h => ⟨own, es', (h rfl).trans h1, h2, h3⟩
theorem SL.At.rd {H : IH} {s : Nat} {es : List (List IV)} {z : Nat} : ∀ {d : SL}, d.At H s es → z < d.len → Eng.rd H d.blk (d.off + z) = es[z]?
  | .nil, h, hz => by simp [SL.len] at hz
  | .mk i k n f, ⟨own, es', h1, h2, h3⟩, hz => by
    simp only [SL.len] at hz
    simp only [Eng.rd, SL.blk, SL.off, h1, ← h3]
    rw [List.getElem?_take_of_lt hz, List.getElem?_drop]
theorem sl_one {s : Nat} {d : SL} : (d.iv s).one = true := by cases d <;> rfl
theorem sl_solid {s : Nat} {d : SL} : (d.iv s).solid = true := by cases d <;> rfl
theorem sl_cells {s : Nat} {d : SL} : (d.iv s).cells = [d.iv s] := by cases d <;> rfl
theorem sl_boxable {s : Nat} {d : SL} : boxable (d.iv s) = true := by cases d <;> rfl
theorem sl_lt {s m : Nat} {d : SL} : Lt m (d.iv s) = d.lt m := by cases d <;> simp [SL.iv, SL.lt, lt_nils, lt_slc]
theorem sl_src {H : IH} {s : Nat} {es : List (List IV)} : ∀ {d : SL}, d.At H s es → srcElems H s (d.iv s) = some es
  | .nil, h => by simp only [SL.At] at h; simp [SL.iv, srcElems, h]
  | .mk i k n f, ⟨own, es', h1, h2, h3⟩ => by
    by_cases h0 : n = 0
    · subst h0; simp at h3; simp [SL.iv, srcElems, h3]
    · simp [SL.iv, srcElems, h1, h2, h3, h0]

/-! #### operations, by the type's description -/
def ixD (P : Program) : Option TypeDesc → IV → IV → Option IV
  | some (.slice e), .slc i k n s _, .int _ z => if 0 ≤ z ∧ z < n ∧ tSize P e = some s then some (.ptr i (k + z.toNat) 0) else none
  | some (.array len e), .ptr i k j, .int _ z => match tSize P e with
    | some m => if 0 ≤ z ∧ z < len then some (.ptr i k (j + z.toNat * m)) else none
    | none => none
  | some (.slice e), .vs s es _, .int _ z => if 0 ≤ z ∧ tSize P e = some s then (es[z.toNat]?).map fun e' => .vp e' 0 else none
  | some (.array len e), .vp e' j, .int _ z => match tSize P e with
    | some m => if 0 ≤ z ∧ z < len then some (.vp e' (j + z.toNat * m)) else none
    | none => none
  | _, _, _ => none
def lenD (P : Program) (H : IH) : Option TypeDesc → IV → Option Nat
  | some .string, .str s => some s.size
  | some (.array n _), _ => some n
  | some (.slice _), .slc _ _ n _ _ => some n
  | some (.slice _), .nils => some 0
  | some (.slice _), .vs _ es _ => some es.length
  | some (.map _ _), m => (mapAt H m).map List.length
  | some (.pointer a), _ => match P.underlying a with
    | some (.array n _) => some n
    | _ => none
  | _, _ => none
variable {P : Program} {H : IH} {t e s : Nat} {d : SL} {es : List (List IV)}
theorem ilen_eq {x : IV} : ilen P H t x = lenD P H (P.underlying t) x := rfl
theorem s_indexAddr {ρ : Operand → IV} {x ix : Operand} : stepR P ρ H (.indexAddr t x ix) = ixD P (P.underlying t) (ρ x) (ρ ix) := by
  simp only [stepR]
  generalize P.underlying t = u
  generalize ρ x = X
  generalize ρ ix = Y
  cases u with
  | none => rfl
  | some d => cases d <;> first | rfl | (cases X <;> first | rfl | (cases Y <;> rfl))
def slD (P : Program) : Option TypeDesc → IV → Option IV → Option IV → Option IV → Option IV
  | some (.slice e), .slc i k n s full, lo, hi, mx => if tSize P e = some s then isl (.slc i k n s full) lo hi mx else none
  | some (.slice e), .nils, lo, hi, mx => if (tSize P e).isSome then isl .nils lo hi mx else none
  | some (.slice e), .vs s es full, lo, hi, mx => if tSize P e = some s then isl (.vs s es full) lo hi mx else none
  | some .string, .str b, lo, hi, mx => isl (.str b) lo hi mx
  | _, _, _, _, _ => none
theorem s_slice {ρ : Operand → IV} {x : Operand} {lo hi mx : Option Operand} : stepR P ρ H (.slice t x lo hi mx) = slD P (P.underlying t) (ρ x) (lo.map ρ) (hi.map ρ) (mx.map ρ) := by
  simp only [stepR]
  generalize P.underlying t = u
  generalize ρ x = X
  cases u with
  | none => rfl
  | some d => cases d <;> first | rfl | (cases X <;> rfl)
theorem sl_slc_ {i k n s : Nat} {full : Bool} {lo hi mx : Option IV} : slD P (some (.slice e)) (.slc i k n s full) lo hi mx = (if tSize P e = some s then isl (.slc i k n s full) lo hi mx else none) := rfl
theorem sl_nils_ {lo hi mx : Option IV} : slD P (some (.slice e)) .nils lo hi mx = (if (tSize P e).isSome then isl .nils lo hi mx else none) := rfl
theorem sl_vs_ {s : Nat} {es : List (List IV)} {full : Bool} {lo hi mx : Option IV} : slD P (some (.slice e)) (.vs s es full) lo hi mx = (if tSize P e = some s then isl (.vs s es full) lo hi mx else none) := rfl
theorem sl_str_ {b : ByteArray} {lo hi mx : Option IV} : slD P (some .string) (.str b) lo hi mx = isl (.str b) lo hi mx := rfl
attribute [go_sem] sl_slc_ sl_nils_ sl_vs_ sl_str_ s_slice
theorem lenD_sl : lenD P H (some (.slice e)) (d.iv s) = some d.len := by cases d <;> rfl
theorem ixD_sl {k : IntKind} {z : Int} (h0 : 0 ≤ z) (h : z < d.len) (hs : tSize P e = some s) : ixD P (some (.slice e)) (d.iv s) (.int k z) = some (.ptr d.blk (d.off + z.toNat) 0) := by
  cases d with
  | nil => simp [SL.len] at h; omega
  | mk i k n f => simp only [SL.len] at h; simp [ixD, SL.iv, SL.blk, SL.off, h0, h, hs]
theorem eqNil_sl : eqNil (some (.slice e)) (d.iv s) .nils = some d.isNil := by cases d <;> rfl
theorem eqNil_sl' : eqNil (some (.slice e)) .nils (d.iv s) = some d.isNil := by cases d <;> rfl

/-- Append, by the types' descriptions. -/
def apD (P : Program) (H : IH) : Option TypeDesc → Option TypeDesc → IV → IV → Option (IV × IH)
  | some (.slice e), some d2, x, y => match tSize P e, tBytes P e, tZero P e with
        | some s, some b, some z => if z.length = s ∧ 0 < s ∧ 0 < b ∧ notInt d2 = true then
            match srcElems H s y with
            | none => none
            | some new => if solidEs new then match x with
              | .nils => if new = [] then some (.nils, H) else
                if new.length * b ≤ 2 ^ 47 then some (.slc H.n 0 new.length s false, H.push (.cells true s new)) else none
              | .slc i k n s' full => if s' = s ∧ (n + new.length) * b ≤ 2 ^ 47 then (if n = 0 ∧ full = true then (if new = [] then some (.slc i k n s full, H) else some (.slc H.n 0 new.length s false, H.push (.cells true s new))) else match H.f i with
                | .cells own _ es => if k + n ≤ es.length then
                    if new = [] then some (.slc i k n s full, H)
                    else if full then some (.slc H.n 0 (n + new.length) s false, H.push (.cells true s ((es.drop k).take n ++ new)))
                    else if own then some (.slc H.n 0 (n + new.length) s false, (H.set i .dead).push (.cells true s ((es.drop k).take n ++ new)))
                    else none
                  else none
                | _ => none) else none
              | .vs s' es full => if s' = s ∧ (es.length + new.length) * b ≤ 2 ^ 47 then (if new = [] then some (.vs s es full, H) else if full then some (.slc H.n 0 (es.length + new.length) s false, H.push (.cells true s (es ++ new))) else none) else none
              | _ => none else none
          else none
        | _, _, _ => none
  | _, _, _, _ => none
theorem s_append {ρ : Operand → IV} {x y : Operand} {t1 t2 : TypeId} : stepE P ρ H (.call ⟨.builtin .append, #[x, y], #[t1, t2]⟩) = apD P H (P.underlying t1) (P.underlying t2) (ρ x) (ρ y) := by
  simp only [stepE, show (#[x, y] : Array Operand)[0]? = some x from rfl, show (#[x, y] : Array Operand)[1]? = some y from rfl, show (#[t1, t2] : Array TypeId)[0]? = some t1 from rfl, show (#[t1, t2] : Array TypeId)[1]? = some t2 from rfl]
  generalize P.underlying t1 = u1
  generalize P.underlying t2 = u2
  generalize ρ x = X
  generalize ρ y = Y
  cases u1 with
  | none => rfl
  | some d => cases d <;> first | rfl | (cases u2 with
    | none => rfl
    | some d2 =>
      rename_i e
      simp only [apD]
      cases tSize P e with
      | none => rfl
      | some s => cases tBytes P e with
        | none => rfl
        | some b => cases tZero P e with
          | none => rfl
          | some z =>
            show (if _ then _ else _) = (if _ then _ else _)
            split
            · cases srcElems H s Y with
              | none => rfl
              | some new => cases X <;> rfl
            · rfl)
theorem apD_sl {d2 : TypeDesc} {y : IV} {b : Nat} {z : List IV} {new : List (List IV)} (hs : tSize P e = some s) (hb : tBytes P e = some b) (hz : tZero P e = some z) (h1 : z.length = s ∧ 0 < s ∧ 0 < b) (h2 : notInt d2 = true) (hy : srcElems H s y = some new) (hsol : solidEs new = true) (hne : new ≠ []) (hd : d.At H s es) (hown : d.own H) (hlen : (es.length + new.length) * b ≤ 2 ^ 47) :
    apD P H (some (.slice e)) (some d2) (d.iv s) y = some (.slc H.n 0 (es.length + new.length) s false, (d.free H).push (.cells true s (es ++ new))) := by
  simp only [apD, hs, hb, hz, h1, h2, hy, hsol, and_self, if_true]
  cases d with
  | nil =>
    simp only [SL.At] at hd
    subst hd
    simp only [SL.iv, hne, if_false, SL.free, List.nil_append, List.length_nil, Nat.zero_add] at hlen ⊢
    rw [if_pos hlen]
  | mk i k n f =>
    have hl := hd.len
    simp only [SL.len] at hl
    obtain ⟨own, es', h3, h4, h5⟩ := hd
    · subst hl
      by_cases h0 : es.length = 0 ∧ f = true
      · obtain ⟨h0, rfl⟩ := h0
        have he : es = [] := List.eq_nil_of_length_eq_zero h0
        subst he
        simp only [List.length_nil, Nat.zero_add] at hlen
        simp [SL.iv, SL.free, hlen, hne]
      simp only [SL.iv, h0, h3, h4, hne, if_true, if_false, SL.free, h5, hlen, and_self]
      cases f with
      | true => simp
      | false =>
        obtain ⟨s', es'', h6⟩ := hown rfl
        rw [h3] at h6
        cases h6
        simp
theorem SL.free_n : (d.free H).n = H.n := by cases d <;> simp [SL.free]; split <;> rfl
theorem SL.free_f {i : Nat} (h : d.isNil = false → d.blk ≠ i) : (d.free H).f i = H.f i := by
  cases d with
  | nil => rfl
  | mk j k n f =>
    have := h rfl
    simp only [SL.blk] at this
    simp only [SL.free]
    split
    · rfl
    · simp [IH.set, Ne.symm this]
theorem SL.free_lo {m : Nat} (h : d.isNil = false → m ≤ d.blk) (hl : m ≤ H.lo) : m ≤ (d.free H).lo := by
  cases d with
  | nil => exact hl
  | mk j k n f =>
    have := h rfl
    simp only [SL.blk] at this
    simp only [SL.free]
    split
    · exact hl
    · simp only [IH.set]; split <;> omega
theorem Ext.free {H H1 : IH} {d : SL} (h : Ext H H1) (hd : d.isNil = false → H.n ≤ d.blk) : Ext H (d.free H1) := by
  refine ⟨by rw [SL.free_n]; exact h.n, fun i hi => ?_, ?_⟩
  · rw [SL.free_f fun hn => by have := hd hn; omega]; exact h.f i hi
  · have := h.lo
    exact SL.free_lo (fun hn => by have := hd hn; omega) this
theorem slc_at {H : IH} {i n s : Nat} {own full : Bool} {es : List (List IV)} (h : H.f i = .cells own s es) (hn : n = es.length) : (SL.mk i 0 n full).At H s es := ⟨own, es, h, by omega, by subst hn; simp⟩
theorem bI_sl {op : BinOp} : binI P op t (d.iv s) .nils = binN op (eqNil (P.underlying t) (d.iv s) .nils) := by cases d <;> rfl
theorem bI_sl' {op : BinOp} : binI P op t .nils (d.iv s) = binN op (eqNil (P.underlying t) .nils (d.iv s)) := by cases d <;> rfl
theorem sl_mapId {s : Nat} : mapId (d.iv s) = none := by cases d <;> rfl
theorem sl_ptrId {s : Nat} : ptrId (d.iv s) = none := by cases d <;> rfl
attribute [go_sem] sl_mapId sl_ptrId
attribute [go_sem] bI_sl bI_sl'
theorem sl_nil {s : Nat} : SL.nil.iv s = .nils := rfl
theorem sl_mk {s i k n : Nat} {f : Bool} : (SL.mk i k n f).iv s = .slc i k n s f := rfl
/-- A slice made behind H. -/
structure SL.New (H H' : IH) (s : Nat) (es : List (List IV)) (d : SL) : Prop where
  at' : d.At H' s es
  own : d.own H'
  lt : d.lt H'.n
  new : d.isNil = false → H.n ≤ d.blk
theorem SL.blk_lt {m : Nat} : ∀ {d : SL}, d.lt m → d.isNil = false → d.blk < m
  | .mk _ _ _ _, h, _ => h
theorem SL.lt_mono {m m' : Nat} (h : m ≤ m') : ∀ {d : SL}, d.lt m → d.lt m'
  | .nil, _ => trivial
  | .mk _ _ _ _, h1 => Nat.lt_of_lt_of_le h1 h
theorem SL.own_of {H H' : IH} : ∀ {d : SL}, d.own H → (d.isNil = false → H'.f d.blk = H.f d.blk) → d.own H'
  | .nil, _, _ => trivial
  | .mk _ _ _ _, h, h1 => fun hf => let ⟨s, es, h2⟩ := h hf; ⟨s, es, (h1 rfl).trans h2⟩
theorem SL.New.nil {H : IH} {s : Nat} : SL.nil.New H H s [] := ⟨rfl, trivial, trivial, fun h => by cases h⟩
theorem SL.New.ext {H H1 H2 : IH} {s : Nat} {es : List (List IV)} {d : SL} (h : d.New H H1 s es) (he : H1.n ≤ H2.n) (hf : ∀ i, i < H1.n → H2.f i = H1.f i) : d.New H H2 s es :=
  ⟨h.at'.of fun hn => hf _ (SL.blk_lt h.lt hn), SL.own_of h.own fun hn => hf _ (SL.blk_lt h.lt hn), SL.lt_mono he h.lt, h.new⟩
theorem SL.New.ext' {H H1 H2 : IH} {s : Nat} {es : List (List IV)} {d : SL} (h : d.New H H1 s es) (he : Ext H1.mark H2) : d.New H H2 s es := h.ext he.n he.f
theorem SL.At.ext {H H1 : IH} {s n : Nat} {es : List (List IV)} {d : SL} (h : d.At H s es) (hl : d.lt n) (he : ∀ i, i < n → H1.f i = H.f i) : d.At H1 s es := h.of fun hn => he _ (SL.blk_lt hl hn)
theorem SL.New.cut {H H0 H1 : IH} {s : Nat} {es : List (List IV)} {d : SL} (h : d.New H H1 s es) (hn : H0.n = H.n) : d.New H0 H1 s es := ⟨h.at', h.own, h.lt, fun h1 => by have := h.new h1; omega⟩
theorem SL.New.back {H H1 G : IH} {s : Nat} {es : List (List IV)} {d : SL} (h : d.New H H1 s es) : d.New H (G.back H1) s es := h.ext (Nat.le_refl _) fun _ _ => rfl
theorem SL.New.app {H H1 : IH} {s : Nat} {es new : List (List IV)} {d : SL} (h : d.New H H1 s es) (hn : H.n ≤ H1.n) {k : Nat} (hk : k = es.length + new.length) : (SL.mk H1.n 0 k false).New H ((d.free H1).push (.cells true s (es ++ new))) s (es ++ new) := by
  have hf : ((d.free H1).push (.cells true s (es ++ new))).f H1.n = .cells true s (es ++ new) := by rw [IH.push_f, SL.free_n, if_pos rfl]
  exact ⟨slc_at hf (by simp [hk]), fun _ => ⟨_, _, hf⟩, by show H1.n < (d.free H1).n + 1; rw [SL.free_n]; omega, fun _ => hn⟩
theorem Ext.app {H H1 : IH} {s : Nat} {es : List (List IV)} {d : SL} (h : Ext H H1) (hd : d.New H H1 s es) (b : IB) : Ext H ((d.free H1).push b) := (h.free hd.new).pushed b
/-- Append to a slice that was made here. -/
theorem w_append {F : Option (IV × IH) → Prop} {H0 : IH} {d2 : TypeDesc} {y : IV} {b : Nat} {z : List IV} {new : List (List IV)} (hs : tSize P e = some s) (hb : tBytes P e = some b) (hz : tZero P e = some z) (h1 : z.length = s ∧ 0 < s ∧ 0 < b) (h2 : notInt d2 = true) (hy : srcElems H s y = some new) (hsol : solidEs new = true) (hne : new ≠ [])
    (hd : d.New H0 H s es) (hn : H0.n ≤ H.n) (hlen : (es.length + new.length) * b ≤ 2 ^ 47)
    (hF : ∀ (o : SL) H3, H3.n = H.n + 1 → (∀ i, i < H0.n → H3.f i = H.f i) → (Ext H0 H → Ext H0 H3) → o.New H0 H3 s (es ++ new) → F (some (o.iv s, H3))) : F (apD P H (some (.slice e)) (some d2) (d.iv s) y) := by
  rw [apD_sl hs hb hz h1 h2 hy hsol hne hd.at' hd.own hlen]
  refine hF (.mk H.n 0 _ false) _ (by rw [IH.push_n, SL.free_n]) (fun i hi => ?_) (fun he => he.app hd _) (hd.app hn rfl)
  rw [IH.push_f, SL.free_n, if_neg (by omega), SL.free_f fun h => by have := hd.new h; omega]
theorem apD_none {d2 : TypeDesc} {y : IV} {b : Nat} {z : List IV} (hs : tSize P e = some s) (hb : tBytes P e = some b) (hz : tZero P e = some z) (h1 : z.length = s ∧ 0 < s ∧ 0 < b) (h2 : notInt d2 = true) (hy : srcElems H s y = some []) (hd : d.At H s es) (hlen : es.length * b ≤ 2 ^ 47) :
    apD P H (some (.slice e)) (some d2) (d.iv s) y = some (d.iv s, H) := by
  simp only [apD, hs, hb, hz, h1, h2, hy, and_self, if_true, solidEs, List.all_nil, List.length_nil, Nat.add_zero]
  cases d with
  | nil => simp [SL.iv]
  | mk i k n f =>
    have hl := hd.len
    simp only [SL.len] at hl
    obtain ⟨own, es', h3, h4, h5⟩ := hd
    · subst hl
      simp only [SL.iv, hlen, and_self, if_true]
      split
      · rfl
      · simp only [h3, h4, if_true]
/-- Append of any number of elements to a slice that was made here. -/
theorem w_appends {F : Option (IV × IH) → Prop} {H0 : IH} {d2 : TypeDesc} {y : IV} {b : Nat} {z : List IV} {new : List (List IV)} (hs : tSize P e = some s) (hb : tBytes P e = some b) (hz : tZero P e = some z) (h1 : z.length = s ∧ 0 < s ∧ 0 < b) (h2 : notInt d2 = true) (hy : srcElems H s y = some new) (hsol : solidEs new = true)
    (hd : d.New H0 H s es) (hn : H0.n ≤ H.n) (hlen : (es.length + new.length) * b ≤ 2 ^ 47)
    (hF : ∀ (o : SL) H3, H.n ≤ H3.n → (∀ i, i < H0.n → H3.f i = H.f i) → (Ext H0 H → Ext H0 H3) → o.New H0 H3 s (es ++ new) → F (some (o.iv s, H3))) : F (apD P H (some (.slice e)) (some d2) (d.iv s) y) := by
  by_cases hne : new = []
  · subst hne
    rw [apD_none hs hb hz h1 h2 hy hd.at' (by simpa using hlen)]
    exact hF d H (Nat.le_refl _) (fun _ _ => rfl) id (by rw [List.append_nil]; exact hd)
  · exact w_append hs hb hz h1 h2 hy hsol hne hd hn hlen fun o H3 h3 h4 h5 h6 => hF o H3 (by omega) h4 h5 h6
theorem lenD_str {b : ByteArray} : lenD P H (some .string) (.str b) = some b.size := rfl
theorem lenD_arr {n : Nat} {x : IV} : lenD P H (some (.array n e)) x = some n := by cases x <;> rfl
theorem lenD_slc {i k n : Nat} {f : Bool} : lenD P H (some (.slice e)) (.slc i k n s f) = some n := rfl
theorem lenD_nils : lenD P H (some (.slice e)) .nils = some 0 := rfl
theorem lenD_map {a b : TypeId} {m : IV} : lenD P H (some (.map a b)) m = (mapAt H m).map List.length := by cases m <;> rfl
theorem ixD_slc {i k n : Nat} {f : Bool} {kk : IntKind} {z : Int} : ixD P (some (.slice e)) (.slc i k n s f) (.int kk z) = if 0 ≤ z ∧ z < n ∧ tSize P e = some s then some (.ptr i (k + z.toNat) 0) else none := rfl
theorem ixD_arr {len : Nat} {i k j : Nat} {kk : IntKind} {z : Int} : ixD P (some (.array len e)) (.ptr i k j) (.int kk z) = match tSize P e with
    | some m => if 0 ≤ z ∧ z < len then some (.ptr i k (j + z.toNat * m)) else none
    | none => none := rfl
theorem lenD_vs {l : List (List IV)} {f : Bool} : lenD P H (some (.slice e)) (.vs s l f) = some l.length := rfl
theorem ixD_vs {l : List (List IV)} {f : Bool} {kk : IntKind} {z : Int} : ixD P (some (.slice e)) (.vs s l f) (.int kk z) = if 0 ≤ z ∧ tSize P e = some s then (l[z.toNat]?).map fun e' => .vp e' 0 else none := rfl
theorem ixD_vpa {len : Nat} {l : List IV} {j : Nat} {kk : IntKind} {z : Int} : ixD P (some (.array len e)) (.vp l j) (.int kk z) = match tSize P e with
    | some m => if 0 ≤ z ∧ z < len then some (.vp l (j + z.toNat * m)) else none
    | none => none := rfl
attribute [go_sem] lenD_vs ixD_vs ixD_vpa KE
attribute [go_sem] lenD_str lenD_arr lenD_slc lenD_nils lenD_map ixD_slc ixD_arr
attribute [go_sem] sl_nil sl_mk sl_one sl_solid sl_cells sl_boxable sl_lt ilen_eq s_indexAddr lenD_sl s_append eqNil_sl eqNil_sl' SL.free_n
end Go.Proofs.Ytnapimfiikgaiaa.Eng
