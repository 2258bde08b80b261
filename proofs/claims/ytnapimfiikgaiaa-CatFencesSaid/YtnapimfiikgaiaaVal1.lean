/- Values as data: lists behind slices. Nothing here is a claim of its own. -/
import Derived.Test.YtnapimfiikgaiaaEng21
namespace Go.Proofs.Ytnapimfiikgaiaa.Eng
set_option linter.unusedSimpArgs false
set_option linter.unusedVariables false

/-- A slice as data. -/
inductive VL (α : Type) | nil | mk (l : List α) (full : Bool)
variable {α : Type}
def VL.l : VL α → List α | .nil => [] | .mk l _ => l
def VL.isNil : VL α → Bool | .nil => true | .mk _ _ => false
def VL.iv (enc : α → List IV) (s : Nat) : VL α → IV | .nil => .nils | .mk l f => .vs s (l.map enc) f
def VL.cut (n : Nat) : VL α → VL α | .nil => .nil | .mk l f => .mk (l.take n) (f && decide (n = l.length))
variable {enc : α → List IV} {P : Program} {H : IH} {t e s : Nat} {x : VL α}
theorem vl_one : (x.iv enc s).one = true := by cases x <;> rfl
theorem vl_solid : (x.iv enc s).solid = true := by cases x <;> rfl
theorem vl_cells : (x.iv enc s).cells = [x.iv enc s] := by cases x <;> rfl
theorem vl_boxable : boxable (x.iv enc s) = true := by cases x <;> rfl
theorem vl_len : lenD P H (some (.slice e)) (x.iv enc s) = some x.l.length := by cases x <;> simp [VL.iv, VL.l, lenD]
theorem vl_ix {kk : IntKind} {z : Int} (hz : 0 ≤ z) (hs : tSize P e = some s) {y : α} (hy : x.l[z.toNat]? = some y) : ixD P (some (.slice e)) (x.iv enc s) (.int kk z) = some (.vp (enc y) 0) := by
  cases x with
  | nil => simp [VL.l] at hy
  | mk l f => simp only [VL.l] at hy; simp [VL.iv, ixD, hz, hs, hy]
theorem vl_eqNil : eqNil (some (.slice e)) (x.iv enc s) .nils = some x.isNil := by cases x <;> rfl
theorem vl_eqNil' : eqNil (some (.slice e)) .nils (x.iv enc s) = some x.isNil := by cases x <;> rfl
theorem vl_bI {op : BinOp} : binI P op t (x.iv enc s) .nils = binN op (eqNil (P.underlying t) (x.iv enc s) .nils) := by cases x <;> rfl
theorem vl_bI' {op : BinOp} : binI P op t .nils (x.iv enc s) = binN op (eqNil (P.underlying t) .nils (x.iv enc s)) := by cases x <;> rfl
theorem vl_src : srcElems H s (x.iv enc s) = some (x.l.map enc) := by cases x <;> simp [VL.iv, VL.l, srcElems]
/-- No block is named by an element. -/
def Pu (enc : α → List IV) : Prop := ∀ y, ∀ v ∈ enc y, ∀ m, Lt m v
theorem vl_lt {m : Nat} (h : Pu enc) : Lt m (x.iv enc s) := by
  cases x with
  | nil => exact .nils
  | mk l f =>
    refine .vs _ _ _ fun v hv => ?_
    obtain ⟨e, he, hv⟩ := List.mem_flatten.1 hv
    obtain ⟨y, _, rfl⟩ := List.mem_map.1 he
    exact h y v hv m
theorem pu_flat {m : Nat} (h : Pu enc) {l : List α} : ∀ v ∈ (l.map enc).flatten, Lt m v := fun v hv => by
  obtain ⟨e, he, hv⟩ := List.mem_flatten.1 hv
  obtain ⟨y, _, rfl⟩ := List.mem_map.1 he
  exact h y v hv m
theorem bl_map {l : List α} : bl s .nils (l.map enc) = (if l = [] then VL.nil else .mk l false : VL α).iv enc s := by
  cases l <;> simp [bl, VL.iv]
theorem VL.cut_l {n : Nat} : (x.cut n).l = x.l.take n := by cases x <;> simp [VL.cut, VL.l]
attribute [go_sem] VL.cut_l
/-- The slicing of a slice from its begin. -/
theorem vl_cut {n : Int} (h0 : 0 ≤ n) (hn : n ≤ x.l.length) : isl (x.iv enc s) none (some (.int .i64 n)) none = some ((x.cut n.toNat).iv enc s) := by
  cases x with
  | nil => simp [VL.l] at hn; have : n = 0 := by omega
           subst this; rfl
  | mk l f =>
    simp only [VL.l] at hn
    have h2 : n.toNat ≤ l.length := by omega
    have h3 : (n.toNat == l.length) = decide (n.toNat = l.length) := by by_cases h : n.toNat = l.length <;> simp [h]
    simp [VL.iv, isl, ibound, h0, hn, VL.cut, List.map_take, h2, h3]
theorem vl_sl {lo hi mx : Option IV} (hs : tSize P e = some s) : slD P (some (.slice e)) (x.iv enc s) lo hi mx = isl (x.iv enc s) lo hi mx := by
  cases x <;> simp [VL.iv, slD, hs]
theorem vl_mapId : mapId (x.iv enc s) = none := by cases x <;> rfl
theorem vl_ptrId : ptrId (x.iv enc s) = none := by cases x <;> rfl
theorem vl_slcId : slcId (x.iv enc s) = none := by cases x <;> rfl
attribute [go_sem] vl_mapId vl_ptrId vl_slcId
attribute [go_sem] vl_one vl_solid vl_cells vl_boxable vl_len vl_eqNil vl_eqNil' vl_bI vl_bI' vl_src
def encB (b : Int) : List IV := [.int .u8 b]
theorem pu_B : Pu encB := fun y v hv m => by simp [encB] at hv; subst hv; exact .int _ _
theorem ltB_ {m s : Nat} {x : VL Int} : Lt m (x.iv encB s) = True := eq_true (vl_lt pu_B)
attribute [go_sem] ltB_
/-- What is left of a slice's list. -/
theorem get_lt {l : List α} {q : Nat} (h : q < l.length) : ∃ y, l[q]? = some y := ⟨_, List.getElem?_eq_getElem h⟩
theorem take_next {l : List α} {q : Nat} {y : α} (h : l[q]? = some y) : l.take (q + 1) = l.take q ++ [y] := by
  rw [List.take_add_one, h]; rfl
/-! #### maps from whole numbers -/
def mpe (p : Int × IV) : IV × IV := (.int .i64 p.1, p.2)
def mfind (k : Int) : List (Int × IV) → Nat → Option (Nat × IV)
  | [], _ => none
  | p :: r, i => if k = p.1 then some (i, p.2) else mfind k r (i + 1)
theorem ifind_mp {k : Int} : ∀ (l : List (Int × IV)) (i : Nat), ifind (.int .i64 k) (l.map mpe) i = some (mfind k l i)
  | [], i => rfl
  | p :: r, i => by
    simp only [List.map_cons, mpe, ifind, keyEq, if_true, mfind]
    by_cases h : k = p.1
    · simp [h]
    · have : (k == p.1) = false := by simp [h]
      simp only [this, if_neg h]
      exact ifind_mp r (i + 1)
theorem mfind_none {k : Int} : ∀ {l : List (Int × IV)} {i : Nat}, (∀ p ∈ l, k ≠ p.1) → mfind k l i = none
  | [], _, _ => rfl
  | p :: r, i, h => by
    simp only [mfind]
    rw [if_neg (h p (List.mem_cons_self ..))]
    exact mfind_none fun q hq => h q (List.mem_cons_of_mem _ hq)
theorem mfind_some {k : Int} : ∀ {l : List (Int × IV)} {i : Nat}, (∃ p ∈ l, k = p.1) → ∃ j v, mfind k l i = some (i + j, v) ∧ l[j]? = some (k, v)
  | [], _, h => by obtain ⟨p, hp, _⟩ := h; cases hp
  | p :: r, i, h => by
    simp only [mfind]
    by_cases e : k = p.1
    · rw [if_pos e]; exact ⟨0, p.2, rfl, by simp [e]⟩
    · rw [if_neg e]
      obtain ⟨q, hq, hk⟩ := h
      have hq' : q ∈ r := by
        cases hq with
        | head => exact absurd hk e
        | tail _ h => exact h
      obtain ⟨j, v, h1, h2⟩ := mfind_some (i := i + 1) ⟨q, hq', hk⟩
      exact ⟨j + 1, v, by rw [h1]; congr 2; omega, by simpa using h2⟩
theorem ltb_mp {m : Nat} {l : List (Int × IV)} (h : ∀ p ∈ l, Lt m p.2) : LtB m (.map (l.map mpe)) := fun q hq => by
  obtain ⟨p, hp, rfl⟩ := List.mem_map.1 hq
  exact ⟨.int _ _, h p hp⟩
theorem ball_nil {m : Nat} : (∀ p ∈ ([] : List (Nat × IB)), LtB m p.2) = True := eq_true (fun v h => by cases h)
theorem ball_cons {m : Nat} {x : Nat × IB} {l : List (Nat × IB)} : (∀ p ∈ x :: l, LtB m p.2) = (LtB m x.2 ∧ ∀ p ∈ l, LtB m p.2) := propext List.forall_mem_cons
theorem len_mp {l : List (Int × IV)} : (l.map mpe).length = l.length := List.length_map ..
attribute [go_sem] ball_nil ball_cons len_mp
/-! Places told apart. -/
@[go_sem] theorem eq_add_2 {n a b : Nat} : (n = n + a + b) = (a + b = 0) := propext (by omega)
@[go_sem] theorem add_eq_2 {n a b : Nat} : (n + a + b = n) = (a + b = 0) := propext (by omega)
@[go_sem] theorem lt_add_2 {n a b : Nat} : (n < n + a + b) = (0 < a + b) := propext (by omega)
@[go_sem] theorem le_add_2 {n a b : Nat} : (n ≤ n + a + b) = True := eq_true (by omega)
@[go_sem] theorem add_lt_2 {n a b : Nat} : (n + a + b < n) = False := eq_false (by omega)
@[go_sem] theorem eq_add_3 {n a b c : Nat} : (n = n + a + b + c) = (a + b + c = 0) := propext (by omega)
@[go_sem] theorem add_eq_3 {n a b c : Nat} : (n + a + b + c = n) = (a + b + c = 0) := propext (by omega)
@[go_sem] theorem lt_add_3 {n a b c : Nat} : (n < n + a + b + c) = (0 < a + b + c) := propext (by omega)
@[go_sem] theorem le_add_3 {n a b c : Nat} : (n ≤ n + a + b + c) = True := eq_true (by omega)
@[go_sem] theorem add_lt_3 {n a b c : Nat} : (n + a + b + c < n) = False := eq_false (by omega)
@[go_sem] theorem eq_addl_3 {n a b c : Nat} : (n + a = n + b + c) = (a = b + c) := propext (by omega)
@[go_sem] theorem eq_addr_3 {n a b c : Nat} : (n + b + c = n + a) = (b + c = a) := propext (by omega)
@[go_sem] theorem lt_addl_3 {n a b c : Nat} : (n + a < n + b + c) = (a < b + c) := propext (by omega)
@[go_sem] theorem lt_addr_3 {n a b c : Nat} : (n + b + c < n + a) = (b + c < a) := propext (by omega)
@[go_sem] theorem eq_add_4 {n a b c d : Nat} : (n = n + a + b + c + d) = (a + b + c + d = 0) := propext (by omega)
@[go_sem] theorem add_eq_4 {n a b c d : Nat} : (n + a + b + c + d = n) = (a + b + c + d = 0) := propext (by omega)
@[go_sem] theorem lt_add_4 {n a b c d : Nat} : (n < n + a + b + c + d) = (0 < a + b + c + d) := propext (by omega)
@[go_sem] theorem le_add_4 {n a b c d : Nat} : (n ≤ n + a + b + c + d) = True := eq_true (by omega)
@[go_sem] theorem add_lt_4 {n a b c d : Nat} : (n + a + b + c + d < n) = False := eq_false (by omega)
@[go_sem] theorem eq_addl_4 {n a b c d : Nat} : (n + a = n + b + c + d) = (a = b + c + d) := propext (by omega)
@[go_sem] theorem eq_addr_4 {n a b c d : Nat} : (n + b + c + d = n + a) = (b + c + d = a) := propext (by omega)
@[go_sem] theorem lt_addl_4 {n a b c d : Nat} : (n + a < n + b + c + d) = (a < b + c + d) := propext (by omega)
@[go_sem] theorem lt_addr_4 {n a b c d : Nat} : (n + b + c + d < n + a) = (b + c + d < a) := propext (by omega)
attribute [go_sem] implies_true
/-- A place below a heap's end is none beyond it. -/
theorem plc {p n : Nat} (h : p < n) : (p < n) = True ∧ (n ≤ p) = False ∧ (p = n) = False ∧ (n = p) = False ∧ (∀ a, (p = n + a) = False) ∧ (∀ a, (n + a = p) = False) ∧ (∀ a, (n + a ≤ p) = False) ∧ (∀ a, (p < n + a) = True) ∧ (∀ a b, (p = n + a + b) = False) ∧ (∀ a b, (n + a + b ≤ p) = False) ∧ (∀ a b, (p < n + a + b) = True) ∧ (∀ a b c, (p = n + a + b + c) = False) ∧ (∀ a b c, (p < n + a + b + c) = True) := by
  refine ⟨eq_true h, ?_, ?_, ?_, fun a => ?_, fun a => ?_, fun a => ?_, fun a => ?_, fun a b => ?_, fun a b => ?_, fun a b => ?_, fun a b c => ?_, fun a b c => ?_⟩ <;> first | exact eq_false (by omega) | exact eq_true (by omega)
end Go.Proofs.Ytnapimfiikgaiaa.Eng
