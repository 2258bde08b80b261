/- CatFences, plainly. Nothing here is a claim of its own. -/
import Derived.Test.YtnapimfiikgaiaaLa2
import Derived.Test.YtnapimfiikgaiaaCa15
namespace Go.Proofs.Ytnapimfiikgaiaa.Eng
set_option linter.unusedSimpArgs false
set_option linter.unusedVariables false

def up (k j : Nat) : Nat := if j < k then j else j + 1
theorem up_ne {k j : Nat} : up k j ≠ k := by unfold up; split <;> omega
theorem up_lt {k j n : Nat} (hj : j < n - 1) (hk : k < n) : up k j < n := by unfold up; split <;> omega
theorem up_mono {k i j : Nat} : (i < j) = (up k i < up k j) := propext (by unfold up; split <;> split <;> omega)
theorem up_inj {k i j : Nat} : (up k i = up k j) = (i = j) := propext (by unfold up; split <;> split <;> omega)
theorem less_up {k j : Nat} (hj : j < 900) (hk : k < 900) : lessI (up k j : Nat) k = (j : Int) := by
  by_cases h : j < k
  · have : up k j = j := if_pos h
    rw [this, lessI, if_neg (by omega)]
  · have : up k j = j + 1 := if_neg h
    rw [this, lessI, if_pos (by omega), wrap_small (by omega) (by omega)]
    omega
theorem less_neg {k : Nat} : lessI (-1) k = -1 := by unfold lessI; rw [if_neg (by omega)]
theorem two_if {c : Prop} [Decidable c] {a a' : Int} {k : Nat} (h1 : a = lessI a' k) (h2 : a' ≠ k) : (if c then a else -1) = lessI (if c then a' else -1) k ∧ (if c then a' else -1) ≠ (k : Int) := by
  split
  · exact ⟨h1, h2⟩
  · exact ⟨less_neg.symm, by omega⟩
theorem less_eq {k j : Nat} {w : Int} (hw : -1 ≤ w) (hw2 : w < 900) (hwk : w ≠ k) (hj : j < 900) (hk : k < 900) : (lessI w k = (j : Int)) = (w = (up k j : Nat)) := by
  apply propext
  unfold lessI up
  split
  · rw [wrap_small (by omega) (by omega)]
    split <;> omega
  · split <;> omega
theorem less_rng {k n : Nat} {w : Int} (h0 : 0 ≤ w) (h1 : w < n) (hwk : w ≠ k) (hk : k < n) (hn : n < 900) : 0 ≤ lessI w k ∧ lessI w k < (n - 1 : Nat) ∧ (up k (lessI w k).toNat : Int) = w := by
  unfold lessI up
  split
  · rw [wrap_small (by omega) (by omega)]
    split <;> omega
  · split <;> omega
theorem wo_get {α : Type} {k j : Nat} {l : List α} : (wo k l)[j]? = l[up k j]? := by
  unfold wo up
  rw [List.getElem?_eraseIdx]
  split <;> rfl
theorem wo_length {α : Type} {k : Nat} {l : List α} (hk : k < l.length) : (wo k l).length = l.length - 1 := by
  unfold wo; rw [List.length_eraseIdx, if_pos hk]
/-- One execution without the fence at k. -/
structure Wf (y z : Ex) (k : Nat) : Prop where
  may : mayB y = true
  hk : k < y.l.l.length
  f3 : (y.e k).k = 3
  l : z.l.l = wo k y.l.l
  rf : z.rf.l = (wo k y.rf.l).map fun i => lessI i k
  co : z.co.l = y.co.l.map fun i => lessI i k
  x : z.x.l = (y.x.l.filter (keepP k)).map (lessP k)
section
variable {y z : Ex} {k : Nat} (h : Wf y z k)
include h
theorem Wf.n9 : y.l.l.length ≤ 400 := may_le h.may
theorem Wf.zl : z.l.l.length = y.l.l.length - 1 := by rw [h.l, wo_length h.hk]
theorem Wf.get (j : Nat) : z.l.l[j]? = y.l.l[up k j]? := by rw [h.l, wo_get]
theorem Wf.e (j : Nat) : z.e j = y.e (up k j) := by unfold Ex.e; rw [h.get]
theorem Wf.rl : y.rf.l.length = y.l.l.length := may_rf h.may
theorem Wf.wr : wrB y.l.l y.co.l = true := by have := h.may; simp [mayB] at this; simp [this]
theorem Wf.rd : rdB y.l.l y.rf.l = true := by have := h.may; simp [mayB] at this; simp [this]
theorem Wf.al : alikeB y.l.l = true := by have := h.may; simp [mayB] at this; simp [this]
theorem Wf.ev : evs y.l.l = true := by have := h.may; simp [mayB] at this; simp [this]
theorem Wf.ex : extB y.l.l.length y.x.l = true := by have := h.may; simp [mayB] at this; simp [this]
theorem Wf.ek : ∃ e, y.l.l[k]? = some e ∧ e.k = 3 := by
  obtain ⟨e, he⟩ := get_lt h.hk
  refine ⟨e, he, ?_⟩
  have := h.f3
  simpa [Ex.e, he] using this
/-- A write's number. -/
theorem Wf.coc {q : Nat} {c : Int} (hq : y.co.l[q]? = some c) : okc y.l.l c = true ∧ c ∉ y.co.l.take q := by
  have := h.wr
  simp only [wrB, Bool.and_eq_true, allR_iff] at this
  have := this.1 q (List.getElem?_eq_some_iff.1 hq).1
  simpa [coAt, hq] using this
theorem Wf.okk {c : Int} (hc : okc y.l.l c = true) : 0 ≤ c ∧ c < y.l.l.length ∧ c ≠ k := by
  simp only [okc, Bool.and_eq_true, decide_eq_true_eq] at hc
  refine ⟨hc.1.1, hc.1.2, fun e => ?_⟩
  obtain ⟨e', he, h3⟩ := h.ek
  have h4 := hc.2
  rw [e, Int.toNat_natCast, he] at h4
  simp [h3] at h4
theorem Wf.mem {c : Int} (hc : c ∈ y.co.l) : okc y.l.l c = true := by
  obtain ⟨q, hq, e⟩ := List.mem_iff_getElem.1 hc
  exact (h.coc (q := q) (by rw [List.getElem?_eq_getElem hq, e])).1
theorem Wf.rr {j : Nat} {w : Int} (hj : y.rf.l[j]? = some w) : w = -1 ∨ (0 ≤ w ∧ w < y.l.l.length ∧ w ≠ k ∧ ∃ e f, y.l.l[j]? = some e ∧ y.l.l[w.toNat]? = some f ∧ e.k = 1 ∧ f.k = 2 ∧ e.pla f = true) := by
  have := h.rd
  simp only [rdB, Bool.and_eq_true, allR_iff] at this
  have := this.2 j (List.getElem?_eq_some_iff.1 hj).1
  simp only [rdAt, hj, Bool.or_eq_true, Bool.and_eq_true, decide_eq_true_eq] at this
  rcases this with h1 | ⟨⟨h1, h2⟩, h3⟩
  · exact .inl h1
  · right
    cases he : y.l.l[j]? with
    | none => rw [he] at h3; cases h3
    | some e =>
      cases hf : y.l.l[w.toNat]? with
      | none => rw [he, hf] at h3; cases h3
      | some f =>
        rw [he, hf] at h3
        simp only [Bool.and_eq_true, decide_eq_true_eq] at h3
        refine ⟨h1, h2, fun e' => ?_, e, f, rfl, rfl, h3.1.1, h3.1.2, h3.2⟩
        obtain ⟨g, hg, h4⟩ := h.ek
        rw [e', Int.toNat_natCast, hg] at hf
        cases hf
        omega
theorem Wf.yr (j : Nat) (hj : j < y.l.l.length) : y.rf.l[j]? = some (y.r j) := by
  have : j < y.rf.l.length := by rw [h.rl]; exact hj
  simp [Ex.r, this]
theorem Wf.r (j : Nat) (hj : j < z.l.l.length) : z.r j = lessI (y.r (up k j)) k := by
  have h1 := h.zl
  have h2 := h.hk
  have h3 : up k j < y.l.l.length := up_lt (by omega) h.hk
  simp only [Ex.r, h.rf, List.getElem?_map, wo_get]
  rw [h.yr _ h3]
  rfl
theorem Wf.r_rng (j : Nat) (hj : j < z.l.l.length) : -1 ≤ y.r (up k j) ∧ y.r (up k j) < 900 ∧ y.r (up k j) ≠ k ∧ y.r (up k j) < y.l.l.length := by
  have h1 := h.zl
  have h2 := h.hk
  have h9 := h.n9
  have h3 : up k j < y.l.l.length := up_lt (by omega) h.hk
  rcases h.rr (h.yr _ h3) with h4 | ⟨h4, h5, h6, _⟩
  · rw [h4]; omega
  · omega
omit h in
theorem mfind_lk {co : List Int} {f : Int → Int} {a b : Int} (hf : ∀ c ∈ co, (b = f c ↔ a = c)) : ∀ (s i : Nat), mfind b ((co.map f).zipIdx s |>.map fun p => (p.1, IV.int .i64 (p.2 : Nat))) i = mfind a (co.zipIdx s |>.map fun p => (p.1, IV.int .i64 (p.2 : Nat))) i := by
  induction co with
  | nil => intro s i; rfl
  | cons c co ih =>
    intro s i
    simp only [List.map_cons, List.zipIdx_cons, mfind]
    have h1 := hf c (List.mem_cons_self ..)
    by_cases e : a = c
    · rw [if_pos e, if_pos (h1.2 e)]
    · rw [if_neg e, if_neg (fun e' => e (h1.1 e'))]
      exact ih (fun c hc => hf c (List.mem_cons_of_mem _ hc)) _ _
theorem Wf.at' {a : Int} {b : Int} (hb : lessI a k = b) (h0 : 0 ≤ a) (h1 : a < y.l.l.length) (h2 : a ≠ k) : atV z.co.l b = atV y.co.l a := by
  have h9 := h.n9
  have hk := h.hk
  have key := mfind_lk (co := y.co.l) (f := fun i => lessI i k) (a := a) (b := b) (fun c hc => by
    obtain ⟨g0, g1, g2⟩ := h.okk (h.mem hc)
    have e1 := (less_rng g0 g1 g2 hk (by omega)).2.2
    have e2 := (less_rng h0 h1 h2 hk (by omega)).2.2
    rw [hb] at e2
    constructor
    · intro e; rw [← e1, ← e2, e]
    · intro e; rw [← hb, e]) 0 0
  simp only [atV, h.co, atE]
  rw [key]
theorem Wf.lj {j : Nat} (hj : j < z.l.l.length) : up k j < y.l.l.length ∧ j < 900 ∧ k < 900 := by
  have h1 := h.zl
  have h2 := h.hk
  have h9 := h.n9
  exact ⟨up_lt (by omega) h.hk, by omega, by omega⟩
theorem Wf.atU {j : Nat} (hj : j < z.l.l.length) : atV z.co.l j = atV y.co.l (up k j : Nat) := by
  obtain ⟨g1, g2, g3⟩ := h.lj hj
  exact h.at' (less_up g2 g3) (by omega) (by omega) (fun e => up_ne (k := k) (j := j) (by omega))
theorem Wf.rf' (i j : Nat) (hi : i < z.l.l.length) (hj : j < z.l.l.length) : z.rf' i j = y.rf' (up k i) (up k j) := by
  obtain ⟨g1, g2, g3⟩ := h.lj hi
  obtain ⟨r1, r2, r3, r4⟩ := h.r_rng j hj
  simp only [Ex.rf', h.e, h.r j hj]
  congr 1
  rw [decide_eq_decide, less_eq r1 r2 r3 g2 g3]
theorem Wf.co' (i j : Nat) (hi : i < z.l.l.length) (hj : j < z.l.l.length) : z.co' i j = y.co' (up k i) (up k j) := by
  simp only [Ex.co', h.e, h.atU hi, h.atU hj]
theorem Wf.fr (i j : Nat) (hi : i < z.l.l.length) (hj : j < z.l.l.length) : z.fr i j = y.fr (up k i) (up k j) := by
  obtain ⟨g1, g2, g3⟩ := h.lj hi
  obtain ⟨r1, r2, r3, r4⟩ := h.r_rng i hi
  simp only [Ex.fr, h.e, h.atU hj, h.r i hi]
  congr 1
  by_cases hn : y.r (up k i) < 0
  · have : y.r (up k i) = -1 := by omega
    rw [this, less_neg]; simp
  · have h1 := less_rng (k := k) (n := y.l.l.length) (w := y.r (up k i)) (by omega) r4 r3 h.hk (by have := h.n9; omega)
    rw [h.at' rfl (by omega) r4 r3]
    have h2 : ¬ lessI (y.r (up k i)) k < 0 := by omega
    simp only [hn, h2]
theorem Wf.inside (i j : Nat) (hi : i < z.l.l.length) (hj : j < z.l.l.length) : z.inside i j = y.inside (up k i) (up k j) := by
  simp only [Ex.inside, h.e, h.rf' i j hi hj, h.co' i j hi hj, h.fr i j hi hj, up_mono (k := k) (i := i) (j := j)]
theorem Wf.last : ∀ (j : Nat) (t : Int), j < z.l.l.length → lastIx z.l.l j t = lessI (lastIx y.l.l (up k j) t) k ∧ lastIx y.l.l (up k j) t ≠ k
  | 0, t, hj => by
    have hk := h.hk
    by_cases h0 : 0 < k
    · have : up k 0 = 0 := by unfold up; rw [if_pos h0]
      rw [this]; simp only [lastIx]; exact ⟨less_neg.symm, by omega⟩
    · have hk0 : k = 0 := by omega
      have : up k 0 = 1 := by unfold up; rw [if_neg h0]
      rw [this]
      obtain ⟨e, he, h3⟩ := h.ek
      rw [hk0] at he
      have hacc : e.acc = false := by simp [Ev.acc, h3]
      simp only [lastIx, he, hacc, Bool.and_false, Bool.false_and, Bool.false_eq_true, if_false]
      exact ⟨less_neg.symm, by omega⟩
  | j + 1, t, hj => by
    have ih := Wf.last j t (by omega)
    obtain ⟨g1, g2, g3⟩ := h.lj (show j < z.l.l.length by omega)
    have hg := h.get j
    -- the step that both take
    have stepy : lastIx y.l.l (up k j + 1) t ≠ k ∧ lastIx z.l.l (j + 1) t = lessI (lastIx y.l.l (up k j + 1) t) k := by
      simp only [lastIx, hg]
      cases he : y.l.l[up k j]? with
      | none => exact ⟨ih.2, ih.1⟩
      | some e =>
        simp only []
        split
        · exact ⟨fun e => up_ne (k := k) (j := j) (by omega), (less_up g2 g3).symm⟩
        · exact ⟨ih.2, ih.1⟩
    by_cases hjk : j + 1 = k
    · have h1 : up k j = j := by unfold up; rw [if_pos (by omega)]
      have h2 : up k (j + 1) = k + 1 := by unfold up; rw [if_neg (by omega)]; omega
      obtain ⟨e, he, h3⟩ := h.ek
      have hacc : e.acc = false := by simp [Ev.acc, h3]
      have h4 : lastIx y.l.l (k + 1) t = lastIx y.l.l k t := by
        simp only [lastIx, he, hacc, Bool.and_false, Bool.false_and, Bool.false_eq_true, if_false]
      rw [h1] at stepy
      rw [h2, h4, show lastIx y.l.l k t = lastIx y.l.l (j + 1) t by rw [hjk]]
      exact ⟨stepy.2, stepy.1⟩
    · have h2 : up k (j + 1) = up k j + 1 := by unfold up; split <;> split <;> omega
      rw [h2]
      exact ⟨stepy.2, stepy.1⟩
theorem Wf.pr (j : Nat) (hj : j < z.l.l.length) : z.pr j = lessI (y.pr (up k j)) k ∧ y.pr (up k j) ≠ k := by
  obtain ⟨g1, g2, g3⟩ := h.lj hj
  obtain ⟨e, he⟩ := get_lt g1
  have hz : z.l.l[j]? = some e := by rw [h.get, he]
  obtain ⟨l1, l2⟩ := h.last j e.t hj
  have hl3 := lastIx_lt y.l.l (up k j) e.t
  have hl0 : (0 ≤ lastIx z.l.l j e.t) ↔ (0 ≤ lastIx y.l.l (up k j) e.t) := by
    rw [l1]
    constructor
    · intro h0
      apply Classical.byContradiction
      intro hn
      rw [show lastIx y.l.l (up k j) e.t = -1 by omega, less_neg] at h0
      omega
    · intro h0
      exact (less_rng h0 (by omega) l2 h.hk (by have := h.n9; omega)).1
  simp only [Ex.pr, pairS, hz, he]
  by_cases h0 : 0 ≤ lastIx y.l.l (up k j) e.t
  · have h1 := less_rng h0 (by omega) l2 h.hk (by have := h.n9; omega)
    have hm : z.l.l[(lastIx z.l.l j e.t).toNat]? = y.l.l[(lastIx y.l.l (up k j) e.t).toNat]? := by
      rw [h.get, l1]
      congr 1
      omega
    rw [hm]
    simp only [hl0.2 h0, h0]
    exact two_if l1 l2
  · have h0' : ¬ 0 ≤ lastIx z.l.l j e.t := fun hh => h0 (hl0.1 hh)
    simp only [h0, h0', decide_false, Bool.and_false, Bool.false_and, Bool.false_eq_true, if_false]
    exact ⟨less_neg.symm, by omega⟩
theorem Wf.pr_rng (j : Nat) (hj : j < z.l.l.length) : -1 ≤ y.pr (up k j) ∧ y.pr (up k j) < y.l.l.length := by
  obtain ⟨g1, g2, g3⟩ := h.lj hj
  have h1 := lastIx_lt y.l.l (up k j) (y.e (up k j)).t
  simp only [Ex.pr, pairS]
  split
  · rename_i e he
    have : y.e (up k j) = e := by simp [Ex.e, he]
    rw [this] at h1
    split <;> omega
  · omega
theorem Wf.evs' : evs z.l.l = true := by
  refine allR_iff.2 fun i hi => ?_
  rw [h.get]
  exact allR_iff.1 h.ev (up k i) (h.lj hi).1
theorem Wf.alike' : alikeB z.l.l = true := by
  refine allR_iff.2 fun i hi => allR_iff.2 fun j hj => ?_
  have := allR_iff.1 (allR_iff.1 h.al (up k i) (h.lj hi).1) (up k j) (up_mono (k := k) ▸ hj)
  simpa only [two, h.get] using this
theorem Wf.okc' {c : Int} (hc : okc y.l.l c = true) : okc z.l.l (lessI c k) = true := by
  obtain ⟨g0, g1, g2⟩ := h.okk hc
  have h1 := less_rng g0 g1 g2 h.hk (by have := h.n9; omega)
  have h2 := h.zl
  simp only [okc, Bool.and_eq_true, decide_eq_true_eq] at hc ⊢
  refine ⟨⟨h1.1, by omega⟩, ?_⟩
  rw [h.get, show up k (lessI c k).toNat = c.toNat by omega]
  exact hc.2
theorem Wf.wr' : wrB z.l.l z.co.l = true := by
  have hw := h.wr
  simp only [wrB, Bool.and_eq_true, decide_eq_true_eq] at hw ⊢
  refine ⟨allR_iff.2 fun q hq => ?_, ?_⟩
  · rw [h.co, List.length_map] at hq
    obtain ⟨c, hc⟩ := get_lt hq
    obtain ⟨h1, h2⟩ := h.coc hc
    simp only [coAt, h.co, List.getElem?_map, hc, Option.map_some, Bool.and_eq_true, Bool.not_eq_true']
    refine ⟨h.okc' h1, ?_⟩
    rw [← List.map_take]
    cases hh : ((y.co.l.take q).map fun i => lessI i k).contains (lessI c k) with
    | false => rfl
    | true =>
      exfalso
      obtain ⟨c', hc', e⟩ := List.mem_map.1 (List.contains_iff_mem.1 hh)
      obtain ⟨a0, a1, a2⟩ := h.okk h1
      obtain ⟨b0, b1, b2⟩ := h.okk (h.mem (List.mem_of_mem_take hc'))
      have e1 := (less_rng a0 a1 a2 h.hk (by have := h.n9; omega)).2.2
      have e2 := (less_rng b0 b1 b2 h.hk (by have := h.n9; omega)).2.2
      rw [e] at e2
      exact h2 (by rw [show c = c' by omega]; exact hc')
  · have hcount : cntW z.l.l = cntW y.l.l := by
      obtain ⟨e, he, h3⟩ := h.ek
      rw [h.l]
      simp only [cntW, wo]
      rw [List.eraseIdx_eq_take_drop_succ]
      have hsplit : y.l.l = y.l.l.take k ++ e :: y.l.l.drop (k + 1) := by
        have hd := List.drop_eq_getElem_cons h.hk
        have : y.l.l[k]'h.hk = e := by
          have := List.getElem?_eq_getElem h.hk
          rw [he] at this; cases this; rfl
        rw [this] at hd
        rw [← hd, List.take_append_drop]
      conv => rhs; rw [hsplit]
      rw [List.countP_append, List.countP_append, List.countP_cons]
      have : decide (e.k = 2) = false := by simp [h3]
      simp [this]
    rw [hcount, h.co, List.length_map]
    exact hw.2
theorem Wf.ext' : extB z.l.l.length z.x.l = true := by
  refine allR_iff.2 fun i hi => ?_
  obtain ⟨p', hp'⟩ := get_lt hi
  rw [hp']
  have hm : p' ∈ z.x.l := List.mem_of_getElem? hp'
  rw [h.x] at hm
  obtain ⟨p, hp, rfl⟩ := List.mem_map.1 hm
  obtain ⟨hp1, hp2⟩ := List.mem_filter.1 hp
  obtain ⟨u, hu, hue⟩ := List.mem_iff_getElem.1 hp1
  have hx := allR_iff.1 h.ex u hu
  rw [List.getElem?_eq_getElem hu, hue] at hx
  simp only [Bool.and_eq_true, decide_eq_true_eq] at hx
  simp only [keepP, Bool.and_eq_true, Bool.not_eq_true', decide_eq_false_iff_not] at hp2
  have h9 := h.n9
  have e1 := less_rng hx.1.1 hx.1.2 hp2.1 h.hk (by omega)
  have e2 := less_rng hx.2.1 hx.2.2 hp2.2 h.hk (by omega)
  have h2 := h.zl
  simp only [lessP, Bool.and_eq_true]
  exact ⟨decide_eq_true ⟨e1.1, by omega⟩, decide_eq_true ⟨e2.1, by omega⟩⟩
theorem Wf.rd' : rdB z.l.l z.rf.l = true := by
  have hk : k < y.rf.l.length := by rw [h.rl]; exact h.hk
  have hl : z.rf.l.length = z.l.l.length := by rw [h.rf, List.length_map, wo_length hk, h.zl, h.rl]
  simp only [rdB, Bool.and_eq_true, decide_eq_true_eq]
  refine ⟨hl, allR_iff.2 fun i hi => ?_⟩
  have hi' : i < z.l.l.length := by omega
  obtain ⟨g1, g2, g3⟩ := h.lj hi'
  have hy := h.yr _ g1
  simp only [rdAt, h.rf, List.getElem?_map, wo_get, hy, Option.map_some]
  rcases h.rr hy with h1 | ⟨h1, h2, h3, e, f, he, hf, k1, k2, hpl⟩
  · rw [h1, less_neg]; simp
  · have e1 := less_rng h1 h2 h3 h.hk (by have := h.n9; omega)
    have h5 := h.zl
    have : z.l.l[(lessI (y.r (up k i)) k).toNat]? = some f := by
      rw [h.get, show up k (lessI (y.r (up k i)) k).toNat = (y.r (up k i)).toNat by omega, hf]
    rw [h.get, he, this]
    have a1 : 0 ≤ lessI (y.r (up k i)) k := e1.1
    have a2 : lessI (y.r (up k i)) k < z.l.l.length := by omega
    simp [a1, a2, k1, k2, hpl]
theorem Wf.may' : mayB z = true := by
  have h1 := h.zl
  have h2 := h.n9
  simp only [mayB, h.evs', h.ext', h.wr', h.rd', h.alike', Bool.and_true, decide_eq_true_eq]
  omega
theorem Wf.int' (hi : intS y = true) : intS z = true := by
  simp only [intS, Bool.and_eq_true] at hi ⊢
  refine ⟨h.may', ?_⟩
  obtain ⟨o, ho⟩ := Option.isSome_iff_exists.1 hi.2
  refine rank_srt (fun i => o.idxOf (up k i)) fun i j h1 h2 hr => ?_
  rw [h.inside i j h1 h2] at hr
  exact srt_rank ho _ _ (h.lj h1).1 (h.lj h2).1 hr
theorem Wf.ato' (ha : atoS y = true) : atoS z = true := by
  simp only [atoS, Bool.and_eq_true] at ha ⊢
  refine ⟨h.may', allR_iff.2 fun i hi => ?_⟩
  obtain ⟨g1, g2, g3⟩ := h.lj hi
  have h1 := allR_iff.1 ha.2 (up k i) g1
  obtain ⟨p1, p2⟩ := h.pr i hi
  obtain ⟨q1, q2⟩ := h.pr_rng i hi
  simp only [atoI, Bool.or_eq_true, decide_eq_true_eq] at h1 ⊢
  by_cases hn : y.pr (up k i) < 0
  · left
    rw [p1, show y.pr (up k i) = -1 by omega, less_neg]; omega
  · right
    have h2 := h1.resolve_left hn
    have h5 := h.zl
    have e1 := less_rng (k := k) (n := y.l.l.length) (w := y.pr (up k i)) (by omega) q2 p2 h.hk (by have := h.n9; omega)
    refine allR_iff.2 fun j hj => ?_
    have h3 := allR_iff.1 h2 (up k j) (h.lj hj).1
    have e2 : up k (z.pr i).toNat = (y.pr (up k i)).toNat := by rw [p1]; omega
    simp only [atoJ, h.e, h.fr (z.pr i).toNat j (by rw [p1]; omega) hj, h.co' j i hj hi, e2] at h3 ⊢
    exact h3
omit h in
theorem fen_iff {a b : Ev} {l : List Ev} {i j : Nat} : fenL a b ((l.take j).drop (i + 1)) = true ↔ ∃ m e, i < m ∧ m < j ∧ l[m]? = some e ∧ (decide (e.t = a.t) && (decide (e.k = 4) || (decide (e.k = 3) && (decide (e.f = 1) || decide (e.f = 2) && decide (a.k = 1) || decide (e.f = 3) && decide (a.k = 2) && decide (b.k = 2))))) = true := by
  simp only [fenL, List.any_eq_true]
  constructor
  · rintro ⟨e, he, hp⟩
    obtain ⟨u, hu⟩ := List.mem_iff_getElem?.1 he
    rw [List.getElem?_drop] at hu
    have hlt := (List.getElem?_eq_some_iff.1 hu).1
    simp at hlt
    rw [List.getElem?_take_of_lt (by omega)] at hu
    exact ⟨i + 1 + u, e, by omega, by omega, hu, hp⟩
  · rintro ⟨m, e, h1, h2, he, hp⟩
    refine ⟨e, List.mem_iff_getElem?.2 ⟨m - (i + 1), ?_⟩, hp⟩
    rw [List.getElem?_drop, List.getElem?_take_of_lt (by omega), show i + 1 + (m - (i + 1)) = m by omega]
    exact he
theorem Wf.fen {i j : Nat} (hf : z.fenced i j = true) : y.fenced (up k i) (up k j) = true := by
  simp only [Ex.fenced, h.e] at hf ⊢
  obtain ⟨m, e, h1, h2, he, hp⟩ := fen_iff.1 hf
  rw [h.get] at he
  exact fen_iff.2 ⟨up k m, e, up_mono (k := k) ▸ h1, up_mono (k := k) ▸ h2, he, hp⟩
theorem Wf.ahead {i j : Nat} (hi : i < z.l.l.length) (hj : j < z.l.l.length) (ha : z.ahead i j = true) : y.ahead (up k i) (up k j) = true := by
  obtain ⟨g1, g2, g3⟩ := h.lj hi
  obtain ⟨g1', g2', _⟩ := h.lj hj
  obtain ⟨p1, p2⟩ := h.pr i hi
  obtain ⟨q1, q2⟩ := h.pr_rng i hi
  obtain ⟨p1', p2'⟩ := h.pr j hj
  obtain ⟨q1', q2'⟩ := h.pr_rng j hj
  have h9 := h.n9
  have hp0 : (0 ≤ z.pr i) → (0 ≤ y.pr (up k i)) := fun h0 => by
    apply Classical.byContradiction
    intro hn
    rw [p1, show y.pr (up k i) = -1 by omega, less_neg] at h0
    omega
  have hpe : (z.pr j = i) = (y.pr (up k j) = (up k i : Nat)) := by rw [p1', less_eq q1' (by omega) p2' g2 g3]
  have hfe := h.fen (i := i) (j := j)
  simp only [Ex.ahead, Bool.or_eq_true] at ha ⊢
  rcases ha with ha | ha
  · left
    simp only [extA, h.x, List.any_eq_true, Bool.and_eq_true, decide_eq_true_eq] at ha ⊢
    obtain ⟨p', hm, e1, e2⟩ := ha
    obtain ⟨p, hp, rfl⟩ := List.mem_map.1 hm
    obtain ⟨hp1, hp2⟩ := List.mem_filter.1 hp
    obtain ⟨u, hu, hue⟩ := List.mem_iff_getElem.1 hp1
    have hx := allR_iff.1 h.ex u hu
    rw [List.getElem?_eq_getElem hu, hue] at hx
    simp only [Bool.and_eq_true, decide_eq_true_eq] at hx
    simp only [keepP, Bool.and_eq_true, Bool.not_eq_true', decide_eq_false_iff_not] at hp2
    simp only [lessP] at e1 e2
    refine ⟨p, hp1, ?_, ?_⟩
    · rwa [less_eq (by omega) (by omega) hp2.1 g2 g3] at e1
    · rwa [less_eq (by omega) (by omega) hp2.2 g2' g3] at e2
  · right
    simp only [Ex.rest, Ex.ordered, h.e, h.rf' i j hi hj, h.co' i j hi hj, h.fr i j hi hj, hpe, up_mono (k := k) (i := i) (j := j)] at ha ⊢
    split at ha
    · rename_i ht
      rw [if_pos ht]
      simp only [Bool.or_eq_true, Bool.and_eq_true, decide_eq_true_eq] at ha ⊢
      refine ⟨ha.1, ha.2.1, ?_⟩
      rcases ha.2.2 with ((h3 | h3) | h3) | h3
      · exact .inl (.inl (.inl h3))
      · exact .inl (.inl (.inr h3))
      · exact .inl (.inr ⟨⟨hp0 h3.1.1, h3.1.2⟩, h3.2⟩)
      · exact .inr (hfe h3)
    · rename_i ht
      rw [if_neg ht]
      exact ha
theorem Wf.ord (ho : (ordS y).isSome = true) : (ordS z).isSome = true := by
  unfold ordS at ho ⊢
  split at ho
  · rename_i hc
    simp only [Bool.and_eq_true] at hc
    rw [if_pos (by simp only [h.int' hc.1, h.ato' hc.2, Bool.and_self])]
    obtain ⟨o, ho⟩ := Option.isSome_iff_exists.1 ho
    refine rank_srt (fun i => o.idxOf (up k i)) fun i j h1 h2 hr => ?_
    exact srt_rank ho _ _ (h.lj h1).1 (h.lj h2).1 (h.ahead h1 h2 hr)
  · cases ho
end
theorem ord_may {y : Ex} (h : (ordS y).isSome = true) : mayB y = true := by
  unfold ordS at h
  split at h
  · rename_i hc
    simp only [Bool.and_eq_true, intS] at hc
    exact hc.1.1
  · cases h
theorem fences_law (y : Ex) (k : Nat) (ho : (ordS (ours y)).isSome = true) (hk : k < y.l.l.length) (hf : (y.e k).k = 3) (z : Ex) (h1 : z.l.l = wo k y.l.l) (h2 : z.rf.l = (wo k y.rf.l).map fun i => lessI i k) (h3 : z.co.l = y.co.l.map fun i => lessI i k) (h4 : z.x.l = (y.x.l.filter (keepP k)).map (lessP k)) : (ordS (ours z)).isSome = true := by
  have hw : Wf (ours y) (ours z) k := by
    refine ⟨ord_may ho, ?_, ?_, ?_, h2, h3, h4⟩
    · simpa only [ours, asV_l] using hk
    · simpa only [Ex.e, ours, asV_l] using hf
    · simpa only [ours, asV_l] using h1
  exact hw.ord ho
end Go.Proofs.Ytnapimfiikgaiaa.Eng
