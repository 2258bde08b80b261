/- CatWeaker, plainly. Nothing here is a claim of its own. -/
import Derived.Test.YtnapimfiikgaiaaLa1
namespace Go.Proofs.Ytnapimfiikgaiaa.Eng
set_option linter.unusedSimpArgs false
set_option linter.unusedVariables false

/-- An execution without its acquires and releases. -/
def nrm (x : Ex) : Ex := ⟨.mk (x.l.l.map Ev.weak) false, .mk x.rf.l false, .mk x.co.l false, .mk x.x.l false⟩
theorem nrm_l {x : Ex} : (nrm x).l.l = x.l.l.map Ev.weak := rfl
theorem nrm_rf {x : Ex} : (nrm x).rf.l = x.rf.l := rfl
theorem nrm_co {x : Ex} : (nrm x).co.l = x.co.l := rfl
theorem nrm_x {x : Ex} : (nrm x).x.l = x.x.l := rfl
theorem pla_w {e f : Ev} : e.weak.pla f.weak = e.pla f := rfl
theorem allR_congr {n : Nat} {p p' : Nat → Bool} (h : ∀ i, i < n → p i = p' i) : allR n p = allR n p' := by
  cases hp : allR n p' with
  | true => rw [allR_iff] at hp ⊢; exact fun i hi => (h i hi).trans (hp i hi)
  | false =>
    cases hq : allR n p with
    | false => rfl
    | true => rw [allR_iff] at hq; rw [allR_iff.2 fun i hi => (h i hi).symm.trans (hq i hi)] at hp; cases hp
theorem evs_w {l : List Ev} : evs (l.map Ev.weak) = evs l := by
  unfold evs
  rw [List.length_map]
  refine allR_congr fun i hi => ?_
  rw [List.getElem?_map]
  cases l[i]? <;> rfl
theorem okc_w {l : List Ev} {c : Int} : okc (l.map Ev.weak) c = okc l c := by
  unfold okc
  rw [List.length_map, List.getElem?_map]
  cases l[c.toNat]? <;> rfl
theorem wrB_w {l : List Ev} {co : List Int} : wrB (l.map Ev.weak) co = wrB l co := by
  unfold wrB
  congr 1
  · refine allR_congr fun i hi => ?_
    unfold coAt
    cases co[i]? with
    | none => rfl
    | some c => simp only [okc_w]
  · have : cntW (l.map Ev.weak) = cntW l := by simp only [cntW, List.countP_map]; rfl
    rw [this]
theorem rdB_w {l : List Ev} {rf : List Int} : rdB (l.map Ev.weak) rf = rdB l rf := by
  unfold rdB
  rw [List.length_map]
  congr 1
  refine allR_congr fun i hi => ?_
  unfold rdAt
  cases rf[i]? with
  | none => rfl
  | some w =>
    simp only [List.length_map, List.getElem?_map]
    cases l[i]? <;> cases l[w.toNat]? <;> rfl
theorem alike_w {l : List Ev} : alikeB (l.map Ev.weak) = alikeB l := by
  unfold alikeB
  rw [List.length_map]
  refine allR_congr fun i hi => allR_congr fun j hj => ?_
  unfold two
  simp only [List.getElem?_map]
  cases l[i]? <;> cases l[j]? <;> rfl
theorem may_n (x : Ex) : mayB (nrm x) = mayB x := by
  simp only [mayB, nrm_l, nrm_rf, nrm_co, nrm_x, evs_w, wrB_w, rdB_w, alike_w, List.length_map]
theorem e_n (x : Ex) (i : Nat) : (nrm x).e i = (x.e i).weak := by
  simp only [Ex.e, nrm_l, List.getElem?_map]
  cases x.l.l[i]? <;> rfl
theorem r_n (x : Ex) (i : Nat) : (nrm x).r i = x.r i := rfl
theorem fr_n (x : Ex) (i j : Nat) : (nrm x).fr i j = x.fr i j := by simp only [Ex.fr, e_n, nrm_co, r_n]; rfl
theorem co_n (x : Ex) (i j : Nat) : (nrm x).co' i j = x.co' i j := by simp only [Ex.co', e_n, nrm_co]; rfl
theorem rf_n (x : Ex) (i j : Nat) : (nrm x).rf' i j = x.rf' i j := by simp only [Ex.rf', e_n, r_n]; rfl
theorem in_n (x : Ex) (i j : Nat) : (nrm x).inside i j = x.inside i j := by simp only [Ex.inside, e_n, fr_n, co_n, rf_n]; rfl
theorem last_w {l : List Ev} : ∀ (q : Nat) (t : Int), lastIx (l.map Ev.weak) q t = lastIx l q t
  | 0, t => rfl
  | q + 1, t => by
    simp only [lastIx, List.getElem?_map, last_w q t]
    cases l[q]? <;> rfl
theorem pr_n (x : Ex) (i : Nat) : (nrm x).pr i = x.pr i := by
  simp only [Ex.pr, pairS, nrm_l, List.getElem?_map]
  cases h : x.l.l[i]? with
  | none => rfl
  | some e =>
    simp only [Option.map_some, last_w, show e.weak.t = e.t from rfl]
    cases x.l.l[(lastIx x.l.l i e.t).toNat]? <;> rfl
theorem ato_n (x : Ex) : atoS (nrm x) = atoS x := by
  simp only [atoS, may_n, nrm_l, List.length_map]
  congr 1
  refine allR_congr fun i hi => ?_
  simp only [atoI, pr_n, nrm_l, List.length_map]
  congr 1
  refine allR_congr fun j hj => ?_
  simp only [atoJ, e_n, fr_n, co_n, pr_n]
  rfl
theorem int_n (x : Ex) : intS (nrm x) = intS x := by
  have : (nrm x).inside = x.inside := funext fun i => funext fun j => in_n x i j
  simp only [intS, may_n, this, nrm_l, List.length_map]
theorem fen_n (x : Ex) (i j : Nat) : (nrm x).fenced i j = x.fenced i j := by
  simp only [Ex.fenced, e_n, nrm_l, ← List.map_take, ← List.map_drop, fenL, List.any_map]
  rfl
/-- No more of an acquire or a release. -/
structure Le (e f : Ev) : Prop where
  w : e.weak = f.weak
  acq : e.acq = true → f.acq = true
  q : e.q = true → f.q = true
  rel : e.rel = true → f.rel = true
theorem Le.rfl' {e : Ev} : Le e e := ⟨rfl, id, id, id⟩
theorem weak_le {e : Ev} : Le e.weak e := ⟨rfl, fun h => (by cases h), fun h => (by cases h), fun h => (by cases h)⟩
theorem Le.k {e f : Ev} (h : Le e f) : e.k = f.k := show e.weak.k = f.weak.k from by rw [h.w]
theorem Le.t {e f : Ev} (h : Le e f) : e.t = f.t := show e.weak.t = f.weak.t from by rw [h.w]
theorem ordA_le {a b a' b' : Ev} (ha : Le a' a) (hb : Le b' b) (h : ordA a' b' = true) : ordA a b = true := by
  have h1 := ha.acq; have h2 := ha.q; have h3 := ha.rel
  have h4 := hb.acq; have h6 := hb.rel
  simp only [ordA, ha.k, hb.k] at h ⊢
  simp only [Bool.or_eq_true, Bool.and_eq_true, decide_eq_true_eq] at h ⊢
  rcases h with ((h | h) | h | h) | h
  · exact .inl (.inl (.inl h))
  · exact .inl (.inl (.inr h))
  · exact .inl (.inr (.inl ⟨h.1, h.2.imp h1 h2⟩))
  · exact .inl (.inr (.inr ⟨h.1, h6 h.2⟩))
  · exact .inr ⟨⟨⟨h.1.1.1, h3 h.1.1.2⟩, h.1.2⟩, h4 h.2⟩
/-- What is ahead in a weaker execution is ahead. -/
theorem ahead_le {x y : Ex} (hn : nrm y = nrm x) (hl : ∀ i, Le (y.e i) (x.e i)) (i j : Nat) (h : y.ahead i j = true) : x.ahead i j = true := by
  have hx : y.x.l = x.x.l := show (nrm y).x.l = (nrm x).x.l from by rw [hn]
  have hfr : ∀ i j, y.fr i j = x.fr i j := fun i j => by rw [← fr_n, hn, fr_n]
  have hco : ∀ i j, y.co' i j = x.co' i j := fun i j => by rw [← co_n, hn, co_n]
  have hrf : ∀ i j, y.rf' i j = x.rf' i j := fun i j => by rw [← rf_n, hn, rf_n]
  have hpr : ∀ i, y.pr i = x.pr i := fun i => by rw [← pr_n, hn, pr_n]
  have hfe : ∀ i j, y.fenced i j = x.fenced i j := fun i j => by rw [← fen_n, hn, fen_n]
  have hi := hl i
  have hj := hl j
  have hA := ordA_le hi hj
  have h1 := hj.acq; have h2 := hj.q
  simp only [Ex.ahead, Ex.rest, Ex.ordered, hx, hfr, hco, hrf, hpr, hfe, hi.k, hj.k, hi.t, hj.t] at h ⊢
  simp only [Bool.or_eq_true] at h ⊢
  refine h.imp id fun h => ?_
  split at h
  · rename_i ht
    rw [if_pos ht]
    simp only [Bool.or_eq_true, Bool.and_eq_true, decide_eq_true_eq] at h ⊢
    refine ⟨h.1, h.2.1, ?_⟩
    rcases h.2.2 with ((h3 | h3) | h3) | h3
    · exact .inl (.inl (.inl (hA h3)))
    · exact .inl (.inl (.inr h3))
    · exact .inl (.inr ⟨h3.1, h3.2.imp h1 h2⟩)
    · exact .inr h3
  · rename_i ht
    rw [if_neg ht]
    exact h
theorem ord_le {x y : Ex} (hn : nrm y = nrm x) (hl : ∀ i, Le (y.e i) (x.e i)) (h : (ordS x).isSome = true) : (ordS y).isSome = true := by
  have hi : intS y = intS x := by rw [← int_n, hn, int_n]
  have ha : atoS y = atoS x := by rw [← ato_n, hn, ato_n]
  have hlen : y.l.l.length = x.l.l.length := by
    have := congrArg (fun z : Ex => z.l.l.length) hn
    simpa [nrm_l] using this
  unfold ordS at h ⊢
  rw [hi, ha]
  split at h
  · rename_i hc
    rw [if_pos hc]
    obtain ⟨o, ho⟩ := Option.isSome_iff_exists.1 h
    rw [hlen]
    exact rank_srt (fun i => o.idxOf i) fun i k h1 h2 hr => srt_rank ho i k h1 h2 (ahead_le hn hl i k hr)
  · cases h
theorem weakB_true (x : Ex) (k : Int) : weakB x k = true := by
  unfold weakB
  generalize cutX x = y
  cases h : (ordS (ours y)).isSome with
  | false => rfl
  | true =>
    by_cases h1 : 0 ≤ k
    · by_cases h2 : k < y.l.l.length
      · have hm : (weakL y.l.l k.toNat).map Ev.weak = y.l.l.map Ev.weak := by
          obtain ⟨e, he⟩ := get_lt (l := y.l.l) (q := k.toNat) (by omega)
          simp only [weakL, he, List.map_set]
          apply List.ext_getElem? 
          intro i
          by_cases hi : i = k.toNat
          · subst hi
            rw [List.getElem?_set_self (by simp; omega), List.getElem?_map, he]
            rfl
          · rw [List.getElem?_set_ne (Ne.symm hi)]
        have : (ordS (ours { y with l := .mk (weakL y.l.l k.toNat) false })).isSome = true := by
          refine ord_le (x := ours y) ?_ (fun i => ?_) h
          · simp only [nrm, ours, asV_l, hm]
            rw [show (VL.mk (weakL y.l.l k.toNat) false).l = weakL y.l.l k.toNat from rfl, hm]
          · simp only [Ex.e, ours, asV_l]
            rw [show (VL.mk (weakL y.l.l k.toNat) false).l = weakL y.l.l k.toNat from rfl]
            obtain ⟨e, he⟩ := get_lt (l := y.l.l) (q := k.toNat) (by omega)
            simp only [weakL, he]
            by_cases hi : i = k.toNat
            · subst hi
              rw [List.getElem?_set_self (by omega), he]
              exact weak_le
            · rw [List.getElem?_set_ne (Ne.symm hi)]
              exact .rfl'
        rw [this, Bool.or_true]
      · simp [h2]
    · simp [h1]
end Go.Proofs.Ytnapimfiikgaiaa.Eng
