/- The ideal machine, part 21: blocks that never change again, value slices, quiet loops. Nothing here is a claim of its own. -/
import Derived.Test.YtnapimfiikgaiaaEng20
namespace Go.Proofs.Ytnapimfiikgaiaa.Eng
open Go.RowKit
set_option linter.unusedSimpArgs false
set_option linter.unusedVariables false

/-- A block of cells that never changes again from here on. -/
def IH.frz (H : IH) (i s : Nat) (es : List (List IV)) : IH := H.set i (.cells false s es)

theorem gh_frz {a : List IV} {H : IH} {i s : Nat} {own : Bool} {es : List (List IV)} (hi : i < H.n) (hf : H.f i = .cells own s es) : Gh a H a (H.frz i s es) := by
  intro base env w xs h hv
  cases own with
  | true =>
    have ho : Owned H i := .inl ⟨s, es, hf⟩
    have hb := h.blk i hi
    rw [hf] at hb
    obtain ⟨hs, hc, hbase, arr, ty, lo, hi', harr, _⟩ := hb
    have hfn := h.fz_none hi ho
    let env' : Env := ⟨env.p, fun b => if b = (env i).b then some arr else env.fz b⟩
    have hle : env.le env' := fun b a hb => by
      show (if b = (env i).b then some arr else env.fz b) = some a
      rw [if_neg (fun e => by rw [e, hfn] at hb; cases hb)]; exact hb
    have he : ∀ N, EnvEq N env env' := fun N => ⟨fun _ _ => rfl, hle⟩
    have hown : ∀ j, Owned (H.frz i s es) j → j ≠ i ∧ Owned H j := fun j hj => by
      unfold Owned at hj
      simp only [IH.frz, IH.set_f] at hj
      by_cases e : j = i
      · rw [if_pos e] at hj
        rcases hj with ⟨_, _, hj⟩ | ⟨_, hj⟩ <;> cases hj
      · rw [if_neg e] at hj; exact ⟨e, hj⟩
    have hfz : ∀ b a, env'.fz b = some a → (b = (env i).b ∧ a = arr) ∨ env.fz b = some a := fun b a hb => by
      have hb : (if b = (env i).b then some arr else env.fz b) = some a := hb
      split at hb
      · rename_i e; cases hb; exact .inl ⟨e, rfl⟩
      · exact .inr hb
    refine ⟨env', ⟨⟨h.bs, fun j hj => ?_, fun j k hj hk hjk h1 h2 => h.dis j k hj hk hjk (hown j h1).2 (hown k h2).2, fun b a hb => ?_⟩, he _, Nat.le_refl _, IH.set_lo_le _ _ _, Nat.le_refl _, rfl, rfl, rfl, fun _ _ _ => rfl, fun j hj hoj => .inl ⟨hj, (hown j hoj).2⟩, fun j hj hd => ?_, fun j hj hl => ?_, fun b a hb => ?_⟩, hv.mono (he _) (Nat.le_refl _)⟩
    · by_cases e : j = i
      · subst e
        simp only [IH.frz, IH.set_f, if_true]
        refine ⟨hs, hc.keep (he _) (Nat.le_refl _) rfl, arr, ?_⟩
        show (if (env j).b = (env j).b then some arr else env.fz (env j).b) = some arr
        rw [if_pos rfl]
      · simp only [IH.frz, IH.set_f, if_neg e]
        exact (h.blk j hj).keep (he _) (Nat.le_refl _) rfl
    · rcases hfz b a hb with ⟨rfl, rfl⟩ | hb
      · exact ⟨⟨ty, (lo, hi'), harr⟩, fun j hj hoj => h.dis j i hj hi (hown j hoj).1 (hown j hoj).2 ho⟩
      · exact ⟨(h.frz b a hb).1, fun j hj hoj => (h.frz b a hb).2 j hj (hown j hoj).2⟩
    · simp only [IH.frz, IH.set_f]
      split
      · rename_i e; subst e; rw [hf] at hd; cases hd
      · exact hd
    · have := IH.set_lo_le' H i (.cells false s es)
      simp only [IH.frz] at hl ⊢
      rw [IH.set_f, if_neg (by omega)]
    · rcases hfz b a hb with ⟨rfl, rfl⟩ | hb
      · exact .inr (.inr ⟨i, hi, ho, rfl, IH.set_lo_le' H i _⟩)
      · exact .inl hb
  | false =>
    have hff : ∀ j, (H.frz i s es).f j = H.f j := fun j => by
      simp only [IH.frz, IH.set_f]; split
      · rename_i e; rw [e, hf]
      · rfl
    have hown : ∀ j, Owned (H.frz i s es) j → Owned H j := fun j hj => (Owned.of_f (hff j)).1 hj
    exact ⟨env, ⟨⟨h.bs, fun j hj => by rw [hff]; exact h.blk j hj, fun j k hj hk hjk h1 h2 => h.dis j k hj hk hjk (hown j h1) (hown k h2), fun b a hb => ⟨(h.frz b a hb).1, fun j hj hoj => (h.frz b a hb).2 j hj (hown j hoj)⟩⟩, .refl _ _, Nat.le_refl _, IH.set_lo_le _ _ _, Nat.le_refl _, rfl, rfl, rfl, fun _ _ _ => rfl, fun j hj hoj => .inl ⟨hj, hown j hoj⟩, fun j hj hd => by rw [hff]; exact hd, fun j hj hl => hff j, fun b a hb => .inl hb⟩, hv⟩

/-- Values that may stand for others. -/
inductive CV (H : IH) : IV → IV → Prop
  | rfl (v : IV) : CV H v v
  | dead (v : IV) : CV H v .dead
  | vs (i k n s : Nat) (full : Bool) (es : List (List IV)) (hf : H.f i = .cells false s es) (hl : k + n ≤ es.length) : CV H (.slc i k n s full) (.vs s ((es.drop k).take n) full)
  | agg (cs cs' : List IV) (hl : cs.length = cs'.length) (h : ∀ (q : Nat) (v v' : IV), cs[q]? = some v → cs'[q]? = some v' → CV H v v') : CV H (.agg cs) (.agg cs')
  | tup (cs cs' : List IV) (hl : cs.length = cs'.length) (h : ∀ (q : Nat) (v v' : IV), cs[q]? = some v → cs'[q]? = some v' → CV H v v') : CV H (.tup cs) (.tup cs')
def CVs (H : IH) (a a' : List IV) : Prop := a.length = a'.length ∧ ∀ (q : Nat) (v v' : IV), a[q]? = some v → a'[q]? = some v' → CV H v v'
theorem VRs.of_cv {env : Env} {N : Nat} {H : IH} {cs cs' : List IV} {xs : List Value} (hl : cs.length = cs'.length) (h : VRs env N cs xs) (hc : ∀ (q : Nat) (v v' : IV) (x : Value), cs[q]? = some v → cs'[q]? = some v' → VR env N v x → VR env N v' x) : VRs env N cs' xs := by
  refine VRs.of_get (by rw [← hl]; exact h.length) fun q v' x hv' hx => ?_
  obtain ⟨v, hv, hvx⟩ := h.get' q x hx
  exact hc q v v' x hv hv' hvx
theorem cv_vs {base : Nat} {env : Env} {H : IH} {w : World} (h : SR base env H w) {i k n s : Nat} {full : Bool} {es : List (List IV)} (hf : H.f i = .cells false s es) (hl : k + n ≤ es.length) {x : Value} (hx : VR env H.n (.slc i k n s full) x) : VR env H.n (.vs s ((es.drop k).take n) full) x := by
  obtain ⟨a, c, rfl, ⟨hi, _⟩, hs, hnc, hfu, ha⟩ := hx.inv_slc
  have hlen : ((es.drop k).take n).length = n := by simp; omega
  have hb := h.blk i hi
  rw [hf] at hb
  obtain ⟨_, hrow, arr, hF⟩ := hb
  by_cases h0 : n = 0
  · have : (es.drop k).take n = [] := List.eq_nil_of_length_eq_zero (by rw [hlen, h0])
    rw [this, h0]
    exact .vs0 _ _ _ _ fun e => by have := hfu e; omega
  · obtain ⟨ha1, _⟩ := ha (by omega)
    have hrows : ∀ e ∈ (es.drop k).take n, e.length = s := fun e he => by rw [hrow.1 e (List.mem_of_mem_drop (List.mem_of_mem_take he)), hs]
    have hfl : ((es.drop k).take n).flatten.length = n * s := by rw [flat_length hrows]; simp; rw [Nat.min_eq_left (by omega)]
    have hcell : ∀ (q : Nat) (v : IV), ((es.drop k).take n).flatten[q]? = some v → ∃ x, arr[(env i).d + k * s + q]? = some x ∧ VR env H.n v x := fun q v hq => by
      obtain ⟨k', e, j, e1, e2, e3⟩ := flat_get' hrows hq
      have hk' : k' < n := by have := (List.getElem?_eq_some_iff.1 e1).1; simp at this; omega
      rw [List.getElem?_take_of_lt hk', List.getElem?_drop] at e1
      obtain ⟨x, hx, hv⟩ := hrow.2 _ _ e1 _ _ e2
      refine ⟨x, ?_, hv⟩
      rw [frz_cell h hF, hs] at hx
      rw [e3, show (env i).d + k * s + (k' * s + j) = (env i).d + ((k + k') * s + j) by rw [Nat.add_mul]; omega]
      exact hx
    have hxs : ∃ xs : List Value, VRs env H.n ((es.drop k).take n).flatten xs ∧ ∀ (q : Nat) (x : Value), xs[q]? = some x → arr[(env i).d + k * s + q]? = some x := by
      generalize ((es.drop k).take n).flatten = vs at hcell
      generalize (env i).d + k * s = o at hcell
      induction vs generalizing o with
      | nil => exact ⟨[], .nil, by simp⟩
      | cons v vs ih =>
        obtain ⟨x, hx, hv⟩ := hcell 0 v (by rfl)
        obtain ⟨xs, hxs, hcs⟩ := ih (o + 1) fun q u hu => by have := hcell (q + 1) u (by simpa using hu); rwa [show o + (q + 1) = o + 1 + q by omega] at this
        refine ⟨x :: xs, .cons _ _ _ _ hv hxs, fun q y hy => ?_⟩
        cases q with
        | zero => simp at hy; subst hy; exact hx
        | succ q => have := hcs q y (by simpa using hy); rwa [show o + (q + 1) = o + 1 + q by omega]
    obtain ⟨xs, hv, hx⟩ := hxs
    have := VR.vs (env := env) (N := H.n) s ((es.drop k).take n) full (env i).b ((env i).d + k * s) c arr xs hF hrows (by rw [hlen]; exact hnc) (fun e => by rw [hlen]; exact hfu e) hx hv
    rw [hlen] at this
    rw [ha1]
    exact this
theorem CV.sound {base : Nat} {env : Env} {H : IH} {w : World} (h : SR base env H w) {v v' : IV} (hc : CV H v v') : ∀ {x : Value}, VR env H.n v x → VR env H.n v' x := by
  induction hc with
  | rfl v => exact fun hx => hx
  | dead v => exact fun _ => .dead _
  | vs i k n s full es hf hl => exact fun hx => cv_vs h hf hl hx
  | agg cs cs' hl hc ih =>
    intro x hx
    obtain ⟨xs, rfl, hxs⟩ := hx.inv_agg
    exact .agg _ _ (VRs.of_cv (H := H) hl hxs fun q v v' x hv hv' hvx => ih q v v' hv hv' hvx)
  | tup cs cs' hl hc ih =>
    intro x hx
    obtain ⟨xs, rfl, hxs⟩ := hx.inv_tup
    exact .tup _ _ (VRs.of_cv (H := H) hl hxs fun q v v' x hv hv' hvx => ih q v v' hv hv' hvx)
theorem CVs.sound {base : Nat} {env : Env} {H : IH} {w : World} (h : SR base env H w) {a a' : List IV} {xs : List Value} (hc : CVs H a a') (hx : VRs env H.n a xs) : VRs env H.n a' xs :=
  VRs.of_cv (H := H) hc.1 hx fun q v v' x hv hv' hvx => (hc.2 q v v' hv hv').sound h hvx
theorem gh_cv {a a' : List IV} {H : IH} (hc : CVs H a a') : Gh a H a' H := fun base env w xs h hv => ⟨env, Sim.refl h, hc.sound h hv⟩
/-- A block's cells, told by other values. -/
theorem gh_blk {a : List IV} {H : IH} {i s : Nat} {own : Bool} {es es' : List (List IV)} (hi : i < H.n) (hf : H.f i = .cells own s es) (hl : es.length = es'.length) (hc : ∀ (q : Nat) (e e' : List IV), es[q]? = some e → es'[q]? = some e' → CVs H e e') : Gh a H a (H.set i (.cells own s es')) := by
  intro base env w xs h hv
  have hcs : ∀ p : Pl, Cells env H.n w p es → Cells env H.n w p es' := fun p hp => by
    refine ⟨fun e' he' => ?_, fun k e' hk j v' hj => ?_⟩
    · obtain ⟨q, hq, rfl⟩ := List.mem_iff_getElem.1 he'
      have h1 : es[q]? = some (es[q]'(by omega)) := List.getElem?_eq_getElem _
      rw [← (hc q _ _ h1 (List.getElem?_eq_getElem hq)).1]
      exact hp.1 _ (List.getElem_mem _)
    · have hk2 := (List.getElem?_eq_some_iff.1 hk).1
      have h1 : es[k]? = some (es[k]'(by omega)) := List.getElem?_eq_getElem _
      have hcc := hc k _ _ h1 hk
      have hj2 := (List.getElem?_eq_some_iff.1 hj).1
      have h2 : (es[k]'(by omega))[j]? = some ((es[k]'(by omega))[j]'(by have := hcc.1; omega)) := List.getElem?_eq_getElem _
      obtain ⟨x, hx, hvx⟩ := hp.2 k _ h1 j _ h2
      exact ⟨x, hx, (hcc.2 j _ _ h2 hj).sound h hvx⟩
  have hown : ∀ j, Owned (H.set i (.cells own s es')) j → Owned H j := fun j hj => by
    unfold Owned at hj ⊢
    rw [IH.set_f] at hj
    by_cases e : j = i
    · rw [if_pos e] at hj
      subst e
      rcases hj with ⟨s', es2, hj⟩ | ⟨_, hj⟩
      · cases hj; exact .inl ⟨_, _, hf⟩
      · cases hj
    · rw [if_neg e] at hj; exact hj
  refine ⟨env, ⟨⟨h.bs, fun j hj => ?_, fun j k hj hk hjk h1 h2 => h.dis j k hj hk hjk (hown j h1) (hown k h2), fun b a hb => ⟨(h.frz b a hb).1, fun j hj hoj => (h.frz b a hb).2 j hj (hown j hoj)⟩⟩, .refl _ _, Nat.le_refl _, IH.set_lo_le _ _ _, Nat.le_refl _, rfl, rfl, rfl, fun _ _ _ => rfl, fun j hj hoj => .inl ⟨hj, hown j hoj⟩, fun j hj hd => ?_, fun j hj hl' => ?_, fun b a hb => .inl hb⟩, hv⟩
  · rw [IH.set_f]
    by_cases e : j = i
    · subst e
      rw [if_pos rfl]
      have hb := h.blk j hj
      rw [hf] at hb
      cases own with
      | true => exact ⟨hb.1, hcs _ hb.2.1, hb.2.2.1, by rw [← hl]; exact hb.2.2.2⟩
      | false => exact ⟨hb.1, hcs _ hb.2.1, hb.2.2⟩
    · rw [if_neg e]; exact h.blk j hj
  · rw [IH.set_f]
    split
    · rename_i e; subst e; rw [hf] at hd; cases hd
    · exact hd
  · have := IH.set_lo_le' H i (.cells own s es')
    rw [IH.set_f, if_neg (by omega)]

theorem fall_nil {m : Nat} : (∀ p ∈ ([] : List (Nat × IV)), Lt m p.2) = True := eq_true (fun v h => by cases h)
theorem fall_cons {m : Nat} {x : Nat × IV} {l : List (Nat × IV)} : (∀ p ∈ x :: l, Lt m p.2) = (Lt m x.2 ∧ ∀ p ∈ l, Lt m p.2) := propext List.forall_mem_cons
attribute [go_sem] fall_nil fall_cons
/-! #### quiet loops -/
def none_ : Nat → IV := fun _ => .dead
theorem frame_weak {a : List IV} {n : Nat} {l : List (Nat × IV)} (h : Fr a n l) : Weak a (frame l none_ 0 n) := by
  have key : ∀ (n t : Nat) (a : List IV), a.length = n → (∀ i v, slot l none_ (t + i) = v → v = .dead ∨ i < n → v = .dead ∨ a[i]? = some v) → Weak a (frame l none_ t n) := by
    intro n
    induction n with
    | zero => intro t a ha _; have := List.eq_nil_of_length_eq_zero ha; subst this; exact .nil
    | succ n ih =>
      intro t a ha hs
      cases a with
      | nil => simp at ha
      | cons v a =>
        have ht := ih (t + 1) a (by simpa using ha) fun i u hu hor => by
          have := hs (i + 1) u (by rw [show t + (i + 1) = t + 1 + i by omega]; exact hu) (by rcases hor with h | h; exact .inl h; exact .inr (by omega))
          simpa using this
        rcases hs 0 _ rfl (.inr (by omega)) with h | h
        · simp only [frame]
          rw [show slot l none_ t = .dead from h]
          exact .kill _ _ _ ht
        · simp only [frame]
          have : v = slot l none_ t := by simpa using h
          rw [← this]
          exact .keep _ _ _ ht
  refine key n 0 a h.1 fun i v hv hor => ?_
  clear hor
  rw [Nat.zero_add] at hv
  subst hv
  have hl := h.2
  clear h key
  induction l with
  | nil => exact .inl rfl
  | cons p l ih =>
    simp only [slot]
    split
    · rename_i e
      have := hl p (List.mem_cons_self ..)
      rw [e] at this
      exact .inr this
    · exact ih fun q hq => hl q (List.mem_cons_of_mem _ hq)
theorem frame_lt {m n t : Nat} {l : List (Nat × IV)} (h : ∀ p ∈ l, Lt m p.2) : ∀ v ∈ frame l none_ t n, Lt m v := by
  induction n generalizing t with
  | zero => intro v hv; cases hv
  | succ n ih =>
    intro v hv
    simp only [frame] at hv
    cases hv with
    | head =>
      clear ih
      induction l with
      | nil => exact .dead
      | cons p l ih2 =>
        simp only [slot]
        split
        · exact h p (List.mem_cons_self ..)
        · exact ih2 fun q hq => h q (List.mem_cons_of_mem _ hq)
    | tail _ hv => exact ih v hv
theorem frame_fr {n : Nat} {l : List (Nat × IV)} (hn : (l.map (·.1)).Nodup) (hl : ∀ p ∈ l, p.1 < n) : Fr (frame l none_ 0 n) n l := by
  refine ⟨frame_length _ _ _ _, fun p hp => ?_⟩
  rw [frame_get _ _ _ _ _ (hl p hp), Nat.zero_add]
  congr 1
  clear hl
  induction l with
  | nil => cases hp
  | cons q l ih =>
    simp only [List.map_cons, List.nodup_cons] at hn
    simp only [slot]
    cases hp with
    | head => rw [if_pos rfl]
    | tail _ hp =>
      rw [if_neg (fun e => hn.1 (by rw [e]; exact List.mem_map_of_mem hp))]
      exact ih hn.2 hp

/-- What a quiet round, or a quiet loop's end, leaves: some slots. -/
def qout (H : IH) (n : Nat) (a1 : List IV) (H1 : IH) (R : List (Nat × IV) → Prop) : Prop := H.n ≤ H1.lo ∧ ∃ l, Fr a1 n l ∧ (∀ p ∈ l, Lt H.n p.2) ∧ R l
def kq (H : IH) (n : Nat) (N : List (Nat × IV) → Prop) (Q : Post) : Post := fun e a1 H1 => match e with
  | .normal => qout H n a1 H1 N
  | e => qout H n a1 H1 fun l => Q e (frame l none_ 0 n) H
section
variable {P : Program} {prim : CallRel} {H H1 : IH} {a1 : List IV} {n : Nat} {N : List (Nat × IV) → Prop} {Q : Post}
theorem kq_n : kq H n N Q .normal a1 H1 = qout H n a1 H1 N := rfl
theorem kq_e {id : Nat} : kq H n N Q (.exit id) a1 H1 = qout H n a1 H1 fun l => Q (.exit id) (frame l none_ 0 n) H := rfl
theorem kq_r : kq H n N Q .ret a1 H1 = qout H n a1 H1 fun l => Q .ret (frame l none_ 0 n) H := rfl
theorem qout_lout {R : List (Nat × IV) → Prop} {S : List IV → IH → Prop} (h : qout H n a1 H1 R) (hs : ∀ l, (∀ p ∈ l, Lt H.n p.2) → R l → S (frame l none_ 0 n) H) : lout H a1 H1 S := by
  obtain ⟨hl, l, hf, hlt, hr⟩ := h
  exact lout_quiet hl (frame_weak hf) (frame_lt hlt) (hs l hlt hr)
/-- A loop that leaves the heap alone: what its slots hold, by a measure. -/
theorem w_loop_q {D : Plans} {c : Code} (hd : plansOK D c = true) (I : Nat → List (Nat × IV) → Prop) (hstep : ∀ m l, I m l → (∀ p ∈ l, Lt H.n p.2) → wcode P prim D c (frame l none_ 0 n) H.mark (kq H n (fun l' => ∃ m', m' < m ∧ I m' l') Q))
    (m : Nat) (l : List (Nat × IV)) (hI : I m l) (a : List IV) (hf : Fr a n l) (hlt : ∀ p ∈ l, Lt H.n p.2) : wloop P prim c a H Q := by
  refine w_loop_gh (Gh.weak (frame_weak hf)) ?_
  refine w_loop_ind hd (fun m a H' => H' = H.mark ∧ ∃ l, I m l ∧ a = frame l none_ 0 n ∧ ∀ p ∈ l, Lt H.n p.2) ?_ m _ ⟨rfl, l, hI, rfl, hlt⟩
  rintro m a H' ⟨rfl, l, hI, rfl, hlt⟩
  refine wcode_mono (fun e a1 H1 h => ?_) (hstep m l hI hlt)
  have q : ∀ {R : List (Nat × IV) → Prop}, qout H n a1 H1 R → qout H.mark n a1 H1 R := fun h => h
  cases e <;> exact qout_lout (q h) (fun l' hlt' hr => by first | exact ⟨hr.choose, hr.choose_spec.1, rfl, l', hr.choose_spec.2, rfl, hlt'⟩ | exact lout_quiet (Nat.le_refl _) Weak.rfl (frame_lt hlt') hr)
end
/-! #### builders -/
def SL.fv (s : Nat) (es : List (List IV)) : SL → IV | .nil => .nils | .mk _ _ _ f => .vs s es f
/-- The value of a slice that was built up: z, as long as nothing was appended. -/
def bl (s : Nat) (z : IV) (es : List (List IV)) : IV := if es = [] then z else .vs s es false
structure Bd (H H1 : IH) (s : Nat) (z : IV) (es : List (List IV)) (o : SL) : Prop where
  ext : Ext H.mark H1
  new : o.New H H1 s es
  val : o.fv s es = bl s z es
theorem Bd.back {H H' H2 : IH} {s : Nat} {z : IV} {es : List (List IV)} {o : SL} (h0 : Ext H.mark H') (h : Bd H H2 s z es o) : Bd H (H'.back H2) s z es o := ⟨h0.backs h.ext, h.new.back, h.val⟩
theorem Bd.start {H : IH} {s : Nat} : Bd H H.mark s .nils [] .nil := ⟨Ext.refl _, ⟨rfl, trivial, trivial, fun h => by cases h⟩, by simp [SL.fv, bl]⟩
theorem Bd.more {H H1 H2 : IH} {s : Nat} {z : IV} {es : List (List IV)} {o : SL} (h : Bd H H1 s z es o) (he : Ext H1.mark H2) : Bd H H2 s z es o := ⟨h.ext.trans ((Ext.marked H1).trans he), h.new.ext' he, h.val⟩
/-- Seen as a value: the slice that was built. -/
theorem Bd.gh {H H1 : IH} {s : Nat} {z : IV} {es : List (List IV)} {o : SL} (h : Bd H H1 s z es o) {a : List IV} {n t : Nat} {l : List (Nat × IV)} (hf : Fr a n ((t, o.iv s) :: l)) : ∃ a' H', Gh a H1 a' H' ∧ Fr a' n ((t, bl s z es) :: l.filter (fun p => !(p.1 == t))) ∧ (H.n ≤ H1.lo → H.n ≤ H'.lo) := by
  have hlen := hf.1
  have ht := hf.2 _ (List.mem_cons_self ..)
  have htn := (List.getElem?_eq_some_iff.1 ht).1
  have fr : ∀ v, Fr (a.set t v) n ((t, v) :: l.filter (fun p => !(p.1 == t))) := fun v => by
    refine ⟨by simpa using hlen, fun p hp => ?_⟩
    cases hp with
    | head => simp [htn]
    | tail _ hp =>
      obtain ⟨hp, hne⟩ := List.mem_filter.1 hp
      rw [List.getElem?_set_ne (fun e => by simp [e] at hne)]
      exact hf.2 p (List.mem_cons_of_mem _ hp)
  cases ho : o with
  | nil =>
    subst ho
    have hv := h.val
    refine ⟨a.set t (bl s z es), H1, ?_, fr _, id⟩
    rw [← hv]
    have : a.set t (SL.fv s es .nil) = a := by
      simp only [SL.fv]
      apply List.ext_getElem?
      intro u
      by_cases e : u = t
      · subst e; rw [List.getElem?_set_self htn, ht]; rfl
      · rw [List.getElem?_set_ne (Ne.symm e)]
    rw [this]; exact Gh.refl _ _
  | mk i k q f =>
    subst ho
    have hv := h.val
    obtain ⟨own, es', h1, h2, h3⟩ := h.new.at'
    have hi : i < H1.n := h.new.lt
    refine ⟨a.set t (bl s z es), H1.frz i s es', ?_, fr _, fun hl => ?_⟩
    · rw [← hv]
      refine (gh_frz hi h1).trans (gh_cv ⟨by simp, fun u v v' hu hu' => ?_⟩)
      by_cases e : u = t
      · subst e
        rw [ht] at hu; cases hu
        rw [List.getElem?_set_self htn] at hu'; cases hu'
        simp only [SL.fv]
        rw [← h3]
        exact .vs i k q s f es' (by simp [IH.frz, IH.set_f]) h2
      · rw [List.getElem?_set_ne (fun h => e h.symm)] at hu'
        rw [hu] at hu'; cases hu'; exact .rfl _
    · have := h.new.new rfl
      simp only [SL.blk] at this
      simp only [IH.frz, IH.set]
      split <;> omega
/-- What a round, or the end, of a loop that builds leaves. -/
def bout (H : IH) (n t s : Nat) (z : IV) (a1 : List IV) (H1 : IH) (R : List (Nat × IV) → List (List IV) → Prop) : Prop := ∃ o l es, Fr a1 n ((t, o.iv s) :: l) ∧ (∀ p ∈ l, Lt H.n p.2) ∧ Bd H H1 s z es o ∧ R l es
def kb (H : IH) (n t s : Nat) (z : IV) (N : List (Nat × IV) → List (List IV) → Prop) (Q : Post) : Post := fun e a1 H1 => match e with
  | .normal => bout H n t s z a1 H1 N
  | e => bout H n t s z a1 H1 fun l es => (∀ v ∈ es.flatten, Lt H.n v) ∧ Q e (frame ((t, bl s z es) :: l) none_ 0 n) H
section
variable {P : Program} {prim : CallRel} {H H1 : IH} {a1 : List IV} {n t s : Nat} {z : IV} {N : List (Nat × IV) → List (List IV) → Prop} {Q : Post}
theorem kb_n : kb H n t s z N Q .normal a1 H1 = bout H n t s z a1 H1 N := rfl
theorem kb_e {id : Nat} : kb H n t s z N Q (.exit id) a1 H1 = bout H n t s z a1 H1 fun l es => (∀ v ∈ es.flatten, Lt H.n v) ∧ Q (.exit id) (frame ((t, bl s z es) :: l) none_ 0 n) H := rfl
theorem kb_r : kb H n t s z N Q .ret a1 H1 = bout H n t s z a1 H1 fun l es => (∀ v ∈ es.flatten, Lt H.n v) ∧ Q .ret (frame ((t, bl s z es) :: l) none_ 0 n) H := rfl
theorem slot_filter {t : Nat} {v : IV} {l : List (Nat × IV)} (j : Nat → IV) : ∀ u, slot ((t, v) :: l.filter (fun p => !(p.1 == t))) j u = slot ((t, v) :: l) j u := by
  intro u
  simp only [slot]
  split
  · rfl
  · rename_i hne
    induction l with
    | nil => rfl
    | cons p l ih =>
      simp only [List.filter_cons]
      by_cases e : p.1 = t
      · have : (!(p.1 == t)) = false := by simp [e]
        rw [this]
        simp only [Bool.false_eq_true, if_false, slot]
        rw [if_neg (by rw [e]; exact hne)]
        exact ih
      · have : (!(p.1 == t)) = true := by simp [e]
        rw [this]
        simp only [if_true, slot]
        rw [ih]
theorem frame_congr {l l' : List (Nat × IV)} {j : Nat → IV} (h : ∀ u, slot l j u = slot l' j u) : ∀ (n t : Nat), frame l j t n = frame l' j t n
  | 0, _ => rfl
  | n + 1, t => by simp only [frame, h t, frame_congr h n (t + 1)]
/-- A loop that builds a slice in one slot and leaves the heap alone else. -/
theorem w_loop_b {D : Plans} {c : Code} (hd : plansOK D c = true) (hz : Lt H.n z) (I : Nat → List (Nat × IV) → List (List IV) → Prop)
    (hstep : ∀ m l es o H1, I m l es → (∀ p ∈ l, Lt H.n p.2) → Bd H H1 s z es o → wcode P prim D c (frame ((t, o.iv s) :: l) none_ 0 n) H1.mark (kb H n t s z (fun l' es' => ∃ m', m' < m ∧ I m' l' es') Q))
    (m : Nat) (l : List (Nat × IV)) (es : List (List IV)) (o : SL) (hI : I m l es) (hB : Bd H H.mark s z es o) (a : List IV) (hf : Fr a n ((t, o.iv s) :: l)) (hlt : ∀ p ∈ l, Lt H.n p.2) : wloop P prim c a H Q := by
  refine w_loop_gh (Gh.weak (frame_weak hf)) ?_
  refine w_loop_ind hd (fun m a H' => ∃ l es o, I m l es ∧ Bd H H' s z es o ∧ a = frame ((t, o.iv s) :: l) none_ 0 n ∧ ∀ p ∈ l, Lt H.n p.2) ?_ m _ ⟨l, es, o, hI, hB, rfl, hlt⟩
  rintro m a H' ⟨l, es, o, hI, hB, rfl, hlt⟩
  refine wcode_mono (fun e a1 H1 h => ?_) (hstep m l es o H' hI hlt hB)
  have out : ∀ e, (bout H n t s z a1 H1 fun l es => (∀ v ∈ es.flatten, Lt H.n v) ∧ Q e (frame ((t, bl s z es) :: l) none_ 0 n) H) → lout H' a1 H1 (fun a2 H2 => lout H a2 H2 (Q e)) := fun e hb => by
    obtain ⟨o', l', es', hf', hlt', hB', hes, hq⟩ := hb
    refine lout_raw (frame_weak hf') ?_
    have hBb : Bd H (H'.back H1) s z es' o' := Bd.back hB.ext hB'
    have hfr : Fr (frame ((t, o'.iv s) :: l') none_ 0 n) n ((t, o'.iv s) :: l') := by
      refine ⟨frame_length _ _ _ _, fun p hp => ?_⟩
      have hp1 := (List.getElem?_eq_some_iff.1 (hf'.2 p hp)).1
      rw [hf'.1] at hp1
      rw [frame_get _ _ _ _ _ hp1, Nat.zero_add]
      have h1 := slot_of (a := a1) hf'.2 (hf'.2 p hp)
      congr 1
      have : ∀ (l : List (Nat × IV)), p ∈ l → slot l none_ p.1 = slot l (fun t => a1.getD t .dead) p.1 := by
        intro l hp
        induction l with
        | nil => cases hp
        | cons q l ih =>
          simp only [slot]
          split
          · rfl
          · rename_i hne
            cases hp with
            | head => exact absurd rfl hne
            | tail _ hp => exact ih hp
      rw [this _ hp]; exact h1
    obtain ⟨a3, H3, hg, hf3, hlo⟩ := hBb.gh hfr
    have hq3 : H.n ≤ (H'.back H1).lo := by
      have h1 := hB.ext.quiet
      have h2 := hB'.ext.quiet
      show H.n ≤ min H'.lo H1.lo
      omega
    have hw := frame_weak hf3
    have hfe : frame ((t, bl s z es') :: l'.filter (fun p => !(p.1 == t))) none_ 0 n = frame ((t, bl s z es') :: l') none_ 0 n := frame_congr (slot_filter none_) n 0
    rw [hfe] at hw
    refine lout_gh hg (lout_quiet (hlo hq3) hw (frame_lt fun p hp => ?_) hq)
    cases hp with
    | head =>
      simp only [bl]
      split
      · exact hz
      · exact .vs _ _ _ hes
    | tail _ hp => exact hlt' p hp
  cases e with
  | normal =>
    obtain ⟨o', l', es', hf', hlt', hB', m', hm', hI'⟩ := h
    exact lout_raw (frame_weak hf') ⟨m', hm', l', es', o', hI', Bd.back hB.ext hB', rfl, hlt'⟩
  | exit id => exact out _ h
  | goto l => exact out _ h
  | ret => exact out _ h
  | panic ch => exact out _ h
  | outgrown => exact out _ h
end
attribute [go_sem] kb_n kb_e kb_r
/-- Append to a slice that was made here. -/
theorem w_appN {P : Program} {e : TypeId} {F : Option (IV × IH) → Prop} {H H1 : IH} {s : Nat} {es : List (List IV)} {o : SL} {d2 : TypeDesc} {y : IV} {b : Nat} {zz : List IV} {new : List (List IV)} (hs : tSize P e = some s) (hb : tBytes P e = some b) (hz : tZero P e = some zz) (h1 : zz.length = s ∧ 0 < s ∧ 0 < b) (h2 : notInt d2 = true) (hy : srcElems H1 s y = some new) (hsol : solidEs new = true) (hne : new ≠ [])
    (ho : o.New H H1 s es) (hn : H.n ≤ H1.n) (hlen : (es.length + new.length) * b ≤ 2 ^ 47)
    (hF : ∀ (o' : SL) H3, o'.New H H3 s (es ++ new) → (∀ z, o'.fv s (es ++ new) = bl s z (es ++ new)) → H3.n = H1.n + 1 → (∀ i, i < H1.n → (o.isNil = false → i ≠ o.blk) → H3.f i = H1.f i) → (∀ m, m ≤ H.n → m ≤ H1.lo → m ≤ H3.lo) → (o'.isNil = false ∧ o'.blk = H1.n) → F (some (o'.iv s, H3))) : F (apD P H1 (some (.slice e)) (some d2) (o.iv s) y) := by
  rw [apD_sl hs hb hz h1 h2 hy hsol hne ho.at' ho.own hlen]
  refine hF (.mk H1.n 0 (es.length + new.length) false) _ (ho.app hn rfl) (fun z => ?_) (by rw [IH.push_n, SL.free_n]) (fun i hi hne' => ?_) (fun m h1 h2 => ?_) ⟨rfl, rfl⟩
  · simp only [SL.fv, bl]
    rw [if_neg (by simp [hne])]
  · rw [IH.push_f, SL.free_n, if_neg (by omega), SL.free_f fun h e => hne' h e.symm]
  · exact SL.free_lo (fun h => Nat.le_trans h1 (ho.new h)) h2
/-- Append to a slice that is built. -/
theorem w_app {P : Program} {e : TypeId} {F : Option (IV × IH) → Prop} {H H1 : IH} {s : Nat} {z : IV} {es : List (List IV)} {o : SL} {d2 : TypeDesc} {y : IV} {b : Nat} {zz : List IV} {new : List (List IV)} (hs : tSize P e = some s) (hb : tBytes P e = some b) (hz : tZero P e = some zz) (h1 : zz.length = s ∧ 0 < s ∧ 0 < b) (h2 : notInt d2 = true) (hy : srcElems H1 s y = some new) (hsol : solidEs new = true) (hne : new ≠ [])
    (hB : Bd H H1 s z es o) (hlen : (es.length + new.length) * b ≤ 2 ^ 47)
    (hF : ∀ (o' : SL) H3, Bd H H3 s z (es ++ new) o' → H3.n = H1.n + 1 → (∀ i, i < H1.n → (o.isNil = false → i ≠ o.blk) → H3.f i = H1.f i) → F (some (o'.iv s, H3))) : F (apD P H1 (some (.slice e)) (some d2) (o.iv s) y) := by
  have hn : H.n ≤ H1.n := hB.ext.n
  refine w_appN hs hb hz h1 h2 hy hsol hne hB.new hn hlen fun o' H3 h3 h4 h5 h6 h7 h8 => hF o' H3 ⟨⟨?_, fun i hi => ?_, ?_⟩, h3, h4 z⟩ h5 h6
  · show H.n ≤ H3.n; omega
  · have hi : i < H.n := hi
    rw [h6 i (by omega) fun h => by have := hB.new.new h; omega]; exact hB.ext.f i hi
  · show min H.n H.n ≤ H3.lo
    rw [Nat.min_self]
    exact h7 _ (Nat.le_refl _) hB.ext.quiet

/-! #### a slice that is built in a cell of a block -/
structure Cd (H H1 : IH) (c S j s : Nat) (e0 : List IV) (z : IV) (es : List (List IV)) (o : SL) : Prop where
  n : H.n ≤ H1.n
  f : ∀ i, i < H.n → i ≠ c → H1.f i = H.f i
  lo : c ≤ H1.lo
  cell : H1.f c = .cells true S [e0.set j (o.iv s)]
  new : o.New H H1 s es
  val : o.fv s es = bl s z es
section
variable {H H1 : IH} {c S j s : Nat} {e0 : List IV} {z : IV} {es : List (List IV)} {o : SL}
theorem Cd.mark (h : Cd H H1 c S j s e0 z es o) (hc : c < H.n) : Cd H H1.mark c S j s e0 z es o := ⟨h.n, h.f, Nat.le_trans (Nat.le_of_lt hc) h.n, h.cell, h.new.ext (Nat.le_refl _) fun _ _ => rfl, h.val⟩
theorem Cd.push (h : Cd H H1 c S j s e0 z es o) (hc : c < H.n) (b : IB) : Cd H (H1.push b) c S j s e0 z es o :=
  ⟨Nat.le_succ_of_le h.n, fun i hi hne => by rw [IH.push_f, if_neg (by have := h.n; omega)]; exact h.f i hi hne, h.lo, by rw [IH.push_f, if_neg (by have := h.n; omega)]; exact h.cell, h.new.ext (Nat.le_succ _) fun i hi => by rw [IH.push_f, if_neg (by omega)], h.val⟩
theorem Cd.set (h : Cd H H1 c S j s e0 z es o) (hc : c < H.n) {i : Nat} (hi : H.n ≤ i) (hne : o.isNil = false → i ≠ o.blk) (b : IB) : Cd H (H1.set i b) c S j s e0 z es o :=
  ⟨h.n, fun k hk hne => by rw [IH.set_f, if_neg (by omega)]; exact h.f k hk hne, by simp only [IH.set]; have := h.lo; split <;> omega, by rw [IH.set_f, if_neg (by omega)]; exact h.cell,
    ⟨h.new.at'.of fun hn => by rw [IH.set_f, if_neg (fun e => hne hn e.symm)], SL.own_of h.new.own fun hn => by rw [IH.set_f, if_neg (fun e => hne hn e.symm)], h.new.lt, h.new.new⟩, h.val⟩
theorem Cd.back {H' : IH} (h0 : c ≤ H'.lo) (h : Cd H H1 c S j s e0 z es o) : Cd H (H'.back H1) c S j s e0 z es o :=
  ⟨h.n, h.f, by show c ≤ min H'.lo H1.lo; have := h.lo; omega, h.cell, h.new.back, h.val⟩
theorem Cd.start (hc : c < H.n) (hf : H.f c = .cells true S [e0]) (hj : e0[j]? = some .nils) : Cd H H.mark c S j s e0 .nils [] .nil :=
  ⟨Nat.le_refl _, fun _ _ _ => rfl, Nat.le_of_lt hc, by
    have : e0.set j (SL.iv s .nil) = e0 := by
      apply List.ext_getElem?
      intro u
      by_cases e : u = j
      · subst e; rw [List.getElem?_set_self (List.getElem?_eq_some_iff.1 hj).1, hj]; rfl
      · rw [List.getElem?_set_ne (Ne.symm e)]
    rw [this]; exact hf, ⟨rfl, trivial, trivial, fun h => by cases h⟩, by simp [SL.fv, bl]⟩
/-- Append to the slice, and store it. -/
theorem w_appc {P : Program} {e : TypeId} {F : Option (IV × IH) → Prop} {d2 : TypeDesc} {y : IV} {b : Nat} {zz : List IV} {new : List (List IV)} (hs : tSize P e = some s) (hb : tBytes P e = some b) (hz : tZero P e = some zz) (h1 : zz.length = s ∧ 0 < s ∧ 0 < b) (h2 : notInt d2 = true) (hy : srcElems H1 s y = some new) (hsol : solidEs new = true) (hne : new ≠ []) (hc : c < H.n)
    (hC : Cd H H1 c S j s e0 z es o) (hlen : (es.length + new.length) * b ≤ 2 ^ 47)
    (hF : ∀ (o' : SL) H3, Cd H (H3.set c (.cells true S [e0.set j (o'.iv s)])) c S j s e0 z (es ++ new) o' → H3.n = H1.n + 1 → (∀ i, i < H1.n → (o.isNil = false → i ≠ o.blk) → H3.f i = H1.f i) → H3.f c = .cells true S [e0.set j (o.iv s)] → F (some (o'.iv s, H3))) : F (apD P H1 (some (.slice e)) (some d2) (o.iv s) y) := by
  have hn := hC.n
  refine w_appN hs hb hz h1 h2 hy hsol hne hC.new hn hlen fun o' H3 h3 h4 h5 h6 h7 h8 => ?_
  have hcc : H3.f c = H1.f c := h6 c (by omega) fun h => by have := hC.new.new h; omega
  have hcb : o'.isNil = false → o'.blk ≠ c := fun _ => by rw [h8.2]; omega
  refine hF o' H3 ⟨by show H.n ≤ H3.n; omega, fun i hi hne => ?_, ?_, by rw [IH.set_f, if_pos rfl], ⟨h3.at'.of fun h => by rw [IH.set_f, if_neg (hcb h)], SL.own_of h3.own fun h => by rw [IH.set_f, if_neg (hcb h)], h3.lt, h3.new⟩, h4 z⟩ h5 h6 (by rw [hcc]; exact hC.cell)
  · rw [IH.set_f, if_neg hne, h6 i (by omega) fun h => by have := hC.new.new h; omega]; exact hC.f i hi hne
  · have := h7 c (by omega) hC.lo
    simp only [IH.set]; split <;> omega
def cout (H : IH) (n c S j s : Nat) (e0 : List IV) (z : IV) (a1 : List IV) (H1 : IH) (R : List (Nat × IV) → List (List IV) → Prop) : Prop := ∃ o l es, Fr a1 n l ∧ (∀ p ∈ l, Lt H.n p.2) ∧ Cd H H1 c S j s e0 z es o ∧ R l es
def kc (H : IH) (n c S j s : Nat) (e0 : List IV) (z : IV) (N : List (Nat × IV) → List (List IV) → Prop) (Q : Post) : Post := fun e a1 H1 => match e with
  | .normal => cout H n c S j s e0 z a1 H1 N
  | e => cout H n c S j s e0 z a1 H1 fun l es => (∀ v ∈ es.flatten, Lt H.n v) ∧ Q e (frame l none_ 0 n) (H.set c (.cells true S [e0.set j (bl s z es)]))
variable {P : Program} {prim : CallRel} {a1 : List IV} {n : Nat} {N : List (Nat × IV) → List (List IV) → Prop} {Q : Post}
theorem kc_n : kc H n c S j s e0 z N Q .normal a1 H1 = cout H n c S j s e0 z a1 H1 N := rfl
theorem kc_e {id : Nat} : kc H n c S j s e0 z N Q (.exit id) a1 H1 = cout H n c S j s e0 z a1 H1 fun l es => (∀ v ∈ es.flatten, Lt H.n v) ∧ Q (.exit id) (frame l none_ 0 n) (H.set c (.cells true S [e0.set j (bl s z es)])) := rfl
theorem kc_r : kc H n c S j s e0 z N Q .ret a1 H1 = cout H n c S j s e0 z a1 H1 fun l es => (∀ v ∈ es.flatten, Lt H.n v) ∧ Q .ret (frame l none_ 0 n) (H.set c (.cells true S [e0.set j (bl s z es)])) := rfl
theorem frame_of {a : List IV} {l : List (Nat × IV)} (hf : Fr a n l) : Fr (frame l none_ 0 n) n l := by
  refine ⟨frame_length _ _ _ _, fun p hp => ?_⟩
  have hp1 := (List.getElem?_eq_some_iff.1 (hf.2 p hp)).1
  rw [hf.1] at hp1
  rw [frame_get _ _ _ _ _ hp1, Nat.zero_add]
  have h1 := slot_of (a := a) hf.2 (hf.2 p hp)
  congr 1
  have : ∀ (l : List (Nat × IV)), p ∈ l → slot l none_ p.1 = slot l (fun t => a.getD t .dead) p.1 := by
    intro l hp
    induction l with
    | nil => cases hp
    | cons q l ih =>
      simp only [slot]
      split
      · rfl
      · rename_i hne
        cases hp with
        | head => exact absurd rfl hne
        | tail _ hp => exact ih hp
  rw [this _ hp]; exact h1
/-- A loop that builds a slice in a cell of a block of its own. -/
theorem w_loop_c {D : Plans} {cd : Code} (hd : plansOK D cd = true) (hc : c < H.n) (hz : Lt H.n z) (he0 : ∀ v ∈ e0, Lt H.n v) (I : Nat → List (Nat × IV) → List (List IV) → Prop)
    (hstep : ∀ m l es o H1, I m l es → (∀ p ∈ l, Lt H.n p.2) → Cd H H1 c S j s e0 z es o → wcode P prim D cd (frame l none_ 0 n) H1.mark (kc H n c S j s e0 z (fun l' es' => ∃ m', m' < m ∧ I m' l' es') Q))
    (m : Nat) (l : List (Nat × IV)) (es : List (List IV)) (o : SL) (hI : I m l es) (hB : Cd H H.mark c S j s e0 z es o) (a : List IV) (hf : Fr a n l) (hlt : ∀ p ∈ l, Lt H.n p.2) : wloop P prim cd a H Q := by
  refine w_loop_gh (Gh.weak (frame_weak hf)) ?_
  refine w_loop_ind hd (fun m a H' => ∃ l es o, I m l es ∧ Cd H H' c S j s e0 z es o ∧ a = frame l none_ 0 n ∧ ∀ p ∈ l, Lt H.n p.2) ?_ m _ ⟨l, es, o, hI, hB, rfl, hlt⟩
  rintro m a H' ⟨l, es, o, hI, hB, rfl, hlt⟩
  refine wcode_mono (fun e a1 H1 h => ?_) (hstep m l es o H' hI hlt hB)
  have out : ∀ e, (cout H n c S j s e0 z a1 H1 fun l es => (∀ v ∈ es.flatten, Lt H.n v) ∧ Q e (frame l none_ 0 n) (H.set c (.cells true S [e0.set j (bl s z es)]))) → lout H' a1 H1 (fun a2 H2 => lout H a2 H2 (Q e)) := fun e hb => by
    obtain ⟨o', l', es', hf', hlt', hB', hes, hq⟩ := hb
    refine lout_raw (frame_weak hf') ?_
    have hBb : Cd H (H'.back H1) c S j s e0 z es' o' := Cd.back hB.lo hB'
    have hblt : Lt H.n (bl s z es') := by
      simp only [bl]
      split
      · exact hz
      · exact .vs _ _ _ hes
    have hcell : ∀ v ∈ e0.set j (bl s z es'), Lt H.n v := fun v hv => by
      rcases List.mem_or_eq_of_mem_set hv with h | h
      · exact he0 v h
      · rw [h]; exact hblt
    -- seen as a value
    have key : ∃ H3, Gh (frame l' none_ 0 n) (H'.back H1) (frame l' none_ 0 n) H3 ∧ H3.n = (H'.back H1).n ∧ (∀ i, i < H.n → i ≠ c → H3.f i = H.f i) ∧ H3.f c = .cells true S [e0.set j (bl s z es')] ∧ c ≤ H3.lo := by
      have hcn : c < (H'.back H1).n := Nat.lt_of_lt_of_le hc hBb.n
      cases ho : o' with
      | nil =>
        subst ho
        refine ⟨_, Gh.refl _ _, rfl, hBb.f, ?_, hBb.lo⟩
        rw [hBb.cell, ← hBb.val]; rfl
      | mk i k q f =>
        subst ho
        obtain ⟨own, es2, h1, h2, h3⟩ := hBb.new.at'
        have hi : i < (H'.back H1).n := hBb.new.lt
        have hin : H.n ≤ i := hBb.new.new rfl
        have hcf : ((H'.back H1).frz i s es2).f c = .cells true S [e0.set j (SL.iv s (.mk i k q f))] := by
          simp only [IH.frz, IH.set_f]; rw [if_neg (by omega)]; exact hBb.cell
        refine ⟨_, (gh_frz hi h1).trans (gh_blk (es' := [e0.set j (bl s z es')]) hcn hcf rfl fun q0 e e' he he' => ?_), rfl, fun x hx hne => ?_, by rw [IH.set_f, if_pos rfl], ?_⟩
        · cases q0 with
          | succ q0 => simp at he
          | zero =>
            simp at he he'
            subst he; subst he'
            refine ⟨by simp, fun u v v' hu hu' => ?_⟩
            by_cases hju : j = u
            · subst hju
              have hj := (List.getElem?_eq_some_iff.1 hu).1
              simp only [List.length_set] at hj
              rw [List.getElem?_set_self hj] at hu hu'
              cases hu; cases hu'
              rw [← hBb.val, ← h3]
              exact .vs i k q s f es2 (by simp [IH.frz, IH.set_f]) h2
            · rw [List.getElem?_set_ne hju] at hu hu'
              rw [hu] at hu'; cases hu'; exact .rfl _
        · rw [IH.set_f, if_neg hne]
          simp only [IH.frz, IH.set_f]; rw [if_neg (by omega)]; exact hBb.f x hx hne
        · have := hBb.lo
          simp only [IH.frz, IH.set]
          split <;> split <;> omega
    obtain ⟨H3, hg, hn3, hf3, hc3, hlo3⟩ := key
    have hbn := hBb.n
    refine lout_gh hg (lout_part (H2 := H.set c (.cells true S [e0.set j (bl s z es')])) rfl (fun i hi => ?_) ?_ (fun i hi => ?_) Weak.rfl (frame_lt hlt') hq)
    · rw [IH.set_f]
      by_cases e : i = c
      · rw [if_pos e, e, hc3]
      · rw [if_neg e, hf3 i hi e]
    · simp only [IH.set]; split <;> omega
    · by_cases e : i = c
      · right
        rw [e, hc3]
        intro x hx v hv
        simp at hx
        subst hx
        exact hcell v hv
      · exact .inl (hf3 i hi e)
  cases e with
  | normal =>
    obtain ⟨o', l', es', hf', hlt', hB', m', hm', hI'⟩ := h
    exact lout_raw (frame_weak hf') ⟨m', hm', l', es', o', hI', Cd.back hB.lo hB', rfl, hlt'⟩
  | exit id => exact out _ h
  | goto l => exact out _ h
  | ret => exact out _ h
  | panic ch => exact out _ h
  | outgrown => exact out _ h
end
attribute [go_sem] kc_n kc_e kc_r

/-! #### loops that turn some blocks -/
def IH.sets (H : IH) : List (Nat × IB) → IH
  | [] => H
  | p :: r => (H.sets r).set p.1 p.2
theorem sets_n (H : IH) : ∀ (u : List (Nat × IB)), (H.sets u).n = H.n
  | [] => rfl
  | p :: r => sets_n H r
theorem sets_lo (H : IH) : ∀ (u : List (Nat × IB)), (H.sets u).lo ≤ H.lo
  | [] => Nat.le_refl _
  | p :: r => Nat.le_trans (IH.set_lo_le _ _ _) (sets_lo H r)
theorem sets_f (H : IH) : ∀ {u : List (Nat × IB)} {i : Nat}, i ∉ u.map (·.1) → (H.sets u).f i = H.f i
  | [], _, _ => rfl
  | p :: r, i, h => by
    simp only [List.map_cons, List.mem_cons, not_or] at h
    simp only [IH.sets, IH.set_f]
    rw [if_neg h.1]
    exact sets_f H h.2
theorem sets_key (H : IH) : ∀ {u : List (Nat × IB)} {i : Nat}, i ∈ u.map (·.1) → ∃ p ∈ u, (H.sets u).f i = p.2
  | p :: r, i, h => by
    simp only [IH.sets, IH.set_f]
    by_cases e : i = p.1
    · exact ⟨p, List.mem_cons_self .., by rw [if_pos e]⟩
    · rw [if_neg e]
      simp only [List.map_cons, List.mem_cons] at h
      obtain ⟨q, hq, hf⟩ := sets_key H (h.resolve_left e)
      exact ⟨q, List.mem_cons_of_mem _ hq, hf⟩
def mout (H : IH) (n : Nat) (ks : List Nat) (a1 : List IV) (H1 : IH) (R : List (Nat × IV) → List (Nat × IB) → Prop) : Prop := ∃ l u, Fr a1 n l ∧ (∀ p ∈ l, Lt H.n p.2) ∧ u.map (·.1) = ks ∧ (∀ p ∈ u, LtB H.n p.2) ∧ (∀ i, i < H.n → H1.f i = (H.sets u).f i) ∧ (H.sets u).lo ≤ H1.lo ∧ R l u
def km (H : IH) (n : Nat) (ks : List Nat) (N : List (Nat × IV) → List (Nat × IB) → Prop) (Q : Post) : Post := fun e a1 H1 => match e with
  | .normal => mout H n ks a1 H1 N
  | e => mout H n ks a1 H1 fun l u => Q e (frame l none_ 0 n) (H.sets u)
section
variable {P : Program} {prim : CallRel} {H H1 : IH} {a1 : List IV} {n : Nat} {ks : List Nat} {N : List (Nat × IV) → List (Nat × IB) → Prop} {Q : Post}
theorem km_n : km H n ks N Q .normal a1 H1 = mout H n ks a1 H1 N := rfl
theorem km_e {id : Nat} : km H n ks N Q (.exit id) a1 H1 = mout H n ks a1 H1 fun l u => Q (.exit id) (frame l none_ 0 n) (H.sets u) := rfl
theorem km_r : km H n ks N Q .ret a1 H1 = mout H n ks a1 H1 fun l u => Q .ret (frame l none_ 0 n) (H.sets u) := rfl
theorem w_loop_m {D : Plans} {cd : Code} (hd : plansOK D cd = true) (I : Nat → List (Nat × IV) → List (Nat × IB) → Prop)
    (hstep : ∀ m l u, I m l u → (∀ p ∈ l, Lt H.n p.2) → wcode P prim D cd (frame l none_ 0 n) (H.sets u).mark (km H n ks (fun l' u' => ∃ m', m' < m ∧ I m' l' u') Q))
    (m : Nat) (l : List (Nat × IV)) (u : List (Nat × IB)) (hk : u.map (·.1) = ks) (hI : I m l u) (hu : ∀ i, H.f i = (H.sets u).f i) (hlo : (H.sets u).lo ≤ H.n) (a : List IV) (hf : Fr a n l) (hlt : ∀ p ∈ l, Lt H.n p.2) : wloop P prim cd a H Q := by
  refine w_loop_gh (Gh.weak (frame_weak hf)) ?_
  refine w_loop_ind hd (fun m a H' => ∃ l u, I m l u ∧ u.map (·.1) = ks ∧ H'.n = H.n ∧ H'.f = (H.sets u).f ∧ (H.sets u).lo ≤ H'.lo ∧ a = frame l none_ 0 n ∧ ∀ p ∈ l, Lt H.n p.2) ?_ m _ ⟨l, u, hI, hk, rfl, funext hu, hlo, rfl, hlt⟩
  · rintro m a H' ⟨l, u, hI, hk, hn, hff, hlo', rfl, hlt⟩
    have hm : H'.mark = (H.sets u).mark := by
      refine IH.ext' ?_ (fun i => ?_) ?_
      · show H'.n = (H.sets u).n; rw [sets_n, hn]
      · show H'.f i = _; rw [hff]; rfl
      · show H'.n = (H.sets u).n; rw [sets_n, hn]
    rw [hm]
    refine wcode_mono (fun e a1 H1 h => ?_) (hstep m l u hI hlt)
    have key : ∀ {S : List IV → IH → Prop} {R : List (Nat × IV) → List (Nat × IB) → Prop}, mout H n ks a1 H1 R → (∀ l' u' H2, u'.map (·.1) = ks → (∀ p ∈ u', LtB H.n p.2) → (∀ p ∈ l', Lt H.n p.2) → H2.n = H.n → H2.f = (H.sets u').f → (H.sets u').lo ≤ H2.lo → H2.lo ≤ H'.lo → R l' u' → S (frame l' none_ 0 n) H2) → lout H' a1 H1 S := by
      rintro S R ⟨l', u', hf', hlt', hk', hB, hfi, hlo', hr⟩ hs
      refine lout_part (H2 := ⟨H.n, (H.sets u').f, min H'.lo (H.sets u').lo⟩) hn.symm (fun i hi => ?_) ?_ (fun i hi => ?_) (frame_weak hf') ?_ (hs l' u' _ hk' hB hlt' rfl rfl ?_ (Nat.min_le_left _ _) hr)
      · exact (hfi i (by omega)).symm
      · show min H'.lo (H.sets u').lo ≤ _
        omega
      · rw [hn] at hi ⊢
        rw [hfi i hi]
        by_cases hik : i ∈ ks
        · obtain ⟨p, hp, hpf⟩ := sets_key H (u := u') (i := i) (by rw [hk']; exact hik)
          exact .inr (by rw [hpf]; exact hB p hp)
        · refine .inl ?_
          rw [hff, sets_f H (by rw [hk']; exact hik), sets_f H (by rw [hk]; exact hik)]
      · rw [hn]; exact frame_lt hlt'
      · show (H.sets u').lo ≤ min H'.lo (H.sets u').lo
        have : (H.sets u').lo ≤ (H.sets u).lo := by
          have key : ∀ (u u' : List (Nat × IB)), u'.map (·.1) = u.map (·.1) → (H.sets u').lo = (H.sets u).lo := by
            intro u
            induction u with
            | nil => intro u' h; cases u' with
              | nil => rfl
              | cons => simp at h
            | cons p u ih => intro u' h; cases u' with
              | nil => simp at h
              | cons p' u' =>
                simp only [List.map_cons, List.cons.injEq] at h
                simp only [IH.sets, IH.set, ih u' h.2, h.1]
          rw [key u u' (by rw [hk, hk'])]; exact Nat.le_refl _
        omega
    have out : ∀ e, mout H n ks a1 H1 (fun l u => Q e (frame l none_ 0 n) (H.sets u)) → lout H' a1 H1 (fun a2 H2 => lout H a2 H2 (Q e)) := fun e h => key h fun l' u' H2 hk' hB hlt' hn2 hf2 hlo2 hle2 hq => by
      refine lout_part (H2 := H.sets u') (sets_n H u') (fun i _ => by rw [hf2]) ?_ (fun i hi => ?_) Weak.rfl (frame_lt hlt') hq
      · have := sets_lo H u'; omega
      · rw [hf2]
        by_cases hik : i ∈ ks
        · obtain ⟨p, hp, hpf⟩ := sets_key H (u := u') (i := i) (by rw [hk']; exact hik)
          exact .inr (by rw [hpf]; exact hB p hp)
        · exact .inl (sets_f H (by rw [hk']; exact hik))
    cases e with
    | normal => exact key h fun l' u' H2 hk' _ hlt' hn2 hf2 hlo2 _ ⟨m', hm', hI'⟩ => ⟨m', hm', l', u', hI', hk', hn2, hf2, hlo2, rfl, hlt'⟩
    | exit id => exact out _ h
    | goto l => exact out _ h
    | ret => exact out _ h
    | panic ch => exact out _ h
    | outgrown => exact out _ h
end
theorem sets_nil (H : IH) : H.sets [] = H := rfl
theorem sets_cons (H : IH) (p : Nat × IB) (r : List (Nat × IB)) : H.sets (p :: r) = (H.sets r).set p.1 p.2 := rfl
attribute [go_sem] km_n km_e km_r sets_nil sets_cons
end Go.Proofs.Ytnapimfiikgaiaa.Eng
