/- The ideal machine, part 2: what a new block, a store, a move of a block do, in the ideal heap and in the model's world. Nothing here is a claim of its own. -/
import Derived.Test.YtnapimfiikgaiaaEng1
namespace Go.Proofs.Ytnapimfiikgaiaa.Eng

def IH.push (H : IH) (b : IB) : IH := ⟨H.n + 1, fun i => if i = H.n then b else H.f i, H.lo⟩
def IH.set (H : IH) (i : Nat) (b : IB) : IH := ⟨H.n, fun j => if j = i then b else H.f j, if i < H.lo then i else H.lo⟩

theorem IH.push_f (H : IH) (b : IB) (i : Nat) : (H.push b).f i = if i = H.n then b else H.f i := rfl
theorem IH.set_f (H : IH) (i : Nat) (b : IB) (j : Nat) : (H.set i b).f j = if j = i then b else H.f j := rfl

theorem MR.mono {env env' : Env} {N N' : Nat} (he : EnvEq N env env') (hN : N ≤ N') : ∀ {l : List (IV × IV)} {r : List MapEntry}, MR env N l r → MR env' N' l r
  | _, _, .nil => .nil
  | _, _, .cons _ _ _ _ _ hk hv hs => .cons _ _ _ _ _ (hk.mono he hN) (hv.mono he hN) (MR.mono he hN hs)

theorem Cells.keep {env env' : Env} {N N' : Nat} {w w' : World} {p : Pl} {es : List (List IV)} (h : Cells env N w p es) (he : EnvEq N env env') (hN : N ≤ N')
    (hb : w'.heap[p.b]? = w.heap[p.b]?) : Cells env' N' w' p es :=
  ⟨h.1, fun k e hk j v hj => let ⟨x, hx, hv⟩ := h.2 k e hk j v hj; ⟨x, by rw [World.cell?_of_block (w := w) hb]; exact hx, hv.mono he hN⟩⟩

theorem BR.keep {base : Nat} {env env' : Env} {N N' : Nat} {w w' : World} {p : Pl} {ib : IB} (h : BR base env N w p ib) (he : EnvEq N env env') (hN : N ≤ N')
    (hb : w'.heap[p.b]? = w.heap[p.b]?) : BR base env' N' w' p ib := by
  cases ib with
  | dead => trivial
  | cells own s es =>
    cases own with
    | true =>
      obtain ⟨h1, h2, h3, h4⟩ := h
      exact ⟨h1, h2.keep he hN hb, h3, by unfold OwnRow at *; rw [hb]; exact h4⟩
    | false =>
      obtain ⟨h1, h2, arr, h3⟩ := h
      exact ⟨h1, h2.keep he hN hb, arr, he.le _ _ h3⟩
  | map es =>
    obtain ⟨h1, ents, clock, h2, h3⟩ := h
    exact ⟨h1, ents, clock, by rw [hb]; exact h2, h3.mono he hN⟩

theorem BR.bound {base : Nat} {env : Env} {H : IH} {w : World} (h : SR base env H w) {i : Nat} (hi : i < H.n) (ho : Owned H i) : base ≤ (env i).b ∧ (env i).b < w.heap.size := by
  have hb := h.blk i hi
  rcases ho with ⟨s, es, he⟩ | ⟨es, he⟩
  · rw [he] at hb
    obtain ⟨_, _, h3, arr, ty, lo, hi', h4, _⟩ := hb
    exact ⟨h3, (Array.getElem?_eq_some_iff.1 h4).1⟩
  · rw [he] at hb
    obtain ⟨h3, ents, clock, h4, _⟩ := hb
    exact ⟨h3, (Array.getElem?_eq_some_iff.1 h4).1⟩

theorem SR.frz_lt {base : Nat} {env : Env} {H : IH} {w : World} (h : SR base env H w) {b : Nat} {arr : Array Value} (hb : env.fz b = some arr) : b < w.heap.size := by
  obtain ⟨⟨ty, fr, e⟩, _⟩ := h.frz b arr hb
  exact (Array.getElem?_eq_some_iff.1 e).1
theorem SR.fz_none {base : Nat} {env : Env} {H : IH} {w : World} (h : SR base env H w) {i : Nat} (hi : i < H.n) (ho : Owned H i) : env.fz (env i).b = none := by
  cases hf : env.fz (env i).b with
  | none => rfl
  | some arr => exact absurd rfl ((h.frz _ _ hf).2 i hi ho)
theorem SR.fz_new {base : Nat} {env : Env} {H : IH} {w : World} (h : SR base env H w) : env.fz w.heap.size = none := by
  cases hf : env.fz w.heap.size with
  | none => rfl
  | some arr => have := h.frz_lt hf; omega

/-- A block that is not the one that turns is as it was. -/
theorem BR.other {base : Nat} {env env' : Env} {H : IH} {w w' : World} {N' : Nat} (h : SR base env H w) {c : Nat} (hc : env.fz c = none)
    (hsame : ∀ b, b < w.heap.size → b ≠ c → w'.heap[b]? = w.heap[b]?) (he : EnvEq H.n env env') (hN : H.n ≤ N') {j : Nat} (hj : j < H.n)
    (hne : Owned H j → (env j).b ≠ c) : BR base env' N' w' (env j) (H.f j) := by
  have hb := h.blk j hj
  cases hf : H.f j with
  | dead => trivial
  | cells own s es =>
    have hlt : (env j).b < w.heap.size ∧ (env j).b ≠ c := by
      cases own with
      | true => exact ⟨(BR.bound h hj (.inl ⟨s, es, hf⟩)).2, hne (.inl ⟨s, es, hf⟩)⟩
      | false =>
        rw [hf] at hb
        obtain ⟨_, _, arr, hb⟩ := hb
        exact ⟨h.frz_lt hb, fun e => by rw [e, hc] at hb; cases hb⟩
    rw [← hf]
    exact hb.keep he hN (hsame _ hlt.1 hlt.2)
  | map es =>
    rw [← hf]
    exact hb.keep he hN (hsame _ (BR.bound h hj (.inr ⟨es, hf⟩)).2 (hne (.inr ⟨es, hf⟩)))

def upd (env : Env) (n : Nat) (p : Pl) : Env := ⟨fun i => if i = n then p else env i, env.fz⟩
theorem upd_lt {env : Env} {n : Nat} {p : Pl} : ∀ i, i < n → upd env n p i = env i := fun i hi => by show (if i = n then p else env i) = env i; rw [if_neg (by omega)]
theorem upd_eq {env : Env} {n : Nat} {p : Pl} : EnvEq n env (upd env n p) := ⟨upd_lt, Env.le_refl _⟩
theorem upd_fz {env : Env} {n : Nat} {p : Pl} : (upd env n p).fz = env.fz := rfl
theorem upd_at {env : Env} {n : Nat} {p : Pl} : upd env n p n = p := by simp [upd]

/-- Nothing but draws: the heap is the same. -/
theorem SR.same {base : Nat} {env : Env} {H : IH} {w w' : World} (h : SR base env H w) (hh : w'.heap = w.heap) : SR base env H w' :=
  ⟨by rw [hh]; exact h.bs, fun i hi => (h.blk i hi).keep (.refl _ _) (Nat.le_refl _) (by rw [hh]), h.dis, fun b arr hb => by rw [hh]; exact h.frz b arr hb⟩
theorem Sim.same {base : Nat} {env : Env} {H : IH} {w w' : World} (h : SR base env H w) (hh : w'.heap = w.heap) (h1 : w'.os = w.os) (h2 : w'.tape = w.tape) (h3 : w'.output = w.output) : Sim base env H w env H w' :=
  ⟨h.same hh, .refl _ _, Nat.le_refl _, Nat.le_refl _, by rw [hh]; exact Nat.le_refl _, h1, h2, h3, fun _ _ _ => by rw [hh], fun _ hj ho => .inl ⟨hj, ho⟩, fun _ _ h => h, fun _ _ _ => rfl, fun _ _ h => .inl h⟩

theorem Owned.push {H : IH} {b : IB} {i : Nat} (hi : i < H.n) : Owned (H.push b) i ↔ Owned H i := by
  unfold Owned; rw [IH.push_f, if_neg (by omega)]

/-- A new block of cells. -/
theorem Sim.pushCells {base : Nat} {env : Env} {H : IH} {w w' : World} (h : SR base env H w) (arr : Array Value) (ty : TypeId) (lo hi s : Nat) (es : List (List IV))
    (hw : w'.heap = w.heap.push (.cells arr ty (lo, hi))) (h1 : w'.os = w.os) (h2 : w'.tape = w.tape) (h3 : w'.output = w.output)
    (hes : ∀ e ∈ es, e.length = s) (hsz : es.length * s ≤ arr.size) (hfr : ∀ o, o < arr.size → ¬ (lo ≤ o ∧ o < hi))
    (hcell : ∀ (k : Nat) (e : List IV), es[k]? = some e → ∀ (j : Nat) (v : IV), e[j]? = some v → ∃ x, arr[k * s + j]? = some x ∧ VR env H.n v x) :
    Sim base env H w (upd env H.n ⟨w.heap.size, 0, s, arr.size, true⟩) (H.push (.cells true s es)) w' := by
  have hsame : ∀ b, b < w.heap.size → b ≠ w.heap.size → w'.heap[b]? = w.heap[b]? := fun b hb _ => by rw [hw, Array.getElem?_push, if_neg (by omega)]
  have hnew : w'.heap[w.heap.size]? = some (.cells arr ty (lo, hi)) := by rw [hw]; simp
  refine ⟨⟨by rw [hw]; have := h.bs; simp; omega, ?_, ?_, fun b arr hb => ⟨let ⟨ty, fr, e⟩ := (h.frz b arr hb).1; ⟨ty, fr, (hsame b (h.frz_lt hb) (by have := h.frz_lt hb; omega)).trans e⟩, fun i hi' ho => ?_⟩⟩, upd_eq, by simp [IH.push], Nat.le_refl _, by rw [hw]; simp, h1, h2, h3, fun b hb _ => hsame b hb (by omega), ?_, ?_, ?_, fun _ _ h => .inl h⟩
  · intro i hi'
    by_cases e : i = H.n
    · subst e
      rw [upd_at, IH.push_f, if_pos rfl]
      refine ⟨rfl, ⟨hes, fun k e hk j v hj => ?_⟩, h.bs, arr, ty, lo, hi, hnew, Nat.le_refl _, by simpa using hsz, hfr⟩
      obtain ⟨x, hx, hv⟩ := hcell k e hk j v hj
      refine ⟨x, ?_, hv.mono upd_eq (by simp [IH.push])⟩
      simp only [World.cell?, hnew]
      simpa using hx
    · have hi2 : i < H.n := by simp only [IH.push] at hi'; omega
      rw [upd_lt i hi2, IH.push_f, if_neg e]
      exact BR.other h h.fz_new hsame upd_eq (by simp [IH.push]) hi2 (fun ho => by have := (BR.bound h hi2 ho).2; omega)
  · intro i j hi' hj' hij ho1 ho2
    by_cases e : i = H.n
    · subst e
      have hj2 : j < H.n := by simp only [IH.push] at hj'; omega
      rw [upd_at, upd_lt j hj2]
      have := (BR.bound h hj2 ((Owned.push hj2).1 ho2)).2
      simp; omega
    · have hi2 : i < H.n := by simp only [IH.push] at hi'; omega
      have hb1 := (BR.bound h hi2 ((Owned.push hi2).1 ho1)).2
      by_cases e2 : j = H.n
      · subst e2
        rw [upd_at, upd_lt i hi2]
        simp; omega
      · have hj2 : j < H.n := by simp only [IH.push] at hj'; omega
        rw [upd_lt i hi2, upd_lt j hj2]
        exact h.dis i j hi2 hj2 hij ((Owned.push hi2).1 ho1) ((Owned.push hj2).1 ho2)
  · have hlt := h.frz_lt hb
    by_cases e : i = H.n
    · subst e; rw [upd_at]; simp; omega
    · have hi2 : i < H.n := by simp only [IH.push] at hi'; omega
      rw [upd_lt i hi2]
      exact (h.frz b arr hb).2 i hi2 ((Owned.push hi2).1 ho)
  · intro j hj ho
    by_cases e : j = H.n
    · subst e; exact .inr (.inl (by rw [upd_at]; exact Nat.le_refl _))
    · have hj2 : j < H.n := by simp only [IH.push] at hj; omega
      exact .inl ⟨hj2, (Owned.push hj2).1 ho⟩
  · intro j hj hd; rw [IH.push_f, if_neg (by omega)]; exact hd
  · intro j hj _; rw [IH.push_f, if_neg (by omega)]

/-- A new map. -/
theorem Sim.pushMap {base : Nat} {env : Env} {H : IH} {w w' : World} (h : SR base env H w)
    (hw : w'.heap = w.heap.push (.map #[] 0)) (h1 : w'.os = w.os) (h2 : w'.tape = w.tape) (h3 : w'.output = w.output) :
    Sim base env H w (upd env H.n ⟨w.heap.size, 0, 0, 0, true⟩) (H.push (.map [])) w' := by
  have hsame : ∀ b, b < w.heap.size → b ≠ w.heap.size → w'.heap[b]? = w.heap[b]? := fun b hb _ => by rw [hw, Array.getElem?_push, if_neg (by omega)]
  have hnew : w'.heap[w.heap.size]? = some (.map #[] 0) := by rw [hw]; simp
  refine ⟨⟨by rw [hw]; have := h.bs; simp; omega, ?_, ?_, fun b arr hb => ⟨let ⟨ty, fr, e⟩ := (h.frz b arr hb).1; ⟨ty, fr, (hsame b (h.frz_lt hb) (by have := h.frz_lt hb; omega)).trans e⟩, fun i hi' ho => ?_⟩⟩, upd_eq, by simp [IH.push], Nat.le_refl _, by rw [hw]; simp, h1, h2, h3, fun b hb _ => hsame b hb (by omega), ?_, ?_, ?_, fun _ _ h => .inl h⟩
  · intro i hi'
    by_cases e : i = H.n
    · subst e
      rw [upd_at, IH.push_f, if_pos rfl]
      exact ⟨h.bs, #[], 0, hnew, .nil⟩
    · have hi2 : i < H.n := by simp only [IH.push] at hi'; omega
      rw [upd_lt i hi2, IH.push_f, if_neg e]
      exact BR.other h h.fz_new hsame upd_eq (by simp [IH.push]) hi2 (fun ho => by have := (BR.bound h hi2 ho).2; omega)
  · intro i j hi' hj' hij ho1 ho2
    by_cases e : i = H.n
    · subst e
      have hj2 : j < H.n := by simp only [IH.push] at hj'; omega
      rw [upd_at, upd_lt j hj2]
      have := (BR.bound h hj2 ((Owned.push hj2).1 ho2)).2
      simp; omega
    · have hi2 : i < H.n := by simp only [IH.push] at hi'; omega
      have hb1 := (BR.bound h hi2 ((Owned.push hi2).1 ho1)).2
      by_cases e2 : j = H.n
      · subst e2
        rw [upd_at, upd_lt i hi2]
        simp; omega
      · have hj2 : j < H.n := by simp only [IH.push] at hj'; omega
        rw [upd_lt i hi2, upd_lt j hj2]
        exact h.dis i j hi2 hj2 hij ((Owned.push hi2).1 ho1) ((Owned.push hj2).1 ho2)
  · have hlt := h.frz_lt hb
    by_cases e : i = H.n
    · subst e; rw [upd_at]; simp; omega
    · have hi2 : i < H.n := by simp only [IH.push] at hi'; omega
      rw [upd_lt i hi2]
      exact (h.frz b arr hb).2 i hi2 ((Owned.push hi2).1 ho)
  · intro j hj ho
    by_cases e : j = H.n
    · subst e; exact .inr (.inl (by rw [upd_at]; exact Nat.le_refl _))
    · have hj2 : j < H.n := by simp only [IH.push] at hj; omega
      exact .inl ⟨hj2, (Owned.push hj2).1 ho⟩
  · intro j hj hd; rw [IH.push_f, if_neg (by omega)]; exact hd
  · intro j hj _; rw [IH.push_f, if_neg (by omega)]

theorem IH.set_lo_le (H : IH) (i : Nat) (b : IB) : (H.set i b).lo ≤ H.lo := by simp only [IH.set]; split <;> omega
theorem IH.set_lo_le' (H : IH) (i : Nat) (b : IB) : (H.set i b).lo ≤ i := by simp only [IH.set]; split <;> omega

/-- An owned block turns into another one of the same place. -/
theorem Sim.setBlock {base : Nat} {env : Env} {H : IH} {w w' : World} (h : SR base env H w) {i : Nat} (hi : i < H.n) (ho : Owned H i) (ib : IB)
    (hsame : ∀ b, b < w.heap.size → b ≠ (env i).b → w'.heap[b]? = w.heap[b]?) (hz : w'.heap.size = w.heap.size) (h1 : w'.os = w.os) (h2 : w'.tape = w.tape) (h3 : w'.output = w.output)
    (hnew : BR base env H.n w' (env i) ib) : Sim base env H w env (H.set i ib) w' := by
  have hoi := BR.bound h hi ho
  have hown : ∀ j, Owned (H.set i ib) j → j ≠ i → Owned H j := fun j hj hne => by
    unfold Owned at *; rw [IH.set_f, if_neg hne] at hj; exact hj
  have hown' : ∀ j, j < H.n → Owned (H.set i ib) j → Owned H j := fun j _ hj => by
    by_cases e : j = i
    · subst e; exact ho
    · exact hown j hj e
  have hfn := h.fz_none hi ho
  refine ⟨⟨by rw [hz]; exact h.bs, ?_, fun a b ha hb hab h1 h2 => h.dis a b ha hb hab (hown' a ha h1) (hown' b hb h2), fun b arr hb => ⟨let ⟨ty, fr, e⟩ := (h.frz b arr hb).1; ⟨ty, fr, (hsame b (h.frz_lt hb) (fun e => by rw [e, hfn] at hb; cases hb)).trans e⟩, fun j hj hoj => (h.frz b arr hb).2 j hj (hown' j hj hoj)⟩⟩, .refl _ _, Nat.le_refl _, IH.set_lo_le _ _ _, by rw [hz]; exact Nat.le_refl _, h1, h2, h3, ?_, fun j hj hoj => .inl ⟨hj, hown' j hj hoj⟩, ?_, ?_, fun _ _ h => .inl h⟩
  · intro j hj
    rw [IH.set_f]
    by_cases e : j = i
    · subst e; rw [if_pos rfl]; exact hnew
    · rw [if_neg e]
      exact BR.other h hfn hsame (.refl _ _) (Nat.le_refl _) hj (fun hoj => h.dis j i hj hi e hoj ho)
  · intro b hb hall
    refine hsame b hb fun hbe => ?_
    have := hall i hi ho hbe.symm
    have := IH.set_lo_le' H i ib
    omega
  · intro j hj hd
    rw [IH.set_f]
    split
    · rename_i e; subst e
      rcases ho with ⟨s, es, he⟩ | ⟨es, he⟩ <;> rw [he] at hd <;> cases hd
    · exact hd
  · intro j hj hlo
    have := IH.set_lo_le' H i ib
    rw [IH.set_f, if_neg (by omega)]

/-- A block is given up. -/
theorem Sim.kill {base : Nat} {env : Env} {H : IH} {w : World} (h : SR base env H w) (i : Nat) : Sim base env H w env (H.set i .dead) w := by
  have hown' : ∀ j, Owned (H.set i .dead) j → Owned H j := fun j hj => by
    unfold Owned at *; rw [IH.set_f] at hj
    split at hj
    · rcases hj with ⟨_, _, hj⟩ | ⟨_, hj⟩ <;> cases hj
    · exact hj
  refine ⟨⟨h.bs, ?_, fun a b ha hb hab h1 h2 => h.dis a b ha hb hab (hown' a h1) (hown' b h2), fun b arr hb => ⟨(h.frz b arr hb).1, fun j hj hoj => (h.frz b arr hb).2 j hj (hown' j hoj)⟩⟩, .refl _ _, Nat.le_refl _, IH.set_lo_le _ _ _, Nat.le_refl _, rfl, rfl, rfl, fun _ _ _ => rfl, fun j hj hoj => .inl ⟨hj, hown' j hoj⟩, ?_, ?_, fun _ _ h => .inl h⟩
  · intro j hj
    rw [IH.set_f]
    split
    · trivial
    · exact h.blk j hj
  · intro j hj hd; rw [IH.set_f]; split <;> first | rfl | exact hd
  · intro j hj hlo
    have := IH.set_lo_le' H i .dead
    rw [IH.set_f, if_neg (by omega)]

/-- An owned block moves to a new name, with other contents, in the same place of the model. -/
theorem Sim.move {base : Nat} {env : Env} {H : IH} {w w' : World} (h : SR base env H w) {i : Nat} (hi : i < H.n) (ho : Owned H i) (p : Pl) (hp : p.b = (env i).b) (s : Nat) (es : List (List IV))
    (hsame : ∀ b, b < w.heap.size → b ≠ (env i).b → w'.heap[b]? = w.heap[b]?) (hz : w'.heap.size = w.heap.size) (h1 : w'.os = w.os) (h2 : w'.tape = w.tape) (h3 : w'.output = w.output)
    (hs : p.s = s) (hcells : Cells env H.n w' p es) (hrow : OwnRow w' p es.length) : Sim base env H w (upd env H.n p) ((H.set i .dead).push (.cells true s es)) w' := by
  have hoi := BR.bound h hi ho
  have hfi : ∀ j, j < H.n → ((H.set i .dead).push (.cells true s es)).f j = if j = i then .dead else H.f j := fun j hj => by
    rw [IH.push_f, if_neg (by simp only [IH.set]; omega), IH.set_f]
  have hfn : ((H.set i .dead).push (.cells true s es)).f H.n = .cells true s es := by
    show (if H.n = H.n then _ else _) = _; rw [if_pos rfl]
  have hn : ((H.set i .dead).push (.cells true s es)).n = H.n + 1 := rfl
  have hlo : ((H.set i .dead).push (.cells true s es)).lo = (H.set i .dead).lo := rfl
  have hown : ∀ j, j < H.n → Owned ((H.set i .dead).push (.cells true s es)) j → j ≠ i ∧ Owned H j := fun j hj hoj => by
    unfold Owned at hoj; rw [hfi j hj] at hoj
    split at hoj
    · rcases hoj with ⟨_, _, hj⟩ | ⟨_, hj⟩ <;> cases hj
    · exact ⟨by assumption, hoj⟩
  have hfz := h.fz_none hi ho
  refine ⟨⟨by rw [hz]; exact h.bs, ?_, ?_, fun b arr hb => ⟨let ⟨ty, fr, e⟩ := (h.frz b arr hb).1; ⟨ty, fr, (hsame b (h.frz_lt hb) (fun e => by rw [e] at hb; exact absurd (hfz.symm.trans hb) (by simp))).trans e⟩, fun j hj hoj => ?_⟩⟩, upd_eq, by rw [hn]; omega, by rw [hlo]; exact IH.set_lo_le _ _ _, by rw [hz]; exact Nat.le_refl _, h1, h2, h3, ?_, ?_, ?_, ?_, fun _ _ h => .inl h⟩
  · intro j hj
    rw [hn] at hj
    by_cases e : j = H.n
    · subst e
      rw [hfn, upd_at, hn]
      refine ⟨hs, ⟨hcells.1, fun k e hk j v hj => ?_⟩, by rw [hp]; exact hoi.1, hrow⟩
      obtain ⟨x, hx, hv⟩ := hcells.2 k e hk j v hj
      exact ⟨x, hx, hv.mono upd_eq (by omega)⟩
    · have hj2 : j < H.n := by omega
      rw [hfi j hj2, upd_lt j hj2, hn]
      split
      · trivial
      · rename_i hne
        exact BR.other h hfz hsame upd_eq (by omega) hj2 (fun hoj => h.dis j i hj2 hi hne hoj ho)
  · intro a b ha hb hab hoa hob
    rw [hn] at ha hb
    by_cases ea : a = H.n
    · subst ea
      have hb2 : b < H.n := by omega
      obtain ⟨hne, hob'⟩ := hown b hb2 hob
      rw [upd_at, upd_lt b hb2, hp]
      exact h.dis i b hi hb2 (fun e => hne e.symm) ho hob'
    · have ha2 : a < H.n := by omega
      obtain ⟨hne, hoa'⟩ := hown a ha2 hoa
      by_cases eb : b = H.n
      · subst eb
        rw [upd_at, upd_lt a ha2, hp]
        exact h.dis a i ha2 hi hne hoa' ho
      · have hb2 : b < H.n := by omega
        rw [upd_lt a ha2, upd_lt b hb2]
        exact h.dis a b ha2 hb2 hab hoa' (hown b hb2 hob).2
  · rw [hn] at hj
    by_cases e : j = H.n
    · subst e; rw [upd_at, hp]; exact (h.frz b arr hb).2 i hi ho
    · have hj2 : j < H.n := by omega
      rw [upd_lt j hj2]
      exact (h.frz b arr hb).2 j hj2 (hown j hj2 hoj).2
  · intro b hb hall
    refine hsame b hb fun hbe => ?_
    have := hall i hi ho hbe.symm
    rw [hlo] at this
    have := IH.set_lo_le' H i .dead
    omega
  · intro j hj hoj
    rw [hn] at hj
    by_cases e : j = H.n
    · subst e
      refine .inr (.inr ⟨i, hi, ho, ?_, by rw [hlo]; exact IH.set_lo_le' _ _ _⟩)
      rw [upd_at, hp]
    · exact .inl ⟨by omega, (hown j (by omega) hoj).2⟩
  · intro j hj hd; rw [hfi j hj]; split <;> first | rfl | exact hd
  · intro j hj hl
    rw [hlo] at hl
    have := IH.set_lo_le' H i .dead
    rw [hfi j hj, if_neg (by omega)]

end Go.Proofs.Ytnapimfiikgaiaa.Eng
