/- Loops with a heap that grows. Nothing here is a claim of its own. -/
import Derived.Test.YtnapimfiikgaiaaVal1
namespace Go.Proofs.Ytnapimfiikgaiaa.Eng
set_option linter.unusedSimpArgs false
set_option linter.unusedVariables false

/-- What a round of such a loop leaves. -/
def rout (G : IH) (n : Nat) (a1 : List IV) (H1 : IH) (R : List (Nat × IV) → IH → Prop) : Prop := ∃ a3 H3 l, Gh a1 H1 a3 H3 ∧ Fr a3 n l ∧ R l ⟨H3.n, H3.f, min G.lo H3.lo⟩
def kr (G H : IH) (n : Nat) (N : List (Nat × IV) → IH → Prop) (Q : Post) : Post := fun e a1 H1 => match e with
  | .normal => rout G n a1 H1 N
  | e => rout G n a1 H1 fun l H2 => Q e (frame l none_ 0 n) ⟨H2.n, H2.f, min H.lo H2.lo⟩
variable {P : Program} {prim : CallRel} {G H H1 : IH} {a1 : List IV} {n : Nat} {N : List (Nat × IV) → IH → Prop} {Q : Post}
theorem kr_n : kr G H n N Q .normal a1 H1 = rout G n a1 H1 N := rfl
theorem kr_e {id : Nat} : kr G H n N Q (.exit id) a1 H1 = rout G n a1 H1 fun l H2 => Q (.exit id) (frame l none_ 0 n) ⟨H2.n, H2.f, min H.lo H2.lo⟩ := rfl
theorem kr_r : kr G H n N Q .ret a1 H1 = rout G n a1 H1 fun l H2 => Q .ret (frame l none_ 0 n) ⟨H2.n, H2.f, min H.lo H2.lo⟩ := rfl
attribute [go_sem] kr_n kr_e kr_r
theorem rout_lout {R : List (Nat × IV) → IH → Prop} {S : List IV → IH → Prop} (h : rout G n a1 H1 R) (hs : ∀ l H2, R l H2 → S (frame l none_ 0 n) H2) : lout G a1 H1 S := by
  obtain ⟨a3, H3, l, hg, hf, hr⟩ := h
  exact lout_gh hg (lout_raw (frame_weak hf) (hs _ _ hr))
/-- The plain end of a round. -/
theorem rout_of {R : List (Nat × IV) → IH → Prop} (l : List (Nat × IV)) (hf : Fr a1 n l) (h : R l ⟨H1.n, H1.f, min G.lo H1.lo⟩) : rout G n a1 H1 R := ⟨a1, H1, l, Gh.refl _ _, hf, h⟩
/-- A loop, its slots and its heap. -/
theorem w_loop_r {D : Plans} {c : Code} (hd : plansOK D c = true) (I : Nat → List (Nat × IV) → IH → Prop)
    (hstep : ∀ m l G, I m l G → wcode P prim D c (frame l none_ 0 n) G.mark (kr G H n (fun l' H2 => ∃ m', m' < m ∧ I m' l' H2) Q))
    (m : Nat) (l : List (Nat × IV)) (hI : I m l H.mark) (a : List IV) (hf : Fr a n l) : wloop P prim c a H Q := by
  refine w_loop_gh (Gh.weak (frame_weak hf)) ?_
  refine w_loop_ind hd (fun m a H' => ∃ l, I m l H' ∧ a = frame l none_ 0 n) ?_ m _ ⟨l, hI, rfl⟩
  rintro m a H' ⟨l, hI, rfl⟩
  refine wcode_mono (fun e a1 H1 h => ?_) (hstep m l H' hI)
  have out : ∀ e, (rout H' n a1 H1 fun l H2 => Q e (frame l none_ 0 n) ⟨H2.n, H2.f, min H.lo H2.lo⟩) → lout H' a1 H1 (fun a2 H2 => lout H a2 H2 (Q e)) := fun e hb =>
    rout_lout hb fun l H2 hq => lout_raw Weak.rfl hq
  cases e with
  | normal => exact rout_lout (show rout H' n a1 H1 (fun l' H2 => ∃ m', m' < m ∧ I m' l' H2) from h) fun l' H2 hr => ⟨hr.choose, hr.choose_spec.1, l', hr.choose_spec.2, rfl⟩
  | exit id => exact out _ h
  | goto l => exact out _ h
  | ret => exact out _ h
  | panic ch => exact out _ h
  | outgrown => exact out _ h
/-- A slice that was built, in a row of a block, seen as a value. -/
theorem gh_sl {a : List IV} {B H1 : IH} {c s k : Nat} {es rows : List (List IV)} {o : SL} (hcB : c < B.n) (hn : B.n ≤ H1.n) (ho : o.New B H1 s es) (hc : H1.f c = .cells true 1 rows) (hk : rows[k]? = some [o.iv s]) :
    ∃ H3, Gh a H1 a H3 ∧ H3.n = H1.n ∧ (∀ i, i < B.n → i ≠ c → H3.f i = H1.f i) ∧ H3.f c = .cells true 1 (rows.set k [o.fv s es]) ∧ ∀ m, m ≤ c → m ≤ H1.lo → m ≤ H3.lo := by
  cases o with
  | nil =>
    refine ⟨H1, Gh.refl _ _, rfl, fun _ _ _ => rfl, ?_, fun m _ h => h⟩
    have : rows.set k [SL.fv s es .nil] = rows := by
      apply List.ext_getElem?
      intro u
      by_cases e : u = k
      · subst e; rw [List.getElem?_set_self (List.getElem?_eq_some_iff.1 hk).1, hk]; rfl
      · rw [List.getElem?_set_ne (Ne.symm e)]
    rw [this]; exact hc
  | mk i q r f =>
    obtain ⟨own, es2, h1, h2, h3⟩ := ho.at'
    have hi : i < H1.n := ho.lt
    have hin : B.n ≤ i := ho.new rfl
    have hcf : (H1.frz i s es2).f c = .cells true 1 rows := by
      simp only [IH.frz, IH.set_f]; rw [if_neg (by omega)]; exact hc
    refine ⟨_, (gh_frz hi h1).trans (gh_blk (es' := rows.set k [SL.fv s es (.mk i q r f)]) (Nat.lt_of_lt_of_le hcB hn) hcf (by simp) fun u e e' he he' => ?_), rfl, fun x hx hne => ?_, by rw [IH.set_f, if_pos rfl], fun m hm hl => ?_⟩
    · by_cases hu : k = u
      · subst hu
        rw [List.getElem?_set_self (List.getElem?_eq_some_iff.1 he).1] at he'
        rw [hk] at he
        cases he; cases he'
        refine ⟨rfl, fun z v v' hv hv' => ?_⟩
        cases z with
        | succ z => simp at hv
        | zero =>
          simp at hv hv'
          subst hv; subst hv'
          simp only [SL.fv, SL.iv]
          rw [← h3]
          exact .vs i q r s f es2 (by simp [IH.frz, IH.set_f]) h2
      · rw [List.getElem?_set_ne hu] at he'
        rw [he] at he'; cases he'
        exact ⟨rfl, fun z v v' hv hv' => by rw [hv] at hv'; cases hv'; exact .rfl _⟩
    · rw [IH.set_f, if_neg hne]
      simp only [IH.frz, IH.set_f]; rw [if_neg (by omega)]
    · simp only [IH.frz, IH.set]
      split <;> split <;> omega
end Go.Proofs.Ytnapimfiikgaiaa.Eng
