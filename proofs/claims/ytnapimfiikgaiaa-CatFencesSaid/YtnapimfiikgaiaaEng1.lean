/- The ideal machine, part 1: its values, its heap, how they stand to the model's values and world. Nothing here is a claim of its own. -/
import Derived.Test.YtnapimfiikgaiaaProg
import Derived.WalkKit
import Derived.KernelRfl
import Derived.Below
import Derived.Laws.Cells
import Derived.ChangeKeysEq
namespace Go.Proofs.Ytnapimfiikgaiaa.Eng

/-- An ideal value. -/
inductive IV where
  | int (k : IntKind) (n : Int)
  | bool (b : Bool)
  | str (s : ByteArray)
  | ptr (i k j : Nat)
  | nilp
  | slc (i k n s : Nat) (full : Bool)
  | nils
  | map (i : Nat)
  | nilm
  | fn (f : Fn) (first captured : List IV)
  | nilf
  | iface (t : TypeId) (v : IV)
  | nili
  | agg (cs : List IV)
  | tup (vs : List IV)
  | vs (s : Nat) (es : List (List IV)) (full : Bool)
  | vp (e : List IV) (j : Nat)
  | dead
  deriving Inhabited

/-- Where an ideal block lies: the model's block, the offset of its first cell, cells an element, the end of what is its own. -/
structure Pl where
  b : Nat
  d : Nat
  s : Nat
  z : Nat
  on : Bool

/-- Places of the ideal blocks; contents of the model's blocks that never change again. -/
structure Env where
  p : Nat → Pl
  fz : Nat → Option (Array Value)
instance : CoeFun Env (fun _ => Nat → Pl) := ⟨Env.p⟩
def Env.le (e e' : Env) : Prop := ∀ b a, e.fz b = some a → e'.fz b = some a
theorem Env.le_refl (e : Env) : e.le e := fun _ _ h => h
theorem Env.le_trans {e1 e2 e3 : Env} (a : e1.le e2) (b : e2.le e3) : e1.le e3 := fun x y h => b x y (a x y h)
structure EnvEq (N : Nat) (env env' : Env) : Prop where
  eq : ∀ i, i < N → env' i = env i
  le : env.le env'
structure EnvOn (N : Nat) (env env' : Env) : Prop where
  eq : ∀ i, i < N → (env i).on = true → env' i = env i
  le : env.le env'
instance {N : Nat} {env env' : Env} : CoeFun (EnvEq N env env') (fun _ => ∀ i, i < N → env' i = env i) := ⟨EnvEq.eq⟩
instance {N : Nat} {env env' : Env} : CoeFun (EnvOn N env env') (fun _ => ∀ i, i < N → (env i).on = true → env' i = env i) := ⟨EnvOn.eq⟩
theorem EnvEq.on {N : Nat} {env env' : Env} (h : EnvEq N env env') : EnvOn N env env' := ⟨fun i hi _ => h i hi, h.le⟩
theorem EnvEq.refl (N : Nat) (env : Env) : EnvEq N env env := ⟨fun _ _ => rfl, Env.le_refl _⟩
theorem EnvEq.trans {N : Nat} {e1 e2 e3 : Env} (a : EnvEq N e1 e2) (b : EnvEq N e2 e3) : EnvEq N e1 e3 := ⟨fun i hi => (b i hi).trans (a i hi), Env.le_trans a.le b.le⟩
theorem EnvEq.less {N N' : Nat} {e1 e2 : Env} (a : EnvEq N e1 e2) (h : N' ≤ N) : EnvEq N' e1 e2 := ⟨fun i hi => a i (Nat.lt_of_lt_of_le hi h), a.le⟩

inductive IB where
  | dead
  | cells (own : Bool) (s : Nat) (es : List (List IV))
  | map (es : List (IV × IV))
  deriving Inhabited

structure IH where
  n : Nat
  f : Nat → IB
  lo : Nat

def IV.cells : IV → List IV
  | .agg cs => cs
  | v => [v]

/-- A value of one cell. -/
def IV.one : IV → Bool
  | .agg _ | .tup _ | .dead => false
  | _ => true

def IV.solid : IV → Bool
  | .agg cs => cs.all IV.one
  | v => v.one

/-! #### ideal and model's values -/
mutual
inductive VR (env : Env) (N : Nat) : IV → Value → Prop
  | int (k : IntKind) (n : Int) : VR env N (.int k n) (.int k n)
  | bool (b : Bool) : VR env N (.bool b) (.bool b)
  | str (s : ByteArray) : VR env N (.str s) (.string s)
  | ptr (i k j : Nat) (h : i < N) (ho : (env i).on = true) : VR env N (.ptr i k j) (.pointer (some ⟨(env i).b, (env i).d + (k * (env i).s + j), none⟩))
  | nilp : VR env N .nilp (.pointer none)
  | slc (i k n s c : Nat) (full : Bool) (a : Addr) (h : i < N) (ho : (env i).on = true) (hs : (env i).s = s) (hc : n ≤ c) (hf : full = true → c = n)
      (ha : c ≠ 0 → a = ⟨(env i).b, (env i).d + k * s, none⟩ ∧ (env i).d + (k + c) * s ≤ (env i).z) : VR env N (.slc i k n s full) (.slice (some a) n c)
  | nils : VR env N .nils (.slice none 0 0)
  | map (i : Nat) (h : i < N) (ho : (env i).on = true) : VR env N (.map i) (.map (some (env i).b))
  | nilm : VR env N .nilm (.map none)
  | fn (f : Fn) (fs cs : List IV) (xs ys : List Value) (h1 : VRs env N fs xs) (h2 : VRs env N cs ys) : VR env N (.fn f fs cs) (.func f xs.toArray ys.toArray)
  | nilf : VR env N .nilf .nilFunc
  | iface (t : TypeId) (v : IV) (x : Value) (h : VR env N v x) : VR env N (.iface t v) (.iface t x)
  | nili : VR env N .nili .nilIface
  | agg (cs : List IV) (xs : List Value) (h : VRs env N cs xs) : VR env N (.agg cs) (.agg xs.toArray)
  | tup (cs : List IV) (xs : List Value) (h : VRs env N cs xs) : VR env N (.tup cs) (.tuple xs.toArray)
  | vs0 (s : Nat) (full : Bool) (a : Addr) (c : Nat) (hf : full = true → c = 0) : VR env N (.vs s [] full) (.slice (some a) 0 c)
  | vs (s : Nat) (es : List (List IV)) (full : Bool) (b o c : Nat) (arr : Array Value) (xs : List Value) (hF : env.fz b = some arr) (hl : ∀ e ∈ es, e.length = s) (hc : es.length ≤ c) (hf : full = true → c = es.length)
      (hx : ∀ (q : Nat) (x : Value), xs[q]? = some x → arr[o + q]? = some x) (h : VRs env N es.flatten xs) : VR env N (.vs s es full) (.slice (some ⟨b, o, none⟩) es.length c)
  | vp (e : List IV) (j b o : Nat) (arr : Array Value) (xs : List Value) (hF : env.fz b = some arr) (hx : ∀ (q : Nat) (x : Value), xs[q]? = some x → arr[o + q]? = some x) (h : VRs env N e xs) :
      VR env N (.vp e j) (.pointer (some ⟨b, o + j, none⟩))
  | dead (x : Value) : VR env N .dead x
inductive VRs (env : Env) (N : Nat) : List IV → List Value → Prop
  | nil : VRs env N [] []
  | cons (v : IV) (x : Value) (vs : List IV) (xs : List Value) (h : VR env N v x) (hs : VRs env N vs xs) : VRs env N (v :: vs) (x :: xs)
end

mutual
theorem VR.mono' {env env' : Env} {N N' : Nat} (he : EnvOn N env env') (hN : N ≤ N') : ∀ {v : IV} {x : Value}, VR env N v x → VR env' N' v x
  | _, _, .int k n => .int k n
  | _, _, .bool b => .bool b
  | _, _, .str s => .str s
  | _, _, .ptr i k j h ho => by rw [← he i h ho]; exact .ptr i k j (Nat.lt_of_lt_of_le h hN) (by rw [he i h ho]; exact ho)
  | _, _, .nilp => .nilp
  | _, _, .slc i k n s c full a h ho hs hc hf ha => .slc i k n s c full a (Nat.lt_of_lt_of_le h hN) (by rw [he i h ho]; exact ho) (by rw [he i h ho]; exact hs) hc hf (by rw [he i h ho]; exact ha)
  | _, _, .nils => .nils
  | _, _, .map i h ho => by rw [← he i h ho]; exact .map i (Nat.lt_of_lt_of_le h hN) (by rw [he i h ho]; exact ho)
  | _, _, .nilm => .nilm
  | _, _, .fn f _ _ _ _ h1 h2 => .fn f _ _ _ _ (VRs.mono' he hN h1) (VRs.mono' he hN h2)
  | _, _, .nilf => .nilf
  | _, _, .iface t _ _ h => .iface t _ _ (VR.mono' he hN h)
  | _, _, .nili => .nili
  | _, _, .agg _ _ h => .agg _ _ (VRs.mono' he hN h)
  | _, _, .tup _ _ h => .tup _ _ (VRs.mono' he hN h)
  | _, _, .vs0 s f a c hf => .vs0 s f a c hf
  | _, _, .vs s es f b o c arr xs hF hl hc hf hx h => .vs s es f b o c arr xs (he.le _ _ hF) hl hc hf hx (VRs.mono' he hN h)
  | _, _, .vp e j b o arr xs hF hx h => .vp e j b o arr xs (he.le _ _ hF) hx (VRs.mono' he hN h)
  | _, _, .dead x => .dead x
theorem VRs.mono' {env env' : Env} {N N' : Nat} (he : EnvOn N env env') (hN : N ≤ N') : ∀ {vs : List IV} {xs : List Value}, VRs env N vs xs → VRs env' N' vs xs
  | _, _, .nil => .nil
  | _, _, .cons _ _ _ _ h hs => .cons _ _ _ _ (VR.mono' he hN h) (VRs.mono' he hN hs)
end

theorem VR.mono {env env' : Env} {N N' : Nat} (he : EnvEq N env env') (hN : N ≤ N') {v : IV} {x : Value} (h : VR env N v x) : VR env' N' v x := h.mono' he.on hN
theorem VRs.mono {env env' : Env} {N N' : Nat} (he : EnvEq N env env') (hN : N ≤ N') {v : List IV} {x : List Value} (h : VRs env N v x) : VRs env' N' v x := h.mono' he.on hN

/-- All the blocks that a value names are below m. -/
inductive Lt (m : Nat) : IV → Prop
  | int (k : IntKind) (n : Int) : Lt m (.int k n)
  | bool (b : Bool) : Lt m (.bool b)
  | str (s : ByteArray) : Lt m (.str s)
  | ptr (i k j : Nat) (h : i < m) : Lt m (.ptr i k j)
  | nilp : Lt m .nilp
  | slc (i k n s : Nat) (full : Bool) (h : i < m) : Lt m (.slc i k n s full)
  | nils : Lt m .nils
  | map (i : Nat) (h : i < m) : Lt m (.map i)
  | nilm : Lt m .nilm
  | fn (f : Fn) (fs cs : List IV) (h1 : ∀ v ∈ fs, Lt m v) (h2 : ∀ v ∈ cs, Lt m v) : Lt m (.fn f fs cs)
  | nilf : Lt m .nilf
  | iface (t : TypeId) (v : IV) (h : Lt m v) : Lt m (.iface t v)
  | nili : Lt m .nili
  | agg (cs : List IV) (h : ∀ v ∈ cs, Lt m v) : Lt m (.agg cs)
  | tup (cs : List IV) (h : ∀ v ∈ cs, Lt m v) : Lt m (.tup cs)
  | vs (s : Nat) (es : List (List IV)) (full : Bool) (h : ∀ v ∈ es.flatten, Lt m v) : Lt m (.vs s es full)
  | vp (e : List IV) (j : Nat) (h : ∀ v ∈ e, Lt m v) : Lt m (.vp e j)
  | dead : Lt m .dead

mutual
theorem VR.lower {env : Env} {N m : Nat} : ∀ {v : IV} {x : Value}, VR env N v x → Lt m v → VR env m v x
  | _, _, .int k n, _ => .int k n
  | _, _, .bool b, _ => .bool b
  | _, _, .str s, _ => .str s
  | _, _, .ptr i k j _ ho, h => .ptr i k j (by cases h; assumption) ho
  | _, _, .nilp, _ => .nilp
  | _, _, .slc i k n s c full a _ ho hs hc hf ha, h => .slc i k n s c full a (by cases h; assumption) ho hs hc hf ha
  | _, _, .nils, _ => .nils
  | _, _, .map i _ ho, h => .map i (by cases h; assumption) ho
  | _, _, .nilm, _ => .nilm
  | _, _, .fn f _ _ _ _ h1 h2, h => .fn f _ _ _ _ (VRs.lower h1 (by cases h; assumption)) (VRs.lower h2 (by cases h; assumption))
  | _, _, .nilf, _ => .nilf
  | _, _, .iface t _ _ h1, h => .iface t _ _ (VR.lower h1 (by cases h; assumption))
  | _, _, .nili, _ => .nili
  | _, _, .agg _ _ h1, h => .agg _ _ (VRs.lower h1 (by cases h; assumption))
  | _, _, .tup _ _ h1, h => .tup _ _ (VRs.lower h1 (by cases h; assumption))
  | _, _, .vs0 s f a c hf, _ => .vs0 s f a c hf
  | _, _, .vs s es f b o c arr xs hF hl hc hf hx h1, h => .vs s es f b o c arr xs hF hl hc hf hx (VRs.lower h1 (by cases h; assumption))
  | _, _, .vp e j b o arr xs hF hx h1, h => .vp e j b o arr xs hF hx (VRs.lower h1 (by cases h; assumption))
  | _, _, .dead x, _ => .dead x
theorem VRs.lower {env : Env} {N m : Nat} : ∀ {vs : List IV} {xs : List Value}, VRs env N vs xs → (∀ v ∈ vs, Lt m v) → VRs env m vs xs
  | _, _, .nil, _ => .nil
  | _, _, .cons _ _ _ _ h hs, h' => .cons _ _ _ _ (VR.lower h (h' _ (List.mem_cons_self ..))) (VRs.lower hs fun v hv => h' v (List.mem_cons_of_mem _ hv))
end
mutual
theorem VR.lt {env : Env} {N : Nat} : ∀ {v : IV} {x : Value}, VR env N v x → Lt N v
  | _, _, .int k n => .int k n
  | _, _, .bool b => .bool b
  | _, _, .str s => .str s
  | _, _, .ptr i k j h _ => .ptr i k j h
  | _, _, .nilp => .nilp
  | _, _, .slc i k n s _ full _ h _ _ _ _ _ => .slc i k n s full h
  | _, _, .nils => .nils
  | _, _, .map i h _ => .map i h
  | _, _, .nilm => .nilm
  | _, _, .fn f _ _ _ _ h1 h2 => .fn f _ _ (VRs.lt h1) (VRs.lt h2)
  | _, _, .nilf => .nilf
  | _, _, .iface t _ _ h => .iface t _ (VR.lt h)
  | _, _, .nili => .nili
  | _, _, .agg _ _ h => .agg _ (VRs.lt h)
  | _, _, .tup _ _ h => .tup _ (VRs.lt h)
  | _, _, .vs0 s f _ _ _ => .vs s [] f (by simp)
  | _, _, .vs s es f _ _ _ _ _ _ _ _ _ _ h => .vs s es f (VRs.lt h)
  | _, _, .vp e j _ _ _ _ _ _ h => .vp e j (VRs.lt h)
  | _, _, .dead _ => .dead
theorem VRs.lt {env : Env} {N : Nat} : ∀ {vs : List IV} {xs : List Value}, VRs env N vs xs → ∀ v ∈ vs, Lt N v
  | _, _, .nil => by simp
  | _, _, .cons _ _ _ _ h hs => by
    intro v hv
    cases hv with
    | head => exact VR.lt h
    | tail _ hv => exact VRs.lt hs v hv
end

theorem VRs.length {env : Env} {N : Nat} : ∀ {vs : List IV} {xs : List Value}, VRs env N vs xs → vs.length = xs.length
  | _, _, .nil => rfl
  | _, _, .cons _ _ _ _ _ hs => by simp [VRs.length hs]
theorem VRs.get {env : Env} {N : Nat} : ∀ {vs : List IV} {xs : List Value}, VRs env N vs xs → ∀ (k : Nat) (v : IV), vs[k]? = some v → ∃ x, xs[k]? = some x ∧ VR env N v x
  | _, _, .nil, k, v, h => by simp at h
  | _, _, .cons _ _ _ _ h hs, 0, v, hv => by simp at hv; subst hv; exact ⟨_, rfl, h⟩
  | _, _, .cons _ _ _ _ h hs, k + 1, v, hv => by simp at hv; simpa using VRs.get hs k v hv
theorem VRs.get' {env : Env} {N : Nat} : ∀ {vs : List IV} {xs : List Value}, VRs env N vs xs → ∀ (k : Nat) (x : Value), xs[k]? = some x → ∃ v, vs[k]? = some v ∧ VR env N v x
  | _, _, .nil, k, v, h => by simp at h
  | _, _, .cons _ _ _ _ h hs, 0, v, hv => by simp at hv; subst hv; exact ⟨_, rfl, h⟩
  | _, _, .cons _ _ _ _ h hs, k + 1, v, hv => by simp at hv; simpa using VRs.get' hs k v hv
theorem VRs.append {env : Env} {N : Nat} : ∀ {vs : List IV} {xs : List Value} {us : List IV} {ys : List Value}, VRs env N vs xs → VRs env N us ys → VRs env N (vs ++ us) (xs ++ ys)
  | _, _, _, _, .nil, h => h
  | _, _, _, _, .cons _ _ _ _ h hs, h' => .cons _ _ _ _ h (VRs.append hs h')
theorem VRs.of_get {env : Env} {N : Nat} : ∀ {vs : List IV} {xs : List Value}, vs.length = xs.length → (∀ (k : Nat) (v : IV) (x : Value), vs[k]? = some v → xs[k]? = some x → VR env N v x) → VRs env N vs xs
  | [], [], _, _ => .nil
  | [], x :: xs, h, _ => by simp at h
  | v :: vs, [], h, _ => by simp at h
  | v :: vs, x :: xs, h, h' => .cons _ _ _ _ (h' 0 v x rfl rfl) (VRs.of_get (by simpa using h) fun k v x hv hx => h' (k + 1) v x (by simpa using hv) (by simpa using hx))
theorem VRs.replicate {env : Env} {N : Nat} {v : IV} {x : Value} (h : VR env N v x) : ∀ n, VRs env N (List.replicate n v) (List.replicate n x)
  | 0 => .nil
  | n + 1 => .cons _ _ _ _ h (VRs.replicate h n)
theorem VRs.set {env : Env} {N : Nat} {v : IV} {x : Value} (h : VR env N v x) : ∀ {vs : List IV} {xs : List Value} (d : Nat), VRs env N vs xs → VRs env N (vs.set d v) (xs.set d x)
  | _, _, _, .nil => by simpa using VRs.nil
  | _, _, 0, .cons _ _ _ _ _ hs => .cons _ _ _ _ h hs
  | _, _, d + 1, .cons _ _ _ _ h' hs => .cons _ _ _ _ h' (VRs.set h d hs)
theorem VRs.drop {env : Env} {N : Nat} : ∀ (n : Nat) {vs : List IV} {xs : List Value}, VRs env N vs xs → VRs env N (vs.drop n) (xs.drop n)
  | 0, _, _, h => by simpa using h
  | n + 1, _, _, .nil => by simpa using VRs.nil
  | n + 1, _, _, .cons _ _ _ _ _ hs => by simpa using VRs.drop n hs
theorem VRs.take {env : Env} {N : Nat} : ∀ (n : Nat) {vs : List IV} {xs : List Value}, VRs env N vs xs → VRs env N (vs.take n) (xs.take n)
  | 0, _, _, _ => by simpa using VRs.nil
  | n + 1, _, _, .nil => by simpa using VRs.nil
  | n + 1, _, _, .cons _ _ _ _ h hs => by simpa using VRs.cons _ _ _ _ h (VRs.take n hs)

theorem VR.cells {env : Env} {N : Nat} {v : IV} {x : Value} (h : VR env N v x) (hv : v ≠ .dead) (ht : ∀ l, v ≠ .tup l) : VRs env N v.cells x.cells.toList := by
  cases h <;> first | exact absurd rfl hv | exact absurd rfl (ht _) | skip
  all_goals simp only [IV.cells, Value.cells]
  case agg h => simpa using h
  all_goals exact .cons _ _ _ _ (by first | exact .int _ _ | exact .bool _ | exact .str _ | (apply VR.ptr <;> assumption) | exact .nilp | (apply VR.slc <;> assumption) | exact .nils | (apply VR.map <;> assumption) | exact .nilm | (apply VR.fn <;> assumption) | exact .nilf | (apply VR.iface; assumption) | exact .nili | (apply VR.vs0; assumption) | (apply VR.vs <;> assumption) | (apply VR.vp <;> assumption)) .nil

theorem VR.oneCell {env : Env} {N : Nat} {v : IV} {x : Value} (h : VR env N v x) (hv : v.one = true) : x.oneCell' = true := by
  cases h <;> first | rfl | simp [IV.one] at hv

/-! #### heap and world -/
/-- What an owned row is in the model: a block of cells, none of its own part frozen. -/
def OwnRow (w : World) (p : Pl) (n : Nat) : Prop :=
  ∃ arr ty lo hi, w.heap[p.b]? = some (.cells arr ty (lo, hi)) ∧ p.z ≤ arr.size ∧ p.d + n * p.s ≤ p.z ∧ ∀ o, o < p.z → ¬ (lo ≤ o ∧ o < hi)

inductive MR (env : Env) (N : Nat) : List (IV × IV) → List MapEntry → Prop
  | nil : MR env N [] []
  | cons (k v : IV) (e : MapEntry) (l : List (IV × IV)) (r : List MapEntry) (hk : VR env N k e.key) (hv : VR env N v e.val) (hs : MR env N l r) : MR env N ((k, v) :: l) (e :: r)

def Cells (env : Env) (N : Nat) (w : World) (p : Pl) (es : List (List IV)) : Prop :=
  (∀ e ∈ es, e.length = p.s) ∧ ∀ (k : Nat) (e : List IV), es[k]? = some e → ∀ (j : Nat) (v : IV), e[j]? = some v → ∃ x, w.cell? ⟨p.b, p.d + (k * p.s + j), none⟩ = some x ∧ VR env N v x

def BR (base : Nat) (env : Env) (N : Nat) (w : World) (p : Pl) : IB → Prop
  | .dead => True
  | .cells true s es => p.s = s ∧ Cells env N w p es ∧ base ≤ p.b ∧ OwnRow w p es.length
  | .cells false s es => p.s = s ∧ Cells env N w p es ∧ ∃ arr, env.fz p.b = some arr
  | .map es => base ≤ p.b ∧ ∃ ents clock, w.heap[p.b]? = some (.map ents clock) ∧ MR env N es ents.toList

def Owned (H : IH) (i : Nat) : Prop := (∃ s es, H.f i = .cells true s es) ∨ ∃ es, H.f i = .map es

structure SR (base : Nat) (env : Env) (H : IH) (w : World) : Prop where
  bs : base ≤ w.heap.size
  blk : ∀ i, i < H.n → BR base env H.n w (env i) (H.f i)
  dis : ∀ i j, i < H.n → j < H.n → i ≠ j → Owned H i → Owned H j → (env i).b ≠ (env j).b
  frz : ∀ (b : Nat) (arr : Array Value), env.fz b = some arr → (∃ ty fr, w.heap[b]? = some (.cells arr ty fr)) ∧ ∀ i, i < H.n → Owned H i → (env i).b ≠ b

/-- What a run does: from heap H at world w to heap H' at world w'. -/
structure Sim (base : Nat) (env : Env) (H : IH) (w : World) (env' : Env) (H' : IH) (w' : World) : Prop where
  sr : SR base env' H' w'
  envEq : EnvEq H.n env env'
  nle : H.n ≤ H'.n
  lole : H'.lo ≤ H.lo
  size : w.heap.size ≤ w'.heap.size
  os : w'.os = w.os
  tape : w'.tape = w.tape
  output : w'.output = w.output
  frame : ∀ b, b < w.heap.size → (∀ i, i < H.n → Owned H i → (env i).b = b → i < H'.lo) → w'.heap[b]? = w.heap[b]?
  prov : ∀ j, j < H'.n → Owned H' j → (j < H.n ∧ Owned H j) ∨ w.heap.size ≤ (env' j).b ∨ ∃ i, i < H.n ∧ Owned H i ∧ (env i).b = (env' j).b ∧ H'.lo ≤ i
  deadst : ∀ j, j < H.n → H.f j = .dead → H'.f j = .dead
  keepf : ∀ i, i < H.n → i < H'.lo → H'.f i = H.f i
  fprov : ∀ (b : Nat) (arr : Array Value), env'.fz b = some arr → env.fz b = some arr ∨ w.heap.size ≤ b ∨ ∃ i, i < H.n ∧ Owned H i ∧ (env i).b = b ∧ H'.lo ≤ i

theorem Sim.refl {base : Nat} {env : Env} {H : IH} {w : World} (h : SR base env H w) : Sim base env H w env H w :=
  ⟨h, .refl _ _, Nat.le_refl _, Nat.le_refl _, Nat.le_refl _, rfl, rfl, rfl, fun _ _ _ => rfl, fun _ hj ho => .inl ⟨hj, ho⟩, fun _ _ h => h, fun _ _ _ => rfl, fun _ _ h => .inl h⟩

theorem Sim.trans {base : Nat} {env env1 env2 : Env} {H H1 H2 : IH} {w w1 w2 : World} (a : Sim base env H w env1 H1 w1) (b : Sim base env1 H1 w1 env2 H2 w2) : Sim base env H w env2 H2 w2 where
  sr := b.sr
  envEq := a.envEq.trans (b.envEq.less a.nle)
  nle := Nat.le_trans a.nle b.nle
  lole := Nat.le_trans b.lole a.lole
  size := Nat.le_trans a.size b.size
  os := b.os.trans a.os
  tape := b.tape.trans a.tape
  output := b.output.trans a.output
  frame := by
    intro c hc h
    have h1 := a.frame c hc fun i hi ho he => Nat.lt_of_lt_of_le (h i hi ho he) b.lole
    refine (b.frame c (Nat.lt_of_lt_of_le hc a.size) fun j hj ho he => ?_).trans h1
    rcases a.prov j hj ho with ⟨hj', ho'⟩ | hge | ⟨i, hi, hoi, hbi, hlo⟩
    · exact h j hj' ho' (by rw [← a.envEq j hj']; exact he)
    · omega
    · have := h i hi hoi (hbi.trans he)
      have := b.lole
      omega
  prov := by
    intro j hj ho
    rcases b.prov j hj ho with ⟨hj', ho'⟩ | hge | ⟨i, hi, hoi, hbi, hlo⟩
    · rcases a.prov j hj' ho' with h | hge | ⟨i, hi, hoi, hbi, hlo⟩
      · exact .inl h
      · exact .inr (.inl (by rw [b.envEq j hj']; exact hge))
      · exact .inr (.inr ⟨i, hi, hoi, by rw [b.envEq j hj']; exact hbi, Nat.le_trans b.lole hlo⟩)
    · exact .inr (.inl (Nat.le_trans a.size hge))
    · rcases a.prov i hi hoi with ⟨hi', ho'⟩ | hge | ⟨i', hi', hoi', hbi', hlo'⟩
      · exact .inr (.inr ⟨i, hi', ho', by rw [← a.envEq i hi']; exact hbi, hlo⟩)
      · exact .inr (.inl (by rw [← hbi]; exact hge))
      · exact .inr (.inr ⟨i', hi', hoi', hbi'.trans hbi, Nat.le_trans b.lole hlo'⟩)
  deadst := fun j hj h => b.deadst j (Nat.lt_of_lt_of_le hj a.nle) (a.deadst j hj h)
  keepf := fun i hi hlo => (b.keepf i (Nat.lt_of_lt_of_le hi a.nle) hlo).trans (a.keepf i hi (Nat.lt_of_lt_of_le hlo b.lole))
  fprov := by
    intro c arr h
    rcases b.fprov c arr h with h | h | ⟨j, hj, ho, hb, hl⟩
    · rcases a.fprov c arr h with h | h | ⟨j, hj, ho, hb, hl⟩
      · exact .inl h
      · exact .inr (.inl h)
      · exact .inr (.inr ⟨j, hj, ho, hb, Nat.le_trans b.lole hl⟩)
    · exact .inr (.inl (Nat.le_trans a.size h))
    · rcases a.prov j hj ho with ⟨hj', ho'⟩ | hge | ⟨i, hi, hoi, hbi, hlo⟩
      · exact .inr (.inr ⟨j, hj', ho', by rw [← a.envEq j hj']; exact hb, hl⟩)
      · exact .inr (.inl (by omega))
      · exact .inr (.inr ⟨i, hi, hoi, hbi.trans hb, Nat.le_trans b.lole hlo⟩)

end Go.Proofs.Ytnapimfiikgaiaa.Eng
