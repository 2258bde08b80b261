/- The ideal machine, part 3: its operations. Nothing here is a claim of its own. -/
import Derived.Test.YtnapimfiikgaiaaEng2
namespace Go.Proofs.Ytnapimfiikgaiaa.Eng

/-! #### types -/
def tAgg (P : Program) (t : TypeId) : Option Bool := (P.underlying t).map fun | .struct _ | .array _ _ => true | _ => false
def tSize (P : Program) (t : TypeId) : Option Nat := (P.info? t).map (·.size)
def tBytes (P : Program) (t : TypeId) : Option Nat := (P.info? t).map (·.bytes)
def tFld (P : Program) (s : TypeId) (f : Nat) : Option (Nat × TypeId) :=
  match P.underlying s with
  | some (.struct fs) => (fs[f]?).map fun fd => (fd.offset, fd.type)
  | _ => none

def ofFlat : Value → Option IV
  | .int k n => some (.int k n)
  | .bool b => some (.bool b)
  | .string s => some (.str s)
  | .pointer none => some .nilp
  | .slice none 0 0 => some .nils
  | .map none => some .nilm
  | .nilFunc => some .nilf
  | .nilIface => some .nili
  | _ => none
def ofFlats : List Value → Option (List IV)
  | [] => some []
  | x :: xs => match ofFlat x, ofFlats xs with
    | some v, some vs => some (v :: vs)
    | _, _ => none
def tZero (P : Program) (t : TypeId) : Option (List IV) :=
  match P.info? t with
  | some i => match i.zero with
    | some z => ofFlats z.cells.toList
    | none => none
  | none => none
def cv : Value → IV
  | .agg cs => match ofFlats cs.toList with
    | some l => .agg l
    | none => .dead
  | v => (ofFlat v).getD .dead
def ev (a : List IV) : Operand → IV
  | .tmp t => a.getD t .dead
  | .const v => cv v
  | .global _ => .dead
  | .func f => .fn (.func f) [] []

/-! #### operations that leave the heap alone -/
def intOp (op : BinOp) (k : IntKind) (a : Int) (k' : IntKind) (b : Int) : Option IV :=
  match op with
  | .shl => if b < 0 then none else some (.int k (k.wrap (a * 2 ^ (min b.toNat k.bits))))
  | .shr => if b < 0 then none else some (.int k (a.fdiv (2 ^ (min b.toNat k.bits))))
  | .add => if k = k' then some (.int k (k.wrap (a + b))) else none
  | .sub => if k = k' then some (.int k (k.wrap (a - b))) else none
  | .mul => if k = k' then some (.int k (k.wrap (a * b))) else none
  | .quo => if k = k' ∧ b ≠ 0 then some (.int k (k.wrap (a.tdiv b))) else none
  | .rem => if k = k' ∧ b ≠ 0 then some (.int k (a.tmod b)) else none
  | .and => if k = k' then some (.int k (k.wrap (BitVec.ofInt k.bits a &&& BitVec.ofInt k.bits b).toNat)) else none
  | .or => if k = k' then some (.int k (k.wrap (BitVec.ofInt k.bits a ||| BitVec.ofInt k.bits b).toNat)) else none
  | .xor => if k = k' then some (.int k (k.wrap (BitVec.ofInt k.bits a ^^^ BitVec.ofInt k.bits b).toNat)) else none
  | .andNot => if k = k' then some (.int k (k.wrap (BitVec.ofInt k.bits a &&& ~~~ (BitVec.ofInt k.bits b)).toNat)) else none
  | .eql => if k = k' then some (.bool (a == b)) else none
  | .neq => if k = k' then some (.bool (a != b)) else none
  | .lss => if k = k' then some (.bool (decide (a < b))) else none
  | .leq => if k = k' then some (.bool (decide (a ≤ b))) else none
  | .gtr => if k = k' then some (.bool (decide (a > b))) else none
  | .geq => if k = k' then some (.bool (decide (a ≥ b))) else none

def strOp (op : BinOp) (x y : ByteArray) : Option IV :=
  match op with
  | .add => if ((x.size + y.size : Nat) : Int) > IntKind.i64.max then none else some (.str (x ++ y))
  | .eql => some (.bool (x.toList == y.toList))
  | .neq => some (.bool !(x.toList == y.toList))
  | .lss => some (.bool (Op.bytesLess x.toList y.toList))
  | .leq => some (.bool (Op.bytesLess x.toList y.toList || x.toList == y.toList))
  | .gtr => some (.bool !(Op.bytesLess x.toList y.toList || x.toList == y.toList))
  | .geq => some (.bool !(Op.bytesLess x.toList y.toList))
  | _ => none

def boolEq (op : BinOp) (r : Bool) : Option IV :=
  match op with
  | .eql => some (.bool r)
  | .neq => some (.bool !r)
  | _ => none

/-- Equality with a nil; of bools. -/
def eqNil (d : Option TypeDesc) (x y : IV) : Option Bool :=
  match d, x, y with
  | some .bool, .bool a, .bool b => some (a == b)
  | some (.pointer _), .nilp, .nilp => some true
  | some (.pointer _), .nilp, .ptr _ _ _ => some false
  | some (.pointer _), .ptr _ _ _, .nilp => some false
  | some (.slice _), .nils, .nils => some true
  | some (.slice _), .nils, .slc _ _ _ _ _ => some false
  | some (.slice _), .slc _ _ _ _ _, .nils => some false
  | some (.slice _), .nils, .vs _ _ _ => some false
  | some (.slice _), .vs _ _ _, .nils => some false
  | some (.pointer _), .nilp, .vp _ _ => some false
  | some (.pointer _), .vp _ _, .nilp => some false
  | some (.map _ _), .nilm, .nilm => some true
  | some (.map _ _), .nilm, .map _ => some false
  | some (.map _ _), .map _, .nilm => some false
  | some (.func _ _ _), .nilf, .nilf => some true
  | some (.func _ _ _), .nilf, .fn _ _ _ => some false
  | some (.func _ _ _), .fn _ _ _, .nilf => some false
  | _, _, _ => none

def binI (P : Program) (op : BinOp) (t : TypeId) (x y : IV) : Option IV :=
  match x, y with
  | .int k a, .int k' b => intOp op k a k' b
  | .str a, .str b => strOp op a b
  | x, y => match eqNil (P.underlying t) x y with
    | some r => boolEq op r
    | none => none

def unI (op : UnOp) (x : IV) : Option IV :=
  match op, x with
  | .not, .bool b => some (.bool !b)
  | .neg, .int k n => some (.int k (k.wrap (0 - n)))
  | .xor, .int k n => some (.int k (k.wrap (BitVec.ofInt k.bits (if k.signed then -1 else k.max) ^^^ BitVec.ofInt k.bits n).toNat))
  | _, _ => none

/-- A part of an aggregate. -/
def ipart (P : Program) (t : TypeId) (cs : List IV) (off : Nat) : Option IV :=
  match tAgg P t, tSize P t with
  | some true, some m => if off + m ≤ cs.length then some (.agg ((cs.drop off).take m)) else none
  | some false, _ => cs[off]?
  | _, _ => none

def rd (H : IH) (i k : Nat) : Option (List IV) :=
  match H.f i with
  | .cells _ _ es => es[k]?
  | _ => none

def splice (e : List IV) (j : Nat) : List IV → List IV
  | [] => e
  | v :: vs => splice (e.set j v) (j + 1) vs

/-- Parts laid into cells. -/
def ifill (place : Nat → Option (Nat × Nat)) (cells : List IV) : List (Nat × IV) → Option (List IV)
  | [] => some cells
  | (i, v) :: rest =>
    match place i with
    | none => none
    | some (off, size) => if v.solid ∧ v.cells.length = size ∧ off + size ≤ cells.length then ifill place (splice cells off v.cells) rest else none

def fldPlace (P : Program) (s : TypeId) (f : Nat) : Option (Nat × Nat) :=
  match tFld P s f with
  | some (off, t) => match tSize P t with
    | some m => some (off, m)
    | none => none
  | none => none

def sPlaces (P : Program) (t : TypeId) : Option (List (Nat × Nat)) :=
  match P.underlying t with
  | some (.struct fs) => fs.toList.mapM (fun f => (P.info? f.type).map fun i => (f.offset, i.size))
  | _ => none
def tArr (P : Program) (t : TypeId) : Option (Nat × TypeId) :=
  match P.underlying t with
  | some (.array n e) => some (n, e)
  | _ => none

def ibuild (P : Program) (t : TypeId) (parts : List (Nat × IV)) : Option IV :=
  match tZero P t, sPlaces P t, tArr P t with
  | some z, some ps, _ => (ifill (fun i => ps[i]?) z parts).map .agg
  | some z, none, some (_, e) => match tSize P e with
    | some m => (ifill (fun i => some (i * m, m)) z parts).map .agg
    | none => none
  | _, _, _ => none

def ibound (x : Option IV) (y dflt : Nat) : Option Nat :=
  match x with
  | none => some dflt
  | some (.int _ i) => if 0 ≤ i ∧ i ≤ y then some i.toNat else none
  | _ => none

/-- Slicing: never beyond the length. -/
def isl (x : IV) (lo hi mx : Option IV) : Option IV :=
  match x with
  | .slc i k n s full =>
    match ibound mx n n with
    | none => none
    | some m => match ibound hi m n with
      | none => none
      | some h => if (hi.isSome ∨ mx.isNone) ∧ h ≤ m then match ibound lo h 0 with
        | none => none
        | some l => some (.slc i (k + l) (h - l) s (if mx.isSome then h == m else full && h == n)) else none
  | .vs s es full =>
    match ibound mx es.length es.length with
    | none => none
    | some m => match ibound hi m es.length with
      | none => none
      | some h => if (hi.isSome ∨ mx.isNone) ∧ h ≤ m then match ibound lo h 0 with
        | none => none
        | some l => some (.vs s ((es.drop l).take (h - l)) (if mx.isSome then h == m else full && h == es.length)) else none
  | .nils => match ibound mx 0 0, ibound hi 0 0, ibound lo 0 0 with
    | some _, some _, some _ => if hi.isSome ∨ mx.isNone then some .nils else none
    | _, _, _ => none
  | .str b => if mx.isSome then none else
    match ibound hi b.size b.size with
    | none => none
    | some h => match ibound lo h 0 with
      | none => none
      | some l => some (.str (b.extract l h))
  | _ => none

/-- The bytes of a slice. -/
def bytesOf : List (List IV) → Option (List UInt8)
  | [] => some []
  | [.int .u8 n] :: r => (bytesOf r).map (UInt8.ofNat n.toNat :: ·)
  | _ => none

def keyEq : IV → IV → Option Bool
  | .int k a, .int k' b => if k = k' then some (a == b) else none
  | .str a, .str b => some (a == b)
  | .bool a, .bool b => some (a == b)
  | _, _ => none
def ifind (k : IV) : List (IV × IV) → Nat → Option (Option (Nat × IV))
  | [], _ => some none
  | (x, v) :: r, i => match keyEq k x with
    | some true => some (some (i, v))
    | some false => ifind k r (i + 1)
    | none => none
def keyOk (d : Option TypeDesc) (k : IV) : Bool :=
  match d, k with
  | some (.int _), .int _ _ => true
  | some .string, .str _ => true
  | some .bool, .bool _ => true
  | _, _ => false

def cvo : Value → Option IV
  | .agg cs => (ofFlats cs.toList).map .agg
  | v => ofFlat v
def izero (P : Program) (t : TypeId) : Option IV :=
  match P.info? t with
  | some i => match i.zero with
    | some z => cvo z
    | none => none
  | none => none

def mapAt (H : IH) : IV → Option (List (IV × IV))
  | .nilm => some []
  | .map i => match H.f i with
    | .map es => some es
    | _ => none
  | _ => none

def ilen (P : Program) (H : IH) (t : TypeId) (x : IV) : Option Nat :=
  match P.underlying t, x with
  | some .string, .str s => some s.size
  | some (.array n _), _ => some n
  | some (.slice _), .slc _ _ n _ _ => some n
  | some (.slice _), .nils => some 0
  | some (.slice _), .vs _ es _ => some es.length
  | some (.map _ _), m => (mapAt H m).map List.length
  | some (.pointer a), _ => match P.underlying a with
    | some (.array n _) => some n
    | _ => none
  | _, _ => none

def cvI (P : Program) (f : Nat → IB) (u1 u2 : Option TypeDesc) (y : IV) : Option IV :=
  match u1, u2, y with
    | some _, some (.int k), .int _ n => some (.int k (k.wrap n))
    | some _, some .string, .str s => some (.str s)
    | some (.slice e), some .string, .nils => match P.underlying e with
      | some (.int .u8) => some (.str .empty)
      | _ => none
    | some (.slice e), some .string, .slc i k n _ _ => match P.underlying e, f i with
      | some (.int .u8), .cells _ _ es => if k + n ≤ es.length then (bytesOf ((es.drop k).take n)).map fun l => .str ⟨l.toArray⟩ else none
      | _, _ => none
    | some (.slice e), some .string, .vs _ es _ => match P.underlying e with
      | some (.int .u8) => (bytesOf es).map fun l => .str ⟨l.toArray⟩
      | _ => none
    | _, _, _ => none

/-- Operations that read at most, and yield a value. -/
def stepR (P : Program) (ρ : Operand → IV) (H : IH) : Op → Option IV
  | .move x | .assign x => some (ρ x)
  | .pick c a b => match ρ c with
    | .bool t => some (if t then ρ a else ρ b)
    | _ => none
  | .build t parts => ibuild P t (parts.toList.map fun (i, x) => (i, ρ x))
  | .load t a => match ρ a with
    | .ptr i k j => match rd H i k with
      | some e => ipart P t e j
      | none => none
    | .vp e j => ipart P t e j
    | _ => none
  | .nilCheck x => match ρ x with
    | .ptr i k j => some (.ptr i k j)
    | .vp e j => some (.vp e j)
    | .fn (.func f) a b => some (.fn (.func f) a b)
    | _ => none
  | .binOp op t x y _ => binI P op t (ρ x) (ρ y)
  | .unOp op _ x => unI op (ρ x)
  | .convert src dst x => cvI P H.f (P.underlying src) (P.underlying dst) (ρ x)
  | .makeFunc fn first captured => some (.fn fn (first.toList.map ρ) (captured.toList.map ρ))
  | .slice t x lo hi mx => match P.underlying t with
    | some (.slice e) => match ρ x with
      | .slc i k n s full => if tSize P e = some s then isl (.slc i k n s full) (lo.map ρ) (hi.map ρ) (mx.map ρ) else none
      | .nils => if (tSize P e).isSome then isl .nils (lo.map ρ) (hi.map ρ) (mx.map ρ) else none
      | .vs s es full => if tSize P e = some s then isl (.vs s es full) (lo.map ρ) (hi.map ρ) (mx.map ρ) else none
      | _ => none
    | some .string => match ρ x with
      | .str b => isl (.str b) (lo.map ρ) (hi.map ρ) (mx.map ρ)
      | _ => none
    | _ => none
  | .fieldAddr s x f => match ρ x, fldPlace P s f with
    | .ptr i k j, some (off, m + 1) => some (.ptr i k (j + off))
    | .vp e j, some (off, m + 1) => some (.vp e (j + off))
    | _, _ => none
  | .field s x f => match ρ x, tFld P s f with
    | .agg cs, some (off, t) => ipart P t cs off
    | _, _ => none
  | .indexAddr t x ix => match P.underlying t, ρ x, ρ ix with
    | some (.slice e), .slc i k n s _, .int _ z => if 0 ≤ z ∧ z < n ∧ tSize P e = some s then some (.ptr i (k + z.toNat) 0) else none
    | some (.array len e), .ptr i k j, .int _ z => match tSize P e with
      | some m => if 0 ≤ z ∧ z < len then some (.ptr i k (j + z.toNat * m)) else none
      | none => none
    | some (.slice e), .vs s es _, .int _ z => if 0 ≤ z ∧ tSize P e = some s then (es[z.toNat]?).map fun e' => .vp e' 0 else none
    | some (.array len e), .vp e' j, .int _ z => match tSize P e with
      | some m => if 0 ≤ z ∧ z < len then some (.vp e' (j + z.toNat * m)) else none
      | none => none
    | _, _, _ => none
  | .index t x ix => match P.underlying t, ρ x, ρ ix with
    | some (.array len e), .agg cs, .int _ z => match tSize P e with
      | some m => if 0 ≤ z ∧ z < len then ipart P e cs (z.toNat * m) else none
      | none => none
    | some .string, .str s, .int _ z => if 0 ≤ z then match s[z.toNat]? with
      | some b => some (.int .u8 b.toNat)
      | none => none else none
    | _, _, _ => none
  | .lookup t x ix ok => match P.underlying t with
    | some (.map key elem) => if keyOk (P.underlying key) (ρ ix) then match mapAt H (ρ x) with
      | some es => match ifind (ρ ix) es 0 with
        | some (some (_, v)) => some (if ok then .tup [v, .bool true] else v)
        | some none => (izero P elem).map fun v => if ok then .tup [v, .bool false] else v
        | none => none
      | none => none else none
    | _ => none
  | .extract x ix => match ρ x with
    | .tup vs => vs[ix]?
    | _ => none
  | .makeInterface t x => match P.underlying t with
    | some (.interface _) => none
    | some _ => some (.iface t (ρ x))
    | none => none
  | .call ⟨.builtin .len, args, ts⟩ => match ts[0]?, args[0]? with
    | some t, some x => match ilen P H t (ρ x) with
      | some n => some (.int .i64 (n : Int))
      | none => none
    | _, _ => none
  | _ => none

/-- The block that such an operation looks at. -/
def rid (ρ : Operand → IV) : Op → Option Nat
  | .load _ a => match ρ a with
    | .ptr i _ _ => some i
    | _ => none
  | .convert _ _ x => match ρ x with
    | .slc i _ _ _ _ => some i
    | _ => none
  | .lookup _ x _ _ => match ρ x with
    | .map i => some i
    | _ => none
  | .call ⟨.builtin .len, args, _⟩ => match args[0]? with
    | some x => match ρ x with
      | .map i => some i
      | _ => none
    | none => none
  | _ => none

/-- Operations that make a block: what it holds, what names it. -/
def boxable : IV → Bool
  | .dead | .tup _ => false
  | _ => true
def stepA (P : Program) (ρ : Operand → IV) : Op → Option (IB × (Nat → IV))
  | .alloc e => match tZero P e with
    | some z => some (.cells true z.length [z], fun i => .ptr i 0 0)
    | none => none
  | .box _ x => if boxable (ρ x) then some (.cells true (ρ x).cells.length [(ρ x).cells], fun i => .ptr i 0 0) else none
  | .buildSlice t len parts => match P.underlying t with
    | some (.slice e) => match tSize P e, tZero P e with
      | some s, some z => if z.length = s ∧ len * s ≤ 2 ^ 24 then
          match ielems s (List.replicate len z) (parts.toList.map fun (i, x) => (i, ρ x)) with
          | some es => some (.cells true s es, fun i => .slc i 0 len s true)
          | none => none
        else none
      | _, _ => none
    | _ => none
  | .makeMap _ none => some (.map [], fun i => .map i)
  | .makeSlice t l c => match P.underlying t with
    | some (.slice e) => match tSize P e, tZero P e, tBytes P e, ρ l, ρ c with
      | some s, some z, some b, .int _ n, .int _ m =>
        if z.length = s ∧ 0 < s ∧ 0 ≤ n ∧ n ≤ m ∧ m < 2 ^ 63 ∧ b * m ≤ 2 ^ 48 then some (.cells true s (List.replicate n.toNat z), fun i => .slc i 0 n.toNat s (n == m)) else none
      | _, _, _, _, _ => none
    | _ => none
  | _ => none
where
  ielems (s : Nat) (es : List (List IV)) : List (Nat × IV) → Option (List (List IV))
    | [] => some es
    | (i, v) :: r => if v.solid ∧ v.cells.length = s ∧ i < es.length then ielems s (es.set i v.cells) r else none

/-- Appended elements. -/
def srcElems (H : IH) (s : Nat) : IV → Option (List (List IV))
  | .nils => some []
  | .slc i k n s' _ => if s' = s then (if n = 0 then some [] else match H.f i with
    | .cells _ _ es => if k + n ≤ es.length then some ((es.drop k).take n) else none
    | _ => none) else none
  | .vs s' es _ => if s' = s then some es else none
  | .str b => if s = 1 then some (b.data.toList.map fun c => [.int .u8 c.toNat]) else none
  | _ => none

def solidEs (es : List (List IV)) : Bool := es.all fun e => e.all IV.one

def notInt : TypeDesc → Bool
  | .int _ => false
  | _ => true

/-- Operations that write. -/
def stepE (P : Program) (ρ : Operand → IV) (H : IH) : Op → Option (IV × IH)
  | .store t a x => match ρ a, tSize P t with
    | .ptr i k j, some m => match H.f i with
      | .cells true s es => match es[k]? with
        | some e => if (ρ x).solid ∧ (ρ x).cells.length = m ∧ j + m ≤ e.length then some (.dead, H.set i (.cells true s (es.set k (splice e j (ρ x).cells)))) else none
        | none => none
      | _ => none
    | _, _ => none
  | .mapUpdate t mp k x | .insert t mp k x => match P.underlying t, ρ mp with
    | some (.map key _), .map i => match H.f i with
      | .map es => if keyOk (P.underlying key) (ρ k) then match ifind (ρ k) es 0 with
        | some (some (p, _)) => some (.dead, H.set i (.map (es.set p (ρ k, ρ x))))
        | some none => some (.dead, H.set i (.map (es ++ [(ρ k, ρ x)])))
        | none => none else none
      | _ => none
    | _, _ => none
  | .call ⟨.builtin .append, args, ts⟩ => match ts[0]?, ts[1]?, args[0]?, args[1]? with
    | some t, some t2, some x, some y => match P.underlying t, P.underlying t2 with
      | some (.slice e), some d2 => match tSize P e, tBytes P e, tZero P e with
        | some s, some b, some z => if z.length = s ∧ 0 < s ∧ 0 < b ∧ notInt d2 = true then
            match srcElems H s (ρ y) with
            | none => none
            | some new => if solidEs new then match ρ x with
              | .nils => if new = [] then some (.nils, H) else
                if new.length * b ≤ 2 ^ 47 then some (.slc H.n 0 new.length s false, H.push (.cells true s new)) else none
              | .slc i k n s' full => if s' = s ∧ (n + new.length) * b ≤ 2 ^ 47 then (if n = 0 ∧ full = true then (if new = [] then some (.slc i k n s full, H) else some (.slc H.n 0 new.length s false, H.push (.cells true s new))) else match H.f i with
                | .cells own _ es => if k + n ≤ es.length then
                    if new = [] then some (.slc i k n s full, H)
                    else if full then some (.slc H.n 0 (n + new.length) s false, H.push (.cells true s ((es.drop k).take n ++ new)))
                    else if own then some (.slc H.n 0 (n + new.length) s false, (H.set i .dead).push (.cells true s ((es.drop k).take n ++ new)))
                    else none
                  else none
                | _ => none) else none
              | .vs s' es full => if s' = s ∧ (es.length + new.length) * b ≤ 2 ^ 47 then (if new = [] then some (.vs s es full, H) else if full then some (.slc H.n 0 (es.length + new.length) s false, H.push (.cells true s (es ++ new))) else none) else none
              | _ => none else none
          else none
        | _, _, _ => none
      | _, _ => none
    | _, _, _, _ => none
  | _ => none

/-- Calls. -/
def stepC (ρ : Operand → IV) : Op → Option (FuncId × List IV)
  | .call ⟨.value f, args, _⟩ => match ρ f with
    | .fn (.func g) first captured => some (g, first ++ args.toList.map ρ ++ captured)
    | _ => none
  | _ => none

end Go.Proofs.Ytnapimfiikgaiaa.Eng
