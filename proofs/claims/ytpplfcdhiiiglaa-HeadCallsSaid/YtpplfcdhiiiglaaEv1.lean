/- The abstract machine and its proof, part 1: nothing here is a statement about the program. Own work. -/
import GoSem.Dispatch
import Derived.Calls
import Derived.Laws.Entries
import Derived.Laws.Cells
import Derived.Laws.IdiomCopy
import Derived.Below
import Derived.Laws.Append
import Derived.Laws.Bits
import Derived.Laws.Concat
import Derived.Laws.StructEq
import Derived.Laws.Pointers
import Derived.Laws.BytesString
/- The abstract machine: values, memory, operations. Own work: nothing here is a statement about the program. -/
namespace Go.Ev

/-- What is known of a slice: nil; full: no room behind it; nn: not nil; shr: nothing; tok g: the room behind it belongs to token g, while that lives. -/
inductive Fl where
  | nil
  | full
  | nn
  | shr
  | tok (g : Nat)

/-- Abstract values, over a family of element types, by codes (type numbers). -/
inductive AV (El : Nat → Type) where
  | junk
  | bool (b : Bool)
  | int (k : IntKind) (n : Int)
  | str (s : List UInt8)
  | nilptr
  | nilsl
  | ptr (id off : Nat)
  | rptr (c : Nat) (x : El c) (off : Nat)
  | mbp (id i : Nat)
  | bytes (f : Fl) (s : List UInt8)
  | list (f : Fl) (c : Nat) (l : List (El c))
  | hsl (id off len : Nat)
  | mbs (id : Nat)
  | fn (f : Fn) (first captured : List (AV El))
  | nilfn
  | agg (cs : List (AV El))
  | tup (vs : List (AV El))
  | map (id : Nat)
  | fmap (c : Nat) (g : Bool) (m : Int → Option (El c))
  | iter (id : Nat)

/-- Entries of the abstract memory. -/
inductive HE (El : Nat → Type) where
  | free
  | dead
  | tok
  | blk (cs : List (AV El))
  | mb (s : List UInt8)
  | iter (s : List UInt8) (pos : Nat)
  | map (es : List (AV El × AV El))
  | arr (k : IntKind) (l : List Int)

inductive Ty where
  | int (k : IntKind)
  | bool
  | str
  | ptr
  | bslice
  | slice (c : Nat)
  | struct (fs : List (Nat × Nat × Bool))
  | arr (n w : Nat) (agg : Bool)
  | map (e : Nat)
  | fn
  | other

structure TI (El : Nat → Type) where
  ty : Ty
  size : Nat
  zero : List (AV El)

def Ty.agg : Ty → Bool
  | .struct _ => true
  | .arr _ _ _ => true
  | _ => false

structure Lay (El : Nat → Type) where
  cells : (c : Nat) → El c → List (AV El)
  ofCells : (c : Nat) → List (AV El) → Option (El c)
  dflt : (c : Nat) → El c

def Lay.w {El : Nat → Type} (L : Lay El) (c : Nat) : Nat := (L.cells c (L.dflt c)).length

/-- What a function does: 'news' entries of memory are made by it. -/
structure FS (El : Nat → Type) where
  news : Nat
  run : {R : Type} → List (AV El) → List (HE El) → (AV El → List (HE El) → Option R) → Option R

/-- 'cmp': structs that may be compared, whose fields have one cell each, by their kinds. -/
structure Cx (El : Nat → Type) where
  lay : Lay El
  tt : Nat → Option (TI El)
  cmp : Nat → Option (List Ty)
  fn : Nat → Option (FS El)

section
variable {El : Nat → Type}

/-- The longest texts, slices. -/
def maxCat : Nat := 281474976710656

def inR (k : IntKind) (n : Int) : Bool := decide (k.min ≤ n) && decide (n ≤ k.max)

def undefA : AV El := .tup []

def cvt1 : Value → AV El
  | .bool b => .bool b
  | .int k n => if inR k n then .int k n else .junk
  | .string s => if s.data.toList.length ≤ maxCat then .str s.data.toList else .junk
  | .pointer none => .nilptr
  | .slice none 0 0 => .nilsl
  | .nilFunc => .nilfn
  | _ => .junk

def cvt : Value → AV El
  | .agg cs => .agg (cs.toList.map cvt1)
  | .tuple vs => match vs.toList with
    | [] => .tup []
    | _ => .junk
  | v => cvt1 v

def opd (sl : List (AV El)) : Operand → AV El
  | .tmp t => sl.getD t undefA
  | .const v => cvt v
  | .global _ => .junk
  | .func f => .fn (.func f) [] []

/-- A nil slice takes the type's own shape. -/
def co1 (z v : AV El) : AV El :=
  match v with
  | .nilsl => (match z with
    | .bytes _ _ => .bytes .nil []
    | .list _ c _ => .list .nil c []
    | _ => .nilsl)
  | v => v

def coL : List (AV El) → List (AV El) → List (AV El)
  | z :: zs, v :: vs => co1 z v :: coL zs vs
  | _, vs => vs

def co (C : Cx El) (t : Nat) (v : AV El) : AV El :=
  match C.tt t with
  | none => v
  | some i => match v with
    | .nilsl => (match i.zero with
      | z :: _ => co1 z v
      | [] => v)
    | .agg cs => .agg (coL i.zero cs)
    | v => v

def AV.cells : AV El → List (AV El)
  | .agg cs => cs
  | v => [v]

/-- A slice's flags, for one who may not append to it. -/
def Fl.low : Fl → Fl
  | .tok _ => .shr
  | f => f

def AV.low : AV El → AV El
  | .bytes f s => .bytes f.low s
  | .list f c l => .list f.low c l
  | v => v

/-- A value without addresses, functions: one that a slice's element may be. -/
def AV.plain : AV El → Bool
  | .bool _ => true
  | .int _ _ => true
  | .str _ => true
  | .nilptr => true
  | .nilfn => true
  | .bytes _ _ => true
  | .list _ _ _ => true
  | _ => false

/-- A value of one cell, of which something is known. -/
def AV.cellOk : AV El → Bool
  | .junk => false
  | .agg _ => false
  | .tup _ => false
  | _ => true

def allOk : List (AV El) → Bool
  | [] => true
  | v :: vs => v.cellOk && allOk vs

/-- An operation's doing. -/
inductive Act (El : Nat → Type) (R : Type) where
  | bad
  | val (v : AV El)
  | chk (b : Bool) (v : AV El)
  | ldc (id off n : Nat) (agg : Bool)
  | stc (id off : Nat) (cs : List (AV El))
  | multi (ro : Bool) (ids : List Nat) (news : Nat) (f : Nat → List (HE El) → (AV El → List (HE El) → Option R) → Option R)

def inl (i : Int) (n : Nat) : Bool := decide (0 ≤ i) && decide (i < n)

/-! Comparing -/
def eq1 : AV El → AV El → Option Bool
  | .bool a, .bool b => some (a == b)
  | .int k a, .int k' b => if k = k' then some (decide (a = b)) else none
  | .str a, .str b => some (decide (a = b))
  | _, _ => none

/-- Fields of a struct that has one cell each. -/
def eqF (t : Ty) (x y : AV El) : Option Bool :=
  match t, x, y with
  | .bool, .bool a, .bool b => some (a == b)
  | .int k0, .int k a, .int k' b => if k = k0 ∧ k' = k0 then some (decide (a = b)) else none
  | .str, .str a, .str b => some (decide (a = b))
  | _, _, _ => none

def eqL : List Ty → List (AV El) → List (AV El) → Option Bool
  | [], [], [] => some true
  | t :: ts, x :: xs, y :: ys => match eqF t x y, eqL ts xs ys with
    | some a, some b => some (a && b)
    | _, _ => none
  | _, _, _ => none

/-- Is a slice nil? -/
def isNil : AV El → Option Bool
  | .nilsl => some true
  | .bytes .nil _ => some true
  | .bytes .nn _ => some false
  | .list .nil _ _ => some true
  | .list .nn _ _ => some false
  | _ => none

def eqT (t : Ty) (x y : AV El) : Option Bool :=
  match t with
  | .bool => match x, y with
    | .bool a, .bool b => some (a == b)
    | _, _ => none
  | .ptr => match x, y with
    | .nilptr, .nilptr => some true
    | .nilptr, .ptr _ _ => some false
    | .ptr _ _, .nilptr => some false
    | _, _ => none
  | .fn => match x, y with
    | .nilfn, .nilfn => some true
    | .nilfn, .fn _ _ _ => some false
    | .fn _ _ _, .nilfn => some false
    | _, _ => none
  | .bslice => match y with
    | .nilsl => isNil x
    | y => (match x with
      | .nilsl => isNil y
      | _ => none)
  | .slice _ => match y with
    | .nilsl => isNil x
    | y => (match x with
      | .nilsl => isNil y
      | _ => none)
  | _ => none

def eqA (C : Cx El) (t : Nat) (x y : AV El) : Option Bool :=
  match x, y with
  | .int k a, .int k' b => if k = k' then some (decide (a = b)) else none
  | .str a, .str b => some (decide (a = b))
  | .agg a, .agg b => match C.cmp t with
    | some ts => eqL ts a b
    | none => none
  | x, y => match C.tt t with
    | none => none
    | some ti => eqT ti.ty x y

def binA (C : Cx El) (t : Nat) (op : BinOp) (x y : AV El) : Option (Bool × AV El) :=
  match op, x, y with
  | .shl, .int k a, .int _ b => some (decide (0 ≤ b), .int k (k.wrap (a * 2 ^ min b.toNat k.bits)))
  | .shr, .int k a, .int _ b => some (decide (0 ≤ b), .int k (a.fdiv (2 ^ min b.toNat k.bits)))
  | .add, .int k a, .int k' b => if k = k' then some (true, .int k (k.wrap (a + b))) else none
  | .sub, .int k a, .int k' b => if k = k' then some (true, .int k (k.wrap (a - b))) else none
  | .mul, .int k a, .int k' b => if k = k' then some (true, .int k (k.wrap (a * b))) else none
  | .quo, .int k a, .int k' b => if k = k' then some (!decide (b = 0), .int k (k.wrap (a.tdiv b))) else none
  | .rem, .int k a, .int k' b => if k = k' then some (!decide (b = 0), .int k (a.tmod b)) else none
  | .and, .int k a, .int k' b => if k = k' then some (true, .int k (k.wrap (BitVec.ofInt k.bits a &&& BitVec.ofInt k.bits b).toNat)) else none
  | .or, .int k a, .int k' b => if k = k' then some (true, .int k (k.wrap (BitVec.ofInt k.bits a ||| BitVec.ofInt k.bits b).toNat)) else none
  | .xor, .int k a, .int k' b => if k = k' then some (true, .int k (k.wrap (BitVec.ofInt k.bits a ^^^ BitVec.ofInt k.bits b).toNat)) else none
  | .andNot, .int k a, .int k' b => if k = k' then some (true, .int k (k.wrap (BitVec.ofInt k.bits a &&& ~~~BitVec.ofInt k.bits b).toNat)) else none
  | .lss, .int k a, .int k' b => if k = k' then some (true, .bool (decide (a < b))) else none
  | .leq, .int k a, .int k' b => if k = k' then some (true, .bool (decide (a ≤ b))) else none
  | .gtr, .int k a, .int k' b => if k = k' then some (true, .bool (decide (b < a))) else none
  | .geq, .int k a, .int k' b => if k = k' then some (true, .bool (decide (b ≤ a))) else none
  | .add, .str a, .str b => some (decide (a.length + b.length ≤ maxCat), .str (a ++ b))
  | .eql, x, y => match eqA C t x y with
    | some b => some (true, .bool b)
    | none => none
  | .neq, x, y => match eqA C t x y with
    | some b => some (true, .bool (!b))
    | none => none
  | _, _, _ => none

def unA (op : UnOp) (x : AV El) : Option (AV El) :=
  match op, x with
  | .not, .bool b => some (.bool (!b))
  | .neg, .int k n => some (.int k (k.wrap (0 - n)))
  | _, _ => none

/-- The places of a struct's or an array's part: where it begins, its size, whether it is a struct. -/
def Ty.place (t : Ty) (i : Nat) : Option (Nat × Nat × Bool) :=
  match t with
  | .struct fs => fs[i]?
  | .arr _ w a => some (i * w, w, a)
  | _ => none

def part (cs : List (AV El)) (off size : Nat) (agg : Bool) : AV El :=
  if agg then .agg ((cs.drop off).take size) else cs.getD off .junk

def setL : List (AV El) → Nat → List (AV El) → List (AV El)
  | cs, _, [] => cs
  | cs, i, v :: vs => setL (cs.set i v) (i + 1) vs

def fillA (C : Cx El) (t : Ty) : List (AV El) → List (Nat × AV El) → Option (List (AV El))
  | cs, [] => some cs
  | cs, (i, v) :: rest => match t.place i with
    | none => none
    | some (off, size, _) =>
      if v.cells.length = size ∧ off + size ≤ cs.length ∧ allOk (coL ((cs.drop off).take size) v.cells) = true then fillA C t (setL cs off (coL ((cs.drop off).take size) v.cells)) rest else none

/-- All elements of a slice that is written out, by its parts in order. -/
def elemsA (C : Cx El) (c : Nat) : List (Nat × AV El) → Nat → Option (List (El c))
  | [], _ => some []
  | (i, v) :: rest, n => if i = n then
      match C.tt c with
      | some ti => match C.lay.ofCells c (coL ti.zero v.cells), elemsA C c rest (n + 1) with
        | some x, some xs => some (x :: xs)
        | _, _ => none
      | none => none
    else none

def bytesA : List (Nat × AV El) → Nat → Option (List UInt8)
  | [], _ => some []
  | (i, v) :: rest, n => if i = n then
      match v, bytesA rest (n + 1) with
      | .int .u8 b, some bs => some (UInt8.ofNat b.toNat :: bs)
      | _, _ => none
    else none

def Fl.toks : Fl → List Nat
  | .tok g => [g]
  | _ => []

/-- The most elements that an append may lead to. -/
def maxLen' : Nat := 4294967296

def tokOf (f : Fl) : Option (List Nat) :=
  match f with
  | .nil => some []
  | .full => some []
  | .tok g => some [g]
  | _ => none

/-- The token, if there is one, lives. -/
def alive : List (HE El) → Bool
  | [] => true
  | .tok :: r => alive r
  | _ :: _ => false

def deads : List (HE El) → List (HE El)
  | [] => []
  | _ :: r => .dead :: deads r

def appA {R : Type} (f : Fl) (ok : Bool) (mk : Fl → AV El) : Act El R :=
  match tokOf f with
  | none => .bad
  | some ids => .multi false ids 1 fun nb es k => if alive es = true then (bif ok then k (mk (.tok nb)) (deads es ++ [.tok]) else none) else none

def appendA {R : Type} (C : Cx El) (t t2 : Nat) (a b : AV El) : Act El R :=
  match C.tt t, C.tt t2 with
  | some ti, some t2i => match ti.ty with
    | .bslice => (match co C t a with
      | .bytes f s => match t2i.ty with
        | .str => (match b with
          | .str x => appA f (decide (s.length + x.length ≤ maxLen')) fun g => .bytes g (s ++ x)
          | _ => .bad)
        | .bslice => (match co C t2 b with
          | .bytes _ x => appA f (decide (s.length + x.length ≤ maxLen')) fun g => .bytes g (s ++ x)
          | _ => .bad)
        | _ => .bad
      | _ => .bad)
    | .slice c0 => (match co C t a with
      | .list f c l => if c0 = c then match t2i.ty with
          | .slice c1 => (match co C t2 b with
            | .list _ c' x => if c1 = c' then if h : c' = c then appA f (decide (l.length + x.length ≤ maxLen')) fun g => .list g c (l ++ h ▸ x) else .bad else .bad
            | _ => .bad)
          | _ => .bad
        else .bad
      | _ => .bad)
    | _ => .bad
  | _, _ => .bad

def lenA (t : Ty) (x : AV El) : Option Int :=
  match t with
  | .str => (match x with
    | .str s => some s.length
    | _ => none)
  | .bslice => (match x with
    | .bytes _ s => some s.length
    | .nilsl => some 0
    | _ => none)
  | .slice _ => (match x with
    | .list _ _ l => some l.length
    | .hsl _ _ n => some n
    | .nilsl => some 0
    | _ => none)
  | _ => none

def boundA : Option (AV El) → Int → Option Int
  | none, d => some d
  | some (.int _ n), _ => some n
  | _, _ => none

/-- The flag of a part: the room is its own where it ends with it ('mx'), the whole's where it goes up to its end. -/
def cutF (f : Fl) (hi mx : Option (AV El)) : Fl :=
  match mx with
  | some _ => .full
  | none => match hi with
    | none => f
    | some _ => .shr

def boundM (hi mx : Option (AV El)) (d : Int) : Option Int :=
  match mx with
  | none => some d
  | some (.int _ n) => if hi.isSome then some n else none
  | _ => none

def inside (a b m n : Int) : Bool := decide (0 ≤ a) && decide (a ≤ b) && decide (b ≤ n) && decide (b = m)

/-- A part of a text or a slice. -/
def sliceA (t : Ty) (x : AV El) (lo hi mx : Option (AV El)) : Option (Bool × AV El) :=
  match t with
  | .str => (match x with
    | .str s => match boundA lo 0, boundA hi s.length, mx with
      | some a, some b, none => some (inside a b b s.length, .str ((s.take b.toNat).drop a.toNat))
      | _, _, _ => none
    | _ => none)
  | .bslice => (match x with
    | .bytes f s => match boundA lo 0, boundA hi s.length with
      | some a, some b => match boundM hi mx b with
        | some m => some (inside a b m s.length, .bytes (cutF f hi mx) ((s.take b.toNat).drop a.toNat))
        | none => none
      | _, _ => none
    | _ => none)
  | .slice c0 => (match x with
    | .list f c l => if c0 = c then match boundA lo 0, boundA hi l.length with
        | some a, some b => match boundM hi mx b with
          | some m => some (inside a b m l.length, .list (cutF f hi mx) c ((l.take b.toNat).drop a.toNat))
          | none => none
        | _, _ => none
      else none
    | _ => none)
  | _ => none

/-! Renaming entries -/
def Fl.ren (f : Nat → Option Nat) : Fl → Fl
  | .tok g => (match f g with
    | some j => .tok j
    | none => .shr)
  | x => x

def ren1 (f : Nat → Option Nat) (id : Nat) (mk : Nat → AV El) : AV El :=
  match f id with
  | some j => mk j
  | none => .junk

mutual
def AV.ren (f : Nat → Option Nat) : AV El → AV El
  | .ptr id off => ren1 f id fun j => .ptr j off
  | .mbp id i => ren1 f id fun j => .mbp j i
  | .hsl id off n => ren1 f id fun j => .hsl j off n
  | .mbs id => ren1 f id fun j => .mbs j
  | .map id => ren1 f id fun j => .map j
  | .iter id => ren1 f id fun j => .iter j
  | .bytes g s => .bytes (g.ren f) s
  | .list g c l => .list (g.ren f) c l
  | .agg cs => .agg (renL f cs)
  | .tup cs => .tup (renL f cs)
  | .fn h a b => .fn h (renL f a) (renL f b)
  | v => v
def renL (f : Nat → Option Nat) : List (AV El) → List (AV El)
  | [] => []
  | v :: vs => v.ren f :: renL f vs
end

def renE (f : Nat → Option Nat) : List (AV El × AV El) → List (AV El × AV El)
  | [] => []
  | (a, b) :: r => (a.ren f, b.ren f) :: renE f r

def HE.ren (f : Nat → Option Nat) : HE El → HE El
  | .blk cs => .blk (renL f cs)
  | .map es => .map (renE f es)
  | e => e

def renH (f : Nat → Option Nat) : List (HE El) → List (HE El)
  | [] => []
  | e :: r => e.ren f :: renH f r

def Fl.ids : Fl → List Nat
  | .tok g => [g]
  | _ => []

mutual
def AV.ids : AV El → List Nat
  | .ptr id _ => [id]
  | .mbp id _ => [id]
  | .hsl id _ _ => [id]
  | .mbs id => [id]
  | .map id => [id]
  | .iter id => [id]
  | .bytes g _ => g.ids
  | .list g _ _ => g.ids
  | .agg cs => idsL cs
  | .tup cs => idsL cs
  | .fn _ a b => idsL a ++ idsL b
  | _ => []
def idsL : List (AV El) → List Nat
  | [] => []
  | v :: vs => v.ids ++ idsL vs
end

def idsE : List (AV El × AV El) → List Nat
  | [] => []
  | (a, b) :: r => a.ids ++ b.ids ++ idsE r

def HE.ids : HE El → List Nat
  | .blk cs => idsL cs
  | .map es => idsE es
  | _ => []

mutual
/-- Without leave to append. -/
def AV.lowD : AV El → AV El
  | .bytes g s => .bytes g.low s
  | .list g c l => .list g.low c l
  | .agg cs => .agg (lowL cs)
  | .tup cs => .tup (lowL cs)
  | v => v
def lowL : List (AV El) → List (AV El)
  | [] => []
  | v :: vs => v.lowD :: lowL vs
end

/-- The entries that may be come to: 'todo' first, what they name behind. -/
def reach (h : List (HE El)) : Nat → List Nat → List Nat → List Nat
  | 0, _, done => done.reverse
  | _ + 1, [], done => done.reverse
  | n + 1, i :: todo, done => if done.contains i then reach h n todo done else reach h n (todo ++ (h.getD i .free).ids) (i :: done)

def idx (ids : List Nat) (i : Nat) : Option Nat := ids.findIdx? (· == i)

theorem bif_ble {R : Type} {a b : Nat} {x y : R} : (bif Nat.ble a b then x else y) = if a ≤ b then x else y := by
  by_cases h : a ≤ b
  · rw [if_pos h, Nat.ble_eq_true_of_le h]; rfl
  · rw [if_neg h]
    cases e : Nat.ble a b
    · rfl
    · exact absurd (Nat.le_of_ble_eq_true e) h
theorem bif_blt {R : Type} {a b : Nat} {x y : R} : (bif Nat.blt a b then x else y) = if a < b then x else y := bif_ble

theorem cond_some {R : Type} {b : Bool} {x : Option R} {r : R} (h : (bif b then x else none) = some r) : b = true ∧ x = some r := by
  cases b
  · cases h
  · exact ⟨rfl, h⟩

end
end Go.Ev

/- The abstract machine: what operations do, code, calls. -/
namespace Go.Ev
section
variable {El : Nat → Type}

def newAt : List (HE El) → Nat → List (HE El) → List (HE El)
  | h, _, [] => h
  | h, i, e :: es => newAt (if i < h.length then h.set i e else h ++ [e]) (i + 1) es

def putAt : List (HE El) → List Nat → List (HE El) → List (HE El)
  | h, i :: is, e :: es => putAt (h.set i e) is es
  | h, _, _ => h

def isFree : List (HE El) → Nat → Nat → Bool
  | _, _, 0 => true
  | h, i, n + 1 => (match h.getD i .free with
    | .free => true
    | _ => false) && isFree h (i + 1) n

/-- The texts of a table of texts. -/
def strsL : List (AV El) → Option (List (List UInt8))
  | [] => some []
  | .str s :: cs => match strsL cs with
    | some ss => some (s :: ss)
    | none => none
  | _ => none

/-- The numbers of a row of numbers of one kind. -/
def intsOf : List (AV El) → Option (IntKind × List Int)
  | [] => none
  | .int k x :: cs => match cs with
    | [] => some (k, [x])
    | c :: cs => match intsOf (c :: cs) with
      | some (k', l) => if k' = k then some (k, x :: l) else none
      | none => none
  | _ => none

/-- A part of a block; of a table of texts it is a text at once, of a row of numbers a number, by whatever place. -/
def partX (cs : List (AV El)) (off size : Nat) (agg : Bool) : AV El :=
  bif agg then part cs off size agg
  else bif Nat.beq size 1 then
    bif Nat.ble 4 cs.length then
      match strsL cs with
      | some ss => .str (ss.getD off [])
      | none => match intsOf cs with
        | some (k, l) => .int k (l.getD off 0)
        | none => part cs off size agg
    else part cs off size agg
  else part cs off size agg

theorem intsOf_eq : ∀ {cs : List (AV El)} {k : IntKind} {l : List Int}, intsOf cs = some (k, l) → cs = l.map (AV.int k)
  | [], k, l, h => by simp [intsOf] at h
  | c :: cs, k, l, h => by
    unfold intsOf at h
    split at h
    · cases h
    · rename_i k1 x cs1 heq
      cases heq
      split at h
      · cases h; rfl
      · rename_i d ds
        split at h
        · rename_i k' l' h'
          split at h
          · rename_i e
            subst e
            cases h
            rw [List.map_cons, ← intsOf_eq h']
          · cases h
        · cases h
    · cases h

theorem intsOf_getD {cs : List (AV El)} {k : IntKind} {l : List Int} (h : intsOf cs = some (k, l)) {off : Nat} (ho : off < cs.length) : cs.getD off .junk = .int k (l.getD off 0) := by
  have e := intsOf_eq h
  subst e
  rw [List.length_map] at ho
  simp [List.getD_eq_getElem?_getD, List.getElem?_eq_getElem ho]

theorem strsL_getD : ∀ {cs : List (AV El)} {ss : List (List UInt8)}, strsL cs = some ss → ∀ off, off < cs.length → cs.getD off .junk = .str (ss.getD off [])
  | [], _, _, off, ho => absurd ho (by simp)
  | c :: cs, ss, h, off, ho => by
    unfold strsL at h
    split at h
    · rename_i heq; cases heq
    · rename_i s cs' heq
      cases heq
      split at h
      · rename_i ss' h'
        cases h
        cases off with
        | zero => rfl
        | succ n => exact strsL_getD h' n (by simpa using ho)
      · cases h
    · cases h

theorem partX_eq {cs : List (AV El)} {off n : Nat} {g : Bool} (h : off + n ≤ cs.length) : partX cs off n g = part cs off n g := by
  unfold partX
  cases g
  · simp only [cond_false]
    cases hb : Nat.beq n 1
    · rfl
    · have hn : n = 1 := Nat.eq_of_beq_eq_true hb
      simp only [cond_true]
      cases Nat.ble 4 cs.length
      · rfl
      · simp only [cond_true]
        split
        · rename_i ss hs
          unfold part
          rw [strsL_getD hs off (by omega)]
          rfl
        · split
          · rename_i k l hi
            unfold part
            rw [intsOf_getD hi (by omega)]
            rfl
          · rfl
  · rfl

/-- What an operation does to the memory; its new entries lie from 'nb' on. -/
def perform {R : Type} (a : Act El R) (h : List (HE El)) (nb : Nat) (k : AV El → List (HE El) → Option R) : Option R :=
  match a with
  | .bad => none
  | .val v => k v h
  | .chk b v => bif b then k v h else none
  | .ldc id off n agg => match h.getD id .free with
    | .blk cs => bif Nat.ble (off + n) cs.length then k (partX cs off n agg) h else none
    | _ => none
  | .stc id off vs => match h.getD id .free with
    | .blk cs => bif Nat.ble (off + vs.length) cs.length then k undefA (h.set id (.blk (setL cs off vs))) else none
    | _ => none
  | .multi ro ids news f => if isFree h nb news then
      f nb (ids.map fun i => h.getD i .free) fun v es =>
        if ro then (if news = 0 then k v h else none)
        else if es.length = ids.length + news then k v (newAt (putAt h ids es) nb (es.drop ids.length)) else none
    else none

def ofChk {R : Type} : Option (Bool × AV El) → Act El R
  | some (b, v) => .chk b v
  | none => .bad

def ofVal {R : Type} : Option (AV El) → Act El R
  | some v => .val v
  | none => .bad

/-- One new entry. -/
def new1 {R : Type} (e : HE El) (mk : Nat → AV El) : Act El R := .multi false [] 1 fun nb _ k => k (mk nb) [e]

/-- Is it a row of numbers? -/
def isArr : HE El → Bool
  | .arr _ _ => true
  | _ => false

def loadArr {R : Type} (id off : Nat) : Act El R := .multi true [id] 0 fun _ es k => match es with
  | [.arr kk l] => bif Nat.blt off l.length then k (.int kk (l.getD off 0)) es else none
  | _ => none

def storeArr {R : Type} (id off : Nat) (vs : List (AV El)) : Act El R :=
  match vs with
  | [.int k' x] => .multi false [id] 0 fun _ es k => match es with
    | [.arr kk l] => if k' = kk then (bif Nat.blt off l.length then k undefA [.arr kk (l.set off x)] else none) else none
    | _ => none
  | _ => .bad

def loadA {R : Type} (C : Cx El) (h : List (HE El)) (t : Nat) (a : AV El) : Act El R :=
  match C.tt t with
  | none => .bad
  | some ti => match a with
    | .ptr id off => bif isArr (h.getD id .free) then (bif Nat.beq ti.size 1 && !ti.ty.agg then loadArr id off else .bad) else .ldc id off ti.size ti.ty.agg
    | .rptr c x off => if off + ti.size ≤ (C.lay.cells c x).length then .val (part (C.lay.cells c x) off ti.size ti.ty.agg) else .bad
    | .mbp id i => match ti.ty with
      | .int .u8 => .multi true [id] 0 fun _ es k => match es with
        | [.mb s] => k (.int .u8 (s.getD i 0).toNat) es
        | _ => none
      | _ => .bad
    | _ => .bad

def storeA {R : Type} (C : Cx El) (h : List (HE El)) (t : Nat) (a v : AV El) : Act El R :=
  match C.tt t with
  | none => .bad
  | some ti => match a with
    | .ptr id off => if (co C t v).cells.length = ti.size ∧ allOk (co C t v).cells = true then (bif isArr (h.getD id .free) then storeArr id off (co C t v).cells else .stc id off (co C t v).cells) else .bad
    | .mbp id i => match v with
      | .int .u8 n => if ti.size = 1 then .multi false [id] 0 fun _ es k => match es with
          | [.mb s] => k undefA [.mb (s.set i (UInt8.ofNat n.toNat))]
          | _ => none
        else .bad
      | _ => .bad
    | _ => .bad

def fieldAddrA {R : Type} (C : Cx El) (t : Nat) (a : AV El) (f : Nat) : Act El R :=
  match C.tt t with
  | some ti => match ti.ty with
    | .struct fs => match fs[f]?, a with
      | some (off, size, _), .ptr id o => if size = 0 then .bad else .val (.ptr id (o + off))
      | some (off, size, _), .rptr c x o => if size = 0 then .bad else .val (.rptr c x (o + off))
      | _, _ => .bad
    | _ => .bad
  | none => .bad

def fieldA {R : Type} (C : Cx El) (t : Nat) (a : AV El) (f : Nat) : Act El R :=
  match C.tt t with
  | some ti => match ti.ty with
    | .struct fs => match fs[f]?, a with
      | some (off, size, g), .agg cs => if off + size ≤ cs.length then .val (part cs off size g) else .bad
      | _, _ => .bad
    | _ => .bad
  | none => .bad

def indexAddrA {R : Type} (C : Cx El) (t : Nat) (a i : AV El) : Act El R :=
  match i with
  | .int _ i => match a with
    | .list _ c l => match C.tt t with
      | some ti => match ti.ty with
        | .slice c' => if c' = c then .chk (inl i l.length) (.rptr c (l.getD i.toNat (C.lay.dflt c)) 0) else .bad
        | _ => .bad
      | none => .bad
    | .mbs id => match C.tt t with
      | some ti => match ti.ty with
        | .bslice => .multi true [id] 0 fun _ es k => match es with
          | [.mb s] => bif inl i s.length then k (.mbp id i.toNat) es else none
          | _ => none
        | _ => .bad
      | none => .bad
    | .hsl id off n => match C.tt t with
      | some ti => match ti.ty with
        | .slice c => match C.tt c with
          | some e => .chk (inl i n) (.ptr id (off + i.toNat * e.size))
          | none => .bad
        | _ => .bad
      | none => .bad
    | .ptr id off => match C.tt t with
      | some ti => match ti.ty with
        | .arr n w _ => .chk (inl i n) (.ptr id (off + i.toNat * w))
        | _ => .bad
      | none => .bad
    | _ => .bad
  | _ => .bad

def indexA {R : Type} (C : Cx El) (t : Nat) (a i : AV El) : Act El R :=
  match i with
  | .int _ i => match a with
    | .str s => match C.tt t with
      | some ti => match ti.ty with
        | .str => .chk (inl i s.length) (.int .u8 (s.getD i.toNat 0).toNat)
        | _ => .bad
      | none => .bad
    | .agg cs => match C.tt t with
      | some ti => match ti.ty with
        | .arr n w g => if (n * w) ≤ cs.length then .chk (inl i n) (part cs (i.toNat * w) w g) else .bad
        | _ => .bad
      | none => .bad
    | _ => .bad
  | _ => .bad

/-- A byte of a []byte, by its place: read only. -/
def byteAddr (C : Cx El) (t : Nat) : Bool :=
  match C.tt t with
  | some ti => (match ti.ty with
    | .bslice => true
    | _ => false)
  | none => false

def convA {R : Type} (C : Cx El) (src dst : Nat) (x : AV El) : Act El R :=
  match C.tt dst with
  | none => .bad
  | some ti => if (C.tt src).isNone then .bad else match ti.ty, x with
    | .int k, .int _ n => .val (.int k (k.wrap n))
    | .str, .str s => .val (.str s)
    | .str, .int _ n => .val (.str (Utf8.encode n).data.toList)
    | .str, .bytes _ s => if byteAddr C src then .val (.str s) else .bad
    | .str, .mbs id => if byteAddr C src then .multi true [id] 0 fun _ es k => match es with
        | [.mb s] => bif Nat.ble s.length maxCat then k (.str s) es else none
        | _ => none
      else .bad
    | .str, .nilsl => if byteAddr C src then .val (.str []) else .bad
    | .bslice, .str s => .multi false [] 1 fun nb _ k => bif Nat.ble s.length maxLen' then k (.bytes (.tok nb) s) [.tok] else none
    | _, _ => .bad

def buildA {R : Type} (C : Cx El) (t : Nat) (parts : List (Nat × AV El)) : Act El R :=
  match C.tt t with
  | none => .bad
  | some ti => if ti.ty.agg then match fillA C ti.ty ti.zero parts with
      | some cs => .val (.agg cs)
      | none => .bad
    else .bad

def buildSliceA {R : Type} (C : Cx El) (t n : Nat) (parts : List (Nat × AV El)) : Act El R :=
  match C.tt t with
  | none => .bad
  | some ti => if 4096 < n then .bad else match ti.ty with
    | .bslice => if parts.length = n then match bytesA parts 0 with
        | some s => .val (.bytes .full s)
        | none => .bad
      else .bad
    | .slice c => if parts.length = n ∧ C.lay.w c ≤ 4096 then match elemsA C c parts 0 with
        | some l => .val (.list .full c l)
        | none => (match C.tt c with
          | some e => (match fillA C (.arr n e.size e.ty.agg) (List.replicate n e.zero).flatten parts with
            | some cs => new1 (.blk cs) fun id => .hsl id 0 n
            | none => .bad)
          | none => .bad)
      else .bad
    | _ => .bad

def makeSliceA {R : Type} (C : Cx El) (t : Nat) (n m : AV El) : Act El R :=
  match C.tt t with
  | none => .bad
  | some ti => match ti.ty, n, m with
    | .bslice, .int _ n, .int _ m => .multi false [] 1 fun nb _ k => bif inside 0 n m maxLen' then k (.mbs nb) [.mb (List.replicate n.toNat 0)] else none
    | _, _, _ => .bad

def minA : AV El → AV El → Option (AV El)
  | .int k x, .int k' y => if k = k' then some (.int k (if y < x then y else x)) else none
  | _, _ => none
def maxA : AV El → AV El → Option (AV El)
  | .int k x, .int k' y => if k = k' then some (.int k (if x < y then y else x)) else none
  | _, _ => none

def noDup : List Nat → Bool
  | [] => true
  | x :: xs => !xs.contains x && noDup xs

/-- Entries that there are. -/
def thereB (h : List (HE El)) : List Nat → Bool
  | [] => true
  | i :: is => (match h[i]? with
    | none => false
    | some .free => false
    | some _ => true) && thereB h is

/-- Back from a callee's places. -/
def backIdx (ids : List Nat) (nb news j : Nat) : Option Nat := if j < ids.length then ids[j]? else if j < ids.length + news then some (nb + (j - ids.length)) else none

/-- A call: its arguments and all that they lead to, by places of its own. -/
def callIds {R : Type} (fs : FS El) (ids : List Nat) (h : List (HE El)) (args : List (AV El)) : Act El R :=
  if noDup ids && thereB h ids then
    .multi false ids fs.news fun nb es k =>
      fs.run (renL (idx ids) args) (renH (idx ids) es) fun v es' => k (v.ren (backIdx ids nb fs.news)) (renH (backIdx ids nb fs.news) es')
  else .bad

def callA {R : Type} (C : Cx El) (h : List (HE El)) (f : Nat) (args : List (AV El)) : Act El R :=
  match C.fn f with
  | none => .bad
  | some fs => callIds fs (reach h 64 (idsL (lowL args)) []) h (lowL args)

def coArgs (C : Cx El) : List Nat → List (AV El) → List (AV El)
  | t :: ts, v :: vs => co C t v :: coArgs C ts vs
  | _, vs => vs

def nextA {R : Type} (id : Nat) : Act El R :=
  .multi false [id] 0 fun _ es k => match es with
    | [.iter s pos] => bif Nat.blt pos s.length then
        k (.tup [.bool true, .int .i64 pos, .int .i32 (Utf8.decode ⟨s.toArray⟩ pos).1]) [.iter s (pos + (Utf8.decode ⟨s.toArray⟩ pos).2)]
      else k (.tup [.bool false]) [.iter s pos]
    | _ => none

/-- Seeking a key: one way each. -/
def findA {R : Type} (key : AV El) (zero : AV El) (k : AV El → Bool → Option R) : List (AV El × AV El) → Option R
  | [] => k zero false
  | (x, vs) :: r => match eq1 key x with
    | some b => (match b with
      | true => k vs true
      | false => findA key zero k r)
    | none => none

/-- The same plain values. -/
def zeroEq1 (x y : AV El) : Bool :=
  match x, y with
  | .int k a, .int k' b => decide (k = k') && decide (a = b)
  | .bool a, .bool b => a == b
  | .str a, .str b => decide (a = b)
  | _, _ => false

def zeroEq : List (AV El) → List (AV El) → Bool
  | [], [] => true
  | x :: xs, y :: ys => zeroEq1 x y && zeroEq xs ys
  | _, _ => false

theorem zeroEq1_eq {x y : AV El} (h : zeroEq1 x y = true) : x = y := by
  unfold zeroEq1 at h
  split at h <;> simp_all

theorem zeroEq_eq : ∀ {x y : List (AV El)}, zeroEq x y = true → x = y
  | [], [], _ => rfl
  | [], _ :: _, h => by simp [zeroEq] at h
  | _ :: _, [], h => by simp [zeroEq] at h
  | x :: xs, y :: ys, h => by
    simp only [zeroEq, Bool.and_eq_true] at h
    rw [zeroEq1_eq h.1, zeroEq_eq h.2]

def lookA {R : Type} (C : Cx El) (t : Nat) (m key : AV El) (ok : Bool) : Act El R :=
  match C.tt t with
  | none => .bad
  | some ti => match ti.ty with
    | .map e => match C.tt e with
      | none => .bad
      | some ei => match m with
        | .map id => (match key with
          | .int kk n => .multi true [id] 0 fun _ es k => match es with
            | [.map l] => findA (.int kk n) (part ei.zero 0 ei.size ei.ty.agg) (fun v b => k (if ok then .tup [v, .bool b] else v) es) l
            | _ => none
          | _ => .bad)
        | .fmap c g f => match key with
          | .int .i64 n => if c = e ∧ g = ei.ty.agg ∧ ei.size = C.lay.w c ∧ zeroEq ei.zero (C.lay.cells c (C.lay.dflt c)) = true then
              .val (if ok then .tup [part (C.lay.cells c ((f n).getD (C.lay.dflt c))) 0 ei.size g, .bool (f n).isSome] else part (C.lay.cells c ((f n).getD (C.lay.dflt c))) 0 ei.size g)
            else .bad
          | _ => .bad
        | _ => .bad
    | _ => .bad

/-- A new key and its value. -/
def insertA {R : Type} (C : Cx El) (t : Nat) (m key v : AV El) : Act El R :=
  match C.tt t with
  | none => .bad
  | some ti => match ti.ty with
    | .map e => match m with
      | .map id => (match key with
        | .int kk n => .multi false [id] 0 fun _ es k => match es with
          | [.map l] => findA (.int kk n) .junk (fun _ b => bif b then none else k undefA [.map (l ++ [(.int kk n, co C e v)])]) l
          | _ => none
        | _ => .bad)
      | _ => .bad
    | _ => .bad

/-- What a new block is: a long row of numbers is a list of them. -/
def allocE (z : List (AV El)) : HE El :=
  bif Nat.ble 32 z.length then match intsOf z with
    | some (k, l) => .arr k l
    | none => .blk z
  else .blk z

def execA {R : Type} (C : Cx El) (h : List (HE El)) (sl : List (AV El)) (o : Oper) : Act El R :=
  match o.op with
  | .move x => .val (co C o.type (opd sl x))
  | .assign x => .val (co C o.type (opd sl x))
  | .pick c a b => match opd sl c with
    | .bool true => .val (opd sl a)
    | .bool false => .val (opd sl b)
    | _ => .bad
  | .alloc t => match C.tt t with
    | some ti => new1 (allocE ti.zero) fun id => .ptr id 0
    | none => .bad
  | .box t x => match C.tt t with
    | some ti => if (co C t (opd sl x)).cells.length = ti.size ∧ allOk (co C t (opd sl x)).cells = true then new1 (.blk (co C t (opd sl x)).cells) fun id => .ptr id 0 else .bad
    | none => .bad
  | .build t ps => buildA C t (ps.toList.map fun p => (p.1, opd sl p.2))
  | .buildSlice t n ps => buildSliceA C t n (ps.toList.map fun p => (p.1, opd sl p.2))
  | .load t a => loadA C h t (opd sl a)
  | .store t a v => storeA C h t (opd sl a) (opd sl v)
  | .nilCheck x => match opd sl x with
    | .ptr id off => .val (.ptr id off)
    | .rptr c v off => .val (.rptr c v off)
    | .fn f a b => (match f with
      | .method _ => .bad
      | f => .val (.fn f a b))
    | _ => .bad
  | .binOp op t x y _ => ofChk (binA C t op (opd sl x) (opd sl y))
  | .unOp op _ x => ofVal (unA op (opd sl x))
  | .convert s d x => convA C s d (opd sl x)
  | .makeFunc f a b => .val (.fn f (a.toList.map (opd sl)) (b.toList.map (opd sl)))
  | .makeSlice t n m => makeSliceA C t (opd sl n) (opd sl m)
  | .slice t x lo hi mx => (match C.tt t with
    | none => .bad
    | some ti => ofChk (sliceA ti.ty (opd sl x) (lo.map (opd sl)) (hi.map (opd sl)) (mx.map (opd sl))))
  | .fieldAddr t x f => fieldAddrA C t (opd sl x) f
  | .field t x f => fieldA C t (opd sl x) f
  | .indexAddr t x i => indexAddrA C t (opd sl x) (opd sl i)
  | .index t x i => indexA C t (opd sl x) (opd sl i)
  | .range t x => (match C.tt t with
    | some ti => (match ti.ty with
      | .str => (match opd sl x with
        | .str s => new1 (.iter s 0) fun id => .iter id
        | _ => .bad)
      | _ => .bad)
    | none => .bad)
  | .next it true => match opd sl it with
    | .iter id => nextA id
    | _ => .bad
  | .makeMap _ none => new1 (.map []) fun id => .map id
  | .lookup t x i ok => lookA C t (opd sl x) (opd sl i) ok
  | .insert t x i v => insertA C t (opd sl x) (opd sl i) (opd sl v)
  | .extract x i => match opd sl x with
    | .tup vs => (match vs[i]? with
      | some v => .val v
      | none => .bad)
    | _ => .bad
  | .call c => match c.callee with
    | .value f => match opd sl f with
      | .fn (.func g) a b => callA C h g (a ++ coArgs C c.argTypes.toList (c.args.toList.map (opd sl)) ++ b)
      | _ => .bad
    | .builtin .len => match c.argTypes.toList, c.args.toList with
      | [t], [x] => (match C.tt t with
        | none => .bad
        | some ti => match lenA ti.ty (opd sl x) with
          | some n => .val (.int .i64 n)
          | none => .bad)
      | _, _ => .bad
    | .builtin .append => match c.argTypes.toList, c.args.toList with
      | [t, t2], [a, b] => appendA C t t2 (opd sl a) (opd sl b)
      | _, _ => .bad
    | .builtin .min => match c.args.toList with
      | [a, b] => ofVal (minA (opd sl a) (opd sl b))
      | _ => .bad
    | .builtin .max => match c.args.toList with
      | [a, b] => ofVal (maxA (opd sl a) (opd sl b))
      | _ => .bad
    | _ => .bad
  | _ => .bad

/-- How many entries an operation may make. -/
def newsOf (C : Cx El) (o : Oper) : Nat :=
  match o.op with
  | .alloc _ => 1
  | .box _ _ => 1
  | .buildSlice _ _ _ => 1
  | .makeSlice _ _ _ => 1
  | .convert _ _ _ => 1
  | .range _ _ => 1
  | .makeMap _ _ => 1
  | .call c => match c.callee with
    | .value (.func g) => (match C.fn g with
      | some fs => fs.news
      | none => 0)
    | .builtin .append => 1
    | _ => 0
  | _ => 0

def putS (sl : List (AV El)) (d : Option Nat) (v : AV El) : List (AV El) :=
  match d with
  | some t => sl.set t v
  | none => sl

/-- Which way a guard goes: the slots know it then. -/
def guarded {R : Type} (ops : List Oper) (o : Oper) (sl : List (AV El)) (yes no : List (AV El) → Option R) : Option R :=
  match o.guard with
  | none => yes sl
  | some (j, want) => match ops[j]? with
    | none => no sl
    | some p => match p.dst with
      | none => no sl
      | some d => match sl.getD d undefA with
        | .bool b => match b with
          | true => if want then yes (sl.set d (.bool true)) else no (sl.set d (.bool true))
          | false => if want then no (sl.set d (.bool false)) else yes (sl.set d (.bool false))
        | .tup [] => no sl
        | _ => none

/-- A region in the order of its text. -/
def evOps {R : Type} (C : Cx El) (ops : List Oper) : List Oper → List (AV El) → List (HE El) → (List (AV El) → List (HE El) → Option R) → Option R
  | [], sl, h, k => k sl h
  | o :: rest, sl, h, k => guarded ops o sl
      (fun sl => perform (execA C h sl o) h h.length fun v h' => evOps C ops rest (putS sl o.dst v) h' k)
      (fun sl => evOps C ops rest (putS sl o.dst undefA) h k)
end
end Go.Ev

/- The abstract machine: regions in any order, code, whole functions. -/
namespace Go.Ev
section
variable {El : Nat → Type}

/-! Regions whose order is drawn: run in the order of the text; what may come in another order must not meet. -/
abbrev Foot := List (Nat × Option (Nat × Nat) × Bool)

def Act.foot {R : Type} (nb : Nat) : Act El R → Foot
  | .ldc id off n _ => [(id, some (off, if n = 0 then 1 else n), false)]
  | .stc id off cs => [(id, some (off, cs.length), true)]
  | .multi ro ids n _ => (ids.map fun i => (i, none, !ro)) ++ (List.range' nb n).map fun i => (i, none, true)
  | _ => []

def Act.news {R : Type} : Act El R → Nat
  | .multi _ _ n _ => n
  | _ => 0

def meets : Option (Nat × Nat) → Option (Nat × Nat) → Bool
  | some (a, n), some (b, m) => decide (a < b + m) && decide (b < a + n)
  | _, _ => true

def clash1 (x y : Nat × Option (Nat × Nat) × Bool) : Bool := (x.1 == y.1) && (x.2.2 || y.2.2) && meets x.2.1 y.2.1

def clash (f g : Foot) : Bool := f.any fun x => g.any fun y => clash1 x y

/-- The operations that come ahead of one in every order. -/
def ahead (ops : List Oper) : Nat → Nat → Nat → Bool
  | 0, _, _ => false
  | n + 1, i, j => match ops[j]? with
    | none => false
    | some o => o.after.toList.any fun e => Region.binds .any e && (e.on == i || ahead ops n i e.on)

def looks (ops : List Oper) (o : Oper) : List Nat :=
  (o.op.operands.toList.filterMap fun x => match x with
    | .tmp t => some t
    | _ => none) ++
  (match o.guard with
   | some (g, _) => ((ops[g]?).bind (·.dst)).toList
   | none => [])

def free2 (ops : List Oper) (x y : Oper) : Bool :=
  (match x.dst with
   | some d => !(looks ops y).contains d && y.dst != some d
   | none => true) &&
  (match y.dst with
   | some d => !(looks ops x).contains d
   | none => true)

/-- An operation may stand beside those of the log that are not ahead of it. -/
def besides (ops : List Oper) (log : List (Nat × Foot)) (j : Nat) (o : Oper) (f : Foot) : Bool :=
  log.all fun x => ahead ops ops.length x.1 j || (!clash x.2 f && (match ops[x.1]? with
    | some p => free2 ops p o
    | none => false))

def evOpsD {R : Type} (C : Cx El) (ops : List Oper) : List Oper → Nat → Nat → List (Nat × Foot) → List (AV El) → List (HE El) → (List (AV El) → List (HE El) → Option R) → Option R
  | [], _, _, _, sl, h, k => k sl h
  | o :: rest, j, nb, log, sl, h, k => guarded ops o sl
      (fun sl => if besides ops log j o ((execA (R := R) C h sl o).foot nb) && decide (nb + (execA (R := R) C h sl o).news ≤ h.length) then
          perform (execA C h sl o) h nb fun v h' => evOpsD C ops rest (j + 1) (nb + newsOf C o) ((j, (execA (R := R) C h sl o).foot nb) :: log) (putS sl o.dst v) h' k
        else none)
      (fun sl => if besides ops log j o [] then evOpsD C ops rest (j + 1) (nb + newsOf C o) ((j, []) :: log) (putS sl o.dst undefA) h k else none)

/-- Edges that bind go back in the text. -/
def orderly : List Oper → Nat → Bool
  | [], _ => true
  | o :: r, j => (o.after.toList.all fun e => !Region.binds .any e || decide (e.on < j)) && orderly r (j + 1)

def total (C : Cx El) : List Oper → Nat
  | [] => 0
  | o :: r => newsOf C o + total C r

/-! Cleaning: dead slots forgotten, slices' rooms named anew, entries behind a bound given up. -/
def freshF (f : Fl) (h : List (HE El)) : Fl × List (HE El) :=
  match f with
  | .nil => (.tok h.length, h ++ [.tok])
  | .full => (.tok h.length, h ++ [.tok])
  | .tok g => (match h.getD g .free with
    | .tok => (.tok h.length, h.set g .dead ++ [.tok])
    | _ => (.shr, h))
  | _ => (.shr, h)

def fresh1 (v : AV El) (h : List (HE El)) : AV El × List (HE El) :=
  match v with
  | .bytes f s => (.bytes (freshF f h).1 s, (freshF f h).2)
  | .list f c l => (.list (freshF f h).1 c l, (freshF f h).2)
  | v => (v.lowD, h)

def freshL : List (AV El) → List (HE El) → List (AV El) × List (HE El)
  | [], h => ([], h)
  | v :: vs, h => ((fresh1 v h).1 :: (freshL vs (fresh1 v h).2).1, (freshL vs (fresh1 v h).2).2)

/-- A slice of which nothing is known. -/
def AV.shrD (v : AV El) : AV El :=
  match v with
  | .bytes _ s => .bytes .shr s
  | .list _ c l => .list .shr c l
  | v => v.lowD

/-- Slots: 0: forgotten; 1: kept; 2: kept with a room named anew; others: kept, a slice's flag forgotten. -/
def freshS : List Nat → List (AV El) → List (HE El) → List (AV El) × List (HE El)
  | m :: ms, v :: vs, h => match m with
    | 0 => (.junk :: (freshS ms vs h).1, (freshS ms vs h).2)
    | 1 => (v.lowD :: (freshS ms vs h).1, (freshS ms vs h).2)
    | 2 => ((fresh1 v h).1 :: (freshS ms vs (fresh1 v h).2).1, (freshS ms vs (fresh1 v h).2).2)
    | _ => (v.shrD :: (freshS ms vs h).1, (freshS ms vs h).2)
  | _, vs, h => (vs.map fun _ => .junk, h)

/-- The blocks' own slices, from entry i on, n of them. -/
def freshH : Nat → Nat → List (HE El) → List (HE El)
  | 0, _, h => h
  | n + 1, i, h => match h.getD i .free with
    | .blk cs => freshH n (i + 1) ((freshL cs h).2.set i (.blk (freshL cs h).1))
    | _ => freshH n (i + 1) h

def compactH (keep : List Nat) (h : List (HE El)) : List (HE El) := keep.map fun i => (h.getD i .free).ren (idx keep)


/-- What a place of the code cleans: the slots' marks, whether the blocks' slices are named anew. What the slots do not lead to is given up. -/
structure Hint where
  mask : List Nat
  blocks : Bool

def clean {R : Type} (m : Nat) (t : Hint) (sl : List (AV El)) (h : List (HE El)) (k : List (AV El) → List (HE El) → Option R) : Option R :=
  let p := freshS t.mask sl h
  let h2 := if t.blocks then freshH p.2.length 0 p.2 else p.2
  let keep := List.range m ++ (reach h2 1024 (idsL p.1 ++ List.range m) []).filter fun i => decide (m ≤ i)
  if noDup keep then k (renL (idx keep) p.1) (compactH keep h2) else none

def cleanAt {R : Type} (m : Nat) (hs : Nat → Option Hint) (id : Nat) (sl : List (AV El)) (h : List (HE El)) (k : List (AV El) → List (HE El) → Option R) : Option R :=
  match hs id with
  | none => k sl h
  | some t => clean m t sl h k

/-- How often loops go round at most. -/
def rounds {R : Type} (body : (List (AV El) → List (HE El) → Option R) → List (AV El) → List (HE El) → Option R) : Nat → List (AV El) → List (HE El) → Option R
  | 0, _, _ => none
  | n + 1, sl, h => body (rounds body n) sl h

/-- What a loop does, from its head on: its contract. -/
structure LP (El : Nat → Type) where
  run : {R : Type} → (List (AV El) → List (HE El) → Option R) → (Nat → List (AV El) → List (HE El) → Option R) → List (AV El) → List (HE El) → Option R

/-- A loop's number: its first region's. -/
def firstId : Code → Nat
  | .region id _ _ => id
  | .seq a _ => firstId a
  | .cond _ a _ => firstId a
  | .block _ b => firstId b
  | .loop b => firstId b
  | .scope b => firstId b
  | _ => 0

def loopsOf : Code → List Code
  | .seq a b => loopsOf a ++ loopsOf b
  | .cond _ a b => loopsOf a ++ loopsOf b
  | .block _ b => loopsOf b
  | .loop b => b :: loopsOf b
  | .scope b => loopsOf b
  | _ => []

/-- A condition's slot knows then what it is. -/
def setB (sl : List (AV El)) (c : Operand) (b : Bool) : List (AV El) :=
  match c with
  | .tmp i => sl.set i (.bool b)
  | _ => sl

theorem setB_eq {sl : List (AV El)} {c : Operand} {b : Bool} (h : opd sl c = .bool b) : setB sl c b = sl := by
  cases c with
  | tmp i =>
    simp only [opd, List.getD_eq_getElem?_getD] at h
    simp only [setB]
    apply List.ext_getElem?
    intro j
    rw [List.getElem?_set]
    split
    · rename_i e
      subst e
      split
      · rename_i hl
        rw [List.getElem?_eq_getElem hl] at h ⊢
        simp only [Option.getD_some] at h
        rw [h]
      · rename_i hl
        rw [List.getElem?_eq_none (by omega)]
    · rfl
  | _ => rfl

def evC {R : Type} (C : Cx El) (m : Nat) (hs : Nat → Option Hint) (lp : Nat → Option (LP El)) (fuel : Nat) : Code → (List (AV El) → List (HE El) → Option R) → (List (AV El) → List (HE El) → Option R) →
    (Nat → List (AV El) → List (HE El) → Option R) → List (AV El) → List (HE El) → Option R
  | .skip, kN, _, _, sl, h => kN sl h
  | .region id ops draw, kN, _, _, sl, h =>
    if draw then (if orderly ops.toList 0 then evOpsD C ops.toList ops.toList 0 h.length [] sl (h ++ List.replicate (total C ops.toList) .free) fun sl h => cleanAt m hs id sl h kN else none)
    else evOps C ops.toList ops.toList sl h fun sl h => cleanAt m hs id sl h kN
  | .seq a b, kN, kR, kE, sl, h => evC C m hs lp fuel a (fun sl h => evC C m hs lp fuel b kN kR kE sl h) kR kE sl h
  | .cond c a b, kN, kR, kE, sl, h => match opd sl c with
    | .bool t => (match t with
      | true => evC C m hs lp fuel a kN kR kE (setB sl c true) h
      | false => evC C m hs lp fuel b kN kR kE (setB sl c false) h)
    | _ => none
  | .block id body, kN, kR, kE, sl, h => evC C m hs lp fuel body kN kR (fun i sl h => if i = id then kN sl h else kE i sl h) sl h
  | .loop body, _, kR, kE, sl, h => cleanAt m hs (firstId body + 1000000) sl h fun sl h => match lp (firstId body) with
    | some L => L.run kR kE sl h
    | none => rounds (fun k sl h => evC C m hs lp fuel body (fun sl h => cleanAt m hs (firstId body + 1000000) sl h k) kR kE sl h) fuel sl h
  | .exit id, _, _, kE, sl, h => kE id sl h
  | .ret, _, kR, _, sl, h => kR sl h
  | .label _, kN, _, _, sl, h => kN sl h
  | .scope body, kN, kR, kE, sl, h => evC C m hs lp fuel body kN kR kE sl h
  | _, _, _, _, _, _ => none

/-- A function's results. -/
def resA (C : Cx El) (sl : List (AV El)) (h : List (HE El)) : List ResultVar → Option (List (AV El))
  | [] => some []
  | r :: rs => match (match r with
      | .tmp t => some (sl.getD t undefA)
      | .cell a t => match C.tt t, sl.getD a undefA with
        | some ti, .ptr id off => (match h.getD id .free with
          | .blk cs => if off + ti.size ≤ cs.length then some (part cs off ti.size ti.ty.agg) else none
          | _ => none)
        | _, _ => none), resA C sl h rs with
    | some v, some vs => some (v :: vs)
    | _, _ => none

def one : List (AV El) → AV El
  | [v] => v
  | vs => .tup vs

/-- What is left behind a function: 'm' entries came in, 'news' are new. -/
structure Leave where
  news : Nat
  rooms : Bool
  blocks : Bool

def fin {R : Type} (L : Leave) (m : Nat) (v : AV El) (h : List (HE El)) (k : AV El → List (HE El) → Option R) : Option R :=
  let p := if L.rooms then fresh1 v h else (v.lowD, h)
  let h2 := if L.blocks then freshH p.2.length 0 p.2 else p.2
  let keep := List.range m ++ (reach h2 64 (p.1.ids ++ List.range m) []).filter fun i => decide (m ≤ i)
  if noDup keep && decide (keep.length = m + L.news) then k (p.1.ren (idx keep)) (compactH keep h2) else none

def evF {R : Type} (C : Cx El) (hs : Nat → Option Hint) (lp : Nat → Option (LP El)) (L : Leave) (fuel : Nat) (ntmps : Nat) (results : List ResultVar) (body : Code) (args : List (AV El)) (hp : List (HE El))
    (k : AV El → List (HE El) → Option R) : Option R :=
  let ret : List (AV El) → List (HE El) → Option R := fun sl h => match resA C sl h results with
    | some vs => fin L hp.length (one vs) h k
    | none => none
  evC C hp.length hs lp fuel body ret ret (fun _ _ _ => none) (args ++ List.replicate (ntmps - args.length) undefA) hp
end
end Go.Ev

/- How abstract values and memories stand for the model's own. Own work. -/
namespace Go.Ev

/-- What an entry stands for: a block, of so many cells; room behind a slice: the cells from lo on, below hi, of a block. -/
inductive RE where
  | none
  | dead
  | blk (b n : Nat)
  | tok (b lo hi : Nat)

/-- What is never written again: cells; maps. -/
structure RO where
  cell : Nat → Nat → Option Value
  obj : Nat → Option (Array MapEntry × Nat)

def ρ0 : Nat → RE := fun _ => .none

def FlOk (ρ : Nat → RE) (f : Fl) (b o len cap w : Nat) : Prop :=
  match f with
  | .nil => False
  | .full => cap = len
  | .nn => True
  | .shr => True
  | .tok g => ρ g = .dead ∨ ∃ b' lo hi, ρ g = .tok b' lo hi ∧ (cap = len ∨ (b' = b ∧ lo = o + len * w ∧ hi = o + cap * w))

def FlNil (ρ : Nat → RE) (f : Fl) : Prop :=
  match f with
  | .nn => False
  | .tok g => ρ g = .dead ∨ ∃ b' lo hi, ρ g = .tok b' lo hi
  | _ => True

variable {El : Nat → Type}


/-- An abstract value stands for one of the model's. -/
inductive V (C : Cx El) (H : RO) : (Nat → RE) → AV El → Value → Prop where
  | junk (ρ v) : V C H ρ .junk v
  | bool (ρ b) : V C H ρ (.bool b) (.bool b)
  | int (ρ k n) (h : inR k n = true) : V C H ρ (.int k n) (.int k n)
  | str (ρ) (b : ByteArray) (hb : b.data.toList.length ≤ maxCat) : V C H ρ (.str b.data.toList) (.string b)
  | nilptr (ρ) : V C H ρ .nilptr (.pointer none)
  | nilsl (ρ) : V C H ρ .nilsl (.slice none 0 0)
  | nilfn (ρ) : V C H ρ .nilfn .nilFunc
  | ptr (ρ id off b n) (h : ρ id = .blk b n) : V C H ρ (.ptr id off) (.pointer (some ⟨b, off, none⟩))
  | rptr (ρ c x off b o) (vs : Nat → Value) (h1 : ∀ j a, (C.lay.cells c x)[j]? = some a → H.cell b (o + j) = some (vs j))
      (h2 : ∀ j a, (C.lay.cells c x)[j]? = some a → V C H ρ0 a (vs j)) : V C H ρ (.rptr c x off) (.pointer (some ⟨b, o + off, none⟩))
  | mbp (ρ id i b n) (h : ρ id = .blk b n) (hi : i < n) : V C H ρ (.mbp id i) (.pointer (some ⟨b, i, none⟩))
  | bytesN (ρ f) (h : FlNil ρ f) : V C H ρ (.bytes f []) (.slice none 0 0)
  | bytes (ρ f) (s : List UInt8) (b o cap) (hf : FlOk ρ f b o s.length cap 1) (hc : s.length ≤ cap ∧ s.length ≤ maxCat)
      (h : ∀ (i : Nat) x, s[i]? = some x → H.cell b (o + i) = some (.int .u8 x.toNat)) : V C H ρ (.bytes f s) (.slice (some ⟨b, o, none⟩) s.length cap)
  | listN (ρ f c) (h : FlNil ρ f) : V C H ρ (.list f c []) (.slice none 0 0)
  | list (ρ f c) (l : List (El c)) (b o cap) (vs : Nat → Nat → Value) (hf : FlOk ρ f b o l.length cap (C.lay.w c)) (hc : l.length ≤ cap ∧ l.length ≤ maxCat)
      (h1 : ∀ (i : Nat) x (j : Nat) a, l[i]? = some x → (C.lay.cells c x)[j]? = some a → H.cell b (o + i * C.lay.w c + j) = some (vs i j))
      (h2 : ∀ (i : Nat) x (j : Nat) a, l[i]? = some x → (C.lay.cells c x)[j]? = some a → V C H ρ0 a (vs i j)) :
      V C H ρ (.list f c l) (.slice (some ⟨b, o, none⟩) l.length cap)
  | hsl (ρ id off len b n cap) (h : ρ id = .blk b n) (hc : len ≤ cap ∧ len ≤ maxCat) : V C H ρ (.hsl id off len) (.slice (some ⟨b, off, none⟩) len cap)
  | mbs (ρ id b n cap) (h : ρ id = .blk b n) (hc : n ≤ cap) : V C H ρ (.mbs id) (.slice (some ⟨b, 0, none⟩) n cap)
  | iter (ρ id b n) (h : ρ id = .blk b n) : V C H ρ (.iter id) (.pointer (some ⟨b, 0, none⟩))
  | map (ρ id b n) (h : ρ id = .blk b n) : V C H ρ (.map id) (.map (some b))
  | fmap (ρ c) (g : Bool) (m : Int → Option (El c)) (b es ck) (vs : Int → Value) (us : Int → Nat → Value) (hH : H.obj b = some (es, ck))
      (h1 : ∀ n x, inR .i64 n = true → m n = some x → ∃ i, Instr.findNow (.int .i64) (.int .i64 n) es.toList 0 = some (some (i, vs n)))
      (h0 : ∀ n, inR .i64 n = true → m n = Option.none → Instr.findNow (.int .i64) (.int .i64 n) es.toList 0 = some Option.none)
      (h3 : ∀ n x, m n = some x → vs n = if g then .agg ((List.range (C.lay.w c)).map (us n)).toArray else us n 0)
      (h2 : ∀ n x (j : Nat) a, m n = some x → (C.lay.cells c x)[j]? = some a → V C H ρ0 a (us n j)) : V C H ρ (.fmap c g m) (.map (some b))
  | fn (ρ f) (as bs : List (AV El)) (us vs : Array Value) (h1 : as.length = us.size) (h2 : bs.length = vs.size)
      (h3 : ∀ (i : Nat) a v, as[i]? = some a → us[i]? = some v → V C H ρ a v)
      (h4 : ∀ (i : Nat) a v, bs[i]? = some a → vs[i]? = some v → V C H ρ a v) : V C H ρ (.fn f as bs) (.func f us vs)
  | agg (ρ) (cs : List (AV El)) (vs : Array Value) (h1 : cs.length = vs.size)
      (h2 : ∀ (i : Nat) a v, cs[i]? = some a → vs[i]? = some v → V C H ρ a v) : V C H ρ (.agg cs) (.agg vs)
  | tup (ρ) (cs : List (AV El)) (vs : Array Value) (h1 : cs.length = vs.size)
      (h2 : ∀ (i : Nat) a v, cs[i]? = some a → vs[i]? = some v → V C H ρ a v) : V C H ρ (.tup cs) (.tuple vs)

/-- Lists of values. -/
def VL (C : Cx El) (H : RO) (ρ : Nat → RE) (as : List (AV El)) (vs : List Value) : Prop :=
  as.length = vs.length ∧ ∀ (i : Nat) a v, as[i]? = some a → vs[i]? = some v → V C H ρ a v

structure Ext (H H' : RO) (ρ ρ' : Nat → RE) : Prop where
  cell : ∀ b o v, H.cell b o = some v → H'.cell b o = some v
  obj : ∀ b x, H.obj b = some x → H'.obj b = some x
  re : ∀ i, ρ i ≠ .none → ρ' i = ρ i ∨ (∃ b lo hi, ρ i = .tok b lo hi) ∧ ρ' i = .dead

theorem Ext.refl (H : RO) (ρ : Nat → RE) : Ext H H ρ ρ := ⟨fun _ _ _ h => h, fun _ _ h => h, fun _ _ => .inl rfl⟩

theorem Ext.trans {H H' H'' : RO} {ρ ρ' ρ'' : Nat → RE} (h : Ext H H' ρ ρ') (k : Ext H' H'' ρ' ρ'') : Ext H H'' ρ ρ'' := by
  refine ⟨fun b o v x => k.cell _ _ _ (h.cell _ _ _ x), fun b x y => k.obj _ _ (h.obj _ _ y), fun i hi => ?_⟩
  rcases h.re i hi with e | ⟨t, e⟩
  · rcases k.re i (by rw [e]; exact hi) with e' | ⟨⟨b, lo, hi', t'⟩, e'⟩
    · exact .inl (e'.trans e)
    · exact .inr ⟨⟨b, lo, hi', e ▸ t'⟩, e'⟩
  · rcases k.re i (by rw [e]; intro hc; cases hc) with e' | ⟨⟨b, lo, hi', t'⟩, e'⟩
    · exact .inr ⟨t, e'.trans e⟩
    · rw [e] at t'; cases t'

theorem Ext.blk {H H' : RO} {ρ ρ' : Nat → RE} (x : Ext H H' ρ ρ') {i b n : Nat} (h : ρ i = .blk b n) : ρ' i = .blk b n := by
  rcases x.re i (by rw [h]; intro hc; cases hc) with e | ⟨⟨_, _, _, e⟩, _⟩
  · exact e.trans h
  · rw [h] at e; cases e

theorem FlOk.ext {H H' : RO} {ρ ρ' : Nat → RE} {f : Fl} {b o len cap w : Nat} (x : Ext H H' ρ ρ') (h : FlOk ρ f b o len cap w) : FlOk ρ' f b o len cap w := by
  cases f with
  | tok g =>
    rcases h with h | ⟨b', lo, hi, h, r⟩
    · rcases x.re g (by rw [h]; intro hc; cases hc) with e | ⟨_, e⟩
      · exact .inl (e.trans h)
      · exact .inl e
    · rcases x.re g (by rw [h]; intro hc; cases hc) with e | ⟨_, e⟩
      · exact .inr ⟨b', lo, hi, e.trans h, r⟩
      · exact .inl e
  | _ => exact h

theorem FlNil.ext {H H' : RO} {ρ ρ' : Nat → RE} {f : Fl} (x : Ext H H' ρ ρ') (h : FlNil ρ f) : FlNil ρ' f := by
  cases f with
  | tok g =>
    rcases h with h | ⟨b', lo, hi, h⟩
    · rcases x.re g (by rw [h]; intro hc; cases hc) with e | ⟨_, e⟩
      · exact .inl (e.trans h)
      · exact .inl e
    · rcases x.re g (by rw [h]; intro hc; cases hc) with e | ⟨_, e⟩
      · exact .inr ⟨b', lo, hi, e.trans h⟩
      · exact .inl e
  | _ => exact h

theorem V.ext {C : Cx El} {H H' : RO} {ρ : Nat → RE} {a : AV El} {v : Value} (h : V C H ρ a v) : ∀ {ρ' : Nat → RE}, Ext H H' ρ ρ' → V C H' ρ' a v := by
  induction h with
  | junk ρ v => exact fun _ => .junk _ _
  | bool ρ b => exact fun _ => .bool _ _
  | int ρ k n h => exact fun _ => .int _ _ _ h
  | str ρ b hb => exact fun _ => .str _ _ hb
  | nilptr ρ => exact fun _ => .nilptr _
  | nilsl ρ => exact fun _ => .nilsl _
  | nilfn ρ => exact fun _ => .nilfn _
  | ptr ρ id off b n h => exact fun x => .ptr _ _ _ _ _ (x.blk h)
  | rptr ρ c x off b o vs h1 h2 ih => exact fun x => .rptr _ _ _ _ _ _ vs (fun j a h => x.cell _ _ _ (h1 j a h)) fun j a h => ih j a h ⟨x.cell, x.obj, fun _ _ => .inl rfl⟩
  | mbp ρ id i b n h hi => exact fun x => .mbp _ _ _ _ _ (x.blk h) hi
  | bytesN ρ f h => exact fun x => .bytesN _ _ (h.ext x)
  | bytes ρ f s b o cap hf hc h => exact fun x => .bytes _ _ _ _ _ _ (hf.ext x) hc fun i y hy => x.cell _ _ _ (h i y hy)
  | listN ρ f c h => exact fun x => .listN _ _ _ (h.ext x)
  | list ρ f c l b o cap vs hf hc h1 h2 ih =>
    exact fun x => .list _ _ _ _ _ _ _ vs (hf.ext x) hc (fun i y j a hy ha => x.cell _ _ _ (h1 i y j a hy ha)) fun i y j a hy ha => ih i y j a hy ha ⟨x.cell, x.obj, fun _ _ => .inl rfl⟩
  | hsl ρ id off len b n cap h hc => exact fun x => .hsl _ _ _ _ _ _ _ (x.blk h) hc
  | mbs ρ id b n cap h hc => exact fun x => .mbs _ _ _ _ _ (x.blk h) hc
  | iter ρ id b n h => exact fun x => .iter _ _ _ _ (x.blk h)
  | map ρ id b n h => exact fun x => .map _ _ _ _ (x.blk h)
  | fmap ρ c g m b es ck vs us hH h1 h0 h3 h2 ih => exact fun x => .fmap _ _ _ _ _ es ck vs us (x.obj _ _ hH) h1 h0 h3 fun n y j a hy ha => ih n y j a hy ha ⟨x.cell, x.obj, fun _ _ => .inl rfl⟩
  | fn ρ f as bs us vs h1 h2 h3 h4 i3 i4 => exact fun x => .fn _ _ _ _ _ _ h1 h2 (fun i a v ha hv => i3 i a v ha hv x) fun i a v ha hv => i4 i a v ha hv x
  | agg ρ cs vs h1 h2 ih => exact fun x => .agg _ _ _ h1 fun i a v ha hv => ih i a v ha hv x
  | tup ρ cs vs h1 h2 ih => exact fun x => .tup _ _ _ h1 fun i a v ha hv => ih i a v ha hv x

theorem VL.ext {C : Cx El} {H H' : RO} {ρ ρ' : Nat → RE} {as : List (AV El)} {vs : List Value} (x : Ext H H' ρ ρ') (h : VL C H ρ as vs) : VL C H' ρ' as vs :=
  ⟨h.1, fun i a v ha hv => (h.2 i a v ha hv).ext x⟩

/-! Renaming -/
theorem FlOk.ren {ρ ρ' : Nat → RE} {f : Nat → Option Nat} {g : Fl} {b o len cap w : Nat} (hf : ∀ i j, f i = some j → ρ' j = ρ i) (h : FlOk ρ g b o len cap w) : FlOk ρ' (g.ren f) b o len cap w := by
  cases g with
  | tok g =>
    simp only [Fl.ren]
    cases e : f g with
    | none => trivial
    | some j =>
      have hj := hf g j e
      rcases h with h | ⟨b', lo, hi, h, r⟩
      · exact .inl (hj.trans h)
      · exact .inr ⟨b', lo, hi, hj.trans h, r⟩
  | _ => exact h

theorem FlNil.ren {ρ ρ' : Nat → RE} {f : Nat → Option Nat} {g : Fl} (hf : ∀ i j, f i = some j → ρ' j = ρ i) (h : FlNil ρ g) : FlNil ρ' (g.ren f) := by
  cases g with
  | tok g =>
    simp only [Fl.ren]
    cases e : f g with
    | none => trivial
    | some j =>
      have hj := hf g j e
      rcases h with h | ⟨b', lo, hi, h⟩
      · exact .inl (hj.trans h)
      · exact .inr ⟨b', lo, hi, hj.trans h⟩
  | _ => exact h

theorem length_renL (f : Nat → Option Nat) : ∀ l : List (AV El), (renL f l).length = l.length
  | [] => rfl
  | _ :: l => by simp only [renL, List.length_cons, length_renL f l]

theorem getElem?_renL (f : Nat → Option Nat) : ∀ (l : List (AV El)) (i : Nat), (renL f l)[i]? = (l[i]?).map (AV.ren f)
  | [], i => by simp [renL]
  | _ :: l, 0 => by simp [renL]
  | _ :: l, i + 1 => by simp [renL, getElem?_renL f l i]

theorem ren1_ok {C : Cx El} {H : RO} {ρ ρ' : Nat → RE} {f : Nat → Option Nat} {id b n : Nat} {mk : Nat → AV El} {v : Value} (hf : ∀ i j, f i = some j → ρ' j = ρ i) (h : ρ id = .blk b n)
    (hm : ∀ j, ρ' j = .blk b n → V C H ρ' (mk j) v) : V C H ρ' (ren1 f id mk) v := by
  unfold ren1
  cases e : f id with
  | none => exact .junk _ _
  | some j => exact hm j ((hf id j e).trans h)

theorem V.ren {C : Cx El} {H : RO} {ρ : Nat → RE} {a : AV El} {v : Value} (h : V C H ρ a v) : ∀ {ρ' : Nat → RE} {f : Nat → Option Nat}, (∀ i j, f i = some j → ρ' j = ρ i) → V C H ρ' (a.ren f) v := by
  induction h with
  | junk ρ v => intro _ _ _; simp only [AV.ren]; exact .junk _ _
  | bool ρ b => intro _ _ _; simp only [AV.ren]; exact .bool _ _
  | int ρ k n h => intro _ _ _; simp only [AV.ren]; exact .int _ _ _ h
  | str ρ b hb => intro _ _ _; simp only [AV.ren]; exact .str _ _ hb
  | nilptr ρ => intro _ _ _; simp only [AV.ren]; exact .nilptr _
  | nilsl ρ => intro _ _ _; simp only [AV.ren]; exact .nilsl _
  | nilfn ρ => intro _ _ _; simp only [AV.ren]; exact .nilfn _
  | ptr ρ id off b n h => intro _ _ hf; simp only [AV.ren]; exact ren1_ok hf h fun j hj => .ptr _ _ _ _ _ hj
  | rptr ρ c x off b o vs h1 h2 ih => intro _ _ _; simp only [AV.ren]; exact .rptr _ _ _ _ _ _ vs h1 h2
  | mbp ρ id i b n h hi => intro _ _ hf; simp only [AV.ren]; exact ren1_ok hf h fun j hj => .mbp _ _ _ _ _ hj hi
  | bytesN ρ f h => intro _ _ hf; simp only [AV.ren]; exact .bytesN _ _ (h.ren hf)
  | bytes ρ f s b o cap hf hc h => intro _ _ hr; simp only [AV.ren]; exact .bytes _ _ _ _ _ _ (hf.ren hr) hc h
  | listN ρ f c h => intro _ _ hf; simp only [AV.ren]; exact .listN _ _ _ (h.ren hf)
  | list ρ f c l b o cap vs hf hc h1 h2 ih => intro _ _ hr; simp only [AV.ren]; exact .list _ _ _ _ _ _ _ vs (hf.ren hr) hc h1 h2
  | hsl ρ id off len b n cap h hc => intro _ _ hf; simp only [AV.ren]; exact ren1_ok hf h fun j hj => .hsl _ _ _ _ _ _ _ hj hc
  | mbs ρ id b n cap h hc => intro _ _ hf; simp only [AV.ren]; exact ren1_ok hf h fun j hj => .mbs _ _ _ _ _ hj hc
  | iter ρ id b n h => intro _ _ hf; simp only [AV.ren]; exact ren1_ok hf h fun j hj => .iter _ _ _ _ hj
  | map ρ id b n h => intro _ _ hf; simp only [AV.ren]; exact ren1_ok hf h fun j hj => .map _ _ _ _ hj
  | fmap ρ c g m b es ck vs us hH h1 h0 h3 h2 ih => intro _ _ _; simp only [AV.ren]; exact .fmap _ _ _ _ _ es ck vs us hH h1 h0 h3 h2
  | fn ρ f as bs us vs h1 h2 h3 h4 i3 i4 =>
    intro _ _ hf; simp only [AV.ren]
    refine .fn _ _ _ _ _ _ (by rw [length_renL]; exact h1) (by rw [length_renL]; exact h2) (fun i a v ha hv => ?_) fun i a v ha hv => ?_
    · rw [getElem?_renL] at ha
      obtain ⟨a', ha', rfl⟩ := Option.map_eq_some_iff.1 ha
      exact i3 i a' v ha' hv hf
    · rw [getElem?_renL] at ha
      obtain ⟨a', ha', rfl⟩ := Option.map_eq_some_iff.1 ha
      exact i4 i a' v ha' hv hf
  | agg ρ cs vs h1 h2 ih =>
    intro _ _ hf; simp only [AV.ren]
    refine .agg _ _ _ (by rw [length_renL]; exact h1) fun i a v ha hv => ?_
    rw [getElem?_renL] at ha
    obtain ⟨a', ha', rfl⟩ := Option.map_eq_some_iff.1 ha
    exact ih i a' v ha' hv hf
  | tup ρ cs vs h1 h2 ih =>
    intro _ _ hf; simp only [AV.ren]
    refine .tup _ _ _ (by rw [length_renL]; exact h1) fun i a v ha hv => ?_
    rw [getElem?_renL] at ha
    obtain ⟨a', ha', rfl⟩ := Option.map_eq_some_iff.1 ha
    exact ih i a' v ha' hv hf

/-! Leave to append taken away -/
theorem FlOk.low {ρ : Nat → RE} {g : Fl} {b o len cap w : Nat} (h : FlOk ρ g b o len cap w) : FlOk ρ g.low b o len cap w := by
  cases g <;> first | exact h | trivial

theorem FlNil.low {ρ : Nat → RE} {g : Fl} (h : FlNil ρ g) : FlNil ρ g.low := by
  cases g <;> first | exact h | trivial

theorem length_lowL : ∀ l : List (AV El), (lowL l).length = l.length
  | [] => rfl
  | _ :: l => by simp only [lowL, List.length_cons, length_lowL l]

theorem getElem?_lowL : ∀ (l : List (AV El)) (i : Nat), (lowL l)[i]? = (l[i]?).map AV.lowD
  | [], i => by simp [lowL]
  | _ :: l, 0 => by simp [lowL]
  | _ :: l, i + 1 => by simp [lowL, getElem?_lowL l i]

theorem V.low {C : Cx El} {H : RO} {ρ : Nat → RE} {a : AV El} {v : Value} (h : V C H ρ a v) : V C H ρ a.lowD v := by
  induction h with
  | junk ρ v => simp only [AV.lowD]; exact .junk _ _
  | bool ρ b => simp only [AV.lowD]; exact .bool _ _
  | int ρ k n h => simp only [AV.lowD]; exact .int _ _ _ h
  | str ρ b hb => simp only [AV.lowD]; exact .str _ _ hb
  | nilptr ρ => simp only [AV.lowD]; exact .nilptr _
  | nilsl ρ => simp only [AV.lowD]; exact .nilsl _
  | nilfn ρ => simp only [AV.lowD]; exact .nilfn _
  | ptr ρ id off b n h => simp only [AV.lowD]; exact .ptr _ _ _ _ _ h
  | rptr ρ c x off b o vs h1 h2 ih => simp only [AV.lowD]; exact .rptr _ _ _ _ _ _ vs h1 h2
  | mbp ρ id i b n h hi => simp only [AV.lowD]; exact .mbp _ _ _ _ _ h hi
  | bytesN ρ f h => simp only [AV.lowD]; exact .bytesN _ _ h.low
  | bytes ρ f s b o cap hf hc h => simp only [AV.lowD]; exact .bytes _ _ _ _ _ _ hf.low hc h
  | listN ρ f c h => simp only [AV.lowD]; exact .listN _ _ _ h.low
  | list ρ f c l b o cap vs hf hc h1 h2 ih => simp only [AV.lowD]; exact .list _ _ _ _ _ _ _ vs hf.low hc h1 h2
  | hsl ρ id off len b n cap h hc => simp only [AV.lowD]; exact .hsl _ _ _ _ _ _ _ h hc
  | mbs ρ id b n cap h hc => simp only [AV.lowD]; exact .mbs _ _ _ _ _ h hc
  | iter ρ id b n h => simp only [AV.lowD]; exact .iter _ _ _ _ h
  | map ρ id b n h => simp only [AV.lowD]; exact .map _ _ _ _ h
  | fmap ρ c g m b es ck vs us hH h1 h0 h3 h2 ih => simp only [AV.lowD]; exact .fmap _ _ _ _ _ es ck vs us hH h1 h0 h3 h2
  | fn ρ f as bs us vs h1 h2 h3 h4 i3 i4 => simp only [AV.lowD]; exact .fn _ _ _ _ _ _ h1 h2 h3 h4
  | agg ρ cs vs h1 h2 ih =>
    simp only [AV.lowD]
    refine .agg _ _ _ (by rw [length_lowL]; exact h1) fun i a v ha hv => ?_
    rw [getElem?_lowL] at ha
    obtain ⟨a', ha', rfl⟩ := Option.map_eq_some_iff.1 ha
    exact ih i a' v ha' hv
  | tup ρ cs vs h1 h2 ih =>
    simp only [AV.lowD]
    refine .tup _ _ _ (by rw [length_lowL]; exact h1) fun i a v ha hv => ?_
    rw [getElem?_lowL] at ha
    obtain ⟨a', ha', rfl⟩ := Option.map_eq_some_iff.1 ha
    exact ih i a' v ha' hv
end Go.Ev

/- How the abstract memory stands for a world; steps. Own work. -/
namespace Go.Ev
variable {El : Nat → Type}

def noFz (arr : Array Value) (fz : Nat × Nat) : Prop := ∀ o, o < arr.size → ¬ (fz.1 ≤ o ∧ o < fz.2)

/-- An entry of the abstract memory, and what it stands for. -/
def EntOk (C : Cx El) (H : RO) (ρ : Nat → RE) (w : World) (e : HE El) (r : RE) : Prop :=
  match e with
  | .free => r = .none
  | .dead => r = .dead
  | .tok => ∃ b lo hi, r = .tok b lo hi
  | .blk cs => ∃ b arr ty fz, r = .blk b cs.length ∧ w.heap[b]? = some (.cells arr ty fz) ∧ arr.size = cs.length ∧ noFz arr fz ∧
      ∀ (i : Nat) a v, cs[i]? = some a → arr[i]? = some v → V C H ρ a v
  | .mb s => ∃ b arr ty fz, r = .blk b s.length ∧ w.heap[b]? = some (.cells arr ty fz) ∧ s.length ≤ arr.size ∧ noFz arr fz ∧
      ∀ (i : Nat) x, s[i]? = some x → arr[i]? = some (.int .u8 x.toNat)
  | .iter s pos => ∃ b bs, r = .blk b 0 ∧ w.heap[b]? = some (.stringIter bs pos) ∧ bs.data.toList = s ∧ s.length ≤ maxCat
  | .map es => ∃ b arr ck, r = .blk b 0 ∧ w.heap[b]? = some (.map arr ck) ∧ es.length = arr.size ∧
      ∀ (i : Nat) k a e, es[i]? = some (k, a) → arr[i]? = some e → V C H ρ k e.key ∧ V C H ρ a e.val
  | .arr k l => ∃ b arr ty fz, r = .blk b l.length ∧ w.heap[b]? = some (.cells arr ty fz) ∧ arr.size = l.length ∧ noFz arr fz ∧
      ∀ (i : Nat) x v, l[i]? = some x → arr[i]? = some v → v = .int k x ∧ inR k x = true

theorem arr_blk {C : Cx El} {H : RO} {ρ : Nat → RE} {w : World} {k : IntKind} {l : List Int} {r : RE} : EntOk C H ρ w (.arr k l) r ↔ EntOk C H ρ w (.blk (l.map (AV.int k))) r := by
  constructor
  · rintro ⟨b, arr, ty, fz, h1, h2, h3, h4, h5⟩
    refine ⟨b, arr, ty, fz, by simpa using h1, h2, by simpa using h3, h4, fun i a v ha hv => ?_⟩
    rw [List.getElem?_map] at ha
    obtain ⟨x, hx, rfl⟩ := Option.map_eq_some_iff.1 ha
    obtain ⟨rfl, hr⟩ := h5 i x v hx hv
    exact .int _ _ _ hr
  · rintro ⟨b, arr, ty, fz, h1, h2, h3, h4, h5⟩
    refine ⟨b, arr, ty, fz, by simpa using h1, h2, by simpa using h3, h4, fun i x v hx hv => ?_⟩
    have := h5 i (.int k x) v (by rw [List.getElem?_map, hx]; rfl) hv
    cases this with
    | int _ _ _ hr => exact ⟨rfl, hr⟩

theorem allocE_ok {C : Cx El} {H : RO} {ρ : Nat → RE} {w : World} {z : List (AV El)} {r : RE} (h : EntOk C H ρ w (.blk z) r) : EntOk C H ρ w (allocE z) r := by
  unfold allocE
  cases Nat.ble 32 z.length
  · exact h
  · simp only [cond_true]
    split
    · rename_i k l e
      rw [arr_blk, ← intsOf_eq e]
      exact h
    · exact h

structure Rw (C : Cx El) (base : Nat) (H : RO) (ρ : Nat → RE) (h : List (HE El)) (w : World) : Prop where
  big : base ≤ w.heap.size
  out : ∀ i, h.length ≤ i → ρ i = .none
  ent : ∀ i e, h[i]? = some e → EntOk C H ρ w e (ρ i)
  inj : ∀ i j b n n', ρ i = .blk b n → ρ j = .blk b n' → i = j
  lo : ∀ i b n, ρ i = .blk b n → base ≤ b
  room : ∀ i b lo hi, ρ i = .tok b lo hi → lo < hi → base ≤ b ∧ ∃ arr ty fz, w.heap[b]? = some (.cells arr ty fz) ∧ hi ≤ arr.size ∧ ∀ o, lo ≤ o → o < hi → ¬ (fz.1 ≤ o ∧ o < fz.2)
  rooms : ∀ i j b lo hi lo' hi', ρ i = .tok b lo hi → ρ j = .tok b lo' hi' → i ≠ j → ∀ o, lo ≤ o → o < hi → lo' ≤ o → ¬ o < hi'
  roomBlk : ∀ i j b lo hi n, ρ i = .tok b lo hi → lo < hi → ρ j ≠ .blk b n
  ro : ∀ b o v, H.cell b o = some v → w.cell? ⟨b, o, none⟩ = some v
  roBlk : ∀ b o v i n, H.cell b o = some v → ρ i ≠ .blk b n
  roRoom : ∀ b o v i lo hi, H.cell b o = some v → ρ i = .tok b lo hi → lo ≤ o → ¬ o < hi
  robj : ∀ b es ck, H.obj b = some (es, ck) → w.heap[b]? = some (.map es ck) ∧ ∀ i n, ρ i ≠ .blk b n

/-- What may be written. -/
def Touch (ρ : Nat → RE) (b o : Nat) : Prop := (∃ i n, ρ i = .blk b n) ∨ ∃ i lo hi, ρ i = .tok b lo hi ∧ lo ≤ o ∧ o < hi

structure Pres (T : Nat → Nat → Prop) (w w' : World) : Prop where
  os : w'.os = w.os
  tape : w'.tape = w.tape
  output : w'.output = w.output
  size : w.heap.size ≤ w'.heap.size
  same : ∀ b, b < w.heap.size → (∀ o, ¬ T b o) → w'.heap[b]? = w.heap[b]?
  part : ∀ b arr ty fz, w.heap[b]? = some (.cells arr ty fz) → ∃ arr', w'.heap[b]? = some (.cells arr' ty fz) ∧ arr'.size = arr.size ∧ ∀ o, ¬ T b o → arr'[o]? = arr[o]?

theorem Pres.refl (T : Nat → Nat → Prop) (w : World) : Pres T w w := ⟨rfl, rfl, rfl, Nat.le_refl _, fun _ _ _ => rfl, fun _ arr _ _ h => ⟨arr, h, rfl, fun _ _ => rfl⟩⟩

theorem Pres.trans {T T' : Nat → Nat → Prop} {w w' w'' : World} (h : Pres T w w') (k : Pres T' w' w'') (ht : ∀ b o, b < w.heap.size → T' b o → T b o) : Pres T w w'' := by
  refine ⟨k.os.trans h.os, k.tape.trans h.tape, k.output.trans h.output, Nat.le_trans h.size k.size, fun b hb hn => ?_, fun b arr ty fz hb => ?_⟩
  · rw [k.same b (Nat.lt_of_lt_of_le hb h.size) (fun o ho => hn o (ht b o hb ho)), h.same b hb hn]
  · obtain ⟨arr', h1, h2, h3⟩ := h.part b arr ty fz hb
    obtain ⟨arr'', k1, k2, k3⟩ := k.part b arr' ty fz h1
    have hlt : b < w.heap.size := (Array.getElem?_eq_some_iff.1 hb).1
    exact ⟨arr'', k1, k2.trans h2, fun o ho => (k3 o (fun hc => ho (ht b o hlt hc))).trans (h3 o ho)⟩

theorem Pres.mono {T T' : Nat → Nat → Prop} {w w' : World} (h : Pres T w w') (ht : ∀ b o, T b o → T' b o) : Pres T' w w' :=
  ⟨h.os, h.tape, h.output, h.size, fun b hb hn => h.same b hb fun o ho => hn o (ht b o ho), fun b arr ty fz hb =>
    let ⟨arr', h1, h2, h3⟩ := h.part b arr ty fz hb; ⟨arr', h1, h2, fun o ho => h3 o fun hc => ho (ht b o hc)⟩⟩

/-- From one memory to a later one. -/
structure Step (C : Cx El) (base : Nat) (H : RO) (ρ : Nat → RE) (w : World) (H' : RO) (ρ' : Nat → RE) (h' : List (HE El)) (w' : World) : Prop where
  ext : Ext H H' ρ ρ'
  rw : Rw C base H' ρ' h' w'
  pres : Pres (Touch ρ) w w'
  shrink : ∀ b o, b < w.heap.size → Touch ρ' b o → Touch ρ b o
  nro : ∀ b o v, b < w.heap.size → H'.cell b o = some v → H.cell b o = some v ∨ Touch ρ b o
  nobj : ∀ b x, b < w.heap.size → H'.obj b = some x → H.obj b = some x ∨ Touch ρ b 0

theorem Step.refl {C : Cx El} {base : Nat} {H : RO} {ρ : Nat → RE} {h : List (HE El)} {w : World} (r : Rw C base H ρ h w) : Step C base H ρ w H ρ h w :=
  ⟨.refl _ _, r, .refl _ _, fun _ _ _ t => t, fun _ _ _ _ h => .inl h, fun _ _ _ h => .inl h⟩

theorem Step.trans {C : Cx El} {base : Nat} {H H' H'' : RO} {ρ ρ' ρ'' : Nat → RE} {h' h'' : List (HE El)} {w w' w'' : World} (s : Step C base H ρ w H' ρ' h' w') (t : Step C base H' ρ' w' H'' ρ'' h'' w'') :
    Step C base H ρ w H'' ρ'' h'' w'' :=
  ⟨s.ext.trans t.ext, t.rw, s.pres.trans t.pres s.shrink, fun b o hb ht => s.shrink b o hb (t.shrink b o (Nat.lt_of_lt_of_le hb s.pres.size) ht),
    fun b o v hb hv => (t.nro b o v (Nat.lt_of_lt_of_le hb s.pres.size) hv).elim (fun h => s.nro b o v hb h) fun h => .inr (s.shrink b o hb h),
    fun b x hb hv => (t.nobj b x (Nat.lt_of_lt_of_le hb s.pres.size) hv).elim (fun h => s.nobj b x hb h) fun h => .inr (s.shrink b 0 hb h)⟩

/-- A draw alone. -/
theorem Rw.of_heap {C : Cx El} {base : Nat} {H : RO} {ρ : Nat → RE} {h : List (HE El)} {w w' : World} (r : Rw C base H ρ h w) (e : w'.heap = w.heap) : Rw C base H ρ h w' := by
  refine ⟨by rw [e]; exact r.big, r.out, fun i x hx => ?_, r.inj, r.lo, fun i b lo hi h1 h2 => ?_, r.rooms, r.roomBlk, fun b o v hv => ?_, r.roBlk, r.roRoom, fun b es ck hb => ?_⟩
  · have := r.ent i x hx
    cases x <;> simpa only [EntOk, e] using this
  · rw [e]; exact r.room i b lo hi h1 h2
  · have := r.ro b o v hv
    simpa only [World.cell?, e] using this
  · rw [e]; exact r.robj b es ck hb

theorem Step.drew {C : Cx El} {base : Nat} {H : RO} {ρ : Nat → RE} {h : List (HE El)} {w : World} (r : Rw C base H ρ h w) : Step C base H ρ w H ρ h w.drew :=
  ⟨.refl _ _, r.of_heap rfl, ⟨rfl, rfl, rfl, Nat.le_refl _, fun _ _ _ => rfl, fun _ arr _ _ h => ⟨arr, h, rfl, fun _ _ => rfl⟩⟩, fun _ _ _ t => t, fun _ _ _ _ h => .inl h, fun _ _ _ h => .inl h⟩

/-- The entries stand for the same where their blocks read the same. -/
theorem EntOk.keep {C : Cx El} {H H' : RO} {ρ ρ' : Nat → RE} {w w' : World} {e : HE El} {r : RE} (x : Ext H H' ρ ρ') (h : EntOk C H ρ w e r)
    (hb : ∀ b n, r = .blk b n → w'.heap[b]? = w.heap[b]?) : EntOk C H' ρ' w' e r := by
  cases e with
  | free => exact h
  | dead => exact h
  | tok => exact h
  | blk cs => obtain ⟨b, arr, ty, fz, h1, h2, h3, h4, h5⟩ := h; exact ⟨b, arr, ty, fz, h1, (hb _ _ h1).trans h2, h3, h4, fun i a v ha hv => (h5 i a v ha hv).ext x⟩
  | mb s => obtain ⟨b, arr, ty, fz, h1, h2, h3⟩ := h; exact ⟨b, arr, ty, fz, h1, (hb _ _ h1).trans h2, h3⟩
  | iter s pos => obtain ⟨b, bs, h1, h2, h3⟩ := h; exact ⟨b, bs, h1, (hb _ _ h1).trans h2, h3⟩
  | map es => obtain ⟨b, arr, ck, h1, h2, h3, h4⟩ := h; exact ⟨b, arr, ck, h1, (hb _ _ h1).trans h2, h3, fun i k a e he ha => ⟨(h4 i k a e he ha).1.ext x, (h4 i k a e he ha).2.ext x⟩⟩
  | arr k l => obtain ⟨b, arr, ty, fz, h1, h2, h3⟩ := h; exact ⟨b, arr, ty, fz, h1, (hb _ _ h1).trans h2, h3⟩

def upd (ρ : Nat → RE) (i : Nat) (r : RE) : Nat → RE := fun j => if j = i then r else ρ j

theorem upd_same (ρ : Nat → RE) (i : Nat) (r : RE) : upd ρ i r i = r := by simp [upd]
theorem upd_other (ρ : Nat → RE) {i j : Nat} (r : RE) (h : j ≠ i) : upd ρ i r j = ρ j := by simp [upd, h]

theorem Ext.upd {H H' : RO} {ρ : Nat → RE} {i : Nat} {r : RE} (h1 : ∀ b o v, H.cell b o = some v → H'.cell b o = some v) (h2 : ∀ b x, H.obj b = some x → H'.obj b = some x) (h : ρ i = .none) :
    Ext H H' ρ (upd ρ i r) := by
  refine ⟨h1, h2, fun j hj => .inl ?_⟩
  rw [upd_other]
  intro e
  exact hj (e ▸ h)

/-- One entry more. -/
theorem getElem?_newAt (h : List (HE El)) (nb : Nat) (e : HE El) (hnb : nb ≤ h.length) (i : Nat) : (newAt h nb [e])[i]? = if i = nb then some e else h[i]? := by
  simp only [newAt]
  by_cases hlt : nb < h.length
  · rw [if_pos hlt, List.getElem?_set]
    by_cases hi : i = nb
    · subst hi; simp [hlt]
    · rw [if_neg (fun e => hi e.symm), if_neg hi]
  · have : nb = h.length := by omega
    subst this
    rw [if_neg hlt]
    by_cases hi : i = h.length
    · subst hi; simp
    · rw [if_neg hi]
      by_cases h2 : i < h.length
      · rw [List.getElem?_append_left h2]
      · rw [List.getElem?_eq_none (by simp; omega), List.getElem?_eq_none (by omega)]

theorem length_newAt (h : List (HE El)) (nb : Nat) (e : HE El) (hnb : nb ≤ h.length) : h.length ≤ (newAt h nb [e]).length ∧ nb < (newAt h nb [e]).length ∧ (newAt h nb [e]).length ≤ max h.length (nb + 1) := by
  simp only [newAt]
  by_cases hlt : nb < h.length
  · rw [if_pos hlt, List.length_set]; omega
  · rw [if_neg hlt, List.length_append]; simp; omega

theorem isFree_none {C : Cx El} {base : Nat} {H : RO} {ρ : Nat → RE} {h : List (HE El)} {w : World} (r : Rw C base H ρ h w) {nb : Nat} (hf : isFree h nb 1 = true) : ρ nb = .none := by
  simp only [isFree, Bool.and_true] at hf
  cases e : h[nb]? with
  | none => exact r.out nb (by simpa using e)
  | some x =>
    rw [List.getD_eq_getElem?_getD, e] at hf
    have := r.ent nb x e
    cases x <;> simp at hf
    exact this

/-- A new block of the world behind all others, which an entry stands for. -/
theorem step_new {C : Cx El} {base : Nat} {H : RO} {ρ : Nat → RE} {h : List (HE El)} {w : World} (r : Rw C base H ρ h w) {nb : Nat} (hnb : nb ≤ h.length) (hf : isFree h nb 1 = true)
    (e : HE El) (o : Obj) (n : Nat) (he : EntOk C H (upd ρ nb (.blk w.heap.size n)) (w.alloc o) e (.blk w.heap.size n)) :
    Step C base H ρ w H (upd ρ nb (.blk w.heap.size n)) (newAt h nb [e]) (w.alloc o) := by
  have hn := isFree_none r hf
  have hx : Ext H H ρ (upd ρ nb (.blk w.heap.size n)) := Ext.upd (fun _ _ _ h => h) (fun _ _ h => h) hn
  have hold : ∀ b, b < w.heap.size → (w.alloc o).heap[b]? = w.heap[b]? := fun b hb => Go.RowKit.Below.heap_alloc w o b hb
  have hlt : ∀ {i b n}, ρ i = .blk b n → b < w.heap.size := by
    intro i b n' hb
    by_cases hi : i < h.length
    · have := r.ent i h[i] (List.getElem?_eq_getElem hi)
      rw [hb] at this
      generalize h[i] = x at this
      cases x with
      | free => exact RE.noConfusion this
      | dead => exact RE.noConfusion this
      | tok => obtain ⟨_, _, _, e⟩ := this; cases e
      | blk cs => obtain ⟨_, _, _, _, e, h2, _⟩ := this; cases e; exact (Array.getElem?_eq_some_iff.1 h2).1
      | mb s => obtain ⟨_, _, _, _, e, h2, _⟩ := this; cases e; exact (Array.getElem?_eq_some_iff.1 h2).1
      | iter s p => obtain ⟨_, _, e, h2, _⟩ := this; cases e; exact (Array.getElem?_eq_some_iff.1 h2).1
      | map es => obtain ⟨_, _, _, e, h2, _⟩ := this; cases e; exact (Array.getElem?_eq_some_iff.1 h2).1
      | arr k l => obtain ⟨_, _, _, _, e, h2, _⟩ := this; cases e; exact (Array.getElem?_eq_some_iff.1 h2).1
    · rw [r.out i (by omega)] at hb; cases hb
  have hro : ∀ b o v, H.cell b o = some v → b < w.heap.size := fun b o v hv => World.block_lt_of_cell? w _ (r.ro b o v hv)
  refine ⟨hx, ⟨?_, fun i hi => ?_, fun i x hxi => ?_, fun i j b n1 n2 h1 h2 => ?_, fun i b n1 h1 => ?_, fun i b lo hi h1 h2 => ?_, fun i j b lo hi lo' hi' h1 h2 hne => ?_, fun i j b lo hi n1 h1 h2 => ?_, fun b o' v hv => ?_, fun b o' v i n1 hv => ?_,
    fun b o' v i lo hi hv h1 => ?_, fun b es ck hb => ?_⟩, ⟨rfl, rfl, rfl, by simp, fun b hb _ => hold b hb, fun b arr ty fz hb => ⟨arr, (hold b (Array.getElem?_eq_some_iff.1 hb).1).trans hb, rfl, fun _ _ => rfl⟩⟩, fun b o' hb ht => ?_, fun _ _ _ _ h => .inl h, fun _ _ _ h => .inl h⟩
  · have := r.big; simp; omega
  · have hl := length_newAt h nb e hnb
    rw [upd_other _ _ (by omega)]
    exact r.out i (by omega)
  · rw [getElem?_newAt h nb e hnb] at hxi
    by_cases hi : i = nb
    · subst hi; rw [if_pos rfl] at hxi; cases hxi; rw [upd_same]; exact he
    · rw [if_neg hi] at hxi
      rw [upd_other _ _ hi]
      exact (r.ent i x hxi).keep hx fun b n1 hb => hold b (hlt hb)
  · by_cases hi : i = nb <;> by_cases hj : j = nb
    · rw [hi, hj]
    · subst hi; rw [upd_same] at h1; cases h1; rw [upd_other _ _ hj] at h2; exact absurd (hlt h2) (by omega)
    · subst hj; rw [upd_same] at h2; cases h2; rw [upd_other _ _ hi] at h1; exact absurd (hlt h1) (by omega)
    · rw [upd_other _ _ hi] at h1; rw [upd_other _ _ hj] at h2; exact r.inj i j b n1 n2 h1 h2
  · by_cases hi : i = nb
    · subst hi; rw [upd_same] at h1; cases h1; exact r.big
    · rw [upd_other _ _ hi] at h1; exact r.lo i b n1 h1
  · have hi' : i ≠ nb := by intro e; subst e; rw [upd_same] at h1; cases h1
    rw [upd_other _ _ hi'] at h1
    obtain ⟨a1, arr, ty, fz, a2, a3⟩ := r.room i b lo hi h1 h2
    exact ⟨a1, arr, ty, fz, (hold b (Array.getElem?_eq_some_iff.1 a2).1).trans a2, a3⟩
  · have hi1 : i ≠ nb := by intro e; subst e; rw [upd_same] at h1; cases h1
    have hj1 : j ≠ nb := by intro e; subst e; rw [upd_same] at h2; cases h2
    rw [upd_other _ _ hi1] at h1; rw [upd_other _ _ hj1] at h2
    exact r.rooms i j b lo hi lo' hi' h1 h2 hne
  · have hi' : i ≠ nb := by intro e; subst e; rw [upd_same] at h1; cases h1
    rw [upd_other _ _ hi'] at h1
    by_cases hj : j = nb
    · subst hj; rw [upd_same]; intro hc; cases hc
      obtain ⟨_, arr, ty, fz, a2, _⟩ := r.room i _ lo hi h1 h2
      exact absurd (Array.getElem?_eq_some_iff.1 a2).1 (by omega)
    · rw [upd_other _ _ hj]; exact r.roomBlk i j b lo hi n1 h1 h2
  · rw [World.cell?_alloc_lt w _ _ (hro b o' v hv)]; exact r.ro b o' v hv
  · by_cases hi : i = nb
    · subst hi; rw [upd_same]; intro hc; cases hc; exact absurd (hro _ o' v hv) (by omega)
    · rw [upd_other _ _ hi]; exact r.roBlk b o' v i n1 hv
  · have hi' : i ≠ nb := by intro e; subst e; rw [upd_same] at h1; cases h1
    rw [upd_other _ _ hi'] at h1
    exact r.roRoom b o' v i lo hi hv h1
  · obtain ⟨a1, a2⟩ := r.robj b es ck hb
    refine ⟨(hold b (Array.getElem?_eq_some_iff.1 a1).1).trans a1, fun i n1 => ?_⟩
    by_cases hi : i = nb
    · subst hi; rw [upd_same]; intro hc; cases hc; exact absurd (Array.getElem?_eq_some_iff.1 a1).1 (by omega)
    · rw [upd_other _ _ hi]; exact a2 i n1
  · rcases ht with ⟨i, n1, h1⟩ | ⟨i, lo, hi, h1, h2⟩
    · by_cases hi : i = nb
      · subst hi; rw [upd_same] at h1; cases h1; omega
      · rw [upd_other _ _ hi] at h1; exact .inl ⟨i, n1, h1⟩
    · have hi' : i ≠ nb := by intro e; subst e; rw [upd_same] at h1; cases h1
      rw [upd_other _ _ hi'] at h1
      exact .inr ⟨i, lo, hi, h1, h2⟩
end Go.Ev

/- Steps of the memory: stores, rows, rooms. Own work. -/
namespace Go.Ev
variable {El : Nat → Type}

theorem Rw.blk_lt {C : Cx El} {base : Nat} {H : RO} {ρ : Nat → RE} {h : List (HE El)} {w : World} (r : Rw C base H ρ h w) {i b n : Nat} (hb : ρ i = .blk b n) : b < w.heap.size := by
  by_cases hi : i < h.length
  · have := r.ent i h[i] (List.getElem?_eq_getElem hi)
    rw [hb] at this
    generalize h[i] = x at this
    cases x with
    | free => exact RE.noConfusion this
    | dead => exact RE.noConfusion this
    | tok => obtain ⟨_, _, _, e⟩ := this; cases e
    | blk cs => obtain ⟨_, _, _, _, e, h2, _⟩ := this; cases e; exact (Array.getElem?_eq_some_iff.1 h2).1
    | mb s => obtain ⟨_, _, _, _, e, h2, _⟩ := this; cases e; exact (Array.getElem?_eq_some_iff.1 h2).1
    | iter s p => obtain ⟨_, _, e, h2, _⟩ := this; cases e; exact (Array.getElem?_eq_some_iff.1 h2).1
    | map es => obtain ⟨_, _, _, e, h2, _⟩ := this; cases e; exact (Array.getElem?_eq_some_iff.1 h2).1
    | arr k l => obtain ⟨_, _, _, _, e, h2, _⟩ := this; cases e; exact (Array.getElem?_eq_some_iff.1 h2).1
  · rw [r.out i (by omega)] at hb; cases hb

theorem Rw.ro_lt {C : Cx El} {base : Nat} {H : RO} {ρ : Nat → RE} {h : List (HE El)} {w : World} (r : Rw C base H ρ h w) {b o : Nat} {v : Value} (hv : H.cell b o = some v) : b < w.heap.size :=
  World.block_lt_of_cell? w _ (r.ro b o v hv)

/-- One block written anew. -/
theorem step_mod {C : Cx El} {base : Nat} {H : RO} {ρ : Nat → RE} {h : List (HE El)} {w : World} (r : Rw C base H ρ h w) {i b n : Nat} (hρ : ρ i = .blk b n) (e : HE El) {w' : World}
    (hos : w'.os = w.os) (htape : w'.tape = w.tape) (hout : w'.output = w.output) (hsz : w'.heap.size = w.heap.size) (hoth : ∀ k, k ≠ b → w'.heap[k]? = w.heap[k]?)
    (hsame : ∀ arr ty fz, w.heap[b]? = some (.cells arr ty fz) → ∃ arr', w'.heap[b]? = some (.cells arr' ty fz) ∧ arr'.size = arr.size)
    (he : EntOk C H ρ w' e (.blk b n)) : Step C base H ρ w H ρ (h.set i e) w' := by
  refine ⟨.refl _ _, ⟨by rw [hsz]; exact r.big, fun j hj => r.out j (by simpa using hj), fun j x hx => ?_, r.inj, r.lo, fun j b' lo hi h1 h2 => ?_, r.rooms, r.roomBlk, fun b' o v hv => ?_, r.roBlk, r.roRoom,
    fun b' es ck hb => ?_⟩, ⟨hos, htape, hout, by omega, fun b' hb' hn => hoth b' (fun e => hn 0 (.inl ⟨i, n, e ▸ hρ⟩)), fun b' arr ty fz hb' => ?_⟩, fun _ _ _ t => t, fun _ _ _ _ h => .inl h, fun _ _ _ h => .inl h⟩
  · rw [List.getElem?_set] at hx
    by_cases hij : i = j
    · subst hij
      rw [if_pos rfl] at hx
      split at hx
      · cases hx; rw [hρ]; exact he
      · cases hx
    · rw [if_neg hij] at hx
      exact (r.ent j x hx).keep (.refl _ _) fun b' n' hb' => hoth b' fun e => hij (r.inj i j b n n' hρ (e ▸ hb'))
  · obtain ⟨a1, arr, ty, fz, a2, a3⟩ := r.room j b' lo hi h1 h2
    exact ⟨a1, arr, ty, fz, (hoth b' fun e => r.roomBlk j i b' lo hi n h1 h2 (e ▸ hρ)).trans a2, a3⟩
  · have hne : b' ≠ b := fun e => r.roBlk b' o v i n hv (e ▸ hρ)
    have := r.ro b' o v hv
    simpa only [World.cell?, hoth b' hne] using this
  · obtain ⟨a1, a2⟩ := r.robj b' es ck hb
    exact ⟨(hoth b' fun e => a2 i n (e ▸ hρ)).trans a1, a2⟩
  · by_cases e : b' = b
    · subst e
      obtain ⟨arr', k1, k2⟩ := hsame arr ty fz hb'
      exact ⟨arr', k1, k2, fun o ho => absurd (.inl ⟨i, n, hρ⟩) ho⟩
    · exact ⟨arr, (hoth b' e).trans hb', rfl, fun _ _ => rfl⟩

/-- Cells that are never written again, more. -/
def RO.add (H : RO) (b lo : Nat) (vs : List Value) : RO := { H with cell := fun b' o => if b' = b ∧ lo ≤ o ∧ o < lo + vs.length then vs[o - lo]? else H.cell b' o }

theorem RO.add_at (H : RO) (b lo : Nat) (vs : List Value) (j : Nat) (hj : j < vs.length) : (H.add b lo vs).cell b (lo + j) = some vs[j] := by
  simp [RO.add, hj]

theorem RO.add_out (H : RO) (b lo : Nat) (vs : List Value) {b' o : Nat} (h : ¬ (b' = b ∧ lo ≤ o ∧ o < lo + vs.length)) : (H.add b lo vs).cell b' o = H.cell b' o := by
  simp only [RO.add, if_neg h]

theorem RO.add_cases {H : RO} {b lo : Nat} {vs : List Value} {b' o : Nat} {v : Value} (h : (H.add b lo vs).cell b' o = some v) :
    (b' = b ∧ ∃ j, j < vs.length ∧ o = lo + j ∧ vs[j]? = some v) ∨ H.cell b' o = some v := by
  simp only [RO.add] at h
  split at h
  · rename_i hc
    exact .inl ⟨hc.1, o - lo, by omega, by omega, h⟩
  · exact .inr h

/-- A new row, whose first cells are never written again. -/
theorem step_row {C : Cx El} {base : Nat} {H : RO} {ρ : Nat → RE} {h : List (HE El)} {w : World} (r : Rw C base H ρ h w) (arr : Array Value) (ty : TypeId) (fz : Nat × Nat) (vs : List Value)
    (hvs : ∀ (j : Nat) v, vs[j]? = some v → arr[j]? = some v) : Step C base H ρ w (H.add w.heap.size 0 vs) ρ h (w.alloc (.cells arr ty fz)) := by
  have hold : ∀ b, b < w.heap.size → (w.alloc (.cells arr ty fz)).heap[b]? = w.heap[b]? := fun b hb => Go.RowKit.Below.heap_alloc w _ b hb
  have hnew : (w.alloc (.cells arr ty fz)).heap[w.heap.size]? = some (.cells arr ty fz) := by
    show (w.heap.push _)[w.heap.size]? = _
    simp
  have hx : Ext H (H.add w.heap.size 0 vs) ρ ρ := ⟨fun b o v hv => by
    rw [RO.add_out]
    · exact hv
    · intro hc; exact absurd (r.ro_lt hv) (by omega), fun _ _ h => h, fun _ _ => .inl rfl⟩
  refine ⟨hx, ⟨by have := r.big; simp; omega, r.out, fun j x hxj => (r.ent j x hxj).keep hx fun b n hb => hold b (r.blk_lt hb), r.inj, r.lo, fun j b lo hi h1 h2 => ?_, r.rooms, r.roomBlk, fun b o v hv => ?_, fun b o v i n hv => ?_,
    fun b o v i lo hi hv h1 h2 h3 => ?_, fun b es ck hb => ?_⟩, ⟨rfl, rfl, rfl, by simp, fun b hb _ => hold b hb, fun b arr' ty' fz' hb => ⟨arr', (hold b (Array.getElem?_eq_some_iff.1 hb).1).trans hb, rfl, fun _ _ => rfl⟩⟩, fun _ _ _ t => t, fun b o v hb hv => (RO.add_cases hv).elim (fun h => absurd hb (by omega)) .inl, fun _ _ _ h => .inl h⟩
  · obtain ⟨a1, arr', ty', fz', a2, a3⟩ := r.room j b lo hi h1 h2
    exact ⟨a1, arr', ty', fz', (hold b (Array.getElem?_eq_some_iff.1 a2).1).trans a2, a3⟩
  · rcases RO.add_cases hv with ⟨rfl, j, hj, rfl, he⟩ | hv
    · simp only [World.cell?, hnew, Nat.zero_add]
      simpa using hvs j v he
    · rw [World.cell?_alloc_lt w _ _ (r.ro_lt hv)]; exact r.ro b o v hv
  · rcases RO.add_cases hv with ⟨rfl, _⟩ | hv
    · intro hc; exact absurd (r.blk_lt hc) (by omega)
    · exact r.roBlk b o v i n hv
  · rcases RO.add_cases hv with ⟨rfl, _⟩ | hv
    · obtain ⟨_, _, _, _, a2, _⟩ := r.room i _ lo hi h1 (by omega)
      exact absurd (Array.getElem?_eq_some_iff.1 a2).1 (by omega)
    · exact r.roRoom b o v i lo hi hv h1 h2 h3
  · obtain ⟨a1, a2⟩ := r.robj b es ck hb
    exact ⟨(hold b (Array.getElem?_eq_some_iff.1 a1).1).trans a1, a2⟩

/-- A token for a room that nobody has. -/
theorem step_grant {C : Cx El} {base : Nat} {H : RO} {ρ : Nat → RE} {h : List (HE El)} {w : World} (r : Rw C base H ρ h w) {nb : Nat} (hnb : nb ≤ h.length) (hf : isFree h nb 1 = true) (b lo hi : Nat)
    (hroom : lo < hi → base ≤ b ∧ ∃ arr ty fz, w.heap[b]? = some (.cells arr ty fz) ∧ hi ≤ arr.size ∧ ∀ o, lo ≤ o → o < hi → ¬ (fz.1 ≤ o ∧ o < fz.2))
    (hblk : lo < hi → ∀ i n, ρ i ≠ .blk b n) (hrooms : ∀ i lo' hi', ρ i = .tok b lo' hi' → ∀ o, lo ≤ o → o < hi → lo' ≤ o → ¬ o < hi') (hro : ∀ o v, H.cell b o = some v → lo ≤ o → ¬ o < hi) :
    Ext H H ρ (upd ρ nb (.tok b lo hi)) ∧ Rw C base H (upd ρ nb (.tok b lo hi)) (newAt h nb [.tok]) w := by
  have hn := isFree_none r hf
  have hx : Ext H H ρ (upd ρ nb (.tok b lo hi)) := Ext.upd (fun _ _ _ h => h) (fun _ _ h => h) hn
  have hblk' : ∀ {i b' n}, upd ρ nb (.tok b lo hi) i = .blk b' n → ρ i = .blk b' n := by
    intro i b' n hb
    by_cases hi : i = nb
    · subst hi; rw [upd_same] at hb; cases hb
    · rwa [upd_other _ _ hi] at hb
  refine ⟨hx, ⟨r.big, fun i hi => ?_, fun i x hxi => ?_, fun i j b' n1 n2 h1 h2 => r.inj i j b' n1 n2 (hblk' h1) (hblk' h2), fun i b' n1 h1 => r.lo i b' n1 (hblk' h1), fun i b' lo' hi' h1 h2 => ?_, fun i j b' lo1 hi1 lo2 hi2 h1 h2 hne o => ?_,
    fun i j b' lo' hi' n1 h1 h2 hc => ?_, r.ro, fun b' o v i n1 hv hc => r.roBlk b' o v i n1 hv (hblk' hc), fun b' o v i lo' hi' hv h1 h2 => ?_, fun b' es ck hb => ⟨(r.robj b' es ck hb).1, fun i n1 hc => (r.robj b' es ck hb).2 i n1 (hblk' hc)⟩⟩⟩
  · have hl := length_newAt h nb (.tok : HE El) hnb
    rw [upd_other _ _ (by omega)]
    exact r.out i (by omega)
  · rw [getElem?_newAt h nb _ hnb] at hxi
    by_cases hi : i = nb
    · subst hi; rw [if_pos rfl] at hxi; cases hxi; rw [upd_same]; exact ⟨_, _, _, rfl⟩
    · rw [if_neg hi] at hxi
      rw [upd_other _ _ hi]
      exact (r.ent i x hxi).keep hx fun _ _ _ => rfl
  · by_cases hi2 : i = nb
    · subst hi2; rw [upd_same] at h1; cases h1; exact hroom h2
    · rw [upd_other _ _ hi2] at h1; exact r.room i b' lo' hi' h1 h2
  · by_cases hin : i = nb <;> by_cases hjn : j = nb
    · exact absurd (hin.trans hjn.symm) hne
    · subst hin; rw [upd_same] at h1; cases h1; rw [upd_other _ _ hjn] at h2; exact fun a1 a2 a3 a4 => hrooms j lo2 hi2 h2 o a1 a2 a3 a4
    · subst hjn; rw [upd_same] at h2; cases h2; rw [upd_other _ _ hin] at h1; exact fun a1 a2 a3 a4 => hrooms i lo1 hi1 h1 o a3 a4 a1 a2
    · rw [upd_other _ _ hin] at h1; rw [upd_other _ _ hjn] at h2; exact r.rooms i j b' lo1 hi1 lo2 hi2 h1 h2 hne o
  · have hc' := hblk' hc
    clear hc
    by_cases hi2 : i = nb
    · subst hi2; rw [upd_same] at h1; cases h1; exact hblk h2 j n1 hc'
    · rw [upd_other _ _ hi2] at h1; exact r.roomBlk i j b' lo' hi' n1 h1 h2 hc'
  · by_cases hi2 : i = nb
    · subst hi2; rw [upd_same] at h1; cases h1; exact hro o v hv h2
    · rw [upd_other _ _ hi2] at h1; exact r.roRoom b' o v i lo' hi' hv h1 h2

/-- A token given up. -/
theorem rw_dead {C : Cx El} {base : Nat} {H : RO} {ρ : Nat → RE} {h : List (HE El)} {w : World} (r : Rw C base H ρ h w) {g b lo hi : Nat} (hg : ρ g = .tok b lo hi) :
    Ext H H ρ (upd ρ g .dead) ∧ Rw C base H (upd ρ g .dead) (h.set g .dead) w := by
  have hx : Ext H H ρ (upd ρ g .dead) := ⟨fun _ _ _ h => h, fun _ _ h => h, fun i _ => by
    by_cases hi : i = g
    · subst hi; exact .inr ⟨⟨_, _, _, hg⟩, upd_same _ _ _⟩
    · exact .inl (upd_other _ _ hi)⟩
  have hlt : g < h.length := by
    rcases Nat.lt_or_ge g h.length with h' | h'
    · exact h'
    · rw [r.out g h'] at hg; cases hg
  have hblk' : ∀ {i b' n}, upd ρ g .dead i = .blk b' n → ρ i = .blk b' n := by
    intro i b' n hb
    by_cases hi : i = g
    · subst hi; rw [upd_same] at hb; cases hb
    · rwa [upd_other _ _ hi] at hb
  have htok' : ∀ {i b' lo' hi'}, upd ρ g .dead i = .tok b' lo' hi' → ρ i = .tok b' lo' hi' := by
    intro i b' lo' hi' hb
    by_cases hi : i = g
    · subst hi; rw [upd_same] at hb; cases hb
    · rwa [upd_other _ _ hi] at hb
  refine ⟨hx, ⟨r.big, fun i hi => ?_, fun i x hxi => ?_, fun i j b' n1 n2 h1 h2 => r.inj i j b' n1 n2 (hblk' h1) (hblk' h2), fun i b' n1 h1 => r.lo i b' n1 (hblk' h1), fun i b' lo' hi' h1 => r.room i b' lo' hi' (htok' h1),
    fun i j b' lo1 hi1 lo2 hi2 h1 h2 => r.rooms i j b' lo1 hi1 lo2 hi2 (htok' h1) (htok' h2), fun i j b' lo' hi' n1 h1 h2 hc => r.roomBlk i j b' lo' hi' n1 (htok' h1) h2 (hblk' hc), r.ro, fun b' o v i n1 hv hc => r.roBlk b' o v i n1 hv (hblk' hc),
    fun b' o v i lo' hi' hv h1 => r.roRoom b' o v i lo' hi' hv (htok' h1), fun b' es ck hb => ⟨(r.robj b' es ck hb).1, fun i n1 hc => (r.robj b' es ck hb).2 i n1 (hblk' hc)⟩⟩⟩
  · simp only [List.length_set] at hi
    rw [upd_other _ _ (by omega)]; exact r.out i hi
  · rw [List.getElem?_set] at hxi
    by_cases hi : g = i
    · subst hi; rw [if_pos rfl, if_pos hlt] at hxi; cases hxi; rw [upd_same]; rfl
    · rw [if_neg hi] at hxi
      rw [upd_other _ _ (fun e => hi e.symm)]
      exact (r.ent i x hxi).keep hx fun _ _ _ => rfl

/-- Cells written one by one: what the block is then. -/
theorem heap_setCells (b : Nat) : ∀ (vs : List Value) (o : Nat) (w : World) (arr : Array Value) (ty : TypeId) (fz : Nat × Nat), w.heap[b]? = some (.cells arr ty fz) → o + vs.length ≤ arr.size →
    ∃ arr', (w.setCells b o vs).heap[b]? = some (.cells arr' ty fz) ∧ arr'.size = arr.size ∧ (∀ i, i < o ∨ o + vs.length ≤ i → arr'[i]? = arr[i]?) ∧ ∀ (j : Nat) v, vs[j]? = some v → arr'[o + j]? = some v
  | [], _, w, arr, ty, fz, h, _ => ⟨arr, h, rfl, fun _ _ => rfl, fun j v hv => by simp at hv⟩
  | v :: vs, o, w, arr, ty, fz, h, hl => by
    simp only [List.length_cons] at hl
    have h1 : (w.setCell ⟨b, o, none⟩ v).heap[b]? = some (.cells (arr.setIfInBounds o v) ty fz) := by
      simp only [World.setCell, Array.getElem?_modify, if_pos, h, Option.map_some]
      rfl
    obtain ⟨arr', k1, k2, k3, k4⟩ := heap_setCells b vs (o + 1) (w.setCell ⟨b, o, none⟩ v) (arr.setIfInBounds o v) ty fz h1 (by simp; omega)
    refine ⟨arr', k1, by simpa using k2, fun i hi => ?_, fun j u hu => ?_⟩
    · simp only [List.length_cons] at hi
      rw [k3 i (by omega), Array.getElem?_setIfInBounds_ne (by omega)]
    · cases j with
      | zero =>
        simp only [List.getElem?_cons_zero, Option.some.injEq] at hu
        subst hu
        rw [k3 (o + 0) (by omega)]
        simp only [Nat.add_zero]
        rw [Array.getElem?_setIfInBounds_self_of_lt (by omega)]
      | succ j =>
        have := k4 j u (by simpa using hu)
        rwa [show o + (j + 1) = o + 1 + j by omega]

theorem heap_setCells_other (b : Nat) : ∀ (vs : List Value) (o : Nat) (w : World) (k : Nat), k ≠ b → (w.setCells b o vs).heap[k]? = w.heap[k]?
  | [], _, _, _, _ => rfl
  | v :: vs, o, w, k, hk => by rw [World.setCells, heap_setCells_other b vs _ _ k hk, Go.RowKit.Below.heap_setCell _ _ _ _ hk]

theorem setCells_rest (b : Nat) : ∀ (vs : List Value) (o : Nat) (w : World), (w.setCells b o vs).os = w.os ∧ (w.setCells b o vs).tape = w.tape ∧ (w.setCells b o vs).output = w.output ∧ (w.setCells b o vs).heap.size = w.heap.size
  | [], _, _ => ⟨rfl, rfl, rfl, rfl⟩
  | v :: vs, o, w => by
    obtain ⟨h1, h2, h3, h4⟩ := setCells_rest b vs (o + 1) (w.setCell ⟨b, o, none⟩ v)
    exact ⟨h1, h2, h3, by rw [World.setCells, h4]; simp⟩

/-- Cells of a room that nobody has, written for good. -/
theorem rw_fill {C : Cx El} {base : Nat} {H : RO} {ρ : Nat → RE} {h : List (HE El)} {w : World} (r : Rw C base H ρ h w) (b lo : Nat) (vs : List Value) {arr : Array Value} {ty : TypeId} {fz : Nat × Nat}
    (hb : w.heap[b]? = some (.cells arr ty fz)) (hfit : lo + vs.length ≤ arr.size) (hblk : ∀ i n, ρ i ≠ .blk b n) (hrooms : ∀ i lo' hi', ρ i = .tok b lo' hi' → ∀ o, lo ≤ o → o < lo + vs.length → lo' ≤ o → ¬ o < hi')
    (hro : ∀ o v, H.cell b o = some v → lo ≤ o → ¬ o < lo + vs.length) :
    Ext H (H.add b lo vs) ρ ρ ∧ Rw C base (H.add b lo vs) ρ h (w.setCells b lo vs) := by
  obtain ⟨arr', k1, k2, k3, k4⟩ := heap_setCells b vs lo w arr ty fz hb hfit
  obtain ⟨r1, r2, r3, r4⟩ := setCells_rest b vs lo w
  have hx : Ext H (H.add b lo vs) ρ ρ := ⟨fun b' o v hv => by
    rw [RO.add_out]
    · exact hv
    · rintro ⟨rfl, h1, h2⟩; exact hro o v hv h1 h2, fun _ _ h => h, fun _ _ => .inl rfl⟩
  have hoth : ∀ k, k ≠ b → (w.setCells b lo vs).heap[k]? = w.heap[k]? := fun k hk => heap_setCells_other b vs lo w k hk
  refine ⟨hx, ⟨by rw [r4]; exact r.big, r.out, fun j x hxj => (r.ent j x hxj).keep hx fun b' n hb' => hoth b' fun e => hblk j n (e ▸ hb'), r.inj, r.lo, fun j b' lo' hi' h1 h2 => ?_, r.rooms, r.roomBlk, fun b' o v hv => ?_, fun b' o v i n hv => ?_,
    fun b' o v i lo' hi' hv h1 h2 h3 => ?_, fun b' es ck hb' => ?_⟩⟩
  · obtain ⟨a1, arr1, ty1, fz1, a2, a3, a4⟩ := r.room j b' lo' hi' h1 h2
    by_cases e : b' = b
    · subst e
      rw [hb] at a2; cases a2
      exact ⟨a1, arr', ty, fz, k1, by omega, a4⟩
    · exact ⟨a1, arr1, ty1, fz1, (hoth b' e).trans a2, a3, a4⟩
  · rcases RO.add_cases hv with ⟨rfl, j, hj, rfl, he⟩ | hv'
    · simp only [World.cell?, k1]
      simpa using k4 j v he
    · by_cases e : b' = b
      · subst e
        have hin := r.ro b' o v hv'
        simp only [World.cell?, hb, Option.isSome_none, Bool.false_eq_true, if_false] at hin
        simp only [World.cell?, k1, Option.isSome_none, Bool.false_eq_true, if_false]
        rw [k3 o]
        · exact hin
        · have := hro o v hv'
          omega
      · have := r.ro b' o v hv'
        simpa only [World.cell?, hoth b' e] using this
  · rcases RO.add_cases hv with ⟨rfl, _⟩ | hv'
    · exact hblk i n
    · exact r.roBlk b' o v i n hv'
  · rcases RO.add_cases hv with ⟨rfl, j, hj, rfl, he⟩ | hv'
    · exact hrooms i lo' hi' h1 (lo + j) (by omega) (by omega) h2 h3
    · exact r.roRoom b' o v i lo' hi' hv' h1 h2 h3
  · obtain ⟨a1, a2⟩ := r.robj b' es ck hb'
    refine ⟨(hoth b' ?_).trans a1, a2⟩
    rintro rfl
    rw [hb] at a1; cases a1

/-- Elements written into a token's room: the rest of the room is a new token's. -/
theorem step_room {C : Cx El} {base : Nat} {H : RO} {ρ : Nat → RE} {h : List (HE El)} {w : World} (r : Rw C base H ρ h w) {nb : Nat} (hnb : nb ≤ h.length) (hf : isFree h nb 1 = true) {g b lo hi : Nat} (hg : ρ g = .tok b lo hi)
    (vs : List Value) (hfit : lo + vs.length ≤ hi) (hlt : lo < hi) :
    Step C base H ρ w (H.add b lo vs) (upd (upd ρ g .dead) nb (.tok b (lo + vs.length) hi)) (newAt (h.set g .dead) nb [.tok]) (w.setCells b lo vs) := by
  have hn := isFree_none r hf
  have hne : nb ≠ g := by intro e; subst e; rw [hn] at hg; cases hg
  obtain ⟨a1, arr, ty, fz, a2, a3, a4⟩ := r.room g b lo hi hg hlt
  obtain ⟨x1, q1⟩ := rw_dead r hg
  have hblk : ∀ i n, upd ρ g .dead i ≠ .blk b n := by
    intro i n hc
    by_cases hi' : i = g
    · subst hi'; rw [upd_same] at hc; cases hc
    · rw [upd_other _ _ hi'] at hc; exact r.roomBlk g i b lo hi n hg hlt hc
  have hrooms : ∀ i lo' hi', upd ρ g .dead i = .tok b lo' hi' → ∀ o, lo ≤ o → o < hi → lo' ≤ o → ¬ o < hi' := by
    intro i lo' hi' hc
    by_cases hi2 : i = g
    · subst hi2; rw [upd_same] at hc; cases hc
    · rw [upd_other _ _ hi2] at hc; exact r.rooms g i b lo hi lo' hi' hg hc (fun e => hi2 e.symm)
  obtain ⟨x2, q2⟩ := rw_fill q1 b lo vs a2 (by omega) hblk (fun i lo' hi' hc o h1 h2 => hrooms i lo' hi' hc o h1 (by omega)) (fun o v hv h1 h2 => r.roRoom b o v g lo hi hv hg h1 (by omega))
  obtain ⟨arr', k1, k2, k3, k4⟩ := heap_setCells b vs lo w arr ty fz a2 (by omega)
  have hf' : isFree (h.set g .dead) nb 1 = true := by
    simp only [isFree, Bool.and_true] at hf ⊢
    rw [List.getD_eq_getElem?_getD, List.getElem?_set_ne (fun e => hne e.symm), ← List.getD_eq_getElem?_getD]; exact hf
  obtain ⟨x3, q3⟩ := step_grant q2 (nb := nb) (by simpa using hnb) hf' b (lo + vs.length) hi (fun _ => ⟨a1, arr', ty, fz, k1, by omega, fun o h1 h2 => a4 o (by omega) h2⟩) (fun _ => hblk)
    (fun i lo' hi' hc o h1 h2 => hrooms i lo' hi' hc o (by omega) h2)
    (fun o v hv h1 h2 => by
      rcases RO.add_cases hv with ⟨_, j, hj, rfl, _⟩ | hv'
      · omega
      · exact r.roRoom b o v g lo hi hv' hg (by omega) h2)
  obtain ⟨r1, r2, r3, r4⟩ := setCells_rest b vs lo w
  refine ⟨x1.trans (x2.trans x3), q3, ⟨r1, r2, r3, by omega, fun b' hb' hn' => heap_setCells_other b vs lo w b' ?_, fun b' arr1 ty1 fz1 hb' => ?_⟩, fun b' o hb' ht => ?_, fun b' o v hb' hv => (RO.add_cases hv).elim (fun ⟨e, j, hj, ho, _⟩ => .inr (.inr ⟨g, lo, hi, e ▸ hg, by omega, by omega⟩)) .inl, fun _ _ _ h => .inl h⟩
  · rintro rfl
    exact hn' lo (.inr ⟨g, lo, hi, hg, Nat.le_refl _, hlt⟩)
  · by_cases e : b' = b
    · subst e
      rw [a2] at hb'; cases hb'
      refine ⟨arr', k1, k2, fun o ho => k3 o ?_⟩
      by_cases h1 : lo ≤ o ∧ o < hi
      · exact absurd (.inr ⟨g, lo, hi, hg, h1.1, h1.2⟩) ho
      · omega
    · exact ⟨arr1, (heap_setCells_other b vs lo w b' e).trans hb', rfl, fun _ _ => rfl⟩
  · rcases ht with ⟨i, n, h1⟩ | ⟨i, lo', hi', h1, h2⟩
    · by_cases hi1 : i = nb
      · subst hi1; rw [upd_same] at h1; cases h1
      · rw [upd_other _ _ hi1] at h1
        by_cases hi2 : i = g
        · subst hi2; rw [upd_same] at h1; cases h1
        · rw [upd_other _ _ hi2] at h1; exact .inl ⟨i, n, h1⟩
    · by_cases hi1 : i = nb
      · subst hi1; rw [upd_same] at h1; cases h1
        exact .inr ⟨g, lo, hi, hg, by omega, h2.2⟩
      · rw [upd_other _ _ hi1] at h1
        by_cases hi2 : i = g
        · subst hi2; rw [upd_same] at h1; cases h1
        · rw [upd_other _ _ hi2] at h1; exact .inr ⟨i, lo', hi', h1, h2⟩
end Go.Ev

/- Operands, types; the operations that only reckon. Own work. -/
namespace Go.Ev
variable {El : Nat → Type}

theorem cvt1_ok (C : Cx El) (H : RO) (ρ : Nat → RE) (v : Value) : V C H ρ (cvt1 v) v := by
  unfold cvt1
  split
  · exact .bool _ _
  · split
    · exact .int _ _ _ ‹_›
    · exact .junk _ _
  · split
    · exact .str _ _ ‹_›
    · exact .junk _ _
  · exact .nilptr _
  · exact .nilsl _
  · exact .nilfn _
  · exact .junk _ _

theorem cvt_ok (C : Cx El) (H : RO) (ρ : Nat → RE) (v : Value) : V C H ρ (cvt v) v := by
  unfold cvt
  split
  · rename_i cs
    refine .agg _ _ _ (by simp) fun i a u ha hu => ?_
    simp only [List.getElem?_map, Array.getElem?_toList, hu, Option.map_some, Option.some.injEq] at ha
    subst ha
    exact cvt1_ok C H ρ u
  · rename_i vs
    split
    · rename_i he
      have : vs = #[] := by simpa using he
      subst this
      exact .tup _ _ _ rfl fun i a v ha => by simp at ha
    · exact .junk _ _
  · exact cvt1_ok C H ρ v

theorem undefA_ok (C : Cx El) (H : RO) (ρ : Nat → RE) : V C H ρ undefA undef := .tup _ _ _ rfl fun i a v ha => by simp at ha

theorem VL.at {C : Cx El} {H : RO} {ρ : Nat → RE} {sl : List (AV El)} {vs : Array Value} (h : VL C H ρ sl vs.toList) (t : Nat) : V C H ρ (sl.getD t undefA) (vs.getD t undef) := by
  have hl : sl.length = vs.size := by simpa using h.1
  by_cases ht : t < sl.length
  · have h2 : t < vs.size := by omega
    rw [List.getD_eq_getElem?_getD, Array.getD_eq_getD_getElem?, List.getElem?_eq_getElem ht, Array.getElem?_eq_getElem h2]
    exact h.2 t _ _ (List.getElem?_eq_getElem ht) (by simp [Array.getElem?_eq_getElem h2])
  · rw [List.getD_eq_getElem?_getD, Array.getD_eq_getD_getElem?, List.getElem?_eq_none (by omega), Array.getElem?_eq_none (by omega)]
    exact undefA_ok C H ρ

theorem opd_ok {C : Cx El} {H : RO} {ρ : Nat → RE} {sl : List (AV El)} {a : Go.Act} (h : VL C H ρ sl a.tmps.toList) (x : Operand) : V C H ρ (opd sl x) (a.eval x) := by
  cases x with
  | tmp t => exact h.at t
  | const v => exact cvt_ok C H ρ v
  | global g => exact .junk _ _
  | func f => exact .fn _ _ _ _ _ _ rfl rfl (fun i a v ha => by simp at ha) fun i a v ha => by simp at ha

theorem co1_ok {C : Cx El} {H : RO} {ρ : Nat → RE} {z a : AV El} {v : Value} (h : V C H ρ a v) : V C H ρ (co1 z a) v := by
  unfold co1
  split
  · cases h
    split
    · exact .bytesN _ _ trivial
    · exact .listN _ _ _ trivial
    · exact .nilsl _
  · exact h

theorem length_coL : ∀ zs vs : List (AV El), (coL zs vs).length = vs.length
  | [], vs => by cases vs <;> simp [coL]
  | z :: zs, [] => by simp [coL]
  | z :: zs, v :: vs => by simp [coL, length_coL zs vs]

theorem coL_ok {C : Cx El} {H : RO} {ρ : Nat → RE} : ∀ (zs as : List (AV El)) (us : List Value), VL C H ρ as us → VL C H ρ (coL zs as) us
  | [], as, us, h => by cases as <;> simpa [coL] using h
  | z :: zs, [], us, h => by simpa [coL] using h
  | z :: zs, a :: as, [], h => by simp [VL] at h
  | z :: zs, a :: as, u :: us, h => by
    have ih := coL_ok zs as us ⟨by simpa using h.1, fun i x y hx hy => h.2 (i + 1) x y (by simpa using hx) (by simpa using hy)⟩
    refine ⟨by simpa [coL] using ih.1, fun i x y hx hy => ?_⟩
    cases i with
    | zero =>
      simp only [coL, List.getElem?_cons_zero, Option.some.injEq] at hx hy
      subst hx; subst hy
      exact co1_ok (h.2 0 a u rfl rfl)
    | succ i => exact ih.2 i x y (by simpa [coL] using hx) (by simpa using hy)

theorem V.aggL {C : Cx El} {H : RO} {ρ : Nat → RE} {cs : List (AV El)} {v : Value} (h : V C H ρ (.agg cs) v) : ∃ vs : Array Value, v = .agg vs ∧ VL C H ρ cs vs.toList := by
  cases h with
  | agg _ _ vs h1 h2 => exact ⟨vs, rfl, by simpa using h1, fun i a v ha hv => h2 i a v ha (by simpa using hv)⟩

theorem VL.agg {C : Cx El} {H : RO} {ρ : Nat → RE} {cs : List (AV El)} {vs : Array Value} (h : VL C H ρ cs vs.toList) : V C H ρ (.agg cs) (.agg vs) :=
  .agg _ _ _ (by simpa using h.1) fun i a v ha hv => h.2 i a v ha (by simpa using hv)

theorem VL.tup {C : Cx El} {H : RO} {ρ : Nat → RE} {cs : List (AV El)} {vs : Array Value} (h : VL C H ρ cs vs.toList) : V C H ρ (.tup cs) (.tuple vs) :=
  .tup _ _ _ (by simpa using h.1) fun i a v ha hv => h.2 i a v ha (by simpa using hv)

theorem co_ok {C : Cx El} {H : RO} {ρ : Nat → RE} {t : Nat} {a : AV El} {v : Value} (h : V C H ρ a v) : V C H ρ (co C t a) v := by
  unfold co
  split
  · exact h
  · split
    · split
      · exact co1_ok h
      · exact h
    · obtain ⟨vs, rfl, hl⟩ := h.aggL
      exact (coL_ok _ _ _ hl).agg
    · exact h

/-- Cells of a value. -/
theorem V.cellsL {C : Cx El} {H : RO} {ρ : Nat → RE} {a : AV El} {v : Value} (h : V C H ρ a v) (ha : allOk a.cells = true) : VL C H ρ a.cells v.cells.toList := by
  by_cases hagg : ∃ cs, a = .agg cs
  · obtain ⟨cs, rfl⟩ := hagg
    obtain ⟨vs, rfl, hl⟩ := h.aggL
    exact hl
  · have e1 : a.cells = [a] := by
      cases a <;> first | rfl | exact absurd ⟨_, rfl⟩ hagg
    rw [e1] at ha ⊢
    have e2 : v.cells = #[v] := by
      cases h <;> first | rfl | (simp [allOk, AV.cellOk] at ha)
    rw [e2]
    refine ⟨rfl, fun i x y hx hy => ?_⟩
    cases i with
    | zero => simp at hx hy; subst hx; subst hy; exact h
    | succ i => simp at hx

theorem V.oneCell {C : Cx El} {H : RO} {ρ : Nat → RE} {a : AV El} {v : Value} (h : V C H ρ a v) (ha : a.cellOk = true) : v.oneCell' = true := by
  cases h <;> first | rfl | (simp [AV.cellOk] at ha)

theorem allOk_at : ∀ {l : List (AV El)} {i : Nat} {a : AV El}, allOk l = true → l[i]? = some a → a.cellOk = true
  | v :: vs, 0, a, h, ha => by simp [allOk] at h ha; subst ha; exact h.1
  | v :: vs, i + 1, a, h, ha => by simp [allOk] at h ha; exact allOk_at h.2 ha
  | [], i, a, h, ha => by simp at ha

theorem VL.oneCells {C : Cx El} {H : RO} {ρ : Nat → RE} {as : List (AV El)} {vs : List Value} (h : VL C H ρ as vs) (ha : allOk as = true) : ∀ v ∈ vs, v.oneCell' = true := by
  intro v hv
  obtain ⟨i, hi, rfl⟩ := List.getElem_of_mem hv
  have hi' : i < as.length := by rw [h.1]; exact hi
  exact (h.2 i as[i] vs[i] (List.getElem?_eq_getElem hi') (List.getElem?_eq_getElem hi)).oneCell (allOk_at ha (List.getElem?_eq_getElem hi'))

/-! Types -/
def aggP (P : Program) (t : TypeId) : Bool :=
  match P.underlying t with
  | some (.struct _) => true
  | some (.array _ _) => true
  | _ => false

def sizeP (P : Program) (t : TypeId) : Option Nat := (P.info? t).map (·.size)

theorem run_sizeOf {P : Program} {t : TypeId} {n : Nat} (h : sizeP P t = some n) (w : World) : (sizeOf t).run P w = .ok n w := by
  unfold sizeP at h
  cases e : P.info? t with
  | none => rw [e] at h; cases h
  | some i => rw [e] at h; cases h; simp [sizeOf, typeInfo, e]

theorem run_isAgg {P : Program} {t : TypeId} {d : TypeDesc} (h : P.underlying t = some d) (w : World) : (isAgg t).run P w = .ok (aggP P t) w := by
  unfold aggP
  rw [h]
  simp only [isAgg, Sem.run_bind, run_underlying h, Result.andThen_ok]
  cases d <;> rfl

def TyU (P : Program) (C : Cx El) (t : TypeId) : Ty → Prop
  | .int k => P.underlying t = some (.int k)
  | .bool => P.underlying t = some .bool
  | .str => P.underlying t = some .string
  | .ptr => ∃ e, P.underlying t = some (.pointer e)
  | .bslice => ∃ e ie, P.underlying t = some (.slice e) ∧ P.underlying e = some (.int .u8) ∧ P.info? e = some ie ∧ ie.size = 1 ∧ ie.bytes = 1 ∧ ie.zero = some (.int .u8 0)
  | .slice c => P.underlying t = some (.slice c) ∧ ∃ ie z, P.info? c = some ie ∧ ie.size = C.lay.w c ∧ 0 < ie.size ∧ ie.bytes ≤ 4096 ∧ ie.zero = some z ∧ z.cells.size = ie.size ∧ (P.underlying c).isSome = true
  | .struct fs => ∃ fields, P.underlying t = some (.struct fields) ∧ fields.size = fs.length ∧
      ∀ (i : Nat) f x, fields[i]? = some f → fs[i]? = some x → f.offset = x.1 ∧ sizeP P f.type = some x.2.1 ∧ aggP P f.type = x.2.2 ∧ (P.underlying f.type).isSome = true ∧ (x.2.2 = false → x.2.1 = 1)
  | .arr n w g => ∃ e, P.underlying t = some (.array n e) ∧ sizeP P e = some w ∧ aggP P e = g ∧ (P.underlying e).isSome = true ∧ (g = false → w = 1)
  | .map e => ∃ k kk, P.underlying t = some (.map k e) ∧ P.underlying k = some (.int kk)
  | .fn => ∃ a b c, P.underlying t = some (.func a b c)
  | .other => (P.underlying t).isSome = true

structure TOk (P : Program) (C : Cx El) (t : TypeId) (ti : TI El) : Prop where
  size : sizeP P t = some ti.size
  zero : ∃ i z, P.info? t = some i ∧ i.zero = some z ∧ (∀ H ρ, VL C H ρ ti.zero z.cells.toList) ∧ (ti.ty.agg = true → ∃ cs, z = .agg cs) ∧ (ti.ty.agg = false → z.cells = #[z])
  len : ti.zero.length = ti.size
  agg : aggP P t = ti.ty.agg
  und : (P.underlying t).isSome = true
  ty : TyU P C t ti.ty

def TTOk (P : Program) (C : Cx El) : Prop := ∀ t ti, C.tt t = some ti → TOk P C t ti

structure LOk (C : Cx El) : Prop where
  len : ∀ c x, (C.lay.cells c x).length = C.lay.w c
  of : ∀ c cs x, C.lay.ofCells c cs = some x → ∀ H ρ vs, VL C H ρ cs vs → VL C H ρ0 (C.lay.cells c x) vs
  ok : ∀ c x, allOk (C.lay.cells c x) = true
  ofOk : ∀ c cs x, C.lay.ofCells c cs = some x → allOk cs = true

/-! An operation done -/
def Goes (P : Program) (o : Oper) (a : Go.Act) (w : World) (Φ : Value → World → Prop) : Prop :=
  ∀ (K : Go.Act → World → Prop) (Q : Exit → Go.Act → World → Prop), (∀ u w', Φ u w' → K (a.put o.dst u) w') → o.wp P a w K Q

theorem goes_value {P : Program} {o : Oper} {a : Go.Act} {w w' : World} {Φ : Value → World → Prop} {u : Value} (h : (execOp a.eval o).run P w = .ok (.value u) w') (k : Φ u w') : Goes P o a w Φ := by
  intro K Q hK
  unfold Oper.wp
  rw [h]
  exact hK _ _ k

theorem goes_skip {P : Program} {o : Oper} {a : Go.Act} {w w' : World} {Φ : Value → World → Prop} (h : (execOp a.eval o).run P w = .ok .skip w') (k : Φ undef w') : Goes P o a w Φ := by
  intro K Q hK
  unfold Oper.wp
  rw [h]
  exact hK _ _ k

/-- What is so behind it: a value and a memory, with which the rest goes on. -/
def Post (C : Cx El) (base : Nat) (H : RO) (ρ : Nat → RE) (w : World) {R : Type} (k : AV El → List (HE El) → Option R) (r : R) : Value → World → Prop :=
  fun u w' => ∃ v h' H' ρ', k v h' = some r ∧ Step C base H ρ w H' ρ' h' w' ∧ V C H' ρ' v u

theorem Post.now {C : Cx El} {base : Nat} {H : RO} {ρ : Nat → RE} {h : List (HE El)} {w : World} {R : Type} {k : AV El → List (HE El) → Option R} {r : R} (q : Rw C base H ρ h w) {v : AV El} {u : Value}
    (hk : k v h = some r) (hv : V C H ρ v u) : Post C base H ρ w k r u w := ⟨v, h, H, ρ, hk, .refl q, hv⟩

/-! Comparing -/
theorem list_beq_decide (a b : List UInt8) : (a == b) = decide (a = b) := by
  rw [Bool.eq_iff_iff]; simp

def KindOk (P : Program) (t : TypeId) : Ty → Prop
  | .int k => P.underlying t = some (.int k)
  | .bool => P.underlying t = some .bool
  | .str => P.underlying t = some .string
  | _ => False

def CmpOk (P : Program) (t : TypeId) (ts : List Ty) : Prop :=
  ∃ fields, P.underlying t = some (.struct fields) ∧ P.stoodInHeld t = false ∧ P.eqGuardType P.depth t = false ∧ fields.size = ts.length ∧
    ∀ (i : Nat) f x, fields[i]? = some f → ts[i]? = some x → f.name ≠ "_" ∧ f.offset = i ∧ KindOk P f.type x

theorem KindOk.flat {P : Program} {t : TypeId} {x : Ty} (h : KindOk P t x) : ∃ d, P.underlying t = some d ∧ aggP P t = false := by
  cases x <;> first | exact h.elim | exact ⟨_, h, by simp only [KindOk] at h; simp [aggP, h]⟩

theorem run_part_flat {P : Program} {t : TypeId} {x : Ty} (h : KindOk P t x) {cs : Array Value} {off : Nat} {v : Value} (hv : cs[off]? = some v) (w : World) : (Go.part t cs off).run P w = .ok v w := by
  obtain ⟨d, hd, hf⟩ := h.flat
  simp only [Go.part, Sem.run_bind, run_isAgg hd, hf, Result.andThen_ok, Bool.false_eq_true, if_false, hv, Sem.run_pure]

theorem eqF_ok {P : Program} {C : Cx El} {H : RO} {ρ : Nat → RE} {t : TypeId} {x : Ty} {a b : AV El} {u v : Value} {r : Bool} (hk : KindOk P t x) (h : eqF x a b = some r) (ha : V C H ρ a u) (hb : V C H ρ b v) (d : Nat) (w : World) :
    (Op.equalIn (d + 1) t u v).run P w = .ok r w := by
  unfold eqF at h
  split at h
  · cases ha; cases hb; cases h
    exact run_equalIn_bool' w d t _ _ hk
  · rename_i k0 k a k' b
    split at h
    · rename_i hc
      obtain ⟨rfl, rfl⟩ := hc
      cases ha; cases hb; cases h
      rw [run_equalIn_int w d t _ _ _ _ hk]
      simp [Bool.beq_eq_decide_eq]
    · cases h
  · cases ha; cases hb; cases h
    rw [run_equalIn_string w d t _ _ hk, ByteArray.toList_eq, ByteArray.toList_eq, list_beq_decide]
  · cases h

theorem run_eqFields {P : Program} {C : Cx El} {H : RO} {ρ : Nat → RE} (d : Nat) (xs ys : Array Value) (w : World) : ∀ (fs : List Field) (ts : List Ty) (as bs : List (AV El)) (n : Nat) (r : Bool),
    fs.length = ts.length → (∀ (i : Nat) f x, fs[i]? = some f → ts[i]? = some x → f.name ≠ "_" ∧ f.offset = n + i ∧ KindOk P f.type x) → eqL ts as bs = some r →
    (∀ (i : Nat) a, as[i]? = some a → ∃ v, xs[n + i]? = some v ∧ V C H ρ a v) → (∀ (i : Nat) b, bs[i]? = some b → ∃ v, ys[n + i]? = some v ∧ V C H ρ b v) →
    (Op.eqFields (d + 1) xs ys fs).run P w = .ok r w
  | [], [], as, bs, n, r, _, _, h, _, _ => by
    unfold eqL at h
    split at h
    · cases h; simp [Op.eqFields]
    · rename_i e1 _ _; cases e1
    · cases h
  | f :: fs, t :: ts, as, bs, n, r, hl, hf, h, ha, hb => by
    unfold eqL at h
    split at h
    · rename_i e; cases e
    · rename_i t' ts' x xs' y ys' e
      cases e
      split at h
      · rename_i r1 r2 e1 e2
        cases h
        obtain ⟨h1, h2, h3⟩ := hf 0 f t rfl rfl
        obtain ⟨u, hu, vu⟩ := ha 0 x rfl
        obtain ⟨v, hv, vv⟩ := hb 0 y rfl
        have ih := run_eqFields d xs ys w fs ts xs' ys' (n + 1) r2 (by simpa using hl) (fun i f x hfi hxi => by
          have := hf (i + 1) f x (by simpa using hfi) (by simpa using hxi)
          exact ⟨this.1, by omega, this.2.2⟩) e2 (fun i a hai => by
          obtain ⟨v, hv, vv⟩ := ha (i + 1) a (by simpa using hai)
          exact ⟨v, by rw [show n + 1 + i = n + (i + 1) by omega]; exact hv, vv⟩) (fun i a hai => by
          obtain ⟨v, hv, vv⟩ := hb (i + 1) a (by simpa using hai)
          exact ⟨v, by rw [show n + 1 + i = n + (i + 1) by omega]; exact hv, vv⟩)
        rw [← h2] at hu hv
        simp only [Op.eqFields, h1, ne_eq, not_false_eq_true, if_true, Sem.run_bind, run_part_flat h3 hu, run_part_flat h3 hv, Result.andThen_ok, eqF_ok h3 e1 vu vv]
        cases r1
        · simp
        · simp [ih]
      · cases h
    · cases h
  | [], _ :: _, _, _, _, _, hl, _, _, _, _ => by simp at hl
  | _ :: _, [], _, _, _, _, hl, _, _, _, _ => by simp at hl

theorem VL.some {C : Cx El} {H : RO} {ρ : Nat → RE} {as : List (AV El)} {vs : Array Value} (h : VL C H ρ as vs.toList) (i : Nat) (a : AV El) (ha : as[i]? = some a) : ∃ v, vs[i]? = some v ∧ V C H ρ a v := by
  have hi : i < as.length := by
    rcases Nat.lt_or_ge i as.length with h' | h'
    · exact h'
    · rw [List.getElem?_eq_none h'] at ha; cases ha
  have hl : as.length = vs.size := by simpa using h.1
  exact ⟨vs[i], Array.getElem?_eq_getElem (by omega), h.2 i a _ ha (by simp)⟩

theorem run_eq_agg {P : Program} {C : Cx El} {H : RO} {ρ : Nat → RE} {t : TypeId} {ts : List Ty} {as bs : List (AV El)} {xs ys : Array Value} {r : Bool} (hc : CmpOk P t ts) (h : eqL ts as bs = some r) (ha : VL C H ρ as xs.toList) (hb : VL C H ρ bs ys.toList) (w : World) :
    (Op.equalIn 10000 t (.agg xs) (.agg ys)).run P w = .ok r w := by
  obtain ⟨fields, h1, h2, _, h3, h4⟩ := hc
  have hfo : P.fieldsOf t = fields := by simp [Program.fieldsOf, h1]
  rw [run_equalIn_struct w 9999 t xs ys (by rw [hfo]; exact h1) h2, hfo]
  exact run_eqFields 9998 xs ys w fields.toList ts as bs 0 r (by simpa using h3) (fun i f x hf hx => by
    have := h4 i f x (by simpa using hf) hx
    exact ⟨this.1, by omega, this.2.2⟩) h (fun i a h => by simpa using ha.some i a h) (fun i a h => by simpa using hb.some i a h)

theorem isNil_ok {C : Cx El} {H : RO} {ρ : Nat → RE} {a : AV El} {v : Value} {r : Bool} (h : isNil a = some r) (hv : V C H ρ a v) : ∃ p n c, v = .slice p n c ∧ p.isNone = r := by
  unfold isNil at h
  split at h
  · cases h; cases hv; exact ⟨_, _, _, rfl, rfl⟩
  · cases h
    cases hv with
    | bytesN _ _ _ => exact ⟨_, _, _, rfl, rfl⟩
    | bytes _ _ _ _ _ _ hf => exact hf.elim
  · cases h
    cases hv with
    | bytesN _ _ hf => exact hf.elim
    | bytes _ _ _ _ _ _ hf => exact ⟨_, _, _, rfl, rfl⟩
  · cases h
    cases hv with
    | listN _ _ _ _ => exact ⟨_, _, _, rfl, rfl⟩
    | list _ _ _ _ _ _ _ _ hf => exact hf.elim
  · cases h
    cases hv with
    | listN _ _ _ hf => exact hf.elim
    | list _ _ _ _ _ _ _ _ hf => exact ⟨_, _, _, rfl, rfl⟩
  · cases h

theorem run_eqIn_nil_r {P : Program} {t e : TypeId} (d : Nat) (h : P.underlying t = some (.slice e)) (p : Option Addr) (n c : Nat) (w : World) : (Op.equalIn (d + 1) t (.slice p n c) (.slice none 0 0)).run P w = .ok p.isNone w := by
  cases p <;> simp [Op.equalIn, run_underlying h]
theorem run_eqIn_nil_l {P : Program} {t e : TypeId} (d : Nat) (h : P.underlying t = some (.slice e)) (p : Option Addr) (n c : Nat) (w : World) : (Op.equalIn (d + 1) t (.slice none 0 0) (.slice p n c)).run P w = .ok p.isNone w := by
  cases p <;> simp [Op.equalIn, run_underlying h]
theorem run_eqIn_ptr {P : Program} {t e : TypeId} (d : Nat) (h : P.underlying t = some (.pointer e)) (p q : Option Addr) (hn : p = none ∨ q = none) (w : World) :
    (Op.equalIn (d + 1) t (.pointer p) (.pointer q)).run P w = .ok (p.isNone && q.isNone) w := by
  rcases hn with rfl | rfl
  · simp [Op.equalIn, run_underlying h]
  · cases p <;> simp [Op.equalIn, run_underlying h]
theorem run_eqIn_fn {P : Program} {t : TypeId} {p1 p2 : Array TypeId} {p3 : Bool} (d : Nat) (h : P.underlying t = some (.func p1 p2 p3)) (w : World) :
    (Op.equalIn (d + 1) t .nilFunc .nilFunc).run P w = .ok true w ∧ ∀ f a b, (Op.equalIn (d + 1) t .nilFunc (.func f a b)).run P w = .ok false w ∧ (Op.equalIn (d + 1) t (.func f a b) .nilFunc).run P w = .ok false w := by
  refine ⟨by simp [Op.equalIn, run_underlying h], fun f a b => ⟨by simp [Op.equalIn, run_underlying h], by simp [Op.equalIn, run_underlying h]⟩⟩

/-- '==' and '!=' of the abstract machine are the model's. -/
theorem eqA_ok {P : Program} {C : Cx El} {H : RO} {ρ : Nat → RE} (hT : TTOk P C) (hC : ∀ t ts, C.cmp t = some ts → CmpOk P t ts) {t : TypeId} {a b : AV El} {u v : Value} {r : Bool} (h : eqA C t a b = some r) (ha : V C H ρ a u) (hb : V C H ρ b v) (X Y : Operand) (w : World) :
    ((do eqGuard .eql t X Y u v; binOp .eql t u v : Sem Value).run P w = .ok (.bool r) w) ∧ (do eqGuard .neq t X Y u v; binOp .neq t u v : Sem Value).run P w = .ok (.bool (!r)) w := by
  unfold eqA at h
  split at h
  · split at h
    · rename_i hk; subst hk
      cases ha; cases hb; cases h
      simp [eqGuard_at_int, binOp_eql, binOp_neq, bne, Bool.beq_eq_decide_eq]
    · cases h
  · cases ha; cases hb; cases h
    rename_i b1 _ b2 _
    have e : (b1.toList == b2.toList) = decide (b1.data.toList = b2.data.toList) := by rw [ByteArray.toList_eq, ByteArray.toList_eq, list_beq_decide]
    simp [eqGuard_at_string, binOp, Op.stringOp, e]
  · split at h
    · rename_i ts hts
      obtain ⟨xs, rfl, hx⟩ := ha.aggL
      obtain ⟨ys, rfl, hy⟩ := hb.aggL
      have hc := hC _ _ hts
      have hg : P.eqGuardType P.depth t = false := by obtain ⟨_, _, _, h3, _⟩ := hc; exact h3
      have hr := run_eq_agg hc h hx hy w
      constructor
      · simp only [Sem.run_bind, run_eqGuard_agg w .eql t X Y xs ys hg, Result.andThen_ok, run_eql_struct, hr]
      · simp only [Sem.run_bind, run_eqGuard_agg w .neq t X Y xs ys hg, Result.andThen_ok, run_neq_struct, hr]
    · cases h
  · split at h
    · cases h
    · rename_i ti hti
      have hty := (hT _ _ hti).ty
      generalize ti.ty = ty at h hty
      have e1 : ∀ u v : Value, Op.equal t u v = Op.equalIn (9999 + 1) t u v := fun _ _ => rfl
      cases ty with
      | bool =>
        simp only [eqT] at h
        split at h
        · cases ha; cases hb; cases h
          simp [eqGuard_at_bool, binOp, run_equal_bool w t _ _ hty]
        · cases h
      | ptr =>
        obtain ⟨el, hty⟩ := hty
        simp only [eqT] at h
        split at h
        · cases ha; cases hb; cases h
          simp [eqGuard_at_pointer, binOp, e1, run_eqIn_ptr 9999 hty none none (.inl rfl) w]
        · cases ha; cases hb; cases h
          simp [eqGuard_at_pointer, binOp, e1, run_eqIn_ptr 9999 hty none _ (.inl rfl) w]
        · cases ha; cases hb; cases h
          simp [eqGuard_at_pointer, binOp, e1, run_eqIn_ptr 9999 hty _ none (.inr rfl) w]
        · cases h
      | fn =>
        obtain ⟨p1, p2, p3, hty⟩ := hty
        obtain ⟨f1, f2⟩ := run_eqIn_fn 9999 hty w
        simp only [eqT] at h
        split at h
        · cases ha; cases hb; cases h
          simp [eqGuard_at_nilFunc, binOp, e1, f1]
        · cases ha; cases hb; cases h
          simp [eqGuard_at_nilFunc, binOp, e1, f2]
        · cases ha; cases hb; cases h
          simp [eqGuard_at_func, binOp, e1, f2]
        · cases h
      | bslice =>
        obtain ⟨el, ie, hty, _⟩ := hty
        simp only [eqT] at h
        split at h
        · cases hb
          obtain ⟨p, n, c, rfl, hp⟩ := isNil_ok h ha
          simp [eqGuard_at_slice, binOp, e1, run_eqIn_nil_r 9999 hty, hp]
        · split at h
          · cases ha
            obtain ⟨p, n, c, rfl, hp⟩ := isNil_ok h hb
            simp [eqGuard_at_slice, binOp, e1, run_eqIn_nil_l 9999 hty, hp]
          · cases h
      | slice c0 =>
        obtain ⟨hty, _⟩ := hty
        simp only [eqT] at h
        split at h
        · cases hb
          obtain ⟨p, n, c, rfl, hp⟩ := isNil_ok h ha
          simp [eqGuard_at_slice, binOp, e1, run_eqIn_nil_r 9999 hty, hp]
        · split at h
          · cases ha
            obtain ⟨p, n, c, rfl, hp⟩ := isNil_ok h hb
            simp [eqGuard_at_slice, binOp, e1, run_eqIn_nil_l 9999 hty, hp]
          · cases h
      | _ => simp [eqT] at h
end Go.Ev

/- The operations that only reckon are the model's. Own work. -/
namespace Go.Ev
variable {El : Nat → Type}

theorem inR_iff (k : IntKind) (n : Int) : inR k n = true ↔ k.min ≤ n ∧ n ≤ k.max := by simp [inR]

theorem inR_wrap (k : IntKind) (n : Int) : inR k (k.wrap n) = true := by
  rw [inR_iff]
  cases k <;> simp only [IntKind.wrap, IntKind.min, IntKind.max, IntKind.bits, IntKind.signed] <;> simp <;> (try split) <;> omega

theorem inR_tmod (k : IntKind) (a b : Int) (h : inR k a = true) : inR k (a.tmod b) = true := by
  rw [inR_iff] at *
  have h1 : a.tmod b = a - b * a.tdiv b := by rw [Int.tmod_def]
  rcases Int.lt_or_le a 0 with ha | ha
  · have h2 : a.tmod b ≤ 0 := by
      have := Int.tmod_nonneg b (a := -a) (by omega)
      rw [Int.neg_tmod] at this; omega
    have h3 : a ≤ a.tmod b := by
      have : (-a).tmod b ≤ -a := by
        rcases Int.lt_or_le ((-a).tmod b) (-a + 1) with h' | h'
        · omega
        · exfalso
          have hb := Int.natAbs_tmod (-a) b
          have := Nat.mod_le (-a).natAbs b.natAbs
          have := Int.tmod_nonneg b (a := -a) (by omega)
          omega
      rw [Int.neg_tmod] at this; omega
    cases k <;> simp only [IntKind.min, IntKind.max, IntKind.bits, IntKind.signed] at * <;> simp at * <;> omega
  · have h2 := Int.tmod_nonneg b ha
    have h3 : a.tmod b ≤ a := by
      have hb := Int.natAbs_tmod a b
      have := Nat.mod_le a.natAbs b.natAbs
      omega
    cases k <;> simp only [IntKind.min, IntKind.max, IntKind.bits, IntKind.signed] at * <;> simp at * <;> omega

theorem inR_fdiv (k : IntKind) (a : Int) (m : Nat) (h : inR k a = true) : inR k (a.fdiv (2 ^ m)) = true := by
  rw [inR_iff] at *
  have hp : (0 : Int) < 2 ^ m := Int.pow_pos (by omega)
  rw [Int.fdiv_eq_ediv_of_nonneg _ (by omega)]
  have h1 : a / 2 ^ m ≤ max a 0 := by
    rcases Int.lt_or_le a 0 with ha | ha
    · have := Int.ediv_neg_of_neg_of_pos ha hp; omega
    · have := Int.ediv_le_self (2 ^ m) ha; omega
  have h2 : min a 0 ≤ a / 2 ^ m := by
    rcases Int.lt_or_le a 0 with ha | ha
    · have h3 : a ≤ a / 2 ^ m := by
        rw [Int.le_ediv_iff_mul_le hp]
        have : a * 2 ^ m ≤ a * 1 := Int.mul_le_mul_of_nonpos_left (by omega) (by omega)
        omega
      omega
    · have := Int.ediv_nonneg ha (by omega : (0 : Int) ≤ 2 ^ m); omega
  cases k <;> simp only [IntKind.min, IntKind.max, IntKind.bits, IntKind.signed] at * <;> simp at * <;> omega

theorem binA_ok {P : Program} {C : Cx El} {H : RO} {ρ : Nat → RE} (hT : TTOk P C) (hC : ∀ t ts, C.cmp t = some ts → CmpOk P t ts) {t : TypeId} {op : BinOp} {a b z : AV El} {u v : Value} {c : Bool}
    (h : binA C t op a b = some (c, z)) (hc : c = true) (ha : V C H ρ a u) (hb : V C H ρ b v) (X Y : Operand) (w : World) :
    ∃ r, (do eqGuard op t X Y u v; binOp op t u v : Sem Value).run P w = .ok r w ∧ V C H ρ z r := by
  subst hc
  cases op with
  | eql =>
    have h' : (match eqA C t a b with | some b => some (true, AV.bool b) | none => none) = some (true, z) := by
      unfold binA at h; exact h
    split at h'
    · rename_i r hr
      cases h'
      exact ⟨_, (eqA_ok hT hC hr ha hb X Y w).1, .bool _ _⟩
    · cases h'
  | neq =>
    have h' : (match eqA C t a b with | some b => some (true, AV.bool (!b)) | none => none) = some (true, z) := by
      unfold binA at h; exact h
    split at h'
    · rename_i r hr
      cases h'
      exact ⟨_, (eqA_ok hT hC hr ha hb X Y w).2, .bool _ _⟩
    · cases h'
  | add =>
    cases a <;> cases b <;> simp only [binA] at h <;> try (cases h; done)
    · split at h
      · rename_i hk; subst hk
        cases ha; cases hb; cases h
        exact ⟨_, by simp [eqGuard_at_int, binOp_add, Op.intArith], .int _ _ _ (inR_wrap _ _)⟩
      · cases h
    · cases ha; cases hb
      rename_i b1 _ b2 _
      simp only [Option.some.injEq, Prod.mk.injEq, decide_eq_true_eq] at h
      obtain ⟨hle, rfl⟩ := h
      have hb1 : b1.size = b1.data.toList.length := rfl
      have hb2 : b2.size = b2.data.toList.length := rfl
      refine ⟨.string (b1 ++ b2), ?_, ?_⟩
      · have := run_string_add_sum (P := P) w b1 b2 (by unfold maxCat at hle; omega)
        simp [eqGuard_at_string, binOp, this]
      · have e : (b1 ++ b2).data.toList = b1.data.toList ++ b2.data.toList := by simp
        rw [← e]; exact .str _ _ (by rw [e]; simpa using hle)
  | sub =>
    cases a <;> cases b <;> simp only [binA] at h <;> try (cases h; done)
    split at h
    · rename_i hk; subst hk
      cases ha; cases hb; cases h
      exact ⟨_, by simp [eqGuard_at_int, binOp_sub, Op.intArith], .int _ _ _ (inR_wrap _ _)⟩
    · cases h
  | mul =>
    cases a <;> cases b <;> simp only [binA] at h <;> try (cases h; done)
    split at h
    · rename_i hk; subst hk
      cases ha; cases hb; cases h
      exact ⟨_, by simp [eqGuard_at_int, binOp_mul, Op.intArith], .int _ _ _ (inR_wrap _ _)⟩
    · cases h
  | quo =>
    cases a <;> cases b <;> simp only [binA] at h <;> try (cases h; done)
    split at h
    · rename_i hk; subst hk
      cases ha; cases hb
      rename_i hi _ 
      simp only [Option.some.injEq, Prod.mk.injEq, Bool.not_eq_true', decide_eq_false_iff_not] at h
      obtain ⟨h0, rfl⟩ := h
      exact ⟨_, by simp [eqGuard_at_int, binOp_quo, Op.intDiv, h0], .int _ _ _ (inR_wrap _ _)⟩
    · cases h
  | rem =>
    cases a <;> cases b <;> simp only [binA] at h <;> try (cases h; done)
    split at h
    · rename_i hk; subst hk
      cases ha; cases hb
      rename_i hi _ 
      simp only [Option.some.injEq, Prod.mk.injEq, Bool.not_eq_true', decide_eq_false_iff_not] at h
      obtain ⟨h0, rfl⟩ := h
      exact ⟨_, by simp [eqGuard_at_int, binOp_rem, Op.intDiv, h0], .int _ _ _ (inR_tmod _ _ _ hi)⟩
    · cases h
  | and =>
    cases a <;> cases b <;> simp only [binA] at h <;> try (cases h; done)
    split at h
    · rename_i hk; subst hk
      cases ha; cases hb; cases h
      exact ⟨_, by simp [eqGuard_at_int, binOp_and, Op.intBits], .int _ _ _ (inR_wrap _ _)⟩
    · cases h
  | or =>
    cases a <;> cases b <;> simp only [binA] at h <;> try (cases h; done)
    split at h
    · rename_i hk; subst hk
      cases ha; cases hb; cases h
      exact ⟨_, by simp [eqGuard_at_int, binOp_or, Op.intBits], .int _ _ _ (inR_wrap _ _)⟩
    · cases h
  | xor =>
    cases a <;> cases b <;> simp only [binA] at h <;> try (cases h; done)
    split at h
    · rename_i hk; subst hk
      cases ha; cases hb; cases h
      exact ⟨_, by simp [eqGuard_at_int, binOp_xor, Op.intBits], .int _ _ _ (inR_wrap _ _)⟩
    · cases h
  | andNot =>
    cases a <;> cases b <;> simp only [binA] at h <;> try (cases h; done)
    split at h
    · rename_i hk; subst hk
      cases ha; cases hb; cases h
      exact ⟨_, by simp [eqGuard_at_int, binOp_andNot, Op.intBits], .int _ _ _ (inR_wrap _ _)⟩
    · cases h
  | shl =>
    cases a <;> cases b <;> simp only [binA] at h <;> try (cases h; done)
    cases ha; cases hb
    rename_i hi _
    simp only [Option.some.injEq, Prod.mk.injEq, decide_eq_true_eq] at h
    obtain ⟨h0, rfl⟩ := h
    exact ⟨_, by simp [eqGuard_at_int, binOp_shl, Op.shift, Int.not_lt.2 h0], .int _ _ _ (inR_wrap _ _)⟩
  | shr =>
    cases a <;> cases b <;> simp only [binA] at h <;> try (cases h; done)
    cases ha; cases hb
    rename_i hi _
    simp only [Option.some.injEq, Prod.mk.injEq, decide_eq_true_eq] at h
    obtain ⟨h0, rfl⟩ := h
    exact ⟨_, by simp [eqGuard_at_int, binOp_shr, Op.shift, Int.not_lt.2 h0], .int _ _ _ (inR_fdiv _ _ _ hi)⟩
  | lss =>
    cases a <;> cases b <;> simp only [binA] at h <;> try (cases h; done)
    split at h
    · rename_i hk; subst hk
      cases ha; cases hb; cases h
      exact ⟨_, by simp [eqGuard_at_int, binOp_lss], .bool _ _⟩
    · cases h
  | leq =>
    cases a <;> cases b <;> simp only [binA] at h <;> try (cases h; done)
    split at h
    · rename_i hk; subst hk
      cases ha; cases hb; cases h
      exact ⟨_, by simp [eqGuard_at_int, binOp_leq], .bool _ _⟩
    · cases h
  | gtr =>
    cases a <;> cases b <;> simp only [binA] at h <;> try (cases h; done)
    split at h
    · rename_i hk; subst hk
      cases ha; cases hb; cases h
      exact ⟨_, by simp [eqGuard_at_int, binOp_gtr], .bool _ _⟩
    · cases h
  | geq =>
    cases a <;> cases b <;> simp only [binA] at h <;> try (cases h; done)
    split at h
    · rename_i hk; subst hk
      cases ha; cases hb; cases h
      exact ⟨_, by simp [eqGuard_at_int, binOp_geq], .bool _ _⟩
    · cases h

theorem unA_ok {P : Program} {C : Cx El} {H : RO} {ρ : Nat → RE} {op : UnOp} {a z : AV El} {u : Value} (h : unA op a = some z) (ha : V C H ρ a u) (w : World) :
    ∃ r, (Op.unary op u).run P w = .ok r w ∧ V C H ρ z r := by
  unfold unA at h
  split at h
  · cases h; cases ha; exact ⟨_, by simp [Op.unary], .bool _ _⟩
  · cases h; cases ha; exact ⟨_, by simp [Op.unary, Op.intArith], .int _ _ _ (inR_wrap _ _)⟩
  · cases h
end Go.Ev

/- The operations on memory are the model's. Own work. -/
namespace Go.Ev
variable {El : Nat → Type}

section
variable {P : Program} {C : Cx El} {base : Nat} {H : RO} {ρ : Nat → RE} {h : List (HE El)} {w : World} {a : Go.Act} {o : Oper} {R : Type} {k : AV El → List (HE El) → Option R} {r : R} {nb : Nat} {sl : List (AV El)}

theorem go_val (q : Rw C base H ρ h w) {v : AV El} {u : Value} (hp : perform (.val v : Act El R) h nb k = some r) (hv : V C H ρ v u) (hrun : (execOp a.eval o).run P w = .ok (.value u) w) : Goes P o a w (Post C base H ρ w k r) :=
  goes_value hrun (.now q hp hv)

theorem perform_chk {b : Bool} {v : AV El} (hp : perform (.chk b v : Act El R) h nb k = some r) : b = true ∧ k v h = some r := by
  simp only [bif_ble, bif_blt, perform] at hp
  cases b
  · cases hp
  · exact ⟨rfl, hp⟩

theorem perform_new1 {e : HE El} {mk : Nat → AV El} (hp : perform (new1 e mk : Act El R) h nb k = some r) : isFree h nb 1 = true ∧ k (mk nb) (newAt h nb [e]) = some r := by
  simp only [new1, perform] at hp
  split at hp
  · refine ⟨‹_›, ?_⟩
    simpa [putAt] using hp
  · cases hp

theorem info_of {t : TypeId} {n : Nat} (hs : sizeP P t = some n) : ∃ i, P.info? t = some i ∧ i.size = n := by
  unfold sizeP at hs
  cases e : P.info? t with
  | none => rw [e] at hs; cases hs
  | some i => rw [e] at hs; exact ⟨i, rfl, by simpa using hs⟩

/-- A block of cells, made. -/
theorem post_blk (q : Rw C base H ρ h w) (hnb : nb ≤ h.length) (hf : isFree h nb 1 = true) {cs : List (AV El)} {arr : Array Value} (hl : VL C H ρ cs arr.toList) (ty : TypeId) {v : AV El} (hv : ∀ ρ', ρ' nb = .blk w.heap.size cs.length → V C H ρ' v (.pointer (some ⟨w.heap.size, 0, none⟩)))
    (hk : k v (newAt h nb [.blk cs]) = some r) : Post C base H ρ w k r (.pointer (some ⟨w.heap.size, 0, none⟩)) (w.alloc (.cells arr ty (0, 0))) := by
  have hx : Ext H H ρ (upd ρ nb (.blk w.heap.size cs.length)) := Ext.upd (fun _ _ _ h => h) (fun _ _ h => h) (isFree_none q hf)
  have hsz : arr.size = cs.length := by simpa using hl.1.symm
  refine ⟨v, _, H, _, hk, step_new q hnb hf (.blk cs) (.cells arr ty (0, 0)) cs.length ⟨_, arr, ty, (0, 0), rfl, ?_, hsz, fun o _ hc => by omega, fun i x y hx' hy => (hl.2 i x y hx' (by simpa using hy)).ext hx⟩, hv _ (upd_same _ _ _)⟩
  show (w.heap.push _)[w.heap.size]? = _
  simp

theorem post_alloc (q : Rw C base H ρ h w) (hnb : nb ≤ h.length) (hf : isFree h nb 1 = true) {cs : List (AV El)} {arr : Array Value} (hl : VL C H ρ cs arr.toList) (ty : TypeId) {v : AV El} (hv : ∀ ρ', ρ' nb = .blk w.heap.size cs.length → V C H ρ' v (.pointer (some ⟨w.heap.size, 0, none⟩)))
    (hk : k v (newAt h nb [allocE cs]) = some r) : Post C base H ρ w k r (.pointer (some ⟨w.heap.size, 0, none⟩)) (w.alloc (.cells arr ty (0, 0))) := by
  have hx : Ext H H ρ (upd ρ nb (.blk w.heap.size cs.length)) := Ext.upd (fun _ _ _ h => h) (fun _ _ h => h) (isFree_none q hf)
  have hsz : arr.size = cs.length := by simpa using hl.1.symm
  refine ⟨v, _, H, _, hk, step_new q hnb hf (allocE cs) (.cells arr ty (0, 0)) cs.length (allocE_ok ⟨_, arr, ty, (0, 0), rfl, ?_, hsz, fun o _ hc => by omega, fun i x y hx' hy => (hl.2 i x y hx' (by simpa using hy)).ext hx⟩), hv _ (upd_same _ _ _)⟩
  show (w.heap.push _)[w.heap.size]? = _
  simp

theorem go_alloc (hT : TTOk P C) (q : Rw C base H ρ h w) (hnb : nb ≤ h.length) {t : TypeId} (ho : o.op = .alloc t) (hp : perform (execA C h sl o) h nb k = some r) : Goes P o a w (Post C base H ρ w k r) := by
  simp only [execA, ho] at hp
  split at hp
  · rename_i ti hti
    obtain ⟨hf, hk⟩ := perform_new1 hp
    have ht := hT _ _ hti
    obtain ⟨i, z, hi, hz, hvl, _, _⟩ := ht.zero
    have hrun : (execOp a.eval o).run P w = .ok (.value (.pointer (some ⟨w.heap.size, 0, none⟩))) (w.alloc (.cells z.cells t (0, 0))) := by
      simp [execOp, ho, Instr.alloc, zeroValue, typeInfo, hi, hz, newVar, newRow]
    exact goes_value hrun (post_alloc q hnb hf (hvl H ρ) t (fun ρ' h => .ptr _ _ _ _ _ h) hk)
  · simp [perform] at hp

theorem go_box (hS : VL C H ρ sl a.tmps.toList) (q : Rw C base H ρ h w) (hnb : nb ≤ h.length) {t : TypeId} {x : Operand} (ho : o.op = .box t x) (hp : perform (execA C h sl o) h nb k = some r) : Goes P o a w (Post C base H ρ w k r) := by
  simp only [execA, ho] at hp
  split at hp
  · rename_i ti hti
    split at hp
    · rename_i hc
      obtain ⟨hf, hk⟩ := perform_new1 hp
      have hv : V C H ρ (co C t (opd sl x)) (a.eval x) := co_ok (opd_ok hS x)
      have hrun : (execOp a.eval o).run P w = .ok (.value (.pointer (some ⟨w.heap.size, 0, none⟩))) (w.alloc (.cells (a.eval x).cells t (0, 0))) := by
        simp [execOp, ho, Instr.box, newVar, newRow]
      exact goes_value hrun (post_blk q hnb hf (hv.cellsL hc.2) t (fun ρ' h => .ptr _ _ _ _ _ h) hk)
    · simp [perform] at hp
  · simp [perform] at hp

/-- Cells of a list of values, a part of them. -/
theorem VL.take {as : List (AV El)} {vs : List Value} (hl : VL C H ρ as vs) (off n : Nat) : VL C H ρ ((as.drop off).take n) ((vs.drop off).take n) := by
  refine ⟨by simp [hl.1], fun i x y hx hy => ?_⟩
  rw [List.getElem?_take] at hx hy
  split at hx
  · rename_i hi
    rw [if_pos hi] at hy
    rw [List.getElem?_drop] at hx hy
    exact hl.2 _ x y hx hy
  · cases hx

theorem run_loadVar {t : TypeId} {n : Nat} {g : Bool} (hs : sizeP P t = some n) (hg : aggP P t = g) (hu : (P.underlying t).isSome = true) (b o' off : Nat) (vs : List Value) (hlen : off + n ≤ vs.length) (hn : g = false → 0 < n)
    (hc : ∀ (j : Nat) v, vs[j]? = some v → w.cell? ⟨b, o' + j, none⟩ = some v) :
    (loadVar t ⟨b, o' + off, none⟩).run P w = .ok (if g then .agg ((vs.drop off).take n).toArray else vs.getD off undef) w := by
  obtain ⟨d, hd⟩ := Option.isSome_iff_exists.1 hu
  have hsl : ((vs.drop off).take n).length = n := by simp; omega
  cases g with
  | true =>
    have hlc := run_loadCells_list (P := P) w ⟨b, o' + off, none⟩ ((vs.drop off).take n) (fun j v hv => by
      rw [List.getElem?_take] at hv
      split at hv
      · rw [List.getElem?_drop] at hv
        rw [Addr.add_lit, Nat.add_assoc]
        exact hc _ _ hv
      · cases hv)
    rw [hsl] at hlc
    simp only [loadVar, Sem.run_bind, run_isAgg hd, hg, Result.andThen_ok, if_true, run_sizeOf hs, hlc, Sem.run_pure]
  | false =>
    have h1 : w.cell? ⟨b, o' + off, none⟩ = some (vs.getD off undef) := by
      have := hn rfl
      exact hc off _ (by rw [List.getD_eq_getElem?_getD, List.getElem?_eq_getElem (by omega)]; rfl)
    simp only [loadVar, Sem.run_bind, run_isAgg hd, hg, Result.andThen_ok, Bool.false_eq_true, if_false, run_load, h1]

theorem part_ok {cs : List (AV El)} {vs : List Value} (hl : VL C H ρ cs vs) {off n : Nat} {g : Bool} (hlen : off + n ≤ cs.length) (hn : g = false → 0 < n) :
    V C H ρ (part cs off n g) (if g then .agg ((vs.drop off).take n).toArray else vs.getD off undef) := by
  have hsz := hl.1
  cases g with
  | true =>
    simp only [part, if_true]
    exact VL.agg (by simpa using hl.take off n)
  | false =>
    have := hn rfl
    simp only [part, Bool.false_eq_true, if_false]
    rw [List.getD_eq_getElem?_getD, List.getD_eq_getElem?_getD, List.getElem?_eq_getElem (by omega), List.getElem?_eq_getElem (by omega)]
    exact hl.2 off _ _ (List.getElem?_eq_getElem (by omega)) (List.getElem?_eq_getElem (by omega))

theorem Rw.entry (_q : Rw C base H ρ h w) {id : Nat} {e : HE El} (hg : h.getD id .free = e) (hne : e ≠ .free) : h[id]? = some e := by
  rw [List.getD_eq_getElem?_getD] at hg
  cases e' : h[id]? with
  | none => rw [e'] at hg; exact absurd hg.symm hne
  | some x => rw [e'] at hg; simp only [Option.getD_some] at hg; rw [hg]

/-- A block's cells, as they stand. -/
theorem Rw.cells (q : Rw C base H ρ h w) {id : Nat} {cs : List (AV El)} (hg : h.getD id .free = .blk cs) :
    ∃ b arr ty fz, ρ id = .blk b cs.length ∧ w.heap[b]? = some (.cells arr ty fz) ∧ arr.size = cs.length ∧ noFz arr fz ∧ VL C H ρ cs arr.toList := by
  obtain ⟨b, arr, ty, fz, h1, h2, h3, h4, h5⟩ := q.ent id _ (q.entry hg (by intro hc; cases hc))
  exact ⟨b, arr, ty, fz, h1, h2, h3, h4, by simpa using h3.symm, fun i x y hx hy => h5 i x y hx (by simpa using hy)⟩

theorem Rw.ints (q : Rw C base H ρ h w) {id : Nat} {kk : IntKind} {l : List Int} (hg : h.getD id .free = .arr kk l) :
    ∃ b arr ty fz, ρ id = .blk b (l.map (AV.int (El := El) kk)).length ∧ w.heap[b]? = some (.cells arr ty fz) ∧ arr.size = (l.map (AV.int (El := El) kk)).length ∧ noFz arr fz ∧ VL C H ρ (l.map (AV.int kk)) arr.toList := by
  obtain ⟨b, arr, ty, fz, h1, h2, h3, h4, h5⟩ := arr_blk.1 (q.ent id _ (q.entry hg (by intro hc; cases hc)))
  exact ⟨b, arr, ty, fz, h1, h2, h3, h4, by simpa using h3.symm, fun i x y hx hy => h5 i x y hx (by simpa using hy)⟩

theorem Rw.bytes (q : Rw C base H ρ h w) {id : Nat} {s : List UInt8} (hg : h.getD id .free = .mb s) :
    ∃ b arr ty fz, ρ id = .blk b s.length ∧ w.heap[b]? = some (.cells arr ty fz) ∧ s.length ≤ arr.size ∧ noFz arr fz ∧ ∀ (i : Nat) x, s[i]? = some x → arr[i]? = some (.int .u8 x.toNat) :=
  q.ent id _ (q.entry hg (by intro hc; cases hc))

theorem TOk.pos {t : TypeId} {ti : TI El} (ht : TOk P C t ti) (hg : ti.ty.agg = false) : 0 < ti.size := by
  obtain ⟨i, z, _, _, hv, _, hz⟩ := ht.zero
  have := (hv ⟨fun _ _ => none, fun _ => none⟩ ρ0).1
  rw [hz hg] at this
  simp at this
  rw [← ht.len]; omega

/-- What a slice's element has in its cells. -/
theorem elemL {c : Nat} {y : El c} {vs : Nat → Value} (hv2 : ∀ (j : Nat) a, (C.lay.cells c y)[j]? = some a → V C H ρ0 a (vs j)) : VL C H ρ (C.lay.cells c y) ((List.range (C.lay.cells c y).length).map vs) := by
  have hz0 : ∀ i, ρ0 i ≠ .none → ρ i = ρ0 i ∨ (∃ b lo hi, ρ0 i = .tok b lo hi) ∧ ρ i = .dead := fun i hi => absurd rfl hi
  refine ⟨by simp, fun i u v hu hv' => ?_⟩
  have hi : i < (C.lay.cells c y).length := by
    rcases Nat.lt_or_ge i (C.lay.cells c y).length with h' | h'
    · exact h'
    · rw [List.getElem?_eq_none h'] at hu; cases hu
  simp only [List.getElem?_map, List.getElem?_range hi, Option.map_some, Option.some.injEq] at hv'
  subst hv'
  exact (hv2 i u hu).ext ⟨fun _ _ _ h => h, fun _ _ h => h, hz0⟩

theorem inR_u8 (x : UInt8) : inR .u8 (x.toNat : Int) = true := by
  rw [inR_iff]
  have := x.toNat_lt
  simp [IntKind.min, IntKind.max, IntKind.bits, IntKind.signed]
  omega

theorem go_load (hT : TTOk P C) (hS : VL C H ρ sl a.tmps.toList) (q : Rw C base H ρ h w) {t : TypeId} {x : Operand} (ho : o.op = .load t x) (hp : perform (execA C h sl o) h nb k = some r) : Goes P o a w (Post C base H ρ w k r) := by
  simp only [execA, ho, loadA] at hp
  split at hp
  · simp [perform] at hp
  · rename_i ti hti
    have ht := hT _ _ hti
    have hv := opd_ok hS x
    have hrun : ∀ ad u, a.eval x = .pointer (some ad) → (loadVar t ad).run P w = .ok u w → (execOp a.eval o).run P w = .ok (.value u) w := by
      intro ad u he hl
      simp [execOp, ho, Instr.loadAt, he, Instr.sureAddr, hl]
    split at hp
    · rename_i id off hop
      rw [hop] at hv
      cases hia : isArr (h.getD id .free) with
      | true =>
        rw [hia] at hp
        simp only [cond_true] at hp
        cases hn : Nat.beq ti.size 1 && !ti.ty.agg with
        | false => rw [hn] at hp; cases hp
        | true =>
          rw [hn] at hp
          simp only [Bool.and_eq_true, Bool.not_eq_true'] at hn
          have h1' : ti.size = 1 := Nat.eq_of_beq_eq_true hn.1
          simp only [cond_true, loadArr, bif_ble, bif_blt, perform, isFree, if_true] at hp
          split at hp
          case h_2 => cases hp
          rename_i kk l hes
          simp only [List.map_cons, List.map_nil, List.cons.injEq, and_true] at hes
          have hcs := hes
          split at hp
          · rename_i hlt
            obtain ⟨b, arr, ty, fz, h1, h2, h3, h4, h5⟩ := q.ints hcs
            obtain ⟨b', n', hb', he⟩ : ∃ b' n', ρ id = .blk b' n' ∧ a.eval x = .pointer (some ⟨b', off, none⟩) := by
              generalize a.eval x = vx at hv
              cases hv with
              | ptr _ _ _ b' n' hb' => exact ⟨b', n', hb', rfl⟩
            rw [h1] at hb'; cases hb'
            have hlen : off + ti.size ≤ (l.map (AV.int (El := El) kk)).length := by rw [List.length_map]; omega
            have hc := run_loadVar (P := P) (w := w) ht.size ht.agg ht.und b 0 off arr.toList (by simp; omega) ht.pos (fun j v hj => by simpa [World.cell?, h2] using hj)
            rw [Nat.zero_add] at hc
            have hpt : part (l.map (AV.int (El := El) kk)) off ti.size ti.ty.agg = .int kk (l.getD off 0) := by
              rw [hn.2]
              simp [part, List.getD_eq_getElem?_getD, List.getElem?_eq_getElem hlt]
            have hvp := part_ok h5 hlen ht.pos
            rw [hpt] at hvp
            exact goes_value (hrun _ _ he hc) (.now q hp hvp)
          · cases hp
      | false =>
      rw [hia] at hp
      simp only [cond_false] at hp
      simp only [bif_ble, bif_blt, perform] at hp
      split at hp
      · rename_i cs hcs
        split at hp
        · rename_i hlen
          obtain ⟨b, arr, ty, fz, h1, h2, h3, h4, h5⟩ := q.cells hcs
          obtain ⟨b', n', hb', he⟩ : ∃ b' n', ρ id = .blk b' n' ∧ a.eval x = .pointer (some ⟨b', off, none⟩) := by
            generalize a.eval x = vx at hv
            cases hv with
            | ptr _ _ _ b' n' hb' => exact ⟨b', n', hb', rfl⟩
          rw [h1] at hb'; cases hb'
          have hc := run_loadVar (P := P) (w := w) ht.size ht.agg ht.und b 0 off arr.toList (by simp; omega) ht.pos (fun j v hj => by simpa [World.cell?, h2] using hj)
          rw [Nat.zero_add] at hc
          rw [partX_eq hlen] at hp
          exact goes_value (hrun _ _ he hc) (.now q hp (part_ok h5 hlen ht.pos))
        · cases hp
      · cases hp
    · rename_i c y off hop
      rw [hop] at hv
      split at hp
      · rename_i hlen
        obtain ⟨b, o', vs, he, hv1, hv2⟩ : ∃ (b o' : Nat) (vs : Nat → Value), a.eval x = .pointer (some ⟨b, o' + off, none⟩) ∧ (∀ (j : Nat) a, (C.lay.cells c y)[j]? = some a → H.cell b (o' + j) = some (vs j)) ∧ (∀ (j : Nat) a, (C.lay.cells c y)[j]? = some a → V C H ρ0 a (vs j)) := by
          generalize a.eval x = vx at hv
          cases hv with
          | rptr _ _ _ _ b o' vs h1 h2 => exact ⟨b, o', vs, rfl, h1, h2⟩
        have hl : VL C H ρ (C.lay.cells c y) ((List.range (C.lay.cells c y).length).map vs) := elemL hv2
        have hc := run_loadVar (P := P) (w := w) ht.size ht.agg ht.und b o' off ((List.range (C.lay.cells c y).length).map vs) (by simp; omega) ht.pos (fun j v hj => by
          have hi : j < (C.lay.cells c y).length := by
            rcases Nat.lt_or_ge j (C.lay.cells c y).length with h' | h'
            · exact h'
            · rw [List.getElem?_eq_none (by simpa using h')] at hj; cases hj
          simp only [List.getElem?_map, List.getElem?_range hi, Option.map_some, Option.some.injEq] at hj
          subst hj
          exact q.ro _ _ _ (hv1 j _ (List.getElem?_eq_getElem hi)))
        exact goes_value (hrun _ _ he hc) (.now q hp (part_ok hl hlen ht.pos))
      · simp [perform] at hp
    · rename_i id i hop
      rw [hop] at hv
      have hty := ht.ty
      split at hp
      · rename_i hk
        rw [hk] at hty
        simp only [bif_ble, bif_blt, perform, isFree, if_true] at hp
        split at hp
        · rename_i s hes
          simp only [List.map_cons, List.map_nil, List.cons.injEq, and_true] at hes
          obtain ⟨b, arr, ty, fz, h1, h2, h3, h4, h5⟩ := q.bytes hes
          obtain ⟨b', n', hb', hi, he⟩ : ∃ b' n', ρ id = .blk b' n' ∧ i < n' ∧ a.eval x = .pointer (some ⟨b', i, none⟩) := by
            generalize a.eval x = vx at hv
            cases hv with
            | mbp _ _ _ b' n' hb' hi => exact ⟨b', n', hb', hi, rfl⟩
          rw [h1] at hb'; cases hb'
          have hx := h5 i s[i] (List.getElem?_eq_getElem hi)
          have hagg : aggP P t = false := by rw [ht.agg, hk]; rfl
          obtain ⟨d, hd⟩ := Option.isSome_iff_exists.1 ht.und
          have hc : (loadVar t ⟨b, i, none⟩).run P w = .ok (.int .u8 s[i].toNat) w := by
            simp only [loadVar, Sem.run_bind, run_isAgg hd, hagg, Result.andThen_ok, Bool.false_eq_true, if_false, run_load, World.cell?, h2, hx, Option.isSome_none]
          refine goes_value (hrun _ _ he hc) (.now q hp ?_)
          rw [List.getD_eq_getElem?_getD, List.getElem?_eq_getElem hi]
          exact .int _ _ _ (inR_u8 _)
        · cases hp
      · simp [perform] at hp
    · simp [perform] at hp
end
end Go.Ev

/- The operations on memory are the model's, on. Own work. -/
namespace Go.Ev
variable {El : Nat → Type}

section
variable {P : Program} {C : Cx El} {base : Nat} {H : RO} {ρ : Nat → RE} {h : List (HE El)} {w : World} {a : Go.Act} {o : Oper} {R : Type} {k : AV El → List (HE El) → Option R} {r : R} {nb : Nat} {sl : List (AV El)}

theorem getElem?_setL : ∀ (vs : List (AV El)) (cs : List (AV El)) (off i : Nat), off + vs.length ≤ cs.length → (setL cs off vs)[i]? = if off ≤ i ∧ i < off + vs.length then vs[i - off]? else cs[i]?
  | [], cs, off, i, _ => by
    simp only [setL, List.length_nil, Nat.add_zero]
    rw [if_neg (by omega)]
  | v :: vs, cs, off, i, hl => by
    simp only [List.length_cons] at hl
    simp only [setL]
    rw [getElem?_setL vs (cs.set off v) (off + 1) i (by simp; omega)]
    simp only [List.length_cons]
    by_cases h1 : off = i
    · subst h1
      rw [if_neg (by omega), if_pos (by omega), List.getElem?_set_self (by omega)]
      simp
    · by_cases h2 : off + 1 ≤ i ∧ i < off + 1 + vs.length
      · rw [if_pos h2, if_pos (by omega), show i - off = (i - (off + 1)) + 1 by omega]
        simp
      · rw [if_neg h2, if_neg (by omega), List.getElem?_set_ne h1]

theorem length_setL : ∀ (vs cs : List (AV El)) (off : Nat), (setL cs off vs).length = cs.length
  | [], _, _ => rfl
  | v :: vs, cs, off => by simp [setL, length_setL vs]

theorem go_store (hT : TTOk P C) (hS : VL C H ρ sl a.tmps.toList) (q : Rw C base H ρ h w) {t : TypeId} {x y : Operand} (ho : o.op = .store t x y) (hp : perform (execA C h sl o) h nb k = some r) : Goes P o a w (Post C base H ρ w k r) := by
  simp only [execA, ho, storeA] at hp
  split at hp
  · simp [perform] at hp
  · rename_i ti hti
    have ht := hT _ _ hti
    have hv := opd_ok hS x
    split at hp
    · rename_i id off hop
      rw [hop] at hv
      split at hp
      · rename_i hc
        obtain ⟨hc1, hc2⟩ := hc
        have key : ∀ (cs : List (AV El)) (e : HE El), (∃ b arr ty fz, ρ id = .blk b cs.length ∧ w.heap[b]? = some (.cells arr ty fz) ∧ arr.size = cs.length ∧ noFz arr fz ∧ VL C H ρ cs arr.toList) → off + (co C t (opd sl y)).cells.length ≤ cs.length →
            (∀ w' r', EntOk C H ρ w' (.blk (setL cs off (co C t (opd sl y)).cells)) r' → EntOk C H ρ w' e r') → k undefA (h.set id e) = some r → Goes P o a w (Post C base H ρ w k r) := by
          intro cs e ⟨b, arr, ty, fz, h1, h2, h3, h4, h5⟩ hlen hE hp
          obtain ⟨b', n', hb', he⟩ : ∃ b' n', ρ id = .blk b' n' ∧ a.eval x = .pointer (some ⟨b', off, none⟩) := by
            generalize a.eval x = vx at hv
            cases hv with
            | ptr _ _ _ b' n' hb' => exact ⟨b', n', hb', rfl⟩
          rw [h1] at hb'; cases hb'
          have hw : V C H ρ (co C t (opd sl y)) (a.eval y) := co_ok (opd_ok hS y)
          have hwl := hw.cellsL hc2
          have hlv : (a.eval y).cells.toList.length = (co C t (opd sl y)).cells.length := hwl.1.symm
          have hst := run_storeCells_cells (P := P) b off (a.eval y).cells.toList 0 w
            (fun j hj => by
              simp only [Nat.add_zero, World.cell?, h2]
              rw [Array.getElem?_eq_getElem (by omega)]; rfl)
            (fun j hj => by
              simp only [Nat.add_zero, World.frozen?, h2]
              have := h4 (off + j) (by omega)
              simpa using this)
            (hwl.oneCells hc2)
          have hsz : (a.eval y).cells.size = ti.size := by rw [← hc1, ← hlv]; simp
          have hrun : (execOp a.eval o).run P w = .ok .skip (w.setCells b off (a.eval y).cells.toList) := by
            simp [execOp, ho, Instr.storeAt, he, Instr.sureAddr, storeVar, run_sizeOf ht.size, hsz, hst]
          obtain ⟨arr', k1, k2, k3, k4⟩ := heap_setCells b (a.eval y).cells.toList off w arr ty fz h2 (by omega)
          obtain ⟨r1, r2, r3, r4⟩ := setCells_rest b (a.eval y).cells.toList off w
          refine goes_skip hrun ⟨_, _, H, ρ, hp, step_mod q h1 e r1 r2 r3 r4 (fun k hk => heap_setCells_other b _ _ w k hk) (fun arr0 ty0 fz0 h0 => ?_) ?_, undefA_ok _ _ _⟩
          · rw [h2] at h0; cases h0; exact ⟨arr', k1, k2⟩
          · refine hE _ _ ⟨b, arr', ty, fz, by rw [length_setL], k1, by rw [length_setL]; omega, fun o ho => h4 o (by omega), fun i u v hu hv' => ?_⟩
            rw [getElem?_setL _ cs off i hlen] at hu
            split at hu
            · rename_i hi
              have hj : i - off < (a.eval y).cells.toList.length := by omega
              have := k4 (i - off) _ (List.getElem?_eq_getElem hj)
              rw [show off + (i - off) = i by omega, hv'] at this
              cases this
              exact hwl.2 (i - off) u _ hu (List.getElem?_eq_getElem hj)
            · rename_i hi
              rw [k3 i (by omega)] at hv'
              exact h5.2 i u v hu (by simpa using hv')
        cases hia : isArr (h.getD id .free) with
        | true =>
          rw [hia] at hp
          simp only [cond_true, storeArr] at hp
          split at hp
          case h_2 => simp [perform] at hp
          rename_i k' x hx
          simp only [bif_ble, bif_blt, perform, isFree, if_true] at hp
          split at hp
          case h_2 => cases hp
          rename_i kk l hes
          simp only [List.map_cons, List.map_nil, List.cons.injEq, and_true] at hes
          split at hp
          · rename_i e
            subst e
            split at hp
            · rename_i hlt
              simp only [Bool.false_eq_true, if_false, List.length_cons, List.length_nil, Nat.add_zero, if_true, putAt, List.drop, newAt] at hp
              refine key (l.map (AV.int k')) _ (q.ints hes) (by rw [hx, List.length_map]; show off + 1 ≤ _; omega) (fun w' r' h => ?_) hp
              rw [arr_blk, List.map_set]
              rw [hx] at h
              exact h
            · cases hp
          · cases hp
        | false =>
        rw [hia] at hp
        simp only [cond_false] at hp
        simp only [bif_ble, bif_blt, perform] at hp
        split at hp
        · rename_i cs hcs
          split at hp
          · rename_i hlen
            exact key cs _ (q.cells hcs) hlen (fun _ _ h => h) hp
          · cases hp
        · cases hp
      · simp [perform] at hp
    · rename_i id i hop
      rw [hop] at hv
      split at hp
      · rename_i n hy
        have hwy := opd_ok hS y
        rw [hy] at hwy
        split at hp
        case isFalse => simp [perform] at hp
        rename_i hone
        simp only [bif_ble, bif_blt, perform, isFree, if_true] at hp
        split at hp
        · rename_i s hes
          simp only [List.map_cons, List.map_nil, List.cons.injEq, and_true] at hes
          simp only [List.length_cons, List.length_nil, Bool.false_eq_true, if_false, Nat.add_zero, if_true, putAt, List.drop, newAt] at hp
          obtain ⟨b, arr, ty, fz, h1, h2, h3, h4, h5⟩ := q.bytes hes
          obtain ⟨b', n', hb', hi, he⟩ : ∃ b' n', ρ id = .blk b' n' ∧ i < n' ∧ a.eval x = .pointer (some ⟨b', i, none⟩) := by
            generalize a.eval x = vx at hv
            cases hv with
            | mbp _ _ _ b' n' hb' hi => exact ⟨b', n', hb', hi, rfl⟩
          rw [h1] at hb'; cases hb'
          obtain ⟨hey, hin⟩ : a.eval y = .int .u8 n ∧ inR .u8 n = true := by
            generalize a.eval y = vy at hwy
            cases hwy with
            | int _ _ _ hin => exact ⟨rfl, hin⟩
          have hn0 : 0 ≤ n ∧ n ≤ 255 := by
            rw [inR_iff] at hin
            simp [IntKind.min, IntKind.max, IntKind.bits, IntKind.signed] at hin
            omega
          have hst := run_storeCells_cells (P := P) b i [Value.int .u8 n] 0 w
            (fun j hj => by
              simp only [List.length_cons, List.length_nil] at hj
              simp only [Nat.add_zero, World.cell?, h2]
              rw [Array.getElem?_eq_getElem (by omega)]; rfl)
            (fun j hj => by
              simp only [List.length_cons, List.length_nil] at hj
              simp only [Nat.add_zero, World.frozen?, h2]
              have := h4 (i + j) (by omega)
              simpa using this)
            (by simp [Value.oneCell'])
          have hrun : (execOp a.eval o).run P w = .ok .skip (w.setCells b i [Value.int .u8 n]) := by
            simp only [Nat.add_zero] at hst
            simp [execOp, ho, Instr.storeAt, he, Instr.sureAddr, storeVar, run_sizeOf ht.size, hone, hey, Value.cells, hst]
          obtain ⟨arr', k1, k2, k3, k4⟩ := heap_setCells b [Value.int .u8 n] i w arr ty fz h2 (by simp; omega)
          obtain ⟨r1, r2, r3, r4⟩ := setCells_rest b [Value.int .u8 n] i w
          have hlen : (s.set i (UInt8.ofNat n.toNat)).length = s.length := by simp
          refine goes_skip hrun ⟨_, _, H, ρ, hp, step_mod q h1 (.mb (s.set i (UInt8.ofNat n.toNat))) r1 r2 r3 r4 (fun k hk => heap_setCells_other b _ _ w k hk) (fun arr0 ty0 fz0 h0 => ?_) ?_, undefA_ok _ _ _⟩
          · rw [h2] at h0; cases h0; exact ⟨arr', k1, k2⟩
          · refine ⟨b, arr', ty, fz, by rw [hlen], k1, by rw [hlen]; omega, fun o ho => h4 o (by omega), fun j x hx => ?_⟩
            rw [List.getElem?_set] at hx
            split at hx
            · rename_i hij
              subst hij
              cases hx
              have := k4 0 _ rfl
              rw [Nat.add_zero] at this
              rw [this]
              have : (UInt8.ofNat n.toNat).toNat = n.toNat := by
                rw [UInt8.toNat_ofNat']; omega
              rw [this]
              congr 2
              omega
            · rename_i hij
              rw [k3 j (by simp; omega)]
              exact h5 j x hx
        · cases hp
      · simp [perform] at hp
    · simp [perform] at hp

theorem addr_add (b o n : Nat) : (⟨b, o, none⟩ : Addr).add n = ⟨b, o + n, none⟩ := by
  unfold Addr.add
  split
  · subst_vars; rfl
  · rfl

theorem go_fieldAddr (hT : TTOk P C) (hS : VL C H ρ sl a.tmps.toList) (q : Rw C base H ρ h w) {t : TypeId} {x : Operand} {f : Nat} (ho : o.op = .fieldAddr t x f) (hp : perform (execA C h sl o) h nb k = some r) : Goes P o a w (Post C base H ρ w k r) := by
  simp only [execA, ho, fieldAddrA] at hp
  split at hp
  · rename_i ti hti
    have ht := hT _ _ hti
    have hty := ht.ty
    have hv := opd_ok hS x
    split at hp
    · rename_i fs hfs
      rw [hfs] at hty
      obtain ⟨fields, hu, hsz, hf⟩ := hty
      have key : ∀ off size g b o', fs[f]? = some (off, size, g) → size ≠ 0 → a.eval x = .pointer (some ⟨b, o', none⟩) → (execOp a.eval o).run P w = .ok (.value (.pointer (some ⟨b, o' + off, none⟩))) w := by
        intro off size g b o' hfx hs he
        have hlt : f < fields.size := by
          rw [hsz]
          rcases Nat.lt_or_ge f fs.length with h' | h'
          · exact h'
          · rw [List.getElem?_eq_none h'] at hfx; cases hfx
        obtain ⟨e1, e2, e3, e4, e5⟩ := hf f fields[f] _ (Array.getElem?_eq_getElem hlt) hfx
        simp only at e1 e2
        simp [execOp, ho, Instr.fieldAt, run_underlying hu, Array.getElem?_eq_getElem hlt, he, Instr.sureAddr, fieldPlace, run_sizeOf e2, hs, e1, addr_add]
      split at hp
      · rename_i off size g id o' hfx hop
        split at hp
        · simp [perform] at hp
        · rename_i hs
          rw [hop] at hv
          obtain ⟨b', n', hb', he⟩ : ∃ b' n', ρ id = .blk b' n' ∧ a.eval x = .pointer (some ⟨b', o', none⟩) := by
            generalize a.eval x = vx at hv
            cases hv with
            | ptr _ _ _ b' n' hb' => exact ⟨b', n', hb', rfl⟩
          exact goes_value (key off size g b' o' hfx hs he) (.now q hp (.ptr _ _ _ _ _ hb'))
      · rename_i off size g c y o' hfx hop
        split at hp
        · simp [perform] at hp
        · rename_i hs
          rw [hop] at hv
          obtain ⟨b, o1, vs, he, hv1, hv2⟩ : ∃ (b o1 : Nat) (vs : Nat → Value), a.eval x = .pointer (some ⟨b, o1 + o', none⟩) ∧ (∀ (j : Nat) a, (C.lay.cells c y)[j]? = some a → H.cell b (o1 + j) = some (vs j)) ∧ (∀ (j : Nat) a, (C.lay.cells c y)[j]? = some a → V C H ρ0 a (vs j)) := by
            generalize a.eval x = vx at hv
            cases hv with
            | rptr _ _ _ _ b o1 vs h1 h2 => exact ⟨b, o1, vs, rfl, h1, h2⟩
          refine goes_value (key off size g b _ hfx hs he) (.now q hp ?_)
          rw [Nat.add_assoc]
          exact .rptr _ _ _ _ _ _ vs hv1 hv2
      · simp [perform] at hp
    · simp [perform] at hp
  · simp [perform] at hp

theorem run_part {t : TypeId} {n : Nat} {g : Bool} (hs : sizeP P t = some n) (hg : aggP P t = g) (hu : (P.underlying t).isSome = true) (cs : Array Value) (off : Nat) (hlen : off + n ≤ cs.size) (hn : g = false → 0 < n) :
    (Go.part t cs off).run P w = .ok (if g then .agg ((cs.toList.drop off).take n).toArray else cs.toList.getD off undef) w := by
  obtain ⟨d, hd⟩ := Option.isSome_iff_exists.1 hu
  cases g with
  | true =>
    have e : cs.extract off (off + n) = ((cs.toList.drop off).take n).toArray := by
      apply Array.ext'
      simp [List.take_drop, Nat.add_comm]
    simp only [Go.part, Sem.run_bind, run_isAgg hd, hg, Result.andThen_ok, if_true, run_sizeOf hs, Sem.run_pure, e]
  | false =>
    have := hn rfl
    simp only [Go.part, Sem.run_bind, run_isAgg hd, hg, Result.andThen_ok, Bool.false_eq_true, if_false]
    rw [List.getD_eq_getElem?_getD, Array.getElem?_toList, Array.getElem?_eq_getElem (by omega)]
    rfl

theorem go_field (hT : TTOk P C) (hS : VL C H ρ sl a.tmps.toList) (q : Rw C base H ρ h w) {t : TypeId} {x : Operand} {f : Nat} (ho : o.op = .field t x f) (hp : perform (execA C h sl o) h nb k = some r) : Goes P o a w (Post C base H ρ w k r) := by
  simp only [execA, ho, fieldA] at hp
  split at hp
  · rename_i ti hti
    have ht := hT _ _ hti
    have hty := ht.ty
    have hv := opd_ok hS x
    split at hp
    · rename_i fs hfs
      rw [hfs] at hty
      obtain ⟨fields, hu, hsz, hf⟩ := hty
      split at hp
      · rename_i off size g cs hfx hop
        split at hp
        · rename_i hlen
          rw [hop] at hv
          obtain ⟨vs, he, hl⟩ := hv.aggL
          have hlt : f < fields.size := by
            rw [hsz]
            rcases Nat.lt_or_ge f fs.length with h' | h'
            · exact h'
            · rw [List.getElem?_eq_none h'] at hfx; cases hfx
          obtain ⟨e1, e2, e3, e4, e5⟩ := hf f fields[f] _ (Array.getElem?_eq_getElem hlt) hfx
          simp only at e1 e2 e3 e5
          have hl1 : cs.length = vs.size := by simpa using hl.1
          have hpos : g = false → 0 < size := fun hg => by rw [e5 hg]; omega
          have hr := run_part (P := P) (w := w) e2 e3 e4 vs off (by omega) hpos
          refine goes_value (w' := w) ?_ (.now q hp (part_ok hl hlen hpos))
          simp [execOp, ho, Instr.field, run_underlying hu, Array.getElem?_eq_getElem hlt, he, asAgg, e1, hr]
        · simp [perform] at hp
      · simp [perform] at hp
    · simp [perform] at hp
  · simp [perform] at hp

theorem inl_iff {i : Int} {n : Nat} : inl i n = true ↔ 0 ≤ i ∧ i < n := by simp [inl]

theorem V.intE {kk : IntKind} {n : Int} {v : Value} (hv : V C H ρ (.int kk n) v) : v = .int kk n ∧ inR kk n = true := by
  cases hv with
  | int _ _ _ h => exact ⟨rfl, h⟩

theorem go_indexAddr (hT : TTOk P C) (hS : VL C H ρ sl a.tmps.toList) (q : Rw C base H ρ h w) {t : TypeId} {x y : Operand} (ho : o.op = .indexAddr t x y) (hp : perform (execA C h sl o) h nb k = some r) : Goes P o a w (Post C base H ρ w k r) := by
  simp only [execA, ho, indexAddrA] at hp
  have hx := opd_ok hS x
  have hy := opd_ok hS y
  split at hp
  case h_2 => simp [perform] at hp
  rename_i kk i hyo
  rw [hyo] at hy
  obtain ⟨hey, _⟩ := hy.intE
  split at hp
  · rename_i f c l hxo
    rw [hxo] at hx
    split at hp
    case h_2 => simp [perform] at hp
    rename_i ti hti
    have hty := (hT _ _ hti).ty
    split at hp
    case h_2 => simp [perform] at hp
    rename_i c' hc'
    rw [hc'] at hty
    obtain ⟨hu, ie, z, hi1, hi2, hi3, _⟩ := hty
    split at hp
    case isFalse => simp [perform] at hp
    rename_i hcc
    subst hcc
    obtain ⟨hb, hk⟩ := perform_chk hp
    rw [inl_iff] at hb
    obtain ⟨n, rfl⟩ : ∃ n : Nat, i = n := ⟨i.toNat, by omega⟩
    have hn : n < l.length := by omega
    simp only [Int.toNat_natCast] at hk
    rw [List.getD_eq_getElem?_getD, List.getElem?_eq_getElem hn] at hk
    simp only [Option.getD_some] at hk
    generalize hv : a.eval x = vx at hx
    cases hx with
    | listN => simp at hn
    | list _ _ _ _ b o' cap vs hf hc h1 h2 =>
      have hrun : (execOp a.eval o).run P w = .ok (.value (.pointer (some ⟨b, o' + n * C.lay.w c', none⟩))) w := by
        simp [execOp, ho, Instr.indexAt, hv, hey, asIntOf, run_underlying hu, Nat.not_le.2 hn, sizeOf, typeInfo, hi1, hi2, addr_add]
      refine goes_value hrun (.now q hk ?_)
      have := V.rptr (C := C) (H := H) ρ c' l[n] 0 b (o' + n * C.lay.w c') (vs n) (fun j a ha => h1 n _ j a (List.getElem?_eq_getElem hn) ha) (fun j a ha => h2 n _ j a (List.getElem?_eq_getElem hn) ha)
      simpa using this
  · rename_i id hxo
    rw [hxo] at hx
    split at hp
    case h_2 => simp [perform] at hp
    rename_i ti hti
    have hty := (hT _ _ hti).ty
    split at hp
    case h_2 => simp [perform] at hp
    rename_i hc'
    rw [hc'] at hty
    obtain ⟨e, ie, hu, _, hi1, hi2, _⟩ := hty
    simp only [bif_ble, bif_blt, perform, isFree, if_true] at hp
    split at hp
    case h_2 => cases hp
    rename_i s hes
    simp only [List.map_cons, List.map_nil, List.cons.injEq, and_true] at hes
    obtain ⟨b, arr, ty, fz, h1, h2, h3, h4, h5⟩ := q.bytes hes
    obtain ⟨hb, hp⟩ := cond_some hp
    rw [inl_iff] at hb
    obtain ⟨n, rfl⟩ : ∃ n : Nat, i = n := ⟨i.toNat, by omega⟩
    generalize hv : a.eval x = vx at hx
    cases hx with
    | mbs _ _ b' n' cap hb' hc =>
      rw [h1] at hb'; cases hb'
      have hrun : (execOp a.eval o).run P w = .ok (.value (.pointer (some ⟨b, n, none⟩))) w := by
        simp [execOp, ho, Instr.indexAt, hv, hey, asIntOf, run_underlying hu, Nat.not_le.2 (Int.ofNat_lt.1 hb.2), sizeOf, typeInfo, hi1, hi2, addr_add]
      exact goes_value hrun (.now q hp (.mbp _ _ _ _ _ h1 (by simpa using hb.2)))
  · rename_i id off n' hxo
    rw [hxo] at hx
    split at hp
    case h_2 => simp [perform] at hp
    rename_i ti hti
    have hty := (hT _ _ hti).ty
    split at hp
    case h_2 => simp [perform] at hp
    rename_i c' hc'
    rw [hc'] at hty
    obtain ⟨hu, ie, z, hi1, hi2, hi3, _⟩ := hty
    split at hp
    case h_2 => simp [perform] at hp
    rename_i ei hei
    obtain ⟨hb, hk⟩ := perform_chk hp
    rw [inl_iff] at hb
    obtain ⟨n, rfl⟩ : ∃ n : Nat, i = n := ⟨i.toNat, by omega⟩
    have hes := (hT _ _ hei).size
    simp only [sizeP, hi1, Option.map_some, Option.some.injEq] at hes
    generalize hv : a.eval x = vx at hx
    cases hx with
    | hsl _ _ _ _ b nn cap hb' hc =>
      have hrun : (execOp a.eval o).run P w = .ok (.value (.pointer (some ⟨b, off + n * ei.size, none⟩))) w := by
        simp [execOp, ho, Instr.indexAt, hv, hey, asIntOf, run_underlying hu, Nat.not_le.2 (Int.ofNat_lt.1 hb.2), sizeOf, typeInfo, hi1, hes, addr_add]
      exact goes_value hrun (.now q hk (.ptr _ _ _ _ _ hb'))
  · rename_i id off hxo
    rw [hxo] at hx
    split at hp
    case h_2 => simp [perform] at hp
    rename_i ti hti
    have hty := (hT _ _ hti).ty
    split at hp
    case h_2 => simp [perform] at hp
    rename_i n' w' g' hc'
    rw [hc'] at hty
    obtain ⟨e, hu, hes, _⟩ := hty
    obtain ⟨hb, hk⟩ := perform_chk hp
    rw [inl_iff] at hb
    obtain ⟨n, rfl⟩ : ∃ n : Nat, i = n := ⟨i.toNat, by omega⟩
    generalize hv : a.eval x = vx at hx
    cases hx with
    | ptr _ _ _ b nn hb' =>
      have hrun : (execOp a.eval o).run P w = .ok (.value (.pointer (some ⟨b, off + n * w', none⟩))) w := by
        simp [execOp, ho, Instr.indexAt, hv, hey, asIntOf, run_underlying hu, Nat.not_le.2 (Int.ofNat_lt.1 hb.2), run_sizeOf hes, addr_add, Instr.sureAddr]
      exact goes_value hrun (.now q hk (.ptr _ _ _ _ _ hb'))
  · simp [perform] at hp

theorem go_index (hT : TTOk P C) (hS : VL C H ρ sl a.tmps.toList) (q : Rw C base H ρ h w) {t : TypeId} {x y : Operand} (ho : o.op = .index t x y) (hp : perform (execA C h sl o) h nb k = some r) : Goes P o a w (Post C base H ρ w k r) := by
  simp only [execA, ho, indexA] at hp
  have hx := opd_ok hS x
  have hy := opd_ok hS y
  split at hp
  case h_2 => simp [perform] at hp
  rename_i kk i hyo
  rw [hyo] at hy
  obtain ⟨hey, _⟩ := hy.intE
  split at hp
  · rename_i s hxo
    rw [hxo] at hx
    split at hp
    case h_2 => simp [perform] at hp
    rename_i ti hti
    have hty := (hT _ _ hti).ty
    split at hp
    case h_2 => simp [perform] at hp
    rename_i hstr
    rw [hstr] at hty
    have hu : P.underlying t = some .string := hty
    obtain ⟨hb, hk⟩ := perform_chk hp
    rw [inl_iff] at hb
    obtain ⟨n, rfl⟩ : ∃ n : Nat, i = n := ⟨i.toNat, by omega⟩
    have hn : n < s.length := by omega
    simp only [Int.toNat_natCast] at hk
    rw [List.getD_eq_getElem?_getD, List.getElem?_eq_getElem hn] at hk
    simp only [Option.getD_some] at hk
    generalize hv : a.eval x = vx at hx
    cases hx with
    | str _ bs hbs =>
      have hn' : n < bs.size := hn
      have hg : bs[n]? = some bs.data.toList[n] := by
        rw [getElem?_pos bs n hn']; rfl
      have hrun : (execOp a.eval o).run P w = .ok (.value (.int .u8 bs.data.toList[n].toNat)) w := by
        simp [execOp, ho, Instr.index, hv, hey, asIntOf, run_underlying hu, hg]
      exact goes_value hrun (.now q hk (.int _ _ _ (inR_u8 _)))
  · rename_i cs hxo
    rw [hxo] at hx
    split at hp
    case h_2 => simp [perform] at hp
    rename_i ti hti
    have hty := (hT _ _ hti).ty
    split at hp
    case h_2 => simp [perform] at hp
    rename_i n' w' g' hc'
    rw [hc'] at hty
    obtain ⟨e, hu, hes, hea, heu, heg⟩ := hty
    split at hp
    case isFalse => simp [perform] at hp
    rename_i hlen
    obtain ⟨hb, hk⟩ := perform_chk hp
    rw [inl_iff] at hb
    obtain ⟨n, rfl⟩ : ∃ n : Nat, i = n := ⟨i.toNat, by omega⟩
    simp only [Int.toNat_natCast] at hk
    obtain ⟨vs, he, hl⟩ := hx.aggL
    have hl1 : cs.length = vs.size := by simpa using hl.1
    have hle : n * w' + w' ≤ cs.length := by
      have : (n + 1) * w' ≤ n' * w' := Nat.mul_le_mul_right _ (by omega)
      rw [Nat.add_mul, Nat.one_mul] at this
      omega
    have hpos : g' = false → 0 < w' := fun hg => by rw [heg hg]; omega
    have hr := run_part (P := P) (w := w) hes hea heu vs (n * w') (by omega) hpos
    have hrun : (execOp a.eval o).run P w = .ok (.value (if g' then .agg ((vs.toList.drop (n * w')).take w').toArray else vs.toList.getD (n * w') undef)) w := by
      simp [execOp, ho, Instr.index, he, hey, asIntOf, run_underlying hu, Nat.not_le.2 (Int.ofNat_lt.1 hb.2), run_sizeOf hes, hr]
    exact goes_value hrun (.now q hk (part_ok hl hle hpos))
  · simp [perform] at hp
end
end Go.Ev

/- The operations on memory are the model's, on. Own work. -/
namespace Go.Ev
variable {El : Nat → Type}

section
variable {P : Program} {C : Cx El} {base : Nat} {H : RO} {ρ : Nat → RE} {h : List (HE El)} {w : World} {a : Go.Act} {o : Oper} {R : Type} {k : AV El → List (HE El) → Option R} {r : R} {nb : Nat} {sl : List (AV El)}

theorem go_move (hS : VL C H ρ sl a.tmps.toList) (q : Rw C base H ρ h w) {x : Operand} (ho : o.op = .move x ∨ o.op = .assign x) (hp : perform (execA C h sl o) h nb k = some r) : Goes P o a w (Post C base H ρ w k r) := by
  have hv : V C H ρ (co C o.type (opd sl x)) (a.eval x) := co_ok (opd_ok hS x)
  rcases ho with ho | ho
  · simp only [execA, ho, perform] at hp
    exact goes_value (by simp [execOp, ho]) (.now q hp hv)
  · simp only [execA, ho, perform] at hp
    exact goes_value (by simp [execOp, ho]) (.now q hp hv)

theorem V.boolE {b : Bool} {v : Value} (hv : V C H ρ (.bool b) v) : v = .bool b := by
  cases hv; rfl

theorem go_pick (hS : VL C H ρ sl a.tmps.toList) (q : Rw C base H ρ h w) {c x y : Operand} (ho : o.op = .pick c x y) (hp : perform (execA C h sl o) h nb k = some r) : Goes P o a w (Post C base H ρ w k r) := by
  have hc := opd_ok hS c
  simp only [execA, ho] at hp
  split at hp
  · rename_i e
    rw [e] at hc
    simp only [bif_ble, bif_blt, perform] at hp
    exact goes_value (by simp [execOp, ho, hc.boolE, asBool]) (.now q hp (opd_ok hS x))
  · rename_i e
    rw [e] at hc
    simp only [bif_ble, bif_blt, perform] at hp
    exact goes_value (by simp [execOp, ho, hc.boolE, asBool]) (.now q hp (opd_ok hS y))
  · simp [perform] at hp

theorem go_nilCheck (hS : VL C H ρ sl a.tmps.toList) (q : Rw C base H ρ h w) {x : Operand} (ho : o.op = .nilCheck x) (hp : perform (execA C h sl o) h nb k = some r) : Goes P o a w (Post C base H ρ w k r) := by
  have hx := opd_ok hS x
  simp only [execA, ho] at hp
  split at hp
  · rename_i e
    rw [e] at hx
    simp only [bif_ble, bif_blt, perform] at hp
    refine goes_value (w' := w) ?_ (.now q hp hx)
    generalize hv : a.eval x = vx at hx
    cases hx
    simp [execOp, ho, hv]
  · rename_i e
    rw [e] at hx
    simp only [bif_ble, bif_blt, perform] at hp
    refine goes_value (w' := w) ?_ (.now q hp hx)
    generalize hv : a.eval x = vx at hx
    cases hx
    simp [execOp, ho, hv]
  · rename_i f as bs e
    rw [e] at hx
    split at hp
    · simp [perform] at hp
    · rename_i hf
      simp only [bif_ble, bif_blt, perform] at hp
      refine goes_value (w' := w) ?_ (.now q hp hx)
      generalize hv : a.eval x = vx at hx
      cases hx
      cases f with
      | method n => exact absurd rfl (hf n)
      | _ => simp [execOp, ho, hv]
  · simp [perform] at hp

theorem go_binOp (hT : TTOk P C) (hC : ∀ t ts, C.cmp t = some ts → CmpOk P t ts) (hS : VL C H ρ sl a.tmps.toList) (q : Rw C base H ρ h w) {op : BinOp} {t yt : TypeId} {x y : Operand} (ho : o.op = .binOp op t x y yt) (hp : perform (execA C h sl o) h nb k = some r) : Goes P o a w (Post C base H ρ w k r) := by
  simp only [execA, ho] at hp
  cases e : binA C t op (opd sl x) (opd sl y) with
  | none => rw [e] at hp; simp [ofChk, perform] at hp
  | some cz =>
    obtain ⟨c, z⟩ := cz
    rw [e] at hp
    obtain ⟨hc, hk⟩ := perform_chk hp
    obtain ⟨u, hr, hv⟩ := binA_ok hT hC e hc (opd_ok hS x) (opd_ok hS y) x y w
    refine goes_value (w' := w) ?_ (.now q hk hv)
    simp only [execOp, ho]
    simp only [Sem.run_bind] at hr ⊢
    rw [hr]
    rfl

theorem go_unOp (hS : VL C H ρ sl a.tmps.toList) (q : Rw C base H ρ h w) {op : UnOp} {t : TypeId} {x : Operand} (ho : o.op = .unOp op t x) (hp : perform (execA C h sl o) h nb k = some r) : Goes P o a w (Post C base H ρ w k r) := by
  simp only [execA, ho] at hp
  cases e : unA op (opd sl x) with
  | none => rw [e] at hp; simp [ofVal, perform] at hp
  | some z =>
    rw [e] at hp
    simp only [ofVal, perform] at hp
    obtain ⟨u, hr, hv⟩ := unA_ok (P := P) e (opd_ok hS x) w
    refine goes_value (w' := w) ?_ (.now q hp hv)
    simp only [execOp, ho, Sem.run_bind, hr, Result.andThen_ok, Sem.run_pure]

theorem VL.mapO (hS : VL C H ρ sl a.tmps.toList) (xs : List Operand) : VL C H ρ (xs.map (opd sl)) (xs.map a.eval) := by
  refine ⟨by simp, fun i u v hu hv => ?_⟩
  simp only [List.getElem?_map] at hu hv
  cases e : xs[i]? with
  | none => rw [e] at hu; cases hu
  | some x =>
    rw [e] at hu hv
    simp only [Option.map_some, Option.some.injEq] at hu hv
    subst hu; subst hv
    exact opd_ok hS x

theorem VL.fn {f : Fn} {as bs : List (AV El)} {us vs : Array Value} (h1 : VL C H ρ as us.toList) (h2 : VL C H ρ bs vs.toList) : V C H ρ (.fn f as bs) (.func f us vs) :=
  .fn _ _ _ _ _ _ (by simpa using h1.1) (by simpa using h2.1) (fun i x y hx hy => h1.2 i x y hx (by simpa using hy)) fun i x y hx hy => h2.2 i x y hx (by simpa using hy)

theorem go_makeFunc (hS : VL C H ρ sl a.tmps.toList) (q : Rw C base H ρ h w) {f : Fn} {as bs : Array Operand} (ho : o.op = .makeFunc f as bs) (hp : perform (execA C h sl o) h nb k = some r) : Goes P o a w (Post C base H ρ w k r) := by
  simp only [execA, ho, perform] at hp
  have h1 := VL.mapO hS as.toList
  have h2 := VL.mapO hS bs.toList
  refine goes_value (w' := w) (u := .func f (as.map a.eval) (bs.map a.eval)) ?_ (.now q hp (VL.fn (by simpa using h1) (by simpa using h2)))
  simp [execOp, ho, Instr.makeFunc]

theorem V.tupE {vs : List (AV El)} {v : Value} (hv : V C H ρ (.tup vs) v) : ∃ us : Array Value, v = .tuple us ∧ VL C H ρ vs us.toList := by
  cases hv with
  | tup _ _ us h1 h2 => exact ⟨us, rfl, by simpa using h1, fun i a v ha hv => h2 i a v ha (by simpa using hv)⟩

theorem go_extract (hS : VL C H ρ sl a.tmps.toList) (q : Rw C base H ρ h w) {x : Operand} {i : Nat} (ho : o.op = .extract x i) (hp : perform (execA C h sl o) h nb k = some r) : Goes P o a w (Post C base H ρ w k r) := by
  have hx := opd_ok hS x
  simp only [execA, ho] at hp
  split at hp
  · rename_i vs e
    rw [e] at hx
    split at hp
    · rename_i v hv
      simp only [bif_ble, bif_blt, perform] at hp
      obtain ⟨us, he, hl⟩ := hx.tupE
      obtain ⟨u, hu, hvu⟩ := hl.some i v hv
      refine goes_value (w' := w) ?_ (.now q hp hvu)
      simp [execOp, ho, he, Instr.extract, hu]
    · simp [perform] at hp
  · simp [perform] at hp

theorem lenA_ok {t : TypeId} {ti : TI El} (ht : TOk P C t ti) {x : AV El} {v : Value} {n : Int} (hx : V C H ρ x v) (e : lenA ti.ty x = some n) (ty : TypeId) : (Builtin.len_ #[t] ty #[v]).run P w = .ok (.int .i64 n) w ∧ inR .i64 n = true := by
  have hty := ht.ty
  have hr : ∀ m : Nat, m ≤ maxCat → inR .i64 (m : Int) = true := by
    intro m hm
    rw [inR_iff]
    unfold maxCat at hm
    simp [IntKind.min, IntKind.max, IntKind.bits, IntKind.signed]
    omega
  generalize ti.ty = ty' at e hty
  cases ty' with
  | str =>
    have hu : P.underlying t = some .string := hty
    cases x <;> simp [lenA] at e
    subst e
    cases hx with
    | str _ b hb =>
      have : b.size = b.data.toList.length := rfl
      exact ⟨by simp [Builtin.len_, run_underlying hu, goInt], hr _ hb⟩
  | bslice =>
    obtain ⟨e', ie, hu, _⟩ := hty
    cases x <;> simp [lenA] at e <;> subst e
    · cases hx
      exact ⟨by simp [Builtin.len_, run_underlying hu, goInt], by decide⟩
    · cases hx with
      | bytesN _ _ _ => exact ⟨by simp [Builtin.len_, run_underlying hu, goInt], hr 0 (by simp [maxCat])⟩
      | bytes _ _ _ _ _ _ _ hc _ => exact ⟨by simp [Builtin.len_, run_underlying hu, goInt], hr _ hc.2⟩
  | slice c =>
    obtain ⟨hu, _⟩ := hty
    cases x <;> simp [lenA] at e <;> subst e
    · cases hx
      exact ⟨by simp [Builtin.len_, run_underlying hu, goInt], by decide⟩
    · cases hx with
      | listN _ _ _ _ => exact ⟨by simp [Builtin.len_, run_underlying hu, goInt], hr 0 (by simp [maxCat])⟩
      | list _ _ _ _ _ _ _ _ _ hc _ _ => exact ⟨by simp [Builtin.len_, run_underlying hu, goInt], hr _ hc.2⟩
    · cases hx with
      | hsl _ _ _ _ _ _ _ _ hc => exact ⟨by simp [Builtin.len_, run_underlying hu, goInt], hr _ hc.2⟩
  | _ => simp [lenA] at e

theorem go_len (hT : TTOk P C) (hS : VL C H ρ sl a.tmps.toList) (q : Rw C base H ρ h w) {args : Array Operand} {ts : Array TypeId} (ho : o.op = .call ⟨.builtin .len, args, ts⟩) (hp : perform (execA C h sl o) h nb k = some r) : Goes P o a w (Post C base H ρ w k r) := by
  simp only [execA, ho] at hp
  split at hp
  case h_2 => simp [perform] at hp
  rename_i t x ht hx
  split at hp
  case h_1 => simp [perform] at hp
  rename_i ti hti
  split at hp
  case h_2 => simp [perform] at hp
  rename_i n hn
  simp only [bif_ble, bif_blt, perform] at hp
  obtain ⟨h1, h2⟩ := lenA_ok (w := w) (hT _ _ hti) (opd_ok hS x) hn o.type
  obtain rfl : args = #[x] := by apply Array.ext'; simpa using hx
  obtain rfl : ts = #[t] := by apply Array.ext'; simpa using ht
  refine goes_value (w' := w) ?_ (.now q hp (.int _ _ _ h2))
  simp [execOp, ho, resolve, invoke, builtin, h1]

theorem minA_ok {x y z : AV El} {u v : Value} (e : minA x y = some z) (hx : V C H ρ x u) (hy : V C H ρ y v) : ∃ t, (Builtin.min2 u v).run P w = .ok t w ∧ V C H ρ z t := by
  unfold minA at e
  split at e
  · split at e
    · rename_i hk; subst hk
      cases e
      obtain ⟨rfl, rx⟩ := hx.intE
      obtain ⟨rfl, ry⟩ := hy.intE
      exact ⟨_, by simp [Builtin.min2], .int _ _ _ (by split <;> assumption)⟩
    · cases e
  · cases e

theorem go_min (hS : VL C H ρ sl a.tmps.toList) (q : Rw C base H ρ h w) {args : Array Operand} {ts : Array TypeId} (ho : o.op = .call ⟨.builtin .min, args, ts⟩) (hp : perform (execA C h sl o) h nb k = some r) : Goes P o a w (Post C base H ρ w k r) := by
  simp only [execA, ho] at hp
  split at hp
  case h_2 => simp [perform] at hp
  rename_i x y hxy
  obtain rfl : args = #[x, y] := by apply Array.ext'; simpa using hxy
  cases e : minA (opd sl x) (opd sl y) with
  | none => rw [e] at hp; simp [ofVal, perform] at hp
  | some z =>
    rw [e] at hp
    simp only [ofVal, perform] at hp
    obtain ⟨t, h1, h2⟩ := minA_ok (P := P) (w := w) e (opd_ok hS x) (opd_ok hS y)
    refine goes_value (w' := w) ?_ (.now q hp h2)
    simp [execOp, ho, resolve, invoke, builtin, Builtin.min_, h1]

theorem maxA_ok {x y z : AV El} {u v : Value} (e : maxA x y = some z) (hx : V C H ρ x u) (hy : V C H ρ y v) : ∃ t, (Builtin.max2 u v).run P w = .ok t w ∧ V C H ρ z t := by
  unfold maxA at e
  split at e
  · split at e
    · rename_i hk; subst hk
      cases e
      obtain ⟨rfl, rx⟩ := hx.intE
      obtain ⟨rfl, ry⟩ := hy.intE
      exact ⟨_, by simp [Builtin.max2], .int _ _ _ (by split <;> assumption)⟩
    · cases e
  · cases e

theorem go_max (hS : VL C H ρ sl a.tmps.toList) (q : Rw C base H ρ h w) {args : Array Operand} {ts : Array TypeId} (ho : o.op = .call ⟨.builtin .max, args, ts⟩) (hp : perform (execA C h sl o) h nb k = some r) : Goes P o a w (Post C base H ρ w k r) := by
  simp only [execA, ho] at hp
  split at hp
  case h_2 => simp [perform] at hp
  rename_i x y hxy
  obtain rfl : args = #[x, y] := by apply Array.ext'; simpa using hxy
  cases e : maxA (opd sl x) (opd sl y) with
  | none => rw [e] at hp; simp [ofVal, perform] at hp
  | some z =>
    rw [e] at hp
    simp only [ofVal, perform] at hp
    obtain ⟨t, h1, h2⟩ := maxA_ok (P := P) (w := w) e (opd_ok hS x) (opd_ok hS y)
    refine goes_value (w' := w) ?_ (.now q hp h2)
    simp [execOp, ho, resolve, invoke, builtin, Builtin.max_, h1]

end
end Go.Ev
