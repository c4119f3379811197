/- An abstract interpreter of the model's code, of my own: its words. Values are by value (a slice is a list of its elements), local variables that have an address lie in boxes,
   objects behind pointers in an abstract heap; 'aw' computes from annotated code a proposition. What it is worth is proved in the next files. -/
import Derived.Calls
namespace Go.Ge

/-- What the holder of a slice may do with it: sh: read; nil: it is the nil slice; app sz: append (elements of sz cells); uniq sz c: nobody else reads it either, and there is room for c. -/
inductive Own where
  | sh
  | nil
  | app (sz : Nat)
  | uniq (sz cap : Nat)
  deriving Inhabited

inductive AVal where
  | junk
  | int (k : IntKind) (n : Int)
  | bool (b : Bool)
  | str (s : ByteArray)
  | agg (cs : List AVal)
  | tup (vs : List AVal)
  | lst (o : Own) (xs : List AVal)
  | cptr (cs : List AVal)
  | box (s off : Nat)
  | hp (id off : Nat)
  | ref (id off len cap : Nat)
  | nilptr
  | func (g : Nat) (caps : List AVal)
  | map (id : Nat)
  | nilmap
  deriving Inhabited

def AVal.cells : AVal → List AVal
  | .agg cs => cs
  | v => [v]
def AVal.width : AVal → Nat
  | .agg cs => cs.length
  | .junk => 0
  | .tup _ => 0
  | _ => 1

/-- A cell as it is read: a copy that may only be read. -/
def rdc : AVal → AVal
  | .lst .nil xs => .lst .nil xs
  | .lst (.uniq _ _) _ => .junk
  | .lst _ xs => .lst .sh xs
  | .agg _ => .junk
  | .tup _ => .junk
  | v => v
def rd1 : AVal → AVal
  | .agg cs => .agg (cs.map rdc)
  | v => rdc v
def rdv : AVal → AVal
  | .tup vs => .tup (vs.map rd1)
  | v => rd1 v
/-- What is left where a value was taken away. -/
def remc : AVal → AVal
  | .lst .nil xs => .lst .nil xs
  | .lst (.uniq _ _) _ => .junk
  | .lst _ xs => .lst .sh xs
  | .agg _ => .junk
  | .tup _ => .junk
  | v => v

def noBox : AVal → Bool
  | .box .. => false
  | _ => true
def plainV : AVal → Bool
  | .box .. | .tup _ => false
  | _ => true
def storC : AVal → Bool
  | .box .. | .tup _ | .junk | .agg _ => false
  | _ => true
def storable : AVal → Bool
  | .agg cs => cs.all storC
  | v => storC v

inductive HObj where
  | dead
  | cells (cs : List AVal)
  deriving Inhabited

structure AState where
  env : Nat → AVal
  boxes : Nat → Option (List AVal)
  heap : List HObj

inductive Sh where
  | i (k : IntKind)
  | b
  | s
  deriving DecidableEq, Inhabited

inductive AOpn where
  | t (n : Nat)
  | c (v : AVal)
  deriving Inhabited

/-- The operations that change the heap, and their own slot. -/
inductive HOp where
  | appendR (sz bytes : Nat) (x y : AOpn)
  | clearR (sz : Nat) (zero : AVal) (x : AOpn)
  | copyR (sz : Nat) (x y : AOpn)
  | callq (f : Nat) (args : List AOpn)
  | callvq (x : AOpn) (args : List AOpn)
  deriving Inhabited

inductive AOp where
  | move (take : Bool) (x : AOpn)
  | pick (c a b : AOpn)
  | alloc (fr : Bool) (zs : List AVal)
  | bx (take : Bool) (x : AOpn)
  | build (zero : List AVal) (parts : List (Nat × Nat × AOpn))
  | buildS (uq : Bool) (sz : Nat) (parts : List AOpn)
  | load (m : Nat) (ag : Bool) (sz : Nat) (x : AOpn)
  | loadT (x : AOpn)
  | store (sz : Nat) (p x : AOpn)
  | nilck (x : AOpn)
  | bin (op : BinOp) (x y : AOpn)
  | beq (neg : Bool) (x y : AOpn)
  | pnil (neg : Bool) (x : AOpn)
  | eqs (neg : Bool) (sh : List Sh) (x y : AOpn)
  | isnil (mp neg : Bool) (x : AOpn)
  | un (op : UnOp) (x : AOpn)
  | conv (k : IntKind) (x : AOpn)
  | b2s (x : AOpn)
  | s2b (x : AOpn)
  | same (x : AOpn)
  | slice (sz : Nat) (x : AOpn) (lo hi mx : Option AOpn)
  | sslice (x : AOpn) (lo hi : Option AOpn)
  | sliceT (sz : Nat) (t : Nat) (lo : Option AOpn)
  | str8 (t : Nat)
  | faddr (off : Nat) (x : AOpn)
  | field (ag : Bool) (off sz : Nat) (x : AOpn)
  | iaddr (sz : Nat) (x i : AOpn)
  | aaddr (n sz : Nat) (x i : AOpn)
  | idx (x i : AOpn)
  | aidx (ag : Bool) (n sz : Nat) (x i : AOpn)
  | ext (i : Nat) (x : AOpn)
  | extT (i : Nat) (t : Nat)
  | call (pr : Bool) (f : Nat) (args : List AOpn)
  | callv (pr : Bool) (x : AOpn) (args : List AOpn)
  | mkf (g : Nat) (caps : List AOpn)
  | append (sz bytes : Nat) (x y : AOpn)
  | len (x : AOpn)
  | slen (x : AOpn)
  | alen (n : Nat)
  | mn (x : AOpn) (ys : List AOpn)
  | mx (x : AOpn) (ys : List AOpn)
  | mkslice (sz bytes : Nat) (uq : Bool) (zero : AVal) (x : AOpn)
  | empt (x : AOpn)
  | sliceA (n sz : Nat) (x : AOpn) (lo hi : Option AOpn)
  | b2sR (x : AOpn)
  | capR (x : AOpn)
  | mkfq (g : Nat) (caps : List AOpn)
  | hop (op : HOp)
  | refuse
  deriving Inhabited

structure AO where
  dst : Option Nat
  op : AOp
  guard : Option (Nat × Bool)
  deriving Inhabited

inductive ACode where
  | skip
  | region (l : List AO)
  | drawn (ix dn : List Nat) (l : List AO)
  | seq (a b : ACode)
  | cond (c : AOpn) (a b : ACode)
  | block (id : Nat) (a : ACode)
  | loop (a : ACode)
  | exit (id : Nat)
  | ret
  | kill (s : Nat) (a : ACode)
  | prom (s : Nat) (a : ACode)
  | thaw (s : Nat) (a : ACode)
  | own (s : Nat) (ag : Bool) (sz : Nat) (a : ACode)
  | grab (s : Nat) (a : ACode)
  deriving Inhabited

/-! ### What an operation that changes nothing but its own slot comes to: a condition and a value -/
structure FR where
  c : Prop
  v : AVal

def bitsV (op : BinOp) (k : IntKind) (x y : Int) : Int :=
  let a := BitVec.ofInt k.bits x
  let b := BitVec.ofInt k.bits y
  match op with
  | .and => k.wrap (a &&& b).toNat
  | .or => k.wrap (a ||| b).toNat
  | .xor => k.wrap (a ^^^ b).toNat
  | _ => k.wrap (a &&& ~~~b).toNat

/-- Cells of numbers, bools and strings, compared. -/
def scEq : AVal → AVal → Bool
  | .int _ a, .int _ b => a == b
  | .bool a, .bool b => a == b
  | .str a, .str b => a.toList == b.toList
  | _, _ => false
def aggEq : List AVal → List AVal → Bool
  | a :: as, b :: bs => scEq a b && aggEq as bs
  | _, _ => true
/-- A row of scalars of this shape. -/
def hasSh : List Sh → List AVal → Prop
  | [], [] => True
  | .i k :: s, .int k' _ :: cs => k' = k ∧ hasSh s cs
  | .b :: s, .bool _ :: cs => hasSh s cs
  | .s :: s, .str _ :: cs => hasSh s cs
  | _, _ => False

def binInt (op : BinOp) (k k' : IntKind) (a b : Int) : FR :=
  match op with
  | .shl => ⟨0 ≤ b, .int k (k.wrap (a * 2 ^ min b.toNat k.bits))⟩
  | .shr => ⟨0 ≤ b, .int k (a.fdiv (2 ^ min b.toNat k.bits))⟩
  | .add => ⟨k = k', .int k (k.wrap (a + b))⟩
  | .sub => ⟨k = k', .int k (k.wrap (a - b))⟩
  | .mul => ⟨k = k', .int k (k.wrap (a * b))⟩
  | .quo => ⟨k = k' ∧ b ≠ 0, .int k (k.wrap (a.tdiv b))⟩
  | .rem => ⟨k = k' ∧ b ≠ 0, .int k (a.tmod b)⟩
  | .and => ⟨k = k', .int k (bitsV .and k a b)⟩
  | .or => ⟨k = k', .int k (bitsV .or k a b)⟩
  | .xor => ⟨k = k', .int k (bitsV .xor k a b)⟩
  | .eql => ⟨k = k', .bool (a == b)⟩
  | .neq => ⟨k = k', .bool (a != b)⟩
  | .lss => ⟨k = k', .bool (decide (a < b))⟩
  | .leq => ⟨k = k', .bool (decide (a ≤ b))⟩
  | .gtr => ⟨k = k', .bool (decide (a > b))⟩
  | .geq => ⟨k = k', .bool (decide (a ≥ b))⟩
  | _ => ⟨False, .junk⟩
def binStr (op : BinOp) (a b : ByteArray) : FR :=
  match op with
  | .add => ⟨a.size + b.size ≤ 9223372036854775807, .str (a ++ b)⟩
  | .eql => ⟨True, .bool (a.toList == b.toList)⟩
  | .neq => ⟨True, .bool !(a.toList == b.toList)⟩
  | .lss => ⟨True, .bool (Op.bytesLess a.toList b.toList)⟩
  | .leq => ⟨True, .bool (Op.bytesLess a.toList b.toList || a.toList == b.toList)⟩
  | .gtr => ⟨True, .bool !(Op.bytesLess a.toList b.toList || a.toList == b.toList)⟩
  | .geq => ⟨True, .bool !(Op.bytesLess a.toList b.toList)⟩
  | _ => ⟨False, .junk⟩
def binV (op : BinOp) (x y : AVal) : FR :=
  match x, y with
  | .int k a, .int k' b => binInt op k k' a b
  | .str a, .str b => binStr op a b
  | _, _ => ⟨False, .junk⟩
def unV (op : UnOp) (x : AVal) : FR :=
  match op, x with
  | .not, .bool b => ⟨True, .bool (!b)⟩
  | .neg, .int k n => ⟨True, .int k (k.wrap (0 - n))⟩
  | .xor, .int k n => ⟨True, .int k (bitsV .xor k (if k.signed then -1 else k.max) n)⟩
  | _, _ => ⟨False, .junk⟩
def pickV (b : Bool) (x y : AVal) : AVal :=
  match x, y with
  | .bool p, .bool q => .bool (bif b then p else q)
  | x, y => bif b then x else y
def fillV (cs : List AVal) (off : Nat) (new : List AVal) : List AVal := cs.take off ++ new ++ cs.drop (off + new.length)
def buildV (r : AOpn → AVal) : List AVal → List (Nat × Nat × AOpn) → FR
  | cs, [] => ⟨True, .agg cs⟩
  | cs, (off, sz, x) :: rest =>
    let f := buildV r (fillV cs off (r x).cells) rest
    ⟨(r x).width = sz ∧ noBox (r x) = true ∧ off + sz ≤ cs.length ∧ f.c, f.v⟩
def at_ (xs : List AVal) (i : Int) : AVal := xs.getD i.toNat .junk
def byteOfV : AVal → UInt8
  | .int _ n => UInt8.ofNat n.toNat
  | _ => 0
def isByteV (v : AVal) : Prop := ∃ n, v = .int .u8 n
def strOfV (xs : List AVal) : ByteArray := ⟨(xs.map byteOfV).toArray⟩
def bytesV (s : ByteArray) : List AVal := s.data.toList.map fun b => .int .u8 b.toNat
def loV (r : AOpn → AVal) : Option AOpn → Option Int
  | none => some 0
  | some x => match r x with | .int _ n => some n | _ => none
def hiV (r : AOpn → AVal) (n : Nat) : Option AOpn → Option Int
  | none => some n
  | some x => match r x with | .int _ n => some n | _ => none
def sliceV (sz : Nat) (r : AOpn → AVal) (x : AVal) (lo hi mx : Option AOpn) : FR :=
  match x with
  | .lst _ xs =>
    match loV r lo, hiV r xs.length hi, mx with
    | some l, some h, none => ⟨0 ≤ l ∧ l ≤ h ∧ h ≤ xs.length ∧ (∀ x ∈ xs, x.width = sz), .lst .sh ((xs.drop l.toNat).take (h.toNat - l.toNat))⟩
    | some l, some h, some m => match r m with
      | .int _ q => ⟨l = 0 ∧ h = 0 ∧ q = 0 ∧ hi.isSome = true, .lst (.app sz) []⟩
      | _ => ⟨False, .junk⟩
    | _, _, _ => ⟨False, .junk⟩
  | .ref id off len cap =>
    match loV r lo, hiV r len hi, mx with
    | some l, some h, none => ⟨0 ≤ l ∧ l ≤ h ∧ h ≤ cap, .ref id (off + l.toNat * sz) (h.toNat - l.toNat) (cap - l.toNat)⟩
    | some l, some h, some m => match r m with
      | .int _ q => ⟨0 ≤ l ∧ l ≤ h ∧ h ≤ q ∧ q ≤ cap ∧ hi.isSome = true, .ref id (off + l.toNat * sz) (h.toNat - l.toNat) (q.toNat - l.toNat)⟩
      | _ => ⟨False, .junk⟩
    | _, _, _ => ⟨False, .junk⟩
  | _ => ⟨False, .junk⟩
def ssliceV (r : AOpn → AVal) (x : AVal) (lo hi : Option AOpn) : FR :=
  match x with
  | .str s =>
    match loV r lo, hiV r s.size hi with
    | some l, some h => ⟨0 ≤ l ∧ l ≤ h ∧ h ≤ s.size, .str (s.extract l.toNat h.toNat)⟩
    | _, _ => ⟨False, .junk⟩
  | _ => ⟨False, .junk⟩
def memV (bx : Nat → Option (List AVal)) (hp : List HObj) (ag : Bool) (sz : Nat) : AVal → FR
  | .cptr cs => if ag then ⟨sz ≤ cs.length, .agg ((cs.take sz).map rdc)⟩ else ⟨0 < cs.length, rdc (cs.headD .junk)⟩
  | .box s off => match bx s with
    | some cs => if ag then ⟨off + sz ≤ cs.length, .agg (((cs.drop off).take sz).map rdc)⟩ else ⟨off < cs.length, rdc (cs.getD off .junk)⟩
    | none => ⟨False, .junk⟩
  | .hp id off => match hp[id]? with
    | some (.cells cs) => if ag then ⟨off + sz ≤ cs.length, .agg (((cs.drop off).take sz).map rdc)⟩ else ⟨off < cs.length, rdc (cs.getD off .junk)⟩
    | _ => ⟨False, .junk⟩
  | _ => ⟨False, .junk⟩

/-- A slice without room. -/
def emptV (x : AVal) : FR := match x with | .lst _ _ | .ref .. => ⟨True, .ref 0 0 0 0⟩ | _ => ⟨False, .junk⟩
def sliceAV (n sz : Nat) (r : AOpn → AVal) (x : AVal) (lo hi : Option AOpn) : FR :=
  match x, loV r lo, hiV r n hi with
  | .hp id off, some l, some h => ⟨0 ≤ l ∧ l ≤ h ∧ h ≤ n, .ref id (off + l.toNat * sz) (h.toNat - l.toNat) (n - l.toNat)⟩
  | _, _, _ => ⟨False, .junk⟩
/-- The cells of a slice, or of a string's bytes, and how many elements. -/
def srcH (sz : Nat) (hp : List HObj) : AVal → Option (Nat × List AVal)
  | .lst _ ys => some (ys.length, (ys.flatMap AVal.cells).map rdc)
  | .str s => some (s.size, bytesV s)
  | .ref id off len _ => if len = 0 then some (0, []) else match hp[id]? with
    | some (.cells cs) => if off + len * sz ≤ cs.length then some (len, ((cs.drop off).take (len * sz)).map rdc) else none
    | _ => none
  | _ => none
def srcW (sz : Nat) (hp : List HObj) : AVal → Prop
  | .lst _ ys => ∀ v ∈ ys, v.width = sz
  | .str _ => sz = 1
  | v => ∀ p, srcH sz hp v = some p → ∀ c ∈ p.2, storC c = true
def b2sRV (hp : List HObj) (x : AVal) : FR := match x with
  | .ref .. => match srcH 1 hp x with | some (_, xs) => ⟨∀ v ∈ xs, isByteV v, .str (strOfV xs)⟩ | none => ⟨False, .junk⟩
  | _ => ⟨False, .junk⟩
def capV (x : AVal) : FR := match x with
  | .lst .nil _ => ⟨True, .int .i64 0⟩
  | .ref _ _ _ cap => ⟨True, .int .i64 cap⟩
  | _ => ⟨False, .junk⟩
def repC (n : Nat) : List AVal → List AVal
  | [z] => List.replicate n z
  | zs => (List.replicate n zs).flatten

def memLv : AVal → Nat | .cptr _ => 0 | .box .. => 1 | _ => 2
def nilckV (x : AVal) : FR := match x with | .box .. | .hp .. | .cptr _ | .func .. => ⟨True, x⟩ | _ => ⟨False, .junk⟩
def pickF (c a b : AVal) : FR := match c with | .bool t => ⟨True, pickV t a b⟩ | _ => ⟨False, .junk⟩
def beqV (neg : Bool) (x y : AVal) : FR := match x, y with | .bool a, .bool b => ⟨True, .bool ((a == b) != neg)⟩ | _, _ => ⟨False, .junk⟩
def pnilV (neg : Bool) (x : AVal) : FR := match x with | .nilptr => ⟨True, .bool (!neg)⟩ | .hp _ _ | .box _ _ | .cptr _ => ⟨True, .bool neg⟩ | _ => ⟨False, .junk⟩
def eqsV (neg : Bool) (sh : List Sh) (x y : AVal) : FR := match x, y with | .agg a, .agg b => ⟨hasSh sh a ∧ hasSh sh b, .bool (aggEq a b != neg)⟩ | _, _ => ⟨False, .junk⟩
def convV (k : IntKind) (x : AVal) : FR := match x with | .int _ n => ⟨True, .int k (k.wrap n)⟩ | _ => ⟨False, .junk⟩
def b2sV (x : AVal) : FR := match x with | .lst _ xs => ⟨∀ v ∈ xs, isByteV v, .str (strOfV xs)⟩ | _ => ⟨False, .junk⟩
def s2bV (x : AVal) : FR := match x with | .str s => ⟨s.size ≤ 70368744177664, .lst (.app 1) (bytesV s)⟩ | _ => ⟨False, .junk⟩
def sameV (x : AVal) : FR := match x with | .str s => ⟨True, .str s⟩ | _ => ⟨False, .junk⟩
def faddrV (off : Nat) (x : AVal) : FR := match x with | .box s o => ⟨True, .box s (o + off)⟩ | .hp i o => ⟨True, .hp i (o + off)⟩ | .cptr cs => ⟨True, .cptr (cs.drop off)⟩ | _ => ⟨False, .junk⟩
def fieldV (ag : Bool) (off sz : Nat) (x : AVal) : FR := match x with
  | .agg cs => if ag then ⟨off + sz ≤ cs.length, .agg ((cs.drop off).take sz)⟩ else ⟨off < cs.length, cs.getD off .junk⟩
  | _ => ⟨False, .junk⟩
def iaddrV (sz : Nat) (x i : AVal) : FR := match x, i with
  | .lst _ xs, .int _ n => ⟨0 ≤ n ∧ n < xs.length ∧ (at_ xs n).width = sz, .cptr (at_ xs n).cells⟩
  | .ref id off len _, .int _ n => ⟨0 ≤ n ∧ n < len, .hp id (off + n.toNat * sz)⟩
  | _, _ => ⟨False, .junk⟩
def aaddrV (m sz : Nat) (x i : AVal) : FR := match x, i with
  | .box s o, .int _ n => ⟨0 ≤ n ∧ n < m, .box s (o + n.toNat * sz)⟩
  | .hp id o, .int _ n => ⟨0 ≤ n ∧ n < m, .hp id (o + n.toNat * sz)⟩
  | .cptr cs, .int _ n => ⟨0 ≤ n ∧ n < m, .cptr (cs.drop (n.toNat * sz))⟩
  | _, _ => ⟨False, .junk⟩
def idxV (x i : AVal) : FR := match x, i with
  | .str s, .int _ n => ⟨0 ≤ n ∧ n < s.size, .int .u8 (s.data.toList.getD n.toNat 0).toNat⟩
  | _, _ => ⟨False, .junk⟩
def aidxV (ag : Bool) (m sz : Nat) (x i : AVal) : FR := match x, i with
  | .agg cs, .int _ n => if ag then ⟨0 ≤ n ∧ n < m ∧ n.toNat * sz + sz ≤ cs.length, .agg ((cs.drop (n.toNat * sz)).take sz)⟩
      else ⟨0 ≤ n ∧ n < m ∧ n.toNat * sz < cs.length, cs.getD (n.toNat * sz) .junk⟩
  | _, _ => ⟨False, .junk⟩
def extV (i : Nat) (x : AVal) : FR := match x with | .tup vs => ⟨i < vs.length, vs.getD i .junk⟩ | _ => ⟨False, .junk⟩
def lenV (x : AVal) : FR := match x with
  | .lst _ xs => ⟨True, .int .i64 xs.length⟩
  | .ref _ _ len _ => ⟨True, .int .i64 len⟩
  | _ => ⟨False, .junk⟩
def slenV (x : AVal) : FR := match x with | .str s => ⟨True, .int .i64 s.size⟩ | _ => ⟨False, .junk⟩
def mnV (x y : AVal) : FR := match x, y with | .int k a, .int _ b => ⟨True, .int k (if b < a then b else a)⟩ | _, _ => ⟨False, .junk⟩
def mxV (x y : AVal) : FR := match x, y with | .int k a, .int _ b => ⟨True, .int k (if a < b then b else a)⟩ | _, _ => ⟨False, .junk⟩
def foldV (f : AVal → AVal → FR) : AVal → List AVal → FR
  | x, [] => ⟨True, x⟩
  | x, y :: ys => ⟨(f x y).c ∧ (foldV f (f x y).v ys).c, (foldV f (f x y).v ys).v⟩
def mksliceV (sz bytes : Nat) (uq : Bool) (zero x : AVal) : FR := match x with
  | .int _ n => ⟨0 ≤ n ∧ n * bytes ≤ 140737488355328 ∧ n ≤ 140737488355328, .lst (if uq then .uniq sz n.toNat else .app sz) (List.replicate n.toNat zero)⟩
  | _ => ⟨False, .junk⟩

/-- The operations that change nothing but their own slot; 'none': another kind. -/
def fev (r : AOpn → AVal) (bx : Nat → Option (List AVal)) (hp : List HObj) : AOp → Option FR
  | .move false x => some ⟨True, r x⟩
  | .pick c a b => some (pickF (r c) (r a) (r b))
  | .build zero parts => some (buildV r zero parts)
  | .buildS uq sz parts => some ⟨(∀ x ∈ parts, (r x).width = sz ∧ storable (r x) = true) ∧ parts.length * sz ≤ 16777216, .lst (if uq then .uniq sz parts.length else .app sz) (parts.map r)⟩
  | .load m ag sz x => some ⟨memLv (r x) ≤ m ∧ (memV bx hp ag sz (r x)).c, (memV bx hp ag sz (r x)).v⟩
  | .nilck x => some (nilckV (r x))
  | .bin op x y => some (binV op (r x) (r y))
  | .beq neg x y => some (beqV neg (r x) (r y))
  | .pnil neg x => some (pnilV neg (r x))
  | .eqs neg sh x y => some (eqsV neg sh (r x) (r y))
  | .un op x => some (unV op (r x))
  | .conv k x => some (convV k (r x))
  | .b2s x => some (b2sV (r x))
  | .s2b x => some (s2bV (r x))
  | .same x => some (sameV (r x))
  | .slice sz x lo hi mx => some (sliceV sz r (r x) lo hi mx)
  | .sslice x lo hi => some (ssliceV r (r x) lo hi)
  | .faddr off x => some (faddrV off (r x))
  | .field ag off sz x => some (fieldV ag off sz (r x))
  | .iaddr sz x i => some (iaddrV sz (r x) (r i))
  | .aaddr m sz x i => some (aaddrV m sz (r x) (r i))
  | .idx x i => some (idxV (r x) (r i))
  | .aidx ag m sz x i => some (aidxV ag m sz (r x) (r i))
  | .ext i x => some (extV i (r x))
  | .len x => some (lenV (r x))
  | .slen x => some (slenV (r x))
  | .alen n => some ⟨True, .int .i64 n⟩
  | .mn x ys => some (foldV mnV (r x) (ys.map r))
  | .mx x ys => some (foldV mxV (r x) (ys.map r))
  | .mkslice sz bytes uq zero x => some (mksliceV sz bytes uq zero (r x))
  | .empt x => some (emptV (r x))
  | .sliceA n sz x lo hi => some (sliceAV n sz r (r x) lo hi)
  | .b2sR x => some (b2sRV hp (r x))
  | .capR x => some (capV (r x))
  | .mkfq g caps => some ⟨∀ x ∈ caps, storable (r x) = true ∧ (r x).width = 1, .func g (caps.map r)⟩
  | _ => none

/-! ### States -/
def AState.get (S : AState) (t : Nat) : AVal := S.env t
def AState.put (S : AState) (d : Option Nat) (v : AVal) : AState :=
  match d with
  | some d => { S with env := fun t => if t = d then v else S.env t }
  | none => S
def AState.set (S : AState) (d : Nat) (v : AVal) : AState := { S with env := fun t => if t = d then v else S.env t }
def AState.setBox (S : AState) (s : Nat) (cs : Option (List AVal)) : AState := { S with boxes := fun t => if t = s then cs else S.boxes t }
def AState.rd (S : AState) : AOpn → AVal
  | .t n => rdv (S.env n)
  | .c v => rdv v
/-- The slots that hold an address in box s forget it. -/
def AState.drop (S : AState) (s : Nat) : AState :=
  { S with env := fun t => match S.env t with | .box s' o => if s' = s then .junk else .box s' o | v => v }
/-- Box s goes to the heap. -/
def AState.promote (S : AState) (s : Nat) : AState :=
  match S.boxes s with
  | some cs => { env := fun t => match S.env t with | .box s' o => if s' = s then .hp S.heap.length o else .box s' o | v => v,
                 boxes := fun t => if t = s then none else S.boxes t, heap := S.heap ++ [.cells cs] }
  | none => S
def AState.promAll (S : AState) : List AOpn → AState
  | [] => S
  | .t n :: rest => (match S.env n with | .box s _ => S.promote s | _ => S).promAll rest
  | .c _ :: rest => S.promAll rest


/-! ### One operation, a row of operations, code -/
abbrev CallS := Nat → List AVal → List HObj → (AVal → List HObj → Prop) → Prop

/-- What an operation on the heap comes to. -/
def growV (hp : List HObj) (sz : Nat) (old ys : List AVal) (m : Nat) (K : AVal → List HObj → Prop) : Prop :=
  ∀ cap, m ≤ cap → K (.ref hp.length 0 m cap) (hp ++ [.cells (old ++ ys ++ List.replicate ((cap - m) * sz) .junk)])
def hstep (C : CallS) (r : AOpn → AVal) (hp : List HObj) (op : HOp) (K : AVal → List HObj → Prop) : Prop :=
  match op with
  | .appendR sz bytes x y => match srcH sz hp (r y) with
    | some (k, ys) => srcW sz hp (r y) ∧ (match r x with
      | .lst .nil _ => k * bytes ≤ 140737488355328 ∧ k ≤ 140737488355328 ∧ (k = 0 → K (.ref 0 0 0 0) hp) ∧ (k ≠ 0 → growV hp sz [] ys k K)
      | .ref id off len cap => (len + k) * bytes ≤ 140737488355328 ∧ len + k ≤ 140737488355328 ∧ (k = 0 → K (.ref id off len cap) hp) ∧
          (k ≠ 0 → len + k ≤ cap → match hp[id]? with
            | some (.cells cs) => off + cap * sz ≤ cs.length ∧ K (.ref id off (len + k) cap) (hp.set id (.cells (fillV cs (off + len * sz) ys)))
            | _ => False) ∧
          (k ≠ 0 → cap < len + k → match srcH sz hp (.ref id off len cap) with
            | some (_, old) => growV hp sz old ys (len + k) K
            | none => False)
      | _ => False)
    | none => False
  | .clearR sz zero x => match r x with
    | .lst _ xs => xs = [] ∧ K (.tup []) hp
    | .ref id off len _ => (len = 0 → K (.tup []) hp) ∧ (len ≠ 0 → match hp[id]? with
      | some (.cells cs) => off + len * sz ≤ cs.length ∧ K (.tup []) (hp.set id (.cells (fillV cs off (repC len zero.cells))))
      | _ => False)
    | _ => False
  | .copyR sz x y => match srcH sz hp (r y) with
    | some (k, ys) => srcW sz hp (r y) ∧ (match r x with
      | .lst _ xs => (xs = [] ∨ k = 0) ∧ K (.int .i64 0) hp
      | .ref id off len _ => (len = 0 ∨ k = 0 → K (.int .i64 0) hp) ∧ (len ≠ 0 → k ≠ 0 → match hp[id]? with
        | some (.cells cs) => off + min k len * sz ≤ cs.length ∧ K (.int .i64 (min k len : Nat)) (hp.set id (.cells (fillV cs off (ys.take (min k len * sz)))))
        | _ => False)
      | _ => False)
    | none => False
  | .callq f args => (∀ x ∈ args, noBox (r x) = true) ∧ C f (args.map r) hp (fun v h => h = hp ∧ (noBox v = true → K v h))
  | .callvq x args => match r x with
    | .func g caps => (∀ x ∈ args, noBox (r x) = true) ∧ C g (args.map r ++ caps.map rdc) hp (fun v h => h = hp ∧ (noBox v = true → K v h))
    | _ => False

def storeV (S : AState) (p : AVal) (sz : Nat) (cs : List AVal) (K : AState → Prop) : Prop :=
  match p with
  | .box s off => match S.boxes s with
    | some old => cs.length = sz ∧ off + sz ≤ old.length ∧ K (S.setBox s (some (fillV old off cs)))
    | none => False
  | .hp id off => match S.heap[id]? with
    | some (.cells old) => cs.length = sz ∧ off + sz ≤ old.length ∧ K { S with heap := S.heap.set id (.cells (fillV old off cs)) }
    | _ => False
  | _ => False
/-- The value of a slot, taken: what it leaves. -/
def remV : AVal → AVal
  | .agg cs => .agg (cs.map remc)
  | .tup _ => .junk
  | v => remc v
def AState.takeT (S : AState) : AOpn → AState
  | .t n => S.set n (remV (S.env n))
  | .c _ => S
def AState.full (S : AState) : AOpn → AVal
  | .t n => S.env n
  | .c v => v
def srcV : AVal → Option (List AVal)
  | .lst _ ys => some ys
  | .str s => some (bytesV s)
  | _ => none

/-- Is it nil? -/
def isnilV (mp : Bool) (x : AVal) (K : Bool → Prop) : Prop :=
  match x with
  | .lst .nil _ => mp = false ∧ K true
  | .lst _ xs => mp = false ∧ ∀ b : Bool, (xs ≠ [] → b = false) → K b
  | .ref _ _ _ cap => mp = false ∧ ∀ b : Bool, (cap ≠ 0 → b = false) → K b
  | .nilmap => mp = true ∧ K true
  | .map _ => mp = true ∧ K false
  | _ => False
theorem isnilV_mono {mp : Bool} {x : AVal} {K K' : Bool → Prop} (hm : ∀ b, K b → K' b) (h : isnilV mp x K) : isnilV mp x K' := by
  unfold isnilV at h ⊢
  split at h <;> first | exact ⟨h.1, hm _ h.2⟩ | exact ⟨h.1, fun b hb => hm _ (h.2 b hb)⟩ | exact h.elim
/-- A value that is a box's address: the box is there. -/
def AState.live (S : AState) : AVal → Prop
  | .box s _ => (S.boxes s).isSome = true
  | _ => True
def astep (C : CallS) (op : AOp) (d : Option Nat) (S : AState) (K : AState → Prop) : Prop :=
  match fev S.rd S.boxes S.heap op with
  | some f => f.c ∧ S.live f.v ∧ K (S.put d f.v)
  | none =>
    match op with
    | .move true x => match S.full x with
      | .tup _ => False
      | v => K ((S.takeT x).put d v)
    | .alloc fr zs => match d with
      | some s => (fr = true → S.boxes s = none) ∧ K (((S.drop s).setBox s (some zs)).set s (.box s 0))
      | none => False
    | .bx true x => match d with
      | some s => storable (S.full x) = true ∧ K ((((S.takeT x).drop s).setBox s (some (S.full x).cells)).set s (.box s 0))
      | none => False
    | .bx false x => match d with
      | some s => storable (S.rd x) = true ∧ K (((S.drop s).setBox s (some (S.rd x).cells)).set s (.box s 0))
      | none => False
    | .loadT x => match S.rd x with
      | .box s off => match S.boxes s with
        | some cs => off < cs.length ∧ storC (cs.getD off .junk) = true ∧ K ((S.setBox s (some (cs.set off (remc (cs.getD off .junk))))).put d (cs.getD off .junk))
        | none => False
      | .hp id off => match S.heap[id]? with
        | some (.cells cs) => off < cs.length ∧ storC (cs.getD off .junk) = true ∧ K ({ S with heap := S.heap.set id (.cells (cs.set off (remc (cs.getD off .junk)))) }.put d (cs.getD off .junk))
        | _ => False
      | _ => False
    | .store sz p x => storable (S.full x) = true ∧ storeV (S.takeT x) (S.rd p) sz (S.full x).cells K
    | .isnil mp neg x => isnilV mp (S.rd x) (fun b => K (S.put d (.bool (b != neg))))
    | .sliceT sz t lo => match S.env t, loV S.rd lo with
      | .lst (.app sz') xs, some l => sz' = sz ∧ 0 ≤ l ∧ l ≤ xs.length ∧ K ((S.set t (.lst .sh xs)).put d (.lst (.app sz) (xs.drop l.toNat)))
      | _, _ => False
    | .str8 t => match S.env t with
      | .lst (.uniq 1 _) xs => xs ≠ [] ∧ K ((S.set t .junk).put d (.lst (.app 1) xs))
      | _ => False
    | .extT i t => match S.env t with
      | .tup vs => i < vs.length ∧ plainV (vs.getD i .junk) = true ∧ K ((S.set t (.tup (vs.set i .junk))).put d (vs.getD i .junk))
      | _ => False
    | .append sz bytes x y => match S.full x, srcV (S.rd y) with
      | .lst o xs, some ys => (match o with | .nil => xs = [] | .app sz' => sz' = sz | .uniq sz' _ => sz' = sz | .sh => False) ∧
          (∀ v ∈ ys, v.width = sz) ∧ (xs.length + ys.length) * bytes ≤ 140737488355328 ∧ xs.length + ys.length ≤ 140737488355328 ∧
          K ((S.takeT x).put d (.lst (.app sz) (xs ++ ys)))
      | _, _ => False
    | .call pr f args =>
      let S1 := if pr then S.promAll args else S
      (∀ x ∈ args, noBox (S1.rd x) = true) ∧ C f (args.map S1.rd) S1.heap (fun r h => noBox r = true → K ({ S1 with heap := h }.put d r))
    | .callv pr x args =>
      let S1 := if pr then S.promAll args else S
      match S1.rd x with
      | .func g caps => (∀ x ∈ args, noBox (S1.rd x) = true) ∧ C g (args.map S1.rd ++ caps.map rdc) S1.heap (fun r h => noBox r = true → K ({ S1 with heap := h }.put d r))
      | _ => False
    | .mkf g caps =>
      let S1 := S.promAll caps
      (∀ x ∈ caps, storable (S1.rd x) = true ∧ (S1.rd x).width = 1) ∧ K (S1.put d (.func g (caps.map S1.rd)))
    | .hop op => hstep C S.rd S.heap op (fun v h => noBox v = true → K ({ S with heap := h }.put d v))
    | _ => False

def aops (C : CallS) : List AO → AState → (AState → Prop) → Prop
  | [], S, K => K S
  | o :: os, S, K =>
    match o.guard with
    | none => astep C o.op o.dst S (fun S' => aops C os S' K)
    | some (j, want) => match S.env j with
      | .bool b => (b = want → astep C o.op o.dst S (fun S' => aops C os S' K)) ∧ (b ≠ want → aops C os (S.put o.dst (.tup [])) K)
      | .tup [] => aops C os (S.put o.dst (.tup [])) K
      | _ => False

inductive AExit where
  | normal
  | exit (id : Nat)
  | ret
  deriving DecidableEq

def AExit.then (next : AState → Prop) (Q : AExit → AState → Prop) : AExit → AState → Prop
  | .normal, S => next S
  | e, S => Q e S
def AExit.inBlock (id : Nat) (Q : AExit → AState → Prop) : AExit → AState → Prop
  | .exit id', S => if id' = id then Q .normal S else Q (.exit id') S
  | e, S => Q e S

/-- Neither right to append nor held alone. -/
def flC : AVal → Bool
  | .lst (.app _) _ | .lst (.uniq _ _) _ => false
  | _ => true
/-- Cells, made into elements. -/
def chunkV (ag : Bool) (sz : Nat) : List AVal → Nat → List AVal
  | _, 0 => []
  | cs, k + 1 => (if ag then .agg (cs.take sz) else cs.headD .junk) :: chunkV ag sz (cs.drop sz) k
/-- The boxes that a row will make. -/
def alS : List AO → List Nat
  | [] => []
  | o :: os => (match o.op, o.dst with | .alloc true _, some s => [s] | _, _ => []) ++ alS os
def aw (C : CallS) : ACode → (AExit → AState → Prop) → AState → Prop
  | .skip, Q, S => Q .normal S
  | .region l, Q, S => aops C l S (Q .normal)
  | .drawn _ _ l, Q, S => (∀ s ∈ alS l, S.boxes s = none) ∧ aops C l S (Q .normal)
  | .seq a b, Q, S => aw C a (AExit.then (aw C b Q) Q) S
  | .cond c a b, Q, S => match S.rd c with
    | .bool t => (t = true → aw C a Q S) ∧ (t = false → aw C b Q S)
    | _ => False
  | .block id a, Q, S => aw C a (AExit.inBlock id Q) S
  | .loop a, Q, S => ∃ (I : AState → Prop) (μ : AState → Nat), I S ∧ ∀ S', I S' → aw C a (AExit.then (fun S'' => I S'' ∧ μ S'' < μ S') Q) S'
  | .exit id, Q, S => Q (.exit id) S
  | .ret, Q, S => Q .ret S
  | .kill s a, Q, S => aw C a Q ((S.drop s).setBox s none)
  | .prom s a, Q, S => aw C a Q (S.promote s)
  | .thaw s a, Q, S => match S.env s with
    | .lst (.uniq sz cap) xs => 0 < sz ∧ (∀ x ∈ xs, x.width = sz ∧ x.cells.all flC = true) ∧ xs.length ≤ cap ∧
        aw C a Q (({ S with heap := S.heap ++ [.cells (xs.flatMap AVal.cells ++ List.replicate ((cap - xs.length) * sz) .junk)] } : AState).set s (.ref S.heap.length 0 xs.length cap))
    | _ => False
  | .own s ag sz a, Q, S => match S.env s with
    | .ref id off len cap => if cap = 0 then aw C a Q (S.set s (.lst (.uniq sz 0) [])) else match S.heap[id]? with
      | some (.cells cs) => (ag = false → sz = 1) ∧ 0 < sz ∧ off + cap * sz ≤ cs.length ∧ len ≤ cap ∧ ((cs.drop off).take (len * sz)).all (fun c => storC (rdc c)) = true ∧
          aw C a Q (({ S with heap := S.heap.set id .dead } : AState).set s (.lst (.uniq sz cap) (chunkV ag sz (((cs.drop off).take (len * sz)).map rdc) len)))
      | _ => False
    | _ => False
  | .grab s a, Q, S => match S.env s with
    | .lst (.uniq sz _) xs => aw C a Q (S.set s (.lst (.app sz) xs))
    | _ => False

/-! ### What a function gives back -/
inductive ARes where
  | t (n : Nat)
  | c (a : Nat) (ag : Bool) (sz : Nat)
  deriving DecidableEq, Inhabited
def ARes.slot : ARes → Nat
  | .t n => n
  | .c a _ _ => a
def resV (S : AState) : ARes → FR
  | .t n => ⟨plainV (S.env n) = true, S.env n⟩
  | .c a ag sz => match S.env a with
    | .box s 0 => match S.boxes s with
      | some cs => if ag then ⟨s = a ∧ cs.length = sz, .agg cs⟩ else ⟨s = a ∧ cs.length = 1 ∧ plainV (rdc (cs.headD .junk)) = true, rdc (cs.headD .junk)⟩
      | none => ⟨False, .junk⟩
    | .hp id off => ⟨(memV S.boxes S.heap ag sz (.hp id off)).c ∧ plainV (memV S.boxes S.heap ag sz (.hp id off)).v = true, (memV S.boxes S.heap ag sz (.hp id off)).v⟩
    | _ => ⟨False, .junk⟩
def ress (S : AState) : List ARes → FR
  | [r] => resV S r
  | rs => ⟨∀ r ∈ rs, (resV S r).c, .tup (rs.map fun r => (resV S r).v)⟩
def retQ (rs : List ARes) (Q : AVal → List HObj → Prop) : AExit → AState → Prop
  | .exit _, _ => False
  | _, S => (ress S rs).c ∧ Q (ress S rs).v S.heap
def AState.start (vs : List AVal) (h : List HObj) : AState := ⟨fun t => vs.getD t .junk, fun _ => none, h⟩

end Go.Ge
