import Derived.Calls
import Derived.Below
import Derived.Laws.Cells
import Derived.Laws.Tables
import Derived.Great.BuildSlice
import Derived.Laws.MakeOwn
import Derived.Laws.Slices
import Derived.WalkKit
import Derived.ChangeKeysEq
import Derived.Deep.Draws
import Derived.Lib.ConvBytes
import Derived.Laws.BytesString
import Derived.Laws.BytesArg
import Derived.Laws.Small
import Derived.Laws.IdiomStrings
import Derived.Great.FillDense
import Derived.Laws.OwnMore
namespace Go.Ge

inductive Own where
  | sh
  | nil
  | app (sz : Nat)
  | uniq (sz cap : Nat)
  deriving Inhabited

inductive AVal where
  | junk
  | int (k : IntKind) (n : Int)
  | bool (b : Bool)
  | str (s : ByteArray)
  | agg (cs : List AVal)
  | tup (vs : List AVal)
  | lst (o : Own) (xs : List AVal)
  | cptr (cs : List AVal)
  | box (s off : Nat)
  | hp (id off : Nat)
  | ref (id off len cap : Nat)
  | nilptr
  | func (g : Nat) (caps : List AVal)
  | map (id : Nat)
  | nilmap
  deriving Inhabited

def AVal.cells : AVal → List AVal
  | .agg cs => cs
  | v => [v]
def AVal.width : AVal → Nat
  | .agg cs => cs.length
  | .junk => 0
  | .tup _ => 0
  | _ => 1

def rdc : AVal → AVal
  | .lst .nil xs => .lst .nil xs
  | .lst (.uniq _ _) _ => .junk
  | .lst _ xs => .lst .sh xs
  | .agg _ => .junk
  | .tup _ => .junk
  | v => v
def rd1 : AVal → AVal
  | .agg cs => .agg (cs.map rdc)
  | v => rdc v
def rdv : AVal → AVal
  | .tup vs => .tup (vs.map rd1)
  | v => rd1 v
def remc : AVal → AVal
  | .lst .nil xs => .lst .nil xs
  | .lst (.uniq _ _) _ => .junk
  | .lst _ xs => .lst .sh xs
  | .agg _ => .junk
  | .tup _ => .junk
  | v => v

def noBox : AVal → Bool
  | .box .. => false
  | _ => true
def plainV : AVal → Bool
  | .box .. | .tup _ => false
  | _ => true
def storC : AVal → Bool
  | .box .. | .tup _ | .junk | .agg _ => false
  | _ => true
def storable : AVal → Bool
  | .agg cs => cs.all storC
  | v => storC v

abbrev AEnt := Nat × AVal × AVal
inductive HObj where
  | dead
  | cells (cs : List AVal)
  | map (clock : Nat) (es : List AEnt)
  | iter (m : Nat) (clock : Nat) (es left : List AEnt) (cur : Option Nat)
  deriving Inhabited

structure AState where
  env : Nat → AVal
  boxes : Nat → Option (List AVal)
  heap : List HObj

inductive Sh where
  | i (k : IntKind)
  | b
  | s
  deriving DecidableEq, Inhabited

inductive AOpn where
  | t (n : Nat)
  | c (v : AVal)
  deriving Inhabited

inductive HOp where
  | appendR (sz bytes : Nat) (x y : AOpn)
  | clearR (sz : Nat) (zero : AVal) (x : AOpn)
  | copyR (sz : Nat) (x y : AOpn)
  | callq (f : Nat) (args : List AOpn)
  | callvq (x : AOpn) (args : List AOpn)
  | callp (f : Nat) (args : List AOpn)
  | buildR (sz : Nat) (parts : List AOpn)
  | mkR (sz bytes : Nat) (zero : AVal) (x : AOpn)
  | appendZ (sz bytes : Nat) (x n : AOpn)
  | mkmap
  | mapset (ag : Bool) (sh : List Sh) (m k v : AOpn)
  | mapdel (ag : Bool) (sh : List Sh) (m k : AOpn)
  | mrange (m : AOpn)
  | mnext (it : AOpn)
  | mentry (it : AOpn)
  deriving Inhabited

inductive AOp where
  | move (take : Bool) (x : AOpn)
  | pick (c a b : AOpn)
  | alloc (fr : Bool) (zs : List AVal)
  | bx (take : Bool) (x : AOpn)
  | build (zero : List AVal) (parts : List (Nat × Nat × AOpn))
  | buildS (uq : Bool) (sz : Nat) (parts : List AOpn)
  | load (m : Nat) (ag : Bool) (sz : Nat) (x : AOpn)
  | loadX (m : Nat) (ag : Bool) (sz : Nat) (x : AOpn)
  | storeB (s sz : Nat) (p x : AOpn)
  | loadT (x : AOpn)
  | loadU (s : Nat) (x : AOpn)
  | store (sz : Nat) (p x : AOpn)
  | nilck (x : AOpn)
  | bin (op : BinOp) (x y : AOpn)
  | beq (neg : Bool) (x y : AOpn)
  | pnil (neg : Bool) (x : AOpn)
  | eqs (neg : Bool) (sh : List Sh) (x y : AOpn)
  | isnil (mp neg : Bool) (x : AOpn)
  | un (op : UnOp) (x : AOpn)
  | conv (k : IntKind) (x : AOpn)
  | b2s (x : AOpn)
  | s2b (x : AOpn)
  | same (x : AOpn)
  | slice (sz : Nat) (x : AOpn) (lo hi mx : Option AOpn)
  | sslice (x : AOpn) (lo hi : Option AOpn)
  | sliceT (sz : Nat) (t : Nat) (lo : Option AOpn)
  | str8 (t : Nat)
  | faddr (off : Nat) (x : AOpn)
  | field (ag : Bool) (off sz : Nat) (x : AOpn)
  | iaddr (sz : Nat) (x i : AOpn)
  | aaddr (n sz : Nat) (x i : AOpn)
  | idx (x i : AOpn)
  | aidx (ag : Bool) (n sz : Nat) (x i : AOpn)
  | ext (i : Nat) (x : AOpn)
  | extT (i : Nat) (t : Nat)
  | call (pr : Bool) (f : Nat) (args : List AOpn)
  | callv (pr : Bool) (x : AOpn) (args : List AOpn)
  | mkf (g : Nat) (caps : List AOpn)
  | append (sz bytes : Nat) (x y : AOpn)
  | len (x : AOpn)
  | slen (x : AOpn)
  | alen (n : Nat)
  | mn (x : AOpn) (ys : List AOpn)
  | mx (x : AOpn) (ys : List AOpn)
  | mkslice (sz bytes : Nat) (uq : Bool) (zero : AVal) (x : AOpn)
  | empt (x : AOpn)
  | sliceA (n sz : Nat) (x : AOpn) (lo hi : Option AOpn)
  | b2sR (x : AOpn)
  | capR (x : AOpn)
  | mkfq (g : Nat) (caps : List AOpn)
  | slnil (x hi : AOpn)
  | mlook (ok ag : Bool) (sh : List Sh) (zero : AVal) (m k : AOpn)
  | mlen (m : AOpn)
  | moveX (t : Nat)
  | bs0
  | hop (op : HOp)
  | refuse
  deriving Inhabited

structure AO where
  dst : Option Nat
  op : AOp
  guard : Option (Nat × Bool)
  deriving Inhabited

inductive ACode where
  | skip
  | region (l : List AO)
  | drawn (ix dn : List Nat) (l : List AO)
  | seq (a b : ACode)
  | cond (c : AOpn) (a b : ACode)
  | block (id : Nat) (a : ACode)
  | loop (a : ACode)
  | exit (id : Nat)
  | ret
  | kill (s : Nat) (a : ACode)
  | prom (s : Nat) (a : ACode)
  | thaw (s : Nat) (a : ACode)
  | own (s : Nat) (ag : Bool) (sz : Nat) (a : ACode)
  | grab (s : Nat) (a : ACode)
    | halt
  deriving Inhabited

structure FR where
  c : Prop
  v : AVal

def bitsV (op : BinOp) (k : IntKind) (x y : Int) : Int :=
  let a := BitVec.ofInt k.bits x
  let b := BitVec.ofInt k.bits y
  match op with
  | .and => k.wrap (a &&& b).toNat
  | .or => k.wrap (a ||| b).toNat
  | .xor => k.wrap (a ^^^ b).toNat
  | _ => k.wrap (a &&& ~~~b).toNat

def scEq : AVal → AVal → Bool
  | .int _ a, .int _ b => a == b
  | .bool a, .bool b => a == b
  | .str a, .str b => a.toList == b.toList
  | _, _ => false
def aggEq : List AVal → List AVal → Bool
  | a :: as, b :: bs => scEq a b && aggEq as bs
  | _, _ => true
def hasSh : List Sh → List AVal → Prop
  | [], [] => True
  | .i k :: s, .int k' _ :: cs => k' = k ∧ hasSh s cs
  | .b :: s, .bool _ :: cs => hasSh s cs
  | .s :: s, .str _ :: cs => hasSh s cs
  | _, _ => False

def binInt (op : BinOp) (k k' : IntKind) (a b : Int) : FR :=
  match op with
  | .shl => ⟨0 ≤ b, .int k (k.wrap (a * 2 ^ min b.toNat k.bits))⟩
  | .shr => ⟨0 ≤ b, .int k (a.fdiv (2 ^ min b.toNat k.bits))⟩
  | .add => ⟨k = k', .int k (k.wrap (a + b))⟩
  | .sub => ⟨k = k', .int k (k.wrap (a - b))⟩
  | .mul => ⟨k = k', .int k (k.wrap (a * b))⟩
  | .quo => ⟨k = k' ∧ b ≠ 0, .int k (k.wrap (a.tdiv b))⟩
  | .rem => ⟨k = k' ∧ b ≠ 0, .int k (a.tmod b)⟩
  | .and => ⟨k = k', .int k (bitsV .and k a b)⟩
  | .or => ⟨k = k', .int k (bitsV .or k a b)⟩
  | .xor => ⟨k = k', .int k (bitsV .xor k a b)⟩
  | .eql => ⟨k = k', .bool (a == b)⟩
  | .neq => ⟨k = k', .bool (a != b)⟩
  | .lss => ⟨k = k', .bool (decide (a < b))⟩
  | .leq => ⟨k = k', .bool (decide (a ≤ b))⟩
  | .gtr => ⟨k = k', .bool (decide (a > b))⟩
  | .geq => ⟨k = k', .bool (decide (a ≥ b))⟩
  | _ => ⟨False, .junk⟩
def binStr (op : BinOp) (a b : ByteArray) : FR :=
  match op with
  | .add => ⟨a.size + b.size ≤ 9223372036854775807, .str (a ++ b)⟩
  | .eql => ⟨True, .bool (a.toList == b.toList)⟩
  | .neq => ⟨True, .bool !(a.toList == b.toList)⟩
  | .lss => ⟨True, .bool (Op.bytesLess a.toList b.toList)⟩
  | .leq => ⟨True, .bool (Op.bytesLess a.toList b.toList || a.toList == b.toList)⟩
  | .gtr => ⟨True, .bool !(Op.bytesLess a.toList b.toList || a.toList == b.toList)⟩
  | .geq => ⟨True, .bool !(Op.bytesLess a.toList b.toList)⟩
  | _ => ⟨False, .junk⟩
def binV (op : BinOp) (x y : AVal) : FR :=
  match x, y with
  | .int k a, .int k' b => binInt op k k' a b
  | .str a, .str b => binStr op a b
  | _, _ => ⟨False, .junk⟩
def unV (op : UnOp) (x : AVal) : FR :=
  match op, x with
  | .not, .bool b => ⟨True, .bool (!b)⟩
  | .neg, .int k n => ⟨True, .int k (k.wrap (0 - n))⟩
  | .xor, .int k n => ⟨True, .int k (bitsV .xor k (if k.signed then -1 else k.max) n)⟩
  | _, _ => ⟨False, .junk⟩
def pickV (b : Bool) (x y : AVal) : AVal :=
  match x, y with
  | .bool p, .bool q => .bool (bif b then p else q)
  | x, y => bif b then x else y
def fillV (cs : List AVal) (off : Nat) (new : List AVal) : List AVal := cs.take off ++ new ++ cs.drop (off + new.length)
def buildV (r : AOpn → AVal) : List AVal → List (Nat × Nat × AOpn) → FR
  | cs, [] => ⟨True, .agg cs⟩
  | cs, (off, sz, x) :: rest =>
    let f := buildV r (fillV cs off (r x).cells) rest
    ⟨(r x).width = sz ∧ noBox (r x) = true ∧ off + sz ≤ cs.length ∧ f.c, f.v⟩
def at_ (xs : List AVal) (i : Int) : AVal := xs.getD i.toNat .junk
def byteOfV : AVal → UInt8
  | .int _ n => UInt8.ofNat n.toNat
  | _ => 0
def isByteV (v : AVal) : Prop := ∃ n, v = .int .u8 n
def strOfV (xs : List AVal) : ByteArray := ⟨(xs.map byteOfV).toArray⟩
def bytesV (s : ByteArray) : List AVal := s.data.toList.map fun b => .int .u8 b.toNat
def loV (r : AOpn → AVal) : Option AOpn → Option Int
  | none => some 0
  | some x => match r x with | .int _ n => some n | _ => none
def hiV (r : AOpn → AVal) (n : Nat) : Option AOpn → Option Int
  | none => some n
  | some x => match r x with | .int _ n => some n | _ => none
def sliceV (sz : Nat) (r : AOpn → AVal) (x : AVal) (lo hi mx : Option AOpn) : FR :=
  match x with
  | .lst _ xs =>
    match loV r lo, hiV r xs.length hi, mx with
    | some l, some h, none => ⟨0 ≤ l ∧ l ≤ h ∧ h ≤ xs.length ∧ (∀ x ∈ xs, x.width = sz), .lst .sh ((xs.drop l.toNat).take (h.toNat - l.toNat))⟩
    | some l, some h, some m => match r m with
      | .int _ q => ⟨l = 0 ∧ h = 0 ∧ q = 0 ∧ hi.isSome = true, .lst (.app sz) []⟩
      | _ => ⟨False, .junk⟩
    | _, _, _ => ⟨False, .junk⟩
  | .ref id off len cap =>
    match loV r lo, hiV r len hi, mx with
    | some l, some h, none => ⟨0 ≤ l ∧ l ≤ h ∧ h ≤ cap, .ref id (off + l.toNat * sz) (h.toNat - l.toNat) (cap - l.toNat)⟩
    | some l, some h, some m => match r m with
      | .int _ q => ⟨0 ≤ l ∧ l ≤ h ∧ h ≤ q ∧ q ≤ cap ∧ hi.isSome = true, .ref id (off + l.toNat * sz) (h.toNat - l.toNat) (q.toNat - l.toNat)⟩
      | _ => ⟨False, .junk⟩
    | _, _, _ => ⟨False, .junk⟩
  | _ => ⟨False, .junk⟩
def ssliceV (r : AOpn → AVal) (x : AVal) (lo hi : Option AOpn) : FR :=
  match x with
  | .str s =>
    match loV r lo, hiV r s.size hi with
    | some l, some h => ⟨0 ≤ l ∧ l ≤ h ∧ h ≤ s.size, .str (s.extract l.toNat h.toNat)⟩
    | _, _ => ⟨False, .junk⟩
  | _ => ⟨False, .junk⟩
def memV (bx : Nat → Option (List AVal)) (hp : List HObj) (ag : Bool) (sz : Nat) : AVal → FR
  | .cptr cs => if ag then ⟨sz ≤ cs.length, .agg ((cs.take sz).map rdc)⟩ else ⟨0 < cs.length, rdc (cs.headD .junk)⟩
  | .box s off => match bx s with
    | some cs => if ag then ⟨off + sz ≤ cs.length, .agg (((cs.drop off).take sz).map rdc)⟩ else ⟨off < cs.length, rdc (cs.getD off .junk)⟩
    | none => ⟨False, .junk⟩
  | .hp id off => match hp[id]? with
    | some (.cells cs) => if ag then ⟨off + sz ≤ cs.length, .agg (((cs.drop off).take sz).map rdc)⟩ else ⟨off < cs.length, rdc (cs.getD off .junk)⟩
    | _ => ⟨False, .junk⟩
  | _ => ⟨False, .junk⟩

def emptV (x : AVal) : FR := match x with | .lst _ _ | .ref .. => ⟨True, .ref 0 0 0 0⟩ | _ => ⟨False, .junk⟩
def sliceAV (n sz : Nat) (r : AOpn → AVal) (x : AVal) (lo hi : Option AOpn) : FR :=
  match x, loV r lo, hiV r n hi with
  | .hp id off, some l, some h => ⟨0 ≤ l ∧ l ≤ h ∧ h ≤ n, .ref id (off + l.toNat * sz) (h.toNat - l.toNat) (n - l.toNat)⟩
  | _, _, _ => ⟨False, .junk⟩
def srcH (sz : Nat) (hp : List HObj) : AVal → Option (Nat × List AVal)
  | .lst _ ys => some (ys.length, (ys.flatMap AVal.cells).map rdc)
  | .str s => some (s.size, bytesV s)
  | .ref id off len _ => if len = 0 then some (0, []) else match hp[id]? with
    | some (.cells cs) => if off + len * sz ≤ cs.length then some (len, ((cs.drop off).take (len * sz)).map rdc) else none
    | _ => none
  | _ => none
def srcW (sz : Nat) (hp : List HObj) : AVal → Prop
  | .lst _ ys => ∀ v ∈ ys, v.width = sz
  | .str _ => sz = 1
  | v => ∀ p, srcH sz hp v = some p → ∀ c ∈ p.2, storC c = true
def b2sRV (hp : List HObj) (x : AVal) : FR := match x with
  | .ref .. => match srcH 1 hp x with | some (_, xs) => ⟨∀ v ∈ xs, isByteV v, .str (strOfV xs)⟩ | none => ⟨False, .junk⟩
  | _ => ⟨False, .junk⟩
def capV (x : AVal) : FR := match x with
  | .lst .nil _ => ⟨True, .int .i64 0⟩
  | .ref _ _ _ cap => ⟨True, .int .i64 cap⟩
  | _ => ⟨False, .junk⟩
def repC (n : Nat) : List AVal → List AVal
  | [z] => List.replicate n z
  | zs => (List.replicate n zs).flatten

def slnilV (x hi : AVal) : FR := match x, hi with | .lst .nil _, .int _ n => ⟨n = 0, .lst .nil []⟩ | _, _ => ⟨False, .junk⟩
def keyOk (ag : Bool) (sh : List Sh) (k : AVal) : Prop := match k with | .agg cs => ag = true ∧ hasSh sh cs | k => ag = false ∧ hasSh sh [k]
def keq (a b : AVal) : Bool := aggEq a.cells b.cells
def msetL (k v : AVal) : List AEnt → Option (List AEnt)
  | [] => none
  | e :: es => if keq k e.2.1 then some ((e.1, k, v) :: es) else (msetL k v es).map (e :: ·)
def mput (clock : Nat) (es : List AEnt) (k v : AVal) : HObj :=
  match msetL k v es with
  | some es' => .map clock es'
  | none => .map (clock + 1) (es ++ [(clock, k, v)])
def mgetL (k : AVal) : List AEnt → Option AVal
  | [] => none
  | e :: es => if keq k e.2.1 then some e.2.2 else mgetL k es
def mdelL (k : AVal) : List AEnt → List AEnt
  | [] => []
  | e :: es => if keq k e.2.1 then es else e :: mdelL k es
def mresV (ok : Bool) (zero : AVal) (r : Option AVal) : AVal :=
  match r with
  | some v => if ok then .tup [v, .bool true] else v
  | none => if ok then .tup [zero, .bool false] else zero
def mlookV (hp : List HObj) (ok ag : Bool) (sh : List Sh) (zero : AVal) (m k : AVal) : FR := match m with
  | .nilmap => ⟨keyOk ag sh k, mresV ok zero none⟩
  | .map id => match hp[id]? with
    | some (.map _ es) => ⟨keyOk ag sh k ∧ ∀ e ∈ es, keyOk ag sh e.2.1, mresV ok zero (mgetL k es)⟩
    | _ => ⟨False, .junk⟩
  | _ => ⟨False, .junk⟩
def mlenV (hp : List HObj) (m : AVal) : FR := match m with
  | .nilmap => ⟨True, .int .i64 0⟩
  | .map id => match hp[id]? with
    | some (.map _ es) => ⟨True, .int .i64 es.length⟩
    | _ => ⟨False, .junk⟩
  | _ => ⟨False, .junk⟩

def memLv : AVal → Nat | .cptr _ => 0 | .box .. => 1 | _ => 2
def onlyV : Nat → AVal → Prop
  | 0, .hp .. => True
  | s + 1, .box q _ => q = s
  | _, _ => False
def nilckV (x : AVal) : FR := match x with | .box .. | .hp .. | .cptr _ | .func .. => ⟨True, x⟩ | _ => ⟨False, .junk⟩
def pickF (c a b : AVal) : FR := match c with | .bool t => ⟨True, pickV t a b⟩ | _ => ⟨False, .junk⟩
def beqV (neg : Bool) (x y : AVal) : FR := match x, y with | .bool a, .bool b => ⟨True, .bool ((a == b) != neg)⟩ | _, _ => ⟨False, .junk⟩
def pnilV (neg : Bool) (x : AVal) : FR := match x with | .nilptr => ⟨True, .bool (!neg)⟩ | .hp _ _ | .box _ _ | .cptr _ => ⟨True, .bool neg⟩ | _ => ⟨False, .junk⟩
def eqsV (neg : Bool) (sh : List Sh) (x y : AVal) : FR := match x, y with | .agg a, .agg b => ⟨hasSh sh a ∧ hasSh sh b, .bool (aggEq a b != neg)⟩ | _, _ => ⟨False, .junk⟩
def convV (k : IntKind) (x : AVal) : FR := match x with | .int _ n => ⟨True, .int k (k.wrap n)⟩ | _ => ⟨False, .junk⟩
def b2sV (x : AVal) : FR := match x with | .lst _ xs => ⟨∀ v ∈ xs, isByteV v, .str (strOfV xs)⟩ | _ => ⟨False, .junk⟩
def s2bV (x : AVal) : FR := match x with | .str s => ⟨s.size ≤ 70368744177664, .lst (.app 1) (bytesV s)⟩ | _ => ⟨False, .junk⟩
def sameV (x : AVal) : FR := match x with | .str s => ⟨True, .str s⟩ | _ => ⟨False, .junk⟩
def faddrV (off : Nat) (x : AVal) : FR := match x with | .box s o => ⟨True, .box s (o + off)⟩ | .hp i o => ⟨True, .hp i (o + off)⟩ | .cptr cs => ⟨True, .cptr (cs.drop off)⟩ | _ => ⟨False, .junk⟩
def fieldV (ag : Bool) (off sz : Nat) (x : AVal) : FR := match x with
  | .agg cs => if ag then ⟨off + sz ≤ cs.length, .agg ((cs.drop off).take sz)⟩ else ⟨off < cs.length, cs.getD off .junk⟩
  | _ => ⟨False, .junk⟩
def iaddrV (sz : Nat) (x i : AVal) : FR := match x, i with
  | .lst _ xs, .int _ n => ⟨0 ≤ n ∧ n < xs.length ∧ (at_ xs n).width = sz, .cptr (at_ xs n).cells⟩
  | .ref id off len _, .int _ n => ⟨0 ≤ n ∧ n < len, .hp id (off + n.toNat * sz)⟩
  | _, _ => ⟨False, .junk⟩
def aaddrV (m sz : Nat) (x i : AVal) : FR := match x, i with
  | .box s o, .int _ n => ⟨0 ≤ n ∧ n < m, .box s (o + n.toNat * sz)⟩
  | .hp id o, .int _ n => ⟨0 ≤ n ∧ n < m, .hp id (o + n.toNat * sz)⟩
  | .cptr cs, .int _ n => ⟨0 ≤ n ∧ n < m, .cptr (cs.drop (n.toNat * sz))⟩
  | _, _ => ⟨False, .junk⟩
def idxV (x i : AVal) : FR := match x, i with
  | .str s, .int _ n => ⟨0 ≤ n ∧ n < s.size, .int .u8 (s.data.toList.getD n.toNat 0).toNat⟩
  | _, _ => ⟨False, .junk⟩
def aidxV (ag : Bool) (m sz : Nat) (x i : AVal) : FR := match x, i with
  | .agg cs, .int _ n => if ag then ⟨0 ≤ n ∧ n < m ∧ n.toNat * sz + sz ≤ cs.length, .agg ((cs.drop (n.toNat * sz)).take sz)⟩
      else ⟨0 ≤ n ∧ n < m ∧ n.toNat * sz < cs.length, cs.getD (n.toNat * sz) .junk⟩
  | _, _ => ⟨False, .junk⟩
def extV (i : Nat) (x : AVal) : FR := match x with | .tup vs => ⟨i < vs.length, vs.getD i .junk⟩ | _ => ⟨False, .junk⟩
def lenV (x : AVal) : FR := match x with
  | .lst _ xs => ⟨True, .int .i64 xs.length⟩
  | .ref _ _ len _ => ⟨True, .int .i64 len⟩
  | _ => ⟨False, .junk⟩
def slenV (x : AVal) : FR := match x with | .str s => ⟨True, .int .i64 s.size⟩ | _ => ⟨False, .junk⟩
def mnV (x y : AVal) : FR := match x, y with | .int k a, .int _ b => ⟨True, .int k (if b < a then b else a)⟩ | _, _ => ⟨False, .junk⟩
def mxV (x y : AVal) : FR := match x, y with | .int k a, .int _ b => ⟨True, .int k (if a < b then b else a)⟩ | _, _ => ⟨False, .junk⟩
def foldV (f : AVal → AVal → FR) : AVal → List AVal → FR
  | x, [] => ⟨True, x⟩
  | x, y :: ys => ⟨(f x y).c ∧ (foldV f (f x y).v ys).c, (foldV f (f x y).v ys).v⟩
def mksliceV (sz bytes : Nat) (uq : Bool) (zero x : AVal) : FR := match x with
  | .int _ n => ⟨0 ≤ n ∧ n * bytes ≤ 140737488355328 ∧ n ≤ 140737488355328, .lst (if uq then .uniq sz n.toNat else .app sz) (List.replicate n.toNat zero)⟩
  | _ => ⟨False, .junk⟩

def fev (r : AOpn → AVal) (bx : Nat → Option (List AVal)) (hp : List HObj) : AOp → Option FR
  | .move false x => some ⟨True, r x⟩
  | .pick c a b => some (pickF (r c) (r a) (r b))
  | .build zero parts => some (buildV r zero parts)
  | .buildS uq sz parts => some ⟨(∀ x ∈ parts, (r x).width = sz ∧ storable (r x) = true) ∧ parts.length * sz ≤ 16777216, .lst (if uq then .uniq sz parts.length else .app sz) (parts.map r)⟩
  | .load m ag sz x => some ⟨memLv (r x) ≤ m ∧ (memV bx hp ag sz (r x)).c, (memV bx hp ag sz (r x)).v⟩
  | .loadX m ag sz x => some ⟨onlyV m (r x) ∧ (memV bx hp ag sz (r x)).c, (memV bx hp ag sz (r x)).v⟩
  | .nilck x => some (nilckV (r x))
  | .bin op x y => some (binV op (r x) (r y))
  | .beq neg x y => some (beqV neg (r x) (r y))
  | .pnil neg x => some (pnilV neg (r x))
  | .eqs neg sh x y => some (eqsV neg sh (r x) (r y))
  | .un op x => some (unV op (r x))
  | .conv k x => some (convV k (r x))
  | .b2s x => some (b2sV (r x))
  | .s2b x => some (s2bV (r x))
  | .same x => some (sameV (r x))
  | .slice sz x lo hi mx => some (sliceV sz r (r x) lo hi mx)
  | .sslice x lo hi => some (ssliceV r (r x) lo hi)
  | .faddr off x => some (faddrV off (r x))
  | .field ag off sz x => some (fieldV ag off sz (r x))
  | .iaddr sz x i => some (iaddrV sz (r x) (r i))
  | .aaddr m sz x i => some (aaddrV m sz (r x) (r i))
  | .idx x i => some (idxV (r x) (r i))
  | .aidx ag m sz x i => some (aidxV ag m sz (r x) (r i))
  | .ext i x => some (extV i (r x))
  | .len x => some (lenV (r x))
  | .slen x => some (slenV (r x))
  | .alen n => some ⟨True, .int .i64 n⟩
  | .mn x ys => some (foldV mnV (r x) (ys.map r))
  | .mx x ys => some (foldV mxV (r x) (ys.map r))
  | .mkslice sz bytes uq zero x => some (mksliceV sz bytes uq zero (r x))
  | .empt x => some (emptV (r x))
  | .sliceA n sz x lo hi => some (sliceAV n sz r (r x) lo hi)
  | .b2sR x => some (b2sRV hp (r x))
  | .capR x => some (capV (r x))
  | .mkfq g caps => some ⟨∀ x ∈ caps, storable (r x) = true ∧ (r x).width = 1, .func g (caps.map r)⟩
  | .slnil x hi => some (slnilV (r x) (r hi))
  | .mlook ok ag sh zero m k => some (mlookV hp ok ag sh zero (r m) (r k))
  | .mlen m => some (mlenV hp (r m))
  | .bs0 => some ⟨True, .ref 0 0 0 0⟩
  | _ => none

def AState.put (S : AState) (d : Option Nat) (v : AVal) : AState :=
  match d with
  | some d => { S with env := fun t => if t = d then v else S.env t }
  | none => S
def AState.set (S : AState) (d : Nat) (v : AVal) : AState := { S with env := fun t => if t = d then v else S.env t }
def AState.setBox (S : AState) (s : Nat) (cs : Option (List AVal)) : AState := { S with boxes := fun t => if t = s then cs else S.boxes t }
def AState.rd (S : AState) : AOpn → AVal
  | .t n => rdv (S.env n)
  | .c v => rdv v
def AState.drop (S : AState) (s : Nat) : AState :=
  { S with env := fun t => match S.env t with | .box s' o => if s' = s then .junk else .box s' o | v => v }
def AState.promote (S : AState) (s : Nat) : AState :=
  match S.boxes s with
  | some cs => { env := fun t => match S.env t with | .box s' o => if s' = s then .hp S.heap.length o else .box s' o | v => v,
                 boxes := fun t => if t = s then none else S.boxes t, heap := S.heap ++ [.cells cs] }
  | none => S
def AState.promAll (S : AState) : List AOpn → AState
  | [] => S
  | .t n :: rest => (match S.env n with | .box s _ => S.promote s | _ => S).promAll rest
  | .c _ :: rest => S.promAll rest


abbrev CallS := Nat → List AVal → List HObj → (AVal → List HObj → Prop) → Prop

def flC : AVal → Bool
  | .lst (.app _) _ | .lst (.uniq _ _) _ => false
  | _ => true
def growV (hp : List HObj) (sz : Nat) (old ys : List AVal) (m : Nat) (K : AVal → List HObj → Prop) : Prop :=
  ∀ cap, m ≤ cap → K (.ref hp.length 0 m cap) (hp ++ [.cells (old ++ ys ++ List.replicate ((cap - m) * sz) .junk)])
def hstep (C : CallS) (r : AOpn → AVal) (hp : List HObj) (op : HOp) (K : AVal → List HObj → Prop) : Prop :=
  match op with
  | .appendR sz bytes x y => match srcH sz hp (r y) with
    | some (k, ys) => srcW sz hp (r y) ∧ (match r x with
      | .lst .nil _ => k * bytes ≤ 140737488355328 ∧ k ≤ 140737488355328 ∧ (k = 0 → K (.ref 0 0 0 0) hp) ∧ (k ≠ 0 → growV hp sz [] ys k K)
      | .ref id off len cap => (len + k) * bytes ≤ 140737488355328 ∧ len + k ≤ 140737488355328 ∧ (k = 0 → K (.ref id off len cap) hp) ∧
          (k ≠ 0 → len + k ≤ cap → match hp[id]? with
            | some (.cells cs) => off + cap * sz ≤ cs.length ∧ K (.ref id off (len + k) cap) (hp.set id (.cells (fillV cs (off + len * sz) ys)))
            | _ => False) ∧
          (k ≠ 0 → cap < len + k → match srcH sz hp (.ref id off len cap) with
            | some (_, old) => growV hp sz old ys (len + k) K
            | none => False)
      | _ => False)
    | none => False
  | .clearR sz zero x => match r x with
    | .lst _ xs => xs = [] ∧ K (.tup []) hp
    | .ref id off len _ => (len = 0 → K (.tup []) hp) ∧ (len ≠ 0 → match hp[id]? with
      | some (.cells cs) => off + len * sz ≤ cs.length ∧ K (.tup []) (hp.set id (.cells (fillV cs off (repC len zero.cells))))
      | _ => False)
    | _ => False
  | .copyR sz x y => match srcH sz hp (r y) with
    | some (k, ys) => srcW sz hp (r y) ∧ (match r x with
      | .lst _ xs => (xs = [] ∨ k = 0) ∧ K (.int .i64 0) hp
      | .ref id off len _ => (len = 0 ∨ k = 0 → K (.int .i64 0) hp) ∧ (len ≠ 0 → k ≠ 0 → match hp[id]? with
        | some (.cells cs) => off + min k len * sz ≤ cs.length ∧ K (.int .i64 (min k len : Nat)) (hp.set id (.cells (fillV cs off (ys.take (min k len * sz)))))
        | _ => False)
      | _ => False)
    | none => False
  | .callq f args => (∀ x ∈ args, noBox (r x) = true) ∧ C f (args.map r) hp (fun v h => h = hp ∧ (noBox v = true → K v h))
  | .callvq x args => match r x with
    | .func g caps => (∀ x ∈ args, noBox (r x) = true) ∧ C g (args.map r ++ caps.map rdc) hp (fun v h => h = hp ∧ (noBox v = true → K v h))
    | _ => False
  | .callp f args => (∀ x ∈ args, noBox (r x) = true) ∧ ∃ R : AVal → Prop, (∀ hp', C f (args.map r) hp' (fun v h => h = hp' ∧ R v)) ∧ ∀ v, R v → noBox v = true → K v hp
  | .buildR sz ps => (∀ x ∈ ps, (r x).width = sz ∧ storable (r x) = true ∧ (r x).cells.all flC = true) ∧ ps.length * sz ≤ 16777216 ∧ K (.ref hp.length 0 ps.length ps.length) (hp ++ [.cells ((ps.map r).flatMap AVal.cells)])
  | .mkR sz bytes zero x => match r x with
    | .int _ n => 0 ≤ n ∧ n * bytes ≤ 140737488355328 ∧ n ≤ 140737488355328 ∧ K (.ref hp.length 0 n.toNat n.toNat) (hp ++ [.cells ((List.replicate n.toNat zero).flatMap AVal.cells)])
    | _ => False
  | .appendZ sz bytes x n => match r x, r n with
    | .lst .nil _, .int _ m => 0 ≤ m ∧ m.toNat * bytes ≤ 140737488355328 ∧ m.toNat ≤ 140737488355328 ∧ (m = 0 → K (.ref 0 0 0 0) hp) ∧
        (m ≠ 0 → ∀ cap, m.toNat ≤ cap → K (.ref hp.length 0 m.toNat cap) (hp ++ [.cells (List.replicate (cap * sz) .junk)]))
    | _, _ => False
  | .mkmap => K (.map hp.length) (hp ++ [.map 0 []])
  | .mapset ag sh m k v => match r m with
    | .map id => match hp[id]? with
      | some (.map clock es) => keyOk ag sh (r k) ∧ (∀ e ∈ es, keyOk ag sh e.2.1) ∧ plainV (r v) = true ∧ K (.tup []) (hp.set id (mput clock es (r k) (r v)))
      | _ => False
    | _ => False
  | .mapdel ag sh m k => match r m with
    | .map id => match hp[id]? with
      | some (.map clock es) => keyOk ag sh (r k) ∧ (∀ e ∈ es, keyOk ag sh e.2.1) ∧ K (.tup []) (hp.set id (.map clock (mdelL (r k) es)))
      | _ => False
    | .nilmap => keyOk ag sh (r k) ∧ K (.tup []) hp
    | _ => False
  | .mrange m => match r m with
    | .map id => match hp[id]? with
      | some (.map clock es) => K (.hp hp.length 0) (hp ++ [.iter id clock es es none])
      | _ => False
    | _ => False
  | .mnext it => match r it with
    | .hp i 0 => match hp[i]? with
      | some (.iter m clock es left _) => match hp[m]? with
        | some (.map clock' es') => clock' = clock ∧ es' = es ∧ (left = [] → K (.tup [.bool false]) hp) ∧
            (∀ e ∈ left, K (.tup [.bool true, e.2.1, e.2.2]) (hp.set i (.iter m clock es (left.filter fun x => x.1 != e.1) (some e.1))))
        | _ => False
      | _ => False
    | _ => False
  | .mentry it => match r it with
    | .hp i 0 => match hp[i]? with
      | some (.iter m clock es _ (some st)) => match hp[m]? with
        | some (.map clock' es') => clock' = clock ∧ es' = es ∧ (match es.find? (fun x => x.1 == st) with | some e => K (.tup [e.2.1, e.2.2]) hp | none => False)
        | _ => False
      | _ => False
    | _ => False

def storeV (S : AState) (p : AVal) (sz : Nat) (cs : List AVal) (K : AState → Prop) : Prop :=
  match p with
  | .box s off => match S.boxes s with
    | some old => cs.length = sz ∧ off + sz ≤ old.length ∧ K (S.setBox s (some (fillV old off cs)))
    | none => False
  | .hp id off => match S.heap[id]? with
    | some (.cells old) => cs.length = sz ∧ off + sz ≤ old.length ∧ K { S with heap := S.heap.set id (.cells (fillV old off cs)) }
    | _ => False
  | _ => False
def remV : AVal → AVal
  | .agg cs => .agg (cs.map remc)
  | .tup _ => .junk
  | v => remc v
def AState.takeT (S : AState) : AOpn → AState
  | .t n => S.set n (remV (S.env n))
  | .c _ => S
def AState.full (S : AState) : AOpn → AVal
  | .t n => S.env n
  | .c v => v
def srcV : AVal → Option (List AVal)
  | .lst _ ys => some ys
  | .str s => some (bytesV s)
  | _ => none

def isnilV (mp : Bool) (x : AVal) (K : Bool → Prop) : Prop :=
  match x with
  | .lst .nil _ => mp = false ∧ K true
  | .lst _ xs => mp = false ∧ ∀ b : Bool, (xs ≠ [] → b = false) → K b
  | .ref _ _ _ cap => mp = false ∧ ∀ b : Bool, (cap ≠ 0 → b = false) → K b
  | .nilmap => mp = true ∧ K true
  | .map _ => mp = true ∧ K false
  | _ => False
theorem isnilV_mono {mp : Bool} {x : AVal} {K K' : Bool → Prop} (hm : ∀ b, K b → K' b) (h : isnilV mp x K) : isnilV mp x K' := by
  unfold isnilV at h ⊢
  split at h <;> first | exact ⟨h.1, hm _ h.2⟩ | exact ⟨h.1, fun b hb => hm _ (h.2 b hb)⟩ | exact h.elim
def AState.live (S : AState) : AVal → Prop
  | .box s _ => (S.boxes s).isSome = true
  | _ => True
def astep (C : CallS) (op : AOp) (d : Option Nat) (S : AState) (K : AState → Prop) : Prop :=
  match fev S.rd S.boxes S.heap op with
  | some f => f.c ∧ S.live f.v ∧ K (S.put d f.v)
  | none =>
    match op with
    | .move true x => match S.full x with
      | .tup _ => False
      | v => K ((S.takeT x).put d v)
    | .moveX t => K ((S.set t (remV (S.env t))).put d (S.env t))
    | .alloc fr zs => match d with
      | some s => (fr = true → S.boxes s = none) ∧ K (((S.drop s).setBox s (some zs)).set s (.box s 0))
      | none => False
    | .bx true x => match d with
      | some s => storable (S.full x) = true ∧ K ((((S.takeT x).drop s).setBox s (some (S.full x).cells)).set s (.box s 0))
      | none => False
    | .bx false x => match d with
      | some s => storable (S.rd x) = true ∧ K (((S.drop s).setBox s (some (S.rd x).cells)).set s (.box s 0))
      | none => False
    | .loadT x => match S.rd x with
      | .box s off => match S.boxes s with
        | some cs => off < cs.length ∧ storC (cs.getD off .junk) = true ∧ K ((S.setBox s (some (cs.set off (remc (cs.getD off .junk))))).put d (cs.getD off .junk))
        | none => False
      | .hp id off => match S.heap[id]? with
        | some (.cells cs) => off < cs.length ∧ storC (cs.getD off .junk) = true ∧ K ({ S with heap := S.heap.set id (.cells (cs.set off (remc (cs.getD off .junk)))) }.put d (cs.getD off .junk))
        | _ => False
      | _ => False
    | .loadU s' x => onlyV (s' + 1) (S.rd x) ∧ (match S.rd x with
      | .box s off => match S.boxes s with
        | some cs => off < cs.length ∧ storC (cs.getD off .junk) = true ∧ K ((S.setBox s (some (cs.set off (remc (cs.getD off .junk))))).put d (cs.getD off .junk))
        | none => False
      | .hp id off => match S.heap[id]? with
        | some (.cells cs) => off < cs.length ∧ storC (cs.getD off .junk) = true ∧ K ({ S with heap := S.heap.set id (.cells (cs.set off (remc (cs.getD off .junk)))) }.put d (cs.getD off .junk))
        | _ => False
      | _ => False)
    | .store sz p x => storable (S.full x) = true ∧ storeV (S.takeT x) (S.rd p) sz (S.full x).cells K
    | .storeB s sz p x => onlyV (s + 1) (S.rd p) ∧ storable (S.full x) = true ∧ storeV (S.takeT x) (S.rd p) sz (S.full x).cells K
    | .isnil mp neg x => isnilV mp (S.rd x) (fun b => K (S.put d (.bool (b != neg))))
    | .sliceT sz t lo => match S.env t, loV S.rd lo with
      | .lst (.app sz') xs, some l => sz' = sz ∧ 0 ≤ l ∧ l ≤ xs.length ∧ K ((S.set t (.lst .sh xs)).put d (.lst (.app sz) (xs.drop l.toNat)))
      | _, _ => False
    | .str8 t => match S.env t with
      | .lst (.uniq 1 _) xs => xs ≠ [] ∧ K ((S.set t .junk).put d (.lst (.app 1) xs))
      | _ => False
    | .extT i t => match S.env t with
      | .tup vs => i < vs.length ∧ plainV (vs.getD i .junk) = true ∧ K ((S.set t (.tup (vs.set i .junk))).put d (vs.getD i .junk))
      | _ => False
    | .append sz bytes x y => match S.full x, srcV (S.rd y) with
      | .lst o xs, some ys => (match o with | .nil => xs = [] | .app sz' => sz' = sz | .uniq sz' _ => sz' = sz | .sh => False) ∧
          (∀ v ∈ ys, v.width = sz) ∧ (xs.length + ys.length) * bytes ≤ 140737488355328 ∧ xs.length + ys.length ≤ 140737488355328 ∧
          K ((S.takeT x).put d (.lst (.app sz) (xs ++ ys)))
      | _, _ => False
    | .call pr f args =>
      let S1 := if pr then S.promAll args else S
      (∀ x ∈ args, noBox (S1.rd x) = true) ∧ C f (args.map S1.rd) S1.heap (fun r h => noBox r = true → K ({ S1 with heap := h }.put d r))
    | .callv pr x args =>
      let S1 := if pr then S.promAll args else S
      match S1.rd x with
      | .func g caps => (∀ x ∈ args, noBox (S1.rd x) = true) ∧ C g (args.map S1.rd ++ caps.map rdc) S1.heap (fun r h => noBox r = true → K ({ S1 with heap := h }.put d r))
      | _ => False
    | .mkf g caps =>
      let S1 := S.promAll caps
      (∀ x ∈ caps, storable (S1.rd x) = true ∧ (S1.rd x).width = 1) ∧ K (S1.put d (.func g (caps.map S1.rd)))
    | .hop op => hstep C S.rd S.heap op (fun v h => noBox v = true → K ({ S with heap := h }.put d v))
    | _ => False

def aops (C : CallS) : List AO → AState → (AState → Prop) → Prop
  | [], S, K => K S
  | o :: os, S, K =>
    match o.guard with
    | none => astep C o.op o.dst S (fun S' => aops C os S' K)
    | some (j, want) => match S.env j with
      | .bool b => (b = want → astep C o.op o.dst S (fun S' => aops C os S' K)) ∧ (b ≠ want → aops C os (S.put o.dst (.tup [])) K)
      | .tup [] => aops C os (S.put o.dst (.tup [])) K
      | _ => False

inductive AExit where
  | normal
  | exit (id : Nat)
  | ret
  deriving DecidableEq

def AExit.then (next : AState → Prop) (Q : AExit → AState → Prop) : AExit → AState → Prop
  | .normal, S => next S
  | e, S => Q e S
def AExit.inBlock (id : Nat) (Q : AExit → AState → Prop) : AExit → AState → Prop
  | .exit id', S => if id' = id then Q .normal S else Q (.exit id') S
  | e, S => Q e S

def chunkV (ag : Bool) (sz : Nat) : List AVal → Nat → List AVal
  | _, 0 => []
  | cs, k + 1 => (if ag then .agg (cs.take sz) else cs.headD .junk) :: chunkV ag sz (cs.drop sz) k
def alS : List AO → List Nat
  | [] => []
  | o :: os => (match o.op, o.dst with | .alloc true _, some s => [s] | _, _ => []) ++ alS os
def aw (C : CallS) : ACode → (AExit → AState → Prop) → AState → Prop
  | .skip, Q, S => Q .normal S
  | .region l, Q, S => aops C l S (Q .normal)
  | .drawn _ _ l, Q, S => (∀ s ∈ alS l, S.boxes s = none) ∧ aops C l S (Q .normal)
  | .seq a b, Q, S => aw C a (AExit.then (aw C b Q) Q) S
  | .cond c a b, Q, S => match S.rd c with
    | .bool t => (t = true → aw C a Q S) ∧ (t = false → aw C b Q S)
    | _ => False
  | .block id a, Q, S => aw C a (AExit.inBlock id Q) S
  | .loop a, Q, S => ∃ (I : AState → Prop) (μ : AState → Nat), I S ∧ ∀ S', I S' → aw C a (AExit.then (fun S'' => I S'' ∧ μ S'' < μ S') Q) S'
  | .exit id, Q, S => Q (.exit id) S
  | .ret, Q, S => Q .ret S
  | .kill s a, Q, S => aw C a Q ((S.drop s).setBox s none)
  | .prom s a, Q, S => aw C a Q (S.promote s)
  | .thaw s a, Q, S => match S.env s with
    | .lst (.uniq sz cap) xs => 0 < sz ∧ (∀ x ∈ xs, x.width = sz ∧ x.cells.all flC = true) ∧ xs.length ≤ cap ∧
        aw C a Q (({ S with heap := S.heap ++ [.cells (xs.flatMap AVal.cells ++ List.replicate ((cap - xs.length) * sz) .junk)] } : AState).set s (.ref S.heap.length 0 xs.length cap))
    | .lst .nil _ => aw C a Q S
    | _ => False
  | .own s ag sz a, Q, S => match S.env s with
    | .ref id off len cap => if cap = 0 then aw C a Q (S.set s (.lst (.uniq sz 0) [])) else match S.heap[id]? with
      | some (.cells cs) => (ag = false → sz = 1) ∧ 0 < sz ∧ off + cap * sz ≤ cs.length ∧ len ≤ cap ∧ ((cs.drop off).take (len * sz)).all (fun c => storC (rdc c)) = true ∧
          aw C a Q (({ S with heap := S.heap.set id .dead } : AState).set s (.lst (.uniq sz cap) (chunkV ag sz (((cs.drop off).take (len * sz)).map rdc) len)))
      | _ => False
    | .lst .nil _ => aw C a Q S
    | _ => False
  | .grab s a, Q, S => match S.env s with
    | .lst (.uniq sz _) xs => aw C a Q (S.set s (.lst (.app sz) xs))
    | .lst .nil _ => aw C a Q S
    | _ => False
  | .halt, _, _ => False

inductive ARes where
  | t (n : Nat)
  | c (a : Nat) (ag : Bool) (sz : Nat)
  deriving DecidableEq, Inhabited
def ARes.slot : ARes → Nat
  | .t n => n
  | .c a _ _ => a
def resV (S : AState) : ARes → FR
  | .t n => ⟨plainV (S.env n) = true, S.env n⟩
  | .c a ag sz => match S.env a with
    | .box s 0 => match S.boxes s with
      | some cs => if ag then ⟨s = a ∧ cs.length = sz, .agg cs⟩ else ⟨s = a ∧ cs.length = 1 ∧ plainV (rdc (cs.headD .junk)) = true, rdc (cs.headD .junk)⟩
      | none => ⟨False, .junk⟩
    | .hp id off => ⟨(memV S.boxes S.heap ag sz (.hp id off)).c ∧ plainV (memV S.boxes S.heap ag sz (.hp id off)).v = true, (memV S.boxes S.heap ag sz (.hp id off)).v⟩
    | _ => ⟨False, .junk⟩
def ress (S : AState) : List ARes → FR
  | [r] => resV S r
  | rs => ⟨∀ r ∈ rs, (resV S r).c, .tup (rs.map fun r => (resV S r).v)⟩
def retQ (rs : List ARes) (Q : AVal → List HObj → Prop) : AExit → AState → Prop
  | .exit _, _ => False
  | _, S => (ress S rs).c ∧ Q (ress S rs).v S.heap
def AState.start (vs : List AVal) (h : List HObj) : AState := ⟨fun t => vs.getD t .junk, fun _ => none, h⟩

end Go.Ge
namespace Go.Ge

inductive Ow where
  | no
  | other
  | slot (t : Nat) (p : List Nat)
  | box (s : Nat)
  | boxc (s : Nat) (p : List Nat)
  | obj (id : Nat)
  | objc (id : Nat) (p : List Nat)
  | ret (p : List Nat)
  deriving DecidableEq

structure Gh where
  fr : Nat → Nat
  ow : Nat → Ow
  io : Nat → Nat × Nat
  ib : Nat → Nat
  nh : Nat

def St (g : Gh) (w : World) (b o : Nat) (v : Value) : Prop := o < g.fr b ∧ w.cell? ⟨b, o, none⟩ = some v ∧ v.oneCell' = true

def Cont (g : Gh) (w : World) (A : Option Addr) (us : List Value) : Prop :=
  ∃ sz, (∀ u ∈ us, u.cells.size = sz) ∧ (us ≠ [] → ∃ b off, A = some ⟨b, off, none⟩ ∧
    ∀ i u j x, us[i]? = some u → u.cells[j]? = some x → St g w b (off + i * sz + j) x)

mutual
def RI (g : Gh) (w : World) : AVal → Value → Prop
  | .junk, _ => True
  | .int k n, v => v = .int k n
  | .bool b, v => v = .bool b
  | .str s, v => v = .string s
  | .agg cs, v => ∃ us, v = .agg us ∧ RIs g w cs us.toList
  | .tup vs, v => ∃ us, v = .tuple us ∧ RIs g w vs us.toList
  | .lst o xs, v => ∃ A c us, v = .slice A us.length c ∧ us.length ≤ c ∧ RIs g w xs us ∧ Cont g w A us ∧ (match o with | .nil => A = none ∧ c = 0 | _ => True)
  | .cptr cs, v => ∃ b off us, v = .pointer (some ⟨b, off, none⟩) ∧ RIs g w cs us ∧ ∀ j u, us[j]? = some u → St g w b (off + j) u
  | .box _ _, _ => False
  | .hp id off, v => id < g.nh ∧ v = .pointer (some ⟨(g.io id).1, (g.io id).2 + off, none⟩)
  | .ref id off len cap, v => ∃ A, v = .slice A len cap ∧ len ≤ cap ∧ (cap ≠ 0 → id < g.nh ∧ A = some ⟨(g.io id).1, (g.io id).2 + off, none⟩)
  | .nilptr, v => v = .pointer none
  | .func f caps, v => ∃ us, v = .func (.func f) #[] us ∧ RIs g w caps us.toList
  | .map id, v => id < g.nh ∧ v = .map (some (g.io id).1)
  | .nilmap, v => v = .map none
def RIs (g : Gh) (w : World) : List AVal → List Value → Prop
  | [], us => us = []
  | a :: as, us => ∃ u us', us = u :: us' ∧ RI g w a u ∧ RIs g w as us'
end

def Unfr (n : Nat) (fz : Nat × Nat) : Prop := fz.1 = fz.2 ∨ n ≤ fz.1
theorem Unfr.at {n : Nat} {fz : Nat × Nat} (h : Unfr n fz) (i : Nat) (hi : i < n) : ¬ (fz.1 ≤ i ∧ i < fz.2) := by
  rcases h with h | h <;> omega

def Spare (g : Gh) (w : World) (o : Ow) (A : Option Addr) (n c sz : Nat) : Prop :=
  ∃ b off cur e fz, A = some ⟨b, off, none⟩ ∧ g.ow b = o ∧ g.fr b ≤ off + n * sz ∧ w.heap[b]? = some (.cells cur e fz) ∧ off + c * sz ≤ cur.size ∧ Unfr cur.size fz
def Uniq (g : Gh) (w : World) (o : Ow) (A : Option Addr) (us : List Value) (c sz : Nat) : Prop :=
  ∃ b off cur e fz, A = some ⟨b, off, none⟩ ∧ g.ow b = o ∧ g.fr b ≤ off ∧ w.heap[b]? = some (.cells cur e fz) ∧ off + c * sz ≤ cur.size ∧ Unfr cur.size fz ∧
    ∀ i u j x, us[i]? = some u → u.cells[j]? = some x → cur[off + i * sz + j]? = some x ∧ x.oneCell' = true

def RVc (g : Gh) (w : World) (o : Ow) (x : AVal) (v : Value) : Prop :=
  match x with
  | .lst (.app sz) xs => ∃ A c us, v = .slice A us.length c ∧ us.length ≤ c ∧ RIs g w xs us ∧ (∀ u ∈ us, u.cells.size = sz) ∧ Cont g w A us ∧ (us.length = c ∨ Spare g w o A us.length c sz)
  | .lst (.uniq sz c) xs => ∃ A us, v = .slice A us.length c ∧ us.length ≤ c ∧ RIs g w xs us ∧ (∀ u ∈ us, u.cells.size = sz) ∧ (c = 0 ∨ Uniq g w o A us c sz)
  | x => RI g w x v
def RVs (g : Gh) (w : World) (own : Nat → Ow) : Nat → List AVal → List Value → Prop
  | _, [], us => us = []
  | i, a :: as, us => ∃ u us', us = u :: us' ∧ RVc g w (own i) a u ∧ RVs g w own (i + 1) as us'
def RV1 (g : Gh) (w : World) (own : List Nat → Ow) (x : AVal) (v : Value) : Prop :=
  match x with
  | .agg cs => ∃ us, v = .agg us ∧ RVs g w (fun i => own [i]) 0 cs us.toList
  | x => RVc g w (own []) x v
def RVt (g : Gh) (w : World) (own : List Nat → Ow) : Nat → List AVal → List Value → Prop
  | _, [], us => us = []
  | i, a :: as, us => ∃ u us', us = u :: us' ∧ RV1 g w (fun p => own (i :: p)) a u ∧ RVt g w own (i + 1) as us'
def RV (g : Gh) (w : World) (own : List Nat → Ow) (x : AVal) (v : Value) : Prop :=
  match x with
  | .tup vs => ∃ us, v = .tuple us ∧ RVt g w own 0 vs us.toList
  | .box s off => v = .pointer (some ⟨g.ib s, off, none⟩)
  | x => RV1 g w own x v

def RBox (g : Gh) (w : World) (s : Nat) (cs : List AVal) : Prop :=
  ∃ us e fz, w.heap[g.ib s]? = some (.cells us e fz) ∧ Unfr us.size fz ∧ g.ow (g.ib s) = .box s ∧ g.fr (g.ib s) = 0 ∧ RVs g w (fun i => .boxc s [i]) 0 cs us.toList
def REs (g : Gh) (w : World) : List AEnt → List MapEntry → Prop
  | [], vs => vs = []
  | e :: es, vs => ∃ v vs', vs = v :: vs' ∧ v.born = e.1 ∧ RI g w e.2.1 v.key ∧ RI g w e.2.2 v.val ∧ REs g w es vs'
def flE : AVal → Bool
  | .lst (.app _) _ | .lst (.uniq _ _) _ => false
  | .agg cs => cs.all fun c => match c with | .lst (.app _) _ | .lst (.uniq _ _) _ => false | _ => true
  | .tup _ => false
  | _ => true
def RObj (g : Gh) (w : World) (id : Nat) : HObj → Prop
  | .dead => True
  | .map clock es => ∃ vs : List MapEntry, w.heap[(g.io id).1]? = some (.map vs.toArray clock) ∧ g.ow (g.io id).1 = .obj id ∧ REs g w es vs ∧ (∀ e ∈ es, e.1 < clock ∧ flE e.2.1 = true ∧ flE e.2.2 = true) ∧ (es.map (·.1)).Nodup
  | .iter m clock es left cur => ∃ (seen : Array Nat) (c0 : Nat), w.heap[(g.io id).1]? = some (.mapIter (some (g.io m).1) clock seen c0) ∧ g.ow (g.io id).1 = .obj id ∧ (g.io id).2 = 0 ∧ m < g.nh ∧ clock ≤ c0 ∧ (left = es.filter fun e => !seen.contains e.1) ∧ ∀ st, cur = some st → seen.back? = some st ∧ c0 = clock
  | .cells cs => cs ≠ [] → ∃ cur e fz us, w.heap[(g.io id).1]? = some (.cells cur e fz) ∧ Unfr cur.size fz ∧ g.ow (g.io id).1 = .obj id ∧ g.fr (g.io id).1 ≤ (g.io id).2 ∧ (g.io id).2 + us.length ≤ cur.size ∧
      (∀ j u, us[j]? = some u → cur[(g.io id).2 + j]? = some u) ∧ RVs g w (fun i => .objc id [i]) 0 cs us

structure RHeap (g : Gh) (w : World) (h : List HObj) : Prop where
  nh : g.nh = h.length
  obj : ∀ id o, h[id]? = some o → RObj g w id o
  valid : ∀ b, w.heap.size ≤ b → g.ow b = .no

structure Rel (n : Nat) (S : AState) (g : Gh) (a : Act) (w : World) : Prop where
  size : a.tmps.size = n
  defers : a.defers = []
  env : ∀ t, RV g w (.slot t) (S.env t) (a.tmps.getD t undef)
  boxes : ∀ s cs, S.boxes s = some cs → RBox g w s cs
  heap : RHeap g w S.heap

structure Evo (g : Gh) (w : World) (g' : Gh) (w' : World) : Prop where
  os : w'.os = w.os
  tape : w'.tape = w.tape
  output : w'.output = w.output
  size : w.heap.size ≤ w'.heap.size
  fixed : ∀ b, b < w.heap.size → (g.ow b = .no ∨ g.ow b = .other) → w'.heap[b]? = w.heap[b]? ∧ g'.fr b = g.fr b ∧ g'.ow b = g.ow b
  stab : ∀ b, b < w.heap.size → g.fr b ≤ g'.fr b ∧ ∀ o, o < g.fr b → w'.cell? ⟨b, o, none⟩ = w.cell? ⟨b, o, none⟩
  nh : g.nh ≤ g'.nh
  io : ∀ id, id < g.nh → g'.io id = g.io id

theorem Evo.refl (g : Gh) (w : World) : Evo g w g w :=
  ⟨rfl, rfl, rfl, Nat.le_refl _, fun _ _ _ => ⟨rfl, rfl, rfl⟩, fun _ _ => ⟨Nat.le_refl _, fun _ _ => rfl⟩, Nat.le_refl _, fun _ _ => rfl⟩
theorem Evo.trans {g g1 g2 : Gh} {w w1 w2 : World} (h : Evo g w g1 w1) (k : Evo g1 w1 g2 w2) : Evo g w g2 w2 where
  os := k.os.trans h.os
  tape := k.tape.trans h.tape
  output := k.output.trans h.output
  size := Nat.le_trans h.size k.size
  fixed := fun b hb ho => by
    obtain ⟨a1, a2, a3⟩ := h.fixed b hb ho
    obtain ⟨c1, c2, c3⟩ := k.fixed b (Nat.lt_of_lt_of_le hb h.size) (by rw [a3]; exact ho)
    exact ⟨c1.trans a1, c2.trans a2, c3.trans a3⟩
  stab := fun b hb => by
    obtain ⟨a1, a2⟩ := h.stab b hb
    obtain ⟨c1, c2⟩ := k.stab b (Nat.lt_of_lt_of_le hb h.size)
    exact ⟨Nat.le_trans a1 c1, fun o ho => (c2 o (Nat.lt_of_lt_of_le ho a1)).trans (a2 o ho)⟩
  nh := Nat.le_trans h.nh k.nh
  io := fun id hid => (k.io id (Nat.lt_of_lt_of_le hid h.nh)).trans (h.io id hid)

structure Stb (g : Gh) (w : World) (g' : Gh) (w' : World) : Prop where
  st : ∀ b o v, St g w b o v → St g' w' b o v
  nh : g.nh ≤ g'.nh
  io : ∀ id, id < g.nh → g'.io id = g.io id
theorem Evo.stb {g g' : Gh} {w w' : World} (h : Evo g w g' w') : Stb g w g' w' :=
  ⟨fun b o v ⟨h1, h2, h3⟩ => by
      have hb : b < w.heap.size := World.block_lt_of_cell? w ⟨b, o, none⟩ h2
      obtain ⟨s1, s2⟩ := h.stab b hb
      exact ⟨Nat.lt_of_lt_of_le h1 s1, (s2 o h1).trans h2, h3⟩, h.nh, h.io⟩

theorem Cont.mono {g g' : Gh} {w w' : World} (hs : Stb g w g' w') {A : Option Addr} {us : List Value} (h : Cont g w A us) : Cont g' w' A us := by
  obtain ⟨sz, h1, h2⟩ := h
  refine ⟨sz, h1, fun hne => ?_⟩
  obtain ⟨b, off, e, hc⟩ := h2 hne
  exact ⟨b, off, e, fun i u j x hi hj => hs.st _ _ _ (hc i u j x hi hj)⟩

mutual
theorem RI.mono {g g' : Gh} {w w' : World} (hs : Stb g w g' w') : ∀ (x : AVal) (v : Value), RI g w x v → RI g' w' x v
  | .junk, _, _ => by simp [RI]
  | .int .., _, h => by simpa [RI] using h
  | .bool _, _, h => by simpa [RI] using h
  | .str _, _, h => by simpa [RI] using h
  | .agg cs, v, h => by
    simp only[RI] at h ⊢
    obtain ⟨us, e, h⟩ := h
    exact ⟨us, e, RIs.mono hs cs _ h⟩
  | .tup cs, v, h => by
    simp only[RI] at h ⊢
    obtain ⟨us, e, h⟩ := h
    exact ⟨us, e, RIs.mono hs cs _ h⟩
  | .lst o xs, v, h => by
    simp only[RI] at h ⊢
    obtain ⟨A, c, us, e, hl, h, hc, hn⟩ := h
    exact ⟨A, c, us, e, hl, RIs.mono hs xs _ h, hc.mono hs, hn⟩
  | .cptr cs, v, h => by
    simp only[RI] at h ⊢
    obtain ⟨b, off, us, e, h, hc⟩ := h
    exact ⟨b, off, us, e, RIs.mono hs cs _ h, fun j u hj => hs.st _ _ _ (hc j u hj)⟩
  | .box .., _, h => by simp [RI] at h
  | .hp id off, v, h => by
    simp only[RI] at h ⊢
    obtain ⟨h1, h2⟩ := h
    exact ⟨Nat.lt_of_lt_of_le h1 hs.nh, by rw [hs.io id h1]; exact h2⟩
  | .ref id off len cap, v, h => by
    simp only[RI] at h ⊢
    obtain ⟨A, h1, h2, h3⟩ := h
    refine ⟨A, h1, h2, fun hc => ?_⟩
    obtain ⟨h4, h5⟩ := h3 hc
    exact ⟨Nat.lt_of_lt_of_le h4 hs.nh, by rw [hs.io id h4]; exact h5⟩
  | .nilptr, _, h => by simpa [RI] using h
  | .func f caps, v, h => by
    simp only[RI] at h ⊢
    obtain ⟨us, e, h⟩ := h
    exact ⟨us, e, RIs.mono hs caps _ h⟩
  | .map id, v, h => by
    simp only[RI] at h ⊢
    obtain ⟨h1, h2⟩ := h
    exact ⟨Nat.lt_of_lt_of_le h1 hs.nh, by rw [hs.io id h1]; exact h2⟩
  | .nilmap, _, h => by simpa [RI] using h
theorem RIs.mono {g g' : Gh} {w w' : World} (hs : Stb g w g' w') : ∀ (xs : List AVal) (us : List Value), RIs g w xs us → RIs g' w' xs us
  | [], _, h => by simpa [RIs] using h
  | a :: as, us, h => by
    simp only[RIs] at h ⊢
    obtain ⟨u, us', e, h1, h2⟩ := h
    exact ⟨u, us', e, RI.mono hs a u h1, RIs.mono hs as us' h2⟩
end

def Keep (g : Gh) (w : World) (g' : Gh) (w' : World) (o o' : Ow) : Prop :=
  ∀ b, g.ow b = o → g'.ow b = o' ∧ w'.heap[b]? = w.heap[b]? ∧ g'.fr b = g.fr b

theorem Spare.mono {g g' : Gh} {w w' : World} {o o' : Ow} (hk : Keep g w g' w' o o') {A : Option Addr} {n c sz : Nat} (h : Spare g w o A n c sz) : Spare g' w' o' A n c sz := by
  obtain ⟨b, off, cur, e, fz, h1, h2, h3, h4, h5, h6⟩ := h
  obtain ⟨k1, k2, k3⟩ := hk b h2
  exact ⟨b, off, cur, e, fz, h1, k1, by rw [k3]; exact h3, by rw [k2]; exact h4, h5, h6⟩
theorem Uniq.mono {g g' : Gh} {w w' : World} {o o' : Ow} (hk : Keep g w g' w' o o') {A : Option Addr} {us : List Value} {c sz : Nat} (h : Uniq g w o A us c sz) : Uniq g' w' o' A us c sz := by
  obtain ⟨b, off, cur, e, fz, h1, h2, h3, h4, h5, h6, h7⟩ := h
  obtain ⟨k1, k2, k3⟩ := hk b h2
  exact ⟨b, off, cur, e, fz, h1, k1, by rw [k3]; exact h3, by rw [k2]; exact h4, h5, h6, h7⟩
theorem RVc.mono {g g' : Gh} {w w' : World} (hs : Stb g w g' w') {o o' : Ow} (hk : Keep g w g' w' o o') (x : AVal) (v : Value) (h : RVc g w o x v) : RVc g' w' o' x v := by
  unfold RVc at h ⊢
  split at h
  · obtain ⟨A, c, us, e, hl, h, hsz, hc, hn⟩ := h
    exact ⟨A, c, us, e, hl, RIs.mono hs _ _ h, hsz, hc.mono hs, hn.imp id (Spare.mono hk)⟩
  · obtain ⟨A, us, e, hl, h, hsz, hn⟩ := h
    exact ⟨A, us, e, hl, RIs.mono hs _ _ h, hsz, hn.imp id (Uniq.mono hk)⟩
  · exact RI.mono hs _ _ h
theorem RVs.mono {g g' : Gh} {w w' : World} (hs : Stb g w g' w') {own own' : Nat → Ow} : ∀ (xs : List AVal) (i : Nat) (us : List Value), (∀ j, Keep g w g' w' (own j) (own' j)) → RVs g w own i xs us → RVs g' w' own' i xs us
  | [], _, _, _, h => by simpa [RVs] using h
  | a :: as, i, us, hk, h => by
    simp only[RVs] at h ⊢
    obtain ⟨u, us', e, h1, h2⟩ := h
    exact ⟨u, us', e, RVc.mono hs (hk i) a u h1, RVs.mono hs as (i + 1) us' hk h2⟩
theorem RV1.mono {g g' : Gh} {w w' : World} (hs : Stb g w g' w') {own own' : List Nat → Ow} (hk : ∀ p, Keep g w g' w' (own p) (own' p)) (x : AVal) (v : Value) (h : RV1 g w own x v) : RV1 g' w' own' x v := by
  unfold RV1 at h ⊢
  split at h
  · obtain ⟨us, e, h⟩ := h
    exact ⟨us, e, RVs.mono hs _ _ _ (fun j => hk [j]) h⟩
  · exact RVc.mono hs (hk []) _ _ h
theorem RVt.mono {g g' : Gh} {w w' : World} (hs : Stb g w g' w') {own own' : List Nat → Ow} : ∀ (xs : List AVal) (i : Nat) (us : List Value), (∀ p, Keep g w g' w' (own p) (own' p)) → RVt g w own i xs us → RVt g' w' own' i xs us
  | [], _, _, _, h => by simpa [RVt] using h
  | a :: as, i, us, hk, h => by
    simp only[RVt] at h ⊢
    obtain ⟨u, us', e, h1, h2⟩ := h
    exact ⟨u, us', e, RV1.mono hs (fun p => hk (i :: p)) a u h1, RVt.mono hs as (i + 1) us' hk h2⟩
theorem RV.mono {g g' : Gh} {w w' : World} (hs : Stb g w g' w') {own own' : List Nat → Ow} (hk : ∀ p, Keep g w g' w' (own p) (own' p)) (x : AVal) (v : Value)
    (hb : ∀ s off, x = .box s off → g'.ib s = g.ib s) (h : RV g w own x v) : RV g' w' own' x v := by
  unfold RV at h ⊢
  split at h
  · obtain ⟨us, e, h⟩ := h
    exact ⟨us, e, RVt.mono hs _ _ _ hk h⟩
  · rename_i s off
    rw [hb s off rfl]; exact h
  · exact RV1.mono hs hk _ _ h
theorem RBox.mono {g g' : Gh} {w w' : World} (hs : Stb g w g' w') {s : Nat} {cs : List AVal} (hib : g'.ib s = g.ib s) (hk0 : Keep g w g' w' (.box s) (.box s)) (hk : ∀ p, Keep g w g' w' (.boxc s p) (.boxc s p)) (h : RBox g w s cs) : RBox g' w' s cs := by
  obtain ⟨us, e, fz, h1, h2, h3, h4, h5⟩ := h
  obtain ⟨k1, k2, k3⟩ := hk0 _ h3
  exact ⟨us, e, fz, by rw [hib, k2]; exact h1, h2, by rw [hib]; exact k1, by rw [hib, k3]; exact h4, RVs.mono hs _ _ _ (fun j => hk [j]) h5⟩
theorem REs.mono {g g' : Gh} {w w' : World} (hs : Stb g w g' w') : ∀ (es : List AEnt) (vs : List MapEntry), REs g w es vs → REs g' w' es vs
  | [], _, h => by simpa [REs] using h
  | e :: es, vs, h => by
    simp only[REs] at h ⊢
    obtain ⟨v, vs', e0, h1, h2, h3, h4⟩ := h
    exact ⟨v, vs', e0, h1, RI.mono hs _ _ h2, RI.mono hs _ _ h3, REs.mono hs es vs' h4⟩
theorem RObj.mono {g g' : Gh} {w w' : World} (hs : Stb g w g' w') {id : Nat} {o : HObj} (hid : id < g.nh) (hk0 : Keep g w g' w' (.obj id) (.obj id)) (hk : ∀ p, Keep g w g' w' (.objc id p) (.objc id p)) (h : RObj g w id o) : RObj g' w' id o := by
  cases o with
  | dead => trivial
  | map clock es =>
    simp only[RObj] at h ⊢
    obtain ⟨vs, h1, h2, h3, h4⟩ := h
    obtain ⟨k1, k2, k3⟩ := hk0 _ h2
    rw [hs.io id hid]
    exact ⟨vs, by rw [k2]; exact h1, k1, REs.mono hs _ _ h3, h4⟩
  | iter m clock es left cur =>
    simp only[RObj] at h ⊢
    obtain ⟨seen, c0, h1, h2, h3, h4, h5⟩ := h
    obtain ⟨k1, k2, k3⟩ := hk0 _ h2
    rw [hs.io id hid, hs.io m h4]
    exact ⟨seen, c0, by rw [k2]; exact h1, k1, h3, Nat.lt_of_lt_of_le h4 hs.nh, h5⟩
  | cells cs =>
    simp only[RObj] at h ⊢
    intro hne
    obtain ⟨cur, e, fz, us, h1, h2, h3, h4, hz, h5, h6⟩ := h hne
    obtain ⟨k1, k2, k3⟩ := hk0 _ h3
    rw [hs.io id hid]
    exact ⟨cur, e, fz, us, by rw [k2]; exact h1, h2, k1, by rw [k3]; exact h4, hz, h5, RVs.mono hs _ _ _ (fun j => hk [j]) h6⟩
end Go.Ge
namespace Go.Ge

def RT (g : Gh) (w : World) (x : AVal) (v : Value) : Prop :=
  match x with
  | .box s off => v = .pointer (some ⟨g.ib s, off, none⟩)
  | x => RI g w x v
theorem RT.of_RI {g : Gh} {w : World} {x : AVal} {v : Value} (h : RI g w x v) : RT g w x v := by
  unfold RT; split
  · simp [RI] at h
  · exact h
theorem RI.of_RT {g : Gh} {w : World} {x : AVal} {v : Value} (hx : noBox x = true) (h : RT g w x v) : RI g w x v := by
  unfold RT at h; split at h
  · simp [noBox] at hx
  · exact h

def flc : AVal → Bool
  | .lst (.app _) _ | .lst (.uniq _ _) _ => false
  | _ => true
theorem RVc.of_RI {g : Gh} {w : World} {o : Ow} {x : AVal} {v : Value} (hf : flc x = true) (h : RI g w x v) : RVc g w o x v := by
  unfold RVc; split
  · simp [flc] at hf
  · simp [flc] at hf
  · exact h
theorem flc_rdc (x : AVal) : flc (rdc x) = true := by
  unfold rdc; split <;> simp_all [flc]
theorem RI_rdc {g : Gh} {w : World} {o : Ow} {x : AVal} {v : Value} (h : RVc g w o x v) : RI g w (rdc x) v := by
  unfold rdc; split
  · simpa [RVc] using h
  · simp [RI]
  · rename_i o' xs h1 h2
    cases o' with
    | sh => simpa [RVc] using h
    | nil => exact absurd rfl (h1)
    | app sz =>
      simp only[RVc] at h
      obtain ⟨A, c, us, e, hl, h, _, hc, _⟩ := h
      simp only[RI]
      exact ⟨A, c, us, e, hl, h, hc, trivial⟩
    | uniq sz c => exact absurd rfl (h2 sz c)
  · simp [RI]
  · simp [RI]
  · unfold RVc at h; split at h
    · simp_all
    · simp_all
    · exact h
theorem RIs_rdc {g : Gh} {w : World} {own : Nat → Ow} : ∀ (xs : List AVal) (i : Nat) (us : List Value), RVs g w own i xs us → RIs g w (xs.map rdc) us
  | [], _, _, h => by simpa [RVs, RIs] using h
  | a :: as, i, us, h => by
    simp only[RVs] at h
    obtain ⟨u, us', e, h1, h2⟩ := h
    simp only[List.map,RIs]
    exact ⟨u, us', e, RI_rdc h1, RIs_rdc as (i + 1) us' h2⟩
theorem RVs.of_RIs {g : Gh} {w : World} {own : Nat → Ow} : ∀ (xs : List AVal) (i : Nat) (us : List Value), (∀ x ∈ xs, flc x = true) → RIs g w xs us → RVs g w own i xs us
  | [], _, _, _, h => by simpa [RVs, RIs] using h
  | a :: as, i, us, hf, h => by
    simp only[RIs] at h
    obtain ⟨u, us', e, h1, h2⟩ := h
    simp only[RVs]
    exact ⟨u, us', e, RVc.of_RI (hf a (by simp)) h1, RVs.of_RIs as (i + 1) us' (fun x hx => hf x (by simp [hx])) h2⟩

def fl1 : AVal → Bool
  | .agg cs => cs.all flc
  | v => flc v
def flv : AVal → Bool
  | .tup vs => vs.all fl1
  | v => fl1 v
theorem RV1.of_RI {g : Gh} {w : World} {own : List Nat → Ow} {x : AVal} {v : Value} (hf : fl1 x = true) (h : RI g w x v) : RV1 g w own x v := by
  unfold RV1; split
  · rename_i cs
    simp only[RI] at h
    obtain ⟨us, e, h⟩ := h
    exact ⟨us, e, RVs.of_RIs _ _ _ (by simpa [fl1] using hf) h⟩
  · rename_i hx
    refine RVc.of_RI ?_ h
    cases x <;> first | exact hf | exact absurd rfl (hx _)
theorem RVt.of_RIs {g : Gh} {w : World} {own : List Nat → Ow} : ∀ (xs : List AVal) (i : Nat) (us : List Value), (∀ x ∈ xs, fl1 x = true) → RIs g w xs us → RVt g w own i xs us
  | [], _, _, _, h => by simpa [RVt, RIs] using h
  | a :: as, i, us, hf, h => by
    simp only[RIs] at h
    obtain ⟨u, us', e, h1, h2⟩ := h
    simp only[RVt]
    exact ⟨u, us', e, RV1.of_RI (hf a (by simp)) h1, RVt.of_RIs as (i + 1) us' (fun x hx => hf x (by simp [hx])) h2⟩
theorem RV.of_RT {g : Gh} {w : World} {own : List Nat → Ow} {x : AVal} {v : Value} (hf : flv x = true) (h : RT g w x v) : RV g w own x v := by
  unfold RV; split
  · rename_i vs
    simp only[RT,RI] at h
    obtain ⟨us, e, h⟩ := h
    exact ⟨us, e, RVt.of_RIs _ _ _ (by simpa [flv] using hf) h⟩
  · simpa [RT] using h
  · rename_i h1 h2
    refine RV1.of_RI (own := own) ?_ ?_
    · cases x <;> first | exact hf | exact absurd rfl (h1 _)
    · unfold RT at h; split at h
      · exact absurd rfl (h2 _ _)
      · exact h
theorem fl1_rd1 (x : AVal) : fl1 (rd1 x) = true := by
  cases x with
  | agg cs => simp only[rd1,fl1,List.all_map,List.all_eq_true]; exact fun x _ => flc_rdc x
  | lst o xs => cases o <;> rfl
  | _ => rfl
theorem flv_rdv (x : AVal) : flv (rdv x) = true := by
  cases x with
  | tup vs => simp only[rdv,flv,List.all_map,List.all_eq_true]; exact fun x _ => fl1_rd1 x
  | lst o xs => cases o <;> rfl
  | agg cs => exact fl1_rd1 (.agg cs)
  | _ => rfl
theorem RI_rd1 {g : Gh} {w : World} {own : List Nat → Ow} {x : AVal} {v : Value} (h : RV1 g w own x v) : RI g w (rd1 x) v := by
  unfold RV1 at h; split at h
  · obtain ⟨us, e, h⟩ := h
    simp only[rd1,RI]
    exact ⟨us, e, RIs_rdc _ _ _ h⟩
  · rename_i hx
    have : rd1 x = rdc x := by cases x <;> first | rfl | exact absurd rfl (hx _)
    rw [this]; exact RI_rdc h
theorem RIs_rd1 {g : Gh} {w : World} {own : List Nat → Ow} : ∀ (xs : List AVal) (i : Nat) (us : List Value), RVt g w own i xs us → RIs g w (xs.map rd1) us
  | [], _, _, h => by simpa [RVt, RIs] using h
  | a :: as, i, us, h => by
    simp only[RVt] at h
    obtain ⟨u, us', e, h1, h2⟩ := h
    simp only[List.map,RIs]
    exact ⟨u, us', e, RI_rd1 h1, RIs_rd1 as (i + 1) us' h2⟩
theorem RT_rdv {g : Gh} {w : World} {own : List Nat → Ow} {x : AVal} {v : Value} (h : RV g w own x v) : RT g w (rdv x) v := by
  unfold RV at h; split at h
  · obtain ⟨us, e, h⟩ := h
    simp only[rdv,RT,RI]
    exact ⟨us, e, RIs_rd1 _ _ _ h⟩
  · simpa [RT, rdv, rd1, rdc] using h
  · rename_i h1 h2
    have : rdv x = rd1 x := by cases x <;> first | rfl | exact absurd rfl (h1 _)
    rw [this]; exact RT.of_RI (RI_rd1 h)

theorem RIs.length {g : Gh} {w : World} : ∀ {xs : List AVal} {us : List Value}, RIs g w xs us → us.length = xs.length
  | [], us, h => by simp [RIs] at h; simp [h]
  | a :: as, us, h => by
    simp only[RIs] at h
    obtain ⟨u, us', rfl, _, h2⟩ := h
    simp [RIs.length h2]
theorem RIs.get {g : Gh} {w : World} : ∀ {xs : List AVal} {us : List Value}, RIs g w xs us → ∀ (i : Nat) (x : AVal), xs[i]? = some x → ∃ u : Value, us[i]? = some u ∧ RI g w x u
  | [], us, h, i, x, hx => by simp at hx
  | a :: as, us, h, i, x, hx => by
    simp only[RIs] at h
    obtain ⟨u, us', rfl, h1, h2⟩ := h
    cases i with
    | zero => simp at hx; subst hx; exact ⟨u, by simp, h1⟩
    | succ i => simpa using RIs.get h2 i x (by simpa using hx)
theorem RIs.of_get {g : Gh} {w : World} : ∀ {xs : List AVal} {us : List Value}, us.length = xs.length → (∀ (i : Nat) (x : AVal) (u : Value), xs[i]? = some x → us[i]? = some u → RI g w x u) → RIs g w xs us
  | [], us, h, _ => by simp at h; simp [RIs, h]
  | a :: as, us, h, hg => by
    cases us with
    | nil => simp at h
    | cons u us =>
      simp only[RIs]
      exact ⟨u, us, rfl, hg 0 a u (by simp) (by simp), RIs.of_get (by simpa using h) fun i x u' hx hu => hg (i + 1) x u' (by simpa using hx) (by simpa using hu)⟩
theorem RIs.drop {g : Gh} {w : World} (n : Nat) {xs : List AVal} {us : List Value} (h : RIs g w xs us) : RIs g w (xs.drop n) (us.drop n) := by
  have hl := h.length
  refine RIs.of_get (by simp [hl]) fun i x u hx hu => ?_
  rw [List.getElem?_drop] at hx hu
  obtain ⟨u', h1, h2⟩ := h.get _ _ hx
  rw [h1] at hu; cases hu; exact h2
theorem RIs.take {g : Gh} {w : World} (n : Nat) {xs : List AVal} {us : List Value} (h : RIs g w xs us) : RIs g w (xs.take n) (us.take n) := by
  have hl := h.length
  refine RIs.of_get (by simp [hl]) fun i x u hx hu => ?_
  have hi : i < n := by
    rcases Nat.lt_or_ge i n with h' | h'
    · exact h'
    · simp [List.getElem?_take, Nat.not_lt.2 h'] at hx
  rw [List.getElem?_take_of_lt hi] at hx hu
  obtain ⟨u', h1, h2⟩ := h.get _ _ hx
  rw [h1] at hu; cases hu; exact h2
theorem RIs.append {g : Gh} {w : World} {xs ys : List AVal} {us vs : List Value} (h : RIs g w xs us) (k : RIs g w ys vs) : RIs g w (xs ++ ys) (us ++ vs) := by
  have hl := h.length
  refine RIs.of_get (by simp [hl, k.length]) fun i x u hx hu => ?_
  rcases Nat.lt_or_ge i xs.length with h' | h'
  · rw [List.getElem?_append_left h'] at hx
    rw [List.getElem?_append_left (by omega)] at hu
    obtain ⟨u', h1, h2⟩ := h.get _ _ hx
    rw [h1] at hu; cases hu; exact h2
  · rw [List.getElem?_append_right h'] at hx
    rw [List.getElem?_append_right (by omega), hl] at hu
    obtain ⟨u', h1, h2⟩ := k.get _ _ hx
    rw [h1] at hu; cases hu; exact h2
theorem RVs.length {g : Gh} {w : World} {own : Nat → Ow} : ∀ {xs : List AVal} {i : Nat} {us : List Value}, RVs g w own i xs us → us.length = xs.length
  | [], _, us, h => by simp [RVs] at h; simp [h]
  | a :: as, i, us, h => by
    simp only[RVs] at h
    obtain ⟨u, us', rfl, _, h2⟩ := h
    simp [RVs.length h2]
theorem RVs.get {g : Gh} {w : World} {own : Nat → Ow} : ∀ {xs : List AVal} {i : Nat} {us : List Value}, RVs g w own i xs us → ∀ (j : Nat) (x : AVal), xs[j]? = some x → ∃ u : Value, us[j]? = some u ∧ RVc g w (own (i + j)) x u
  | [], _, us, h, j, x, hx => by simp at hx
  | a :: as, i, us, h, j, x, hx => by
    simp only[RVs] at h
    obtain ⟨u, us', rfl, h1, h2⟩ := h
    cases j with
    | zero => simp at hx; subst hx; exact ⟨u, by simp, h1⟩
    | succ j =>
      have := RVs.get h2 j x (by simpa using hx)
      simpa [Nat.add_assoc, Nat.add_comm 1 j] using this
theorem RVs.of_get {g : Gh} {w : World} {own : Nat → Ow} : ∀ {xs : List AVal} {i : Nat} {us : List Value}, us.length = xs.length → (∀ (j : Nat) (x : AVal) (u : Value), xs[j]? = some x → us[j]? = some u → RVc g w (own (i + j)) x u) → RVs g w own i xs us
  | [], _, us, h, _ => by simp at h; simp [RVs, h]
  | a :: as, i, us, h, hg => by
    cases us with
    | nil => simp at h
    | cons u us =>
      simp only[RVs]
      refine ⟨u, us, rfl, hg 0 a u (by simp) (by simp), RVs.of_get (by simpa using h) fun j x u' hx hu => ?_⟩
      have := hg (j + 1) x u' (by simpa using hx) (by simpa using hu)
      simpa [Nat.add_assoc, Nat.add_comm 1 j] using this

theorem RI.width {g : Gh} {w : World} {x : AVal} {v : Value} (h : RI g w x v) (hx : 0 < x.width) : v.cells.size = x.width := by
  cases x <;> simp only[RI] at h <;> try (simp [AVal.width] at hx; done)
  all_goals first
    | (subst h; rfl)
    | (obtain ⟨us, rfl, h⟩ := h; simp [Value.cells, AVal.width, ← h.length]; done)
    | (obtain ⟨us, rfl, h⟩ := h; rfl)
    | (obtain ⟨A, c, us, rfl, _⟩ := h; rfl)
    | (obtain ⟨b, off, us, rfl, _⟩ := h; rfl)
    | (obtain ⟨_, rfl⟩ := h; rfl)
    | (obtain ⟨_, c, _, rfl⟩ := h; rfl)
    | exact h.elim
theorem RI.cells {g : Gh} {w : World} {x : AVal} {v : Value} (h : RI g w x v) (hx : 0 < x.width) : RIs g w x.cells v.cells.toList := by
  have hs := h.width hx
  cases x with
  | agg cs =>
    simp only[RI] at h
    obtain ⟨us, rfl, h⟩ := h
    simpa [AVal.cells, Value.cells] using h
  | junk => simp [AVal.width] at hx
  | tup vs => simp [AVal.width] at hx
  | _ =>
    simp only[AVal.cells,RIs]
    refine ⟨v, [], ?_, h, rfl⟩
    cases v <;> first
      | rfl
      | (simp only[RI] at h; done)
      | (simp only[RI] at h; first | (cases h; done) | (obtain ⟨_, h, _⟩ := h; cases h; done) | (obtain ⟨_, _, _, h, _⟩ := h; cases h; done) | (obtain ⟨_, h⟩ := h; cases h; done) | (obtain ⟨_, _, _, h⟩ := h; cases h; done))
end Go.Ge
namespace Go.Ge

def cv1 : Value → AVal → Bool
  | _, .junk => true
  | .int k n, .int k' n' => decide (k = k') && decide (n = n')
  | .bool b, .bool b' => b == b'
  | .string s, .str s' => decide (s.data = s'.data)
  | .slice none 0 0, .lst (.uniq _ 0) [] => true
  | .slice none 0 0, .lst (.uniq _ (_ + 1)) [] => false
  | .slice none 0 0, .lst _ [] => true
  | .pointer none, .nilptr => true
  | .map none, .nilmap => true
  | _, _ => false
def cvs : List Value → List AVal → Bool
  | [], [] => true
  | v :: vs, x :: xs => cv1 v x && cvs vs xs
  | _, _ => false
def cv : Value → AVal → Bool
  | .agg us, .agg cs => cvs us.toList cs
  | v, x => cv1 v x
def opn : Operand → AOpn → Bool
  | .tmp n, .t m => n == m
  | .const v, .c x => cv v x
  | .func f, .c (.func g []) => f == g
  | _, _ => false

theorem RVc.of_cv1 {g : Gh} {w : World} {o : Ow} {v : Value} {x : AVal} (h : cv1 v x = true) : RVc g w o x v := by
  unfold cv1 at h
  split at h
  · simp [RVc, RI]
  · simp at h; simp [RVc, RI, h]
  · simp at h; simp [RVc, RI, h]
  · rename_i s s'
    simp at h
    have : s = s' := by cases s; cases s'; simp_all
    simp [RVc, RI, this]
  · simp only[RVc]; exact ⟨none, [], rfl, by simp, by simp [RIs], by simp, .inl trivial⟩
  · cases h
  · rename_i o hno1 hno2
    have hc : Cont g w none [] := ⟨1, by simp, by simp⟩
    cases o with
    | sh => simp only[RVc,RI]; exact ⟨none, 0, [], rfl, by simp, by simp [RIs], hc, trivial⟩
    | nil => simp only[RVc,RI]; exact ⟨none, 0, [], rfl, by simp, by simp [RIs], hc, rfl, rfl⟩
    | app sz => simp only[RVc]; exact ⟨none, 0, [], rfl, by simp, by simp [RIs], by simp, hc, .inl rfl⟩
    | uniq sz c => cases c <;> first | exact absurd rfl (hno1 _) | exact absurd rfl (hno2 _ _)
  · simp [RVc, RI]
  · simp [RVc, RI]
  · simp at h
theorem RVs.of_cvs {g : Gh} {w : World} {own : Nat → Ow} : ∀ {vs : List Value} {xs : List AVal} {i : Nat}, cvs vs xs = true → RVs g w own i xs vs
  | [], [], _, _ => by simp [RVs]
  | v :: vs, x :: xs, i, h => by
    simp only[cvs,Bool.and_eq_true] at h
    simp only[RVs]
    exact ⟨v, vs, rfl, RVc.of_cv1 h.1, RVs.of_cvs h.2⟩
  | [], _ :: _, _, h => by simp [cvs] at h
  | _ :: _, [], _, h => by simp [cvs] at h
theorem RV1.of_cv {g : Gh} {w : World} {own : List Nat → Ow} {v : Value} {x : AVal} (h : cv v x = true) : RV1 g w own x v := by
  unfold cv at h; split at h
  · simp only[RV1]; exact ⟨_, rfl, RVs.of_cvs h⟩
  · unfold RV1; split
    · rename_i hne cs
      unfold cv1 at h; split at h <;> simp_all
    · exact RVc.of_cv1 h
theorem RV.of_cv {g : Gh} {w : World} {own : List Nat → Ow} {v : Value} {x : AVal} (h : cv v x = true) : RV g w own x v := by
  unfold RV; split
  · unfold cv at h; split at h
    · simp_all
    · unfold cv1 at h; split at h <;> simp_all
  · unfold cv at h; split at h
    · simp_all
    · unfold cv1 at h; split at h <;> simp_all
  · exact RV1.of_cv h
theorem RV.of_opn {n : Nat} {S : AState} {g : Gh} {a : Act} {w : World} (hR : Rel n S g a w) {x : Operand} {y : AOpn} (h : opn x y = true) :
    (∃ t, y = .t t ∧ RV g w (.slot t) (S.full y) (a.eval x)) ∨ (∃ v, y = .c v) ∧ ∀ own, RV g w own (S.full y) (a.eval x) := by
  unfold opn at h; split at h
  · simp at h; subst h
    exact .inl ⟨_, rfl, hR.env _⟩
  · exact .inr ⟨⟨_, rfl⟩, fun own => RV.of_cv h⟩
  · simp at h; subst h
    exact .inr ⟨⟨_, rfl⟩, fun own => by simp only[AState.full,RV,RV1,RVc,RI,Act.eval]; exact ⟨#[], rfl, by simp [RIs]⟩⟩
  · simp at h
theorem rd_full (S : AState) (y : AOpn) : S.rd y = rdv (S.full y) := by cases y <;> rfl
theorem RT.of_opn {n : Nat} {S : AState} {g : Gh} {a : Act} {w : World} (hR : Rel n S g a w) {x : Operand} {y : AOpn} (h : opn x y = true) : RT g w (S.rd y) (a.eval x) := by
  rw [rd_full]
  rcases RV.of_opn hR h with ⟨t, _, h⟩ | ⟨_, h⟩
  · exact RT_rdv h
  · exact RT_rdv (h (.slot 0))

structure Fresh (g : Gh) (w : World) (g' : Gh) (w' : World) : Prop where
  evo : Evo g w g' w'
  keep : ∀ o, o ≠ .no → Keep g w g' w' o o
  ib : g'.ib = g.ib
  nh : g'.nh = g.nh
  valid : ∀ b, w'.heap.size ≤ b → g'.ow b = .no
theorem Fresh.refl {g : Gh} {w : World} (hv : ∀ b, w.heap.size ≤ b → g.ow b = .no) : Fresh g w g w := ⟨.refl g w, fun _ _ _ h => ⟨h, rfl, rfl⟩, rfl, rfl, hv⟩
theorem Fresh.drew {g : Gh} {w : World} (hv : ∀ b, w.heap.size ≤ b → g.ow b = .no) (n : Nat) : Fresh g w g (w.drewN n) :=
  ⟨⟨rfl, rfl, rfl, Nat.le_refl _, fun _ _ _ => ⟨rfl, rfl, rfl⟩, fun _ _ => ⟨Nat.le_refl _, fun _ _ => rfl⟩, Nat.le_refl _, fun _ _ => rfl⟩, fun _ _ _ h => ⟨h, rfl, rfl⟩, rfl, rfl, hv⟩
def Gh.alloc (g : Gh) (b : Nat) (o : Ow) (f : Nat) : Gh := { g with ow := fun c => if c = b then o else g.ow c, fr := fun c => if c = b then f else g.fr c }
theorem heap_alloc (w : World) (o : Obj) (k : Nat) (h : k ≠ w.heap.size) : (w.alloc o).heap[k]? = w.heap[k]? := by
  show (w.heap.push o)[k]? = _
  rw [Array.getElem?_push, if_neg h]
theorem heap_alloc_self (w : World) (o : Obj) : (w.alloc o).heap[w.heap.size]? = some o := by
  show (w.heap.push o)[w.heap.size]? = _
  simp
theorem Fresh.alloc {g : Gh} {w : World} (hv : ∀ b, w.heap.size ≤ b → g.ow b = .no) (obj : Obj) (q : Ow) (f : Nat) : Fresh g w (g.alloc w.heap.size q f) (w.alloc obj) where
  evo := {
    os := rfl, tape := rfl, output := rfl, size := by simp
    fixed := fun b hb _ => ⟨heap_alloc w obj b (by omega), by simp [Gh.alloc, Nat.ne_of_lt hb], by simp [Gh.alloc, Nat.ne_of_lt hb]⟩
    stab := fun b hb => ⟨by simp [Gh.alloc, Nat.ne_of_lt hb], fun o _ => World.cell?_alloc_lt w obj ⟨b, o, none⟩ hb⟩
    nh := Nat.le_refl _, io := fun _ _ => rfl }
  keep := fun o ho b hb => by
    have : b ≠ w.heap.size := fun e => ho (by rw [← hb, hv b (by omega)])
    exact ⟨by simp [Gh.alloc, this, hb], heap_alloc w obj b this, by simp [Gh.alloc, this]⟩
  ib := rfl
  nh := rfl
  valid := fun b hb => by
    simp at hb
    have : b ≠ w.heap.size := by omega
    simp only[Gh.alloc,this,if_false]
    exact hv b (by omega)
theorem Rel.fresh {n : Nat} {S : AState} {g g' : Gh} {a : Act} {w w' : World} (h : Rel n S g a w) (f : Fresh g w g' w') : Rel n S g' a w' where
  size := h.size
  defers := h.defers
  env := fun t => RV.mono f.evo.stb (fun p => f.keep _ (by simp)) _ _ (fun s off _ => by rw [f.ib]) (h.env t)
  boxes := fun s cs hs => RBox.mono f.evo.stb (by rw [f.ib]) (f.keep _ (by simp)) (fun p => f.keep _ (by simp)) (h.boxes s cs hs)
  heap := {
    nh := f.nh.trans h.heap.nh
    obj := fun id o ho => RObj.mono f.evo.stb (by rw [h.heap.nh]; exact (List.getElem?_eq_some_iff.1 ho).1) (f.keep _ (by simp)) (fun p => f.keep _ (by simp)) (h.heap.obj id o ho)
    valid := f.valid }
theorem Rel.put {n : Nat} {S : AState} {g : Gh} {a : Act} {w : World} (h : Rel n S g a w) {d : Option Nat} (hd : ∀ k, d = some k → k < n) {x : AVal} {v : Value}
    (hx : ∀ k, d = some k → RV g w (.slot k) x v) : Rel n (S.put d x) g (a.put d v) w := by
  cases d with
  | none => exact h
  | some k =>
    have hk := hd k rfl
    refine ⟨by simpa [Act.put] using h.size, h.defers, fun t => ?_, h.boxes, h.heap⟩
    simp only[AState.put,Act.put]
    by_cases e : t = k
    · subst e
      have : (a.tmps.setIfInBounds t v).getD t undef = v := by simp [Array.getD_eq_getD_getElem?, h.size, hk]
      rw [this, if_pos rfl]; exact hx t rfl
    · have : (a.tmps.setIfInBounds k v).getD t undef = a.tmps.getD t undef := by
        simp only[Array.getD_eq_getD_getElem?,Array.getElem?_setIfInBounds]
        rw [if_neg (by omega)]
      rw [this, if_neg e]; exact h.env t

def Ok1 (P : Program) (s : Sem Next) (g : Gh) (w : World) (own : List Nat → Ow) (x : AVal) : Prop :=
  ∃ u w' g', s.run P w = .ok (.value u) w' ∧ Fresh g w g' w' ∧ RV g' w' own x u
theorem Ok1.same {P : Program} {s : Sem Next} {g : Gh} {w : World} {own : List Nat → Ow} {x : AVal} {u : Value} (hv : ∀ b, w.heap.size ≤ b → g.ow b = .no)
    (h : s.run P w = .ok (.value u) w) (hx : RT g w x u) (hf : flv x = true) : Ok1 P s g w own x :=
  ⟨u, w, g, h, .refl hv, RV.of_RT hf hx⟩
end Go.Ge
namespace Go.Ge

def Lies (w : World) (v : Value) (us : List Value) : Prop := ∃ b off, v = .pointer (some ⟨b, off, none⟩) ∧ ∀ j u, us[j]? = some u → w.cell? ⟨b, off + j, none⟩ = some u
theorem Lies.drop {w : World} {b off : Nat} {us : List Value} (k : Nat) (h : ∀ (j : Nat) (u : Value), us[j]? = some u → w.cell? ⟨b, off + j, none⟩ = some u) :
    ∀ (j : Nat) (u : Value), (us.drop k)[j]? = some u → w.cell? ⟨b, off + k + j, none⟩ = some u := by
  intro j u hj
  rw [List.getElem?_drop] at hj
  have := h _ _ hj
  rwa [← Nat.add_assoc] at this
theorem cell_of_block {w : World} {b o : Nat} {cur : Array Value} {e : TypeId} {fz : Nat × Nat} (h : w.heap[b]? = some (.cells cur e fz)) : w.cell? ⟨b, o, none⟩ = cur[o]? := by
  simp [World.cell?, h]
theorem RI.rdc {g : Gh} {w : World} {x : AVal} {v : Value} (h : RI g w x v) : RI g w (rdc x) v := by
  cases x <;> simp only[Ge.rdc] <;> try exact h
  · simp [RI]
  · simp [RI]
  · rename_i o xs
    cases o <;> simp only[RI] at h ⊢
    all_goals first
      | trivial
      | exact h
theorem RIs.rdc {g : Gh} {w : World} : ∀ {xs : List AVal} {us : List Value}, RIs g w xs us → RIs g w (xs.map rdc) us
  | [], _, h => by simpa [RIs] using h
  | a :: as, us, h => by
    simp only[RIs] at h
    obtain ⟨u, us', e, h1, h2⟩ := h
    simp only[List.map,RIs]
    exact ⟨u, us', e, h1.rdc, RIs.rdc h2⟩
theorem isSome_iff' {α : Type} {x : Option α} (h : x.isSome = true) : ∃ a, x = some a := Option.isSome_iff_exists.1 h

def aggT (P : Program) (t : TypeId) : Bool := match P.underlying t with | some (.struct _) | some (.array _ _) => true | _ => false
theorem run_isAgg' {P : Program} {w : World} {t : TypeId} (h : (P.underlying t).isSome = true) : (isAgg t).run P w = .ok (aggT P t) w := by
  obtain ⟨d, hd⟩ := isSome_iff' h
  simp only[isAgg,aggT,hd]
  cases d <;> simp [run_underlying hd]
theorem run_loadVar' {P : Program} {w : World} {t : TypeId} {us : List Value} {b off : Nat} (hu : (P.underlying t).isSome = true) (hi : (P.info? t).map (·.size) = some us.length)
    (hl : ∀ (j : Nat) (u : Value), us[j]? = some u → w.cell? ⟨b, off + j, none⟩ = some u) :
    (loadVar t ⟨b, off, none⟩).run P w = if aggT P t then .ok (.agg us.toArray) w else match us.head? with | some u => .ok u w | none => (load ⟨b, off, none⟩).run P w := by
  obtain ⟨i, hi1, hi2⟩ := Option.map_eq_some_iff.1 hi
  have hs : (sizeOf t).run P w = .ok us.length w := by simp [sizeOf, typeInfo, hi1, hi2]
  have hc : (loadCells ⟨b, off, none⟩ us.length).run P w = .ok us.toArray w := run_loadCells_list w ⟨b, off, none⟩ us (fun j v hj => by simpa [Addr.add_lit] using hl j v hj)
  simp only[loadVar,Sem.run_bind,run_isAgg' hu,Result.andThen_ok]
  cases hag : aggT P t with
  | true => simp [hs, hc]
  | false =>
    cases us with
    | nil => simp
    | cons u us =>
      have : w.cell? ⟨b, off, none⟩ = some u := by simpa using hl 0 u (by simp)
      simp [this]

theorem mem_lies {n : Nat} {S : AState} {g : Gh} {a : Act} {w : World} (hR : Rel n S g a w) {ag : Bool} {sz : Nat} {p : AVal} {v : Value} (hp : RT g w p v)
    (hc : (memV S.boxes S.heap ag sz p).c) :
    ∃ b off us, v = .pointer (some ⟨b, off, none⟩) ∧ (∀ (j : Nat) (u : Value), us[j]? = some u → w.cell? ⟨b, off + j, none⟩ = some u) ∧
      (if ag then ∃ cs, sz ≤ us.length ∧ RIs g w cs us ∧ (memV S.boxes S.heap ag sz p).v = .agg (cs.take sz) else ∃ u, us.head? = some u ∧ RI g w (memV S.boxes S.heap ag sz p).v u ∧ noBox (memV S.boxes S.heap ag sz p).v = true) := by
  have key : ∀ (cs : List AVal) (us : List Value), RIs g w (cs.map rdc) us → (ag = true → sz ≤ cs.length) → (ag = false → 0 < cs.length) →
      (if ag then ∃ cs', sz ≤ us.length ∧ RIs g w cs' us ∧ AVal.agg ((cs.take sz).map rdc) = .agg (cs'.take sz) else ∃ u, us.head? = some u ∧ RI g w (rdc (cs.headD .junk)) u) := by
    intro cs us h h1 h2
    cases ag with
    | true => simp only[if_true]; exact ⟨cs.map rdc, by rw [h.length]; simpa using h1 rfl, h, by rw [List.map_take]⟩
    | false =>
      simp only[Bool.false_eq_true,if_false]
      cases cs with
      | nil => simp at h2
      | cons c cs =>
        simp only[List.map,RIs] at h
        obtain ⟨u, us', rfl, h3, _⟩ := h
        exact ⟨u, by simp, by simpa using h3⟩
  have nb : ∀ x u, RI g w x u → noBox x = true := by
    intro x u h; cases x <;> first | rfl | (simp only[RI] at h)
  cases p with
  | cptr cs =>
    simp only[RT,RI] at hp
    obtain ⟨b, off, us, e, h, hst⟩ := hp
    refine ⟨b, off, us, e, fun j u hj => (hst j u hj).2.1, ?_⟩
    have := key cs us h.rdc (by intro e; simp only[memV,e,if_true] at hc; exact hc) (by intro e; simp only[memV,e] at hc; exact hc)
    cases ag with
    | true => simpa [memV] using this
    | false =>
      simp only[memV,Bool.false_eq_true,if_false] at this ⊢
      obtain ⟨u, h1, h2⟩ := this
      exact ⟨u, h1, h2, nb _ _ h2⟩
  | box s off =>
    simp only[memV] at hc
    cases hs : S.boxes s with
    | none => simp [hs] at hc
    | some cs =>
      obtain ⟨us, e, fz, hb, _, _, _, hv⟩ := hR.boxes s cs hs
      have hv' := RIs_rdc _ _ _ hv
      refine ⟨g.ib s, off, us.toList.drop off, by simpa [RT] using hp, ?_, ?_⟩
      · have := Lies.drop (w := w) (b := g.ib s) (off := 0) (us := us.toList) off (fun j u hj => by rw [cell_of_block hb]; simpa using hj)
        simpa using this
      · have := key (cs.drop off) (us.toList.drop off) (by rw [List.map_drop]; exact hv'.drop off)
          (by intro e; simp only[hs,e,if_true] at hc; simp; omega) (by intro e; simp [hs, e] at hc; simp; omega)
        cases ag with
        | true => simpa [memV, hs] using this
        | false =>
          simp only[memV,hs,Bool.false_eq_true,if_false] at this ⊢
          obtain ⟨u, h1, h2⟩ := this
          have e : (cs.drop off).headD .junk = cs.getD off .junk := by simp [List.headD_eq_head?_getD, List.getD_eq_getElem?_getD]
          rw [e] at h2
          exact ⟨u, h1, h2, nb _ _ h2⟩
  | hp id off =>
    simp only[memV] at hc
    cases hs : S.heap[id]? with
    | none => simp [hs] at hc
    | some o =>
      cases o with
      | dead => simp [hs] at hc
      | map _ _ => simp [hs] at hc
      | iter _ _ _ _ _ => simp [hs] at hc
      | cells cs =>
        simp only[RT,RI] at hp
        by_cases hne : cs = []
        · subst hne
          refine ⟨(g.io id).1, (g.io id).2 + off, [], hp.2, by simp, ?_⟩
          cases ag with
          | true =>
            simp only[hs,if_true,List.length_nil] at hc
            simp only[memV,hs,if_true]
            exact ⟨[], by simp; omega, by simp [RIs], by simp⟩
          | false => simp [hs] at hc
        obtain ⟨cur, e, fz, us, hb, _, _, _, _, hcur, hv⟩ := hR.heap.obj id _ hs hne
        have hv' := RIs_rdc _ _ _ hv
        refine ⟨(g.io id).1, (g.io id).2 + off, us.drop off, hp.2, Lies.drop off (fun j u hj => by rw [cell_of_block hb]; exact hcur j u hj), ?_⟩
        have := key (cs.drop off) (us.drop off) (by rw [List.map_drop]; exact hv'.drop off)
          (by intro e; simp only[hs,e,if_true] at hc; simp; omega) (by intro e; simp [hs, e] at hc; simp; omega)
        cases ag with
        | true => simpa [memV, hs] using this
        | false =>
          simp only[memV,hs,Bool.false_eq_true,if_false] at this ⊢
          obtain ⟨u, h1, h2⟩ := this
          have e : (cs.drop off).headD .junk = cs.getD off .junk := by simp [List.headD_eq_head?_getD, List.getD_eq_getElem?_getD]
          rw [e] at h2
          exact ⟨u, h1, h2, nb _ _ h2⟩
  | _ => simp [memV] at hc
theorem mem_fl (bx : Nat → Option (List AVal)) (hp : List HObj) (ag : Bool) (sz : Nat) (p : AVal) : flv (memV bx hp ag sz p).v = true := by
  have hj : flv .junk = true := rfl
  have h1 : ∀ x, flv (rdc x) = true := fun x => by cases x <;> first | rfl | (rename_i o xs; cases o <;> rfl)
  have h2 : ∀ l : List AVal, flv (.agg (l.map rdc)) = true := fun l => by simp only[flv,fl1,List.all_map,List.all_eq_true]; exact fun x _ => flc_rdc x
  cases p <;> simp only[memV] <;> try exact hj
  · split <;> first | exact h2 _ | exact h1 _
  · split
    · split <;> first | exact h2 _ | exact h1 _
    · exact hj
  · split
    · split <;> first | exact h2 _ | exact h1 _
    · exact hj
theorem ok_load {P : Program} {n : Nat} {S : AState} {g : Gh} {a : Act} {w : World} (hR : Rel n S g a w) {o : Oper} {t : TypeId} {x : Operand} {y : AOpn} {ag : Bool} {sz : Nat} (ho : o.op = .load t x)
    (hx : opn x y = true) (hu : (P.underlying t).isSome = true) (ht : aggT P t = ag) (hi : (P.info? t).map (·.size) = some sz) (h1 : ag = false → sz = 1)
    (hc : (memV S.boxes S.heap ag sz (S.rd y)).c) (own : List Nat → Ow) : Ok1 P (execOp a.eval o) g w own (memV S.boxes S.heap ag sz (S.rd y)).v := by
  obtain ⟨b, off, us, hv, hl, hval⟩ := mem_lies hR (RT.of_opn hR hx) hc
  cases ag with
  | true =>
    simp only[if_true] at hval
    obtain ⟨cs, hsz, hcs, he⟩ := hval
    have hrun := run_loadVar' (P := P) (w := w) (t := t) (us := us.take sz) (b := b) (off := off) hu (by rw [hi]; simp [hsz]) (fun j u hj => hl j u (by
      rcases Nat.lt_or_ge j sz with h | h
      · rwa [List.getElem?_take_of_lt h] at hj
      · simp [List.getElem?_take, Nat.not_lt.2 h] at hj))
    rw [ht] at hrun
    simp only[if_true] at hrun
    refine Ok1.same (u := .agg (us.take sz).toArray) hR.heap.valid ?_ ?_ (mem_fl _ _ _ _ _)
    · simp [execOp, ho, Instr.loadAt, hv, Instr.sureAddr, hrun]
    · rw [he]; simp only[RT,RI]; exact ⟨_, rfl, by simpa using hcs.take sz⟩
  | false =>
    simp only[Bool.false_eq_true,if_false] at hval
    obtain ⟨u, hu1, hu2, hu3⟩ := hval
    cases us with
    | nil => simp at hu1
    | cons u' us =>
      simp at hu1; subst hu1
      have hrun := run_loadVar' (P := P) (w := w) (t := t) (us := [u']) (b := b) (off := off) hu (by rw [hi, h1 rfl]; rfl) (fun j u hj => by
        cases j with
        | zero => exact hl 0 u (by simpa using hj)
        | succ j => simp at hj)
      rw [ht] at hrun
      simp only[Bool.false_eq_true,if_false,List.head?_cons] at hrun
      refine Ok1.same (u := u') hR.heap.valid ?_ (RT.of_RI hu2) (mem_fl _ _ _ _ _)
      simp [execOp, ho, Instr.loadAt, hv, Instr.sureAddr, hrun]
end Go.Ge
namespace Go.Ge
section
variable {P : Program} {n : Nat} {S : AState} {g : Gh} {a : Act} {w : World} {o : Oper}

theorem ok_move (hR : Rel n S g a w) {x : Operand} {y : AOpn} (ho : o.op = .move x ∨ o.op = .assign x) (hx : opn x y = true) (own : List Nat → Ow) : Ok1 P (execOp a.eval o) g w own (S.rd y) := by
  refine Ok1.same (u := a.eval x) hR.heap.valid ?_ (RT.of_opn hR hx) (by rw [rd_full]; exact flv_rdv _)
  rcases ho with ho | ho <;> simp [execOp, ho]

theorem rd_fl (S : AState) (y : AOpn) : flv (S.rd y) = true := by rw [rd_full]; exact flv_rdv _
theorem RI.bool_inv {b : Bool} {v : Value} (h : RT g w (.bool b) v) : v = .bool b := by simpa [RT, RI] using h
theorem RI.int_inv {k : IntKind} {i : Int} {v : Value} (h : RT g w (.int k i) v) : v = .int k i := by simpa [RT, RI] using h
theorem RI.str_inv {s : ByteArray} {v : Value} (h : RT g w (.str s) v) : v = .string s := by simpa [RT, RI] using h

theorem ok_pick (hR : Rel n S g a w) {c x y : Operand} {c' x' y' : AOpn} {t : Bool} (ho : o.op = .pick c x y) (hc : opn c c' = true) (hx : opn x x' = true) (hy : opn y y' = true)
    (ht : S.rd c' = .bool t) (own : List Nat → Ow) : Ok1 P (execOp a.eval o) g w own (pickV t (S.rd x') (S.rd y')) := by
  have h1 := RT.of_opn hR hc; rw [ht] at h1
  have h2 := RT.of_opn hR hx
  have h3 := RT.of_opn hR hy
  refine Ok1.same (u := if t then a.eval x else a.eval y) hR.heap.valid ?_ ?_ ?_
  · simp [execOp, ho, RI.bool_inv h1, asBool]
  · unfold pickV; split
    · rename_i p q hp hq
      rw [hp] at h2; rw [hq] at h3
      rw [RI.bool_inv h2, RI.bool_inv h3]
      cases t <;> simp [RT, RI]
    · cases t <;> simpa
  · unfold pickV; split
    · rfl
    · cases t <;> exact rd_fl _ _

theorem ok_nilck (hR : Rel n S g a w) {x : Operand} {y : AOpn} (ho : o.op = .nilCheck x) (hx : opn x y = true)
    (hc : (nilckV (S.rd y)).c) (own : List Nat → Ow) : Ok1 P (execOp a.eval o) g w own (nilckV (S.rd y)).v := by
  have h := RT.of_opn hR hx
  have hf := rd_fl S y
  revert hc
  generalize hv : S.rd y = v at h hf
  cases v <;> simp only[nilckV,false_imp_iff,true_imp_iff]
  all_goals
    refine Ok1.same (u := a.eval x) hR.heap.valid ?_ h hf
    simp only[RT,RI] at h
    first
      | (obtain ⟨b, off, us, e, _⟩ := h; simp [execOp, ho, e])
      | (obtain ⟨_, e⟩ := h; simp [execOp, ho, e]; done)
      | (obtain ⟨us, e, _⟩ := h; simp [execOp, ho, e]; done)
      | simp [execOp, ho, h]

theorem bits_run (op : BinOp) (hop : op = .and ∨ op = .or ∨ op = .xor ∨ op = .andNot) (k : IntKind) (x y : Int) : (Op.intBits op k x y).run P w = .ok (.int k (bitsV op k x y)) w := by
  rcases hop with rfl | rfl | rfl | rfl <;> simp [Op.intBits, bitsV]
theorem eqGuard_int (op : BinOp) (t : TypeId) (x y : Operand) (k k' : IntKind) (i j : Int) : (eqGuard op t x y (.int k i) (.int k' j)).run P w = .ok () w := by
  unfold eqGuard; split <;> simp
theorem eqGuard_str (op : BinOp) (t : TypeId) (x y : Operand) (i j : ByteArray) : (eqGuard op t x y (.string i) (.string j)).run P w = .ok () w := by
  unfold eqGuard; split <;> simp
theorem eqGuard_bool (op : BinOp) (t : TypeId) (x y : Operand) (i j : Bool) : (eqGuard op t x y (.bool i) (.bool j)).run P w = .ok () w := by
  unfold eqGuard; split <;> simp
theorem eqGuard_ptr (op : BinOp) (t : TypeId) (x y : Operand) (i j : Option Addr) : (eqGuard op t x y (.pointer i) (.pointer j)).run P w = .ok () w := by
  unfold eqGuard; split <;> simp

theorem run_binInt {op : BinOp} {t : TypeId} {k k' : IntKind} {i j : Int} (hc : (binInt op k k' i j).c) : ∃ u, (binOp op t (.int k i) (.int k' j)).run P w = .ok u w ∧ RI g w (binInt op k k' i j).v u ∧ flv (binInt op k k' i j).v = true := by
  cases op <;> simp only[binInt] at hc ⊢
  case shl => exact ⟨_, by simp [binOp, Op.shift, Int.not_lt.2 hc]; rfl, by simp [RI], rfl⟩
  case shr => exact ⟨_, by simp [binOp, Op.shift, Int.not_lt.2 hc]; rfl, by simp [RI], rfl⟩
  case quo => obtain ⟨rfl, h0⟩ := hc; exact ⟨_, by simp [binOp, Op.intDiv, h0]; rfl, by simp [RI], rfl⟩
  case rem => obtain ⟨rfl, h0⟩ := hc; exact ⟨_, by simp [binOp, Op.intDiv, h0]; rfl, by simp [RI], rfl⟩
  case and => obtain rfl := hc; exact ⟨_, by simp [binOp, bits_run]; rfl, by simp [RI], rfl⟩
  case or => obtain rfl := hc; exact ⟨_, by simp [binOp, bits_run]; rfl, by simp [RI], rfl⟩
  case xor => obtain rfl := hc; exact ⟨_, by simp [binOp, bits_run]; rfl, by simp [RI], rfl⟩
  all_goals (obtain rfl := hc; exact ⟨_, by simp [binOp, Op.intArith, Op.intCmp]; rfl, by simp [RI], rfl⟩)

theorem run_binStr {op : BinOp} {t : TypeId} {x y : ByteArray} (hc : (binStr op x y).c) : ∃ u, (binOp op t (.string x) (.string y)).run P w = .ok u w ∧ RI g w (binStr op x y).v u ∧ flv (binStr op x y).v = true := by
  cases op <;> simp only[binStr] at hc ⊢ <;> try (exact hc.elim)
  case add =>
    have h : ¬ ((x.size + y.size : Nat) : Int) > IntKind.i64.max := by
      simp only[IntKind.max,IntKind.signed,IntKind.bits]; simp; omega
    refine ⟨.string (x ++ y), ?_, by simp [RI], rfl⟩
    simp only[binOp,Op.stringOp,h,if_false,Sem.run_pure]
  all_goals exact ⟨_, by simp [binOp, Op.stringOp]; rfl, by simp [RI], rfl⟩


def eqShF (P : Program) (sh : TypeId → Option (List Sh)) : List Field → Nat → Option (List Sh)
  | [], _ => some []
  | f :: fs, acc =>
    if f.name ≠ "_" ∧ f.offset = acc then
      match sh f.type with
      | some s => if (P.info? f.type).map (·.size) = some s.length then (eqShF P sh fs (acc + s.length)).map (s ++ ·) else none
      | none => none
    else none
def eqSh (P : Program) : Nat → TypeId → Option (List Sh)
  | 0, _ => none
  | d + 1, t =>
    match P.underlying t with
    | some .bool => some [.b]
    | some (.int k) => some [.i k]
    | some .string => some [.s]
    | some (.struct fs) => if P.stoodInHeld t then none else eqShF P (eqSh P d) fs.toList 0
    | _ => none

theorem aggEq_append : ∀ (a b c d : List AVal), a.length = b.length → aggEq (a ++ c) (b ++ d) = (aggEq a b && aggEq c d)
  | [], [], _, _, _ => by simp [aggEq]
  | x :: a, y :: b, c, d, h => by simp [aggEq, aggEq_append a b c d (by simpa using h), Bool.and_assoc]
  | [], _ :: _, _, _, h => by simp at h
  | _ :: _, [], _, _, h => by simp at h
theorem hasSh_length : ∀ {sh : List Sh} {cs : List AVal}, hasSh sh cs → cs.length = sh.length
  | [], [], _ => rfl
  | .i _ :: s, .int _ _ :: cs, h => by simp only[hasSh] at h; simp [hasSh_length h.2]
  | .b :: s, .bool _ :: cs, h => by simp only[hasSh] at h; simp [hasSh_length h]
  | .s :: s, .str _ :: cs, h => by simp only[hasSh] at h; simp [hasSh_length h]
  | [], _ :: _, h => by simp [hasSh] at h
  | _ :: _, [], h => by simp [hasSh] at h
  | .i _ :: _, .bool _ :: _, h => by simp [hasSh] at h
  | .i _ :: _, .str _ :: _, h => by simp [hasSh] at h
  | .b :: _, .int _ _ :: _, h => by simp [hasSh] at h
  | .b :: _, .str _ :: _, h => by simp [hasSh] at h
  | .s :: _, .int _ _ :: _, h => by simp [hasSh] at h
  | .s :: _, .bool _ :: _, h => by simp [hasSh] at h
  | .i _ :: _, .junk :: _, h | .i _ :: _, .agg _ :: _, h | .i _ :: _, .tup _ :: _, h | .i _ :: _, .lst _ _ :: _, h | .i _ :: _, .cptr _ :: _, h | .i _ :: _, .box _ _ :: _, h | .i _ :: _, .hp _ _ :: _, h | .i _ :: _, .ref _ _ _ _ :: _, h | .i _ :: _, .nilptr :: _, h | .i _ :: _, .func _ _ :: _, h | .i _ :: _, .map _ :: _, h | .i _ :: _, .nilmap :: _, h => by simp [hasSh] at h
  | .b :: _, .junk :: _, h | .b :: _, .agg _ :: _, h | .b :: _, .tup _ :: _, h | .b :: _, .lst _ _ :: _, h | .b :: _, .cptr _ :: _, h | .b :: _, .box _ _ :: _, h | .b :: _, .hp _ _ :: _, h | .b :: _, .ref _ _ _ _ :: _, h | .b :: _, .nilptr :: _, h | .b :: _, .func _ _ :: _, h | .b :: _, .map _ :: _, h | .b :: _, .nilmap :: _, h => by simp [hasSh] at h
  | .s :: _, .junk :: _, h | .s :: _, .agg _ :: _, h | .s :: _, .tup _ :: _, h | .s :: _, .lst _ _ :: _, h | .s :: _, .cptr _ :: _, h | .s :: _, .box _ _ :: _, h | .s :: _, .hp _ _ :: _, h | .s :: _, .ref _ _ _ _ :: _, h | .s :: _, .nilptr :: _, h | .s :: _, .func _ _ :: _, h | .s :: _, .map _ :: _, h | .s :: _, .nilmap :: _, h => by simp [hasSh] at h
theorem hasSh_append : ∀ {s1 s2 : List Sh} {cs : List AVal}, hasSh (s1 ++ s2) cs → hasSh s1 (cs.take s1.length) ∧ hasSh s2 (cs.drop s1.length)
  | [], s2, cs, h => by simpa [hasSh] using h
  | x :: s1, s2, [], h => by simp [hasSh] at h
  | x :: s1, s2, c :: cs, h => by
    have key : hasSh (s1 ++ s2) cs → hasSh s1 (cs.take s1.length) ∧ hasSh s2 (cs.drop s1.length) := hasSh_append
    cases x <;> cases c <;> simp only[List.cons_append,hasSh,List.length_cons,List.take_succ_cons,List.drop_succ_cons] at h ⊢ <;> first | exact h.elim | (obtain ⟨h1, h2⟩ := h; exact ⟨⟨h1, (key h2).1⟩, (key h2).2⟩) | exact key h

def packT (P : Program) (t : TypeId) (us : List Value) : Value := if aggT P t then .agg us.toArray else us.headD undef
theorem run_part' {t : TypeId} {us : List Value} {off k : Nat} (hu : (P.underlying t).isSome = true) (hi : (P.info? t).map (·.size) = some k) (hk : aggT P t = false → k = 1) (h : off + k ≤ us.length) :
    (part t us.toArray off).run P w = .ok (packT P t ((us.drop off).take k)) w := by
  obtain ⟨i, hi1, hi2⟩ := Option.map_eq_some_iff.1 hi
  simp only[part,Sem.run_bind,run_isAgg' hu,Result.andThen_ok,packT]
  cases hag : aggT P t with
  | true =>
    simp only[if_true,Sem.run_bind,sizeOf,typeInfo,run_program,hi1,Result.andThen_ok,Sem.run_pure,hi2]
    congr 2
    apply Array.ext'
    simp [List.extract_eq_take_drop, Nat.add_sub_cancel_left]
  | false =>
    have := hk hag; subst this
    have hlt : off < us.length := by omega
    simp only[Bool.false_eq_true,if_false]
    have e1 : us.toArray[off]? = some us[off] := by simp [hlt]
    rw [e1]
    simp only[Sem.run_pure]
    have e2 : (us.drop off).take 1 = [us[off]] := by rw [List.drop_eq_getElem_cons hlt]; rfl
    rw [e2]; rfl

theorem eqSh_scalar {d : Nat} {t : TypeId} {sh : List Sh} (h : eqSh P d t = some sh) (ha : aggT P t = false) : sh.length = 1 := by
  cases d with
  | zero => simp [eqSh] at h
  | succ d =>
    simp only[eqSh] at h
    split at h <;> first | (cases h; rfl) | (cases h; done) | skip
    rename_i hu
    simp [aggT, hu] at ha
theorem eqSh_some {d : Nat} {t : TypeId} {sh : List Sh} (h : eqSh P d t = some sh) : (P.underlying t).isSome = true := by
  cases d with
  | zero => simp [eqSh] at h
  | succ d =>
    simp only[eqSh] at h
    split at h <;> simp_all

theorem run_eqSh : ∀ (d : Nat) (m : Nat) (t : TypeId) (sh : List Sh) (cs ds : List AVal) (us vs : List Value), eqSh P d t = some sh → hasSh sh cs → hasSh sh ds → RIs g w cs us → RIs g w ds vs →
    (Op.equalIn (d + m) t (packT P t us) (packT P t vs)).run P w = .ok (aggEq cs ds) w
  | 0, _, _, _, _, _, _, _, h, _, _, _, _ => by simp [eqSh] at h
  | d + 1, m, t, sh, cs, ds, us, vs, h, h1, h2, hu, hv => by
    have hd : d + 1 + m = (d + m) + 1 := by omega
    simp only[eqSh] at h
    split at h
    · rename_i ht
      cases h
      match cs, ds, h1, h2 with
      | [.bool b], [.bool b'], _, _ =>
        simp only[RIs,RI] at hu hv
        obtain ⟨u, _, rfl, rfl, rfl⟩ := hu
        obtain ⟨v, _, rfl, rfl, rfl⟩ := hv
        simp [packT, aggT, ht, hd, run_equalIn_bool' w _ t b b' ht, aggEq, scEq]
    · rename_i k ht
      cases h
      match cs, ds, h1, h2 with
      | [.int k1 x], [.int k2 y], h1, h2 =>
        simp only[hasSh] at h1 h2
        obtain ⟨rfl, _⟩ := h1
        obtain ⟨rfl, _⟩ := h2
        simp only[RIs,RI] at hu hv
        obtain ⟨u, _, rfl, rfl, rfl⟩ := hu
        obtain ⟨v, _, rfl, rfl, rfl⟩ := hv
        simp [packT, aggT, ht, hd, run_equalIn_int w _ t _ _ x y ht, aggEq, scEq]
    · rename_i ht
      cases h
      match cs, ds, h1, h2 with
      | [.str b], [.str b'], _, _ =>
        simp only[RIs,RI] at hu hv
        obtain ⟨u, _, rfl, rfl, rfl⟩ := hu
        obtain ⟨v, _, rfl, rfl, rfl⟩ := hv
        simp [packT, aggT, ht, hd, run_equalIn_string w _ t b b' ht, aggEq, scEq]
    · rename_i fs ht
      split at h
      · cases h
      · rename_i hst
        have hfo : P.fieldsOf t = fs := by simp [Program.fieldsOf, ht]
        have hag : aggT P t = true := by simp [aggT, ht]
        simp only[packT,hag,if_true,hd]
        rw [run_equalIn_struct w (d + m) t us.toArray vs.toArray (by rw [hfo]; exact ht) (by simpa using hst), hfo]
        -- the fields, one by one
        have key : ∀ (fs : List Field) (acc : Nat) (sh : List Sh), eqShF P (eqSh P d) fs acc = some sh → hasSh sh (cs.drop acc) → hasSh sh (ds.drop acc) → acc ≤ cs.length → acc ≤ ds.length →
            (Op.eqFields (d + m) us.toArray vs.toArray fs).run P w = .ok (aggEq (cs.drop acc) (ds.drop acc)) w := by
          intro fs
          induction fs with
          | nil =>
            intro acc sh h h1 h2 _ _
            simp only[eqShF,Option.some.injEq] at h; subst h
            have e1 := hasSh_length h1
            have e2 := hasSh_length h2
            rw [List.eq_nil_of_length_eq_zero e1, List.eq_nil_of_length_eq_zero e2]
            simp [Op.eqFields, aggEq]
          | cons f fs ih =>
            intro acc sh h h1 h2 hl1 hl2
            simp only[eqShF] at h
            split at h
            · rename_i hf
              obtain ⟨hf1, hf2⟩ := hf
              split at h
              · rename_i s hs
                split at h
                · rename_i hsz
                  obtain ⟨sh', hsh', rfl⟩ := Option.map_eq_some_iff.1 h
                  obtain ⟨a1, a2⟩ := hasSh_append h1
                  obtain ⟨b1, b2⟩ := hasSh_append h2
                  have la := hasSh_length a1
                  have lb := hasSh_length b1
                  have lu := hu.length
                  have lv := hv.length
                  simp only[List.length_take,List.length_drop] at la lb
                  have hpu : (part f.type us.toArray f.offset).run P w = .ok (packT P f.type ((us.drop acc).take s.length)) w := by
                    rw [hf2]; exact run_part' (eqSh_some hs) hsz (fun e => eqSh_scalar hs e) (by omega)
                  have hpv : (part f.type vs.toArray f.offset).run P w = .ok (packT P f.type ((vs.drop acc).take s.length)) w := by
                    rw [hf2]; exact run_part' (eqSh_some hs) hsz (fun e => eqSh_scalar hs e) (by omega)
                  have heq := run_eqSh d m f.type s _ _ _ _ hs a1 b1 ((hu.drop acc).take s.length) ((hv.drop acc).take s.length)
                  have hsplit : aggEq (cs.drop acc) (ds.drop acc) = (aggEq ((cs.drop acc).take s.length) ((ds.drop acc).take s.length) && aggEq (cs.drop (acc + s.length)) (ds.drop (acc + s.length))) := by
                    conv => lhs; rw [← List.take_append_drop s.length (cs.drop acc), ← List.take_append_drop s.length (ds.drop acc)]
                    rw [aggEq_append _ _ _ _ (by simp only[List.length_take,List.length_drop]; omega), List.drop_drop, List.drop_drop]
                  have hrest := ih (acc + s.length) sh' hsh' (by rw [← List.drop_drop]; exact a2) (by rw [← List.drop_drop]; exact b2) (by omega) (by omega)
                  simp only[Op.eqFields,ne_eq,hf1,not_false_eq_true,if_true,Sem.run_bind,hpu,hpv,Result.andThen_ok,heq,Sem.run_ite]
                  rw [hsplit]
                  cases aggEq ((cs.drop acc).take s.length) ((ds.drop acc).take s.length) with
                  | true => simpa using hrest
                  | false => simp
                · cases h
              · cases h
            · cases h
        have := key fs.toList 0 sh h (by simpa using h1) (by simpa using h2) (by omega) (by omega)
        simpa using this
    · cases h
def arrK (P : Program) (t : TypeId) : Option (List Sh) := match P.underlying t with
  | some (.array n e) => (match P.underlying e with
    | some (.int k) => if P.cellsOf e = 1 ∧ (P.info? e).isSome = true then some (List.replicate n (.i k)) else none
    | _ => none)
  | _ => none
theorem run_arrK {t : TypeId} {sh : List Sh} {cs ds : List AVal} {us vs : List Value} (m : Nat) (h : arrK P t = some sh) (h1 : hasSh sh cs) (h2 : hasSh sh ds) (hu : RIs g w cs us) (hv : RIs g w ds vs) :
    (Op.equalIn (m + 2) t (.agg us.toArray) (.agg vs.toArray)).run P w = .ok (aggEq cs ds) w := by
  unfold arrK at h
  split at h
  · rename_i n e ht
    split at h
    · rename_i k he
      split at h
      · rename_i hc
        simp only[Option.some.injEq] at h
        subst h
        obtain ⟨i, hi⟩ := Option.isSome_iff_exists.1 hc.2
        rw [run_equalIn_array w (m + 1) us.toArray vs.toArray ht hi, hc.1]
        have hag : aggT P e = false := by simp [aggT, he]
        have hsz : (P.info? e).map (·.size) = some 1 := by have := hc.1; simp only[Program.cellsOf,hi,Option.map_some,Option.getD_some] at this ⊢; rw [this]
        have key : ∀ (r : Nat) (q : Nat), q + r = n → ∀ (cs ds : List AVal), hasSh (List.replicate r (.i k)) cs → hasSh (List.replicate r (.i k)) ds → RIs g w cs (us.drop q) → RIs g w ds (vs.drop q) →
            (Op.eqItems (m + 1) e 1 us.toArray vs.toArray (List.range' q r)).run P w = .ok (aggEq cs ds) w := by
          intro r
          induction r with
          | zero =>
            intro q _ cs ds h1 h2 _ _
            have e1 := hasSh_length h1
            have e2 := hasSh_length h2
            rw [List.eq_nil_of_length_eq_zero e1, List.eq_nil_of_length_eq_zero e2]
            simp [Op.eqItems, aggEq]
          | succ r ih =>
            intro q hq cs ds h1 h2 hu hv
            rw [List.replicate_succ] at h1 h2
            match cs, ds, h1, h2 with
            | .int k1 x :: cs, .int k2 y :: ds, h1, h2 =>
              simp only[hasSh] at h1 h2
              obtain ⟨e1, h1⟩ := h1
              obtain ⟨e2, h2⟩ := h2
              rw [e1] at hu
              rw [e2] at hv
              simp only[RIs,RI] at hu hv
              obtain ⟨u, ur, hu1, hu2, hu3⟩ := hu
              obtain ⟨v, vr, hv1, hv2, hv3⟩ := hv
              have lu : q < us.length := by have := congrArg List.length hu1; simp at this; omega
              have lv : q < vs.length := by have := congrArg List.length hv1; simp at this; omega
              have pu := run_part' (w := w) (t := e) (us := us) (off := q * 1) (by simp [he]) hsz (fun _ => rfl) (by omega)
              have pv := run_part' (w := w) (t := e) (us := vs) (off := q * 1) (by simp [he]) hsz (fun _ => rfl) (by omega)
              rw [Nat.mul_one] at pu pv
              have du : packT P e ((us.drop q).take 1) = .int k x := by rw [hu1, hu2]; simp [packT, hag]
              have dv : packT P e ((vs.drop q).take 1) = .int k y := by rw [hv1, hv2]; simp [packT, hag]
              rw [du] at pu
              rw [dv] at pv
              have su : us.drop (q + 1) = ur := by rw [← List.drop_drop, hu1]; rfl
              have sv : vs.drop (q + 1) = vr := by rw [← List.drop_drop, hv1]; rfl
              have hrest := ih (q + 1) (by omega) cs ds h1 h2 (by rw [su]; exact hu3) (by rw [sv]; exact hv3)
              rw [List.range'_succ]
              simp only[Op.eqItems,Sem.run_bind,Nat.mul_one,pu,pv,Result.andThen_ok,run_equalIn_int w m e _ _ x y he,Sem.run_ite,aggEq,scEq]
              cases hxy : (x == y) with
              | true => simpa using hrest
              | false => simp
        have := key n 0 (by omega) cs ds h1 h2 (by simpa using hu) (by simpa using hv)
        rwa [← List.range_eq_range'] at this
      · cases h
    · cases h
  · cases h
end
end Go.Ge
set_option linter.unusedSimpArgs false
set_option linter.unusedVariables false
namespace Go.Ge
section
variable {P : Program} {n : Nat} {S : AState} {g : Gh} {a : Act} {w : World} {o : Oper}

theorem mk_binV {op : BinOp} {t : TypeId} {x y : Operand} {ty : TypeId} {u v : Value} {f : FR} (ho : o.op = .binOp op t x y ty) (hx : a.eval x = u) (hy : a.eval y = v) (hv : ∀ b, w.heap.size ≤ b → g.ow b = .no)
    (hg : (eqGuard op t x y u v).run P w = .ok () w) (h : ∃ r, (binOp op t u v).run P w = .ok r w ∧ RI g w f.v r ∧ flv f.v = true) (own : List Nat → Ow) : Ok1 P (execOp a.eval o) g w own f.v := by
  obtain ⟨r, h1, h2, h3⟩ := h
  refine Ok1.same (u := r) hv ?_ (RT.of_RI h2) h3
  simp [execOp, ho, hx, hy, hg, h1]

theorem ok_bin (hR : Rel n S g a w) {op : BinOp} {t : TypeId} {x y : Operand} {ty : TypeId} {x' y' : AOpn} (ho : o.op = .binOp op t x y ty) (hx : opn x x' = true) (hy : opn y y' = true)
    (hc : (binV op (S.rd x') (S.rd y')).c) (own : List Nat → Ow) : Ok1 P (execOp a.eval o) g w own (binV op (S.rd x') (S.rd y')).v := by
  have h1 := RT.of_opn hR hx
  have h2 := RT.of_opn hR hy
  generalize S.rd x' = p at h1 hc ⊢
  generalize S.rd y' = q at h2 hc ⊢
  have hv := hR.heap.valid
  unfold binV at hc ⊢
  split at hc
  · exact mk_binV ho (RI.int_inv h1) (RI.int_inv h2) hv (eqGuard_int ..) (run_binInt hc) own
  · exact mk_binV ho (RI.str_inv h1) (RI.str_inv h2) hv (eqGuard_str ..) (run_binStr hc) own
  · exact hc.elim
theorem ok_beq (hR : Rel n S g a w) {neg : Bool} {t : TypeId} {x y : Operand} {ty : TypeId} {x' y' : AOpn} (ho : o.op = .binOp (if neg then .neq else .eql) t x y ty) (hx : opn x x' = true) (hy : opn y y' = true) (ht : P.underlying t = some .bool)
    {b c : Bool} (hb : S.rd x' = .bool b) (hc : S.rd y' = .bool c) (own : List Nat → Ow) : Ok1 P (execOp a.eval o) g w own (.bool ((b == c) != neg)) := by
  have h1 := RT.of_opn hR hx; rw [hb] at h1
  have h2 := RT.of_opn hR hy; rw [hc] at h2
  refine mk_binV (f := ⟨True, _⟩) ho (RI.bool_inv h1) (RI.bool_inv h2) hR.heap.valid (eqGuard_bool ..) ?_ own
  cases neg with
  | false => exact ⟨_, run_eql_bool w t b c ht, by simp [RI], rfl⟩
  | true => exact ⟨_, run_neq_bool w t b c ht, by simp [RI], rfl⟩
theorem ptr_shape {p : AVal} {v : Value} (h : RT g w p v) (hp : (∃ i j, p = .hp i j) ∨ (∃ i j, p = .box i j) ∨ ∃ cs, p = .cptr cs) : ∃ ad, v = .pointer (some ad) := by
  rcases hp with ⟨i, j, rfl⟩ | ⟨i, j, rfl⟩ | ⟨cs, rfl⟩
  · simp only[RT,RI] at h; exact ⟨_, h.2⟩
  · simp only[RT] at h; exact ⟨_, h⟩
  · simp only[RT,RI] at h; obtain ⟨b, off, us, e, _⟩ := h; exact ⟨_, e⟩
theorem eq_ptr_nil {t e : TypeId} (ht : P.underlying t = some (.pointer e)) (q : Option Addr) (d : Nat) (w' : World) : (Op.equalIn (d + 1) t (.pointer q) (.pointer none)).run P w' = .ok q.isNone w' := by
  cases q <;> simp [Op.equalIn, run_underlying ht]
theorem eq_nil_ptr {t e : TypeId} (ht : P.underlying t = some (.pointer e)) (q : Option Addr) (d : Nat) (w' : World) : (Op.equalIn (d + 1) t (.pointer none) (.pointer q)).run P w' = .ok q.isNone w' := by
  cases q <;> simp [Op.equalIn, run_underlying ht]
theorem ok_pnil (hR : Rel n S g a w) {neg : Bool} {t e : TypeId} {x y z : Operand} {ty : TypeId} {x' : AOpn} (ho : o.op = .binOp (if neg then .neq else .eql) t y z ty) (hx : opn x x' = true)
    (hyz : (y = x ∧ z = .const (.pointer none)) ∨ (z = x ∧ y = .const (.pointer none))) (ht : P.underlying t = some (.pointer e))
    (hc : (pnilV neg (S.rd x')).c) (own : List Nat → Ow) : Ok1 P (execOp a.eval o) g w own (pnilV neg (S.rd x')).v := by
  have h := RT.of_opn hR hx
  revert hc
  generalize S.rd x' = p at h ⊢
  have key : ∀ (q : Option Addr) (b : Bool), a.eval x = .pointer q → b = (q.isNone != neg) → Ok1 P (execOp a.eval o) g w own (.bool b) := by
    rintro q b hq rfl
    have r1 : ∀ w' : World, (Op.equal t (.pointer q) (.pointer none)).run P w' = .ok q.isNone w' := eq_ptr_nil ht q 9999
    have r2 : ∀ w' : World, (Op.equal t (.pointer none) (.pointer q)).run P w' = .ok q.isNone w' := eq_nil_ptr ht q 9999
    rcases hyz with ⟨rfl, rfl⟩ | ⟨rfl, rfl⟩
    · refine mk_binV (f := ⟨True, _⟩) ho hq (show a.eval (.const (.pointer none)) = .pointer none from rfl) hR.heap.valid (eqGuard_ptr ..) ?_ own
      cases neg <;> exact ⟨_, by simp [binOp, r1]; rfl, by cases q <;> simp [RI], rfl⟩
    · refine mk_binV (f := ⟨True, _⟩) ho (show a.eval (.const (.pointer none)) = .pointer none from rfl) hq hR.heap.valid (eqGuard_ptr ..) ?_ own
      cases neg <;> exact ⟨_, by simp [binOp, r2]; rfl, by cases q <;> simp [RI], rfl⟩
  cases p <;> simp only[pnilV,faddrV,false_imp_iff,true_imp_iff]
  · rename_i cs
    obtain ⟨ad, e⟩ := ptr_shape h (.inr (.inr ⟨_, rfl⟩))
    exact key _ _ e (by cases neg <;> rfl)
  · obtain ⟨ad, e⟩ := ptr_shape h (.inr (.inl ⟨_, _, rfl⟩))
    exact key _ _ e (by cases neg <;> rfl)
  · obtain ⟨ad, e⟩ := ptr_shape h (.inl ⟨_, _, rfl⟩)
    exact key _ _ e (by cases neg <;> rfl)
  · simp only[RT,RI] at h
    exact key _ _ h (by cases neg <;> rfl)
theorem ok_eqs (hR : Rel n S g a w) {neg : Bool} {t : TypeId} {x y : Operand} {ty : TypeId} {x' y' : AOpn} {sh : List Sh} (ho : o.op = .binOp (if neg then .neq else .eql) t x y ty) (hx : opn x x' = true) (hy : opn y y' = true)
    (hsh : eqSh P 20 t = some sh ∨ arrK P t = some sh) (hag : aggT P t = true) (hgd : P.eqGuardType P.depth t = false) {cs ds : List AVal} (hb : S.rd x' = .agg cs) (hc : S.rd y' = .agg ds) (h1 : hasSh sh cs) (h2 : hasSh sh ds) (own : List Nat → Ow) :
    Ok1 P (execOp a.eval o) g w own (.bool (aggEq cs ds != neg)) := by
  have e1 := RT.of_opn hR hx; rw [hb] at e1
  have e2 := RT.of_opn hR hy; rw [hc] at e2
  simp only[RT,RI] at e1 e2
  obtain ⟨us, hu, hus⟩ := e1
  obtain ⟨vs, hv, hvs⟩ := e2
  have hrun : (Op.equalIn 10000 t (.agg us) (.agg vs)).run P w = .ok (aggEq cs ds) w := by
    rcases hsh with hsh | hsh
    · have hrun := run_eqSh (P := P) (g := g) (w := w) 20 9980 t sh cs ds _ _ hsh h1 h2 hus hvs
      simpa only [packT, hag, if_true, Array.toArray_toList] using hrun
    · have hrun := run_arrK (P := P) (g := g) (w := w) 9998 hsh h1 h2 hus hvs
      simpa only [Array.toArray_toList] using hrun
  refine mk_binV (f := ⟨True, _⟩) ho hu hv hR.heap.valid (run_eqGuard_agg _ _ _ _ _ _ _ hgd) ?_ own
  cases neg with
  | false => exact ⟨_, by simp only[Bool.false_eq_true,if_false]; rw [run_eql_struct, hrun]; rfl, by simp [RI], rfl⟩
  | true => exact ⟨_, by simp only[if_true]; rw [run_neq_struct, hrun]; rfl, by simp [RI], rfl⟩

theorem ok_un (hR : Rel n S g a w) {op : UnOp} {t : TypeId} {x : Operand} {x' : AOpn} (ho : o.op = .unOp op t x) (hx : opn x x' = true) (hc : (unV op (S.rd x')).c) (own : List Nat → Ow) :
    Ok1 P (execOp a.eval o) g w own (unV op (S.rd x')).v := by
  have h := RT.of_opn hR hx
  generalize S.rd x' = p at h hc ⊢
  cases op with
  | plus => cases p <;> simp [unV] at hc
  | neg =>
    cases p <;> simp only[unV] at hc ⊢ <;> try exact hc.elim
    exact Ok1.same (u := _) hR.heap.valid (by simp [execOp, ho, RI.int_inv h, Op.unary, Op.intArith]; rfl) (by simp [RT, RI]) rfl
  | not =>
    cases p <;> simp only[unV] at hc ⊢ <;> try exact hc.elim
    exact Ok1.same (u := _) hR.heap.valid (by simp [execOp, ho, RI.bool_inv h, Op.unary]; rfl) (by simp [RT, RI]) rfl
  | xor =>
    cases p <;> simp only[unV] at hc ⊢ <;> try exact hc.elim
    exact Ok1.same (u := _) hR.heap.valid (by simp only[execOp,ho,RI.int_inv h,Op.unary,Sem.run_bind,bits_run _ (.inr (.inr (.inl rfl)))]; rfl) (by simp [RT, RI]) rfl
theorem ok_conv (hR : Rel n S g a w) {s d : TypeId} {k k' : IntKind} {i : Int} {x : Operand} {x' : AOpn} (ho : o.op = .convert s d x) (hx : opn x x' = true) (hs : (P.underlying s).isSome = true) (hd : P.underlying d = some (.int k))
    (hv : S.rd x' = .int k' i) (own : List Nat → Ow) : Ok1 P (execOp a.eval o) g w own (.int k (k.wrap i)) := by
  have h := RT.of_opn hR hx; rw [hv] at h
  obtain ⟨ds, hs'⟩ := isSome_iff' hs
  exact Ok1.same (u := _) hR.heap.valid (by simp [execOp, ho, RI.int_inv h, convert, run_underlying hs', run_underlying hd, Conv.intToInt]; rfl) (by simp [RT, RI]) rfl
theorem ok_same (hR : Rel n S g a w) {s d : TypeId} {q : ByteArray} {x : Operand} {x' : AOpn} (ho : o.op = .convert s d x) (hx : opn x x' = true) (hs : P.underlying s = some .string) (hd : P.underlying d = some .string)
    (hv : S.rd x' = .str q) (own : List Nat → Ow) : Ok1 P (execOp a.eval o) g w own (.str q) := by
  have h := RT.of_opn hR hx; rw [hv] at h
  exact Ok1.same (u := .string q) hR.heap.valid (by simp [execOp, ho, RI.str_inv h, convert, run_underlying hs, run_underlying hd]) (by simp [RT, RI]) rfl

theorem ok_faddr (hR : Rel n S g a w) {s : TypeId} {x : Operand} {f : Nat} {off : Nat} {x' : AOpn} {fs : Array Field} {fd : Field} {i : TypeInfo} (ho : o.op = .fieldAddr s x f) (hx : opn x x' = true)
    (hs : P.underlying s = some (.struct fs)) (hf : fs[f]? = some fd) (hi : P.info? fd.type = some i) (h0 : i.size ≠ 0) (hoff : fd.offset = off)
    (hc : (faddrV off (S.rd x')).c) (own : List Nat → Ow) : Ok1 P (execOp a.eval o) g w own (faddrV off (S.rd x')).v := by
  have h := RT.of_opn hR hx
  revert hc
  generalize S.rd x' = p at h ⊢
  have key : ∀ (b q : Nat) (y : AVal), a.eval x = .pointer (some ⟨b, q, none⟩) → RT g w y (.pointer (some ⟨b, q + off, none⟩)) → flv y = true → Ok1 P (execOp a.eval o) g w own y := by
    intro b q y hq hx hfl
    refine Ok1.same (u := .pointer (some ⟨b, q + off, none⟩)) hR.heap.valid ?_ hx hfl
    simp [execOp, ho, hq, Instr.fieldAt, run_underlying hs, hf, Instr.sureAddr, fieldPlace, sizeOf, typeInfo, hi, h0, hoff, Addr.add_lit]
  cases p <;> simp only[pnilV,faddrV,false_imp_iff,true_imp_iff]
  · simp only[RT,RI] at h
    obtain ⟨b, q, us, e, hus, hst⟩ := h
    refine key b q _ e ?_ rfl
    simp only[RT,RI]
    refine ⟨b, q + off, us.drop off, rfl, hus.drop off, fun j u hj => ?_⟩
    rw [List.getElem?_drop] at hj
    have := hst _ _ hj
    rwa [← Nat.add_assoc] at this
  · simp only[RT] at h
    exact key _ _ _ h (by simp [RT]) rfl
  · simp only[RT,RI] at h
    exact key _ _ _ h.2 (by simp only[RT,RI]; exact ⟨h.1, by rw [Nat.add_assoc]⟩) rfl
theorem ok_aaddr (hR : Rel n S g a w) {t e : TypeId} {x i : Operand} {m sz : Nat} {x' i' : AOpn} {it : TypeInfo} (ho : o.op = .indexAddr t x i) (hx : opn x x' = true) (hi : opn i i' = true)
    (ht : P.underlying t = some (.array m e)) (hit : P.info? e = some it) (hsz : it.size = sz)
    (hc : (aaddrV m sz (S.rd x') (S.rd i')).c) (own : List Nat → Ow) : Ok1 P (execOp a.eval o) g w own (aaddrV m sz (S.rd x') (S.rd i')).v := by
  have h := RT.of_opn hR hx
  have h2 := RT.of_opn hR hi
  revert hc
  generalize S.rd x' = p at h ⊢
  generalize S.rd i' = q at h2 ⊢
  have key : ∀ (b r : Nat) (k : IntKind) (j : Int) (y : AVal), a.eval x = .pointer (some ⟨b, r, none⟩) → a.eval i = .int k j → 0 ≤ j ∧ j < m → RT g w y (.pointer (some ⟨b, r + j.toNat * sz, none⟩)) → flv y = true → Ok1 P (execOp a.eval o) g w own y := by
    intro b r k j y hq hj hjm hx hfl
    refine Ok1.same (u := .pointer (some ⟨b, r + j.toNat * sz, none⟩)) hR.heap.valid ?_ hx hfl
    simp [execOp, ho, hq, hj, Instr.indexAt, run_underlying ht, Instr.sureAddr, asIntOf, sizeOf, typeInfo, hit, hsz, hjm.1, hjm.2, Addr.add_lit]
  cases p <;> cases q <;> simp only[aaddrV,iaddrV,false_imp_iff]
  · intro hc
    simp only[RT,RI] at h
    obtain ⟨b, r, us, e, hus, hst⟩ := h
    rename_i k j
    refine key b r _ _ _ e (RI.int_inv h2) hc ?_ rfl
    simp only[RT,RI]
    refine ⟨b, _, us.drop (j.toNat * sz), rfl, hus.drop _, fun j' u hj => ?_⟩
    rw [List.getElem?_drop] at hj
    have := hst _ _ hj
    rwa [← Nat.add_assoc] at this
  · intro hc
    simp only[RT] at h
    exact key _ _ _ _ _ h (RI.int_inv h2) hc (by simp [RT]) rfl
  · intro hc
    simp only[RT,RI] at h
    exact key _ _ _ _ _ h.2 (RI.int_inv h2) hc (by simp only[RT,RI]; exact ⟨h.1, by rw [Nat.add_assoc]⟩) rfl
theorem at_get {xs : List AVal} {i : Int} (h0 : 0 ≤ i) (h : i < xs.length) : xs[i.toNat]? = some (at_ xs i) := by
  have : i.toNat < xs.length := by omega
  simp [at_, List.getD_eq_getElem?_getD, this]
theorem ok_iaddr (hR : Rel n S g a w) {t e : TypeId} {x i : Operand} {sz : Nat} {x' i' : AOpn} {it : TypeInfo} (ho : o.op = .indexAddr t x i) (hx : opn x x' = true) (hi : opn i i' = true)
    (ht : P.underlying t = some (.slice e)) (hit : P.info? e = some it) (hsz : it.size = sz) (hpos : 0 < sz)
    (hc : (iaddrV sz (S.rd x') (S.rd i')).c) (own : List Nat → Ow) : Ok1 P (execOp a.eval o) g w own (iaddrV sz (S.rd x') (S.rd i')).v := by
  have h := RT.of_opn hR hx
  have h2 := RT.of_opn hR hi
  revert hc
  generalize S.rd x' = p at h ⊢
  generalize S.rd i' = q at h2 ⊢
  have key : ∀ (b r len c : Nat) (k : IntKind) (j : Int) (y : AVal), a.eval x = .slice (some ⟨b, r, none⟩) len c → a.eval i = .int k j → 0 ≤ j → j < len → RT g w y (.pointer (some ⟨b, r + j.toNat * sz, none⟩)) → flv y = true → Ok1 P (execOp a.eval o) g w own y := by
    intro b r len c k j y hq hj h0 hjm hx hfl
    refine Ok1.same (u := .pointer (some ⟨b, r + j.toNat * sz, none⟩)) hR.heap.valid ?_ hx hfl
    simp [execOp, ho, hq, hj, Instr.indexAt, run_underlying ht, asIntOf, sizeOf, typeInfo, hit, hsz, h0, hjm, Addr.add_lit]
  cases p <;> cases q <;> simp only[aaddrV,iaddrV,false_imp_iff]
  · rintro ⟨h0, hlt, hw⟩
    simp only[RT,RI] at h
    obtain ⟨A, c, us, e, hl, hus, ⟨sz', hs1, hs2⟩, _⟩ := h
    rename_i k j
    obtain ⟨u, hu, hru⟩ := hus.get _ _ (at_get h0 hlt)
    have hw' := hru.width (by omega)
    have hmem : u ∈ us := List.mem_of_getElem? hu
    have hsz' : sz' = sz := by rw [← hs1 u hmem, hw', hw]
    subst hsz'
    obtain ⟨b, off, hA, hst⟩ := hs2 (by intro e; rw [e] at hu; simp at hu)
    subst hA
    refine key b off _ _ _ _ _ e (RI.int_inv h2) h0 (by rw [hus.length]; exact hlt) ?_ rfl
    simp only[RT,RI]
    exact ⟨b, _, u.cells.toList, rfl, hru.cells (by omega), fun j' u' hj' => hst _ _ _ _ hu (by simpa using hj')⟩
  · rintro ⟨h0, hlt⟩
    simp only[RT,RI] at h
    obtain ⟨A, e, hcap, h3⟩ := h
    obtain ⟨hid, rfl⟩ := h3 (by omega)
    exact key _ _ _ _ _ _ _ e (RI.int_inv h2) h0 hlt (by simp only[RT,RI]; exact ⟨hid, by rw [Nat.add_assoc]⟩) rfl
end
end Go.Ge
set_option linter.unusedSimpArgs false
set_option linter.unusedVariables false
namespace Go.Ge
section
variable {P : Program} {n : Nat} {S : AState} {g : Gh} {a : Act} {w : World} {o : Oper}

theorem rd_agg_cells {S : AState} {y : AOpn} {cs : List AVal} (h : S.rd y = .agg cs) : ∃ ds : List AVal, cs = ds.map rdc := by
  rw [rd_full] at h
  generalize S.full y = f at h
  cases f with
  | agg ds => simp only[rdv,rd1,AVal.agg.injEq] at h; exact ⟨ds, h.symm⟩
  | lst o xs => cases o <;> simp [rdv, rd1, rdc] at h
  | _ => simp [rdv, rd1, rdc] at h
theorem flv_rdc (x : AVal) : flv (rdc x) = true := by
  cases x <;> first | rfl | (rename_i o xs; cases o <;> rfl)
theorem flv_agg_rdc (ds : List AVal) : flv (.agg (ds.map rdc)) = true := by
  simp only[flv,fl1,List.all_map,List.all_eq_true]; exact fun x _ => flc_rdc x
theorem flv_agg_take {cs : List AVal} (h : ∃ ds : List AVal, cs = ds.map rdc) (i k : Nat) : flv (.agg ((cs.drop i).take k)) = true := by
  obtain ⟨ds, rfl⟩ := h
  rw [← List.map_drop, ← List.map_take]; exact flv_agg_rdc _
theorem flv_agg_getD {cs : List AVal} (h : ∃ ds : List AVal, cs = ds.map rdc) (i : Nat) : flv (cs.getD i .junk) = true := by
  obtain ⟨ds, rfl⟩ := h
  rw [List.getD_eq_getElem?_getD, List.getElem?_map]
  cases ds[i]? with
  | none => rfl
  | some c => simpa using flv_rdc c

theorem part_ok {t : TypeId} {cs : List AVal} {us : List Value} {off sz : Nat} {ag : Bool} (hus : RIs g w cs us) (hu : (P.underlying t).isSome = true) (ht : aggT P t = ag) (hi : (P.info? t).map (·.size) = some sz) (h1 : ag = false → sz = 1)
    (hlen : off + sz ≤ cs.length) : ∃ u, (part t us.toArray off).run P w = .ok u w ∧ RI g w (if ag then .agg ((cs.drop off).take sz) else cs.getD off .junk) u := by
  have hl := hus.length
  refine ⟨_, run_part' hu hi (fun e => h1 (ht.symm.trans e)) (by omega), ?_⟩
  simp only[packT,ht]
  cases ag with
  | true => simp only[if_true,RI]; exact ⟨_, rfl, by simpa using (hus.drop off).take sz⟩
  | false =>
    have := h1 rfl; subst this
    have hlt : off < cs.length := by omega
    obtain ⟨u, hu1, hu2⟩ := hus.get off cs[off] (by simp [hlt])
    have e1 : (us.drop off).take 1 = [u] := by
      have hlt' : off < us.length := by omega
      rw [List.drop_eq_getElem_cons hlt']
      simp only[List.take_succ_cons,List.take_zero]
      rw [List.getElem?_eq_getElem hlt'] at hu1
      simp at hu1; simp [hu1]
    simp only[Bool.false_eq_true,if_false,e1,List.headD_cons,List.getD_eq_getElem?_getD,List.getElem?_eq_getElem hlt,Option.getD_some]
    exact hu2

theorem ok_field (hR : Rel n S g a w) {s : TypeId} {x : Operand} {f off sz : Nat} {ag : Bool} {x' : AOpn} {fs : Array Field} {fd : Field} (ho : o.op = .field s x f) (hx : opn x x' = true)
    (hs : P.underlying s = some (.struct fs)) (hf : fs[f]? = some fd) (hu : (P.underlying fd.type).isSome = true) (ht : aggT P fd.type = ag) (hi : (P.info? fd.type).map (·.size) = some sz) (h1 : ag = false → sz = 1) (hoff : fd.offset = off)
    (hc : (fieldV ag off sz (S.rd x')).c) (own : List Nat → Ow) : Ok1 P (execOp a.eval o) g w own (fieldV ag off sz (S.rd x')).v := by
  have h := RT.of_opn hR hx
  cases hp : S.rd x' <;> rw [hp] at h hc <;> simp only[fieldV] at hc ⊢ <;> try exact hc.elim
  rename_i cs
  have hfl := rd_agg_cells hp
  simp only[RT,RI] at h
  obtain ⟨us, e, hus⟩ := h
  have hlen : off + sz ≤ cs.length := by
    cases ag with
    | true => simpa using hc
    | false => have := h1 rfl; simp at hc; omega
  obtain ⟨u, hr, hru⟩ := part_ok (P := P) hus hu ht hi h1 hlen
  simp only[Array.toArray_toList] at hr
  have hv : (if ag = true then FR.mk (off + sz ≤ cs.length) (.agg ((cs.drop off).take sz)) else ⟨off < cs.length, cs.getD off .junk⟩).v = (if ag then .agg ((cs.drop off).take sz) else cs.getD off .junk) := by cases ag <;> rfl
  rw [hv]
  refine Ok1.same (u := u) hR.heap.valid ?_ (RT.of_RI hru) ?_
  · simp [execOp, ho, e, Instr.field, run_underlying hs, hf, asAgg, hoff, hr]
  · cases ag with
    | true => exact flv_agg_take hfl _ _
    | false => exact flv_agg_getD hfl _
theorem ok_aidx (hR : Rel n S g a w) {t e : TypeId} {x i : Operand} {m sz : Nat} {ag : Bool} {x' i' : AOpn} (ho : o.op = .index t x i) (hx : opn x x' = true) (hi : opn i i' = true)
    (ht : P.underlying t = some (.array m e)) (hu : (P.underlying e).isSome = true) (hag : aggT P e = ag) (hsz : (P.info? e).map (·.size) = some sz) (h1 : ag = false → sz = 1)
    (hc : (aidxV ag m sz (S.rd x') (S.rd i')).c) (own : List Nat → Ow) : Ok1 P (execOp a.eval o) g w own (aidxV ag m sz (S.rd x') (S.rd i')).v := by
  have h := RT.of_opn hR hx
  have h2 := RT.of_opn hR hi
  cases hp : S.rd x' <;> cases hq : S.rd i' <;> rw [hp] at h hc <;> rw [hq] at h2 hc <;> simp only[aidxV] at hc ⊢ <;> try exact hc.elim
  rename_i cs k j
  have hfl := rd_agg_cells hp
  simp only[RT,RI] at h
  obtain ⟨us, ee, hus⟩ := h
  have hlen : 0 ≤ j ∧ j < m ∧ j.toNat * sz + sz ≤ cs.length := by
    cases ag with
    | true => simpa using hc
    | false => have := h1 rfl; simp at hc; exact ⟨hc.1, hc.2.1, by omega⟩
  obtain ⟨it, hit1, hit2⟩ := Option.map_eq_some_iff.1 hsz
  obtain ⟨u, hr, hru⟩ := part_ok (P := P) hus hu hag hsz h1 hlen.2.2
  simp only[Array.toArray_toList] at hr
  have hv : (if ag = true then FR.mk (0 ≤ j ∧ j < m ∧ j.toNat * sz + sz ≤ cs.length) (.agg ((cs.drop (j.toNat * sz)).take sz)) else ⟨0 ≤ j ∧ j < m ∧ j.toNat * sz < cs.length, cs.getD (j.toNat * sz) .junk⟩).v
      = (if ag then .agg ((cs.drop (j.toNat * sz)).take sz) else cs.getD (j.toNat * sz) .junk) := by cases ag <;> rfl
  rw [hv]
  refine Ok1.same (u := u) hR.heap.valid ?_ (RT.of_RI hru) ?_
  · simp [execOp, ho, ee, RI.int_inv h2, Instr.index, run_underlying ht, asIntOf, hlen.1, hlen.2.1, sizeOf, typeInfo, hit1, hit2, hr]
  · cases ag with
    | true => exact flv_agg_take hfl _ _
    | false => exact flv_agg_getD hfl _
theorem ok_idx (hR : Rel n S g a w) {t : TypeId} {x i : Operand} {x' i' : AOpn} (ho : o.op = .index t x i) (hx : opn x x' = true) (hi : opn i i' = true) (ht : P.underlying t = some .string)
    (hc : (idxV (S.rd x') (S.rd i')).c) (own : List Nat → Ow) : Ok1 P (execOp a.eval o) g w own (idxV (S.rd x') (S.rd i')).v := by
  have h := RT.of_opn hR hx
  have h2 := RT.of_opn hR hi
  cases hp : S.rd x' <;> cases hq : S.rd i' <;> rw [hp] at h hc <;> rw [hq] at h2 hc <;> simp only[idxV] at hc ⊢ <;> try exact hc.elim
  rename_i s k j
  obtain ⟨h0, hlt⟩ := hc
  have hlt' : j.toNat < s.size := by omega
  have hlt2 : j.toNat < s.data.toList.length := by simpa using hlt'
  refine Ok1.same (u := .int .u8 (s.data.toList.getD j.toNat 0).toNat) hR.heap.valid ?_ (by simp [RT, RI]) rfl
  have e : s[j.toNat]? = some (s.data.toList.getD j.toNat 0) := by
    rw [getElem?_pos s j.toNat hlt', List.getD_eq_getElem?_getD, List.getElem?_eq_getElem hlt2]
    rfl
  simp only[execOp,ho,RI.str_inv h,RI.int_inv h2,Instr.index,Sem.run_bind,asIntOf,Sem.run_pure,Result.andThen_ok,run_underlying ht,h0,if_true,e]
theorem ok_ext (hR : Rel n S g a w) {x : Operand} {x' : AOpn} {i : Nat} (ho : o.op = .extract x i) (hx : opn x x' = true) (hc : (extV i (S.rd x')).c) (own : List Nat → Ow) : Ok1 P (execOp a.eval o) g w own (extV i (S.rd x')).v := by
  have h := RT.of_opn hR hx
  cases hp : S.rd x' <;> rw [hp] at h hc <;> simp only[extV] at hc ⊢ <;> try exact hc.elim
  rename_i vs
  simp only[RT,RI] at h
  obtain ⟨us, e, hus⟩ := h
  obtain ⟨u, hu1, hu2⟩ := hus.get i vs[i] (by simp [hc])
  have e1 : vs.getD i .junk = vs[i] := by simp [List.getD_eq_getElem?_getD, hc]
  refine Ok1.same (u := u) hR.heap.valid ?_ ?_ ?_
  · have : us[i]? = some u := by simpa using hu1
    simp [execOp, ho, e, Instr.extract, this]
  · rw [e1]; exact RT.of_RI hu2
  · rw [rd_full] at hp
    generalize S.full x' = f at hp
    cases f with
    | tup ds =>
      simp only[rdv,AVal.tup.injEq] at hp
      subst hp
      rw [e1, List.getElem_map]
      generalize ds[i]'(by simpa using hc) = q
      cases q with
      | agg cs => exact flv_agg_rdc cs
      | lst o xs => cases o <;> rfl
      | _ => rfl
    | lst o xs => cases o <;> simp [rdv, rd1, rdc] at hp
    | _ => simp [rdv, rd1, rdc] at hp
theorem ok_len (hR : Rel n S g a w) {c : Call} {x : Operand} {x' : AOpn} {t e : TypeId} (ho : o.op = .call c) (hcal : c.callee = .builtin .len) (hargs : c.args = #[x]) (hts : c.argTypes[0]? = some t) (hx : opn x x' = true)
    (he : P.underlying t = some (.slice e)) (hc : (lenV (S.rd x')).c) (own : List Nat → Ow) : Ok1 P (execOp a.eval o) g w own (lenV (S.rd x')).v := by
  have h := RT.of_opn hR hx
  cases hp : S.rd x' <;> rw [hp] at h hc <;> simp only[lenV] at hc ⊢ <;> try exact hc.elim
  · simp only[RT,RI] at h
    obtain ⟨A, c', us, ee, _, hus, _⟩ := h
    exact Ok1.same (u := _) hR.heap.valid (by simp [execOp, ho, resolve, hcal, hargs, invoke, builtin, Builtin.len_, hts, run_underlying he, ee]; rfl) (by simp [RT, RI, goInt, hus.length]) rfl
  · simp only[RT,RI] at h
    obtain ⟨_, ee, _, _⟩ := h
    exact Ok1.same (u := _) hR.heap.valid (by simp [execOp, ho, resolve, hcal, hargs, invoke, builtin, Builtin.len_, hts, run_underlying he, ee]; rfl) (by simp [RT, RI, goInt]) rfl
theorem ok_slen (hR : Rel n S g a w) {c : Call} {x : Operand} {x' : AOpn} {t : TypeId} (ho : o.op = .call c) (hcal : c.callee = .builtin .len) (hargs : c.args = #[x]) (hts : c.argTypes[0]? = some t) (hx : opn x x' = true)
    (hs : P.underlying t = some .string) (hc : (slenV (S.rd x')).c) (own : List Nat → Ow) : Ok1 P (execOp a.eval o) g w own (slenV (S.rd x')).v := by
  have h := RT.of_opn hR hx
  cases hp : S.rd x' <;> rw [hp] at h hc <;> simp only[slenV] at hc ⊢ <;> try exact hc.elim
  exact Ok1.same (u := _) hR.heap.valid (by simp [execOp, ho, resolve, hcal, hargs, invoke, builtin, Builtin.len_, hts, run_underlying hs, RI.str_inv h]; rfl) (by simp [RT, RI, goInt]) rfl
theorem ok_alen (hv : ∀ b, w.heap.size ≤ b → g.ow b = .no) {c : Call} {x : Operand} {t e : TypeId} {m : Nat} (ho : o.op = .call c) (hcal : c.callee = .builtin .len) (hargs : c.args = #[x]) (hts : c.argTypes[0]? = some t)
    (ht : P.underlying t = some (.array m e)) (own : List Nat → Ow) : Ok1 P (execOp a.eval o) g w own (.int .i64 m) := by
  exact Ok1.same (u := _) hv (by simp [execOp, ho, resolve, hcal, hargs, invoke, builtin, Builtin.len_, hts, run_underlying ht]; rfl) (by simp [RT, RI, goInt]) rfl
end
end Go.Ge
set_option linter.unusedSimpArgs false
set_option linter.unusedVariables false
namespace Go.Ge
section
variable {P : Program} {n : Nat} {S : AState} {g : Gh} {a : Act} {w : World} {o : Oper}

inductive All2 {α β : Type} (R : α → β → Prop) : List α → List β → Prop where
  | nil : All2 R [] []
  | cons {a : α} {b : β} {as : List α} {bs : List β} : R a b → All2 R as bs → All2 R (a :: as) (b :: bs)
def opns : List Operand → List AOpn → Bool
  | [], [] => true
  | x :: xs, y :: ys => opn x y && opns xs ys
  | _, _ => false
theorem RTs.of_opns (hR : Rel n S g a w) : ∀ {xs : List Operand} {ys : List AOpn}, opns xs ys = true → All2 (fun (p : AVal) (u : Value) => RT g w p u ∧ flv p = true) (ys.map S.rd) (xs.map a.eval)
  | [], [], _ => .nil
  | x :: xs, y :: ys, h => by
    simp only[opns,Bool.and_eq_true] at h
    exact .cons ⟨RT.of_opn hR h.1, rd_fl S y⟩ (RTs.of_opns hR h.2)
  | [], _ :: _, h => by simp [opns] at h
  | _ :: _, [], h => by simp [opns] at h

theorem run_fold {f : AVal → AVal → FR} {m : Value → Value → Sem Value} (hm : ∀ k i j, (f (.int k i) (.int k j)).c → True)
    (hf : ∀ (p q : AVal) (u v : Value), RT g w p u → RT g w q v → (f p q).c → ∃ r, (m u v).run P w = .ok r w ∧ RT g w (f p q).v r ∧ flv (f p q).v = true) :
    ∀ (qs : List AVal) (vs : List Value) (p : AVal) (u : Value), All2 (fun (p : AVal) (u : Value) => RT g w p u ∧ flv p = true) qs vs → RT g w p u → flv p = true → (foldV f p qs).c →
      ∃ r, (vs.foldlM m u).run P w = .ok r w ∧ RT g w (foldV f p qs).v r ∧ flv (foldV f p qs).v = true
  | [], _, p, u, h, hp, hpf, _ => by
    cases h
    exact ⟨u, by simp, hp, hpf⟩
  | q :: qs, vs, p, u, h, hp, hpf, hc => by
    cases h with
    | cons h1 h2 =>
      rename_i v vs
      simp only[foldV] at hc ⊢
      obtain ⟨r, r1, r2, r3⟩ := hf p q u v hp h1.1 hc.1
      obtain ⟨r', q1, q2, q3⟩ := run_fold hm hf qs vs _ r h2 r2 r3 hc.2
      exact ⟨r', by simp [r1, q1], q2, q3⟩
theorem run_mn (p q : AVal) (u v : Value) (hp : RT g w p u) (hq : RT g w q v) (hc : (mnV p q).c) : ∃ r, (Builtin.min2 u v).run P w = .ok r w ∧ RT g w (mnV p q).v r ∧ flv (mnV p q).v = true := by
  cases p <;> cases q <;> simp only[mnV] at hc ⊢ <;> try exact hc.elim
  exact ⟨_, by simp [RI.int_inv hp, RI.int_inv hq, Builtin.min2]; rfl, by simp [RT, RI], rfl⟩
theorem run_mx (p q : AVal) (u v : Value) (hp : RT g w p u) (hq : RT g w q v) (hc : (mxV p q).c) : ∃ r, (Builtin.max2 u v).run P w = .ok r w ∧ RT g w (mxV p q).v r ∧ flv (mxV p q).v = true := by
  cases p <;> cases q <;> simp only[mxV] at hc ⊢ <;> try exact hc.elim
  exact ⟨_, by simp [RI.int_inv hp, RI.int_inv hq, Builtin.max2]; rfl, by simp [RT, RI], rfl⟩
theorem ok_mn (hR : Rel n S g a w) {c : Call} {x : AOpn} {ys : List AOpn} (ho : o.op = .call c) (hcal : c.callee = .builtin .min) (hx : opns c.args.toList (x :: ys) = true)
    (hc : (foldV mnV (S.rd x) (ys.map S.rd)).c) (own : List Nat → Ow) : Ok1 P (execOp a.eval o) g w own (foldV mnV (S.rd x) (ys.map S.rd)).v := by
  have h := RTs.of_opns hR hx
  cases hl : c.args.toList with
  | nil => rw [hl] at hx; simp [opns] at hx
  | cons z zs =>
    rw [hl] at h
    simp only[List.map] at h
    cases h with
    | cons h1 h2 =>
      obtain ⟨r, r1, r2, r3⟩ := run_fold (P := P) (f := mnV) (m := Builtin.min2) (fun _ _ _ _ => trivial) run_mn _ _ _ _ h2 h1.1 h1.2 hc
      refine Ok1.same (u := r) hR.heap.valid ?_ r2 r3
      simp [execOp, ho, resolve, hcal, invoke, builtin, Builtin.min_, hl, r1]
theorem ok_mx (hR : Rel n S g a w) {c : Call} {x : AOpn} {ys : List AOpn} (ho : o.op = .call c) (hcal : c.callee = .builtin .max) (hx : opns c.args.toList (x :: ys) = true)
    (hc : (foldV mxV (S.rd x) (ys.map S.rd)).c) (own : List Nat → Ow) : Ok1 P (execOp a.eval o) g w own (foldV mxV (S.rd x) (ys.map S.rd)).v := by
  have h := RTs.of_opns hR hx
  cases hl : c.args.toList with
  | nil => rw [hl] at hx; simp [opns] at hx
  | cons z zs =>
    rw [hl] at h
    simp only[List.map] at h
    cases h with
    | cons h1 h2 =>
      obtain ⟨r, r1, r2, r3⟩ := run_fold (P := P) (f := mxV) (m := Builtin.max2) (fun _ _ _ _ => trivial) run_mx _ _ _ _ h2 h1.1 h1.2 hc
      refine Ok1.same (u := r) hR.heap.valid ?_ r2 r3
      simp [execOp, ho, resolve, hcal, invoke, builtin, Builtin.max_, hl, r1]

def oopn : Option Operand → Option AOpn → Bool
  | none, none => true
  | some x, some y => opn x y
  | _, _ => false
theorem bound_ok (hR : Rel n S g a w) {x : Operand} {y : AOpn} (hx : opn x y = true) {k : IntKind} {i : Int} (hy : S.rd y = .int k i) (m : Nat) (code : BoundsCode) (h0 : 0 ≤ i) (h1 : i ≤ m) :
    (Instr.sliceBound (a.eval x) m code).run P w = .ok i.toNat w := by
  have h := RT.of_opn hR hx; rw [hy] at h
  simp [Instr.sliceBound, RI.int_inv h, asIntOf, h0, h1]
theorem rd_int {S : AState} {y : AOpn} {i : Int} (h : loV S.rd (some y) = some i) : ∃ k, S.rd y = .int k i := by
  simp only[loV] at h
  split at h
  · rename_i k n hk; cases h; exact ⟨k, hk⟩
  · cases h
theorem rd_int' {S : AState} {y : AOpn} {m : Nat} {i : Int} (h : hiV S.rd m (some y) = some i) : ∃ k, S.rd y = .int k i := by
  simp only[hiV] at h
  split at h
  · rename_i k n hk; cases h; exact ⟨k, hk⟩
  · cases h
theorem bounds_ok (hR : Rel n S g a w) {lo hi : Option Operand} {lo' hi' : Option AOpn} (h1 : oopn lo lo' = true) (h2 : oopn hi hi' = true) (isS : Bool) (len cap : Nat) {l h : Int}
    (hl : loV S.rd lo' = some l) (hh : hiV S.rd len hi' = some h) (h0 : 0 ≤ l) (hlh : l ≤ h) (hcap : h ≤ cap) :
    (Instr.sliceBounds isS len cap (lo.map a.eval) (hi.map a.eval) none).run P w = .ok (l.toNat, h.toNat, cap) w := by
  have hhi : (match hi.map a.eval with | some v => Instr.sliceBound v cap (if isS then .sliceAcap else .sliceAlen) | none => pure len : Sem Nat).run P w = .ok h.toNat w := by
    cases hi with
    | none =>
      cases hi' with
      | none => simp only[hiV,Option.some.injEq] at hh; subst hh; simp
      | some y => simp [oopn] at h2
    | some x =>
      cases hi' with
      | none => simp [oopn] at h2
      | some y =>
        obtain ⟨k, hk⟩ := rd_int' hh
        simp only[Option.map_some]
        exact bound_ok hR h2 hk cap _ (by omega) hcap
  have hlo : (match lo.map a.eval with | some v => Instr.sliceBound v h.toNat .sliceB | none => pure 0 : Sem Nat).run P w = .ok l.toNat w := by
    cases lo with
    | none =>
      cases lo' with
      | none => simp only[loV,Option.some.injEq] at hl; subst hl; simp
      | some y => simp [oopn] at h1
    | some x =>
      cases lo' with
      | none => simp [oopn] at h1
      | some y =>
        obtain ⟨k, hk⟩ := rd_int hl
        simp only[Option.map_some]
        exact bound_ok hR h1 hk h.toNat _ h0 (by omega)
  cases hi <;> cases lo <;> simp_all [Instr.sliceBounds]
theorem Cont.slice {A : Option Addr} {us : List Value} (h : Cont g w A us) (l m sz : Nat) (hsz : ∀ u ∈ us, u.cells.size = sz) (A' : Option Addr)
    (hA : ∀ b off, A = some ⟨b, off, none⟩ → (us.drop l).take m ≠ [] → A' = some ⟨b, off + l * sz, none⟩) : Cont g w A' ((us.drop l).take m) := by
  obtain ⟨sz', h1, h2⟩ := h
  refine ⟨sz', fun u hu => h1 u (List.mem_of_mem_drop (List.mem_of_mem_take hu)), fun hne => ?_⟩
  have hne' : us ≠ [] := by rintro rfl; simp at hne
  obtain ⟨b, off, e, hst⟩ := h2 hne'
  have hs : sz' = sz := by
    cases us with
    | nil => exact absurd rfl hne'
    | cons u us => rw [← h1 u (by simp), hsz u (by simp)]
  subst hs
  refine ⟨b, off + l * sz', hA b off e hne, fun i u j x hi hj => ?_⟩
  have him : i < m := by
    rcases Nat.lt_or_ge i m with h' | h'
    · exact h'
    · simp [List.getElem?_take, Nat.not_lt.2 h'] at hi
  rw [List.getElem?_take_of_lt him, List.getElem?_drop] at hi
  have := hst (l + i) u j x hi hj
  have e : off + l * sz' + i * sz' + j = off + (l + i) * sz' + j := by rw [Nat.add_mul]; omega
  rw [e]; exact this
theorem widths {xs : List AVal} {us : List Value} {sz : Nat} (hus : RIs g w xs us) (h : ∀ x ∈ xs, x.width = sz) (hpos : 0 < sz) : ∀ u ∈ us, u.cells.size = sz := by
  intro u hu
  have hlen := hus.length
  obtain ⟨i, hi, rfl⟩ := List.getElem_of_mem hu
  have hi2 : i < xs.length := by omega
  obtain ⟨u', hu1, hu2⟩ := hus.get i xs[i] (by simp [hi2])
  rw [List.getElem?_eq_getElem hi] at hu1; simp at hu1; subst hu1
  have hx3 := h xs[i] (List.getElem_mem hi2)
  rw [hu2.width (by omega), hx3]
theorem ok_slice (hR : Rel n S g a w) {t e : TypeId} {x : Operand} {lo hi mx : Option Operand} {x' : AOpn} {lo' hi' mx' : Option AOpn} {it : TypeInfo} {sz : Nat} (ho : o.op = .slice t x lo hi mx) (hx : opn x x' = true)
    (h1 : oopn lo lo' = true) (h2 : oopn hi hi' = true) (h3 : oopn mx mx' = true) (ht : P.underlying t = some (.slice e)) (hit : P.info? e = some it) (hsz : it.size = sz) (hpos : 0 < sz)
    (hc : (sliceV sz S.rd (S.rd x') lo' hi' mx').c) (own : List Nat → Ow) : Ok1 P (execOp a.eval o) g w own (sliceV sz S.rd (S.rd x') lo' hi' mx').v := by
  have h := RT.of_opn hR hx
  have hsof : (sizeOf e).run P w = .ok sz w := by simp [sizeOf, typeInfo, hit, hsz]
  have hrun : ∀ (A : Option Addr) (len cap l h : Nat), a.eval x = .slice A len cap → mx = none → (Instr.sliceBounds true len cap (lo.map a.eval) (hi.map a.eval) none).run P w = .ok (l, h, cap) w →
      (execOp a.eval o).run P w = .ok (.value (.slice (if cap = l then A else A.map (·.add (l * sz))) (h - l) (cap - l))) w := by
    intro A len cap l h e1 e2 e3
    subst e2
    simp [execOp, ho, Instr.sliceAt, Instr.slice, run_underlying ht, e1, e3, hsof]
  generalize hp : S.rd x' = p at h hc ⊢
  cases p with
  | lst ow xs =>
    simp only[RT,RI] at h
    obtain ⟨A, cap, us, ee, hlc, hus, hcont, _⟩ := h
    simp only[sliceV] at hc ⊢
    have hlen := hus.length
    cases hl : loV S.rd lo' with
    | none => simp [hl] at hc
    | some l =>
      cases hh : hiV S.rd xs.length hi' with
      | none => simp [hl, hh] at hc
      | some h' =>
        cases hmx : mx' with
        | none =>
          simp only[hl,hh,hmx] at hc ⊢
          obtain ⟨c0, c1, c2, c3⟩ := hc
          obtain rfl : mx = none := by cases mx <;> simp_all [oopn]
          rw [← hlen] at hh c2
          have hb := bounds_ok (P := P) hR h1 h2 true us.length cap hl hh c0 c1 (by omega)
          have hw := widths hus c3 hpos
          refine Ok1.same (u := _) hR.heap.valid (hrun A us.length cap _ _ ee rfl hb) ?_ rfl
          simp only[RT,RI]
          have hk : ((us.drop l.toNat).take (h'.toNat - l.toNat)).length = h'.toNat - l.toNat := by simp; omega
          refine ⟨_, cap - l.toNat, (us.drop l.toNat).take (h'.toNat - l.toNat), by rw [hk], by rw [hk]; omega, (hus.drop _).take _, ?_, trivial⟩
          refine hcont.slice l.toNat (h'.toNat - l.toNat) sz hw _ ?_
          rintro b off rfl hne
          have : cap ≠ l.toNat := by
            intro e
            apply hne
            apply List.eq_nil_of_length_eq_zero
            rw [hk]; omega
          rw [if_neg this]
          simp [Addr.add_lit]
        | some m =>
          simp only[hl,hh,hmx] at hc ⊢
          cases hm : S.rd m <;> simp only[hm] at hc ⊢ <;> try exact hc.elim
          rename_i k q
          obtain ⟨rfl, rfl, rfl, hsome⟩ := hc
          -- s[:0:0]
          obtain ⟨mo, rfl, hmo⟩ : ∃ mo, mx = some mo ∧ opn mo m = true := by cases mx <;> simp_all [oopn]
          obtain ⟨y, rfl⟩ := isSome_iff' hsome
          obtain ⟨ho', rfl, hho⟩ : ∃ mo, hi = some mo ∧ opn mo y = true := by cases hi <;> simp_all [oopn]
          have hm' := bound_ok (P := P) hR hmo hm cap .slice3Acap (by omega) (by omega)
          obtain ⟨k2, hk2⟩ := rd_int' hh
          have hhi := bound_ok (P := P) hR hho hk2 0 .slice3B (by omega) (by omega)
          have hb : (Instr.sliceBounds true us.length cap (lo.map a.eval) ((some ho').map a.eval) (some (a.eval mo))).run P w = .ok (0, 0, 0) w := by
            cases lo with
            | none => simp_all [Instr.sliceBounds]
            | some z =>
              cases lo' with
              | none => simp [oopn] at h1
              | some y' =>
                obtain ⟨k, hk⟩ := rd_int hl
                have hlo := bound_ok (P := P) hR (show opn z y' = true from h1) hk 0 .slice3C (by omega) (by omega)
                simp_all [Instr.sliceBounds]
          refine ⟨.slice A 0 0, w, g, ?_, .refl hR.heap.valid, ?_⟩
          · simp only[Option.map_some] at hb
            simp [execOp, ho, Instr.sliceAt, Instr.slice, run_underlying ht, ee, hb, hsof]
          · simp only[RV,RV1,RVc]
            exact ⟨A, 0, [], rfl, by simp, by simp [RIs], by simp, ⟨1, by simp, by simp⟩, .inl rfl⟩
  | ref id off len cap =>
    simp only[RT,RI] at h
    obtain ⟨A, ee, hcap, hA⟩ := h
    simp only[sliceV] at hc ⊢
    cases hl : loV S.rd lo' with
    | none => simp [hl] at hc
    | some l =>
      cases hh : hiV S.rd len hi' with
      | none => simp [hl, hh] at hc
      | some h' =>
        cases hmx : mx' with
        | some m =>
          simp only[hl,hh,hmx] at hc ⊢
          cases hm : S.rd m <;> simp only[hm] at hc ⊢ <;> try exact hc.elim
          rename_i k q
          obtain ⟨c0, c1, c2, c3, hsome⟩ := hc
          obtain ⟨mo, rfl, hmo⟩ : ∃ mo, mx = some mo ∧ opn mo m = true := by cases mx <;> simp_all [oopn]
          obtain ⟨y, rfl⟩ := isSome_iff' hsome
          obtain ⟨ho', rfl, hho⟩ : ∃ mo, hi = some mo ∧ opn mo y = true := by cases hi <;> simp_all [oopn]
          have hm' := bound_ok (P := P) hR hmo hm cap .slice3Acap (by omega) (by omega)
          obtain ⟨k2, hk2⟩ := rd_int' hh
          have hhi := bound_ok (P := P) hR hho hk2 q.toNat .slice3B (by omega) (by omega)
          have hb : (Instr.sliceBounds true len cap (lo.map a.eval) ((some ho').map a.eval) (some (a.eval mo))).run P w = .ok (l.toNat, h'.toNat, q.toNat) w := by
            cases lo with
            | none =>
              cases lo' with
              | some _ => simp [oopn] at h1
              | none =>
                simp only[loV,Option.some.injEq] at hl
                subst hl
                simp_all [Instr.sliceBounds]
            | some z =>
              cases lo' with
              | none => simp [oopn] at h1
              | some y' =>
                obtain ⟨k, hk⟩ := rd_int hl
                have hlo := bound_ok (P := P) hR (show opn z y' = true from h1) hk h'.toNat .slice3C (by omega) (by omega)
                simp_all [Instr.sliceBounds]
          refine Ok1.same (u := .slice (if q.toNat = l.toNat then A else A.map (·.add (l.toNat * sz))) (h'.toNat - l.toNat) (q.toNat - l.toNat)) hR.heap.valid ?_ ?_ rfl
          · simp only[Option.map_some] at hb
            simp [execOp, ho, Instr.sliceAt, Instr.slice, run_underlying ht, ee, hb, hsof]
          · simp only[RT,RI]
            refine ⟨_, rfl, by omega, fun hne => ?_⟩
            obtain ⟨hid, rfl⟩ := hA (by omega)
            refine ⟨hid, ?_⟩
            rw [if_neg (by omega)]
            simp [Addr.add_lit, Nat.add_assoc]
        | none =>
          simp only[hl,hh,hmx] at hc ⊢
          obtain ⟨c0, c1, c2⟩ := hc
          obtain rfl : mx = none := by cases mx <;> simp_all [oopn]
          have hb := bounds_ok (P := P) hR h1 h2 true len cap hl hh c0 c1 (by omega)
          refine Ok1.same (u := _) hR.heap.valid (hrun _ len cap _ _ ee rfl hb) ?_ rfl
          simp only[RT,RI]
          refine ⟨_, rfl, by omega, fun hne => ?_⟩
          obtain ⟨hid, rfl⟩ := hA (by omega)
          refine ⟨hid, ?_⟩
          rw [if_neg (by omega)]
          simp [Addr.add_lit, Nat.add_assoc]
  | _ => simp only[sliceV] at hc
end
end Go.Ge
set_option linter.unusedSimpArgs false
set_option linter.unusedVariables false
namespace Go.Ge
section
variable {P : Program} {n : Nat} {S : AState} {g : Gh} {a : Act} {w : World} {o : Oper}
open Go.RowKit

theorem Fresh.new {w' : World} (hv : ∀ b, w.heap.size ≤ b → g.ow b = .no) (h : Below w.heap.size w w') (hs : w'.heap.size = w.heap.size + 1) (q : Ow) (f : Nat) : Fresh g w (g.alloc w.heap.size q f) w' where
  evo := {
    os := h.os, tape := h.tape, output := h.output, size := by omega
    fixed := fun b hb _ => ⟨h.block b hb, by simp [Gh.alloc, Nat.ne_of_lt hb], by simp [Gh.alloc, Nat.ne_of_lt hb]⟩
    stab := fun b hb => ⟨by simp [Gh.alloc, Nat.ne_of_lt hb], fun o _ => World.cell?_of_block (w := w) (h.block b hb)⟩
    nh := Nat.le_refl _, io := fun _ _ => rfl }
  keep := fun o ho b hb => by
    have : b ≠ w.heap.size := fun e => ho (by rw [← hb, hv b (by omega)])
    have hlt : b < w.heap.size := by
      rcases Nat.lt_or_ge b w.heap.size with h' | h'
      · exact h'
      · exact absurd (hv b h') (by rw [hb]; exact ho)
    exact ⟨by simp [Gh.alloc, this, hb], h.block b hlt, by simp [Gh.alloc, this]⟩
  ib := rfl
  nh := rfl
  valid := fun b hb => by
    have : b ≠ w.heap.size := by omega
    simp only[Gh.alloc,this,if_false]
    exact hv b (by omega)
theorem new_row {w' : World} (hv : ∀ b, w.heap.size ≤ b → g.ow b = .no) (hb : Below w.heap.size w w') (hs : w'.heap.size = w.heap.size + 1) {cur : Array Value} {e : TypeId} {fz : Nat × Nat}
    (hblk : w'.heap[w.heap.size]? = some (.cells cur e fz)) (hfz : Unfr cur.size fz) {xs : List AVal} {us : List Value} {sz cap : Nat} (hus : RIs g w xs us) (hsz : ∀ u ∈ us, u.cells.size = sz) (hcap : us.length ≤ cap) (hcur : cap * sz ≤ cur.size)
    (hcells : ∀ i u j x, us[i]? = some u → u.cells[j]? = some x → cur[i * sz + j]? = some x ∧ x.oneCell' = true) (uq : Bool) (own : List Nat → Ow) :
    Fresh g w (g.alloc w.heap.size (own []) (if uq then 0 else us.length * sz)) w' ∧
      RV (g.alloc w.heap.size (own []) (if uq then 0 else us.length * sz)) w' own (.lst (if uq then .uniq sz cap else .app sz) xs) (.slice (some ⟨w.heap.size, 0, none⟩) us.length cap) := by
  have hf := Fresh.new (g := g) hv hb hs (own []) (if uq then 0 else us.length * sz)
  refine ⟨hf, ?_⟩
  have hus' := RIs.mono hf.evo.stb _ _ hus
  cases uq with
  | true =>
    simp only[RV,RV1,RVc,if_true]
    refine ⟨_, us, rfl, hcap, hus', hsz, .inr ⟨w.heap.size, 0, cur, e, fz, rfl, by simp [Gh.alloc], by simp [Gh.alloc], hblk, by omega, hfz, fun i u j x hi hj => ?_⟩⟩
    rw [Nat.zero_add]; exact hcells i u j x hi hj
  | false =>
    simp only[RV,RV1,RVc,Bool.false_eq_true,if_false]
    refine ⟨_, cap, us, rfl, hcap, hus', hsz, ⟨sz, hsz, fun _ => ⟨w.heap.size, 0, rfl, fun i u j x hi hj => ?_⟩⟩, .inr ⟨w.heap.size, 0, cur, e, fz, rfl, by simp [Gh.alloc], by simp [Gh.alloc], hblk, by omega, hfz⟩⟩
    obtain ⟨h1, h2⟩ := hcells i u j x hi hj
    refine ⟨?_, ?_, h2⟩
    · have hi' : i < us.length := (List.getElem?_eq_some_iff.1 hi).1
      have hj' : j < u.cells.size := (Array.getElem?_eq_some_iff.1 hj).1
      rw [hsz u (List.mem_of_getElem? hi)] at hj'
      simp only[Gh.alloc,if_true]
      have : (i + 1) * sz ≤ us.length * sz := Nat.mul_le_mul_right _ hi'
      rw [Nat.add_mul] at this; omega
    · rw [cell_of_block hblk, Nat.zero_add]; exact h1

theorem RI.one {x : AVal} {v : Value} (h : RI g w x v) (hs : storC x = true) : v.oneCell' = true := by
  cases x <;> simp only[storC] at hs <;> try (cases hs; done)
  all_goals
    simp only[RI] at h
    first
      | (subst h; rfl)
      | (obtain ⟨_, rfl⟩ := h; rfl)
      | (obtain ⟨us, rfl, _⟩ := h; rfl)
      | (obtain ⟨A, c, us, rfl, _⟩ := h; rfl)
      | (obtain ⟨b, off, us, rfl, _⟩ := h; rfl)
      | (obtain ⟨_, c, _, rfl⟩ := h; rfl)
theorem RI.ones {x : AVal} {v : Value} (h : RI g w x v) (hs : storable x = true) : ∀ c ∈ v.cells.toList, c.oneCell' = true := by
  cases x with
  | agg cs =>
    simp only[RI] at h
    obtain ⟨us, rfl, hus⟩ := h
    intro c hc
    simp only[Value.cells] at hc
    obtain ⟨i, hi, rfl⟩ := List.getElem_of_mem hc
    have hl := hus.length
    have hi2 : i < cs.length := by omega
    obtain ⟨u, hu1, hu2⟩ := hus.get i cs[i] (by simp [hi2])
    rw [List.getElem?_eq_getElem hi] at hu1; simp only[Option.some.injEq] at hu1
    rw [hu1]
    exact hu2.one (by simp only[storable,List.all_eq_true] at hs; exact hs _ (List.getElem_mem hi2))
  | _ =>
    have h1 := h.one (by simpa [storable] using hs)
    intro c hc
    have : v.cells = #[v] := by cases v <;> first | rfl | simp [Value.oneCell'] at h1
    rw [this] at hc; simp at hc; subst hc; exact h1

theorem ok_buildS (hR : Rel n S g a w) {t e : TypeId} {len sz : Nat} {parts : Array (Nat × Operand)} {ps : List AOpn} {uq : Bool} {it : TypeInfo} {z : Value} (ho : o.op = .buildSlice t len parts)
    (ht : P.underlying t = some (.slice e)) (hit : P.info? e = some it) (hz : it.zero = some z) (hsz : it.size = sz) (hpos : 0 < sz) (hlen : len = ps.length)
    (xs : List Operand) (hp : parts.toList = (xs.zipIdx 0).map fun x => (x.2, x.1)) (hx : opns xs ps = true)
    (hc : (∀ x ∈ ps, (S.rd x).width = sz ∧ storable (S.rd x) = true) ∧ ps.length * sz ≤ 16777216) (own : List Nat → Ow) :
    Ok1 P (execOp a.eval o) g w own (.lst (if uq then .uniq sz ps.length else .app sz) (ps.map S.rd)) := by
  obtain ⟨hc1, hc2⟩ := hc
  -- the elements
  have key : ∀ (xs : List Operand) (ps : List AOpn), opns xs ps = true → (∀ x ∈ ps, (S.rd x).width = sz ∧ storable (S.rd x) = true) →
      RIs g w (ps.map S.rd) (xs.map a.eval) ∧ (∀ u ∈ xs.map a.eval, u.cells.size = sz ∧ ∀ c ∈ u.cells.toList, c.oneCell' = true) ∧ xs.length = ps.length := by
    intro xs
    induction xs with
    | nil => intro ps h _; cases ps with | nil => simp [RIs] | cons _ _ => simp [opns] at h
    | cons x xs ih =>
      intro ps h hw
      cases ps with
      | nil => simp [opns] at h
      | cons p ps =>
        simp only[opns,Bool.and_eq_true] at h
        obtain ⟨i1, i2, i3⟩ := ih ps h.2 (fun y hy => hw y (by simp [hy]))
        obtain ⟨w1, w2⟩ := hw p (by simp)
        have hrt := RT.of_opn hR h.1
        have hri : RI g w (S.rd p) (a.eval x) := RI.of_RT (by cases hq : S.rd p <;> first | rfl | (rw [hq] at w2; simp [storable, storC] at w2)) hrt
        refine ⟨?_, ?_, by simp [i3]⟩
        · simp only[List.map,RIs]; exact ⟨_, _, rfl, hri, i1⟩
        · intro u hu
          simp only[List.map_cons,List.mem_cons] at hu
          rcases hu with rfl | hu
          · exact ⟨by rw [hri.width (by omega), w1], hri.ones w2⟩
          · exact i2 u hu
  obtain ⟨hus, hws, hl⟩ := key xs ps hx hc1
  have hev : (parts.map fun (i, x) => (i, a.eval x)).toList = ((xs.map a.eval).zipIdx 0).map fun x => (x.2, x.1) := by
    rw [Array.toList_map, hp, List.zipIdx_map, List.map_map, List.map_map]; rfl
  have hul : (xs.map a.eval).length = ps.length := by simp [hl]
  rcases Nat.eq_zero_or_pos ps.length with h0 | h0
  · -- an empty one
    obtain rfl := List.eq_nil_of_length_eq_zero h0
    obtain rfl : xs = [] := List.eq_nil_of_length_eq_zero (by simpa using hl)
    simp only[List.length_nil] at hlen
    subst hlen
    have hparts : parts = #[] := by apply Array.ext'; simpa using hp
    subst hparts
    have hrun : (execOp a.eval o).run P w = .ok (.value (.slice (some ⟨w.heap.size, 0, none⟩) 0 0)) (w.alloc (.cells #[] e)) := by
      simp [execOp, ho, Instr.buildSlice, run_underlying ht, sizeOf, typeInfo, hit, newRow, Instr.fill]
      congr 2
      apply Array.ext'
      simp
    obtain ⟨f1, f2⟩ := new_row (g := g) (w' := w.alloc (.cells #[] e)) hR.heap.valid ((Below.refl _ _).alloc (Nat.le_refl _) _) (by simp) (heap_alloc_self _ _) (.inl rfl) (xs := []) (us := []) (sz := sz) (cap := 0) (by simp [RIs]) (by simp) (by simp) (by simp) (by simp) uq own
    exact ⟨_, _, _, hrun, f1, by simpa using f2⟩
  · have hpos' : 0 < ps.length * sz := Nat.mul_pos h0 hpos
    obtain ⟨r, hr, hrs, hrk⟩ := Great.fill_dense hpos (xs.map a.eval) 0 ((Array.range (len * it.size)).map (z.cells[· % z.cells.size]!)) (fun v hv => (hws v hv).1) (by simp [hlen, hl, hsz])
    have hrun : (execOp a.eval o).run P w = .ok (.value (.slice (some ⟨w.heap.size, 0, none⟩) len len)) (w.alloc (.cells r e)) := by
      have := run_buildSlice w t e len (parts.map fun (i, x) => (i, a.eval x)) r it z ht hit hz (by rw [hsz, hlen]; omega) (by rw [hsz, hlen]; omega) (by rw [hev, hsz]; rw [hsz] at hr; exact hr)
      simp only[execOp,ho,Sem.run_bind,this,Result.andThen_ok,Sem.run_pure]
    have hrs' : r.size = ps.length * sz := by rw [hrs]; simp [hlen, hsz]
    obtain ⟨f1, f2⟩ := new_row (g := g) (w' := w.alloc (.cells r e)) hR.heap.valid ((Below.refl _ _).alloc (Nat.le_refl _) _) (by simp) (heap_alloc_self _ _) (.inl rfl) (xs := ps.map S.rd) (us := xs.map a.eval) (sz := sz) (cap := len) hus (fun u hu => (hws u hu).1) (by rw [hul, hlen]; exact Nat.le_refl _) (by rw [hrs', hlen]; exact Nat.le_refl _)
      (fun i u j x hi hj => by
        have hmem := List.mem_of_getElem? hi
        have hi' : i < ps.length := by rw [← hul]; exact (List.getElem?_eq_some_iff.1 hi).1
        have hj' : j < sz := by rw [← (hws u hmem).1]; exact (Array.getElem?_eq_some_iff.1 hj).1
        refine ⟨?_, (hws u hmem).2 x (by rw [← Array.mem_def]; exact Array.mem_of_getElem? hj)⟩
        rw [hrk]
        have h1 : i * sz + j < ps.length * sz := by
          have : (i + 1) * sz ≤ ps.length * sz := Nat.mul_le_mul_right _ hi'
          rw [Nat.add_mul] at this; omega
        have h2 : (i * sz + j) / sz = i := by rw [Nat.mul_comm, Nat.mul_add_div hpos, Nat.div_eq_of_lt hj']; omega
        have h3 : (i * sz + j) % sz = j := by rw [Nat.mul_comm, Nat.mul_add_mod, Nat.mod_eq_of_lt hj']
        rw [if_pos ⟨by omega, by rw [Nat.zero_add, hul]; exact h1⟩, h2, h3, Nat.sub_zero, hi]
        exact hj) uq own
    rw [hul] at f2
    subst hlen
    rw [hul] at f1
    exact ⟨_, _, _, hrun, f1, f2⟩
theorem RIs.replicate {x : AVal} {v : Value} (h : RI g w x v) (k : Nat) : RIs g w (List.replicate k x) (List.replicate k v) := by
  refine RIs.of_get (by simp) fun i x' u hx hu => ?_
  obtain ⟨_, rfl⟩ := List.getElem?_eq_some_iff.1 hx
  obtain ⟨_, rfl⟩ := List.getElem?_eq_some_iff.1 hu
  simpa using h
theorem ok_mkslice (hR : Rel n S g a w) {t e : TypeId} {l c : Operand} {sz bytes : Nat} {uq : Bool} {zero : AVal} {x' : AOpn} {it : TypeInfo} {z : Value} (ho : o.op = .makeSlice t l c) (hl : opn l x' = true) (hcc : opn c x' = true)
    (ht : P.underlying t = some (.slice e)) (hit : P.info? e = some it) (hz : it.zero = some z) (hsz : it.size = sz) (hpos : 0 < sz) (hby : it.bytes = bytes) (hzero : cv z zero = true) (hst : storable zero = true) (hzs : z.cells.size = sz)
    (hfl : flv zero = true) (hc : (mksliceV sz bytes uq zero (S.rd x')).c) (own : List Nat → Ow) : Ok1 P (execOp a.eval o) g w own (mksliceV sz bytes uq zero (S.rd x')).v := by
  have h1 := RT.of_opn hR hl
  have h2 := RT.of_opn hR hcc
  generalize S.rd x' = p at h1 h2 hc ⊢
  cases p <;> simp only[mksliceV] at hc ⊢ <;> try exact hc.elim
  rename_i k i
  obtain ⟨c0, c1, c2⟩ := hc
  have hri : RI g w zero z := by
    have := RT_rdv (RV.of_cv (g := g) (w := w) (own := fun _ => .no) hzero)
    have e : rdv zero = zero := by
      cases zero <;> first | rfl | skip
      · rename_i cs
        simp only[rdv,rd1]
        congr 1
        simp only[flv,fl1,List.all_eq_true] at hfl
        simp only[storable,List.all_eq_true] at hst
        have : ∀ x ∈ cs, rdc x = x := by
          intro x hx
          have f1 := hfl x hx
          have f2 := hst x hx
          cases x <;> first | rfl | (simp [storC] at f2; done) | (rename_i o xs; cases o <;> first | rfl | simp [flc] at f1)
        rw [List.map_congr_left this, List.map_id']
      · simp [storable, storC] at hst
      · rename_i o xs
        cases o <;> first | rfl | simp [flv, fl1, flc] at hfl
    rw [e] at this
    exact RI.of_RT (by cases zero <;> first | rfl | simp [storable, storC] at hst) this
  have hrun := run_make w t e it z ht hit hz k k i i c0 (Int.le_refl _) (by rw [hby]; have : (bytes : Int) * i = i * bytes := Int.mul_comm _ _; omega) (by omega)
  have hm : (madeCells z.cells (i.toNat * it.size)).size = i.toNat * sz := by rw [size_madeCells, hsz]
  have hul : (List.replicate i.toNat z).length = i.toNat := by simp
  obtain ⟨f1, f2⟩ := new_row (g := g) (w' := w.alloc (.cells (madeCells z.cells (i.toNat * it.size)) e)) hR.heap.valid ((Below.refl _ _).alloc (Nat.le_refl _) _) (by simp) (heap_alloc_self _ _) (.inl rfl)
    (xs := List.replicate i.toNat zero) (us := List.replicate i.toNat z) (sz := sz) (cap := i.toNat) (RIs.replicate hri _) (fun u hu => by rw [(List.mem_replicate.1 hu).2, hzs]) (by simp) (by rw [hm]; exact Nat.le_refl _)
    (fun i' u j x hi hj => by
      obtain ⟨hlt, rfl⟩ := List.getElem?_eq_some_iff.1 hi
      simp only[List.getElem_replicate] at hj
      have hi' : i' < i.toNat := by simpa using hlt
      have hj' : j < sz := by rw [← hzs]; exact (Array.getElem?_eq_some_iff.1 hj).1
      refine ⟨?_, hri.ones hst x (by rw [← Array.mem_def]; exact Array.mem_of_getElem? hj)⟩
      have hlt2 : i' * sz + j < i.toNat * sz := by
        have : (i' + 1) * sz ≤ i.toNat * sz := Nat.mul_le_mul_right _ hi'
        rw [Nat.add_mul] at this; omega
      have h3 : (i' * sz + j) % sz = j := by rw [Nat.mul_comm, Nat.mul_add_mod, Nat.mod_eq_of_lt hj']
      simp only[madeCells,hsz,hzs]
      rw [Array.getElem?_map, Array.getElem?_range, if_pos hlt2]
      simp only[Option.map_some,h3,← hj]
      rw [getElem!_pos z.cells j (by omega), Array.getElem?_eq_getElem (by omega)]) uq own
  rw [hul] at f1 f2
  refine ⟨_, _, _, ?_, f1, f2⟩
  have : (Instr.makeSlice t (a.eval l) (a.eval c)).run P w = .ok (.slice (some ⟨w.heap.size, 0, none⟩) i.toNat i.toNat) (w.alloc (.cells (madeCells z.cells (i.toNat * it.size)) e)) := by
    rw [RI.int_inv h1, RI.int_inv h2]; exact hrun
  simp only[execOp,ho,Sem.run_bind,this,Result.andThen_ok,Sem.run_pure]
end
end Go.Ge
set_option linter.unusedSimpArgs false
set_option linter.unusedVariables false
namespace Go.Ge
section
variable {P : Program} {n : Nat} {S : AState} {g : Gh} {a : Act} {w : World} {o : Oper}
open Go.RowKit

def ckParts (place : Nat → Option (Nat × Nat)) : List (Nat × Operand) → List (Nat × Nat × AOpn) → Bool
  | [], [] => true
  | (i, x) :: r, (off, sz, y) :: q => decide (place i = some (off, sz)) && opn x y && decide (0 < sz) && ckParts place r q
  | _, _ => false
theorem fl_cells {x : AVal} (h : flv x = true) (hw : 0 < x.width) : ∀ c ∈ x.cells, flc c = true := by
  cases x <;> simp only[AVal.cells,AVal.width] at hw ⊢
  case agg cs => simpa [flv, fl1] using h
  all_goals first
    | (intro c hc; simp at hc; subst hc; exact h)
    | omega
theorem fold_list (off : Nat) (v : List Value) (cs : Array Value) (h : off + v.length ≤ cs.size) :
    ((v.zipIdx 0).foldl (fun cs (x : Value × Nat) => cs.setIfInBounds (off + x.2) x.1) cs).toList = cs.toList.take off ++ v ++ cs.toList.drop (off + v.length) := by
  obtain ⟨h1, h2⟩ := Great.foldl_set off v 0 cs
  apply List.ext_getElem?
  intro k
  rw [Array.getElem?_toList, h2 k]
  simp only[Nat.add_zero]
  rcases Nat.lt_or_ge k off with hk | hk
  · rw [if_neg (by omega), List.append_assoc, List.getElem?_append_left (by simp; omega), List.getElem?_take_of_lt hk]; simp
  · rcases Nat.lt_or_ge k (off + v.length) with hk2 | hk2
    · rw [if_pos (by omega), List.append_assoc, List.getElem?_append_right (by simp; omega), List.getElem?_append_left (by simp; omega)]
      simp [Nat.min_eq_left (show off ≤ cs.size by omega)]
    · rw [if_neg (by omega), List.getElem?_append_right (by simp; omega), List.getElem?_drop]
      have e : off + v.length + (k - (List.take off cs.toList ++ v).length) = k := by simp; omega
      rw [e]; simp
theorem RVs.fill {own : Nat → Ow} {cs new : List AVal} {us vs : List Value} {off : Nat} (h : RVs g w own 0 cs us) (hn : RIs g w new vs) (hf : ∀ c ∈ new, flc c = true) (hle : off + new.length ≤ cs.length) :
    RVs g w own 0 (fillV cs off new) (us.take off ++ vs ++ us.drop (off + vs.length)) := by
  have hl := h.length
  have hl2 := hn.length
  have hlen : (us.take off ++ vs ++ us.drop (off + vs.length)).length = (fillV cs off new).length := by simp [fillV]; omega
  refine RVs.of_get hlen fun j x u hx hu => ?_
  simp only[fillV] at hx
  rcases Nat.lt_or_ge j off with hj | hj
  · rw [List.append_assoc, List.getElem?_append_left (by simp; omega), List.getElem?_take_of_lt hj] at hx hu
    obtain ⟨u', h1, h2⟩ := h.get j x hx
    rw [h1] at hu; cases hu; exact h2
  · rcases Nat.lt_or_ge j (off + new.length) with hj2 | hj2
    · rw [List.append_assoc, List.getElem?_append_right (by simp; omega), List.getElem?_append_left (by simp; omega)] at hx hu
      have e1 : j - (cs.take off).length = j - off := by simp; omega
      have e2 : j - (us.take off).length = j - off := by simp; omega
      rw [e1] at hx; rw [e2] at hu
      obtain ⟨u', h1, h2⟩ := hn.get _ x hx
      rw [h1] at hu; cases hu
      exact RVc.of_RI (hf x (List.mem_of_getElem? hx)) h2
    · rw [List.getElem?_append_right (by simp; omega), List.getElem?_drop] at hx hu
      have e1 : off + new.length + (j - (cs.take off ++ new).length) = j := by simp; omega
      have e2 : off + vs.length + (j - (us.take off ++ vs).length) = j := by simp; omega
      rw [e1] at hx; rw [e2] at hu
      obtain ⟨u', h1, h2⟩ := h.get j x hx
      rw [h1] at hu; cases hu; exact h2
theorem fill_ok (hR : Rel n S g a w) {place : Nat → Option (Nat × Nat)} {own : Nat → Ow} : ∀ (parts : List (Nat × Operand)) (ps : List (Nat × Nat × AOpn)) (cs : List AVal) (cells : Array Value), ckParts place parts ps = true →
    RVs g w own 0 cs cells.toList → (buildV S.rd cs ps).c → ∃ cells' cs', Instr.fill place cells (parts.map fun x => (x.1, a.eval x.2)) = some cells' ∧ RVs g w own 0 cs' cells'.toList ∧ (buildV S.rd cs ps).v = .agg cs'
  | [], [], cs, cells, _, h, _ => ⟨cells, cs, rfl, h, rfl⟩
  | (i, x) :: r, (off, sz, y) :: q, cs, cells, hck, h, hc => by
    simp only[ckParts,Bool.and_eq_true,decide_eq_true_eq] at hck
    obtain ⟨⟨⟨k1, k2⟩, k3⟩, k4⟩ := hck
    simp only[buildV] at hc ⊢
    obtain ⟨c1, cb, c2, c3⟩ := hc
    have hrt := RT.of_opn hR k2
    have hri : RI g w (S.rd y) (a.eval x) := RI.of_RT cb hrt
    have hws := hri.width (by omega)
    have hcl : (S.rd y).cells.length = sz := by rw [← c1]; cases hq : S.rd y <;> first | rfl | (rw [hq] at c1; simp only[AVal.width] at c1; omega)
    have hl := h.length
    have hsz : cells.size = cs.length := by simpa using hl
    have hfl := fold_list off (a.eval x).cells.toList cells (by simp; omega)
    have hrv := h.fill (off := off) (new := (S.rd y).cells) (vs := (a.eval x).cells.toList) (hri.cells (by omega)) (fl_cells (rd_fl S y) (by omega)) (by rw [hcl]; exact c2)
    rw [← hfl] at hrv
    obtain ⟨cells', cs', h1, h2, h3⟩ := fill_ok hR r q _ _ k4 hrv c3
    refine ⟨cells', cs', ?_, h2, h3⟩
    simp only[List.map_cons,Instr.fill,k1]
    rw [if_neg (by simp; omega)]
    rw [← h1]
    congr 1
    rw [← Array.foldl_toList, Array.toList_zipIdx]
  | [], _ :: _, _, _, h, _, _ => by simp [ckParts] at h
  | _ :: _, [], _, _, h, _, _ => by simp [ckParts] at h
theorem ok_build (hR : Rel n S g a w) {t : TypeId} {parts : Array (Nat × Operand)} {zero : List AVal} {ps : List (Nat × Nat × AOpn)} {place : Nat → Option (Nat × Nat)} {z : Value} (ho : o.op = .build t parts)
    (hb : ∀ vs : List (Nat × Value), P.built t vs = Instr.fill place z.cells vs) (hz : cvs z.cells.toList zero = true) (hp : ckParts place parts.toList ps = true) (hc : (buildV S.rd zero ps).c) (own : List Nat → Ow) :
    Ok1 P (execOp a.eval o) g w own (buildV S.rd zero ps).v := by
  obtain ⟨cells', cs', h1, h2, h3⟩ := fill_ok (own := fun i => own [i]) hR parts.toList ps zero z.cells hp (RVs.of_cvs hz) hc
  have hrun := run_build (P := P) w t (parts.map fun (i, x) => (i, a.eval x)) cells' (by rw [hb, Array.toList_map]; exact h1)
  refine ⟨.agg cells', w, g, ?_, .refl hR.heap.valid, ?_⟩
  · simp only[execOp,ho,Sem.run_bind,hrun,Result.andThen_ok,Sem.run_pure]
  · rw [h3]; simp only[RV,RV1]; exact ⟨_, rfl, h2⟩

theorem bytes_vals {xs : List AVal} {us : List Value} (h : RIs g w xs us) (hb : ∀ v ∈ xs, isByteV v) : ∃ ns : List Int, us = ns.map (Value.int .u8) ∧ xs.map byteOfV = ns.map fun n => UInt8.ofNat n.toNat := by
  induction xs generalizing us with
  | nil => simp [RIs] at h; exact ⟨[], by simp [h], rfl⟩
  | cons x xs ih =>
    simp only[RIs] at h
    obtain ⟨u, us', rfl, h1, h2⟩ := h
    obtain ⟨ns, h3, h4⟩ := ih h2 (fun v hv => hb v (by simp [hv]))
    obtain ⟨k, rfl⟩ := hb x (by simp)
    simp only[RI] at h1
    exact ⟨k :: ns, by simp [h1, h3], by simp [h4, byteOfV]⟩
theorem ok_b2s (hR : Rel n S g a w) {s d e : TypeId} {x : Operand} {x' : AOpn} (ho : o.op = .convert s d x) (hx : opn x x' = true) (hs : P.underlying s = some (.slice e)) (he : P.underlying e = some (.int .u8)) (hd : P.underlying d = some .string)
    (hc : (b2sV (S.rd x')).c) (own : List Nat → Ow) : Ok1 P (execOp a.eval o) g w own (b2sV (S.rd x')).v := by
  have h := RT.of_opn hR hx
  generalize S.rd x' = p at h hc ⊢
  cases p <;> simp only[b2sV] at hc ⊢ <;> try exact hc.elim
  rename_i ow xs
  simp only[RT,RI] at h
  obtain ⟨A, cap, us, ee, hlc, hus, ⟨sz, hsz, hst⟩, _⟩ := h
  obtain ⟨ns, hns, hbs⟩ := bytes_vals hus hc
  refine Ok1.same (u := .string (strOfV xs)) hR.heap.valid ?_ (by simp [RT, RI]) rfl
  have hrun : (convert s d (.slice A us.length cap)).run P w = .ok (.string (strOfV xs)) w := by
    cases us with
    | nil =>
      have : xs = [] := List.eq_nil_of_length_eq_zero (by simpa using hus.length.symm)
      subst this
      rw [run_convert_bytes_string w s d e A _ cap hs he hd]
      cases A with
      | none => simp [Conv.bytesToString, strOfV]; rfl
      | some ad => simp [Conv.bytesToString, strOfV, loadCells, loadCellsFrom]; rfl
    | cons u us =>
      obtain ⟨b, off, rfl, hcell⟩ := hst (by simp)
      have hsz1 : sz = 1 := by
        have := hsz u (by simp)
        cases ns with
        | nil => simp at hns
        | cons k ns => simp only[List.map_cons,List.cons.injEq] at hns; rw [hns.1] at this; exact this.symm
      have := run_convert_bytes_arg (P := P) w s e hs he b off (u :: us).length cap ns (by rw [hns]; simp) (fun i hi => by
        have hi' : i < ns.length := by rw [hns] at hi; simpa using hi
        have := hcell i (.int .u8 ns[i]) 0 (.int .u8 ns[i]) (by rw [hns]; simp [hi']) rfl
        have h2 := this.2.1
        rw [hsz1] at h2
        simpa [List.getD_eq_getElem?_getD, hi'] using h2) d hd
      rw [this]
      simp only[strOfV,hbs,strOfNums]
  simp only[execOp,ho,ee,Sem.run_bind,hrun,Result.andThen_ok,Sem.run_pure]
theorem ok_s2b (hR : Rel n S g a w) {s d e : TypeId} {x : Operand} {x' : AOpn} (ho : o.op = .convert s d x) (hx : opn x x' = true) (hs : P.underlying s = some .string) (hd : P.underlying d = some (.slice e)) (he : P.underlying e = some (.int .u8))
    (hc : (s2bV (S.rd x')).c) (own : List Nat → Ow) : Ok1 P (execOp a.eval o) g w own (s2bV (S.rd x')).v := by
  have h := RT.of_opn hR hx
  generalize S.rd x' = p at h hc ⊢
  cases p <;> simp only[s2bV] at hc ⊢ <;> try exact hc.elim
  rename_i q
  have hrun := Lib.run_convert_string_bytes (P := P) w s d e q hs hd he
  have hbl : Below w.heap.size w (Lib.bytesWorld w e q) := by
    refine ⟨rfl, rfl, rfl, by rw [Lib.bytesWorld_size]; omega, fun k hk => Lib.bytesWorld_at_old w e q k hk⟩
  have hcap := grownCap_ge w q.size 0 e
  have hbs : (Lib.bytesCells w e q).size = grownCap w q.size 0 e := by simp [Lib.bytesCells]; have : q.data.size = q.size := rfl; omega
  have hul : (q.data.toList.map fun b => Value.int .u8 b.toNat).length = q.size := by simp
  obtain ⟨f1, f2⟩ := new_row (g := g) hR.heap.valid hbl (Lib.bytesWorld_size w e q) (Lib.bytesWorld_at_new w e q) (by simp [Unfr]) (xs := bytesV q) (us := q.data.toList.map fun b => .int .u8 b.toNat) (sz := 1) (cap := grownCap w q.size 0 e)
    (RIs.of_get (by simp [bytesV]) fun i x u hx hu => by
      simp only[bytesV,List.getElem?_map] at hx hu
      cases hb : q.data.toList[i]? with
      | none => rw [hb] at hx; simp at hx
      | some b => rw [hb] at hx hu; simp at hx hu; subst hx hu; simp [RI])
    (fun u hu => by obtain ⟨b, _, rfl⟩ := List.mem_map.1 hu; rfl) (by rw [hul]; exact hcap) (by rw [hbs]; omega)
    (fun i u j x hi hj => by
      obtain ⟨b, hb, rfl⟩ : ∃ b, q.data.toList[i]? = some b ∧ u = .int .u8 b.toNat := by
        rw [List.getElem?_map] at hi
        obtain ⟨b, h1, h2⟩ := Option.map_eq_some_iff.1 hi
        exact ⟨b, h1, h2.symm⟩
      have hlt : i < q.size := by have := (List.getElem?_eq_some_iff.1 hb).1; simpa using this
      cases j with
      | zero =>
        simp only[Value.cells,List.getElem?_toArray,List.getElem?_cons_zero,Option.some.injEq] at hj
        subst hj
        refine ⟨?_, rfl⟩
        have hb' : q.data[i]? = some b := by simpa using hb
        simp only[Lib.bytesCells,Nat.mul_one,Nat.add_zero]
        rw [Array.getElem?_append_left (by simpa using hlt), Array.getElem?_map, hb']; rfl
      | succ j => simp [Value.cells] at hj) false own
  rw [hul] at f1 f2
  refine ⟨_, _, _, ?_, f1, f2⟩
  simp only[execOp,ho,RI.str_inv h,Sem.run_bind,hrun,Result.andThen_ok,Sem.run_pure]
theorem ok_sslice (hR : Rel n S g a w) {t : TypeId} {x : Operand} {lo hi : Option Operand} {x' : AOpn} {lo' hi' : Option AOpn} (ho : o.op = .slice t x lo hi none) (hx : opn x x' = true)
    (h1 : oopn lo lo' = true) (h2 : oopn hi hi' = true) (ht : P.underlying t = some .string) (hc : (ssliceV S.rd (S.rd x') lo' hi').c) (own : List Nat → Ow) : Ok1 P (execOp a.eval o) g w own (ssliceV S.rd (S.rd x') lo' hi').v := by
  have h := RT.of_opn hR hx
  generalize S.rd x' = p at h hc ⊢
  cases p <;> simp only[ssliceV] at hc ⊢ <;> try exact hc.elim
  rename_i q
  cases hl : loV S.rd lo' with
  | none => simp [hl] at hc
  | some l =>
    cases hh : hiV S.rd q.size hi' with
    | none => simp [hl, hh] at hc
    | some h' =>
      simp only[hl,hh] at hc ⊢
      obtain ⟨c0, c1, c2⟩ := hc
      have hb := bounds_ok (P := P) hR h1 h2 false q.size q.size hl hh c0 c1 (by omega)
      refine Ok1.same (u := .string (q.extract l.toNat h'.toNat)) hR.heap.valid ?_ (by simp [RT, RI]) rfl
      simp [execOp, ho, RI.str_inv h, Instr.sliceAt, Instr.slice, run_underlying ht, hb]
end
end Go.Ge
set_option linter.unusedSimpArgs false
set_option linter.unusedVariables false
namespace Go.Ge
section
variable {P : Program} {n : Nat} {S : AState} {g : Gh} {a : Act} {w : World} {o : Oper}

theorem obj_part {id off k : Nat} {cs : List AVal} (h : RObj g w id (.cells cs)) (hle : off + k ≤ cs.length) : ∃ us : List Value, us.length = k ∧ RIs g w (((cs.drop off).take k).map rdc) us ∧
    ∀ j u, us[j]? = some u → w.cell? ⟨(g.io id).1, (g.io id).2 + off + j, none⟩ = some u := by
  by_cases hne : cs = []
  · subst hne
    obtain rfl : k = 0 := by simp at hle; omega
    exact ⟨[], rfl, by simp [RIs], by simp⟩
  obtain ⟨cur, e, fz, us, h1, h2, h3, h4, hz, h5, h6⟩ := h hne
  have hl := h6.length
  have hri := RIs_rdc _ _ _ h6
  refine ⟨(us.drop off).take k, by simp; omega, ?_, fun j u hj => ?_⟩
  · have := (hri.drop off).take k
    rwa [← List.map_drop, ← List.map_take] at this
  · have hjk : j < k := by
      have := (List.getElem?_eq_some_iff.1 hj).1
      simp at this; omega
    rw [List.getElem?_take_of_lt hjk, List.getElem?_drop] at hj
    rw [cell_of_block h1, Nat.add_assoc]
    exact h5 _ _ hj
theorem RIs.flat {sz : Nat} : ∀ {xs : List AVal} {us : List Value}, RIs g w xs us → (∀ x ∈ xs, x.width = sz) → 0 < sz → RIs g w (xs.flatMap AVal.cells) (us.flatMap fun u => u.cells.toList)
  | [], us, h, _, _ => by simp only[RIs] at h; subst h; simp [RIs]
  | x :: xs, us, h, hw, hp => by
    simp only[RIs] at h
    obtain ⟨u, us', rfl, h1, h2⟩ := h
    simp only[List.flatMap_cons]
    exact (h1.cells (by rw [hw x (by simp)]; exact hp)).append (h2.flat (fun y hy => hw y (by simp [hy])) hp)
theorem ok_empt (hR : Rel n S g a w) {t e : TypeId} {x : Operand} {lo : Option Operand} {kh km : IntKind} {x' : AOpn} {it : TypeInfo} (ho : o.op = .slice t x lo (some (.const (.int kh 0))) (some (.const (.int km 0)))) (hx : opn x x' = true)
    (hlo : ∀ y, lo = some y → ∃ k, y = .const (.int k 0)) (ht : P.underlying t = some (.slice e)) (hit : P.info? e = some it) (hc : (emptV (S.rd x')).c) (own : List Nat → Ow) : Ok1 P (execOp a.eval o) g w own (emptV (S.rd x')).v := by
  have h := RT.of_opn hR hx
  have hsof : (sizeOf e).run P w = .ok it.size w := by simp [sizeOf, typeInfo, hit]
  have hb : ∀ len cap, (Instr.sliceBounds true len cap (lo.map a.eval) (some (.int kh 0)) (some (.int km 0))).run P w = .ok (0, 0, 0) w := by
    intro len cap
    cases lo with
    | none => simp [Instr.sliceBounds, Instr.sliceBound, asIntOf]
    | some y =>
      obtain ⟨k, rfl⟩ := hlo y rfl
      simp [Instr.sliceBounds, Instr.sliceBound, asIntOf, Act.eval]
  have hrun : ∀ A len cap, a.eval x = .slice A len cap → (execOp a.eval o).run P w = .ok (.value (.slice A 0 0)) w := by
    intro A len cap e1
    have := hb len cap
    have e2 : ∀ k, a.eval (.const (.int k 0)) = .int k 0 := fun _ => rfl
    simp only[execOp,ho,Instr.sliceAt,Instr.slice,Option.map_some,e1,e2]
    simp [run_underlying ht, this, hsof]
  cases hp : S.rd x' <;> rw [hp] at h hc <;> simp only[emptV] at hc ⊢ <;> try exact hc.elim
  · simp only[RT,RI] at h
    obtain ⟨A, c, us, ee, _⟩ := h
    exact Ok1.same (u := _) hR.heap.valid (hrun _ _ _ ee) (by simp [RT, RI]) rfl
  · simp only[RT,RI] at h
    obtain ⟨A, ee, _⟩ := h
    exact Ok1.same (u := _) hR.heap.valid (hrun _ _ _ ee) (by simp [RT, RI]) rfl
theorem ok_sliceA (hR : Rel n S g a w) {t ar e : TypeId} {x : Operand} {lo hi : Option Operand} {m sz : Nat} {x' : AOpn} {lo' hi' : Option AOpn} {it : TypeInfo} (ho : o.op = .slice t x lo hi none) (hx : opn x x' = true)
    (h1 : oopn lo lo' = true) (h2 : oopn hi hi' = true) (ht : P.underlying t = some (.pointer ar)) (hta : P.underlying ar = some (.array m e)) (hit : P.info? e = some it) (hsz : it.size = sz)
    (hc : (sliceAV m sz S.rd (S.rd x') lo' hi').c) (own : List Nat → Ow) : Ok1 P (execOp a.eval o) g w own (sliceAV m sz S.rd (S.rd x') lo' hi').v := by
  have h := RT.of_opn hR hx
  have hsof : (sizeOf e).run P w = .ok sz w := by simp [sizeOf, typeInfo, hit, hsz]
  revert hc
  unfold sliceAV
  split
  case h_2 => exact fun hc => hc.elim
  rename_i id off l h' hp hl hh
  rintro ⟨c0, c1, c2⟩
  rw [hp] at h
  have hb := bounds_ok (P := P) hR h1 h2 false m m hl hh c0 c1 (by omega)
  simp only[RT,RI] at h
  obtain ⟨hid, ee⟩ := h
  refine Ok1.same (u := .slice (some (if m = l.toNat then ⟨(g.io id).1, (g.io id).2 + off, none⟩ else (⟨(g.io id).1, (g.io id).2 + off, none⟩ : Addr).add (l.toNat * sz))) (h'.toNat - l.toNat) (m - l.toNat)) hR.heap.valid ?_ ?_ rfl
  · simp [execOp, ho, Instr.sliceAt, Instr.slice, run_underlying ht, run_underlying hta, ee, asAddr, hb, hsof]
  · simp only[RT,RI]
    refine ⟨_, rfl, by omega, fun hne => ⟨hid, ?_⟩⟩
    rw [if_neg (by omega)]
    simp [Addr.add_lit, Nat.add_assoc]
theorem ok_b2sR (hR : Rel n S g a w) {s d e : TypeId} {x : Operand} {x' : AOpn} (ho : o.op = .convert s d x) (hx : opn x x' = true) (hs : P.underlying s = some (.slice e)) (he : P.underlying e = some (.int .u8)) (hd : P.underlying d = some .string)
    (hc : (b2sRV S.heap (S.rd x')).c) (own : List Nat → Ow) : Ok1 P (execOp a.eval o) g w own (b2sRV S.heap (S.rd x')).v := by
  have h := RT.of_opn hR hx
  generalize S.rd x' = p at h hc ⊢
  cases p <;> simp only[b2sRV] at hc ⊢ <;> try exact hc.elim
  rename_i id off len cap
  simp only[RT,RI] at h
  obtain ⟨A, ee, hlc, hA⟩ := h
  simp only[srcH] at hc ⊢
  by_cases h0 : len = 0
  · simp only[h0,if_true] at hc ⊢
    refine Ok1.same (u := .string (strOfV [])) hR.heap.valid ?_ (by simp [RT, RI]) rfl
    have hrun : (convert s d (.slice A 0 cap)).run P w = .ok (.string (strOfV [])) w := by
      rw [run_convert_bytes_string w s d e A _ cap hs he hd]
      cases A with
      | none => simp [Conv.bytesToString, strOfV]; rfl
      | some ad => simp [Conv.bytesToString, strOfV, loadCells, loadCellsFrom]; rfl
    subst h0
    simp only[execOp,ho,ee,Sem.run_bind,hrun,Result.andThen_ok,Sem.run_pure]
  · simp only[if_neg h0] at hc ⊢
    split at hc
    case h_2 => exact hc.elim
    rename_i k xs hq
    split at hq
    case h_2 => cases hq
    rename_i cs hcs
    split at hq
    case isFalse => cases hq
    rename_i hle
    simp only[Option.some.injEq,Prod.mk.injEq] at hq
    obtain ⟨rfl, rfl⟩ := hq
    obtain ⟨us, hul, hus, hcell⟩ := obj_part (hR.heap.obj id _ hcs) hle
    obtain ⟨ns, hns, hbs⟩ := bytes_vals hus hc
    obtain ⟨hid, rfl⟩ := hA (by omega)
    refine Ok1.same (u := .string (strOfV _)) hR.heap.valid ?_ (by simp only[RT,RI]; rfl) rfl
    have hnl : ns.length = len := by rw [hns] at hul; simpa using hul
    have := run_convert_bytes_arg (P := P) w s e hs he (g.io id).1 ((g.io id).2 + off) len cap ns (by omega) (fun i hi => by
      have hi' : i < ns.length := by omega
      have := hcell i (.int .u8 ns[i]) (by rw [hns]; simp [hi'])
      simpa [List.getD_eq_getElem?_getD, hi'] using this) d hd
    simp only[execOp,ho,ee,Sem.run_bind,this,Result.andThen_ok,Sem.run_pure]
    simp only[strOfV,hbs,strOfNums]
theorem ok_capR (hR : Rel n S g a w) {c : Call} {x : Operand} {x' : AOpn} {t e : TypeId} (ho : o.op = .call c) (hcal : c.callee = .builtin .cap) (hargs : c.args = #[x]) (hts : c.argTypes[0]? = some t) (hx : opn x x' = true)
    (he : P.underlying t = some (.slice e)) (hc : (capV (S.rd x')).c) (own : List Nat → Ow) : Ok1 P (execOp a.eval o) g w own (capV (S.rd x')).v := by
  have h := RT.of_opn hR hx
  generalize S.rd x' = p at h hc ⊢
  cases p <;> simp only[capV] at hc ⊢ <;> try exact hc.elim
  · rename_i ow xs
    cases ow <;> simp only[] at hc ⊢ <;> try exact hc.elim
    simp only[RT,RI] at h
    obtain ⟨A, c', us, ee, _, hus, _, rfl, rfl⟩ := h
    exact Ok1.same (u := _) hR.heap.valid (by simp [execOp, ho, resolve, hcal, hargs, invoke, builtin, Builtin.cap_, hts, run_underlying he, ee]; rfl) (by simp [RT, RI, goInt]) rfl
  · simp only[RT,RI] at h
    obtain ⟨_, ee, _, _⟩ := h
    exact Ok1.same (u := _) hR.heap.valid (by simp [execOp, ho, resolve, hcal, hargs, invoke, builtin, Builtin.cap_, hts, run_underlying he, ee]; rfl) (by simp [RT, RI, goInt]) rfl
theorem ok_mkfq (hR : Rel n S g a w) {f : FuncId} {xs : Array Operand} {ys : List AOpn} (ho : o.op = .makeFunc (.func f) #[] xs) (hx : opns xs.toList ys = true)
    (hc : ∀ x ∈ ys, storable (S.rd x) = true ∧ (S.rd x).width = 1) (own : List Nat → Ow) : Ok1 P (execOp a.eval o) g w own (.func f (ys.map S.rd)) := by
  have hri : RIs g w (ys.map S.rd) (xs.toList.map a.eval) := by
    have : ∀ {xs : List Operand} {ys : List AOpn}, opns xs ys = true → (∀ y ∈ ys, noBox (S.rd y) = true) → RIs g w (ys.map S.rd) (xs.map a.eval) := by
      intro xs
      induction xs with
      | nil => intro ys h _; cases ys <;> simp_all [opns, RIs]
      | cons x xs ih =>
        intro ys h hb
        cases ys with
        | nil => simp [opns] at h
        | cons y ys =>
          simp only[opns,Bool.and_eq_true] at h
          simp only[List.map,RIs]
          exact ⟨_, _, rfl, RI.of_RT (hb y (by simp)) (RT.of_opn hR h.1), ih h.2 fun z hz => hb z (by simp [hz])⟩
    refine this hx fun y hy => ?_
    have := (hc y hy).1
    cases hq : S.rd y <;> first | rfl | (rw [hq] at this; simp [storable, storC] at this)
  refine Ok1.same (u := .func (.func f) #[] (xs.map a.eval)) hR.heap.valid (by simp [execOp, ho, Instr.makeFunc]) ?_ rfl
  simp only[RT,RI]
  exact ⟨_, rfl, by simpa using hri⟩
end
end Go.Ge
