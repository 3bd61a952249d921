/- The abstract machine: values that carry the contents of slices, a small heap for what is written through pointers, and an evaluator of the model's Code over them, in continuation style. Definitions alone; what they are worth is proved in the texts behind this one. -/
import Derived.Calls
import Derived.Orders
namespace Go.Gm
set_option linter.unusedVariables false

inductive Tok where
  | no
  | tight
  | own (t : Nat)

inductive AVal where
  | undef
  | bool (b : Bool)
  | int (k : IntKind) (n : Int)
  | str (s : List UInt8)
  | nilp
  | ptr (id g off : Nat)
  | cptr (cells : List AVal) (off : Nat)
  | sl (elems : List (List AVal)) (tok : Tok)
  | ms (id g off len cap sz : Nat) (ex : Bool)
  | fn (f : FuncId) (caps : List AVal)
  | nilfn
  | mp (id : Nat)
  | nilmap
  | iface (t : TypeId) (v : AVal)
  | nilif
  | agg (cells : List AVal)
  | tup (vs : List AVal)

inductive Blk where
  | dead
  | cel (g : Nat) (cells : List AVal)
  | tok (n : Nat) (e : TypeId) (sz : Nat)
  | map (es : List (AVal × AVal))
  | iter (s : List UInt8) (pos : Nat)

abbrev AHeap := List Blk

inductive Res where
  | ret (v : AVal)
  | pan (v : AVal)

inductive AExit where
  | normal
  | exit (id : Nat)
  | ret
  | pan (v : AVal)

abbrev Out := Option (Res × AHeap)
abbrev Orc := FuncId → List AVal → AHeap → Out

def AVal.isScal : AVal → Bool
  | .undef => false
  | .agg _ => false
  | .tup _ => false
  | _ => true

/-- The cells of a value that can be stored. -/
def AVal.acells : AVal → Option (List AVal)
  | .agg cs => if cs.all AVal.isScal then some cs else none
  | .undef => none
  | .tup _ => none
  | v => some [v]

/-! ### Constants -/
def abs0 : Value → AVal
  | .bool b => .bool b
  | .int k n => .int k n
  | .string s => .str s.data.toList
  | .pointer none => .nilp
  | .slice none 0 0 => .sl [] .tight
  | .map none => .nilmap
  | .func (.func f) first captured => if first.size = 0 ∧ captured.size = 0 then .fn f [] else .undef
  | .nilFunc => .nilfn
  | .nilIface => .nilif
  | _ => .undef
def absV : Value → AVal
  | .agg cs => .agg (cs.toList.map abs0)
  | .tuple vs => .tup (vs.toList.map abs0)
  | v => abs0 v

abbrev Glob := Nat → Option (List AVal)
def rho (G : Glob) (tm : List AVal) : Operand → AVal
  | .tmp t => tm.getD t .undef
  | .const v => absV v
  | .global g => match G g with | some cs => .cptr cs 0 | none => .undef
  | .func f => .fn f []

/-! ### Pure operations -/
def condV (c a b : AVal) : Option AVal :=
  match c with
  | .bool t => some (if t then a else b)
  | _ => none

def bitsBin (op : BinOp) (k : IntKind) (x y : Int) : Option AVal :=
  let a := BitVec.ofInt k.bits x
  let b := BitVec.ofInt k.bits y
  match op with
  | .and => some (.int k (k.wrap (a &&& b).toNat))
  | .or => some (.int k (k.wrap (a ||| b).toNat))
  | .xor => some (.int k (k.wrap (a ^^^ b).toNat))
  | .andNot => some (.int k (k.wrap (a &&& ~~~b).toNat))
  | _ => none
def intBin (op : BinOp) (k : IntKind) (x y : Int) : Option AVal :=
  match op with
  | .add => some (.int k (k.wrap (x + y)))
  | .sub => some (.int k (k.wrap (x - y)))
  | .mul => some (.int k (k.wrap (x * y)))
  | .quo => if y = 0 then none else some (.int k (k.wrap (x.tdiv y)))
  | .rem => if y = 0 then none else some (.int k (x.tmod y))
  | .eql => some (.bool (x == y))
  | .neq => some (.bool (x != y))
  | .lss => some (.bool (x < y))
  | .leq => some (.bool (x ≤ y))
  | .gtr => some (.bool (x > y))
  | .geq => some (.bool (x ≥ y))
  | op => bitsBin op k x y
def shiftBin (op : BinOp) (k : IntKind) (x y : Int) : Option AVal :=
  if y < 0 then none else
  match op with
  | .shl => some (.int k (k.wrap (x * 2 ^ (min y.toNat k.bits))))
  | .shr => some (.int k (x.fdiv (2 ^ (min y.toNat k.bits))))
  | _ => none
def strBin (op : BinOp) (x y : List UInt8) : Option AVal :=
  match op with
  | .add => if x.length + y.length ≤ 1152921504606846976 then some (.str (x ++ y)) else none
  | .eql => some (.bool (x == y))
  | .neq => some (.bool (!(x == y)))
  | .lss => some (.bool (Op.bytesLess x y))
  | .leq => some (.bool (Op.bytesLess x y || x == y))
  | .gtr => some (.bool (!(Op.bytesLess x y || x == y)))
  | .geq => some (.bool (!(Op.bytesLess x y)))
  | _ => none

/-- Two cells that can be compared: whole numbers, bools, strings. -/
def cellEq : AVal → AVal → Option Bool
  | .int k a, .int k' b => if k = k' then some (a == b) else none
  | .bool a, .bool b => some (a == b)
  | .str a, .str b => some (a == b)
  | _, _ => none
def cellsEq : List AVal → List AVal → Option Bool
  | [], [] => some true
  | a :: as, b :: bs => (cellEq a b).bind fun e => (cellsEq as bs).bind fun r => some (e && r)
  | _, _ => none
inductive EqK where
  | none
  | bool
  | ptr
  | iface
  | flat
def eqA (k : EqK) (x y : AVal) : Option Bool :=
  match k, x, y with
  | .bool, .bool a, .bool b => some (a == b)
  | .ptr, .nilp, .nilp => some true
  | .ptr, .nilp, .ptr _ _ _ => some false
  | .ptr, .ptr _ _ _, .nilp => some false
  | .ptr, .nilp, .cptr _ _ => some false
  | .ptr, .cptr _ _, .nilp => some false
  | .iface, .nilif, .iface _ _ => some false
  | .iface, .iface _ _, .nilif => some false
  | .flat, .agg as, .agg bs => cellsEq as bs
  | _, _, _ => .none
def isShift : BinOp → Bool
  | .shl => true
  | .shr => true
  | _ => false
def binA (ek : EqK) (op : BinOp) (x y : AVal) : Option AVal :=
  match x, y with
  | .int k a, .int k' b => if isShift op then shiftBin op k a b else if k = k' then intBin op k a b else none
  | .str a, .str b => strBin op a b
  | x, y =>
    match op with
    | .eql => (eqA ek x y).map .bool
    | .neq => (eqA ek x y).map fun b => .bool (!b)
    | _ => none
def unA (op : UnOp) (x : AVal) : Option AVal :=
  match op, x with
  | .neg, .int k n => some (.int k (k.wrap (0 - n)))
  | .xor, .int k n => bitsBin .xor k (if k.signed then -1 else k.max) n
  | .not, .bool b => some (.bool (!b))
  | _, _ => none
def extractA (i : Nat) (x : AVal) : Option AVal :=
  match x with
  | .tup vs => vs[i]?
  | _ => none
/-- A part of an aggregate: 'a': is the part an aggregate itself? -/
def partA (a : Bool) (off sz : Nat) (cs : List AVal) : Option AVal :=
  if a then some (.agg ((cs.drop off).take sz)) else cs[off]?
def fieldA (a : Bool) (off sz : Nat) (x : AVal) : Option AVal :=
  match x with
  | .agg cs => partA a off sz cs
  | _ => none
def fieldAddrA (off : Nat) (x : AVal) : Option AVal :=
  match x with
  | .ptr id g o => some (.ptr id g (o + off))
  | .cptr cs o => some (.cptr cs (o + off))
  | _ => none
def idxStr (x i : AVal) : Option AVal :=
  match x, i with
  | .str s, .int _ n => if 0 ≤ n then (s[n.toNat]?).map fun b => .int .u8 b.toNat else none
  | _, _ => none
def idxAgg (a : Bool) (len sz : Nat) (x i : AVal) : Option AVal :=
  match x, i with
  | .agg cs, .int _ n => if 0 ≤ n ∧ n < len then partA a (n.toNat * sz) sz cs else none
  | _, _ => none
def idxSl (sz : Nat) (x i : AVal) : Option AVal :=
  match x, i with
  | .sl es _, .int _ n => if 0 ≤ n then (es[n.toNat]?).bind fun e => if e.length = sz then some (.cptr e 0) else none else none
  | .ms id g off len _ sz' _, .int _ n => if sz' = sz ∧ 0 ≤ n ∧ n < len then some (.ptr id g (off + n.toNat * sz)) else none
  | _, _ => none
def idxArr (len sz : Nat) (x i : AVal) : Option AVal :=
  match x, i with
  | .ptr id g o, .int _ n => if 0 ≤ n ∧ n < len then some (.ptr id g (o + n.toNat * sz)) else none
  | .cptr cs o, .int _ n => if 0 ≤ n ∧ n < len then some (.cptr cs (o + n.toNat * sz)) else none
  | _, _ => none
def nilCheckA (x : AVal) : Option AVal :=
  match x with
  | .ptr _ _ _ => some x
  | .cptr _ _ => some x
  | .iface _ _ => some x
  | _ => none
def ifaceA (t : TypeId) (x : AVal) : Option AVal := some (.iface t x)
def assertA (t : TypeId) (ok : Bool) (x : AVal) : Option AVal :=
  match x with
  | .iface t' v => if t' = t then some (if ok then .tup [v, .bool true] else v) else none
  | _ => none
def lenStr (x : AVal) : Option AVal :=
  match x with
  | .str s => some (.int .i64 s.length)
  | _ => none
def lenSl (x : AVal) : Option AVal :=
  match x with
  | .sl es _ => some (.int .i64 es.length)
  | .ms _ _ _ len _ _ _ => some (.int .i64 len)
  | _ => none
def lenArr (n : Nat) (x : AVal) : Option AVal := some (.int .i64 n)
def capA (x : AVal) : Option AVal :=
  match x with
  | .sl es .tight => some (.int .i64 es.length)
  | .ms _ _ _ _ cap _ true => some (.int .i64 cap)
  | _ => none
def max2A (x y : AVal) : Option AVal :=
  match x, y with
  | .int k a, .int _ b => some (.int k (if b > a then b else a))
  | _, _ => none
def min2A (x y : AVal) : Option AVal :=
  match x, y with
  | .int k a, .int _ b => some (.int k (if b < a then b else a))
  | _, _ => none
def foldA (f : AVal → AVal → Option AVal) : AVal → List AVal → Option AVal
  | x, [] => some x
  | x, y :: r => (f x y).bind fun z => foldA f z r
/-- The low and the high bound of a slice expression of length n. -/
def boundA (d : Nat) (o : Option AVal) : Option Nat :=
  match o with
  | none => some d
  | some (.int _ n) => if 0 ≤ n then some n.toNat else none
  | _ => none
def sliceStr (x : AVal) (lo hi : Option AVal) : Option AVal :=
  match x with
  | .str s => (boundA 0 lo).bind fun l => (boundA s.length hi).bind fun h => if l ≤ h ∧ h ≤ s.length then some (.str ((s.take h).drop l)) else none
  | _ => none
def sliceTok (tk : Tok) (l h n : Nat) (mx : Bool) : Tok :=
  if mx then .tight else
  match tk with
  | .tight => if h = n then .tight else .no
  | .own t => if h = n ∧ l = 0 then .own t else .no
  | .no => .no
def sliceSl (sz : Nat) (x : AVal) (lo hi mx : Option AVal) : Option AVal :=
  match x with
  | .sl es tk => if !(es.all fun e => e.length == sz) then none else (boundA 0 lo).bind fun l => (boundA es.length hi).bind fun h => (boundA h mx).bind fun m =>
      if l ≤ h ∧ h ≤ es.length ∧ m = h then some (.sl ((es.take h).drop l) (sliceTok tk l h es.length mx.isSome)) else none
  | .ms id g off len cap sz' ex => (boundA 0 lo).bind fun l => (boundA len hi).bind fun h => (boundA cap mx).bind fun m =>
      if sz' = sz ∧ l ≤ h ∧ h ≤ m ∧ m ≤ cap then some (.ms id g (off + l * sz) (h - l) (m - l) sz (ex || mx.isSome)) else none
  | _ => none
def sliceArr (len sz : Nat) (x : AVal) (lo hi : Option AVal) : Option AVal :=
  match x with
  | .ptr id g off => (boundA 0 lo).bind fun l => (boundA len hi).bind fun h =>
      if l ≤ h ∧ h ≤ len then some (.ms id g (off + l * sz) (h - l) (len - l) sz true) else none
  | _ => none

/-! ### Conversions -/
def bytesOf : List (List AVal) → Option (List UInt8)
  | [] => some []
  | [.int .u8 n] :: r => (bytesOf r).map (UInt8.ofNat n.toNat :: ·)
  | _ => none
def bytesOfCells : List AVal → Option (List UInt8)
  | [] => some []
  | .int .u8 n :: r => (bytesOfCells r).map (UInt8.ofNat n.toNat :: ·)
  | _ => none
def convInt (k : IntKind) (x : AVal) : Option AVal :=
  match x with
  | .int _ n => some (.int k (k.wrap n))
  | _ => none
def convSame (x : AVal) : Option AVal :=
  match x with
  | .str s => some (.str s)
  | _ => none
def convRune (x : AVal) : Option AVal :=
  match x with
  | .int _ n => some (.str (Utf8.encode n).data.toList)
  | _ => none
def convToBytes (x : AVal) : Option AVal :=
  match x with
  | .str s => some (.sl (s.map fun b => [.int .u8 b.toNat]) .no)
  | _ => none

/-! ### Building -/
def putN (cs : List AVal) (o n : Nat) (vs : List AVal) : List AVal := cs.take o ++ vs ++ cs.drop (o + n)
def fillA (cs : List AVal) : List (Nat × Nat × AVal) → Option (List AVal)
  | [] => some cs
  | (o, n, v) :: r => v.acells.bind fun vs => if vs.length = n ∧ o + n ≤ cs.length then fillA (putN cs o n vs) r else none
def buildA (z : Option (List AVal)) (parts : List (Nat × Nat × AVal)) : Option AVal :=
  z.bind fun z => if z.all AVal.isScal then (fillA z parts).map .agg else none
/-- Deeply fixed: nothing in it can be written any more. -/
def isImm : AVal → Bool
  | .bool _ => true
  | .int _ _ => true
  | .str _ => true
  | .nilp => true
  | .nilfn => true
  | .nilmap => true
  | .nilif => true
  | .cptr _ _ => true
  | .sl _ .no => true
  | .sl _ .tight => true
  | _ => false
def immC : AVal → AVal
  | .sl es (.own _) => .sl es .no
  | v => v
def seqCells (sz : Nat) : List AVal → Option (List (List AVal))
  | [] => some []
  | v :: r => v.acells.bind fun vs => if vs.length = sz ∧ (vs.map immC).all isImm then (seqCells sz r).map (vs.map immC :: ·) else none
def buildSl (sz : Nat) (vs : List AVal) : Option AVal := (seqCells sz vs).map fun es => .sl es .tight

/-! ### The heap -/
def getCells (H : AHeap) (id g : Nat) : Option (List AVal) :=
  match H[id]? with
  | some (.cel g' cs) => if g' = g then some cs else none
  | _ => none
def loadA (a : Bool) (sz : Nat) (x : AVal) (H : AHeap) : Option AVal :=
  match x with
  | .ptr id g o => (getCells H id g).bind fun cs => if a then (if o + sz ≤ cs.length then some (.agg ((cs.drop o).take sz)) else none) else cs[o]?
  | .cptr cs o => if a then (if o + sz ≤ cs.length then some (.agg ((cs.drop o).take sz)) else none) else cs[o]?
  | _ => none
def storeA (sz : Nat) (x v : AVal) (H : AHeap) : Option AHeap :=
  match x with
  | .ptr id g o => (getCells H id g).bind fun cs => v.acells.bind fun vs =>
      if vs.length = sz ∧ o + sz ≤ cs.length then some (H.set id (.cel g (putN cs o sz vs))) else none
  | _ => none
def convToStr (x : AVal) (H : AHeap) : Option AVal :=
  match x with
  | .sl es _ => (bytesOf es).map .str
  | .ms id g off len _ sz _ => if sz = 1 then (getCells H id g).bind fun cs => if off + len ≤ cs.length then (bytesOfCells ((cs.drop off).take len)).map .str else none else none
  | _ => none
def allocA (cells : Option (List AVal)) (H : AHeap) : Option (AVal × AHeap) :=
  cells.bind fun cs => if cs.all AVal.isScal then some (.ptr H.length 0 0, H ++ [.cel 0 cs]) else none
def repl (n : Nat) (z : List AVal) : List AVal := (List.replicate n z).flatten
def makeA (sz bytes : Nat) (z : Option (List AVal)) (len cap : AVal) (H : AHeap) : Option (AVal × AHeap) :=
  z.bind fun z => match len, cap with
  | .int .i64 l, .int .i64 c => if z.all AVal.isScal ∧ z.length = sz ∧ 0 ≤ l ∧ l ≤ c ∧ c * bytes ≤ 140737488355328 ∧ c ≤ 140737488355328 then some (.ms H.length 0 0 l.toNat c.toNat sz true, H ++ [.cel 0 (repl c.toNat z)]) else none
  | _, _ => none
def makeMapA (H : AHeap) : Option (AVal × AHeap) := some (.mp H.length, H ++ [.map []])

/-- The elements of a slice of elements of one size, a flat row. -/
def chunk (sz : Nat) : Nat → List AVal → List (List AVal)
  | 0, _ => []
  | n + 1, cs => cs.take sz :: chunk sz n (cs.drop sz)
def elemsA (sz : Nat) (x : AVal) (H : AHeap) : Option (List (List AVal)) :=
  match x with
  | .sl es _ => if es.all (fun e => e.length == sz) then some es else none
  | .ms id g off len _ sz' _ => if sz' = sz then (getCells H id g).bind fun cs =>
      if off + len * sz ≤ cs.length ∧ (((cs.drop off).take (len * sz)).map immC).all isImm then some (chunk sz len (((cs.drop off).take (len * sz)).map immC)) else none else none
  | _ => none
def appendA (e : TypeId) (sz bytes : Nat) (x y : AVal) (H : AHeap) : Option (AVal × AHeap) :=
  (elemsA sz y H).bind fun ys => (elemsA sz x H).bind fun es =>
  if ys.length = 0 then some (x, H)
  else if (es.length + ys.length) * bytes ≤ 140737488355328 ∧ es.length + ys.length ≤ 140737488355328 then
    (match x with
    | .sl _ .tight => some (.sl (es ++ ys) (.own H.length), H ++ [.tok (es.length + ys.length) e sz])
    | .sl _ (.own t) => (match H[t]? with
        | some (.tok n e' sz') => if n = es.length ∧ e' = e ∧ sz' = sz then some (.sl (es ++ ys) (.own t), H.set t (.tok (es.length + ys.length) e sz)) else none
        | _ => none)
    | .ms _ _ _ len cap _ true => if cap < len + ys.length then some (.sl (es ++ ys) (.own H.length), H ++ [.tok (es.length + ys.length) e sz]) else none
    | _ => none)
  else none
def lookupL (es : List (AVal × AVal)) (k : List AVal) : Option (Option AVal) :=
  match es with
  | [] => some none
  | (k', v) :: r => (k'.acells.bind fun kc => cellsEq k kc).bind fun b => if b then some (some v) else lookupL r k
def lookupA (z : Option AVal) (ok : Bool) (m k : AVal) (H : AHeap) : Option AVal :=
  z.bind fun z => k.acells.bind fun kc =>
  match m with
  | .mp id => (match H[id]? with
    | some (.map es) => (lookupL es kc).map fun r => match r with
        | some v => if ok then .tup [v, .bool true] else v
        | none => if ok then .tup [z, .bool false] else z
    | _ => none)
  | _ => none
def updateL (es : List (AVal × AVal)) (k : AVal) (kc : List AVal) (v : AVal) : Option (List (AVal × AVal)) :=
  match es with
  | [] => some [(k, v)]
  | (k', v') :: r => (k'.acells.bind fun kc' => cellsEq kc kc').bind fun b => if b then some ((k', v) :: r) else (updateL r k kc v).map ((k', v') :: ·)
def updateA (m k v : AVal) (H : AHeap) : Option AHeap :=
  k.acells.bind fun kc =>
  match m with
  | .mp id => (match H[id]? with
    | some (.map es) => (updateL es k kc v).map fun es => H.set id (.map es)
    | _ => none)
  | _ => none
def rangeA (x : AVal) (H : AHeap) : Option (AVal × AHeap) :=
  match x with
  | .str s => some (.ptr H.length 0 0, H ++ [.iter s 0])
  | _ => none
def nextA (x : AVal) (H : AHeap) : Option (AVal × AHeap) :=
  match x with
  | .ptr id 0 0 => (match H[id]? with
    | some (.iter s pos) =>
      if pos < s.length then
        let cw := Utf8.decode ⟨s.toArray⟩ pos
        some (.tup [.bool true, .int .i64 pos, .int .i32 cw.1], H.set id (.iter s (pos + cw.2)))
      else some (.tup [.bool false], H)
    | _ => none)
  | _ => none
end Go.Gm
