/- The evaluator of the abstract machine. -/
import Derived.Test.YtenmplcmmdaibaaGmA
namespace Go.Gm
set_option linter.unusedVariables false

/-- What the evaluator is told of a program: its tables; the package-level variables that read as something fixed; the types whose values '==' compares cell by cell; what the called functions come to. -/
structure Cfg where
  P : Program
  G : Glob
  eq : TypeId → Bool
  orc : Orc

def isAggT (P : Program) (t : TypeId) : Bool :=
  match P.underlying t with
  | some (.struct _) => true
  | some (.array _ _) => true
  | _ => false
def sizeT (P : Program) (t : TypeId) : Nat := ((P.info? t).map (·.size)).getD 0
def bytesT (P : Program) (t : TypeId) : Nat := ((P.info? t).map (·.bytes)).getD 0
def zeroT (P : Program) (t : TypeId) : Option (List AVal) := ((P.info? t).bind (·.zero)).map fun z => z.cells.toList.map abs0
def zeroV (P : Program) (t : TypeId) : Option AVal := ((P.info? t).bind (·.zero)).map absV
/-- A type that is there, of some cells, with a zero of as many. -/
def okT (P : Program) (t : TypeId) : Bool :=
  (P.underlying t).isSome && (match P.info? t with
    | some i => i.size != 0 && (match i.zero with
      | some z => z.cells.size == i.size
      | none => false)
    | none => false)
def isU8 (P : Program) (t : TypeId) : Bool :=
  match P.underlying t with
  | some (.int .u8) => true
  | _ => false
def eqKind (C : Cfg) (t : TypeId) : EqK :=
  if C.eq t then .flat else
  match C.P.underlying t with
  | some .bool => .bool
  | some (.pointer _) => .ptr
  | some (.interface _) => .iface
  | _ => .none
def convA (P : Program) (src dst : TypeId) (x : AVal) (H : AHeap) : Option AVal :=
  match P.underlying src, P.underlying dst with
  | some (.int _), some (.int k) => convInt k x
  | some .string, some .string => convSame x
  | some (.int _), some .string => convRune x
  | some .string, some (.slice e) => if isU8 P e then convToBytes x else none
  | some (.slice e), some .string => if isU8 P e then convToStr x H else none
  | _, _ => none
def fieldsT (P : Program) (t : TypeId) : Array Field :=
  match P.underlying t with
  | some (.struct fs) => fs
  | _ => #[]
def placeA (place : Nat → Option (Nat × Nat)) (r : Operand → AVal) : List (Nat × Operand) → Option (List (Nat × Nat × AVal))
  | [] => some []
  | p :: ps => (place p.1).bind fun x => (placeA place r ps).map ((x.1, x.2, r p.2) :: ·)
def partsA (P : Program) (t : TypeId) (r : Operand → AVal) (parts : Array (Nat × Operand)) : Option (List (Nat × Nat × AVal)) :=
  match P.underlying t with
  | some (.struct fs) => (fs.toList.mapM fun f => (P.info? f.type).map fun i => (f.offset, i.size)).bind fun places => placeA (places[·]?) r parts.toList
  | some (.array _ e) => (P.info? e).bind fun i => placeA (fun j => some (j * i.size, i.size)) r parts.toList
  | _ => none

inductive Cls where
  | r
  | a
  | e
def cls : Op → Cls
  | .alloc _ => .a
  | .box _ _ => .a
  | .makeSlice _ _ _ => .a
  | .makeMap _ _ => .a
  | .store _ _ _ => .e
  | .mapUpdate _ _ _ _ => .e
  | .insert _ _ _ _ => .e
  | .range _ _ => .e
  | .next _ _ => .e
  | .panic _ => .e
  | .defer _ => .e
  | .go _ => .e
  | .send _ _ => .e
  | .recv _ _ _ => .e
  | .select _ _ => .e
  | .call c =>
    match c.callee with
    | .builtin .len => .r
    | .builtin .cap => .r
    | .builtin .max => .r
    | .builtin .min => .r
    | _ => .e
  | _ => .r

/-- Operations that read, at most. -/
def stepR (C : Cfg) (op : Op) (r : Operand → AVal) (H : AHeap) : Option AVal :=
  match op with
  | .move x => some (r x)
  | .assign x => some (r x)
  | .pick c a b => condV (r c) (r a) (r b)
  | .load t x => if !okT C.P t then none else loadA (isAggT C.P t) (sizeT C.P t) (r x) H
  | .binOp op t x y _ => binA (eqKind C t) op (r x) (r y)
  | .unOp op _ x => unA op (r x)
  | .convert src dst x => convA C.P src dst (r x) H
  | .makeInterface t x => (match C.P.underlying t with | some (.interface _) => none | some _ => ifaceA t (r x) | none => none)
  | .makeFunc fn first caps => (match fn with | .func f => if first.size = 0 then some (.fn f (caps.toList.map r)) else none | _ => none)
  | .slice t x lo hi mx => (match C.P.underlying t with
    | some .string => if mx.isSome then none else sliceStr (r x) (lo.map r) (hi.map r)
    | some (.slice e) => if !okT C.P e ∨ (mx.isSome ∧ hi.isNone) then none else sliceSl (sizeT C.P e) (r x) (lo.map r) (hi.map r) (mx.map r)
    | some (.array n e) => if mx.isSome ∨ !okT C.P e then none else sliceArr n (sizeT C.P e) (r x) (lo.map r) (hi.map r)
    | _ => none)
  | .fieldAddr s x f => (match (fieldsT C.P s)[f]? with | some fd => if !okT C.P fd.type then none else fieldAddrA fd.offset (r x) | none => none)
  | .field s x f => (match (fieldsT C.P s)[f]? with | some fd => if !okT C.P fd.type then none else fieldA (isAggT C.P fd.type) fd.offset (sizeT C.P fd.type) (r x) | none => none)
  | .indexAddr t x i => (match C.P.underlying t with
    | some (.slice e) => if !okT C.P e then none else idxSl (sizeT C.P e) (r x) (r i)
    | some (.array n e) => if !okT C.P e then none else idxArr n (sizeT C.P e) (r x) (r i)
    | _ => none)
  | .index t x i => (match C.P.underlying t with
    | some .string => idxStr (r x) (r i)
    | some (.array n e) => if !okT C.P e then none else idxAgg (isAggT C.P e) n (sizeT C.P e) (r x) (r i)
    | _ => none)
  | .extract x i => extractA i (r x)
  | .nilCheck x => nilCheckA (r x)
  | .typeAssert x _ t ok => (match C.P.underlying t with | some (.interface _) => none | some _ => assertA t ok (r x) | none => none)
  | .lookup t m k ok => (match C.P.underlying t with | some (.map kt e) => if C.eq kt then lookupA (zeroV C.P e) ok (r m) (r k) H else none | _ => none)
  | .build t parts => (partsA C.P t r parts).bind fun ps => buildA (zeroT C.P t) ps
  | .buildSlice t len parts => (match C.P.underlying t with
    | some (.slice e) => if okT C.P e ∧ parts.toList.map (·.1) = List.range len ∧ len * sizeT C.P e ≤ 16777216 then buildSl (sizeT C.P e) (parts.toList.map fun p => r p.2) else none
    | _ => none)
  | .call c => (match c.callee, c.args.toList, c.argTypes.toList with
    | .builtin .len, [x], [t] => (match C.P.underlying t with
      | some .string => lenStr (r x)
      | some (.slice _) => lenSl (r x)
      | some (.array n _) => lenArr n (r x)
      | _ => none)
    | .builtin .cap, [x], [t] => (match C.P.underlying t with
      | some (.slice _) => capA (r x)
      | _ => none)
    | .builtin .max, x :: xs, _ => foldA max2A (r x) (xs.map r)
    | .builtin .min, x :: xs, _ => foldA min2A (r x) (xs.map r)
    | _, _, _ => none)
  | _ => none

/-- Operations that lay a block of their own. -/
def stepA (C : Cfg) (op : Op) (r : Operand → AVal) (H : AHeap) : Option (AVal × AHeap) :=
  match op with
  | .alloc t => if !okT C.P t then none else allocA (zeroT C.P t) H
  | .box t x => (match (r x).acells with
    | some cs => if !okT C.P t ∨ cs.length ≠ sizeT C.P t then none else allocA (some cs) H
    | none => none)
  | .makeSlice t l c => (match C.P.underlying t with
    | some (.slice e) => if !okT C.P e then none else makeA (sizeT C.P e) (bytesT C.P e) (zeroT C.P e) (r l) (r c) H
    | _ => none)
  | .makeMap t x => (match x, C.P.underlying t with
    | none, _ => makeMapA H
    | some x, some (.map _ _) => (match r x with | .int _ _ => makeMapA H | _ => none)
    | _, _ => none)
  | _ => none

def retV (x : Option AVal) (H : AHeap) : Out := x.map fun v => (.ret v, H)
def retH (x : Option AHeap) : Out := x.map fun H => (.ret .undef, H)
def retVH (x : Option (AVal × AHeap)) : Out := x.map fun p => (.ret p.1, p.2)
/-- Operations that act. -/
def stepE (C : Cfg) (op : Op) (r : Operand → AVal) (H : AHeap) : Out :=
  match op with
  | .store t x v => if !okT C.P t then none else retH (storeA (sizeT C.P t) (r x) (r v) H)
  | .mapUpdate t m k v => (match C.P.underlying t with | some (.map kt _) => if C.eq kt then retH (updateA (r m) (r k) (r v) H) else none | _ => none)
  | .insert t m k v => (match C.P.underlying t with | some (.map kt _) => if C.eq kt then retH (updateA (r m) (r k) (r v) H) else none | _ => none)
  | .range t x => (match C.P.underlying t with | some .string => retVH (rangeA (r x) H) | _ => none)
  | .next x isStr => if isStr then retVH (nextA (r x) H) else none
  | .panic x => (match r x with | .iface t v => some (.pan (.iface t v), H) | _ => none)
  | .call c => (match c.callee with
    | .builtin .append => (match c.args.toList, c.argTypes.toList with
      | [x, y], [t, ty] => (match C.P.underlying t, C.P.underlying ty with
        | some (.slice e), some (.slice _) => if !okT C.P e ∨ t ≠ ty then none else retVH (appendA e (sizeT C.P e) (bytesT C.P e) (r x) (r y) H)
        | _, _ => none)
      | _, _ => none)
    | .value f => (match r f with
      | .fn g caps => C.orc g ((c.args.toList.map r) ++ caps) H
      | _ => none)
    | _ => none)
  | _ => none

def putT (tm : List AVal) (d : Option Tmp) (v : AVal) : List AVal :=
  match d with
  | some d => tm.set d v
  | none => tm
/-- Is the operation wanted? -/
def wantA (all : Array Oper) (o : Oper) (tm : List AVal) : Option Bool :=
  match o.guard with
  | none => some true
  | some (j, want) => (match ((all[j]?).bind (·.dst)).map fun d => tm.getD d .undef with
    | some (.bool b) => some (b == want)
    | _ => none)
def gR (w : Bool) (x : Option AVal) : Option AVal := if w then x else some .undef
def gA (w : Bool) (H : AHeap) (x : Option (AVal × AHeap)) : Option (AVal × AHeap) := if w then x else some (.undef, H)
def gE (w : Bool) (H : AHeap) (x : Out) : Out := if w then x else some (.ret .undef, H)

def afterE (x : Out) (k : AVal → AHeap → Out) (kp : AVal → AHeap → Out) : Out :=
  x.bind fun p => match p.1 with
    | .ret v => k v p.2
    | .pan v => kp v p.2
def afterA (x : Option (AVal × AHeap)) (k : AVal → AHeap → Out) : Out := x.bind fun p => k p.1 p.2

/-- Operations in the order of the text. -/
def evOps (C : Cfg) (all : Array Oper) : List Oper → (List AVal → AHeap → Out) → (AVal → List AVal → AHeap → Out) → List AVal → AHeap → Out
  | [], k, _, tm, H => k tm H
  | o :: rest, k, kp, tm, H =>
    (wantA all o tm).bind fun w =>
    match cls o.op with
    | .r => (gR w (stepR C o.op (rho C.G tm) H)).bind fun v => evOps C all rest k kp (putT tm o.dst v) H
    | .a => afterA (gA w H (stepA C o.op (rho C.G tm) H)) fun v H => evOps C all rest k kp (putT tm o.dst v) H
    | .e => afterE (gE w H (stepE C o.op (rho C.G tm) H)) (fun v H => evOps C all rest k kp (putT tm o.dst v) H) (fun v H => kp v tm H)

/-! ### A region that draws its order -/
noncomputable def chk (p : Prop) (x : Out) : Out := open Classical in if p then x else none
/-- Does it read the heap? -/
def readsH : Op → Bool
  | .load _ _ => true
  | .convert _ _ _ => true
  | .lookup _ _ _ _ => true
  | _ => false
def stab (bf : Nat → Bool) (f : AHeap → Option AVal) (v : AVal) : List (Nat × AHeap) → Prop
  | [] => True
  | (e, h) :: r => if bf e then True else f h = some v ∧ stab bf f v r
def isE (o : Oper) : Bool :=
  match cls o.op with
  | .e => true
  | _ => false
def isA (o : Oper) : Bool :=
  match cls o.op with
  | .a => true
  | _ => false
/-- Is the order 'perm' one that stands for all? -/
def okDraw (ops : Array Oper) (perm : List Nat) : Bool :=
  let b := Region.before ops
  let bf := fun i j => (b.getD j 0).testBit i
  perm.length == ops.size && (List.range ops.size).all (fun i => perm.contains i) &&
  okFrom ops bf [] perm
where
  okFrom (ops : Array Oper) (bf : Nat → Nat → Bool) : List Nat → List Nat → Bool
    | _, [] => true
    | done, j :: rest =>
      (match ops[j]? with
      | some oj =>
        oj.after.all (fun e => !Region.binds .any e || done.contains e.on) &&
        done.all (fun i => match ops[i]? with
          | some oi => i != j && (bf i j || (!(isE oj) && oi.apart ops oj && oj.apart ops oi)) && (!(isA oi) || isE oj || (match oi.dst with | some d => !(oj.looksAt ops).contains d | none => true))
          | none => false)
      | none => false) && okFrom ops bf (j :: done) rest
noncomputable def evDraw (C : Cfg) (ops : Array Oper) (bf : Nat → Nat → Bool) (k : List AVal → AHeap → Out) (kp : AVal → List AVal → AHeap → Out) :
    List Nat → List (Nat × AHeap) → AHeap → AHeap → List AVal → Out
  | [], _, _, cur, tm => k tm cur
  | i :: rest, hist, hE, cur, tm =>
    match ops[i]? with
    | none => none
    | some o =>
      (wantA ops o tm).bind fun w =>
      match cls o.op with
      | .r => (gR w (stepR C o.op (rho C.G tm) hE)).bind fun v =>
          if readsH o.op then chk (stab (fun e => bf e i) (fun h => gR w (stepR C o.op (rho C.G tm) h)) v hist) (evDraw C ops bf k kp rest hist hE cur (putT tm o.dst v))
          else evDraw C ops bf k kp rest hist hE cur (putT tm o.dst v)
      | .a => afterA (gA w cur (stepA C o.op (rho C.G tm) cur)) fun v H => evDraw C ops bf k kp rest hist hE H (putT tm o.dst v)
      | .e => afterE (gE w cur (stepE C o.op (rho C.G tm) cur)) (fun v H => evDraw C ops bf k kp rest ((i, hE) :: hist) H H (putT tm o.dst v)) (fun v H => match rest with | [] => kp v (tm.map fun _ => .undef) H | _ => none)

/-! ### Code -/
inductive Ann where
  | leaf
  | reg (perm : List Nat)
  | two (a b : Ann)
  | join (live : List Nat) (a b : Ann)
  | one (a : Ann)
  | loop (live : List Nat) (a : Ann)
def projT (L : List Nat) (tm : List AVal) : List AVal := L.map fun i => tm.getD i .undef
def rebT (n : Nat) (L : List Nat) (vs : List AVal) : List AVal := (List.range n).map fun i =>
  match L.idxOf? i with
  | some j => vs.getD j .undef
  | none => .undef
def joinPt (f : (List AVal → AHeap → Out) → Out) (j : List AVal → AHeap → Out) : Out := f j
def loopGen (G : (List AVal → AHeap → Out) → List AVal → AHeap → Out) : Nat → List AVal → AHeap → Out
  | 0, _, _ => none
  | n + 1, vs, H => G (loopGen G n) vs H
def FUEL : Nat := 1152921504606846976
def condA (c : AVal) (a b : Out) : Out :=
  match c with
  | .bool t => if t then a else b
  | _ => none
abbrev Kont := AExit → List AVal → AHeap → Out
def kseq (k : List AVal → AHeap → Out) (K : Kont) : Kont
  | .normal, tm, H => k tm H
  | e, tm, H => K e tm H
def kblock (id : Nat) (K : Kont) : Kont
  | .exit i, tm, H => if i = id then K .normal tm H else K (.exit i) tm H
  | e, tm, H => K e tm H
noncomputable def evC (C : Cfg) (n : Nat) : Code → Ann → Kont → List AVal → AHeap → Out
  | .skip, _, K, tm, H => K .normal tm H
  | .label _, _, K, tm, H => K .normal tm H
  | .ret, _, K, tm, H => K .ret tm H
  | .exit id, _, K, tm, H => K (.exit id) tm H
  | .region _ ops false, _, K, tm, H => evOps C ops ops.toList (fun tm H => K .normal tm H) (fun v tm H => K (.pan v) tm H) tm H
  | .region _ ops true, .reg perm, K, tm, H =>
    if okDraw ops perm then evDraw C ops (fun i j => ((Region.before ops).getD j 0).testBit i) (fun tm H => K .normal tm H) (fun v tm H => K (.pan v) tm H) perm [] H H tm else none
  | .seq a b, .two x y, K, tm, H => evC C n a x (kseq (fun tm H => evC C n b y K tm H) K) tm H
  | .seq a b, .join L x y, K, tm, H =>
    joinPt (fun j => evC C n a x (kseq (fun tm H => j (projT L tm) H) K) tm H) (fun vs H => evC C n b y K (rebT n L vs) H)
  | .cond c a b, .two x y, K, tm, H => condA (rho C.G tm c) (evC C n a x K tm H) (evC C n b y K tm H)
  | .block id a, .one x, K, tm, H => evC C n a x (kblock id K) tm H
  | .loop a, .loop L x, K, tm, H =>
    loopGen (fun rec vs H => evC C n a x (kseq (fun tm H => rec (projT L tm) H) K) (rebT n L vs) H) FUEL (projT L tm) H
  | _, _, _, _, _ => none

/-! ### Functions -/
def closC (n : Nat) : AVal → Bool
  | .ptr id _ _ => id < n
  | .ms id _ _ _ _ _ _ => id < n
  | .sl _ (.own t) => t < n
  | .mp id => id < n
  | .fn _ caps => caps.isEmpty
  | .iface _ _ => false
  | .agg _ => false
  | .tup _ => false
  | .undef => false
  | _ => true
mutual
def frz (H : AHeap) (n : Nat) : Nat → AVal → Option AVal
  | 0, _ => none
  | d + 1, v =>
    match v with
    | .undef => none
    | .ptr id _ _ => if id < n then some v else none
    | .mp id => if id < n then some v else none
    | .ms id g off len cap sz ex => if id < n then some v else
        (getCells H id g).bind fun cs => if off + len * sz ≤ cs.length then (frzL H n d ((cs.drop off).take (len * sz))).bind fun cs' =>
          if cs'.all isImm then some (.sl (chunk sz len cs') (if ex ∧ cap = len then .tight else .no)) else none else none
    | .sl es (.own t) => if t < n then some v else some (.sl es .no)
    | .fn f caps => (frzL H n d caps).map (.fn f)
    | .iface t x => (frz H n d x).map (.iface t)
    | .agg cs => (frzL H n d cs).map .agg
    | .tup vs => (frzL H n d vs).map .tup
    | v => some v
def frzL (H : AHeap) (n : Nat) : Nat → List AVal → Option (List AVal)
  | 0, _ => none
  | _ + 1, [] => some []
  | d + 1, v :: r => (frz H n d v).bind fun v' => (frzL H n (d + 1) r).map (v' :: ·)
end
inductive FMode where
  | keep
  | pure
def resultA (C : Cfg) (tm : List AVal) (H : AHeap) : ResultVar → Option AVal
  | .tmp t => some (tm.getD t .undef)
  | .cell a t => if !okT C.P t then none else loadA (isAggT C.P t) (sizeT C.P t) (tm.getD a .undef) H
def resultsL (C : Cfg) (tm : List AVal) (H : AHeap) : List ResultVar → Option (List AVal)
  | [] => some []
  | r :: rs => (resultA C tm H r).bind fun v => (resultsL C tm H rs).map (v :: ·)
def resultsA (C : Cfg) (rs : List ResultVar) (tm : List AVal) (H : AHeap) : Option AVal :=
  match rs with
  | [r] => resultA C tm H r
  | rs => (resultsL C tm H rs).map .tup
noncomputable def fin (m : FMode) (H0 : AHeap) (r : Res) (H : AHeap) : Out :=
  match m with
  | .keep => some (r, H)
  | .pure => chk (H.take H0.length = H0) (match r with
    | .ret v => (frz H H0.length 8 v).map fun v => (.ret v, H0)
    | .pan v => (frz H H0.length 8 v).map fun v => (.pan v, H0))
noncomputable def fnA (C : Cfg) (fn : Func) (body : Code) (ann : Ann) (m : FMode) (args : List AVal) (H : AHeap) : Out :=
  evC C fn.ntmps body ann (fun e tm H' => match e with
    | .normal => (resultsA C fn.results.toList tm H').bind fun v => fin m H (.ret v) H'
    | .ret => (resultsA C fn.results.toList tm H').bind fun v => fin m H (.ret v) H'
    | .pan v => fin m H (.pan v) H'
    | .exit _ => none) (args ++ List.replicate (fn.ntmps - args.length) .undef) H
end Go.Gm
