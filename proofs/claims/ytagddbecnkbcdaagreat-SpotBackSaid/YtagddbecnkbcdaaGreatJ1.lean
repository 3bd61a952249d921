/- Texts of this proof, joined. -/
import Derived.Calls
import Derived.Orders
import GoSem.Claims
import Derived.Below
import Derived.Tactics
import Derived.WalkKit
import Derived.LaidEql
import Derived.Laws.IdiomCopy
import Derived.Laws.Append
import Derived.Laws.BytesArg
import Derived.Laws.IdiomStrings
import Derived.Laws.Tables
import Derived.Great.FillDense
import Derived.Great.BuildSlice
import Derived.Laws.AppendOwn
import Derived.Lib.AppendStr
set_option linter.unusedVariables false
set_option linter.unusedSimpArgs false
noncomputable section
namespace Go.Gm
abbrev UU:=@List.getElem?_eq_getElem
abbrev UV:=@List.getElem?_eq_some_iff
abbrev UW:=@List.getElem?_append_left
abbrev UX:=@List.getElem?_set_ne
abbrev UY:=@Nat.zero_add
abbrev UZ:=@List.getD_eq_getElem?_getD
abbrev Va:=@Nat.le_refl
abbrev Vb:=@List.append_assoc
abbrev Vc:=@List.length_append
abbrev Vd:=@Bool.false_eq_true
abbrev Ve:=@Option.some.injEq
abbrev Vf:=@List.take_succ_eq_append_getElem
abbrev Vg:=@List.take_of_length_le
abbrev Vh:=@Bool.and_eq_true
abbrev Vi:=@List.getElem_mem
abbrev Vj:=@List.getElem?_set_self
abbrev Vk:=@Nat.mul_one
abbrev Vl:=@List.getElem?_eq_none
abbrev Vm:=@List.length_take
abbrev Vn:=@List.all_eq_true
abbrev Vo:=@List.eq_nil_of_length_eq_zero
abbrev Vp:=@Nat.add_sub_cancel
abbrev Vq:=@Array.getD_eq_getD_getElem?
abbrev Vr:=@Bool.eq_iff_iff
abbrev Vs:=@List.mem_singleton
abbrev Vt:=@List.mem_append
abbrev Vu:=@List.getElem?_append_right
abbrev Vv:=@Prod.mk.injEq
abbrev Vw:=@Nat.le_trans
abbrev Vx:=@List.length_drop
abbrev Vy:=@Nat.zero_le
abbrev Vz:=@List.mem_of_getElem?
abbrev V0:=@List.getElem?_map
abbrev V3:=@List.append_nil
abbrev V4:=@List.drop_eq_getElem_cons
abbrev V5:=@List.getElem_of_mem
abbrev V6:=@Nat.pow_le_pow_right
abbrev V7:=@List.mem_cons
abbrev V8:=@List.set_append_right
abbrev V9:=@Nat.sub_self
abbrev VA:=@List.length_set
abbrev VB:=@List.getElem?_drop
abbrev VC:=@List.length_pos_iff
abbrev VE:=@Nat.mul_le_mul_right
abbrev VF:=@List.getElem?_append
abbrev VG:=@List.take_append_drop
abbrev VH:=@Nat.lt_or_ge
abbrev VJ:=@List.filter_append
abbrev VK:=@Array.getElem?_eq_some_iff
abbrev VL:=@Nat.add_assoc
abbrev VM:=@Nat.add_mul
abbrev VN:=@Nat.lt_of_le_of_lt
abbrev VO:=@List.take_length
abbrev VP:=@Int.eq_ofNat_of_zero_le
abbrev VR:=@Nat.lt_of_lt_of_le
abbrev VT:=@List.mem_filter
abbrev VU:=@List.getElem?_take_of_lt
abbrev VV:=@Int.lt_irrefl
abbrev VW:=@Bool.true_and
abbrev VX:=@Bool.not_true
abbrev VY:=@List.filter_cons
abbrev VZ:=@Nat.min_eq_left
abbrev Wa:=@Bool.or_eq_true
abbrev Wb:=@Nat.mod_eq_of_lt
abbrev Wc:=@Bool.not_eq_true'
abbrev Wd:=@List.getElem_append_right
abbrev We:=@List.length_map
abbrev Wf:=@List.drop_drop
abbrev Wg:=@Bool.not_false
abbrev Wh:=@List.getElem?_range
abbrev Wi:=@List.length_filter_le
abbrev Wj:=@List.pairwise_singleton
abbrev Wk:=@Nat.mul_add
abbrev Wl:=@List.pairwise_append
abbrev Wm:=@List.mem_of_mem_take
abbrev Wn:=@List.Pairwise.sublist
abbrev Wo:=@Bool.false_and
abbrev Wp:=@Nat.eq_zero_or_pos
abbrev Wq:=@Int.natCast_nonneg
abbrev Wr:=@Nat.mul_comm
abbrev Ws:=@List.drop_eq_nil_of_le
abbrev Wt:=@Array.getElem?_push
abbrev Wu:=@Array.getElem?_setIfInBounds_ne
abbrev Wv:=@Nat.div_lt_iff_lt_mul
abbrev Ww:=@Array.getElem?_toList
abbrev Wx:=@Nat.div_eq_of_lt
abbrev Wy:=@UInt8.toNat_ofNat_of_lt'
abbrev Wz:=@List.mem_map
abbrev W4:=@Bool.false_or
abbrev W5:=@List.take_append_of_le_length
abbrev W6:=@List.ext_getElem?
abbrev W7:=@List.all_eq_false
abbrev W8:=@UInt8.toNat_inj
abbrev W9:=@Nat.mod_lt
abbrev WA:=@List.map_cons
abbrev WB:=@List.drop_zero
abbrev WC:=@BitVec.toNat_ofNat
abbrev WD:=@Bool.and_eq_false_iff
abbrev WE:=@Array.getElem?_modify
abbrev WF:=@List.pairwise_iff_getElem
abbrev WG:=@Option.some.inj
abbrev WH:=@Nat.testBit_eq_decide_div_mod_eq
abbrev WI:=@List.mem_of_mem_drop
abbrev WJ:=@Int.le_refl
abbrev WK:=@Nat.mul_assoc
abbrev WL:=@List.flatMap_append
abbrev WM:=@Array.toList_append
abbrev WN:=@Nat.succ_ne_zero
abbrev WO:=@List.drop_append_of_le_length
abbrev WP:=@List.pairwise_cons
abbrev WQ:=@List.mem_cons_self
abbrev WR:=@List.length_eq_one_iff
abbrev WS:=@Int.pow_succ
abbrev WT:=@Bool.true_or
abbrev WU:=@Nat.div_add_mod
abbrev WV:=@List.range_succ
abbrev WW:=@List.nodup_append
abbrev WX:=@List.getElem_drop
abbrev WY:=@List.foldl_append
abbrev WZ:=@Array.getElem?_setIfInBounds_self_of_lt
abbrev Xa:=@Nat.pow_pos
abbrev Xb:=@Int.fdiv_eq_ediv_of_nonneg
abbrev Xc:=@Array.getElem?_eq_getElem
abbrev Xd:=@List.mem_replicate
abbrev Xe:=@List.find?_eq_none
abbrev Xf:=@Nat.pow_mul
abbrev Xg:=@List.getElem?_replicate
abbrev Xh:=@Int.pow_pos
abbrev Xi:=@List.set_eq_take_append_cons_drop
abbrev Xj:=@List.findIdx?_eq_some_iff_getElem
abbrev Xk:=@List.take_left
abbrev Xl:=@List.mem_range
abbrev Xm:=@List.flatMap_cons
abbrev Xn:=@List.drop_of_length_le
abbrev Xo:=@List.drop_left
abbrev Xp:=@List.length_replicate
abbrev Xq:=@Nat.le_add_right
abbrev Xr:=@List.mem_flatMap
abbrev Xs:=@Array.toList_map
abbrev Xt:=@Bool.or_false
abbrev Xu:=@Nat.le_succ
abbrev Xv:=@Bool.or_eq_false_iff
abbrev Xw:=@BitVec.msb_eq_decide
abbrev Xx:=@Array.toList_extract
abbrev Xy:=@Nat.mul_le_mul_left
abbrev Xz:=@List.takeWhile_cons
abbrev X0:=@List.map_congr_left
abbrev X1:=@List.flatten_append
abbrev X2:=@Nat.zero_mul
abbrev X3:=@Nat.succ_mul
abbrev X4:=@Nat.le_of_lt
abbrev X5:=@Nat.le_of_eq
abbrev X6:=@Option.map_map
abbrev X7:=@Nat.mul_le_mul
abbrev X8:=@Nat.mod_two_eq_zero_or_one
abbrev X9:=@List.getElem?_take
abbrev XA:=@Int.natAbs_pow
abbrev XB:=@Bool.not_eq_false'
abbrev XC:=@List.mem_or_eq_of_mem_set
abbrev XD:=@List.findIdx?_eq_none_iff
abbrev XE:=@List.take_sublist
abbrev XF:=@List.reverse_cons
abbrev XG:=@List.drop_sublist
abbrev XH:=@List.getElem_append_left
abbrev XI:=@List.find?_range_eq_some
abbrev XJ:=@List.filter_cons_of_pos
abbrev XK:=@Nat.add_comm
abbrev XL:=@List.flatMap_singleton
abbrev XM:=@Bool.or_true
abbrev XN:=@Array.getElem?_eq_none
abbrev XO:=@Array.ext'
abbrev XP:=@List.all_append
abbrev XQ:=@List.getElem_set_self
abbrev XR:=@Nat.pow_lt_pow_right
abbrev XS:=@Nat.add_mul_div_left
abbrev XT:=@List.mapM_cons
abbrev XU:=@Int.natAbs_neg
abbrev XV:=@List.filter_eq_self
abbrev XW:=@Int.toNat_of_nonneg
abbrev XX:=@Bool.true_eq_false
abbrev XY:=@Array.foldl_toList
abbrev XZ:=@Nat.dvd_add_right
abbrev Ya:=@List.size_toArray
abbrev Yb:=@List.map_map
abbrev Yc:=@List.getElem_take
abbrev Yd:=@List.getElem?_set
abbrev Ye:=@Int.natAbs_add_le
abbrev Yf:=@Int.mul_comm
abbrev Yg:=@Array.size_append
abbrev Yh:=@Nat.lt_succ_self
abbrev Yi:=@List.mem_flatten
abbrev Yj:=@List.drop_length

inductive Tok where
 | no
 | tight
 | own (t:Nat)

inductive Ab where
 | undef
 | bool (b:Bool)
 | ubool
 | int (k:IntKind) (n:Int)
 | str (s:List UInt8)
 | nilp
 | ptr (id g off:Nat)
 | cptr (cells:List Ab) (off:Nat)
 | sl (elems:List (List Ab)) (tok:Tok)
 | ms (id g off len cap sz:Nat) (ex:Bool)
 | fn (f:FuncId) (caps:List Ab)
 | bfn (f:FuncId) (first:List Ab)
 | nilfn
 | mp (id:Nat)
 | nilmap
 | iface (t:TypeId) (v:Ab)
 | nilif
 | agg (cells:List Ab)
 | tup (vs:List Ab)

inductive Blk where
 | dead
 | cel (g:Nat) (cells:List Ab)
 | tok (n:Nat) (e:TypeId) (sz:Nat)
 | buf (g:Nat) (cells:List Ab) (e:TypeId) (sz:Nat)
 | map (es:List (Ab×Ab))
 | iter (s:List UInt8) (pos:Nat)
 | typ (t:TypeId) (cells:List Ab)

abbrev Aa:=List Blk

inductive Res where
 | ret (v:Ab)
 | pan (v:Ab)

inductive AExit where
 | normal
 | exit (id:Nat)
 | ret
 | pan (v:Ab)

abbrev Out:=Option (Res×Aa)
abbrev Orc:=FuncId→List Ab→Aa→Out

def Ab.isScal:Ab→Bool
 | .undef=>false
 | .ubool=>false
 | .agg _=>false
 | .tup _=>false
 | _=>true

def Ab.acells:Ab→Option (List Ab)
 | .agg cs=>if cs.all Ab.isScal then some cs else none
 | .undef=>none
 | .ubool=>none
 | .tup _=>none
 | v=>some [v]

def Lp:Value→Ab
 | .bool b=>.bool b
 | .int k n=>.int k n
 | .string s=>.str s.data.toList
 | .pointer none=>.nilp
 | .slice none 0 0=>.sl [] .tight
 | .map none=>.nilmap
 | .func (.func f) first captured=>if first.size=0∧captured.size=0 then .fn f []else .undef
 | .nilFunc=>.nilfn
 | .nilIface=>.nilif
 | _=>.undef
def absV:Value→Ab
 | .agg cs=>.agg (cs.toList.map Lp)
 | .tuple vs=>.tup (vs.toList.map Lp)
 | v=>Lp v

abbrev HW:=Nat→Option (List Ab)
def rho (G:HW) (tm:List Ab):Operand→Ab
 | .tmp t=>tm.getD t .undef
 | .const v=>absV v
 | .global g=>match G g with | some cs=>.cptr cs 0 | none=>.undef
 | .func f=>.fn f []

def AI (c a b:Ab):Option Ab:=
 match c with
 | .bool t=>some (if t then a else b)
 | _=>none

def HS (op:BinOp) (k:IntKind) (x y:Int):Option Ab:=
 let a:=BitVec.ofInt k.bits x
 let b:=BitVec.ofInt k.bits y
 match op with
 | .and=>some (.int k (k.wrap (a &&& b).toNat))
 | .or=>some (.int k (k.wrap (a ||| b).toNat))
 | .xor=>some (.int k (k.wrap (a ^^^ b).toNat))
 | .andNot=>some (.int k (k.wrap (a &&& ~~~b).toNat))
 | _=>none
def Fp (op:BinOp) (k:IntKind) (x y:Int):Option Ab:=
 match op with
 | .add=>some (.int k (k.wrap (x+y)))
 | .sub=>some (.int k (k.wrap (x-y)))
 | .mul=>some (.int k (k.wrap (x*y)))
 | .quo=>if y=0 then none else some (.int k (k.wrap (x.tdiv y)))
 | .rem=>if y=0 then none else some (.int k (x.tmod y))
 | .eql=>some (.bool (x == y))
 | .neq=>some (.bool (x != y))
 | .lss=>some (.bool (x<y))
 | .leq=>some (.bool (x≤y))
 | .gtr=>some (.bool (x>y))
 | .geq=>some (.bool (x≥y))
 | op=>HS op k x y
def Hb (op:BinOp) (k:IntKind) (x y:Int):Option Ab:=
 if y<0 then none else
 match op with
 | .shl=>some (.int k (k.wrap (x*2^(min y.toNat k.bits))))
 | .shr=>some (.int k (x.fdiv (2^(min y.toNat k.bits))))
 | _=>none
def strBin (op:BinOp) (x y:List UInt8):Option Ab:=
 match op with
 | .add=>if x.length+y.length≤1152921504606846976 then some (.str (x++y))else none
 | .eql=>some (.bool (x == y))
 | .neq=>some (.bool (!(x == y)))
 | .lss=>some (.bool (Op.bytesLess x y))
 | .leq=>some (.bool (Op.bytesLess x y||x == y))
 | .gtr=>some (.bool (!(Op.bytesLess x y||x == y)))
 | .geq=>some (.bool (!(Op.bytesLess x y)))
 | _=>none

def GQ:Ab→Ab→Option Bool
 | .int k a,.int k' b=>if k=k' then some (a == b)else none
 | _,_=>none
def BJ:List Ab→List Ab→Option Bool
 | [],[]=>some true
 | a::vas,b::bs=>(GQ a b).bind fun e=>(BJ vas bs).bind fun r=>some (e&&r)
 | _,_=>none
inductive EqK where
 | none
 | bool
 | ptr
 | iface
 | flat (n:Nat)
def eqA (k:EqK) (x y:Ab):Option Bool:=
 match k,x,y with
 | .bool,.bool a,.bool b=>some (a == b)
 | .ptr,.nilp,.nilp=>some true
 | .ptr,.nilp,.ptr _ _ _=>some false
 | .ptr,.ptr _ _ _,.nilp=>some false
 | .ptr,.nilp,.cptr _ _=>some false
 | .ptr,.cptr _ _,.nilp=>some false
 | .ptr,.ptr id g o,.ptr id' g' o'=>if id=id'∧g=g'∧o=o' then some true else .none
 | .iface,.nilif,.iface _ _=>some false
 | .iface,.iface _ _,.nilif=>some false
 | .flat n,.agg vas,.agg bs=>if vas.length=n then BJ vas bs else .none
 | _,_,_=>.none
def Dh:BinOp→Bool
 | .shl=>true
 | .shr=>true
 | _=>false
def Ae (ek:EqK) (op:BinOp) (x y:Ab):Option Ab:=
 match x,y with
 | .int k a,.int k' b=>if Dh op then Hb op k a b else if k=k' then Fp op k a b else none
 | .str a,.str b=>strBin op a b
 | x,y=>
  match op with
  | .eql=>(eqA ek x y).map .bool
  | .neq=>(eqA ek x y).map fun b=>.bool (!b)
  | _=>none
def Q8 (op:BinOp) (x:Ab):Option Ab:=
 match op,x with
 | .eql,.sl [] _=>some .ubool
 | .neq,.sl [] _=>some .ubool
 | .eql,.sl (_::_) _=>some (.bool false)
 | .neq,.sl (_::_) _=>some (.bool true)
 | .eql,.ms _ _ _ _ _ _ _=>some (.bool false)
 | .neq,.ms _ _ _ _ _ _ _=>some (.bool true)
 | _,_=>none
def unA (op:UnOp) (x:Ab):Option Ab:=
 match op,x with
 | .neg,.int k n=>some (.int k (k.wrap (0-n)))
 | .xor,.int k n=>HS .xor k (if k.signed then -1 else k.max) n
 | .not,.bool b=>some (.bool (!b))
 | _,_=>none
def Av (i:Nat) (x:Ab):Option Ab:=
 match x with
 | .tup vs=>vs[i]?
 | _=>none
def partA (a:Bool) (off sz:Nat) (cs:List Ab):Option Ab:=
 if a then some (.agg ((cs.drop off).take sz))else cs[off]?
def PC (a:Bool) (off sz:Nat) (x:Ab):Option Ab:=
 match x with
 | .agg cs=>partA a off sz cs
 | _=>none
def Ad (off:Nat) (x:Ab):Option Ab:=
 match x with
 | .ptr id g o=>some (.ptr id g (o+off))
 | .cptr cs o=>some (.cptr cs (o+off))
 | _=>none
def Ez (x i:Ab):Option Ab:=
 match x,i with
 | .str s,.int _ n=>if 0≤n then (s[n.toNat]?).map fun b=>.int .u8 b.toNat else none
 | _,_=>none
def Jm (a:Bool) (len sz:Nat) (x i:Ab):Option Ab:=
 match x,i with
 | .agg cs,.int _ n=>if 0≤n∧n<len then partA a (n.toNat*sz) sz cs else none
 | _,_=>none
def At (sz:Nat) (x i:Ab):Option Ab:=
 match x,i with
 | .sl es _,.int _ n=>if 0≤n then (es[n.toNat]?).bind fun e=>if e.length=sz then some (.cptr e 0)else none else none
 | .ms id g off len _ sz' _,.int _ n=>if sz'=sz∧0≤n∧n<len then some (.ptr id g (off+n.toNat*sz))else none
 | _,_=>none
def BP (len sz:Nat) (x i:Ab):Option Ab:=
 match x,i with
 | .ptr id g o,.int _ n=>if 0≤n∧n<len then some (.ptr id g (o+n.toNat*sz))else none
 | .cptr cs o,.int _ n=>if 0≤n∧n<len then some (.cptr cs (o+n.toNat*sz))else none
 | _,_=>none
def As (x:Ab):Option Ab:=
 match x with
 | .ptr _ _ _=>some x
 | .cptr _ _=>some x
 | .iface _ _=>some x
 | _=>none
def Sm (t:TypeId) (x:Ab):Option Ab:=some (.iface t x)
def assertA (t:TypeId) (ok:Bool) (x:Ab):Option Ab:=
 match x with
 | .iface t' v=>if t'=t then some (if ok then .tup [v,.bool true]else v)else none
 | _=>none
def CG (x:Ab):Option Ab:=
 match x with
 | .str s=>some (.int .i64 s.length)
 | _=>none
def A5 (x:Ab):Option Ab:=
 match x with
 | .sl es _=>some (.int .i64 es.length)
 | .ms _ _ _ len _ _ _=>some (.int .i64 len)
 | _=>none
def lenArr (n:Nat) (x:Ab):Option Ab:=some (.int .i64 n)
def capA (x:Ab):Option Ab:=
 match x with
 | .sl es .tight=>some (.int .i64 es.length)
 | .ms _ _ _ _ cap _ true=>some (.int .i64 cap)
 | _=>none
def J3 (x y:Ab):Option Ab:=
 match x,y with
 | .int k a,.int _ b=>some (.int k (if b>a then b else a))
 | _,_=>none
def RU (x y:Ab):Option Ab:=
 match x,y with
 | .int k a,.int _ b=>some (.int k (if b<a then b else a))
 | _,_=>none
def Hm (f:Ab→Ab→Option Ab):Ab→List Ab→Option Ab
 | x,[]=>some x
 | x,y::r=>(f x y).bind fun z=>Hm f z r
def Bq (d:Nat) (o:Option Ab):Option Nat:=
 match o with
 | none=>some d
 | some (.int _ n)=>if 0≤n then some n.toNat else none
 | _=>none
def Cq (x:Ab) (lo hi:Option Ab):Option Ab:=
 match x with
 | .str s=>(Bq 0 lo).bind fun l=>(Bq s.length hi).bind fun h=>if l≤h∧h≤s.length then some (.str ((s.take h).drop l))else none
 | _=>none
def Fu (tk:Tok) (l h n:Nat) (mx:Bool):Tok:=
 if mx then .tight else
 match tk with
 | .tight=>if h=n then .tight else .no
 | .own t=>if h=n∧l=0 then .own t else .no
 | .no=>.no
def Bv (sz:Nat) (x:Ab) (lo hi mx:Option Ab):Option Ab:=
 match x with
 | .sl es tk=>if !(es.all fun e=>e.length == sz)then none else (Bq 0 lo).bind fun l=>(Bq es.length hi).bind fun h=>(Bq h mx).bind fun m=>
   if l≤h∧h≤es.length∧m=h then some (.sl ((es.take h).drop l) (Fu tk l h es.length mx.isSome))else none
 | .ms id g off len cap sz' ex=>(Bq 0 lo).bind fun l=>(Bq len hi).bind fun h=>(Bq cap mx).bind fun m=>
   if sz'=sz∧0<sz∧l≤h∧h≤m∧m≤cap then some (.ms id g (off+l*sz) (h-l) (m-l) sz (ex||mx.isSome))else none
 | _=>none
def Jw (len sz:Nat) (x:Ab) (lo hi:Option Ab):Option Ab:=
 match x with
 | .ptr id g off=>(Bq 0 lo).bind fun l=>(Bq len hi).bind fun h=>
   if l≤h∧h≤len then some (.ms id g (off+l*sz) (h-l) (len-l) sz true)else none
 | _=>none

def bytesOf:List (List Ab)→Option (List UInt8)
 | []=>some []
 | [.int .u8 n]::r=>(bytesOf r).map (UInt8.ofNat n.toNat::·)
 | _=>none
def Ek:List Ab→Option (List UInt8)
 | []=>some []
 | .int .u8 n::r=>(Ek r).map (UInt8.ofNat n.toNat::·)
 | _=>none
def AK (k:IntKind) (x:Ab):Option Ab:=
 match x with
 | .int _ n=>some (.int k (k.wrap n))
 | _=>none
def convSame (x:Ab):Option Ab:=
 match x with
 | .str s=>some (.str s)
 | _=>none
def convRune (x:Ab):Option Ab:=
 match x with
 | .int _ n=>some (.str (Utf8.encode n).data.toList)
 | _=>none
def LZ (x:Ab):Option Ab:=
 match x with
 | .str s=>some (.sl (s.map fun b=>[.int .u8 b.toNat]) .no)
 | _=>none

def Dp (cs:List Ab) (o n:Nat) (vs:List Ab):List Ab:=cs.take o++vs++cs.drop (o+n)
def FV (cs:List Ab):List (Nat×Nat×Ab)→Option (List Ab)
 | []=>some cs
 | (o,n,v)::r=>v.acells.bind fun vs=>if vs.length=n∧o+n≤cs.length then FV (Dp cs o n vs) r else none
def AD (z:Option (List Ab)) (parts:List (Nat×Nat×Ab)):Option Ab:=
 z.bind fun z=>if z.all Ab.isScal then (FV z parts).map .agg else none
def BE:Ab→Bool
 | .bool _=>true
 | .int _ _=>true
 | .str _=>true
 | .nilp=>true
 | .nilfn=>true
 | .nilmap=>true
 | .nilif=>true
 | .cptr _ _=>true
 | .sl _ .no=>true
 | .sl _ .tight=>true
 | _=>false
def LO:Ab→Ab
 | .sl es (.own _)=>.sl es .no
 | v=>v
def CZ (sz:Nat):List Ab→Option (List (List Ab))
 | []=>some []
 | v::r=>v.acells.bind fun vs=>if vs.length=sz∧(vs.map LO).all BE then (CZ sz r).map (vs.map LO::·)else none
def AY (sz:Nat) (vs:List Ab):Option Ab:=(CZ sz vs).map fun es=>.sl es .tight

def A8 (H:Aa) (id g:Nat):Option (List Ab):=
 match H[id]? with
 | some (.cel g' cs)=>if g'=g then some cs else none
 | some (.buf g' cs _ _)=>if g'=g then some cs else none
 | some (.typ _ cs)=>if 0=g then some cs else none
 | _=>none
def Fv (H:Aa) (id g:Nat) (cs:List Ab):Aa:=
 match H[id]? with
 | some (.buf g' _ e sz)=>H.set id (.buf g' cs e sz)
 | some (.typ t _)=>H.set id (.typ t cs)
 | _=>H.set id (.cel g cs)
def Ac (a:Bool) (sz:Nat) (x:Ab) (H:Aa):Option Ab:=
 match x with
 | .ptr id g o=>(A8 H id g).bind fun cs=>if a then (if o+sz≤cs.length then some (.agg ((cs.drop o).take sz))else none)else cs[o]?
 | .cptr cs o=>if a then (if o+sz≤cs.length then some (.agg ((cs.drop o).take sz))else none)else cs[o]?
 | _=>none
def Ag (sz:Nat) (x v:Ab) (H:Aa):Option Aa:=
 match x with
 | .ptr id g o=>(A8 H id g).bind fun cs=>v.acells.bind fun vs=>
   if vs.length=sz∧o+sz≤cs.length then some (Fv H id g (Dp cs o sz vs))else none
 | _=>none
def Fg (x:Ab) (H:Aa):Option Ab:=
 match x with
 | .sl es _=>(bytesOf es).map .str
 | .ms id g off len _ sz _=>if sz=1 then (A8 H id g).bind fun cs=>if off+len≤cs.length then (Ek ((cs.drop off).take len)).map .str else none else none
 | _=>none
def Az (cells:Option (List Ab)) (H:Aa):Option (Ab×Aa):=
 cells.bind fun cs=>if cs.all Ab.isScal then some (.ptr H.length 0 0,H++[.cel 0 cs])else none
def I8 (t:TypeId) (cells:Option (List Ab)) (H:Aa):Option (Ab×Aa):=
 cells.bind fun cs=>if cs.all Ab.isScal then some (.ptr H.length 0 0,H++[.typ t cs])else none
def L3 (n:Nat) (z:List Ab):List Ab:=(List.replicate n z).flatten
def Kx (sz:Nat) (zero:Option (List Ab)) (x:Ab) (H:Aa):Option Aa:=
 match x with
 | .sl es _=>if es.length=0 then some H else none
 | .ms id g off len _ sz2 _=>if len=0 then some H else zero.bind fun z=>if sz2=sz then Ag (len*sz) (.ptr id g off) (.agg (L3 len z)) H else none
 | _=>none
def Fi (sz bytes:Nat) (z:Option (List Ab)) (len cap:Ab) (H:Aa):Option (Ab×Aa):=
 z.bind fun z=>match len,cap with
 | .int .i64 l,.int .i64 c=>if z.all Ab.isScal∧z.length=sz∧0≤l∧l≤c∧c*bytes≤140737488355328∧c≤140737488355328 then some (.ms H.length 0 0 l.toNat c.toNat sz true,H++[.cel 0 (L3 c.toNat z)])else none
 | _,_=>none
def Ew (H:Aa):Option (Ab×Aa):=some (.mp H.length,H++[.map []])

def Gt (sz:Nat):Nat→List Ab→List (List Ab)
 | 0,_=>[]
 | n+1,cs=>cs.take sz::Gt sz n (cs.drop sz)
def BY (sz:Nat) (x:Ab) (H:Aa):Option (List (List Ab)):=
 match x with
 | .sl es _=>if es.all (fun e=>e.length == sz)then some es else none
 | .ms id g off len _ sz' _=>if sz'=sz then (A8 H id g).bind fun cs=>
   if off+len*sz≤cs.length∧(((cs.drop off).take (len*sz)).map LO).all BE then some (Gt sz len (((cs.drop off).take (len*sz)).map LO))else none else none
 | _=>none
def AW (e:TypeId) (sz bytes:Nat) (x y:Ab) (H:Aa):Option (Ab×Aa):=
 (BY sz y H).bind fun ys=>(BY sz x H).bind fun es=>
 if ys.length=0 then some (x,H)
 else if (es.length+ys.length)*bytes≤140737488355328∧es.length+ys.length≤140737488355328 then
  (match x with
  | .sl _ .tight=>some (.sl (es++ys) (.own H.length),H++[.tok (es.length+ys.length) e sz])
  | .sl _ (.own t)=>(match H[t]? with
    | some (.tok n e' sz')=>if n=es.length∧e'=e∧sz'=sz then some (.sl (es++ys) (.own t),H.set t (.tok (es.length+ys.length) e sz))else none
    | _=>none)
  | .ms _ _ _ len cap _ true=>if cap<len+ys.length then some (.sl (es++ys) (.own H.length),H++[.tok (es.length+ys.length) e sz])else none
  | _=>none)
 else none
def HV (e:TypeId) (sz bytes:Nat) (x:Ab) (ys:List (List Ab)) (H:Aa):Option (Ab×Aa):=
 if ys.length=0 then (match x with | .sl es tk=>if es.all (fun c=>c.length == sz)then some (.sl es tk,H)else none | .ms id g off len cap sz' ex=>if sz'=sz then some (x,H)else none | _=>none)
 else
  (match x with
  | .sl es .tight=>if es.all (fun c=>c.length == sz)∧(es.length+ys.length)*bytes≤140737488355328∧es.length+ys.length≤140737488355328 then
    some (.ms H.length 0 0 (es.length+ys.length) (es.length+ys.length) sz false,H++[.buf 0 (es++ys).flatten e sz])else none
  | .ms id g off len _ sz' false=>(match H[id]? with
    | some (.buf g' cs e' sz'')=>if off=0∧g'=g∧e'=e∧sz'=sz∧sz''=sz∧len*sz≤cs.length∧(len+ys.length)*bytes≤140737488355328∧len+ys.length≤140737488355328 then
      some (.ms id (g+1) 0 (len+ys.length) (len+ys.length) sz false,H.set id (.buf (g+1) (cs.take (len*sz)++ys.flatten) e sz))else none
    | _=>none)
  | _=>none)
def PF (sz:Nat) (y:Ab) (H:Aa):Option (List (List Ab)):=
 match y with
 | .str s=>if sz=1 then some (s.map fun b=>[.int .u8 b.toNat])else none
 | y=>BY sz y H
def FG (e:TypeId) (sz bytes:Nat) (x y:Ab) (H:Aa):Option (Ab×Aa):=(BY sz y H).bind fun ys=>HV e sz bytes x ys H
def appendS (e:TypeId) (sz bytes:Nat) (x y:Ab) (H:Aa):Option (Ab×Aa):=
 match y with
 | .str s=>(PF sz (.str s) H).bind fun ys=>HV e sz bytes x ys H
 | _=>none
def isIntV:Ab→Bool
 | .int _ _=>true
 | _=>false
def DK (a:Bool) (n:Nat) (k:Ab):Option (List Ab):=
 match a,k with
 | true,.agg cs=>if cs.length=n∧cs.all isIntV=true then some cs else none
 | false,.int K i=>some [.int K i]
 | _,_=>none
def E7 (a:Bool) (n:Nat) (es:List (Ab×Ab)) (k:List Ab):Option (Option Ab):=
 match es with
 | []=>some none
 | (k',v)::r=>((DK a n k').bind fun kc=>BJ k kc).bind fun b=>if b then some (some v)else E7 a n r k
def Fb (a:Bool) (n:Nat) (z:Option Ab) (ok:Bool) (m k:Ab) (H:Aa):Option Ab:=
 z.bind fun z=>(DK a n k).bind fun kc=>
 match m with
 | .mp id=>(match H[id]? with
  | some (.map es)=>(E7 a n es kc).map fun r=>match r with
    | some v=>if ok then .tup [v,.bool true]else v
    | none=>if ok then .tup [z,.bool false]else z
  | _=>none)
 | _=>none
def Dn (a:Bool) (n:Nat) (es:List (Ab×Ab)) (k:Ab) (kc:List Ab) (v:Ab):Option (List (Ab×Ab)):=
 match es with
 | []=>some [(k,v)]
 | (k',v')::r=>((DK a n k').bind fun kc'=>BJ kc kc').bind fun b=>if b then some ((k',v)::r)else (Dn a n r k kc v).map ((k',v')::·)
def DW (a:Bool) (n:Nat) (m k v:Ab) (H:Aa):Option Aa:=
 (DK a n k).bind fun kc=>
 match m with
 | .mp id=>(match H[id]? with
  | some (.map es)=>(Dn a n es k kc v).map fun es=>H.set id (.map es)
  | _=>none)
 | _=>none
def N2 (x:Ab) (H:Aa):Option (Ab×Aa):=
 match x with
 | .str s=>some (.ptr H.length 0 0,H++[.iter s 0])
 | _=>none
def Ob (x:Ab) (H:Aa):Option (Ab×Aa):=
 match x with
 | .ptr id 0 0=>(match H[id]? with
  | some (.iter s pos)=>
   if pos<s.length then
    let cw:=Utf8.decode ⟨s.toArray⟩ pos
    some (.tup [.bool true,.int .i64 pos,.int .i32 cw.1],H.set id (.iter s (pos+cw.2)))
   else some (.tup [.bool false],H)
  | _=>none)
 | _=>none

structure Cfg where
 P:Program
 G:HW
 eq:TypeId→Bool
 key:TypeId→Bool
 mu:Bool
 orc:Orc

def B6 (P:Program) (t:TypeId):Bool:=
 match P.underlying t with
 | some (.struct _)=>true
 | some (.array _ _)=>true
 | _=>false
def Aq (P:Program) (t:TypeId):Nat:=((P.info? t).map (·.size)).getD 0
def Fs (P:Program) (t:TypeId):Nat:=((P.info? t).map (·.bytes)).getD 0
def GB (P:Program) (t:TypeId):Option (List Ab):=((P.info? t).bind (·.zero)).map fun z=>z.cells.toList.map Lp
def T9 (P:Program) (t:TypeId):Option Ab:=((P.info? t).bind (·.zero)).map absV
def okT (P:Program) (t:TypeId):Bool:=
 (P.underlying t).isSome&&(match P.info? t with
  | some i=>i.size != 0&&(match i.zero with
   | some z=>z.cells.size == i.size
   | none=>false)
  | none=>false)
def isU8 (P:Program) (t:TypeId):Bool:=
 match P.underlying t with
 | some (.int .u8)=>true
 | _=>false
def GO (C:Cfg) (t:TypeId):EqK:=
 if C.eq t then .flat (Aq C.P t)else
 match C.P.underlying t with
 | some .bool=>.bool
 | some (.pointer e)=>if (C.P.info? e).isSome then .ptr else .none
 | some (.interface _)=>.iface
 | _=>.none
def isNilC:Operand→Bool
 | .const (.slice none 0 0)=>true
 | _=>false
def nilT (C:Cfg) (t:TypeId) (y:Operand):Bool:=isNilC y&&(match C.P.underlying t with | some (.slice _)=>true | _=>false)
def convA (P:Program) (src dst:TypeId) (x:Ab) (H:Aa):Option Ab:=
 match P.underlying src,P.underlying dst with
 | some (.int _),some (.int k)=>AK k x
 | some .string,some .string=>convSame x
 | some (.int _),some .string=>convRune x
 | some .string,some (.slice e)=>if isU8 P e then LZ x else none
 | some (.slice e),some .string=>if isU8 P e then Fg x H else none
 | _,_=>none
def Rd (P:Program) (t:TypeId):Array Field:=
 match P.underlying t with
 | some (.struct fs)=>fs
 | _=>#[]
def Jh (place:Nat→Option (Nat×Nat)) (r:Operand→Ab):List (Nat×Operand)→Option (List (Nat×Nat×Ab))
 | []=>some []
 | p::ps=>(place p.1).bind fun x=>(Jh place r ps).map ((x.1,x.2,r p.2)::·)
def RI (P:Program) (t:TypeId) (r:Operand→Ab) (parts:Array (Nat×Operand)):Option (List (Nat×Nat×Ab)):=
 match P.underlying t with
 | some (.struct fs)=>(fs.toList.mapM fun f=>(P.info? f.type).map fun i=>(f.offset,i.size)).bind fun places=>Jh (places[·]?) r parts.toList
 | some (.array _ e)=>(P.info? e).bind fun i=>Jh (fun j=>some (j*i.size,i.size)) r parts.toList
 | _=>none

inductive Cls where
 | r
 | a
 | e
def cls:Op→Cls
 | .alloc _=>.a
 | .box _ _=>.a
 | .makeSlice _ _ _=>.a
 | .makeMap _ _=>.a
 | .store _ _ _=>.e
 | .mapUpdate _ _ _ _=>.e
 | .insert _ _ _ _=>.e
 | .range _ _=>.e
 | .next _ _=>.e
 | .panic _=>.e
 | .defer _=>.e
 | .go _=>.e
 | .send _ _=>.e
 | .recv _ _ _=>.e
 | .select _ _=>.e
 | .call c=>
  match c.callee with
  | .builtin .len=>.r
  | .builtin .cap=>.r
  | .builtin .max=>.r
  | .builtin .min=>.r
  | _=>.e
 | _=>.r

def BC (C:Cfg) (op:Op) (r:Operand→Ab) (H:Aa):Option Ab:=
 match op with
 | .move x=>some (r x)
 | .assign x=>some (r x)
 | .pick c a b=>AI (r c) (r a) (r b)
 | .load t x=>if !okT C.P t then none else Ac (B6 C.P t) (Aq C.P t) (r x) H
 | .binOp op t x y _=>if nilT C t y then Q8 op (r x)else Ae (GO C t) op (r x) (r y)
 | .unOp op _ x=>unA op (r x)
 | .convert src dst x=>convA C.P src dst (r x) H
 | .makeInterface t x=>(match C.P.underlying t with | some (.interface _)=>none | some _=>Sm t (r x) | none=>none)
 | .makeFunc fn first caps=>(match fn with | .func f=>if first.size=0 then some (.fn f (caps.toList.map r))else if caps.size=0 then some (.bfn f (first.toList.map r))else none | _=>none)
 | .slice t x lo hi mx=>(match C.P.underlying t with
  | some .string=>if mx.isSome then none else Cq (r x) (lo.map r) (hi.map r)
  | some (.slice e)=>if !okT C.P e∨(mx.isSome∧hi.isNone)then none else Bv (Aq C.P e) (r x) (lo.map r) (hi.map r) (mx.map r)
  | some (.array n e)=>if mx.isSome ∨ !okT C.P e then none else Jw n (Aq C.P e) (r x) (lo.map r) (hi.map r)
  | _=>none)
 | .fieldAddr s x f=>(match (Rd C.P s)[f]? with | some fd=>if !okT C.P fd.type then none else Ad fd.offset (r x) | none=>none)
 | .field s x f=>(match (Rd C.P s)[f]? with | some fd=>if !okT C.P fd.type then none else PC (B6 C.P fd.type) fd.offset (Aq C.P fd.type) (r x) | none=>none)
 | .indexAddr t x i=>(match C.P.underlying t with
  | some (.slice e)=>if !okT C.P e then none else At (Aq C.P e) (r x) (r i)
  | some (.array n e)=>if !okT C.P e then none else BP n (Aq C.P e) (r x) (r i)
  | _=>none)
 | .index t x i=>(match C.P.underlying t with
  | some .string=>Ez (r x) (r i)
  | some (.array n e)=>if !okT C.P e then none else Jm (B6 C.P e) n (Aq C.P e) (r x) (r i)
  | _=>none)
 | .extract x i=>Av i (r x)
 | .nilCheck x=>As (r x)
 | .typeAssert x _ t ok=>(match C.P.underlying t with | some (.interface _)=>none | some _=>assertA t ok (r x) | none=>none)
 | .lookup t m k ok=>(match C.P.underlying t with | some (.map kt e)=>if C.key kt then Fb (B6 C.P kt) (Aq C.P kt) (T9 C.P e) ok (r m) (r k) H else none | _=>none)
 | .build t parts=>(RI C.P t r parts).bind fun ps=>AD (GB C.P t) ps
 | .buildSlice t len parts=>(match C.P.underlying t with
  | some (.slice e)=>if okT C.P e∧parts.toList.map (·.1)=List.range len∧len*Aq C.P e≤16777216 then AY (Aq C.P e) (parts.toList.map fun p=>r p.2)else none
  | _=>none)
 | .call c=>(match c.callee,c.args.toList,c.argTypes.toList with
  | .builtin .len,[x],[t]=>(match C.P.underlying t with
   | some .string=>CG (r x)
   | some (.slice _)=>A5 (r x)
   | some (.array n _)=>lenArr n (r x)
   | _=>none)
  | .builtin .cap,[x],[t]=>(match C.P.underlying t with
   | some (.slice _)=>capA (r x)
   | _=>none)
  | .builtin .max,x::xs,_=>Hm J3 (r x) (xs.map r)
  | .builtin .min,x::xs,_=>Hm RU (r x) (xs.map r)
  | _,_,_=>none)
 | _=>none

def selfT (P:Program) (t:TypeId):Bool:=match P.underlying t with
 | some (.struct fs)=>(match fs[0]? with
  | some f=>(match P.underlying f.type with
   | some (.pointer u)=>Nat.beq u t
   | _=>false)
  | none=>false)
 | _=>false
def C9 (C:Cfg) (op:Op) (r:Operand→Ab) (H:Aa):Option (Ab×Aa):=
 match op with
 | .alloc t=>if !okT C.P t then none else (match selfT C.P t with | true=>I8 t (GB C.P t) H | false=>Az (GB C.P t) H)
 | .box t x=>(match (r x).acells with
  | some cs=>if !okT C.P t∨cs.length≠Aq C.P t then none else Az (some cs) H
  | none=>none)
 | .makeSlice t l c=>(match C.P.underlying t with
  | some (.slice e)=>if !okT C.P e then none else Fi (Aq C.P e) (Fs C.P e) (GB C.P e) (r l) (r c) H
  | _=>none)
 | .makeMap t x=>(match x,C.P.underlying t with
  | none,_=>Ew H
  | some x,some (.map _ _)=>(match r x with | .int _ _=>Ew H | _=>none)
  | _,_=>none)
 | _=>none

def retV (x:Option Ab) (H:Aa):Out:=x.map fun v=>(.ret v,H)
def AF (x:Option Aa):Out:=x.map fun H=>(.ret .undef,H)
def BZ (x:Option (Ab×Aa)):Out:=x.map fun p=>(.ret p.1,p.2)
def Ft (C:Cfg) (op:Op) (r:Operand→Ab) (H:Aa):Out:=
 match op with
 | .store t x v=>if !okT C.P t then none else AF (Ag (Aq C.P t) (r x) (r v) H)
 | .mapUpdate t m k v=>(match C.P.underlying t with | some (.map kt _)=>if C.key kt then AF (DW (B6 C.P kt) (Aq C.P kt) (r m) (r k) (r v) H)else none | _=>none)
 | .insert t m k v=>(match C.P.underlying t with | some (.map kt _)=>if C.key kt then AF (DW (B6 C.P kt) (Aq C.P kt) (r m) (r k) (r v) H)else none | _=>none)
 | .range t x=>(match C.P.underlying t with | some .string=>BZ (N2 (r x) H) | _=>none)
 | .next x isStr=>if isStr then BZ (Ob (r x) H)else none
 | .panic x=>(match r x with | .iface t v=>some (.pan (.iface t v),H) | _=>none)
 | .call c=>(match c.callee with
  | .builtin .append=>(match c.args.toList,c.argTypes.toList with
   | [x,y],[t,ty]=>(match C.P.underlying t,C.P.underlying ty with
    | some (.slice e),some (.slice _)=>if !okT C.P e∨t≠ty then none else BZ (if C.mu then FG e (Aq C.P e) (Fs C.P e) (r x) (r y) H else AW e (Aq C.P e) (Fs C.P e) (r x) (r y) H)
    | some (.slice e),some .string=>if !okT C.P e then none else BZ (appendS e (Aq C.P e) (Fs C.P e) (r x) (r y) H)
    | _,_=>none)
   | _,_=>none)
  | .builtin .clear=>(match c.args.toList,c.argTypes.toList with
   | [x],[t]=>(match C.P.underlying t with
    | some (.slice e)=>if !okT C.P e then none else AF (Kx (Aq C.P e) (GB C.P e) (r x) H)
    | _=>none)
   | _,_=>none)
  | .value f=>(match r f with
   | .fn g caps=>C.orc g ((c.args.toList.map r)++caps) H
   | .bfn g first=>C.orc g (first++(c.args.toList.map r)) H
   | _=>none)
  | _=>none)
 | _=>none

def G9 (tm:List Ab) (d:Option Tmp) (v:Ab):List Ab:=
 match d with
 | some d=>tm.set d v
 | none=>tm
def If (all:Array Oper) (o:Oper) (tm:List Ab):Option Bool:=
 match o.guard with
 | none=>some true
 | some (j,want)=>(match ((all[j]?).bind (·.dst)).map fun d=>tm.getD d .undef with
  | some (.bool b)=>some (b == want)
  | some (.tup [])=>some false
  | _=>none)
abbrev Ce:Ab:=.tup []
def gR (w:Bool) (x:Option Ab):Option Ab:=if w then x else some Ce
def gA (w:Bool) (H:Aa) (x:Option (Ab×Aa)):Option (Ab×Aa):=if w then x else some (Ce,H)
def gE (w:Bool) (H:Aa) (x:Out):Out:=if w then x else some (.ret Ce,H)

def HD (x:Out) (k:Ab→Aa→Out) (kp:Ab→Aa→Out):Out:=
 x.bind fun p=>match p.1 with
  | .ret v=>k v p.2
  | .pan v=>kp v p.2
def Am (x:Option (Ab×Aa)) (k:Ab→Aa→Out):Out:=x.bind fun p=>k p.1 p.2

def O3 (C:Cfg) (all:Array Oper):List Oper→(List Ab→Aa→Out)→(Ab→List Ab→Aa→Out)→List Ab→Aa→Out
 | [],k,_,tm,H=>k tm H
 | o::rest,k,kp,tm,H=>
  (If all o tm).bind fun w=>
  match cls o.op with
  | .r=>(gR w (BC C o.op (rho C.G tm) H)).bind fun v=>O3 C all rest k kp (G9 tm o.dst v) H
  | .a=>Am (gA w H (C9 C o.op (rho C.G tm) H)) fun v H=>O3 C all rest k kp (G9 tm o.dst v) H
  | .e=>HD (gE w H (Ft C o.op (rho C.G tm) H)) (fun v H=>O3 C all rest k kp (G9 tm o.dst v) H) (fun v H=>kp v tm H)

def chk (p:Prop) (x:Out):Out:=open Classical in if p then x else none
def Jf:Op→Bool
 | .load _ _=>true
 | .convert _ _ _=>true
 | .lookup _ _ _ _=>true
 | _=>false
def stab (bf:Nat→Bool) (f:Aa→Option Ab) (v:Ab):List (Nat×Aa)→Prop
 | []=>True
 | (e,h)::r=>if bf e then True else f h=some v∧stab bf f v r
def isE (o:Oper):Bool:=
 match cls o.op with
 | .e=>true
 | _=>false
def isA (o:Oper):Bool:=
 match cls o.op with
 | .a=>true
 | _=>false
def N5 (ops:Array Oper) (perm:List Nat):Bool:=
 let b:=Region.before ops
 let bf:=fun i j=>(b.getD j 0).testBit i
 perm.length == ops.size&&(List.range ops.size).all (fun i=>perm.contains i) &&
 okFrom ops bf [] perm
where
 okFrom (ops:Array Oper) (bf:Nat→Nat→Bool):List Nat→List Nat→Bool
  | _,[]=>true
  | done,j::rest=>
   (match ops[j]? with
   | some oj=>
    oj.after.all (fun e=>!Region.binds .any e||done.contains e.on) &&
    done.all (fun i=>match ops[i]? with
     | some oi=>i != j&&(bf i j||(!(isE oj)&&oi.apart ops oj&&oj.apart ops oi))&&(!(isA oi)||isE oj||(match oi.dst with | some d=>!(oj.looksAt ops).contains d | none=>true))
     | none=>false)
   | none=>false)&&okFrom ops bf (j::done) rest
def GM (C:Cfg) (ops:Array Oper) (bf:Nat→Nat→Bool) (k:List Ab→Aa→Out) (kp:Ab→List Ab→Aa→Out) :
  List Nat→List (Nat×Aa)→Aa→Aa→List Ab→Out
 | [],_,_,cur,tm=>k tm cur
 | i::rest,hist,hE,cur,tm=>
  match ops[i]? with
  | none=>none
  | some o=>
   (If ops o tm).bind fun w=>
   match cls o.op with
   | .r=>(gR w (BC C o.op (rho C.G tm) hE)).bind fun v=>
     if Jf o.op then chk (stab (fun e=>bf e i) (fun h=>gR w (BC C o.op (rho C.G tm) h)) v hist) (GM C ops bf k kp rest hist hE cur (G9 tm o.dst v))
     else GM C ops bf k kp rest hist hE cur (G9 tm o.dst v)
   | .a=>Am (gA w cur (C9 C o.op (rho C.G tm) cur)) fun v H=>GM C ops bf k kp rest hist hE H (G9 tm o.dst v)
   | .e=>HD (gE w cur (Ft C o.op (rho C.G tm) cur)) (fun v H=>GM C ops bf k kp rest ((i,hE)::hist) H H (G9 tm o.dst v)) (fun v H=>match rest with | []=>kp v (tm.map fun _=>.undef) H | _=>none)

inductive Ann where
 | lf
 | reg (perm:List Nat)
 | tw (a b:Ann)
 | join (live:List Nat) (a b:Ann)
 | one (a:Ann)
 | loop (live:List Nat) (a:Ann)
def Ik (L:List Nat) (tm:List Ab):List Ab:=L.map fun i=>tm.getD i .undef
def NR (n:Nat) (L:List Nat) (vs:List Ab):List Ab:=(List.range n).map fun i=>
 match L.idxOf? i with
 | some j=>vs.getD j .undef
 | none=>.undef
def AN (f:(List Ab→Aa→Out)→Out) (j:List Ab→Aa→Out):Out:=f j
def Ao (G:(List Ab→Aa→Out)→List Ab→Aa→Out):Nat→List Ab→Aa→Out
 | 0,_,_=>none
 | n+1,vs,H=>G (Ao G n) vs H
def AQ:Nat:=Classical.choose (⟨1152921504606846976,rfl⟩:∃n:Nat,n=1152921504606846976)
theorem Dv:AQ=1152921504606846976:=Classical.choose_spec (⟨1152921504606846976,rfl⟩:∃n:Nat,n=1152921504606846976)
open Classical in
def Aj (c:Ab) (a b:Out):Out:=
 match c with
 | .bool t=>if t then a else b
 | .ubool=>if a=b then a else none
 | _=>none
abbrev QK:=AExit→List Ab→Aa→Out
def kseq (k:List Ab→Aa→Out) (K:QK):QK
 | .normal,tm,H=>k tm H
 | e,tm,H=>K e tm H
def kblock (id:Nat) (K:QK):QK
 | .exit i,tm,H=>if i=id then K .normal tm H else K (.exit i) tm H
 | e,tm,H=>K e tm H
def evC (C:Cfg) (n:Nat):Code→Ann→QK→List Ab→Aa→Out
 | .skip,_,K,tm,H=>K .normal tm H
 | .label _,_,K,tm,H=>K .normal tm H
 | .ret,_,K,tm,H=>K .ret tm H
 | .exit id,_,K,tm,H=>K (.exit id) tm H
 | .region _ ops false,_,K,tm,H=>O3 C ops ops.toList (fun tm H=>K .normal tm H) (fun v tm H=>K (.pan v) tm H) tm H
 | .region _ ops true,.reg perm,K,tm,H=>
  if N5 ops perm then GM C ops (fun i j=>((Region.before ops).getD j 0).testBit i) (fun tm H=>K .normal tm H) (fun v tm H=>K (.pan v) tm H) perm [] H H tm else none
 | .seq a b,.tw x y,K,tm,H=>evC C n a x (kseq (fun tm H=>evC C n b y K tm H) K) tm H
 | .seq a b,.join L x y,K,tm,H=>
  AN (fun j=>evC C n a x (kseq (fun tm H=>j (Ik L tm) H) K) tm H) (fun vs H=>evC C n b y K (NR n L vs) H)
 | .cond c a b,.tw x y,K,tm,H=>Aj (rho C.G tm c) (evC C n a x K tm H) (evC C n b y K tm H)
 | .block id a,.one x,K,tm,H=>evC C n a x (kblock id K) tm H
 | .loop a,.loop L x,K,tm,H=>
  Ao (fun rec vs H=>evC C n a x (kseq (fun tm H=>rec (Ik L tm) H) K) (NR n L vs) H) AQ (Ik L tm) H
 | _,_,_,_,_=>none

def closC (n:Nat):Ab→Bool
 | .ptr id _ _=>id<n
 | .ms id _ _ _ _ _ _=>id<n
 | .sl _ (.own t)=>t<n
 | .mp id=>id<n
 | .fn _ caps=>caps.isEmpty
 | .bfn _ _=>false
 | .ubool=>false
 | .iface _ _=>false
 | .agg _=>false
 | .tup _=>false
 | .undef=>false
 | _=>true

mutual
def frz (H:Aa) (n:Nat):Nat→Ab→Option Ab
 | 0,_=>none
 | d+1,v=>
  match v with
  | .undef=>none
  | .ptr id _ _=>if id<n then some v else none
  | .mp id=>if id<n then some v else none
  | .ms id g off len cap sz ex=>if id<n then some v else
    (A8 H id g).bind fun cs=>if off+len*sz≤cs.length then (FM H n d ((cs.drop off).take (len*sz))).bind fun cs'=>
     if cs'.all BE then some (.sl (Gt sz len cs') (if ex∧cap=len then .tight else .no))else none else none
  | .sl es (.own t)=>if t<n then some v else some (.sl es .no)
  | .fn f caps=>(FM H n d caps).map (.fn f)
  | .bfn _ _=>none
  | .ubool=>none
  | .iface t x=>(frz H n d x).map (.iface t)
  | .agg cs=>(FM H n d cs).map .agg
  | .tup vs=>(FM H n d vs).map .tup
  | v=>some v
def FM (H:Aa) (n:Nat):Nat→List Ab→Option (List Ab)
 | 0,_=>none
 | _+1,[]=>some []
 | d+1,v::r=>(frz H n d v).bind fun v'=>(FM H n (d+1) r).map (v'::·)

end
inductive EW where
 | keep
 | pure
 | keepN
 | pureN
def fgt:Ab→Ab
 | .sl es _=>.sl es .no
 | v=>v
def Eh:Ab→Ab
 | .agg cs=>.agg (cs.map fgt)
 | v=>fgt v
def forget:Ab→Ab
 | .tup vs=>.tup (vs.map Eh)
 | v=>Eh v
def Res.forget:Res→Res
 | .ret v=>.ret (Gm.forget v)
 | .pan v=>.pan v
def HI (C:Cfg) (tm:List Ab) (H:Aa):ResultVar→Option Ab
 | .tmp t=>some (tm.getD t .undef)
 | .cell a t=>if !okT C.P t then none else Ac (B6 C.P t) (Aq C.P t) (tm.getD a .undef) H
def ED (C:Cfg) (tm:List Ab) (H:Aa):List ResultVar→Option (List Ab)
 | []=>some []
 | r::rs=>(HI C tm H r).bind fun v=>(ED C tm H rs).map (v::·)
def Fx (C:Cfg) (rs:List ResultVar) (tm:List Ab) (H:Aa):Option Ab:=
 match rs with
 | [r]=>HI C tm H r
 | rs=>(ED C tm H rs).map .tup
def fin (m:EW) (H0:Aa) (r:Res) (H:Aa):Out:=
 match m with
 | .keep=>some (r,H)
 | .pure=>chk (H.take H0.length=H0) (match r with
  | .ret v=>(frz H H0.length 8 v).map fun v=>(.ret v,H0)
  | .pan v=>(frz H H0.length 8 v).map fun v=>(.pan v,H0))
 | .keepN=>some (r.forget,H)
 | .pureN=>chk (H.take H0.length=H0) (match r with
  | .ret v=>(frz H H0.length 8 v).map fun v=>(.ret (forget v),H0)
  | .pan v=>(frz H H0.length 8 v).map fun v=>(.pan v,H0))
def fnA (C:Cfg) (fn:Func) (body:Code) (ann:Ann) (m:EW) (args:List Ab) (H:Aa):Out:=
 evC C fn.ntmps body ann (fun e tm H'=>match e with
  | .normal=>(Fx C fn.results.toList tm H').bind fun v=>fin m H (.ret v) H'
  | .ret=>(Fx C fn.results.toList tm H').bind fun v=>fin m H (.ret v) H'
  | .pan v=>fin m H (.pan v) H'
  | .exit _=>none) (args++List.replicate (fn.ntmps-args.length) .undef) H
def FixT:Nat→Option (Array Value):=fun _=>none

structure Env where
 φ:Nat→Nat→Option Nat
 κ:Nat→Nat→Option Nat
 I:Nat→Nat→Option Value

structure Env.le (E E':Env):Prop where
 φ:∀id g b,E.φ id g=some b→E'.φ id g=some b
 κ:∀id g b,E.κ id g=some b→E'.κ id g=some b
 I:∀b o v,E.I b o=some v→E'.I b o=some v
theorem Env.le.refl (E:Env):E.le E:=⟨fun _ _ _ h=>h,fun _ _ _ h=>h,fun _ _ _ h=>h⟩
theorem Env.le.trans {A B C:Env} (h:A.le B) (k:B.le C):A.le C:=
 ⟨fun _ _ _ x=>k.φ _ _ _ (h.φ _ _ _ x),fun _ _ _ x=>k.κ _ _ _ (h.κ _ _ _ x),fun _ _ _ x=>k.I _ _ _ (h.I _ _ _ x)⟩

def KP (E:Env) (tk:Tok) (a:Option Addr) (len cap:Nat):Prop:=
 match tk with
 | .no=>True
 | .tight=>cap=len
 | .own t=>∃b,E.φ t len=some b∧E.κ t len=some cap∧a=some ⟨b,0,none⟩
theorem KP.mono {E E':Env} (h:E.le E') {tk:Tok} {a:Option Addr} {len cap:Nat} (k:KP E tk a len cap):KP E' tk a len cap:=by
 cases tk with
 | no=>trivial
 | tight=>exact k
 | own t=>obtain ⟨b,h1,h2,h3⟩:=k;exact ⟨b,h.φ _ _ _ h1,h.κ _ _ _ h2,h3⟩

inductive Ax (E:Env):Ab→Value→Prop
 | undef (v:Value):Ax E .undef v
 | bool (b:Bool):Ax E (.bool b) (.bool b)
 | ubool (b:Bool):Ax E .ubool (.bool b)
 | int (k:IntKind) (n:Int):Ax E (.int k n) (.int k n)
 | str (s:List UInt8):Ax E (.str s) (.string ⟨s.toArray⟩)
 | nilp:Ax E .nilp (.pointer none)
 | ptr {id g off b:Nat} (h:E.φ id g=some b):Ax E (.ptr id g off) (.pointer (some ⟨b,off,none⟩))
 | cptr {cells:List Ab} {off b o:Nat} (f:Nat→Value) (hI:∀i,i<cells.length→E.I b (o+i)=some (f i))
   (hm:∀(i:Nat) (c:Ab),cells[i]? = some c→BE c=true) (hv:∀(i:Nat) (c:Ab),cells[i]? = some c→Ax E c (f i)):Ax E (.cptr cells off) (.pointer (some ⟨b,o+off,none⟩))
 | sl0 {tk:Tok} {a:Option Addr} {cap:Nat} (ht:KP E tk a 0 cap) (ha:a=none→cap=0):Ax E (.sl [] tk) (.slice a 0 cap)
 | sl {es:List (List Ab)} {tk:Tok} {b o s cap:Nat} (f:Nat→Nat→Value) (hl:∀(i:Nat) (e:List Ab),es[i]? = some e→e.length=s)
   (hI:∀i j,i<es.length→j<s→E.I b (o+(i*s+j))=some (f i j))
   (hm:∀(i:Nat) (e:List Ab) (j:Nat) (c:Ab),es[i]? = some e→e[j]? = some c→BE c=true)
   (hv:∀(i:Nat) (e:List Ab) (j:Nat) (c:Ab),es[i]? = some e→e[j]? = some c→Ax E c (f i j))
   (hc:es.length≤cap) (ht:KP E tk (some ⟨b,o,none⟩) es.length cap):Ax E (.sl es tk) (.slice (some ⟨b,o,none⟩) es.length cap)
 | ms {id g off off' len cap sz cap' b:Nat} {ex:Bool} (h:E.φ id g=some b) (hc:cap≤cap') (hl:len≤cap) (he:ex=true→cap'=cap) (ho:cap'≠0→off'=off) (hk:ex=false→off=0→E.κ id g=some cap'∧off'=0):Ax E (.ms id g off len cap sz ex) (.slice (some ⟨b,off',none⟩) len cap')
 | fn {f:FuncId} {caps:List Ab} {vs:Array Value} (hn:caps.length=vs.size) (hv:∀(i:Nat) (c:Ab) (v:Value),caps[i]? = some c→vs[i]? = some v→Ax E c v):Ax E (.fn f caps) (.func (.func f) #[] vs)
 | bfn {f:FuncId} {first:List Ab} {vs:Array Value} (hn:first.length=vs.size) (hv:∀(i:Nat) (c:Ab) (v:Value),first[i]? = some c→vs[i]? = some v→Ax E c v):Ax E (.bfn f first) (.func (.func f) vs #[])
 | nilfn:Ax E .nilfn .nilFunc
 | mp {id b:Nat} (h:E.φ id 0=some b):Ax E (.mp id) (.map (some b))
 | nilmap:Ax E .nilmap (.map none)
 | iface {t:TypeId} {x:Ab} {v:Value} (h:Ax E x v):Ax E (.iface t x) (.iface t v)
 | nilif:Ax E .nilif .nilIface
 | agg {cs:List Ab} {vs:Array Value} (hn:cs.length=vs.size) (hv:∀(i:Nat) (c:Ab) (v:Value),cs[i]? = some c→vs[i]? = some v→Ax E c v):Ax E (.agg cs) (.agg vs)
 | tup {cs:List Ab} {vs:Array Value} (hn:cs.length=vs.size) (hv:∀(i:Nat) (c:Ab) (v:Value),cs[i]? = some c→vs[i]? = some v→Ax E c v):Ax E (.tup cs) (.tuple vs)

theorem Ax.mono {E E':Env} (h:E.le E') {x:Ab} {v:Value} (k:Ax E x v):Ax E' x v:=by
 induction k with
 | undef v=>exact .undef v
 | bool b=>exact .bool b
 | ubool b=>exact .ubool b
 | int k n=>exact .int k n
 | str s=>exact .str s
 | nilp=>exact .nilp
 | ptr h1=>exact .ptr (h.φ _ _ _ h1)
 | cptr f hI hm hv ih=>exact .cptr f (fun i hi=>h.I _ _ _ (hI i hi)) hm ih
 | sl0 ht ha=>exact .sl0 (ht.mono h) ha
 | sl f hl hI hm hv hc ht ih=>exact .sl f hl (fun i j hi hj=>h.I _ _ _ (hI i j hi hj)) hm ih hc (ht.mono h)
 | ms h1 hc hl he ho hk=>exact .ms (h.φ _ _ _ h1) hc hl he ho (fun a b=>⟨h.κ _ _ _ (hk a b).1,(hk a b).2⟩)
 | fn hn hv ih=>exact .fn hn ih
 | bfn hn hv ih=>exact .bfn hn ih
 | nilfn=>exact .nilfn
 | mp h1=>exact .mp (h.φ _ _ _ h1)
 | nilmap=>exact .nilmap
 | iface _ ih=>exact .iface ih
 | nilif=>exact .nilif
 | agg hn hv ih=>exact .agg hn ih
 | tup hn hv ih=>exact .tup hn ih

def A4 (E:Env) (xs:List Ab) (vs:List Value):Prop:=xs.length=vs.length∧∀(i:Nat) (c:Ab) (v:Value),xs[i]? = some c→vs[i]? = some v→Ax E c v
theorem A4.mono {E E':Env} (h:E.le E') {xs:List Ab} {vs:List Value} (k:A4 E xs vs):A4 E' xs vs:=⟨k.1,fun i c v h1 h2=>(k.2 i c v h1 h2).mono h⟩
theorem A4.nil (E:Env):A4 E [] []:=⟨rfl,fun i c v h=>by simp at h⟩
theorem A4.cons {E:Env} {x:Ab} {v:Value} {xs:List Ab} {vs:List Value} (h:Ax E x v) (k:A4 E xs vs):A4 E (x::xs) (v::vs):=by
 refine ⟨by simp [k.1],fun i c u h1 h2=>?_⟩
 cases i with
 | zero=>simp at h1 h2;subst h1;subst h2;exact h
 | succ i=>simp at h1 h2;exact k.2 i c u h1 h2
theorem A4.head {E:Env} {x:Ab} {v:Value} {xs:List Ab} {vs:List Value} (k:A4 E (x::xs) (v::vs)):Ax E x v:=k.2 0 x v rfl rfl
theorem A4.tail {E:Env} {x:Ab} {v:Value} {xs:List Ab} {vs:List Value} (k:A4 E (x::xs) (v::vs)):A4 E xs vs:=
 ⟨by simpa using k.1,fun i c u h1 h2=>k.2 (i+1) c u (by simpa using h1) (by simpa using h2)⟩
theorem A4.append {E:Env} {xs ys:List Ab} {vs us:List Value} (h:A4 E xs vs) (k:A4 E ys us):A4 E (xs++ys) (vs++us):=by
 refine ⟨by simp [h.1,k.1],fun i c u h1 h2=>?_⟩
 rw [VF]at h1 h2
 have:=h.1
 by_cases hi:i<xs.length
 ·rw [if_pos hi]at h1;rw [if_pos (by omega)]at h2;exact h.2 i c u h1 h2
 ·rw [if_neg hi]at h1;rw [if_neg (by omega)]at h2;rw [←this]at h2;exact k.2 _ c u h1 h2
theorem A4.get {E:Env} {xs:List Ab} {vs:List Value} (h:A4 E xs vs) {i:Nat} {c:Ab} (h1:xs[i]? = some c):∃v,vs[i]? = some v∧Ax E c v:=by
 have hi:i<xs.length:=(UV.1 h1).1
 have hi':i<vs.length:=by have:=h.1;omega
 exact ⟨vs[i],UU hi',h.2 i c _ h1 (UU hi')⟩
theorem A4.drop {E:Env} {xs:List Ab} {vs:List Value} (h:A4 E xs vs) (n:Nat):A4 E (xs.drop n) (vs.drop n):=
 ⟨by simp [h.1],fun i c v h1 h2=>h.2 (n+i) c v (by simpa using h1) (by simpa using h2)⟩
theorem A4.take {E:Env} {xs:List Ab} {vs:List Value} (h:A4 E xs vs) (n:Nat):A4 E (xs.take n) (vs.take n):=by
 refine ⟨by simp [h.1],fun i c v h1 h2=>?_⟩
 rw [X9]at h1 h2
 split at h1
 ·rename_i hi;rw [if_pos hi]at h2;exact h.2 i c v h1 h2
 ·cases h1
theorem A4.set {E:Env} {xs:List Ab} {vs:List Value} (h:A4 E xs vs) (n:Nat) {x:Ab} {v:Value} (hx:Ax E x v):A4 E (xs.set n x) (vs.set n v):=by
 refine ⟨by simp [h.1],fun i c u h1 h2=>?_⟩
 rw [Yd]at h1 h2
 split at h1
 ·rename_i hi
  subst hi
  rw [if_pos rfl]at h2
  split at h1
  ·rename_i hlt
   rw [if_pos (by have:=h.1;omega)]at h2
   simp at h1 h2;subst h1;subst h2;exact hx
  ·cases h1
 ·rename_i hi;rw [if_neg hi]at h2;exact h.2 i c u h1 h2
theorem A4.map {E:Env} {α:Type} (l:List α) (f:α→Ab) (g:α→Value) (h:∀x∈l,Ax E (f x) (g x)):A4 E (l.map f) (l.map g):=by
 refine ⟨by simp,fun i c v h1 h2=>?_⟩
 rw [V0]at h1 h2
 cases hx:l[i]? with
 | none=>simp [hx]at h1
 | some x=>simp [hx]at h1 h2;subst h1;subst h2;exact h x (Vz hx)
theorem Ax.agg_of {E:Env} {cs:List Ab} {vs:Array Value} (h:A4 E cs vs.toList):Ax E (.agg cs) (.agg vs):=
 .agg (by simpa using h.1) fun i c v h1 h2=>h.2 i c v h1 (by simpa using h2)
theorem Ax.agg_cells {E:Env} {cs:List Ab} {v:Value} (h:Ax E (.agg cs) v):∃vs:Array Value,v=.agg vs∧A4 E cs vs.toList:=by
 cases h with
 | agg hn hv=>exact ⟨_,rfl,by simpa using hn,fun i c v h1 h2=>hv i c v h1 (by simpa using h2)⟩
theorem Ax.tup_of {E:Env} {cs:List Ab} {vs:Array Value} (h:A4 E cs vs.toList):Ax E (.tup cs) (.tuple vs):=
 .tup (by simpa using h.1) fun i c v h1 h2=>h.2 i c v h1 (by simpa using h2)
theorem Ax.tup_cells {E:Env} {cs:List Ab} {v:Value} (h:Ax E (.tup cs) v):∃vs:Array Value,v=.tuple vs∧A4 E cs vs.toList:=by
 cases h with
 | tup hn hv=>exact ⟨_,rfl,by simpa using hn,fun i c v h1 h2=>hv i c v h1 (by simpa using h2)⟩

def Ck (E:Env) (id:Nat):Blk→Option Nat
 | .dead=>none
 | .cel g _=>E.φ id g
 | .tok n _ _=>E.φ id n
 | .buf g _ _ _=>E.φ id g
 | .map _=>E.φ id 0
 | .iter _ _=>E.φ id 0
 | .typ _ _=>E.φ id 0
def loc (E:Env) (H:Aa) (id:Nat):Option Nat:=(H[id]?).bind (Ck E id)
def FP (E:Env) (w:World) (id:Nat):Blk→Prop
 | .dead=>True
 | .cel g cells=>∃b cs t,E.φ id g=some b∧w.heap[b]? = some (.cells cs t (0,0))∧A4 E cells cs.toList∧∀o,E.I b o=none
 | .tok n e sz=>∃b cap cs,E.φ id n=some b∧E.κ id n=some cap∧w.heap[b]? = some (.cells cs e (0,0))∧cs.size=cap*sz∧n≤cap∧cap≤9223372036854775807∧∀o,n*sz≤o→E.I b o=none
 | .buf g cells e sz=>∃b cap cs,E.φ id g=some b∧E.κ id g=some cap∧w.heap[b]? = some (.cells cs e (0,0))∧cs.size=cap*sz∧cells.length≤cs.size∧cap≤9223372036854775807∧A4 E cells (cs.toList.take cells.length)∧∀o,E.I b o=none
 | .map es=>∃b entries clock,E.φ id 0=some b∧w.heap[b]? = some (.map entries clock)∧entries.size=es.length∧∀(i:Nat) (k v:Ab),es[i]? = some (k,v)→∃en,entries[i]? = some en∧Ax E k en.key∧Ax E v en.val
 | .iter s pos=>∃b,E.φ id 0=some b∧w.heap[b]? = some (.stringIter ⟨s.toArray⟩ pos)
 | .typ t cells=>∃b cs,E.φ id 0=some b∧w.heap[b]? = some (.cells cs t (0,0))∧A4 E cells cs.toList∧∀o,E.I b o=none

def Blk.gen:Blk→Option Nat
 | .tok n _ _=>some n
 | .buf g _ _ _=>some g
 | _=>none
structure Sim (E:Env) (H:Aa) (w:World):Prop where
 blk:∀id B,H[id]? = some B→FP E w id B
 dom:∀id g b,E.φ id g=some b→id<H.length
 domk:∀id g b,E.κ id g=some b→id<H.length
 late:∀id B n,H[id]? = some B→B.gen=some n→∀g,n<g→E.φ id g=none∧E.κ id g=none
 inj:∀id id' b,loc E H id=some b→loc E H id'=some b→id=id'
 imm:∀b o v,E.I b o=some v→w.cell? ⟨b,o,none⟩=some v
 fix:∀b cs,FixT b=some cs→(∃t fr,w.heap[b]? = some (.cells cs t fr))∧(∃v,E.I b 0=some v)∧∀id,loc E H id≠some b

def My (E:Env) (H:Aa) (b:Nat):Prop:=∃id,loc E H id=some b

structure BH (E:Env) (H:Aa) (w:World) (E':Env) (H':Aa) (w':World):Prop where
 le:E.le E'
 os:w'.os=w.os
 tape:w'.tape=w.tape
 output:w'.output=w.output
 size:w.heap.size≤w'.heap.size
 frame:∀b,b<w.heap.size→¬My E H b→w'.heap[b]? = w.heap[b]?
 own:∀b,My E' H' b→My E H b∨w.heap.size≤b
 imm:∀b o,b<w.heap.size→¬My E H b→E'.I b o=E.I b o
theorem BH.refl (E:Env) (H:Aa) (w:World):BH E H w E H w:=
 ⟨.refl E,rfl,rfl,rfl,Va _,fun _ _ _=>rfl,fun _ h=>.inl h,fun _ _ _ _=>rfl⟩
theorem BH.trans {E:Env} {H:Aa} {w:World} {E':Env} {H':Aa} {w':World} {E2:Env} {H2:Aa} {w2:World} (h:BH E H w E' H' w') (k:BH E' H' w' E2 H2 w2):BH E H w E2 H2 w2:=by
 refine ⟨h.le.trans k.le,k.os.trans h.os,k.tape.trans h.tape,k.output.trans h.output,Vw h.size k.size,fun b hb ho=>?_,fun b hb=>?_,fun b o hb ho=>?_⟩
 ·rw [k.frame b (VR hb h.size) (fun ho'=>?_),h.frame b hb ho]
  rcases h.own b ho' with h1 | h1
  ·exact ho h1
  ·omega
 ·rcases k.own b hb with h1 | h1
  ·exact h.own b h1
  ·exact .inr (Vw h.size h1)
 ·rw [k.imm b o (VR hb h.size) (fun ho'=>?_),h.imm b o hb ho]
  rcases h.own b ho' with h1 | h1
  ·exact ho h1
  ·omega
theorem FP.lt {E:Env} {w:World} {id b:Nat} {B:Blk} (hB:FP E w id B) (hl:Ck E id B=some b):b<w.heap.size:=by
 have key:∀o,w.heap[b]? = some o→b<w.heap.size:=fun o ho=>(VK.1 ho).1
 cases B with
 | dead=>simp [Ck]at hl
 | cel g cells=>obtain ⟨b',cs,t,h1,h2,_⟩:=hB;simp only [Ck]at hl;rw [hl]at h1;cases h1;exact key _ h2
 | tok n e sz=>obtain ⟨b',cap,cs,h1,_,h2,_⟩:=hB;simp only [Ck]at hl;rw [hl]at h1;cases h1;exact key _ h2
 | buf g cells e sz=>obtain ⟨b',cap,cs,h1,_,h2,_⟩:=hB;simp only [Ck]at hl;rw [hl]at h1;cases h1;exact key _ h2
 | map es=>obtain ⟨b',en,ck,h1,h2,_⟩:=hB;simp only [Ck]at hl;rw [hl]at h1;cases h1;exact key _ h2
 | iter s pos=>obtain ⟨b',h1,h2⟩:=hB;simp only [Ck]at hl;rw [hl]at h1;cases h1;exact key _ h2
 | typ t cells=>obtain ⟨b',cs,h1,h2,_⟩:=hB;simp only [Ck]at hl;rw [hl]at h1;cases h1;exact key _ h2
theorem FP.keep {E E':Env} {w w':World} {id:Nat} {B:Blk} (h:FP E w id B) (hle:E.le E')
  (hw:∀b,Ck E id B=some b→w'.heap[b]? = w.heap[b]?) (hI:∀b,Ck E id B=some b→E'.I b=E.I b):FP E' w' id B∧∀b,Ck E' id B=some b↔Ck E id B=some b:=by
 cases B with
 | dead=>exact ⟨trivial,fun b=>by simp [Ck]⟩
 | cel g cells=>
  obtain ⟨b,cs,t,h1,h2,h3,h4⟩:=h
  refine ⟨⟨b,cs,t,hle.φ _ _ _ h1,by rw [hw b h1];exact h2,h3.mono hle,fun o=>by rw [hI b h1];exact h4 o⟩,fun b'=>?_⟩
  simp only [Ck];rw [hle.φ _ _ _ h1,h1]
 | tok n e sz=>
  obtain ⟨b,cap,cs,h1,h2,h3,h4,h5,h6,h7⟩:=h
  refine ⟨⟨b,cap,cs,hle.φ _ _ _ h1,hle.κ _ _ _ h2,by rw [hw b h1];exact h3,h4,h5,h6,fun o ho=>by rw [hI b h1];exact h7 o ho⟩,fun b'=>?_⟩
  simp only [Ck];rw [hle.φ _ _ _ h1,h1]
 | buf g cells e sz=>
  obtain ⟨b,cap,cs,h1,h2,h3,h4,h5,h6,h7,h8⟩:=h
  refine ⟨⟨b,cap,cs,hle.φ _ _ _ h1,hle.κ _ _ _ h2,by rw [hw b h1];exact h3,h4,h5,h6,h7.mono hle,fun o=>by rw [hI b h1];exact h8 o⟩,fun b'=>?_⟩
  simp only [Ck];rw [hle.φ _ _ _ h1,h1]
 | map es=>
  obtain ⟨b,en,ck,h1,h2,h3,h4⟩:=h
  refine ⟨⟨b,en,ck,hle.φ _ _ _ h1,by rw [hw b h1];exact h2,h3,fun i k v hi=>?_⟩,fun b'=>?_⟩
  ·obtain ⟨e,h5,h6,h7⟩:=h4 i k v hi
   exact ⟨e,h5,h6.mono hle,h7.mono hle⟩
  ·simp only [Ck];rw [hle.φ _ _ _ h1,h1]
 | iter s pos=>
  obtain ⟨b,h1,h2⟩:=h
  refine ⟨⟨b,hle.φ _ _ _ h1,by rw [hw b h1];exact h2⟩,fun b'=>?_⟩
  simp only [Ck];rw [hle.φ _ _ _ h1,h1]
 | typ t cells=>
  obtain ⟨b,cs,h1,h2,h3,h4⟩:=h
  refine ⟨⟨b,cs,hle.φ _ _ _ h1,by rw [hw b h1];exact h2,h3.mono hle,fun o=>by rw [hI b h1];exact h4 o⟩,fun b'=>?_⟩
  simp only [Ck];rw [hle.φ _ _ _ h1,h1]
theorem Sim.block_lt {E:Env} {H:Aa} {w:World} (h:Sim E H w) {id b:Nat} (hl:loc E H id=some b):b<w.heap.size:=by
 unfold loc at hl
 cases hH:H[id]? with
 | none=>simp [hH]at hl
 | some B=>rw [hH]at hl;exact (h.blk id B hH).lt hl
theorem Sim.imm_lt {E:Env} {H:Aa} {w:World} (h:Sim E H w) {b o:Nat} {v:Value} (hi:E.I b o=some v):b<w.heap.size:=by
 have:=h.imm b o v hi
 exact World.block_lt_of_cell? w _ this

theorem Sim.upd {E:Env} {H:Aa} {w:World} (h:Sim E H w) {E':Env} {w':World} {id:Nat} {B B':Blk} (hid:H[id]? = some B) (hle:E.le E') (hb:FP E' w' id B')
  (hφ:∀i g b,i≠id→E'.φ i g=some b→E.φ i g=some b) (hκ:∀i g b,i≠id→E'.κ i g=some b→E.κ i g=some b)
  (heap:∀b,b<w.heap.size→Ck E id B≠some b→w'.heap[b]? = w.heap[b]?)
  (hI:∀b,b<w.heap.size→Ck E id B≠some b→E'.I b=E.I b)
  (himm:∀b o v,E'.I b o=some v→(w.heap.size≤b∨Ck E id B=some b)→w'.cell? ⟨b,o,none⟩=some v)
  (hloc:∀b,Ck E' id B'=some b→Ck E id B=some b∨w.heap.size≤b)
  (hlate:∀n,B'.gen=some n→∀g,n<g→E'.φ id g=none∧E'.κ id g=none)
  (hos:w'.os=w.os) (htape:w'.tape=w.tape) (hout:w'.output=w.output) (hsz:w.heap.size≤w'.heap.size) :
  Sim E' (H.set id B') w'∧BH E H w E' (H.set id B') w':=by
 have hlt:id<H.length:=(UV.1 hid).1
 have hid':loc E H id=Ck E id B:=by simp [loc,hid]
 have keepB:∀i Bi,i≠id→H[i]? = some Bi→FP E' w' i Bi∧∀b,Ck E' i Bi=some b↔Ck E i Bi=some b:=by
  intro i Bi hne hi
  have hBi:=h.blk i Bi hi
  have hne':∀b,Ck E i Bi=some b→Ck E id B≠some b:=fun b h1 h2=>hne (h.inj i id b (by simp [loc,hi,h1]) (by rw [hid',h2]))
  exact hBi.keep hle (fun b hb=>heap b (hBi.lt hb) (hne' b hb)) (fun b hb=>hI b (hBi.lt hb) (hne' b hb))
 have locs:∀i b,loc E' (H.set id B') i=some b→(i=id∧Ck E' id B'=some b)∨(i≠id∧loc E H i=some b):=by
  intro i b hl
  unfold loc at hl
  by_cases e:i=id
  ·subst e
   rw [Vj hlt]at hl
   exact .inl ⟨rfl,by simpa using hl⟩
  ·rw [UX (Ne.symm e)]at hl
   refine .inr ⟨e,?_⟩
   unfold loc
   cases hH:H[i]? with
   | none=>simp [hH]at hl
   | some Bi=>rw [hH]at hl;simp only [Option.bind_some]at hl ⊢;exact ((keepB i Bi e hH).2 b).1 hl
 constructor
 ·refine ⟨fun i Bi hi=>?_,fun i g b hg=>?_,fun i g b hg=>?_,fun i B n hi hn g hg=>?_,fun i i' b h1 h2=>?_,fun b o v hv=>?_,fun b cs hf=>?_⟩
  ·by_cases e:i=id
   ·subst e
    rw [Vj hlt]at hi
    cases hi;exact hb
   ·rw [UX (Ne.symm e)]at hi
    exact (keepB i Bi e hi).1
  ·rw [VA]
   by_cases e:i=id
   ·omega
   ·exact h.dom i g b (hφ i g b e hg)
  ·rw [VA]
   by_cases e:i=id
   ·omega
   ·exact h.domk i g b (hκ i g b e hg)
  ·by_cases e:i=id
   ·subst e
    rw [Vj hlt]at hi
    cases hi;exact hlate _ hn g hg
   ·rw [UX (Ne.symm e)]at hi
    obtain ⟨h1,h2⟩:=h.late i _ n hi hn g hg
    refine ⟨?_,?_⟩
    ·cases hx:E'.φ i g with
     | none=>rfl
     | some b=>have:=hφ i g b e hx;rw [h1]at this;cases this
    ·cases hx:E'.κ i g with
     | none=>rfl
     | some b=>have:=hκ i g b e hx;rw [h2]at this;cases this
  ·rcases locs i b h1 with ⟨e1,l1⟩ | ⟨e1,l1⟩ <;> rcases locs i' b h2 with ⟨e2,l2⟩ | ⟨e2,l2⟩
   ·rw [e1,e2]
   ·rcases hloc b l1 with l3 | l3
    ·exact absurd (h.inj i' id b l2 (by rw [hid',l3])) e2
    ·have:=h.block_lt l2;omega
   ·rcases hloc b l2 with l3 | l3
    ·exact absurd (h.inj i id b l1 (by rw [hid',l3])) e1
    ·have:=h.block_lt l1;omega
   ·exact h.inj i i' b l1 l2
  ·by_cases hc:w.heap.size≤b∨Ck E id B=some b
   ·exact himm b o v hv hc
   ·have h1:b<w.heap.size:=by
     rcases VH b w.heap.size with h1 | h1
     ·exact h1
     ·exact absurd (.inl h1) hc
    have h2:Ck E id B≠some b:=fun h2=>hc (.inr h2)
    rw [hI b h1 h2]at hv
    rw [World.cell?_of_block (w:=w) (heap b h1 h2)]
    exact h.imm b o v hv
  ·obtain ⟨⟨t,fr,h1⟩,⟨v,hv⟩,h2⟩:=h.fix b cs hf
   have h3:b<w.heap.size:=(VK.1 h1).1
   have h4:Ck E id B≠some b:=fun h5=>h2 id (by rw [hid',h5])
   refine ⟨⟨t,fr,by rw [heap b h3 h4];exact h1⟩,⟨v,hle.I _ _ _ hv⟩,fun i hi=>?_⟩
   rcases locs i b hi with ⟨_,l1⟩ | ⟨_,l1⟩
   ·rcases hloc b l1 with l | l
    ·exact h4 l
    ·omega
   ·exact h2 i l1
 ·refine ⟨hle,hos,htape,hout,hsz,fun b hb ho=>heap b hb (fun hl=>ho ⟨id,by rw [hid',hl]⟩),fun b ho=>?_,fun b o hb ho=>by rw [hI b hb (fun hl=>ho ⟨id,by rw [hid',hl]⟩)]⟩
  obtain ⟨i,hi⟩:=ho
  rcases locs i b hi with ⟨e,l⟩ | ⟨e,l⟩
  ·rcases hloc b l with l | l
   ·exact .inl ⟨id,by rw [hid',l]⟩
   ·exact .inr l
  ·exact .inl ⟨i,l⟩

theorem Sim.dead {E:Env} {H:Aa} {w:World} (h:Sim E H w):Sim E (H++[.dead]) w:=by
 have locs:∀i,loc E (H++[.dead]) i=loc E H i:=by
  intro i
  unfold loc
  rw [VF]
  split
  ·rfl
  ·rename_i hi
   have hn:H[i]? = none:=Vl (by omega)
   rw [hn]
   cases hx:i-H.length with
   | zero=>simp [Ck]
   | succ n=>simp
 refine ⟨fun i B hi=>?_,fun i g b hg=>by have:=h.dom i g b hg;simp;omega,fun i g b hg=>by have:=h.domk i g b hg;simp;omega,fun i B n hi hn=>?_,fun i i' b h1 h2=>h.inj i i' b (by rw [←locs];exact h1) (by rw [←locs];exact h2),h.imm,fun b cs hf=>⟨(h.fix b cs hf).1,(h.fix b cs hf).2.1,fun i hi=>(h.fix b cs hf).2.2 i (by rw [←locs];exact hi)⟩⟩
 ·rw [VF]at hi
  split at hi
  ·exact h.blk i B hi
  ·cases hx:i-H.length with
   | zero=>simp [hx]at hi;subst hi;trivial
   | succ n=>simp [hx]at hi
 ·rw [VF]at hi
  split at hi
  ·exact h.late i B n hi hn
  ·cases hx:i-H.length with
   | zero=>simp [hx]at hi;subst hi;cases hn
   | succ n=>simp [hx]at hi
theorem BH.dead (E:Env) (H:Aa) (w:World):BH E H w E (H++[.dead]) w:=by
 refine ⟨.refl E,rfl,rfl,rfl,Va _,fun _ _ _=>rfl,fun b ⟨i,hi⟩=>.inl ⟨i,?_⟩,fun _ _ _ _=>rfl⟩
 unfold loc at hi ⊢
 rw [VF]at hi
 split at hi
 ·exact hi
 ·cases hx:i-H.length with
  | zero=>simp [hx,Ck]at hi
  | succ n=>simp [hx]at hi
theorem Sim.push {E:Env} {H:Aa} {w:World} (h:Sim E H w) {E':Env} {w':World} {B':Blk} (hle:E.le E') (hb:FP E' w' H.length B')
  (hφ:∀i g b,i≠H.length→E'.φ i g=some b→E.φ i g=some b) (hκ:∀i g b,i≠H.length→E'.κ i g=some b→E.κ i g=some b)
  (heap:∀b,b<w.heap.size→w'.heap[b]? = w.heap[b]?) (hI:∀b,b<w.heap.size→E'.I b=E.I b)
  (himm:∀b o v,E'.I b o=some v→w.heap.size≤b→w'.cell? ⟨b,o,none⟩=some v)
  (hloc:∀b,Ck E' H.length B'=some b→w.heap.size≤b)
  (hlate:∀n,B'.gen=some n→∀g,n<g→E'.φ H.length g=none∧E'.κ H.length g=none)
  (hos:w'.os=w.os) (htape:w'.tape=w.tape) (hout:w'.output=w.output) (hsz:w.heap.size≤w'.heap.size) :
  Sim E' (H++[B']) w'∧BH E H w E' (H++[B']) w':=by
 have hset:(H++[Blk.dead]).set H.length B'=H++[B']:=by simp
 have:=h.dead.upd (id:=H.length) (B:=.dead) (B':=B') (by simp) hle hb hφ hκ (fun b hb _=>heap b hb) (fun b hb _=>hI b hb) (fun b o v hv hc=>himm b o v hv (hc.resolve_right (by simp [Ck]))) (fun b hb=>.inr (hloc b hb)) hlate hos htape hout hsz
 rw [hset]at this
 exact ⟨this.1,(BH.dead E H w).trans this.2⟩
theorem Sim.ext {E:Env} {H:Aa} {w:World} (h:Sim E H w) {E':Env} {w':World} (hle:E.le E')
  (hφ:∀i g b,E'.φ i g=some b→E.φ i g=some b) (hκ:∀i g b,E'.κ i g=some b→E.κ i g=some b)
  (heap:∀b,b<w.heap.size→w'.heap[b]? = w.heap[b]?) (hI:∀b,b<w.heap.size→E'.I b=E.I b)
  (himm:∀b o v,E'.I b o=some v→w.heap.size≤b→w'.cell? ⟨b,o,none⟩=some v)
  (hos:w'.os=w.os) (htape:w'.tape=w.tape) (hout:w'.output=w.output) (hsz:w.heap.size≤w'.heap.size) :
  Sim E' H w'∧BH E H w E' H w':=by
 have keepB:∀i Bi,H[i]? = some Bi→FP E' w' i Bi∧∀b,Ck E' i Bi=some b↔Ck E i Bi=some b:=by
  intro i Bi hi
  have hBi:=h.blk i Bi hi
  exact hBi.keep hle (fun b hb=>heap b (hBi.lt hb)) (fun b hb=>hI b (hBi.lt hb))
 have locs:∀i b,loc E' H i=some b→loc E H i=some b:=by
  intro i b hl
  unfold loc at hl ⊢
  cases hH:H[i]? with
  | none=>simp [hH]at hl
  | some Bi=>rw [hH]at hl;simp only [Option.bind_some]at hl ⊢;exact ((keepB i Bi hH).2 b).1 hl
 constructor
 ·refine ⟨fun i Bi hi=>(keepB i Bi hi).1,fun i g b hg=>h.dom i g b (hφ i g b hg),fun i g b hg=>h.domk i g b (hκ i g b hg),fun i B n hi hn g hg=>?_,fun i i' b h1 h2=>h.inj i i' b (locs i b h1) (locs i' b h2),fun b o v hv=>?_,fun b cs hf=>?_⟩
  ·obtain ⟨h1,h2⟩:=h.late i B n hi hn g hg
   refine ⟨?_,?_⟩
   ·cases hx:E'.φ i g with
    | none=>rfl
    | some b=>have:=hφ i g b hx;rw [h1]at this;cases this
   ·cases hx:E'.κ i g with
    | none=>rfl
    | some b=>have:=hκ i g b hx;rw [h2]at this;cases this
  ·rcases VH b w.heap.size with h1 | h1
   ·rw [hI b h1]at hv
    rw [World.cell?_of_block (w:=w) (heap b h1)]
    exact h.imm b o v hv
   ·exact himm b o v hv h1
  ·obtain ⟨⟨t,fr,h1⟩,⟨v,hv⟩,h2⟩:=h.fix b cs hf
   exact ⟨⟨t,fr,by rw [heap b (VK.1 h1).1];exact h1⟩,⟨v,hle.I _ _ _ hv⟩,fun i hi=>h2 i (locs i b hi)⟩
 ·exact ⟨hle,hos,htape,hout,hsz,fun b hb _=>heap b hb,fun b ⟨i,hi⟩=>.inl ⟨i,locs i b hi⟩,fun b o hb _=>by rw [hI b hb]⟩
theorem Sim.drew {E:Env} {H:Aa} {w:World} (h:Sim E H w) (n:Nat):Sim E H { w with drawn:=n }∧BH E H w E H { w with drawn:=n }:=
 h.ext (.refl E) (fun _ _ _ h=>h) (fun _ _ _ h=>h) (fun _ _=>rfl) (fun _ _=>rfl) (fun b o v hv hb=>by have:=h.imm_lt hv;omega) rfl rfl rfl (Va _)

def Env.setφ (E:Env) (id g b:Nat):Env:={ E with φ:=fun i j=>if i=id∧j=g then some b else E.φ i j }
def Env.setI (E:Env) (b:Nat) (f:Nat→Option Value):Env:={ E with I:=fun i o=>if i=b then f o else E.I i o }

theorem Ax.of_toList (E:Env) (s:ByteArray):Ax E (.str s.data.toList) (.string s):=by
 have:(⟨s.data.toList.toArray⟩:ByteArray)=s:=by cases s;simp
 have h:=Ax.str (E:=E) s.data.toList
 rwa [this]at h
theorem Tf (E:Env) (v:Value):Ax E (Lp v) v:=by
 cases v with
 | bool b=>exact .bool b
 | int k n=>exact .int k n
 | string s=>exact .of_toList E s
 | pointer a=>cases a with | none=>exact .nilp | some a=>exact .undef _
 | slice a l c=>
  cases a with
  | some a=>exact .undef _
  | none=>
   cases l with
   | succ l=>exact .undef _
   | zero=>
    cases c with
    | succ c=>exact .undef _
    | zero=>exact .sl0 rfl (fun _=>rfl)
 | map r=>cases r with | none=>exact .nilmap | some r=>exact .undef _
 | func fn first captured=>
  cases fn with
  | func f=>
   simp only [Lp]
   split
   ·rename_i h
    obtain ⟨h1,h2⟩:=h
    obtain rfl:first = #[]:=by simpa using h1
    obtain rfl:captured = #[]:=by simpa using h2
    exact .fn rfl fun i c v h=>by simp at h
   ·exact .undef _
  | _=>exact .undef _
 | nilFunc=>exact .nilfn
 | nilIface=>exact .nilif
 | _=>exact .undef _
theorem absV_rel (E:Env) (v:Value):Ax E (absV v) v:=by
 have key:∀vs:Array Value,A4 E (vs.toList.map Lp) vs.toList:=fun vs=>by
  have:=A4.map (E:=E) vs.toList Lp id (fun x _=>Tf E x)
  simpa using this
 cases v with
 | agg cs=>exact .agg_of (key cs)
 | tuple cs=>exact .tup_of (key cs)
 | _=>(simp only [absV];exact Tf E _)

theorem Ax.bool_inv {E:Env} {b:Bool} {v:Value} (h:Ax E (.bool b) v):v=.bool b:=by cases h;rfl
theorem Ax.int_inv {E:Env} {k:IntKind} {n:Int} {v:Value} (h:Ax E (.int k n) v):v=.int k n:=by cases h;rfl
theorem Ax.str_inv {E:Env} {s:List UInt8} {v:Value} (h:Ax E (.str s) v):v=.string ⟨s.toArray⟩:=by cases h;rfl

def B1 (E:Env) (P:Program) (w:World) (s:Sem Value) (x:Ab):Prop:=∃v,s.run P w=.ok v w∧Ax E x v

section
variable {E:Env} {P:Program} {w:World}
theorem bits_ok {op:BinOp} {k:IntKind} {x y:Int} {z:Ab} (h:HS op k x y=some z):B1 E P w (Op.intBits op k x y) z:=by
 cases op <;> simp only [HS,reduceCtorEq]at h <;> (injection h with h;subst h;exact ⟨_,rfl,.int _ _⟩)
theorem int_ok {op:BinOp} {t:TypeId} {k:IntKind} {x y:Int} {z:Ab} (h:Fp op k x y=some z) (hs:Dh op=false):B1 E P w (binOp op t (.int k x) (.int k y)) z:=by
 cases op <;> simp only [Fp,Dh,reduceCtorEq,XX]at h hs
 case add=>injection h with h;subst h;exact ⟨_,by simp [binOp,Op.intArith],.int _ _⟩
 case sub=>injection h with h;subst h;exact ⟨_,by simp [binOp,Op.intArith],.int _ _⟩
 case mul=>injection h with h;subst h;exact ⟨_,by simp [binOp,Op.intArith],.int _ _⟩
 case quo=>
  split at h
  ·cases h
  ·rename_i hy;injection h with h;subst h;exact ⟨_,by simp [binOp,Op.intDiv,hy],.int _ _⟩
 case rem=>
  split at h
  ·cases h
  ·rename_i hy;injection h with h;subst h;exact ⟨_,by simp [binOp,Op.intDiv,hy],.int _ _⟩
 all_goals first
  | (injection h with h;subst h;exact ⟨_,by simp [binOp,Op.intCmp],.bool _⟩)
  | (obtain ⟨v,h1,h2⟩:=bits_ok (E:=E) (P:=P) (w:=w) h;exact ⟨v,by simpa [binOp]using h1,h2⟩)
theorem shift_ok {op:BinOp} {t:TypeId} {k k':IntKind} {x y:Int} {z:Ab} (h:Hb op k x y=some z) (hs:Dh op=true):B1 E P w (binOp op t (.int k x) (.int k' y)) z:=by
 have hy:¬y<0:=fun hy=>by simp [Hb,hy]at h
 cases op <;> simp only [Dh,Vd]at hs <;> simp only [Hb,if_neg hy,Ve]at h <;> subst h
 ·exact ⟨_,by simp [binOp,Op.shift,hy],.int _ _⟩
 ·exact ⟨_,by simp [binOp,Op.shift,hy],.int _ _⟩
theorem toList_mk (s:List UInt8):(⟨s.toArray⟩:ByteArray).toList=s:=by
 rw [ByteArray.toList_eq]
theorem str_ok {op:BinOp} {t:TypeId} {x y:List UInt8} {z:Ab} (h:strBin op x y=some z):B1 E P w (binOp op t (.string ⟨x.toArray⟩) (.string ⟨y.toArray⟩)) z:=by
 have happ:(⟨x.toArray⟩++⟨y.toArray⟩:ByteArray)=⟨(x++y).toArray⟩:=by
  apply ByteArray.ext;simp
 cases op <;> simp only [strBin,reduceCtorEq]at h
 case add=>
  split at h
  ·rename_i hle
   injection h with h;subst h
   refine ⟨.string ⟨(x++y).toArray⟩,?_,.str _⟩
   have hsz:¬((((⟨x.toArray⟩:ByteArray).size+(⟨y.toArray⟩:ByteArray).size:Nat):Int)>IntKind.i64.max):=by
    have h1:(⟨x.toArray⟩:ByteArray).size=x.length:=by simp [ByteArray.size]
    have h2:(⟨y.toArray⟩:ByteArray).size=y.length:=by simp [ByteArray.size]
    have h3:IntKind.i64.max=9223372036854775807:=by decide
    rw [h1,h2,h3];omega
   simp only [binOp,Op.stringOp,if_neg hsz,happ]
   rfl
  ·cases h
 all_goals (injection h with h;subst h;exact ⟨_,by simp only [binOp,Op.stringOp,toList_mk];rfl,.bool _⟩)

end
structure EqOk (C:Cfg):Prop where
 guard:∀t,C.eq t=true→C.P.eqGuardType C.P.depth t=false
 eqv:∀t,C.eq t=true→∀(E:Env) (vas bs:List Ab) (vs us:Array Value) (b:Bool) (w:World),A4 E vas vs.toList→A4 E bs us.toList→vas.length=Aq C.P t→BJ vas bs=some b→(Op.equal t (.agg vs) (.agg us)).run C.P w=.ok b w

def ROk (E:Env) (H:Aa) (P:Program) (w:World) (s:Sem Next) (x:Ab):Prop:=
 ∃v w' E',s.run P w=.ok (.value v) w'∧Ax E' x v∧Sim E' H w'∧BH E H w E' H w'
section
variable {C:Cfg} {E:Env} {H:Aa} {w:World}
theorem Ci {P:Program} (op:BinOp) (t:TypeId) (x y:Operand) (a b:Value) (h1:∀c d,¬(a=.agg c∧b=.agg d)) (h2:¬(a=.nilIface∧b=.nilIface)):(eqGuard op t x y a b).run P w=.ok () w:=by
 unfold eqGuard
 repeat' split
 all_goals first
  | rfl
  | exact absurd ⟨rfl,rfl⟩ h2
  | exact absurd ⟨rfl,rfl⟩ (h1 _ _)
  | simp
  | trivial
theorem equal_bool {P:Program} {t:TypeId} (hu:P.underlying t=some .bool) (a b:Bool) (w:World):∀d,(Op.equalIn (d+1) t (.bool a) (.bool b)).run P w=.ok (a == b) w:=by
 intro d;simp [Op.equalIn,run_underlying hu]
theorem equal_nilnil {P:Program} {t e:TypeId} (hu:P.underlying t=some (.pointer e)) (w:World):∀d,(Op.equalIn (d+1) t (.pointer none) (.pointer none)).run P w=.ok true w:=by
 intro d;simp [Op.equalIn,run_underlying hu]
theorem O5 {P:Program} {t e:TypeId} (hu:P.underlying t=some (.pointer e)) (a:Addr) (w:World):∀d,(Op.equalIn (d+1) t (.pointer none) (.pointer (some a))).run P w=.ok false w:=by
 intro d;simp [Op.equalIn,run_underlying hu]
theorem O4 {P:Program} {t e:TypeId} (hu:P.underlying t=some (.pointer e)) (a:Addr) (w:World):∀d,(Op.equalIn (d+1) t (.pointer (some a)) (.pointer none)).run P w=.ok false w:=by
 intro d;simp [Op.equalIn,run_underlying hu]
theorem equal_same {P:Program} {t e:TypeId} {j:TypeInfo} (hu:P.underlying t=some (.pointer e)) (hj:P.info? e=some j) (a:Addr) (w:World):∀d,(Op.equalIn (d+1) t (.pointer (some a)) (.pointer (some a))).run P w=.ok true w:=by
 intro d;simp [Op.equalIn,run_underlying hu,sizeOf,typeInfo,hj,run_sameAddr_same]
theorem equal_nilif {P:Program} {t:TypeId} {e} (hu:P.underlying t=some (.interface e)) (t':TypeId) (v:Value) (w:World):∀d,(Op.equalIn (d+1) t .nilIface (.iface t' v)).run P w=.ok false w:=by
 intro d;simp [Op.equalIn,run_underlying hu]
theorem equal_ifnil {P:Program} {t:TypeId} {e} (hu:P.underlying t=some (.interface e)) (t':TypeId) (v:Value) (w:World):∀d,(Op.equalIn (d+1) t (.iface t' v) .nilIface).run P w=.ok false w:=by
 intro d;simp [Op.equalIn,run_underlying hu]
theorem Ax.nilp_inv {E:Env} {v:Value} (h:Ax E .nilp v):v=.pointer none:=by cases h;rfl
theorem Ax.ptr_inv {E:Env} {id g o:Nat} {v:Value} (h:Ax E (.ptr id g o) v):∃b,E.φ id g=some b∧v=.pointer (some ⟨b,o,none⟩):=by cases h with | ptr h=>exact ⟨_,h,rfl⟩
theorem Ax.cptr_inv {E:Env} {cs:List Ab} {o:Nat} {v:Value} (h:Ax E (.cptr cs o) v):∃b o',v=.pointer (some ⟨b,o'+o,none⟩):=by cases h with | cptr f _ _ _=>exact ⟨_,_,rfl⟩
theorem Ax.nilif_inv {E:Env} {v:Value} (h:Ax E .nilif v):v=.nilIface:=by cases h;rfl
theorem Ax.iface_inv {E:Env} {t:TypeId} {x:Ab} {v:Value} (h:Ax E (.iface t x) v):∃u,v=.iface t u∧Ax E x u:=by cases h with | iface h=>exact ⟨_,rfl,h⟩
theorem eqKind_bool {t:TypeId} (h:GO C t=.bool):C.P.underlying t=some .bool:=by
 unfold GO at h
 split at h
 ·cases h
 ·split at h <;> first | assumption | cases h | (split at h <;> cases h)
theorem GN {t:TypeId} (h:GO C t=.ptr):∃e j,C.P.underlying t=some (.pointer e)∧C.P.info? e=some j:=by
 unfold GO at h
 split at h
 ·cases h
 ·split at h
  ·cases h
  ·rename_i e hu
   split at h
   ·rename_i hj
    obtain ⟨j,hj⟩:=Option.isSome_iff_exists.1 hj
    exact ⟨e,j,hu,hj⟩
   ·cases h
  ·cases h
  ·cases h
theorem O6 {t:TypeId} (h:GO C t=.iface):∃e,C.P.underlying t=some (.interface e):=by
 unfold GO at h
 split at h
 ·cases h
 ·split at h <;> first | exact ⟨_,by assumption⟩ | cases h | (split at h <;> cases h)
theorem eqKind_flat {t:TypeId} {n:Nat} (h:GO C t=.flat n):C.eq t=true∧n=Aq C.P t:=by
 unfold GO at h
 split at h
 ·exact ⟨by assumption,by cases h;rfl⟩
 ·split at h <;> first | cases h | (split at h <;> cases h)
theorem nil_sl {E:Env} {es:List (List Ab)} {tk:Tok} {v:Value} (h:Ax E (.sl es tk) v):∃a l c,v=.slice a l c∧(es≠[]→a≠none):=by
 cases h with
 | sl0 ht ha=>exact ⟨_,_,_,rfl,fun h=>absurd rfl h⟩
 | sl f hl hI hm hv hc ht=>exact ⟨_,_,_,rfl,fun _ h=>by cases h⟩
theorem nil_ms {E:Env} {id g off len cap sz:Nat} {ex:Bool} {v:Value} (h:Ax E (.ms id g off len cap sz ex) v):∃a l c,v=.slice a l c∧a≠none:=by
 cases h with
 | ms=>exact ⟨_,_,_,rfl,fun h=>by cases h⟩
theorem S3 {P:Program} {w:World} {t e:TypeId} (hu:P.underlying t=some (.slice e)) (a:Option Addr) (l c:Nat):∀d,(Op.equalIn (d+1) t (.slice a l c) (.slice none 0 0)).run P w=.ok a.isNone w:=by
 intro d;cases a <;> simp [Op.equalIn,run_underlying hu]
theorem nil_ok {op:BinOp} {t:TypeId} {x y:Operand} {a:Ab} {u:Value} {z:Ab} (ht:nilT C t y=true) (ha:Ax E a u) (h:Q8 op a=some z) :
  B1 E C.P w (do eqGuard op t x y u (.slice none 0 0);binOp op t u (.slice none 0 0)) z:=by
 obtain ⟨e,hu⟩:∃e,C.P.underlying t=some (.slice e):=by
  unfold nilT at ht
  simp only [Vh]at ht
  have:=ht.2
  split at this
  ·exact ⟨_,by assumption⟩
  ·cases this
 have key:∀ad l c,u=.slice ad l c→(op=.eql∨op=.neq)→(do eqGuard op t x y u (.slice none 0 0);binOp op t u (.slice none 0 0):Sem Value).run C.P w=.ok (.bool (if op=.eql then ad.isNone else !ad.isNone)) w:=by
  intro ad l c hul hop
  subst hul
  rw [Sem.run_bind,Ci op t x y _ _ (by simp) (by simp)]
  show (binOp op t _ _).run C.P w=_
  rcases hop with rfl | rfl
  ·show (do pure (.bool (←Op.equal t (.slice ad l c) (.slice none 0 0))):Sem Value).run C.P w=_
   simp [Sem.run_bind,Op.equal,Op.maxDepth,S3 hu ad l c 9999,Result.andThen]
  ·show (do pure (.bool (!(←Op.equal t (.slice ad l c) (.slice none 0 0)))):Sem Value).run C.P w=_
   simp [Sem.run_bind,Op.equal,Op.maxDepth,S3 hu ad l c 9999,Result.andThen]
 unfold Q8 at h
 split at h
 ·injection h with h;subst h
  obtain ⟨ad,l,c,hv,_⟩:=nil_sl ha
  exact ⟨_,key ad l c hv (.inl rfl),.ubool _⟩
 ·injection h with h;subst h
  obtain ⟨ad,l,c,hv,_⟩:=nil_sl ha
  exact ⟨_,key ad l c hv (.inr rfl),.ubool _⟩
 ·injection h with h;subst h
  obtain ⟨ad,l,c,hv,hn⟩:=nil_sl ha
  have:=key ad l c hv (.inl rfl)
  cases ad with
  | none=>exact absurd rfl (hn (by simp))
  | some ad=>exact ⟨_,this,.bool _⟩
 ·injection h with h;subst h
  obtain ⟨ad,l,c,hv,hn⟩:=nil_sl ha
  have:=key ad l c hv (.inr rfl)
  cases ad with
  | none=>exact absurd rfl (hn (by simp))
  | some ad=>exact ⟨_,this,.bool _⟩
 ·injection h with h;subst h
  obtain ⟨ad,l,c,hv,hn⟩:=nil_ms ha
  have:=key ad l c hv (.inl rfl)
  cases ad with
  | none=>exact absurd rfl hn
  | some ad=>exact ⟨_,this,.bool _⟩
 ·injection h with h;subst h
  obtain ⟨ad,l,c,hv,hn⟩:=nil_ms ha
  have:=key ad l c hv (.inr rfl)
  cases ad with
  | none=>exact absurd rfl hn
  | some ad=>exact ⟨_,this,.bool _⟩
 ·cases h
theorem bin_ok (hC:EqOk C) {op:BinOp} {t:TypeId} {x y:Operand} {a b:Ab} {u v:Value} {z:Ab} (hs:Sim E H w) (ha:Ax E a u) (hb:Ax E b v) (h:Ae (GO C t) op a b=some z) :
  B1 E C.P w (do eqGuard op t x y u v;binOp op t u v) z:=by
 have plain:∀ {z},(∀c d,¬(u=.agg c∧v=.agg d))→¬(u=.nilIface∧v=.nilIface)→B1 E C.P w (binOp op t u v) z→B1 E C.P w (do eqGuard op t x y u v;binOp op t u v) z:=by
  intro z h1 h2 ⟨r,h3,h4⟩
  refine ⟨r,?_,h4⟩
  rw [Sem.run_bind,Ci op t x y u v h1 h2]
  exact h3
 unfold Ae at h
 split at h
 ·rename_i k n k' n'
  rw [ha.int_inv,hb.int_inv]at plain ⊢
  refine plain (by simp) (by simp) ?_
  split at h
  ·rename_i hsh;exact shift_ok h hsh
  ·rename_i hsh
   split at h
   ·rename_i hk;subst hk;exact int_ok h (by simpa using hsh)
   ·cases h
 ·rw [ha.str_inv,hb.str_inv]at plain ⊢
  exact plain (by simp) (by simp) (str_ok h)
 ·rename_i h1 h2
  have key:∀bb,eqA (GO C t) a b=some bb→(op=.eql∨op=.neq)→(do eqGuard op t x y u v;binOp op t u v:Sem Value).run C.P w=.ok (.bool (if op=.eql then bb else !bb)) w:=by
   intro bb he hop
   have eqrun:∀(r:Bool),(eqGuard op t x y u v).run C.P w=.ok () w→(Op.equal t u v).run C.P w=.ok r w→(∀k n,u≠.int k n)→(∀s,u≠.string s)→(∀k n,u≠.float k n)→(∀k n m,u≠.complex k n m) → 
     (do eqGuard op t x y u v;binOp op t u v:Sem Value).run C.P w=.ok (.bool (if op=.eql then r else !r)) w:=by
    intro r h3 h4 n1 n2 n3 n4
    rw [Sem.run_bind,h3]
    show (binOp op t u v).run C.P w=_
    rcases hop with rfl | rfl
    ·have:binOp .eql t u v=(do pure (.bool (←Op.equal t u v))):=by
      cases u <;> first | rfl | exact absurd rfl (n1 _ _) | exact absurd rfl (n2 _) | exact absurd rfl (n3 _ _) | exact absurd rfl (n4 _ _ _)
     rw [this];simp [Sem.run_bind,h4,Result.andThen]
    ·have:binOp .neq t u v=(do pure (.bool (!(←Op.equal t u v)))):=by
      cases u <;> first | rfl | exact absurd rfl (n1 _ _) | exact absurd rfl (n2 _) | exact absurd rfl (n3 _ _) | exact absurd rfl (n4 _ _ _)
     rw [this];simp [Sem.run_bind,h4,Result.andThen]
   unfold eqA at he
   split at he <;> first | cases he | skip
   ·rename_i hk
    have hu:=eqKind_bool hk
    rw [ha.bool_inv,hb.bool_inv]at eqrun ⊢
    refine eqrun _ (Ci op t x y _ _ (by simp) (by simp)) ?_ (by simp) (by simp) (by simp) (by simp)
    exact equal_bool hu _ _ _ 9999
   ·rename_i hk
    obtain ⟨e,j,hu,_⟩:=GN hk
    rw [ha.nilp_inv,hb.nilp_inv]at eqrun ⊢
    exact eqrun _ (Ci op t x y _ _ (by simp) (by simp)) (equal_nilnil hu _ 9999) (by simp) (by simp) (by simp) (by simp)
   ·rename_i hk
    obtain ⟨e,j,hu,_⟩:=GN hk
    obtain ⟨b',_,hb'⟩:=hb.ptr_inv
    rw [ha.nilp_inv,hb']at eqrun ⊢
    exact eqrun _ (Ci op t x y _ _ (by simp) (by simp)) (O5 hu _ _ 9999) (by simp) (by simp) (by simp) (by simp)
   ·rename_i hk
    obtain ⟨e,j,hu,_⟩:=GN hk
    obtain ⟨b',_,hb'⟩:=ha.ptr_inv
    rw [hb.nilp_inv,hb']at eqrun ⊢
    exact eqrun _ (Ci op t x y _ _ (by simp) (by simp)) (O4 hu _ _ 9999) (by simp) (by simp) (by simp) (by simp)
   ·rename_i hk
    obtain ⟨e,j,hu,_⟩:=GN hk
    obtain ⟨b',_,hb'⟩:=hb.cptr_inv
    rw [ha.nilp_inv,hb']at eqrun ⊢
    exact eqrun _ (Ci op t x y _ _ (by simp) (by simp)) (O5 hu _ _ 9999) (by simp) (by simp) (by simp) (by simp)
   ·rename_i hk
    obtain ⟨e,j,hu,_⟩:=GN hk
    obtain ⟨b',_,hb'⟩:=ha.cptr_inv
    rw [hb.nilp_inv,hb']at eqrun ⊢
    exact eqrun _ (Ci op t x y _ _ (by simp) (by simp)) (O4 hu _ _ 9999) (by simp) (by simp) (by simp) (by simp)
   ·rename_i id g o id' g' o' hk
    obtain ⟨e,j,hu,hj⟩:=GN hk
    obtain ⟨⟨rfl,rfl,rfl⟩,rfl⟩:(id=id'∧g=g'∧o=o')∧bb=true:=by split at he <;> first | exact ⟨by assumption,by cases he;rfl⟩ | cases he
    obtain ⟨b1,q1,hb1⟩:=ha.ptr_inv
    obtain ⟨b2,q2,hb2⟩:=hb.ptr_inv
    rw [q1]at q2;cases q2
    rw [hb1,hb2]at eqrun ⊢
    exact eqrun _ (Ci op t x y _ _ (by simp) (by simp)) (equal_same hu hj _ _ 9999) (by simp) (by simp) (by simp) (by simp)
   ·rename_i hk
    obtain ⟨e,hu⟩:=O6 hk
    obtain ⟨b',hb',_⟩:=hb.iface_inv
    rw [ha.nilif_inv,hb']at eqrun ⊢
    exact eqrun _ (Ci op t x y _ _ (by simp) (by simp)) (equal_nilif hu _ _ _ 9999) (by simp) (by simp) (by simp) (by simp)
   ·rename_i hk
    obtain ⟨e,hu⟩:=O6 hk
    obtain ⟨b',hb',_⟩:=ha.iface_inv
    rw [hb.nilif_inv,hb']at eqrun ⊢
    exact eqrun _ (Ci op t x y _ _ (by simp) (by simp)) (equal_ifnil hu _ _ _ 9999) (by simp) (by simp) (by simp) (by simp)
   ·rename_i n vas bs hk
    obtain ⟨hf,hn⟩:=eqKind_flat hk
    obtain ⟨he0,he⟩:vas.length=n∧BJ vas bs=some bb:=by split at he <;> first | exact ⟨by assumption,he⟩ | cases he
    obtain ⟨vs,hv,hvs⟩:=ha.agg_cells
    obtain ⟨us,hu,hus⟩:=hb.agg_cells
    rw [hv,hu]at eqrun ⊢
    refine eqrun _ ?_ (hC.eqv t hf E _ _ vs us bb w hvs hus (by rw [he0,hn]) he) (by simp) (by simp) (by simp) (by simp)
    have hg:=hC.guard t hf
    rcases hop with rfl | rfl <;> simp [eqGuard,program,Sem.run_bind,Sem.run,Result.andThen,hg]
  cases op <;> simp only [reduceCtorEq]at h
  case eql=>
   cases he:eqA (GO C t) a b with
   | none=>simp [he]at h
   | some bb=>simp [he]at h;subst h;exact ⟨_,by simpa using key bb he (.inl rfl),.bool _⟩
  case neq=>
   cases he:eqA (GO C t) a b with
   | none=>simp [he]at h
   | some bb=>simp [he]at h;subst h;exact ⟨_,by simpa using key bb he (.inr rfl),.bool _⟩

end

theorem CX (b o n:Nat):(⟨b,o,none⟩:Addr).add n=⟨b,o+n,none⟩:=by unfold Addr.add;split <;> simp_all

theorem info_of_size {P:Program} {t:TypeId} (h:Aq P t≠0):∃i,P.info? t=some i∧i.size=Aq P t:=by
 unfold Aq at h ⊢
 cases hi:P.info? t with
 | none=>simp [hi]at h
 | some i=>exact ⟨i,rfl,by simp⟩
theorem Hg {P:Program} {t:TypeId} (h:Aq P t≠0) (w:World):(sizeOf t).run P w=.ok (Aq P t) w:=by
 obtain ⟨i,h1,h2⟩:=info_of_size h
 simp [sizeOf,typeInfo,h1,h2,program,Sem.run_bind,Sem.run,Result.andThen]
theorem FK {P:Program} {t:TypeId} {d:TypeDesc} (h:P.underlying t=some d):∃i,P.info? t=some i∧i.size=Aq P t:=by
 unfold Program.underlying at h
 unfold Aq
 cases hi:P.info? t with
 | none=>simp [hi]at h
 | some i=>exact ⟨i,rfl,by simp⟩
theorem CS {P:Program} {t:TypeId} {d:TypeDesc} (h:P.underlying t=some d) (w:World):(sizeOf t).run P w=.ok (Aq P t) w:=by
 obtain ⟨i,h1,h2⟩:=FK h
 simp [sizeOf,typeInfo,h1,h2,program,Sem.run_bind,Sem.run,Result.andThen]
theorem Pa {P:Program} {t:TypeId} {d:TypeDesc} (h:P.underlying t=some d) (w:World):(isAgg t).run P w=.ok (B6 P t) w:=by
 unfold isAgg B6
 rw [h]
 simp only [Sem.run_bind,run_underlying h,Result.andThen_ok]
 cases d <;> simp

def RowAt (w:World) (b o:Nat) (vs:List Value):Prop:=∀(j:Nat) (v:Value),vs[j]? = some v→w.cell? ⟨b,o+j,none⟩=some v
theorem OZ {P:Program} {t:TypeId} {d:TypeDesc} (hu:P.underlying t=some d) (w:World) (b o:Nat) (vs:List Value) (h:RowAt w b o vs) (hl:vs.length=Aq P t) (ha:B6 P t=true) :
  (loadVar t ⟨b,o,none⟩).run P w=.ok (.agg vs.toArray) w:=by
 have h1:(loadCells ⟨b,o,none⟩ vs.length).run P w=.ok vs.toArray w:=run_loadCells_list (P:=P) w ⟨b,o,none⟩ vs (fun j v hv=>by rw [CX];exact h j v hv)
 unfold loadVar
 simp only [Sem.run_bind,Pa hu,Result.andThen_ok,ha,if_true,CS hu,←hl,h1,Sem.run_pure]
theorem KQ {P:Program} {t:TypeId} {d:TypeDesc} (hu:P.underlying t=some d) (w:World) (a:Addr) (v:Value) (h:w.cell? a=some v) (ha:B6 P t=false):(loadVar t a).run P w=.ok v w:=by
 unfold loadVar
 simp only [Sem.run_bind,Pa hu,Result.andThen_ok,ha,Vd,if_false]
 simp [load,Sem.run,h]

section
variable {C:Cfg} {E:Env} {H:Aa} {w:World}
theorem Gp (hs:Sim E H w) {id g:Nat} {cs:List Ab} (h:A8 H id g=some cs) :
  (∃B,H[id]? = some B∧Ck E id B=E.φ id g∧(B=.cel g cs∨(∃e sz,B=.buf g cs e sz)∨∃t,g=0∧B=.typ t cs))∧∃b vs t,E.φ id g=some b∧w.heap[b]? = some (.cells vs t (0,0))∧A4 E cs (vs.toList.take cs.length)∧cs.length≤vs.size∧∀o,E.I b o=none:=by
 unfold A8 at h
 split at h
 ·rename_i g' cs' hH
  split at h
  ·rename_i hg
   subst hg
   injection h with h;subst h
   obtain ⟨b,vs,t,h1,h2,h3,h4⟩:=hs.blk id _ hH
   have hl:cs'.length=vs.size:=by simpa using h3.1
   exact ⟨⟨_,hH,rfl,.inl rfl⟩,b,vs,t,h1,h2,by rw [Vg (by simp [hl])];exact h3,by omega,h4⟩
  ·cases h
 ·rename_i g' cs' e sz hH
  split at h
  ·rename_i hg
   subst hg
   injection h with h;subst h
   obtain ⟨b,cap,vs,h1,h2,h3,h4,h5,h6,h7,h8⟩:=hs.blk id _ hH
   exact ⟨⟨_,hH,rfl,.inr (.inl ⟨e,sz,rfl⟩)⟩,b,vs,e,h1,h3,h7,h5,h8⟩
  ·cases h
 ·rename_i t cs' hH
  split at h
  ·rename_i hg
   subst hg
   injection h with h;subst h
   obtain ⟨b,vs,h1,h2,h3,h4⟩:=hs.blk id _ hH
   have hl:cs'.length=vs.size:=by simpa using h3.1
   exact ⟨⟨_,hH,rfl,.inr (.inr ⟨t,rfl,rfl⟩)⟩,b,vs,t,h1,h2,by rw [Vg (by simp [hl])];exact h3,by omega,h4⟩
  ·cases h
 ·cases h
theorem HZ {α:Type} {l:List α} {n i:Nat} {a:α} (h:(l.take n)[i]? = some a):l[i]? = some a:=by
 rw [X9]at h
 split at h
 ·exact h
 ·cases h
theorem Bj {b:Nat} {vs:Array Value} {t:TypeId} {fr:Nat×Nat} (h:w.heap[b]? = some (.cells vs t fr)) (o:Nat):w.cell? ⟨b,o,none⟩=vs[o]? := by
 unfold World.cell?;rw [h];rfl
theorem cells_at (hs:Sim E H w) {x:Ab} {v:Value} (hx:Ax E x v) {cs:List Ab} {o:Nat}
  (h:(∃id g,x=.ptr id g o∧A8 H id g=some cs)∨x=.cptr cs o) :
  ∃b o',v=.pointer (some ⟨b,o'+o,none⟩)∧∀(j:Nat) (c:Ab),cs[o+j]? = some c→∃u,w.cell? ⟨b,o'+o+j,none⟩=some u∧Ax E c u:=by
 rcases h with ⟨id,g,rfl,hc⟩ | rfl
 ·obtain ⟨_,b,vs,t,h1,h2,h3,_⟩:=Gp hs hc
  obtain ⟨b',h4,h5⟩:=hx.ptr_inv
  rw [h1]at h4;cases h4
  refine ⟨b,0,by simpa using h5,fun j c hj=>?_⟩
  obtain ⟨u,h6,h7⟩:=h3.get hj
  refine ⟨u,?_,h7⟩
  rw [Bj h2]
  have:=HZ h6
  simpa using this
 ·cases hx with
  | cptr f hI hm hv=>
   rename_i b o'
   refine ⟨b,o',rfl,fun j c hj=>⟨f (o+j),?_,hv _ _ hj⟩⟩
   have:=hs.imm b _ _ (hI (o+j) (UV.1 hj).1)
   rw [←VL]at this;exact this
theorem R5 {b o:Nat}:∀(cs:List Ab),(∀(j:Nat) (c:Ab),cs[j]? = some c→∃u,w.cell? ⟨b,o+j,none⟩=some u∧Ax E c u)→∃vs:List Value,vs.length=cs.length∧RowAt w b o vs∧A4 E cs vs
 | [],_=>⟨[],rfl,fun j v h=>by simp at h,.nil E⟩
 | c::cs,h=>by
  obtain ⟨u,h1,h2⟩:=h 0 c rfl
  obtain ⟨vs,h3,h4,h5⟩:=R5 (b:=b) (o:=o+1) cs (fun j c' hj=>by
   obtain ⟨u',h6,h7⟩:=h (j+1) c' (by simpa using hj)
   exact ⟨u',by rw [←h6];congr 2;omega,h7⟩)
  refine ⟨u::vs,by simp [h3],fun j v hj=>?_,.cons h2 h5⟩
  cases j with
  | zero=>simp at hj;subst hj;exact h1
  | succ j=>simp at hj;rw [←h4 j v hj];congr 2;omega
theorem load_ok {t:TypeId} {d:TypeDesc} (hu:C.P.underlying t=some d) (hs:Sim E H w) {x z:Ab} {v:Value} (hx:Ax E x v) (h:Ac (B6 C.P t) (Aq C.P t) x H=some z) :
  B1 E C.P w (Instr.loadAt t v) z:=by
 have key:∃cs o,((∃id g,x=.ptr id g o∧A8 H id g=some cs)∨x=.cptr cs o)∧(if B6 C.P t=true then (if o+Aq C.P t≤cs.length then some (Ab.agg ((cs.drop o).take (Aq C.P t)))else none)else cs[o]?)=some z:=by
  unfold Ac at h
  split at h
  ·rename_i id g o
   cases hc:A8 H id g with
   | none=>simp [hc]at h
   | some cs=>rw [hc]at h;exact ⟨cs,o,.inl ⟨id,g,rfl,hc⟩,h⟩
  ·rename_i cs o;exact ⟨cs,o,.inr rfl,h⟩
  ·cases h
 obtain ⟨cs,o,hk,hz⟩:=key
 obtain ⟨b,o',rfl,hcells⟩:=cells_at hs hx hk
 have hrun:∀r,(loadVar t ⟨b,o'+o,none⟩).run C.P w=r→(Instr.loadAt t (.pointer (some ⟨b,o'+o,none⟩))).run C.P w=r:=by
  intro r hr
  simp only [Instr.loadAt,Instr.sureAddr,Sem.run_bind,Sem.run_pure,Result.andThen_ok,hr]
 split at hz
 ·rename_i ha
  split at hz
  ·rename_i hle
   injection hz with hz;subst hz
   obtain ⟨vs,h1,h2,h3⟩:=R5 (E:=E) (w:=w) (b:=b) (o:=o'+o) ((cs.drop o).take (Aq C.P t)) (fun j c hj=>by
    rw [X9]at hj
    split at hj
    ·rw [VB]at hj;exact hcells j c hj
    ·cases hj)
   refine ⟨_,hrun _ (OZ hu w b _ vs h2 ?_ ha),.agg_of (by simpa using h3)⟩
   rw [h1,Vm,Vx];omega
  ·cases hz
 ·rename_i ha
  obtain ⟨u,h1,h2⟩:=hcells 0 z (by simpa using hz)
  exact ⟨u,hrun _ (KQ hu w _ u (by simpa using h1) (by simpa using ha)),h2⟩

end
section
variable {C:Cfg} {E:Env} {H:Aa} {w:World}
theorem cond_ok {a b c z:Ab} {u v x:Value} (hc:Ax E c x) (ha:Ax E a u) (hb:Ax E b v) (h:AI c a b=some z):B1 E C.P w (do pure (if ← asBool x then u else v)) z:=by
 unfold AI at h
 split at h
 ·rename_i t
  injection h with h;subst h
  rw [hc.bool_inv]
  cases t
  ·exact ⟨v,by simp [asBool],hb⟩
  ·exact ⟨u,by simp [asBool],ha⟩
 ·cases h
theorem un_ok {op:UnOp} {a z:Ab} {u:Value} (ha:Ax E a u) (h:unA op a=some z):B1 E C.P w (Op.unary op u) z:=by
 unfold unA at h
 split at h
 ·injection h with h;subst h;rw [ha.int_inv];exact ⟨_,by simp [Op.unary,Op.intArith],.int _ _⟩
 ·rw [ha.int_inv]
  obtain ⟨v,h1,h2⟩:=bits_ok (E:=E) (P:=C.P) (w:=w) h
  exact ⟨v,by simpa [Op.unary]using h1,h2⟩
 ·injection h with h;subst h;rw [ha.bool_inv];exact ⟨_,by simp [Op.unary],.bool _⟩
 ·cases h
theorem extract_ok {i:Nat} {a z:Ab} {u:Value} (ha:Ax E a u) (h:Av i a=some z):B1 E C.P w (Instr.extract u i) z:=by
 unfold Av at h
 split at h
 ·obtain ⟨vs,rfl,hv⟩:=ha.tup_cells
  obtain ⟨v,h1,h2⟩:=hv.get h
  have h1':vs[i]? = some v:=by simpa using h1
  exact ⟨v,by simp [Instr.extract,h1'],h2⟩
 ·cases h
theorem fieldAddr_ok {s f:Nat} {fs:Array Field} {fd:Field} {a z:Ab} {u:Value} (hu:C.P.underlying s=some (.struct fs)) (hf:fs[f]? = some fd) (hz:Aq C.P fd.type≠0) (ha:Ax E a u) (h:Ad fd.offset a=some z) :
  B1 E C.P w (Instr.fieldAt s u f) z:=by
 have run:∀b o,(Instr.fieldAt s (.pointer (some ⟨b,o,none⟩)) f).run C.P w=.ok (.pointer (some ⟨b,o+fd.offset,none⟩)) w:=by
  intro b o
  simp [Instr.fieldAt,Sem.run_bind,run_underlying hu,Result.andThen_ok,hf,Instr.sureAddr,fieldPlace,Hg hz,hz,CX]
 unfold Ad at h
 split at h
 ·injection h with h;subst h
  obtain ⟨b,h1,rfl⟩:=ha.ptr_inv
  exact ⟨_,run b _,.ptr h1⟩
 ·injection h with h;subst h
  cases ha with
  | cptr f' hI hm hv=>exact ⟨_,by rw [run,VL],.cptr f' hI hm hv⟩
 ·cases h
theorem part_ok {t:TypeId} {d:TypeDesc} (hu:C.P.underlying t=some d) {off:Nat} {cs:List Ab} {vs:Array Value} {z:Ab} (hv:A4 E cs vs.toList) (h:partA (B6 C.P t) off (Aq C.P t) cs=some z):B1 E C.P w (part t vs off) z:=by
 unfold partA at h
 unfold B1 part
 simp only [Sem.run_bind,Pa hu,Result.andThen_ok]
 split at h
 ·rename_i ha
  injection h with h;subst h
  simp only [ha,if_true,Sem.run_bind,CS hu,Result.andThen_ok,Sem.run_pure]
  refine ⟨_,rfl,.agg_of ?_⟩
  have:=(hv.drop off).take (Aq C.P t)
  have e:(vs.extract off (off+Aq C.P t)).toList=(vs.toList.drop off).take (Aq C.P t):=by
   rw [Xx,List.extract_eq_take_drop];congr 1;omega
  rw [e];exact this
 ·rename_i ha
  obtain ⟨v,h1,h2⟩:=hv.get h
  have h1':vs[off]? = some v:=by simpa using h1
  simp only [ha,Vd,if_false,h1',Sem.run_pure]
  exact ⟨v,rfl,h2⟩
theorem field_ok {s f:Nat} {fs:Array Field} {fd:Field} {d:TypeDesc} {a z:Ab} {u:Value} (hu:C.P.underlying s=some (.struct fs)) (hf:fs[f]? = some fd) (hd:C.P.underlying fd.type=some d) (ha:Ax E a u) (h:PC (B6 C.P fd.type) fd.offset (Aq C.P fd.type) a=some z) :
  B1 E C.P w (Instr.field s u f) z:=by
 unfold PC at h
 split at h
 ·obtain ⟨vs,rfl,hv⟩:=ha.agg_cells
  obtain ⟨v,h1,h2⟩:=part_ok (w:=w) hd hv h
  exact ⟨v,by simp [Instr.field,Sem.run_bind,run_underlying hu,Result.andThen_ok,hf,asAgg,h1],h2⟩
 ·cases h
theorem nilCheck_ok {op:Oper} {x:Operand} {a z:Ab} {ρ:Operand→Value} (ho:op.op=.nilCheck x) (ha:Ax E a (ρ x)) (h:As a=some z):∃v,(execOp ρ op).run C.P w=.ok (.value v) w∧Ax E z v:=by
 unfold As at h
 split at h
 ·injection h with h;subst h
  obtain ⟨b,h1,h2⟩:=ha.ptr_inv
  exact ⟨ρ x,by simp only [execOp,ho,h2];rfl,ha⟩
 ·injection h with h;subst h
  obtain ⟨b,o,h2⟩:=ha.cptr_inv
  exact ⟨ρ x,by simp only [execOp,ho,h2];rfl,ha⟩
 ·injection h with h;subst h
  obtain ⟨b,h2,_⟩:=ha.iface_inv
  exact ⟨ρ x,by simp only [execOp,ho,h2];rfl,ha⟩
 ·cases h
theorem iface_ok {t:TypeId} {d:TypeDesc} {a z:Ab} {u:Value} (hu:C.P.underlying t=some d) (hd:∀m,d≠.interface m) (ha:Ax E a u) (h:Sm t a=some z):B1 E C.P w (Instr.makeInterface t u) z:=by
 injection h with h;subst h
 refine ⟨.iface t u,?_,.iface ha⟩
 unfold Instr.makeInterface
 simp only [Sem.run_bind,run_underlying hu,Result.andThen_ok]
 cases d <;> first | rfl | exact absurd rfl (hd _)
theorem assert_ok {t xt:TypeId} {d:TypeDesc} {ok:Bool} {a z:Ab} {u:Value} (hu:C.P.underlying t=some d) (hd:∀m,d≠.interface m) (ha:Ax E a u) (h:assertA t ok a=some z):B1 E C.P w (Instr.typeAssert u xt t ok) z:=by
 unfold assertA at h
 split at h
 ·rename_i t' x
  split at h
  ·rename_i ht
   subst ht
   obtain ⟨v,rfl,hv⟩:=ha.iface_inv
   have key:(Instr.typeAssert (.iface t' v) xt t' ok).run C.P w=.ok (if ok then .tuple #[v,.bool true]else v) w:=by
    unfold Instr.typeAssert
    simp only [Sem.run_bind,run_underlying hu,Result.andThen_ok]
    cases d <;> first | (simp;done) | exact absurd rfl (hd _)
   injection h with h;subst h
   cases ok
   ·exact ⟨_,key,hv⟩
   ·exact ⟨_,key,.tup_of (A4.cons hv (A4.cons (.bool true) (.nil E)))⟩
  ·cases h
 ·cases h
theorem max2_ok {a b z:Ab} {u v:Value} (ha:Ax E a u) (hb:Ax E b v) (h:J3 a b=some z):B1 E C.P w (Builtin.max2 u v) z:=by
 unfold J3 at h
 split at h
 ·injection h with h;subst h;rw [ha.int_inv,hb.int_inv];exact ⟨_,by simp [Builtin.max2],.int _ _⟩
 ·cases h
theorem min2_ok {a b z:Ab} {u v:Value} (ha:Ax E a u) (hb:Ax E b v) (h:RU a b=some z):B1 E C.P w (Builtin.min2 u v) z:=by
 unfold RU at h
 split at h
 ·injection h with h;subst h;rw [ha.int_inv,hb.int_inv];exact ⟨_,by simp [Builtin.min2],.int _ _⟩
 ·cases h
theorem fold_ok {f:Ab→Ab→Option Ab} {g:Value→Value→Sem Value} (hfg:∀ {a b z:Ab} {u v:Value},Ax E a u→Ax E b v→f a b=some z→B1 E C.P w (g u v) z) :
  ∀(xs:List Ab) (vs:List Value) (a z:Ab) (u:Value),Ax E a u→A4 E xs vs→Hm f a xs=some z→B1 E C.P w (vs.foldlM g u) z
 | [],[],a,z,u,ha,_,h=>by simp [Hm]at h;subst h;exact ⟨u,by simp,ha⟩
 | [],_::_,a,z,u,ha,hv,h=>by have:=hv.1;simp at this
 | _::_,[],a,z,u,ha,hv,h=>by have:=hv.1;simp at this
 | x::xs,v::vs,a,z,u,ha,hv,h=>by
  simp only [Hm]at h
  cases hx:f a x with
  | none=>simp [hx]at h
  | some y=>
   rw [hx]at h
   obtain ⟨r,h1,h2⟩:=hfg ha hv.head hx
   obtain ⟨r',h3,h4⟩:=fold_ok hfg xs vs y z r h2 hv.tail h
   exact ⟨r',by simp [Sem.run_bind,h1,Result.andThen_ok,h3],h4⟩

end
section
variable {C:Cfg} {E:Env} {H:Aa} {w:World}
theorem JX (s:List UInt8):(⟨s.toArray⟩:ByteArray).size=s.length:=by simp [ByteArray.size]
theorem idxStr_ok {t:TypeId} {a i z:Ab} {u v:Value} (hu:C.P.underlying t=some .string) (ha:Ax E a u) (hi:Ax E i v) (h:Ez a i=some z):B1 E C.P w (Instr.index t u v) z:=by
 unfold Ez at h
 split at h
 ·rename_i s k n
  rw [ha.str_inv,hi.int_inv]
  split at h
  ·rename_i hn
   cases hg:s[n.toNat]? with
   | none=>simp [hg]at h
   | some b=>
    simp only [hg,Option.map_some,Ve]at h
    subst h
    have hlt:n.toNat<s.length:=(UV.1 hg).1
    have hb:(⟨s.toArray⟩:ByteArray)[n.toNat]? = some b:=by
     rw [getElem?_pos (⟨s.toArray⟩:ByteArray) n.toNat (by rw [JX];exact hlt)]
     have:s[n.toNat]=b:=(UV.1 hg).2
     rw [←this];rfl
    refine ⟨.int .u8 b.toNat,?_,.int _ _⟩
    simp only [Instr.index,asIntOf,Sem.run_bind,Sem.run_pure,Result.andThen_ok,run_underlying hu,if_pos hn,hb]
  ·cases h
 ·cases h
theorem idxAgg_ok {t e n:Nat} {d:TypeDesc} {a i z:Ab} {u v:Value} (hu:C.P.underlying t=some (.array n e)) (hd:C.P.underlying e=some d) (ha:Ax E a u) (hi:Ax E i v) (h:Jm (B6 C.P e) n (Aq C.P e) a i=some z) :
  B1 E C.P w (Instr.index t u v) z:=by
 unfold Jm at h
 split at h
 ·rename_i cs k m
  obtain ⟨vs,rfl,hv⟩:=ha.agg_cells
  rw [hi.int_inv]
  split at h
  ·rename_i hm
   obtain ⟨r,h1,h2⟩:=part_ok (w:=w) hd hv h
   refine ⟨r,?_,h2⟩
   simp only [Instr.index,asIntOf,Sem.run_bind,Sem.run_pure,Result.andThen_ok,run_underlying hu,if_pos hm,CS hd,h1]
  ·cases h
 ·cases h
theorem II {t e:TypeId} (hu:C.P.underlying t=some (.slice e)) {d:TypeDesc} (hd:C.P.underlying e=some d) (b o len cap:Nat) (k:IntKind) (n:Int) (hn:0≤n∧n<len) :
  (Instr.indexAt t (.slice (some ⟨b,o,none⟩) len cap) (.int k n)).run C.P w=.ok (.pointer (some ⟨b,o+n.toNat*Aq C.P e,none⟩)) w:=by
 simp only [Instr.indexAt,asIntOf,Sem.run_bind,Sem.run_pure,Result.andThen_ok,run_underlying hu,if_pos hn,CS hd,CX]
theorem idxSl_ok {t e:TypeId} {d:TypeDesc} {a i z:Ab} {u v:Value} (hu:C.P.underlying t=some (.slice e)) (hd:C.P.underlying e=some d) (ha:Ax E a u) (hi:Ax E i v) (h:At (Aq C.P e) a i=some z) :
  B1 E C.P w (Instr.indexAt t u v) z:=by
 unfold At at h
 split at h
 ·rename_i es tk k n
  rw [hi.int_inv]
  split at h
  ·rename_i hn
   cases hg:es[n.toNat]? with
   | none=>simp [hg]at h
   | some x=>
    simp only [hg,Option.bind_some]at h
    split at h
    ·rename_i hx
     injection h with h;subst h
     have hlt:n.toNat<es.length:=(UV.1 hg).1
     cases ha with
     | sl0 ht ha=>simp at hg
     | sl f hl hI hm hv hc ht=>
      rename_i b o s cap
      have hs:s=Aq C.P e:=by rw [←hl _ _ hg,hx]
      subst hs
      refine ⟨_,II hu hd b o es.length cap k n ⟨hn,by omega⟩,?_⟩
      have hrel:Ax E (.cptr x 0) (.pointer (some ⟨b,(o+n.toNat*Aq C.P e)+0,none⟩)):=
       .cptr (f n.toNat) (fun j hj=>by
        have:=hI n.toNat j hlt (by omega)
        rw [←VL]at this
        exact this) (fun j c hj=>hm _ _ _ _ hg hj) (fun j c hj=>hv _ _ _ _ hg hj)
      exact hrel
    ·cases h
  ·cases h
 ·rename_i id g off len cap sz' ex k n
  rw [hi.int_inv]
  split at h
  ·rename_i hn
   obtain ⟨hsz,hn0,hn1⟩:=hn
   injection h with h;subst h
   cases ha with
   | ms h1 hc hl he ho=>
    have ho':=ho (by omega)
    subst ho'
    exact ⟨_,II hu hd _ _ _ _ k n ⟨hn0,hn1⟩,.ptr h1⟩
  ·cases h
 ·cases h
theorem idxArr_ok {t e n:Nat} {d:TypeDesc} {a i z:Ab} {u v:Value} (hu:C.P.underlying t=some (.array n e)) (hd:C.P.underlying e=some d) (ha:Ax E a u) (hi:Ax E i v) (h:BP n (Aq C.P e) a i=some z) :
  B1 E C.P w (Instr.indexAt t u v) z:=by
 have run:∀b o k (m:Int),0≤m∧m<n→(Instr.indexAt t (.pointer (some ⟨b,o,none⟩)) (.int k m)).run C.P w=.ok (.pointer (some ⟨b,o+m.toNat*Aq C.P e,none⟩)) w:=by
  intro b o k m hm
  simp only [Instr.indexAt,asIntOf,Sem.run_bind,Sem.run_pure,Result.andThen_ok,run_underlying hu,Instr.sureAddr,if_pos hm,CS hd,CX]
 unfold BP at h
 split at h
 ·rename_i id g o k m
  rw [hi.int_inv]
  split at h
  ·rename_i hm
   injection h with h;subst h
   obtain ⟨b,h1,rfl⟩:=ha.ptr_inv
   exact ⟨_,run b o k m hm,.ptr h1⟩
  ·cases h
 ·rename_i cs o k m
  rw [hi.int_inv]
  split at h
  ·rename_i hm
   injection h with h;subst h
   cases ha with
   | cptr f hI hmm hv=>exact ⟨_,by rw [run _ _ _ _ hm,VL],.cptr f hI hmm hv⟩
  ·cases h
 ·cases h
theorem lenStr_ok {t:TypeId} {ty:TypeId} {a z:Ab} {u:Value} (hu:C.P.underlying t=some .string) (ha:Ax E a u) (h:CG a=some z):B1 E C.P w (Builtin.len_ #[t] ty #[u]) z:=by
 unfold CG at h
 split at h
 ·injection h with h;subst h
  rw [ha.str_inv]
  refine ⟨_,?_,.int _ _⟩
  simp [Builtin.len_,Sem.run_bind,run_underlying hu,Result.andThen_ok,JX,goInt]
 ·cases h
theorem lenSl_ok {t e:TypeId} {ty:TypeId} {a z:Ab} {u:Value} (hu:C.P.underlying t=some (.slice e)) (ha:Ax E a u) (h:A5 a=some z):B1 E C.P w (Builtin.len_ #[t] ty #[u]) z:=by
 unfold A5 at h
 split at h
 ·injection h with h;subst h
  refine ⟨_,?_,.int _ _⟩
  cases ha <;> simp [Builtin.len_,Sem.run_bind,run_underlying hu,Result.andThen_ok,goInt]
 ·injection h with h;subst h
  refine ⟨_,?_,.int _ _⟩
  cases ha;simp [Builtin.len_,Sem.run_bind,run_underlying hu,Result.andThen_ok,goInt]
 ·cases h
theorem lenArr_ok {t n e:Nat} {ty:TypeId} {a z:Ab} {u:Value} (hu:C.P.underlying t=some (.array n e)) (h:lenArr n a=some z):B1 E C.P w (Builtin.len_ #[t] ty #[u]) z:=by
 injection h with h;subst h
 exact ⟨_,by simp [Builtin.len_,Sem.run_bind,run_underlying hu,Result.andThen_ok,goInt],.int _ _⟩
theorem cap_ok {t e:TypeId} {ty:TypeId} {a z:Ab} {u:Value} (hu:C.P.underlying t=some (.slice e)) (ha:Ax E a u) (h:capA a=some z):B1 E C.P w (Builtin.cap_ #[t] ty #[u]) z:=by
 unfold capA at h
 split at h
 ·injection h with h;subst h
  refine ⟨_,?_,.int _ _⟩
  cases ha with
  | sl0 ht ha=>cases ht;simp [Builtin.cap_,Sem.run_bind,run_underlying hu,Result.andThen_ok,goInt]
  | sl f hl hI hm hv hc ht=>cases ht;simp [Builtin.cap_,Sem.run_bind,run_underlying hu,Result.andThen_ok,goInt]
 ·injection h with h;subst h
  refine ⟨_,?_,.int _ _⟩
  cases ha with
  | ms h1 hc hl he ho=>rw [he rfl];simp [Builtin.cap_,Sem.run_bind,run_underlying hu,Result.andThen_ok,goInt]
 ·cases h

theorem Mr {d:Nat} {o:Option Ab} {v:Option Value} {n y:Nat} (hv:(o=none∧v=none)∨∃a u,o=some a∧v=some u∧Ax E a u) (h:Bq d o=some n) (code:BoundsCode) (hy:v≠none→n≤y) :
  (v=none→n=d)∧∀u,v=some u→(Instr.sliceBound u y code).run C.P w=.ok n w:=by
 rcases hv with ⟨rfl,rfl⟩ | ⟨a,u,rfl,rfl,hau⟩
 ·simp [Bq]at h;exact ⟨fun _=>h.symm,fun u hu=>by cases hu⟩
 ·refine ⟨fun h=>(by cases h),fun u' hu=>?_⟩
  cases hu
  unfold Bq at h
  split at h
  ·rename_i h1;cases h1
  ·rename_i k m h1
   cases h1
   split at h
   ·rename_i hm
    injection h with h;subst h
    rw [hau.int_inv]
    have:=hy (by simp)
    simp only [Instr.sliceBound,asIntOf,Sem.run_bind,Sem.run_pure,Result.andThen_ok]
    rw [if_pos ⟨hm,by omega⟩]
    simp
   ·cases h
  ·cases h
theorem MU {isS:Bool} {len cap:Nat} {lo hi mx:Option Ab} {lo' hi' mx':Option Value} {l h m:Nat} (hmh:mx'≠none→hi'≠none)
  (r1:(lo=none∧lo'=none)∨∃a u,lo=some a∧lo'=some u∧Ax E a u) (r2:(hi=none∧hi'=none)∨∃a u,hi=some a∧hi'=some u∧Ax E a u) (r3:(mx=none∧mx'=none)∨∃a u,mx=some a∧mx'=some u∧Ax E a u)
  (h1:Bq 0 lo=some l) (h2:Bq len hi=some h) (h3:Bq cap mx=some m) (hl:l≤h) (hh:h≤m) (hm:m≤cap) :
  (Instr.sliceBounds isS len cap lo' hi' mx').run C.P w=.ok (l,h,m) w:=by
 unfold Instr.sliceBounds
 obtain ⟨m1,m2⟩:=Mr (C:=C) (w:=w) r3 h3 (if isS then .slice3Acap else .slice3Alen) (y:=cap) (fun _=>hm)
 cases mx' with
 | none=>
  have em:=m1 rfl
  subst em
  obtain ⟨b1,b2⟩:=Mr (C:=C) (w:=w) r2 h2 (if isS then .sliceAcap else .sliceAlen) (y:=m) (fun _=>hh)
  obtain ⟨c1,c2⟩:=Mr (C:=C) (w:=w) r1 h1 .sliceB (y:=h) (fun _=>hl)
  cases hi' with
  | none=>
   have:=b1 rfl;subst this
   cases lo' with
   | none=>have:=c1 rfl;subst this;simp
   | some u=>simp [Sem.run_bind,c2 u rfl,Result.andThen_ok]
  | some u2=>
   cases lo' with
   | none=>have:=c1 rfl;subst this;simp [Sem.run_bind,b2 u2 rfl,Result.andThen_ok]
   | some u=>simp [Sem.run_bind,b2 u2 rfl,c2 u rfl,Result.andThen_ok]
 | some u3=>
  obtain ⟨b1,b2⟩:=Mr (C:=C) (w:=w) r2 h2 .slice3B (y:=m) (fun _=>hh)
  obtain ⟨c1,c2⟩:=Mr (C:=C) (w:=w) r1 h1 .slice3C (y:=h) (fun _=>hl)
  cases hi' with
  | none=>exact absurd rfl (hmh (by simp))
  | some u2=>
   cases lo' with
   | none=>have:=c1 rfl;subst this;simp [Sem.run_bind,m2 u3 rfl,b2 u2 rfl,Result.andThen_ok]
   | some u=>simp [Sem.run_bind,m2 u3 rfl,b2 u2 rfl,c2 u rfl,Result.andThen_ok]

end
theorem Jt {α:Type} {l:List α} {n i:Nat} {x:α} (h:(l.take n)[i]? = some x):l[i]? = some x:=by
 rw [X9]at h
 split at h
 ·exact h
 ·cases h
theorem Qy (c n:Nat) (y:Ab):Bq c (some y)=Bq n (some y):=by cases y <;> rfl
def ORel (E:Env) (o:Option Ab) (v:Option Value):Prop:=(o=none∧v=none)∨∃a u,o=some a∧v=some u∧Ax E a u
section
variable {C:Cfg} {E:Env} {H:Aa} {w:World}
theorem sliceStr_ok {t:TypeId} {a z:Ab} {u:Value} {lo hi:Option Ab} {lo' hi':Option Value} (hu:C.P.underlying t=some .string) (ha:Ax E a u) (r1:ORel E lo lo') (r2:ORel E hi hi') (h:Cq a lo hi=some z) :
  B1 E C.P w (Instr.sliceAt t u lo' hi' none) z:=by
 unfold Cq at h
 split at h
 ·rename_i s
  cases h1:Bq 0 lo with
  | none=>simp [h1]at h
  | some l=>
   simp only [h1,Option.bind_some]at h
   cases h2:Bq s.length hi with
   | none=>simp [h2]at h
   | some n=>
    simp only [h2,Option.bind_some]at h
    split at h
    ·rename_i hln
     injection h with h;subst h
     rw [ha.str_inv]
     have hb:=MU (C:=C) (E:=E) (w:=w) (isS:=false) (len:=s.length) (cap:=s.length) (mx:=none) (mx':=none) (m:=s.length) (by simp) r1 r2 (.inl ⟨rfl,rfl⟩) h1 h2 rfl hln.1 hln.2 (Va _)
     have he:(⟨s.toArray⟩:ByteArray).extract l n=⟨((s.take n).drop l).toArray⟩:=by
      apply ByteArray.ext
      rw [ByteArray.data_extract]
      apply XO
      rw [Xx,List.extract_eq_take_drop,List.drop_take]
     refine ⟨_,?_,.str _⟩
     simp only [Instr.sliceAt,Instr.slice,Sem.run_bind,run_underlying hu,Result.andThen_ok,JX,Option.isSome_none,Vd,if_false,hb,Sem.run_pure,he]
    ·cases h
 ·cases h
theorem sliceArr_ok {t n e:Nat} {d:TypeDesc} {a z:Ab} {u:Value} {lo hi:Option Ab} {lo' hi':Option Value} (hu:C.P.underlying t=some (.array n e)) (hd:C.P.underlying e=some d) (ha:Ax E a u)
  (r1:ORel E lo lo') (r2:ORel E hi hi') (h:Jw n (Aq C.P e) a lo hi=some z):B1 E C.P w (Instr.sliceAt t u lo' hi' none) z:=by
 unfold Jw at h
 split at h
 ·rename_i id g off
  cases h1:Bq 0 lo with
  | none=>simp [h1]at h
  | some l=>
   simp only [h1,Option.bind_some]at h
   cases h2:Bq n hi with
   | none=>simp [h2]at h
   | some k=>
    simp only [h2,Option.bind_some]at h
    split at h
    ·rename_i hb
     injection h with h;subst h
     obtain ⟨b,hφ,rfl⟩:=ha.ptr_inv
     have hrun:=MU (C:=C) (E:=E) (w:=w) (isS:=false) (len:=n) (cap:=n) (mx:=none) (mx':=none) (m:=n) (by simp) r1 r2 (.inl ⟨rfl,rfl⟩) h1 h2 rfl hb.1 hb.2 (Va _)
     refine ⟨.slice (some ⟨b,if n=l then off else off+l*Aq C.P e,none⟩) (k-l) (n-l),?_,.ms hφ (Va _) (by omega) (fun _=>rfl) (fun hne=>by rw [if_neg (by omega)]) (fun h=>by cases h)⟩
     simp only [Instr.sliceAt,Sem.run_bind,run_underlying hu,Result.andThen_ok,Instr.sureAddr,hrun,CS hd,Sem.run_pure,CX]
     split <;> rfl
    ·cases h
 ·cases h
theorem sliceSl_ok {t e:TypeId} {d:TypeDesc} {a z:Ab} {u:Value} {lo hi mx:Option Ab} {lo' hi' mx':Option Value} (hu:C.P.underlying t=some (.slice e)) (hd:C.P.underlying e=some d) (ha:Ax E a u) (hmh:mx'≠none→hi'≠none)
  (r1:ORel E lo lo') (r2:ORel E hi hi') (r3:ORel E mx mx') (h:Bv (Aq C.P e) a lo hi mx=some z):B1 E C.P w (Instr.sliceAt t u lo' hi' mx') z:=by
 have run:∀(ad:Option Addr) len cap l n m,(Instr.sliceBounds true len cap lo' hi' mx').run C.P w=.ok (l,n,m) w →
   (Instr.sliceAt t (.slice ad len cap) lo' hi' mx').run C.P w=.ok (.slice (if m=l then ad else ad.map (·.add (l*Aq C.P e))) (n-l) (m-l)) w:=by
  intro ad len cap l n m hb
  simp only [Instr.sliceAt,Instr.slice,Sem.run_bind,run_underlying hu,Result.andThen_ok,hb,CS hd,Sem.run_pure]
 unfold Bv at h
 split at h
 ·rename_i es tk
  split at h
  ·cases h
  ·rename_i hall
   have hall':∀x∈es,x.length=Aq C.P e:=by simpa using hall
   cases h1:Bq 0 lo with
   | none=>simp [h1]at h
   | some l=>
    simp only [h1,Option.bind_some]at h
    cases h2:Bq es.length hi with
    | none=>simp [h2]at h
    | some n=>
     simp only [h2,Option.bind_some]at h
     cases h3:Bq n mx with
     | none=>simp [h3]at h
     | some m=>
      simp only [h3,Option.bind_some]at h
      split at h
      ·rename_i hb
       obtain ⟨hln,hnl,hmn⟩:=hb
       injection h with h;subst h
       obtain ⟨ad,cap,hU,hcap,hnone⟩:∃ad cap,u=.slice ad es.length cap∧es.length≤cap∧(ad=none→cap=0):=by
        cases ha with
        | sl0 ht ha=>exact ⟨_,_,rfl,Vy _,ha⟩
        | sl f hl hI hm hv hc ht=>exact ⟨_,_,rfl,hc,fun h=>(by cases h)⟩
       subst hU
       obtain ⟨mc,hmc,hmc1,hmc2,hmx⟩:∃mc,Bq cap mx=some mc∧n≤mc∧mc≤cap∧(mx.isSome=true→mc=n)∧True:=by
        cases mx with
        | none=>exact ⟨cap,rfl,by omega,Va _,fun h=>(by simp at h),trivial⟩
        | some y=>exact ⟨m,(Qy _ _ y).trans h3,by omega,by omega,fun _=>hmn,trivial⟩
       have hmx:mx.isSome=true→mc=n:=hmx.1
       have hrun:=run ad es.length cap l n mc (MU (C:=C) (E:=E) (w:=w) (isS:=true) hmh r1 r2 r3 h1 h2 hmc hln hmc1 hmc2)
       refine ⟨_,hrun,?_⟩
       have hlen:((es.take n).drop l).length=n-l:=by rw [Vx,Vm];omega
       have htok:∀ad',(l=0→ad'=ad)→KP E (Fu tk l n es.length mx.isSome) ad' (n-l) (mc-l):=by
        intro ad' had'
        have ht:KP E tk ad es.length cap:=by cases ha <;> assumption
        unfold Fu
        split
        ·rename_i hs;have:=hmx hs;show mc-l=n-l;omega
        ·rename_i hs
         have hmc':mc=cap:=by cases mx with | none=>simpa [Bq]using hmc.symm | some y=>simp at hs
         cases tk with
         | no=>trivial
         | tight=>
          simp only []
          split
          ·have:cap=es.length:=ht
           show mc-l=n-l;omega
          ·trivial
         | own tt=>
          simp only []
          split
          ·rename_i hnl
           obtain ⟨b,q1,q2,q3⟩:=ht
           refine ⟨b,?_,?_,?_⟩
           ·rw [show n-l=es.length from by omega];exact q1
           ·rw [show n-l=es.length from by omega,show mc-l=cap from by omega];exact q2
           ·rw [had' hnl.2,q3]
          ·trivial
       have hzero:∀x:Addr,x.add (0*Aq C.P e)=x:=fun x=>by unfold Addr.add;simp
       by_cases hnl':n=l
       ·subst hnl'
        have hnil:(es.take n).drop n=[]:=Vo (by rw [hlen];omega)
        rw [hnil,V9]
        have ht':=htok (if mc=n then ad else ad.map (·.add (n*Aq C.P e))) (fun h0=>by
         split
         ·rfl
         ·cases ad with
          | none=>rfl
          | some x=>rw [h0,Option.map_some,hzero x])
        rw [V9]at ht'
        refine .sl0 ht' (fun hn=>?_)
        cases ad with
        | none=>have:=hnone rfl;omega
        | some x=>split at hn <;> simp at hn
       ·have hne:mc≠l:=by omega
        rw [if_neg hne]
        cases ha with
        | sl0 ht ha=>simp at hnl;omega
        | sl f hl hI hm hv hc ht=>
         rename_i b o s
         have hs:s=Aq C.P e:=by
          have h0:0<es.length:=by omega
          have:=hl 0 _ (UU h0)
          rw [←this];exact hall' _ (Vi h0)
         subst hs
         simp only [Option.map_some,CX]
         rw [←hlen]
         refine .sl (s:=Aq C.P e) (fun i j=>f (l+i) j) (fun i x hx=>?_) (fun i j hi hj=>?_) (fun i x j c hx hc'=>?_) (fun i x j c hx hc'=>?_) (by rw [hlen];omega) ?_
         ·rw [VB]at hx
          have hx':=(Jt hx)
          exact hl _ _ hx'
         ·rw [hlen]at hi
          have:=hI (l+i) j (by omega) hj
          rw [show o+l*Aq C.P e+(i*Aq C.P e+j)=o+((l+i)*Aq C.P e+j)by rw [VM];omega]
          exact this
         ·rw [VB]at hx
          exact hm _ _ _ _ (Jt hx) hc'
         ·rw [VB]at hx
          exact hv _ _ _ _ (Jt hx) hc'
         ·rw [hlen]
          exact htok _ (fun h0=>by subst h0;simp)
      ·cases h
 ·rename_i id g off len cap sz' ex
  cases h1:Bq 0 lo with
  | none=>simp [h1]at h
  | some l=>
   simp only [h1,Option.bind_some]at h
   cases h2:Bq len hi with
   | none=>simp [h2]at h
   | some n=>
    simp only [h2,Option.bind_some]at h
    cases h3:Bq cap mx with
    | none=>simp [h3]at h
    | some m=>
     simp only [h3,Option.bind_some]at h
     split at h
     ·rename_i hb
      obtain ⟨hsz,hpos,hln,hnm,hmc⟩:=hb
      injection h with h;subst h
      cases ha with
      | ms q1 q2 q3 q4 q5 q6=>
       rename_i off' cap' b
       obtain ⟨mc,hmc',g1,g2,g3,g4⟩:∃mc,Bq cap' mx=some mc∧n≤mc∧mc≤cap'∧m≤mc∧((ex||mx.isSome)=true→mc=m):=by
        cases mx with
        | none=>
         simp [Bq]at h3
         exact ⟨cap',rfl,by omega,Va _,by omega,fun h=>by have:=q4 (by simpa using h);omega⟩
        | some y=>exact ⟨m,(Qy _ _ y).trans h3,by omega,by omega,Va _,fun _=>rfl⟩
       have hrun:=run (some ⟨b,off',none⟩) len cap' l n mc (MU (C:=C) (E:=E) (w:=w) (isS:=true) hmh r1 r2 r3 h1 h2 hmc' hln g1 g2)
       have hadr:(if mc=l then some (⟨b,off',none⟩:Addr)else (some (⟨b,off',none⟩:Addr)).map (·.add (l*Aq C.P e)))=some ⟨b,if mc=l then off' else off'+l*Aq C.P e,none⟩:=by
        split <;> simp [CX]
       rw [hadr]at hrun
       refine ⟨_,hrun,.ms q1 (by omega) (by omega) (fun h=>by have:=g4 h;omega) (fun hne=>?_) (fun hex h0=>?_)⟩
       ·rw [if_neg (by omega),q5 (by omega)]
       ·have hl0:l=0:=by
         rcases Wp l with h | h
         ·exact h
         ·have:=Nat.mul_pos h hpos;omega
        have hex':ex=false∧mx=none:=by cases ex <;> cases mx <;> simp at hex ⊢
        obtain ⟨rfl,rfl⟩:=hex'
        obtain ⟨k1,k2⟩:=q6 rfl (by omega)
        simp [Bq]at hmc'
        subst hmc';subst hl0
        refine ⟨by simpa using k1,?_⟩
        rw [k2];split <;> omega
     ·cases h
 ·cases h

end
section
variable {C:Cfg} {E:Env} {H:Aa} {w:World}
theorem Ax.one {x:Ab} {v:Value} (h:Ax E x v) (hs:x.isScal=true):v.oneCell'=true∧v.cells = #[v]:=by
 cases h <;> first | exact ⟨rfl,rfl⟩ | simp [Ab.isScal]at hs
theorem Sg {x:Ab} (h:BE x=true):x.isScal=true:=by
 cases x <;> first | rfl | simp [BE]at h
theorem KO {x:Ab} {v:Value} {cs:List Ab} (h:Ax E x v) (hc:x.acells=some cs):A4 E cs v.cells.toList∧∀c∈cs,c.isScal=true:=by
 unfold Ab.acells at hc
 split at hc
 ·rename_i cs'
  split at hc
  ·rename_i hall
   injection hc with hc;subst hc
   obtain ⟨vs,rfl,hv⟩:=h.agg_cells
   exact ⟨hv,by simpa using hall⟩
  ·cases hc
 ·cases hc
 ·cases hc
 ·cases hc
 ·rename_i h1 h2 h0 h3
  injection hc with hc;subst hc
  have hs:x.isScal=true:=by
   cases x <;> first | rfl | exact absurd rfl h2 | exact absurd rfl h0 | exact absurd rfl (h1 _) | exact absurd rfl (h3 _)
  rw [(h.one hs).2]
  exact ⟨.cons h (.nil E),by simpa using hs⟩
theorem putN_rel {cs:List Ab} {vs:Array Value} {xs:List Ab} {us:Array Value} {o n:Nat} (h:A4 E cs vs.toList) (k:A4 E xs us.toList) (hn:xs.length=n) (hle:o+n≤cs.length) :
  A4 E (Dp cs o n xs) ((us.toList.zipIdx 0).foldl (fun cs (x:Value×Nat)=>cs.setIfInBounds (o+x.2) x.1) vs).toList:=by
 obtain ⟨h1,h2⟩:=Great.foldl_set o us.toList 0 vs
 have e1:cs.length=vs.size:=by simpa using h.1
 have e2:xs.length=us.size:=by simpa using k.1
 revert h1 h2
 generalize (us.toList.zipIdx 0).foldl (fun cs (x:Value×Nat)=>cs.setIfInBounds (o+x.2) x.1) vs=F
 intro h1 h2
 have e3:F.toList.length=vs.size:=by simpa using h1
 refine ⟨by rw [e3];unfold Dp;simp;omega,fun i c v hc hv=>?_⟩
 rw [Ww,h2 i]at hv
 unfold Dp at hc
 rw [Vb,VF]at hc
 split at hc
 ·rename_i hi
  rw [Vm]at hi
  rw [if_neg (by simp;omega)]at hv
  rw [VU (by omega)]at hc
  exact h.2 i c v hc (by simpa using hv)
 ·rename_i hi
  rw [Vm,VZ (by omega)]at hi hc
  rw [VF]at hc
  split at hc
  ·rename_i hi2
   rw [if_pos (by simp;omega)]at hv
   exact k.2 _ c v hc (by simpa using hv)
  ·rename_i hi2
   rw [if_neg (by simp;omega)]at hv
   rw [VB]at hc
   rw [show o+n+(i-o-xs.length)=i from by omega]at hc
   exact h.2 i c v hc (by simpa using hv)
theorem S0 {place:Nat→Option (Nat×Nat)} {r:Operand→Ab} {ρ:Operand→Value} (hr:∀x,Ax E (r x) (ρ x)) :
  ∀(parts:List (Nat×Operand)) (ps:List (Nat×Nat×Ab)) (cs cs':List Ab) (vs:Array Value),Jh place r parts=some ps→FV cs ps=some cs'→A4 E cs vs.toList →
   ∃vs':Array Value,Instr.fill place vs (parts.map fun p=>(p.1,ρ p.2))=some vs'∧A4 E cs' vs'.toList
 | [],ps,cs,cs',vs,h1,h2,h3=>by
  simp only [Jh,Ve]at h1;subst h1
  simp only [FV,Ve]at h2;subst h2
  exact ⟨vs,rfl,h3⟩
 | p::parts,ps,cs,cs',vs,h1,h2,h3=>by
  simp only [Jh]at h1
  cases hp:place p.1 with
  | none=>simp [hp]at h1
  | some x=>
   cases hq:Jh place r parts with
   | none=>simp [hp,hq]at h1
   | some qs=>
    simp only [hp,hq,Option.bind_some,Option.map_some,Ve]at h1
    subst h1
    simp only [FV]at h2
    cases hc:(r p.2).acells with
    | none=>simp [hc]at h2
    | some us=>
     simp only [hc,Option.bind_some]at h2
     split at h2
     ·rename_i hle
      obtain ⟨k1,k2⟩:=KO (hr p.2) hc
      have e1:us.length=(ρ p.2).cells.size:=by simpa using k1.1
      have e2:cs.length=vs.size:=by simpa using h3.1
      obtain ⟨vs',g1,g2⟩:=S0 hr parts qs _ cs' _ hq h2 (putN_rel h3 k1 hle.1 hle.2)
      refine ⟨vs',?_,g2⟩
      simp only [WA,Instr.fill,hp]
      rw [if_neg (by simp;omega)]
      rw [←g1]
      congr 1
      rw [←XY,Array.toList_zipIdx]
     ·cases h2
theorem Jr (z:Value):A4 E (z.cells.toList.map Lp) z.cells.toList:=by
 have:=A4.map (E:=E) z.cells.toList Lp id (fun x _=>Tf E x)
 simpa using this
theorem build_ok {t:TypeId} {parts:Array (Nat×Operand)} {r:Operand→Ab} {ρ:Operand→Value} {z:Ab} (hr:∀x,Ax E (r x) (ρ x)) (h:((RI C.P t r parts).bind fun ps=>AD (GB C.P t) ps)=some z) :
  B1 E C.P w (Instr.build t (parts.map fun p=>(p.1,ρ p.2))) z:=by
 cases hp:RI C.P t r parts with
 | none=>simp [hp]at h
 | some ps=>
  simp only [hp,Option.bind_some,AD]at h
  cases hi:C.P.info? t with
  | none=>simp [GB,hi]at h
  | some it=>
   cases hz:it.zero with
   | none=>simp [GB,hi,hz]at h
   | some z0=>
    have hzT:GB C.P t=some (z0.cells.toList.map Lp):=by simp [GB,hi,hz]
    simp only [hzT,Option.bind_some]at h
    split at h
    ·cases hf:FV (z0.cells.toList.map Lp) ps with
     | none=>simp [hf]at h
     | some cs'=>
      simp only [hf,Option.map_some,Ve]at h
      subst h
      unfold RI at hp
      split at hp
      ·rename_i fs hu
       cases hpl:fs.toList.mapM (fun f=>(C.P.info? f.type).map fun i=>(f.offset,i.size))with
       | none=>simp [hpl]at hp
       | some places=>
        simp only [hpl,Option.bind_some]at hp
        obtain ⟨vs',g1,g2⟩:=S0 hr parts.toList ps _ cs' z0.cells hp hf (Jr z0)
        refine ⟨_,run_build w t _ vs' ?_,.agg_of g2⟩
        unfold Program.built
        simp only [hi,hu,hz,hpl]
        rw [←g1]
        simp
      ·rename_i n e hu
       cases hie:C.P.info? e with
       | none=>simp [hie]at hp
       | some ie=>
        simp only [hie,Option.bind_some]at hp
        obtain ⟨vs',g1,g2⟩:=S0 hr parts.toList ps _ cs' z0.cells hp hf (Jr z0)
        refine ⟨_,run_build w t _ vs' ?_,.agg_of g2⟩
        unfold Program.built
        simp only [hi,hu,hz,hie]
        rw [←g1]
        simp
      ·cases hp
    ·cases h

end
theorem Ka {P:Program} (w:World) (src e:TypeId) (hs:P.underlying src=some (.slice e)) (he:P.underlying e=some (.int .u8)) (ad:Addr) (cap:Nat) :
  ∀dst,P.underlying dst=some .string→(convert src dst (.slice (some ad) 0 cap)).run P w=.ok (.string (strOfNums [])) w:=by
 intro dst hd
 have hl:(loadCells ad 0).run P w=.ok (([]:List Int).map (Value.int .u8)).toArray w:=run_loadCells_list (P:=P) w ad [] (fun j v hj=>by simp at hj)
 rw [run_convert_bytes_string w src dst e _ 0 cap hs he hd,run_bytesToString w _ 0 cap [] hl,foldl_push_bytes]
 simp [strOfNums,ByteArray.empty,ByteArray.emptyWithCapacity]
 rfl
theorem EM {α:Type} {s:Nat}:∀(es:List (List α)) (i j:Nat) (e:List α) (c:α),(∀x∈es,x.length=s)→es[i]? = some e→e[j]? = some c→es.flatten[i*s+j]? = some c
 | [],i,j,e,c,_,h,_=>by simp at h
 | x::es,0,j,e,c,hl,h,hc=>by
  simp at h;subst h
  rw [List.flatten_cons,UW (by have:=(UV.1 hc).1;omega)]
  simpa using hc
 | x::es,i+1,j,e,c,hl,h,hc=>by
  have hx:x.length=s:=hl x (by simp)
  rw [List.flatten_cons,Vu (by rw [hx,VM];omega),hx]
  rw [show (i+1)*s+j-s=i*s+j by rw [VM];omega]
  exact EM es i j e c (fun y hy=>hl y (by simp [hy])) (by simpa using h) hc
theorem CV {α:Type} {s:Nat}:∀(es:List (List α)),(∀x∈es,x.length=s)→es.flatten.length=es.length*s
 | [],_=>by simp
 | x::es,hl=>by
  rw [List.flatten_cons,Vc,hl x (by simp),CV es (fun y hy=>hl y (by simp [hy])),List.length_cons,VM];omega
section
variable {C:Cfg} {E:Env} {H:Aa} {w:World}
theorem immC_rel {c:Ab} {v:Value} (h:Ax E c v):Ax E (LO c) v:=by
 cases c with
 | sl es tk=>
  cases tk with
  | own t=>
   cases h with
   | sl0 ht ha=>exact .sl0 trivial ha
   | sl f hl hI hm hv hc ht=>exact .sl f hl hI hm hv hc trivial
  | _=>exact h
 | _=>exact h
theorem setI_le {b:Nat} (hs:Sim E H w) (hb:w.heap.size≤b) (f:Nat→Option Value):E.le (E.setI b f):=by
 refine ⟨fun _ _ _ h=>h,fun _ _ _ h=>h,fun b' o v h=>?_⟩
 have:b'≠b:=fun e=>by have:=hs.imm_lt h;omega
 simp [Env.setI,this,h]
theorem Sim.fixed (hs:Sim E H w) (n:Nat) (us:Array Value) (e:TypeId) (fr:Nat×Nat) :
  let w':World:={ (w.alloc (.cells us e fr))with drawn:=n }
  let E':=E.setI w.heap.size (us[·]?)
  Sim E' H w'∧BH E H w E' H w':=by
 intro w' E'
 have hnew:w'.heap[w.heap.size]? = some (.cells us e fr):=by simp [w',World.alloc,-World.alloc_eq]
 refine hs.ext (setI_le hs (Va _) _) (fun _ _ _ h=>h) (fun _ _ _ h=>h) (fun b hb=>?_) (fun b hb=>?_) (fun b o v hv hb=>?_) rfl rfl rfl (by simp [w',World.alloc,-World.alloc_eq])
 ·show (w.heap.push _)[b]? = _
  rw [Wt,if_neg (by omega)]
 ·funext o
  simp [E',Env.setI,show b≠w.heap.size from by omega]
 ·by_cases e':b=w.heap.size
  ·subst e'
   rw [Bj hnew]
   simpa [E',Env.setI]using hv
  ·simp only [E',Env.setI,if_neg e']at hv
   have:=hs.imm_lt hv;omega
theorem U9 {b cap:Nat} {es:List (List Ab)} {tk:Tok} {us:Array Value} {s:Nat} {E':Env} (hle:E.le E') (hE:∀o v,us[o]? = some v→E'.I b o=some v) (hl:∀x∈es,x.length=s) (him:∀x∈es,∀c∈x,BE c=true)
  (hv:∀(k:Nat) (c:Ab),es.flatten[k]? = some c→∃u,us[k]? = some u∧Ax E c u) (hc:es.length≤cap) (ht:tk=.no∨(tk=.tight∧cap=es.length)) :
  Ax E' (.sl es tk) (.slice (some ⟨b,0,none⟩) es.length cap):=by
 have key:∀(i j:Nat) (e:List Ab) (c:Ab),es[i]? = some e→e[j]? = some c→∃u,us[i*s+j]? = some u∧Ax E c u:=fun i j e c h1 h2=>hv _ _ (EM es i j e c hl h1 h2)
 refine .sl (s:=s) (fun i j=>(us[i*s+j]?).getD undef) (fun i e h=>hl e (Vz h)) (fun i j hi hj=>?_) (fun i e j c h1 h2=>him e (Vz h1) c (Vz h2)) (fun i e j c h1 h2=>?_) hc ?_
 ·have hx:=hl _ (Vi hi)
  obtain ⟨u,h1,_⟩:=key i j es[i] (es[i][j]'(by omega)) (UU hi) (UU (by omega))
  rw [UY,hE _ _ h1,h1];rfl
 ·obtain ⟨u,h3,h4⟩:=key i j e c h1 h2
  rw [h3];exact h4.mono hle
 ·rcases ht with rfl | ⟨rfl,h⟩
  ·trivial
  ·exact h
theorem seq_rel {sz:Nat}:∀(xs:List Ab) (vs:List Value) (es:List (List Ab)),A4 E xs vs→CZ sz xs=some es →
  es.length=xs.length∧(∀x∈es,x.length=sz)∧(∀x∈es,∀c∈x,BE c=true)∧(∀v∈vs,v.cells.size=sz)∧A4 E es.flatten (vs.flatMap fun v=>v.cells.toList)
 | [],[],es,hv,h=>by simp only [CZ,Ve]at h;subst h;exact ⟨rfl,by simp,by simp,by simp,.nil E⟩
 | [],_::_,es,hv,h=>by have:=hv.1;simp at this
 | _::_,[],es,hv,h=>by have:=hv.1;simp at this
 | x::xs,v::vs,es,hv,h=>by
  simp only [CZ]at h
  cases hc:x.acells with
  | none=>simp [hc]at h
  | some cs=>
   simp only [hc,Option.bind_some]at h
   split at h
   ·rename_i hcs
    cases hr:CZ sz xs with
    | none=>simp [hr]at h
    | some es'=>
     simp only [hr,Option.map_some,Ve]at h
     subst h
     obtain ⟨h1,h2,h3,h4,h5⟩:=seq_rel xs vs es' hv.tail hr
     obtain ⟨k1,_⟩:=KO hv.head hc
     have e1:cs.length=v.cells.size:=by simpa using k1.1
     refine ⟨by simp [h1],?_,?_,?_,?_⟩
     ·intro y hy
      rcases V7.1 hy with rfl | hy
      ·simpa using hcs.1
      ·exact h2 y hy
     ·intro y hy c hcy
      rcases V7.1 hy with rfl | hy
      ·exact (Vn.1 hcs.2) c hcy
      ·exact h3 y hy c hcy
     ·intro u hu
      rcases V7.1 hu with rfl | hu
      ·omega
      ·exact h4 u hu
     ·rw [List.flatten_cons,Xm]
      refine A4.append ⟨by simpa using k1.1,fun i c u h6 h7=>?_⟩ h5
      rw [V0]at h6
      cases hci:cs[i]? with
      | none=>simp [hci]at h6
      | some c'=>simp [hci]at h6;subst h6;exact immC_rel (k1.2 i c' u hci h7)
   ·cases h
theorem zip_range (xs:List (Nat×Operand)) (n:Nat) (h:xs.map (·.1)=List.range n) (ρ:Operand→Value):xs.map (fun p=>(p.1,ρ p.2))=((xs.map fun p=>ρ p.2).zipIdx 0).map fun x=>(x.2,x.1):=by
 apply W6
 intro i
 rw [V0,V0,List.getElem?_zipIdx,V0]
 cases hx:xs[i]? with
 | none=>simp
 | some p=>
  have hi:i<xs.length:=(UV.1 hx).1
  have:(xs.map (·.1))[i]? = some p.1:=by rw [V0,hx];rfl
  rw [h,Wh (by have:=congrArg List.length h;simp at this;omega)]at this
  simp at this
  simp [this]
theorem T7 {t e:TypeId} {d:TypeDesc} {len:Nat} {parts:Array (Nat×Operand)} {r:Operand→Ab} {ρ:Operand→Value} {z:Ab} (hu:C.P.underlying t=some (.slice e)) (hd:C.P.underlying e=some d) (hz:(C.P.info? e).bind (·.zero)≠none) (hz1:∀zz,(C.P.info? e).bind (·.zero)=some zz→zz.cells.size=Aq C.P e) (hs:Sim E H w) (hr:∀x,Ax E (r x) (ρ x)) (hp:parts.toList.map (·.1)=List.range len) (hpos:0<Aq C.P e) (hsm:len*Aq C.P e≤16777216)
  (h:AY (Aq C.P e) (parts.toList.map fun p=>r p.2)=some z) :
  ∃v w' E',(Instr.buildSlice t len (parts.map fun p=>(p.1,ρ p.2))).run C.P w=.ok v w'∧Ax E' z v∧Sim E' H w'∧BH E H w E' H w':=by
 unfold AY at h
 cases hsq:CZ (Aq C.P e) (parts.toList.map fun p=>r p.2)with
 | none=>simp [hsq]at h
 | some es=>
  simp only [hsq,Option.map_some,Ve]at h
  subst h
  have hvr:A4 E (parts.toList.map fun p=>r p.2) (parts.toList.map fun p=>ρ p.2):=A4.map _ _ _ (fun x _=>hr x.2)
  obtain ⟨h1,h2,h3,h4,h5⟩:=seq_rel _ _ es hvr hsq
  have hlen:es.length=len:=by
   have:=congrArg List.length hp
   simp at this h1;omega
  obtain ⟨i,hi,hsz⟩:=FK hd
  have fin:∀us:Array Value,us=((parts.toList.map fun p=>ρ p.2).flatMap fun v=>v.cells.toList).toArray →
    (Instr.buildSlice t len (parts.map fun p=>(p.1,ρ p.2))).run C.P w=.ok (.slice (some ⟨w.heap.size,0,none⟩) len len) (w.alloc (.cells us e)) →
    ∃v w' E',(Instr.buildSlice t len (parts.map fun p=>(p.1,ρ p.2))).run C.P w=.ok v w'∧Ax E' (.sl es .tight) v∧Sim E' H w'∧BH E H w E' H w':=by
   intro us hus hrun
   obtain ⟨k1,k2⟩:=hs.fixed w.drawn us e (0,0)
   refine ⟨_,_,_,hrun,?_,k1,k2⟩
   have:=U9 (E:=E) (b:=w.heap.size) (cap:=len) (tk:=.tight) (us:=us) k2.le (fun o v ho=>by simp [Env.setI,ho]) h2 h3 (fun k c hk=>?_) (by omega) (.inr ⟨rfl,hlen.symm⟩)
   ·rw [hlen]at this;exact this
   ·obtain ⟨u,g1,g2⟩:=h5.get hk
    exact ⟨u,by rw [hus];simpa using g1,g2⟩
  cases hzz:i.zero with
  | none=>simp [hi,hzz]at hz
  | some zz=>
   have hzs:=hz1 zz (by simp [hi,hzz])
   by_cases h0:len=0
   ·subst h0
    have hnil:parts.toList=[]:=by
     have:=congrArg List.length hp
     simp at this;simpa using this
    have hpe:parts = #[]:=by cases parts;simp_all
    refine fin #[] (by simp [hnil]) ?_
    subst hpe
    have hr0:Array.range 0 = #[]:=by apply XO;simp
    simp [Instr.buildSlice,run_underlying hu,sizeOf,typeInfo,hi,Instr.fill,newRow,hr0]
   ·refine fin _ rfl (run_buildSlice w t e len _ _ i zz hu hi hzz ?_ ?_ ?_)
    ·rw [hsz];omega
    ·rw [hsz]
     intro hm
     rcases Nat.mul_eq_zero.1 hm with h | h <;> omega
    ·rw [hsz,Xs,zip_range _ _ hp]
     refine Great.fill_whole hpos _ _ h4 ?_
     have:=congrArg List.length hp
     simp at this
     simp [this]
theorem Qx {b o:Nat} (hs:Sim E H w):∀(es:List (List Ab)) (l:List UInt8),bytesOf es=some l→∃xs:List Int,es=xs.map (fun n=>[Ab.int .u8 n])∧l=xs.map fun n=>UInt8.ofNat n.toNat
 | [],l,h=>by simp only [bytesOf,Ve]at h;subst h;exact ⟨[],rfl,rfl⟩
 | e::es,l,h=>by
  unfold bytesOf at h
  split at h
  ·rename_i h1;cases h1
  ·rename_i n r h1
   cases h1
   cases hr:bytesOf es with
   | none=>simp [hr]at h
   | some l'=>
    simp only [hr,Option.map_some,Ve]at h
    subst h
    obtain ⟨xs,rfl,rfl⟩:=Qx (b:=b) (o:=o) hs es l' hr
    exact ⟨n::xs,rfl,rfl⟩
  ·cases h
theorem JM:∀(es:List Ab) (l:List UInt8),Ek es=some l→∃xs:List Int,es=xs.map (fun n=>Ab.int .u8 n)∧l=xs.map fun n=>UInt8.ofNat n.toNat
 | [],l,h=>by simp only [Ek,Ve]at h;subst h;exact ⟨[],rfl,rfl⟩
 | e::es,l,h=>by
  unfold Ek at h
  split at h
  ·rename_i h1;cases h1
  ·rename_i n r h1
   cases h1
   cases hr:Ek es with
   | none=>simp [hr]at h
   | some l'=>
    simp only [hr,Option.map_some,Ve]at h
    subst h
    obtain ⟨xs,rfl,rfl⟩:=JM es l' hr
    exact ⟨n::xs,rfl,rfl⟩
  ·cases h
theorem toStr_ok {src dst e:TypeId} (h1:C.P.underlying src=some (.slice e)) (h2:C.P.underlying e=some (.int .u8)) (h3:C.P.underlying dst=some .string) (hs:Sim E H w) {x z:Ab} {v:Value} (hx:Ax E x v) (h:Fg x H=some z) :
  B1 E C.P w (convert src dst v) z:=by
 unfold Fg at h
 split at h
 ·rename_i es tk
  cases hb:bytesOf es with
  | none=>simp [hb]at h
  | some l=>
   simp only [hb,Option.map_some,Ve]at h
   subst h
   obtain ⟨xs,rfl,rfl⟩:=Qx (b:=0) (o:=0) hs es l hb
   have e0:strOfNums xs=⟨(xs.map fun n=>UInt8.ofNat n.toNat).toArray⟩:=rfl
   generalize hes:xs.map (fun n=>[Ab.int .u8 n])=es at hx
   cases hx with
   | sl0 ht ha=>
    rename_i a cap
    have hxs:xs=[]:=by simpa using hes
    subst hxs
    cases a with
    | none=>exact ⟨_,run_convert_bytes_nil w src e h1 h2 _ _ dst h3,.str _⟩
    | some ad=>exact ⟨_,Ka w src e h1 h2 ad cap dst h3,.str _⟩
   | sl f hl hI hm hv hc ht=>
    rename_i b o s cap
    have hlen:es.length=xs.length:=by rw [←hes];simp
    refine ⟨_,run_convert_bytes_arg w src e h1 h2 b o es.length cap xs hlen.symm (fun i hi=>?_) dst h3,.str _⟩
    have hxi:i<xs.length:=by omega
    have hei:es[i]? = some [Ab.int .u8 xs[i]]:=by rw [←hes,V0,UU hxi];rfl
    have hs1:s=1:=by rw [←hl _ _ hei];rfl
    subst hs1
    have hc':=hs.imm _ _ _ (hI i 0 hi (by omega))
    have hv':=(hv i _ 0 _ hei rfl).int_inv
    rw [hv']at hc'
    simp only [Vk,Nat.add_zero]at hc'
    rw [hc']
    simp [List.getD,UU hxi]
 ·rename_i id g off len cap sz ex
  split at h
  ·cases hg:A8 H id g with
   | none=>simp [hg]at h
   | some cs=>
    simp only [hg,Option.bind_some]at h
    split at h
    ·rename_i hle
     cases hb:Ek ((cs.drop off).take len)with
     | none=>simp [hb]at h
     | some l=>
      simp only [hb,Option.map_some,Ve]at h
      subst h
      obtain ⟨xs,hxs,rfl⟩:=JM _ l hb
      obtain ⟨_,b,vs,t,q1,q2,q3,_⟩:=Gp hs hg
      have hlen:xs.length=len:=by
       have:=congrArg List.length hxs
       simp at this;omega
      cases hx with
      | ms p1 p2 p3 p4 p5 p6=>
       rename_i off' cap' b'
       rw [q1]at p1;cases p1
       refine ⟨_,run_convert_bytes_arg w src e h1 h2 b off' len cap' xs hlen (fun i hi=>?_) dst h3,.str _⟩
       rw [p5 (by omega)]
       have hxi:i<xs.length:=by omega
       have hci:cs[off+i]? = some (.int .u8 xs[i]):=by
        have:((cs.drop off).take len)[i]? = some (.int .u8 xs[i]):=by rw [hxs,V0,UU hxi];rfl
        have:=Jt this
        rwa [VB]at this
       obtain ⟨u,r1,r2⟩:=q3.get hci
       rw [Bj q2]
       rw [r2.int_inv]at r1
       have r1:=HZ r1
       simpa [List.getD,UU hxi]using r1
    ·cases h
  ·cases h
 ·cases h

end
theorem C7 {P:Program} {t:TypeId} (h:okT P t=true):(∃d,P.underlying t=some d)∧Aq P t≠0∧(P.info? t).bind (·.zero)≠none∧(∀z,(P.info? t).bind (·.zero)=some z→z.cells.size=Aq P t)∧∃i z,P.info? t=some i∧i.zero=some z∧i.size=Aq P t:=by
 unfold okT at h
 simp only [Vh]at h
 obtain ⟨h1,h2⟩:=h
 cases hi:P.info? t with
 | none=>simp [hi]at h2
 | some i=>
  rw [hi]at h2
  cases hz:i.zero with
  | none=>simp [hz]at h2
  | some z=>
   simp only [hz,Vh,bne_iff_ne,beq_iff_eq]at h2
   exact ⟨Option.isSome_iff_exists.1 h1,by simp [Aq,hi];exact h2.1,by simp [hz],fun z' hz'=>by simp [hz]at hz';subst hz';simp [Aq,hi,h2.2],i,z,rfl,hz,by simp [Aq,hi]⟩
structure MapOk (C:Cfg):Prop where
 look:∀(t kt e:TypeId) (ok:Bool) (E:Env) (H:Aa) (w:World) (m k z:Ab) (u v:Value),C.P.underlying t=some (.map kt e)→C.key kt=true→Sim E H w→Ax E m u→Ax E k v→Fb (B6 C.P kt) (Aq C.P kt) (T9 C.P e) ok m k H=some z→B1 E C.P w (Instr.lookup t u v ok) z
 upd:∀(t kt e:TypeId) (E:Env) (H H':Aa) (w:World) (m k x:Ab) (u v y:Value),C.P.underlying t=some (.map kt e)→C.key kt=true→Sim E H w→Ax E m u→Ax E k v→Ax E x y→DW (B6 C.P kt) (Aq C.P kt) m k x H=some H' →
  ∃w',(Instr.mapUpdate t u v y).run C.P w=.ok () w'∧Sim E H' w'∧BH E H w E H' w'
section
variable {C:Cfg} {E:Env} {H:Aa} {w:World}
def SOk (E:Env) (H:Aa) (P:Program) (w:World) (s:Sem Value) (x:Ab):Prop:=∃v w' E',s.run P w=.ok v w'∧Ax E' x v∧Sim E' H w'∧BH E H w E' H w'
theorem B1.sok {P:Program} {s:Sem Value} {x:Ab} (hs:Sim E H w) (h:B1 E P w s x):SOk E H P w s x:=by
 obtain ⟨v,h1,h2⟩:=h;exact ⟨v,w,E,h1,h2,hs,.refl _ _ _⟩
theorem SOk.rok {P:Program} {s:Sem Value} {x:Ab} (h:SOk E H P w s x):ROk E H P w (do pure (.value (←s))) x:=by
 obtain ⟨v,w',E',h1,h2,h3,h4⟩:=h
 exact ⟨v,w',E',by simp [Sem.run_bind,h1,Result.andThen],h2,h3,h4⟩
theorem toBytes_ok {src dst e:TypeId} (h1:C.P.underlying src=some .string) (h2:C.P.underlying dst=some (.slice e)) (h3:C.P.underlying e=some (.int .u8)) (hs:Sim E H w) {x z:Ab} {v:Value} (hx:Ax E x v) (h:LZ x=some z) :
  SOk E H C.P w (convert src dst v) z:=by
 unfold LZ at h
 split at h
 ·rename_i s
  injection h with h;subst h
  rw [hx.str_inv]
  have hrun:=run_bytes_of_string (P:=C.P) w src dst e ⟨s.toArray⟩ h1 h2 h3
  obtain ⟨us,hus⟩:∃us,us=bytesRow ⟨s.toArray⟩ (grownCap w (⟨s.toArray⟩:ByteArray).size 0 e):=⟨_,rfl⟩
  rw [←hus]at hrun
  have hcap:s.length≤grownCap w (⟨s.toArray⟩:ByteArray).size 0 e:=by have:=grownCap_ge w (⟨s.toArray⟩:ByteArray).size 0 e;rw [JX]at this ⊢;exact this
  obtain ⟨k1,k2⟩:=hs.fixed (w.drawn+1) us e (us.size,us.size+1)
  refine ⟨_,_,_,hrun,?_,k1,k2⟩
  have:=U9 (E:=E) (b:=w.heap.size) (cap:=grownCap w (⟨s.toArray⟩:ByteArray).size 0 e) (tk:=.no) (us:=us) (s:=1) (es:=s.map fun b=>[Ab.int .u8 b.toNat]) k2.le (fun o v ho=>by simp [Env.setI,ho]) (by simp) (by simp [BE]) (fun k c hk=>?_) (by simpa using hcap) (.inl rfl)
  ·rw [We]at this;rw [JX]at this ⊢;exact this
  ·have hfl:(s.map fun b=>[Ab.int .u8 (b.toNat:Int)]).flatten=s.map fun b=>Ab.int .u8 (b.toNat:Int):=by
    clear hk hrun hus hcap hx k1 k2
    induction s with
    | nil=>rfl
    | cons b s ih=>simp only [WA,List.flatten_cons,List.singleton_append,ih]
   rw [hfl,V0]at hk
   cases hk':s[k]? with
   | none=>simp [hk']at hk
   | some b=>
    simp only [hk',Option.map_some,Ve]at hk
    subst hk
    have hlt:k<s.length:=(UV.1 hk').1
    refine ⟨.int .u8 b.toNat,?_,.int _ _⟩
    rw [hus,bytesRow,Array.getElem?_append_left (by simpa using hlt)]
    simp [hk']
 ·cases h
theorem conv_ok {src dst:TypeId} (hs:Sim E H w) {x z:Ab} {v:Value} (hx:Ax E x v) (h:convA C.P src dst x H=some z):SOk E H C.P w (convert src dst v) z:=by
 unfold convA at h
 split at h
 ·rename_i k1 k2 h1 h2
  unfold AK at h
  split at h
  ·injection h with h;subst h
   rw [hx.int_inv]
   exact B1.sok hs ⟨_,by simp [convert,Sem.run_bind,run_underlying h1,run_underlying h2,Result.andThen_ok,Conv.intToInt],.int _ _⟩
  ·cases h
 ·rename_i h1 h2
  unfold convSame at h
  split at h
  ·injection h with h;subst h
   rw [hx.str_inv]
   exact B1.sok hs ⟨_,by simp [convert,Sem.run_bind,run_underlying h1,run_underlying h2,Result.andThen_ok],.str _⟩
  ·cases h
 ·rename_i k1 h1 h2
  unfold convRune at h
  split at h
  ·injection h with h;subst h
   rw [hx.int_inv]
   exact B1.sok hs ⟨_,by simp [convert,Sem.run_bind,run_underlying h1,run_underlying h2,Result.andThen_ok,Conv.intToString],.of_toList _ _⟩
  ·cases h
 ·rename_i e h1 h2
  split at h
  ·rename_i he
   have he':C.P.underlying e=some (.int .u8):=by unfold isU8 at he;split at he <;> first | assumption | cases he
   exact toBytes_ok h1 h2 he' hs hx h
  ·cases h
 ·rename_i e h1 h2
  split at h
  ·rename_i he
   have he':C.P.underlying e=some (.int .u8):=by unfold isU8 at he;split at he <;> first | assumption | cases he
   exact (toStr_ok h1 he' h2 hs hx h).sok hs
  ·cases h
 ·cases h

end
section
variable {C:Cfg} {E:Env} {H:Aa} {w:World}
theorem orel {r:Operand→Ab} {ρ:Operand→Value} (hr:∀x,Ax E (r x) (ρ x)) (o:Option Operand):ORel E (o.map r) (o.map ρ):=by
 cases o with
 | none=>exact .inl ⟨rfl,rfl⟩
 | some x=>exact .inr ⟨_,_,rfl,rfl,hr x⟩
theorem D0 {ρ:Operand→Value} {o:Oper} {c:Call} {b:Builtin} (ho:o.op=.call c) (hb:c.callee=.builtin b) :
  execOp ρ o=builtin b c.argTypes o.type (c.args.map fun | .const _=>true | _=>false) (c.args.map ρ):=by
 unfold execOp
 rw [ho]
 simp only [resolve,hb,pure_bind,invoke]
 rfl
theorem arr1 {α:Type} {a:Array α} {x:α} (h:a.toList=[x]):a = #[x]:=by cases a;simp_all
theorem arr2 {α:Type} {a:Array α} {x y:α} (h:a.toList=[x,y]):a = #[x,y]:=by cases a;simp_all
theorem JR {P:Program} {s:Sem Value} {v:Value} {w w':World} (h:s.run P w=.ok v w'):(do pure (Next.value (←s)):Sem Next).run P w=.ok (.value v) w':=by simp [Sem.run_bind,h,Result.andThen]
set_option maxHeartbeats 1000000 in
theorem stepR_ok (hC:EqOk C) (hM:MapOk C) (hs:Sim E H w) {r:Operand→Ab} {ρ:Operand→Value} (hr:∀x,Ax E (r x) (ρ x)) (hc:∀v,ρ (.const v)=v) {o:Oper} {z:Ab} (h:BC C o.op r H=some z):ROk E H C.P w (execOp ρ o) z:=by
 cases hop:o.op with
 | move x=>
  simp only [hop,BC,Ve]at h;subst h
  exact ⟨ρ x,w,E,by simp only [execOp,hop];rfl,hr x,hs,.refl _ _ _⟩
 | assign x=>
  simp only [hop,BC,Ve]at h;subst h
  exact ⟨ρ x,w,E,by simp only [execOp,hop];rfl,hr x,hs,.refl _ _ _⟩
 | pick c a b=>
  simp only [hop,BC]at h
  obtain ⟨v,h1,h2⟩:=cond_ok (C:=C) (w:=w) (hr c) (hr a) (hr b) h
  refine ⟨v,w,E,?_,h2,hs,.refl _ _ _⟩
  simp only [execOp,hop]
  simp only [Sem.run_bind]at h1 ⊢
  cases ha:(asBool (ρ c)).run C.P w with
  | ok b' w1=>rw [ha]at h1;simp only [Result.andThen_ok,Sem.run_pure,Result.ok.injEq]at h1 ⊢;rw [h1.1,h1.2];exact ⟨rfl,rfl⟩
  | halt x w1=>rw [ha]at h1;simp [Result.andThen]at h1
 | load t x=>
  simp only [hop,BC]at h
  split at h
  ·cases h
  ·rename_i hk
   obtain ⟨⟨d,hd⟩,_⟩:=C7 (P:=C.P) (t:=t) (by simpa using hk)
   have:=((load_ok hd hs (hr x) h).sok hs).rok
   simpa only [execOp,hop]using this
 | binOp op t x y yt=>
  simp only [hop,BC]at h
  split at h
  ·rename_i hn
   have hy:ρ y=.slice none 0 0:=by
    have h0:isNilC y=true:=by unfold nilT at hn;simp only [Vh]at hn;exact hn.1
    unfold isNilC at h0
    split at h0
    ·exact hc _
    ·cases h0
   have:=((nil_ok (x:=x) (y:=y) (w:=w) hn (hr x) h).sok hs).rok
   rw [←hy]at this
   simpa only [execOp,hop]using this
  ·have:=((bin_ok (x:=x) (y:=y) hC hs (hr x) (hr y) h).sok hs).rok
   simpa only [execOp,hop]using this
 | unOp op t x=>
  simp only [hop,BC]at h
  have:=((un_ok (C:=C) (w:=w) (hr x) h).sok hs).rok
  simpa only [execOp,hop]using this
 | convert src dst x=>
  simp only [hop,BC]at h
  have:=(conv_ok hs (hr x) h).rok
  simpa only [execOp,hop]using this
 | makeInterface t x=>
  simp only [hop,BC]at h
  split at h
  ·cases h
  ·rename_i d hne hd
   have:=((iface_ok (C:=C) (w:=w) hd (fun m hm=>hne m hm) (hr x) h).sok hs).rok
   simpa only [execOp,hop]using this
  ·cases h
 | makeFunc fn first caps=>
  simp only [hop,BC]at h
  split at h
  ·rename_i f
   split at h
   ·rename_i hf
    injection h with h;subst h
    obtain rfl:first = #[]:=by simpa using hf
    refine ⟨.func (.func f) #[] (caps.map ρ),w,E,by simp [execOp,hop,Instr.makeFunc],.fn (by simp) (fun i c v h1 h2=>?_),hs,.refl _ _ _⟩
    rw [V0]at h1
    rw [Array.getElem?_map]at h2
    rw [Ww]at h1
    cases hc:caps[i]? with
    | none=>simp [hc]at h1
    | some y=>simp [hc]at h1 h2;subst h1;subst h2;exact hr y
   ·split at h
    ·rename_i hf
     injection h with h;subst h
     obtain rfl:caps = #[]:=by simpa using hf
     refine ⟨.func (.func f) (first.map ρ) #[],w,E,by simp [execOp,hop,Instr.makeFunc],.bfn (by simp) (fun i c v h1 h2=>?_),hs,.refl _ _ _⟩
     rw [V0]at h1
     rw [Array.getElem?_map]at h2
     rw [Ww]at h1
     cases hc:first[i]? with
     | none=>simp [hc]at h1
     | some y=>simp [hc]at h1 h2;subst h1;subst h2;exact hr y
    ·cases h
  ·cases h
 | slice t x lo hi mx=>
  simp only [hop,BC]at h
  have key:SOk E H C.P w (Instr.sliceAt t (ρ x) (lo.map ρ) (hi.map ρ) (mx.map ρ)) z:=by
   split at h
   ·rename_i hu
    split at h
    ·cases h
    ·rename_i hmx
     cases mx with
     | some y=>simp at hmx
     | none=>exact (sliceStr_ok hu (hr x) (orel hr lo) (orel hr hi) h).sok hs
   ·rename_i e hu
    split at h
    ·cases h
    ·rename_i hk
     have hk':okT C.P e=true:=by
      cases hq:okT C.P e
      ·exact absurd (.inl (by simp [hq])) hk
      ·rfl
     obtain ⟨⟨d,hd⟩,_⟩:=C7 hk'
     refine (sliceSl_ok hu hd (hr x) (fun hm=>?_) (orel hr lo) (orel hr hi) (orel hr mx) h).sok hs
     intro hh
     cases hi with
     | some y=>simp at hh
     | none=>
      cases mx with
      | none=>simp at hm
      | some y=>exact hk (.inr ⟨rfl,rfl⟩)
   ·rename_i n e hu
    split at h
    ·cases h
    ·rename_i hk
     have hk':okT C.P e=true:=by
      cases hq:okT C.P e
      ·exact absurd (.inr (by simp [hq])) hk
      ·rfl
     obtain ⟨⟨d,hd⟩,_⟩:=C7 hk'
     cases mx with
     | some y=>exact absurd (.inl rfl) hk
     | none=>exact (sliceArr_ok hu hd (hr x) (orel hr lo) (orel hr hi) h).sok hs
   ·cases h
  have:=key.rok
  simpa only [execOp,hop]using this
 | fieldAddr s x f=>
  simp only [hop,BC]at h
  unfold Rd at h
  split at h
  ·rename_i fd hfd
   split at h
   ·cases h
   ·rename_i hk
    obtain ⟨_,hz,_⟩:=C7 (P:=C.P) (t:=fd.type) (by simpa using hk)
    split at hfd
    ·rename_i fs hu
     have:=((fieldAddr_ok (C:=C) (w:=w) hu hfd hz (hr x) h).sok hs).rok
     simpa only [execOp,hop]using this
    ·simp at hfd
  ·cases h
 | field s x f=>
  simp only [hop,BC]at h
  unfold Rd at h
  split at h
  ·rename_i fd hfd
   split at h
   ·cases h
   ·rename_i hk
    obtain ⟨⟨d,hd⟩,_⟩:=C7 (P:=C.P) (t:=fd.type) (by simpa using hk)
    split at hfd
    ·rename_i fs hu
     have:=((field_ok (C:=C) (w:=w) hu hfd hd (hr x) h).sok hs).rok
     simpa only [execOp,hop]using this
    ·simp at hfd
  ·cases h
 | indexAddr t x i=>
  simp only [hop,BC]at h
  split at h
  ·rename_i e hu
   split at h
   ·cases h
   ·rename_i hk
    obtain ⟨⟨d,hd⟩,_⟩:=C7 (P:=C.P) (t:=e) (by simpa using hk)
    have:=((idxSl_ok (C:=C) (w:=w) hu hd (hr x) (hr i) h).sok hs).rok
    simpa only [execOp,hop]using this
  ·rename_i n e hu
   split at h
   ·cases h
   ·rename_i hk
    obtain ⟨⟨d,hd⟩,_⟩:=C7 (P:=C.P) (t:=e) (by simpa using hk)
    have:=((idxArr_ok (C:=C) (w:=w) hu hd (hr x) (hr i) h).sok hs).rok
    simpa only [execOp,hop]using this
  ·cases h
 | index t x i=>
  simp only [hop,BC]at h
  split at h
  ·rename_i hu
   have:=((idxStr_ok (C:=C) (w:=w) hu (hr x) (hr i) h).sok hs).rok
   simpa only [execOp,hop]using this
  ·rename_i n e hu
   split at h
   ·cases h
   ·rename_i hk
    obtain ⟨⟨d,hd⟩,_⟩:=C7 (P:=C.P) (t:=e) (by simpa using hk)
    have:=((idxAgg_ok (C:=C) (w:=w) hu hd (hr x) (hr i) h).sok hs).rok
    simpa only [execOp,hop]using this
  ·cases h
 | extract x i=>
  simp only [hop,BC]at h
  have:=((extract_ok (C:=C) (w:=w) (hr x) h).sok hs).rok
  simpa only [execOp,hop]using this
 | nilCheck x=>
  simp only [hop,BC]at h
  obtain ⟨v,h1,h2⟩:=nilCheck_ok (C:=C) (w:=w) hop (hr x) h
  exact ⟨v,w,E,h1,h2,hs,.refl _ _ _⟩
 | typeAssert x xt t ok=>
  simp only [hop,BC]at h
  split at h
  ·cases h
  ·rename_i d hne hd
   have:=((assert_ok (C:=C) (w:=w) (xt:=xt) hd (fun m hm=>hne m hm) (hr x) h).sok hs).rok
   simpa only [execOp,hop]using this
  ·cases h
 | lookup t m k ok=>
  simp only [hop,BC]at h
  split at h
  ·rename_i kt e hu
   split at h
   ·rename_i hk
    have:=((hM.look t kt e ok E H w _ _ z _ _ hu hk hs (hr m) (hr k) h).sok hs).rok
    simpa only [execOp,hop]using this
   ·cases h
  ·cases h
 | build t parts=>
  simp only [hop,BC]at h
  have:=((build_ok (C:=C) (w:=w) hr h).sok hs).rok
  simpa only [execOp,hop]using this
 | buildSlice t len parts=>
  simp only [hop,BC]at h
  split at h
  ·rename_i e hu
   split at h
   ·rename_i hk
    obtain ⟨hk1,hk2,hk3⟩:=hk
    obtain ⟨⟨d,hd⟩,hz,hz0,hz1,_⟩:=C7 hk1
    have:=(SOk.rok (T7 (C:=C) (w:=w) hu hd hz0 hz1 hs hr hk2 (by omega) hk3 h))
    simpa only [execOp,hop]using this
   ·cases h
  ·cases h
 | call c=>
  simp only [hop,BC]at h
  split at h
  ·rename_i x t hb ha ht
   have ha':=arr1 ha
   have ht':=arr1 ht
   have key:SOk E H C.P w (Builtin.len_ #[t] o.type #[ρ x]) z:=by
    split at h
    ·rename_i hu;exact (lenStr_ok hu (hr x) h).sok hs
    ·rename_i e hu;exact (lenSl_ok hu (hr x) h).sok hs
    ·rename_i n e hu;exact (lenArr_ok (E:=E) hu h).sok hs
    ·cases h
   rw [D0 hop hb,ha',ht',show (#[x]:Array Operand).map ρ = #[ρ x] from by simp]
   exact key.rok
  ·rename_i x t hb ha ht
   have ha':=arr1 ha
   have ht':=arr1 ht
   split at h
   ·rename_i e hu
    rw [D0 hop hb,ha',ht',show (#[x]:Array Operand).map ρ = #[ρ x] from by simp]
    exact ((cap_ok hu (hr x) h).sok hs).rok
   ·cases h
  ·rename_i _ x xs hb ha
   rw [D0 hop hb]
   have:=fold_ok (C:=C) (E:=E) (w:=w) (f:=J3) (g:=Builtin.max2) (fun h1 h2 h3=>max2_ok h1 h2 h3) (xs.map r) (xs.map ρ) (r x) z (ρ x) (hr x) (A4.map _ _ _ (fun y _=>hr y)) h
   have key:B1 E C.P w (Builtin.max_ c.argTypes o.type (c.args.map ρ)) z:=by
    unfold Builtin.max_
    rw [Xs,ha]
    exact this
   exact (key.sok hs).rok
  ·rename_i _ x xs hb ha
   rw [D0 hop hb]
   have:=fold_ok (C:=C) (E:=E) (w:=w) (f:=RU) (g:=Builtin.min2) (fun h1 h2 h3=>min2_ok h1 h2 h3) (xs.map r) (xs.map ρ) (r x) z (ρ x) (hr x) (A4.map _ _ _ (fun y _=>hr y)) h
   have key:B1 E C.P w (Builtin.min_ c.argTypes o.type (c.args.map ρ)) z:=by
    unfold Builtin.min_
    rw [Xs,ha]
    exact this
   exact (key.sok hs).rok
  ·cases h
 | _=>simp [hop,BC]at h

end
theorem Rp {n:Int} (h0:0≤n) (h:n≤140737488355328):IntKind.i64.wrap n=n:=by
 have h1:IntKind.i64.bits=64:=rfl
 have h2:IntKind.i64.signed=true:=rfl
 unfold IntKind.wrap
 simp only [h1,h2,VW,decide_eq_true_eq]
 have:n%2^64=n:=Int.emod_eq_of_lt h0 (by omega)
 simp only [this]
 rw [if_neg (by omega)]
theorem L1 {P:Program} {t:TypeId} {i:TypeInfo} {z:Value} (hi:P.info? t=some i) (hz:i.zero=some z) (w:World):(zeroValue t).run P w=.ok z w:=by
 simp [zeroValue,typeInfo,hi,hz,program,Sem.run_bind,Sem.run,Result.andThen]
section
variable {C:Cfg} {E:Env} {H:Aa} {w:World}
structure OR (E:Env) (H:Aa) (w:World) (b:Nat) (B:Blk):Prop where
 lt:b<w.heap.size
 free:¬My E H b
 imm:∀o,E.I b o=none
 rel:(∃cells cs t,B=.cel 0 cells∧w.heap[b]? = some (.cells cs t (0,0))∧A4 E cells cs.toList)∨(B=.map []∧∃clock,w.heap[b]? = some (.map #[] clock))∨(∃cells cs t,B=.typ t cells∧w.heap[b]? = some (.cells cs t (0,0))∧A4 E cells cs.toList)
theorem OR.take {E0:Env} {H0:Aa} {w0:World} (hs:Sim E H w) (st:BH E0 H0 w0 E H w) {b:Nat} {B:Blk} (h:OR E H w b B) (hb:w0.heap.size≤b) :
  Sim (E.setφ H.length 0 b) (H++[B]) w∧BH E0 H0 w0 (E.setφ H.length 0 b) (H++[B]) w:=by
 have hno:∀g x,E.φ H.length g=some x→False:=fun g x hx=>by have:=hs.dom _ _ _ hx;omega
 have hnoκ:∀g x,E.κ H.length g=some x→False:=fun g x hx=>by have:=hs.domk _ _ _ hx;omega
 have hle:E.le (E.setφ H.length 0 b):=by
  refine ⟨fun i g x hx=>?_,fun _ _ _ h=>h,fun _ _ _ h=>h⟩
  have:¬(i=H.length∧g=0):=fun ⟨e1,e2⟩=>hno g x (e1 ▸ hx)
  simp [Env.setφ,this,hx]
 have hloc:Ck (E.setφ H.length 0 b) H.length B=some b:=by
  rcases h.rel with ⟨cells,cs,t,rfl,_⟩ | ⟨rfl,_⟩ | ⟨cells,cs,t,rfl,_⟩ <;> simp [Ck,Env.setφ]
 have hblk:FP (E.setφ H.length 0 b) w H.length B:=by
  rcases h.rel with ⟨cells,cs,t,rfl,h1,h2⟩ | ⟨rfl,ck,h1⟩ | ⟨cells,cs,t,rfl,h1,h2⟩
  ·exact ⟨b,cs,t,by simp [Env.setφ],h1,h2.mono hle,h.imm⟩
  ·exact ⟨b,#[],ck,by simp [Env.setφ],h1,rfl,fun i k v hi=>by simp at hi⟩
  ·exact ⟨b,cs,by simp [Env.setφ],h1,h2.mono hle,h.imm⟩
 have hset:(H++[Blk.dead]).set H.length B=H++[B]:=by simp
 have keep:∀i Bi,H[i]? = some Bi→FP (E.setφ H.length 0 b) w i Bi∧∀x,Ck (E.setφ H.length 0 b) i Bi=some x↔Ck E i Bi=some x:=
  fun i Bi hi=>(hs.blk i Bi hi).keep hle (fun _ _=>rfl) (fun _ _=>rfl)
 have locs:∀i x,loc (E.setφ H.length 0 b) (H++[B]) i=some x→(i=H.length∧x=b)∨(i<H.length∧loc E H i=some x):=by
  intro i x hl
  unfold loc at hl
  rw [VF]at hl
  split at hl
  ·rename_i hi
   refine .inr ⟨hi,?_⟩
   unfold loc
   rw [UU hi]at hl ⊢
   simp only [Option.bind_some]at hl ⊢
   exact ((keep i _ (UU hi)).2 x).1 hl
  ·rename_i hi
   cases hx:i-H.length with
   | succ n=>simp [hx]at hl
   | zero=>
    have:i=H.length:=by omega
    subst this
    rw [hx]at hl
    simp only [List.getElem?_cons_zero,Option.bind_some]at hl
    rw [hloc]at hl;cases hl;exact .inl ⟨rfl,rfl⟩
 have geth:∀i Bi,(H++[B])[i]? = some Bi→(i<H.length∧H[i]? = some Bi)∨(i=H.length∧Bi=B):=by
  intro i Bi hi
  rw [VF]at hi
  split at hi
  ·rename_i hlt;exact .inl ⟨hlt,hi⟩
  ·rename_i hlt
   cases hx:i-H.length with
   | succ n=>simp [hx]at hi
   | zero=>rw [hx]at hi;simp at hi;exact .inr ⟨by omega,hi.symm⟩
 constructor
 ·refine ⟨fun i Bi hi=>?_,fun i g x hx=>?_,fun i g x hx=>?_,fun i Bi n hi hn g hg=>?_,fun i i' x h1 h2=>?_,fun b' o v hv=>hs.imm b' o v hv,fun b' cs' hf=>?_⟩
  ·rcases geth i Bi hi with ⟨_,hi'⟩ | ⟨rfl,rfl⟩
   ·exact (keep i Bi hi').1
   ·exact hblk
  ·simp only [Vc,List.length_singleton]
   by_cases e:i=H.length
   ·omega
   ·simp only [Env.setφ,e,false_and,if_false]at hx
    have:=hs.dom i g x hx;omega
  ·simp only [Vc,List.length_singleton]
   have:=hs.domk i g x hx;omega
  ·rcases geth i _ hi with ⟨hlt,hi'⟩ | ⟨rfl,hB⟩
   ·obtain ⟨h1,h2⟩:=hs.late i Bi n hi' hn g hg
    exact ⟨by simp [Env.setφ,show i≠H.length from by omega,h1],h2⟩
   ·subst hB
    rcases h.rel with ⟨cells,cs,t,rfl,_⟩ | ⟨rfl,_⟩ | ⟨cells,cs,t,rfl,_⟩ <;> cases hn
  ·rcases locs i x h1 with ⟨e1,e2⟩ | ⟨e1,e2⟩ <;> rcases locs i' x h2 with ⟨e3,e4⟩ | ⟨e3,e4⟩
   ·omega
   ·subst e2;exact absurd ⟨i',e4⟩ h.free
   ·subst e4;exact absurd ⟨i,e2⟩ h.free
   ·exact hs.inj i i' x e2 e4
  ·obtain ⟨⟨t',fr',f1⟩,⟨v',f2⟩,f3⟩:=hs.fix b' cs' hf
   refine ⟨⟨t',fr',f1⟩,⟨v',f2⟩,fun i hi=>?_⟩
   rcases locs i b' hi with ⟨_,e⟩ | ⟨_,e⟩
   ·subst e
    rcases h.rel with ⟨cells,cs,t,_,h1,_⟩ | ⟨_,ck,h1⟩ | ⟨cells,cs,t,_,h1,_⟩
    ·rw [h.imm 0]at f2;cases f2
    ·rw [h1]at f1;cases f1
    ·rw [h.imm 0]at f2;cases f2
   ·exact f3 i e
 ·refine ⟨st.le.trans hle,st.os,st.tape,st.output,st.size,st.frame,fun x ⟨i,hi⟩=>?_,st.imm⟩
  rcases locs i x hi with ⟨_,rfl⟩ | ⟨_,h2⟩
  ·exact .inr hb
  ·exact st.own x ⟨i,h2⟩
theorem World.heap_new (w:World) (o:Obj):(w.alloc o).heap[w.heap.size]? = some o:=by simp [World.alloc,-World.alloc_eq]
theorem World.heap_old (w:World) (o:Obj) {b:Nat} (h:b<w.heap.size):(w.alloc o).heap[b]? = w.heap[b]? := by
 show (w.heap.push o)[b]? = _
 rw [Wt,if_neg (by omega)]
theorem Sim.laid (hs:Sim E H w) (o:Obj):Sim E H (w.alloc o)∧BH E H w E H (w.alloc o):=
 hs.ext (.refl E) (fun _ _ _ h=>h) (fun _ _ _ h=>h) (fun b hb=>World.heap_old w o hb) (fun _ _=>rfl) (fun b o v hv hb=>by have:=hs.imm_lt hv;omega) rfl rfl rfl (by simp [World.alloc,-World.alloc_eq])
theorem Sim.free_new (hs:Sim E H w):¬My E H w.heap.size:=fun ⟨i,hi⟩=>by have:=hs.block_lt hi;omega
theorem Sim.imm_new (hs:Sim E H w) (o:Nat):E.I w.heap.size o=none:=by
 cases h:E.I w.heap.size o with
 | none=>rfl
 | some v=>have:=hs.imm_lt h;omega
theorem R9 (z:Array Value) (n:Nat) (hz:z.size≠0):((Array.range (n*z.size)).map (z[· % z.size]!)).toList=(List.replicate n z.toList).flatten:=by
 apply W6
 intro k
 have hl:∀x∈List.replicate n z.toList,x.length=z.size:=fun x hx=>by rw [Xd]at hx;rw [hx.2];simp
 by_cases hk:k<n*z.size
 ·have h1:k / z.size<n:=(Wv (by omega)).2 hk
  have h2:k%z.size<z.size:=W9 _ (by omega)
  have:=EM (List.replicate n z.toList) (k / z.size) (k%z.size) z.toList z[k%z.size] hl (by rw [Xg,if_pos h1]) (by simp [h2])
  rw [Wr,WU]at this
  rw [this]
  simp [hk,h2]
 ·rw [Vl (by simp;omega),Vl (by rw [CV _ hl];simp;omega)]
theorem A4.flatten_repl {xs:List Ab} {vs:List Value} (h:A4 E xs vs):∀n,A4 E (List.replicate n xs).flatten (List.replicate n vs).flatten
 | 0=>.nil E
 | n+1=>by
  simp only [List.replicate_succ,List.flatten_cons]
  exact h.append (h.flatten_repl n)
structure LaysTo (E:Env) (H:Aa) (C:Cfg) (w:World) (s:Sem Next) (z:Ab) (H':Aa) (st:Aa→Option (Ab×Aa)) where
 ex:∃(B:Blk) (v:Value) (o:Obj) (f:Nat→Ab),H'=H++[B]∧z=f H.length∧(∀H2:Aa,st H2=some (f H2.length,H2++[B]))∧s.run C.P w=.ok (.value v) (w.alloc o)∧OR E H (w.alloc o) w.heap.size B ∧
  (∀(E':Env) (n:Nat),E'.φ n 0=some w.heap.size→Ax E' (f n) v)
theorem alloc_ok (hs:Sim E H w) {t:TypeId} {z:Ab} {H':Aa} {s:Sem Next} {cells:List Ab} {cs:Array Value} {tt:TypeId} (hrun:s.run C.P w=.ok (.value (.pointer (some ⟨w.heap.size,0,none⟩))) (w.alloc (.cells cs tt))) (hr:A4 E cells cs.toList)
  (h:Az (some cells) H=some (z,H')) :
  LaysTo E H C w s z H' (Az (some cells)):=by
 unfold Az at h
 simp only [Option.bind_some]at h
 split at h
 ·injection h with h
  simp only [Vv]at h
  obtain ⟨rfl,rfl⟩:=h
  refine ⟨.cel 0 cells,_,_,fun n=>.ptr n 0 0,rfl,rfl,fun H2=>by simp only [Az,Option.bind_some];rw [if_pos (by assumption)],hrun,⟨by simp [World.alloc,-World.alloc_eq],hs.free_new,hs.imm_new,.inl ⟨cells,cs,tt,rfl,World.heap_new w _,hr⟩⟩,fun E' n hn=>.ptr hn⟩
 ·cases h
theorem allocT_ok (hs:Sim E H w) {t:TypeId} {z:Ab} {H':Aa} {s:Sem Next} {cells:List Ab} {cs:Array Value} {tt:TypeId} (hrun:s.run C.P w=.ok (.value (.pointer (some ⟨w.heap.size,0,none⟩))) (w.alloc (.cells cs tt))) (hr:A4 E cells cs.toList)
  (h:I8 tt (some cells) H=some (z,H')) :
  LaysTo E H C w s z H' (I8 tt (some cells)):=by
 unfold I8 at h
 simp only [Option.bind_some]at h
 split at h
 ·injection h with h
  simp only [Vv]at h
  obtain ⟨rfl,rfl⟩:=h
  refine ⟨.typ tt cells,_,_,fun n=>.ptr n 0 0,rfl,rfl,fun H2=>by simp only [I8,Option.bind_some];rw [if_pos (by assumption)],hrun,⟨by simp [World.alloc,-World.alloc_eq],hs.free_new,hs.imm_new,.inr (.inr ⟨cells,cs,tt,rfl,World.heap_new w _,hr⟩)⟩,fun E' n hn=>.ptr hn⟩
 ·cases h
theorem stepA_ok (hs:Sim E H w) {r:Operand→Ab} {ρ:Operand→Value} (hr:∀x,Ax E (r x) (ρ x)) {o:Oper} {z:Ab} {H':Aa} (h:C9 C o.op r H=some (z,H')):LaysTo E H C w (execOp ρ o) z H' (C9 C o.op r):=by
 cases hop:o.op with
 | alloc t=>
  simp only [hop,C9]at h
  split at h
  ·cases h
  ·rename_i hk
   obtain ⟨_,_,_,_,i,zz,hi,hz,_⟩:=C7 (P:=C.P) (t:=t) (by simpa using hk)
   have hzT:GB C.P t=some (zz.cells.toList.map Lp):=by simp [GB,hi,hz]
   rw [hzT]at h
   have hst:C9 C (.alloc t) r=fun H2=>(match selfT C.P t with | true=>I8 t (some (zz.cells.toList.map Lp)) H2 | false=>Az (some (zz.cells.toList.map Lp)) H2):=by funext H2;simp only [C9];rw [if_neg (by assumption),hzT] <;> (cases selfT C.P t <;> rfl)
   rw [hst]
   cases hse:selfT C.P t with
   | true=>
    rw [hse]at h
    refine allocT_ok (t:=t) (tt:=t) hs ?_ (Jr zz) h
    simp only [execOp,hop,Instr.alloc,Sem.run_bind,L1 hi hz,Result.andThen_ok,newVar,newRow,newObj,Sem.run,Sem.run_pure]
    rfl
   | false=>
    rw [hse]at h
    refine alloc_ok (t:=t) (tt:=t) hs ?_ (Jr zz) h
    simp only [execOp,hop,Instr.alloc,Sem.run_bind,L1 hi hz,Result.andThen_ok,newVar,newRow,newObj,Sem.run,Sem.run_pure]
    rfl
 | box t x=>
  simp only [hop,C9]at h
  split at h
  ·rename_i cs hcs
   split at h
   ·cases h
   ·rename_i hk
    obtain ⟨k1,k2⟩:=KO (hr x) hcs
    have hst:C9 C (.box t x) r=Az (some cs):=by funext H2;simp only [C9,hcs];rw [if_neg hk]
    rw [hst]
    refine alloc_ok (t:=t) (tt:=t) hs ?_ k1 h
    simp only [execOp,hop,Instr.box,Sem.run_bind,newVar,newRow,newObj,Sem.run,Sem.run_pure,Result.andThen_ok]
    rfl
  ·cases h
 | makeSlice t l c=>
  simp only [hop,C9]at h
  split at h
  ·rename_i e hu
   split at h
   ·cases h
   ·rename_i hk
    obtain ⟨_,hsz,_,hz1,i,zz,hi,hz,hisz⟩:=C7 (P:=C.P) (t:=e) (by simpa using hk)
    have hzT:GB C.P e=some (zz.cells.toList.map Lp):=by simp [GB,hi,hz]
    rw [hzT]at h
    unfold Fi at h
    simp only [Option.bind_some]at h
    have hl:=hr l
    have hc:=hr c
    split at h
    ·rename_i ll cc hll hcc
     rw [hll]at hl;rw [hcc]at hc
     split at h
     ·rename_i hcond
      have hcond:=hcond
      obtain ⟨_,hzl,h0,hlc,hb,hb2⟩:=hcond
      injection h with h
      simp only [Vv]at h
      obtain ⟨rfl,rfl⟩:=h
      have hw1:IntKind.i64.wrap ll=ll:=Rp (by omega) (by omega)
      have hw2:IntKind.i64.wrap cc=cc:=Rp (by omega) (by omega)
      have hby:Fs C.P e=i.bytes:=by simp [Fs,hi]
      have hzs:zz.cells.size=Aq C.P e:=hz1 zz (by simp [hi,hz])
      have hcells:∀n:Nat,((Array.range (n*Aq C.P e)).map (zz.cells[· % zz.cells.size]!)).toList=(List.replicate n zz.cells.toList).flatten:=fun n=>by rw [←hzs];exact R9 _ _ (by omega)
      obtain ⟨cs,hcs,hrun⟩:∃cs:Array Value,cs.toList=(List.replicate cc.toNat zz.cells.toList).flatten∧(execOp ρ o).run C.P w=.ok (.value (.slice (some ⟨w.heap.size,0,none⟩) ll.toNat cc.toNat)) (w.alloc (.cells cs e)):=by
       have hti:∀w,(typeInfo e).run C.P w=.ok i w:=fun w=>by simp [typeInfo,hi,program,Sem.run_bind,Sem.run,Result.andThen]
       have hlarge:(decide (cc<0)||decide ((i.bytes:Int)*cc>2^48)||decide (ll<0)||decide (ll>cc))=false:=by
        have:(i.bytes:Int)*cc≤140737488355328:=by rw [←hby,Yf];exact hb
        simp;omega
       have hroom:∀w,(askRoom (cc.toNat*i.bytes)).run C.P w=.ok () w:=fun w=>by
        unfold askRoom
        split <;> simp [mark,Sem.run]
       refine ⟨if cc.toNat*Aq C.P e=0 then #[]else (Array.range (cc.toNat*Aq C.P e)).map (zz.cells[· % zz.cells.size]!),?_,?_⟩
       ·split
        ·rename_i h00
         have:cc.toNat=0:=by rcases Nat.mul_eq_zero.1 h00 with h | h;exact h;exact absurd h hsz
         simp [this]
        ·exact hcells _
       ·have hrange:Array.range 0 = #[]:=by apply XO;simp
        simp only [execOp,hop,Instr.makeSlice,Sem.run_bind,run_underlying hu,Result.andThen_ok,hl.int_inv,hc.int_inv,asInt,asIntOf,Sem.run_pure,hti,hw1,hw2,hlarge,Vd,if_false,hroom,Hg hsz]
        split
        ·rename_i h00
         simp [h00,newRow,newObj,Sem.run,Sem.run_bind,Result.andThen,hrange,-World.alloc_eq,World.alloc]
        ·rename_i h00
         simp [h00,newRow,newObj,Sem.run,Sem.run_bind,L1 hi hz,Result.andThen,-World.alloc_eq,World.alloc]
      refine ⟨_,_,_,fun n=>.ms n 0 0 ll.toNat cc.toNat (Aq C.P e) true,rfl,rfl,fun H2=>?_,hrun,⟨by simp [World.alloc,-World.alloc_eq],hs.free_new,hs.imm_new,.inl ⟨_,cs,e,rfl,World.heap_new w _,?_⟩⟩,fun E' n hn=>.ms hn (Va _) (by omega) (fun _=>rfl) (fun _=>rfl) (fun h=>by cases h)⟩
      ·simp only [C9,hu]
       rw [if_neg hk,hzT]
       simp only [Fi,Option.bind_some,hll,hcc]
       rw [if_pos hcond]
      rw [hcs]
      exact A4.flatten_repl (Jr zz) _
     ·cases h
    ·cases h
  ·cases h
 | makeMap t x=>
  have key:Ew H=some (z,H')→C9 C (.makeMap t x) r=Ew→(execOp ρ o).run C.P w=.ok (.value (.map (some w.heap.size))) (w.alloc (.map #[] 0))→LaysTo E H C w (execOp ρ o) z H' (C9 C (.makeMap t x) r):=by
   intro h hst hrun
   rw [hst]
   simp only [Ew,Ve,Vv]at h
   obtain ⟨rfl,rfl⟩:=h
   exact ⟨_,_,_,fun n=>.mp n,rfl,rfl,fun _=>rfl,hrun,⟨by simp [World.alloc,-World.alloc_eq],hs.free_new,hs.imm_new,.inr (.inl ⟨rfl,0,World.heap_new w _⟩)⟩,fun E' n hn=>.mp hn⟩
  simp only [hop,C9]at h
  split at h
  ·refine key h (by funext H2;simp only [C9]) ?_
   simp [execOp,hop,Instr.makeMap,newObj,Sem.run,Sem.run_bind,Result.andThen,-World.alloc_eq,World.alloc]
  ·rename_i y _ _ hu
   split at h
   ·rename_i k n hy
    have hy':=hr y
    rw [hy]at hy'
    refine key h (by funext H2;simp only [C9,hu,hy]) ?_
    simp [execOp,hop,Instr.makeMap,newObj,Sem.run,Sem.run_bind,Result.andThen,-World.alloc_eq,World.alloc,run_underlying hu,hy'.int_inv,asInt,asIntOf]
   ·cases h
  ·cases h
 | _=>simp [hop,C9]at h

end
def I9 (E:Env):Res→Ending→Prop
 | .ret x,.returned v=>Ax E x v
 | .pan x,.panicked chain=>∃v,chain=[{ v,recovered:=false }]∧Ax E x v
 | _,_=>False
def CallTo (P:Program) (g:FuncId) (vs:Array Value) (w:World) (R:Ending→World→Prop):Prop:=
 ((callFunc g vs).run P w=.ok (.enter g vs) w∧Calls P g vs w R)∨∃v w',(callFunc g vs).run P w=.ok (.value v) w'∧R (.returned v) w'
def D9 (G:HW) (E:Env):Prop:=∀g cs,G g=some cs→Ax E (.cptr cs 0) (.pointer (some ⟨g,0,none⟩))
theorem D9.mono {G:HW} {E E':Env} (h:D9 G E) (hle:E.le E'):D9 G E':=fun g cs hg=>(h g cs hg).mono hle
def CallA (P:Program) (G:HW) (g:FuncId) (args:List Ab) (H:Aa) (res:Res) (H':Aa):Prop:=
 ∀(E:Env) (w:World) (vs:Array Value),D9 G E→Sim E H w→A4 E args vs.toList→CallTo P g vs w fun e w'=>∃E',I9 E' res e∧Sim E' H' w'∧BH E H w E' H' w'
def G6 (P:Program) (G:HW) (orc:Orc):Prop:=∀g args H res H',orc g args H=some (res,H')→CallA P G g args H res H'
section
variable {C:Cfg} {E:Env} {H:Aa} {w:World}
theorem Ns (b:Nat):∀(vs:List Value) (o:Nat) (w:World) (x:Nat),x≠b→(w.setCells b o vs).heap[x]? = w.heap[x]?
 | [],_,_,_,_=>rfl
 | v::r,o,w,x,h=>by
  rw [World.setCells,Ns b r (o+1) _ x h]
  simp [World.setCell,WE,Ne.symm h]
theorem Lw (b:Nat):∀(vs:List Value) (o:Nat) (w:World),(w.setCells b o vs).os=w.os∧(w.setCells b o vs).tape=w.tape∧(w.setCells b o vs).output=w.output∧(w.setCells b o vs).heap.size=w.heap.size
 | [],_,_=>⟨rfl,rfl,rfl,rfl⟩
 | v::r,o,w=>by
  obtain ⟨h1,h2,h3,h4⟩:=Lw b r (o+1) (w.setCell ⟨b,o,none⟩ v)
  rw [World.setCells,h1,h2,h3,h4]
  exact ⟨rfl,rfl,rfl,by simp [World.setCell]⟩
theorem Ly (b:Nat) (t:TypeId) (fr:Nat×Nat):∀(vs:List Value) (o:Nat) (w:World) (cs:Array Value),w.heap[b]? = some (.cells cs t fr)→∃cs':Array Value,(w.setCells b o vs).heap[b]? = some (.cells cs' t fr)∧cs'.size=cs.size
 | [],_,w,cs,h=>⟨cs,h,rfl⟩
 | v::r,o,w,cs,h=>by
  have h1:(w.setCell ⟨b,o,none⟩ v).heap[b]? = some (.cells (cs.setIfInBounds o v) t fr):=by
   simp [World.setCell,WE,h]
  obtain ⟨cs',h2,h3⟩:=Ly b t fr r (o+1) _ _ h1
  exact ⟨cs',by rw [World.setCells];exact h2,by rw [h3];simp⟩
theorem storeVar_ok {t:TypeId} (hz:Aq C.P t≠0) {b o:Nat} {v:Value} {cs:Array Value} {tt:TypeId} (hb:w.heap[b]? = some (.cells cs tt (0,0))) (hn:v.cells.size=Aq C.P t) (hle:o+v.cells.size≤cs.size) (h1:∀u∈v.cells.toList,u.oneCell'=true) :
  (Instr.storeAt t (.pointer (some ⟨b,o,none⟩)) v).run C.P w=.ok () (w.setCells b o v.cells.toList):=by
 have hs:=run_storeCells_cells (P:=C.P) b o v.cells.toList 0 w (fun j hj=>by rw [Bj hb];simp at hj;simp;omega)
  (fun j hj=>by simp [World.frozen?,hb]) h1
 simp only [Nat.add_zero]at hs
 simp only [Instr.storeAt,Instr.sureAddr,Sem.run_bind,Sem.run_pure,Result.andThen_ok,storeVar,Hg hz,hn,ne_eq,not_true_eq_false,if_false,hs]
theorem Lr (hs:Sim E H w) {sz:Nat} {x y:Ab} {u v:Value} {H':Aa} (hx:Ax E x u) (hy:Ax E y v) (h:Ag sz x y H=some H') :
  ∃b o cs tt,u=.pointer (some ⟨b,o,none⟩)∧w.heap[b]? = some (.cells cs tt (0,0))∧v.cells.size=sz∧o+v.cells.size≤cs.size∧(∀q∈v.cells.toList,q.oneCell'=true)∧Sim E H' (w.setCells b o v.cells.toList)∧BH E H w E H' (w.setCells b o v.cells.toList):=by
 unfold Ag at h
 split at h
 ·rename_i id g o
  cases hc:A8 H id g with
  | none=>simp [hc]at h
  | some cs=>
   simp only [hc,Option.bind_some]at h
   cases ha:y.acells with
   | none=>simp [ha]at h
   | some ys=>
    simp only [ha,Option.bind_some]at h
    split at h
    ·rename_i hle
     injection h with h;subst h
     obtain ⟨⟨B,hB,hlB,hcase0⟩,b,vs,tt,h1,h2,h3,hcl,h4⟩:=Gp hs hc
     obtain ⟨b',h5,rfl⟩:=hx.ptr_inv
     rw [h1]at h5;cases h5
     obtain ⟨k1,k2⟩:=KO hy ha
     have e1:ys.length=v.cells.size:=by simpa using k1.1
     have hone:∀q∈v.cells.toList,q.oneCell'=true:=by
      intro q hq
      obtain ⟨i,hi,hqi⟩:=V5 hq
      have hi':i<ys.length:=by rw [k1.1];exact hi
      exact ((k1.2 i ys[i] q (UU hi') (by rw [UU hi,hqi])).one (k2 _ (Vi hi'))).1
     refine ⟨b,o,vs,tt,rfl,h2,by omega,by omega,hone,?_⟩
     obtain ⟨cs',q1,q2⟩:=Ly b tt (0,0) v.cells.toList o w vs h2
     obtain ⟨f1,f2,f3,f4⟩:=Lw b v.cells.toList o w
     have hcell:∀i,cs'[i]? = if o≤i∧i<o+v.cells.size then v.cells[i-o]? else vs[i]? := by
      intro i
      rw [←Bj q1 i]
      split
      ·rename_i hi
       have:=World.cell?_setCells_in b v.cells.toList o w (fun j hj=>by rw [Bj h2];simp at hj;simp;omega) (i-o) (by simp;omega)
       rw [show o+(i-o)=i from by omega]at this
       rw [this]
       simp [show i-o<v.cells.size from by omega]
      ·rename_i hi
       rw [World.cell?_setCells_out b v.cells.toList o w ⟨b,i,none⟩ (fun _ _=>by simp;omega),Bj h2]
     have hlen:(Dp cs o (sz) ys).length=cs.length:=by unfold Dp;simp;omega
     have hrel:A4 E (Dp cs o (sz) ys) (cs'.toList.take (Dp cs o (sz) ys).length):=by
      refine ⟨by rw [hlen];simp;omega,fun i c q hc hq=>?_⟩
      have hq:=HZ hq
      rw [Ww,hcell i]at hq
      have h3':∀(c:Ab) (q:Value),cs[i]? = some c→vs[i]? = some q→Ax E c q:=fun c q g1 g2=>by
       have hi:i<cs.length:=(UV.1 g1).1
       exact h3.2 i c q g1 (by rw [VU hi];simpa using g2)
      unfold Dp at hc
      rw [Vb,VF]at hc
      split at hc
      ·rename_i hi
       rw [Vm]at hi
       rw [if_neg (by omega)]at hq
       rw [VU (by omega)]at hc
       exact h3' c q hc hq
      ·rename_i hi
       rw [Vm,VZ (by omega)]at hi hc
       rw [VF]at hc
       split at hc
       ·rename_i hi2
        rw [if_pos (by omega)]at hq
        exact k1.2 _ c q hc (by simpa using hq)
       ·rename_i hi2
        rw [if_neg (by omega)]at hq
        rw [VB,show o+sz+(i-o-ys.length)=i from by omega]at hc
        exact h3' c q hc hq
     have fin:∀B',Ck E id B'=some b→FP E (w.setCells b o v.cells.toList) id B'→(∀n,B'.gen=some n→B.gen=some n)→Sim E (H.set id B') (w.setCells b o v.cells.toList)∧BH E H w E (H.set id B') (w.setCells b o v.cells.toList):=by
      intro B' hl' hb' hg'
      refine hs.upd hB (.refl E) hb' (fun _ _ _ _ h=>h) (fun _ _ _ _ h=>h) (fun x hx hne=>Ns b _ _ _ _ (fun e=>hne (by rw [e,hlB];exact h1))) (fun _ _ _=>rfl)
       (fun x oo vv hv hcase=>?_) (fun x hx=>.inl (by rw [hlB,h1,←hl'];exact hx)) (fun n hn g hg=>hs.late id B n hB (hg' n hn) g hg) f1 f2 f3 (by omega)
      rcases hcase with hcase | hcase
      ·have:=hs.imm_lt hv;omega
      ·rw [hlB,h1]at hcase;cases hcase
       rw [h4]at hv;cases hv
     rcases hcase0 with rfl | ⟨e,szb,rfl⟩ | ⟨ty,rfl,rfl⟩
     ·have hset:Fv H id g (Dp cs o (sz) ys)=H.set id (.cel g (Dp cs o (sz) ys)):=by simp [Fv,hB]
      rw [hset]
      obtain ⟨b2,vs2,t2,r1,r2,r3,_⟩:=hs.blk id _ hB
      rw [h1]at r1;cases r1
      rw [h2]at r2;cases r2
      have hcv:cs.length=vs.size:=by simpa using r3.1
      refine fin _ h1 ⟨b,cs',tt,h1,q1,?_,h4⟩ (fun n hn=>by cases hn)
      rwa [Vg (by rw [hlen];simp;omega)]at hrel
     ·have hset:Fv H id g (Dp cs o (sz) ys)=H.set id (.buf g (Dp cs o (sz) ys) e szb):=by simp [Fv,hB]
      rw [hset]
      obtain ⟨b2,cap,vs2,r1,r2,r3,r4,r5,r6,r7,r8⟩:=hs.blk id _ hB
      rw [h1]at r1;cases r1
      rw [h2]at r3;cases r3
      exact fin _ h1 ⟨b,cap,cs',h1,r2,q1,by omega,by rw [hlen];omega,r6,hrel,h4⟩ (fun n hn=>hn)
     ·have hset:Fv H id 0 (Dp cs o (sz) ys)=H.set id (.typ ty (Dp cs o (sz) ys)):=by simp [Fv,hB]
      rw [hset]
      obtain ⟨b2,vs2,r1,r2,r3,_⟩:=hs.blk id _ hB
      rw [h1]at r1;cases r1
      rw [h2]at r2;cases r2
      have hcv:cs.length=vs.size:=by simpa using r3.1
      refine fin _ h1 ⟨b,cs',h1,q1,?_,h4⟩ (fun n hn=>by cases hn)
      rwa [Vg (by rw [hlen];simp;omega)]at hrel
    ·cases h
 ·cases h
theorem store_ok (hs:Sim E H w) {t:TypeId} (hz:Aq C.P t≠0) {x y:Ab} {u v:Value} {H':Aa} (hx:Ax E x u) (hy:Ax E y v) (h:Ag (Aq C.P t) x y H=some H') :
  ∃w',(Instr.storeAt t u v).run C.P w=.ok () w'∧Sim E H' w'∧BH E H w E H' w':=by
 obtain ⟨b,o,cs,tt,rfl,h1,h2,h3,h4,h5⟩:=Lr hs hx hy h
 exact ⟨_,storeVar_ok hz h1 h2 h3 h4,h5⟩
theorem clear_ok (hs:Sim E H w) {t e ty:TypeId} (hu:C.P.underlying t=some (.slice e)) (hk:okT C.P e=true) {x:Ab} {u:Value} {H':Aa} (hx:Ax E x u) (h:Kx (Aq C.P e) (GB C.P e) x H=some H') :
  ∃w',(Builtin.clear_ #[t] ty #[u]).run C.P w=.ok (.tuple #[]) w'∧Sim E H' w'∧BH E H w E H' w':=by
 have none':∀a c,u=.slice a 0 c→H=H'→∃w',(Builtin.clear_ #[t] ty #[u]).run C.P w=.ok (.tuple #[]) w'∧Sim E H' w'∧BH E H w E H' w':=fun a c hu' hH=>by
  subst hu';subst hH
  refine ⟨w,?_,hs,.refl _ _ _⟩
  cases a <;> simp [Builtin.clear_,Sem.run_bind,run_underlying hu,Result.andThen_ok]
 unfold Kx at h
 split at h
 ·rename_i es tk
  split at h
  ·rename_i h0
   injection h with h
   cases hx with
   | sl0 ht ha=>exact none' _ _ rfl h
   | sl f hl hI hm hv hc ht=>exact none' _ _ (by rw [h0]) h
  ·cases h
 ·rename_i id g off len cap sz2 ex
  split at h
  ·rename_i h0
   injection h with h
   cases hx with
   | ms h1 hc hl he ho hk'=>exact none' _ _ (by rw [h0]) h
  ·rename_i h0
   obtain ⟨_,hsz,_,hz1,i,zz,hi,hz,hisz⟩:=C7 (P:=C.P) (t:=e) hk
   have hzT:GB C.P e=some (zz.cells.toList.map Lp):=by simp [GB,hi,hz]
   have hzs:zz.cells.size=Aq C.P e:=hz1 zz (by simp [hi,hz])
   rw [hzT]at h
   simp only [Option.bind_some]at h
   split at h
   ·cases hx with
    | ms h1 hc hl he ho hk'=>
     rename_i off' cap' b
     have hoff:off'=off:=ho (by omega)
     subst hoff
     have hrel:Ax E (.agg (L3 len (zz.cells.toList.map Lp))) (.agg (Builtin.zeroCells zz.cells len)):=Ax.agg_of (by
      unfold Builtin.zeroCells
      rw [R9 _ _ (by omega)]
      exact A4.flatten_repl (Jr zz) _)
     obtain ⟨b2,o2,cs,tt,e1,e2,e3,e4,e5,e6⟩:=Lr hs (Ax.ptr h1) hrel h
     cases e1
     refine ⟨_,?_,e6⟩
     have hst:=run_storeCells_cells (P:=C.P) b off' (Builtin.zeroCells zz.cells len).toList 0 w (fun j hj=>by rw [Bj e2];simp at hj;have:(Value.agg (Builtin.zeroCells zz.cells len)).cells=Builtin.zeroCells zz.cells len:=rfl;rw [this]at e4;simp;omega)
      (fun j hj=>by simp [World.frozen?,e2]) e5
     simp only [Nat.add_zero]at hst
     obtain ⟨m,rfl⟩:∃m,len=m+1:=⟨len-1,by omega⟩
     have hst':(storeCells ⟨b,off',none⟩ (Builtin.zeroCells zz.cells (m+1)).toList).run C.P w=.ok () (w.setCells b off' (Builtin.zeroCells zz.cells (m+1)).toList):=hst
     show _=Result.ok (Value.tuple #[]) (w.setCells b off' (Builtin.zeroCells zz.cells (m+1)).toList)
     simp [Builtin.clear_,run_underlying hu,L1 hi hz,hst']
   ·cases h
 ·cases h
theorem range_ok (hs:Sim E H w) {t:TypeId} {x z:Ab} {v:Value} {H':Aa} (hu:C.P.underlying t=some .string) (hx:Ax E x v) (h:N2 x H=some (z,H')) :
  ∃u w' E',(Instr.range t v).run C.P w=.ok u w'∧Ax E' z u∧Sim E' H' w'∧BH E H w E' H' w':=by
 unfold N2 at h
 split at h
 ·rename_i s
  injection h with h
  simp only [Vv]at h
  obtain ⟨rfl,rfl⟩:=h
  rw [hx.str_inv]
  have hno:∀g x,E.φ H.length g=some x→False:=fun g x hx=>by have:=hs.dom _ _ _ hx;omega
  have hle:E.le (E.setφ H.length 0 w.heap.size):=by
   refine ⟨fun i g x hx=>?_,fun _ _ _ h=>h,fun _ _ _ h=>h⟩
   have:¬(i=H.length∧g=0):=fun ⟨e1,e2⟩=>hno g x (e1 ▸ hx)
   simp [Env.setφ,this,hx]
  refine ⟨.pointer (some ⟨w.heap.size,0,none⟩),w.alloc (.stringIter ⟨s.toArray⟩ 0),E.setφ H.length 0 w.heap.size,?_,.ptr (by simp [Env.setφ]),?_⟩
  ·simp [Instr.range,Sem.run_bind,run_underlying hu,Result.andThen_ok,newObj,Sem.run,-World.alloc_eq,World.alloc]
  ·refine hs.push hle ⟨w.heap.size,by simp [Env.setφ],World.heap_new w _⟩ (fun i g b hi hb=>by simpa [Env.setφ,hi]using hb) (fun _ _ _ _ h=>h) (fun b hb=>World.heap_old w _ hb) (fun _ _=>rfl) (fun b o v hv hb=>by have:=hs.imm_lt hv;omega)
    (fun b hb=>by simp [Ck,Env.setφ]at hb;omega) (fun n hB=>by cases hB) rfl rfl rfl (by simp [World.alloc,-World.alloc_eq])
 ·cases h
theorem next_ok (hs:Sim E H w) {ty:TypeId} {x z:Ab} {v:Value} {H':Aa} (hx:Ax E x v) (h:Ob x H=some (z,H')) :
  ∃u w',(Instr.next v true ty).run C.P w=.ok u w'∧Ax E z u∧Sim E H' w'∧BH E H w E H' w':=by
 unfold Ob at h
 split at h
 ·rename_i id
  split at h
  ·rename_i s pos hH
   obtain ⟨b,h1,rfl⟩:=hx.ptr_inv
   obtain ⟨b',h2,h3⟩:=hs.blk id _ hH
   rw [h1]at h2;cases h2
   have hget:∀(k:Obj→Sem Value),(Sem.bind (getObj b) k).run C.P w=(k (.stringIter ⟨s.toArray⟩ pos)).run C.P w:=by
    intro k
    simp [getObj,Sem.bind,Sem.run,h3]
   split at h
   ·rename_i hlt
    injection h with h
    simp only [Vv]at h
    obtain ⟨rfl,rfl⟩:=h
    have hbl:b<w.heap.size:=(VK.1 h3).1
    refine ⟨.tuple #[.bool true,goInt pos,.int .i32 (Utf8.decode ⟨s.toArray⟩ pos).1],{ w with heap:=w.heap.setIfInBounds b (.stringIter ⟨s.toArray⟩ (pos+(Utf8.decode ⟨s.toArray⟩ pos).2)) },?_,?_,?_⟩
    ·unfold Instr.next
     simp only [bind]
     erw [hget]
     simp only [JX,hlt,if_true]
     simp [setObj,Sem.bind,Sem.run,h3,bind]
    ·exact .tup_of (.cons (.bool true) (.cons (.int _ _) (.cons (.int _ _) (.nil E))))
    ·refine hs.upd hH (.refl E) ⟨b,h1,by simp [hbl]⟩ (fun _ _ _ _ h=>h) (fun _ _ _ _ h=>h) (fun y hy hne=>?_) (fun _ _ _=>rfl) (fun y o vv hv hcase=>?_) (fun y hy=>.inl hy) (fun n hB=>by cases hB) rfl rfl rfl (by simp)
     ·have:b≠y:=fun e=>hne (by rw [←e];exact h1)
      simp [Wu this]
     ·exfalso
      rcases hcase with hcase | hcase
      ·have:=hs.imm_lt hv;omega
      ·simp only [Ck]at hcase
       rw [h1]at hcase;cases hcase
       have:=hs.imm _ _ _ hv
       simp [World.cell?,h3]at this
   ·rename_i hlt
    injection h with h
    simp only [Vv]at h
    obtain ⟨rfl,rfl⟩:=h
    refine ⟨.tuple #[.bool false],w,?_,.tup_of (.cons (.bool false) (.nil E)),hs,.refl _ _ _⟩
    unfold Instr.next
    simp only [bind]
    erw [hget]
    simp [JX,hlt]
  ·cases h
 ·cases h

end
theorem PM (sz:Nat):∀(n:Nat) (cs:List Ab),(Gt sz n cs).length=n
 | 0,_=>rfl
 | n+1,cs=>by simp [Gt,PM sz n]
theorem Ky (sz:Nat):∀(n:Nat) (cs:List Ab),cs.length=n*sz→(Gt sz n cs).flatten=cs∧∀x∈Gt sz n cs,x.length=sz
 | 0,cs,h=>by
  have:cs=[]:=Vo (by simpa using h)
  subst this;exact ⟨rfl,by simp [Gt]⟩
 | n+1,cs,h=>by
  rw [VM]at h
  obtain ⟨h1,h2⟩:=Ky sz n (cs.drop sz) (by rw [Vx];omega)
  refine ⟨by simp [Gt,h1],fun x hx=>?_⟩
  simp only [Gt,V7]at hx
  rcases hx with rfl | hx
  ·rw [Vm];omega
  ·exact h2 x hx
theorem Of (sz n:Nat) (cs:List Ab) (h:cs.length=n*sz):∀x∈Gt sz n cs,∀c∈x,c∈cs:=by
 intro x hx c hc
 rw [←(Ky sz n cs h).1]
 exact Yi.2 ⟨x,hx,hc⟩
section
variable {C:Cfg} {E:Env} {H:Aa} {w:World}
theorem Lt (hs:Sim E H w) {es:List (List Ab)} {tk:Tok} {v:Value} (h:Ax E (.sl es tk) v) {sz:Nat} (hsz:∀x∈es,x.length=sz) :
  ∃ad cap,v=.slice ad es.length cap∧es.length≤cap∧(ad=none→es=[]∧cap=0)∧KP E tk ad es.length cap∧(∀x∈es,∀c∈x,BE c=true) ∧
   ∃us:List Value,A4 E es.flatten us∧∀a,ad=some a→∀(j:Nat) (u:Value),us[j]? = some u→a.spot=none∧E.I a.block (a.off+j)=some u:=by
 cases h with
 | sl0 ht ha=>exact ⟨_,_,rfl,Vy _,fun h=>⟨rfl,ha h⟩,ht,by simp,[],.nil E,fun a h j u h=>by simp at h⟩
 | sl f hl hI hm hv hc ht=>
  rename_i b o s cap
  refine ⟨_,_,rfl,hc,fun h=>(by cases h),ht,fun x hx c hcx=>?_,?_⟩
  ·obtain ⟨i,hi,hxi⟩:=V5 hx
   obtain ⟨j,hj,hcj⟩:=V5 hcx
   exact hm i x j c (by rw [UU hi,hxi]) (by rw [UU hj,hcj])
  ·have hs':∀x∈es,x.length=s:=fun x hx=>by
    obtain ⟨i,hi,hxi⟩:=V5 hx
    exact hl i x (by rw [UU hi,hxi])
   have hflen:=CV es hs'
   by_cases hz:s=0
   ·have:es.flatten=[]:=Vo (by rw [hflen,hz,Nat.mul_zero])
    exact ⟨[],by rw [this];exact .nil E,fun a ha j u h=>by simp at h⟩
   ·have hgl:∀k,k<es.flatten.length→k / s<es.length∧k%s<s:=fun k hk=>by
     rw [hflen]at hk
     exact ⟨(Wv (by omega)).2 hk,W9 _ (by omega)⟩
    have hel:∀k (hk:k<es.flatten.length),∃e c,es[k / s]? = some e∧e[k%s]? = some c∧es.flatten[k]? = some c:=fun k hk=>by
     obtain ⟨h1,h2⟩:=hgl k hk
     have hx:=hs' _ (Vi h1)
     refine ⟨es[k / s],es[k / s][k%s]'(by omega),UU h1,UU (by omega),?_⟩
     have:=EM es (k / s) (k%s) _ _ hs' (UU h1) (UU (by omega))
     rwa [Wr,WU]at this
    refine ⟨(List.range es.flatten.length).map fun k=>f (k / s) (k%s),⟨by simp,fun k c u h1 h2=>?_⟩,fun a ha k u hu=>?_⟩
    ·have hk:k<es.flatten.length:=(UV.1 h1).1
     obtain ⟨e,c',g1,g2,g3⟩:=hel k hk
     rw [h1]at g3;cases g3
     rw [V0,Wh hk]at h2
     simp at h2;subst h2
     exact hv _ _ _ _ g1 g2
    ·cases ha
     refine ⟨rfl,?_⟩
     have hk:k<es.flatten.length:=by have:=(UV.1 hu).1;simpa using this
     rw [V0,Wh hk]at hu
     simp at hu;subst hu
     obtain ⟨h1,h2⟩:=hgl k hk
     have:=hI (k / s) (k%s) h1 h2
     rwa [Wr (k / s) s,WU]at this
theorem S7 (hs:Sim E H w) {x:Ab} {v:Value} (hx:Ax E x v) (hns:∀s,x≠.str s) {sz:Nat} {es:List (List Ab)} (h:BY sz x H=some es) :
  ∃ad cap,v=.slice ad es.length cap∧es.length≤cap∧(ad=none→es=[]∧cap=0)∧(∀x∈es,x.length=sz)∧(∀x∈es,∀c∈x,BE c=true) ∧
   ∃us:List Value,A4 E es.flatten us∧∀a,ad=some a→∀(j:Nat) (u:Value),us[j]? = some u→w.cell? (a.add j)=some u:=by
 unfold BY at h
 split at h
 ·rename_i es' tk
  split at h
  ·rename_i hall
   injection h with h;subst h
   have hsz:∀x∈es',x.length=sz:=by simpa using hall
   obtain ⟨ad,cap,h1,h2,h3,h4,h5,us,h6,h7⟩:=Lt hs hx hsz
   refine ⟨ad,cap,h1,h2,h3,hsz,h5,us,h6,fun a ha j u hu=>?_⟩
   obtain ⟨q1,q2⟩:=h7 a ha j u hu
   obtain ⟨b,o,sp⟩:=a
   simp at q1;subst q1
   rw [CX]
   exact hs.imm _ _ _ q2
  ·cases h
 ·rename_i id g off len cap sz' ex
  split at h
  ·rename_i hsz
   cases hg:A8 H id g with
   | none=>simp [hg]at h
   | some cs=>
    simp only [hg,Option.bind_some]at h
    split at h
    ·rename_i hle
     injection h with h
     obtain ⟨_,b,vs,t,q1,q2,q3',hqn,_⟩:=Gp hs hg
     have q3:A4 E cs (vs.toList.take cs.length):=q3'
     have hlen:(((cs.drop off).take (len*sz)).map LO).length=len*sz:=by simp;omega
     obtain ⟨k1,k2⟩:=Ky sz len _ hlen
     have k3:=PM sz len (((cs.drop off).take (len*sz)).map LO)
     cases hx with
     | ms p1 p2 p3 p4 p5 p6=>
      rename_i off' cap' b'
      rw [q1]at p1;cases p1
      subst h
      rw [k3]
      refine ⟨_,_,rfl,by omega,fun h=>(by cases h),k2,fun x hx c hc=>?_,((vs.toList.take cs.length).drop off).take (len*sz),?_,fun a ha j u hu=>?_⟩
      ·exact (Vn.1 hle.2) c (Of sz len _ hlen x hx c hc)
      ·rw [k1]
       have:=(q3.drop off).take (len*sz)
       refine ⟨by simpa using this.1,fun i c u h1 h2=>?_⟩
       rw [V0]at h1
       cases hci:((cs.drop off).take (len*sz))[i]? with
       | none=>simp [hci]at h1
       | some c'=>simp [hci]at h1;subst h1;exact immC_rel (this.2 i c' u hci h2)
      ·cases ha
       rw [CX,Bj q2]
       by_cases hcap:cap'=0
       ·have:len=0:=by omega
        subst this
        simp at hu
       ·rw [p5 hcap]
        have:=Jt hu
        rw [VB]at this
        have:=HZ this
        simpa using this
    ·cases h
  ·cases h
 ·cases h
def Env.tokE (E:Env) (t n b cap:Nat) (f:Nat→Option Value):Env where
 φ:=fun i j=>if i=t∧j=n then some b else E.φ i j
 κ:=fun i j=>if i=t∧j=n then some cap else E.κ i j
 I:=fun i o=>if i=b then f o else E.I i o
theorem KR {t e:TypeId} (hu:C.P.underlying t=some (.slice e)) (hz:Aq C.P e≠0) (ty:TypeId) (ad ad':Option Addr) (len cap cap':Nat) (hle:len≤cap) :
  (Builtin.append_ #[t,t] ty #[.slice ad len cap,.slice ad' 0 cap']).run C.P w=.ok (.slice ad len cap) w:=by
 cases ad' <;> cases ad <;> simp [Builtin.append_,Sem.run_bind,run_underlying hu,Result.andThen_ok,Hg hz,Builtin.lenOf,hle,Builtin.firstCells,loadCells,loadCellsFrom,storeCells]
theorem grown_ok (hs:Sim E H w) {e:TypeId} {sz:Nat} {es ys:List (List Ab)} {us ns:List Value} {cap:Nat} {t:Nat} (z:Value)
  (hes:∀x∈es,x.length=sz) (hys:∀x∈ys,x.length=sz) (hes2:∀x∈es,∀c∈x,BE c=true) (hys2:∀x∈ys,∀c∈x,BE c=true)
  (hus:A4 E es.flatten us) (hns:A4 E ys.flatten ns) (hzs:z.cells.size=sz) (hcap:es.length+ys.length≤cap) (hcm:cap≤9223372036854775807) (hpos:0<ys.length) (hszp:0<sz)
  {B:Blk} (hB:H[t]? = some B) (hfree:∀g,es.length+ys.length≤g→E.φ t g=none∧E.κ t g=none) :
  let w':=w.drew.alloc (.cells (us.toArray++ns.toArray++Builtin.zeroCells z.cells (cap-(es.length+ys.length))) e)
  ∃E',Ax E' (.sl (es++ys) (.own t)) (.slice (some ⟨w.heap.size,0,none⟩) (es.length+ys.length) cap)∧Sim E' (H.set t (.tok (es.length+ys.length) e sz)) w'∧BH E H w E' (H.set t (.tok (es.length+ys.length) e sz)) w':=by
 intro w'
 have hul:us.length=es.length*sz:=by rw [←hus.1,CV es hes]
 have hnl:ns.length=ys.length*sz:=by rw [←hns.1,CV ys hys]
 obtain ⟨all,hall⟩:∃all,all=us.toArray++ns.toArray++Builtin.zeroCells z.cells (cap-(es.length+ys.length)):=⟨_,rfl⟩
 have hsize:all.size=cap*sz:=by
  rw [hall]
  simp only [Yg,Ya,size_zeroCells,hzs,hul,hnl]
  rw [←VM,←VM];congr 1;omega
 have hnew:w'.heap[w.heap.size]? = some (.cells all e (0,0)):=by
  show (w.heap.push _)[w.heap.size]? = _
  simp [hall]
 have hold:∀b,b<w.heap.size→w'.heap[b]? = w.heap[b]? := fun b hb=>by
  show (w.heap.push _)[b]? = _
  rw [Wt,if_neg (by omega)]
 let E':=E.tokE t (es.length+ys.length) w.heap.size cap (fun o=>if o<(es.length+ys.length)*sz then all[o]? else none)
 have hle:E.le E':=by
  refine ⟨fun i g b hb=>?_,fun i g b hb=>?_,fun b o v hv=>?_⟩
  ·have:¬(i=t∧g=es.length+ys.length):=fun ⟨e1,e2⟩=>by rw [e1,e2,(hfree _ (Va _)).1]at hb;cases hb
   simp [E',Env.tokE,this,hb]
  ·have:¬(i=t∧g=es.length+ys.length):=fun ⟨e1,e2⟩=>by rw [e1,e2,(hfree _ (Va _)).2]at hb;cases hb
   simp [E',Env.tokE,this,hb]
  ·have:b≠w.heap.size:=fun e=>by have:=hs.imm_lt hv;omega
   simp [E',Env.tokE,this,hv]
 have hφ:E'.φ t (es.length+ys.length)=some w.heap.size:=by simp [E',Env.tokE]
 have hκ:E'.κ t (es.length+ys.length)=some cap:=by simp [E',Env.tokE]
 have hrel:A4 E (es++ys).flatten (us++ns):=by rw [X1];exact hus.append hns
 have hmem:∀(k:Nat) (u:Value),(us++ns)[k]? = some u→all[k]? = some u∧k<(es.length+ys.length)*sz:=by
  intro k u hu
  have hk:k<(us++ns).length:=(UV.1 hu).1
  refine ⟨?_,by rw [Vc,hul,hnl,←VM]at hk;exact hk⟩
  rw [hall,Array.getElem?_append_left (by simpa using hk)]
  simpa using hu
 refine ⟨E',?_,?_⟩
 ·have hlall:∀x∈es++ys,x.length=sz:=fun x hx=>(Vt.1 hx).elim (hes x) (hys x)
  have him:∀x∈es++ys,∀c∈x,BE c=true:=fun x hx=>(Vt.1 hx).elim (hes2 x) (hys2 x)
  have key:∀(i j:Nat) (x:List Ab) (c:Ab),(es++ys)[i]? = some x→x[j]? = some c→∃u,(us++ns)[i*sz+j]? = some u∧Ax E c u:=fun i j x c h1 h2=>hrel.get (EM _ i j x c hlall h1 h2)
  have hcap':(es++ys).length≤cap:=by rw [Vc];exact hcap
  have:=Ax.sl (E:=E') (es:=es++ys) (tk:=.own t) (b:=w.heap.size) (o:=0) (s:=sz) (cap:=cap) (fun i j=>((us++ns)[i*sz+j]?).getD undef) (fun i x h=>hlall x (Vz h)) (fun i j hi hj=>?_)
   (fun i x j c h1 h2=>him x (Vz h1) c (Vz h2)) (fun i x j c h1 h2=>?_) hcap' ⟨w.heap.size,by rw [Vc];exact hφ,by rw [Vc];exact hκ,rfl⟩
  ·rw [Vc]at this;exact this
  ·have hx:=hlall _ (Vi hi)
   obtain ⟨u,h1,_⟩:=key i j (es++ys)[i] ((es++ys)[i][j]'(by omega)) (UU hi) (UU (by omega))
   obtain ⟨h2,h3⟩:=hmem _ _ h1
   rw [h1]
   simp only [E',Env.tokE,UY,if_true,if_pos h3,h2,Option.getD_some]
  ·obtain ⟨u,h3,h4⟩:=key i j x c h1 h2
   rw [h3];exact h4.mono hle
 ·have hblk:FP E' w' t (.tok (es.length+ys.length) e sz):=by
   refine ⟨w.heap.size,cap,all,hφ,hκ,hnew,hsize,hcap,hcm,fun o ho=>?_⟩
   simp [E',Env.tokE,Nat.not_lt.2 ho]
  have:=hs.upd (E':=E') (w':=w') hB hle hblk (fun i g b hi hb=>by simpa [E',Env.tokE,hi]using hb) (fun i g b hi hb=>by simpa [E',Env.tokE,hi]using hb) (fun b hb _=>hold b hb)
   (fun b hb _=>by funext o;simp [E',Env.tokE,show b≠w.heap.size from by omega]) (fun b o v hv hcase=>?_) (fun b hb=>?_) (fun n hB' g hg=>?_) rfl rfl rfl ?_
  ·exact this
  ·by_cases hbn:b=w.heap.size
   ·subst hbn
    rw [Bj hnew]
    simp only [E',Env.tokE,if_true]at hv
    split at hv
    ·exact hv
    ·cases hv
   ·simp only [E',Env.tokE,if_neg hbn]at hv
    have hlt:=hs.imm_lt hv
    rw [World.cell?_of_block (w:=w) (hold b hlt)]
    exact hs.imm _ _ _ hv
  ·simp only [Ck]at hb
   rw [hφ]at hb;cases hb
   exact .inr (Va _)
  ·cases hB'
   have hne:¬(g=es.length+ys.length):=by omega
   obtain ⟨q1,q2⟩:=hfree g (by omega)
   exact ⟨by simp [E',Env.tokE,hne,q1],by simp [E',Env.tokE,hne,q2]⟩
  ·show w.heap.size≤(w.heap.push _).size
   simp
theorem room_ok (hs:Sim E H w) {t e ty:TypeId} {i:TypeInfo} {es ys:List (List Ab)} {tt capx capy:Nat} {adx:Option Addr} {a:Addr} {ns:List Value} (hu:C.P.underlying t=some (.slice e)) (hi:C.P.info? e=some i) (hisz:i.size=Aq C.P e)
  (hx:Ax E (.sl es (.own tt)) (.slice adx es.length capx)) (hx3:∀x∈es,x.length=Aq C.P e) (hx4:∀x∈es,∀c∈x,BE c=true) (hy3:∀x∈ys,x.length=Aq C.P e) (hy4:∀x∈ys,∀c∈x,BE c=true) (hy5:A4 E ys.flatten ns) (hnl:ns.length=ys.length*i.size)
  (hy6:∀b,some a=some b→∀(j:Nat) (u:Value),ns[j]? = some u→w.cell? (b.add j)=some u) (hone:∀q∈ns,q.oneCell'=true) (hroom:es.length+ys.length≤capx)
  (hH:H[tt]? = some (.tok es.length e (Aq C.P e))) (hsz:0<Aq C.P e) (hpos:0<ys.length) :
  ∃r w' E',(Builtin.append_ #[t,t] ty #[.slice adx es.length capx,.slice (some a) ys.length capy]).run C.P w=.ok r w'∧Ax E' (.sl (es++ys) (.own tt)) r∧Sim E' (H.set tt (.tok (es.length+ys.length) e (Aq C.P e))) w'∧BH E H w E' (H.set tt (.tok (es.length+ys.length) e (Aq C.P e))) w':=by
 obtain ⟨ad2,cap2,e1,_,_,hto,_,us,hx5,hx7⟩:=Lt hs hx hx3
 injection e1 with e1 _ e2
 subst e1;subst e2
 obtain ⟨b,q1,q2,rfl⟩:=hto
 obtain ⟨b',cap',cs,p1,p2,p3,p4,p5,p6,p7⟩:=hs.blk tt _ hH
 rw [q1]at p1;cases p1
 rw [q2]at p2;cases p2
 have hx8:=fun j u hj=>(hx7 _ rfl j u hj).2
 simp only [UY]at hx8
 have hul:us.length=es.length*Aq C.P e:=by rw [←hx5.1,CV es hx3]
 have hnl':ns.length=ys.length*Aq C.P e:=by rw [hnl,hisz]
 have hfit:es.length*i.size+ns.length≤cs.size:=by rw [hnl,hisz,p4,←VM];exact VE _ hroom
 have hrun:=run_append_room (P:=C.P) w t ty e i hu hi b es.length capx cs p3 a ys.length capy ns hnl (hy6 a rfl) hone hroom hfit
 rw [hisz]at hrun hfit
 obtain ⟨all,hall⟩:∃all:Array Value,all=(cs.toList.take (es.length*Aq C.P e)++ns++cs.toList.drop (es.length*Aq C.P e+ns.length)).toArray:=⟨_,rfl⟩
 rw [←hall]at hrun
 have hnew:(w.setRow b all).heap[b]? = some (.cells all e (0,0)):=setRow_heap w b cs all e _ p3
 have hsize:all.size=cs.size:=by rw [hall];simp;omega
 have hget1:∀k,k<es.length*Aq C.P e→all[k]? = cs[k]? := fun k hk=>by
  rw [hall,List.getElem?_toArray,Vb,UW (by simp;omega),VU hk];simp
 have hget2:∀k,k<ns.length→all[es.length*Aq C.P e+k]? = ns[k]? := fun k hk=>by
  rw [hall,List.getElem?_toArray,Vb,Vu (by simp;omega),UW (by simp;omega)]
  congr 1;simp;omega
 have hlate:=hs.late tt _ _ hH rfl
 have hfree:E.φ tt (es.length+ys.length)=none∧E.κ tt (es.length+ys.length)=none:=hlate _ (by omega)
 let E':=E.tokE tt (es.length+ys.length) b capx (fun o=>if o<es.length*Aq C.P e then E.I b o else ns[o-es.length*Aq C.P e]?)
 have hle:E.le E':=by
  refine ⟨fun i g b hb=>?_,fun i g b hb=>?_,fun b' o v hv=>?_⟩
  ·have:¬(i=tt∧g=es.length+ys.length):=fun ⟨e1,e2⟩=>by rw [e1,e2,hfree.1]at hb;cases hb
   simp [E',Env.tokE,this,hb]
  ·have:¬(i=tt∧g=es.length+ys.length):=fun ⟨e1,e2⟩=>by rw [e1,e2,hfree.2]at hb;cases hb
   simp [E',Env.tokE,this,hb]
  ·by_cases hb:b'=b
   ·subst hb
    have:o<es.length*Aq C.P e:=by
     rcases VH o (es.length*Aq C.P e)with h | h
     ·exact h
     ·rw [p7 o h]at hv;cases hv
    simp [E',Env.tokE,this,hv]
   ·simp [E',Env.tokE,hb,hv]
 have hφ:E'.φ tt (es.length+ys.length)=some b:=by simp [E',Env.tokE]
 have hκ:E'.κ tt (es.length+ys.length)=some capx:=by simp [E',Env.tokE]
 have hrel:A4 E (es++ys).flatten (us++ns):=by rw [X1];exact hx5.append hy5
 have hmem:∀(k:Nat) (u:Value),(us++ns)[k]? = some u→E'.I b k=some u:=by
  intro k u hu
  rw [VF]at hu
  simp only [E',Env.tokE,if_true]
  split at hu
  ·rename_i hk
   rw [if_pos (by omega)]
   exact hx8 k u hu
  ·rename_i hk
   rw [if_neg (by omega),←hul]
   exact hu
 refine ⟨_,_,E',hrun,?_,?_⟩
 ·have hlall:∀x∈es++ys,x.length=Aq C.P e:=fun x hx=>(Vt.1 hx).elim (hx3 x) (hy3 x)
  have him:∀x∈es++ys,∀c∈x,BE c=true:=fun x hx=>(Vt.1 hx).elim (hx4 x) (hy4 x)
  have key:∀(i j:Nat) (x:List Ab) (c:Ab),(es++ys)[i]? = some x→x[j]? = some c→∃u,(us++ns)[i*Aq C.P e+j]? = some u∧Ax E c u:=fun i j x c h1 h2=>hrel.get (EM _ i j x c hlall h1 h2)
  have hcap':(es++ys).length≤capx:=by rw [Vc];exact hroom
  have:=Ax.sl (E:=E') (es:=es++ys) (tk:=.own tt) (b:=b) (o:=0) (s:=Aq C.P e) (cap:=capx) (fun i j=>((us++ns)[i*Aq C.P e+j]?).getD undef) (fun i x h=>hlall x (Vz h)) (fun i j hi hj=>?_)
   (fun i x j c h1 h2=>him x (Vz h1) c (Vz h2)) (fun i x j c h1 h2=>?_) hcap' ⟨b,by rw [Vc];exact hφ,by rw [Vc];exact hκ,rfl⟩
  ·rw [Vc]at this;exact this
  ·have hx:=hlall _ (Vi hi)
   obtain ⟨u,h1,_⟩:=key i j (es++ys)[i] ((es++ys)[i][j]'(by omega)) (UU hi) (UU (by omega))
   rw [UY,hmem _ _ h1,h1];rfl
  ·obtain ⟨u,h3,h4⟩:=key i j x c h1 h2
   rw [h3];exact h4.mono hle
 ·have hblk:FP E' (w.setRow b all) tt (.tok (es.length+ys.length) e (Aq C.P e)):=by
   refine ⟨b,capx,all,hφ,hκ,hnew,by rw [hsize,p4],hroom,p6,fun o ho=>?_⟩
   rw [VM]at ho
   simp only [E',Env.tokE,if_true]
   rw [if_neg (by omega),Vl (by omega)]
  refine hs.upd (E':=E') (w':=w.setRow b all) hH hle hblk (fun i g b hi hb=>by simpa [E',Env.tokE,hi]using hb) (fun i g b hi hb=>by simpa [E',Env.tokE,hi]using hb) (fun x hx hne=>setRow_other w b x all (fun e=>hne (by rw [e];exact q1)))
   (fun x hx hne=>by funext o;simp [E',Env.tokE,show x≠b from fun e=>hne (by rw [e];exact q1)]) (fun x o v hv hcase=>?_) (fun x hx=>.inl ?_) (fun n hB' g hg=>?_) rfl rfl rfl (by simp)
  ·have hxb:x=b:=by
    rcases hcase with hcase | hcase
    ·have hlt:b<w.heap.size:=(VK.1 p3).1
     by_cases hxb:x=b
     ·exact hxb
     ·simp only [E',Env.tokE,if_neg hxb]at hv
      have:=hs.imm_lt hv;omega
    ·simp only [Ck]at hcase
     rw [q1]at hcase;cases hcase;rfl
   subst hxb
   rw [Bj hnew]
   simp only [E',Env.tokE,if_true]at hv
   split at hv
   ·rename_i ho
    rw [hget1 o ho,←Bj p3]
    exact hs.imm _ _ _ hv
   ·rename_i ho
    have hlt:=(UV.1 hv).1
    have:=hget2 (o-es.length*Aq C.P e) hlt
    rw [show es.length*Aq C.P e+(o-es.length*Aq C.P e)=o from by omega]at this
    rw [this];exact hv
  ·simp only [Ck]at hx ⊢
   rw [hφ]at hx;cases hx;exact q1
  ·cases hB'
   have hne:¬(g=es.length+ys.length):=by omega
   obtain ⟨r1,r2⟩:=hlate g (by omega)
   exact ⟨by simp [E',Env.tokE,hne,r1],by simp [E',Env.tokE,hne,r2]⟩
theorem append_ok (hs:Sim E H w) {t e ty:TypeId} {x y z:Ab} {u v:Value} {H':Aa} (hu:C.P.underlying t=some (.slice e)) (hk:okT C.P e=true) (hx:Ax E x u) (hy:Ax E y v) (hnx:∀s,x≠.str s) (hny:∀s,y≠.str s)
  (h:AW e (Aq C.P e) (Fs C.P e) x y H=some (z,H')) :
  ∃r w' E',(Builtin.append_ #[t,t] ty #[u,v]).run C.P w=.ok r w'∧Ax E' z r∧Sim E' H' w'∧BH E H w E' H' w':=by
 obtain ⟨_,hsz,_,hz1,i,zz,hi,hz,hisz⟩:=C7 hk
 have hby:Fs C.P e=i.bytes:=by simp [Fs,hi]
 have hzs:zz.cells.size=Aq C.P e:=hz1 zz (by simp [hi,hz])
 unfold AW at h
 cases hey:BY (Aq C.P e) y H with
 | none=>simp [hey]at h
 | some ys=>
  simp only [hey,Option.bind_some]at h
  cases hex:BY (Aq C.P e) x H with
  | none=>simp [hex]at h
  | some es=>
   simp only [hex,Option.bind_some]at h
   obtain ⟨ady,capy,rfl,hy1,hy2,hy3,hy4,ns,hy5,hy6⟩:=S7 hs hy hny hey
   obtain ⟨adx,capx,hux,hx1,hx2,hx3,hx4,us,hx5,hx6⟩:=S7 hs hx hnx hex
   subst hux
   have hnl:ns.length=ys.length*i.size:=by rw [←hy5.1,CV ys hy3,hisz]
   have hul:us.length=es.length*i.size:=by rw [←hx5.1,CV es hx3,hisz]
   split at h
   ·rename_i h0
    have h':some (x,H)=some (z,H'):=h
    ·injection h' with h'
     simp only [Vv]at h'
     obtain ⟨rfl,rfl⟩:=h'
     rw [h0]
     exact ⟨_,w,E,KR hu hsz ty adx ady es.length capx capy hx1,hx,hs,.refl _ _ _⟩
   ·rename_i h0
    split at h
    ·rename_i hb
     obtain ⟨hb1,hb2⟩:=hb
     have hpos:0<ys.length:=by omega
     obtain ⟨a,rfl⟩:∃a,ady=some a:=by
      cases ady with
      | none=>have:=(hy2 rfl).1;subst this;simp at h0
      | some a=>exact ⟨a,rfl⟩
     have hone:∀q∈ns,q.oneCell'=true:=by
      intro q hq
      obtain ⟨k,hk',hqk⟩:=V5 hq
      have hkk:k<ys.flatten.length:=by rw [hy5.1];exact hk'
      have him:BE ys.flatten[k]=true:=by
       obtain ⟨x',hx',hc'⟩:=Yi.1 (Vi hkk)
       exact hy4 x' hx' _ hc'
      exact ((hy5.2 k _ q (UU hkk) (by rw [UU hk',hqk])).one (Sg him)).1
     have hb1':(es.length+ys.length)*i.bytes≤140737488355328:=by rw [←hby];exact hb1
     have grow:∀(tt:Nat) (H1:Aa) (B:Blk),Sim E H1 w→H1[tt]? = some B→(∀g,es.length+ys.length≤g→E.φ tt g=none∧E.κ tt g=none)→capx<es.length+ys.length →
       ∃r w' E',(Builtin.append_ #[t,t] ty #[.slice adx es.length capx,.slice (some a) ys.length capy]).run C.P w=.ok r w'∧Ax E' (.sl (es++ys) (.own tt)) r∧Sim E' (H1.set tt (.tok (es.length+ys.length) e (Aq C.P e))) w'∧BH E H1 w E' (H1.set tt (.tok (es.length+ys.length) e (Aq C.P e))) w':=by
      intro tt H1 B hs1 hB hfree hlt
      obtain ⟨E',g1,g2,g3⟩:=grown_ok hs1 (e:=e) (cap:=grownCap w (es.length+ys.length) capx e) zz hx3 hy3 hx4 hy4 hx5 hy5 hzs (grownCap_ge w _ _ _) (by
       have:=grownCap_le_maxLen w (es.length+ys.length) capx e (by unfold maxLen;omega)
       unfold maxLen at this;omega) hpos (by omega) hB hfree
      refine ⟨_,_,E',?_,g1,g2,g3⟩
      cases adx with
      | none=>
       obtain ⟨he0,hc0⟩:=hx2 rfl
       subst he0;subst hc0
       have hus0:us=[]:=Vo (by simpa using hul)
       subst hus0
       have:=run_append_nil (P:=C.P) w t ty e i zz hu hi hz a ys.length capy ns hnl (hy6 a rfl) hpos (by have q:=hb2;simp only [List.length_nil,UY]at q;omega) (by have q:=hb1';simp only [List.length_nil,UY]at q;omega)
       simpa using this
      | some ax=>
       exact run_append_grow (P:=C.P) w t ty e i zz hu hi hz ax es.length capx us hul (hx6 ax rfl) a ys.length capy ns hnl (hy6 a rfl) hlt (by omega) (growslice_fits (by omega) hb1')
     have growNew:capx<es.length+ys.length→some (.sl (es++ys) (.own H.length),H++[.tok (es.length+ys.length) e (Aq C.P e)])=some (z,H') →
       ∃r w' E',(Builtin.append_ #[t,t] ty #[.slice adx es.length capx,.slice (some a) ys.length capy]).run C.P w=.ok r w'∧Ax E' z r∧Sim E' H' w'∧BH E H w E' H' w':=by
      intro hlt heq
      injection heq with heq
      simp only [Vv]at heq
      obtain ⟨rfl,rfl⟩:=heq
      obtain ⟨r,w',E',q1,q2,q3,q4⟩:=grow H.length (H++[Blk.dead]) .dead hs.dead (by simp) (fun g hg=>⟨by
       cases hx:E.φ H.length g with
       | none=>rfl
       | some b=>have:=hs.dom _ _ _ hx;omega,by
       cases hx:E.κ H.length g with
       | none=>rfl
       | some b=>have:=hs.domk _ _ _ hx;omega⟩) hlt
      have hset:(H++[Blk.dead]).set H.length (.tok (es.length+ys.length) e (Aq C.P e))=H++[.tok (es.length+ys.length) e (Aq C.P e)]:=by simp
      rw [hset]at q3 q4
      exact ⟨r,w',E',q1,q2,q3,(BH.dead E H w).trans q4⟩
     split at h
     ·rename_i es'
      have hes':es'=es:=by
       unfold BY at hex
       simp only at hex
       split at hex
       ·injection hex
       ·cases hex
      subst hes'
      have htight:capx=es'.length:=by cases hx <;> assumption
      exact growNew (by omega) h
     ·rename_i es' tt
      have hes':es'=es:=by
       unfold BY at hex
       simp only at hex
       split at hex
       ·injection hex
       ·cases hex
      subst hes'
      split at h
      ·rename_i n e' sz' hH
       split at h
       ·rename_i hcond
        obtain ⟨rfl,rfl,rfl⟩:=hcond
        injection h with h
        simp only [Vv]at h
        obtain ⟨rfl,rfl⟩:=h
        have hlate:=hs.late tt _ _ hH rfl
        by_cases hroom:es'.length+ys.length≤capx
        ·-- there is room
         exact room_ok hs hu hi hisz hx hx3 hx4 hy3 hy4 hy5 hnl hy6 hone hroom hH (by omega) hpos
        ·exact grow tt H _ hs hH (fun g hg=>hlate g (by omega)) (by omega)
       ·cases h
      ·cases h
     ·rename_i id g off len cap sz' 
      split at h
      ·rename_i hlt
       cases hx with
       | ms p1 p2 p3 p4 p5 p6=>
        have:=p4 rfl
        exact growNew (by omega) h
      ·cases h
     ·cases h
    ·cases h

end
section
variable {C:Cfg} {E:Env} {H:Aa} {w:World}
def Env.setφκ (E:Env) (id g b cap:Nat):Env where
 φ:=fun i j=>if i=id∧j=g then some b else E.φ i j
 κ:=fun i j=>if i=id∧j=g then some cap else E.κ i j
 I:=E.I
theorem SV (hs:Sim E H w) {id ng b' cap2 sz:Nat} {e:TypeId} {B:Blk} (hB:H[id]? = some B) (hfree:∀g,ng≤g→E.φ id g=none∧E.κ id g=none)
  {w':World} {all:Array Value} {newc:List Ab} (hnew:w'.heap[b']? = some (.cells all e (0,0))) (hsz:all.size=cap2*sz) (hcap:cap2≤9223372036854775807)
  (hrel:A4 E newc (all.toList.take newc.length)) (hle:newc.length≤all.size) (hb':Ck E id B=some b'∨w.heap.size≤b') (hother:∀x,x<w.heap.size→Ck E id B≠some x→w'.heap[x]? = w.heap[x]?)
  (hI:∀o,E.I b' o=none) (hIB:∀b,Ck E id B=some b→∀o,E.I b o=none) (hos:w'.os=w.os) (htape:w'.tape=w.tape) (hout:w'.output=w.output) (hsize:w.heap.size≤w'.heap.size) :
  Sim (E.setφκ id ng b' cap2) (H.set id (.buf ng newc e sz)) w'∧BH E H w (E.setφκ id ng b' cap2) (H.set id (.buf ng newc e sz)) w':=by
 have hleE:E.le (E.setφκ id ng b' cap2):=by
  refine ⟨fun i g b hb=>?_,fun i g b hb=>?_,fun _ _ _ h=>h⟩
  ·have:¬(i=id∧g=ng):=fun ⟨e1,e2⟩=>by rw [e1,e2,(hfree _ (Va _)).1]at hb;cases hb
   simp [Env.setφκ,this,hb]
  ·have:¬(i=id∧g=ng):=fun ⟨e1,e2⟩=>by rw [e1,e2,(hfree _ (Va _)).2]at hb;cases hb
   simp [Env.setφκ,this,hb]
 refine hs.upd hB hleE ⟨b',cap2,all,by simp [Env.setφκ],by simp [Env.setφκ],hnew,hsz,hle,hcap,hrel.mono hleE,hI⟩ (fun i g b hi hb=>by simpa [Env.setφκ,hi]using hb) (fun i g b hi hb=>by simpa [Env.setφκ,hi]using hb)
  hother (fun _ _ _=>rfl) (fun b o v hv hcase=>?_) (fun b hb=>?_) (fun n hn g hg=>?_) hos htape hout hsize
 ·exfalso
  rcases hcase with hcase | hcase
  ·have:=hs.imm_lt hv;omega
  ·have:=hIB b hcase o
   have hv':E.I b o=some v:=hv
   rw [this]at hv';cases hv'
 ·simp only [Ck,Env.setφκ]at hb
  simp at hb;subst hb;exact hb'
 ·cases hn
  obtain ⟨q1,q2⟩:=hfree g (by omega)
  have hne:¬(g=ng):=by omega
  exact ⟨by simp [Env.setφκ,hne,q1],by simp [Env.setφκ,hne,q2]⟩
structure Src (P:Program) (w:World) (t ty:TypeId) (ts:Array TypeId) (e:TypeId) (i:TypeInfo) (zz:Value) (v:Value) (n:Nat) (ns:List Value):Prop where
 len:ns.length=n*i.size
 zero:n=0→∀ad len cap,len≤cap→(Builtin.append_ ts ty #[.slice ad len cap,v]).run P w=.ok (.slice ad len cap) w
 room:0<n→∀g sLen sCap (cur:Array Value),w.heap[g]? = some (.cells cur e (0,0))→sLen+n≤sCap→sLen*i.size+ns.length≤cur.size →
  (Builtin.append_ ts ty #[.slice (some ⟨g,0,none⟩) sLen sCap,v]).run P w=.ok (.slice (some ⟨g,0,none⟩) (sLen+n) sCap) (w.setRow g (cur.toList.take (sLen*i.size)++ns++cur.toList.drop (sLen*i.size+ns.length)).toArray)
 grow:0<n→∀(b:Addr) sLen sCap (olds:List Value),olds.length=sLen*i.size→(∀j u,olds[j]? = some u→w.cell? (b.add j)=some u)→sCap<sLen+n→((sLen+n:Nat):Int)≤9223372036854775807→Builtin.nextslicecap (sLen+n) sCap*i.bytes≤281474976710656 →
  (Builtin.append_ ts ty #[.slice (some b) sLen sCap,v]).run P w=.ok (.slice (some ⟨w.heap.size,0,none⟩) (sLen+n) (grownCap w (sLen+n) sCap e)) (w.drew.alloc (.cells (olds.toArray++ns.toArray++Builtin.zeroCells zz.cells (grownCap w (sLen+n) sCap e-(sLen+n))) e))
 nil:0<n→(n:Int)≤9223372036854775807→n*i.bytes≤281474976710656 →
  (Builtin.append_ ts ty #[.slice none 0 0,v]).run P w=.ok (.slice (some ⟨w.heap.size,0,none⟩) n (grownCap w n 0 e)) (w.drew.alloc (.cells (ns.toArray++Builtin.zeroCells zz.cells (grownCap w n 0 e-n)) e))
theorem src_slice (hs:Sim E H w) {t ty e:TypeId} {i:TypeInfo} {zz:Value} (hu:C.P.underlying t=some (.slice e)) (hi:C.P.info? e=some i) (hz:i.zero=some zz) (hisz:i.size=Aq C.P e) (hsz:Aq C.P e≠0) {y:Ab} {v:Value} (hy:Ax E y v) (hny:∀s,y≠.str s) {ys:List (List Ab)} (hey:BY (Aq C.P e) y H=some ys) :
  ∃ns,A4 E ys.flatten ns∧(∀x∈ys,x.length=Aq C.P e)∧Src C.P w t ty #[t,t] e i zz v ys.length ns:=by
 obtain ⟨ady,capy,rfl,hy1,hy2,hy3,hy4,ns,hy5,hy6⟩:=S7 hs hy hny hey
 have hnl:ns.length=ys.length*i.size:=by rw [←hy5.1,CV ys hy3,hisz]
 have hone:∀q∈ns,q.oneCell'=true:=by
  intro q hq
  obtain ⟨k,hk',hqk⟩:=V5 hq
  have hkk:k<ys.flatten.length:=by rw [hy5.1];exact hk'
  have him:BE ys.flatten[k]=true:=by
   obtain ⟨x',hx',hc'⟩:=Yi.1 (Vi hkk)
   exact hy4 x' hx' _ hc'
  exact ((hy5.2 k _ q (UU hkk) (by rw [UU hk',hqk])).one (Sg him)).1
 have some_of:ys.length≠0→∃a,ady=some a:=fun h0=>by
  cases ady with
  | none=>have:=(hy2 rfl).1;subst this;simp at h0
  | some a=>exact ⟨a,rfl⟩
 refine ⟨ns,hy5,hy3,hnl,fun h0 ad len cap hle=>?_,fun h0 g sLen sCap cur hg hroom hfit=>?_,fun h0 b sLen sCap olds hlo holds hlt h63 hfit=>?_,fun h0 h63 h48=>?_⟩
 ·rw [h0];exact KR hu hsz ty ad ady len cap capy hle
 ·obtain ⟨a,rfl⟩:=some_of (by omega)
  exact run_append_room (P:=C.P) w t ty e i hu hi g sLen sCap cur hg a ys.length capy ns hnl (hy6 a rfl) hone hroom hfit
 ·obtain ⟨a,rfl⟩:=some_of (by omega)
  exact run_append_grow (P:=C.P) w t ty e i zz hu hi hz b sLen sCap olds hlo holds a ys.length capy ns hnl (hy6 a rfl) hlt h63 hfit
 ·obtain ⟨a,rfl⟩:=some_of (by omega)
  exact run_append_nil (P:=C.P) w t ty e i zz hu hi hz a ys.length capy ns hnl (hy6 a rfl) h0 h63 h48
theorem Nu:∀s:List UInt8,(s.map fun b=>([Ab.int .u8 b.toNat]:List Ab)).flatten=s.map fun b=>Ab.int .u8 b.toNat
 | []=>rfl
 | b::s=>by simp only [WA,List.flatten_cons,Nu s];rfl
theorem src_string (hs:Sim E H w) {t u ty e:TypeId} {i:TypeInfo} {zz:Value} (hu:C.P.underlying t=some (.slice e)) (hu':C.P.underlying u=some .string) (hi:C.P.info? e=some i) (hz:i.zero=some zz) (h1:i.size=1) (s:List UInt8) :
  ∃ns,A4 E (s.map fun b=>([Ab.int .u8 b.toNat]:List Ab)).flatten ns∧Src C.P w t ty #[t,u] e i zz (.string ⟨s.toArray⟩) s.length ns:=by
 have hsz:(⟨s.toArray⟩:ByteArray).size=s.length:=by simp [ByteArray.size]
 have hl:(Lib.strCells ⟨s.toArray⟩).length=s.length:=by rw [Lib.strCells_length,hsz]
 refine ⟨Lib.strCells ⟨s.toArray⟩,?_,by rw [hl,h1,Vk],fun h0 ad len cap hle=>?_,fun h0 g sLen sCap cur hg hroom hfit=>?_,fun h0 b sLen sCap olds hlo holds hlt h63 hfit=>?_,fun h0 h63 h48=>?_⟩
 ·rw [Nu]
  unfold Lib.strCells
  exact A4.map _ _ _ fun b _=>.int _ _
 ·have:s=[]:=Vo h0
  subst this
  have hz0:(⟨#[]⟩:ByteArray).size=0:=rfl
  cases ad <;> simp [Builtin.append_,Sem.run_bind,run_underlying hu,run_underlying hu',Result.andThen_ok,sizeOf,typeInfo,hi,Builtin.lenOf,hz0,hle,Builtin.firstCells,storeCells]
 ·have:=Lib.run_append_room_string (P:=C.P) w t u ty e i hu hu' hi h1 g sLen sCap cur hg ⟨s.toArray⟩ (by rw [hsz];exact hroom) (by rw [hsz];rw [hl,h1,Vk]at hfit;exact hfit)
  rw [hsz]at this
  rw [this,h1,Vk,hl]
 ·have:=Lib.run_append_grow_string (P:=C.P) w t u ty e i zz hu hu' hi hz b sLen sCap olds hlo holds ⟨s.toArray⟩ (by rw [hsz];exact hlt) (by rw [hsz];exact h63) (by rw [hsz];exact hfit)
  rw [hsz]at this
  exact this
 ·have:=run_append_nil_string (P:=C.P) w t u ty e i zz hu hu' hi hz ⟨s.toArray⟩ (by rw [hsz];exact h0) (by rw [hsz];exact h63) (by rw [hsz];exact h48)
  rw [hsz]at this
  rw [this]
  congr 3
  simp [Lib.strCells]
theorem Ta (hs:Sim E H w) {t ty e:TypeId} {ts:Array TypeId} {i:TypeInfo} {zz:Value} (hu:C.P.underlying t=some (.slice e)) (hi:C.P.info? e=some i) (hz:i.zero=some zz) (hisz:i.size=Aq C.P e) (hsz:Aq C.P e≠0) (hzs:zz.cells.size=Aq C.P e)
  {ys:List (List Ab)} {ns:List Value} {v:Value} (hys:A4 E ys.flatten ns) (hS:Src C.P w t ty ts e i zz v ys.length ns) {x z:Ab} {u:Value} {H':Aa} (hx:Ax E x u) (h:HV e (Aq C.P e) (Fs C.P e) x ys H=some (z,H')) :
  ∃r w' E',(Builtin.append_ ts ty #[u,v]).run C.P w=.ok r w'∧Ax E' z r∧Sim E' H' w'∧BH E H w E' H' w':=by
 have hby:Fs C.P e=i.bytes:=by simp [Fs,hi]
 unfold HV at h
 split at h
 ·rename_i h0
  have done:∀ad len cap,u=.slice ad len cap→len≤cap→x=z∧H=H'→∃r w' E',(Builtin.append_ ts ty #[u,v]).run C.P w=.ok r w'∧Ax E' z r∧Sim E' H' w'∧BH E H w E' H' w':=by
   rintro ad len cap rfl hle ⟨rfl,rfl⟩
   exact ⟨_,w,E,hS.zero h0 ad len cap hle,hx,hs,.refl _ _ _⟩
  split at h
  ·rename_i es tk
   split at h
   ·injection h with h;simp only [Vv]at h
    cases hx with
    | sl0 ht ha=>exact done _ _ _ rfl (Vy _) h
    | sl f hl hI hm hv hc ht=>exact done _ _ _ rfl hc h
   ·cases h
  ·rename_i id g off len cap sz' ex
   split at h
   ·injection h with h;simp only [Vv]at h
    cases hx with
    | ms p1 p2 p3 p4 p5 p6=>exact done _ _ _ rfl (by omega) h
   ·cases h
  ·cases h
 ·rename_i h0
  have hpos:0<ys.length:=by omega
  have hnl:ns.length=ys.length*Aq C.P e:=by rw [hS.len,hisz]
  split at h
  ·rename_i es
   split at h
   ·rename_i hcond
    obtain ⟨hall,hb1,hb2⟩:=hcond
    injection h with h;simp only [Vv]at h
    obtain ⟨rfl,rfl⟩:=h
    have hes:∀x∈es,x.length=Aq C.P e:=by simpa using hall
    obtain ⟨adx,capx,rfl,hx1,hx2,hto,hx4,us,hx5,hx7⟩:=Lt hs hx hes
    have hcap:capx=es.length:=hto
    subst hcap
    have hul:us.length=es.length*Aq C.P e:=by rw [←hx5.1,CV es hes]
    have hb1':(es.length+ys.length)*i.bytes≤140737488355328:=by rw [←hby];exact hb1
    have fin:∀(cap2:Nat),es.length+ys.length≤cap2→cap2≤9223372036854775807→(Builtin.append_ ts ty #[.slice adx es.length es.length,v]).run C.P w=.ok (.slice (some ⟨w.heap.size,0,none⟩) (es.length+ys.length) cap2) (w.drew.alloc (.cells (us.toArray++ns.toArray++Builtin.zeroCells zz.cells (cap2-(es.length+ys.length))) e)) →
      ∃r w' E',(Builtin.append_ ts ty #[.slice adx es.length es.length,v]).run C.P w=.ok r w'∧Ax E' (.ms H.length 0 0 (es.length+ys.length) (es.length+ys.length) (Aq C.P e) false) r∧Sim E' (H++[.buf 0 (es++ys).flatten e (Aq C.P e)]) w'∧BH E H w E' (H++[.buf 0 (es++ys).flatten e (Aq C.P e)]) w':=by
     intro cap2 hc1 hc2 hrun
     obtain ⟨all,hall'⟩:∃all,all=us.toArray++ns.toArray++Builtin.zeroCells zz.cells (cap2-(es.length+ys.length)):=⟨_,rfl⟩
     rw [←hall']at hrun
     have hsize:all.size=cap2*Aq C.P e:=by
      rw [hall']
      simp only [Yg,Ya,size_zeroCells,hzs,hul,hnl]
      rw [←VM,←VM];congr 1;omega
     have hfl:(es++ys).flatten.length=us.length+ns.length:=by rw [X1,Vc,hx5.1,hys.1]
     have hrel:A4 E (es++ys).flatten (all.toList.take (es++ys).flatten.length):=by
      have e1:all.toList.take (es++ys).flatten.length=us++ns:=by rw [hfl,hall'];simp [List.take_append];rw [Vg (by omega)]
      rw [e1,X1];exact hx5.append hys
     have hnew:(w.drew.alloc (.cells all e)).heap[w.heap.size]? = some (.cells all e (0,0)):=by
      show (w.heap.push _)[w.heap.size]? = _
      simp
     have hfree:∀g,0≤g→E.φ H.length g=none∧E.κ H.length g=none:=fun g _=>⟨by
      cases hx:E.φ H.length g with
      | none=>rfl
      | some b=>have:=hs.dom _ _ _ hx;omega,by
      cases hx:E.κ H.length g with
      | none=>rfl
      | some b=>have:=hs.domk _ _ _ hx;omega⟩
     obtain ⟨s1,s2⟩:=SV (hs.dead) (id:=H.length) (ng:=0) (b':=w.heap.size) (cap2:=cap2) (sz:=Aq C.P e) (e:=e) (B:=.dead) (by simp) hfree (w':=w.drew.alloc (.cells all e)) (all:=all) (newc:=(es++ys).flatten) hnew hsize hc2 hrel
      (by rw [hfl,hsize,hul,hnl,←VM];exact VE _ hc1) (.inr (Va _)) (fun x hx _=>by show (w.heap.push _)[x]? = _;rw [Wt,if_neg (by omega)]) hs.imm_new (fun b hb=>by cases hb) rfl rfl rfl (by show w.heap.size≤(w.heap.push _).size;simp)
     have hset:(H++[Blk.dead]).set H.length (.buf 0 (es++ys).flatten e (Aq C.P e))=H++[.buf 0 (es++ys).flatten e (Aq C.P e)]:=by simp
     rw [hset]at s1 s2
     exact ⟨_,_,_,hrun,.ms (by simp [Env.setφκ]) hc1 (Va _) (fun h=>by cases h) (fun _=>rfl) (fun _ _=>⟨by simp [Env.setφκ],rfl⟩),s1,(BH.dead E H w).trans s2⟩
    have hfits:Builtin.nextslicecap (es.length+ys.length) es.length*i.bytes≤281474976710656:=growslice_fits (by omega) hb1'
    have hgl:=grownCap_le_maxLen w (es.length+ys.length) es.length e (by unfold maxLen;omega)
    have hgg:=grownCap_ge w (es.length+ys.length) es.length e
    unfold maxLen at hgl
    cases adx with
    | none=>
     obtain ⟨he0,_⟩:=hx2 rfl
     subst he0
     have hus0:us=[]:=Vo (by simpa using hul)
     subst hus0
     have hrun:=hS.nil hpos (by have q:=hb2;simp only [List.length_nil,UY]at q;omega) (by have q:=hb1';simp only [List.length_nil,UY]at q;omega)
     simp only [List.length_nil,UY]at fin hgl hgg ⊢
     refine fin _ hgg (by omega) ?_
     rw [hrun];simp
    | some ax=>
     have hx6:∀(j:Nat) (u:Value),us[j]? = some u→w.cell? (ax.add j)=some u:=fun j u hj=>by
      obtain ⟨q1,q2⟩:=hx7 ax rfl j u hj
      obtain ⟨b,o,sp⟩:=ax
      simp at q1;subst q1
      rw [CX]
      exact hs.imm _ _ _ q2
     exact fin _ hgg (by omega) (hS.grow hpos ax es.length es.length us (by rw [hul,hisz]) hx6 (by omega) (by omega) hfits)
   ·cases h
  ·rename_i id g off len cap sz'
   split at h
   ·rename_i g' cs e' sz'' hH
    split at h
    ·rename_i hcond
     obtain ⟨e0,e1,e2,e3,e4,hlc,hb1,hb2⟩:=hcond
     have e2:=e2.symm
     subst e0;subst e1;subst e2;subst e3;subst e4
     injection h with h;simp only [Vv]at h
     obtain ⟨rfl,rfl⟩:=h
     obtain ⟨b,cap2,all0,r1,r2,r3,r4,r5,r6,r7,r8⟩:=hs.blk id _ hH
     have hlate:=hs.late id _ _ hH rfl
     have hb1':(len+ys.length)*i.bytes≤140737488355328:=by rw [←hby];exact hb1
     cases hx with
     | ms p1 p2 p3 p4 p5 p6=>
      rename_i off' cap' b1
      rw [r1]at p1;cases p1
      obtain ⟨q1,q2⟩:=p6 rfl rfl
      rw [r2]at q1;cases q1
      subst q2
      have holds:(all0.toList.take (len*Aq C.P e)).length=len*Aq C.P e:=by simp;omega
      have hrelO:A4 E (cs.take (len*Aq C.P e)) (all0.toList.take (len*Aq C.P e)):=by
       have:=r7.take (len*Aq C.P e)
       rwa [List.take_take,VZ hlc]at this
      have hfl:(cs.take (len*Aq C.P e)++ys.flatten).length=len*Aq C.P e+ns.length:=by rw [Vc,hys.1];simp;omega
      by_cases hroom:len+ys.length≤cap2
      ·have hfit:len*i.size+ns.length≤all0.size:=by rw [hnl,hisz,r4,←VM];exact VE _ hroom
       have hrun:=hS.room hpos b len cap2 all0 r3 hroom hfit
       rw [hisz]at hrun hfit
       obtain ⟨all,hall⟩:∃all:Array Value,all=(all0.toList.take (len*Aq C.P e)++ns++all0.toList.drop (len*Aq C.P e+ns.length)).toArray:=⟨_,rfl⟩
       rw [←hall]at hrun
       have hsize:all.size=cap2*Aq C.P e:=by rw [←r4,hall];simp;omega
       have hrel:A4 E (cs.take (len*Aq C.P e)++ys.flatten) (all.toList.take (cs.take (len*Aq C.P e)++ys.flatten).length):=by
        have e1:all.toList.take (cs.take (len*Aq C.P e)++ys.flatten).length=all0.toList.take (len*Aq C.P e)++ns:=by
         rw [hfl,hall]
         have:(all0.toList.take (len*Aq C.P e)++ns).length=len*Aq C.P e+ns.length:=by rw [Vc,holds]
         rw [List.toList_toArray,←this,List.take_left']
         rfl
        rw [e1];exact hrelO.append hys
       obtain ⟨s1,s2⟩:=SV hs (id:=id) (ng:=g'+1) (b':=b) (cap2:=cap2) (sz:=Aq C.P e) (e:=e) hH (fun g hg=>hlate g (by omega)) (w':=w.setRow b all) (all:=all) (newc:=cs.take (len*Aq C.P e)++ys.flatten) (setRow_heap w b all0 all _ _ r3) hsize r6 hrel
        (by rw [hfl,hsize,hnl,←VM];exact VE _ hroom) (.inl r1) (fun x hx hne=>setRow_other w b x all (fun e=>hne (by rw [e];exact r1))) r8 (fun b' hb'=>by simp only [Ck]at hb';rw [r1]at hb';cases hb';exact r8) rfl rfl rfl (by simp)
       exact ⟨_,_,_,hrun,.ms (by simp [Env.setφκ]) hroom (Va _) (fun h=>by cases h) (fun _=>rfl) (fun _ _=>⟨by simp [Env.setφκ],rfl⟩),s1,s2⟩
      ·have hfits:Builtin.nextslicecap (len+ys.length) cap2*i.bytes≤281474976710656:=growslice_fits (by omega) hb1'
       have hgl:=grownCap_le_maxLen w (len+ys.length) cap2 e (by unfold maxLen;omega)
       have hgg:=grownCap_ge w (len+ys.length) cap2 e
       unfold maxLen at hgl
       have hrun:=hS.grow hpos ⟨b,0,none⟩ len cap2 (all0.toList.take (len*Aq C.P e)) (by rw [holds,hisz]) (fun j u hj=>by
        rw [CX,Bj r3,UY]
        have:=HZ hj
        simpa using this) (by omega) (by omega) hfits
       obtain ⟨all,hall⟩:∃all,all=(all0.toList.take (len*Aq C.P e)).toArray++ns.toArray++Builtin.zeroCells zz.cells (grownCap w (len+ys.length) cap2 e-(len+ys.length)):=⟨_,rfl⟩
       rw [←hall]at hrun
       have hsize:all.size=grownCap w (len+ys.length) cap2 e*Aq C.P e:=by
        rw [hall]
        simp only [Yg,Ya,size_zeroCells,hzs,holds,hnl]
        rw [←VM,←VM];congr 1;omega
       have hrel:A4 E (cs.take (len*Aq C.P e)++ys.flatten) (all.toList.take (cs.take (len*Aq C.P e)++ys.flatten).length):=by
        have e1:all.toList.take (cs.take (len*Aq C.P e)++ys.flatten).length=all0.toList.take (len*Aq C.P e)++ns:=by
         rw [hfl,hall]
         have:(all0.toList.take (len*Aq C.P e)++ns).length=len*Aq C.P e+ns.length:=by rw [Vc,holds]
         rw [WM,WM,List.toList_toArray,List.toList_toArray,←this,List.take_left']
         rfl
        rw [e1];exact hrelO.append hys
       have hnew:(w.drew.alloc (.cells all e)).heap[w.heap.size]? = some (.cells all e (0,0)):=by
        show (w.heap.push _)[w.heap.size]? = _
        simp
       obtain ⟨s1,s2⟩:=SV hs (id:=id) (ng:=g'+1) (b':=w.heap.size) (cap2:=grownCap w (len+ys.length) cap2 e) (sz:=Aq C.P e) (e:=e) hH (fun g hg=>hlate g (by omega)) (w':=w.drew.alloc (.cells all e)) (all:=all) (newc:=cs.take (len*Aq C.P e)++ys.flatten) hnew hsize (by omega) hrel
        (by rw [hfl,hsize,hnl,←VM];exact VE _ hgg) (.inr (Va _)) (fun x hx _=>by show (w.heap.push _)[x]? = _;rw [Wt,if_neg (by omega)]) hs.imm_new (fun b' hb'=>by simp only [Ck]at hb';rw [r1]at hb';cases hb';exact r8) rfl rfl rfl (by show w.heap.size≤(w.heap.push _).size;simp)
       exact ⟨_,_,_,hrun,.ms (by simp [Env.setφκ]) hgg (Va _) (fun h=>by cases h) (fun _=>rfl) (fun _ _=>⟨by simp [Env.setφκ],rfl⟩),s1,s2⟩
    ·cases h
   ·cases h
  ·cases h
theorem appendM_Y {e:TypeId} {sz bytes:Nat} {x y:Ab} {p:Ab×Aa} (hno:∀s,y≠.str s) (h:FG e sz bytes x y H=some p):((PF sz y H).bind fun ys=>HV e sz bytes x ys H)=some p:=by
 cases y <;> first | exact h | exact absurd rfl (hno _)
theorem appendS_str {e:TypeId} {sz bytes:Nat} {x y:Ab} {p:Ab×Aa} (h:appendS e sz bytes x y H=some p):∃s,y=.str s∧((PF sz y H).bind fun ys=>HV e sz bytes x ys H)=some p:=by
 cases y <;> first | exact ⟨_,rfl,h⟩ | cases h
theorem SZ (hs:Sim E H w) {t ty u2 e:TypeId} {x y z:Ab} {u v:Value} {H':Aa} (hu:C.P.underlying t=some (.slice e)) (hk:okT C.P e=true) (hx:Ax E x u) (hy:Ax E y v)
  (hcase:(u2=t∧∀s,y≠.str s)∨(C.P.underlying u2=some .string∧∃s,y=.str s)) (h:((PF (Aq C.P e) y H).bind fun ys=>HV e (Aq C.P e) (Fs C.P e) x ys H)=some (z,H')) :
  ∃r w' E',(Builtin.append_ #[t,u2] ty #[u,v]).run C.P w=.ok r w'∧Ax E' z r∧Sim E' H' w'∧BH E H w E' H' w':=by
 obtain ⟨_,hsz,_,hz1,i,zz,hi,hz,hisz⟩:=C7 hk
 have hzs:zz.cells.size=Aq C.P e:=hz1 zz (by simp [hi,hz])
 cases hey:PF (Aq C.P e) y H with
 | none=>simp [hey]at h
 | some ys=>
  simp only [hey,Option.bind_some]at h
  rcases hcase with ⟨rfl,hny⟩ | ⟨hu2,s,rfl⟩
  ·have hey':BY (Aq C.P e) y H=some ys:=by
    cases y <;> first | exact hey | exact absurd rfl (hny _)
   obtain ⟨ns,h1,h2,h3⟩:=src_slice (ty:=ty) hs hu hi hz hisz hsz hy hny hey'
   exact Ta hs hu hi hz hisz hsz hzs h1 h3 hx h
  ·simp only [PF]at hey
   split at hey
   ·rename_i h1
    injection hey with hey;subst hey
    obtain ⟨ns,g1,g2⟩:=src_string (ty:=ty) hs hu hu2 hi hz (by rw [hisz];exact h1) s
    rw [hy.str_inv]
    refine Ta hs hu hi hz hisz hsz hzs g1 ?_ hx h
    simpa using g2
   ·cases hey

end
end Go.Gm
