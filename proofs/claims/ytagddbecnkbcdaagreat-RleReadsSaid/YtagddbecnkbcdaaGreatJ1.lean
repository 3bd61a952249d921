/- Texts of this proof, joined. -/
import Derived.Calls
import Derived.Orders
import GoSem.Claims
import Derived.Below
import Derived.Tactics
import Derived.WalkKit
import Derived.LaidEql
import Derived.Laws.IdiomCopy
import Derived.Laws.Append
import Derived.Laws.BytesArg
import Derived.Laws.IdiomStrings
import Derived.Laws.Tables
import Derived.Great.FillDense
import Derived.Great.BuildSlice
import Derived.Laws.AppendOwn
import Derived.Lib.AppendStr
set_option linter.all false
noncomputable section
namespace Go.Gm
abbrev I_:=IntKind.i64
abbrev J_:=IntKind.u8
abbrev K_:=IntKind.u32
abbrev zAa:=List UInt8
abbrev zAb:=List Nat
abbrev zXa:=@Option.bind_some
abbrev zXb:=@Option.map_some
abbrev zXc:=@decide_eq_true
abbrev zXd:=@decide_eq_false
abbrev zXe:=@decide_eq_true_eq
abbrev zXf:=@Sem.run_bind
abbrev zXg:=@Result.andThen_ok
abbrev zXh:=@List.getElem?_cons_zero
abbrev zXi:=@List.length_singleton
abbrev zXj:=@List.length_cons
abbrev zXk:=@List.length_nil
abbrev zXl:=@Int.toNat_natCast
abbrev zXm:=@List.replicate_succ
abbrev zXn:=@Bool.true_and
abbrev zXo:=@Bool.false_or
abbrev zXp:=@List.length_set
abbrev zYa:=@List.getElem?_eq_none
abbrev zYb:=@if_neg
abbrev zYc:=@if_pos
abbrev zYd:=@if_true
abbrev zYe:=@if_false
abbrev zYf:=@absurd
abbrev zYg:=@congrArg
abbrev zYh:=@decide_false
abbrev zYi:=@and_self
abbrev zYj:=@beq_self_eq_true
abbrev zYk:=@not_false_eq_true
abbrev zYl:=@decide_eq_false_iff_not
abbrev VG:=@List.getElem?_eq_getElem
abbrev VH:=@List.getElem?_set_ne
abbrev VJ:=@List.getElem?_eq_some_iff
abbrev VK:=@Nat.zero_add
abbrev VL:=@Bool.false_eq_true
abbrev VM:=@Nat.le_refl
abbrev VN:=@List.getElem?_append_left
abbrev VO:=@List.getD_eq_getElem?_getD
abbrev VP:=@List.append_assoc
abbrev VR:=@List.length_append
abbrev VT:=@Option.some.injEq
abbrev VU:=@List.take_succ_eq_append_getElem
abbrev VV:=@Bool.and_eq_true
abbrev VW:=@List.take_of_length_le
abbrev VX:=@List.getElem?_set_self
abbrev VY:=@List.getElem_mem
abbrev VZ:=@Bool.eq_iff_iff
abbrev Wa:=@Nat.mul_one
abbrev Wb:=@Array.getD_eq_getD_getElem?
abbrev Wc:=@List.length_take
abbrev Wd:=@List.length_drop
abbrev We:=@List.eq_nil_of_length_eq_zero
abbrev Wf:=@List.all_eq_true
abbrev Wg:=@Nat.le_trans
abbrev Wh:=@Prod.mk.injEq
abbrev Wi:=@Nat.zero_le
abbrev Wj:=@List.mem_singleton
abbrev Wk:=@List.mem_append
abbrev Wl:=@List.drop_eq_getElem_cons
abbrev Wm:=@List.append_nil
abbrev Wn:=@Nat.pow_le_pow_right
abbrev Wo:=@List.mem_of_getElem?
abbrev Wp:=@Bool.not_true
abbrev Wq:=@List.getElem?_map
abbrev Wr:=@Nat.add_sub_cancel
abbrev Ws:=@List.getElem_of_mem
abbrev Wt:=@List.getElem?_append_right
abbrev Wu:=@Nat.sub_self
abbrev Wv:=@Int.lt_irrefl
abbrev Ww:=@Nat.mul_le_mul_right
abbrev Wx:=@List.take_length
abbrev Wy:=@List.set_append_right
abbrev Wz:=@Array.getElem?_eq_some_iff
abbrev W4:=@Nat.lt_or_ge
abbrev W5:=@List.getElem?_drop
abbrev W6:=@List.length_pos_iff
abbrev W7:=@List.getElem?_append
abbrev W8:=@Bool.not_false
abbrev W9:=@List.filter_append
abbrev WA:=@Nat.add_assoc
abbrev WB:=@Nat.add_mul
abbrev WC:=@Bool.not_eq_true'
abbrev WD:=@List.take_append_drop
abbrev WE:=@Nat.lt_of_le_of_lt
abbrev WF:=@List.mem_cons
abbrev WG:=@List.getElem?_take_of_lt
abbrev WH:=@List.filter_cons
abbrev WI:=@Int.eq_ofNat_of_zero_le
abbrev WJ:=@Nat.mod_eq_of_lt
abbrev WK:=@Nat.min_eq_left
abbrev WL:=@Bool.false_and
abbrev WM:=@Array.getElem?_setIfInBounds_ne
abbrev WN:=@List.getElem_append_right
abbrev WO:=@Nat.lt_of_lt_of_le
abbrev WP:=@List.length_map
abbrev WQ:=@Bool.or_eq_true
abbrev WR:=@Array.getElem?_setIfInBounds_self_of_lt
abbrev WS:=@List.pairwise_singleton
abbrev WT:=@Nat.mul_add
abbrev WU:=@List.pairwise_append
abbrev WV:=@List.mem_of_mem_take
abbrev WW:=@List.Pairwise.sublist
abbrev WX:=@List.drop_drop
abbrev WY:=@Nat.mul_comm
abbrev WZ:=@List.mem_map
abbrev Xa:=@List.drop_zero
abbrev Xb:=@List.drop_eq_nil_of_le
abbrev Xc:=@Bool.true_or
abbrev Xd:=@Nat.mul_le_mul_left
abbrev Xe:=@Array.getElem?_push
abbrev Xf:=@Option.some.inj
abbrev Xg:=@Nat.div_lt_iff_lt_mul
abbrev Xh:=@List.length_filter_le
abbrev Xi:=@Array.getElem?_toList
abbrev Xj:=@Nat.div_eq_of_lt
abbrev Xk:=@List.getElem?_take
abbrev Xl:=@List.take_append_of_le_length
abbrev Xm:=@List.ext_getElem?
abbrev Xn:=@Nat.mul_assoc
abbrev Xo:=@List.map_cons
abbrev Xp:=@BitVec.toNat_ofNat
abbrev Xq:=@Bool.and_eq_false_iff
abbrev Xr:=@Array.getElem?_modify
abbrev Xs:=@Array.getElem?_eq_getElem
abbrev Xt:=@UInt8.toNat_inj
abbrev Xu:=@Nat.testBit_eq_decide_div_mod_eq
abbrev Xv:=@List.mem_of_mem_drop
abbrev Xw:=@Nat.mod_lt
abbrev Xx:=@List.takeWhile_cons
abbrev Xy:=@List.getElem?_range
abbrev Xz:=@Array.toList_append
abbrev X0:=@Nat.succ_ne_zero
abbrev X1:=@List.pairwise_cons
abbrev X2:=@List.length_eq_one_iff
abbrev X3:=@Nat.div_add_mod
abbrev X4:=@List.mem_filter
abbrev X5:=@List.getElem_drop
abbrev X6:=@List.foldl_append
abbrev X7:=@List.all_eq_false
abbrev X8:=@Int.fdiv_eq_ediv_of_nonneg
abbrev X9:=@List.pairwise_iff_getElem
abbrev XA:=@List.drop_succ_cons
abbrev XB:=@List.range_succ
abbrev XC:=@Nat.eq_zero_or_pos
abbrev XD:=@List.find?_eq_none
abbrev XE:=@Nat.pow_pos
abbrev XF:=@List.getElem?_replicate
abbrev XG:=@Int.pow_pos
abbrev XH:=@Int.le_refl
abbrev XI:=@List.set_eq_take_append_cons_drop
abbrev XJ:=@List.findIdx?_eq_some_iff_getElem
abbrev XK:=@Nat.mul_le_mul
abbrev XL:=@Nat.le_of_eq
abbrev XM:=@List.takeWhile_sublist
abbrev XN:=@List.mem_range
abbrev XO:=@List.drop_of_length_le
abbrev XP:=@Bool.or_true
abbrev XQ:=@List.length_replicate
abbrev XR:=@Array.toList_map
abbrev XS:=@List.drop_append_of_le_length
abbrev XT:=@BitVec.msb_eq_decide
abbrev XU:=@Array.toList_extract
abbrev XV:=@UInt8.toNat.inj
abbrev XW:=@List.flatten_append
abbrev XX:=@Nat.zero_mul
abbrev XY:=@Int.pow_succ
abbrev XZ:=@Option.map_map
abbrev Ya:=@Nat.mod_two_eq_zero_or_one
abbrev Yb:=@List.take_left
abbrev Yc:=@List.mem_replicate
abbrev Yd:=@List.drop_left
abbrev Ye:=@Bool.and_false
abbrev Yf:=@List.mem_or_eq_of_mem_set
abbrev Yg:=@List.findIdx?_eq_none_iff
abbrev Yh:=@Nat.pow_mul
abbrev Yi:=@List.take_sublist
abbrev Yj:=@List.reverse_cons
abbrev Yk:=@List.getElem_take
abbrev Yl:=@List.drop_sublist
abbrev Ym:=@UInt8.toNat_ofNat_of_lt'
abbrev Yn:=@List.find?_range_eq_some
abbrev Yo:=@List.filter_cons_of_pos
abbrev Yp:=@Nat.succ_mul
abbrev Yq:=@Nat.add_comm
abbrev Yr:=@List.set_set
abbrev Ys:=@List.dropWhile_sublist
abbrev Yt:=@Array.getElem?_eq_none
abbrev Yu:=@Array.ext'
abbrev Yv:=@List.all_append
abbrev Yw:=@List.getElem_set_self
abbrev Yx:=@Nat.pow_lt_pow_right
abbrev Yy:=@Nat.add_mul_div_left
abbrev Yz:=@List.range_eq_range'
abbrev Y0:=@Int.natAbs_pow
abbrev Y1:=@Bool.or_eq_false_iff
abbrev Y2:=@List.map_congr_left
abbrev Y3:=@Int.natCast_nonneg
abbrev Y4:=@Bool.true_eq_false
abbrev Y5:=@Bool.not_eq_false'
abbrev Y6:=@Array.foldl_toList
abbrev Y7:=@Nat.dvd_add_right
abbrev Y8:=@List.size_toArray
abbrev Y9:=@List.getElem?_set
abbrev YA:=@Int.natAbs_add_le
abbrev YB:=@Array.size_append
abbrev YC:=@Array.all_eq_true_iff_forall_mem
abbrev YD:=@List.range'_succ
abbrev YE:=@List.mem_flatten
abbrev YF:=@List.drop_length
abbrev YG:=@Bool.not_eq_true

inductive Tok where
 |no
 |ti
 |own (t:Nat)

inductive Ab where
 |undef
 |bool (b:Bool)
 |ubool
 |int (k:IntKind) (n:Int)
 |str (s:zAa)
 |nilp
 |ptr (id g off:Nat)
 |cptr (cells:List Ab) (off:Nat)
 |sl (elems:List (List Ab)) (tok:Tok)
 |ms (id g off len cap sz:Nat) (ex:Bool)
 |fn (f:FuncId) (caps:List Ab)
 |bfn (f:FuncId) (first:List Ab)
 |nilfn
 |mp (id:Nat)
 |nilmap
 |iface (t:TypeId) (v:Ab)
 |nilif
 |agg (cells:List Ab)
 |tup (vs:List Ab)

inductive Blk where
 |dead
 |cel (g:Nat) (cells:List Ab)
 |tok (n:Nat) (e:TypeId) (sz:Nat)
 |buf (g:Nat) (cells:List Ab) (e:TypeId) (sz:Nat)
 |map (es:List (Ab×Ab))
 |iter (s:zAa) (pos:Nat)
 |typ (t:TypeId) (cells:List Ab)

abbrev Aa:=List Blk

inductive Res where
 |ret (v:Ab)
 |pan (v:Ab)

inductive Vhn where
 |normal
 |exit (id:Nat)
 |ret
 |pan (v:Ab)

abbrev Out:=Option (Res×Aa)
abbrev Orc:=FuncId->List Ab->Aa->Out

abbrev U_:=Ab.undef
@[match_pattern] abbrev Blk.c0 (cs:List Ab):Blk:=.cel 0 cs
@[match_pattern] abbrev Ab.i6 (n:Int):Ab:=.int .i64 n
@[match_pattern] abbrev _root_.Go.Value.i6 (n:Int):Value:=.int .i64 n
def Ab.isScal:Ab->Bool
 |.undef=>false
 |.ubool=>false
 |.agg _=>false
 |.tup _=>false
 |_=>true

def Ab.acells:Ab->Option (List Ab)
 |.agg cs=>if cs.all Ab.isScal then some cs else none
 |.undef=>none
 |.ubool=>none
 |.tup _=>none
 |v=>some [v]

def Mk:Value->Ab
 |.bool b=>.bool b
 |.int k n=>.int k n
 |.string s=>.str s.data.toList
 |.pointer none=>.nilp
 |.slice none 0 0=>.sl [] .ti
 |.map none=>.nilmap
 |.func (.func f) first captured=>if first.size=0/\captured.size=0 then .fn f []else .undef
 |.nilFunc=>.nilfn
 |.nilIface=>.nilif
 |_=>.undef
def Vpa:Value->Ab
 |.agg cs=>.agg (cs.toList.map Mk)
 |.tuple vs=>.tup (vs.toList.map Mk)
 |v=>Mk v

abbrev ID:=Nat->Option (List Ab)
def rho (G:ID)(tm:List Ab):Operand->Ab
 |.tmp t=>tm.getD t .undef
 |.const v=>Vpa v
 |.global g=>match G g with | some cs=>.cptr cs 0 | none=>.undef
 |.func f=>.fn f []

def Ay (c a b:Ab):Option Ab:=
 match c with
 |.bool t=>some (if t then a else b)
 |_=>none

def IB (op:BinOp)(k:IntKind)(x y:Int):Option Ab:=
 let a:=BitVec.ofInt k.bits x
 let b:=BitVec.ofInt k.bits y
 match op with
 |.and=>some (.int k (k.wrap (a &&& b).toNat))
 |.or=>some (.int k (k.wrap (a ||| b).toNat))
 |.xor=>some (.int k (k.wrap (a ^^^ b).toNat))
 |.andNot=>some (.int k (k.wrap (a &&& ~~~b).toNat))
 |_=>none
def FK (op:BinOp)(k:IntKind)(x y:Int):Option Ab:=
 match op with
 |.add=>some (.int k (k.wrap (x+y)))
 |.sub=>some (.int k (k.wrap (x-y)))
 |.mul=>some (.int k (k.wrap (x*y)))
 |.quo=>if y=0 then none else some (.int k (k.wrap (x.tdiv y)))
 |.rem=>if y=0 then none else some (.int k (x.tmod y))
 |.eql=>some (.bool (x==y))
 |.neq=>some (.bool (x != y))
 |.lss=>some (.bool (x<y))
 |.leq=>some (.bool (x<=y))
 |.gtr=>some (.bool (x>y))
 |.geq=>some (.bool (x>=y))
 |op=>IB op k x y
def HQ (op:BinOp)(k:IntKind)(x y:Int):Option Ab:=
 if y<0 then none else
 match op with
 |.shl=>some (.int k (k.wrap (x*2^(min y.toNat k.bits))))
 |.shr=>some (.int k (x.fdiv (2^(min y.toNat k.bits))))
 |_=>none
def VbE (op:BinOp)(x y:zAa):Option Ab:=
 match op with
 |.add=>if x.length+y.length<=1152921504606846976 then some (.str (x++y))else none
 |.eql=>some (.bool (x==y))
 |.neq=>some (.bool (!(x==y)))
 |.lss=>some (.bool (Op.bytesLess x y))
 |.leq=>some (.bool (Op.bytesLess x y||x==y))
 |.gtr=>some (.bool (!(Op.bytesLess x y||x==y)))
 |.geq=>some (.bool (!(Op.bytesLess x y)))
 |_=>none

def HA:Ab->Ab->Option Bool
 |.int k a,.int k' b=>if k=k' then some (a==b)else none
 |_,_=>none
def Cg:List Ab->List Ab->Option Bool
 |[],[]=>some true
 |a::vas,b::bs=>(HA a b).bind λe=>(Cg vas bs).bind λr=>some (e&&r)
 |_,_=>none
inductive EqK where
 |none
 |bool
 |ptr
 |iface
 |flat (n:Nat)
abbrev EqK.n:=EqK.none
def eqA (k:EqK)(x y:Ab):Option Bool:=
 match k,x,y with
 |.bool,.bool a,.bool b=>some (a==b)
 |.ptr,.nilp,.nilp=>some true
 |.ptr,.nilp,.ptr _ _ _=>some false
 |.ptr,.ptr _ _ _,.nilp=>some false
 |.ptr,.nilp,.cptr _ _=>some false
 |.ptr,.cptr _ _,.nilp=>some false
 |.ptr,.ptr id g o,.ptr id' g' o'=>if id=id'/\g=g'/\o=o' then some true else .none
 |.iface,.nilif,.iface _ _=>some false
 |.iface,.iface _ _,.nilif=>some false
 |.flat n,.agg vas,.agg bs=>if vas.length=n then Cg vas bs else .none
 |_,_,_=>.none
def D7:BinOp->Bool
 |.shl=>true
 |.shr=>true
 |_=>false
def Af (ek:EqK)(op:BinOp)(x y:Ab):Option Ab:=
 match x,y with
 |.int k a,.int k' b=>if D7 op then HQ op k a b else if k=k' then FK op k a b else none
 |.str a,.str b=>VbE op a b
 |x,y=>
  match op with
  |.eql=>(eqA ek x y).map .bool
  |.neq=>(eqA ek x y).map λb=>.bool (!b)
  |_=>none
def Ri (op:BinOp)(x:Ab):Option Ab:=
 match op,x with
 |.eql,.sl [] _=>some .ubool
 |.neq,.sl [] _=>some .ubool
 |.eql,.sl (_::_) _=>some (.bool false)
 |.neq,.sl (_::_) _=>some (.bool true)
 |.eql,.ms _ _ _ _ _ _ _=>some (.bool false)
 |.neq,.ms _ _ _ _ _ _ _=>some (.bool true)
 |_,_=>none
def unA (op:UnOp)(x:Ab):Option Ab:=
 match op,x with
 |.neg,.int k n=>some (.int k (k.wrap (0-n)))
 |.xor,.int k n=>IB .xor k (if k.signed then -1 else k.max) n
 |.not,.bool b=>some (.bool (!b))
 |_,_=>none
def Ao (i:Nat)(x:Ab):Option Ab:=
 match x with
 |.tup vs=>vs[i]?
 |_=>none
def Vio (a:Bool)(off sz:Nat)(cs:List Ab):Option Ab:=
 if a then some (.agg ((cs.drop off).take sz))else cs[off]?
def Qs (a:Bool)(off sz:Nat)(x:Ab):Option Ab:=
 match x with
 |.agg cs=>Vio a off sz cs
 |_=>none
def Ac (off:Nat)(x:Ab):Option Ab:=
 match x with
 |.ptr id g o=>some (.ptr id g (o+off))
 |.cptr cs o=>some (.cptr cs (o+off))
 |_=>none
def Bc (x i:Ab):Option Ab:=
 match x,i with
 |.str s,.int _ n=>if 0<=n then (s[n.toNat]?).map λb=>.int .u8 b.toNat else none
 |_,_=>none
def JF (a:Bool)(len sz:Nat)(x i:Ab):Option Ab:=
 match x,i with
 |.agg cs,.int _ n=>if 0<=n/\n<len then Vio a (n.toNat*sz) sz cs else none
 |_,_=>none
def Aw (sz:Nat)(x i:Ab):Option Ab:=
 match x,i with
 |.sl es _,.int _ n=>if 0<=n then (es[n.toNat]?).bind λe=>if e.length=sz then some (.cptr e 0)else none else none
 |.ms id g off len _ sz' _,.int _ n=>if sz'=sz/\0<=n/\n<len then some (.ptr id g (off+n.toNat*sz))else none
 |_,_=>none
def BM (len sz:Nat)(x i:Ab):Option Ab:=
 match x,i with
 |.ptr id g o,.int _ n=>if 0<=n/\n<len then some (.ptr id g (o+n.toNat*sz))else none
 |.cptr cs o,.int _ n=>if 0<=n/\n<len then some (.cptr cs (o+n.toNat*sz))else none
 |_,_=>none
def Ah (x:Ab):Option Ab:=
 match x with
 |.ptr _ _ _=>some x
 |.cptr _ _=>some x
 |.iface _ _=>some x
 |_=>none
def Te (t:TypeId)(x:Ab):Option Ab:=some (.iface t x)
def Vb1 (t:TypeId)(ok:Bool)(x:Ab):Option Ab:=
 match x with
 |.iface t' v=>if t'=t then some (if ok then .tup [v,.bool true]else v)else none
 |_=>none
def BG (x:Ab):Option Ab:=
 match x with
 |.str s=>some (.i6 s.length)
 |_=>none
def A9 (x:Ab):Option Ab:=
 match x with
 |.sl es _=>some (.i6 es.length)
 |.ms _ _ _ len _ _ _=>some (.i6 len)
 |_=>none
def VjM (n:Nat)(x:Ab):Option Ab:=some (.i6 n)
def VpQ (x:Ab):Option Ab:=
 match x with
 |.sl es .ti=>some (.i6 es.length)
 |.ms _ _ _ _ cap _ true=>some (.i6 cap)
 |_=>none
def Jw (x y:Ab):Option Ab:=
 match x,y with
 |.int k a,.int _ b=>some (.int k (if b>a then b else a))
 |_,_=>none
def SO (x y:Ab):Option Ab:=
 match x,y with
 |.int k a,.int _ b=>some (.int k (if b<a then b else a))
 |_,_=>none
def Hf (f:Ab->Ab->Option Ab):Ab->List Ab->Option Ab
 |x,[]=>some x
 |x,y::r=>(f x y).bind λz=>Hf f z r
def B5 (d:Nat)(o:Option Ab):Option Nat:=
 match o with
 |none=>some d
 |some (.int _ n)=>if 0<=n then some n.toNat else none
 |_=>none
def BP (x:Ab)(lo hi:Option Ab):Option Ab:=
 match x with
 |.str s=>(B5 0 lo).bind λl=>(B5 s.length hi).bind λh=>if l<=h/\h<=s.length then some (.str ((s.take h).drop l))else none
 |_=>none
def FQ (tk:Tok)(l h n:Nat)(mx:Bool):Tok:=
 if mx then .ti else
 match tk with
 |.ti=>if h=n then .ti else .no
 |.own t=>if h=n/\l=0 then .own t else .no
 |.no=>.no
def B7 (sz:Nat)(x:Ab)(lo hi mx:Option Ab):Option Ab:=
 match x with
 |.sl es tk=>if !(es.all λe=>e.length==sz)then none else (B5 0 lo).bind λl=>(B5 es.length hi).bind λh=>(B5 h mx).bind λm=>if l<=h/\h<=es.length/\m=h then some (.sl ((es.take h).drop l) (FQ tk l h es.length mx.isSome))else none
 |.ms id g off len cap sz' ex=>(B5 0 lo).bind λl=>(B5 len hi).bind λh=>(B5 cap mx).bind λm=>if sz'=sz/\0<sz/\l<=h/\h<=m/\m<=cap then some (.ms id g (off+l*sz) (h-l) (m-l) sz (ex||mx.isSome))else none
 |_=>none
def JT (len sz:Nat)(x:Ab)(lo hi:Option Ab):Option Ab:=
 match x with
 |.ptr id g off=>(B5 0 lo).bind λl=>(B5 len hi).bind λh=>if l<=h/\h<=len then some (.ms id g (off+l*sz) (h-l) (len-l) sz true)else none
 |_=>none

def I9:List (List Ab)->Option (zAa)
 |[]=>some []
 |[.int .u8 n]::r=>(I9 r).map (UInt8.ofNat n.toNat::·)
 |_=>none
def Dd:List Ab->Option (zAa)
 |[]=>some []
 |.int .u8 n::r=>(Dd r).map (UInt8.ofNat n.toNat::·)
 |_=>none
def A5 (k:IntKind)(x:Ab):Option Ab:=
 match x with
 |.int _ n=>some (.int k (k.wrap n))
 |_=>none
def VcL (x:Ab):Option Ab:=
 match x with
 |.str s=>some (.str s)
 |_=>none
def VcM (x:Ab):Option Ab:=
 match x with
 |.int _ n=>some (.str (Utf8.encode n).data.toList)
 |_=>none
def MR (x:Ab):Option Ab:=
 match x with
 |.str s=>some (.sl (s.map λb=>[.int .u8 b.toNat]) .no)
 |_=>none

def D3 (cs:List Ab)(o n:Nat)(vs:List Ab):List Ab:=cs.take o++vs++cs.drop (o+n)
def Gy (cs:List Ab):List (Nat×Nat×Ab)->Option (List Ab)
 |[]=>some cs
 |(o,n,v)::r=>v.acells.bind λvs=>if vs.length=n/\o+n<=cs.length then Gy (D3 cs o n vs) r else none
def Az (z:Option (List Ab))(parts:List (Nat×Nat×Ab)):Option Ab:=
 z.bind λz=>if z.all Ab.isScal then (Gy z parts).map .agg else none
def Cq:Ab->Bool
 |.bool _=>true
 |.int _ _=>true
 |.str _=>true
 |.nilp=>true
 |.nilfn=>true
 |.nilmap=>true
 |.nilif=>true
 |.cptr _ _=>true
 |.sl _ .no=>true
 |.sl _ .ti=>true
 |_=>false
def KP:Ab->Ab
 |.sl es (.own _)=>.sl es .no
 |v=>v
def Df (sz:Nat):List Ab->Option (List (List Ab))
 |[]=>some []
 |v::r=>v.acells.bind λvs=>if vs.length=sz/\(vs.map KP).all Cq then (Df sz r).map (vs.map KP::·)else none
def AK (sz:Nat)(vs:List Ab):Option Ab:=(Df sz vs).map λes=>.sl es .ti

def AD (H:Aa)(id g:Nat):Option (List Ab):=
 match H[id]? with
 |some (.cel g' cs)=>if g'=g then some cs else none
 |some (.buf g' cs _ _)=>if g'=g then some cs else none
 |some (.typ _ cs)=>if 0=g then some cs else none
 |_=>none
def FR (H:Aa)(id g:Nat)(cs:List Ab):Aa:=
 match H[id]? with
 |some (.buf g' _ e sz)=>H.set id (.buf g' cs e sz)
 |some (.typ t _)=>H.set id (.typ t cs)
 |_=>H.set id (.cel g cs)
def Ad (a:Bool)(sz:Nat)(x:Ab)(H:Aa):Option Ab:=
 match x with
 |.ptr id g o=>(AD H id g).bind λcs=>if a then (if o+sz<=cs.length then some (.agg ((cs.drop o).take sz))else none)else cs[o]?
 |.cptr cs o=>if a then (if o+sz<=cs.length then some (.agg ((cs.drop o).take sz))else none)else cs[o]?
 |_=>none
def Ae (sz:Nat)(x v:Ab)(H:Aa):Option Aa:=
 match x with
 |.ptr id g o=>(AD H id g).bind λcs=>v.acells.bind λvs=>if vs.length=sz/\o+sz<=cs.length then some (FR H id g (D3 cs o sz vs))else none
 |_=>none
def CR (x:Ab)(H:Aa):Option Ab:=
 match x with
 |.sl es _=>(I9 es).map .str
 |.ms id g off len _ sz _=>if sz=1 then (AD H id g).bind λcs=>if off+len<=cs.length then (Dd ((cs.drop off).take len)).map .str else none else none
 |_=>none
def Av (cells:Option (List Ab))(H:Aa):Option (Ab×Aa):=
 cells.bind λcs=>if cs.all Ab.isScal then some (.ptr H.length 0 0,H++[.c0 cs])else none
def Ji (t:TypeId)(cells:Option (List Ab))(H:Aa):Option (Ab×Aa):=
 cells.bind λcs=>if cs.all Ab.isScal then some (.ptr H.length 0 0,H++[.typ t cs])else none
def My (n:Nat)(z:List Ab):List Ab:=(List.replicate n z).flatten
def KZ (sz:Nat)(zero:Option (List Ab))(x:Ab)(H:Aa):Option Aa:=
 match x with
 |.sl es _=>if es.length=0 then some H else none
 |.ms id g off len _ sz2 _=>if len=0 then some H else zero.bind λz=>if sz2=sz then Ae (len*sz) (.ptr id g off) (.agg (My len z)) H else none
 |_=>none
def FG (sz bytes:Nat)(z:Option (List Ab))(len cap:Ab)(H:Aa):Option (Ab×Aa):=
 z.bind λz=>match len,cap with
 |.i6 l,.i6 c=>if z.all Ab.isScal/\z.length=sz/\0<=l/\l<=c/\c*bytes<=140737488355328/\c<=140737488355328 then some (.ms H.length 0 0 l.toNat c.toNat sz true,H++[.c0 (My c.toNat z)])else none
 |_,_=>none
def EM (H:Aa):Option (Ab×Aa):=some (.mp H.length,H++[.map []])

def GL (sz:Nat):Nat->List Ab->List (List Ab)
 |0,_=>[]
 |n+1,cs=>cs.take sz::GL sz n (cs.drop sz)
def C8 (sz:Nat)(x:Ab)(H:Aa):Option (List (List Ab)):=
 match x with
 |.sl es _=>if es.all (λe=>e.length==sz)then some es else none
 |.ms id g off len _ sz' _=>if sz'=sz then (AD H id g).bind λcs=>if off+len*sz<=cs.length/\(((cs.drop off).take (len*sz)).map KP).all Cq then some (GL sz len (((cs.drop off).take (len*sz)).map KP))else none else none
 |_=>none
def AS (e:TypeId)(sz bytes:Nat)(x y:Ab)(H:Aa):Option (Ab×Aa):=
 (C8 sz y H).bind λys=>(C8 sz x H).bind λes=>
 if ys.length=0 then some (x,H)
 else if (es.length+ys.length)*bytes<=140737488355328/\es.length+ys.length<=140737488355328 then
  (match x with
  |.sl _ .ti=>some (.sl (es++ys) (.own H.length),H++[.tok (es.length+ys.length) e sz])
  |.sl _ (.own t)=>(match H[t]? with
    |some (.tok n e' sz')=>if n=es.length/\e'=e/\sz'=sz then some (.sl (es++ys) (.own t),H.set t (.tok (es.length+ys.length) e sz))else none
    |_=>none)
  |.ms _ _ _ len cap _ true=>if cap<len+ys.length then some (.sl (es++ys) (.own H.length),H++[.tok (es.length+ys.length) e sz])else none
  |_=>none)
 else none
def IC (e:TypeId)(sz bytes:Nat)(x:Ab)(ys:List (List Ab))(H:Aa):Option (Ab×Aa):=
 if ys.length=0 then (match x with | .sl es tk=>if es.all (λc=>c.length==sz)then some (.sl es tk,H)else none | .ms id g off len cap sz' ex=>if sz'=sz then some (x,H)else none | _=>none)
 else
  (match x with
  |.sl es .ti=>if es.all (λc=>c.length==sz)/\(es.length+ys.length)*bytes<=140737488355328/\es.length+ys.length<=140737488355328 then
    some (.ms H.length 0 0 (es.length+ys.length) (es.length+ys.length) sz false,H++[.buf 0 (es++ys).flatten e sz])else none
  |.ms id g off len _ sz' false=>(match H[id]? with
    |some (.buf g' cs e' sz'')=>if off=0/\g'=g/\e'=e/\sz'=sz/\sz''=sz/\len*sz<=cs.length/\(len+ys.length)*bytes<=140737488355328/\len+ys.length<=140737488355328 then
      some (.ms id (g+1) 0 (len+ys.length) (len+ys.length) sz false,H.set id (.buf (g+1) (cs.take (len*sz)++ys.flatten) e sz))else none
    |_=>none)
  |_=>none)
def Qu (sz:Nat)(y:Ab)(H:Aa):Option (List (List Ab)):=
 match y with
 |.str s=>if sz=1 then some (s.map λb=>[.int .u8 b.toNat])else none
 |y=>C8 sz y H
def Gg (e:TypeId)(sz bytes:Nat)(x y:Ab)(H:Aa):Option (Ab×Aa):=(C8 sz y H).bind λys=>IC e sz bytes x ys H
def Vb4 (e:TypeId)(sz bytes:Nat)(x y:Ab)(H:Aa):Option (Ab×Aa):=
 match y with
 |.str s=>(Qu sz (.str s) H).bind λys=>IC e sz bytes x ys H
 |_=>none
def VfT:Ab->Bool
 |.int _ _=>true
 |_=>false
def Eg (a:Bool)(n:Nat)(k:Ab):Option (List Ab):=
 match a,k with
 |true,.agg cs=>if cs.length=n/\cs.all VfT=true then some cs else none
 |false,.int K i=>some [.int K i]
 |_,_=>none
def EZ (a:Bool)(n:Nat)(es:List (Ab×Ab))(k:List Ab):Option (Option Ab):=
 match es with
 |[]=>some none
 |(k',v)::r=>((Eg a n k').bind λkc=>Cg k kc).bind λb=>if b then some (some v)else EZ a n r k
def FA (a:Bool)(n:Nat)(z:Option Ab)(ok:Bool)(m k:Ab)(H:Aa):Option Ab:=
 z.bind λz=>(Eg a n k).bind λkc=>
 match m with
 |.mp id=>(match H[id]? with
  |some (.map es)=>(EZ a n es kc).map λr=>match r with
    |some v=>if ok then .tup [v,.bool true]else v
    |none=>if ok then .tup [z,.bool false]else z
  |_=>none)
 |_=>none
def DH (a:Bool)(n:Nat)(es:List (Ab×Ab))(k:Ab)(kc:List Ab)(v:Ab):Option (List (Ab×Ab)):=
 match es with
 |[]=>some [(k,v)]
 |(k',v')::r=>((Eg a n k').bind λkc'=>Cg kc kc').bind λb=>if b then some ((k',v)::r)else (DH a n r k kc v).map ((k',v')::·)
def Ev (a:Bool)(n:Nat)(m k v:Ab)(H:Aa):Option Aa:=
 (Eg a n k).bind λkc=>
 match m with
 |.mp id=>(match H[id]? with
  |some (.map es)=>(DH a n es k kc v).map λes=>H.set id (.map es)
  |_=>none)
 |_=>none
def O1 (x:Ab)(H:Aa):Option (Ab×Aa):=
 match x with
 |.str s=>some (.ptr H.length 0 0,H++[.iter s 0])
 |_=>none
def Pb (x:Ab)(H:Aa):Option (Ab×Aa):=
 match x with
 |.ptr id 0 0=>(match H[id]? with
  |some (.iter s pos)=>
   if pos<s.length then
    let cw:=Utf8.decode ⟨s.toArray⟩ pos
    some (.tup [.bool true,.i6 pos,.int .i32 cw.1],H.set id (.iter s (pos+cw.2)))
   else some (.tup [.bool false],H)
  |_=>none)
 |_=>none

structure Cfg where
 P:Program
 G:ID
 eq:TypeId->Bool
 key:TypeId->Bool
 mu:Bool
 orc:Orc

def BX (P:Program)(t:TypeId):Bool:=
 match P.underlying t with
 |some (.struct _)=>true
 |some (.array _ _)=>true
 |_=>false
def Au (P:Program)(t:TypeId):Nat:=((P.info? t).map (·.size)).getD 0
def FO (P:Program)(t:TypeId):Nat:=((P.info? t).map (·.bytes)).getD 0
def GY (P:Program)(t:TypeId):Option (List Ab):=((P.info? t).bind (·.zero)).map λz=>z.cells.toList.map Mk
def Uz (P:Program)(t:TypeId):Option Ab:=((P.info? t).bind (·.zero)).map Vpa
def okT (P:Program)(t:TypeId):Bool:=
 (P.underlying t).isSome&&(match P.info? t with
  |some i=>i.size != 0&&(match i.zero with
   |some z=>z.cells.size==i.size
   |none=>false)
  |none=>false)
def VoM (P:Program)(t:TypeId):Bool:=
 match P.underlying t with
 |some (.int .u8)=>true
 |_=>false
def Hx (C:Cfg)(t:TypeId):EqK:=
 if C.eq t then .flat (Au C.P t)else
 match C.P.underlying t with
 |some .bool=>.bool
 |some (.pointer e)=>if (C.P.info? e).isSome then .ptr else .none
 |some (.interface _)=>.iface
 |_=>.none
def VfS:Operand->Bool
 |.const (.slice none 0 0)=>true
 |_=>false
def VoK (C:Cfg)(t:TypeId)(y:Operand):Bool:=VfS y&&(match C.P.underlying t with | some (.slice _)=>true | _=>false)
def Vjg (P:Program)(src dst:TypeId)(x:Ab)(H:Aa):Option Ab:=
 match P.underlying src,P.underlying dst with
 |some (.int _),some (.int k)=>A5 k x
 |some .string,some .string=>VcL x
 |some (.int _),some .string=>VcM x
 |some .string,some (.slice e)=>if VoM P e then MR x else none
 |some (.slice e),some .string=>if VoM P e then CR x H else none
 |_,_=>none
def Py (P:Program)(t:TypeId):Array Field:=
 match P.underlying t with
 |some (.struct fs)=>fs
 |_=>#[]
def JC (place:Nat->Option (Nat×Nat))(r:Operand->Ab):List (Nat×Operand)->Option (List (Nat×Nat×Ab))
 |[]=>some []
 |p::ps=>(place p.1).bind λx=>(JC place r ps).map ((x.1,x.2,r p.2)::·)
def SF (P:Program)(t:TypeId)(r:Operand->Ab)(parts:Array (Nat×Operand)):Option (List (Nat×Nat×Ab)):=
 match P.underlying t with
 |some (.struct fs)=>(fs.toList.mapM λf=>(P.info? f.type).map λi=>(f.offset,i.size)).bind λplaces=>JC (places[·]?) r parts.toList
 |some (.array _ e)=>(P.info? e).bind λi=>JC (λj=>some (j*i.size,i.size)) r parts.toList
 |_=>none

inductive Cls where
 |r
 |a
 |e
def cls:Op->Cls
 |.alloc _=>.a
 |.box _ _=>.a
 |.makeSlice _ _ _=>.a
 |.makeMap _ _=>.a
 |.store _ _ _=>.e
 |.mapUpdate _ _ _ _=>.e
 |.insert _ _ _ _=>.e
 |.range _ _=>.e
 |.next _ _=>.e
 |.panic _=>.e
 |.defer _=>.e
 |.go _=>.e
 |.send _ _=>.e
 |.recv _ _ _=>.e
 |.select _ _=>.e
 |.call c=>
  match c.callee with
  |.builtin .len=>.r
  |.builtin .cap=>.r
  |.builtin .max=>.r
  |.builtin .min=>.r
  |_=>.e
 |_=>.r

def BR (C:Cfg)(op:Op)(r:Operand->Ab)(H:Aa):Option Ab:=
 match op with
 |.move x=>some (r x)
 |.assign x=>some (r x)
 |.pick c a b=>Ay (r c) (r a) (r b)
 |.load t x=>if !okT C.P t then none else Ad (BX C.P t) (Au C.P t) (r x) H
 |.binOp op t x y _=>if VoK C t y then Ri op (r x)else Af (Hx C t) op (r x) (r y)
 |.unOp op _ x=>unA op (r x)
 |.convert src dst x=>Vjg C.P src dst (r x) H
 |.makeInterface t x=>(match C.P.underlying t with | some (.interface _)=>none | some _=>Te t (r x) | none=>none)
 |.makeFunc fn first caps=>(match fn with | .func f=>if first.size=0 then some (.fn f (caps.toList.map r))else if caps.size=0 then some (.bfn f (first.toList.map r))else none | _=>none)
 |.slice t x lo hi mx=>(match C.P.underlying t with
  |some .string=>if mx.isSome then none else BP (r x) (lo.map r) (hi.map r)
  |some (.slice e)=>if !okT C.P e\/(mx.isSome/\hi.isNone)then none else B7 (Au C.P e) (r x) (lo.map r) (hi.map r) (mx.map r)
  |some (.array n e)=>if mx.isSome \/ !okT C.P e then none else JT n (Au C.P e) (r x) (lo.map r) (hi.map r)
  |_=>none)
 |.fieldAddr s x f=>(match (Py C.P s)[f]? with | some fd=>if !okT C.P fd.type then none else Ac fd.offset (r x) | none=>none)
 |.field s x f=>(match (Py C.P s)[f]? with | some fd=>if !okT C.P fd.type then none else Qs (BX C.P fd.type) fd.offset (Au C.P fd.type) (r x) | none=>none)
 |.indexAddr t x i=>(match C.P.underlying t with
  |some (.slice e)=>if !okT C.P e then none else Aw (Au C.P e) (r x) (r i)
  |some (.array n e)=>if !okT C.P e then none else BM n (Au C.P e) (r x) (r i)
  |_=>none)
 |.index t x i=>(match C.P.underlying t with
  |some .string=>Bc (r x) (r i)
  |some (.array n e)=>if !okT C.P e then none else JF (BX C.P e) n (Au C.P e) (r x) (r i)
  |_=>none)
 |.extract x i=>Ao i (r x)
 |.nilCheck x=>Ah (r x)
 |.typeAssert x _ t ok=>(match C.P.underlying t with | some (.interface _)=>none | some _=>Vb1 t ok (r x) | none=>none)
 |.lookup t m k ok=>(match C.P.underlying t with | some (.map kt e)=>if C.key kt then FA (BX C.P kt) (Au C.P kt) (Uz C.P e) ok (r m) (r k) H else none | _=>none)
 |.build t parts=>(SF C.P t r parts).bind λps=>Az (GY C.P t) ps
 |.buildSlice t len parts=>(match C.P.underlying t with
  |some (.slice e)=>if okT C.P e/\parts.toList.map (·.1)=List.range len/\len*Au C.P e<=16777216 then AK (Au C.P e) (parts.toList.map λp=>r p.2)else none
  |_=>none)
 |.call c=>(match c.callee,c.args.toList,c.argTypes.toList with
  |.builtin .len,[x],[t]=>(match C.P.underlying t with
   |some .string=>BG (r x)
   |some (.slice _)=>A9 (r x)
   |some (.array n _)=>VjM n (r x)
   |_=>none)
  |.builtin .cap,[x],[t]=>(match C.P.underlying t with
   |some (.slice _)=>VpQ (r x)
   |_=>none)
  |.builtin .max,x::xs,_=>Hf Jw (r x) (xs.map r)
  |.builtin .min,x::xs,_=>Hf SO (r x) (xs.map r)
  |_,_,_=>none)
 |_=>none

def Vh7 (P:Program)(t:TypeId):Bool:=match P.underlying t with
 |some (.struct fs)=>(match fs[0]? with
  |some f=>(match P.underlying f.type with
   |some (.pointer u)=>Nat.beq u t
   |_=>false)
  |none=>false)
 |_=>false
def CT (C:Cfg)(op:Op)(r:Operand->Ab)(H:Aa):Option (Ab×Aa):=
 match op with
 |.alloc t=>if !okT C.P t then none else (match Vh7 C.P t with | true=>Ji t (GY C.P t) H | false=>Av (GY C.P t) H)
 |.box t x=>(match (r x).acells with
  |some cs=>if !okT C.P t\/cs.length≠Au C.P t then none else Av (some cs) H
  |none=>none)
 |.makeSlice t l c=>(match C.P.underlying t with
  |some (.slice e)=>if !okT C.P e then none else FG (Au C.P e) (FO C.P e) (GY C.P e) (r l) (r c) H
  |_=>none)
 |.makeMap t x=>(match x,C.P.underlying t with
  |none,_=>EM H
  |some x,some (.map _ _)=>(match r x with | .int _ _=>EM H | _=>none)
  |_,_=>none)
 |_=>none

def Vqf (x:Option Ab)(H:Aa):Out:=x.map λv=>(.ret v,H)
def As (x:Option Aa):Out:=x.map λH=>(.ret .undef,H)
def Cd (x:Option (Ab×Aa)):Out:=x.map λp=>(.ret p.1,p.2)
def FP (C:Cfg)(op:Op)(r:Operand->Ab)(H:Aa):Out:=
 match op with
 |.store t x v=>if !okT C.P t then none else As (Ae (Au C.P t) (r x) (r v) H)
 |.mapUpdate t m k v=>(match C.P.underlying t with | some (.map kt _)=>if C.key kt then As (Ev (BX C.P kt) (Au C.P kt) (r m) (r k) (r v) H)else none | _=>none)
 |.insert t m k v=>(match C.P.underlying t with | some (.map kt _)=>if C.key kt then As (Ev (BX C.P kt) (Au C.P kt) (r m) (r k) (r v) H)else none | _=>none)
 |.range t x=>(match C.P.underlying t with | some .string=>Cd (O1 (r x) H) | _=>none)
 |.next x isStr=>if isStr then Cd (Pb (r x) H)else none
 |.panic x=>(match r x with | .iface t v=>some (.pan (.iface t v),H) | _=>none)
 |.call c=>(match c.callee with
  |.builtin .append=>(match c.args.toList,c.argTypes.toList with
   |[x,y],[t,ty]=>(match C.P.underlying t,C.P.underlying ty with
    |some (.slice e),some (.slice _)=>if !okT C.P e\/t≠ty then none else Cd (if C.mu then Gg e (Au C.P e) (FO C.P e) (r x) (r y) H else AS e (Au C.P e) (FO C.P e) (r x) (r y) H)
    |some (.slice e),some .string=>if !okT C.P e then none else Cd (Vb4 e (Au C.P e) (FO C.P e) (r x) (r y) H)
    |_,_=>none)
   |_,_=>none)
  |.builtin .clear=>(match c.args.toList,c.argTypes.toList with
   |[x],[t]=>(match C.P.underlying t with
    |some (.slice e)=>if !okT C.P e then none else As (KZ (Au C.P e) (GY C.P e) (r x) H)
    |_=>none)
   |_,_=>none)
  |.value f=>(match r f with
   |.fn g caps=>C.orc g ((c.args.toList.map r)++caps) H
   |.bfn g first=>C.orc g (first++(c.args.toList.map r)) H
   |_=>none)
  |_=>none)
 |_=>none

def GW (tm:List Ab)(d:Option Tmp)(v:Ab):List Ab:=
 match d with
 |some d=>tm.set d v
 |none=>tm
def Io (all:Array Oper)(o:Oper)(tm:List Ab):Option Bool:=
 match o.guard with
 |none=>some true
 |some (j,want)=>(match ((all[j]?).bind (·.dst)).map λd=>tm.getD d .undef with
  |some (.bool b)=>some (b==want)
  |some (.tup [])=>some false
  |_=>none)
abbrev C9:Ab:=.tup []
def gR (w:Bool)(x:Option Ab):Option Ab:=if w then x else some C9
def gA (w:Bool)(H:Aa)(x:Option (Ab×Aa)):Option (Ab×Aa):=if w then x else some (C9,H)
def gE (w:Bool)(H:Aa)(x:Out):Out:=if w then x else some (.ret C9,H)

def Im (x:Out)(k:Ab->Aa->Out)(kp:Ab->Aa->Out):Out:=
 x.bind λp=>match p.1 with
  |.ret v=>k v p.2
  |.pan v=>kp v p.2
def Al (x:Option (Ab×Aa))(k:Ab->Aa->Out):Out:=x.bind λp=>k p.1 p.2

def Pz (C:Cfg)(all:Array Oper):List Oper->(List Ab->Aa->Out)->(Ab->List Ab->Aa->Out)->List Ab->Aa->Out
 |[],k,_,tm,H=>k tm H
 |o::rest,k,kp,tm,H=>
  (Io all o tm).bind λw=>
  match cls o.op with
  |.r=>(gR w (BR C o.op (rho C.G tm) H)).bind λv=>Pz C all rest k kp (GW tm o.dst v) H
  |.a=>Al (gA w H (CT C o.op (rho C.G tm) H)) λv H=>Pz C all rest k kp (GW tm o.dst v) H
  |.e=>Im (gE w H (FP C o.op (rho C.G tm) H)) (λv H=>Pz C all rest k kp (GW tm o.dst v) H) (λv H=>kp v tm H)

def chk (p:Prop)(x:Out):Out:=open Classical in if p then x else none
def J9:Op->Bool
 |.load _ _=>true
 |.convert _ _ _=>true
 |.lookup _ _ _ _=>true
 |_=>false
def Vkz (bf:Nat->Bool)(f:Aa->Option Ab)(v:Ab):List (Nat×Aa)->Prop
 |[]=>True
 |(e,h)::r=>if bf e then True else f h=some v/\Vkz bf f v r
def isE (o:Oper):Bool:=
 match cls o.op with
 |.e=>true
 |_=>false
def isA (o:Oper):Bool:=
 match cls o.op with
 |.a=>true
 |_=>false
def SD (o:Oper):Bool:=o.guard.isNone&&(match o.op with
 |.move _=>true
 |.nilCheck _=>true
 |.fieldAddr _ _ _=>true
 |_=>false)
def Uc (ops:Array Oper):zAb->zAb->Nat
 |[],_=>0
 |i::rest,done=>match ops[i]? with
  |some o=>if SD o&&o.after.all (λe=>!Region.binds .any e||done.contains e.on) && !done.contains i&&(List.range ops.size).all (λj=>j==i||done.contains j||(match ops[j]? with
    |some oj=>oj.after.any (λe=>Region.binds .any e&&e.on==i)||o.apart ops oj
    |none=>true))then Uc ops rest (i::done)+1 else 0
  |none=>0
def LJ (ops:Array Oper)(perm:zAb):Nat:=if Region.noSelect ops then Uc ops perm []else 0
def KH (ops:Array Oper)(perm:zAb):Bool:=
 let b:=Region.before ops
 let bf:=λi j=>(b.getD j 0).testBit i
 let pre:=perm.take (LJ ops perm)
 perm.length==ops.size&&(List.range ops.size).all (λi=>perm.contains i) &&
 okFrom ops bf pre [] perm
where
 okFrom (ops:Array Oper) (bf:Nat->Nat->Bool) (pre:zAb):zAb->zAb->Bool
  |_,[]=>true
  |done,j::rest=>
   (match ops[j]? with
   |some oj=>
    oj.after.all (λe=>!Region.binds .any e||done.contains e.on) &&
    done.all (λi=>match ops[i]? with
     |some oi=>i != j&&(bf i j||pre.contains i||(!(isE oj)&&oi.apart ops oj&&oj.apart ops oi))&&(!(isA oi)||isE oj||done.all (λi'=>bf i' j||pre.contains i')||(match oi.dst with | some d=>!(oj.looksAt ops).contains d | none=>true))
     |none=>false)
   |none=>false)&&okFrom ops bf pre (j::done) rest
def GJ (C:Cfg)(pb:Bool)(ops:Array Oper)(bf:Nat->Nat->Bool)(k:List Ab->Aa->Out)(kp:Ab->List Ab->Aa->Out):zAb->List (Nat×Aa)->Aa->Aa->List Ab->Out
 |[],_,_,cur,tm=>k tm cur
 |i::rest,hist,hE,cur,tm=>
  match ops[i]? with
  |none=>none
  |some o=>
   (Io ops o tm).bind λw=>
   match cls o.op with
   |.r=>(gR w (BR C o.op (rho C.G tm) hE)).bind λv=>
     if J9 o.op then chk (Vkz (λe=>bf e i) (λh=>gR w (BR C o.op (rho C.G tm) h)) v hist) (GJ C pb ops bf k kp rest hist hE cur (GW tm o.dst v))
     else GJ C pb ops bf k kp rest hist hE cur (GW tm o.dst v)
   |.a=>Al (gA w cur (CT C o.op (rho C.G tm) cur)) λv H=>GJ C pb ops bf k kp rest hist hE H (GW tm o.dst v)
   |.e=>Im (gE w cur (FP C o.op (rho C.G tm) cur)) (λv H=>GJ C pb ops bf k kp rest ((i,hE)::hist) H H (GW tm o.dst v)) (λv H=>match rest.all (λj=>pb&&bf i j)with | true=>kp v (tm.map λ_=>.undef) H | false=>none)

inductive Ann where
 |lf
 |reg (perm:zAb)
 |regp (perm:zAb)
 |tw (a b:Ann)
 |join (live:zAb) (a b:Ann)
 |one (a:Ann)
 |loop (live:zAb) (a:Ann)
def IP (L:zAb)(tm:List Ab):List Ab:=L.map λi=>tm.getD i .undef
def OV (n:Nat)(L:zAb)(vs:List Ab):List Ab:=(List.range n).map λi=>
 match L.idxOf? i with
 |some j=>vs.getD j .undef
 |none=>.undef
def AL (f:(List Ab->Aa->Out)->Out)(j:List Ab->Aa->Out):Out:=f j
def An (G:(List Ab->Aa->Out)->List Ab->Aa->Out):Nat->List Ab->Aa->Out
 |0,_,_=>none
 |n+1,vs,H=>G (An G n) vs H
def AI:Nat:=Classical.choose (⟨1152921504606846976,rfl⟩:∃n:Nat,n=1152921504606846976)
theorem Cw:AI=1152921504606846976:=Classical.choose_spec (⟨1152921504606846976,rfl⟩:∃n:Nat,n=1152921504606846976)
open Classical in
def Ai (c:Ab)(a b:Out):Out:=
 match c with
 |.bool t=>if t then a else b
 |.ubool=>if a=b then a else none
 |_=>none
abbrev Rt:=Vhn->List Ab->Aa->Out
def VjP (k:List Ab->Aa->Out)(K:Rt):Rt
 |.normal,tm,H=>k tm H
 |e,tm,H=>K e tm H
def VfR (id:Nat)(K:Rt):Rt
 |.exit i,tm,H=>if i=id then K .normal tm H else K (.exit i) tm H
 |e,tm,H=>K e tm H
def evC (C:Cfg)(n:Nat):Code->Ann->Rt->List Ab->Aa->Out
 |.skip,_,K,tm,H=>K .normal tm H
 |.label _,_,K,tm,H=>K .normal tm H
 |.ret,_,K,tm,H=>K .ret tm H
 |.exit id,_,K,tm,H=>K (.exit id) tm H
 |.region _ ops false,_,K,tm,H=>Pz C ops ops.toList (λtm H=>K .normal tm H) (λv tm H=>K (.pan v) tm H) tm H
 |.region _ ops true,.reg perm,K,tm,H=>if KH ops perm then GJ C false ops (λi j=>((Region.before ops).getD j 0).testBit i) (λtm H=>K .normal tm H) (λv tm H=>K (.pan v) tm H) perm [] H H tm else none
 |.region _ ops true,.regp perm,K,tm,H=>if KH ops perm then GJ C true ops (λi j=>((Region.before ops).getD j 0).testBit i) (λtm H=>K .normal tm H) (λv tm H=>K (.pan v) tm H) perm [] H H tm else none
 |.seq a b,.tw x y,K,tm,H=>evC C n a x (VjP (λtm H=>evC C n b y K tm H) K) tm H
 |.seq a b,.join L x y,K,tm,H=>AL (λj=>evC C n a x (VjP (λtm H=>j (IP L tm) H) K) tm H) (λvs H=>evC C n b y K (OV n L vs) H)
 |.cond c a b,.tw x y,K,tm,H=>Ai (rho C.G tm c) (evC C n a x K tm H) (evC C n b y K tm H)
 |.block id a,.one x,K,tm,H=>evC C n a x (VfR id K) tm H
 |.loop a,.loop L x,K,tm,H=>An (λrec vs H=>evC C n a x (VjP (λtm H=>rec (IP L tm) H) K) (OV n L vs) H) AI (IP L tm) H
 |_,_,_,_,_=>none

def Vq5 (n:Nat):Ab->Bool
 |.ptr id _ _=>id<n
 |.ms id _ _ _ _ _ _=>id<n
 |.sl _ (.own t)=>t<n
 |.mp id=>id<n
 |.fn _ caps=>caps.isEmpty
 |.bfn _ _=>false
 |.ubool=>false
 |.iface _ _=>false
 |.agg _=>false
 |.tup _=>false
 |.undef=>false
 |_=>true

mutual
def frz (H:Aa)(n:Nat):Nat->Ab->Option Ab
 |0,_=>none
 |d+1,v=>
  match v with
  |.undef=>none
  |.ptr id _ _=>if id<n then some v else none
  |.mp id=>if id<n then some v else none
  |.ms id g off len cap sz ex=>if id<n then some v else
    (AD H id g).bind λcs=>if off+len*sz<=cs.length then (Ei H n d ((cs.drop off).take (len*sz))).bind λcs'=>if cs'.all Cq then some (.sl (GL sz len cs') (if ex/\cap=len then .ti else .no))else none else none
  |.sl es (.own t)=>if t<n then some v else some (.sl es .no)
  |.fn f caps=>(Ei H n d caps).map (.fn f)
  |.bfn _ _=>none
  |.ubool=>none
  |.iface t x=>(frz H n d x).map (.iface t)
  |.agg cs=>(Ei H n d cs).map .agg
  |.tup vs=>(Ei H n d vs).map .tup
  |v=>some v
def Ei (H:Aa)(n:Nat):Nat->List Ab->Option (List Ab)
 |0,_=>none
 |_+1,[]=>some []
 |d+1,v::r=>(frz H n d v).bind λv'=>(Ei H n (d+1) r).map (v'::·)

end
inductive Fd where
 |keep
 |pure
 |keepN
 |pureN
def fgt:Ab->Ab
 |.sl es _=>.sl es .no
 |v=>v
def E9:Ab->Ab
 |.agg cs=>.agg (cs.map fgt)
 |v=>fgt v
def forget:Ab->Ab
 |.tup vs=>.tup (vs.map E9)
 |v=>E9 v
def Res.forget:Res->Res
 |.ret v=>.ret (Gm.forget v)
 |.pan v=>.pan v
def Iv (C:Cfg)(tm:List Ab)(H:Aa):ResultVar->Option Ab
 |.tmp t=>some (tm.getD t .undef)
 |.cell a t=>if !okT C.P t then none else Ad (BX C.P t) (Au C.P t) (tm.getD a .undef) H
def Fk (C:Cfg)(tm:List Ab)(H:Aa):List ResultVar->Option (List Ab)
 |[]=>some []
 |r::rs=>(Iv C tm H r).bind λv=>(Fk C tm H rs).map (v::·)
def FS (C:Cfg)(rs:List ResultVar)(tm:List Ab)(H:Aa):Option Ab:=
 match rs with
 |[r]=>Iv C tm H r
 |rs=>(Fk C tm H rs).map .tup
def fin (m:Fd)(H0:Aa)(r:Res)(H:Aa):Out:=
 match m with
 |.keep=>some (r,H)
 |.pure=>chk (H.take H0.length=H0) (match r with
  |.ret v=>(frz H H0.length 8 v).map λv=>(.ret v,H0)
  |.pan v=>(frz H H0.length 8 v).map λv=>(.pan v,H0))
 |.keepN=>some (r.forget,H)
 |.pureN=>chk (H.take H0.length=H0) (match r with
  |.ret v=>(frz H H0.length 8 v).map λv=>(.ret (forget v),H0)
  |.pan v=>(frz H H0.length 8 v).map λv=>(.pan v,H0))
def fnA (C:Cfg)(fn:Func)(body:Code)(ann:Ann)(m:Fd)(args:List Ab)(H:Aa):Out:=
 evC C fn.ntmps body ann (λe tm H'=>match e with
  |.normal=>(FS C fn.results.toList tm H').bind λv=>fin m H (.ret v) H'
  |.ret=>(FS C fn.results.toList tm H').bind λv=>fin m H (.ret v) H'
  |.pan v=>fin m H (.pan v) H'
  |.exit _=>none) (args++List.replicate (fn.ntmps-args.length) .undef) H
def Vqb:Nat->Option (Array Value):=λ_=>none

structure Env where
 φ:Nat->Nat->Option Nat
 κ:Nat->Nat->Option Nat
 I:Nat->Nat->Option Value

structure Env.le (E E':Env):Prop where
 φ:∀id g b,E.φ id g=some b->E'.φ id g=some b
 κ:∀id g b,E.κ id g=some b->E'.κ id g=some b
 I:∀b o v,E.I b o=some v->E'.I b o=some v
theorem Env.le.refl (E:Env):E.le E:=⟨λ_ _ _ h=>h,λ_ _ _ h=>h,λ_ _ _ h=>h⟩
theorem Env.le.trans {A B C:Env}(h:A.le B)(k:B.le C):A.le C:=
 ⟨λ_ _ _ x=>k.φ _ _ _ (h.φ _ _ _ x),λ_ _ _ x=>k.κ _ _ _ (h.κ _ _ _ x),λ_ _ _ x=>k.I _ _ _ (h.I _ _ _ x)⟩

def L6 (E:Env)(tk:Tok)(a:Option Addr)(len cap:Nat):Prop:=
 match tk with
 |.no=>True
 |.ti=>cap=len
 |.own t=>∃b,E.φ t len=some b/\E.κ t len=some cap/\a=some ⟨b,0,none⟩
theorem L6.mono {E E':Env}(h:E.le E'){tk:Tok}{a:Option Addr}{len cap:Nat}(k:L6 E tk a len cap):L6 E' tk a len cap:=by
 cases tk with
 |no=>trivial
 |ti=>exact k
 |own t=>obtain⟨b,h1,h2,h3⟩:=k;exact⟨b,h.φ _ _ _ h1,h.κ _ _ _ h2,h3⟩

inductive A3 (E:Env):Ab->Value->Prop
 |undef (v:Value):A3 E .undef v
 |bool (b:Bool):A3 E (.bool b) (.bool b)
 |ubool (b:Bool):A3 E .ubool (.bool b)
 |int (k:IntKind) (n:Int):A3 E (.int k n) (.int k n)
 |str (s:zAa):A3 E (.str s) (.string ⟨s.toArray⟩)
 |nilp:A3 E .nilp (.pointer none)
 |ptr {id g off b:Nat} (h:E.φ id g=some b):A3 E (.ptr id g off) (.pointer (some ⟨b,off,none⟩))
 |cptr {cells:List Ab} {off b o:Nat} (f:Nat->Value) (hI:∀i,i<cells.length->E.I b (o+i)=some (f i))
   (hm:∀(i:Nat)(c:Ab),cells[i]? = some c->Cq c=true) (hv:∀(i:Nat)(c:Ab),cells[i]? = some c->A3 E c (f i)):A3 E (.cptr cells off) (.pointer (some ⟨b,o+off,none⟩))
 |sl0 {tk:Tok} {a:Option Addr} {cap:Nat} (ht:L6 E tk a 0 cap) (ha:a=none->cap=0):A3 E (.sl [] tk) (.slice a 0 cap)
 |sl {es:List (List Ab)} {tk:Tok} {b o s cap:Nat} (f:Nat->Nat->Value) (hl:∀(i:Nat)(e:List Ab),es[i]? = some e->e.length=s)
   (hI:∀i j,i<es.length->j<s->E.I b (o+(i*s+j))=some (f i j))
   (hm:∀(i:Nat)(e:List Ab)(j:Nat)(c:Ab),es[i]? = some e->e[j]? = some c->Cq c=true)
   (hv:∀(i:Nat)(e:List Ab)(j:Nat)(c:Ab),es[i]? = some e->e[j]? = some c->A3 E c (f i j))
   (hc:es.length<=cap) (ht:L6 E tk (some ⟨b,o,none⟩) es.length cap):A3 E (.sl es tk) (.slice (some ⟨b,o,none⟩) es.length cap)
 |ms {id g off off' len cap sz cap' b:Nat} {ex:Bool} (h:E.φ id g=some b) (hc:cap<=cap') (hl:len<=cap) (he:ex=true->cap'=cap) (ho:cap'≠0->off'=off) (hk:ex=false->off=0->E.κ id g=some cap'/\off'=0):A3 E (.ms id g off len cap sz ex) (.slice (some ⟨b,off',none⟩) len cap')
 |fn {f:FuncId} {caps:List Ab} {vs:Array Value} (hn:caps.length=vs.size) (hv:∀(i:Nat)(c:Ab)(v:Value),caps[i]? = some c->vs[i]? = some v->A3 E c v):A3 E (.fn f caps) (.func (.func f) #[] vs)
 |bfn {f:FuncId} {first:List Ab} {vs:Array Value} (hn:first.length=vs.size) (hv:∀(i:Nat)(c:Ab)(v:Value),first[i]? = some c->vs[i]? = some v->A3 E c v):A3 E (.bfn f first) (.func (.func f) vs #[])
 |nilfn:A3 E .nilfn .nilFunc
 |mp {id b:Nat} (h:E.φ id 0=some b):A3 E (.mp id) (.map (some b))
 |nilmap:A3 E .nilmap (.map none)
 |iface {t:TypeId} {x:Ab} {v:Value} (h:A3 E x v):A3 E (.iface t x) (.iface t v)
 |nilif:A3 E .nilif .nilIface
 |agg {cs:List Ab} {vs:Array Value} (hn:cs.length=vs.size) (hv:∀(i:Nat)(c:Ab)(v:Value),cs[i]? = some c->vs[i]? = some v->A3 E c v):A3 E (.agg cs) (.agg vs)
 |tup {cs:List Ab} {vs:Array Value} (hn:cs.length=vs.size) (hv:∀(i:Nat)(c:Ab)(v:Value),cs[i]? = some c->vs[i]? = some v->A3 E c v):A3 E (.tup cs) (.tuple vs)

theorem A3.i6 {E} (n:Int):A3 E (.int .i64 n) (.int .i64 n):=.int _ _
theorem A3.mono {E E':Env}(h:E.le E'){x:Ab}{v:Value}(k:A3 E x v):A3 E' x v:=by
 induction k with
 |undef v=>exact .undef v
 |bool b=>exact .bool b
 |ubool b=>exact .ubool b
 |int k n=>exact .int k n
 |str s=>exact .str s
 |nilp=>exact .nilp
 |ptr h1=>exact .ptr (h.φ _ _ _ h1)
 |cptr f hI hm hv ih=>exact .cptr f (λi hi=>h.I _ _ _ (hI i hi)) hm ih
 |sl0 ht ha=>exact .sl0 (ht.mono h) ha
 |sl f hl hI hm hv hc ht ih=>exact .sl f hl (λi j hi hj=>h.I _ _ _ (hI i j hi hj)) hm ih hc (ht.mono h)
 |ms h1 hc hl he ho hk=>exact .ms (h.φ _ _ _ h1) hc hl he ho (λa b=>⟨h.κ _ _ _ (hk a b).1,(hk a b).2⟩)
 |fn hn hv ih=>exact .fn hn ih
 |bfn hn hv ih=>exact .bfn hn ih
 |nilfn=>exact .nilfn
 |mp h1=>exact .mp (h.φ _ _ _ h1)
 |nilmap=>exact .nilmap
 |iface _ ih=>exact .iface ih
 |nilif=>exact .nilif
 |agg hn hv ih=>exact .agg hn ih
 |tup hn hv ih=>exact .tup hn ih

def AB (E:Env)(xs:List Ab)(vs:List Value):Prop:=xs.length=vs.length/\∀(i:Nat)(c:Ab)(v:Value),xs[i]? = some c->vs[i]? = some v->A3 E c v
theorem AB.mono {E E':Env}(h:E.le E'){xs:List Ab}{vs:List Value}(k:AB E xs vs):AB E' xs vs:=⟨k.1,λi c v h1 h2=>(k.2 i c v h1 h2).mono h⟩
theorem AB.nil (E:Env):AB E [] []:=⟨rfl,λi c v h=>by simp at h⟩
theorem AB.cons {E:Env}{x:Ab}{v:Value}{xs:List Ab}{vs:List Value}(h:A3 E x v)(k:AB E xs vs):AB E (x::xs) (v::vs):=by refine⟨by simp[k.1],λi c u h1 h2=>?_⟩;cases i with|zero=>simp at h1 h2;subst h1;subst h2;exact h|succ i=>simp at h1 h2;exact k.2 i c u h1 h2
theorem AB.head {E:Env}{x:Ab}{v:Value}{xs:List Ab}{vs:List Value}(k:AB E (x::xs) (v::vs)):A3 E x v:=k.2 0 x v rfl rfl
theorem AB.tail {E:Env}{x:Ab}{v:Value}{xs:List Ab}{vs:List Value}(k:AB E (x::xs) (v::vs)):AB E xs vs:=
 ⟨by simpa using k.1,λi c u h1 h2=>k.2 (i+1) c u (by simpa using h1) (by simpa using h2)⟩
theorem AB.append {E:Env}{xs ys:List Ab}{vs us:List Value}(h:AB E xs vs)(k:AB E ys us):AB E (xs++ys) (vs++us):=by refine⟨by simp[h.1,k.1],λi c u h1 h2=>?_⟩;rw[W7]at h1 h2;have:=h.1;by_cases hi:i<xs.length;rw[zYc hi]at h1;rw[zYc (by omega)]at h2;exact h.2 i c u h1 h2;rw[zYb hi]at h1;rw[zYb (by omega)]at h2;rw[<-this]at h2;exact k.2 _ c u h1 h2
theorem AB.get {E:Env}{xs:List Ab}{vs:List Value}(h:AB E xs vs){i:Nat}{c:Ab}(h1:xs[i]? = some c):∃v,vs[i]? = some v/\A3 E c v:=by
 have hi:i<xs.length:=(VJ.1 h1).1;have aE:i<vs.length:=by have:=h.1;omega
 exact⟨vs[i],VG aE,h.2 i c _ h1 (VG aE)⟩
theorem AB.drop {E:Env}{xs:List Ab}{vs:List Value}(h:AB E xs vs)(n:Nat):AB E (xs.drop n) (vs.drop n):=
 ⟨by simp[h.1],λi c v h1 h2=>h.2 (n+i) c v (by simpa using h1) (by simpa using h2)⟩
theorem AB.take {E:Env}{xs:List Ab}{vs:List Value}(h:AB E xs vs)(n:Nat):AB E (xs.take n) (vs.take n):=by
 refine⟨by simp[h.1],λi c v h1 h2=>?_⟩;rw[Xk]at h1 h2;split at h1
 rename_i hi;rw[zYc hi]at h2;exact h.2 i c v h1 h2;cases h1
theorem AB.set {E:Env}{xs:List Ab}{vs:List Value}(h:AB E xs vs)(n:Nat){x:Ab}{v:Value}(hx:A3 E x v):AB E (xs.set n x) (vs.set n v):=by
 refine⟨by simp[h.1],λi c u h1 h2=>?_⟩;rw[Y9]at h1 h2;split at h1
 ·rename_i hi;subst hi;rw[zYc rfl]at h2;split at h1
  rename_i hlt;rw[zYc (by have:=h.1;omega)]at h2;simp at h1 h2;subst h1;subst h2;exact hx;cases h1
 rename_i hi;rw[zYb hi]at h2;exact h.2 i c u h1 h2
theorem AB.map {E:Env}{α:Type}(l:List α)(f:α->Ab)(g:α->Value)(h:∀x∈l,A3 E (f x) (g x)):AB E (l.map f) (l.map g):=by refine⟨by simp,λi c v h1 h2=>?_⟩;rw[Wq]at h1 h2;cases hx:l[i]? with|none=>simp[hx]at h1|some x=>simp[hx]at h1 h2;subst h1;subst h2;exact h x (Wo hx)
theorem A3.agg_of {E:Env}{cs:List Ab}{vs:Array Value}(h:AB E cs vs.toList):A3 E (.agg cs) (.agg vs):=
 .agg (by simpa using h.1) λi c v h1 h2=>h.2 i c v h1 (by simpa using h2)
theorem A3.agg_cells {E:Env}{cs:List Ab}{v:Value}(h:A3 E (.agg cs) v):∃vs:Array Value,v=.agg vs/\AB E cs vs.toList:=by
 cases h with
 |agg hn hv=>exact⟨_,rfl,by simpa using hn,λi c v h1 h2=>hv i c v h1 (by simpa using h2)⟩
theorem A3.tup_of {E:Env}{cs:List Ab}{vs:Array Value}(h:AB E cs vs.toList):A3 E (.tup cs) (.tuple vs):=
 .tup (by simpa using h.1) λi c v h1 h2=>h.2 i c v h1 (by simpa using h2)
theorem A3.tup_cells {E:Env}{cs:List Ab}{v:Value}(h:A3 E (.tup cs) v):∃vs:Array Value,v=.tuple vs/\AB E cs vs.toList:=by
 cases h with
 |tup hn hv=>exact⟨_,rfl,by simpa using hn,λi c v h1 h2=>hv i c v h1 (by simpa using h2)⟩

def CE (E:Env)(id:Nat):Blk->Option Nat
 |.dead=>none
 |.cel g _=>E.φ id g
 |.tok n _ _=>E.φ id n
 |.buf g _ _ _=>E.φ id g
 |.map _=>E.φ id 0
 |.iter _ _=>E.φ id 0
 |.typ _ _=>E.φ id 0
def loc (E:Env)(H:Aa)(id:Nat):Option Nat:=(H[id]?).bind (CE E id)
def Gt (E:Env)(w:World)(id:Nat):Blk->Prop
 |.dead=>True
 |.cel g cells=>∃b cs t,E.φ id g=some b/\w.heap[b]? = some (.cells cs t (0,0))/\AB E cells cs.toList/\∀o,E.I b o=none
 |.tok n e sz=>∃b cap cs,E.φ id n=some b/\E.κ id n=some cap/\w.heap[b]? = some (.cells cs e (0,0))/\cs.size=cap*sz/\n<=cap/\cap<=9223372036854775807/\∀o,n*sz<=o->E.I b o=none
 |.buf g cells e sz=>∃b cap cs,E.φ id g=some b/\E.κ id g=some cap/\w.heap[b]? = some (.cells cs e (0,0))/\cs.size=cap*sz/\cells.length<=cs.size/\cap<=9223372036854775807/\AB E cells (cs.toList.take cells.length)/\∀o,E.I b o=none
 |.map es=>∃b entries clock,E.φ id 0=some b/\w.heap[b]? = some (.map entries clock)/\entries.size=es.length/\∀(i:Nat)(k v:Ab),es[i]? = some (k,v)->∃en,entries[i]? = some en/\A3 E k en.key/\A3 E v en.val
 |.iter s pos=>∃b,E.φ id 0=some b/\w.heap[b]? = some (.stringIter ⟨s.toArray⟩ pos)
 |.typ t cells=>∃b cs,E.φ id 0=some b/\w.heap[b]? = some (.cells cs t (0,0))/\AB E cells cs.toList/\∀o,E.I b o=none

def Blk.gen:Blk->Option Nat
 |.tok n _ _=>some n
 |.buf g _ _ _=>some g
 |_=>none
structure Sim (E:Env)(H:Aa)(w:World):Prop where
 blk:∀id B,H[id]? = some B->Gt E w id B
 dom:∀id g b,E.φ id g=some b->id<H.length
 domk:∀id g b,E.κ id g=some b->id<H.length
 late:∀id B n,H[id]? = some B->B.gen=some n->∀g,n<g->E.φ id g=none/\E.κ id g=none
 inj:∀id id' b,loc E H id=some b->loc E H id'=some b->id=id'
 imm:∀b o v,E.I b o=some v->w.cell? ⟨b,o,none⟩=some v
 fix:∀b cs,Vqb b=some cs->(∃t fr,w.heap[b]? = some (.cells cs t fr))/\(∃v,E.I b 0=some v)/\∀id,loc E H id≠some b

def Nu (E:Env)(H:Aa)(b:Nat):Prop:=∃id,loc E H id=some b

structure Cf (E:Env)(H:Aa)(w:World)(E':Env)(H':Aa)(w':World):Prop where
 le:E.le E'
 os:w'.os=w.os
 tape:w'.tape=w.tape
 output:w'.output=w.output
 size:w.heap.size<=w'.heap.size
 frame:∀b,b<w.heap.size->¬Nu E H b->w'.heap[b]? = w.heap[b]?
 own:∀b,Nu E' H' b->Nu E H b\/w.heap.size<=b
 imm:∀b o,b<w.heap.size->¬Nu E H b->E'.I b o=E.I b o
theorem Cf.refl (E:Env)(H:Aa)(w:World):Cf E H w E H w:=
 ⟨.refl E,rfl,rfl,rfl,VM _,λ_ _ _=>rfl,λ_ h=>.inl h,λ_ _ _ _=>rfl⟩
theorem Cf.trans {E:Env}{H:Aa}{w:World}{E':Env}{H':Aa}{w':World}{E2:Env}{H2:Aa}{w2:World}(h:Cf E H w E' H' w')(k:Cf E' H' w' E2 H2 w2):Cf E H w E2 H2 w2:=by refine⟨h.le.trans k.le,k.os.trans h.os,k.tape.trans h.tape,k.output.trans h.output,Wg h.size k.size,λb hb ho=>?_,λb hb=>?_,λb o hb ho=>?_⟩;rw[k.frame b (WO hb h.size) (λdP=>?_),h.frame b hb ho];rcases h.own b dP with h1 | h1;exact ho h1;omega;rcases k.own b hb with h1 | h1;exact h.own b h1;exact .inr (Wg h.size h1);rw[k.imm b o (WO hb h.size) (λdP=>?_),h.imm b o hb ho];rcases h.own b dP with h1 | h1;exact ho h1;omega
theorem Gt.lt {E:Env}{w:World}{id b:Nat}{B:Blk}(hB:Gt E w id B)(hl:CE E id B=some b):b<w.heap.size:=by
 have key:∀o,w.heap[b]? = some o->b<w.heap.size:=λo ho=>(Wz.1 ho).1;cases B with
 |dead=>simp[CE]at hl
 |cel g cells=>obtain⟨b',cs,t,h1,h2,_⟩:=hB;simp only[CE]at hl;rw[hl]at h1;cases h1;exact key _ h2
 |tok n e sz=>obtain⟨b',cap,cs,h1,_,h2,_⟩:=hB;simp only[CE]at hl;rw[hl]at h1;cases h1;exact key _ h2
 |buf g cells e sz=>obtain⟨b',cap,cs,h1,_,h2,_⟩:=hB;simp only[CE]at hl;rw[hl]at h1;cases h1;exact key _ h2
 |map es=>obtain⟨b',en,ck,h1,h2,_⟩:=hB;simp only[CE]at hl;rw[hl]at h1;cases h1;exact key _ h2
 |iter s pos=>obtain⟨b',h1,h2⟩:=hB;simp only[CE]at hl;rw[hl]at h1;cases h1;exact key _ h2
 |typ t cells=>obtain⟨b',cs,h1,h2,_⟩:=hB;simp only[CE]at hl;rw[hl]at h1;cases h1;exact key _ h2
theorem Gt.keep {E E':Env}{w w':World}{id:Nat}{B:Blk}(h:Gt E w id B)(hle:E.le E')
  (hw:∀b,CE E id B=some b->w'.heap[b]? = w.heap[b]?)(hI:∀b,CE E id B=some b->E'.I b=E.I b):Gt E' w' id B/\∀b,CE E' id B=some b↔CE E id B=some b:=by
 cases B with
 |dead=>exact⟨trivial,λb=>by simp[CE]⟩
 |cel g cells=>obtain⟨b,cs,t,h1,h2,h3,h4⟩:=h;refine⟨⟨b,cs,t,hle.φ _ _ _ h1,by rw[hw b h1];exact h2,h3.mono hle,λo=>by rw[hI b h1];exact h4 o⟩,λb'=>?_⟩;simp only[CE];rw[hle.φ _ _ _ h1,h1]
 |tok n e sz=>obtain⟨b,cap,cs,h1,h2,h3,h4,h5,h6,h7⟩:=h;refine⟨⟨b,cap,cs,hle.φ _ _ _ h1,hle.κ _ _ _ h2,by rw[hw b h1];exact h3,h4,h5,h6,λo ho=>by rw[hI b h1];exact h7 o ho⟩,λb'=>?_⟩;simp only[CE];rw[hle.φ _ _ _ h1,h1]
 |buf g cells e sz=>obtain⟨b,cap,cs,h1,h2,h3,h4,h5,h6,h7,h8⟩:=h;refine⟨⟨b,cap,cs,hle.φ _ _ _ h1,hle.κ _ _ _ h2,by rw[hw b h1];exact h3,h4,h5,h6,h7.mono hle,λo=>by rw[hI b h1];exact h8 o⟩,λb'=>?_⟩;simp only[CE];rw[hle.φ _ _ _ h1,h1]
 |map es=>obtain⟨b,en,ck,h1,h2,h3,h4⟩:=h;refine⟨⟨b,en,ck,hle.φ _ _ _ h1,by rw[hw b h1];exact h2,h3,λi k v hi=>?_⟩,λb'=>?_⟩;obtain⟨e,h5,h6,h7⟩:=h4 i k v hi;exact⟨e,h5,h6.mono hle,h7.mono hle⟩;simp only[CE];rw[hle.φ _ _ _ h1,h1]
 |iter s pos=>obtain⟨b,h1,h2⟩:=h;refine⟨⟨b,hle.φ _ _ _ h1,by rw[hw b h1];exact h2⟩,λb'=>?_⟩;simp only[CE];rw[hle.φ _ _ _ h1,h1]
 |typ t cells=>obtain⟨b,cs,h1,h2,h3,h4⟩:=h;refine⟨⟨b,cs,hle.φ _ _ _ h1,by rw[hw b h1];exact h2,h3.mono hle,λo=>by rw[hI b h1];exact h4 o⟩,λb'=>?_⟩;simp only[CE];rw[hle.φ _ _ _ h1,h1]
theorem Sim.block_lt {E:Env}{H:Aa}{w:World}(h:Sim E H w){id b:Nat}(hl:loc E H id=some b):b<w.heap.size:=by unfold loc at hl;cases hH:H[id]? with|none=>simp[hH]at hl|some B=>rw[hH]at hl;exact(h.blk id B hH).lt hl
theorem Sim.imm_lt {E:Env}{H:Aa}{w:World}(h:Sim E H w){b o:Nat}{v:Value}(hi:E.I b o=some v):b<w.heap.size:=by have:=h.imm b o v hi;exact World.block_lt_of_cell? w _ this

theorem Sim.upd {E:Env}{H:Aa}{w:World}(h:Sim E H w){E':Env}{w':World}{id:Nat}{B B':Blk}(hid:H[id]? = some B)(hle:E.le E')(hb:Gt E' w' id B')
  (hφ:∀i g b,i≠id->E'.φ i g=some b->E.φ i g=some b)(hκ:∀i g b,i≠id->E'.κ i g=some b->E.κ i g=some b)
  (heap:∀b,b<w.heap.size->CE E id B≠some b->w'.heap[b]? = w.heap[b]?)
  (hI:∀b,b<w.heap.size->CE E id B≠some b->E'.I b=E.I b)
  (kI:∀b o v,E'.I b o=some v->(w.heap.size<=b\/CE E id B=some b)->w'.cell? ⟨b,o,none⟩=some v)
  (dX:∀b,CE E' id B'=some b->CE E id B=some b\/w.heap.size<=b)
  (aR:∀n,B'.gen=some n->∀g,n<g->E'.φ id g=none/\E'.κ id g=none)
  (oG:w'.os=w.os)(dM:w'.tape=w.tape)(hout:w'.output=w.output)(hsz:w.heap.size<=w'.heap.size):Sim E' (H.set id B') w'/\Cf E H w E' (H.set id B') w':=by
 have hlt:id<H.length:=(VJ.1 hid).1;have iE:loc E H id=CE E id B:=by simp[loc,hid]
 have keepB:∀i Bi,i≠id->H[i]? = some Bi->Gt E' w' i Bi/\∀b,CE E' i Bi=some b↔CE E i Bi=some b:=by intro i Bi hne hi;have hBi:=h.blk i Bi hi;have rI:∀b,CE E i Bi=some b->CE E id B≠some b:=λb h1 h2=>hne (h.inj i id b (by simp[loc,hi,h1]) (by rw[iE,h2]));exact hBi.keep hle (λb hb=>heap b (hBi.lt hb) (rI b hb)) (λb hb=>hI b (hBi.lt hb) (rI b hb))
 have locs:∀i b,loc E' (H.set id B') i=some b->(i=id/\CE E' id B'=some b)\/(i≠id/\loc E H i=some b):=by intro i b hl;unfold loc at hl;by_cases e:i=id;subst e;rw[VX hlt]at hl;exact .inl ⟨rfl,by simpa using hl⟩;rw[VH (Ne.symm e)]at hl;refine .inr ⟨e,?_⟩;unfold loc;cases hH:H[i]? with|none=>simp[hH]at hl|some Bi=>rw[hH]at hl;simp only[zXa]at hl⊢;exact((keepB i Bi e hH).2 b).1 hl
 constructor
 ·refine⟨λi Bi hi=>?_,λi g b hg=>?_,λi g b hg=>?_,λi B n hi hn g hg=>?_,λi i' b h1 h2=>?_,λb o v hv=>?_,λb cs hf=>?_⟩;by_cases e:i=id;subst e;rw[VX hlt]at hi;cases hi;exact hb;rw[VH (Ne.symm e)]at hi;exact(keepB i Bi e hi).1;rw[zXp];by_cases e:i=id;omega;exact h.dom i g b (hφ i g b e hg);rw[zXp];by_cases e:i=id;omega;exact h.domk i g b (hκ i g b e hg)
  ·by_cases e:i=id;subst e;rw[VX hlt]at hi;cases hi;exact aR _ hn g hg
   ·rw[VH (Ne.symm e)]at hi;obtain⟨h1,h2⟩:=h.late i _ n hi hn g hg;refine⟨?_,?_⟩;cases hx:E'.φ i g with|none=>rfl|some b=>have:=hφ i g b e hx;rw[h1]at this;cases this
    cases hx:E'.κ i g with|none=>rfl|some b=>have:=hκ i g b e hx;rw[h2]at this;cases this
  ·rcases locs i b h1 with ⟨e1,l1⟩ | ⟨e1,l1⟩ <;> rcases locs i' b h2 with ⟨e2,l2⟩ | ⟨e2,l2⟩
   rw[e1,e2];rcases dX b l1 with l3 | l3;exact zYf (h.inj i' id b l2 (by rw[iE,l3])) e2;have:=h.block_lt l2;omega;rcases dX b l2 with l3 | l3;exact zYf (h.inj i id b l1 (by rw[iE,l3])) e1;have:=h.block_lt l1;omega;exact h.inj i i' b l1 l2
  by_cases hc:w.heap.size<=b\/CE E id B=some b;exact kI b o v hv hc;have h1:b<w.heap.size:=(by rcases W4 b w.heap.size with h1 | h1;exact h1;exact zYf (.inl h1) hc);have h2:CE E id B≠some b:=λh2=>hc (.inr h2);rw[hI b h1 h2]at hv;rw[World.cell?_of_block (w:=w) (heap b h1 h2)];exact h.imm b o v hv;obtain⟨⟨t,fr,h1⟩,⟨v,hv⟩,h2⟩:=h.fix b cs hf;have h3:b<w.heap.size:=(Wz.1 h1).1;have h4:CE E id B≠some b:=λh5=>h2 id (by rw[iE,h5]);refine⟨⟨t,fr,by rw[heap b h3 h4];exact h1⟩,⟨v,hle.I _ _ _ hv⟩,λi hi=>?_⟩;rcases locs i b hi with ⟨_,l1⟩ | ⟨_,l1⟩;rcases dX b l1 with l | l;exact h4 l;omega;exact h2 i l1
 refine⟨hle,oG,dM,hout,hsz,λb hb ho=>heap b hb (λhl=>ho ⟨id,by rw[iE,hl]⟩),λb ho=>?_,λb o hb ho=>by rw[hI b hb (λhl=>ho ⟨id,by rw[iE,hl]⟩)]⟩;obtain⟨i,hi⟩:=ho;rcases locs i b hi with ⟨e,l⟩ | ⟨e,l⟩;rcases dX b l with l | l;exact .inl ⟨id,by rw[iE,l]⟩;exact .inr l;exact .inl ⟨i,l⟩

theorem Sim.dead {E:Env}{H:Aa}{w:World}(h:Sim E H w):Sim E (H++[.dead]) w:=by
 have locs:∀i,loc E (H++[.dead]) i=loc E H i:=by
  intro i;unfold loc;rw[W7];split
  ·rfl
  rename_i hi;have hn:H[i]? = none:=zYa (by omega);rw[hn];cases hx:i-H.length with|zero=>simp[CE]|succ n=>simp
 refine⟨λi B hi=>?_,λi g b hg=>by have:=h.dom i g b hg;simp;omega,λi g b hg=>by have:=h.domk i g b hg;simp;omega,λi B n hi hn=>?_,λi i' b h1 h2=>h.inj i i' b (by rw[<-locs];exact h1) (by rw[<-locs];exact h2),h.imm,λb cs hf=>⟨(h.fix b cs hf).1,(h.fix b cs hf).2.1,λi hi=>(h.fix b cs hf).2.2 i (by rw[<-locs];exact hi)⟩⟩
 ·rw[W7]at hi;split at hi
  exact h.blk i B hi;cases hx:i-H.length with|zero=>simp[hx]at hi;subst hi;trivial|succ n=>simp[hx]at hi
 ·rw[W7]at hi;split at hi
  exact h.late i B n hi hn;cases hx:i-H.length with|zero=>simp[hx]at hi;subst hi;cases hn|succ n=>simp[hx]at hi
theorem Cf.dead (E:Env)(H:Aa)(w:World):Cf E H w E (H++[.dead]) w:=by
 refine⟨.refl E,rfl,rfl,rfl,VM _,λ_ _ _=>rfl,λb ⟨i,hi⟩=>.inl ⟨i,?_⟩,λ_ _ _ _=>rfl⟩;unfold loc at hi⊢;rw[W7]at hi;split at hi
 exact hi;cases hx:i-H.length with|zero=>simp[hx,CE]at hi|succ n=>simp[hx]at hi
theorem Sim.push {E:Env}{H:Aa}{w:World}(h:Sim E H w){E':Env}{w':World}{B':Blk}(hle:E.le E')(hb:Gt E' w' H.length B')
  (hφ:∀i g b,i≠H.length->E'.φ i g=some b->E.φ i g=some b)(hκ:∀i g b,i≠H.length->E'.κ i g=some b->E.κ i g=some b)
  (heap:∀b,b<w.heap.size->w'.heap[b]? = w.heap[b]?)(hI:∀b,b<w.heap.size->E'.I b=E.I b)
  (kI:∀b o v,E'.I b o=some v->w.heap.size<=b->w'.cell? ⟨b,o,none⟩=some v)
  (dX:∀b,CE E' H.length B'=some b->w.heap.size<=b)
  (aR:∀n,B'.gen=some n->∀g,n<g->E'.φ H.length g=none/\E'.κ H.length g=none)
  (oG:w'.os=w.os)(dM:w'.tape=w.tape)(hout:w'.output=w.output)(hsz:w.heap.size<=w'.heap.size):Sim E' (H++[B']) w'/\Cf E H w E' (H++[B']) w':=by
 have aH:(H++[Blk.dead]).set H.length B'=H++[B']:=by simp
 have:=h.dead.upd (id:=H.length) (B:=.dead) (B':=B') (by simp) hle hb hφ hκ (λb hb _=>heap b hb) (λb hb _=>hI b hb) (λb o v hv hc=>kI b o v hv (hc.resolve_right (by simp[CE]))) (λb hb=>.inr (dX b hb)) aR oG dM hout hsz;rw[aH]at this;exact⟨this.1,(Cf.dead E H w).trans this.2⟩
theorem Sim.ext {E:Env}{H:Aa}{w:World}(h:Sim E H w){E':Env}{w':World}(hle:E.le E')
  (hφ:∀i g b,E'.φ i g=some b->E.φ i g=some b)(hκ:∀i g b,E'.κ i g=some b->E.κ i g=some b)
  (heap:∀b,b<w.heap.size->w'.heap[b]? = w.heap[b]?)(hI:∀b,b<w.heap.size->E'.I b=E.I b)
  (kI:∀b o v,E'.I b o=some v->w.heap.size<=b->w'.cell? ⟨b,o,none⟩=some v)
  (oG:w'.os=w.os)(dM:w'.tape=w.tape)(hout:w'.output=w.output)(hsz:w.heap.size<=w'.heap.size):Sim E' H w'/\Cf E H w E' H w':=by
 have keepB:∀i Bi,H[i]? = some Bi->Gt E' w' i Bi/\∀b,CE E' i Bi=some b↔CE E i Bi=some b:=by intro i Bi hi;have hBi:=h.blk i Bi hi;exact hBi.keep hle (λb hb=>heap b (hBi.lt hb)) (λb hb=>hI b (hBi.lt hb))
 have locs:∀i b,loc E' H i=some b->loc E H i=some b:=by intro i b hl;unfold loc at hl⊢;cases hH:H[i]? with|none=>simp[hH]at hl|some Bi=>rw[hH]at hl;simp only[zXa]at hl⊢;exact((keepB i Bi hH).2 b).1 hl
 constructor
 ·refine⟨λi Bi hi=>(keepB i Bi hi).1,λi g b hg=>h.dom i g b (hφ i g b hg),λi g b hg=>h.domk i g b (hκ i g b hg),λi B n hi hn g hg=>?_,λi i' b h1 h2=>h.inj i i' b (locs i b h1) (locs i' b h2),λb o v hv=>?_,λb cs hf=>?_⟩
  ·obtain⟨h1,h2⟩:=h.late i B n hi hn g hg;refine⟨?_,?_⟩;cases hx:E'.φ i g with|none=>rfl|some b=>have:=hφ i g b hx;rw[h1]at this;cases this
   cases hx:E'.κ i g with|none=>rfl|some b=>have:=hκ i g b hx;rw[h2]at this;cases this
  rcases W4 b w.heap.size with h1 | h1;rw[hI b h1]at hv;rw[World.cell?_of_block (w:=w) (heap b h1)];exact h.imm b o v hv;exact kI b o v hv h1;obtain⟨⟨t,fr,h1⟩,⟨v,hv⟩,h2⟩:=h.fix b cs hf;exact⟨⟨t,fr,by rw[heap b (Wz.1 h1).1];exact h1⟩,⟨v,hle.I _ _ _ hv⟩,λi hi=>h2 i (locs i b hi)⟩
 exact⟨hle,oG,dM,hout,hsz,λb hb _=>heap b hb,λb ⟨i,hi⟩=>.inl ⟨i,locs i b hi⟩,λb o hb _=>by rw[hI b hb]⟩
theorem Sim.drew {E:Env}{H:Aa}{w:World}(h:Sim E H w)(n:Nat):Sim E H {w with drawn:=n}/\Cf E H w E H {w with drawn:=n}:=
 h.ext (.refl E) (λ_ _ _ h=>h) (λ_ _ _ h=>h) (λ_ _=>rfl) (λ_ _=>rfl) (λb o v hv hb=>by have:=h.imm_lt hv;omega) rfl rfl rfl (VM _)

def Env.setφ (E:Env)(id g b:Nat):Env:={E with φ:=λi j=>if i=id/\j=g then some b else E.φ i j}
def Env.setI (E:Env)(b:Nat)(f:Nat->Option Value):Env:={E with I:=λi o=>if i=b then f o else E.I i o}

theorem A3.of_toList (E:Env)(s:ByteArray):A3 E (.str s.data.toList) (.string s):=by
 have:(⟨s.data.toList.toArray⟩:ByteArray)=s:=by cases s;simp
 have h:=A3.str (E:=E) s.data.toList
 rwa [this]at h
def TU (E:Env)(v:Value):A3 E (Mk v) v:=by
 cases v with
 |bool b=>exact .bool b
 |int k n=>exact .int k n
 |string s=>exact .of_toList E s
 |pointer a=>cases a with | none=>exact .nilp | some a=>exact .undef _
 |slice a l c=>
  cases a with
  |some a=>exact .undef _
  |none=>
   cases l with
   |succ l=>exact .undef _
   |zero=>cases c with|succ c=>exact .undef _|zero=>exact .sl0 rfl (λ_=>rfl)
 |map r=>cases r with | none=>exact .nilmap | some r=>exact .undef _
 |func fn first captured=>
  cases fn with
  |func f=>
   simp only[Mk];split
   ·rename_i h;obtain⟨h1,h2⟩:=h;obtain rfl:first = #[]:=by simpa using h1
    obtain rfl:captured = #[]:=(by simpa using h2);exact .fn rfl λi c v h=>by simp at h
   exact .undef _
  |_=>exact .undef _
 |nilFunc=>exact .nilfn
 |nilIface=>exact .nilif
 |_=>exact .undef _
def VcZ (E:Env)(v:Value):A3 E (Vpa v) v:=by
 have key:∀vs:Array Value,AB E (vs.toList.map Mk) vs.toList:=λvs=>by have:=AB.map (E:=E) vs.toList Mk id (λx _=>TU E x);simpa using this
 cases v with|agg cs=>exact .agg_of (key cs)|tuple cs=>exact .tup_of (key cs)|_=>(simp only[Vpa];exact TU E _)

theorem A3.bool_inv {E:Env}{b:Bool}{v:Value}(h:A3 E (.bool b) v):v=.bool b:=by cases h;rfl
theorem A3.int_inv {E:Env}{k:IntKind}{n:Int}{v:Value}(h:A3 E (.int k n) v):v=.int k n:=by cases h;rfl
theorem A3.str_inv {E:Env}{s:zAa}{v:Value}(h:A3 E (.str s) v):v=.string ⟨s.toArray⟩:=by cases h;rfl

def BL (E:Env)(P:Program)(w:World)(s:Sem Value)(x:Ab):Prop:=∃v,s.run P w=.ok v w/\A3 E x v

section
variable {E:Env}{P:Program}{w:World}
theorem VgX {op:BinOp}{k:IntKind}{x y:Int}{z:Ab}(h:IB op k x y=some z):BL E P w (Op.intBits op k x y) z:=by cases op<;>simp only[IB,reduceCtorEq]at h<;>(injection h with h;subst h;exact⟨_,rfl,.int _ _⟩)
theorem VnE {op:BinOp}{t:TypeId}{k:IntKind}{x y:Int}{z:Ab}(h:FK op k x y=some z)(hs:D7 op=false):BL E P w (binOp op t (.int k x) (.int k y)) z:=by
 cases op<;>simp only[FK,D7,Y4]at h hs
 case add=>injection h with h;subst h;exact⟨_,by simp[binOp,Op.intArith],.int _ _⟩
 case sub=>injection h with h;subst h;exact⟨_,by simp[binOp,Op.intArith],.int _ _⟩
 case mul=>injection h with h;subst h;exact⟨_,by simp[binOp,Op.intArith],.int _ _⟩
 case quo=>
  split at h
  cases h;rename_i hy;injection h with h;subst h;exact⟨_,by simp[binOp,Op.intDiv,hy],.int _ _⟩
 case rem=>
  split at h
  cases h;rename_i hy;injection h with h;subst h;exact⟨_,by simp[binOp,Op.intDiv,hy],.int _ _⟩
 all_goals first
  |(injection h with h;subst h;exact⟨_,by simp[binOp,Op.intCmp],.bool _⟩)
  |(obtain⟨v,h1,h2⟩:=VgX (E:=E) (P:=P) (w:=w) h;exact⟨v,by simpa[binOp]using h1,h2⟩)
theorem Vh5 {op:BinOp}{t:TypeId}{k k':IntKind}{x y:Int}{z:Ab}(h:HQ op k x y=some z)(hs:D7 op=true):BL E P w (binOp op t (.int k x) (.int k' y)) z:=by
 have hy:¬y<0:=λhy=>by simp[HQ,hy]at h
 cases op<;>simp only[D7,VL]at hs<;>simp only[HQ,zYb hy,VT]at h<;>subst h
 exact⟨_,by simp[binOp,Op.shift,hy],.int _ _⟩;exact⟨_,by simp[binOp,Op.shift,hy],.int _ _⟩
theorem Veh (s:zAa):(⟨s.toArray⟩:ByteArray).toList=s:=by rw[ByteArray.toList_eq]
theorem VmW {op:BinOp}{t:TypeId}{x y:zAa}{z:Ab}(h:VbE op x y=some z):BL E P w (binOp op t (.string ⟨x.toArray⟩) (.string ⟨y.toArray⟩)) z:=by
 have xI:(⟨x.toArray⟩++⟨y.toArray⟩:ByteArray)=⟨(x++y).toArray⟩:=by apply ByteArray.ext;simp
 cases op<;>simp only[VbE,reduceCtorEq]at h
 case add=>
  split at h
  ·rename_i hle;injection h with h;subst h;refine⟨.string ⟨(x++y).toArray⟩,?_,.str _⟩;have hsz:¬((((⟨x.toArray⟩:ByteArray).size+(⟨y.toArray⟩:ByteArray).size:Nat):Int)>I_.max):=(by have h1:(⟨x.toArray⟩:ByteArray).size=x.length:=(by simp[ByteArray.size]);have h2:(⟨y.toArray⟩:ByteArray).size=y.length:=(by simp[ByteArray.size]);have h3:I_.max=9223372036854775807:=(by decide);rw[h1,h2,h3];omega);simp only[binOp,Op.stringOp,zYb hsz,xI]
   rfl
  cases h
 all_goals (injection h with h;subst h;exact⟨_,by simp only[binOp,Op.stringOp,Veh];rfl,.bool _⟩)

end
structure Vqc (C:Cfg):Prop where
 guard:∀t,C.eq t=true->C.P.eqGuardType C.P.depth t=false
 eqv:∀t,C.eq t=true->∀(E:Env)(vas bs:List Ab)(vs us:Array Value)(b:Bool)(w:World),AB E vas vs.toList->AB E bs us.toList->vas.length=Au C.P t->Cg vas bs=some b->(Op.equal t (.agg vs) (.agg us)).run C.P w=.ok b w

def ROk (E:Env)(H:Aa)(P:Program)(w:World)(s:Sem Next)(x:Ab):Prop:=
 ∃v w' E',s.run P w=.ok (.value v) w'/\A3 E' x v/\Sim E' H w'/\Cf E H w E' H w'
section
variable {C:Cfg}{E:Env}{H:Aa}{w:World}
theorem CB {P:Program}(op:BinOp)(t:TypeId)(x y:Operand)(a b:Value)(h1:∀c d,¬(a=.agg c/\b=.agg d))(h2:¬(a=.nilIface/\b=.nilIface)):(eqGuard op t x y a b).run P w=.ok () w:=by
 unfold eqGuard
 repeat' split
 all_goals first
  |rfl
  |exact zYf ⟨rfl,rfl⟩ h2
  |exact zYf ⟨rfl,rfl⟩ (h1 _ _)
  |simp
  |trivial
theorem VdF {P:Program}{t:TypeId}(hu:P.underlying t=some .bool)(a b:Bool)(w:World):∀d,(Op.equalIn (d+1) t (.bool a) (.bool b)).run P w=.ok (a==b) w:=by intro d;simp[Op.equalIn,run_underlying hu]
theorem Vav {P:Program}{t e:TypeId}(hu:P.underlying t=some (.pointer e))(w:World):∀d,(Op.equalIn (d+1) t (.pointer none) (.pointer none)).run P w=.ok true w:=by intro d;simp[Op.equalIn,run_underlying hu]
theorem P3 {P:Program}{t e:TypeId}(hu:P.underlying t=some (.pointer e))(a:Addr)(w:World):∀d,(Op.equalIn (d+1) t (.pointer none) (.pointer (some a))).run P w=.ok false w:=by intro d;simp[Op.equalIn,run_underlying hu]
theorem P1 {P:Program}{t e:TypeId}(hu:P.underlying t=some (.pointer e))(a:Addr)(w:World):∀d,(Op.equalIn (d+1) t (.pointer (some a)) (.pointer none)).run P w=.ok false w:=by intro d;simp[Op.equalIn,run_underlying hu]
theorem VdE {P:Program}{t e:TypeId}{j:TypeInfo}(hu:P.underlying t=some (.pointer e))(hj:P.info? e=some j)(a:Addr)(w:World):∀d,(Op.equalIn (d+1) t (.pointer (some a)) (.pointer (some a))).run P w=.ok true w:=by intro d;simp[Op.equalIn,run_underlying hu,sizeOf,typeInfo,hj,run_sameAddr_same]
theorem Vbi {P:Program}{t:TypeId}{e}(hu:P.underlying t=some (.interface e))(t':TypeId)(v:Value)(w:World):∀d,(Op.equalIn (d+1) t .nilIface (.iface t' v)).run P w=.ok false w:=by intro d;simp[Op.equalIn,run_underlying hu]
theorem Vbj {P:Program}{t:TypeId}{e}(hu:P.underlying t=some (.interface e))(t':TypeId)(v:Value)(w:World):∀d,(Op.equalIn (d+1) t (.iface t' v) .nilIface).run P w=.ok false w:=by intro d;simp[Op.equalIn,run_underlying hu]
theorem A3.nilp_inv {E:Env}{v:Value}(h:A3 E .nilp v):v=.pointer none:=by cases h;rfl
theorem A3.ptr_inv {E:Env}{id g o:Nat}{v:Value}(h:A3 E (.ptr id g o) v):∃b,E.φ id g=some b/\v=.pointer (some ⟨b,o,none⟩):=by cases h with | ptr h=>exact⟨_,h,rfl⟩
theorem A3.cptr_inv {E:Env}{cs:List Ab}{o:Nat}{v:Value}(h:A3 E (.cptr cs o) v):∃b o',v=.pointer (some ⟨b,o'+o,none⟩):=by cases h with | cptr f _ _ _=>exact⟨_,_,rfl⟩
theorem A3.nilif_inv {E:Env}{v:Value}(h:A3 E .nilif v):v=.nilIface:=by cases h;rfl
theorem A3.iface_inv {E:Env}{t:TypeId}{x:Ab}{v:Value}(h:A3 E (.iface t x) v):∃u,v=.iface t u/\A3 E x u:=by cases h with | iface h=>exact⟨_,rfl,h⟩
theorem Vbl {t:TypeId}(h:Hx C t=.bool):C.P.underlying t=some .bool:=by
 unfold Hx at h;split at h
 cases h
 ·split at h<;>first | assumption | cases h | (split at h<;>cases h)
theorem Hw {t:TypeId}(h:Hx C t=.ptr):∃e j,C.P.underlying t=some (.pointer e)/\C.P.info? e=some j:=by
 unfold Hx at h;split at h
 cases h
 ·split at h
  cases h
  ·rename_i e hu;split at h
   rename_i hj;obtain⟨j,hj⟩:=Option.isSome_iff_exists.1 hj;exact⟨e,j,hu,hj⟩;cases h
  cases h;cases h
theorem P4 {t:TypeId}(h:Hx C t=.iface):∃e,C.P.underlying t=some (.interface e):=by
 unfold Hx at h;split at h
 cases h
 ·split at h<;>first | exact⟨_,by assumption⟩ | cases h | (split at h<;>cases h)
theorem Vbk {t:TypeId}{n:Nat}(h:Hx C t=.flat n):C.eq t=true/\n=Au C.P t:=by
 unfold Hx at h;split at h
 exact⟨by assumption,by cases h;rfl⟩
 ·split at h<;>first | cases h | (split at h<;>cases h)
theorem Vcg {E:Env}{es:List (List Ab)}{tk:Tok}{v:Value}(h:A3 E (.sl es tk) v):∃a l c,v=.slice a l c/\(es≠[]->a≠none):=by cases h with|sl0 ht ha=>exact⟨_,_,_,rfl,λh=>zYf rfl h⟩|sl f hl hI hm hv hc ht=>exact⟨_,_,_,rfl,λ_ h=>by cases h⟩
theorem VjG {E:Env}{id g off len cap sz:Nat}{ex:Bool}{v:Value}(h:A3 E (.ms id g off len cap sz ex) v):∃a l c,v=.slice a l c/\a≠none:=by
 cases h with
 |ms=>exact⟨_,_,_,rfl,λh=>by cases h⟩
theorem Tt {P:Program}{w:World}{t e:TypeId}(hu:P.underlying t=some (.slice e))(a:Option Addr)(l c:Nat):∀d,(Op.equalIn (d+1) t (.slice a l c) (.slice none 0 0)).run P w=.ok a.isNone w:=by intro d;cases a<;>simp[Op.equalIn,run_underlying hu]
theorem Vn4 {op:BinOp}{t:TypeId}{x y:Operand}{a:Ab}{u:Value}{z:Ab}(ht:VoK C t y=true)(ha:A3 E a u)(h:Ri op a=some z):BL E C.P w (do eqGuard op t x y u (.slice none 0 0);binOp op t u (.slice none 0 0)) z:=by
 obtain⟨e,hu⟩:∃e,C.P.underlying t=some (.slice e):=by
  unfold VoK at ht;simp only[VV]at ht;have:=ht.2;split at this
  exact⟨_,by assumption⟩;cases this
 have key:∀ad l c,u=.slice ad l c->(op=.eql\/op=.neq)->(do eqGuard op t x y u (.slice none 0 0);binOp op t u (.slice none 0 0):Sem Value).run C.P w=.ok (.bool (if op=.eql then ad.isNone else !ad.isNone)) w:=by intro ad l c gN aF;subst gN;rw[zXf,CB op t x y _ _ (by simp) (by simp)];show(binOp op t _ _).run C.P w=_;rcases aF with rfl | rfl;show(do pure (.bool (<-Op.equal t (.slice ad l c) (.slice none 0 0))):Sem Value).run C.P w=_;simp[Op.equal,Op.maxDepth,Tt hu ad l c 9999,Result.andThen];show(do pure (.bool (!(<-Op.equal t (.slice ad l c) (.slice none 0 0)))):Sem Value).run C.P w=_;simp[Op.equal,Op.maxDepth,Tt hu ad l c 9999,Result.andThen]
 unfold Ri at h;split at h
 injection h with h;subst h;obtain⟨ad,l,c,hv,_⟩:=Vcg ha;exact⟨_,key ad l c hv (.inl rfl),.ubool _⟩;injection h with h;subst h;obtain⟨ad,l,c,hv,_⟩:=Vcg ha;exact⟨_,key ad l c hv (.inr rfl),.ubool _⟩;injection h with h;subst h;obtain⟨ad,l,c,hv,hn⟩:=Vcg ha;have:=key ad l c hv (.inl rfl);cases ad with|none=>exact zYf rfl (hn (by simp))|some ad=>exact⟨_,this,.bool _⟩
 injection h with h;subst h;obtain⟨ad,l,c,hv,hn⟩:=Vcg ha;have:=key ad l c hv (.inr rfl);cases ad with|none=>exact zYf rfl (hn (by simp))|some ad=>exact⟨_,this,.bool _⟩
 injection h with h;subst h;obtain⟨ad,l,c,hv,hn⟩:=VjG ha;have:=key ad l c hv (.inl rfl);cases ad with|none=>exact zYf rfl hn|some ad=>exact⟨_,this,.bool _⟩
 injection h with h;subst h;obtain⟨ad,l,c,hv,hn⟩:=VjG ha;have:=key ad l c hv (.inr rfl);cases ad with|none=>exact zYf rfl hn|some ad=>exact⟨_,this,.bool _⟩
 cases h
theorem Vow (hC:Vqc C){op:BinOp}{t:TypeId}{x y:Operand}{a b:Ab}{u v:Value}{z:Ab}(hs:Sim E H w)(ha:A3 E a u)(hb:A3 E b v)(h:Af (Hx C t) op a b=some z):BL E C.P w (do eqGuard op t x y u v;binOp op t u v) z:=by
 have plain:∀ {z},(∀c d,¬(u=.agg c/\v=.agg d))->¬(u=.nilIface/\v=.nilIface)->BL E C.P w (binOp op t u v) z->BL E C.P w (do eqGuard op t x y u v;binOp op t u v) z:=by intro z h1 h2 ⟨r,h3,h4⟩;refine⟨r,?_,h4⟩;rw[zXf,CB op t x y u v h1 h2];exact h3
 unfold Af at h;split at h
 ·rename_i k n k' n';rw[ha.int_inv,hb.int_inv]at plain⊢;refine plain (by simp) (by simp) ?_;split at h
  rename_i lJ;exact Vh5 h lJ
  ·rename_i lJ;split at h
   rename_i hk;subst hk;exact VnE h (by simpa using lJ);cases h
 rw[ha.str_inv,hb.str_inv]at plain⊢;exact plain (by simp) (by simp) (VmW h)
 ·rename_i h1 h2;have key:∀bb,eqA (Hx C t) a b=some bb->(op=.eql\/op=.neq)->(do eqGuard op t x y u v;binOp op t u v:Sem Value).run C.P w=.ok (.bool (if op=.eql then bb else !bb)) w:=by
   intro bb he aF;have eqrun:∀(r:Bool),(eqGuard op t x y u v).run C.P w=.ok () w->(Op.equal t u v).run C.P w=.ok r w->(∀k n,u≠.int k n)->(∀s,u≠.string s)->(∀k n,u≠.float k n)->(∀k n m,u≠.complex k n m) -> 
     (do eqGuard op t x y u v;binOp op t u v:Sem Value).run C.P w=.ok (.bool (if op=.eql then r else !r)) w:=by
    intro r h3 h4 n1 n2 n3 n4;rw[zXf,h3];show(binOp op t u v).run C.P w=_;rcases aF with rfl | rfl
    ·have:binOp .eql t u v=(do pure (.bool (<-Op.equal t u v))):=(by cases u<;>first | rfl | exact zYf rfl (n1 _ _) | exact zYf rfl (n2 _) | exact zYf rfl (n3 _ _) | exact zYf rfl (n4 _ _ _));rw[this];simp[h4,Result.andThen]
    ·have:binOp .neq t u v=(do pure (.bool (!(<-Op.equal t u v)))):=(by cases u<;>first | rfl | exact zYf rfl (n1 _ _) | exact zYf rfl (n2 _) | exact zYf rfl (n3 _ _) | exact zYf rfl (n4 _ _ _));rw[this];simp[h4,Result.andThen]
   unfold eqA at he;split at he<;>first | cases he | skip
   rename_i hk;have hu:=Vbl hk;rw[ha.bool_inv,hb.bool_inv]at eqrun⊢;refine eqrun _ (CB op t x y _ _ (by simp) (by simp)) ?_ (by simp) (by simp) (by simp) (by simp);exact VdF hu _ _ _ 9999;rename_i hk;obtain⟨e,j,hu,_⟩:=Hw hk;rw[ha.nilp_inv,hb.nilp_inv]at eqrun⊢;exact eqrun _ (CB op t x y _ _ (by simp) (by simp)) (Vav hu _ 9999) (by simp) (by simp) (by simp) (by simp);rename_i hk;obtain⟨e,j,hu,_⟩:=Hw hk;obtain⟨b',_,hb'⟩:=hb.ptr_inv;rw[ha.nilp_inv,hb']at eqrun⊢;exact eqrun _ (CB op t x y _ _ (by simp) (by simp)) (P3 hu _ _ 9999) (by simp) (by simp) (by simp) (by simp);rename_i hk;obtain⟨e,j,hu,_⟩:=Hw hk;obtain⟨b',_,hb'⟩:=ha.ptr_inv;rw[hb.nilp_inv,hb']at eqrun⊢;exact eqrun _ (CB op t x y _ _ (by simp) (by simp)) (P1 hu _ _ 9999) (by simp) (by simp) (by simp) (by simp);rename_i hk;obtain⟨e,j,hu,_⟩:=Hw hk;obtain⟨b',_,hb'⟩:=hb.cptr_inv;rw[ha.nilp_inv,hb']at eqrun⊢;exact eqrun _ (CB op t x y _ _ (by simp) (by simp)) (P3 hu _ _ 9999) (by simp) (by simp) (by simp) (by simp);rename_i hk;obtain⟨e,j,hu,_⟩:=Hw hk;obtain⟨b',_,hb'⟩:=ha.cptr_inv;rw[hb.nilp_inv,hb']at eqrun⊢;exact eqrun _ (CB op t x y _ _ (by simp) (by simp)) (P1 hu _ _ 9999) (by simp) (by simp) (by simp) (by simp)
   ·rename_i id g o id' g' o' hk;obtain⟨e,j,hu,hj⟩:=Hw hk;obtain⟨⟨rfl,rfl,rfl⟩,rfl⟩:(id=id'/\g=g'/\o=o')/\bb=true:=(by split at he<;>first | exact⟨by assumption,by cases he;rfl⟩ | cases he);obtain⟨b1,q1,gT⟩:=ha.ptr_inv;obtain⟨b2,q2,gS⟩:=hb.ptr_inv;rw[q1]at q2;cases q2;rw[gT,gS]at eqrun⊢;exact eqrun _ (CB op t x y _ _ (by simp) (by simp)) (VdE hu hj _ _ 9999) (by simp) (by simp) (by simp) (by simp)
   rename_i hk;obtain⟨e,hu⟩:=P4 hk;obtain⟨b',hb',_⟩:=hb.iface_inv;rw[ha.nilif_inv,hb']at eqrun⊢;exact eqrun _ (CB op t x y _ _ (by simp) (by simp)) (Vbi hu _ _ _ 9999) (by simp) (by simp) (by simp) (by simp);rename_i hk;obtain⟨e,hu⟩:=P4 hk;obtain⟨b',hb',_⟩:=ha.iface_inv;rw[hb.nilif_inv,hb']at eqrun⊢;exact eqrun _ (CB op t x y _ _ (by simp) (by simp)) (Vbj hu _ _ _ 9999) (by simp) (by simp) (by simp) (by simp)
   ·rename_i n vas bs hk;obtain⟨hf,hn⟩:=Vbk hk;obtain⟨oY,he⟩:vas.length=n/\Cg vas bs=some bb:=(by split at he<;>first | exact⟨by assumption,he⟩ | cases he);obtain⟨vs,hv,pJ⟩:=ha.agg_cells;obtain⟨us,hu,iP⟩:=hb.agg_cells;rw[hv,hu]at eqrun⊢;refine eqrun _ ?_ (hC.eqv t hf E _ _ vs us bb w pJ iP (by rw[oY,hn]) he) (by simp) (by simp) (by simp) (by simp);have hg:=hC.guard t hf;rcases aF with rfl | rfl<;>simp[eqGuard,program,zXf,Sem.run,Result.andThen,hg]
  cases op<;>simp only[reduceCtorEq]at h
  case eql=>cases he:eqA (Hx C t) a b with|none=>simp[he]at h|some bb=>simp[he]at h;subst h;exact⟨_,by simpa using key bb he (.inl rfl),.bool _⟩
  case neq=>cases he:eqA (Hx C t) a b with|none=>simp[he]at h|some bb=>simp[he]at h;subst h;exact⟨_,by simpa using key bb he (.inr rfl),.bool _⟩

end

def DG (b o n:Nat):(⟨b,o,none⟩:Addr).add n=⟨b,o+n,none⟩:=by unfold Addr.add;split<;>simp_all

def Vaq {P:Program}{t:TypeId}(h:Au P t≠0):∃i,P.info? t=some i/\i.size=Au P t:=by unfold Au at h⊢;cases hi:P.info? t with|none=>simp[hi]at h|some i=>exact⟨i,rfl,by simp⟩
def Gv {P:Program}{t:TypeId}(h:Au P t≠0)(w:World):(sizeOf t).run P w=.ok (Au P t) w:=by obtain⟨i,h1,h2⟩:=Vaq h;simp[sizeOf,typeInfo,h1,h2,program,zXf,Sem.run,Result.andThen]
def Gn {P:Program}{t:TypeId}{d:TypeDesc}(h:P.underlying t=some d):∃i,P.info? t=some i/\i.size=Au P t:=by unfold Program.underlying at h;unfold Au;cases hi:P.info? t with|none=>simp[hi]at h|some i=>exact⟨i,rfl,by simp⟩
def Dp {P:Program}{t:TypeId}{d:TypeDesc}(h:P.underlying t=some d)(w:World):(sizeOf t).run P w=.ok (Au P t) w:=by obtain⟨i,h1,h2⟩:=Gn h;simp[sizeOf,typeInfo,h1,h2,program,zXf,Sem.run,Result.andThen]
def PU {P:Program}{t:TypeId}{d:TypeDesc}(h:P.underlying t=some d)(w:World):(isAgg t).run P w=.ok (BX P t) w:=by unfold isAgg BX;rw[h];simp only[zXf,run_underlying h,zXg];cases d<;>simp

def Vo5 (w:World)(b o:Nat)(vs:List Value):Prop:=∀(j:Nat)(v:Value),vs[j]? = some v->w.cell? ⟨b,o+j,none⟩=some v
def PT {P:Program}{t:TypeId}{d:TypeDesc}(hu:P.underlying t=some d)(w:World)(b o:Nat)(vs:List Value)(h:Vo5 w b o vs)(hl:vs.length=Au P t)(ha:BX P t=true):(loadVar t ⟨b,o,none⟩).run P w=.ok (.agg vs.toArray) w:=by
 have h1:(loadCells ⟨b,o,none⟩ vs.length).run P w=.ok vs.toArray w:=run_loadCells_list (P:=P) w ⟨b,o,none⟩ vs (λj v hv=>by rw[DG];exact h j v hv);unfold loadVar;simp only[zXf,PU hu,zXg,ha,zYd,Dp hu,<-hl,h1,Sem.run_pure]
def L7 {P:Program}{t:TypeId}{d:TypeDesc}(hu:P.underlying t=some d)(w:World)(a:Addr)(v:Value)(h:w.cell? a=some v)(ha:BX P t=false):(loadVar t a).run P w=.ok v w:=by unfold loadVar;simp only[zXf,PU hu,zXg,ha,VL,zYe];simp[load,Sem.run,h]

section
variable {C:Cfg}{E:Env}{H:Aa}{w:World}
theorem GH (hs:Sim E H w){id g:Nat}{cs:List Ab}(h:AD H id g=some cs):(∃B,H[id]? = some B/\CE E id B=E.φ id g/\(B=.cel g cs\/(∃e sz,B=.buf g cs e sz)\/∃t,g=0/\B=.typ t cs))/\∃b vs t,E.φ id g=some b/\w.heap[b]? = some (.cells vs t (0,0))/\AB E cs (vs.toList.take cs.length)/\cs.length<=vs.size/\∀o,E.I b o=none:=by
 unfold AD at h;split at h
 ·rename_i g' cs' hH;split at h
  rename_i hg;subst hg;injection h with h;subst h;obtain⟨b,vs,t,h1,h2,h3,h4⟩:=hs.blk id _ hH;have hl:cs'.length=vs.size:=(by simpa using h3.1);exact⟨⟨_,hH,rfl,.inl rfl⟩,b,vs,t,h1,h2,by rw[VW (by simp[hl])];exact h3,by omega,h4⟩;cases h
 ·rename_i g' cs' e sz hH;split at h
  rename_i hg;subst hg;injection h with h;subst h;obtain⟨b,cap,vs,h1,h2,h3,h4,h5,h6,h7,h8⟩:=hs.blk id _ hH;exact⟨⟨_,hH,rfl,.inr (.inl ⟨e,sz,rfl⟩)⟩,b,vs,e,h1,h3,h7,h5,h8⟩;cases h
 ·rename_i t cs' hH;split at h
  rename_i hg;subst hg;injection h with h;subst h;obtain⟨b,vs,h1,h2,h3,h4⟩:=hs.blk id _ hH;have hl:cs'.length=vs.size:=(by simpa using h3.1);exact⟨⟨_,hH,rfl,.inr (.inr ⟨t,rfl,rfl⟩)⟩,b,vs,t,h1,h2,by rw[VW (by simp[hl])];exact h3,by omega,h4⟩;cases h
 cases h
theorem IE {α:Type}{l:List α}{n i:Nat}{a:α}(h:(l.take n)[i]? = some a):l[i]? = some a:=by
 rw[Xk]at h;split at h
 exact h;cases h
theorem Bo {b:Nat}{vs:Array Value}{t:TypeId}{fr:Nat×Nat}(h:w.heap[b]? = some (.cells vs t fr))(o:Nat):w.cell? ⟨b,o,none⟩=vs[o]? := by unfold World.cell?;rw[h];rfl
theorem Vjm (hs:Sim E H w){x:Ab}{v:Value}(hx:A3 E x v){cs:List Ab}{o:Nat}
  (h:(∃id g,x=.ptr id g o/\AD H id g=some cs)\/x=.cptr cs o):∃b o',v=.pointer (some ⟨b,o'+o,none⟩)/\∀(j:Nat)(c:Ab),cs[o+j]? = some c->∃u,w.cell? ⟨b,o'+o+j,none⟩=some u/\A3 E c u:=by
 rcases h with ⟨id,g,rfl,hc⟩ | rfl;obtain⟨_,b,vs,t,h1,h2,h3,_⟩:=GH hs hc;obtain⟨b',h4,h5⟩:=hx.ptr_inv;rw[h1]at h4;cases h4;refine⟨b,0,by simpa using h5,λj c hj=>?_⟩;obtain⟨u,h6,h7⟩:=h3.get hj;refine⟨u,?_,h7⟩;rw[Bo h2];have:=IE h6;simpa using this
 ·cases hx with
  |cptr f hI hm hv=>rename_i b o';refine⟨b,o',rfl,λj c hj=>⟨f (o+j),?_,hv _ _ hj⟩⟩;have:=hs.imm b _ _ (hI (o+j) (VJ.1 hj).1);rw[<-WA]at this;exact this
theorem Sr {b o:Nat}:∀(cs:List Ab),(∀(j:Nat)(c:Ab),cs[j]? = some c->∃u,w.cell? ⟨b,o+j,none⟩=some u/\A3 E c u)->∃vs:List Value,vs.length=cs.length/\Vo5 w b o vs/\AB E cs vs
 |[],_=>⟨[],rfl,λj v h=>by simp at h,.nil E⟩
 |c::cs,h=>by obtain⟨u,h1,h2⟩:=h 0 c rfl;obtain⟨vs,h3,h4,h5⟩:=Sr (b:=b) (o:=o+1) cs (λj c' hj=>by obtain⟨u',h6,h7⟩:=h (j+1) c' (by simpa using hj);exact⟨u',by rw[<-h6];congr 2;omega,h7⟩);refine⟨u::vs,by simp[h3],λj v hj=>?_,.cons h2 h5⟩;cases j with|zero=>simp at hj;subst hj;exact h1|succ j=>simp at hj;rw[<-h4 j v hj];congr 2;omega
theorem VfH {t:TypeId}{d:TypeDesc}(hu:C.P.underlying t=some d)(hs:Sim E H w){x z:Ab}{v:Value}(hx:A3 E x v)(h:Ad (BX C.P t) (Au C.P t) x H=some z):BL E C.P w (Instr.loadAt t v) z:=by
 have key:∃cs o,((∃id g,x=.ptr id g o/\AD H id g=some cs)\/x=.cptr cs o)/\(if BX C.P t=true then (if o+Au C.P t<=cs.length then some (Ab.agg ((cs.drop o).take (Au C.P t)))else none)else cs[o]?)=some z:=by
  unfold Ad at h;split at h
  rename_i id g o;cases hc:AD H id g with|none=>simp[hc]at h|some cs=>rw[hc]at h;exact⟨cs,o,.inl ⟨id,g,rfl,hc⟩,h⟩
  rename_i cs o;exact⟨cs,o,.inr rfl,h⟩;cases h
 obtain⟨cs,o,hk,hz⟩:=key;obtain⟨b,o',rfl,eM⟩:=Vjm hs hx hk;have aC:∀r,(loadVar t ⟨b,o'+o,none⟩).run C.P w=r->(Instr.loadAt t (.pointer (some ⟨b,o'+o,none⟩))).run C.P w=r:=by intro r hr;simp only[Instr.loadAt,Instr.sureAddr,zXf,Sem.run_pure,zXg,hr]
 split at hz
 ·rename_i ha;split at hz
  ·rename_i hle;injection hz with hz;subst hz;obtain⟨vs,h1,h2,h3⟩:=Sr (E:=E) (w:=w) (b:=b) (o:=o'+o) ((cs.drop o).take (Au C.P t)) (λj c hj=>by
    rw[Xk]at hj;split at hj
    rw[W5]at hj;exact eM j c hj
    ·cases hj)
   refine⟨_,aC _ (PT hu w b _ vs h2 ?_ ha),.agg_of (by simpa using h3)⟩;rw[h1,Wc,Wd];omega
  cases hz
 rename_i ha;obtain⟨u,h1,h2⟩:=eM 0 z (by simpa using hz);exact⟨u,aC _ (L7 hu w _ u (by simpa using h1) (by simpa using ha)),h2⟩

end
section
variable {C:Cfg}{E:Env}{H:Aa}{w:World}
theorem VlW {a b c z:Ab}{u v x:Value}(hc:A3 E c x)(ha:A3 E a u)(hb:A3 E b v)(h:Ay c a b=some z):BL E C.P w (do pure (if ← asBool x then u else v)) z:=by
 unfold Ay at h;split at h
 rename_i t;injection h with h;subst h;rw[hc.bool_inv];cases t;exact⟨v,by simp[asBool],hb⟩;exact⟨u,by simp[asBool],ha⟩;cases h
theorem Vpd {op:UnOp}{a z:Ab}{u:Value}(ha:A3 E a u)(h:unA op a=some z):BL E C.P w (Op.unary op u) z:=by
 unfold unA at h;split at h
 injection h with h;subst h;rw[ha.int_inv];exact⟨_,by simp[Op.unary,Op.intArith],.int _ _⟩;rw[ha.int_inv];obtain⟨v,h1,h2⟩:=VgX (E:=E) (P:=C.P) (w:=w) h;exact⟨v,by simpa[Op.unary]using h1,h2⟩;injection h with h;subst h;rw[ha.bool_inv];exact⟨_,by simp[Op.unary],.bool _⟩;cases h
theorem VdD {i:Nat}{a z:Ab}{u:Value}(ha:A3 E a u)(h:Ao i a=some z):BL E C.P w (Instr.extract u i) z:=by
 unfold Ao at h;split at h
 ·obtain⟨vs,rfl,hv⟩:=ha.tup_cells;obtain⟨v,h1,h2⟩:=hv.get h;have eO:vs[i]? = some v:=by simpa using h1
  exact⟨v,by simp[Instr.extract,eO],h2⟩
 cases h
theorem Vat {s f:Nat}{fs:Array Field}{fd:Field}{a z:Ab}{u:Value}(hu:C.P.underlying s=some (.struct fs))(hf:fs[f]? = some fd)(hz:Au C.P fd.type≠0)(ha:A3 E a u)(h:Ac fd.offset a=some z):BL E C.P w (Instr.fieldAt s u f) z:=by
 have run:∀b o,(Instr.fieldAt s (.pointer (some ⟨b,o,none⟩)) f).run C.P w=.ok (.pointer (some ⟨b,o+fd.offset,none⟩)) w:=by intro b o;simp[Instr.fieldAt,zXf,run_underlying hu,zXg,hf,Instr.sureAddr,fieldPlace,Gv hz,hz,DG]
 unfold Ac at h;split at h
 injection h with h;subst h;obtain⟨b,h1,rfl⟩:=ha.ptr_inv;exact⟨_,run b _,.ptr h1⟩
 ·injection h with h;subst h;cases ha with
  |cptr f' hI hm hv=>exact⟨_,by rw[run,WA],.cptr f' hI hm hv⟩
 cases h
theorem Vfu {t:TypeId}{d:TypeDesc}(hu:C.P.underlying t=some d){off:Nat}{cs:List Ab}{vs:Array Value}{z:Ab}(hv:AB E cs vs.toList)(h:Vio (BX C.P t) off (Au C.P t) cs=some z):BL E C.P w (part t vs off) z:=by
 unfold Vio at h;unfold BL part;simp only[zXf,PU hu,zXg];split at h
 ·rename_i ha;injection h with h;subst h;simp only[ha,zYd,zXf,Dp hu,zXg,Sem.run_pure];refine⟨_,rfl,.agg_of ?_⟩;have:=(hv.drop off).take (Au C.P t);have e:(vs.extract off (off+Au C.P t)).toList=(vs.toList.drop off).take (Au C.P t):=by rw[XU,List.extract_eq_take_drop];congr 1;omega
  rw[e];exact this
 ·rename_i ha;obtain⟨v,h1,h2⟩:=hv.get h;have eO:vs[off]? = some v:=by simpa using h1
  simp only[ha,VL,zYe,eO,Sem.run_pure];exact⟨v,rfl,h2⟩
theorem ViR {s f:Nat}{fs:Array Field}{fd:Field}{d:TypeDesc}{a z:Ab}{u:Value}(hu:C.P.underlying s=some (.struct fs))(hf:fs[f]? = some fd)(hd:C.P.underlying fd.type=some d)(ha:A3 E a u)(h:Qs (BX C.P fd.type) fd.offset (Au C.P fd.type) a=some z):BL E C.P w (Instr.field s u f) z:=by
 unfold Qs at h;split at h
 obtain⟨vs,rfl,hv⟩:=ha.agg_cells;obtain⟨v,h1,h2⟩:=Vfu (w:=w) hd hv h;exact⟨v,by simp[Instr.field,zXf,run_underlying hu,zXg,hf,asAgg,h1],h2⟩;cases h
theorem VaT {op:Oper}{x:Operand}{a z:Ab}{ρ:Operand->Value}(ho:op.op=.nilCheck x)(ha:A3 E a (ρ x))(h:Ah a=some z):∃v,(execOp ρ op).run C.P w=.ok (.value v) w/\A3 E z v:=by
 unfold Ah at h;split at h
 injection h with h;subst h;obtain⟨b,h1,h2⟩:=ha.ptr_inv;exact⟨ρ x,by simp only[execOp,ho,h2];rfl,ha⟩;injection h with h;subst h;obtain⟨b,o,h2⟩:=ha.cptr_inv;exact⟨ρ x,by simp only[execOp,ho,h2];rfl,ha⟩;injection h with h;subst h;obtain⟨b,h2,_⟩:=ha.iface_inv;exact⟨ρ x,by simp only[execOp,ho,h2];rfl,ha⟩;cases h
theorem Vai {op:Oper}{x:Operand}{a z:Ab}{ρ:Operand->Value}(ho:op.op=.nilCheck x)(ha:A3 E a (ρ x))(h:Ah a=some z):∃v,A3 E z v/\∀w,(execOp ρ op).run C.P w=.ok (.value v) w:=by
 unfold Ah at h;split at h
 injection h with h;subst h;obtain⟨b,h1,h2⟩:=ha.ptr_inv;exact⟨ρ x,ha,λw=>by simp only[execOp,ho,h2];rfl⟩;injection h with h;subst h;obtain⟨b,o,h2⟩:=ha.cptr_inv;exact⟨ρ x,ha,λw=>by simp only[execOp,ho,h2];rfl⟩;injection h with h;subst h;obtain⟨b,h2,_⟩:=ha.iface_inv;exact⟨ρ x,ha,λw=>by simp only[execOp,ho,h2];rfl⟩;cases h
theorem Uj {s f:Nat}{fs:Array Field}{fd:Field}{a z:Ab}{u:Value}(hu:C.P.underlying s=some (.struct fs))(hf:fs[f]? = some fd)(hz:Au C.P fd.type≠0)(ha:A3 E a u)(h:Ac fd.offset a=some z):∃v,A3 E z v/\∀w,(Instr.fieldAt s u f).run C.P w=.ok v w:=by
 have run:∀w b o,(Instr.fieldAt s (.pointer (some ⟨b,o,none⟩)) f).run C.P w=.ok (.pointer (some ⟨b,o+fd.offset,none⟩)) w:=by intro w b o;simp[Instr.fieldAt,zXf,run_underlying hu,zXg,hf,Instr.sureAddr,fieldPlace,Gv hz,hz,DG]
 unfold Ac at h;split at h
 injection h with h;subst h;obtain⟨b,h1,rfl⟩:=ha.ptr_inv;exact⟨_,.ptr h1,λw=>run w b _⟩
 ·injection h with h;subst h;cases ha with
  |cptr f' hI hm hv=>exact⟨_,.cptr f' hI hm hv,λw=>by rw[run,WA]⟩
 cases h
theorem ViG {t:TypeId}{d:TypeDesc}{a z:Ab}{u:Value}(hu:C.P.underlying t=some d)(hd:∀m,d≠.interface m)(ha:A3 E a u)(h:Te t a=some z):BL E C.P w (Instr.makeInterface t u) z:=by injection h with h;subst h;refine⟨.iface t u,?_,.iface ha⟩;unfold Instr.makeInterface;simp only[zXf,run_underlying hu,zXg];cases d<;>first | rfl | exact zYf rfl (hd _)
theorem Vha {t xt:TypeId}{d:TypeDesc}{ok:Bool}{a z:Ab}{u:Value}(hu:C.P.underlying t=some d)(hd:∀m,d≠.interface m)(ha:A3 E a u)(h:Vb1 t ok a=some z):BL E C.P w (Instr.typeAssert u xt t ok) z:=by
 unfold Vb1 at h;split at h
 ·rename_i t' x;split at h
  ·rename_i ht;subst ht;obtain⟨v,rfl,hv⟩:=ha.iface_inv;have key:(Instr.typeAssert (.iface t' v) xt t' ok).run C.P w=.ok (if ok then .tuple #[v,.bool true]else v) w:=(by unfold Instr.typeAssert;simp only[zXf,run_underlying hu,zXg];cases d<;>first | (simp;done) | exact zYf rfl (hd _));injection h with h;subst h;cases ok;exact⟨_,key,hv⟩;exact⟨_,key,.tup_of (AB.cons hv (AB.cons (.bool true) (.nil E)))⟩
  cases h
 cases h
theorem Vlu {a b z:Ab}{u v:Value}(ha:A3 E a u)(hb:A3 E b v)(h:Jw a b=some z):BL E C.P w (Builtin.max2 u v) z:=by
 unfold Jw at h;split at h
 injection h with h;subst h;rw[ha.int_inv,hb.int_inv];exact⟨_,by simp[Builtin.max2],.int _ _⟩;cases h
theorem Vlt {a b z:Ab}{u v:Value}(ha:A3 E a u)(hb:A3 E b v)(h:SO a b=some z):BL E C.P w (Builtin.min2 u v) z:=by
 unfold SO at h;split at h
 injection h with h;subst h;rw[ha.int_inv,hb.int_inv];exact⟨_,by simp[Builtin.min2],.int _ _⟩;cases h
theorem Vbg {f:Ab->Ab->Option Ab}{g:Value->Value->Sem Value}(yV:∀ {a b z:Ab} {u v:Value},A3 E a u->A3 E b v->f a b=some z->BL E C.P w (g u v) z):∀(xs:List Ab)(vs:List Value)(a z:Ab)(u:Value),A3 E a u->AB E xs vs->Hf f a xs=some z->BL E C.P w (vs.foldlM g u) z
 |[],[],a,z,u,ha,_,h=>by simp[Hf]at h;subst h;exact⟨u,by simp,ha⟩
 |[],_::_,a,z,u,ha,hv,h=>by have:=hv.1;simp at this
 |_::_,[],a,z,u,ha,hv,h=>by have:=hv.1;simp at this
 |x::xs,v::vs,a,z,u,ha,hv,h=>by
  simp only[Hf]at h;cases hx:f a x with
  |none=>simp[hx]at h
  |some y=>rw[hx]at h;obtain⟨r,h1,h2⟩:=yV ha hv.head hx;obtain⟨r',h3,h4⟩:=Vbg yV xs vs y z r h2 hv.tail h;exact⟨r',by simp[zXf,h1,zXg,h3],h4⟩

end
section
variable {C:Cfg}{E:Env}{H:Aa}{w:World}
theorem KA (s:zAa):(⟨s.toArray⟩:ByteArray).size=s.length:=by simp[ByteArray.size]
theorem VfZ {t:TypeId}{a i z:Ab}{u v:Value}(hu:C.P.underlying t=some .string)(ha:A3 E a u)(hi:A3 E i v)(h:Bc a i=some z):BL E C.P w (Instr.index t u v) z:=by
 unfold Bc at h;split at h
 ·rename_i s k n;rw[ha.str_inv,hi.int_inv];split at h
  rename_i hn;cases hg:s[n.toNat]? with|none=>simp[hg]at h|some b=>simp only[hg,zXb,VT]at h;subst h;have hlt:n.toNat<s.length:=(VJ.1 hg).1;have hb:(⟨s.toArray⟩:ByteArray)[n.toNat]? = some b:=(by rw[getElem?_pos (⟨s.toArray⟩:ByteArray) n.toNat (by rw[KA];exact hlt)];have:s[n.toNat]=b:=(VJ.1 hg).2;rw[<-this];rfl);refine⟨.int .u8 b.toNat,?_,.int _ _⟩;simp only[Instr.index,asIntOf,zXf,Sem.run_pure,zXg,run_underlying hu,zYc hn,hb]
  cases h
 cases h
theorem Vgb {t e n:Nat}{d:TypeDesc}{a i z:Ab}{u v:Value}(hu:C.P.underlying t=some (.array n e))(hd:C.P.underlying e=some d)(ha:A3 E a u)(hi:A3 E i v)(h:JF (BX C.P e) n (Au C.P e) a i=some z):BL E C.P w (Instr.index t u v) z:=by
 unfold JF at h;split at h
 ·rename_i cs k m;obtain⟨vs,rfl,hv⟩:=ha.agg_cells;rw[hi.int_inv];split at h
  rename_i hm;obtain⟨r,h1,h2⟩:=Vfu (w:=w) hd hv h;refine⟨r,?_,h2⟩;simp only[Instr.index,asIntOf,zXf,Sem.run_pure,zXg,run_underlying hu,zYc hm,Dp hd,h1];cases h
 cases h
theorem Ju {t e:TypeId}(hu:C.P.underlying t=some (.slice e)){d:TypeDesc}(hd:C.P.underlying e=some d)(b o len cap:Nat)(k:IntKind)(n:Int)(hn:0<=n/\n<len):(Instr.indexAt t (.slice (some ⟨b,o,none⟩) len cap) (.int k n)).run C.P w=.ok (.pointer (some ⟨b,o+n.toNat*Au C.P e,none⟩)) w:=by
 simp only[Instr.indexAt,asIntOf,zXf,Sem.run_pure,zXg,run_underlying hu,zYc hn,Dp hd,DG]
theorem ViH {t e:TypeId}{d:TypeDesc}{a i z:Ab}{u v:Value}(hu:C.P.underlying t=some (.slice e))(hd:C.P.underlying e=some d)(ha:A3 E a u)(hi:A3 E i v)(h:Aw (Au C.P e) a i=some z):BL E C.P w (Instr.indexAt t u v) z:=by
 unfold Aw at h;split at h
 ·rename_i es tk k n;rw[hi.int_inv];split at h
  ·rename_i hn;cases hg:es[n.toNat]? with
   |none=>simp[hg]at h
   |some x=>
    simp only[hg,zXa]at h;split at h
    ·rename_i hx;injection h with h;subst h;have hlt:n.toNat<es.length:=(VJ.1 hg).1;cases ha with
     |sl0 ht ha=>simp at hg
     |sl f hl hI hm hv hc ht=>
      rename_i b o s cap;have hs:s=Au C.P e:=(by rw[<-hl _ _ hg,hx]);subst hs;refine⟨_,Ju hu hd b o es.length cap k n ⟨hn,by omega⟩,?_⟩;have hrel:A3 E (.cptr x 0) (.pointer (some ⟨b,(o+n.toNat*Au C.P e)+0,none⟩)):=
       .cptr (f n.toNat) (λj hj=>by have:=hI n.toNat j hlt (by omega);rw[<-WA]at this;exact this) (λj c hj=>hm _ _ _ _ hg hj) (λj c hj=>hv _ _ _ _ hg hj)
      exact hrel
    cases h
  cases h
 ·rename_i id g off len cap sz' ex k n;rw[hi.int_inv];split at h
  ·rename_i hn;obtain⟨hsz,dQ,eR⟩:=hn;injection h with h;subst h;cases ha with
   |ms h1 hc hl he ho=>have dP:=ho (by omega);subst dP;exact⟨_,Ju hu hd _ _ _ _ k n ⟨dQ,eR⟩,.ptr h1⟩
  cases h
 cases h
theorem Vga {t e n:Nat}{d:TypeDesc}{a i z:Ab}{u v:Value}(hu:C.P.underlying t=some (.array n e))(hd:C.P.underlying e=some d)(ha:A3 E a u)(hi:A3 E i v)(h:BM n (Au C.P e) a i=some z):BL E C.P w (Instr.indexAt t u v) z:=by
 have run:∀b o k (m:Int),0<=m/\m<n->(Instr.indexAt t (.pointer (some ⟨b,o,none⟩)) (.int k m)).run C.P w=.ok (.pointer (some ⟨b,o+m.toNat*Au C.P e,none⟩)) w:=by intro b o k m hm;simp only[Instr.indexAt,asIntOf,zXf,Sem.run_pure,zXg,run_underlying hu,Instr.sureAddr,zYc hm,Dp hd,DG]
 unfold BM at h;split at h
 ·rename_i id g o k m;rw[hi.int_inv];split at h
  rename_i hm;injection h with h;subst h;obtain⟨b,h1,rfl⟩:=ha.ptr_inv;exact⟨_,run b o k m hm,.ptr h1⟩;cases h
 ·rename_i cs o k m;rw[hi.int_inv];split at h
  ·rename_i hm;injection h with h;subst h;cases ha with
   |cptr f hI hmm hv=>exact⟨_,by rw[run _ _ _ _ hm,WA],.cptr f hI hmm hv⟩
  cases h
 cases h
theorem VfL {t:TypeId}{ty:TypeId}{a z:Ab}{u:Value}(hu:C.P.underlying t=some .string)(ha:A3 E a u)(h:BG a=some z):BL E C.P w (Builtin.len_ #[t] ty #[u]) z:=by
 unfold BG at h;split at h
 injection h with h;subst h;rw[ha.str_inv];refine⟨_,?_,.int _ _⟩;simp[Builtin.len_,zXf,run_underlying hu,zXg,KA,goInt];cases h
theorem Vi8 {t e:TypeId}{ty:TypeId}{a z:Ab}{u:Value}(hu:C.P.underlying t=some (.slice e))(ha:A3 E a u)(h:A9 a=some z):BL E C.P w (Builtin.len_ #[t] ty #[u]) z:=by
 unfold A9 at h;split at h
 injection h with h;subst h;refine⟨_,?_,.int _ _⟩;cases ha<;>simp[Builtin.len_,zXf,run_underlying hu,zXg,goInt]
 injection h with h;subst h;refine⟨_,?_,.int _ _⟩;cases ha;simp[Builtin.len_,zXf,run_underlying hu,zXg,goInt];cases h
theorem VfM {t n e:Nat}{ty:TypeId}{a z:Ab}{u:Value}(hu:C.P.underlying t=some (.array n e))(h:VjM n a=some z):BL E C.P w (Builtin.len_ #[t] ty #[u]) z:=by injection h with h;subst h;exact⟨_,by simp[Builtin.len_,zXf,run_underlying hu,zXg,goInt],.int _ _⟩
theorem Vop {t e:TypeId}{ty:TypeId}{a z:Ab}{u:Value}(hu:C.P.underlying t=some (.slice e))(ha:A3 E a u)(h:VpQ a=some z):BL E C.P w (Builtin.cap_ #[t] ty #[u]) z:=by
 unfold VpQ at h;split at h
 injection h with h;subst h;refine⟨_,?_,.int _ _⟩;cases ha with|sl0 ht ha=>cases ht;simp[Builtin.cap_,zXf,run_underlying hu,zXg,goInt]|sl f hl hI hm hv hc ht=>cases ht;simp[Builtin.cap_,zXf,run_underlying hu,zXg,goInt]
 ·injection h with h;subst h;refine⟨_,?_,.int _ _⟩;cases ha with
  |ms h1 hc hl he ho=>rw[he rfl];simp[Builtin.cap_,zXf,run_underlying hu,zXg,goInt]
 cases h

theorem Nq {d:Nat}{o:Option Ab}{v:Option Value}{n y:Nat}(hv:(o=none/\v=none)\/∃a u,o=some a/\v=some u/\A3 E a u)(h:B5 d o=some n)(code:BoundsCode)(hy:v≠none->n<=y):(v=none->n=d)/\∀u,v=some u->(Instr.sliceBound u y code).run C.P w=.ok n w:=by
 rcases hv with ⟨rfl,rfl⟩ | ⟨a,u,rfl,rfl,hau⟩;simp[B5]at h;exact⟨λ_=>h.symm,λu hu=>by cases hu⟩
 ·refine⟨λh=>(by cases h),λu' hu=>?_⟩;cases hu;unfold B5 at h;split at h
  rename_i h1;cases h1
  ·rename_i k m h1;cases h1;split at h
   rename_i hm;injection h with h;subst h;rw[hau.int_inv];have:=hy (by simp);simp only[Instr.sliceBound,asIntOf,zXf,Sem.run_pure,zXg];rw[zYc ⟨hm,by omega⟩];simp;cases h
  cases h
theorem NN {isS:Bool}{len cap:Nat}{lo hi mx:Option Ab}{lo' aE mx':Option Value}{l h m:Nat}(tW:mx'≠none->aE≠none)
  (r1:(lo=none/\lo'=none)\/∃a u,lo=some a/\lo'=some u/\A3 E a u)(r2:(hi=none/\aE=none)\/∃a u,hi=some a/\aE=some u/\A3 E a u)(r3:(mx=none/\mx'=none)\/∃a u,mx=some a/\mx'=some u/\A3 E a u)
  (h1:B5 0 lo=some l)(h2:B5 len hi=some h)(h3:B5 cap mx=some m)(hl:l<=h)(hh:h<=m)(hm:m<=cap):(Instr.sliceBounds isS len cap lo' aE mx').run C.P w=.ok (l,h,m) w:=by
 unfold Instr.sliceBounds;obtain⟨m1,m2⟩:=Nq (C:=C) (w:=w) r3 h3 (if isS then .slice3Acap else .slice3Alen) (y:=cap) (λ_=>hm);cases mx' with
 |none=>
  have em:=m1 rfl;subst em;obtain⟨b1,b2⟩:=Nq (C:=C) (w:=w) r2 h2 (if isS then .sliceAcap else .sliceAlen) (y:=m) (λ_=>hh);obtain⟨c1,c2⟩:=Nq (C:=C) (w:=w) r1 h1 .sliceB (y:=h) (λ_=>hl);cases aE with
  |none=>have:=b1 rfl;subst this;cases lo' with|none=>have:=c1 rfl;subst this;simp|some u=>simp[c2 u rfl,zXg]
  |some u2=>cases lo' with|none=>have:=c1 rfl;subst this;simp[b2 u2 rfl,zXg]|some u=>simp[zXf,b2 u2 rfl,c2 u rfl,zXg]
 |some u3=>
  obtain⟨b1,b2⟩:=Nq (C:=C) (w:=w) r2 h2 .slice3B (y:=m) (λ_=>hh);obtain⟨c1,c2⟩:=Nq (C:=C) (w:=w) r1 h1 .slice3C (y:=h) (λ_=>hl);cases aE with
  |none=>exact zYf rfl (tW (by simp))
  |some u2=>cases lo' with|none=>have:=c1 rfl;subst this;simp[zXf,m2 u3 rfl,b2 u2 rfl,zXg]|some u=>simp[zXf,m2 u3 rfl,b2 u2 rfl,c2 u rfl,zXg]

end
def JQ {α:Type}{l:List α}{n i:Nat}{x:α}(h:(l.take n)[i]? = some x):l[i]? = some x:=by
 rw[Xk]at h;split at h
 exact h;cases h
def Ra (c n:Nat)(y:Ab):B5 c (some y)=B5 n (some y):=by cases y<;>rfl
def Vkm (E:Env)(o:Option Ab)(v:Option Value):Prop:=(o=none/\v=none)\/∃a u,o=some a/\v=some u/\A3 E a u
section
variable {C:Cfg}{E:Env}{H:Aa}{w:World}
theorem VaA {t:TypeId}{a z:Ab}{u:Value}{lo hi:Option Ab}{lo' aE:Option Value}(hu:C.P.underlying t=some .string)(ha:A3 E a u)(r1:Vkm E lo lo')(r2:Vkm E hi aE)(h:BP a lo hi=some z):BL E C.P w (Instr.sliceAt t u lo' aE none) z:=by
 unfold BP at h;split at h
 ·rename_i s;cases h1:B5 0 lo with
  |none=>simp[h1]at h
  |some l=>
   simp only[h1,zXa]at h;cases h2:B5 s.length hi with
   |none=>simp[h2]at h
   |some n=>
    simp only[h2,zXa]at h;split at h
    rename_i aZ;injection h with h;subst h;rw[ha.str_inv];have hb:=NN (C:=C) (E:=E) (w:=w) (isS:=false) (len:=s.length) (cap:=s.length) (mx:=none) (mx':=none) (m:=s.length) (by simp) r1 r2 (.inl ⟨rfl,rfl⟩) h1 h2 rfl aZ.1 aZ.2 (VM _);have he:(⟨s.toArray⟩:ByteArray).extract l n=⟨((s.take n).drop l).toArray⟩:=(by apply ByteArray.ext;rw[ByteArray.data_extract];apply Yu;rw[XU,List.extract_eq_take_drop,List.drop_take]);refine⟨_,?_,.str _⟩;simp only[Instr.sliceAt,Instr.slice,zXf,run_underlying hu,zXg,KA,Option.isSome_none,VL,zYe,hb,Sem.run_pure,he];cases h
 cases h
theorem VaB {t n e:Nat}{d:TypeDesc}{a z:Ab}{u:Value}{lo hi:Option Ab}{lo' aE:Option Value}(hu:C.P.underlying t=some (.array n e))(hd:C.P.underlying e=some d)(ha:A3 E a u)
  (r1:Vkm E lo lo')(r2:Vkm E hi aE)(h:JT n (Au C.P e) a lo hi=some z):BL E C.P w (Instr.sliceAt t u lo' aE none) z:=by
 unfold JT at h;split at h
 ·rename_i id g off;cases h1:B5 0 lo with
  |none=>simp[h1]at h
  |some l=>
   simp only[h1,zXa]at h;cases h2:B5 n hi with
   |none=>simp[h2]at h
   |some k=>
    simp only[h2,zXa]at h;split at h
    rename_i hb;injection h with h;subst h;obtain⟨b,hφ,rfl⟩:=ha.ptr_inv;have aC:=NN (C:=C) (E:=E) (w:=w) (isS:=false) (len:=n) (cap:=n) (mx:=none) (mx':=none) (m:=n) (by simp) r1 r2 (.inl ⟨rfl,rfl⟩) h1 h2 rfl hb.1 hb.2 (VM _);refine⟨.slice (some ⟨b,if n=l then off else off+l*Au C.P e,none⟩) (k-l) (n-l),?_,.ms hφ (VM _) (by omega) (λ_=>rfl) (λhne=>by rw[zYb (by omega)]) (λh=>by cases h)⟩;simp only[Instr.sliceAt,zXf,run_underlying hu,zXg,Instr.sureAddr,aC,Dp hd,Sem.run_pure,DG];split<;>rfl
    cases h
 cases h
theorem Vdm {t e:TypeId}{d:TypeDesc}{a z:Ab}{u:Value}{lo hi mx:Option Ab}{lo' aE mx':Option Value}(hu:C.P.underlying t=some (.slice e))(hd:C.P.underlying e=some d)(ha:A3 E a u)(tW:mx'≠none->aE≠none)
  (r1:Vkm E lo lo')(r2:Vkm E hi aE)(r3:Vkm E mx mx')(h:B7 (Au C.P e) a lo hi mx=some z):BL E C.P w (Instr.sliceAt t u lo' aE mx') z:=by
 have run:∀(ad:Option Addr) len cap l n m,(Instr.sliceBounds true len cap lo' aE mx').run C.P w=.ok (l,n,m) w ->
   (Instr.sliceAt t (.slice ad len cap) lo' aE mx').run C.P w=.ok (.slice (if m=l then ad else ad.map (·.add (l*Au C.P e))) (n-l) (m-l)) w:=by
  intro ad len cap l n m hb;simp only[Instr.sliceAt,Instr.slice,zXf,run_underlying hu,zXg,hb,Dp hd,Sem.run_pure]
 unfold B7 at h;split at h
 ·rename_i es tk;split at h
  cases h
  ·rename_i aD;have gL:∀x∈es,x.length=Au C.P e:=(by simpa using aD);cases h1:B5 0 lo with
   |none=>simp[h1]at h
   |some l=>
    simp only[h1,zXa]at h;cases h2:B5 es.length hi with
    |none=>simp[h2]at h
    |some n=>
     simp only[h2,zXa]at h;cases h3:B5 n mx with
     |none=>simp[h3]at h
     |some m=>
      simp only[h3,zXa]at h;split at h
      ·rename_i hb;obtain⟨aZ,cR,pP⟩:=hb;injection h with h;subst h;obtain⟨ad,cap,hU,hcap,rD⟩:∃ad cap,u=.slice ad es.length cap/\es.length<=cap/\(ad=none->cap=0):=(by cases ha with|sl0 ht ha=>exact⟨_,_,rfl,Wi _,ha⟩|sl f hl hI hm hv hc ht=>exact⟨_,_,rfl,hc,λh=>(by cases h)⟩);subst hU;obtain⟨mc,vX,vW,vV,lN⟩:∃mc,B5 cap mx=some mc/\n<=mc/\mc<=cap/\(mx.isSome=true->mc=n)/\True:=(by cases mx with|none=>exact⟨cap,rfl,by omega,VM _,λh=>(by simp at h),trivial⟩|some y=>exact⟨m,(Ra _ _ y).trans h3,by omega,by omega,λ_=>pP,trivial⟩);have lN:mx.isSome=true->mc=n:=lN.1;have aC:=run ad es.length cap l n mc (NN (C:=C) (E:=E) (w:=w) (isS:=true) tW r1 r2 r3 h1 h2 vX aZ vW vV);refine⟨_,aC,?_⟩;have hlen:((es.take n).drop l).length=n-l:=(by rw[Wd,Wc];omega);have jB:∀ad',(l=0->ad'=ad)->L6 E (FQ tk l n es.length mx.isSome) ad' (n-l) (mc-l):=by
        intro ad' xM;have ht:L6 E tk ad es.length cap:=(by cases ha<;>assumption);unfold FQ;split;rename_i hs;have:=lN hs;show mc-l=n-l;omega
        ·rename_i hs;have mG:mc=cap:=(by cases mx with | none=>simpa[B5]using vX.symm | some y=>simp at hs);cases tk with
         |no=>trivial
         |ti=>
          simp only[];split;have:cap=es.length:=ht;show mc-l=n-l;omega
          ·trivial
         |own tt=>
          simp only[];split;rename_i cR;obtain⟨b,q1,q2,q3⟩:=ht;refine⟨b,?_,?_,?_⟩;rw[show n-l=es.length from by omega];exact q1;rw[show n-l=es.length from by omega,show mc-l=cap from by omega];exact q2;rw[xM cR.2,q3]
          ·trivial
       have qE:∀x:Addr,x.add (0*Au C.P e)=x:=λx=>(by unfold Addr.add;simp);by_cases rF:n=l
       ·subst rF;have oH:(es.take n).drop n=[]:=We (by rw[hlen];omega);rw[oH,Wu];have dK:=jB (if mc=n then ad else ad.map (·.add (n*Au C.P e))) (λh0=>by
         split
         ·rfl
         ·cases ad with
          |none=>rfl
          |some x=>rw[h0,zXb,qE x])
        rw[Wu]at dK;refine .sl0 dK (λhn=>?_);cases ad with|none=>have:=rD rfl;omega|some x=>split at hn<;>simp at hn
       have hne:mc≠l:=(by omega);rw[zYb hne];cases ha with|sl0 ht ha=>simp at cR;omega|sl f hl hI hm hv hc ht=>rename_i b o s;have hs:s=Au C.P e:=(by have h0:0<es.length:=(by omega);have:=hl 0 _ (VG h0);rw[<-this];exact gL _ (VY h0));subst hs;simp only[zXb,DG];rw[<-hlen];refine .sl (s:=Au C.P e) (λi j=>f (l+i) j) (λi x hx=>?_) (λi j hi hj=>?_) (λi x j c hx cE=>?_) (λi x j c hx cE=>?_) (by rw[hlen];omega) ?_;rw[W5]at hx;have hx':=(JQ hx);exact hl _ _ hx';rw[hlen]at hi;have:=hI (l+i) j (by omega) hj;rw[show o+l*Au C.P e+(i*Au C.P e+j)=o+((l+i)*Au C.P e+j)by rw[WB];omega];exact this;rw[W5]at hx;exact hm _ _ _ _ (JQ hx) cE;rw[W5]at hx;exact hv _ _ _ _ (JQ hx) cE;rw[hlen];exact jB _ (λh0=>by subst h0;simp)
      cases h
 ·rename_i id g off len cap sz' ex;cases h1:B5 0 lo with
  |none=>simp[h1]at h
  |some l=>
   simp only[h1,zXa]at h;cases h2:B5 len hi with
   |none=>simp[h2]at h
   |some n=>
    simp only[h2,zXa]at h;cases h3:B5 cap mx with
    |none=>simp[h3]at h
    |some m=>
     simp only[h3,zXa]at h;split at h
     ·rename_i hb;obtain⟨hsz,hpos,aZ,vR,vX⟩:=hb;injection h with h;subst h;cases ha with
      |ms q1 q2 q3 q4 q5 q6=>rename_i off' cap' b;obtain⟨mc,mG,g1,g2,g3,g4⟩:∃mc,B5 cap' mx=some mc/\n<=mc/\mc<=cap'/\m<=mc/\((ex||mx.isSome)=true->mc=m):=(by cases mx with|none=>simp[B5]at h3;exact⟨cap',rfl,by omega,VM _,by omega,λh=>by have:=q4 (by simpa using h);omega⟩|some y=>exact⟨m,(Ra _ _ y).trans h3,by omega,by omega,VM _,λ_=>rfl⟩);have aC:=run (some ⟨b,off',none⟩) len cap' l n mc (NN (C:=C) (E:=E) (w:=w) (isS:=true) tW r1 r2 r3 h1 h2 mG aZ g1 g2);have xL:(if mc=l then some (⟨b,off',none⟩:Addr)else (some (⟨b,off',none⟩:Addr)).map (·.add (l*Au C.P e)))=some ⟨b,if mc=l then off' else off'+l*Au C.P e,none⟩:=(by split<;>simp[DG]);rw[xL]at aC;refine⟨_,aC,.ms q1 (by omega) (by omega) (λh=>by have:=g4 h;omega) (λhne=>?_) (λhex h0=>?_)⟩;rw[zYb (by omega),q5 (by omega)];have hl0:l=0:=(by rcases XC l with h | h;exact h;have:=Nat.mul_pos h hpos;omega);have wR:ex=false/\mx=none:=(by cases ex<;>cases mx<;>simp at hex⊢);obtain⟨rfl,rfl⟩:=wR;obtain⟨k1,k2⟩:=q6 rfl (by omega);simp[B5]at mG;subst mG;subst hl0;refine⟨by simpa using k1,?_⟩;rw[k2];split<;>omega
     cases h
 cases h

end
section
variable {C:Cfg}{E:Env}{H:Aa}{w:World}
theorem A3.one {x:Ab}{v:Value}(h:A3 E x v)(hs:x.isScal=true):v.oneCell'=true/\v.cells = #[v]:=by cases h<;>first | exact⟨rfl,rfl⟩ | simp[Ab.isScal]at hs
theorem SZ {x:Ab}(h:Cq x=true):x.isScal=true:=by cases x<;>first | rfl | simp[Cq]at h
theorem L5 {x:Ab}{v:Value}{cs:List Ab}(h:A3 E x v)(hc:x.acells=some cs):AB E cs v.cells.toList/\∀c∈cs,c.isScal=true:=by
 unfold Ab.acells at hc;split at hc
 ·rename_i cs';split at hc
  rename_i aD;injection hc with hc;subst hc;obtain⟨vs,rfl,hv⟩:=h.agg_cells;exact⟨hv,by simpa using aD⟩;cases hc
 cases hc;cases hc;cases hc
 ·rename_i h1 h2 h0 h3;injection hc with hc;subst hc;have hs:x.isScal=true:=by cases x<;>first | rfl | exact zYf rfl h2 | exact zYf rfl h0 | exact zYf rfl (h1 _) | exact zYf rfl (h3 _)
  rw[(h.one hs).2];exact⟨.cons h (.nil E),by simpa using hs⟩
theorem Vie {cs:List Ab}{vs:Array Value}{xs:List Ab}{us:Array Value}{o n:Nat}(h:AB E cs vs.toList)(k:AB E xs us.toList)(hn:xs.length=n)(hle:o+n<=cs.length):AB E (D3 cs o n xs) ((us.toList.zipIdx 0).foldl (λcs (x:Value×Nat)=>cs.setIfInBounds (o+x.2) x.1) vs).toList:=by
 obtain⟨h1,h2⟩:=Great.foldl_set o us.toList 0 vs;have e1:cs.length=vs.size:=by simpa using h.1
 have e2:xs.length=us.size:=by simpa using k.1
 revert h1 h2;generalize (us.toList.zipIdx 0).foldl (λcs (x:Value×Nat)=>cs.setIfInBounds (o+x.2) x.1) vs=F;intro h1 h2;have e3:F.toList.length=vs.size:=by simpa using h1
 refine⟨by rw[e3];unfold D3;simp;omega,λi c v hc hv=>?_⟩;rw[Xi,h2 i]at hv;unfold D3 at hc;rw[VP,W7]at hc;split at hc
 rename_i hi;rw[Wc]at hi;rw[zYb (by simp;omega)]at hv;rw[WG (by omega)]at hc;exact h.2 i c v hc (by simpa using hv)
 ·rename_i hi;rw[Wc,WK (by omega)]at hi hc;rw[W7]at hc;split at hc
  rename_i hi2;rw[zYc (by simp;omega)]at hv;exact k.2 _ c v hc (by simpa using hv);rename_i hi2;rw[zYb (by simp;omega)]at hv;rw[W5]at hc;rw[show o+n+(i-o-xs.length)=i from by omega]at hc;exact h.2 i c v hc (by simpa using hv)
theorem Tp {place:Nat->Option (Nat×Nat)}{r:Operand->Ab}{ρ:Operand->Value}(hr:∀x,A3 E (r x) (ρ x)):∀(parts:List (Nat×Operand)) (ps:List (Nat×Nat×Ab)) (cs cs':List Ab) (vs:Array Value),JC place r parts=some ps->Gy cs ps=some cs'->AB E cs vs.toList ->
   ∃vs':Array Value,Instr.fill place vs (parts.map λp=>(p.1,ρ p.2))=some vs'/\AB E cs' vs'.toList
 |[],ps,cs,cs',vs,h1,h2,h3=>by simp only[JC,VT]at h1;subst h1;simp only[Gy,VT]at h2;subst h2;exact⟨vs,rfl,h3⟩
 |p::parts,ps,cs,cs',vs,h1,h2,h3=>by
  simp only[JC]at h1;cases hp:place p.1 with
  |none=>simp[hp]at h1
  |some x=>
   cases hq:JC place r parts with
   |none=>simp[hp,hq]at h1
   |some qs=>
    simp only[hp,hq,zXa,zXb,VT]at h1;subst h1;simp only[Gy]at h2;cases hc:(r p.2).acells with
    |none=>simp[hc]at h2
    |some us=>
     simp only[hc,zXa]at h2;split at h2
     ·rename_i hle;obtain⟨k1,k2⟩:=L5 (hr p.2) hc;have e1:us.length=(ρ p.2).cells.size:=(by simpa using k1.1);have e2:cs.length=vs.size:=(by simpa using h3.1);obtain⟨vs',g1,g2⟩:=Tp hr parts qs _ cs' _ hq h2 (Vie h3 k1 hle.1 hle.2);refine⟨vs',?_,g2⟩;simp only[Xo,Instr.fill,hp];rw[zYb (by simp;omega)];rw[<-g1]
      congr 1
      rw[<-Y6,Array.toList_zipIdx]
     cases h2
theorem JM (z:Value):AB E (z.cells.toList.map Mk) z.cells.toList:=by have:=AB.map (E:=E) z.cells.toList Mk id (λx _=>TU E x);simpa using this
theorem Vjp {t:TypeId}{parts:Array (Nat×Operand)}{r:Operand->Ab}{ρ:Operand->Value}{z:Ab}(hr:∀x,A3 E (r x) (ρ x))(h:((SF C.P t r parts).bind λps=>Az (GY C.P t) ps)=some z):BL E C.P w (Instr.build t (parts.map λp=>(p.1,ρ p.2))) z:=by
 cases hp:SF C.P t r parts with
 |none=>simp[hp]at h
 |some ps=>
  simp only[hp,zXa,Az]at h;cases hi:C.P.info? t with
  |none=>simp[GY,hi]at h
  |some it=>
   cases hz:it.zero with
   |none=>simp[GY,hi,hz]at h
   |some z0=>
    have lS:GY C.P t=some (z0.cells.toList.map Mk):=(by simp[GY,hi,hz]);simp only[lS,zXa]at h;split at h
    ·cases hf:Gy (z0.cells.toList.map Mk) ps with
     |none=>simp[hf]at h
     |some cs'=>
      simp only[hf,zXb,VT]at h;subst h;unfold SF at hp;split at hp
      ·rename_i fs hu;cases bO:fs.toList.mapM (λf=>(C.P.info? f.type).map λi=>(f.offset,i.size))with
       |none=>simp[bO]at hp
       |some places=>simp only[bO,zXa]at hp;obtain⟨vs',g1,g2⟩:=Tp hr parts.toList ps _ cs' z0.cells hp hf (JM z0);refine⟨_,run_build w t _ vs' ?_,.agg_of g2⟩;unfold Program.built;simp only[hi,hu,hz,bO];rw[<-g1];simp
      ·rename_i n e hu;cases wN:C.P.info? e with
       |none=>simp[wN]at hp
       |some ie=>simp only[wN,zXa]at hp;obtain⟨vs',g1,g2⟩:=Tp hr parts.toList ps _ cs' z0.cells hp hf (JM z0);refine⟨_,run_build w t _ vs' ?_,.agg_of g2⟩;unfold Program.built;simp only[hi,hu,hz,wN];rw[<-g1];simp
      cases hp
    cases h

end
def KD {P:Program}(w:World)(src e:TypeId)(hs:P.underlying src=some (.slice e))(he:P.underlying e=some (.int .u8))(ad:Addr)(cap:Nat):∀dst,P.underlying dst=some .string->(convert src dst (.slice (some ad) 0 cap)).run P w=.ok (.string (strOfNums [])) w:=by
 intro dst hd;have hl:(loadCells ad 0).run P w=.ok (([]:List Int).map (Value.int .u8)).toArray w:=run_loadCells_list (P:=P) w ad [] (λj v hj=>by simp at hj);rw[run_convert_bytes_string w src dst e _ 0 cap hs he hd,run_bytesToString w _ 0 cap [] hl,foldl_push_bytes];simp[strOfNums,ByteArray.empty,ByteArray.emptyWithCapacity]
 rfl
theorem Fu {α:Type}{s:Nat}:∀(es:List (List α)) (i j:Nat) (e:List α) (c:α),(∀x∈es,x.length=s)->es[i]? = some e->e[j]? = some c->es.flatten[i*s+j]? = some c
 |[],i,j,e,c,_,h,_=>by simp at h
 |x::es,0,j,e,c,hl,h,hc=>by simp at h;subst h;rw[List.flatten_cons,VN (by have:=(VJ.1 hc).1;omega)];simpa using hc
 |x::es,i+1,j,e,c,hl,h,hc=>by have hx:x.length=s:=hl x (by simp);rw[List.flatten_cons,Wt (by rw[hx,WB];omega),hx];rw[show(i+1)*s+j-s=i*s+j by rw[WB];omega];exact Fu es i j e c (λy hy=>hl y (by simp[hy])) (by simpa using h) hc
theorem Dv {α:Type}{s:Nat}:∀(es:List (List α)),(∀x∈es,x.length=s)->es.flatten.length=es.length*s
 |[],_=>by simp
 |x::es,hl=>by rw[List.flatten_cons,VR,hl x (by simp),Dv es (λy hy=>hl y (by simp[hy])),zXj,WB];omega
section
variable {C:Cfg}{E:Env}{H:Aa}{w:World}
theorem Vc3 {c:Ab}{v:Value}(h:A3 E c v):A3 E (KP c) v:=by
 cases c with
 |sl es tk=>
  cases tk with
  |own t=>cases h with|sl0 ht ha=>exact .sl0 trivial ha|sl f hl hI hm hv hc ht=>exact .sl f hl hI hm hv hc trivial
  |_=>exact h
 |_=>exact h
theorem Vk1 {b:Nat}(hs:Sim E H w)(hb:w.heap.size<=b)(f:Nat->Option Value):E.le (E.setI b f):=by
 refine⟨λ_ _ _ h=>h,λ_ _ _ h=>h,λb' o v h=>?_⟩;have:b'≠b:=λe=>by have:=hs.imm_lt h;omega
 simp[Env.setI,this,h]
theorem Sim.fixed (hs:Sim E H w)(n:Nat)(us:Array Value)(e:TypeId)(fr:Nat×Nat):let w':World:={ (w.alloc (.cells us e fr))with drawn:=n}
  let E':=E.setI w.heap.size (us[·]?)
  Sim E' H w'/\Cf E H w E' H w':=by
 intro w' E';have dA:w'.heap[w.heap.size]? = some (.cells us e fr):=by simp[w',World.alloc,-World.alloc_eq]
 refine hs.ext (Vk1 hs (VM _) _) (λ_ _ _ h=>h) (λ_ _ _ h=>h) (λb hb=>?_) (λb hb=>?_) (λb o v hv hb=>?_) rfl rfl rfl (by simp[w',World.alloc,-World.alloc_eq]);show(w.heap.push _)[b]? = _;rw[Xe,zYb (by omega)]
 ·funext o
  simp[E',Env.setI,show b≠w.heap.size from by omega]
 by_cases e':b=w.heap.size;subst e';rw[Bo dA];simpa[E',Env.setI]using hv;simp only[E',Env.setI,zYb e']at hv;have:=hs.imm_lt hv;omega
theorem Vy {b cap:Nat}{es:List (List Ab)}{tk:Tok}{us:Array Value}{s:Nat}{E':Env}(hle:E.le E')(hE:∀o v,us[o]? = some v->E'.I b o=some v)(hl:∀x∈es,x.length=s)(iD:∀x∈es,∀c∈x,Cq c=true)
  (hv:∀(k:Nat)(c:Ab),es.flatten[k]? = some c->∃u,us[k]? = some u/\A3 E c u)(hc:es.length<=cap)(ht:tk=.no\/(tk=.ti/\cap=es.length)):A3 E' (.sl es tk) (.slice (some ⟨b,0,none⟩) es.length cap):=by
 have key:∀(i j:Nat)(e:List Ab)(c:Ab),es[i]? = some e->e[j]? = some c->∃u,us[i*s+j]? = some u/\A3 E c u:=λi j e c h1 h2=>hv _ _ (Fu es i j e c hl h1 h2);refine .sl (s:=s) (λi j=>(us[i*s+j]?).getD undef) (λi e h=>hl e (Wo h)) (λi j hi hj=>?_) (λi e j c h1 h2=>iD e (Wo h1) c (Wo h2)) (λi e j c h1 h2=>?_) hc ?_;have hx:=hl _ (VY hi);obtain⟨u,h1,_⟩:=key i j es[i] (es[i][j]'(by omega)) (VG hi) (VG (by omega));rw[VK,hE _ _ h1,h1];rfl
 obtain⟨u,h3,h4⟩:=key i j e c h1 h2;rw[h3];exact h4.mono hle
 ·rcases ht with rfl | ⟨rfl,h⟩
  ·trivial
  exact h
theorem Ve5 {sz:Nat}:∀(xs:List Ab)(vs:List Value)(es:List (List Ab)),AB E xs vs->Df sz xs=some es ->
  es.length=xs.length/\(∀x∈es,x.length=sz)/\(∀x∈es,∀c∈x,Cq c=true)/\(∀v∈vs,v.cells.size=sz)/\AB E es.flatten (vs.flatMap λv=>v.cells.toList)
 |[],[],es,hv,h=>by simp only[Df,VT]at h;subst h;exact⟨rfl,by simp,by simp,by simp,.nil E⟩
 |[],_::_,es,hv,h=>by have:=hv.1;simp at this
 |_::_,[],es,hv,h=>by have:=hv.1;simp at this
 |x::xs,v::vs,es,hv,h=>by
  simp only[Df]at h;cases hc:x.acells with
  |none=>simp[hc]at h
  |some cs=>
   simp only[hc,zXa]at h;split at h
   ·rename_i hcs;cases hr:Df sz xs with
    |none=>simp[hr]at h
    |some es'=>simp only[hr,zXb,VT]at h;subst h;obtain⟨h1,h2,h3,h4,h5⟩:=Ve5 xs vs es' hv.tail hr;obtain⟨k1,_⟩:=L5 hv.head hc;have e1:cs.length=v.cells.size:=(by simpa using k1.1);refine⟨by simp[h1],?_,?_,?_,?_⟩;intro y hy;rcases WF.1 hy with rfl | hy;simpa using hcs.1;exact h2 y hy;intro y hy c yZ;rcases WF.1 hy with rfl | hy;exact(Wf.1 hcs.2) c yZ;exact h3 y hy c yZ;intro u hu;rcases WF.1 hu with rfl | hu;omega;exact h4 u hu;rw[List.flatten_cons,List.flatMap_cons];refine AB.append ⟨by simpa using k1.1,λi c u h6 h7=>?_⟩ h5;rw[Wq]at h6;cases iW:cs[i]? with|none=>simp[iW]at h6|some c'=>simp[iW]at h6;subst h6;exact Vc3 (k1.2 i c' u iW h7)
   cases h
theorem VdR (xs:List (Nat×Operand))(n:Nat)(h:xs.map (·.1)=List.range n)(ρ:Operand->Value):xs.map (λp=>(p.1,ρ p.2))=((xs.map λp=>ρ p.2).zipIdx 0).map λx=>(x.2,x.1):=by
 apply Xm;intro i;rw[Wq,Wq,List.getElem?_zipIdx,Wq];cases hx:xs[i]? with
 |none=>simp
 |some p=>
  have hi:i<xs.length:=(VJ.1 hx).1;have:(xs.map (·.1))[i]? = some p.1:=by rw[Wq,hx];rfl
  rw[h,Xy (by have:=zYg List.length h;simp at this;omega)]at this;simp at this;simp[this]
theorem Ux {t e:TypeId}{d:TypeDesc}{len:Nat}{parts:Array (Nat×Operand)}{r:Operand->Ab}{ρ:Operand->Value}{z:Ab}(hu:C.P.underlying t=some (.slice e))(hd:C.P.underlying e=some d)(hz:(C.P.info? e).bind (·.zero)≠none)(jA:∀zz,(C.P.info? e).bind (·.zero)=some zz->zz.cells.size=Au C.P e)(hs:Sim E H w)(hr:∀x,A3 E (r x) (ρ x))(hp:parts.toList.map (·.1)=List.range len)(hpos:0<Au C.P e)(gY:len*Au C.P e<=16777216)
  (h:AK (Au C.P e) (parts.toList.map λp=>r p.2)=some z):∃v w' E',(Instr.buildSlice t len (parts.map λp=>(p.1,ρ p.2))).run C.P w=.ok v w'/\A3 E' z v/\Sim E' H w'/\Cf E H w E' H w':=by
 unfold AK at h;cases mA:Df (Au C.P e) (parts.toList.map λp=>r p.2)with
 |none=>simp[mA]at h
 |some es=>
  simp only[mA,zXb,VT]at h;subst h;have hvr:AB E (parts.toList.map λp=>r p.2) (parts.toList.map λp=>ρ p.2):=AB.map _ _ _ (λx _=>hr x.2);obtain⟨h1,h2,h3,h4,h5⟩:=Ve5 _ _ es hvr mA;have hlen:es.length=len:=by have:=zYg List.length hp;simp at this h1;omega
  obtain⟨i,hi,hsz⟩:=Gn hd;have fin:∀us:Array Value,us=((parts.toList.map λp=>ρ p.2).flatMap λv=>v.cells.toList).toArray ->
    (Instr.buildSlice t len (parts.map λp=>(p.1,ρ p.2))).run C.P w=.ok (.slice (some ⟨w.heap.size,0,none⟩) len len) (w.alloc (.cells us e)) ->
    ∃v w' E',(Instr.buildSlice t len (parts.map λp=>(p.1,ρ p.2))).run C.P w=.ok v w'/\A3 E' (.sl es .ti) v/\Sim E' H w'/\Cf E H w E' H w':=by
   intro us iP aC;obtain⟨k1,k2⟩:=hs.fixed w.drawn us e (0,0);refine⟨_,_,_,aC,?_,k1,k2⟩;have:=Vy (E:=E) (b:=w.heap.size) (cap:=len) (tk:=.ti) (us:=us) k2.le (λo v ho=>by simp[Env.setI,ho]) h2 h3 (λk c hk=>?_) (by omega) (.inr ⟨rfl,hlen.symm⟩);rw[hlen]at this;exact this;obtain⟨u,g1,g2⟩:=h5.get hk;exact⟨u,by rw[iP];simpa using g1,g2⟩
  cases hzz:i.zero with
  |none=>simp[hi,hzz]at hz
  |some zz=>
   have iZ:=jA zz (by simp[hi,hzz]);by_cases h0:len=0;subst h0;have oH:parts.toList=[]:=(by have:=zYg List.length hp;simp at this;simpa using this);have qY:parts = #[]:=(by cases parts;simp_all);refine fin #[] (by simp[oH]) ?_;subst qY;have hr0:Array.range 0 = #[]:=(by apply Yu;simp);simp[Instr.buildSlice,run_underlying hu,sizeOf,typeInfo,hi,Instr.fill,newRow,hr0]
   ·refine fin _ rfl (run_buildSlice w t e len _ _ i zz hu hi hzz ?_ ?_ ?_);rw[hsz];omega;rw[hsz];intro hm;rcases Nat.mul_eq_zero.1 hm with h | h<;>omega
    rw[hsz,XR,VdR _ _ hp];refine Great.fill_whole hpos _ _ h4 ?_;have:=zYg List.length hp;simp at this;simp[this]
theorem QY {b o:Nat}(hs:Sim E H w):∀(es:List (List Ab)) (l:zAa),I9 es=some l->∃xs:List Int,es=xs.map (λn=>[Ab.int .u8 n])/\l=xs.map λn=>UInt8.ofNat n.toNat
 |[],l,h=>by simp only[I9,VT]at h;subst h;exact⟨[],rfl,rfl⟩
 |e::es,l,h=>by
  unfold I9 at h;split at h
  rename_i h1;cases h1
  ·rename_i n r h1;cases h1;cases hr:I9 es with
   |none=>simp[hr]at h
   |some l'=>simp only[hr,zXb,VT]at h;subst h;obtain⟨xs,rfl,rfl⟩:=QY (b:=b) (o:=o) hs es l' hr;exact⟨n::xs,rfl,rfl⟩
  cases h
theorem Kw:∀(es:List Ab)(l:zAa),Dd es=some l->∃xs:List Int,es=xs.map (λn=>Ab.int .u8 n)/\l=xs.map λn=>UInt8.ofNat n.toNat
 |[],l,h=>by simp only[Dd,VT]at h;subst h;exact⟨[],rfl,rfl⟩
 |e::es,l,h=>by
  unfold Dd at h;split at h
  rename_i h1;cases h1
  ·rename_i n r h1;cases h1;cases hr:Dd es with
   |none=>simp[hr]at h
   |some l'=>simp only[hr,zXb,VT]at h;subst h;obtain⟨xs,rfl,rfl⟩:=Kw es l' hr;exact⟨n::xs,rfl,rfl⟩
  cases h
theorem Vhx {src dst e:TypeId}(h1:C.P.underlying src=some (.slice e))(h2:C.P.underlying e=some (.int .u8))(h3:C.P.underlying dst=some .string)(hs:Sim E H w){x z:Ab}{v:Value}(hx:A3 E x v)(h:CR x H=some z):BL E C.P w (convert src dst v) z:=by
 unfold CR at h;split at h
 ·rename_i es tk;cases hb:I9 es with
  |none=>simp[hb]at h
  |some l=>
   simp only[hb,zXb,VT]at h;subst h;obtain⟨xs,rfl,rfl⟩:=QY (b:=0) (o:=0) hs es l hb;have e0:strOfNums xs=⟨(xs.map λn=>UInt8.ofNat n.toNat).toArray⟩:=rfl;generalize hes:xs.map (λn=>[Ab.int .u8 n])=es at hx;cases hx with
   |sl0 ht ha=>rename_i a cap;have pI:xs=[]:=(by simpa using hes);subst pI;cases a with|none=>exact⟨_,run_convert_bytes_nil w src e h1 h2 _ _ dst h3,.str _⟩|some ad=>exact⟨_,KD w src e h1 h2 ad cap dst h3,.str _⟩
   |sl f hl hI hm hv hc ht=>rename_i b o s cap;have hlen:es.length=xs.length:=(by rw[<-hes];simp);refine⟨_,run_convert_bytes_arg w src e h1 h2 b o es.length cap xs hlen.symm (λi hi=>?_) dst h3,.str _⟩;have aI:i<xs.length:=(by omega);have yX:es[i]? = some [Ab.int .u8 xs[i]]:=(by rw[<-hes,Wq,VG aI];rfl);have hs1:s=1:=(by rw[<-hl _ _ yX];rfl);subst hs1;have cE:=hs.imm _ _ _ (hI i 0 hi (by omega));have aQ:=(hv i _ 0 _ yX rfl).int_inv;rw[aQ]at cE;simp only[Wa,Nat.add_zero]at cE;rw[cE];simp[List.getD,VG aI]
 ·rename_i id g off len cap sz ex;split at h
  ·cases hg:AD H id g with
   |none=>simp[hg]at h
   |some cs=>
    simp only[hg,zXa]at h;split at h
    ·rename_i hle;cases hb:Dd ((cs.drop off).take len)with
     |none=>simp[hb]at h
     |some l=>
      simp only[hb,zXb,VT]at h;subst h;obtain⟨xs,pI,rfl⟩:=Kw _ l hb;obtain⟨_,b,vs,t,q1,q2,q3,_⟩:=GH hs hg;have hlen:xs.length=len:=(by have:=zYg List.length pI;simp at this;omega);cases hx with
      |ms p1 p2 p3 p4 p5 p6=>
       rename_i off' cap' b';rw[q1]at p1;cases p1;refine⟨_,run_convert_bytes_arg w src e h1 h2 b off' len cap' xs hlen (λi hi=>?_) dst h3,.str _⟩;rw[p5 (by omega)];have aI:i<xs.length:=(by omega);have iW:cs[off+i]? = some (.int .u8 xs[i]):=by
        have:((cs.drop off).take len)[i]? = some (.int .u8 xs[i]):=(by rw[pI,Wq,VG aI];rfl);have:=JQ this
        rwa [W5]at this
       obtain⟨u,r1,r2⟩:=q3.get iW;rw[Bo q2];rw[r2.int_inv]at r1;have r1:=IE r1;simpa[List.getD,VG aI]using r1
    cases h
  cases h
 cases h

end
def CG {P:Program}{t:TypeId}(h:okT P t=true):(∃d,P.underlying t=some d)/\Au P t≠0/\(P.info? t).bind (·.zero)≠none/\(∀z,(P.info? t).bind (·.zero)=some z->z.cells.size=Au P t)/\∃i z,P.info? t=some i/\i.zero=some z/\i.size=Au P t:=by
 unfold okT at h;simp only[VV]at h;obtain⟨h1,h2⟩:=h;cases hi:P.info? t with
 |none=>simp[hi]at h2
 |some i=>rw[hi]at h2;cases hz:i.zero with|none=>simp[hz]at h2|some z=>simp only[hz,VV,bne_iff_ne,beq_iff_eq]at h2;exact⟨Option.isSome_iff_exists.1 h1,by simp[Au,hi];exact h2.1,by simp[hz],λz' uH=>by simp[hz]at uH;subst uH;simp[Au,hi,h2.2],i,z,rfl,hz,by simp[Au,hi]⟩
structure Vo7 (C:Cfg):Prop where
 look:∀(t kt e:TypeId)(ok:Bool)(E:Env)(H:Aa)(w:World)(m k z:Ab)(u v:Value),C.P.underlying t=some (.map kt e)->C.key kt=true->Sim E H w->A3 E m u->A3 E k v->FA (BX C.P kt) (Au C.P kt) (Uz C.P e) ok m k H=some z->BL E C.P w (Instr.lookup t u v ok) z
 upd:∀(t kt e:TypeId)(E:Env)(H H':Aa)(w:World)(m k x:Ab)(u v y:Value),C.P.underlying t=some (.map kt e)->C.key kt=true->Sim E H w->A3 E m u->A3 E k v->A3 E x y->Ev (BX C.P kt) (Au C.P kt) m k x H=some H' ->
  ∃w',(Instr.mapUpdate t u v y).run C.P w=.ok () w'/\Sim E H' w'/\Cf E H w E H' w'
section
variable {C:Cfg}{E:Env}{H:Aa}{w:World}
def SOk (E:Env)(H:Aa)(P:Program)(w:World)(s:Sem Value)(x:Ab):Prop:=∃v w' E',s.run P w=.ok v w'/\A3 E' x v/\Sim E' H w'/\Cf E H w E' H w'
theorem BL.sok {P:Program}{s:Sem Value}{x:Ab}(hs:Sim E H w)(h:BL E P w s x):SOk E H P w s x:=by obtain⟨v,h1,h2⟩:=h;exact⟨v,w,E,h1,h2,hs,.refl _ _ _⟩
theorem SOk.rok {P:Program}{s:Sem Value}{x:Ab}(h:SOk E H P w s x):ROk E H P w (do pure (.value (<-s))) x:=by obtain⟨v,w',E',h1,h2,h3,h4⟩:=h;exact⟨v,w',E',by simp[h1,Result.andThen],h2,h3,h4⟩
theorem Vde {src dst e:TypeId}(h1:C.P.underlying src=some .string)(h2:C.P.underlying dst=some (.slice e))(h3:C.P.underlying e=some (.int .u8))(hs:Sim E H w){x z:Ab}{v:Value}(hx:A3 E x v)(h:MR x=some z):SOk E H C.P w (convert src dst v) z:=by
 unfold MR at h;split at h
 ·rename_i s;injection h with h;subst h;rw[hx.str_inv];have aC:=run_bytes_of_string (P:=C.P) w src dst e ⟨s.toArray⟩ h1 h2 h3;obtain⟨us,iP⟩:∃us,us=bytesRow ⟨s.toArray⟩ (grownCap w (⟨s.toArray⟩:ByteArray).size 0 e):=⟨_,rfl⟩;rw[<-iP]at aC;have hcap:s.length<=grownCap w (⟨s.toArray⟩:ByteArray).size 0 e:=by have:=grownCap_ge w (⟨s.toArray⟩:ByteArray).size 0 e;rw[KA]at this⊢;exact this
  obtain⟨k1,k2⟩:=hs.fixed (w.drawn+1) us e (us.size,us.size+1);refine⟨_,_,_,aC,?_,k1,k2⟩;have:=Vy (E:=E) (b:=w.heap.size) (cap:=grownCap w (⟨s.toArray⟩:ByteArray).size 0 e) (tk:=.no) (us:=us) (s:=1) (es:=s.map λb=>[Ab.int .u8 b.toNat]) k2.le (λo v ho=>by simp[Env.setI,ho]) (by simp) (by simp[Cq]) (λk c hk=>?_) (by simpa using hcap) (.inl rfl);rw[WP]at this;rw[KA]at this⊢;exact this
  ·have dI:(s.map λb=>[Ab.int .u8 (b.toNat:Int)]).flatten=s.map λb=>Ab.int .u8 (b.toNat:Int):=by
    clear hk aC iP hcap hx k1 k2
    induction s with
    |nil=>rfl
    |cons b s ih=>simp only[Xo,List.flatten_cons,List.singleton_append,ih]
   rw[dI,Wq]at hk;cases hk':s[k]? with|none=>simp[hk']at hk|some b=>simp only[hk',zXb,VT]at hk;subst hk;have hlt:k<s.length:=(VJ.1 hk').1;refine⟨.int .u8 b.toNat,?_,.int _ _⟩;rw[iP,bytesRow,Array.getElem?_append_left (by simpa using hlt)];simp[hk']
 cases h
theorem VlV {src dst:TypeId}(hs:Sim E H w){x z:Ab}{v:Value}(hx:A3 E x v)(h:Vjg C.P src dst x H=some z):SOk E H C.P w (convert src dst v) z:=by
 unfold Vjg at h;split at h
 ·rename_i k1 k2 h1 h2;unfold A5 at h;split at h
  injection h with h;subst h;rw[hx.int_inv];exact BL.sok hs ⟨_,by simp[convert,zXf,run_underlying h1,run_underlying h2,zXg,Conv.intToInt],.int _ _⟩;cases h
 ·rename_i h1 h2;unfold VcL at h;split at h
  injection h with h;subst h;rw[hx.str_inv];exact BL.sok hs ⟨_,by simp[convert,zXf,run_underlying h1,run_underlying h2,zXg],.str _⟩;cases h
 ·rename_i k1 h1 h2;unfold VcM at h;split at h
  injection h with h;subst h;rw[hx.int_inv];exact BL.sok hs ⟨_,by simp[convert,zXf,run_underlying h1,run_underlying h2,zXg,Conv.intToString],.of_toList _ _⟩;cases h
 ·rename_i e h1 h2;split at h
  ·rename_i he;have dU:C.P.underlying e=some (.int .u8):=(by unfold VoM at he;split at he<;>first | assumption | cases he);exact Vde h1 h2 dU hs hx h
  cases h
 ·rename_i e h1 h2;split at h
  ·rename_i he;have dU:C.P.underlying e=some (.int .u8):=(by unfold VoM at he;split at he<;>first | assumption | cases he);exact(Vhx h1 dU h2 hs hx h).sok hs
  cases h
 cases h

end
section
variable {C:Cfg}{E:Env}{H:Aa}{w:World}
theorem Vli {r:Operand->Ab}{ρ:Operand->Value}(hr:∀x,A3 E (r x) (ρ x))(o:Option Operand):Vkm E (o.map r) (o.map ρ):=by cases o with|none=>exact .inl ⟨rfl,rfl⟩|some x=>exact .inr ⟨_,_,rfl,rfl,hr x⟩
theorem DO {ρ:Operand->Value}{o:Oper}{c:Call}{b:Builtin}(ho:o.op=.call c)(hb:c.callee=.builtin b):execOp ρ o=builtin b c.argTypes o.type (c.args.map fun | .const _=>true | _=>false) (c.args.map ρ):=by
 unfold execOp;rw[ho];simp only[resolve,hb,pure_bind,invoke]
 rfl
theorem VmF {α:Type}{a:Array α}{x:α}(h:a.toList=[x]):a = #[x]:=by cases a;simp_all
theorem Vqp {α:Type}{a:Array α}{x y:α}(h:a.toList=[x,y]):a = #[x,y]:=by cases a;simp_all
theorem K8 {P:Program}{s:Sem Value}{v:Value}{w w':World}(h:s.run P w=.ok v w'):(do pure (Next.value (<-s)):Sem Next).run P w=.ok (.value v) w':=by simp[h,Result.andThen]
set_option maxHeartbeats 1000000 in
theorem VbF (hC:Vqc C)(hM:Vo7 C)(hs:Sim E H w){r:Operand->Ab}{ρ:Operand->Value}(hr:∀x,A3 E (r x) (ρ x))(hc:∀v,ρ (.const v)=v){o:Oper}{z:Ab}(h:BR C o.op r H=some z):ROk E H C.P w (execOp ρ o) z:=by
 cases aF:o.op with
 |move x=>simp only[aF,BR,VT]at h;subst h;exact⟨ρ x,w,E,by simp only[execOp,aF];rfl,hr x,hs,.refl _ _ _⟩
 |assign x=>simp only[aF,BR,VT]at h;subst h;exact⟨ρ x,w,E,by simp only[execOp,aF];rfl,hr x,hs,.refl _ _ _⟩
 |pick c a b=>simp only[aF,BR]at h;obtain⟨v,h1,h2⟩:=VlW (C:=C) (w:=w) (hr c) (hr a) (hr b) h;refine⟨v,w,E,?_,h2,hs,.refl _ _ _⟩;simp only[execOp,aF];simp only[zXf]at h1⊢;cases ha:(asBool (ρ c)).run C.P w with|ok b' w1=>rw[ha]at h1;simp only[zXg,Sem.run_pure,Result.ok.injEq]at h1⊢;rw[h1.1,h1.2];exact⟨rfl,rfl⟩|halt x w1=>rw[ha]at h1;simp[Result.andThen]at h1
 |load t x=>
  simp only[aF,BR]at h;split at h
  cases h;rename_i hk;obtain⟨⟨d,hd⟩,_⟩:=CG (P:=C.P) (t:=t) (by simpa using hk);have:=((VfH hd hs (hr x) h).sok hs).rok;simpa only[execOp,aF]using this
 |binOp op t x y yt=>
  simp only[aF,BR]at h;split at h
  ·rename_i hn;have hy:ρ y=.slice none 0 0:=by
    have h0:VfS y=true:=(by unfold VoK at hn;simp only[VV]at hn;exact hn.1);unfold VfS at h0;split at h0
    exact hc _;cases h0
   have:=((Vn4 (x:=x) (y:=y) (w:=w) hn (hr x) h).sok hs).rok;rw[<-hy]at this;simpa only[execOp,aF]using this
  have:=((Vow (x:=x) (y:=y) hC hs (hr x) (hr y) h).sok hs).rok;simpa only[execOp,aF]using this
 |unOp op t x=>simp only[aF,BR]at h;have:=((Vpd (C:=C) (w:=w) (hr x) h).sok hs).rok;simpa only[execOp,aF]using this
 |convert src dst x=>simp only[aF,BR]at h;have:=(VlV hs (hr x) h).rok;simpa only[execOp,aF]using this
 |makeInterface t x=>
  simp only[aF,BR]at h;split at h
  cases h;rename_i d hne hd;have:=((ViG (C:=C) (w:=w) hd (λm hm=>hne m hm) (hr x) h).sok hs).rok;simpa only[execOp,aF]using this;cases h
 |makeFunc fn first caps=>
  simp only[aF,BR]at h;split at h
  ·rename_i f;split at h
   ·rename_i hf;injection h with h;subst h;obtain rfl:first = #[]:=by simpa using hf
    refine⟨.func (.func f) #[] (caps.map ρ),w,E,by simp[execOp,aF,Instr.makeFunc],.fn (by simp) (λi c v h1 h2=>?_),hs,.refl _ _ _⟩;rw[Wq]at h1;rw[Array.getElem?_map]at h2;rw[Xi]at h1;cases hc:caps[i]? with|none=>simp[hc]at h1|some y=>simp[hc]at h1 h2;subst h1;subst h2;exact hr y
   ·split at h
    ·rename_i hf;injection h with h;subst h;obtain rfl:caps = #[]:=(by simpa using hf);refine⟨.func (.func f) (first.map ρ) #[],w,E,by simp[execOp,aF,Instr.makeFunc],.bfn (by simp) (λi c v h1 h2=>?_),hs,.refl _ _ _⟩;rw[Wq]at h1;rw[Array.getElem?_map]at h2;rw[Xi]at h1;cases hc:first[i]? with|none=>simp[hc]at h1|some y=>simp[hc]at h1 h2;subst h1;subst h2;exact hr y
    cases h
  cases h
 |slice t x lo hi mx=>
  simp only[aF,BR]at h;have key:SOk E H C.P w (Instr.sliceAt t (ρ x) (lo.map ρ) (hi.map ρ) (mx.map ρ)) z:=by
   split at h
   ·rename_i hu;split at h
    cases h;rename_i lN;cases mx with|some y=>simp at lN|none=>exact(VaA hu (hr x) (Vli hr lo) (Vli hr hi) h).sok hs
   ·rename_i e hu;split at h
    cases h
    ·rename_i hk;have hk':okT C.P e=true:=by
      cases hq:okT C.P e;exact zYf (.inl (by simp[hq])) hk
      ·rfl
     obtain⟨⟨d,hd⟩,_⟩:=CG hk';refine(Vdm hu hd (hr x) (λhm=>?_) (Vli hr lo) (Vli hr hi) (Vli hr mx) h).sok hs;intro hh;cases hi with
     |some y=>simp at hh
     |none=>cases mx with|none=>simp at hm|some y=>exact hk (.inr ⟨rfl,rfl⟩)
   ·rename_i n e hu;split at h
    cases h
    ·rename_i hk;have hk':okT C.P e=true:=by
      cases hq:okT C.P e;exact zYf (.inr (by simp[hq])) hk
      ·rfl
     obtain⟨⟨d,hd⟩,_⟩:=CG hk';cases mx with|some y=>exact zYf (.inl rfl) hk|none=>exact(VaB hu hd (hr x) (Vli hr lo) (Vli hr hi) h).sok hs
   cases h
  have:=key.rok;simpa only[execOp,aF]using this
 |fieldAddr s x f=>
  simp only[aF,BR]at h;unfold Py at h;split at h
  ·rename_i fd kP;split at h
   cases h
   ·rename_i hk;obtain⟨_,hz,_⟩:=CG (P:=C.P) (t:=fd.type) (by simpa using hk);split at kP
    rename_i fs hu;have:=((Vat (C:=C) (w:=w) hu kP hz (hr x) h).sok hs).rok;simpa only[execOp,aF]using this;simp at kP
  cases h
 |field s x f=>
  simp only[aF,BR]at h;unfold Py at h;split at h
  ·rename_i fd kP;split at h
   cases h
   ·rename_i hk;obtain⟨⟨d,hd⟩,_⟩:=CG (P:=C.P) (t:=fd.type) (by simpa using hk);split at kP
    rename_i fs hu;have:=((ViR (C:=C) (w:=w) hu kP hd (hr x) h).sok hs).rok;simpa only[execOp,aF]using this;simp at kP
  cases h
 |indexAddr t x i=>
  simp only[aF,BR]at h;split at h
  ·rename_i e hu;split at h
   cases h;rename_i hk;obtain⟨⟨d,hd⟩,_⟩:=CG (P:=C.P) (t:=e) (by simpa using hk);have:=((ViH (C:=C) (w:=w) hu hd (hr x) (hr i) h).sok hs).rok;simpa only[execOp,aF]using this
  ·rename_i n e hu;split at h
   cases h;rename_i hk;obtain⟨⟨d,hd⟩,_⟩:=CG (P:=C.P) (t:=e) (by simpa using hk);have:=((Vga (C:=C) (w:=w) hu hd (hr x) (hr i) h).sok hs).rok;simpa only[execOp,aF]using this
  cases h
 |index t x i=>
  simp only[aF,BR]at h;split at h
  rename_i hu;have:=((VfZ (C:=C) (w:=w) hu (hr x) (hr i) h).sok hs).rok;simpa only[execOp,aF]using this
  ·rename_i n e hu;split at h
   cases h;rename_i hk;obtain⟨⟨d,hd⟩,_⟩:=CG (P:=C.P) (t:=e) (by simpa using hk);have:=((Vgb (C:=C) (w:=w) hu hd (hr x) (hr i) h).sok hs).rok;simpa only[execOp,aF]using this
  cases h
 |extract x i=>simp only[aF,BR]at h;have:=((VdD (C:=C) (w:=w) (hr x) h).sok hs).rok;simpa only[execOp,aF]using this
 |nilCheck x=>simp only[aF,BR]at h;obtain⟨v,h1,h2⟩:=VaT (C:=C) (w:=w) aF (hr x) h;exact⟨v,w,E,h1,h2,hs,.refl _ _ _⟩
 |typeAssert x xt t ok=>
  simp only[aF,BR]at h;split at h
  cases h;rename_i d hne hd;have:=((Vha (C:=C) (w:=w) (xt:=xt) hd (λm hm=>hne m hm) (hr x) h).sok hs).rok;simpa only[execOp,aF]using this;cases h
 |lookup t m k ok=>
  simp only[aF,BR]at h;split at h
  ·rename_i kt e hu;split at h
   rename_i hk;have:=((hM.look t kt e ok E H w _ _ z _ _ hu hk hs (hr m) (hr k) h).sok hs).rok;simpa only[execOp,aF]using this;cases h
  cases h
 |build t parts=>simp only[aF,BR]at h;have:=((Vjp (C:=C) (w:=w) hr h).sok hs).rok;simpa only[execOp,aF]using this
 |buildSlice t len parts=>
  simp only[aF,BR]at h;split at h
  ·rename_i e hu;split at h
   rename_i hk;obtain⟨hk1,hk2,hk3⟩:=hk;obtain⟨⟨d,hd⟩,hz,mS,jA,_⟩:=CG hk1;have:=(SOk.rok (Ux (C:=C) (w:=w) hu hd mS jA hs hr hk2 (by omega) hk3 h));simpa only[execOp,aF]using this;cases h
  cases h
 |call c=>
  simp only[aF,BR]at h;split at h
  ·rename_i x t hb ha ht;have lE:=VmF ha;have dK:=VmF ht;have key:SOk E H C.P w (Builtin.len_ #[t] o.type #[ρ x]) z:=by
    split at h
    rename_i hu;exact(VfL hu (hr x) h).sok hs;rename_i e hu;exact(Vi8 hu (hr x) h).sok hs;rename_i n e hu;exact(VfM (E:=E) hu h).sok hs;cases h
   rw[DO aF hb,lE,dK,show(#[x]:Array Operand).map ρ = #[ρ x] from by simp];exact key.rok
  ·rename_i x t hb ha ht;have lE:=VmF ha;have dK:=VmF ht;split at h
   rename_i e hu;rw[DO aF hb,lE,dK,show(#[x]:Array Operand).map ρ = #[ρ x] from by simp];exact((Vop hu (hr x) h).sok hs).rok;cases h
  rename_i _ x xs hb ha;rw[DO aF hb];have:=Vbg (C:=C) (E:=E) (w:=w) (f:=Jw) (g:=Builtin.max2) (λh1 h2 h3=>Vlu h1 h2 h3) (xs.map r) (xs.map ρ) (r x) z (ρ x) (hr x) (AB.map _ _ _ (λy _=>hr y)) h;have key:BL E C.P w (Builtin.max_ c.argTypes o.type (c.args.map ρ)) z:=(by unfold Builtin.max_;rw[XR,ha];exact this);exact(key.sok hs).rok;rename_i _ x xs hb ha;rw[DO aF hb];have:=Vbg (C:=C) (E:=E) (w:=w) (f:=SO) (g:=Builtin.min2) (λh1 h2 h3=>Vlt h1 h2 h3) (xs.map r) (xs.map ρ) (r x) z (ρ x) (hr x) (AB.map _ _ _ (λy _=>hr y)) h;have key:BL E C.P w (Builtin.min_ c.argTypes o.type (c.args.map ρ)) z:=(by unfold Builtin.min_;rw[XR,ha];exact this);exact(key.sok hs).rok;cases h
 |_=>simp[aF,BR]at h

end
def RX {n:Int}(h0:0<=n)(h:n<=140737488355328):I_.wrap n=n:=by have h1:I_.bits=64:=rfl;have h2:I_.signed=true:=rfl;unfold IntKind.wrap;simp only[h1,h2,zXn,zXe];have:n%2^64=n:=Int.emod_eq_of_lt h0 (by omega);simp only[this];rw[zYb (by omega)]
def Mu {P:Program}{t:TypeId}{i:TypeInfo}{z:Value}(hi:P.info? t=some i)(hz:i.zero=some z)(w:World):(zeroValue t).run P w=.ok z w:=by simp[zeroValue,typeInfo,hi,hz,program,zXf,Sem.run,Result.andThen]
section
variable {C:Cfg}{E:Env}{H:Aa}{w:World}
structure PL (E:Env)(H:Aa)(w:World)(b:Nat)(B:Blk):Prop where
 lt:b<w.heap.size
 free:¬Nu E H b
 imm:∀o,E.I b o=none
 rel:(∃cells cs t,B=.c0 cells/\w.heap[b]? = some (.cells cs t (0,0))/\AB E cells cs.toList)\/(B=.map []/\∃clock,w.heap[b]? = some (.map #[] clock))\/(∃cells cs t,B=.typ t cells/\w.heap[b]? = some (.cells cs t (0,0))/\AB E cells cs.toList)
theorem PL.take {E0:Env}{H0:Aa}{w0:World}(hs:Sim E H w)(st:Cf E0 H0 w0 E H w){b:Nat}{B:Blk}(h:PL E H w b B)(hb:w0.heap.size<=b):Sim (E.setφ H.length 0 b) (H++[B]) w/\Cf E0 H0 w0 (E.setφ H.length 0 b) (H++[B]) w:=by
 have bT:∀g x,E.φ H.length g=some x->False:=λg x hx=>by have:=hs.dom _ _ _ hx;omega
 have Zp:∀g x,E.κ H.length g=some x->False:=λg x hx=>by have:=hs.domk _ _ _ hx;omega
 have hle:E.le (E.setφ H.length 0 b):=by refine⟨λi g x hx=>?_,λ_ _ _ h=>h,λ_ _ _ h=>h⟩;have:¬(i=H.length/\g=0):=λ⟨e1,e2⟩=>bT g x (e1 ▸ hx);simp[Env.setφ,this,hx]
 have dX:CE (E.setφ H.length 0 b) H.length B=some b:=by rcases h.rel with ⟨cells,cs,t,rfl,_⟩ | ⟨rfl,_⟩ | ⟨cells,cs,t,rfl,_⟩ <;> simp[CE,Env.setφ]
 have lC:Gt (E.setφ H.length 0 b) w H.length B:=by rcases h.rel with ⟨cells,cs,t,rfl,h1,h2⟩ | ⟨rfl,ck,h1⟩ | ⟨cells,cs,t,rfl,h1,h2⟩;exact⟨b,cs,t,by simp[Env.setφ],h1,h2.mono hle,h.imm⟩;exact⟨b,#[],ck,by simp[Env.setφ],h1,rfl,λi k v hi=>by simp at hi⟩;exact⟨b,cs,by simp[Env.setφ],h1,h2.mono hle,h.imm⟩
 have aH:(H++[Blk.dead]).set H.length B=H++[B]:=by simp
 have keep:∀i Bi,H[i]? = some Bi->Gt (E.setφ H.length 0 b) w i Bi/\∀x,CE (E.setφ H.length 0 b) i Bi=some x↔CE E i Bi=some x:=
  λi Bi hi=>(hs.blk i Bi hi).keep hle (λ_ _=>rfl) (λ_ _=>rfl)
 have locs:∀i x,loc (E.setφ H.length 0 b) (H++[B]) i=some x->(i=H.length/\x=b)\/(i<H.length/\loc E H i=some x):=by
  intro i x hl;unfold loc at hl;rw[W7]at hl;split at hl
  rename_i hi;refine .inr ⟨hi,?_⟩;unfold loc;rw[VG hi]at hl⊢;simp only[zXa]at hl⊢;exact((keep i _ (VG hi)).2 x).1 hl;rename_i hi;cases hx:i-H.length with|succ n=>simp[hx]at hl|zero=>have:i=H.length:=(by omega);subst this;rw[hx]at hl;simp only[zXh,zXa]at hl;rw[dX]at hl;cases hl;exact .inl ⟨rfl,rfl⟩
 have geth:∀i Bi,(H++[B])[i]? = some Bi->(i<H.length/\H[i]? = some Bi)\/(i=H.length/\Bi=B):=by
  intro i Bi hi;rw[W7]at hi;split at hi
  rename_i hlt;exact .inl ⟨hlt,hi⟩;rename_i hlt;cases hx:i-H.length with|succ n=>simp[hx]at hi|zero=>rw[hx]at hi;simp at hi;exact .inr ⟨by omega,hi.symm⟩
 constructor
 ·refine⟨λi Bi hi=>?_,λi g x hx=>?_,λi g x hx=>?_,λi Bi n hi hn g hg=>?_,λi i' x h1 h2=>?_,λb' o v hv=>hs.imm b' o v hv,λb' cs' hf=>?_⟩;rcases geth i Bi hi with ⟨_,aE⟩ | ⟨rfl,rfl⟩;exact(keep i Bi aE).1;exact lC;simp only[VR,zXi];by_cases e:i=H.length;omega;simp only[Env.setφ,e,false_and,zYe]at hx;have:=hs.dom i g x hx;omega;simp only[VR,zXi];have:=hs.domk i g x hx;omega;rcases geth i _ hi with ⟨hlt,aE⟩ | ⟨rfl,hB⟩;obtain⟨h1,h2⟩:=hs.late i Bi n aE hn g hg;exact⟨by simp[Env.setφ,show i≠H.length from by omega,h1],h2⟩;subst hB;rcases h.rel with ⟨cells,cs,t,rfl,_⟩ | ⟨rfl,_⟩ | ⟨cells,cs,t,rfl,_⟩ <;> cases hn
  ·rcases locs i x h1 with ⟨e1,e2⟩ | ⟨e1,e2⟩ <;> rcases locs i' x h2 with ⟨e3,e4⟩ | ⟨e3,e4⟩
   omega;subst e2;exact zYf ⟨i',e4⟩ h.free;subst e4;exact zYf ⟨i,e2⟩ h.free;exact hs.inj i i' x e2 e4
  obtain⟨⟨t',fr',f1⟩,⟨v',f2⟩,f3⟩:=hs.fix b' cs' hf;refine⟨⟨t',fr',f1⟩,⟨v',f2⟩,λi hi=>?_⟩;rcases locs i b' hi with ⟨_,e⟩ | ⟨_,e⟩;subst e;rcases h.rel with ⟨cells,cs,t,_,h1,_⟩ | ⟨_,ck,h1⟩ | ⟨cells,cs,t,_,h1,_⟩;rw[h.imm 0]at f2;cases f2;rw[h1]at f1;cases f1;rw[h.imm 0]at f2;cases f2;exact f3 i e
 refine⟨st.le.trans hle,st.os,st.tape,st.output,st.size,st.frame,λx ⟨i,hi⟩=>?_,st.imm⟩;rcases locs i x hi with ⟨_,rfl⟩ | ⟨_,h2⟩;exact .inr hb;exact st.own x ⟨i,h2⟩
theorem World.heap_new (w:World)(o:Obj):(w.alloc o).heap[w.heap.size]? = some o:=by simp[World.alloc,-World.alloc_eq]
theorem World.heap_old (w:World)(o:Obj){b:Nat}(h:b<w.heap.size):(w.alloc o).heap[b]? = w.heap[b]? := by show(w.heap.push o)[b]? = _;rw[Xe,zYb (by omega)]
theorem Sim.laid (hs:Sim E H w)(o:Obj):Sim E H (w.alloc o)/\Cf E H w E H (w.alloc o):=
 hs.ext (.refl E) (λ_ _ _ h=>h) (λ_ _ _ h=>h) (λb hb=>World.heap_old w o hb) (λ_ _=>rfl) (λb o v hv hb=>by have:=hs.imm_lt hv;omega) rfl rfl rfl (by simp[World.alloc,-World.alloc_eq])
theorem Sim.free_new (hs:Sim E H w):¬Nu E H w.heap.size:=λ⟨i,hi⟩=>by have:=hs.block_lt hi;omega
theorem Sim.imm_new (hs:Sim E H w)(o:Nat):E.I w.heap.size o=none:=by cases h:E.I w.heap.size o with|none=>rfl|some v=>have:=hs.imm_lt h;omega
theorem Sx (z:Array Value)(n:Nat)(hz:z.size≠0):((Array.range (n*z.size)).map (z[· % z.size]!)).toList=(List.replicate n z.toList).flatten:=by
 apply Xm;intro k;have hl:∀x∈List.replicate n z.toList,x.length=z.size:=λx hx=>by rw[Yc]at hx;rw[hx.2];simp
 by_cases hk:k<n*z.size;have h1:k / z.size<n:=(Xg (by omega)).2 hk;have h2:k%z.size<z.size:=Xw _ (by omega);have:=Fu (List.replicate n z.toList) (k / z.size) (k%z.size) z.toList z[k%z.size] hl (by rw[XF,zYc h1]) (by simp[h2]);rw[WY,X3]at this;rw[this];simp[hk,h2];rw[zYa (by simp;omega),zYa (by rw[Dv _ hl];simp;omega)]
theorem AB.flatten_repl {xs:List Ab}{vs:List Value}(h:AB E xs vs):∀n,AB E (List.replicate n xs).flatten (List.replicate n vs).flatten
 |0=>.nil E
 |n+1=>by simp only[zXm,List.flatten_cons];exact h.append (h.flatten_repl n)
structure Vda (E:Env)(H:Aa)(C:Cfg)(w:World)(s:Sem Next)(z:Ab)(H':Aa)(st:Aa->Option (Ab×Aa)) where
 ex:∃(B:Blk)(v:Value)(o:Obj)(f:Nat->Ab),H'=H++[B]/\z=f H.length/\(∀H2:Aa,st H2=some (f H2.length,H2++[B]))/\s.run C.P w=.ok (.value v) (w.alloc o)/\PL E H (w.alloc o) w.heap.size B /\
  (∀(E':Env)(n:Nat),E'.φ n 0=some w.heap.size->A3 E' (f n) v)
theorem VcW (hs:Sim E H w){t:TypeId}{z:Ab}{H':Aa}{s:Sem Next}{cells:List Ab}{cs:Array Value}{tt:TypeId}(aC:s.run C.P w=.ok (.value (.pointer (some ⟨w.heap.size,0,none⟩))) (w.alloc (.cells cs tt)))(hr:AB E cells cs.toList)
  (h:Av (some cells) H=some (z,H')):Vda E H C w s z H' (Av (some cells)):=by
 unfold Av at h;simp only[zXa]at h;split at h
 injection h with h;simp only[Wh]at h;obtain⟨rfl,rfl⟩:=h;refine⟨.c0 cells,_,_,λn=>.ptr n 0 0,rfl,rfl,λH2=>by simp only[Av,zXa];rw[zYc (by assumption)],aC,⟨by simp[World.alloc,-World.alloc_eq],hs.free_new,hs.imm_new,.inl ⟨cells,cs,tt,rfl,World.heap_new w _,hr⟩⟩,λE' n hn=>.ptr hn⟩;cases h
theorem Vhe (hs:Sim E H w){t:TypeId}{z:Ab}{H':Aa}{s:Sem Next}{cells:List Ab}{cs:Array Value}{tt:TypeId}(aC:s.run C.P w=.ok (.value (.pointer (some ⟨w.heap.size,0,none⟩))) (w.alloc (.cells cs tt)))(hr:AB E cells cs.toList)
  (h:Ji tt (some cells) H=some (z,H')):Vda E H C w s z H' (Ji tt (some cells)):=by
 unfold Ji at h;simp only[zXa]at h;split at h
 injection h with h;simp only[Wh]at h;obtain⟨rfl,rfl⟩:=h;refine⟨.typ tt cells,_,_,λn=>.ptr n 0 0,rfl,rfl,λH2=>by simp only[Ji,zXa];rw[zYc (by assumption)],aC,⟨by simp[World.alloc,-World.alloc_eq],hs.free_new,hs.imm_new,.inr (.inr ⟨cells,cs,tt,rfl,World.heap_new w _,hr⟩)⟩,λE' n hn=>.ptr hn⟩;cases h
theorem VbG (hs:Sim E H w){r:Operand->Ab}{ρ:Operand->Value}(hr:∀x,A3 E (r x) (ρ x)){o:Oper}{z:Ab}{H':Aa}(h:CT C o.op r H=some (z,H')):Vda E H C w (execOp ρ o) z H' (CT C o.op r):=by
 cases aF:o.op with
 |alloc t=>
  simp only[aF,CT]at h;split at h
  cases h
  ·rename_i hk;obtain⟨_,_,_,_,i,zz,hi,hz,_⟩:=CG (P:=C.P) (t:=t) (by simpa using hk);have lS:GY C.P t=some (zz.cells.toList.map Mk):=(by simp[GY,hi,hz]);rw[lS]at h;have hst:CT C (.alloc t) r=λH2=>(match Vh7 C.P t with | true=>Ji t (some (zz.cells.toList.map Mk)) H2 | false=>Av (some (zz.cells.toList.map Mk)) H2):=by funext H2;simp only[CT];rw[zYb (by assumption),lS]<;>(cases Vh7 C.P t<;>rfl)
   rw[hst];cases lK:Vh7 C.P t with
   |true=>
    rw[lK]at h;refine Vhe (t:=t) (tt:=t) hs ?_ (JM zz) h;simp only[execOp,aF,Instr.alloc,zXf,Mu hi hz,zXg,newVar,newRow,newObj,Sem.run,Sem.run_pure]
    rfl
   |false=>
    rw[lK]at h;refine VcW (t:=t) (tt:=t) hs ?_ (JM zz) h;simp only[execOp,aF,Instr.alloc,zXf,Mu hi hz,zXg,newVar,newRow,newObj,Sem.run,Sem.run_pure]
    rfl
 |box t x=>
  simp only[aF,CT]at h;split at h
  ·rename_i cs hcs;split at h
   cases h
   ·rename_i hk;obtain⟨k1,k2⟩:=L5 (hr x) hcs;have hst:CT C (.box t x) r=Av (some cs):=(by funext H2;simp only[CT,hcs];rw[zYb hk]);rw[hst];refine VcW (t:=t) (tt:=t) hs ?_ k1 h;simp only[execOp,aF,Instr.box,zXf,newVar,newRow,newObj,Sem.run,Sem.run_pure,zXg]
    rfl
  cases h
 |makeSlice t l c=>
  simp only[aF,CT]at h;split at h
  ·rename_i e hu;split at h
   cases h
   ·rename_i hk;obtain⟨_,hsz,_,jA,i,zz,hi,hz,aK⟩:=CG (P:=C.P) (t:=e) (by simpa using hk);have lS:GY C.P e=some (zz.cells.toList.map Mk):=(by simp[GY,hi,hz]);rw[lS]at h;unfold FG at h;simp only[zXa]at h;have hl:=hr l;have hc:=hr c;split at h
    ·rename_i ll cc rT hcc;rw[rT]at hl;rw[hcc]at hc;split at h
     ·rename_i bL;have bL:=bL;obtain⟨_,hzl,h0,oQ,hb,gS⟩:=bL;injection h with h;simp only[Wh]at h;obtain⟨rfl,rfl⟩:=h;have cQ:I_.wrap ll=ll:=RX (by omega) (by omega);have cA:I_.wrap cc=cc:=RX (by omega) (by omega);have qA:FO C.P e=i.bytes:=(by simp[FO,hi]);have iZ:zz.cells.size=Au C.P e:=jA zz (by simp[hi,hz]);have eM:∀n:Nat,((Array.range (n*Au C.P e)).map (zz.cells[· % zz.cells.size]!)).toList=(List.replicate n zz.cells.toList).flatten:=λn=>(by rw[<-iZ];exact Sx _ _ (by omega));obtain⟨cs,hcs,aC⟩:∃cs:Array Value,cs.toList=(List.replicate cc.toNat zz.cells.toList).flatten/\(execOp ρ o).run C.P w=.ok (.value (.slice (some ⟨w.heap.size,0,none⟩) ll.toNat cc.toNat)) (w.alloc (.cells cs e)):=(by have zY:∀w,(typeInfo e).run C.P w=.ok i w:=λw=>(by simp[typeInfo,hi,program,zXf,Sem.run,Result.andThen]);have oR:(decide (cc<0)||decide ((i.bytes:Int)*cc>2^48)||decide (ll<0)||decide (ll>cc))=false:=(by have:(i.bytes:Int)*cc<=140737488355328:=(by rw[<-qA,Int.mul_comm];exact hb);simp;omega);have aN:∀w,(askRoom (cc.toNat*i.bytes)).run C.P w=.ok () w:=λw=>(by unfold askRoom;split<;>simp[mark,Sem.run]);refine⟨if cc.toNat*Au C.P e=0 then #[]else (Array.range (cc.toNat*Au C.P e)).map (zz.cells[· % zz.cells.size]!),?_,?_⟩;split;rename_i uG;have:cc.toNat=0:=(by rcases Nat.mul_eq_zero.1 uG with h | h;exact h;exact zYf h hsz);simp[this];exact eM _;have kB:Array.range 0 = #[]:=(by apply Yu;simp);simp only[execOp,aF,Instr.makeSlice,zXf,run_underlying hu,zXg,hl.int_inv,hc.int_inv,asInt,asIntOf,Sem.run_pure,zY,cQ,cA,oR,VL,zYe,aN,Gv hsz];split;rename_i uG;simp[uG,newRow,newObj,Sem.run,Result.andThen,kB,-World.alloc_eq,World.alloc];rename_i uG;simp[newRow,newObj,Sem.run,zXf,Mu hi hz,Result.andThen,-World.alloc_eq,World.alloc]);refine⟨_,_,_,λn=>.ms n 0 0 ll.toNat cc.toNat (Au C.P e) true,rfl,rfl,λH2=>?_,aC,⟨by simp[World.alloc,-World.alloc_eq],hs.free_new,hs.imm_new,.inl ⟨_,cs,e,rfl,World.heap_new w _,?_⟩⟩,λE' n hn=>.ms hn (VM _) (by omega) (λ_=>rfl) (λ_=>rfl) (λh=>by cases h)⟩;simp only[CT,hu];rw[zYb hk,lS];simp only[FG,zXa,rT,hcc];rw[zYc bL];rw[hcs];exact AB.flatten_repl (JM zz) _
     cases h
    cases h
  cases h
 |makeMap t x=>
  have key:EM H=some (z,H')->CT C (.makeMap t x) r=EM->(execOp ρ o).run C.P w=.ok (.value (.map (some w.heap.size))) (w.alloc (.map #[] 0))->Vda E H C w (execOp ρ o) z H' (CT C (.makeMap t x) r):=by intro h hst aC;rw[hst];simp only[EM,VT,Wh]at h;obtain⟨rfl,rfl⟩:=h;exact⟨_,_,_,λn=>.mp n,rfl,rfl,λ_=>rfl,aC,⟨by simp[World.alloc,-World.alloc_eq],hs.free_new,hs.imm_new,.inr (.inl ⟨rfl,0,World.heap_new w _⟩)⟩,λE' n hn=>.mp hn⟩
  simp only[aF,CT]at h;split at h
  refine key h (by funext H2;simp only[CT]) ?_;simp[execOp,aF,Instr.makeMap,newObj,Sem.run,Result.andThen,-World.alloc_eq,World.alloc]
  ·rename_i y _ _ hu;split at h
   rename_i k n hy;have lG:=hr y;rw[hy]at lG;refine key h (by funext H2;simp only[CT,hu,hy]) ?_;simp[execOp,aF,Instr.makeMap,newObj,Sem.run,zXf,Result.andThen,-World.alloc_eq,World.alloc,run_underlying hu,lG.int_inv,asInt,asIntOf];cases h
  cases h
 |_=>simp[aF,CT]at h

end
def Jk (E:Env):Res->Ending->Prop
 |.ret x,.returned v=>A3 E x v
 |.pan x,.panicked chain=>∃v,chain=[{ v,recovered:=false}]/\A3 E x v
 |_,_=>False
def VoA (P:Program)(g:FuncId)(vs:Array Value)(w:World)(R:Ending->World->Prop):Prop:=
 ((callFunc g vs).run P w=.ok (.enter g vs) w/\Calls P g vs w R)\/∃v w',(callFunc g vs).run P w=.ok (.value v) w'/\R (.returned v) w'
def DS (G:ID)(E:Env):Prop:=∀g cs,G g=some cs->A3 E (.cptr cs 0) (.pointer (some ⟨g,0,none⟩))
theorem DS.mono {G:ID}{E E':Env}(h:DS G E)(hle:E.le E'):DS G E':=λg cs hg=>(h g cs hg).mono hle
def Vhm (P:Program)(G:ID)(g:FuncId)(args:List Ab)(H:Aa)(res:Res)(H':Aa):Prop:=
 ∀(E:Env)(w:World)(vs:Array Value),DS G E->Sim E H w->AB E args vs.toList->VoA P g vs w λe w'=>∃E',Jk E' res e/\Sim E' H' w'/\Cf E H w E' H' w'
def G4 (P:Program)(G:ID)(orc:Orc):Prop:=∀g args H res H',orc g args H=some (res,H')->Vhm P G g args H res H'
section
variable {C:Cfg}{E:Env}{H:Aa}{w:World}
theorem Ol (b:Nat):∀(vs:List Value)(o:Nat)(w:World)(x:Nat),x≠b->(w.setCells b o vs).heap[x]? = w.heap[x]?
 |[],_,_,_,_=>rfl
 |v::r,o,w,x,h=>by rw[World.setCells,Ol b r (o+1) _ x h];simp[World.setCell,Xr,Ne.symm h]
theorem Mr (b:Nat):∀(vs:List Value)(o:Nat)(w:World),(w.setCells b o vs).os=w.os/\(w.setCells b o vs).tape=w.tape/\(w.setCells b o vs).output=w.output/\(w.setCells b o vs).heap.size=w.heap.size
 |[],_,_=>⟨rfl,rfl,rfl,rfl⟩
 |v::r,o,w=>by obtain⟨h1,h2,h3,h4⟩:=Mr b r (o+1) (w.setCell ⟨b,o,none⟩ v);rw[World.setCells,h1,h2,h3,h4];exact⟨rfl,rfl,rfl,by simp[World.setCell]⟩
theorem Ms (b:Nat)(t:TypeId)(fr:Nat×Nat):∀(vs:List Value)(o:Nat)(w:World)(cs:Array Value),w.heap[b]? = some (.cells cs t fr)->∃cs':Array Value,(w.setCells b o vs).heap[b]? = some (.cells cs' t fr)/\cs'.size=cs.size
 |[],_,w,cs,h=>⟨cs,h,rfl⟩
 |v::r,o,w,cs,h=>by
  have h1:(w.setCell ⟨b,o,none⟩ v).heap[b]? = some (.cells (cs.setIfInBounds o v) t fr):=by simp[World.setCell,Xr,h]
  obtain⟨cs',h2,h3⟩:=Ms b t fr r (o+1) _ _ h1;exact⟨cs',by rw[World.setCells];exact h2,by rw[h3];simp⟩
theorem Va7 {t:TypeId}(hz:Au C.P t≠0){b o:Nat}{v:Value}{cs:Array Value}{tt:TypeId}(hb:w.heap[b]? = some (.cells cs tt (0,0)))(hn:v.cells.size=Au C.P t)(hle:o+v.cells.size<=cs.size)(h1:∀u∈v.cells.toList,u.oneCell'=true):(Instr.storeAt t (.pointer (some ⟨b,o,none⟩)) v).run C.P w=.ok () (w.setCells b o v.cells.toList):=by
 have hs:=run_storeCells_cells (P:=C.P) b o v.cells.toList 0 w (λj hj=>by rw[Bo hb];simp at hj;simp;omega)
  (λj hj=>by simp[World.frozen?,hb]) h1
 simp only[Nat.add_zero]at hs;simp only[Instr.storeAt,Instr.sureAddr,zXf,Sem.run_pure,zXg,storeVar,Gv hz,hn,ne_eq,not_true_eq_false,zYe,hs]
theorem Mn (hs:Sim E H w){sz:Nat}{x y:Ab}{u v:Value}{H':Aa}(hx:A3 E x u)(hy:A3 E y v)(h:Ae sz x y H=some H'):∃b o cs tt,u=.pointer (some ⟨b,o,none⟩)/\w.heap[b]? = some (.cells cs tt (0,0))/\v.cells.size=sz/\o+v.cells.size<=cs.size/\(∀q∈v.cells.toList,q.oneCell'=true)/\Sim E H' (w.setCells b o v.cells.toList)/\Cf E H w E H' (w.setCells b o v.cells.toList):=by
 unfold Ae at h;split at h
 ·rename_i id g o;cases hc:AD H id g with
  |none=>simp[hc]at h
  |some cs=>
   simp only[hc,zXa]at h;cases ha:y.acells with
   |none=>simp[ha]at h
   |some ys=>
    simp only[ha,zXa]at h;split at h
    ·rename_i hle;injection h with h;subst h;obtain⟨⟨B,hB,hlB,oZ⟩,b,vs,tt,h1,h2,h3,aG,h4⟩:=GH hs hc;obtain⟨b',h5,rfl⟩:=hx.ptr_inv;rw[h1]at h5;cases h5;obtain⟨k1,k2⟩:=L5 hy ha;have e1:ys.length=v.cells.size:=(by simpa using k1.1);have dW:∀q∈v.cells.toList,q.oneCell'=true:=(by intro q hq;obtain⟨i,hi,Zj⟩:=Ws hq;have aE:i<ys.length:=(by rw[k1.1];exact hi);exact((k1.2 i ys[i] q (VG aE) (by rw[VG hi,Zj])).one (k2 _ (VY aE))).1);refine⟨b,o,vs,tt,rfl,h2,by omega,by omega,dW,?_⟩;obtain⟨cs',q1,q2⟩:=Ms b tt (0,0) v.cells.toList o w vs h2;obtain⟨f1,f2,f3,f4⟩:=Mr b v.cells.toList o w;have hcell:∀i,cs'[i]? = if o<=i/\i<o+v.cells.size then v.cells[i-o]? else vs[i]? := (by intro i;rw[<-Bo q1 i];split;rename_i hi;have:=World.cell?_setCells_in b v.cells.toList o w (λj hj=>by rw[Bo h2];simp at hj;simp;omega) (i-o) (by simp;omega);rw[show o+(i-o)=i from by omega]at this;rw[this];simp[show i-o<v.cells.size from by omega];rename_i hi;rw[World.cell?_setCells_out b v.cells.toList o w ⟨b,i,none⟩ (λ_ _=>by simp;omega),Bo h2])
     have hlen:(D3 cs o (sz) ys).length=cs.length:=(by unfold D3;simp;omega);have hrel:AB E (D3 cs o (sz) ys) (cs'.toList.take (D3 cs o (sz) ys).length):=by
      refine⟨by rw[hlen];simp;omega,λi c q hc hq=>?_⟩;have hq:=IE hq;rw[Xi,hcell i]at hq;have zF:∀(c:Ab)(q:Value),cs[i]? = some c->vs[i]? = some q->A3 E c q:=λc q g1 g2=>(by have hi:i<cs.length:=(VJ.1 g1).1;exact h3.2 i c q g1 (by rw[WG hi];simpa using g2));unfold D3 at hc;rw[VP,W7]at hc;split at hc
      rename_i hi;rw[Wc]at hi;rw[zYb (by omega)]at hq;rw[WG (by omega)]at hc;exact zF c q hc hq
      ·rename_i hi;rw[Wc,WK (by omega)]at hi hc;rw[W7]at hc;split at hc
       rename_i hi2;rw[zYc (by omega)]at hq;exact k1.2 _ c q hc (by simpa using hq);rename_i hi2;rw[zYb (by omega)]at hq;rw[W5,show o+sz+(i-o-ys.length)=i from by omega]at hc;exact zF c q hc hq
     have fin:∀B',CE E id B'=some b->Gt E (w.setCells b o v.cells.toList) id B'->(∀n,B'.gen=some n->B.gen=some n)->Sim E (H.set id B') (w.setCells b o v.cells.toList)/\Cf E H w E (H.set id B') (w.setCells b o v.cells.toList):=by
      intro B' eT hb' hg';refine hs.upd hB (.refl E) hb' (λ_ _ _ _ h=>h) (λ_ _ _ _ h=>h) (λx hx hne=>Ol b _ _ _ _ (λe=>hne (by rw[e,hlB];exact h1))) (λ_ _ _=>rfl)
       (λx oo vv hv hcase=>?_) (λx hx=>.inl (by rw[hlB,h1,<-eT];exact hx)) (λn hn g hg=>hs.late id B n hB (hg' n hn) g hg) f1 f2 f3 (by omega)
      rcases hcase with hcase | hcase;have:=hs.imm_lt hv;omega;rw[hlB,h1]at hcase;cases hcase;rw[h4]at hv;cases hv
     rcases oZ with rfl | ⟨e,szb,rfl⟩ | ⟨ty,rfl,rfl⟩
     ·have aH:FR H id g (D3 cs o (sz) ys)=H.set id (.cel g (D3 cs o (sz) ys)):=(by simp[FR,hB]);rw[aH];obtain⟨b2,vs2,t2,r1,r2,r3,_⟩:=hs.blk id _ hB;rw[h1]at r1;cases r1;rw[h2]at r2;cases r2;have hcv:cs.length=vs.size:=(by simpa using r3.1);refine fin _ h1 ⟨b,cs',tt,h1,q1,?_,h4⟩ (λn hn=>by cases hn)
      rwa [VW (by rw[hlen];simp;omega)]at hrel
     have aH:FR H id g (D3 cs o (sz) ys)=H.set id (.buf g (D3 cs o (sz) ys) e szb):=(by simp[FR,hB]);rw[aH];obtain⟨b2,cap,vs2,r1,r2,r3,r4,r5,r6,r7,r8⟩:=hs.blk id _ hB;rw[h1]at r1;cases r1;rw[h2]at r3;cases r3;exact fin _ h1 ⟨b,cap,cs',h1,r2,q1,by omega,by rw[hlen];omega,r6,hrel,h4⟩ (λn hn=>hn)
     ·have aH:FR H id 0 (D3 cs o (sz) ys)=H.set id (.typ ty (D3 cs o (sz) ys)):=(by simp[FR,hB]);rw[aH];obtain⟨b2,vs2,r1,r2,r3,_⟩:=hs.blk id _ hB;rw[h1]at r1;cases r1;rw[h2]at r2;cases r2;have hcv:cs.length=vs.size:=(by simpa using r3.1);refine fin _ h1 ⟨b,cs',h1,q1,?_,h4⟩ (λn hn=>by cases hn)
      rwa [VW (by rw[hlen];simp;omega)]at hrel
    cases h
 cases h
theorem Vh1 (hs:Sim E H w){t:TypeId}(hz:Au C.P t≠0){x y:Ab}{u v:Value}{H':Aa}(hx:A3 E x u)(hy:A3 E y v)(h:Ae (Au C.P t) x y H=some H'):∃w',(Instr.storeAt t u v).run C.P w=.ok () w'/\Sim E H' w'/\Cf E H w E H' w':=by
 obtain⟨b,o,cs,tt,rfl,h1,h2,h3,h4,h5⟩:=Mn hs hx hy h;exact⟨_,Va7 hz h1 h2 h3 h4,h5⟩
theorem Vjj (hs:Sim E H w){t e ty:TypeId}(hu:C.P.underlying t=some (.slice e))(hk:okT C.P e=true){x:Ab}{u:Value}{H':Aa}(hx:A3 E x u)(h:KZ (Au C.P e) (GY C.P e) x H=some H'):∃w',(Builtin.clear_ #[t] ty #[u]).run C.P w=.ok (.tuple #[]) w'/\Sim E H' w'/\Cf E H w E H' w':=by
 have none':∀a c,u=.slice a 0 c->H=H'->∃w',(Builtin.clear_ #[t] ty #[u]).run C.P w=.ok (.tuple #[]) w'/\Sim E H' w'/\Cf E H w E H' w':=λa c jQ hH=>by subst jQ;subst hH;refine⟨w,?_,hs,.refl _ _ _⟩;cases a<;>simp[Builtin.clear_,run_underlying hu,zXg]
 unfold KZ at h;split at h
 ·rename_i es tk;split at h
  rename_i h0;injection h with h;cases hx with|sl0 ht ha=>exact none' _ _ rfl h|sl f hl hI hm hv hc ht=>exact none' _ _ (by rw[h0]) h
  cases h
 ·rename_i id g off len cap sz2 ex;split at h
  ·rename_i h0;injection h with h;cases hx with
   |ms h1 hc hl he ho hk'=>exact none' _ _ (by rw[h0]) h
  ·rename_i h0;obtain⟨_,hsz,_,jA,i,zz,hi,hz,aK⟩:=CG (P:=C.P) (t:=e) hk;have lS:GY C.P e=some (zz.cells.toList.map Mk):=(by simp[GY,hi,hz]);have iZ:zz.cells.size=Au C.P e:=jA zz (by simp[hi,hz]);rw[lS]at h;simp only[zXa]at h;split at h
   ·cases hx with
    |ms h1 hc hl he ho hk'=>
     rename_i off' cap' b;have vN:off'=off:=ho (by omega);subst vN;have hrel:A3 E (.agg (My len (zz.cells.toList.map Mk))) (.agg (Builtin.zeroCells zz.cells len)):=A3.agg_of (by unfold Builtin.zeroCells;rw[Sx _ _ (by omega)];exact AB.flatten_repl (JM zz) _);obtain⟨b2,o2,cs,tt,e1,e2,e3,e4,e5,e6⟩:=Mn hs (A3.ptr h1) hrel h;cases e1;refine⟨_,?_,e6⟩;have hst:=run_storeCells_cells (P:=C.P) b off' (Builtin.zeroCells zz.cells len).toList 0 w (λj hj=>by rw[Bo e2];simp at hj;have:(Value.agg (Builtin.zeroCells zz.cells len)).cells=Builtin.zeroCells zz.cells len:=rfl;rw[this]at e4;simp;omega)
      (λj hj=>by simp[World.frozen?,e2]) e5
     simp only[Nat.add_zero]at hst;obtain⟨m,rfl⟩:∃m,len=m+1:=⟨len-1,by omega⟩;have nX:(storeCells ⟨b,off',none⟩ (Builtin.zeroCells zz.cells (m+1)).toList).run C.P w=.ok () (w.setCells b off' (Builtin.zeroCells zz.cells (m+1)).toList):=hst;show _=Result.ok (Value.tuple #[]) (w.setCells b off' (Builtin.zeroCells zz.cells (m+1)).toList);simp[Builtin.clear_,run_underlying hu,Mu hi hz,nX]
   cases h
 cases h
theorem VhG (hs:Sim E H w){t:TypeId}{x z:Ab}{v:Value}{H':Aa}(hu:C.P.underlying t=some .string)(hx:A3 E x v)(h:O1 x H=some (z,H')):∃u w' E',(Instr.range t v).run C.P w=.ok u w'/\A3 E' z u/\Sim E' H' w'/\Cf E H w E' H' w':=by
 unfold O1 at h;split at h
 ·rename_i s;injection h with h;simp only[Wh]at h;obtain⟨rfl,rfl⟩:=h;rw[hx.str_inv];have bT:∀g x,E.φ H.length g=some x->False:=λg x hx=>by have:=hs.dom _ _ _ hx;omega
  have hle:E.le (E.setφ H.length 0 w.heap.size):=by refine⟨λi g x hx=>?_,λ_ _ _ h=>h,λ_ _ _ h=>h⟩;have:¬(i=H.length/\g=0):=λ⟨e1,e2⟩=>bT g x (e1 ▸ hx);simp[Env.setφ,this,hx]
  refine⟨.pointer (some ⟨w.heap.size,0,none⟩),w.alloc (.stringIter ⟨s.toArray⟩ 0),E.setφ H.length 0 w.heap.size,?_,.ptr (by simp[Env.setφ]),?_⟩;simp[Instr.range,zXf,run_underlying hu,zXg,newObj,Sem.run,-World.alloc_eq,World.alloc]
  ·refine hs.push hle ⟨w.heap.size,by simp[Env.setφ],World.heap_new w _⟩ (λi g b hi hb=>by simpa[Env.setφ,hi]using hb) (λ_ _ _ _ h=>h) (λb hb=>World.heap_old w _ hb) (λ_ _=>rfl) (λb o v hv hb=>by have:=hs.imm_lt hv;omega)
    (λb hb=>by simp[CE,Env.setφ]at hb;omega) (λn hB=>by cases hB) rfl rfl rfl (by simp[World.alloc,-World.alloc_eq])
 cases h
theorem Vln (hs:Sim E H w){ty:TypeId}{x z:Ab}{v:Value}{H':Aa}(hx:A3 E x v)(h:Pb x H=some (z,H')):∃u w',(Instr.next v true ty).run C.P w=.ok u w'/\A3 E z u/\Sim E H' w'/\Cf E H w E H' w':=by
 unfold Pb at h;split at h
 ·rename_i id;split at h
  ·rename_i s pos hH;obtain⟨b,h1,rfl⟩:=hx.ptr_inv;obtain⟨b',h2,h3⟩:=hs.blk id _ hH;rw[h1]at h2;cases h2;have bJ:∀(k:Obj->Sem Value),(Sem.bind (getObj b) k).run C.P w=(k (.stringIter ⟨s.toArray⟩ pos)).run C.P w:=(by intro k;simp[getObj,Sem.bind,Sem.run,h3]);split at h
   rename_i hlt;injection h with h;simp only[Wh]at h;obtain⟨rfl,rfl⟩:=h;have hbl:b<w.heap.size:=(Wz.1 h3).1;refine⟨.tuple #[.bool true,goInt pos,.int .i32 (Utf8.decode ⟨s.toArray⟩ pos).1],{w with heap:=w.heap.setIfInBounds b (.stringIter ⟨s.toArray⟩ (pos+(Utf8.decode ⟨s.toArray⟩ pos).2))},?_,?_,?_⟩;unfold Instr.next;simp only[bind];erw[bJ];simp only[KA,hlt,zYd];simp[setObj,Sem.bind,Sem.run,h3];exact .tup_of (.cons (.bool true) (.cons (.int _ _) (.cons (.int _ _) (.nil E))));refine hs.upd hH (.refl E) ⟨b,h1,by simp[hbl]⟩ (λ_ _ _ _ h=>h) (λ_ _ _ _ h=>h) (λy hy hne=>?_) (λ_ _ _=>rfl) (λy o vv hv hcase=>?_) (λy hy=>.inl hy) (λn hB=>by cases hB) rfl rfl rfl (by simp);have:b≠y:=λe=>hne (by rw[<-e];exact h1);simp[WM this];exfalso;rcases hcase with hcase | hcase;have:=hs.imm_lt hv;omega;simp only[CE]at hcase;rw[h1]at hcase;cases hcase;have:=hs.imm _ _ _ hv;simp[World.cell?,h3]at this;rename_i hlt;injection h with h;simp only[Wh]at h;obtain⟨rfl,rfl⟩:=h;refine⟨.tuple #[.bool false],w,?_,.tup_of (.cons (.bool false) (.nil E)),hs,.refl _ _ _⟩;unfold Instr.next;simp only[bind];erw[bJ];simp[KA,hlt]
  cases h
 cases h

end
theorem Q0 (sz:Nat):∀(n:Nat)(cs:List Ab),(GL sz n cs).length=n
 |0,_=>rfl
 |n+1,cs=>by simp[GL,Q0 sz n]
theorem La (sz:Nat):∀(n:Nat)(cs:List Ab),cs.length=n*sz->(GL sz n cs).flatten=cs/\∀x∈GL sz n cs,x.length=sz
 |0,cs,h=>by have:cs=[]:=We (by simpa using h);subst this;exact⟨rfl,by simp[GL]⟩
 |n+1,cs,h=>by rw[WB]at h;obtain⟨h1,h2⟩:=La sz n (cs.drop sz) (by rw[Wd];omega);refine⟨by simp[GL,h1],λx hx=>?_⟩;simp only[GL,WF]at hx;rcases hx with rfl | hx;rw[Wc];omega;exact h2 x hx
def Pf (sz n:Nat)(cs:List Ab)(h:cs.length=n*sz):∀x∈GL sz n cs,∀c∈x,c∈cs:=by intro x hx c hc;rw[<-(La sz n cs h).1];exact YE.2 ⟨x,hx,hc⟩
section
variable {C:Cfg}{E:Env}{H:Aa}{w:World}
theorem Mp (hs:Sim E H w){es:List (List Ab)}{tk:Tok}{v:Value}(h:A3 E (.sl es tk) v){sz:Nat}(hsz:∀x∈es,x.length=sz):∃ad cap,v=.slice ad es.length cap/\es.length<=cap/\(ad=none->es=[]/\cap=0)/\L6 E tk ad es.length cap/\(∀x∈es,∀c∈x,Cq c=true) /\
   ∃us:List Value,AB E es.flatten us/\∀a,ad=some a->∀(j:Nat)(u:Value),us[j]? = some u->a.spot=none/\E.I a.block (a.off+j)=some u:=by
 cases h with
 |sl0 ht ha=>exact⟨_,_,rfl,Wi _,λh=>⟨rfl,ha h⟩,ht,by simp,[],.nil E,λa h j u h=>by simp at h⟩
 |sl f hl hI hm hv hc ht=>
  rename_i b o s cap;refine⟨_,_,rfl,hc,λh=>(by cases h),ht,λx hx c hcx=>?_,?_⟩;obtain⟨i,hi,aI⟩:=Ws hx;obtain⟨j,hj,iI⟩:=Ws hcx;exact hm i x j c (by rw[VG hi,aI]) (by rw[VG hj,iI])
  ·have lL:∀x∈es,x.length=s:=λx hx=>(by obtain⟨i,hi,aI⟩:=Ws hx;exact hl i x (by rw[VG hi,aI]));have nI:=Dv es lL;by_cases hz:s=0;have:es.flatten=[]:=We (by rw[nI,hz,Nat.mul_zero]);exact⟨[],by rw[this];exact .nil E,λa ha j u h=>by simp at h⟩
   ·have lO:∀k,k<es.flatten.length->k / s<es.length/\k%s<s:=λk hk=>(by rw[nI]at hk;exact⟨(Xg (by omega)).2 hk,Xw _ (by omega)⟩);have oX:∀k (hk:k<es.flatten.length),∃e c,es[k / s]? = some e/\e[k%s]? = some c/\es.flatten[k]? = some c:=λk hk=>by
     obtain⟨h1,h2⟩:=lO k hk;have hx:=lL _ (VY h1);refine⟨es[k / s],es[k / s][k%s]'(by omega),VG h1,VG (by omega),?_⟩;have:=Fu es (k / s) (k%s) _ _ lL (VG h1) (VG (by omega))
     rwa [WY,X3]at this
    refine⟨(List.range es.flatten.length).map λk=>f (k / s) (k%s),⟨by simp,λk c u h1 h2=>?_⟩,λa ha k u hu=>?_⟩;have hk:k<es.flatten.length:=(VJ.1 h1).1;obtain⟨e,c',g1,g2,g3⟩:=oX k hk;rw[h1]at g3;cases g3;rw[Wq,Xy hk]at h2;simp at h2;subst h2;exact hv _ _ _ _ g1 g2
    ·cases ha;refine⟨rfl,?_⟩;have hk:k<es.flatten.length:=(by have:=(VJ.1 hu).1;simpa using this);rw[Wq,Xy hk]at hu;simp at hu;subst hu;obtain⟨h1,h2⟩:=lO k hk;have:=hI (k / s) (k%s) h1 h2
     rwa [WY (k / s) s,X3]at this
theorem Ty (hs:Sim E H w){x:Ab}{v:Value}(hx:A3 E x v)(vP:∀s,x≠.str s){sz:Nat}{es:List (List Ab)}(h:C8 sz x H=some es):∃ad cap,v=.slice ad es.length cap/\es.length<=cap/\(ad=none->es=[]/\cap=0)/\(∀x∈es,x.length=sz)/\(∀x∈es,∀c∈x,Cq c=true) /\
   ∃us:List Value,AB E es.flatten us/\∀a,ad=some a->∀(j:Nat)(u:Value),us[j]? = some u->w.cell? (a.add j)=some u:=by
 unfold C8 at h;split at h
 ·rename_i es' tk;split at h
  rename_i aD;injection h with h;subst h;have hsz:∀x∈es',x.length=sz:=(by simpa using aD);obtain⟨ad,cap,h1,h2,h3,h4,h5,us,h6,h7⟩:=Mp hs hx hsz;refine⟨ad,cap,h1,h2,h3,hsz,h5,us,h6,λa ha j u hu=>?_⟩;obtain⟨q1,q2⟩:=h7 a ha j u hu;obtain⟨b,o,sp⟩:=a;simp at q1;subst q1;rw[DG];exact hs.imm _ _ _ q2;cases h
 ·rename_i id g off len cap sz' ex;split at h
  ·rename_i hsz;cases hg:AD H id g with
   |none=>simp[hg]at h
   |some cs=>
    simp only[hg,zXa]at h;split at h
    ·rename_i hle;injection h with h;obtain⟨_,b,vs,t,q1,q2,q3',Zh,_⟩:=GH hs hg;have q3:AB E cs (vs.toList.take cs.length):=q3';have hlen:(((cs.drop off).take (len*sz)).map KP).length=len*sz:=(by simp;omega);obtain⟨k1,k2⟩:=La sz len _ hlen;have k3:=Q0 sz len (((cs.drop off).take (len*sz)).map KP);cases hx with
     |ms p1 p2 p3 p4 p5 p6=>
      rename_i off' cap' b';rw[q1]at p1;cases p1;subst h;rw[k3];refine⟨_,_,rfl,by omega,λh=>(by cases h),k2,λx hx c hc=>?_,((vs.toList.take cs.length).drop off).take (len*sz),?_,λa ha j u hu=>?_⟩;exact(Wf.1 hle.2) c (Pf sz len _ hlen x hx c hc);rw[k1];have:=(q3.drop off).take (len*sz);refine⟨by simpa using this.1,λi c u h1 h2=>?_⟩;rw[Wq]at h1;cases iW:((cs.drop off).take (len*sz))[i]? with|none=>simp[iW]at h1|some c'=>simp[iW]at h1;subst h1;exact Vc3 (this.2 i c' u iW h2)
      cases ha;rw[DG,Bo q2];by_cases hcap:cap'=0;have:len=0:=(by omega);subst this;simp at hu;rw[p5 hcap];have:=JQ hu;rw[W5]at this;have:=IE this;simpa using this
    cases h
  cases h
 cases h
def Env.tokE (E:Env)(t n b cap:Nat)(f:Nat->Option Value):Env where
 φ:=λi j=>if i=t/\j=n then some b else E.φ i j
 κ:=λi j=>if i=t/\j=n then some cap else E.κ i j
 I:=λi o=>if i=b then f o else E.I i o
theorem L8 {t e:TypeId}(hu:C.P.underlying t=some (.slice e))(hz:Au C.P e≠0)(ty:TypeId)(ad ad':Option Addr)(len cap cap':Nat)(hle:len<=cap):(Builtin.append_ #[t,t] ty #[.slice ad len cap,.slice ad' 0 cap']).run C.P w=.ok (.slice ad len cap) w:=by
 cases ad'<;>cases ad<;>simp[Builtin.append_,zXf,run_underlying hu,zXg,Gv hz,Builtin.lenOf,hle,Builtin.firstCells,loadCells,loadCellsFrom,storeCells]
theorem ViK (hs:Sim E H w){e:TypeId}{sz:Nat}{es ys:List (List Ab)}{us ns:List Value}{cap:Nat}{t:Nat}(z:Value)
  (hes:∀x∈es,x.length=sz)(lF:∀x∈ys,x.length=sz)(wS:∀x∈es,∀c∈x,Cq c=true)(uI:∀x∈ys,∀c∈x,Cq c=true)
  (iP:AB E es.flatten us)(vP:AB E ys.flatten ns)(iZ:z.cells.size=sz)(hcap:es.length+ys.length<=cap)(jV:cap<=9223372036854775807)(hpos:0<ys.length)(Zb:0<sz)
  {B:Blk}(hB:H[t]? = some B)(aL:∀g,es.length+ys.length<=g->E.φ t g=none/\E.κ t g=none):let w':=w.drew.alloc (.cells (us.toArray++ns.toArray++Builtin.zeroCells z.cells (cap-(es.length+ys.length))) e)
  ∃E',A3 E' (.sl (es++ys) (.own t)) (.slice (some ⟨w.heap.size,0,none⟩) (es.length+ys.length) cap)/\Sim E' (H.set t (.tok (es.length+ys.length) e sz)) w'/\Cf E H w E' (H.set t (.tok (es.length+ys.length) e sz)) w':=by
 intro w';have gN:us.length=es.length*sz:=by rw[<-iP.1,Dv es hes]
 have cR:ns.length=ys.length*sz:=by rw[<-vP.1,Dv ys lF]
 obtain⟨all,aD⟩:∃all,all=us.toArray++ns.toArray++Builtin.zeroCells z.cells (cap-(es.length+ys.length)):=⟨_,rfl⟩;have aW:all.size=cap*sz:=by rw[aD];simp only[YB,Y8,size_zeroCells,iZ,gN,cR];rw[<-WB,<-WB];congr 1;omega
 have dA:w'.heap[w.heap.size]? = some (.cells all e (0,0)):=by show(w.heap.push _)[w.heap.size]? = _;simp[aD]
 have hold:∀b,b<w.heap.size->w'.heap[b]? = w.heap[b]? := λb hb=>by show(w.heap.push _)[b]? = _;rw[Xe,zYb (by omega)]
 let E':=E.tokE t (es.length+ys.length) w.heap.size cap (λo=>if o<(es.length+ys.length)*sz then all[o]? else none)
 have hle:E.le E':=by refine⟨λi g b hb=>?_,λi g b hb=>?_,λb o v hv=>?_⟩;have:¬(i=t/\g=es.length+ys.length):=λ⟨e1,e2⟩=>(by rw[e1,e2,(aL _ (VM _)).1]at hb;cases hb);simp[E',Env.tokE,this,hb];have:¬(i=t/\g=es.length+ys.length):=λ⟨e1,e2⟩=>(by rw[e1,e2,(aL _ (VM _)).2]at hb;cases hb);simp[E',Env.tokE,this,hb];have:b≠w.heap.size:=λe=>(by have:=hs.imm_lt hv;omega);simp[E',Env.tokE,this,hv]
 have hφ:E'.φ t (es.length+ys.length)=some w.heap.size:=by simp[E',Env.tokE]
 have hκ:E'.κ t (es.length+ys.length)=some cap:=by simp[E',Env.tokE]
 have hrel:AB E (es++ys).flatten (us++ns):=by rw[XW];exact iP.append vP
 have cM:∀(k:Nat)(u:Value),(us++ns)[k]? = some u->all[k]? = some u/\k<(es.length+ys.length)*sz:=by intro k u hu;have hk:k<(us++ns).length:=(VJ.1 hu).1;refine⟨?_,by rw[VR,gN,cR,<-WB]at hk;exact hk⟩;rw[aD,Array.getElem?_append_left (by simpa using hk)];simpa using hu
 refine⟨E',?_,?_⟩
 ·have dR:∀x∈es++ys,x.length=sz:=λx hx=>(Wk.1 hx).elim (hes x) (lF x);have iD:∀x∈es++ys,∀c∈x,Cq c=true:=λx hx=>(Wk.1 hx).elim (wS x) (uI x);have key:∀(i j:Nat)(x:List Ab)(c:Ab),(es++ys)[i]? = some x->x[j]? = some c->∃u,(us++ns)[i*sz+j]? = some u/\A3 E c u:=λi j x c h1 h2=>hrel.get (Fu _ i j x c dR h1 h2);have kV:(es++ys).length<=cap:=by rw[VR];exact hcap
  have:=A3.sl (E:=E') (es:=es++ys) (tk:=.own t) (b:=w.heap.size) (o:=0) (s:=sz) (cap:=cap) (λi j=>((us++ns)[i*sz+j]?).getD undef) (λi x h=>dR x (Wo h)) (λi j hi hj=>?_)
   (λi x j c h1 h2=>iD x (Wo h1) c (Wo h2)) (λi x j c h1 h2=>?_) kV ⟨w.heap.size,by rw[VR];exact hφ,by rw[VR];exact hκ,rfl⟩
  rw[VR]at this;exact this;have hx:=dR _ (VY hi);obtain⟨u,h1,_⟩:=key i j (es++ys)[i] ((es++ys)[i][j]'(by omega)) (VG hi) (VG (by omega));obtain⟨h2,h3⟩:=cM _ _ h1;rw[h1];simp only[E',Env.tokE,VK,zYd,zYc h3,h2,Option.getD_some];obtain⟨u,h3,h4⟩:=key i j x c h1 h2;rw[h3];exact h4.mono hle
 ·have lC:Gt E' w' t (.tok (es.length+ys.length) e sz):=by refine⟨w.heap.size,cap,all,hφ,hκ,dA,aW,hcap,jV,λo ho=>?_⟩;simp[E',Env.tokE,Nat.not_lt.2 ho]
  have:=hs.upd (E':=E') (w':=w') hB hle lC (λi g b hi hb=>by simpa[E',Env.tokE,hi]using hb) (λi g b hi hb=>by simpa[E',Env.tokE,hi]using hb) (λb hb _=>hold b hb)
   (λb hb _=>by funext o;simp[E',Env.tokE,show b≠w.heap.size from by omega]) (λb o v hv hcase=>?_) (λb hb=>?_) (λn hB' g hg=>?_) rfl rfl rfl ?_
  exact this
  ·by_cases xC:b=w.heap.size
   ·subst xC;rw[Bo dA];simp only[E',Env.tokE,zYd]at hv;split at hv
    exact hv;cases hv
   simp only[E',Env.tokE,zYb xC]at hv;have hlt:=hs.imm_lt hv;rw[World.cell?_of_block (w:=w) (hold b hlt)];exact hs.imm _ _ _ hv
  simp only[CE]at hb;rw[hφ]at hb;cases hb;exact .inr (VM _);cases hB';have hne:¬(g=es.length+ys.length):=(by omega);obtain⟨q1,q2⟩:=aL g (by omega);exact⟨by simp[E',Env.tokE,hne,q1],by simp[E',Env.tokE,hne,q2]⟩;show w.heap.size<=(w.heap.push _).size;simp
theorem Vk6 (hs:Sim E H w){t e ty:TypeId}{i:TypeInfo}{es ys:List (List Ab)}{tt capx capy:Nat}{adx:Option Addr}{a:Addr}{ns:List Value}(hu:C.P.underlying t=some (.slice e))(hi:C.P.info? e=some i)(aK:i.size=Au C.P e)
  (hx:A3 E (.sl es (.own tt)) (.slice adx es.length capx))(hx3:∀x∈es,x.length=Au C.P e)(qH:∀x∈es,∀c∈x,Cq c=true)(mT:∀x∈ys,x.length=Au C.P e)(nR:∀x∈ys,∀c∈x,Cq c=true)(jO:AB E ys.flatten ns)(cR:ns.length=ys.length*i.size)
  (lT:∀b,some a=some b->∀(j:Nat)(u:Value),ns[j]? = some u->w.cell? (b.add j)=some u)(dW:∀q∈ns,q.oneCell'=true)(aN:es.length+ys.length<=capx)
  (hH:H[tt]? = some (.tok es.length e (Au C.P e)))(hsz:0<Au C.P e)(hpos:0<ys.length):∃r w' E',(Builtin.append_ #[t,t] ty #[.slice adx es.length capx,.slice (some a) ys.length capy]).run C.P w=.ok r w'/\A3 E' (.sl (es++ys) (.own tt)) r/\Sim E' (H.set tt (.tok (es.length+ys.length) e (Au C.P e))) w'/\Cf E H w E' (H.set tt (.tok (es.length+ys.length) e (Au C.P e))) w':=by
 obtain⟨ad2,cap2,e1,_,_,jR,_,us,lW,uL⟩:=Mp hs hx hx3;injection e1 with e1 _ e2;subst e1;subst e2;obtain⟨b,q1,q2,rfl⟩:=jR;obtain⟨b',cap',cs,p1,p2,p3,p4,p5,p6,p7⟩:=hs.blk tt _ hH;rw[q1]at p1;cases p1;rw[q2]at p2;cases p2;have xV:=λj u hj=>(uL _ rfl j u hj).2;simp only[VK]at xV;have gN:us.length=es.length*Au C.P e:=by rw[<-lW.1,Dv es hx3]
 have rF:ns.length=ys.length*Au C.P e:=by rw[cR,aK]
 have bV:es.length*i.size+ns.length<=cs.size:=by rw[cR,aK,p4,<-WB];exact Ww _ aN
 have aC:=run_append_room (P:=C.P) w t ty e i hu hi b es.length capx cs p3 a ys.length capy ns cR (lT a rfl) dW aN bV;rw[aK]at aC bV;obtain⟨all,aD⟩:∃all:Array Value,all=(cs.toList.take (es.length*Au C.P e)++ns++cs.toList.drop (es.length*Au C.P e+ns.length)).toArray:=⟨_,rfl⟩;rw[<-aD]at aC;have dA:(w.setRow b all).heap[b]? = some (.cells all e (0,0)):=setRow_heap w b cs all e _ p3;have aW:all.size=cs.size:=by rw[aD];simp;omega
 have sO:∀k,k<es.length*Au C.P e->all[k]? = cs[k]? := λk hk=>by rw[aD,List.getElem?_toArray,VP,VN (by simp;omega),WG hk];simp
 have sN:∀k,k<ns.length->all[es.length*Au C.P e+k]? = ns[k]? := λk hk=>by
  rw[aD,List.getElem?_toArray,VP,Wt (by simp;omega),VN (by simp;omega)]
  congr 1;simp;omega
 have aR:=hs.late tt _ _ hH rfl;have aL:E.φ tt (es.length+ys.length)=none/\E.κ tt (es.length+ys.length)=none:=aR _ (by omega)
 let E':=E.tokE tt (es.length+ys.length) b capx (λo=>if o<es.length*Au C.P e then E.I b o else ns[o-es.length*Au C.P e]?)
 have hle:E.le E':=by
  refine⟨λi g b hb=>?_,λi g b hb=>?_,λb' o v hv=>?_⟩;have:¬(i=tt/\g=es.length+ys.length):=λ⟨e1,e2⟩=>(by rw[e1,e2,aL.1]at hb;cases hb);simp[E',Env.tokE,this,hb];have:¬(i=tt/\g=es.length+ys.length):=λ⟨e1,e2⟩=>(by rw[e1,e2,aL.2]at hb;cases hb);simp[E',Env.tokE,this,hb];by_cases hb:b'=b;subst hb;have:o<es.length*Au C.P e:=(by rcases W4 o (es.length*Au C.P e)with h | h;exact h;rw[p7 o h]at hv;cases hv);simp[E',Env.tokE,this,hv];simp[E',Env.tokE,hb,hv]
 have hφ:E'.φ tt (es.length+ys.length)=some b:=by simp[E',Env.tokE]
 have hκ:E'.κ tt (es.length+ys.length)=some capx:=by simp[E',Env.tokE]
 have hrel:AB E (es++ys).flatten (us++ns):=by rw[XW];exact lW.append jO
 have cM:∀(k:Nat)(u:Value),(us++ns)[k]? = some u->E'.I b k=some u:=by
  intro k u hu;rw[W7]at hu;simp only[E',Env.tokE,zYd];split at hu
  rename_i hk;rw[zYc (by omega)];exact xV k u hu;rename_i hk;rw[zYb (by omega),<-gN];exact hu
 refine⟨_,_,E',aC,?_,?_⟩
 ·have dR:∀x∈es++ys,x.length=Au C.P e:=λx hx=>(Wk.1 hx).elim (hx3 x) (mT x);have iD:∀x∈es++ys,∀c∈x,Cq c=true:=λx hx=>(Wk.1 hx).elim (qH x) (nR x);have key:∀(i j:Nat)(x:List Ab)(c:Ab),(es++ys)[i]? = some x->x[j]? = some c->∃u,(us++ns)[i*Au C.P e+j]? = some u/\A3 E c u:=λi j x c h1 h2=>hrel.get (Fu _ i j x c dR h1 h2);have kV:(es++ys).length<=capx:=by rw[VR];exact aN
  have:=A3.sl (E:=E') (es:=es++ys) (tk:=.own tt) (b:=b) (o:=0) (s:=Au C.P e) (cap:=capx) (λi j=>((us++ns)[i*Au C.P e+j]?).getD undef) (λi x h=>dR x (Wo h)) (λi j hi hj=>?_)
   (λi x j c h1 h2=>iD x (Wo h1) c (Wo h2)) (λi x j c h1 h2=>?_) kV ⟨b,by rw[VR];exact hφ,by rw[VR];exact hκ,rfl⟩
  rw[VR]at this;exact this;have hx:=dR _ (VY hi);obtain⟨u,h1,_⟩:=key i j (es++ys)[i] ((es++ys)[i][j]'(by omega)) (VG hi) (VG (by omega));rw[VK,cM _ _ h1,h1];rfl
  obtain⟨u,h3,h4⟩:=key i j x c h1 h2;rw[h3];exact h4.mono hle
 ·have lC:Gt E' (w.setRow b all) tt (.tok (es.length+ys.length) e (Au C.P e)):=by refine⟨b,capx,all,hφ,hκ,dA,by rw[aW,p4],aN,p6,λo ho=>?_⟩;rw[WB]at ho;simp only[E',Env.tokE,zYd];rw[zYb (by omega),zYa (by omega)]
  refine hs.upd (E':=E') (w':=w.setRow b all) hH hle lC (λi g b hi hb=>by simpa[E',Env.tokE,hi]using hb) (λi g b hi hb=>by simpa[E',Env.tokE,hi]using hb) (λx hx hne=>setRow_other w b x all (λe=>hne (by rw[e];exact q1)))
   (λx hx hne=>by funext o;simp[E',Env.tokE,show x≠b from λe=>hne (by rw[e];exact q1)]) (λx o v hv hcase=>?_) (λx hx=>.inl ?_) (λn hB' g hg=>?_) rfl rfl rfl (by simp)
  ·have tL:x=b:=(by rcases hcase with hcase | hcase;have hlt:b<w.heap.size:=(Wz.1 p3).1;by_cases tL:x=b;exact tL;simp only[E',Env.tokE,zYb tL]at hv;have:=hs.imm_lt hv;omega;simp only[CE]at hcase;rw[q1]at hcase;cases hcase;rfl);subst tL;rw[Bo dA];simp only[E',Env.tokE,zYd]at hv;split at hv
   rename_i ho;rw[sO o ho,<-Bo p3];exact hs.imm _ _ _ hv;rename_i ho;have hlt:=(VJ.1 hv).1;have:=sN (o-es.length*Au C.P e) hlt;rw[show es.length*Au C.P e+(o-es.length*Au C.P e)=o from by omega]at this;rw[this];exact hv
  simp only[CE]at hx⊢;rw[hφ]at hx;cases hx;exact q1;cases hB';have hne:¬(g=es.length+ys.length):=(by omega);obtain⟨r1,r2⟩:=aR g (by omega);exact⟨by simp[E',Env.tokE,hne,r1],by simp[E',Env.tokE,hne,r2]⟩
theorem Vhb (hs:Sim E H w){t e ty:TypeId}{x y z:Ab}{u v:Value}{H':Aa}(hu:C.P.underlying t=some (.slice e))(hk:okT C.P e=true)(hx:A3 E x u)(hy:A3 E y v)(hnx:∀s,x≠.str s)(pL:∀s,y≠.str s)
  (h:AS e (Au C.P e) (FO C.P e) x y H=some (z,H')):∃r w' E',(Builtin.append_ #[t,t] ty #[u,v]).run C.P w=.ok r w'/\A3 E' z r/\Sim E' H' w'/\Cf E H w E' H' w':=by
 obtain⟨_,hsz,_,jA,i,zz,hi,hz,aK⟩:=CG hk;have qA:FO C.P e=i.bytes:=by simp[FO,hi]
 have iZ:zz.cells.size=Au C.P e:=jA zz (by simp[hi,hz]);unfold AS at h;cases gP:C8 (Au C.P e) y H with
 |none=>simp[gP]at h
 |some ys=>
  simp only[gP,zXa]at h;cases hex:C8 (Au C.P e) x H with
  |none=>simp[hex]at h
  |some es=>
   simp only[hex,zXa]at h;obtain⟨ady,capy,rfl,uK,uJ,mT,nR,ns,jO,lT⟩:=Ty hs hy pL gP;obtain⟨adx,capx,zV,hx1,hx2,hx3,qH,us,lW,uM⟩:=Ty hs hx hnx hex;subst zV;have cR:ns.length=ys.length*i.size:=(by rw[<-jO.1,Dv ys mT,aK]);have gN:us.length=es.length*i.size:=(by rw[<-lW.1,Dv es hx3,aK]);split at h
   rename_i h0;have h':some (x,H)=some (z,H'):=h;injection h' with h';simp only[Wh]at h';obtain⟨rfl,rfl⟩:=h';rw[h0];exact⟨_,w,E,L8 hu hsz ty adx ady es.length capx capy hx1,hx,hs,.refl _ _ _⟩
   ·rename_i h0;split at h
    ·rename_i hb;obtain⟨gT,gS⟩:=hb;have hpos:0<ys.length:=(by omega);obtain⟨a,rfl⟩:∃a,ady=some a:=(by cases ady with|none=>have:=(uJ rfl).1;subst this;simp at h0|some a=>exact⟨a,rfl⟩);have dW:∀q∈ns,q.oneCell'=true:=(by intro q hq;obtain⟨k,hk',vC⟩:=Ws hq;have iB:k<ys.flatten.length:=(by rw[jO.1];exact hk');have iD:Cq ys.flatten[k]=true:=(by obtain⟨x',hx',cE⟩:=YE.1 (VY iB);exact nR x' hx' _ cE);exact((jO.2 k _ q (VG iB) (by rw[VG hk',vC])).one (SZ iD)).1);have iL:(es.length+ys.length)*i.bytes<=140737488355328:=(by rw[<-qA];exact gT);have grow:∀(tt:Nat)(H1:Aa)(B:Blk),Sim E H1 w->H1[tt]? = some B->(∀g,es.length+ys.length<=g->E.φ tt g=none/\E.κ tt g=none)->capx<es.length+ys.length ->
       ∃r w' E',(Builtin.append_ #[t,t] ty #[.slice adx es.length capx,.slice (some a) ys.length capy]).run C.P w=.ok r w'/\A3 E' (.sl (es++ys) (.own tt)) r/\Sim E' (H1.set tt (.tok (es.length+ys.length) e (Au C.P e))) w'/\Cf E H1 w E' (H1.set tt (.tok (es.length+ys.length) e (Au C.P e))) w':=by
      intro tt H1 B hs1 hB aL hlt;obtain⟨E',g1,g2,g3⟩:=ViK hs1 (e:=e) (cap:=grownCap w (es.length+ys.length) capx e) zz hx3 mT qH nR lW jO iZ (grownCap_ge w _ _ _) (by have:=grownCap_le_maxLen w (es.length+ys.length) capx e (by unfold maxLen;omega);unfold maxLen at this;omega) hpos (by omega) hB aL;refine⟨_,_,E',?_,g1,g2,g3⟩;cases adx with
      |none=>obtain⟨oY,gQ⟩:=hx2 rfl;subst oY;subst gQ;have nT:us=[]:=We (by simpa using gN);subst nT;have:=run_append_nil (P:=C.P) w t ty e i zz hu hi hz a ys.length capy ns cR (lT a rfl) hpos (by have q:=gS;simp only[zXk,VK]at q;omega) (by have q:=iL;simp only[zXk,VK]at q;omega);simpa using this
      |some ax=>exact run_append_grow (P:=C.P) w t ty e i zz hu hi hz ax es.length capx us gN (uM ax rfl) a ys.length capy ns cR (lT a rfl) hlt (by omega) (growslice_fits (by omega) iL)
     have growNew:capx<es.length+ys.length->some (.sl (es++ys) (.own H.length),H++[.tok (es.length+ys.length) e (Au C.P e)])=some (z,H') ->
       ∃r w' E',(Builtin.append_ #[t,t] ty #[.slice adx es.length capx,.slice (some a) ys.length capy]).run C.P w=.ok r w'/\A3 E' z r/\Sim E' H' w'/\Cf E H w E' H' w':=by
      intro hlt heq;injection heq with heq;simp only[Wh]at heq;obtain⟨rfl,rfl⟩:=heq;obtain⟨r,w',E',q1,q2,q3,q4⟩:=grow H.length (H++[Blk.dead]) .dead hs.dead (by simp) (λg hg=>⟨by
       cases hx:E.φ H.length g with
       |none=>rfl
       |some b=>have:=hs.dom _ _ _ hx;omega,by
       cases hx:E.κ H.length g with
       |none=>rfl
       |some b=>have:=hs.domk _ _ _ hx;omega⟩) hlt
      have aH:(H++[Blk.dead]).set H.length (.tok (es.length+ys.length) e (Au C.P e))=H++[.tok (es.length+ys.length) e (Au C.P e)]:=(by simp);rw[aH]at q3 q4;exact⟨r,w',E',q1,q2,q3,(Cf.dead E H w).trans q4⟩
     split at h
     ·rename_i es';have oW:es'=es:=by
       unfold C8 at hex;simp only at hex;split at hex
       injection hex;cases hex
      subst oW;have uS:capx=es'.length:=(by cases hx<;>assumption);exact growNew (by omega) h
     ·rename_i es' tt;have oW:es'=es:=by
       unfold C8 at hex;simp only at hex;split at hex
       injection hex;cases hex
      subst oW;split at h
      ·rename_i n e' sz' hH;split at h
       ·rename_i bL;obtain⟨rfl,rfl,rfl⟩:=bL;injection h with h;simp only[Wh]at h;obtain⟨rfl,rfl⟩:=h;have aR:=hs.late tt _ _ hH rfl;by_cases aN:es'.length+ys.length<=capx
        ·-- there is room
         exact Vk6 hs hu hi aK hx hx3 qH mT nR jO cR lT dW aN hH (by omega) hpos
        exact grow tt H _ hs hH (λg hg=>aR g (by omega)) (by omega)
       cases h
      cases h
     ·rename_i id g off len cap sz' ;split at h
      ·rename_i hlt;cases hx with
       |ms p1 p2 p3 p4 p5 p6=>have:=p4 rfl;exact growNew (by omega) h
      cases h
     cases h
    cases h

end
section
variable {C:Cfg}{E:Env}{H:Aa}{w:World}
def Env.setφκ (E:Env)(id g b cap:Nat):Env where
 φ:=λi j=>if i=id/\j=g then some b else E.φ i j
 κ:=λi j=>if i=id/\j=g then some cap else E.κ i j
 I:=E.I
theorem TL (hs:Sim E H w){id ng b' cap2 sz:Nat}{e:TypeId}{B:Blk}(hB:H[id]? = some B)(aL:∀g,ng<=g->E.φ id g=none/\E.κ id g=none)
  {w':World}{all:Array Value}{newc:List Ab}(dA:w'.heap[b']? = some (.cells all e (0,0)))(hsz:all.size=cap2*sz)(hcap:cap2<=9223372036854775807)
  (hrel:AB E newc (all.toList.take newc.length))(hle:newc.length<=all.size)(hb':CE E id B=some b'\/w.heap.size<=b')(oF:∀x,x<w.heap.size->CE E id B≠some x->w'.heap[x]? = w.heap[x]?)
  (hI:∀o,E.I b' o=none)(hIB:∀b,CE E id B=some b->∀o,E.I b o=none)(oG:w'.os=w.os)(dM:w'.tape=w.tape)(hout:w'.output=w.output)(aW:w.heap.size<=w'.heap.size):Sim (E.setφκ id ng b' cap2) (H.set id (.buf ng newc e sz)) w'/\Cf E H w (E.setφκ id ng b' cap2) (H.set id (.buf ng newc e sz)) w':=by
 have rZ:E.le (E.setφκ id ng b' cap2):=by refine⟨λi g b hb=>?_,λi g b hb=>?_,λ_ _ _ h=>h⟩;have:¬(i=id/\g=ng):=λ⟨e1,e2⟩=>(by rw[e1,e2,(aL _ (VM _)).1]at hb;cases hb);simp[Env.setφκ,this,hb];have:¬(i=id/\g=ng):=λ⟨e1,e2⟩=>(by rw[e1,e2,(aL _ (VM _)).2]at hb;cases hb);simp[Env.setφκ,this,hb]
 refine hs.upd hB rZ ⟨b',cap2,all,by simp[Env.setφκ],by simp[Env.setφκ],dA,hsz,hle,hcap,hrel.mono rZ,hI⟩ (λi g b hi hb=>by simpa[Env.setφκ,hi]using hb) (λi g b hi hb=>by simpa[Env.setφκ,hi]using hb)
  oF (λ_ _ _=>rfl) (λb o v hv hcase=>?_) (λb hb=>?_) (λn hn g hg=>?_) oG dM hout aW
 exfalso;rcases hcase with hcase | hcase;have:=hs.imm_lt hv;omega;have:=hIB b hcase o;have aQ:E.I b o=some v:=hv;rw[this]at aQ;cases aQ;simp only[CE,Env.setφκ]at hb;simp at hb;subst hb;exact hb'
 ·cases hn;obtain⟨q1,q2⟩:=aL g (by omega);have hne:¬(g=ng):=by omega
  exact⟨by simp[Env.setφκ,hne,q1],by simp[Env.setφκ,hne,q2]⟩
structure Src (P:Program)(w:World)(t ty:TypeId)(ts:Array TypeId)(e:TypeId)(i:TypeInfo)(zz:Value)(v:Value)(n:Nat)(ns:List Value):Prop where
 len:ns.length=n*i.size
 zero:n=0->∀ad len cap,len<=cap->(Builtin.append_ ts ty #[.slice ad len cap,v]).run P w=.ok (.slice ad len cap) w
 room:0<n->∀g sLen sCap (cur:Array Value),w.heap[g]? = some (.cells cur e (0,0))->sLen+n<=sCap->sLen*i.size+ns.length<=cur.size ->
  (Builtin.append_ ts ty #[.slice (some ⟨g,0,none⟩) sLen sCap,v]).run P w=.ok (.slice (some ⟨g,0,none⟩) (sLen+n) sCap) (w.setRow g (cur.toList.take (sLen*i.size)++ns++cur.toList.drop (sLen*i.size+ns.length)).toArray)
 grow:0<n->∀(b:Addr) sLen sCap (olds:List Value),olds.length=sLen*i.size->(∀j u,olds[j]? = some u->w.cell? (b.add j)=some u)->sCap<sLen+n->((sLen+n:Nat):Int)<=9223372036854775807->Builtin.nextslicecap (sLen+n) sCap*i.bytes<=281474976710656 ->
  (Builtin.append_ ts ty #[.slice (some b) sLen sCap,v]).run P w=.ok (.slice (some ⟨w.heap.size,0,none⟩) (sLen+n) (grownCap w (sLen+n) sCap e)) (w.drew.alloc (.cells (olds.toArray++ns.toArray++Builtin.zeroCells zz.cells (grownCap w (sLen+n) sCap e-(sLen+n))) e))
 nil:0<n->(n:Int)<=9223372036854775807->n*i.bytes<=281474976710656 ->
  (Builtin.append_ ts ty #[.slice none 0 0,v]).run P w=.ok (.slice (some ⟨w.heap.size,0,none⟩) n (grownCap w n 0 e)) (w.drew.alloc (.cells (ns.toArray++Builtin.zeroCells zz.cells (grownCap w n 0 e-n)) e))
theorem Ves (hs:Sim E H w){t ty e:TypeId}{i:TypeInfo}{zz:Value}(hu:C.P.underlying t=some (.slice e))(hi:C.P.info? e=some i)(hz:i.zero=some zz)(aK:i.size=Au C.P e)(hsz:Au C.P e≠0){y:Ab}{v:Value}(hy:A3 E y v)(pL:∀s,y≠.str s){ys:List (List Ab)}(gP:C8 (Au C.P e) y H=some ys):∃ns,AB E ys.flatten ns/\(∀x∈ys,x.length=Au C.P e)/\Src C.P w t ty #[t,t] e i zz v ys.length ns:=by
 obtain⟨ady,capy,rfl,uK,uJ,mT,nR,ns,jO,lT⟩:=Ty hs hy pL gP;have cR:ns.length=ys.length*i.size:=by rw[<-jO.1,Dv ys mT,aK]
 have dW:∀q∈ns,q.oneCell'=true:=by
  intro q hq;obtain⟨k,hk',vC⟩:=Ws hq;have iB:k<ys.flatten.length:=by rw[jO.1];exact hk'
  have iD:Cq ys.flatten[k]=true:=by obtain⟨x',hx',cE⟩:=YE.1 (VY iB);exact nR x' hx' _ cE
  exact((jO.2 k _ q (VG iB) (by rw[VG hk',vC])).one (SZ iD)).1
 have some_of:ys.length≠0->∃a,ady=some a:=λh0=>by cases ady with|none=>have:=(uJ rfl).1;subst this;simp at h0|some a=>exact⟨a,rfl⟩
 refine⟨ns,jO,mT,cR,λh0 ad len cap hle=>?_,λh0 g sLen sCap cur hg aN bV=>?_,λh0 b sLen sCap olds hlo holds hlt h63 bV=>?_,λh0 h63 eY=>?_⟩;rw[h0];exact L8 hu hsz ty ad ady len cap capy hle;obtain⟨a,rfl⟩:=some_of (by omega);exact run_append_room (P:=C.P) w t ty e i hu hi g sLen sCap cur hg a ys.length capy ns cR (lT a rfl) dW aN bV;obtain⟨a,rfl⟩:=some_of (by omega);exact run_append_grow (P:=C.P) w t ty e i zz hu hi hz b sLen sCap olds hlo holds a ys.length capy ns cR (lT a rfl) hlt h63 bV;obtain⟨a,rfl⟩:=some_of (by omega);exact run_append_nil (P:=C.P) w t ty e i zz hu hi hz a ys.length capy ns cR (lT a rfl) h0 h63 eY
theorem On:∀s:zAa,(s.map λb=>([Ab.int .u8 b.toNat]:List Ab)).flatten=s.map λb=>Ab.int .u8 b.toNat
 |[]=>rfl
 |b::s=>by simp only[Xo,List.flatten_cons,On s];rfl
theorem Vdl (hs:Sim E H w){t u ty e:TypeId}{i:TypeInfo}{zz:Value}(hu:C.P.underlying t=some (.slice e))(jQ:C.P.underlying u=some .string)(hi:C.P.info? e=some i)(hz:i.zero=some zz)(h1:i.size=1)(s:zAa):∃ns,AB E (s.map λb=>([Ab.int .u8 b.toNat]:List Ab)).flatten ns/\Src C.P w t ty #[t,u] e i zz (.string ⟨s.toArray⟩) s.length ns:=by
 have hsz:(⟨s.toArray⟩:ByteArray).size=s.length:=by simp[ByteArray.size]
 have hl:(Lib.strCells ⟨s.toArray⟩).length=s.length:=by rw[Lib.strCells_length,hsz]
 refine⟨Lib.strCells ⟨s.toArray⟩,?_,by rw[hl,h1,Wa],λh0 ad len cap hle=>?_,λh0 g sLen sCap cur hg aN bV=>?_,λh0 b sLen sCap olds hlo holds hlt h63 bV=>?_,λh0 h63 eY=>?_⟩;rw[On];unfold Lib.strCells;exact AB.map _ _ _ λb _=>.int _ _;have:s=[]:=We h0;subst this;have mS:(⟨#[]⟩:ByteArray).size=0:=rfl;cases ad<;>simp[Builtin.append_,zXf,run_underlying hu,run_underlying jQ,zXg,sizeOf,typeInfo,hi,Builtin.lenOf,mS,hle,Builtin.firstCells,storeCells]
 have:=Lib.run_append_room_string (P:=C.P) w t u ty e i hu jQ hi h1 g sLen sCap cur hg ⟨s.toArray⟩ (by rw[hsz];exact aN) (by rw[hsz];rw[hl,h1,Wa]at bV;exact bV);rw[hsz]at this;rw[this,h1,Wa,hl];have:=Lib.run_append_grow_string (P:=C.P) w t u ty e i zz hu jQ hi hz b sLen sCap olds hlo holds ⟨s.toArray⟩ (by rw[hsz];exact hlt) (by rw[hsz];exact h63) (by rw[hsz];exact bV);rw[hsz]at this;exact this
 ·have:=run_append_nil_string (P:=C.P) w t u ty e i zz hu jQ hi hz ⟨s.toArray⟩ (by rw[hsz];exact h0) (by rw[hsz];exact h63) (by rw[hsz];exact eY);rw[hsz]at this;rw[this]
  congr 3
  simp[Lib.strCells]
theorem TQ (hs:Sim E H w){t ty e:TypeId}{ts:Array TypeId}{i:TypeInfo}{zz:Value}(hu:C.P.underlying t=some (.slice e))(hi:C.P.info? e=some i)(hz:i.zero=some zz)(aK:i.size=Au C.P e)(hsz:Au C.P e≠0)(iZ:zz.cells.size=Au C.P e)
  {ys:List (List Ab)}{ns:List Value}{v:Value}(lF:AB E ys.flatten ns)(hS:Src C.P w t ty ts e i zz v ys.length ns){x z:Ab}{u:Value}{H':Aa}(hx:A3 E x u)(h:IC e (Au C.P e) (FO C.P e) x ys H=some (z,H')):∃r w' E',(Builtin.append_ ts ty #[u,v]).run C.P w=.ok r w'/\A3 E' z r/\Sim E' H' w'/\Cf E H w E' H' w':=by
 have qA:FO C.P e=i.bytes:=by simp[FO,hi]
 unfold IC at h;split at h
 ·rename_i h0;have done:∀ad len cap,u=.slice ad len cap->len<=cap->x=z/\H=H'->∃r w' E',(Builtin.append_ ts ty #[u,v]).run C.P w=.ok r w'/\A3 E' z r/\Sim E' H' w'/\Cf E H w E' H' w':=by rintro ad len cap rfl hle ⟨rfl,rfl⟩;exact⟨_,w,E,hS.zero h0 ad len cap hle,hx,hs,.refl _ _ _⟩
  split at h
  ·rename_i es tk;split at h
   injection h with h;simp only[Wh]at h;cases hx with|sl0 ht ha=>exact done _ _ _ rfl (Wi _) h|sl f hl hI hm hv hc ht=>exact done _ _ _ rfl hc h
   cases h
  ·rename_i id g off len cap sz' ex;split at h
   ·injection h with h;simp only[Wh]at h;cases hx with
    |ms p1 p2 p3 p4 p5 p6=>exact done _ _ _ rfl (by omega) h
   cases h
  cases h
 ·rename_i h0;have hpos:0<ys.length:=by omega
  have cR:ns.length=ys.length*Au C.P e:=by rw[hS.len,aK]
  split at h
  ·rename_i es;split at h
   ·rename_i bL;obtain⟨aD,gT,gS⟩:=bL;injection h with h;simp only[Wh]at h;obtain⟨rfl,rfl⟩:=h;have hes:∀x∈es,x.length=Au C.P e:=(by simpa using aD);obtain⟨adx,capx,rfl,hx1,hx2,jR,qH,us,lW,uL⟩:=Mp hs hx hes;have hcap:capx=es.length:=jR;subst hcap;have gN:us.length=es.length*Au C.P e:=(by rw[<-lW.1,Dv es hes]);have iL:(es.length+ys.length)*i.bytes<=140737488355328:=(by rw[<-qA];exact gT);have fin:∀(cap2:Nat),es.length+ys.length<=cap2->cap2<=9223372036854775807->(Builtin.append_ ts ty #[.slice adx es.length es.length,v]).run C.P w=.ok (.slice (some ⟨w.heap.size,0,none⟩) (es.length+ys.length) cap2) (w.drew.alloc (.cells (us.toArray++ns.toArray++Builtin.zeroCells zz.cells (cap2-(es.length+ys.length))) e)) ->
      ∃r w' E',(Builtin.append_ ts ty #[.slice adx es.length es.length,v]).run C.P w=.ok r w'/\A3 E' (.ms H.length 0 0 (es.length+ys.length) (es.length+ys.length) (Au C.P e) false) r/\Sim E' (H++[.buf 0 (es++ys).flatten e (Au C.P e)]) w'/\Cf E H w E' (H++[.buf 0 (es++ys).flatten e (Au C.P e)]) w':=by
     intro cap2 pA iX aC;obtain⟨all,gL⟩:∃all,all=us.toArray++ns.toArray++Builtin.zeroCells zz.cells (cap2-(es.length+ys.length)):=⟨_,rfl⟩;rw[<-gL]at aC;have aW:all.size=cap2*Au C.P e:=(by rw[gL];simp only[YB,Y8,size_zeroCells,iZ,gN,cR];rw[<-WB,<-WB];congr 1;omega);have dI:(es++ys).flatten.length=us.length+ns.length:=(by rw[XW,VR,lW.1,lF.1]);have hrel:AB E (es++ys).flatten (all.toList.take (es++ys).flatten.length):=(by have e1:all.toList.take (es++ys).flatten.length=us++ns:=(by rw[dI,gL];simp[List.take_append];rw[VW (by omega)]);rw[e1,XW];exact lW.append lF);have dA:(w.drew.alloc (.cells all e)).heap[w.heap.size]? = some (.cells all e (0,0)):=(by show(w.heap.push _)[w.heap.size]? = _;simp);have aL:∀g,0<=g->E.φ H.length g=none/\E.κ H.length g=none:=λg _=>⟨by
      cases hx:E.φ H.length g with
      |none=>rfl
      |some b=>have:=hs.dom _ _ _ hx;omega,by
      cases hx:E.κ H.length g with
      |none=>rfl
      |some b=>have:=hs.domk _ _ _ hx;omega⟩
     obtain⟨s1,s2⟩:=TL (hs.dead) (id:=H.length) (ng:=0) (b':=w.heap.size) (cap2:=cap2) (sz:=Au C.P e) (e:=e) (B:=.dead) (by simp) aL (w':=w.drew.alloc (.cells all e)) (all:=all) (newc:=(es++ys).flatten) dA aW iX hrel
      (by rw[dI,aW,gN,cR,<-WB];exact Ww _ pA) (.inr (VM _)) (λx hx _=>by show(w.heap.push _)[x]? = _;rw[Xe,zYb (by omega)]) hs.imm_new (λb hb=>by cases hb) rfl rfl rfl (by show w.heap.size<=(w.heap.push _).size;simp)
     have aH:(H++[Blk.dead]).set H.length (.buf 0 (es++ys).flatten e (Au C.P e))=H++[.buf 0 (es++ys).flatten e (Au C.P e)]:=(by simp);rw[aH]at s1 s2;exact⟨_,_,_,aC,.ms (by simp[Env.setφκ]) pA (VM _) (λh=>by cases h) (λ_=>rfl) (λ_ _=>⟨by simp[Env.setφκ],rfl⟩),s1,(Cf.dead E H w).trans s2⟩
    have kM:Builtin.nextslicecap (es.length+ys.length) es.length*i.bytes<=281474976710656:=growslice_fits (by omega) iL;have lO:=grownCap_le_maxLen w (es.length+ys.length) es.length e (by unfold maxLen;omega);have mM:=grownCap_ge w (es.length+ys.length) es.length e;unfold maxLen at lO;cases adx with
    |none=>obtain⟨oY,_⟩:=hx2 rfl;subst oY;have nT:us=[]:=We (by simpa using gN);subst nT;have aC:=hS.nil hpos (by have q:=gS;simp only[zXk,VK]at q;omega) (by have q:=iL;simp only[zXk,VK]at q;omega);simp only[zXk,VK]at fin lO mM⊢;refine fin _ mM (by omega) ?_;rw[aC];simp
    |some ax=>have uM:∀(j:Nat)(u:Value),us[j]? = some u->w.cell? (ax.add j)=some u:=λj u hj=>(by obtain⟨q1,q2⟩:=uL ax rfl j u hj;obtain⟨b,o,sp⟩:=ax;simp at q1;subst q1;rw[DG];exact hs.imm _ _ _ q2);exact fin _ mM (by omega) (hS.grow hpos ax es.length es.length us (by rw[gN,aK]) uM (by omega) (by omega) kM)
   cases h
  ·rename_i id g off len cap sz';split at h
   ·rename_i g' cs e' sz'' hH;split at h
    ·rename_i bL;obtain⟨e0,e1,e2,e3,e4,oQ,gT,gS⟩:=bL;have e2:=e2.symm;subst e0;subst e1;subst e2;subst e3;subst e4;injection h with h;simp only[Wh]at h;obtain⟨rfl,rfl⟩:=h;obtain⟨b,cap2,all0,r1,r2,r3,r4,r5,r6,r7,r8⟩:=hs.blk id _ hH;have aR:=hs.late id _ _ hH rfl;have iL:(len+ys.length)*i.bytes<=140737488355328:=(by rw[<-qA];exact gT);cases hx with
     |ms p1 p2 p3 p4 p5 p6=>
      rename_i off' cap' b1;rw[r1]at p1;cases p1;obtain⟨q1,q2⟩:=p6 rfl rfl;rw[r2]at q1;cases q1;subst q2;have holds:(all0.toList.take (len*Au C.P e)).length=len*Au C.P e:=(by simp;omega);have mY:AB E (cs.take (len*Au C.P e)) (all0.toList.take (len*Au C.P e)):=by
       have:=r7.take (len*Au C.P e)
       rwa [List.take_take,WK oQ]at this
      have dI:(cs.take (len*Au C.P e)++ys.flatten).length=len*Au C.P e+ns.length:=(by rw[VR,lF.1];simp;omega);by_cases aN:len+ys.length<=cap2
      ·have bV:len*i.size+ns.length<=all0.size:=(by rw[cR,aK,r4,<-WB];exact Ww _ aN);have aC:=hS.room hpos b len cap2 all0 r3 aN bV;rw[aK]at aC bV;obtain⟨all,aD⟩:∃all:Array Value,all=(all0.toList.take (len*Au C.P e)++ns++all0.toList.drop (len*Au C.P e+ns.length)).toArray:=⟨_,rfl⟩;rw[<-aD]at aC;have aW:all.size=cap2*Au C.P e:=(by rw[<-r4,aD];simp;omega);have hrel:AB E (cs.take (len*Au C.P e)++ys.flatten) (all.toList.take (cs.take (len*Au C.P e)++ys.flatten).length):=by
        have e1:all.toList.take (cs.take (len*Au C.P e)++ys.flatten).length=all0.toList.take (len*Au C.P e)++ns:=by
         rw[dI,aD];have:(all0.toList.take (len*Au C.P e)++ns).length=len*Au C.P e+ns.length:=(by rw[VR,holds]);rw[List.toList_toArray,<-this,List.take_left']
         rfl
        rw[e1];exact mY.append lF
       obtain⟨s1,s2⟩:=TL hs (id:=id) (ng:=g'+1) (b':=b) (cap2:=cap2) (sz:=Au C.P e) (e:=e) hH (λg hg=>aR g (by omega)) (w':=w.setRow b all) (all:=all) (newc:=cs.take (len*Au C.P e)++ys.flatten) (setRow_heap w b all0 all _ _ r3) aW r6 hrel
        (by rw[dI,aW,cR,<-WB];exact Ww _ aN) (.inl r1) (λx hx hne=>setRow_other w b x all (λe=>hne (by rw[e];exact r1))) r8 (λb' hb'=>by simp only[CE]at hb';rw[r1]at hb';cases hb';exact r8) rfl rfl rfl (by simp)
       exact⟨_,_,_,aC,.ms (by simp[Env.setφκ]) aN (VM _) (λh=>by cases h) (λ_=>rfl) (λ_ _=>⟨by simp[Env.setφκ],rfl⟩),s1,s2⟩
      ·have kM:Builtin.nextslicecap (len+ys.length) cap2*i.bytes<=281474976710656:=growslice_fits (by omega) iL;have lO:=grownCap_le_maxLen w (len+ys.length) cap2 e (by unfold maxLen;omega);have mM:=grownCap_ge w (len+ys.length) cap2 e;unfold maxLen at lO;have aC:=hS.grow hpos ⟨b,0,none⟩ len cap2 (all0.toList.take (len*Au C.P e)) (by rw[holds,aK]) (λj u hj=>by rw[DG,Bo r3,VK];have:=IE hj;simpa using this) (by omega) (by omega) kM;obtain⟨all,aD⟩:∃all,all=(all0.toList.take (len*Au C.P e)).toArray++ns.toArray++Builtin.zeroCells zz.cells (grownCap w (len+ys.length) cap2 e-(len+ys.length)):=⟨_,rfl⟩;rw[<-aD]at aC;have aW:all.size=grownCap w (len+ys.length) cap2 e*Au C.P e:=(by rw[aD];simp only[YB,Y8,size_zeroCells,iZ,holds,cR];rw[<-WB,<-WB];congr 1;omega);have hrel:AB E (cs.take (len*Au C.P e)++ys.flatten) (all.toList.take (cs.take (len*Au C.P e)++ys.flatten).length):=by
        have e1:all.toList.take (cs.take (len*Au C.P e)++ys.flatten).length=all0.toList.take (len*Au C.P e)++ns:=by
         rw[dI,aD];have:(all0.toList.take (len*Au C.P e)++ns).length=len*Au C.P e+ns.length:=(by rw[VR,holds]);rw[Xz,Xz,List.toList_toArray,List.toList_toArray,<-this,List.take_left']
         rfl
        rw[e1];exact mY.append lF
       have dA:(w.drew.alloc (.cells all e)).heap[w.heap.size]? = some (.cells all e (0,0)):=(by show(w.heap.push _)[w.heap.size]? = _;simp);obtain⟨s1,s2⟩:=TL hs (id:=id) (ng:=g'+1) (b':=w.heap.size) (cap2:=grownCap w (len+ys.length) cap2 e) (sz:=Au C.P e) (e:=e) hH (λg hg=>aR g (by omega)) (w':=w.drew.alloc (.cells all e)) (all:=all) (newc:=cs.take (len*Au C.P e)++ys.flatten) dA aW (by omega) hrel
        (by rw[dI,aW,cR,<-WB];exact Ww _ mM) (.inr (VM _)) (λx hx _=>by show(w.heap.push _)[x]? = _;rw[Xe,zYb (by omega)]) hs.imm_new (λb' hb'=>by simp only[CE]at hb';rw[r1]at hb';cases hb';exact r8) rfl rfl rfl (by show w.heap.size<=(w.heap.push _).size;simp)
       exact⟨_,_,_,aC,.ms (by simp[Env.setφκ]) mM (VM _) (λh=>by cases h) (λ_=>rfl) (λ_ _=>⟨by simp[Env.setφκ],rfl⟩),s1,s2⟩
    cases h
   cases h
  cases h
theorem Vhc {e:TypeId}{sz bytes:Nat}{x y:Ab}{p:Ab×Aa}(bT:∀s,y≠.str s)(h:Gg e sz bytes x y H=some p):((Qu sz y H).bind λys=>IC e sz bytes x ys H)=some p:=by cases y<;>first | exact h | exact zYf rfl (bT _)
theorem Vb3 {e:TypeId}{sz bytes:Nat}{x y:Ab}{p:Ab×Aa}(h:Vb4 e sz bytes x y H=some p):∃s,y=.str s/\((Qu sz y H).bind λys=>IC e sz bytes x ys H)=some p:=by cases y<;>first | exact⟨_,rfl,h⟩ | cases h
theorem TP (hs:Sim E H w){t ty u2 e:TypeId}{x y z:Ab}{u v:Value}{H':Aa}(hu:C.P.underlying t=some (.slice e))(hk:okT C.P e=true)(hx:A3 E x u)(hy:A3 E y v)
  (hcase:(u2=t/\∀s,y≠.str s)\/(C.P.underlying u2=some .string/\∃s,y=.str s))(h:((Qu (Au C.P e) y H).bind λys=>IC e (Au C.P e) (FO C.P e) x ys H)=some (z,H')):∃r w' E',(Builtin.append_ #[t,u2] ty #[u,v]).run C.P w=.ok r w'/\A3 E' z r/\Sim E' H' w'/\Cf E H w E' H' w':=by
 obtain⟨_,hsz,_,jA,i,zz,hi,hz,aK⟩:=CG hk;have iZ:zz.cells.size=Au C.P e:=jA zz (by simp[hi,hz]);cases gP:Qu (Au C.P e) y H with
 |none=>simp[gP]at h
 |some ys=>
  simp only[gP,zXa]at h;rcases hcase with ⟨rfl,pL⟩ | ⟨uQ,s,rfl⟩
  ·have wQ:C8 (Au C.P e) y H=some ys:=(by cases y<;>first | exact gP | exact zYf rfl (pL _));obtain⟨ns,h1,h2,h3⟩:=Ves (ty:=ty) hs hu hi hz aK hsz hy pL wQ;exact TQ hs hu hi hz aK hsz iZ h1 h3 hx h
  ·simp only[Qu]at gP;split at gP
   rename_i h1;injection gP with gP;subst gP;obtain⟨ns,g1,g2⟩:=Vdl (ty:=ty) hs hu uQ hi hz (by rw[aK];exact h1) s;rw[hy.str_inv];refine TQ hs hu hi hz aK hsz iZ g1 ?_ hx h;simpa using g2;cases gP

end
end Go.Gm
