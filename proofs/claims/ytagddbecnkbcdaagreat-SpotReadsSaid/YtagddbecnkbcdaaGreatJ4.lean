/- Texts of this proof, joined. -/
import Derived.Test.YtagddbecnkbcdaaGreatJ2
import Derived.Test.YtagddbecnkbcdaaGreatJ3
import Derived.RangeFuncBox
import Derived.RangeFuncLeaves
import Derived.Shelf.Abstract
import Derived.WalkKit
import Derived.OwnWalkIn
import Derived.TacticsInMore
import Derived.LoopNIn
import Derived.LoopIn
import Derived.Test.YtagddbecnkbcdaaGreatProg
import Derived.KernelRfl
import Derived.Calls
set_option linter.unusedVariables false
set_option linter.unusedSimpArgs false
namespace Go.Gm
theorem GMb:(((((((∀ {α β:Type} (a:α) (f:α→Option β),Option.bind (Option.some a) f=f a) ∧
 (∀(v:Ab) (l:List Ab),ag (v::l) 0=v)) ∧
 ((∀(a v:Ab) (l:List Ab),ag (a::v::l) 1=v) ∧
 (∀(a b v:Ab) (l:List Ab),ag (a::b::v::l) 2=v))) ∧
 (((∀(a b c v:Ab) (l:List Ab),ag (a::b::c::v::l) 3=v) ∧
 (∀(a b c d v:Ab) (l:List Ab),ag (a::b::c::d::v::l) 4=v)) ∧
 ((∀(a b c d e v:Ab) (l:List Ab),ag (a::b::c::d::e::v::l) 5=v) ∧
 (∀ {ek:EqK} {k:IntKind} {a b:Int},Ae ek BinOp.lss (Ab.int k a) (Ab.int k b)=Option.some (Ab.bool (Decidable.decide (a<b))))))) ∧
 ((((∀ {ek:EqK} {k:IntKind} {a b:Int},Ae ek BinOp.gtr (Ab.int k a) (Ab.int k b)=Option.some (Ab.bool (Decidable.decide (a>b)))) ∧
 (∀ {ek:EqK} {k:IntKind} {a b:Int},Ae ek BinOp.leq (Ab.int k a) (Ab.int k b)=Option.some (Ab.bool (Decidable.decide (a≤b))))) ∧
 ((∀ {ek:EqK} {k:IntKind} {a b:Int},Ae ek BinOp.geq (Ab.int k a) (Ab.int k b)=Option.some (Ab.bool (Decidable.decide (a≥b)))) ∧
 (∀ {ek:EqK} {k:IntKind} {a b:Int},Ae ek BinOp.eql (Ab.int k a) (Ab.int k b)=Option.some (Ab.bool (a == b))))) ∧
 (((∀ {ek:EqK} {k:IntKind} {a b:Int},Ae ek BinOp.neq (Ab.int k a) (Ab.int k b)=Option.some (Ab.bool (a != b))) ∧
 (∀ {ek:EqK} {k:IntKind} {a b:Int},Ae ek BinOp.add (Ab.int k a) (Ab.int k b)=Option.some (Ab.int k (IntKind.wrap k (a+b))))) ∧
 ((∀ {ek:EqK} {k:IntKind} {a b:Int},Ae ek BinOp.sub (Ab.int k a) (Ab.int k b)=Option.some (Ab.int k (IntKind.wrap k (a-b)))) ∧
 ((∀ {ek:EqK} {k:IntKind} {a b:Int},Ae ek BinOp.mul (Ab.int k a) (Ab.int k b)=Option.some (Ab.int k (IntKind.wrap k (a*b)))) ∧
 (∀(a b:Out),Aj (Ab.bool Bool.true) a b=a)))))) ∧
 (((((∀(a b:Out),Aj (Ab.bool Bool.false) a b=b) ∧
 (∀(a b:Ab),A8 (Ab.bool Bool.true) a b=Option.some a)) ∧
 ((∀(a b:Ab),A8 (Ab.bool Bool.false) a b=Option.some b) ∧
 (∀ {kv:Ab→Out} (x:Option Ab),gk (Ab.bool Bool.true) Bool.true x kv=Option.bind x kv))) ∧
 (((∀ {kv:Ab→Out} (x:Option Ab),gk (Ab.bool Bool.false) Bool.false x kv=Option.bind x kv) ∧
 (∀ {kv:Ab→Out} (x:Option Ab),gk (Ab.bool Bool.true) Bool.false x kv=kv Cm)) ∧
 ((∀ {kv:Ab→Out} (x:Option Ab),gk (Ab.bool Bool.false) Bool.true x kv=kv Cm) ∧
 ((∀ {kv:Ab→Out} (w:Bool) (x:Option Ab),gk (Ab.tup []) w x kv=kv Cm) ∧
 (∀ {x:Option Ab} {p:Bool→Ab→Prop} {k:Ab→Out},gkc (Ab.bool Bool.true) Bool.true x p k=bC x (p Bool.true) k))))) ∧
 ((((∀ {x:Option Ab} {p:Bool→Ab→Prop} {k:Ab→Out},gkc (Ab.bool Bool.false) Bool.false x p k=bC x (p Bool.true) k) ∧
 (∀ {x:Option Ab} {p:Bool→Ab→Prop} {k:Ab→Out},gkc (Ab.bool Bool.true) Bool.false x p k=chk (p Bool.false Cm) (k Cm))) ∧
 ((∀ {x:Option Ab} {p:Bool→Ab→Prop} {k:Ab→Out},gkc (Ab.bool Bool.false) Bool.true x p k=chk (p Bool.false Cm) (k Cm)) ∧
 (∀ {x:Option Ab} {p:Bool→Ab→Prop} {k:Ab→Out} {w:Bool},gkc (Ab.tup []) w x p k=chk (p Bool.false Cm) (k Cm)))) ∧
 (((∀ {v:Ab} {p:Ab→Prop} {k:Ab→Out},bC (Option.some v) p k=chk (p v) (k v)) ∧
 (∀ {x:Out},chk True x=x)) ∧
 ((∀ {H0 H:Aa} {k:Ab→Aa→Out} (x:Out),gbK H0 (Ab.bool Bool.true) Bool.true H x k=bK H0 x k) ∧
 ((∀ {H0 H:Aa} {k:Ab→Aa→Out} (x:Out),gbK H0 (Ab.bool Bool.false) Bool.false H x k=bK H0 x k) ∧
 (∀ {H0 H:Aa} {k:Ab→Aa→Out} (x:Out),gbK H0 (Ab.bool Bool.true) Bool.false H x k=k Cm H))))))) ∧
 ((((((∀ {H0 H:Aa} {k:Ab→Aa→Out} (x:Out),gbK H0 (Ab.bool Bool.false) Bool.true H x k=k Cm H) ∧
 (∀ {H0 H:Aa} {k:Ab→Aa→Out} (w:Bool) (x:Out),gbK H0 (Ab.tup []) w H x k=k Cm H)) ∧
 ((∀ {H0 H:Aa} {k:Ab→Aa→Out} (x:Out),gbP H0 (Ab.bool Bool.true) Bool.true H x k=bP H0 x k) ∧
 (∀ {H0 H:Aa} {k:Ab→Aa→Out} (x:Out),gbP H0 (Ab.bool Bool.false) Bool.false H x k=bP H0 x k))) ∧
 (((∀ {H0 H:Aa} {k:Ab→Aa→Out} (x:Out),gbP H0 (Ab.bool Bool.true) Bool.false H x k=k Cm H) ∧
 (∀ {H0 H:Aa} {k:Ab→Aa→Out} (x:Out),gbP H0 (Ab.bool Bool.false) Bool.true H x k=k Cm H)) ∧
 ((∀ {H0 H:Aa} {k:Ab→Aa→Out} (w:Bool) (x:Out),gbP H0 (Ab.tup []) w H x k=k Cm H) ∧
 (∀ {H:Aa} {k:Ab→Aa→Out} (x:Out),gbN (Ab.bool Bool.true) Bool.true H x k=AZ x k)))) ∧
 ((((∀ {H:Aa} {k:Ab→Aa→Out} (x:Out),gbN (Ab.bool Bool.false) Bool.false H x k=AZ x k) ∧
 (∀ {H:Aa} {k:Ab→Aa→Out} (x:Out),gbN (Ab.bool Bool.true) Bool.false H x k=k Cm H)) ∧
 ((∀ {H:Aa} {k:Ab→Aa→Out} (x:Out),gbN (Ab.bool Bool.false) Bool.true H x k=k Cm H) ∧
 (∀ {H:Aa} {k:Ab→Aa→Out} (w:Bool) (x:Out),gbN (Ab.tup []) w H x k=k Cm H))) ∧
 (((∀ {H:Aa} {k:Ab→Aa→Out} (v:Ab),AZ (Option.some (Res.ret v,H)) k=k v H) ∧
 (∀ {H0 H:Aa} {k:Ab→Aa→Out} (v:Ab),bK H0 (Option.some (Res.ret v,H)) k=k v H)) ∧
 ((∀ {H0 H:Aa} {k:Ab→Aa→Out} (v:Ab),bP H0 (Option.some (Res.ret v,H)) k=k v H) ∧
 ((∀ {H0 H:Aa} (v:Ab),rK H0 v H=Option.some (Res.ret v,H)) ∧
 (∀ {H H0:Aa} {v:Ab},rKN H0 v H=Option.some (Res.ret (forget v),H))))))) ∧
 (((((∀ {c:Bool},unA UnOp.not (Ab.bool c)=Option.some (Ab.bool !c)) ∧
 (∀ {H:Aa} (v:Ab),retV (Option.some v) H=Option.some (Res.ret v,H))) ∧
 ((∀ {H:Aa},A3 (Option.some H)=Option.some (Res.ret Ab.undef,H)) ∧
 (∀ {H:Aa} (v:Ab),BX (Option.some (v,H))=Option.some (Res.ret v,H)))) ∧
 (((∀ {H:Aa} {k:Ab→Aa→Out} (v:Ab),Ak (Option.some (v,H)) k=k v H) ∧
 (∀ {a b:Int},(a == b)=decide (a=b))) ∧
 ((∀ {a b:Int},(a != b) = !decide (a=b)) ∧
 (((!true)=false) ∧
 ((!false)=true))))) ∧
 (((((false=true)=False) ∧
 (∀(b:Bool),(false||b)=b)) ∧
 ((∀(b:Bool),(true||b)=true) ∧
 (∀(b:Bool),(b||false)=b))) ∧
 (((∀(b:Bool),(b||true)=true) ∧
 (∀(b:Bool),(b&&true)=b)) ∧
 ((∀(b:Bool),(true&&b)=b) ∧
 ((∀(b:Bool),(b&&false)=false) ∧
 (∀(b:Bool),(false&&b)=false)))))))):=
 ⟨⟨⟨⟨⟨⟨@BD,@Al⟩,⟨@Bb,@Bf⟩⟩,⟨⟨@B2,@BK⟩,⟨@D8,@Bj⟩⟩⟩,⟨⟨⟨@D7,@L9⟩,⟨@LC,@DN⟩⟩,⟨⟨@Io,@C2⟩,⟨@DM,⟨@Jp,@AV⟩⟩⟩⟩⟩,⟨⟨⟨⟨@AM,@CB⟩,⟨@Cz,@Jl⟩⟩,⟨⟨@Of,@VT⟩,⟨@Tq,⟨@gk_s,@Sw⟩⟩⟩⟩,⟨⟨⟨@S0,@Sx⟩,⟨@Sy,@XS⟩⟩,⟨⟨@Ta,@GI⟩,⟨@S9,⟨@SD,@SA⟩⟩⟩⟩⟩⟩,⟨⟨⟨⟨⟨@SC,@XV⟩,⟨@S1,@S4⟩⟩,⟨⟨@S2,@S3⟩,⟨@XT,@S5⟩⟩⟩,⟨⟨⟨@S8,@S6⟩,⟨@S7,@XU⟩⟩,⟨⟨@B6,@Fe⟩,⟨@CK,⟨@PZ,@Ek⟩⟩⟩⟩⟩,⟨⟨⟨⟨@Jq,@Iv⟩,⟨@AL,@Df⟩⟩,⟨⟨@Bo,@GP⟩,⟨@L8,⟨Zi,Zt⟩⟩⟩⟩,⟨⟨⟨@Bool.false_eq_true,@Bool.false_or⟩,⟨@Bool.true_or,@Bool.or_false⟩⟩,⟨⟨@Bool.or_true,@Bool.and_true⟩,⟨@Bool.true_and,⟨@Bool.and_false,@Bool.false_and⟩⟩⟩⟩⟩⟩⟩
theorem GMc:((∀(f:(List Ab→Aa→Out)→Out) (j:List Ab→Aa→Out),AH f j=f j)∧(∀h:Decidable True,@decide True h=true)∧(∀h:Decidable False,@decide False h=false)∧(∀(α:Type) (h:Decidable True) (t e:α),@ite α True h t e=t)∧(∀(α:Type) (h:Decidable False) (t e:α),@ite α False h t e=e)):=
 ⟨fun _ _=>rfl,fun _=>decide_true _,fun _=>decide_false _,fun _ _ _ _=>if_true _ _,fun _ _ _ _=>if_false _ _⟩
end Go.Gm
namespace Go.Proofs
open Go.RowKit Go.Shelf
attribute [local go_sem] Oper.semAt_some
def KB (n₀ Bs:Nat) (W W':World):Prop:=Below n₀ W W'∧W'.cell? ⟨Bs,0,none⟩=W.cell? ⟨Bs,0,none⟩
theorem KB.refl (n₀ Bs:Nat) (W:World):KB n₀ Bs W W:=⟨Below.refl _ _,rfl⟩
theorem KB.trans {n₀ Bs:Nat} {A B C:World} (h:KB n₀ Bs A B) (k:KB n₀ Bs B C):KB n₀ Bs A C:=⟨h.1.trans k.1,k.2.trans h.2⟩
def OE (n k:Nat):List (Fin n):=(List.finRange n).reverse.take k
theorem QF {n k:Nat} (h:k<n):OE n (k+1)=OE n k++[⟨n-1-k,by omega⟩]:=by
 unfold OE
 rw [List.take_add_one,List.getElem?_reverse (by simpa using h)]
 simp
 rw [List.getElem?_eq_getElem (by simp;omega)]
 simp
theorem backF_length {n k:Nat} (h:k≤n):(OE n k).length=k:=by simp [OE,h]
theorem SZ {n:Nat}:∀(k:Nat) (j:Fin n),k≤n→n-k≤j.1→j∈OE n k
 | 0,j,_,h=>by have:=j.2;omega
 | k+1,j,hk,h=>by
  rw [QF (by omega)]
  by_cases e:j.1=n-1-k
  ·exact List.mem_append_right _ (by simp;exact Fin.ext e)
  ·exact List.mem_append_left _ (SZ k j (by omega) (by omega))
set_option maxRecDepth 100000 in
set_option maxHeartbeats 2000000 in
theorem Tryz.back1_in (F:Fence) (n:Nat) (h229:F.fn 229) (hro:F.round=none) (hn:1≤n) (l Bs n₀ b off len cap:Nat) (ao:Option Addr) (hao:0<len→ao=some ⟨b,off,none⟩) (zf:Nat→Nat) (hreach:len≤1099511627776) (hb:b<n₀) (J Jx:List (Fin len)→World→Prop)
  (hY:∀pre (x:Fin len) W,J pre W→pre.length<len→YieldAt F (n-1) Tryz.prog l #[.int .i64 (x.1:Int),.int .u32 ((zf x.1:Nat):Int)] W fun e W'=>
   (e=.returned (.bool true)∧J (pre++[x]) W'∧KB n₀ Bs W W')∨(e=.returned (.bool false)∧Jx (pre++[x]) W'))
  (W:World) (hBs:W.cell? ⟨Bs,0,none⟩=some (.slice ao len cap)) (hc:∀j,j<len→W.cell? ⟨b,off+j,none⟩=some (.int .u32 ((zf j:Nat):Int))) (h0:J [] W) :
  CallsIn F n Tryz.prog 229 #[.func (.yield l) #[] #[],.pointer (some ⟨Bs,0,none⟩)] W fun e W'=>(∃v,e=.returned v) ∧
   ((∃ys,ys=OE len len∧J ys W')∨(∃pre,(∃k,k<len∧pre=OE len (k+1))∧Jx pre W')):=by
 refine callsIn_of_wp Tryz.func229 rfl h229 ?_ hro
 simp only [Tryz.ntmps229,List.size_toArray,List.length_cons,List.length_nil,Nat.reduceAdd,Nat.reduceSub,Array.replicate_succ,Array.replicate_zero,List.push_toArray,List.append_toArray,List.nil_append,List.cons_append]
 gi_wp2
 gi_loopw [3] (fun i wr=>∃k:Nat,k≤len∧i=.int .i64 ((len:Int)-1-k)∧J (OE len k) wr∧KB n₀ Bs W wr)
  (fun i _=>((intOf i)+1).toNat)
 case atStart=>exact ⟨0,Nat.zero_le _,by simp,h0,KB.refl _ _ _⟩
 case round=>
  obtain ⟨k,hk,rfl,hJs,hkb⟩:=hrel
  have hnx:=hkb.1
  have hBs':=hkb.2.trans hBs
  by_cases hlt:k<len
  ·have hao':=hao (by omega)
   subst hao'
   have hcx:=(hnx.cell (p:=⟨b,off+(len-1-k),none⟩) hb).trans (hc (len-1-k) (by omega))
   obtain ⟨fn,tmps,assign,body,hy,hR⟩:=hY _ ⟨len-1-k,by omega⟩ wr hJs (by rw [backF_length hk];exact hlt)
   dsimp only at hy
   have hlast:=QF hlt
   obtain ⟨i,hi⟩:∃i:Nat,i=len-1-k:=⟨_,rfl⟩
   have hil:i<len:=by omega
   obtain ⟨x,hx⟩:∃x:Fin len,x=⟨len-1-k,by omega⟩:=⟨_,rfl⟩
   rw [←hx]at hR hlast
   clear hx
   have hii:(len:Int)-1-(k:Int)=(i:Int):=by omega
   rw [←hi]at hcx hy
   have hstep:(i:Int)-1=(len:Int)-1-((k+1:Nat):Int):=by omega
   rw [hii]
   clear hi hii
   obtain ⟨z,hzz⟩:∃z:Nat,z=zf i:=⟨_,rfl⟩
   rw [←hzz]at hcx hy
   clear hzz
   clear hkb
   have hkb:Hid (KB n₀ Bs W wr):=⟨hnx,hBs'.trans hBs.symm⟩
   gi_wp2
   refine hR.mono ?_
   rintro e W3 (⟨rfl,hJ3,hk3⟩ | ⟨rfl,hJx3⟩)
   ·gi_wp2
    go_roundw
    case rel=>exact ⟨k+1,by omega,by simp,by rw [hlast];exact hJ3,hkb.out.trans hk3⟩
    case measure=>simp [intOf];omega
   ·gi_wp2
    refine bodyPost_ret (results_none rfl _ _ _) rfl ?_
    exact ⟨⟨_,rfl⟩,.inr ⟨_,⟨k,hlt,hlast.symm⟩,hJx3⟩⟩
  ·obtain rfl:k=len:=by omega
   gi_wp2
   go_end0
   exact ⟨⟨_,rfl⟩,.inl ⟨_,rfl,hJs⟩⟩
set_option maxHeartbeats 1000000 in
theorem Tryz.back_in (F:Fence) (n:Nat) (h205:F.fn 205) (hro:F.round=none) (a:Option Addr) (len cap:Nat) (w:World) :
  CallsIn F n Tryz.prog 205 #[.slice a len cap] w fun e w'=>e=.returned (.func (.func 229) #[] #[.pointer (some ⟨w.heap.size,0,none⟩)])∧w'=w.alloc (.cells #[.slice a len cap] 44):=by
 refine callsIn_of_wp Tryz.func205 rfl h205 ?_ hro
 simp only [Tryz.ntmps205,List.size_toArray,List.length_cons,List.length_nil,Nat.reduceAdd,Nat.reduceSub,Array.replicate_succ,Array.replicate_zero,List.push_toArray,List.append_toArray,List.nil_append,List.cons_append]
 gi_wp2
 go_ret
 exact ⟨rfl,rfl⟩
theorem Tryz.back_stops (F:Fence) (n:Nat) (h229:F.fn 229) (hro:F.round=none) (hn:1≤n) (Bs n₀ b off len cap:Nat) (ao:Option Addr) (hao:0<len→ao=some ⟨b,off,none⟩) (zf:Nat→Nat) (hreach:len≤1099511627776) (w:World) (hBs:Bs<w.heap.size) (hb:b<n₀) (hn₀:n₀≤w.heap.size)
  (hc:w.cell? ⟨Bs,0,none⟩=some (.slice ao len cap)) (hI:∀j,j<len→w.cell? ⟨b,off+j,none⟩=some (.int .u32 ((zf j:Nat):Int))) :
  SeqStopsK F n Tryz.prog 229 #[.pointer (some ⟨Bs,0,none⟩)] (fun x:Fin len=>#[Value.int .i64 (x.1:Int),Value.int .u32 ((zf x.1:Nat):Int)]) (KB n₀ Bs) (fun ys=>ys=OE len len)
   (fun pre=>∃k,k<len∧pre=OE len (k+1)) len w:=fun l J Jx W hW _ _ hY h0=>
 Tryz.back1_in F n h229 hro hn l Bs n₀ b off len cap ao hao zf hreach hb J Jx hY W ((hW.cell (p:=⟨Bs,0,none⟩) hBs).trans hc) (fun j hj=>(hW.cell (p:=⟨b,off+j,none⟩) (by show b<_;omega)).trans (hI j hj)) h0
end Go.Proofs
namespace Go.Gm
def Hf (l:List Nat):Nat→Nat
 | 0=>0
 | k+1=>if l[k]?.getD 0=0 then Hf l k else k+1
theorem QM (l:List Nat):∀k,Hf l k≤k
 | 0=>Yz _
 | k+1=>by
  have:=QM l k
  unfold Hf
  split <;> omega
theorem J3 {l:List Nat} (hx:Lim l):∀k,k≤l.length→l.take (Hf l k)=A4 (val (l.take k))
 | 0,_=>by
  have:A4 (val ([]:List Nat))=[]:=(NZ (l:=[]) ⟨fun x h=>(by cases h),fun x h=>(by cases h)⟩).symm
  simpa [Hf]using this.symm
 | k+1,hk=>by
  have hg:l[k]? = some l[k]:=Yu (by omega)
  have ht:l.take (k+1)=l.take k++[l[k]]:=Y5 (by omega)
  unfold Hf
  split
  ·rename_i h
   rw [J3 hx k (by omega),ht,Ci]
   rw [hg,Option.getD_some]at h
   rw [h]
   simp [val]
  ·rename_i h
   rw [hg,Option.getD_some]at h
   refine NZ ⟨fun x hxl=>hx x (Z1 hxl),fun x hxl=>?_⟩
   rw [ht,List.getLast?_concat]at hxl
   cases hxl
   exact h
theorem q_right {l:List Nat} {H:Aa} {id k:Nat} (hg:H[id]? = some (.cel 0 (flat cU l))) (hk:k≤l.length) (hl:l.length<9223372036854775807):Sh.fd (.ms id 0 0 k l.length 1 true) H=some (.ret (.bool (decide (k=0)||decide (l[k-1]?.getD 0≠0))),H):=by
 unfold Sh.fd
 cases k with
 | zero=>simp [A5]
 | succ k=>
  have hidx:=CJ (sz:=1) (id:=id) (n:=k+1) (K:=.i64) (g:=0) (off:=0) (cap:=l.length) (ex:=true) (i:=k) (by omega)
  simp only [Yy,YB]at hidx
  have hld:=Ih (f:=cU) (id:=id) (l:=l) (H:=H) (show A7 H id 0=some (flat cU l)by simp [A7,hg]) (i:=k) (by omega)
  have h0:¬((k+1:Nat):Int)=0:=by omega
  have hw:IntKind.i64.wrap (((k+1:Nat):Int)-1)=(k:Int):=by rw [Am] <;> omega
  have hgk:l[k]? = some l[k]:=Yu (by omega)
  simp only [show A5 (.ms id 0 0 (k+1) l.length 1 true)=some (.int .i64 ((k+1:Nat):Int)) from rfl,GMb,GMc,h0,hw,hidx,hld,YM,hgk,Option.getD_some,ZX]
  by_cases h:l[k]=0
  ·simp [h]
  ·have:¬(l[k]:Int)=0:=by omega
   simp [h,this]
theorem q_cut {l:List Nat} {H:Aa} {id:Nat} (hg:H[id]? = some (.cel 0 (flat cU l))) (hl:l.length<1152921504606846976):Sh.f0 (.ms id 0 0 l.length l.length 1 true) H=some (.ret (.ms id 0 0 (Hf l l.length) l.length 1 true),H):=by
 unfold Sh.f0
 refine Bk (σ:=Nat) (fun k=>k≤l.length∧Hf l k=Hf l l.length) (fun k=>[.ms id 0 0 k l.length 1 true]) (fun _=>H) (fun k=>k) (fun _=>some (.ret (.ms id 0 0 (Hf l l.length) l.length 1 true),H)) (fun k rec hi hrec=>?_) l.length ⟨Yz _,rfl⟩ (by omega)
 obtain ⟨hk,ht⟩:=hi
 unfold Sh.f1w
 simp only [Al,q_right hg hk (by omega),GMb,GMc]
 cases k with
 | zero=>simp [←ht,Hf,rKN,fin,forget,Eu,fgt]
 | succ k=>
  by_cases h:l[k]?.getD 0=0
  ·have hw:IntKind.i64.wrap (((k+1:Nat):Int)-1)=(k:Int):=by rw [Am] <;> omega
   have hsl:Bw 1 (.ms id 0 0 (k+1) l.length 1 true) none (some (.int .i64 (k:Int))) none=some (.ms id 0 0 k l.length 1 true):=by
    have:(0:Int)≤(k:Int):=by omega
    simp only [Bw,Bt,Option.bind_some,this,if_true,Int.toNat_natCast]
    rw [if_pos ⟨trivial,by omega,by omega,by omega⟩]
    simp
   have ht':Hf l k=Hf l l.length:=by rw [←ht];simp [Hf,h]
   have hr:=hrec k ⟨by omega,ht'⟩ (by omega)
   simp only [h,show A5 (.ms id 0 0 (k+1) l.length 1 true)=some (.int .i64 ((k+1:Nat):Int)) from rfl,GMb,GMc,hw,hsl,YM,ne_eq,not_true_eq_false,ZX]
   exact hr
  ·have ht':Hf l (k+1)=k+1:=by simp [Hf,h]
   rw [←ht,ht']
   simp only [h,GMb,GMc,YM,ne_eq,not_false_eq_true,ZX]
   simp [rKN,fin,forget,Eu,fgt]
open Go.Proofs
set_option maxRecDepth 100000
noncomputable def kK (kn kr:List Ab→Aa→Out):Ua
 | .normal,tm,H=>kn tm H
 | .ret,tm,H=>kr tm H
 | .pan v,_,H=>some (.pan v,H)
 | .exit _,_,_=>none
noncomputable def sfst:Code→Code
 | .seq a _=>a
 | c=>c
noncomputable def ssnd:Code→Code
 | .seq _ b=>b
 | c=>c
noncomputable def cmO:Orc:=ent 201 (ap1 Sh.f0) noO
noncomputable def WX:Cfg:=mkC Tryz.prog Gs false cmO
noncomputable def cdA:Code:=sfst (Hu Tryz.f156)
noncomputable def cdB:Code:=sfst (ssnd (Hu Tryz.f156))
noncomputable def cdC:Code:=sfst (ssnd (ssnd (Hu Tryz.f156)))
noncomputable def cdD:Code:=ssnd (ssnd (ssnd (Hu Tryz.f156)))
theorem body_156:Tryz.f156.body=some (.seq cdA (.seq cdB (.seq cdC cdD))):=by kernel_rfl
noncomputable def cmA (kn:List Ab→Aa→Out) (x0 x1:Ab) (H0:Aa):Out:=
 Ak (Bz true 1 x1 H0) fun b_41 H42=>
 Ak (Ax (some [(.int .i64 0)]) H42) fun x43 H44=>
 kn [x0,x1,.undef,b_41,x43,.undef,.undef,.undef,.undef,.undef,.undef,.undef,.undef,.undef,.undef,.undef,.undef,.undef,.undef,.undef,.undef,.undef,.undef,.undef,.undef,.undef,.undef,.undef,.undef,.undef,.undef,.undef,.undef,.undef,.undef,.undef,.undef,.undef,.undef] H44
noncomputable def cmB (kn:List Ab→Aa→Out) (x0 x1 x3 x4:Ab) (H0:Aa):Out:=
 AZ (Sh.f0 x0 H0) fun x41 H42=>
 bC (Ac false 1 x3 H42) (fun x43=>Ac false 1 x3 H0=some x43∧True) fun x43=>
 AZ (Sh.f0 x43 H42) fun x44 H45=>
 bK H0 (A3 (Af 1 x3 x44 H45)) fun _ H47=>
 kn [x41,x1,.undef,x3,x4,.undef,.undef,x0,x41,x43,x44,.undef,.undef,.undef,.undef,.undef,.undef,.undef,.undef,.undef,.undef,.undef,.undef,.undef,.undef,.undef,.undef,.undef,.undef,.undef,.undef,.undef,.undef,.undef,.undef,.undef,.undef,.undef,.undef] H47
noncomputable def cmC (kn kr:List Ab→Aa→Out) (x0 x3 x4:Ab) (H0:Aa):Out:=
 (A5 x0).bind fun x41=>
 (Ac false 1 x3 H0).bind fun x42=>
 (A5 x42).bind fun x43=>
 (Ae .none .neq x41 x43).bind fun x44=>
 Aj x44 (
 (A5 x0).bind fun x45=>
 (Ac false 1 x3 H0).bind fun x46=>
 (A5 x46).bind fun x47=>
 (Ae .none .lss x45 x47).bind fun x48=>
 Aj x48 (
 bK H0 (A3 (Af 1 x4 (.int .i64 (-1)) H0)) fun _ H50=>
 kr [x0,.undef,.undef,x3,x4,.undef,.undef,.undef,.undef,.undef,.undef,x0,x41,x42,x43,x44,x0,x45,x46,x47,x48,.undef,.undef,.undef,.undef,.undef,.undef,.undef,.undef,.undef,.undef,.undef,.undef,.undef,.undef,.undef,.undef,.undef,.undef] H50) (
 bK H0 (A3 (Af 1 x4 (.int .i64 1) H0)) fun _ H52=>
 kr [x0,.undef,.undef,x3,x4,.undef,.undef,.undef,.undef,.undef,.undef,x0,x41,x42,x43,x44,x0,x45,x46,x47,x48,.undef,.undef,.undef,.undef,.undef,.undef,.undef,.undef,.undef,.undef,.undef,.undef,.undef,.undef,.undef,.undef,.undef,.undef] H52)) (
 kn [x0,.undef,.undef,x3,x4,.undef,.undef,.undef,.undef,.undef,.undef,x0,x41,x42,x43,x44,.undef,.undef,.undef,.undef,.undef,.undef,.undef,.undef,.undef,.undef,.undef,.undef,.undef,.undef,.undef,.undef,.undef,.undef,.undef,.undef,.undef,.undef,.undef] H0)
theorem cmA_eq (kn kr:List Ab→Aa→Out) (x0 x1:Ab) (H:Aa):ev2 WX 39 cdA .lf (kK kn kr) [x0,x1,.undef,.undef,.undef,.undef,.undef,.undef,.undef,.undef,.undef,.undef,.undef,.undef,.undef,.undef,.undef,.undef,.undef,.undef,.undef,.undef,.undef,.undef,.undef,.undef,.undef,.undef,.undef,.undef,.undef,.undef,.undef,.undef,.undef,.undef,.undef,.undef,.undef] H=cmA kn x0 x1 H:=by kernel_rfl
theorem cmB_eq (kn kr:List Ab→Aa→Out) (x0 x1 x3 x4:Ab) (H:Aa):ev2 WX 39 cdB (.reg [0,1,2,3,4,5]) (kK kn kr) [x0,x1,.undef,x3,x4,.undef,.undef,.undef,.undef,.undef,.undef,.undef,.undef,.undef,.undef,.undef,.undef,.undef,.undef,.undef,.undef,.undef,.undef,.undef,.undef,.undef,.undef,.undef,.undef,.undef,.undef,.undef,.undef,.undef,.undef,.undef,.undef,.undef,.undef] H=cmB kn x0 x1 x3 x4 H:=by kernel_rfl
theorem cmC_eq (kn kr:List Ab→Aa→Out) (x0 x3 x4:Ab) (H:Aa):ev2 WX 39 cdC (.tw .lf (.tw (.tw (.tw .lf (.tw (.tw .lf .lf) .lf)) (.tw .lf .lf)) .lf)) (kK kn kr) [x0,.undef,.undef,x3,x4,.undef,.undef,.undef,.undef,.undef,.undef,.undef,.undef,.undef,.undef,.undef,.undef,.undef,.undef,.undef,.undef,.undef,.undef,.undef,.undef,.undef,.undef,.undef,.undef,.undef,.undef,.undef,.undef,.undef,.undef,.undef,.undef,.undef,.undef] H=cmC kn kr x0 x3 x4 H:=by kernel_rfl
structure SW {α:Type} (lt:α→α→Bool):Prop where
 asy:∀a b,lt a b=true→lt b a=false
 neg:∀a b c,lt a b=false→lt b c=false→lt a c=false
section
variable {α:Type} {lt:α→α→Bool}
def BC (lt:α→α→Bool) (a b:α):Bool:=!lt a b && !lt b a
def Fw (lt:α→α→Bool) (l m:List α):Prop:=∀a,l.filter (BC lt a)=m.filter (BC lt a)
def Ez (lt:α→α→Bool) (l:List α):Prop:=l.Pairwise fun a b=>lt b a=false
theorem SW.irr (h:SW lt) (a:α):lt a a=false:=by
 cases e:lt a a with
 | false=>rfl
 | true=>have:=h.asy a a e;rw [e]at this;cases this
theorem Rw (h:SW lt) (a:α):BC lt a a=true:=by unfold BC;rw [h.irr];rfl
theorem FR {a b:α}:BC lt a b=true↔lt a b=false∧lt b a=false:=by unfold BC;simp
theorem Fw.refl (l:List α):Fw lt l l:=fun _=>rfl
theorem Fw.trans {l m n:List α} (h:Fw lt l m) (k:Fw lt m n):Fw lt l n:=fun a=>(h a).trans (k a)
theorem Fw.app {l m l' m':List α} (h:Fw lt l m) (k:Fw lt l' m'):Fw lt (l++l') (m++m'):=fun a=>by
 rw [Zd,Zd,h a,k a]
theorem Fw.mem (hs:SW lt) {l m:List α} (h:Fw lt l m) {a:α}:a∈l↔a∈m:=by
 have e:∀l:List α,a∈l↔a∈l.filter (BC lt a):=fun l=>by rw [ZN];exact ⟨fun h=>⟨h,Rw hs a⟩,fun h=>h.1⟩
 rw [e l,e m,h a]
theorem HN {l:List α} {p:α→Bool} (h:∀a∈l,p a=false):l.filter p=[]:=by
 rw [List.filter_eq_nil_iff]
 intro a ha e
 rw [h a ha]at e;cases e
theorem Fw.swap (hs:SW lt) {u v:List α} (h:∀x∈u,∀y∈v,lt y x=true):Fw lt (u++v) (v++u):=fun a=>by
 rw [Zd,Zd]
 by_cases hu:∃x∈u,BC lt a x=true
 ·obtain ⟨x,hx,hxa⟩:=hu
  have hv:v.filter (BC lt a)=[]:=HN fun y hy=>by
   cases e:BC lt a y with
   | false=>rfl
   | true=>
    rw [FR]at e hxa
    have:=hs.neg y a x e.2 hxa.1
    rw [h x hx y hy]at this;cases this
  rw [hv,YP,List.nil_append]
 ·have:u.filter (BC lt a)=[]:=HN fun x hx=>by
   cases e:BC lt a x with
   | false=>rfl
   | true=>exact absurd ⟨x,hx,e⟩ hu
  rw [this,YP,List.nil_append]
theorem filter_eqv (hs:SW lt) {x y:α} (h:BC lt x y=true):BC lt x=BC lt y:=by
 rw [FR]at h
 funext a
 rw [YD,FR,FR]
 exact ⟨fun ⟨p,q⟩=>⟨hs.neg _ _ _ h.2 p,hs.neg _ _ _ q h.1⟩,fun ⟨p,q⟩=>⟨hs.neg _ _ _ h.1 p,hs.neg _ _ _ q h.2⟩⟩
structure Srt (lt:α→α→Bool) (l m:List α):Prop where
 srt:Ez lt m
 st:Fw lt l m
 len:m.length=l.length
theorem Nw {l m:List α} (h1:Ez lt l) (h2:Ez lt m) (h:∀a∈l,∀b∈m,lt b a=false):Ez lt (l++m):=Z0.2 ⟨h1,h2,h⟩
def swp (l:List α) (i j:Nat):List α:=match l[i]?,l[j]? with
 | some a,some b=>(l.set i b).set j a
 | _,_=>l
theorem set_at:∀(A:List α) (x y:α) (R:List α),(A++x::R).set A.length y=A++y::R
 | [],_,_,_=>rfl
 | a::A,x,y,R=>by
  show a::(A++x::R).set A.length y=_
  rw [set_at A x y R];rfl
theorem OK (l:List α) (i j:Nat):(swp l i j).length=l.length:=by
 unfold swp
 split
 ·rw [YW,YW]
 ·rfl
theorem get_at (A:List α) (x:α) (R:List α):(A++x::R)[A.length]? = some x:=by simp
theorem Ue (A M B:List α) (x y:α) {i j:Nat} (hi:i=A.length) (hj:j=A.length+1+M.length):swp (A++x::(M++y::B)) i j=A++y::(M++x::B)∧swp (A++x::(M++y::B)) j i=A++y::(M++x::B):=by
 subst hi
 have e:∀z:α,A++z::(M++y::B)=(A++z::M)++y::B:=fun z=>by simp
 have hlen:∀z:α,(A++z::M).length=j:=fun z=>by simp;omega
 have g1:(A++x::(M++y::B))[A.length]? = some x:=get_at _ _ _
 have g2:(A++x::(M++y::B))[j]? = some y:=by rw [e,←hlen x];exact get_at _ _ _
 have s1:∀z w:α,(A++z::(M++y::B)).set j w=A++z::(M++w::B):=fun z w=>by rw [e,←hlen z,set_at];simp
 constructor
 ·unfold swp
  rw [g1,g2]
  dsimp only
  rw [set_at,s1]
 ·unfold swp
  rw [g1,g2]
  dsimp only
  rw [s1,set_at]

end
section
variable {α:Type} {lt:α→α→Bool}
def IA (lt:α→α→Bool) (l:List α) (i j:Nat):Bool:=match l[i]?,l[j]? with
 | some x,some y=>lt x y
 | _,_=>false
theorem Uk {l:List α} {i j:Nat} (hi:i<l.length) (hj:j<l.length):IA lt l i j=lt l[i] l[j]:=by
 unfold IA;rw [Yu hi,Yu hj]
def KY (lt:α→α→Bool) (a:Nat):Nat→List α→List α
 | 0,l=>l
 | j+1,l=>if a<j+1∧IA lt l (j+1) j=true then KY lt a j (swp l (j+1) j)else l
theorem insJ_len (a:Nat):∀(j:Nat) (l:List α),(KY lt a j l).length=l.length
 | 0,l=>rfl
 | j+1,l=>by
  unfold KY
  split
  ·rw [insJ_len a j,OK]
  ·rfl
theorem insJ_ok (hs:SW lt) (A:List α) (x:α):∀(n:Nat) (S R:List α),S.length=n→Ez lt S→∃P,KY lt A.length (A.length+S.length) (A++(S++x::R))=A++(P++R)∧Srt lt (S++[x]) P
 | 0,S,R,hn,_=>by
  have:S=[]:=YE hn
  subst this
  refine ⟨[x],?_,⟨Zy _ _,.refl _,rfl⟩⟩
  show KY lt A.length (A.length+0) _=_
  rw [Nat.add_zero]
  cases hA:A.length with
  | zero=>rfl
  | succ k=>
   unfold KY
   rw [if_neg (by omega)];rfl
 | n+1,S,R,hn,hS=>by
  have hne:S≠[]:=fun e=>by rw [e]at hn;cases hn
  obtain ⟨T,y,rfl⟩:∃T y,S=T++[y]:=⟨S.dropLast,S.getLast hne,(List.dropLast_concat_getLast hne).symm⟩
  have hT:T.length=n:=by simpa using hn
  have hS':=hS
  unfold Ez at hS'
  rw [Z0]at hS'
  obtain ⟨hT1,_,hT2⟩:=hS'
  have hl:A++((T++[y])++x::R)=(A++T)++y::([]++x::R):=by simp
  have hAT:(A++T).length=A.length+T.length:=Y2
  have g1:IA lt (A++((T++[y])++x::R)) (A.length+T.length+1) (A.length+T.length)=lt x y:=by
   unfold IA
   have e1:(A++((T++[y])++x::R))[A.length+T.length+1]? = some x:=by
    have:A++((T++[y])++x::R)=(A++T++[y])++x::R:=by simp
    rw [this,show A.length+T.length+1=(A++T++[y]).length by simp;omega]
    exact get_at _ _ _
   have e2:(A++((T++[y])++x::R))[A.length+T.length]? = some y:=by
    rw [hl,←hAT];exact get_at _ _ _
   rw [e1,e2]
  have hlen:A.length+(T++[y]).length=A.length+T.length+1:=by simp;omega
  rw [hlen]
  unfold KY
  rw [g1]
  by_cases hxy:lt x y=true
  ·rw [if_pos ⟨by omega,hxy⟩,hl,(Ue (A++T) [] R y x hAT.symm (by rw [hAT];rfl)).2]
   obtain ⟨P,p1,p2⟩:=insJ_ok hs A x n T (y::R) hT hT1
   refine ⟨P++[y],?_,⟨?_,?_,by rw [Y2,p2.len];simp⟩⟩
   ·have:(A++T)++x::([]++y::R)=A++(T++x::(y::R)):=by simp
    rw [this,p1];simp
   ·refine Nw p2.srt (Zy _ _) fun a ha b hb=>?_
    rw [YI]at hb
    subst hb
    have:=(p2.st.mem hs).2 ha
    rcases YN.1 this with h | h
    ·exact hT2 a h b (by simp)
    ·rw [YI]at h;rw [h];exact hs.asy _ _ hxy
   ·refine Fw.trans ?_ (p2.st.app (.refl [y]))
    rw [Y1,Y1]
    exact (Fw.refl T).app (Fw.swap hs fun a ha b hb=>by
     rw [YI]at ha hb;rw [ha,hb];exact hxy)
  ·have hxy':lt x y=false:=by simpa using hxy
   rw [if_neg (fun h=>hxy h.2)]
   refine ⟨T++[y]++[x],by simp,⟨Nw hS (Zy _ _) fun a ha b hb=>?_,.refl _,rfl⟩⟩
   rw [YI]at hb
   subst hb
   rcases YN.1 ha with h | h
   ·exact hs.neg _ _ _ hxy' (hT2 a h y (by simp))
   ·rw [YI]at h;rw [h];exact hxy'
def TO (lt:α→α→Bool) (a:Nat):Nat→List α→List α
 | 0,l=>l
 | k+1,l=>KY lt a (a+1+k) (TO lt a k l)
theorem insN_len (a:Nat):∀(k:Nat) (l:List α),(TO lt a k l).length=l.length
 | 0,l=>rfl
 | k+1,l=>by unfold TO;rw [insJ_len,insN_len a k]
theorem insN_ok (hs:SW lt) (A:List α):∀(k:Nat) (S R:List α),S.length=k+1→∃P,TO lt A.length k (A++(S++R))=A++(P++R)∧Srt lt S P
 | 0,S,R,hn=>by
  obtain ⟨x,rfl⟩:=ZZ.1 hn
  exact ⟨[x],rfl,⟨Zy _ _,.refl _,rfl⟩⟩
 | k+1,S,R,hn=>by
  have hne:S≠[]:=fun e=>by rw [e]at hn;cases hn
  obtain ⟨T,y,rfl⟩:∃T y,S=T++[y]:=⟨S.dropLast,S.getLast hne,(List.dropLast_concat_getLast hne).symm⟩
  have hT:T.length=k+1:=by simpa using hn
  obtain ⟨P,p1,p2⟩:=insN_ok hs A k T (y::R) hT
  have hPl:P.length=k+1:=by rw [p2.len,hT]
  obtain ⟨P',q1,q2⟩:=insJ_ok hs A y P.length P R rfl p2.srt
  refine ⟨P',?_,⟨q2.srt,(p2.st.app (.refl [y])).trans q2.st,by rw [q2.len,Y2,Y2,p2.len]⟩⟩
  unfold TO
  have:A++((T++[y])++R)=A++(T++y::R):=by simp
  rw [this,p1,show A.length+1+k=A.length+P.length by omega]
  exact q1

end
section
variable {α:Type} {lt:α→α→Bool}
def swR (a b:Nat):Nat→List α→List α
 | 0,l=>l
 | k+1,l=>swp (swR a b k l) (a+k) (b+k)
theorem Uf (a b:Nat):∀(k:Nat) (l:List α),(swR a b k l).length=l.length
 | 0,l=>rfl
 | k+1,l=>by unfold swR;rw [OK,Uf a b k]
theorem swR_up (A M B U V:List α) (h:U.length=V.length):∀k,k≤U.length→swR A.length (A.length+U.length+M.length) k (A++(U++(M++(V++B))))=A++((V.take k++U.drop k)++(M++((U.take k++V.drop k)++B)))
 | 0,_=>by simp [swR]
 | k+1,hk=>by
  unfold swR
  rw [swR_up A M B U V h k (by omega)]
  have hku:k<U.length:=by omega
  have hkv:k<V.length:=by omega
  rw [YS hku,YS hkv,Y5 hku,Y5 hkv]
  have e:A++((V.take k++U[k]::U.drop (k+1))++(M++((U.take k++V[k]::V.drop (k+1))++B)))=(A++V.take k)++U[k]::((U.drop (k+1)++(M++U.take k))++V[k]::(V.drop (k+1)++B)):=by simp only [Y1,List.cons_append,List.nil_append]
  have h1:(V.take k).length=k:=by rw [YC];omega
  have h2:(U.take k).length=k:=by rw [YC];omega
  rw [e,(Ue (A++V.take k) (U.drop (k+1)++(M++U.take k)) (V.drop (k+1)++B) U[k] V[k] (by rw [Y2,h1]) (by simp only [Y2,h1,h2,YG];omega)).1]
  simp only [Y1,List.cons_append,List.nil_append]
theorem swR_ok (A M B U V:List α) (h:U.length=V.length) {a b n:Nat} (ha:a=A.length) (hb:b=A.length+U.length+M.length) (hn:n=U.length):swR a b n (A++(U++(M++(V++B))))=A++(V++(M++(U++B))):=by
 subst ha;subst hb;subst hn
 rw [swR_up A M B U V h U.length (Yz _),Y6 (by omega),Y6 (Yz _),Z6 (Yz _),Z6 (by omega)]
 simp
structure QG (A B W:List α) (m i j:Nat) (l:List α):Prop where
 ex:∃P u v S,l=A++(P++(u++(v++(S++B))))∧P++(v++(u++S))=W∧u.length=i∧v.length=j∧A.length+P.length+i=m
 pos:0<i∧0<j
theorem QG.start {A B U V:List α} (hU:0<U.length) (hV:0<V.length):QG A B (V++U) (A.length+U.length) U.length V.length (A++(U++(V++B))):=
 ⟨⟨[],U,V,[],by simp,by simp,rfl,rfl,by simp⟩,hU,hV⟩
theorem QG.hi {A B W l:List α} {m i j:Nat} (h:QG A B W m i j l) (hij:j<i):QG A B W m (i-j) j (swR (m-i) m j l):=by
 obtain ⟨⟨P,u,v,S,rfl,hW,hu,hv,hm⟩,h1,h2⟩:=h
 have hsp:u.take j++u.drop j=u:=Zk j u
 have l1:(u.take j).length=j:=by rw [YC];omega
 have l2:(u.drop j).length=i-j:=by rw [YG,hu]
 have e:A++(P++(u++(v++(S++B))))=(A++P)++(u.take j++(u.drop j++(v++(S++B)))):=by
  conv=>lhs;rw [←hsp]
  simp only [Y1]
 rw [e,swR_ok (A++P) (u.drop j) (S++B) (u.take j) v (by rw [l1,hv]) (by rw [Y2];omega) (by rw [Y2,l1,l2];omega) l1.symm]
 refine ⟨⟨P++v,u.drop j,u.take j,S,by simp,?_,l2,l1,by rw [Y2];omega⟩,by omega,h2⟩
 rw [←hW]
 conv=>rhs;rw [←hsp]
 simp only [Y1]
theorem QG.lo {A B W l:List α} {m i j:Nat} (h:QG A B W m i j l) (hij:i<j):QG A B W m i (j-i) (swR (m-i) (m+j-i) i l):=by
 obtain ⟨⟨P,u,v,S,rfl,hW,hu,hv,hm⟩,h1,h2⟩:=h
 have hsp:v.take (j-i)++v.drop (j-i)=v:=Zk (j-i) v
 have l1:(v.take (j-i)).length=j-i:=by rw [YC];omega
 have l2:(v.drop (j-i)).length=i:=by rw [YG,hv];omega
 have e:A++(P++(u++(v++(S++B))))=(A++P)++(u++(v.take (j-i)++(v.drop (j-i)++(S++B)))):=by
  conv=>lhs;rw [←hsp]
  simp only [Y1]
 rw [e,swR_ok (A++P) (v.take (j-i)) (S++B) u (v.drop (j-i)) (by rw [l2,hu]) (by rw [Y2];omega) (by rw [Y2,l1];omega) hu.symm]
 refine ⟨⟨P,v.drop (j-i),v.take (j-i),u++S,by simp,?_,l2,l1,hm⟩,h1,by omega⟩
 rw [←hW]
 conv=>rhs;rw [←hsp]
 simp only [Y1]
theorem QG.eq {A B W l:List α} {m i:Nat} (h:QG A B W m i i l):swR (m-i) m i l=A++(W++B):=by
 obtain ⟨⟨P,u,v,S,rfl,hW,hu,hv,hm⟩,h1,h2⟩:=h
 have e:A++(P++(u++(v++(S++B))))=(A++P)++(u++([]++(v++(S++B)))):=by simp
 rw [e,swR_ok (A++P) [] (S++B) u v (by omega) (by rw [Y2];omega) (by rw [Y2];simp;omega) hu.symm,←hW]
 simp
theorem QG.len {A B W l:List α} {m i j:Nat} (h:QG A B W m i j l):i≤m∧m+j≤l.length:=by
 obtain ⟨⟨P,u,v,S,rfl,hW,hu,hv,hm⟩,h1,h2⟩:=h
 simp only [Y2];omega
structure BsI (p:Nat→Bool) (s r i j:Nat):Prop where
 le:s≤i∧i≤j∧j≤r
 up:∀c,s≤c→c<i→p c=true
 dn:∀c,j≤c→c<r→p c=false
theorem BsI.start {p:Nat→Bool} {s r:Nat} (h:s≤r):BsI p s r s r:=⟨⟨Yz _,h,Yz _⟩,fun c _ _=>by omega,fun c _ _=>by omega⟩
theorem BsI.yes {p:Nat→Bool} {s r i j h:Nat} (k:BsI p s r i j) (hm:∀c d,s≤c→c≤d→d<r→p d=true→p c=true) (h1:i≤h) (h2:h<j) (hp:p h=true):BsI p s r (h+1) j:=by
 obtain ⟨⟨a,b,c⟩,d,e⟩:=k
 exact ⟨⟨by omega,by omega,c⟩,fun x hx hy=>hm x h hx (by omega) (by omega) hp,e⟩
theorem BsI.no {p:Nat→Bool} {s r i j h:Nat} (k:BsI p s r i j) (hm:∀c d,s≤c→c≤d→d<r→p d=true→p c=true) (h1:i≤h) (h2:h<j) (hp:p h=false):BsI p s r i h:=by
 obtain ⟨⟨a,b,c⟩,d,e⟩:=k
 refine ⟨⟨a,h1,by omega⟩,d,fun x hx hy=>?_⟩
 cases hq:p x with
 | false=>rfl
 | true=>have:=hm h x (by omega) hx hy hq;rw [hp]at this;cases this

end
section
variable {α:Type} {lt:α→α→Bool}
theorem HF {l:List α} (h:Ez lt l) (hs:SW lt) {i j:Nat} (hij:i≤j) (hj:j<l.length):lt l[j] (l[i]'(by omega))=false:=by
 by_cases e:i=j
 ·subst e;exact hs.irr _
 ·exact Qai.1 h i j (by omega) hj (by omega)
theorem If {l:List α} {n:Nat} {x:α} (h:x∈l.take n):∃i,∃hi:i<l.length,i<n∧l[i]=x:=by
 obtain ⟨i,hi,e⟩:=YX h
 rw [YC]at hi
 exact ⟨i,by omega,by omega,by rw [←e,Qbj]⟩
theorem Ig {l:List α} {n:Nat} {x:α} (h:x∈l.drop n):∃i,∃hi:i<l.length,n≤i∧l[i]=x:=by
 obtain ⟨i,hi,e⟩:=YX h
 rw [YG]at hi
 exact ⟨n+i,by omega,by omega,by rw [←e,Qac]⟩
theorem RV (hs:SW lt) {U V W1 W2:List α} {i k:Nat} (hU:Ez lt U) (hV:Ez lt V) (h1:∀x∈U.drop i,∀y∈V.take k,lt y x=true) (h2:∀x∈U.take i,∀y∈V.drop k,lt y x=false)
  (w1:Srt lt (U.take i++V.take k) W1) (w2:Srt lt (U.drop i++V.drop k) W2):Srt lt (U++V) (W1++W2):=by
 have eU:U.take i++U.drop i=U:=Zk i U
 have eV:V.take k++V.drop k=V:=Zk k V
 have hU':=hU
 have hV':=hV
 rw [←eU]at hU'
 rw [←eV]at hV'
 have pU:=(Z0.1 hU').2.2
 have pV:=(Z0.1 hV').2.2
 refine ⟨Nw w1.srt w2.srt fun a ha b hb=>?_,?_,?_⟩
 ·have ha':=(w1.st.mem hs).2 ha
  have hb':=(w2.st.mem hs).2 hb
  rcases YN.1 ha' with x | x <;> rcases YN.1 hb' with y | y
  ·exact pU a x b y
  ·exact h2 a x b y
  ·exact hs.asy _ _ (h1 b y a x)
  ·exact pV a x b y
 ·refine Fw.trans ?_ (w1.st.app w2.st)
  have e1:U++V=U.take i++((U.drop i++V.take k)++V.drop k):=by
   conv=>lhs;rw [←eU,←eV]
   simp only [Y1]
  have e2:U.take i++V.take k++(U.drop i++V.drop k)=U.take i++((V.take k++U.drop i)++V.drop k):=by simp only [Y1]
  rw [e1,e2]
  exact (Fw.refl _).app ((Fw.swap hs h1).app (.refl _))
 ·rw [Y2,w1.len,w2.len,Y2,Y2,Y2,YC,YC,YG,YG];omega
section
variable {U V A B:List α} {a m b mid s0 r0 s:Nat}
def UM (lt:α→α→Bool) (l:List α) (P:Nat) (c:Nat):Bool:=!IA lt l (P-c) c
theorem at_U (ha:A.length=a) {c:Nat} (h1:a≤c) (h2:c<a+U.length):(A++(U++(V++B)))[c]? = some (U[c-a]'(by omega)):=by
 rw [YO (by omega),Yx (by omega),ha,Yu]
theorem at_V (ha:A.length=a) (hm:a+U.length=m) {c:Nat} (h1:m≤c) (h2:c<m+V.length):(A++(U++(V++B)))[c]? = some (V[c-m]'(by omega)):=by
 rw [YO (by omega),YO (by omega),Yx (by omega),show c-A.length-U.length=c-m by omega,Yu]
theorem Ud (ha:A.length=a) (hm:a+U.length=m) {P c:Nat} (h1:a≤c) (h2:c<m) (h3:m≤P-c) (h4:P-c<m+V.length):UM lt (A++(U++(V++B))) P c = !lt (V[P-c-m]'(by omega)) (U[c-a]'(by omega)):=by
 unfold UM IA
 rw [at_V ha hm h3 h4,at_U ha h1 (by omega)]
theorem symP_mono (hs:SW lt) (hU:Ez lt U) (hV:Ez lt V) (ha:A.length=a) (hm:a+U.length=m) {P c d:Nat} (h1:a≤c) (hcd:c≤d) (h2:d<m) (h3:m≤P-d) (h4:P-c<m+V.length)
  (h:UM lt (A++(U++(V++B))) P d=true):UM lt (A++(U++(V++B))) P c=true:=by
 rw [Ud ha hm (by omega) h2 h3 (by omega)]at h
 rw [Ud ha hm h1 (by omega) (by omega) h4]
 simp only [Zv]at h ⊢
 have u:=HF hU hs (i:=c-a) (j:=d-a) (by omega) (by omega)
 have v:=HF hV hs (i:=P-d-m) (j:=P-c-m) (by omega) (by omega)
 exact hs.neg _ _ _ v (hs.neg _ _ _ h u)
theorem sym_split (hs:SW lt) (hU:Ez lt U) (hV:Ez lt V) (ha:A.length=a) (hm:a+U.length=m) (hb:m+V.length=b) (hmid:mid=(a+b) / 2) (hUp:0<U.length) (hVp:0<V.length)
  (h0:s0=if mid<m then mid+m-b else a) (hr:r0=if mid<m then mid else m) (k:BsI (UM lt (A++(U++(V++B))) (mid+m-1)) s0 r0 s s) :
  (∀x∈U.drop (s-a),∀y∈V.take (mid-s),lt y x=true)∧(∀x∈U.take (s-a),∀y∈V.drop (mid-s),lt y x=false)∧a≤s∧s≤m∧s≤mid∧m≤mid+m-s∧mid+m-s≤b:=by
 obtain ⟨⟨k1,_,k2⟩,k3,k4⟩:=k
 have hrange:a≤s∧s≤m∧s≤mid∧mid+m-s≤b:=by
  by_cases hc:mid<m
  ·rw [if_pos hc]at h0 hr;omega
  ·rw [if_neg hc]at h0 hr;omega
 refine ⟨fun x hx y hy=>?_,fun x hx y hy=>?_,by omega,by omega,by omega,by omega,by omega⟩
 ·obtain ⟨i,hi,hi2,rfl⟩:=Ig hx
  obtain ⟨j,hj,hj2,rfl⟩:=If hy
  have hlt:s<r0:=by
   by_cases hc:mid<m
   ·rw [if_pos hc]at hr;omega
   ·rw [if_neg hc]at hr;omega
  have:=k4 s (Yz _) hlt
  rw [Ud ha hm (by omega) (by omega) (by omega) (by omega)]at this
  simp only [Qbf]at this
  have u:=HF hU hs (i:=s-a) (j:=i) hi2 hi
  have v:=HF hV hs (i:=j) (j:=mid+m-1-s-m) (by omega) (by omega)
  cases e:lt V[j] U[i]with
  | true=>rfl
  | false=>
   have h9:=hs.neg _ _ _ v (hs.neg _ _ _ e u)
   rw [h9]at this;cases this
 ·obtain ⟨i,hi,hi2,rfl⟩:=If hx
  obtain ⟨j,hj,hj2,rfl⟩:=Ig hy
  have hlt:s0<s:=by
   by_cases hc:mid<m
   ·rw [if_pos hc]at h0;omega
   ·rw [if_neg hc]at h0;omega
  have:=k3 (s-1) (by omega) (by omega)
  rw [Ud ha hm (by omega) (by omega) (by omega) (by omega)]at this
  simp only [Zv]at this
  have u:=HF hU hs (i:=i) (j:=s-1-a) (by omega) (by omega)
  have v:=HF hV hs (i:=mid+m-1-(s-1)-m) (j:=j) (by omega) hj
  exact hs.neg _ _ _ v (hs.neg _ _ _ this u)

end
theorem one_up (hs:SW lt) {x:α} {V:List α} {k:Nat} (hV:Ez lt V) (h1:∀y∈V.take k,lt y x=true) (h2:∀y∈V.drop k,lt y x=false):Srt lt ([x]++V) (V.take k++([x]++V.drop k)):=by
 have:=RV (U:=[x]) (V:=V) (i:=0) (k:=k) (W1:=V.take k) (W2:=[x]++V.drop k) hs (Zy _ _) hV (fun a ha y hy=>by
  have:a=x:=by simpa using ha
  rw [this];exact h1 y hy) (fun a ha=>by simp at ha) ⟨Z3 (QaH k V) hV,Fw.refl _,rfl⟩
  ⟨Nw (Zy _ _) (Z3 (QaJ k V) hV) fun a ha y hy=>by rw [YI]at ha;rw [ha];exact h2 y hy,.refl _,rfl⟩
 exact this
theorem one_dn (hs:SW lt) {y:α} {U:List α} {i:Nat} (hU:Ez lt U) (h1:∀x∈U.take i,lt y x=false) (h2:∀x∈U.drop i,lt y x=true):Srt lt (U++[y]) (U.take i++([y]++U.drop i)):=by
 have:=RV (U:=U) (V:=[y]) (i:=i) (k:=1) (W1:=U.take i++[y]) (W2:=U.drop i) hs hU (Zy _ _) (fun x hx a ha=>by
  have:a=y:=by simpa using ha
  rw [this];exact h2 x hx) (fun x hx a ha=>by simp at ha)
  ⟨Nw (Z3 (QaH i U) hU) (Zy _ _) fun a ha x hx=>by rw [YI]at hx;rw [hx];exact h1 a ha,.refl _,rfl⟩
  ⟨Z3 (QaJ i U) hU,by simpa using Fw.refl _,by simp⟩
 simpa using this
def upR (a:Nat):Nat→List α→List α
 | 0,l=>l
 | k+1,l=>swp (upR a k l) (a+k) (a+k+1)
def dnR (m:Nat):Nat→List α→List α
 | 0,l=>l
 | k+1,l=>swp (dnR m k l) (m-k) (m-k-1)
theorem upR_ok (A B:List α) (x:α) (V:List α):∀k,k≤V.length→upR A.length k (A++([x]++(V++B)))=A++((V.take k++([x]++V.drop k))++B)
 | 0,_=>by simp [upR]
 | k+1,hk=>by
  have hkv:k<V.length:=hk
  unfold upR
  rw [upR_ok A B x V k (by omega)]
  have e:A++((V.take k++([x]++V.drop k))++B)=(A++V.take k)++x::([]++V[k]::(V.drop (k+1)++B)):=by
   rw [YS hkv];simp only [Y1,List.cons_append,List.nil_append]
  have h1:(V.take k).length=k:=by rw [YC];omega
  rw [e,(Ue (A++V.take k) [] (V.drop (k+1)++B) x V[k] (by rw [Y2,h1]) (by rw [Y2,h1];rfl)).1,Y5 hkv]
  simp only [Y1,List.cons_append,List.nil_append]
theorem dnR_ok (A B:List α) (y:α) (U:List α):∀k,k≤U.length→dnR (A.length+U.length) k (A++(U++([y]++B)))=A++((U.take (U.length-k)++([y]++U.drop (U.length-k)))++B)
 | 0,_=>by simp [dnR]
 | k+1,hk=>by
  unfold dnR
  rw [dnR_ok A B y U k (by omega)]
  obtain ⟨i,hi⟩:∃i,U.length=i+(k+1):=⟨U.length-(k+1),by omega⟩
  have h2:U.length-k=i+1:=by omega
  have h3:U.length-(k+1)=i:=by omega
  have hiu:i<U.length:=by omega
  rw [h2,h3]
  have h1:(U.take i).length=i:=by rw [YC];omega
  have e:A++((U.take (i+1)++([y]++U.drop (i+1)))++B)=(A++U.take i)++U[i]::([]++y::(U.drop (i+1)++B)):=by
   rw [Y5 hiu];simp only [Y1,List.cons_append,List.nil_append]
  rw [e,(Ue (A++U.take i) [] (U.drop (i+1)++B) U[i] y (i:=A.length+U.length-k-1) (j:=A.length+U.length-k) (by rw [Y2,h1];omega) (by rw [Y2,h1];simp;omega)).2,YS hiu]
  simp only [Y1,List.cons_append,List.nil_append]

end
section
variable {α:Type} {lt:α→α→Bool}
def PV (lt:α→α→Bool) (w:Nat) (l:List α):Prop:=∀(i j:Nat) (hj:j<l.length) (hi:i<j),i / w=j / w→lt l[j] (l[i]'(by omega))=false
structure Stg (lt:α→α→Bool) (w:Nat) (l:List α) (a:Nat) (l':List α):Prop where
 ex:∃P,l'=P++l.drop a∧P.length=a∧Fw lt (l.take a) P∧PV lt w P
theorem Stg.start (w:Nat) (l:List α):Stg lt w l 0 l:=⟨⟨[],by simp,rfl,by simpa using Fw.refl _,fun i j hj=>by simp at hj⟩⟩
theorem Stg.len {w:Nat} {l l':List α} {a:Nat} (h:Stg lt w l a l') (ha:a≤l.length):l'.length=l.length:=by
 obtain ⟨P,rfl,hP,_,_⟩:=h.ex
 rw [Y2,hP,YG];omega
theorem Wj {w a i:Nat} (hw:0<w) (hd:w ∣ a) (hi:i<w):(a+i) / w=a / w:=by
 obtain ⟨q,rfl⟩:=hd
 rw [Nat.mul_add_div hw,Nat.mul_div_cancel_left _ hw,ZD hi];omega
theorem div_less {w a i:Nat} (hw:0<w) (hd:w ∣ a) (hi:i<a):i / w<a / w:=by
 obtain ⟨q,rfl⟩:=hd
 rw [Nat.mul_div_cancel_left _ hw]
 rw [ZB hw,Z5];exact hi
theorem PV.app {w:Nat} {P S:List α} (hw:0<w) (hd:w ∣ P.length) (h:PV lt w P) (hS:Ez lt S):S.length≤w→PV lt w (P++S):=by
 intro hl i j hj hi he
 rw [Y2]at hj
 by_cases h1:j<P.length
 ·rw [List.getElem_append_left h1,List.getElem_append_left (by omega)]
  exact h i j h1 hi he
 ·by_cases h2:i<P.length
  ·have e1:=div_less hw hd h2
   have e2:=Wj hw hd (show j-P.length<w by omega)
   rw [show P.length+(j-P.length)=j by omega]at e2
   omega
  ·rw [Zw (by omega),Zw (by omega)]
   exact Qai.1 hS (i-P.length) (j-P.length) (by omega) (by omega) (by omega)
theorem Stg.all {w:Nat} {l l':List α} (h:Stg lt w l l.length l'):Fw lt l l'∧PV lt w l'∧l'.length=l.length:=by
 obtain ⟨P,h1,hP,hst,hb⟩:=h.ex
 rw [Z6 (Yz _),YP]at h1
 rw [Y6 (Yz _)]at hst
 subst h1
 exact ⟨hst,hb,hP⟩
theorem PV.block {w a:Nat} {l:List α} (hw:0<w) (hd:w ∣ a) (h:PV lt w l) (n:Nat) (hn:n≤w):Ez lt ((l.drop a).take n):=by
 refine Qai.2 fun i j hi hj hij=>?_
 rw [YC,YG]at hi hj
 rw [Qbj,Qbj,Qac,Qac]
 refine h (a+i) (a+j) (by omega) (by omega) ?_
 rw [Wj hw hd (by omega),Wj hw hd (by omega)]
theorem PV.whole {w:Nat} {l:List α} (hw:l.length≤w) (h:PV lt w l):Ez lt l:=by
 refine Qai.2 fun i j hi hj hij=>h i j hj hij ?_
 rw [ZD (by omega),ZD (by omega)]
theorem UN (hs:SW lt):∀l m:List α,(l.Pairwise fun a b=>lt a b=true)→(m.Pairwise fun a b=>lt a b=true)→(∀a,a∈l↔a∈m)→l=m
 | [],m,_,_,h=>by
  cases m with
  | nil=>rfl
  | cons y m=>have:=(h y).2 (by simp);cases this
 | x::l,m,hl,hm,h=>by
  cases m with
  | nil=>have:=(h x).1 (by simp);cases this
  | cons y m=>
   rw [ZY]at hl hm
   have hxy:x=y:=by
    rcases Zc.1 ((h x).1 (by simp))with e | e
    ·exact e
    ·rcases Zc.1 ((h y).2 (by simp))with e' | e'
     ·exact e'.symm
     ·have a1:=hm.1 x e
      have a2:=hl.1 y e'
      rw [hs.asy _ _ a1]at a2;cases a2
   subst hxy
   congr 1
   refine UN hs l m hl.2 hm.2 fun a=>?_
   have ne:∀ {k:List α},(∀a∈k,lt x a=true)→a∈k→a≠x:=fun hk ha e=>by
    have:=hk a ha
    rw [e,hs.irr]at this;cases this
   constructor
   ·intro ha
    rcases Zc.1 ((h a).1 (by simp [ha]))with e | e
    ·exact absurd e (ne hl.1 ha)
    ·exact e
   ·intro ha
    rcases Zc.1 ((h a).2 (by simp [ha]))with e | e
    ·exact absurd e (ne hm.1 ha)
    ·exact e
def cpF (lt:α→α→Bool):α→List α→List α
 | _,[]=>[]
 | x,y::t=>if BC lt y x then cpF lt y t else y::cpF lt y t
def cpL (lt:α→α→Bool):List α→List α
 | []=>[]
 | x::t=>x::cpF lt x t
theorem cpF_ok (hs:SW lt):∀(t:List α) (x:α),Ez lt (x::t)→((cpF lt x t).Pairwise fun a b=>lt a b=true)∧(∀z∈cpF lt x t,lt x z=true)∧∀z,z∈cpF lt x t↔BC lt z x=false∧(t.filter (BC lt z)).head? = some z
 | [],x,h=>⟨List.Pairwise.nil,fun z (hz:z∈[])=>(by cases hz),fun z=>(by simp [cpF])⟩
 | y::t,x,h=>by
  have h':=h
  unfold Ez at h'
  rw [ZY]at h'
  obtain ⟨hx,ht⟩:=h'
  obtain ⟨i1,i2,i3⟩:=cpF_ok hs t y ht
  have hyx:=hx y (by simp)
  unfold cpF
  by_cases he:BC lt y x=true
  ·rw [if_pos he]
   have hey:=filter_eqv hs he
   rw [FR]at he
   have hlt:∀z∈cpF lt y t,lt x z=true:=fun z hz=>by
    cases e:lt x z with
    | true=>rfl
    | false=>have:=hs.neg y x z he.1 e;rw [i2 z hz]at this;cases this
   refine ⟨i1,hlt,fun z=>?_⟩
   rw [i3 z]
   have e1:BC lt z y=BC lt z x:=by
    rw [YD,FR,FR]
    exact ⟨fun ⟨p,q⟩=>⟨hs.neg _ _ _ p he.1,hs.neg _ _ _ he.2 q⟩,fun ⟨p,q⟩=>⟨hs.neg _ _ _ p he.2,hs.neg _ _ _ he.1 q⟩⟩
   rw [e1]
   constructor
   ·rintro ⟨a,b⟩
    refine ⟨a,?_⟩
    rw [Zp,if_neg (by rw [e1,a];decide)];exact b
   ·rintro ⟨a,b⟩
    refine ⟨a,?_⟩
    rw [Zp,if_neg (by rw [e1,a];decide)]at b;exact b
  ·rw [if_neg he]
   have hxy:lt x y=true:=by
    cases e:lt x y with
    | true=>rfl
    | false=>exact absurd (FR.2 ⟨hyx,e⟩) he
   have hlt:∀z∈cpF lt y t,lt x z=true:=fun z hz=>by
    cases e:lt x z with
    | true=>rfl
    | false=>have:=hs.neg x z y e (hs.asy _ _ (i2 z hz));rw [hxy]at this;cases this
   refine ⟨ZY.2 ⟨i2,i1⟩,fun z hz=>?_,fun z=>?_⟩
   ·rcases Zc.1 hz with e | e
    ·rw [e];exact hxy
    ·exact hlt z e
   ·rw [Zc,i3 z,Zp]
    by_cases hzy:BC lt z y=true
    ·rw [if_pos hzy]
     have hzx:BC lt z x=false:=by
      cases e:BC lt z x with
      | false=>rfl
      | true=>
       rw [FR]at e hzy
       have:=hs.neg x z y e.2 hzy.1
       rw [hxy]at this;cases this
     rw [hzx,hzy]
     simp only [List.head?_cons,Y3,Qbe,false_and,or_false,true_and]
     exact ⟨fun h=>h.symm,fun h=>h.symm⟩
    ·rw [if_neg hzy]
     have hzy':BC lt z y=false:=by simpa using hzy
     rw [hzy']
     have hne:z≠y:=fun e=>by rw [e,Rw hs]at hzy';cases hzy'
     simp only [hne,false_or,true_and]
     constructor
     ·intro hb
      refine ⟨?_,hb⟩
      have hz:z∈cpF lt y t:=(i3 z).2 ⟨hzy',hb⟩
      cases e:BC lt z x with
      | false=>rfl
      | true=>rw [FR]at e;have:=hlt z hz;rw [e.2]at this;cases this
     ·exact fun h=>h.2
theorem cpL_ok (hs:SW lt) {l:List α} (h:Ez lt l):((cpL lt l).Pairwise fun a b=>lt a b=true)∧∀z,z∈cpL lt l↔(l.filter (BC lt z)).head? = some z:=by
 cases l with
 | nil=>exact ⟨List.Pairwise.nil,fun z=>by simp [cpL]⟩
 | cons x t=>
  obtain ⟨i1,i2,i3⟩:=cpF_ok hs t x h
  refine ⟨ZY.2 ⟨i2,i1⟩,fun z=>?_⟩
  show z∈x::cpF lt x t↔_
  rw [Zc,i3 z,Zp]
  by_cases hzx:BC lt z x=true
  ·rw [if_pos hzx,hzx]
   simp only [List.head?_cons,Y3,Qbe,false_and,or_false]
   exact ⟨fun h=>h.symm,fun h=>h.symm⟩
  ·rw [if_neg hzx]
   have hne:z≠x:=fun e=>by rw [e,Rw hs]at hzx;exact hzx rfl
   simp only [hne,false_or]
   exact ⟨fun h=>h.2,fun h=>⟨by simpa using hzx,h⟩⟩

end
def Da (L:List Nd) (i:Nat) (x:Nd) (c:Int):Bool:=
 decide (0≤c)&&(decide (x.lv=1→c≤255))&&decide (1<x.lv→0<c→c≤i∧∀y,L[(c-1).toNat]? = some y→y.lv=x.lv-1)
def G0 (L:List Nd) (i:Nat):Bool:=
 match L[i]? with
 | some x=>decide (1≤x.lv∧x.lv≤1329)&&(List.range 4).all fun k=>Da L i x (x.kid k)
 | none=>true
def AU (L:List Nd):Bool:=(List.range L.length).all (G0 L)
theorem X3 (L:List Nd) (tk:Tok) (H:Aa) (hL:L.length<1152921504606846976):Sh.f1q (.sl (enL cNd L) tk) H=some (.ret (.bool (AU L)),H):=by
 unfold Sh.f1q
 rw [show AU L=(List.range L.length).all (G0 L) from rfl]
 have:=FD L.length (G0 L) (fun i=>[.sl (enL cNd L) tk,.int .i64 (i:Int)]) H (some (.ret (.bool true),H)) (some (.ret (.bool false),H)) hL (fun rec i hi=>?_) (fun rec=>?_)
  (G:=fun rec1 vs H1=>Sh.f60 H rec1 (ag vs 0) (ag vs 1) H1)
 ·refine this.trans ?_
  cases (List.range L.length).all (G0 L) <;> rfl
 ·have hx:(i:Int)<(L.length:Int):=by omega
  have hg:L[i]? = some L[i]:=Yu hi
  unfold Sh.f60
  simp only [Al,Bb,Aw,BD,Bj,hx,decide_true,AV,Ay hi,An,A9,Nat.add_zero,BY]
  by_cases h1:L[i].lv<1
  ·have:G0 L i=false:=by simp only [G0,hg];simp;intro;omega
   simp [h1,this]
  ·by_cases h2:L[i].lv>1329
   ·have:G0 L i=false:=by simp only [G0,hg];simp;intro;omega
    simp [h1,h2,this,Ay hi]
   ·have hd:G0 L i=(List.range 4).all fun k=>Da L i L[i] (L[i].kid k):=by
     simp only [G0,hg];rw [decide_eq_true (by omega)];rfl
    simp only [h1,h2,decide_false,Of,BD,D7,Cz,AM,hd,A9,Nat.add_zero,BY,An,Ay hi]
    have:=FD 4 (fun k=>Da L i L[i] (L[i].kid k)) (fun k=>[.sl (enL cNd L) tk,.int .i64 (i:Int),.int .i64 (k:Int)]) H (rec [.sl (enL cNd L) tk,.int .i64 ((i+1:Nat):Int)] H) (some (.ret (.bool false),H)) (by decide) (fun rec2 k hk=>?_) (fun rec2=>?_)
     (G:=fun rec2 vs H1=>Sh.f5z H rec rec2 (ag vs 0) (ag vs 1) (ag vs 2) H1)
    ·exact this
    ·have hk':(k:Int)<4:=by omega
     unfold Sh.f5z
     simp only [Al,Bb,Bf,BD,Bj,hk',decide_true,AV,Ay hi,An,Dy hk,A9,Yy,YB,Dq hk,BY,Av (show k<9223372036854775807 by omega),C2,DN,D7]
     generalize L[i].kid k=c
     generalize hx':L[i]=x at h1 h2 ⊢
     by_cases hc:c<0
     ·have:Da L i x c=false:=by simp [Da];omega
      simp [hc,this,Ay hi,hx']
     ·obtain ⟨n,rfl⟩:=Zj (show 0≤c by omega)
      by_cases hl:x.lv=1
      ·by_cases h255:255<n
       ·have:Da L i x n=false:=by simp [Da,hl];omega
        have h256:(255:Int)<n:=by omega
        simp [hc,hl,h255,h256,this,Ay hi,hx']
       ·have:Da L i x n=true:=by simp [Da,hl];omega
        have h256:¬(255:Int)<n:=by omega
        simp [hc,hl,h255,h256,this,Ay hi,hx']
      ·have hl1:1<x.lv:=by omega
       by_cases hn:0<n
       ·by_cases hni:i<n
        ·have:Da L i x n=false:=by
          unfold Da
          rw [ZL];right
          rw [decide_eq_false_iff_not];intro h;have:=(h hl1 (by omega)).1;omega
         simp [hc,hl,hl1,hn,hni,this,Ay hi,hx']
        ·have hlt:n-1<L.length:=by omega
         have e1:((n:Int)-1).toNat=n-1:=by omega
         have hk2:Da L i x n=decide (L[n-1].lv=x.lv-1):=by
          unfold Da
          rw [e1,Yu hlt,YD]
          simp only [Y7,decide_eq_true_eq,Y3,forall_eq']
          constructor
          ·intro h;exact (h.2 hl1 (by omega)).2
          ·intro h;exact ⟨⟨by omega,by omega⟩,fun _ _=>⟨by omega,h⟩⟩
         have hw:IntKind.i64.wrap (x.lv-1)=x.lv-1:=Am (by omega) (by omega)
         simp [hc,hl,hl1,hn,hni,hk2,Iq (show 0<n by omega) (by omega),Ay hlt,Ay hi,hx',hw]
         by_cases he:L[n-1].lv=x.lv-1 <;> simp [he]
       ·have:Da L i x n=true:=by
         unfold Da
         simp only [Y7,decide_eq_true_eq]
         exact ⟨⟨by omega,by omega⟩,fun _ _=>by omega⟩
        simp [hc,hl,hl1,hn,this,Ay hi,hx']
    ·unfold Sh.f5z
     simp [Av (show i<9223372036854775807 by omega)]
 ·unfold Sh.f60
  simp
theorem AP {L:List Nd} (h:AU L=true) {i:Nat} (hi:i<L.length):1≤L[i].lv∧L[i].lv≤1329∧∀k,k<4→0≤L[i].kid k∧(L[i].lv=1→L[i].kid k≤255)∧(1<L[i].lv→0<L[i].kid k→L[i].kid k≤i∧∀y,L[(L[i].kid k-1).toNat]? = some y→y.lv=L[i].lv-1):=by
 have h1:=YH.1 h i (by simpa using hi)
 simp only [G0,Yu hi,Y7,decide_eq_true_eq,YH]at h1
 refine ⟨h1.1.1,h1.1.2,fun k hk=>?_⟩
 have h2:=h1.2 k (by simpa using hk)
 simp only [Da,Y7,decide_eq_true_eq]at h2
 exact ⟨h2.1.1,h2.1.2,h2.2⟩
def R0 (E:List Bool) (x:Nd):Bool:=(List.range 4).all fun k=>decide (x.kid k=0)||(decide (1<x.lv)&&E.getD (x.kid k).toNat true)
def AC (L:List Nd):List Bool:=L.foldl (fun E x=>E++[R0 E x]) [true]
theorem Pf (L:List Nd) (x:Nd):AC (L++[x])=AC L++[R0 (AC L) x]:=by simp [AC]
theorem D0 (L:List Nd):(AC L).length=L.length+1:=by
 rcases Ga L with rfl | ⟨l,a,rfl⟩
 ·rfl
 ·rw [Pf];have:=D0 l;simp [this]
termination_by L.length
decreasing_by (subst_vars;simp)
theorem Yf (L:List Nd) {i:Nat} (hi:i<L.length):AC (L.take (i+1))=AC (L.take i)++[R0 (AC (L.take i)) L[i]]:=by
 rw [Y5 hi,Pf]
theorem Jb (L:List Nd) (tk:Tok) (H:Aa) (hL:L.length<140737488355327) (hl:AU L=true):Sh.fk (.sl (enL cNd L) tk) H=some (.ret (.sl (enL cB (AC L)) .no),H):=by
 have hmk:=Fo (f:=cB) (a:=false) (n:=L.length+1) (bytes:=1) (H:=H) (by omega) (by omega)
 have hid:=CJ (sz:=1) (id:=H.length) (n:=L.length+1) (K:=.i64) (g:=0) (off:=0) (cap:=L.length+1) (ex:=true) (i:=0) (by omega)
 have hst:=DP (f:=cB) (sz:=1) (l:=List.replicate (L.length+1) false) (i:=0) (a:=true) (v:=.bool true) (H:=H++[.cel 0 (flat cB (List.replicate (L.length+1) false))]) (id:=H.length) (by simp) (by simp) rfl
 unfold Sh.fk
 simp only [Aw,BD,C2,Av (show L.length<9223372036854775807 by omega),hmk,Bo]
 simp only [Qa3,Nat.add_zero]at hid
 rw [show ((0:Nat):Int)=0 from rfl]at hid
 simp only [Qa3]at hst
 rw [hid]
 simp only [BD,hst,AL,CK,RX,RW]
 have key:=Ca (G:=fun rec1 vs H1=>Sh.f62 H rec1 (ag vs 0) (ag vs 1) (ag vs 2) H1) L.length (fun i=>[.sl (enL cNd L) tk,.ms H.length 0 0 (L.length+1) (L.length+1) 1 true,.int .i64 (i:Int)]) (fun i=>H++[.cel 0 (flat cB (AC (L.take i)++List.replicate (L.length-i) false))]) (some (.ret (.sl (enL cB (AC L)) .no),H)) (by omega) (fun rec i hi=>?_) (fun rec=>?_)
 ·have e:(List.replicate (L.length+1) false).set 0 true=AC (L.take 0)++List.replicate (L.length-0) false:=by simp [List.replicate_succ,AC]
  rw [e];exact key
 ·have hi':(i:Int)<(L.length:Int):=by omega
  obtain ⟨l1,l2,l3⟩:=AP hl hi
  have hEl:(AC (L.take i)).length=i+1:=by rw [D0];simp;omega
  unfold Sh.f62
  simp only [Al,Bb,Bf,Aw,BD,Bj,hi',decide_true,AV]
  have hs:∀k,k<4→1<L[i].lv→(AC (L.take i)++List.replicate (L.length-i) false).getD (L[i].kid k).toNat true=(AC (L.take i)).getD (L[i].kid k).toNat true:=by
   intro k hk h1
   obtain ⟨q1,q2,q3⟩:=l3 k hk
   have:(L[i].kid k).toNat<(AC (L.take i)).length:=by
    rw [hEl]
    by_cases h0:0<L[i].kid k
    ·have:=(q3 h1 h0).1;omega
    ·omega
   simp only [Y0,Yx this]
  have hb:∀k,k<4→1<L[i].lv→(L[i].kid k).toNat<L.length+1:=by
   intro k hk h1
   obtain ⟨q1,q2,q3⟩:=l3 k hk
   by_cases h0:0<L[i].kid k
   ·have:=(q3 h1 h0).1;omega
   ·omega
  have hEs:R0 (AC (L.take i)) L[i]=(List.range 4).all fun k=>decide (L[i].kid k=0)||(decide (1<L[i].lv)&&(AC (L.take i)++List.replicate (L.length-i) false).getD (L[i].kid k).toNat true):=by
   unfold R0
   rw [Qs,Qs]
   by_cases h1:1<L[i].lv
   ·simp only [hs 0 (by omega) h1,hs 1 (by omega) h1,hs 2 (by omega) h1,hs 3 (by omega) h1]
   ·simp only [h1,decide_false,Z7]
  have hset:(AC (L.take i)++List.replicate (L.length-i) false).set (i+1) (R0 (AC (L.take i)) L[i])=AC (L.take (i+1))++List.replicate (L.length-(i+1)) false:=by
   rw [Yf L hi,YR _ _ (by omega),hEl,YV,show L.length-i=(L.length-(i+1))+1 from by omega,List.replicate_succ,List.set_cons_zero]
   simp
  have hlen:(AC (L.take i)++List.replicate (L.length-i) false).length=L.length+1:=by simp [hEl];omega
  rw [←hset,hEs]
  generalize AC (L.take i)++List.replicate (L.length-i) false=E at hlen
  generalize hx:L[i]=x at l1 l2 l3 hb
  have hgc:A7 (H++[.cel 0 (flat cB E)]) H.length 0=some (flat cB E):=by simp
  refine Ca (G:=fun rec2 vs H1=>Sh.f61 H rec rec2 (ag vs 0) (ag vs 1) (ag vs 2) (ag vs 3) (ag vs 4) H1) 4 (fun k=>[.sl (enL cNd L) tk,.ms H.length 0 0 (L.length+1) (L.length+1) 1 true,.int .i64 (i:Int),.bool ((List.range k).all fun k=>decide (x.kid k=0)||(decide (1<x.lv)&&E.getD (x.kid k).toNat true)),.int .i64 (k:Int)]) (fun _=>H++[.cel 0 (flat cB E)]) _ (by decide) (fun rec2 k hk=>?_) (fun rec2=>?_)
  ·have hk':(k:Int)<4:=by omega
   obtain ⟨q1,q2,q3⟩:=l3 k hk
   have hb':=hb k hk
   unfold Sh.f61
   have hsucc:((List.range (k+1)).all fun k=>decide (x.kid k=0)||(decide (1<x.lv)&&E.getD (x.kid k).toNat true))=(((List.range k).all fun k=>decide (x.kid k=0)||(decide (1<x.lv)&&E.getD (x.kid k).toNat true))&&(decide (x.kid k=0)||(decide (1<x.lv)&&E.getD (x.kid k).toNat true))):=by
    rw [Qak,QaV];simp
   rw [hsucc]
   generalize ((List.range k).all fun k=>decide (x.kid k=0)||(decide (1<x.lv)&&E.getD (x.kid k).toNat true))=e
   simp only [Al,Bb,Bf,B2,BK,BD,Bj,hk',decide_true,AV,Ay hi,hx,An,Dy hk,A9,Yy,YB,Dq hk,BY,Av (show k<9223372036854775807 by omega),C2,DN,D7]
   obtain ⟨n,hn⟩:=Zj q1
   rw [hn]at hb' ⊢
   simp only [Int.toNat_natCast]at hb' ⊢
   cases e with
   | false=>simp
   | true=>
    by_cases h0:n=0
    ·subst h0;simp
    ·by_cases h1:1<x.lv
     ·have hnE:n<E.length:=by rw [hlen];exact hb' h1
      have hid2:=CJ (sz:=1) (id:=H.length) (n:=L.length+1) (K:=.i64) (g:=0) (off:=0) (cap:=L.length+1) (ex:=true) (i:=n) (hb' h1)
      simp only [Yy,YB]at hid2
      have hld:=Ih (f:=cB) hgc hnE
      simp [h0,h1,hx,Ay hi,hid2,hld,Yu hnE]
     ·simp [h0,h1,hx,Ay hi]
  ·have hid2:=CJ (sz:=1) (id:=H.length) (n:=L.length+1) (K:=.i64) (g:=0) (off:=0) (cap:=L.length+1) (ex:=true) (i:=i+1) (by omega)
   simp only [Yy,YB]at hid2
   have hst2:=DP (f:=cB) (sz:=1) (l:=E) (i:=i+1) (a:=(List.range 4).all fun k=>decide (x.kid k=0)||(decide (1<x.lv)&&E.getD (x.kid k).toNat true)) (H:=H++[.cel 0 (flat cB E)]) (id:=H.length) hgc (by omega) (v:=.bool ((List.range 4).all fun k=>decide (x.kid k=0)||(decide (1<x.lv)&&E.getD (x.kid k).toNat true))) rfl
   simp only [YB]at hst2
   unfold Sh.f61
   have hf:¬(((4:Nat):Int)<4):=by decide
   simp only [Al,Bb,Bf,B2,BK,BD,Bj,hf,decide_false,AM,C2,Av (show i<9223372036854775807 by omega),hid2,hst2,AL,CK,RX,RW]
 ·unfold Sh.f62
  have hgc:A7 (H++[.cel 0 (flat cB (AC L))]) H.length 0=some (flat cB (AC L)):=by simp
  have hfa:=Us (f:=cB) (b:=H.length) (d:=5) (cap:=L.length+1) (ex:=true) hgc (Yz _)
  rw [D0]at hfa
  have ht:L.take L.length=L:=Y6 (Yz _)
  simp only [Al,Bb,Bf,Aw,BD,Bj,Zl,decide_false,AM,ht,YV,List.replicate_zero,YP,Co,hfa,Option.map_some]
theorem X5 (L:List Nd) (tk:Tok) (n:Nat) (H:Aa) (hL:L.length<140737488355327) (hl:AU L=true) (hn:n≤L.length):Sh.f4h (.sl (enL cNd L) tk) (.int .i64 (n:Int)) H=some (.ret (.bool ((AC L).getD n true)),H):=by
 have hlt:n<(AC L).length:=by rw [D0];omega
 unfold Sh.f4h
 simp [Jb L tk H hL hl,Ay hlt,Y0,Yu hlt]
def AS (L:List Nd) (c:Int):Nd:=L.getD (c-1).toNat ⟨0,0,0,0,0⟩
def VP (L:List Nd) (E:List Bool) (x:Nd) (k j:Nat):Bool:=
 decide (j=3-k)||(if x.lv=2 then decide ((AS L (x.kid k)).kid j=0)else E.getD ((AS L (x.kid k)).kid j).toNat true)
def hol (L:List Nd) (E:List Bool) (x:Nd):Bool:=
 (List.range 4).all fun k=>decide (x.kid k=0)||(List.range 4).all (VP L E x k)
def Fq (L:List Nd) (n:Nat):Bool:=
 decide (n≠0)&&decide (2≤(AS L n).lv)&&hol L (AC L) (AS L n)
theorem Eo {L:List Nd} {c:Int} {n:Nat} (hc:c=((n+1:Nat):Int)) (h:n<L.length):AS L c=L[n]:=by
 have:(c-1).toNat=n:=by omega
 unfold AS;rw [this,Y0,Yu h];rfl
theorem Vb (L:List Nd) (tk:Tok) (n:Nat) (H:Aa) (hL:L.length<140737488355327) (hl:AU L=true) (hn:n≤L.length):Sh.f1r (.sl (enL cNd L) tk) (.int .i64 (n:Int)) H=some (.ret (.bool (Fq L n)),H):=by
 unfold Sh.f1r Fq
 cases n with
 | zero=>simp
 | succ n=>
  have hi:n<L.length:=hn
  have e0:¬((n+1:Nat):Int)=0:=by omega
  obtain ⟨l1,l2,l3⟩:=AP hl hi
  rw [Eo rfl hi]
  generalize hx:L[n]=x at l1 l2 l3
  have hw:IntKind.i64.wrap (((n+1:Nat):Int)-1)=(n:Int):=by rw [Am] <;> omega
  simp only [DN,GP,e0,decide_false,BD,Of,DM,hw,Ay hi,hx,An,A9,Nat.add_zero,BY,Bj,Cz]
  by_cases h2:x.lv<2
  ·have:¬2≤x.lv:=by omega
   simp [h2,this]
  ·have h2':2≤x.lv:=by omega
   simp only [h2,h2',decide_false,AM,Jb L tk H hL hl,Fe,decide_true,ne_eq,ZX,not_false_eq_true,Zu]
   have key:=FD (G:=fun rec1 vs H1=>Sh.f63 H rec1 (ag vs 0) (ag vs 1) (ag vs 2) (ag vs 3) H1) 4 (fun k=>decide (x.kid k=0)||(List.range 4).all (VP L (AC L) x k))
    (fun k=>[.sl (enL cNd L) tk,.int .i64 ((n+1:Nat):Int),.sl (enL cB (AC L)) .no,.int .i64 (k:Int)]) H (some (.ret (.bool true),H)) (some (.ret (.bool false),H)) (by decide) (fun rec k hk=>?_) (fun rec=>?_)
   ·refine key.trans ?_
    rw [show hol L (AC L) x=(List.range 4).all fun k=>decide (x.kid k=0)||(List.range 4).all (VP L (AC L) x k) from rfl]
    cases (List.range 4).all fun k=>decide (x.kid k=0)||(List.range 4).all (VP L (AC L) x k) <;> rfl
   ·have hk':(k:Int)<4:=by omega
    obtain ⟨q1,q2,q3⟩:=l3 k hk
    unfold Sh.f63
    simp only [Al,Bb,Bf,B2,BD,Bj,hk',decide_true,AV,DM,hw,Ay hi,hx,An,Dy hk,A9,Yy,YB,Dq hk]
    have hws:IntKind.i64.wrap ((k:Int)+1)=((k+1:Nat):Int):=Av (by omega)
    by_cases hc:x.kid k=0
    ·rw [Dd DU]
     unfold Sh.f52
     simp only [hc,decide_true,Qaa,if_true,Al,Bb,Bf,B2,BK,D8,Bj,BD,show ((0:Int)<4) from by decide,Jl,D7,show ¬((0:Int)>0) from by decide,decide_false,CB,AM,C2,hws]
    ·obtain ⟨m,hm⟩:∃m:Nat,x.kid k=((m+1:Nat):Int):=⟨(x.kid k-1).toNat,by omega⟩
     have h1:1<x.lv:=by omega
     obtain ⟨r1,r2⟩:=q3 h1 (by omega)
     have hmn:m<n:=by omega
     have hml:m<L.length:=by omega
     have hy:=r2 L[m] (by rw [show (x.kid k-1).toNat=m from by omega];exact Yu hml)
     obtain ⟨y1,y2,y3⟩:=AP hl hml
     have hE:∀j,j<4→2<x.lv→(L[m].kid j).toNat<(AC L).length:=by
      intro j hj h3
      obtain ⟨s1,s2,s3⟩:=y3 j hj
      rw [D0]
      by_cases h0:0<L[m].kid j
      ·have:=(s3 (by omega) h0).1;omega
      ·omega
     have hp:VP L (AC L) x k=fun j=>decide (j=3-k)||(if x.lv=2 then decide (L[m].kid j=0)else (AC L).getD (L[m].kid j).toNat true):=by
      funext j;unfold VP;rw [Eo hm hml]
     have hwm:IntKind.i64.wrap (((m+1:Nat):Int)-1)=(m:Int):=by rw [Am] <;> omega
     have hc':¬((m+1:Nat):Int)=0:=by omega
     simp only [hp,hm,hc',decide_false,ZE]
     generalize hyy:L[m]=y at y1 y2 y3 hy hE
     refine FD (G:=fun rec2 vs H1=>Sh.f52 H rec rec2 (ag vs 0) (ag vs 1) (ag vs 2) (ag vs 3) (ag vs 4) (ag vs 5) H1) 4 _
      (fun j=>[.sl (enL cNd L) tk,.int .i64 ((n+1:Nat):Int),.sl (enL cB (AC L)) .no,.int .i64 (k:Int),.int .i64 ((m+1:Nat):Int),.int .i64 (j:Int)]) H _ _ (by decide) (fun rec2 j hj=>?_) (fun rec2=>?_)
     ·have hj':(j:Int)<4:=by omega
      have hm0:((m+1:Nat):Int)>0:=by omega
      have hw3:IntKind.i64.wrap (3-(k:Int))=3-(k:Int):=Am (by omega) (by omega)
      have hjs:IntKind.i64.wrap ((j:Int)+1)=((j+1:Nat):Int):=Av (by omega)
      obtain ⟨s1,s2,s3⟩:=y3 j hj
      have hE':=hE j hj
      unfold Sh.f52
      simp only [Al,Bb,Bf,B2,BK,D8,Bj,BD,hj',decide_true,Jl,D7,hm0,CB,AV,DM,hw,hwm,hw3,Ay hml,hyy,Ay hi,hx,An,Dy hj,A9,Yy,Nat.add_zero,YB,Dq hj,BY,Io,L8,DN,GP,C2,hjs]
      obtain ⟨g,hg⟩:=Zj s1
      rw [hg]at hE' ⊢
      simp only [Int.toNat_natCast]at hE' ⊢
      by_cases h3k:j=3-k
      ·have h3:(j:Int)=3-(k:Int):=by omega
       simp only [BD,Al,Bb,Bf,B2,BK,D8,Bj,D7,L9,LC,DN,Io,GP,L8,C2,DM,Jp,AV,AM,CB,Cz,Jl,Of,VT,Tq,gk_s,Sw,S0,Sx,Sy,XS,Ta,GI,S9,SD,SA,SC,XV,S1,S4,S2,S3,XT,S5,S8,S6,S7,XU,B6,AH,decide_true,decide_false,Zi,Zt,Fe,CK,PZ,Ek,Jq,if_true,Y4,if_false,Iv,AL,Df,Bo,ZE,Qaa,QaM,Qa6,decide_eq_true h3,decide_eq_true h3k,Qaa]
      ·have h3:¬(j:Int)=3-(k:Int):=by omega
       simp only [h3k,h3,GMb,GMc,An,Ah,A9,Yy,Nat.add_zero,YB,BY,ZE]
       by_cases hx2:x.lv=2
       ·have hx3:¬(2:Int)>2:=by decide
        by_cases hg0:(g:Int)=0
        ·simp only [BD,Al,Bb,Bf,B2,BK,D8,Bj,D7,L9,LC,DN,Io,GP,L8,C2,DM,Jp,AV,AM,CB,Cz,Jl,Of,VT,Tq,gk_s,Sw,S0,Sx,Sy,XS,Ta,GI,S9,SD,SA,SC,XV,S1,S4,S2,S3,XT,S5,S8,S6,S7,XU,B6,AH,decide_true,decide_false,Zi,Zt,Fe,CK,PZ,Ek,Jq,if_true,Y4,if_false,Iv,AL,Df,Bo,ZE,Qaa,QaM,Qa6,An,Ah,A9,Yy,Nat.add_zero,YB,BY,hw,Ay hi,hx,hx2,hg0,hx3]
        ·simp only [BD,Al,Bb,Bf,B2,BK,D8,Bj,D7,L9,LC,DN,Io,GP,L8,C2,DM,Jp,AV,AM,CB,Cz,Jl,Of,VT,Tq,gk_s,Sw,S0,Sx,Sy,XS,Ta,GI,S9,SD,SA,SC,XV,S1,S4,S2,S3,XT,S5,S8,S6,S7,XU,B6,AH,decide_true,decide_false,Zi,Zt,Fe,CK,PZ,Ek,Jq,if_true,Y4,if_false,Iv,AL,Df,Bo,ZE,Qaa,QaM,Qa6,An,Ah,A9,Yy,Nat.add_zero,YB,BY,hw,Ay hi,hx,hx2,hg0,hx3]
       ·have hx3:x.lv>2:=by omega
        have hlt:=hE' hx3
        have hgd:(AC L).getD g true=(AC L)[g]:=by rw [Y0,Yu hlt];rfl
        simp only [BD,Al,Bb,Bf,B2,BK,D8,Bj,D7,L9,LC,DN,Io,GP,L8,C2,DM,Jp,AV,AM,CB,Cz,Jl,Of,VT,Tq,gk_s,Sw,S0,Sx,Sy,XS,Ta,GI,S9,SD,SA,SC,XV,S1,S4,S2,S3,XT,S5,S8,S6,S7,XU,B6,AH,decide_true,decide_false,Zi,Zt,Fe,CK,PZ,Ek,Jq,if_true,Y4,if_false,Iv,AL,Df,Bo,ZE,Qaa,QaM,Qa6,An,Ah,A9,Yy,Nat.add_zero,YB,BY,hw,Ay hi,hx,hx2,hx3,Ay hlt,hgd,List.getElem?_cons_zero]
        cases (AC L)[g] <;> simp only [BD,Al,Bb,Bf,B2,BK,D8,Bj,D7,L9,LC,DN,Io,GP,L8,C2,DM,Jp,AV,AM,CB,Cz,Jl,Of,VT,Tq,gk_s,Sw,S0,Sx,Sy,XS,Ta,GI,S9,SD,SA,SC,XV,S1,S4,S2,S3,XT,S5,S8,S6,S7,XU,B6,AH,decide_true,decide_false,Zi,Zt,Fe,CK,PZ,Ek,Jq,if_true,Y4,if_false,Iv,AL,Df,Bo,ZE,Qaa,QaM,Qa6]
     ·have hf:¬(((4:Nat):Int)<4):=by decide
      unfold Sh.f52
      simp only [Al,Bb,Bf,B2,BK,D8,Bj,BD,hf,decide_false,Tq,VT,Cz,AM,C2,hws]
   ·have hf:¬(((4:Nat):Int)<4):=by decide
    unfold Sh.f63
    simp only [Al,Bb,Bf,B2,Bj,BD,hf,decide_false,AM,PZ]
theorem q05_inner (L:List Nd) (tk:Tok) (n k:Nat) (H:Aa) (hL:L.length<140737488355327) (hl:AU L=true) (hn:n<L.length) (h2:2≤L[n].lv) (hk:k<4) :
  Sh.f4i (.sl (enL cNd L) tk) (.int .i64 ((n+1:Nat):Int)) (.int .i64 (k:Int)) H=some (.ret (.int .i64 (if L[n].kid k=0 then 0 else (AS L (L[n].kid k)).kid (3-k))),H):=by
 obtain ⟨l1,l2,l3⟩:=AP hl hn
 obtain ⟨q1,q2,q3⟩:=l3 k hk
 have hw:IntKind.i64.wrap (((n+1:Nat):Int)-1)=(n:Int):=by rw [Am] <;> omega
 unfold Sh.f4i
 simp only [DM,BD,hw,Ay hn,An,Dy hk,A9,Yy,YB,Dq hk,DN,GP]
 by_cases hc:L[n].kid k=0
 ·simp [hc]
 ·obtain ⟨m,hm⟩:∃m:Nat,L[n].kid k=((m+1:Nat):Int):=⟨(L[n].kid k-1).toNat,by omega⟩
  obtain ⟨r1,r2⟩:=q3 (by omega) (by omega)
  have hml:m<L.length:=by omega
  have hwm:IntKind.i64.wrap (((m+1:Nat):Int)-1)=(m:Int):=by rw [Am] <;> omega
  have hw3:IntKind.i64.wrap (3-(k:Int))=((3-k:Nat):Int):=by rw [Am] <;> omega
  simp only [hc,decide_false,AM,if_false,Eo hm hml]
  rw [hm]
  simp only [hwm,hw3,BD,Ay hml,An,Yy,Dy (show 3-k<4 by omega),A9,YB,Dq (show 3-k<4 by omega),PZ]
def QB (rec:Nat→List Nat→List Nat) (x:Nd) (k:Nat) (out:List Nat):List Nat:=
 (List.range k).foldl (fun o k=>if 1<x.lv∧0<x.kid k then rec (x.kid k).toNat o else o) out
def Ik (L:List Nd):Nat→Nat→List Nat→List Nat
 | 0,_,out=>out
 | v+1,n,out=>if n∈out then out else QB (Ik L v) (AS L n) 4 out++[n]
def Qh (N:Nat) (out:List Nat):Prop:=out.Nodup∧∀x∈out,1≤x∧x≤N
theorem OR:∀(N:Nat) (out:List Nat),Qh N out→out.length≤N
 | 0,out,h=>by
  cases out with
  | nil=>simp
  | cons a l=>have:=h.2 a (by simp);omega
 | N+1,out,h=>by
  have h1:Qh N (out.erase (N+1)):=⟨h.1.erase _,fun x hx=>by
   have:=(h.1.mem_erase_iff).1 hx
   have:=h.2 x this.2
   omega⟩
  have:=OR N _ h1
  rw [List.length_erase]at this
  split at this <;> omega
theorem Ye (rec:Nat→List Nat→List Nat) (x:Nd) (k:Nat) (out:List Nat):QB rec x (k+1) out=if 1<x.lv∧0<x.kid k then rec (x.kid k).toNat (QB rec x k out)else QB rec x k out:=by
 simp [QB,Qak]
theorem Oh {rec:Nat→List Nat→List Nat} {x:Nd} {out:List Nat} (P:List Nat→Prop) (h0:P out) (hs:∀k o,k<4→1<x.lv→0<x.kid k→P o→P (rec (x.kid k).toNat o)):∀k,k≤4→P (QB rec x k out)
 | 0,_=>h0
 | k+1,h=>by
  rw [Ye]
  split
  ·rename_i hc;exact hs k _ (by omega) hc.1 hc.2 (Oh P h0 hs k (by omega))
  ·exact Oh P h0 hs k (by omega)
theorem BA {L:List Nd} {n:Nat} (h:n<L.length):AS L ((n+1:Nat):Int)=L[n]:=Eo rfl h
theorem Uu {L:List Nd} (hl:AU L=true):∀(v n:Nat) (out:List Nat),1≤n→n≤L.length→Qh L.length out→Qh L.length (Ik L v n out)∧(∀x∈out,x∈Ik L v n out)∧∀x∈Ik L v n out,x∈out∨x≤n
 | 0,n,out,h1,h2,ho=>⟨ho,fun x hx=>hx,fun x hx=>.inl hx⟩
 | v+1,n,out,h1,h2,ho=>by
  obtain ⟨m,rfl⟩:∃m,n=m+1:=⟨n-1,by omega⟩
  have hm:m<L.length:=by omega
  obtain ⟨l1,l2,l3⟩:=AP hl hm
  simp only [Ik]
  split
  ·exact ⟨ho,fun x hx=>hx,fun x hx=>.inl hx⟩
  ·rename_i hn
   rw [BA hm]
   have key:=Oh (rec:=Ik L v) (x:=L[m]) (out:=out) (fun o=>Qh L.length o∧(∀x∈out,x∈o)∧∀x∈o,x∈out∨x≤m) ⟨ho,fun x hx=>hx,fun x hx=>.inl hx⟩ (fun k o hk hlv hkid hP=>by
    obtain ⟨q1,q2,q3⟩:=l3 k hk
    have:=(q3 hlv hkid).1
    obtain ⟨r1,r2,r3⟩:=Uu hl v (L[m].kid k).toNat o (by omega) (by omega) hP.1
    exact ⟨r1,fun x hx=>r2 x (hP.2.1 x hx),fun x hx=>by
     rcases r3 x hx with h | h
     ·exact hP.2.2 x h
     ·right;omega⟩) 4 (by omega)
   obtain ⟨⟨k1,k2⟩,k3,k4⟩:=key
   generalize QB (Ik L v) L[m] 4 out=o at k1 k2 k3 k4
   have hno:m+1 ∉ o:=fun h=>by
    rcases k4 _ h with h | h
    ·exact hn h
    ·omega
   refine ⟨⟨?_,?_⟩,?_,?_⟩
   ·rw [List.nodup_append]
    exact ⟨k1,by simp,fun a ha b hb e=>by simp at hb;subst hb;subst e;exact hno ha⟩
   ·intro x hx
    simp only [YN,YI]at hx
    rcases hx with hx | rfl
    ·exact k2 x hx
    ·omega
   ·intro x hx;simp [k3 x hx]
   ·intro x hx
    simp only [YN,YI]at hx
    rcases hx with hx | rfl
    ·rcases k4 x hx with h | h
     ·exact .inl h
     ·exact .inr (by omega)
    ·exact .inr (Yz _)
theorem append_outN {B:Aa} {l:List Nat} {n:Nat} (h:l.length<17592186044415):AN G3 1 8 (Eb cN B l) (.sl (enL cN [n]) .tight) (DR cN G3 1 B l)=some (Eb cN B (l++[n]),DR cN G3 1 B (l++[n])):=
 DD (by simp) (by simp;omega) (by simp;omega)
theorem q05_end {L:List Nd} (tk:Tok) (B:Aa) (hL:L.length<17592186044415) (hl:AU L=true):∀(v n d:Nat) (out:List Nat),1≤n→n≤L.length→(AS L n).lv=v→v≤d→Qh L.length out →
  Sh.fo d (.sl (enL cNd L) tk) (.int .i64 (n:Int)) (Eb cN B out) (DR cN G3 1 B out)=some (.ret (Eb cN B (Ik L v n out)),DR cN G3 1 B (Ik L v n out)):=by
 intro v
 induction v with
 | zero=>
  intro n d out h1 h2 hv hd ho
  exfalso
  obtain ⟨m,rfl⟩:∃m,n=m+1:=⟨n-1,by omega⟩
  rw [BA (by omega)]at hv
  have:=(AP hl (show m<L.length by omega)).1
  omega
 | succ v ih=>
  intro n d out h1 h2 hv hd ho
  obtain ⟨d,rfl⟩:∃e,d=e+1:=⟨d-1,by omega⟩
  obtain ⟨m,rfl⟩:∃m,n=m+1:=⟨n-1,by omega⟩
  have hm:m<L.length:=by omega
  obtain ⟨l1,l2,l3⟩:=AP hl hm
  have hln:=OR _ _ ho
  rw [BA hm]at hv
  show Sh.f7i (Sh.fo d) _ _ _ _=_
  unfold Sh.f7i
  have key:=Q3 (G:=fun rec1 vs H1=>Sh.f65 (DR cN G3 1 B out) (Sh.fo d) rec1 (ag vs 0) (ag vs 1) (ag vs 2) (ag vs 3) H1) out.length (fun i=>decide (out.getD i 0=m+1))
   (fun i=>[.sl (enL cNd L) tk,.int .i64 ((m+1:Nat):Int),Eb cN B out,.int .i64 (i:Int)]) (DR cN G3 1 B out) (some (.ret (Eb cN B (QB (Ik L v) L[m] 4 out++[m+1])),DR cN G3 1 B (QB (Ik L v) L[m] 4 out++[m+1]))) (fun _=>some (.ret (Eb cN B out),DR cN G3 1 B out)) (by omega) (fun rec i hi=>?_) (fun rec=>?_)
  ·refine key.trans ?_
   by_cases hmem:m+1∈out
   ·obtain ⟨i,hi,hx⟩:=YX hmem
    have hf:∃j,(List.range out.length).find? (fun i=>decide (out.getD i 0=m+1))=some j:=by
     cases hq:(List.range out.length).find? (fun i=>decide (out.getD i 0=m+1))with
     | some j=>exact ⟨j,rfl⟩
     | none=>
      have:=Qal.1 hq i (by simpa using hi)
      simp [Y0,Yu hi,hx]at this
    obtain ⟨j,hj⟩:=hf
    rw [hj];simp only [Ik,if_pos hmem]
   ·have hf:(List.range out.length).find? (fun i=>decide (out.getD i 0=m+1))=none:=by
     rw [Qal]
     intro i hi
     have hi':i<out.length:=by simpa using hi
     rw [Y0,Yu hi']
     simp only [Option.getD_some,decide_eq_true_eq]
     intro e;exact hmem (e ▸ Y8 hi')
    rw [hf];simp only [Ik,if_neg hmem,BA hm]
  ·have hi':(i:Int)<(out.length:Int):=by omega
   have hd2:decide ((out[i]:Int)=((m+1:Nat):Int))=decide (out.getD i 0=m+1):=by
    rw [Y0,Yu hi,YD];simp;omega
   unfold Sh.f65
   simp only [GMb,GMc,An,Ah,A9,Yy,Nat.add_zero,YB,BY,FQ,Aw,hi',Ay hi,List.getElem?_cons_zero,Av (show i<9223372036854775807 by omega),hd2]
   cases decide (out.getD i 0=m+1) <;> simp only [GMb,GMc]
  ·unfold Sh.f65
   rw [FQ]
   simp only [GMb,GMc,Aw,Zl]
   rw [←FQ]
   refine Ca (G:=fun rec2 vs H1=>Sh.f64 (DR cN G3 1 B out) (Sh.fo d) rec2 (ag vs 0) (ag vs 1) (ag vs 2) (ag vs 3) H1) 4 (fun k=>[.sl (enL cNd L) tk,.int .i64 ((m+1:Nat):Int),Eb cN B (QB (Ik L v) L[m] k out),.int .i64 (k:Int)]) (fun k=>DR cN G3 1 B (QB (Ik L v) L[m] k out)) _ (by decide) (fun rec2 k hk=>?_) (fun rec2=>?_)
   ·have hk':(k:Int)<4:=by omega
    have hws:IntKind.i64.wrap ((k:Int)+1)=((k+1:Nat):Int):=Av (by omega)
    have hwm:IntKind.i64.wrap (((m+1:Nat):Int)-1)=(m:Int):=by rw [Am] <;> omega
    obtain ⟨q1,q2,q3⟩:=l3 k hk
    have ho':Qh L.length (QB (Ik L v) L[m] k out):=Oh (fun o=>Qh L.length o) ho (fun k o hk hlv hkid hP=>by
     obtain ⟨q1,q2,q3⟩:=l3 k hk
     have:=(q3 hlv hkid).1
     exact (Uu hl v (L[m].kid k).toNat o (by omega) (by omega) hP).1) k (by omega)
    unfold Sh.f64
    rw [Ye]
    generalize QB (Ik L v) L[m] k out=o at ho'
    simp only [GMb,GMc,An,Ah,A9,Yy,Nat.add_zero,YB,BY,hk',hwm,Ay hm,Sh.f53,hws]
    by_cases hlv:1<L[m].lv
    ·by_cases hkid:0<L[m].kid k
     ·obtain ⟨r1,r2⟩:=q3 hlv hkid
      obtain ⟨c,hc⟩:∃c:Nat,L[m].kid k=((c+1:Nat):Int):=⟨(L[m].kid k-1).toNat,by omega⟩
      have hcl:c<L.length:=by omega
      have hy:=r2 L[c] (by rw [show (L[m].kid k-1).toNat=c from by omega];exact Yu hcl)
      have hi2:=ih (c+1) d o (by omega) (by omega) (by rw [BA hcl];omega) (by omega) ho'
      have hc0:((c+1:Nat):Int)>0:=by omega
      rw [if_pos ⟨hlv,hkid⟩]
      simp only [GMb,GMc,An,Ah,A9,Yy,Nat.add_zero,YB,BY,hlv,hwm,Ay hm,An,Dy hk,Dq hk,hc,hc0,hi2,gt_iff_lt,Int.toNat_natCast,Sh.f53,hws]
     ·rw [if_neg (fun h=>hkid h.2)]
      simp only [GMb,GMc,An,Ah,A9,Yy,Nat.add_zero,YB,BY,hlv,hwm,Ay hm,An,Dy hk,Dq hk,hkid,gt_iff_lt,Sh.f53,hws]
    ·rw [if_neg (fun h=>hlv h.1)]
     simp only [GMb,GMc,An,Ah,A9,Yy,Nat.add_zero,YB,BY,hlv,gt_iff_lt,Sh.f53,hws]
   ·have hf:¬(((4:Nat):Int)<4):=by decide
    have ho':Qh L.length (QB (Ik L v) L[m] 4 out):=Oh (fun o=>Qh L.length o) ho (fun k o hk hlv hkid hP=>by
     obtain ⟨q1,q2,q3⟩:=l3 k hk
     have:=(q3 hlv hkid).1
     exact (Uu hl v (L[m].kid k).toNat o (by omega) (by omega) hP).1) 4 (by omega)
    have hle:=OR _ _ ho'
    unfold Sh.f64
    simp only [GMb,GMc,hf,build_N,append_outN (show (QB (Ik L v) L[m] 4 out).length<17592186044415 by omega)]
def C6 (L:List Nd):List Ab:=[.sl (enL cNd L) .no]
def El (L:List Nd):Ab:=.agg (C6 L)
def Ck (L:List Nd):Int:=(AS L (L.length:Int)).lv
def Vo (L:List Nd):List Nat:=Ik L (Ck L).toNat L.length []
def dupB (L:List Nd):Bool:=(List.range L.length).all fun i=>!((AC L).getD (i+1) true)&&(List.range i).all fun k=>decide (L.getD i ⟨0,0,0,0,0⟩≠L.getD k ⟨0,0,0,0,0⟩)
def orderB (L:List Nd):Bool:=(List.range (Vo L).length).all (fun i=>decide ((Vo L).getD i 0=i+1))&&decide ((Vo L).length=L.length)
def HA (L:List Nd):Bool:=
 decide (L=[])||(AU L && !(Fq L L.length)&&dupB L&&orderB L)
theorem boxQuad (L:List Nd) (tk:Tok) (H:Aa):Bz true 1 (.agg [.sl (enL cNd L) tk]) H=some (.ptr H.length 0 0,H++[.cel 0 [.sl (enL cNd L) tk]]):=Ct rfl rfl
theorem q05_right (L:List Nd) (tk:Tok) (H:Aa) (hL:L.length<17592186044415):Sh.f3w (.agg [.sl (enL cNd L) tk]) H=some (.ret (.bool (HA L)),H):=by
 unfold Sh.f3w
 simp only [GMb,GMc,An,Ah,A9,Yy,Nat.add_zero,YB,BY,boxQuad,Hi,OW,List.getElem?_cons_zero,Aw]
 by_cases h0:L=[]
 ·subst h0;simp [HA]
 ·have hlen:L.length≠0:=fun h=>h0 (YE h)
  have h0':¬((L.length:Int)=0):=by omega
  have hq:HA L=(AU L && !(Fq L L.length)&&dupB L&&orderB L):=by simp [HA,h0]
  simp only [GMb,GMc,h0',X3 L tk _ (show L.length<1152921504606846976 by omega)]
  cases hl:AU L with
  | false=>simp [hq,hl]
  | true=>
   simp only [GMb,GMc,Aw,Vb L tk L.length _ (show L.length<140737488355327 by omega) hl (Yz _)]
   cases hh:Fq L L.length with
   | true=>simp [hq,hh]
   | false=>
    simp only [GMb,GMc,Jb L tk _ (show L.length<140737488355327 by omega) hl]
    rw [hq,hl,hh]
    simp only [GMb,GMc]
    generalize hB:H++[.cel 0 [.sl (enL cNd L) tk]]=B
    have hfin:∀(v:Bool) (G:Aa),rP H (.bool v) (B++G)=some (.ret (.bool v),H):=fun v G=>by rw [←hB,Y1];exact FP
    have hfin0:∀(v:Bool),rP H (.bool v) B=some (.ret (.bool v),H):=fun v=>by rw [←hB];exact FP
    have key:=FD (G:=fun rec1 vs H1=>Sh.f68 H rec1 (ag vs 0) (ag vs 1) (ag vs 2) H1) L.length (fun i=>!((AC L).getD (i+1) true)&&(List.range i).all fun k=>decide (L.getD i ⟨0,0,0,0,0⟩≠L.getD k ⟨0,0,0,0,0⟩))
     (fun i=>[.sl (enL cNd L) tk,.sl (enL cB (AC L)) .no,.int .i64 (i:Int)]) B (some (.ret (.bool (orderB L)),H)) (some (.ret (.bool false),H)) (by omega) (fun rec i hi=>?_) (fun rec=>?_)
    ·refine key.trans ?_
     rw [show dupB L=(List.range L.length).all fun i=>!((AC L).getD (i+1) true)&&(List.range i).all fun k=>decide (L.getD i ⟨0,0,0,0,0⟩≠L.getD k ⟨0,0,0,0,0⟩) from rfl]
     cases (List.range L.length).all fun i=>!((AC L).getD (i+1) true)&&(List.range i).all fun k=>decide (L.getD i ⟨0,0,0,0,0⟩≠L.getD k ⟨0,0,0,0,0⟩) <;> simp only [GMb,GMc]
    ·have hi':(i:Int)<(L.length:Int):=by omega
     have hlt:i+1<(AC L).length:=by rw [D0];omega
     have hws:IntKind.i64.wrap ((i:Int)+1)=((i+1:Nat):Int):=Av (by omega)
     have hgd:(AC L).getD (i+1) true=(AC L)[i+1]:=by rw [Y0,Yu hlt];rfl
     unfold Sh.f68
     simp only [GMb,GMc,An,Ah,A9,Yy,Nat.add_zero,YB,BY,Aw,hi',hws,Ay hlt,List.getElem?_cons_zero,hgd]
     cases (AC L)[i+1]with
     | true=>simp only [GMb,GMc,hfin0]
     | false=>
      simp only [GMb,GMc]
      refine FD (G:=fun rec2 vs H1=>Sh.f66 H rec rec2 (ag vs 0) (ag vs 1) (ag vs 2) (ag vs 3) H1) i (fun k=>decide (L.getD i ⟨0,0,0,0,0⟩≠L.getD k ⟨0,0,0,0,0⟩))
       (fun k=>[.sl (enL cNd L) tk,.sl (enL cB (AC L)) .no,.int .i64 (i:Int),.int .i64 (k:Int)]) B _ _ (by omega) (fun rec2 k hk=>?_) (fun rec2=>?_)
      ·have hk':(k:Int)<(i:Int):=by omega
       have hkl:k<L.length:=by omega
       unfold Sh.f66
       simp only [GMb,GMc,hk',Ay hi,Ay hkl,Jg,eq_nd,hfin0,Av (show k<9223372036854775807 by omega)]
       simp only [Y0,Yu hi,Yu hkl,Option.getD_some]
       by_cases he:L[i]=L[k]
       ·simp only [he,ne_eq,not_true_eq_false,GMb,GMc]
       ·simp only [he,ne_eq,not_false_eq_true,GMb,GMc]
      ·unfold Sh.f66
       simp only [GMb,GMc,Zl,hws]
    ·unfold Sh.f68
     have hm:L.length-1<L.length:=by omega
     have hlm:L.length=L.length-1+1:=by omega
     have hlv:(AS L (L.length:Int)).lv=((Ck L).toNat:Int):=by
      have:=(AP hl hm).1
      unfold Ck
      rw [hlm,BA hm];omega
     have hend:Sh.fo AK (.sl (enL cNd L) tk) (.int .i64 (L.length:Int)) (.sl [] .tight) B=some (.ret (Eb cN B (Ik L (Ck L).toNat L.length [])),DR cN G3 1 B (Ik L (Ck L).toNat L.length [])):=q05_end tk B hL hl (Ck L).toNat L.length AK [] (by omega) (Yz _) hlv (by
      have:=(AP hl hm).2.1
      rw [Dg]
      unfold Ck
      rw [hlm,BA hm];omega) ⟨by simp,by simp⟩
     have hok:=(Uu hl (Ck L).toNat L.length [] (by omega) (Yz _) ⟨by simp,by simp⟩).1
     have hol:=OR _ _ hok
     obtain ⟨G,hG⟩:=G9 (f:=cN) (ty:=G3) (sz:=1) B (Ik L (Ck L).toNat L.length [])
     simp only [GMb,GMc,Aw,Zl,hend,hG,FQ]
     have hsame:Vo L=Ik L (Ck L).toNat L.length []:=rfl
     rw [←hsame]at hol ⊢
     unfold orderB
     generalize Vo L=o at hol ⊢
     have key:=FD (G:=fun rec3 vs H1=>Sh.f67 H rec3 (ag vs 0) (ag vs 1) (ag vs 2) H1) o.length (fun i=>decide (o.getD i 0=i+1)) (fun i=>[.sl (enL cNd L) tk,.sl (enL cN o) (outK B o),.int .i64 (i:Int)]) (B++G) (some (.ret (.bool (decide (o.length=L.length))),H)) (some (.ret (.bool false),H)) (by omega) (fun rec i hi=>?_) (fun rec=>?_)
     ·refine key.trans ?_
      cases (List.range o.length).all (fun i=>decide (o.getD i 0=i+1)) <;> simp only [GMb,GMc]
     ·have hi':(i:Int)<(o.length:Int):=by omega
      unfold Sh.f67
      simp only [GMb,GMc,An,Ah,A9,Yy,Nat.add_zero,YB,BY,Aw,hi',Ay hi,List.getElem?_cons_zero,Av (show i<9223372036854775807 by omega),hfin]
      simp only [Y0,Yu hi,Option.getD_some]
      by_cases he:o[i]=i+1
      ·have:(o[i]:Int)=((i+1:Nat):Int):=by omega
       simp only [decide_eq_true this,decide_eq_true he,GMb,GMc]
      ·have:¬(o[i]:Int)=((i+1:Nat):Int):=by omega
       simp only [decide_eq_false this,decide_eq_false he,GMb,GMc]
     ·have hd:decide ((o.length:Int)=(L.length:Int))=decide (o.length=L.length):=by rw [YD];simp;omega
      unfold Sh.f67
      simp only [GMb,GMc,Aw,Zl,hfin,hd]
theorem X4 (L:List Nd) (tk:Tok) (H:Aa) (hL:L.length<17592186044415):Sh.f16 (.agg [.sl (enL cNd L) tk]) H=some (.ret (.int .i64 (if L=[]then 0 else Ck L)),H):=by
 unfold Sh.f16
 simp only [GMb,GMc,An,Ah,A9,Yy,Nat.add_zero,YB,BY,boxQuad,Hi,OW,List.getElem?_cons_zero,Aw]
 by_cases h0:L=[]
 ·subst h0;simp
 ·have hlen:L.length≠0:=fun h=>h0 (YE h)
  have h0':¬((L.length:Int)=0):=by omega
  have hm:L.length-1<L.length:=by omega
  have hw:IntKind.i64.wrap ((L.length:Int)-1)=((L.length-1:Nat):Int):=Iq (by omega) (by omega)
  have ht:Ck L=L[L.length-1].lv:=by
   unfold Ck
   rw [Eo (n:=L.length-1) (by omega) hm]
  simp only [h0,h0',GMb,GMc,An,Ah,A9,Yy,Nat.add_zero,YB,BY,hw,Ay hm,I6,ht]
abbrev nd0:Nd:=⟨0,0,0,0,0⟩
def Nd.setKid (x:Nd) (k:Nat) (c:Int):Nd:=match k with | 0=>{ x with k0:=c } | 1=>{ x with k1:=c } | 2=>{ x with k2:=c } | _=>{ x with k3:=c }
theorem setKid_lv (x:Nd) (k:Nat) (c:Int):(x.setKid k c).lv=x.lv:=by unfold Nd.setKid;split <;> rfl
theorem setKid_same (x:Nd) {k:Nat} (c:Int) (h:k<4):(x.setKid k c).kid k=c:=by
 match k,h with
 | 0,_=>rfl
 | 1,_=>rfl
 | 2,_=>rfl
 | 3,_=>rfl
theorem G5 (x:Nd) {k j:Nat} (c:Int) (h:k<4) (hj:j<4) (hne:j≠k):(x.setKid k c).kid j=x.kid j:=by
 match k,j,h,hj with
 | 0,1,_,_=>rfl
 | 0,2,_,_=>rfl
 | 0,3,_,_=>rfl
 | 1,0,_,_=>rfl
 | 1,2,_,_=>rfl
 | 1,3,_,_=>rfl
 | 2,0,_,_=>rfl
 | 2,1,_,_=>rfl
 | 2,3,_,_=>rfl
 | 3,0,_,_=>rfl
 | 3,1,_,_=>rfl
 | 3,2,_,_=>rfl
 | 0,0,_,_=>exact absurd rfl hne
 | 1,1,_,_=>exact absurd rfl hne
 | 2,2,_,_=>exact absurd rfl hne
 | 3,3,_,_=>exact absurd rfl hne
section
variable {H:Aa} {p k:Nat} {x:Nd} {cs cs':List Ab}
theorem HK (hg:H[p]? = some (.cel 0 (cNd x))):Ac true 5 (.ptr p 0 0) H=some (.agg (cNd x)):=by
 simp only [Ac,AE hg,Option.bind_some,if_true];rfl
theorem VC (hg:H[p]? = some (.cel 0 (cNd x))):Ac false 1 (.ptr p 0 0) H=some (.int .i64 x.lv):=by
 simp only [Ac,AE hg,Option.bind_some,Y4,if_false];rfl
theorem XG (hg:H[p]? = some (.cel 0 (cNd x))) (h:k<4):Ac false 1 (.ptr p 0 (1+k)) H=some (.int .i64 (x.kid k)):=by
 simp only [Ac,AE hg,Option.bind_some,Y4,if_false];exact Dq h
theorem EO {c:Int} (hg:H[p]? = some (.cel 0 (cNd x))) (h:k<4):Af 1 (.ptr p 0 (1+k)) (.int .i64 c) H=some (H.set p (.cel 0 (cNd (x.setKid k c)))):=by
 simp only [Af,AE hg,Option.bind_some,acells_int,Ch hg]
 match k,h with
 | 0,_=>rfl
 | 1,_=>rfl
 | 2,_=>rfl
 | 3,_=>rfl
theorem J8 (hg:H[p]? = some (.cel 0 cs)) (hl:cs.length=5):Af 5 (.ptr p 0 0) (.agg (cNd x)) H=some (H.set p (.cel 0 (cNd x))):=by
 simp only [Af,AE hg,Option.bind_some,Ys,Ch hg,G8 hl]
 rw [if_pos ⟨rfl,by omega⟩]
theorem HL {K:IntKind} {id g o:Nat} (h:k<4):BQ 4 1 (.ptr id g o) (.int K (k:Int))=some (.ptr id g (o+k)):=by
 unfold BQ
 simp only []
 rw [if_pos ⟨by omega,by omega⟩];simp

end
theorem RJ (H:Aa):Ax (some [.int .i64 0,.int .i64 0,.int .i64 0,.int .i64 0,.int .i64 0]) H=some (.ptr H.length 0 0,H++[.cel 0 (cNd nd0)]):=alloc_eq rfl
theorem HO (L:List Nd):(AC L).getD 0 true=true:=by
 have key:∀(l:List Nd) (E:List Bool),E[0]? = some true→(l.foldl (fun E x=>E++[R0 E x]) E)[0]? = some true:=by
  intro l
  induction l with
  | nil=>intro E h;exact h
  | cons a l ih=>intro E h;exact ih _ (by rw [Yx (by cases E with | nil=>simp at h | cons e E=>simp)];exact h)
 rw [Y0,show (AC L)[0]? = some true from key L [true] rfl];rfl
def JM (L:List Nd) (x:Nd) (k:Nat):Int:=if x.kid k=0 then 0 else (AS L (x.kid k)).kid (3-k)
def FG (L:List Nd) (n:Nat):Nd:=⟨(AS L n).lv-1,JM L (AS L n) 0,JM L (AS L n) 1,JM L (AS L n) 2,JM L (AS L n) 3⟩
def CN:Nat→List Nd→Nat→List Nd×Nat
 | 0,L,n=>(L,n)
 | f+1,L,n=>if Fq L n then CN f (L++[FG L n]) (L.length+1)else (L,n)
def Ej (L:List Nd) (n:Nat):List Nd×Nat:=
 if (AC L).getD n true then (L,0)else CN (AS L n).lv.toNat L n
theorem innNd_kid (L:List Nd) (n:Nat) {k:Nat} (h:k<4):(FG L n).kid k=JM L (AS L n) k:=by
 match k,h with
 | 0,_=>rfl
 | 1,_=>rfl
 | 2,_=>rfl
 | 3,_=>rfl
theorem loose_snoc {L:List Nd} {x:Nd} (hl:AU L=true) (hx:G0 (L++[x]) L.length=true):AU (L++[x])=true:=by
 unfold AU
 rw [YH]
 intro i hi
 have hi':i<L.length+1:=by simpa using hi
 by_cases h:i=L.length
 ·rw [h];exact hx
 ·have hlt:i<L.length:=by omega
  have h1:=YH.1 hl i (by simpa using hlt)
  simp only [G0,Yx hlt,Yu hlt,Y7,YH]at h1 ⊢
  refine ⟨h1.1,fun k hk=>?_⟩
  have h2:=h1.2 k hk
  simp only [Da,Y7,decide_eq_true_eq]at h2 ⊢
  refine ⟨h2.1,fun q1 q2=>?_⟩
  obtain ⟨r1,r2⟩:=h2.2 q1 q2
  refine ⟨r1,fun y hy=>?_⟩
  rw [Yx (by omega)]at hy
  exact r2 y hy
theorem loose_ndOk {L:List Nd} {x:Nd} (h1:1≤x.lv) (h2:x.lv≤1329) (h3:∀k,k<4→0≤x.kid k∧(x.lv=1→x.kid k≤255)∧(1<x.lv→0<x.kid k→x.kid k≤L.length∧(AS L (x.kid k)).lv=x.lv-1)):G0 (L++[x]) L.length=true:=by
 simp only [G0,YO (Yz _),YV,List.getElem?_cons_zero,Y7,decide_eq_true_eq,YH]
 refine ⟨⟨h1,h2⟩,fun k hk=>?_⟩
 obtain ⟨q1,q2,q3⟩:=h3 k (by simpa using hk)
 simp only [Da,Y7,decide_eq_true_eq]
 refine ⟨⟨q1,q2⟩,fun r1 r2=>?_⟩
 obtain ⟨s1,s2⟩:=q3 r1 r2
 refine ⟨s1,fun y hy=>?_⟩
 have hlt:(x.kid k-1).toNat<L.length:=by omega
 rw [Yx hlt,Yu hlt]at hy
 injection hy with hy
 rw [←hy,←s2,Eo (n:=(x.kid k-1).toNat) (by omega) hlt]
theorem Ss {L:List Nd} (hl:AU L=true) {n:Nat} (hn:n<L.length) (h2:2≤L[n].lv):AU (L++[FG L (n+1)])=true:=by
 obtain ⟨l1,l2,l3⟩:=AP hl hn
 have e:AS L ((n+1:Nat):Int)=L[n]:=BA hn
 have elv:(FG L (n+1)).lv=L[n].lv-1:=by show (AS L ((n+1:Nat):Int)).lv-1=_;rw [e]
 refine loose_snoc hl (loose_ndOk (by omega) (by omega) fun k hk=>?_)
 obtain ⟨q1,q2,q3⟩:=l3 k hk
 rw [innNd_kid L (n+1) hk,elv,e]
 unfold JM
 by_cases hc:L[n].kid k=0
 ·rw [if_pos hc];exact ⟨by omega,fun _=>by omega,fun _ h=>by omega⟩
 ·rw [if_neg hc]
  obtain ⟨m,hm⟩:∃m:Nat,L[n].kid k=((m+1:Nat):Int):=⟨(L[n].kid k-1).toNat,by omega⟩
  obtain ⟨r1,r2⟩:=q3 (by omega) (by omega)
  have hml:m<L.length:=by omega
  have hy:=r2 L[m] (by rw [show (L[n].kid k-1).toNat=m from by omega];exact Yu hml)
  obtain ⟨y1,y2,y3⟩:=AP hl hml
  rw [Eo hm hml]
  obtain ⟨s1,s2,s3⟩:=y3 (3-k) (by omega)
  refine ⟨s1,fun h=>s2 (by omega),fun h h0=>?_⟩
  obtain ⟨t1,t2⟩:=s3 (by omega) h0
  refine ⟨by omega,?_⟩
  obtain ⟨c,hc'⟩:∃c:Nat,L[m].kid (3-k)=((c+1:Nat):Int):=⟨(L[m].kid (3-k)-1).toNat,by omega⟩
  have hcl:c<L.length:=by omega
  rw [Eo hc' hcl]
  have:=t2 L[c] (by rw [show (L[m].kid (3-k)-1).toNat=c from by omega];exact Yu hcl)
  omega
theorem Su {L:List Nd} {n:Nat} (h:Fq L n=true):n≠0∧2≤(AS L n).lv:=by
 simp only [Fq,Y7,decide_eq_true_eq]at h
 exact ⟨h.1.1,h.1.2⟩
theorem Yq {H G:Aa} {l:List Nd} {x:Nd} (h:l.length<3518437208883):AN AJ 5 40 (.sl (enL cNd l) (.own H.length)) (.sl (enL cNd [x]) .tight) (H++.tok l.length AJ 5::G)=some (.sl (enL cNd (l++[x])) (.own H.length),H++.tok (l.length+1) AJ 5::G):=by
 have:=Ey (f:=cNd) (l:=l) (m:=[x]) (ty:=AJ) (bytes:=40) (tk:=.tight) (H:=H++.tok l.length AJ 5::G) (t:=H.length) (by simp) (by simp) (by simp;omega) (by simp;omega)
 rw [this];simp
def Xx (f:Nat→Int) (x:Nd):Nat→Nd
 | 0=>x
 | k+1=>(Xx f x k).setKid k (f k)
theorem Xw (f:Nat→Int) (x:Nd):Xx f x 4=⟨x.lv,f 0,f 1,f 2,f 3⟩:=rfl
theorem Wv (z:Int):A2 (some [.int .i64 0,.int .i64 0,.int .i64 0,.int .i64 0,.int .i64 0]) [(0,1,.int .i64 z)]=some (.agg (cNd ⟨z,0,0,0,0⟩)):=by
 simp [A2,Gu,DF,cNd]
theorem q06_shrink (L:List Nd) (tk:Tok) (n:Nat) (H:Aa) (hL:L.length<3518437200000) (hl:AU L=true) (hn:n≤L.length) :
  Sh.f4j (.sl (enL cNd L) tk) (.int .i64 (n:Int)) H=some (.ret (.tup [.sl (enL cNd (Ej L n).1) .no,.int .i64 ((Ej L n).2:Int)]),H):=by
 unfold Sh.f4j
 have hb:AO 5 []=some (.sl (enL cNd []) .tight):=rfl
 rw [hb]
 by_cases h0:L=[]
 ·subst h0
  have hn0:n=0:=by simpa using hn
  subst hn0
  have ha:AN AJ 5 40 (.sl (enL cNd []) .tight) (.sl (enL cNd []) tk) H=some (.sl (enL cNd []) .tight,H):=Dk (by simp [Ce,enL])
  have he:=X5 [] .tight 0 H (by simp) hl (Yz _)
  simp only [GMb,GMc,ha,he,show (AC []).getD 0 true=true from rfl,N5,Dz,Cp,C9,ID,Fs,Option.map_some]
  rfl
 ·have ha:AN AJ 5 40 (.sl (enL cNd []) .tight) (.sl (enL cNd L) tk) H=some (.sl (enL cNd L) (.own H.length),H++[.tok L.length AJ 5]):=by
   have:=CE (f:=cNd) (l:=[]) (m:=L) (ty:=AJ) (bytes:=40) (tk:=tk) (H:=H) h0 (by simp;omega) (by simp;omega)
   simpa using this
  simp only [GMb,GMc,ha,X5 L _ n _ (show L.length<140737488355327 by omega) hl hn]
  unfold Ej
  cases hem:(AC L).getD n true with
  | true=>simp only [GMb,GMc,Co,Dz,Cp,C9,ID,Fs,Option.map_some];rfl
  | false=>
   simp only [GMb,GMc]
   have hlv:(AS L n).lv≤1329:=by
    cases n with
    | zero=>exfalso;rw [HO]at hem;cases hem
    | succ m=>rw [BA hn];exact (AP hl hn).2.1
   have key:=Bk (G:=fun rec1 vs H1=>Sh.f7v H rec1 (ag vs 0) (ag vs 1) H1) (σ:=List Nd×Nat×Aa) (fun s=>AU s.1=true∧s.2.1≤s.1.length∧s.1.length+(AS s.1 s.2.1).lv.toNat<3518437208883∧s.1.length+(AS s.1 s.2.1).lv.toNat<3518437208883)
    (fun s=>[.int .i64 (s.2.1:Int),.sl (enL cNd s.1) (.own H.length)]) (fun s=>H++.tok s.1.length AJ 5::s.2.2) (fun s=>(AS s.1 s.2.1).lv.toNat)
    (fun s=>some (.ret (.tup [.sl (enL cNd (CN (AS s.1 s.2.1).lv.toNat s.1 s.2.1).1) .no,.int .i64 ((CN (AS s.1 s.2.1).lv.toNat s.1 s.2.1).2:Int)]),H)) (fun s rec hs hrec=>?_) (L,n,[]) ⟨hl,hn,by dsimp only;omega,by dsimp only;omega⟩ (by dsimp only;omega)
   ·exact key
   ·obtain ⟨M,i,G⟩:=s
    obtain ⟨hs1,hs2,hs3,hs4⟩:=hs
    simp only at hs1 hs2 hs3 hs4 hrec ⊢
    unfold Sh.f7v
    simp only [GMb,GMc,Vb M _ i _ (show M.length<140737488355327 by omega) hs1 hs2]
    cases hh:Fq M i with
    | false=>
     have:CN (AS M i).lv.toNat M i=(M,i):=by
      cases (AS M i).lv.toNat with
      | zero=>rfl
      | succ f=>simp [CN,hh]
     simp only [GMb,GMc,this,Co,Dz,Cp,C9,ID,Fs,Option.map_some]
    | true=>
     obtain ⟨hi0,hlv2⟩:=Su hh
     obtain ⟨m,rfl⟩:∃m,i=m+1:=⟨i-1,by omega⟩
     have hm:m<M.length:=hs2
     obtain ⟨l1,l2,l3⟩:=AP hs1 hm
     have hx:AS M ((m+1:Nat):Int)=M[m]:=BA hm
     rw [hx]at hlv2 hs3 hrec ⊢
     have hwm:IntKind.i64.wrap (((m+1:Nat):Int)-1)=(m:Int):=by rw [Am] <;> omega
     have hwl:IntKind.i64.wrap (M[m].lv-1)=M[m].lv-1:=Am (by omega) (by omega)
     have hsf:CN M[m].lv.toNat M (m+1)=CN (M[m].lv-1).toNat (M++[FG M (m+1)]) (M.length+1):=by
      rw [show M[m].lv.toNat=(M[m].lv-1).toNat+1 from by omega]
      simp only [CN,hh,if_true]
     generalize hB:H++.tok M.length AJ 5::G=B
     simp only [GMb,GMc,An,Ah,A9,Yy,Nat.add_zero,YB,BY,hwm,Ay hm,hwl,Wv,RJ,J8 (Ap (B:=B) (cs:=cNd nd0)) rfl,Bd]
     refine Ca (G:=fun rec2 vs H1=>Sh.f6q H rec rec2 (ag vs 0) (ag vs 1) (ag vs 2) (ag vs 3) H1) 4 (fun k=>[.int .i64 ((m+1:Nat):Int),.sl (enL cNd M) (.own H.length),.ptr B.length 0 0,.int .i64 (k:Int)]) (fun k=>B++[.cel 0 (cNd (Xx (JM M M[m]) ⟨M[m].lv-1,0,0,0,0⟩ k))]) _ (by decide) (fun rec2 k hk=>?_) (fun rec2=>?_)
     ·have hk':(k:Int)<4:=by omega
      unfold Sh.f6q
      have hinn:=q05_inner M (.own H.length) m k (B++[.cel 0 (cNd (Xx (JM M M[m]) ⟨M[m].lv-1,0,0,0,0⟩ k))]) (by omega) hs1 hm hlv2 hk
      simp only [GMb,GMc,hk',hinn,Ah,Yy,HL hk,EO (Ap (B:=B)) hk,Bd,Av (show k<9223372036854775807 by omega)]
      rfl
     ·have hf:¬(((4:Nat):Int)<4):=by decide
      have hel:(⟨M[m].lv-1,JM M M[m] 0,JM M M[m] 1,JM M M[m] 2,JM M M[m] 3⟩:Nd)=FG M (m+1):=by unfold FG;rw [hx]
      unfold Sh.f6q
      rw [Xw]
      simp only [GMb,GMc,hf,HK (Ap (B:=B)),Kk]
      rw [←hB,Y1,List.cons_append,Yq (by omega)]
      simp only [GMb,GMc,Aw,Y2,List.length_singleton,hel]
      have hlv':(AS (M++[FG M (m+1)]) ((M.length+1:Nat):Int)).lv=M[m].lv-1:=by
       rw [BA (by simp),show (M++[FG M (m+1)])[M.length]'(by simp)=FG M (m+1) from by simp]
       show (AS M ((m+1:Nat):Int)).lv-1=_
       rw [hx]
      have:=hrec (M++[FG M (m+1)],M.length+1,G++[.cel 0 (cNd (FG M (m+1)))]) ⟨Ss hs1 hm hlv2,by simp,by dsimp only;rw [hlv'];simp;omega,by dsimp only;rw [hlv'];simp;omega⟩ (by dsimp only;rw [hlv'];omega)
      simp only [Y2,List.length_singleton]at this
      rw [this,hlv',hsf]
def CA (l:List Nd) (x:Nd):Nat:=match (List.range l.length).find? (fun i=>decide (l.getD i nd0=x))with | some i=>i+1 | none=>0
theorem Hk {l:List Nd} {x:Nd} {i:Nat}:CA l x=i+1↔l[i]? = some x∧∀j,j<i→l[j]? ≠ some x:=by
 unfold CA
 constructor
 ·intro h
  cases hf:(List.range l.length).find? (fun i=>decide (l.getD i nd0=x))with
  | none=>rw [hf]at h;dsimp only at h;omega
  | some k=>
   rw [hf]at h;dsimp only at h
   have hk:k=i:=by omega
   subst hk
   rw [QaL]at hf
   obtain ⟨h1,h2,h3⟩:=hf
   have hlt:k<l.length:=by simpa using h2
   simp only [decide_eq_true_eq,Y0,Yu hlt,Option.getD_some]at h1
   refine ⟨by rw [Yu hlt,h1],fun j hj e=>?_⟩
   have:=h3 j hj
   simp only [Y0,e,Option.getD_some,decide_true,Zi]at this
   cases this
 ·rintro ⟨h1,h2⟩
  have hlt:i<l.length:=(Yw.1 h1).1
  have hf:(List.range l.length).find? (fun i=>decide (l.getD i nd0=x))=some i:=by
   rw [QaL]
   refine ⟨by simp [Y0,h1],by simpa using hlt,fun j hj=>?_⟩
   have hjl:j<l.length:=by omega
   have:=h2 j hj
   rw [Yu hjl]at this
   simp only [Y0,Yu hjl,Option.getD_some,Zv,decide_eq_false_iff_not]
   exact fun e=>this (by rw [e])
  rw [hf]
theorem Lc {l:List Nd} {x:Nd}:CA l x=0↔x ∉ l:=by
 constructor
 ·intro h hx
  obtain ⟨i,hi,hxi⟩:=YX hx
  unfold CA at h
  cases hf:(List.range l.length).find? (fun i=>decide (l.getD i nd0=x))with
  | none=>
   have:=Qal.1 hf i (by simpa using hi)
   simp [Y0,Yu hi,hxi]at this
  | some k=>rw [hf]at h;dsimp only at h;omega
 ·intro h
  cases hf:CA l x with
  | zero=>rfl
  | succ i=>
   rw [Hk]at hf
   exact absurd (YU hf.1) h
theorem Ru {l m:List Nd} {x:Nd} (h:CA l x≠0):CA (l++m) x=CA l x:=by
 cases hf:CA l x with
 | zero=>exact absurd hf h
 | succ i=>
  rw [Hk]at hf ⊢
  have hlt:i<l.length:=(Yw.1 hf.1).1
  refine ⟨by rw [Yx hlt];exact hf.1,fun j hj=>?_⟩
  rw [Yx (by omega)];exact hf.2 j hj
theorem Ya {l:List Nd} {x:Nd} (h:CA l x=0):CA (l++[x]) x=l.length+1:=by
 rw [Hk]
 refine ⟨by simp,fun j hj e=>?_⟩
 rw [Yx hj]at e
 exact Lc.1 h (YU e)
def Dr (out:List Nd) (x:Nd):List Nd×Nat:=if CA out x=0 then (out++[x],out.length+1)else (out,CA out x)
def BU (rec:Nat→List Nd→List Nd×Nat) (x:Nd):Nat→List Nd→List Nd×Nd
 | 0,out=>(out,x)
 | k+1,out=>((rec (x.kid k).toNat (BU rec x k out).1).1,(BU rec x k out).2.setKid k ((rec (x.kid k).toNat (BU rec x k out).1).2:Int))
def Bm (L:List Nd) (E:List Bool):Nat→Nat→List Nd→List Nd×Nat
 | 0,_,out=>(out,0)
 | v+1,n,out=>
  if E.getD n true then (out,0)
  else if 1<(AS L n).lv then Dr (BU (Bm L E v) (AS L n) 4 out).1 (BU (Bm L E v) (AS L n) 4 out).2
  else Dr out (AS L n)
theorem Vh (out:List Nd) (x:Nd):0<(Dr out x).2:=by
 unfold Dr
 split
 ·simp
 ·dsimp only;omega
theorem Vg (out:List Nd) (x:Nd):∃r,(Dr out x).1=out++r:=by
 unfold Dr
 split
 ·exact ⟨_,rfl⟩
 ·exact ⟨[],by simp⟩
theorem Vi (out:List Nd) (x:Nd) (r:List Nd):Dr ((Dr out x).1++r) x=((Dr out x).1++r,(Dr out x).2):=by
 by_cases h:CA out x=0
 ·have h1:Dr out x=(out++[x],out.length+1):=by simp [Dr,h]
  rw [h1]
  have h2:CA (out++[x]++r) x=out.length+1:=by rw [Ru (by rw [Ya h];omega),Ya h]
  dsimp only
  unfold Dr
  rw [h2,if_neg (by omega)]
 ·have h1:Dr out x=(out,CA out x):=by simp [Dr,h]
  rw [h1]
  dsimp only
  unfold Dr
  rw [Ru h,if_neg h]
section
variable {L:List Nd} {E:List Bool}
theorem VK {rec:Nat→List Nd→List Nd×Nat} (hr:∀n out,∃r,(rec n out).1=out++r) (x:Nd):∀k out,∃r,(BU rec x k out).1=out++r
 | 0,out=>⟨[],by simp [BU]⟩
 | k+1,out=>by
  obtain ⟨r,h⟩:=VK hr x k out
  obtain ⟨r',h'⟩:=hr (x.kid k).toNat (BU rec x k out).1
  exact ⟨r++r',by simp only [BU];rw [h',h];simp⟩
theorem VL:∀v n out,∃r,(Bm L E v n out).1=out++r
 | 0,n,out=>⟨[],by simp [Bm]⟩
 | v+1,n,out=>by
  simp only [Bm]
  split
  ·exact ⟨[],by simp⟩
  ·split
   ·obtain ⟨r,h⟩:=VK (VL v) (AS L n) 4 out
    obtain ⟨r',h'⟩:=Vg (BU (Bm L E v) (AS L n) 4 out).1 (BU (Bm L E v) (AS L n) 4 out).2
    exact ⟨r++r',by rw [h',h];simp⟩
   ·exact Vg _ _
theorem IB:∀v n out r,Bm L E v n ((Bm L E v n out).1++r)=((Bm L E v n out).1++r,(Bm L E v n out).2)
 | 0,n,out,r=>by simp [Bm]
 | v+1,n,out,r=>by
  by_cases he:E.getD n true=true
  ·simp only [Bm,if_pos he]
  ·by_cases hl:1<(AS L n).lv
   ·have e:∀o,Bm L E (v+1) n o=Dr (BU (Bm L E v) (AS L n) 4 o).1 (BU (Bm L E v) (AS L n) 4 o).2:=fun o=>by simp only [Bm,if_neg he,if_pos hl]
    have key:∀k,k≤4→∀s,BU (Bm L E v) (AS L n) k ((BU (Bm L E v) (AS L n) k out).1++s)=((BU (Bm L E v) (AS L n) k out).1++s,(BU (Bm L E v) (AS L n) k out).2):=by
     intro k
     induction k with
     | zero=>intro _ s;simp [BU]
     | succ k ih=>
      intro hk s
      simp only [BU]
      obtain ⟨r',h'⟩:=VL (L:=L) (E:=E) v ((AS L n).kid k).toNat (BU (Bm L E v) (AS L n) k out).1
      have hi:=ih (by omega) (r'++s)
      have ha:=IB v ((AS L n).kid k).toNat (BU (Bm L E v) (AS L n) k out).1 s
      rw [h']at ha ⊢
      rw [Y1,hi]
      rw [Y1]at ha
      dsimp only
      rw [ha]
    obtain ⟨r',h'⟩:=Vg (BU (Bm L E v) (AS L n) 4 out).1 (BU (Bm L E v) (AS L n) 4 out).2
    have ha:=Vi (BU (Bm L E v) (AS L n) 4 out).1 (BU (Bm L E v) (AS L n) 4 out).2 r
    rw [e,e]
    rw [h']at ha ⊢
    rw [Y1,key 4 (by omega)]
    dsimp only
    rw [Y1]at ha
    exact ha
   ·have e:∀o,Bm L E (v+1) n o=Dr o (AS L n):=fun o=>by simp only [Bm,if_neg he,if_neg hl]
    rw [e,e];exact Vi out (AS L n) r

end
theorem q06_find (l:List Nd) (tk:Tok) (x:Nd) (H:Aa) (hl:l.length<1152921504606846975):Sh.f4k (.sl (enL cNd l) tk) (.agg (cNd x)) H=some (.ret (.int .i64 (CA l x:Int)),H):=by
 unfold Sh.f4k
 rw [Ct (sz:=5) Fd rfl]
 simp only [GMb,GMc]
 have hp:(H++[Blk.cel 0 (cNd x)])[H.length]? = some (.cel 0 (cNd x)):=Ap
 have key:=Q3 (G:=fun rec1 vs H1=>Sh.f6r H rec1 (ag vs 0) (ag vs 1) (ag vs 2) H1) l.length (fun i=>decide (l.getD i nd0=x)) (fun i=>[.sl (enL cNd l) tk,.ptr H.length 0 0,.int .i64 (i:Int)]) (H++[.cel 0 (cNd x)])
  (some (.ret (.int .i64 0),H)) (fun i=>some (.ret (.int .i64 ((i+1:Nat):Int)),H)) (by omega) (fun rec i hi=>?_) (fun rec=>?_)
 ·refine key.trans ?_
  unfold CA
  cases (List.range l.length).find? (fun i=>decide (l.getD i nd0=x)) <;> rfl
 ·have hi':(i:Int)<(l.length:Int):=by omega
  unfold Sh.f6r
  simp only [GMb,GMc,Aw,hi',Ay hi,Jg,HK hp,eq_nd,Av (show i<9223372036854775807 by omega),I6]
  simp only [Y0,Yu hi,Option.getD_some]
  by_cases he:l[i]=x
  ·simp only [he,GMb,GMc]
  ·simp only [he,GMb,GMc]
 ·unfold Sh.f6r
  simp only [GMb,GMc,Aw,Zl,I6]
structure VS (b id:Nat) (out:List Nd) (D:List Nat) (v:Ab) (H:Aa):Prop where
 hv:(out=[]∧v=.sl [] .tight)∨∃t,b≤t∧v=.sl (enL cNd out) (.own t)∧H[t]? = some (.tok out.length AJ 5)
 hd:H[id]? = some (.cel 0 (flat cN D))
structure Ext (b id:Nat) (H H':Aa):Prop where
 len:H.length≤H'.length
 cel:∀(i:Nat) (cs:List Ab),i≠id→H[i]? = some (.cel 0 cs)→H'[i]? = some (.cel 0 cs)
 old:∀i,i<b→H'[i]? = H[i]?
theorem Ext.refl (b id:Nat) (H:Aa):Ext b id H H:=⟨Yz _,fun _ _ _ h=>h,fun _ _=>rfl⟩
theorem Ext.trans {b id:Nat} {H H1 H2:Aa} (h:Ext b id H H1) (h':Ext b id H1 H2):Ext b id H H2:=
 ⟨YJ h.len h'.len,fun i cs hi hc=>h'.cel i cs hi (h.cel i cs hi hc),fun i hi=>(h'.old i hi).trans (h.old i hi)⟩
theorem VS.sl {b id:Nat} {out:List Nd} {D:List Nat} {v:Ab} {H:Aa} (h:VS b id out D v H):∃tk,v=.sl (enL cNd out) tk:=by
 rcases h.hv with ⟨rfl,rfl⟩ | ⟨t,_,rfl,_⟩
 ·exact ⟨_,rfl⟩
 ·exact ⟨_,rfl⟩
theorem Rp {H:Aa} {i:Nat} {x:Blk} (B:Blk) (h:H[i]? = some x):(H++[B])[i]? = some x:=by
 have:=(Yw.1 h).1
 rw [Yx this];exact h
theorem VS.snoc {b id:Nat} {out:List Nd} {D:List Nat} {v:Ab} {H:Aa} (h:VS b id out D v H) (B:Blk):VS b id out D v (H++[B]):=by
 refine ⟨?_,Rp B h.hd⟩
 rcases h.hv with h1 | ⟨t,h1,h2,h3⟩
 ·exact .inl h1
 ·exact .inr ⟨t,h1,h2,Rp B h3⟩
theorem Ext.snoc {b id:Nat} {H:Aa} (hb:b≤H.length) (B:Blk):Ext b id H (H++[B]):=
 ⟨by simp,fun i cs _ h=>Rp B h,fun i hi=>by rw [Yx (by omega)]⟩
theorem VS.put {b id p:Nat} {out:List Nd} {D:List Nat} {v:Ab} {H:Aa} {c c':List Ab} (h:VS b id out D v H) (hp:H[p]? = some (.cel 0 c)) (hne:p≠id):VS b id out D v (H.set p (.cel 0 c')):=by
 refine ⟨?_,by rw [Yv hne];exact h.hd⟩
 rcases h.hv with h1 | ⟨t,h1,h2,h3⟩
 ·exact .inl h1
 ·refine .inr ⟨t,h1,h2,?_⟩
  have:p≠t:=fun e=>by rw [←e,hp]at h3;cases h3
  rw [Yv this];exact h3
theorem VS.app {b id:Nat} {out:List Nd} {D:List Nat} {v:Ab} {H:Aa} (h:VS b id out D v H) (hb:b≤H.length) (x:Nd) (hl:out.length<3518437208883) :
  ∃v' H',AN AJ 5 40 v (.sl (enL cNd [x]) .tight) H=some (v',H')∧VS b id (out++[x]) D v' H'∧Ext b id H H':=by
 rcases h.hv with ⟨rfl,rfl⟩ | ⟨t,h1,rfl,h3⟩
 ·have:=CE (f:=cNd) (l:=[]) (m:=[x]) (ty:=AJ) (bytes:=40) (tk:=.tight) (H:=H) (by simp) (by simp) (by simp)
  refine ⟨_,_,this,⟨.inr ⟨H.length,hb,rfl,by simp⟩,Rp _ h.hd⟩,Ext.snoc hb _⟩
 ·have:=Ey (f:=cNd) (l:=out) (m:=[x]) (ty:=AJ) (bytes:=40) (tk:=.tight) (H:=H) (t:=t) (by simp) h3 (by simp;omega) (by simp;omega)
  have htl:=(Yw.1 h3).1
  refine ⟨_,_,this,⟨.inr ⟨t,h1,rfl,by simp [htl]⟩,?_⟩,⟨by simp,fun i cs hi hc=>?_,fun i hi=>?_⟩⟩
  ·have:t≠id:=fun e=>by have:=h.hd;rw [←e,h3]at this;cases this
   rw [Yv this];exact h.hd
  ·have:t≠i:=fun e=>by rw [←e,h3]at hc;cases hc
   rw [Yv this];exact hc
  ·rw [Yv (by omega)]
structure VI (L out:List Nd) (D:List Nat):Prop where
 len:D.length=L.length+1
 cnt:out.length≤D.countP (fun d=>decide (0<d))
 val:∀(n d:Nat),D[n]? = some d→0<d→Bm L (AC L) (AS L n).lv.toNat n out=(out,d)
theorem VI.grow {L out r:List Nd} {D:List Nat} (h:∀(n d:Nat),D[n]? = some d→0<d→Bm L (AC L) (AS L n).lv.toNat n out=(out,d)):∀(n d:Nat),D[n]? = some d→0<d→Bm L (AC L) (AS L n).lv.toNat n (out++r)=(out++r,d):=by
 intro n d h1 h2
 have h3:=h n d h1 h2
 have:=IB (L:=L) (E:=AC L) (AS L n).lv.toNat n out r
 rwa [h3]at this
theorem VI.le {L out:List Nd} {D:List Nat} (h:VI L out D):out.length≤L.length+1:=by
 have:=h.cnt
 have:=List.countP_le_length (p:=fun d:Nat=>decide (0<d)) (l:=D)
 have:=h.len
 omega
theorem insF_lv {L:List Nd} {E:List Bool} {v n:Nat} {out:List Nd} (he:E.getD n true=false) (hl:1<(AS L n).lv):Bm L E (v+1) n out=Dr (BU (Bm L E v) (AS L n) 4 out).1 (BU (Bm L E v) (AS L n) 4 out).2:=by
 simp only [Bm,he,Y4,if_false,if_pos hl]
theorem insF_one {L:List Nd} {E:List Bool} {v n:Nat} {out:List Nd} (he:E.getD n true=false) (hl:¬1<(AS L n).lv):Bm L E (v+1) n out=Dr out (AS L n):=by
 simp only [Bm,he,Y4,if_false,if_neg hl]
theorem insK_lv (rec:Nat→List Nd→List Nd×Nat) (x:Nd):∀k out,(BU rec x k out).2.lv=x.lv
 | 0,out=>rfl
 | k+1,out=>by simp only [BU,setKid_lv];exact insK_lv rec x k out
theorem insK_kid (rec:Nat→List Nd→List Nd×Nat) (x:Nd):∀k out j,k≤j→j<4→(BU rec x k out).2.kid j=x.kid j
 | 0,out,j,_,_=>rfl
 | k+1,out,j,h1,h2=>by
  simp only [BU]
  rw [G5 _ _ (by omega) h2 (by omega)]
  exact insK_kid rec x k out j (by omega) h2
theorem q06_visit {L:List Nd} (tk tk2:Tok) (b id:Nat) (hL:L.length<3518437208880) (hl:AU L=true):∀(v n d:Nat) (out:List Nd) (D:List Nat) (w:Ab) (H:Aa),n≤L.length→(n=0∨(AS L n).lv.toNat=v)→v<d→b≤id→id<H.length→VS b id out D w H→VI L out D →
  ∃H' D' w',Sh.fy d (.sl (enL cNd L) tk) (.sl (enL cB (AC L)) tk2) (.int .i64 (n:Int)) w (.ms id 0 0 (L.length+1) (L.length+1) 1 true) H=some (.ret (.tup [w',.ms id 0 0 (L.length+1) (L.length+1) 1 true,.int .i64 ((Bm L (AC L) v n out).2:Int)]),H') ∧
   VS b id (Bm L (AC L) v n out).1 D' w' H'∧Ext b id H H'∧VI L (Bm L (AC L) v n out).1 D'∧∀j,n<j→D'[j]? = D[j]? := by
 intro v
 induction v with
 | zero=>
  intro n d out D w H hn hv hd hbi hid hVS hVI
  have hb:b≤H.length:=by omega
  obtain ⟨d,rfl⟩:∃e,d=e+1:=⟨d-1,by omega⟩
  have hn0:n=0:=by
   rcases hv with h | h
   ·exact h
   ·cases n with
    | zero=>rfl
    | succ m=>
     rw [BA (show m<L.length from hn)]at h
     have:=(AP hl (show m<L.length from hn)).1;omega
  subst hn0
  have hlt:0<(AC L).length:=by rw [D0];omega
  have he:(AC L)[0]=true:=by have:=HO L;rw [Y0,Yu hlt]at this;exact this
  refine ⟨H,D,w,?_,hVS,Ext.refl _ _ _,hVI,fun _ _=>rfl⟩
  show Sh.f5e (Sh.fy d) _ _ _ _ _ _=_
  unfold Sh.f5e
  simp only [GMb,GMc,An,Ah,A9,Yy,Nat.add_zero,YB,BY,Ay hlt,List.getElem?_cons_zero,he]
  rfl
 | succ v ih=>
  intro n d out D w H hn hv hd hbi hid hVS hVI
  have hb:b≤H.length:=by omega
  obtain ⟨d,rfl⟩:∃e,d=e+1:=⟨d-1,by omega⟩
  have hlt:n<(AC L).length:=by rw [D0];omega
  have hgd:(AC L).getD n true=(AC L)[n]:=by rw [Y0,Yu hlt];rfl
  have hDn:n<D.length:=by rw [hVI.len];omega
  have hidx:=CJ (sz:=1) (id:=id) (n:=L.length+1) (K:=.i64) (g:=0) (off:=0) (cap:=L.length+1) (ex:=true) (i:=n) (by omega)
  simp only [Yy,YB]at hidx
  have hld:=Ih (f:=cN) (AE hVS.hd) hDn
  show ∃H' D' w',Sh.f5e (Sh.fy d) _ _ _ _ _ _=_∧_
  unfold Sh.f5e
  simp only [GMb,GMc,An,Ah,A9,Yy,Nat.add_zero,YB,BY,Ay hlt,List.getElem?_cons_zero]
  cases he:(AC L)[n]with
  | true=>
   have e:Bm L (AC L) (v+1) n out=(out,0):=by simp only [Bm,hgd,he,if_true]
   rw [e]
   exact ⟨H,D,w,by simp only [GMb,GMc];rfl,hVS,Ext.refl _ _ _,hVI,fun _ _=>rfl⟩
  | false=>
   rw [he]at hgd
   simp only [GMb,GMc,hidx,hld,List.getElem?_cons_zero]
   by_cases hpos:0<D[n]
   ·have hi:(D[n]:Int)>0:=by omega
    have hv':(AS L n).lv.toNat=v+1:=by
     rcases hv with h | h
     ·exfalso;subst h;rw [HO]at hgd;cases hgd
     ·exact h
    have e:=hVI.val n D[n] (Yu hDn) hpos
    rw [hv']at e
    rw [e]
    exact ⟨H,D,w,by simp only [GMb,GMc,hi],hVS,Ext.refl _ _ _,hVI,fun _ _=>rfl⟩
   ·have hi:¬(D[n]:Int)>0:=by omega
    have hD0:D[n]=0:=by omega
    obtain ⟨m,rfl⟩:∃m,n=m+1:=⟨n-1,by
     cases n with
     | zero=>rw [HO]at hgd;cases hgd
     | succ n=>rfl⟩
    have hm:m<L.length:=hn
    have hv':(AS L ((m+1:Nat):Int)).lv.toNat=v+1:=by
     rcases hv with h | h
     ·omega
     ·exact h
    obtain ⟨l1,l2,l3⟩:=AP hl hm
    have hx:AS L ((m+1:Nat):Int)=L[m]:=BA hm
    rw [hx]at hv'
    have hwm:IntKind.i64.wrap (((m+1:Nat):Int)-1)=(m:Int):=by rw [Am] <;> omega
    simp only [GMb,GMc,hi,hwm,Ay hm,Jg,RJ,J8 (Ap (B:=H) (cs:=cNd nd0)) rfl,Bd]
    generalize hX:L[m]=x at l1 l2 l3 hv' hx
    have hpid:H.length≠id:=by omega
    have loop:=GB (G:=fun rec1 vs H1=>Sh.f6s H (Sh.fy d) rec1 (ag vs 0) (ag vs 1) (ag vs 2) (ag vs 3) (ag vs 4) (ag vs 5) (ag vs 6) H1) (if 1<x.lv then 4 else 0)
     (fun k vs Hc=>∃w' D',vs=[.sl (enL cNd L) tk,.sl (enL cB (AC L)) tk2,.int .i64 ((m+1:Nat):Int),w',.ms id 0 0 (L.length+1) (L.length+1) 1 true,.ptr H.length 0 0,.int .i64 (k:Int)]∧VS b id (BU (Bm L (AC L) v) x k out).1 D' w' Hc∧Hc[H.length]? = some (.cel 0 (cNd (BU (Bm L (AC L) v) x k out).2))∧Ext b id H Hc∧VI L (BU (Bm L (AC L) v) x k out).1 D'∧(∀j,m<j→D'[j]? = D[j]?))
     (by split <;> decide) (fun k vs Hc hk hI=>?_) (vs:=[.sl (enL cNd L) tk,.sl (enL cB (AC L)) tk2,.int .i64 ((m+1:Nat):Int),w,.ms id 0 0 (L.length+1) (L.length+1) 1 true,.ptr H.length 0 0,.int .i64 0]) (H:=H++[.cel 0 (cNd x)]) ⟨w,D,rfl,hVS.snoc _,by simp [BU],Ext.snoc hb _,hVI,fun _ _=>rfl⟩
    ·obtain ⟨vs',Hc,⟨w',D',rfl,hVS',hcell,hExt,hVI',hDD⟩,rec,hloop⟩:=loop
     rw [hloop]
     unfold Sh.f6s
     obtain ⟨tkk,rfl⟩:=hVS'.sl
     have hle:=hVI'.le
     have hstop:(A8 (.bool (decide (((if 1<x.lv then 4 else 0:Nat):Int)<4))) (.bool (decide (x.lv>1))) (.bool false))=some (.bool false):=by
      by_cases h:1<x.lv <;> simp [h]
     have hlvI:(BU (Bm L (AC L) v) x (if 1<x.lv then 4 else 0) out).2.lv=x.lv:=insK_lv _ _ _ _
     have hput:Bm L (AC L) (v+1) (m+1) out=Dr (BU (Bm L (AC L) v) x (if 1<x.lv then 4 else 0) out).1 (BU (Bm L (AC L) v) x (if 1<x.lv then 4 else 0) out).2:=by
      by_cases h:1<x.lv
      ·rw [if_pos h,insF_lv hgd (by rw [hx];exact h),hx]
      ·rw [if_neg h,insF_one hgd (by rw [hx];exact h),hx];rfl
     have hpre:=VK (VL (L:=L) (E:=AC L) v) x (if 1<x.lv then 4 else 0) out
     rw [hput]
     have hagain:=IB (L:=L) (E:=AC L) (v+1) (m+1) out []
     rw [YP,hput]at hagain
     generalize (BU (Bm L (AC L) v) x (if 1<x.lv then 4 else 0) out)=io at *
     obtain ⟨o,y⟩:=io
     dsimp only at hVS' hcell hVI' hlvI hpre hagain hle ⊢
     have hcond:∀(A B:Out),(gk (.bool (decide (((if 1<x.lv then 4 else 0:Nat):Int)<4))) true (Ad 0 (.ptr H.length 0 0)) fun x29=>gk (.bool (decide (((if 1<x.lv then 4 else 0:Nat):Int)<4))) true (Ac false 1 x29 Hc) fun x30=>gk (.bool (decide (((if 1<x.lv then 4 else 0:Nat):Int)<4))) true (Ae .none .gtr x30 (.int .i64 1)) fun x31=>(A8 (.bool (decide (((if 1<x.lv then 4 else 0:Nat):Int)<4))) x31 (.bool false)).bind fun x32=>Aj x32 A B)=B:=by
      intro A B
      by_cases h:1<x.lv
      ·have hf:¬(((4:Nat):Int)<4):=by decide
       simp only [if_pos h,hf,GMb,GMc]
      ·have hf:(((0:Nat):Int)<4):=by decide
       have h':¬x.lv>1:=h
       simp only [if_neg h,hf,GMb,GMc,Ah,Nat.add_zero,VC hcell,hlvI,h']
     simp only [Al,Ai,Bj,BD]
     rw [hcond]
     have hidx':Au 1 (.ms id 0 0 (L.length+1) (L.length+1) 1 true) (.int .i64 ((m+1:Nat):Int))=some (.ptr id 0 (m+1)):=hidx
     have hD'n:D'[m+1]? = some 0:=by rw [hDD (m+1) (by omega),Yu hDn,hD0]
     have hDl:m+1<D'.length:=by rw [hVI'.len];omega
     have hD'e:D'[m+1]=0:=by rw [Yu hDl]at hD'n;injection hD'n
     have fin:∀(o':List Nd) (i:Nat) (w2:Ab) (H2:Aa),Dr o y=(o',i)→VS b id o' D' w2 H2→Ext b id H H2→VI L o D'→o'.length≤o.length+1→(∃r,o'=o++r) →
       ∃H' D'' w'',Sh.f7w H (.int .i64 ((m+1:Nat):Int)) w2 (.ms id 0 0 (L.length+1) (L.length+1) 1 true) (.int .i64 (i:Int)) H2=some (.ret (.tup [w'',.ms id 0 0 (L.length+1) (L.length+1) 1 true,.int .i64 (i:Int)]),H')∧VS b id o' D'' w'' H'∧Ext b id H H'∧VI L o' D''∧∀j,m+1<j→D''[j]? = D[j]? := by
      intro o' i w2 H2 hp hV2 hE2 hI2 hlen ⟨r,hr⟩
      have hi0:0<i:=by have:=Vh o y;rw [hp]at this;exact this
      have hst:=DP (f:=cN) (sz:=1) (l:=D') (i:=m+1) (a:=i) (v:=.int .i64 (i:Int)) (AE hV2.hd) hDl rfl
      rw [Ch hV2.hd,YB]at hst
      have hidl:=(Yw.1 hV2.hd).1
      refine ⟨H2.set id (.cel 0 (flat cN (D'.set (m+1) i))),D'.set (m+1) i,w2,by unfold Sh.f7w;simp only [GMb,GMc,hidx',hst],⟨?_,by simp [hidl]⟩,⟨by simp;exact hE2.len,fun j cs hj hc=>?_,fun j hj=>?_⟩,⟨by simp [hI2.len],?_,?_⟩,fun j hj=>?_⟩
      ·rcases hV2.hv with h1 | ⟨t,h1,h2,h3⟩
       ·exact .inl h1
       ·refine .inr ⟨t,h1,h2,?_⟩
        have:id≠t:=fun e=>by have:=hV2.hd;rw [e,h3]at this;cases this
        rw [Yv this];exact h3
      ·rw [Yv (fun e=>hj e.symm)];exact hE2.cel j cs hj hc
      ·rw [Yv (by omega)];exact hE2.old j hj
      ·rw [List.countP_set hDl]
       have:=hI2.cnt
       simp only [hD'e,hi0,decide_true,if_true,Nat.lt_irrefl,decide_false,Y4,if_false,Nat.sub_zero]
       omega
      ·intro j dd hj hdd
       by_cases hjm:j=m+1
       ·subst hjm
        rw [Y9 hDl]at hj
        injection hj with hj
        subst hj
        rw [hx,hv']
        rw [hp]at hagain
        exact hagain
       ·rw [Yv (fun e=>hjm e.symm)]at hj
        rw [hr]
        exact VI.grow hI2.val j dd hj hdd
      ·rw [Yv (by omega)];exact hDD j (by omega)
     have hnd:=q06_find o tkk y Hc (by omega)
     simp only [GMb,GMc,HK hcell,hnd]
     by_cases hf:CA o y=0
     ·have hp:Dr o y=(o++[y],o.length+1):=by simp [Dr,hf]
      obtain ⟨w2,H2,ha,hV2,hE2⟩:=hVS'.app (YJ hb hExt.len) y (by omega)
      obtain ⟨tk3,rfl⟩:=hV2.sl
      have h0:((CA o y:Nat):Int)=0:=by omega
      obtain ⟨H',D'',w'',q1,q2,q3,q4,q5⟩:=fin (o++[y]) (o.length+1) _ H2 hp hV2 (hExt.trans hE2) hVI' (by simp) ⟨[y],rfl⟩
      refine ⟨H',D'',w'',?_,by rw [hp];exact q2,q3,by rw [hp];exact q4,q5⟩
      rw [hp,←q1]
      simp only [GMb,GMc,h0,Kk,ha,Aw,Y2,List.length_singleton]
     ·have hp:Dr o y=(o,CA o y):=by simp [Dr,hf]
      have h0:¬((CA o y:Nat):Int)=0:=by omega
      obtain ⟨H',D'',w'',q1,q2,q3,q4,q5⟩:=fin o (CA o y) _ Hc hp hVS' hExt hVI' (by omega) ⟨[],by simp⟩
      refine ⟨H',D'',w'',?_,by rw [hp];exact q2,q3,by rw [hp];exact q4,q5⟩
      rw [hp,←q1]
      simp only [GMb,GMc,h0]
    ·obtain ⟨w',D',rfl,hVS',hcell,hExt,hVI',hDD⟩:=hI
     have hlv:1<x.lv:=by
      by_cases h:1<x.lv
      ·exact h
      ·rw [if_neg h]at hk;omega
     rw [if_pos hlv]at hk
     obtain ⟨q1,q2,q3⟩:=l3 k hk
     have hk':(k:Int)<4:=by omega
     have hlvI:=insK_lv (Bm L (AC L) v) x k out
     have hkid:=insK_kid (Bm L (AC L) v) x k out k (Yz _) hk
     obtain ⟨c,hc⟩:=Zj q1
     have hcle:c≤m:=by
      by_cases h0:0<x.kid k
      ·have:=(q3 hlv h0).1;omega
      ·omega
     have hclv:c=0∨(AS L (c:Int)).lv.toNat=v:=by
      by_cases h0:0<x.kid k
      ·right
       obtain ⟨c',rfl⟩:∃c',c=c'+1:=⟨c-1,by omega⟩
       have hcl:c'<L.length:=by omega
       have:=(q3 hlv h0).2 L[c'] (by rw [show (x.kid k-1).toNat=c' from by omega];exact Yu hcl)
       rw [BA hcl];omega
      ·left;omega
     obtain ⟨H1,D1,w1,r1,r2,r3,r4,r5⟩:=ih c d (BU (Bm L (AC L) v) x k out).1 D' w' Hc (by omega) hclv (by omega) hbi (Zs hid hExt.len) hVS' hVI'
     have hcell1:=r3.cel _ _ hpid hcell
     have hto:(x.kid k).toNat=c:=by omega
     refine ⟨[.sl (enL cNd L) tk,.sl (enL cB (AC L)) tk2,.int .i64 ((m+1:Nat):Int),w1,.ms id 0 0 (L.length+1) (L.length+1) 1 true,.ptr H.length 0 0,.int .i64 ((k+1:Nat):Int)],H1.set H.length (.cel 0 (cNd ((BU (Bm L (AC L) v) x k out).2.setKid k ((Bm L (AC L) v c (BU (Bm L (AC L) v) x k out).1).2:Int)))),⟨w1,D1,rfl,?_,?_,?_,?_,?_⟩,fun rec=>?_⟩
     rotate_left 5
     ·unfold Sh.f6s
      simp only [Al,Ai,GMb,GMc,hk',Ah,Nat.add_zero,Yy,VC hcell,hlvI,show x.lv>1 from hlv,HL hk,XG hcell hk,hkid,hc,r1,B1,B8,extract_2,EO hcell1 hk,Av (show k<9223372036854775807 by omega)]
     ·simp only [BU,hto]
      exact r2.put hcell1 hpid
     ·have hl1:=(Yw.1 hcell1).1
      simp only [BU,hto]
      rw [Y9 hl1]
     ·refine ⟨by simp;exact (hExt.trans r3).len,fun i cs hi hcs=>?_,fun i hi=>?_⟩
      ·have:=(Yw.1 hcs).1
       rw [Yv (by omega)];exact (hExt.trans r3).cel i cs hi hcs
      ·rw [Yv (by omega)];exact (hExt.trans r3).old i hi
     ·simp only [BU,hto];exact r4
     ·intro j hj;rw [r5 j (by omega)];exact hDD j hj
theorem Cv {H H0:Aa} (h:∀i,i<H0.length→H[i]? = H0[i]?):H.take H0.length=H0:=by
 apply ZH
 intro i
 by_cases hi:i<H0.length
 ·rw [Zo hi,h i hi]
 ·rw [YA (by simp;omega),YA (by omega)]
theorem UR:∀(f:Nat) (L:List Nd) (n:Nat),AU L=true→n≤L.length→AU (CN f L n).1=true∧(CN f L n).2≤(CN f L n).1.length∧(CN f L n).1.length≤L.length+f
 | 0,L,n,hl,hn=>⟨hl,hn,Yz _⟩
 | f+1,L,n,hl,hn=>by
  unfold CN
  cases hh:Fq L n with
  | false=>exact ⟨hl,hn,by show L.length≤_;omega⟩
  | true=>
   obtain ⟨h0,h2⟩:=Su hh
   obtain ⟨m,rfl⟩:∃m,n=m+1:=⟨n-1,by omega⟩
   rw [BA hn]at h2
   obtain ⟨r1,r2,r3⟩:=UR f (L++[FG L (m+1)]) (L.length+1) (Ss hl hn h2) (by simp)
   simp only [if_true]
   refine ⟨r1,r2,?_⟩
   simp at r3;omega
theorem emp_pos {L:List Nd} {n:Nat} (h:(AC L).getD n true=false):0<n:=by
 cases n with
 | zero=>rw [HO]at h;cases h
 | succ n=>omega
theorem Tk {L:List Nd} (hl:AU L=true) {n:Nat} (h0:0<n) (hn:n≤L.length):(AS L (n:Int)).lv.toNat≤1329:=by
 obtain ⟨m,rfl⟩:∃m,n=m+1:=⟨n-1,by omega⟩
 rw [BA hn]
 have:=(AP hl hn).2.1;omega
theorem Xs {L:List Nd} {n:Nat} (hl:AU L=true) (hn:n≤L.length):AU (Ej L n).1=true∧(Ej L n).2≤(Ej L n).1.length∧(Ej L n).1.length≤L.length+1329:=by
 unfold Ej
 cases he:(AC L).getD n true with
 | true=>exact ⟨hl,YL _,by show L.length≤_;omega⟩
 | false=>
  obtain ⟨r1,r2,r3⟩:=UR (AS L n).lv.toNat L n hl hn
  have:=Tk hl (emp_pos he) hn
  simp only [Y4,if_false]
  exact ⟨r1,r2,by omega⟩
def SR (L:List Nd) (n:Nat):List Nd:=(Bm (Ej L n).1 (AC (Ej L n).1) (AS (Ej L n).1 ((Ej L n).2:Int)).lv.toNat (Ej L n).2 []).1
def ofOk (L:List Nd) (n:Int):Bool:=AU L&&decide (0≤n)&&decide (n≤L.length)
theorem q06_of (L:List Nd) (tk:Tok) (n:Int) (H:Aa) (hL:L.length<3518437200000):Sh.f4l (.sl (enL cNd L) tk) (.int .i64 n) H =
  some (.ret (if ofOk L n then .tup [El (SR L n.toNat),.int .i64 0]else .tup [El [],.int .i64 1]),H):=by
 unfold Sh.f4l
 rw [alloc_eq (cs:=[.sl [] .tight]) rfl]
 have hcell:∀G:Aa,(H++[Blk.cel 0 [.sl [] .tight]]++G)[H.length]? = some (.cel 0 [.sl [] .tight]):=fun G=>by simp
 have bad:∀(k:Ab→Aa→Out),(∀v G,k v G=(CU [Ac true 1 (.ptr H.length 0 0) G,some (.int .i64 1)]).bind fun x19=>rPN H x19 G) →
   ((A2 (some [(.sl [] .tight)]) []).bind fun x16=>bP H (A3 (Af 1 (.ptr H.length 0 0) x16 (H++[.cel 0 [.sl [] .tight]]))) k)=some (.ret (.tup [El [],.int .i64 1]),H):=by
  intro k hk
  have hb:A2 (some [(.sl [] .tight)]) []=some (.agg [.sl [] .tight]):=rfl
  simp only [GMb,GMc,hb,I5,Is (sz:=1) (cs:=[.sl [] .tight]) (vs:=[.sl [] .tight]) (v:=.agg [.sl [] .tight]) rfl rfl rfl,Option.map_some,hk,Hi,VA,List.length_singleton,OO,Iu,JB]
  simp only [Co,Dz,Cp,C9,Iz,Gv,Hl,JS,Fs,GMb,GMc,Option.map_some]
  rfl
 simp only [GMb,GMc,X3 L tk _ (show L.length<1152921504606846976 by omega)]
 unfold ofOk
 cases hl:AU L with
 | false=>
  simp only [GMb,GMc]
  exact bad _ fun v G=>rfl
 | true=>
  simp only [GMb,GMc,Aw]
  by_cases hn0:n<0
  ·have:¬0≤n:=by omega
   simp only [GMb,GMc,hn0,this]
   exact bad _ fun v G=>rfl
  ·have h0':0≤n:=by omega
   by_cases hn1:n>L.length
   ·have:¬n≤L.length:=by omega
    simp only [GMb,GMc,hn0,h0',hn1,this,Aw]
    exact bad _ fun v G=>rfl
   ·obtain ⟨n,rfl⟩:=Zj h0'
    have hle:n≤L.length:=by omega
    have hle':(n:Int)≤(L.length:Int):=by omega
    have hnn:¬(n:Int)>(L.length:Int):=hn1
    obtain ⟨s1,s2,s3⟩:=Xs hl hle
    simp only [GMb,GMc,hn0,h0',hnn,hle',Aw,q06_shrink L tk n _ (show L.length<3518437200000 by omega) hl hle,B1,B8]
    unfold SR
    simp only [Int.toNat_natCast]
    generalize Ej L n=s at s1 s2 s3
    obtain ⟨M,r⟩:=s
    dsimp only at s1 s2 s3 ⊢
    have hmk:=Fo (f:=cN) (a:=0) (n:=M.length+1) (bytes:=8) (H:=H++[.cel 0 [.sl [] .tight]]) (by omega) (by omega)
    simp only [show cN 0=[Ab.int .i64 0] from rfl]at hmk
    simp only [GMb,GMc,Jb M .no _ (show M.length<140737488355327 by omega) s1,Aw,Av (show M.length<9223372036854775807 by omega),hmk]
    have hlvv:(AS M (r:Int)).lv.toNat<AK:=by
     rw [Dg]
     by_cases hr:0<r
     ·have:=Tk s1 hr s2;omega
     ·obtain rfl:r=0:=by omega
      unfold AS
      rw [Y0]
      by_cases hM:0<M.length
      ·rw [show (((0:Nat):Int)-1).toNat=0 from rfl,Yu hM]
       have:=(AP s1 hM).2.1
       simp only [Option.getD_some];omega
      ·rw [show (((0:Nat):Int)-1).toNat=0 from rfl,YA (by omega)];simp
    obtain ⟨H',D',w',v1,v2,v3,v4,v5⟩:=q06_visit (L:=M) .no .no (H++[Blk.cel 0 [.sl [] .tight]]).length (H++[Blk.cel 0 [.sl [] .tight]]).length (by omega) s1 (AS M (r:Int)).lv.toNat r AK [] (List.replicate (M.length+1) 0) (.sl [] .tight) (H++[.cel 0 [.sl [] .tight]]++[.cel 0 (flat cN (List.replicate (M.length+1) 0))])
     s2 (.inr rfl) hlvv (Yz _) (by simp) ⟨.inl ⟨rfl,rfl⟩,Ap⟩ ⟨by simp,by simp,fun j dd hj hdd=>by
      have:=YU hj
      rw [QaB]at this;omega⟩
    have hold:∀i,i<H.length+1→H'[i]? = (H++[Blk.cel 0 [.sl [] .tight]])[i]? := fun i hi=>by
     rw [v3.old i (by simpa using hi),Yx (by simpa using hi)]
    have hc':H'[H.length]? = some (.cel 0 [.sl [] .tight]):=by rw [hold _ (by omega)];simp
    have hcl:=(Yw.1 hc').1
    obtain ⟨tk3,rfl⟩:=v2.sl
    generalize (Bm M (AC M) (AS M (r:Int)).lv.toNat r []).1=Q at v1 v2 v4 ⊢
    have hb:A2 (some [(.sl [] .tight)]) [(0,1,.sl (enL cNd Q) tk3)]=some (.agg [.sl (enL cNd Q) tk3]):=by simp [A2,Gu,DF]
    have hst:Af 1 (.ptr H.length 0 0) (.agg [.sl (enL cNd Q) tk3]) H'=some (H'.set H.length (.cel 0 [.sl (enL cNd Q) tk3])):=by
     simp only [Af,AE hc',Option.bind_some,Ch hc'];rfl
    have hld:Ac true 1 (.ptr H.length 0 0) (H'.set H.length (.cel 0 [.sl (enL cNd Q) tk3]))=some (.agg [.sl (enL cNd Q) tk3]):=by
     have:(H'.set H.length (.cel 0 [.sl (enL cNd Q) tk3]))[H.length]? = some (.cel 0 [.sl (enL cNd Q) tk3]):=by rw [Y9 hcl]
     simp only [Ac,AE this,Option.bind_some];rfl
    have htake:(H'.set H.length (.cel 0 [.sl (enL cNd Q) tk3])).take H.length=H:=Cv fun i hi=>by
     rw [Yv (by omega),hold i (by omega),Yx hi]
    simp only [GMb,GMc,v1,B1,hb,hst,hld,OO,Iu,JB,Option.map_some,Gc htake,Dz,Cp,C9,Iz,Gv,Hl,JS,Fs]
    rfl
theorem q01_cut (l:List Bool) (tk:Tok) (H:Aa) (hb:l.length<1152921504606846976):Sh.f14 (.sl (enL cB l) tk) H=some (.ret (.sl (enL cB (Ds l)) .no),H):=by
 unfold Sh.f14
 refine Bk (σ:=List Bool×Tok) (fun s=>s.1.length<1152921504606846976) (fun s=>[.sl (enL cB s.1) s.2]) (fun _=>H) (fun s=>s.1.length) (fun s=>some (.ret (.sl (enL cB (Ds s.1)) .no),H)) (fun s rec hs hrec=>?_) (l,tk) hb hb
 obtain ⟨l,tk⟩:=s
 simp only at hs hrec ⊢
 unfold Sh.f69
 rcases Ga l with rfl | ⟨l',b,rfl⟩
 ·simp [cutL_nil]
 ·simp only [Y2,List.length_singleton]at hs hrec
  have h1:l'.length<(l'++[b]).length:=by simp
  have h2:((((l'++[b]).length:Nat):Int)>0):=by simp
  have h3:IntKind.i64.wrap ((((l'++[b]).length:Nat):Int)-1)=(l'.length:Int):=by rw [Am] <;> simp <;> omega
  simp only [Al,Aw,Option.bind_some,D7,h2,decide_true,Jl,DM,h3,Ay h1,A9,List.getElem?_cons_zero,Jq,CB,Zw (Yz _),YV,List.getElem_cons_zero]
  cases b with
  | true=>simp [SM]
  | false=>
   have:=hrec (l',F8 tk 0 l'.length (l'++[false]).length false) (by dsimp only;omega) (by simp)
   simp only [Zt,AV,slice_to (Qa4 h1),Option.bind_some,List.take_left',this,QC]
theorem q01_at (l:List Bool) (tk:Tok) (i:Int) (H:Aa):Sh.f7 (.sl (enL cB l) tk) (.int .i64 i) H=some (.ret (.bool (decide (0≤i)&&l.getD i.toNat false)),H):=by
 unfold Sh.f7
 by_cases h0:0≤i
 ·obtain ⟨n,rfl⟩:=Zj h0
  by_cases h1:n<l.length
  ·have h2:(n:Int)<(l.length:Int):=by omega
   simp [h2,Ay h1,Y0,Yu h1]
  ·have h2:¬(n:Int)<(l.length:Int):=by omega
   simp [h2,Y0,YA (Nat.le_of_not_lt h1)]
 ·simp [h0]
theorem HI (l:List Nat) (tk:Tok) (H:Aa) (hl:l.length≤2199023255552) (hx:Lim l):Sh.f3 (.sl (enL cU l) tk) H=some (.ret (.sl (enL cB (Ds (AQ l))) .no),H):=by
 unfold Sh.f3
 refine Ca l.length (fun i=>[.sl (enL cU l) tk,Eb cB H (AQ (l.take i)),.int .i64 (i:Int)]) (fun i=>DR cB BZ 1 H (AQ (l.take i))) _ (by omega) (fun rec i hi=>?_) (fun rec=>?_)
 ·have hi':(i:Int)<(l.length:Int):=by omega
  have hxi:l[i]<4294967296:=hx _ (Y8 hi)
  have htk:AQ (l.take (i+1))=AQ (l.take i)++Dt 32 l[i]:=by
   rw [Y5 hi,AQ,ZV];simp [AQ]
  have hlen:(AQ (l.take i)).length≤32*2199023255552:=by rw [Cs];simp;omega
  unfold Sh.f54
  simp only [Al,Bb,Bf,Aw,Option.bind_some,Bj,hi',decide_true,AV,Ay hi,A9,List.getElem?_cons_zero,htk]
  generalize AQ (l.take i)=o at hlen
  generalize l[i]=x at hxi
  refine Bk (σ:=Nat×Nat×List Bool) (fun s=>s.1≤32∧s.2.1<4294967296∧s.2.2.length≤o.length+s.1) (fun s=>[.sl (enL cU l) tk,Eb cB H s.2.2,.int .i64 (i:Int),.int .u32 (s.2.1:Int),.int .i64 (s.1:Int)]) (fun s=>DR cB BZ 1 H s.2.2) (fun s=>32-s.1)
   (fun s=>rec [.sl (enL cU l) tk,Eb cB H (s.2.2++Dt (32-s.1) s.2.1),.int .i64 ((i+1:Nat):Int)] (DR cB BZ 1 H (s.2.2++Dt (32-s.1) s.2.1))) (fun s rec2 hs hrec=>?_) (0,x,o) ⟨by dsimp only;omega,hxi,by dsimp only;omega⟩ (by dsimp only;omega)
  obtain ⟨k,y,p⟩:=s
  obtain ⟨hk,hy,hp⟩:=hs
  simp only at hk hy hp hrec ⊢
  unfold Sh.f7j
  by_cases h:k<32
  ·have h':(k:Int)<32:=by omega
   have e1:(y:Int).tmod 2=((y%2:Nat):Int):=rfl
   have e2:IntKind.u32.wrap ((y:Int).tdiv 2)=((y / 2:Nat):Int):=by rw [show (y:Int).tdiv 2=((y / 2:Nat):Int) from rfl,CL] <;> omega
   have e3:(((y%2:Nat):Int) == 1)=(y%2 == 1):=by rw [YD];simp only [beq_iff_eq];omega
   have e4:IntKind.i64.wrap ((k:Int)+1)=((k+1:Nat):Int):=by rw [Am] <;> omega
   have:=hrec (k+1,y / 2,p++[y%2 == 1]) ⟨h,by dsimp only;omega,by simp;omega⟩ (by dsimp only;omega)
   simp only [Al,Bb,Bf,B2,BK,Bj,h',decide_true,Option.bind_some,AV,HD (show (2:Int)≠0 by decide),RH (show (2:Int)≠0 by decide),e1,e2,DN,e3,U5]
   rw [DD (by simp) (by simp;omega) (by simp;omega)]
   simp only [Df,CK,C2,Option.bind_some,e4,this]
   rw [show 32-k=(32-(k+1))+1 from by omega,Dt];simp
  ·have:k=32:=by omega
   subst this
   have e4:IntKind.i64.wrap ((i:Int)+1)=((i+1:Nat):Int):=by rw [Am] <;> omega
   simp [Dt,e4]
 ·unfold Sh.f54
  obtain ⟨G,hG⟩:=G9 (f:=cB) (ty:=BZ) (sz:=1) H (AQ l)
  rw [Y6 (Yz _)]
  simp only [Al,Bb,Bf,FQ,hG,Aw,Option.bind_some,Bj,Zl,decide_false,AM,q01_cut (AQ l) _ _ (by rw [Cs];omega),CK,Co,Ft,Option.map_some]
theorem Vd (l:List Bool) (tk:Tok) (H:Aa) (hl:l.length≤70368744177664):Sh.ff (.sl (enL cB l) tk) H=some (.ret (.sl (enL cU (A4 (Bn l))) .no),H):=by
 unfold Sh.ff
 have hcl:=Il l
 rw [q01_cut l tk H (by omega),←limbsOf_eq,KX]
 simp only [CK]
 generalize Ds l=c at hcl
 obtain ⟨n,hn⟩:∃n,n=(c.length+31) / 32:=⟨_,rfl⟩
 rw [←hn]
 refine Ca n (fun q=>[.sl (enL cB c) .no,Eb cU H (Es c q),.int .i64 ((32*q:Nat):Int)]) (fun q=>DR cU B4 1 H (Es c q)) _ (by omega) (fun rec q hq=>?_) (fun rec=>?_)
 ·have hq':((32*q:Nat):Int)<(c.length:Int):=by omega
  unfold Sh.f6a
  simp only [Al,Bb,Bf,Aw,Option.bind_some,Bj,hq',decide_true,AV]
  have hlo:(Es c q).length=q:=Ob c q
  rw [KW]
  generalize Es c q=o at hlo
  refine Bk (σ:=Nat) (fun j=>j≤min 32 (c.length-32*q)) (fun j=>[.sl (enL cB c) .no,Eb cU H o,.int .i64 ((32*q:Nat):Int),.int .u32 ((Bn ((c.drop (32*q)).take j):Nat):Int),.int .u32 (IntKind.u32.wrap ((2:Int)^j)),.int .i64 ((32*q+j:Nat):Int)]) (fun _=>DR cU B4 1 H o) (fun j=>32-j)
   (fun _=>rec [.sl (enL cB c) .no,Eb cU H (o++[GD c q]),.int .i64 ((32*(q+1):Nat):Int)] (DR cU B4 1 H (o++[GD c q]))) (fun j rec2 hj hrec=>?_) 0 (by omega) (by omega)
  unfold Sh.f85
  have hw:IntKind.i64.wrap (((32*q:Nat):Int)+32)=((32*(q+1):Nat):Int):=by rw [Am] <;> omega
  by_cases h:j<min 32 (c.length-32*q)
  ·have h1:((32*q+j:Nat):Int)<(c.length:Int):=by omega
   have h1':32*q+j<c.length:=by omega
   have h2:((32*q+j:Nat):Int)<((32*(q+1):Nat):Int):=by omega
   have hw2:IntKind.i64.wrap (((32*q+j:Nat):Int)+1)=((32*q+(j+1):Nat):Int):=by rw [Am] <;> omega
   have htake:(c.drop (32*q)).take (j+1)=(c.drop (32*q)).take j++[c[32*q+j]]:=by
    rw [Y5 (by simp;omega)];simp
   have hlen:((c.drop (32*q)).take j).length=j:=by simp;omega
   have hnat:Bn ((c.drop (32*q)).take (j+1))=Bn ((c.drop (32*q)).take j)+(if c[32*q+j]then 2^j else 0):=by
    rw [htake,Dw,hlen];simp only [Bn];split <;> simp
   have hlt1:=KT ((c.drop (32*q)).take j)
   rw [hlen]at hlt1
   have hp:(2:Nat)^j*2≤2^32:=by rw [←Nat.pow_succ];exact YT (by omega) (by omega)
   have hpw:IntKind.u32.wrap ((2:Int)^j)=((2^j:Nat):Int):=by
    rw [show ((2:Int)^j)=((2^j:Nat):Int) from by simp,CL] <;> omega
   have hadd:IntKind.u32.wrap (((Bn ((c.drop (32*q)).take j):Nat):Int)+((2^j:Nat):Int))=((Bn ((c.drop (32*q)).take j)+2^j:Nat):Int):=by rw [CL] <;> omega
   have hmul:IntKind.u32.wrap (((2^j:Nat):Int)*2)=IntKind.u32.wrap ((2:Int)^(j+1)):=by rw [QaS];simp
   have:=hrec (j+1) (by omega) (by omega)
   rw [hnat]at this
   simp only [Al,Bb,Bf,B2,BK,D8,Aw,Option.bind_some,Bj,h1,decide_true,Jl,C2,hw,h2,CB,AV,AH,Ay h1',A9,List.getElem?_cons_zero,hpw]
   cases hb:c[32*q+j]with
   | true=>
    rw [hb]at this
    simp only [AV,C2,hadd,Option.bind_some,Al,Bb,Bf,B2,BK,D8,Sh.f7k,Jp,hmul,hw2]
    simpa using this
   | false=>
    rw [hb]at this
    simp only [AM,Al,Bb,Bf,B2,BK,D8,Sh.f7k,Jp,C2,hmul,hw2,Option.bind_some]
    simpa using this
  ·have hj':j=min 32 (c.length-32*q):=by omega
   have hx:Bn ((c.drop (32*q)).take j)=GD c q:=by
    unfold GD
    by_cases h:j=32
    ·rw [h]
    ·rw [Y6 (by simp;omega),Y6 (by simp;omega)]
   have tail:((AO 1 [.int .u32 ((GD c q:Nat):Int)]).bind fun x40=>bP H (BX (AN B4 1 4 (Eb cU H o) x40 (DR cU B4 1 H o))) fun x41 H42=>(Ae .none .add (.int .i64 ((32*q:Nat):Int)) (.int .i64 32)).bind fun x43=>rec [.sl (enL cB c) .no,x41,x43] H42)
     = rec [.sl (enL cB c) .no,Eb cU H (o++[GD c q]),.int .i64 ((32*(q+1):Nat):Int)] (DR cU B4 1 H (o++[GD c q])):=by
    rw [build_U]
    simp only [Option.bind_some]
    rw [DD (by simp) (by simp;omega) (by simp;omega)]
    simp only [Df,CK,C2,Option.bind_some,hw]
   rw [hx]
   by_cases h1:((32*q+j:Nat):Int)<(c.length:Int)
   ·have h2:¬((32*q+j:Nat):Int)<((32*(q+1):Nat):Int):=by omega
    simp only [Al,Bb,Bf,B2,BK,D8,Aw,Option.bind_some,Bj,h1,decide_true,Jl,C2,hw,h2,decide_false,CB,AM]
    simpa only [C2,hw,Option.bind_some]using tail
   ·simp only [Al,Bb,Bf,B2,BK,D8,Aw,Option.bind_some,Bj,h1,decide_false,Tq,Cz,AM]
    exact tail
 ·have hq':¬((32*n:Nat):Int)<(c.length:Int):=by omega
  obtain ⟨G,hG⟩:=G9 (f:=cU) (ty:=B4) (sz:=1) H (Es c n)
  unfold Sh.f6a
  simp only [Al,Bb,Bf,FQ,hG,Aw,Option.bind_some,Bj,hq',decide_false,AM,Co,Ft,Option.map_some]
theorem Ve (l:List Nat) (tk:Tok) (H:Aa) (hl:l.length≤1099511627776) (hx:Lim l):Sh.fl (.sl (enL cU l) tk) H=some (.ret (.sl (enL cU (A4 (val l))) .no),H):=by
 have hc:=Il (AQ l)
 rw [Cs]at hc
 unfold Sh.fl
 rw [HI l tk H (by omega) hx]
 simp only [Fe]
 rw [Vd _ _ _ (by omega)]
 simp only [Fe,Ek,XX,E8,EM l hx]
theorem q01_right (l:List Nat) (tk:Tok) (H:Aa) (hl:l.length≤1099511627776):Sh.f4e (.sl (enL cU l) tk) H=some (.ret (.bool (Gb l)),H):=by
 unfold Sh.f4e
 rcases Ga l with rfl | ⟨l',x,rfl⟩
 ·simp [Gb]
 ·simp only [Y2,List.length_singleton]at hl
  have h1:l'.length<(l'++[x]).length:=by simp
  have h3:IntKind.i64.wrap ((((l'++[x]).length:Nat):Int)-1)=(l'.length:Int):=by rw [Am] <;> simp <;> omega
  have hne:((((l'++[x]).length:Nat):Int) == 0)=false:=by simp;omega
  have hb:((x:Int) != 0)=(x != 0):=by rw [YD];simp
  simp only [Aw,Option.bind_some,DN,hne,Of,DM,h3,Ay h1,A9,List.getElem?_cons_zero,Zw (Yz _),YV,List.getElem_cons_zero,Io,Cz,PZ,hb]
  simp [Gb]
theorem q01_cmp (a b:List Nat) (ta tb:Tok) (H:Aa) (ha:a.length≤1099511627776) (hb:b.length≤1099511627776) (la:Lim a) (lb:Lim b) :
  Sh.f41 (.sl (enL cU a) ta) (.sl (enL cU b) tb) H=some (.ret (.int .i64 (cmpI (val a) (val b))),H):=by
 have c1:=Il (AQ a)
 have c2:=Il (AQ b)
 rw [Cs]at c1 c2
 unfold Sh.f41
 rw [HI a ta H (by omega) la]
 simp only [Fe,HI b tb H (by omega) lb,Aw,Option.bind_some,max_int]
 have hx:Bn (Ds (AQ a))=val a:=by rw [E8,EM a la]
 have hy:Bn (Ds (AQ b))=val b:=by rw [E8,EM b lb]
 rw [←hx,←hy]
 generalize Ds (AQ a)=x at c1 ⊢
 generalize Ds (AQ b)=y at c2 ⊢
 have hw:IntKind.i64.wrap (max (x.length:Int) (y.length:Int)-1)=((max x.length y.length:Nat):Int)-1:=by rw [Am] <;> omega
 simp only [DM,hw,Option.bind_some]
 have z:∀(c:List Bool) (m:Nat),c.length≤m→Bn c / 2^m=0:=fun c m h=>ZD (Zs (KT c) (YT (by omega) h))
 refine Bk (σ:=Nat) (fun i=>i<9223372036854775807∧(Bn x) / 2^i=(Bn y) / 2^i) (fun i=>[.sl (enL cB x) .no,.sl (enL cB y) .no,.int .i64 ((i:Int)-1)]) (fun _=>H) (fun i=>i) (fun _=>some (.ret (.int .i64 (cmpI (Bn x) (Bn y))),H)) (fun i rec hi hrec=>?_) (max x.length y.length) ⟨by omega,by rw [z _ _ (by omega),z _ _ (by omega)]⟩ (by omega)
 obtain ⟨hi,he⟩:=hi
 unfold Sh.f8a
 cases i with
 | zero=>
  have e:Bn x=Bn y:=by simpa using he
  simp [e,cmpI]
 | succ i=>
  have hi0:(((i+1:Nat):Int)-1)=(i:Int):=by omega
  have hge:(i:Int)≥0:=by omega
  have hw:IntKind.i64.wrap ((i:Int)-1)=(i:Int)-1:=by rw [Am] <;> omega
  have ax:∀(c:List Bool) (H:Aa),Sh.f7 (.sl (enL cB c) .no) (.int .i64 (i:Int)) H=some (.ret (.bool ((Bn c).testBit i)),H):=fun c H=>by rw [q01_at,Int.toNat_natCast,nat1_bit];simp
  have tb:∀m:Nat,m.testBit i=decide (m / 2^i%2=1):=fun m=>ZO
  have hs:∀m:Nat,m / 2^(i+1)=m / 2^i / 2:=fun m=>by rw [Nat.pow_succ,Nat.div_div_eq_div_mul]
  rw [hs,hs]at he
  have mono:∀p q:Nat,p≤q→p / 2^i≤q / 2^i:=fun p q h=>Nat.div_le_div_right h
  simp only [Al,Bb,Bf,hi0,LC,hge,decide_true,Option.bind_some,AV,ax,Fe,bne_bool]
  by_cases heq:(Bn x) / 2^i=(Bn y) / 2^i
  ·have hbit:(Bn x).testBit i=(Bn y).testBit i:=by rw [tb,tb,heq]
   simp only [hbit,bne_self_eq_false,AM,DM,hw,Option.bind_some]
   exact hrec i ⟨by omega,heq⟩ (by omega)
  ·have m1:=mono (Bn x) (Bn y)
   have m2:=mono (Bn y) (Bn x)
   rcases Qa9 (Bn x / 2^i)with h1 | h1 <;> rcases Qa9 (Bn y / 2^i)with h2 | h2
   ·omega
   ·have hlt:Bn x<Bn y:=by
     rcases Zf (Bn x) (Bn y)with h | h
     ·exact h
     ·have:=m2 h;omega
    simp [tb,h1,h2,cmpI,hlt]
   ·have hlt:Bn y<Bn x:=by
     rcases Zf (Bn y) (Bn x)with h | h
     ·exact h
     ·have:=m1 h;omega
    have hn:¬Bn x<Bn y:=by omega
    simp [tb,h1,h2,cmpI,hlt,hn]
   ·omega
theorem Rd (m:List Bool) (i:Nat):Bn m%2^(i+1)=Bn m%2^i+2^i*bn (m.getD i false):=by
 rw [nat1_bit,ZO,Nat.pow_succ,Nat.mod_mul]
 congr 2
 rcases Qa9 (Bn m / 2^i)with h | h <;> simp [h,bn]
theorem q01_add (a b:List Nat) (ta tb:Tok) (H:Aa) (ha:a.length≤1099511627776) (hb:b.length≤1099511627776) (la:Lim a) (lb:Lim b) :
  Sh.f40 (.sl (enL cU a) ta) (.sl (enL cU b) tb) H=some (.ret (.sl (enL cU (A4 (val a+val b))) .no),H):=by
 have c1:=Il (AQ a)
 have c2:=Il (AQ b)
 rw [Cs]at c1 c2
 unfold Sh.f40
 have hx:Bn (Ds (AQ a))=val a:=by rw [E8,EM a la]
 have hy:Bn (Ds (AQ b))=val b:=by rw [E8,EM b lb]
 simp only [HI a ta H (by omega) la,CK,HI b tb H (by omega) lb]
 rw [←hx,←hy]
 generalize Ds (AQ a)=x at c1 ⊢
 generalize Ds (AQ b)=y at c2 ⊢
 refine Bk (σ:=List Bool×Bool) (fun s=>s.1.length≤max x.length y.length+1∧Bn s.1+2^s.1.length*bn s.2=Bn x%2^s.1.length+Bn y%2^s.1.length) (fun s=>[.sl (enL cB x) .no,.sl (enL cB y) .no,Eb cB H s.1,.bool s.2,.int .i64 (s.1.length:Int)]) (fun s=>DR cB BZ 1 H s.1) (fun s=>max x.length y.length+1-s.1.length)
  (fun _=>some (.ret (.sl (enL cU (A4 (Bn x+Bn y))) .no),H)) (fun s rec hs hrec=>?_) ([],false) ⟨by simp,by simp [Bn,bn,Nat.mod_one]⟩ (by simp;omega)
 obtain ⟨o,c⟩:=s
 obtain ⟨ho,he⟩:=hs
 simp only at ho he hrec ⊢
 unfold Sh.f89
 simp only [Al,Bb,Bf,B2,BK,Aw,Option.bind_some,max_int,L9]
 by_cases h:o.length≤max x.length y.length
 ·have h':((o.length:Int)≤max (x.length:Int) (y.length:Int)):=by omega
  have hw:IntKind.i64.wrap ((o.length:Int)+1)=((o.length+1:Nat):Int):=by rw [Am] <;> omega
  have ax:∀(m:List Bool) (H:Aa),Sh.f7 (.sl (enL cB m) .no) (.int .i64 (o.length:Int)) H=some (.ret (.bool (m.getD o.length false)),H):=fun m H=>by rw [q01_at,Int.toNat_natCast];simp
  have app:∀s:Bool,AN BZ 1 1 (Eb cB H o) (.sl (enL cB [s]) .tight) (DR cB BZ 1 H o)=some (Eb cB H (o++[s]),DR cB BZ 1 H (o++[s])):=fun s=>DD (by simp) (by simp;omega) (by simp;omega)
  have w1:IntKind.i64.wrap (0+1)=1:=by decide
  have w2:IntKind.i64.wrap (1+1)=2:=by decide
  have w3:IntKind.i64.wrap (2+1)=3:=by decide
  have fin:rec [.sl (enL cB x) .no,.sl (enL cB y) .no,Eb cB H (o++[(bn (x.getD o.length false)+bn (y.getD o.length false)+bn c)%2 == 1]),.bool (decide (1<bn (x.getD o.length false)+bn (y.getD o.length false)+bn c)),.int .i64 ((o.length+1:Nat):Int)] (DR cB BZ 1 H (o++[(bn (x.getD o.length false)+bn (y.getD o.length false)+bn c)%2 == 1]))=some (.ret (.sl (enL cU (A4 (Bn x+Bn y))) .no),H):=by
   have:=hrec (o++[(bn (x.getD o.length false)+bn (y.getD o.length false)+bn c)%2 == 1],decide (1<bn (x.getD o.length false)+bn (y.getD o.length false)+bn c)) ⟨by simp;omega,?_⟩ (by simp;omega)
   ·simpa using this
   ·simp only [Y2,List.length_singleton]
    rw [Rd x,Rd y,Dw,Nat.pow_succ]
    generalize x.getD o.length false=p
    generalize y.getD o.length false=q
    generalize 2^o.length=z at he ⊢
    cases p <;> cases q <;> cases c <;> simp [bn,Bn]at he ⊢ <;> omega
  simp only [h',decide_true,AV,AH,ax,CK]
  revert fin
  generalize x.getD o.length false=p
  simp only [Sh.f88,AH,Al,Bb,Bf,B2,BK,D8,ax,CK]
  generalize y.getD o.length false=q
  intro fin
  rw [←fin]
  cases p <;> cases q <;> cases c <;>
   simp only [AV,AM,C2,w1,w2,w3,Option.bind_some,Al,Bb,Bf,B2,BK,D8,Sh.f87,Sh.f86,AH,HD (show (2:Int)≠0 by decide),DN,U5,D7,app,Df,CK,hw,bn] <;> rfl
 ·have h':¬((o.length:Int)≤max (x.length:Int) (y.length:Int)):=by omega
  obtain ⟨G,hG⟩:=G9 (f:=cB) (ty:=BZ) (sz:=1) H o
  have bx:=KT x
  have by':=KT y
  have px:2^x.length*2≤2^o.length:=by rw [←Nat.pow_succ];exact YT (by omega) (by omega)
  have py:2^y.length*2≤2^o.length:=by rw [←Nat.pow_succ];exact YT (by omega) (by omega)
  rw [Zq (by omega),Zq (by omega)]at he
  have hc:c=false:=by
   cases c with
   | false=>rfl
   | true=>exfalso;simp only [bn,if_true,YB]at he;omega
  subst hc
  have hsum:Bn o=Bn x+Bn y:=by simpa [bn]using he
  simp only [h',decide_false,AM,FQ,hG,Vd o _ _ (by omega),CK,Co,Ft,Option.map_some,hsum]
theorem q01_sub (a b:List Nat) (ta tb:Tok) (H:Aa) (ha:a.length≤1099511627776) (hb:b.length≤1099511627776) (la:Lim a) (lb:Lim b) :
  Sh.f2c (.sl (enL cU a) ta) (.sl (enL cU b) tb) H=some (.ret (.tup [.sl (enL cU (if val b≤val a then A4 (val a-val b)else [])) .no,.bool (decide (val b≤val a))]),H):=by
 have c1:=Il (AQ a)
 rw [Cs]at c1
 unfold Sh.f2c
 simp only [q01_cmp a b ta tb H ha hb la lb,CK,Bj,Option.bind_some]
 by_cases hv:val b≤val a
 ·have hc:¬(cmpI (val a) (val b)<0):=by unfold cmpI;split <;> (try split) <;> omega
  have hx:Bn (Ds (AQ a))=val a:=by rw [E8,EM a la]
  have hy:Bn (Ds (AQ b))=val b:=by rw [E8,EM b lb]
  simp only [hc,decide_false,AM,HI a ta H (by omega) la,HI b tb H (by omega) lb,CK,hv,if_true,decide_true]
  rw [←hx,←hy]at hv ⊢
  generalize Ds (AQ a)=x at c1 hv ⊢
  generalize Ds (AQ b)=y at hv ⊢
  refine Bk (σ:=List Bool×Bool) (fun s=>s.1.length≤x.length∧Bn s.1+Bn y%2^s.1.length=Bn x%2^s.1.length+2^s.1.length*bn s.2) (fun s=>[.sl (enL cB x) .no,.sl (enL cB y) .no,Eb cB H s.1,.int .i64 (if s.2 then 1 else 0),.int .i64 (s.1.length:Int)]) (fun s=>DR cB BZ 1 H s.1) (fun s=>x.length-s.1.length)
   (fun _=>some (.ret (.tup [.sl (enL cU (A4 (Bn x-Bn y))) .no,.bool true]),H)) (fun s rec hs hrec=>?_) ([],false) ⟨by simp,by simp [Bn,bn,Nat.mod_one]⟩ (by simp;omega)
  obtain ⟨o,c⟩:=s
  obtain ⟨ho,he⟩:=hs
  simp only at ho he hrec ⊢
  unfold Sh.f8e
  simp only [Al,Bb,Bf,B2,BK,Aw,Option.bind_some,Bj]
  by_cases h:o.length<x.length
  ·have h':((o.length:Int)<(x.length:Int)):=by omega
   have hw:IntKind.i64.wrap ((o.length:Int)+1)=((o.length+1:Nat):Int):=by rw [Am] <;> omega
   have ax:∀(m:List Bool) (H:Aa),Sh.f7 (.sl (enL cB m) .no) (.int .i64 (o.length:Int)) H=some (.ret (.bool (m.getD o.length false)),H):=fun m H=>by rw [q01_at,Int.toNat_natCast];simp
   have app:∀s:Bool,AN BZ 1 1 (Eb cB H o) (.sl (enL cB [s]) .tight) (DR cB BZ 1 H o)=some (Eb cB H (o++[s]),DR cB BZ 1 H (o++[s])):=fun s=>DD (by simp) (by simp;omega) (by simp;omega)
   have n0:unA .neg (.int .i64 0)=some (.int .i64 0):=by rw [show unA .neg (.int .i64 0)=some (.int .i64 (IntKind.i64.wrap (0-0))) from rfl,show IntKind.i64.wrap (0-0)=0 from by decide]
   have n1:unA .neg (.int .i64 1)=some (.int .i64 (-1)):=by rw [show unA .neg (.int .i64 1)=some (.int .i64 (IntKind.i64.wrap (0-1))) from rfl,show IntKind.i64.wrap (0-1) = -1 from by decide]
   have w1:IntKind.i64.wrap (0+1)=1:=by decide
   have w2:IntKind.i64.wrap (-1+1)=0:=by decide
   have w3:IntKind.i64.wrap (0-1) = -1:=by decide
   have w4:IntKind.i64.wrap (1-1)=0:=by decide
   have w5:IntKind.i64.wrap (-1-1) = -2:=by decide
   have w6:IntKind.i64.wrap (-1+2)=1:=by decide
   have w7:IntKind.i64.wrap (-2+2)=0:=by decide
   have fin:rec [.sl (enL cB x) .no,.sl (enL cB y) .no,Eb cB H (o++[subS (x.getD o.length false) (y.getD o.length false) c]),.int .i64 (if subC (x.getD o.length false) (y.getD o.length false) c then 1 else 0),.int .i64 ((o.length+1:Nat):Int)] (DR cB BZ 1 H (o++[subS (x.getD o.length false) (y.getD o.length false) c]))=some (.ret (.tup [.sl (enL cU (A4 (Bn x-Bn y))) .no,.bool true]),H):=by
    have:=hrec (o++[subS (x.getD o.length false) (y.getD o.length false) c],subC (x.getD o.length false) (y.getD o.length false) c) ⟨by simp;omega,?_⟩ (by simp;omega)
    ·simpa using this
    ·simp only [Y2,List.length_singleton]
     rw [Rd x,Rd y,Dw,Nat.pow_succ]
     generalize x.getD o.length false=p
     generalize y.getD o.length false=q
     generalize 2^o.length=z at he ⊢
     cases p <;> cases q <;> cases c <;> simp [bn,Bn,subS,subC,subN]at he ⊢ <;> omega
   simp only [h',decide_true,AV,AH,ax,CK]
   revert fin
   generalize x.getD o.length false=p
   simp only [Sh.f8d,AH,Al,Bb,Bf,B2,BK,D8,ax,CK]
   generalize y.getD o.length false=q
   intro fin
   rw [←fin]
   cases p <;> cases q <;> cases c <;>
    simp [n0,n1,w1,w2,w3,w4,w5,w6,w7,Sh.f8c,Sh.f8b,AH,U5,app,hw,subS,subC,subN]
  ·have h':¬((o.length:Int)<(x.length:Int)):=by omega
   obtain ⟨G,hG⟩:=G9 (f:=cB) (ty:=BZ) (sz:=1) H o
   have bx:=KT x
   have bo:=KT o
   have hxi:x.length=o.length:=by omega
   rw [hxi]at bx
   rw [Zq bx,Zq (by omega)]at he
   have hc:c=false:=by
    cases c with
    | false=>rfl
    | true=>exfalso;simp only [bn,if_true,YB]at he;omega
   subst hc
   have hsum:Bn o=Bn x-Bn y:=by simp [bn]at he;omega
   simp only [h',decide_false,AM,FQ,hG,Vd o _ _ (by omega),CK,Co,Dz,Cp,C9,ID,Hj,Option.bind_some,Option.map_some,hsum]
 ·have hc:cmpI (val a) (val b)<0:=by unfold cmpI;rw [if_pos (by omega)];decide
  simp [hc,hv,FS]
def A6 (z:Int):List Ab:=[.bool (decide (z<0)),.sl (enL cU (A4 z.natAbs)) .no]
def big (z:Int):Ab:=.agg (A6 z)
def LB (z:Int):Prop:=(A4 z.natAbs).length≤549755813888
theorem Yp (z:Int):(A6 z).all Ab.isScal=true:=by simp [A6]
@[simp] theorem bigC_g0 (z:Int) (h:0<(A6 z).length):(A6 z)[0]=.bool (decide (z<0)):=(rfl)
@[simp] theorem bigC_g1 (z:Int) (h:1<(A6 z).length):(A6 z)[1]=.sl (enL cU (A4 z.natAbs)) .no:=(rfl)
@[simp] theorem bigC_0 (z:Int):(A6 z)[0]? = some (.bool (decide (z<0))):=(rfl)
@[simp] theorem bigC_1 (z:Int):(A6 z)[1]? = some (.sl (enL cU (A4 z.natAbs)) .no):=(rfl)
@[simp] theorem QE (z:Int):(big z).acells=some (A6 z):=CF (Yp z)
theorem big_sgn (neg:Bool) (n:Nat):[Ab.bool (sgn neg n),.sl (enL cU (A4 n)) .no]=A6 (if neg then -(n:Int)else n):=by
 unfold A6
 have e1:sgn neg n=decide ((if neg then -(n:Int)else (n:Int))<0):=by
  unfold sgn
  cases neg with
  | false=>simp
  | true=>
   by_cases h:n=0
   ·subst h;rfl
   ·have:(-(n:Int))<0:=by omega
    simp [h,this];omega
 have e2:(if neg then -(n:Int)else (n:Int)).natAbs=n:=by cases neg <;> simp
 rw [e1,e2]
theorem Tn (n:Nat):(decide (((A4 n).length:Int)>0))=decide (n≠0):=by
 by_cases h:n=0
 ·subst h;rw [Du];rfl
 ·have:=YZ.2 (Rk h)
  have h1:((A4 n).length:Int)>0:=by omega
  rw [decide_eq_true h1,decide_eq_true h]
@[simp] theorem fcells_big {H:Aa} {n d:Nat} {z:Int}:Gj H n (d+2) (A6 z)=some (A6 z):=by simp [A6]
@[simp] theorem fall_big {H:Aa} {n d:Nat} {z:Int}:Hm H n (d+3) (big z)=some (big z):=by simp [big]
@[simp] theorem fpart_big {H:Aa} {n d:Nat} {z:Int}:Fy H n (d+3) (big z)=some (big z):=by simp [big]
@[simp] theorem forget_big {z:Int}:forget (big z)=big z:=by simp [big,A6]
@[simp] theorem bigC_length (z:Int):(A6 z).length=2:=(rfl)
@[simp] theorem W5 (z:Int):Ab.agg (A6 z)=big z:=(rfl)
@[simp] theorem putN_big (cs:List Ab) (z:Int) (h:cs.length=2):DF cs 0 2 (A6 z)=A6 z:=G8 h
theorem DC (z:Int) (H:Aa):Bz true 2 (big z) H=some (.ptr H.length 0 0,H++[.cel 0 (A6 z)]):=Ct (Yp z) rfl
theorem QW (neg:Bool) (l:List Nat) (tk:Tok) (H:Aa) (hl:l.length≤1099511627776) (hx:Lim l):Sh.fb (.bool neg) (.sl (enL cU l) tk) H=some (.ret (big (if neg then -(val l:Int)else val l)),H):=by
 unfold Sh.fb big
 rw [←big_sgn]
 have hp:=Tn (val l)
 cases neg with
 | false=>simp [Ve _ _ _ hl hx,A2,Gu,DF,sgn,CF]
 | true=>
  simp only [Jl,CB,Option.bind_some,Aw,D7,hp,sgn,Zu,alloc_eq (cs:=[.bool false,.sl [] .tight]) rfl,Bo,Ve _ _ _ hl hx,CK]
  simp [A2,Gu,DF,CF]
theorem Sd (neg:Bool) (l:List Nat) (tk:Tok) (H:Aa) (hl:l.length≤1099511627776) (hx:Lim l):Sh.f6 (.agg [.bool neg,.sl (enL cU l) tk]) H=some (.ret (big (-(HS neg l))),H):=by
 have ez:(if neg=false then -(val l:Int)else (val l:Int)) = -(HS neg l):=by cases neg <;> simp [HS]
 unfold Sh.f6
 simp [Ct,QW _ l tk _ hl hx,ez]
theorem LE (z:Int):HS (decide (z<0)) (A4 z.natAbs)=z:=by
 unfold HS
 rw [Bx]
 by_cases h:z<0
 ·simp [h];omega
 ·simp [h];omega
theorem bigI_abs (neg:Bool) (l:List Nat):(HS neg l).natAbs=val l:=by cases neg <;> simp [HS]
theorem q02_add (n1 n2:Bool) (l1 l2:List Nat) (t1 t2:Tok) (H:Aa) (h1:l1.length≤549755813888) (h2:l2.length≤549755813888) (x1:Lim l1) (x2:Lim l2) :
  Sh.f1 (.agg [.bool n1,.sl (enL cU l1) t1]) (.agg [.bool n2,.sl (enL cU l2) t2]) H=some (.ret (big (HS n1 l1+HS n2 l2)),H):=by
 have v1:=val_lt l1 x1
 have v2:=val_lt l2 x2
 have p1:=Vj (show l1.length≤max l1.length l2.length by omega)
 have p2:=Vj (show l2.length≤max l1.length l2.length by omega)
 have p3:(4294967296:Nat)^(max l1.length l2.length+1)=4294967296^max l1.length l2.length*4294967296:=Nat.pow_succ _ _
 have sg:∀(neg:Bool) (m:Nat) (tk:Tok) (H:Aa),m<4294967296^(max l1.length l2.length+1)→Sh.fb (.bool neg) (.sl (enL cU (A4 m)) tk) H=some (.ret (big (if neg then -(m:Int)else m)),H):=by
  intro neg m tk H hm
  have:=QW neg (A4 m) tk H (by have:=ES hm;omega) (Bp m)
  rwa [Bx]at this
 unfold Sh.f1
 by_cases hn:n1=n2
 ·subst hn
  have ez:(if n1=true then -((val l1:Int)+(val l2:Int))else ((val l1:Int)+(val l2:Int)))=HS n1 l1+HS n1 l2:=by cases n1 <;> simp [HS] <;> omega
  simp [Zn,Ct,Kn,BN,q01_add _ _ _ _ _ (show l1.length≤1099511627776 by omega) (show l2.length≤1099511627776 by omega) x1 x2,sg n1 (val l1+val l2) _ _ (by omega),ez]
 ·have hb:(n1 == n2)=false:=by simpa using hn
  by_cases hv:val l2≤val l1
  ·have ez:(if n1=true then -((val l1-val l2:Nat):Int)else ((val l1-val l2:Nat):Int))=HS n1 l1+HS n2 l2:=by cases n1 <;> cases n2 <;> simp [HS]at hn ⊢ <;> omega
   simp [Zn,Ct,Kn,hb,q01_sub _ _ _ _ _ (show l1.length≤1099511627776 by omega) (show l2.length≤1099511627776 by omega) x1 x2,hv,sg n1 (val l1-val l2) _ _ (by omega),ez]
  ·have ez:(if n2=true then -((val l2-val l1:Nat):Int)else ((val l2-val l1:Nat):Int))=HS n1 l1+HS n2 l2:=by cases n1 <;> cases n2 <;> simp [HS]at hn ⊢ <;> omega
   have hv':val l1≤val l2:=by omega
   simp [Zn,Ct,Kn,hb,q01_sub _ _ _ _ _ (show l1.length≤1099511627776 by omega) (show l2.length≤1099511627776 by omega) x1 x2,q01_sub _ _ _ _ _ (show l2.length≤1099511627776 by omega) (show l1.length≤1099511627776 by omega) x2 x1,hv,hv',sg n2 (val l2-val l1) _ _ (by omega),ez]
theorem LD (z:Int):big z=.agg [.bool (decide (z<0)),.sl (enL cU (A4 z.natAbs)) .no]:=rfl
theorem JE (a b:Int) (H:Aa) (ha:LB a) (hb:LB b):Sh.f1 (big a) (big b) H=some (.ret (big (a+b)),H):=by
 rw [LD a,LD b,q02_add _ _ _ _ _ _ _ ha hb (Bp _) (Bp _),LE,LE]
theorem I7 (a:Int) (H:Aa) (ha:LB a):Sh.f6 (big a) H=some (.ret (big (-a)),H):=by
 rw [LD a,Sd _ _ _ _ (by unfold LB at ha;omega) (Bp _),LE]
theorem LB.neg {a:Int} (h:LB a):LB (-a):=by unfold LB at *;rwa [Qba]
theorem LB.of {a:Int} {k:Nat} (h:a.natAbs<4294967296^k) (hk:k≤549755813888):LB a:=YJ (ES h) hk
theorem q02_subZ (a b:Int) (H:Aa) (ha:LB a) (hb:LB b):Sh.fp (big a) (big b) H=some (.ret (big (a-b)),H):=by
 unfold Sh.fp
 simp [Zn,DC,BN,I7 _ _ hb,JE _ _ _ ha hb.neg,Int.sub_eq_add_neg]
def EZ (a b:Int):Int:=if a<b then -1 else if a=b then 0 else 1
theorem G7 (a b:Int) (H:Aa) (ha:LB a) (hb:LB b):Sh.f2 (big a) (big b) H=some (.ret (.int .i64 (EZ a b)),H):=by
 unfold Sh.f2
 simp only [DC,Bo,Y1,List.singleton_append]
 simp [Zn,DC,q02_subZ _ _ _ ha hb]
 unfold EZ
 by_cases h0:a=b
 ·subst h0;simp [Du]
 ·have hne:A4 (a-b).natAbs≠[]:=Rk (by omega)
  have hp:=YZ.2 hne
  have hz:(((A4 (a-b).natAbs).length:Int) == 0)=false:=by rw [beq_eq_false_iff_ne];omega
  have hz2:¬((A4 (a-b).natAbs).length:Int)=0:=by omega
  have hz3:¬A4 (a-b).natAbs=[]:=hne
  by_cases hn:a<b
  ·have:a-b<0:=by omega
   simp [hz,hz2,hz3,hn,this]
  ·have:¬(a-b<0):=by omega
   simp [hz,hz2,hz3,hn,this,h0]
theorem repl1 (n:Nat) (v:Ab):N3 n [v]=List.replicate n v:=by
 induction n with
 | zero=>rfl
 | succ n ih=>simp only [N3,List.replicate_succ,List.flatten_cons]at ih ⊢;rw [ih];rfl
theorem chunk1 (n:Nat) (v:Ab):GH 1 n (List.replicate n v)=List.replicate n [v]:=by
 induction n with
 | zero=>rfl
 | succ n ih=>simp only [GH,List.replicate_succ,List.take_succ_cons,List.take_zero,List.drop_succ_cons,ZJ,ih]
theorem make_one {bytes n:Nat} {v:Ab} {H:Aa} (hv:v.isScal=true) (hb:n*bytes≤140737488355328) (hn:n≤140737488355328):Fx 1 bytes (some [v]) (.int .i64 (n:Int)) (.int .i64 (n:Int)) H=some (.ms H.length 0 0 n n 1 true,H++[.cel 0 (List.replicate n v)]):=by
 unfold Fx
 simp only [Option.bind_some]
 have h1:((n:Int)*(bytes:Int))≤140737488355328:=by
   have:((n*bytes:Nat):Int)≤140737488355328:=by omega
   simpa using this
 rw [if_pos ⟨by simp [hv],rfl,by omega,by omega,h1,by omega⟩,repl1]
 simp
theorem elems_ms {H:Aa} {n:Nat}:Ce 1 (.ms H.length 0 0 n n 1 true) (H++[.cel 0 (List.replicate n (.bool false))])=some (enL cB (List.replicate n false)):=by
 have hm:(List.replicate n (Ab.bool false)).map Oe=List.replicate n (.bool false):=by simp [Oe]
 have hi:(List.replicate n (Ab.bool false)).all Cb=true:=by simp [Cb]
 simp only [Ce,if_true,get_app0,JN,Option.bind_some,ZJ,Yy,YB,Qar,Y6 (show (List.replicate n (Ab.bool false)).length≤n by simp),hm,hi,Yz,and_self,chunk1]
 simp [enL]
theorem q01_of_ms (B:Aa) (n:Nat) (hn:n≤140737488355328):Sh.ff (.ms B.length 0 0 n n 1 true) (B++[.cel 0 (List.replicate n (.bool false))])=some (.ret (.sl [] .no),B++[.cel 0 (List.replicate n (.bool false))]):=by
 unfold Sh.ff Sh.f14
 have hc:∀K:Aa,Ao (fun rec1 vs H1=>Sh.f69 K rec1 (ag vs 0) H1) AK [.ms B.length 0 0 n n 1 true] (B++[.cel 0 (List.replicate n (.bool false))])
   = some (.ret (.ms B.length 0 0 0 n 1 true),B++[.cel 0 (List.replicate n (.bool false))]):=by
  intro K
  refine Bk (σ:=Nat) (fun k=>k≤n) (fun k=>[.ms B.length 0 0 k n 1 true]) (fun _=>B++[.cel 0 (List.replicate n (.bool false))]) (fun k=>k) (fun _=>some (.ret (.ms B.length 0 0 0 n 1 true),B++[.cel 0 (List.replicate n (.bool false))])) (fun k rec hk hrec=>?_) n (Yz _) (by omega)
  unfold Sh.f69
  cases k with
  | zero=>simp [forget,Eu,fgt]
  | succ k=>
   have hpos:((k+1:Nat):Int)>0:=by omega
   have hw:IntKind.i64.wrap (((k+1:Nat):Int)-1)=(k:Int):=by rw [Am] <;> omega
   have hidx:Au 1 (.ms B.length 0 0 (k+1) n 1 true) (.int .i64 (k:Int))=some (.ptr B.length 0 k):=by
    unfold Au
    simp only []
    rw [if_pos ⟨trivial,by omega,by omega⟩]
    simp
   have hload:Ac false 1 (.ptr B.length 0 k) (B++[.cel 0 (List.replicate n (.bool false))])=some (.bool false):=by
    rw [Hi,OW,Qao,if_pos (by omega)]
   have hsl:Bw 1 (.ms B.length 0 0 (k+1) n 1 true) none (some (.int .i64 (k:Int))) none=some (.ms B.length 0 0 k n 1 true):=by
    have:(0:Int)≤(k:Int):=by omega
    simp only [Bw,Bt,Option.bind_some,this,if_true,Int.toNat_natCast]
    rw [if_pos ⟨trivial,by omega,by omega,by omega⟩]
    simp
   simp only [Al,len_ms,Option.bind_some,D7,hpos,decide_true,Jl,DM,hw,hidx,hload,Jq,CB,Zt,AV,hsl]
   exact hrec k (by omega) (by omega)
 rw [hc]
 simp only [CK]
 rw [Dd DU]
 unfold Sh.f6a
 simp
theorem q01_shl (l:List Nat) (tk:Tok) (m:Nat) (H:Aa) (hm:m≤10000) (hl:l.length≤549755813888) (hx:Lim l) :
  Sh.f3y (.sl (enL cU l) tk) (.int .i64 (m:Int)) H=some (.ret (.sl (enL cU (A4 (2^m*val l))) .no),H):=by
 unfold Sh.f3y
 have h0:¬(m:Int)<0:=by omega
 have h1:¬(m:Int)>10000:=by omega
 have hc:=Il (AQ l)
 rw [Cs]at hc
 simp only [Bj,Option.bind_some,decide_eq_false h0,Of,D7,decide_eq_false h1,Cz,AM,HI l tk H (by omega) hx,B6,make_one (bytes:=1) (v:=.bool false) rfl (show m*1≤140737488355328 by omega) (by omega),Bo]
 by_cases hv:val l=0
 ·have e:Ds (AQ l)=[]:=cutL_nat0 (by rw [EM l hx];exact hv)
  rw [e,FS,Dk (by rw [elems_ms];rfl)]
  simp [q01_of_ms H m (by omega),hv,Du,FS]
 ·have hne:Ds (AQ l)≠[]:=fun e=>hv (by rw [←EM l hx,←E8,e];rfl)
  have ha:AN BZ 1 1 (.ms H.length 0 0 m m 1 true) (.sl (enL cB (Ds (AQ l))) .no) (H++[.cel 0 (List.replicate m (.bool false))])
    = some (.sl (enL cB (List.replicate m false++Ds (AQ l))) (.own (H.length+1)),H++[.cel 0 (List.replicate m (.bool false))]++[.tok (m+(Ds (AQ l)).length) BZ 1]):=by
   have hl0:(enL cB (Ds (AQ l))).length≠0:=by simpa using hne
   unfold AN
   rw [show Ce 1 (.sl (enL cB (Ds (AQ l))) .no) (H++[.cel 0 (List.replicate m (.bool false))])=some (enL cB (Ds (AQ l))) from by simp [Ce,all_enL],elems_ms]
   simp only [Option.bind_some]
   rw [if_neg hl0,if_pos (by simp;omega),if_pos (by simp;exact YZ.2 hne)]
   simp [enL_append]
  rw [ha]
  simp only [Df,B6,Y1]
  rw [Vd _ _ _ (by simp;omega)]
  simp only [B6,Co,Ft,Option.map_some,nat1_repl,E8,EM l hx]
theorem q02_shl (z:Int) (m:Nat) (H:Aa) (hm:m≤10000) (hz:LB z) (hz2:LB (z*2^m)) :
  Sh.f3z (big z) (.int .i64 (m:Int)) H=some (.ret (big (z*2^m)),H):=by
 have e:(z*2^m).natAbs=2^m*z.natAbs:=by rw [Int.natAbs_mul,QaE,Z5];rfl
 have hp:(0:Int)<2^m:=QaK (by omega)
 have hs:∀tk H,Sh.fb (.bool (decide (z<0))) (.sl (enL cU (A4 (2^m*z.natAbs))) tk) H=some (.ret (big (z*2^m)),H):=by
  intro tk H
  rw [QW _ _ _ _ (by rw [←e];unfold LB at hz2;omega) (Bp _),Bx]
  congr 3
  have:((2^m*z.natAbs:Nat):Int)=2^m*(z.natAbs:Int):=by simp
  by_cases h:z<0
  ·simp only [h,decide_true,if_true,this]
   rw [show ((z.natAbs:Nat):Int) = -z from by omega,Int.mul_neg,Int.neg_neg,Qbm]
  ·simp only [h,decide_false,Y4,if_false,this]
   rw [show ((z.natAbs:Nat):Int)=z from by omega,Qbm]
 unfold Sh.f3z
 simp [DC,BN,q01_shl _ _ _ _ hm hz (Bp _),Bx,hs]
theorem OI {n:Int} (h0:-18446744073709551616≤n) (h:n<0):IntKind.u64.wrap n=n+18446744073709551616:=by
 have h1:IntKind.u64.bits=64:=rfl
 have h2:IntKind.u64.signed=false:=rfl
 unfold IntKind.wrap
 simp only [h1,h2,Z7,Y4,if_false]
 omega
theorem build_2U (x y:Nat):AO 1 [.int .u32 (x:Int),.int .u32 (y:Int)]=some (.sl (enL cU [x,y]) .tight):=by simp [AO,De,Oe,Cb,Ab.acells,enL]
theorem q02_of (n:Int) (H:Aa) (h0:-9223372036854775808≤n) (h1:n≤9223372036854775807):Sh.fg (.int .i64 n) H=some (.ret (big n),H):=by
 obtain ⟨u,hu⟩:∃u:Nat,u=n.natAbs:=⟨_,rfl⟩
 have hlim:Lim [u%4294967296,u / 4294967296]:=fun x hx=>by
  simp at hx
  rcases hx with rfl | rfl <;> omega
 have hval:val [u%4294967296,u / 4294967296]=u:=by simp [val];omega
 have ez:(if decide (n<0)=true then -(u:Int)else (u:Int))=n:=by
  by_cases h:n<0 <;> simp [h] <;> omega
 have a1:=fun H=>QW (decide (n<0)) [u%4294967296,u / 4294967296] .tight H (by simp) hlim
 simp only [hval,ez]at a1
 have e1:((u:Int).tmod 4294967296)=((u%4294967296:Nat):Int):=rfl
 have e2:IntKind.u64.wrap ((u:Int).tdiv 4294967296)=((u / 4294967296:Nat):Int):=by rw [show (u:Int).tdiv 4294967296=((u / 4294967296:Nat):Int) from rfl,BR] <;> omega
 have e3:IntKind.u32.wrap ((u%4294967296:Nat):Int)=((u%4294967296:Nat):Int):=by rw [CL] <;> omega
 have e4:IntKind.u32.wrap ((u / 4294967296:Nat):Int)=((u / 4294967296:Nat):Int):=by rw [CL] <;> omega
 have j1:Sh.f7l H (.int .i64 n) (.ptr H.length 0 0) (.int .u64 (u:Int)) (H++[.cel 0 [.bool false,.sl [] .tight]])=some (.ret (big n),H):=by
  unfold Sh.f7l
  simp only [Bj,Option.bind_some,HD (show (4294967296:Int)≠0 by decide),RH (show (4294967296:Int)≠0 by decide),e1,e2,Bq,e3,e4,build_2U,a1,CK]
  simp
 unfold Sh.fg
 simp only [alloc_eq (cs:=[.bool false,.sl [] .tight]) rfl,Bo,Bq,Option.bind_some,AH,Bj,Al,Bb,Bf]
 by_cases h:n<0
 ·have w:IntKind.u64.wrap (0-IntKind.u64.wrap n)=(u:Int):=by
   rw [OI (n:=n) (by omega) h,OI (by omega) (by omega)];omega
  have un:unA .neg (.int .u64 (IntKind.u64.wrap n))=some (.int .u64 (u:Int)):=by
   rw [show unA .neg (.int .u64 (IntKind.u64.wrap n))=some (.int .u64 (IntKind.u64.wrap (0-IntKind.u64.wrap n))) from rfl,w]
  rw [decide_eq_true h]
  simp only [AV,un,Option.bind_some,Al,Bb,Bf]
  exact j1
 ·have w:IntKind.u64.wrap n=(u:Int):=by rw [BR (by omega) (by omega)];omega
  rw [decide_eq_false h]
  simp only [AM,w,Al,Bb,Bf]
  exact j1
theorem LB_pow (m:Nat) (hm:m≤20000):LB (2^m):=by
 refine LB.of (k:=m+1) ?_ (by omega)
 rw [QaE]
 have:(2:Nat)^m<2^(32*(m+1)):=QaX (by omega) (by omega)
 rw [Qam]at this
 exact this
theorem LB_one:LB 1:=LB_pow 0 (by omega)
theorem Jc (m:Nat) (H:Aa) (hm:m≤10000):Sh.f4 (.int .i64 (m:Int)) H=some (.ret (big (2^m)),H):=by
 have hs:=fun H=>q02_shl 1 m H hm LB_one (by rw [Int.one_mul];exact LB_pow m (by omega))
 simp only [Int.one_mul]at hs
 unfold Sh.f4
 simp [q02_of 1 _ (by omega) (by omega),hs]
def Hv (neg:Bool) (l:List Nat):Bool:=Gb l && !(neg&&l.isEmpty)
theorem X6 (neg:Bool) (l:List Nat) (tk:Tok) (H:Aa) (hl:l.length≤549755813888):Sh.f2h (.agg [.bool neg,.sl (enL cU l) tk]) H=some (.ret (.bool (Hv neg l)),H):=by
 unfold Sh.f2h Hv
 have hq:=fun H=>q01_right l tk H (by omega)
 cases hr:Gb l with
 | false=>simp [Ct,hq,hr]
 | true=>
  cases neg with
  | false=>simp [Ct,hq,hr]
  | true=>cases l <;> simp [Ct,hq,hr] <;> omega
theorem bigC_ok {n:Bool} {l:List Nat} (h:Hv n l=true) (hx:Lim l):[Ab.bool n,.sl (enL cU l) .no]=A6 (HS n l):=by
 simp only [Hv,Y7,Zv]at h
 obtain ⟨h1,h2⟩:=h
 have hn:Nrm l:=(Qq hx).1 h1
 unfold A6
 rw [bigI_abs,←NZ hn]
 congr 2
 unfold HS
 cases n with
 | false=>simp
 | true=>
  have hl:l≠[]:=fun e=>by subst e;simp at h2
  have:val l≠0:=fun e=>hl (hn.zero e)
  simp;omega
theorem LB_zero:LB 0:=by unfold LB;simp [Du]
structure Cl where
 x:Int
 y:Int
 s:UInt8
deriving DecidableEq
def cCl (c:Cl):List Ab:=[.bool (decide (c.x<0)),.sl (enL cU (A4 c.x.natAbs)) .no,.bool (decide (c.y<0)),.sl (enL cU (A4 c.y.natAbs)) .no,.int .u8 (c.s.toNat:Int)]
instance:Sz cCl 5:=⟨fun _=>rfl⟩
instance:Pl cCl:=⟨fun _=>rfl⟩
def cBig (z:Int):List Ab:=A6 z
instance:Sz cBig 2:=⟨fun _=>rfl⟩
instance:Pl cBig:=⟨fun _=>rfl⟩
def SB (k:Nat) (z:Int):Prop:=z.natAbs<4294967296^k
theorem SB.lb {k:Nat} {z:Int} (h:SB k z) (hk:k≤549755813888):LB z:=LB.of h hk
theorem SB.mono {k m:Nat} {z:Int} (h:SB k z) (hm:k≤m):SB m z:=Zs h (Vj hm)
theorem SB_powk {m k:Nat} (h:m<32*k):SB k (2^m):=by
 have e:((2:Int)^m).natAbs=2^m:=by rw [QaE];rfl
 unfold SB
 rw [e]
 exact Vk h
theorem SB_pow {m:Nat} (h:m≤10000):SB 313 (2^m):=SB_powk (Zm h (by decide))
def Cl.ok (c:Cl):Prop:=SB 100 c.x∧SB 100 c.y
def Jv (a b:Cl):Int:=if EZ a.y b.y=0 then EZ a.x b.x else EZ a.y b.y
theorem boxCl (c:Cl) (H:Aa):Bz true 5 (.agg (cCl c)) H=some (.ptr H.length 0 0,H++[.cel 0 (cCl c)]):=Ct rfl rfl
theorem Pj (c:Cl):(Ab.agg (cCl c)).acells=some (cCl c):=CF rfl
section
variable {H G:Aa} {p:Nat} {c:Cl} {z:Int}
theorem Jf (hg:H[p]? = some (.cel 0 (cCl c))):Ac true 2 (.ptr p 0 0) H=some (big c.x):=by
 simp only [Ac,AE hg,Option.bind_some,if_true];rfl
theorem Je (hg:H[p]? = some (.cel 0 (cCl c))):Ac true 2 (.ptr p 0 2) H=some (big c.y):=by
 simp only [Ac,AE hg,Option.bind_some,if_true];rfl
theorem AW (hg:H[p]? = some (.cel 0 (A6 z))):Ac true 2 (.ptr p 0 0) H=some (big z):=by
 simp only [Ac,AE hg,Option.bind_some,if_true];rfl
theorem Cu {cs:List Ab} (hg:H[p]? = some (.cel 0 cs)) (hl:cs.length=2):Af 2 (.ptr p 0 0) (big z) H=some (H.set p (.cel 0 (A6 z))):=by
 simp only [Af,AE hg,Option.bind_some,QE,Ch hg,G8 hl]
 rw [if_pos ⟨rfl,by omega⟩]
theorem Rh:Ac true 2 (.cptr (cCl c) 0) H=some (big c.x):=(rfl)
theorem Rg:Ac true 2 (.cptr (cCl c) 2) H=some (big c.y):=(rfl)
theorem load_sC:Ac false 1 (.cptr (cCl c) 4) H=some (.int .u8 (c.s.toNat:Int)):=(rfl)
theorem Rj:Ac true 5 (.cptr (cCl c) 0) H=some (.agg (cCl c)):=(rfl)
theorem Kl (c:Cl):AO 5 [.agg (cCl c)]=some (.sl (enL cCl [c]) .tight):=by
 simp [AO,De,Pj];simp [cCl,Oe,Cb,enL]
theorem Cd (H:Aa):Ax (some [.bool false,.sl [] .tight]) H=some (.ptr H.length 0 0,H++[.cel 0 [.bool false,.sl [] .tight]]):=alloc_eq rfl
theorem A1 {i:Nat} {x:Blk} (h:H[i]? = some x):(H++G)[i]? = some x:=by
 have:=(Yw.1 h).1
 rw [Yx this];exact h

end
theorem q07_order (a b:Cl) (H:Aa) (ha:a.ok) (hb:b.ok):Sh.f2f (.agg (cCl a)) (.agg (cCl b)) H=some (.ret (.int .i64 (Jv a b)),H):=by
 have e1:(H++[Blk.cel 0 (cCl a)]++[Blk.cel 0 (cCl b)])[H.length]? = some (.cel 0 (cCl a)):=by simp
 have e2:(H++[Blk.cel 0 (cCl a)]++[Blk.cel 0 (cCl b)])[(H++[Blk.cel 0 (cCl a)]).length]? = some (.cel 0 (cCl b)):=Ap
 unfold Sh.f2f
 have hy:=fun H=>G7 a.y b.y H (ha.2.lb (by decide)) (hb.2.lb (by decide))
 have hx:=fun H=>G7 a.x b.x H (ha.1.lb (by decide)) (hb.1.lb (by decide))
 simp only [GMb,GMc,boxCl,Ah,Yy,Nat.add_zero,Je e1,Je e2,hy]
 have fin:∀q:Int,rP H (.int .i64 q) (H++[Blk.cel 0 (cCl a)]++[Blk.cel 0 (cCl b)])=some (.ret (.int .i64 q),H):=fun q=>by simp only [Y1];exact I6
 unfold Jv
 by_cases h:EZ a.y b.y=0
 ·simp only [GMb,GMc,h,Jf e1,Jf e2,hx,fin]
 ·simp only [GMb,GMc,h,fin]
def inZ (v:Nat) (z:Int):Bool:=decide (-(2^(v-1))≤z)&&decide (z<2^(v-1))
def EH (v:Nat) (c:Cl):Bool:=inZ v c.x&&inZ v c.y
theorem Pg (a b:Int):decide (EZ a b≥0)=decide (b≤a):=by
 unfold EZ;rw [YD]
 split
 ·simp;omega
 ·split
  ·simp;omega
  ·simp;omega
theorem GG (a b:Int):decide (EZ a b<0)=decide (a<b):=by
 unfold EZ;rw [YD]
 split
 ·simp;omega
 ·split
  ·simp;omega
  ·simp;omega
theorem q07_within (c:Cl) (v:Nat) (H:Aa) (hc:c.ok) (h1:1≤v) (h2:v≤10000):Sh.f4f (.agg (cCl c)) (.int .i64 (v:Int)) H=some (.ret (.bool (EH v c)),H):=by
 have hw:IntKind.i64.wrap ((v:Int)-1)=((v-1:Nat):Int):=Iq (by omega) (by omega)
 have hp:=SB_pow (show v-1≤10000 by omega)
 have hpl:=hp.lb (by decide)
 unfold Sh.f4f
 have hpow:=fun H=>Jc (v-1) H (by omega)
 have hmin:=fun H=>I7 (2^(v-1)) H hpl
 have hx:=fun H b (hb:LB b)=>G7 c.x b H (hc.1.lb (by decide)) hb
 have hy:=fun H b (hb:LB b)=>G7 c.y b H (hc.2.lb (by decide)) hb
 have s1:∀B:Aa,Af 2 (.ptr B.length 0 0) (big (2^(v-1))) (B++[.cel 0 [.bool false,.sl [] .tight]])=some (B++[.cel 0 (A6 (2^(v-1)))]):=fun B=>by rw [Cu (Ap (B:=B)) rfl,Bd]
 have s2:∀B:Aa,Af 2 (.ptr B.length 0 0) (big (-(2^(v-1)))) (B++[.cel 0 [.bool false,.sl [] .tight]])=some (B++[.cel 0 (A6 (-(2^(v-1))))]):=fun B=>by rw [Cu (Ap (B:=B)) rfl,Bd]
 simp only [GMb,GMc,boxCl,hw,hpow,Cd,s1,AW Ap,hmin,s2]
 generalize hB:H++[Blk.cel 0 (cCl c)]=B
 have e1:(B++[Blk.cel 0 (A6 (2^(v-1)))]++[Blk.cel 0 (A6 (-(2^(v-1))))])[H.length]? = some (.cel 0 (cCl c)):=by rw [←hB];simp
 have e2:(B++[Blk.cel 0 (A6 (2^(v-1)))]++[Blk.cel 0 (A6 (-(2^(v-1))))])[B.length]? = some (.cel 0 (A6 (2^(v-1)))):=by simp
 have e3:(B++[Blk.cel 0 (A6 (2^(v-1)))]++[Blk.cel 0 (A6 (-(2^(v-1))))])[(B++[Blk.cel 0 (A6 (2^(v-1)))]).length]? = some (.cel 0 (A6 (-(2^(v-1))))):=Ap
 have fin:∀q:Bool,rP H (.bool q) (B++[Blk.cel 0 (A6 (2^(v-1)))]++[Blk.cel 0 (A6 (-(2^(v-1))))])=some (.ret (.bool q),H):=fun q=>by rw [←hB];simp only [Y1];exact FP
 unfold EH inZ
 simp only [GMb,GMc,Ah,Yy,Nat.add_zero,Jf e1,Je e1,AW e2,AW e3,hx _ _ hpl,hx _ _ hpl.neg,hy _ _ hpl,hy _ _ hpl.neg,Pg,GG]
 cases decide (-(2^(v-1))≤c.x)with
 | false=>simp only [GMb,GMc,fin]
 | true=>
  simp only [GMb,GMc,Ah,Yy,Nat.add_zero,Jf e1,Je e1,AW e2,AW e3,hx _ _ hpl,hx _ _ hpl.neg,hy _ _ hpl,hy _ _ hpl.neg,Pg,GG]
  cases decide (c.x<2^(v-1))with
  | false=>simp only [GMb,GMc,fin]
  | true=>
   simp only [GMb,GMc,Ah,Yy,Nat.add_zero,Jf e1,Je e1,AW e2,AW e3,hx _ _ hpl,hx _ _ hpl.neg,hy _ _ hpl,hy _ _ hpl.neg,Pg,GG]
   cases decide (-(2^(v-1))≤c.y)with
   | false=>simp only [GMb,GMc,fin]
   | true=>
    simp only [GMb,GMc,Ah,Yy,Nat.add_zero,Jf e1,Je e1,AW e2,AW e3,hx _ _ hpl,hx _ _ hpl.neg,hy _ _ hpl,hy _ _ hpl.neg,Pg,GG,fin]
def ER (c:Cl) (out:List Cl):Nat:=(out.takeWhile fun d=>decide (Jv d c<0)).length
def N0 (c:Cl) (out:List Cl):Bool:=match out[ER c out]? with | some d=>decide (Jv d c=0) | none=>false
def JD (c:Cl) (out:List Cl):List Cl:=if N0 c out then (out.drop (ER c out)).drop 1 else out.drop (ER c out)
def Cq (out:List Cl) (c:Cl):List Cl:=out.take (ER c out)++[c]++JD c out
def Dl (l:List Cl):List Cl:=l.foldl Cq []
def CV (l:List Cl):List Cl:=(Dl l).filter fun c=>decide (c.s≠0)
theorem PX {α:Type} (p:α→Bool):∀(l:List α) (n:Nat),n≤l.length→(∀(j:Nat) (a:α),j<n→l[j]? = some a→p a=true)→(∀a,l[n]? = some a→p a=false)→(l.takeWhile p).length=n
 | [],n,h,_,_=>by simp at h;simp [h]
 | a::l,0,_,_,h=>by
  have:=h a rfl
  simp [Qa1,this]
 | a::l,n+1,h,h1,h2=>by
  have h3:=h1 0 a (by omega) rfl
  have:=PX p l n (by simpa using h) (fun j b hj hb=>h1 (j+1) b (by omega) (by simpa using hb)) (fun b hb=>h2 b (by simpa using hb))
  simp [Qa1,h3,this]
theorem posC_le (c:Cl) (out:List Cl):ER c out≤out.length:=by
 unfold ER
 exact (List.takeWhile_sublist _).length_le
theorem lastStep_len (out:List Cl) (c:Cl):(Cq out c).length≤out.length+1:=by
 have:=posC_le c out
 unfold Cq JD
 split <;> simp <;> omega
theorem lastStep_mem {out:List Cl} {c d:Cl} (h:d∈Cq out c):d=c∨d∈out:=by
 unfold Cq JD at h
 simp only [YN,YI]at h
 rcases h with (h | h) | h
 ·exact .inr (Z1 h)
 ·exact .inl h
 ·right
  split at h
  ·exact ZP (ZP h)
  ·exact ZP h
theorem Rm {l:List Cl} {i:Nat} (hi:i<l.length):Dl (l.take (i+1))=Cq (Dl (l.take i)) l[i]:=by
 unfold Dl
 rw [Y5 hi,Qad];rfl
theorem Gt {l:List Cl}:∀i,i≤l.length→(Dl (l.take i)).length≤i∧∀d∈Dl (l.take i),d∈l
 | 0,_=>by simp [Dl]
 | i+1,h=>by
  obtain ⟨h1,h2⟩:=Gt i (by omega:i≤l.length)
  rw [Rm h]
  refine ⟨YJ (lastStep_len _ _) (by omega),fun d hd=>?_⟩
  rcases lastStep_mem hd with rfl | hd
  ·exact Y8 h
  ·exact h2 d hd
theorem slice_cap {α:Type} {f:α→List Ab} {l:List α} {tk:Tok} {sz h:Nat} {K:IntKind} [hf:Sz f sz] (hh:h≤l.length) :
  Bw sz (.sl (enL f l) tk) none (some (.int K (h:Int))) (some (.int K (h:Int)))=some (.sl (enL f (l.take h)) .tight):=by
 simp [Bw,Bt,enL,hf.len,hh,List.map_take,F8]
theorem Oi {α:Type} {f:α→List Ab} {l:List α} {tk:Tok} {sz:Nat} {H:Aa} [hf:Sz f sz]:Ce sz (.sl (enL f l) tk) H=some (enL f l):=by
 simp [Ce,all_enL]
theorem q07_last (l:List Cl) (tk0:Tok) (H:Aa) (hl:l.length<549755813888) (hok:∀c∈l,c.ok):Sh.f1t (.sl (enL cCl l) tk0) H=some (.ret (.sl (enL cCl (CV l)) .no),H):=by
 unfold Sh.f1t
 have loop:=GB (G:=fun rec1 vs H1=>Sh.f6l H rec1 (ag vs 0) (ag vs 1) (ag vs 2) H1) l.length (fun i vs Hc=>∃tk G,vs=[.sl (enL cCl l) tk0,.sl (enL cCl (Dl (l.take i))) tk,.int .i64 (i:Int)]∧Hc=H++G) (by omega) (fun i vs Hc hi hI=>?_)
  (vs:=[.sl (enL cCl l) tk0,.sl [] .tight,.int .i64 0]) (H:=H) ⟨.tight,[],rfl,by simp⟩
 ·obtain ⟨vs',Hc,⟨tk,G,rfl,rfl⟩,rec,hloop⟩:=loop
  rw [hloop]
  unfold Sh.f6l
  rw [Y6 (Yz _)]
  simp only [GMb,GMc,Aw,Zl]
  generalize hB:H++G=B
  have hlen:(Dl l).length≤l.length:=by have:=(Gt (l:=l) l.length (Yz _)).1;rwa [Y6 (Yz _)]at this
  unfold CV
  generalize Dl l=o at hlen
  refine Ca (G:=fun rec4 vs H1=>Sh.f6k H rec4 (ag vs 0) (ag vs 1) (ag vs 2) H1) o.length (fun i=>[.sl (enL cCl o) tk,Eb cCl B ((o.take i).filter fun c=>decide (c.s≠0)),.int .i64 (i:Int)]) (fun i=>DR cCl A0 5 B ((o.take i).filter fun c=>decide (c.s≠0))) _ (by omega) (fun rec i hi=>?_) (fun rec=>?_)
  ·have hi':(i:Int)<(o.length:Int):=by omega
   have hws:=Av (show i<9223372036854775807 by omega)
   unfold Sh.f6k
   rw [Y5 hi,Zd]
   have hfl:((o.take i).filter fun c=>decide (c.s≠0)).length≤i:=YJ (Z2 _ _) (by simp;omega)
   generalize ((o.take i).filter fun c=>decide (c.s≠0))=fo at hfl
   have hs:decide ((o[i].s.toNat:Int)=0)=decide (o[i].s=0):=by
    rw [YD];simp only [decide_eq_true_eq]
    constructor
    ·intro h;exact Qay.1 (by simpa using h)
    ·intro h;rw [h];rfl
   simp only [GMb,GMc,Aw,hi',Ay hi,An,Yy,load_sC,hs,hws,Sh.f6j]
   by_cases h0:o[i].s=0
   ·have:[o[i]].filter (fun c=>decide (c.s≠0))=[]:=by simp [h0]
    rw [this,YP]
    simp only [GMb,GMc,h0,decide_true,Sh.f6j,hws]
   ·have:[o[i]].filter (fun c=>decide (c.s≠0))=[o[i]]:=by simp [h0]
    rw [this]
    have ha:=DD (f:=cCl) (ty:=A0) (bytes:=72) (tk:=.tight) (B:=B) (l:=fo) (m:=[o[i]]) (by simp) (by simp;omega) (by simp;omega)
    simp only [GMb,GMc,h0,decide_false,Rj,Kl,ha,Sh.f6j,hws]
  ·obtain ⟨G',hG'⟩:=G9 (f:=cCl) (ty:=A0) (sz:=5) B (o.filter fun c=>decide (c.s≠0))
   unfold Sh.f6k
   rw [Y6 (Yz _)]
   simp only [GMb,GMc,Aw,Zl,FQ,hG']
   rw [←hB,Y1]
   simp only [Co,Ft,Option.map_some]
 ·obtain ⟨tk,G,rfl,rfl⟩:=hI
  obtain ⟨m1,m2⟩:=Gt (l:=l) i (by omega)
  have hi':(i:Int)<(l.length:Int):=by omega
  have hws:=Av (show i<9223372036854775807 by omega)
  have hco:l[i].ok:=hok _ (Y8 hi)
  have hoo:∀d∈Dl (l.take i),d.ok:=fun d hd=>hok d (m2 d hd)
  rw [Rm hi]
  generalize Dl (l.take i)=o at m1 m2 hoo
  generalize hB:H++G=B
  have hp:=posC_le l[i] o
  obtain ⟨tkr,Gr,hrest⟩:∃tkr Gr,AN A0 5 72 (.sl (enL cCl []) .tight) (.sl (enL cCl (o.drop (ER l[i] o))) (F8 tk (ER l[i] o) o.length o.length false)) B=some (.sl (enL cCl (o.drop (ER l[i] o))) tkr,B++Gr):=by
   by_cases he:o.drop (ER l[i] o)=[]
   ·rw [he];exact ⟨.tight,[],by simp [Dk,Oi,FS];exact Dk (by simp [Ce])⟩
   ·have:=CE (f:=cCl) (l:=[]) (m:=o.drop (ER l[i] o)) (ty:=A0) (bytes:=72) (tk:=F8 tk (ER l[i] o) o.length o.length false) (H:=B) he (by simp;omega) (by simp;omega)
    exact ⟨_,_,this⟩
  obtain ⟨tks,hres⟩:∃tks,(if N0 l[i] o then Bw 5 (.sl (enL cCl (o.drop (ER l[i] o))) tkr) (some (.int .i64 1)) none none else some (.sl (enL cCl (o.drop (ER l[i] o))) tkr))=some (.sl (enL cCl (JD l[i] o)) tks):=by
   unfold JD
   cases hs:N0 l[i] o with
   | false=>exact ⟨_,rfl⟩
   | true=>
    have hlt:ER l[i] o<o.length:=by
     unfold N0 at hs
     cases hg:o[ER l[i] o]? with
     | none=>rw [hg]at hs;cases hs
     | some d=>exact (Yw.1 hg).1
    have:=Qp (f:=cCl) (l:=o.drop (ER l[i] o)) (tk:=tkr) (K:=.i64) (b:=1) (by simp;omega)
    exact ⟨_,this⟩
  have ha1:=CE (f:=cCl) (l:=o.take (ER l[i] o)) (m:=[l[i]]) (ty:=A0) (bytes:=72) (tk:=.tight) (H:=B++Gr) (by simp) (by simp;omega) (by simp;omega)
  obtain ⟨tkf,Gf,ha2⟩:∃tkf Gf,AN A0 5 72 (.sl (enL cCl (o.take (ER l[i] o)++[l[i]])) (.own (B++Gr).length)) (.sl (enL cCl (JD l[i] o)) tks) (B++Gr++[Blk.tok ((o.take (ER l[i] o)).length+[l[i]].length) A0 5])=some (.sl (enL cCl (Cq o l[i])) tkf,B++Gf):=by
   by_cases he:JD l[i] o=[]
   ·unfold Cq
    rw [he,YP]
    exact ⟨_,Gr++[Blk.tok ((o.take (ER l[i] o)).length+[l[i]].length) A0 5],by rw [FS,Dk (by simp [Oi]),Y1]⟩
   ·have hrl:(JD l[i] o).length≤o.length:=by unfold JD;split <;> simp <;> omega
    have:=Ey (f:=cCl) (l:=o.take (ER l[i] o)++[l[i]]) (m:=JD l[i] o) (ty:=A0) (bytes:=72) (tk:=tks) (H:=B++Gr++[Blk.tok ((o.take (ER l[i] o)).length+[l[i]].length) A0 5]) (t:=(B++Gr).length) he (by simp) (by simp;omega) (by simp;omega)
    exact ⟨.own (B++Gr).length,Gr++[Blk.tok ((o.take (ER l[i] o)++[l[i]]).length+(JD l[i] o).length) A0 5],by rw [this];unfold Cq;rw [YR _ _ (Yz _),YV,List.set_cons_zero,Y1,Y1]⟩
  refine ⟨_,_,⟨tkf,G++Gf,rfl,rfl⟩,fun rec=>?_⟩
  unfold Sh.f6l
  simp only [GMb,GMc,Aw,hi',Al,Ai]
  refine Bk (G:=fun rec2 vs H1=>Sh.f7n H rec rec2 (ag vs 0) (ag vs 1) (ag vs 2) (ag vs 3) H1) (σ:=Nat) (fun k=>k≤o.length∧∀(j:Nat) (d:Cl),j<k→o[j]? = some d→decide (Jv d l[i]<0)=true) (fun k=>[.sl (enL cCl l) tk0,.sl (enL cCl o) tk,.int .i64 (i:Int),.int .i64 (k:Int)]) (fun _=>B) (fun k=>o.length-k) (fun _=>_) (fun k rec2 hk hrec=>?_) 0 ⟨YL _,fun j d hj=>by omega⟩ (by omega)
  obtain ⟨hk1,hk2⟩:=hk
  have hwk:=Av (show k<9223372036854775807 by omega)
  unfold Sh.f7n
  have stop:(∀d,o[k]? = some d→decide (Jv d l[i]<0)=false)→k=ER l[i] o:=fun h=>(PX _ o k hk1 hk2 h).symm
  have he5:AO 5 []=some (.sl (enL cCl []) .tight):=rfl
  have tail:∀s:Bool,k=ER l[i] o→s=N0 l[i] o→(AH (fun j3=>Aj (.bool s) ((Bw 5 (.sl (enL cCl (o.drop (ER l[i] o))) tkr) (some (.int .i64 1)) none none).bind fun x61=>j3 [.sl (enL cCl l) tk0,.sl (enL cCl o) tk,.int .i64 (i:Int),.int .i64 (k:Int),x61] (B++Gr)) (j3 [.sl (enL cCl l) tk0,.sl (enL cCl o) tk,.int .i64 (i:Int),.int .i64 (k:Int),.sl (enL cCl (o.drop (ER l[i] o))) tkr] (B++Gr))) (fun vs H1=>Sh.f6i H rec (ag vs 0) (ag vs 1) (ag vs 2) (ag vs 3) (ag vs 4) H1))=rec [.sl (enL cCl l) tk0,.sl (enL cCl (Cq o l[i])) tkf,.int .i64 ((i+1:Nat):Int)] (H++(G++Gf)):=by
   intro s hkp hs
   have fin:Sh.f6i H rec (.sl (enL cCl l) tk0) (.sl (enL cCl o) tk) (.int .i64 (i:Int)) (.int .i64 (k:Int)) (.sl (enL cCl (JD l[i] o)) tks) (B++Gr)=rec [.sl (enL cCl l) tk0,.sl (enL cCl (Cq o l[i])) tkf,.int .i64 ((i+1:Nat):Int)] (H++(G++Gf)):=by
    unfold Sh.f6i
    rw [hkp]
    simp only [GMb,GMc,slice_cap hp,Ay hi,Rj,Kl,ha1,ha2,hws]
    rw [←hB,Y1]
   subst hs
   cases hsm:N0 l[i] o with
   | false=>
    rw [hsm]at hres
    simp only [Y4,if_false,Y3]at hres
    simp only [GMb,GMc,hres];exact fin
   | true=>
    rw [hsm]at hres
    simp only [if_true]at hres
    simp only [GMb,GMc,hres];exact fin
  by_cases h:k<o.length
  ·have hkl:(k:Int)<(o.length:Int):=by omega
   have hord:=fun H=>q07_order o[k] l[i] H (hoo _ (Y8 h)) hco
   simp only [GMb,GMc,Aw,hkl,Ay h,Ay hi,Rj,hord,hwk]
   by_cases hlt:Jv o[k] l[i]<0
   ·have:=hrec (k+1) ⟨h,fun j d hj hd=>by
     by_cases e:j=k
     ·subst e;rw [Yu h]at hd;injection hd with hd;rw [←hd];exact decide_eq_true hlt
     ·exact hk2 j d (by omega) hd⟩ (by omega)
    simp only [hlt,GMb,GMc]
    exact this
   ·have hkp:=stop (fun d hd=>by rw [Yu h]at hd;injection hd with hd;rw [←hd];exact decide_eq_false hlt)
    have hsm:decide (Jv o[k] l[i]=0)=N0 l[i] o:=by
     unfold N0;rw [←hkp,Yu h]
    simp only [hlt,GMb,GMc,he5]
    have hsf:=Qp (f:=cCl) (l:=o) (tk:=tk) (K:=.i64) (b:=ER l[i] o) hp
    rw [←hkp]at hsf hrest
    simp only [GMb,GMc,hsf,hrest]
    have ht:=tail _ hkp hsm
    rw [←hkp]at ht
    simp only [GMb,GMc]at ht
    exact ht
  ·have hk:k=o.length:=by omega
   have hkl:¬(k:Int)<(o.length:Int):=by omega
   have hkp:=stop (fun d hd=>by rw [YA (by omega)]at hd;cases hd)
   have hsm:false=N0 l[i] o:=by
    unfold N0;rw [←hkp,YA (by omega)]
   have hsf:=Qp (f:=cCl) (l:=o) (tk:=tk) (K:=.i64) (b:=ER l[i] o) hp
   rw [←hkp]at hsf hrest
   simp only [GMb,GMc,Aw,hkl,he5,hsf,hrest]
   have ht:=tail _ hkp hsm
   rw [←hkp]at ht
   simp only [GMb,GMc]at ht
   exact ht
def ltC (a b:Cl):Bool:=decide (Jv a b<0)
theorem Lg (a b:Int):(a<b∧EZ a b<0)∨(a=b∧EZ a b=0)∨(b<a∧0<EZ a b):=by
 unfold EZ
 rcases Int.lt_trichotomy a b with h | h | h
 ·exact .inl ⟨h,by rw [if_pos h];decide⟩
 ·exact .inr (.inl ⟨h,by rw [if_neg (by omega),if_pos h]⟩)
 ·exact .inr (.inr ⟨h,by rw [if_neg (by omega),if_neg (by omega)];decide⟩)
theorem OV {a b:Cl}:ltC a b=true↔a.y<b.y∨(a.y=b.y∧a.x<b.x):=by
 unfold ltC Jv
 rw [decide_eq_true_eq]
 rcases Lg a.y b.y with ⟨h1,h2⟩ | ⟨h1,h2⟩ | ⟨h1,h2⟩
 ·rw [if_neg (by omega)];omega
 ·rw [if_pos h2]
  rcases Lg a.x b.x with ⟨h3,h4⟩ | ⟨h3,h4⟩ | ⟨h3,h4⟩ <;> omega
 ·rw [if_neg (by omega)];omega
theorem ltC_no {a b:Cl}:ltC a b=false↔¬(a.y<b.y∨(a.y=b.y∧a.x<b.x)):=by
 rw [←OV,Bool.not_eq_true]
theorem Mm:SW ltC:=⟨fun a b h=>by rw [OV]at h;rw [ltC_no];omega,fun a b c h k=>by rw [ltC_no]at h k ⊢;omega⟩
theorem JT {a b:Cl}:BC ltC a b=true↔a.x=b.x∧a.y=b.y:=by
 rw [FR,ltC_no,ltC_no];omega
theorem XA {a b:Cl}:decide (Jv a b=0)=BC ltC a b:=by
 rw [YD,JT,decide_eq_true_eq]
 unfold Jv
 rcases Lg a.y b.y with ⟨h1,h2⟩ | ⟨h1,h2⟩ | ⟨h1,h2⟩
 ·rw [if_neg (by omega)];omega
 ·rw [if_pos h2]
  rcases Lg a.x b.x with ⟨h3,h4⟩ | ⟨h3,h4⟩ | ⟨h3,h4⟩ <;> omega
 ·rw [if_neg (by omega)];omega
def StrC (l:List Cl):Prop:=l.Pairwise fun a b=>ltC a b=true
theorem mem_tw {p:Cl→Bool}:∀ {l:List Cl} {a:Cl},a∈l.takeWhile p→p a=true
 | [],a,h=>by cases h
 | c::l,a,h=>by
  rw [Qa1]at h
  split at h
  ·rename_i hc
   rcases Zc.1 h with e | e
   ·rw [e];exact hc
   ·exact mem_tw e
  ·cases h
theorem lastStep_dec {out:List Cl} (c:Cl) (h:StrC out):∃T D R,out=T++(D++R)∧Cq out c=T++(c::R)∧(∀a∈T,ltC a c=true)∧(∀a∈R,ltC c a=true)∧∀a∈D,BC ltC a c=true:=by
 obtain ⟨T,hT⟩:∃T,T=out.takeWhile fun d=>decide (Jv d c<0):=⟨_,rfl⟩
 obtain ⟨D,hD⟩:∃D,D=out.dropWhile fun d=>decide (Jv d c<0):=⟨_,rfl⟩
 have hTD:out=T++D:=by rw [hT,hD,List.takeWhile_append_dropWhile]
 have hp:ER c out=T.length:=by unfold ER;rw [hT]
 have h1:out.take (ER c out)=T:=by rw [hp,hTD,QaA]
 have h2:out.drop (ER c out)=D:=by rw [hp,hTD,QaD]
 have hlt:∀a∈T,ltC a c=true:=fun a ha=>by
  rw [hT]at ha
  exact mem_tw (p:=fun d=>decide (Jv d c<0)) ha
 have hst:=h
 unfold StrC at hst
 rw [hTD]at hst
 have hstD:=(Z0.1 hst).2.1
 have hg:out[ER c out]? = D.head? := by
  rw [←List.head?_drop,h2]
 unfold Cq JD N0
 rw [h1,h2,hg]
 cases hDc:D with
 | nil=>
  refine ⟨T,[],[],by rw [hTD,hDc];simp,by simp,hlt,fun a (ha:a∈[])=>(by cases ha),fun a (ha:a∈[])=>(by cases ha)⟩
 | cons d D'=>
  rw [hDc]at hstD
  rw [ZY]at hstD
  have hd:ltC d c=false:=by
   have:=List.head?_dropWhile_not (fun d=>decide (Jv d c<0)) out
   rw [←hD,hDc]at this
   exact this
  have hdc:decide (Jv d c=0)=BC ltC d c:=XA
  simp only [List.head?_cons,hdc]
  by_cases he:BC ltC d c=true
  ·rw [if_pos he]
   refine ⟨T,[d],D',by rw [hTD,hDc];simp,by simp,hlt,fun a ha=>?_,fun a ha=>by rw [YI]at ha;rw [ha];exact he⟩
   have:=hstD.1 a ha
   rw [JT]at he
   rw [OV]at this ⊢;omega
  ·rw [if_neg he]
   refine ⟨T,[],d::D',by rw [hTD,hDc];simp,by simp,hlt,fun a ha=>?_,fun a (ha:a∈[])=>(by cases ha)⟩
   have hcd:ltC c d=true:=by
    cases e:ltC c d with
    | true=>rfl
    | false=>exact absurd (FR.2 ⟨hd,e⟩) he
   rcases Zc.1 ha with e | e
   ·rw [e];exact hcd
   ·have:=hstD.1 a e
    rw [OV]at this hcd ⊢;omega
theorem lastStep_str {out:List Cl} (c:Cl) (h:StrC out):StrC (Cq out c)∧∀z,(if BC ltC z c=true then ((Cq out c).filter (BC ltC z)).head? = some c else (Cq out c).filter (BC ltC z)=out.filter (BC ltC z)):=by
 obtain ⟨T,D,R,e1,e2,hT,hR,hD⟩:=lastStep_dec c h
 have h':=h
 unfold StrC at h' ⊢
 rw [e1]at h'
 rw [Z0]at h'
 obtain ⟨p1,p2,p3⟩:=h'
 rw [Z0]at p2
 rw [e2]
 refine ⟨Z0.2 ⟨p1,ZY.2 ⟨hR,p2.2.1⟩,fun a ha b hb=>?_⟩,fun z=>?_⟩
 ·rcases Zc.1 hb with e | e
  ·rw [e];exact hT a ha
  ·exact p3 a ha b (by simp [e])
 ·by_cases hz:BC ltC z c=true
  ·rw [if_pos hz,Zd]
   have:T.filter (BC ltC z)=[]:=HN fun a ha=>by
    cases e:BC ltC z a with
    | false=>rfl
    | true=>
     have:=hT a ha
     rw [JT]at e hz
     rw [OV]at this;omega
   rw [this,List.nil_append,Zp,if_pos hz];rfl
  ·rw [if_neg hz,e1,Zd,Zd,Zd,Zp,if_neg hz]
   have:D.filter (BC ltC z)=[]:=HN fun a ha=>by
    cases e:BC ltC z a with
    | false=>rfl
    | true=>
     have:=hD a ha
     rw [JT]at e this
     exact absurd (JT.2 (by omega)) hz
   rw [this,List.nil_append]
theorem strC_mem {l:List Cl} (h:StrC l) (z:Cl):z∈l↔(l.filter (BC ltC z)).head? = some z:=by
 constructor
 ·intro hz
  obtain ⟨A,B,rfl⟩:=List.append_of_mem hz
  unfold StrC at h
  rw [Z0]at h
  have:A.filter (BC ltC z)=[]:=HN fun a ha=>by
   cases e:BC ltC z a with
   | false=>rfl
   | true=>
    have:=h.2.2 a ha z (by simp)
    rw [JT]at e
    rw [OV]at this;omega
  rw [Zd,this,List.nil_append,Zp,if_pos (Rw Mm z)];rfl
 ·intro hz
  exact (ZN.1 (List.mem_of_mem_head? hz)).1
theorem Tp:∀(l out:List Cl),StrC out→StrC (l.foldl Cq out)∧∀z,z∈l.foldl Cq out↔((l.reverse++out).filter (BC ltC z)).head? = some z
 | [],out,h=>⟨h,fun z=>strC_mem h z⟩
 | c::l,out,h=>by
  obtain ⟨s1,s2⟩:=lastStep_str c h
  obtain ⟨i1,i2⟩:=Tp l (Cq out c) s1
  refine ⟨i1,fun z=>?_⟩
  rw [List.foldl_cons,i2 z,QaI,Y1,Zd,Zd]
  have hz:=s2 z
  have key:((Cq out c).filter (BC ltC z)).head? = (([c]++out).filter (BC ltC z)).head? := by
   by_cases hc:BC ltC z c=true
   ·rw [if_pos hc]at hz
    rw [hz,List.singleton_append,Zp,if_pos hc];rfl
   ·rw [if_neg hc]at hz
    rw [hz,List.singleton_append,Zp,if_neg hc]
  rw [List.head?_append,List.head?_append,key]
theorem cp_last {l S:List Cl} (h:Ez ltC S) (hst:Fw ltC l.reverse S):cpL ltC S=Dl l:=by
 obtain ⟨c1,c2⟩:=cpL_ok Mm h
 obtain ⟨f1,f2⟩:=Tp l [] List.Pairwise.nil
 refine UN Mm _ _ c1 f1 fun z=>?_
 rw [c2 z,←hst z]
 show _↔z∈l.foldl Cq []
 rw [f2 z,YP]
section
variable {p g i j n:Nat} {l l':List Cl} {H:Aa}
def CT (H:Aa) (p g:Nat) (l:List Cl):Prop:=H[p]? = some (.buf g (flat cCl l) A0 5)
def BJ (H:Aa) (p g:Nat) (l:List Cl):Aa:=H.set p (.buf g (flat cCl l) A0 5)
abbrev dV (p g n:Nat):Ab:=.ms p g 0 n n 5 false
theorem row_get (h:CT H p g l):A7 H p g=some (flat cCl l):=by
 unfold CT at h
 simp [A7,h]
theorem C3 (h:CT H p g l) (hi:i<l.length):Ac true 5 (.ptr p g (i*5)) H=some (.agg (cCl l[i])):=by
 simp only [Ac,row_get h,Option.bind_some,if_true,Lb hi,Up hi]
theorem row_st (h:CT H p g l) (hi:i<l.length) (a:Cl):Af 5 (.ptr p g (i*5)) (.agg (cCl a)) H=some (BJ H p g (l.set i a)):=by
 have hs:Gy H p g (flat cCl (l.set i a))=BJ H p g (l.set i a):=by
  have h':=h
  unfold CT at h'
  unfold Gy BJ
  rw [h']
 simp only [Af,row_get h,Option.bind_some,Pj,show (cCl a).length=5 from rfl,Lb hi,and_self,if_true,VW hi,hs]
theorem CY (h:CT H p g l):CT (BJ H p g l') p g l':=by
 have:p<H.length:=(Yw.1 h).1
 unfold CT BJ
 rw [Y9 this]
theorem B5:BJ (BJ H p g l) p g l'=BJ H p g l':=by unfold BJ;rw [List.set_set]
theorem CG (h:CT H p g l):BJ H p g l=H:=by
 unfold CT at h
 unfold BJ
 apply ZH
 intro i
 rw [Qbk]
 split
 ·rename_i e
  subst e
  rw [h]
  rw [if_pos (Yw.1 h).1]
 ·rfl
theorem BS (h:i<n):Au 5 (dV p g n) (.int .i64 (i:Int))=some (.ptr p g (i*5)):=by
 rw [CJ h,Yy]
theorem swp_eq (hi:i<l.length) (hj:j<l.length):swp l i j=(l.set i l[j]).set j l[i]:=by
 unfold swp
 rw [Yu hi,Yu hj]
theorem swp_mem {c:Cl} (h:c∈swp l i j):c∈l:=by
 unfold swp at h
 split at h
 ·rename_i a b ha hb
  rcases QaF h with h | h
  ·rcases QaF h with h | h
   ·exact h
   ·rw [h];exact YU hb
  ·rw [h];exact YU ha
 ·exact h
theorem UU (h:CT H p g l) (hi:i<l.length) (hj:j<l.length):Af 5 (.ptr p g (i*5)) (.agg (cCl l[j])) H=some (BJ H p g (l.set i l[j]))∧Af 5 (.ptr p g (j*5)) (.agg (cCl l[i])) (BJ H p g (l.set i l[j]))=some (BJ H p g (swp l i j)):=by
 refine ⟨row_st h hi _,?_⟩
 rw [row_st (CY h) (by rw [YW];exact hj),B5,swp_eq hi hj]

end
def WA (orc:Orc) (f:Ab) (l:List Cl):Prop:=∀c∈l,∀d∈l,∀H,D6 orc f [.agg (cCl c),.agg (cCl d)] H=some (.ret (.int .i64 (Jv c d)),H)
theorem insJ_mem (a:Nat) {c:Cl}:∀(j:Nat) (l:List Cl),c∈KY ltC a j l→c∈l
 | 0,l,h=>h
 | j+1,l,h=>by
  unfold KY at h
  split at h
  ·exact swp_mem (insJ_mem a j _ h)
  ·exact h
theorem insN_mem (a:Nat) {c:Cl}:∀(k:Nat) (l:List Cl),c∈TO ltC a k l→c∈l
 | 0,l,h=>h
 | k+1,l,h=>insN_mem a k l (insJ_mem a _ _ h)
theorem Le (c d:Cl):decide (Jv c d<0)=ltC c d:=rfl
section
variable {p g a b:Nat} {f:Ab}
theorem ins_l2 {l0:List Cl} {i:Nat} (hf:WA AB f l0) (B:Aa) (rec1:LK) {l:List Cl} {H:Aa} (h:CT H p g l) (hm:∀c∈l,c∈l0) (hi:i<l.length) (hl:l.length<1000000000) :
  Ao (fun rec2 vs H1=>Sh.f5l B rec1 rec2 (ag vs 0) (ag vs 1) (ag vs 2) (ag vs 3) (ag vs 4) (ag vs 5) H1) AK [dV p g l.length,.int .i64 (a:Int),.int .i64 (b:Int),f,.int .i64 (i:Int),.int .i64 (i:Int)] H =
   rec1 [dV p g l.length,.int .i64 (a:Int),.int .i64 (b:Int),f,.int .i64 ((i+1:Nat):Int)] (BJ H p g (KY ltC a i l)):=by
 have key:=Bk (G:=fun rec2 vs H1=>Sh.f5l B rec1 rec2 (ag vs 0) (ag vs 1) (ag vs 2) (ag vs 3) (ag vs 4) (ag vs 5) H1) (σ:=Nat×List Cl) (fun s=>s.1<l.length∧s.2.length=l.length∧∀c∈s.2,c∈l0)
  (fun s=>[dV p g l.length,.int .i64 (a:Int),.int .i64 (b:Int),f,.int .i64 (i:Int),.int .i64 (s.1:Int)]) (fun s=>BJ H p g s.2) (fun s=>s.1)
  (fun s=>rec1 [dV p g l.length,.int .i64 (a:Int),.int .i64 (b:Int),f,.int .i64 ((i+1:Nat):Int)] (BJ H p g (KY ltC a s.1 s.2))) (fun s rec2 hs hrec=>?_) (i,l) ⟨hi,rfl,hm⟩ (by dsimp only;omega)
 ·rw [CG h]at key;exact key
 ·obtain ⟨j,L⟩:=s
  obtain ⟨h1,h2,h3⟩:=hs
  dsimp only at h1 h2 h3 hrec ⊢
  have hr:CT (BJ H p g L) p g L:=CY h
  have hwi:=Av (show i<9223372036854775807 by omega)
  unfold Sh.f5l
  by_cases hja:a<j
  ·obtain ⟨k,rfl⟩:∃k,j=k+1:=⟨j-1,by omega⟩
   have hg:decide (((k+1:Nat):Int)>(a:Int))=true:=decide_eq_true (by omega)
   have hw:IntKind.i64.wrap (((k+1:Nat):Int)-1)=(k:Int):=by rw [Am] <;> omega
   have hk1:k+1<L.length:=by omega
   have hk:k<L.length:=by omega
   have c1:=hf L[k+1] (h3 _ (Y8 hk1)) L[k] (h3 _ (Y8 hk))
   obtain ⟨s1,s2⟩:=UU hr hk1 hk
   rw [B5]at s1 s2
   rw [B5]at s2
   have hlt:IA ltC L (k+1) k=ltC L[k+1] L[k]:=Uk hk1 hk
   simp only [Al,Ai,Bb,Bf,B2,BK,D8,GMb,GMc,hg,BS h1,BS (show k<l.length by omega),C3 hr hk1,C3 hr hk,BN,c1,B6,hw,Le]
   cases hc:ltC L[k+1] L[k]with
   | true=>
    have hins:KY ltC a (k+1) L=KY ltC a k (swp L (k+1) k):=by
     conv=>lhs;unfold KY
     rw [hlt,hc,if_pos ⟨hja,rfl⟩]
    simp only [GMb,GMc,C3 hr hk1,C3 hr hk,BN,BS h1,BS (show k<l.length by omega),s1,s2,B5,hw]
    have hr2:=hrec (k,swp L (k+1) k) ⟨by omega,by rw [OK];exact h2,fun c hc=>h3 c (swp_mem hc)⟩ (Nat.lt_succ_self _)
    dsimp only at hr2
    rw [hr2,hins]
   | false=>
    have hins:KY ltC a (k+1) L=L:=by
     unfold KY
     rw [hlt,hc,if_neg (fun h=>by cases h.2)]
    simp only [GMb,GMc,hwi]
    rw [hins]
  ·have hg:decide ((j:Int)>(a:Int))=false:=decide_eq_false (by omega)
   have hins:KY ltC a j L=L:=by
    cases j with
    | zero=>rfl
    | succ k=>unfold KY;rw [if_neg (fun h=>hja h.1)]
   simp only [Al,Ai,Bb,Bf,B2,BK,D8,GMb,GMc,hg,hwi]
   rw [hins]
theorem ins_sort {l0:List Cl} (hf:WA AB f l0) {l:List Cl} {H:Aa} (h:CT H p g l) (hm:∀c∈l,c∈l0) (hab:a≤b) (hb:b≤l.length) (hl:l.length<1000000000) :
  Sh.fv (dV p g l.length) (.int .i64 (a:Int)) (.int .i64 (b:Int)) f H=some (.ret (.tup []),BJ H p g (TO ltC a (b-a-1) l)):=by
 have hwa:=Av (show a<9223372036854775807 by omega)
 unfold Sh.fv
 simp only [GMb,GMc,hwa]
 have key:=Bk (G:=fun rec1 vs H1=>Sh.f5m H rec1 (ag vs 0) (ag vs 1) (ag vs 2) (ag vs 3) (ag vs 4) H1) (σ:=Nat) (fun k=>k≤b-a-1)
  (fun k=>[dV p g l.length,.int .i64 (a:Int),.int .i64 (b:Int),f,.int .i64 ((a+1+k:Nat):Int)]) (fun k=>BJ H p g (TO ltC a k l)) (fun k=>b-a-1-k)
  (fun _=>some (.ret (.tup []),BJ H p g (TO ltC a (b-a-1) l))) (fun k rec hk hrec=>?_) 0 (YL _) (by omega)
 ·rw [show TO ltC a 0 l=l from rfl,CG h]at key;exact key
 ·unfold Sh.f5m
  have hr:CT (BJ H p g (TO ltC a k l)) p g (TO ltC a k l):=CY h
  have hln:=insN_len (lt:=ltC) a k l
  by_cases hlt:a+1+k<b
  ·have hd:decide (((a+1+k:Nat):Int)<(b:Int))=true:=decide_eq_true (by omega)
   have h2:=ins_l2 (a:=a) (b:=b) (i:=a+1+k) hf H rec hr (fun c hc=>hm c (insN_mem a k l hc)) (by omega) (by omega)
   rw [hln,B5]at h2
   simp only [Al,Ai,Bb,Bf,B2,BK,GMb,GMc,hd]
   rw [h2]
   exact hrec (k+1) (by omega) (by omega)
  ·have hd:decide (((a+1+k:Nat):Int)<(b:Int))=false:=decide_eq_false (by omega)
   have e:k=b-a-1:=by omega
   simp only [Al,Ai,Bb,Bf,B2,BK,GMb,GMc,hd]
   rw [←e]
theorem swap_range {l:List Cl} {n:Nat} {H:Aa} (h:CT H p g l) (ha:a+n≤l.length) (hb:b+n≤l.length) (hl:l.length<1000000000) :
  Sh.f1h (dV p g l.length) (.int .i64 (a:Int)) (.int .i64 (b:Int)) (.int .i64 (n:Int)) f H=some (.ret (.tup []),BJ H p g (swR a b n l)):=by
 unfold Sh.f1h
 have key:=Ca (G:=fun rec1 vs H1=>Sh.f5n H rec1 (ag vs 0) (ag vs 1) (ag vs 2) (ag vs 3) (ag vs 4) H1) n
  (fun k=>[dV p g l.length,.int .i64 (a:Int),.int .i64 (b:Int),.int .i64 (n:Int),.int .i64 (k:Int)]) (fun k=>BJ H p g (swR a b k l)) (some (.ret (.tup []),BJ H p g (swR a b n l))) (by omega) (fun rec k hk=>?_) (fun rec=>?_)
 ·rw [show swR a b 0 l=l from rfl,CG h]at key;exact key
 ·unfold Sh.f5n
  have hr:CT (BJ H p g (swR a b k l)) p g (swR a b k l):=CY h
  have hln:=Uf a b k l
  have hd:decide ((k:Int)<(n:Int))=true:=decide_eq_true (by omega)
  have hwk:=Av (show k<9223372036854775807 by omega)
  have hw1:IntKind.i64.wrap ((a:Int)+(k:Int))=((a+k:Nat):Int):=by rw [Am] <;> omega
  have hw2:IntKind.i64.wrap ((b:Int)+(k:Int))=((b+k:Nat):Int):=by rw [Am] <;> omega
  have i1:a+k<(swR a b k l).length:=by omega
  have i2:b+k<(swR a b k l).length:=by omega
  obtain ⟨s1,s2⟩:=UU hr i1 i2
  rw [B5]at s1 s2
  rw [B5]at s2
  simp only [Al,Ai,Bb,Bf,B2,BK,GMb,GMc,hd,hw1,hw2,BS (show a+k<l.length by omega),BS (show b+k<l.length by omega),C3 hr i1,C3 hr i2,BN,s1,s2,B6,AL,hwk]
  rfl
 ·unfold Sh.f5n
  have hd:decide ((n:Int)<(n:Int))=false:=decide_eq_false (by omega)
  simp only [Al,Ai,Bb,Bf,B2,BK,GMb,GMc,hd]
theorem rotate_ok {A B U V:List Cl} {m:Nat} {H:Aa} (h:CT H p g (A++(U++(V++B)))) (ha:a=A.length) (hm:m=a+U.length) (hb:b=m+V.length) (hU:0<U.length) (hV:0<V.length) (hl:(A++(U++(V++B))).length<1000000000) :
  Sh.f31 (dV p g (A++(U++(V++B))).length) (.int .i64 (a:Int)) (.int .i64 (m:Int)) (.int .i64 (b:Int)) f H=some (.ret (.tup []),BJ H p g (A++((V++U)++B))):=by
 obtain ⟨l,hL⟩:∃l,l=A++(U++(V++B)):=⟨_,rfl⟩
 have hst:QG A B (V++U) m U.length V.length l:=by rw [hL,hm,ha];exact QG.start hU hV
 rw [←hL]at h hl ⊢
 have hlen:=hst.len
 have hw1:IntKind.i64.wrap ((m:Int)-(a:Int))=(U.length:Int):=by rw [Am] <;> omega
 have hw2:IntKind.i64.wrap ((b:Int)-(m:Int))=(V.length:Int):=by rw [Am] <;> omega
 unfold Sh.f31
 simp only [GMb,GMc,hw1,hw2]
 have key:=Bk (G:=fun rec1 vs H1=>Sh.f74 H rec1 (ag vs 0) (ag vs 1) (ag vs 2) (ag vs 3) (ag vs 4) H1) (σ:=(Nat×Nat)×List Cl) (fun s=>QG A B (V++U) m s.1.1 s.1.2 s.2∧s.2.length=l.length)
  (fun s=>[dV p g l.length,.int .i64 (m:Int),f,.int .i64 (s.1.1:Int),.int .i64 (s.1.2:Int)]) (fun s=>BJ H p g s.2) (fun s=>s.1.1+s.1.2)
  (fun _=>some (.ret (.tup []),BJ H p g (A++((V++U)++B)))) (fun s rec hs hrec=>?_) ((U.length,V.length),l) ⟨hst,rfl⟩ (by dsimp only;omega)
 ·rw [CG h]at key;exact key
 ·obtain ⟨⟨i,j⟩,L⟩:=s
  obtain ⟨h1,h2⟩:=hs
  dsimp only at h1 h2 hrec ⊢
  have hr:CT (BJ H p g L) p g L:=CY h
  obtain ⟨q1,q2⟩:=h1.len
  obtain ⟨p1,p2⟩:=h1.pos
  have hsw:=fun (x y n:Nat) (h3:x+n≤L.length) (h4:y+n≤L.length)=>swap_range (f:=f) (a:=x) (b:=y) (n:=n) hr h3 h4 (by omega)
  rw [h2]at hsw
  have hwm:IntKind.i64.wrap ((m:Int)-(i:Int))=((m-i:Nat):Int):=by rw [Am] <;> omega
  unfold Sh.f74
  by_cases hij:i=j
  ·subst hij
   have hd:((i:Int) != (i:Int))=false:=by simp
   simp only [Al,Ai,Bb,Bf,B2,BK,GMb,GMc,hd,hwm,hsw (m-i) m i (by omega) (by omega),B5]
   rw [h1.eq]
  ·have hd:((i:Int) != (j:Int))=true:=by simp;omega
   by_cases hgt:j<i
   ·have hd2:decide ((i:Int)>(j:Int))=true:=decide_eq_true (by omega)
    have hwi:IntKind.i64.wrap ((i:Int)-(j:Int))=((i-j:Nat):Int):=by rw [Am] <;> omega
    simp only [Al,Ai,Bb,Bf,B2,BK,GMb,GMc,hd,hd2,hwm,hwi,hsw (m-i) m j (by omega) (by omega),B5]
    exact hrec ((i-j,j),swR (m-i) m j L) ⟨h1.hi hgt,by rw [Uf];exact h2⟩ (by dsimp only;omega)
   ·have hd2:decide ((i:Int)>(j:Int))=false:=decide_eq_false (by omega)
    have hwi:IntKind.i64.wrap ((j:Int)-(i:Int))=((j-i:Nat):Int):=by rw [Am] <;> omega
    have hwj:IntKind.i64.wrap ((m:Int)+(j:Int))=((m+j:Nat):Int):=by rw [Am] <;> omega
    have hwk:IntKind.i64.wrap (((m+j:Nat):Int)-(i:Int))=((m+j-i:Nat):Int):=by rw [Am] <;> omega
    simp only [Al,Ai,Bb,Bf,B2,BK,GMb,GMc,hd,hd2,hwm,hwi,hwj,hwk,hsw (m-i) (m+j-i) i (by omega) (by omega),B5]
    exact hrec ((i,j-i),swR (m-i) (m+j-i) i L) ⟨h1.lo (by omega),by rw [Uf];exact h2⟩ (by dsimp only;omega)

end
end Go.Gm
