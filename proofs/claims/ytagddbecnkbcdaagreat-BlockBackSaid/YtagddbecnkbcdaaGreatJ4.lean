/- Texts of this proof, joined. -/
import Derived.Test.YtagddbecnkbcdaaGreatJ2
import Derived.Test.YtagddbecnkbcdaaGreatJ3
import Derived.RangeFuncBox
import Derived.RangeFuncLeaves
import Derived.Shelf.Abstract
import Derived.WalkKit
import Derived.OwnWalkIn
import Derived.TacticsInMore
import Derived.LoopNIn
import Derived.LoopIn
import Derived.Test.YtagddbecnkbcdaaGreatProg
import Derived.KernelRfl
import Derived.Calls
set_option linter.all false
namespace Go.Gm
theorem GMb:(((((((∀ {α β:Type} (a:α) (f:α->Option β),Option.bind (Option.some a) f=f a) /\
 (∀(v:Ab) (l:List Ab),ag (v::l) 0=v)) /\
 ((∀(a v:Ab) (l:List Ab),ag (a::v::l) 1=v) /\
 (∀(a b v:Ab) (l:List Ab),ag (a::b::v::l) 2=v))) /\
 (((∀(a b c v:Ab) (l:List Ab),ag (a::b::c::v::l) 3=v) /\
 (∀(a b c d v:Ab) (l:List Ab),ag (a::b::c::d::v::l) 4=v)) /\
 ((∀(a b c d e v:Ab) (l:List Ab),ag (a::b::c::d::e::v::l) 5=v) /\
 (∀ {ek:EqK} {k:IntKind} {a b:Int},Ae ek BinOp.lss (Ab.int k a) (Ab.int k b)=Option.some (Ab.bool (Decidable.decide (a<b))))))) /\
 ((((∀ {ek:EqK} {k:IntKind} {a b:Int},Ae ek BinOp.gtr (Ab.int k a) (Ab.int k b)=Option.some (Ab.bool (Decidable.decide (a>b)))) /\
 (∀ {ek:EqK} {k:IntKind} {a b:Int},Ae ek BinOp.leq (Ab.int k a) (Ab.int k b)=Option.some (Ab.bool (Decidable.decide (a<=b))))) /\
 ((∀ {ek:EqK} {k:IntKind} {a b:Int},Ae ek BinOp.geq (Ab.int k a) (Ab.int k b)=Option.some (Ab.bool (Decidable.decide (a>=b)))) /\
 (∀ {ek:EqK} {k:IntKind} {a b:Int},Ae ek BinOp.eql (Ab.int k a) (Ab.int k b)=Option.some (Ab.bool (a == b))))) /\
 (((∀ {ek:EqK} {k:IntKind} {a b:Int},Ae ek BinOp.neq (Ab.int k a) (Ab.int k b)=Option.some (Ab.bool (a != b))) /\
 (∀ {ek:EqK} {k:IntKind} {a b:Int},Ae ek BinOp.add (Ab.int k a) (Ab.int k b)=Option.some (Ab.int k (IntKind.wrap k (a+b))))) /\
 ((∀ {ek:EqK} {k:IntKind} {a b:Int},Ae ek BinOp.sub (Ab.int k a) (Ab.int k b)=Option.some (Ab.int k (IntKind.wrap k (a-b)))) /\
 ((∀ {ek:EqK} {k:IntKind} {a b:Int},Ae ek BinOp.mul (Ab.int k a) (Ab.int k b)=Option.some (Ab.int k (IntKind.wrap k (a*b)))) /\
 (∀(a b:Out),Ak (Ab.bool Bool.true) a b=a)))))) /\
 (((((∀(a b:Out),Ak (Ab.bool Bool.false) a b=b) /\
 (∀(a b:Ab),AF (Ab.bool Bool.true) a b=Option.some a)) /\
 ((∀(a b:Ab),AF (Ab.bool Bool.false) a b=Option.some b) /\
 (∀ {kv:Ab->Out} (x:Option Ab),gk (Ab.bool Bool.true) Bool.true x kv=Option.bind x kv))) /\
 (((∀ {kv:Ab->Out} (x:Option Ab),gk (Ab.bool Bool.false) Bool.false x kv=Option.bind x kv) /\
 (∀ {kv:Ab->Out} (x:Option Ab),gk (Ab.bool Bool.true) Bool.false x kv=kv Cj)) /\
 ((∀ {kv:Ab->Out} (x:Option Ab),gk (Ab.bool Bool.false) Bool.true x kv=kv Cj) /\
 ((∀ {kv:Ab->Out} (w:Bool) (x:Option Ab),gk (Ab.tup []) w x kv=kv Cj) /\
 (∀ {x:Option Ab} {p:Bool->Ab->Prop} {k:Ab->Out},gkc (Ab.bool Bool.true) Bool.true x p k=bC x (p Bool.true) k))))) /\
 ((((∀ {x:Option Ab} {p:Bool->Ab->Prop} {k:Ab->Out},gkc (Ab.bool Bool.false) Bool.false x p k=bC x (p Bool.true) k) /\
 (∀ {x:Option Ab} {p:Bool->Ab->Prop} {k:Ab->Out},gkc (Ab.bool Bool.true) Bool.false x p k=chk (p Bool.false Cj) (k Cj))) /\
 ((∀ {x:Option Ab} {p:Bool->Ab->Prop} {k:Ab->Out},gkc (Ab.bool Bool.false) Bool.true x p k=chk (p Bool.false Cj) (k Cj)) /\
 (∀ {x:Option Ab} {p:Bool->Ab->Prop} {k:Ab->Out} {w:Bool},gkc (Ab.tup []) w x p k=chk (p Bool.false Cj) (k Cj)))) /\
 (((∀ {v:Ab} {p:Ab->Prop} {k:Ab->Out},bC (Option.some v) p k=chk (p v) (k v)) /\
 (∀ {x:Out},chk True x=x)) /\
 ((∀ {H0 H:Aa} {k:Ab->Aa->Out} (x:Out),gbK H0 (Ab.bool Bool.true) Bool.true H x k=bK H0 x k) /\
 ((∀ {H0 H:Aa} {k:Ab->Aa->Out} (x:Out),gbK H0 (Ab.bool Bool.false) Bool.false H x k=bK H0 x k) /\
 (∀ {H0 H:Aa} {k:Ab->Aa->Out} (x:Out),gbK H0 (Ab.bool Bool.true) Bool.false H x k=k Cj H))))))) /\
 ((((((∀ {H0 H:Aa} {k:Ab->Aa->Out} (x:Out),gbK H0 (Ab.bool Bool.false) Bool.true H x k=k Cj H) /\
 (∀ {H0 H:Aa} {k:Ab->Aa->Out} (w:Bool) (x:Out),gbK H0 (Ab.tup []) w H x k=k Cj H)) /\
 ((∀ {H0 H:Aa} {k:Ab->Aa->Out} (x:Out),gbP H0 (Ab.bool Bool.true) Bool.true H x k=bP H0 x k) /\
 (∀ {H0 H:Aa} {k:Ab->Aa->Out} (x:Out),gbP H0 (Ab.bool Bool.false) Bool.false H x k=bP H0 x k))) /\
 (((∀ {H0 H:Aa} {k:Ab->Aa->Out} (x:Out),gbP H0 (Ab.bool Bool.true) Bool.false H x k=k Cj H) /\
 (∀ {H0 H:Aa} {k:Ab->Aa->Out} (x:Out),gbP H0 (Ab.bool Bool.false) Bool.true H x k=k Cj H)) /\
 ((∀ {H0 H:Aa} {k:Ab->Aa->Out} (w:Bool) (x:Out),gbP H0 (Ab.tup []) w H x k=k Cj H) /\
 (∀ {H:Aa} {k:Ab->Aa->Out} (x:Out),gbN (Ab.bool Bool.true) Bool.true H x k=Bb x k)))) /\
 ((((∀ {H:Aa} {k:Ab->Aa->Out} (x:Out),gbN (Ab.bool Bool.false) Bool.false H x k=Bb x k) /\
 (∀ {H:Aa} {k:Ab->Aa->Out} (x:Out),gbN (Ab.bool Bool.true) Bool.false H x k=k Cj H)) /\
 ((∀ {H:Aa} {k:Ab->Aa->Out} (x:Out),gbN (Ab.bool Bool.false) Bool.true H x k=k Cj H) /\
 (∀ {H:Aa} {k:Ab->Aa->Out} (w:Bool) (x:Out),gbN (Ab.tup []) w H x k=k Cj H))) /\
 (((∀ {H:Aa} {k:Ab->Aa->Out} (v:Ab),Bb (Option.some (Res.ret v,H)) k=k v H) /\
 (∀ {H0 H:Aa} {k:Ab->Aa->Out} (v:Ab),bK H0 (Option.some (Res.ret v,H)) k=k v H)) /\
 ((∀ {H0 H:Aa} {k:Ab->Aa->Out} (v:Ab),bP H0 (Option.some (Res.ret v,H)) k=k v H) /\
 ((∀ {H0 H:Aa} (v:Ab),rK H0 v H=Option.some (Res.ret v,H)) /\
 (∀ {H H0:Aa} {v:Ab},rKN H0 v H=Option.some (Res.ret (forget v),H))))))) /\
 (((((∀ {c:Bool},unA UnOp.not (Ab.bool c)=Option.some (Ab.bool !c)) /\
 (∀ {H:Aa} (v:Ab),retV (Option.some v) H=Option.some (Res.ret v,H))) /\
 ((∀ {H:Aa},A9 (Option.some H)=Option.some (Res.ret Ab.undef,H)) /\
 (∀ {H:Aa} (v:Ab),Ca (Option.some (v,H))=Option.some (Res.ret v,H)))) /\
 (((∀ {H:Aa} {k:Ab->Aa->Out} (v:Ab),An (Option.some (v,H)) k=k v H) /\
 (∀ {a b:Int},(a == b)=decide (a=b))) /\
 ((∀ {a b:Int},(a != b) = !decide (a=b)) /\
 (((!true)=false) /\
 ((!false)=true))))) /\
 (((((false=true)=False) /\
 (∀(b:Bool),(false||b)=b)) /\
 ((∀(b:Bool),(true||b)=true) /\
 (∀(b:Bool),(b||false)=b))) /\
 (((∀(b:Bool),(b||true)=true) /\
 (∀(b:Bool),(b&&true)=b)) /\
 ((∀(b:Bool),(true&&b)=b) /\
 ((∀(b:Bool),(b&&false)=false) /\
 (∀(b:Bool),(false&&b)=false)))))))):=
 ⟨⟨⟨⟨⟨⟨@BH,@Am⟩,⟨@Bg,@Bk⟩⟩,⟨⟨@B4,@BS⟩,⟨@DD,@Br⟩⟩⟩,⟨⟨⟨@Dw,@Lo⟩,⟨@I6,@DN⟩⟩,⟨⟨@I4,@CC⟩,⟨@Dv,⟨@I5,@AZ⟩⟩⟩⟩⟩,⟨⟨⟨⟨@AQ,@C9⟩,⟨@C2,@Jz⟩⟩,⟨⟨@Ms,@Tb⟩,⟨@QV,⟨@gk_s,@PN⟩⟩⟩⟩,⟨⟨⟨@PQ,@PO⟩,⟨@PP,@Vp⟩⟩,⟨⟨@Q7,@HY⟩,⟨@Qb,⟨@Qe,@Qc⟩⟩⟩⟩⟩⟩,⟨⟨⟨⟨⟨@Qd,@Vs⟩,⟨@PT,@PW⟩⟩,⟨⟨@PU,@PV⟩,⟨@Vq,@PX⟩⟩⟩,⟨⟨⟨@Qa,@PY⟩,⟨@PZ,@Vr⟩⟩,⟨⟨@BA,@Fl⟩,⟨@CI,⟨@NC,@Ee⟩⟩⟩⟩⟩,⟨⟨⟨⟨@J5,@IA⟩,⟨@AL,@Do⟩⟩,⟨⟨@Bv,@GS⟩,⟨@Ln,⟨WA,WL⟩⟩⟩⟩,⟨⟨⟨@Bool.false_eq_true,@Bool.false_or⟩,⟨@Bool.true_or,@Bool.or_false⟩⟩,⟨⟨@Bool.or_true,@Bool.and_true⟩,⟨@Bool.true_and,⟨@Bool.and_false,@Bool.false_and⟩⟩⟩⟩⟩⟩⟩
theorem GMc:((∀(f:(List Ab->Aa->Out)->Out) (j:List Ab->Aa->Out),AK f j=f j)/\(∀h:Decidable True,@decide True h=true)/\(∀h:Decidable False,@decide False h=false)/\(∀(α:Type) (h:Decidable True) (t e:α),@ite α True h t e=t)/\(∀(α:Type) (h:Decidable False) (t e:α),@ite α False h t e=e)):=
 ⟨λ_ _=>rfl,λ_=>decide_true _,λ_=>decide_false _,λ_ _ _ _=>if_true _ _,λ_ _ _ _=>if_false _ _⟩
def GMw:=And.intro GMb GMc
end Go.Gm
namespace Go.Proofs
open Go.RowKit Go.Shelf
attribute [local go_sem] Oper.semAt_some
def KB (n₀ Bs:Nat)(W W':World):Prop:=Below n₀ W W'/\W'.cell? ⟨Bs,0,none⟩=W.cell? ⟨Bs,0,none⟩
theorem KB.refl (n₀ Bs:Nat)(W:World):KB n₀ Bs W W:=⟨Below.refl _ _,rfl⟩
theorem KB.trans {n₀ Bs:Nat}{A B C:World}(h:KB n₀ Bs A B)(k:KB n₀ Bs B C):KB n₀ Bs A C:=⟨h.1.trans k.1,k.2.trans h.2⟩
def MN (n k:Nat):List (Fin n):=(List.finRange n).reverse.take k
theorem Od {n k:Nat}(h:k<n):MN n (k+1)=MN n k++[⟨n-1-k,by omega⟩]:=by
 unfold MN;rw[List.take_add_one,List.getElem?_reverse (by simpa using h)];simp;rw[List.getElem?_eq_getElem (by simp;omega)];simp
theorem backF_length {n k:Nat}(h:k<=n):(MN n k).length=k:=by simp[MN,h]
theorem Q6 {n:Nat}:∀(k:Nat) (j:Fin n),k<=n->n-k<=j.1->j∈MN n k
 | 0,j,_,h=>by have:=j.2;omega
 | k+1,j,hk,h=>by
  rw[Od (by omega)];by_cases e:j.1=n-1-k
  ·exact List.mem_append_right _ (by simp;exact Fin.ext e)
  ·exact List.mem_append_left _ (Q6 k j (by omega) (by omega))
set_option maxRecDepth 100000 in
set_option maxHeartbeats 2000000 in
theorem Tryz.back1_in (F:Fence)(n:Nat)(h229:F.fn 229)(hro:F.round=none)(hn:1<=n)(l Bs n₀ b off len cap:Nat)(ao:Option Addr)(hao:0<len->ao=some ⟨b,off,none⟩)(zf:Nat->Nat)(hreach:len<=1099511627776)(hb:b<n₀)(J Jx:List (Fin len)->World->Prop)
  (hY:∀pre (x:Fin len) W,J pre W->pre.length<len->YieldAt F (n-1) Tryz.prog l #[.i6 (x.1:Int),.int .u32 ((zf x.1:Nat):Int)] W λe W'=>
   (e=.returned (.bool true)/\J (pre++[x]) W'/\KB n₀ Bs W W')\/(e=.returned (.bool false)/\Jx (pre++[x]) W'))
  (W:World)(hBs:W.cell? ⟨Bs,0,none⟩=some (.slice ao len cap))(hc:∀j,j<len->W.cell? ⟨b,off+j,none⟩=some (.int .u32 ((zf j:Nat):Int)))(h0:J [] W) :
  CallsIn F n Tryz.prog 229 #[.func (.yield l) #[] #[],.pointer (some ⟨Bs,0,none⟩)] W λe W'=>(∃v,e=.returned v) /\
   ((∃ys,ys=MN len len/\J ys W')\/(∃pre,(∃k,k<len/\pre=MN len (k+1))/\Jx pre W')):=by
 refine callsIn_of_wp Tryz.func229 rfl h229 ?_ hro;simp only[Tryz.ntmps229,List.size_toArray,List.length_cons,List.length_nil,Nat.reduceAdd,Nat.reduceSub,Array.replicate_succ,Array.replicate_zero,List.push_toArray,List.append_toArray,List.nil_append,List.cons_append]
 gi_wp2
 gi_loopw [3] (λi wr=>∃k:Nat,k<=len/\i=.i6 ((len:Int)-1-k)/\J (MN len k) wr/\KB n₀ Bs W wr)
  (λi _=>((intOf i)+1).toNat)
 case atStart=>exact⟨0,Nat.zero_le _,by simp,h0,KB.refl _ _ _⟩
 case round=>
  obtain⟨k,hk,rfl,hJs,hkb⟩:=hrel;have hnx:=hkb.1;have hBs':=hkb.2.trans hBs;by_cases hlt:k<len
  ·have hao':=hao (by omega);subst hao';have hcx:=(hnx.cell (p:=⟨b,off+(len-1-k),none⟩) hb).trans (hc (len-1-k) (by omega));obtain⟨fn,tmps,assign,body,hy,hR⟩:=hY _ ⟨len-1-k,by omega⟩ wr hJs (by rw[backF_length hk];exact hlt);dsimp only at hy;have hlast:=Od hlt;obtain⟨i,hi⟩:∃i:Nat,i=len-1-k:=⟨_,rfl⟩;have hil:i<len:=by omega
   obtain⟨x,hx⟩:∃x:Fin len,x=⟨len-1-k,by omega⟩:=⟨_,rfl⟩;rw[<-hx]at hR hlast;clear hx;have hii:(len:Int)-1-(k:Int)=(i:Int):=by omega
   rw[<-hi]at hcx hy;have hstep:(i:Int)-1=(len:Int)-1-((k+1:Nat):Int):=by omega
   rw[hii];clear hi hii;obtain⟨z,hzz⟩:∃z:Nat,z=zf i:=⟨_,rfl⟩;rw[<-hzz]at hcx hy;clear hzz;clear hkb;have hkb:Hid (KB n₀ Bs W wr):=⟨hnx,hBs'.trans hBs.symm⟩
   gi_wp2
   refine hR.mono ?_;rintro e W3 (⟨rfl,hJ3,hk3⟩ | ⟨rfl,hJx3⟩)
   ·gi_wp2
    go_roundw
    case rel=>exact⟨k+1,by omega,by simp,by rw[hlast];exact hJ3,hkb.out.trans hk3⟩
    case measure=>simp[intOf];omega
   ·gi_wp2
    refine bodyPost_ret (results_none rfl _ _ _) rfl ?_;exact⟨⟨_,rfl⟩,.inr ⟨_,⟨k,hlt,hlast.symm⟩,hJx3⟩⟩
  ·obtain rfl:k=len:=by omega
   gi_wp2
   go_end0
   exact⟨⟨_,rfl⟩,.inl ⟨_,rfl,hJs⟩⟩
set_option maxHeartbeats 1000000 in
theorem Tryz.back_in (F:Fence)(n:Nat)(h205:F.fn 205)(hro:F.round=none)(a:Option Addr)(len cap:Nat)(w:World) :
  CallsIn F n Tryz.prog 205 #[.slice a len cap] w λe w'=>e=.returned (.func (.func 229) #[] #[.pointer (some ⟨w.heap.size,0,none⟩)])/\w'=w.alloc (.cells #[.slice a len cap] 44):=by
 refine callsIn_of_wp Tryz.func205 rfl h205 ?_ hro;simp only[Tryz.ntmps205,List.size_toArray,List.length_cons,List.length_nil,Nat.reduceAdd,Nat.reduceSub,Array.replicate_succ,Array.replicate_zero,List.push_toArray,List.append_toArray,List.nil_append,List.cons_append]
 gi_wp2
 go_ret
 exact⟨rfl,rfl⟩
theorem Tryz.back_stops (F:Fence)(n:Nat)(h229:F.fn 229)(hro:F.round=none)(hn:1<=n)(Bs n₀ b off len cap:Nat)(ao:Option Addr)(hao:0<len->ao=some ⟨b,off,none⟩)(zf:Nat->Nat)(hreach:len<=1099511627776)(w:World)(hBs:Bs<w.heap.size)(hb:b<n₀)(hn₀:n₀<=w.heap.size)
  (hc:w.cell? ⟨Bs,0,none⟩=some (.slice ao len cap))(hI:∀j,j<len->w.cell? ⟨b,off+j,none⟩=some (.int .u32 ((zf j:Nat):Int))) :
  SeqStopsK F n Tryz.prog 229 #[.pointer (some ⟨Bs,0,none⟩)] (λx:Fin len=>#[Value.i6 (x.1:Int),Value.int .u32 ((zf x.1:Nat):Int)]) (KB n₀ Bs) (λys=>ys=MN len len)
   (λpre=>∃k,k<len/\pre=MN len (k+1)) len w:=λl J Jx W hW _ _ hY h0=>
 Tryz.back1_in F n h229 hro hn l Bs n₀ b off len cap ao hao zf hreach hb J Jx hY W ((hW.cell (p:=⟨Bs,0,none⟩) hBs).trans hc) (λj hj=>(hW.cell (p:=⟨b,off+j,none⟩) (by show b<_;omega)).trans (hI j hj)) h0
end Go.Proofs
namespace Go.Gm
def Hl (l:List Nat):Nat->Nat
 | 0=>0
 | k+1=>if l[k]?.getD 0=0 then Hl l k else k+1
theorem Oj (l:List Nat):∀k,Hl l k<=k
 | 0=>VL _
 | k+1=>by
  have:=Oj l k;unfold Hl;split <;> omega
theorem JL {l:List Nat}(hx:Lim l):∀k,k<=l.length->l.take (Hl l k)=AA (val (l.take k))
 | 0,_=>by
  have:AA (val ([]:List Nat))=[]:=(Mm (l:=[]) ⟨λx h=>(by cases h),λx h=>(by cases h)⟩).symm;simpa[Hl]using this.symm
 | k+1,hk=>by
  have hg:l[k]? = some l[k]:=VF (by omega);have ht:l.take (k+1)=l.take k++[l[k]]:=VT (by omega);unfold Hl;split
  ·rename_i h;rw[JL hx k (by omega),ht,Cy];rw[hg,Option.getD_some]at h;rw[h];simp[val]
  ·rename_i h;rw[hg,Option.getD_some]at h;refine Mm ⟨λx iB=>hx x (WR iB),λx iB=>?_⟩;rw[ht,List.getLast?_concat]at iB;cases iB;exact h
theorem q_right {l:List Nat}{H:Aa}{id k:Nat}(hg:H[id]? = some (.cel 0 (flat cU l)))(hk:k<=l.length)(hl:l.length<9223372036854775807):Sh.fa (.ms id 0 0 k l.length 1 true) H=some (.ret (.bool (decide (k=0)||decide (l[k-1]?.getD 0≠0))),H):=by
 unfold Sh.fa;cases k with
 | zero=>simp[A7]
 | succ k=>
  have hidx:=CL (sz:=1) (id:=id) (n:=k+1) (K:=.i64) (g:=0) (off:=0) (cap:=l.length) (ex:=true) (i:=k) (by omega);simp only[VK,VY]at hidx;have hld:=Is (f:=cU) (id:=id) (l:=l) (H:=H) (show AC H id 0=some (flat cU l)by simp[AC,hg]) (i:=k) (by omega);have h0:¬((k+1:Nat):Int)=0:=by omega
  have hw:IntKind.i64.wrap (((k+1:Nat):Int)-1)=(k:Int):=by rw[Ao] <;> omega
  have vF:l[k]? = some l[k]:=VF (by omega);simp only[show A7 (.ms id 0 0 (k+1) l.length 1 true)=some (.i6 ((k+1:Nat):Int)) from rfl,GMw,h0,hw,hidx,hld,Wd,vF,Option.getD_some,X7];by_cases h:l[k]=0
  ·simp[h]
  ·have:¬(l[k]:Int)=0:=by omega
   simp[h,this]
theorem q_cut {l:List Nat}{H:Aa}{id:Nat}(hg:H[id]? = some (.cel 0 (flat cU l)))(hl:l.length<1152921504606846976):Sh.f1 (.ms id 0 0 l.length l.length 1 true) H=some (.ret (.ms id 0 0 (Hl l l.length) l.length 1 true),H):=by
 unfold Sh.f1;refine Bq (σ:=Nat) (λk=>k<=l.length/\Hl l k=Hl l l.length) (λk=>[.ms id 0 0 k l.length 1 true]) (λ_=>H) (λk=>k) (λ_=>some (.ret (.ms id 0 0 (Hl l l.length) l.length 1 true),H)) (λk rec hi hrec=>?_) l.length ⟨VL _,rfl⟩ (by omega);obtain⟨hk,ht⟩:=hi;unfold Sh.f12;simp only[Am,q_right hg hk (by omega),GMw];cases k with
 | zero=>simp[<-ht,Hl,rKN,fin,forget,Ep,fgt]
 | succ k=>
  by_cases h:l[k]?.getD 0=0
  ·have hw:IntKind.i64.wrap (((k+1:Nat):Int)-1)=(k:Int):=by rw[Ao] <;> omega
   have hsl:Bw 1 (.ms id 0 0 (k+1) l.length 1 true) none (some (.i6 (k:Int))) none=some (.ms id 0 0 k l.length 1 true):=by
    have:(0:Int)<=(k:Int):=by omega
    simp only[Bw,By,zXa,this,if_true,zXl];rw[if_pos ⟨trivial,by omega,by omega,by omega⟩];simp
   have dT:Hl l k=Hl l l.length:=by rw[<-ht];simp[Hl,h]
   have hr:=hrec k ⟨by omega,dT⟩ (by omega);simp only[h,show A7 (.ms id 0 0 (k+1) l.length 1 true)=some (.i6 ((k+1:Nat):Int)) from rfl,GMw,hw,hsl,Wd,ne_eq,not_true_eq_false,X7];exact hr
  ·have dT:Hl l (k+1)=k+1:=by simp[Hl,h]
   rw[<-ht,dT];simp only[h,GMw,Wd,ne_eq,not_false_eq_true,X7];simp[rKN,fin,forget,Ep,fgt]
open Go.Proofs
set_option maxRecDepth 100000
noncomputable def kK (kn kr:List Ab->Aa->Out):Rx
 | .normal,tm,H=>kn tm H
 | .ret,tm,H=>kr tm H
 | .pan v,_,H=>some (.pan v,H)
 | .exit _,_,_=>none
noncomputable def sfst:Code->Code
 | .seq a _=>a
 | c=>c
noncomputable def ssnd:Code->Code
 | .seq _ b=>b
 | c=>c
noncomputable def cmO:Orc:=ent 201 (ap1 Sh.f1) noO
noncomputable def TZ:Cfg:=mkC Tryz.prog Gs false cmO
noncomputable def cdA:Code:=sfst (Ew Tryz.f156)
noncomputable def cdB:Code:=sfst (ssnd (Ew Tryz.f156))
noncomputable def cdC:Code:=sfst (ssnd (ssnd (Ew Tryz.f156)))
noncomputable def cdD:Code:=ssnd (ssnd (ssnd (Ew Tryz.f156)))
theorem body_156:Tryz.f156.body=some (.seq cdA (.seq cdB (.seq cdC cdD))):=by kernel_rfl
noncomputable def cmA (kn:List Ab->Aa->Out)(x0 x1:Ab)(H0:Aa):Out:=
 An (BD true 1 x1 H0) λb_41 H42=>
 An (A0 (some [(.i6 0)]) H42) λx43 H44=>
 kn [x0,x1,.undef,b_41,x43,.undef,.undef,.undef,.undef,.undef,.undef,.undef,.undef,.undef,.undef,.undef,.undef,.undef,.undef,.undef,.undef,.undef,.undef,.undef,.undef,.undef,.undef,.undef,.undef,.undef,.undef,.undef,.undef,.undef,.undef,.undef,.undef,.undef,.undef] H44
noncomputable def cmB (kn:List Ab->Aa->Out)(x0 x1 x3 x4:Ab)(H0:Aa):Out:=
 Bb (Sh.f1 x0 H0) λx41 H42=>
 bC (Ad false 1 x3 H42) (λx43=>Ad false 1 x3 H0=some x43/\True) λx43=>
 Bb (Sh.f1 x43 H42) λx44 H45=>
 bK H0 (A9 (Af 1 x3 x44 H45)) λ_ H47=>
 kn [x41,x1,.undef,x3,x4,.undef,.undef,x0,x41,x43,x44,.undef,.undef,.undef,.undef,.undef,.undef,.undef,.undef,.undef,.undef,.undef,.undef,.undef,.undef,.undef,.undef,.undef,.undef,.undef,.undef,.undef,.undef,.undef,.undef,.undef,.undef,.undef,.undef] H47
noncomputable def cmC (kn kr:List Ab->Aa->Out)(x0 x3 x4:Ab)(H0:Aa):Out:=
 (A7 x0).bind λx41=>
 (Ad false 1 x3 H0).bind λx42=>
 (A7 x42).bind λx43=>
 (Ae .none .neq x41 x43).bind λx44=>
 Ak x44 (
 (A7 x0).bind λx45=>
 (Ad false 1 x3 H0).bind λx46=>
 (A7 x46).bind λx47=>
 (Ae .none .lss x45 x47).bind λx48=>
 Ak x48 (
 bK H0 (A9 (Af 1 x4 (.i6 (-1)) H0)) λ_ H50=>
 kr [x0,.undef,.undef,x3,x4,.undef,.undef,.undef,.undef,.undef,.undef,x0,x41,x42,x43,x44,x0,x45,x46,x47,x48,.undef,.undef,.undef,.undef,.undef,.undef,.undef,.undef,.undef,.undef,.undef,.undef,.undef,.undef,.undef,.undef,.undef,.undef] H50) (
 bK H0 (A9 (Af 1 x4 (.i6 1) H0)) λ_ H52=>
 kr [x0,.undef,.undef,x3,x4,.undef,.undef,.undef,.undef,.undef,.undef,x0,x41,x42,x43,x44,x0,x45,x46,x47,x48,.undef,.undef,.undef,.undef,.undef,.undef,.undef,.undef,.undef,.undef,.undef,.undef,.undef,.undef,.undef,.undef,.undef,.undef] H52)) (
 kn [x0,.undef,.undef,x3,x4,.undef,.undef,.undef,.undef,.undef,.undef,x0,x41,x42,x43,x44,.undef,.undef,.undef,.undef,.undef,.undef,.undef,.undef,.undef,.undef,.undef,.undef,.undef,.undef,.undef,.undef,.undef,.undef,.undef,.undef,.undef,.undef,.undef] H0)
theorem cmA_eq (kn kr:List Ab->Aa->Out)(x0 x1:Ab)(H:Aa):ev2 TZ 39 cdA .lf (kK kn kr) [x0,x1,.undef,.undef,.undef,.undef,.undef,.undef,.undef,.undef,.undef,.undef,.undef,.undef,.undef,.undef,.undef,.undef,.undef,.undef,.undef,.undef,.undef,.undef,.undef,.undef,.undef,.undef,.undef,.undef,.undef,.undef,.undef,.undef,.undef,.undef,.undef,.undef,.undef] H=cmA kn x0 x1 H:=by kernel_rfl
theorem cmB_eq (kn kr:List Ab->Aa->Out)(x0 x1 x3 x4:Ab)(H:Aa):ev2 TZ 39 cdB (.reg [0,1,2,3,4,5]) (kK kn kr) [x0,x1,.undef,x3,x4,.undef,.undef,.undef,.undef,.undef,.undef,.undef,.undef,.undef,.undef,.undef,.undef,.undef,.undef,.undef,.undef,.undef,.undef,.undef,.undef,.undef,.undef,.undef,.undef,.undef,.undef,.undef,.undef,.undef,.undef,.undef,.undef,.undef,.undef] H=cmB kn x0 x1 x3 x4 H:=by kernel_rfl
theorem cmC_eq (kn kr:List Ab->Aa->Out)(x0 x3 x4:Ab)(H:Aa):ev2 TZ 39 cdC (.tw .lf (.tw (.tw (.tw .lf (.tw (.tw .lf .lf) .lf)) (.tw .lf .lf)) .lf)) (kK kn kr) [x0,.undef,.undef,x3,x4,.undef,.undef,.undef,.undef,.undef,.undef,.undef,.undef,.undef,.undef,.undef,.undef,.undef,.undef,.undef,.undef,.undef,.undef,.undef,.undef,.undef,.undef,.undef,.undef,.undef,.undef,.undef,.undef,.undef,.undef,.undef,.undef,.undef,.undef] H=cmC kn kr x0 x3 x4 H:=by kernel_rfl
structure SW {α:Type}(lt:α->α->Bool):Prop where
 asy:∀a b,lt a b=true->lt b a=false
 neg:∀a b c,lt a b=false->lt b c=false->lt a c=false
section
variable {α:Type}{lt:α->α->Bool}
def B9 (lt:α->α->Bool)(a b:α):Bool:=!lt a b && !lt b a
def F5 (lt:α->α->Bool)(l m:List α):Prop:=∀a,l.filter (B9 lt a)=m.filter (B9 lt a)
def Ey (lt:α->α->Bool)(l:List α):Prop:=l.Pairwise λa b=>lt b a=false
theorem SW.irr (h:SW lt)(a:α):lt a a=false:=by
 cases e:lt a a with
 | false=>rfl
 | true=>have:=h.asy a a e;rw[e]at this;cases this
theorem Kb (h:SW lt)(a:α):B9 lt a a=true:=by unfold B9;rw[h.irr];rfl
theorem FV {a b:α}:B9 lt a b=true↔lt a b=false/\lt b a=false:=by unfold B9;simp
theorem F5.refl (l:List α):F5 lt l l:=λ_=>rfl
theorem F5.trans {l m n:List α}(h:F5 lt l m)(k:F5 lt m n):F5 lt l n:=λa=>(h a).trans (k a)
theorem F5.app {l m l' m':List α}(h:F5 lt l m)(k:F5 lt l' m'):F5 lt (l++l') (m++m'):=λa=>by
 rw[W6,W6,h a,k a]
theorem F5.mem (hs:SW lt){l m:List α}(h:F5 lt l m){a:α}:a∈l↔a∈m:=by
 have e:∀l:List α,a∈l↔a∈l.filter (B9 lt a):=λl=>by rw[W8];exact⟨λh=>⟨h,Kb hs a⟩,λh=>h.1⟩
 rw[e l,e m,h a]
theorem HW {l:List α}{p:α->Bool}(h:∀a∈l,p a=false):l.filter p=[]:=by
 rw[List.filter_eq_nil_iff];intro a ha e;rw[h a ha]at e;cases e
theorem F5.swap (hs:SW lt){u v:List α}(h:∀x∈u,∀y∈v,lt y x=true):F5 lt (u++v) (v++u):=λa=>by
 rw[W6,W6];by_cases hu:∃x∈u,B9 lt a x=true
 ·obtain⟨x,hx,tB⟩:=hu;have hv:v.filter (B9 lt a)=[]:=HW λy hy=>by
   cases e:B9 lt a y with
   | false=>rfl
   | true=>
    rw[FV]at e tB;have:=hs.neg y a x e.2 tB.1;rw[h x hx y hy]at this;cases this
  rw[hv,Wp,List.nil_append]
 ·have:u.filter (B9 lt a)=[]:=HW λx hx=>by
   cases e:B9 lt a x with
   | false=>rfl
   | true=>exact absurd ⟨x,hx,e⟩ hu
  rw[this,Wp,List.nil_append]
theorem Tj (hs:SW lt){x y:α}(h:B9 lt x y=true):B9 lt x=B9 lt y:=by
 rw[FV]at h
 funext a
 rw[Wf,FV,FV];exact⟨λ⟨p,q⟩=>⟨hs.neg _ _ _ h.2 p,hs.neg _ _ _ q h.1⟩,λ⟨p,q⟩=>⟨hs.neg _ _ _ h.1 p,hs.neg _ _ _ q h.2⟩⟩
structure Srt (lt:α->α->Bool)(l m:List α):Prop where
 srt:Ey lt m
 st:F5 lt l m
 len:m.length=l.length
theorem LS {l m:List α}(h1:Ey lt l)(h2:Ey lt m)(h:∀a∈l,∀b∈m,lt b a=false):Ey lt (l++m):=WW.2 ⟨h1,h2,h⟩
def swp (l:List α)(i j:Nat):List α:=match l[i]?,l[j]? with
 | some a,some b=>(l.set i b).set j a
 | _,_=>l
theorem set_at:∀(A:List α) (x y:α) (R:List α),(A++x::R).set A.length y=A++y::R
 | [],_,_,_=>rfl
 | a::A,x,y,R=>by
  show a::(A++x::R).set A.length y=_;rw[set_at A x y R];rfl
theorem MT (l:List α)(i j:Nat):(swp l i j).length=l.length:=by
 unfold swp;split
 ·rw[zYa,zYa]
 ·rfl
theorem get_at (A:List α)(x:α)(R:List α):(A++x::R)[A.length]? = some x:=by simp
theorem R1 (A M B:List α)(x y:α){i j:Nat}(hi:i=A.length)(hj:j=A.length+1+M.length):swp (A++x::(M++y::B)) i j=A++y::(M++x::B)/\swp (A++x::(M++y::B)) j i=A++y::(M++x::B):=by
 subst hi;have e:∀z:α,A++z::(M++y::B)=(A++z::M)++y::B:=λz=>by simp
 have hlen:∀z:α,(A++z::M).length=j:=λz=>by simp;omega
 have g1:(A++x::(M++y::B))[A.length]? = some x:=get_at _ _ _;have g2:(A++x::(M++y::B))[j]? = some y:=by rw[e,<-hlen x];exact get_at _ _ _
 have s1:∀z w:α,(A++z::(M++y::B)).set j w=A++z::(M++w::B):=λz w=>by rw[e,<-hlen z,set_at];simp
 constructor
 ·unfold swp;rw[g1,g2];dsimp only;rw[set_at,s1]
 ·unfold swp;rw[g1,g2];dsimp only;rw[s1,set_at]

end
section
variable {α:Type}{lt:α->α->Bool}
def IK (lt:α->α->Bool)(l:List α)(i j:Nat):Bool:=match l[i]?,l[j]? with
 | some x,some y=>lt x y
 | _,_=>false
theorem R9 {l:List α}{i j:Nat}(hi:i<l.length)(hj:j<l.length):IK lt l i j=lt l[i] l[j]:=by
 unfold IK;rw[VF hi,VF hj]
def KH (lt:α->α->Bool)(a:Nat):Nat->List α->List α
 | 0,l=>l
 | j+1,l=>if a<j+1/\IK lt l (j+1) j=true then KH lt a j (swp l (j+1) j)else l
theorem insJ_len (a:Nat):∀(j:Nat) (l:List α),(KH lt a j l).length=l.length
 | 0,l=>rfl
 | j+1,l=>by
  unfold KH;split
  ·rw[insJ_len a j,MT]
  ·rfl
theorem insJ_ok (hs:SW lt)(A:List α)(x:α):∀(n:Nat) (S R:List α),S.length=n->Ey lt S->∃P,KH lt A.length (A.length+S.length) (A++(S++x::R))=A++(P++R)/\Srt lt (S++[x]) P
 | 0,S,R,hn,_=>by
  have:S=[]:=Wc hn;subst this;refine⟨[x],?_,⟨WU _ _,.refl _,rfl⟩⟩;show KH lt A.length (A.length+0) _=_;rw[Nat.add_zero];cases hA:A.length with
  | zero=>rfl
  | succ k=>
   unfold KH;rw[if_neg (by omega)];rfl
 | n+1,S,R,hn,hS=>by
  have hne:S≠[]:=λe=>by rw[e]at hn;cases hn
  obtain⟨T,y,rfl⟩:∃T y,S=T++[y]:=⟨S.dropLast,S.getLast hne,(List.dropLast_concat_getLast hne).symm⟩;have hT:T.length=n:=by simpa using hn
  have hS':=hS;unfold Ey at hS';rw[WW]at hS';obtain⟨hT1,_,hT2⟩:=hS';have hl:A++((T++[y])++x::R)=(A++T)++y::([]++x::R):=by simp
  have hAT:(A++T).length=A.length+T.length:=VO;have g1:IK lt (A++((T++[y])++x::R)) (A.length+T.length+1) (A.length+T.length)=lt x y:=by
   unfold IK;have e1:(A++((T++[y])++x::R))[A.length+T.length+1]? = some x:=by
    have:A++((T++[y])++x::R)=(A++T++[y])++x::R:=by simp
    rw[this,show A.length+T.length+1=(A++T++[y]).length by simp;omega];exact get_at _ _ _
   have e2:(A++((T++[y])++x::R))[A.length+T.length]? = some y:=by
    rw[hl,<-hAT];exact get_at _ _ _
   rw[e1,e2]
  have hlen:A.length+(T++[y]).length=A.length+T.length+1:=by simp;omega
  rw[hlen];unfold KH;rw[g1];by_cases hxy:lt x y=true
  ·rw[if_pos ⟨by omega,hxy⟩,hl,(R1 (A++T) [] R y x hAT.symm (by rw[hAT];rfl)).2];obtain⟨P,p1,p2⟩:=insJ_ok hs A x n T (y::R) hT hT1;refine⟨P++[y],?_,⟨?_,?_,by rw[VO,p2.len];simp⟩⟩
   ·have:(A++T)++x::([]++y::R)=A++(T++x::(y::R)):=by simp
    rw[this,p1];simp
   ·refine LS p2.srt (WU _ _) λa ha b hb=>?_;rw[We]at hb;subst hb;have:=(p2.st.mem hs).2 ha;rcases Wh.1 this with h | h
    ·exact hT2 a h b (by simp)
    ·rw[We]at h;rw[h];exact hs.asy _ _ hxy
   ·refine F5.trans ?_ (p2.st.app (.refl [y]));rw[VP,VP];exact (F5.refl T).app (F5.swap hs λa ha b hb=>by
     rw[We]at ha hb;rw[ha,hb];exact hxy)
  ·have pG:lt x y=false:=by simpa using hxy
   rw[if_neg (λh=>hxy h.2)];refine⟨T++[y]++[x],by simp,⟨LS hS (WU _ _) λa ha b hb=>?_,.refl _,rfl⟩⟩;rw[We]at hb;subst hb;rcases Wh.1 ha with h | h
   ·exact hs.neg _ _ _ pG (hT2 a h y (by simp))
   ·rw[We]at h;rw[h];exact pG
def Rm (lt:α->α->Bool)(a:Nat):Nat->List α->List α
 | 0,l=>l
 | k+1,l=>KH lt a (a+1+k) (Rm lt a k l)
theorem insN_len (a:Nat):∀(k:Nat) (l:List α),(Rm lt a k l).length=l.length
 | 0,l=>rfl
 | k+1,l=>by unfold Rm;rw[insJ_len,insN_len a k]
theorem insN_ok (hs:SW lt)(A:List α):∀(k:Nat) (S R:List α),S.length=k+1->∃P,Rm lt A.length k (A++(S++R))=A++(P++R)/\Srt lt S P
 | 0,S,R,hn=>by
  obtain⟨x,rfl⟩:=XB.1 hn;exact⟨[x],rfl,⟨WU _ _,.refl _,rfl⟩⟩
 | k+1,S,R,hn=>by
  have hne:S≠[]:=λe=>by rw[e]at hn;cases hn
  obtain⟨T,y,rfl⟩:∃T y,S=T++[y]:=⟨S.dropLast,S.getLast hne,(List.dropLast_concat_getLast hne).symm⟩;have hT:T.length=k+1:=by simpa using hn
  obtain⟨P,p1,p2⟩:=insN_ok hs A k T (y::R) hT;have hPl:P.length=k+1:=by rw[p2.len,hT]
  obtain⟨P',q1,q2⟩:=insJ_ok hs A y P.length P R rfl p2.srt;refine⟨P',?_,⟨q2.srt,(p2.st.app (.refl [y])).trans q2.st,by rw[q2.len,VO,VO,p2.len]⟩⟩;unfold Rm;have:A++((T++[y])++R)=A++(T++y::R):=by simp
  rw[this,p1,show A.length+1+k=A.length+P.length by omega];exact q1

end
section
variable {α:Type}{lt:α->α->Bool}
def swR (a b:Nat):Nat->List α->List α
 | 0,l=>l
 | k+1,l=>swp (swR a b k l) (a+k) (b+k)
theorem R2 (a b:Nat):∀(k:Nat) (l:List α),(swR a b k l).length=l.length
 | 0,l=>rfl
 | k+1,l=>by unfold swR;rw[MT,R2 a b k]
theorem swR_up (A M B U V:List α)(h:U.length=V.length):∀k,k<=U.length->swR A.length (A.length+U.length+M.length) k (A++(U++(M++(V++B))))=A++((V.take k++U.drop k)++(M++((U.take k++V.drop k)++B)))
 | 0,_=>by simp[swR]
 | k+1,hk=>by
  unfold swR;rw[swR_up A M B U V h k (by omega)];have xB:k<U.length:=by omega
  have qT:k<V.length:=by omega
  rw[Wo xB,Wo qT,VT xB,VT qT];have e:A++((V.take k++U[k]::U.drop (k+1))++(M++((U.take k++V[k]::V.drop (k+1))++B)))=(A++V.take k)++U[k]::((U.drop (k+1)++(M++U.take k))++V[k]::(V.drop (k+1)++B)):=by simp only[VP,List.cons_append,List.nil_append]
  have h1:(V.take k).length=k:=by rw[Wb];omega
  have h2:(U.take k).length=k:=by rw[Wb];omega
  rw[e,(R1 (A++V.take k) (U.drop (k+1)++(M++U.take k)) (V.drop (k+1)++B) U[k] V[k] (by rw[VO,h1]) (by simp only[VO,h1,h2,Wk];omega)).1];simp only[VP,List.cons_append,List.nil_append]
theorem swR_ok (A M B U V:List α)(h:U.length=V.length){a b n:Nat}(ha:a=A.length)(hb:b=A.length+U.length+M.length)(hn:n=U.length):swR a b n (A++(U++(M++(V++B))))=A++(V++(M++(U++B))):=by
 subst ha;subst hb;subst hn;rw[swR_up A M B U V h U.length (VL _),VV (by omega),VV (VL _),Xf (VL _),Xf (by omega)];simp
structure Of (A B W:List α)(m i j:Nat)(l:List α):Prop where
 ex:∃P u v S,l=A++(P++(u++(v++(S++B))))/\P++(v++(u++S))=W/\u.length=i/\v.length=j/\A.length+P.length+i=m
 pos:0<i/\0<j
theorem Of.start {A B U V:List α}(hU:0<U.length)(hV:0<V.length):Of A B (V++U) (A.length+U.length) U.length V.length (A++(U++(V++B))):=
 ⟨⟨[],U,V,[],by simp,by simp,rfl,rfl,by simp⟩,hU,hV⟩
theorem Of.hi {A B W l:List α}{m i j:Nat}(h:Of A B W m i j l)(hij:j<i):Of A B W m (i-j) j (swR (m-i) m j l):=by
 obtain⟨⟨P,u,v,S,rfl,hW,hu,hv,hm⟩,h1,h2⟩:=h;have hsp:u.take j++u.drop j=u:=W4 j u;have l1:(u.take j).length=j:=by rw[Wb];omega
 have l2:(u.drop j).length=i-j:=by rw[Wk,hu]
 have e:A++(P++(u++(v++(S++B))))=(A++P)++(u.take j++(u.drop j++(v++(S++B)))):=by
  conv=>lhs;rw[<-hsp]
  simp only[VP]
 rw[e,swR_ok (A++P) (u.drop j) (S++B) (u.take j) v (by rw[l1,hv]) (by rw[VO];omega) (by rw[VO,l1,l2];omega) l1.symm];refine⟨⟨P++v,u.drop j,u.take j,S,by simp,?_,l2,l1,by rw[VO];omega⟩,by omega,h2⟩;rw[<-hW]
 conv=>rhs;rw[<-hsp]
 simp only[VP]
theorem Of.lo {A B W l:List α}{m i j:Nat}(h:Of A B W m i j l)(hij:i<j):Of A B W m i (j-i) (swR (m-i) (m+j-i) i l):=by
 obtain⟨⟨P,u,v,S,rfl,hW,hu,hv,hm⟩,h1,h2⟩:=h;have hsp:v.take (j-i)++v.drop (j-i)=v:=W4 (j-i) v;have l1:(v.take (j-i)).length=j-i:=by rw[Wb];omega
 have l2:(v.drop (j-i)).length=i:=by rw[Wk,hv];omega
 have e:A++(P++(u++(v++(S++B))))=(A++P)++(u++(v.take (j-i)++(v.drop (j-i)++(S++B)))):=by
  conv=>lhs;rw[<-hsp]
  simp only[VP]
 rw[e,swR_ok (A++P) (v.take (j-i)) (S++B) u (v.drop (j-i)) (by rw[l2,hu]) (by rw[VO];omega) (by rw[VO,l1];omega) hu.symm];refine⟨⟨P,v.drop (j-i),v.take (j-i),u++S,by simp,?_,l2,l1,hm⟩,h1,by omega⟩;rw[<-hW]
 conv=>rhs;rw[<-hsp]
 simp only[VP]
theorem Of.eq {A B W l:List α}{m i:Nat}(h:Of A B W m i i l):swR (m-i) m i l=A++(W++B):=by
 obtain⟨⟨P,u,v,S,rfl,hW,hu,hv,hm⟩,h1,h2⟩:=h;have e:A++(P++(u++(v++(S++B))))=(A++P)++(u++([]++(v++(S++B)))):=by simp
 rw[e,swR_ok (A++P) [] (S++B) u v (by omega) (by rw[VO];omega) (by rw[VO];simp;omega) hu.symm,<-hW];simp
theorem Of.len {A B W l:List α}{m i j:Nat}(h:Of A B W m i j l):i<=m/\m+j<=l.length:=by
 obtain⟨⟨P,u,v,S,rfl,hW,hu,hv,hm⟩,h1,h2⟩:=h;simp only[VO];omega
structure BsI (p:Nat->Bool)(s r i j:Nat):Prop where
 le:s<=i/\i<=j/\j<=r
 up:∀c,s<=c->c<i->p c=true
 dn:∀c,j<=c->c<r->p c=false
theorem BsI.start {p:Nat->Bool}{s r:Nat}(h:s<=r):BsI p s r s r:=⟨⟨VL _,h,VL _⟩,λc _ _=>by omega,λc _ _=>by omega⟩
theorem BsI.yes {p:Nat->Bool}{s r i j h:Nat}(k:BsI p s r i j)(hm:∀c d,s<=c->c<=d->d<r->p d=true->p c=true)(h1:i<=h)(h2:h<j)(hp:p h=true):BsI p s r (h+1) j:=by
 obtain⟨⟨a,b,c⟩,d,e⟩:=k;exact⟨⟨by omega,by omega,c⟩,λx hx hy=>hm x h hx (by omega) (by omega) hp,e⟩
theorem BsI.no {p:Nat->Bool}{s r i j h:Nat}(k:BsI p s r i j)(hm:∀c d,s<=c->c<=d->d<r->p d=true->p c=true)(h1:i<=h)(h2:h<j)(hp:p h=false):BsI p s r i h:=by
 obtain⟨⟨a,b,c⟩,d,e⟩:=k;refine⟨⟨a,h1,by omega⟩,d,λx hx hy=>?_⟩;cases hq:p x with
 | false=>rfl
 | true=>have:=hm h x (by omega) hx hy hq;rw[hp]at this;cases this

end
section
variable {α:Type}{lt:α->α->Bool}
theorem HM {l:List α}(h:Ey lt l)(hs:SW lt){i j:Nat}(hij:i<=j)(hj:j<l.length):lt l[j] (l[i]'(by omega))=false:=by
 by_cases e:i=j
 ·subst e;exact hs.irr _
 ·exact Xx.1 h i j (by omega) hj (by omega)
theorem Iq {l:List α}{n:Nat}{x:α}(h:x∈l.take n):∃i,∃hi:i<l.length,i<n/\l[i]=x:=by
 obtain⟨i,hi,e⟩:=Wr h;rw[Wb]at hi;exact⟨i,by omega,by omega,by rw[<-e,Yp]⟩
theorem Ir {l:List α}{n:Nat}{x:α}(h:x∈l.drop n):∃i,∃hi:i<l.length,n<=i/\l[i]=x:=by
 obtain⟨i,hi,e⟩:=Wr h;rw[Wk]at hi;exact⟨n+i,by omega,by omega,by rw[<-e,XD]⟩
theorem P1 (hs:SW lt){U V W1 W2:List α}{i k:Nat}(hU:Ey lt U)(hV:Ey lt V)(h1:∀x∈U.drop i,∀y∈V.take k,lt y x=true)(h2:∀x∈U.take i,∀y∈V.drop k,lt y x=false)
  (w1:Srt lt (U.take i++V.take k) W1)(w2:Srt lt (U.drop i++V.drop k) W2):Srt lt (U++V) (W1++W2):=by
 have eU:U.take i++U.drop i=U:=W4 i U;have eV:V.take k++V.drop k=V:=W4 k V;have hU':=hU;have hV':=hV;rw[<-eU]at hU';rw[<-eV]at hV';have pU:=(WW.1 hU').2.2;have pV:=(WW.1 hV').2.2;refine⟨LS w1.srt w2.srt λa ha b hb=>?_,?_,?_⟩
 ·have kC:=(w1.st.mem hs).2 ha;have hb':=(w2.st.mem hs).2 hb;rcases Wh.1 kC with x | x <;> rcases Wh.1 hb' with y | y
  ·exact pU a x b y
  ·exact h2 a x b y
  ·exact hs.asy _ _ (h1 b y a x)
  ·exact pV a x b y
 ·refine F5.trans ?_ (w1.st.app w2.st);have e1:U++V=U.take i++((U.drop i++V.take k)++V.drop k):=by
   conv=>lhs;rw[<-eU,<-eV]
   simp only[VP]
  have e2:U.take i++V.take k++(U.drop i++V.drop k)=U.take i++((V.take k++U.drop i)++V.drop k):=by simp only[VP]
  rw[e1,e2];exact (F5.refl _).app ((F5.swap hs h1).app (.refl _))
 ·rw[VO,w1.len,w2.len,VO,VO,VO,Wb,Wb,Wk,Wk];omega
section
variable {U V A B:List α}{a m b mid s0 r0 s:Nat}
def Sa (lt:α->α->Bool)(l:List α)(P:Nat)(c:Nat):Bool:=!IK lt l (P-c) c
theorem at_U (ha:A.length=a){c:Nat}(h1:a<=c)(h2:c<a+U.length):(A++(U++(V++B)))[c]? = some (U[c-a]'(by omega)):=by
 rw[Wl (by omega),VH (by omega),ha,VF]
theorem at_V (ha:A.length=a)(hm:a+U.length=m){c:Nat}(h1:m<=c)(h2:c<m+V.length):(A++(U++(V++B)))[c]? = some (V[c-m]'(by omega)):=by
 rw[Wl (by omega),Wl (by omega),VH (by omega),show c-A.length-U.length=c-m by omega,VF]
theorem R0 (ha:A.length=a)(hm:a+U.length=m){P c:Nat}(h1:a<=c)(h2:c<m)(h3:m<=P-c)(h4:P-c<m+V.length):Sa lt (A++(U++(V++B))) P c = !lt (V[P-c-m]'(by omega)) (U[c-a]'(by omega)):=by
 unfold Sa IK;rw[at_V ha hm h3 h4,at_U ha h1 (by omega)]
theorem symP_mono (hs:SW lt)(hU:Ey lt U)(hV:Ey lt V)(ha:A.length=a)(hm:a+U.length=m){P c d:Nat}(h1:a<=c)(vO:c<=d)(h2:d<m)(h3:m<=P-d)(h4:P-c<m+V.length)
  (h:Sa lt (A++(U++(V++B))) P d=true):Sa lt (A++(U++(V++B))) P c=true:=by
 rw[R0 ha hm (by omega) h2 h3 (by omega)]at h;rw[R0 ha hm h1 (by omega) (by omega) h4];simp only[WM]at h ⊢;have u:=HM hU hs (i:=c-a) (j:=d-a) (by omega) (by omega);have v:=HM hV hs (i:=P-d-m) (j:=P-c-m) (by omega) (by omega);exact hs.neg _ _ _ v (hs.neg _ _ _ h u)
theorem sym_split (hs:SW lt)(hU:Ey lt U)(hV:Ey lt V)(ha:A.length=a)(hm:a+U.length=m)(hb:m+V.length=b)(jJ:mid=(a+b) / 2)(hUp:0<U.length)(hVp:0<V.length)
  (h0:s0=if mid<m then mid+m-b else a)(hr:r0=if mid<m then mid else m)(k:BsI (Sa lt (A++(U++(V++B))) (mid+m-1)) s0 r0 s s) :
  (∀x∈U.drop (s-a),∀y∈V.take (mid-s),lt y x=true)/\(∀x∈U.take (s-a),∀y∈V.drop (mid-s),lt y x=false)/\a<=s/\s<=m/\s<=mid/\m<=mid+m-s/\mid+m-s<=b:=by
 obtain⟨⟨k1,_,k2⟩,k3,k4⟩:=k;have jG:a<=s/\s<=m/\s<=mid/\mid+m-s<=b:=by
  by_cases hc:mid<m
  ·rw[if_pos hc]at h0 hr;omega
  ·rw[if_neg hc]at h0 hr;omega
 refine⟨λx hx y hy=>?_,λx hx y hy=>?_,by omega,by omega,by omega,by omega,by omega⟩
 ·obtain⟨i,hi,hi2,rfl⟩:=Ir hx;obtain⟨j,hj,qW,rfl⟩:=Iq hy;have hlt:s<r0:=by
   by_cases hc:mid<m
   ·rw[if_pos hc]at hr;omega
   ·rw[if_neg hc]at hr;omega
  have:=k4 s (VL _) hlt;rw[R0 ha hm (by omega) (by omega) (by omega) (by omega)]at this;simp only[Yj]at this;have u:=HM hU hs (i:=s-a) (j:=i) hi2 hi;have v:=HM hV hs (i:=j) (j:=mid+m-1-s-m) (by omega) (by omega);cases e:lt V[j] U[i]with
  | true=>rfl
  | false=>
   have h9:=hs.neg _ _ _ v (hs.neg _ _ _ e u);rw[h9]at this;cases this
 ·obtain⟨i,hi,hi2,rfl⟩:=Iq hx;obtain⟨j,hj,qW,rfl⟩:=Ir hy;have hlt:s0<s:=by
   by_cases hc:mid<m
   ·rw[if_pos hc]at h0;omega
   ·rw[if_neg hc]at h0;omega
  have:=k3 (s-1) (by omega) (by omega);rw[R0 ha hm (by omega) (by omega) (by omega) (by omega)]at this;simp only[WM]at this;have u:=HM hU hs (i:=i) (j:=s-1-a) (by omega) (by omega);have v:=HM hV hs (i:=mid+m-1-(s-1)-m) (j:=j) (by omega) hj;exact hs.neg _ _ _ v (hs.neg _ _ _ this u)

end
theorem one_up (hs:SW lt){x:α}{V:List α}{k:Nat}(hV:Ey lt V)(h1:∀y∈V.take k,lt y x=true)(h2:∀y∈V.drop k,lt y x=false):Srt lt ([x]++V) (V.take k++([x]++V.drop k)):=by
 have:=P1 (U:=[x]) (V:=V) (i:=0) (k:=k) (W1:=V.take k) (W2:=[x]++V.drop k) hs (WU _ _) hV (λa ha y hy=>by
  have:a=x:=by simpa using ha
  rw[this];exact h1 y hy) (λa ha=>by simp at ha) ⟨WY (Yn k V) hV,F5.refl _,rfl⟩
  ⟨LS (WU _ _) (WY (Yq k V) hV) λa ha y hy=>by rw[We]at ha;rw[ha];exact h2 y hy,.refl _,rfl⟩
 exact this
theorem one_dn (hs:SW lt){y:α}{U:List α}{i:Nat}(hU:Ey lt U)(h1:∀x∈U.take i,lt y x=false)(h2:∀x∈U.drop i,lt y x=true):Srt lt (U++[y]) (U.take i++([y]++U.drop i)):=by
 have:=P1 (U:=U) (V:=[y]) (i:=i) (k:=1) (W1:=U.take i++[y]) (W2:=U.drop i) hs hU (WU _ _) (λx hx a ha=>by
  have:a=y:=by simpa using ha
  rw[this];exact h2 x hx) (λx hx a ha=>by simp at ha)
  ⟨LS (WY (Yn i U) hU) (WU _ _) λa ha x hx=>by rw[We]at hx;rw[hx];exact h1 a ha,.refl _,rfl⟩
  ⟨WY (Yq i U) hU,by simpa using F5.refl _,by simp⟩
 simpa using this
def upR (a:Nat):Nat->List α->List α
 | 0,l=>l
 | k+1,l=>swp (upR a k l) (a+k) (a+k+1)
def dnR (m:Nat):Nat->List α->List α
 | 0,l=>l
 | k+1,l=>swp (dnR m k l) (m-k) (m-k-1)
theorem upR_ok (A B:List α)(x:α)(V:List α):∀k,k<=V.length->upR A.length k (A++([x]++(V++B)))=A++((V.take k++([x]++V.drop k))++B)
 | 0,_=>by simp[upR]
 | k+1,hk=>by
  have qT:k<V.length:=hk;unfold upR;rw[upR_ok A B x V k (by omega)];have e:A++((V.take k++([x]++V.drop k))++B)=(A++V.take k)++x::([]++V[k]::(V.drop (k+1)++B)):=by
   rw[Wo qT];simp only[VP,List.cons_append,List.nil_append]
  have h1:(V.take k).length=k:=by rw[Wb];omega
  rw[e,(R1 (A++V.take k) [] (V.drop (k+1)++B) x V[k] (by rw[VO,h1]) (by rw[VO,h1];rfl)).1,VT qT];simp only[VP,List.cons_append,List.nil_append]
theorem dnR_ok (A B:List α)(y:α)(U:List α):∀k,k<=U.length->dnR (A.length+U.length) k (A++(U++([y]++B)))=A++((U.take (U.length-k)++([y]++U.drop (U.length-k)))++B)
 | 0,_=>by simp[dnR]
 | k+1,hk=>by
  unfold dnR;rw[dnR_ok A B y U k (by omega)];obtain⟨i,hi⟩:∃i,U.length=i+(k+1):=⟨U.length-(k+1),by omega⟩;have h2:U.length-k=i+1:=by omega
  have h3:U.length-(k+1)=i:=by omega
  have xE:i<U.length:=by omega
  rw[h2,h3];have h1:(U.take i).length=i:=by rw[Wb];omega
  have e:A++((U.take (i+1)++([y]++U.drop (i+1)))++B)=(A++U.take i)++U[i]::([]++y::(U.drop (i+1)++B)):=by
   rw[VT xE];simp only[VP,List.cons_append,List.nil_append]
  rw[e,(R1 (A++U.take i) [] (U.drop (i+1)++B) U[i] y (i:=A.length+U.length-k-1) (j:=A.length+U.length-k) (by rw[VO,h1];omega) (by rw[VO,h1];simp;omega)).2,Wo xE];simp only[VP,List.cons_append,List.nil_append]

end
section
variable {α:Type}{lt:α->α->Bool}
def N8 (lt:α->α->Bool)(w:Nat)(l:List α):Prop:=∀(i j:Nat) (hj:j<l.length) (hi:i<j),i / w=j / w->lt l[j] (l[i]'(by omega))=false
structure Stg (lt:α->α->Bool)(w:Nat)(l:List α)(a:Nat)(l':List α):Prop where
 ex:∃P,l'=P++l.drop a/\P.length=a/\F5 lt (l.take a) P/\N8 lt w P
theorem Stg.start (w:Nat)(l:List α):Stg lt w l 0 l:=⟨⟨[],by simp,rfl,by simpa using F5.refl _,λi j hj=>by simp at hj⟩⟩
theorem Stg.len {w:Nat}{l l':List α}{a:Nat}(h:Stg lt w l a l')(ha:a<=l.length):l'.length=l.length:=by
 obtain⟨P,rfl,hP,_,_⟩:=h.ex;rw[VO,hP,Wk];omega
theorem Tt {w a i:Nat}(hw:0<w)(hd:w ∣ a)(hi:i<w):(a+i) / w=a / w:=by
 obtain⟨q,rfl⟩:=hd;rw[Nat.mul_add_div hw,Nat.mul_div_cancel_left _ hw,Xl hi];omega
theorem div_less {w a i:Nat}(hw:0<w)(hd:w ∣ a)(hi:i<a):i / w<a / w:=by
 obtain⟨q,rfl⟩:=hd;rw[Nat.mul_div_cancel_left _ hw];rw[Xj hw,Xa];exact hi
theorem N8.app {w:Nat}{P S:List α}(hw:0<w)(hd:w ∣ P.length)(h:N8 lt w P)(hS:Ey lt S):S.length<=w->N8 lt w (P++S):=by
 intro hl i j hj hi he;rw[VO]at hj;by_cases h1:j<P.length
 ·rw[Yr h1,Yr (by omega)];exact h i j h1 hi he
 ·by_cases h2:i<P.length
  ·have e1:=div_less hw hd h2;have e2:=Tt hw hd (show j-P.length<w by omega);rw[show P.length+(j-P.length)=j by omega]at e2;omega
  ·rw[WS (by omega),WS (by omega)];exact Xx.1 hS (i-P.length) (j-P.length) (by omega) (by omega) (by omega)
theorem Stg.all {w:Nat}{l l':List α}(h:Stg lt w l l.length l'):F5 lt l l'/\N8 lt w l'/\l'.length=l.length:=by
 obtain⟨P,h1,hP,hst,hb⟩:=h.ex;rw[Xf (VL _),Wp]at h1;rw[VV (VL _)]at hst;subst h1;exact⟨hst,hb,hP⟩
theorem N8.block {w a:Nat}{l:List α}(hw:0<w)(hd:w ∣ a)(h:N8 lt w l)(n:Nat)(hn:n<=w):Ey lt ((l.drop a).take n):=by
 refine Xx.2 λi j hi hj hij=>?_;rw[Wb,Wk]at hi hj;rw[Yp,Yp,XD,XD];refine h (a+i) (a+j) (by omega) (by omega) ?_;rw[Tt hw hd (by omega),Tt hw hd (by omega)]
theorem N8.whole {w:Nat}{l:List α}(hw:l.length<=w)(h:N8 lt w l):Ey lt l:=by
 refine Xx.2 λi j hi hj hij=>h i j hj hij ?_;rw[Xl (by omega),Xl (by omega)]
theorem Kw (hs:SW lt):∀l m:List α,(l.Pairwise λa b=>lt a b=true)->(m.Pairwise λa b=>lt a b=true)->(∀a,a∈l↔a∈m)->l=m
 | [],m,_,_,h=>by
  cases m with
  | nil=>rfl
  | cons y m=>have:=(h y).2 (by simp);cases this
 | x::l,m,hl,hm,h=>by
  cases m with
  | nil=>have:=(h x).1 (by simp);cases this
  | cons y m=>
   rw[X9]at hl hm;have hxy:x=y:=by
    rcases W9.1 ((h x).1 (by simp))with e | e
    ·exact e
    ·rcases W9.1 ((h y).2 (by simp))with e' | e'
     ·exact e'.symm
     ·have a1:=hm.1 x e;have a2:=hl.1 y e';rw[hs.asy _ _ a1]at a2;cases a2
   subst hxy
   congr 1
   refine Kw hs l m hl.2 hm.2 λa=>?_;have ne:∀ {k:List α},(∀a∈k,lt x a=true)->a∈k->a≠x:=λhk ha e=>by
    have:=hk a ha;rw[e,hs.irr]at this;cases this
   constructor
   ·intro ha;rcases W9.1 ((h a).1 (by simp[ha]))with e | e
    ·exact absurd e (ne hl.1 ha)
    ·exact e
   ·intro ha;rcases W9.1 ((h a).2 (by simp[ha]))with e | e
    ·exact absurd e (ne hm.1 ha)
    ·exact e
def cpF (lt:α->α->Bool):α->List α->List α
 | _,[]=>[]
 | x,y::t=>if B9 lt y x then cpF lt y t else y::cpF lt y t
def cpL (lt:α->α->Bool):List α->List α
 | []=>[]
 | x::t=>x::cpF lt x t
theorem cpF_ok (hs:SW lt):∀(t:List α) (x:α),Ey lt (x::t)->((cpF lt x t).Pairwise λa b=>lt a b=true)/\(∀z∈cpF lt x t,lt x z=true)/\∀z,z∈cpF lt x t↔B9 lt z x=false/\(t.filter (B9 lt z)).head? = some z
 | [],x,h=>⟨List.Pairwise.nil,λz (hz:z∈[])=>(by cases hz),λz=>(by simp[cpF])⟩
 | y::t,x,h=>by
  have h':=h;unfold Ey at h';rw[X9]at h';obtain⟨hx,ht⟩:=h';obtain⟨i1,i2,i3⟩:=cpF_ok hs t y ht;have yB:=hx y (by simp);unfold cpF;by_cases he:B9 lt y x=true
  ·rw[if_pos he];have gH:=Tj hs he;rw[FV]at he;have hlt:∀z∈cpF lt y t,lt x z=true:=λz hz=>by
    cases e:lt x z with
    | true=>rfl
    | false=>have:=hs.neg y x z he.1 e;rw[i2 z hz]at this;cases this
   refine⟨i1,hlt,λz=>?_⟩;rw[i3 z];have e1:B9 lt z y=B9 lt z x:=by
    rw[Wf,FV,FV];exact⟨λ⟨p,q⟩=>⟨hs.neg _ _ _ p he.1,hs.neg _ _ _ he.2 q⟩,λ⟨p,q⟩=>⟨hs.neg _ _ _ p he.2,hs.neg _ _ _ he.1 q⟩⟩
   rw[e1];constructor
   ·rintro⟨a,b⟩;refine⟨a,?_⟩;rw[WG,if_neg (by rw[e1,a];decide)];exact b
   ·rintro⟨a,b⟩;refine⟨a,?_⟩;rw[WG,if_neg (by rw[e1,a];decide)]at b;exact b
  ·rw[if_neg he];have hxy:lt x y=true:=by
    cases e:lt x y with
    | true=>rfl
    | false=>exact absurd (FV.2 ⟨yB,e⟩) he
   have hlt:∀z∈cpF lt y t,lt x z=true:=λz hz=>by
    cases e:lt x z with
    | true=>rfl
    | false=>have:=hs.neg x z y e (hs.asy _ _ (i2 z hz));rw[hxy]at this;cases this
   refine⟨X9.2 ⟨i2,i1⟩,λz hz=>?_,λz=>?_⟩
   ·rcases W9.1 hz with e | e
    ·rw[e];exact hxy
    ·exact hlt z e
   ·rw[W9,i3 z,WG];by_cases oG:B9 lt z y=true
    ·rw[if_pos oG];have lP:B9 lt z x=false:=by
      cases e:B9 lt z x with
      | false=>rfl
      | true=>
       rw[FV]at e oG;have:=hs.neg x z y e.2 oG.1;rw[hxy]at this;cases this
     rw[lP,oG];simp only[List.head?_cons,VR,YA,false_and,or_false,true_and];exact⟨λh=>h.symm,λh=>h.symm⟩
    ·rw[if_neg oG];have kJ:B9 lt z y=false:=by simpa using oG
     rw[kJ];have hne:z≠y:=λe=>by rw[e,Kb hs]at kJ;cases kJ
     simp only[hne,false_or,true_and];constructor
     ·intro hb;refine⟨?_,hb⟩;have hz:z∈cpF lt y t:=(i3 z).2 ⟨kJ,hb⟩;cases e:B9 lt z x with
      | false=>rfl
      | true=>rw[FV]at e;have:=hlt z hz;rw[e.2]at this;cases this
     ·exact λh=>h.2
theorem cpL_ok (hs:SW lt){l:List α}(h:Ey lt l):((cpL lt l).Pairwise λa b=>lt a b=true)/\∀z,z∈cpL lt l↔(l.filter (B9 lt z)).head? = some z:=by
 cases l with
 | nil=>exact⟨List.Pairwise.nil,λz=>by simp[cpL]⟩
 | cons x t=>
  obtain⟨i1,i2,i3⟩:=cpF_ok hs t x h;refine⟨X9.2 ⟨i2,i1⟩,λz=>?_⟩;show z∈x::cpF lt x t↔_;rw[W9,i3 z,WG];by_cases lP:B9 lt z x=true
  ·rw[if_pos lP,lP];simp only[List.head?_cons,VR,YA,false_and,or_false];exact⟨λh=>h.symm,λh=>h.symm⟩
  ·rw[if_neg lP];have hne:z≠x:=λe=>by rw[e,Kb hs]at lP;exact lP rfl
   simp only[hne,false_or];exact⟨λh=>h.2,λh=>⟨by simpa using lP,h⟩⟩

end
def Dj (L:List Nd)(i:Nat)(x:Nd)(c:Int):Bool:=
 decide (0<=c)&&(decide (x.lv=1->c<=255))&&decide (1<x.lv->0<c->c<=i/\∀y,L[(c-1).toNat]? = some y->y.lv=x.lv-1)
def Gx (L:List Nd)(i:Nat):Bool:=
 match L[i]? with
 | some x=>decide (1<=x.lv/\x.lv<=1329)&&(List.range 4).all λk=>Dj L i x (x.kid k)
 | none=>true
def AB (L:List Nd):Bool:=(List.range L.length).all (Gx L)
theorem UM (L:List Nd)(tk:Tok)(H:Aa)(hL:L.length<1152921504606846976):Sh.f2t (.sl (enL cNd L) tk) H=some (.ret (.bool (AB L)),H):=by
 unfold Sh.f2t;rw[show AB L=(List.range L.length).all (Gx L) from rfl];have:=EU L.length (Gx L) (λi=>[.sl (enL cNd L) tk,.i6 (i:Int)]) H (some (.ret (.bool true),H)) (some (.ret (.bool false),H)) hL (λrec i hi=>?_) (λrec=>?_)
  (G:=λrec1 vs H1=>Sh.f53 H rec1 (ag vs 0) (ag vs 1) H1)
 ·refine this.trans ?_;cases (List.range L.length).all (Gx L) <;> rfl
 ·have hx:(i:Int)<(L.length:Int):=by omega
  have hg:L[i]? = some L[i]:=VF hi;unfold Sh.f53;simp only[Am,Bg,Ax,BH,Br,hx,decide_true,AZ,A1 hi,Aq,AE,Nat.add_zero,Cm];by_cases h1:L[i].lv<1
  ·have:Gx L i=false:=by simp only[Gx,hg];simp;intro;omega
   simp[h1,this]
  ·by_cases h2:L[i].lv>1329
   ·have:Gx L i=false:=by simp only[Gx,hg];simp;intro;omega
    simp[h1,h2,this,A1 hi]
   ·have hd:Gx L i=(List.range 4).all λk=>Dj L i L[i] (L[i].kid k):=by
     simp only[Gx,hg];rw[zXc (by omega)];rfl
    simp only[h1,h2,decide_false,Ms,BH,Dw,C2,AQ,hd,AE,Nat.add_zero,Cm,Aq,A1 hi];have:=EU 4 (λk=>Dj L i L[i] (L[i].kid k)) (λk=>[.sl (enL cNd L) tk,.i6 (i:Int),.i6 (k:Int)]) H (rec [.sl (enL cNd L) tk,.i6 ((i+1:Nat):Int)] H) (some (.ret (.bool false),H)) (by decide) (λaA k hk=>?_) (λaA=>?_)
     (G:=λaA vs H1=>Sh.f52 H rec aA (ag vs 0) (ag vs 1) (ag vs 2) H1)
    ·exact this
    ·have hk':(k:Int)<4:=by omega
     unfold Sh.f52;simp only[Am,Bg,Bk,BH,Br,hk',decide_true,AZ,A1 hi,Aq,EL hk,AE,VK,VY,Ev hk,Cm,Au (show k<9223372036854775807 by omega),CC,DN,Dw];generalize L[i].kid k=c;generalize hx':L[i]=x at h1 h2 ⊢;by_cases hc:c<0
     ·have:Dj L i x c=false:=by simp[Dj];omega
      simp[hc,this,A1 hi,hx']
     ·obtain⟨n,rfl⟩:=WI (show 0<=c by omega);by_cases hl:x.lv=1
      ·by_cases oD:255<n
       ·have:Dj L i x n=false:=by simp[Dj,hl];omega
        have oC:(255:Int)<n:=by omega
        simp[hc,hl,oD,oC,this,A1 hi,hx']
       ·have:Dj L i x n=true:=by simp[Dj,hl];omega
        have oC:¬(255:Int)<n:=by omega
        simp[hc,hl,oD,oC,this,A1 hi,hx']
      ·have cD:1<x.lv:=by omega
       by_cases hn:0<n
       ·by_cases qD:i<n
        ·have:Dj L i x n=false:=by
          unfold Dj;rw[Xv];right;rw[decide_eq_false_iff_not];intro h;have:=(h cD (by omega)).1;omega
         simp[hc,hl,cD,hn,qD,this,A1 hi,hx']
        ·have hlt:n-1<L.length:=by omega
         have e1:((n:Int)-1).toNat=n-1:=by omega
         have hk2:Dj L i x n=decide (L[n-1].lv=x.lv-1):=by
          unfold Dj;rw[e1,VF hlt,Wf];simp only[VU,zXe,VR,forall_eq'];constructor
          ·intro h;exact (h.2 cD (by omega)).2
          ·intro h;exact⟨⟨by omega,by omega⟩,λ_ _=>⟨by omega,h⟩⟩
         have hw:IntKind.i64.wrap (x.lv-1)=x.lv-1:=Ao (by omega) (by omega);simp[hc,hl,cD,hn,qD,hk2,Hk (show 0<n by omega) (by omega),A1 hlt,A1 hi,hx',hw];by_cases he:L[n-1].lv=x.lv-1 <;> simp[he]
       ·have:Dj L i x n=true:=by
         unfold Dj;simp only[VU,zXe];exact⟨⟨by omega,by omega⟩,λ_ _=>by omega⟩
        simp[hc,hl,cD,hn,this,A1 hi,hx']
    ·unfold Sh.f52;simp[Au (show i<9223372036854775807 by omega)]
 ·unfold Sh.f53;simp
theorem AO {L:List Nd}(h:AB L=true){i:Nat}(hi:i<L.length):1<=L[i].lv/\L[i].lv<=1329/\∀k,k<4->0<=L[i].kid k/\(L[i].lv=1->L[i].kid k<=255)/\(1<L[i].lv->0<L[i].kid k->L[i].kid k<=i/\∀y,L[(L[i].kid k-1).toNat]? = some y->y.lv=L[i].lv-1):=by
 have h1:=Wa.1 h i (by simpa using hi);simp only[Gx,VF hi,VU,zXe,Wa]at h1;refine⟨h1.1.1,h1.1.2,λk hk=>?_⟩;have h2:=h1.2 k (by simpa using hk);simp only[Dj,VU,zXe]at h2;exact⟨h2.1.1,h2.1.2,h2.2⟩
def Mw (E:List Bool)(x:Nd):Bool:=(List.range 4).all λk=>decide (x.kid k=0)||(decide (1<x.lv)&&E.getD (x.kid k).toNat true)
def A3 (L:List Nd):List Bool:=L.foldl (λE x=>E++[Mw E x]) [true]
theorem ID (L:List Nd)(x:Nd):A3 (L++[x])=A3 L++[Mw (A3 L) x]:=by simp[A3]
theorem CR (L:List Nd):(A3 L).length=L.length+1:=by
 rcases Hn L with rfl | ⟨l,a,rfl⟩
 ·rfl
 ·rw[ID];have:=CR l;simp[this]
termination_by L.length
decreasing_by (subst_vars;simp)
theorem Vz (L:List Nd){i:Nat}(hi:i<L.length):A3 (L.take (i+1))=A3 (L.take i)++[Mw (A3 (L.take i)) L[i]]:=by
 rw[VT hi,ID]
theorem Jq (L:List Nd)(tk:Tok)(H:Aa)(hL:L.length<140737488355327)(hl:AB L=true):Sh.f1a (.sl (enL cNd L) tk) H=some (.ret (.sl (enL cB (A3 L)) .no),H):=by
 have cX:=Fv (f:=cB) (a:=false) (n:=L.length+1) (bytes:=1) (H:=H) (by omega) (by omega);have hid:=CL (sz:=1) (id:=H.length) (n:=L.length+1) (K:=.i64) (g:=0) (off:=0) (cap:=L.length+1) (ex:=true) (i:=0) (by omega);have hst:=DO (f:=cB) (sz:=1) (l:=List.replicate (L.length+1) false) (i:=0) (a:=true) (v:=.bool true) (H:=H++[.cel 0 (flat cB (List.replicate (L.length+1) false))]) (id:=H.length) (by simp) (by simp) rfl;unfold Sh.f1a;simp only[Ax,BH,CC,Au (show L.length<9223372036854775807 by omega),cX,Bv];simp only[Ye,Nat.add_zero]at hid;rw[show ((0:Nat):Int)=0 from rfl]at hid;simp only[Ye]at hst;rw[hid];simp only[BH,hst,AL,CI,UE,UC];have key:=Ck (G:=λrec1 vs H1=>Sh.f55 H rec1 (ag vs 0) (ag vs 1) (ag vs 2) H1) L.length (λi=>[.sl (enL cNd L) tk,.ms H.length 0 0 (L.length+1) (L.length+1) 1 true,.i6 (i:Int)]) (λi=>H++[.cel 0 (flat cB (A3 (L.take i)++List.replicate (L.length-i) false))]) (some (.ret (.sl (enL cB (A3 L)) .no),H)) (by omega) (λrec i hi=>?_) (λrec=>?_)
 ·have e:(List.replicate (L.length+1) false).set 0 true=A3 (L.take 0)++List.replicate (L.length-0) false:=by simp[zXm,A3]
  rw[e];exact key
 ·have aD:(i:Int)<(L.length:Int):=by omega
  obtain⟨l1,l2,l3⟩:=AO hl hi;have hEl:(A3 (L.take i)).length=i+1:=by rw[CR];simp;omega
  unfold Sh.f55;simp only[Am,Bg,Bk,Ax,BH,Br,aD,decide_true,AZ];have hs:∀k,k<4->1<L[i].lv->(A3 (L.take i)++List.replicate (L.length-i) false).getD (L[i].kid k).toNat true=(A3 (L.take i)).getD (L[i].kid k).toNat true:=by
   intro k hk h1;obtain⟨q1,q2,q3⟩:=l3 k hk;have:(L[i].kid k).toNat<(A3 (L.take i)).length:=by
    rw[hEl];by_cases h0:0<L[i].kid k
    ·have:=(q3 h1 h0).1;omega
    ·omega
   simp only[VM,VH this]
  have hb:∀k,k<4->1<L[i].lv->(L[i].kid k).toNat<L.length+1:=by
   intro k hk h1;obtain⟨q1,q2,q3⟩:=l3 k hk;by_cases h0:0<L[i].kid k
   ·have:=(q3 h1 h0).1;omega
   ·omega
  have hEs:Mw (A3 (L.take i)) L[i]=(List.range 4).all λk=>decide (L[i].kid k=0)||(decide (1<L[i].lv)&&(A3 (L.take i)++List.replicate (L.length-i) false).getD (L[i].kid k).toNat true):=by
   unfold Mw;rw[Id,Id];by_cases h1:1<L[i].lv
   ·simp only[hs 0 (by omega) h1,hs 1 (by omega) h1,hs 2 (by omega) h1,hs 3 (by omega) h1]
   ·simp only[h1,decide_false,WZ]
  have aI:(A3 (L.take i)++List.replicate (L.length-i) false).set (i+1) (Mw (A3 (L.take i)) L[i])=A3 (L.take (i+1))++List.replicate (L.length-(i+1)) false:=by
   rw[Vz L hi,Wt _ _ (by omega),hEl,Wz,show L.length-i=(L.length-(i+1))+1 from by omega,zXm,List.set_cons_zero];simp
  have hlen:(A3 (L.take i)++List.replicate (L.length-i) false).length=L.length+1:=by simp[hEl];omega
  rw[<-aI,hEs];generalize A3 (L.take i)++List.replicate (L.length-i) false=E at hlen;generalize hx:L[i]=x at l1 l2 l3 hb;have iT:AC (H++[.cel 0 (flat cB E)]) H.length 0=some (flat cB E):=by simp
  refine Ck (G:=λaA vs H1=>Sh.f54 H rec aA (ag vs 0) (ag vs 1) (ag vs 2) (ag vs 3) (ag vs 4) H1) 4 (λk=>[.sl (enL cNd L) tk,.ms H.length 0 0 (L.length+1) (L.length+1) 1 true,.i6 (i:Int),.bool ((List.range k).all λk=>decide (x.kid k=0)||(decide (1<x.lv)&&E.getD (x.kid k).toNat true)),.i6 (k:Int)]) (λ_=>H++[.cel 0 (flat cB E)]) _ (by decide) (λaA k hk=>?_) (λaA=>?_)
  ·have hk':(k:Int)<4:=by omega
   obtain⟨q1,q2,q3⟩:=l3 k hk;have hb':=hb k hk;unfold Sh.f54;have pJ:((List.range (k+1)).all λk=>decide (x.kid k=0)||(decide (1<x.lv)&&E.getD (x.kid k).toNat true))=(((List.range k).all λk=>decide (x.kid k=0)||(decide (1<x.lv)&&E.getD (x.kid k).toNat true))&&(decide (x.kid k=0)||(decide (1<x.lv)&&E.getD (x.kid k).toNat true))):=by
    rw[XH,Y0];simp
   rw[pJ];generalize ((List.range k).all λk=>decide (x.kid k=0)||(decide (1<x.lv)&&E.getD (x.kid k).toNat true))=e;simp only[Am,Bg,Bk,B4,BS,BH,Br,hk',decide_true,AZ,A1 hi,hx,Aq,EL hk,AE,VK,VY,Ev hk,Cm,Au (show k<9223372036854775807 by omega),CC,DN,Dw];obtain⟨n,hn⟩:=WI q1;rw[hn]at hb' ⊢;simp only[zXl]at hb' ⊢;cases e with
   | false=>simp
   | true=>
    by_cases h0:n=0
    ·subst h0;simp
    ·by_cases h1:1<x.lv
     ·have lA:n<E.length:=by rw[hlen];exact hb' h1
      have jP:=CL (sz:=1) (id:=H.length) (n:=L.length+1) (K:=.i64) (g:=0) (off:=0) (cap:=L.length+1) (ex:=true) (i:=n) (hb' h1);simp only[VK,VY]at jP;have hld:=Is (f:=cB) iT lA;simp[h0,h1,hx,A1 hi,jP,hld,VF lA]
     ·simp[h0,h1,hx,A1 hi]
  ·have jP:=CL (sz:=1) (id:=H.length) (n:=L.length+1) (K:=.i64) (g:=0) (off:=0) (cap:=L.length+1) (ex:=true) (i:=i+1) (by omega);simp only[VK,VY]at jP;have iL:=DO (f:=cB) (sz:=1) (l:=E) (i:=i+1) (a:=(List.range 4).all λk=>decide (x.kid k=0)||(decide (1<x.lv)&&E.getD (x.kid k).toNat true)) (H:=H++[.cel 0 (flat cB E)]) (id:=H.length) iT (by omega) (v:=.bool ((List.range 4).all λk=>decide (x.kid k=0)||(decide (1<x.lv)&&E.getD (x.kid k).toNat true))) rfl;simp only[VY]at iL;unfold Sh.f54;have hf:¬(((4:Nat):Int)<4):=by decide
   simp only[Am,Bg,Bk,B4,BS,BH,Br,hf,decide_false,AQ,CC,Au (show i<9223372036854775807 by omega),jP,iL,AL,CI,UE,UC]
 ·unfold Sh.f55;have iT:AC (H++[.cel 0 (flat cB (A3 L))]) H.length 0=some (flat cB (A3 L)):=by simp
  have eA:=fall_ms (f:=cB) (b:=H.length) (d:=5) (cap:=L.length+1) (ex:=true) iT (VL _);rw[CR]at eA;have ht:L.take L.length=L:=VV (VL _);simp only[Am,Bg,Bk,Ax,BH,Br,WE,decide_false,AQ,ht,Wz,List.replicate_zero,Wp,Cv,eA,zXb]
theorem UO (L:List Nd)(tk:Tok)(n:Nat)(H:Aa)(hL:L.length<140737488355327)(hl:AB L=true)(hn:n<=L.length):Sh.f66 (.sl (enL cNd L) tk) (.i6 (n:Int)) H=some (.ret (.bool ((A3 L).getD n true)),H):=by
 have hlt:n<(A3 L).length:=by rw[CR];omega
 unfold Sh.f66;simp[Jq L tk H hL hl,A1 hlt,VM,VF hlt]
def A8 (L:List Nd)(c:Int):Nd:=L.getD (c-1).toNat ⟨0,0,0,0,0⟩
def OG (L:List Nd)(E:List Bool)(x:Nd)(k j:Nat):Bool:=
 decide (j=3-k)||(if x.lv=2 then decide ((A8 L (x.kid k)).kid j=0)else E.getD ((A8 L (x.kid k)).kid j).toNat true)
def hol (L:List Nd)(E:List Bool)(x:Nd):Bool:=
 (List.range 4).all λk=>decide (x.kid k=0)||(List.range 4).all (OG L E x k)
def D7 (L:List Nd)(n:Nat):Bool:=
 decide (n≠0)&&decide (2<=(A8 L n).lv)&&hol L (A3 L) (A8 L n)
theorem Eh {L:List Nd}{c:Int}{n:Nat}(hc:c=((n+1:Nat):Int))(h:n<L.length):A8 L c=L[n]:=by
 have:(c-1).toNat=n:=by omega
 unfold A8;rw[this,VM,VF h];rfl
theorem Sx (L:List Nd)(tk:Tok)(n:Nat)(H:Aa)(hL:L.length<140737488355327)(hl:AB L=true)(hn:n<=L.length):Sh.f2v (.sl (enL cNd L) tk) (.i6 (n:Int)) H=some (.ret (.bool (D7 L n)),H):=by
 unfold Sh.f2v D7;cases n with
 | zero=>simp
 | succ n=>
  have hi:n<L.length:=hn;have e0:¬((n+1:Nat):Int)=0:=by omega
  obtain⟨l1,l2,l3⟩:=AO hl hi;rw[Eh rfl hi];generalize hx:L[n]=x at l1 l2 l3;have hw:IntKind.i64.wrap (((n+1:Nat):Int)-1)=(n:Int):=by rw[Ao] <;> omega
  simp only[DN,GS,e0,decide_false,BH,Ms,Dv,hw,A1 hi,hx,Aq,AE,Nat.add_zero,Cm,Br,C2];by_cases h2:x.lv<2
  ·have:¬2<=x.lv:=by omega
   simp[h2,this]
  ·have oE:2<=x.lv:=by omega
   simp only[h2,oE,decide_false,AQ,Jq L tk H hL hl,Fl,decide_true,ne_eq,X7,not_false_eq_true,zXn];have key:=EU (G:=λrec1 vs H1=>Sh.f56 H rec1 (ag vs 0) (ag vs 1) (ag vs 2) (ag vs 3) H1) 4 (λk=>decide (x.kid k=0)||(List.range 4).all (OG L (A3 L) x k))
    (λk=>[.sl (enL cNd L) tk,.i6 ((n+1:Nat):Int),.sl (enL cB (A3 L)) .no,.i6 (k:Int)]) H (some (.ret (.bool true),H)) (some (.ret (.bool false),H)) (by decide) (λrec k hk=>?_) (λrec=>?_)
   ·refine key.trans ?_;rw[show hol L (A3 L) x=(List.range 4).all λk=>decide (x.kid k=0)||(List.range 4).all (OG L (A3 L) x k) from rfl];cases (List.range 4).all λk=>decide (x.kid k=0)||(List.range 4).all (OG L (A3 L) x k) <;> rfl
   ·have hk':(k:Int)<4:=by omega
    obtain⟨q1,q2,q3⟩:=l3 k hk;unfold Sh.f56;simp only[Am,Bg,Bk,B4,BH,Br,hk',decide_true,AZ,Dv,hw,A1 hi,hx,Aq,EL hk,AE,VK,VY,Ev hk];have aN:IntKind.i64.wrap ((k:Int)+1)=((k+1:Nat):Int):=Au (by omega);by_cases hc:x.kid k=0
    ·rw[DQ Fa];unfold Sh.f2u;simp only[hc,decide_true,X3,if_true,Am,Bg,Bk,B4,BS,DD,Br,BH,show ((0:Int)<4) from by decide,Jz,Dw,show ¬((0:Int)>0) from by decide,decide_false,C9,AQ,CC,aN]
    ·obtain⟨m,hm⟩:∃m:Nat,x.kid k=((m+1:Nat):Int):=⟨(x.kid k-1).toNat,by omega⟩;have h1:1<x.lv:=by omega
     obtain⟨r1,r2⟩:=q3 h1 (by omega);have uI:m<n:=by omega
     have hml:m<L.length:=by omega
     have hy:=r2 L[m] (by rw[show (x.kid k-1).toNat=m from by omega];exact VF hml);obtain⟨y1,y2,y3⟩:=AO hl hml;have hE:∀j,j<4->2<x.lv->(L[m].kid j).toNat<(A3 L).length:=by
      intro j hj h3;obtain⟨s1,s2,s3⟩:=y3 j hj;rw[CR];by_cases h0:0<L[m].kid j
      ·have:=(s3 (by omega) h0).1;omega
      ·omega
     have hp:OG L (A3 L) x k=λj=>decide (j=3-k)||(if x.lv=2 then decide (L[m].kid j=0)else (A3 L).getD (L[m].kid j).toNat true):=by
      funext j;unfold OG;rw[Eh hm hml]
     have cQ:IntKind.i64.wrap (((m+1:Nat):Int)-1)=(m:Int):=by rw[Ao] <;> omega
     have bT:¬((m+1:Nat):Int)=0:=by omega
     simp only[hp,hm,bT,decide_false,zXo];generalize yA:L[m]=y at y1 y2 y3 hy hE;refine EU (G:=λaA vs H1=>Sh.f2u H rec aA (ag vs 0) (ag vs 1) (ag vs 2) (ag vs 3) (ag vs 4) (ag vs 5) H1) 4 _
      (λj=>[.sl (enL cNd L) tk,.i6 ((n+1:Nat):Int),.sl (enL cB (A3 L)) .no,.i6 (k:Int),.i6 ((m+1:Nat):Int),.i6 (j:Int)]) H _ _ (by decide) (λaA j hj=>?_) (λaA=>?_)
     ·have hj':(j:Int)<4:=by omega
      have hm0:((m+1:Nat):Int)>0:=by omega
      have jB:IntKind.i64.wrap (3-(k:Int))=3-(k:Int):=Ao (by omega) (by omega);have qV:IntKind.i64.wrap ((j:Int)+1)=((j+1:Nat):Int):=Au (by omega);obtain⟨s1,s2,s3⟩:=y3 j hj;have hE':=hE j hj;unfold Sh.f2u;simp only[Am,Bg,Bk,B4,BS,DD,Br,BH,hj',decide_true,Jz,Dw,hm0,C9,AZ,Dv,hw,cQ,jB,A1 hml,yA,A1 hi,hx,Aq,EL hj,AE,VK,Nat.add_zero,VY,Ev hj,Cm,I4,Ln,DN,GS,CC,qV];obtain⟨g,hg⟩:=WI s1;rw[hg]at hE' ⊢;simp only[zXl]at hE' ⊢;by_cases xX:j=3-k
      ·have h3:(j:Int)=3-(k:Int):=by omega
       simp only[BH,Am,Bg,Bk,B4,BS,DD,Br,Dw,Lo,I6,DN,I4,GS,Ln,CC,Dv,I5,AZ,AQ,C9,C2,Jz,Ms,Tb,QV,gk_s,PN,PQ,PO,PP,Vp,Q7,HY,Qb,Qe,Qc,Qd,Vs,PT,PW,PU,PV,Vq,PX,Qa,PY,PZ,Vr,BA,AK,decide_true,decide_false,WA,WL,Fl,CI,NC,Ee,J5,if_true,VN,if_false,IA,AL,Do,Bv,zXo,X3,zXp,Yg,zXc h3,zXc xX,X3]
      ·have h3:¬(j:Int)=3-(k:Int):=by omega
       simp only[xX,h3,GMw,Aq,Ah,AE,VK,Nat.add_zero,VY,Cm,zXo];by_cases hx2:x.lv=2
       ·have hx3:¬(2:Int)>2:=by decide
        by_cases xH:(g:Int)=0
        ·simp only[BH,Am,Bg,Bk,B4,BS,DD,Br,Dw,Lo,I6,DN,I4,GS,Ln,CC,Dv,I5,AZ,AQ,C9,C2,Jz,Ms,Tb,QV,gk_s,PN,PQ,PO,PP,Vp,Q7,HY,Qb,Qe,Qc,Qd,Vs,PT,PW,PU,PV,Vq,PX,Qa,PY,PZ,Vr,BA,AK,decide_true,decide_false,WA,WL,Fl,CI,NC,Ee,J5,if_true,VN,if_false,IA,AL,Do,Bv,zXo,X3,zXp,Yg,Aq,Ah,AE,VK,Nat.add_zero,VY,Cm,hw,A1 hi,hx,hx2,xH,hx3]
        ·simp only[BH,Am,Bg,Bk,B4,BS,DD,Br,Dw,Lo,I6,DN,I4,GS,Ln,CC,Dv,I5,AZ,AQ,C9,C2,Jz,Ms,Tb,QV,gk_s,PN,PQ,PO,PP,Vp,Q7,HY,Qb,Qe,Qc,Qd,Vs,PT,PW,PU,PV,Vq,PX,Qa,PY,PZ,Vr,BA,AK,decide_true,decide_false,WA,WL,Fl,CI,NC,Ee,J5,if_true,VN,if_false,IA,AL,Do,Bv,zXo,X3,zXp,Yg,Aq,Ah,AE,VK,Nat.add_zero,VY,Cm,hw,A1 hi,hx,hx2,xH,hx3]
       ·have hx3:x.lv>2:=by omega
        have hlt:=hE' hx3;have eP:(A3 L).getD g true=(A3 L)[g]:=by rw[VM,VF hlt];rfl
        simp only[BH,Am,Bg,Bk,B4,BS,DD,Br,Dw,Lo,I6,DN,I4,GS,Ln,CC,Dv,I5,AZ,AQ,C9,C2,Jz,Ms,Tb,QV,gk_s,PN,PQ,PO,PP,Vp,Q7,HY,Qb,Qe,Qc,Qd,Vs,PT,PW,PU,PV,Vq,PX,Qa,PY,PZ,Vr,BA,AK,decide_true,decide_false,WA,WL,Fl,CI,NC,Ee,J5,if_true,VN,if_false,IA,AL,Do,Bv,zXo,X3,zXp,Yg,Aq,Ah,AE,VK,Nat.add_zero,VY,Cm,hw,A1 hi,hx,hx2,hx3,A1 hlt,eP,zXh];cases (A3 L)[g] <;> simp only[BH,Am,Bg,Bk,B4,BS,DD,Br,Dw,Lo,I6,DN,I4,GS,Ln,CC,Dv,I5,AZ,AQ,C9,C2,Jz,Ms,Tb,QV,gk_s,PN,PQ,PO,PP,Vp,Q7,HY,Qb,Qe,Qc,Qd,Vs,PT,PW,PU,PV,Vq,PX,Qa,PY,PZ,Vr,BA,AK,decide_true,decide_false,WA,WL,Fl,CI,NC,Ee,J5,if_true,VN,if_false,IA,AL,Do,Bv,zXo,X3,zXp,Yg]
     ·have hf:¬(((4:Nat):Int)<4):=by decide
      unfold Sh.f2u;simp only[Am,Bg,Bk,B4,BS,DD,Br,BH,hf,decide_false,QV,Tb,C2,AQ,CC,aN]
   ·have hf:¬(((4:Nat):Int)<4):=by decide
    unfold Sh.f56;simp only[Am,Bg,Bk,B4,Br,BH,hf,decide_false,AQ,NC]
theorem q05_inner (L:List Nd)(tk:Tok)(n k:Nat)(H:Aa)(hL:L.length<140737488355327)(hl:AB L=true)(hn:n<L.length)(h2:2<=L[n].lv)(hk:k<4) :
  Sh.f67 (.sl (enL cNd L) tk) (.i6 ((n+1:Nat):Int)) (.i6 (k:Int)) H=some (.ret (.i6 (if L[n].kid k=0 then 0 else (A8 L (L[n].kid k)).kid (3-k))),H):=by
 obtain⟨l1,l2,l3⟩:=AO hl hn;obtain⟨q1,q2,q3⟩:=l3 k hk;have hw:IntKind.i64.wrap (((n+1:Nat):Int)-1)=(n:Int):=by rw[Ao] <;> omega
 unfold Sh.f67;simp only[Dv,BH,hw,A1 hn,Aq,EL hk,AE,VK,VY,Ev hk,DN,GS];by_cases hc:L[n].kid k=0
 ·simp[hc]
 ·obtain⟨m,hm⟩:∃m:Nat,L[n].kid k=((m+1:Nat):Int):=⟨(L[n].kid k-1).toNat,by omega⟩;obtain⟨r1,r2⟩:=q3 (by omega) (by omega);have hml:m<L.length:=by omega
  have cQ:IntKind.i64.wrap (((m+1:Nat):Int)-1)=(m:Int):=by rw[Ao] <;> omega
  have jB:IntKind.i64.wrap (3-(k:Int))=((3-k:Nat):Int):=by rw[Ao] <;> omega
  simp only[hc,decide_false,AQ,if_false,Eh hm hml];rw[hm];simp only[cQ,jB,BH,A1 hml,Aq,VK,EL (show 3-k<4 by omega),AE,VY,Ev (show 3-k<4 by omega),NC]
def Mv (rec:Nat->List Nat->List Nat)(x:Nd)(k:Nat)(out:List Nat):List Nat:=
 (List.range k).foldl (λo k=>if 1<x.lv/\0<x.kid k then rec (x.kid k).toNat o else o) out
def Gg (L:List Nd):Nat->Nat->List Nat->List Nat
 | 0,_,out=>out
 | v+1,n,out=>if n∈out then out else Mv (Gg L v) (A8 L n) 4 out++[n]
def NL (N:Nat)(out:List Nat):Prop:=out.Nodup/\∀x∈out,1<=x/\x<=N
theorem MZ:∀(N:Nat) (out:List Nat),NL N out->out.length<=N
 | 0,out,h=>by
  cases out with
  | nil=>simp
  | cons a l=>have:=h.2 a (by simp);omega
 | N+1,out,h=>by
  have h1:NL N (out.erase (N+1)):=⟨h.1.erase _,λx hx=>by
   have:=(h.1.mem_erase_iff).1 hx;have:=h.2 x this.2;omega⟩
  have:=MZ N _ h1;rw[List.length_erase]at this;split at this <;> omega
theorem Qm (rec:Nat->List Nat->List Nat)(x:Nd)(k:Nat)(out:List Nat):Mv rec x (k+1) out=if 1<x.lv/\0<x.kid k then rec (x.kid k).toNat (Mv rec x k out)else Mv rec x k out:=by
 simp[Mv,XH]
theorem Mu {rec:Nat->List Nat->List Nat}{x:Nd}{out:List Nat}(P:List Nat->Prop)(h0:P out)(hs:∀k o,k<4->1<x.lv->0<x.kid k->P o->P (rec (x.kid k).toNat o)):∀k,k<=4->P (Mv rec x k out)
 | 0,_=>h0
 | k+1,h=>by
  rw[Qm];split
  ·rename_i hc;exact hs k _ (by omega) hc.1 hc.2 (Mu P h0 hs k (by omega))
  ·exact Mu P h0 hs k (by omega)
theorem Ba {L:List Nd}{n:Nat}(h:n<L.length):A8 L ((n+1:Nat):Int)=L[n]:=Eh rfl h
theorem RK {L:List Nd}(hl:AB L=true):∀(v n:Nat) (out:List Nat),1<=n->n<=L.length->NL L.length out->NL L.length (Gg L v n out)/\(∀x∈out,x∈Gg L v n out)/\∀x∈Gg L v n out,x∈out\/x<=n
 | 0,n,out,h1,h2,ho=>⟨ho,λx hx=>hx,λx hx=>.inl hx⟩
 | v+1,n,out,h1,h2,ho=>by
  obtain⟨m,rfl⟩:∃m,n=m+1:=⟨n-1,by omega⟩;have hm:m<L.length:=by omega
  obtain⟨l1,l2,l3⟩:=AO hl hm;simp only[Gg];split
  ·exact⟨ho,λx hx=>hx,λx hx=>.inl hx⟩
  ·rename_i hn;rw[Ba hm];have key:=Mu (rec:=Gg L v) (x:=L[m]) (out:=out) (λo=>NL L.length o/\(∀x∈out,x∈o)/\∀x∈o,x∈out\/x<=m) ⟨ho,λx hx=>hx,λx hx=>.inl hx⟩ (λk o hk aJ aV hP=>by
    obtain⟨q1,q2,q3⟩:=l3 k hk;have:=(q3 aJ aV).1;obtain⟨r1,r2,r3⟩:=RK hl v (L[m].kid k).toNat o (by omega) (by omega) hP.1;exact⟨r1,λx hx=>r2 x (hP.2.1 x hx),λx hx=>by
     rcases r3 x hx with h | h
     ·exact hP.2.2 x h
     ·right;omega⟩) 4 (by omega)
   obtain⟨⟨k1,k2⟩,k3,k4⟩:=key;generalize Mv (Gg L v) L[m] 4 out=o at k1 k2 k3 k4;have cM:m+1 ∉ o:=λh=>by
    rcases k4 _ h with h | h
    ·exact hn h
    ·omega
   refine⟨⟨?_,?_⟩,?_,?_⟩
   ·rw[YF];exact⟨k1,by simp,λa ha b hb e=>by simp at hb;subst hb;subst e;exact cM ha⟩
   ·intro x hx;simp only[Wh,We]at hx;rcases hx with hx | rfl
    ·exact k2 x hx
    ·omega
   ·intro x hx;simp[k3 x hx]
   ·intro x hx;simp only[Wh,We]at hx;rcases hx with hx | rfl
    ·rcases k4 x hx with h | h
     ·exact .inl h
     ·exact .inr (by omega)
    ·exact .inr (VL _)
theorem append_outN {B:Aa}{l:List Nat}{n:Nat}(h:l.length<17592186044415):AW G3 1 8 (DG cN B l) (.sl (enL cN [n]) .ti) (DF cN G3 1 B l)=some (DG cN B (l++[n]),DF cN G3 1 B (l++[n])):=
 Ex (by simp) (by simp;omega) (by simp;omega)
theorem q05_end {L:List Nd}(tk:Tok)(B:Aa)(hL:L.length<17592186044415)(hl:AB L=true):∀(v n d:Nat) (out:List Nat),1<=n->n<=L.length->(A8 L n).lv=v->v<=d->NL L.length out ->
  Sh.fg d (.sl (enL cNd L) tk) (.i6 (n:Int)) (DG cN B out) (DF cN G3 1 B out)=some (.ret (DG cN B (Gg L v n out)),DF cN G3 1 B (Gg L v n out)):=by
 intro v
 induction v with
 | zero=>
  intro n d out h1 h2 hv hd ho;exfalso;obtain⟨m,rfl⟩:∃m,n=m+1:=⟨n-1,by omega⟩;rw[Ba (by omega)]at hv;have:=(AO hl (show m<L.length by omega)).1;omega
 | succ v ih=>
  intro n d out h1 h2 hv hd ho;obtain⟨d,rfl⟩:∃e,d=e+1:=⟨d-1,by omega⟩;obtain⟨m,rfl⟩:∃m,n=m+1:=⟨n-1,by omega⟩;have hm:m<L.length:=by omega
  obtain⟨l1,l2,l3⟩:=AO hl hm;have bD:=MZ _ _ ho;rw[Ba hm]at hv;show Sh.f7b (Sh.fg d) _ _ _ _=_;unfold Sh.f7b;have key:=NW (G:=λrec1 vs H1=>Sh.f58 (DF cN G3 1 B out) (Sh.fg d) rec1 (ag vs 0) (ag vs 1) (ag vs 2) (ag vs 3) H1) out.length (λi=>decide (out.getD i 0=m+1))
   (λi=>[.sl (enL cNd L) tk,.i6 ((m+1:Nat):Int),DG cN B out,.i6 (i:Int)]) (DF cN G3 1 B out) (some (.ret (DG cN B (Mv (Gg L v) L[m] 4 out++[m+1])),DF cN G3 1 B (Mv (Gg L v) L[m] 4 out++[m+1]))) (λ_=>some (.ret (DG cN B out),DF cN G3 1 B out)) (by omega) (λrec i hi=>?_) (λrec=>?_)
  ·refine key.trans ?_;by_cases bO:m+1∈out
   ·obtain⟨i,hi,hx⟩:=Wr bO;have hf:∃j,(List.range out.length).find? (λi=>decide (out.getD i 0=m+1))=some j:=by
     cases hq:(List.range out.length).find? (λi=>decide (out.getD i 0=m+1))with
     | some j=>exact⟨j,rfl⟩
     | none=>
      have:=XK.1 hq i (by simpa using hi);simp[VM,VF hi,hx]at this
    obtain⟨j,hj⟩:=hf;rw[hj];simp only[Gg,if_pos bO]
   ·have hf:(List.range out.length).find? (λi=>decide (out.getD i 0=m+1))=none:=by
     rw[XK];intro i hi;have aD:i<out.length:=by simpa using hi
     rw[VM,VF aD];simp only[Option.getD_some,zXe];intro e;exact bO (e ▸ VW aD)
    rw[hf];simp only[Gg,if_neg bO,Ba hm]
  ·have aD:(i:Int)<(out.length:Int):=by omega
   have bZ:decide ((out[i]:Int)=((m+1:Nat):Int))=decide (out.getD i 0=m+1):=by
    rw[VM,VF hi,Wf];simp;omega
   unfold Sh.f58;simp only[GMw,Aq,Ah,AE,VK,Nat.add_zero,VY,Cm,Fu,Ax,aD,A1 hi,zXh,Au (show i<9223372036854775807 by omega),bZ];cases decide (out.getD i 0=m+1) <;> simp only[GMw]
  ·unfold Sh.f58;rw[Fu];simp only[GMw,Ax,WE];rw[<-Fu];refine Ck (G:=λaA vs H1=>Sh.f57 (DF cN G3 1 B out) (Sh.fg d) aA (ag vs 0) (ag vs 1) (ag vs 2) (ag vs 3) H1) 4 (λk=>[.sl (enL cNd L) tk,.i6 ((m+1:Nat):Int),DG cN B (Mv (Gg L v) L[m] k out),.i6 (k:Int)]) (λk=>DF cN G3 1 B (Mv (Gg L v) L[m] k out)) _ (by decide) (λaA k hk=>?_) (λaA=>?_)
   ·have hk':(k:Int)<4:=by omega
    have aN:IntKind.i64.wrap ((k:Int)+1)=((k+1:Nat):Int):=Au (by omega);have cQ:IntKind.i64.wrap (((m+1:Nat):Int)-1)=(m:Int):=by rw[Ao] <;> omega
    obtain⟨q1,q2,q3⟩:=l3 k hk;have dE:NL L.length (Mv (Gg L v) L[m] k out):=Mu (λo=>NL L.length o) ho (λk o hk aJ aV hP=>by
     obtain⟨q1,q2,q3⟩:=l3 k hk;have:=(q3 aJ aV).1;exact (RK hl v (L[m].kid k).toNat o (by omega) (by omega) hP).1) k (by omega)
    unfold Sh.f57;rw[Qm];generalize Mv (Gg L v) L[m] k out=o at dE;simp only[GMw,Aq,Ah,AE,VK,Nat.add_zero,VY,Cm,hk',cQ,A1 hm,Sh.f2w,aN];by_cases aJ:1<L[m].lv
    ·by_cases aV:0<L[m].kid k
     ·obtain⟨r1,r2⟩:=q3 aJ aV;obtain⟨c,hc⟩:∃c:Nat,L[m].kid k=((c+1:Nat):Int):=⟨(L[m].kid k-1).toNat,by omega⟩;have aG:c<L.length:=by omega
      have hy:=r2 L[c] (by rw[show (L[m].kid k-1).toNat=c from by omega];exact VF aG);have hi2:=ih (c+1) d o (by omega) (by omega) (by rw[Ba aG];omega) (by omega) dE;have cJ:((c+1:Nat):Int)>0:=by omega
      rw[if_pos ⟨aJ,aV⟩];simp only[GMw,Aq,Ah,AE,VK,Nat.add_zero,VY,Cm,aJ,cQ,A1 hm,Aq,EL hk,Ev hk,hc,cJ,hi2,gt_iff_lt,zXl,Sh.f2w,aN]
     ·rw[if_neg (λh=>aV h.2)];simp only[GMw,Aq,Ah,AE,VK,Nat.add_zero,VY,Cm,aJ,cQ,A1 hm,Aq,EL hk,Ev hk,aV,gt_iff_lt,Sh.f2w,aN]
    ·rw[if_neg (λh=>aJ h.1)];simp only[GMw,Aq,Ah,AE,VK,Nat.add_zero,VY,Cm,aJ,gt_iff_lt,Sh.f2w,aN]
   ·have hf:¬(((4:Nat):Int)<4):=by decide
    have dE:NL L.length (Mv (Gg L v) L[m] 4 out):=Mu (λo=>NL L.length o) ho (λk o hk aJ aV hP=>by
     obtain⟨q1,q2,q3⟩:=l3 k hk;have:=(q3 aJ aV).1;exact (RK hl v (L[m].kid k).toNat o (by omega) (by omega) hP).1) 4 (by omega)
    have hle:=MZ _ _ dE;unfold Sh.f57;simp only[GMw,hf,build_N,append_outN (show (Mv (Gg L v) L[m] 4 out).length<17592186044415 by omega)]
def Bj (L:List Nd):List Ab:=[.sl (enL cNd L) .no]
def CW (L:List Nd):Ab:=.agg (Bj L)
def Bn (L:List Nd):Int:=(A8 L (L.length:Int)).lv
def NS (L:List Nd):List Nat:=Gg L (Bn L).toNat L.length []
def dupB (L:List Nd):Bool:=(List.range L.length).all λi=>!((A3 L).getD (i+1) true)&&(List.range i).all λk=>decide (L.getD i ⟨0,0,0,0,0⟩≠L.getD k ⟨0,0,0,0,0⟩)
def PC (L:List Nd):Bool:=(List.range (NS L).length).all (λi=>decide ((NS L).getD i 0=i+1))&&decide ((NS L).length=L.length)
def D5 (L:List Nd):Bool:=
 decide (L=[])||(AB L && !(D7 L L.length)&&dupB L&&PC L)
theorem boxQuad (L:List Nd)(tk:Tok)(H:Aa):BD true 1 (.agg [.sl (enL cNd L) tk]) H=some (.ptr H.length 0 0,H++[.cel 0 [.sl (enL cNd L) tk]]):=Co rfl rfl
theorem q05_right (L:List Nd)(tk:Tok)(H:Aa)(hL:L.length<17592186044415):Sh.f5c (.agg [.sl (enL cNd L) tk]) H=some (.ret (.bool (D5 L)),H):=by
 unfold Sh.f5c;simp only[GMw,Aq,Ah,AE,VK,Nat.add_zero,VY,Cm,boxQuad,Fy,Hp,zXh,Ax];by_cases h0:L=[]
 ·subst h0;simp[D5]
 ·have hlen:L.length≠0:=λh=>h0 (Wc h);have eT:¬((L.length:Int)=0):=by omega
  have hq:D5 L=(AB L && !(D7 L L.length)&&dupB L&&PC L):=by simp[D5,h0]
  simp only[GMw,eT,UM L tk _ (show L.length<1152921504606846976 by omega)];cases hl:AB L with
  | false=>simp[hq,hl]
  | true=>
   simp only[GMw,Ax,Sx L tk L.length _ (show L.length<140737488355327 by omega) hl (VL _)];cases hh:D7 L L.length with
   | true=>simp[hq,hh]
   | false=>
    simp only[GMw,Jq L tk _ (show L.length<140737488355327 by omega) hl];rw[hq,hl,hh];simp only[GMw];generalize hB:H++[.cel 0 [.sl (enL cNd L) tk]]=B;have hfin:∀(v:Bool) (G:Aa),rP H (.bool v) (B++G)=some (.ret (.bool v),H):=λv G=>by rw[<-hB,VP];exact Fs
    have mI:∀(v:Bool),rP H (.bool v) B=some (.ret (.bool v),H):=λv=>by rw[<-hB];exact Fs
    have key:=EU (G:=λrec1 vs H1=>Sh.f5b H rec1 (ag vs 0) (ag vs 1) (ag vs 2) H1) L.length (λi=>!((A3 L).getD (i+1) true)&&(List.range i).all λk=>decide (L.getD i ⟨0,0,0,0,0⟩≠L.getD k ⟨0,0,0,0,0⟩))
     (λi=>[.sl (enL cNd L) tk,.sl (enL cB (A3 L)) .no,.i6 (i:Int)]) B (some (.ret (.bool (PC L)),H)) (some (.ret (.bool false),H)) (by omega) (λrec i hi=>?_) (λrec=>?_)
    ·refine key.trans ?_;rw[show dupB L=(List.range L.length).all λi=>!((A3 L).getD (i+1) true)&&(List.range i).all λk=>decide (L.getD i ⟨0,0,0,0,0⟩≠L.getD k ⟨0,0,0,0,0⟩) from rfl];cases (List.range L.length).all λi=>!((A3 L).getD (i+1) true)&&(List.range i).all λk=>decide (L.getD i ⟨0,0,0,0,0⟩≠L.getD k ⟨0,0,0,0,0⟩) <;> simp only[GMw]
    ·have aD:(i:Int)<(L.length:Int):=by omega
     have hlt:i+1<(A3 L).length:=by rw[CR];omega
     have aN:IntKind.i64.wrap ((i:Int)+1)=((i+1:Nat):Int):=Au (by omega);have eP:(A3 L).getD (i+1) true=(A3 L)[i+1]:=by rw[VM,VF hlt];rfl
     unfold Sh.f5b;simp only[GMw,Aq,Ah,AE,VK,Nat.add_zero,VY,Cm,Ax,aD,aN,A1 hlt,zXh,eP];cases (A3 L)[i+1]with
     | true=>simp only[GMw,mI]
     | false=>
      simp only[GMw];refine EU (G:=λaA vs H1=>Sh.f59 H rec aA (ag vs 0) (ag vs 1) (ag vs 2) (ag vs 3) H1) i (λk=>decide (L.getD i ⟨0,0,0,0,0⟩≠L.getD k ⟨0,0,0,0,0⟩))
       (λk=>[.sl (enL cNd L) tk,.sl (enL cB (A3 L)) .no,.i6 (i:Int),.i6 (k:Int)]) B _ _ (by omega) (λaA k hk=>?_) (λaA=>?_)
      ·have hk':(k:Int)<(i:Int):=by omega
       have cP:k<L.length:=by omega
       unfold Sh.f59;simp only[GMw,hk',A1 hi,A1 cP,Ju,eq_nd,mI,Au (show k<9223372036854775807 by omega)];simp only[VM,VF hi,VF cP,Option.getD_some];by_cases he:L[i]=L[k]
       ·simp only[he,ne_eq,not_true_eq_false,GMw]
       ·simp only[he,ne_eq,not_false_eq_true,GMw]
      ·unfold Sh.f59;simp only[GMw,WE,aN]
    ·unfold Sh.f5b;have hm:L.length-1<L.length:=by omega
     have wZ:L.length=L.length-1+1:=by omega
     have aJ:(A8 L (L.length:Int)).lv=((Bn L).toNat:Int):=by
      have:=(AO hl hm).1;unfold Bn;rw[wZ,Ba hm];omega
     have eL:Sh.fg AU (.sl (enL cNd L) tk) (.i6 (L.length:Int)) (.sl [] .ti) B=some (.ret (DG cN B (Gg L (Bn L).toNat L.length [])),DF cN G3 1 B (Gg L (Bn L).toNat L.length [])):=q05_end tk B hL hl (Bn L).toNat L.length AU [] (by omega) (VL _) aJ (by
      have:=(AO hl hm).2.1;rw[Dq];unfold Bn;rw[wZ,Ba hm];omega) ⟨by simp,by simp⟩
     have hok:=(RK hl (Bn L).toNat L.length [] (by omega) (VL _) ⟨by simp,by simp⟩).1;have hol:=MZ _ _ hok;obtain⟨G,hG⟩:=GA (f:=cN) (ty:=G3) (sz:=1) B (Gg L (Bn L).toNat L.length []);simp only[GMw,Ax,WE,eL,hG,Fu];have pO:NS L=Gg L (Bn L).toNat L.length []:=rfl;rw[<-pO]at hol ⊢;unfold PC;generalize NS L=o at hol ⊢;have key:=EU (G:=λdB vs H1=>Sh.f5a H dB (ag vs 0) (ag vs 1) (ag vs 2) H1) o.length (λi=>decide (o.getD i 0=i+1)) (λi=>[.sl (enL cNd L) tk,.sl (enL cN o) (outK B o),.i6 (i:Int)]) (B++G) (some (.ret (.bool (decide (o.length=L.length))),H)) (some (.ret (.bool false),H)) (by omega) (λrec i hi=>?_) (λrec=>?_)
     ·refine key.trans ?_;cases (List.range o.length).all (λi=>decide (o.getD i 0=i+1)) <;> simp only[GMw]
     ·have aD:(i:Int)<(o.length:Int):=by omega
      unfold Sh.f5a;simp only[GMw,Aq,Ah,AE,VK,Nat.add_zero,VY,Cm,Ax,aD,A1 hi,zXh,Au (show i<9223372036854775807 by omega),hfin];simp only[VM,VF hi,Option.getD_some];by_cases he:o[i]=i+1
      ·have:(o[i]:Int)=((i+1:Nat):Int):=by omega
       simp only[zXc this,zXc he,GMw]
      ·have:¬(o[i]:Int)=((i+1:Nat):Int):=by omega
       simp only[zXd this,zXd he,GMw]
     ·have hd:decide ((o.length:Int)=(L.length:Int))=decide (o.length=L.length):=by rw[Wf];simp;omega
      unfold Sh.f5a;simp only[GMw,Ax,WE,hfin,hd]
theorem UN (L:List Nd)(tk:Tok)(H:Aa)(hL:L.length<17592186044415):Sh.f31 (.agg [.sl (enL cNd L) tk]) H=some (.ret (.i6 (if L=[]then 0 else Bn L)),H):=by
 unfold Sh.f31;simp only[GMw,Aq,Ah,AE,VK,Nat.add_zero,VY,Cm,boxQuad,Fy,Hp,zXh,Ax];by_cases h0:L=[]
 ·subst h0;simp
 ·have hlen:L.length≠0:=λh=>h0 (Wc h);have eT:¬((L.length:Int)=0):=by omega
  have hm:L.length-1<L.length:=by omega
  have hw:IntKind.i64.wrap ((L.length:Int)-1)=((L.length-1:Nat):Int):=Hk (by omega) (by omega);have ht:Bn L=L[L.length-1].lv:=by
   unfold Bn;rw[Eh (n:=L.length-1) (by omega) hm]
  simp only[h0,eT,GMw,Aq,Ah,AE,VK,Nat.add_zero,VY,Cm,hw,A1 hm,Ie,ht]
abbrev nd0:Nd:=⟨0,0,0,0,0⟩
def Nd.setKid (x:Nd)(k:Nat)(c:Int):Nd:=match k with | 0=>{ x with k0:=c } | 1=>{ x with k1:=c } | 2=>{ x with k2:=c } | _=>{ x with k3:=c }
theorem UB (x:Nd)(k:Nat)(c:Int):(x.setKid k c).lv=x.lv:=by unfold Nd.setKid;split <;> rfl
theorem QI (x:Nd){k:Nat}(c:Int)(h:k<4):(x.setKid k c).kid k=c:=by
 match k,h with
 | 0,_=>rfl
 | 1,_=>rfl
 | 2,_=>rfl
 | 3,_=>rfl
theorem Fq (x:Nd){k j:Nat}(c:Int)(h:k<4)(hj:j<4)(hne:j≠k):(x.setKid k c).kid j=x.kid j:=by
 match k,j,h,hj with
 | 0,1,_,_=>rfl
 | 0,2,_,_=>rfl
 | 0,3,_,_=>rfl
 | 1,0,_,_=>rfl
 | 1,2,_,_=>rfl
 | 1,3,_,_=>rfl
 | 2,0,_,_=>rfl
 | 2,1,_,_=>rfl
 | 2,3,_,_=>rfl
 | 3,0,_,_=>rfl
 | 3,1,_,_=>rfl
 | 3,2,_,_=>rfl
 | 0,0,_,_=>exact absurd rfl hne
 | 1,1,_,_=>exact absurd rfl hne
 | 2,2,_,_=>exact absurd rfl hne
 | 3,3,_,_=>exact absurd rfl hne
section
variable {H:Aa}{p k:Nat}{x:Nd}{cs cs':List Ab}
theorem HT (hg:H[p]? = some (.cel 0 (cNd x))):Ad true 5 (.ptr p 0 0) H=some (.agg (cNd x)):=by
 simp only[Ad,Aw hg,zXa,if_true];rfl
theorem SO (hg:H[p]? = some (.cel 0 (cNd x))):Ad false 1 (.ptr p 0 0) H=some (.i6 x.lv):=by
 simp only[Ad,Aw hg,zXa,VN,if_false];rfl
theorem Va (hg:H[p]? = some (.cel 0 (cNd x)))(h:k<4):Ad false 1 (.ptr p 0 (1+k)) H=some (.i6 (x.kid k)):=by
 simp only[Ad,Aw hg,zXa,VN,if_false];exact Ev h
theorem EP {c:Int}(hg:H[p]? = some (.cel 0 (cNd x)))(h:k<4):Af 1 (.ptr p 0 (1+k)) (.i6 c) H=some (H.set p (.cel 0 (cNd (x.setKid k c)))):=by
 simp only[Af,Aw hg,zXa,acells_int,Bt hg]
 match k,h with
 | 0,_=>rfl
 | 1,_=>rfl
 | 2,_=>rfl
 | 3,_=>rfl
theorem JN (hg:H[p]? = some (.cel 0 cs))(hl:cs.length=5):Af 5 (.ptr p 0 0) (.agg (cNd x)) H=some (H.set p (.cel 0 (cNd x))):=by
 simp only[Af,Aw hg,zXa,VC,Bt hg,Dp hl];rw[if_pos ⟨rfl,by omega⟩]
theorem HU {K:IntKind}{id g o:Nat}(h:k<4):B5 4 1 (.ptr id g o) (.int K (k:Int))=some (.ptr id g (o+k)):=by
 unfold B5;simp only[];rw[if_pos ⟨by omega,by omega⟩];simp

end
theorem Ps (H:Aa):A0 (some [.i6 0,.i6 0,.i6 0,.i6 0,.i6 0]) H=some (.ptr H.length 0 0,H++[.cel 0 (cNd nd0)]):=alloc_eq rfl
theorem DS (L:List Nd):(A3 L).getD 0 true=true:=by
 have key:∀(l:List Nd) (E:List Bool),E[0]? = some true->(l.foldl (λE x=>E++[Mw E x]) E)[0]? = some true:=by
  intro l
  induction l with
  | nil=>intro E h;exact h
  | cons a l ih=>intro E h;exact ih _ (by rw[VH (by cases E with | nil=>simp at h | cons e E=>simp)];exact h)
 rw[VM,show (A3 L)[0]? = some true from key L [true] rfl];rfl
def IR (L:List Nd)(x:Nd)(k:Nat):Int:=if x.kid k=0 then 0 else (A8 L (x.kid k)).kid (3-k)
def Cd (L:List Nd)(n:Nat):Nd:=⟨(A8 L n).lv-1,IR L (A8 L n) 0,IR L (A8 L n) 1,IR L (A8 L n) 2,IR L (A8 L n) 3⟩
def BN:Nat->List Nd->Nat->List Nd×Nat
 | 0,L,n=>(L,n)
 | f+1,L,n=>if D7 L n then BN f (L++[Cd L n]) (L.length+1)else (L,n)
def DE (L:List Nd)(n:Nat):List Nd×Nat:=
 if (A3 L).getD n true then (L,0)else BN (A8 L n).lv.toNat L n
theorem Vm (L:List Nd)(n:Nat){k:Nat}(h:k<4):(Cd L n).kid k=IR L (A8 L n) k:=by
 match k,h with
 | 0,_=>rfl
 | 1,_=>rfl
 | 2,_=>rfl
 | 3,_=>rfl
theorem KC {L:List Nd}{x:Nd}(hl:AB L=true)(hx:Gx (L++[x]) L.length=true):AB (L++[x])=true:=by
 unfold AB;rw[Wa];intro i hi;have aD:i<L.length+1:=by simpa using hi
 by_cases h:i=L.length
 ·rw[h];exact hx
 ·have hlt:i<L.length:=by omega
  have h1:=Wa.1 hl i (by simpa using hlt);simp only[Gx,VH hlt,VF hlt,VU,Wa]at h1 ⊢;refine⟨h1.1,λk hk=>?_⟩;have h2:=h1.2 k hk;simp only[Dj,VU,zXe]at h2 ⊢;refine⟨h2.1,λq1 q2=>?_⟩;obtain⟨r1,r2⟩:=h2.2 q1 q2;refine⟨r1,λy hy=>?_⟩;rw[VH (by omega)]at hy;exact r2 y hy
theorem KD {L:List Nd}{x:Nd}(h1:1<=x.lv)(h2:x.lv<=1329)(h3:∀k,k<4->0<=x.kid k/\(x.lv=1->x.kid k<=255)/\(1<x.lv->0<x.kid k->x.kid k<=L.length/\(A8 L (x.kid k)).lv=x.lv-1)):Gx (L++[x]) L.length=true:=by
 simp only[Gx,Wl (VL _),Wz,zXh,VU,zXe,Wa];refine⟨⟨h1,h2⟩,λk hk=>?_⟩;obtain⟨q1,q2,q3⟩:=h3 k (by simpa using hk);simp only[Dj,VU,zXe];refine⟨⟨q1,q2⟩,λr1 r2=>?_⟩;obtain⟨s1,s2⟩:=q3 r1 r2;refine⟨s1,λy hy=>?_⟩;have hlt:(x.kid k-1).toNat<L.length:=by omega
 rw[VH hlt,VF hlt]at hy;injection hy with hy;rw[<-hy,<-s2,Eh (n:=(x.kid k-1).toNat) (by omega) hlt]
theorem Ni {L:List Nd}(hl:AB L=true){n:Nat}(hn:n<L.length)(h2:2<=L[n].lv):AB (L++[Cd L (n+1)])=true:=by
 obtain⟨l1,l2,l3⟩:=AO hl hn;have e:A8 L ((n+1:Nat):Int)=L[n]:=Ba hn;have elv:(Cd L (n+1)).lv=L[n].lv-1:=by show (A8 L ((n+1:Nat):Int)).lv-1=_;rw[e]
 refine KC hl (KD (by omega) (by omega) λk hk=>?_);obtain⟨q1,q2,q3⟩:=l3 k hk;rw[Vm L (n+1) hk,elv,e];unfold IR;by_cases hc:L[n].kid k=0
 ·rw[if_pos hc];exact⟨by omega,λ_=>by omega,λ_ h=>by omega⟩
 ·rw[if_neg hc];obtain⟨m,hm⟩:∃m:Nat,L[n].kid k=((m+1:Nat):Int):=⟨(L[n].kid k-1).toNat,by omega⟩;obtain⟨r1,r2⟩:=q3 (by omega) (by omega);have hml:m<L.length:=by omega
  have hy:=r2 L[m] (by rw[show (L[n].kid k-1).toNat=m from by omega];exact VF hml);obtain⟨y1,y2,y3⟩:=AO hl hml;rw[Eh hm hml];obtain⟨s1,s2,s3⟩:=y3 (3-k) (by omega);refine⟨s1,λh=>s2 (by omega),λh h0=>?_⟩;obtain⟨t1,t2⟩:=s3 (by omega) h0;refine⟨by omega,?_⟩;obtain⟨c,bT⟩:∃c:Nat,L[m].kid (3-k)=((c+1:Nat):Int):=⟨(L[m].kid (3-k)-1).toNat,by omega⟩;have aG:c<L.length:=by omega
  rw[Eh bT aG];have:=t2 L[c] (by rw[show (L[m].kid (3-k)-1).toNat=c from by omega];exact VF aG);omega
theorem Nj {L:List Nd}{n:Nat}(h:D7 L n=true):n≠0/\2<=(A8 L n).lv:=by
 simp only[D7,VU,zXe]at h;exact⟨h.1.1,h.1.2⟩
theorem VB {H G:Aa}{l:List Nd}{x:Nd}(h:l.length<3518437208883):AW AN 5 40 (.sl (enL cNd l) (.own H.length)) (.sl (enL cNd [x]) .ti) (H++.tok l.length AN 5::G)=some (.sl (enL cNd (l++[x])) (.own H.length),H++.tok (l.length+1) AN 5::G):=by
 have:=Fm (f:=cNd) (l:=l) (m:=[x]) (ty:=AN) (bytes:=40) (tk:=.ti) (H:=H++.tok l.length AN 5::G) (t:=H.length) (by simp) (by simp) (by simp;omega) (by simp;omega);rw[this];simp
def UA (f:Nat->Int)(x:Nd):Nat->Nd
 | 0=>x
 | k+1=>(UA f x k).setKid k (f k)
theorem U9 (f:Nat->Int)(x:Nd):UA f x 4=⟨x.lv,f 0,f 1,f 2,f 3⟩:=rfl
theorem TC (z:Int):A6 (some [.i6 0,.i6 0,.i6 0,.i6 0,.i6 0]) [(0,1,.i6 z)]=some (.agg (cNd ⟨z,0,0,0,0⟩)):=by
 simp[A6,Gq,CX,cNd]
theorem q06_shrink (L:List Nd)(tk:Tok)(n:Nat)(H:Aa)(hL:L.length<3518437200000)(hl:AB L=true)(hn:n<=L.length) :
  Sh.f69 (.sl (enL cNd L) tk) (.i6 (n:Int)) H=some (.ret (.tup [.sl (enL cNd (DE L n).1) .no,.i6 ((DE L n).2:Int)]),H):=by
 unfold Sh.f69;have hb:AS 5 []=some (.sl (enL cNd []) .ti):=rfl;rw[hb];by_cases h0:L=[]
 ·subst h0;have dZ:n=0:=by simpa using hn
  subst dZ;have ha:AW AN 5 40 (.sl (enL cNd []) .ti) (.sl (enL cNd []) tk) H=some (.sl (enL cNd []) .ti,H):=DW (by simp[Ci,enL]);have he:=UO [] .ti 0 H (by simp) hl (VL _);simp only[GMw,ha,he,show (A3 []).getD 0 true=true from rfl,Md,Ch,Bu,B6,IU,CM,zXb]
  rfl
 ·have ha:AW AN 5 40 (.sl (enL cNd []) .ti) (.sl (enL cNd L) tk) H=some (.sl (enL cNd L) (.own H.length),H++[.tok L.length AN 5]):=by
   have:=CQ (f:=cNd) (l:=[]) (m:=L) (ty:=AN) (bytes:=40) (tk:=tk) (H:=H) h0 (by simp;omega) (by simp;omega);simpa using this
  simp only[GMw,ha,UO L _ n _ (show L.length<140737488355327 by omega) hl hn];unfold DE;cases eR:(A3 L).getD n true with
  | true=>simp only[GMw,Cv,Ch,Bu,B6,IU,CM,zXb];rfl
  | false=>
   simp only[GMw];have aJ:(A8 L n).lv<=1329:=by
    cases n with
    | zero=>exfalso;rw[DS]at eR;cases eR
    | succ m=>rw[Ba hn];exact (AO hl hn).2.1
   have key:=Bq (G:=λrec1 vs H1=>Sh.f7m H rec1 (ag vs 0) (ag vs 1) H1) (σ:=List Nd×Nat×Aa) (λs=>AB s.1=true/\s.2.1<=s.1.length/\s.1.length+(A8 s.1 s.2.1).lv.toNat<3518437208883/\s.1.length+(A8 s.1 s.2.1).lv.toNat<3518437208883)
    (λs=>[.i6 (s.2.1:Int),.sl (enL cNd s.1) (.own H.length)]) (λs=>H++.tok s.1.length AN 5::s.2.2) (λs=>(A8 s.1 s.2.1).lv.toNat)
    (λs=>some (.ret (.tup [.sl (enL cNd (BN (A8 s.1 s.2.1).lv.toNat s.1 s.2.1).1) .no,.i6 ((BN (A8 s.1 s.2.1).lv.toNat s.1 s.2.1).2:Int)]),H)) (λs rec hs hrec=>?_) (L,n,[]) ⟨hl,hn,by dsimp only;omega,by dsimp only;omega⟩ (by dsimp only;omega)
   ·exact key
   ·obtain⟨M,i,G⟩:=s;obtain⟨hs1,mW,pP,tQ⟩:=hs;simp only at hs1 mW pP tQ hrec ⊢;unfold Sh.f7m;simp only[GMw,Sx M _ i _ (show M.length<140737488355327 by omega) hs1 mW];cases hh:D7 M i with
    | false=>
     have:BN (A8 M i).lv.toNat M i=(M,i):=by
      cases (A8 M i).lv.toNat with
      | zero=>rfl
      | succ f=>simp[BN,hh]
     simp only[GMw,this,Cv,Ch,Bu,B6,IU,CM,zXb]
    | true=>
     obtain⟨jA,gC⟩:=Nj hh;obtain⟨m,rfl⟩:∃m,i=m+1:=⟨i-1,by omega⟩;have hm:m<M.length:=mW;obtain⟨l1,l2,l3⟩:=AO hs1 hm;have hx:A8 M ((m+1:Nat):Int)=M[m]:=Ba hm;rw[hx]at gC pP hrec ⊢;have cQ:IntKind.i64.wrap (((m+1:Nat):Int)-1)=(m:Int):=by rw[Ao] <;> omega
     have lW:IntKind.i64.wrap (M[m].lv-1)=M[m].lv-1:=Ao (by omega) (by omega);have jD:BN M[m].lv.toNat M (m+1)=BN (M[m].lv-1).toNat (M++[Cd M (m+1)]) (M.length+1):=by
      rw[show M[m].lv.toNat=(M[m].lv-1).toNat+1 from by omega];simp only[BN,hh,if_true]
     generalize hB:H++.tok M.length AN 5::G=B;simp only[GMw,Aq,Ah,AE,VK,Nat.add_zero,VY,Cm,cQ,A1 hm,lW,TC,Ps,JN (Al (B:=B) (cs:=cNd nd0)) rfl,Bd];refine Ck (G:=λaA vs H1=>Sh.f68 H rec aA (ag vs 0) (ag vs 1) (ag vs 2) (ag vs 3) H1) 4 (λk=>[.i6 ((m+1:Nat):Int),.sl (enL cNd M) (.own H.length),.ptr B.length 0 0,.i6 (k:Int)]) (λk=>B++[.cel 0 (cNd (UA (IR M M[m]) ⟨M[m].lv-1,0,0,0,0⟩ k))]) _ (by decide) (λaA k hk=>?_) (λaA=>?_)
     ·have hk':(k:Int)<4:=by omega
      unfold Sh.f68;have nS:=q05_inner M (.own H.length) m k (B++[.cel 0 (cNd (UA (IR M M[m]) ⟨M[m].lv-1,0,0,0,0⟩ k))]) (by omega) hs1 hm gC hk;simp only[GMw,hk',nS,Ah,VK,HU hk,EP (Al (B:=B)) hk,Bd,Au (show k<9223372036854775807 by omega)]
      rfl
     ·have hf:¬(((4:Nat):Int)<4):=by decide
      have nV:(⟨M[m].lv-1,IR M M[m] 0,IR M M[m] 1,IR M M[m] 2,IR M M[m] 3⟩:Nd)=Cd M (m+1):=by unfold Cd;rw[hx]
      unfold Sh.f68;rw[U9];simp only[GMw,hf,HT (Al (B:=B)),Ko];rw[<-hB,VP,List.cons_append,VB (by omega)];simp only[GMw,Ax,VO,zXi,nV];have eF:(A8 (M++[Cd M (m+1)]) ((M.length+1:Nat):Int)).lv=M[m].lv-1:=by
       rw[Ba (by simp),show (M++[Cd M (m+1)])[M.length]'(by simp)=Cd M (m+1) from by simp];show (A8 M ((m+1:Nat):Int)).lv-1=_;rw[hx]
      have:=hrec (M++[Cd M (m+1)],M.length+1,G++[.cel 0 (cNd (Cd M (m+1)))]) ⟨Ni hs1 hm gC,by simp,by dsimp only;rw[eF];simp;omega,by dsimp only;rw[eF];simp;omega⟩ (by dsimp only;rw[eF];omega);simp only[VO,zXi]at this;rw[this,eF,jD]
def Cs (l:List Nd)(x:Nd):Nat:=match (List.range l.length).find? (λi=>decide (l.getD i nd0=x))with | some i=>i+1 | none=>0
theorem En {l:List Nd}{x:Nd}{i:Nat}:Cs l x=i+1↔l[i]? = some x/\∀j,j<i->l[j]? ≠ some x:=by
 unfold Cs;constructor
 ·intro h;cases hf:(List.range l.length).find? (λi=>decide (l.getD i nd0=x))with
  | none=>rw[hf]at h;dsimp only at h;omega
  | some k=>
   rw[hf]at h;dsimp only at h;have hk:k=i:=by omega
   subst hk;rw[Ys]at hf;obtain⟨h1,h2,h3⟩:=hf;have hlt:k<l.length:=by simpa using h2
   simp only[zXe,VM,VF hlt,Option.getD_some]at h1;refine⟨by rw[VF hlt,h1],λj hj e=>?_⟩;have:=h3 j hj;simp only[VM,e,Option.getD_some,decide_true,WA]at this;cases this
 ·rintro⟨h1,h2⟩;have hlt:i<l.length:=(VG.1 h1).1;have hf:(List.range l.length).find? (λi=>decide (l.getD i nd0=x))=some i:=by
   rw[Ys];refine⟨by simp[VM,h1],by simpa using hlt,λj hj=>?_⟩;have sO:j<l.length:=by omega
   have:=h2 j hj;rw[VF sO]at this;simp only[VM,VF sO,Option.getD_some,WM,decide_eq_false_iff_not];exact λe=>this (by rw[e])
  rw[hf]
theorem IV {l:List Nd}{x:Nd}:Cs l x=0↔x ∉ l:=by
 constructor
 ·intro h hx;obtain⟨i,hi,aH⟩:=Wr hx;unfold Cs at h;cases hf:(List.range l.length).find? (λi=>decide (l.getD i nd0=x))with
  | none=>
   have:=XK.1 hf i (by simpa using hi);simp[VM,VF hi,aH]at this
  | some k=>rw[hf]at h;dsimp only at h;omega
 ·intro h;cases hf:Cs l x with
  | zero=>rfl
  | succ i=>
   rw[En]at hf;exact absurd (Wj hf.1) h
theorem findN_le (l:List Nd)(x:Nd):Cs l x<=l.length:=by
 cases hf:Cs l x with
 | zero=>omega
 | succ i=>rw[En]at hf;exact (VG.1 hf.1).1
theorem OP {l m:List Nd}{x:Nd}(h:Cs l x≠0):Cs (l++m) x=Cs l x:=by
 cases hf:Cs l x with
 | zero=>exact absurd hf h
 | succ i=>
  rw[En]at hf ⊢;have hlt:i<l.length:=(VG.1 hf.1).1;refine⟨by rw[VH hlt];exact hf.1,λj hj=>?_⟩;rw[VH (by omega)];exact hf.2 j hj
theorem Vv {l:List Nd}{x:Nd}(h:Cs l x=0):Cs (l++[x]) x=l.length+1:=by
 rw[En];refine⟨by simp,λj hj e=>?_⟩;rw[VH hj]at e;exact IV.1 h (Wj e)
def BF (out:List Nd)(x:Nd):List Nd×Nat:=if Cs out x=0 then (out++[x],out.length+1)else (out,Cs out x)
def BV (rec:Nat->List Nd->List Nd×Nat)(x:Nd):Nat->List Nd->List Nd×Nd
 | 0,out=>(out,x)
 | k+1,out=>((rec (x.kid k).toNat (BV rec x k out).1).1,(BV rec x k out).2.setKid k ((rec (x.kid k).toNat (BV rec x k out).1).2:Int))
def Bm (L:List Nd)(E:List Bool):Nat->Nat->List Nd->List Nd×Nat
 | 0,_,out=>(out,0)
 | v+1,n,out=>
  if E.getD n true then (out,0)
  else if 1<(A8 L n).lv then BF (BV (Bm L E v) (A8 L n) 4 out).1 (BV (Bm L E v) (A8 L n) 4 out).2
  else BF out (A8 L n)
theorem Mf (out:List Nd)(x:Nd):0<(BF out x).2:=by
 unfold BF;split
 ·simp
 ·dsimp only;omega
theorem S1 (out:List Nd)(x:Nd):∃r,(BF out x).1=out++r:=by
 unfold BF;split
 ·exact⟨_,rfl⟩
 ·exact⟨[],by simp⟩
theorem S2 (out:List Nd)(x:Nd)(r:List Nd):BF ((BF out x).1++r) x=((BF out x).1++r,(BF out x).2):=by
 by_cases h:Cs out x=0
 ·have h1:BF out x=(out++[x],out.length+1):=by simp[BF,h]
  rw[h1];have h2:Cs (out++[x]++r) x=out.length+1:=by rw[OP (by rw[Vv h];omega),Vv h]
  dsimp only;unfold BF;rw[h2,if_neg (by omega)]
 ·have h1:BF out x=(out,Cs out x):=by simp[BF,h]
  rw[h1];dsimp only;unfold BF;rw[OP h,if_neg h]
section
variable {L:List Nd}{E:List Bool}
theorem SU {rec:Nat->List Nd->List Nd×Nat}(hr:∀n out,∃r,(rec n out).1=out++r)(x:Nd):∀k out,∃r,(BV rec x k out).1=out++r
 | 0,out=>⟨[],by simp[BV]⟩
 | k+1,out=>by
  obtain⟨r,h⟩:=SU hr x k out;obtain⟨r',h'⟩:=hr (x.kid k).toNat (BV rec x k out).1;exact⟨r++r',by simp only[BV];rw[h',h];simp⟩
theorem SV:∀v n out,∃r,(Bm L E v n out).1=out++r
 | 0,n,out=>⟨[],by simp[Bm]⟩
 | v+1,n,out=>by
  simp only[Bm];split
  ·exact⟨[],by simp⟩
  ·split
   ·obtain⟨r,h⟩:=SU (SV v) (A8 L n) 4 out;obtain⟨r',h'⟩:=S1 (BV (Bm L E v) (A8 L n) 4 out).1 (BV (Bm L E v) (A8 L n) 4 out).2;exact⟨r++r',by rw[h',h];simp⟩
   ·exact S1 _ _
theorem IQ:∀v n out r,Bm L E v n ((Bm L E v n out).1++r)=((Bm L E v n out).1++r,(Bm L E v n out).2)
 | 0,n,out,r=>by simp[Bm]
 | v+1,n,out,r=>by
  by_cases he:E.getD n true=true
  ·simp only[Bm,if_pos he]
  ·by_cases hl:1<(A8 L n).lv
   ·have e:∀o,Bm L E (v+1) n o=BF (BV (Bm L E v) (A8 L n) 4 o).1 (BV (Bm L E v) (A8 L n) 4 o).2:=λo=>by simp only[Bm,if_neg he,if_pos hl]
    have key:∀k,k<=4->∀s,BV (Bm L E v) (A8 L n) k ((BV (Bm L E v) (A8 L n) k out).1++s)=((BV (Bm L E v) (A8 L n) k out).1++s,(BV (Bm L E v) (A8 L n) k out).2):=by
     intro k
     induction k with
     | zero=>intro _ s;simp[BV]
     | succ k ih=>
      intro hk s;simp only[BV];obtain⟨r',h'⟩:=SV (L:=L) (E:=E) v ((A8 L n).kid k).toNat (BV (Bm L E v) (A8 L n) k out).1;have hi:=ih (by omega) (r'++s);have ha:=IQ v ((A8 L n).kid k).toNat (BV (Bm L E v) (A8 L n) k out).1 s;rw[h']at ha ⊢;rw[VP,hi];rw[VP]at ha;dsimp only;rw[ha]
    obtain⟨r',h'⟩:=S1 (BV (Bm L E v) (A8 L n) 4 out).1 (BV (Bm L E v) (A8 L n) 4 out).2;have ha:=S2 (BV (Bm L E v) (A8 L n) 4 out).1 (BV (Bm L E v) (A8 L n) 4 out).2 r;rw[e,e];rw[h']at ha ⊢;rw[VP,key 4 (by omega)];dsimp only;rw[VP]at ha;exact ha
   ·have e:∀o,Bm L E (v+1) n o=BF o (A8 L n):=λo=>by simp only[Bm,if_neg he,if_neg hl]
    rw[e,e];exact S2 out (A8 L n) r

end
theorem q06_find (l:List Nd)(tk:Tok)(x:Nd)(H:Aa)(hl:l.length<1152921504606846975):Sh.f3e (.sl (enL cNd l) tk) (.agg (cNd x)) H=some (.ret (.i6 (Cs l x:Int)),H):=by
 unfold Sh.f3e;rw[Co (sz:=5) Fk rfl];simp only[GMw];have hp:(H++[Blk.cel 0 (cNd x)])[H.length]? = some (.cel 0 (cNd x)):=Al;have key:=NW (G:=λrec1 vs H1=>Sh.f6a H rec1 (ag vs 0) (ag vs 1) (ag vs 2) H1) l.length (λi=>decide (l.getD i nd0=x)) (λi=>[.sl (enL cNd l) tk,.ptr H.length 0 0,.i6 (i:Int)]) (H++[.cel 0 (cNd x)])
  (some (.ret (.i6 0),H)) (λi=>some (.ret (.i6 ((i+1:Nat):Int)),H)) (by omega) (λrec i hi=>?_) (λrec=>?_)
 ·refine key.trans ?_;unfold Cs;cases (List.range l.length).find? (λi=>decide (l.getD i nd0=x)) <;> rfl
 ·have aD:(i:Int)<(l.length:Int):=by omega
  unfold Sh.f6a;simp only[GMw,Ax,aD,A1 hi,Ju,HT hp,eq_nd,Au (show i<9223372036854775807 by omega),Ie];simp only[VM,VF hi,Option.getD_some];by_cases he:l[i]=x
  ·simp only[he,GMw]
  ·simp only[he,GMw]
 ·unfold Sh.f6a;simp only[GMw,Ax,WE,Ie]
structure VS (b id:Nat)(out:List Nd)(D:List Nat)(v:Ab)(H:Aa):Prop where
 hv:(out=[]/\v=.sl [] .ti)\/∃t,b<=t/\v=.sl (enL cNd out) (.own t)/\H[t]? = some (.tok out.length AN 5)
 hd:H[id]? = some (.cel 0 (flat cN D))
structure Ext (b id:Nat)(H H':Aa):Prop where
 len:H.length<=H'.length
 cel:∀(i:Nat) (cs:List Ab),i≠id->H[i]? = some (.cel 0 cs)->H'[i]? = some (.cel 0 cs)
 old:∀i,i<b->H'[i]? = H[i]?
theorem Ext.refl (b id:Nat)(H:Aa):Ext b id H H:=⟨VL _,λ_ _ _ h=>h,λ_ _=>rfl⟩
theorem Ext.trans {b id:Nat}{H H1 H2:Aa}(h:Ext b id H H1)(h':Ext b id H1 H2):Ext b id H H2:=
 ⟨Wm h.len h'.len,λi cs hi hc=>h'.cel i cs hi (h.cel i cs hi hc),λi hi=>(h'.old i hi).trans (h.old i hi)⟩
theorem VS.sl {b id:Nat}{out:List Nd}{D:List Nat}{v:Ab}{H:Aa}(h:VS b id out D v H):∃tk,v=.sl (enL cNd out) tk:=by
 rcases h.hv with ⟨rfl,rfl⟩ | ⟨t,_,rfl,_⟩
 ·exact⟨_,rfl⟩
 ·exact⟨_,rfl⟩
theorem OK {H:Aa}{i:Nat}{x:Blk}(B:Blk)(h:H[i]? = some x):(H++[B])[i]? = some x:=by
 have:=(VG.1 h).1;rw[VH this];exact h
theorem VS.snoc {b id:Nat}{out:List Nd}{D:List Nat}{v:Ab}{H:Aa}(h:VS b id out D v H)(B:Blk):VS b id out D v (H++[B]):=by
 refine⟨?_,OK B h.hd⟩;rcases h.hv with h1 | ⟨t,h1,h2,h3⟩
 ·exact .inl h1
 ·exact .inr ⟨t,h1,h2,OK B h3⟩
theorem Ext.snoc {b id:Nat}{H:Aa}(hb:b<=H.length)(B:Blk):Ext b id H (H++[B]):=
 ⟨by simp,λi cs _ h=>OK B h,λi hi=>by rw[VH (by omega)]⟩
theorem VS.put {b id p:Nat}{out:List Nd}{D:List Nat}{v:Ab}{H:Aa}{c c':List Ab}(h:VS b id out D v H)(hp:H[p]? = some (.cel 0 c))(hne:p≠id):VS b id out D v (H.set p (.cel 0 c')):=by
 refine⟨?_,by rw[VJ hne];exact h.hd⟩;rcases h.hv with h1 | ⟨t,h1,h2,h3⟩
 ·exact .inl h1
 ·refine .inr ⟨t,h1,h2,?_⟩;have:p≠t:=λe=>by rw[<-e,hp]at h3;cases h3
  rw[VJ this];exact h3
theorem VS.app {b id:Nat}{out:List Nd}{D:List Nat}{v:Ab}{H:Aa}(h:VS b id out D v H)(hb:b<=H.length)(x:Nd)(hl:out.length<3518437208883) :
  ∃v' H',AW AN 5 40 v (.sl (enL cNd [x]) .ti) H=some (v',H')/\VS b id (out++[x]) D v' H'/\Ext b id H H':=by
 rcases h.hv with ⟨rfl,rfl⟩ | ⟨t,h1,rfl,h3⟩
 ·have:=CQ (f:=cNd) (l:=[]) (m:=[x]) (ty:=AN) (bytes:=40) (tk:=.ti) (H:=H) (by simp) (by simp) (by simp);refine⟨_,_,this,⟨.inr ⟨H.length,hb,rfl,by simp⟩,OK _ h.hd⟩,Ext.snoc hb _⟩
 ·have:=Fm (f:=cNd) (l:=out) (m:=[x]) (ty:=AN) (bytes:=40) (tk:=.ti) (H:=H) (t:=t) (by simp) h3 (by simp;omega) (by simp;omega);have iY:=(VG.1 h3).1;refine⟨_,_,this,⟨.inr ⟨t,h1,rfl,by simp[iY]⟩,?_⟩,⟨by simp,λi cs hi hc=>?_,λi hi=>?_⟩⟩
  ·have:t≠id:=λe=>by have:=h.hd;rw[<-e,h3]at this;cases this
   rw[VJ this];exact h.hd
  ·have:t≠i:=λe=>by rw[<-e,h3]at hc;cases hc
   rw[VJ this];exact hc
  ·rw[VJ (by omega)]
structure VI (L out:List Nd)(D:List Nat):Prop where
 len:D.length=L.length+1
 cnt:out.length<=D.countP (λd=>decide (0<d))
 val:∀(n d:Nat),D[n]? = some d->0<d->Bm L (A3 L) (A8 L n).lv.toNat n out=(out,d)
theorem VI.grow {L out r:List Nd}{D:List Nat}(h:∀(n d:Nat),D[n]? = some d->0<d->Bm L (A3 L) (A8 L n).lv.toNat n out=(out,d)):∀(n d:Nat),D[n]? = some d->0<d->Bm L (A3 L) (A8 L n).lv.toNat n (out++r)=(out++r,d):=by
 intro n d h1 h2;have h3:=h n d h1 h2;have:=IQ (L:=L) (E:=A3 L) (A8 L n).lv.toNat n out r
 rwa [h3]at this
theorem VI.le {L out:List Nd}{D:List Nat}(h:VI L out D):out.length<=L.length+1:=by
 have:=h.cnt;have:=List.countP_le_length (p:=λd:Nat=>decide (0<d)) (l:=D);have:=h.len;omega
theorem insF_lv {L:List Nd}{E:List Bool}{v n:Nat}{out:List Nd}(he:E.getD n true=false)(hl:1<(A8 L n).lv):Bm L E (v+1) n out=BF (BV (Bm L E v) (A8 L n) 4 out).1 (BV (Bm L E v) (A8 L n) 4 out).2:=by
 simp only[Bm,he,VN,if_false,if_pos hl]
theorem insF_one {L:List Nd}{E:List Bool}{v n:Nat}{out:List Nd}(he:E.getD n true=false)(hl:¬1<(A8 L n).lv):Bm L E (v+1) n out=BF out (A8 L n):=by
 simp only[Bm,he,VN,if_false,if_neg hl]
theorem insK_lv (rec:Nat->List Nd->List Nd×Nat)(x:Nd):∀k out,(BV rec x k out).2.lv=x.lv
 | 0,out=>rfl
 | k+1,out=>by simp only[BV,UB];exact insK_lv rec x k out
theorem insK_kid (rec:Nat->List Nd->List Nd×Nat)(x:Nd):∀k out j,k<=j->j<4->(BV rec x k out).2.kid j=x.kid j
 | 0,out,j,_,_=>rfl
 | k+1,out,j,h1,h2=>by
  simp only[BV];rw[Fq _ _ (by omega) h2 (by omega)];exact insK_kid rec x k out j (by omega) h2
theorem UL {L:List Nd}(tk tk2:Tok)(b id:Nat)(hL:L.length<3518437208880)(hl:AB L=true):∀(v n d:Nat) (out:List Nd) (D:List Nat) (w:Ab) (H:Aa),n<=L.length->(n=0\/(A8 L n).lv.toNat=v)->v<d->b<=id->id<H.length->VS b id out D w H->VI L out D ->
  ∃H' D' w',Sh.fp d (.sl (enL cNd L) tk) (.sl (enL cB (A3 L)) tk2) (.i6 (n:Int)) w (.ms id 0 0 (L.length+1) (L.length+1) 1 true) H=some (.ret (.tup [w',.ms id 0 0 (L.length+1) (L.length+1) 1 true,.i6 ((Bm L (A3 L) v n out).2:Int)]),H') /\
   VS b id (Bm L (A3 L) v n out).1 D' w' H'/\Ext b id H H'/\VI L (Bm L (A3 L) v n out).1 D'/\∀j,n<j->D'[j]? = D[j]? := by
 intro v
 induction v with
 | zero=>
  intro n d out D w H hn hv hd xT hid hVS hVI;have hb:b<=H.length:=by omega
  obtain⟨d,rfl⟩:∃e,d=e+1:=⟨d-1,by omega⟩;have dZ:n=0:=by
   rcases hv with h | h
   ·exact h
   ·cases n with
    | zero=>rfl
    | succ m=>
     rw[Ba (show m<L.length from hn)]at h;have:=(AO hl (show m<L.length from hn)).1;omega
  subst dZ;have hlt:0<(A3 L).length:=by rw[CR];omega
  have he:(A3 L)[0]=true:=by have:=DS L;rw[VM,VF hlt]at this;exact this
  refine⟨H,D,w,?_,hVS,Ext.refl _ _ _,hVI,λ_ _=>rfl⟩;show Sh.f3f (Sh.fp d) _ _ _ _ _ _=_;unfold Sh.f3f;simp only[GMw,Aq,Ah,AE,VK,Nat.add_zero,VY,Cm,A1 hlt,zXh,he]
  rfl
 | succ v ih=>
  intro n d out D w H hn hv hd xT hid hVS hVI;have hb:b<=H.length:=by omega
  obtain⟨d,rfl⟩:∃e,d=e+1:=⟨d-1,by omega⟩;have hlt:n<(A3 L).length:=by rw[CR];omega
  have eP:(A3 L).getD n true=(A3 L)[n]:=by rw[VM,VF hlt];rfl
  have hDn:n<D.length:=by rw[hVI.len];omega
  have hidx:=CL (sz:=1) (id:=id) (n:=L.length+1) (K:=.i64) (g:=0) (off:=0) (cap:=L.length+1) (ex:=true) (i:=n) (by omega);simp only[VK,VY]at hidx;have hld:=Is (f:=cN) (Aw hVS.hd) hDn;show ∃H' D' w',Sh.f3f (Sh.fp d) _ _ _ _ _ _=_/\_;unfold Sh.f3f;simp only[GMw,Aq,Ah,AE,VK,Nat.add_zero,VY,Cm,A1 hlt,zXh];cases he:(A3 L)[n]with
  | true=>
   have e:Bm L (A3 L) (v+1) n out=(out,0):=by simp only[Bm,eP,he,if_true]
   rw[e];exact⟨H,D,w,by simp only[GMw];rfl,hVS,Ext.refl _ _ _,hVI,λ_ _=>rfl⟩
  | false=>
   rw[he]at eP;simp only[GMw,hidx,hld,zXh];by_cases hpos:0<D[n]
   ·have hi:(D[n]:Int)>0:=by omega
    have aP:(A8 L n).lv.toNat=v+1:=by
     rcases hv with h | h
     ·exfalso;subst h;rw[DS]at eP;cases eP
     ·exact h
    have e:=hVI.val n D[n] (VF hDn) hpos;rw[aP]at e;rw[e];exact⟨H,D,w,by simp only[GMw,hi],hVS,Ext.refl _ _ _,hVI,λ_ _=>rfl⟩
   ·have hi:¬(D[n]:Int)>0:=by omega
    have hD0:D[n]=0:=by omega
    obtain⟨m,rfl⟩:∃m,n=m+1:=⟨n-1,by
     cases n with
     | zero=>rw[DS]at eP;cases eP
     | succ n=>rfl⟩
    have hm:m<L.length:=hn;have aP:(A8 L ((m+1:Nat):Int)).lv.toNat=v+1:=by
     rcases hv with h | h
     ·omega
     ·exact h
    obtain⟨l1,l2,l3⟩:=AO hl hm;have hx:A8 L ((m+1:Nat):Int)=L[m]:=Ba hm;rw[hx]at aP;have cQ:IntKind.i64.wrap (((m+1:Nat):Int)-1)=(m:Int):=by rw[Ao] <;> omega
    simp only[GMw,hi,cQ,A1 hm,Ju,Ps,JN (Al (B:=H) (cs:=cNd nd0)) rfl,Bd];generalize hX:L[m]=x at l1 l2 l3 aP hx;have pW:H.length≠id:=by omega
    have loop:=GB (G:=λrec1 vs H1=>Sh.f6b H (Sh.fp d) rec1 (ag vs 0) (ag vs 1) (ag vs 2) (ag vs 3) (ag vs 4) (ag vs 5) (ag vs 6) H1) (if 1<x.lv then 4 else 0)
     (λk vs Hc=>∃w' D',vs=[.sl (enL cNd L) tk,.sl (enL cB (A3 L)) tk2,.i6 ((m+1:Nat):Int),w',.ms id 0 0 (L.length+1) (L.length+1) 1 true,.ptr H.length 0 0,.i6 (k:Int)]/\VS b id (BV (Bm L (A3 L) v) x k out).1 D' w' Hc/\Hc[H.length]? = some (.cel 0 (cNd (BV (Bm L (A3 L) v) x k out).2))/\Ext b id H Hc/\VI L (BV (Bm L (A3 L) v) x k out).1 D'/\(∀j,m<j->D'[j]? = D[j]?))
     (by split <;> decide) (λk vs Hc hk hI=>?_) (vs:=[.sl (enL cNd L) tk,.sl (enL cB (A3 L)) tk2,.i6 ((m+1:Nat):Int),w,.ms id 0 0 (L.length+1) (L.length+1) 1 true,.ptr H.length 0 0,.i6 0]) (H:=H++[.cel 0 (cNd x)]) ⟨w,D,rfl,hVS.snoc _,by simp[BV],Ext.snoc hb _,hVI,λ_ _=>rfl⟩
    ·obtain⟨vs',Hc,⟨w',D',rfl,hVS',hcell,hExt,hVI',hDD⟩,rec,aB⟩:=loop;rw[aB];unfold Sh.f6b;obtain⟨tkk,rfl⟩:=hVS'.sl;have hle:=hVI'.le;have wM:(AF (.bool (decide (((if 1<x.lv then 4 else 0:Nat):Int)<4))) (.bool (decide (x.lv>1))) (.bool false))=some (.bool false):=by
      by_cases h:1<x.lv <;> simp[h]
     have lD:(BV (Bm L (A3 L) v) x (if 1<x.lv then 4 else 0) out).2.lv=x.lv:=insK_lv _ _ _ _;have dP:Bm L (A3 L) (v+1) (m+1) out=BF (BV (Bm L (A3 L) v) x (if 1<x.lv then 4 else 0) out).1 (BV (Bm L (A3 L) v) x (if 1<x.lv then 4 else 0) out).2:=by
      by_cases h:1<x.lv
      ·rw[if_pos h,insF_lv eP (by rw[hx];exact h),hx]
      ·rw[if_neg h,insF_one eP (by rw[hx];exact h),hx];rfl
     have hpre:=SU (SV (L:=L) (E:=A3 L) v) x (if 1<x.lv then 4 else 0) out;rw[dP];have cA:=IQ (L:=L) (E:=A3 L) (v+1) (m+1) out [];rw[Wp,dP]at cA;generalize (BV (Bm L (A3 L) v) x (if 1<x.lv then 4 else 0) out)=io at *;obtain⟨o,y⟩:=io;dsimp only at hVS' hcell hVI' lD hpre cA hle ⊢;have bL:∀(A B:Out),(gk (.bool (decide (((if 1<x.lv then 4 else 0:Nat):Int)<4))) true (Ac 0 (.ptr H.length 0 0)) λx29=>gk (.bool (decide (((if 1<x.lv then 4 else 0:Nat):Int)<4))) true (Ad false 1 x29 Hc) λx30=>gk (.bool (decide (((if 1<x.lv then 4 else 0:Nat):Int)<4))) true (Ae .none .gtr x30 (.i6 1)) λx31=>(AF (.bool (decide (((if 1<x.lv then 4 else 0:Nat):Int)<4))) x31 (.bool false)).bind λx32=>Ak x32 A B)=B:=by
      intro A B;by_cases h:1<x.lv
      ·have hf:¬(((4:Nat):Int)<4):=by decide
       simp only[if_pos h,hf,GMw]
      ·have hf:(((0:Nat):Int)<4):=by decide
       have h':¬x.lv>1:=h;simp only[if_neg h,hf,GMw,Ah,Nat.add_zero,SO hcell,lD,h']
     simp only[Am,Aj,Br,BH];rw[bL];have qX:Av 1 (.ms id 0 0 (L.length+1) (L.length+1) 1 true) (.i6 ((m+1:Nat):Int))=some (.ptr id 0 (m+1)):=hidx;have hD'n:D'[m+1]? = some 0:=by rw[hDD (m+1) (by omega),VF hDn,hD0]
     have hDl:m+1<D'.length:=by rw[hVI'.len];omega
     have hD'e:D'[m+1]=0:=by rw[VF hDl]at hD'n;injection hD'n
     have fin:∀(o':List Nd) (i:Nat) (w2:Ab) (H2:Aa),BF o y=(o',i)->VS b id o' D' w2 H2->Ext b id H H2->VI L o D'->o'.length<=o.length+1->(∃r,o'=o++r) ->
       ∃H' D'' w'',Sh.f7n H (.i6 ((m+1:Nat):Int)) w2 (.ms id 0 0 (L.length+1) (L.length+1) 1 true) (.i6 (i:Int)) H2=some (.ret (.tup [w'',.ms id 0 0 (L.length+1) (L.length+1) 1 true,.i6 (i:Int)]),H')/\VS b id o' D'' w'' H'/\Ext b id H H'/\VI L o' D''/\∀j,m+1<j->D''[j]? = D[j]? := by
      intro o' i w2 H2 hp hV2 hE2 hI2 hlen ⟨r,hr⟩;have jA:0<i:=by have:=Mf o y;rw[hp]at this;exact this
      have hst:=DO (f:=cN) (sz:=1) (l:=D') (i:=m+1) (a:=i) (v:=.i6 (i:Int)) (Aw hV2.hd) hDl rfl;rw[Bt hV2.hd,VY]at hst;have lI:=(VG.1 hV2.hd).1;refine⟨H2.set id (.cel 0 (flat cN (D'.set (m+1) i))),D'.set (m+1) i,w2,by unfold Sh.f7n;simp only[GMw,qX,hst],⟨?_,by simp[lI]⟩,⟨by simp;exact hE2.len,λj cs hj hc=>?_,λj hj=>?_⟩,⟨by simp[hI2.len],?_,?_⟩,λj hj=>?_⟩
      ·rcases hV2.hv with h1 | ⟨t,h1,h2,h3⟩
       ·exact .inl h1
       ·refine .inr ⟨t,h1,h2,?_⟩;have:id≠t:=λe=>by have:=hV2.hd;rw[e,h3]at this;cases this
        rw[VJ this];exact h3
      ·rw[VJ (λe=>hj e.symm)];exact hE2.cel j cs hj hc
      ·rw[VJ (by omega)];exact hE2.old j hj
      ·rw[List.countP_set hDl];have:=hI2.cnt;simp only[hD'e,jA,decide_true,if_true,Nat.lt_irrefl,decide_false,VN,if_false,Nat.sub_zero];omega
      ·intro j dd hj lK;by_cases xC:j=m+1
       ·subst xC;rw[VX hDl]at hj;injection hj with hj;subst hj;rw[hx,aP];rw[hp]at cA;exact cA
       ·rw[VJ (λe=>xC e.symm)]at hj;rw[hr];exact VI.grow hI2.val j dd hj lK
      ·rw[VJ (by omega)];exact hDD j (by omega)
     have gN:=q06_find o tkk y Hc (by omega);simp only[GMw,HT hcell,gN];by_cases hf:Cs o y=0
     ·have hp:BF o y=(o++[y],o.length+1):=by simp[BF,hf]
      obtain⟨w2,H2,ha,hV2,hE2⟩:=hVS'.app (Wm hb hExt.len) y (by omega);obtain⟨tk3,rfl⟩:=hV2.sl;have h0:((Cs o y:Nat):Int)=0:=by omega
      obtain⟨H',D'',w'',q1,q2,q3,q4,q5⟩:=fin (o++[y]) (o.length+1) _ H2 hp hV2 (hExt.trans hE2) hVI' (by simp) ⟨[y],rfl⟩;refine⟨H',D'',w'',?_,by rw[hp];exact q2,q3,by rw[hp];exact q4,q5⟩;rw[hp,<-q1];simp only[GMw,h0,Ko,ha,Ax,VO,zXi]
     ·have hp:BF o y=(o,Cs o y):=by simp[BF,hf]
      have h0:¬((Cs o y:Nat):Int)=0:=by omega
      obtain⟨H',D'',w'',q1,q2,q3,q4,q5⟩:=fin o (Cs o y) _ Hc hp hVS' hExt hVI' (by omega) ⟨[],by simp⟩;refine⟨H',D'',w'',?_,by rw[hp];exact q2,q3,by rw[hp];exact q4,q5⟩;rw[hp,<-q1];simp only[GMw,h0]
    ·obtain⟨w',D',rfl,hVS',hcell,hExt,hVI',hDD⟩:=hI;have aJ:1<x.lv:=by
      by_cases h:1<x.lv
      ·exact h
      ·rw[if_neg h]at hk;omega
     rw[if_pos aJ]at hk;obtain⟨q1,q2,q3⟩:=l3 k hk;have hk':(k:Int)<4:=by omega
     have lD:=insK_lv (Bm L (A3 L) v) x k out;have aV:=insK_kid (Bm L (A3 L) v) x k out k (VL _) hk;obtain⟨c,hc⟩:=WI q1;have zR:c<=m:=by
      by_cases h0:0<x.kid k
      ·have:=(q3 aJ h0).1;omega
      ·omega
     have vN:c=0\/(A8 L (c:Int)).lv.toNat=v:=by
      by_cases h0:0<x.kid k
      ·right;obtain⟨c',rfl⟩:∃c',c=c'+1:=⟨c-1,by omega⟩;have aG:c'<L.length:=by omega
       have:=(q3 aJ h0).2 L[c'] (by rw[show (x.kid k-1).toNat=c' from by omega];exact VF aG);rw[Ba aG];omega
      ·left;omega
     obtain⟨H1,D1,w1,r1,r2,r3,r4,r5⟩:=ih c d (BV (Bm L (A3 L) v) x k out).1 D' w' Hc (by omega) vN (by omega) xT (WH hid hExt.len) hVS' hVI';have gW:=r3.cel _ _ pW hcell;have kG:(x.kid k).toNat=c:=by omega
     refine⟨[.sl (enL cNd L) tk,.sl (enL cB (A3 L)) tk2,.i6 ((m+1:Nat):Int),w1,.ms id 0 0 (L.length+1) (L.length+1) 1 true,.ptr H.length 0 0,.i6 ((k+1:Nat):Int)],H1.set H.length (.cel 0 (cNd ((BV (Bm L (A3 L) v) x k out).2.setKid k ((Bm L (A3 L) v c (BV (Bm L (A3 L) v) x k out).1).2:Int)))),⟨w1,D1,rfl,?_,?_,?_,?_,?_⟩,λrec=>?_⟩
     rotate_left 5
     ·unfold Sh.f6b;simp only[Am,Aj,GMw,hk',Ah,Nat.add_zero,VK,SO hcell,lD,show x.lv>1 from aJ,HU hk,Va hcell hk,aV,hc,r1,B1,B8,Vx,EP gW hk,Au (show k<9223372036854775807 by omega)]
     ·simp only[BV,kG];exact r2.put gW pW
     ·have cD:=(VG.1 gW).1;simp only[BV,kG];rw[VX cD]
     ·refine⟨by simp;exact (hExt.trans r3).len,λi cs hi hcs=>?_,λi hi=>?_⟩
      ·have:=(VG.1 hcs).1;rw[VJ (by omega)];exact (hExt.trans r3).cel i cs hi hcs
      ·rw[VJ (by omega)];exact (hExt.trans r3).old i hi
     ·simp only[BV,kG];exact r4
     ·intro j hj;rw[r5 j (by omega)];exact hDD j hj
theorem Cz {H H0:Aa}(h:∀i,i<H0.length->H[i]? = H0[i]?):H.take H0.length=H0:=by
 apply Xp;intro i;by_cases hi:i<H0.length
 ·rw[WF hi,h i hi]
 ·rw[zYb (by simp;omega),zYb (by omega)]
theorem Sg:∀(f:Nat) (L:List Nd) (n:Nat),AB L=true->n<=L.length->AB (BN f L n).1=true/\(BN f L n).2<=(BN f L n).1.length/\(BN f L n).1.length<=L.length+f
 | 0,L,n,hl,hn=>⟨hl,hn,VL _⟩
 | f+1,L,n,hl,hn=>by
  unfold BN;cases hh:D7 L n with
  | false=>exact⟨hl,hn,by show L.length<=_;omega⟩
  | true=>
   obtain⟨h0,h2⟩:=Nj hh;obtain⟨m,rfl⟩:∃m,n=m+1:=⟨n-1,by omega⟩;rw[Ba hn]at h2;obtain⟨r1,r2,r3⟩:=Sg f (L++[Cd L (m+1)]) (L.length+1) (Ni hl hn h2) (by simp);simp only[if_true];refine⟨r1,r2,?_⟩;simp at r3;omega
theorem OW {L:List Nd}{n:Nat}(h:(A3 L).getD n true=false):0<n:=by
 cases n with
 | zero=>rw[DS]at h;cases h
 | succ n=>omega
theorem O7 {L:List Nd}(hl:AB L=true){n:Nat}(h0:0<n)(hn:n<=L.length):(A8 L (n:Int)).lv.toNat<=1329:=by
 obtain⟨m,rfl⟩:∃m,n=m+1:=⟨n-1,by omega⟩;rw[Ba hn];have:=(AO hl hn).2.1;omega
theorem P3 {L:List Nd}{n:Nat}(hl:AB L=true)(hn:n<=L.length):AB (DE L n).1=true/\(DE L n).2<=(DE L n).1.length/\(DE L n).1.length<=L.length+1329:=by
 unfold DE;cases he:(A3 L).getD n true with
 | true=>exact⟨hl,Wn _,by show L.length<=_;omega⟩
 | false=>
  obtain⟨r1,r2,r3⟩:=Sg (A8 L n).lv.toNat L n hl hn;have:=O7 hl (OW he) hn;simp only[VN,if_false];exact⟨r1,r2,by omega⟩
def Jc (L:List Nd)(n:Nat):List Nd:=(Bm (DE L n).1 (A3 (DE L n).1) (A8 (DE L n).1 ((DE L n).2:Int)).lv.toNat (DE L n).2 []).1
def SC (L:List Nd)(n:Int):Bool:=AB L&&decide (0<=n)&&decide (n<=L.length)
theorem q06_of (L:List Nd)(tk:Tok)(n:Int)(H:Aa)(hL:L.length<3518437200000):Sh.f6c (.sl (enL cNd L) tk) (.i6 n) H =
  some (.ret (if SC L n then .tup [CW (Jc L n.toNat),.i6 0]else .tup [CW [],.i6 1]),H):=by
 unfold Sh.f6c;rw[alloc_eq (cs:=[.sl [] .ti]) rfl];have hcell:∀G:Aa,(H++[Blk.cel 0 [.sl [] .ti]]++G)[H.length]? = some (.cel 0 [.sl [] .ti]):=λG=>by simp
 have bad:∀(k:Ab->Aa->Out),(∀v G,k v G=(Ed [Ad true 1 (.ptr H.length 0 0) G,some (.i6 1)]).bind λx19=>rPN H x19 G) ->
   ((A6 (some [(.sl [] .ti)]) []).bind λx16=>bP H (A9 (Af 1 (.ptr H.length 0 0) x16 (H++[.cel 0 [.sl [] .ti]]))) k)=some (.ret (.tup [CW [],.i6 1]),H):=by
  intro k hk;have hb:A6 (some [(.sl [] .ti)]) []=some (.agg [.sl [] .ti]):=rfl;simp only[GMw,hb,Kx,Py (sz:=1) (cs:=[.sl [] .ti]) (vs:=[.sl [] .ti]) (v:=.agg [.sl [] .ti]) rfl rfl rfl,zXb,hk,Fy,SM,zXi,EJ,CS,D4];simp only[Cv,Ch,Bu,B6,F1,D8,Es,GG,CM,GMw,zXb]
  rfl
 simp only[GMw,UM L tk _ (show L.length<1152921504606846976 by omega)];unfold SC;cases hl:AB L with
 | false=>
  simp only[GMw];exact bad _ λv G=>rfl
 | true=>
  simp only[GMw,Ax];by_cases dZ:n<0
  ·have:¬0<=n:=by omega
   simp only[GMw,dZ,this];exact bad _ λv G=>rfl
  ·have eT:0<=n:=by omega
   by_cases dL:n>L.length
   ·have:¬n<=L.length:=by omega
    simp only[GMw,dZ,eT,dL,this,Ax];exact bad _ λv G=>rfl
   ·obtain⟨n,rfl⟩:=WI eT;have hle:n<=L.length:=by omega
    have iO:(n:Int)<=(L.length:Int):=by omega
    have oP:¬(n:Int)>(L.length:Int):=dL;obtain⟨s1,s2,s3⟩:=P3 hl hle;simp only[GMw,dZ,eT,oP,iO,Ax,q06_shrink L tk n _ (show L.length<3518437200000 by omega) hl hle,B1,B8];unfold Jc;simp only[zXl];generalize DE L n=s at s1 s2 s3;obtain⟨M,r⟩:=s;dsimp only at s1 s2 s3 ⊢;have cX:=Fv (f:=cN) (a:=0) (n:=M.length+1) (bytes:=8) (H:=H++[.cel 0 [.sl [] .ti]]) (by omega) (by omega);simp only[show cN 0=[Ab.i6 0] from rfl]at cX;simp only[GMw,Jq M .no _ (show M.length<140737488355327 by omega) s1,Ax,Au (show M.length<9223372036854775807 by omega),cX];have nL:(A8 M (r:Int)).lv.toNat<AU:=by
     rw[Dq];by_cases hr:0<r
     ·have:=O7 s1 hr s2;omega
     ·obtain rfl:r=0:=by omega
      unfold A8;rw[VM];by_cases hM:0<M.length
      ·rw[show (((0:Nat):Int)-1).toNat=0 from rfl,VF hM];have:=(AO s1 hM).2.1;simp only[Option.getD_some];omega
      ·rw[show (((0:Nat):Int)-1).toNat=0 from rfl,zYb (by omega)];simp
    obtain⟨H',D',w',v1,v2,v3,v4,v5⟩:=UL (L:=M) .no .no (H++[Blk.cel 0 [.sl [] .ti]]).length (H++[Blk.cel 0 [.sl [] .ti]]).length (by omega) s1 (A8 M (r:Int)).lv.toNat r AU [] (List.replicate (M.length+1) 0) (.sl [] .ti) (H++[.cel 0 [.sl [] .ti]]++[.cel 0 (flat cN (List.replicate (M.length+1) 0))])
     s2 (.inr rfl) nL (VL _) (by simp) ⟨.inl ⟨rfl,rfl⟩,Al⟩ ⟨by simp,by simp,λj dd hj lK=>by
      have:=Wj hj;rw[XI]at this;omega⟩
    have hold:∀i,i<H.length+1->H'[i]? = (H++[Blk.cel 0 [.sl [] .ti]])[i]? := λi hi=>by
     rw[v3.old i (by simpa using hi),VH (by simpa using hi)]
    have bT:H'[H.length]? = some (.cel 0 [.sl [] .ti]):=by rw[hold _ (by omega)];simp
    have aG:=(VG.1 bT).1;obtain⟨tk3,rfl⟩:=v2.sl;generalize (Bm M (A3 M) (A8 M (r:Int)).lv.toNat r []).1=Q at v1 v2 v4 ⊢;have hb:A6 (some [(.sl [] .ti)]) [(0,1,.sl (enL cNd Q) tk3)]=some (.agg [.sl (enL cNd Q) tk3]):=by simp[A6,Gq,CX]
    have hst:Af 1 (.ptr H.length 0 0) (.agg [.sl (enL cNd Q) tk3]) H'=some (H'.set H.length (.cel 0 [.sl (enL cNd Q) tk3])):=by
     simp only[Af,Aw bT,zXa,Bt bT];rfl
    have hld:Ad true 1 (.ptr H.length 0 0) (H'.set H.length (.cel 0 [.sl (enL cNd Q) tk3]))=some (.agg [.sl (enL cNd Q) tk3]):=by
     have:(H'.set H.length (.cel 0 [.sl (enL cNd Q) tk3]))[H.length]? = some (.cel 0 [.sl (enL cNd Q) tk3]):=by rw[VX aG]
     simp only[Ad,Aw this,zXa];rfl
    have aS:(H'.set H.length (.cel 0 [.sl (enL cNd Q) tk3])).take H.length=H:=Cz λi hi=>by
     rw[VJ (by omega),hold i (by omega),VH hi]
    simp only[GMw,v1,B1,hb,hst,hld,EJ,CS,D4,zXb,G7 aS,Ch,Bu,B6,F1,D8,Es,GG,CM]
    rfl
theorem q01_cut (l:List Bool)(tk:Tok)(H:Aa)(hb:l.length<1152921504606846976):Sh.f1x (.sl (enL cB l) tk) H=some (.ret (.sl (enL cB (Dx l)) .no),H):=by
 unfold Sh.f1x;refine Bq (σ:=List Bool×Tok) (λs=>s.1.length<1152921504606846976) (λs=>[.sl (enL cB s.1) s.2]) (λ_=>H) (λs=>s.1.length) (λs=>some (.ret (.sl (enL cB (Dx s.1)) .no),H)) (λs rec hs hrec=>?_) (l,tk) hb hb;obtain⟨l,tk⟩:=s;simp only at hs hrec ⊢;unfold Sh.f5e;rcases Hn l with rfl | ⟨l',b,rfl⟩
 ·simp[cutL_nil]
 ·simp only[VO,zXi]at hs hrec;have h1:l'.length<(l'++[b]).length:=by simp
  have h2:((((l'++[b]).length:Nat):Int)>0):=by simp
  have h3:IntKind.i64.wrap ((((l'++[b]).length:Nat):Int)-1)=(l'.length:Int):=by rw[Ao] <;> simp <;> omega
  simp only[Am,Ax,zXa,Dw,h2,decide_true,Jz,Dv,h3,A1 h1,AE,zXh,J5,C9,WS (VL _),Wz,List.getElem_cons_zero];cases b with
  | true=>simp[Qs]
  | false=>
   have:=hrec (l',FI tk 0 l'.length (l'++[false]).length false) (by dsimp only;omega) (by simp);simp only[WL,AZ,Sf (YC h1),zXa,List.take_left',this,Oc]
theorem q01_at (l:List Bool)(tk:Tok)(i:Int)(H:Aa):Sh.f8 (.sl (enL cB l) tk) (.i6 i) H=some (.ret (.bool (decide (0<=i)&&l.getD i.toNat false)),H):=by
 unfold Sh.f8;by_cases h0:0<=i
 ·obtain⟨n,rfl⟩:=WI h0;by_cases h1:n<l.length
  ·have h2:(n:Int)<(l.length:Int):=by omega
   simp[h2,A1 h1,VM,VF h1]
  ·have h2:¬(n:Int)<(l.length:Int):=by omega
   simp[h2,VM,zYb (Nat.le_of_not_lt h1)]
 ·simp[h0]
theorem HQ (l:List Nat)(tk:Tok)(H:Aa)(hl:l.length<=2199023255552)(hx:Lim l):Sh.f6 (.sl (enL cU l) tk) H=some (.ret (.sl (enL cB (Dx (AV l))) .no),H):=by
 unfold Sh.f6;refine Ck l.length (λi=>[.sl (enL cU l) tk,DG cB H (AV (l.take i)),.i6 (i:Int)]) (λi=>DF cB BZ 1 H (AV (l.take i))) _ (by omega) (λrec i hi=>?_) (λrec=>?_)
 ·have aD:(i:Int)<(l.length:Int):=by omega
  have aH:l[i]<4294967296:=hx _ (VW hi);have htk:AV (l.take (i+1))=AV (l.take i)++Dy 32 l[i]:=by
   rw[VT hi,AV,List.flatMap_append];simp[AV]
  have hlen:(AV (l.take i)).length<=32*2199023255552:=by rw[Cu];simp;omega
  unfold Sh.f2y;simp only[Am,Bg,Bk,Ax,zXa,Br,aD,decide_true,AZ,A1 hi,AE,zXh,htk];generalize AV (l.take i)=o at hlen;generalize l[i]=x at aH;refine Bq (σ:=Nat×Nat×List Bool) (λs=>s.1<=32/\s.2.1<4294967296/\s.2.2.length<=o.length+s.1) (λs=>[.sl (enL cU l) tk,DG cB H s.2.2,.i6 (i:Int),.int .u32 (s.2.1:Int),.i6 (s.1:Int)]) (λs=>DF cB BZ 1 H s.2.2) (λs=>32-s.1)
   (λs=>rec [.sl (enL cU l) tk,DG cB H (s.2.2++Dy (32-s.1) s.2.1),.i6 ((i+1:Nat):Int)] (DF cB BZ 1 H (s.2.2++Dy (32-s.1) s.2.1))) (λs aA hs hrec=>?_) (0,x,o) ⟨by dsimp only;omega,aH,by dsimp only;omega⟩ (by dsimp only;omega)
  obtain⟨k,y,p⟩:=s;obtain⟨hk,hy,hp⟩:=hs;simp only at hk hy hp hrec ⊢;unfold Sh.f7c;by_cases h:k<32
  ·have h':(k:Int)<32:=by omega
   have e1:(y:Int).tmod 2=((y%2:Nat):Int):=rfl;have e2:IntKind.u32.wrap ((y:Int).tdiv 2)=((y / 2:Nat):Int):=by rw[show (y:Int).tdiv 2=((y / 2:Nat):Int) from rfl,Dn] <;> omega
   have e3:(((y%2:Nat):Int) == 1)=(y%2 == 1):=by rw[Wf];simp only[beq_iff_eq];omega
   have e4:IntKind.i64.wrap ((k:Int)+1)=((k+1:Nat):Int):=by rw[Ao] <;> omega
   have:=hrec (k+1,y / 2,p++[y%2 == 1]) ⟨h,by dsimp only;omega,by simp;omega⟩ (by dsimp only;omega);simp only[Am,Bg,Bk,B4,BS,Br,h',decide_true,zXa,AZ,J3 (show (2:Int)≠0 by decide),RT (show (2:Int)≠0 by decide),e1,e2,DN,e3,RR];rw[Ex (by simp) (by simp;omega) (by simp;omega)];simp only[Do,CI,CC,zXa,e4,this];rw[show 32-k=(32-(k+1))+1 from by omega,Dy];simp
  ·have:k=32:=by omega
   subst this;have e4:IntKind.i64.wrap ((i:Int)+1)=((i+1:Nat):Int):=by rw[Ao] <;> omega
   simp[Dy,e4]
 ·unfold Sh.f2y;obtain⟨G,hG⟩:=GA (f:=cB) (ty:=BZ) (sz:=1) H (AV l);rw[VV (VL _)];simp only[Am,Bg,Bk,Fu,hG,Ax,zXa,Br,WE,decide_false,AQ,q01_cut (AV l) _ _ (by rw[Cu];omega),CI,Cv,Iv,zXb]
theorem S0 (l:List Bool)(tk:Tok)(H:Aa)(hl:l.length<=70368744177664):Sh.fn (.sl (enL cB l) tk) H=some (.ret (.sl (enL cU (AA (Bp l))) .no),H):=by
 unfold Sh.fn;have aG:=Iz l;rw[q01_cut l tk H (by omega),<-limbsOf_eq,KG];simp only[CI];generalize Dx l=c at aG;obtain⟨n,hn⟩:∃n,n=(c.length+31) / 32:=⟨_,rfl⟩;rw[<-hn];refine Ck n (λq=>[.sl (enL cB c) .no,DG cU H (Ek c q),.i6 ((32*q:Nat):Int)]) (λq=>DF cU Ce 1 H (Ek c q)) _ (by omega) (λrec q hq=>?_) (λrec=>?_)
 ·have iE:((32*q:Nat):Int)<(c.length:Int):=by omega
  unfold Sh.f5f;simp only[Am,Bg,Bk,Ax,zXa,Br,iE,decide_true,AZ];have hlo:(Ek c q).length=q:=Mn c q;rw[KF];generalize Ek c q=o at hlo;refine Bq (σ:=Nat) (λj=>j<=min 32 (c.length-32*q)) (λj=>[.sl (enL cB c) .no,DG cU H o,.i6 ((32*q:Nat):Int),.int .u32 ((Bp ((c.drop (32*q)).take j):Nat):Int),.int .u32 (IntKind.u32.wrap ((2:Int)^j)),.i6 ((32*q+j:Nat):Int)]) (λ_=>DF cU Ce 1 H o) (λj=>32-j)
   (λ_=>rec [.sl (enL cB c) .no,DG cU H (o++[GD c q]),.i6 ((32*(q+1):Nat):Int)] (DF cU Ce 1 H (o++[GD c q]))) (λj aA hj hrec=>?_) 0 (by omega) (by omega)
  unfold Sh.f7y;have hw:IntKind.i64.wrap (((32*q:Nat):Int)+32)=((32*(q+1):Nat):Int):=by rw[Ao] <;> omega
  by_cases h:j<min 32 (c.length-32*q)
  ·have h1:((32*q+j:Nat):Int)<(c.length:Int):=by omega
   have dA:32*q+j<c.length:=by omega
   have h2:((32*q+j:Nat):Int)<((32*(q+1):Nat):Int):=by omega
   have cC:IntKind.i64.wrap (((32*q+j:Nat):Int)+1)=((32*q+(j+1):Nat):Int):=by rw[Ao] <;> omega
   have aS:(c.drop (32*q)).take (j+1)=(c.drop (32*q)).take j++[c[32*q+j]]:=by
    rw[VT (by simp;omega)];simp
   have hlen:((c.drop (32*q)).take j).length=j:=by simp;omega
   have uH:Bp ((c.drop (32*q)).take (j+1))=Bp ((c.drop (32*q)).take j)+(if c[32*q+j]then 2^j else 0):=by
    rw[aS,D6,hlen];simp only[Bp];split <;> simp
   have uQ:=K9 ((c.drop (32*q)).take j);rw[hlen]at uQ;have hp:(2:Nat)^j*2<=2^32:=by rw[<-Nat.pow_succ];exact Wx (by omega) (by omega)
   have tY:IntKind.u32.wrap ((2:Int)^j)=((2^j:Nat):Int):=by
    rw[show ((2:Int)^j)=((2^j:Nat):Int) from by simp,Dn] <;> omega
   have dK:IntKind.u32.wrap (((Bp ((c.drop (32*q)).take j):Nat):Int)+((2^j:Nat):Int))=((Bp ((c.drop (32*q)).take j)+2^j:Nat):Int):=by rw[Dn] <;> omega
   have dI:IntKind.u32.wrap (((2^j:Nat):Int)*2)=IntKind.u32.wrap ((2:Int)^(j+1)):=by rw[Xn];simp
   have:=hrec (j+1) (by omega) (by omega);rw[uH]at this;simp only[Am,Bg,Bk,B4,BS,DD,Ax,zXa,Br,h1,decide_true,Jz,CC,hw,h2,C9,AZ,AK,A1 dA,AE,zXh,tY];cases hb:c[32*q+j]with
   | true=>
    rw[hb]at this;simp only[AZ,CC,dK,zXa,Am,Bg,Bk,B4,BS,DD,Sh.f7d,I5,dI,cC];simpa using this
   | false=>
    rw[hb]at this;simp only[AQ,Am,Bg,Bk,B4,BS,DD,Sh.f7d,I5,CC,dI,cC,zXa];simpa using this
  ·have hj':j=min 32 (c.length-32*q):=by omega
   have hx:Bp ((c.drop (32*q)).take j)=GD c q:=by
    unfold GD;by_cases h:j=32
    ·rw[h]
    ·rw[VV (by simp;omega),VV (by simp;omega)]
   have tail:((AS 1 [.int .u32 ((GD c q:Nat):Int)]).bind λx40=>bP H (Ca (AW Ce 1 4 (DG cU H o) x40 (DF cU Ce 1 H o))) λx41 H42=>(Ae .none .add (.i6 ((32*q:Nat):Int)) (.i6 32)).bind λx43=>rec [.sl (enL cB c) .no,x41,x43] H42)
     = rec [.sl (enL cB c) .no,DG cU H (o++[GD c q]),.i6 ((32*(q+1):Nat):Int)] (DF cU Ce 1 H (o++[GD c q])):=by
    rw[build_U];simp only[zXa];rw[Ex (by simp) (by simp;omega) (by simp;omega)];simp only[Do,CI,CC,zXa,hw]
   rw[hx];by_cases h1:((32*q+j:Nat):Int)<(c.length:Int)
   ·have h2:¬((32*q+j:Nat):Int)<((32*(q+1):Nat):Int):=by omega
    simp only[Am,Bg,Bk,B4,BS,DD,Ax,zXa,Br,h1,decide_true,Jz,CC,hw,h2,decide_false,C9,AQ];simpa only[CC,hw,zXa]using tail
   ·simp only[Am,Bg,Bk,B4,BS,DD,Ax,zXa,Br,h1,decide_false,QV,C2,AQ];exact tail
 ·have iE:¬((32*n:Nat):Int)<(c.length:Int):=by omega
  obtain⟨G,hG⟩:=GA (f:=cU) (ty:=Ce) (sz:=1) H (Ek c n);unfold Sh.f5f;simp only[Am,Bg,Bk,Fu,hG,Ax,zXa,Br,iE,decide_false,AQ,Cv,Iv,zXb]
theorem q01_norm (l:List Nat)(tk:Tok)(H:Aa)(hl:l.length<=1099511627776)(hx:Lim l):Sh.f1b (.sl (enL cU l) tk) H=some (.ret (.sl (enL cU (AA (val l))) .no),H):=by
 have hc:=Iz (AV l);rw[Cu]at hc;unfold Sh.f1b;rw[HQ l tk H (by omega) hx];simp only[Fl];rw[S0 _ _ _ (by omega)];simp only[Fl,Ee,Vt,E7,EN l hx]
theorem q01_right (l:List Nat)(tk:Tok)(H:Aa)(hl:l.length<=1099511627776):Sh.f5x (.sl (enL cU l) tk) H=some (.ret (.bool (Gb l)),H):=by
 unfold Sh.f5x;rcases Hn l with rfl | ⟨l',x,rfl⟩
 ·simp[Gb]
 ·simp only[VO,zXi]at hl;have h1:l'.length<(l'++[x]).length:=by simp
  have h3:IntKind.i64.wrap ((((l'++[x]).length:Nat):Int)-1)=(l'.length:Int):=by rw[Ao] <;> simp <;> omega
  have hne:((((l'++[x]).length:Nat):Int) == 0)=false:=by simp;omega
  have hb:((x:Int) != 0)=(x != 0):=by rw[Wf];simp
  simp only[Ax,zXa,DN,hne,Ms,Dv,h3,A1 h1,AE,zXh,WS (VL _),Wz,List.getElem_cons_zero,I4,C2,NC,hb];simp[Gb]
theorem q01_cmp (a b:List Nat)(ta tb:Tok)(H:Aa)(ha:a.length<=1099511627776)(hb:b.length<=1099511627776)(la:Lim a)(lb:Lim b) :
  Sh.f5j (.sl (enL cU a) ta) (.sl (enL cU b) tb) H=some (.ret (.i6 (cmpI (val a) (val b))),H):=by
 have c1:=Iz (AV a);have c2:=Iz (AV b);rw[Cu]at c1 c2;unfold Sh.f5j;rw[HQ a ta H (by omega) la];simp only[Fl,HQ b tb H (by omega) lb,Ax,zXa,max_int];have hx:Bp (Dx (AV a))=val a:=by rw[E7,EN a la]
 have hy:Bp (Dx (AV b))=val b:=by rw[E7,EN b lb]
 rw[<-hx,<-hy];generalize Dx (AV a)=x at c1 ⊢;generalize Dx (AV b)=y at c2 ⊢;have hw:IntKind.i64.wrap (max (x.length:Int) (y.length:Int)-1)=((max x.length y.length:Nat):Int)-1:=by rw[Ao] <;> omega
 simp only[Dv,hw,zXa];have z:∀(c:List Bool) (m:Nat),c.length<=m->Bp c / 2^m=0:=λc m h=>Xl (WH (K9 c) (Wx (by omega) h));refine Bq (σ:=Nat) (λi=>i<9223372036854775807/\(Bp x) / 2^i=(Bp y) / 2^i) (λi=>[.sl (enL cB x) .no,.sl (enL cB y) .no,.i6 ((i:Int)-1)]) (λ_=>H) (λi=>i) (λ_=>some (.ret (.i6 (cmpI (Bp x) (Bp y))),H)) (λi rec hi hrec=>?_) (max x.length y.length) ⟨by omega,by rw[z _ _ (by omega),z _ _ (by omega)]⟩ (by omega);obtain⟨hi,he⟩:=hi;unfold Sh.f83;cases i with
 | zero=>
  have e:Bp x=Bp y:=by simpa using he
  simp[e,cmpI]
 | succ i=>
  have jA:(((i+1:Nat):Int)-1)=(i:Int):=by omega
  have hge:(i:Int)>=0:=by omega
  have hw:IntKind.i64.wrap ((i:Int)-1)=(i:Int)-1:=by rw[Ao] <;> omega
  have ax:∀(c:List Bool) (H:Aa),Sh.f8 (.sl (enL cB c) .no) (.i6 (i:Int)) H=some (.ret (.bool ((Bp c).testBit i)),H):=λc H=>by rw[q01_at,zXl,nat1_bit];simp
  have tb:∀m:Nat,m.testBit i=decide (m / 2^i%2=1):=λm=>X0;have hs:∀m:Nat,m / 2^(i+1)=m / 2^i / 2:=λm=>by rw[Nat.pow_succ,Nat.div_div_eq_div_mul]
  rw[hs,hs]at he;have mono:∀p q:Nat,p<=q->p / 2^i<=q / 2^i:=λp q h=>Nat.div_le_div_right h;simp only[Am,Bg,Bk,jA,I6,hge,decide_true,zXa,AZ,ax,Fl,bne_bool];by_cases heq:(Bp x) / 2^i=(Bp y) / 2^i
  ·have lO:(Bp x).testBit i=(Bp y).testBit i:=by rw[tb,tb,heq]
   simp only[lO,bne_self_eq_false,AQ,Dv,hw,zXa];exact hrec i ⟨by omega,heq⟩ (by omega)
  ·have m1:=mono (Bp x) (Bp y);have m2:=mono (Bp y) (Bp x);rcases Yi (Bp x / 2^i)with h1 | h1 <;> rcases Yi (Bp y / 2^i)with h2 | h2
   ·omega
   ·have hlt:Bp x<Bp y:=by
     rcases Wv (Bp x) (Bp y)with h | h
     ·exact h
     ·have:=m2 h;omega
    simp[tb,h1,h2,cmpI,hlt]
   ·have hlt:Bp y<Bp x:=by
     rcases Wv (Bp y) (Bp x)with h | h
     ·exact h
     ·have:=m1 h;omega
    have hn:¬Bp x<Bp y:=by omega
    simp[tb,h1,h2,cmpI,hlt,hn]
   ·omega
theorem O2 (m:List Bool)(i:Nat):Bp m%2^(i+1)=Bp m%2^i+2^i*bn (m.getD i false):=by
 rw[nat1_bit,X0,Nat.pow_succ,Nat.mod_mul]
 congr 2
 rcases Yi (Bp m / 2^i)with h | h <;> simp[h,bn]
theorem q01_add (a b:List Nat)(ta tb:Tok)(H:Aa)(ha:a.length<=1099511627776)(hb:b.length<=1099511627776)(la:Lim a)(lb:Lim b) :
  Sh.f5i (.sl (enL cU a) ta) (.sl (enL cU b) tb) H=some (.ret (.sl (enL cU (AA (val a+val b))) .no),H):=by
 have c1:=Iz (AV a);have c2:=Iz (AV b);rw[Cu]at c1 c2;unfold Sh.f5i;have hx:Bp (Dx (AV a))=val a:=by rw[E7,EN a la]
 have hy:Bp (Dx (AV b))=val b:=by rw[E7,EN b lb]
 simp only[HQ a ta H (by omega) la,CI,HQ b tb H (by omega) lb];rw[<-hx,<-hy];generalize Dx (AV a)=x at c1 ⊢;generalize Dx (AV b)=y at c2 ⊢;refine Bq (σ:=List Bool×Bool) (λs=>s.1.length<=max x.length y.length+1/\Bp s.1+2^s.1.length*bn s.2=Bp x%2^s.1.length+Bp y%2^s.1.length) (λs=>[.sl (enL cB x) .no,.sl (enL cB y) .no,DG cB H s.1,.bool s.2,.i6 (s.1.length:Int)]) (λs=>DF cB BZ 1 H s.1) (λs=>max x.length y.length+1-s.1.length)
  (λ_=>some (.ret (.sl (enL cU (AA (Bp x+Bp y))) .no),H)) (λs rec hs hrec=>?_) ([],false) ⟨by simp,by simp[Bp,bn,Nat.mod_one]⟩ (by simp;omega)
 obtain⟨o,c⟩:=s;obtain⟨ho,he⟩:=hs;simp only at ho he hrec ⊢;unfold Sh.f82;simp only[Am,Bg,Bk,B4,BS,Ax,zXa,max_int,Lo];by_cases h:o.length<=max x.length y.length
 ·have h':((o.length:Int)<=max (x.length:Int) (y.length:Int)):=by omega
  have hw:IntKind.i64.wrap ((o.length:Int)+1)=((o.length+1:Nat):Int):=by rw[Ao] <;> omega
  have ax:∀(m:List Bool) (H:Aa),Sh.f8 (.sl (enL cB m) .no) (.i6 (o.length:Int)) H=some (.ret (.bool (m.getD o.length false)),H):=λm H=>by rw[q01_at,zXl];simp
  have app:∀s:Bool,AW BZ 1 1 (DG cB H o) (.sl (enL cB [s]) .ti) (DF cB BZ 1 H o)=some (DG cB H (o++[s]),DF cB BZ 1 H (o++[s])):=λs=>Ex (by simp) (by simp;omega) (by simp;omega);have w1:IntKind.i64.wrap (0+1)=1:=by decide
  have w2:IntKind.i64.wrap (1+1)=2:=by decide
  have w3:IntKind.i64.wrap (2+1)=3:=by decide
  have fin:rec [.sl (enL cB x) .no,.sl (enL cB y) .no,DG cB H (o++[(bn (x.getD o.length false)+bn (y.getD o.length false)+bn c)%2 == 1]),.bool (decide (1<bn (x.getD o.length false)+bn (y.getD o.length false)+bn c)),.i6 ((o.length+1:Nat):Int)] (DF cB BZ 1 H (o++[(bn (x.getD o.length false)+bn (y.getD o.length false)+bn c)%2 == 1]))=some (.ret (.sl (enL cU (AA (Bp x+Bp y))) .no),H):=by
   have:=hrec (o++[(bn (x.getD o.length false)+bn (y.getD o.length false)+bn c)%2 == 1],decide (1<bn (x.getD o.length false)+bn (y.getD o.length false)+bn c)) ⟨by simp;omega,?_⟩ (by simp;omega)
   ·simpa using this
   ·simp only[VO,zXi];rw[O2 x,O2 y,D6,Nat.pow_succ];generalize x.getD o.length false=p;generalize y.getD o.length false=q;generalize 2^o.length=z at he ⊢;cases p <;> cases q <;> cases c <;> simp[bn,Bp]at he ⊢ <;> omega
  simp only[h',decide_true,AZ,AK,ax,CI];revert fin;generalize x.getD o.length false=p;simp only[Sh.f81,AK,Am,Bg,Bk,B4,BS,DD,ax,CI];generalize y.getD o.length false=q;intro fin;rw[<-fin];cases p <;> cases q <;> cases c <;>
   simp only[AZ,AQ,CC,w1,w2,w3,zXa,Am,Bg,Bk,B4,BS,DD,Sh.f80,Sh.f7z,AK,J3 (show (2:Int)≠0 by decide),DN,RR,Dw,app,Do,CI,hw,bn] <;> rfl
 ·have h':¬((o.length:Int)<=max (x.length:Int) (y.length:Int)):=by omega
  obtain⟨G,hG⟩:=GA (f:=cB) (ty:=BZ) (sz:=1) H o;have bx:=K9 x;have by':=K9 y;have px:2^x.length*2<=2^o.length:=by rw[<-Nat.pow_succ];exact Wx (by omega) (by omega)
  have py:2^y.length*2<=2^o.length:=by rw[<-Nat.pow_succ];exact Wx (by omega) (by omega)
  rw[WP (by omega),WP (by omega)]at he;have hc:c=false:=by
   cases c with
   | false=>rfl
   | true=>exfalso;simp only[bn,if_true,VY]at he;omega
  subst hc;have gL:Bp o=Bp x+Bp y:=by simpa[bn]using he
  simp only[h',decide_false,AQ,Fu,hG,S0 o _ _ (by omega),CI,Cv,Iv,zXb,gL]
theorem q01_sub (a b:List Nat)(ta tb:Tok)(H:Aa)(ha:a.length<=1099511627776)(hb:b.length<=1099511627776)(la:Lim a)(lb:Lim b) :
  Sh.f2z (.sl (enL cU a) ta) (.sl (enL cU b) tb) H=some (.ret (.tup [.sl (enL cU (if val b<=val a then AA (val a-val b)else [])) .no,.bool (decide (val b<=val a))]),H):=by
 have c1:=Iz (AV a);rw[Cu]at c1;unfold Sh.f2z;simp only[q01_cmp a b ta tb H ha hb la lb,CI,Br,zXa];by_cases hv:val b<=val a
 ·have hc:¬(cmpI (val a) (val b)<0):=by unfold cmpI;split <;> (try split) <;> omega
  have hx:Bp (Dx (AV a))=val a:=by rw[E7,EN a la]
  have hy:Bp (Dx (AV b))=val b:=by rw[E7,EN b lb]
  simp only[hc,decide_false,AQ,HQ a ta H (by omega) la,HQ b tb H (by omega) lb,CI,hv,if_true,decide_true];rw[<-hx,<-hy]at hv ⊢;generalize Dx (AV a)=x at c1 hv ⊢;generalize Dx (AV b)=y at hv ⊢;refine Bq (σ:=List Bool×Bool) (λs=>s.1.length<=x.length/\Bp s.1+Bp y%2^s.1.length=Bp x%2^s.1.length+2^s.1.length*bn s.2) (λs=>[.sl (enL cB x) .no,.sl (enL cB y) .no,DG cB H s.1,.i6 (if s.2 then 1 else 0),.i6 (s.1.length:Int)]) (λs=>DF cB BZ 1 H s.1) (λs=>x.length-s.1.length)
   (λ_=>some (.ret (.tup [.sl (enL cU (AA (Bp x-Bp y))) .no,.bool true]),H)) (λs rec hs hrec=>?_) ([],false) ⟨by simp,by simp[Bp,bn,Nat.mod_one]⟩ (by simp;omega)
  obtain⟨o,c⟩:=s;obtain⟨ho,he⟩:=hs;simp only at ho he hrec ⊢;unfold Sh.f87;simp only[Am,Bg,Bk,B4,BS,Ax,zXa,Br];by_cases h:o.length<x.length
  ·have h':((o.length:Int)<(x.length:Int)):=by omega
   have hw:IntKind.i64.wrap ((o.length:Int)+1)=((o.length+1:Nat):Int):=by rw[Ao] <;> omega
   have ax:∀(m:List Bool) (H:Aa),Sh.f8 (.sl (enL cB m) .no) (.i6 (o.length:Int)) H=some (.ret (.bool (m.getD o.length false)),H):=λm H=>by rw[q01_at,zXl];simp
   have app:∀s:Bool,AW BZ 1 1 (DG cB H o) (.sl (enL cB [s]) .ti) (DF cB BZ 1 H o)=some (DG cB H (o++[s]),DF cB BZ 1 H (o++[s])):=λs=>Ex (by simp) (by simp;omega) (by simp;omega);have n0:unA .neg (.i6 0)=some (.i6 0):=by rw[show unA .neg (.i6 0)=some (.i6 (IntKind.i64.wrap (0-0))) from rfl,show IntKind.i64.wrap (0-0)=0 from by decide]
   have n1:unA .neg (.i6 1)=some (.i6 (-1)):=by rw[show unA .neg (.i6 1)=some (.i6 (IntKind.i64.wrap (0-1))) from rfl,show IntKind.i64.wrap (0-1) = -1 from by decide]
   have w1:IntKind.i64.wrap (0+1)=1:=by decide
   have w2:IntKind.i64.wrap (-1+1)=0:=by decide
   have w3:IntKind.i64.wrap (0-1) = -1:=by decide
   have w4:IntKind.i64.wrap (1-1)=0:=by decide
   have w5:IntKind.i64.wrap (-1-1) = -2:=by decide
   have w6:IntKind.i64.wrap (-1+2)=1:=by decide
   have w7:IntKind.i64.wrap (-2+2)=0:=by decide
   have fin:rec [.sl (enL cB x) .no,.sl (enL cB y) .no,DG cB H (o++[subS (x.getD o.length false) (y.getD o.length false) c]),.i6 (if subC (x.getD o.length false) (y.getD o.length false) c then 1 else 0),.i6 ((o.length+1:Nat):Int)] (DF cB BZ 1 H (o++[subS (x.getD o.length false) (y.getD o.length false) c]))=some (.ret (.tup [.sl (enL cU (AA (Bp x-Bp y))) .no,.bool true]),H):=by
    have:=hrec (o++[subS (x.getD o.length false) (y.getD o.length false) c],subC (x.getD o.length false) (y.getD o.length false) c) ⟨by simp;omega,?_⟩ (by simp;omega)
    ·simpa using this
    ·simp only[VO,zXi];rw[O2 x,O2 y,D6,Nat.pow_succ];generalize x.getD o.length false=p;generalize y.getD o.length false=q;generalize 2^o.length=z at he ⊢;cases p <;> cases q <;> cases c <;> simp[bn,Bp,subS,subC,subN]at he ⊢ <;> omega
   simp only[h',decide_true,AZ,AK,ax,CI];revert fin;generalize x.getD o.length false=p;simp only[Sh.f86,AK,Am,Bg,Bk,B4,BS,DD,ax,CI];generalize y.getD o.length false=q;intro fin;rw[<-fin];cases p <;> cases q <;> cases c <;>
    simp[n0,n1,w1,w2,w3,w4,w5,w6,w7,Sh.f85,Sh.f84,AK,RR,app,hw,subS,subC,subN]
  ·have h':¬((o.length:Int)<(x.length:Int)):=by omega
   obtain⟨G,hG⟩:=GA (f:=cB) (ty:=BZ) (sz:=1) H o;have bx:=K9 x;have bo:=K9 o;have aH:x.length=o.length:=by omega
   rw[aH]at bx;rw[WP bx,WP (by omega)]at he;have hc:c=false:=by
    cases c with
    | false=>rfl
    | true=>exfalso;simp only[bn,if_true,VY]at he;omega
   subst hc;have gL:Bp o=Bp x-Bp y:=by simp[bn]at he;omega
   simp only[h',decide_false,AQ,Fu,hG,S0 o _ _ (by omega),CI,Cv,Ch,Bu,B6,IU,Fb,zXa,zXb,gL]
 ·have hc:cmpI (val a) (val b)<0:=by unfold cmpI;rw[if_pos (by omega)];decide
  simp[hc,hv,HI]
def A2 (z:Int):List Ab:=[.bool (decide (z<0)),.sl (enL cU (AA z.natAbs)) .no]
def big (z:Int):Ab:=.agg (A2 z)
def LB (z:Int):Prop:=(AA z.natAbs).length<=549755813888
theorem VA (z:Int):(A2 z).all Ab.isScal=true:=by simp[A2]
@[simp] theorem bigC_g0 (z:Int)(h:0<(A2 z).length):(A2 z)[0]=.bool (decide (z<0)):=(rfl)
@[simp] theorem bigC_g1 (z:Int)(h:1<(A2 z).length):(A2 z)[1]=.sl (enL cU (AA z.natAbs)) .no:=(rfl)
@[simp] theorem bigC_0 (z:Int):(A2 z)[0]? = some (.bool (decide (z<0))):=(rfl)
@[simp] theorem bigC_1 (z:Int):(A2 z)[1]? = some (.sl (enL cU (AA z.natAbs)) .no):=(rfl)
@[simp] theorem TF (z:Int):(big z).acells=some (A2 z):=BW (VA z)
theorem big_sgn (neg:Bool)(n:Nat):[Ab.bool (sgn neg n),.sl (enL cU (AA n)) .no]=A2 (if neg then -(n:Int)else n):=by
 unfold A2;have e1:sgn neg n=decide ((if neg then -(n:Int)else (n:Int))<0):=by
  unfold sgn;cases neg with
  | false=>simp
  | true=>
   by_cases h:n=0
   ·subst h;rfl
   ·have:(-(n:Int))<0:=by omega
    simp[h,this];omega
 have e2:(if neg then -(n:Int)else (n:Int)).natAbs=n:=by cases neg <;> simp
 rw[e1,e2]
theorem QR (n:Nat):(decide (((AA n).length:Int)>0))=decide (n≠0):=by
 by_cases h:n=0
 ·subst h;rw[ED];rfl
 ·have:=Wq.2 (O9 h);have h1:((AA n).length:Int)>0:=by omega
  rw[zXc h1,zXc h]
@[simp] theorem fcells_big {H:Aa}{n d:Nat}{z:Int}:Ge H n (d+2) (A2 z)=some (A2 z):=by simp[A2]
@[simp] theorem fall_big {H:Aa}{n d:Nat}{z:Int}:Hs H n (d+3) (big z)=some (big z):=by simp[big]
@[simp] theorem Nm {H:Aa}{n d:Nat}{z:Int}:Fc H n (d+3) (big z)=some (big z):=by simp[big]
@[simp] theorem forget_big {z:Int}:forget (big z)=big z:=by simp[big,A2]
@[simp] theorem bigC_length (z:Int):(A2 z).length=2:=(rfl)
@[simp] theorem TK (z:Int):Ab.agg (A2 z)=big z:=(rfl)
@[simp] theorem putN_big (cs:List Ab)(z:Int)(h:cs.length=2):CX cs 0 2 (A2 z)=A2 z:=Dp h
theorem DI (z:Int)(H:Aa):BD true 2 (big z) H=some (.ptr H.length 0 0,H++[.cel 0 (A2 z)]):=Co (VA z) rfl
theorem Ou (neg:Bool)(l:List Nat)(tk:Tok)(H:Aa)(hl:l.length<=1099511627776)(hx:Lim l):Sh.fe (.bool neg) (.sl (enL cU l) tk) H=some (.ret (big (if neg then -(val l:Int)else val l)),H):=by
 unfold Sh.fe big;rw[<-big_sgn];have hp:=QR (val l);cases neg with
 | false=>simp[q01_norm _ _ _ hl hx,A6,Gq,CX,sgn,BW]
 | true=>
  simp only[Jz,C9,zXa,Ax,Dw,hp,sgn,zXn,alloc_eq (cs:=[.bool false,.sl [] .ti]) rfl,Bv,q01_norm _ _ _ hl hx,CI];simp[A6,Gq,CX,BW]
theorem UQ (neg:Bool)(l:List Nat)(tk:Tok)(H:Aa)(hl:l.length<=1099511627776)(hx:Lim l):Sh.fh (.agg [.bool neg,.sl (enL cU l) tk]) H=some (.ret (big (-(DV neg l))),H):=by
 have ez:(if neg=false then -(val l:Int)else (val l:Int)) = -(DV neg l):=by cases neg <;> simp[DV]
 unfold Sh.fh;simp[Co,Ou _ l tk _ hl hx,ez]
theorem Lp (z:Int):DV (decide (z<0)) (AA z.natAbs)=z:=by
 unfold DV;rw[BB];by_cases h:z<0
 ·simp[h];omega
 ·simp[h];omega
theorem Pq (neg:Bool)(l:List Nat):(DV neg l).natAbs=val l:=by cases neg <;> simp[DV]
theorem q02_add (n1 n2:Bool)(l1 l2:List Nat)(t1 t2:Tok)(H:Aa)(h1:l1.length<=549755813888)(h2:l2.length<=549755813888)(x1:Lim l1)(x2:Lim l2) :
  Sh.f2 (.agg [.bool n1,.sl (enL cU l1) t1]) (.agg [.bool n2,.sl (enL cU l2) t2]) H=some (.ret (big (DV n1 l1+DV n2 l2)),H):=by
 have v1:=RW l1 x1;have v2:=RW l2 x2;have p1:=JR (show l1.length<=max l1.length l2.length by omega);have p2:=JR (show l2.length<=max l1.length l2.length by omega);have p3:(4294967296:Nat)^(max l1.length l2.length+1)=4294967296^max l1.length l2.length*4294967296:=Nat.pow_succ _ _;have sg:∀(neg:Bool) (m:Nat) (tk:Tok) (H:Aa),m<4294967296^(max l1.length l2.length+1)->Sh.fe (.bool neg) (.sl (enL cU (AA m)) tk) H=some (.ret (big (if neg then -(m:Int)else m)),H):=by
  intro neg m tk H hm;have:=Ou neg (AA m) tk H (by have:=EW hm;omega) (Bz m)
  rwa [BB]at this
 unfold Sh.f2;by_cases hn:n1=n2
 ·subst hn;have ez:(if n1=true then -((val l1:Int)+(val l2:Int))else ((val l1:Int)+(val l2:Int)))=DV n1 l1+DV n1 l2:=by cases n1 <;> simp[DV] <;> omega
  simp[W5,Co,Ks,BP,q01_add _ _ _ _ _ (show l1.length<=1099511627776 by omega) (show l2.length<=1099511627776 by omega) x1 x2,sg n1 (val l1+val l2) _ _ (by omega),ez]
 ·have hb:(n1 == n2)=false:=by simpa using hn
  by_cases hv:val l2<=val l1
  ·have ez:(if n1=true then -((val l1-val l2:Nat):Int)else ((val l1-val l2:Nat):Int))=DV n1 l1+DV n2 l2:=by cases n1 <;> cases n2 <;> simp[DV]at hn ⊢ <;> omega
   simp[W5,Co,Ks,hb,q01_sub _ _ _ _ _ (show l1.length<=1099511627776 by omega) (show l2.length<=1099511627776 by omega) x1 x2,hv,sg n1 (val l1-val l2) _ _ (by omega),ez]
  ·have ez:(if n2=true then -((val l2-val l1:Nat):Int)else ((val l2-val l1:Nat):Int))=DV n1 l1+DV n2 l2:=by cases n1 <;> cases n2 <;> simp[DV]at hn ⊢ <;> omega
   have aP:val l1<=val l2:=by omega
   simp[W5,Co,Ks,hb,q01_sub _ _ _ _ _ (show l1.length<=1099511627776 by omega) (show l2.length<=1099511627776 by omega) x1 x2,q01_sub _ _ _ _ _ (show l2.length<=1099511627776 by omega) (show l1.length<=1099511627776 by omega) x2 x1,hv,aP,sg n2 (val l2-val l1) _ _ (by omega),ez]
theorem Q5 (z:Int):big z=.agg [.bool (decide (z<0)),.sl (enL cU (AA z.natAbs)) .no]:=rfl
theorem HP (a b:Int)(H:Aa)(ha:LB a)(hb:LB b):Sh.f2 (big a) (big b) H=some (.ret (big (a+b)),H):=by
 rw[Q5 a,Q5 b,q02_add _ _ _ _ _ _ _ ha hb (Bz _) (Bz _),Lp,Lp]
theorem IH (a:Int)(H:Aa)(ha:LB a):Sh.fh (big a) H=some (.ret (big (-a)),H):=by
 rw[Q5 a,UQ _ _ _ _ (by unfold LB at ha;omega) (Bz _),Lp]
theorem LB.neg {a:Int}(h:LB a):LB (-a):=by unfold LB at *;rwa [Int.natAbs_neg]
theorem LB.of {a:Int}{k:Nat}(h:a.natAbs<4294967296^k)(hk:k<=549755813888):LB a:=Wm (EW h) hk
theorem Sy (a b:Int)(H:Aa)(ha:LB a)(hb:LB b):Sh.fi (big a) (big b) H=some (.ret (big (a-b)),H):=by
 unfold Sh.fi;simp[W5,DI,BP,IH _ _ hb,HP _ _ _ ha hb.neg,Int.sub_eq_add_neg]
def FD (a b:Int):Int:=if a<b then -1 else if a=b then 0 else 1
theorem ES (a b:Int)(H:Aa)(ha:LB a)(hb:LB b):Sh.f0 (big a) (big b) H=some (.ret (.i6 (FD a b)),H):=by
 unfold Sh.f0;simp only[DI,Bv,VP,List.singleton_append];simp[W5,DI,Sy _ _ _ ha hb];unfold FD;by_cases h0:a=b
 ·subst h0;simp[ED]
 ·have hne:AA (a-b).natAbs≠[]:=O9 (by omega);have hp:=Wq.2 hne;have hz:(((AA (a-b).natAbs).length:Int) == 0)=false:=by rw[beq_eq_false_iff_ne];omega
  have lQ:¬((AA (a-b).natAbs).length:Int)=0:=by omega
  have wF:¬AA (a-b).natAbs=[]:=hne;by_cases hn:a<b
  ·have:a-b<0:=by omega
   simp[hz,lQ,wF,hn,this]
  ·have:¬(a-b<0):=by omega
   simp[hz,lQ,wF,hn,this,h0]
theorem repl1 (n:Nat)(v:Ab):Mb n [v]=List.replicate n v:=by
 induction n with
 | zero=>rfl
 | succ n ih=>simp only[Mb,zXm,List.flatten_cons]at ih ⊢;rw[ih];rfl
theorem chunk1 (n:Nat)(v:Ab):GJ 1 n (List.replicate n v)=List.replicate n [v]:=by
 induction n with
 | zero=>rfl
 | succ n ih=>simp only[GJ,zXm,List.take_succ_cons,List.take_zero,Y9,Xe,ih]
theorem make_one {bytes n:Nat}{v:Ab}{H:Aa}(hv:v.isScal=true)(hb:n*bytes<=140737488355328)(hn:n<=140737488355328):F6 1 bytes (some [v]) (.i6 (n:Int)) (.i6 (n:Int)) H=some (.ms H.length 0 0 n n 1 true,H++[.cel 0 (List.replicate n v)]):=by
 unfold F6;simp only[zXa];have h1:((n:Int)*(bytes:Int))<=140737488355328:=by
   have:((n*bytes:Nat):Int)<=140737488355328:=by omega
   simpa using this
 rw[if_pos ⟨by simp[hv],rfl,by omega,by omega,h1,by omega⟩,repl1];simp
theorem elems_ms {H:Aa}{n:Nat}:Ci 1 (.ms H.length 0 0 n n 1 true) (H++[.cel 0 (List.replicate n (.bool false))])=some (enL cB (List.replicate n false)):=by
 have hm:(List.replicate n (Ab.bool false)).map L8=List.replicate n (.bool false):=by simp[L8]
 have hi:(List.replicate n (Ab.bool false)).all BI=true:=by simp[BI]
 simp only[Ci,if_true,get_app0,JX,zXa,Xe,VK,VY,XW,VV (show (List.replicate n (Ab.bool false)).length<=n by simp),hm,hi,VL,and_self,chunk1];simp[enL]
theorem q01_of_ms (B:Aa)(n:Nat)(hn:n<=140737488355328):Sh.fn (.ms B.length 0 0 n n 1 true) (B++[.cel 0 (List.replicate n (.bool false))])=some (.ret (.sl [] .no),B++[.cel 0 (List.replicate n (.bool false))]):=by
 unfold Sh.fn Sh.f1x;have hc:∀K:Aa,Ap (λrec1 vs H1=>Sh.f5e K rec1 (ag vs 0) H1) AU [.ms B.length 0 0 n n 1 true] (B++[.cel 0 (List.replicate n (.bool false))])
   = some (.ret (.ms B.length 0 0 0 n 1 true),B++[.cel 0 (List.replicate n (.bool false))]):=by
  intro K;refine Bq (σ:=Nat) (λk=>k<=n) (λk=>[.ms B.length 0 0 k n 1 true]) (λ_=>B++[.cel 0 (List.replicate n (.bool false))]) (λk=>k) (λ_=>some (.ret (.ms B.length 0 0 0 n 1 true),B++[.cel 0 (List.replicate n (.bool false))])) (λk rec hk hrec=>?_) n (VL _) (by omega);unfold Sh.f5e;cases k with
  | zero=>simp[forget,Ep,fgt]
  | succ k=>
   have hpos:((k+1:Nat):Int)>0:=by omega
   have hw:IntKind.i64.wrap (((k+1:Nat):Int)-1)=(k:Int):=by rw[Ao] <;> omega
   have hidx:Av 1 (.ms B.length 0 0 (k+1) n 1 true) (.i6 (k:Int))=some (.ptr B.length 0 k):=by
    unfold Av;simp only[];rw[if_pos ⟨trivial,by omega,by omega⟩];simp
   have qJ:Ad false 1 (.ptr B.length 0 k) (B++[.cel 0 (List.replicate n (.bool false))])=some (.bool false):=by
    rw[Fy,Hp,XM,if_pos (by omega)]
   have hsl:Bw 1 (.ms B.length 0 0 (k+1) n 1 true) none (some (.i6 (k:Int))) none=some (.ms B.length 0 0 k n 1 true):=by
    have:(0:Int)<=(k:Int):=by omega
    simp only[Bw,By,zXa,this,if_true,zXl];rw[if_pos ⟨trivial,by omega,by omega,by omega⟩];simp
   simp only[Am,len_ms,zXa,Dw,hpos,decide_true,Jz,Dv,hw,hidx,qJ,J5,C9,WL,AZ,hsl];exact hrec k (by omega) (by omega)
 rw[hc];simp only[CI];rw[DQ Fa];unfold Sh.f5f;simp
theorem q01_shl (l:List Nat)(tk:Tok)(m:Nat)(H:Aa)(hm:m<=10000)(hl:l.length<=549755813888)(hx:Lim l) :
  Sh.f5g (.sl (enL cU l) tk) (.i6 (m:Int)) H=some (.ret (.sl (enL cU (AA (2^m*val l))) .no),H):=by
 unfold Sh.f5g;have h0:¬(m:Int)<0:=by omega
 have h1:¬(m:Int)>10000:=by omega
 have hc:=Iz (AV l);rw[Cu]at hc;simp only[Br,zXa,zXd h0,Ms,Dw,zXd h1,C2,AQ,HQ l tk H (by omega) hx,BA,make_one (bytes:=1) (v:=.bool false) rfl (show m*1<=140737488355328 by omega) (by omega),Bv];by_cases hv:val l=0
 ·have e:Dx (AV l)=[]:=cutL_nat0 (by rw[EN l hx];exact hv);rw[e,HI,DW (by rw[elems_ms];rfl)];simp[q01_of_ms H m (by omega),hv,ED,HI]
 ·have hne:Dx (AV l)≠[]:=λe=>hv (by rw[<-EN l hx,<-E7,e];rfl);have ha:AW BZ 1 1 (.ms H.length 0 0 m m 1 true) (.sl (enL cB (Dx (AV l))) .no) (H++[.cel 0 (List.replicate m (.bool false))])
    = some (.sl (enL cB (List.replicate m false++Dx (AV l))) (.own (H.length+1)),H++[.cel 0 (List.replicate m (.bool false))]++[.tok (m+(Dx (AV l)).length) BZ 1]):=by
   have hl0:(enL cB (Dx (AV l))).length≠0:=by simpa using hne
   unfold AW;rw[show Ci 1 (.sl (enL cB (Dx (AV l))) .no) (H++[.cel 0 (List.replicate m (.bool false))])=some (enL cB (Dx (AV l))) from by simp[Ci,all_enL],elems_ms];simp only[zXa];rw[if_neg hl0,if_pos (by simp;omega),if_pos (by simp;exact Wq.2 hne)];simp[enL_append]
  rw[ha];simp only[Do,BA,VP];rw[S0 _ _ _ (by simp;omega)];simp only[BA,Cv,Iv,zXb,nat1_repl,E7,EN l hx]
theorem q02_shl (z:Int)(m:Nat)(H:Aa)(hm:m<=10000)(hz:LB z)(lQ:LB (z*2^m)) :
  Sh.f5h (big z) (.i6 (m:Int)) H=some (.ret (big (z*2^m)),H):=by
 have e:(z*2^m).natAbs=2^m*z.natAbs:=by rw[Int.natAbs_mul,Y6,Xa];rfl
 have hp:(0:Int)<2^m:=X2 (by omega);have hs:∀tk H,Sh.fe (.bool (decide (z<0))) (.sl (enL cU (AA (2^m*z.natAbs))) tk) H=some (.ret (big (z*2^m)),H):=by
  intro tk H;rw[Ou _ _ _ _ (by rw[<-e];unfold LB at lQ;omega) (Bz _),BB]
  congr 3
  have:((2^m*z.natAbs:Nat):Int)=2^m*(z.natAbs:Int):=by simp
  by_cases h:z<0
  ·simp only[h,decide_true,if_true,this];rw[show ((z.natAbs:Nat):Int) = -z from by omega,Int.mul_neg,Int.neg_neg,Int.mul_comm]
  ·simp only[h,decide_false,VN,if_false,this];rw[show ((z.natAbs:Nat):Int)=z from by omega,Int.mul_comm]
 unfold Sh.f5h;simp[DI,BP,q01_shl _ _ _ _ hm hz (Bz _),BB,hs]
theorem JK {n:Int}(h0:-18446744073709551616<=n)(h:n<0):IntKind.u64.wrap n=n+18446744073709551616:=by
 have h1:IntKind.u64.bits=64:=rfl;have h2:IntKind.u64.signed=false:=rfl;unfold IntKind.wrap;simp only[h1,h2,WZ,VN,if_false];omega
theorem build_2U (x y:Nat):AS 1 [.int .u32 (x:Int),.int .u32 (y:Int)]=some (.sl (enL cU [x,y]) .ti):=by simp[AS,Db,L8,BI,Ab.acells,enL]
theorem q02_of (n:Int)(H:Aa)(h0:-9223372036854775808<=n)(h1:n<=9223372036854775807):Sh.fu (.i6 n) H=some (.ret (big n),H):=by
 obtain⟨u,hu⟩:∃u:Nat,u=n.natAbs:=⟨_,rfl⟩;have hlim:Lim [u%4294967296,u / 4294967296]:=λx hx=>by
  simp at hx;rcases hx with rfl | rfl <;> omega
 have bB:val [u%4294967296,u / 4294967296]=u:=by simp[val];omega
 have ez:(if decide (n<0)=true then -(u:Int)else (u:Int))=n:=by
  by_cases h:n<0 <;> simp[h] <;> omega
 have a1:=λH=>Ou (decide (n<0)) [u%4294967296,u / 4294967296] .ti H (by simp) hlim;simp only[bB,ez]at a1;have e1:((u:Int).tmod 4294967296)=((u%4294967296:Nat):Int):=rfl;have e2:IntKind.u64.wrap ((u:Int).tdiv 4294967296)=((u / 4294967296:Nat):Int):=by rw[show (u:Int).tdiv 4294967296=((u / 4294967296:Nat):Int) from rfl,Cr] <;> omega
 have e3:IntKind.u32.wrap ((u%4294967296:Nat):Int)=((u%4294967296:Nat):Int):=by rw[Dn] <;> omega
 have e4:IntKind.u32.wrap ((u / 4294967296:Nat):Int)=((u / 4294967296:Nat):Int):=by rw[Dn] <;> omega
 have j1:Sh.f7e H (.i6 n) (.ptr H.length 0 0) (.int .u64 (u:Int)) (H++[.cel 0 [.bool false,.sl [] .ti]])=some (.ret (big n),H):=by
  unfold Sh.f7e;simp only[Br,zXa,J3 (show (4294967296:Int)≠0 by decide),RT (show (4294967296:Int)≠0 by decide),e1,e2,B3,e3,e4,build_2U,a1,CI];simp
 unfold Sh.fu;simp only[alloc_eq (cs:=[.bool false,.sl [] .ti]) rfl,Bv,B3,zXa,AK,Br,Am,Bg,Bk];by_cases h:n<0
 ·have w:IntKind.u64.wrap (0-IntKind.u64.wrap n)=(u:Int):=by
   rw[JK (n:=n) (by omega) h,JK (by omega) (by omega)];omega
  have un:unA .neg (.int .u64 (IntKind.u64.wrap n))=some (.int .u64 (u:Int)):=by
   rw[show unA .neg (.int .u64 (IntKind.u64.wrap n))=some (.int .u64 (IntKind.u64.wrap (0-IntKind.u64.wrap n))) from rfl,w]
  rw[zXc h];simp only[AZ,un,zXa,Am,Bg,Bk];exact j1
 ·have w:IntKind.u64.wrap n=(u:Int):=by rw[Cr (by omega) (by omega)];omega
  rw[zXd h];simp only[AQ,w,Am,Bg,Bk];exact j1
theorem LB_pow (m:Nat)(hm:m<=20000):LB (2^m):=by
 refine LB.of (k:=m+1) ?_ (by omega);rw[Y6];have:(2:Nat)^m<2^(32*(m+1)):=Y3 (by omega) (by omega);rw[Ym]at this;exact this
theorem LB_one:LB 1:=LB_pow 0 (by omega)
theorem Ip (m:Nat)(H:Aa)(hm:m<=10000):Sh.f7 (.i6 (m:Int)) H=some (.ret (big (2^m)),H):=by
 have hs:=λH=>q02_shl 1 m H hm LB_one (by rw[Int.one_mul];exact LB_pow m (by omega));simp only[Int.one_mul]at hs;unfold Sh.f7;simp[q02_of 1 _ (by omega) (by omega),hs]
def Hf (z:Int):Bool:=decide (-9223372036854775808<=z/\z<=9223372036854775807)
def TT (z:Int):Int:=if Hf z then z else 0
theorem val_drop (l:List Nat)(i:Nat)(h:i<l.length):val (l.drop i)=l[i]+4294967296*val (l.drop (i+1)):=by
 rw[Wo h,val]
theorem val_drop_le (l:List Nat)(i:Nat):4294967296^i*val (l.drop i)<=val l:=by
 induction l generalizing i with
 | nil=>simp[val]
 | cons a l ih=>
  cases i with
  | zero=>simp
  | succ i=>have:=ih i;simp only[Y9,val,Nat.pow_succ];rw[Xa (4294967296^i) 4294967296,Xs];omega
theorem wrap_neg {u:Nat}(h:u<=9223372036854775808):IntKind.i64.wrap (IntKind.u64.wrap (0-(u:Int))) = -(u:Int):=by
 have h1:IntKind.i64.bits=64:=rfl;have h2:IntKind.i64.signed=true:=rfl;by_cases h0:u=0
 ·subst h0;decide
 ·rw[JK (by omega) (by omega)];unfold IntKind.wrap;simp only[h1,h2,zXn,zXe];split <;> omega
theorem q02_int (neg:Bool)(l:List Nat)(tk:Tok)(H:Aa)(hl:l.length<=549755813888)(hx:Lim l):Sh.fv (.agg [.bool neg,.sl (enL cU l) tk]) H=some (.ret (.tup [.i6 (TT (DV neg l)),.bool (Hf (DV neg l))]),H):=by
 unfold Sh.fv;have hw:IntKind.i64.wrap ((l.length:Int)-1)=(l.length:Int)-1:=by rw[Ao] <;> omega
 simp only[Co (cs:=[.bool neg,.sl (enL cU l) tk]) (sz:=2) rfl rfl,Bv,Ah,zXa,Fy,Hp,VK,List.getElem?_cons_succ,zXh,Ax,Dv,hw];refine Bq (σ:=Nat) (λi=>i<=l.length/\val (l.drop i)<18446744073709551616) (λi=>[.ptr H.length 0 0,.int .u64 ((val (l.drop i):Nat):Int),.i6 ((i:Int)-1)]) (λ_=>H++[.cel 0 [.bool neg,.sl (enL cU l) tk]]) (λi=>i)
  (λ_=>some (.ret (.tup [.i6 (TT (DV neg l)),.bool (Hf (DV neg l))]),H)) (λi rec hi hrec=>?_) l.length ⟨VL _,by simp[val]⟩ (by omega) |> λh=>by simpa[val]using h
 obtain⟨hi,hv⟩:=hi;unfold Sh.f88;cases i with
 | zero=>
  simp only[Xe]at hv ⊢;have kZ:¬(((0:Nat):Int)-1>=0):=by omega
  have un:unA .neg (.int .u64 ((val l:Nat):Int))=some (.int .u64 (IntKind.u64.wrap (0-((val l:Nat):Int)))):=rfl;simp only[Am,Bg,Bk,I6,kZ,decide_false,zXa,AQ,Ah,Fy,Hp,VK,zXh];cases neg with
  | true=>
   by_cases h:val l<=9223372036854775808
   ·have h':((val l:Nat):Int)<=9223372036854775808:=by omega
    have hok:Hf (DV true l)=true:=by simp[Hf,DV];omega
    have lT:=wrap_neg h;rw[Int.zero_sub]at lT;simp[h',un,B3,lT,TT,hok];simp[DV]
   ·have h':¬((val l:Nat):Int)<=9223372036854775808:=by omega
    have hok:Hf (DV true l)=false:=by simp[Hf,DV];omega
    simp[h',TT,hok]
  | false=>
   by_cases h:val l<=9223372036854775807
   ·have h':¬((val l:Nat):Int)>9223372036854775807:=by omega
    have hok:Hf (DV false l)=true:=by simp[Hf,DV];omega
    have hw:IntKind.i64.wrap ((val l:Nat):Int)=((val l:Nat):Int):=by rw[Ao] <;> omega
    simp[h',B3,hw,TT,hok];simp[DV]
   ·have h':((val l:Nat):Int)>9223372036854775807:=by omega
    have hok:Hf (DV false l)=false:=by simp[Hf,DV];omega
    simp[h',TT,hok]
 | succ i=>
  have e:((i+1:Nat):Int)-1=(i:Int):=by omega
  have hge:(i:Int)>=0:=by omega
  have hil:i<l.length:=by omega
  have aH:l[i]<4294967296:=hx _ (VW hil);have hd:=val_drop l i hil;have hle:=val_drop_le l (i+1);simp only[Am,Bg,Bk,e,I6,hge,decide_true,zXa,AZ,Dw];by_cases h:val (l.drop (i+1))<=4294967295
  ·have h':¬((val (l.drop (i+1)):Nat):Int)>4294967295:=by omega
   have w1:IntKind.u64.wrap (((val (l.drop (i+1)):Nat):Int)*4294967296)=((val (l.drop (i+1)):Nat):Int)*4294967296:=by rw[Cr] <;> omega
   have w2:IntKind.u64.wrap (((l[i]:Nat):Int))=((l[i]:Nat):Int):=by rw[Cr] <;> omega
   have w3:IntKind.u64.wrap (((val (l.drop (i+1)):Nat):Int)*4294967296+((l[i]:Nat):Int))=((val (l.drop i):Nat):Int):=by rw[Cr,hd] <;> omega
   have w4:IntKind.i64.wrap ((i:Int)-1)=(i:Int)-1:=by rw[Ao] <;> omega
   simp only[h',decide_false,AQ,I5,w1,Ah,zXa,Fy,Hp,VK,List.getElem?_cons_succ,zXh,A1 hil,AE,B3,w2,CC,w3,Dv,w4];exact hrec i ⟨by omega,by omega⟩ (by omega)
  ·have h':((val (l.drop (i+1)):Nat):Int)>4294967295:=by omega
   have rR:18446744073709551616<=val l:=by
    have:4294967296^1*4294967296<=4294967296^(i+1)*val (l.drop (i+1)):=XQ (Wx (by omega) (by omega)) (by omega);omega
   have hok:Hf (DV neg l)=false:=by cases neg <;> simp[Hf,DV] <;> omega
   simp[h',TT,hok]
theorem q02_intZ (z:Int)(H:Aa)(h:LB z):Sh.fv (big z) H=some (.ret (.tup [.i6 (TT z),.bool (Hf z)]),H):=by
 rw[Q5,q02_int _ _ _ _ h (Bz _),Lp]
def HC (neg:Bool)(l:List Nat):Bool:=Gb l && !(neg&&l.isEmpty)
theorem UP (neg:Bool)(l:List Nat)(tk:Tok)(H:Aa)(hl:l.length<=549755813888):Sh.f3a (.agg [.bool neg,.sl (enL cU l) tk]) H=some (.ret (.bool (HC neg l)),H):=by
 unfold Sh.f3a HC;have hq:=λH=>q01_right l tk H (by omega);cases hr:Gb l with
 | false=>simp[Co,hq,hr]
 | true=>
  cases neg with
  | false=>simp[Co,hq,hr]
  | true=>cases l <;> simp[Co,hq,hr] <;> omega
theorem bigC_ok {n:Bool}{l:List Nat}(h:HC n l=true)(hx:Lim l):[Ab.bool n,.sl (enL cU l) .no]=A2 (DV n l):=by
 simp only[HC,VU,WM]at h;obtain⟨h1,h2⟩:=h;have hn:Nrm l:=(NP hx).1 h1;unfold A2;rw[Pq,<-Mm hn]
 congr 2
 unfold DV;cases n with
 | false=>simp
 | true=>
  have hl:l≠[]:=λe=>by subst e;simp at h2
  have:val l≠0:=λe=>hl (hn.zero e);simp;omega
theorem LB_zero:LB 0:=by unfold LB;simp[ED]
structure Cl where
 x:Int
 y:Int
 s:UInt8
deriving DecidableEq
def cCl (c:Cl):List Ab:=[.bool (decide (c.x<0)),.sl (enL cU (AA c.x.natAbs)) .no,.bool (decide (c.y<0)),.sl (enL cU (AA c.y.natAbs)) .no,.int .u8 (c.s.toNat:Int)]
instance:Sz cCl 5:=⟨λ_=>rfl⟩
instance:Pl cCl:=⟨λ_=>rfl⟩
def cBig (z:Int):List Ab:=A2 z
instance:Sz cBig 2:=⟨λ_=>rfl⟩
instance:Pl cBig:=⟨λ_=>rfl⟩
def SB (k:Nat)(z:Int):Prop:=z.natAbs<4294967296^k
theorem SB.lb {k:Nat}{z:Int}(h:SB k z)(hk:k<=549755813888):LB z:=LB.of h hk
theorem SB.mono {k m:Nat}{z:Int}(h:SB k z)(hm:k<=m):SB m z:=WH h (JR hm)
theorem SB.add {k:Nat}{a b:Int}(ha:SB k a)(hb:SB k b):SB (k+1) (a+b):=by
 unfold SB at *;have:4294967296^(k+1)=4294967296^k*4294967296:=Nat.pow_succ _ _;omega
theorem SB_powk {m k:Nat}(h:m<32*k):SB k (2^m):=by
 have e:((2:Int)^m).natAbs=2^m:=by rw[Y6];rfl
 unfold SB;rw[e];exact pow32_lt h
theorem SB_pow {m:Nat}(h:m<=10000):SB 313 (2^m):=SB_powk (WB h (by decide))
def Cl.ok (c:Cl):Prop:=SB 100 c.x/\SB 100 c.y
def J9 (a b:Cl):Int:=if FD a.y b.y=0 then FD a.x b.x else FD a.y b.y
theorem boxCl (c:Cl)(H:Aa):BD true 5 (.agg (cCl c)) H=some (.ptr H.length 0 0,H++[.cel 0 (cCl c)]):=Co rfl rfl
theorem Nu (c:Cl):(Ab.agg (cCl c)).acells=some (cCl c):=BW rfl
section
variable {H G:Aa}{p:Nat}{c:Cl}{z:Int}
theorem Jt (hg:H[p]? = some (.cel 0 (cCl c))):Ad true 2 (.ptr p 0 0) H=some (big c.x):=by
 simp only[Ad,Aw hg,zXa,if_true];rfl
theorem Js (hg:H[p]? = some (.cel 0 (cCl c))):Ad true 2 (.ptr p 0 2) H=some (big c.y):=by
 simp only[Ad,Aw hg,zXa,if_true];rfl
theorem AY (hg:H[p]? = some (.cel 0 (A2 z))):Ad true 2 (.ptr p 0 0) H=some (big z):=by
 simp only[Ad,Aw hg,zXa,if_true];rfl
theorem BK {cs:List Ab}(hg:H[p]? = some (.cel 0 cs))(hl:cs.length=2):Af 2 (.ptr p 0 0) (big z) H=some (H.set p (.cel 0 (A2 z))):=by
 simp only[Af,Aw hg,zXa,TF,Bt hg,Dp hl];rw[if_pos ⟨rfl,by omega⟩]
theorem RD:Ad true 2 (.cptr (cCl c) 0) H=some (big c.x):=(rfl)
theorem RA:Ad true 2 (.cptr (cCl c) 2) H=some (big c.y):=(rfl)
theorem load_sC:Ad false 1 (.cptr (cCl c) 4) H=some (.int .u8 (c.s.toNat:Int)):=(rfl)
theorem O8:Ad true 5 (.cptr (cCl c) 0) H=some (.agg (cCl c)):=(rfl)
theorem Po (c:Cl):AS 5 [.agg (cCl c)]=some (.sl (enL cCl [c]) .ti):=by
 simp[AS,Db,Nu];simp[cCl,L8,BI,enL]
theorem CD (H:Aa):A0 (some [.bool false,.sl [] .ti]) H=some (.ptr H.length 0 0,H++[.cel 0 [.bool false,.sl [] .ti]]):=alloc_eq rfl
theorem Az {i:Nat}{x:Blk}(h:H[i]? = some x):(H++G)[i]? = some x:=by
 have:=(VG.1 h).1;rw[VH this];exact h

end
theorem q07_order (a b:Cl)(H:Aa)(ha:a.ok)(hb:b.ok):Sh.f3b (.agg (cCl a)) (.agg (cCl b)) H=some (.ret (.i6 (J9 a b)),H):=by
 have e1:(H++[Blk.cel 0 (cCl a)]++[Blk.cel 0 (cCl b)])[H.length]? = some (.cel 0 (cCl a)):=by simp
 have e2:(H++[Blk.cel 0 (cCl a)]++[Blk.cel 0 (cCl b)])[(H++[Blk.cel 0 (cCl a)]).length]? = some (.cel 0 (cCl b)):=Al;unfold Sh.f3b;have hy:=λH=>ES a.y b.y H (ha.2.lb (by decide)) (hb.2.lb (by decide));have hx:=λH=>ES a.x b.x H (ha.1.lb (by decide)) (hb.1.lb (by decide));simp only[GMw,boxCl,Ah,VK,Nat.add_zero,Js e1,Js e2,hy];have fin:∀q:Int,rP H (.i6 q) (H++[Blk.cel 0 (cCl a)]++[Blk.cel 0 (cCl b)])=some (.ret (.i6 q),H):=λq=>by simp only[VP];exact Ie
 unfold J9;by_cases h:FD a.y b.y=0
 ·simp only[GMw,h,Jt e1,Jt e2,hx,fin]
 ·simp only[GMw,h,fin]
def inZ (v:Nat)(z:Int):Bool:=decide (-(2^(v-1))<=z)&&decide (z<2^(v-1))
def EH (v:Nat)(c:Cl):Bool:=inZ v c.x&&inZ v c.y
theorem FX (a b:Int):decide (FD a b>=0)=decide (b<=a):=by
 unfold FD;rw[Wf];split
 ·simp;omega
 ·split
  ·simp;omega
  ·simp;omega
theorem FW (a b:Int):decide (FD a b<0)=decide (a<b):=by
 unfold FD;rw[Wf];split
 ·simp;omega
 ·split
  ·simp;omega
  ·simp;omega
theorem q07_within (c:Cl)(v:Nat)(H:Aa)(hc:c.ok)(h1:1<=v)(h2:v<=10000):Sh.f63 (.agg (cCl c)) (.i6 (v:Int)) H=some (.ret (.bool (EH v c)),H):=by
 have hw:IntKind.i64.wrap ((v:Int)-1)=((v-1:Nat):Int):=Hk (by omega) (by omega);have hp:=SB_pow (show v-1<=10000 by omega);have bG:=hp.lb (by decide);unfold Sh.f63;have bX:=λH=>Ip (v-1) H (by omega);have gO:=λH=>IH (2^(v-1)) H bG;have hx:=λH b (hb:LB b)=>ES c.x b H (hc.1.lb (by decide)) hb;have hy:=λH b (hb:LB b)=>ES c.y b H (hc.2.lb (by decide)) hb;have s1:∀B:Aa,Af 2 (.ptr B.length 0 0) (big (2^(v-1))) (B++[.cel 0 [.bool false,.sl [] .ti]])=some (B++[.cel 0 (A2 (2^(v-1)))]):=λB=>by rw[BK (Al (B:=B)) rfl,Bd]
 have s2:∀B:Aa,Af 2 (.ptr B.length 0 0) (big (-(2^(v-1)))) (B++[.cel 0 [.bool false,.sl [] .ti]])=some (B++[.cel 0 (A2 (-(2^(v-1))))]):=λB=>by rw[BK (Al (B:=B)) rfl,Bd]
 simp only[GMw,boxCl,hw,bX,CD,s1,AY Al,gO,s2];generalize hB:H++[Blk.cel 0 (cCl c)]=B;have e1:(B++[Blk.cel 0 (A2 (2^(v-1)))]++[Blk.cel 0 (A2 (-(2^(v-1))))])[H.length]? = some (.cel 0 (cCl c)):=by rw[<-hB];simp
 have e2:(B++[Blk.cel 0 (A2 (2^(v-1)))]++[Blk.cel 0 (A2 (-(2^(v-1))))])[B.length]? = some (.cel 0 (A2 (2^(v-1)))):=by simp
 have e3:(B++[Blk.cel 0 (A2 (2^(v-1)))]++[Blk.cel 0 (A2 (-(2^(v-1))))])[(B++[Blk.cel 0 (A2 (2^(v-1)))]).length]? = some (.cel 0 (A2 (-(2^(v-1))))):=Al;have fin:∀q:Bool,rP H (.bool q) (B++[Blk.cel 0 (A2 (2^(v-1)))]++[Blk.cel 0 (A2 (-(2^(v-1))))])=some (.ret (.bool q),H):=λq=>by rw[<-hB];simp only[VP];exact Fs
 unfold EH inZ;simp only[GMw,Ah,VK,Nat.add_zero,Jt e1,Js e1,AY e2,AY e3,hx _ _ bG,hx _ _ bG.neg,hy _ _ bG,hy _ _ bG.neg,FX,FW];cases decide (-(2^(v-1))<=c.x)with
 | false=>simp only[GMw,fin]
 | true=>
  simp only[GMw,Ah,VK,Nat.add_zero,Jt e1,Js e1,AY e2,AY e3,hx _ _ bG,hx _ _ bG.neg,hy _ _ bG,hy _ _ bG.neg,FX,FW];cases decide (c.x<2^(v-1))with
  | false=>simp only[GMw,fin]
  | true=>
   simp only[GMw,Ah,VK,Nat.add_zero,Jt e1,Js e1,AY e2,AY e3,hx _ _ bG,hx _ _ bG.neg,hy _ _ bG,hy _ _ bG.neg,FX,FW];cases decide (-(2^(v-1))<=c.y)with
   | false=>simp only[GMw,fin]
   | true=>
    simp only[GMw,Ah,VK,Nat.add_zero,Jt e1,Js e1,AY e2,AY e3,hx _ _ bG,hx _ _ bG.neg,hy _ _ bG,hy _ _ bG.neg,FX,FW,fin]
def ET (c:Cl)(out:List Cl):Nat:=(out.takeWhile λd=>decide (J9 d c<0)).length
def LY (c:Cl)(out:List Cl):Bool:=match out[ET c out]? with | some d=>decide (J9 d c=0) | none=>false
def JQ (c:Cl)(out:List Cl):List Cl:=if LY c out then (out.drop (ET c out)).drop 1 else out.drop (ET c out)
def Cb (out:List Cl)(c:Cl):List Cl:=out.take (ET c out)++[c]++JQ c out
def CJ (l:List Cl):List Cl:=l.foldl Cb []
def Be (l:List Cl):List Cl:=(CJ l).filter λc=>decide (c.s≠0)
theorem NA {α:Type}(p:α->Bool):∀(l:List α) (n:Nat),n<=l.length->(∀(j:Nat) (a:α),j<n->l[j]? = some a->p a=true)->(∀a,l[n]? = some a->p a=false)->(l.takeWhile p).length=n
 | [],n,h,_,_=>by simp at h;simp[h]
 | a::l,0,_,_,h=>by
  have:=h a rfl;simp[XG,this]
 | a::l,n+1,h,h1,h2=>by
  have h3:=h1 0 a (by omega) rfl;have:=NA p l n (by simpa using h) (λj b hj hb=>h1 (j+1) b (by omega) (by simpa using hb)) (λb hb=>h2 b (by simpa using hb));simp[XG,h3,this]
theorem posC_le (c:Cl)(out:List Cl):ET c out<=out.length:=by
 unfold ET;exact (Yv _).length_le
theorem lastStep_len (out:List Cl)(c:Cl):(Cb out c).length<=out.length+1:=by
 have:=posC_le c out;unfold Cb JQ;split <;> simp <;> omega
theorem lastStep_mem {out:List Cl}{c d:Cl}(h:d∈Cb out c):d=c\/d∈out:=by
 unfold Cb JQ at h;simp only[Wh,We]at h;rcases h with (h | h) | h
 ·exact .inr (WR h)
 ·exact .inl h
 ·right;split at h
  ·exact X1 (X1 h)
  ·exact X1 h
theorem OC {l:List Cl}{i:Nat}(hi:i<l.length):CJ (l.take (i+1))=Cb (CJ (l.take i)) l[i]:=by
 unfold CJ;rw[VT hi,XE];rfl
theorem Gp {l:List Cl}:∀i,i<=l.length->(CJ (l.take i)).length<=i/\∀d∈CJ (l.take i),d∈l
 | 0,_=>by simp[CJ]
 | i+1,h=>by
  obtain⟨h1,h2⟩:=Gp i (by omega:i<=l.length);rw[OC h];refine⟨Wm (lastStep_len _ _) (by omega),λd hd=>?_⟩;rcases lastStep_mem hd with rfl | hd
  ·exact VW h
  ·exact h2 d hd
theorem slice_cap {α:Type}{f:α->List Ab}{l:List α}{tk:Tok}{sz h:Nat}{K:IntKind}[hf:Sz f sz](hh:h<=l.length) :
  Bw sz (.sl (enL f l) tk) none (some (.int K (h:Int))) (some (.int K (h:Int)))=some (.sl (enL f (l.take h)) .ti):=by
 simp[Bw,By,enL,hf.len,hh,List.map_take,FI]
theorem OY {α:Type}{f:α->List Ab}{l:List α}{tk:Tok}{sz:Nat}{H:Aa}[hf:Sz f sz]:Ci sz (.sl (enL f l) tk) H=some (enL f l):=by
 simp[Ci,all_enL]
theorem q07_last (l:List Cl)(tk0:Tok)(H:Aa)(hl:l.length<549755813888)(hok:∀c∈l,c.ok):Sh.f62 (.sl (enL cCl l) tk0) H=some (.ret (.sl (enL cCl (Be l)) .no),H):=by
 unfold Sh.f62;have loop:=GB (G:=λrec1 vs H1=>Sh.f61 H rec1 (ag vs 0) (ag vs 1) (ag vs 2) H1) l.length (λi vs Hc=>∃tk G,vs=[.sl (enL cCl l) tk0,.sl (enL cCl (CJ (l.take i))) tk,.i6 (i:Int)]/\Hc=H++G) (by omega) (λi vs Hc hi hI=>?_)
  (vs:=[.sl (enL cCl l) tk0,.sl [] .ti,.i6 0]) (H:=H) ⟨.ti,[],rfl,by simp⟩
 ·obtain⟨vs',Hc,⟨tk,G,rfl,rfl⟩,rec,aB⟩:=loop;rw[aB];unfold Sh.f61;rw[VV (VL _)];simp only[GMw,Ax,WE];generalize hB:H++G=B;have hlen:(CJ l).length<=l.length:=by have:=(Gp (l:=l) l.length (VL _)).1;rwa [VV (VL _)]at this
  unfold Be;generalize CJ l=o at hlen;refine Ck (G:=λeC vs H1=>Sh.f60 H eC (ag vs 0) (ag vs 1) (ag vs 2) H1) o.length (λi=>[.sl (enL cCl o) tk,DG cCl B ((o.take i).filter λc=>decide (c.s≠0)),.i6 (i:Int)]) (λi=>DF cCl AG 5 B ((o.take i).filter λc=>decide (c.s≠0))) _ (by omega) (λrec i hi=>?_) (λrec=>?_)
  ·have aD:(i:Int)<(o.length:Int):=by omega
   have aN:=Au (show i<9223372036854775807 by omega);unfold Sh.f60;rw[VT hi,W6];have eK:((o.take i).filter λc=>decide (c.s≠0)).length<=i:=Wm (WX _ _) (by simp;omega);generalize ((o.take i).filter λc=>decide (c.s≠0))=fo at eK;have hs:decide ((o[i].s.toNat:Int)=0)=decide (o[i].s=0):=by
    rw[Wf];simp only[zXe];constructor
    ·intro h;exact Xh.1 (by simpa using h)
    ·intro h;rw[h];rfl
   simp only[GMw,Ax,aD,A1 hi,Aq,VK,load_sC,hs,aN,Sh.f5z];by_cases h0:o[i].s=0
   ·have:[o[i]].filter (λc=>decide (c.s≠0))=[]:=by simp[h0]
    rw[this,Wp];simp only[GMw,h0,decide_true,Sh.f5z,aN]
   ·have:[o[i]].filter (λc=>decide (c.s≠0))=[o[i]]:=by simp[h0]
    rw[this];have ha:=Ex (f:=cCl) (ty:=AG) (bytes:=72) (tk:=.ti) (B:=B) (l:=fo) (m:=[o[i]]) (by simp) (by simp;omega) (by simp;omega);simp only[GMw,h0,decide_false,O8,Po,ha,Sh.f5z,aN]
  ·obtain⟨G',hG'⟩:=GA (f:=cCl) (ty:=AG) (sz:=5) B (o.filter λc=>decide (c.s≠0));unfold Sh.f60;rw[VV (VL _)];simp only[GMw,Ax,WE,Fu,hG'];rw[<-hB,VP];simp only[Cv,Iv,zXb]
 ·obtain⟨tk,G,rfl,rfl⟩:=hI;obtain⟨m1,m2⟩:=Gp (l:=l) i (by omega);have aD:(i:Int)<(l.length:Int):=by omega
  have aN:=Au (show i<9223372036854775807 by omega);have nY:l[i].ok:=hok _ (VW hi);have wT:∀d∈CJ (l.take i),d.ok:=λd hd=>hok d (m2 d hd);rw[OC hi];generalize CJ (l.take i)=o at m1 m2 wT;generalize hB:H++G=B;have hp:=posC_le l[i] o;obtain⟨tkr,Gr,dX⟩:∃tkr Gr,AW AG 5 72 (.sl (enL cCl []) .ti) (.sl (enL cCl (o.drop (ET l[i] o))) (FI tk (ET l[i] o) o.length o.length false)) B=some (.sl (enL cCl (o.drop (ET l[i] o))) tkr,B++Gr):=by
   by_cases he:o.drop (ET l[i] o)=[]
   ·rw[he];exact⟨.ti,[],by simp[DW,OY,HI];exact DW (by simp[Ci])⟩
   ·have:=CQ (f:=cCl) (l:=[]) (m:=o.drop (ET l[i] o)) (ty:=AG) (bytes:=72) (tk:=FI tk (ET l[i] o) o.length o.length false) (H:=B) he (by simp;omega) (by simp;omega);exact⟨_,_,this⟩
  obtain⟨tks,hres⟩:∃tks,(if LY l[i] o then Bw 5 (.sl (enL cCl (o.drop (ET l[i] o))) tkr) (some (.i6 1)) none none else some (.sl (enL cCl (o.drop (ET l[i] o))) tkr))=some (.sl (enL cCl (JQ l[i] o)) tks):=by
   unfold JQ;cases hs:LY l[i] o with
   | false=>exact⟨_,rfl⟩
   | true=>
    have hlt:ET l[i] o<o.length:=by
     unfold LY at hs;cases hg:o[ET l[i] o]? with
     | none=>rw[hg]at hs;cases hs
     | some d=>exact (VG.1 hg).1
    have:=NN (f:=cCl) (l:=o.drop (ET l[i] o)) (tk:=tkr) (K:=.i64) (b:=1) (by simp;omega);exact⟨_,this⟩
  have xW:=CQ (f:=cCl) (l:=o.take (ET l[i] o)) (m:=[l[i]]) (ty:=AG) (bytes:=72) (tk:=.ti) (H:=B++Gr) (by simp) (by simp;omega) (by simp;omega);obtain⟨tkf,Gf,xV⟩:∃tkf Gf,AW AG 5 72 (.sl (enL cCl (o.take (ET l[i] o)++[l[i]])) (.own (B++Gr).length)) (.sl (enL cCl (JQ l[i] o)) tks) (B++Gr++[Blk.tok ((o.take (ET l[i] o)).length+[l[i]].length) AG 5])=some (.sl (enL cCl (Cb o l[i])) tkf,B++Gf):=by
   by_cases he:JQ l[i] o=[]
   ·unfold Cb;rw[he,Wp];exact⟨_,Gr++[Blk.tok ((o.take (ET l[i] o)).length+[l[i]].length) AG 5],by rw[HI,DW (by simp[OY]),VP]⟩
   ·have mY:(JQ l[i] o).length<=o.length:=by unfold JQ;split <;> simp <;> omega
    have:=Fm (f:=cCl) (l:=o.take (ET l[i] o)++[l[i]]) (m:=JQ l[i] o) (ty:=AG) (bytes:=72) (tk:=tks) (H:=B++Gr++[Blk.tok ((o.take (ET l[i] o)).length+[l[i]].length) AG 5]) (t:=(B++Gr).length) he (by simp) (by simp;omega) (by simp;omega);exact⟨.own (B++Gr).length,Gr++[Blk.tok ((o.take (ET l[i] o)++[l[i]]).length+(JQ l[i] o).length) AG 5],by rw[this];unfold Cb;rw[Wt _ _ (VL _),Wz,List.set_cons_zero,VP,VP]⟩
  refine⟨_,_,⟨tkf,G++Gf,rfl,rfl⟩,λrec=>?_⟩;unfold Sh.f61;simp only[GMw,Ax,aD,Am,Aj];refine Bq (G:=λaA vs H1=>Sh.f7k H rec aA (ag vs 0) (ag vs 1) (ag vs 2) (ag vs 3) H1) (σ:=Nat) (λk=>k<=o.length/\∀(j:Nat) (d:Cl),j<k->o[j]? = some d->decide (J9 d l[i]<0)=true) (λk=>[.sl (enL cCl l) tk0,.sl (enL cCl o) tk,.i6 (i:Int),.i6 (k:Int)]) (λ_=>B) (λk=>o.length-k) (λ_=>_) (λk aA hk hrec=>?_) 0 ⟨Wn _,λj d hj=>by omega⟩ (by omega);obtain⟨hk1,hk2⟩:=hk;have eX:=Au (show k<9223372036854775807 by omega);unfold Sh.f7k;have stop:(∀d,o[k]? = some d->decide (J9 d l[i]<0)=false)->k=ET l[i] o:=λh=>(NA _ o k hk1 hk2 h).symm;have xM:AS 5 []=some (.sl (enL cCl []) .ti):=rfl;have tail:∀s:Bool,k=ET l[i] o->s=LY l[i] o->(AK (λj3=>Ak (.bool s) ((Bw 5 (.sl (enL cCl (o.drop (ET l[i] o))) tkr) (some (.i6 1)) none none).bind λx61=>j3 [.sl (enL cCl l) tk0,.sl (enL cCl o) tk,.i6 (i:Int),.i6 (k:Int),x61] (B++Gr)) (j3 [.sl (enL cCl l) tk0,.sl (enL cCl o) tk,.i6 (i:Int),.i6 (k:Int),.sl (enL cCl (o.drop (ET l[i] o))) tkr] (B++Gr))) (λvs H1=>Sh.f5y H rec (ag vs 0) (ag vs 1) (ag vs 2) (ag vs 3) (ag vs 4) H1))=rec [.sl (enL cCl l) tk0,.sl (enL cCl (Cb o l[i])) tkf,.i6 ((i+1:Nat):Int)] (H++(G++Gf)):=by
   intro s cO hs;have fin:Sh.f5y H rec (.sl (enL cCl l) tk0) (.sl (enL cCl o) tk) (.i6 (i:Int)) (.i6 (k:Int)) (.sl (enL cCl (JQ l[i] o)) tks) (B++Gr)=rec [.sl (enL cCl l) tk0,.sl (enL cCl (Cb o l[i])) tkf,.i6 ((i+1:Nat):Int)] (H++(G++Gf)):=by
    unfold Sh.f5y;rw[cO];simp only[GMw,slice_cap hp,A1 hi,O8,Po,xW,xV,aN];rw[<-hB,VP]
   subst hs;cases eD:LY l[i] o with
   | false=>
    rw[eD]at hres;simp only[VN,if_false,VR]at hres;simp only[GMw,hres];exact fin
   | true=>
    rw[eD]at hres;simp only[if_true]at hres;simp only[GMw,hres];exact fin
  by_cases h:k<o.length
  ·have cP:(k:Int)<(o.length:Int):=by omega
   have nF:=λH=>q07_order o[k] l[i] H (wT _ (VW h)) nY;simp only[GMw,Ax,cP,A1 h,A1 hi,O8,nF,eX];by_cases hlt:J9 o[k] l[i]<0
   ·have:=hrec (k+1) ⟨h,λj d hj hd=>by
     by_cases e:j=k
     ·subst e;rw[VF h]at hd;injection hd with hd;rw[<-hd];exact zXc hlt
     ·exact hk2 j d (by omega) hd⟩ (by omega)
    simp only[hlt,GMw];exact this
   ·have cO:=stop (λd hd=>by rw[VF h]at hd;injection hd with hd;rw[<-hd];exact zXd hlt);have eD:decide (J9 o[k] l[i]=0)=LY l[i] o:=by
     unfold LY;rw[<-cO,VF h]
    simp only[hlt,GMw,xM];have jD:=NN (f:=cCl) (l:=o) (tk:=tk) (K:=.i64) (b:=ET l[i] o) hp;rw[<-cO]at jD dX;simp only[GMw,jD,dX];have ht:=tail _ cO eD;rw[<-cO]at ht;simp only[GMw]at ht;exact ht
  ·have hk:k=o.length:=by omega
   have cP:¬(k:Int)<(o.length:Int):=by omega
   have cO:=stop (λd hd=>by rw[zYb (by omega)]at hd;cases hd);have eD:false=LY l[i] o:=by
    unfold LY;rw[<-cO,zYb (by omega)]
   have jD:=NN (f:=cCl) (l:=o) (tk:=tk) (K:=.i64) (b:=ET l[i] o) hp;rw[<-cO]at jD dX;simp only[GMw,Ax,cP,xM,jD,dX];have ht:=tail _ cO eD;rw[<-cO]at ht;simp only[GMw]at ht;exact ht
def ltC (a b:Cl):Bool:=decide (J9 a b<0)
theorem KQ (a b:Int):(a<b/\FD a b<0)\/(a=b/\FD a b=0)\/(b<a/\0<FD a b):=by
 unfold FD;rcases Int.lt_trichotomy a b with h | h | h
 ·exact .inl ⟨h,by rw[if_pos h];decide⟩
 ·exact .inr (.inl ⟨h,by rw[if_neg (by omega),if_pos h]⟩)
 ·exact .inr (.inr ⟨h,by rw[if_neg (by omega),if_neg (by omega)];decide⟩)
theorem Nb {a b:Cl}:ltC a b=true↔a.y<b.y\/(a.y=b.y/\a.x<b.x):=by
 unfold ltC J9;rw[zXe];rcases KQ a.y b.y with ⟨h1,h2⟩ | ⟨h1,h2⟩ | ⟨h1,h2⟩
 ·rw[if_neg (by omega)];omega
 ·rw[if_pos h2];rcases KQ a.x b.x with ⟨h3,h4⟩ | ⟨h3,h4⟩ | ⟨h3,h4⟩ <;> omega
 ·rw[if_neg (by omega)];omega
theorem ltC_no {a b:Cl}:ltC a b=false↔¬(a.y<b.y\/(a.y=b.y/\a.x<b.x)):=by
 rw[<-Nb,Bool.not_eq_true]
theorem IF:SW ltC:=⟨λa b h=>by rw[Nb]at h;rw[ltC_no];omega,λa b c h k=>by rw[ltC_no]at h k ⊢;omega⟩
theorem GI {a b:Cl}:B9 ltC a b=true↔a.x=b.x/\a.y=b.y:=by
 rw[FV,ltC_no,ltC_no];omega
theorem UT {a b:Cl}:decide (J9 a b=0)=B9 ltC a b:=by
 rw[Wf,GI,zXe];unfold J9;rcases KQ a.y b.y with ⟨h1,h2⟩ | ⟨h1,h2⟩ | ⟨h1,h2⟩
 ·rw[if_neg (by omega)];omega
 ·rw[if_pos h2];rcases KQ a.x b.x with ⟨h3,h4⟩ | ⟨h3,h4⟩ | ⟨h3,h4⟩ <;> omega
 ·rw[if_neg (by omega)];omega
def QA (l:List Cl):Prop:=l.Pairwise λa b=>ltC a b=true
theorem mem_tw {p:Cl->Bool}:∀ {l:List Cl} {a:Cl},a∈l.takeWhile p->p a=true
 | [],a,h=>by cases h
 | c::l,a,h=>by
  rw[XG]at h;split at h
  ·rename_i hc;rcases W9.1 h with e | e
   ·rw[e];exact hc
   ·exact mem_tw e
  ·cases h
theorem lastStep_dec {out:List Cl}(c:Cl)(h:QA out):∃T D R,out=T++(D++R)/\Cb out c=T++(c::R)/\(∀a∈T,ltC a c=true)/\(∀a∈R,ltC c a=true)/\∀a∈D,B9 ltC a c=true:=by
 obtain⟨T,hT⟩:∃T,T=out.takeWhile λd=>decide (J9 d c<0):=⟨_,rfl⟩;obtain⟨D,hD⟩:∃D,D=out.dropWhile λd=>decide (J9 d c<0):=⟨_,rfl⟩;have hTD:out=T++D:=by rw[hT,hD,List.takeWhile_append_dropWhile]
 have hp:ET c out=T.length:=by unfold ET;rw[hT]
 have h1:out.take (ET c out)=T:=by rw[hp,hTD,XS]
 have h2:out.drop (ET c out)=D:=by rw[hp,hTD,XV]
 have hlt:∀a∈T,ltC a c=true:=λa ha=>by
  rw[hT]at ha;exact mem_tw (p:=λd=>decide (J9 d c<0)) ha
 have hst:=h;unfold QA at hst;rw[hTD]at hst;have kT:=(WW.1 hst).2.1;have hg:out[ET c out]? = D.head? := by
  rw[<-List.head?_drop,h2]
 unfold Cb JQ LY;rw[h1,h2,hg];cases hDc:D with
 | nil=>
  refine⟨T,[],[],by rw[hTD,hDc];simp,by simp,hlt,λa (ha:a∈[])=>(by cases ha),λa (ha:a∈[])=>(by cases ha)⟩
 | cons d D'=>
  rw[hDc]at kT;rw[X9]at kT;have hd:ltC d c=false:=by
   have:=List.head?_dropWhile_not (λd=>decide (J9 d c<0)) out;rw[<-hD,hDc]at this;exact this
  have vM:decide (J9 d c=0)=B9 ltC d c:=UT;simp only[List.head?_cons,vM];by_cases he:B9 ltC d c=true
  ·rw[if_pos he];refine⟨T,[d],D',by rw[hTD,hDc];simp,by simp,hlt,λa ha=>?_,λa ha=>by rw[We]at ha;rw[ha];exact he⟩;have:=kT.1 a ha;rw[GI]at he;rw[Nb]at this ⊢;omega
  ·rw[if_neg he];refine⟨T,[],d::D',by rw[hTD,hDc];simp,by simp,hlt,λa ha=>?_,λa (ha:a∈[])=>(by cases ha)⟩;have vO:ltC c d=true:=by
    cases e:ltC c d with
    | true=>rfl
    | false=>exact absurd (FV.2 ⟨hd,e⟩) he
   rcases W9.1 ha with e | e
   ·rw[e];exact vO
   ·have:=kT.1 a e;rw[Nb]at this vO ⊢;omega
theorem lastStep_str {out:List Cl}(c:Cl)(h:QA out):QA (Cb out c)/\∀z,(if B9 ltC z c=true then ((Cb out c).filter (B9 ltC z)).head? = some c else (Cb out c).filter (B9 ltC z)=out.filter (B9 ltC z)):=by
 obtain⟨T,D,R,e1,e2,hT,hR,hD⟩:=lastStep_dec c h;have h':=h;unfold QA at h' ⊢;rw[e1]at h';rw[WW]at h';obtain⟨p1,p2,p3⟩:=h';rw[WW]at p2;rw[e2];refine⟨WW.2 ⟨p1,X9.2 ⟨hR,p2.2.1⟩,λa ha b hb=>?_⟩,λz=>?_⟩
 ·rcases W9.1 hb with e | e
  ·rw[e];exact hT a ha
  ·exact p3 a ha b (by simp[e])
 ·by_cases hz:B9 ltC z c=true
  ·rw[if_pos hz,W6];have:T.filter (B9 ltC z)=[]:=HW λa ha=>by
    cases e:B9 ltC z a with
    | false=>rfl
    | true=>
     have:=hT a ha;rw[GI]at e hz;rw[Nb]at this;omega
   rw[this,List.nil_append,WG,if_pos hz];rfl
  ·rw[if_neg hz,e1,W6,W6,W6,WG,if_neg hz];have:D.filter (B9 ltC z)=[]:=HW λa ha=>by
    cases e:B9 ltC z a with
    | false=>rfl
    | true=>
     have:=hD a ha;rw[GI]at e this;exact absurd (GI.2 (by omega)) hz
   rw[this,List.nil_append]
theorem Sb {l:List Cl}(h:QA l)(z:Cl):z∈l↔(l.filter (B9 ltC z)).head? = some z:=by
 constructor
 ·intro hz;obtain⟨A,B,rfl⟩:=List.append_of_mem hz;unfold QA at h;rw[WW]at h;have:A.filter (B9 ltC z)=[]:=HW λa ha=>by
   cases e:B9 ltC z a with
   | false=>rfl
   | true=>
    have:=h.2.2 a ha z (by simp);rw[GI]at e;rw[Nb]at this;omega
  rw[W6,this,List.nil_append,WG,if_pos (Kb IF z)];rfl
 ·intro hz;exact (W8.1 (Y1 hz)).1
theorem EX:∀(l out:List Cl),QA out->QA (l.foldl Cb out)/\∀z,z∈l.foldl Cb out↔((l.reverse++out).filter (B9 ltC z)).head? = some z
 | [],out,h=>⟨h,λz=>Sb h z⟩
 | c::l,out,h=>by
  obtain⟨s1,s2⟩:=lastStep_str c h;obtain⟨i1,i2⟩:=EX l (Cb out c) s1;refine⟨i1,λz=>?_⟩;rw[List.foldl_cons,i2 z,Yo,VP,W6,W6];have hz:=s2 z;have key:((Cb out c).filter (B9 ltC z)).head? = (([c]++out).filter (B9 ltC z)).head? := by
   by_cases hc:B9 ltC z c=true
   ·rw[if_pos hc]at hz;rw[hz,List.singleton_append,WG,if_pos hc];rfl
   ·rw[if_neg hc]at hz;rw[hz,List.singleton_append,WG,if_neg hc]
  rw[List.head?_append,List.head?_append,key]
theorem cp_last {l S:List Cl}(h:Ey ltC S)(hst:F5 ltC l.reverse S):cpL ltC S=CJ l:=by
 obtain⟨c1,c2⟩:=cpL_ok IF h;obtain⟨f1,f2⟩:=EX l [] List.Pairwise.nil;refine Kw IF _ _ c1 f1 λz=>?_;rw[c2 z,<-hst z];show _↔z∈l.foldl Cb [];rw[f2 z,Wp]
end Go.Gm
