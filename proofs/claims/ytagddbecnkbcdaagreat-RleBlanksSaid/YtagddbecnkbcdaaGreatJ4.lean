/- Texts of this proof, joined. -/
import Derived.Test.YtagddbecnkbcdaaGreatJ2
import Derived.Test.YtagddbecnkbcdaaGreatJ3
import Derived.RangeFuncBox
import Derived.RangeFuncLeaves
import Derived.Shelf.Abstract
import Derived.WalkKit
import Derived.OwnWalkIn
import Derived.TacticsInMore
import Derived.LoopNIn
import Derived.LoopIn
import Derived.Test.YtagddbecnkbcdaaGreatProg
import Derived.KernelRfl
import Derived.Calls
set_option linter.all false
namespace Go.Gm
theorem GMb:(((((((∀ {α β:Type} (a:α) (f:α->Option β),Option.bind (Option.some a) f=f a) /\
 (∀(v:Ab) (l:List Ab),ag (v::l) 0=v)) /\
 ((∀(a v:Ab) (l:List Ab),ag (a::v::l) 1=v) /\
 (∀(a b v:Ab) (l:List Ab),ag (a::b::v::l) 2=v))) /\
 (((∀(a b c v:Ab) (l:List Ab),ag (a::b::c::v::l) 3=v) /\
 (∀(a b c d v:Ab) (l:List Ab),ag (a::b::c::d::v::l) 4=v)) /\
 ((∀(a b c d e v:Ab) (l:List Ab),ag (a::b::c::d::e::v::l) 5=v) /\
 (∀ {ek:EqK} {k:IntKind} {a b:Int},Af ek BinOp.lss (Ab.int k a) (Ab.int k b)=Option.some (Ab.bool (Decidable.decide (a<b))))))) /\
 ((((∀ {ek:EqK} {k:IntKind} {a b:Int},Af ek BinOp.gtr (Ab.int k a) (Ab.int k b)=Option.some (Ab.bool (Decidable.decide (a>b)))) /\
 (∀ {ek:EqK} {k:IntKind} {a b:Int},Af ek BinOp.leq (Ab.int k a) (Ab.int k b)=Option.some (Ab.bool (Decidable.decide (a<=b))))) /\
 ((∀ {ek:EqK} {k:IntKind} {a b:Int},Af ek BinOp.geq (Ab.int k a) (Ab.int k b)=Option.some (Ab.bool (Decidable.decide (a>=b)))) /\
 (∀ {ek:EqK} {k:IntKind} {a b:Int},Af ek BinOp.eql (Ab.int k a) (Ab.int k b)=Option.some (Ab.bool (a == b))))) /\
 (((∀ {ek:EqK} {k:IntKind} {a b:Int},Af ek BinOp.neq (Ab.int k a) (Ab.int k b)=Option.some (Ab.bool (a != b))) /\
 (∀ {ek:EqK} {k:IntKind} {a b:Int},Af ek BinOp.add (Ab.int k a) (Ab.int k b)=Option.some (Ab.int k (IntKind.wrap k (a+b))))) /\
 ((∀ {ek:EqK} {k:IntKind} {a b:Int},Af ek BinOp.sub (Ab.int k a) (Ab.int k b)=Option.some (Ab.int k (IntKind.wrap k (a-b)))) /\
 ((∀ {ek:EqK} {k:IntKind} {a b:Int},Af ek BinOp.mul (Ab.int k a) (Ab.int k b)=Option.some (Ab.int k (IntKind.wrap k (a*b)))) /\
 (∀(a b:Out),Ak (Ab.bool Bool.true) a b=a)))))) /\
 (((((∀(a b:Out),Ak (Ab.bool Bool.false) a b=b) /\
 (∀(a b:Ab),AB (Ab.bool Bool.true) a b=Option.some a)) /\
 ((∀(a b:Ab),AB (Ab.bool Bool.false) a b=Option.some b) /\
 (∀ {kv:Ab->Out} (x:Option Ab),gk (Ab.bool Bool.true) Bool.true x kv=Option.bind x kv))) /\
 (((∀ {kv:Ab->Out} (x:Option Ab),gk (Ab.bool Bool.false) Bool.false x kv=Option.bind x kv) /\
 (∀ {kv:Ab->Out} (x:Option Ab),gk (Ab.bool Bool.true) Bool.false x kv=kv Cf)) /\
 ((∀ {kv:Ab->Out} (x:Option Ab),gk (Ab.bool Bool.false) Bool.true x kv=kv Cf) /\
 ((∀ {kv:Ab->Out} (w:Bool) (x:Option Ab),gk (Ab.tup []) w x kv=kv Cf) /\
 (∀ {x:Option Ab} {p:Bool->Ab->Prop} {k:Ab->Out},gkc (Ab.bool Bool.true) Bool.true x p k=bC x (p Bool.true) k))))) /\
 ((((∀ {x:Option Ab} {p:Bool->Ab->Prop} {k:Ab->Out},gkc (Ab.bool Bool.false) Bool.false x p k=bC x (p Bool.true) k) /\
 (∀ {x:Option Ab} {p:Bool->Ab->Prop} {k:Ab->Out},gkc (Ab.bool Bool.true) Bool.false x p k=chk (p Bool.false Cf) (k Cf))) /\
 ((∀ {x:Option Ab} {p:Bool->Ab->Prop} {k:Ab->Out},gkc (Ab.bool Bool.false) Bool.true x p k=chk (p Bool.false Cf) (k Cf)) /\
 (∀ {x:Option Ab} {p:Bool->Ab->Prop} {k:Ab->Out} {w:Bool},gkc (Ab.tup []) w x p k=chk (p Bool.false Cf) (k Cf)))) /\
 (((∀ {v:Ab} {p:Ab->Prop} {k:Ab->Out},bC (Option.some v) p k=chk (p v) (k v)) /\
 (∀ {x:Out},chk True x=x)) /\
 ((∀ {H0 H:Aa} {k:Ab->Aa->Out} (x:Out),gbK H0 (Ab.bool Bool.true) Bool.true H x k=bK H0 x k) /\
 ((∀ {H0 H:Aa} {k:Ab->Aa->Out} (x:Out),gbK H0 (Ab.bool Bool.false) Bool.false H x k=bK H0 x k) /\
 (∀ {H0 H:Aa} {k:Ab->Aa->Out} (x:Out),gbK H0 (Ab.bool Bool.true) Bool.false H x k=k Cf H))))))) /\
 ((((((∀ {H0 H:Aa} {k:Ab->Aa->Out} (x:Out),gbK H0 (Ab.bool Bool.false) Bool.true H x k=k Cf H) /\
 (∀ {H0 H:Aa} {k:Ab->Aa->Out} (w:Bool) (x:Out),gbK H0 (Ab.tup []) w H x k=k Cf H)) /\
 ((∀ {H0 H:Aa} {k:Ab->Aa->Out} (x:Out),gbP H0 (Ab.bool Bool.true) Bool.true H x k=bP H0 x k) /\
 (∀ {H0 H:Aa} {k:Ab->Aa->Out} (x:Out),gbP H0 (Ab.bool Bool.false) Bool.false H x k=bP H0 x k))) /\
 (((∀ {H0 H:Aa} {k:Ab->Aa->Out} (x:Out),gbP H0 (Ab.bool Bool.true) Bool.false H x k=k Cf H) /\
 (∀ {H0 H:Aa} {k:Ab->Aa->Out} (x:Out),gbP H0 (Ab.bool Bool.false) Bool.true H x k=k Cf H)) /\
 ((∀ {H0 H:Aa} {k:Ab->Aa->Out} (w:Bool) (x:Out),gbP H0 (Ab.tup []) w H x k=k Cf H) /\
 (∀ {H:Aa} {k:Ab->Aa->Out} (x:Out),gbN (Ab.bool Bool.true) Bool.true H x k=AW x k)))) /\
 ((((∀ {H:Aa} {k:Ab->Aa->Out} (x:Out),gbN (Ab.bool Bool.false) Bool.false H x k=AW x k) /\
 (∀ {H:Aa} {k:Ab->Aa->Out} (x:Out),gbN (Ab.bool Bool.true) Bool.false H x k=k Cf H)) /\
 ((∀ {H:Aa} {k:Ab->Aa->Out} (x:Out),gbN (Ab.bool Bool.false) Bool.true H x k=k Cf H) /\
 (∀ {H:Aa} {k:Ab->Aa->Out} (w:Bool) (x:Out),gbN (Ab.tup []) w H x k=k Cf H))) /\
 (((∀ {H:Aa} {k:Ab->Aa->Out} (v:Ab),AW (Option.some (Res.ret v,H)) k=k v H) /\
 (∀ {H0 H:Aa} {k:Ab->Aa->Out} (v:Ab),bK H0 (Option.some (Res.ret v,H)) k=k v H)) /\
 ((∀ {H0 H:Aa} {k:Ab->Aa->Out} (v:Ab),bP H0 (Option.some (Res.ret v,H)) k=k v H) /\
 ((∀ {H0 H:Aa} (v:Ab),rK H0 v H=Option.some (Res.ret v,H)) /\
 (∀ {H H0:Aa} {v:Ab},rKN H0 v H=Option.some (Res.ret (forget v),H))))))) /\
 (((((∀ {c:Bool},unA UnOp.not (Ab.bool c)=Option.some (Ab.bool !c)) /\
 (∀ {H:Aa} (v:Ab),VpJ (Option.some v) H=Option.some (Res.ret v,H))) /\
 ((∀ {H:Aa},AE (Option.some H)=Option.some (Res.ret Ab.undef,H)) /\
 (∀ {H:Aa} (v:Ab),Cy (Option.some (v,H))=Option.some (Res.ret v,H)))) /\
 (((∀ {H:Aa} {k:Ab->Aa->Out} (v:Ab),Ao (Option.some (v,H)) k=k v H) /\
 (∀ {a b:Int},(a == b)=decide (a=b))) /\
 ((∀ {a b:Int},(a != b) = !decide (a=b)) /\
 (((!true)=false) /\
 ((!false)=true))))) /\
 (((((false=true)=False) /\
 (∀(b:Bool),(false||b)=b)) /\
 ((∀(b:Bool),(true||b)=true) /\
 (∀(b:Bool),(b||false)=b))) /\
 (((∀(b:Bool),(b||true)=true) /\
 (∀(b:Bool),(b&&true)=b)) /\
 ((∀(b:Bool),(true&&b)=b) /\
 ((∀(b:Bool),(b&&false)=false) /\
 (∀(b:Bool),(false&&b)=false)))))))):=
 ⟨⟨⟨⟨⟨⟨@BB,@Al⟩,⟨@AZ,@Bd⟩⟩,⟨⟨@Bx,@BI⟩,⟨@D4,@Bh⟩⟩⟩,⟨⟨⟨@Du,@KO⟩,⟨@Ie,@Dv⟩⟩,⟨⟨@Ic,@CC⟩,⟨@DJ,⟨@Id,@AU⟩⟩⟩⟩⟩,⟨⟨⟨⟨@AI,@BZ⟩,⟨@Ca,@GF⟩⟩,⟨⟨@KX,@QE⟩,⟨@N0,⟨@Vkd,@PH⟩⟩⟩⟩,⟨⟨⟨@PK,@PI⟩,⟨@PJ,@UQ⟩⟩,⟨⟨@Qu,@Ht⟩,⟨@PU,⟨@PX,@PV⟩⟩⟩⟩⟩⟩,⟨⟨⟨⟨⟨@PW,@UT⟩,⟨@PL,@PO⟩⟩,⟨⟨@PM,@PN⟩,⟨@UR,@PP⟩⟩⟩,⟨⟨⟨@PT,@PQ⟩,⟨@PR,@US⟩⟩,⟨⟨@B5,@Fd⟩,⟨@CD,⟨@Oi,@Ef⟩⟩⟩⟩⟩,⟨⟨⟨⟨@Je,@Ij⟩,⟨@AJ,@Dk⟩⟩,⟨⟨@Bj,@Fm⟩,⟨@KN,⟨VR,Wg⟩⟩⟩⟩,⟨⟨⟨@Bool.false_eq_true,@Bool.false_or⟩,⟨@Bool.true_or,@Bool.or_false⟩⟩,⟨⟨@Bool.or_true,@Bool.and_true⟩,⟨@Bool.true_and,⟨@Bool.and_false,@Bool.false_and⟩⟩⟩⟩⟩⟩⟩
theorem GMc:((∀(f:(List Ab->Aa->Out)->Out) (j:List Ab->Aa->Out),AM f j=f j)/\(∀h:Decidable True,@decide True h=true)/\(∀h:Decidable False,@decide False h=false)/\(∀(α:Type) (h:Decidable True) (t e:α),@ite α True h t e=t)/\(∀(α:Type) (h:Decidable False) (t e:α),@ite α False h t e=e)):=
 ⟨λ_ _=>rfl,λ_=>decide_true _,λ_=>decide_false _,λ_ _ _ _=>if_true _ _,λ_ _ _ _=>if_false _ _⟩
def GMw:=And.intro GMb GMc
end Go.Gm
namespace Go.Proofs
open Go.RowKit Go.Shelf
attribute [local go_sem] Oper.semAt_some
def KB (n₀ Bs:Nat)(W W':World):Prop:=Below n₀ W W'/\W'.cell? ⟨Bs,0,none⟩=W.cell? ⟨Bs,0,none⟩
theorem KB.refl (n₀ Bs:Nat)(W:World):KB n₀ Bs W W:=⟨Below.refl _ _,rfl⟩
theorem KB.trans {n₀ Bs:Nat}{A B C:World}(h:KB n₀ Bs A B)(k:KB n₀ Bs B C):KB n₀ Bs A C:=⟨h.1.trans k.1,k.2.trans h.2⟩
def M4 (n k:Nat):List (Fin n):=(List.finRange n).reverse.take k
theorem NP {n k:Nat}(h:k<n):M4 n (k+1)=M4 n k++[⟨n-1-k,by omega⟩]:=by unfold M4;rw[List.take_add_one,List.getElem?_reverse (by simpa using h)];simp;rw[List.getElem?_eq_getElem (by simp;omega)];simp
theorem Vaz {n k:Nat}(h:k<=n):(M4 n k).length=k:=by simp[M4,h]
theorem Qt {n:Nat}:∀(k:Nat) (j:Fin n),k<=n->n-k<=j.1->j∈M4 n k
 |0,j,_,h=>by have:=j.2;omega
 |k+1,j,hk,h=>by
  rw[NP (by omega)];by_cases e:j.1=n-1-k
  ·exact List.mem_append_right _ (by simp;exact Fin.ext e)
  ·exact List.mem_append_left _ (Qt k j (by omega) (by omega))
set_option maxRecDepth 100000 in
set_option maxHeartbeats 2000000 in
theorem Tryz.back1_in (F:Fence)(n:Nat)(h229:F.fn 229)(hro:F.round=none)(hn:1<=n)(l Bs n₀ b off len cap:Nat)(ao:Option Addr)(hao:0<len->ao=some ⟨b,off,none⟩)(zf:Nat->Nat)(hreach:len<=1099511627776)(hb:b<n₀)(J Jx:List (Fin len)->World->Prop)
  (hY:∀pre (x:Fin len) W,J pre W->pre.length<len->YieldAt F (n-1) Tryz.prog l #[.i6 (x.1:Int),.int .u32 ((zf x.1:Nat):Int)] W λe W'=>(e=.returned (.bool true)/\J (pre++[x]) W'/\KB n₀ Bs W W')\/(e=.returned (.bool false)/\Jx (pre++[x]) W'))
  (W:World)(hBs:W.cell? ⟨Bs,0,none⟩=some (.slice ao len cap))(hc:∀j,j<len->W.cell? ⟨b,off+j,none⟩=some (.int .u32 ((zf j:Nat):Int)))(h0:J [] W) :
  CallsIn F n Tryz.prog 229 #[.func (.yield l) #[] #[],.pointer (some ⟨Bs,0,none⟩)] W λe W'=>(∃v,e=.returned v) /\
   ((∃ys,ys=M4 len len/\J ys W')\/(∃pre,(∃k,k<len/\pre=M4 len (k+1))/\Jx pre W')):=by
 refine callsIn_of_wp Tryz.func229 rfl h229 ?_ hro;simp only[Tryz.ntmps229,List.size_toArray,List.length_cons,List.length_nil,Nat.reduceAdd,Nat.reduceSub,Array.replicate_succ,Array.replicate_zero,List.push_toArray,List.append_toArray,List.nil_append,List.cons_append]
 gi_wp2
 gi_loopw [3] (λi wr=>∃k:Nat,k<=len/\i=.i6 ((len:Int)-1-k)/\J (M4 len k) wr/\KB n₀ Bs W wr)
  (λi _=>((intOf i)+1).toNat)
 case atStart=>exact⟨0,Nat.zero_le _,by simp,h0,KB.refl _ _ _⟩
 case round=>
  obtain⟨k,hk,rfl,hJs,hkb⟩:=hrel;have hnx:=hkb.1;have hBs':=hkb.2.trans hBs;by_cases hlt:k<len
  ·have hao':=hao (by omega);subst hao';have hcx:=(hnx.cell (p:=⟨b,off+(len-1-k),none⟩) hb).trans (hc (len-1-k) (by omega));obtain⟨fn,tmps,assign,body,hy,hR⟩:=hY _ ⟨len-1-k,by omega⟩ wr hJs (by rw[Vaz hk];exact hlt);dsimp only at hy;have hlast:=NP hlt;obtain⟨i,hi⟩:∃i:Nat,i=len-1-k:=⟨_,rfl⟩;have hil:i<len:=by omega
   obtain⟨x,hx⟩:∃x:Fin len,x=⟨len-1-k,by omega⟩:=⟨_,rfl⟩;rw[<-hx]at hR hlast;clear hx;have hii:(len:Int)-1-(k:Int)=(i:Int):=by omega
   rw[<-hi]at hcx hy;have hstep:(i:Int)-1=(len:Int)-1-((k+1:Nat):Int):=by omega
   rw[hii];clear hi hii;obtain⟨z,hzz⟩:∃z:Nat,z=zf i:=⟨_,rfl⟩;rw[<-hzz]at hcx hy;clear hzz;clear hkb;have hkb:Hid (KB n₀ Bs W wr):=⟨hnx,hBs'.trans hBs.symm⟩
   gi_wp2
   refine hR.mono ?_;rintro e W3 (⟨rfl,hJ3,hk3⟩ | ⟨rfl,hJx3⟩)
   ·gi_wp2
    go_roundw
    case rel=>exact⟨k+1,by omega,by simp,by rw[hlast];exact hJ3,hkb.out.trans hk3⟩
    case measure=>simp[intOf];omega
   ·gi_wp2
    refine bodyPost_ret (results_none rfl _ _ _) rfl ?_;exact⟨⟨_,rfl⟩,.inr ⟨_,⟨k,hlt,hlast.symm⟩,hJx3⟩⟩
  ·obtain rfl:k=len:=by omega
   gi_wp2
   go_end0
   exact⟨⟨_,rfl⟩,.inl ⟨_,rfl,hJs⟩⟩
set_option maxHeartbeats 1000000 in
theorem Tryz.back_in (F:Fence)(n:Nat)(h205:F.fn 205)(hro:F.round=none)(a:Option Addr)(len cap:Nat)(w:World) :
  CallsIn F n Tryz.prog 205 #[.slice a len cap] w λe w'=>e=.returned (.func (.func 229) #[] #[.pointer (some ⟨w.heap.size,0,none⟩)])/\w'=w.alloc (.cells #[.slice a len cap] 44):=by
 refine callsIn_of_wp Tryz.func205 rfl h205 ?_ hro;simp only[Tryz.ntmps205,List.size_toArray,List.length_cons,List.length_nil,Nat.reduceAdd,Nat.reduceSub,Array.replicate_succ,Array.replicate_zero,List.push_toArray,List.append_toArray,List.nil_append,List.cons_append]
 gi_wp2
 go_ret
 exact⟨rfl,rfl⟩
theorem Tryz.back_stops (F:Fence)(n:Nat)(h229:F.fn 229)(hro:F.round=none)(hn:1<=n)(Bs n₀ b off len cap:Nat)(ao:Option Addr)(hao:0<len->ao=some ⟨b,off,none⟩)(zf:Nat->Nat)(hreach:len<=1099511627776)(w:World)(hBs:Bs<w.heap.size)(hb:b<n₀)(hn₀:n₀<=w.heap.size)
  (hc:w.cell? ⟨Bs,0,none⟩=some (.slice ao len cap))(hI:∀j,j<len->w.cell? ⟨b,off+j,none⟩=some (.int .u32 ((zf j:Nat):Int))) :
  SeqStopsK F n Tryz.prog 229 #[.pointer (some ⟨Bs,0,none⟩)] (λx:Fin len=>#[Value.i6 (x.1:Int),Value.int .u32 ((zf x.1:Nat):Int)]) (KB n₀ Bs) (λys=>ys=M4 len len)
   (λpre=>∃k,k<len/\pre=M4 len (k+1)) len w:=λl J Jx W hW _ _ hY h0=>
 Tryz.back1_in F n h229 hro hn l Bs n₀ b off len cap ao hao zf hreach hb J Jx hY W ((hW.cell (p:=⟨Bs,0,none⟩) hBs).trans hc) (λj hj=>(hW.cell (p:=⟨b,off+j,none⟩) (by show b<_;omega)).trans (hI j hj)) h0
end Go.Proofs
namespace Go.Gm
def GL (l:zAb):Nat->Nat
 |0=>0
 |k+1=>if l[k]?.getD 0=0 then GL l k else k+1
theorem NY (l:zAb):∀k,GL l k<=k
 |0=>Vo _
 |k+1=>by have:=NY l k;unfold GL;split <;> omega
theorem Ju {l:zAb}(hx:Lim l):∀k,k<=l.length->l.take (GL l k)=A4 (val (l.take k))
 |0,_=>by have:A4 (val ([]:zAb))=[]:=(LR (l:=[]) ⟨λx h=>(by cases h),λx h=>(by cases h)⟩).symm;simpa[GL]using this.symm
 |k+1,hk=>by
  have hg:l[k]? = some l[k]:=Vl (by omega);have ht:l.take (k+1)=l.take k++[l[k]]:=Vw (by omega);unfold GL;split
  ·rename_i h;rw[Ju hx k (by omega),ht,Cs];rw[hg,Option.getD_some]at h;rw[h];simp[val]
  ·rename_i h;rw[hg,Option.getD_some]at h;refine LR ⟨λx gW=>hx x (Wo gW),λx gW=>?_⟩;rw[ht,List.getLast?_concat]at gW;cases gW;exact h
theorem VkO {l:zAb}{H:Aa}{id k:Nat}(hg:H[id]? = some (.cel 0 (flat cU l)))(hk:k<=l.length)(hl:l.length<9223372036854775807):Uew (.ms id 0 0 k l.length 1 true) H=some (.ret (.bool (decide (k=0)||decide (l[k-1]?.getD 0≠0))),H):=by
 unfold Uew;cases k with
 |zero=>simp[A5]
 |succ k=>
  have hidx:=CK (sz:=1) (id:=id) (n:=k+1) (K:=.i64) (g:=0) (off:=0) (cap:=l.length) (ex:=true) (i:=k) (by omega);simp only[Vr,V4]at hidx;have hld:=HR (f:=cU) (id:=id) (l:=l) (H:=H) (show A6 H id 0=some (flat cU l)by simp[A6,hg]) (i:=k) (by omega);have h0:¬((k+1:Nat):Int)=0:=by omega
  have hw:IntKind.i64.wrap (((k+1:Nat):Int)-1)=(k:Int):=by rw[An] <;> omega
  have vK:l[k]? = some l[k]:=Vl (by omega);simp only[show A5 (.ms id 0 0 (k+1) l.length 1 true)=some (.i6 ((k+1:Nat):Int)) from rfl,GMw,h0,hw,hidx,hld,VH,vK,Option.getD_some,Xh];by_cases h:l[k]=0
  ·simp[h]
  ·have:¬(l[k]:Int)=0:=by omega
   simp[h,this]
theorem VhM {l:zAb}{H:Aa}{id:Nat}(hg:H[id]? = some (.cel 0 (flat cU l)))(hl:l.length<1152921504606846976):Uab (.ms id 0 0 l.length l.length 1 true) H=some (.ret (.ms id 0 0 (GL l l.length) l.length 1 true),H):=by
 unfold Uab;refine Br (σ:=Nat) (λk=>k<=l.length/\GL l k=GL l l.length) (λk=>[.ms id 0 0 k l.length 1 true]) (λ_=>H) (λk=>k) (λ_=>some (.ret (.ms id 0 0 (GL l l.length) l.length 1 true),H)) (λk rec hi hrec=>?_) l.length ⟨Vo _,rfl⟩ (by omega);obtain⟨hk,ht⟩:=hi;unfold Uad;simp only[Al,VkO hg hk (by omega),GMw];cases k with
 |zero=>simp[<-ht,GL,rKN,fin,forget,Em,fgt]
 |succ k=>
  by_cases h:l[k]?.getD 0=0
  ·have hw:IntKind.i64.wrap (((k+1:Nat):Int)-1)=(k:Int):=by rw[An] <;> omega
   have hsl:BS 1 (.ms id 0 0 (k+1) l.length 1 true) none (some (.i6 (k:Int))) none=some (.ms id 0 0 k l.length 1 true):=by
    have:(0:Int)<=(k:Int):=by omega
    simp only[BS,Bw,zXa,this,if_true,zXl];rw[if_pos ⟨trivial,by omega,by omega,by omega⟩];simp
   have dM:GL l k=GL l l.length:=by rw[<-ht];simp[GL,h]
   have hr:=hrec k ⟨by omega,dM⟩ (by omega);simp only[h,show A5 (.ms id 0 0 (k+1) l.length 1 true)=some (.i6 ((k+1:Nat):Int)) from rfl,GMw,hw,hsl,VH,ne_eq,not_true_eq_false,Xh];exact hr
  ·have dM:GL l (k+1)=k+1:=by simp[GL,h]
   rw[<-ht,dM];simp only[h,GMw,VH,ne_eq,not_false_eq_true,Xh];simp[rKN,fin,forget,Em,fgt]
open Go.Proofs
set_option maxRecDepth 100000
noncomputable def kK (kn kr:List Ab->Aa->Out):Rf
 |.normal,tm,H=>kn tm H
 |.ret,tm,H=>kr tm H
 |.pan v,_,H=>some (.pan v,H)
 |.exit _,_,_=>none
noncomputable def Vpa:Code->Code
 |.seq a _=>a
 |c=>c
noncomputable def VmC:Code->Code
 |.seq _ b=>b
 |c=>c
noncomputable def cmO:Orc:=ent 201 (ap1 Uab) noO
noncomputable def TK:Cfg:=mkC Tryz.prog Gs false cmO
noncomputable def cdA:Code:=Vpa (Es Tryz.f156)
noncomputable def cdB:Code:=Vpa (VmC (Es Tryz.f156))
noncomputable def cdC:Code:=Vpa (VmC (VmC (Es Tryz.f156)))
noncomputable def cdD:Code:=VmC (VmC (VmC (Es Tryz.f156)))
theorem Vjz:Tryz.f156.body=some (.seq cdA (.seq cdB (.seq cdC cdD))):=by kernel_rfl
noncomputable def cmA (kn:List Ab->Aa->Out)(x0 x1:Ab)(H0:Aa):Out:=
 Ao (B3 true 1 x1 H0) λb_41 H42=>
 Ao (A3 (some [(.i6 0)]) H42) λx43 H44=>
 kn [x0,x1,.undef,b_41,x43,.undef,.undef,.undef,.undef,.undef,.undef,.undef,.undef,.undef,.undef,.undef,.undef,.undef,.undef,.undef,.undef,.undef,.undef,.undef,.undef,.undef,.undef,.undef,.undef,.undef,.undef,.undef,.undef,.undef,.undef,.undef,.undef,.undef,.undef] H44
noncomputable def cmB (kn:List Ab->Aa->Out)(x0 x1 x3 x4:Ab)(H0:Aa):Out:=
 AW (Uab x0 H0) λx41 H42=>
 bC (Ad false 1 x3 H42) (λx43=>Ad false 1 x3 H0=some x43/\True) λx43=>
 AW (Uab x43 H42) λx44 H45=>
 bK H0 (AE (Ai 1 x3 x44 H45)) λ_ H47=>
 kn [x41,x1,.undef,x3,x4,.undef,.undef,x0,x41,x43,x44,.undef,.undef,.undef,.undef,.undef,.undef,.undef,.undef,.undef,.undef,.undef,.undef,.undef,.undef,.undef,.undef,.undef,.undef,.undef,.undef,.undef,.undef,.undef,.undef,.undef,.undef,.undef,.undef] H47
noncomputable def cmC (kn kr:List Ab->Aa->Out)(x0 x3 x4:Ab)(H0:Aa):Out:=
 (A5 x0).bind λx41=>
 (Ad false 1 x3 H0).bind λx42=>
 (A5 x42).bind λx43=>
 (Af .none .neq x41 x43).bind λx44=>
 Ak x44 (
 (A5 x0).bind λx45=>
 (Ad false 1 x3 H0).bind λx46=>
 (A5 x46).bind λx47=>
 (Af .none .lss x45 x47).bind λx48=>
 Ak x48 (
 bK H0 (AE (Ai 1 x4 (.i6 (-1)) H0)) λ_ H50=>
 kr [x0,.undef,.undef,x3,x4,.undef,.undef,.undef,.undef,.undef,.undef,x0,x41,x42,x43,x44,x0,x45,x46,x47,x48,.undef,.undef,.undef,.undef,.undef,.undef,.undef,.undef,.undef,.undef,.undef,.undef,.undef,.undef,.undef,.undef,.undef,.undef] H50) (
 bK H0 (AE (Ai 1 x4 (.i6 1) H0)) λ_ H52=>
 kr [x0,.undef,.undef,x3,x4,.undef,.undef,.undef,.undef,.undef,.undef,x0,x41,x42,x43,x44,x0,x45,x46,x47,x48,.undef,.undef,.undef,.undef,.undef,.undef,.undef,.undef,.undef,.undef,.undef,.undef,.undef,.undef,.undef,.undef,.undef,.undef] H52)) (
 kn [x0,.undef,.undef,x3,x4,.undef,.undef,.undef,.undef,.undef,.undef,x0,x41,x42,x43,x44,.undef,.undef,.undef,.undef,.undef,.undef,.undef,.undef,.undef,.undef,.undef,.undef,.undef,.undef,.undef,.undef,.undef,.undef,.undef,.undef,.undef,.undef,.undef] H0)
theorem Voj (kn kr:List Ab->Aa->Out)(x0 x1:Ab)(H:Aa):ev2 TK 39 cdA .lf (kK kn kr) [x0,x1,.undef,.undef,.undef,.undef,.undef,.undef,.undef,.undef,.undef,.undef,.undef,.undef,.undef,.undef,.undef,.undef,.undef,.undef,.undef,.undef,.undef,.undef,.undef,.undef,.undef,.undef,.undef,.undef,.undef,.undef,.undef,.undef,.undef,.undef,.undef,.undef,.undef] H=cmA kn x0 x1 H:=by kernel_rfl
theorem Voi (kn kr:List Ab->Aa->Out)(x0 x1 x3 x4:Ab)(H:Aa):ev2 TK 39 cdB (.reg [0,1,2,3,4,5]) (kK kn kr) [x0,x1,.undef,x3,x4,.undef,.undef,.undef,.undef,.undef,.undef,.undef,.undef,.undef,.undef,.undef,.undef,.undef,.undef,.undef,.undef,.undef,.undef,.undef,.undef,.undef,.undef,.undef,.undef,.undef,.undef,.undef,.undef,.undef,.undef,.undef,.undef,.undef,.undef] H=cmB kn x0 x1 x3 x4 H:=by kernel_rfl
theorem Voh (kn kr:List Ab->Aa->Out)(x0 x3 x4:Ab)(H:Aa):ev2 TK 39 cdC (.tw .lf (.tw (.tw (.tw .lf (.tw (.tw .lf .lf) .lf)) (.tw .lf .lf)) .lf)) (kK kn kr) [x0,.undef,.undef,x3,x4,.undef,.undef,.undef,.undef,.undef,.undef,.undef,.undef,.undef,.undef,.undef,.undef,.undef,.undef,.undef,.undef,.undef,.undef,.undef,.undef,.undef,.undef,.undef,.undef,.undef,.undef,.undef,.undef,.undef,.undef,.undef,.undef,.undef,.undef] H=cmC kn kr x0 x3 x4 H:=by kernel_rfl
structure SW {α:Type}(lt:α->α->Bool):Prop where
 asy:∀a b,lt a b=true->lt b a=false
 neg:∀a b c,lt a b=false->lt b c=false->lt a c=false
section
variable {α:Type}{lt:α->α->Bool}
def BC (lt:α->α->Bool)(a b:α):Bool:=!lt a b && !lt b a
def Fo (lt:α->α->Bool)(l m:List α):Prop:=∀a,l.filter (BC lt a)=m.filter (BC lt a)
def Ev (lt:α->α->Bool)(l:List α):Prop:=l.Pairwise λa b=>lt b a=false
theorem SW.irr (h:SW lt)(a:α):lt a a=false:=by
 cases e:lt a a with
 |false=>rfl
 |true=>have:=h.asy a a e;rw[e]at this;cases this
theorem OF (h:SW lt)(a:α):BC lt a a=true:=by unfold BC;rw[h.irr];rfl
theorem FI {a b:α}:BC lt a b=true↔lt a b=false/\lt b a=false:=by unfold BC;simp
theorem Fo.refl (l:List α):Fo lt l l:=λ_=>rfl
theorem Fo.trans {l m n:List α}(h:Fo lt l m)(k:Fo lt m n):Fo lt l n:=λa=>(h a).trans (k a)
theorem Fo.app {l m l' m':List α}(h:Fo lt l m)(k:Fo lt l' m'):Fo lt (l++l') (m++m'):=λa=>by rw[Wi,Wi,h a,k a]
theorem Fo.mem (hs:SW lt){l m:List α}(h:Fo lt l m){a:α}:a∈l↔a∈m:=by
 have e:∀l:List α,a∈l↔a∈l.filter (BC lt a):=λl=>by rw[W6];exact⟨λh=>⟨h,OF hs a⟩,λh=>h.1⟩
 rw[e l,e m,h a]
theorem Hr {l:List α}{p:α->Bool}(h:∀a∈l,p a=false):l.filter p=[]:=by rw[List.filter_eq_nil_iff];intro a ha e;rw[h a ha]at e;cases e
theorem Fo.swap (hs:SW lt){u v:List α}(h:∀x∈u,∀y∈v,lt y x=true):Fo lt (u++v) (v++u):=λa=>by
 rw[Wi,Wi];by_cases hu:∃x∈u,BC lt a x=true
 ·obtain⟨x,hx,wO⟩:=hu;have hv:v.filter (BC lt a)=[]:=Hr λy hy=>by
   cases e:BC lt a y with
   |false=>rfl
   |true=>rw[FI]at e wO;have:=hs.neg y a x e.2 wO.1;rw[h x hx y hy]at this;cases this
  rw[hv,VF,List.nil_append]
 ·have:u.filter (BC lt a)=[]:=Hr λx hx=>by
   cases e:BC lt a x with
   |false=>rfl
   |true=>exact absurd ⟨x,hx,e⟩ hu
  rw[this,VF,List.nil_append]
theorem SO (hs:SW lt){x y:α}(h:BC lt x y=true):BC lt x=BC lt y:=by
 rw[FI]at h
 funext a
 rw[V8,FI,FI];exact⟨λ⟨p,q⟩=>⟨hs.neg _ _ _ h.2 p,hs.neg _ _ _ q h.1⟩,λ⟨p,q⟩=>⟨hs.neg _ _ _ h.1 p,hs.neg _ _ _ q h.2⟩⟩
structure Srt (lt:α->α->Bool)(l m:List α):Prop where
 srt:Ev lt m
 st:Fo lt l m
 len:m.length=l.length
theorem L0 {l m:List α}(h1:Ev lt l)(h2:Ev lt m)(h:∀a∈l,∀b∈m,lt b a=false):Ev lt (l++m):=W5.2 ⟨h1,h2,h⟩
def swp (l:List α)(i j:Nat):List α:=match l[i]?,l[j]? with
 |some a,some b=>(l.set i b).set j a
 |_,_=>l
theorem VbS:∀(A:List α) (x y:α) (R:List α),(A++x::R).set A.length y=A++y::R
 |[],_,_,_=>rfl
 |a::A,x,y,R=>by show a::(A++x::R).set A.length y=_;rw[VbS A x y R];rfl
theorem MH (l:List α)(i j:Nat):(swp l i j).length=l.length:=by
 unfold swp;split
 ·rw[zYa,zYa]
 ·rfl
theorem VcH (A:List α)(x:α)(R:List α):(A++x::R)[A.length]? = some x:=by simp
theorem Rj (A M B:List α)(x y:α){i j:Nat}(hi:i=A.length)(hj:j=A.length+1+M.length):swp (A++x::(M++y::B)) i j=A++y::(M++x::B)/\swp (A++x::(M++y::B)) j i=A++y::(M++x::B):=by
 subst hi;have e:∀z:α,A++z::(M++y::B)=(A++z::M)++y::B:=λz=>by simp
 have hlen:∀z:α,(A++z::M).length=j:=λz=>by simp;omega
 have g1:(A++x::(M++y::B))[A.length]? = some x:=VcH _ _ _;have g2:(A++x::(M++y::B))[j]? = some y:=by rw[e,<-hlen x];exact VcH _ _ _
 have s1:∀z w:α,(A++z::(M++y::B)).set j w=A++z::(M++w::B):=λz w=>by rw[e,<-hlen z,VbS];simp
 constructor
 ·unfold swp;rw[g1,g2];dsimp only;rw[VbS,s1]
 ·unfold swp;rw[g1,g2];dsimp only;rw[s1,VbS]

end
section
variable {α:Type}{lt:α->α->Bool}
def Iv (lt:α->α->Bool)(l:List α)(i j:Nat):Bool:=match l[i]?,l[j]? with
 |some x,some y=>lt x y
 |_,_=>false
theorem Rq {l:List α}{i j:Nat}(hi:i<l.length)(hj:j<l.length):Iv lt l i j=lt l[i] l[j]:=by unfold Iv;rw[Vl hi,Vl hj]
def Kj (lt:α->α->Bool)(a:Nat):Nat->List α->List α
 |0,l=>l
 |j+1,l=>if a<j+1/\Iv lt l (j+1) j=true then Kj lt a j (swp l (j+1) j)else l
theorem Vc9 (a:Nat):∀(j:Nat) (l:List α),(Kj lt a j l).length=l.length
 |0,l=>rfl
 |j+1,l=>by
  unfold Kj;split
  ·rw[Vc9 a j,MH]
  ·rfl
theorem VfW (hs:SW lt)(A:List α)(x:α):∀(n:Nat) (S R:List α),S.length=n->Ev lt S->∃P,Kj lt A.length (A.length+S.length) (A++(S++x::R))=A++(P++R)/\Srt lt (S++[x]) P
 |0,S,R,hn,_=>by
  have:S=[]:=V6 hn;subst this;refine⟨[x],?_,⟨Wz _ _,.refl _,rfl⟩⟩;show Kj lt A.length (A.length+0) _=_;rw[Nat.add_zero];cases hA:A.length with
  |zero=>rfl
  |succ k=>unfold Kj;rw[if_neg (by omega)];rfl
 |n+1,S,R,hn,hS=>by
  have hne:S≠[]:=λe=>by rw[e]at hn;cases hn
  obtain⟨T,y,rfl⟩:∃T y,S=T++[y]:=⟨S.dropLast,S.getLast hne,(List.dropLast_concat_getLast hne).symm⟩;have hT:T.length=n:=by simpa using hn
  have hS':=hS;unfold Ev at hS';rw[W5]at hS';obtain⟨hT1,_,hT2⟩:=hS';have hl:A++((T++[y])++x::R)=(A++T)++y::([]++x::R):=by simp
  have hAT:(A++T).length=A.length+T.length:=Vs;have g1:Iv lt (A++((T++[y])++x::R)) (A.length+T.length+1) (A.length+T.length)=lt x y:=by
   unfold Iv;have e1:(A++((T++[y])++x::R))[A.length+T.length+1]? = some x:=by
    have:A++((T++[y])++x::R)=(A++T++[y])++x::R:=by simp
    rw[this,show A.length+T.length+1=(A++T++[y]).length by simp;omega];exact VcH _ _ _
   have e2:(A++((T++[y])++x::R))[A.length+T.length]? = some y:=by rw[hl,<-hAT];exact VcH _ _ _
   rw[e1,e2]
  have hlen:A.length+(T++[y]).length=A.length+T.length+1:=by simp;omega
  rw[hlen];unfold Kj;rw[g1];by_cases hxy:lt x y=true
  ·rw[if_pos ⟨by omega,hxy⟩,hl,(Rj (A++T) [] R y x hAT.symm (by rw[hAT];rfl)).2];obtain⟨P,p1,p2⟩:=VfW hs A x n T (y::R) hT hT1;refine⟨P++[y],?_,⟨?_,?_,by rw[Vs,p2.len];simp⟩⟩
   ·have:(A++T)++x::([]++y::R)=A++(T++x::(y::R)):=by simp
    rw[this,p1];simp
   ·refine L0 p2.srt (Wz _ _) λa ha b hb=>?_;rw[VB]at hb;subst hb;have:=(p2.st.mem hs).2 ha;rcases VA.1 this with h | h
    ·exact hT2 a h b (by simp)
    ·rw[VB]at h;rw[h];exact hs.asy _ _ hxy
   ·refine Fo.trans ?_ (p2.st.app (.refl [y]));rw[Vu,Vu];exact (Fo.refl T).app (Fo.swap hs λa ha b hb=>by rw[VB]at ha hb;rw[ha,hb];exact hxy)
  ·have oY:lt x y=false:=by simpa using hxy
   rw[if_neg (λh=>hxy h.2)];refine⟨T++[y]++[x],by simp,⟨L0 hS (Wz _ _) λa ha b hb=>?_,.refl _,rfl⟩⟩;rw[VB]at hb;subst hb;rcases VA.1 ha with h | h
   ·exact hs.neg _ _ _ oY (hT2 a h y (by simp))
   ·rw[VB]at h;rw[h];exact oY
def QW (lt:α->α->Bool)(a:Nat):Nat->List α->List α
 |0,l=>l
 |k+1,l=>Kj lt a (a+1+k) (QW lt a k l)
theorem Vc6 (a:Nat):∀(k:Nat) (l:List α),(QW lt a k l).length=l.length
 |0,l=>rfl
 |k+1,l=>by unfold QW;rw[Vc9,Vc6 a k]
theorem VfV (hs:SW lt)(A:List α):∀(k:Nat) (S R:List α),S.length=k+1->∃P,QW lt A.length k (A++(S++R))=A++(P++R)/\Srt lt S P
 |0,S,R,hn=>by obtain⟨x,rfl⟩:=Xj.1 hn;exact⟨[x],rfl,⟨Wz _ _,.refl _,rfl⟩⟩
 |k+1,S,R,hn=>by
  have hne:S≠[]:=λe=>by rw[e]at hn;cases hn
  obtain⟨T,y,rfl⟩:∃T y,S=T++[y]:=⟨S.dropLast,S.getLast hne,(List.dropLast_concat_getLast hne).symm⟩;have hT:T.length=k+1:=by simpa using hn
  obtain⟨P,p1,p2⟩:=VfV hs A k T (y::R) hT;have hPl:P.length=k+1:=by rw[p2.len,hT]
  obtain⟨P',q1,q2⟩:=VfW hs A y P.length P R rfl p2.srt;refine⟨P',?_,⟨q2.srt,(p2.st.app (.refl [y])).trans q2.st,by rw[q2.len,Vs,Vs,p2.len]⟩⟩;unfold QW;have:A++((T++[y])++R)=A++(T++y::R):=by simp
  rw[this,p1,show A.length+1+k=A.length+P.length by omega];exact q1

end
section
variable {α:Type}{lt:α->α->Bool}
def swR (a b:Nat):Nat->List α->List α
 |0,l=>l
 |k+1,l=>swp (swR a b k l) (a+k) (b+k)
theorem Rk (a b:Nat):∀(k:Nat) (l:List α),(swR a b k l).length=l.length
 |0,l=>rfl
 |k+1,l=>by unfold swR;rw[MH,Rk a b k]
theorem VjB (A M B U V:List α)(h:U.length=V.length):∀k,k<=U.length->swR A.length (A.length+U.length+M.length) k (A++(U++(M++(V++B))))=A++((V.take k++U.drop k)++(M++((U.take k++V.drop k)++B)))
 |0,_=>by simp[swR]
 |k+1,hk=>by
  unfold swR;rw[VjB A M B U V h k (by omega)];have xL:k<U.length:=by omega
  have qS:k<V.length:=by omega
  rw[VJ xL,VJ qS,Vw xL,Vw qS];have e:A++((V.take k++U[k]::U.drop (k+1))++(M++((U.take k++V[k]::V.drop (k+1))++B)))=(A++V.take k)++U[k]::((U.drop (k+1)++(M++U.take k))++V[k]::(V.drop (k+1)++B)):=by simp only[Vu,List.cons_append,List.nil_append]
  have h1:(V.take k).length=k:=by rw[V5];omega
  have h2:(U.take k).length=k:=by rw[V5];omega
  rw[e,(Rj (A++V.take k) (U.drop (k+1)++(M++U.take k)) (V.drop (k+1)++B) U[k] V[k] (by rw[Vs,h1]) (by simp only[Vs,h1,h2,V9];omega)).1];simp only[Vu,List.cons_append,List.nil_append]
theorem Vex (A M B U V:List α)(h:U.length=V.length){a b n:Nat}(ha:a=A.length)(hb:b=A.length+U.length+M.length)(hn:n=U.length):swR a b n (A++(U++(M++(V++B))))=A++(V++(M++(U++B))):=by subst ha;subst hb;subst hn;rw[VjB A M B U V h U.length (Vo _),Vy (by omega),Vy (Vo _),WD (Vo _),WD (by omega)];simp
structure NS (A B W:List α)(m i j:Nat)(l:List α):Prop where
 ex:∃P u v S,l=A++(P++(u++(v++(S++B))))/\P++(v++(u++S))=W/\u.length=i/\v.length=j/\A.length+P.length+i=m
 pos:0<i/\0<j
theorem NS.start {A B U V:List α}(hU:0<U.length)(hV:0<V.length):NS A B (V++U) (A.length+U.length) U.length V.length (A++(U++(V++B))):=
 ⟨⟨[],U,V,[],by simp,by simp,rfl,rfl,by simp⟩,hU,hV⟩
theorem NS.hi {A B W l:List α}{m i j:Nat}(h:NS A B W m i j l)(hij:j<i):NS A B W m (i-j) j (swR (m-i) m j l):=by
 obtain⟨⟨P,u,v,S,rfl,hW,hu,hv,hm⟩,h1,h2⟩:=h;have hsp:u.take j++u.drop j=u:=VW j u;have l1:(u.take j).length=j:=by rw[V5];omega
 have l2:(u.drop j).length=i-j:=by rw[V9,hu]
 have e:A++(P++(u++(v++(S++B))))=(A++P)++(u.take j++(u.drop j++(v++(S++B)))):=by
  conv=>lhs;rw[<-hsp]
  simp only[Vu]
 rw[e,Vex (A++P) (u.drop j) (S++B) (u.take j) v (by rw[l1,hv]) (by rw[Vs];omega) (by rw[Vs,l1,l2];omega) l1.symm];refine⟨⟨P++v,u.drop j,u.take j,S,by simp,?_,l2,l1,by rw[Vs];omega⟩,by omega,h2⟩;rw[<-hW]
 conv=>rhs;rw[<-hsp]
 simp only[Vu]
theorem NS.lo {A B W l:List α}{m i j:Nat}(h:NS A B W m i j l)(hij:i<j):NS A B W m i (j-i) (swR (m-i) (m+j-i) i l):=by
 obtain⟨⟨P,u,v,S,rfl,hW,hu,hv,hm⟩,h1,h2⟩:=h;have hsp:v.take (j-i)++v.drop (j-i)=v:=VW (j-i) v;have l1:(v.take (j-i)).length=j-i:=by rw[V5];omega
 have l2:(v.drop (j-i)).length=i:=by rw[V9,hv];omega
 have e:A++(P++(u++(v++(S++B))))=(A++P)++(u++(v.take (j-i)++(v.drop (j-i)++(S++B)))):=by
  conv=>lhs;rw[<-hsp]
  simp only[Vu]
 rw[e,Vex (A++P) (v.take (j-i)) (S++B) u (v.drop (j-i)) (by rw[l2,hu]) (by rw[Vs];omega) (by rw[Vs,l1];omega) hu.symm];refine⟨⟨P,v.drop (j-i),v.take (j-i),u++S,by simp,?_,l2,l1,hm⟩,h1,by omega⟩;rw[<-hW]
 conv=>rhs;rw[<-hsp]
 simp only[Vu]
theorem NS.eq {A B W l:List α}{m i:Nat}(h:NS A B W m i i l):swR (m-i) m i l=A++(W++B):=by
 obtain⟨⟨P,u,v,S,rfl,hW,hu,hv,hm⟩,h1,h2⟩:=h;have e:A++(P++(u++(v++(S++B))))=(A++P)++(u++([]++(v++(S++B)))):=by simp
 rw[e,Vex (A++P) [] (S++B) u v (by omega) (by rw[Vs];omega) (by rw[Vs];simp;omega) hu.symm,<-hW];simp
theorem NS.len {A B W l:List α}{m i j:Nat}(h:NS A B W m i j l):i<=m/\m+j<=l.length:=by obtain⟨⟨P,u,v,S,rfl,hW,hu,hv,hm⟩,h1,h2⟩:=h;simp only[Vs];omega
structure BsI (p:Nat->Bool)(s r i j:Nat):Prop where
 le:s<=i/\i<=j/\j<=r
 up:∀c,s<=c->c<i->p c=true
 dn:∀c,j<=c->c<r->p c=false
theorem BsI.start {p:Nat->Bool}{s r:Nat}(h:s<=r):BsI p s r s r:=⟨⟨Vo _,h,Vo _⟩,λc _ _=>by omega,λc _ _=>by omega⟩
theorem BsI.yes {p:Nat->Bool}{s r i j h:Nat}(k:BsI p s r i j)(hm:∀c d,s<=c->c<=d->d<r->p d=true->p c=true)(h1:i<=h)(h2:h<j)(hp:p h=true):BsI p s r (h+1) j:=by obtain⟨⟨a,b,c⟩,d,e⟩:=k;exact⟨⟨by omega,by omega,c⟩,λx hx hy=>hm x h hx (by omega) (by omega) hp,e⟩
theorem BsI.no {p:Nat->Bool}{s r i j h:Nat}(k:BsI p s r i j)(hm:∀c d,s<=c->c<=d->d<r->p d=true->p c=true)(h1:i<=h)(h2:h<j)(hp:p h=false):BsI p s r i h:=by
 obtain⟨⟨a,b,c⟩,d,e⟩:=k;refine⟨⟨a,h1,by omega⟩,d,λx hx hy=>?_⟩;cases hq:p x with
 |false=>rfl
 |true=>have:=hm h x (by omega) hx hy hq;rw[hp]at this;cases this

end
section
variable {α:Type}{lt:α->α->Bool}
theorem Hl {l:List α}(h:Ev lt l)(hs:SW lt){i j:Nat}(hij:i<=j)(hj:j<l.length):lt l[j] (l[i]'(by omega))=false:=by
 by_cases e:i=j
 ·subst e;exact hs.irr _
 ·exact WZ.1 h i j (by omega) hj (by omega)
theorem HP {l:List α}{n:Nat}{x:α}(h:x∈l.take n):∃i,∃hi:i<l.length,i<n/\l[i]=x:=by obtain⟨i,hi,e⟩:=VU h;rw[V5]at hi;exact⟨i,by omega,by omega,by rw[<-e,XM]⟩
theorem HQ {l:List α}{n:Nat}{x:α}(h:x∈l.drop n):∃i,∃hi:i<l.length,n<=i/\l[i]=x:=by obtain⟨i,hi,e⟩:=VU h;rw[V9]at hi;exact⟨n+i,by omega,by omega,by rw[<-e,Xn]⟩
theorem Pn (hs:SW lt){U V W1 W2:List α}{i k:Nat}(hU:Ev lt U)(hV:Ev lt V)(h1:∀x∈U.drop i,∀y∈V.take k,lt y x=true)(h2:∀x∈U.take i,∀y∈V.drop k,lt y x=false)
  (w1:Srt lt (U.take i++V.take k) W1)(w2:Srt lt (U.drop i++V.drop k) W2):Srt lt (U++V) (W1++W2):=by
 have eU:U.take i++U.drop i=U:=VW i U;have eV:V.take k++V.drop k=V:=VW k V;have hU':=hU;have hV':=hV;rw[<-eU]at hU';rw[<-eV]at hV';have pU:=(W5.1 hU').2.2;have pV:=(W5.1 hV').2.2;refine⟨L0 w1.srt w2.srt λa ha b hb=>?_,?_,?_⟩
 ·have jQ:=(w1.st.mem hs).2 ha;have hb':=(w2.st.mem hs).2 hb;rcases VA.1 jQ with x | x <;> rcases VA.1 hb' with y | y
  ·exact pU a x b y
  ·exact h2 a x b y
  ·exact hs.asy _ _ (h1 b y a x)
  ·exact pV a x b y
 ·refine Fo.trans ?_ (w1.st.app w2.st);have e1:U++V=U.take i++((U.drop i++V.take k)++V.drop k):=by
   conv=>lhs;rw[<-eU,<-eV]
   simp only[Vu]
  have e2:U.take i++V.take k++(U.drop i++V.drop k)=U.take i++((V.take k++U.drop i)++V.drop k):=by simp only[Vu]
  rw[e1,e2];exact (Fo.refl _).app ((Fo.swap hs h1).app (.refl _))
 ·rw[Vs,w1.len,w2.len,Vs,Vs,Vs,V5,V5,V9,V9];omega
section
variable {U V A B:List α}{a m b mid s0 r0 s:Nat}
def RF (lt:α->α->Bool)(l:List α)(P:Nat)(c:Nat):Bool:=!Iv lt l (P-c) c
theorem VpR (ha:A.length=a){c:Nat}(h1:a<=c)(h2:c<a+U.length):(A++(U++(V++B)))[c]? = some (U[c-a]'(by omega)):=by rw[VG (by omega),Vp (by omega),ha,Vl]
theorem VpB (ha:A.length=a)(hm:a+U.length=m){c:Nat}(h1:m<=c)(h2:c<m+V.length):(A++(U++(V++B)))[c]? = some (V[c-m]'(by omega)):=by rw[VG (by omega),VG (by omega),Vp (by omega),show c-A.length-U.length=c-m by omega,Vl]
theorem Ri (ha:A.length=a)(hm:a+U.length=m){P c:Nat}(h1:a<=c)(h2:c<m)(h3:m<=P-c)(h4:P-c<m+V.length):RF lt (A++(U++(V++B))) P c = !lt (V[P-c-m]'(by omega)) (U[c-a]'(by omega)):=by unfold RF Iv;rw[VpB ha hm h3 h4,VpR ha h1 (by omega)]
theorem Vev (hs:SW lt)(hU:Ev lt U)(hV:Ev lt V)(ha:A.length=a)(hm:a+U.length=m){P c d:Nat}(h1:a<=c)(vU:c<=d)(h2:d<m)(h3:m<=P-d)(h4:P-c<m+V.length)
  (h:RF lt (A++(U++(V++B))) P d=true):RF lt (A++(U++(V++B))) P c=true:=by
 rw[Ri ha hm (by omega) h2 h3 (by omega)]at h;rw[Ri ha hm h1 (by omega) (by omega) h4];simp only[Wk]at h ⊢;have u:=Hl hU hs (i:=c-a) (j:=d-a) (by omega) (by omega);have v:=Hl hV hs (i:=P-d-m) (j:=P-c-m) (by omega) (by omega);exact hs.neg _ _ _ v (hs.neg _ _ _ h u)
theorem Ves (hs:SW lt)(hU:Ev lt U)(hV:Ev lt V)(ha:A.length=a)(hm:a+U.length=m)(hb:m+V.length=b)(iZ:mid=(a+b) / 2)(hUp:0<U.length)(hVp:0<V.length)
  (h0:s0=if mid<m then mid+m-b else a)(hr:r0=if mid<m then mid else m)(k:BsI (RF lt (A++(U++(V++B))) (mid+m-1)) s0 r0 s s) :
  (∀x∈U.drop (s-a),∀y∈V.take (mid-s),lt y x=true)/\(∀x∈U.take (s-a),∀y∈V.drop (mid-s),lt y x=false)/\a<=s/\s<=m/\s<=mid/\m<=mid+m-s/\mid+m-s<=b:=by
 obtain⟨⟨k1,_,k2⟩,k3,k4⟩:=k;have iX:a<=s/\s<=m/\s<=mid/\mid+m-s<=b:=by
  by_cases hc:mid<m
  ·rw[if_pos hc]at h0 hr;omega
  ·rw[if_neg hc]at h0 hr;omega
 refine⟨λx hx y hy=>?_,λx hx y hy=>?_,by omega,by omega,by omega,by omega,by omega⟩
 ·obtain⟨i,hi,hi2,rfl⟩:=HQ hx;obtain⟨j,hj,mD,rfl⟩:=HP hy;have hlt:s<r0:=by
   by_cases hc:mid<m
   ·rw[if_pos hc]at hr;omega
   ·rw[if_neg hc]at hr;omega
  have:=k4 s (Vo _) hlt;rw[Ri ha hm (by omega) (by omega) (by omega) (by omega)]at this;simp only[XG]at this;have u:=Hl hU hs (i:=s-a) (j:=i) hi2 hi;have v:=Hl hV hs (i:=j) (j:=mid+m-1-s-m) (by omega) (by omega);cases e:lt V[j] U[i]with
  |true=>rfl
  |false=>have h9:=hs.neg _ _ _ v (hs.neg _ _ _ e u);rw[h9]at this;cases this
 ·obtain⟨i,hi,hi2,rfl⟩:=HP hx;obtain⟨j,hj,mD,rfl⟩:=HQ hy;have hlt:s0<s:=by
   by_cases hc:mid<m
   ·rw[if_pos hc]at h0;omega
   ·rw[if_neg hc]at h0;omega
  have:=k3 (s-1) (by omega) (by omega);rw[Ri ha hm (by omega) (by omega) (by omega) (by omega)]at this;simp only[Wk]at this;have u:=Hl hU hs (i:=i) (j:=s-1-a) (by omega) (by omega);have v:=Hl hV hs (i:=mid+m-1-(s-1)-m) (j:=j) (by omega) hj;exact hs.neg _ _ _ v (hs.neg _ _ _ this u)

end
theorem VnE (hs:SW lt){x:α}{V:List α}{k:Nat}(hV:Ev lt V)(h1:∀y∈V.take k,lt y x=true)(h2:∀y∈V.drop k,lt y x=false):Srt lt ([x]++V) (V.take k++([x]++V.drop k)):=by
 have:=Pn (U:=[x]) (V:=V) (i:=0) (k:=k) (W1:=V.take k) (W2:=[x]++V.drop k) hs (Wz _ _) hV (λa ha y hy=>by
  have:a=x:=by simpa using ha
  rw[this];exact h1 y hy) (λa ha=>by simp at ha) ⟨WA (XK k V) hV,Fo.refl _,rfl⟩
  ⟨L0 (Wz _ _) (WA (XO k V) hV) λa ha y hy=>by rw[VB]at ha;rw[ha];exact h2 y hy,.refl _,rfl⟩
 exact this
theorem VnF (hs:SW lt){y:α}{U:List α}{i:Nat}(hU:Ev lt U)(h1:∀x∈U.take i,lt y x=false)(h2:∀x∈U.drop i,lt y x=true):Srt lt (U++[y]) (U.take i++([y]++U.drop i)):=by
 have:=Pn (U:=U) (V:=[y]) (i:=i) (k:=1) (W1:=U.take i++[y]) (W2:=U.drop i) hs hU (Wz _ _) (λx hx a ha=>by
  have:a=y:=by simpa using ha
  rw[this];exact h2 x hx) (λx hx a ha=>by simp at ha)
  ⟨L0 (WA (XK i U) hU) (Wz _ _) λa ha x hx=>by rw[VB]at hx;rw[hx];exact h1 a ha,.refl _,rfl⟩
  ⟨WA (XO i U) hU,by simpa using Fo.refl _,by simp⟩
 simpa using this
def upR (a:Nat):Nat->List α->List α
 |0,l=>l
 |k+1,l=>swp (upR a k l) (a+k) (a+k+1)
def dnR (m:Nat):Nat->List α->List α
 |0,l=>l
 |k+1,l=>swp (dnR m k l) (m-k) (m-k-1)
theorem Vj7 (A B:List α)(x:α)(V:List α):∀k,k<=V.length->upR A.length k (A++([x]++(V++B)))=A++((V.take k++([x]++V.drop k))++B)
 |0,_=>by simp[upR]
 |k+1,hk=>by
  have qS:k<V.length:=hk;unfold upR;rw[Vj7 A B x V k (by omega)];have e:A++((V.take k++([x]++V.drop k))++B)=(A++V.take k)++x::([]++V[k]::(V.drop (k+1)++B)):=by rw[VJ qS];simp only[Vu,List.cons_append,List.nil_append]
  have h1:(V.take k).length=k:=by rw[V5];omega
  rw[e,(Rj (A++V.take k) [] (V.drop (k+1)++B) x V[k] (by rw[Vs,h1]) (by rw[Vs,h1];rfl)).1,Vw qS];simp only[Vu,List.cons_append,List.nil_append]
theorem Vkj (A B:List α)(y:α)(U:List α):∀k,k<=U.length->dnR (A.length+U.length) k (A++(U++([y]++B)))=A++((U.take (U.length-k)++([y]++U.drop (U.length-k)))++B)
 |0,_=>by simp[dnR]
 |k+1,hk=>by
  unfold dnR;rw[Vkj A B y U k (by omega)];obtain⟨i,hi⟩:∃i,U.length=i+(k+1):=⟨U.length-(k+1),by omega⟩;have h2:U.length-k=i+1:=by omega
  have h3:U.length-(k+1)=i:=by omega
  have xQ:i<U.length:=by omega
  rw[h2,h3];have h1:(U.take i).length=i:=by rw[V5];omega
  have e:A++((U.take (i+1)++([y]++U.drop (i+1)))++B)=(A++U.take i)++U[i]::([]++y::(U.drop (i+1)++B)):=by rw[Vw xQ];simp only[Vu,List.cons_append,List.nil_append]
  rw[e,(Rj (A++U.take i) [] (U.drop (i+1)++B) U[i] y (i:=A.length+U.length-k-1) (j:=A.length+U.length-k) (by rw[Vs,h1];omega) (by rw[Vs,h1];simp;omega)).2,VJ xQ];simp only[Vu,List.cons_append,List.nil_append]

end
section
variable {α:Type}{lt:α->α->Bool}
def Nu (lt:α->α->Bool)(w:Nat)(l:List α):Prop:=∀(i j:Nat) (hj:j<l.length) (hi:i<j),i / w=j / w->lt l[j] (l[i]'(by omega))=false
structure Stg (lt:α->α->Bool)(w:Nat)(l:List α)(a:Nat)(l':List α):Prop where
 ex:∃P,l'=P++l.drop a/\P.length=a/\Fo lt (l.take a) P/\Nu lt w P
theorem Stg.start (w:Nat)(l:List α):Stg lt w l 0 l:=⟨⟨[],by simp,rfl,by simpa using Fo.refl _,λi j hj=>by simp at hj⟩⟩
theorem Stg.len {w:Nat}{l l':List α}{a:Nat}(h:Stg lt w l a l')(ha:a<=l.length):l'.length=l.length:=by obtain⟨P,rfl,hP,_,_⟩:=h.ex;rw[Vs,hP,V9];omega
theorem SZ {w a i:Nat}(hw:0<w)(hd:w ∣ a)(hi:i<w):(a+i) / w=a / w:=by obtain⟨q,rfl⟩:=hd;rw[Nat.mul_add_div hw,Nat.mul_div_cancel_left _ hw,WK hi];omega
theorem Vjg {w a i:Nat}(hw:0<w)(hd:w ∣ a)(hi:i<a):i / w<a / w:=by obtain⟨q,rfl⟩:=hd;rw[Nat.mul_div_cancel_left _ hw];rw[WG hw,W8];exact hi
theorem Nu.app {w:Nat}{P S:List α}(hw:0<w)(hd:w ∣ P.length)(h:Nu lt w P)(hS:Ev lt S):S.length<=w->Nu lt w (P++S):=by
 intro hl i j hj hi he;rw[Vs]at hj;by_cases h1:j<P.length
 ·rw[XP h1,XP (by omega)];exact h i j h1 hi he
 ·by_cases h2:i<P.length
  ·have e1:=Vjg hw hd h2;have e2:=SZ hw hd (show j-P.length<w by omega);rw[show P.length+(j-P.length)=j by omega]at e2;omega
  ·rw[Wt (by omega),Wt (by omega)];exact WZ.1 hS (i-P.length) (j-P.length) (by omega) (by omega) (by omega)
theorem Stg.all {w:Nat}{l l':List α}(h:Stg lt w l l.length l'):Fo lt l l'/\Nu lt w l'/\l'.length=l.length:=by obtain⟨P,h1,hP,hst,hb⟩:=h.ex;rw[WD (Vo _),VF]at h1;rw[Vy (Vo _)]at hst;subst h1;exact⟨hst,hb,hP⟩
theorem Nu.block {w a:Nat}{l:List α}(hw:0<w)(hd:w ∣ a)(h:Nu lt w l)(n:Nat)(hn:n<=w):Ev lt ((l.drop a).take n):=by refine WZ.2 λi j hi hj hij=>?_;rw[V5,V9]at hi hj;rw[XM,XM,Xn,Xn];refine h (a+i) (a+j) (by omega) (by omega) ?_;rw[SZ hw hd (by omega),SZ hw hd (by omega)]
theorem Nu.whole {w:Nat}{l:List α}(hw:l.length<=w)(h:Nu lt w l):Ev lt l:=by refine WZ.2 λi j hi hj hij=>h i j hj hij ?_;rw[WK (by omega),WK (by omega)]
theorem RG (hs:SW lt):∀l m:List α,(l.Pairwise λa b=>lt a b=true)->(m.Pairwise λa b=>lt a b=true)->(∀a,a∈l↔a∈m)->l=m
 |[],m,_,_,h=>by
  cases m with
  |nil=>rfl
  |cons y m=>have:=(h y).2 (by simp);cases this
 |x::l,m,hl,hm,h=>by
  cases m with
  |nil=>have:=(h x).1 (by simp);cases this
  |cons y m=>
   rw[Xi]at hl hm;have hxy:x=y:=by
    rcases Wf.1 ((h x).1 (by simp))with e | e
    ·exact e
    ·rcases Wf.1 ((h y).2 (by simp))with e' | e'
     ·exact e'.symm
     ·have a1:=hm.1 x e;have a2:=hl.1 y e';rw[hs.asy _ _ a1]at a2;cases a2
   subst hxy
   congr 1
   refine RG hs l m hl.2 hm.2 λa=>?_;have ne:∀ {k:List α},(∀a∈k,lt x a=true)->a∈k->a≠x:=λhk ha e=>by have:=hk a ha;rw[e,hs.irr]at this;cases this
   constructor
   ·intro ha;rcases Wf.1 ((h a).1 (by simp[ha]))with e | e
    ·exact absurd e (ne hl.1 ha)
    ·exact e
   ·intro ha;rcases Wf.1 ((h a).2 (by simp[ha]))with e | e
    ·exact absurd e (ne hm.1 ha)
    ·exact e
def cpF (lt:α->α->Bool):α->List α->List α
 |_,[]=>[]
 |x,y::t=>if BC lt y x then cpF lt y t else y::cpF lt y t
def cpL (lt:α->α->Bool):List α->List α
 |[]=>[]
 |x::t=>x::cpF lt x t
theorem Vkl (hs:SW lt):∀(t:List α) (x:α),Ev lt (x::t)->((cpF lt x t).Pairwise λa b=>lt a b=true)/\(∀z∈cpF lt x t,lt x z=true)/\∀z,z∈cpF lt x t↔BC lt z x=false/\(t.filter (BC lt z)).head? = some z
 |[],x,h=>⟨List.Pairwise.nil,λz (hz:z∈[])=>(by cases hz),λz=>(by simp[cpF])⟩
 |y::t,x,h=>by
  have h':=h;unfold Ev at h';rw[Xi]at h';obtain⟨hx,ht⟩:=h';obtain⟨i1,i2,i3⟩:=Vkl hs t y ht;have yK:=hx y (by simp);unfold cpF;by_cases he:BC lt y x=true
  ·rw[if_pos he];have eY:=SO hs he;rw[FI]at he;have hlt:∀z∈cpF lt y t,lt x z=true:=λz hz=>by
    cases e:lt x z with
    |true=>rfl
    |false=>have:=hs.neg y x z he.1 e;rw[i2 z hz]at this;cases this
   refine⟨i1,hlt,λz=>?_⟩;rw[i3 z];have e1:BC lt z y=BC lt z x:=by rw[V8,FI,FI];exact⟨λ⟨p,q⟩=>⟨hs.neg _ _ _ p he.1,hs.neg _ _ _ he.2 q⟩,λ⟨p,q⟩=>⟨hs.neg _ _ _ p he.2,hs.neg _ _ _ he.1 q⟩⟩
   rw[e1];constructor
   ·rintro⟨a,b⟩;refine⟨a,?_⟩;rw[Wm,if_neg (by rw[e1,a];decide)];exact b
   ·rintro⟨a,b⟩;refine⟨a,?_⟩;rw[Wm,if_neg (by rw[e1,a];decide)]at b;exact b
  ·rw[if_neg he];have hxy:lt x y=true:=by
    cases e:lt x y with
    |true=>rfl
    |false=>exact absurd (FI.2 ⟨yK,e⟩) he
   have hlt:∀z∈cpF lt y t,lt x z=true:=λz hz=>by
    cases e:lt x z with
    |true=>rfl
    |false=>have:=hs.neg x z y e (hs.asy _ _ (i2 z hz));rw[hxy]at this;cases this
   refine⟨Xi.2 ⟨i2,i1⟩,λz hz=>?_,λz=>?_⟩
   ·rcases Wf.1 hz with e | e
    ·rw[e];exact hxy
    ·exact hlt z e
   ·rw[Wf,i3 z,Wm];by_cases oB:BC lt z y=true
    ·rw[if_pos oB];have lJ:BC lt z x=false:=by
      cases e:BC lt z x with
      |false=>rfl
      |true=>rw[FI]at e oB;have:=hs.neg x z y e.2 oB.1;rw[hxy]at this;cases this
     rw[lJ,oB];simp only[List.head?_cons,Vv,Yf,false_and,or_false,true_and];exact⟨λh=>h.symm,λh=>h.symm⟩
    ·rw[if_neg oB];have jX:BC lt z y=false:=by simpa using oB
     rw[jX];have hne:z≠y:=λe=>by rw[e,OF hs]at jX;cases jX
     simp only[hne,false_or,true_and];constructor
     ·intro hb;refine⟨?_,hb⟩;have hz:z∈cpF lt y t:=(i3 z).2 ⟨jX,hb⟩;cases e:BC lt z x with
      |false=>rfl
      |true=>rw[FI]at e;have:=hlt z hz;rw[e.2]at this;cases this
     ·exact λh=>h.2
theorem Vof (hs:SW lt){l:List α}(h:Ev lt l):((cpL lt l).Pairwise λa b=>lt a b=true)/\∀z,z∈cpL lt l↔(l.filter (BC lt z)).head? = some z:=by
 cases l with
 |nil=>exact⟨List.Pairwise.nil,λz=>by simp[cpL]⟩
 |cons x t=>
  obtain⟨i1,i2,i3⟩:=Vkl hs t x h;refine⟨Xi.2 ⟨i2,i1⟩,λz=>?_⟩;show z∈x::cpF lt x t↔_;rw[Wf,i3 z,Wm];by_cases lJ:BC lt z x=true
  ·rw[if_pos lJ,lJ];simp only[List.head?_cons,Vv,Yf,false_and,or_false];exact⟨λh=>h.symm,λh=>h.symm⟩
  ·rw[if_neg lJ];have hne:z≠x:=λe=>by rw[e,OF hs]at lJ;exact lJ rfl
   simp only[hne,false_or];exact⟨λh=>h.2,λh=>⟨by simpa using lJ,h⟩⟩

end
def Df (L:List Nd)(i:Nat)(x:Nd)(c:Int):Bool:=
 decide (0<=c)&&(decide (x.lv=1->c<=255))&&decide (1<x.lv->0<c->c<=i/\∀y,L[(c-1).toNat]? = some y->y.lv=x.lv-1)
def Gd (L:List Nd)(i:Nat):Bool:=
 match L[i]? with
 |some x=>decide (1<=x.lv/\x.lv<=1329)&&(List.range 4).all λk=>Df L i x (x.kid k)
 |none=>true
def AH (L:List Nd):Bool:=(List.range L.length).all (Gd L)
theorem Vff (L:List Nd)(tk:Tok)(H:Aa)(hL:L.length<1152921504606846976):Uc9 (.sl (enL cNd L) tk) H=some (.ret (.bool (AH L)),H):=by
 unfold Uc9;rw[show AH L=(List.range L.length).all (Gd L) from rfl];have:=DA L.length (Gd L) (λi=>[.sl (enL cNd L) tk,.i6 (i:Int)]) H (some (.ret (.bool true),H)) (some (.ret (.bool false),H)) hL (λrec i hi=>?_) (λrec=>?_)
  (G:=λrec1 vs H1=>Uc8 H rec1 (ag vs 0) (ag vs 1) H1)
 ·refine this.trans ?_;cases (List.range L.length).all (Gd L) <;> rfl
 ·have hx:(i:Int)<(L.length:Int):=by omega
  have hg:L[i]? = some L[i]:=Vl hi;unfold Uc8;simp only[Al,AZ,Ax,BB,Bh,hx,decide_true,AU,Az hi,Ay,A0,Nat.add_zero,Co];by_cases h1:L[i].lv<1
  ·have:Gd L i=false:=by simp only[Gd,hg];simp;intro;omega
   simp[h1,this]
  ·by_cases h2:L[i].lv>1329
   ·have:Gd L i=false:=by simp only[Gd,hg];simp;intro;omega
    simp[h1,h2,this,Az hi]
   ·have hd:Gd L i=(List.range 4).all λk=>Df L i L[i] (L[i].kid k):=by simp only[Gd,hg];rw[zXc (by omega)];rfl
    simp only[h1,h2,decide_false,KX,BB,Du,Ca,AI,hd,A0,Nat.add_zero,Co,Ay,Az hi];have:=DA 4 (λk=>Df L i L[i] (L[i].kid k)) (λk=>[.sl (enL cNd L) tk,.i6 (i:Int),.i6 (k:Int)]) H (rec [.sl (enL cNd L) tk,.i6 ((i+1:Nat):Int)] H) (some (.ret (.bool false),H)) (by decide) (λaA k hk=>?_) (λaA=>?_)
     (G:=λaA vs H1=>Uc7 H rec aA (ag vs 0) (ag vs 1) (ag vs 2) H1)
    ·exact this
    ·have hk':(k:Int)<4:=by omega
     unfold Uc7;simp only[Al,AZ,Bd,BB,Bh,hk',decide_true,AU,Az hi,Ay,FH hk,A0,Vr,V4,Fl hk,Co,Av (show k<9223372036854775807 by omega),CC,Dv,Du];generalize L[i].kid k=c;generalize hx':L[i]=x at h1 h2 ⊢;by_cases hc:c<0
     ·have:Df L i x c=false:=by simp[Df];omega
      simp[hc,this,Az hi,hx']
     ·obtain⟨n,rfl⟩:=Ws (show 0<=c by omega);by_cases hl:x.lv=1
      ·by_cases rX:255<n
       ·have:Df L i x n=false:=by simp[Df,hl];omega
        have nX:(255:Int)<n:=by omega
        simp[hc,hl,rX,nX,this,Az hi,hx']
       ·have:Df L i x n=true:=by simp[Df,hl];omega
        have nX:¬(255:Int)<n:=by omega
        simp[hc,hl,rX,nX,this,Az hi,hx']
      ·have cA:1<x.lv:=by omega
       by_cases hn:0<n
       ·by_cases qB:i<n
        ·have:Df L i x n=false:=by unfold Df;rw[WX];right;rw[decide_eq_false_iff_not];intro h;have:=(h cA (by omega)).1;omega
         simp[hc,hl,cA,hn,qB,this,Az hi,hx']
        ·have hlt:n-1<L.length:=by omega
         have e1:((n:Int)-1).toNat=n-1:=by omega
         have hk2:Df L i x n=decide (L[n-1].lv=x.lv-1):=by
          unfold Df;rw[e1,Vl hlt,V8];simp only[Vx,zXe,Vv,forall_eq'];constructor
          ·intro h;exact (h.2 cA (by omega)).2
          ·intro h;exact⟨⟨by omega,by omega⟩,λ_ _=>⟨by omega,h⟩⟩
         have hw:IntKind.i64.wrap (x.lv-1)=x.lv-1:=An (by omega) (by omega);simp[hc,hl,cA,hn,qB,hk2,Ih (show 0<n by omega) (by omega),Az hlt,Az hi,hx',hw];by_cases he:L[n-1].lv=x.lv-1 <;> simp[he]
       ·have:Df L i x n=true:=by unfold Df;simp only[Vx,zXe];exact⟨⟨by omega,by omega⟩,λ_ _=>by omega⟩
        simp[hc,hl,cA,hn,this,Az hi,hx']
    ·unfold Uc7;simp[Av (show i<9223372036854775807 by omega)]
 ·unfold Uc8;simp
theorem AS {L:List Nd}(h:AH L=true){i:Nat}(hi:i<L.length):1<=L[i].lv/\L[i].lv<=1329/\∀k,k<4->0<=L[i].kid k/\(L[i].lv=1->L[i].kid k<=255)/\(1<L[i].lv->0<L[i].kid k->L[i].kid k<=i/\∀y,L[(L[i].kid k-1).toNat]? = some y->y.lv=L[i].lv-1):=by have h1:=V7.1 h i (by simpa using hi);simp only[Gd,Vl hi,Vx,zXe,V7]at h1;refine⟨h1.1.1,h1.1.2,λk hk=>?_⟩;have h2:=h1.2 k (by simpa using hk);simp only[Df,Vx,zXe]at h2;exact⟨h2.1.1,h2.1.2,h2.2⟩
def Me (E:List Bool)(x:Nd):Bool:=(List.range 4).all λk=>decide (x.kid k=0)||(decide (1<x.lv)&&E.getD (x.kid k).toNat true)
def A2 (L:List Nd):List Bool:=L.foldl (λE x=>E++[Me E x]) [true]
theorem Ik (L:List Nd)(x:Nd):A2 (L++[x])=A2 L++[Me (A2 L) x]:=by simp[A2]
theorem Da (L:List Nd):(A2 L).length=L.length+1:=by
 rcases GN L with rfl | ⟨l,a,rfl⟩
 ·rfl
 ·rw[Ik];have:=Da l;simp[this]
termination_by L.length
decreasing_by (subst_vars;simp)
theorem UZ (L:List Nd){i:Nat}(hi:i<L.length):A2 (L.take (i+1))=A2 (L.take i)++[Me (A2 (L.take i)) L[i]]:=by rw[Vw hi,Ik]
theorem Q6 (L:List Nd)(tk:Tok)(H:Aa)(hL:L.length<140737488355327)(hl:AH L=true):Ubj (.sl (enL cNd L) tk) H=some (.ret (.sl (enL cB (A2 L)) .no),H):=by
 have dB:=FZ (f:=cB) (a:=false) (n:=L.length+1) (bytes:=1) (H:=H) (by omega) (by omega);have hid:=CK (sz:=1) (id:=H.length) (n:=L.length+1) (K:=.i64) (g:=0) (off:=0) (cap:=L.length+1) (ex:=true) (i:=0) (by omega);have hst:=DR (f:=cB) (sz:=1) (l:=List.replicate (L.length+1) false) (i:=0) (a:=true) (v:=.bool true) (H:=H++[.cel 0 (flat cB (List.replicate (L.length+1) false))]) (id:=H.length) (by simp) (by simp) rfl;unfold Ubj;simp only[Ax,BB,CC,Av (show L.length<9223372036854775807 by omega),dB,Bj];simp only[X9,Nat.add_zero]at hid;rw[show ((0:Nat):Int)=0 from rfl]at hid;simp only[X9]at hst;rw[hid];simp only[BB,hst,AJ,CD,Ut,Ur];have key:=CA (G:=λrec1 vs H1=>UcB H rec1 (ag vs 0) (ag vs 1) (ag vs 2) H1) L.length (λi=>[.sl (enL cNd L) tk,.ms H.length 0 0 (L.length+1) (L.length+1) 1 true,.i6 (i:Int)]) (λi=>H++[.cel 0 (flat cB (A2 (L.take i)++List.replicate (L.length-i) false))]) (some (.ret (.sl (enL cB (A2 L)) .no),H)) (by omega) (λrec i hi=>?_) (λrec=>?_)
 ·have e:(List.replicate (L.length+1) false).set 0 true=A2 (L.take 0)++List.replicate (L.length-0) false:=by simp[zXm,A2]
  rw[e];exact key
 ·have aE:(i:Int)<(L.length:Int):=by omega
  obtain⟨l1,l2,l3⟩:=AS hl hi;have hEl:(A2 (L.take i)).length=i+1:=by rw[Da];simp;omega
  unfold UcB;simp only[Al,AZ,Bd,Ax,BB,Bh,aE,decide_true,AU];have hs:∀k,k<4->1<L[i].lv->(A2 (L.take i)++List.replicate (L.length-i) false).getD (L[i].kid k).toNat true=(A2 (L.take i)).getD (L[i].kid k).toNat true:=by
   intro k hk h1;obtain⟨q1,q2,q3⟩:=l3 k hk;have:(L[i].kid k).toNat<(A2 (L.take i)).length:=by
    rw[hEl];by_cases h0:0<L[i].kid k
    ·have:=(q3 h1 h0).1;omega
    ·omega
   simp only[Vm,Vp this]
  have hb:∀k,k<4->1<L[i].lv->(L[i].kid k).toNat<L.length+1:=by
   intro k hk h1;obtain⟨q1,q2,q3⟩:=l3 k hk;by_cases h0:0<L[i].kid k
   ·have:=(q3 h1 h0).1;omega
   ·omega
  have hEs:Me (A2 (L.take i)) L[i]=(List.range 4).all λk=>decide (L[i].kid k=0)||(decide (1<L[i].lv)&&(A2 (L.take i)++List.replicate (L.length-i) false).getD (L[i].kid k).toNat true):=by
   unfold Me;rw[Hy,Hy];by_cases h1:1<L[i].lv
   ·simp only[hs 0 (by omega) h1,hs 1 (by omega) h1,hs 2 (by omega) h1,hs 3 (by omega) h1]
   ·simp only[h1,decide_false,Wh]
  have aI:(A2 (L.take i)++List.replicate (L.length-i) false).set (i+1) (Me (A2 (L.take i)) L[i])=A2 (L.take (i+1))++List.replicate (L.length-(i+1)) false:=by rw[UZ L hi,Wa _ _ (by omega),hEl,VZ,show L.length-i=(L.length-(i+1))+1 from by omega,zXm,List.set_cons_zero];simp
  have hlen:(A2 (L.take i)++List.replicate (L.length-i) false).length=L.length+1:=by simp[hEl];omega
  rw[<-aI,hEs];generalize A2 (L.take i)++List.replicate (L.length-i) false=E at hlen;generalize hx:L[i]=x at l1 l2 l3 hb;have iN:A6 (H++[.cel 0 (flat cB E)]) H.length 0=some (flat cB E):=by simp
  refine CA (G:=λaA vs H1=>UcA H rec aA (ag vs 0) (ag vs 1) (ag vs 2) (ag vs 3) (ag vs 4) H1) 4 (λk=>[.sl (enL cNd L) tk,.ms H.length 0 0 (L.length+1) (L.length+1) 1 true,.i6 (i:Int),.bool ((List.range k).all λk=>decide (x.kid k=0)||(decide (1<x.lv)&&E.getD (x.kid k).toNat true)),.i6 (k:Int)]) (λ_=>H++[.cel 0 (flat cB E)]) _ (by decide) (λaA k hk=>?_) (λaA=>?_)
  ·have hk':(k:Int)<4:=by omega
   obtain⟨q1,q2,q3⟩:=l3 k hk;have hb':=hb k hk;unfold UcA;have pC:((List.range (k+1)).all λk=>decide (x.kid k=0)||(decide (1<x.lv)&&E.getD (x.kid k).toNat true))=(((List.range k).all λk=>decide (x.kid k=0)||(decide (1<x.lv)&&E.getD (x.kid k).toNat true))&&(decide (x.kid k=0)||(decide (1<x.lv)&&E.getD (x.kid k).toNat true))):=by rw[Xm,XY];simp
   rw[pC];generalize ((List.range k).all λk=>decide (x.kid k=0)||(decide (1<x.lv)&&E.getD (x.kid k).toNat true))=e;simp only[Al,AZ,Bd,Bx,BI,BB,Bh,hk',decide_true,AU,Az hi,hx,Ay,FH hk,A0,Vr,V4,Fl hk,Co,Av (show k<9223372036854775807 by omega),CC,Dv,Du];obtain⟨n,hn⟩:=Ws q1;rw[hn]at hb' ⊢;simp only[zXl]at hb' ⊢;cases e with
   |false=>simp
   |true=>
    by_cases h0:n=0
    ·subst h0;simp
    ·by_cases h1:1<x.lv
     ·have kO:n<E.length:=by rw[hlen];exact hb' h1
      have jC:=CK (sz:=1) (id:=H.length) (n:=L.length+1) (K:=.i64) (g:=0) (off:=0) (cap:=L.length+1) (ex:=true) (i:=n) (hb' h1);simp only[Vr,V4]at jC;have hld:=HR (f:=cB) iN kO;simp[h0,h1,hx,Az hi,jC,hld,Vl kO]
     ·simp[h0,h1,hx,Az hi]
  ·have jC:=CK (sz:=1) (id:=H.length) (n:=L.length+1) (K:=.i64) (g:=0) (off:=0) (cap:=L.length+1) (ex:=true) (i:=i+1) (by omega);simp only[Vr,V4]at jC;have eK:=DR (f:=cB) (sz:=1) (l:=E) (i:=i+1) (a:=(List.range 4).all λk=>decide (x.kid k=0)||(decide (1<x.lv)&&E.getD (x.kid k).toNat true)) (H:=H++[.cel 0 (flat cB E)]) (id:=H.length) iN (by omega) (v:=.bool ((List.range 4).all λk=>decide (x.kid k=0)||(decide (1<x.lv)&&E.getD (x.kid k).toNat true))) rfl;simp only[V4]at eK;unfold UcA;have hf:¬(((4:Nat):Int)<4):=by decide
   simp only[Al,AZ,Bd,Bx,BI,BB,Bh,hf,decide_false,AI,CC,Av (show i<9223372036854775807 by omega),jC,eK,AJ,CD,Ut,Ur]
 ·unfold UcB;have iN:A6 (H++[.cel 0 (flat cB (A2 L))]) H.length 0=some (flat cB (A2 L)):=by simp
  have dP:=Vbk (f:=cB) (b:=H.length) (d:=5) (cap:=L.length+1) (ex:=true) iN (Vo _);rw[Da]at dP;have ht:L.take L.length=L:=Vy (Vo _);simp only[Al,AZ,Bd,Ax,BB,Bh,Wb,decide_false,AI,ht,VZ,List.replicate_zero,VF,CT,dP,zXb]
def A9 (L:List Nd)(c:Int):Nd:=L.getD (c-1).toNat ⟨0,0,0,0,0⟩
def O5 (L:List Nd)(E:List Bool)(x:Nd)(k j:Nat):Bool:=
 decide (j=3-k)||(if x.lv=2 then decide ((A9 L (x.kid k)).kid j=0)else E.getD ((A9 L (x.kid k)).kid j).toNat true)
def hol (L:List Nd)(E:List Bool)(x:Nd):Bool:=
 (List.range 4).all λk=>decide (x.kid k=0)||(List.range 4).all (O5 L E x k)
def DP (L:List Nd)(n:Nat):Bool:=
 decide (n≠0)&&decide (2<=(A9 L n).lv)&&hol L (A2 L) (A9 L n)
theorem FF {L:List Nd}{c:Int}{n:Nat}(hc:c=((n+1:Nat):Int))(h:n<L.length):A9 L c=L[n]:=by
 have:(c-1).toNat=n:=by omega
 unfold A9;rw[this,Vm,Vl h];rfl
theorem Vd8 (L:List Nd)(tk:Tok)(n:Nat)(H:Aa)(hL:L.length<140737488355327)(hl:AH L=true)(hn:n<=L.length):UcD (.sl (enL cNd L) tk) (.i6 (n:Int)) H=some (.ret (.bool (DP L n)),H):=by
 unfold UcD DP;cases n with
 |zero=>simp
 |succ n=>
  have hi:n<L.length:=hn;have e0:¬((n+1:Nat):Int)=0:=by omega
  obtain⟨l1,l2,l3⟩:=AS hl hi;rw[FF rfl hi];generalize hx:L[n]=x at l1 l2 l3;have hw:IntKind.i64.wrap (((n+1:Nat):Int)-1)=(n:Int):=by rw[An] <;> omega
  simp only[Dv,Fm,e0,decide_false,BB,KX,DJ,hw,Az hi,hx,Ay,A0,Nat.add_zero,Co,Bh,Ca];by_cases h2:x.lv<2
  ·have:¬2<=x.lv:=by omega
   simp[h2,this]
  ·have nZ:2<=x.lv:=by omega
   simp only[h2,nZ,decide_false,AI,Q6 L tk H hL hl,Fd,decide_true,ne_eq,Xh,not_false_eq_true,zXn];have key:=DA (G:=λrec1 vs H1=>UcC H rec1 (ag vs 0) (ag vs 1) (ag vs 2) (ag vs 3) H1) 4 (λk=>decide (x.kid k=0)||(List.range 4).all (O5 L (A2 L) x k))
    (λk=>[.sl (enL cNd L) tk,.i6 ((n+1:Nat):Int),.sl (enL cB (A2 L)) .no,.i6 (k:Int)]) H (some (.ret (.bool true),H)) (some (.ret (.bool false),H)) (by decide) (λrec k hk=>?_) (λrec=>?_)
   ·refine key.trans ?_;rw[show hol L (A2 L) x=(List.range 4).all λk=>decide (x.kid k=0)||(List.range 4).all (O5 L (A2 L) x k) from rfl];cases (List.range 4).all λk=>decide (x.kid k=0)||(List.range 4).all (O5 L (A2 L) x k) <;> rfl
   ·have hk':(k:Int)<4:=by omega
    obtain⟨q1,q2,q3⟩:=l3 k hk;unfold UcC;simp only[Al,AZ,Bd,Bx,BB,Bh,hk',decide_true,AU,DJ,hw,Az hi,hx,Ay,FH hk,A0,Vr,V4,Fl hk];have bD:IntKind.i64.wrap ((k:Int)+1)=((k+1:Nat):Int):=Av (by omega);by_cases hc:x.kid k=0
    ·rw[DT ES];unfold Ubk;simp only[hc,decide_true,Xe,if_true,Al,AZ,Bd,Bx,BI,D4,Bh,BB,show ((0:Int)<4) from by decide,GF,Du,show ¬((0:Int)>0) from by decide,decide_false,BZ,AI,CC,bD]
    ·obtain⟨m,hm⟩:∃m:Nat,x.kid k=((m+1:Nat):Int):=⟨(x.kid k-1).toNat,by omega⟩;have h1:1<x.lv:=by omega
     obtain⟨r1,r2⟩:=q3 h1 (by omega);have uM:m<n:=by omega
     have hml:m<L.length:=by omega
     have hy:=r2 L[m] (by rw[show (x.kid k-1).toNat=m from by omega];exact Vl hml);obtain⟨y1,y2,y3⟩:=AS hl hml;have hE:∀j,j<4->2<x.lv->(L[m].kid j).toNat<(A2 L).length:=by
      intro j hj h3;obtain⟨s1,s2,s3⟩:=y3 j hj;rw[Da];by_cases h0:0<L[m].kid j
      ·have:=(s3 (by omega) h0).1;omega
      ·omega
     have hp:O5 L (A2 L) x k=λj=>decide (j=3-k)||(if x.lv=2 then decide (L[m].kid j=0)else (A2 L).getD (L[m].kid j).toNat true):=by funext j;unfold O5;rw[FF hm hml]
     have cT:IntKind.i64.wrap (((m+1:Nat):Int)-1)=(m:Int):=by rw[An] <;> omega
     have cF:¬((m+1:Nat):Int)=0:=by omega
     simp only[hp,hm,cF,decide_false,zXo];generalize yJ:L[m]=y at y1 y2 y3 hy hE;refine DA (G:=λaA vs H1=>Ubk H rec aA (ag vs 0) (ag vs 1) (ag vs 2) (ag vs 3) (ag vs 4) (ag vs 5) H1) 4 _
      (λj=>[.sl (enL cNd L) tk,.i6 ((n+1:Nat):Int),.sl (enL cB (A2 L)) .no,.i6 (k:Int),.i6 ((m+1:Nat):Int),.i6 (j:Int)]) H _ _ (by decide) (λaA j hj=>?_) (λaA=>?_)
     ·have hj':(j:Int)<4:=by omega
      have hm0:((m+1:Nat):Int)>0:=by omega
      have kC:IntKind.i64.wrap (3-(k:Int))=3-(k:Int):=An (by omega) (by omega);have qU:IntKind.i64.wrap ((j:Int)+1)=((j+1:Nat):Int):=Av (by omega);obtain⟨s1,s2,s3⟩:=y3 j hj;have hE':=hE j hj;unfold Ubk;simp only[Al,AZ,Bd,Bx,BI,D4,Bh,BB,hj',decide_true,GF,Du,hm0,BZ,AU,DJ,hw,cT,kC,Az hml,yJ,Az hi,hx,Ay,FH hj,A0,Vr,Nat.add_zero,V4,Fl hj,Co,Ic,KN,Dv,Fm,CC,qU];obtain⟨g,hg⟩:=Ws s1;rw[hg]at hE' ⊢;simp only[zXl]at hE' ⊢;by_cases yG:j=3-k
      ·have h3:(j:Int)=3-(k:Int):=by omega
       simp only[BB,Al,AZ,Bd,Bx,BI,D4,Bh,Du,KO,Ie,Dv,Ic,Fm,KN,CC,DJ,Id,AU,AI,BZ,Ca,GF,KX,QE,N0,Vkd,PH,PK,PI,PJ,UQ,Qu,Ht,PU,PX,PV,PW,UT,PL,PO,PM,PN,UR,PP,PT,PQ,PR,US,B5,AM,decide_true,decide_false,VR,Wg,Fd,CD,Oi,Ef,Je,if_true,Vq,if_false,Ij,AJ,Dk,Bj,zXo,Xe,zXp,XV,zXc h3,zXc yG,Xe]
      ·have h3:¬(j:Int)=3-(k:Int):=by omega
       simp only[yG,h3,GMw,Ay,Ae,A0,Vr,Nat.add_zero,V4,Co,zXo];by_cases hx2:x.lv=2
       ·have hx3:¬(2:Int)>2:=by decide
        by_cases xT:(g:Int)=0
        ·simp only[BB,Al,AZ,Bd,Bx,BI,D4,Bh,Du,KO,Ie,Dv,Ic,Fm,KN,CC,DJ,Id,AU,AI,BZ,Ca,GF,KX,QE,N0,Vkd,PH,PK,PI,PJ,UQ,Qu,Ht,PU,PX,PV,PW,UT,PL,PO,PM,PN,UR,PP,PT,PQ,PR,US,B5,AM,decide_true,decide_false,VR,Wg,Fd,CD,Oi,Ef,Je,if_true,Vq,if_false,Ij,AJ,Dk,Bj,zXo,Xe,zXp,XV,Ay,Ae,A0,Vr,Nat.add_zero,V4,Co,hw,Az hi,hx,hx2,xT,hx3]
        ·simp only[BB,Al,AZ,Bd,Bx,BI,D4,Bh,Du,KO,Ie,Dv,Ic,Fm,KN,CC,DJ,Id,AU,AI,BZ,Ca,GF,KX,QE,N0,Vkd,PH,PK,PI,PJ,UQ,Qu,Ht,PU,PX,PV,PW,UT,PL,PO,PM,PN,UR,PP,PT,PQ,PR,US,B5,AM,decide_true,decide_false,VR,Wg,Fd,CD,Oi,Ef,Je,if_true,Vq,if_false,Ij,AJ,Dk,Bj,zXo,Xe,zXp,XV,Ay,Ae,A0,Vr,Nat.add_zero,V4,Co,hw,Az hi,hx,hx2,xT,hx3]
       ·have hx3:x.lv>2:=by omega
        have hlt:=hE' hx3;have eF:(A2 L).getD g true=(A2 L)[g]:=by rw[Vm,Vl hlt];rfl
        simp only[BB,Al,AZ,Bd,Bx,BI,D4,Bh,Du,KO,Ie,Dv,Ic,Fm,KN,CC,DJ,Id,AU,AI,BZ,Ca,GF,KX,QE,N0,Vkd,PH,PK,PI,PJ,UQ,Qu,Ht,PU,PX,PV,PW,UT,PL,PO,PM,PN,UR,PP,PT,PQ,PR,US,B5,AM,decide_true,decide_false,VR,Wg,Fd,CD,Oi,Ef,Je,if_true,Vq,if_false,Ij,AJ,Dk,Bj,zXo,Xe,zXp,XV,Ay,Ae,A0,Vr,Nat.add_zero,V4,Co,hw,Az hi,hx,hx2,hx3,Az hlt,eF,zXh];cases (A2 L)[g] <;> simp only[BB,Al,AZ,Bd,Bx,BI,D4,Bh,Du,KO,Ie,Dv,Ic,Fm,KN,CC,DJ,Id,AU,AI,BZ,Ca,GF,KX,QE,N0,Vkd,PH,PK,PI,PJ,UQ,Qu,Ht,PU,PX,PV,PW,UT,PL,PO,PM,PN,UR,PP,PT,PQ,PR,US,B5,AM,decide_true,decide_false,VR,Wg,Fd,CD,Oi,Ef,Je,if_true,Vq,if_false,Ij,AJ,Dk,Bj,zXo,Xe,zXp,XV]
     ·have hf:¬(((4:Nat):Int)<4):=by decide
      unfold Ubk;simp only[Al,AZ,Bd,Bx,BI,D4,Bh,BB,hf,decide_false,N0,QE,Ca,AI,CC,bD]
   ·have hf:¬(((4:Nat):Int)<4):=by decide
    unfold UcC;simp only[Al,AZ,Bd,Bx,Bh,BB,hf,decide_false,AI,Oi]
def Md (rec:Nat->zAb->zAb)(x:Nd)(k:Nat)(out:zAb):zAb:=
 (List.range k).foldl (λo k=>if 1<x.lv/\0<x.kid k then rec (x.kid k).toNat o else o) out
def FR (L:List Nd):Nat->Nat->zAb->zAb
 |0,_,out=>out
 |v+1,n,out=>if n∈out then out else Md (FR L v) (A9 L n) 4 out++[n]
def N4 (N:Nat)(out:zAb):Prop:=out.Nodup/\∀x∈out,1<=x/\x<=N
theorem MO:∀(N:Nat) (out:zAb),N4 N out->out.length<=N
 |0,out,h=>by
  cases out with
  |nil=>simp
  |cons a l=>have:=h.2 a (by simp);omega
 |N+1,out,h=>by
  have h1:N4 N (out.erase (N+1)):=⟨h.1.erase _,λx hx=>by have:=(h.1.mem_erase_iff).1 hx;have:=h.2 x this.2;omega⟩;have:=MO N _ h1;rw[List.length_erase]at this;split at this <;> omega
theorem Qf (rec:Nat->zAb->zAb)(x:Nd)(k:Nat)(out:zAb):Md rec x (k+1) out=if 1<x.lv/\0<x.kid k then rec (x.kid k).toNat (Md rec x k out)else Md rec x k out:=by simp[Md,Xm]
theorem Mc {rec:Nat->zAb->zAb}{x:Nd}{out:zAb}(P:zAb->Prop)(h0:P out)(hs:∀k o,k<4->1<x.lv->0<x.kid k->P o->P (rec (x.kid k).toNat o)):∀k,k<=4->P (Md rec x k out)
 |0,_=>h0
 |k+1,h=>by
  rw[Qf];split
  ·rename_i hc;exact hs k _ (by omega) hc.1 hc.2 (Mc P h0 hs k (by omega))
  ·exact Mc P h0 hs k (by omega)
theorem Bb {L:List Nd}{n:Nat}(h:n<L.length):A9 L ((n+1:Nat):Int)=L[n]:=FF rfl h
theorem Rw {L:List Nd}(hl:AH L=true):∀(v n:Nat) (out:zAb),1<=n->n<=L.length->N4 L.length out->N4 L.length (FR L v n out)/\(∀x∈out,x∈FR L v n out)/\∀x∈FR L v n out,x∈out\/x<=n
 |0,n,out,h1,h2,ho=>⟨ho,λx hx=>hx,λx hx=>.inl hx⟩
 |v+1,n,out,h1,h2,ho=>by
  obtain⟨m,rfl⟩:∃m,n=m+1:=⟨n-1,by omega⟩;have hm:m<L.length:=by omega
  obtain⟨l1,l2,l3⟩:=AS hl hm;simp only[FR];split
  ·exact⟨ho,λx hx=>hx,λx hx=>.inl hx⟩
  ·rename_i hn;rw[Bb hm];have key:=Mc (rec:=FR L v) (x:=L[m]) (out:=out) (λo=>N4 L.length o/\(∀x∈out,x∈o)/\∀x∈o,x∈out\/x<=m) ⟨ho,λx hx=>hx,λx hx=>.inl hx⟩ (λk o hk aN bG hP=>by
    obtain⟨q1,q2,q3⟩:=l3 k hk;have:=(q3 aN bG).1;obtain⟨r1,r2,r3⟩:=Rw hl v (L[m].kid k).toNat o (by omega) (by omega) hP.1;exact⟨r1,λx hx=>r2 x (hP.2.1 x hx),λx hx=>by
     rcases r3 x hx with h | h
     ·exact hP.2.2 x h
     ·right;omega⟩) 4 (by omega)
   obtain⟨⟨k1,k2⟩,k3,k4⟩:=key;generalize Md (FR L v) L[m] 4 out=o at k1 k2 k3 k4;have cJ:m+1 ∉ o:=λh=>by
    rcases k4 _ h with h | h
    ·exact hn h
    ·omega
   refine⟨⟨?_,?_⟩,?_,?_⟩
   ·rw[Yj];exact⟨k1,by simp,λa ha b hb e=>by simp at hb;subst hb;subst e;exact cJ ha⟩
   ·intro x hx;simp only[VA,VB]at hx;rcases hx with hx | rfl
    ·exact k2 x hx
    ·omega
   ·intro x hx;simp[k3 x hx]
   ·intro x hx;simp only[VA,VB]at hx;rcases hx with hx | rfl
    ·rcases k4 x hx with h | h
     ·exact .inl h
     ·exact .inr (by omega)
    ·exact .inr (Vo _)
theorem Vb8 {B:Aa}{l:zAb}{n:Nat}(h:l.length<17592186044415):Bf Gh 1 8 (Fq cN B l) (.sl (enL cN [n]) .ti) (ED cN Gh 1 B l)=some (Fq cN B (l++[n]),ED cN Gh 1 B (l++[n])):=
 Hb (by simp) (by simp;omega) (by simp;omega)
theorem VkS {L:List Nd}(tk:Tok)(B:Aa)(hL:L.length<17592186044415)(hl:AH L=true):∀(v n d:Nat) (out:zAb),1<=n->n<=L.length->(A9 L n).lv=v->v<=d->N4 L.length out ->
  Ue3 d (.sl (enL cNd L) tk) (.i6 (n:Int)) (Fq cN B out) (ED cN Gh 1 B out)=some (.ret (Fq cN B (FR L v n out)),ED cN Gh 1 B (FR L v n out)):=by
 intro v
 induction v with
 |zero=>intro n d out h1 h2 hv hd ho;exfalso;obtain⟨m,rfl⟩:∃m,n=m+1:=⟨n-1,by omega⟩;rw[Bb (by omega)]at hv;have:=(AS hl (show m<L.length by omega)).1;omega
 |succ v ih=>
  intro n d out h1 h2 hv hd ho;obtain⟨d,rfl⟩:∃e,d=e+1:=⟨d-1,by omega⟩;obtain⟨m,rfl⟩:∃m,n=m+1:=⟨n-1,by omega⟩;have hm:m<L.length:=by omega
  obtain⟨l1,l2,l3⟩:=AS hl hm;have bB:=MO _ _ ho;rw[Bb hm]at hv;show UdJ (Ue3 d) _ _ _ _=_;unfold UdJ;have key:=NG (G:=λrec1 vs H1=>UcF (ED cN Gh 1 B out) (Ue3 d) rec1 (ag vs 0) (ag vs 1) (ag vs 2) (ag vs 3) H1) out.length (λi=>decide (out.getD i 0=m+1))
   (λi=>[.sl (enL cNd L) tk,.i6 ((m+1:Nat):Int),Fq cN B out,.i6 (i:Int)]) (ED cN Gh 1 B out) (some (.ret (Fq cN B (Md (FR L v) L[m] 4 out++[m+1])),ED cN Gh 1 B (Md (FR L v) L[m] 4 out++[m+1]))) (λ_=>some (.ret (Fq cN B out),ED cN Gh 1 B out)) (by omega) (λrec i hi=>?_) (λrec=>?_)
  ·refine key.trans ?_;by_cases bT:m+1∈out
   ·obtain⟨i,hi,hx⟩:=VU bT;have hf:∃j,(List.range out.length).find? (λi=>decide (out.getD i 0=m+1))=some j:=by
     cases hq:(List.range out.length).find? (λi=>decide (out.getD i 0=m+1))with
     |some j=>exact⟨j,rfl⟩
     |none=>have:=Xu.1 hq i (by simpa using hi);simp[Vm,Vl hi,hx]at this
    obtain⟨j,hj⟩:=hf;rw[hj];simp only[FR,if_pos bT]
   ·have hf:(List.range out.length).find? (λi=>decide (out.getD i 0=m+1))=none:=by
     rw[Xu];intro i hi;have aE:i<out.length:=by simpa using hi
     rw[Vm,Vl aE];simp only[Option.getD_some,zXe];intro e;exact bT (e ▸ Vz aE)
    rw[hf];simp only[FR,if_neg bT,Bb hm]
  ·have aE:(i:Int)<(out.length:Int):=by omega
   have bU:decide ((out[i]:Int)=((m+1:Nat):Int))=decide (out.getD i 0=m+1):=by rw[Vm,Vl hi,V8];simp;omega
   unfold UcF;simp only[GMw,Ay,Ae,A0,Vr,Nat.add_zero,V4,Co,HO,Ax,aE,Az hi,zXh,Av (show i<9223372036854775807 by omega),bU];cases decide (out.getD i 0=m+1) <;> simp only[GMw]
  ·unfold UcF;rw[HO];simp only[GMw,Ax,Wb];rw[<-HO];refine CA (G:=λaA vs H1=>UcE (ED cN Gh 1 B out) (Ue3 d) aA (ag vs 0) (ag vs 1) (ag vs 2) (ag vs 3) H1) 4 (λk=>[.sl (enL cNd L) tk,.i6 ((m+1:Nat):Int),Fq cN B (Md (FR L v) L[m] k out),.i6 (k:Int)]) (λk=>ED cN Gh 1 B (Md (FR L v) L[m] k out)) _ (by decide) (λaA k hk=>?_) (λaA=>?_)
   ·have hk':(k:Int)<4:=by omega
    have bD:IntKind.i64.wrap ((k:Int)+1)=((k+1:Nat):Int):=Av (by omega);have cT:IntKind.i64.wrap (((m+1:Nat):Int)-1)=(m:Int):=by rw[An] <;> omega
    obtain⟨q1,q2,q3⟩:=l3 k hk;have cZ:N4 L.length (Md (FR L v) L[m] k out):=Mc (λo=>N4 L.length o) ho (λk o hk aN bG hP=>by obtain⟨q1,q2,q3⟩:=l3 k hk;have:=(q3 aN bG).1;exact (Rw hl v (L[m].kid k).toNat o (by omega) (by omega) hP).1) k (by omega);unfold UcE;rw[Qf];generalize Md (FR L v) L[m] k out=o at cZ;simp only[GMw,Ay,Ae,A0,Vr,Nat.add_zero,V4,Co,hk',cT,Az hm,Ubl,bD];by_cases aN:1<L[m].lv
    ·by_cases bG:0<L[m].kid k
     ·obtain⟨r1,r2⟩:=q3 aN bG;obtain⟨c,hc⟩:∃c:Nat,L[m].kid k=((c+1:Nat):Int):=⟨(L[m].kid k-1).toNat,by omega⟩;have aG:c<L.length:=by omega
      have hy:=r2 L[c] (by rw[show (L[m].kid k-1).toNat=c from by omega];exact Vl aG);have hi2:=ih (c+1) d o (by omega) (by omega) (by rw[Bb aG];omega) (by omega) cZ;have cO:((c+1:Nat):Int)>0:=by omega
      rw[if_pos ⟨aN,bG⟩];simp only[GMw,Ay,Ae,A0,Vr,Nat.add_zero,V4,Co,aN,cT,Az hm,Ay,FH hk,Fl hk,hc,cO,hi2,gt_iff_lt,zXl,Ubl,bD]
     ·rw[if_neg (λh=>bG h.2)];simp only[GMw,Ay,Ae,A0,Vr,Nat.add_zero,V4,Co,aN,cT,Az hm,Ay,FH hk,Fl hk,bG,gt_iff_lt,Ubl,bD]
    ·rw[if_neg (λh=>aN h.1)];simp only[GMw,Ay,Ae,A0,Vr,Nat.add_zero,V4,Co,aN,gt_iff_lt,Ubl,bD]
   ·have hf:¬(((4:Nat):Int)<4):=by decide
    have cZ:N4 L.length (Md (FR L v) L[m] 4 out):=Mc (λo=>N4 L.length o) ho (λk o hk aN bG hP=>by obtain⟨q1,q2,q3⟩:=l3 k hk;have:=(q3 aN bG).1;exact (Rw hl v (L[m].kid k).toNat o (by omega) (by omega) hP).1) 4 (by omega);have hle:=MO _ _ cZ;unfold UcE;simp only[GMw,hf,Vmq,Vb8 (show (Md (FR L v) L[m] 4 out).length<17592186044415 by omega)]
def Bp (L:List Nd):List Ab:=[.sl (enL cNd L) .no]
def Gn (L:List Nd):Ab:=.agg (Bp L)
def BD (L:List Nd):Int:=(A9 L (L.length:Int)).lv
def NC (L:List Nd):zAb:=FR L (BD L).toNat L.length []
def Voc (L:List Nd):Bool:=(List.range L.length).all λi=>!((A2 L).getD (i+1) true)&&(List.range i).all λk=>decide (L.getD i ⟨0,0,0,0,0⟩≠L.getD k ⟨0,0,0,0,0⟩)
def P1 (L:List Nd):Bool:=(List.range (NC L).length).all (λi=>decide ((NC L).getD i 0=i+1))&&decide ((NC L).length=L.length)
def EG (L:List Nd):Bool:=
 decide (L=[])||(AH L && !(DP L L.length)&&Voc L&&P1 L)
theorem VgZ (L:List Nd)(tk:Tok)(H:Aa):B3 true 1 (.agg [.sl (enL cNd L) tk]) H=some (.ptr H.length 0 0,H++[.cel 0 [.sl (enL cNd L) tk]]):=BH rfl rfl
theorem Vfd (L:List Nd)(tk:Tok)(H:Aa)(hL:L.length<17592186044415):UcJ (.agg [.sl (enL cNd L) tk]) H=some (.ret (.bool (EG L)),H):=by
 unfold UcJ;simp only[GMw,Ay,Ae,A0,Vr,Nat.add_zero,V4,Co,VgZ,Ga,GS,zXh,Ax];by_cases h0:L=[]
 ·subst h0;simp[EG]
 ·have hlen:L.length≠0:=λh=>h0 (V6 h);have eT:¬((L.length:Int)=0):=by omega
  have hq:EG L=(AH L && !(DP L L.length)&&Voc L&&P1 L):=by simp[EG,h0]
  simp only[GMw,eT,Vff L tk _ (show L.length<1152921504606846976 by omega)];cases hl:AH L with
  |false=>simp[hq,hl]
  |true=>
   simp only[GMw,Ax,Vd8 L tk L.length _ (show L.length<140737488355327 by omega) hl (Vo _)];cases hh:DP L L.length with
   |true=>simp[hq,hh]
   |false=>
    simp only[GMw,Q6 L tk _ (show L.length<140737488355327 by omega) hl];rw[hq,hl,hh];simp only[GMw];generalize hB:H++[.cel 0 [.sl (enL cNd L) tk]]=B;have hfin:∀(v:Bool) (G:Aa),rP H (.bool v) (B++G)=some (.ret (.bool v),H):=λv G=>by rw[<-hB,Vu];exact Dq
    have mH:∀(v:Bool),rP H (.bool v) B=some (.ret (.bool v),H):=λv=>by rw[<-hB];exact Dq
    have key:=DA (G:=λrec1 vs H1=>UcI H rec1 (ag vs 0) (ag vs 1) (ag vs 2) H1) L.length (λi=>!((A2 L).getD (i+1) true)&&(List.range i).all λk=>decide (L.getD i ⟨0,0,0,0,0⟩≠L.getD k ⟨0,0,0,0,0⟩))
     (λi=>[.sl (enL cNd L) tk,.sl (enL cB (A2 L)) .no,.i6 (i:Int)]) B (some (.ret (.bool (P1 L)),H)) (some (.ret (.bool false),H)) (by omega) (λrec i hi=>?_) (λrec=>?_)
    ·refine key.trans ?_;rw[show Voc L=(List.range L.length).all λi=>!((A2 L).getD (i+1) true)&&(List.range i).all λk=>decide (L.getD i ⟨0,0,0,0,0⟩≠L.getD k ⟨0,0,0,0,0⟩) from rfl];cases (List.range L.length).all λi=>!((A2 L).getD (i+1) true)&&(List.range i).all λk=>decide (L.getD i ⟨0,0,0,0,0⟩≠L.getD k ⟨0,0,0,0,0⟩) <;> simp only[GMw]
    ·have aE:(i:Int)<(L.length:Int):=by omega
     have hlt:i+1<(A2 L).length:=by rw[Da];omega
     have bD:IntKind.i64.wrap ((i:Int)+1)=((i+1:Nat):Int):=Av (by omega);have eF:(A2 L).getD (i+1) true=(A2 L)[i+1]:=by rw[Vm,Vl hlt];rfl
     unfold UcI;simp only[GMw,Ay,Ae,A0,Vr,Nat.add_zero,V4,Co,Ax,aE,bD,Az hlt,zXh,eF];cases (A2 L)[i+1]with
     |true=>simp only[GMw,mH]
     |false=>
      simp only[GMw];refine DA (G:=λaA vs H1=>UcG H rec aA (ag vs 0) (ag vs 1) (ag vs 2) (ag vs 3) H1) i (λk=>decide (L.getD i ⟨0,0,0,0,0⟩≠L.getD k ⟨0,0,0,0,0⟩))
       (λk=>[.sl (enL cNd L) tk,.sl (enL cB (A2 L)) .no,.i6 (i:Int),.i6 (k:Int)]) B _ _ (by omega) (λaA k hk=>?_) (λaA=>?_)
      ·have hk':(k:Int)<(i:Int):=by omega
       have cR:k<L.length:=by omega
       unfold UcG;simp only[GMw,hk',Az hi,Az cR,IU,Voa,mH,Av (show k<9223372036854775807 by omega)];simp only[Vm,Vl hi,Vl cR,Option.getD_some];by_cases he:L[i]=L[k]
       ·simp only[he,ne_eq,not_true_eq_false,GMw]
       ·simp only[he,ne_eq,not_false_eq_true,GMw]
      ·unfold UcG;simp only[GMw,Wb,bD]
    ·unfold UcI;have hm:L.length-1<L.length:=by omega
     have xI:L.length=L.length-1+1:=by omega
     have aN:(A9 L (L.length:Int)).lv=((BD L).toNat:Int):=by have:=(AS hl hm).1;unfold BD;rw[xI,Bb hm];omega
     have aM:Ue3 AP (.sl (enL cNd L) tk) (.i6 (L.length:Int)) (.sl [] .ti) B=some (.ret (Fq cN B (FR L (BD L).toNat L.length [])),ED cN Gh 1 B (FR L (BD L).toNat L.length [])):=VkS tk B hL hl (BD L).toNat L.length AP [] (by omega) (Vo _) aN (by have:=(AS hl hm).2.1;rw[DB];unfold BD;rw[xI,Bb hm];omega) ⟨by simp,by simp⟩;have hok:=(Rw hl (BD L).toNat L.length [] (by omega) (Vo _) ⟨by simp,by simp⟩).1;have hol:=MO _ _ hok;obtain⟨G,hG⟩:=JY (f:=cN) (ty:=Gh) (sz:=1) B (FR L (BD L).toNat L.length []);simp only[GMw,Ax,Wb,aM,hG,HO];have pI:NC L=FR L (BD L).toNat L.length []:=rfl;rw[<-pI]at hol ⊢;unfold P1;generalize NC L=o at hol ⊢;have key:=DA (G:=λdR vs H1=>UcH H dR (ag vs 0) (ag vs 1) (ag vs 2) H1) o.length (λi=>decide (o.getD i 0=i+1)) (λi=>[.sl (enL cNd L) tk,.sl (enL cN o) (VpK B o),.i6 (i:Int)]) (B++G) (some (.ret (.bool (decide (o.length=L.length))),H)) (some (.ret (.bool false),H)) (by omega) (λrec i hi=>?_) (λrec=>?_)
     ·refine key.trans ?_;cases (List.range o.length).all (λi=>decide (o.getD i 0=i+1)) <;> simp only[GMw]
     ·have aE:(i:Int)<(o.length:Int):=by omega
      unfold UcH;simp only[GMw,Ay,Ae,A0,Vr,Nat.add_zero,V4,Co,Ax,aE,Az hi,zXh,Av (show i<9223372036854775807 by omega),hfin];simp only[Vm,Vl hi,Option.getD_some];by_cases he:o[i]=i+1
      ·have:(o[i]:Int)=((i+1:Nat):Int):=by omega
       simp only[zXc this,zXc he,GMw]
      ·have:¬(o[i]:Int)=((i+1:Nat):Int):=by omega
       simp only[zXd this,zXd he,GMw]
     ·have hd:decide ((o.length:Int)=(L.length:Int))=decide (o.length=L.length):=by rw[V8];simp;omega
      unfold UcH;simp only[GMw,Ax,Wb,hfin,hd]
theorem U0 (L:List Nd)(tk:Tok)(H:Aa)(hL:L.length<17592186044415):Ubr (.agg [.sl (enL cNd L) tk]) H=some (.ret (.i6 (if L=[]then 0 else BD L)),H):=by
 unfold Ubr;simp only[GMw,Ay,Ae,A0,Vr,Nat.add_zero,V4,Co,VgZ,Ga,GS,zXh,Ax];by_cases h0:L=[]
 ·subst h0;simp
 ·have hlen:L.length≠0:=λh=>h0 (V6 h);have eT:¬((L.length:Int)=0):=by omega
  have hm:L.length-1<L.length:=by omega
  have hw:IntKind.i64.wrap ((L.length:Int)-1)=((L.length-1:Nat):Int):=Ih (by omega) (by omega);have ht:BD L=L[L.length-1].lv:=by unfold BD;rw[FF (n:=L.length-1) (by omega) hm]
  simp only[h0,eT,GMw,Ay,Ae,A0,Vr,Nat.add_zero,V4,Co,hw,Az hm,Io,ht]
abbrev nd0:Nd:=⟨0,0,0,0,0⟩
def Nd.setKid (x:Nd)(k:Nat)(c:Int):Nd:=match k with | 0=>{ x with k0:=c } | 1=>{ x with k1:=c } | 2=>{ x with k2:=c } | _=>{ x with k3:=c }
theorem Uq (x:Nd)(k:Nat)(c:Int):(x.setKid k c).lv=x.lv:=by unfold Nd.setKid;split <;> rfl
theorem Q5 (x:Nd){k:Nat}(c:Int)(h:k<4):(x.setKid k c).kid k=c:=by
 match k,h with
 |0,_=>rfl
 |1,_=>rfl
 |2,_=>rfl
 |3,_=>rfl
theorem Gk (x:Nd){k j:Nat}(c:Int)(h:k<4)(hj:j<4)(hne:j≠k):(x.setKid k c).kid j=x.kid j:=by
 match k,j,h,hj with
 |0,1,_,_=>rfl
 |0,2,_,_=>rfl
 |0,3,_,_=>rfl
 |1,0,_,_=>rfl
 |1,2,_,_=>rfl
 |1,3,_,_=>rfl
 |2,0,_,_=>rfl
 |2,1,_,_=>rfl
 |2,3,_,_=>rfl
 |3,0,_,_=>rfl
 |3,1,_,_=>rfl
 |3,2,_,_=>rfl
 |0,0,_,_=>exact absurd rfl hne
 |1,1,_,_=>exact absurd rfl hne
 |2,2,_,_=>exact absurd rfl hne
 |3,3,_,_=>exact absurd rfl hne
section
variable {H:Aa}{p k:Nat}{x:Nd}{cs cs':List Ab}
theorem J2 (hg:H[p]? = some (.cel 0 (cNd x))):Ad true 5 (.ptr p 0 0) H=some (.agg (cNd x)):=by simp only[Ad,As hg,zXa,if_true];rfl
theorem S6 (hg:H[p]? = some (.cel 0 (cNd x))):Ad false 1 (.ptr p 0 0) H=some (.i6 x.lv):=by simp only[Ad,As hg,zXa,Vq,if_false];rfl
theorem UD (hg:H[p]? = some (.cel 0 (cNd x)))(h:k<4):Ad false 1 (.ptr p 0 (1+k)) H=some (.i6 (x.kid k)):=by simp only[Ad,As hg,zXa,Vq,if_false];exact Fl h
theorem Il {c:Int}(hg:H[p]? = some (.cel 0 (cNd x)))(h:k<4):Ai 1 (.ptr p 0 (1+k)) (.i6 c) H=some (H.set p (.cel 0 (cNd (x.setKid k c)))):=by
 simp only[Ai,As hg,zXa,Vec,B6 hg]
 match k,h with
 |0,_=>rfl
 |1,_=>rfl
 |2,_=>rfl
 |3,_=>rfl
theorem Pj (hg:H[p]? = some (.cel 0 cs))(hl:cs.length=5):Ai 5 (.ptr p 0 0) (.agg (cNd x)) H=some (H.set p (.cel 0 (cNd x))):=by simp only[Ai,As hg,zXa,Vj,B6 hg,D8 hl];rw[if_pos ⟨rfl,by omega⟩]
theorem LY {K:IntKind}{id g o:Nat}(h:k<4):BK 4 1 (.ptr id g o) (.int K (k:Int))=some (.ptr id g (o+k)):=by unfold BK;simp only[];rw[if_pos ⟨by omega,by omega⟩];simp

end
theorem Vdp (H:Aa):A3 (some [.i6 0,.i6 0,.i6 0,.i6 0,.i6 0]) H=some (.ptr H.length 0 0,H++[.cel 0 (cNd nd0)]):=alloc_eq rfl
theorem E7 (L:List Nd):(A2 L).getD 0 true=true:=by
 have key:∀(l:List Nd) (E:List Bool),E[0]? = some true->(l.foldl (λE x=>E++[Me E x]) E)[0]? = some true:=by
  intro l
  induction l with
  |nil=>intro E h;exact h
  |cons a l ih=>intro E h;exact ih _ (by rw[Vp (by cases E with | nil=>simp at h | cons e E=>simp)];exact h)
 rw[Vm,show (A2 L)[0]? = some true from key L [true] rfl];rfl
def LX (L:List Nd)(x:Nd)(k:Nat):Int:=if x.kid k=0 then 0 else (A9 L (x.kid k)).kid (3-k)
def CI (L:List Nd)(n:Nat):Nd:=⟨(A9 L n).lv-1,LX L (A9 L n) 0,LX L (A9 L n) 1,LX L (A9 L n) 2,LX L (A9 L n) 3⟩
def C8:Nat->List Nd->Nat->List Nd×Nat
 |0,L,n=>(L,n)
 |f+1,L,n=>if DP L n then C8 f (L++[CI L n]) (L.length+1)else (L,n)
def EM (L:List Nd)(n:Nat):List Nd×Nat:=
 if (A2 L).getD n true then (L,0)else C8 (A9 L n).lv.toNat L n
theorem UL (L:List Nd)(n:Nat){k:Nat}(h:k<4):(CI L n).kid k=LX L (A9 L n) k:=by
 match k,h with
 |0,_=>rfl
 |1,_=>rfl
 |2,_=>rfl
 |3,_=>rfl
theorem Ke {L:List Nd}{x:Nd}(hl:AH L=true)(hx:Gd (L++[x]) L.length=true):AH (L++[x])=true:=by
 unfold AH;rw[V7];intro i hi;have aE:i<L.length+1:=by simpa using hi
 by_cases h:i=L.length
 ·rw[h];exact hx
 ·have hlt:i<L.length:=by omega
  have h1:=V7.1 hl i (by simpa using hlt);simp only[Gd,Vp hlt,Vl hlt,Vx,V7]at h1 ⊢;refine⟨h1.1,λk hk=>?_⟩;have h2:=h1.2 k hk;simp only[Df,Vx,zXe]at h2 ⊢;refine⟨h2.1,λq1 q2=>?_⟩;obtain⟨r1,r2⟩:=h2.2 q1 q2;refine⟨r1,λy hy=>?_⟩;rw[Vp (by omega)]at hy;exact r2 y hy
theorem Kf {L:List Nd}{x:Nd}(h1:1<=x.lv)(h2:x.lv<=1329)(h3:∀k,k<4->0<=x.kid k/\(x.lv=1->x.kid k<=255)/\(1<x.lv->0<x.kid k->x.kid k<=L.length/\(A9 L (x.kid k)).lv=x.lv-1)):Gd (L++[x]) L.length=true:=by
 simp only[Gd,VG (Vo _),VZ,zXh,Vx,zXe,V7];refine⟨⟨h1,h2⟩,λk hk=>?_⟩;obtain⟨q1,q2,q3⟩:=h3 k (by simpa using hk);simp only[Df,Vx,zXe];refine⟨⟨q1,q2⟩,λr1 r2=>?_⟩;obtain⟨s1,s2⟩:=q3 r1 r2;refine⟨s1,λy hy=>?_⟩;have hlt:(x.kid k-1).toNat<L.length:=by omega
 rw[Vp hlt,Vl hlt]at hy;injection hy with hy;rw[<-hy,<-s2,FF (n:=(x.kid k-1).toNat) (by omega) hlt]
theorem PE {L:List Nd}(hl:AH L=true){n:Nat}(hn:n<L.length)(h2:2<=L[n].lv):AH (L++[CI L (n+1)])=true:=by
 obtain⟨l1,l2,l3⟩:=AS hl hn;have e:A9 L ((n+1:Nat):Int)=L[n]:=Bb hn;have elv:(CI L (n+1)).lv=L[n].lv-1:=by show (A9 L ((n+1:Nat):Int)).lv-1=_;rw[e]
 refine Ke hl (Kf (by omega) (by omega) λk hk=>?_);obtain⟨q1,q2,q3⟩:=l3 k hk;rw[UL L (n+1) hk,elv,e];unfold LX;by_cases hc:L[n].kid k=0
 ·rw[if_pos hc];exact⟨by omega,λ_=>by omega,λ_ h=>by omega⟩
 ·rw[if_neg hc];obtain⟨m,hm⟩:∃m:Nat,L[n].kid k=((m+1:Nat):Int):=⟨(L[n].kid k-1).toNat,by omega⟩;obtain⟨r1,r2⟩:=q3 (by omega) (by omega);have hml:m<L.length:=by omega
  have hy:=r2 L[m] (by rw[show (L[n].kid k-1).toNat=m from by omega];exact Vl hml);obtain⟨y1,y2,y3⟩:=AS hl hml;rw[FF hm hml];obtain⟨s1,s2,s3⟩:=y3 (3-k) (by omega);refine⟨s1,λh=>s2 (by omega),λh h0=>?_⟩;obtain⟨t1,t2⟩:=s3 (by omega) h0;refine⟨by omega,?_⟩;obtain⟨c,cF⟩:∃c:Nat,L[m].kid (3-k)=((c+1:Nat):Int):=⟨(L[m].kid (3-k)-1).toNat,by omega⟩;have aG:c<L.length:=by omega
  rw[FF cF aG];have:=t2 L[c] (by rw[show (L[m].kid (3-k)-1).toNat=c from by omega];exact Vl aG);omega
theorem PF {L:List Nd}{n:Nat}(h:DP L n=true):n≠0/\2<=(A9 L n).lv:=by simp only[DP,Vx,zXe]at h;exact⟨h.1.1,h.1.2⟩
theorem Vhd {H G:Aa}{l:List Nd}{x:Nd}(h:l.length<3518437208883):Bf AY 5 40 (.sl (enL cNd l) (.own H.length)) (.sl (enL cNd [x]) .ti) (H++.tok l.length AY 5::G)=some (.sl (enL cNd (l++[x])) (.own H.length),H++.tok (l.length+1) AY 5::G):=by have:=FS (f:=cNd) (l:=l) (m:=[x]) (ty:=AY) (bytes:=40) (tk:=.ti) (H:=H++.tok l.length AY 5::G) (t:=H.length) (by simp) (by simp) (by simp;omega) (by simp;omega);rw[this];simp
def Vh4 (f:Nat->Int)(x:Nd):Nat->Nd
 |0=>x
 |k+1=>(Vh4 f x k).setKid k (f k)
theorem VeB (f:Nat->Int)(x:Nd):Vh4 f x 4=⟨x.lv,f 0,f 1,f 2,f 3⟩:=rfl
theorem Vjw (z:Int):AD (some [.i6 0,.i6 0,.i6 0,.i6 0,.i6 0]) [(0,1,.i6 z)]=some (.agg (cNd ⟨z,0,0,0,0⟩)):=by simp[AD,GH,Dx,cNd]
def Cm (l:List Nd)(x:Nd):Nat:=match (List.range l.length).find? (λi=>decide (l.getD i nd0=x))with | some i=>i+1 | none=>0
theorem Ek {l:List Nd}{x:Nd}{i:Nat}:Cm l x=i+1↔l[i]? = some x/\∀j,j<i->l[j]? ≠ some x:=by
 unfold Cm;constructor
 ·intro h;cases hf:(List.range l.length).find? (λi=>decide (l.getD i nd0=x))with
  |none=>rw[hf]at h;dsimp only at h;omega
  |some k=>
   rw[hf]at h;dsimp only at h;have hk:k=i:=by omega
   subst hk;rw[XQ]at hf;obtain⟨h1,h2,h3⟩:=hf;have hlt:k<l.length:=by simpa using h2
   simp only[zXe,Vm,Vl hlt,Option.getD_some]at h1;refine⟨by rw[Vl hlt,h1],λj hj e=>?_⟩;have:=h3 j hj;simp only[Vm,e,Option.getD_some,decide_true,VR]at this;cases this
 ·rintro⟨h1,h2⟩;have hlt:i<l.length:=(Vn.1 h1).1;have hf:(List.range l.length).find? (λi=>decide (l.getD i nd0=x))=some i:=by
   rw[XQ];refine⟨by simp[Vm,h1],by simpa using hlt,λj hj=>?_⟩;have sR:j<l.length:=by omega
   have:=h2 j hj;rw[Vl sR]at this;simp only[Vm,Vl sR,Option.getD_some,Wk,decide_eq_false_iff_not];exact λe=>this (by rw[e])
  rw[hf]
theorem I4 {l:List Nd}{x:Nd}:Cm l x=0↔x ∉ l:=by
 constructor
 ·intro h hx;obtain⟨i,hi,aH⟩:=VU hx;unfold Cm at h;cases hf:(List.range l.length).find? (λi=>decide (l.getD i nd0=x))with
  |none=>have:=Xu.1 hf i (by simpa using hi);simp[Vm,Vl hi,aH]at this
  |some k=>rw[hf]at h;dsimp only at h;omega
 ·intro h;cases hf:Cm l x with
  |zero=>rfl
  |succ i=>rw[Ek]at hf;exact absurd (VE hf.1) h
theorem ViT (l:List Nd)(x:Nd):Cm l x<=l.length:=by
 cases hf:Cm l x with
 |zero=>omega
 |succ i=>rw[Ek]at hf;exact (Vn.1 hf.1).1
theorem OC {l m:List Nd}{x:Nd}(h:Cm l x≠0):Cm (l++m) x=Cm l x:=by
 cases hf:Cm l x with
 |zero=>exact absurd hf h
 |succ i=>rw[Ek]at hf ⊢;have hlt:i<l.length:=(Vn.1 hf.1).1;refine⟨by rw[Vp hlt];exact hf.1,λj hj=>?_⟩;rw[Vp (by omega)];exact hf.2 j hj
theorem UW {l:List Nd}{x:Nd}(h:Cm l x=0):Cm (l++[x]) x=l.length+1:=by rw[Ek];refine⟨by simp,λj hj e=>?_⟩;rw[Vp hj]at e;exact I4.1 h (VE e)
def BE (out:List Nd)(x:Nd):List Nd×Nat:=if Cm out x=0 then (out++[x],out.length+1)else (out,Cm out x)
def BR (rec:Nat->List Nd->List Nd×Nat)(x:Nd):Nat->List Nd->List Nd×Nd
 |0,out=>(out,x)
 |k+1,out=>((rec (x.kid k).toNat (BR rec x k out).1).1,(BR rec x k out).2.setKid k ((rec (x.kid k).toNat (BR rec x k out).1).2:Int))
def Bk (L:List Nd)(E:List Bool):Nat->Nat->List Nd->List Nd×Nat
 |0,_,out=>(out,0)
 |v+1,n,out=>
  if E.getD n true then (out,0)
  else if 1<(A9 L n).lv then BE (BR (Bk L E v) (A9 L n) 4 out).1 (BR (Bk L E v) (A9 L n) 4 out).2
  else BE out (A9 L n)
theorem LG (out:List Nd)(x:Nd):0<(BE out x).2:=by
 unfold BE;split
 ·simp
 ·dsimp only;omega
theorem Si (out:List Nd)(x:Nd):∃r,(BE out x).1=out++r:=by
 unfold BE;split
 ·exact⟨_,rfl⟩
 ·exact⟨[],by simp⟩
theorem Sj (out:List Nd)(x:Nd)(r:List Nd):BE ((BE out x).1++r) x=((BE out x).1++r,(BE out x).2):=by
 by_cases h:Cm out x=0
 ·have h1:BE out x=(out++[x],out.length+1):=by simp[BE,h]
  rw[h1];have h2:Cm (out++[x]++r) x=out.length+1:=by rw[OC (by rw[UW h];omega),UW h]
  dsimp only;unfold BE;rw[h2,if_neg (by omega)]
 ·have h1:BE out x=(out,Cm out x):=by simp[BE,h]
  rw[h1];dsimp only;unfold BE;rw[OC h,if_neg h]
section
variable {L:List Nd}{E:List Bool}
theorem SA {rec:Nat->List Nd->List Nd×Nat}(hr:∀n out,∃r,(rec n out).1=out++r)(x:Nd):∀k out,∃r,(BR rec x k out).1=out++r
 |0,out=>⟨[],by simp[BR]⟩
 |k+1,out=>by obtain⟨r,h⟩:=SA hr x k out;obtain⟨r',h'⟩:=hr (x.kid k).toNat (BR rec x k out).1;exact⟨r++r',by simp only[BR];rw[h',h];simp⟩
theorem SC:∀v n out,∃r,(Bk L E v n out).1=out++r
 |0,n,out=>⟨[],by simp[Bk]⟩
 |v+1,n,out=>by
  simp only[Bk];split
  ·exact⟨[],by simp⟩
  ·split
   ·obtain⟨r,h⟩:=SA (SC v) (A9 L n) 4 out;obtain⟨r',h'⟩:=Si (BR (Bk L E v) (A9 L n) 4 out).1 (BR (Bk L E v) (A9 L n) 4 out).2;exact⟨r++r',by rw[h',h];simp⟩
   ·exact Si _ _
theorem Iz:∀v n out r,Bk L E v n ((Bk L E v n out).1++r)=((Bk L E v n out).1++r,(Bk L E v n out).2)
 |0,n,out,r=>by simp[Bk]
 |v+1,n,out,r=>by
  by_cases he:E.getD n true=true
  ·simp only[Bk,if_pos he]
  ·by_cases hl:1<(A9 L n).lv
   ·have e:∀o,Bk L E (v+1) n o=BE (BR (Bk L E v) (A9 L n) 4 o).1 (BR (Bk L E v) (A9 L n) 4 o).2:=λo=>by simp only[Bk,if_neg he,if_pos hl]
    have key:∀k,k<=4->∀s,BR (Bk L E v) (A9 L n) k ((BR (Bk L E v) (A9 L n) k out).1++s)=((BR (Bk L E v) (A9 L n) k out).1++s,(BR (Bk L E v) (A9 L n) k out).2):=by
     intro k
     induction k with
     |zero=>intro _ s;simp[BR]
     |succ k ih=>intro hk s;simp only[BR];obtain⟨r',h'⟩:=SC (L:=L) (E:=E) v ((A9 L n).kid k).toNat (BR (Bk L E v) (A9 L n) k out).1;have hi:=ih (by omega) (r'++s);have ha:=Iz v ((A9 L n).kid k).toNat (BR (Bk L E v) (A9 L n) k out).1 s;rw[h']at ha ⊢;rw[Vu,hi];rw[Vu]at ha;dsimp only;rw[ha]
    obtain⟨r',h'⟩:=Si (BR (Bk L E v) (A9 L n) 4 out).1 (BR (Bk L E v) (A9 L n) 4 out).2;have ha:=Sj (BR (Bk L E v) (A9 L n) 4 out).1 (BR (Bk L E v) (A9 L n) 4 out).2 r;rw[e,e];rw[h']at ha ⊢;rw[Vu,key 4 (by omega)];dsimp only;rw[Vu]at ha;exact ha
   ·have e:∀o,Bk L E (v+1) n o=BE o (A9 L n):=λo=>by simp only[Bk,if_neg he,if_neg hl]
    rw[e,e];exact Sj out (A9 L n) r

end
theorem VhW (l:List Nd)(tk:Tok)(x:Nd)(H:Aa)(hl:l.length<1152921504606846975):UdU (.sl (enL cNd l) tk) (.agg (cNd x)) H=some (.ret (.i6 (Cm l x:Int)),H):=by
 unfold UdU;rw[BH (sz:=5) Fc rfl];simp only[GMw];have hp:(H++[Blk.cel 0 (cNd x)])[H.length]? = some (.cel 0 (cNd x)):=Ap;have key:=NG (G:=λrec1 vs H1=>Udl H rec1 (ag vs 0) (ag vs 1) (ag vs 2) H1) l.length (λi=>decide (l.getD i nd0=x)) (λi=>[.sl (enL cNd l) tk,.ptr H.length 0 0,.i6 (i:Int)]) (H++[.cel 0 (cNd x)])
  (some (.ret (.i6 0),H)) (λi=>some (.ret (.i6 ((i+1:Nat):Int)),H)) (by omega) (λrec i hi=>?_) (λrec=>?_)
 ·refine key.trans ?_;unfold Cm;cases (List.range l.length).find? (λi=>decide (l.getD i nd0=x)) <;> rfl
 ·have aE:(i:Int)<(l.length:Int):=by omega
  unfold Udl;simp only[GMw,Ax,aE,Az hi,IU,J2 hp,Voa,Av (show i<9223372036854775807 by omega),Io];simp only[Vm,Vl hi,Option.getD_some];by_cases he:l[i]=x
  ·simp only[he,GMw]
  ·simp only[he,GMw]
 ·unfold Udl;simp only[GMw,Ax,Wb,Io]
structure VS (b id:Nat)(out:List Nd)(D:zAb)(v:Ab)(H:Aa):Prop where
 hv:(out=[]/\v=.sl [] .ti)\/∃t,b<=t/\v=.sl (enL cNd out) (.own t)/\H[t]? = some (.tok out.length AY 5)
 hd:H[id]? = some (.cel 0 (flat cN D))
structure Ext (b id:Nat)(H H':Aa):Prop where
 len:H.length<=H'.length
 cel:∀(i:Nat) (cs:List Ab),i≠id->H[i]? = some (.cel 0 cs)->H'[i]? = some (.cel 0 cs)
 old:∀i,i<b->H'[i]? = H[i]?
theorem Ext.refl (b id:Nat)(H:Aa):Ext b id H H:=⟨Vo _,λ_ _ _ h=>h,λ_ _=>rfl⟩
theorem Ext.trans {b id:Nat}{H H1 H2:Aa}(h:Ext b id H H1)(h':Ext b id H1 H2):Ext b id H H2:=
 ⟨VM h.len h'.len,λi cs hi hc=>h'.cel i cs hi (h.cel i cs hi hc),λi hi=>(h'.old i hi).trans (h.old i hi)⟩
theorem VS.sl {b id:Nat}{out:List Nd}{D:zAb}{v:Ab}{H:Aa}(h:VS b id out D v H):∃tk,v=.sl (enL cNd out) tk:=by
 rcases h.hv with ⟨rfl,rfl⟩ | ⟨t,_,rfl,_⟩
 ·exact⟨_,rfl⟩
 ·exact⟨_,rfl⟩
theorem O8 {H:Aa}{i:Nat}{x:Blk}(B:Blk)(h:H[i]? = some x):(H++[B])[i]? = some x:=by have:=(Vn.1 h).1;rw[Vp this];exact h
theorem VS.snoc {b id:Nat}{out:List Nd}{D:zAb}{v:Ab}{H:Aa}(h:VS b id out D v H)(B:Blk):VS b id out D v (H++[B]):=by
 refine⟨?_,O8 B h.hd⟩;rcases h.hv with h1 | ⟨t,h1,h2,h3⟩
 ·exact .inl h1
 ·exact .inr ⟨t,h1,h2,O8 B h3⟩
theorem Ext.snoc {b id:Nat}{H:Aa}(hb:b<=H.length)(B:Blk):Ext b id H (H++[B]):=
 ⟨by simp,λi cs _ h=>O8 B h,λi hi=>by rw[Vp (by omega)]⟩
theorem VS.put {b id p:Nat}{out:List Nd}{D:zAb}{v:Ab}{H:Aa}{c c':List Ab}(h:VS b id out D v H)(hp:H[p]? = some (.cel 0 c))(hne:p≠id):VS b id out D v (H.set p (.cel 0 c')):=by
 refine⟨?_,by rw[Vt hne];exact h.hd⟩;rcases h.hv with h1 | ⟨t,h1,h2,h3⟩
 ·exact .inl h1
 ·refine .inr ⟨t,h1,h2,?_⟩;have:p≠t:=λe=>by rw[<-e,hp]at h3;cases h3
  rw[Vt this];exact h3
theorem VS.app {b id:Nat}{out:List Nd}{D:zAb}{v:Ab}{H:Aa}(h:VS b id out D v H)(hb:b<=H.length)(x:Nd)(hl:out.length<3518437208883) :
  ∃v' H',Bf AY 5 40 v (.sl (enL cNd [x]) .ti) H=some (v',H')/\VS b id (out++[x]) D v' H'/\Ext b id H H':=by
 rcases h.hv with ⟨rfl,rfl⟩ | ⟨t,h1,rfl,h3⟩
 ·have:=Eu (f:=cNd) (l:=[]) (m:=[x]) (ty:=AY) (bytes:=40) (tk:=.ti) (H:=H) (by simp) (by simp) (by simp);refine⟨_,_,this,⟨.inr ⟨H.length,hb,rfl,by simp⟩,O8 _ h.hd⟩,Ext.snoc hb _⟩
 ·have:=FS (f:=cNd) (l:=out) (m:=[x]) (ty:=AY) (bytes:=40) (tk:=.ti) (H:=H) (t:=t) (by simp) h3 (by simp;omega) (by simp;omega);have gY:=(Vn.1 h3).1;refine⟨_,_,this,⟨.inr ⟨t,h1,rfl,by simp[gY]⟩,?_⟩,⟨by simp,λi cs hi hc=>?_,λi hi=>?_⟩⟩
  ·have:t≠id:=λe=>by have:=h.hd;rw[<-e,h3]at this;cases this
   rw[Vt this];exact h.hd
  ·have:t≠i:=λe=>by rw[<-e,h3]at hc;cases hc
   rw[Vt this];exact hc
  ·rw[Vt (by omega)]
structure VI (L out:List Nd)(D:zAb):Prop where
 len:D.length=L.length+1
 cnt:out.length<=D.countP (λd=>decide (0<d))
 val:∀(n d:Nat),D[n]? = some d->0<d->Bk L (A2 L) (A9 L n).lv.toNat n out=(out,d)
theorem VI.grow {L out r:List Nd}{D:zAb}(h:∀(n d:Nat),D[n]? = some d->0<d->Bk L (A2 L) (A9 L n).lv.toNat n out=(out,d)):∀(n d:Nat),D[n]? = some d->0<d->Bk L (A2 L) (A9 L n).lv.toNat n (out++r)=(out++r,d):=by
 intro n d h1 h2;have h3:=h n d h1 h2;have:=Iz (L:=L) (E:=A2 L) (A9 L n).lv.toNat n out r
 rwa [h3]at this
theorem VI.le {L out:List Nd}{D:zAb}(h:VI L out D):out.length<=L.length+1:=by have:=h.cnt;have:=List.countP_le_length (p:=λd:Nat=>decide (0<d)) (l:=D);have:=h.len;omega
theorem VlD {L:List Nd}{E:List Bool}{v n:Nat}{out:List Nd}(he:E.getD n true=false)(hl:1<(A9 L n).lv):Bk L E (v+1) n out=BE (BR (Bk L E v) (A9 L n) 4 out).1 (BR (Bk L E v) (A9 L n) 4 out).2:=by simp only[Bk,he,Vq,if_false,if_pos hl]
theorem ViC {L:List Nd}{E:List Bool}{v n:Nat}{out:List Nd}(he:E.getD n true=false)(hl:¬1<(A9 L n).lv):Bk L E (v+1) n out=BE out (A9 L n):=by simp only[Bk,he,Vq,if_false,if_neg hl]
theorem Vbd (rec:Nat->List Nd->List Nd×Nat)(x:Nd):∀k out,(BR rec x k out).2.lv=x.lv
 |0,out=>rfl
 |k+1,out=>by simp only[BR,Uq];exact Vbd rec x k out
theorem Vc7 (rec:Nat->List Nd->List Nd×Nat)(x:Nd):∀k out j,k<=j->j<4->(BR rec x k out).2.kid j=x.kid j
 |0,out,j,_,_=>rfl
 |k+1,out,j,h1,h2=>by simp only[BR];rw[Gk _ _ (by omega) h2 (by omega)];exact Vc7 rec x k out j (by omega) h2
theorem Vfc {L:List Nd}(tk tk2:Tok)(b id:Nat)(hL:L.length<3518437208880)(hl:AH L=true):∀(v n d:Nat) (out:List Nd) (D:zAb) (w:Ab) (H:Aa),n<=L.length->(n=0\/(A9 L n).lv.toNat=v)->v<d->b<=id->id<H.length->VS b id out D w H->VI L out D ->
  ∃H' D' w',Ub3 d (.sl (enL cNd L) tk) (.sl (enL cB (A2 L)) tk2) (.i6 (n:Int)) w (.ms id 0 0 (L.length+1) (L.length+1) 1 true) H=some (.ret (.tup [w',.ms id 0 0 (L.length+1) (L.length+1) 1 true,.i6 ((Bk L (A2 L) v n out).2:Int)]),H') /\
   VS b id (Bk L (A2 L) v n out).1 D' w' H'/\Ext b id H H'/\VI L (Bk L (A2 L) v n out).1 D'/\∀j,n<j->D'[j]? = D[j]? := by
 intro v
 induction v with
 |zero=>
  intro n d out D w H hn hv hd tA hid hVS hVI;have hb:b<=H.length:=by omega
  obtain⟨d,rfl⟩:∃e,d=e+1:=⟨d-1,by omega⟩;have iT:n=0:=by
   rcases hv with h | h
   ·exact h
   ·cases n with
    |zero=>rfl
    |succ m=>rw[Bb (show m<L.length from hn)]at h;have:=(AS hl (show m<L.length from hn)).1;omega
  subst iT;have hlt:0<(A2 L).length:=by rw[Da];omega
  have he:(A2 L)[0]=true:=by have:=E7 L;rw[Vm,Vl hlt]at this;exact this
  refine⟨H,D,w,?_,hVS,Ext.refl _ _ _,hVI,λ_ _=>rfl⟩;show Ub2 (Ub3 d) _ _ _ _ _ _=_;unfold Ub2;simp only[GMw,Ay,Ae,A0,Vr,Nat.add_zero,V4,Co,Az hlt,zXh,he]
  rfl
 |succ v ih=>
  intro n d out D w H hn hv hd tA hid hVS hVI;have hb:b<=H.length:=by omega
  obtain⟨d,rfl⟩:∃e,d=e+1:=⟨d-1,by omega⟩;have hlt:n<(A2 L).length:=by rw[Da];omega
  have eF:(A2 L).getD n true=(A2 L)[n]:=by rw[Vm,Vl hlt];rfl
  have hDn:n<D.length:=by rw[hVI.len];omega
  have hidx:=CK (sz:=1) (id:=id) (n:=L.length+1) (K:=.i64) (g:=0) (off:=0) (cap:=L.length+1) (ex:=true) (i:=n) (by omega);simp only[Vr,V4]at hidx;have hld:=HR (f:=cN) (As hVS.hd) hDn;show ∃H' D' w',Ub2 (Ub3 d) _ _ _ _ _ _=_/\_;unfold Ub2;simp only[GMw,Ay,Ae,A0,Vr,Nat.add_zero,V4,Co,Az hlt,zXh];cases he:(A2 L)[n]with
  |true=>
   have e:Bk L (A2 L) (v+1) n out=(out,0):=by simp only[Bk,eF,he,if_true]
   rw[e];exact⟨H,D,w,by simp only[GMw];rfl,hVS,Ext.refl _ _ _,hVI,λ_ _=>rfl⟩
  |false=>
   rw[he]at eF;simp only[GMw,hidx,hld,zXh];by_cases hpos:0<D[n]
   ·have hi:(D[n]:Int)>0:=by omega
    have aU:(A9 L n).lv.toNat=v+1:=by
     rcases hv with h | h
     ·exfalso;subst h;rw[E7]at eF;cases eF
     ·exact h
    have e:=hVI.val n D[n] (Vl hDn) hpos;rw[aU]at e;rw[e];exact⟨H,D,w,by simp only[GMw,hi],hVS,Ext.refl _ _ _,hVI,λ_ _=>rfl⟩
   ·have hi:¬(D[n]:Int)>0:=by omega
    have hD0:D[n]=0:=by omega
    obtain⟨m,rfl⟩:∃m,n=m+1:=⟨n-1,by
     cases n with
     |zero=>rw[E7]at eF;cases eF
     |succ n=>rfl⟩
    have hm:m<L.length:=hn;have aU:(A9 L ((m+1:Nat):Int)).lv.toNat=v+1:=by
     rcases hv with h | h
     ·omega
     ·exact h
    obtain⟨l1,l2,l3⟩:=AS hl hm;have hx:A9 L ((m+1:Nat):Int)=L[m]:=Bb hm;rw[hx]at aU;have cT:IntKind.i64.wrap (((m+1:Nat):Int)-1)=(m:Int):=by rw[An] <;> omega
    simp only[GMw,hi,cT,Az hm,IU,Vdp,Pj (Ap (B:=H) (cs:=cNd nd0)) rfl,Bt];generalize hX:L[m]=x at l1 l2 l3 aU hx;have pQ:H.length≠id:=by omega
    have loop:=Gq (G:=λrec1 vs H1=>Udm H (Ub3 d) rec1 (ag vs 0) (ag vs 1) (ag vs 2) (ag vs 3) (ag vs 4) (ag vs 5) (ag vs 6) H1) (if 1<x.lv then 4 else 0)
     (λk vs Hc=>∃w' D',vs=[.sl (enL cNd L) tk,.sl (enL cB (A2 L)) tk2,.i6 ((m+1:Nat):Int),w',.ms id 0 0 (L.length+1) (L.length+1) 1 true,.ptr H.length 0 0,.i6 (k:Int)]/\VS b id (BR (Bk L (A2 L) v) x k out).1 D' w' Hc/\Hc[H.length]? = some (.cel 0 (cNd (BR (Bk L (A2 L) v) x k out).2))/\Ext b id H Hc/\VI L (BR (Bk L (A2 L) v) x k out).1 D'/\(∀j,m<j->D'[j]? = D[j]?))
     (by split <;> decide) (λk vs Hc hk hI=>?_) (vs:=[.sl (enL cNd L) tk,.sl (enL cB (A2 L)) tk2,.i6 ((m+1:Nat):Int),w,.ms id 0 0 (L.length+1) (L.length+1) 1 true,.ptr H.length 0 0,.i6 0]) (H:=H++[.cel 0 (cNd x)]) ⟨w,D,rfl,hVS.snoc _,by simp[BR],Ext.snoc hb _,hVI,λ_ _=>rfl⟩
    ·obtain⟨vs',Hc,⟨w',D',rfl,hVS',hcell,hExt,hVI',hDD⟩,rec,aB⟩:=loop;rw[aB];unfold Udm;obtain⟨tkk,rfl⟩:=hVS'.sl;have hle:=hVI'.le;have wS:(AB (.bool (decide (((if 1<x.lv then 4 else 0:Nat):Int)<4))) (.bool (decide (x.lv>1))) (.bool false))=some (.bool false):=by by_cases h:1<x.lv <;> simp[h]
     have kQ:(BR (Bk L (A2 L) v) x (if 1<x.lv then 4 else 0) out).2.lv=x.lv:=Vbd _ _ _ _;have dJ:Bk L (A2 L) (v+1) (m+1) out=BE (BR (Bk L (A2 L) v) x (if 1<x.lv then 4 else 0) out).1 (BR (Bk L (A2 L) v) x (if 1<x.lv then 4 else 0) out).2:=by
      by_cases h:1<x.lv
      ·rw[if_pos h,VlD eF (by rw[hx];exact h),hx]
      ·rw[if_neg h,ViC eF (by rw[hx];exact h),hx];rfl
     have hpre:=SA (SC (L:=L) (E:=A2 L) v) x (if 1<x.lv then 4 else 0) out;rw[dJ];have cC:=Iz (L:=L) (E:=A2 L) (v+1) (m+1) out [];rw[VF,dJ]at cC;generalize (BR (Bk L (A2 L) v) x (if 1<x.lv then 4 else 0) out)=io at *;obtain⟨o,y⟩:=io;dsimp only at hVS' hcell hVI' kQ hpre cC hle ⊢;have bO:∀(A B:Out),(gk (.bool (decide (((if 1<x.lv then 4 else 0:Nat):Int)<4))) true (Ac 0 (.ptr H.length 0 0)) λx29=>gk (.bool (decide (((if 1<x.lv then 4 else 0:Nat):Int)<4))) true (Ad false 1 x29 Hc) λx30=>gk (.bool (decide (((if 1<x.lv then 4 else 0:Nat):Int)<4))) true (Af .none .gtr x30 (.i6 1)) λx31=>(AB (.bool (decide (((if 1<x.lv then 4 else 0:Nat):Int)<4))) x31 (.bool false)).bind λx32=>Ak x32 A B)=B:=by
      intro A B;by_cases h:1<x.lv
      ·have hf:¬(((4:Nat):Int)<4):=by decide
       simp only[if_pos h,hf,GMw]
      ·have hf:(((0:Nat):Int)<4):=by decide
       have h':¬x.lv>1:=h;simp only[if_neg h,hf,GMw,Ae,Nat.add_zero,S6 hcell,kQ,h']
     simp only[Al,Aj,Bh,BB];rw[bO];have qW:Aw 1 (.ms id 0 0 (L.length+1) (L.length+1) 1 true) (.i6 ((m+1:Nat):Int))=some (.ptr id 0 (m+1)):=hidx;have hD'n:D'[m+1]? = some 0:=by rw[hDD (m+1) (by omega),Vl hDn,hD0]
     have hDl:m+1<D'.length:=by rw[hVI'.len];omega
     have hD'e:D'[m+1]=0:=by rw[Vl hDl]at hD'n;injection hD'n
     have fin:∀(o':List Nd) (i:Nat) (w2:Ab) (H2:Aa),BE o y=(o',i)->VS b id o' D' w2 H2->Ext b id H H2->VI L o D'->o'.length<=o.length+1->(∃r,o'=o++r) ->
       ∃H' D'' w'',UdV H (.i6 ((m+1:Nat):Int)) w2 (.ms id 0 0 (L.length+1) (L.length+1) 1 true) (.i6 (i:Int)) H2=some (.ret (.tup [w'',.ms id 0 0 (L.length+1) (L.length+1) 1 true,.i6 (i:Int)]),H')/\VS b id o' D'' w'' H'/\Ext b id H H'/\VI L o' D''/\∀j,m+1<j->D''[j]? = D[j]? := by
      intro o' i w2 H2 hp hV2 hE2 hI2 hlen ⟨r,hr⟩;have jE:0<i:=by have:=LG o y;rw[hp]at this;exact this
      have hst:=DR (f:=cN) (sz:=1) (l:=D') (i:=m+1) (a:=i) (v:=.i6 (i:Int)) (As hV2.hd) hDl rfl;rw[B6 hV2.hd,V4]at hst;have lA:=(Vn.1 hV2.hd).1;refine⟨H2.set id (.cel 0 (flat cN (D'.set (m+1) i))),D'.set (m+1) i,w2,by unfold UdV;simp only[GMw,qW,hst],⟨?_,by simp[lA]⟩,⟨by simp;exact hE2.len,λj cs hj hc=>?_,λj hj=>?_⟩,⟨by simp[hI2.len],?_,?_⟩,λj hj=>?_⟩
      ·rcases hV2.hv with h1 | ⟨t,h1,h2,h3⟩
       ·exact .inl h1
       ·refine .inr ⟨t,h1,h2,?_⟩;have:id≠t:=λe=>by have:=hV2.hd;rw[e,h3]at this;cases this
        rw[Vt this];exact h3
      ·rw[Vt (λe=>hj e.symm)];exact hE2.cel j cs hj hc
      ·rw[Vt (by omega)];exact hE2.old j hj
      ·rw[List.countP_set hDl];have:=hI2.cnt;simp only[hD'e,jE,decide_true,if_true,Nat.lt_irrefl,decide_false,Vq,if_false,Nat.sub_zero];omega
      ·intro j dd hj lD;by_cases xO:j=m+1
       ·subst xO;rw[V0 hDl]at hj;injection hj with hj;subst hj;rw[hx,aU];rw[hp]at cC;exact cC
       ·rw[Vt (λe=>xO e.symm)]at hj;rw[hr];exact VI.grow hI2.val j dd hj lD
      ·rw[Vt (by omega)];exact hDD j (by omega)
     have kM:=VhW o tkk y Hc (by omega);simp only[GMw,J2 hcell,kM];by_cases hf:Cm o y=0
     ·have hp:BE o y=(o++[y],o.length+1):=by simp[BE,hf]
      obtain⟨w2,H2,ha,hV2,hE2⟩:=hVS'.app (VM hb hExt.len) y (by omega);obtain⟨tk3,rfl⟩:=hV2.sl;have h0:((Cm o y:Nat):Int)=0:=by omega
      obtain⟨H',D'',w'',q1,q2,q3,q4,q5⟩:=fin (o++[y]) (o.length+1) _ H2 hp hV2 (hExt.trans hE2) hVI' (by simp) ⟨[y],rfl⟩;refine⟨H',D'',w'',?_,by rw[hp];exact q2,q3,by rw[hp];exact q4,q5⟩;rw[hp,<-q1];simp only[GMw,h0,OW,ha,Ax,Vs,zXi]
     ·have hp:BE o y=(o,Cm o y):=by simp[BE,hf]
      have h0:¬((Cm o y:Nat):Int)=0:=by omega
      obtain⟨H',D'',w'',q1,q2,q3,q4,q5⟩:=fin o (Cm o y) _ Hc hp hVS' hExt hVI' (by omega) ⟨[],by simp⟩;refine⟨H',D'',w'',?_,by rw[hp];exact q2,q3,by rw[hp];exact q4,q5⟩;rw[hp,<-q1];simp only[GMw,h0]
    ·obtain⟨w',D',rfl,hVS',hcell,hExt,hVI',hDD⟩:=hI;have aN:1<x.lv:=by
      by_cases h:1<x.lv
      ·exact h
      ·rw[if_neg h]at hk;omega
     rw[if_pos aN]at hk;obtain⟨q1,q2,q3⟩:=l3 k hk;have hk':(k:Int)<4:=by omega
     have kQ:=Vbd (Bk L (A2 L) v) x k out;have bG:=Vc7 (Bk L (A2 L) v) x k out k (Vo _) hk;obtain⟨c,hc⟩:=Ws q1;have Y3:c<=m:=by
      by_cases h0:0<x.kid k
      ·have:=(q3 aN h0).1;omega
      ·omega
     have vT:c=0\/(A9 L (c:Int)).lv.toNat=v:=by
      by_cases h0:0<x.kid k
      ·right;obtain⟨c',rfl⟩:∃c',c=c'+1:=⟨c-1,by omega⟩;have aG:c'<L.length:=by omega
       have:=(q3 aN h0).2 L[c'] (by rw[show (x.kid k-1).toNat=c' from by omega];exact Vl aG);rw[Bb aG];omega
      ·left;omega
     obtain⟨H1,D1,w1,r1,r2,r3,r4,r5⟩:=ih c d (BR (Bk L (A2 L) v) x k out).1 D' w' Hc (by omega) vT (by omega) tA (Wu hid hExt.len) hVS' hVI';have gS:=r3.cel _ _ pQ hcell;have jT:(x.kid k).toNat=c:=by omega
     refine⟨[.sl (enL cNd L) tk,.sl (enL cB (A2 L)) tk2,.i6 ((m+1:Nat):Int),w1,.ms id 0 0 (L.length+1) (L.length+1) 1 true,.ptr H.length 0 0,.i6 ((k+1:Nat):Int)],H1.set H.length (.cel 0 (cNd ((BR (Bk L (A2 L) v) x k out).2.setKid k ((Bk L (A2 L) v c (BR (Bk L (A2 L) v) x k out).1).2:Int)))),⟨w1,D1,rfl,?_,?_,?_,?_,?_⟩,λrec=>?_⟩
     rotate_left 5
     ·unfold Udm;simp only[Al,Aj,GMw,hk',Ae,Nat.add_zero,Vr,S6 hcell,kQ,show x.lv>1 from aN,LY hk,UD hcell hk,bG,hc,r1,Ce,Cg,UX,Il gS hk,Av (show k<9223372036854775807 by omega)]
     ·simp only[BR,jT];exact r2.put gS pQ
     ·have cA:=(Vn.1 gS).1;simp only[BR,jT];rw[V0 cA]
     ·refine⟨by simp;exact (hExt.trans r3).len,λi cs hi hcs=>?_,λi hi=>?_⟩
      ·have:=(Vn.1 hcs).1;rw[Vt (by omega)];exact (hExt.trans r3).cel i cs hi hcs
      ·rw[Vt (by omega)];exact (hExt.trans r3).old i hi
     ·simp only[BR,jT];exact r4
     ·intro j hj;rw[r5 j (by omega)];exact hDD j hj
theorem CG {H H0:Aa}(h:∀i,i<H0.length->H[i]? = H0[i]?):H.take H0.length=H0:=by
 apply WP;intro i;by_cases hi:i<H0.length
 ·rw[Wj hi,h i hi]
 ·rw[zYb (by simp;omega),zYb (by omega)]
theorem RM:∀(f:Nat) (L:List Nd) (n:Nat),AH L=true->n<=L.length->AH (C8 f L n).1=true/\(C8 f L n).2<=(C8 f L n).1.length/\(C8 f L n).1.length<=L.length+f
 |0,L,n,hl,hn=>⟨hl,hn,Vo _⟩
 |f+1,L,n,hl,hn=>by
  unfold C8;cases hh:DP L n with
  |false=>exact⟨hl,hn,by show L.length<=_;omega⟩
  |true=>obtain⟨h0,h2⟩:=PF hh;obtain⟨m,rfl⟩:∃m,n=m+1:=⟨n-1,by omega⟩;rw[Bb hn]at h2;obtain⟨r1,r2,r3⟩:=RM f (L++[CI L (m+1)]) (L.length+1) (PE hl hn h2) (by simp);simp only[if_true];refine⟨r1,r2,?_⟩;simp at r3;omega
theorem OK {L:List Nd}{n:Nat}(h:(A2 L).getD n true=false):0<n:=by
 cases n with
 |zero=>rw[E7]at h;cases h
 |succ n=>omega
theorem QC {L:List Nd}(hl:AH L=true){n:Nat}(h0:0<n)(hn:n<=L.length):(A9 L (n:Int)).lv.toNat<=1329:=by obtain⟨m,rfl⟩:∃m,n=m+1:=⟨n-1,by omega⟩;rw[Bb hn];have:=(AS hl hn).2.1;omega
theorem Um {L:List Nd}{n:Nat}(hl:AH L=true)(hn:n<=L.length):AH (EM L n).1=true/\(EM L n).2<=(EM L n).1.length/\(EM L n).1.length<=L.length+1329:=by
 unfold EM;cases he:(A2 L).getD n true with
 |true=>exact⟨hl,VL _,by show L.length<=_;omega⟩
 |false=>obtain⟨r1,r2,r3⟩:=RM (A9 L n).lv.toNat L n hl hn;have:=QC hl (OK he) hn;simp only[Vq,if_false];exact⟨r1,r2,by omega⟩
def K0 (L:List Nd)(n:Nat):List Nd:=(Bk (EM L n).1 (A2 (EM L n).1) (A9 (EM L n).1 ((EM L n).2:Int)).lv.toNat (EM L n).2 []).1
def VjP (L:List Nd)(n:Int):Bool:=AH L&&decide (0<=n)&&decide (n<=L.length)
theorem VaN (l:List Bool)(tk:Tok)(H:Aa)(hb:l.length<1152921504606846976):UaA (.sl (enL cB l) tk) H=some (.ret (.sl (enL cB (Dy l)) .no),H):=by
 unfold UaA;refine Br (σ:=List Bool×Tok) (λs=>s.1.length<1152921504606846976) (λs=>[.sl (enL cB s.1) s.2]) (λ_=>H) (λs=>s.1.length) (λs=>some (.ret (.sl (enL cB (Dy s.1)) .no),H)) (λs rec hs hrec=>?_) (l,tk) hb hb;obtain⟨l,tk⟩:=s;simp only at hs hrec ⊢;unfold UcL;rcases GN l with rfl | ⟨l',b,rfl⟩
 ·simp[Vjl]
 ·simp only[Vs,zXi]at hs hrec;have h1:l'.length<(l'++[b]).length:=by simp
  have h2:((((l'++[b]).length:Nat):Int)>0):=by simp
  have h3:IntKind.i64.wrap ((((l'++[b]).length:Nat):Int)-1)=(l'.length:Int):=by rw[An] <;> simp <;> omega
  simp only[Al,Ax,zXa,Du,h2,decide_true,GF,DJ,h3,Az h1,A0,zXh,Je,BZ,Wt (Vo _),VZ,List.getElem_cons_zero];cases b with
  |true=>simp[Qi]
  |false=>have:=hrec (l',Jy tk 0 l'.length (l'++[false]).length false) (by dsimp only;omega) (by simp);simp only[Wg,AU,VbQ (Nat.le_of_lt h1),zXa,List.take_left',this,NM]
theorem Vfl (l:List Bool)(tk:Tok)(i:Int)(H:Aa):Uda (.sl (enL cB l) tk) (.i6 i) H=some (.ret (.bool (decide (0<=i)&&l.getD i.toNat false)),H):=by
 unfold Uda;by_cases h0:0<=i
 ·obtain⟨n,rfl⟩:=Ws h0;by_cases h1:n<l.length
  ·have h2:(n:Int)<(l.length:Int):=by omega
   simp[h2,Az h1,Vm,Vl h1]
  ·have h2:¬(n:Int)<(l.length:Int):=by omega
   simp[h2,Vm,zYb (Nat.le_of_not_lt h1)]
 ·simp[h0]
theorem Ho (l:zAb)(tk:Tok)(H:Aa)(hl:l.length<=2199023255552)(hx:Lim l):Ucz (.sl (enL cU l) tk) H=some (.ret (.sl (enL cB (Dy (AO l))) .no),H):=by
 unfold Ucz;refine CA l.length (λi=>[.sl (enL cU l) tk,Fq cB H (AO (l.take i)),.i6 (i:Int)]) (λi=>ED cB BW 1 H (AO (l.take i))) _ (by omega) (λrec i hi=>?_) (λrec=>?_)
 ·have aE:(i:Int)<(l.length:Int):=by omega
  have aH:l[i]<4294967296:=hx _ (Vz hi);have htk:AO (l.take (i+1))=AO (l.take i)++D3 32 l[i]:=by rw[Vw hi,AO,List.flatMap_append];simp[AO]
  have hlen:(AO (l.take i)).length<=32*2199023255552:=by rw[Cp];simp;omega
  unfold Ubo;simp only[Al,AZ,Bd,Ax,zXa,Bh,aE,decide_true,AU,Az hi,A0,zXh,htk];generalize AO (l.take i)=o at hlen;generalize l[i]=x at aH;refine Br (σ:=Nat×Nat×List Bool) (λs=>s.1<=32/\s.2.1<4294967296/\s.2.2.length<=o.length+s.1) (λs=>[.sl (enL cU l) tk,Fq cB H s.2.2,.i6 (i:Int),.int .u32 (s.2.1:Int),.i6 (s.1:Int)]) (λs=>ED cB BW 1 H s.2.2) (λs=>32-s.1)
   (λs=>rec [.sl (enL cU l) tk,Fq cB H (s.2.2++D3 (32-s.1) s.2.1),.i6 ((i+1:Nat):Int)] (ED cB BW 1 H (s.2.2++D3 (32-s.1) s.2.1))) (λs aA hs hrec=>?_) (0,x,o) ⟨by dsimp only;omega,aH,by dsimp only;omega⟩ (by dsimp only;omega)
  obtain⟨k,y,p⟩:=s;obtain⟨hk,hy,hp⟩:=hs;simp only at hk hy hp hrec ⊢;unfold UdK;by_cases h:k<32
  ·have h':(k:Int)<32:=by omega
   have e1:(y:Int).tmod 2=((y%2:Nat):Int):=rfl;have e2:IntKind.u32.wrap ((y:Int).tdiv 2)=((y / 2:Nat):Int):=by rw[show (y:Int).tdiv 2=((y / 2:Nat):Int) from rfl,Dj] <;> omega
   have e3:(((y%2:Nat):Int) == 1)=(y%2 == 1):=by rw[V8];simp only[beq_iff_eq];omega
   have e4:IntKind.i64.wrap ((k:Int)+1)=((k+1:Nat):Int):=by rw[An] <;> omega
   have:=hrec (k+1,y / 2,p++[y%2 == 1]) ⟨h,by dsimp only;omega,by simp;omega⟩ (by dsimp only;omega);simp only[Al,AZ,Bd,Bx,BI,Bh,h',decide_true,zXa,AU,Jc (show (2:Int)≠0 by decide),OX (show (2:Int)≠0 by decide),e1,e2,Dv,e3,R2];rw[Hb (by simp) (by simp;omega) (by simp;omega)];simp only[Dk,CD,CC,zXa,e4,this];rw[show 32-k=(32-(k+1))+1 from by omega,D3];simp
  ·have:k=32:=by omega
   subst this;have e4:IntKind.i64.wrap ((i:Int)+1)=((i+1:Nat):Int):=by rw[An] <;> omega
   simp[D3,e4]
 ·unfold Ubo;obtain⟨G,hG⟩:=JY (f:=cB) (ty:=BW) (sz:=1) H (AO l);rw[Vy (Vo _)];simp only[Al,AZ,Bd,HO,hG,Ax,zXa,Bh,Wb,decide_false,AI,VaN (AO l) _ _ (by rw[Cp];omega),CD,CT,HU,zXb]
theorem Sg (l:List Bool)(tk:Tok)(H:Aa)(hl:l.length<=70368744177664):Ue8 (.sl (enL cB l) tk) H=some (.ret (.sl (enL cU (A4 (Bl l))) .no),H):=by
 unfold Ue8;have aG:=HY l;rw[VaN l tk H (by omega),<-VdI,Ki];simp only[CD];generalize Dy l=c at aG;obtain⟨n,hn⟩:∃n,n=(c.length+31) / 32:=⟨_,rfl⟩;rw[<-hn];refine CA n (λq=>[.sl (enL cB c) .no,Fq cU H (Ej c q),.i6 ((32*q:Nat):Int)]) (λq=>ED cU Cd 1 H (Ej c q)) _ (by omega) (λrec q hq=>?_) (λrec=>?_)
 ·have iA:((32*q:Nat):Int)<(c.length:Int):=by omega
  unfold UcM;simp only[Al,AZ,Bd,Ax,zXa,Bh,iA,decide_true,AU];have hlo:(Ej c q).length=q:=LS c q;rw[Kh];generalize Ej c q=o at hlo;refine Br (σ:=Nat) (λj=>j<=min 32 (c.length-32*q)) (λj=>[.sl (enL cB c) .no,Fq cU H o,.i6 ((32*q:Nat):Int),.int .u32 ((Bl ((c.drop (32*q)).take j):Nat):Int),.int .u32 (IntKind.u32.wrap ((2:Int)^j)),.i6 ((32*q+j:Nat):Int)]) (λ_=>ED cU Cd 1 H o) (λj=>32-j)
   (λ_=>rec [.sl (enL cB c) .no,Fq cU H (o++[Gt c q]),.i6 ((32*(q+1):Nat):Int)] (ED cU Cd 1 H (o++[Gt c q]))) (λj aA hj hrec=>?_) 0 (by omega) (by omega)
  unfold Ueh;have hw:IntKind.i64.wrap (((32*q:Nat):Int)+32)=((32*(q+1):Nat):Int):=by rw[An] <;> omega
  by_cases h:j<min 32 (c.length-32*q)
  ·have h1:((32*q+j:Nat):Int)<(c.length:Int):=by omega
   have eB:32*q+j<c.length:=by omega
   have h2:((32*q+j:Nat):Int)<((32*(q+1):Nat):Int):=by omega
   have bZ:IntKind.i64.wrap (((32*q+j:Nat):Int)+1)=((32*q+(j+1):Nat):Int):=by rw[An] <;> omega
   have bQ:(c.drop (32*q)).take (j+1)=(c.drop (32*q)).take j++[c[32*q+j]]:=by rw[Vw (by simp;omega)];simp
   have hlen:((c.drop (32*q)).take j).length=j:=by simp;omega
   have uK:Bl ((c.drop (32*q)).take (j+1))=Bl ((c.drop (32*q)).take j)+(if c[32*q+j]then 2^j else 0):=by rw[bQ,D9,hlen];simp only[Bl];split <;> simp
   have uV:=Kb ((c.drop (32*q)).take j);rw[hlen]at uV;have hp:(2:Nat)^j*2<=2^32:=by rw[<-Nat.pow_succ];exact VO (by omega) (by omega)
   have uA:IntKind.u32.wrap ((2:Int)^j)=((2^j:Nat):Int):=by rw[show ((2:Int)^j)=((2^j:Nat):Int) from by simp,Dj] <;> omega
   have aQ:IntKind.u32.wrap (((Bl ((c.drop (32*q)).take j):Nat):Int)+((2^j:Nat):Int))=((Bl ((c.drop (32*q)).take j)+2^j:Nat):Int):=by rw[Dj] <;> omega
   have gJ:IntKind.u32.wrap (((2^j:Nat):Int)*2)=IntKind.u32.wrap ((2:Int)^(j+1)):=by rw[Xl];simp
   have:=hrec (j+1) (by omega) (by omega);rw[uK]at this;simp only[Al,AZ,Bd,Bx,BI,D4,Ax,zXa,Bh,h1,decide_true,GF,CC,hw,h2,BZ,AU,AM,Az eB,A0,zXh,uA];cases hb:c[32*q+j]with
   |true=>rw[hb]at this;simp only[AU,CC,aQ,zXa,Al,AZ,Bd,Bx,BI,D4,UdL,Id,gJ,bZ];simpa using this
   |false=>rw[hb]at this;simp only[AI,Al,AZ,Bd,Bx,BI,D4,UdL,Id,CC,gJ,bZ,zXa];simpa using this
  ·have hj':j=min 32 (c.length-32*q):=by omega
   have hx:Bl ((c.drop (32*q)).take j)=Gt c q:=by
    unfold Gt;by_cases h:j=32
    ·rw[h]
    ·rw[Vy (by simp;omega),Vy (by simp;omega)]
   have tail:((AN 1 [.int .u32 ((Gt c q:Nat):Int)]).bind λx40=>bP H (Cy (Bf Cd 1 4 (Fq cU H o) x40 (ED cU Cd 1 H o))) λx41 H42=>(Af .none .add (.i6 ((32*q:Nat):Int)) (.i6 32)).bind λx43=>rec [.sl (enL cB c) .no,x41,x43] H42)
     = rec [.sl (enL cB c) .no,Fq cU H (o++[Gt c q]),.i6 ((32*(q+1):Nat):Int)] (ED cU Cd 1 H (o++[Gt c q])):=by
    rw[Vmp];simp only[zXa];rw[Hb (by simp) (by simp;omega) (by simp;omega)];simp only[Dk,CD,CC,zXa,hw]
   rw[hx];by_cases h1:((32*q+j:Nat):Int)<(c.length:Int)
   ·have h2:¬((32*q+j:Nat):Int)<((32*(q+1):Nat):Int):=by omega
    simp only[Al,AZ,Bd,Bx,BI,D4,Ax,zXa,Bh,h1,decide_true,GF,CC,hw,h2,decide_false,BZ,AI];simpa only[CC,hw,zXa]using tail
   ·simp only[Al,AZ,Bd,Bx,BI,D4,Ax,zXa,Bh,h1,decide_false,N0,Ca,AI];exact tail
 ·have iA:¬((32*n:Nat):Int)<(c.length:Int):=by omega
  obtain⟨G,hG⟩:=JY (f:=cU) (ty:=Cd) (sz:=1) H (Ej c n);unfold UcM;simp only[Al,AZ,Bd,HO,hG,Ax,zXa,Bh,iA,decide_false,AI,CT,HU,zXb]
theorem Vcd (l:zAb)(tk:Tok)(H:Aa)(hl:l.length<=1099511627776)(hx:Lim l):Ual (.sl (enL cU l) tk) H=some (.ret (.sl (enL cU (A4 (val l))) .no),H):=by have hc:=HY (AO l);rw[Cp]at hc;unfold Ual;rw[Ho l tk H (by omega) hx];simp only[Fd];rw[Sg _ _ _ (by omega)];simp only[Fd,Ef,UU,E4,EJ l hx]
theorem Vfh (l:zAb)(tk:Tok)(H:Aa)(hl:l.length<=1099511627776):Udk (.sl (enL cU l) tk) H=some (.ret (.bool (FM l)),H):=by
 unfold Udk;rcases GN l with rfl | ⟨l',x,rfl⟩
 ·simp[FM]
 ·simp only[Vs,zXi]at hl;have h1:l'.length<(l'++[x]).length:=by simp
  have h3:IntKind.i64.wrap ((((l'++[x]).length:Nat):Int)-1)=(l'.length:Int):=by rw[An] <;> simp <;> omega
  have hne:((((l'++[x]).length:Nat):Int) == 0)=false:=by simp;omega
  have hb:((x:Int) != 0)=(x != 0):=by rw[V8];simp
  simp only[Ax,zXa,Dv,hne,KX,DJ,h3,Az h1,A0,zXh,Wt (Vo _),VZ,List.getElem_cons_zero,Ic,Ca,Oi,hb];simp[FM]
theorem VkX (a b:zAb)(ta tb:Tok)(H:Aa)(ha:a.length<=1099511627776)(hb:b.length<=1099511627776)(la:Lim a)(lb:Lim b) :
  UcQ (.sl (enL cU a) ta) (.sl (enL cU b) tb) H=some (.ret (.i6 (Vjo (val a) (val b))),H):=by
 have c1:=HY (AO a);have c2:=HY (AO b);rw[Cp]at c1 c2;unfold UcQ;rw[Ho a ta H (by omega) la];simp only[Fd,Ho b tb H (by omega) lb,Ax,zXa,Ro];have hx:Bl (Dy (AO a))=val a:=by rw[E4,EJ a la]
 have hy:Bl (Dy (AO b))=val b:=by rw[E4,EJ b lb]
 rw[<-hx,<-hy];generalize Dy (AO a)=x at c1 ⊢;generalize Dy (AO b)=y at c2 ⊢;have hw:IntKind.i64.wrap (max (x.length:Int) (y.length:Int)-1)=((max x.length y.length:Nat):Int)-1:=by rw[An] <;> omega
 simp only[DJ,hw,zXa];have z:∀(c:List Bool) (m:Nat),c.length<=m->Bl c / 2^m=0:=λc m h=>WK (Wu (Kb c) (VO (by omega) h));refine Br (σ:=Nat) (λi=>i<9223372036854775807/\(Bl x) / 2^i=(Bl y) / 2^i) (λi=>[.sl (enL cB x) .no,.sl (enL cB y) .no,.i6 ((i:Int)-1)]) (λ_=>H) (λi=>i) (λ_=>some (.ret (.i6 (Vjo (Bl x) (Bl y))),H)) (λi rec hi hrec=>?_) (max x.length y.length) ⟨by omega,by rw[z _ _ (by omega),z _ _ (by omega)]⟩ (by omega);obtain⟨hi,he⟩:=hi;unfold Uen;cases i with
 |zero=>
  have e:Bl x=Bl y:=by simpa using he
  simp[e,Vjo]
 |succ i=>
  have jE:(((i+1:Nat):Int)-1)=(i:Int):=by omega
  have hge:(i:Int)>=0:=by omega
  have hw:IntKind.i64.wrap ((i:Int)-1)=(i:Int)-1:=by rw[An] <;> omega
  have ax:∀(c:List Bool) (H:Aa),Uda (.sl (enL cB c) .no) (.i6 (i:Int)) H=some (.ret (.bool ((Bl c).testBit i)),H):=λc H=>by rw[Vfl,zXl,Vcq];simp
  have tb:∀m:Nat,m.testBit i=decide (m / 2^i%2=1):=λm=>Xc;have hs:∀m:Nat,m / 2^(i+1)=m / 2^i / 2:=λm=>by rw[Nat.pow_succ,Nat.div_div_eq_div_mul]
  rw[hs,hs]at he;have mono:∀p q:Nat,p<=q->p / 2^i<=q / 2^i:=λp q h=>Nat.div_le_div_right h;simp only[Al,AZ,Bd,jE,Ie,hge,decide_true,zXa,AU,ax,Fd,Vj0];by_cases heq:(Bl x) / 2^i=(Bl y) / 2^i
  ·have lI:(Bl x).testBit i=(Bl y).testBit i:=by rw[tb,tb,heq]
   simp only[lI,bne_self_eq_false,AI,DJ,hw,zXa];exact hrec i ⟨by omega,heq⟩ (by omega)
  ·have m1:=mono (Bl x) (Bl y);have m2:=mono (Bl y) (Bl x);rcases XD (Bl x / 2^i)with h1 | h1 <;> rcases XD (Bl y / 2^i)with h2 | h2
   ·omega
   ·have hlt:Bl x<Bl y:=by
     rcases VT (Bl x) (Bl y)with h | h
     ·exact h
     ·have:=m2 h;omega
    simp[tb,h1,h2,Vjo,hlt]
   ·have hlt:Bl y<Bl x:=by
     rcases VT (Bl y) (Bl x)with h | h
     ·exact h
     ·have:=m1 h;omega
    have hn:¬Bl x<Bl y:=by omega
    simp[tb,h1,h2,Vjo,hlt,hn]
   ·omega
theorem Ou (m:List Bool)(i:Nat):Bl m%2^(i+1)=Bl m%2^i+2^i*bn (m.getD i false):=by
 rw[Vcq,Xc,Nat.pow_succ,Nat.mod_mul]
 congr 2
 rcases XD (Bl m / 2^i)with h | h <;> simp[h,bn]
theorem VkY (a b:zAb)(ta tb:Tok)(H:Aa)(ha:a.length<=1099511627776)(hb:b.length<=1099511627776)(la:Lim a)(lb:Lim b) :
  UcP (.sl (enL cU a) ta) (.sl (enL cU b) tb) H=some (.ret (.sl (enL cU (A4 (val a+val b))) .no),H):=by
 have c1:=HY (AO a);have c2:=HY (AO b);rw[Cp]at c1 c2;unfold UcP;have hx:Bl (Dy (AO a))=val a:=by rw[E4,EJ a la]
 have hy:Bl (Dy (AO b))=val b:=by rw[E4,EJ b lb]
 simp only[Ho a ta H (by omega) la,CD,Ho b tb H (by omega) lb];rw[<-hx,<-hy];generalize Dy (AO a)=x at c1 ⊢;generalize Dy (AO b)=y at c2 ⊢;refine Br (σ:=List Bool×Bool) (λs=>s.1.length<=max x.length y.length+1/\Bl s.1+2^s.1.length*bn s.2=Bl x%2^s.1.length+Bl y%2^s.1.length) (λs=>[.sl (enL cB x) .no,.sl (enL cB y) .no,Fq cB H s.1,.bool s.2,.i6 (s.1.length:Int)]) (λs=>ED cB BW 1 H s.1) (λs=>max x.length y.length+1-s.1.length)
  (λ_=>some (.ret (.sl (enL cU (A4 (Bl x+Bl y))) .no),H)) (λs rec hs hrec=>?_) ([],false) ⟨by simp,by simp[Bl,bn,Nat.mod_one]⟩ (by simp;omega)
 obtain⟨o,c⟩:=s;obtain⟨ho,he⟩:=hs;simp only at ho he hrec ⊢;unfold Uel;simp only[Al,AZ,Bd,Bx,BI,Ax,zXa,Ro,KO];by_cases h:o.length<=max x.length y.length
 ·have h':((o.length:Int)<=max (x.length:Int) (y.length:Int)):=by omega
  have hw:IntKind.i64.wrap ((o.length:Int)+1)=((o.length+1:Nat):Int):=by rw[An] <;> omega
  have ax:∀(m:List Bool) (H:Aa),Uda (.sl (enL cB m) .no) (.i6 (o.length:Int)) H=some (.ret (.bool (m.getD o.length false)),H):=λm H=>by rw[Vfl,zXl];simp
  have app:∀s:Bool,Bf BW 1 1 (Fq cB H o) (.sl (enL cB [s]) .ti) (ED cB BW 1 H o)=some (Fq cB H (o++[s]),ED cB BW 1 H (o++[s])):=λs=>Hb (by simp) (by simp;omega) (by simp;omega);have w1:IntKind.i64.wrap (0+1)=1:=by decide
  have w2:IntKind.i64.wrap (1+1)=2:=by decide
  have w3:IntKind.i64.wrap (2+1)=3:=by decide
  have fin:rec [.sl (enL cB x) .no,.sl (enL cB y) .no,Fq cB H (o++[(bn (x.getD o.length false)+bn (y.getD o.length false)+bn c)%2 == 1]),.bool (decide (1<bn (x.getD o.length false)+bn (y.getD o.length false)+bn c)),.i6 ((o.length+1:Nat):Int)] (ED cB BW 1 H (o++[(bn (x.getD o.length false)+bn (y.getD o.length false)+bn c)%2 == 1]))=some (.ret (.sl (enL cU (A4 (Bl x+Bl y))) .no),H):=by
   have:=hrec (o++[(bn (x.getD o.length false)+bn (y.getD o.length false)+bn c)%2 == 1],decide (1<bn (x.getD o.length false)+bn (y.getD o.length false)+bn c)) ⟨by simp;omega,?_⟩ (by simp;omega)
   ·simpa using this
   ·simp only[Vs,zXi];rw[Ou x,Ou y,D9,Nat.pow_succ];generalize x.getD o.length false=p;generalize y.getD o.length false=q;generalize 2^o.length=z at he ⊢;cases p <;> cases q <;> cases c <;> simp[bn,Bl]at he ⊢ <;> omega
  simp only[h',decide_true,AU,AM,ax,CD];revert fin;generalize x.getD o.length false=p;simp only[Uek,AM,Al,AZ,Bd,Bx,BI,D4,ax,CD];generalize y.getD o.length false=q;intro fin;rw[<-fin];cases p <;> cases q <;> cases c <;>
   simp only[AU,AI,CC,w1,w2,w3,zXa,Al,AZ,Bd,Bx,BI,D4,Uej,Uei,AM,Jc (show (2:Int)≠0 by decide),Dv,R2,Du,app,Dk,CD,hw,bn] <;> rfl
 ·have h':¬((o.length:Int)<=max (x.length:Int) (y.length:Int)):=by omega
  obtain⟨G,hG⟩:=JY (f:=cB) (ty:=BW) (sz:=1) H o;have bx:=Kb x;have by':=Kb y;have px:2^x.length*2<=2^o.length:=by rw[<-Nat.pow_succ];exact VO (by omega) (by omega)
  have py:2^y.length*2<=2^o.length:=by rw[<-Nat.pow_succ];exact VO (by omega) (by omega)
  rw[Wr (by omega),Wr (by omega)]at he;have hc:c=false:=by
   cases c with
   |false=>rfl
   |true=>exfalso;simp only[bn,if_true,V4]at he;omega
  subst hc;have gG:Bl o=Bl x+Bl y:=by simpa[bn]using he
  simp only[h',decide_false,AI,HO,hG,Sg o _ _ (by omega),CD,CT,HU,zXb,gG]
theorem VaM (a b:zAb)(ta tb:Tok)(H:Aa)(ha:a.length<=1099511627776)(hb:b.length<=1099511627776)(la:Lim a)(lb:Lim b) :
  Ubp (.sl (enL cU a) ta) (.sl (enL cU b) tb) H=some (.ret (.tup [.sl (enL cU (if val b<=val a then A4 (val a-val b)else [])) .no,.bool (decide (val b<=val a))]),H):=by
 have c1:=HY (AO a);rw[Cp]at c1;unfold Ubp;simp only[VkX a b ta tb H ha hb la lb,CD,Bh,zXa];by_cases hv:val b<=val a
 ·have hc:¬(Vjo (val a) (val b)<0):=by unfold Vjo;split <;> (try split) <;> omega
  have hx:Bl (Dy (AO a))=val a:=by rw[E4,EJ a la]
  have hy:Bl (Dy (AO b))=val b:=by rw[E4,EJ b lb]
  simp only[hc,decide_false,AI,Ho a ta H (by omega) la,Ho b tb H (by omega) lb,CD,hv,if_true,decide_true];rw[<-hx,<-hy]at hv ⊢;generalize Dy (AO a)=x at c1 hv ⊢;generalize Dy (AO b)=y at hv ⊢;refine Br (σ:=List Bool×Bool) (λs=>s.1.length<=x.length/\Bl s.1+Bl y%2^s.1.length=Bl x%2^s.1.length+2^s.1.length*bn s.2) (λs=>[.sl (enL cB x) .no,.sl (enL cB y) .no,Fq cB H s.1,.i6 (if s.2 then 1 else 0),.i6 (s.1.length:Int)]) (λs=>ED cB BW 1 H s.1) (λs=>x.length-s.1.length)
   (λ_=>some (.ret (.tup [.sl (enL cU (A4 (Bl x-Bl y))) .no,.bool true]),H)) (λs rec hs hrec=>?_) ([],false) ⟨by simp,by simp[Bl,bn,Nat.mod_one]⟩ (by simp;omega)
  obtain⟨o,c⟩:=s;obtain⟨ho,he⟩:=hs;simp only at ho he hrec ⊢;unfold Uer;simp only[Al,AZ,Bd,Bx,BI,Ax,zXa,Bh];by_cases h:o.length<x.length
  ·have h':((o.length:Int)<(x.length:Int)):=by omega
   have hw:IntKind.i64.wrap ((o.length:Int)+1)=((o.length+1:Nat):Int):=by rw[An] <;> omega
   have ax:∀(m:List Bool) (H:Aa),Uda (.sl (enL cB m) .no) (.i6 (o.length:Int)) H=some (.ret (.bool (m.getD o.length false)),H):=λm H=>by rw[Vfl,zXl];simp
   have app:∀s:Bool,Bf BW 1 1 (Fq cB H o) (.sl (enL cB [s]) .ti) (ED cB BW 1 H o)=some (Fq cB H (o++[s]),ED cB BW 1 H (o++[s])):=λs=>Hb (by simp) (by simp;omega) (by simp;omega);have n0:unA .neg (.i6 0)=some (.i6 0):=by rw[show unA .neg (.i6 0)=some (.i6 (IntKind.i64.wrap (0-0))) from rfl,show IntKind.i64.wrap (0-0)=0 from by decide]
   have n1:unA .neg (.i6 1)=some (.i6 (-1)):=by rw[show unA .neg (.i6 1)=some (.i6 (IntKind.i64.wrap (0-1))) from rfl,show IntKind.i64.wrap (0-1) = -1 from by decide]
   have w1:IntKind.i64.wrap (0+1)=1:=by decide
   have w2:IntKind.i64.wrap (-1+1)=0:=by decide
   have w3:IntKind.i64.wrap (0-1) = -1:=by decide
   have w4:IntKind.i64.wrap (1-1)=0:=by decide
   have w5:IntKind.i64.wrap (-1-1) = -2:=by decide
   have w6:IntKind.i64.wrap (-1+2)=1:=by decide
   have w7:IntKind.i64.wrap (-2+2)=0:=by decide
   have fin:rec [.sl (enL cB x) .no,.sl (enL cB y) .no,Fq cB H (o++[Vnm (x.getD o.length false) (y.getD o.length false) c]),.i6 (if Vo7 (x.getD o.length false) (y.getD o.length false) c then 1 else 0),.i6 ((o.length+1:Nat):Int)] (ED cB BW 1 H (o++[Vnm (x.getD o.length false) (y.getD o.length false) c]))=some (.ret (.tup [.sl (enL cU (A4 (Bl x-Bl y))) .no,.bool true]),H):=by
    have:=hrec (o++[Vnm (x.getD o.length false) (y.getD o.length false) c],Vo7 (x.getD o.length false) (y.getD o.length false) c) ⟨by simp;omega,?_⟩ (by simp;omega)
    ·simpa using this
    ·simp only[Vs,zXi];rw[Ou x,Ou y,D9,Nat.pow_succ];generalize x.getD o.length false=p;generalize y.getD o.length false=q;generalize 2^o.length=z at he ⊢;cases p <;> cases q <;> cases c <;> simp[bn,Bl,Vnm,Vo7,VoY]at he ⊢ <;> omega
   simp only[h',decide_true,AU,AM,ax,CD];revert fin;generalize x.getD o.length false=p;simp only[Ueq,AM,Al,AZ,Bd,Bx,BI,D4,ax,CD];generalize y.getD o.length false=q;intro fin;rw[<-fin];cases p <;> cases q <;> cases c <;>
    simp[n0,n1,w1,w2,w3,w4,w5,w6,w7,Uep,Ueo,AM,R2,app,hw,Vnm,Vo7,VoY]
  ·have h':¬((o.length:Int)<(x.length:Int)):=by omega
   obtain⟨G,hG⟩:=JY (f:=cB) (ty:=BW) (sz:=1) H o;have bx:=Kb x;have bo:=Kb o;have aH:x.length=o.length:=by omega
   rw[aH]at bx;rw[Wr bx,Wr (by omega)]at he;have hc:c=false:=by
    cases c with
    |false=>rfl
    |true=>exfalso;simp only[bn,if_true,V4]at he;omega
   subst hc;have gG:Bl o=Bl x-Bl y:=by simp[bn]at he;omega
   simp only[h',decide_false,AI,HO,hG,Sg o _ _ (by omega),CD,CT,Dn,BY,Cv,O9,GU,zXa,zXb,gG]
 ·have hc:Vjo (val a) (val b)<0:=by unfold Vjo;rw[if_pos (by omega)];decide
  simp[hc,hv,IY]
def AA (z:Int):List Ab:=[.bool (decide (z<0)),.sl (enL cU (A4 z.natAbs)) .no]
def big (z:Int):Ab:=.agg (AA z)
def LB (z:Int):Prop:=(A4 z.natAbs).length<=549755813888
theorem Vi (z:Int):(AA z).all Ab.isScal=true:=by simp[AA]
@[simp] theorem VpA (z:Int)(h:0<(AA z).length):(AA z)[0]=.bool (decide (z<0)):=(rfl)
@[simp] theorem Vp9 (z:Int)(h:1<(AA z).length):(AA z)[1]=.sl (enL cU (A4 z.natAbs)) .no:=(rfl)
@[simp] theorem VpQ (z:Int):(AA z)[0]? = some (.bool (decide (z<0))):=(rfl)
@[simp] theorem VpP (z:Int):(AA z)[1]? = some (.sl (enL cU (A4 z.natAbs)) .no):=(rfl)
@[simp] theorem To (z:Int):(big z).acells=some (AA z):=Cc (Vi z)
theorem Vb4 (neg:Bool)(n:Nat):[Ab.bool (sgn neg n),.sl (enL cU (A4 n)) .no]=AA (if neg then -(n:Int)else n):=by
 unfold AA;have e1:sgn neg n=decide ((if neg then -(n:Int)else (n:Int))<0):=by
  unfold sgn;cases neg with
  |false=>simp
  |true=>
   by_cases h:n=0
   ·subst h;rfl
   ·have:(-(n:Int))<0:=by omega
    simp[h,this];omega
 have e2:(if neg then -(n:Int)else (n:Int)).natAbs=n:=by cases neg <;> simp
 rw[e1,e2]
theorem QD (n:Nat):(decide (((A4 n).length:Int)>0))=decide (n≠0):=by
 by_cases h:n=0
 ·subst h;rw[EA];rfl
 ·have:=Wd.2 (Oz h);have h1:((A4 n).length:Int)>0:=by omega
  rw[zXc h1,zXc h]
@[simp] theorem VmP {H:Aa}{n d:Nat}{z:Int}:FQ H n (d+2) (AA z)=some (AA z):=by simp[AA]
@[simp] theorem ViW {H:Aa}{n d:Nat}{z:Int}:GV H n (d+3) (big z)=some (big z):=by simp[big]
@[simp] theorem MY {H:Aa}{n d:Nat}{z:Int}:ET H n (d+3) (big z)=some (big z):=by simp[big]
@[simp] theorem VmN {z:Int}:forget (big z)=big z:=by simp[big,AA]
@[simp] theorem Vmt (z:Int):(AA z).length=2:=(rfl)
@[simp] theorem Tu (z:Int):Ab.agg (AA z)=big z:=(rfl)
@[simp] theorem VoD (cs:List Ab)(z:Int)(h:cs.length=2):Dx cs 0 2 (AA z)=AA z:=D8 h
theorem D0 (z:Int)(H:Aa):B3 true 2 (big z) H=some (.ptr H.length 0 0,H++[.cel 0 (AA z)]):=BH (Vi z) rfl
theorem Ol (neg:Bool)(l:zAb)(tk:Tok)(H:Aa)(hl:l.length<=1099511627776)(hx:Lim l):Uez (.bool neg) (.sl (enL cU l) tk) H=some (.ret (big (if neg then -(val l:Int)else val l)),H):=by
 unfold Uez big;rw[<-Vb4];have hp:=QD (val l);cases neg with
 |false=>simp[Vcd _ _ _ hl hx,AD,GH,Dx,sgn,Cc]
 |true=>simp only[GF,BZ,zXa,Ax,Du,hp,sgn,zXn,alloc_eq (cs:=[.bool false,.sl [] .ti]) rfl,Bj,Vcd _ _ _ hl hx,CD];simp[AD,GH,Dx,Cc]
theorem U4 (neg:Bool)(l:zAb)(tk:Tok)(H:Aa)(hl:l.length<=1099511627776)(hx:Lim l):UeF (.agg [.bool neg,.sl (enL cU l) tk]) H=some (.ret (big (-(DL neg l))),H):=by
 have ez:(if neg=false then -(val l:Int)else (val l:Int)) = -(DL neg l):=by cases neg <;> simp[DL]
 unfold UeF;simp[BH,Ol _ l tk _ hl hx,ez]
theorem KP (z:Int):DL (decide (z<0)) (A4 z.natAbs)=z:=by
 unfold DL;rw[B2];by_cases h:z<0
 ·simp[h];omega
 ·simp[h];omega
theorem Vdm (neg:Bool)(l:zAb):(DL neg l).natAbs=val l:=by cases neg <;> simp[DL]
theorem Vfg (n1 n2:Bool)(l1 l2:zAb)(t1 t2:Tok)(H:Aa)(h1:l1.length<=549755813888)(h2:l2.length<=549755813888)(x1:Lim l1)(x2:Lim l2) :
  UbO (.agg [.bool n1,.sl (enL cU l1) t1]) (.agg [.bool n2,.sl (enL cU l2) t2]) H=some (.ret (big (DL n1 l1+DL n2 l2)),H):=by
 have v1:=Vek l1 x1;have v2:=Vek l2 x2;have p1:=Hp (show l1.length<=max l1.length l2.length by omega);have p2:=Hp (show l2.length<=max l1.length l2.length by omega);have p3:(4294967296:Nat)^(max l1.length l2.length+1)=4294967296^max l1.length l2.length*4294967296:=Nat.pow_succ _ _;have sg:∀(neg:Bool) (m:Nat) (tk:Tok) (H:Aa),m<4294967296^(max l1.length l2.length+1)->Uez (.bool neg) (.sl (enL cU (A4 m)) tk) H=some (.ret (big (if neg then -(m:Int)else m)),H):=by
  intro neg m tk H hm;have:=Ol neg (A4 m) tk H (by have:=EP hm;omega) (Bn m)
  rwa [B2]at this
 unfold UbO;by_cases hn:n1=n2
 ·subst hn;have ez:(if n1=true then -((val l1:Int)+(val l2:Int))else ((val l1:Int)+(val l2:Int)))=DL n1 l1+DL n1 l2:=by cases n1 <;> simp[DL] <;> omega
  simp[VN,BH,IF,Bm,VkY _ _ _ _ _ (show l1.length<=1099511627776 by omega) (show l2.length<=1099511627776 by omega) x1 x2,sg n1 (val l1+val l2) _ _ (by omega),ez]
 ·have hb:(n1 == n2)=false:=by simpa using hn
  by_cases hv:val l2<=val l1
  ·have ez:(if n1=true then -((val l1-val l2:Nat):Int)else ((val l1-val l2:Nat):Int))=DL n1 l1+DL n2 l2:=by cases n1 <;> cases n2 <;> simp[DL]at hn ⊢ <;> omega
   simp[VN,BH,IF,hb,VaM _ _ _ _ _ (show l1.length<=1099511627776 by omega) (show l2.length<=1099511627776 by omega) x1 x2,hv,sg n1 (val l1-val l2) _ _ (by omega),ez]
  ·have ez:(if n2=true then -((val l2-val l1:Nat):Int)else ((val l2-val l1:Nat):Int))=DL n1 l1+DL n2 l2:=by cases n1 <;> cases n2 <;> simp[DL]at hn ⊢ <;> omega
   have aU:val l1<=val l2:=by omega
   simp[VN,BH,IF,hb,VaM _ _ _ _ _ (show l1.length<=1099511627776 by omega) (show l2.length<=1099511627776 by omega) x1 x2,VaM _ _ _ _ _ (show l2.length<=1099511627776 by omega) (show l1.length<=1099511627776 by omega) x2 x1,hv,aU,sg n2 (val l2-val l1) _ _ (by omega),ez]
theorem Qs (z:Int):big z=.agg [.bool (decide (z<0)),.sl (enL cU (A4 z.natAbs)) .no]:=rfl
theorem LF (a b:Int)(H:Aa)(ha:LB a)(hb:LB b):UbO (big a) (big b) H=some (.ret (big (a+b)),H):=by rw[Qs a,Qs b,Vfg _ _ _ _ _ _ _ ha hb (Bn _) (Bn _),KP,KP]
theorem N9 (a:Int)(H:Aa)(ha:LB a):UeF (big a) H=some (.ret (big (-a)),H):=by rw[Qs a,U4 _ _ _ _ (by unfold LB at ha;omega) (Bn _),KP]
theorem LB.neg {a:Int}(h:LB a):LB (-a):=by unfold LB at *;rwa [Int.natAbs_neg]
theorem LB.of {a:Int}{k:Nat}(h:a.natAbs<4294967296^k)(hk:k<=549755813888):LB a:=VM (EP h) hk
theorem Sf (a b:Int)(H:Aa)(ha:LB a)(hb:LB b):Ue4 (big a) (big b) H=some (.ret (big (a-b)),H):=by unfold Ue4;simp[VN,D0,Bm,N9 _ _ hb,LF _ _ _ ha hb.neg,Int.sub_eq_add_neg]
def F7 (a b:Int):Int:=if a<b then -1 else if a=b then 0 else 1
theorem LE (a b:Int)(H:Aa)(ha:LB a)(hb:LB b):Uev (big a) (big b) H=some (.ret (.i6 (F7 a b)),H):=by
 unfold Uev;simp only[D0,Bj,Vu,List.singleton_append];simp[VN,D0,Sf _ _ _ ha hb];unfold F7;by_cases h0:a=b
 ·subst h0;simp[EA]
 ·have hne:A4 (a-b).natAbs≠[]:=Oz (by omega);have hp:=Wd.2 hne;have hz:(((A4 (a-b).natAbs).length:Int) == 0)=false:=by rw[beq_eq_false_iff_ne];omega
  have lK:¬((A4 (a-b).natAbs).length:Int)=0:=by omega
  have wM:¬A4 (a-b).natAbs=[]:=hne;by_cases hn:a<b
  ·have:a-b<0:=by omega
   simp[hz,lK,wM,hn,this]
  ·have:¬(a-b<0):=by omega
   simp[hz,lK,wM,hn,this,h0]
theorem Vpf (n:Nat)(v:Ab):L7 n [v]=List.replicate n v:=by
 induction n with
 |zero=>rfl
 |succ n ih=>simp only[L7,zXm,List.flatten_cons]at ih ⊢;rw[ih];rfl
theorem Vok (n:Nat)(v:Ab):Gz 1 n (List.replicate n v)=List.replicate n [v]:=by
 induction n with
 |zero=>rfl
 |succ n ih=>simp only[Gz,zXm,List.take_succ_cons,List.take_zero,Xs,WC,ih]
theorem Viz {bytes n:Nat}{v:Ab}{H:Aa}(hv:v.isScal=true)(hb:n*bytes<=140737488355328)(hn:n<=140737488355328):F4 1 bytes (some [v]) (.i6 (n:Int)) (.i6 (n:Int)) H=some (.ms H.length 0 0 n n 1 true,H++[.cel 0 (List.replicate n v)]):=by
 unfold F4;simp only[zXa];have h1:((n:Int)*(bytes:Int))<=140737488355328:=by
   have:((n*bytes:Nat):Int)<=140737488355328:=by omega
   simpa using this
 rw[if_pos ⟨by simp[hv],rfl,by omega,by omega,h1,by omega⟩,Vpf];simp
theorem VcS {H:Aa}{n:Nat}:Cw 1 (.ms H.length 0 0 n n 1 true) (H++[.cel 0 (List.replicate n (.bool false))])=some (enL cB (List.replicate n false)):=by
 have hm:(List.replicate n (Ab.bool false)).map Kl=List.replicate n (.bool false):=by simp[Kl]
 have hi:(List.replicate n (Ab.bool false)).all BG=true:=by simp[BG]
 simp only[Cw,if_true,VcI,J4,zXa,WC,Vr,V4,WH,Vy (show (List.replicate n (Ab.bool false)).length<=n by simp),hm,hi,Vo,and_self,Vok];simp[enL]
theorem Vfi (B:Aa)(n:Nat)(hn:n<=140737488355328):Ue8 (.ms B.length 0 0 n n 1 true) (B++[.cel 0 (List.replicate n (.bool false))])=some (.ret (.sl [] .no),B++[.cel 0 (List.replicate n (.bool false))]):=by
 unfold Ue8 UaA;have hc:∀K:Aa,Am (λrec1 vs H1=>UcL K rec1 (ag vs 0) H1) AP [.ms B.length 0 0 n n 1 true] (B++[.cel 0 (List.replicate n (.bool false))])
   = some (.ret (.ms B.length 0 0 0 n 1 true),B++[.cel 0 (List.replicate n (.bool false))]):=by
  intro K;refine Br (σ:=Nat) (λk=>k<=n) (λk=>[.ms B.length 0 0 k n 1 true]) (λ_=>B++[.cel 0 (List.replicate n (.bool false))]) (λk=>k) (λ_=>some (.ret (.ms B.length 0 0 0 n 1 true),B++[.cel 0 (List.replicate n (.bool false))])) (λk rec hk hrec=>?_) n (Vo _) (by omega);unfold UcL;cases k with
  |zero=>simp[forget,Em,fgt]
  |succ k=>
   have hpos:((k+1:Nat):Int)>0:=by omega
   have hw:IntKind.i64.wrap (((k+1:Nat):Int)-1)=(k:Int):=by rw[An] <;> omega
   have hidx:Aw 1 (.ms B.length 0 0 (k+1) n 1 true) (.i6 (k:Int))=some (.ptr B.length 0 k):=by unfold Aw;simp only[];rw[if_pos ⟨trivial,by omega,by omega⟩];simp
   have qI:Ad false 1 (.ptr B.length 0 k) (B++[.cel 0 (List.replicate n (.bool false))])=some (.bool false):=by rw[Ga,GS,Xw,if_pos (by omega)]
   have hsl:BS 1 (.ms B.length 0 0 (k+1) n 1 true) none (some (.i6 (k:Int))) none=some (.ms B.length 0 0 k n 1 true):=by
    have:(0:Int)<=(k:Int):=by omega
    simp only[BS,Bw,zXa,this,if_true,zXl];rw[if_pos ⟨trivial,by omega,by omega,by omega⟩];simp
   simp only[Al,VjT,zXa,Du,hpos,decide_true,GF,DJ,hw,hidx,qI,Je,BZ,Wg,AU,hsl];exact hrec k (by omega) (by omega)
 rw[hc];simp only[CD];rw[DT ES];unfold UcM;simp
theorem VkV (l:zAb)(tk:Tok)(m:Nat)(H:Aa)(hm:m<=10000)(hl:l.length<=549755813888)(hx:Lim l) :
  UcN (.sl (enL cU l) tk) (.i6 (m:Int)) H=some (.ret (.sl (enL cU (A4 (2^m*val l))) .no),H):=by
 unfold UcN;have h0:¬(m:Int)<0:=by omega
 have h1:¬(m:Int)>10000:=by omega
 have hc:=HY (AO l);rw[Cp]at hc;simp only[Bh,zXa,zXd h0,KX,Du,zXd h1,Ca,AI,Ho l tk H (by omega) hx,B5,Viz (bytes:=1) (v:=.bool false) rfl (show m*1<=140737488355328 by omega) (by omega),Bj];by_cases hv:val l=0
 ·have e:Dy (AO l)=[]:=VgE (by rw[EJ l hx];exact hv);rw[e,IY,M5 (by rw[VcS];rfl)];simp[Vfi H m (by omega),hv,EA,IY]
 ·have hne:Dy (AO l)≠[]:=λe=>hv (by rw[<-EJ l hx,<-E4,e];rfl);have ha:Bf BW 1 1 (.ms H.length 0 0 m m 1 true) (.sl (enL cB (Dy (AO l))) .no) (H++[.cel 0 (List.replicate m (.bool false))])
    = some (.sl (enL cB (List.replicate m false++Dy (AO l))) (.own (H.length+1)),H++[.cel 0 (List.replicate m (.bool false))]++[.tok (m+(Dy (AO l)).length) BW 1]):=by
   have hl0:(enL cB (Dy (AO l))).length≠0:=by simpa using hne
   unfold Bf;rw[show Cw 1 (.sl (enL cB (Dy (AO l))) .no) (H++[.cel 0 (List.replicate m (.bool false))])=some (enL cB (Dy (AO l))) from by simp[Cw,Vhi],VcS];simp only[zXa];rw[if_neg hl0,if_pos (by simp;omega),if_pos (by simp;exact Wd.2 hne)];simp[VdR]
  rw[ha];simp only[Dk,B5,Vu];rw[Sg _ _ _ (by simp;omega)];simp only[B5,CT,HU,zXb,Vf8,E4,EJ l hx]
theorem VkT (z:Int)(m:Nat)(H:Aa)(hm:m<=10000)(hz:LB z)(lK:LB (z*2^m)) :
  UcO (big z) (.i6 (m:Int)) H=some (.ret (big (z*2^m)),H):=by
 have e:(z*2^m).natAbs=2^m*z.natAbs:=by rw[Int.natAbs_mul,Int.natAbs_pow,W8];rfl
 have hp:(0:Int)<2^m:=Xo (by omega);have hs:∀tk H,Uez (.bool (decide (z<0))) (.sl (enL cU (A4 (2^m*z.natAbs))) tk) H=some (.ret (big (z*2^m)),H):=by
  intro tk H;rw[Ol _ _ _ _ (by rw[<-e];unfold LB at lK;omega) (Bn _),B2]
  congr 3
  have:((2^m*z.natAbs:Nat):Int)=2^m*(z.natAbs:Int):=by simp
  by_cases h:z<0
  ·simp only[h,decide_true,if_true,this];rw[show ((z.natAbs:Nat):Int) = -z from by omega,Int.mul_neg,Int.neg_neg,Int.mul_comm]
  ·simp only[h,decide_false,Vq,if_false,this];rw[show ((z.natAbs:Nat):Int)=z from by omega,Int.mul_comm]
 unfold UcO;simp[D0,Bm,VkV _ _ _ _ hm hz (Bn _),B2,hs]
theorem Jt {n:Int}(h0:-18446744073709551616<=n)(h:n<0):IntKind.u64.wrap n=n+18446744073709551616:=by have h1:IntKind.u64.bits=64:=rfl;have h2:IntKind.u64.signed=false:=rfl;unfold IntKind.wrap;simp only[h1,h2,Wh,Vq,if_false];omega
theorem Vdj (x y:Nat):AN 1 [.int .u32 (x:Int),.int .u32 (y:Int)]=some (.sl (enL cU [x,y]) .ti):=by simp[AN,CP,Kl,BG,Ab.acells,enL]
theorem N8 (n:Int)(H:Aa)(h0:-9223372036854775808<=n)(h1:n<=9223372036854775807):Ue0 (.i6 n) H=some (.ret (big n),H):=by
 obtain⟨u,hu⟩:∃u:Nat,u=n.natAbs:=⟨_,rfl⟩;have hlim:Lim [u%4294967296,u / 4294967296]:=λx hx=>by simp at hx;rcases hx with rfl | rfl <;> omega
 have aO:val [u%4294967296,u / 4294967296]=u:=by simp[val];omega
 have ez:(if decide (n<0)=true then -(u:Int)else (u:Int))=n:=by by_cases h:n<0 <;> simp[h] <;> omega
 have a1:=λH=>Ol (decide (n<0)) [u%4294967296,u / 4294967296] .ti H (by simp) hlim;simp only[aO,ez]at a1;have e1:((u:Int).tmod 4294967296)=((u%4294967296:Nat):Int):=rfl;have e2:IntKind.u64.wrap ((u:Int).tdiv 4294967296)=((u / 4294967296:Nat):Int):=by rw[show (u:Int).tdiv 4294967296=((u / 4294967296:Nat):Int) from rfl,Ch] <;> omega
 have e3:IntKind.u32.wrap ((u%4294967296:Nat):Int)=((u%4294967296:Nat):Int):=by rw[Dj] <;> omega
 have e4:IntKind.u32.wrap ((u / 4294967296:Nat):Int)=((u / 4294967296:Nat):Int):=by rw[Dj] <;> omega
 have j1:UdM H (.i6 n) (.ptr H.length 0 0) (.int .u64 (u:Int)) (H++[.cel 0 [.bool false,.sl [] .ti]])=some (.ret (big n),H):=by unfold UdM;simp only[Bh,zXa,Jc (show (4294967296:Int)≠0 by decide),OX (show (4294967296:Int)≠0 by decide),e1,e2,Bo,e3,e4,Vdj,a1,CD];simp
 unfold Ue0;simp only[alloc_eq (cs:=[.bool false,.sl [] .ti]) rfl,Bj,Bo,zXa,AM,Bh,Al,AZ,Bd];by_cases h:n<0
 ·have w:IntKind.u64.wrap (0-IntKind.u64.wrap n)=(u:Int):=by rw[Jt (n:=n) (by omega) h,Jt (by omega) (by omega)];omega
  have un:unA .neg (.int .u64 (IntKind.u64.wrap n))=some (.int .u64 (u:Int)):=by rw[show unA .neg (.int .u64 (IntKind.u64.wrap n))=some (.int .u64 (IntKind.u64.wrap (0-IntKind.u64.wrap n))) from rfl,w]
  rw[zXc h];simp only[AU,un,zXa,Al,AZ,Bd];exact j1
 ·have w:IntKind.u64.wrap n=(u:Int):=by rw[Ch (by omega) (by omega)];omega
  rw[zXd h];simp only[AI,w,Al,AZ,Bd];exact j1
theorem Vku (m:Nat)(hm:m<=20000):LB (2^m):=by refine LB.of (k:=m+1) ?_ (by omega);rw[Int.natAbs_pow];have:(2:Nat)^m<2^(32*(m+1)):=Ya (by omega) (by omega);rw[XJ]at this;exact this
theorem Vo3:LB 1:=Vku 0 (by omega)
theorem ML (m:Nat)(H:Aa)(hm:m<=10000):Ue9 (.i6 (m:Int)) H=some (.ret (big (2^m)),H):=by have hs:=λH=>VkT 1 m H hm Vo3 (by rw[Int.one_mul];exact Vku m (by omega));simp only[Int.one_mul]at hs;unfold Ue9;simp[N8 1 _ (by omega) (by omega),hs]
def GE (z:Int):Bool:=decide (-9223372036854775808<=z/\z<=9223372036854775807)
def TE (z:Int):Int:=if GE z then z else 0
theorem Vhr (l:zAb)(i:Nat)(h:i<l.length):val (l.drop i)=l[i]+4294967296*val (l.drop (i+1)):=by rw[VJ h,val]
theorem Va2 (l:zAb)(i:Nat):4294967296^i*val (l.drop i)<=val l:=by
 induction l generalizing i with
 |nil=>simp[val]
 |cons a l ih=>
  cases i with
  |zero=>simp
  |succ i=>have:=ih i;simp only[Xs,val,Nat.pow_succ];rw[W8 (4294967296^i) 4294967296,WS];omega
theorem Vho {u:Nat}(h:u<=9223372036854775808):IntKind.i64.wrap (IntKind.u64.wrap (0-(u:Int))) = -(u:Int):=by
 have h1:IntKind.i64.bits=64:=rfl;have h2:IntKind.i64.signed=true:=rfl;by_cases h0:u=0
 ·subst h0;decide
 ·rw[Jt (by omega) (by omega)];unfold IntKind.wrap;simp only[h1,h2,zXn,zXe];split <;> omega
theorem VkU (neg:Bool)(l:zAb)(tk:Tok)(H:Aa)(hl:l.length<=549755813888)(hx:Lim l):UeG (.agg [.bool neg,.sl (enL cU l) tk]) H=some (.ret (.tup [.i6 (TE (DL neg l)),.bool (GE (DL neg l))]),H):=by
 unfold UeG;have hw:IntKind.i64.wrap ((l.length:Int)-1)=(l.length:Int)-1:=by rw[An] <;> omega
 simp only[BH (cs:=[.bool neg,.sl (enL cU l) tk]) (sz:=2) rfl rfl,Bj,Ae,zXa,Ga,GS,Vr,List.getElem?_cons_succ,zXh,Ax,DJ,hw];refine Br (σ:=Nat) (λi=>i<=l.length/\val (l.drop i)<18446744073709551616) (λi=>[.ptr H.length 0 0,.int .u64 ((val (l.drop i):Nat):Int),.i6 ((i:Int)-1)]) (λ_=>H++[.cel 0 [.bool neg,.sl (enL cU l) tk]]) (λi=>i)
  (λ_=>some (.ret (.tup [.i6 (TE (DL neg l)),.bool (GE (DL neg l))]),H)) (λi rec hi hrec=>?_) l.length ⟨Vo _,by simp[val]⟩ (by omega) |> λh=>by simpa[val]using h
 obtain⟨hi,hv⟩:=hi;unfold Ues;cases i with
 |zero=>
  simp only[WC]at hv ⊢;have kL:¬(((0:Nat):Int)-1>=0):=by omega
  have un:unA .neg (.int .u64 ((val l:Nat):Int))=some (.int .u64 (IntKind.u64.wrap (0-((val l:Nat):Int)))):=rfl;simp only[Al,AZ,Bd,Ie,kL,decide_false,zXa,AI,Ae,Ga,GS,Vr,zXh];cases neg with
  |true=>
   by_cases h:val l<=9223372036854775808
   ·have h':((val l:Nat):Int)<=9223372036854775808:=by omega
    have hok:GE (DL true l)=true:=by simp[GE,DL];omega
    have sE:=Vho h;rw[Int.zero_sub]at sE;simp[h',un,Bo,sE,TE,hok];simp[DL]
   ·have h':¬((val l:Nat):Int)<=9223372036854775808:=by omega
    have hok:GE (DL true l)=false:=by simp[GE,DL];omega
    simp[h',TE,hok]
  |false=>
   by_cases h:val l<=9223372036854775807
   ·have h':¬((val l:Nat):Int)>9223372036854775807:=by omega
    have hok:GE (DL false l)=true:=by simp[GE,DL];omega
    have hw:IntKind.i64.wrap ((val l:Nat):Int)=((val l:Nat):Int):=by rw[An] <;> omega
    simp[h',Bo,hw,TE,hok];simp[DL]
   ·have h':((val l:Nat):Int)>9223372036854775807:=by omega
    have hok:GE (DL false l)=false:=by simp[GE,DL];omega
    simp[h',TE,hok]
 |succ i=>
  have e:((i+1:Nat):Int)-1=(i:Int):=by omega
  have hge:(i:Int)>=0:=by omega
  have hil:i<l.length:=by omega
  have aH:l[i]<4294967296:=hx _ (Vz hil);have hd:=Vhr l i hil;have hle:=Va2 l (i+1);simp only[Al,AZ,Bd,e,Ie,hge,decide_true,zXa,AU,Du];by_cases h:val (l.drop (i+1))<=4294967295
  ·have h':¬((val (l.drop (i+1)):Nat):Int)>4294967295:=by omega
   have w1:IntKind.u64.wrap (((val (l.drop (i+1)):Nat):Int)*4294967296)=((val (l.drop (i+1)):Nat):Int)*4294967296:=by rw[Ch] <;> omega
   have w2:IntKind.u64.wrap (((l[i]:Nat):Int))=((l[i]:Nat):Int):=by rw[Ch] <;> omega
   have w3:IntKind.u64.wrap (((val (l.drop (i+1)):Nat):Int)*4294967296+((l[i]:Nat):Int))=((val (l.drop i):Nat):Int):=by rw[Ch,hd] <;> omega
   have w4:IntKind.i64.wrap ((i:Int)-1)=(i:Int)-1:=by rw[An] <;> omega
   simp only[h',decide_false,AI,Id,w1,Ae,zXa,Ga,GS,Vr,List.getElem?_cons_succ,zXh,Az hil,A0,Bo,w2,CC,w3,DJ,w4];exact hrec i ⟨by omega,by omega⟩ (by omega)
  ·have h':((val (l.drop (i+1)):Nat):Int)>4294967295:=by omega
   have rR:18446744073709551616<=val l:=by have:4294967296^1*4294967296<=4294967296^(i+1)*val (l.drop (i+1)):=XC (VO (by omega) (by omega)) (by omega);omega
   have hok:GE (DL neg l)=false:=by cases neg <;> simp[GE,DL] <;> omega
   simp[h',TE,hok]
theorem Vcc (z:Int)(H:Aa)(h:LB z):UeG (big z) H=some (.ret (.tup [.i6 (TE z),.bool (GE z)]),H):=by rw[Qs,VkU _ _ _ _ h (Bn _),KP]
def Et (neg:Bool)(l:zAb):Bool:=FM l && !(neg&&l.isEmpty)
theorem U3 (neg:Bool)(l:zAb)(tk:Tok)(H:Aa)(hl:l.length<=549755813888):Ub1 (.agg [.bool neg,.sl (enL cU l) tk]) H=some (.ret (.bool (Et neg l)),H):=by
 unfold Ub1 Et;have hq:=λH=>Vfh l tk H (by omega);cases hr:FM l with
 |false=>simp[BH,hq,hr]
 |true=>
  cases neg with
  |false=>simp[BH,hq,hr]
  |true=>cases l <;> simp[BH,hq,hr] <;> omega
theorem R3 {n:Bool}{l:zAb}(h:Et n l=true)(hx:Lim l):[Ab.bool n,.sl (enL cU l) .no]=AA (DL n l):=by
 simp only[Et,Vx,Wk]at h;obtain⟨h1,h2⟩:=h;have hn:Nrm l:=(N6 hx).1 h1;unfold AA;rw[Vdm,<-LR hn]
 congr 2
 unfold DL;cases n with
 |false=>simp
 |true=>
  have hl:l≠[]:=λe=>by subst e;simp at h2
  have:val l≠0:=λe=>hl (hn.zero e);simp;omega
theorem VbI:LB 0:=by unfold LB;simp[EA]
structure Cl where
 x:Int
 y:Int
 s:UInt8
deriving DecidableEq
def cCl (c:Cl):List Ab:=[.bool (decide (c.x<0)),.sl (enL cU (A4 c.x.natAbs)) .no,.bool (decide (c.y<0)),.sl (enL cU (A4 c.y.natAbs)) .no,.int .u8 (c.s.toNat:Int)]
instance:Sz cCl 5:=⟨λ_=>rfl⟩
instance:Pl cCl:=⟨λ_=>rfl⟩
def VpN (z:Int):List Ab:=AA z
instance:Sz VpN 2:=⟨λ_=>rfl⟩
instance:Pl VpN:=⟨λ_=>rfl⟩
def SB (k:Nat)(z:Int):Prop:=z.natAbs<4294967296^k
theorem SB.lb {k:Nat}{z:Int}(h:SB k z)(hk:k<=549755813888):LB z:=LB.of h hk
theorem SB.mono {k m:Nat}{z:Int}(h:SB k z)(hm:k<=m):SB m z:=Wu h (Hp hm)
theorem SB.add {k:Nat}{a b:Int}(ha:SB k a)(hb:SB k b):SB (k+1) (a+b):=by unfold SB at *;have:4294967296^(k+1)=4294967296^k*4294967296:=Nat.pow_succ _ _;omega
def Cl.ok (c:Cl):Prop:=SB 100 c.x/\SB 100 c.y
def ND (a b:Cl):Int:=if F7 a.y b.y=0 then F7 a.x b.x else F7 a.y b.y
theorem Vmr (c:Cl)(H:Aa):B3 true 5 (.agg (cCl c)) H=some (.ptr H.length 0 0,H++[.cel 0 (cCl c)]):=BH rfl rfl
theorem Nl (c:Cl):(Ab.agg (cCl c)).acells=some (cCl c):=Cc rfl
section
variable {H G:Aa}{p:Nat}{c:Cl}{z:Int}
theorem VfF (hg:H[p]? = some (.cel 0 (cCl c))):Ad true 2 (.ptr p 0 0) H=some (big c.x):=by simp only[Ad,As hg,zXa,if_true];rfl
theorem VfE (hg:H[p]? = some (.cel 0 (cCl c))):Ad true 2 (.ptr p 0 2) H=some (big c.y):=by simp only[Ad,As hg,zXa,if_true];rfl
theorem BV (hg:H[p]? = some (.cel 0 (AA z))):Ad true 2 (.ptr p 0 0) H=some (big z):=by simp only[Ad,As hg,zXa,if_true];rfl
theorem Ct {cs:List Ab}(hg:H[p]? = some (.cel 0 cs))(hl:cs.length=2):Ai 2 (.ptr p 0 0) (big z) H=some (H.set p (.cel 0 (AA z))):=by simp only[Ai,As hg,zXa,To,B6 hg,D8 hl];rw[if_pos ⟨rfl,by omega⟩]
theorem Vjx (c:Cl):AN 5 [.agg (cCl c)]=some (.sl (enL cCl [c]) .ti):=by simp[AN,CP,Nl];simp[cCl,Kl,BG,enL]
theorem Dp (H:Aa):A3 (some [.bool false,.sl [] .ti]) H=some (.ptr H.length 0 0,H++[.cel 0 [.bool false,.sl [] .ti]]):=alloc_eq rfl
theorem AK {i:Nat}{x:Blk}(h:H[i]? = some x):(H++G)[i]? = some x:=by have:=(Vn.1 h).1;rw[Vp this];exact h

end
def inZ (v:Nat)(z:Int):Bool:=decide (-(2^(v-1))<=z)&&decide (z<2^(v-1))
def Eb (v:Nat)(c:Cl):Bool:=inZ v c.x&&inZ v c.y
theorem Nh (a b:Int):decide (F7 a b>=0)=decide (b<=a):=by
 unfold F7;rw[V8];split
 ·simp;omega
 ·split
  ·simp;omega
  ·simp;omega
theorem Ng (a b:Int):decide (F7 a b<0)=decide (a<b):=by
 unfold F7;rw[V8];split
 ·simp;omega
 ·split
  ·simp;omega
  ·simp;omega
def Sm (c:Cl)(out:List Cl):Nat:=(out.takeWhile λd=>decide (ND d c<0)).length
def Vnr (c:Cl)(out:List Cl):Bool:=match out[Sm c out]? with | some d=>decide (ND d c=0) | none=>false
def VhE (c:Cl)(out:List Cl):List Cl:=if Vnr c out then (out.drop (Sm c out)).drop 1 else out.drop (Sm c out)
def CY (out:List Cl)(c:Cl):List Cl:=out.take (Sm c out)++[c]++VhE c out
def FG (l:List Cl):List Cl:=l.foldl CY []
def B1 (l:List Cl):List Cl:=(FG l).filter λc=>decide (c.s≠0)
theorem Vlc (c:Cl)(out:List Cl):Sm c out<=out.length:=by unfold Sm;exact (WR _).length_le
theorem Vam (out:List Cl)(c:Cl):(CY out c).length<=out.length+1:=by have:=Vlc c out;unfold CY VhE;split <;> simp <;> omega
theorem Val {out:List Cl}{c d:Cl}(h:d∈CY out c):d=c\/d∈out:=by
 unfold CY VhE at h;simp only[VA,VB]at h;rcases h with (h | h) | h
 ·exact .inr (Wo h)
 ·exact .inl h
 ·right;split at h
  ·exact WN (WN h)
  ·exact WN h
theorem Vao {l:List Cl}{i:Nat}(hi:i<l.length):FG (l.take (i+1))=CY (FG (l.take i)) l[i]:=by unfold FG;rw[Vw hi,X1];rfl
theorem LV {l:List Cl}:∀i,i<=l.length->(FG (l.take i)).length<=i/\∀d∈FG (l.take i),d∈l
 |0,_=>by simp[FG]
 |i+1,h=>by
  obtain⟨h1,h2⟩:=LV i (by omega:i<=l.length);rw[Vao h];refine⟨VM (Vam _ _) (by omega),λd hd=>?_⟩;rcases Val hd with rfl | hd
  ·exact Vz h
  ·exact h2 d hd
theorem VcR {α:Type}{f:α->List Ab}{l:List α}{tk:Tok}{sz:Nat}{H:Aa}[hf:Sz f sz]:Cw sz (.sl (enL f l) tk) H=some (enL f l):=by simp[Cw,Vhi]
def ltC (a b:Cl):Bool:=decide (ND a b<0)
theorem Kx (a b:Int):(a<b/\F7 a b<0)\/(a=b/\F7 a b=0)\/(b<a/\0<F7 a b):=by
 unfold F7;rcases Int.lt_trichotomy a b with h | h | h
 ·exact .inl ⟨h,by rw[if_pos h];decide⟩
 ·exact .inr (.inl ⟨h,by rw[if_neg (by omega),if_pos h]⟩)
 ·exact .inr (.inr ⟨h,by rw[if_neg (by omega),if_neg (by omega)];decide⟩)
theorem MS {a b:Cl}:ltC a b=true↔a.y<b.y\/(a.y=b.y/\a.x<b.x):=by
 unfold ltC ND;rw[zXe];rcases Kx a.y b.y with ⟨h1,h2⟩ | ⟨h1,h2⟩ | ⟨h1,h2⟩
 ·rw[if_neg (by omega)];omega
 ·rw[if_pos h2];rcases Kx a.x b.x with ⟨h3,h4⟩ | ⟨h3,h4⟩ | ⟨h3,h4⟩ <;> omega
 ·rw[if_neg (by omega)];omega
theorem Vcs {a b:Cl}:ltC a b=false↔¬(a.y<b.y\/(a.y=b.y/\a.x<b.x)):=by rw[<-MS,Bool.not_eq_true]
theorem JQ:SW ltC:=⟨λa b h=>by rw[MS]at h;rw[Vcs];omega,λa b c h k=>by rw[Vcs]at h k ⊢;omega⟩
theorem I7 {a b:Cl}:BC ltC a b=true↔a.x=b.x/\a.y=b.y:=by rw[FI,Vcs,Vcs];omega
theorem U8 {a b:Cl}:decide (ND a b=0)=BC ltC a b:=by
 rw[V8,I7,zXe];unfold ND;rcases Kx a.y b.y with ⟨h1,h2⟩ | ⟨h1,h2⟩ | ⟨h1,h2⟩
 ·rw[if_neg (by omega)];omega
 ·rw[if_pos h2];rcases Kx a.x b.x with ⟨h3,h4⟩ | ⟨h3,h4⟩ | ⟨h3,h4⟩ <;> omega
 ·rw[if_neg (by omega)];omega
def Re (l:List Cl):Prop:=l.Pairwise λa b=>ltC a b=true
theorem VjR {p:Cl->Bool}:∀ {l:List Cl} {a:Cl},a∈l.takeWhile p->p a=true
 |[],a,h=>by cases h
 |c::l,a,h=>by
  rw[Xq]at h;split at h
  ·rename_i hc;rcases Wf.1 h with e | e
   ·rw[e];exact hc
   ·exact VjR e
  ·cases h
theorem Van {out:List Cl}(c:Cl)(h:Re out):∃T D R,out=T++(D++R)/\CY out c=T++(c::R)/\(∀a∈T,ltC a c=true)/\(∀a∈R,ltC c a=true)/\∀a∈D,BC ltC a c=true:=by
 obtain⟨T,hT⟩:∃T,T=out.takeWhile λd=>decide (ND d c<0):=⟨_,rfl⟩;obtain⟨D,hD⟩:∃D,D=out.dropWhile λd=>decide (ND d c<0):=⟨_,rfl⟩;have hTD:out=T++D:=by rw[hT,hD,Yo]
 have hp:Sm c out=T.length:=by unfold Sm;rw[hT]
 have h1:out.take (Sm c out)=T:=by rw[hp,hTD,X0]
 have h2:out.drop (Sm c out)=D:=by rw[hp,hTD,X2]
 have hlt:∀a∈T,ltC a c=true:=λa ha=>by rw[hT]at ha;exact VjR (p:=λd=>decide (ND d c<0)) ha
 have hst:=h;unfold Re at hst;rw[hTD]at hst;have kF:=(W5.1 hst).2.1;have hg:out[Sm c out]? = D.head? := by rw[<-List.head?_drop,h2]
 unfold CY VhE Vnr;rw[h1,h2,hg];cases hDc:D with
 |nil=>refine⟨T,[],[],by rw[hTD,hDc];simp,by simp,hlt,λa (ha:a∈[])=>(by cases ha),λa (ha:a∈[])=>(by cases ha)⟩
 |cons d D'=>
  rw[hDc]at kF;rw[Xi]at kF;have hd:ltC d c=false:=by have:=List.head?_dropWhile_not (λd=>decide (ND d c<0)) out;rw[<-hD,hDc]at this;exact this
  have vS:decide (ND d c=0)=BC ltC d c:=U8;simp only[List.head?_cons,vS];by_cases he:BC ltC d c=true
  ·rw[if_pos he];refine⟨T,[d],D',by rw[hTD,hDc];simp,by simp,hlt,λa ha=>?_,λa ha=>by rw[VB]at ha;rw[ha];exact he⟩;have:=kF.1 a ha;rw[I7]at he;rw[MS]at this ⊢;omega
  ·rw[if_neg he];refine⟨T,[],d::D',by rw[hTD,hDc];simp,by simp,hlt,λa ha=>?_,λa (ha:a∈[])=>(by cases ha)⟩;have vU:ltC c d=true:=by
    cases e:ltC c d with
    |true=>rfl
    |false=>exact absurd (FI.2 ⟨hd,e⟩) he
   rcases Wf.1 ha with e | e
   ·rw[e];exact vU
   ·have:=kF.1 a e;rw[MS]at this vU ⊢;omega
theorem Vak {out:List Cl}(c:Cl)(h:Re out):Re (CY out c)/\∀z,(if BC ltC z c=true then ((CY out c).filter (BC ltC z)).head? = some c else (CY out c).filter (BC ltC z)=out.filter (BC ltC z)):=by
 obtain⟨T,D,R,e1,e2,hT,hR,hD⟩:=Van c h;have h':=h;unfold Re at h' ⊢;rw[e1]at h';rw[W5]at h';obtain⟨p1,p2,p3⟩:=h';rw[W5]at p2;rw[e2];refine⟨W5.2 ⟨p1,Xi.2 ⟨hR,p2.2.1⟩,λa ha b hb=>?_⟩,λz=>?_⟩
 ·rcases Wf.1 hb with e | e
  ·rw[e];exact hT a ha
  ·exact p3 a ha b (by simp[e])
 ·by_cases hz:BC ltC z c=true
  ·rw[if_pos hz,Wi];have:T.filter (BC ltC z)=[]:=Hr λa ha=>by
    cases e:BC ltC z a with
    |false=>rfl
    |true=>have:=hT a ha;rw[I7]at e hz;rw[MS]at this;omega
   rw[this,List.nil_append,Wm,if_pos hz];rfl
  ·rw[if_neg hz,e1,Wi,Wi,Wi,Wm,if_neg hz];have:D.filter (BC ltC z)=[]:=Hr λa ha=>by
    cases e:BC ltC z a with
    |false=>rfl
    |true=>have:=hD a ha;rw[I7]at e this;exact absurd (I7.2 (by omega)) hz
   rw[this,List.nil_append]
theorem RH {l:List Cl}(h:Re l)(z:Cl):z∈l↔(l.filter (BC ltC z)).head? = some z:=by
 constructor
 ·intro hz;obtain⟨A,B,rfl⟩:=List.append_of_mem hz;unfold Re at h;rw[W5]at h;have:A.filter (BC ltC z)=[]:=Hr λa ha=>by
   cases e:BC ltC z a with
   |false=>rfl
   |true=>have:=h.2.2 a ha z (by simp);rw[I7]at e;rw[MS]at this;omega
  rw[Wi,this,List.nil_append,Wm,if_pos (OF JQ z)];rfl
 ·intro hz;exact (W6.1 (List.mem_of_mem_head? hz)).1
theorem LU:∀(l out:List Cl),Re out->Re (l.foldl CY out)/\∀z,z∈l.foldl CY out↔((l.reverse++out).filter (BC ltC z)).head? = some z
 |[],out,h=>⟨h,λz=>RH h z⟩
 |c::l,out,h=>by
  obtain⟨s1,s2⟩:=Vak c h;obtain⟨i1,i2⟩:=LU l (CY out c) s1;refine⟨i1,λz=>?_⟩;rw[List.foldl_cons,i2 z,XL,Vu,Wi,Wi];have hz:=s2 z;have key:((CY out c).filter (BC ltC z)).head? = (([c]++out).filter (BC ltC z)).head? := by
   by_cases hc:BC ltC z c=true
   ·rw[if_pos hc]at hz;rw[hz,List.singleton_append,Wm,if_pos hc];rfl
   ·rw[if_neg hc]at hz;rw[hz,List.singleton_append,Wm,if_neg hc]
  rw[List.head?_append,List.head?_append,key]
theorem Vmc {l S:List Cl}(h:Ev ltC S)(hst:Fo ltC l.reverse S):cpL ltC S=FG l:=by obtain⟨c1,c2⟩:=Vof JQ h;obtain⟨f1,f2⟩:=LU l [] List.Pairwise.nil;refine RG JQ _ _ c1 f1 λz=>?_;rw[c2 z,<-hst z];show _↔z∈l.foldl CY [];rw[f2 z,VF]
section
variable {p g i j n:Nat}{l l':List Cl}{H:Aa}
def CX (H:Aa)(p g:Nat)(l:List Cl):Prop:=H[p]? = some (.buf g (flat cCl l) B9 5)
def BJ (H:Aa)(p g:Nat)(l:List Cl):Aa:=H.set p (.buf g (flat cCl l) B9 5)
abbrev dV (p g n:Nat):Ab:=.ms p g 0 n n 5 false
theorem VeK (h:CX H p g l):A6 H p g=some (flat cCl l):=by unfold CX at h;simp[A6,h]
theorem C3 (h:CX H p g l)(hi:i<l.length):Ad true 5 (.ptr p g (i*5)) H=some (.agg (cCl l[i])):=by simp only[Ad,VeK h,zXa,if_true,Kq hi,Ru hi]
theorem VeJ (h:CX H p g l)(hi:i<l.length)(a:Cl):Ai 5 (.ptr p g (i*5)) (.agg (cCl a)) H=some (BJ H p g (l.set i a)):=by
 have hs:F0 H p g (flat cCl (l.set i a))=BJ H p g (l.set i a):=by have h':=h;unfold CX at h';unfold F0 BJ;rw[h']
 simp only[Ai,VeK h,zXa,Nl,show (cCl a).length=5 from rfl,Kq hi,and_self,if_true,SL hi,hs]
theorem De (h:CX H p g l):CX (BJ H p g l') p g l':=by have:p<H.length:=(Vn.1 h).1;unfold CX BJ;rw[V0 this]
theorem B4:BJ (BJ H p g l) p g l'=BJ H p g l':=by unfold BJ;rw[XT]
theorem CE (h:CX H p g l):BJ H p g l=H:=by
 unfold CX at h;unfold BJ;apply WP;intro i;rw[Yl];split
 ·rename_i e;subst e;rw[h];rw[if_pos (Vn.1 h).1]
 ·rfl
theorem BT (h:i<n):Aw 5 (dV p g n) (.i6 (i:Int))=some (.ptr p g (i*5)):=by rw[CK h,Vr]
theorem VjA (hi:i<l.length)(hj:j<l.length):swp l i j=(l.set i l[j]).set j l[i]:=by unfold swp;rw[Vl hi,Vl hj]
theorem Vew {c:Cl}(h:c∈swp l i j):c∈l:=by
 unfold swp at h;split at h
 ·rename_i a b ha hb;rcases XH h with h | h
  ·rcases XH h with h | h
   ·exact h
   ·rw[h];exact VE hb
  ·rw[h];exact VE ha
 ·exact h
theorem RT (h:CX H p g l)(hi:i<l.length)(hj:j<l.length):Ai 5 (.ptr p g (i*5)) (.agg (cCl l[j])) H=some (BJ H p g (l.set i l[j]))/\Ai 5 (.ptr p g (j*5)) (.agg (cCl l[i])) (BJ H p g (l.set i l[j]))=some (BJ H p g (swp l i j)):=by refine⟨VeJ h hi _,?_⟩;rw[VeJ (De h) (by rw[zYa];exact hj),B4,VjA hi hj]

end
def Tz (orc:Orc)(f:Ab)(l:List Cl):Prop:=∀c∈l,∀d∈l,∀H,DI orc f [.agg (cCl c),.agg (cCl d)] H=some (.ret (.i6 (ND c d)),H)
theorem Vc8 (a:Nat){c:Cl}:∀(j:Nat) (l:List Cl),c∈Kj ltC a j l->c∈l
 |0,l,h=>h
 |j+1,l,h=>by
  unfold Kj at h;split at h
  ·exact Vew (Vc8 a j _ h)
  ·exact h
theorem Vc5 (a:Nat){c:Cl}:∀(k:Nat) (l:List Cl),c∈QW ltC a k l->c∈l
 |0,l,h=>h
 |k+1,l,h=>Vc5 a k l (Vc8 a _ _ h)
theorem Ku (c d:Cl):decide (ND c d<0)=ltC c d:=rfl
section
variable {p g a b:Nat}{f:Ab}
theorem VnS {l0:List Cl}{i:Nat}(hf:Tz A7 f l0)(B:Aa)(rec1:LK){l:List Cl}{H:Aa}(h:CX H p g l)(hm:∀c∈l,c∈l0)(hi:i<l.length)(hl:l.length<1000000000) :
  Am (λaA vs H1=>Uca B rec1 aA (ag vs 0) (ag vs 1) (ag vs 2) (ag vs 3) (ag vs 4) (ag vs 5) H1) AP [dV p g l.length,.i6 (a:Int),.i6 (b:Int),f,.i6 (i:Int),.i6 (i:Int)] H =
   rec1 [dV p g l.length,.i6 (a:Int),.i6 (b:Int),f,.i6 ((i+1:Nat):Int)] (BJ H p g (Kj ltC a i l)):=by
 have key:=Br (G:=λaA vs H1=>Uca B rec1 aA (ag vs 0) (ag vs 1) (ag vs 2) (ag vs 3) (ag vs 4) (ag vs 5) H1) (σ:=Nat×List Cl) (λs=>s.1<l.length/\s.2.length=l.length/\∀c∈s.2,c∈l0)
  (λs=>[dV p g l.length,.i6 (a:Int),.i6 (b:Int),f,.i6 (i:Int),.i6 (s.1:Int)]) (λs=>BJ H p g s.2) (λs=>s.1)
  (λs=>rec1 [dV p g l.length,.i6 (a:Int),.i6 (b:Int),f,.i6 ((i+1:Nat):Int)] (BJ H p g (Kj ltC a s.1 s.2))) (λs aA hs hrec=>?_) (i,l) ⟨hi,rfl,hm⟩ (by dsimp only;omega)
 ·rw[CE h]at key;exact key
 ·obtain⟨j,L⟩:=s;obtain⟨h1,h2,h3⟩:=hs;dsimp only at h1 h2 h3 hrec ⊢;have hr:CX (BJ H p g L) p g L:=De h;have bV:=Av (show i<9223372036854775807 by omega);unfold Uca;by_cases xP:a<j
  ·obtain⟨k,rfl⟩:∃k,j=k+1:=⟨j-1,by omega⟩;have hg:decide (((k+1:Nat):Int)>(a:Int))=true:=zXc (by omega);have hw:IntKind.i64.wrap (((k+1:Nat):Int)-1)=(k:Int):=by rw[An] <;> omega
   have hk1:k+1<L.length:=by omega
   have hk:k<L.length:=by omega
   have c1:=hf L[k+1] (h3 _ (Vz hk1)) L[k] (h3 _ (Vz hk));obtain⟨s1,s2⟩:=RT hr hk1 hk;rw[B4]at s1 s2;rw[B4]at s2;have hlt:Iv ltC L (k+1) k=ltC L[k+1] L[k]:=Rq hk1 hk;simp only[Al,Aj,AZ,Bd,Bx,BI,D4,GMw,hg,BT h1,BT (show k<l.length by omega),C3 hr hk1,C3 hr hk,Bm,c1,B5,hw,Ku];cases hc:ltC L[k+1] L[k]with
   |true=>
    have dY:Kj ltC a (k+1) L=Kj ltC a k (swp L (k+1) k):=by
     conv=>lhs;unfold Kj
     rw[hlt,hc,if_pos ⟨xP,rfl⟩]
    simp only[GMw,C3 hr hk1,C3 hr hk,Bm,BT h1,BT (show k<l.length by omega),s1,s2,B4,hw];have lW:=hrec (k,swp L (k+1) k) ⟨by omega,by rw[MH];exact h2,λc hc=>h3 c (Vew hc)⟩ (Yp _);dsimp only at lW;rw[lW,dY]
   |false=>
    have dY:Kj ltC a (k+1) L=L:=by unfold Kj;rw[hlt,hc,if_neg (λh=>by cases h.2)]
    simp only[GMw,bV];rw[dY]
  ·have hg:decide ((j:Int)>(a:Int))=false:=zXd (by omega);have dY:Kj ltC a j L=L:=by
    cases j with
    |zero=>rfl
    |succ k=>unfold Kj;rw[if_neg (λh=>xP h.1)]
   simp only[Al,Aj,AZ,Bd,Bx,BI,D4,GMw,hg,bV];rw[dY]
theorem ViA {l0:List Cl}(hf:Tz A7 f l0){l:List Cl}{H:Aa}(h:CX H p g l)(hm:∀c∈l,c∈l0)(hab:a<=b)(hb:b<=l.length)(hl:l.length<1000000000) :
  Ue7 (dV p g l.length) (.i6 (a:Int)) (.i6 (b:Int)) f H=some (.ret (.tup []),BJ H p g (QW ltC a (b-a-1) l)):=by
 have yT:=Av (show a<9223372036854775807 by omega);unfold Ue7;simp only[GMw,yT];have key:=Br (G:=λrec1 vs H1=>Ucb H rec1 (ag vs 0) (ag vs 1) (ag vs 2) (ag vs 3) (ag vs 4) H1) (σ:=Nat) (λk=>k<=b-a-1)
  (λk=>[dV p g l.length,.i6 (a:Int),.i6 (b:Int),f,.i6 ((a+1+k:Nat):Int)]) (λk=>BJ H p g (QW ltC a k l)) (λk=>b-a-1-k)
  (λ_=>some (.ret (.tup []),BJ H p g (QW ltC a (b-a-1) l))) (λk rec hk hrec=>?_) 0 (VL _) (by omega)
 ·rw[show QW ltC a 0 l=l from rfl,CE h]at key;exact key
 ·unfold Ucb;have hr:CX (BJ H p g (QW ltC a k l)) p g (QW ltC a k l):=De h;have bB:=Vc6 (lt:=ltC) a k l;by_cases hlt:a+1+k<b
  ·have hd:decide (((a+1+k:Nat):Int)<(b:Int))=true:=zXc (by omega);have h2:=VnS (a:=a) (b:=b) (i:=a+1+k) hf H rec hr (λc hc=>hm c (Vc5 a k l hc)) (by omega) (by omega);rw[bB,B4]at h2;simp only[Al,Aj,AZ,Bd,Bx,BI,GMw,hd];rw[h2];exact hrec (k+1) (by omega) (by omega)
  ·have hd:decide (((a+1+k:Nat):Int)<(b:Int))=false:=zXd (by omega);have e:k=b-a-1:=by omega
   simp only[Al,Aj,AZ,Bd,Bx,BI,GMw,hd];rw[<-e]
theorem Vdy {l:List Cl}{n:Nat}{H:Aa}(h:CX H p g l)(ha:a+n<=l.length)(hb:b+n<=l.length)(hl:l.length<1000000000) :
  Uay (dV p g l.length) (.i6 (a:Int)) (.i6 (b:Int)) (.i6 (n:Int)) f H=some (.ret (.tup []),BJ H p g (swR a b n l)):=by
 unfold Uay;have key:=CA (G:=λrec1 vs H1=>Ucc H rec1 (ag vs 0) (ag vs 1) (ag vs 2) (ag vs 3) (ag vs 4) H1) n
  (λk=>[dV p g l.length,.i6 (a:Int),.i6 (b:Int),.i6 (n:Int),.i6 (k:Int)]) (λk=>BJ H p g (swR a b k l)) (some (.ret (.tup []),BJ H p g (swR a b n l))) (by omega) (λrec k hk=>?_) (λrec=>?_)
 ·rw[show swR a b 0 l=l from rfl,CE h]at key;exact key
 ·unfold Ucc;have hr:CX (BJ H p g (swR a b k l)) p g (swR a b k l):=De h;have bB:=Rk a b k l;have hd:decide ((k:Int)<(n:Int))=true:=zXc (by omega);have gF:=Av (show k<9223372036854775807 by omega);have cD:IntKind.i64.wrap ((a:Int)+(k:Int))=((a+k:Nat):Int):=by rw[An] <;> omega
  have bZ:IntKind.i64.wrap ((b:Int)+(k:Int))=((b+k:Nat):Int):=by rw[An] <;> omega
  have i1:a+k<(swR a b k l).length:=by omega
  have i2:b+k<(swR a b k l).length:=by omega
  obtain⟨s1,s2⟩:=RT hr i1 i2;rw[B4]at s1 s2;rw[B4]at s2;simp only[Al,Aj,AZ,Bd,Bx,BI,GMw,hd,cD,bZ,BT (show a+k<l.length by omega),BT (show b+k<l.length by omega),C3 hr i1,C3 hr i2,Bm,s1,s2,B5,AJ,gF]
  rfl
 ·unfold Ucc;have hd:decide ((n:Int)<(n:Int))=false:=zXd (by omega);simp only[Al,Aj,AZ,Bd,Bx,BI,GMw,hd]
theorem VeL {A B U V:List Cl}{m:Nat}{H:Aa}(h:CX H p g (A++(U++(V++B))))(ha:a=A.length)(hm:m=a+U.length)(hb:b=m+V.length)(hU:0<U.length)(hV:0<V.length)(hl:(A++(U++(V++B))).length<1000000000) :
  UaU (dV p g (A++(U++(V++B))).length) (.i6 (a:Int)) (.i6 (m:Int)) (.i6 (b:Int)) f H=some (.ret (.tup []),BJ H p g (A++((V++U)++B))):=by
 obtain⟨l,hL⟩:∃l,l=A++(U++(V++B)):=⟨_,rfl⟩;have hst:NS A B (V++U) m U.length V.length l:=by rw[hL,hm,ha];exact NS.start hU hV
 rw[<-hL]at h hl ⊢;have hlen:=hst.len;have cD:IntKind.i64.wrap ((m:Int)-(a:Int))=(U.length:Int):=by rw[An] <;> omega
 have bZ:IntKind.i64.wrap ((b:Int)-(m:Int))=(V.length:Int):=by rw[An] <;> omega
 unfold UaU;simp only[GMw,cD,bZ];have key:=Br (G:=λrec1 vs H1=>Ud7 H rec1 (ag vs 0) (ag vs 1) (ag vs 2) (ag vs 3) (ag vs 4) H1) (σ:=(Nat×Nat)×List Cl) (λs=>NS A B (V++U) m s.1.1 s.1.2 s.2/\s.2.length=l.length)
  (λs=>[dV p g l.length,.i6 (m:Int),f,.i6 (s.1.1:Int),.i6 (s.1.2:Int)]) (λs=>BJ H p g s.2) (λs=>s.1.1+s.1.2)
  (λ_=>some (.ret (.tup []),BJ H p g (A++((V++U)++B)))) (λs rec hs hrec=>?_) ((U.length,V.length),l) ⟨hst,rfl⟩ (by dsimp only;omega)
 ·rw[CE h]at key;exact key
 ·obtain⟨⟨i,j⟩,L⟩:=s;obtain⟨h1,h2⟩:=hs;dsimp only at h1 h2 hrec ⊢;have hr:CX (BJ H p g L) p g L:=De h;obtain⟨q1,q2⟩:=h1.len;obtain⟨p1,p2⟩:=h1.pos;have sG:=λ(x y n:Nat) (h3:x+n<=L.length) (h4:y+n<=L.length)=>Vdy (f:=f) (a:=x) (b:=y) (n:=n) hr h3 h4 (by omega);rw[h2]at sG;have cT:IntKind.i64.wrap ((m:Int)-(i:Int))=((m-i:Nat):Int):=by rw[An] <;> omega
  unfold Ud7;by_cases hij:i=j
  ·subst hij;have hd:((i:Int) != (i:Int))=false:=by simp
   simp only[Al,Aj,AZ,Bd,Bx,BI,GMw,hd,cT,sG (m-i) m i (by omega) (by omega),B4];rw[h1.eq]
  ·have hd:((i:Int) != (j:Int))=true:=by simp;omega
   by_cases hgt:j<i
   ·have bU:decide ((i:Int)>(j:Int))=true:=zXc (by omega);have bV:IntKind.i64.wrap ((i:Int)-(j:Int))=((i-j:Nat):Int):=by rw[An] <;> omega
    simp only[Al,Aj,AZ,Bd,Bx,BI,GMw,hd,bU,cT,bV,sG (m-i) m j (by omega) (by omega),B4];exact hrec ((i-j,j),swR (m-i) m j L) ⟨h1.hi hgt,by rw[Rk];exact h2⟩ (by dsimp only;omega)
   ·have bU:decide ((i:Int)>(j:Int))=false:=zXd (by omega);have bV:IntKind.i64.wrap ((j:Int)-(i:Int))=((j-i:Nat):Int):=by rw[An] <;> omega
    have sF:IntKind.i64.wrap ((m:Int)+(j:Int))=((m+j:Nat):Int):=by rw[An] <;> omega
    have gF:IntKind.i64.wrap (((m+j:Nat):Int)-(i:Int))=((m+j-i:Nat):Int):=by rw[An] <;> omega
    simp only[Al,Aj,AZ,Bd,Bx,BI,GMw,hd,bU,cT,bV,sF,gF,sG (m-i) (m+j-i) i (by omega) (by omega),B4];exact hrec ((i,j-i),swR (m-i) (m+j-i) i L) ⟨h1.lo (by omega),by rw[Rk];exact h2⟩ (by dsimp only;omega)

end
def VpE (v:Ab)(H:Aa)(l:zAb):Prop:=A5 v=some (.i6 (l.length:Int))/\∀(i:Nat) (h:i<l.length),∃p,Aw 1 v (.i6 (i:Int))=some p/\∀G,Ad false 1 p (H++G)=some (.int .u32 (l[i]:Int))
theorem Vns {l:zAb}{H:Aa}{id:Nat}(hg:H[id]? = some (.cel 0 (flat cU l))):VpE (.ms id 0 0 l.length l.length 1 true) H l:=by refine⟨rfl,λi h=>?_⟩;have hidx:=CK (sz:=1) (id:=id) (n:=l.length) (K:=.i64) (g:=0) (off:=0) (cap:=l.length) (ex:=true) (i:=i) h;simp only[Vr,V4]at hidx;exact⟨_,hidx,λG=>Bz (HR (f:=cU) (As hg) h)⟩
theorem Vfk {v:Ab}{H:Aa}{l:zAb}(hv:VpE v H l)(hl:l.length<=2199023255552)(hx:Lim l):Ucz v H=some (.ret (.sl (enL cB (Dy (AO l))) .no),H):=by
 unfold Ucz;refine CA l.length (λi=>[v,Fq cB H (AO (l.take i)),.i6 (i:Int)]) (λi=>ED cB BW 1 H (AO (l.take i))) _ (by omega) (λrec i hi=>?_) (λrec=>?_)
 ·have aE:(i:Int)<(l.length:Int):=by omega
  have aH:l[i]<4294967296:=hx _ (Vz hi);have htk:AO (l.take (i+1))=AO (l.take i)++D3 32 l[i]:=by rw[Vw hi,AO,List.flatMap_append];simp[AO]
  have hlen:(AO (l.take i)).length<=32*2199023255552:=by rw[Cp];simp;omega
  obtain⟨p,pT,zR⟩:=hv.2 i hi;obtain⟨G,hG⟩:=JY (f:=cB) (ty:=BW) (sz:=1) H (AO (l.take i));have hld:Ad false 1 p (ED cB BW 1 H (AO (l.take i)))=some (.int .u32 (l[i]:Int)):=by rw[hG];exact zR G
  unfold Ubo;simp only[Al,AZ,Bd,hv.1,BB,Bh,aE,decide_true,AU,pT,hld,htk];generalize AO (l.take i)=o at hlen;generalize l[i]=x at aH;refine Br (σ:=Nat×Nat×List Bool) (λs=>s.1<=32/\s.2.1<4294967296/\s.2.2.length<=o.length+s.1) (λs=>[v,Fq cB H s.2.2,.i6 (i:Int),.int .u32 (s.2.1:Int),.i6 (s.1:Int)]) (λs=>ED cB BW 1 H s.2.2) (λs=>32-s.1)
   (λs=>rec [v,Fq cB H (s.2.2++D3 (32-s.1) s.2.1),.i6 ((i+1:Nat):Int)] (ED cB BW 1 H (s.2.2++D3 (32-s.1) s.2.1))) (λs aA hs hrec=>?_) (0,x,o) ⟨by dsimp only;omega,aH,by dsimp only;omega⟩ (by dsimp only;omega)
  obtain⟨k,y,p⟩:=s;obtain⟨hk,hy,hp⟩:=hs;simp only at hk hy hp hrec ⊢;unfold UdK;by_cases h:k<32
  ·have h':(k:Int)<32:=by omega
   have e1:(y:Int).tmod 2=((y%2:Nat):Int):=rfl;have e2:IntKind.u32.wrap ((y:Int).tdiv 2)=((y / 2:Nat):Int):=by rw[show (y:Int).tdiv 2=((y / 2:Nat):Int) from rfl,Dj] <;> omega
   have e3:decide (((y%2:Nat):Int)=1)=(y%2 == 1):=by rw[V8];simp only[beq_iff_eq,zXe];omega
   have e4:IntKind.i64.wrap ((k:Int)+1)=((k+1:Nat):Int):=by rw[An] <;> omega
   have:=hrec (k+1,y / 2,p++[y%2 == 1]) ⟨h,by dsimp only;omega,by simp;omega⟩ (by dsimp only;omega);simp only[Al,AZ,Bd,Bx,BI,Bh,h',decide_true,BB,AU,Jc (show (2:Int)≠0 by decide),OX (show (2:Int)≠0 by decide),e1,e2,Dv,Fm,e3,R2];rw[Hb (by simp) (by simp;omega) (by simp;omega)];simp only[Dk,CD,CC,BB,e4,this];rw[show 32-k=(32-(k+1))+1 from by omega,D3];simp
  ·have:k=32:=by omega
   subst this;have e4:IntKind.i64.wrap ((i:Int)+1)=((i+1:Nat):Int):=by rw[An] <;> omega
   simp[D3,e4]
 ·unfold Ubo;obtain⟨G,hG⟩:=JY (f:=cB) (ty:=BW) (sz:=1) H (AO l);rw[Vy (Vo _)];simp only[Al,AZ,Bd,HO,hG,hv.1,BB,Bh,Wb,decide_false,AI,VaN (AO l) _ _ (by rw[Cp];omega),CD,CT,HU,zXb]
theorem Vfj {v:Ab}{H:Aa}{l:zAb}(hv:VpE v H l)(hl:l.length<=1099511627776)(hx:Lim l):Ual v H=some (.ret (.sl (enL cU (A4 (val l))) .no),H):=by have hc:=HY (AO l);rw[Cp]at hc;unfold Ual;rw[Vfk hv (by omega) hx];simp only[Fd];rw[Sg _ _ _ (by omega)];simp only[Fd,Ef,UU,E4,EJ l hx]
theorem R7 (a:Nat)(l:zAb):val (a::l)=a+4294967296*val l:=rfl
theorem Vjf {m a v:Nat}(hm:0<m):(a+4294967296*v) / m=(v%m*4294967296+a) / m+4294967296*(v / m)/\(a+4294967296*v)%m=(v%m*4294967296+a)%m:=by
 have h:=Xb v m;have e:a+4294967296*v=(v%m*4294967296+a)+m*(4294967296*(v / m)):=by
  conv=>lhs;rw[<-h]
  rw[W4,Nat.mul_left_comm];omega
 rw[e,Yb _ _ hm,Nat.add_mul_mod_self_left];exact⟨rfl,rfl⟩
theorem Vnw {m a r:Nat}(hr:r<m)(ha:a<4294967296):(r*4294967296+a) / m<4294967296:=by rw[WG (by omega)];have:(r+1)*4294967296<=m*4294967296:=VV _ hr;omega
theorem VkW (l:zAb)(tk:Tok)(m:Nat)(H:Aa)(hl:l.length<=1099511627776)(hx:Lim l)(hm0:0<m)(hm:m<4294967296) :
  Udb (.sl (enL cU l) tk) (.int .u32 (m:Int)) H=some (.ret (.tup [.sl (enL cU (A4 (val l / m))) .no,.int .u32 ((val l%m:Nat):Int)]),H):=by
 unfold Udb;have qF:¬(m:Int)=0:=by omega
 have dB:=FZ (f:=cU) (a:=0) (n:=l.length) (bytes:=4) (H:=H) (by omega) (by omega);simp only[show cU 0=[Ab.int .u32 0] from rfl]at dB;have oS:∀n:Int,AC .u64 (.int .u32 (m:Int))=some (.int .u64 (m:Int)):=λ_=>by rw[Bo,Ch (by omega) (by omega)]
 simp only[GMw,qF,Ax,dB];have hw0:IntKind.i64.wrap ((l.length:Int)-1)=(l.length:Int)-1:=An (by omega) (by omega);rw[hw0];have key:=Br (G:=λrec1 vs H1=>UdO H rec1 (ag vs 0) (ag vs 1) (ag vs 2) (ag vs 3) (ag vs 4) H1) (σ:=Nat×zAb) (λs=>s.1<=l.length/\s.2.length=l.length/\Lim s.2/\val (s.2.drop s.1)=val (l.drop s.1) / m)
  (λs=>[.sl (enL cU l) tk,.int .u32 (m:Int),.ms H.length 0 0 l.length l.length 1 true,.int .u64 ((val (l.drop s.1)%m:Nat):Int),.i6 ((s.1:Int)-1)]) (λs=>H++[.cel 0 (flat cU s.2)]) (λs=>s.1)
  (λ_=>some (.ret (.tup [.sl (enL cU (A4 (val l / m))) .no,.int .u32 ((val l%m:Nat):Int)]),H)) (λs rec hs hrec=>?_) (l.length,List.replicate l.length 0) ⟨Vo _,by simp,λx hx=>by have:=(XE.1 hx).2;omega,by simp[val]⟩ (by dsimp only;omega)
 ·simp only[Yr,show val []=0 from rfl,Nat.zero_mod]at key;exact key
 ·obtain⟨k,O⟩:=s;obtain⟨h1,h2,h3,h4⟩:=hs;simp only at h1 h2 h3 h4 hrec ⊢;unfold UdO;cases k with
  |zero=>
   have hrow:=Vns (l:=O) (H:=H++[Blk.cel 0 (flat cU O)]) (id:=H.length) Ap;rw[h2]at hrow;have hn:=Vfj hrow (by omega) h3;have hv:val O=val l / m:=by simpa using h4
   have hlt:val l%m<m:=WJ _ hm0;have hcv:AC .u32 (.int .u64 ((val l%m:Nat):Int))=some (.int .u32 ((val l%m:Nat):Int)):=by rw[Bo,Dj (by omega) (by omega)]
   simp only[GMw,Aj,show ¬(((0:Nat):Int)-1>=0) from by decide,hn,WC,hcv,hv,CT,Dn,BY,Cv,O9,EC,zXb]
  |succ j=>
   have hj:j<l.length:=h1;have hi:((j+1:Nat):Int)-1=(j:Int):=by omega
   have ha:=hx _ (Vz hj);have hd:l.drop j=l[j]::l.drop (j+1):=VJ hj;have hr:val (l.drop (j+1))%m<m:=WJ _ hm0;obtain⟨s1,s2⟩:=Vjf (m:=m) (a:=l[j]) (v:=val (l.drop (j+1))) hm0;have hq:=Vnw (m:=m) (a:=l[j]) (r:=val (l.drop (j+1))%m) hr ha;have gJ:val (l.drop (j+1))%m*4294967296<=4294967295*4294967296:=VV _ (by omega);generalize gZ:val (l.drop (j+1))%m=r at *;have w1:IntKind.u64.wrap ((r:Int)*4294967296)=((r*4294967296:Nat):Int):=by rw[Ch] <;> omega
   have w2:AC .u64 (.int .u32 (l[j]:Int))=some (.int .u64 (l[j]:Int)):=by rw[Bo,Ch (by omega) (by omega)]
   have w3:IntKind.u64.wrap (((r*4294967296:Nat):Int)+(l[j]:Int))=((r*4294967296+l[j]:Nat):Int):=by rw[Ch] <;> omega
   have w4:IntKind.u64.wrap (((r*4294967296+l[j]:Nat):Int).tdiv (m:Int))=(((r*4294967296+l[j]) / m:Nat):Int):=by rw[show (((r*4294967296+l[j]:Nat):Int).tdiv (m:Int))=(((r*4294967296+l[j]) / m:Nat):Int) from rfl,Ch (WB _) (Int.lt_of_lt_of_le (Int.ofNat_lt.2 hq) (by decide))]
   have w5:AC .u32 (.int .u64 (((r*4294967296+l[j]) / m:Nat):Int))=some (.int .u32 (((r*4294967296+l[j]) / m:Nat):Int)):=by rw[Bo,Dj (WB _) (Int.ofNat_lt.2 hq)]
   have w6:(((r*4294967296+l[j]:Nat):Int).tmod (m:Int))=(((r*4294967296+l[j])%m:Nat):Int):=rfl;have w7:IntKind.i64.wrap ((j:Int)-1)=(j:Int)-1:=An (by omega) (by omega);have hidx:=CK (sz:=1) (id:=H.length) (n:=l.length) (K:=.i64) (g:=0) (off:=0) (cap:=l.length) (ex:=true) (i:=j) hj;simp only[Vr,V4]at hidx;have hst:=DR (f:=cU) (sz:=1) (l:=O) (i:=j) (a:=(r*4294967296+l[j]) / m) (v:=.int .u32 (((r*4294967296+l[j]) / m:Nat):Int)) (H:=H++[Blk.cel 0 (flat cU O)]) (id:=H.length) (As Ap) (by omega) rfl;rw[V4,B6 Ap,Bt]at hst;have hge:((j:Int)>=0):=by omega
   have xE:(m:Int)≠0:=qF;have:=hrec (j,O.set j ((r*4294967296+l[j]) / m)) ⟨by omega,by simp[h2],λx kA=>by
     rcases XH kA with h | h
     ·exact h3 x h
     ·rw[h];exact hq,by
     dsimp only;rw[hd,R7,s1,List.drop_set,if_neg (by omega),VZ,VJ (by omega:j<O.length),List.set_cons_zero,R7,h4]⟩ (by dsimp only;omega)
   dsimp only at this;rw[hd,R7,s2]at this;rw[hi];simp only[GMw,Aj,hge,w1,Az hj,A0,zXh,w2,w3,oS 0,OX xE,w4,w5,hidx,hst,and_true,eq_self,Jc xE,w6,w7];exact this
def Di (n:Nat):zAa:=if h:n<10 then [UInt8.ofNat (48+n)]else Di (n / 10)++[UInt8.ofNat (48+n%10)]
termination_by n
decreasing_by omega
def DE (z:Int):zAa:=if z<0 then 45::Di z.natAbs else Di z.natAbs
theorem VcY:∀(k n:Nat),n<10^(k+1)->(Di n).length<=k+1:=by
 intro k
 induction k with
 |zero=>intro n h;unfold Di;rw[dif_pos (by omega)];simp
 |succ k ih=>
  intro n h;unfold Di;split
  ·simp
  ·have h2:n / 10<10^(k+1):=by rw[WG (by omega),<-Nat.pow_succ];exact h
   have:=ih (n / 10) h2;simp;omega
theorem Nf (k n:Nat)(h:n<10^k):(Di n).length<=k+(if k=0 then 1 else 0):=by
 cases k with
 |zero=>have:=VcY 0 n (by omega);simpa using this
 |succ k=>have:=VcY k n h;simpa using this
theorem Vji {d:Nat}(h:d<10):AC .u8 (.int .u32 (IntKind.u32.wrap (48+(d:Int))))=some (.int .u8 ((UInt8.ofNat (48+d)).toNat:Int)):=by
 rw[Bo,Dj (by omega) (by omega),FE (by omega) (by omega),Xf (show 48+d<256 by omega)]
 rfl
theorem Vih (k:Nat):10^k<=4294967296^k:=Nat.pow_le_pow_left (by omega) k
theorem S7 {n:Nat}(h:n<10^4096):(A4 n).length<=4096:=EP (Wu h (Vih 4096))
theorem LD (z:Int)(H:Aa)(hz:z.natAbs<10^4096):UeH (big z) H=some (.ret (.str (DE z)),H):=by
 unfold UeH;have g0:Ad false 1 (.ptr H.length 0 0) (H++[Blk.cel 0 (AA z)])=some (.bool (decide (z<0))):=by simp only[Ad,As Ap,zXa];rfl
 have g1:Ad false 1 (.ptr H.length 0 1) (H++[Blk.cel 0 (AA z)])=some (.sl (enL cU (A4 z.natAbs)) .no):=by simp only[Ad,As Ap,zXa];rfl
 simp only[GMw,D0,Ae,Vr,g1];have lZ:∀n:Nat,n<10^4096->(Di n).length<=4096:=λn h=>Nf 4096 n h;have key:=Br (G:=λrec1 vs H1=>UdP H rec1 (ag vs 0) (ag vs 1) (ag vs 2) H1) (σ:=Nat×zAa) (λs=>s.1<10^4096/\s.2.length+(Di s.1).length<=5000)
  (λs=>[.ptr H.length 0 0,.str s.2,.sl (enL cU (A4 s.1)) .no]) (λ_=>H++[.cel 0 (AA z)]) (λs=>(Di s.1).length)
  (λs=>some (.ret (.str ((if z<0 then [45]else [])++Di s.1++s.2)),H)) (λs rec hs hrec=>?_) (z.natAbs,[]) ⟨hz,by have:=lZ _ hz;simp;omega⟩ (by have:=lZ _ hz;dsimp only;omega)
 ·refine key.trans ?_;unfold DE;dsimp only;split <;> simp
 ·obtain⟨n,s⟩:=s;obtain⟨h1,h2⟩:=hs;simp only at h1 h2 hrec ⊢;have rJ:=λH=>VkW (A4 n) .no 10 H (by have:=S7 h1;omega) (Bn n) (by omega) (by omega);simp only[B2,show ((10:Nat):Int)=10 from rfl]at rJ;have hd:n%10<10:=WJ _ (by omega);have vQ:=Vji hd;unfold UdP;simp only[GMw,Aj,rJ,Ce,Cg,vQ,VgY,Ph];rw[Cq (by simp;omega)];simp only[GMw,Ax];by_cases hn:n<10
  ·have h0:n / 10=0:=by omega
   have hm:n%10=n:=by omega
   have iQ:Di n=[UInt8.ofNat (48+n)]:=by unfold Di;rw[dif_pos hn]
   rw[iQ,h0,EA,hm];simp only[GMw,zXk,show ((0:Nat):Int)=0 from rfl,Ae,Nat.add_zero,g0];by_cases lL:z<0
   ·simp only[lL,GMw];rw[Cq (by simp;omega)];simp only[GMw,VeS];simp
   ·simp only[lL,GMw,VeS];simp
  ·have h0:n / 10≠0:=by omega
   have hne:¬((A4 (n / 10)).length:Int)=0:=by have:=Wd.2 (Oz h0);omega
   have iQ:Di n=Di (n / 10)++[UInt8.ofNat (48+n%10)]:=by
    conv=>lhs;unfold Di
    rw[dif_neg hn]
   have hlen:(Di n).length=(Di (n / 10)).length+1:=by rw[iQ];simp
   have:=hrec (n / 10,[UInt8.ofNat (48+n%10)]++s) ⟨Wv (Nat.div_le_self _ _) h1,by simp;omega⟩ (by dsimp only;omega);simp only[hne,GMw];rw[this,iQ];simp
def qa (v:Nat)(x:Int)(k:Nat):Int:=if k%2=1 then x+2^(v-1)else x
def qb (v:Nat)(y:Int)(k:Nat):Int:=if 1<k then y+2^(v-1)else y
def inQ (v:Nat)(a b:Int)(c:Cl):Bool:=decide (a<=c.x)&&decide (c.x<a+2^(v-1))&&decide (b<=c.y)&&decide (c.y<b+2^(v-1))
def Bu (v:Nat)(x y:Int)(k:Nat)(l:List Cl):List Cl:=l.filter (inQ v (qa v x k) (qb v y k))
def Gu:List Cl->Int
 |[]=>0
 |c::_=>(c.s.toNat:Int)
def plK (rec:List Nd->Int->Int->List Cl->List Nd×Nat)(v:Nat)(x y:Int)(l:List Cl):Nat->List Nd->List Nd×Nd
 |0,out=>(out,⟨v,0,0,0,0⟩)
 |k+1,out=>
  if v=1 then ((plK rec v x y l k out).1,(plK rec v x y l k out).2.setKid k (Gu (Bu v x y k l)))
  else ((rec (plK rec v x y l k out).1 (qa v x k) (qb v y k) (Bu v x y k l)).1,(plK rec v x y l k out).2.setKid k ((rec (plK rec v x y l k out).1 (qa v x k) (qb v y k) (Bu v x y k l)).2:Int))
def Bv:Nat->List Nd->Int->Int->List Cl->List Nd×Nat
 |0,out,_,_,_=>(out,0)
 |v+1,out,x,y,l=>if l=[]then (out,0)else ((plK (Bv v) (v+1) x y l 4 out).1++[(plK (Bv v) (v+1) x y l 4 out).2],(plK (Bv v) (v+1) x y l 4 out).1.length+1)
def Vkm (v:Nat)(x y:Int)(l:List Cl):Nat->Nat
 |0=>0
 |k+1=>Vkm v x y l k+(Bu v x y k l).length
theorem Vic (v:Nat):(0:Int)<2^(v-1):=Xo (by omega)
theorem VgK (v:Nat)(x y:Int):∀l:List Cl,Vkm v x y l 4<=l.length
 |[]=>by simp[Vkm,Bu]
 |c::l=>by
  have ih:=VgK v x y l;have qV:∀(p:Bool) (m:List Cl),(if p=true then c::m else m).length=(if p=true then 1 else 0)+m.length:=λp m=>by cases p <;> simp <;> omega
  simp only[Vkm,Bu,Wm,qa,qb,qV]at ih ⊢;simp only[show (0:Nat)%2=0 from rfl,show (1:Nat)%2=1 from rfl,show (2:Nat)%2=0 from rfl,show (3:Nat)%2=1 from rfl,show ¬(1:Nat)<0 from by omega,show ¬(1:Nat)<1 from by omega,show (1:Nat)<2 from by omega,show (1:Nat)<3 from by omega,if_true,if_false,show ¬(0:Nat)=1 from by omega]at ih ⊢;have key:(if inQ v x y c then 1 else 0)+(if inQ v (x+2^(v-1)) y c then 1 else 0)+(if inQ v x (y+2^(v-1)) c then 1 else 0)+(if inQ v (x+2^(v-1)) (y+2^(v-1)) c then 1 else 0)<=1:=by unfold inQ;have hp:=Vic v;generalize (2:Int)^(v-1)=h at hp;simp only[Vx,zXe];split <;> split <;> split <;> split <;> first | omega | (exfalso;omega)
  simp only[zXj];omega
mutual
theorem U7:∀(v:Nat) (out:List Nd) (x y:Int) (l:List Cl),(Bv v out x y l).1.length<=out.length+l.length*v
 |0,out,x,y,l=>by simp[Bv]
 |v+1,out,x,y,l=>by
  unfold Bv;split
  ·simp
  ·rename_i hl;have h:=Vfu v out x y l 4 (Vo _);have hc:=VgK (v+1) x y l;have hpos:0<l.length:=Wd.2 hl;have:Vkm (v+1) x y l 4*v<=l.length*v:=VV _ hc;have e:l.length*(v+1)=l.length*v+l.length:=Nat.mul_succ _ _;simp only[Vs,zXi];omega
theorem Vfu:∀(v:Nat) (out:List Nd) (x y:Int) (l:List Cl) (k:Nat),k<=4->(plK (Bv v) (v+1) x y l k out).1.length<=out.length+Vkm (v+1) x y l k*v
 |v,out,x,y,l,0,_=>by simp[plK,Vkm]
 |v,out,x,y,l,k+1,h=>by
  have ih:=Vfu v out x y l k (by omega);unfold plK Vkm;rw[We];split
  ·dsimp only;omega
  ·have:=U7 v (plK (Bv v) (v+1) x y l k out).1 (qa (v+1) x k) (qb (v+1) y k) (Bu (v+1) x y k l);dsimp only;omega

end
def PS (b:Nat)(out:List Nd)(v:Ab)(H:Aa):Prop:=(out=[]/\v=.sl [] .ti)\/∃t,b<=t/\v=.sl (enL cNd out) (.own t)/\H[t]? = some (.tok out.length AY 5)
structure Kp (b:Nat)(H H':Aa):Prop where
 len:H.length<=H'.length
 cel:∀(i:Nat) (cs:List Ab),H[i]? = some (.cel 0 cs)->H'[i]? = some (.cel 0 cs)
 old:∀i,i<b->H'[i]? = H[i]?
theorem Kp.refl (b:Nat)(H:Aa):Kp b H H:=⟨Vo _,λ_ _ h=>h,λ_ _=>rfl⟩
theorem Kp.trans {b:Nat}{H H1 H2:Aa}(h:Kp b H H1)(h':Kp b H1 H2):Kp b H H2:=
 ⟨VM h.len h'.len,λi cs hc=>h'.cel i cs (h.cel i cs hc),λi hi=>(h'.old i hi).trans (h.old i hi)⟩
theorem Kp.app {b:Nat}{H:Aa}(hb:b<=H.length)(G:Aa):Kp b H (H++G):=
 ⟨by simp,λi cs h=>AK h,λi hi=>by rw[Vp (by omega)]⟩
theorem PS.sl {b:Nat}{out:List Nd}{v:Ab}{H:Aa}(h:PS b out v H):∃tk,v=.sl (enL cNd out) tk:=by
 rcases h with ⟨rfl,rfl⟩ | ⟨t,_,rfl,_⟩
 ·exact⟨_,rfl⟩
 ·exact⟨_,rfl⟩
theorem PS.put {b p:Nat}{out:List Nd}{v:Ab}{H:Aa}{c c':List Ab}(h:PS b out v H)(hp:H[p]? = some (.cel 0 c)):PS b out v (H.set p (.cel 0 c')):=by
 rcases h with h1 | ⟨t,h1,h2,h3⟩
 ·exact .inl h1
 ·refine .inr ⟨t,h1,h2,?_⟩;have:p≠t:=λe=>by rw[<-e,hp]at h3;cases h3
  rw[Vt this];exact h3
theorem PS.snoc {b:Nat}{out:List Nd}{v:Ab}{H:Aa}(h:PS b out v H)(hb:b<=H.length)(x:Nd)(hl:out.length<3518437208883) :
  ∃v' H',Bf AY 5 40 v (.sl (enL cNd [x]) .ti) H=some (v',H')/\PS b (out++[x]) v' H'/\Kp b H H':=by
 rcases h with ⟨rfl,rfl⟩ | ⟨t,h1,rfl,h3⟩
 ·have:=Eu (f:=cNd) (l:=[]) (m:=[x]) (ty:=AY) (bytes:=40) (tk:=.ti) (H:=H) (by simp) (by simp) (by simp);exact⟨_,_,this,.inr ⟨H.length,hb,rfl,by simp⟩,Kp.app hb _⟩
 ·have:=FS (f:=cNd) (l:=out) (m:=[x]) (ty:=AY) (bytes:=40) (tk:=.ti) (H:=H) (t:=t) (by simp) h3 (by simp;omega) (by simp;omega);have gY:=(Vn.1 h3).1;refine⟨_,_,this,.inr ⟨t,h1,rfl,by simp[gY]⟩,⟨by simp,λi cs hc=>?_,λi hi=>?_⟩⟩
  ·have:t≠i:=λe=>by rw[<-e,h3]at hc;cases hc
   rw[Vt this];exact hc
  ·rw[Vt (by omega)]
def VpD (k:Nat):Nat:=2^k
def TOP:Nat:=VpD 1400
theorem Vkz {k m:Nat}(h:k<32*m):VpD k<4294967296^m:=Vif h
theorem Vk0 {v k:Nat}(h:v<=k):2^v<=VpD k:=Vlb h
theorem Vnd:TOP<4294967296^44:=Vkz (by decide)
theorem Vne {v:Nat}(h:v<=1400):2^v<=TOP:=Vk0 h
theorem Pb (v:Nat):((2:Int)^v).natAbs=2^v:=by rw[Int.natAbs_pow];rfl
theorem Hi {v:Nat}(h:v<=1400):SB 44 (2^v):=by unfold SB;rw[Pb];exact Wv (Vne h) Vnd
section
variable {Hc:Aa}{a c:List Ab}{z:Int}
theorem st0 (ha:a.length=2):Ai 2 (.ptr Hc.length 0 0) (big z) (Hc++[Blk.cel 0 a]++[Blk.cel 0 c])=some (Hc++[Blk.cel 0 (AA z)]++[Blk.cel 0 c]):=by rw[Ct (cs:=a) (by simp) ha];simp
theorem st1 (hc:c.length=2):Ai 2 (.ptr (Hc.length+1) 0 0) (big z) (Hc++[Blk.cel 0 a]++[Blk.cel 0 c])=some (Hc++[Blk.cel 0 a]++[Blk.cel 0 (AA z)]):=by rw[Ct (cs:=c) (by simp) hc];simp

end
structure RC where
 n1:Bool
 l1:zAb
 n2:Bool
 l2:zAb
 s:UInt8
def cRC (r:RC):List Ab:=[.bool r.n1,.sl (enL cU r.l1) .no,.bool r.n2,.sl (enL cU r.l2) .no,.int .u8 (r.s.toNat:Int)]
instance:Sz cRC 5:=⟨λ_=>rfl⟩
def RC.fits (r:RC):Prop:=Lim r.l1/\Lim r.l2/\r.l1.length<=549755813888/\r.l2.length<=549755813888
def RC.right (r:RC):Bool:=Et r.n1 r.l1&&Et r.n2 r.l2
def RC.cl (r:RC):Cl:=⟨DL r.n1 r.l1,DL r.n2 r.l2,r.s⟩
theorem Von {r:RC}(h:r.right=true)(hf:r.fits):cRC r=cCl r.cl:=by simp only[RC.right,Vx]at h;have e1:=R3 h.1 hf.1;have e2:=R3 h.2 hf.2.1;show [Ab.bool r.n1,.sl (enL cU r.l1) .no]++([Ab.bool r.n2,.sl (enL cU r.l2) .no]++[.int .u8 (r.s.toNat:Int)])=_;rw[e1,e2];rfl
theorem Vob {l:List RC}(h:∀r∈l,r.right=true)(hf:∀r∈l,r.fits):enL cRC l=enL cCl (l.map RC.cl):=by unfold enL;rw[Yk];exact Xr λr hr=>Von (h r hr) (hf r hr)
def IK:Nat->Nat->Cl->Nat
 |0,v,_=>v
 |f+1,v,c=>if Eb v c then v else IK f (v+1) c
def A8 (l:List Cl):Nat:=l.foldl (λv c=>IK (1330-v) v c) 1
theorem VaX:∀f v c,v<=IK f v c/\IK f v c<=v+f
 |0,v,c=>⟨Vo _,Vo _⟩
 |f+1,v,c=>by
  unfold IK;split
  ·omega
  ·have:=VaX f (v+1) c;omega
theorem UE (l:List Cl):∀v,1<=v->v<=1330->v<=l.foldl (λv c=>IK (1330-v) v c) v/\l.foldl (λv c=>IK (1330-v) v c) v<=1330:=by
 induction l with
 |nil=>intro v h1 h2;simp;omega
 |cons c l ih=>intro v h1 h2;have h:=VaX (1330-v) v c;have:=ih (IK (1330-v) v c) (by omega) (by omega);simp only[List.foldl_cons];omega
theorem NH (l:List Cl):1<=A8 l/\A8 l<=1330:=UE l 1 (by omega) (by omega)
def HA (l:List Cl):List Nd×Int:=
 if A8 (B1 l)>1329 then ([],4)
 else if VjP (Bv (A8 (B1 l)) [] (-(2^(A8 (B1 l)-1))) (-(2^(A8 (B1 l)-1))) (B1 l)).1 ((Bv (A8 (B1 l)) [] (-(2^(A8 (B1 l)-1))) (-(2^(A8 (B1 l)-1))) (B1 l)).2:Int)
 then (K0 (Bv (A8 (B1 l)) [] (-(2^(A8 (B1 l)-1))) (-(2^(A8 (B1 l)-1))) (B1 l)).1 (Bv (A8 (B1 l)) [] (-(2^(A8 (B1 l)-1))) (-(2^(A8 (B1 l)-1))) (B1 l)).2,0)
 else ([],1)
theorem UG {l:List Cl}{c:Cl}(h:c∈B1 l):c∈l:=by have h1:=(W6.1 h).1;have:=(LV (l:=l) l.length (Vo _)).2;rw[Vy (Vo _)]at this;exact this c h1
theorem UH (l:List Cl):(B1 l).length<=l.length:=by have h1:(B1 l).length<=(FG l).length:=X3 _ _;have:=(LV (l:=l) l.length (Vo _)).1;rw[Vy (Vo _)]at this;omega
theorem MJ {H Hq:Aa}{tk:Tok}{Q:List Nd}{e:Int}(hc:Hq[H.length]? = some (.cel 0 [.sl [] .ti]))(hold:∀i,i<H.length->Hq[i]? = H[i]?) :
  (bP H (AE (Ai 1 (.ptr H.length 0 0) (.agg [.sl (enL cNd Q) tk]) Hq)) λ_ H37=>(GP [Ad true 1 (.ptr H.length 0 0) H37,some (.i6 e)]).bind λx38=>rPN H x38 H37)=some (.ret (.tup [Gn Q,.i6 e]),H):=by
 have aG:=(Vn.1 hc).1;have hst:Ai 1 (.ptr H.length 0 0) (.agg [.sl (enL cNd Q) tk]) Hq=some (Hq.set H.length (.cel 0 [.sl (enL cNd Q) tk])):=by simp only[Ai,As hc,zXa,B6 hc];rfl
 have hld:Ad true 1 (.ptr H.length 0 0) (Hq.set H.length (.cel 0 [.sl (enL cNd Q) tk]))=some (.agg [.sl (enL cNd Q) tk]):=by
  have:(Hq.set H.length (.cel 0 [.sl (enL cNd Q) tk]))[H.length]? = some (.cel 0 [.sl (enL cNd Q) tk]):=by rw[V0 aG]
  simp only[Ad,As this,zXa];rfl
 have bQ:(Hq.set H.length (.cel 0 [.sl (enL cNd Q) tk])).take H.length=H:=CG λi hi=>by rw[Vt (by omega),hold i hi]
 simp only[GMw,hst,hld,Hj,E8,F1,zXb,GQ bQ,Dn,BY,Cv,J8,Hs,I5,Ma,EC]
 rfl
end Go.Gm
