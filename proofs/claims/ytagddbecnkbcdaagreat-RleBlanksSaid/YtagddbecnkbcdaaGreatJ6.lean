/- Texts of this proof, joined. -/
import Derived.Test.YtagddbecnkbcdaaGreatJ3
import Derived.Test.YtagddbecnkbcdaaGreatJ4
import Derived.Test.YtagddbecnkbcdaaGreatJ5
import Derived.OrdersIn
import Derived.TacticsIn
import Derived.RangeFuncCalls
import Derived.Shelf.RegionOpen
import Derived.Laws.ResultCell
import Derived.Test.YtagddbecnkbcdaaGreatProg
import Derived.WalkKit
import Derived.Tactics
import Derived.Tactics2
import Derived.Defers
import Derived.Recover
import Derived.Laws.Pointers
import Derived.Test.YtagddbecnkbcdaaGreatChecked
import Derived.KernelRfl
import Derived.Lib.Bytealg
import Derived.Lib.ItoaNum
import Derived.Lib.Repeat
import Derived.Lib.Join
import Derived.Lib.TrimByte
import Derived.Laws.RangeAny
import Derived.Laws.RangeString
set_option linter.all false
namespace Go.Gm
theorem Stg.split {w n a:Nat}{l l':List Cl}(hw:0<w)(hd:w ∣ a)(hn:n<=w)(hl:a+n<=l.length)(h:Stg ltC w l a l') :
  ∃A,A.length=a/\l'=A++((l.drop a).take n++l.drop (a+n))/\(∀c∈A,c∈l)/\∀P2,Srt ltC ((l.drop a).take n) P2->Stg ltC w l (a+n) (A++(P2++l.drop (a+n))):=by
 obtain⟨P,h1,hP,hst,hb⟩:=h.ex;refine⟨P,hP,?_,λc hc=>?_,λP2 h2=>?_⟩
 ·rw[h1]
  congr 1
  rw[<-Wp,VW]
 ·exact Wo ((hst.mem JQ).2 hc)
 ·have hlen:P2.length=n:=by rw[h2.len,V5,V9];omega
  refine⟨P++P2,by rw[Vu],by rw[Vs,hP,hlen],?_,Nu.app hw (by rw[hP];exact hd) hb h2.srt (by omega)⟩;rw[List.take_add];exact hst.app h2.st
theorem Stg.mem {w a:Nat}{l l':List Cl}(h:Stg ltC w l a l'){c:Cl}(hc:c∈l'):c∈l:=by
 obtain⟨P,h1,hP,hst,hb⟩:=h.ex;rw[h1]at hc;rcases VA.1 hc with q | q
 ·exact Wo ((hst.mem JQ).2 q)
 ·exact WN q
section
variable {p g:Nat}{f:Ab}{l0:List Cl}
theorem UJ (hf:Tz A7 f l0){l L:List Cl}{a n w:Nat}{H:Aa}(h:CX H p g L)(hm:∀c∈l,c∈l0)(hst:Stg ltC w l a L)(hw:0<w)(hd:w ∣ a)(hn:n<=w)(hal:a+n<=l.length)(hl:l.length<1000000000) :
  ∃L',Stg ltC w l (a+n) L'/\Ue7 (dV p g l.length) (.i6 (a:Int)) (.i6 ((a+n:Nat):Int)) f H=some (.ret (.tup []),BJ H p g L'):=by
 have hlen:=hst.len (by omega);have dI:=ViA (a:=a) (b:=a+n) hf h (λc hc=>hm c (hst.mem hc)) (by omega) (by omega) (by omega);rw[hlen]at dI;obtain⟨A,hA,hL,_,hP⟩:=hst.split hw hd hn hal;by_cases h0:n=0
 ·subst h0;refine⟨L,?_,?_⟩
  ·rw[Nat.add_zero];exact hst
  ·rw[dI]
   congr 3
   rw[show a+0-a-1=0 by omega];rfl
 ·have hSl:((l.drop a).take n).length=n:=by rw[V5,V9];omega
  obtain⟨P,q1,q2⟩:=VfV JQ A (n-1) ((l.drop a).take n) (l.drop (a+n)) (by omega);refine⟨_,hP P q2,?_⟩;rw[dI,show a+n-a-1=n-1 by omega,<-q1,<-hL,hA]
theorem Ug (hf:TY f l0){l L:List Cl}{a n bs:Nat}{H:Aa}(h:CX H p g L)(hm:∀c∈l,c∈l0)(hst:Stg ltC (2*bs) l a L)(mM:0<bs)(hd:2*bs ∣ a)(aR:Nu ltC bs l)(hn:bs<n)(hn2:n<=2*bs)(hal:a+n<=l.length)(hl:l.length<1000000000) :
  ∃L',Stg ltC (2*bs) l (a+n) L'/\UaC AP (dV p g l.length) (.i6 (a:Int)) (.i6 ((a+bs:Nat):Int)) (.i6 ((a+n:Nat):Int)) f H=some (.ret (.tup []),BJ H p g L'):=by
 have hlen:=hst.len (by omega);obtain⟨A,hA,hL,_,hP⟩:=hst.split (by omega) hd hn2 hal;have oP:bs ∣ a:=Nat.dvd_trans ⟨2,by omega⟩ hd;have sU:=aR.block mM oP bs (Vo _);have sV:=aR.block mM (show bs ∣ a+bs from (Yh oP).2 (Nat.dvd_refl _)) (n-bs) (by omega);have hS:(l.drop a).take n=(l.drop a).take bs++(l.drop (a+bs)).take (n-bs):=by
  rw[show n=bs+(n-bs)by omega,List.take_add,Wp]
  congr 2;omega
 have lU:((l.drop a).take bs).length=bs:=by rw[V5,V9];omega
 have lV:((l.drop (a+bs)).take (n-bs)).length=n-bs:=by rw[V5,V9];omega
 rw[hS]at hL hP;rw[Vu]at hL;have aF:=Veu (p:=p) (g:=g) hf AP (((l.drop a).take bs).length+((l.drop (a+bs)).take (n-bs)).length) (by rw[DB];omega) A ((l.drop a).take bs) ((l.drop (a+bs)).take (n-bs)) (l.drop (a+n)) H rfl (by rw[<-hL];exact h) (by omega) (by omega) sU sV
  (λc hc=>by rw[<-hL]at hc;exact hm c (hst.mem hc)) (by rw[<-hL,hlen];exact hl)
 obtain⟨W,w1,w2⟩:=aF;refine⟨_,hP W w1,?_⟩;rw[<-hL,hlen,hA,lU,lV,show a+bs+(n-bs)=a+n by omega]at w2;exact w2
theorem Vet (hf:TY f l0){l:List Cl}{bs:Nat}{H0 H:Aa}(h:CX H p g l)(hm:∀c∈l,c∈l0)(mM:0<bs)(aR:Nu ltC bs l)(vW:bs<l.length)(hl:l.length<1000000000) :
  ∃L,Fo ltC l L/\Nu ltC (2*bs) L/\L.length=l.length/\∀aA:LK,Am (λdR vs H1=>Ua3 H0 aA dR (ag vs 0) (ag vs 1) (ag vs 2) (ag vs 3) (ag vs 4) (ag vs 5) H1) AP [dV p g l.length,.i6 (l.length:Int),f,.i6 (bs:Int),.i6 0,.i6 ((2*bs:Nat):Int)] H =
   aA [dV p g l.length,.i6 (l.length:Int),f,.i6 ((2*bs:Nat):Int)] (BJ H p g L):=by
 have key:=LP (ι:=LK) (G:=λaA dR vs H1=>Ua3 H0 aA dR (ag vs 0) (ag vs 1) (ag vs 2) (ag vs 3) (ag vs 4) (ag vs 5) H1) (σ:=Nat×List Cl)
  (λs vs H1=>Stg ltC (2*bs) l s.1 s.2/\2*bs ∣ s.1/\s.1<=l.length/\vs=[dV p g l.length,.i6 (l.length:Int),f,.i6 (bs:Int),.i6 (s.1:Int),.i6 ((s.1+2*bs:Nat):Int)]/\H1=BJ H p g s.2) (λs=>l.length-s.1) (λs=>¬s.1+2*bs<=l.length) (λs vs H1 hI hd=>?_)
  (s:=(0,l)) (vs:=[dV p g l.length,.i6 (l.length:Int),f,.i6 (bs:Int),.i6 0,.i6 ((2*bs:Nat):Int)]) (H:=H) ⟨.start _ _,Nat.dvd_zero _,VL _,by simp,(CE h).symm⟩ (by dsimp only;omega)
 ·obtain⟨⟨a,L⟩,vs,H1,hd,⟨hst,eP,hal,rfl,rfl⟩,aB⟩:=key;dsimp only at hst eP hal hd aB;have hr:CX (BJ H p g L) p g L:=De h;have d1:decide (((a+2*bs:Nat):Int)<=(l.length:Int))=false:=zXd (by omega);have cD:IntKind.i64.wrap ((a:Int)+(bs:Int))=((a+bs:Nat):Int):=by rw[An] <;> omega
  have bZ:IntKind.i64.wrap ((bs:Int)*2)=((2*bs:Nat):Int):=by rw[An] <;> omega
  by_cases uM:a+bs<l.length
  ·have d2:decide (((a+bs:Nat):Int)<(l.length:Int))=true:=zXc (by omega);obtain⟨L',q1,q2⟩:=Ug (n:=l.length-a) hf hr hm hst mM eP aR (by omega) (by omega) (by omega) hl;rw[show a+(l.length-a)=l.length by omega]at q1 q2;obtain⟨r1,r2,r3⟩:=q1.all;refine⟨L',r1,r2,r3,λaA=>?_⟩;obtain⟨rec,aB⟩:=aB aA;rw[aB];unfold Ua3 UdA;simp only[Al,Aj,AZ,Bd,Bx,BI,D4,GMw,d1,cD,d2,q2,bZ,B4]
  ·have d2:decide (((a+bs:Nat):Int)<(l.length:Int))=false:=zXd (by omega);obtain⟨A,hA,hL,_,hP⟩:=hst.split (n:=l.length-a) (by omega) eP (by omega) (by omega);have oP:bs ∣ a:=Nat.dvd_trans ⟨2,by omega⟩ eP;have q1:=hP _ ⟨aR.block mM oP (l.length-a) (by omega),.refl _,rfl⟩;rw[<-hL,show a+(l.length-a)=l.length by omega]at q1;obtain⟨r1,r2,r3⟩:=q1.all;refine⟨L,r1,r2,r3,λaA=>?_⟩;obtain⟨rec,aB⟩:=aB aA;rw[aB];unfold Ua3 UdA;simp only[Al,Aj,AZ,Bd,Bx,BI,D4,GMw,d1,cD,d2,bZ]
 ·obtain⟨a,L⟩:=s;obtain⟨hst,eP,hal,rfl,rfl⟩:=hI;dsimp only at hst eP hal hd ⊢;have hr:CX (BJ H p g L) p g L:=De h;obtain⟨L',q1,q2⟩:=Ug (n:=2*bs) hf hr hm hst mM eP aR (by omega) (by omega) (by omega) hl;have d1:decide (((a+2*bs:Nat):Int)<=(l.length:Int))=true:=zXc (by omega);have cD:IntKind.i64.wrap ((a:Int)+(bs:Int))=((a+bs:Nat):Int):=by rw[An] <;> omega
  have bZ:IntKind.i64.wrap (2*(bs:Int))=((2*bs:Nat):Int):=by rw[An] <;> omega
  have kC:IntKind.i64.wrap (((a+2*bs:Nat):Int)+((2*bs:Nat):Int))=((a+2*bs+2*bs:Nat):Int):=by rw[An] <;> omega
  refine⟨(a+2*bs,L'),_,_,by dsimp only;omega,⟨q1,(Yh eP).2 (Nat.dvd_refl _),by dsimp only;omega,rfl,rfl⟩,λaA rec=>?_⟩;unfold Ua3;simp only[Al,Aj,AZ,Bd,Bx,BI,D4,GMw,d1,cD,q2,bZ,kC,B4]
theorem Ve0 (hf1:Tz A7 f l0)(hf2:TY f l0){l:List Cl}{H:Aa}(h:CX H p g l)(hm:∀c∈l,c∈l0)(hl:l.length<1000000000) :
  ∃S,Ev ltC S/\Fo ltC l S/\S.length=l.length/\Ua4 (dV p g l.length) (.i6 (l.length:Int)) f H=some (.ret (.tup []),BJ H p g S):=by
 unfold Ua4;have rounds:∀(L:List Cl),Fo ltC l L->Nu ltC 20 L->L.length=l.length->∃S,Ev ltC S/\Fo ltC l S/\S.length=l.length /\
   Am (λaA vs H1=>Uag H aA (ag vs 0) (ag vs 1) (ag vs 2) (ag vs 3) H1) AP [dV p g l.length,.i6 (l.length:Int),f,.i6 20] (BJ H p g L)=some (.ret (.tup []),BJ H p g S):=λL hL1 hL2 hL3=>by
  have key:=Ei (G:=λaA vs H1=>Uag H aA (ag vs 0) (ag vs 1) (ag vs 2) (ag vs 3) H1) (σ:=Nat×List Cl)
   (λs vs H1=>(Fo ltC l s.2/\Nu ltC s.1 s.2/\s.2.length=l.length/\0<s.1)/\vs=[dV p g l.length,.i6 (l.length:Int),f,.i6 (s.1:Int)]/\H1=BJ H p g s.2) (λs=>l.length-s.1) (λs=>¬s.1<l.length) (λs vs H1 hI hd=>?_)
   (s:=(20,L)) (vs:=[dV p g l.length,.i6 (l.length:Int),f,.i6 20]) (H:=BJ H p g L) ⟨⟨hL1,hL2,hL3,Nat.succ_pos _⟩,rfl,rfl⟩ (by dsimp only;omega)
  ·obtain⟨⟨bs,S⟩,vs,H1,hd,⟨⟨i1,i2,i3,i4⟩,rfl,rfl⟩,rec,aB⟩:=key;dsimp only at i1 i2 i3 i4 hd aB;have d1:decide ((bs:Int)<(l.length:Int))=false:=zXd (by omega);refine⟨S,i2.whole (by omega),i1,i3,?_⟩;rw[aB];unfold Uag;simp only[Al,Aj,AZ,Bd,Bx,GMw,d1]
  ·obtain⟨bs,L⟩:=s;obtain⟨⟨i1,i2,i3,i4⟩,rfl,rfl⟩:=hI;dsimp only at i1 i2 i3 i4 hd ⊢;have hr:CX (BJ H p g L) p g L:=De h;have d1:decide ((bs:Int)<(l.length:Int))=true:=zXc (by omega);have cD:IntKind.i64.wrap (2*(bs:Int))=((2*bs:Nat):Int):=by rw[An] <;> omega
   obtain⟨L',q1,q2,q3,q4⟩:∃L',Fo ltC L L'/\Nu ltC (2*bs) L'/\L'.length=L.length/\∀aA:LK,Uag H aA (dV p g l.length) (.i6 (l.length:Int)) f (.i6 (bs:Int)) (BJ H p g L)=aA [dV p g l.length,.i6 (l.length:Int),f,.i6 ((2*bs:Nat):Int)] (BJ H p g L'):=by obtain⟨L',q1,q2,q3,q4⟩:=Vet (H0:=H) hf2 hr (λc hc=>hm c ((i1.mem JQ).2 hc)) i4 i2 (by omega) (by omega);rw[i3]at q4;refine⟨L',q1,q2,q3,λaA=>?_⟩;unfold Uag;simp only[GMw,d1,cD];rw[q4 aA,B4]
   refine⟨(2*bs,L'),_,_,by dsimp only;omega,⟨⟨i1.trans q1,q2,by dsimp only;omega,by dsimp only;omega⟩,rfl,rfl⟩,λrec=>?_⟩;simp only[Al,Aj,AZ,Bd,Bx];exact q4 rec
 have key:=Ei (G:=λrec1 vs H1=>UaV H rec1 (ag vs 0) (ag vs 1) (ag vs 2) (ag vs 3) (ag vs 4) (ag vs 5) H1) (σ:=Nat×List Cl)
  (λs vs H1=>(Stg ltC 20 l s.1 s.2/\20 ∣ s.1/\s.1<=l.length)/\vs=[dV p g l.length,.i6 (l.length:Int),f,.i6 20,.i6 (s.1:Int),.i6 ((s.1+20:Nat):Int)]/\H1=BJ H p g s.2) (λs=>l.length-s.1) (λs=>¬s.1+20<=l.length) (λs vs H1 hI hd=>?_)
  (s:=(0,l)) (vs:=[dV p g l.length,.i6 (l.length:Int),f,.i6 20,.i6 0,.i6 20]) (H:=H) ⟨⟨.start _ _,Nat.dvd_zero _,VL _⟩,rfl,(CE h).symm⟩ (by dsimp only;omega)
 ·obtain⟨⟨a,L⟩,vs,H1,hd,⟨⟨hst,eP,hal⟩,rfl,rfl⟩,rec,aB⟩:=key;dsimp only at hst eP hal hd aB;have hr:CX (BJ H p g L) p g L:=De h;obtain⟨L',q1,q2⟩:=UJ (n:=l.length-a) hf1 hr hm hst (by decide) eP (by omega) (by omega) hl;rw[show a+(l.length-a)=l.length by omega]at q1 q2;obtain⟨r1,r2,r3⟩:=q1.all;obtain⟨S,s1,s2,s3,s4⟩:=rounds L' r1 r2 r3;refine⟨S,s1,s2,s3,?_⟩;have d1:decide (((a+20:Nat):Int)<=(l.length:Int))=false:=zXd (by omega);rw[aB];unfold UaV;simp only[Al,Aj,AZ,Bd,Bx,BI,D4,GMw,d1,q2,B4];exact s4
 ·obtain⟨a,L⟩:=s;obtain⟨⟨hst,eP,hal⟩,rfl,rfl⟩:=hI;dsimp only at hst eP hal hd ⊢;have hr:CX (BJ H p g L) p g L:=De h;obtain⟨L',q1,q2⟩:=UJ (n:=20) hf1 hr hm hst (by decide) eP (by omega) (by omega) hl;have d1:decide (((a+20:Nat):Int)<=(l.length:Int))=true:=zXc (by omega);have kC:IntKind.i64.wrap (((a+20:Nat):Int)+20)=((a+20+20:Nat):Int):=by rw[An] <;> omega
  refine⟨(a+20,L'),_,_,by dsimp only;omega,⟨⟨q1,(Yh eP).2 (Nat.dvd_refl _),by dsimp only;omega⟩,rfl,rfl⟩,λrec=>?_⟩;unfold UaV;simp only[Al,Aj,AZ,Bd,Bx,BI,D4,GMw,d1,q2,kC,B4]

end
theorem VcQ {l l':zAb}(h:enL cU l=enL cU l'):l=l':=by
 unfold enL at h
 induction l generalizing l' with
 |nil=>cases l' with
  |nil=>rfl
  |cons y r=>simp at h
 |cons x l ih=>
  cases l' with
  |nil=>simp at h
  |cons y r=>
   simp only[WT,List.cons.injEq,Ab.int.injEq,true_and,and_true]at h;rw[ih h.2]
   congr 1
   omega
theorem OO {l m:zAb}{t t':Tok}(H:Aa)(hl:Lim l)(hm:Lim m)(h1:l.length<=1099511627776)(h2:m.length<=1099511627776) :
  UeC (.sl (enL cU l) t) (.sl (enL cU m) t') H=some (.ret (.i6 (F7 (val l:Int) (val m:Int))),H):=by
 have hex:∃p:zAb×zAb,enL cU l=enL cU p.1/\enL cU m=enL cU p.2/\Lim p.1/\Lim p.2/\p.1.length<=1099511627776/\p.2.length<=1099511627776:=⟨(l,m),rfl,rfl,hl,hm,h1,h2⟩;have e1:hex.choose.1=l:=(VcQ hex.choose_spec.1).symm;have e2:hex.choose.2=m:=(VcQ hex.choose_spec.2.1).symm;unfold UeC;simp only[];rw[dif_pos hex,e1,e2];unfold F7;by_cases c1:val l<val m
 ·rw[if_pos c1,if_pos (show (val l:Int)<(val m:Int)by omega)]
 ·by_cases c2:val l=val m
  ·rw[if_neg c1,if_pos c2,if_neg (show ¬(val l:Int)<(val m:Int)by omega),if_pos (show (val l:Int)=(val m:Int)by omega)]
  ·rw[if_neg c1,if_neg c2,if_neg (show ¬(val l:Int)<(val m:Int)by omega),if_neg (show ¬(val l:Int)=(val m:Int)by omega)]
section
variable {H:Aa}{p:Nat}{z:Int}
theorem Jk (hg:H[p]? = some (.cel 0 (AA z))):Ad false 1 (.ptr p 0 0) H=some (.bool (decide (z<0))):=by simp only[Ad,As hg,zXa];rfl
theorem Vcy (hg:H[p]? = some (.cel 0 (AA z))):Ad false 1 (.ptr p 0 1) H=some (.sl (enL cU (A4 z.natAbs)) .no):=by simp only[Ad,As hg,zXa];rfl

end
theorem Vov {a b:Int}(ha:LB a)(hb:LB b)(H:Aa):UaT (big a) (big b) H=some (.ret (.i6 (F7 a b)),H):=by
 have e1:(H++[Blk.cel 0 (AA a)]++[Blk.cel 0 (AA b)])[H.length]? = some (.cel 0 (AA a)):=by simp
 have e2:(H++[Blk.cel 0 (AA a)]++[Blk.cel 0 (AA b)])[(H++[Blk.cel 0 (AA a)]).length]? = some (.cel 0 (AA b)):=Ap;have c1:=λK=>OO (t:=.no) (t':=.no) K (Bn a.natAbs) (Bn b.natAbs) (VM ha (by decide)) (VM hb (by decide));have c2:=λK=>OO (t:=.no) (t':=.no) K (Bn b.natAbs) (Bn a.natAbs) (VM hb (by decide)) (VM ha (by decide));rw[B2,B2]at c1 c2;have fin:∀q:Int,rP H (.i6 q) (H++[Blk.cel 0 (AA a)]++[Blk.cel 0 (AA b)])=some (.ret (.i6 q),H):=λq=>by simp only[Vu];exact Io
 unfold UaT;simp only[GMw,D0,Ae,Vr,Nat.add_zero,Jk e1,Jk e2];by_cases h1:a<0
 ·have d1:decide (a<0)=true:=zXc h1;by_cases h2:b<0
  ·have d2:decide (b<0)=true:=zXc h2;have:F7 (b.natAbs:Int) (a.natAbs:Int)=F7 a b:=by
    unfold F7;by_cases q1:a<b
    ·rw[if_pos q1,if_pos (by omega)]
    ·by_cases q2:a=b
     ·rw[if_neg q1,if_neg (by omega),if_pos q2,if_pos (by omega)]
     ·rw[if_neg q1,if_neg (by omega),if_neg q2,if_neg (by omega)]
   simp only[GMw,d1,d2,Jk e1,Jk e2,Vcy e1,Vcy e2,c2,fin,this]
  ·have d2:decide (b<0)=false:=zXd h2;have:F7 a b = -1:=by unfold F7;rw[if_pos (by omega)]
   simp only[GMw,d1,d2,Jk e1,Jk e2,fin,this]
 ·have d1:decide (a<0)=false:=zXd h1;by_cases h2:b<0
  ·have d2:decide (b<0)=true:=zXc h2;have:F7 a b=1:=by unfold F7;rw[if_neg (by omega),if_neg (by omega)]
   simp only[GMw,d1,Jk e1,Jk e2,d2,fin,this]
  ·have d2:decide (b<0)=false:=zXd h2;have:F7 (a.natAbs:Int) (b.natAbs:Int)=F7 a b:=by rw[show (a.natAbs:Int)=a by omega,show (b.natAbs:Int)=b by omega]
   simp only[GMw,d1,Jk e1,Jk e2,d2,Vcy e1,Vcy e2,c1,fin,this]
theorem VnD (a b:Int)(H:Aa):UbZ (.sl [[.i6 a],[.i6 b]] .ti) H=some (.ret (.i6 (if a=0 then b else a)),H):=by
 have i0:Aw 1 (.sl [[.i6 a],[.i6 b]] .ti) (.i6 0)=some (.cptr [.i6 a] 0):=rfl;have i1:Aw 1 (.sl [[.i6 a],[.i6 b]] .ti) (.i6 1)=some (.cptr [.i6 b] 0):=rfl;have l0:∀x:Ab,Ad false 1 (.cptr [x] 0) H=some x:=λ_=>rfl;have hl:A5 (.sl [[.i6 a],[.i6 b]] .ti)=some (.i6 2):=rfl;have w0:IntKind.i64.wrap (0+1)=1:=rfl;have w1:IntKind.i64.wrap (1+1)=2:=rfl;have d0:decide ((0:Int)<2)=true:=rfl;have d1:decide ((1:Int)<2)=true:=rfl;have d2:decide ((2:Int)<2)=false:=rfl;unfold UbZ;simp only[GMw,hl];have key:=Br (G:=λrec1 vs H1=>Ud6 H rec1 (ag vs 0) (ag vs 1) (ag vs 2) (ag vs 3) H1) (σ:=Nat) (λi=>i=0\/(i=1/\a=0)\/(i=2/\a=0/\b=0))
  (λi=>[.i6 0,.sl [[.i6 a],[.i6 b]] .ti,.i6 2,.i6 (i:Int)]) (λ_=>H) (λi=>2-i) (λ_=>some (.ret (.i6 (if a=0 then b else a)),H)) (λi rec hi hrec=>?_) 0 (.inl rfl) (by decide)
 ·exact key
 ·unfold Ud6;rcases hi with rfl | ⟨rfl,ha⟩ | ⟨rfl,ha,hb⟩
  ·by_cases h:a=0
   ·have hn:(a != 0)=false:=by simp[h]
    have:=hrec 1 (.inr (.inl ⟨rfl,h⟩)) (by decide);simp only[GMw,Aj,Int.natCast_zero,d0,i0,l0,hn,w0];exact this
   ·have hn:(a != 0)=true:=by simp[h]
    simp only[GMw,Aj,Int.natCast_zero,d0,i0,l0,hn,if_neg h]
  ·by_cases h:b=0
   ·have hn:(b != 0)=false:=by simp[h]
    have:=hrec 2 (.inr (.inr ⟨rfl,ha,h⟩)) (by decide);simp only[GMw,Aj,show ((1:Nat):Int)=1 from rfl,d1,i1,l0,hn,w1];exact this
   ·have hn:(b != 0)=true:=by simp[h]
    simp only[GMw,Aj,show ((1:Nat):Int)=1 from rfl,d1,i1,l0,hn,if_pos ha]
  ·simp only[GMw,Aj,show ((2:Nat):Int)=2 from rfl,d2,if_pos ha,hb]
theorem VaP {c d:Cl}(hc:c.ok)(hd:d.ok)(H:Aa):Uax (.agg (cCl c)) (.agg (cCl d)) H=some (.ret (.i6 (ND c d)),H):=by
 have e1:(H++[Blk.cel 0 (cCl c)]++[Blk.cel 0 (cCl d)])[H.length]? = some (.cel 0 (cCl c)):=by simp
 have e2:(H++[Blk.cel 0 (cCl c)]++[Blk.cel 0 (cCl d)])[(H++[Blk.cel 0 (cCl c)]).length]? = some (.cel 0 (cCl d)):=Ap;have hy:=λK=>Vov (hc.2.lb (by decide)) (hd.2.lb (by decide)) K;have hx:=λK=>Vov (hc.1.lb (by decide)) (hd.1.lb (by decide)) K;have hb:∀x y:Int,AN 1 [.i6 x,.i6 y]=some (.sl [[.i6 x],[.i6 y]] .ti):=λ_ _=>rfl;have fin:∀q:Int,rP H (.i6 q) (H++[Blk.cel 0 (cCl c)]++[Blk.cel 0 (cCl d)])=some (.ret (.i6 q),H):=λq=>by simp only[Vu];exact Io
 unfold Uax;simp only[GMw,Vmr,Ae,Vr,Nat.add_zero,VfE e1,VfE e2,VfF e1,VfF e2,Bm,hy,hx,B5,and_true,hb,VnD,fin]
 rfl
theorem SQ {α:Type}{f:α->List Ab}{sz:Nat}[hf:Sz f sz][hp:Pl f]{H:Aa}{l:List α}{id b d cap k:Nat}{ex:Bool}(hg:A6 H id 0=some (flat f l))(hi:b<=id)(hk:k<=l.length):GV H b (d+3) (.ms id 0 0 k cap sz ex)=some (.sl (enL f (l.take k)) .no):=by
 have h1:¬id<b:=by omega
 have h2:k*sz<=l.length*sz:=VV _ hk;have h3:(l.take k).length=k:=by simp;omega
 have h4:=Mk (f:=f) (l.take k);rw[h3]at h4;unfold GV;simp only[frz,h1,if_false,hg,zXa,WC,Vr,EV,h2,if_true,Na,GR (Nb (f:=f) (l.take k)),OB (f:=f) (l.take k),h4,zXb,forget,Em,fgt]
theorem Pf (t:Nat):IntKind.u32.wrap (t:Int)=((t%4294967296:Nat):Int):=by simp only[IntKind.wrap,IntKind.bits,IntKind.signed];simp
theorem Nk (t:Nat):Af .none .shr (.int .u64 (t:Int)) (.int .u64 32)=some (.int .u64 ((t / 4294967296:Nat):Int)):=by
 show some (Ab.int .u64 ((t:Int).fdiv 4294967296))=_;rw[Xp _ (by decide)]
 rfl
theorem Vcr {x m c:Nat}(hx:x<4294967296)(hm:m<4294967296)(hc:c<4294967296):c+x*m<18446744073709551616:=by have h1:x*m<=4294967295*4294967295:=XC (by omega) (by omega);omega
theorem JN (x:Nat):val [x]=x:=by simp[val]
def EI (l:zAb)(m c:Nat):Nat->zAb×Nat
 |0=>([],c)
 |i+1=>((EI l m c i).1++[((EI l m c i).2+l[i]?.getD 0*m)%4294967296],((EI l m c i).2+l[i]?.getD 0*m) / 4294967296)
theorem VaT {l:zAb}{m c:Nat}(hx:Lim l)(hm:m<4294967296)(hc:c<4294967296):∀i,i<=l.length ->
  (EI l m c i).1.length=i/\(EI l m c i).2<4294967296/\Lim (EI l m c i).1/\val (EI l m c i).1+4294967296^i*(EI l m c i).2=val (l.take i)*m+c
 |0,_=>⟨rfl,hc,λx h=>(by cases h),by simp[EI,val]⟩
 |i+1,hi=>by
  obtain⟨h1,h2,h3,h4⟩:=VaT hx hm hc i (by omega);have aH:=hx _ (Vz (show i<l.length by omega));have hg:l[i]?.getD 0=l[i]:=by rw[Vl (by omega)];rfl
  have ht:=Vcr aH hm h2;simp only[EI,hg];refine⟨by simp[h1],?_,?_,?_⟩
  ·omega
  ·intro x kA;rcases VA.1 kA with h | h
   ·exact h3 x h
   ·rw[VB.1 h];exact WJ _ (by decide)
  ·rw[Vw (by omega),Cs,Cs,h1,V5,Wl (by omega)];have rI:=Xb ((EI l m c i).2+l[i]*m) 4294967296;simp only[val,Nat.mul_zero,Nat.add_zero];generalize ((EI l m c i).2+l[i]*m) / 4294967296=q at *;generalize ((EI l m c i).2+l[i]*m)%4294967296=r at *;rw[Nat.pow_succ,WS,VN,<-W4,show r+4294967296*q=(EI l m c i).2+l[i]*m by omega,W4,We];rw[<-VN,h4,WS];omega
theorem Vpj {l:zAb}{tk:Tok}{m c:Nat}(H:Aa)(hx:Lim l)(hl:l.length<=1099511627776)(hm:m<4294967296)(hc:c<4294967296) :
  UbC (.sl (enL cU l) tk) (.int .u32 (m:Int)) (.int .u32 (c:Int)) H=some (.ret (.sl (enL cU (A4 (val l*m+c))) .no),H):=by
 unfold UbC;have hn:IntKind.i64.wrap ((l.length:Int)+1)=((l.length+1:Nat):Int):=by rw[An] <;> omega
 have dB:=FZ (f:=cU) (a:=0) (n:=l.length+1) (bytes:=4) (H:=H) (by omega) (by omega);simp only[show cU 0=[Ab.int .u32 0] from rfl]at dB;have hcc:AC .u64 (.int .u32 (c:Int))=some (.int .u64 (c:Int)):=by rw[Bo,Ch (by omega) (by omega)]
 have oS:AC .u64 (.int .u32 (m:Int))=some (.int .u64 (m:Int)):=by rw[Bo,Ch (by omega) (by omega)]
 simp only[GMw,Ax,hn,dB,hcc];refine CA l.length (λi=>[.sl (enL cU l) tk,.int .u32 (m:Int),.ms H.length 0 0 (l.length+1) (l.length+1) 1 true,.int .u64 ((EI l m c i).2:Int),.sl (enL cU l) tk,.i6 (l.length:Int),.i6 (i:Int)])
  (λi=>H++[.cel 0 (flat cU ((EI l m c i).1++List.replicate (l.length+1-i) 0))]) _ (by omega) (λrec i hi=>?_) (λrec=>?_)
 ·obtain⟨h1,h2,h3,h4⟩:=VaT hx hm hc i (by omega);have aE:(i:Int)<(l.length:Int):=by omega
  have aH:=hx _ (Vz hi);have hg:l[i]?.getD 0=l[i]:=by rw[Vl hi];rfl
  have ht:=Vcr aH hm h2;have hidx:=CK (sz:=1) (id:=H.length) (n:=l.length+1) (K:=.i64) (g:=0) (off:=0) (cap:=l.length+1) (ex:=true) (i:=i) (by omega);simp only[Vr,V4]at hidx;obtain⟨t,htt⟩:∃t,t=(EI l m c i).2+l[i]*m:=⟨_,rfl⟩;have hP:l[i]*m<=4294967295*4294967295:=XC (by omega) (by omega);have w1:AC .u64 (.int .u32 (l[i]:Int))=some (.int .u64 (l[i]:Int)):=by rw[Bo,Ch (by omega) (by omega)]
  have w2:IntKind.u64.wrap ((l[i]:Int)*(m:Int))=((l[i]*m:Nat):Int):=by rw[<-Int.natCast_mul,Ch (by omega) (by omega)]
  have w3:IntKind.u64.wrap (((EI l m c i).2:Int)+((l[i]*m:Nat):Int))=(t:Int):=by rw[Ch] <;> omega
  have w4:AC .u32 (.int .u64 (t:Int))=some (.int .u32 ((t%4294967296:Nat):Int)):=by rw[Bo,Pf]
  have w5:Af .none .shr (.int .u64 (t:Int)) (.int .u64 32)=some (.int .u64 ((t / 4294967296:Nat):Int)):=Nk t;have w6:IntKind.i64.wrap ((i:Int)+1)=((i+1:Nat):Int):=by rw[An] <;> omega
  have hst:=DR (f:=cU) (sz:=1) (l:=(EI l m c i).1++List.replicate (l.length+1-i) 0) (i:=i) (a:=t%4294967296) (v:=.int .u32 ((t%4294967296:Nat):Int)) (H:=H++[Blk.cel 0 (flat cU ((EI l m c i).1++List.replicate (l.length+1-i) 0))]) (id:=H.length) (As Ap) (by simp;omega) rfl;have aI:((EI l m c i).1++List.replicate (l.length+1-i) 0).set i (t%4294967296)=(EI l m c (i+1)).1++List.replicate (l.length+1-(i+1)) 0:=by rw[show l.length+1-i=(l.length+1-(i+1))+1 by omega,zXm,Wa _ _ (by omega),h1,VZ,List.set_cons_zero];simp[EI,hg,<-htt]
  rw[V4,B6 Ap,Bt,aI]at hst;unfold Udw;simp only[GMw,Aj,aE,Az hi,A0,zXh,w1,oS,w2,w3,w4,hidx,hst,w5,w6];simp only[EI,hg,<-htt]
 ·obtain⟨h1,h2,h3,h4⟩:=VaT hx hm hc l.length (Vo _);have hidx:=CK (sz:=1) (id:=H.length) (n:=l.length+1) (K:=.i64) (g:=0) (off:=0) (cap:=l.length+1) (ex:=true) (i:=l.length) (by omega);simp only[Vr,V4]at hidx;have w4:AC .u32 (.int .u64 ((EI l m c l.length).2:Int))=some (.int .u32 ((EI l m c l.length).2:Int)):=by rw[Bo,Dj (by omega) (by omega)]
  have hst:=DR (f:=cU) (sz:=1) (l:=(EI l m c l.length).1++List.replicate (l.length+1-l.length) 0) (i:=l.length) (a:=(EI l m c l.length).2) (v:=.int .u32 ((EI l m c l.length).2:Int)) (H:=H++[Blk.cel 0 (flat cU ((EI l m c l.length).1++List.replicate (l.length+1-l.length) 0))]) (id:=H.length) (As Ap) (by simp;omega) rfl;have aI:((EI l m c l.length).1++List.replicate (l.length+1-l.length) 0).set l.length (EI l m c l.length).2=(EI l m c l.length).1++[(EI l m c l.length).2]:=by
   rw[show l.length+1-l.length=1 by omega,Wa _ _ (by omega),h1,VZ]
   rfl
  rw[V4,B6 Ap,Bt,aI]at hst;obtain⟨o,ho⟩:∃o,o=(EI l m c l.length).1++[(EI l m c l.length).2]:=⟨_,rfl⟩;have hol:o.length=l.length+1:=by rw[ho];simp[h1]
  have aJ:Lim o:=by
   intro x kA;rw[ho]at kA;rcases VA.1 kA with h | h
   ·exact h3 x h
   ·rw[VB.1 h];exact h2
  have pW:val o=val l*m+c:=by rw[ho,Cs,h1,JN];rw[Wc]at h4;exact h4
  rw[<-ho]at hst;have dZ:=VhM (l:=o) (H:=H++[Blk.cel 0 (flat cU o)]) (id:=H.length) Ap (by omega);have htk:=Ju aJ o.length (Vo _);rw[Wc,pW]at htk;have dP:=SQ (f:=cU) (sz:=1) (b:=H.length) (d:=5) (cap:=o.length) (ex:=true) (k:=GL o o.length) (l:=o) (H:=H++[Blk.cel 0 (flat cU o)]) (id:=H.length) (As Ap) (Vo _) (NY o _);rw[htk]at dP;rw[hol]at dZ dP;unfold Udw;simp only[GMw,Aj,Wb,Ax,w4,hidx,hst,dZ,CT,dP,zXb]
theorem ME (b:zAb)(i:Nat):val (b.take (i+1))=val (b.take i)+4294967296^i*b[i]?.getD 0:=by
 rcases VT i b.length with h | h
 ·rw[Vw h,Cs,Vl h,V5,Wl (by omega)];simp[val]
 ·rw[Vy (by omega),Vy h,zYb h];simp
theorem J6 {b:zAb}(h:Lim b)(i:Nat):b[i]?.getD 0<4294967296:=by
 rcases VT i b.length with q | q
 ·rw[Vl q];exact h _ (Vz q)
 ·rw[zYb q];decide
def EF (a b:zAb):Nat->zAb×Nat
 |0=>([],0)
 |i+1=>((EF a b i).1++[(a[i]?.getD 0+b[i]?.getD 0+(EF a b i).2)%4294967296],(a[i]?.getD 0+b[i]?.getD 0+(EF a b i).2) / 4294967296)
theorem VbH {a b:zAb}(ha:Lim a)(hb:Lim b):∀i,(EF a b i).1.length=i/\(EF a b i).2<=1/\Lim (EF a b i).1/\val (EF a b i).1+4294967296^i*(EF a b i).2=val (a.take i)+val (b.take i)
 |0=>⟨rfl,VL _,λx h=>(by cases h),by simp[EF,val]⟩
 |i+1=>by
  obtain⟨h1,h2,h3,h4⟩:=VbH ha hb i;have g1:=J6 ha i;have g2:=J6 hb i;simp only[EF];refine⟨by simp[h1],by omega,?_,?_⟩
  ·intro x hx;rcases VA.1 hx with h | h
   ·exact h3 x h
   ·rw[VB.1 h];exact WJ _ (by decide)
  ·rw[ME,ME,Cs,h1];have rI:=Xb (a[i]?.getD 0+b[i]?.getD 0+(EF a b i).2) 4294967296;simp only[val,Nat.mul_zero,Nat.add_zero];generalize (a[i]?.getD 0+b[i]?.getD 0+(EF a b i).2) / 4294967296=q at *;generalize (a[i]?.getD 0+b[i]?.getD 0+(EF a b i).2)%4294967296=r at *;rw[Nat.pow_succ,WS,VN,<-W4,show r+4294967296*q=a[i]?.getD 0+b[i]?.getD 0+(EF a b i).2 by omega,W4,W4];omega
theorem Vll {x y c:Nat}(hx:x<4294967296)(hy:y<4294967296)(hc:c<=1)(H:Aa):UbP (.int .u32 (x:Int)) (.int .u32 (y:Int)) (.int .u32 (c:Int)) H=some (.ret (.tup [.int .u32 (((x+y+c)%4294967296:Nat):Int),.int .u32 (((x+y+c) / 4294967296:Nat):Int)]),H):=by
 have w:∀n:Nat,n<4294967296->AC .u64 (.int .u32 (n:Int))=some (.int .u64 (n:Int)):=λn h=>by rw[Bo,Ch (by omega) (by omega)]
 have w1:IntKind.u64.wrap ((x:Int)+(y:Int))=((x+y:Nat):Int):=by rw[Ch] <;> omega
 have w2:IntKind.u64.wrap (((x+y:Nat):Int)+(c:Int))=((x+y+c:Nat):Int):=by rw[Ch] <;> omega
 have w4:AC .u32 (.int .u64 ((x+y+c:Nat):Int))=some (.int .u32 (((x+y+c)%4294967296:Nat):Int)):=by rw[Bo,Pf]
 have w5:=Nk (x+y+c);have w6:AC .u32 (.int .u64 (((x+y+c) / 4294967296:Nat):Int))=some (.int .u32 (((x+y+c) / 4294967296:Nat):Int)):=by rw[Bo,Dj (by omega) (by omega)]
 unfold UbP;simp only[GMw,w x hx,w y hy,w c (by omega),w1,w2,w4,w5,w6]
theorem Vdr {H:Aa}{o:zAb}{v:Nat}(hol:o.length<1099511627780)(aJ:Lim o)(pW:val o=v) :
  (Uab (.ms H.length 0 0 o.length o.length 1 true) (H++[Blk.cel 0 (flat cU o)])).bind (λr=>match r.1 with | .ret x=>rPN H x r.2 | .pan x=>none)=some (.ret (.sl (enL cU (A4 v)) .no),H):=by
 have dZ:=VhM (l:=o) (H:=H++[Blk.cel 0 (flat cU o)]) (id:=H.length) Ap (by omega);have htk:=Ju aJ o.length (Vo _);rw[Wc,pW]at htk;have hk:=NY o o.length;have dP:=SQ (f:=cU) (sz:=1) (d:=5) (cap:=o.length) (ex:=true) (As (Ap (cs:=flat cU o) (B:=H))) (Vo H.length) hk;rw[dZ];simp only[zXa,CT];rw[dP,htk]
 rfl
theorem Vks {a b:zAb}{ta tb:Tok}(H:Aa)(ha:Lim a)(hb:Lim b)(hl:a.length<=1099511627776)(hle:b.length<=a.length) :
  Ud3 H (.sl (enL cU a) ta) (.sl (enL cU b) tb) H=some (.ret (.sl (enL cU (A4 (val a+val b))) .no),H):=by
 unfold Ud3;have hn:IntKind.i64.wrap ((a.length:Int)+1)=((a.length+1:Nat):Int):=by rw[An] <;> omega
 have dB:=FZ (f:=cU) (a:=0) (n:=a.length+1) (bytes:=4) (H:=H) (by omega) (by omega);simp only[show cU 0=[Ab.int .u32 0] from rfl]at dB;simp only[GMw,Ax,hn,dB];refine CA (G:=λaA vs H1=>UbQ H aA (ag vs 0) (ag vs 1) (ag vs 2) (ag vs 3) (ag vs 4) (ag vs 5) (ag vs 6) H1) a.length
  (λi=>[.sl (enL cU a) ta,.sl (enL cU b) tb,.ms H.length 0 0 (a.length+1) (a.length+1) 1 true,.int .u32 ((EF a b i).2:Int),.sl (enL cU a) ta,.i6 (a.length:Int),.i6 (i:Int)])
  (λi=>H++[.cel 0 (flat cU ((EF a b i).1++List.replicate (a.length+1-i) 0))]) _ (by omega) (λrec i hi=>?_) (λrec=>?_)
 ·obtain⟨h1,h2,h3,h4⟩:=VbH ha hb i;have d1:decide ((i:Int)<(a.length:Int))=true:=zXc (by omega);have aH:=ha _ (Vz hi);have hg:a[i]?.getD 0=a[i]:=by rw[Vl hi];rfl
  have hidx:=CK (sz:=1) (id:=H.length) (n:=a.length+1) (K:=.i64) (g:=0) (off:=0) (cap:=a.length+1) (ex:=true) (i:=i) (by omega);simp only[Vr,V4]at hidx;have w6:IntKind.i64.wrap ((i:Int)+1)=((i+1:Nat):Int):=by rw[An] <;> omega
  have hst:=DR (f:=cU) (sz:=1) (l:=(EF a b i).1++List.replicate (a.length+1-i) 0) (i:=i) (a:=(a[i]?.getD 0+b[i]?.getD 0+(EF a b i).2)%4294967296) (v:=.int .u32 (((a[i]?.getD 0+b[i]?.getD 0+(EF a b i).2)%4294967296:Nat):Int)) (H:=H++[Blk.cel 0 (flat cU ((EF a b i).1++List.replicate (a.length+1-i) 0))]) (id:=H.length) (As Ap) (by simp;omega) rfl;have aI:((EF a b i).1++List.replicate (a.length+1-i) 0).set i ((a[i]?.getD 0+b[i]?.getD 0+(EF a b i).2)%4294967296)=(EF a b (i+1)).1++List.replicate (a.length+1-(i+1)) 0:=by rw[show a.length+1-i=(a.length+1-(i+1))+1 by omega,zXm,Wa _ _ (by omega),h1,VZ,List.set_cons_zero];simp[EF]
  rw[V4,B6 Ap,Bt,aI]at hst;rw[hg]at hst;have nU:=J6 hb i;have h32:=λK=>Vll aH nU h2 K;have cG:(EF a b (i+1)).2=(a[i]+b[i]?.getD 0+(EF a b i).2) / 4294967296:=by simp only[EF,hg]
  unfold UbQ Ueb;by_cases qX:i<b.length
  ·have d2:decide ((i:Int)<(b.length:Int))=true:=zXc (by omega);have jW:b[i]?.getD 0=b[i]:=by rw[Vl qX];rfl
   rw[jW]at h32 hst cG;simp only[Al,Aj,AZ,Bd,Bx,BI,D4,GMw,d1,d2,Ax,Az hi,Az qX,A0,zXh,h32,Ce,Cg,hidx,hst,AJ,w6,cG]
  ·have d2:decide ((i:Int)<(b.length:Int))=false:=zXd (by omega);have jW:b[i]?.getD 0=0:=by rw[zYb (by omega)];rfl
   rw[jW]at h32 hst cG;simp only[Int.natCast_zero]at h32;simp only[Al,Aj,AZ,Bd,Bx,BI,D4,GMw,d1,d2,Ax,Az hi,A0,zXh,h32,Ce,Cg,hidx,hst,AJ,w6,cG]
 ·obtain⟨h1,h2,h3,h4⟩:=VbH ha hb a.length;have d1:decide ((a.length:Int)<(a.length:Int))=false:=zXd (by omega);have hidx:=CK (sz:=1) (id:=H.length) (n:=a.length+1) (K:=.i64) (g:=0) (off:=0) (cap:=a.length+1) (ex:=true) (i:=a.length) (by omega);simp only[Vr,V4]at hidx;have hst:=DR (f:=cU) (sz:=1) (l:=(EF a b a.length).1++List.replicate (a.length+1-a.length) 0) (i:=a.length) (a:=(EF a b a.length).2) (v:=.int .u32 ((EF a b a.length).2:Int)) (H:=H++[Blk.cel 0 (flat cU ((EF a b a.length).1++List.replicate (a.length+1-a.length) 0))]) (id:=H.length) (As Ap) (by simp;omega) rfl;have aI:((EF a b a.length).1++List.replicate (a.length+1-a.length) 0).set a.length (EF a b a.length).2=(EF a b a.length).1++[(EF a b a.length).2]:=by
   rw[show a.length+1-a.length=1 by omega,Wa _ _ (by omega),h1,VZ]
   rfl
  rw[V4,B6 Ap,Bt,aI]at hst;obtain⟨o,ho⟩:∃o,o=(EF a b a.length).1++[(EF a b a.length).2]:=⟨_,rfl⟩;have hol:o.length=a.length+1:=by rw[ho];simp[h1]
  have aJ:Lim o:=by
   intro x kA;rw[ho]at kA;rcases VA.1 kA with h | h
   ·exact h3 x h
   ·rw[VB.1 h];omega
  have pW:val o=val a+val b:=by rw[ho,Cs,h1,JN];rw[Wc,Vy hle]at h4;exact h4
  rw[<-ho]at hst;have ht:=Vdr (H:=H) (o:=o) (by omega) aJ pW;rw[hol]at ht;unfold UbQ;simp only[Al,Aj,AZ,Bd,Bx,BI,D4,GMw,d1,Ax,hidx,hst,AJ];have dZ:=VhM (l:=o) (H:=H++[Blk.cel 0 (flat cU o)]) (id:=H.length) Ap (by omega);rw[hol]at dZ;rw[dZ]at ht ⊢;simp only[zXa]at ht;simp only[GMw];exact ht
theorem VnC {a b:zAb}{ta tb:Tok}(H:Aa)(ha:Lim a)(hb:Lim b)(h1:a.length<=1099511627776)(h2:b.length<=1099511627776) :
  UbR (.sl (enL cU a) ta) (.sl (enL cU b) tb) H=some (.ret (.sl (enL cU (A4 (val a+val b))) .no),H):=by
 unfold UbR;by_cases h:a.length<b.length
 ·have d1:decide ((a.length:Int)<(b.length:Int))=true:=zXc (by omega);simp only[GMw,Ax,d1];rw[Vks H hb ha h2 (by omega),XS]
 ·have d1:decide ((a.length:Int)<(b.length:Int))=false:=zXd (by omega);simp only[GMw,Ax,d1];exact Vks H ha hb h1 (by omega)
theorem JJ (a b:BitVec 32):Ib .and .u32 (a.toNat:Int) (b.toNat:Int)=some (.int .u32 ((a &&& b).toNat:Int))/\Ib .or .u32 (a.toNat:Int) (b.toNat:Int)=some (.int .u32 ((a ||| b).toNat:Int))/\Ib .xor .u32 (a.toNat:Int) (b.toNat:Int)=some (.int .u32 ((a ^^^ b).toNat:Int)):=by
 have ho:∀v:BitVec 32,BitVec.ofInt 32 (v.toNat:Int)=v:=λv=>by rw[BitVec.ofInt_natCast,BitVec.ofNat_toNat,BitVec.setWidth_eq]
 have hw:∀v:BitVec 32,IntKind.u32.wrap (v.toNat:Int)=(v.toNat:Int):=λv=>by have:=v.isLt;rw[Dj (by omega) (by omega)]
 refine⟨?_,?_,?_⟩
 ·show some (Ab.int .u32 (IntKind.u32.wrap (((BitVec.ofInt 32 (a.toNat:Int)) &&& (BitVec.ofInt 32 (b.toNat:Int))).toNat:Int)))=_;rw[ho,ho,hw]
 ·show some (Ab.int .u32 (IntKind.u32.wrap (((BitVec.ofInt 32 (a.toNat:Int)) ||| (BitVec.ofInt 32 (b.toNat:Int))).toNat:Int)))=_;rw[ho,ho,hw]
 ·show some (Ab.int .u32 (IntKind.u32.wrap (((BitVec.ofInt 32 (a.toNat:Int)) ^^^ (BitVec.ofInt 32 (b.toNat:Int))).toNat:Int)))=_;rw[ho,ho,hw]
theorem Vlq (a:BitVec 32):unA .xor (.int .u32 (a.toNat:Int))=some (.int .u32 ((~~~a).toNat:Int)):=by
 have h:=(JJ (BitVec.allOnes 32) a).2.2;have e:((BitVec.allOnes 32).toNat:Int)=4294967295:=by decide
 rw[e]at h;have hn : ~~~a=BitVec.allOnes 32 ^^^ a:=BitVec.allOnes_xor.symm;rw[hn];exact h
theorem Vlu (v:BitVec 32):Af .none .shr (.int .u32 (v.toNat:Int)) (.int .u64 31)=some (.int .u32 ((if v.msb then 1 else 0:Nat):Int)):=by
 have hs:Af .none .shr (.int .u32 (v.toNat:Int)) (.int .u64 31)=some (.int .u32 (Int.fdiv (v.toNat:Int) (2^(min (31:Int).toNat IntKind.u32.bits)))):=rfl;have hlt:=v.isLt;rw[hs,show (2:Int)^(min (31:Int).toNat IntKind.u32.bits)=2147483648 from by decide,Xp _ (by omega)]
 congr 2
 rw[X6];by_cases h:2147483648<=v.toNat
 ·have:decide (2^(32-1)<=v.toNat)=true:=zXc (by omega);rw[this];simp only[if_true];omega
 ·have:decide (2^(32-1)<=v.toNat)=false:=zXd (by omega);rw[this];simp only[Vq,if_false];omega
theorem M3 (op:BinOp)(aD:Dr op=false)(a b:Int)(hb:∀k x y,Fu op k x y=Ib op k x y):Af .none op (.int .u32 a) (.int .u32 b)=Ib op .u32 a b:=by show (if Dr op then _ else if IntKind.u32=IntKind.u32 then Fu op .u32 a b else none)=_;rw[aD,if_neg (by decide),if_pos rfl,hb]
theorem Vlg {x y c:Nat}(hx:x<4294967296)(hy:y<4294967296)(hc:c<=1)(H:Aa):UaM (.int .u32 (x:Int)) (.int .u32 (y:Int)) (.int .u32 (c:Int)) H =
  some (.ret (.tup [.int .u32 (((x+4294967296-y-c)%4294967296:Nat):Int),.int .u32 ((if x<y+c then 1 else 0:Nat):Int)]),H):=by
 obtain⟨a,ha⟩:∃a:BitVec 32,a.toNat=x:=⟨BitVec.ofNat 32 x,by rw[WW];omega⟩;obtain⟨b,hb⟩:∃b:BitVec 32,b.toNat=y:=⟨BitVec.ofNat 32 y,by rw[WW];omega⟩;obtain⟨d,hd⟩:∃d:BitVec 32,d.toNat=(x+4294967296-y-c)%4294967296:=⟨BitVec.ofNat 32 ((x+4294967296-y-c)%4294967296),by rw[WW];omega⟩;have sC:∀z:Int,IntKind.u32.wrap z=z%4294967296:=λz=>by simp only[IntKind.wrap,IntKind.bits,IntKind.signed];simp
 have w1:IntKind.u32.wrap (IntKind.u32.wrap ((x:Int)-(y:Int))-(c:Int))=(d.toNat:Int):=by rw[sC,sC,hd];omega
 have e1:∀p q:BitVec 32,Af .none .and (.int .u32 (p.toNat:Int)) (.int .u32 (q.toNat:Int))=some (.int .u32 ((p &&& q).toNat:Int)):=λp q=>by rw[M3 .and rfl _ _ (λ_ _ _=>rfl)];exact (JJ p q).1
 have e2:∀p q:BitVec 32,Af .none .or (.int .u32 (p.toNat:Int)) (.int .u32 (q.toNat:Int))=some (.int .u32 ((p ||| q).toNat:Int)):=λp q=>by rw[M3 .or rfl _ _ (λ_ _ _=>rfl)];exact (JJ p q).2.1
 have e3:∀p q:BitVec 32,Af .none .xor (.int .u32 (p.toNat:Int)) (.int .u32 (q.toNat:Int))=some (.int .u32 ((p ^^^ q).toNat:Int)):=λp q=>by rw[M3 .xor rfl _ _ (λ_ _ _=>rfl)];exact (JJ p q).2.2
 have hm:(if ((~~~a &&& b) ||| (~~~(a ^^^ b) &&& d)).msb then 1 else 0:Nat)=if x<y+c then 1 else 0:=by rw[BitVec.msb_or,BitVec.msb_and,BitVec.msb_and,BitVec.msb_not,BitVec.msb_not,BitVec.msb_xor,X6 a,X6 b,X6 d,ha,hb,hd];have q1:decide (2^(32-1)<=x)=decide (2147483648<=x):=rfl;have q2:decide (2^(32-1)<=y)=decide (2147483648<=y):=rfl;have q3:decide (2^(32-1)<=(x+4294967296-y-c)%4294967296)=decide (2147483648<=(x+4294967296-y-c)%4294967296):=rfl;rw[q1,q2,q3];by_cases c1:2147483648<=x <;> by_cases c2:2147483648<=y <;> by_cases c3:2147483648<=(x+4294967296-y-c)%4294967296 <;> simp only[c1,c2,c3,decide_true,decide_false] <;> (first | (rw[if_pos (by decide),if_pos (by omega)]) | (rw[if_neg (by decide),if_neg (by omega)]))
 unfold UaM;simp only[GMw,w1];rw[<-ha,<-hb];simp only[GMw,Vlq,e1,e2,e3,Vlu,BB];rw[hm,hd,ha,hb]
theorem VhK {l:zAb}{H:Aa}{id k:Nat}{ex:Bool}(hg:A6 H id 0=some (flat cU l))(hk:k<=l.length)(hl:l.length<9223372036854775807):Uew (.ms id 0 0 k l.length 1 ex) H=some (.ret (.bool (decide (k=0)||decide (l[k-1]?.getD 0≠0))),H):=by
 unfold Uew;cases k with
 |zero=>simp[A5]
 |succ k=>
  have hidx:=CK (sz:=1) (id:=id) (n:=k+1) (K:=.i64) (g:=0) (off:=0) (cap:=l.length) (ex:=ex) (i:=k) (by omega);simp only[Vr,V4]at hidx;have hld:=HR (f:=cU) (id:=id) (l:=l) (H:=H) hg (i:=k) (by omega);have h0:¬((k+1:Nat):Int)=0:=by omega
  have hw:IntKind.i64.wrap (((k+1:Nat):Int)-1)=(k:Int):=by rw[An] <;> omega
  have vK:l[k]? = some l[k]:=Vl (by omega);simp only[show A5 (.ms id 0 0 (k+1) l.length 1 ex)=some (.i6 ((k+1:Nat):Int)) from rfl,GMw,h0,hw,hidx,hld,VH,vK,Option.getD_some,Xh];by_cases h:l[k]=0
  ·simp[h]
  ·have:¬(l[k]:Int)=0:=by omega
   simp[h,this]
theorem VjG {l:zAb}{H:Aa}{id:Nat}{ex:Bool}(hg:A6 H id 0=some (flat cU l))(hl:l.length<1152921504606846976):Uab (.ms id 0 0 l.length l.length 1 ex) H=some (.ret (.ms id 0 0 (GL l l.length) l.length 1 ex),H):=by
 unfold Uab;refine Br (σ:=Nat) (λk=>k<=l.length/\GL l k=GL l l.length) (λk=>[.ms id 0 0 k l.length 1 ex]) (λ_=>H) (λk=>k) (λ_=>some (.ret (.ms id 0 0 (GL l l.length) l.length 1 ex),H)) (λk rec hi hrec=>?_) l.length ⟨Vo _,rfl⟩ (by omega);obtain⟨hk,ht⟩:=hi;unfold Uad;simp only[Al,VhK hg hk (by omega),GMw];cases k with
 |zero=>simp[<-ht,GL,rKN,fin,forget,Em,fgt]
 |succ k=>
  by_cases h:l[k]?.getD 0=0
  ·have hw:IntKind.i64.wrap (((k+1:Nat):Int)-1)=(k:Int):=by rw[An] <;> omega
   have hsl:BS 1 (.ms id 0 0 (k+1) l.length 1 ex) none (some (.i6 (k:Int))) none=some (.ms id 0 0 k l.length 1 ex):=by
    have:(0:Int)<=(k:Int):=by omega
    simp only[BS,Bw,zXa,this,if_true,zXl];rw[if_pos ⟨trivial,by omega,by omega,by omega⟩];simp
   have dM:GL l k=GL l l.length:=by rw[<-ht];simp[GL,h]
   have hr:=hrec k ⟨by omega,dM⟩ (by omega);simp only[h,show A5 (.ms id 0 0 (k+1) l.length 1 ex)=some (.i6 ((k+1:Nat):Int)) from rfl,GMw,hw,hsl,VH,ne_eq,not_true_eq_false,Xh];exact hr
  ·have dM:GL l (k+1)=k+1:=by simp[GL,h]
   have hr:(decide (k+1=0)||decide (l[k+1-1]?.getD 0≠0))=true:=by simp[h]
   simp only[hr,GMw,Ef,forget,Em,fgt];rw[<-ht,dM]
theorem VgN (l:zAb)(tk:Tok)(H:Aa)(hl:l.length<=1099511627776):UaL (.sl (enL cU l) tk) H=some (if l=[]then (.ret (.sl [] .ti),H)else (.ret (.ms H.length 0 0 l.length l.length 1 false),H++[.buf 0 (flat cU l) Cd 1])):=by
 have hb:AN 1 []=some (.sl [] .ti):=rfl;unfold UaL;cases l with
 |nil=>have ha:FK Cd 1 4 (.sl [] .ti) (.sl (enL cU []) tk) H=some (.sl [] .ti,H):=rfl;have hn:QV .eql (.sl (enL cU []) tk)=some .ubool:=rfl;have hu:∀x:Out,Ak .ubool x x=x:=λx=>if_pos rfl;simp only[hn,GMw,hb,ha];exact hu _
 |cons c l=>
  have hn:QV .eql (.sl (enL cU (c::l)) tk)=some (.bool false):=rfl;have ha:FK Cd 1 4 (.sl [] .ti) (.sl (enL cU (c::l)) tk) H=some (.ms H.length 0 0 (c::l).length (c::l).length 1 false,H++[.buf 0 (flat cU (c::l)) Cd 1]):=by
   have he:Cw 1 (.sl (enL cU (c::l)) tk) H=some (enL cU (c::l)):=VcR;have hlen:(enL cU (c::l)).length=(c::l).length:=by simp[enL]
   unfold FK;rw[he];simp only[zXa];unfold If;rw[hlen,if_neg (by simp)];simp only[zXk,Vr,List.all_nil,List.nil_append];rw[if_pos ⟨trivial,by omega,by omega⟩]
   rfl
  simp only[hn,GMw,hb,ha];rw[if_neg (by simp)]
def dgS (x y c:Nat):Nat:=(x+4294967296-y-c)%4294967296
def bwS (x y c:Nat):Nat:=if x<y+c then 1 else 0
theorem Vma {P W x y c:Nat}(h:x<y+c)(hy:y+c<=x+W):P*(x+W-y-c)+P*y+P*c=P*x+P*W:=by rw[<-W4,<-W4,<-W4,show x+W-y-c+y+c=x+W by omega]
theorem VlZ {P x y c:Nat}(h:y+c<=x):P*(x-y-c)+P*y+P*c=P*x:=by rw[<-W4,<-W4,show x-y-c+y+c=x by omega]
theorem VlX {W x y c:Nat}(hx:x<W)(hy:y<W)(hc:c<=1):(x+W-y-c)%W=if x<y+c then x+W-y-c else x-y-c:=by
 by_cases h:x<y+c
 ·rw[if_pos h,Wr (by omega)]
 ·rw[if_neg h,show x+W-y-c=(x-y-c)+W by omega,Nat.add_mod_right,Wr (by omega)]
theorem VlY {v1 v2 u P Q W x y c d r:Nat}(h4:v1+v2=u+P*c)(hQ:Q=P*W)(hr:r=if x<y+c then x+W-y-c else x-y-c)(hd:d=if x<y+c then 1 else 0)(hy:y+c<=x+W):v1+P*r+(v2+P*y)=u+P*x+Q*d:=by
 by_cases h:x<y+c
 ·rw[if_pos h]at hr hd;have:=Vma (P:=P) h hy;rw[hr,hd,hQ,V4];omega
 ·rw[if_neg h]at hr hd;have:=VlZ (P:=P) (show y+c<=x by omega);rw[hr,hd,Nat.mul_zero];omega
theorem Vp4 {x y c:Nat}(hx:x<4294967296)(hy:y<4294967296)(hc:c<=1):dgS x y c=if x<y+c then x+4294967296-y-c else x-y-c:=VlX hx hy hc
theorem Vp3 (x y c:Nat):dgS x y c<4294967296:=WJ _ (by decide)
theorem Vp8 (x y c:Nat):bwS x y c<=1:=by unfold bwS;split <;> omega
def Fv (a b:zAb):Nat->zAb×Nat
 |0=>([],0)
 |i+1=>((Fv a b i).1++[dgS (a[i]?.getD 0) (b[i]?.getD 0) (Fv a b i).2],bwS (a[i]?.getD 0) (b[i]?.getD 0) (Fv a b i).2)
theorem Vbs {a b:zAb}(ha:Lim a)(hb:Lim b):∀i,(Fv a b i).1.length=i/\(Fv a b i).2<=1/\Lim (Fv a b i).1/\val (Fv a b i).1+val (b.take i)=val (a.take i)+4294967296^i*(Fv a b i).2
 |0=>⟨rfl,VL _,λx h=>(by cases h),by simp[Fv,val]⟩
 |i+1=>by
  obtain⟨h1,h2,h3,h4⟩:=Vbs ha hb i;have g1:=J6 ha i;have g2:=J6 hb i;simp only[Fv];refine⟨by simp[h1],Vp8 _ _ _,?_,?_⟩
  ·intro x hx;rcases VA.1 hx with h | h
   ·exact h3 x h
   ·rw[VB.1 h];exact Vp3 _ _ _
  ·rw[ME,ME,Cs,h1,JN];exact VlY h4 (Nat.pow_succ _ _) (Vp4 g1 g2 h2) rfl (VM (Nat.add_le_add (Nat.le_of_lt_succ g2) h2) (Nat.le_add_left _ _))
theorem Vgm {α:Type}{f:α->List Ab}{sz:Nat}[hf:Sz f sz][hp:Pl f]{H:Aa}{l:List α}{id b d cap k:Nat}{ex:Bool}(hg:A6 H id 0=some (flat f l))(hi:b<=id)(hk:k<=l.length):ET H b (d+3) (.ms id 0 0 k cap sz ex)=some (.sl (enL f (l.take k)) .no):=by
 have h1:¬id<b:=by omega
 have h2:k*sz<=l.length*sz:=VV _ hk;have h3:(l.take k).length=k:=by simp;omega
 have h4:=Mk (f:=f) (l.take k);rw[h3]at h4;unfold ET;simp only[frz,h1,if_false,hg,zXa,WC,Vr,EV,h2,if_true,Na,GR (Nb (f:=f) (l.take k)),OB (f:=f) (l.take k),h4,zXb,Em,fgt]
theorem FU {l:zAb}(h:Lim l):val l<4294967296^l.length:=by
 induction l with
 |nil=>simp[val]
 |cons x l ih=>have h1:=h x (by simp);have h2:=ih λy hy=>h y (by simp[hy]);have e:val (x::l)=x+4294967296*val l:=rfl;rw[e,zXj,Nat.pow_succ,W8 _ 4294967296];have:4294967296*(val l+1)<=4294967296*4294967296^l.length:=Ww _ h2;rw[W4]at this;omega
theorem VgD (H:Aa)(tk:Tok):Uab (.sl [] tk) H=some (.ret (.sl [] .no),H):=by
 have hr:Uew (.sl [] tk) H=some (.ret (.bool true),H):=by unfold Uew;simp[A5]
 unfold Uab;rw[DT ES];unfold Uad;simp only[Al,GMw,hr,Ef,forget,Em,fgt]
theorem Vn4 {a b:zAb}{ta tb:Tok}(H:Aa)(ha:Lim a)(hb:Lim b)(hl:a.length<=1099511627776)(hle:b.length<=a.length)(hv:val b<=val a) :
  UbS (.sl (enL cU a) ta) (.sl (enL cU b) tb) H=some (.ret (.tup [.sl (enL cU (A4 (val a-val b))) .no,.bool true]),H):=by
 have dL:=λK=>OO (t:=ta) (t':=tb) K ha hb hl (by omega);have kL:decide (F7 (val a:Int) (val b:Int)<0)=false:=by rw[Ng];exact zXd (by omega)
 have aG:=VgN a ta H hl;unfold UbS;by_cases h0:a=[]
 ·subst h0;rw[if_pos rfl]at aG;have rU:b=[]:=V6 (by simpa using hle);subst rU;have hlen:A5 (.sl [] .ti)=some (.i6 0):=rfl;have d0:decide ((0:Int)<0)=false:=rfl;have e0:A4 (val []-val [])=[]:=EA;simp only[GMw,dL,kL,aG,hlen];rw[DT ES];unfold UaN;simp only[Al,Aj,AZ,Bd,Bx,BI,GMw,d0,VgD,Oh,Dn,BY,Cv,O9,GU,zXb,e0]
  rfl
 ·rw[if_neg h0]at aG;have hlen:A5 (.ms H.length 0 0 a.length a.length 1 false)=some (.i6 (a.length:Int)):=rfl;simp only[GMw,dL,kL,aG,hlen];refine CA (G:=λrec1 vs H1=>UaN H rec1 (ag vs 0) (ag vs 1) (ag vs 2) (ag vs 3) (ag vs 4) H1) a.length
   (λi=>[.sl (enL cU b) tb,.ms H.length 0 0 a.length a.length 1 false,.int .u32 ((Fv a b i).2:Int),.i6 (a.length:Int),.i6 (i:Int)])
   (λi=>H++[.buf 0 (flat cU ((Fv a b i).1++a.drop i)) Cd 1]) _ (by omega) (λrec i hi=>?_) (λrec=>?_)
  ·obtain⟨h1,h2,h3,h4⟩:=Vbs ha hb i;have d1:decide ((i:Int)<(a.length:Int))=true:=zXc (by omega);have aH:=ha _ (Vz hi);have hg:a[i]?.getD 0=a[i]:=by rw[Vl hi];rfl
   have hidx:=CK (sz:=1) (id:=H.length) (n:=a.length) (K:=.i64) (g:=0) (off:=0) (cap:=a.length) (ex:=false) (i:=i) hi;simp only[Vr,V4]at hidx;have iN:A6 (H++[Blk.buf 0 (flat cU ((Fv a b i).1++a.drop i)) Cd 1]) H.length 0=some (flat cU ((Fv a b i).1++a.drop i)):=by simp[A6]
   have hil:i<((Fv a b i).1++a.drop i).length:=by rw[Vs,h1,V9];omega
   have rH:((Fv a b i).1++a.drop i)[i]=a[i]:=by rw[Wt (by omega)];simp only[h1,VZ];rw[Xn];rfl
   have hld:=HR (f:=cU) iN hil;rw[rH]at hld;have w6:IntKind.i64.wrap ((i:Int)+1)=((i+1:Nat):Int):=by rw[An] <;> omega
   have hst:=DR (f:=cU) (sz:=1) (a:=dgS (a[i]?.getD 0) (b[i]?.getD 0) (Fv a b i).2) (v:=.int .u32 (dgS (a[i]?.getD 0) (b[i]?.getD 0) (Fv a b i).2:Int)) iN hil rfl;have aI:((Fv a b i).1++a.drop i).set i (dgS (a[i]?.getD 0) (b[i]?.getD 0) (Fv a b i).2)=(Fv a b (i+1)).1++a.drop (i+1):=by rw[Wa _ _ (by omega),h1,VZ,VJ hi,List.set_cons_zero];simp only[Fv,Vu,List.cons_append,List.nil_append]
   have zF:∀cs,F0 (H++[Blk.buf 0 (flat cU ((Fv a b i).1++a.drop i)) Cd 1]) H.length 0 cs=H++[Blk.buf 0 cs Cd 1]:=λcs=>by simp[F0]
   rw[V4,zF,aI]at hst;rw[hg]at hst;have nU:=J6 hb i;have h32:∀K,UaM (.int .u32 (a[i]:Int)) (.int .u32 ((b[i]?.getD 0:Nat):Int)) (.int .u32 ((Fv a b i).2:Int)) K=some (.ret (.tup [.int .u32 (dgS a[i] (b[i]?.getD 0) (Fv a b i).2:Int),.int .u32 (bwS a[i] (b[i]?.getD 0) (Fv a b i).2:Int)]),K):=λK=>Vlg aH nU h2 K;have cG:(Fv a b (i+1)).2=bwS a[i] (b[i]?.getD 0) (Fv a b i).2:=by simp only[Fv,hg]
   unfold UaN Uec;by_cases qX:i<b.length
   ·have d2:decide ((i:Int)<(b.length:Int))=true:=zXc (by omega);have jW:b[i]?.getD 0=b[i]:=by rw[Vl qX];rfl
    rw[jW]at h32 hst cG;simp only[Al,Aj,AZ,Bd,Bx,BI,D4,GMw,d1,d2,Ax,Az qX,A0,zXh,hidx,hld,h32,Ce,Cg,hst,AJ,w6,cG]
   ·have d2:decide ((i:Int)<(b.length:Int))=false:=zXd (by omega);have jW:b[i]?.getD 0=0:=by rw[zYb (by omega)];rfl
    rw[jW]at h32 hst cG;simp only[Int.natCast_zero]at h32;simp only[Al,Aj,AZ,Bd,Bx,BI,D4,GMw,d1,d2,Ax,zXh,hidx,hld,h32,Ce,Cg,hst,AJ,w6,cG]
  ·obtain⟨h1,h2,h3,h4⟩:=Vbs ha hb a.length;have d1:decide ((a.length:Int)<(a.length:Int))=false:=zXd (by omega);rw[Wc,Vy hle]at h4;have hlt:=FU h3;rw[h1]at hlt;have vV:(Fv a b a.length).2=0:=by
    rcases Xt (Fv a b a.length).2 with q | q
    ·exact q
    ·have:(Fv a b a.length).2=1:=by omega
     rw[this,V4]at h4;omega
   rw[vV,Nat.mul_zero]at h4;rw[Yr,VF];obtain⟨o,ho⟩:∃o,o=(Fv a b a.length).1:=⟨_,rfl⟩;rw[<-ho]at h1 h3 h4 ⊢;have iN:A6 (H++[Blk.buf 0 (flat cU o) Cd 1]) H.length 0=some (flat cU o):=by simp[A6]
   have dZ:=VjG (ex:=false) iN (by omega);have htk:=Ju h3 o.length (Vo _);rw[Wc,show val o=val a-val b by omega]at htk;have dP:=Vgm (f:=cU) (sz:=1) (d:=3) (cap:=o.length) (ex:=false) iN (Vo H.length) (NY o o.length);rw[htk]at dP;rw[h1]at dZ dP;unfold UaN;simp only[Al,Aj,AZ,Bd,Bx,BI,GMw,d1,dZ,CT,Dn,BY,Cv,GU,dP,zXb,BB]
theorem LI (neg:Bool)(n:Nat)(tk:Tok)(H:Aa):UdB (.bool neg) (.sl (enL cU (A4 n)) tk) H=some (.ret (big (if neg then -(n:Int)else n)),H):=by
 unfold UdB big;rw[<-Vb4];have hp:=QD n;cases neg with
 |false=>simp[AD,GH,Dx,sgn,Cc]
 |true=>simp only[GF,BZ,zXa,Ax,Du,hp,sgn,zXn,alloc_eq (cs:=[.bool false,.sl [] .ti]) rfl,Bj];simp[AD,GH,Dx,Cc]
theorem Vfx (z:Int)(H:Aa):UaY (big z) H=some (.ret (big (-z)),H):=by
 have e:(if (!decide (z<0))=true then -(z.natAbs:Int)else (z.natAbs:Int)) = -z:=by
  by_cases h:z<0
  ·rw[zXc h,VR,if_neg (by decide)];omega
  ·rw[zXd h,Wg,if_pos rfl];omega
 have ez:∀K,UdB (.bool (!decide (z<0))) (.sl (enL cU (A4 z.natAbs)) .no) K=some (.ret (big (-z)),K):=λK=>by rw[LI,e]
 unfold UaY;simp[D0,ez]
theorem Vkx {n:Int}(h0:-9223372036854775808<=n)(h:n<0):unA .neg (.int .u64 (IntKind.u64.wrap n))=some (.int .u64 (n.natAbs:Int)):=by
 have w:IntKind.u64.wrap (0-IntKind.u64.wrap n)=(n.natAbs:Int):=by rw[Jt (n:=n) (by omega) h,Jt (by omega) (by omega)];omega
 rw[show unA .neg (.int .u64 (IntKind.u64.wrap n))=some (.int .u64 (IntKind.u64.wrap (0-IntKind.u64.wrap n))) from rfl,w]
theorem Vn7 {l:zAb}{tk:Tok}(H:Aa)(hx:Lim l)(hl:l.length<=1099511627776):UbN (.sl (enL cU l) tk) H=some (.ret (.sl (enL cU (A4 (val l))) .no),H):=by
 have aG:=VgN l tk H hl;unfold UbN;by_cases h0:l=[]
 ·subst h0;rw[if_pos rfl,IY]at aG;rw[IY];simp only[GMw,aG,VgD,Oh,show val []=0 from rfl,EA,HU,zXb,IY]
 ·rw[if_neg h0]at aG;have iN:A6 (H++[Blk.buf 0 (flat cU l) Cd 1]) H.length 0=some (flat cU l):=by simp[A6]
  have dZ:=VjG (ex:=false) iN (by omega);have htk:=Ju hx l.length (Vo _);rw[Wc]at htk;have dP:=SQ (f:=cU) (sz:=1) (d:=5) (cap:=l.length) (ex:=false) iN (Vo H.length) (NY l l.length);rw[htk]at dP;simp only[GMw,aG,dZ,CT,dP]
  rfl
theorem Vpo (n:Int)(H:Aa)(h0:-9223372036854775808<=n)(h1:n<=9223372036854775807):Uaf (.i6 n) H=some (.ret (big n),H):=by
 obtain⟨u,hu⟩:∃u:Nat,u=n.natAbs:=⟨_,rfl⟩;have hlim:Lim [u%4294967296,u / 4294967296]:=λx hx=>by simp at hx;rcases hx with rfl | rfl <;> omega
 have aO:val [u%4294967296,u / 4294967296]=u:=by simp[val];omega
 have ez:(if decide (n<0)=true then -(u:Int)else (u:Int))=n:=by by_cases h:n<0 <;> simp[h] <;> omega
 have uJ:=λH=>Vn7 (l:=[u%4294967296,u / 4294967296]) (tk:=.ti) H hlim (by simp);rw[aO]at uJ;have a1:=λH=>LI (decide (n<0)) u .no H;rw[ez]at a1;have e3:AC .u32 (.int .u64 (u:Int))=some (.int .u32 ((u%4294967296:Nat):Int)):=by rw[Bo,Pf]
 have e2:=Nk u;have e4:AC .u32 (.int .u64 ((u / 4294967296:Nat):Int))=some (.int .u32 ((u / 4294967296:Nat):Int)):=by rw[Bo,Dj (by omega) (by omega)]
 have j1:Ud2 H (.i6 n) (.ptr H.length 0 0) (.int .u64 (u:Int)) (H++[.cel 0 [.bool false,.sl [] .ti]])=some (.ret (big n),H):=by unfold Ud2;simp only[Bh,zXa,e3,e2,e4,Vdj,uJ,a1,CD];simp
 unfold Uaf;simp only[alloc_eq (cs:=[.bool false,.sl [] .ti]) rfl,Bj,Bo,zXa,AM,Bh,Al,AZ,Bd];by_cases h:n<0
 ·have un:=Vkx h0 h;rw[<-hu]at un;rw[zXc h];simp only[AU,un,zXa,Al,AZ,Bd];exact j1
 ·have w:IntKind.u64.wrap n=(u:Int):=by rw[Ch (by omega) (by omega)];omega
  rw[zXd h];simp only[AI,w,Al,AZ,Bd];exact j1
theorem MV {m n:Nat}(h:m<=n):(A4 m).length<=(A4 n).length:=by refine EP ?_;have:=FU (Bn n);rw[B2]at this;omega
theorem Vck {a b:Int}(H:Aa)(ha:LB a)(hb:LB b):Uex (big a) (big b) H=some (.ret (big (a+b)),H):=by
 have sg:∀(neg:Bool) (m:Nat) (z:Int) (tk:Tok) (K:Aa),(if neg then -(m:Int)else (m:Int))=z->UdB (.bool neg) (.sl (enL cU (A4 m)) tk) K=some (.ret (big z),K):=λneg m z tk K h=>by rw[LI,h]
 unfold LB at ha hb;have aQ:=λK=>VnC (ta:=.no) (tb:=.no) K (Bn a.natAbs) (Bn b.natAbs) (by omega) (by omega);have dL:=λK=>OO (t:=.no) (t':=.no) K (Bn a.natAbs) (Bn b.natAbs) (by omega) (by omega);simp only[B2]at aQ dL;unfold Uex;by_cases hn:decide (a<0)=decide (b<0)
 ·have ez:(if decide (a<0)=true then -((a.natAbs+b.natAbs:Nat):Int)else ((a.natAbs+b.natAbs:Nat):Int))=a+b:=by
   by_cases h1:a<0
   ·have h2:b<0:=by rw[zXc h1]at hn;exact of_decide_eq_true hn.symm
    rw[zXc h1,if_pos rfl];omega
   ·have h2:¬b<0:=by rw[zXd h1]at hn;exact of_decide_eq_false hn.symm
    rw[zXd h1,if_neg (by decide)];omega
  have hbb:(decide (a<0) == decide (b<0))=true:=by rw[hn];exact beq_self_eq_true _
  simp only[D0,Bj,Vu,List.singleton_append];simp[VN,D0,IF,hbb,Bm,aQ,sg _ _ _ _ _ ez]
 ·have hbb:(decide (a<0) == decide (b<0))=false:=by rw[beq_eq_false_iff_ne];exact hn
  by_cases hv:a.natAbs<b.natAbs
  ·have eJ:=λK=>Vn4 (ta:=.no) (tb:=.no) K (Bn b.natAbs) (Bn a.natAbs) (by omega) (MV (by omega)) (by rw[B2,B2];omega);simp only[B2]at eJ;have hlt:decide (F7 (a.natAbs:Int) (b.natAbs:Int)<0)=true:=by rw[Ng];exact zXc (by omega)
   have ez:(if decide (b<0)=true then -((b.natAbs-a.natAbs:Nat):Int)else ((b.natAbs-a.natAbs:Nat):Int))=a+b:=by
    by_cases h1:b<0
    ·have h2:¬a<0:=λh=>hn (by rw[zXc h1,zXc h]);rw[zXc h1,if_pos rfl];omega
    ·have h2:a<0:=by
      rcases Int.lt_or_le a 0 with h | h
      ·exact h
      ·exact (hn (by rw[zXd h1,zXd (by omega)])).elim
     rw[zXd h1,if_neg (by decide)];omega
   have c0:=AU;simp only[D0,Bj,Vu,List.singleton_append];unfold Ud4;simp[VN,D0,IF,hbb,Bm,dL,hlt,eJ,sg _ _ _ _ _ ez,AM,Ce,Cg]
  ·have eJ:=λK=>Vn4 (ta:=.no) (tb:=.no) K (Bn a.natAbs) (Bn b.natAbs) (by omega) (MV (by omega)) (by rw[B2,B2];omega);simp only[B2]at eJ;have hlt:decide (F7 (a.natAbs:Int) (b.natAbs:Int)<0)=false:=by rw[Ng];exact zXd (by omega)
   have ez:(if decide (a<0)=true then -((a.natAbs-b.natAbs:Nat):Int)else ((a.natAbs-b.natAbs:Nat):Int))=a+b:=by
    by_cases h1:a<0
    ·have h2:¬b<0:=λh=>hn (by rw[zXc h1,zXc h]);rw[zXc h1,if_pos rfl];omega
    ·have h2:b<0:=by
      rcases Int.lt_or_le b 0 with h | h
      ·exact h
      ·exact (hn (by rw[zXd h1,zXd (by omega)])).elim
     rw[zXd h1,if_neg (by decide)];omega
   simp only[D0,Bj,Vu,List.singleton_append];unfold Ud4;simp[VN,D0,IF,hbb,Bm,dL,hlt,eJ,sg _ _ _ _ _ ez,AM,Ce,Cg]
theorem Vn3 {a b:Int}(H:Aa)(ha:LB a)(hb:LB b):Uch (big a) (big b) H=some (.ret (big (a-b)),H):=by unfold Uch;simp only[D0,Bj,Vu,List.singleton_append];simp[VN,D0,Bm,Vfx,Vck _ ha hb.neg,Int.sub_eq_add_neg]
theorem VjM {x y:Nat}(hx:x<4294967296)(hy:y<4294967296):Af .none .or (.int .u32 (x:Int)) (.int .u32 (y:Int))=some (.int .u32 ((x ||| y:Nat):Int)):=by have h:=(JJ (BitVec.ofNat 32 x) (BitVec.ofNat 32 y)).2.1;rw[BitVec.toNat_or,WW,WW,Wr hx,Wr hy]at h;rw[M3 .or rfl _ _ (λ_ _ _=>rfl)];exact h
theorem VeA {K:IntKind}{r:Nat}(h:r<32)(hw:K.wrap ((2^r:Nat):Int)=((2^r:Nat):Int))(hb:32<=K.bits):Af .none .shl (.int K 1) (.i6 (r:Int))=some (.int K ((2^r:Nat):Int)):=by
 show Hm .shl K 1 (r:Int)=_;unfold Hm;rw[if_neg (by omega)];have e:(2:Int)^r=((2^r:Nat):Int):=by simp
 simp only[zXl,Wl (show r<=K.bits by omega),Int.one_mul,e,hw]
theorem Om {r:Nat}(h:r<32):2^r<4294967296:=by have:(2:Nat)^r<2^32:=Ya (by decide) h;simpa using this
theorem Vej (k:Nat)(l:zAb):val (List.replicate k 0++l)=4294967296^k*val l:=by
 rw[Cs,WH];have:val (List.replicate k 0)=0:=by
  induction k with
  |zero=>rfl
  |succ k ih=>rw[zXm];show 0+4294967296*val (List.replicate k 0)=0;rw[ih]
 rw[this,Vr]
theorem Vna {n:Nat}(h:n<4294967296):IntKind.u32.wrap (n:Int)=(n:Int)/\IntKind.u64.wrap (n:Int)=(n:Int):=
 ⟨Dj (by omega) (by omega),Ch (by omega) (by omega)⟩
def JV (m:Nat):zAb:=List.replicate (m / 32) 0++[2^(m%32),0]
theorem LH (m:Nat):(JV m).length=m / 32+2:=by simp[JV]
theorem Vie (m:Nat):Lim (JV m):=by
 intro x hx;rcases VA.1 hx with h | h
 ·rw[(XE.1 h).2];decide
 ·rcases Wf.1 h with rfl | h
  ·exact Om (WJ _ (by decide))
  ·rw[VB.1 h];decide
theorem Vid (m:Nat):val (JV m)=2^m:=by
 unfold JV;rw[Vej];have:val [2^(m%32),0]=2^(m%32):=by simp[val]
 rw[this,show (4294967296:Nat)=2^32 from by decide,<-XJ,<-Nat.pow_add,Xb]
theorem Un (v:Nat):∀k,(List.replicate (k+2) 0).set k v=List.replicate k 0++[v,0]
 |0=>rfl
 |k+1=>by rw[zXm,List.set_cons_succ,Un v k,zXm,List.cons_append]
theorem Vfp (m:Nat):(List.replicate (m / 32+2) 0).set (m / 32) (2^(m%32))=JV m:=by exact Un _ _
theorem Vfo (m:Nat):(JV m).set (m / 32+1) 0=JV m:=by unfold JV;rw[Wa _ _ (by simp)];simp
theorem Vn6 {m:Nat}(hm:m<=10000)(H:Aa):Ucm (.sl (enL cU [1]) .ti) (.i6 (m:Int)) H=some (.ret (.sl (enL cU (A4 (2^m))) .no),H):=by
 have f1:decide ((m:Int)>=0)=true:=zXc (by omega);have f2:decide ((m:Int)<=10000)=true:=zXc (by omega);have hr:m%32<32:=WJ _ (by decide);have hq:Af .none .quo (.i6 (m:Int)) (.i6 32)=some (.i6 ((m / 32:Nat):Int)):=by show some (Ab.i6 (IntKind.i64.wrap (((m / 32:Nat):Int))))=_;rw[An (by omega) (by omega)]
 have tU:Af .none .rem (.i6 (m:Int)) (.i6 32)=some (.i6 ((m%32:Nat):Int)):=rfl;have w1:IntKind.i64.wrap (((1:Nat):Int)+((m / 32:Nat):Int))=((m / 32+1:Nat):Int):=by rw[An] <;> omega
 have w2:IntKind.i64.wrap (((m / 32+1:Nat):Int)+1)=((m / 32+2:Nat):Int):=by rw[An] <;> omega
 have w3:IntKind.i64.wrap (((0:Nat):Int)+((m / 32:Nat):Int))=((m / 32:Nat):Int):=by rw[An] <;> omega
 have w4:IntKind.i64.wrap (((m / 32:Nat):Int)+1)=((m / 32+1:Nat):Int):=by rw[An] <;> omega
 have w5:IntKind.i64.wrap (((0:Nat):Int)+1)=((1:Nat):Int):=rfl;have dB:=FZ (f:=cU) (a:=0) (n:=m / 32+2) (bytes:=4) (H:=H) (by omega) (by omega);simp only[show cU 0=[Ab.int .u32 0] from rfl]at dB;have xJ:(enL cU [1]).length=1:=rfl;have bI:∀K,Uck (.i6 (m:Int)) K=some (.ret (.bool true),K):=λK=>by unfold Uck;simp only[GMw,f1,f2]
 have d0:decide (((0:Nat):Int)<((1:Nat):Int))=true:=rfl;have d1:decide (((1:Nat):Int)<((1:Nat):Int))=false:=rfl;have ix0:Aw 1 (.sl (enL cU [1]) .ti) (.i6 ((0:Nat):Int))=some (.cptr [.int .u32 1] 0):=rfl;have ld0:∀K,Ad false 1 (.cptr [.int .u32 1] 0) K=some (.int .u32 1):=λ_=>rfl;have lsl:A5 (.sl (enL cU [1]) .ti)=some (.i6 ((1:Nat):Int)):=rfl;have hlt:=Om hr;have s1:=VeA (K:=.u32) hr (Vna hlt).1 (by decide);have s2:=VeA (K:=.u64) hr (Vna hlt).2 (by decide);have c1:AC .u64 (.int .u32 1)=some (.int .u64 1):=rfl;have sh:Af .none .shr (.int .u64 ((2^(m%32):Nat):Int)) (.int .u64 32)=some (.int .u64 0):=by rw[Nk,WK (Om hr)];rfl
 have c2:AC .u32 (.int .u64 0)=some (.int .u32 0):=rfl;have o1:=VjM (x:=0) (y:=2^(m%32)) (by decide) (Om hr);rw[Nat.zero_or]at o1;have o2:Af .none .or (.int .u32 ((0:Nat):Int)) (.int .u32 0)=some (.int .u32 ((0:Nat):Int)):=VjM (x:=0) (y:=0) (by decide) (by decide);have hidx:=CK (sz:=1) (id:=H.length) (n:=m / 32+2) (K:=.i64) (g:=0) (off:=0) (cap:=m / 32+2) (ex:=true) (i:=m / 32) (by omega);have mE:=CK (sz:=1) (id:=H.length) (n:=m / 32+2) (K:=.i64) (g:=0) (off:=0) (cap:=m / 32+2) (ex:=true) (i:=m / 32+1) (by omega);simp only[Vr,V4]at hidx mE;have g1:A6 (H++[Blk.cel 0 (flat cU (List.replicate (m / 32+2) 0))]) H.length 0=some (flat cU (List.replicate (m / 32+2) 0)):=As Ap;have g2:A6 (H++[Blk.cel 0 (flat cU (JV m))]) H.length 0=some (flat cU (JV m)):=As Ap;have ld1:Ad false 1 (.ptr H.length 0 (m / 32)) (H++[Blk.cel 0 (flat cU (List.replicate (m / 32+2) 0))])=some (.int .u32 ((0:Nat):Int)):=by rw[HR g1 (by simp),List.getElem_replicate];rfl
 have ld2:Ad false 1 (.ptr H.length 0 (m / 32+1)) (H++[Blk.cel 0 (flat cU (JV m))])=some (.int .u32 ((0:Nat):Int)):=by
  have hi:m / 32+1<(JV m).length:=by rw[LH];omega
  have:(JV m)[m / 32+1]=0:=by simp[JV,Wt]
  rw[HR g2 hi,this];rfl
 have st1:=DR (f:=cU) (sz:=1) (i:=m / 32) (a:=2^(m%32)) (v:=.int .u32 ((2^(m%32):Nat):Int)) g1 (by simp) rfl;rw[V4,B6 Ap,Bt,Vfp]at st1;have st2:=DR (f:=cU) (sz:=1) (i:=m / 32+1) (a:=0) (v:=.int .u32 ((0:Nat):Int)) g2 (by rw[LH];omega) rfl;rw[V4,B6 Ap,Bt,Vfo]at st2;have ht:=Vdr (H:=H) (o:=JV m) (by rw[LH];omega) (Vie m) (Vid m);have dZ:=VhM (l:=JV m) (H:=H++[Blk.cel 0 (flat cU (JV m))]) (id:=H.length) Ap (by rw[LH];omega);rw[LH]at ht dZ;rw[dZ]at ht;simp only[zXa]at ht;unfold Ucm;simp only[bI,GMw,Je,VR,lsl,hq,w1,w2,dB];refine CA (G:=λrec1 vs H1=>Ucl H rec1 (ag vs 0) (ag vs 1) (ag vs 2) (ag vs 3) (ag vs 4) H1) 1
  (λi=>[.i6 (m:Int),.ms H.length 0 0 (m / 32+2) (m / 32+2) 1 true,.sl (enL cU [1]) .ti,.i6 ((1:Nat):Int),.i6 (i:Int)])
  (λi=>H++[.cel 0 (flat cU (if i=0 then List.replicate (m / 32+2) 0 else JV m))]) _ (by decide) (λrec i hi=>?_) (λrec=>?_)
 ·have jE:i=0:=by omega
  subst jE;unfold Ucl;simp only[if_true,if_neg (show ¬(0+1=0)by decide),Al,Aj,AZ,Bd,Bx,BI,GMw,d0,ix0,ld0,hq,w3,hidx,ld1,tU,s1,o1,st1,AJ,w4,mE,ld2,c1,s2,sh,c2,o2,st2,w5,Bm]
 ·unfold Ucl;simp only[if_neg (show ¬(1=0)by decide),Al,Aj,AZ,Bd,Bx,BI,GMw,d1,dZ];exact ht
set_option maxRecDepth 8000
theorem VaO (l:zAb)(tk:Tok)(H:Aa)(hl:l.length<=1099511627776):Uew (.sl (enL cU l) tk) H=some (.ret (.bool (FM l)),H):=by
 unfold Uew;rcases GN l with rfl | ⟨l',x,rfl⟩
 ·simp[FM]
 ·simp only[Vs,zXi]at hl;have h1:l'.length<(l'++[x]).length:=by simp
  have h3:IntKind.i64.wrap ((((l'++[x]).length:Nat):Int)-1)=(l'.length:Int):=by rw[An] <;> simp <;> omega
  have hne:((((l'++[x]).length:Nat):Int) == 0)=false:=by simp;omega
  have hb:((x:Int) != 0)=(x != 0):=by rw[V8];simp
  simp only[Ax,zXa,Dv,hne,KX,DJ,h3,Az h1,A0,zXh,Wt (Vo _),VZ,List.getElem_cons_zero,Ic,Ca,Oi,hb];simp[FM]
theorem Sq (neg:Bool)(l:zAb)(tk:Tok)(H:Aa)(hl:l.length<=549755813888):UaR (.agg [.bool neg,.sl (enL cU l) tk]) H=some (.ret (.bool (Et neg l)),H):=by
 unfold UaR Et;have hq:=λH=>VaO l tk H (by omega);cases hr:FM l with
 |false=>simp[BH,hq,hr]
 |true=>
  cases neg with
  |false=>simp[BH,hq,hr]
  |true=>cases l <;> simp[BH,hq,hr] <;> omega
theorem Vpm {m:Nat}(hm:m<=10000)(H:Aa):Ucn (.i6 (m:Int)) H=some (.ret (big (2^m)),H):=by
 have hs:∀K,UdB (.bool false) (.sl (enL cU (A4 (2^m))) .no) K=some (.ret (big (2^m)),K):=λK=>by
  rw[LI];have:(if false=true then -((2^m:Nat):Int)else ((2^m:Nat):Int))=2^m:=by simp
  rw[this]
 have hb:AN 1 [.int .u32 1]=some (.sl (enL cU [1]) .ti):=rfl;have h1:=λK=>Vn6 hm K;unfold Ucn;simp only[alloc_eq (cs:=[.bool false,.sl [] .ti]) rfl,GMw,hb,h1,hs];simp
def blN (n:Nat):Nat:=if n=0 then 0 else n.log2+1
theorem Jb {n k:Nat}:blN n<=k↔n<2^k:=by
 unfold blN;by_cases h:n=0
 ·have:0<2^k:=Xv (by decide);rw[if_pos h];omega
 ·rw[if_neg h,<-Nat.log2_lt h];omega
theorem Vb3 {n j:Nat}(h:2^j<=n):blN n=blN (n / 2^j)+j:=by
 have hp:0<2^j:=Xv (by decide);refine Nat.le_antisymm (Jb.2 ?_) ?_
 ·have:=Jb.1 (Vo (blN (n / 2^j)));rw[Nat.pow_add];exact (WG hp).1 this
 ·have h1:=Jb.1 (Vo (blN n));have h2:j<blN n:=(Nat.pow_lt_pow_iff_right (by decide:1<2)).1 (Wv h h1);have h3:blN (n / 2^j)<=blN n-j:=Jb.2 ((WG hp).2 (by rw[<-Nat.pow_add,Nat.sub_add_cancel (by omega)];exact h1));omega
theorem Vl6:∀x,x<256->(([0,1,2,2,3,3,3,3,4,4,4,4,4,4,4,4,5,5,5,5,5,5,5,5,5,5,5,5,5,5,5,5,6,6,6,6,6,6,6,6,6,6,6,6,6,6,6,6,6,6,6,6,6,6,6,6,6,6,6,6,6,6,6,6,7,7,7,7,7,7,7,7,7,7,7,7,7,7,7,7,7,7,7,7,7,7,7,7,7,7,7,7,7,7,7,7,7,7,7,7,7,7,7,7,7,7,7,7,7,7,7,7,7,7,7,7,7,7,7,7,7,7,7,7,7,7,7,7,8,8,8,8,8,8,8,8,8,8,8,8,8,8,8,8,8,8,8,8,8,8,8,8,8,8,8,8,8,8,8,8,8,8,8,8,8,8,8,8,8,8,8,8,8,8,8,8,8,8,8,8,8,8,8,8,8,8,8,8,8,8,8,8,8,8,8,8,8,8,8,8,8,8,8,8,8,8,8,8,8,8,8,8,8,8,8,8,8,8,8,8,8,8,8,8,8,8,8,8,8,8,8,8,8,8,8,8,8,8,8,8,8,8,8,8,8,8,8,8,8,8,8,8,8,8,8,8]:zAa)[x]?).map UInt8.toNat=some (blN x):=by decide +kernel
theorem Vl7 {x:Nat}(h:x<256):Cj (.str [0,1,2,2,3,3,3,3,4,4,4,4,4,4,4,4,5,5,5,5,5,5,5,5,5,5,5,5,5,5,5,5,6,6,6,6,6,6,6,6,6,6,6,6,6,6,6,6,6,6,6,6,6,6,6,6,6,6,6,6,6,6,6,6,7,7,7,7,7,7,7,7,7,7,7,7,7,7,7,7,7,7,7,7,7,7,7,7,7,7,7,7,7,7,7,7,7,7,7,7,7,7,7,7,7,7,7,7,7,7,7,7,7,7,7,7,7,7,7,7,7,7,7,7,7,7,7,7,8,8,8,8,8,8,8,8,8,8,8,8,8,8,8,8,8,8,8,8,8,8,8,8,8,8,8,8,8,8,8,8,8,8,8,8,8,8,8,8,8,8,8,8,8,8,8,8,8,8,8,8,8,8,8,8,8,8,8,8,8,8,8,8,8,8,8,8,8,8,8,8,8,8,8,8,8,8,8,8,8,8,8,8,8,8,8,8,8,8,8,8,8,8,8,8,8,8,8,8,8,8,8,8,8,8,8,8,8,8,8,8,8,8,8,8,8,8,8,8,8,8,8,8,8,8,8,8]) (.int .u8 (x:Int))=some (.int .u8 (blN x:Int)):=by have:=Vl6 x h;obtain⟨b,h1,h2⟩:=Option.map_eq_some_iff.1 this;unfold Cj;simp only[];rw[if_pos (WB x),zXl,h1,zXb,h2]
theorem VjU {x n:Nat}(hx:x<256)(hn:n<=24)(H:Aa):UdE H (.int .u32 (x:Int)) (.i6 (n:Int)) H=some (.ret (.i6 ((n+blN x:Nat):Int)),H):=by
 have hb:blN x<=8:=Jb.2 hx;have c1:AC .u8 (.int .u32 (x:Int))=some (.int .u8 (x:Int)):=by rw[Bo,FE (by omega) (by omega)]
 have c2:AC .i64 (.int .u8 (blN x:Int))=some (.i6 (blN x:Int)):=by rw[Bo,An (by omega) (by omega)]
 have w:IntKind.i64.wrap ((n:Int)+(blN x:Int))=((n+blN x:Nat):Int):=by rw[An] <;> omega
 unfold UdE;simp only[c1,zXa];rw[Vl7 hx];simp only[c2,GMw,w]
theorem VaE (x k:Nat)(hk:k<=32):Af .none .shr (.int .u32 (x:Int)) (.int .u64 (k:Int))=some (.int .u32 ((x / 2^k:Nat):Int)):=by
 show Hm .shr .u32 (x:Int) (k:Int)=_;unfold Hm;rw[if_neg (by omega)];simp only[zXl];rw[show min k IntKind.u32.bits=k from Wl hk,Xp _ (Int.le_of_lt (Xo (by decide)))];have:((2:Int)^k)=((2^k:Nat):Int):=by simp
 rw[this]
 rfl
theorem VjV {x n:Nat}(hx:x<65536)(hn:n<=16)(H:Aa):UdF H (.int .u32 (x:Int)) (.i6 (n:Int)) H=some (.ret (.i6 ((n+blN x:Nat):Int)),H):=by
 unfold UdF;by_cases h:256<=x
 ·have d:decide ((x:Int)>=256)=true:=zXc (by omega);have s:=VaE x 8 (by decide);have w:IntKind.i64.wrap ((n:Int)+8)=((n+8:Nat):Int):=by rw[An] <;> omega
  have e:=Vb3 (n:=x) (j:=8) h;simp only[show ((8:Nat):Int)=8 from rfl]at s;simp only[AM,GMw,d,s,w];rw[VjU (by omega) (by omega),e,show n+8+blN (x / 2^8)=n+(blN (x / 2^8)+8)by omega]
 ·have d:decide ((x:Int)>=256)=false:=zXd (by omega);simp only[AM,GMw,d];exact VjU (by omega) (by omega) H
theorem Vlh {x:Nat}(hx:x<4294967296)(H:Aa):Uci (.int .u32 (x:Int)) H=some (.ret (.i6 (blN x:Int)),H):=by
 unfold Uci;by_cases h:65536<=x
 ·have d:decide ((x:Int)>=65536)=true:=zXc (by omega);have s:=VaE x 16 (by decide);have e:=Vb3 (n:=x) (j:=16) h;simp only[show ((16:Nat):Int)=16 from rfl]at s;have:=VjV (x:=x / 2^16) (n:=16) (by omega) (by omega) H;simp only[show ((16:Nat):Int)=16 from rfl]at this;simp only[AM,GMw,d,s];rw[this,e,XS]
 ·have d:decide ((x:Int)>=65536)=false:=zXd (by omega);have:=VjV (x:=x) (n:=0) (by omega) (by omega) H;simp only[Int.natCast_zero,Vr]at this;simp only[AM,GMw,d];exact this
theorem GM {H:Aa}{p o:Nat}{cs:List Ab}{v:Ab}(h:H[p]? = some (.cel 0 cs))(hv:v.isScal=true)(ho:o<cs.length):Ai 1 (.ptr p 0 o) v H=some (H.set p (.cel 0 (cs.set o v))):=by
 have hc:v.acells=some [v]:=by cases v <;> first | rfl | (simp[Ab.isScal]at hv)
 simp only[Ai,As h,BB,hc,zXi];rw[if_pos ⟨trivial,by omega⟩,B6 h,show Dx cs o 1 [v]=cs.set o v from by rw[Xx,if_pos ho];simp[Dx]]
theorem Pm {H:Aa}{p sz:Nat}{cs ws:List Ab}(h:H[p]? = some (.cel 0 cs))(hl:cs.length=sz)(eO:ws.length=sz)(hs:ws.all Ab.isScal=true):Ai sz (.ptr p 0 0) (.agg ws) H=some (H.set p (.cel 0 ws)):=by simp only[Ai,As h,BB,Cc hs,hl,eO,Vr,Vo,and_self,if_true,D8 hl,B6 h]
theorem PA {H:Aa}{p sz:Nat}{cs:List Ab}(h:H[p]? = some (.cel 0 cs))(hl:cs.length=sz):Ad true sz (.ptr p 0 0) H=some (.agg cs):=by simp only[Ad,As h,BB,if_true,WC,hl,Vr,Vo];rw[Vy (Xz hl)]
theorem Cu {H:Aa}{p o sz:Nat}{cs:List Ab}(h:H[p]? = some (.cel 0 cs)):Ad false sz (.ptr p 0 o) H=cs[o]? := by simp only[Ad,As h,BB];rfl
def TD:Ab->Bool
 |.agg cs=>cs.all IJ
 |v=>IJ v
theorem Vij {v:Ab}{H:Aa}{n d:Nat}(h:TD v=true):frz H n (d+3) v=some v:=by
 cases v with
 |agg cs=>have h':cs.all IJ=true:=h;simp only[frz,GR h',zXb]
 |_=>exact Vcj (d:=d+2) h
theorem U6 {H:Aa}{n d:Nat}:∀ {cs:List Ab},cs.all TD=true->FP H n (d+4) cs=some cs
 |[],_=>by simp[FP]
 |c::cs,h=>by simp only[List.all_cons,Vx]at h;simp[FP,Vij h.1,U6 h.2]
theorem VkM {H G:Aa}{cs:List Ab}(h:cs.all IJ=true):rP H (.agg cs) (H++G)=some (.ret (.agg cs),H):=by rw[VkL _ (by simp)];simp only[frz,GR h,zXb]
theorem VkK {H G:Aa}{cs:List Ab}(h:cs.all TD=true):rP H (.tup cs) (H++G)=some (.ret (.tup cs),H):=by rw[VkL _ (by simp)];simp only[frz,U6 h,zXb]
theorem Pi {g o:Nat}{v:Ab}{cs:List Ab}{G:Aa}(hv:v.isScal=true)(h:o<cs.length):Ai 1 (.ptr 0 g o) v (.cel g cs::G)=some (.cel g (cs.set o v)::G):=by
 have hc:v.acells=some [v]:=by cases v <;> first | rfl | (simp[Ab.isScal]at hv)
 rw[RI,hc];simp only[BB,zXi];rw[if_pos ⟨trivial,by omega⟩,Xx,if_pos h];simp[Dx]
theorem Vey {sz g:Nat}{cs ws:List Ab}{G:Aa}(h:cs.length=sz)(h2:ws.length=sz)(h3:ws.all Ab.isScal=true):Ai sz (.ptr 0 g 0) (.agg ws) (.cel g cs::G)=some (.cel g ws::G):=Ui (Cc h3) h h2
theorem Vf6 {id g o:Nat}:Ag (.ptr id g o)=some (.ptr id g o):=(rfl)
theorem Vmz (a b c:Aa):a++b++c=a++(b++c):=Vu a b c
theorem Vl8 (a b:Aa):(a++b).length=a.length+b.length:=Vs
theorem Fj (x:Ab)(b:List Ab):(x::b)[0]? = some x:=(rfl)
theorem J7 (x:Ab)(b:List Ab)(i:Nat):(x::b)[i+1]? = b[i]? := (rfl)
def IV (x:Nd):List Ab:=[.i6 x.k0,.i6 x.k1,.i6 x.k2,.i6 x.k3]
theorem VfM (x:Nd)(H:Aa):Ad true 4 (.cptr (cNd x) 1) H=some (.agg (IV x)):=(rfl)
theorem Vdq (x:Nd){k:Nat}(hk:k<4)(K:IntKind):Jl false 4 1 (.agg (IV x)) (.int K (k:Int))=some (.i6 (x.kid k)):=by
 match k,hk with
 |0,_=>rfl
 |1,_=>rfl
 |2,_=>rfl
 |3,_=>rfl
theorem F5 (g:Nat)(x:Nd)(G:Aa):Ad true 4 (.ptr 0 g 1) (.cel g (cNd x)::G)=some (.agg (IV x)):=by
 rw[show Ad true 4 (.ptr 0 g 1) (.cel g (cNd x)::G)=if 1+4<=(cNd x).length then some (.agg (((cNd x).drop 1).take 4))else none from by simp only[Ad,J4];rfl]
 rfl
theorem FC (x:Nd):(cNd x).length=5:=(rfl)
theorem HPa:(((∀(H G:Aa) (a:Bool) (sz k g o:Nat),Ad a sz (.ptr (H.length+k) g o) (H++G)=Ad a sz (.ptr k g o) G) /\
  (∀(H G:Aa) (a:Bool) (sz g o:Nat),Ad a sz (.ptr H.length g o) (H++G)=Ad a sz (.ptr 0 g o) G)) /\
  ((∀(b:Blk) (G:Aa) (a:Bool) (sz k g o:Nat),Ad a sz (.ptr (k+1) g o) (b::G)=Ad a sz (.ptr k g o) G) /\
  (∀(cs:List Ab) (G:Aa) (sz g o:Nat),Ad false sz (.ptr 0 g o) (.cel g cs::G)=cs[o]?) /\
  (∀(cs:List Ab) (G:Aa) (sz g:Nat),cs.length=sz->Ad true sz (.ptr 0 g 0) (.cel g cs::G)=some (.agg cs)))) /\
 (((∀(H G:Aa) (v:Ab) (sz k g o:Nat),Ai sz (.ptr (H.length+k) g o) v (H++G)=(Ai sz (.ptr k g o) v G).map (H++·)) /\
  (∀(H G:Aa) (v:Ab) (sz g o:Nat),Ai sz (.ptr H.length g o) v (H++G)=(Ai sz (.ptr 0 g o) v G).map (H++·))) /\
  ((∀(b:Blk) (G:Aa) (v:Ab) (sz k g o:Nat),Ai sz (.ptr (k+1) g o) v (b::G)=(Ai sz (.ptr k g o) v G).map (b::·)) /\
  (∀(cs:List Ab) (G:Aa) (v:Ab) (g o:Nat),v.isScal=true->o<cs.length->Ai 1 (.ptr 0 g o) v (.cel g cs::G)=some (.cel g (cs.set o v)::G)) /\
  (∀(cs ws:List Ab) (G:Aa) (sz g:Nat),cs.length=sz->ws.length=sz->ws.all Ab.isScal=true->Ai sz (.ptr 0 g 0) (.agg ws) (.cel g cs::G)=some (.cel g ws::G)))) /\
 ((∀(cs:List Ab) (H:Aa),cs.all Ab.isScal=true->A3 (some cs) H=some (.ptr H.length 0 0,H++[.cel 0 cs])) /\
  (∀(cs:List Ab) (H:Aa) (sz:Nat),cs.all Ab.isScal=true->cs.length=sz->B3 true sz (.agg cs) H=some (.ptr H.length 0 0,H++[.cel 0 cs]))):=
 ⟨⟨⟨λ_ _ _ _ _ _ _=>Vi4,λ_ _ _ _ _ _=>Ga⟩,λ_ _ _ _ _ _ _=>VfG,λ_ _ _ _ _=>GS,λ_ _ _ _ h=>VdG h⟩,
  ⟨⟨λ_ _ _ _ _ _ _=>Uh,λ_ _ _ _ _ _=>N5⟩,λ_ _ _ _ _ _ _=>Vdz,λ_ _ _ _ _ h1 h2=>Pi h1 h2,λ_ _ _ _ _ h1 h2 h3=>Vey h1 h2 h3⟩,
  λ_ _ h=>alloc_eq h,λ_ _ _ h1 h2=>BH h1 h2⟩
theorem HPc:(((∀(K:IntKind) (n:Int),(Ab.int K n).isScal=true)/\(∀t:Bool,(Ab.bool t).isScal=true)/\(∀s:zAa,(Ab.str s).isScal=true)) /\
  ((∀(es:List (List Ab)) (tk:Tok),(Ab.sl es tk).isScal=true)/\(∀(id g off len cap sz:Nat) (ex:Bool),(Ab.ms id g off len cap sz ex).isScal=true)/\(∀id g off:Nat,(Ab.ptr id g off).isScal=true)) /\
  (∀id:Nat,(Ab.mp id).isScal=true)/\(∀(f:FuncId) (c:List Ab),(Ab.fn f c).isScal=true)/\(Ab.nilp.isScal=true)/\(Ab.nilmap.isScal=true)/\Ab.nilfn.isScal=true) /\
 (((∀(K:IntKind) (n:Int),IJ (Ab.int K n)=true)/\(∀t:Bool,IJ (Ab.bool t)=true)/\(∀s:zAa,IJ (Ab.str s)=true)) /\
  ((∀(es:List (List Ab)),IJ (Ab.sl es .no)=true)/\(∀(es:List (List Ab)),IJ (Ab.sl es .ti)=true)) /\
  ((∀(K:IntKind) (n:Int),TD (Ab.int K n)=true)/\(∀t:Bool,TD (Ab.bool t)=true)/\(∀s:zAa,TD (Ab.str s)=true)) /\
  ((∀(es:List (List Ab)),TD (Ab.sl es .no)=true)/\(∀(es:List (List Ab)),TD (Ab.sl es .ti)=true))/\(∀cs:List Ab,TD (.agg cs)=cs.all IJ)) /\
 ((∀(H G:Aa) (cs:List Ab),cs.all IJ=true->rP H (.agg cs) (H++G)=some (.ret (.agg cs),H)) /\
  (∀(H G:Aa) (cs:List Ab),cs.all TD=true->rP H (.tup cs) (H++G)=some (.ret (.tup cs),H)) /\
  (∀(H G:Aa) (t:Bool),rP H (.bool t) (H++G)=some (.ret (.bool t),H)) /\
  (∀(H G:Aa) (K:IntKind) (n:Int),rP H (.int K n) (H++G)=some (.ret (.int K n),H)) /\
  (∀(H G:Aa) (s:zAa),rP H (.str s) (H++G)=some (.ret (.str s),H))):=
 ⟨⟨⟨λ_ _=>rfl,λ_=>rfl,λ_=>rfl⟩,⟨λ_ _=>rfl,λ_ _ _ _ _ _ _=>rfl,λ_ _ _=>rfl⟩,λ_=>rfl,λ_ _=>rfl,rfl,rfl,rfl⟩,
  ⟨⟨λ_ _=>rfl,λ_=>rfl,λ_=>rfl⟩,⟨λ_=>rfl,λ_=>rfl⟩,⟨λ_ _=>rfl,λ_=>rfl,λ_=>rfl⟩,⟨λ_=>rfl,λ_=>rfl⟩,λ_=>rfl⟩,
  λ_ _ _ h=>VkM h,λ_ _ _ h=>VkK h,λ_ _ _=>Dq,λ_ _ _ _=>Io,λ_ _ _=>VeS⟩
theorem HPd:((∀(H G:Aa) (v:Ab),rPN H v (H++G)=(GV (H++G) H.length 8 v).map λv=>(.ret v,H)) /\
  (∀(H:Aa) (n d:Nat) (vs:List Ab),GV H n (d+1) (.tup vs)=(I3 H n d vs).map .tup) /\
  (∀(H:Aa) (n d:Nat) (cs:List Ab),GV H n (d+1) (.agg cs)=(FQ H n d cs).map .agg) /\
  (∀(H:Aa) (n d:Nat) (es:List (List Ab)) (tk:Tok),GV H n (d+1) (.sl es tk)=some (.sl es .no))) /\
 ((∀(H:Aa) (n d:Nat),I3 H n (d+1) []=some []) /\
  (∀(H:Aa) (n d:Nat) (v:Ab) (vs:List Ab),I3 H n (d+1) (v::vs)=(ET H n d v).bind λv'=>(I3 H n (d+1) vs).map (v'::·)) /\
  (∀(H:Aa) (n d:Nat),FQ H n (d+1) []=some []) /\
  (∀(H:Aa) (n d:Nat) (v:Ab) (vs:List Ab),FQ H n (d+1) (v::vs)=(I6 H n d v).bind λv'=>(FQ H n (d+1) vs).map (v'::·))) /\
 ((∀(H:Aa) (n d:Nat) (cs:List Ab),ET H n (d+1) (.agg cs)=(FQ H n d cs).map .agg) /\
  (∀(H:Aa) (n d:Nat) (K:IntKind) (i:Int),ET H n (d+1) (.int K i)=some (.int K i)) /\
  (∀(H:Aa) (n d:Nat) (t:Bool),ET H n (d+1) (.bool t)=some (.bool t)) /\
  (∀(H:Aa) (n d:Nat) (s:zAa),ET H n (d+1) (.str s)=some (.str s)) /\
  (∀(H:Aa) (n d:Nat) (es:List (List Ab)) (tk:Tok),ET H n (d+1) (.sl es tk)=some (.sl es .no))) /\
 ((∀(H:Aa) (n d:Nat) (K:IntKind) (i:Int),I6 H n (d+1) (.int K i)=some (.int K i)) /\
  (∀(H:Aa) (n d:Nat) (t:Bool),I6 H n (d+1) (.bool t)=some (.bool t)) /\
  (∀(H:Aa) (n d:Nat) (s:zAa),I6 H n (d+1) (.str s)=some (.str s)) /\
  (∀(H:Aa) (n d:Nat) (es:List (List Ab)) (tk:Tok),I6 H n (d+1) (.sl es tk)=some (.sl es .no))) /\
 ((∀xs:List (Option Ab),GP xs=(T7 xs).map .tup)/\(T7 []=some [])/\(∀(x:Option Ab) (xs:List (Option Ab)),T7 (x::xs)=x.bind λv=>(T7 xs).map (v::·))) /\
 ((∀(v:Ab) (vs:List Ab),At 0 (.tup (v::vs))=some v)/\(∀(v w:Ab) (vs:List Ab),At 1 (.tup (v::w::vs))=some w)/\(∀(v w u:Ab) (vs:List Ab),At 2 (.tup (v::w::u::vs))=some u)):=
 ⟨⟨λ_ _ _=>CT,λ_ _ _ _=>Dn,λ_ _ _ _=>ViX,λ_ _ _ _ _=>HU⟩,⟨λ_ _ _=>Cv,λ_ _ _ _ _=>BY,λ_ _ _=>I5,λ_ _ _ _ _=>Hs⟩,
  ⟨λ_ _ _ _=>J8,λ_ _ _ _ _=>EC,λ_ _ _ _=>GU,λ_ _ _ _=>Vgl,λ_ _ _ _ _=>O9⟩,⟨λ_ _ _ _ _=>Vgz,λ_ _ _ _=>Kr,λ_ _ _ _=>Vgy,λ_ _ _ _ _=>Ma⟩,
  ⟨λ_=>rfl,rfl,λ_ _=>rfl⟩,λ_ _=>rfl,λ_ _ _=>rfl,λ_ _ _ _=>rfl⟩
theorem HPe:(∀(H:Aa) (j k:Nat),List.length H+j+k=List.length H+(j+k))/\(∀(H0 H:Aa) (v:Ab) (k:Ab->Aa->Out),bK H0 (some (.pan v,H)) k=some (.pan v,H))/\(∀(α β:Type) (a:α) (f:α->β),Option.map f (some a)=some (f a))/\(∀id g o:Nat,Ag (.ptr id g o)=some (.ptr id g o))/\(∀off id g o:Nat,Ac off (.ptr id g o)=some (.ptr id g (o+off))) /\
 ((∀a b c:Aa,a++b++c=a++(b++c))/\(∀(x:Blk) (b c:Aa),(x::b)++c=x::(b++c))/\(∀b:Aa,([]:Aa)++b=b)/\(∀a b:Aa,(a++b).length=a.length+b.length)/\(∀(x:Blk) (b:Aa),(x::b).length=b.length+1)/\(([]:Aa).length=0)) /\
 ((∀(x:Ab) (b:List Ab),(x::b).length=b.length+1)/\(([]:List Ab).length=0)/\(∀(x:Ab) (b:List Ab),(x::b)[0]? = some x)/\(∀(x:Ab) (b:List Ab) (i:Nat),(x::b)[i+1]? = b[i]?)) /\
 ((∀(x y:Ab) (b:List Ab),(x::b).set 0 y=y::b)/\(∀(x y:Ab) (b:List Ab) (i:Nat),(x::b).set (i+1) y=x::b.set i y)/\(∀(p:Ab->Bool) (x:Ab) (b:List Ab),(x::b).all p=(p x&&b.all p))/\(∀p:Ab->Bool,([]:List Ab).all p=true)) /\
 (∀s:zAa,BU (.str s)=some (.i6 (s.length:Int))):=
 ⟨λ_ _ _=>VN _ _ _,λ_ _ _ _=>rfl,λ_ _ _ _=>rfl,λ_ _ _=>rfl,λ_ _ _ _=>rfl,⟨Vmz,λ_ _ _=>rfl,λ_=>rfl,Vl8,λ_ _=>rfl,rfl⟩,⟨λ_ _=>rfl,rfl,λ_ _=>rfl,λ_ _ _=>rfl⟩,⟨λ_ _ _=>rfl,λ_ _ _ _=>rfl,λ_ _ _=>rfl,λ_=>rfl⟩,λ_=>rfl⟩
theorem HPz:((∀n:Nat,0+n=n)/\(∀n:Nat,n+0=n)/\(∀p:Prop,(p/\p)=p)/\(∀p:Prop,(p/\True)=p)/\(∀(α:Type) (a:α),(a=a)=True)/\(∀b:Bool,(b&&b)=b)):=
 ⟨Vr,Nat.add_zero,and_self,and_true,λ_ a=>eq_self a,Bool.and_self⟩
open Go.Proofs
set_option maxRecDepth 100000
def HPw:=And.intro HPa (And.intro HPc (And.intro HPd (And.intro HPe HPz)))
theorem VaH (l:zAb)(x:Nat):FM (l++[x])=(x != 0):=by simp[FM]
theorem VjK {l:zAb}(tk:Tok)(H:Aa)(hx:Lim l)(hl:l.length<=1099511627776):Uab (.sl (enL cU l) tk) H=some (.ret (.sl (enL cU (A4 (val l))) .no),H):=by
 unfold Uab;have key:=Br (G:=λrec1 vs H1=>Uad H rec1 (ag vs 0) H1) (σ:=Nat×Tok) (λs=>s.1<=l.length/\val (l.take s.1)=val l)
  (λs=>[.sl (enL cU (l.take s.1)) s.2]) (λ_=>H) (λs=>s.1) (λ_=>some (.ret (.sl (enL cU (A4 (val l))) .no),H)) (λs rec hi hrec=>?_) (l.length,tk) ⟨Vo _,by rw[Wc]⟩ (by dsimp only;omega)
 ·dsimp only at key
  rwa [Wc]at key
 ·obtain⟨k,t⟩:=s;dsimp only at hi hrec ⊢;obtain⟨h1,h2⟩:=hi;have hlk:(l.take k).length=k:=by rw[V5];omega
  have hxk:Lim (l.take k):=λx h=>hx x (Wo h);have hr:=VaO (l.take k) t H (by omega);unfold Uad;cases hb:FM (l.take k)with
  |true=>rw[hb]at hr;have hn:=LR ((N6 hxk).1 hb);rw[h2]at hn;simp only[Al,GMw,hr,VR,Ef,forget,Em,fgt];rw[<-hn]
  |false=>
   rw[hb]at hr;obtain⟨m,rfl⟩:∃m,k=m+1:=by
    cases k with
    |zero=>rw[List.take_zero]at hb;cases hb
    |succ m=>exact⟨m,rfl⟩
   have hm:m<l.length:=by omega
   have hz:l[m]=0:=by have:l.take (m+1)=l.take m++[l[m]]:=Vw hm;rw[this,VaH]at hb;simpa using hb
   have hv:val (l.take m)=val l:=by rw[<-h2,Vw hm,Cs,hz];simp[val]
   have hw:IntKind.i64.wrap (((m+1:Nat):Int)-1)=(m:Int):=by rw[An] <;> omega
   have hsl:∃t',BS 1 (.sl (enL cU (l.take (m+1))) t) none (some (.i6 (m:Int))) none=some (.sl (enL cU (l.take m)) t'):=by refine⟨Jy t 0 m (l.take (m+1)).length false,?_⟩;have:=VbQ (f:=cU) (sz:=1) (l:=l.take (m+1)) (tk:=t) (K:=.i64) (h:=m) (by omega);rw[List.take_take,Wl (by omega)]at this;exact this
   obtain⟨t',hsl⟩:=hsl;simp only[Al,GMw,hr,Wg,Ax,hlk,hw,hsl];exact hrec (m,t') ⟨by omega,hv⟩ (Yp m)
theorem Vmk (kn:List Ab->Aa->Out)(x0:Ab)(eb:List (List Ab))(tb:Tok)(H:Aa) :
  cmA kn x0 (.sl eb tb) H=kn [x0,.sl eb tb,.undef,.ptr H.length 0 0,.ptr (H.length+1) 0 0,.undef,.undef,.undef,.undef,.undef,.undef,.undef,.undef,.undef,.undef,.undef,.undef,.undef,.undef,.undef,.undef,.undef,.undef,.undef,.undef,.undef,.undef,.undef,.undef,.undef,.undef,.undef,.undef,.undef,.undef,.undef,.undef,.undef,.undef] (H++[.cel 0 [.sl eb tb]]++[.cel 0 [.i6 0]]):=by
 have hbx:B3 true 1 (.sl eb tb) H=some (.ptr H.length 0 0,H++[.cel 0 [.sl eb tb]]):=by unfold B3;simp only[Qv,alloc_eq (cs:=[.sl eb tb]) rfl];rfl
 have hal:A3 (some [(.i6 0)]) (H++[.cel 0 [.sl eb tb]])=some (.ptr (H++[Blk.cel 0 [.sl eb tb]]).length 0 0,H++[.cel 0 [.sl eb tb]]++[.cel 0 [.i6 0]]):=alloc_eq rfl;have hl:(H++[Blk.cel 0 [.sl eb tb]]).length=H.length+1:=by simp
 unfold cmA;rw[hbx];simp only[Bj];rw[hal];simp only[Bj,hl]
theorem Vmj (kn:List Ab->Aa->Out){la lb:zAb}(ta tb:Tok)(H:Aa)(xa:Lim la)(xb:Lim lb)(ha:la.length<=1099511627776)(hb:lb.length<=1099511627776) :
  cmB kn (.sl (enL cU la) ta) (.sl (enL cU lb) tb) (.ptr H.length 0 0) (.ptr (H.length+1) 0 0) (H++[.cel 0 [.sl (enL cU lb) tb]]++[.cel 0 [.i6 0]]) =
   kn [.sl (enL cU (A4 (val la))) .no,.sl (enL cU lb) tb,.undef,.ptr H.length 0 0,.ptr (H.length+1) 0 0,.undef,.undef,.sl (enL cU la) ta,.sl (enL cU (A4 (val la))) .no,.sl (enL cU lb) tb,.sl (enL cU (A4 (val lb))) .no,.undef,.undef,.undef,.undef,.undef,.undef,.undef,.undef,.undef,.undef,.undef,.undef,.undef,.undef,.undef,.undef,.undef,.undef,.undef,.undef,.undef,.undef,.undef,.undef,.undef,.undef,.undef,.undef] (H++[.cel 0 [.sl (enL cU (A4 (val lb))) .no]]++[.cel 0 [.i6 0]]):=by
 have e1:(H++[Blk.cel 0 [.sl (enL cU lb) tb]]++[.cel 0 [.i6 0]])[H.length]? = some (.cel 0 [.sl (enL cU lb) tb]):=by simp
 have ld:Ad false 1 (.ptr H.length 0 0) (H++[Blk.cel 0 [.sl (enL cU lb) tb]]++[.cel 0 [.i6 0]])=some (.sl (enL cU lb) tb):=by simp only[Ad,As e1,zXa];rfl
 have hst:Ai 1 (.ptr H.length 0 0) (.sl (enL cU (A4 (val lb))) .no) (H++[Blk.cel 0 [.sl (enL cU lb) tb]]++[.cel 0 [.i6 0]])=some (H++[.cel 0 [.sl (enL cU (A4 (val lb))) .no]]++[.cel 0 [.i6 0]]):=by
  rw[GM e1 rfl (by simp)]
  congr 1
  rw[List.set_append_left _ _ (by simp),Bt]
  rfl
 have c1:=λK=>VjK ta K xa ha;have c2:=λK=>VjK tb K xb hb;unfold cmB;simp only[c1,B5,ld];rw[Bm ⟨rfl,trivial⟩];simp only[c2,B5,hst,AJ,Fd]
theorem Vmi (kn kr:List Ab->Aa->Out)(a b:Nat)(ta tb:Tok)(H:Aa)(ha:(A4 a).length<=1099511627776)(hb:(A4 b).length<=1099511627776) :
  (∃tm:List Ab,tm.length=39/\tm[0]? = some (.sl (enL cU (A4 a)) ta)/\tm[3]? = some (.ptr H.length 0 0)/\tm[4]? = some (.ptr (H.length+1) 0 0) /\
   cmC kn kr (.sl (enL cU (A4 a)) ta) (.ptr H.length 0 0) (.ptr (H.length+1) 0 0) (H++[.cel 0 [.sl (enL cU (A4 b)) tb]]++[.cel 0 [.i6 0]]) =
    if (A4 a).length=(A4 b).length then kn tm (H++[.cel 0 [.sl (enL cU (A4 b)) tb]]++[.cel 0 [.i6 0]])
    else kr tm (H++[.cel 0 [.sl (enL cU (A4 b)) tb]]++[.cel 0 [.i6 (if (A4 a).length<(A4 b).length then -1 else 1)]])):=by
 have e1:(H++[Blk.cel 0 [.sl (enL cU (A4 b)) tb]]++[.cel 0 [.i6 0]])[H.length]? = some (.cel 0 [.sl (enL cU (A4 b)) tb]):=by simp
 have e2:(H++[Blk.cel 0 [.sl (enL cU (A4 b)) tb]]++[.cel 0 [.i6 0]])[H.length+1]? = some (.cel 0 [.i6 0]):=by simp
 have ld:Ad false 1 (.ptr H.length 0 0) (H++[Blk.cel 0 [.sl (enL cU (A4 b)) tb]]++[.cel 0 [.i6 0]])=some (.sl (enL cU (A4 b)) tb):=by simp only[Ad,As e1,zXa];rfl
 have hst:∀z:Int,Ai 1 (.ptr (H.length+1) 0 0) (.i6 z) (H++[Blk.cel 0 [.sl (enL cU (A4 b)) tb]]++[.cel 0 [.i6 0]])=some (H++[.cel 0 [.sl (enL cU (A4 b)) tb]]++[.cel 0 [.i6 z]]):=λz=>by
  rw[GM e2 rfl (by simp)]
  congr 1
  rw[Wa _ _ (by simp)];simp
 unfold cmC;simp only[Ax,zXa,ld];by_cases h:(A4 a).length=(A4 b).length
 ·have hn:Af .none .neq (.i6 ((A4 a).length:Int)) (.i6 ((A4 b).length:Int))=some (.bool false):=by show some (Ab.bool (((A4 a).length:Int) != ((A4 b).length:Int)))=_;rw[h];simp
  simp only[hn,if_pos h,zXa,AI];exact⟨_,rfl,rfl,rfl,rfl,rfl⟩
 ·have hn:Af .none .neq (.i6 ((A4 a).length:Int)) (.i6 ((A4 b).length:Int))=some (.bool true):=by
   show some (Ab.bool (((A4 a).length:Int) != ((A4 b).length:Int)))=_;have:(((A4 a).length:Int) != ((A4 b).length:Int))=true:=by simp;omega
   rw[this]
  simp only[hn,if_neg h,zXa,AU,Bh];by_cases h2:(A4 a).length<(A4 b).length
  ·simp only[zXc (show ((A4 a).length:Int)<((A4 b).length:Int)by omega),if_pos h2,AU,hst,AJ,Fd];exact⟨_,rfl,rfl,rfl,rfl,rfl⟩
  ·simp only[zXd (show ¬((A4 a).length:Int)<((A4 b).length:Int)by omega),if_neg h2,AI,hst,AJ,Fd];exact⟨_,rfl,rfl,rfl,rfl,rfl⟩
open Go.RowKit
def Kc (d:List Deferred)(a:Act):Act:={ a with defers:=a.defers++d }
open Go.RowKit Go.Proofs Go.Shelf
attribute [local go_sem] Oper.semAt_some
def Vj6 (n:Nat)(za zb:Nat->Nat)(z:Int):Prop:=
 (z=0/\∀j,j<n->za j=zb j)\/∃i,i<n/\za i≠zb i/\(∀j,i<j->j<n->za j=zb j)/\z=if za i<zb i then -1 else 1
def Vm9 {n:Nat}(za zb:Nat->Nat)(pre:List (Fin n)):Prop:=∀x∈pre,za x.1=zb x.1
def Vhj {n:Nat}(za zb:Nat->Nat)(pre:List (Fin n))(z:Int):Prop:=
 ∃x:Fin n,za x.1≠zb x.1/\Vm9 za zb pre.dropLast/\pre.getLast? = some x/\z=if za x.1<zb x.1 then -1 else 1
def VmZ (B R:Nat)(w1:World)(z:Int)(W:World):Prop:=Below B (w1.setCell ⟨R,0,none⟩ (.i6 z)) W/\B+1<=W.heap.size
theorem Hg {W:World}{R k:Nat}{v:Value}(h:k≠R):(W.setCell ⟨R,0,none⟩ v).heap[k]? = W.heap[k]? := by simp[World.setCell,WY,h.symm]
theorem JS {W:World}{R:Nat}{u v:Value}{t:TypeId}(h:W.heap[R]? = some (.cells #[u] t (0,0))):(W.setCell ⟨R,0,none⟩ v).heap[R]? = some (.cells #[v] t (0,0)):=by simp[World.setCell,WY,h]
theorem Ff (W:World)(R:Nat)(v:Value):(W.setCell ⟨R,0,none⟩ v).heap.size=W.heap.size:=by simp[World.setCell]
theorem Vbc {B R:Nat}{w1 W:World}{t:TypeId}{z:Int}(h:Below B w1 W)(hR:R<B)(hr:w1.heap[R]? = some (.cells #[.i6 0] t (0,0)))(h5:B+1<=W.heap.size):VmZ B R w1 z (W.setCell ⟨R,0,none⟩ (.i6 z)):=by
 refine⟨⟨h.os,h.tape,h.output,?_,λk hk=>?_⟩,by rw[Ff];exact h5⟩
 ·rw[Ff,Ff];exact h.size
 ·by_cases e:k=R
  ·subst e;rw[JS ((h.block k hk).trans hr),JS hr]
  ·rw[Hg e,Hg e];exact h.block k hk
theorem UI {B R:Nat}{W:World}{v:Value}(hR:R<B):KeepsFrom B W (W.setCell ⟨R,0,none⟩ v):=
 ⟨by rw[Ff];exact Vo _,λk o hB hk _=>by rw[Hg (by omega)];exact hk⟩
theorem VaI {P:Program}{fn:Func}{p:Tmp}{ty:TypeId}{d:TypeDesc}(h:fn.results = #[.cell p ty])(hu:P.underlying ty=some d)(ha:BF P ty=false)(tmps:Array Value)(w:World)(R:Nat)(v:Value)(hp:tmps.getD p undef=.pointer (some ⟨R,0,none⟩))(hc:w.cell? ⟨R,0,none⟩=some v) :
  (results fn tmps).run P w=.ok v w:=by
 have hp':tmps[p]?.getD undef=.pointer (some ⟨R,0,none⟩):=by simpa using hp
 simp[results,h,hp',asAddr,KT hu w _ v hc ha]
theorem VgM {fu B R:Nat}{w1 W:World}{Rr:Ending->World->Prop}{z:Int}{t:TypeId}{D:Nat}{ts:Array Value}(hR:R<B)(hB:w1.heap.size=B)(hr:w1.heap[R]? = some (.cells #[.i6 0] t (0,0)))(hl:VmZ B R w1 z W)(hD:B+1<=D)(hK:W.heap[D]? = some (.deferred (some [])))
  (hp:ts.getD 4 undef=.pointer (some ⟨R,0,none⟩))(hRr:∀W,Below B (w1.setCell ⟨R,0,none⟩ (.i6 z)) W->Rr (.returned (.i6 z)) W) :
  bodyPostM Fence.wide fu Tryz.prog Tryz.f156 Rr .ret { tmps:=ts,defers:=[{ target:=.collected D,args:=#[] }] } W:=by
 have hb:Below B (w1.setCell ⟨R,0,none⟩ (.i6 z)) (W.putObj D (.deferred none)):=
  hl.1.trans (belowK_b (w:=w1) (n₀:=B) (by omega) W D _ _ (by omega) hK rfl rfl)
 have hh:(W.putObj D (.deferred none)).heap[R]? = some (.cells #[.i6 z] t (0,0)):=(hb.block R hR).trans (JS hr);show LeavesInM _ _ _ _ _ _ (_::_) _ _;refine⟨by simp,.inl ⟨_,_,rfl,run_takeDeferred hK,?_⟩⟩;show LeavesIn _ _ _ _ _ _ [] _ _;exact⟨_,VaI (p:=4) (ty:=3) (d:=.int .i64) (by kernel_rfl) (by kernel_rfl) (by kernel_rfl) ts _ R (.i6 z) hp (by rw[Bg hh];rfl),hRr _ hb⟩
set_option maxRecDepth 100000 in
set_option maxHeartbeats 4000000 in
theorem Vjn {fu n:Nat}(hn:3<=fu){w1:World}{Rr:Ending->World->Prop}(bA R bb ob cb ba oa ca:Nat)(ao bo:Option Addr)(za zb:Nat->Nat)(hreach:n<=1099511627776)
  (hao:0<n->ao=some ⟨ba,oa,none⟩)(hbo:0<n->bo=some ⟨bb,ob,none⟩)(hA:bA<w1.heap.size)(hR:R<w1.heap.size)(hba:ba<w1.heap.size)(hbb:bb<w1.heap.size)
  (hbx:w1.cell? ⟨bA,0,none⟩=some (.slice bo n cb))(hrx:∃t,w1.heap[R]? = some (.cells #[.i6 0] t (0,0)))(hca:∀j,j<n->w1.cell? ⟨ba,oa+j,none⟩=some (.int .u32 (za j:Int)))(hcb:∀j,j<n->w1.cell? ⟨bb,ob+j,none⟩=some (.int .u32 (zb j:Int)))
  (hRr:∀z W,Vj6 n za zb z->Below w1.heap.size (w1.setCell ⟨R,0,none⟩ (.i6 z)) W->Rr (.returned (.i6 z)) W)
  (va:Value)(hva:va=.slice ao n ca)(t1 t2 t5 t6 t7 t8 t9 t10 t11 t12 t13 t14 t15 t16 t17 t18 t19 t20 t21 t22 t23 t24 t25 t26 t27 t28 t29 t30 t31 t32 t33 t34 t35 t36 t37 t38:Value) :
  cdD.wpIn Fence.wide fu Tryz.prog (bodyPostM Fence.wide fu Tryz.prog Tryz.f156 Rr) { tmps:=#[va,t1,t2,.pointer (some ⟨bA,0,none⟩),.pointer (some ⟨R,0,none⟩),t5,t6,t7,t8,t9,t10,t11,t12,t13,t14,t15,t16,t17,t18,t19,t20,t21,t22,t23,t24,t25,t26,t27,t28,t29,t30,t31,t32,t33,t34,t35,t36,t37,t38],defers:=[] } w1:=by
 subst hva;have h1:1<=fu:=by omega
 have hro:Fence.wide.round=none:=rfl;have h205:Fence.wide.fn 205:=trivial
 conv in cdD=>whnf
 gi_wp2_with (gi_at_call 205;refine (Tryz.back_in Fence.wide (fu-1) trivial hro _ _ _ _).mono ?_;rintro e w' ⟨rfl,rfl⟩)
 obtain⟨tr,hrx⟩:=hrx;generalize hB:w1.heap.size=B at *;obtain⟨W0,hW0⟩:∃W0,w1.alloc (Obj.cells #[Value.slice ao n ca] 44)=W0:=⟨_,rfl⟩;rw[hW0];have hW0s:W0.heap.size=B+1:=by rw[<-hW0,World.size_alloc,hB]
 have hB0:Below B w1 W0:=by rw[<-hW0];exact Below.alloc (Below.refl _ _) (by omega) _
 have hbx0:W0.cell? ⟨B,0,none⟩=some (.slice ao n ca):=by
  have:W0.heap[B]? = some (Obj.cells #[Value.slice ao n ca] 44):=by have:=World.heap_new w1 (Obj.cells #[Value.slice ao n ca] 44);rw[hB]at this;rw[<-hW0];exact this
  rw[Bg this];rfl
 refine wpIn_rangeFunc_ownG hro h1 (gf:=229) (lb:=#[.pointer (some ⟨B,0,none⟩)]) rfl trivial (enters_of Tryz.func229 (by kernel_rfl) rfl)
  (Tryz.back_stops Fence.wide (fu-1) trivial hro (by omega) B B ba oa n ca ao hao za hreach W0 (by omega) hba (by omega) hbx0 (λj hj=>(hB0.cell (p:=⟨ba,oa+j,none⟩) hba).trans (hca j hj)))
  (λh k=>h.trans k) (λW l o o' hl ho h1 h2=>⟨belowK_b (by omega) W l o o' hl ho h1 h2,?hKb⟩) (Below.refl _ _) (λ_=>rfl)
  (λpre W=>Vm9 za zb pre/\Below B w1 W/\B+1<=W.heap.size)
  (λc pre W=>c=.ret/\∃z:Int,Vhj za zb pre z/\VmZ B R w1 z W)
  ?hI ?hIx
  ⟨λx hx=>(by cases hx),hB0,by omega⟩
  (λx=>{ tmps:=#[.slice ao n ca,t1,t2,.pointer (some ⟨bA,0,none⟩),.pointer (some ⟨R,0,none⟩),.i6 (x.1:Int),.int .u32 (za x.1:Int),t7,t8,t9,t10,t11,t12,t13,t14,t15,t16,t17,t18,t19,t20,.slice ao n ca,.func (.func 229) #[] #[.pointer (some ⟨B,0,none⟩)],.i6 (x.1:Int),.int .u32 (za x.1:Int),t25,t26,t27,t28,t29,t30,t31,t32,t33,t34,t35,t36,t37,t38],defers:=[] }) ?assign ?body ?done ?stop
 case hKb=>have hcB:∀(U V:World),V.heap[B]? = U.heap[B]? -> V.cell? ⟨B,0,none⟩=U.cell? ⟨B,0,none⟩:=λU V h=>World.cell?_of_block h;exact hcB _ _ (World.putObj_heap_other (by omega))
 case hI=>exact OwnFrom.and (λ_ _ _ _ h _ _=>h) (OwnFrom.and (ownFrom_below (by omega) (by omega)) (λ_ _ _ _ h hg _=>VM h hg.size))
 case hIx=>rintro c pre W W' row ⟨h1,z,h2,h3,h4⟩ hg hr;refine⟨h1,z,h2,?_,VM h4 hg.size⟩;exact ownFrom_below (β:=List (Fin n)) (B:=W0.heap.size) (by rw[Ff];omega) (by omega) pre W W' row h3 hg hr
 case assign=>
  intro l x W K hK
  gi_wp2
  exact hK
 case body=>
  rintro l pre x W ⟨hE,hBw,h5⟩ _;have hx:=x.2;have hbo':=hbo (by omega);subst hbo';have hbx':=(hBw.cell (p:=⟨bA,0,none⟩) hA).trans hbx;have hcb':=(hBw.cell (p:=⟨bb,ob+x.1,none⟩) hbb).trans (hcb x.1 hx);have hR':=(hBw.block R hR).trans hrx;have hRf:W.frozen? ⟨R,0,none⟩=false:=by simp[World.frozen?,hR']
  have hRc:W.cell? ⟨R,0,none⟩=some (.i6 0):=by rw[Bg hR'];rfl
  by_cases hlt:za x.1<zb x.1
  ·have hlt':(za x.1:Int)<(zb x.1:Int):=by omega
   have hlaid:∀z:Int,z = -1->Vhj za zb (pre++[x]) z/\VmZ B R w1 z (W.setCell ⟨R,0,none⟩ (.i6 z)):=λz hz=>⟨⟨x,by omega,by simpa using hE,by simp,by rw[if_pos hlt];exact hz⟩,Vbc hBw hR hrx h5⟩;have hl:=hlaid (-1) rfl;generalize hT:Vhj za zb (pre++[x]) (-1)=T at hl;clear hlaid
   gi_wp2
   exact⟨UI (by omega),rfl,-1,by rw[hT];exact hl.1,hl.2⟩
  ·by_cases hgt:zb x.1<za x.1
   ·have hlt':¬(za x.1:Int)<(zb x.1:Int):=by omega
    have hgt':(zb x.1:Int)<(za x.1:Int):=by omega
    have hlaid:∀z:Int,z=1->Vhj za zb (pre++[x]) z/\VmZ B R w1 z (W.setCell ⟨R,0,none⟩ (.i6 z)):=λz hz=>⟨⟨x,by omega,by simpa using hE,by simp,by rw[if_neg hlt];exact hz⟩,Vbc hBw hR hrx h5⟩;have hl:=hlaid 1 rfl;generalize hT:Vhj za zb (pre++[x]) 1=T at hl;clear hlaid
    gi_wp2
    exact⟨UI (by omega),rfl,1,by rw[hT];exact hl.1,hl.2⟩
   ·have hlt':¬(za x.1:Int)<(zb x.1:Int):=by omega
    have hgt':¬(zb x.1:Int)<(za x.1:Int):=by omega
    have hE2:Vm9 za zb (pre++[x]):=λy hy=>by
     rcases VA.1 hy with h | h
     ·exact hE y h
     ·rw[VB.1 h];omega
    gi_wp2
    exact⟨KeepsFrom.refl _ _,⟨Below.refl _ _,rfl⟩,hE2,hBw,h5⟩
 case done=>
  rintro D ys W hD rfl ⟨hE,hBw,h5⟩ hK;have hR':=(hBw.block R hR).trans hrx;have hRf:W.frozen? ⟨R,0,none⟩=false:=by simp[World.frozen?,hR']
  have hRc:W.cell? ⟨R,0,none⟩=some (.i6 0):=by rw[Bg hR'];rfl
  have hgood:Vj6 n za zb 0:=.inl ⟨rfl,λj hj=>hE ⟨j,hj⟩ (Qt n ⟨j,hj⟩ (Vo _) (by omega))⟩;have hl:VmZ B R w1 0 (W.setCell ⟨R,0,none⟩ (.i6 0)):=Vbc hBw hR hrx h5
  gi_wp2
  refine VgM hR hB hrx hl (by omega) ?_ rfl (λW h=>hRr 0 W hgood h);rw[Hg (by omega)];exact hK
 case stop=>
  rintro D c pre W hD ⟨k,hk,hpre⟩ ⟨rfl,z,⟨x,x1,x2,x3,x4⟩,hl⟩ hK;subst hpre;rw[NP hk]at x2 x3;simp only[List.dropLast_concat,List.getLast?_concat,Vv]at x2 x3;subst x3;have hgood:Vj6 n za zb z:=.inr ⟨n-1-k,by omega,x1,λj h1 h2=>x2 ⟨j,h2⟩ (Qt k ⟨j,h2⟩ (by omega) (by dsimp only;omega)),x4⟩
  gi_wp2
  exact VgM hR hB hrx hl (by omega) hK rfl (λW h=>hRr z W hgood h)
open Go.RowKit Go.Proofs
set_option maxRecDepth 100000
def Py (tm:List Ab)(H:Aa):Out:=some (.ret (.tup tm),H)
def QS (tm:List Ab)(H:Aa):Out:=some (.ret (.agg tm),H)
theorem VkI {x:Vhn}{tm tm':List Ab}{H H':Aa}(h:kK Py QS x tm H=some (.ret (.tup tm'),H')):x=.normal/\tm=tm'/\H=H':=by
 cases x with
 |normal=>simp only[kK,Py,Vv,VC,Res.ret.injEq,Ab.tup.injEq]at h;exact⟨rfl,h⟩
 |ret=>simp[kK,QS]at h
 |pan v=>simp[kK]at h
 |exit i=>simp[kK]at h
theorem Vpg {x:Vhn}{tm tm':List Ab}{H H':Aa}(h:kK Py QS x tm H=some (.ret (.agg tm'),H')):x=.ret/\tm=tm'/\H=H':=by
 cases x with
 |normal=>simp[kK,Py]at h
 |ret=>simp only[kK,QS,Vv,VC,Res.ret.injEq,Ab.agg.injEq]at h;exact⟨rfl,h⟩
 |pan v=>simp[kK]at h
 |exit i=>simp[kK]at h
theorem Ve5 {E:Env}{H:Aa}{w:World}(hs:Sim E H w){L:zAb}{tk:Tok}{v:Value}(h:Au E (.sl (enL cU L) tk) v)(hw:0<w.heap.size) :
  ∃(ao:Option Addr) (b o cap:Nat),v=.slice ao L.length cap/\(0<L.length->ao=some ⟨b,o,none⟩)/\b<w.heap.size/\∀j,j<L.length->w.cell? ⟨b,o+j,none⟩=some (.int .u32 ((L[j]?.getD 0:Nat):Int)):=by
 have hge:∀j (hj:j<L.length),(enL cU L)[j]? = some (cU L[j]):=λj hj=>by simp[enL,hj]
 have hle:(enL cU L).length=L.length:=by simp[enL]
 generalize hes:enL cU L=es at *;cases h with
 |@sl0 _ a cap ht ha=>
  have:L.length=0:=by simpa using hle.symm
  exact⟨a,0,0,cap,by rw[this],λh=>by omega,hw,λj hj=>by omega⟩
 |@sl _ _ b o s cap f hlen hI hmm hvv hcc htt=>
  by_cases hpos:0<L.length
  ·have hs1:s=1:=by have:=hlen 0 _ (hge 0 hpos);simpa using this.symm
   subst hs1;refine⟨_,b,o,cap,by rw[hle],λ_=>rfl,hs.imm_lt (hI 0 0 (by omega) (by omega)),λj hj=>?_⟩;have h1:=hs.imm _ _ _ (hI j 0 (by omega) (by omega));have h2:=hvv j _ 0 _ (hge j hj) rfl;rw[Rg h2]at h1;rw[Vl hj];simpa using h1
  ·exact⟨_,0,o,cap,by rw[hle],λh=>absurd h hpos,hw,λj hj=>by omega⟩
theorem Ua {l:zAb}{i:Nat}(h:i<l.length):val l=val (l.take i)+4294967296^i*(l[i]+4294967296*val (l.drop (i+1))):=by
 have e:l=l.take i++(l[i]::l.drop (i+1)):=by rw[<-VJ h,VW]
 conv=>lhs;rw[e]
 rw[Cs,V5,Wl (by omega)]
 rfl
theorem VpC {a b P W x y d:Nat}(ha:a<P)(hxy:x<y):a+P*(x+W*d)<b+P*(y+W*d):=by
 have h1:P*(x+W*d)+P<=P*(y+W*d):=by rw[<-Nat.mul_succ];exact Ww _ (by omega)
 omega
theorem Veo {l m:zAb}(hl:Lim l)(he:l.length=m.length){i:Nat}(h:i<l.length)(h':i<m.length)(hd:l.drop (i+1)=m.drop (i+1))(hlt:l[i]<m[i]):val l<val m:=by have h1:=FU (l:=l.take i) λy hy=>hl y (Wo hy);rw[V5,Wl (by omega)]at h1;rw[Ua h,Ua h',hd];exact VpC h1 hlt
theorem ViO {A B:Nat}(hlen:(A4 A).length=(A4 B).length){z:Int}(h:Vj6 (A4 A).length (λj=>(A4 A)[j]?.getD 0) (λj=>(A4 B)[j]?.getD 0) z):z=if A<B then -1 else if A=B then 0 else 1:=by
 rcases h with ⟨rfl,h⟩ | ⟨i,hi,hne,hab,rfl⟩
 ·have:A4 A=A4 B:=by apply List.ext_getElem hlen;intro j h1 h2;have:=h j h1;dsimp only at this;rw[Vl h1,Vl h2]at this;exact this
  have e:A=B:=by rw[<-B2 A,<-B2 B,this]
  rw[if_neg (by omega),if_pos e]
 ·have hi2:i<(A4 B).length:=by omega
  have g1:(A4 A)[i]?.getD 0=(A4 A)[i]:=by rw[Vl hi];rfl
  have g2:(A4 B)[i]?.getD 0=(A4 B)[i]:=by rw[Vl hi2];rfl
  have hd:(A4 A).drop (i+1)=(A4 B).drop (i+1):=by apply List.ext_getElem (by simp[hlen]);intro j h1 h2;rw[V9]at h1 h2;have:=hab (i+1+j) (by omega) (by omega);dsimp only at this;rw[Vl (by omega),Vl (by omega)]at this;rw[Xn,Xn];exact this
  dsimp only at hne ⊢;rw[g1,g2]at hne;have e:((A4 A)[i]?.getD 0<(A4 B)[i]?.getD 0)↔(A4 A)[i]<(A4 B)[i]:=by rw[g1,g2]
  by_cases hlt:(A4 A)[i]<(A4 B)[i]
  ·have:=Veo (Bn A) hlen hi hi2 hd hlt;rw[B2,B2]at this;rw[if_pos (e.2 hlt),if_pos this]
  ·have:=Veo (Bn B) hlen.symm hi2 hi hd.symm (by omega);rw[B2,B2]at this;rw[if_neg (λh=>hlt (e.1 h)),if_neg (by omega),if_neg (by omega)]
theorem Vl5 {A B:Nat}(hne:¬(A4 A).length=(A4 B).length):(if (A4 A).length<(A4 B).length then (-1:Int)else 1)=if A<B then -1 else if A=B then 0 else 1:=by
 by_cases h:(A4 A).length<(A4 B).length
 ·have:A<B:=by
   rcases VT A B with q | q
   ·exact q
   ·have:=MV q;omega
  rw[if_pos h,if_pos this]
 ·have:B<A:=by
   rcases VT B A with q | q
   ·exact q
   ·have:=MV q;omega
  rw[if_neg h,if_neg (by omega),if_neg (by omega)]
theorem VjO {E:Env}{x:Ab}{vs:Array Value}(h:A1 E [x] vs.toList):∃v,vs = #[v]/\Au E x v:=Vow h
theorem Bq {α:Type}{n:Nat}{l:List α}(h:l.length=n+1):∃x r,l=x::r/\r.length=n:=by
 cases l with
 |nil=>cases h
 |cons x r=>exact⟨x,r,rfl,by simpa using h⟩
theorem Vps (ts:Array Value)(h:ts.toList.length=39):∃t0 t1 t2 t3 t4 t5 t6 t7 t8 t9 t10 t11 t12 t13 t14 t15 t16 t17 t18 t19 t20 t21 t22 t23 t24 t25 t26 t27 t28 t29 t30 t31 t32 t33 t34 t35 t36 t37 t38:Value,ts = #[t0,t1,t2,t3,t4,t5,t6,t7,t8,t9,t10,t11,t12,t13,t14,t15,t16,t17,t18,t19,t20,t21,t22,t23,t24,t25,t26,t27,t28,t29,t30,t31,t32,t33,t34,t35,t36,t37,t38]:=by obtain⟨l⟩:=ts;dsimp only at h;obtain⟨t0,l0,rfl,h0⟩:=Bq h;obtain⟨t1,l1,rfl,h1⟩:=Bq h0;obtain⟨t2,l2,rfl,h2⟩:=Bq h1;obtain⟨t3,l3,rfl,h3⟩:=Bq h2;obtain⟨t4,l4,rfl,h4⟩:=Bq h3;obtain⟨t5,l5,rfl,h5⟩:=Bq h4;obtain⟨t6,l6,rfl,h6⟩:=Bq h5;obtain⟨t7,l7,rfl,h7⟩:=Bq h6;obtain⟨t8,l8,rfl,h8⟩:=Bq h7;obtain⟨t9,l9,rfl,h9⟩:=Bq h8;obtain⟨t10,l10,rfl,h10⟩:=Bq h9;obtain⟨t11,l11,rfl,h11⟩:=Bq h10;obtain⟨t12,l12,rfl,h12⟩:=Bq h11;obtain⟨t13,l13,rfl,h13⟩:=Bq h12;obtain⟨t14,l14,rfl,h14⟩:=Bq h13;obtain⟨t15,l15,rfl,h15⟩:=Bq h14;obtain⟨t16,l16,rfl,h16⟩:=Bq h15;obtain⟨t17,l17,rfl,h17⟩:=Bq h16;obtain⟨t18,l18,rfl,h18⟩:=Bq h17;obtain⟨t19,l19,rfl,h19⟩:=Bq h18;obtain⟨t20,l20,rfl,h20⟩:=Bq h19;obtain⟨t21,l21,rfl,h21⟩:=Bq h20;obtain⟨t22,l22,rfl,h22⟩:=Bq h21;obtain⟨t23,l23,rfl,h23⟩:=Bq h22;obtain⟨t24,l24,rfl,h24⟩:=Bq h23;obtain⟨t25,l25,rfl,h25⟩:=Bq h24;obtain⟨t26,l26,rfl,h26⟩:=Bq h25;obtain⟨t27,l27,rfl,h27⟩:=Bq h26;obtain⟨t28,l28,rfl,h28⟩:=Bq h27;obtain⟨t29,l29,rfl,h29⟩:=Bq h28;obtain⟨t30,l30,rfl,h30⟩:=Bq h29;obtain⟨t31,l31,rfl,h31⟩:=Bq h30;obtain⟨t32,l32,rfl,h32⟩:=Bq h31;obtain⟨t33,l33,rfl,h33⟩:=Bq h32;obtain⟨t34,l34,rfl,h34⟩:=Bq h33;obtain⟨t35,l35,rfl,h35⟩:=Bq h34;obtain⟨t36,l36,rfl,h36⟩:=Bq h35;obtain⟨t37,l37,rfl,h37⟩:=Bq h36;obtain⟨t38,l38,rfl,h38⟩:=Bq h37;obtain rfl:=V6 h38;exact⟨t0,t1,t2,t3,t4,t5,t6,t7,t8,t9,t10,t11,t12,t13,t14,t15,t16,t17,t18,t19,t20,t21,t22,t23,t24,t25,t26,t27,t28,t29,t30,t31,t32,t33,t34,t35,t36,t37,t38,rfl⟩
theorem Vpv {E:Env}{H:Aa}{w:World}{args:List Ab}{vs:Array Value}{n:Nat}(hs:Sim E H w)(hv:A1 E args vs.toList)(hn:args.length<=n):HF n E H (args++List.replicate (n-args.length) .undef) { tmps:=vs++Array.replicate (n-vs.size) undef,defers:=[] } w:=by
 have hlen:args.length=vs.size:=by simpa using hv.1
 refine⟨?_,by simp;omega,rfl,hs⟩;rw[Xg];refine hv.append ⟨by simp[hlen],λi c v h1 h2=>?_⟩;rw[Xw]at h1;split at h1
 ·simp at h1;subst h1;exact .undef _
 ·cases h1
def Ox:List Bool->List Ab->List Ab
 |true::m,x::xs=>x::Ox m xs
 |_::m,_::xs=>.undef::Ox m xs
 |[],xs=>xs
 |_,[]=>[]
theorem P6:∀(m:List Bool) (xs:List Ab),(Ox m xs).length=xs.length
 |[],[]=>rfl
 |[],_::_=>rfl
 |_::_,[]=>by simp[Ox]
 |true::m,x::xs=>by simp[Ox,P6 m xs]
 |false::m,x::xs=>by simp[Ox,P6 m xs]
theorem Px {E:Env}:∀(m:List Bool) (xs:List Ab) (vs:List Value),A1 E xs vs->A1 E (Ox m xs) vs
 |[],[],_,h=>h
 |[],_::_,_,h=>h
 |_::_,[],_,h=>by simpa[Ox]using h
 |b::m,x::xs,[],h=>absurd h.1 (by simp)
 |true::m,x::xs,v::vs,h=>A1.cons h.head (Px m xs vs h.tail)
 |false::m,x::xs,v::vs,h=>A1.cons (.undef _) (Px m xs vs h.tail)
theorem Vgk {n:Nat}{E:Env}{H:Aa}{tm:List Ab}{a:Act}{w:World}(m:List Bool)(h:HF n E H tm a w):HF n E H (Ox m tm) a w:=
 ⟨Px m tm _ h.rel,by rw[P6];exact h.len,h.defers,h.sim⟩
theorem Vac (w:World)(R:Nat)(v:Value):w.setCells R 0 [v]=w.setCell ⟨R,0,none⟩ v:=rfl
theorem Jn:AG Tryz.prog Gs 156 (ap2 UeC):=by
 intro args H res H' h;unfold ap2 at h;split at h
 ·rename_i a b;unfold UeC at h;split at h
  ·rename_i es ta fs tb;split at h
   ·rename_i hex;have hsp:=hex.choose_spec;generalize hp:hex.choose=p at hsp h;obtain⟨la,lb⟩:=p;dsimp only at hsp h;obtain⟨rfl,rfl,xa,xb,ha,hb⟩:=hsp;simp only[Vv,VC]at h;obtain⟨rfl,rfl⟩:=h;intro E w vs hG hs hv;obtain⟨va,vb,rfl,k1,k2⟩:=Vmv hv;have hlA:(A4 (val la)).length<=1099511627776:=VM (EP (FU xa)) ha;have hlB:(A4 (val lb)).length<=1099511627776:=VM (EP (FU xb)) hb;refine .inl ⟨Fk Tryz.func156 (by kernel_rfl) (by kernel_rfl) _ w,?_⟩;refine callsIn_wide.1 (callsIn_of_wp_marks (n:=3) Tryz.func156 Vjz trivial ?_ rfl);have hC:MC TK:=Vlv (Ah DK (Ar _ _));have hD:Vdw TK:=Vg7 hC mixed;have hfr:HF 39 E H [.sl (enL cU la) ta,.sl (enL cU lb) tb,.undef,.undef,.undef,.undef,.undef,.undef,.undef,.undef,.undef,.undef,.undef,.undef,.undef,.undef,.undef,.undef,.undef,.undef,.undef,.undef,.undef,.undef,.undef,.undef,.undef,.undef,.undef,.undef,.undef,.undef,.undef,.undef,.undef,.undef,.undef,.undef,.undef] { tmps:=#[va,vb]++Array.replicate (39 - #[va,vb].size) undef,defers:=[] } w:=Vpv hs hv (by simp);rw[Tryz.ntmps156];obtain⟨HB,hHB⟩:∃HB:Aa,HB=H++[.cel 0 [.sl (enL cU (A4 (val lb))) .no]]++[.cel 0 [.i6 0]]:=⟨_,rfl⟩;have hAev:=Voj Py QS (.sl (enL cU la) ta) (.sl (enL cU lb) tb) H;rw[Vmk,<-ViY]at hAev;refine wpIn_seq (wpIn_mono (wpIn_wide.2 (SR hC hD cdA _ (kK Py QS) E _ H _ w hG (BL.refl E H w) hfr hAev)) ?_);rintro e1 a1 w1 ⟨E1,H1,tm1,x1,hG1,st1,hf1,hx1,hk1⟩;obtain⟨rfl,rfl,rfl⟩:=VkI hk1;cases e1 <;> first | exact hx1.elim | skip
    have hBev:=Voi Py QS (.sl (enL cU la) ta) (.sl (enL cU lb) tb) (.ptr H.length 0 0) (.ptr (H.length+1) 0 0) (H++[.cel 0 [.sl (enL cU lb) tb]]++[.cel 0 [.i6 0]]);rw[Vmj Py ta tb H xa xb ha hb,<-ViY]at hBev;refine wpIn_seq (wpIn_mono (wpIn_wide.2 (SR hC hD cdB _ (kK Py QS) E1 _ _ a1 w1 hG1 st1 hf1 hBev)) ?_);rintro e2 a2 w2 ⟨E2,H2,tm2,x2,hG2,st2,hf2,hx2,hk2⟩;obtain⟨rfl,rfl,rfl⟩:=VkI hk2;cases e2 <;> first | exact hx2.elim | skip
    have hf2':HF 39 E2 HB [.sl (enL cU (A4 (val la))) .no,.undef,.undef,.ptr H.length 0 0,.ptr (H.length+1) 0 0,.undef,.undef,.undef,.undef,.undef,.undef,.undef,.undef,.undef,.undef,.undef,.undef,.undef,.undef,.undef,.undef,.undef,.undef,.undef,.undef,.undef,.undef,.undef,.undef,.undef,.undef,.undef,.undef,.undef,.undef,.undef,.undef,.undef,.undef] a2 w2:=hHB ▸ Vgk [true,false,false,true,true,false,false,false,false,false,false,false,false,false,false,false,false,false,false,false,false,false,false,false,false,false,false,false,false,false,false,false,false,false,false,false,false,false,false] hf2;have hCev:=Voh Py QS (.sl (enL cU (A4 (val la))) .no) (.ptr H.length 0 0) (.ptr (H.length+1) 0 0) HB;obtain⟨tm3,hl3,g0,g3,g4,hres⟩:=Vmi Py QS (val la) (val lb) .no .no H hlA hlB;have fin2:∀(z:Int) (HX:Aa) (E3:Env) (W:World),HX=H++[.cel 0 [.sl (enL cU (A4 (val lb))) .no]]++[.cel 0 [.i6 z]]->Sim E3 HX W->BL E H w E3 HX W->∃E',IH E' (.ret (.i6 z)) (.returned (.i6 z))/\Sim E' H W/\BL E H w E' H W:=by
     intro z HX E3 W hHX hsim hst;have hfin:fin .pure H (.ret (.i6 z)) HX=some (.ret (.i6 z),H):=by
      have:rP H (.i6 z) HX=some (.ret (.i6 z),H):=by rw[hHX,Vu];exact Io
      exact this
     obtain⟨E',q1,q2,q3⟩:=Vgv (r:=.ret (.i6 z)) (e:=.returned (.i6 z)) hs hst hsim (show IH E3 _ _ from Au.int _ _) hfin;exact⟨E',q1,q2,q3⟩
    rw[<-hHB]at hres;rw[hres,<-ViY]at hCev;by_cases hlen:(A4 (val la)).length=(A4 (val lb)).length
    ·rw[if_pos hlen]at hCev;refine wpIn_seq (wpIn_mono (wpIn_wide.2 (SR hC hD cdC _ (kK Py QS) E2 _ HB a2 w2 hG2 (hHB ▸ st2) hf2' hCev)) ?_);rintro e3 a3 w3 ⟨E3,H3,tm4,x3,hG3,st3,hf3,hx3,hk3⟩;obtain⟨rfl,rfl,hHH⟩:=VkI hk3;rw[hHH]at hf3 st3;cases e3 <;> first | exact hx3.elim | skip
     have hl39:a3.tmps.toList.length=39:=by rw[<-hf3.rel.1];exact hf3.len
     obtain⟨ts,ds⟩:=a3;obtain⟨t0,t1,t2,t3,t4,t5,t6,t7,t8,t9,t10,t11,t12,t13,t14,t15,t16,t17,t18,t19,t20,t21,t22,t23,t24,t25,t26,t27,t28,t29,t30,t31,t32,t33,t34,t35,t36,t37,t38,hts⟩:=Vps ts hl39;have hds:ds=[]:=hf3.defers;subst hds;subst hts;obtain⟨u0,p0,r0⟩:=hf3.rel.get g0;obtain⟨u3,p3,r3⟩:=hf3.rel.get g3;obtain⟨u4,p4,r4⟩:=hf3.rel.get g4;obtain rfl:t0=u0:=by simpa using p0
     obtain rfl:t3=u3:=by simpa using p3
     obtain rfl:t4=u4:=by simpa using p4
     have hsim:=hf3.sim;obtain⟨bA,f3,rfl⟩:=r3.ptr_inv;obtain⟨R,f4,rfl⟩:=r4.ptr_inv;have e1:HB[H.length]? = some (.cel 0 [.sl (enL cU (A4 (val lb))) .no]):=by rw[hHB];simp
     have e2:HB[H.length+1]? = some (.cel 0 [.i6 0]):=by rw[hHB];simp
     obtain⟨b0,c0,y0,q0,q1,q2,_⟩:=hsim.blk _ _ e1;obtain⟨b1,c1,y1,q4,q5,q6,_⟩:=hsim.blk _ _ e2;rw[f3]at q0;rw[f4]at q4;cases q0;cases q4;obtain⟨vb3,rfl,rb⟩:=VjO q2;obtain⟨vr3,rfl,rr⟩:=VjO q6;have hvr:=Rg rr;subst hvr;have hw0:bA<w3.heap.size:=(VX.1 q1).1;have hwR:R<w3.heap.size:=(VX.1 q5).1;obtain⟨ao,ba,oa,ca,rfl,hao,hba,hca⟩:=Ve5 hsim r0 (by omega);obtain⟨bo,bb,ob,cb,rfl,hbo,hbb,hcb⟩:=Ve5 hsim rb (by omega);rw[<-hlen]at hbo hcb q1;refine Vjn (n:=(A4 (val la)).length) (Vo 3) bA R bb ob cb ba oa ca ao bo (λj=>(A4 (val la))[j]?.getD 0) (λj=>(A4 (val lb))[j]?.getD 0) hlA hao hbo hw0 hwR hba hbb (by rw[Bg q1];rfl) ⟨y1,q5⟩ hca hcb (λz W hg hbel=>?_) _ rfl t1 t2 t5 t6 t7 t8 t9 t10 t11 t12 t13 t14 t15 t16 t17 t18 t19 t20 t21 t22 t23 t24 t25 t26 t27 t28 t29 t30 t31 t32 t33 t34 t35 t36 t37 t38;have hz:=ViO hlen hg;have hst:Ai 1 (.ptr (H.length+1) 0 0) (.i6 z) HB=some (H++[.cel 0 [.sl (enL cU (A4 (val lb))) .no]]++[.cel 0 [.i6 z]]):=by
      rw[GM e2 rfl (by simp),hHB]
      congr 1
      rw[Wa _ _ (by simp)];simp
     obtain⟨b',o',cs',tt',w1',w2',w3',w4',w5',w6',w7'⟩:=Lz hsim (.ptr f4) (.i6 z) hst;injection w1' with w1';injection w1' with w1';injection w1' with w1a w1b;subst w1a;subst w1b;have hce:(Value.i6 z).cells.toList=[Value.i6 z]:=rfl;rw[hce,Vac]at w6' w7';have hext:=w6'.ext (.refl E3) (λ_ _ _ h=>h) (λ_ _ _ h=>h) (λb hb=>hbel.block b (by rw[Ff]at hb;exact hb)) (λ_ _=>rfl) (λb o v hv hb=>by have:=w6'.imm_lt hv;omega) hbel.os hbel.tape hbel.output hbel.size;obtain⟨E',k1',k2',k3'⟩:=fin2 z _ E3 W rfl hext.1 ((st3.trans w7').trans hext.2);refine⟨E',?_,k2',k3'⟩;rw[<-hz];exact k1'
    ·rw[if_neg hlen]at hCev;refine wpIn_seq (wpIn_mono (wpIn_wide.2 (SR hC hD cdC _ (kK Py QS) E2 _ HB a2 w2 hG2 (hHB ▸ st2) hf2' hCev)) ?_);rintro e3 a3 w3 ⟨E3,H3,tm4,x3,hG3,st3,hf3,hx3,hk3⟩;obtain⟨rfl,rfl,rfl⟩:=Vpg hk3;cases e3 <;> first | exact hx3.elim | skip
     have hz:=Vl5 hlen;have hra:F3 TK Tryz.f156.results.toList tm4 (H++[.cel 0 [.sl (enL cU (A4 (val lb))) .no]]++[.cel 0 [.i6 (if (A4 (val la)).length<(A4 (val lb)).length then -1 else 1)]])=some (.i6 (if (A4 (val la)).length<(A4 (val lb)).length then -1 else 1)):=by
      have hrs:Tryz.f156.results.toList=[.cell 4 3]:=by kernel_rfl
      have hld:Ad false 1 (.ptr (H.length+1) 0 0) (H++[Blk.cel 0 [.sl (enL cU (A4 (val lb))) .no]]++[.cel 0 [.i6 (if (A4 (val la)).length<(A4 (val lb)).length then -1 else 1)]])=some (.i6 (if (A4 (val la)).length<(A4 (val lb)).length then -1 else 1)):=by
       simp only[Ad,As (show (H++[Blk.cel 0 [.sl (enL cU (A4 (val lb))) .no]]++[Blk.cel 0 [.i6 (if (A4 (val la)).length<(A4 (val lb)).length then -1 else 1)]])[H.length+1]? = some (.cel 0 [.i6 (if (A4 (val la)).length<(A4 (val lb)).length then -1 else 1)])by simp),zXa]
       rfl
      rw[hrs];show HN TK tm4 _ (.cell 4 3)=_;have hd4:tm4.getD 4 .undef=.ptr (H.length+1) 0 0:=by rw[Vm,g4];rfl
      have hok:okT TK.P 3=true:=by kernel_rfl
      have hagg:BF TK.P 3=false:=by kernel_rfl
      have hsz:Aq TK.P 3=1:=by kernel_rfl
      simp only[HN,hok,hagg,hsz,hd4,VR,Vq,if_false];exact hld
     obtain⟨v,r1,r2⟩:=Sa (fn:=Tryz.f156) hf3 hra;have hv3:=Rg r2;subst hv3;show LeavesInM _ _ _ _ _ _ a3.defers _ _;rw[hf3.defers];show LeavesIn _ _ _ _ _ _ [] _ _;refine⟨_,r1,?_⟩;obtain⟨E',q1,q2,q3⟩:=fin2 _ _ E3 w3 rfl hf3.sim st3;refine⟨E',?_,q2,q3⟩;rw[<-hz];exact q1
   ·cases h
  ·cases h
 ·cases h
open Go.Proofs Go.RowKit Go.Shelf
theorem Vqe (x:Nat)(H:Aa):Udr (.int .i32 x) H=some (.ret (.bool (KV x)),H):=by
 unfold Udr KV;by_cases h:x<48
 ·have h':(x:Int)<48:=by omega
  simp[h,h']
 ·have h':¬(x:Int)<48:=by omega
  by_cases h2:57<x
  ·have nZ:(57:Int)<x:=by omega
   simp[h,h',h2,nZ]
  ·have nZ:¬(57:Int)<x:=by omega
   simp[h,h',h2,nZ]
theorem K1:AG Tryz.prog Gs 234 (ap2 UaG):=by
 intro args H res H' h;unfold ap2 at h;split at h
 ·unfold UaG at h;split at h
  ·rename_i s;cases h;refine VjS Tryz.func234 (by kernel_rfl) λE w vs hG hs hv=>?_;obtain⟨v,u,rfl,h1,h2⟩:=Vmv hv;rw[Vei h1];have hu:u=.func (.func 235) #[] #[]:=by
    cases h2 with
    |@fn _ _ vs' oI aU=>exact congrArg _ (Array.eq_empty_of_size_eq_zero oI.symm)
   rw[hu];refine⟨_,.int _ _,Tryz.strings_IndexFunc_grows 235 #[] (λa w=>Fk Tryz.func235 (by kernel_rfl) (by kernel_rfl) a w) KV ⟨s.toArray⟩ w λW x hx hb=>?_⟩;refine (ViS OT Tryz.func235 (by kernel_rfl) (λ_ _ h=>nomatch h) (Ul hs hb).1 (args:=[.int .i32 x]) (A1.cons (.int _ _) (A1.nil _)) (Vqe x [])).mono λe w' ⟨⟨E',he⟩,hw⟩=>⟨?_,hw⟩;cases e with
   |returned v=>rw[Au.bool_inv he]
   |panicked c=>exact he.elim
   |outgrown=>exact he.elim
  ·cases h
 ·cases h
theorem K2:AG Tryz.prog Gs 177 (ap2 UaH):=by
 intro args H res H' h;unfold ap2 at h;split at h
 ·unfold UaH at h;split at h
  ·rename_i s c;cases h;refine VjS Tryz.func177 (by kernel_rfl) λE w vs hG hs hv=>?_;obtain⟨v,u,rfl,h1,h2⟩:=Vmv hv;rw[Vei h1,Rg h2];exact⟨_,.int _ _,(Tryz.strings_IndexByte ⟨s.toArray⟩ c w).mono λe w' ⟨he,hw⟩=>⟨by simpa using he,hw ▸ Below.refl _ _⟩⟩
  ·cases h
 ·cases h
end Go.Gm
namespace Go.Proofs
open Go.RowKit
set_option maxRecDepth 10000 in
theorem Tryz.catch_panickingR (p:Addr)(c0 c1:Value)(older:List PanicEntry)(w:World){wa w1:World}(hs0:Sem.run Tryz.prog (store p c0) w=.ok () wa)(hs1:Sem.run Tryz.prog (store { block:=p.block,off:=p.off+1 } c1) wa=.ok () w1) :
  CallsD Tryz.prog 124 #[.pointer (some p)] (.panicking ({ v:=.iface 127 (.agg #[c0,c1]),recovered:=false }::older)) w λe u' w'=>e=.returned (.tuple #[])/\u'=.panicking ({ v:=.iface 127 (.agg #[c0,c1]),recovered:=true }::older)/\w'=w1:=by
 have hta:Sem.run Tryz.prog (Instr.typeAssert (.iface 127 (.agg #[c0,c1])) 20 127 false) w=.ok (.agg #[c0,c1]) w:=by kernel_rfl
 refine callsD_of_wpS Tryz.func124 rfl λc₀ cs hu=>?_;apply wpS_seq;apply wpS_region;simp[wpOpsS,go_sem,recoverD,hu,Tryz.ntmps124,Exit.thenS];apply wpS_seq;apply wpS_region;simp[wpOpsS,go_sem,Exit.thenS];refine wpS_cond (t:=true) (by simp[Act.eval,Array.replicate]) ?_;simp only[if_true];apply wpS_region;simp[wpOpsS,go_sem,bodyPostS,results,Tryz.results124,hta,hs0,hs1]
set_option maxRecDepth 10000 in
theorem Tryz.catch_idleR (p:Addr)(w:World) :
  CallsD Tryz.prog 124 #[.pointer (some p)] .returning w λe u' w'=>e=.returned (.tuple #[])/\u'=.returning/\w'=w:=by
 refine callsD_of_wpS Tryz.func124 rfl λc₀ cs hu=>?_;apply wpS_seq;apply wpS_region;simp[wpOpsS,go_sem,recoverD,hu,Tryz.ntmps124,Exit.thenS];apply wpS_seq;apply wpS_region;simp[wpOpsS,go_sem,Exit.thenS];refine wpS_cond (t:=false) (by simp[Act.eval,Array.replicate]) ?_;simp only[Bool.false_eq_true,if_false];refine wpS_of_wp (wp_skip ?_);cases c₀
 simp_all [bodyPostS,results,Tryz.results124]
end Go.Proofs
namespace Go.Proofs
open Go.RowKit
theorem Tryz.box_cellsR {w:World}{b:Nat}{x0 x1:Value}{t:TypeId}(hbox:w.heap[b]? = some (.cells #[x0,x1] t (0,0)))(y0 y1:Value) :
  (w.setCell ⟨b,0,none⟩ y0).cell? ⟨b,1,none⟩=some x1/\(w.setCell ⟨b,0,none⟩ y0).frozen? ⟨b,1,none⟩=false /\
   ((w.setCell ⟨b,0,none⟩ y0).setCell ⟨b,1,none⟩ y1).cell? ⟨b,0,none⟩=some y0/\((w.setCell ⟨b,0,none⟩ y0).setCell ⟨b,1,none⟩ y1).cell? ⟨b,1,none⟩=some y1:=by
 have sz:b<w.heap.size:=by
  rcases Nat.lt_or_ge b w.heap.size with h | h
  ·exact h
  ·rw[Array.getElem?_eq_none h]at hbox;cases hbox
 have hx:w.heap[b]=.cells #[x0,x1] t (0,0):=by rw[Array.getElem?_eq_getElem sz]at hbox;exact Option.some.inj hbox
 refine⟨?_,?_,?_,?_⟩ <;> simp[World.cell?,World.frozen?,World.setCell,hx,sz,Array.getElem_modify]
set_option maxRecDepth 10000 in
set_option maxHeartbeats 1000000 in
theorem Tryz.caught_inR (g:Nat)(caps:Array Value)(w:World)(eg:∀args w,(callFunc g args).run Tryz.prog w=.ok (.enter g args) w){R:Ending->World->Prop}
  (hj:Calls Tryz.prog g caps (w.alloc (.cells #[.i6 0,.string ⟨#[]⟩] 127)) R)
  (hR:∀e w2,R e w2->(∃t c0 c1,w2.heap[w.heap.size]? = some (.cells #[c0,c1] t (0,0)))/\((∃v,e=.returned v)\/∃c0 c1,Value.oneCell' c0=true/\Value.oneCell' c1=true/\e=.panicked [{ v:=.iface 127 (.agg #[c0,c1]),recovered:=false }])) :
  Calls Tryz.prog 68 #[.func (.func g) caps #[]] w λe w'=>∃e2 w2,R e2 w2/\∃c0 c1,e=.returned (.agg #[c0,c1])/\w'=(w2.setCell ⟨w.heap.size,0,none⟩ c0).setCell ⟨w.heap.size,1,none⟩ c1 /\
   ((∃v,e2=.returned v/\c0=.i6 0/\c1=.string ⟨#[]⟩)\/e2=.panicked [{ v:=.iface 127 (.agg #[c0,c1]),recovered:=false }]):=by
 have hmf:∀(fn:Fn) (first cap:Array Value) (w:World),(Instr.makeFunc fn first cap).run Tryz.prog w=.ok (.func fn first cap) w:=λ_ _ _ _=>rfl
 go_enter_defers Tryz.func68,Tryz.ntmps68
 go_wp2
 refine hj.mono ?_;rintro e w2 hr;obtain⟨⟨t,x0,x1,hbox⟩,h⟩:=hR _ _ hr;have c0:w2.cell? ⟨w.heap.size,0,none⟩=some x0:=by simp[World.cell?,hbox]
 have c1:w2.cell? ⟨w.heap.size,1,none⟩=some x1:=by simp[World.cell?,hbox]
 have f0:w2.frozen? ⟨w.heap.size,0,none⟩=false:=by simp[World.frozen?,hbox]
 have f1:w2.frozen? ⟨w.heap.size,1,none⟩=false:=by simp[World.frozen?,hbox]
 have K:=λy0 y1=>Tryz.box_cellsR (w:=w2) hbox y0 y1;rcases h with ⟨v,rfl⟩ | ⟨y0,y1,o0,o1,rfl⟩
 ·obtain⟨k1,k2,k3,k4⟩:=K (.i6 0) (.string ⟨#[]⟩)
  go_wp2
  refine leaves_cons (f:=124) (args:=#[.pointer (some ⟨w.heap.size,0,none⟩)]) (by simp) (by simp[go_sem]) ?_;refine (Tryz.catch_idleR ⟨w.heap.size,0,none⟩ _).mono ?_;rintro e u' w'' ⟨rfl,rfl,rfl⟩;simp[Leaves,settle,results,Tryz.results68,go_sem,k3,k4];exact⟨_,_,hr,_,_,⟨rfl,rfl⟩,rfl,Or.inl ⟨⟨_,rfl⟩,rfl,rfl⟩⟩
 ·obtain⟨k1,k2,k3,k4⟩:=K y0 y1;refine leaves_cons (f:=124) (args:=#[.pointer (some ⟨w.heap.size,0,none⟩)]) (by simp) (by simp[go_sem]) ?_;refine (Tryz.catch_panickingR ⟨w.heap.size,0,none⟩ y0 y1 [] _ (wa:=w2.setCell ⟨w.heap.size,0,none⟩ y0) (w1:=(w2.setCell ⟨w.heap.size,0,none⟩ y0).setCell ⟨w.heap.size,1,none⟩ y1) ?_ ?_).mono ?_
  ·rw[run_store _ _ _ _ _ o0];simp[c0,f0]
  ·rw[run_store _ _ _ _ _ o1];simp[k1,k2]
  rintro e u' w'' ⟨rfl,rfl,rfl⟩;simp[Leaves,settle,results,Tryz.results68,go_sem,k3,k4];exact⟨_,_,hr,_,_,⟨rfl,rfl⟩,rfl,Or.inr rfl⟩
end Go.Proofs
namespace Go.Gm
open Go.Proofs Go.RowKit
theorem Sim.asideR {E:Env}{H:Aa}{w w':World}(hs:Sim E H w){b:Nat}(h1:¬M8 E H b)(h2:∀o,E.I b o=none)(hh:∀x,x≠b->w'.heap[x]? = w.heap[x]?):Sim E H w':=by
 have ne:∀id b',loc E H id=some b'->b'≠b:=λid b' hl e=>h1 ⟨id,e ▸ hl⟩;constructor
 ·intro id B hB;refine ((hs.blk id B hB).keep (.refl E) (λb' hl=>hh b' (ne id b' ?_)) (λ_ _=>rfl)).1;unfold loc;rw[hB];exact hl
 ·exact hs.dom
 ·exact hs.domk
 ·exact hs.late
 ·exact hs.inj
 ·intro b' o v hv;have hne:b'≠b:=λe=>by rw[e,h2 o]at hv;cases hv
  have:=hs.imm b' o v hv;simp only[World.cell?]at this ⊢;rw[hh b' hne];exact this
 ·intro b' cs hf;obtain⟨⟨t,fr,k1⟩,⟨v,k2⟩,k3⟩:=hs.fix b' cs hf;have hne:b'≠b:=λe=>by rw[e,h2 0]at k2;cases k2
  exact⟨⟨t,fr,by rw[hh b' hne];exact k1⟩,⟨v,k2⟩,k3⟩
theorem TV {orc:Orc}(ho:G6 Tryz.prog Gs orc):AG Tryz.prog Gs 68 (ap1 (OR orc)):=by
 intro args H res H' h;unfold ap1 at h;split at h
 case h_2=>cases h
 rename_i job;unfold OR at h;split at h
 case h_2=>cases h
 rename_i caps;cases hr:orc 69 caps H with
 |none=>rw[hr]at h;cases h
 |some r=>
  obtain⟨r,H1⟩:=r;rw[hr]at h;cases hc:R0 r with
  |none=>simp[hc]at h
  |some x=>
   have hx:Res.ret x=res/\H1=H':=by simpa[hc]using h
   obtain⟨rfl,rfl⟩:=hx;intro E w vs hG hs hv;obtain⟨v,rfl,h1⟩:=Vow hv;cases h1 with
   |bfn hn hcv=>
    rename_i cv;obtain⟨s1,st1⟩:=hs.laid (.cells #[.i6 0,.string ⟨#[]⟩] 127);have hcs:A1 E caps cv.toList:=⟨by simpa using hn,λi c u hi hu=>hcv i c u hi (by simpa using hu)⟩;obtain⟨b1,b2,b3⟩:=F6 (show fnB 0 Tryz.f69=true by kernel_rfl);obtain⟨d1,d2,d3⟩:=F6 (show fnB 0 Tryz.f68=true by kernel_rfl);have f69:Tryz.prog.funcs[69]? = some Tryz.f69:=Tryz.func69;have f68:Tryz.prog.funcs[68]? = some Tryz.f68:=Tryz.func68;have nb:¬M8 E H w.heap.size:=hs.free_new;have lt:w.heap.size<(w.alloc (.cells #[.i6 0,.string ⟨#[]⟩] 127)).heap.size:=by simp[World.alloc,-World.alloc_eq]
    rcases ho 69 caps H r H1 hr E _ cv hG s1 hcs with ⟨_,hj⟩ | ⟨v,w',h1,_⟩
    ·refine .inl ⟨Fk f68 d1 d2 _ w,?_⟩;have hj':=Tryz.caught_inR 69 cv w (λa w=>Fk f69 b1 b2 a w) hj ?_
     ·refine hj'.mono ?_;rintro e w' ⟨e2,w2,⟨E',k1,k2,k3⟩,c0,c1,rfl,rfl,hcase⟩;have no:¬M8 E' H1 w.heap.size:=λho=>(k3.own _ ho).elim nb (λh=>by omega);have ni:∀o,E'.I w.heap.size o=none:=λo=>by rw[k3.imm _ o lt nb];exact hs.imm_new o
      have hh:∀b,b≠w.heap.size->((w2.setCell ⟨w.heap.size,0,none⟩ c0).setCell ⟨w.heap.size,1,none⟩ c1).heap[b]? = w2.heap[b]? := λb hb=>by simp[World.setCell,WY,Ne.symm hb]
      have st2:=st1.trans k3;refine⟨E',?_,k2.asideR no ni hh,st2.le,st2.os,st2.tape,st2.output,?_,λb hb ho=>?_,st2.own,st2.imm⟩
      ·rcases hcase with ⟨v,rfl,rfl,rfl⟩ | rfl
       ·cases r with
        |ret y=>cases hc;exact Au.agg rfl (by intro i c v hi hv;match i with
          |0=>simp at hi hv;subst hi;subst hv;exact .int _ _
          |1=>simp at hi hv;subst hi;subst hv;exact .str []
          |_+2=>simp at hi)
        |pan y=>exact absurd k1 id
       ·cases r with
        |ret y=>exact absurd k1 id
        |pan y=>
         obtain⟨v,hv1,hv2⟩:=k1;cases hv1;unfold R0 at hc;split at hc
         ·rename_i heq;cases heq
         ·rename_i heq;cases heq;cases hc;cases hv2 with
          |iface h=>exact h
         ·cases hc
      ·simpa[World.setCell]using st2.size
      ·rw[hh b (by omega)];exact st2.frame b hb ho
     ·rintro e w2 ⟨E',k1,k2,k3⟩;refine⟨⟨127,_,_,by rw[k3.frame _ lt nb];exact World.heap_new w _⟩,?_⟩;cases r with
      |ret y=>cases e with
       |returned v=>exact .inl ⟨v,rfl⟩
       |_=>exact absurd k1 id
      |pan y=>cases e with
       |panicked ch=>
        obtain⟨v,rfl,hv2⟩:=k1;unfold R0 at hc;split at hc
        ·rename_i heq;cases heq
        ·rename_i heq;cases heq;cases hv2 with
         |iface h=>cases h with
          |agg hn hv => 
           rename_i n s vs;obtain⟨l⟩:=vs
           match l,hn,hv with
           |[a,b],hn,hv=>have h0:=hv 0 _ a rfl rfl;have h1:=hv 1 _ b rfl rfl;cases h0;cases h1;exact .inr ⟨_,_,rfl,rfl,rfl⟩
        ·cases hc
       |_=>exact absurd k1 id
    ·rw[Fk f69 b1 b2]at h1;cases h1
open Go.Proofs
set_option maxRecDepth 100000
theorem Ln:AG Tryz.prog Gs 16 (ap0 UeD):=mk0 .pure (Ar _ _) [] Tryz.func16
theorem QX:AG Tryz.prog Gs 77 (ap2 Ub5):=mk2 .keep (Ar _ _) [] Tryz.func77
theorem OS:AG Tryz.prog Gs 36 (ap1 Ub6):=mk1 .pure ((Ah QX (Ar _ _))) [] Tryz.func36
theorem Cb:AG Tryz.prog Gs 126 (ap1 Ue1):=mk1 .keep (Ar _ _) [[]] Tryz.func126
theorem BQ:AG Tryz.prog Gs 128 (ap2 Uaa):=mk2 .keep ((Ah Cb ((Ah K2 (Ar _ _))))) [[]] Tryz.func128
theorem EW:AG Tryz.prog Gs 232 (ap2 Uap):=mk2 .keep (Ar _ _) [] Tryz.func232
theorem K3:AG Tryz.prog Gs 221 (ap2 Ub7):=mk2 .keep ((Ah EW (Ar _ _))) [] Tryz.func221
theorem NO:AG Tryz.prog Gs 222 (ap1 Ub8):=mk1 .keep ((Ah Cb ((Ah BQ (Ar _ _))))) [[0]] Tryz.func222
theorem BP:AG Tryz.prog Gs 127 (ap2 Ubn):=mk2 .keep ((Ah Cb (Ar _ _))) [[1000000]] Tryz.func127
theorem ID:AG Tryz.prog Gs 129 (ap2 Uaq):=mk2 .keep ((Ah Cb ((Ah BQ ((Ah BP (Ar _ _))))))) [[1000003,0,1],[1000006,0]] Tryz.func129
theorem Hu:AG Tryz.prog Gs 190 (ap2 Uar):=mk2 .keep ((Ah ID ((Ah Cb ((Ah BP (Ar _ _))))))) [[1000000,0,1]] Tryz.func190
theorem Qm:AG Tryz.prog Gs 134 (ap2 Ub9):=mk2 .keep (Ar _ _) [[0,1,5,12,13],[]] Tryz.func134
theorem HL:AG Tryz.prog Gs 187 (ap3 Ue5):=mk3 .keep ((Ah Qm ((Ah BP (Ar _ _))))) [[]] Tryz.func187
theorem Fa:AG Tryz.prog Gs 223 (ap1 Uas):=mk1 .keep (Ar _ _) [] Tryz.func223
theorem IC:AG Tryz.prog Gs 233 (ap2 Udv):=mk2 .keep ((Ah EW (Ar _ _))) [] Tryz.func233
theorem K4:AG Tryz.prog Gs 224 (ap2 UbA):=mk2 .keep ((Ah IC (Ar _ _))) [] Tryz.func224
theorem Ra:AG Tryz.prog Gs 225 (ap2 UbB):=mk2 .keep ((Ah K1 (Ar _ _))) [] Tryz.func225
theorem TQ:AG Tryz.prog Gs 226 (ap3 UbC):=mk3 .pureN ((Ah DK (Ar _ _))) [[0,1,7,8,17,18,19]] Tryz.func226
theorem Ti:AG Tryz.prog Gs 196 (ap1 UbE):=mk1 .pureN ((Ah K4 ((Ah TQ ((Ah Ra (Ar _ _))))))) [[1000003,2,4,5,14],[2,5,6,36]] Tryz.func196
theorem GI:AG Tryz.prog Gs 188 (ap3 Uae):=mk3 .keepN ((Ah BQ ((Ah BP ((Ah Fa ((Ah Ti (Ar _ _))))))))) [[1000002,0,2,6,7],[0,2,6,7,8],[1000013,0,2,6,7,8],[1000018,0,6,7],[0,1,2,3,4,5,6,7,8,9,10,11,12,14,15,13,16]] Tryz.func188
theorem K5:AG Tryz.prog Gs 186 (ap1 UbI):=mk1 .keep ((Ah K3 ((Ah NO ((Ah Hu ((Ah HL ((Ah GI (Ar _ _))))))))))) [[13,0,1,2,3,5,6,7,8,4,9,10,11,12],[9,0,1,2,3,5,6,4,7,8],[9,0,1,2,3,5,6,4,7,8]] Tryz.func186
theorem Tf:AG Tryz.prog Gs 194 (ap1 UbJ):=mk1 .keep (Ar _ _) [] Tryz.func194
theorem Nr:AG Tryz.prog Gs 189 (ap2 UaJ):=mk2 .keep ((Ah Cb ((Ah Tf ((Ah BP (Ar _ _))))))) [[0,1,5],[],[1000006,0,5],[]] Tryz.func189
theorem Ml:AG Tryz.prog Gs 125 (ap1 UbK):=mk1 .keep ((Ah BQ ((Ah K5 ((Ah HL ((Ah GI ((Ah Nr ((Ah Hu (Ar _ _))))))))))))) [[0]] Tryz.func125
theorem Li:AG Tryz.prog Gs 191 (ap1 UbM):=mk1 .keep ((Ah BQ ((Ah BP ((Ah Fa (Ar _ _))))))) [[],[0,3,4],[1000006,0,3,4],[]] Tryz.func191
open Go.Proofs
set_option maxRecDepth 100000
theorem Lg:AG Tryz.prog Gs 193 (ap1 UaK):=mk1 .keep ((Ah BQ ((Ah BP (Ar _ _))))) [[1000001,0],[],[],[1000015,0,3],[]] Tryz.func193
theorem Do:AG Tryz.prog Gs 206 (ap1 UaL):=mv1 .keep (Ar _ _) [] Tryz.func206
theorem Th:AG Tryz.prog Gs 200 (ap1 UbN):=mk1 .pureN ((Ah Do ((Ah DK (Ar _ _))))) [] Tryz.func200
theorem FJ:AG Tryz.prog Gs 153 (ap2 UdB):=mk2 .pureN (Ar _ _) [] Tryz.func153
theorem QK:AG Tryz.prog Gs 151 (ap1 Uaf):=mk1 .pureN ((Ah Th ((Ah FJ (Ar _ _))))) [[1000002,0,2,3]] Tryz.func151
theorem Mp:AG Tryz.prog Gs 204 (ap3 UbP):=mk3 .keep (Ar _ _) [] Tryz.func204
theorem TT:AG Tryz.prog Gs 155 (ap2 UbR):=mk2 .pureN ((Ah Mp ((Ah DK (Ar _ _))))) [[1000001,0,1],[0,1,5,6,21,22,23],[1000014,0,1,5,6,7,8,9,21,22,23]] Tryz.func155
theorem Mn:AG Tryz.prog Gs 207 (ap3 UaM):=mk3 .keep (Ar _ _) [] Tryz.func207
theorem TO:AG Tryz.prog Gs 157 (ap2 UbS):=mk2 .pureN ((Ah Jn ((Ah Do ((Ah Mn ((Ah DK (Ar _ _))))))))) [[1,6,7,17,18],[1000015,1,6,7,8,9,17,18]] Tryz.func157
theorem KJ:AG Tryz.prog Gs 89 (ap2 Uex):=mk2 .pureN ((Ah TT ((Ah FJ ((Ah TO ((Ah Jn (Ar _ _))))))))) [[2,3,4,5,6,0,1,7,8],[1000005,2,3,4]] Tryz.func89
theorem Lh:AG Tryz.prog Gs 192 (ap3 UaO):=mk3 .keep ((Ah QK ((Ah KJ ((Ah Fa (Ar _ _))))))) [[1000004,0,1,2],[],[5,6,7,8,9,0,1,2,3,4,10,11,12],[0,2,6,56,57],[10,11,12,13,14,5,6,7,8,9,15,1,2,3,4,16,17,18,19,20,21,0,22,23,24]] Tryz.func192
theorem Lf:AG Tryz.prog Gs 130 (ap1 UbU):=mk1 .keep ((Ah Li ((Ah BQ ((Ah Lg ((Ah Lh (Ar _ _))))))))) [[1000003,0]] Tryz.func130
theorem Nq:AG Tryz.prog Gs 69 (ap1 Uav):=mk1 .keep ((Ah Ml ((Ah Cb ((Ah BP ((Ah BQ ((Ah ID ((Ah Lf (Ar _ _))))))))))))) [[0]] Tryz.func69
theorem KY:AG Tryz.prog Gs 68 (ap1 UaP):=TV ((Ah Nq (Ar _ _)))
theorem Ja:AG Tryz.prog Gs 148 (ap1 UaQ):=mk1 .pure (Ar _ _) [] Tryz.func148
theorem Tj:AG Tryz.prog Gs 85 (ap1 UaR):=mk1 .pure ((Ah KZ (Ar _ _))) [] Tryz.func85
theorem Rd:AG Tryz.prog Gs 84 (ap1 UbW):=mk1 .pure ((Ah Tj (Ar _ _))) [] Tryz.func84
noncomputable def Ez:Orc:=AF
theorem Ex:T2 Tryz.prog Gs false Ez Tryz.f139 (.tw .lf (.tw (.tw .lf (.one (.loop [0,1,7,8] (.tw .lf (.tw (.tw .lf .lf) (.tw (.one (.tw .lf (.tw .lf (.tw (.tw .lf .lf) .lf)))) .lf)))))) (.tw .lf .lf))) .keep Uey:=by unfold T2;intros;kernel_rfl
theorem CB:AG Tryz.prog Gs 139 (ap2 Uey):=Qa mixed ((Ah Ja ((Ah Rd (Ar _ _))))) Tryz.func139 (by kernel_rfl) Ex
theorem DO:AG Tryz.prog Gs 83 (ap2 UbX):=mk2 .keep ((Ah CB (Ar _ _))) [] Tryz.func83
theorem EZ:AG Tryz.prog Gs 141 (ap1 UbY):=mv1 .keep (Ar _ _) [] Tryz.func141
theorem EE:AG Tryz.prog Gs 142 (ap1 Uaw):=mk1 .keep (Ar _ _) [[0,2,3],[0,1,4,5,6,7,8,9,10,11,12,13,2,3,14,15]] Tryz.func142
theorem Vay:AG Tryz.prog Gs 199 (ap2 UaT):=mk2 .pure ((Ah Jn (Ar _ _))) [] Tryz.func199
theorem Qp:AG Tryz.prog Gs 198 (ap1 UbZ):=mk1 .keep (Ar _ _) [[3,6,7,8]] Tryz.func198
theorem Ha:AG Tryz.prog Gs 144 (ap2 Uax):=mk2 .pure ((Ah Vay ((Ah Qp (Ar _ _))))) [[]] Tryz.func144
noncomputable def Ey:Orc:=A7
theorem Ew:T4 Tryz.prog Gs false Ey Tryz.f227 (.tw .lf (.one (.loop [0,1,2,3,8] (.tw (.tw .lf (.tw .lf .lf)) (.tw (.one (.tw .lf (.one (.loop [0,1,2,3,8,9] (.tw (.tw (.reg [0,1,2,3,4,5,6,7,8,9,10,11,12,13,14,15,16]) (.tw .lf .lf)) (.tw (.one (.reg [0,1,5,6,7,8,9,10,11,12,13,14,15,2,3,4,16,17])) .lf)))))) .lf))))) .keep Ue7:=by unfold T4;intros;kernel_rfl
theorem Eo:AG Tryz.prog Gs 227 (ap4 Ue7):=VnV mixed ((Ah Ha (Ar _ _))) Tryz.func227 (by kernel_rfl) Ew
open Go.Proofs
set_option maxRecDepth 100000
theorem EX:AG Tryz.prog Gs 240 (ap5 Uay):=mk5 .keep (Ar _ _) [[0,1,2,3,10],[0,1,2,3,8,9,10,11,12,13,14,15,16,17,18,19,20,21,4,5,6,7,22,23]] Tryz.func240
theorem F9:AG Tryz.prog Gs 236 (ap5 UaU):=mk5 .keep ((Ah EX (Ar _ _))) [[0,2,4,10,11]] Tryz.func236
noncomputable def Fr (m:Nat):Orc:=Be (UaC m)
theorem Fp (m:Nat):T5 Tryz.prog Gs false (Fr m) Tryz.f228 (.tw (.tw .lf (.tw (.tw .lf (.tw .lf (.tw (.one (.loop [0,1,4,10,11] (.tw (.tw .lf (.tw .lf .lf)) (.one (.tw .lf (.tw (.reg [0,1,2,3,4,5,6,7,8,9,10]) (.tw .lf .lf))))))) (.tw (.tw .lf (.one (.loop [0,10,13] (.tw (.tw .lf (.tw .lf .lf)) (.tw (.one (.reg [0,1,5,6,7,8,9,10,11,12,13,14,15,2,3,4,16,17])) .lf))))) .lf)))) .lf)) (.tw (.tw .lf (.tw (.tw .lf (.tw .lf (.tw (.one (.loop [0,2,4,14,15] (.tw (.tw .lf (.tw .lf .lf)) (.one (.tw .lf (.tw (.reg [0,1,2,3,4,5,6,7,8,9,10,11]) (.tw .lf .lf))))))) (.tw (.tw .lf (.one (.loop [0,14,17] (.tw (.tw .lf (.tw .lf .lf)) (.tw (.one (.reg [0,1,5,6,7,8,9,10,11,12,13,14,15,2,3,4,16,17])) .lf))))) .lf)))) .lf)) (.tw .lf (.tw .lf (.tw .lf (.join [0,1,2,3,4,18,19,20,21] (.tw .lf (.tw (.tw .lf .lf) (.tw .lf .lf))) (.tw .lf (.tw (.one (.loop [0,1,2,3,4,18,19,20,21,22] (.tw (.tw .lf (.tw .lf .lf)) (.one (.tw .lf (.tw (.reg [0,1,2,3,4,5,6,7,8,9,10,11,12,13]) (.tw .lf .lf))))))) (.tw .lf (.join [0,1,3,4,18,20,24] (.tw .lf (.tw .lf .lf)) (.join [0,3,4,18,24] (.tw .lf (.tw .lf .lf)) (.tw .lf (.tw .lf .lf))))))))))))) .keep (UaC (m+1)):=by unfold T5;intros;kernel_rfl
theorem CV:∀m,AG Tryz.prog Gs 228 (ap5 (UaC m))
 |0=>Vcl λ_ _ _ _ _ _=>rfl
 |m+1=>Vgp mixed (Ah (CV m) ((Ah Ha ((Ah F9 (Ar _ _)))))) Tryz.func228 (by kernel_rfl) (Fp m)
theorem F8:AG Tryz.prog Gs 197 (ap3 Ua4):=mk3 .keep ((Ah Eo ((Ah (CV AP) (Ar _ _))))) [[0,1,2,6,7,8],[0,1,2,6],[0,1,2,6,7,8],[1000019,0,1,2,6]] Tryz.func197
theorem DF:AG Tryz.prog Gs 143 (ap2 Ua5):=mk2 .keep ((Ah F8 (Ar _ _))) [] Tryz.func143
theorem OU:AG Tryz.prog Gs 146 (ap2 Ucf):=mk2 .pure ((Ah Ha (Ar _ _))) [] Tryz.func146
noncomputable def DX:Orc:=AL
theorem DW:T2 Tryz.prog Gs false DX Tryz.f145 (.tw .lf (.tw (.tw .lf (.tw (.tw .lf .lf) .lf)) (.tw (.tw .lf (.one (.loop [0,1,5] (.tw (.tw .lf (.tw .lf .lf)) (.tw (.one (.tw (.reg [0,1,2,3,4,5,6,7,8,9,10]) (.tw (.tw .lf (.tw (.tw .lf (.one (.loop [0,1,5,6,7] (.tw (.tw .lf (.tw .lf .lf)) (.join [0,1,5,6,7] (.one (.tw (.reg [0,1,2,3,4,5,6,7,8,9,10,11]) (.tw (.tw .lf .lf) .lf))) .lf))))) (.tw .lf (.tw .lf .lf)))) .lf))) .lf))))) (.tw .lf .lf)))) .keepN Uah:=by unfold T2;intros;kernel_rfl
theorem DV:AG Tryz.prog Gs 145 (ap2 Uah):=Qa mixed ((Ah OU (Ar _ _))) Tryz.func145 (by kernel_rfl) DW
noncomputable def Eg:Orc:=Ba
theorem Ee:T2 Tryz.prog Gs false Eg Tryz.f147 (.tw .lf (.tw .lf (.tw (.tw .lf (.tw (.tw .lf .lf) .lf)) (.tw (.tw .lf (.one (.loop [0,1,5,6] (.tw (.tw .lf (.tw .lf .lf)) (.join [0,1,5,6] (.one (.tw .lf (.tw .lf (.tw (.tw .lf .lf) .lf)))) .lf))))) (.tw .lf (.tw .lf .lf)))))) .keepN Uai:=by unfold T2;intros;kernel_rfl
theorem DY:AG Tryz.prog Gs 147 (ap2 Uai):=Qa mixed ((Ah CB ((Ah Ja (Ar _ _))))) Tryz.func147 (by kernel_rfl) Ee
theorem Rc:AG Tryz.prog Gs 86 (ap1 Ucg):=mk1 .pureN ((Ah EZ ((Ah EE ((Ah DF ((Ah DV ((Ah DY (Ar _ _))))))))))) [] Tryz.func86
theorem Mz:AG Tryz.prog Gs 150 (ap1 UaY):=mk1 .pureN ((Ah FJ (Ar _ _))) [] Tryz.func150
theorem Vaw:AG Tryz.prog Gs 149 (ap2 Uch):=mk2 .pureN ((Ah Mz ((Ah KJ (Ar _ _))))) [[1,2,0,3,4]] Tryz.func149
theorem Mo:AG Tryz.prog Gs 202 (ap1 Uci):=mk1 .keep (Ar _ _) [[1000001,0,2],[1000005,0,2]] Tryz.func202
theorem TR:AG Tryz.prog Gs 152 (ap1 Ucj):=mk1 .keep ((Ah DK ((Ah Mo (Ar _ _))))) [] Tryz.func152
theorem Rb:AG Tryz.prog Gs 87 (ap1 UaZ):=mk1 .pure ((Ah TR ((Ah Mz ((Ah QK ((Ah Vaw (Ar _ _))))))))) [[1000001,1]] Tryz.func87
theorem Tg:AG Tryz.prog Gs 203 (ap1 Uck):=mk1 .keep (Ar _ _) [] Tryz.func203
theorem TP:AG Tryz.prog Gs 154 (ap2 Ucm):=mk2 .pureN ((Ah Tg ((Ah DK (Ar _ _))))) [[1,5,19,20,21],[],[]] Tryz.func154
theorem Vax:AG Tryz.prog Gs 88 (ap1 Ucn):=mk1 .pureN ((Ah TP ((Ah FJ (Ar _ _))))) [] Tryz.func88
theorem TS:AG Tryz.prog Gs 158 (ap2 Ua7):=mk2 .keep (Ar _ _) [] Tryz.func158
noncomputable def Le (m:Nat):Orc:=ent 90 (ap3 (Ua8 m)) (ent 158 (ap2 Ua7) noO)
theorem Lb (m:Nat):T3 Tryz.prog Gs false (Le m) Tryz.f90 (.tw .lf (.tw (.tw .lf (.tw (.tw .lf .lf) .lf)) (.tw .lf (.tw (.tw .lf (.one (.loop [0,1,7,17,18,19] (.tw .lf (.tw (.tw .lf .lf) (.tw (.one (.tw .lf (.tw .lf (.join [0,1,7,9,10,17,18,19] (.tw .lf (.tw .lf .lf)) (.join [0,1,7,9,10,17,18,19] (.tw .lf (.tw .lf .lf)) (.reg [1,2,3,4,5,6,0,7,8])))))) .lf)))))) (.tw .lf (.tw (.tw .lf (.one (.loop [0,1,11,48,49] (.tw .lf (.tw (.tw .lf .lf) (.tw (.one (.tw .lf (.one (.tw .lf (.tw .lf (.tw .lf (.tw .lf .lf))))))) .lf)))))) (.tw (.reg [1,2,3,4,5,6,7,0,8,9,10]) (.tw .lf .lf)))))))) .keep (Ua8 (m+1)):=by unfold T3;intros;kernel_rfl
theorem G4:∀m,AG Tryz.prog Gs 90 (ap3 (Ua8 m))
 |0=>Vcm λ_ _ _ _=>rfl
 |m+1=>Vgq mixed (Ah (G4 m) ((Ah TS (Ar _ _)))) Tryz.func90 (by kernel_rfl) (Lb m)
theorem TN:AG Tryz.prog Gs 208 (ap3 Uco):=mk3 .pure (Ar _ _) [[]] Tryz.func208
theorem QY:AG Tryz.prog Gs 159 (ap1 Ubb):=mk1 .pure ((Ah TN (Ar _ _))) [[0,7,8,9],[0,3,7,8,9,23,24]] Tryz.func159
theorem EY:AG Tryz.prog Gs 209 (ap1 Ucq):=mk1 .keep (Ar _ _) [] Tryz.func209
theorem Qn:AG Tryz.prog Gs 238 (ap3 Ucr):=mk3 .keep (Ar _ _) [] Tryz.func238
noncomputable def GB:Orc:=C9
theorem G9:T2 Tryz.prog Gs false GB Tryz.f241 (.tw .lf (.tw (.tw .lf (.one (.loop [0,1,7,8] (.tw .lf (.tw (.tw .lf .lf) (.tw (.one (.tw .lf (.tw .lf (.tw (.tw .lf .lf) .lf)))) .lf)))))) (.tw .lf .lf))) .keep Uct:=by unfold T2;intros;kernel_rfl
theorem G0:AG Tryz.prog Gs 241 (ap2 Uct):=Qa mixed ((Ah Qn (Ar _ _))) Tryz.func241 (by kernel_rfl) G9
theorem FA:AG Tryz.prog Gs 237 (ap2 Ucu):=mk2 .keep ((Ah G0 (Ar _ _))) [] Tryz.func237
open Go.Proofs
set_option maxRecDepth 100000
theorem Mm:AG Tryz.prog Gs 230 (ap1 Ubc):=mk1 .pureN ((Ah FA (Ar _ _))) [[3,10,11,12],[3,4,5,6,0,1,2,7,8]] Tryz.func230
theorem QZ:AG Tryz.prog Gs 210 (ap2 Ucv):=mk2 .keep ((Ah Mm (Ar _ _))) [] Tryz.func210
theorem Qo:AG Tryz.prog Gs 211 (ap2 Ucy):=mk2 .keep ((Ah Mm (Ar _ _))) [[0,5,28,29],[0,5,6,7,28,29,40,41]] Tryz.func211
theorem Qq:AG Tryz.prog Gs 212 (ap3 Uc0):=mk3 .keep (Ar _ _) [] Tryz.func212
theorem OV:AG Tryz.prog Gs 160 (ap2 Ubd):=mk2 .pureN ((Ah EY ((Ah QZ ((Ah Qo ((Ah Qq (Ar _ _))))))))) [[0,1],[0,1,6,25]] Tryz.func160
theorem JE:AG Tryz.prog Gs 162 (ap2 Ube):=mk2 .keep (Ar _ _) [[],[1,2,3,4,5,6,7,0,8,9,10],[]] Tryz.func162
noncomputable def Sr (m:Nat):Orc:=Hz (Uem m)
theorem RE (m:Nat):T5 Tryz.prog Gs false (Sr m) Tryz.f161 (.tw .lf (.tw (.tw .lf (.tw .lf (.tw (.tw .lf .lf) .lf))) (.tw .lf (.join [0,1,4,9] (.tw .lf (.tw (.tw .lf (.one (.loop [0,1,3,4,9,30,31] (.tw .lf (.tw (.tw .lf .lf) (.tw (.one (.tw .lf .lf)) .lf)))))) .lf)) (.tw .lf (.tw .lf (.tw .lf .lf))))))) .keep (Uem (m+1)):=by unfold T5;intros;kernel_rfl
theorem La:∀m,AG Tryz.prog Gs 161 (ap5 (Uem m))
 |0=>Vcl λ_ _ _ _ _ _=>rfl
 |m+1=>Vgp mixed (Ah (La m) ((Ah JE (Ar _ _)))) Tryz.func161 (by kernel_rfl) (RE m)
noncomputable def Vaf:Orc:=Jj
theorem Vab:T2 Tryz.prog Gs false Vaf Tryz.f91 (.tw .lf (.tw (.tw .lf (.tw (.tw .lf .lf) .lf)) (.tw .lf (.tw .lf (.tw .lf (.tw .lf (.tw .lf (.tw .lf (.tw .lf .lf))))))))) .pureN Ubg:=by unfold T2;intros;kernel_rfl
theorem TW:AG Tryz.prog Gs 91 (ap2 Ubg):=Qa mixed ((Ah QY ((Ah OV ((Ah (La AP) (Ar _ _))))))) Tryz.func91 (by kernel_rfl) Vab
theorem TU:AG Tryz.prog Gs 39 (ap1 Ubi):=mk1 .pureN ((Ah DO ((Ah Rc ((Ah Rb ((Ah Vax ((Ah KJ ((Ah (G4 AP) ((Ah TW (Ar _ _))))))))))))))) [[2,4,5,19,20,21],[1,2,3,4,5,6,0,7,8],[2,5,8,9,40,41,42],[1,2,3,4,6,7,8,9,0,5,10,11,12,13,14,15,16]] Tryz.func39
theorem TL:AG Tryz.prog Gs 29 (ap2 UeE):=mk2 .pureN ((Ah OS ((Ah KY ((Ah TU (Ar _ _))))))) [[0,8,1,2,3,4,5,6,7,9,10],[]] Tryz.func29
theorem JC:AG Tryz.prog Gs 104 (ap1 Uc4):=mk1 .keep (Ar _ _) [] Tryz.func104
theorem Ls:AG Tryz.prog Gs 93 (ap1 Uc5):=mk1 .keep (Ar _ _) [] Tryz.func93
theorem Lt:AG Tryz.prog Gs 50 (ap1 Uc6):=mk1 .keep ((Ah Ls (Ar _ _))) [[0,3]] Tryz.func50
theorem KF:AG Tryz.prog Gs 167 (ap1 Uc9):=mk1 .keep (Ar _ _) [[0,3],[0,3,4],[]] Tryz.func167
theorem FB:AG Tryz.prog Gs 170 (ap1 Ubj):=mk1 .pureN (Ar _ _) [[0,3,4],[0,3,4,5,6]] Tryz.func170
theorem JD:AG Tryz.prog Gs 215 (ap2 UcD):=mk2 .keep ((Ah FB (Ar _ _))) [[0,1,5,6],[0,1,5,6,7,8]] Tryz.func215
noncomputable def Np (m:Nat):Orc:=ent 218 (ap3 (Ue3 m)) noO
theorem Nn (m:Nat):T3 Tryz.prog Gs false (Np m) Tryz.f218 (.tw .lf (.tw (.tw .lf (.one (.loop [0,1,2,7] (.tw (.tw .lf (.tw .lf .lf)) (.tw (.one (.tw .lf (.tw (.tw .lf .lf) .lf))) .lf))))) (.tw (.tw .lf (.one (.loop [0,1,2,8] (.tw (.tw .lf (.tw .lf .lf)) (.join [0,1,2,8] (.one (.tw .lf (.tw .lf .lf))) .lf))))) (.tw .lf .lf)))) .keep (Ue3 (m+1)):=by unfold T3;intros;kernel_rfl
theorem Hv:∀m,AG Tryz.prog Gs 218 (ap3 (Ue3 m))
 |0=>Vcm λ_ _ _ _=>rfl
 |m+1=>Vgq mixed (Ah (Hv m) (Ar _ _)) Tryz.func218 (by kernel_rfl) (Nn m)
theorem KD:AG Tryz.prog Gs 173 (ap1 UcJ):=mk1 .pure ((Ah KF ((Ah JD ((Ah FB ((Ah (Hv AP) (Ar _ _))))))))) [[3,4,5],[3,4,5,6],[],[3,7,8]] Tryz.func173
theorem K7:AG Tryz.prog Gs 105 (ap1 UcK):=mk1 .pure ((Ah Lt ((Ah KD (Ar _ _))))) [] Tryz.func105
theorem Lp:AG Tryz.prog Gs 28 (ap1 Ubm):=mk1 .pure (Ar _ _) [] Tryz.func28
theorem Hw:AG Tryz.prog Gs 219 (ap1 UaA):=mk1 .keepN (Ar _ _) [[0]] Tryz.func219
theorem CJ:AG Tryz.prog Gs 176 (ap1 Ucz):=mk1 .pureN ((Ah Hw (Ar _ _))) [[0,3,4],[0,3,4,5,6]] Tryz.func176
theorem DQ:AG Tryz.prog Gs 175 (ap1 Ue8):=mk1 .pureN ((Ah Hw (Ar _ _))) [[0,3,4],[0,3,4,5,6,7],[1000016,0,3,4,5,6,7]] Tryz.func175
theorem GK:AG Tryz.prog Gs 109 (ap1 Ual):=mk1 .keepN ((Ah CJ ((Ah DQ (Ar _ _))))) [] Tryz.func109
theorem Dt:AG Tryz.prog Gs 119 (ap2 Uez):=mk2 .pureN ((Ah GK (Ar _ _))) [] Tryz.func119
open Go.Proofs
set_option maxRecDepth 100000
theorem Dc:AG Tryz.prog Gs 64 (ap1 Ue0):=mk1 .pureN ((Ah Dt (Ar _ _))) [[1000002,0,2,3]] Tryz.func64
theorem Mv:AG Tryz.prog Gs 213 (ap2 UcN):=mk2 .pureN ((Ah CJ ((Ah DQ (Ar _ _))))) [[2,3,0,1,4,5,6]] Tryz.func213
theorem Ms:AG Tryz.prog Gs 166 (ap2 UcO):=mk2 .pureN ((Ah Mv ((Ah Dt (Ar _ _))))) [[2,3,4,5,0,1,6,7]] Tryz.func166
theorem CR:AG Tryz.prog Gs 98 (ap1 Ue9):=mk1 .pureN ((Ah Dc ((Ah Ms (Ar _ _))))) [] Tryz.func98
theorem Fw:AG Tryz.prog Gs 182 (ap2 Uda):=mk2 .keep (Ar _ _) [] Tryz.func182
theorem My:AG Tryz.prog Gs 120 (ap2 UcP):=mk2 .pureN ((Ah CJ ((Ah Fw ((Ah DQ (Ar _ _))))))) [[5,6,7,8,9],[1000011,5,6,7,8,9,10],[1000014,5,6,7,8,9,10],[1000017,5,6,7,9,10]] Tryz.func120
theorem Mx:AG Tryz.prog Gs 183 (ap2 UcQ):=mk2 .keep ((Ah CJ ((Ah Fw (Ar _ _))))) [[5,6,7]] Tryz.func183
theorem Mu:AG Tryz.prog Gs 121 (ap2 Ubp):=mk2 .pureN ((Ah Mx ((Ah CJ ((Ah Fw ((Ah DQ (Ar _ _))))))))) [[6,7,8,9,10],[1000015,6,7,8,10,11],[1000018,6,7,8,10,11],[1000022,6,7,8,9,10,11]] Tryz.func121
theorem CS:AG Tryz.prog Gs 63 (ap2 UbO):=mk2 .pureN ((Ah My ((Ah Dt ((Ah Mu (Ar _ _))))))) [[2,3,4,5,6,0,1,7,8]] Tryz.func63
theorem Ep:AG Tryz.prog Gs 97 (ap1 UeF):=mk1 .pureN ((Ah Dt (Ar _ _))) [] Tryz.func97
theorem Fb:AG Tryz.prog Gs 172 (ap2 Ue4):=mk2 .pureN ((Ah Ep ((Ah CS (Ar _ _))))) [[1,2,0,3,4]] Tryz.func172
theorem DG:AG Tryz.prog Gs 103 (ap2 Uev):=mk2 .pure ((Ah Fb (Ar _ _))) [] Tryz.func103
theorem KC:AG Tryz.prog Gs 171 (ap3 Uan):=mk3 .pureN ((Ah CR ((Ah DG ((Ah CS (Ar _ _))))))) [[0,4,5,7,8],[0,4,5,7,8,9,10,11],[1000014,0,4,5,7,8,9,10,11],[1000016,0,4,5,7,8,9,10,11,12,13],[],[1000024,0,4,5,7,8,9,10,11,15],[],[],[]] Tryz.func171
theorem G3:AG Tryz.prog Gs 107 (ap1 Ubr):=mk1 .pure (Ar _ _) [] Tryz.func107
theorem HM:AG Tryz.prog Gs 102 (ap1 Uao):=mk1 .pureN ((Ah KC ((Ah G3 ((Ah CR ((Ah Ep ((Ah CS ((Ah Fb (Ar _ _))))))))))))) [[0,1,2,3,4,5,7,8,9,6,10,12,13,14,11,15,16,17,18]] Tryz.func102
theorem Gc:AG Tryz.prog Gs 51 (ap2 Ubs):=mk2 .pure ((Ah HM ((Ah Dc ((Ah DG (Ar _ _))))))) [[2,3,0,1,4,5,6,9,10,7,8,11,12,13,14]] Tryz.func51
theorem Lq:AG Tryz.prog Gs 52 (ap1 Ubu):=mk1 .pure (Ar _ _) [[1,3,4],[1,3,4,5]] Tryz.func52
theorem Jo:AG Tryz.prog Gs 18 (ap3 UcV):=mk3 .pure ((Ah Gc ((Ah Lq (Ar _ _))))) [] Tryz.func18
theorem K8:AG Tryz.prog Gs 53 (ap3 UcW):=mk3 .pure ((Ah JC ((Ah K7 ((Ah Lp ((Ah Jo (Ar _ _))))))))) [] Tryz.func53
theorem Mt:AG Tryz.prog Gs 122 (ap1 UeG):=mk1 .pure (Ar _ _) [[1,4,5]] Tryz.func122
theorem Nt:AG Tryz.prog Gs 184 (ap2 Ubv):=mk2 .pure ((Ah CR ((Ah Ep ((Ah DG (Ar _ _))))))) [[1,2,0,3,4,5,6,7,8,9,10,11]] Tryz.func184
theorem Jp:AG Tryz.prog Gs 185 (ap3 UcX):=mk3 .pureN ((Ah CR ((Ah DG ((Ah Fb (Ar _ _))))))) [[1000003,4,5,7,8,9,10],[1000006,4,5,7,8,10],[0,1,3,4,2,5]] Tryz.func185
theorem Mr:AG Tryz.prog Gs 123 (ap3 UcY):=mk3 .pure ((Ah G3 ((Ah Nt ((Ah CR ((Ah CS ((Ah Jp (Ar _ _))))))))))) [[],[3,4,5,9],[0,1,2,3,4,5,6,7,8,9,10,11,12,14,15,16,17,13,18],[0,1,3,4,2,5]] Tryz.func123
theorem Ns:AG Tryz.prog Gs 65 (ap2 UcZ):=mk2 .pureN ((Ah Gc ((Ah HM ((Ah Mt ((Ah Dc ((Ah CS ((Ah Mr (Ar _ _))))))))))))) [[2,4,6,8,10,12,13],[2,4,6,8,10,12,13,14,15],[5,6,3,4,7,10,11,8,9,12,2,13,0,1,14,15]] Tryz.func65
theorem Mw:AG Tryz.prog Gs 56 (ap2 Udb):=mk2 .pureN ((Ah GK (Ar _ _))) [[0,1,6,7,8],[0,1,2,3,4,5,6,11,12,7,8,9,10,13]] Tryz.func56
open Go.Proofs
set_option maxRecDepth 100000
theorem GJ:AG Tryz.prog Gs 22 (ap1 UeH):=mk1 .pure ((Ah Mw (Ar _ _))) [[1,3,4]] Tryz.func22
theorem Mq:AG Tryz.prog Gs 73 (ap1 Ude):=mk1 .pure (Ar _ _) [[1,3],[1,3,4]] Tryz.func73
theorem Lk:AG Tryz.prog Gs 74 (ap1 Udg):=mk1 .keep (Ar _ _) [[0,3,4],[1000007,0,3,4]] Tryz.func74
theorem K6:AG Tryz.prog Gs 75 (ap2 UaD):=mk2 .keep ((Ah Dc ((Ah GJ (Ar _ _))))) [] Tryz.func75
theorem Lm:AG Tryz.prog Gs 76 (ap2 Ubz):=mk2 .keep (Ar _ _) [] Tryz.func76
theorem Gb:AG Tryz.prog Gs 34 (ap1 UeA):=mk1 .pureN ((Ah Mq ((Ah Lk ((Ah Lm ((Ah K6 (Ar _ _))))))))) [[1,3,4,5,6],[1000009,1,3,4,5,6],[1000015,1,3,5,6,7,8],[1,3,4,5,6,7,8,9],[1,3,4,5,6,7,8,9,10],[]] Tryz.func34
theorem Lj:AG Tryz.prog Gs 72 (ap1 Udj):=mk1 .keep (Ar _ _) [[0,3,4,5],[1000008,0,3,4,5]] Tryz.func72
theorem Ll:AG Tryz.prog Gs 31 (ap2 UeI):=mk2 .pure ((Ah K8 ((Ah Ns ((Ah GJ ((Ah Dc ((Ah Gb ((Ah Lj (Ar _ _))))))))))))) [[1000008,2,7,9],[0,1,2,5,6,7,3,4,8,9,10],[2,3,4,7,8,9,10,11,0,1,5,6,12,13,14,15,16,17,18]] Tryz.func31
theorem TM:AG Tryz.prog Gs 67 (ap1 UeJ):=mk1 .pure ((Ah KY (Ar _ _))) [[]] Tryz.func67
theorem KL:AG Tryz.prog Gs 16 (ap0 Sl.gliderref11_Wide):=by rw[Sl.gliderref11_Wide_eq];exact Ln
theorem M0:AG Tryz.prog Gs 29 (ap2 Sl.rle_Read):=by rw[Sl.rle_Read_eq];exact TL
theorem KK:AG Tryz.prog Gs 31 (ap2 Sl.gliderref13_Text):=by rw[Sl.gliderref13_Text_eq];exact Ll
theorem Tk:AG Tryz.prog Gs 67 (ap1 Sl.rle_Hint):=by rw[Sl.rle_Hint_eq];exact TM
theorem KI:AG Tryz.prog Gs 27 (ap0 UeK):=mk0 .pure ((Ah KL ((Ah M0 ((Ah KK ((Ah Tk (Ar _ _))))))))) [] Tryz.func27
open Go.Proofs
set_option maxRecDepth 100000
theorem KH:AG Tryz.prog Gs 55 (ap1 Udk):=mk1 .keep (Ar _ _) [] Tryz.func55
theorem KG:AG Tryz.prog Gs 21 (ap1 Ub1):=mk1 .pure ((Ah KH (Ar _ _))) [] Tryz.func21
theorem KE:AG Tryz.prog Gs 101 (ap2 Udn):=mk2 .keep (Ar _ _) [[0,1,5],[]] Tryz.func101
theorem Lr:AG Tryz.prog Gs 48 (ap2 Udo):=mk2 .pure ((Ah KE (Ar _ _))) [] Tryz.func48
theorem Lo:AG Tryz.prog Gs 15 (ap2 UeL):=mk2 .pure ((Ah Lr (Ar _ _))) [] Tryz.func15
theorem JH:AG Tryz.prog Gs 27 (ap0 Sl.gliderlaw18_alive):=by rw[Sl.gliderlaw18_alive_eq];exact KI
open Go.Proofs
set_option maxRecDepth 100000
theorem KM:AG Tryz.prog Gs 15 (ap2 Sl.gliderref11_Same):=by rw[Sl.gliderref11_Same_eq];exact Lo
theorem KA:AG Tryz.prog Gs 32 (ap2 Uac):=mk2 .pure (Ar _ _) [[1,2,5]] Tryz.func32
theorem K9:AG Tryz.prog Gs 33 (ap1 UeB):=mk1 .pure ((Ah KG (Ar _ _))) [[1,3],[]] Tryz.func33
theorem JG:AG Tryz.prog Gs 32 (ap2 Sl.gliderref10_Great):=by rw[Sl.gliderref10_Great_eq];exact KA
theorem JF:AG Tryz.prog Gs 33 (ap1 Sl.gliderref10_Right):=by rw[Sl.gliderref10_Right_eq];exact K9
theorem Jq:AG Tryz.prog Gs 34 (ap1 Sl.gliderref13_Tokens):=by rw[Sl.gliderref13_Tokens_eq];exact Gb
theorem IE:AG Tryz.prog Gs 11 (ap3 UdX):=mk3 .pure ((Ah JH ((Ah JG ((Ah JF ((Ah Jq ((Ah M0 ((Ah KM (Ar _ _))))))))))))) [[1,2,7,8,9,10],[1000016,1,2,7,8,9,10],[]] Tryz.func11
theorem Vfe (A B:List Nd)(t t':Tok)(H:Aa)(hA:A.length<1000000000000):Udn (.sl (enL cNd A) t) (.sl (enL cNd B) t') H=some (.ret (.bool (decide (A=B))),H):=by
 unfold Udn;simp only[GMw,Ax];by_cases hl:A.length=B.length
 ·have hd:decide ((A.length:Int)=(B.length:Int))=true:=zXc (by omega);simp only[GMw,hd];have key:=Br (G:=λrec1 vs H1=>UdW H rec1 (ag vs 0) (ag vs 1) (ag vs 2) H1) (σ:=Nat) (λi=>i<=A.length)
   (λi=>[.sl (enL cNd A) t,.sl (enL cNd B) t',.i6 (i:Int)]) (λ_=>H) (λi=>A.length-i) (λi=>some (.ret (.bool (decide (A.drop i=B.drop i))),H)) (λi rec hi hrec=>?_) 0 (VL _) (by omega)
  ·simpa using key
  ·unfold UdW;by_cases h:i<A.length
   ·have h':i<B.length:=by omega
    have hlt:(i:Int)<(A.length:Int):=by omega
    have hw:=Av (show i<9223372036854775807 by omega);have:=hrec (i+1) h (by omega);rw[VJ h,VJ h'];simp only[GMw,Aj,Ax,hlt,Az h,Az h',IU,VnI,hw];by_cases he:A[i]=B[i]
    ·simp only[he,GMw,List.cons.injEq,true_and];exact this
    ·simp only[he,GMw,List.cons.injEq,false_and]
   ·have hlt:¬(i:Int)<(A.length:Int):=by omega
    rw[WD (by omega),WD (by omega)];simp only[GMw,Aj,Ax,hlt]
 ·have hd:decide ((A.length:Int)=(B.length:Int))=false:=zXd (by omega);have hne:decide (A=B)=false:=zXd λh=>hl (by rw[h]);simp only[GMw,hd,hne]
theorem VhX (A B:List Nd)(H:Aa)(hA:A.length<1000000000000):Udo (.agg [.sl (enL cNd A) .no]) (.agg [.sl (enL cNd B) .no]) H=some (.ret (.bool (decide (A=B))),H):=by unfold Udo;simp only[GMw,HPw,Nat.reduceAdd,Nat.reduceLT,Vfe A B .no .no _ hA]
theorem VhT (r r':zAa)(A B:List Nd)(H:Aa)(hA:A.length<1000000000000):UeL (pat r A) (pat r' B) H=some (.ret (.bool (decide (r=r')&&decide (A=B))),H):=by
 unfold UeL pat Gp;have hq:Bp A=[.sl (enL cNd A) .no]:=rfl;have Zm:Bp B=[.sl (enL cNd B) .no]:=rfl;have hl:∀(c d:Ab) (G:Aa),Ad true 1 (.ptr 0 0 1) (.cel 0 [c,d]::G)=some (.agg [d]):=λc d G=>by simp only[Ad,J4];rfl
 by_cases hr:r=r'
 ·have hd:(r == r')=true:=by simp[hr]
  have bU:decide (r=r')=true:=zXc hr;simp only[GMw,HPw,Nat.reduceAdd,Nat.reduceLT,JK,hd,bU,hl,VhX A B _ hA]
 ·have hd:(r == r')=false:=by simp[hr]
  have bU:decide (r=r')=false:=zXd hr;simp only[GMw,HPw,Nat.reduceAdd,Nat.reduceLT,JK,hd,bU]
def Lx (H:Aa)(p:Nat)(b:zAa)(a:Nat)(r:List Ab):Prop:=H[p]? = some (.cel 0 (.str b::.i6 (a:Int)::r))
theorem P7 {H:Aa}{p a:Nat}{b:zAa}{r:List Ab}(h:Lx H p b a r):Ad false 1 (.ptr p 0 0) H=some (.str b):=by simp only[Ad,As h,Option.bind];rfl
theorem Fh {H:Aa}{p a:Nat}{b:zAa}{r:List Ab}(h:Lx H p b a r):Ad false 1 (.ptr p 0 1) H=some (.i6 (a:Int)):=by simp only[Ad,As h,Option.bind];rfl
theorem Iu {H:Aa}{p a:Nat}{b:zAa}{r:List Ab}(h:Lx H p b a r):Ue1 (.ptr p 0 0) H=some (.ret (.bool (decide (a=b.length))),H):=by
 unfold Ue1;simp only[GMw,Ag,Ae,Vr,P7 h,Fh h];by_cases e:a=b.length
 ·have e':(a:Int)=(b.length:Int):=by omega
  simp[e,e']
 ·have e':¬(a:Int)=(b.length:Int):=by omega
  simp[e,e']
def SH (e:Int)(s:zAa):Ab:=.iface IP (.agg [.i6 e,.str s])
theorem MP {H:Aa}{p a:Nat}{b:zAa}{r:List Ab}(h:Lx H p b a r)(s:zAa):Ubn (.ptr p 0 0) (.str s) H=some (.pan (if a=b.length then SH 3 s else SH 2 []),H):=by
 unfold Ubn;simp only[GMw,Iu h];by_cases e:a=b.length
 ·simp only[e,GMw]
  rfl
 ·simp only[e,GMw]
  rfl
theorem LO {H:Aa}(x:Ab):Uas x H=some (.pan (SH 4 []),H):=rfl
theorem UM (l:zAa)(c:UInt8):(0<=Lib.indexByte l c)↔c∈l:=by
 induction l with
 |nil=>simp[Lib.indexByte]
 |cons b l ih=>
  have hge:=Lib.indexByte_ge l c;unfold Lib.indexByte;by_cases h:b=c
  ·simp[h]
  ·have h':¬c=b:=λe=>h e.symm;by_cases h2:Lib.indexByte l c = -1
   ·have:¬c∈l:=λhm=>by have:=ih.2 hm;omega
    simp[h,h',h2,this]
   ·have h3:0<=Lib.indexByte l c:=by omega
    have h4:=ih.1 h3;simp[h,h2,h4];omega
def AV (b:zAa)(a:Nat)(some:zAa):Bool:=match b[a]? with
 |none=>false
 |Option.some c=>some.contains c
theorem CM {H:Aa}{p a:Nat}{b:zAa}{r:List Ab}(h:Lx H p b a r)(ha:a<=b.length)(s:zAa):Uaa (.ptr p 0 0) (.str s) H=some (.ret (.bool (AV b a s)),H):=by
 unfold Uaa AV;simp only[GMw,Iu h];by_cases e:a=b.length
 ·simp only[e,GMw];rw[zYb (Vo _)]
 ·have hlt:a<b.length:=by omega
  rw[Vl hlt];have hi:UaH (.str s) (.int .u8 (b[a].toNat:Int)) H=some (.ret (.i6 (Lib.indexByte s b[a])),H):=by unfold UaH;simp
  simp only[e,GMw,Ag,Ae,Vr,P7 h,Fh h,Ds hlt,hi];by_cases hm:b[a]∈s
  ·have:=(UM s b[a]).2 hm;simp[hm,this]
  ·have:¬0<=Lib.indexByte s b[a]:=λhc=>hm ((UM s b[a]).1 hc);simp[hm,this]
theorem MQ {H:Aa}{p a:Nat}{b:zAa}{r:List Ab}(h:Lx H p b a r)(n:Int):Ai 1 (.ptr p 0 1) (.i6 n) H=some (H.set p (.cel 0 (.str b::.i6 n::r))):=by simp only[Ai,As h,Option.bind,Ab.acells];simp[B6 h,Dx]
theorem VnL {H:Aa}{p a a':Nat}{b:zAa}{r:List Ab}(h:Lx H p b a r):Lx (H.set p (.cel 0 (.str b::.i6 (a':Int)::r))) p b a' r:=by
 have:p<H.length:=by
  rcases VT p H.length with h' | h'
  ·exact h'
  ·unfold Lx at h;rw[zYb h']at h;cases h
 unfold Lx;simp[this]
def BO (H:Aa)(p:Nat)(b:zAa)(r:List Ab)(a:Nat):Aa:=H.set p (.cel 0 (.str b::.i6 (a:Int)::r))
theorem DS {H:Aa}{p a:Nat}{b:zAa}{r:List Ab}(h:Lx H p b a r):BO H p b r a=H:=by
 unfold BO;apply WP;intro i;by_cases e:p=i
 ·subst e;have:p<H.length:=by
   rcases VT p H.length with h' | h'
   ·exact h'
   ·unfold Lx at h;rw[zYb h']at h;cases h
  rw[V0 this];exact h.symm
 ·rw[Vt e]
theorem Gj {H:Aa}{p a a':Nat}{b:zAa}{r:List Ab}(h:Lx H p b a r):Lx (BO H p b r a') p b a' r:=VnL h
theorem Uo (H:Aa)(p a a':Nat)(b:zAa)(r r':List Ab):BO (BO H p b r a) p b r' a'=BO H p b r' a':=by unfold BO;rw[XT]
theorem VbT (H:Aa)(p a:Nat)(b:zAa)(r:List Ab):(BO H p b r a).length=H.length:=by unfold BO;simp
theorem Kd {H:Aa}{p a a':Nat}{b:zAa}{r:List Ab}(h:Lx H p b a r)(n:Nat):Ai 1 (.ptr p 0 1) (.i6 (n:Int)) (BO H p b r a')=some (BO H p b r n):=by rw[MQ (Gj h)];exact congrArg some (Uo H p a' n b r r)
def M6 (b:zAa)(a:Nat):Nat:=a+((b.drop a).takeWhile λc=>!([13,10]:zAa).contains c).length
theorem Vhf {b:zAa}{a:Nat}(h:a<b.length):M6 b a=if AV b a [13,10]then a else M6 b (a+1):=by
 unfold M6 AV;rw[Vl h,VJ h,Xq];cases hc:([13,10]:zAa).contains b[a]with
 |true=>simp only[hc,VR,if_true,if_false,Vq,zXk,Nat.add_zero]
 |false=>simp only[hc,Wg,if_true,if_false,Vq,zXj];omega
theorem Vj3 {b:zAa}:M6 b b.length=b.length:=by simp[M6]
theorem VnN {H:Aa}{p a:Nat}{b:zAa}{r:List Ab}(h:Lx H p b a r)(ha:a<=b.length)(hb:b.length<1152921504606846976) :
  Ub8 (.ptr p 0 0) H=some (.ret (.tup []),BO H p b r (M6 b a)):=by
 unfold Ub8;have key:=Br (G:=λrec1 vs H1=>Uds H rec1 (ag vs 0) H1) (σ:=Nat) (λi=>i<=b.length) (λ_=>[.ptr p 0 0]) (λi=>BO H p b r i) (λi=>b.length-i)
  (λi=>some (.ret (.tup []),BO H p b r (M6 b i))) (λi rec hi hrec=>?_) a ha (by omega)
 ·rw[DS h]at key;exact key
 ·unfold Uds;have hx:=Gj (a':=i) h;simp only[GMw,Iu hx];by_cases e:i=b.length
  ·simp only[e,GMw,Vj3]
  ·have hlt:i<b.length:=by omega
   simp only[e,GMw,CM hx hi];rw[Vhf hlt];cases hc:AV b i [13,10]with
   |true=>simp only[GMw,VR]
   |false=>simp only[GMw,Wg,Ag,Ae,Vr,Fh hx,Av (show i<9223372036854775807 by omega),Kd h];exact hrec (i+1) (by omega) (by omega)
def Q0 (b:zAa)(a:Nat)(s:zAa):Ab:=if a=b.length then SH 3 s else SH 2 []
def crN (b:zAa)(a:Nat):Nat:=if AV b a [13]then a+1 else a
theorem Cx {b s:zAa}{a:Nat}(h:AV b a s=true):a<b.length:=by
 rcases VT a b.length with h' | h'
 ·exact h'
 ·unfold AV at h;rw[zYb h']at h;cases h
theorem Voe {b:zAa}{a:Nat}(ha:a<=b.length):crN b a<=b.length:=by
 unfold crN;cases hs:AV b a [13]with
 |true=>exact Cx hs
 |false=>exact ha
def Vp2 (H:Aa)(p:Nat)(b:zAa)(r:List Ab)(a:Nat)(rest:zAa):Out:=
 if a=b.length then some (.ret (.tup []),H)
 else if AV b (crN b a) [10]then some (.ret (.tup []),BO H p b r (crN b a+1))
 else some (.pan (Q0 b (crN b a) (10::rest)),BO H p b r (crN b a))
theorem VnM {H:Aa}{p a:Nat}{b:zAa}{r:List Ab}(h:Lx H p b a r)(ha:a<=b.length)(hb:b.length<1152921504606846976)(rest:zAa)(hr:rest.length<=1000000) :
  Uaq (.ptr p 0 0) (.str rest) H=Vp2 H p b r a rest:=by
 unfold Uaq Vp2;simp only[GMw,Iu h];by_cases e:a=b.length
 ·simp only[e,GMw]
 ·have key:∀c,c<=b.length->Udt H (.ptr p 0 0) (.str rest) (BO H p b r c)=if AV b c [10]then some (.ret (.tup []),BO H p b r (c+1))else some (.pan (Q0 b c (10::rest)),BO H p b r c):=by
   intro c hc;have hx:=Gj (a':=c) h;unfold Udt;simp only[GMw,CM hx hc];cases hs:AV b c [10]with
   |true=>unfold UdY;simp only[GMw,VR,Ag,Ae,Vr,Fh hx,Av (show c<9223372036854775807 by omega),Kd h]
   |false=>
    have gT:Af .none .add (.str [10]) (.str rest)=some (.str (10::rest)):=Cq (by simp only[zXj,zXk];omega);simp only[GMw,Wg,gT,MP hx]
    rfl
  simp only[e,GMw,CM h ha,AM];unfold crN;cases hs:AV b a [13]with
  |true=>
   have hlt:a<b.length:=by omega
   have hm:=Kd (a':=a) h (a+1);rw[DS h]at hm;simp only[GMw,Ag,Ae,Vr,Fh h,Av (show a<9223372036854775807 by omega),hm];exact key (a+1) (by omega)
  |false=>have:=key a ha;rw[DS h]at this;simp only[GMw];rw[DS h];exact this
def cpN:zAa->zAa->Nat
 |a::l,b::m=>if a=b then cpN l m+1 else 0
 |_,_=>0
theorem Kv:∀a b:zAa,cpN a b<=a.length/\cpN a b<=b.length
 |[],_=>⟨VL _,VL _⟩
 |_::_,[]=>⟨VL _,VL _⟩
 |a::l,b::m=>by
  have:=Kv l m;unfold cpN;by_cases h:a=b
  ·rw[if_pos h];simp only[zXj];omega
  ·rw[if_neg h];exact⟨VL _,VL _⟩
theorem VgF:∀(a b:zAa) (i:Nat),i<cpN a b->a[i]? = b[i]?
 |[],_,i,h=>by simp[cpN]at h
 |_::_,[],i,h=>by simp[cpN]at h
 |a::l,b::m,i,h=>by
  unfold cpN at h;by_cases e:a=b
  ·rw[if_pos e]at h;cases i with
   |zero=>simp[e]
   |succ i=>simpa using VgF l m i (by omega)
  ·rw[if_neg e]at h;omega
theorem Vda:∀(a b:zAa),cpN a b<a.length->cpN a b<b.length->a[cpN a b]? ≠ b[cpN a b]?
 |[],_,h,_=>by simp[cpN]at h
 |_::_,[],_,h=>by simp[cpN]at h
 |a::l,b::m,h,h2=>by
  by_cases e:a=b
  ·have ec:cpN (a::l) (b::m)=cpN l m+1:=by rw[cpN,if_pos e]
   rw[ec]at h h2 ⊢;simpa using Vda l m (by simpa using h) (by simpa using h2)
  ·have ec:cpN (a::l) (b::m)=0:=by rw[cpN,if_neg e]
   rw[ec];simpa using e
theorem VhN (a b:zAa)(H:Aa)(ha:a.length<1152921504606846976):Ub9 (.str a) (.str b) H=some (.ret (.i6 (cpN a b:Int)),H):=by
 unfold Ub9;have hm:(min (a.length:Int) (b.length:Int))=((min a.length b.length:Nat):Int):=by omega
 have hle:=Kv a b;have l1:BU (.str a)=some (.i6 (a.length:Int)):=rfl;have l2:BU (.str b)=some (.i6 (b.length:Int)):=rfl;simp only[GMw,l1,l2,Vlw,hm];have key:=Br (G:=λrec1 vs H1=>Udu H rec1 (ag vs 0) (ag vs 1) (ag vs 2) (ag vs 3) (ag vs 4) H1) (σ:=Nat) (λi=>i<=cpN a b)
  (λi=>[.str a,.str b,.i6 ((min a.length b.length:Nat):Int),.i6 ((min a.length b.length:Nat):Int),.i6 (i:Int)]) (λ_=>H) (λi=>cpN a b-i)
  (λ_=>some (.ret (.i6 (cpN a b:Int)),H)) (λi rec hi hrec=>?_) 0 (VL _) (by omega)
 ·exact key
 ·unfold Udu;by_cases hlt:i<min a.length b.length
  ·have hlt':(i:Int)<((min a.length b.length:Nat):Int):=by omega
   have h1:i<a.length:=by omega
   have h2:i<b.length:=by omega
   simp only[GMw,Aj,hlt',Ds h1,Ds h2];by_cases e:i=cpN a b
   ·have hne:=Vda a b (by omega) (by omega);rw[<-e,Vl h1,Vl h2]at hne;have hn:¬((a[i].toNat:Int)=(b[i].toNat:Int)):=λhc=>hne (congrArg some (WF.1 (by omega)));simp only[hn,GMw,not_false_eq_true];rw[e]
   ·have hg:=VgF a b i (by omega);rw[Vl h1,Vl h2]at hg;have hg':=WQ hg;simp only[hg',GMw,not_true_eq_false,Av (show i<9223372036854775807 by omega)];exact hrec (i+1) (by omega) (by omega)
  ·have hlt':¬(i:Int)<((min a.length b.length:Nat):Int):=by omega
   simp only[GMw,Aj,hlt'];have:min a.length b.length=cpN a b:=by omega
   rw[this]
def Vls (H:Aa)(p:Nat)(b:zAa)(r:List Ab)(a:Nat)(s rest:zAa):Out:=
 if cpN (b.drop a) s<s.length then some (.pan (Q0 b (a+cpN (b.drop a) s) (s.drop (cpN (b.drop a) s)++rest)),BO H p b r (a+cpN (b.drop a) s))
 else some (.ret (.tup []),BO H p b r (a+cpN (b.drop a) s))
theorem Vl2 {H:Aa}{p a:Nat}{b:zAa}{r:List Ab}(h:Lx H p b a r)(ha:a<=b.length)(hb:b.length<1152921504606846976)(s rest:zAa)(hs:s.length<=1000000)(hr:rest.length<=1000000) :
  Ue5 (.ptr p 0 0) (.str s) (.str rest) H=Vls H p b r a s rest:=by
 unfold Ue5 Vls;have hle:=Kv (b.drop a) s;have hd:(b.drop a).length=b.length-a:=V9;have hq:=VhN (b.drop a) s H (by omega);have l2:BU (.str s)=some (.i6 (s.length:Int)):=rfl;generalize cpN (b.drop a) s=n at hq hle ⊢;have hw:IntKind.i64.wrap ((a:Int)+(n:Int))=((a+n:Nat):Int):=by rw[An] <;> omega
 have hm:=Kd (a':=a) h (a+n);rw[DS h]at hm;have hx:=Gj (a':=a+n) h;simp only[GMw,Ag,Ae,Vr,P7 h,Fh h,Gi ha,hq,hw,hm,l2];by_cases hc:n<s.length
 ·have cF:(n:Int)<(s.length:Int):=by omega
  have gT:Af .none .add (.str (s.drop n)) (.str rest)=some (.str (s.drop n++rest)):=Cq (by rw[V9];omega);simp only[cF,GMw,Gi hle.2,gT,MP hx,if_pos hc]
  rfl
 ·have cF:¬(n:Int)<(s.length:Int):=by omega
  simp only[cF,GMw,if_neg hc]
def VmJ (b:zAa)(a:Nat)(s:zAa):Nat:=a+cpN (b.drop a) s
theorem Vl3 {b:zAa}{a:Nat}(ha:a<=b.length)(s:zAa):VmJ b a s<=b.length:=by have:=(Kv (b.drop a) s).1;rw[V9]at this;unfold VmJ;omega
theorem Vny (c:UInt8)(H:Aa):UbJ (.int .u8 (c.toNat:Int)) H=some (.ret (.bool (KS c)),H):=by
 unfold UbJ KS;by_cases h:(c.toNat:Int)>32
 ·have:33<=c.toNat:=by omega
  simp[h,this];omega
 ·have:¬33<=c.toNat:=by omega
  simp[h,this]
def onB (b:zAa)(f a:Nat):Bool:=match b[a]? with
 |none=>false
 |some c=>decide (a-f<40)&&KS c
def Hn (b:zAa)(f:Nat):Nat->Nat->Nat
 |0,a=>a
 |n+1,a=>if onB b f a then Hn b f n (a+1)else a
def VeG (H:Aa)(p:Nat)(b:zAa)(r:List Ab)(f e:Nat)(rest:zAa):Out:=
 if e=f then some (.pan (Q0 b e (97::rest)),BO H p b r e)else some (.ret (.str ((b.take e).drop f)),BO H p b r e)
theorem VaV {H:Aa}{p a f:Nat}{b:zAa}{r:List Ab}(h:Lx H p b f r)(hf:f<=a)(ha:a<=b.length)(rest:zAa)(hr:rest.length<=1000000) :
  (AM (λj2=>
 (Ag (.ptr p 0 0)).bind λx51=>
 (Ac 1 x51).bind λx52=>
 (Ad false 1 x52 (BO H p b r a)).bind λx53=>
 (Af .none .eql x53 (.i6 (f:Int))).bind λx54=>
 Ak x54 (
 (Af .none .add (.str [97]) (.str rest)).bind λx55=>
 bK H (Ubn (.ptr p 0 0) x55 (BO H p b r a)) λx56 H57=>
 j2 [.ptr p 0 0,.i6 (f:Int)] H57) (
 j2 [.ptr p 0 0,.i6 (f:Int)] (BO H p b r a))) (λvs H1=>Udy H (ag vs 0) (ag vs 1) H1))=VeG H p b r f a rest:=by
 have hx:=Gj (a':=a) h;unfold VeG;have gT:Af .none .add (.str [97]) (.str rest)=some (.str (97::rest)):=Cq (by simp only[zXj,zXk];omega);simp only[GMw,Ag,Ae,Vr,Fh hx];by_cases e:a=f
 ·simp only[e,GMw,gT,if_pos];subst e;simp only[MP hx]
  rfl
 ·have e':¬(a:Int)=(f:Int):=by omega
  simp only[e',GMw,if_neg e];unfold Udy;simp only[GMw,Ag,Ae,Vr,Fh hx,P7 hx,Uj hf ha]
theorem Pu {b:zAa}{f a:Nat}(h:onB b f a=false):∀n,Hn b f n a=a
 |0=>rfl
 |n+1=>by rw[Hn,h];rfl
theorem Vh7 {b:zAa}{f a:Nat}(h:onB b f a=true)(hf:f<=a):Hn b f (40-(a-f)) a=Hn b f (40-(a+1-f)) (a+1):=by
 have:a-f<40:=by
  unfold onB at h;split at h
  ·cases h
  ·simp at h;exact h.1
 have e:40-(a-f)=(40-(a+1-f))+1:=by omega
 rw[e,Hn,h,if_pos rfl]
theorem VnG {b:zAa}{f a:Nat}(h:onB b f a=true):a<b.length:=by
 rcases VT a b.length with h' | h'
 ·exact h'
 ·unfold onB at h;rw[zYb h']at h;cases h
theorem Vl1 {H:Aa}{p f:Nat}{b:zAa}{r:List Ab}(h:Lx H p b f r)(hf:f<=b.length)(hb:b.length<1152921504606846976)(rest:zAa)(hr:rest.length<=1000000) :
  UaJ (.ptr p 0 0) (.str rest) H=VeG H p b r f (Hn b f 40 f) rest:=by
 unfold UaJ;simp only[GMw,Ag,Ae,Vr,Fh h];have key:=Br (G:=λrec1 vs H1=>Udz H rec1 (ag vs 0) (ag vs 1) (ag vs 2) H1) (σ:=Nat) (λi=>f<=i/\i<=b.length) (λ_=>[.ptr p 0 0,.str rest,.i6 (f:Int)]) (λi=>BO H p b r i) (λi=>b.length-i)
  (λi=>VeG H p b r f (Hn b f (40-(i-f)) i) rest) (λi rec hi hrec=>?_) f ⟨Vo _,hf⟩ (by omega)
 ·rw[DS h,VZ,Nat.sub_zero]at key;exact key
 ·unfold Udz;obtain⟨h1,h2⟩:=hi;have hx:=Gj (a':=i) h;have aM:=VaV h h1 h2 rest hr;simp only[GMw,Iu hx];by_cases e:i=b.length
  ·have ho:onB b f i=false:=by unfold onB;rw[e,zYb (Vo _)]
   rw[Pu ho];simp only[e,GMw]at aM ⊢;exact aM
  ·have hlt:i<b.length:=by omega
   have hw:IntKind.i64.wrap ((i:Int)-(f:Int))=((i-f:Nat):Int):=by rw[An] <;> omega
   simp only[e,GMw,Ag,Ae,Vr,Fh hx,P7 hx,hw];by_cases tD:i-f<40
   ·have nW:((i-f:Nat):Int)<40:=by omega
    simp only[nW,GMw,Ae,Vr,Fh hx,P7 hx,Ds hlt,Vny];cases hs:KS b[i]with
    |true=>
     have ho:onB b f i=true:=by unfold onB;rw[Vl hlt];simp[tD,hs]
     rw[Vh7 ho h1];simp only[GMw,Fh hx,Av (show i<9223372036854775807 by omega),Kd h];exact hrec (i+1) ⟨by omega,by omega⟩ (by omega)
    |false=>
     have ho:onB b f i=false:=by unfold onB;rw[Vl hlt];simp[hs]
     rw[Pu ho];simpa only[GMw,Ag,Ae,Vr,Fh hx]using aM
   ·have nW:¬((i-f:Nat):Int)<40:=by omega
    have ho:onB b f i=false:=by unfold onB;rw[Vl hlt];simp[tD]
    rw[Pu ho];simpa only[nW,GMw,Ag,Ae,Vr,Fh hx]using aM
def Vja (b:zAa)(a:Nat):Nat:=if a=b.length then a else if AV b (crN b a) [10]then crN b a+1 else crN b a
theorem VlS {b:zAa}{a:Nat}(ha:a<=b.length):Vja b a<=b.length:=by
 unfold Vja;split
 ·exact ha
 ·split
  ·rename_i h;exact Cx h
  ·exact Voe ha
theorem VbW {b:zAa}{f:Nat}:∀(n a:Nat),a<=b.length->a<=Hn b f n a/\Hn b f n a<=b.length
 |0,a,h=>⟨Vo _,h⟩
 |n+1,a,h=>by
  rw[Hn];cases ho:onB b f a with
  |true=>have:=VbW (b:=b) (f:=f) n (a+1) (VnG ho);simp only[if_true];omega
  |false=>simp only[Vq,if_false];omega
abbrev Er:=Option (Int×zAa)
def Vog:Er->Int
 |none=>0
 |some e=>e.1
@[simp] theorem VmS:Vog none=0:=rfl
@[simp] theorem VmR (e:Int×zAa):Vog (some e)=e.1:=rfl
def Ly (b:zAa)(a:Nat)(s:zAa):Int×zAa:=if a=b.length then (3,s)else (2,[])
def DZ (b:zAa)(a:Nat)(s rest:zAa):Er×Nat:=(if cpN (b.drop a) s<s.length then some (Ly b (VmJ b a s) (s.drop (cpN (b.drop a) s)++rest))else none,VmJ b a s)
def Ks (b:zAa)(a:Nat)(rest:zAa):Er×Nat:=(if a=b.length then none else if AV b (crN b a) [10]then none else some (Ly b (crN b a) (10::rest)),Vja b a)
def Pv (b:zAa)(f:Nat)(rest:zAa):Er×Nat:=(if Hn b f 40 f=f then some (Ly b f (97::rest))else none,Hn b f 40 f)
def Db:zAa:=[48,49,50,51,52,53,54,55,56,57]
def LJ (b:zAa)(f:Nat)(rest:zAa):Nat->Nat->Er×Nat
 |0,a=>(none,a)
 |n+1,a=>
  if AV b a Db then
   if f<a/\b[f]? = some 48 then (some (Ly b a []),a)
   else if a-f=400 then (some (4,[]),a)
   else LJ b f rest n (a+1)
  else if a=f then (some (Ly b a (49::rest)),a)else (none,a)
def PC (b:zAa)(a:Nat)(neg:Bool):Nat:=if neg&&AV b a [45]then a+1 else a
def Ft (b:zAa)(a:Nat)(neg:Bool)(rest:zAa):Er×Nat:=
 if neg&&AV b a [45]&&AV b (a+1) [48]then (some (Ly b (a+1) []),a+1)else LJ b (PC b a neg) rest 402 (PC b a neg)
def Mg (b:zAa)(a:Nat):Nat:=(b.getD a 48).toNat-48
def JL (er:Er):Prop:=∀e,er=some e->0<e.1/\e.1<=4
theorem JL.none:JL none:=λe h=>by cases h
theorem JL.stp (b:zAa)(a:Nat)(s:zAa):JL (some (Ly b a s)):=λe h=>by injection h with h;subst h;unfold Ly;split <;> simp
theorem JL.lim:JL (some (4,[])):=λe h=>by injection h with h;subst h;simp
theorem LM (b:zAa)(a:Nat)(s rest:zAa):JL (DZ b a s rest).1:=by
 unfold DZ;split
 ·exact .stp _ _ _
 ·exact .none
theorem Vg3 (b:zAa)(a:Nat)(rest:zAa):JL (Ks b a rest).1:=by
 unfold Ks;split
 ·exact .none
 ·split
  ·exact .none
  ·exact .stp _ _ _
theorem VkB (b:zAa)(f:Nat)(rest:zAa):JL (Pv b f rest).1:=by
 unfold Pv;split
 ·exact .stp _ _ _
 ·exact .none
theorem Vf2 (b:zAa)(f:Nat)(rest:zAa):∀n a,JL (LJ b f rest n a).1
 |0,a=>.none
 |n+1,a=>by
  unfold LJ;split
  ·split
   ·exact .stp _ _ _
   ·split
    ·exact .lim
    ·exact Vf2 b f rest n (a+1)
  ·split
   ·exact .stp _ _ _
   ·exact .none
theorem Rt (b:zAa)(a:Nat)(neg:Bool)(rest:zAa):JL (Ft b a neg rest).1:=by
 unfold Ft;split
 ·exact .stp _ _ _
 ·exact Vf2 _ _ _ _ _
theorem Lx.push {H G:Aa}{p a:Nat}{b:zAa}{r:List Ab}(h:Lx H p b a r):Lx (H++G) p b a r:=by
 have:p<H.length:=by
  rcases VT p H.length with h' | h'
  ·exact h'
  ·unfold Lx at h;rw[zYb h']at h;cases h
 unfold Lx;rw[Vp this];exact h
theorem Vjh (c:UInt8):([48,49,50,51,52,53,54,55,56,57]:zAa).contains c=decide (48<=c.toNat/\c.toNat<=57):=by simp only[List.contains_eq_mem,Wf,List.not_mem_nil,or_false,decide_eq_decide,<-WF];simp only[UInt8.reduceToNat];omega

def NE (b:zAa)(f:Nat)(rest:zAa):Nat->Nat->Option Ab×Nat
 |0,a=>(none,a)
 |n+1,a=>
  if AV b a Db then
   if f<a/\b[f]? = some 48 then (some (Q0 b a []),a)
   else if a-f=400 then (some (SH 4 []),a)
   else NE b f rest n (a+1)
  else if a=f then (some (Q0 b a (49::rest)),a)else (none,a)
theorem Vf3 (b:zAa)(f:Nat)(rest:zAa):∀n a,a<=b.length->a<=(NE b f rest n a).2/\(NE b f rest n a).2<=b.length
 |0,a,h=>⟨Vo _,h⟩
 |n+1,a,h=>by
  unfold NE;by_cases hs:AV b a Db=true
  ·rw[if_pos hs];by_cases h1:f<a/\b[f]? = some 48
   ·rw[if_pos h1];exact⟨Vo _,h⟩
   ·rw[if_neg h1];by_cases h2:a-f=400
    ·rw[if_pos h2];exact⟨Vo _,h⟩
    ·rw[if_neg h2];have:=Vf3 b f rest n (a+1) (Cx hs);exact⟨by omega,this.2⟩
  ·rw[if_neg hs];by_cases h1:a=f
   ·rw[if_pos h1];exact⟨Vo _,h⟩
   ·rw[if_neg h1];exact⟨Vo _,h⟩
theorem Vlp {b:zAa}{f a:Nat}{rest:zAa}{n:Nat}(hs:AV b a Db=true)(h1:¬(f<a/\b[f]? = some 48))(h2:¬a-f=400):NE b f rest (n+1) a=NE b f rest n (a+1):=by rw[NE,if_pos hs,if_neg h1,if_neg h2]
noncomputable def Vpr (H0 K:Aa)(p:Nat)(b:zAa)(r:List Ab)(q from_:Ab):Option Ab×Nat->Out
 |(some v,e)=>some (.pan v,BO K p b r e)
 |(none,e)=>UaI H0 (.ptr p 0 0) q from_ (BO K p b r e)
theorem VaW {H0 K:Aa}{p f:Nat}{b:zAa}{r:List Ab}(h:Lx K p b f r)(hf:f<=b.length)(hb:b.length<1152921504606846976)(rest:zAa)(hr:rest.length<=1000000)(q from_:Ab) :
  Am (λaA vs H=>UbG H0 aA (ag vs 0) (ag vs 1) (ag vs 2) (ag vs 3) (ag vs 4) H) AP [.ptr p 0 0,.str rest,q,from_,.i6 (f:Int)] K=Vpr H0 K p b r q from_ (NE b f rest 402 f):=by
 have key:=Br (G:=λaA vs H=>UbG H0 aA (ag vs 0) (ag vs 1) (ag vs 2) (ag vs 3) (ag vs 4) H) (σ:=Nat) (λi=>f<=i/\i<=b.length/\i-f<=400) (λ_=>[.ptr p 0 0,.str rest,q,from_,.i6 (f:Int)]) (λi=>BO K p b r i) (λi=>b.length-i)
  (λi=>Vpr H0 K p b r q from_ (NE b f rest (402-(i-f)) i)) (λi rec hi hrec=>?_) f ⟨Vo _,hf,by omega⟩ (by omega)
 ·rw[DS h,VZ,Nat.sub_zero]at key;exact key
 ·obtain⟨h1,h2,h3⟩:=hi;have hx:=Gj (a':=i) h;have e:402-(i-f)=(401-(i-f))+1:=by omega
  have gT:Af .none .add (.str [49]) (.str rest)=some (.str (49::rest)):=Cq (by simp only[zXj,zXk];omega);unfold UbG;have pH:=CM hx h2 Db;unfold Db at pH;rw[e];have mW:AV b i [48,49,50,51,52,53,54,55,56,57]=AV b i Db:=rfl;simp only[GMw,pH,mW];cases hs:AV b i Db with
  |true=>
   have hlt:=Cx hs;have gN:f<b.length:=by omega
   have hw:IntKind.i64.wrap ((i:Int)-(f:Int))=((i-f:Nat):Int):=by rw[An] <;> omega
   have tail:¬(f<i/\b[f]? = some 48)->((Af .none .sub (.i6 (i:Int)) (.i6 (f:Int))).bind λx56=>
     (Af .none .eql x56 (.i6 400)).bind λx57=>
     Ak x57 (bK H0 (Uas (.ptr p 0 0) (BO K p b r i)) λx58 H59=>UbF H0 rec (.ptr p 0 0) (.str rest) q from_ (.i6 (f:Int)) H59)
      (UbF H0 rec (.ptr p 0 0) (.str rest) q from_ (.i6 (f:Int)) (BO K p b r i)))=Vpr H0 K p b r q from_ (NE b f rest (401-(i-f)+1) i):=by
    intro hn;simp only[GMw,hw];by_cases h4:i-f=400
    ·have wK:((i-f:Nat):Int)=400:=by omega
     rw[NE,if_pos hs,if_neg hn,if_pos h4];simp only[wK,GMw,LO]
     rfl
    ·have wK:¬((i-f:Nat):Int)=400:=by omega
     rw[Vlp hs hn h4];unfold UbF;simp only[wK,GMw,Ag,Ae,Vr,Fh hx,Av (show i<9223372036854775807 by omega),Kd h];have:=hrec (i+1) ⟨by omega,by omega,by omega⟩ (by omega);rw[show 402-(i+1-f)=401-(i-f)by omega]at this;exact this
   by_cases eG:f<i
   ·have jG:(i:Int)>(f:Int):=by omega
    simp only[GMw,Ag,Ae,Vr,Fh hx,P7 hx,jG,Ds gN,Aj];by_cases h0:b[f]=48
    ·rw[NE,if_pos hs,if_pos ⟨eG,by rw[Vl gN,h0]⟩];simp only[h0,GMw,MP hx]
     rfl
    ·have eT:¬((b[f].toNat:Int)=48):=λhc=>h0 (WF.1 (by show b[f].toNat=48;omega));simp only[eT,GMw];exact tail (λhc=>h0 (by have:=hc.2;rw[Vl gN]at this;exact WQ this))
   ·have jG:¬(i:Int)>(f:Int):=by omega
    simp only[GMw,Ag,Ae,Vr,Fh hx,jG,Aj];exact tail (λhc=>eG hc.1)
  |false=>
   rw[NE,if_neg (by rw[hs];exact Bool.false_ne_true)];simp only[GMw,Ag,Ae,Vr,Fh hx,Aj];by_cases he:i=f
   ·have cQ:(i:Int)=(f:Int):=by omega
    rw[if_pos he];simp only[cQ,GMw,gT,MP hx]
    rfl
   ·have cQ:¬(i:Int)=(f:Int):=by omega
    rw[if_neg he];simp only[cQ,GMw]
    rfl
theorem VcX (n:Nat):0<(Di n).length:=by unfold Di;split <;> simp
section
variable {H:Aa}{id g i:Nat}{L:List (zAa)}

end
theorem IA {n:Nat}(h:n<10):Di n=[UInt8.ofNat (48+n)]:=by unfold Di;rw[dif_pos h]
theorem Tb {n:Nat}(h:¬n<10):Di n=Di (n / 10)++[UInt8.ofNat (48+n%10)]:=by
 conv=>lhs;unfold Di
 rw[dif_neg h]
theorem Vb (n:Nat)(h:n≠0):∃c r,Di n=c::r/\c≠48:=by
 induction n using Nat.strongRecOn with
 |ind n ih=>
  by_cases hn:n<10
  ·refine⟨_,_,IA hn,λe=>?_⟩;have:=congrArg UInt8.toNat e;rw[Xf (show 48+n<256 by omega)]at this;have oU:(48:UInt8).toNat=48:=rfl;omega
  ·obtain⟨c,r,h1,h2⟩:=ih (n / 10) (by omega) (by omega);exact⟨c,r++[UInt8.ofNat (48+n%10)],by rw[Tb hn,h1];rfl,h2⟩
theorem Vcg {a b:Nat}(h:a<=b):10^a<=10^b:=VO (by omega) h
def Iy (c:UInt8):Bool:=decide (48<=c.toNat)&&decide (c.toNat<=57)
def I9 (s:zAa):Nat:=(s.takeWhile Iy).length
theorem Vg9 (s:zAa):I9 s<=s.length:=(WR Iy).length_le
theorem Va (c:UInt8)(s:zAa):I9 (c::s)=if Iy c then I9 s+1 else 0:=by unfold I9;rw[Xq];split <;> simp
theorem Vkn (s:zAa)(pos:Nat)(h:pos<s.length):((⟨s.toArray⟩:ByteArray)[pos]'(by show pos<s.toArray.size;simpa using h))=s[pos]:=by show s.toArray[pos]=s[pos];simp
theorem VcF (s:zAa):∀(f pos:Nat),pos<=s.length->s.length-pos<=f->Lib.idxFuncFrom KV true ⟨s.toArray⟩ f pos=if pos+I9 (s.drop pos)<s.length then ((pos+I9 (s.drop pos):Nat):Int)else -1
 |0,pos,h1,h2=>by
  have:pos=s.length:=by omega
  subst this;rw[Lib.idxFuncFrom,if_neg (by omega)]
 |f+1,pos,h1,h2=>by
  have hsz:(⟨s.toArray⟩:ByteArray).size=s.length:=by simp[ByteArray.size]
  unfold Lib.idxFuncFrom;rw[hsz];by_cases hp:pos<s.length
  ·rw[if_pos hp,VJ hp,Va];have hb:=Vkn s pos hp;by_cases ha:s[pos].toNat<128
   ·rw[decode_ascii ⟨s.toArray⟩ pos (by omega) (by rw[hb];exact ha),hb];simp only[];by_cases hd:Iy s[pos]=true
    ·have kM:KV s[pos].toNat=false:=by simp only[Iy,Vx,zXe]at hd;simp only[KV,X5,decide_eq_false_iff_not];omega
     rw[kM,if_neg (by simp),if_pos hd,VcF s f (pos+1) (by omega) (by omega)];rw[show pos+(I9 (s.drop (pos+1))+1)=pos+1+I9 (s.drop (pos+1))by omega]
    ·have kM:KV s[pos].toNat=true:=by simp only[Iy,Vx,zXe]at hd;simp only[KV,Wn,zXe];omega
     rw[kM,if_pos rfl,if_neg hd,if_pos (by omega)]
     rfl
   ·obtain⟨k1,k2⟩:=decode_high ⟨s.toArray⟩ pos (by omega) (by rw[hb];omega);have hd:¬Iy s[pos]=true:=by simp only[Iy,Vx,zXe];omega
    have kM:KV (Utf8.decode ⟨s.toArray⟩ pos).1=true:=by simp only[KV,Wn,zXe];omega
    rw[kM,if_pos rfl,if_neg hd,if_pos (by omega)]
    rfl
  ·rw[if_neg hp,if_neg (by omega)]
theorem VlG (s:zAa):Lib.idxFunc KV true ⟨s.toArray⟩=if I9 s<s.length then (I9 s:Int)else -1:=by
 have hsz:(⟨s.toArray⟩:ByteArray).size=s.length:=by simp[ByteArray.size]
 have:=VcF s s.length 0 (VL _) (by omega);rw[Vr,WC]at this;rw[Lib.idxFunc,hsz,this]
def VoQ (s:zAa)(at':Int):Nat:=if at'<0 then 0 else I9 (s.drop at'.toNat)
theorem VhL (s:zAa)(at':Int)(H:Aa)(hs:s.length<1152921504606846976):UbB (.str s) (.i6 at') H=some (.ret (.i6 (VoQ s at')),H):=by
 unfold UbB VoQ;by_cases h0:at'<0
 ·simp only[GMw,h0,if_true]
  rfl
 ·obtain⟨a,rfl⟩:∃a:Nat,at'=(a:Int):=⟨at'.toNat,by omega⟩;simp only[GMw,h0,if_false,CU,zXl];by_cases h1:a<=s.length
  ·have eB:¬((a:Int)>(s.length:Int)):=by omega
   have hsl:Ci (.str s) (some (.i6 (a:Int))) none=some (.str (s.drop a)):=by simp[Ci,Bw,h1]
   have hi:UaG (.str (s.drop a)) (.fn 235 []) H=some (.ret (.i6 (if I9 (s.drop a)<(s.drop a).length then (I9 (s.drop a):Int)else -1)),H):=by unfold UaG;simp only[VlG]
   have hle:=Vg9 (s.drop a);simp only[eB,GMw,hsl];by_cases hd:I9 (s.drop a)<(s.drop a).length
   ·have:¬((I9 (s.drop a):Int)<0):=by omega
    rw[hi,if_pos hd];simp only[this,GMw]
   ·have e:I9 (s.drop a)=(s.drop a).length:=by omega
    rw[hi,if_neg hd];simp only[show ((-1:Int)<0) from by decide,GMw,CU,<-e]
  ·have eB:(a:Int)>(s.length:Int):=by omega
   rw[WD (by omega)];simp only[eB,GMw]
   rfl
def HW (s:zAa):Nat:=s.foldl (λv c=>v*10+(c.toNat-48)) 0
theorem Nc (s:zAa)(c:UInt8):HW (s++[c])=HW s*10+(c.toNat-48):=by simp[HW]
theorem Ta {s:zAa}(h:I9 s=s.length):∀c∈s,Iy c=true:=by
 induction s with
 |nil=>intro c hc;cases hc
 |cons x s ih=>
  rw[Va]at h;by_cases hx:Iy x=true
  ·rw[if_pos hx,zXj]at h;intro c hc;rcases Wf.1 hc with e | e
   ·rw[e];exact hx
   ·exact ih (by omega) c e
  ·rw[if_neg hx]at h;simp at h
theorem GT (c:UInt8):Iy c=true↔48<=c.toNat/\c.toNat<=57:=by simp[Iy]
theorem Vbt {s:zAa}(h:∀c∈s,Iy c=true):∀i,i<=s.length->HW (s.take i)<10^i
 |0,_=>by simp[HW]
 |i+1,hi=>by have:=Vbt h i (by omega);have hc:=(GT _).1 (h _ (Vz (show i<s.length by omega)));rw[Vw (by omega),Nc,Nat.pow_succ];omega
def Pq (s:zAa):Bool:=match s with
 |c::_=>c == 45
 |[]=>false
def C4 (s:zAa):zAa:=if Pq s then s.drop 1 else s
def Ob (s:zAa):Bool:=C4 s == []||decide (I9 (C4 s)<(C4 s).length)||((C4 s)[0]?.getD 0 == 48 && !(s == [48]))
def Iq (s:zAa):Int:=if Ob s then 2 else if (C4 s).length>400 then 4 else 0
def Dl (s:zAa):Int:=if Iq s=0 then (if Pq s then -(HW (C4 s):Int)else HW (C4 s))else 0
theorem VaJ (s:zAa)(H:Aa)(hs:s.length<1152921504606846976):UbA (.str s) (.str [45]) H=some (.ret (.tup [.str (C4 s),.bool (Pq s)]),H):=by
 have hp:Uap (.str s) (.str [45]) H=some (.ret (.bool (Pq s)),H):=by
  unfold Uap;cases s with
  |nil=>simp[BU,Pq]
  |cons c r=>
   have h1:((c::r).length:Int)>=(([45]:zAa).length:Int):=by simp;omega
   have h2:Ci (.str (c::r)) none (some (.i6 (([45]:zAa).length:Int)))=some (.str [c]):=by rw[Od (by simp)];rfl
   simp only[CU,GMw,h1,h2,JK];simp[Pq]
 unfold UbA Udv;cases hb:Pq s with
 |false=>simp only[GMw,hp,hb,Ce,Cg,C4,Vq,if_false]
 |true=>
  have h2:Ci (.str s) (some (.i6 (([45]:zAa).length:Int))) none=some (.str (s.drop 1)):=by
   refine Gi (l:=1) ?_;cases s with
   |nil=>cases hb
   |cons c r=>simp
  simp only[GMw,hp,hb,CU,h2,Ce,Cg,C4,if_true]
theorem Viv {B:Aa}{d:zAa}{i:Nat}(h:i<d.length)(hd:d[i].toNat<128):Oq (.ptr B.length 0 0) (B++[.iter d i])=some (.tup [.bool true,.i6 (i:Int),.int .i32 (d[i].toNat:Int)],B++[.iter d (i+1)]):=by have hb:=Vkn d i h;have vR:=decode_ascii ⟨d.toArray⟩ i (by show i<d.toArray.size;simpa using h) (by rw[hb];exact hd);simp only[Oq,List.getElem?_concat_length,h,if_true,vR,hb,Bt]
theorem Viu {B:Aa}{d:zAa}:Oq (.ptr B.length 0 0) (B++[.iter d d.length])=some (.tup [.bool false],B++[.iter d d.length]):=by simp[Oq]
theorem Vbj {H G:Aa}{zb:List Ab}{neg:Bool}{l:zAb}{tk:Tok}{e:Int}(hz:zb.length=2) :
  (bP H (AE (Ai 2 (.ptr H.length 0 0) (.agg [.bool neg,.sl (enL cU l) tk]) (H++(.cel 0 zb::G)))) λ_ H40=>(GP [Ad true 2 (.ptr H.length 0 0) H40,some (.i6 e)]).bind λx=>rPN H x H40)=some (.ret (.tup [.agg [.bool neg,.sl (enL cU l) .no],.i6 e]),H):=by
 have h1:Ai 2 (.ptr H.length 0 0) (.agg [.bool neg,.sl (enL cU l) tk]) (H++(.cel 0 zb::G))=some (H++(.cel 0 [.bool neg,.sl (enL cU l) tk]::G)):=by
  rw[N5,Ui (vs:=[.bool neg,.sl (enL cU l) tk]) rfl hz rfl]
  rfl
 have h2:Ad true 2 (.ptr H.length 0 0) (H++(.cel 0 [.bool neg,.sl (enL cU l) tk]::G))=some (.agg [.bool neg,.sl (enL cU l) tk]):=by rw[Ga];rfl
 simp only[h1,GMw,h2,Hj,E8,F1,zXb,CT,Dn,BY,Cv,J8,Hs,I5,Ma,Kr,EC]
theorem Vdl:Ab.agg [.bool false,.sl (enL cU []) .no]=big 0:=by
 rw[Qs,show (0:Int).natAbs=0 from rfl,EA]
 rfl
theorem Vou {neg:Bool}{n:Nat}(h:neg=true->n≠0):Ab.agg [.bool neg,.sl (enL cU (A4 n)) .no]=big (if neg then -(n:Int)else n):=by
 have h1:=Vb4 neg n;have h2:sgn neg n=neg:=by
  unfold sgn;cases neg with
  |false=>rfl
  |true=>simp[h rfl]
 rw[h2]at h1;rw[h1]
 rfl
theorem Tl:AD (some [(.bool false),(.sl [] .ti)]) []=some (.agg [.bool false,.sl (enL cU []) .ti]):=rfl
theorem Vea {neg:Bool}{es:List (List Ab)}{tk:Tok}:AD (some [(.bool false),(.sl [] .ti)]) [(0,1,.bool neg),(1,1,.sl es tk)]=some (.agg [.bool neg,.sl es tk]):=by simp[AD,GH,Dx]
theorem Va6 {s:zAa}(h:Ob s=false):C4 s≠[]/\I9 (C4 s)=(C4 s).length/\((C4 s)[0]?.getD 0=48->s=[48]):=by
 unfold Ob at h;simp only[X5,WX,beq_eq_false_iff_ne,decide_eq_false_iff_not,ne_eq,XG,beq_iff_eq]at h;have:=Vg9 (C4 s);refine⟨h.1.1,by omega,λh0=>?_⟩;rcases h.2 with h3 | h3
 ·exact absurd h0 h3
 ·exact h3
theorem VgB (c:UInt8)(s:zAa):HW (c::s)=(c.toNat-48)*10^s.length+HW s:=by
 have key:∀(s:zAa) (v:Nat),s.foldl (λv c=>v*10+(c.toNat-48)) v=v*10^s.length+HW s:=by
  intro s
  induction s with
  |nil=>intro v;simp[HW]
  |cons x s ih=>
   intro v;rw[List.foldl_cons,ih,zXj,Nat.pow_succ];have e:HW (x::s)=(x.toNat-48)*10^s.length+HW s:=by have:=ih (0*10+(x.toNat-48));rw[X9,Vr]at this;unfold HW;rw[List.foldl_cons,X9,Vr];exact this
   rw[e,We,WS v 10,W8 10];omega
 have:=key s (0*10+(c.toNat-48));rw[X9,Vr]at this
 conv=>lhs;unfold HW
 rw[List.foldl_cons,X9,Vr];exact this
theorem Vmb {s:zAa}(h:Ob s=false)(hn:Pq s=true):HW (C4 s)≠0:=by
 obtain⟨h1,h2,h3⟩:=Va6 h;cases hd:C4 s with
 |nil=>exact absurd hd h1
 |cons c r=>
  rw[VgB];have hc:=Ta h2 c (by rw[hd];simp);rw[GT]at hc;have oU:c.toNat≠48:=λe=>by have:c=48:=UInt8.toNat.inj e;have:=h3 (by rw[hd,this];rfl);rw[this]at hn;cases hn
  have:1<=10^r.length:=Xv (by omega);have:1<=(c.toNat-48)*10^r.length:=Nat.mul_pos (by omega) this;omega
theorem Vhp {n:Int}(h0:-2147483648<=n)(h:n<=2147483647):IntKind.i32.wrap n=n:=by have h1:IntKind.i32.bits=32:=rfl;have h2:IntKind.i32.signed=true:=rfl;unfold IntKind.wrap;simp only[h1,h2,zXn];split <;> rename_i hc <;> simp at hc <;> omega
theorem Vhq {c:UInt8}(h:Iy c=true):IntKind.i32.wrap ((c.toNat:Int)-48)=((c.toNat-48:Nat):Int):=by rw[GT]at h;rw[Vhp (by omega) (by omega)];omega
theorem Vba {n m:Nat}(h:n<10^m)(hm:m<=4096):(A4 n).length<=4096:=S7 (n:=n) (Wu (m:=10^m) h (Vcg (a:=m) (b:=4096) hm))
theorem VkP (s:zAa)(H:Aa)(hs:s.length<1152921504606846976):UbE (.str s) H=some (.ret (.tup [big (Dl s),.i6 (Iq s)]),H):=by
 unfold UbE;have gY:(C4 s).length<=s.length:=by unfold C4;split <;> simp
 have mJ:=VaJ s (H++[Blk.cel 0 [.bool false,.sl [] .ti]]) hs;have xZ:=VhL (C4 s) 0 (H++[Blk.cel 0 [.bool false,.sl [] .ti]]) (by omega);have oQ:(VoQ (C4 s) 0:Int)=(I9 (C4 s):Int):=by simp[VoQ]
 rw[oQ]at xZ;simp only[alloc_eq (cs:=[.bool false,.sl [] .ti]) rfl,Bj,mJ,GMw,Ce,Cg,JK];have tail:Udx H (.ptr H.length 0 0) (.str (C4 s)) (.bool (Pq s)) (.bool (Ob s)) (H++[Blk.cel 0 [.bool false,.sl [] .ti]])=some (.ret (.tup [big (Dl s),.i6 (Iq s)]),H):=by
  unfold Udx;cases cX:Ob s with
  |true=>
   have hE:Iq s=2:=by simp[Iq,cX]
   have hZ:Dl s=0:=by simp[Dl,hE]
   rw[hE,hZ,<-Vdl];simp only[GMw,Tl];exact Vbj rfl
  |false=>
   obtain⟨n1,n2,n3⟩:=Va6 cX;simp only[GMw,CU];by_cases hl:(C4 s).length>400
   ·have dG:((C4 s).length:Int)>400:=by omega
    have hE:Iq s=4:=by simp[Iq,cX,hl]
    have hZ:Dl s=0:=by simp[Dl,hE]
    rw[hE,hZ,<-Vdl];simp only[dG,GMw,Tl];exact Vbj rfl
   ·have dG:¬((C4 s).length:Int)>400:=by omega
    have hE:Iq s=0:=by simp[Iq,cX,hl]
    have hZ:Dl s=(if Pq s then -(HW (C4 s):Int)else HW (C4 s)):=by simp[Dl,hE]
    have hne:=Vmb cX;have aF:=Ta n2;have hlt:=Vbt aF;rw[hE,hZ,<-Vou (neg:=Pq s) hne];generalize hd:C4 s=d at *;simp only[dG,GMw];have zI:N7 (.str d) (H++[Blk.cel 0 [.bool false,.sl [] .ti]])=some (.ptr (H.length+1) 0 0,H++[.cel 0 [.bool false,.sl [] .ti]]++[.iter d 0]):=by simp[N7]
    simp only[zI,GMw];have hBl:(H++[Blk.cel 0 [.bool false,.sl [] .ti]]).length=H.length+1:=by simp
    obtain⟨tkf,htk⟩:∃tkf:Nat->Tok,tkf=λi=>if i=0 then .ti else .no:=⟨_,rfl⟩
    have key:=CA (G:=λaA vs H1=>UbD H aA (ag vs 0) (ag vs 1) (ag vs 2) (ag vs 3) H1) d.length (λi=>[.ptr H.length 0 0,.bool (Pq s),.sl (enL cU (A4 (HW (d.take i)))) (tkf i),.ptr (H.length+1) 0 0])
     (λi=>H++[.cel 0 [.bool false,.sl [] .ti]]++[.iter d i]) (some (.ret (.tup [.agg [.bool (Pq s),.sl (enL cU (A4 (HW d))) .no],.i6 0]),H)) (by omega) (λrec i hi=>?_) (λrec=>?_)
    ·rw[List.take_zero,show HW []=0 from rfl,EA,htk]at key;exact key
    ·have xY:=aF _ (Vz hi);have Y0:=(GT _).1 xY;have hnx:=Viv (B:=H++[Blk.cel 0 [.bool false,.sl [] .ti]]) hi (by omega);rw[hBl]at hnx;have hw:=Vhq xY;have hcv:AC .u32 (.int .i32 ((d[i].toNat-48:Nat):Int))=some (.int .u32 ((d[i].toNat-48:Nat):Int)):=by rw[Bo,Dj (by omega) (by omega)]
     have kI:=Vba (hlt i (by omega)) (by omega);have hml:=λH=>Vpj (l:=A4 (HW (d.take i))) (tk:=tkf i) (m:=10) (c:=d[i].toNat-48) H (Bn _) (by omega) (by omega) (by omega);simp only[B2,<-Nc,<-Vw hi,show ((10:Nat):Int)=10 from rfl]at hml;have tM:tkf (i+1)=.no:=by rw[htk];rfl
     unfold UbD;simp only[Al,Aj,hnx,GMw,Ce,show ∀(x y z:Ab),At 2 (.tup [x,y,z])=some z from λ_ _ _=>rfl,show ∀(x y z:Ab),At 0 (.tup [x,y,z])=some x from λ_ _ _=>rfl,hw,hcv,hml,tM]
    ·have hnx:=Viu (B:=H++[Blk.cel 0 [.bool false,.sl [] .ti]]) (d:=d);rw[hBl]at hnx;unfold UbD;simp only[Al,Aj,hnx,GMw,show ∀(x:Ab),At 0 (.tup [x])=some x from λ_=>rfl,Vea,Wc];rw[Vu H];exact Vbj rfl
 by_cases h0:C4 s=[]
 ·have cX:Ob s=true:=by simp[Ob,h0]
  rw[cX]at tail;simp only[h0,beq_self_eq_true,GMw,Al,Aj]at tail ⊢;exact tail
 ·have hb:(C4 s == [])=false:=by simpa using h0
  simp only[hb,GMw,xZ,CU];by_cases hlt:I9 (C4 s)<(C4 s).length
  ·have hlt':(I9 (C4 s):Int)<((C4 s).length:Int):=by omega
   have cX:Ob s=true:=by simp[Ob,hlt]
   rw[cX]at tail;simp only[hlt',GMw,Al,Aj];exact tail
  ·have hlt':¬(I9 (C4 s):Int)<((C4 s).length:Int):=by omega
   obtain⟨c,r,yB⟩:=List.exists_cons_of_ne_nil h0;have dD:Cj (.str (C4 s)) (.i6 0)=some (.int .u8 (c.toNat:Int)):=by rw[yB];exact ViE
   have cX:Ob s=((c == 48) && !(s == [48])):=by
    simp only[Ob,hb,zXd hlt,zXo];rw[yB]
    rfl
   have hcc:decide ((c.toNat:Int)=48)=(c == 48):=by
    rw[V8];simp only[zXe,beq_iff_eq];constructor
    ·intro h;exact UInt8.toNat.inj (show c.toNat=(48:UInt8).toNat from by have:(48:UInt8).toNat=48:=rfl;omega)
    ·intro h;rw[h];rfl
   rw[cX]at tail;simp only[hlt',GMw,dD,hcc,Vj1];cases rO:(c == 48)with
   |false=>rw[rO,Wh]at tail;simp only[GMw,Al,Aj];exact tail
   |true=>rw[rO,zXn]at tail;simp only[GMw,Al,Aj];exact tail
end Go.Gm
