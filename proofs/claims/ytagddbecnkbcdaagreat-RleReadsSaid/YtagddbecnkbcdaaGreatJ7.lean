/- Texts of this proof, joined. -/
import Derived.Test.YtagddbecnkbcdaaGreatJ3
import Derived.Test.YtagddbecnkbcdaaGreatJ4
import Derived.Test.YtagddbecnkbcdaaGreatJ5
import Derived.Test.YtagddbecnkbcdaaGreatJ6
import Derived.OrdersIn
import Derived.TacticsIn
import Derived.RangeFuncCalls
import Derived.Shelf.RegionOpen
import Derived.Laws.ResultCell
import Derived.Test.YtagddbecnkbcdaaGreatProg
import Derived.WalkKit
import Derived.Tactics
import Derived.Tactics2
import Derived.Defers
import Derived.Recover
import Derived.Laws.Pointers
import Derived.Test.YtagddbecnkbcdaaGreatChecked
import Derived.KernelRfl
import Derived.Lib.Bytealg
set_option linter.all false
noncomputable section
namespace Go.Gm
def MG {ι:Type}{G:ι->LK->LK}{σ:Type}(I:σ->List Ab->Aa->Prop)(μ:σ->Nat)(done:σ->Prop)
  (turn:∀(s:σ)(vs:List Ab)(H:Aa),I s vs H->¬done s->∃s' vs' H',μ s'<μ s/\I s' vs' H'/\∀(i:ι)(rec:LK),G i rec vs H=rec vs' H')
  {s:σ}{vs:List Ab}{H:Aa}(h0:I s vs H)(hm:μ s<1152921504606846976):∃s' vs' H',done s'/\I s' vs' H'/\∀i,∃rec,An (G i) AI vs H=G i rec vs' H':=by
 have key:∀(n:Nat)(s:σ)(vs:List Ab)(H:Aa),μ s<n->I s vs H->∃s' vs' H',done s'/\I s' vs' H'/\∀i,∃rec,An (G i) n vs H=G i rec vs' H':=by
  intro n
  induction n with
  |zero=>intro s vs H hn _;omega
  |succ n ih=>intro s vs H hn hI;by_cases hd:done s;exact⟨s,vs,H,hd,hI,λi=>⟨An (G i) n,Bx n vs H⟩⟩;obtain⟨s1,vs1,H1,h1,h2,h3⟩:=turn s vs H hI hd;obtain⟨s2,vs2,H2,h4,h5,h6⟩:=ih s1 vs1 H1 (by omega) h2;exact⟨s2,vs2,H2,h4,h5,λi=>(h6 i).imp λrec h7=>by rw[Bx,h3,h7]⟩
 exact key AI s vs H (by rw[Cw];exact hm) h0
def E6 {G:LK->LK}{σ:Type}(I:σ->List Ab->Aa->Prop)(μ:σ->Nat)(done:σ->Prop)
  (turn:∀(s:σ)(vs:List Ab)(H:Aa),I s vs H->¬done s->∃s' vs' H',μ s'<μ s/\I s' vs' H'/\∀rec:LK,G rec vs H=rec vs' H')
  {s:σ}{vs:List Ab}{H:Aa}(h0:I s vs H)(hm:μ s<1152921504606846976):∃s' vs' H',done s'/\I s' vs' H'/\∃rec,An G AI vs H=G rec vs' H':=by
 obtain⟨s',vs',H',h1,h2,h3⟩:=MG (G:=λ(_:Unit)=>G) I μ done (λs vs H hI hd=>by obtain⟨s1,vs1,H1,h1,h2,h3⟩:=turn s vs H hI hd;exact⟨s1,vs1,H1,h1,h2,λ_=>h3⟩) h0 hm;exact⟨s',vs',H',h1,h2,h3 ()⟩
def Va3 {b c:UInt8}{l:zAa}:(c::l).takeWhile (· == b)=if c=b then c::l.takeWhile (· == b)else []:=by rw[Xx];by_cases h:c=b;simp[h];simp[h]
def VlM {b c:UInt8}{l:zAa}:(c::l).dropWhile (· == b)=if c=b then l.dropWhile (· == b)else c::l:=by rw[List.dropWhile_cons];by_cases h:c=b;simp[h];simp[h]
theorem VmN {b:UInt8}:∀ {l:zAa} {i:Nat},i<(l.takeWhile (· == b)).length->l[i]? = some b
 |[],i,h=>by simp at h
 |c::l,i,h=>by
  rw[Va3]at h;by_cases hc:c=b;rw[zYc hc]at h;cases i with|zero=>simp[hc]|succ i=>simp only[zXj]at h;rw[List.getElem?_cons_succ];exact VmN (by omega)
  rw[zYb hc]at h;simp at h
theorem Vj0 {b:UInt8}:∀(l:zAa),l[(l.takeWhile (· == b)).length]? ≠ some b
 |[]=>by simp
 |c::l=>by rw[Va3];by_cases hc:c=b;rw[zYc hc,zXj,List.getElem?_cons_succ];exact Vj0 l;rw[zYb hc];intro h;simp at h;exact hc h
theorem Vku {b:UInt8}(l:zAa):(l.takeWhile (· == b)).length<=l.length:=(XM _).length_le
theorem Vg5 {b:UInt8}:∀(l:zAa),l.dropWhile (· == b)=l.drop (l.takeWhile (· == b)).length
 |[]=>rfl
 |c::l=>by rw[Va3,VlM];by_cases hc:c=b;rw[zYc hc,zYc hc,zXj,XA];exact Vg5 l;rw[zYb hc,zYb hc];rfl
theorem Kp.get {b p:Nat}{H H':Aa}{cs:List Ab}(h:Kp b H H')(hp:H[p]? = some (.c0 cs)):H'[p]? = some (.c0 cs):=h.cel p cs hp
section
variable {p g:Nat}{f:Ab}{self:Ab->Ab->Ab->Ab->Ab->Aa->Out}
theorem Pr {i j:Nat}(hi:i<1000000000)(hj:j<1000000000):A5 .u64 (.i6 ((i:Int)+(j:Int)))=some (.int .u64 ((i+j:Nat):Int))/\I_.wrap ((i:Int)+(j:Int))=(i:Int)+(j:Int) /\
  Af .n .shr (.int .u64 ((i+j:Nat):Int)) (.int .u64 1)=some (.int .u64 (((i+j) / 2:Nat):Int))/\A5 .i64 (.int .u64 (((i+j) / 2:Nat):Int))=some (.i6 (((i+j) / 2:Nat):Int)):=by
 refine⟨?_,by rw[Am]<;>omega,?_,?_⟩
 ·rw[AV];have:IntKind.u64.wrap ((i:Int)+(j:Int))=((i+j:Nat):Int):=by rw[show(i:Int)+(j:Int)=((i+j:Nat):Int)by omega];exact BT (by omega) (by omega)
  rw[this]
 ·have hs:Af .n .shr (.int .u64 ((i+j:Nat):Int)) (.int .u64 1)=some (.int .u64 (Int.fdiv ((i+j:Nat):Int) (2^(min (1:Int).toNat IntKind.u64.bits)))):=rfl;rw[hs,show(2:Int)^(min (1:Int).toNat IntKind.u64.bits)=2 from by decide,X8 _ (by omega)]
  congr 2
 rw[AV,OK (by omega)]
theorem VmO {l:List Cl}{i a:Nat}{H0 H:Aa}(h:Dn H p g l)(hi:i<=l.length)(ha:a<i)(hl:l.length<1000000000):An (λaA vs H1=>UaF H0 aA (ag vs 0) (ag vs 1) (ag vs 2) H1) AI [dV p g l.length,.i6 (i:Int),.i6 (a:Int)] H=some (.ret (.tup []),Ce H p g (upR a (i-1-a) l)):=by
 have hlen:∀k,(upR a k l).length=l.length:=λk=>by
  induction k with
  |zero=>rfl
  |succ k ih=>unfold upR;rw[Nz,ih]
 have key:=Ct (G:=λaA vs H1=>UaF H0 aA (ag vs 0) (ag vs 1) (ag vs 2) H1) (i-1-a)
  (λk=>[dV p g l.length,.i6 (i:Int),.i6 ((a+k:Nat):Int)]) (λk=>Ce H p g (upR a k l)) (some (.ret (.tup []),Ce H p g (upR a (i-1-a) l))) (by omega) (λrec k hk=>?_) (λrec=>?_)
 rw[show upR a 0 l=l from rfl,CQ h]at key;exact key
 ·unfold UaF;have hr:Dn (Ce H p g (upR a k l)) p g (upR a k l):=Dq h;have aZ:=hlen k;have hw:I_.wrap ((i:Int)-1)=((i-1:Nat):Int):=by rw[Am]<;>omega
  have hd:decide (((a+k:Nat):Int)<((i-1:Nat):Int))=true:=zXc (by omega);have eZ:=Ar (show a+k<9223372036854775807 by omega);have i1:a+k<(upR a k l).length:=by omega
  have i2:a+k+1<(upR a k l).length:=by omega
  obtain⟨s1,s2⟩:=Sq hr i1 i2;rw[BN]at s1 s2;rw[BN]at s2;simp only[At,Ak,GMw,hw,hd,eZ,C1 (show a+k<l.length by omega),C1 (show a+k+1<l.length by omega),CU hr i1,CU hr i2,s1,s2]
  rfl
 ·unfold UaF;have hw:I_.wrap ((i:Int)-1)=((i-1:Nat):Int):=by rw[Am]<;>omega
  have hd:decide (((a+(i-1-a):Nat):Int)<((i-1:Nat):Int))=false:=zXd (by omega);simp only[At,Ak,GMw,hw,hd]
theorem VmU {l:List Cl}{i m:Nat}{H0 H:Aa}(h:Dn H p g l)(hi:i<=m)(hm:m<l.length)(hl:l.length<1000000000):An (λbB vs H1=>UaH H0 bB (ag vs 0) (ag vs 1) (ag vs 2) H1) AI [dV p g l.length,.i6 (i:Int),.i6 (m:Int)] H=some (.ret (.tup []),Ce H p g (dnR m (m-i) l)):=by
 have hlen:∀k,(dnR m k l).length=l.length:=λk=>by
  induction k with
  |zero=>rfl
  |succ k ih=>unfold dnR;rw[Nz,ih]
 have key:=Ct (G:=λbB vs H1=>UaH H0 bB (ag vs 0) (ag vs 1) (ag vs 2) H1) (m-i)
  (λk=>[dV p g l.length,.i6 (i:Int),.i6 ((m:Int)-(k:Int))]) (λk=>Ce H p g (dnR m k l)) (some (.ret (.tup []),Ce H p g (dnR m (m-i) l))) (by omega) (λrec k hk=>?_) (λrec=>?_)
 rw[show dnR m 0 l=l from rfl,CQ h,show(m:Int)-((0:Nat):Int)=(m:Int)by omega]at key;exact key
 ·unfold UaH;have hr:Dn (Ce H p g (dnR m k l)) p g (dnR m k l):=Dq h;have aZ:=hlen k;have e:(m:Int)-(k:Int)=((m-k:Nat):Int):=by omega
  have e2:(m:Int)-((k+1:Nat):Int)=((m-k-1:Nat):Int):=by omega
  have hd:decide (((m-k:Nat):Int)>(i:Int))=true:=zXc (by omega);have eZ:I_.wrap (((m-k:Nat):Int)-1)=((m-k-1:Nat):Int):=by rw[Am]<;>omega
  have i1:m-k<(dnR m k l).length:=by omega
  have i2:m-k-1<(dnR m k l).length:=by omega
  obtain⟨s1,s2⟩:=Sq hr i1 i2;rw[BN]at s1 s2;rw[BN]at s2;simp only[At,Ak,GMw,e,e2,hd,eZ,C1 (show m-k<l.length by omega),C1 (show m-k-1<l.length by omega),CU hr i1,CU hr i2,s1,s2]
  rfl
 ·unfold UaH;have e:(m:Int)-((m-i:Nat):Int)=(i:Int):=by omega
  have hd:decide ((i:Int)>(i:Int))=false:=zXd (by omega);simp only[At,Ak,GMw,e,hd]

end
section
variable {p g:Nat}{f:Ab}{self:Ab->Ab->Ab->Ab->Ab->Aa->Out}{l0:List Cl}
abbrev Uy (f:Ab)(l0:List Cl):Prop:=∀self,TY (Bh self) f l0
theorem VmR (hf:Uy f l0){l:List Cl}{a m b:Nat}{H0 H:Aa}(h:Dn H p g l)(hm:∀c∈l,c∈l0)(ha:a<l.length)(vY:m<=b)(hb:b<=l.length)(hl:l.length<1000000000)
  (mono:∀c d,m<=c->c<=d->d<b->IU ltC l d a=true->IU ltC l c a=true):∃s,BsI (λc=>IU ltC l c a) m b s s/\An (λrec1 vs H1=>UaG H0 self rec1 (ag vs 0) (ag vs 1) (ag vs 2) (ag vs 3) (ag vs 4) H1) AI [dV p g l.length,.i6 (a:Int),f,.i6 (m:Int),.i6 (b:Int)] H =
   An (λaA vs H1=>UaF H0 aA (ag vs 0) (ag vs 1) (ag vs 2) H1) AI [dV p g l.length,.i6 (s:Int),.i6 (a:Int)] H:=by
 have key:=E6 (G:=λrec1 vs H1=>UaG H0 self rec1 (ag vs 0) (ag vs 1) (ag vs 2) (ag vs 3) (ag vs 4) H1) (σ:=Nat×Nat)
  (λs vs H1=>BsI (λc=>IU ltC l c a) m b s.1 s.2/\vs=[dV p g l.length,.i6 (a:Int),f,.i6 (s.1:Int),.i6 (s.2:Int)]/\H1=H) (λs=>s.2-s.1) (λs=>¬s.1<s.2) (λs vs H1 hI hd=>?_)
  (s:=(m,b)) (vs:=[dV p g l.length,.i6 (a:Int),f,.i6 (m:Int),.i6 (b:Int)]) (H:=H) ⟨.start vY,rfl,rfl⟩ (by dsimp only;omega)
 ·obtain⟨⟨i,j⟩,vs,H1,hd,⟨hI,rfl,rfl⟩,rec,aB⟩:=key;dsimp only at hI hd aB;obtain⟨q1,q2,q3⟩:=hI.le;have e:j=i:=by omega
  subst e;refine⟨j,hI,?_⟩;rw[aB];have cC:decide ((j:Int)<(j:Int))=false:=zXd (by omega)
  conv=>lhs;unfold UaG
  simp only[At,Ak,GMw,cC]
 ·obtain⟨i,j⟩:=s;obtain⟨hI,rfl,rfl⟩:=hI;dsimp only at hI hd⊢;obtain⟨q1,q2,q3⟩:=hI.le;have hij:i<j:=by omega
  obtain⟨k,hk⟩:∃k,k=(i+j) / 2:=⟨_,rfl⟩;obtain⟨w1,w2,w3,w4⟩:=Pr (i:=i) (j:=j) (by omega) (by omega);rw[<-hk]at w3 w4;have cX:k<l.length:=by omega
  have c1:=hf self l[k] (hm _ (VY cX)) l[a] (hm _ (VY ha));have cC:decide ((i:Int)<(j:Int))=true:=zXc (by omega);have eZ:=Ar (show k<9223372036854775807 by omega);have hlt:IU ltC l k a=ltC l[k] l[a]:=RD cX ha;cases hc:ltC l[k] l[a]with|true=>refine⟨(k+1,j),_,_,by dsimp only;omega,⟨hI.yes mono (by omega) (by omega) (by rw[hlt,hc]),rfl,rfl⟩,λrec=>?_⟩;unfold UaG;simp only[At,Ak,GMw,cC,w1,w2,w3,w4,C1 cX,C1 ha,CU h cX,CU h ha,c1,KW,hc,eZ]|false=>refine⟨(i,k),_,_,by dsimp only;omega,⟨hI.no mono (by omega) (by omega) (by rw[hlt,hc]),rfl,rfl⟩,λrec=>?_⟩;unfold UaG;simp only[At,Ak,GMw,cC,w1,w2,w3,w4,C1 cX,C1 ha,CU h cX,CU h ha,c1,KW,hc]
theorem VmQ (hf:Uy f l0){l:List Cl}{a m:Nat}{H0 H:Aa}(h:Dn H p g l)(hm:∀c∈l,c∈l0)(ham:a<=m)(hml:m<l.length)(hl:l.length<1000000000)
  (mono:∀c d,a<=c->c<=d->d<m->(!IU ltC l m d)=true->(!IU ltC l m c)=true):∃s,BsI (λc=>!IU ltC l m c) a m s s/\An (λdL vs H1=>UaI H0 self dL (ag vs 0) (ag vs 1) (ag vs 2) (ag vs 3) (ag vs 4) H1) AI [dV p g l.length,.i6 (m:Int),f,.i6 (a:Int),.i6 (m:Int)] H =
   An (λbB vs H1=>UaH H0 bB (ag vs 0) (ag vs 1) (ag vs 2) H1) AI [dV p g l.length,.i6 (s:Int),.i6 (m:Int)] H:=by
 have key:=E6 (G:=λdL vs H1=>UaI H0 self dL (ag vs 0) (ag vs 1) (ag vs 2) (ag vs 3) (ag vs 4) H1) (σ:=Nat×Nat)
  (λs vs H1=>BsI (λc=>!IU ltC l m c) a m s.1 s.2/\vs=[dV p g l.length,.i6 (m:Int),f,.i6 (s.1:Int),.i6 (s.2:Int)]/\H1=H) (λs=>s.2-s.1) (λs=>¬s.1<s.2) (λs vs H1 hI hd=>?_)
  (s:=(a,m)) (vs:=[dV p g l.length,.i6 (m:Int),f,.i6 (a:Int),.i6 (m:Int)]) (H:=H) ⟨.start ham,rfl,rfl⟩ (by dsimp only;omega)
 ·obtain⟨⟨i,j⟩,vs,H1,hd,⟨hI,rfl,rfl⟩,rec,aB⟩:=key;dsimp only at hI hd aB;obtain⟨q1,q2,q3⟩:=hI.le;have e:j=i:=by omega
  subst e;refine⟨j,hI,?_⟩;rw[aB];have cC:decide ((j:Int)<(j:Int))=false:=zXd (by omega)
  conv=>lhs;unfold UaI
  simp only[At,Ak,GMw,cC]
 ·obtain⟨i,j⟩:=s;obtain⟨hI,rfl,rfl⟩:=hI;dsimp only at hI hd⊢;obtain⟨q1,q2,q3⟩:=hI.le;have hij:i<j:=by omega
  obtain⟨k,hk⟩:∃k,k=(i+j) / 2:=⟨_,rfl⟩;obtain⟨w1,w2,w3,w4⟩:=Pr (i:=i) (j:=j) (by omega) (by omega);rw[<-hk]at w3 w4;have cX:k<l.length:=by omega
  have c1:=hf self l[m] (hm _ (VY hml)) l[k] (hm _ (VY cX));have cC:decide ((i:Int)<(j:Int))=true:=zXc (by omega);have eZ:=Ar (show k<9223372036854775807 by omega);have hlt:IU ltC l m k=ltC l[m] l[k]:=RD hml cX;cases hc:ltC l[m] l[k]with|false=>refine⟨(k+1,j),_,_,by dsimp only;omega,⟨hI.yes mono (by omega) (by omega) (by rw[hlt,hc];rfl),rfl,rfl⟩,λrec=>?_⟩;unfold UaI;simp only[At,Ak,GMw,cC,w1,w2,w3,w4,C1 cX,C1 hml,CU h cX,CU h hml,c1,KW,hc,eZ]|true=>refine⟨(i,k),_,_,by dsimp only;omega,⟨hI.no mono (by omega) (by omega) (by rw[hlt,hc];rfl),rfl,rfl⟩,λrec=>?_⟩;unfold UaI;simp only[At,Ak,GMw,cC,w1,w2,w3,w4,C1 cX,C1 hml,CU h cX,CU h hml,c1,KW,hc]
def Vhj (p g:Nat)(f:Ab)(l0:List Cl)(self:Ab->Ab->Ab->Ab->Ab->Aa->Out)(n:Nat):Prop:=
 ∀(A U V B:List Cl)(H:Aa),U.length+V.length=n->Dn H p g (A++(U++(V++B)))->0<U.length->0<V.length->EG ltC U->EG ltC V->(∀c∈A++(U++(V++B)),c∈l0)->(A++(U++(V++B))).length<1000000000 ->
  ∃W,Srt ltC (U++V) W/\self (dV p g (A++(U++(V++B))).length) (.i6 (A.length:Int)) (.i6 ((A.length+U.length:Nat):Int)) (.i6 ((A.length+U.length+V.length:Nat):Int)) f H=some (.ret (.tup []),Ce H p g (A++(W++B)))
theorem R6 {U V:List Cl}(hU:EG ltC U)(hV:EG ltC V)(h:U=[]\/V=[]):Srt ltC (U++V) (U++V):=by refine⟨?_,.refl _,rfl⟩;rcases h with rfl | rfl;exact hV;rw[Wm];exact hU
theorem VmS {H0 H:Aa}{A U V B:List Cl}{n:Nat}(hs:∀n',n'<n->Vhj p g f l0 self n')(hn:U.length+V.length<n)(h:Dn H p g (A++(U++(V++B))))(hU:EG ltC U)(hV:EG ltC V)(hm:∀c∈A++(U++(V++B)),c∈l0)(hl:(A++(U++(V++B))).length<1000000000):∃W,Srt ltC (U++V) W/\Uc2 H0 self (dV p g (A++(U++(V++B))).length) (.i6 ((A.length+U.length+V.length:Nat):Int)) f (.i6 (A.length:Int)) (.i6 ((A.length+U.length:Nat):Int)) H=some (.ret (.tup []),Ce H p g (A++(W++B))):=by
 unfold Uc2;by_cases h1:0<U.length;have d1:decide ((A.length:Int)<((A.length+U.length:Nat):Int))=true:=zXc (by omega);by_cases h2:0<V.length;have d2:decide (((A.length+U.length:Nat):Int)<((A.length+U.length+V.length:Nat):Int))=true:=zXc (by omega);obtain⟨W,w1,w2⟩:=hs _ hn A U V B H rfl h h1 h2 hU hV hm hl;refine⟨W,w1,?_⟩;simp only[GMw,d1,d2,w2];have d2:decide (((A.length+U.length:Nat):Int)<((A.length+U.length+V.length:Nat):Int))=false:=zXd (by omega);have hv:V=[]:=We (by omega);refine⟨U++V,R6 hU hV (.inr hv),?_⟩;simp only[GMw,d1,d2];rw[VP,CQ h];have d1:decide ((A.length:Int)<((A.length+U.length:Nat):Int))=false:=zXd (by omega);have hu:U=[]:=We (by omega);refine⟨U++V,R6 hU hV (.inl hu),?_⟩;simp only[GMw,d1];rw[VP,CQ h]
theorem VmT {H0 H:Aa}{A U V U2 V2 B:List Cl}{n:Nat}(hs:∀n',n'<n->Vhj p g f l0 self n')(hn:U.length+V.length<n)(hn2:U2.length+V2.length<n)(h:Dn H p g (A++(U++(V++(U2++(V2++B))))))(hU:EG ltC U)(hV:EG ltC V)(hU2:EG ltC U2)(hV2:EG ltC V2)
  (hm:∀c∈A++(U++(V++(U2++(V2++B)))),c∈l0)(hl:(A++(U++(V++(U2++(V2++B))))).length<1000000000):∃W W2,Srt ltC (U++V) W/\Srt ltC (U2++V2) W2/\Uc3 H0 self (dV p g (A++(U++(V++(U2++(V2++B))))).length) (.i6 (A.length:Int)) (.i6 ((A.length+U.length+V.length+U2.length+V2.length:Nat):Int)) f (.i6 ((A.length+U.length+V.length:Nat):Int)) (.i6 ((A.length+U.length:Nat):Int)) (.i6 ((A.length+U.length+V.length+U2.length:Nat):Int)) H =
   some (.ret (.tup []),Ce H p g (A++(W++(W2++B)))):=by
 have second:∀(W:List Cl)(G:Aa),Srt ltC (U++V) W->G=Ce H p g (A++(W++(U2++(V2++B))))->∃W2,Srt ltC (U2++V2) W2/\Uc2 H0 self (dV p g (A++(U++(V++(U2++(V2++B))))).length) (.i6 ((A.length+U.length+V.length+U2.length+V2.length:Nat):Int)) f (.i6 ((A.length+U.length+V.length:Nat):Int)) (.i6 ((A.length+U.length+V.length+U2.length:Nat):Int)) G =
   some (.ret (.tup []),Ce H p g (A++(W++(W2++B)))):=λW G hW hG=>by
  have hWl:=hW.len;rw[VR]at hWl;have e1:A++(W++(U2++(V2++B)))=(A++W)++(U2++(V2++B)):=by rw[VP]
  have hlen:((A++W)++(U2++(V2++B))).length=(A++(U++(V++(U2++(V2++B))))).length:=by simp only[VR];omega
  have hAW:(A++W).length=A.length+U.length+V.length:=by rw[VR];omega
  have hr:Dn G p g ((A++W)++(U2++(V2++B))):=by rw[hG,e1];exact Dq h
  obtain⟨W2,w1,w2⟩:=VmS (H0:=H0) hs hn2 hr hU2 hV2 (λc hc=>hm c (by
   rw[<-e1]at hc;simp only[Wk]at hc⊢;rcases hc with hc | hc | hc | hc | hc;exact .inl hc;have:=(hW.st.mem LI).2 hc;rcases Wk.1 this with q | q;exact .inr (.inl q);exact .inr (.inr (.inl q));exact .inr (.inr (.inr (.inl hc)));exact .inr (.inr (.inr (.inr (.inl hc))))
   ·exact .inr (.inr (.inr (.inr (.inr hc)))))) (by rw[hlen];exact hl)
  refine⟨W2,w1,?_⟩;rw[hlen,hAW]at w2;rw[w2,hG,BN,VP]
 have d:∀t:Bool,True:=λ_=>trivial;unfold Uc3;by_cases h1:0<U.length;have d1:decide ((A.length:Int)<((A.length+U.length:Nat):Int))=true:=zXc (by omega);by_cases h2:0<V.length;have d2:decide (((A.length+U.length:Nat):Int)<((A.length+U.length+V.length:Nat):Int))=true:=zXc (by omega);obtain⟨W,w1,w2⟩:=hs _ hn A U V (U2++(V2++B)) H rfl h h1 h2 hU hV hm hl;obtain⟨W2,w3,w4⟩:=second W _ w1 rfl;refine⟨W,W2,w1,w3,?_⟩;simp only[At,Ak,GMw,d1,d2,w2];exact w4;have d2:decide (((A.length+U.length:Nat):Int)<((A.length+U.length+V.length:Nat):Int))=false:=zXd (by omega);have hv:V=[]:=We (by omega);have w1:=R6 hU hV (.inr hv);obtain⟨W2,w3,w4⟩:=second (U++V) H w1 (by rw[VP,CQ h]);refine⟨_,W2,w1,w3,?_⟩;simp only[At,Ak,GMw,d1,d2];exact w4;have d1:decide ((A.length:Int)<((A.length+U.length:Nat):Int))=false:=zXd (by omega);have hu:U=[]:=We (by omega);have w1:=R6 hU hV (.inl hu);obtain⟨W2,w3,w4⟩:=second (U++V) H w1 (by rw[VP,CQ h]);refine⟨_,W2,w1,w3,?_⟩;simp only[At,Ak,GMw,d1];exact w4

end
section
variable {p g:Nat}{f:Ab}{l0:List Cl}{A B:List Cl}
theorem VmP {self:Ab->Ab->Ab->Ab->Ab->Aa->Out}(hf:Uy f l0){l:List Cl}{a m b mid n s0 r0 P:Nat}{H0 H:Aa}(h:Dn H p g l)(hm:∀c∈l,c∈l0)(qN:s0<=r0)(hr:r0<=l.length)(hP:∀c,s0<=c->c<r0->P-c<l.length/\c<=P)(hPl:P<2000000000)(hl:l.length<1000000000)
  (mono:∀c d,s0<=c->c<=d->d<r0->Se ltC l P d=true->Se ltC l P c=true):∃s,BsI (Se ltC l P) s0 r0 s s/\∃rec,An (λnQ vs H1=>Uf1 H0 self nQ (ag vs 0) (ag vs 1) (ag vs 2) (ag vs 3) (ag vs 4) (ag vs 5) (ag vs 6) (ag vs 7) (ag vs 8) (ag vs 9) H1) AI
    [dV p g l.length,.i6 (a:Int),.i6 (m:Int),.i6 (b:Int),f,.i6 (mid:Int),.i6 (n:Int),.i6 (s0:Int),.i6 (r0:Int),.i6 (P:Int)] H =
   Uf1 H0 self rec (dV p g l.length) (.i6 (a:Int)) (.i6 (m:Int)) (.i6 (b:Int)) f (.i6 (mid:Int)) (.i6 (n:Int)) (.i6 (s:Int)) (.i6 (s:Int)) (.i6 (P:Int)) H:=by
 have key:=E6 (G:=λnQ vs H1=>Uf1 H0 self nQ (ag vs 0) (ag vs 1) (ag vs 2) (ag vs 3) (ag vs 4) (ag vs 5) (ag vs 6) (ag vs 7) (ag vs 8) (ag vs 9) H1) (σ:=Nat×Nat)
  (λs vs H1=>BsI (Se ltC l P) s0 r0 s.1 s.2/\vs=[dV p g l.length,.i6 (a:Int),.i6 (m:Int),.i6 (b:Int),f,.i6 (mid:Int),.i6 (n:Int),.i6 (s.1:Int),.i6 (s.2:Int),.i6 (P:Int)]/\H1=H) (λs=>s.2-s.1) (λs=>¬s.1<s.2) (λs vs H1 hI hd=>?_)
  (s:=(s0,r0)) (vs:=[dV p g l.length,.i6 (a:Int),.i6 (m:Int),.i6 (b:Int),f,.i6 (mid:Int),.i6 (n:Int),.i6 (s0:Int),.i6 (r0:Int),.i6 (P:Int)]) (H:=H) ⟨.start qN,rfl,rfl⟩ (by dsimp only;omega)
 ·obtain⟨⟨i,j⟩,vs,H1,hd,⟨hI,rfl,rfl⟩,rec,aB⟩:=key;dsimp only at hI hd aB;obtain⟨q1,q2,q3⟩:=hI.le;have e:j=i:=by omega
  subst e;exact⟨j,hI,rec,aB⟩
 ·obtain⟨i,j⟩:=s;obtain⟨hI,rfl,rfl⟩:=hI;dsimp only at hI hd⊢;obtain⟨q1,q2,q3⟩:=hI.le;have hij:i<j:=by omega
  obtain⟨k,hk⟩:∃k,k=(i+j) / 2:=⟨_,rfl⟩;obtain⟨w1,w2,w3,w4⟩:=Pr (i:=i) (j:=j) (by omega) (by omega);rw[<-hk]at w3 w4;have cX:k<l.length:=by omega
  obtain⟨hPk,hkP⟩:=hP k (by omega) (by omega);have c1:=hf self l[P-k] (hm _ (VY hPk)) l[k] (hm _ (VY cX));have cC:decide ((i:Int)<(j:Int))=true:=zXc (by omega);have eZ:=Ar (show k<9223372036854775807 by omega);have tN:I_.wrap ((P:Int)-(k:Int))=((P-k:Nat):Int):=by rw[Am]<;>omega
  have hlt:IU ltC l (P-k) k=ltC l[P-k] l[k]:=RD hPk cX;have hp:Se ltC l P k = !ltC l[P-k] l[k]:=by unfold Se;rw[hlt]
  cases hc:ltC l[P-k] l[k]with|false=>refine⟨(k+1,j),_,_,by dsimp only;omega,⟨hI.yes mono (by omega) (by omega) (by rw[hp,hc];rfl),rfl,rfl⟩,λrec=>?_⟩;unfold Uf1;simp only[At,Ak,GMw,cC,w1,w2,w3,w4,tN,C1 cX,C1 hPk,CU h cX,CU h hPk,c1,KW,hc,eZ]|true=>refine⟨(i,k),_,_,by dsimp only;omega,⟨hI.no mono (by omega) (by omega) (by rw[hp,hc];rfl),rfl,rfl⟩,λrec=>?_⟩;unfold Uf1;simp only[At,Ak,GMw,cC,w1,w2,w3,w4,tN,C1 cX,C1 hPk,CU h cX,CU h hPk,c1,KW,hc]
theorem Vhz (hf:Uy f l0){d n:Nat}(hs:∀n',n'<n->Vhj p g f l0 (UbO d) n'):Vhj p g f l0 (UbO (d+1)) n:=by
 intro A U V B H hn h hUp hVp hU hV hm hl;obtain⟨l,hL⟩:∃l,l=A++(U++(V++B)):=⟨_,rfl⟩;have hlen:l.length=A.length+(U.length+(V.length+B.length)):=by rw[hL];simp only[VR]
 have gO:l.length<1000000000:=by rw[hL];exact hl
 show ∃W,_/\Ues (UbO d) _ _ _ _ _ H=_;unfold Ues;have cQ:I_.wrap (((A.length+U.length:Nat):Int)-(A.length:Int))=(U.length:Int):=by rw[Am]<;>omega
 by_cases h1:U.length=1
 ·obtain⟨x,rfl⟩:=X2.1 h1;have tA:((([x]:List Cl).length:Int)==1)=true:=by simp
  have iY:l[A.length]? = some x:=by rw[hL];simp
  have eI:∀c,A.length+1<=c->c<A.length+1+V.length->∃hc:c-(A.length+1)<V.length,IU ltC l c A.length=ltC V[c-(A.length+1)] x:=λc h3 h4=>by have hc:c-(A.length+1)<V.length:=(by omega);refine⟨hc,?_⟩;have e:l[c]? = some V[c-(A.length+1)]:=(by rw[hL,VpW rfl rfl (by simpa using h3) (by simpa using h4)];rfl);unfold IU;rw[iY,e]
  obtain⟨s,b1,b2⟩:=VmR (self:=UbO d) (H0:=H) (a:=A.length) (m:=A.length+1) (b:=A.length+1+V.length) hf (l:=l) (by rw[hL];exact h) (by rw[hL];exact hm) (by rw[hlen];simp only[zXj,zXk];omega) (by omega) (by rw[hlen];simp only[zXj,zXk];omega) gO (λc d pA iX kY mO=>by
   obtain⟨e1,e2⟩:=eI c pA (by omega);obtain⟨e3,e4⟩:=eI d (by omega) kY;rw[e2];rw[e4]at mO;cases e:ltC V[c-(A.length+1)] x with
   |true=>rfl
   |false=>have:=HO hV LI (i:=c-(A.length+1)) (j:=d-(A.length+1)) (by omega) e3;have:=LI.neg _ _ _ this e;rw[mO]at this;cases this)
  obtain⟨⟨g1,_,g2⟩,g3,g4⟩:=b1;have aM:=VmO (H0:=H) (p:=p) (g:=g) (l:=l) (i:=s) (a:=A.length) (H:=H) (by rw[hL];exact h) (by rw[hlen];simp only[zXj,zXk]at *;omega) (by omega) gO;have hres:=Vjz A B x V (s-1-A.length) (by omega);refine⟨V.take (s-1-A.length)++([x]++V.drop (s-1-A.length)),Vn1 LI hV (λy hy=>?_) (λy hy=>?_),?_⟩;obtain⟨i,hi,hi2,rfl⟩:=Iz hy;have:=g3 (A.length+1+i) (by omega) (by omega);obtain⟨e1,e2⟩:=eI (A.length+1+i) (by omega) (by omega);rw[e2]at this;have e3:A.length+1+i-(A.length+1)=i:=(by omega);simp only[e3]at this;exact this;obtain⟨i,hi,hi2,rfl⟩:=I0 hy;have:=g4 (A.length+1+i) (by omega) (by omega);obtain⟨e1,e2⟩:=eI (A.length+1+i) (by omega) (by omega);rw[e2]at this;have e3:A.length+1+i-(A.length+1)=i:=(by omega);simp only[e3]at this;exact this;rw[<-hL];simp only[GMw,cQ,tA];have eb:A.length+([x]:List Cl).length=A.length+1:=rfl;rw[eb,b2,aM,hL,hres]
 ·have tA:((U.length:Int)==1)=false:=by simp;omega
  have cA:I_.wrap (((A.length+U.length+V.length:Nat):Int)-((A.length+U.length:Nat):Int))=(V.length:Int):=by rw[Am]<;>omega
  by_cases h2:V.length=1;obtain⟨y,rfl⟩:=X2.1 h2;have cC:((([y]:List Cl).length:Int)==1)=true:=(by simp);have iY:l[A.length+U.length]? = some y:=(by rw[hL,VpW rfl rfl (VM _) (by simp)];simp);have eI:∀c,A.length<=c->c<A.length+U.length->∃hc:c-A.length<U.length,IU ltC l (A.length+U.length) c=ltC y U[c-A.length]:=λc h3 h4=>(by have hc:c-A.length<U.length:=(by omega);refine⟨hc,?_⟩;have e:l[c]? = some U[c-A.length]:=(by rw[hL,Vqo rfl h3 h4]);unfold IU;rw[iY,e]);obtain⟨s,b1,b2⟩:=VmQ (self:=UbO d) (H0:=H) (a:=A.length) (m:=A.length+U.length) hf (l:=l) (by rw[hL];exact h) (by rw[hL];exact hm) (by omega) (by rw[hlen];simp only[zXj,zXk];omega) gO (λc d pA iX kY mO=>by obtain⟨e1,e2⟩:=eI c pA (by omega);obtain⟨e3,e4⟩:=eI d (by omega) kY;rw[e2];rw[e4]at mO;simp only[WC]at mO⊢;have:=HO hU LI (i:=c-A.length) (j:=d-A.length) (by omega) e3;exact LI.neg _ _ _ mO this);obtain⟨⟨g1,_,g2⟩,g3,g4⟩:=b1;have jN:=VmU (H0:=H) (p:=p) (g:=g) (l:=l) (i:=s) (m:=A.length+U.length) (H:=H) (by rw[hL];exact h) g2 (by rw[hlen];simp only[zXj,zXk];omega) gO;have hres:=VjY A B y U (A.length+U.length-s) (by omega);have ek:U.length-(A.length+U.length-s)=s-A.length:=(by omega);rw[ek]at hres;refine⟨U.take (s-A.length)++([y]++U.drop (s-A.length)),Vn2 LI hU (λx hx=>?_) (λx hx=>?_),?_⟩;obtain⟨i,hi,hi2,rfl⟩:=Iz hx;have:=g3 (A.length+i) (by omega) (by omega);obtain⟨e1,e2⟩:=eI (A.length+i) (by omega) (by omega);rw[e2]at this;have e3:A.length+i-A.length=i:=(by omega);simp only[e3,WC]at this;exact this;obtain⟨i,hi,hi2,rfl⟩:=I0 hx;have:=g4 (A.length+i) (by omega) (by omega);obtain⟨e1,e2⟩:=eI (A.length+i) (by omega) (by omega);rw[e2]at this;have e3:A.length+i-A.length=i:=(by omega);simp only[e3,Y5]at this;exact this;rw[<-hL];simp only[GMw,cQ,cA,tA,cC];rw[b2,jN,hL,hres]
  ·have cC:((V.length:Int)==1)=false:=(by simp;omega);obtain⟨a,ha⟩:∃a,a=A.length:=⟨_,rfl⟩;obtain⟨m,hmm⟩:∃m,m=A.length+U.length:=⟨_,rfl⟩;obtain⟨b,hb⟩:∃b,b=A.length+U.length+V.length:=⟨_,rfl⟩;obtain⟨mid,kF⟩:∃mid,mid=(a+b) / 2:=⟨_,rfl⟩;obtain⟨w1,w2,w3,w4⟩:=Pr (i:=a) (j:=b) (by omega) (by omega);rw[<-kF]at w3 w4;have xX:I_.wrap ((mid:Int)+(m:Int))=((mid+m:Nat):Int):=(by rw[Am]<;>omega);obtain⟨s0,hs0⟩:∃s0,s0=if mid<m then mid+m-b else a:=⟨_,rfl⟩
   obtain⟨r0,hr0⟩:∃r0,r0=if mid<m then mid else m:=⟨_,rfl⟩
   have qN:s0<=r0/\r0<=m/\a<=s0/\mid+m<=s0+b/\r0<=mid:=(by by_cases hc:mid<m;rw[zYc hc]at hs0 hr0;omega;rw[zYb hc]at hs0 hr0;omega);obtain⟨z1,z2,z3,z4,z5⟩:=qN;obtain⟨s,b1,rec,b2⟩:=VmP (self:=UbO d) (H0:=H) (a:=a) (m:=m) (b:=b) (mid:=mid) (n:=mid+m) (s0:=s0) (r0:=r0) (P:=mid+m-1) hf (l:=l) (H:=H) (by rw[hL];exact h) (by rw[hL];exact hm) z1 (by omega) (λc h3 h4=>by omega) (by omega) (by rw[hL];exact hl)
    (λc e h3 h4 h5 h6=>by rw[hL]at h6⊢;exact Vel LI hU hV ha.symm (show a+U.length=m by omega) (by omega) h4 (by omega) (by omega) (by omega) h6)
   have b1':=b1;rw[hL]at b1';obtain⟨p1,p2,p3,p4,p5,p6,p7⟩:=Vei LI hU hV ha.symm (show a+U.length=m by omega) (show m+V.length=b by omega) kF hUp hVp hs0 hr0 b1';have l1:(U.take (s-a)).length=s-a:=(by rw[Wc];omega);have l2:(V.take (mid-s)).length=mid-s:=(by rw[Wc];omega);have l3:(U.drop (s-a)).length=m-s:=(by rw[Wd];omega);have l4:(V.drop (mid-s)).length=b-(mid+m-s):=(by rw[Wd];omega);have sU1:EG ltC (U.take (s-a)):=WW (Yi _ _) hU;have sU2:EG ltC (U.drop (s-a)):=WW (Yl _ _) hU;have sV1:EG ltC (V.take (mid-s)):=WW (Yi _ _) hV;have sV2:EG ltC (V.drop (mid-s)):=WW (Yl _ _) hV;have eU:U.take (s-a)++U.drop (s-a)=U:=WD _ _;have eV:V.take (mid-s)++V.drop (mid-s)=V:=WD _ _;have cM:∀c,c∈A++(U.take (s-a)++(V.take (mid-s)++(U.drop (s-a)++(V.drop (mid-s)++B))))->c∈l0:=λc hc=>hm c (by
    simp only[Wk]at hc⊢;rcases hc with q | q | q | q | q | q;exact .inl q;exact .inr (.inl (WV q));exact .inr (.inr (.inl (WV q)));exact .inr (.inl (Xv q));exact .inr (.inr (.inl (Xv q)))
    ·exact .inr (.inr (.inr q)))
   have hlen2:(A++(U.take (s-a)++(V.take (mid-s)++(U.drop (s-a)++(V.drop (mid-s)++B))))).length=l.length:=(by rw[hlen];simp only[VR,l1,l2,l3,l4];omega);generalize U.take (s-a)=U1 at *;generalize U.drop (s-a)=U2 at *;generalize V.take (mid-s)=V1 at *;generalize V.drop (mid-s)=V2 at *;have rest:∀G,G=Ce H p g (A++(U1++(V1++(U2++(V2++B)))))->∃W W2,Srt ltC (U1++V1) W/\Srt ltC (U2++V2) W2/\Uc3 H (UbO d) (dV p g l.length) (.i6 (a:Int)) (.i6 (b:Int)) f (.i6 (mid:Int)) (.i6 (s:Int)) (.i6 ((mid+m-s:Nat):Int)) G =
     some (.ret (.tup []),Ce H p g (A++(W++(W2++B)))):=λG hG=>by
    obtain⟨W,W2,k1,k2,k3⟩:=VmT (H0:=H) (H:=G) (p:=p) (g:=g) (f:=f) (l0:=l0) (A:=A) (U:=U1) (V:=V1) (U2:=U2) (V2:=V2) (B:=B) (n:=n) hs (by omega) (by omega) (by rw[hG];exact Dq h) sU1 sV1 sU2 sV2 cM (by rw[hlen2,hL];exact hl);refine⟨W,W2,k1,k2,?_⟩;rw[hlen2,<-ha,show a+U1.length=s by omega,show s+V1.length=mid by omega,show mid+U2.length=mid+m-s by omega,show mid+m-s+V2.length=b by omega]at k3;rw[k3,hG,BN]
   have uP:I_.wrap (((mid+m:Nat):Int)-(s:Int))=((mid+m-s:Nat):Int):=(by rw[Am]<;>omega);have hds:decide ((s:Int)<(s:Int))=false:=zXd (by omega);have tN:I_.wrap (((mid+m:Nat):Int)-1)=((mid+m-1:Nat):Int):=(by rw[Am]<;>omega);have after:∃W W2,Srt ltC (U1++V1) W/\Srt ltC (U2++V2) W2/\Uf1 H (UbO d) rec (dV p g l.length) (.i6 (a:Int)) (.i6 (m:Int)) (.i6 (b:Int)) f (.i6 (mid:Int)) (.i6 ((mid+m:Nat):Int)) (.i6 (s:Int)) (.i6 (s:Int)) (.i6 ((mid+m-1:Nat):Int)) H =
     some (.ret (.tup []),Ce H p g (A++(W++(W2++B)))):=by
    by_cases t1:s<m;have c1:decide ((s:Int)<(m:Int))=true:=zXc (by omega);by_cases t2:m<mid+m-s;have c2:decide ((m:Int)<((mid+m-s:Nat):Int))=true:=zXc (by omega);have e1:l=(A++U1)++(U2++(V1++(V2++B))):=(by rw[hL,<-eU,<-eV];simp only[VP]);have oA:=VeB (p:=p) (g:=g) (f:=f) (a:=s) (b:=mid+m-s) (m:=m) (A:=A++U1) (U:=U2) (V:=V1) (B:=V2++B) (H:=H) (by rw[<-e1,hL];exact h) (by rw[VR];omega) (by omega) (by omega) (by omega) (by omega) (by rw[<-e1,hL];exact hl);rw[<-e1]at oA;obtain⟨W,W2,k1,k2,k3⟩:=rest _ rfl;refine⟨W,W2,k1,k2,?_⟩;have e2:(A++U1)++((V1++U2)++(V2++B))=A++(U1++(V1++(U2++(V2++B)))):=(by simp only[VP]);rw[e2]at oA;unfold Uf1;simp only[At,Ak,GMw,hds,uP,c1,c2,oA];exact k3;have c2:decide ((m:Int)<((mid+m-s:Nat):Int))=false:=zXd (by omega);have hv1:V1=[]:=We (by omega);obtain⟨W,W2,k1,k2,k3⟩:=rest H (by rw[show A++(U1++(V1++(U2++(V2++B))))=A++(U++(V++B))by rw[<-eU,<-eV,hv1];simp only[VP,List.nil_append],CQ h]);refine⟨W,W2,k1,k2,?_⟩;unfold Uf1;simp only[At,Ak,GMw,hds,uP,c1,c2];exact k3;have c1:decide ((s:Int)<(m:Int))=false:=zXd (by omega);have uQ:U2=[]:=We (by omega);obtain⟨W,W2,k1,k2,k3⟩:=rest H (by rw[show A++(U1++(V1++(U2++(V2++B))))=A++(U++(V++B))by rw[<-eU,<-eV,uQ];simp only[VP,List.nil_append,Wm],CQ h]);refine⟨W,W2,k1,k2,?_⟩;unfold Uf1;simp only[At,Ak,GMw,hds,uP,c1];exact k3
   obtain⟨W,W2,k1,k2,k3⟩:=after;have gX:Srt ltC (U++V) (W++W2):=(by have l5:U.take U1.length=U1/\U.drop U1.length=U2:=(by rw[<-eU];exact⟨Yb,Yd⟩);have l6:V.take V1.length=V1/\V.drop V1.length=V2:=(by rw[<-eV];exact⟨Yb,Yd⟩);exact PQ (i:=U1.length) (k:=V1.length) LI hU hV (by rw[l5.2,l6.1];exact p1) (by rw[l5.1,l6.2];exact p2) (by rw[l5.1,l6.1];exact k1) (by rw[l5.2,l6.2];exact k2));refine⟨W++W2,gX,?_⟩;rw[<-hL,<-hb,<-hmm,<-ha];rw[<-hmm,show m+V.length=b by omega]at cA;rw[<-hmm,<-ha]at cQ;have j5:∀x y:Nat,x=s0->y=r0->Uer H (UbO d) (dV p g l.length) (.i6 (a:Int)) (.i6 (m:Int)) (.i6 (b:Int)) f (.i6 (mid:Int)) (.i6 ((mid+m:Nat):Int)) (.i6 (x:Int)) (.i6 (y:Int)) H=some (.ret (.tup []),Ce H p g (A++((W++W2)++B))):=λx y hx hy=>(by subst hx;subst hy;unfold Uer;simp only[GMw,tN];rw[b2,k3,VP]);by_cases hc:mid<m;have c3:decide ((m:Int)>(mid:Int))=true:=zXc (by omega);have zU:I_.wrap (((mid+m:Nat):Int)-(b:Int))=((mid+m-b:Nat):Int):=(by rw[zYc hc]at hs0;rw[Am]<;>omega);simp only[At,Ak,GMw,cQ,cA,tA,cC,w1,w2,w3,w4,xX,c3,zU];exact j5 _ _ (by rw[hs0,zYc hc]) (by rw[hr0,zYc hc]);have c3:decide ((m:Int)>(mid:Int))=false:=zXd (by omega);simp only[At,Ak,GMw,cQ,cA,tA,cC,w1,w2,w3,w4,xX,c3];exact j5 _ _ (by rw[hs0,zYb hc]) (by rw[hr0,zYb hc])
theorem Vek (hf:Uy f l0):∀d n,n<d->Vhj p g f l0 (UbO d) n
 |0,n,h=>zYf h (by omega)
 |d+1,n,h=>Vhz hf λn' pM=>Vek hf d n' (by omega)

end
theorem Stg.split {w n a:Nat}{l l':List Cl}(hw:0<w)(hd:w ∣ a)(hn:n<=w)(hl:a+n<=l.length)(h:Stg ltC w l a l'):∃A,A.length=a/\l'=A++((l.drop a).take n++l.drop (a+n))/\(∀c∈A,c∈l)/\∀P2,Srt ltC ((l.drop a).take n) P2->Stg ltC w l (a+n) (A++(P2++l.drop (a+n))):=by
 obtain⟨P,h1,hP,hst,hb⟩:=h.ex;refine⟨P,hP,?_,λc hc=>?_,λP2 h2=>?_⟩
 ·rw[h1]
  congr 1
  rw[<-WX,WD]
 exact WV ((hst.mem LI).2 hc)
 ·have hlen:P2.length=n:=by rw[h2.len,Wc,Wd];omega
  refine⟨P++P2,by rw[VP],by rw[VR,hP,hlen],?_,Oe.app hw (by rw[hP];exact hd) hb h2.srt (by omega)⟩;rw[List.take_add];exact hst.app h2.st
theorem Stg.mem {w a:Nat}{l l':List Cl}(h:Stg ltC w l a l'){c:Cl}(hc:c∈l'):c∈l:=by obtain⟨P,h1,hP,hst,hb⟩:=h.ex;rw[h1]at hc;rcases Wk.1 hc with q | q;exact WV ((hst.mem LI).2 q);exact Xv q
section
variable {p g:Nat}{f:Ab}{l0:List Cl}
theorem Vt (hf:TY AF f l0){l L:List Cl}{a n w:Nat}{H:Aa}(h:Dn H p g L)(hm:∀c∈l,c∈l0)(hst:Stg ltC w l a L)(hw:0<w)(hd:w ∣ a)(hn:n<=w)(hal:a+n<=l.length)(hl:l.length<1000000000):∃L',Stg ltC w l (a+n) L'/\UfA (dV p g l.length) (.i6 (a:Int)) (.i6 ((a+n:Nat):Int)) f H=some (.ret (.tup []),Ce H p g L'):=by
 have hlen:=hst.len (by omega);have iV:=ViD (a:=a) (b:=a+n) hf h (λc hc=>hm c (hst.mem hc)) (by omega) (by omega) (by omega);rw[hlen]at iV;obtain⟨A,hA,hL,_,hP⟩:=hst.split hw hd hn hal;by_cases h0:n=0
 ·subst h0;refine⟨L,?_,?_⟩;rw[Nat.add_zero];exact hst
  ·rw[iV]
   congr 3
   rw[show a+0-a-1=0 by omega];rfl
 ·have hSl:((l.drop a).take n).length=n:=by rw[Wc,Wd];omega
  obtain⟨P,q1,q2⟩:=VfV LI A (n-1) ((l.drop a).take n) (l.drop (a+n)) (by omega);refine⟨_,hP P q2,?_⟩;rw[iV,show a+n-a-1=n-1 by omega,<-q1,<-hL,hA]
theorem U7 (hf:Uy f l0){l L:List Cl}{a n bs:Nat}{H:Aa}(h:Dn H p g L)(hm:∀c∈l,c∈l0)(hst:Stg ltC (2*bs) l a L)(nO:0<bs)(hd:2*bs ∣ a)(aM:Oe ltC bs l)(hn:bs<n)(hn2:n<=2*bs)(hal:a+n<=l.length)(hl:l.length<1000000000):∃L',Stg ltC (2*bs) l (a+n) L'/\UbO AI (dV p g l.length) (.i6 (a:Int)) (.i6 ((a+bs:Nat):Int)) (.i6 ((a+n:Nat):Int)) f H=some (.ret (.tup []),Ce H p g L'):=by
 have hlen:=hst.len (by omega);obtain⟨A,hA,hL,_,hP⟩:=hst.split (by omega) hd hn2 hal;have pX:bs ∣ a:=Nat.dvd_trans ⟨2,by omega⟩ hd;have sU:=aM.block nO pX bs (VM _);have sV:=aM.block nO (show bs ∣ a+bs from(Y7 pX).2 (Nat.dvd_refl _)) (n-bs) (by omega);have hS:(l.drop a).take n=(l.drop a).take bs++(l.drop (a+bs)).take (n-bs):=by
  rw[show n=bs+(n-bs)by omega,List.take_add,WX]
  congr 2;omega
 have lU:((l.drop a).take bs).length=bs:=by rw[Wc,Wd];omega
 have lV:((l.drop (a+bs)).take (n-bs)).length=n-bs:=by rw[Wc,Wd];omega
 rw[hS]at hL hP;rw[VP]at hL;have aD:=Vek (p:=p) (g:=g) hf AI (((l.drop a).take bs).length+((l.drop (a+bs)).take (n-bs)).length) (by rw[Cw];omega) A ((l.drop a).take bs) ((l.drop (a+bs)).take (n-bs)) (l.drop (a+n)) H rfl (by rw[<-hL];exact h) (by omega) (by omega) sU sV
  (λc hc=>by rw[<-hL]at hc;exact hm c (hst.mem hc)) (by rw[<-hL,hlen];exact hl)
 obtain⟨W,w1,w2⟩:=aD;refine⟨_,hP W w1,?_⟩;rw[<-hL,hlen,hA,lU,lV,show a+bs+(n-bs)=a+n by omega]at w2;exact w2
theorem Vej (hf:Uy f l0){l:List Cl}{bs:Nat}{H0 H:Aa}(h:Dn H p g l)(hm:∀c∈l,c∈l0)(nO:0<bs)(aM:Oe ltC bs l)(xC:bs<l.length)(hl:l.length<1000000000):∃L,FF ltC l L/\Oe ltC (2*bs) L/\L.length=l.length/\∀aA:LK,An (λdL vs H1=>UaJ H0 aA dL (ag vs 0) (ag vs 1) (ag vs 2) (ag vs 3) (ag vs 4) (ag vs 5) H1) AI [dV p g l.length,.i6 (l.length:Int),f,.i6 (bs:Int),.i6 0,.i6 ((2*bs:Nat):Int)] H =
   aA [dV p g l.length,.i6 (l.length:Int),f,.i6 ((2*bs:Nat):Int)] (Ce H p g L):=by
 have key:=MG (ι:=LK) (G:=λaA dL vs H1=>UaJ H0 aA dL (ag vs 0) (ag vs 1) (ag vs 2) (ag vs 3) (ag vs 4) (ag vs 5) H1) (σ:=Nat×List Cl)
  (λs vs H1=>Stg ltC (2*bs) l s.1 s.2/\2*bs ∣ s.1/\s.1<=l.length/\vs=[dV p g l.length,.i6 (l.length:Int),f,.i6 (bs:Int),.i6 (s.1:Int),.i6 ((s.1+2*bs:Nat):Int)]/\H1=Ce H p g s.2) (λs=>l.length-s.1) (λs=>¬s.1+2*bs<=l.length) (λs vs H1 hI hd=>?_)
  (s:=(0,l)) (vs:=[dV p g l.length,.i6 (l.length:Int),f,.i6 (bs:Int),.i6 0,.i6 ((2*bs:Nat):Int)]) (H:=H) ⟨.start _ _,Nat.dvd_zero _,Wi _,by simp,(CQ h).symm⟩ (by dsimp only;omega)
 ·obtain⟨⟨a,L⟩,vs,H1,hd,⟨hst,iH,hal,rfl,rfl⟩,aB⟩:=key;dsimp only at hst iH hal hd aB;have hr:Dn (Ce H p g L) p g L:=Dq h;have d1:decide (((a+2*bs:Nat):Int)<=(l.length:Int))=false:=zXd (by omega);have cQ:I_.wrap ((a:Int)+(bs:Int))=((a+bs:Nat):Int):=by rw[Am]<;>omega
  have cA:I_.wrap ((bs:Int)*2)=((2*bs:Nat):Int):=by rw[Am]<;>omega
  by_cases pP:a+bs<l.length;have d2:decide (((a+bs:Nat):Int)<(l.length:Int))=true:=zXc (by omega);obtain⟨L',q1,q2⟩:=U7 (n:=l.length-a) hf hr hm hst nO iH aM (by omega) (by omega) (by omega) hl;rw[show a+(l.length-a)=l.length by omega]at q1 q2;obtain⟨r1,r2,r3⟩:=q1.all;refine⟨L',r1,r2,r3,λaA=>?_⟩;obtain⟨rec,aB⟩:=aB aA;rw[aB];unfold UaJ Uet;simp only[At,Ak,GMw,d1,cQ,d2,q2,cA,BN];have d2:decide (((a+bs:Nat):Int)<(l.length:Int))=false:=zXd (by omega);obtain⟨A,hA,hL,_,hP⟩:=hst.split (n:=l.length-a) (by omega) iH (by omega) (by omega);have pX:bs ∣ a:=Nat.dvd_trans ⟨2,by omega⟩ iH;have q1:=hP _ ⟨aM.block nO pX (l.length-a) (by omega),.refl _,rfl⟩;rw[<-hL,show a+(l.length-a)=l.length by omega]at q1;obtain⟨r1,r2,r3⟩:=q1.all;refine⟨L,r1,r2,r3,λaA=>?_⟩;obtain⟨rec,aB⟩:=aB aA;rw[aB];unfold UaJ Uet;simp only[At,Ak,GMw,d1,cQ,d2,cA]
 ·obtain⟨a,L⟩:=s;obtain⟨hst,iH,hal,rfl,rfl⟩:=hI;dsimp only at hst iH hal hd⊢;have hr:Dn (Ce H p g L) p g L:=Dq h;obtain⟨L',q1,q2⟩:=U7 (n:=2*bs) hf hr hm hst nO iH aM (by omega) (by omega) (by omega) hl;have d1:decide (((a+2*bs:Nat):Int)<=(l.length:Int))=true:=zXc (by omega);have cQ:I_.wrap ((a:Int)+(bs:Int))=((a+bs:Nat):Int):=by rw[Am]<;>omega
  have cA:I_.wrap (2*(bs:Int))=((2*bs:Nat):Int):=by rw[Am]<;>omega
  have jW:I_.wrap (((a+2*bs:Nat):Int)+((2*bs:Nat):Int))=((a+2*bs+2*bs:Nat):Int):=by rw[Am]<;>omega
  refine⟨(a+2*bs,L'),_,_,by dsimp only;omega,⟨q1,(Y7 iH).2 (Nat.dvd_refl _),by dsimp only;omega,rfl,rfl⟩,λaA rec=>?_⟩;unfold UaJ;simp only[At,Ak,GMw,d1,cQ,q2,cA,jW,BN]
theorem Vep (hf1:TY AF f l0)(hf2:Uy f l0){l:List Cl}{H:Aa}(h:Dn H p g l)(hm:∀c∈l,c∈l0)(hl:l.length<1000000000):∃S,EG ltC S/\FF ltC l S/\S.length=l.length/\UaK (dV p g l.length) (.i6 (l.length:Int)) f H=some (.ret (.tup []),Ce H p g S):=by
 unfold UaK;have rounds:∀(L:List Cl),FF ltC l L->Oe ltC 20 L->L.length=l.length->∃S,EG ltC S/\FF ltC l S/\S.length=l.length /\
   An (λaA vs H1=>Uar H aA (ag vs 0) (ag vs 1) (ag vs 2) (ag vs 3) H1) AI [dV p g l.length,.i6 (l.length:Int),f,.i6 20] (Ce H p g L)=some (.ret (.tup []),Ce H p g S):=λL hL1 hL2 hL3=>by
  have key:=E6 (G:=λaA vs H1=>Uar H aA (ag vs 0) (ag vs 1) (ag vs 2) (ag vs 3) H1) (σ:=Nat×List Cl)
   (λs vs H1=>(FF ltC l s.2/\Oe ltC s.1 s.2/\s.2.length=l.length/\0<s.1)/\vs=[dV p g l.length,.i6 (l.length:Int),f,.i6 (s.1:Int)]/\H1=Ce H p g s.2) (λs=>l.length-s.1) (λs=>¬s.1<l.length) (λs vs H1 hI hd=>?_)
   (s:=(20,L)) (vs:=[dV p g l.length,.i6 (l.length:Int),f,.i6 20]) (H:=Ce H p g L) ⟨⟨hL1,hL2,hL3,Nat.succ_pos _⟩,rfl,rfl⟩ (by dsimp only;omega)
  obtain⟨⟨bs,S⟩,vs,H1,hd,⟨⟨i1,i2,i3,i4⟩,rfl,rfl⟩,rec,aB⟩:=key;dsimp only at i1 i2 i3 i4 hd aB;have d1:decide ((bs:Int)<(l.length:Int))=false:=zXd (by omega);refine⟨S,i2.whole (by omega),i1,i3,?_⟩;rw[aB];unfold Uar;simp only[At,Ak,GMw,d1];obtain⟨bs,L⟩:=s;obtain⟨⟨i1,i2,i3,i4⟩,rfl,rfl⟩:=hI;dsimp only at i1 i2 i3 i4 hd⊢;have hr:Dn (Ce H p g L) p g L:=Dq h;have d1:decide ((bs:Int)<(l.length:Int))=true:=zXc (by omega);have cQ:I_.wrap (2*(bs:Int))=((2*bs:Nat):Int):=(by rw[Am]<;>omega);obtain⟨L',q1,q2,q3,q4⟩:∃L',FF ltC L L'/\Oe ltC (2*bs) L'/\L'.length=L.length/\∀aA:LK,Uar H aA (dV p g l.length) (.i6 (l.length:Int)) f (.i6 (bs:Int)) (Ce H p g L)=aA [dV p g l.length,.i6 (l.length:Int),f,.i6 ((2*bs:Nat):Int)] (Ce H p g L'):=(by obtain⟨L',q1,q2,q3,q4⟩:=Vej (H0:=H) hf2 hr (λc hc=>hm c ((i1.mem LI).2 hc)) i4 i2 (by omega) (by omega);rw[i3]at q4;refine⟨L',q1,q2,q3,λaA=>?_⟩;unfold Uar;simp only[GMw,d1,cQ];rw[q4 aA,BN]);refine⟨(2*bs,L'),_,_,by dsimp only;omega,⟨⟨i1.trans q1,q2,by dsimp only;omega,by dsimp only;omega⟩,rfl,rfl⟩,λrec=>?_⟩;simp only[At,Ak];exact q4 rec
 have key:=E6 (G:=λrec1 vs H1=>Ubl H rec1 (ag vs 0) (ag vs 1) (ag vs 2) (ag vs 3) (ag vs 4) (ag vs 5) H1) (σ:=Nat×List Cl)
  (λs vs H1=>(Stg ltC 20 l s.1 s.2/\20 ∣ s.1/\s.1<=l.length)/\vs=[dV p g l.length,.i6 (l.length:Int),f,.i6 20,.i6 (s.1:Int),.i6 ((s.1+20:Nat):Int)]/\H1=Ce H p g s.2) (λs=>l.length-s.1) (λs=>¬s.1+20<=l.length) (λs vs H1 hI hd=>?_)
  (s:=(0,l)) (vs:=[dV p g l.length,.i6 (l.length:Int),f,.i6 20,.i6 0,.i6 20]) (H:=H) ⟨⟨.start _ _,Nat.dvd_zero _,Wi _⟩,rfl,(CQ h).symm⟩ (by dsimp only;omega)
 obtain⟨⟨a,L⟩,vs,H1,hd,⟨⟨hst,iH,hal⟩,rfl,rfl⟩,rec,aB⟩:=key;dsimp only at hst iH hal hd aB;have hr:Dn (Ce H p g L) p g L:=Dq h;obtain⟨L',q1,q2⟩:=Vt (n:=l.length-a) hf1 hr hm hst (by decide) iH (by omega) (by omega) hl;rw[show a+(l.length-a)=l.length by omega]at q1 q2;obtain⟨r1,r2,r3⟩:=q1.all;obtain⟨S,s1,s2,s3,s4⟩:=rounds L' r1 r2 r3;refine⟨S,s1,s2,s3,?_⟩;have d1:decide (((a+20:Nat):Int)<=(l.length:Int))=false:=zXd (by omega);rw[aB];unfold Ubl;simp only[At,Ak,GMw,d1,q2,BN];exact s4
 ·obtain⟨a,L⟩:=s;obtain⟨⟨hst,iH,hal⟩,rfl,rfl⟩:=hI;dsimp only at hst iH hal hd⊢;have hr:Dn (Ce H p g L) p g L:=Dq h;obtain⟨L',q1,q2⟩:=Vt (n:=20) hf1 hr hm hst (by decide) iH (by omega) (by omega) hl;have d1:decide (((a+20:Nat):Int)<=(l.length:Int))=true:=zXc (by omega);have jW:I_.wrap (((a+20:Nat):Int)+20)=((a+20+20:Nat):Int):=by rw[Am]<;>omega
  refine⟨(a+20,L'),_,_,by dsimp only;omega,⟨⟨q1,(Y7 iH).2 (Nat.dvd_refl _),by dsimp only;omega⟩,rfl,rfl⟩,λrec=>?_⟩;unfold Ubl;simp only[At,Ak,GMw,d1,q2,jW,BN]

end
def VcD {l l':zAb}(h:enL cU l=enL cU l'):l=l':=by
 unfold enL at h
 induction l generalizing l' with
 |nil=>cases l' with|nil=>rfl|cons y r=>simp at h
 |cons x l ih=>
  cases l' with
  |nil=>simp at h
  |cons y r=>
   simp only[Xo,List.cons.injEq,Ab.int.injEq,true_and,and_true]at h;rw[ih h.2]
   congr 1
   omega
def P9 {l m:zAb}{t t':Tok}(H:Aa)(hl:Lim l)(hm:Lim m)(h1:l.length<=1099511627776)(h2:m.length<=1099511627776):Uac (.sl (enL cU l) t) (.sl (enL cU m) t') H=some (.ret (.i6 (FM (val l:Int) (val m:Int))),H):=by
 have hex:∃p:zAb×zAb,enL cU l=enL cU p.1/\enL cU m=enL cU p.2/\Lim p.1/\Lim p.2/\p.1.length<=1099511627776/\p.2.length<=1099511627776:=⟨(l,m),rfl,rfl,hl,hm,h1,h2⟩;have e1:hex.choose.1=l:=(VcD hex.choose_spec.1).symm;have e2:hex.choose.2=m:=(VcD hex.choose_spec.2.1).symm;unfold Uac;simp only[];rw[dif_pos hex,e1,e2];unfold FM;by_cases c1:val l<val m;rw[zYc c1,zYc (show(val l:Int)<(val m:Int)by omega)];by_cases c2:val l=val m;rw[zYb c1,zYc c2,zYb (show ¬(val l:Int)<(val m:Int)by omega),zYc (show(val l:Int)=(val m:Int)by omega)];rw[zYb c1,zYb c2,zYb (show ¬(val l:Int)<(val m:Int)by omega),zYb (show ¬(val l:Int)=(val m:Int)by omega)]
section
variable {H:Aa}{p:Nat}{z:Int}
theorem Vcp (hg:H[p]? = some (.c0 (A7 z))):Ad false 1 (.ptr p 0 0) H=some (.bool (decide (z<0))):=by simp only[Ad,A0 hg,zXa];rfl
theorem Vcq (hg:H[p]? = some (.c0 (A7 z))):Ad false 1 (.ptr p 0 1) H=some (.sl (enL cU (A8 z.natAbs)) .no):=by simp only[Ad,A0 hg,zXa];rfl

end
def Vox {a b:Int}(ha:LB a)(hb:LB b)(H:Aa):Ubj (big a) (big b) H=some (.ret (.i6 (FM a b)),H):=by
 have e1:(H++[Blk.c0 (A7 a)]++[Blk.c0 (A7 b)])[H.length]? = some (.c0 (A7 a)):=by simp
 have e2:(H++[Blk.c0 (A7 a)]++[Blk.c0 (A7 b)])[(H++[Blk.c0 (A7 a)]).length]? = some (.c0 (A7 b)):=Ap;have c1:=λK=>P9 (t:=.no) (t':=.no) K (Bw a.natAbs) (Bw b.natAbs) (Wg ha (by decide)) (Wg hb (by decide));have c2:=λK=>P9 (t:=.no) (t':=.no) K (Bw b.natAbs) (Bw a.natAbs) (Wg hb (by decide)) (Wg ha (by decide));rw[B6,B6]at c1 c2;have fin:∀q:Int,rP H (.i6 q) (H++[Blk.c0 (A7 a)]++[Blk.c0 (A7 b)])=some (.ret (.i6 q),H):=λq=>by simp only[VP];exact Ih
 unfold Ubj;simp only[GMw,F4,Aj,VK,Nat.add_zero,Vcp e1,Vcp e2];by_cases h1:a<0
 ·have d1:decide (a<0)=true:=zXc h1;by_cases h2:b<0;have d2:decide (b<0)=true:=zXc h2;have:FM (b.natAbs:Int) (a.natAbs:Int)=FM a b:=(by unfold FM;by_cases q1:a<b;rw[zYc q1,zYc (by omega)];by_cases q2:a=b;rw[zYb q1,zYb (by omega),zYc q2,zYc (by omega)];rw[zYb q1,zYb (by omega),zYb q2,zYb (by omega)]);simp only[GMw,d1,d2,Vcp e2,Vcq e1,Vcq e2,c2,fin,this];have d2:decide (b<0)=false:=zXd h2;have:FM a b = -1:=(by unfold FM;rw[zYc (by omega)]);simp only[GMw,d1,d2,Vcp e2,fin,this]
 have d1:decide (a<0)=false:=zXd h1;by_cases h2:b<0;have d2:decide (b<0)=true:=zXc h2;have:FM a b=1:=(by unfold FM;rw[zYb (by omega),zYb (by omega)]);simp only[GMw,d1,d2,fin,this];have d2:decide (b<0)=false:=zXd h2;have:FM (a.natAbs:Int) (b.natAbs:Int)=FM a b:=(by rw[show(a.natAbs:Int)=a by omega,show(b.natAbs:Int)=b by omega]);simp only[GMw,d1,d2,Vcq e1,Vcq e2,c1,fin,this]
def Vn0 (a b:Int)(H:Aa):Ucx (.sl [[.i6 a],[.i6 b]] .ti) H=some (.ret (.i6 (if a=0 then b else a)),H):=by
 have i0:Aw 1 (.sl [[.i6 a],[.i6 b]] .ti) (.i6 0)=some (.cptr [.i6 a] 0):=rfl;have i1:Aw 1 (.sl [[.i6 a],[.i6 b]] .ti) (.i6 1)=some (.cptr [.i6 b] 0):=rfl;have l0:∀x:Ab,Ad false 1 (.cptr [x] 0) H=some x:=λ_=>rfl;have hl:A9 (.sl [[.i6 a],[.i6 b]] .ti)=some (.i6 2):=rfl;have w0:I_.wrap (0+1)=1:=rfl;have w1:I_.wrap (1+1)=2:=rfl;have d0:decide ((0:Int)<2)=true:=rfl;have d1:decide ((1:Int)<2)=true:=rfl;have d2:decide ((2:Int)<2)=false:=rfl;unfold Ucx;simp only[GMw,hl];have key:=Bf (G:=λrec1 vs H1=>Uep H rec1 (ag vs 0) (ag vs 1) (ag vs 2) (ag vs 3) H1) (σ:=Nat) (λi=>i=0\/(i=1/\a=0)\/(i=2/\a=0/\b=0))
  (λi=>[.i6 0,.sl [[.i6 a],[.i6 b]] .ti,.i6 2,.i6 (i:Int)]) (λ_=>H) (λi=>2-i) (λ_=>some (.ret (.i6 (if a=0 then b else a)),H)) (λi rec hi hrec=>?_) 0 (.inl rfl) (by decide)
 exact key;unfold Uep;rcases hi with rfl | ⟨rfl,ha⟩ | ⟨rfl,ha,hb⟩;by_cases h:a=0;have hn:(a != 0)=false:=(by simp[h]);have:=hrec 1 (.inr (.inl ⟨rfl,h⟩)) (by decide);simp only[GMw,Ak,Int.natCast_zero,d0,i0,l0,hn,w0];exact this;have hn:(a != 0)=true:=(by simp[h]);simp only[GMw,Ak,Int.natCast_zero,d0,i0,l0,hn,zYb h];by_cases h:b=0;have hn:(b != 0)=false:=(by simp[h]);have:=hrec 2 (.inr (.inr ⟨rfl,ha,h⟩)) (by decide);simp only[GMw,Ak,show((1:Nat):Int)=1 from rfl,d1,i1,l0,hn,w1];exact this;have hn:(b != 0)=true:=(by simp[h]);simp only[GMw,Ak,show((1:Nat):Int)=1 from rfl,d1,i1,l0,hn,zYc ha];simp only[GMw,Ak,show((2:Nat):Int)=2 from rfl,d2,zYc ha,hb]
def VaS {c d:Cl}(hc:c.ok)(hd:d.ok)(H:Aa):UaD (.agg (cCl c)) (.agg (cCl d)) H=some (.ret (.i6 (JD c d)),H):=by
 have e1:(H++[Blk.c0 (cCl c)]++[Blk.c0 (cCl d)])[H.length]? = some (.c0 (cCl c)):=by simp
 have e2:(H++[Blk.c0 (cCl c)]++[Blk.c0 (cCl d)])[(H++[Blk.c0 (cCl c)]).length]? = some (.c0 (cCl d)):=Ap;have hy:=λK=>Vox (hc.2.lb (by decide)) (hd.2.lb (by decide)) K;have hx:=λK=>Vox (hc.1.lb (by decide)) (hd.1.lb (by decide)) K;have hb:∀x y:Int,AK 1 [.i6 x,.i6 y]=some (.sl [[.i6 x],[.i6 y]] .ti):=λ_ _=>rfl;have fin:∀q:Int,rP H (.i6 q) (H++[Blk.c0 (cCl c)]++[Blk.c0 (cCl d)])=some (.ret (.i6 q),H):=λq=>by simp only[VP];exact Ih
 unfold UaD;simp only[GMw,VgW,Aj,VK,Nat.add_zero,N9 e1,N9 e2,NA e1,NA e2,hy,hx,and_true,hb,Vn0,fin]
 rfl
def Tq {α:Type}{f:α->List Ab}{sz:Nat}[hf:Sz f sz][hp:Pl f]{H:Aa}{l:List α}{id b d cap k:Nat}{ex:Bool}(hg:AD H id 0=some (flat f l))(hi:b<=id)(hk:k<=l.length):Hv H b (d+3) (.ms id 0 0 k cap sz ex)=some (.sl (enL f (l.take k)) .no):=by
 have h1:¬id<b:=by omega
 have h2:k*sz<=l.length*sz:=Ww _ hk;have h3:(l.take k).length=k:=by simp;omega
 have h4:=MT (f:=f) (l.take k);rw[h3]at h4;unfold Hv;simp only[frz,h1,zYe,hg,zXa,Xa,VK,Fv,h2,zYd,NH,Hp (NI (f:=f) (l.take k)),Pw (f:=f) (l.take k),h4,zXb,forget,E9,fgt]
def PM (t:Nat):K_.wrap (t:Int)=((t%4294967296:Nat):Int):=by simp only[IntKind.wrap,IntKind.bits,IntKind.signed];simp
def NO (t:Nat):Af .n .shr (.int .u64 (t:Int)) (.int .u64 32)=some (.int .u64 ((t / 4294967296:Nat):Int)):=by
 show some (Ab.int .u64 ((t:Int).fdiv 4294967296))=_;rw[X8 _ (by decide)]
 rfl
def SN {x m c:Nat}(hx:x<4294967296)(hm:m<4294967296)(hc:c<4294967296):c+x*m<18446744073709551616:=by have h1:x*m<=4294967295*4294967295:=XK (by omega) (by omega);omega
def IK (x:Nat):val [x]=x:=by simp[val]
def Dr (l:zAb)(m c:Nat):Nat->zAb×Nat
 |0=>([],c)
 |i+1=>((Dr l m c i).1++[((Dr l m c i).2+l[i]?.getD 0*m)%4294967296],((Dr l m c i).2+l[i]?.getD 0*m) / 4294967296)
def Pd {l:zAb}{m c:Nat}(hx:Lim l)(hm:m<4294967296)(hc:c<4294967296):∀i,i<=l.length ->
  (Dr l m c i).1.length=i/\(Dr l m c i).2<4294967296/\Lim (Dr l m c i).1/\val (Dr l m c i).1+4294967296^i*(Dr l m c i).2=val (l.take i)*m+c
 |0,_=>⟨rfl,hc,λx h=>(by cases h),by simp[Dr,val]⟩
 |i+1,hi=>by
  obtain⟨h1,h2,h3,h4⟩:=Pd hx hm hc i (by omega);have aI:=hx _ (VY (show i<l.length by omega));have hg:l[i]?.getD 0=l[i]:=by rw[VG (by omega)];rfl
  have ht:=SN aI hm h2;simp only[Dr,hg];refine⟨by simp[h1],?_,?_,?_⟩;omega;intro x jP;rcases Wk.1 jP with h | h;exact h3 x h;rw[Wj.1 h];exact Xw _ (by decide);rw[VU (by omega),C5,C5,h1,Wc,WK (by omega)];have uD:=X3 ((Dr l m c i).2+l[i]*m) 4294967296;simp only[val,Nat.mul_zero,Nat.add_zero];generalize ((Dr l m c i).2+l[i]*m) / 4294967296=q at *;generalize ((Dr l m c i).2+l[i]*m)%4294967296=r at *;rw[Nat.pow_succ,Xn,WA,<-WT,show r+4294967296*q=(Dr l m c i).2+l[i]*m by omega,WT,WB];rw[<-WA,h4,Xn];omega
def Vpv {l:zAb}{tk:Tok}{m c:Nat}(H:Aa)(hx:Lim l)(hl:l.length<=1099511627776)(hm:m<4294967296)(hc:c<4294967296):Ucb (.sl (enL cU l) tk) (.int .u32 (m:Int)) (.int .u32 (c:Int)) H=some (.ret (.sl (enL cU (A8 (val l*m+c))) .no),H):=by
 unfold Ucb;have hn:I_.wrap ((l.length:Int)+1)=((l.length+1:Nat):Int):=by rw[Am]<;>omega
 have dE:=F9 (f:=cU) (a:=0) (n:=l.length+1) (bytes:=4) (H:=H) (by omega) (by omega);simp only[show cU 0=[Ab.int .u32 0] from rfl]at dE;have hcc:A5 .u64 (.int .u32 (c:Int))=some (.int .u64 (c:Int)):=by rw[AV,BT (by omega) (by omega)]
 have jV:A5 .u64 (.int .u32 (m:Int))=some (.int .u64 (m:Int)):=by rw[AV,BT (by omega) (by omega)]
 simp only[GMw,Ax,hn,dE,hcc];refine Ct l.length (λi=>[.sl (enL cU l) tk,.int .u32 (m:Int),.ms H.length 0 0 (l.length+1) (l.length+1) 1 true,.int .u64 ((Dr l m c i).2:Int),.sl (enL cU l) tk,.i6 (l.length:Int),.i6 (i:Int)])
  (λi=>H++[.c0 (flat cU ((Dr l m c i).1++List.replicate (l.length+1-i) 0))]) _ (by omega) (λrec i hi=>?_) (λrec=>?_)
 ·obtain⟨h1,h2,h3,h4⟩:=Pd hx hm hc i (by omega);have aE:(i:Int)<(l.length:Int):=by omega
  have aI:=hx _ (VY hi);have hg:l[i]?.getD 0=l[i]:=by rw[VG hi];rfl
  have ht:=SN aI hm h2;have hidx:=CZ (sz:=1) (id:=H.length) (n:=l.length+1) (K:=.i64) (g:=0) (off:=0) (cap:=l.length+1) (ex:=true) (i:=i) (by omega);simp only[VK,Wa]at hidx;obtain⟨t,htt⟩:∃t,t=(Dr l m c i).2+l[i]*m:=⟨_,rfl⟩;have hP:l[i]*m<=4294967295*4294967295:=XK (by omega) (by omega);have w1:A5 .u64 (.int .u32 (l[i]:Int))=some (.int .u64 (l[i]:Int)):=by rw[AV,BT (by omega) (by omega)]
  have w2:IntKind.u64.wrap ((l[i]:Int)*(m:Int))=((l[i]*m:Nat):Int):=by rw[<-Int.natCast_mul,BT (by omega) (by omega)]
  have w3:IntKind.u64.wrap (((Dr l m c i).2:Int)+((l[i]*m:Nat):Int))=(t:Int):=by rw[BT]<;>omega
  have w4:A5 .u32 (.int .u64 (t:Int))=some (.int .u32 ((t%4294967296:Nat):Int)):=by rw[AV,PM]
  have w5:Af .n .shr (.int .u64 (t:Int)) (.int .u64 32)=some (.int .u64 ((t / 4294967296:Nat):Int)):=NO t;have w6:I_.wrap ((i:Int)+1)=((i+1:Nat):Int):=by rw[Am]<;>omega
  have hst:=Eb (f:=cU) (sz:=1) (l:=(Dr l m c i).1++List.replicate (l.length+1-i) 0) (i:=i) (a:=t%4294967296) (v:=.int .u32 ((t%4294967296:Nat):Int)) (H:=H++[Blk.c0 (flat cU ((Dr l m c i).1++List.replicate (l.length+1-i) 0))]) (id:=H.length) (A0 Ap) (by simp;omega) rfl;have aH:((Dr l m c i).1++List.replicate (l.length+1-i) 0).set i (t%4294967296)=(Dr l m c (i+1)).1++List.replicate (l.length+1-(i+1)) 0:=by rw[show l.length+1-i=(l.length+1-(i+1))+1 by omega,zXm,Wy _ _ (by omega),h1,Wu,List.set_cons_zero];simp[Dr,hg,<-htt]
  rw[Wa,BE Ap,Bg,aH]at hst;unfold Uee;simp only[GMw,Ak,aE,A4 hi,AA,zXh,w1,jV,w2,w3,w4,hidx,hst,w5,w6];simp only[Dr,hg,<-htt]
 ·obtain⟨h1,h2,h3,h4⟩:=Pd hx hm hc l.length (VM _);have hidx:=CZ (sz:=1) (id:=H.length) (n:=l.length+1) (K:=.i64) (g:=0) (off:=0) (cap:=l.length+1) (ex:=true) (i:=l.length) (by omega);simp only[VK,Wa]at hidx;have w4:A5 .u32 (.int .u64 ((Dr l m c l.length).2:Int))=some (.int .u32 ((Dr l m c l.length).2:Int)):=by rw[AV,CX (by omega) (by omega)]
  have hst:=Eb (f:=cU) (sz:=1) (l:=(Dr l m c l.length).1++List.replicate (l.length+1-l.length) 0) (i:=l.length) (a:=(Dr l m c l.length).2) (v:=.int .u32 ((Dr l m c l.length).2:Int)) (H:=H++[Blk.c0 (flat cU ((Dr l m c l.length).1++List.replicate (l.length+1-l.length) 0))]) (id:=H.length) (A0 Ap) (by simp;omega) rfl;have aH:((Dr l m c l.length).1++List.replicate (l.length+1-l.length) 0).set l.length (Dr l m c l.length).2=(Dr l m c l.length).1++[(Dr l m c l.length).2]:=by
   rw[show l.length+1-l.length=1 by omega,Wy _ _ (by omega),h1,Wu]
   rfl
  rw[Wa,BE Ap,Bg,aH]at hst;obtain⟨o,ho⟩:∃o,o=(Dr l m c l.length).1++[(Dr l m c l.length).2]:=⟨_,rfl⟩;have hol:o.length=l.length+1:=by rw[ho];simp[h1]
  have aJ:Lim o:=by intro x jP;rw[ho]at jP;rcases Wk.1 jP with h | h;exact h3 x h;rw[Wj.1 h];exact h2
  have oE:val o=val l*m+c:=by rw[ho,C5,h1,IK];rw[Wx]at h4;exact h4
  rw[<-ho]at hst;have eL:=VhQ (l:=o) (H:=H++[Blk.c0 (flat cU o)]) (id:=H.length) Ap (by omega);have htk:=JO aJ o.length (VM _);rw[Wx,oE]at htk;have eF:=Tq (f:=cU) (sz:=1) (b:=H.length) (d:=5) (cap:=o.length) (ex:=true) (k:=Hl o o.length) (l:=o) (H:=H++[Blk.c0 (flat cU o)]) (id:=H.length) (A0 Ap) (VM _) (OP o _);rw[htk]at eF;rw[hol]at eL eF;unfold Uee;simp only[GMw,Ak,Wv,Ax,w4,hidx,hst,eL,CD,eF,zXb]
def Nx (b:zAb)(i:Nat):val (b.take (i+1))=val (b.take i)+4294967296^i*b[i]?.getD 0:=by rcases W4 i b.length with h | h;rw[VU h,C5,VG h,Wc,WK (by omega)];simp[val];rw[VW (by omega),VW h,zYa h];simp
def Kh {b:zAb}(h:Lim b)(i:Nat):b[i]?.getD 0<4294967296:=by rcases W4 i b.length with q | q;rw[VG q];exact h _ (VY q);rw[zYa q];decide
def EW (a b:zAb):Nat->zAb×Nat
 |0=>([],0)
 |i+1=>((EW a b i).1++[(a[i]?.getD 0+b[i]?.getD 0+(EW a b i).2)%4294967296],(a[i]?.getD 0+b[i]?.getD 0+(EW a b i).2) / 4294967296)
theorem VbA {a b:zAb}(ha:Lim a)(hb:Lim b):∀i,(EW a b i).1.length=i/\(EW a b i).2<=1/\Lim (EW a b i).1/\val (EW a b i).1+4294967296^i*(EW a b i).2=val (a.take i)+val (b.take i)
 |0=>⟨rfl,Wi _,λx h=>(by cases h),by simp[EW,val]⟩
 |i+1=>by obtain⟨h1,h2,h3,h4⟩:=VbA ha hb i;have g1:=Kh ha i;have g2:=Kh hb i;simp only[EW];refine⟨by simp[h1],by omega,?_,?_⟩;intro x hx;rcases Wk.1 hx with h | h;exact h3 x h;rw[Wj.1 h];exact Xw _ (by decide);rw[Nx,Nx,C5,h1];have uD:=X3 (a[i]?.getD 0+b[i]?.getD 0+(EW a b i).2) 4294967296;simp only[val,Nat.mul_zero,Nat.add_zero];generalize (a[i]?.getD 0+b[i]?.getD 0+(EW a b i).2) / 4294967296=q at *;generalize (a[i]?.getD 0+b[i]?.getD 0+(EW a b i).2)%4294967296=r at *;rw[Nat.pow_succ,Xn,WA,<-WT,show r+4294967296*q=a[i]?.getD 0+b[i]?.getD 0+(EW a b i).2 by omega,WT,WT];omega
def Vlh {x y c:Nat}(hx:x<4294967296)(hy:y<4294967296)(hc:c<=1)(H:Aa):Ucn (.int .u32 (x:Int)) (.int .u32 (y:Int)) (.int .u32 (c:Int)) H=some (.ret (.tup [.int .u32 (((x+y+c)%4294967296:Nat):Int),.int .u32 (((x+y+c) / 4294967296:Nat):Int)]),H):=by
 have w:∀n:Nat,n<4294967296->A5 .u64 (.int .u32 (n:Int))=some (.int .u64 (n:Int)):=λn h=>by rw[AV,BT (by omega) (by omega)]
 have w1:IntKind.u64.wrap ((x:Int)+(y:Int))=((x+y:Nat):Int):=by rw[BT]<;>omega
 have w2:IntKind.u64.wrap (((x+y:Nat):Int)+(c:Int))=((x+y+c:Nat):Int):=by rw[BT]<;>omega
 have w4:A5 .u32 (.int .u64 ((x+y+c:Nat):Int))=some (.int .u32 (((x+y+c)%4294967296:Nat):Int)):=by rw[AV,PM]
 have w5:=NO (x+y+c);have w6:A5 .u32 (.int .u64 (((x+y+c) / 4294967296:Nat):Int))=some (.int .u32 (((x+y+c) / 4294967296:Nat):Int)):=by rw[AV,CX (by omega) (by omega)]
 unfold Ucn;simp only[GMw,w x hx,w y hy,w c (by omega),w1,w2,w4,w5,w6]
def VcY {H:Aa}{o:zAb}{v:Nat}(hol:o.length<1099511627780)(aJ:Lim o)(oE:val o=v):(Ubn (.ms H.length 0 0 o.length o.length 1 true) (H++[Blk.c0 (flat cU o)])).bind (λr=>match r.1 with | .ret x=>rPN H x r.2 | .pan x=>none)=some (.ret (.sl (enL cU (A8 v)) .no),H):=by
 have eL:=VhQ (l:=o) (H:=H++[Blk.c0 (flat cU o)]) (id:=H.length) Ap (by omega);have htk:=JO aJ o.length (VM _);rw[Wx,oE]at htk;have hk:=OP o o.length;have eF:=Tq (f:=cU) (sz:=1) (d:=5) (cap:=o.length) (ex:=true) (A0 (Ap (cs:=flat cU o) (B:=H))) (VM H.length) hk;rw[eL];simp only[zXa,CD];rw[eF,htk]
 rfl
def Vkk {a b:zAb}{ta tb:Tok}(H:Aa)(ha:Lim a)(hb:Lim b)(hl:a.length<=1099511627776)(hle:b.length<=a.length):Uel H (.sl (enL cU a) ta) (.sl (enL cU b) tb) H=some (.ret (.sl (enL cU (A8 (val a+val b))) .no),H):=by
 unfold Uel;have hn:I_.wrap ((a.length:Int)+1)=((a.length+1:Nat):Int):=by rw[Am]<;>omega
 have dE:=F9 (f:=cU) (a:=0) (n:=a.length+1) (bytes:=4) (H:=H) (by omega) (by omega);simp only[show cU 0=[Ab.int .u32 0] from rfl]at dE;simp only[GMw,Ax,hn,dE];refine Ct (G:=λaA vs H1=>Uco H aA (ag vs 0) (ag vs 1) (ag vs 2) (ag vs 3) (ag vs 4) (ag vs 5) (ag vs 6) H1) a.length
  (λi=>[.sl (enL cU a) ta,.sl (enL cU b) tb,.ms H.length 0 0 (a.length+1) (a.length+1) 1 true,.int .u32 ((EW a b i).2:Int),.sl (enL cU a) ta,.i6 (a.length:Int),.i6 (i:Int)])
  (λi=>H++[.c0 (flat cU ((EW a b i).1++List.replicate (a.length+1-i) 0))]) _ (by omega) (λrec i hi=>?_) (λrec=>?_)
 ·obtain⟨h1,h2,h3,h4⟩:=VbA ha hb i;have d1:decide ((i:Int)<(a.length:Int))=true:=zXc (by omega);have aI:=ha _ (VY hi);have hg:a[i]?.getD 0=a[i]:=by rw[VG hi];rfl
  have hidx:=CZ (sz:=1) (id:=H.length) (n:=a.length+1) (K:=.i64) (g:=0) (off:=0) (cap:=a.length+1) (ex:=true) (i:=i) (by omega);simp only[VK,Wa]at hidx;have w6:I_.wrap ((i:Int)+1)=((i+1:Nat):Int):=by rw[Am]<;>omega
  have hst:=Eb (f:=cU) (sz:=1) (l:=(EW a b i).1++List.replicate (a.length+1-i) 0) (i:=i) (a:=(a[i]?.getD 0+b[i]?.getD 0+(EW a b i).2)%4294967296) (v:=.int .u32 (((a[i]?.getD 0+b[i]?.getD 0+(EW a b i).2)%4294967296:Nat):Int)) (H:=H++[Blk.c0 (flat cU ((EW a b i).1++List.replicate (a.length+1-i) 0))]) (id:=H.length) (A0 Ap) (by simp;omega) rfl;have aH:((EW a b i).1++List.replicate (a.length+1-i) 0).set i ((a[i]?.getD 0+b[i]?.getD 0+(EW a b i).2)%4294967296)=(EW a b (i+1)).1++List.replicate (a.length+1-(i+1)) 0:=by rw[show a.length+1-i=(a.length+1-(i+1))+1 by omega,zXm,Wy _ _ (by omega),h1,Wu,List.set_cons_zero];simp[EW]
  rw[Wa,BE Ap,Bg,aH]at hst;rw[hg]at hst;have pB:=Kh hb i;have h32:=λK=>Vlh aI pB h2 K;have cL:(EW a b (i+1)).2=(a[i]+b[i]?.getD 0+(EW a b i).2) / 4294967296:=by simp only[EW,hg]
  unfold Uco UeR;by_cases sJ:i<b.length;have d2:decide ((i:Int)<(b.length:Int))=true:=zXc (by omega);have oV:b[i]?.getD 0=b[i]:=(by rw[VG sJ];rfl);rw[oV]at h32 hst cL;simp only[At,Ak,GMw,d1,d2,Ax,A4 hi,A4 sJ,AA,zXh,h32,Ba,Bd,hidx,hst,w6,cL];have d2:decide ((i:Int)<(b.length:Int))=false:=zXd (by omega);have oV:b[i]?.getD 0=0:=(by rw[zYa (by omega)];rfl);rw[oV]at h32 hst cL;simp only[Int.natCast_zero]at h32;simp only[At,Ak,GMw,d1,d2,Ax,A4 hi,AA,zXh,h32,Ba,Bd,hidx,hst,w6,cL]
 ·obtain⟨h1,h2,h3,h4⟩:=VbA ha hb a.length;have d1:decide ((a.length:Int)<(a.length:Int))=false:=zXd (by omega);have hidx:=CZ (sz:=1) (id:=H.length) (n:=a.length+1) (K:=.i64) (g:=0) (off:=0) (cap:=a.length+1) (ex:=true) (i:=a.length) (by omega);simp only[VK,Wa]at hidx;have hst:=Eb (f:=cU) (sz:=1) (l:=(EW a b a.length).1++List.replicate (a.length+1-a.length) 0) (i:=a.length) (a:=(EW a b a.length).2) (v:=.int .u32 ((EW a b a.length).2:Int)) (H:=H++[Blk.c0 (flat cU ((EW a b a.length).1++List.replicate (a.length+1-a.length) 0))]) (id:=H.length) (A0 Ap) (by simp;omega) rfl;have aH:((EW a b a.length).1++List.replicate (a.length+1-a.length) 0).set a.length (EW a b a.length).2=(EW a b a.length).1++[(EW a b a.length).2]:=by
   rw[show a.length+1-a.length=1 by omega,Wy _ _ (by omega),h1,Wu]
   rfl
  rw[Wa,BE Ap,Bg,aH]at hst;obtain⟨o,ho⟩:∃o,o=(EW a b a.length).1++[(EW a b a.length).2]:=⟨_,rfl⟩;have hol:o.length=a.length+1:=by rw[ho];simp[h1]
  have aJ:Lim o:=by intro x jP;rw[ho]at jP;rcases Wk.1 jP with h | h;exact h3 x h;rw[Wj.1 h];omega
  have oE:val o=val a+val b:=by rw[ho,C5,h1,IK];rw[Wx,VW hle]at h4;exact h4
  rw[<-ho]at hst;have ht:=VcY (H:=H) (o:=o) (by omega) aJ oE;rw[hol]at ht;unfold Uco;simp only[At,Ak,GMw,d1,Ax,hidx,hst];have eL:=VhQ (l:=o) (H:=H++[Blk.c0 (flat cU o)]) (id:=H.length) Ap (by omega);rw[hol]at eL;rw[eL]at ht⊢;simp only[zXa]at ht;simp only[GMw];exact ht
def Vnz {a b:zAb}{ta tb:Tok}(H:Aa)(ha:Lim a)(hb:Lim b)(h1:a.length<=1099511627776)(h2:b.length<=1099511627776):Ucp (.sl (enL cU a) ta) (.sl (enL cU b) tb) H=some (.ret (.sl (enL cU (A8 (val a+val b))) .no),H):=by
 unfold Ucp;by_cases h:a.length<b.length;have d1:decide ((a.length:Int)<(b.length:Int))=true:=zXc (by omega);simp only[GMw,Ax,d1];rw[Vkk H hb ha h2 (by omega),Yq];have d1:decide ((a.length:Int)<(b.length:Int))=false:=zXd (by omega);simp only[GMw,Ax,d1];exact Vkk H ha hb h1 (by omega)
def Ky (a b:BitVec 32):IB .and .u32 (a.toNat:Int) (b.toNat:Int)=some (.int .u32 ((a &&& b).toNat:Int))/\IB .or .u32 (a.toNat:Int) (b.toNat:Int)=some (.int .u32 ((a ||| b).toNat:Int))/\IB .xor .u32 (a.toNat:Int) (b.toNat:Int)=some (.int .u32 ((a ^^^ b).toNat:Int)):=by
 have ho:∀v:BitVec 32,BitVec.ofInt 32 (v.toNat:Int)=v:=λv=>by rw[BitVec.ofInt_natCast,BitVec.ofNat_toNat,BitVec.setWidth_eq]
 have hw:∀v:BitVec 32,K_.wrap (v.toNat:Int)=(v.toNat:Int):=λv=>by have:=v.isLt;rw[CX (by omega) (by omega)]
 refine⟨?_,?_,?_⟩;show some (Ab.int .u32 (K_.wrap (((BitVec.ofInt 32 (a.toNat:Int)) &&& (BitVec.ofInt 32 (b.toNat:Int))).toNat:Int)))=_;rw[ho,ho,hw];show some (Ab.int .u32 (K_.wrap (((BitVec.ofInt 32 (a.toNat:Int)) ||| (BitVec.ofInt 32 (b.toNat:Int))).toNat:Int)))=_;rw[ho,ho,hw];show some (Ab.int .u32 (K_.wrap (((BitVec.ofInt 32 (a.toNat:Int)) ^^^ (BitVec.ofInt 32 (b.toNat:Int))).toNat:Int)))=_;rw[ho,ho,hw]
def Vlm (a:BitVec 32):unA .xor (.int .u32 (a.toNat:Int))=some (.int .u32 ((~~~a).toNat:Int)):=by
 have h:=(Ky (BitVec.allOnes 32) a).2.2;have e:((BitVec.allOnes 32).toNat:Int)=4294967295:=by decide
 rw[e]at h;have hn : ~~~a=BitVec.allOnes 32 ^^^ a:=BitVec.allOnes_xor.symm;rw[hn];exact h
def Vlq (v:BitVec 32):Af .n .shr (.int .u32 (v.toNat:Int)) (.int .u64 31)=some (.int .u32 ((if v.msb then 1 else 0:Nat):Int)):=by
 have hs:Af .n .shr (.int .u32 (v.toNat:Int)) (.int .u64 31)=some (.int .u32 (Int.fdiv (v.toNat:Int) (2^(min (31:Int).toNat K_.bits)))):=rfl;have hlt:=v.isLt;rw[hs,show(2:Int)^(min (31:Int).toNat K_.bits)=2147483648 from by decide,X8 _ (by omega)]
 congr 2
 rw[XT];by_cases h:2147483648<=v.toNat;have:decide (2^(32-1)<=v.toNat)=true:=zXc (by omega);rw[this];simp only[zYd];omega;have:decide (2^(32-1)<=v.toNat)=false:=zXd (by omega);rw[this];simp only[VL,zYe];omega
def Nr (op:BinOp)(aF:D7 op=false)(a b:Int)(hb:∀k x y,FK op k x y=IB op k x y):Af .none op (.int .u32 a) (.int .u32 b)=IB op .u32 a b:=by show(if D7 op then _ else if K_=K_ then FK op .u32 a b else none)=_;rw[aF,zYb (by decide),zYc rfl,hb]
def Vlc {x y c:Nat}(hx:x<4294967296)(hy:y<4294967296)(hc:c<=1)(H:Aa):Ubc (.int .u32 (x:Int)) (.int .u32 (y:Int)) (.int .u32 (c:Int)) H =
  some (.ret (.tup [.int .u32 (((x+4294967296-y-c)%4294967296:Nat):Int),.int .u32 ((if x<y+c then 1 else 0:Nat):Int)]),H):=by
 obtain⟨a,ha⟩:∃a:BitVec 32,a.toNat=x:=⟨BitVec.ofNat 32 x,by rw[Xp];omega⟩;obtain⟨b,hb⟩:∃b:BitVec 32,b.toNat=y:=⟨BitVec.ofNat 32 y,by rw[Xp];omega⟩;obtain⟨d,hd⟩:∃d:BitVec 32,d.toNat=(x+4294967296-y-c)%4294967296:=⟨BitVec.ofNat 32 ((x+4294967296-y-c)%4294967296),by rw[Xp];omega⟩;have tM:∀z:Int,K_.wrap z=z%4294967296:=λz=>by simp only[IntKind.wrap,IntKind.bits,IntKind.signed];simp
 have w1:K_.wrap (K_.wrap ((x:Int)-(y:Int))-(c:Int))=(d.toNat:Int):=by rw[tM,tM,hd];omega
 have e1:∀p q:BitVec 32,Af .n .and (.int .u32 (p.toNat:Int)) (.int .u32 (q.toNat:Int))=some (.int .u32 ((p &&& q).toNat:Int)):=λp q=>by rw[Nr .and rfl _ _ (λ_ _ _=>rfl)];exact(Ky p q).1
 have e2:∀p q:BitVec 32,Af .n .or (.int .u32 (p.toNat:Int)) (.int .u32 (q.toNat:Int))=some (.int .u32 ((p ||| q).toNat:Int)):=λp q=>by rw[Nr .or rfl _ _ (λ_ _ _=>rfl)];exact(Ky p q).2.1
 have e3:∀p q:BitVec 32,Af .n .xor (.int .u32 (p.toNat:Int)) (.int .u32 (q.toNat:Int))=some (.int .u32 ((p ^^^ q).toNat:Int)):=λp q=>by rw[Nr .xor rfl _ _ (λ_ _ _=>rfl)];exact(Ky p q).2.2
 have hm:(if ((~~~a &&& b) ||| (~~~(a ^^^ b) &&& d)).msb then 1 else 0:Nat)=if x<y+c then 1 else 0:=by rw[BitVec.msb_or,BitVec.msb_and,BitVec.msb_and,BitVec.msb_not,BitVec.msb_not,BitVec.msb_xor,XT a,XT b,XT d,ha,hb,hd];have q1:decide (2^(32-1)<=x)=decide (2147483648<=x):=rfl;have q2:decide (2^(32-1)<=y)=decide (2147483648<=y):=rfl;have q3:decide (2^(32-1)<=(x+4294967296-y-c)%4294967296)=decide (2147483648<=(x+4294967296-y-c)%4294967296):=rfl;rw[q1,q2,q3];by_cases c1:2147483648<=x<;>by_cases c2:2147483648<=y<;>by_cases c3:2147483648<=(x+4294967296-y-c)%4294967296<;>simp only[c1,c2,c3,decide_true,zYh]<;>(first | (rw[zYc (by decide),zYc (by omega)]) | (rw[zYb (by decide),zYb (by omega)]))
 unfold Ubc;simp only[GMw,w1];rw[<-ha,<-hb];simp only[GMw,Vlm,e1,e2,e3,Vlq];rw[hm,hd,ha,hb]
def VhO {l:zAb}{H:Aa}{id k:Nat}{ex:Bool}(hg:AD H id 0=some (flat cU l))(hk:k<=l.length)(hl:l.length<9223372036854775807):Ufs (.ms id 0 0 k l.length 1 ex) H=some (.ret (.bool (decide (k=0)||decide (l[k-1]?.getD 0≠0))),H):=by
 unfold Ufs;cases k with
 |zero=>simp[A9]
 |succ k=>
  have hidx:=CZ (sz:=1) (id:=id) (n:=k+1) (K:=.i64) (g:=0) (off:=0) (cap:=l.length) (ex:=ex) (i:=k) (by omega);simp only[VK,Wa]at hidx;have hld:=I3 (f:=cU) (id:=id) (l:=l) (H:=H) hg (i:=k) (by omega);have h0:¬((k+1:Nat):Int)=0:=by omega
  have hw:I_.wrap (((k+1:Nat):Int)-1)=(k:Int):=by rw[Am]<;>omega
  have wO:l[k]? = some l[k]:=VG (by omega);simp only[show A9 (.ms id 0 0 (k+1) l.length 1 ex)=some (.i6 ((k+1:Nat):Int)) from rfl,GMw,h0,hw,hidx,hld,Wr,wO,Option.getD_some,X0];by_cases h:l[k]=0;simp[h];have:¬(l[k]:Int)=0:=(by omega);simp[h]
def Vj6 {l:zAb}{H:Aa}{id:Nat}{ex:Bool}(hg:AD H id 0=some (flat cU l))(hl:l.length<1152921504606846976):Ubn (.ms id 0 0 l.length l.length 1 ex) H=some (.ret (.ms id 0 0 (Hl l l.length) l.length 1 ex),H):=by
 unfold Ubn;refine Bf (σ:=Nat) (λk=>k<=l.length/\Hl l k=Hl l l.length) (λk=>[.ms id 0 0 k l.length 1 ex]) (λ_=>H) (λk=>k) (λ_=>some (.ret (.ms id 0 0 (Hl l l.length) l.length 1 ex),H)) (λk rec hi hrec=>?_) l.length ⟨VM _,rfl⟩ (by omega);obtain⟨hk,ht⟩:=hi;unfold Uao;simp only[At,VhO hg hk (by omega),GMw];cases k with
 |zero=>simp[<-ht,Hl,forget,E9,fgt]
 |succ k=>by_cases h:l[k]?.getD 0=0;have hw:I_.wrap (((k+1:Nat):Int)-1)=(k:Int):=(by rw[Am]<;>omega);have hsl:B7 1 (.ms id 0 0 (k+1) l.length 1 ex) none (some (.i6 (k:Int))) none=some (.ms id 0 0 k l.length 1 ex):=(by have:(0:Int)<=(k:Int):=(by omega);simp only[B7,B5,zXa,this,zYd,zXl];rw[zYc ⟨trivial,by omega,by omega,by omega⟩];simp);have dK:Hl l k=Hl l l.length:=(by rw[<-ht];simp[Hl,h]);have hr:=hrec k ⟨by omega,dK⟩ (by omega);simp only[h,show A9 (.ms id 0 0 (k+1) l.length 1 ex)=some (.i6 ((k+1:Nat):Int)) from rfl,GMw,hw,hsl,Wr,ne_eq,not_true_eq_false,X0];exact hr;have dK:Hl l (k+1)=k+1:=(by simp[Hl,h]);have hr:(decide (k+1=0)||decide (l[k+1-1]?.getD 0≠0))=true:=(by simp[h]);simp only[hr,GMw,forget,E9,fgt];rw[<-ht,dK]
def VgK (l:zAb)(tk:Tok)(H:Aa)(hl:l.length<=1099511627776):Ubb (.sl (enL cU l) tk) H=some (if l=[]then (.ret (.sl [] .ti),H)else (.ret (.ms H.length 0 0 l.length l.length 1 false),H++[.buf 0 (flat cU l) BJ 1])):=by
 have hb:AK 1 []=some (.sl [] .ti):=rfl;unfold Ubb;cases l with
 |nil=>have ha:Gg BJ 1 4 (.sl [] .ti) (.sl (enL cU []) tk) H=some (.sl [] .ti,H):=rfl;have hn:Ri .eql (.sl (enL cU []) tk)=some .ubool:=rfl;have hu:∀x:Out,Ai .ubool x x=x:=λx=>zYc rfl;simp only[hn,GMw,hb,ha];exact hu _
 |cons c l=>
  have hn:Ri .eql (.sl (enL cU (c::l)) tk)=some (.bool false):=rfl;have ha:Gg BJ 1 4 (.sl [] .ti) (.sl (enL cU (c::l)) tk) H=some (.ms H.length 0 0 (c::l).length (c::l).length 1 false,H++[.buf 0 (flat cU (c::l)) BJ 1]):=by
   have he:C8 1 (.sl (enL cU (c::l)) tk) H=some (enL cU (c::l)):=Tx;have hlen:(enL cU (c::l)).length=(c::l).length:=(by simp[enL]);unfold Gg;rw[he];simp only[zXa];unfold IC;rw[hlen,zYb (by simp)];simp only[zXk,VK,List.all_nil,List.nil_append];rw[zYc ⟨trivial,by omega,by omega⟩]
   rfl
  simp only[hn,GMw,hb,ha];rw[zYb (by simp)]
def dgS (x y c:Nat):Nat:=(x+4294967296-y-c)%4294967296
def bwS (x y c:Nat):Nat:=if x<y+c then 1 else 0
def VlR {P W x y c:Nat}(h:x<y+c)(hy:y+c<=x+W):P*(x+W-y-c)+P*y+P*c=P*x+P*W:=by rw[<-WT,<-WT,<-WT,show x+W-y-c+y+c=x+W by omega]
def VlQ {P x y c:Nat}(h:y+c<=x):P*(x-y-c)+P*y+P*c=P*x:=by rw[<-WT,<-WT,show x-y-c+y+c=x by omega]
def VlO {W x y c:Nat}(hx:x<W)(hy:y<W)(hc:c<=1):(x+W-y-c)%W=if x<y+c then x+W-y-c else x-y-c:=by by_cases h:x<y+c;rw[zYc h,WJ (by omega)];rw[zYb h,show x+W-y-c=(x-y-c)+W by omega,Nat.add_mod_right,WJ (by omega)]
def VlP {v1 v2 u P Q W x y c d r:Nat}(h4:v1+v2=u+P*c)(hQ:Q=P*W)(hr:r=if x<y+c then x+W-y-c else x-y-c)(hd:d=if x<y+c then 1 else 0)(hy:y+c<=x+W):v1+P*r+(v2+P*y)=u+P*x+Q*d:=by by_cases h:x<y+c;rw[zYc h]at hr hd;have:=VlR (P:=P) h hy;rw[hr,hd,hQ,Wa];omega;rw[zYb h]at hr hd;have:=VlQ (P:=P) (show y+c<=x by omega);rw[hr,hd,Nat.mul_zero];omega
theorem VpP {x y c:Nat}(hx:x<4294967296)(hy:y<4294967296)(hc:c<=1):dgS x y c=if x<y+c then x+4294967296-y-c else x-y-c:=VlO hx hy hc
theorem VpO (x y c:Nat):dgS x y c<4294967296:=Xw _ (by decide)
def VpT (x y c:Nat):bwS x y c<=1:=by unfold bwS;split<;>omega
def FL (a b:zAb):Nat->zAb×Nat
 |0=>([],0)
 |i+1=>((FL a b i).1++[dgS (a[i]?.getD 0) (b[i]?.getD 0) (FL a b i).2],bwS (a[i]?.getD 0) (b[i]?.getD 0) (FL a b i).2)
theorem Vbo {a b:zAb}(ha:Lim a)(hb:Lim b):∀i,(FL a b i).1.length=i/\(FL a b i).2<=1/\Lim (FL a b i).1/\val (FL a b i).1+val (b.take i)=val (a.take i)+4294967296^i*(FL a b i).2
 |0=>⟨rfl,Wi _,λx h=>(by cases h),by simp[FL,val]⟩
 |i+1=>by obtain⟨h1,h2,h3,h4⟩:=Vbo ha hb i;have g1:=Kh ha i;have g2:=Kh hb i;simp only[FL];refine⟨by simp[h1],VpT _ _ _,?_,?_⟩;intro x hx;rcases Wk.1 hx with h | h;exact h3 x h;rw[Wj.1 h];exact VpO _ _ _;rw[Nx,Nx,C5,h1,IK];exact VlP h4 (Nat.pow_succ _ _) (VpP g1 g2 h2) rfl (Wg (Nat.add_le_add (Nat.le_of_lt_succ g2) h2) (Nat.le_add_left _ _))
def Vgp {α:Type}{f:α->List Ab}{sz:Nat}[hf:Sz f sz][hp:Pl f]{H:Aa}{l:List α}{id b d cap k:Nat}{ex:Bool}(hg:AD H id 0=some (flat f l))(hi:b<=id)(hk:k<=l.length):Ft H b (d+3) (.ms id 0 0 k cap sz ex)=some (.sl (enL f (l.take k)) .no):=by
 have h1:¬id<b:=by omega
 have h2:k*sz<=l.length*sz:=Ww _ hk;have h3:(l.take k).length=k:=by simp;omega
 have h4:=MT (f:=f) (l.take k);rw[h3]at h4;unfold Ft;simp only[frz,h1,zYe,hg,zXa,Xa,VK,Fv,h2,zYd,NH,Hp (NI (f:=f) (l.take k)),Pw (f:=f) (l.take k),h4,zXb,E9,fgt]
def Gu {l:zAb}(h:Lim l):val l<4294967296^l.length:=by
 induction l with
 |nil=>simp[val]
 |cons x l ih=>have h1:=h x (by simp);have h2:=ih λy hy=>h y (by simp[hy]);have e:val (x::l)=x+4294967296*val l:=rfl;rw[e,zXj,Nat.pow_succ,WY _ 4294967296];have:4294967296*(val l+1)<=4294967296*4294967296^l.length:=Xd _ h2;rw[WT]at this;omega
def VgD (H:Aa)(tk:Tok):Ubn (.sl [] tk) H=some (.ret (.sl [] .no),H):=by
 have hr:Ufs (.sl [] tk) H=some (.ret (.bool true),H):=by unfold Ufs;simp[A9]
 unfold Ubn;rw[Dx Eh];unfold Uao;simp only[At,GMw,hr,forget,E9,fgt]
def Vnr {a b:zAb}{ta tb:Tok}(H:Aa)(ha:Lim a)(hb:Lim b)(hl:a.length<=1099511627776)(hle:b.length<=a.length)(hv:val b<=val a):Ucq (.sl (enL cU a) ta) (.sl (enL cU b) tb) H=some (.ret (.tup [.sl (enL cU (A8 (val a-val b))) .no,.bool true]),H):=by
 have eA:=λK=>P9 (t:=ta) (t':=tb) K ha hb hl (by omega);have mD:decide (FM (val a:Int) (val b:Int)<0)=false:=by rw[HJ];exact zXd (by omega)
 have aG:=VgK a ta H hl;unfold Ucq;by_cases h0:a=[]
 ·subst h0;rw[zYc rfl]at aG;have eB:b=[]:=We (by simpa using hle);subst eB;have hlen:A9 (.sl [] .ti)=some (.i6 0):=rfl;have d0:decide ((0:Int)<0)=false:=rfl;have e0:A8 (val []-val [])=[]:=Ef;simp only[GMw,eA,mD,aG,hlen];rw[Dx Eh];unfold Ubd;simp only[At,Ak,GMw,d0,VgD,M8,CH,BC,BY,Ja,Hs,zXb,e0]
  rfl
 ·rw[zYb h0]at aG;have hlen:A9 (.ms H.length 0 0 a.length a.length 1 false)=some (.i6 (a.length:Int)):=rfl;simp only[GMw,eA,mD,aG,hlen];refine Ct (G:=λrec1 vs H1=>Ubd H rec1 (ag vs 0) (ag vs 1) (ag vs 2) (ag vs 3) (ag vs 4) H1) a.length
   (λi=>[.sl (enL cU b) tb,.ms H.length 0 0 a.length a.length 1 false,.int .u32 ((FL a b i).2:Int),.i6 (a.length:Int),.i6 (i:Int)])
   (λi=>H++[.buf 0 (flat cU ((FL a b i).1++a.drop i)) BJ 1]) _ (by omega) (λrec i hi=>?_) (λrec=>?_)
  obtain⟨h1,h2,h3,h4⟩:=Vbo ha hb i;have d1:decide ((i:Int)<(a.length:Int))=true:=zXc (by omega);have aI:=ha _ (VY hi);have hg:a[i]?.getD 0=a[i]:=(by rw[VG hi];rfl);have hidx:=CZ (sz:=1) (id:=H.length) (n:=a.length) (K:=.i64) (g:=0) (off:=0) (cap:=a.length) (ex:=false) (i:=i) hi;simp only[VK,Wa]at hidx;have jJ:AD (H++[Blk.buf 0 (flat cU ((FL a b i).1++a.drop i)) BJ 1]) H.length 0=some (flat cU ((FL a b i).1++a.drop i)):=(by simp[AD]);have hil:i<((FL a b i).1++a.drop i).length:=(by rw[VR,h1,Wd];omega);have oX:((FL a b i).1++a.drop i)[i]=a[i]:=(by rw[WN (by omega)];simp only[h1,Wu];rw[X5];rfl);have hld:=I3 (f:=cU) jJ hil;rw[oX]at hld;have w6:I_.wrap ((i:Int)+1)=((i+1:Nat):Int):=(by rw[Am]<;>omega);have hst:=Eb (f:=cU) (sz:=1) (a:=dgS (a[i]?.getD 0) (b[i]?.getD 0) (FL a b i).2) (v:=.int .u32 (dgS (a[i]?.getD 0) (b[i]?.getD 0) (FL a b i).2:Int)) jJ hil rfl;have aH:((FL a b i).1++a.drop i).set i (dgS (a[i]?.getD 0) (b[i]?.getD 0) (FL a b i).2)=(FL a b (i+1)).1++a.drop (i+1):=(by rw[Wy _ _ (by omega),h1,Wu,Wl hi,List.set_cons_zero];simp only[FL,VP,List.cons_append,List.nil_append]);have Zd:∀cs,FR (H++[Blk.buf 0 (flat cU ((FL a b i).1++a.drop i)) BJ 1]) H.length 0 cs=H++[Blk.buf 0 cs BJ 1]:=λcs=>(by simp[FR]);rw[Wa,Zd,aH]at hst;rw[hg]at hst;have pB:=Kh hb i;have h32:∀K,Ubc (.int .u32 (a[i]:Int)) (.int .u32 ((b[i]?.getD 0:Nat):Int)) (.int .u32 ((FL a b i).2:Int)) K=some (.ret (.tup [.int .u32 (dgS a[i] (b[i]?.getD 0) (FL a b i).2:Int),.int .u32 (bwS a[i] (b[i]?.getD 0) (FL a b i).2:Int)]),K):=λK=>Vlc aI pB h2 K;have cL:(FL a b (i+1)).2=bwS a[i] (b[i]?.getD 0) (FL a b i).2:=(by simp only[FL,hg]);unfold Ubd UeS;by_cases sJ:i<b.length;have d2:decide ((i:Int)<(b.length:Int))=true:=zXc (by omega);have oV:b[i]?.getD 0=b[i]:=(by rw[VG sJ];rfl);rw[oV]at h32 hst cL;simp only[At,Ak,GMw,d1,d2,Ax,A4 sJ,AA,zXh,hidx,hld,h32,Ba,Bd,hst,w6,cL];have d2:decide ((i:Int)<(b.length:Int))=false:=zXd (by omega);have oV:b[i]?.getD 0=0:=(by rw[zYa (by omega)];rfl);rw[oV]at h32 hst cL;simp only[Int.natCast_zero]at h32;simp only[At,Ak,GMw,d1,d2,Ax,zXh,hidx,hld,h32,Ba,Bd,hst,w6,cL];obtain⟨h1,h2,h3,h4⟩:=Vbo ha hb a.length;have d1:decide ((a.length:Int)<(a.length:Int))=false:=zXd (by omega);rw[Wx,VW hle]at h4;have hlt:=Gu h3;rw[h1]at hlt;have xB:(FL a b a.length).2=0:=(by rcases XC (FL a b a.length).2 with q | q;exact q;have:(FL a b a.length).2=1:=(by omega);rw[this,Wa]at h4;omega);rw[xB,Nat.mul_zero]at h4;rw[YF,Wm];obtain⟨o,ho⟩:∃o,o=(FL a b a.length).1:=⟨_,rfl⟩;rw[<-ho]at h1 h3 h4⊢;have jJ:AD (H++[Blk.buf 0 (flat cU o) BJ 1]) H.length 0=some (flat cU o):=(by simp[AD]);have eL:=Vj6 (ex:=false) jJ (by omega);have htk:=JO h3 o.length (VM _);rw[Wx,show val o=val a-val b by omega]at htk;have eF:=Vgp (f:=cU) (sz:=1) (d:=3) (cap:=o.length) (ex:=false) jJ (VM H.length) (OP o o.length);rw[htk]at eF;rw[h1]at eL eF;unfold Ubd;simp only[At,Ak,GMw,d1,eL,CD,CH,BC,BY,Hs,eF,zXb]
def MD (neg:Bool)(n:Nat)(tk:Tok)(H:Aa):Ufq (.bool neg) (.sl (enL cU (A8 n)) tk) H=some (.ret (big (if neg then -(n:Int)else n)),H):=by unfold Ufq big;rw[<-Vbx];have hp:=QP n;cases neg with|false=>simp[Az,Gy,D3,sgn,C0]|true=>simp only[J3,CN,zXa,Ax,FD,hp,sgn,zXn,alloc_eq (cs:=[.bool false,.sl [] .ti]) rfl,BD];simp[Az,Gy,D3,C0]
def Vfw (z:Int)(H:Aa):Ubp (big z) H=some (.ret (big (-z)),H):=by
 have e:(if (!decide (z<0))=true then -(z.natAbs:Int)else (z.natAbs:Int)) = -z:=by by_cases h:z<0;rw[zXc h,Wp,zYb (by decide)];omega;rw[zXd h,W8,zYc rfl];omega
 have ez:∀K,Ufq (.bool (!decide (z<0))) (.sl (enL cU (A8 z.natAbs)) .no) K=some (.ret (big (-z)),K):=λK=>by rw[MD,e]
 unfold Ubp;simp[F4,ez]
def Vkt {n:Int}(h0:-9223372036854775808<=n)(h:n<0):unA .neg (.int .u64 (IntKind.u64.wrap n))=some (.int .u64 (n.natAbs:Int)):=by
 have w:IntKind.u64.wrap (0-IntKind.u64.wrap n)=(n.natAbs:Int):=by rw[JN (n:=n) (by omega) h,JN (by omega) (by omega)];omega
 rw[show unA .neg (.int .u64 (IntKind.u64.wrap n))=some (.int .u64 (IntKind.u64.wrap (0-IntKind.u64.wrap n))) from rfl,w]
def Vnu {l:zAb}{tk:Tok}(H:Aa)(hx:Lim l)(hl:l.length<=1099511627776):Ucm (.sl (enL cU l) tk) H=some (.ret (.sl (enL cU (A8 (val l))) .no),H):=by
 have aG:=VgK l tk H hl;unfold Ucm;by_cases h0:l=[];subst h0;rw[zYc rfl,HI]at aG;rw[HI];simp only[GMw,aG,VgD,M8,show val []=0 from rfl,Ef,GI,zXb,HI]
 ·rw[zYb h0]at aG;have jJ:AD (H++[Blk.buf 0 (flat cU l) BJ 1]) H.length 0=some (flat cU l):=by simp[AD]
  have eL:=Vj6 (ex:=false) jJ (by omega);have htk:=JO hx l.length (VM _);rw[Wx]at htk;have eF:=Tq (f:=cU) (sz:=1) (d:=5) (cap:=l.length) (ex:=false) jJ (VM H.length) (OP l l.length);rw[htk]at eF;simp only[GMw,aG,eL,CD,eF]
  rfl
def Vpz (n:Int)(H:Aa)(h0:-9223372036854775808<=n)(h1:n<=9223372036854775807):Uaq (.i6 n) H=some (.ret (big n),H):=by
 obtain⟨u,hu⟩:∃u:Nat,u=n.natAbs:=⟨_,rfl⟩;have hlim:Lim [u%4294967296,u / 4294967296]:=λx hx=>by simp at hx;rcases hx with rfl | rfl<;>omega
 have cG:val [u%4294967296,u / 4294967296]=u:=by simp[val];omega
 have ez:(if decide (n<0)=true then -(u:Int)else (u:Int))=n:=by by_cases h:n<0<;>simp[h]<;>omega
 have vR:=λH=>Vnu (l:=[u%4294967296,u / 4294967296]) (tk:=.ti) H hlim (by simp);rw[cG]at vR;have a1:=λH=>MD (decide (n<0)) u .no H;rw[ez]at a1;have e3:A5 .u32 (.int .u64 (u:Int))=some (.int .u32 ((u%4294967296:Nat):Int)):=by rw[AV,PM]
 have e2:=NO u;have e4:A5 .u32 (.int .u64 ((u / 4294967296:Nat):Int))=some (.int .u32 ((u / 4294967296:Nat):Int)):=by rw[AV,CX (by omega) (by omega)]
 have j1:Uek H (.i6 n) (.ptr H.length 0 0) (.int .u64 (u:Int)) (H++[.c0 [.bool false,.sl [] .ti]])=some (.ret (big n),H):=by unfold Uek;simp only[Bz,zXa,e3,e2,e4,VcR,vR,a1,Ds];simp
 unfold Uaq;simp only[alloc_eq (cs:=[.bool false,.sl [] .ti]) rfl,BD,AV,zXa,AL,Bz,At,FE,Gb];by_cases h:n<0;have un:=Vkt h0 h;rw[<-hu]at un;rw[zXc h];simp only[Bb,un,zXa];exact j1
 ·have w:IntKind.u64.wrap n=(u:Int):=by rw[BT (by omega) (by omega)];omega
  rw[zXd h];simp only[AM,w];exact j1
def NC {m n:Nat}(h:m<=n):(A8 m).length<=(A8 n).length:=by refine Fr ?_;have:=Gu (Bw n);rw[B6]at this;omega
def Vcd {a b:Int}(H:Aa)(ha:LB a)(hb:LB b):Uft (big a) (big b) H=some (.ret (big (a+b)),H):=by
 have sg:∀(neg:Bool)(m:Nat)(z:Int)(tk:Tok)(K:Aa),(if neg then -(m:Int)else (m:Int))=z->Ufq (.bool neg) (.sl (enL cU (A8 m)) tk) K=some (.ret (big z),K):=λneg m z tk K h=>by rw[MD,h]
 unfold LB at ha hb;have aU:=λK=>Vnz (ta:=.no) (tb:=.no) K (Bw a.natAbs) (Bw b.natAbs) (by omega) (by omega);have eA:=λK=>P9 (t:=.no) (t':=.no) K (Bw a.natAbs) (Bw b.natAbs) (by omega) (by omega);simp only[B6]at aU eA;unfold Uft;by_cases hn:decide (a<0)=decide (b<0)
 ·have ez:(if decide (a<0)=true then -((a.natAbs+b.natAbs:Nat):Int)else ((a.natAbs+b.natAbs:Nat):Int))=a+b:=by by_cases h1:a<0;have h2:b<0:=(by rw[zXc h1]at hn;exact of_decide_eq_true hn.symm);rw[zXc h1,zYc rfl];omega;have h2:¬b<0:=(by rw[zXd h1]at hn;exact of_decide_eq_false hn.symm);rw[zXd h1,zYb (by decide)];omega
  have hbb:(decide (a<0)==decide (b<0))=true:=by rw[hn];exact zYj _
  simp only[F4,BD,VP,List.singleton_append];simp[Jh,hbb,aU,sg _ _ _ _ _ ez]
 ·have hbb:(decide (a<0)==decide (b<0))=false:=by rw[beq_eq_false_iff_ne];exact hn
  by_cases hv:a.natAbs<b.natAbs
  ·have gB:=λK=>Vnr (ta:=.no) (tb:=.no) K (Bw b.natAbs) (Bw a.natAbs) (by omega) (NC (by omega)) (by rw[B6,B6];omega);simp only[B6]at gB;have hlt:decide (FM (a.natAbs:Int) (b.natAbs:Int)<0)=true:=(by rw[HJ];exact zXc (by omega));have ez:(if decide (b<0)=true then -((b.natAbs-a.natAbs:Nat):Int)else ((b.natAbs-a.natAbs:Nat):Int))=a+b:=(by by_cases h1:b<0;have h2:¬a<0:=λh=>hn (by rw[zXc h1,zXc h]);rw[zXc h1,zYc rfl];omega;have h2:a<0:=(by rcases Int.lt_or_le a 0 with h | h;exact h;exact(hn (by rw[zXd h1,zXd (by omega)])).elim);rw[zXd h1,zYb (by decide)];omega);have c0:=Bb;simp only[F4,BD,VP,List.singleton_append];unfold Uen;simp[Jh,hbb,eA,hlt,gB,sg _ _ _ _ _ ez,AL,Ba,Bd]
  ·have gB:=λK=>Vnr (ta:=.no) (tb:=.no) K (Bw a.natAbs) (Bw b.natAbs) (by omega) (NC (by omega)) (by rw[B6,B6];omega);simp only[B6]at gB;have hlt:decide (FM (a.natAbs:Int) (b.natAbs:Int)<0)=false:=(by rw[HJ];exact zXd (by omega));have ez:(if decide (a<0)=true then -((a.natAbs-b.natAbs:Nat):Int)else ((a.natAbs-b.natAbs:Nat):Int))=a+b:=(by by_cases h1:a<0;have h2:¬b<0:=λh=>hn (by rw[zXc h1,zXc h]);rw[zXc h1,zYc rfl];omega;have h2:b<0:=(by rcases Int.lt_or_le b 0 with h | h;exact h;exact(hn (by rw[zXd h1,zXd (by omega)])).elim);rw[zXd h1,zYb (by decide)];omega);simp only[F4,BD,VP,List.singleton_append];unfold Uen;simp[Jh,hbb,eA,hlt,gB,sg _ _ _ _ _ ez,AL,Ba,Bd]
def Vnq {a b:Int}(H:Aa)(ha:LB a)(hb:LB b):Uc6 (big a) (big b) H=some (.ret (big (a-b)),H):=by unfold Uc6;simp only[F4,BD,VP,List.singleton_append];simp[Vfw,Vcd _ ha hb.neg,Int.sub_eq_add_neg]
def VjC {x y:Nat}(hx:x<4294967296)(hy:y<4294967296):Af .n .or (.int .u32 (x:Int)) (.int .u32 (y:Int))=some (.int .u32 ((x ||| y:Nat):Int)):=by have h:=(Ky (BitVec.ofNat 32 x) (BitVec.ofNat 32 y)).2.1;rw[BitVec.toNat_or,Xp,Xp,WJ hx,WJ hy]at h;rw[Nr .or rfl _ _ (λ_ _ _=>rfl)];exact h
def Ve2 {K:IntKind}{r:Nat}(h:r<32)(hw:K.wrap ((2^r:Nat):Int)=((2^r:Nat):Int))(hb:32<=K.bits):Af .n .shl (.int K 1) (.i6 (r:Int))=some (.int K ((2^r:Nat):Int)):=by
 show HQ .shl K 1 (r:Int)=_;unfold HQ;rw[zYb (by omega)];have e:(2:Int)^r=((2^r:Nat):Int):=by simp
 simp only[zXl,WK (show r<=K.bits by omega),Int.one_mul,e,hw]
def OZ {r:Nat}(h:r<32):2^r<4294967296:=by have:(2:Nat)^r<2^32:=Yx (by decide) h;simpa using this
def VdZ (k:Nat)(l:zAb):val (List.replicate k 0++l)=4294967296^k*val l:=by
 rw[C5,XQ];have:val (List.replicate k 0)=0:=by
  induction k with
  |zero=>rfl
  |succ k ih=>rw[zXm];show 0+4294967296*val (List.replicate k 0)=0;rw[ih]
 rw[this,VK]
theorem VmJ {n:Nat}(h:n<4294967296):K_.wrap (n:Int)=(n:Int)/\IntKind.u64.wrap (n:Int)=(n:Int):=
 ⟨CX (by omega) (by omega),BT (by omega) (by omega)⟩
def KF (m:Nat):zAb:=List.replicate (m / 32) 0++[2^(m%32),0]
def MC (m:Nat):(KF m).length=m / 32+2:=by simp[KF]
def Vii (m:Nat):Lim (KF m):=by
 intro x hx;rcases Wk.1 hx with h | h;rw[(Yc.1 h).2];decide
 rcases WF.1 h with rfl | h;exact OZ (Xw _ (by decide));rw[Wj.1 h];decide
def Vih (m:Nat):val (KF m)=2^m:=by
 unfold KF;rw[VdZ];have:val [2^(m%32),0]=2^(m%32):=by simp[val]
 rw[this,show(4294967296:Nat)=2^32 from by decide,<-Yh,<-Nat.pow_add,X3]
theorem UF (v:Nat):∀k,(List.replicate (k+2) 0).set k v=List.replicate k 0++[v,0]
 |0=>rfl
 |k+1=>by rw[zXm,List.set_cons_succ,UF v k,zXm,List.cons_append]
def Vfn (m:Nat):(List.replicate (m / 32+2) 0).set (m / 32) (2^(m%32))=KF m:=by exact UF _ _
def Vfm (m:Nat):(KF m).set (m / 32+1) 0=KF m:=by unfold KF;rw[Wy _ _ (by simp)];simp
def Vnt {m:Nat}(hm:m<=10000)(H:Aa):UcB (.sl (enL cU [1]) .ti) (.i6 (m:Int)) H=some (.ret (.sl (enL cU (A8 (2^m))) .no),H):=by
 have f1:decide ((m:Int)>=0)=true:=zXc (by omega);have f2:decide ((m:Int)<=10000)=true:=zXc (by omega);have hr:m%32<32:=Xw _ (by decide);have hq:Af .n .quo (.i6 (m:Int)) (.i6 32)=some (.i6 ((m / 32:Nat):Int)):=by show some (Ab.i6 (I_.wrap (((m / 32:Nat):Int))))=_;rw[Am (by omega) (by omega)]
 have uZ:Af .n .rem (.i6 (m:Int)) (.i6 32)=some (.i6 ((m%32:Nat):Int)):=rfl;have w1:I_.wrap (((1:Nat):Int)+((m / 32:Nat):Int))=((m / 32+1:Nat):Int):=by rw[Am]<;>omega
 have w2:I_.wrap (((m / 32+1:Nat):Int)+1)=((m / 32+2:Nat):Int):=by rw[Am]<;>omega
 have w3:I_.wrap (((0:Nat):Int)+((m / 32:Nat):Int))=((m / 32:Nat):Int):=by rw[Am]<;>omega
 have w4:I_.wrap (((m / 32:Nat):Int)+1)=((m / 32+1:Nat):Int):=by rw[Am]<;>omega
 have w5:I_.wrap (((0:Nat):Int)+1)=((1:Nat):Int):=rfl;have dE:=F9 (f:=cU) (a:=0) (n:=m / 32+2) (bytes:=4) (H:=H) (by omega) (by omega);simp only[show cU 0=[Ab.int .u32 0] from rfl]at dE;have yM:(enL cU [1]).length=1:=rfl;have bV:∀K,Uc9 (.i6 (m:Int)) K=some (.ret (.bool true),K):=λK=>by unfold Uc9;simp only[GMw,f1,f2]
 have d0:decide (((0:Nat):Int)<((1:Nat):Int))=true:=rfl;have d1:decide (((1:Nat):Int)<((1:Nat):Int))=false:=rfl;have ix0:Aw 1 (.sl (enL cU [1]) .ti) (.i6 ((0:Nat):Int))=some (.cptr [.int .u32 1] 0):=rfl;have ld0:∀K,Ad false 1 (.cptr [.int .u32 1] 0) K=some (.int .u32 1):=λ_=>rfl;have lsl:A9 (.sl (enL cU [1]) .ti)=some (.i6 ((1:Nat):Int)):=rfl;have hlt:=OZ hr;have s1:=Ve2 (K:=.u32) hr (VmJ hlt).1 (by decide);have s2:=Ve2 (K:=.u64) hr (VmJ hlt).2 (by decide);have c1:A5 .u64 (.int .u32 1)=some (.int .u64 1):=rfl;have sh:Af .n .shr (.int .u64 ((2^(m%32):Nat):Int)) (.int .u64 32)=some (.int .u64 0):=by rw[NO,Xj (OZ hr)];rfl
 have c2:A5 .u32 (.int .u64 0)=some (.int .u32 0):=rfl;have o1:=VjC (x:=0) (y:=2^(m%32)) (by decide) (OZ hr);rw[Nat.zero_or]at o1;have o2:Af .n .or (.int .u32 ((0:Nat):Int)) (.int .u32 0)=some (.int .u32 ((0:Nat):Int)):=VjC (x:=0) (y:=0) (by decide) (by decide);have hidx:=CZ (sz:=1) (id:=H.length) (n:=m / 32+2) (K:=.i64) (g:=0) (off:=0) (cap:=m / 32+2) (ex:=true) (i:=m / 32) (by omega);have nG:=CZ (sz:=1) (id:=H.length) (n:=m / 32+2) (K:=.i64) (g:=0) (off:=0) (cap:=m / 32+2) (ex:=true) (i:=m / 32+1) (by omega);simp only[VK,Wa]at hidx nG;have g1:AD (H++[Blk.c0 (flat cU (List.replicate (m / 32+2) 0))]) H.length 0=some (flat cU (List.replicate (m / 32+2) 0)):=A0 Ap;have g2:AD (H++[Blk.c0 (flat cU (KF m))]) H.length 0=some (flat cU (KF m)):=A0 Ap;have ld1:Ad false 1 (.ptr H.length 0 (m / 32)) (H++[Blk.c0 (flat cU (List.replicate (m / 32+2) 0))])=some (.int .u32 ((0:Nat):Int)):=by rw[I3 g1 (by simp),List.getElem_replicate];rfl
 have ld2:Ad false 1 (.ptr H.length 0 (m / 32+1)) (H++[Blk.c0 (flat cU (KF m))])=some (.int .u32 ((0:Nat):Int)):=by
  have hi:m / 32+1<(KF m).length:=by rw[MC];omega
  have:(KF m)[m / 32+1]=0:=by simp[KF,WN]
  rw[I3 g2 hi,this];rfl
 have st1:=Eb (f:=cU) (sz:=1) (i:=m / 32) (a:=2^(m%32)) (v:=.int .u32 ((2^(m%32):Nat):Int)) g1 (by simp) rfl;rw[Wa,BE Ap,Bg,Vfn]at st1;have st2:=Eb (f:=cU) (sz:=1) (i:=m / 32+1) (a:=0) (v:=.int .u32 ((0:Nat):Int)) g2 (by rw[MC];omega) rfl;rw[Wa,BE Ap,Bg,Vfm]at st2;have ht:=VcY (H:=H) (o:=KF m) (by rw[MC];omega) (Vii m) (Vih m);have eL:=VhQ (l:=KF m) (H:=H++[Blk.c0 (flat cU (KF m))]) (id:=H.length) Ap (by rw[MC];omega);rw[MC]at ht eL;rw[eL]at ht;simp only[zXa]at ht;unfold UcB;simp only[bV,GMw,lsl,hq,w1,w2,dE];refine Ct (G:=λrec1 vs H1=>UcA H rec1 (ag vs 0) (ag vs 1) (ag vs 2) (ag vs 3) (ag vs 4) H1) 1
  (λi=>[.i6 (m:Int),.ms H.length 0 0 (m / 32+2) (m / 32+2) 1 true,.sl (enL cU [1]) .ti,.i6 ((1:Nat):Int),.i6 (i:Int)])
  (λi=>H++[.c0 (flat cU (if i=0 then List.replicate (m / 32+2) 0 else KF m))]) _ (by decide) (λrec i hi=>?_) (λrec=>?_)
 ·have jS:i=0:=by omega
  subst jS;unfold UcA;simp only[zYd,zYb (show ¬(0+1=0)by decide),At,Ak,GMw,d0,ix0,ld0,hq,w3,hidx,ld1,uZ,s1,o1,st1,w4,nG,ld2,c1,s2,sh,c2,o2,st2,w5]
 unfold UcA;simp only[zYb (show ¬(1=0)by decide),At,Ak,GMw,d1,eL];exact ht
set_option maxRecDepth 8000
def VaR (l:zAb)(tk:Tok)(H:Aa)(hl:l.length<=1099511627776):Ufs (.sl (enL cU l) tk) H=some (.ret (.bool (Gj l)),H):=by
 unfold Ufs;rcases Hm l with rfl | ⟨l',x,rfl⟩;simp[Gj]
 ·simp only[VR,zXi]at hl;have h1:l'.length<(l'++[x]).length:=by simp
  have h3:I_.wrap ((((l'++[x]).length:Nat):Int)-1)=(l'.length:Int):=by rw[Am]<;>simp<;>omega
  have hne:((((l'++[x]).length:Nat):Int)==0)=false:=by simp;omega
  have hb:((x:Int) != 0)=(x != 0):=by rw[VZ];simp
  simp only[Ax,zXa,Fc,hne,QS,EF,h3,A4 h1,AA,zXh,WN (VM _),Wu,List.getElem_cons_zero,NQ,CI,UX,hb];simp[Gj]
def SG (neg:Bool)(l:zAb)(tk:Tok)(H:Aa)(hl:l.length<=549755813888):Ubh (.agg [.bool neg,.sl (enL cU l) tk]) H=some (.ret (.bool (HD neg l)),H):=by
 unfold Ubh HD;have hq:=λH=>VaR l tk H (by omega);cases hr:Gj l with
 |false=>simp[BF,hq,hr]
 |true=>cases neg with|false=>simp[BF,hq,hr]|true=>cases l<;>simp[BF,hq,hr]<;>omega
def Vpx {m:Nat}(hm:m<=10000)(H:Aa):UcC (.i6 (m:Int)) H=some (.ret (big (2^m)),H):=by
 have hs:∀K,Ufq (.bool false) (.sl (enL cU (A8 (2^m))) .no) K=some (.ret (big (2^m)),K):=λK=>by
  rw[MD];have:(if false=true then -((2^m:Nat):Int)else ((2^m:Nat):Int))=2^m:=by simp
  rw[this]
 have hb:AK 1 [.int .u32 1]=some (.sl (enL cU [1]) .ti):=rfl;have h1:=λK=>Vnt hm K;unfold UcC;simp only[alloc_eq (cs:=[.bool false,.sl [] .ti]) rfl,GMw,hb,h1,hs];simp
def blN (n:Nat):Nat:=if n=0 then 0 else n.log2+1
def J6 {n k:Nat}:blN n<=k↔n<2^k:=by unfold blN;by_cases h:n=0;have:0<2^k:=XE (by decide);rw[zYc h];omega;rw[zYb h,<-Nat.log2_lt h];omega
def Vbw {n j:Nat}(h:2^j<=n):blN n=blN (n / 2^j)+j:=by have hp:0<2^j:=XE (by decide);refine Nat.le_antisymm (J6.2 ?_) ?_;have:=J6.1 (VM (blN (n / 2^j)));rw[Nat.pow_add];exact(Xg hp).1 this;have h1:=J6.1 (VM (blN n));have h2:j<blN n:=(Nat.pow_lt_pow_iff_right (by decide:1<2)).1 (WE h h1);have h3:blN (n / 2^j)<=blN n-j:=J6.2 ((Xg hp).2 (by rw[<-Nat.pow_add,Nat.sub_add_cancel (by omega)];exact h1));omega
def Vl0:∀x,x<256->(([0,1,2,2,3,3,3,3,4,4,4,4,4,4,4,4,5,5,5,5,5,5,5,5,5,5,5,5,5,5,5,5,6,6,6,6,6,6,6,6,6,6,6,6,6,6,6,6,6,6,6,6,6,6,6,6,6,6,6,6,6,6,6,6,7,7,7,7,7,7,7,7,7,7,7,7,7,7,7,7,7,7,7,7,7,7,7,7,7,7,7,7,7,7,7,7,7,7,7,7,7,7,7,7,7,7,7,7,7,7,7,7,7,7,7,7,7,7,7,7,7,7,7,7,7,7,7,7,8,8,8,8,8,8,8,8,8,8,8,8,8,8,8,8,8,8,8,8,8,8,8,8,8,8,8,8,8,8,8,8,8,8,8,8,8,8,8,8,8,8,8,8,8,8,8,8,8,8,8,8,8,8,8,8,8,8,8,8,8,8,8,8,8,8,8,8,8,8,8,8,8,8,8,8,8,8,8,8,8,8,8,8,8,8,8,8,8,8,8,8,8,8,8,8,8,8,8,8,8,8,8,8,8,8,8,8,8,8,8,8,8,8,8,8,8,8,8,8,8,8,8,8,8,8,8,8]:zAa)[x]?).map UInt8.toNat=some (blN x):=by decide +kernel
def Vl1 {x:Nat}(h:x<256):Bc (.str [0,1,2,2,3,3,3,3,4,4,4,4,4,4,4,4,5,5,5,5,5,5,5,5,5,5,5,5,5,5,5,5,6,6,6,6,6,6,6,6,6,6,6,6,6,6,6,6,6,6,6,6,6,6,6,6,6,6,6,6,6,6,6,6,7,7,7,7,7,7,7,7,7,7,7,7,7,7,7,7,7,7,7,7,7,7,7,7,7,7,7,7,7,7,7,7,7,7,7,7,7,7,7,7,7,7,7,7,7,7,7,7,7,7,7,7,7,7,7,7,7,7,7,7,7,7,7,7,8,8,8,8,8,8,8,8,8,8,8,8,8,8,8,8,8,8,8,8,8,8,8,8,8,8,8,8,8,8,8,8,8,8,8,8,8,8,8,8,8,8,8,8,8,8,8,8,8,8,8,8,8,8,8,8,8,8,8,8,8,8,8,8,8,8,8,8,8,8,8,8,8,8,8,8,8,8,8,8,8,8,8,8,8,8,8,8,8,8,8,8,8,8,8,8,8,8,8,8,8,8,8,8,8,8,8,8,8,8,8,8,8,8,8,8,8,8,8,8,8,8,8,8,8,8,8,8]) (.int .u8 (x:Int))=some (.int .u8 (blN x:Int)):=by have:=Vl0 x h;obtain⟨b,h1,h2⟩:=Option.map_eq_some_iff.1 this;unfold Bc;simp only[];rw[zYc (Y3 x),zXl,h1,zXb,h2]
def VjK {x n:Nat}(hx:x<256)(hn:n<=24)(H:Aa):Uew H (.int .u32 (x:Int)) (.i6 (n:Int)) H=some (.ret (.i6 ((n+blN x:Nat):Int)),H):=by
 have hb:blN x<=8:=J6.2 hx;have c1:A5 .u8 (.int .u32 (x:Int))=some (.int .u8 (x:Int)):=by rw[AV,DW (by omega) (by omega)]
 have c2:A5 .i64 (.int .u8 (blN x:Int))=some (.i6 (blN x:Int)):=by rw[AV,Am (by omega) (by omega)]
 have w:I_.wrap ((n:Int)+(blN x:Int))=((n+blN x:Nat):Int):=by rw[Am]<;>omega
 unfold Uew;simp only[c1,zXa];rw[Vl1 hx];simp only[c2,GMw,w]
def VaD (x k:Nat)(hk:k<=32):Af .n .shr (.int .u32 (x:Int)) (.int .u64 (k:Int))=some (.int .u32 ((x / 2^k:Nat):Int)):=by
 show HQ .shr .u32 (x:Int) (k:Int)=_;unfold HQ;rw[zYb (by omega)];simp only[zXl];rw[show min k K_.bits=k from WK hk,X8 _ (Int.le_of_lt (XG (by decide)))];have:((2:Int)^k)=((2^k:Nat):Int):=by simp
 rw[this]
 rfl
def VjL {x n:Nat}(hx:x<65536)(hn:n<=16)(H:Aa):Uex H (.int .u32 (x:Int)) (.i6 (n:Int)) H=some (.ret (.i6 ((n+blN x:Nat):Int)),H):=by
 unfold Uex;by_cases h:256<=x
 ·have d:decide ((x:Int)>=256)=true:=zXc (by omega);have s:=VaD x 8 (by decide);have w:I_.wrap ((n:Int)+8)=((n+8:Nat):Int):=by rw[Am]<;>omega
  have e:=Vbw (n:=x) (j:=8) h;simp only[show((8:Nat):Int)=8 from rfl]at s;simp only[AL,GMw,d,s,w];rw[VjK (by omega) (by omega),e,show n+8+blN (x / 2^8)=n+(blN (x / 2^8)+8)by omega]
 have d:decide ((x:Int)>=256)=false:=zXd (by omega);simp only[AL,GMw,d];exact VjK (by omega) (by omega) H
def Vld {x:Nat}(hx:x<4294967296)(H:Aa):Uc7 (.int .u32 (x:Int)) H=some (.ret (.i6 (blN x:Int)),H):=by unfold Uc7;by_cases h:65536<=x;have d:decide ((x:Int)>=65536)=true:=zXc (by omega);have s:=VaD x 16 (by decide);have e:=Vbw (n:=x) (j:=16) h;simp only[show((16:Nat):Int)=16 from rfl]at s;have:=VjL (x:=x / 2^16) (n:=16) (by omega) (by omega) H;simp only[show((16:Nat):Int)=16 from rfl]at this;simp only[AL,GMw,d,s];rw[this,e,Yq];have d:decide ((x:Int)>=65536)=false:=zXd (by omega);have:=VjL (x:=x) (n:=0) (by omega) (by omega) H;simp only[Int.natCast_zero,VK]at this;simp only[AL,GMw,d];exact this
def Dm {H:Aa}{p o:Nat}{cs:List Ab}{v:Ab}(h:H[p]? = some (.c0 cs))(hv:v.isScal=true)(ho:o<cs.length):Ae 1 (.ptr p 0 o) v H=some (H.set p (.c0 (cs.set o v))):=by
 have hc:v.acells=some [v]:=by cases v<;>first | rfl | (simp[Ab.isScal]at hv)
 simp only[Ae,A0 h,BI,hc,zXi];rw[zYc ⟨trivial,by omega⟩,BE h,show D3 cs o 1 [v]=cs.set o v from by rw[XI,zYc ho];simp[D3]]
def Dz {H:Aa}{p sz:Nat}{cs ws:List Ab}(h:H[p]? = some (.c0 cs))(hl:cs.length=sz)(gO:ws.length=sz)(hs:ws.all Ab.isScal=true):Ae sz (.ptr p 0 0) (.agg ws) H=some (H.set p (.c0 ws)):=by simp only[Ae,A0 h,BI,C0 hs,hl,gO,VK,VM,zYi,zYd,DJ hl,BE h]
def CV {H:Aa}{p sz:Nat}{cs:List Ab}(h:H[p]? = some (.c0 cs))(hl:cs.length=sz):Ad true sz (.ptr p 0 0) H=some (.agg cs):=by simp only[Ad,A0 h,BI,zYd,Xa,hl,VK,VM];rw[VW (XL hl)]
def Bt {H:Aa}{p o sz:Nat}{cs:List Ab}(h:H[p]? = some (.c0 cs)):Ad false sz (.ptr p 0 o) H=cs[o]? := by simp only[Ad,A0 h,BI];rfl
def Ud:Ab->Bool
 |.agg cs=>cs.all Ka
 |v=>Ka v
def Vim {v:Ab}{H:Aa}{n d:Nat}(h:Ud v=true):frz H n (d+3) v=some v:=by cases v with|agg cs=>have h':cs.all Ka=true:=h;simp only[frz,Hp h',zXb]|_=>exact Vcc (d:=d+2) h
theorem Vf {H:Aa}{n d:Nat}:∀ {cs:List Ab},cs.all Ud=true->Ei H n (d+4) cs=some cs
 |[],_=>by simp[Ei]
 |c::cs,h=>by simp only[List.all_cons,VV]at h;simp[Ei,Vim h.1,Vf h.2]
def VkD {H G:Aa}{cs:List Ab}(h:cs.all Ka=true):rP H (.agg cs) (H++G)=some (.ret (.agg cs),H):=by rw[UW _ (by simp)];simp only[frz,Hp h,zXb]
def VkC {H G:Aa}{cs:List Ab}(h:cs.all Ud=true):rP H (.tup cs) (H++G)=some (.ret (.tup cs),H):=by rw[UW _ (by simp)];simp only[frz,Vf h,zXb]
def PO {g o:Nat}{v:Ab}{cs:List Ab}{G:Aa}(hv:v.isScal=true)(h:o<cs.length):Ae 1 (.ptr 0 g o) v (.cel g cs::G)=some (.cel g (cs.set o v)::G):=by
 have hc:v.acells=some [v]:=by cases v<;>first | rfl | (simp[Ab.isScal]at hv)
 rw[Sg,hc];simp only[BI,zXi];rw[zYc ⟨trivial,by omega⟩,XI,zYc h];simp[D3]
theorem Veo {sz g:Nat}{cs ws:List Ab}{G:Aa}(h:cs.length=sz)(h2:ws.length=sz)(h3:ws.all Ab.isScal=true):Ae sz (.ptr 0 g 0) (.agg ws) (.cel g cs::G)=some (.cel g ws::G):=N0 (C0 h3) h h2
theorem Vf4 {id g o:Nat}:Ah (.ptr id g o)=some (.ptr id g o):=(rfl)
theorem Vmm (a b c:Aa):a++b++c=a++(b++c):=VP a b c
theorem Vl2 (a b:Aa):(a++b).length=a.length+b.length:=VR
theorem VnN (x:Ab)(b:List Ab):(x::b)[0]? = some x:=(rfl)
theorem VnO (x:Ab)(b:List Ab)(i:Nat):(x::b)[i+1]? = b[i]? := (rfl)
def J0 (x:Nd):List Ab:=[.i6 x.k0,.i6 x.k1,.i6 x.k2,.i6 x.k3]
theorem VfN (x:Nd)(H:Aa):Ad true 4 (.cptr (cNd x) 1) H=some (.agg (J0 x)):=(rfl)
def VcX (x:Nd){k:Nat}(hk:k<4)(K:IntKind):JF false 4 1 (.agg (J0 x)) (.int K (k:Int))=some (.i6 (x.kid k)):=by
 match k,hk with
 |0,_=>rfl
 |1,_=>rfl
 |2,_=>rfl
 |3,_=>rfl
def Pn (g:Nat)(x:Nd)(G:Aa):Ad true 4 (.ptr 0 g 1) (.cel g (cNd x)::G)=some (.agg (J0 x)):=by
 rw[show Ad true 4 (.ptr 0 g 1) (.cel g (cNd x)::G)=if 1+4<=(cNd x).length then some (.agg (((cNd x).drop 1).take 4))else none from by simp only[Ad,Kf];rfl]
 rfl
theorem Kv (x:Nd):(cNd x).length=5:=(rfl)
theorem HPa:(((∀(H G:Aa)(a:Bool)(sz k g o:Nat),Ad a sz (.ptr (H.length+k) g o) (H++G)=Ad a sz (.ptr k g o) G) /\
  (∀(H G:Aa)(a:Bool)(sz g o:Nat),Ad a sz (.ptr H.length g o) (H++G)=Ad a sz (.ptr 0 g o) G)) /\
  ((∀(b:Blk)(G:Aa)(a:Bool)(sz k g o:Nat),Ad a sz (.ptr (k+1) g o) (b::G)=Ad a sz (.ptr k g o) G) /\
  (∀(cs:List Ab)(G:Aa)(sz g o:Nat),Ad false sz (.ptr 0 g o) (.cel g cs::G)=cs[o]?) /\
  (∀(cs:List Ab)(G:Aa)(sz g:Nat),cs.length=sz->Ad true sz (.ptr 0 g 0) (.cel g cs::G)=some (.agg cs)))) /\
 (((∀(H G:Aa)(v:Ab)(sz k g o:Nat),Ae sz (.ptr (H.length+k) g o) v (H++G)=(Ae sz (.ptr k g o) v G).map (H++·)) /\
  (∀(H G:Aa)(v:Ab)(sz g o:Nat),Ae sz (.ptr H.length g o) v (H++G)=(Ae sz (.ptr 0 g o) v G).map (H++·))) /\
  ((∀(b:Blk)(G:Aa)(v:Ab)(sz k g o:Nat),Ae sz (.ptr (k+1) g o) v (b::G)=(Ae sz (.ptr k g o) v G).map (b::·)) /\
  (∀(cs:List Ab)(G:Aa)(v:Ab)(g o:Nat),v.isScal=true->o<cs.length->Ae 1 (.ptr 0 g o) v (.cel g cs::G)=some (.cel g (cs.set o v)::G)) /\
  (∀(cs ws:List Ab)(G:Aa)(sz g:Nat),cs.length=sz->ws.length=sz->ws.all Ab.isScal=true->Ae sz (.ptr 0 g 0) (.agg ws) (.cel g cs::G)=some (.cel g ws::G)))) /\
 ((∀(cs:List Ab)(H:Aa),cs.all Ab.isScal=true->Av (some cs) H=some (.ptr H.length 0 0,H++[.c0 cs])) /\
  (∀(cs:List Ab)(H:Aa)(sz:Nat),cs.all Ab.isScal=true->cs.length=sz->Bj true sz (.agg cs) H=some (.ptr H.length 0 0,H++[.c0 cs]))):=
 ⟨⟨⟨λ_ _ _ _ _ _ _=>Vi5,λ_ _ _ _ _ _=>EP⟩,λ_ _ _ _ _ _ _=>VfF,λ_ _ _ _ _=>Hr,λ_ _ _ _ h=>SR h⟩,
  ⟨⟨λ_ _ _ _ _ _ _=>U8,λ_ _ _ _ _ _=>IL⟩,λ_ _ _ _ _ _ _=>Vdh,λ_ _ _ _ _ h1 h2=>PO h1 h2,λ_ _ _ _ _ h1 h2 h3=>Veo h1 h2 h3⟩,
  λ_ _ h=>alloc_eq h,λ_ _ _ h1 h2=>BF h1 h2⟩
theorem HPc:(((∀(K:IntKind)(n:Int),(Ab.int K n).isScal=true)/\(∀t:Bool,(Ab.bool t).isScal=true)/\(∀s:zAa,(Ab.str s).isScal=true)) /\
  ((∀(es:List (List Ab)) (tk:Tok),(Ab.sl es tk).isScal=true)/\(∀(id g off len cap sz:Nat)(ex:Bool),(Ab.ms id g off len cap sz ex).isScal=true)/\(∀id g off:Nat,(Ab.ptr id g off).isScal=true)) /\
  (∀id:Nat,(Ab.mp id).isScal=true)/\(∀(f:FuncId)(c:List Ab),(Ab.fn f c).isScal=true)/\(Ab.nilp.isScal=true)/\(Ab.nilmap.isScal=true)/\Ab.nilfn.isScal=true) /\
 (((∀(K:IntKind)(n:Int),Ka (Ab.int K n)=true)/\(∀t:Bool,Ka (Ab.bool t)=true)/\(∀s:zAa,Ka (Ab.str s)=true)) /\
  ((∀(es:List (List Ab)),Ka (Ab.sl es .no)=true)/\(∀(es:List (List Ab)),Ka (Ab.sl es .ti)=true)) /\
  ((∀(K:IntKind)(n:Int),Ud (Ab.int K n)=true)/\(∀t:Bool,Ud (Ab.bool t)=true)/\(∀s:zAa,Ud (Ab.str s)=true)) /\
  ((∀(es:List (List Ab)),Ud (Ab.sl es .no)=true)/\(∀(es:List (List Ab)),Ud (Ab.sl es .ti)=true))/\(∀cs:List Ab,Ud (.agg cs)=cs.all Ka)) /\
 ((∀(H G:Aa)(cs:List Ab),cs.all Ka=true->rP H (.agg cs) (H++G)=some (.ret (.agg cs),H)) /\
  (∀(H G:Aa)(cs:List Ab),cs.all Ud=true->rP H (.tup cs) (H++G)=some (.ret (.tup cs),H)) /\
  (∀(H G:Aa)(t:Bool),rP H (.bool t) (H++G)=some (.ret (.bool t),H)) /\
  (∀(H G:Aa)(K:IntKind)(n:Int),rP H (.int K n) (H++G)=some (.ret (.int K n),H)) /\
  (∀(H G:Aa)(s:zAa),rP H (.str s) (H++G)=some (.ret (.str s),H))):=
 ⟨⟨⟨λ_ _=>rfl,λ_=>rfl,λ_=>rfl⟩,⟨λ_ _=>rfl,λ_ _ _ _ _ _ _=>rfl,λ_ _ _=>rfl⟩,λ_=>rfl,λ_ _=>rfl,rfl,rfl,rfl⟩,
  ⟨⟨λ_ _=>rfl,λ_=>rfl,λ_=>rfl⟩,⟨λ_=>rfl,λ_=>rfl⟩,⟨λ_ _=>rfl,λ_=>rfl,λ_=>rfl⟩,⟨λ_=>rfl,λ_=>rfl⟩,λ_=>rfl⟩,
  λ_ _ _ h=>VkD h,λ_ _ _ h=>VkC h,λ_ _ _=>Ey,λ_ _ _ _=>Ih,λ_ _ _=>VeL⟩
theorem HPd:((∀(H G:Aa)(v:Ab),rPN H v (H++G)=(Hv (H++G) H.length 8 v).map λv=>(.ret v,H)) /\
  (∀(H:Aa)(n d:Nat)(vs:List Ab),Hv H n (d+1) (.tup vs)=(IZ H n d vs).map .tup) /\
  (∀(H:Aa)(n d:Nat)(cs:List Ab),Hv H n (d+1) (.agg cs)=(Gq H n d cs).map .agg) /\
  (∀(H:Aa)(n d:Nat)(es:List (List Ab)) (tk:Tok),Hv H n (d+1) (.sl es tk)=some (.sl es .no))) /\
 ((∀(H:Aa)(n d:Nat),IZ H n (d+1) []=some []) /\
  (∀(H:Aa)(n d:Nat)(v:Ab)(vs:List Ab),IZ H n (d+1) (v::vs)=(Ft H n d v).bind λv'=>(IZ H n (d+1) vs).map (v'::·)) /\
  (∀(H:Aa)(n d:Nat),Gq H n (d+1) []=some []) /\
  (∀(H:Aa)(n d:Nat)(v:Ab)(vs:List Ab),Gq H n (d+1) (v::vs)=(Jc H n d v).bind λv'=>(Gq H n (d+1) vs).map (v'::·))) /\
 ((∀(H:Aa)(n d:Nat)(cs:List Ab),Ft H n (d+1) (.agg cs)=(Gq H n d cs).map .agg) /\
  (∀(H:Aa)(n d:Nat)(K:IntKind)(i:Int),Ft H n (d+1) (.int K i)=some (.int K i)) /\
  (∀(H:Aa)(n d:Nat)(t:Bool),Ft H n (d+1) (.bool t)=some (.bool t)) /\
  (∀(H:Aa)(n d:Nat)(s:zAa),Ft H n (d+1) (.str s)=some (.str s)) /\
  (∀(H:Aa)(n d:Nat)(es:List (List Ab)) (tk:Tok),Ft H n (d+1) (.sl es tk)=some (.sl es .no))) /\
 ((∀(H:Aa)(n d:Nat)(K:IntKind)(i:Int),Jc H n (d+1) (.int K i)=some (.int K i)) /\
  (∀(H:Aa)(n d:Nat)(t:Bool),Jc H n (d+1) (.bool t)=some (.bool t)) /\
  (∀(H:Aa)(n d:Nat)(s:zAa),Jc H n (d+1) (.str s)=some (.str s)) /\
  (∀(H:Aa)(n d:Nat)(es:List (List Ab)) (tk:Tok),Jc H n (d+1) (.sl es tk)=some (.sl es .no))) /\
 ((∀xs:List (Option Ab),BV xs=(TZ xs).map .tup)/\(TZ []=some [])/\(∀(x:Option Ab)(xs:List (Option Ab)),TZ (x::xs)=x.bind λv=>(TZ xs).map (v::·))) /\
 ((∀(v:Ab)(vs:List Ab),Ao 0 (.tup (v::vs))=some v)/\(∀(v w:Ab)(vs:List Ab),Ao 1 (.tup (v::w::vs))=some w)/\(∀(v w u:Ab)(vs:List Ab),Ao 2 (.tup (v::w::u::vs))=some u)):=
 ⟨⟨λ_ _ _=>CD,λ_ _ _ _=>CH,λ_ _ _ _=>ViU,λ_ _ _ _ _=>GI⟩,⟨λ_ _ _=>BY,λ_ _ _ _ _=>BC,λ_ _ _=>Gp,λ_ _ _ _ _=>Fw⟩,
  ⟨λ_ _ _ _=>Ht,λ_ _ _ _ _=>Da,λ_ _ _ _=>Hs,λ_ _ _ _=>Vgo,λ_ _ _ _ _=>Ja⟩,⟨λ_ _ _ _ _=>Vgz,λ_ _ _ _=>KU,λ_ _ _ _=>Vgy,λ_ _ _ _ _=>Jb⟩,
  ⟨λ_=>rfl,rfl,λ_ _=>rfl⟩,λ_ _=>rfl,λ_ _ _=>rfl,λ_ _ _ _=>rfl⟩
theorem HPe:(∀(H:Aa)(j k:Nat),List.length H+j+k=List.length H+(j+k))/\(∀(H0 H:Aa)(v:Ab)(k:Ab->Aa->Out),bK H0 (some (.pan v,H)) k=some (.pan v,H))/\(∀(α β:Type)(a:α)(f:α->β),Option.map f (some a)=some (f a))/\(∀id g o:Nat,Ah (.ptr id g o)=some (.ptr id g o))/\(∀off id g o:Nat,Ac off (.ptr id g o)=some (.ptr id g (o+off))) /\
 ((∀a b c:Aa,a++b++c=a++(b++c))/\(∀(x:Blk)(b c:Aa),(x::b)++c=x::(b++c))/\(∀b:Aa,([]:Aa)++b=b)/\(∀a b:Aa,(a++b).length=a.length+b.length)/\(∀(x:Blk)(b:Aa),(x::b).length=b.length+1)/\(([]:Aa).length=0)) /\
 ((∀(x:Ab)(b:List Ab),(x::b).length=b.length+1)/\(([]:List Ab).length=0)/\(∀(x:Ab)(b:List Ab),(x::b)[0]? = some x)/\(∀(x:Ab)(b:List Ab)(i:Nat),(x::b)[i+1]? = b[i]?)) /\
 ((∀(x y:Ab)(b:List Ab),(x::b).set 0 y=y::b)/\(∀(x y:Ab)(b:List Ab)(i:Nat),(x::b).set (i+1) y=x::b.set i y)/\(∀(p:Ab->Bool)(x:Ab)(b:List Ab),(x::b).all p=(p x&&b.all p))/\(∀p:Ab->Bool,([]:List Ab).all p=true)) /\
 (∀s:zAa,BG (.str s)=some (.i6 (s.length:Int))):=
 ⟨λ_ _ _=>WA _ _ _,λ_ _ _ _=>rfl,λ_ _ _ _=>rfl,λ_ _ _=>rfl,λ_ _ _ _=>rfl,⟨Vmm,λ_ _ _=>rfl,λ_=>rfl,Vl2,λ_ _=>rfl,rfl⟩,⟨λ_ _=>rfl,rfl,λ_ _=>rfl,λ_ _ _=>rfl⟩,⟨λ_ _ _=>rfl,λ_ _ _ _=>rfl,λ_ _ _=>rfl,λ_=>rfl⟩,λ_=>rfl⟩
theorem HPz:((∀n:Nat,0+n=n)/\(∀n:Nat,n+0=n)/\(∀p:Prop,(p/\p)=p)/\(∀p:Prop,(p/\True)=p)/\(∀(α:Type)(a:α),(a=a)=True)/\(∀b:Bool,(b&&b)=b)):=
 ⟨VK,Nat.add_zero,zYi,and_true,λ_ a=>eq_self a,Bool.and_self⟩
open Go.Proofs
set_option maxRecDepth 100000
def HPw:=And.intro HPa (And.intro HPc (And.intro HPd (And.intro HPe HPz)))
def VaH (l:zAb)(x:Nat):Gj (l++[x])=(x != 0):=by simp[Gj]
def VjA {l:zAb}(tk:Tok)(H:Aa)(hx:Lim l)(hl:l.length<=1099511627776):Ubn (.sl (enL cU l) tk) H=some (.ret (.sl (enL cU (A8 (val l))) .no),H):=by
 unfold Ubn;have key:=Bf (G:=λrec1 vs H1=>Uao H rec1 (ag vs 0) H1) (σ:=Nat×Tok) (λs=>s.1<=l.length/\val (l.take s.1)=val l)
  (λs=>[.sl (enL cU (l.take s.1)) s.2]) (λ_=>H) (λs=>s.1) (λ_=>some (.ret (.sl (enL cU (A8 (val l))) .no),H)) (λs rec hi hrec=>?_) (l.length,tk) ⟨VM _,by rw[Wx]⟩ (by dsimp only;omega)
 ·dsimp only at key
  rwa [Wx]at key
 ·obtain⟨k,t⟩:=s;dsimp only at hi hrec⊢;obtain⟨h1,h2⟩:=hi;have hlk:(l.take k).length=k:=by rw[Wc];omega
  have hxk:Lim (l.take k):=λx h=>hx x (WV h);have hr:=VaR (l.take k) t H (by omega);unfold Uao;cases hb:Gj (l.take k)with
  |true=>rw[hb]at hr;have hn:=MI ((O0 hxk).1 hb);rw[h2]at hn;simp only[At,GMw,hr,forget,E9,fgt];rw[<-hn]
  |false=>rw[hb]at hr;obtain⟨m,rfl⟩:∃m,k=m+1:=(by cases k with|zero=>rw[List.take_zero]at hb;cases hb|succ m=>exact⟨m,rfl⟩);have hm:m<l.length:=(by omega);have hz:l[m]=0:=(by have:l.take (m+1)=l.take m++[l[m]]:=VU hm;rw[this,VaH]at hb;simpa using hb);have hv:val (l.take m)=val l:=(by rw[<-h2,VU hm,C5,hz];simp[val]);have hw:I_.wrap (((m+1:Nat):Int)-1)=(m:Int):=(by rw[Am]<;>omega);have hsl:∃t',B7 1 (.sl (enL cU (l.take (m+1))) t) none (some (.i6 (m:Int))) none=some (.sl (enL cU (l.take m)) t'):=(by refine⟨FQ t 0 m (l.take (m+1)).length false,?_⟩;have:=VbH (f:=cU) (sz:=1) (l:=l.take (m+1)) (tk:=t) (K:=.i64) (h:=m) (by omega);rw[List.take_take,WK (by omega)]at this;exact this);obtain⟨t',hsl⟩:=hsl;simp only[At,GMw,hr,Ax,hlk,hw,hsl];exact hrec (m,t') ⟨by omega,hv⟩ (Nat.lt_succ_self m)
def Vmb (kn:List Ab->Aa->Out)(x0:Ab)(eb:List (List Ab))(tb:Tok)(H:Aa):cmA kn x0 (.sl eb tb) H=kn [x0,.sl eb tb,U_,.ptr H.length 0 0,.ptr (H.length+1) 0 0,U_,U_,U_,U_,U_,U_,U_,U_,U_,U_,U_,U_,U_,U_,U_,U_,U_,U_,U_,U_,U_,U_,U_,U_,U_,U_,U_,U_,U_,U_,U_,U_,U_,U_] (H++[.c0 [.sl eb tb]]++[.c0 [.i6 0]]):=by
 have hbx:Bj true 1 (.sl eb tb) H=some (.ptr H.length 0 0,H++[.c0 [.sl eb tb]]):=by unfold Bj;simp only[QC,alloc_eq (cs:=[.sl eb tb]) rfl];rfl
 have hal:Av (some [(.i6 0)]) (H++[.c0 [.sl eb tb]])=some (.ptr (H++[Blk.c0 [.sl eb tb]]).length 0 0,H++[.c0 [.sl eb tb]]++[.c0 [.i6 0]]):=alloc_eq rfl;have hl:(H++[Blk.c0 [.sl eb tb]]).length=H.length+1:=by simp
 unfold cmA;rw[hbx];simp only[BD];rw[hal];simp only[BD,hl]
def Vma (kn:List Ab->Aa->Out){la lb:zAb}(ta tb:Tok)(H:Aa)(xa:Lim la)(xb:Lim lb)(ha:la.length<=1099511627776)(hb:lb.length<=1099511627776):cmB kn (.sl (enL cU la) ta) (.sl (enL cU lb) tb) (.ptr H.length 0 0) (.ptr (H.length+1) 0 0) (H++[.c0 [.sl (enL cU lb) tb]]++[.c0 [.i6 0]]) =
   kn [.sl (enL cU (A8 (val la))) .no,.sl (enL cU lb) tb,U_,.ptr H.length 0 0,.ptr (H.length+1) 0 0,U_,U_,.sl (enL cU la) ta,.sl (enL cU (A8 (val la))) .no,.sl (enL cU lb) tb,.sl (enL cU (A8 (val lb))) .no,U_,U_,U_,U_,U_,U_,U_,U_,U_,U_,U_,U_,U_,U_,U_,U_,U_,U_,U_,U_,U_,U_,U_,U_,U_,U_,U_,U_] (H++[.c0 [.sl (enL cU (A8 (val lb))) .no]]++[.c0 [.i6 0]]):=by
 have e1:(H++[Blk.c0 [.sl (enL cU lb) tb]]++[.c0 [.i6 0]])[H.length]? = some (.c0 [.sl (enL cU lb) tb]):=by simp
 have ld:Ad false 1 (.ptr H.length 0 0) (H++[Blk.c0 [.sl (enL cU lb) tb]]++[.c0 [.i6 0]])=some (.sl (enL cU lb) tb):=by simp only[Ad,A0 e1,zXa];rfl
 have hst:Ae 1 (.ptr H.length 0 0) (.sl (enL cU (A8 (val lb))) .no) (H++[Blk.c0 [.sl (enL cU lb) tb]]++[.c0 [.i6 0]])=some (H++[.c0 [.sl (enL cU (A8 (val lb))) .no]]++[.c0 [.i6 0]]):=by
  rw[Dm e1 rfl (by simp)]
  congr 1
  rw[List.set_append_left _ _ (by simp),Bg]
  rfl
 have c1:=λK=>VjA ta K xa ha;have c2:=λK=>VjA tb K xb hb;unfold cmB;simp only[c1,IJ,ld];rw[Vmj ⟨rfl,trivial⟩];simp only[c2,IJ,hst,IG,Il]
def VlZ (kn kr:List Ab->Aa->Out)(a b:Nat)(ta tb:Tok)(H:Aa)(ha:(A8 a).length<=1099511627776)(hb:(A8 b).length<=1099511627776):(∃tm:List Ab,tm.length=39/\tm[0]? = some (.sl (enL cU (A8 a)) ta)/\tm[3]? = some (.ptr H.length 0 0)/\tm[4]? = some (.ptr (H.length+1) 0 0) /\
   cmC kn kr (.sl (enL cU (A8 a)) ta) (.ptr H.length 0 0) (.ptr (H.length+1) 0 0) (H++[.c0 [.sl (enL cU (A8 b)) tb]]++[.c0 [.i6 0]]) =
    if (A8 a).length=(A8 b).length then kn tm (H++[.c0 [.sl (enL cU (A8 b)) tb]]++[.c0 [.i6 0]])
    else kr tm (H++[.c0 [.sl (enL cU (A8 b)) tb]]++[.c0 [.i6 (if (A8 a).length<(A8 b).length then -1 else 1)]])):=by
 have e1:(H++[Blk.c0 [.sl (enL cU (A8 b)) tb]]++[.c0 [.i6 0]])[H.length]? = some (.c0 [.sl (enL cU (A8 b)) tb]):=by simp
 have e2:(H++[Blk.c0 [.sl (enL cU (A8 b)) tb]]++[.c0 [.i6 0]])[H.length+1]? = some (.c0 [.i6 0]):=by simp
 have ld:Ad false 1 (.ptr H.length 0 0) (H++[Blk.c0 [.sl (enL cU (A8 b)) tb]]++[.c0 [.i6 0]])=some (.sl (enL cU (A8 b)) tb):=by simp only[Ad,A0 e1,zXa];rfl
 have hst:∀z:Int,Ae 1 (.ptr (H.length+1) 0 0) (.i6 z) (H++[Blk.c0 [.sl (enL cU (A8 b)) tb]]++[.c0 [.i6 0]])=some (H++[.c0 [.sl (enL cU (A8 b)) tb]]++[.c0 [.i6 z]]):=λz=>by
  rw[Dm e2 rfl (by simp)]
  congr 1
  rw[Wy _ _ (by simp)];simp
 unfold cmC;simp only[Ax,zXa,ld];by_cases h:(A8 a).length=(A8 b).length
 ·have hn:Af .n .neq (.i6 ((A8 a).length:Int)) (.i6 ((A8 b).length:Int))=some (.bool false):=by show some (Ab.bool (((A8 a).length:Int) != ((A8 b).length:Int)))=_;rw[h];simp
  simp only[hn,zYc h,zXa,AM];exact⟨_,rfl,rfl,rfl,rfl,rfl⟩
 ·have hn:Af .n .neq (.i6 ((A8 a).length:Int)) (.i6 ((A8 b).length:Int))=some (.bool true):=by show some (Ab.bool (((A8 a).length:Int) != ((A8 b).length:Int)))=_;have:(((A8 a).length:Int) != ((A8 b).length:Int))=true:=(by simp;omega);rw[this]
  simp only[hn,zYb h,zXa,Bb,Bz];by_cases h2:(A8 a).length<(A8 b).length;simp only[zXc (show((A8 a).length:Int)<((A8 b).length:Int)by omega),zYc h2,Bb,hst,IG,Il];exact⟨_,rfl,rfl,rfl,rfl,rfl⟩;simp only[zXd (show ¬((A8 a).length:Int)<((A8 b).length:Int)by omega),zYb h2,AM,hst,IG,Il];exact⟨_,rfl,rfl,rfl,rfl,rfl⟩
open Go.RowKit
open Go.RowKit Go.Proofs Go.Shelf
attribute [local go_sem] Oper.semAt_some
def Vjy (n:Nat)(za zb:Nat->Nat)(z:Int):Prop:=
 (z=0/\∀j,j<n->za j=zb j)\/∃i,i<n/\za i≠zb i/\(∀j,i<j->j<n->za j=zb j)/\z=if za i<zb i then -1 else 1
def Vmx {n:Nat}(za zb:Nat->Nat)(pre:List (Fin n)):Prop:=∀x∈pre,za x.1=zb x.1
def Vhi {n:Nat}(za zb:Nat->Nat)(pre:List (Fin n))(z:Int):Prop:=
 ∃x:Fin n,za x.1≠zb x.1/\Vmx za zb pre.dropLast/\pre.getLast? = some x/\z=if za x.1<zb x.1 then -1 else 1
def VmI (B R:Nat)(w1:World)(z:Int)(W:World):Prop:=Below B (w1.setCell ⟨R,0,none⟩ (.i6 z)) W/\B+1<=W.heap.size
def HF {W:World}{R k:Nat}{v:Value}(h:k≠R):(W.setCell ⟨R,0,none⟩ v).heap[k]? = W.heap[k]? := by simp[World.setCell,Xr,h.symm]
def KC {W:World}{R:Nat}{u v:Value}{t:TypeId}(h:W.heap[R]? = some (.cells #[u] t (0,0))):(W.setCell ⟨R,0,none⟩ v).heap[R]? = some (.cells #[v] t (0,0)):=by simp[World.setCell,Xr,h]
def F7 (W:World)(R:Nat)(v:Value):(W.setCell ⟨R,0,none⟩ v).heap.size=W.heap.size:=by simp[World.setCell]
def Vbb {B R:Nat}{w1 W:World}{t:TypeId}{z:Int}(h:Below B w1 W)(hR:R<B)(hr:w1.heap[R]? = some (.cells #[.i6 0] t (0,0)))(h5:B+1<=W.heap.size):VmI B R w1 z (W.setCell ⟨R,0,none⟩ (.i6 z)):=by refine⟨⟨h.os,h.tape,h.output,?_,λk hk=>?_⟩,by rw[F7];exact h5⟩;rw[F7,F7];exact h.size;by_cases e:k=R;subst e;rw[KC ((h.block k hk).trans hr),KC hr];rw[HF e,HF e];exact h.block k hk
theorem Vs {B R:Nat}{W:World}{v:Value}(hR:R<B):KeepsFrom B W (W.setCell ⟨R,0,none⟩ v):=
 ⟨by rw[F7];exact VM _,λk o hB hk _=>by rw[HF (by omega)];exact hk⟩
def VaI {P:Program}{fn:Func}{p:Tmp}{ty:TypeId}{d:TypeDesc}(h:fn.results = #[.cell p ty])(hu:P.underlying ty=some d)(ha:BX P ty=false)(tmps:Array Value)(w:World)(R:Nat)(v:Value)(hp:tmps.getD p undef=.pointer (some ⟨R,0,none⟩))(hc:w.cell? ⟨R,0,none⟩=some v):(results fn tmps).run P w=.ok v w:=by
 have hp':tmps[p]?.getD undef=.pointer (some ⟨R,0,none⟩):=by simpa using hp
 simp[results,h,hp',asAddr,L7 hu w _ v hc ha]
def VgJ {fu B R:Nat}{w1 W:World}{Rr:Ending->World->Prop}{z:Int}{t:TypeId}{D:Nat}{ts:Array Value}(hR:R<B)(hB:w1.heap.size=B)(hr:w1.heap[R]? = some (.cells #[.i6 0] t (0,0)))(hl:VmI B R w1 z W)(hD:B+1<=D)(hK:W.heap[D]? = some (.deferred (some [])))
  (hp:ts.getD 4 undef=.pointer (some ⟨R,0,none⟩))(hRr:∀W,Below B (w1.setCell ⟨R,0,none⟩ (.i6 z)) W->Rr (.returned (.i6 z)) W):bodyPostM Fence.wide fu Tryz.prog Tryz.f156 Rr .ret { tmps:=ts,defers:=[{ target:=.collected D,args:=#[]}]} W:=by
 have hb:Below B (w1.setCell ⟨R,0,none⟩ (.i6 z)) (W.putObj D (.deferred none)):=
  hl.1.trans (belowK_b (w:=w1) (n₀:=B) (by omega) W D _ _ (by omega) hK rfl rfl)
 have hh:(W.putObj D (.deferred none)).heap[R]? = some (.cells #[.i6 z] t (0,0)):=(hb.block R hR).trans (KC hr);show LeavesInM _ _ _ _ _ _ (_::_) _ _;refine⟨by simp,.inl ⟨_,_,rfl,run_takeDeferred hK,?_⟩⟩;show LeavesIn _ _ _ _ _ _ [] _ _;exact⟨_,VaI (p:=4) (ty:=3) (d:=.int .i64) (by kernel_rfl) (by kernel_rfl) (by kernel_rfl) ts _ R (.i6 z) hp (by rw[Bo hh];rfl),hRr _ hb⟩
set_option maxRecDepth 100000 in
set_option maxHeartbeats 4000000 in
theorem Vjh {fu n:Nat}(hn:3<=fu){w1:World}{Rr:Ending->World->Prop}(bA R bb ob cb ba oa ca:Nat)(ao bo:Option Addr)(za zb:Nat->Nat)(hreach:n<=1099511627776)
  (hao:0<n->ao=some ⟨ba,oa,none⟩)(hbo:0<n->bo=some ⟨bb,ob,none⟩)(hA:bA<w1.heap.size)(hR:R<w1.heap.size)(hba:ba<w1.heap.size)(hbb:bb<w1.heap.size)
  (hbx:w1.cell? ⟨bA,0,none⟩=some (.slice bo n cb))(hrx:∃t,w1.heap[R]? = some (.cells #[.i6 0] t (0,0)))(hca:∀j,j<n->w1.cell? ⟨ba,oa+j,none⟩=some (.int .u32 (za j:Int)))(hcb:∀j,j<n->w1.cell? ⟨bb,ob+j,none⟩=some (.int .u32 (zb j:Int)))
  (hRr:∀z W,Vjy n za zb z->Below w1.heap.size (w1.setCell ⟨R,0,none⟩ (.i6 z)) W->Rr (.returned (.i6 z)) W)
  (va:Value)(hva:va=.slice ao n ca)(t1 t2 t5 t6 t7 t8 t9 t10 t11 t12 t13 t14 t15 t16 t17 t18 t19 t20 t21 t22 t23 t24 t25 t26 t27 t28 t29 t30 t31 t32 t33 t34 t35 t36 t37 t38:Value):cdD.wpIn Fence.wide fu Tryz.prog (bodyPostM Fence.wide fu Tryz.prog Tryz.f156 Rr) { tmps:=#[va,t1,t2,.pointer (some ⟨bA,0,none⟩),.pointer (some ⟨R,0,none⟩),t5,t6,t7,t8,t9,t10,t11,t12,t13,t14,t15,t16,t17,t18,t19,t20,t21,t22,t23,t24,t25,t26,t27,t28,t29,t30,t31,t32,t33,t34,t35,t36,t37,t38],defers:=[]} w1:=by
 subst hva;have h1:1<=fu:=by omega
 have hro:Fence.wide.round=none:=rfl;have h205:Fence.wide.fn 205:=trivial
 conv in cdD=>whnf
 gi_wp2_with (gi_at_call 205;refine(Tryz.back_in Fence.wide (fu-1) trivial hro _ _ _ _).mono ?_;rintro e w' ⟨rfl,rfl⟩)
 obtain⟨tr,hrx⟩:=hrx;generalize hB:w1.heap.size=B at *;obtain⟨W0,hW0⟩:∃W0,w1.alloc (Obj.cells #[Value.slice ao n ca] 44)=W0:=⟨_,rfl⟩;rw[hW0];have hW0s:W0.heap.size=B+1:=by rw[<-hW0,World.size_alloc,hB]
 have hB0:Below B w1 W0:=by rw[<-hW0];exact Below.alloc (Below.refl _ _) (by omega) _
 have hbx0:W0.cell? ⟨B,0,none⟩=some (.slice ao n ca):=by
  have:W0.heap[B]? = some (Obj.cells #[Value.slice ao n ca] 44):=by have:=World.heap_new w1 (Obj.cells #[Value.slice ao n ca] 44);rw[hB]at this;rw[<-hW0];exact this
  rw[Bo this];rfl
 refine wpIn_rangeFunc_ownG hro h1 (gf:=229) (lb:=#[.pointer (some ⟨B,0,none⟩)]) rfl trivial (enters_of Tryz.func229 (by kernel_rfl) rfl)
  (Tryz.back_stops Fence.wide (fu-1) trivial hro (by omega) B B ba oa n ca ao hao za hreach W0 (by omega) hba (by omega) hbx0 (λj hj=>(hB0.cell (p:=⟨ba,oa+j,none⟩) hba).trans (hca j hj)))
  (λh k=>h.trans k) (λW l o o' hl ho h1 h2=>⟨belowK_b (by omega) W l o o' hl ho h1 h2,?hKb⟩) (Below.refl _ _) (λ_=>rfl)
  (λpre W=>Vmx za zb pre/\Below B w1 W/\B+1<=W.heap.size)
  (λc pre W=>c=.ret/\∃z:Int,Vhi za zb pre z/\VmI B R w1 z W)
  ?hI ?hIx
  ⟨λx hx=>(by cases hx),hB0,by omega⟩
  (λx=>{ tmps:=#[.slice ao n ca,t1,t2,.pointer (some ⟨bA,0,none⟩),.pointer (some ⟨R,0,none⟩),.i6 (x.1:Int),.int .u32 (za x.1:Int),t7,t8,t9,t10,t11,t12,t13,t14,t15,t16,t17,t18,t19,t20,.slice ao n ca,.func (.func 229) #[] #[.pointer (some ⟨B,0,none⟩)],.i6 (x.1:Int),.int .u32 (za x.1:Int),t25,t26,t27,t28,t29,t30,t31,t32,t33,t34,t35,t36,t37,t38],defers:=[]}) ?assign ?body ?done ?stop
 case hKb=>have hcB:∀(U V:World),V.heap[B]? = U.heap[B]? -> V.cell? ⟨B,0,none⟩=U.cell? ⟨B,0,none⟩:=λU V h=>World.cell?_of_block h;exact hcB _ _ (World.putObj_heap_other (by omega))
 case hI=>exact OwnFrom.and (λ_ _ _ _ h _ _=>h) (OwnFrom.and (ownFrom_below (by omega) (by omega)) (λ_ _ _ _ h hg _=>Wg h hg.size))
 case hIx=>rintro c pre W W' row ⟨h1,z,h2,h3,h4⟩ hg hr;refine⟨h1,z,h2,?_,Wg h4 hg.size⟩;exact ownFrom_below (β:=List (Fin n)) (B:=W0.heap.size) (by rw[F7];omega) (by omega) pre W W' row h3 hg hr
 case assign=>
  intro l x W K hK
  gi_wp2
  exact hK
 case body=>
  rintro l pre x W ⟨hE,hBw,h5⟩ _;have hx:=x.2;have hbo':=hbo (by omega);subst hbo';have hbx':=(hBw.cell (p:=⟨bA,0,none⟩) hA).trans hbx;have hcb':=(hBw.cell (p:=⟨bb,ob+x.1,none⟩) hbb).trans (hcb x.1 hx);have hR':=(hBw.block R hR).trans hrx;have hRf:W.frozen? ⟨R,0,none⟩=false:=by simp[World.frozen?,hR']
  have hRc:W.cell? ⟨R,0,none⟩=some (.i6 0):=by rw[Bo hR'];rfl
  by_cases hlt:za x.1<zb x.1
  ·have hlt':(za x.1:Int)<(zb x.1:Int):=(by omega);have hlaid:∀z:Int,z = -1->Vhi za zb (pre++[x]) z/\VmI B R w1 z (W.setCell ⟨R,0,none⟩ (.i6 z)):=λz hz=>⟨⟨x,by omega,by simpa using hE,by simp,by rw[zYc hlt];exact hz⟩,Vbb hBw hR hrx h5⟩;have hl:=hlaid (-1) rfl;generalize hT:Vhi za zb (pre++[x]) (-1)=T at hl;clear hlaid
   gi_wp2
   exact⟨Vs (by omega),rfl,-1,by rw[hT];exact hl.1,hl.2⟩
  ·by_cases hgt:zb x.1<za x.1
   ·have hlt':¬(za x.1:Int)<(zb x.1:Int):=(by omega);have hgt':(zb x.1:Int)<(za x.1:Int):=(by omega);have hlaid:∀z:Int,z=1->Vhi za zb (pre++[x]) z/\VmI B R w1 z (W.setCell ⟨R,0,none⟩ (.i6 z)):=λz hz=>⟨⟨x,by omega,by simpa using hE,by simp,by rw[zYb hlt];exact hz⟩,Vbb hBw hR hrx h5⟩;have hl:=hlaid 1 rfl;generalize hT:Vhi za zb (pre++[x]) 1=T at hl;clear hlaid
    gi_wp2
    exact⟨Vs (by omega),rfl,1,by rw[hT];exact hl.1,hl.2⟩
   ·have hlt':¬(za x.1:Int)<(zb x.1:Int):=(by omega);have hgt':¬(zb x.1:Int)<(za x.1:Int):=(by omega);have hE2:Vmx za zb (pre++[x]):=λy hy=>by rcases Wk.1 hy with h | h;exact hE y h;rw[Wj.1 h];omega
    gi_wp2
    exact⟨KeepsFrom.refl _ _,⟨Below.refl _ _,rfl⟩,hE2,hBw,h5⟩
 case done=>
  rintro D ys W hD rfl ⟨hE,hBw,h5⟩ hK;have hR':=(hBw.block R hR).trans hrx;have hRf:W.frozen? ⟨R,0,none⟩=false:=by simp[World.frozen?,hR']
  have hRc:W.cell? ⟨R,0,none⟩=some (.i6 0):=by rw[Bo hR'];rfl
  have hgood:Vjy n za zb 0:=.inl ⟨rfl,λj hj=>hE ⟨j,hj⟩ (QB n ⟨j,hj⟩ (VM _) (by omega))⟩;have hl:VmI B R w1 0 (W.setCell ⟨R,0,none⟩ (.i6 0)):=Vbb hBw hR hrx h5
  gi_wp2
  refine VgJ hR hB hrx hl (by omega) ?_ rfl (λW h=>hRr 0 W hgood h);rw[HF (by omega)];exact hK
 case stop=>
  rintro D c pre W hD ⟨k,hk,hpre⟩ ⟨rfl,z,⟨x,x1,x2,x3,x4⟩,hl⟩ hK;subst hpre;rw[OG hk]at x2 x3;simp only[List.dropLast_concat,List.getLast?_concat,VT]at x2 x3;subst x3;have hgood:Vjy n za zb z:=.inr ⟨n-1-k,by omega,x1,λj h1 h2=>x2 ⟨j,h2⟩ (QB k ⟨j,h2⟩ (by omega) (by dsimp only;omega)),x4⟩
  gi_wp2
  exact VgJ hR hB hrx hl (by omega) hK rfl (λW h=>hRr z W hgood h)
open Go.RowKit Go.Proofs
set_option maxRecDepth 100000
def PX (tm:List Ab)(H:Aa):Out:=some (.ret (.tup tm),H)
def Rh (tm:List Ab)(H:Aa):Out:=some (.ret (.agg tm),H)
def VkA {x:Vhn}{tm tm':List Ab}{H H':Aa}(h:kK PX Rh x tm H=some (.ret (.tup tm'),H')):x=.normal/\tm=tm'/\H=H':=by cases x with|normal=>simp only[kK,PX,VT,Wh,Res.ret.injEq,Ab.tup.injEq]at h;exact⟨rfl,h⟩|ret=>simp[kK,Rh]at h|pan v=>simp[kK]at h|exit i=>simp[kK]at h
def Vps {x:Vhn}{tm tm':List Ab}{H H':Aa}(h:kK PX Rh x tm H=some (.ret (.agg tm'),H')):x=.ret/\tm=tm'/\H=H':=by cases x with|normal=>simp[kK,PX]at h|ret=>simp only[kK,Rh,VT,Wh,Res.ret.injEq,Ab.agg.injEq]at h;exact⟨rfl,h⟩|pan v=>simp[kK]at h|exit i=>simp[kK]at h
def Vev {E:Env}{H:Aa}{w:World}(hs:Sim E H w){L:zAb}{tk:Tok}{v:Value}(h:A3 E (.sl (enL cU L) tk) v)(hw:0<w.heap.size):∃(ao:Option Addr)(b o cap:Nat),v=.slice ao L.length cap/\(0<L.length->ao=some ⟨b,o,none⟩)/\b<w.heap.size/\∀j,j<L.length->w.cell? ⟨b,o+j,none⟩=some (.int .u32 ((L[j]?.getD 0:Nat):Int)):=by
 have hge:∀j (hj:j<L.length),(enL cU L)[j]? = some (cU L[j]):=λj hj=>by simp[enL,hj]
 have hle:(enL cU L).length=L.length:=by simp[enL]
 generalize hes:enL cU L=es at *;cases h with
 |@sl0 _ a cap ht ha=>
  have:L.length=0:=by simpa using hle.symm
  exact⟨a,0,0,cap,by rw[this],λh=>by omega,hw,λj hj=>by omega⟩
 |@sl _ _ b o s cap f hlen hI hmm hvv hcc htt=>by_cases hpos:0<L.length;have hs1:s=1:=(by have:=hlen 0 _ (hge 0 hpos);simpa using this.symm);subst hs1;refine⟨_,b,o,cap,by rw[hle],λ_=>rfl,hs.imm_lt (hI 0 0 (by omega) (by omega)),λj hj=>?_⟩;have h1:=hs.imm _ _ _ (hI j 0 (by omega) (by omega));have h2:=hvv j _ 0 _ (hge j hj) rfl;rw[Ru h2]at h1;rw[VG hj];simpa using h1;exact⟨_,0,o,cap,by rw[hle],λh=>zYf h hpos,hw,λj hj=>by omega⟩
def U3 {l:zAb}{i:Nat}(h:i<l.length):val l=val (l.take i)+4294967296^i*(l[i]+4294967296*val (l.drop (i+1))):=by
 have e:l=l.take i++(l[i]::l.drop (i+1)):=by rw[<-Wl h,WD]
 conv=>lhs;rw[e]
 rw[C5,Wc,WK (by omega)]
 rfl
def VpX {a b P W x y d:Nat}(ha:a<P)(hxy:x<y):a+P*(x+W*d)<b+P*(y+W*d):=by
 have h1:P*(x+W*d)+P<=P*(y+W*d):=by rw[<-Nat.mul_succ];exact Xd _ (by omega)
 omega
def Vef {l m:zAb}(hl:Lim l)(he:l.length=m.length){i:Nat}(h:i<l.length)(h':i<m.length)(hd:l.drop (i+1)=m.drop (i+1))(hlt:l[i]<m[i]):val l<val m:=by have h1:=Gu (l:=l.take i) λy hy=>hl y (WV hy);rw[Wc,WK (by omega)]at h1;rw[U3 h,U3 h',hd];exact VpX h1 hlt
def ViM {A B:Nat}(hlen:(A8 A).length=(A8 B).length){z:Int}(h:Vjy (A8 A).length (λj=>(A8 A)[j]?.getD 0) (λj=>(A8 B)[j]?.getD 0) z):z=if A<B then -1 else if A=B then 0 else 1:=by
 rcases h with ⟨rfl,h⟩ | ⟨i,hi,hne,hab,rfl⟩
 ·have:A8 A=A8 B:=by apply List.ext_getElem hlen;intro j h1 h2;have:=h j h1;dsimp only at this;rw[VG h1,VG h2]at this;exact this
  have e:A=B:=by rw[<-B6 A,<-B6 B,this]
  rw[zYb (by omega),zYc e]
 ·have hi2:i<(A8 B).length:=by omega
  have g1:(A8 A)[i]?.getD 0=(A8 A)[i]:=by rw[VG hi];rfl
  have g2:(A8 B)[i]?.getD 0=(A8 B)[i]:=by rw[VG hi2];rfl
  have hd:(A8 A).drop (i+1)=(A8 B).drop (i+1):=by apply List.ext_getElem (by simp[hlen]);intro j h1 h2;rw[Wd]at h1 h2;have:=hab (i+1+j) (by omega) (by omega);dsimp only at this;rw[VG (by omega),VG (by omega)]at this;rw[X5,X5];exact this
  dsimp only at hne⊢;rw[g1,g2]at hne;have e:((A8 A)[i]?.getD 0<(A8 B)[i]?.getD 0)↔(A8 A)[i]<(A8 B)[i]:=by rw[g1,g2]
  by_cases hlt:(A8 A)[i]<(A8 B)[i];have:=Vef (Bw A) hlen hi hi2 hd hlt;rw[B6,B6]at this;rw[zYc (e.2 hlt),zYc this];have:=Vef (Bw B) hlen.symm hi2 hi hd.symm (by omega);rw[B6,B6]at this;rw[zYb (λh=>hlt (e.1 h)),zYb (by omega),zYb (by omega)]
def Vlz {A B:Nat}(hne:¬(A8 A).length=(A8 B).length):(if (A8 A).length<(A8 B).length then (-1:Int)else 1)=if A<B then -1 else if A=B then 0 else 1:=by
 by_cases h:(A8 A).length<(A8 B).length
 ·have:A<B:=by rcases W4 A B with q | q;exact q;have:=NC q;omega
  rw[zYc h,zYc this]
 ·have:B<A:=by rcases W4 B A with q | q;exact q;have:=NC q;omega
  rw[zYb h,zYb (by omega),zYb (by omega)]
theorem VjE {E:Env}{x:Ab}{vs:Array Value}(h:AB E [x] vs.toList):∃v,vs = #[v]/\A3 E x v:=Voz h
def B3 {α:Type}{n:Nat}{l:List α}(h:l.length=n+1):∃x r,l=x::r/\r.length=n:=by cases l with|nil=>cases h|cons x r=>exact⟨x,r,rfl,by simpa using h⟩
def Vp3 (ts:Array Value)(h:ts.toList.length=39):∃t0 t1 t2 t3 t4 t5 t6 t7 t8 t9 t10 t11 t12 t13 t14 t15 t16 t17 t18 t19 t20 t21 t22 t23 t24 t25 t26 t27 t28 t29 t30 t31 t32 t33 t34 t35 t36 t37 t38:Value,ts = #[t0,t1,t2,t3,t4,t5,t6,t7,t8,t9,t10,t11,t12,t13,t14,t15,t16,t17,t18,t19,t20,t21,t22,t23,t24,t25,t26,t27,t28,t29,t30,t31,t32,t33,t34,t35,t36,t37,t38]:=by obtain⟨l⟩:=ts;dsimp only at h;obtain⟨t0,l0,rfl,h0⟩:=B3 h;obtain⟨t1,l1,rfl,h1⟩:=B3 h0;obtain⟨t2,l2,rfl,h2⟩:=B3 h1;obtain⟨t3,l3,rfl,h3⟩:=B3 h2;obtain⟨t4,l4,rfl,h4⟩:=B3 h3;obtain⟨t5,l5,rfl,h5⟩:=B3 h4;obtain⟨t6,l6,rfl,h6⟩:=B3 h5;obtain⟨t7,l7,rfl,h7⟩:=B3 h6;obtain⟨t8,l8,rfl,h8⟩:=B3 h7;obtain⟨t9,l9,rfl,h9⟩:=B3 h8;obtain⟨t10,l10,rfl,h10⟩:=B3 h9;obtain⟨t11,l11,rfl,h11⟩:=B3 h10;obtain⟨t12,l12,rfl,h12⟩:=B3 h11;obtain⟨t13,l13,rfl,h13⟩:=B3 h12;obtain⟨t14,l14,rfl,h14⟩:=B3 h13;obtain⟨t15,l15,rfl,h15⟩:=B3 h14;obtain⟨t16,l16,rfl,h16⟩:=B3 h15;obtain⟨t17,l17,rfl,h17⟩:=B3 h16;obtain⟨t18,l18,rfl,h18⟩:=B3 h17;obtain⟨t19,l19,rfl,h19⟩:=B3 h18;obtain⟨t20,l20,rfl,h20⟩:=B3 h19;obtain⟨t21,l21,rfl,h21⟩:=B3 h20;obtain⟨t22,l22,rfl,h22⟩:=B3 h21;obtain⟨t23,l23,rfl,h23⟩:=B3 h22;obtain⟨t24,l24,rfl,h24⟩:=B3 h23;obtain⟨t25,l25,rfl,h25⟩:=B3 h24;obtain⟨t26,l26,rfl,h26⟩:=B3 h25;obtain⟨t27,l27,rfl,h27⟩:=B3 h26;obtain⟨t28,l28,rfl,h28⟩:=B3 h27;obtain⟨t29,l29,rfl,h29⟩:=B3 h28;obtain⟨t30,l30,rfl,h30⟩:=B3 h29;obtain⟨t31,l31,rfl,h31⟩:=B3 h30;obtain⟨t32,l32,rfl,h32⟩:=B3 h31;obtain⟨t33,l33,rfl,h33⟩:=B3 h32;obtain⟨t34,l34,rfl,h34⟩:=B3 h33;obtain⟨t35,l35,rfl,h35⟩:=B3 h34;obtain⟨t36,l36,rfl,h36⟩:=B3 h35;obtain⟨t37,l37,rfl,h37⟩:=B3 h36;obtain⟨t38,l38,rfl,h38⟩:=B3 h37;obtain rfl:=We h38;exact⟨t0,t1,t2,t3,t4,t5,t6,t7,t8,t9,t10,t11,t12,t13,t14,t15,t16,t17,t18,t19,t20,t21,t22,t23,t24,t25,t26,t27,t28,t29,t30,t31,t32,t33,t34,t35,t36,t37,t38,rfl⟩
def VpF {E:Env}{H:Aa}{w:World}{args:List Ab}{vs:Array Value}{n:Nat}(hs:Sim E H w)(hv:AB E args vs.toList)(hn:args.length<=n):In n E H (args++List.replicate (n-args.length) .undef) { tmps:=vs++Array.replicate (n-vs.size) undef,defers:=[]} w:=by
 have hlen:args.length=vs.size:=by simpa using hv.1
 refine⟨?_,by simp;omega,rfl,hs⟩;rw[Xz];refine hv.append ⟨by simp[hlen],λi c v h1 h2=>?_⟩;rw[XF]at h1;split at h1
 simp at h1;subst h1;exact .undef _;cases h1
def Pg:List Bool->List Ab->List Ab
 |true::m,x::xs=>x::Pg m xs
 |_::m,_::xs=>.undef::Pg m xs
 |[],xs=>xs
 |_,[]=>[]
theorem Qf:∀(m:List Bool)(xs:List Ab),(Pg m xs).length=xs.length
 |[],[]=>rfl
 |[],_::_=>rfl
 |_::_,[]=>by simp[Pg]
 |true::m,x::xs=>by simp[Pg,Qf m xs]
 |false::m,x::xs=>by simp[Pg,Qf m xs]
theorem PW {E:Env}:∀(m:List Bool)(xs:List Ab)(vs:List Value),AB E xs vs->AB E (Pg m xs) vs
 |[],[],_,h=>h
 |[],_::_,_,h=>h
 |_::_,[],_,h=>by simpa[Pg]using h
 |b::m,x::xs,[],h=>zYf h.1 (by simp)
 |true::m,x::xs,v::vs,h=>AB.cons h.head (PW m xs vs h.tail)
 |false::m,x::xs,v::vs,h=>AB.cons (.undef _) (PW m xs vs h.tail)
theorem Vgn {n:Nat}{E:Env}{H:Aa}{tm:List Ab}{a:Act}{w:World}(m:List Bool)(h:In n E H tm a w):In n E H (Pg m tm) a w:=
 ⟨PW m tm _ h.rel,by rw[Qf];exact h.len,h.defers,h.sim⟩
theorem Vac (w:World)(R:Nat)(v:Value):w.setCells R 0 [v]=w.setCell ⟨R,0,none⟩ v:=rfl
def JH:AC Tryz.prog Gs 156 (ap2 Uac):=by
 intro args H res H' h;unfold ap2 at h;split at h
 ·rename_i a b;unfold Uac at h;split at h
  ·rename_i es ta fs tb;split at h
   ·rename_i hex;have hsp:=hex.choose_spec;generalize hp:hex.choose=p at hsp h;obtain⟨la,lb⟩:=p;dsimp only at hsp h;obtain⟨rfl,rfl,xa,xb,ha,hb⟩:=hsp;simp only[VT,Wh]at h;obtain⟨rfl,rfl⟩:=h;intro E w vs hG hs hv;obtain⟨va,vb,rfl,k1,k2⟩:=Vml hv;have hlA:(A8 (val la)).length<=1099511627776:=Wg (Fr (Gu xa)) ha;have hlB:(A8 (val lb)).length<=1099511627776:=Wg (Fr (Gu xb)) hb;refine .inl ⟨FC Tryz.func156 (by kernel_rfl) (by kernel_rfl) _ w,?_⟩;refine callsIn_wide.1 (callsIn_of_wp_marks (n:=3) Tryz.func156 Vjr trivial ?_ rfl);have hC:Nw Uk:=Vlr (Ag DQ (Aq _ _));have hD:Vdc Uk:=Vg6 hC mixed;have hfr:In 39 E H [.sl (enL cU la) ta,.sl (enL cU lb) tb,U_,U_,U_,U_,U_,U_,U_,U_,U_,U_,U_,U_,U_,U_,U_,U_,U_,U_,U_,U_,U_,U_,U_,U_,U_,U_,U_,U_,U_,U_,U_,U_,U_,U_,U_,U_,U_] { tmps:=#[va,vb]++Array.replicate (39 - #[va,vb].size) undef,defers:=[]} w:=VpF hs hv (by simp);rw[Tryz.ntmps156];obtain⟨HB,hHB⟩:∃HB:Aa,HB=H++[.c0 [.sl (enL cU (A8 (val lb))) .no]]++[.c0 [.i6 0]]:=⟨_,rfl⟩;have hAev:=Vom PX Rh (.sl (enL cU la) ta) (.sl (enL cU lb) tb) H;rw[Vmb,<-ViV]at hAev;refine wpIn_seq (wpIn_mono (wpIn_wide.2 (Ts hC hD cdA _ (kK PX Rh) E _ H _ w hG (Cf.refl E H w) hfr hAev)) ?_);rintro e1 a1 w1 ⟨E1,H1,tm1,x1,hG1,st1,hf1,hx1,hk1⟩;obtain⟨rfl,rfl,rfl⟩:=VkA hk1;cases e1<;>first | exact hx1.elim | skip
    have hBev:=Vol PX Rh (.sl (enL cU la) ta) (.sl (enL cU lb) tb) (.ptr H.length 0 0) (.ptr (H.length+1) 0 0) (H++[.c0 [.sl (enL cU lb) tb]]++[.c0 [.i6 0]]);rw[Vma PX ta tb H xa xb ha hb,<-ViV]at hBev;refine wpIn_seq (wpIn_mono (wpIn_wide.2 (Ts hC hD cdB _ (kK PX Rh) E1 _ _ a1 w1 hG1 st1 hf1 hBev)) ?_);rintro e2 a2 w2 ⟨E2,H2,tm2,x2,hG2,st2,hf2,hx2,hk2⟩;obtain⟨rfl,rfl,rfl⟩:=VkA hk2;cases e2<;>first | exact hx2.elim | skip
    have hf2':In 39 E2 HB [.sl (enL cU (A8 (val la))) .no,U_,U_,.ptr H.length 0 0,.ptr (H.length+1) 0 0,U_,U_,U_,U_,U_,U_,U_,U_,U_,U_,U_,U_,U_,U_,U_,U_,U_,U_,U_,U_,U_,U_,U_,U_,U_,U_,U_,U_,U_,U_,U_,U_,U_,U_] a2 w2:=hHB ▸ Vgn [true,false,false,true,true,false,false,false,false,false,false,false,false,false,false,false,false,false,false,false,false,false,false,false,false,false,false,false,false,false,false,false,false,false,false,false,false,false,false] hf2;have hCev:=Vok PX Rh (.sl (enL cU (A8 (val la))) .no) (.ptr H.length 0 0) (.ptr (H.length+1) 0 0) HB;obtain⟨tm3,hl3,g0,g3,g4,hres⟩:=VlZ PX Rh (val la) (val lb) .no .no H hlA hlB;have fin2:∀(z:Int)(HX:Aa)(E3:Env)(W:World),HX=H++[.c0 [.sl (enL cU (A8 (val lb))) .no]]++[.c0 [.i6 z]]->Sim E3 HX W->Cf E H w E3 HX W->∃E',Jk E' (.ret (.i6 z)) (.returned (.i6 z))/\Sim E' H W/\Cf E H w E' H W:=(by intro z HX E3 W hHX hsim hst;have hfin:fin .pure H (.ret (.i6 z)) HX=some (.ret (.i6 z),H):=(by have:rP H (.i6 z) HX=some (.ret (.i6 z),H):=(by rw[hHX,VP];exact Ih);exact this);obtain⟨E',q1,q2,q3⟩:=Vgv (r:=.ret (.i6 z)) (e:=.returned (.i6 z)) hs hst hsim (show Jk E3 _ _ from A3.int _ _) hfin;exact⟨E',q1,q2,q3⟩);rw[<-hHB]at hres;rw[hres,<-ViV]at hCev;by_cases hlen:(A8 (val la)).length=(A8 (val lb)).length
    ·rw[zYc hlen]at hCev;refine wpIn_seq (wpIn_mono (wpIn_wide.2 (Ts hC hD cdC _ (kK PX Rh) E2 _ HB a2 w2 hG2 (hHB ▸ st2) hf2' hCev)) ?_);rintro e3 a3 w3 ⟨E3,H3,tm4,x3,hG3,st3,hf3,hx3,hk3⟩;obtain⟨rfl,rfl,hHH⟩:=VkA hk3;rw[hHH]at hf3 st3;cases e3<;>first | exact hx3.elim | skip
     have hl39:a3.tmps.toList.length=39:=(by rw[<-hf3.rel.1];exact hf3.len);obtain⟨ts,ds⟩:=a3;obtain⟨t0,t1,t2,t3,t4,t5,t6,t7,t8,t9,t10,t11,t12,t13,t14,t15,t16,t17,t18,t19,t20,t21,t22,t23,t24,t25,t26,t27,t28,t29,t30,t31,t32,t33,t34,t35,t36,t37,t38,hts⟩:=Vp3 ts hl39;have hds:ds=[]:=hf3.defers;subst hds;subst hts;obtain⟨u0,p0,r0⟩:=hf3.rel.get g0;obtain⟨u3,p3,r3⟩:=hf3.rel.get g3;obtain⟨u4,p4,r4⟩:=hf3.rel.get g4;obtain rfl:t0=u0:=(by simpa using p0);obtain rfl:t3=u3:=(by simpa using p3);obtain rfl:t4=u4:=(by simpa using p4);have hsim:=hf3.sim;obtain⟨bA,f3,rfl⟩:=r3.ptr_inv;obtain⟨R,f4,rfl⟩:=r4.ptr_inv;have e1:HB[H.length]? = some (.c0 [.sl (enL cU (A8 (val lb))) .no]):=(by rw[hHB];simp);have e2:HB[H.length+1]? = some (.c0 [.i6 0]):=(by rw[hHB];simp);obtain⟨b0,c0,y0,q0,q1,q2,_⟩:=hsim.blk _ _ e1;obtain⟨b1,c1,y1,q4,q5,q6,_⟩:=hsim.blk _ _ e2;rw[f3]at q0;rw[f4]at q4;cases q0;cases q4;obtain⟨vb3,rfl,rb⟩:=VjE q2;obtain⟨vr3,rfl,rr⟩:=VjE q6;have hvr:=Ru rr;subst hvr;have hw0:bA<w3.heap.size:=(Wz.1 q1).1;have hwR:R<w3.heap.size:=(Wz.1 q5).1;obtain⟨ao,ba,oa,ca,rfl,hao,hba,hca⟩:=Vev hsim r0 (by omega);obtain⟨bo,bb,ob,cb,rfl,hbo,hbb,hcb⟩:=Vev hsim rb (by omega);rw[<-hlen]at hbo hcb q1;refine Vjh (n:=(A8 (val la)).length) (VM 3) bA R bb ob cb ba oa ca ao bo (λj=>(A8 (val la))[j]?.getD 0) (λj=>(A8 (val lb))[j]?.getD 0) hlA hao hbo hw0 hwR hba hbb (by rw[Bo q1];rfl) ⟨y1,q5⟩ hca hcb (λz W hg hbel=>?_) _ rfl t1 t2 t5 t6 t7 t8 t9 t10 t11 t12 t13 t14 t15 t16 t17 t18 t19 t20 t21 t22 t23 t24 t25 t26 t27 t28 t29 t30 t31 t32 t33 t34 t35 t36 t37 t38;have hz:=ViM hlen hg;have hst:Ae 1 (.ptr (H.length+1) 0 0) (.i6 z) HB=some (H++[.c0 [.sl (enL cU (A8 (val lb))) .no]]++[.c0 [.i6 z]]):=by
      rw[Dm e2 rfl (by simp),hHB]
      congr 1
      rw[Wy _ _ (by simp)];simp
     obtain⟨b',o',cs',tt',w1',w2',w3',w4',w5',w6',w7'⟩:=Mn hsim (.ptr f4) (.i6 z) hst;injection w1' with w1';injection w1' with w1';injection w1' with w1a w1b;subst w1a;subst w1b;have hce:(Value.i6 z).cells.toList=[Value.i6 z]:=rfl;rw[hce,Vac]at w6' w7';have hext:=w6'.ext (.refl E3) (λ_ _ _ h=>h) (λ_ _ _ h=>h) (λb hb=>hbel.block b (by rw[F7]at hb;exact hb)) (λ_ _=>rfl) (λb o v hv hb=>by have:=w6'.imm_lt hv;omega) hbel.os hbel.tape hbel.output hbel.size;obtain⟨E',k1',k2',k3'⟩:=fin2 z _ E3 W rfl hext.1 ((st3.trans w7').trans hext.2);refine⟨E',?_,k2',k3'⟩;rw[<-hz];exact k1'
    ·rw[zYb hlen]at hCev;refine wpIn_seq (wpIn_mono (wpIn_wide.2 (Ts hC hD cdC _ (kK PX Rh) E2 _ HB a2 w2 hG2 (hHB ▸ st2) hf2' hCev)) ?_);rintro e3 a3 w3 ⟨E3,H3,tm4,x3,hG3,st3,hf3,hx3,hk3⟩;obtain⟨rfl,rfl,rfl⟩:=Vps hk3;cases e3<;>first | exact hx3.elim | skip
     have hz:=Vlz hlen;have hra:FS Uk Tryz.f156.results.toList tm4 (H++[.c0 [.sl (enL cU (A8 (val lb))) .no]]++[.c0 [.i6 (if (A8 (val la)).length<(A8 (val lb)).length then -1 else 1)]])=some (.i6 (if (A8 (val la)).length<(A8 (val lb)).length then -1 else 1)):=by
      have hrs:Tryz.f156.results.toList=[.cell 4 3]:=(by kernel_rfl);have hld:Ad false 1 (.ptr (H.length+1) 0 0) (H++[Blk.c0 [.sl (enL cU (A8 (val lb))) .no]]++[.c0 [.i6 (if (A8 (val la)).length<(A8 (val lb)).length then -1 else 1)]])=some (.i6 (if (A8 (val la)).length<(A8 (val lb)).length then -1 else 1)):=by
       simp only[Ad,A0 (show(H++[Blk.c0 [.sl (enL cU (A8 (val lb))) .no]]++[Blk.c0 [.i6 (if (A8 (val la)).length<(A8 (val lb)).length then -1 else 1)]])[H.length+1]? = some (.c0 [.i6 (if (A8 (val la)).length<(A8 (val lb)).length then -1 else 1)])by simp),zXa]
       rfl
      rw[hrs];show Iv Uk tm4 _ (.cell 4 3)=_;have hd4:tm4.getD 4 .undef=.ptr (H.length+1) 0 0:=(by rw[VO,g4];rfl);have hok:okT Uk.P 3=true:=(by kernel_rfl);have hagg:BX Uk.P 3=false:=(by kernel_rfl);have hsz:Au Uk.P 3=1:=(by kernel_rfl);simp only[Iv,hok,hagg,hsz,hd4,Wp,VL,zYe];exact hld
     obtain⟨v,r1,r2⟩:=Sw (fn:=Tryz.f156) hf3 hra;have hv3:=Ru r2;subst hv3;show LeavesInM _ _ _ _ _ _ a3.defers _ _;rw[hf3.defers];show LeavesIn _ _ _ _ _ _ [] _ _;refine⟨_,r1,?_⟩;obtain⟨E',q1,q2,q3⟩:=fin2 _ _ E3 w3 rfl hf3.sim st3;refine⟨E',?_,q2,q3⟩;rw[<-hz];exact q1
   cases h
  cases h
 cases h
open Go.Proofs Go.RowKit Go.Shelf
def Vq3 (x:Nat)(H:Aa):UdZ (.int .i32 x) H=some (.ret (.bool (L9 x)),H):=by
 unfold UdZ L9;by_cases h:x<48
 ·have h':(x:Int)<48:=by omega
  simp[h,h']
 ·have h':¬(x:Int)<48:=by omega
  by_cases h2:57<x;have iO:(57:Int)<x:=(by omega);simp[h,h',h2,iO];have iO:¬(57:Int)<x:=(by omega);simp[h,h',h2,iO]
def Lb:AC Tryz.prog Gs 234 (ap2 UaW):=by
 intro args H res H' h;unfold ap2 at h;split at h
 ·unfold UaW at h;split at h
  ·rename_i s;cases h;refine VjI Tryz.func234 (by kernel_rfl) λE w vs hG hs hv=>?_;obtain⟨v,u,rfl,h1,h2⟩:=Vml hv;rw[VdY h1];have hu:u=.func (.func 235) #[] #[]:=by
    cases h2 with
    |@fn _ _ vs' pM aQ=>exact zYg _ (Array.eq_empty_of_size_eq_zero pM.symm)
   rw[hu];refine⟨_,.int _ _,Tryz.strings_IndexFunc_grows 235 #[] (λa w=>FC Tryz.func235 (by kernel_rfl) (by kernel_rfl) a w) L9 ⟨s.toArray⟩ w λW x hx hb=>?_⟩;refine(ViP PE Tryz.func235 (by kernel_rfl) (λ_ _ h=>nomatch h) (UC hs hb).1 (args:=[.int .i32 x]) (AB.cons (.int _ _) (AB.nil _)) (Vq3 x [])).mono λe w' ⟨⟨E',he⟩,hw⟩=>⟨?_,hw⟩;cases e with|returned v=>rw[A3.bool_inv he]|panicked c=>exact he.elim|outgrown=>exact he.elim
  cases h
 cases h
def Lc:AC Tryz.prog Gs 177 (ap2 UaX):=by
 intro args H res H' h;unfold ap2 at h;split at h
 ·unfold UaX at h;split at h
  rename_i s c;cases h;refine VjI Tryz.func177 (by kernel_rfl) λE w vs hG hs hv=>?_;obtain⟨v,u,rfl,h1,h2⟩:=Vml hv;rw[VdY h1,Ru h2];exact⟨_,.int _ _,(Tryz.strings_IndexByte ⟨s.toArray⟩ c w).mono λe w' ⟨he,hw⟩=>⟨by simpa using he,hw ▸ Below.refl _ _⟩⟩;cases h
 cases h
end Go.Gm
namespace Go.Proofs
open Go.RowKit
set_option maxRecDepth 10000 in
theorem Tryz.catch_panickingR (p:Addr)(c0 c1:Value)(older:List PanicEntry)(w:World){wa w1:World}(hs0:Sem.run Tryz.prog (store p c0) w=.ok () wa)(hs1:Sem.run Tryz.prog (store { block:=p.block,off:=p.off+1} c1) wa=.ok () w1):CallsD Tryz.prog 124 #[.pointer (some p)] (.panicking ({ v:=.iface 127 (.agg #[c0,c1]),recovered:=false}::older)) w λe u' w'=>e=.returned (.tuple #[])/\u'=.panicking ({ v:=.iface 127 (.agg #[c0,c1]),recovered:=true}::older)/\w'=w1:=by
 have hta:Sem.run Tryz.prog (Instr.typeAssert (.iface 127 (.agg #[c0,c1])) 20 127 false) w=.ok (.agg #[c0,c1]) w:=by kernel_rfl
 refine callsD_of_wpS Tryz.func124 rfl λc₀ cs hu=>?_;apply wpS_seq;apply wpS_region;simp[wpOpsS,go_sem,recoverD,hu,Tryz.ntmps124,Exit.thenS];apply wpS_seq;apply wpS_region;simp[wpOpsS,go_sem,Exit.thenS];refine wpS_cond (t:=true) (by simp[Act.eval,Array.replicate]) ?_;simp only[if_true];apply wpS_region;simp[wpOpsS,go_sem,bodyPostS,results,Tryz.results124,hta,hs0,hs1]
set_option maxRecDepth 10000 in
theorem Tryz.catch_idleR (p:Addr)(w:World):CallsD Tryz.prog 124 #[.pointer (some p)] .returning w λe u' w'=>e=.returned (.tuple #[])/\u'=.returning/\w'=w:=by
 refine callsD_of_wpS Tryz.func124 rfl λc₀ cs hu=>?_;apply wpS_seq;apply wpS_region;simp[wpOpsS,go_sem,recoverD,hu,Tryz.ntmps124,Exit.thenS];apply wpS_seq;apply wpS_region;simp[wpOpsS,go_sem,Exit.thenS];refine wpS_cond (t:=false) (by simp[Act.eval,Array.replicate]) ?_;simp only[Bool.false_eq_true,if_false];refine wpS_of_wp (wp_skip ?_);cases c₀
 simp_all [bodyPostS,results,Tryz.results124]
end Go.Proofs
namespace Go.Proofs
open Go.RowKit
theorem Tryz.box_cellsR {w:World}{b:Nat}{x0 x1:Value}{t:TypeId}(hbox:w.heap[b]? = some (.cells #[x0,x1] t (0,0)))(y0 y1:Value):(w.setCell ⟨b,0,none⟩ y0).cell? ⟨b,1,none⟩=some x1/\(w.setCell ⟨b,0,none⟩ y0).frozen? ⟨b,1,none⟩=false /\
   ((w.setCell ⟨b,0,none⟩ y0).setCell ⟨b,1,none⟩ y1).cell? ⟨b,0,none⟩=some y0/\((w.setCell ⟨b,0,none⟩ y0).setCell ⟨b,1,none⟩ y1).cell? ⟨b,1,none⟩=some y1:=by
 have sz:b<w.heap.size:=by rcases Nat.lt_or_ge b w.heap.size with h | h;exact h;rw[Array.getElem?_eq_none h]at hbox;cases hbox
 have hx:w.heap[b]=.cells #[x0,x1] t (0,0):=by rw[Array.getElem?_eq_getElem sz]at hbox;exact Option.some.inj hbox
 refine⟨?_,?_,?_,?_⟩ <;> simp[World.cell?,World.frozen?,World.setCell,hx,sz,Array.getElem_modify]
set_option maxRecDepth 10000 in
set_option maxHeartbeats 1000000 in
theorem Tryz.caught_inR (g:Nat)(caps:Array Value)(w:World)(eg:∀args w,(callFunc g args).run Tryz.prog w=.ok (.enter g args) w){R:Ending->World->Prop}
  (hj:Calls Tryz.prog g caps (w.alloc (.cells #[.i6 0,.string ⟨#[]⟩] 127)) R)
  (hR:∀e w2,R e w2->(∃t c0 c1,w2.heap[w.heap.size]? = some (.cells #[c0,c1] t (0,0)))/\((∃v,e=.returned v)\/∃c0 c1,Value.oneCell' c0=true/\Value.oneCell' c1=true/\e=.panicked [{ v:=.iface 127 (.agg #[c0,c1]),recovered:=false}])):Calls Tryz.prog 68 #[.func (.func g) caps #[]] w λe w'=>∃e2 w2,R e2 w2/\∃c0 c1,e=.returned (.agg #[c0,c1])/\w'=(w2.setCell ⟨w.heap.size,0,none⟩ c0).setCell ⟨w.heap.size,1,none⟩ c1 /\
   ((∃v,e2=.returned v/\c0=.i6 0/\c1=.string ⟨#[]⟩)\/e2=.panicked [{ v:=.iface 127 (.agg #[c0,c1]),recovered:=false}]):=by
 have hmf:∀(fn:Fn)(first cap:Array Value)(w:World),(Instr.makeFunc fn first cap).run Tryz.prog w=.ok (.func fn first cap) w:=λ_ _ _ _=>rfl
 go_enter_defers Tryz.func68,Tryz.ntmps68
 go_wp2
 refine hj.mono ?_;rintro e w2 hr;obtain⟨⟨t,x0,x1,hbox⟩,h⟩:=hR _ _ hr;have c0:w2.cell? ⟨w.heap.size,0,none⟩=some x0:=by simp[World.cell?,hbox]
 have c1:w2.cell? ⟨w.heap.size,1,none⟩=some x1:=by simp[World.cell?,hbox]
 have f0:w2.frozen? ⟨w.heap.size,0,none⟩=false:=by simp[World.frozen?,hbox]
 have f1:w2.frozen? ⟨w.heap.size,1,none⟩=false:=by simp[World.frozen?,hbox]
 have K:=λy0 y1=>Tryz.box_cellsR (w:=w2) hbox y0 y1;rcases h with ⟨v,rfl⟩ | ⟨y0,y1,o0,o1,rfl⟩
 ·obtain⟨k1,k2,k3,k4⟩:=K (.i6 0) (.string ⟨#[]⟩)
  go_wp2
  refine leaves_cons (f:=124) (args:=#[.pointer (some ⟨w.heap.size,0,none⟩)]) (by simp) (by simp[go_sem]) ?_;refine(Tryz.catch_idleR ⟨w.heap.size,0,none⟩ _).mono ?_;rintro e u' w'' ⟨rfl,rfl,rfl⟩;simp[Leaves,settle,results,Tryz.results68,go_sem,k3,k4];exact⟨_,_,hr,_,_,⟨rfl,rfl⟩,rfl,Or.inl ⟨⟨_,rfl⟩,rfl,rfl⟩⟩
 obtain⟨k1,k2,k3,k4⟩:=K y0 y1;refine leaves_cons (f:=124) (args:=#[.pointer (some ⟨w.heap.size,0,none⟩)]) (by simp) (by simp[go_sem]) ?_;refine(Tryz.catch_panickingR ⟨w.heap.size,0,none⟩ y0 y1 [] _ (wa:=w2.setCell ⟨w.heap.size,0,none⟩ y0) (w1:=(w2.setCell ⟨w.heap.size,0,none⟩ y0).setCell ⟨w.heap.size,1,none⟩ y1) ?_ ?_).mono ?_;rw[run_store _ _ _ _ _ o0];simp[c0,f0];rw[run_store _ _ _ _ _ o1];simp[k1,k2];rintro e u' w'' ⟨rfl,rfl,rfl⟩;simp[Leaves,settle,results,Tryz.results68,go_sem,k3,k4];exact⟨_,_,hr,_,_,⟨rfl,rfl⟩,rfl,Or.inr rfl⟩
end Go.Proofs
namespace Go.Gm
open Go.Proofs Go.RowKit
theorem Sim.asideR {E:Env}{H:Aa}{w w':World}(hs:Sim E H w){b:Nat}(h1:¬Nu E H b)(h2:∀o,E.I b o=none)(hh:∀x,x≠b->w'.heap[x]? = w.heap[x]?):Sim E H w':=by
 have ne:∀id b',loc E H id=some b'->b'≠b:=λid b' hl e=>h1 ⟨id,e ▸ hl⟩;constructor;intro id B hB;refine((hs.blk id B hB).keep (.refl E) (λb' hl=>hh b' (ne id b' ?_)) (λ_ _=>rfl)).1;unfold loc;rw[hB];exact hl;exact hs.dom;exact hs.domk;exact hs.late;exact hs.inj
 ·intro b' o v hv;have hne:b'≠b:=λe=>by rw[e,h2 o]at hv;cases hv
  have:=hs.imm b' o v hv;simp only[World.cell?]at this⊢;rw[hh b' hne];exact this
 ·intro b' cs hf;obtain⟨⟨t,fr,k1⟩,⟨v,k2⟩,k3⟩:=hs.fix b' cs hf;have hne:b'≠b:=λe=>by rw[e,h2 0]at k2;cases k2
  exact⟨⟨t,fr,by rw[hh b' hne];exact k1⟩,⟨v,k2⟩,k3⟩
def Uv {orc:Orc}(ho:G4 Tryz.prog Gs orc):AC Tryz.prog Gs 68 (ap1 (PC orc)):=by
 intro args H res H' h;unfold ap1 at h;split at h
 case h_2=>cases h
 rename_i job;unfold PC at h;split at h
 case h_2=>cases h
 rename_i caps;cases hr:orc 69 caps H with
 |none=>rw[hr]at h;cases h
 |some r=>
  obtain⟨r,H1⟩:=r;rw[hr]at h;cases hc:RQ r with
  |none=>simp[hc]at h
  |some x=>
   have hx:Res.ret x=res/\H1=H':=(by simpa[hc]using h);obtain⟨rfl,rfl⟩:=hx;intro E w vs hG hs hv;obtain⟨v,rfl,h1⟩:=Voz hv;cases h1 with
   |bfn hn hcv=>
    rename_i cv;obtain⟨s1,st1⟩:=hs.laid (.cells #[.i6 0,.string ⟨#[]⟩] 127);have hcs:AB E caps cv.toList:=⟨by simpa using hn,λi c u hi hu=>hcv i c u hi (by simpa using hu)⟩;obtain⟨b1,b2,b3⟩:=FW (show fnB 0 Tryz.f69=true by kernel_rfl);obtain⟨d1,d2,d3⟩:=FW (show fnB 0 Tryz.f68=true by kernel_rfl);have f69:Tryz.prog.funcs[69]? = some Tryz.f69:=Tryz.func69;have f68:Tryz.prog.funcs[68]? = some Tryz.f68:=Tryz.func68;have nb:¬Nu E H w.heap.size:=hs.free_new;have lt:w.heap.size<(w.alloc (.cells #[.i6 0,.string ⟨#[]⟩] 127)).heap.size:=(by simp[World.alloc,-World.alloc_eq]);rcases ho 69 caps H r H1 hr E _ cv hG s1 hcs with ⟨_,hj⟩ | ⟨v,w',h1,_⟩
    ·refine .inl ⟨FC f68 d1 d2 _ w,?_⟩;have hj':=Tryz.caught_inR 69 cv w (λa w=>FC f69 b1 b2 a w) hj ?_
     ·refine hj'.mono ?_;rintro e w' ⟨e2,w2,⟨E',k1,k2,k3⟩,c0,c1,rfl,rfl,hcase⟩;have no:¬Nu E' H1 w.heap.size:=λho=>(k3.own _ ho).elim nb (λh=>by omega);have ni:∀o,E'.I w.heap.size o=none:=λo=>(by rw[k3.imm _ o lt nb];exact hs.imm_new o);have hh:∀b,b≠w.heap.size->((w2.setCell ⟨w.heap.size,0,none⟩ c0).setCell ⟨w.heap.size,1,none⟩ c1).heap[b]? = w2.heap[b]? := λb hb=>(by simp[World.setCell,Xr,Ne.symm hb]);have st2:=st1.trans k3;refine⟨E',?_,k2.asideR no ni hh,st2.le,st2.os,st2.tape,st2.output,?_,λb hb ho=>?_,st2.own,st2.imm⟩
      ·rcases hcase with ⟨v,rfl,rfl,rfl⟩ | rfl
       ·cases r with
        |ret y=>cases hc;exact A3.agg rfl (by intro i c v hi hv;match i with
          |0=>simp at hi hv;subst hi;subst hv;exact .int _ _
          |1=>simp at hi hv;subst hi;subst hv;exact .str []
          |_+2=>simp at hi)
        |pan y=>exact zYf k1 id
       ·cases r with
        |ret y=>exact zYf k1 id
        |pan y=>
         obtain⟨v,hv1,hv2⟩:=k1;cases hv1;unfold RQ at hc;split at hc
         rename_i heq;cases heq
         ·rename_i heq;cases heq;cases hc;cases hv2 with
          |iface h=>exact h
         cases hc
      simpa[World.setCell]using st2.size;rw[hh b (by omega)];exact st2.frame b hb ho
     ·rintro e w2 ⟨E',k1,k2,k3⟩;refine⟨⟨127,_,_,by rw[k3.frame _ lt nb];exact World.heap_new w _⟩,?_⟩;cases r with
      |ret y=>cases e with|returned v=>exact .inl ⟨v,rfl⟩|_=>exact zYf k1 id
      |pan y=>cases e with
       |panicked ch=>
        obtain⟨v,rfl,hv2⟩:=k1;unfold RQ at hc;split at hc
        rename_i heq;cases heq
        ·rename_i heq;cases heq;cases hv2 with
         |iface h=>cases h with
          |agg hn hv => 
           rename_i n s vs;obtain⟨l⟩:=vs
           match l,hn,hv with
           |[a,b],hn,hv=>have h0:=hv 0 _ a rfl rfl;have h1:=hv 1 _ b rfl rfl;cases h0;cases h1;exact .inr ⟨_,_,rfl,rfl,rfl⟩
        cases hc
       |_=>exact zYf k1 id
    rw[FC f69 b1 b2]at h1;cases h1
open Go.Proofs
set_option maxRecDepth 100000
theorem Mb:AC Tryz.prog Gs 16 (ap0 Uad):=mk0 .pure (Aq _ _) [] Tryz.func16
theorem Rl:AC Tryz.prog Gs 77 (ap2 UbU):=mk2 .keep (Aq _ _) [] Tryz.func77
theorem PD:AC Tryz.prog Gs 36 (ap1 UbV):=mk1 .pure ((Ag Rl (Aq _ _))) [] Tryz.func36
theorem Cx:AC Tryz.prog Gs 126 (ap1 Uf0):=mk1 .keep (Aq _ _) [[]] Tryz.func126
theorem Ck:AC Tryz.prog Gs 128 (ap2 UaC):=mk2 .keep ((Ag Cx ((Ag Lc (Aq _ _))))) [[]] Tryz.func128
theorem Fx:AC Tryz.prog Gs 232 (ap2 Ua4):=mk2 .keep (Aq _ _) [] Tryz.func232
theorem Ld:AC Tryz.prog Gs 221 (ap2 UbW):=mk2 .keep ((Ag Fx (Aq _ _))) [] Tryz.func221
theorem OD:AC Tryz.prog Gs 222 (ap1 UbX):=mk1 .keep ((Ag Cx ((Ag Ck (Aq _ _))))) [[0]] Tryz.func222
theorem Cj:AC Tryz.prog Gs 127 (ap2 Ucz):=mk2 .keep ((Ag Cx (Aq _ _))) [[1000000]] Tryz.func127
theorem Jf:AC Tryz.prog Gs 129 (ap2 Ua5):=mk2 .keep ((Ag Cx ((Ag Ck ((Ag Cj (Aq _ _))))))) [[1000003,0,1],[1000006,0]] Tryz.func129
theorem Ib:AC Tryz.prog Gs 190 (ap2 Ua6):=mk2 .keep ((Ag Jf ((Ag Cx ((Ag Cj (Aq _ _))))))) [[1000000,0,1]] Tryz.func190
theorem Q3:AC Tryz.prog Gs 134 (ap2 UbY):=mk2 .keep (Aq _ _) [[0,1,5,12,13],[]] Tryz.func134
theorem Is:AC Tryz.prog Gs 187 (ap3 Uf8):=mk3 .keep ((Ag Q3 ((Ag Cj (Aq _ _))))) [[]] Tryz.func187
theorem F1:AC Tryz.prog Gs 223 (ap1 Ua7):=mk1 .keep (Aq _ _) [] Tryz.func223
theorem Je:AC Tryz.prog Gs 233 (ap2 Ued):=mk2 .keep ((Ag Fx (Aq _ _))) [] Tryz.func233
theorem Le:AC Tryz.prog Gs 224 (ap2 UbZ):=mk2 .keep ((Ag Je (Aq _ _))) [] Tryz.func224
theorem Ro:AC Tryz.prog Gs 225 (ap2 Uca):=mk2 .keep ((Ag Lb (Aq _ _))) [] Tryz.func225
theorem Uq:AC Tryz.prog Gs 226 (ap3 Ucb):=mk3 .pureN ((Ag DQ (Aq _ _))) [[0,1,7,8,17,18,19]] Tryz.func226
theorem TG:AC Tryz.prog Gs 196 (ap1 Ucd):=mk1 .pureN ((Ag Le ((Ag Uq ((Ag Ro (Aq _ _))))))) [[1000003,2,4,5,14],[2,5,6,36]] Tryz.func196
theorem Hg:AC Tryz.prog Gs 188 (ap3 Uap):=mk3 .keepN ((Ag Ck ((Ag Cj ((Ag F1 ((Ag TG (Aq _ _))))))))) [[1000002,0,2,6,7],[0,2,6,7,8],[1000013,0,2,6,7,8],[1000018,0,6,7],[0,1,2,3,4,5,6,7,8,9,10,11,12,14,15,13,16]] Tryz.func188
theorem Lf:AC Tryz.prog Gs 186 (ap1 Uch):=mk1 .keep ((Ag Ld ((Ag OD ((Ag Ib ((Ag Is ((Ag Hg (Aq _ _))))))))))) [[13,0,1,2,3,5,6,7,8,4,9,10,11,12],[9,0,1,2,3,5,6,4,7,8],[9,0,1,2,3,5,6,4,7,8]] Tryz.func186
theorem TD:AC Tryz.prog Gs 194 (ap1 Uci):=mk1 .keep (Aq _ _) [] Tryz.func194
theorem NY:AC Tryz.prog Gs 189 (ap2 UaZ):=mk2 .keep ((Ag Cx ((Ag TD ((Ag Cj (Aq _ _))))))) [[0,1,5],[],[1000006,0,5],[]] Tryz.func189
theorem MU:AC Tryz.prog Gs 125 (ap1 Ucj):=mk1 .keep ((Ag Ck ((Ag Lf ((Ag Is ((Ag Hg ((Ag NY ((Ag Ib (Aq _ _))))))))))))) [[0]] Tryz.func125
theorem LS:AC Tryz.prog Gs 191 (ap1 Ucl):=mk1 .keep ((Ag Ck ((Ag Cj ((Ag F1 (Aq _ _))))))) [[],[0,3,4],[1000006,0,3,4],[]] Tryz.func191
open Go.Proofs
set_option maxRecDepth 100000
theorem LQ:AC Tryz.prog Gs 193 (ap1 Uba):=mk1 .keep ((Ag Ck ((Ag Cj (Aq _ _))))) [[1000001,0],[],[],[1000015,0,3],[]] Tryz.func193
theorem D5:AC Tryz.prog Gs 206 (ap1 Ubb):=mv1 .keep (Aq _ _) [] Tryz.func206
theorem TF:AC Tryz.prog Gs 200 (ap1 Ucm):=mk1 .pureN ((Ag D5 ((Ag DQ (Aq _ _))))) [] Tryz.func200
theorem Ge:AC Tryz.prog Gs 153 (ap2 Ufq):=mk2 .pureN (Aq _ _) [] Tryz.func153
theorem QX:AC Tryz.prog Gs 151 (ap1 Uaq):=mk1 .pureN ((Ag TF ((Ag Ge (Aq _ _))))) [[1000002,0,2,3]] Tryz.func151
theorem MY:AC Tryz.prog Gs 204 (ap3 Ucn):=mk3 .keep (Aq _ _) [] Tryz.func204
theorem Ut:AC Tryz.prog Gs 155 (ap2 Ucp):=mk2 .pureN ((Ag MY ((Ag DQ (Aq _ _))))) [[1000001,0,1],[0,1,5,6,21,22,23],[1000014,0,1,5,6,7,8,9,21,22,23]] Tryz.func155
theorem MW:AC Tryz.prog Gs 207 (ap3 Ubc):=mk3 .keep (Aq _ _) [] Tryz.func207
theorem Uo:AC Tryz.prog Gs 157 (ap2 Ucq):=mk2 .pureN ((Ag JH ((Ag D5 ((Ag MW ((Ag DQ (Aq _ _))))))))) [[1,6,7,17,18],[1000015,1,6,7,8,9,17,18]] Tryz.func157
theorem Lw:AC Tryz.prog Gs 89 (ap2 Uft):=mk2 .pureN ((Ag Ut ((Ag Ge ((Ag Uo ((Ag JH (Aq _ _))))))))) [[2,3,4,5,6,0,1,7,8],[1000005,2,3,4]] Tryz.func89
theorem LR:AC Tryz.prog Gs 192 (ap3 Ube):=mk3 .keep ((Ag QX ((Ag Lw ((Ag F1 (Aq _ _))))))) [[1000004,0,1,2],[],[5,6,7,8,9,0,1,2,3,4,10,11,12],[0,2,6,56,57],[10,11,12,13,14,5,6,7,8,9,15,1,2,3,4,16,17,18,19,20,21,0,22,23,24]] Tryz.func192
theorem LP:AC Tryz.prog Gs 130 (ap1 Ucs):=mk1 .keep ((Ag LS ((Ag Ck ((Ag LQ ((Ag LR (Aq _ _))))))))) [[1000003,0]] Tryz.func130
theorem NX:AC Tryz.prog Gs 69 (ap1 UaA):=mk1 .keep ((Ag MU ((Ag Cx ((Ag Cj ((Ag Ck ((Ag Jf ((Ag LP (Aq _ _))))))))))))) [[0]] Tryz.func69
theorem LC:AC Tryz.prog Gs 68 (ap1 Ubf):=Uv ((Ag NX (Aq _ _)))
theorem J5:AC Tryz.prog Gs 148 (ap1 Ubg):=mk1 .pure (Aq _ _) [] Tryz.func148
theorem TH:AC Tryz.prog Gs 85 (ap1 Ubh):=mk1 .pure ((Ag LD (Aq _ _))) [] Tryz.func85
theorem Rs:AC Tryz.prog Gs 84 (ap1 Ucu):=mk1 .pure ((Ag TH (Aq _ _))) [] Tryz.func84
def EK:Orc:=AJ
def EI:T2 Tryz.prog Gs false EK Tryz.f139 (.tw .lf (.tw (.tw .lf (.one (.loop [0,1,7,8] (.tw .lf (.tw (.tw .lf .lf) (.tw (.one (.tw .lf (.tw .lf (.tw (.tw .lf .lf) .lf)))) .lf)))))) (.tw .lf .lf))) .keep Ufu:=by unfold T2;intros;kernel_rfl
theorem CP:AC Tryz.prog Gs 139 (ap2 Ufu):=Qp mixed ((Ag J5 ((Ag Rs (Aq _ _))))) Tryz.func139 (by kernel_rfl) EI
theorem DV:AC Tryz.prog Gs 83 (ap2 Ucv):=mk2 .keep ((Ag CP (Aq _ _))) [] Tryz.func83
theorem F0:AC Tryz.prog Gs 141 (ap1 Ucw):=mv1 .keep (Aq _ _) [] Tryz.func141
theorem ES:AC Tryz.prog Gs 142 (ap1 UaB):=mk1 .keep (Aq _ _) [[0,2,3],[0,1,4,5,6,7,8,9,10,11,12,13,2,3,14,15]] Tryz.func142
theorem Vay:AC Tryz.prog Gs 199 (ap2 Ubj):=mk2 .pure ((Ag JH (Aq _ _))) [] Tryz.func199
theorem Q7:AC Tryz.prog Gs 198 (ap1 Ucx):=mk1 .keep (Aq _ _) [[3,6,7,8]] Tryz.func198
theorem HC:AC Tryz.prog Gs 144 (ap2 UaD):=mk2 .pure ((Ag Vay ((Ag Q7 (Aq _ _))))) [[]] Tryz.func144
def EJ:Orc:=AF
def EH:T4 Tryz.prog Gs false EJ Tryz.f227 (.tw .lf (.one (.loop [0,1,2,3,8] (.tw (.tw .lf (.tw .lf .lf)) (.tw (.one (.tw .lf (.one (.loop [0,1,2,3,8,9] (.tw (.tw (.reg [0,1,2,3,4,5,6,7,8,9,10,11,12,13,14,15,16]) (.tw .lf .lf)) (.tw (.one (.reg [0,1,5,6,7,8,9,10,11,12,13,14,15,2,3,4,16,17])) .lf)))))) .lf))))) .keep UfA:=by unfold T4;intros;kernel_rfl
theorem ED:AC Tryz.prog Gs 227 (ap4 UfA):=VjU mixed ((Ag HC (Aq _ _))) Tryz.func227 (by kernel_rfl) EH
open Go.Proofs
set_option maxRecDepth 100000
theorem Fy:AC Tryz.prog Gs 240 (ap5 UaE):=mk5 .keep (Aq _ _) [[0,1,2,3,10],[0,1,2,3,8,9,10,11,12,13,14,15,16,17,18,19,20,21,4,5,6,7,22,23]] Tryz.func240
theorem FZ:AC Tryz.prog Gs 236 (ap5 Ubk):=mk5 .keep ((Ag Fy (Aq _ _))) [[0,2,4,10,11]] Tryz.func236
def FI (m:Nat):Orc:=Bh (UbO m)
def FH (m:Nat):T5 Tryz.prog Gs false (FI m) Tryz.f228 (.tw (.tw .lf (.tw (.tw .lf (.tw .lf (.tw (.one (.loop [0,1,4,10,11] (.tw (.tw .lf (.tw .lf .lf)) (.one (.tw .lf (.tw (.reg [0,1,2,3,4,5,6,7,8,9,10]) (.tw .lf .lf))))))) (.tw (.tw .lf (.one (.loop [0,10,13] (.tw (.tw .lf (.tw .lf .lf)) (.tw (.one (.reg [0,1,5,6,7,8,9,10,11,12,13,14,15,2,3,4,16,17])) .lf))))) .lf)))) .lf)) (.tw (.tw .lf (.tw (.tw .lf (.tw .lf (.tw (.one (.loop [0,2,4,14,15] (.tw (.tw .lf (.tw .lf .lf)) (.one (.tw .lf (.tw (.reg [0,1,2,3,4,5,6,7,8,9,10,11]) (.tw .lf .lf))))))) (.tw (.tw .lf (.one (.loop [0,14,17] (.tw (.tw .lf (.tw .lf .lf)) (.tw (.one (.reg [0,1,5,6,7,8,9,10,11,12,13,14,15,2,3,4,16,17])) .lf))))) .lf)))) .lf)) (.tw .lf (.tw .lf (.tw .lf (.join [0,1,2,3,4,18,19,20,21] (.tw .lf (.tw (.tw .lf .lf) (.tw .lf .lf))) (.tw .lf (.tw (.one (.loop [0,1,2,3,4,18,19,20,21,22] (.tw (.tw .lf (.tw .lf .lf)) (.one (.tw .lf (.tw (.reg [0,1,2,3,4,5,6,7,8,9,10,11,12,13]) (.tw .lf .lf))))))) (.tw .lf (.join [0,1,3,4,18,20,24] (.tw .lf (.tw .lf .lf)) (.join [0,3,4,18,24] (.tw .lf (.tw .lf .lf)) (.tw .lf (.tw .lf .lf))))))))))))) .keep (UbO (m+1)):=by unfold T5;intros;kernel_rfl
theorem Dl:∀m,AC Tryz.prog Gs 228 (ap5 (UbO m))
 |0=>Pa λ_ _ _ _ _ _=>rfl
 |m+1=>Tl mixed (Ag (Dl m) ((Ag HC ((Ag FZ (Aq _ _)))))) Tryz.func228 (by kernel_rfl) (FH m)
theorem FY:AC Tryz.prog Gs 197 (ap3 UaK):=mk3 .keep ((Ag ED ((Ag (Dl AI) (Aq _ _))))) [[0,1,2,6,7,8],[0,1,2,6],[0,1,2,6,7,8],[1000019,0,1,2,6]] Tryz.func197
theorem DN:AC Tryz.prog Gs 143 (ap2 UaL):=mk2 .keep ((Ag FY (Aq _ _))) [] Tryz.func143
theorem PF:AC Tryz.prog Gs 146 (ap2 Uc4):=mk2 .pure ((Ag HC (Aq _ _))) [] Tryz.func146
def Ep:Orc:=AN
def Em:T2 Tryz.prog Gs false Ep Tryz.f145 (.tw .lf (.tw (.tw .lf (.tw (.tw .lf .lf) .lf)) (.tw (.tw .lf (.one (.loop [0,1,5] (.tw (.tw .lf (.tw .lf .lf)) (.tw (.one (.tw (.reg [0,1,2,3,4,5,6,7,8,9,10]) (.tw (.tw .lf (.tw (.tw .lf (.one (.loop [0,1,5,6,7] (.tw (.tw .lf (.tw .lf .lf)) (.join [0,1,5,6,7] (.one (.tw (.reg [0,1,2,3,4,5,6,7,8,9,10,11]) (.tw (.tw .lf .lf) .lf))) .lf))))) (.tw .lf (.tw .lf .lf)))) .lf))) .lf))))) (.tw .lf .lf)))) .keepN Uas:=by unfold T2;intros;kernel_rfl
theorem Ej:AC Tryz.prog Gs 145 (ap2 Uas):=Qp mixed ((Ag PF (Aq _ _))) Tryz.func145 (by kernel_rfl) Em
def Ez:Orc:=Be
def Ew:T2 Tryz.prog Gs false Ez Tryz.f147 (.tw .lf (.tw .lf (.tw (.tw .lf (.tw (.tw .lf .lf) .lf)) (.tw (.tw .lf (.one (.loop [0,1,5,6] (.tw (.tw .lf (.tw .lf .lf)) (.join [0,1,5,6] (.one (.tw .lf (.tw .lf (.tw (.tw .lf .lf) .lf)))) .lf))))) (.tw .lf (.tw .lf .lf)))))) .keepN Uat:=by unfold T2;intros;kernel_rfl
theorem Es:AC Tryz.prog Gs 147 (ap2 Uat):=Qp mixed ((Ag CP ((Ag J5 (Aq _ _))))) Tryz.func147 (by kernel_rfl) Ew
theorem Rq:AC Tryz.prog Gs 86 (ap1 Uc5):=mk1 .pureN ((Ag F0 ((Ag ES ((Ag DN ((Ag Ej ((Ag Es (Aq _ _))))))))))) [] Tryz.func86
theorem Nm:AC Tryz.prog Gs 150 (ap1 Ubp):=mk1 .pureN ((Ag Ge (Aq _ _))) [] Tryz.func150
theorem Vaw:AC Tryz.prog Gs 149 (ap2 Uc6):=mk2 .pureN ((Ag Nm ((Ag Lw (Aq _ _))))) [[1,2,0,3,4]] Tryz.func149
theorem MX:AC Tryz.prog Gs 202 (ap1 Uc7):=mk1 .keep (Aq _ _) [[1000001,0,2],[1000005,0,2]] Tryz.func202
theorem Ur:AC Tryz.prog Gs 152 (ap1 Uc8):=mk1 .keep ((Ag DQ ((Ag MX (Aq _ _))))) [] Tryz.func152
theorem Rp:AC Tryz.prog Gs 87 (ap1 Ubq):=mk1 .pure ((Ag Ur ((Ag Nm ((Ag QX ((Ag Vaw (Aq _ _))))))))) [[1000001,1]] Tryz.func87
theorem TE:AC Tryz.prog Gs 203 (ap1 Uc9):=mk1 .keep (Aq _ _) [] Tryz.func203
theorem Up:AC Tryz.prog Gs 154 (ap2 UcB):=mk2 .pureN ((Ag TE ((Ag DQ (Aq _ _))))) [[1,5,19,20,21],[],[]] Tryz.func154
theorem Vax:AC Tryz.prog Gs 88 (ap1 UcC):=mk1 .pureN ((Ag Up ((Ag Ge (Aq _ _))))) [] Tryz.func88
theorem Us:AC Tryz.prog Gs 158 (ap2 UaN):=mk2 .keep (Aq _ _) [] Tryz.func158
def LN (m:Nat):Orc:=ent 90 (ap3 (UaO m)) (ent 158 (ap2 UaN) noO)
def LH (m:Nat):T3 Tryz.prog Gs false (LN m) Tryz.f90 (.tw .lf (.tw (.tw .lf (.tw (.tw .lf .lf) .lf)) (.tw .lf (.tw (.tw .lf (.one (.loop [0,1,7,17,18,19] (.tw .lf (.tw (.tw .lf .lf) (.tw (.one (.tw .lf (.tw .lf (.join [0,1,7,9,10,17,18,19] (.tw .lf (.tw .lf .lf)) (.join [0,1,7,9,10,17,18,19] (.tw .lf (.tw .lf .lf)) (.reg [1,2,3,4,5,6,0,7,8])))))) .lf)))))) (.tw .lf (.tw (.tw .lf (.one (.loop [0,1,11,48,49] (.tw .lf (.tw (.tw .lf .lf) (.tw (.one (.tw .lf (.one (.tw .lf (.tw .lf (.tw .lf (.tw .lf .lf))))))) .lf)))))) (.tw (.reg [1,2,3,4,5,6,7,0,8,9,10]) (.tw .lf .lf)))))))) .keep (UaO (m+1)):=by unfold T3;intros;kernel_rfl
theorem GR:∀m,AC Tryz.prog Gs 90 (ap3 (UaO m))
 |0=>Vcf λ_ _ _ _=>rfl
 |m+1=>Vgs mixed (Ag (GR m) ((Ag Us (Aq _ _)))) Tryz.func90 (by kernel_rfl) (LH m)
theorem Un:AC Tryz.prog Gs 208 (ap3 UcD):=mk3 .pure (Aq _ _) [[]] Tryz.func208
theorem Rm:AC Tryz.prog Gs 159 (ap1 Ubs):=mk1 .pure ((Ag Un (Aq _ _))) [[0,7,8,9],[0,3,7,8,9,23,24]] Tryz.func159
theorem Fz:AC Tryz.prog Gs 209 (ap1 UcF):=mk1 .keep (Aq _ _) [] Tryz.func209
theorem Q5:AC Tryz.prog Gs 238 (ap3 UcG):=mk3 .keep (Aq _ _) [] Tryz.func238
def GX:Orc:=CL
def GV:T2 Tryz.prog Gs false GX Tryz.f241 (.tw .lf (.tw (.tw .lf (.one (.loop [0,1,7,8] (.tw .lf (.tw (.tw .lf .lf) (.tw (.one (.tw .lf (.tw .lf (.tw (.tw .lf .lf) .lf)))) .lf)))))) (.tw .lf .lf))) .keep UcI:=by unfold T2;intros;kernel_rfl
theorem GM:AC Tryz.prog Gs 241 (ap2 UcI):=Qp mixed ((Ag Q5 (Aq _ _))) Tryz.func241 (by kernel_rfl) GV
theorem Ga:AC Tryz.prog Gs 237 (ap2 UcJ):=mk2 .keep ((Ag GM (Aq _ _))) [] Tryz.func237
open Go.Proofs
set_option maxRecDepth 100000
theorem MV:AC Tryz.prog Gs 230 (ap1 Ubt):=mk1 .pureN ((Ag Ga (Aq _ _))) [[3,10,11,12],[3,4,5,6,0,1,2,7,8]] Tryz.func230
theorem Rn:AC Tryz.prog Gs 210 (ap2 UcK):=mk2 .keep ((Ag MV (Aq _ _))) [] Tryz.func210
theorem Q6:AC Tryz.prog Gs 211 (ap2 UcN):=mk2 .keep ((Ag MV (Aq _ _))) [[0,5,28,29],[0,5,6,7,28,29,40,41]] Tryz.func211
theorem Q8:AC Tryz.prog Gs 212 (ap3 UcO):=mk3 .keep (Aq _ _) [] Tryz.func212
theorem PG:AC Tryz.prog Gs 160 (ap2 Ubu):=mk2 .pureN ((Ag Fz ((Ag Rn ((Ag Q6 ((Ag Q8 (Aq _ _))))))))) [[0,1],[0,1,6,25]] Tryz.func160
theorem Kt:AC Tryz.prog Gs 162 (ap2 Ubv):=mk2 .keep (Aq _ _) [[],[1,2,3,4,5,6,7,0,8,9,10],[]] Tryz.func162
def SI (m:Nat):Orc:=Ii (Ufr m)
def Sd (m:Nat):T5 Tryz.prog Gs false (SI m) Tryz.f161 (.tw .lf (.tw (.tw .lf (.tw .lf (.tw (.tw .lf .lf) .lf))) (.tw .lf (.join [0,1,4,9] (.tw .lf (.tw (.tw .lf (.one (.loop [0,1,3,4,9,30,31] (.tw .lf (.tw (.tw .lf .lf) (.tw (.one (.tw .lf .lf)) .lf)))))) .lf)) (.tw .lf (.tw .lf (.tw .lf .lf))))))) .keep (Ufr (m+1)):=by unfold T5;intros;kernel_rfl
theorem LE:∀m,AC Tryz.prog Gs 161 (ap5 (Ufr m))
 |0=>Pa λ_ _ _ _ _ _=>rfl
 |m+1=>Tl mixed (Ag (LE m) ((Ag Kt (Aq _ _)))) Tryz.func161 (by kernel_rfl) (Sd m)
def Vah:Orc:=JE
def Vab:T2 Tryz.prog Gs false Vah Tryz.f91 (.tw .lf (.tw (.tw .lf (.tw (.tw .lf .lf) .lf)) (.tw .lf (.tw .lf (.tw .lf (.tw .lf (.tw .lf (.tw .lf (.tw .lf .lf))))))))) .pureN Ubx:=by unfold T2;intros;kernel_rfl
theorem Uw:AC Tryz.prog Gs 91 (ap2 Ubx):=Qp mixed ((Ag Rm ((Ag PG ((Ag (LE AI) (Aq _ _))))))) Tryz.func91 (by kernel_rfl) Vab
theorem Uu:AC Tryz.prog Gs 39 (ap1 Ubz):=mk1 .pureN ((Ag DV ((Ag Rq ((Ag Rp ((Ag Vax ((Ag Lw ((Ag (GR AI) ((Ag Uw (Aq _ _))))))))))))))) [[2,4,5,19,20,21],[1,2,3,4,5,6,0,7,8],[2,5,8,9,40,41,42],[1,2,3,4,6,7,8,9,0,5,10,11,12,13,14,15,16]] Tryz.func39
theorem Ul:AC Tryz.prog Gs 29 (ap2 Uae):=mk2 .pureN ((Ag PD ((Ag LC ((Ag Uu (Aq _ _))))))) [[0,8,1,2,3,4,5,6,7,9,10],[]] Tryz.func29
theorem Ko:AC Tryz.prog Gs 104 (ap1 UcS):=mk1 .keep (Aq _ _) [] Tryz.func104
theorem Hi:AC Tryz.prog Gs 93 (ap1 Ub0):=mk1 .keep (Aq _ _) [] Tryz.func93
theorem Mh:AC Tryz.prog Gs 50 (ap1 UcT):=mk1 .keep ((Ag Hi (Aq _ _))) [[0,3]] Tryz.func50
theorem GP:AC Tryz.prog Gs 167 (ap1 Ub1):=mk1 .keep (Aq _ _) [[0,3],[0,3,4],[]] Tryz.func167
theorem Dc:AC Tryz.prog Gs 170 (ap1 Uaw):=mk1 .pureN (Aq _ _) [[0,3,4],[0,3,4,5,6]] Tryz.func170
theorem G0:AC Tryz.prog Gs 215 (ap2 Ub3):=mk2 .keep ((Ag Dc (Aq _ _))) [[0,1,5,6],[0,1,5,6,7,8]] Tryz.func215
def NW (m:Nat):Orc:=ent 218 (ap3 (Uf2 m)) noO
def NT (m:Nat):T3 Tryz.prog Gs false (NW m) Tryz.f218 (.tw .lf (.tw (.tw .lf (.one (.loop [0,1,2,7] (.tw (.tw .lf (.tw .lf .lf)) (.tw (.one (.tw .lf (.tw (.tw .lf .lf) .lf))) .lf))))) (.tw (.tw .lf (.one (.loop [0,1,2,8] (.tw (.tw .lf (.tw .lf .lf)) (.join [0,1,2,8] (.one (.tw .lf (.tw .lf .lf))) .lf))))) (.tw .lf .lf)))) .keep (Uf2 (m+1)):=by unfold T3;intros;kernel_rfl
theorem Ie:∀m,AC Tryz.prog Gs 218 (ap3 (Uf2 m))
 |0=>Vcf λ_ _ _ _=>rfl
 |m+1=>Vgs mixed (Ag (Ie m) (Aq _ _)) Tryz.func218 (by kernel_rfl) (NT m)
theorem Ln:AC Tryz.prog Gs 173 (ap1 Udf):=mk1 .pure ((Ag GP ((Ag G0 ((Ag Dc ((Ag (Ie AI) (Aq _ _))))))))) [[3,4,5],[3,4,5,6],[],[3,7,8]] Tryz.func173
theorem Lj:AC Tryz.prog Gs 105 (ap1 Udg):=mk1 .pure ((Ag Mh ((Ag Ln (Aq _ _))))) [] Tryz.func105
theorem EU:AC Tryz.prog Gs 28 (ap1 Ufv):=mk1 .pure (Aq _ _) [] Tryz.func28
theorem If:AC Tryz.prog Gs 219 (ap1 UaQ):=mk1 .keepN (Aq _ _) [[0]] Tryz.func219
theorem CY:AC Tryz.prog Gs 176 (ap1 Uem):=mk1 .pureN ((Ag If (Aq _ _))) [[0,3,4],[0,3,4,5,6]] Tryz.func176
theorem DY:AC Tryz.prog Gs 175 (ap1 UfB):=mk1 .pureN ((Ag If (Aq _ _))) [[0,3,4],[0,3,4,5,6,7],[1000016,0,3,4,5,6,7]] Tryz.func175
theorem EV:AC Tryz.prog Gs 109 (ap1 Uaf):=mk1 .keepN ((Ag CY ((Ag DY (Aq _ _))))) [] Tryz.func109
theorem D8:AC Tryz.prog Gs 119 (ap2 Ufw):=mk2 .pureN ((Ag EV (Aq _ _))) [] Tryz.func119
open Go.Proofs
set_option maxRecDepth 100000
theorem CS:AC Tryz.prog Gs 64 (ap1 UeN):=mk1 .pureN ((Ag D8 (Aq _ _))) [[1000002,0,2,3]] Tryz.func64
theorem Nh:AC Tryz.prog Gs 213 (ap2 Udj):=mk2 .pureN ((Ag CY ((Ag DY (Aq _ _))))) [[2,3,0,1,4,5,6]] Tryz.func213
theorem Nc:AC Tryz.prog Gs 166 (ap2 Udk):=mk2 .pureN ((Ag Nh ((Ag D8 (Aq _ _))))) [[2,3,4,5,0,1,6,7]] Tryz.func166
theorem Cb:AC Tryz.prog Gs 98 (ap1 Ufo):=mk1 .pureN ((Ag CS ((Ag Nc (Aq _ _))))) [] Tryz.func98
theorem FN:AC Tryz.prog Gs 182 (ap2 Ufp):=mk2 .keep (Aq _ _) [] Tryz.func182
theorem Nl:AC Tryz.prog Gs 120 (ap2 Udl):=mk2 .pureN ((Ag CY ((Ag FN ((Ag DY (Aq _ _))))))) [[5,6,7,8,9],[1000011,5,6,7,8,9,10],[1000014,5,6,7,8,9,10],[1000017,5,6,7,9,10]] Tryz.func120
theorem Nk:AC Tryz.prog Gs 183 (ap2 Udm):=mk2 .keep ((Ag CY ((Ag FN (Aq _ _))))) [[5,6,7]] Tryz.func183
theorem Ng:AC Tryz.prog Gs 121 (ap2 Ub5):=mk2 .pureN ((Ag Nk ((Ag CY ((Ag FN ((Ag DY (Aq _ _))))))))) [[6,7,8,9,10],[1000015,6,7,8,10,11],[1000018,6,7,8,10,11],[1000022,6,7,8,9,10,11]] Tryz.func121
theorem Cz:AC Tryz.prog Gs 63 (ap2 Uaa):=mk2 .pureN ((Ag Nl ((Ag D8 ((Ag Ng (Aq _ _))))))) [[2,3,4,5,6,0,1,7,8]] Tryz.func63
theorem C3:AC Tryz.prog Gs 97 (ap1 Ufx):=mk1 .pureN ((Ag D8 (Aq _ _))) [] Tryz.func97
theorem F3:AC Tryz.prog Gs 172 (ap2 Uf3):=mk2 .pureN ((Ag C3 ((Ag Cz (Aq _ _))))) [[1,2,0,3,4]] Tryz.func172
theorem Cy:AC Tryz.prog Gs 103 (ap2 Uab):=mk2 .pure ((Ag F3 (Aq _ _))) [] Tryz.func103
theorem Ll:AC Tryz.prog Gs 171 (ap3 Uay):=mk3 .pureN ((Ag Cb ((Ag Cy ((Ag Cz (Aq _ _))))))) [[0,4,5,7,8],[0,4,5,7,8,9,10,11],[1000014,0,4,5,7,8,9,10,11],[1000016,0,4,5,7,8,9,10,11,12,13],[],[1000024,0,4,5,7,8,9,10,11,15],[],[],[]] Tryz.func171
theorem GQ:AC Tryz.prog Gs 107 (ap1 Ub7):=mk1 .pure (Aq _ _) [] Tryz.func107
theorem It:AC Tryz.prog Gs 102 (ap1 Uaz):=mk1 .pureN ((Ag Ll ((Ag GQ ((Ag Cb ((Ag C3 ((Ag Cz ((Ag F3 (Aq _ _))))))))))))) [[0,1,2,3,4,5,7,8,9,6,10,12,13,14,11,15,16,17,18]] Tryz.func102
theorem Gz:AC Tryz.prog Gs 51 (ap2 Ub8):=mk2 .pure ((Ag It ((Ag CS ((Ag Cy (Aq _ _))))))) [[2,3,0,1,4,5,6,9,10,7,8,11,12,13,14]] Tryz.func51
theorem Md:AC Tryz.prog Gs 52 (ap1 UbA):=mk1 .pure (Aq _ _) [[1,3,4],[1,3,4,5]] Tryz.func52
theorem JI:AC Tryz.prog Gs 18 (ap3 Udr):=mk3 .pure ((Ag Gz ((Ag Md (Aq _ _))))) [] Tryz.func18
theorem Lk:AC Tryz.prog Gs 53 (ap3 Uds):=mk3 .pure ((Ag Ko ((Ag Lj ((Ag EU ((Ag JI (Aq _ _))))))))) [] Tryz.func53
theorem Nf:AC Tryz.prog Gs 122 (ap1 Uag):=mk1 .pure (Aq _ _) [[1,4,5]] Tryz.func122
theorem Oa:AC Tryz.prog Gs 184 (ap2 UbB):=mk2 .pure ((Ag Cb ((Ag C3 ((Ag Cy (Aq _ _))))))) [[1,2,0,3,4,5,6,7,8,9,10,11]] Tryz.func184
theorem JJ:AC Tryz.prog Gs 185 (ap3 Udt):=mk3 .pureN ((Ag Cb ((Ag Cy ((Ag F3 (Aq _ _))))))) [[1000003,4,5,7,8,9,10],[1000006,4,5,7,8,10],[0,1,3,4,2,5]] Tryz.func185
theorem Nb:AC Tryz.prog Gs 123 (ap3 Udu):=mk3 .pure ((Ag GQ ((Ag Oa ((Ag Cb ((Ag Cz ((Ag JJ (Aq _ _))))))))))) [[],[3,4,5,9],[0,1,2,3,4,5,6,7,8,9,10,11,12,14,15,16,17,13,18],[0,1,3,4,2,5]] Tryz.func123
theorem NZ:AC Tryz.prog Gs 65 (ap2 Udv):=mk2 .pureN ((Ag Gz ((Ag It ((Ag Nf ((Ag CS ((Ag Cz ((Ag Nb (Aq _ _))))))))))))) [[2,4,6,8,10,12,13],[2,4,6,8,10,12,13,14,15],[5,6,3,4,7,10,11,8,9,12,2,13,0,1,14,15]] Tryz.func65
theorem Nj:AC Tryz.prog Gs 56 (ap2 Udw):=mk2 .pureN ((Ag EV (Aq _ _))) [[0,1,6,7,8],[0,1,2,3,4,5,6,11,12,7,8,9,10,13]] Tryz.func56
open Go.Proofs
set_option maxRecDepth 100000
theorem Hj:AC Tryz.prog Gs 22 (ap1 Uah):=mk1 .pure ((Ag Nj (Aq _ _))) [[1,3,4]] Tryz.func22
theorem Na:AC Tryz.prog Gs 73 (ap1 Udz):=mk1 .pure (Aq _ _) [[1,3],[1,3,4]] Tryz.func73
theorem LY:AC Tryz.prog Gs 74 (ap1 Ud1):=mk1 .keep (Aq _ _) [[0,3,4],[1000007,0,3,4]] Tryz.func74
theorem Li:AC Tryz.prog Gs 75 (ap2 UaS):=mk2 .keep ((Ag CS ((Ag Hj (Aq _ _))))) [] Tryz.func75
theorem Ma:AC Tryz.prog Gs 76 (ap2 UbF):=mk2 .keep (Aq _ _) [] Tryz.func76
theorem Kn:AC Tryz.prog Gs 34 (ap1 Ud3):=mk1 .pureN ((Ag Na ((Ag LY ((Ag Ma ((Ag Li (Aq _ _))))))))) [[1,3,4,5,6],[1000009,1,3,4,5,6],[1000015,1,3,5,6,7,8],[1,3,4,5,6,7,8,9],[1,3,4,5,6,7,8,9,10],[]] Tryz.func34
theorem LX:AC Tryz.prog Gs 72 (ap1 Ud5):=mk1 .keep (Aq _ _) [[0,3,4,5],[1000008,0,3,4,5]] Tryz.func72
theorem LZ:AC Tryz.prog Gs 31 (ap2 Uai):=mk2 .pure ((Ag Lk ((Ag NZ ((Ag Hj ((Ag CS ((Ag Kn ((Ag LX (Aq _ _))))))))))))) [[1000008,2,7,9],[0,1,2,5,6,7,3,4,8,9,10],[2,3,4,7,8,9,10,11,0,1,5,6,12,13,14,15,16,17,18]] Tryz.func31
theorem Um:AC Tryz.prog Gs 67 (ap1 Uaj):=mk1 .pure ((Ag LC (Aq _ _))) [[]] Tryz.func67
def L0:AC Tryz.prog Gs 16 (ap0 Sl.gliderref11_Wide):=by rw[Sl.gliderref11_Wide_eq];exact Mb
def Nn:AC Tryz.prog Gs 29 (ap2 Sl.rle_Read):=by rw[Sl.rle_Read_eq];exact Ul
def Lz:AC Tryz.prog Gs 31 (ap2 Sl.gliderref13_Text):=by rw[Sl.gliderref13_Text_eq];exact LZ
def TJ:AC Tryz.prog Gs 67 (ap1 Sl.rle_Hint):=by rw[Sl.rle_Hint_eq];exact Um
theorem Lu:AC Tryz.prog Gs 27 (ap0 Uak):=mk0 .pure ((Ag L0 ((Ag Nn ((Ag Lz ((Ag TJ (Aq _ _))))))))) [] Tryz.func27
theorem B4:AC Tryz.prog Gs 42 (ap1 UdB):=mk1 .pure (Aq _ _) [] Tryz.func42
theorem ET:AC Tryz.prog Gs 43 (ap2 UfC):=mk2 .pure ((Ag B4 (Aq _ _))) [] Tryz.func43
theorem G3:AC Tryz.prog Gs 92 (ap2 UbH):=mk2 .keep (Aq _ _) [[0,1,5],[]] Tryz.func92
theorem MZ:AC Tryz.prog Gs 118 (ap1 Ud6):=mk1 .pure ((Ag B4 (Aq _ _))) [[1,2]] Tryz.func118
theorem BS:AC Tryz.prog Gs 61 (ap1 Uda):=mk1 .pure ((Ag B4 (Aq _ _))) [] Tryz.func61
theorem F2:AC Tryz.prog Gs 40 (ap1 Uf4):=mk1 .pure ((Ag B4 ((Ag BS (Aq _ _))))) [[1000005,1,2]] Tryz.func40
theorem Ic:AC Tryz.prog Gs 41 (ap2 Ufy):=mk2 .pure ((Ag G3 ((Ag BS (Aq _ _))))) [] Tryz.func41
theorem Ks:AC Tryz.prog Gs 163 (ap2 Ud8):=mk2 .keep (Aq _ _) [[0,1,5,6]] Tryz.func163
theorem Ni:AC Tryz.prog Gs 164 (ap3 Ud9):=mk3 .pureN ((Ag EV (Aq _ _))) [[0,1,7,8,9]] Tryz.func164
theorem Lr:AC Tryz.prog Gs 94 (ap1 UdA):=mk1 .pureN ((Ag Ks ((Ag Ni ((Ag C3 (Aq _ _))))))) [[1000003,2,4,5],[2,4,5,6,7]] Tryz.func94
theorem Id:AC Tryz.prog Gs 45 (ap2 Ufz):=mk2 .pureN ((Ag ET ((Ag B4 ((Ag BS ((Ag Lr (Aq _ _))))))))) [[1000007,2,4,5,6,7],[2,4,5,6,7,8],[0,2,1,3]] Tryz.func45
open Go.Proofs
set_option maxRecDepth 100000
theorem Kl:AC Tryz.prog Gs 131 (ap2 UbK):=mk2 .pure ((Ag G3 ((Ag MZ ((Ag F2 ((Ag Ic ((Ag Id (Aq _ _))))))))))) [[0,1,2,4,3,5],[0,1,3,2,4]] Tryz.func131
theorem LW:AC Tryz.prog Gs 44 (ap1 Ua0):=mk1 .pure ((Ag B4 ((Ag Hi ((Ag BS (Aq _ _))))))) [[1,2,4],[0,7,1,2,3,4,5,6,8]] Tryz.func44
theorem LU:AC Tryz.prog Gs 70 (ap2 UdC):=mk2 .pure ((Ag ET ((Ag Kl ((Ag Ic ((Ag Id ((Ag LW ((Ag F2 (Aq _ _))))))))))))) [[2,3,4,5],[0,1,3,2,4]] Tryz.func70
theorem Lh:AC Tryz.prog Gs 132 (ap1 UdD):=mk1 .pure ((Ag B4 ((Ag BS (Aq _ _))))) [[1,2,5,6],[]] Tryz.func132
theorem LT:AC Tryz.prog Gs 133 (ap1 UbL):=mk1 .pure ((Ag B4 ((Ag BS (Aq _ _))))) [[0,14,1,2,3,4,5,6,7,8,9,10,11,12,13,15]] Tryz.func133
theorem Lg:AC Tryz.prog Gs 71 (ap3 UdE):=mk3 .keep ((Ag Lh ((Ag ET ((Ag LT ((Ag BS ((Ag CS ((Ag Cz (Aq _ _))))))))))))) [[0,2,1,3],[0,2,1,3],[0,2,1,3],[0,1,3,2,4],[0,2,1,3],[3,4,6,7,8,10,11],[4,5,6,7,8,2,3,9,12,13,14,10,11,15,0,1,16,17,18,19,20,21,22],[0,2,1,3]] Tryz.func71
theorem Km:AC Tryz.prog Gs 46 (ap4 Ua3):=mk4 .pureN (Aq _ _) [[0,5,1,2,3,4,6,7],[0,4,1,2,3,5,6]] Tryz.func46
theorem Lt:AC Tryz.prog Gs 55 (ap1 UdF):=mk1 .keep (Aq _ _) [] Tryz.func55
theorem Ls:AC Tryz.prog Gs 21 (ap1 UbM):=mk1 .pure ((Ag Lt (Aq _ _))) [] Tryz.func21
theorem Lm:AC Tryz.prog Gs 165 (ap2 UbN):=mk2 .pure ((Ag Cy (Aq _ _))) [] Tryz.func165
theorem Me:AC Tryz.prog Gs 95 (ap1 UdJ):=mk1 .pureN ((Ag Lm (Aq _ _))) [[0,3,4],[0,3,4,5],[],[],[1000015,0,3,4,5,7],[],[3,8,9],[1000024,3,8,9]] Tryz.func95
theorem Kq:AC Tryz.prog Gs 96 (ap2 UdK):=mk2 .pure ((Ag Cb ((Ag C3 ((Ag Cy (Aq _ _))))))) [] Tryz.func96
def LL (m:Nat):Orc:=ent 99 (ap5 (Uf6 m)) (ent 98 (ap1 Ufo) (ent 103 (ap2 Uab) (ent 63 (ap2 Uaa) noO)))
def LF (m:Nat):T5 Tryz.prog Gs false (LL m) Tryz.f99 (.tw .lf (.tw (.tw .lf (.tw (.tw .lf .lf) .lf)) (.tw .lf (.tw .lf (.tw (.tw .lf (.one (.loop [0,1,4,7,8,12,13,14] (.tw (.tw .lf (.tw .lf .lf)) (.join [0,1,4,7,8,12,13,14] (.one (.tw (.reg [0,2,3,4,1,5]) (.join [0,1,4,7,8,12,13,14,15,16] (.tw .lf (.tw .lf .lf)) (.join [0,1,4,7,8,12,13,14,15,16] (.tw .lf (.tw .lf .lf)) (.tw .lf (.tw (.tw .lf (.one (.loop [0,1,4,7,8,12,13,14,15,16,17,18] (.tw (.tw .lf (.tw .lf .lf)) (.join [0,1,4,7,8,12,13,14,15,16,17,18] (.one (.tw (.reg [0,1,2,3,4,5,6,7,8,14,15,16,9,10,11,12,13,17,18,19,20,21,22,23,24,25,26,27,28,29,30,36,37,38,31,32,33,34,35,39,40,41]) (.tw .lf .lf))) .lf))))) (.join [0,1,4,7,8,12,13,14,15,16,17] (.tw .lf (.tw .lf .lf)) (.tw .lf (.tw .lf .lf))))))))) .lf))))) (.tw .lf (.tw .lf .lf))))))) .keep (Uf6 (m+1)):=by unfold T5;intros;kernel_rfl
theorem GN:∀m,AC Tryz.prog Gs 99 (ap5 (Uf6 m))
 |0=>Pa λ_ _ _ _ _ _=>rfl
 |m+1=>Tl mixed (Ag (GN m) ((Ag Cb ((Ag Cy ((Ag Cz (Aq _ _)))))))) Tryz.func99 (by kernel_rfl) (LF m)
theorem Lq:AC Tryz.prog Gs 214 (ap2 UdN):=mk2 .keep ((Ag Dc (Aq _ _))) [] Tryz.func214
theorem Lp:AC Tryz.prog Gs 216 (ap3 UdO):=mk3 .keep (Aq _ _) [] Tryz.func216
theorem Kr:AC Tryz.prog Gs 168 (ap2 UdQ):=mk2 .pureN ((Ag Lq ((Ag G0 ((Ag Lp (Aq _ _))))))) [[1,6],[1,6,7,8]] Tryz.func168
theorem Mf:AC Tryz.prog Gs 217 (ap2 UbR):=mk2 .pure (Aq _ _) [[0,3,5],[]] Tryz.func217
def LM (m:Nat):Orc:=ent 169 (ap5 (UfD m)) (ent 217 (ap2 UbR) noO)
def LG (m:Nat):T5 Tryz.prog Gs false (LM m) Tryz.f169 (.tw .lf (.tw (.tw .lf (.tw (.tw .lf .lf) .lf)) (.tw (.tw .lf (.tw (.tw (.reg [0,1,2,3,4,5,6,7,8]) .lf) .lf)) (.tw .lf (.tw (.tw .lf (.one (.loop [0,1,2,3,4,13,14] (.tw (.tw .lf (.tw .lf .lf)) (.tw (.one .lf) .lf))))) (.tw .lf (.join [2,3,4,15] (.tw .lf (.tw (.tw .lf .lf) .lf)) (.tw .lf (.tw .lf .lf))))))))) .keep (UfD (m+1)):=by unfold T5;intros;kernel_rfl
theorem GO:∀m,AC Tryz.prog Gs 169 (ap5 (UfD m))
 |0=>Pa λ_ _ _ _ _ _=>rfl
 |m+1=>Tl mixed (Ag (GO m) ((Ag Mf (Aq _ _)))) Tryz.func169 (by kernel_rfl) (LG m)
theorem Oc:AC Tryz.prog Gs 100 (ap2 UdT):=mk2 .pureN ((Ag GP ((Ag Kr ((Ag Dc ((Ag (GO AI) (Aq _ _))))))))) [[1,2,0,3,4,5,6,7,8,9,10,11,12,13,14,15]] Tryz.func100
theorem Ob:AC Tryz.prog Gs 47 (ap1 UbT):=mk1 .pureN ((Ag Ls ((Ag Me ((Ag Kq ((Ag Cb ((Ag C3 ((Ag (GN AI) ((Ag Oc (Aq _ _))))))))))))))) [[0,2,4],[2,5,6,7],[2,5,6,7]] Tryz.func47
theorem LV:AC Tryz.prog Gs 30 (ap2 Uam):=mk2 .pureN ((Ag EU ((Ag LU ((Ag B4 ((Ag BS ((Ag F2 ((Ag Lg ((Ag Km ((Ag Ob (Aq _ _))))))))))))))))) [[3,4,7,8]] Tryz.func30
theorem Lo:AC Tryz.prog Gs 101 (ap2 UdX):=mk2 .keep (Aq _ _) [[0,1,5],[]] Tryz.func101
theorem Mg:AC Tryz.prog Gs 48 (ap2 UdY):=mk2 .pure ((Ag Lo (Aq _ _))) [] Tryz.func48
theorem Mc:AC Tryz.prog Gs 15 (ap2 Uan):=mk2 .pure ((Ag Mg (Aq _ _))) [] Tryz.func15
def Ku:AC Tryz.prog Gs 27 (ap0 Sl.gliderlaw18_alive):=by rw[Sl.gliderlaw18_alive_eq];exact Lu
open Go.Proofs
set_option maxRecDepth 100000
def L2:AC Tryz.prog Gs 28 (ap1 Sl.gliderref11_Fine):=by rw[Sl.gliderref11_Fine_eq];exact EU
def Ly:AC Tryz.prog Gs 30 (ap2 Sl.gliderref18_Read):=by rw[Sl.gliderref18_Read_eq];exact LV
def L1:AC Tryz.prog Gs 15 (ap2 Sl.gliderref11_Same):=by rw[Sl.gliderref11_Same_eq];exact Mc
theorem Jp:AC Tryz.prog Gs 9 (ap2 UeM):=mk2 .pure ((Ag Ku ((Ag L2 ((Ag Nn ((Ag Ly ((Ag L1 (Aq _ _))))))))))) [] Tryz.func9
def Lx (H:Aa)(p:Nat)(b:zAa)(a:Nat)(r:List Ab):Prop:=H[p]? = some (.c0 (.str b::.i6 (a:Int)::r))
def Rj {H:Aa}{p a:Nat}{b:zAa}{r:List Ab}(h:Lx H p b a r):Ad false 1 (.ptr p 0 0) H=some (.str b):=by simp only[Ad,A0 h,Option.bind];rfl
def Gl {H:Aa}{p a:Nat}{b:zAa}{r:List Ab}(h:Lx H p b a r):Ad false 1 (.ptr p 0 1) H=some (.i6 (a:Int)):=by simp only[Ad,A0 h,Option.bind];rfl
def IT {H:Aa}{p a:Nat}{b:zAa}{r:List Ab}(h:Lx H p b a r):Uf0 (.ptr p 0 0) H=some (.ret (.bool (decide (a=b.length))),H):=by
 unfold Uf0;simp only[GMw,Ah,Aj,VK,Rj h,Gl h];by_cases e:a=b.length
 ·have e':(a:Int)=(b.length:Int):=by omega
  simp[e]
 ·have e':¬(a:Int)=(b.length:Int):=by omega
  simp[e,e']
def Th (e:Int)(s:zAa):Ab:=.iface Jr (.agg [.i6 e,.str s])
def N5 {H:Aa}{p a:Nat}{b:zAa}{r:List Ab}(h:Lx H p b a r)(s:zAa):Ucz (.ptr p 0 0) (.str s) H=some (.pan (if a=b.length then Th 3 s else Th 2 []),H):=by
 unfold Ucz;simp only[GMw,IT h];by_cases e:a=b.length
 ·simp only[e,GMw]
  rfl
 ·simp only[e,GMw]
  rfl
theorem MF {H:Aa}(x:Ab):Ua7 x H=some (.pan (Th 4 []),H):=rfl
def Vv (l:zAa)(c:UInt8):(0<=Lib.indexByte l c)↔c∈l:=by
 induction l with
 |nil=>simp[Lib.indexByte]
 |cons b l ih=>have hge:=Lib.indexByte_ge l c;unfold Lib.indexByte;by_cases h:b=c;simp[h];have h':¬c=b:=λe=>h e.symm;by_cases h2:Lib.indexByte l c = -1;have:¬c∈l:=λhm=>(by have:=ih.2 hm;omega);simp[h,h',h2,this];have h3:0<=Lib.indexByte l c:=(by omega);have h4:=ih.1 h3;simp[h,h2,h4];omega
def AE (b:zAa)(a:Nat)(some:zAa):Bool:=match b[a]? with
 |none=>false
 |Option.some c=>some.contains c
def E5 {H:Aa}{p a:Nat}{b:zAa}{r:List Ab}(h:Lx H p b a r)(ha:a<=b.length)(s:zAa):UaC (.ptr p 0 0) (.str s) H=some (.ret (.bool (AE b a s)),H):=by
 unfold UaC AE;simp only[GMw,IT h];by_cases e:a=b.length;simp only[e,GMw];rw[zYa (VM _)]
 ·have hlt:a<b.length:=by omega
  rw[VG hlt];have hi:UaX (.str s) (.int .u8 (b[a].toNat:Int)) H=some (.ret (.i6 (Lib.indexByte s b[a])),H):=by unfold UaX;simp
  simp only[e,GMw,Ah,Aj,VK,Rj h,Gl h,AQ hlt,hi];by_cases hm:b[a]∈s;have:=(Vv s b[a]).2 hm;simp[hm,this];have:¬0<=Lib.indexByte s b[a]:=λhc=>hm ((Vv s b[a]).1 hc);simp[hm,this]
def N6 {H:Aa}{p a:Nat}{b:zAa}{r:List Ab}(h:Lx H p b a r)(n:Int):Ae 1 (.ptr p 0 1) (.i6 n) H=some (H.set p (.c0 (.str b::.i6 n::r))):=by simp only[Ae,A0 h,Option.bind,Ab.acells];simp[BE h,D3]
def Vn8 {H:Aa}{p a a':Nat}{b:zAa}{r:List Ab}(h:Lx H p b a r):Lx (H.set p (.c0 (.str b::.i6 (a':Int)::r))) p b a' r:=by
 have:p<H.length:=by rcases W4 p H.length with h' | h';exact h';unfold Lx at h;rw[zYa h']at h;cases h
 unfold Lx;simp[this]
end Go.Gm
