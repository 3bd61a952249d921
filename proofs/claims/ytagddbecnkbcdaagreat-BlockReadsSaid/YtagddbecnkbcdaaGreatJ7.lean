/- Texts of this proof, joined. -/
import Derived.Test.YtagddbecnkbcdaaGreatJ3
import Derived.Test.YtagddbecnkbcdaaGreatJ4
import Derived.Test.YtagddbecnkbcdaaGreatJ5
import Derived.Test.YtagddbecnkbcdaaGreatJ6
import Derived.OrdersIn
import Derived.TacticsIn
import Derived.RangeFuncCalls
import Derived.Shelf.RegionOpen
import Derived.Laws.ResultCell
import Derived.Test.YtagddbecnkbcdaaGreatProg
import Derived.WalkKit
import Derived.Tactics
import Derived.Tactics2
import Derived.Defers
import Derived.Recover
import Derived.Laws.Pointers
import Derived.Test.YtagddbecnkbcdaaGreatChecked
import Derived.KernelRfl
import Derived.Lib.Bytealg
set_option linter.all false
namespace Go.Gm
section
variable {p g:Nat}{f:Ab}{self:Ab->Ab->Ab->Ab->Ab->Aa->Out}
theorem Oo {i j:Nat}(hi:i<1000000000)(hj:j<1000000000):AA .u64 (.i6 ((i:Int)+(j:Int)))=some (.int .u64 ((i+j:Nat):Int))/\IntKind.i64.wrap ((i:Int)+(j:Int))=(i:Int)+(j:Int) /\
  Af .none .shr (.int .u64 ((i+j:Nat):Int)) (.int .u64 1)=some (.int .u64 (((i+j) / 2:Nat):Int))/\AA .i64 (.int .u64 (((i+j) / 2:Nat):Int))=some (.i6 (((i+j) / 2:Nat):Int)):=by
 refine⟨?_,by rw[Ao] <;> omega,?_,?_⟩
 ·rw[Bl];have:IntKind.u64.wrap ((i:Int)+(j:Int))=((i+j:Nat):Int):=by
   rw[show (i:Int)+(j:Int)=((i+j:Nat):Int)by omega];exact BK (by omega) (by omega)
  rw[this]
 ·have hs:Af .none .shr (.int .u64 ((i+j:Nat):Int)) (.int .u64 1)=some (.int .u64 (Int.fdiv ((i+j:Nat):Int) (2^(min (1:Int).toNat IntKind.u64.bits)))):=rfl;rw[hs,show (2:Int)^(min (1:Int).toNat IntKind.u64.bits)=2 from by decide,W7 _ (by omega)]
  congr 2
 ·rw[Bl,wrap_nat (by omega)]
theorem sym_up {l:List Cl}{i a:Nat}{H0 H:Aa}(h:De H p g l)(hi:i<=l.length)(ha:a<i)(hl:l.length<1000000000) :
  Am (λaA vs H1=>Sh.f1v H0 aA (ag vs 0) (ag vs 1) (ag vs 2) H1) AM [dV p g l.length,.i6 (i:Int),.i6 (a:Int)] H=some (.ret (.tup []),BW H p g (upR a (i-1-a) l)):=by
 have hlen:∀k,(upR a k l).length=l.length:=λk=>by
  induction k with
  | zero=>rfl
  | succ k ih=>unfold upR;rw[MD,ih]
 have key:=Cj (G:=λaA vs H1=>Sh.f1v H0 aA (ag vs 0) (ag vs 1) (ag vs 2) H1) (i-1-a)
  (λk=>[dV p g l.length,.i6 (i:Int),.i6 ((a+k:Nat):Int)]) (λk=>BW H p g (upR a k l)) (some (.ret (.tup []),BW H p g (upR a (i-1-a) l))) (by omega) (λrec k hk=>?_) (λrec=>?_)
 ·rw[show upR a 0 l=l from rfl,CM h]at key;exact key
 ·unfold Sh.f1v;have hr:De (BW H p g (upR a k l)) p g (upR a k l):=Dj h;have aZ:=hlen k;have hw:IntKind.i64.wrap ((i:Int)-1)=((i-1:Nat):Int):=by rw[Ao] <;> omega
  have hd:decide (((a+k:Nat):Int)<((i-1:Nat):Int))=true:=zXc (by omega);have eX:=As (show a+k<9223372036854775807 by omega);have i1:a+k<(upR a k l).length:=by omega
  have i2:a+k+1<(upR a k l).length:=by omega
  obtain⟨s1,s2⟩:=Rt hr i1 i2;rw[BB]at s1 s2;rw[BB]at s2;simp only[An,Ai,Bb,Bd,GMw,hw,hd,eX,Ce (show a+k<l.length by omega),Ce (show a+k+1<l.length by omega),CB hr i1,CB hr i2,BQ,s1,s2,BC,AC]
  rfl
 ·unfold Sh.f1v;have hw:IntKind.i64.wrap ((i:Int)-1)=((i-1:Nat):Int):=by rw[Ao] <;> omega
  have hd:decide (((a+(i-1-a):Nat):Int)<((i-1:Nat):Int))=false:=zXd (by omega);simp only[An,Ai,Bb,Bd,GMw,hw,hd]
theorem sym_dn {l:List Cl}{i m:Nat}{H0 H:Aa}(h:De H p g l)(hi:i<=m)(hm:m<l.length)(hl:l.length<1000000000) :
  Am (λeG vs H1=>Sh.f1x H0 eG (ag vs 0) (ag vs 1) (ag vs 2) H1) AM [dV p g l.length,.i6 (i:Int),.i6 (m:Int)] H=some (.ret (.tup []),BW H p g (dnR m (m-i) l)):=by
 have hlen:∀k,(dnR m k l).length=l.length:=λk=>by
  induction k with
  | zero=>rfl
  | succ k ih=>unfold dnR;rw[MD,ih]
 have key:=Cj (G:=λeG vs H1=>Sh.f1x H0 eG (ag vs 0) (ag vs 1) (ag vs 2) H1) (m-i)
  (λk=>[dV p g l.length,.i6 (i:Int),.i6 ((m:Int)-(k:Int))]) (λk=>BW H p g (dnR m k l)) (some (.ret (.tup []),BW H p g (dnR m (m-i) l))) (by omega) (λrec k hk=>?_) (λrec=>?_)
 ·rw[show dnR m 0 l=l from rfl,CM h,show (m:Int)-((0:Nat):Int)=(m:Int)by omega]at key;exact key
 ·unfold Sh.f1x;have hr:De (BW H p g (dnR m k l)) p g (dnR m k l):=Dj h;have aZ:=hlen k;have e:(m:Int)-(k:Int)=((m-k:Nat):Int):=by omega
  have e2:(m:Int)-((k+1:Nat):Int)=((m-k-1:Nat):Int):=by omega
  have hd:decide (((m-k:Nat):Int)>(i:Int))=true:=zXc (by omega);have eX:IntKind.i64.wrap (((m-k:Nat):Int)-1)=((m-k-1:Nat):Int):=by rw[Ao] <;> omega
  have i1:m-k<(dnR m k l).length:=by omega
  have i2:m-k-1<(dnR m k l).length:=by omega
  obtain⟨s1,s2⟩:=Rt hr i1 i2;rw[BB]at s1 s2;rw[BB]at s2;simp only[An,Ai,Bb,Bd,GMw,e,e2,hd,eX,Ce (show m-k<l.length by omega),Ce (show m-k-1<l.length by omega),CB hr i1,CB hr i2,BQ,s1,s2,BC,AC]
  rfl
 ·unfold Sh.f1x;have e:(m:Int)-((m-i:Nat):Int)=(i:Int):=by omega
  have hd:decide ((i:Int)>(i:Int))=false:=zXd (by omega);simp only[An,Ai,Bb,Bd,GMw,e,hd]

end
section
variable {p g:Nat}{f:Ab}{self:Ab->Ab->Ab->Ab->Ab->Aa->Out}{l0:List Cl}
abbrev Tz (f:Ab)(l0:List Cl):Prop:=∀self,Ta (Bc self) f l0
theorem sym_l1 (hf:Tz f l0){l:List Cl}{a m b:Nat}{H0 H:Aa}(h:De H p g l)(hm:∀c∈l,c∈l0)(ha:a<l.length)(vG:m<=b)(hb:b<=l.length)(hl:l.length<1000000000)
  (mono:∀c d,m<=c->c<=d->d<b->IE ltC l d a=true->IE ltC l c a=true) :
  ∃s,BsI (λc=>IE ltC l c a) m b s s/\Am (λrec1 vs H1=>Sh.f1w H0 self rec1 (ag vs 0) (ag vs 1) (ag vs 2) (ag vs 3) (ag vs 4) H1) AM [dV p g l.length,.i6 (a:Int),f,.i6 (m:Int),.i6 (b:Int)] H =
   Am (λaA vs H1=>Sh.f1v H0 aA (ag vs 0) (ag vs 1) (ag vs 2) H1) AM [dV p g l.length,.i6 (s:Int),.i6 (a:Int)] H:=by
 have key:=Ep (G:=λrec1 vs H1=>Sh.f1w H0 self rec1 (ag vs 0) (ag vs 1) (ag vs 2) (ag vs 3) (ag vs 4) H1) (σ:=Nat×Nat)
  (λs vs H1=>BsI (λc=>IE ltC l c a) m b s.1 s.2/\vs=[dV p g l.length,.i6 (a:Int),f,.i6 (s.1:Int),.i6 (s.2:Int)]/\H1=H) (λs=>s.2-s.1) (λs=>¬s.1<s.2) (λs vs H1 hI hd=>?_)
  (s:=(m,b)) (vs:=[dV p g l.length,.i6 (a:Int),f,.i6 (m:Int),.i6 (b:Int)]) (H:=H) ⟨.start vG,rfl,rfl⟩ (by dsimp only;omega)
 ·obtain⟨⟨i,j⟩,vs,H1,hd,⟨hI,rfl,rfl⟩,rec,aB⟩:=key;dsimp only at hI hd aB;obtain⟨q1,q2,q3⟩:=hI.le;have e:j=i:=by omega
  subst e;refine⟨j,hI,?_⟩;rw[aB];have bQ:decide ((j:Int)<(j:Int))=false:=zXd (by omega)
  conv=>lhs;unfold Sh.f1w
  simp only[An,Ai,Bb,Bd,B7,Cb,GMw,bQ]
 ·obtain⟨i,j⟩:=s;obtain⟨hI,rfl,rfl⟩:=hI;dsimp only at hI hd ⊢;obtain⟨q1,q2,q3⟩:=hI.le;have hij:i<j:=by omega
  obtain⟨k,hk⟩:∃k,k=(i+j) / 2:=⟨_,rfl⟩;obtain⟨w1,w2,w3,w4⟩:=Oo (i:=i) (j:=j) (by omega) (by omega);rw[<-hk]at w3 w4;have bV:k<l.length:=by omega
  have c1:=hf self l[k] (hm _ (UV bV)) l[a] (hm _ (UV ha));have bQ:decide ((i:Int)<(j:Int))=true:=zXc (by omega);have eX:=As (show k<9223372036854775807 by omega);have hlt:IE ltC l k a=ltC l[k] l[a]:=QN bV ha;cases hc:ltC l[k] l[a]with
  | true=>
   refine⟨(k+1,j),_,_,by dsimp only;omega,⟨hI.yes mono (by omega) (by omega) (by rw[hlt,hc]),rfl,rfl⟩,λrec=>?_⟩;unfold Sh.f1w;simp only[An,Ai,Bb,Bd,B7,Cb,GMw,bQ,w1,w2,w3,w4,Ce bV,Ce ha,CB h bV,CB h ha,BQ,c1,BC,K5,hc,eX]
  | false=>
   refine⟨(i,k),_,_,by dsimp only;omega,⟨hI.no mono (by omega) (by omega) (by rw[hlt,hc]),rfl,rfl⟩,λrec=>?_⟩;unfold Sh.f1w;simp only[An,Ai,Bb,Bd,B7,Cb,GMw,bQ,w1,w2,w3,w4,Ce bV,Ce ha,CB h bV,CB h ha,BQ,c1,BC,K5,hc]
theorem sym_l3 (hf:Tz f l0){l:List Cl}{a m:Nat}{H0 H:Aa}(h:De H p g l)(hm:∀c∈l,c∈l0)(Yj:a<=m)(hml:m<l.length)(hl:l.length<1000000000)
  (mono:∀c d,a<=c->c<=d->d<m->(!IE ltC l m d)=true->(!IE ltC l m c)=true) :
  ∃s,BsI (λc=>!IE ltC l m c) a m s s/\Am (λdJ vs H1=>Sh.f1y H0 self dJ (ag vs 0) (ag vs 1) (ag vs 2) (ag vs 3) (ag vs 4) H1) AM [dV p g l.length,.i6 (m:Int),f,.i6 (a:Int),.i6 (m:Int)] H =
   Am (λeG vs H1=>Sh.f1x H0 eG (ag vs 0) (ag vs 1) (ag vs 2) H1) AM [dV p g l.length,.i6 (s:Int),.i6 (m:Int)] H:=by
 have key:=Ep (G:=λdJ vs H1=>Sh.f1y H0 self dJ (ag vs 0) (ag vs 1) (ag vs 2) (ag vs 3) (ag vs 4) H1) (σ:=Nat×Nat)
  (λs vs H1=>BsI (λc=>!IE ltC l m c) a m s.1 s.2/\vs=[dV p g l.length,.i6 (m:Int),f,.i6 (s.1:Int),.i6 (s.2:Int)]/\H1=H) (λs=>s.2-s.1) (λs=>¬s.1<s.2) (λs vs H1 hI hd=>?_)
  (s:=(a,m)) (vs:=[dV p g l.length,.i6 (m:Int),f,.i6 (a:Int),.i6 (m:Int)]) (H:=H) ⟨.start Yj,rfl,rfl⟩ (by dsimp only;omega)
 ·obtain⟨⟨i,j⟩,vs,H1,hd,⟨hI,rfl,rfl⟩,rec,aB⟩:=key;dsimp only at hI hd aB;obtain⟨q1,q2,q3⟩:=hI.le;have e:j=i:=by omega
  subst e;refine⟨j,hI,?_⟩;rw[aB];have bQ:decide ((j:Int)<(j:Int))=false:=zXd (by omega)
  conv=>lhs;unfold Sh.f1y
  simp only[An,Ai,Bb,Bd,B7,Cb,GMw,bQ]
 ·obtain⟨i,j⟩:=s;obtain⟨hI,rfl,rfl⟩:=hI;dsimp only at hI hd ⊢;obtain⟨q1,q2,q3⟩:=hI.le;have hij:i<j:=by omega
  obtain⟨k,hk⟩:∃k,k=(i+j) / 2:=⟨_,rfl⟩;obtain⟨w1,w2,w3,w4⟩:=Oo (i:=i) (j:=j) (by omega) (by omega);rw[<-hk]at w3 w4;have bV:k<l.length:=by omega
  have c1:=hf self l[m] (hm _ (UV hml)) l[k] (hm _ (UV bV));have bQ:decide ((i:Int)<(j:Int))=true:=zXc (by omega);have eX:=As (show k<9223372036854775807 by omega);have hlt:IE ltC l m k=ltC l[m] l[k]:=QN hml bV;cases hc:ltC l[m] l[k]with
  | false=>
   refine⟨(k+1,j),_,_,by dsimp only;omega,⟨hI.yes mono (by omega) (by omega) (by rw[hlt,hc];rfl),rfl,rfl⟩,λrec=>?_⟩;unfold Sh.f1y;simp only[An,Ai,Bb,Bd,B7,Cb,GMw,bQ,w1,w2,w3,w4,Ce bV,Ce hml,CB h bV,CB h hml,BQ,c1,BC,K5,hc,eX]
  | true=>
   refine⟨(i,k),_,_,by dsimp only;omega,⟨hI.no mono (by omega) (by omega) (by rw[hlt,hc];rfl),rfl,rfl⟩,λrec=>?_⟩;unfold Sh.f1y;simp only[An,Ai,Bb,Bd,B7,Cb,GMw,bQ,w1,w2,w3,w4,Ce bV,Ce hml,CB h bV,CB h hml,BQ,c1,BC,K5,hc]
def SymOk (p g:Nat)(f:Ab)(l0:List Cl)(self:Ab->Ab->Ab->Ab->Ab->Aa->Out)(n:Nat):Prop:=
 ∀(A U V B:List Cl) (H:Aa),U.length+V.length=n->De H p g (A++(U++(V++B)))->0<U.length->0<V.length->E4 ltC U->E4 ltC V->(∀c∈A++(U++(V++B)),c∈l0)->(A++(U++(V++B))).length<1000000000 ->
  ∃W,Srt ltC (U++V) W/\self (dV p g (A++(U++(V++B))).length) (.i6 (A.length:Int)) (.i6 ((A.length+U.length:Nat):Int)) (.i6 ((A.length+U.length+V.length:Nat):Int)) f H=some (.ret (.tup []),BW H p g (A++(W++B)))
theorem QI {U V:List Cl}(hU:E4 ltC U)(hV:E4 ltC V)(h:U=[]\/V=[]):Srt ltC (U++V) (U++V):=by
 refine⟨?_,.refl _,rfl⟩;rcases h with rfl | rfl
 ·exact hV
 ·rw[Vl];exact hU
theorem sym_j8 {H0 H:Aa}{A U V B:List Cl}{n:Nat}(hs:∀n',n'<n->SymOk p g f l0 self n')(hn:U.length+V.length<n)(h:De H p g (A++(U++(V++B))))(hU:E4 ltC U)(hV:E4 ltC V)(hm:∀c∈A++(U++(V++B)),c∈l0)(hl:(A++(U++(V++B))).length<1000000000) :
  ∃W,Srt ltC (U++V) W/\Sh.f4n H0 self (dV p g (A++(U++(V++B))).length) (.i6 ((A.length+U.length+V.length:Nat):Int)) f (.i6 (A.length:Int)) (.i6 ((A.length+U.length:Nat):Int)) H=some (.ret (.tup []),BW H p g (A++(W++B))):=by
 unfold Sh.f4n;by_cases h1:0<U.length
 ·have d1:decide ((A.length:Int)<((A.length+U.length:Nat):Int))=true:=zXc (by omega);by_cases h2:0<V.length
  ·have d2:decide (((A.length+U.length:Nat):Int)<((A.length+U.length+V.length:Nat):Int))=true:=zXc (by omega);obtain⟨W,w1,w2⟩:=hs _ hn A U V B H rfl h h1 h2 hU hV hm hl;refine⟨W,w1,?_⟩;simp only[GMw,d1,d2,w2]
  ·have d2:decide (((A.length+U.length:Nat):Int)<((A.length+U.length+V.length:Nat):Int))=false:=zXd (by omega);have hv:V=[]:=UZ (by omega);refine⟨U++V,QI hU hV (.inr hv),?_⟩;simp only[GMw,d1,d2];rw[UP,CM h]
 ·have d1:decide ((A.length:Int)<((A.length+U.length:Nat):Int))=false:=zXd (by omega);have hu:U=[]:=UZ (by omega);refine⟨U++V,QI hU hV (.inl hu),?_⟩;simp only[GMw,d1];rw[UP,CM h]
theorem sym_j7 {H0 H:Aa}{A U V U2 V2 B:List Cl}{n:Nat}(hs:∀n',n'<n->SymOk p g f l0 self n')(hn:U.length+V.length<n)(hn2:U2.length+V2.length<n)(h:De H p g (A++(U++(V++(U2++(V2++B))))))(hU:E4 ltC U)(hV:E4 ltC V)(hU2:E4 ltC U2)(hV2:E4 ltC V2)
  (hm:∀c∈A++(U++(V++(U2++(V2++B)))),c∈l0)(hl:(A++(U++(V++(U2++(V2++B))))).length<1000000000) :
  ∃W W2,Srt ltC (U++V) W/\Srt ltC (U2++V2) W2/\Sh.f4o H0 self (dV p g (A++(U++(V++(U2++(V2++B))))).length) (.i6 (A.length:Int)) (.i6 ((A.length+U.length+V.length+U2.length+V2.length:Nat):Int)) f (.i6 ((A.length+U.length+V.length:Nat):Int)) (.i6 ((A.length+U.length:Nat):Int)) (.i6 ((A.length+U.length+V.length+U2.length:Nat):Int)) H =
   some (.ret (.tup []),BW H p g (A++(W++(W2++B)))):=by
 have second:∀(W:List Cl) (G:Aa),Srt ltC (U++V) W->G=BW H p g (A++(W++(U2++(V2++B))))->∃W2,Srt ltC (U2++V2) W2/\Sh.f4n H0 self (dV p g (A++(U++(V++(U2++(V2++B))))).length) (.i6 ((A.length+U.length+V.length+U2.length+V2.length:Nat):Int)) f (.i6 ((A.length+U.length+V.length:Nat):Int)) (.i6 ((A.length+U.length+V.length+U2.length:Nat):Int)) G =
   some (.ret (.tup []),BW H p g (A++(W++(W2++B)))):=λW G hW hG=>by
  have hWl:=hW.len;rw[UO]at hWl;have e1:A++(W++(U2++(V2++B)))=(A++W)++(U2++(V2++B)):=by rw[UP]
  have hlen:((A++W)++(U2++(V2++B))).length=(A++(U++(V++(U2++(V2++B))))).length:=by simp only[UO];omega
  have hAW:(A++W).length=A.length+U.length+V.length:=by rw[UO];omega
  have hr:De G p g ((A++W)++(U2++(V2++B))):=by rw[hG,e1];exact Dj h
  obtain⟨W2,w1,w2⟩:=sym_j8 (H0:=H0) hs hn2 hr hU2 hV2 (λc hc=>hm c (by
   rw[<-e1]at hc;simp only[Vi]at hc ⊢;rcases hc with hc | hc | hc | hc | hc
   ·exact .inl hc
   ·have:=(hW.st.mem Lk).2 hc;rcases Vi.1 this with q | q
    ·exact .inr (.inl q)
    ·exact .inr (.inr (.inl q))
   ·exact .inr (.inr (.inr (.inl hc)))
   ·exact .inr (.inr (.inr (.inr (.inl hc))))
   ·exact .inr (.inr (.inr (.inr (.inr hc)))))) (by rw[hlen];exact hl)
  refine⟨W2,w1,?_⟩;rw[hlen,hAW]at w2;rw[w2,hG,BB,UP]
 have d:∀t:Bool,True:=λ_=>trivial;unfold Sh.f4o;by_cases h1:0<U.length
 ·have d1:decide ((A.length:Int)<((A.length+U.length:Nat):Int))=true:=zXc (by omega);by_cases h2:0<V.length
  ·have d2:decide (((A.length+U.length:Nat):Int)<((A.length+U.length+V.length:Nat):Int))=true:=zXc (by omega);obtain⟨W,w1,w2⟩:=hs _ hn A U V (U2++(V2++B)) H rfl h h1 h2 hU hV hm hl;obtain⟨W2,w3,w4⟩:=second W _ w1 rfl;refine⟨W,W2,w1,w3,?_⟩;simp only[An,Ai,Bb,Bd,B7,Cb,GMw,d1,d2,w2];exact w4
  ·have d2:decide (((A.length+U.length:Nat):Int)<((A.length+U.length+V.length:Nat):Int))=false:=zXd (by omega);have hv:V=[]:=UZ (by omega);have w1:=QI hU hV (.inr hv);obtain⟨W2,w3,w4⟩:=second (U++V) H w1 (by rw[UP,CM h]);refine⟨_,W2,w1,w3,?_⟩;simp only[An,Ai,Bb,Bd,B7,Cb,GMw,d1,d2];exact w4
 ·have d1:decide ((A.length:Int)<((A.length+U.length:Nat):Int))=false:=zXd (by omega);have hu:U=[]:=UZ (by omega);have w1:=QI hU hV (.inl hu);obtain⟨W2,w3,w4⟩:=second (U++V) H w1 (by rw[UP,CM h]);refine⟨_,W2,w1,w3,?_⟩;simp only[An,Ai,Bb,Bd,B7,Cb,GMw,d1];exact w4

end
section
variable {p g:Nat}{f:Ab}{l0:List Cl}{A B:List Cl}
theorem sym_l6 {self:Ab->Ab->Ab->Ab->Ab->Aa->Out}(hf:Tz f l0){l:List Cl}{a m b mid n s0 r0 P:Nat}{H0 H:Aa}(h:De H p g l)(hm:∀c∈l,c∈l0)(qB:s0<=r0)(hr:r0<=l.length)(hP:∀c,s0<=c->c<r0->P-c<l.length/\c<=P)(hPl:P<2000000000)(hl:l.length<1000000000)
  (mono:∀c d,s0<=c->c<=d->d<r0->Rj ltC l P d=true->Rj ltC l P c=true) :
  ∃s,BsI (Rj ltC l P) s0 r0 s s/\∃rec,Am (λnF vs H1=>Sh.fi H0 self nF (ag vs 0) (ag vs 1) (ag vs 2) (ag vs 3) (ag vs 4) (ag vs 5) (ag vs 6) (ag vs 7) (ag vs 8) (ag vs 9) H1) AM
    [dV p g l.length,.i6 (a:Int),.i6 (m:Int),.i6 (b:Int),f,.i6 (mid:Int),.i6 (n:Int),.i6 (s0:Int),.i6 (r0:Int),.i6 (P:Int)] H =
   Sh.fi H0 self rec (dV p g l.length) (.i6 (a:Int)) (.i6 (m:Int)) (.i6 (b:Int)) f (.i6 (mid:Int)) (.i6 (n:Int)) (.i6 (s:Int)) (.i6 (s:Int)) (.i6 (P:Int)) H:=by
 have key:=Ep (G:=λnF vs H1=>Sh.fi H0 self nF (ag vs 0) (ag vs 1) (ag vs 2) (ag vs 3) (ag vs 4) (ag vs 5) (ag vs 6) (ag vs 7) (ag vs 8) (ag vs 9) H1) (σ:=Nat×Nat)
  (λs vs H1=>BsI (Rj ltC l P) s0 r0 s.1 s.2/\vs=[dV p g l.length,.i6 (a:Int),.i6 (m:Int),.i6 (b:Int),f,.i6 (mid:Int),.i6 (n:Int),.i6 (s.1:Int),.i6 (s.2:Int),.i6 (P:Int)]/\H1=H) (λs=>s.2-s.1) (λs=>¬s.1<s.2) (λs vs H1 hI hd=>?_)
  (s:=(s0,r0)) (vs:=[dV p g l.length,.i6 (a:Int),.i6 (m:Int),.i6 (b:Int),f,.i6 (mid:Int),.i6 (n:Int),.i6 (s0:Int),.i6 (r0:Int),.i6 (P:Int)]) (H:=H) ⟨.start qB,rfl,rfl⟩ (by dsimp only;omega)
 ·obtain⟨⟨i,j⟩,vs,H1,hd,⟨hI,rfl,rfl⟩,rec,aB⟩:=key;dsimp only at hI hd aB;obtain⟨q1,q2,q3⟩:=hI.le;have e:j=i:=by omega
  subst e;exact⟨j,hI,rec,aB⟩
 ·obtain⟨i,j⟩:=s;obtain⟨hI,rfl,rfl⟩:=hI;dsimp only at hI hd ⊢;obtain⟨q1,q2,q3⟩:=hI.le;have hij:i<j:=by omega
  obtain⟨k,hk⟩:∃k,k=(i+j) / 2:=⟨_,rfl⟩;obtain⟨w1,w2,w3,w4⟩:=Oo (i:=i) (j:=j) (by omega) (by omega);rw[<-hk]at w3 w4;have bV:k<l.length:=by omega
  obtain⟨hPk,Yu⟩:=hP k (by omega) (by omega);have c1:=hf self l[P-k] (hm _ (UV hPk)) l[k] (hm _ (UV bV));have bQ:decide ((i:Int)<(j:Int))=true:=zXc (by omega);have eX:=As (show k<9223372036854775807 by omega);have sZ:IntKind.i64.wrap ((P:Int)-(k:Int))=((P-k:Nat):Int):=by rw[Ao] <;> omega
  have hlt:IE ltC l (P-k) k=ltC l[P-k] l[k]:=QN hPk bV;have hp:Rj ltC l P k = !ltC l[P-k] l[k]:=by unfold Rj;rw[hlt]
  cases hc:ltC l[P-k] l[k]with
  | false=>
   refine⟨(k+1,j),_,_,by dsimp only;omega,⟨hI.yes mono (by omega) (by omega) (by rw[hp,hc];rfl),rfl,rfl⟩,λrec=>?_⟩;unfold Sh.fi;simp only[An,Ai,Bb,Bd,B7,Cb,GMw,bQ,w1,w2,w3,w4,sZ,Ce bV,Ce hPk,CB h bV,CB h hPk,BQ,c1,BC,K5,hc,eX]
  | true=>
   refine⟨(i,k),_,_,by dsimp only;omega,⟨hI.no mono (by omega) (by omega) (by rw[hp,hc];rfl),rfl,rfl⟩,λrec=>?_⟩;unfold Sh.fi;simp only[An,Ai,Bb,Bd,B7,Cb,GMw,bQ,w1,w2,w3,w4,sZ,Ce bV,Ce hPk,CB h bV,CB h hPk,BQ,c1,BC,K5,hc]
theorem sym_step (hf:Tz f l0){d n:Nat}(hs:∀n',n'<n->SymOk p g f l0 (Sh.f3 d) n'):SymOk p g f l0 (Sh.f3 (d+1)) n:=by
 intro A U V B H hn h hUp hVp hU hV hm hl;obtain⟨l,hL⟩:∃l,l=A++(U++(V++B)):=⟨_,rfl⟩;have hlen:l.length=A.length+(U.length+(V.length+B.length)):=by rw[hL];simp only[UO]
 have gW:l.length<1000000000:=by rw[hL];exact hl
 show ∃W,_/\Sh.f7k (Sh.f3 d) _ _ _ _ _ H=_;unfold Sh.f7k;have cQ:IntKind.i64.wrap (((A.length+U.length:Nat):Int)-(A.length:Int))=(U.length:Int):=by rw[Ao] <;> omega
 by_cases h1:U.length=1
 ·obtain⟨x,rfl⟩:=Wx.1 h1;have sG:((([x]:List Cl).length:Int) == 1)=true:=by simp
  have nE:l[A.length]? = some x:=by rw[hL];simp
  have eI:∀c,A.length+1<=c->c<A.length+1+V.length->∃hc:c-(A.length+1)<V.length,IE ltC l c A.length=ltC V[c-(A.length+1)] x:=λc h3 h4=>by
   have hc:c-(A.length+1)<V.length:=by omega
   refine⟨hc,?_⟩;have e:l[c]? = some V[c-(A.length+1)]:=by
    rw[hL,at_V rfl rfl (by simpa using h3) (by simpa using h4)];rfl
   unfold IE;rw[nE,e]
  obtain⟨s,b1,b2⟩:=sym_l1 (self:=Sh.f3 d) (H0:=H) (a:=A.length) (m:=A.length+1) (b:=A.length+1+V.length) hf (l:=l) (by rw[hL];exact h) (by rw[hL];exact hm) (by rw[hlen];simp only[zXj,zXk];omega) (by omega) (by rw[hlen];simp only[zXj,zXk];omega) gW (λc d oR kX nC mC=>by
   obtain⟨e1,e2⟩:=eI c oR (by omega);obtain⟨e3,e4⟩:=eI d (by omega) nC;rw[e2];rw[e4]at mC;cases e:ltC V[c-(A.length+1)] x with
   | true=>rfl
   | false=>
    have:=Hz hV Lk (i:=c-(A.length+1)) (j:=d-(A.length+1)) (by omega) e3;have:=Lk.neg _ _ _ this e;rw[mC]at this;cases this)
  obtain⟨⟨g1,_,g2⟩,g3,g4⟩:=b1;have aU:=sym_up (H0:=H) (p:=p) (g:=g) (l:=l) (i:=s) (a:=A.length) (H:=H) (by rw[hL];exact h) (by rw[hlen];simp only[zXj,zXk]at *;omega) (by omega) gW;have hres:=upR_ok A B x V (s-1-A.length) (by omega);refine⟨V.take (s-1-A.length)++([x]++V.drop (s-1-A.length)),one_up Lk hV (λy hy=>?_) (λy hy=>?_),?_⟩
  ·obtain⟨i,hi,hi2,rfl⟩:=If hy;have:=g3 (A.length+1+i) (by omega) (by omega);obtain⟨e1,e2⟩:=eI (A.length+1+i) (by omega) (by omega);rw[e2]at this;have e3:A.length+1+i-(A.length+1)=i:=by omega
   simp only[e3]at this;exact this
  ·obtain⟨i,hi,hi2,rfl⟩:=Ig hy;have:=g4 (A.length+1+i) (by omega) (by omega);obtain⟨e1,e2⟩:=eI (A.length+1+i) (by omega) (by omega);rw[e2]at this;have e3:A.length+1+i-(A.length+1)=i:=by omega
   simp only[e3]at this;exact this
  ·rw[<-hL];simp only[GMw,cQ,sG];have eb:A.length+([x]:List Cl).length=A.length+1:=rfl;rw[eb,b2,aU,hL,hres]
 ·have sG:((U.length:Int) == 1)=false:=by simp;omega
  have cA:IntKind.i64.wrap (((A.length+U.length+V.length:Nat):Int)-((A.length+U.length:Nat):Int))=(V.length:Int):=by rw[Ao] <;> omega
  by_cases h2:V.length=1
  ·obtain⟨y,rfl⟩:=Wx.1 h2;have bQ:((([y]:List Cl).length:Int) == 1)=true:=by simp
   have nE:l[A.length+U.length]? = some y:=by
    rw[hL,at_V rfl rfl (UK _) (by simp)];simp
   have eI:∀c,A.length<=c->c<A.length+U.length->∃hc:c-A.length<U.length,IE ltC l (A.length+U.length) c=ltC y U[c-A.length]:=λc h3 h4=>by
    have hc:c-A.length<U.length:=by omega
    refine⟨hc,?_⟩;have e:l[c]? = some U[c-A.length]:=by rw[hL,at_U rfl h3 h4]
    unfold IE;rw[nE,e]
   obtain⟨s,b1,b2⟩:=sym_l3 (self:=Sh.f3 d) (H0:=H) (a:=A.length) (m:=A.length+U.length) hf (l:=l) (by rw[hL];exact h) (by rw[hL];exact hm) (by omega) (by rw[hlen];simp only[zXj,zXk];omega) gW (λc d oR kX nC mC=>by
    obtain⟨e1,e2⟩:=eI c oR (by omega);obtain⟨e3,e4⟩:=eI d (by omega) nC;rw[e2];rw[e4]at mC;simp only[VG]at mC ⊢;have:=Hz hU Lk (i:=c-A.length) (j:=d-A.length) (by omega) e3;exact Lk.neg _ _ _ mC this)
   obtain⟨⟨g1,_,g2⟩,g3,g4⟩:=b1;have jG:=sym_dn (H0:=H) (p:=p) (g:=g) (l:=l) (i:=s) (m:=A.length+U.length) (H:=H) (by rw[hL];exact h) g2 (by rw[hlen];simp only[zXj,zXk];omega) gW;have hres:=dnR_ok A B y U (A.length+U.length-s) (by omega);have ek:U.length-(A.length+U.length-s)=s-A.length:=by omega
   rw[ek]at hres;refine⟨U.take (s-A.length)++([y]++U.drop (s-A.length)),one_dn Lk hU (λx hx=>?_) (λx hx=>?_),?_⟩
   ·obtain⟨i,hi,hi2,rfl⟩:=If hx;have:=g3 (A.length+i) (by omega) (by omega);obtain⟨e1,e2⟩:=eI (A.length+i) (by omega) (by omega);rw[e2]at this;have e3:A.length+i-A.length=i:=by omega
    simp only[e3,VG]at this;exact this
   ·obtain⟨i,hi,hi2,rfl⟩:=Ig hx;have:=g4 (A.length+i) (by omega) (by omega);obtain⟨e1,e2⟩:=eI (A.length+i) (by omega) (by omega);rw[e2]at this;have e3:A.length+i-A.length=i:=by omega
    simp only[e3,X4]at this;exact this
   ·rw[<-hL];simp only[GMw,cQ,cA,sG,bQ];rw[b2,jG,hL,hres]
  ·have bQ:((V.length:Int) == 1)=false:=by simp;omega
   obtain⟨a,ha⟩:∃a,a=A.length:=⟨_,rfl⟩;obtain⟨m,hmm⟩:∃m,m=A.length+U.length:=⟨_,rfl⟩;obtain⟨b,hb⟩:∃b,b=A.length+U.length+V.length:=⟨_,rfl⟩;obtain⟨mid,jT⟩:∃mid,mid=(a+b) / 2:=⟨_,rfl⟩;obtain⟨w1,w2,w3,w4⟩:=Oo (i:=a) (j:=b) (by omega) (by omega);rw[<-jT]at w3 w4;have wZ:IntKind.i64.wrap ((mid:Int)+(m:Int))=((mid+m:Nat):Int):=by rw[Ao] <;> omega
   obtain⟨s0,hs0⟩:∃s0,s0=if mid<m then mid+m-b else a:=⟨_,rfl⟩
   obtain⟨r0,hr0⟩:∃r0,r0=if mid<m then mid else m:=⟨_,rfl⟩
   have qB:s0<=r0/\r0<=m/\a<=s0/\mid+m<=s0+b/\r0<=mid:=by
    by_cases hc:mid<m
    ·rw[if_pos hc]at hs0 hr0;omega
    ·rw[if_neg hc]at hs0 hr0;omega
   obtain⟨z1,z2,z3,z4,z5⟩:=qB;obtain⟨s,b1,rec,b2⟩:=sym_l6 (self:=Sh.f3 d) (H0:=H) (a:=a) (m:=m) (b:=b) (mid:=mid) (n:=mid+m) (s0:=s0) (r0:=r0) (P:=mid+m-1) hf (l:=l) (H:=H) (by rw[hL];exact h) (by rw[hL];exact hm) z1 (by omega) (λc h3 h4=>by omega) (by omega) (by rw[hL];exact hl)
    (λc e h3 h4 h5 h6=>by
     rw[hL]at h6 ⊢;exact symP_mono Lk hU hV ha.symm (show a+U.length=m by omega) (by omega) h4 (by omega) (by omega) (by omega) h6)
   have b1':=b1;rw[hL]at b1';obtain⟨p1,p2,p3,p4,p5,p6,p7⟩:=sym_split Lk hU hV ha.symm (show a+U.length=m by omega) (show m+V.length=b by omega) jT hUp hVp hs0 hr0 b1';have l1:(U.take (s-a)).length=s-a:=by rw[UY];omega
   have l2:(V.take (mid-s)).length=mid-s:=by rw[UY];omega
   have l3:(U.drop (s-a)).length=m-s:=by rw[Vc];omega
   have l4:(V.drop (mid-s)).length=b-(mid+m-s):=by rw[Vc];omega
   have sU1:E4 ltC (U.take (s-a)):=VU (Xh _ _) hU;have sU2:E4 ltC (U.drop (s-a)):=VU (Xk _ _) hU;have sV1:E4 ltC (V.take (mid-s)):=VU (Xh _ _) hV;have sV2:E4 ltC (V.drop (mid-s)):=VU (Xk _ _) hV;have eU:U.take (s-a)++U.drop (s-a)=U:=V7 _ _;have eV:V.take (mid-s)++V.drop (mid-s)=V:=V7 _ _;have cG:∀c,c∈A++(U.take (s-a)++(V.take (mid-s)++(U.drop (s-a)++(V.drop (mid-s)++B))))->c∈l0:=λc hc=>hm c (by
    simp only[Vi]at hc ⊢;rcases hc with q | q | q | q | q | q
    ·exact .inl q
    ·exact .inr (.inl (VR q))
    ·exact .inr (.inr (.inl (VR q)))
    ·exact .inr (.inl (Wr q))
    ·exact .inr (.inr (.inl (Wr q)))
    ·exact .inr (.inr (.inr q)))
   have hlen2:(A++(U.take (s-a)++(V.take (mid-s)++(U.drop (s-a)++(V.drop (mid-s)++B))))).length=l.length:=by
    rw[hlen];simp only[UO,l1,l2,l3,l4];omega
   generalize U.take (s-a)=U1 at *;generalize U.drop (s-a)=U2 at *;generalize V.take (mid-s)=V1 at *;generalize V.drop (mid-s)=V2 at *;have rest:∀G,G=BW H p g (A++(U1++(V1++(U2++(V2++B)))))->∃W W2,Srt ltC (U1++V1) W/\Srt ltC (U2++V2) W2/\Sh.f4o H (Sh.f3 d) (dV p g l.length) (.i6 (a:Int)) (.i6 (b:Int)) f (.i6 (mid:Int)) (.i6 (s:Int)) (.i6 ((mid+m-s:Nat):Int)) G =
     some (.ret (.tup []),BW H p g (A++(W++(W2++B)))):=λG hG=>by
    obtain⟨W,W2,k1,k2,k3⟩:=sym_j7 (H0:=H) (H:=G) (p:=p) (g:=g) (f:=f) (l0:=l0) (A:=A) (U:=U1) (V:=V1) (U2:=U2) (V2:=V2) (B:=B) (n:=n) hs (by omega) (by omega) (by rw[hG];exact Dj h) sU1 sV1 sU2 sV2 cG (by rw[hlen2,hL];exact hl);refine⟨W,W2,k1,k2,?_⟩;rw[hlen2,<-ha,show a+U1.length=s by omega,show s+V1.length=mid by omega,show mid+U2.length=mid+m-s by omega,show mid+m-s+V2.length=b by omega]at k3;rw[k3,hG,BB]
   have tZ:IntKind.i64.wrap (((mid+m:Nat):Int)-(s:Int))=((mid+m-s:Nat):Int):=by rw[Ao] <;> omega
   have hds:decide ((s:Int)<(s:Int))=false:=zXd (by omega);have sZ:IntKind.i64.wrap (((mid+m:Nat):Int)-1)=((mid+m-1:Nat):Int):=by rw[Ao] <;> omega
   have after:∃W W2,Srt ltC (U1++V1) W/\Srt ltC (U2++V2) W2/\Sh.fi H (Sh.f3 d) rec (dV p g l.length) (.i6 (a:Int)) (.i6 (m:Int)) (.i6 (b:Int)) f (.i6 (mid:Int)) (.i6 ((mid+m:Nat):Int)) (.i6 (s:Int)) (.i6 (s:Int)) (.i6 ((mid+m-1:Nat):Int)) H =
     some (.ret (.tup []),BW H p g (A++(W++(W2++B)))):=by
    by_cases t1:s<m
    ·have c1:decide ((s:Int)<(m:Int))=true:=zXc (by omega);by_cases t2:m<mid+m-s
     ·have c2:decide ((m:Int)<((mid+m-s:Nat):Int))=true:=zXc (by omega);have e1:l=(A++U1)++(U2++(V1++(V2++B))):=by
       rw[hL,<-eU,<-eV];simp only[UP]
      have nO:=rotate_ok (p:=p) (g:=g) (f:=f) (a:=s) (b:=mid+m-s) (m:=m) (A:=A++U1) (U:=U2) (V:=V1) (B:=V2++B) (H:=H) (by rw[<-e1,hL];exact h) (by rw[UO];omega) (by omega) (by omega) (by omega) (by omega) (by rw[<-e1,hL];exact hl);rw[<-e1]at nO;obtain⟨W,W2,k1,k2,k3⟩:=rest _ rfl;refine⟨W,W2,k1,k2,?_⟩;have e2:(A++U1)++((V1++U2)++(V2++B))=A++(U1++(V1++(U2++(V2++B)))):=by simp only[UP]
      rw[e2]at nO;unfold Sh.fi;simp only[An,Ai,Bb,Bd,B7,Cb,DL,GMw,hds,tZ,c1,c2,nO];exact k3
     ·have c2:decide ((m:Int)<((mid+m-s:Nat):Int))=false:=zXd (by omega);have hv1:V1=[]:=UZ (by omega);obtain⟨W,W2,k1,k2,k3⟩:=rest H (by
       rw[show A++(U1++(V1++(U2++(V2++B))))=A++(U++(V++B))by
        rw[<-eU,<-eV,hv1];simp only[UP,List.nil_append],CM h])
      refine⟨W,W2,k1,k2,?_⟩;unfold Sh.fi;simp only[An,Ai,Bb,Bd,B7,Cb,DL,GMw,hds,tZ,c1,c2];exact k3
    ·have c1:decide ((s:Int)<(m:Int))=false:=zXd (by omega);have uB:U2=[]:=UZ (by omega);obtain⟨W,W2,k1,k2,k3⟩:=rest H (by
      rw[show A++(U1++(V1++(U2++(V2++B))))=A++(U++(V++B))by
       rw[<-eU,<-eV,uB];simp only[UP,List.nil_append,Vl],CM h])
     refine⟨W,W2,k1,k2,?_⟩;unfold Sh.fi;simp only[An,Ai,Bb,Bd,B7,Cb,DL,GMw,hds,tZ,c1];exact k3
   obtain⟨W,W2,k1,k2,k3⟩:=after;have gS:Srt ltC (U++V) (W++W2):=by
    have l5:U.take U1.length=U1/\U.drop U1.length=U2:=by rw[<-eU];exact⟨Xa,Xd⟩
    have l6:V.take V1.length=V1/\V.drop V1.length=V2:=by rw[<-eV];exact⟨Xa,Xd⟩
    exact OR (i:=U1.length) (k:=V1.length) Lk hU hV (by rw[l5.2,l6.1];exact p1) (by rw[l5.1,l6.2];exact p2) (by rw[l5.1,l6.1];exact k1) (by rw[l5.2,l6.2];exact k2)
   refine⟨W++W2,gS,?_⟩;rw[<-hL,<-hb,<-hmm,<-ha];rw[<-hmm,show m+V.length=b by omega]at cA;rw[<-hmm,<-ha]at cQ;have j5:∀x y:Nat,x=s0->y=r0->Sh.f7j H (Sh.f3 d) (dV p g l.length) (.i6 (a:Int)) (.i6 (m:Int)) (.i6 (b:Int)) f (.i6 (mid:Int)) (.i6 ((mid+m:Nat):Int)) (.i6 (x:Int)) (.i6 (y:Int)) H=some (.ret (.tup []),BW H p g (A++((W++W2)++B))):=λx y hx hy=>by
    subst hx;subst hy;unfold Sh.f7j;simp only[GMw,sZ];rw[b2,k3,UP]
   by_cases hc:mid<m
   ·have c3:decide ((m:Int)>(mid:Int))=true:=zXc (by omega);have yU:IntKind.i64.wrap (((mid+m:Nat):Int)-(b:Int))=((mid+m-b:Nat):Int):=by
     rw[if_pos hc]at hs0;rw[Ao] <;> omega
    simp only[An,Ai,Bb,Bd,B7,Cb,DL,GMw,cQ,cA,sG,bQ,w1,w2,w3,w4,wZ,c3,yU];exact j5 _ _ (by rw[hs0,if_pos hc]) (by rw[hr0,if_pos hc])
   ·have c3:decide ((m:Int)>(mid:Int))=false:=zXd (by omega);simp only[An,Ai,Bb,Bd,B7,Cb,DL,GMw,cQ,cA,sG,bQ,w1,w2,w3,w4,wZ,c3];exact j5 _ _ (by rw[hs0,if_neg hc]) (by rw[hr0,if_neg hc])
theorem sym_all (hf:Tz f l0):∀d n,n<d->SymOk p g f l0 (Sh.f3 d) n
 | 0,n,h=>absurd h (by omega)
 | d+1,n,h=>sym_step hf λn' pA=>sym_all hf d n' (by omega)

end
theorem Stg.split {w n a:Nat}{l l':List Cl}(hw:0<w)(hd:w ∣ a)(hn:n<=w)(hl:a+n<=l.length)(h:Stg ltC w l a l') :
  ∃A,A.length=a/\l'=A++((l.drop a).take n++l.drop (a+n))/\(∀c∈A,c∈l)/\∀P2,Srt ltC ((l.drop a).take n) P2->Stg ltC w l (a+n) (A++(P2++l.drop (a+n))):=by
 obtain⟨P,h1,hP,hst,hb⟩:=h.ex;refine⟨P,hP,?_,λc hc=>?_,λP2 h2=>?_⟩
 ·rw[h1]
  congr 1
  rw[<-VZ,V7]
 ·exact VR ((hst.mem Lk).2 hc)
 ·have hlen:P2.length=n:=by rw[h2.len,UY,Vc];omega
  refine⟨P++P2,by rw[UP],by rw[UO,hP,hlen],?_,Ni.app hw (by rw[hP];exact hd) hb h2.srt (by omega)⟩;rw[List.take_add];exact hst.app h2.st
theorem Stg.mem {w a:Nat}{l l':List Cl}(h:Stg ltC w l a l'){c:Cl}(hc:c∈l'):c∈l:=by
 obtain⟨P,h1,hP,hst,hb⟩:=h.ex;rw[h1]at hc;rcases Vi.1 hc with q | q
 ·exact VR ((hst.mem Lk).2 q)
 ·exact Wr q
section
variable {p g:Nat}{f:Ab}{l0:List Cl}
theorem Uo (hf:Ta AD f l0){l L:List Cl}{a n w:Nat}{H:Aa}(h:De H p g L)(hm:∀c∈l,c∈l0)(hst:Stg ltC w l a L)(hw:0<w)(hd:w ∣ a)(hn:n<=w)(hal:a+n<=l.length)(hl:l.length<1000000000) :
  ∃L',Stg ltC w l (a+n) L'/\Sh.fr (dV p g l.length) (.i6 (a:Int)) (.i6 ((a+n:Nat):Int)) f H=some (.ret (.tup []),BW H p g L'):=by
 have hlen:=hst.len (by omega);have iP:=ins_sort (a:=a) (b:=a+n) hf h (λc hc=>hm c (hst.mem hc)) (by omega) (by omega) (by omega);rw[hlen]at iP;obtain⟨A,hA,hL,_,hP⟩:=hst.split hw hd hn hal;by_cases h0:n=0
 ·subst h0;refine⟨L,?_,?_⟩
  ·rw[Nat.add_zero];exact hst
  ·rw[iP]
   congr 3
   rw[show a+0-a-1=0 by omega];rfl
 ·have hSl:((l.drop a).take n).length=n:=by rw[UY,Vc];omega
  obtain⟨P,q1,q2⟩:=insN_ok Lk A (n-1) ((l.drop a).take n) (l.drop (a+n)) (by omega);refine⟨_,hP P q2,?_⟩;rw[iP,show a+n-a-1=n-1 by omega,<-q1,<-hL,hA]
theorem TD (hf:Tz f l0){l L:List Cl}{a n bs:Nat}{H:Aa}(h:De H p g L)(hm:∀c∈l,c∈l0)(hst:Stg ltC (2*bs) l a L)(kY:0<bs)(hd:2*bs ∣ a)(aU:Ni ltC bs l)(hn:bs<n)(hn2:n<=2*bs)(hal:a+n<=l.length)(hl:l.length<1000000000) :
  ∃L',Stg ltC (2*bs) l (a+n) L'/\Sh.f3 AM (dV p g l.length) (.i6 (a:Int)) (.i6 ((a+bs:Nat):Int)) (.i6 ((a+n:Nat):Int)) f H=some (.ret (.tup []),BW H p g L'):=by
 have hlen:=hst.len (by omega);obtain⟨A,hA,hL,_,hP⟩:=hst.split (by omega) hd hn2 hal;have pL:bs ∣ a:=Nat.dvd_trans ⟨2,by omega⟩ hd;have sU:=aU.block kY pL bs (UK _);have sV:=aU.block kY (show bs ∣ a+bs from (X7 pL).2 (Nat.dvd_refl _)) (n-bs) (by omega);have hS:(l.drop a).take n=(l.drop a).take bs++(l.drop (a+bs)).take (n-bs):=by
  rw[show n=bs+(n-bs)by omega,List.take_add,VZ]
  congr 2;omega
 have lU:((l.drop a).take bs).length=bs:=by rw[UY,Vc];omega
 have lV:((l.drop (a+bs)).take (n-bs)).length=n-bs:=by rw[UY,Vc];omega
 rw[hS]at hL hP;rw[UP]at hL;have aD:=sym_all (p:=p) (g:=g) hf AM (((l.drop a).take bs).length+((l.drop (a+bs)).take (n-bs)).length) (by rw[CQ];omega) A ((l.drop a).take bs) ((l.drop (a+bs)).take (n-bs)) (l.drop (a+n)) H rfl (by rw[<-hL];exact h) (by omega) (by omega) sU sV
  (λc hc=>by rw[<-hL]at hc;exact hm c (hst.mem hc)) (by rw[<-hL,hlen];exact hl)
 obtain⟨W,w1,w2⟩:=aD;refine⟨_,hP W w1,?_⟩;rw[<-hL,hlen,hA,lU,lV,show a+bs+(n-bs)=a+n by omega]at w2;exact w2
theorem sym_round (hf:Tz f l0){l:List Cl}{bs:Nat}{H0 H:Aa}(h:De H p g l)(hm:∀c∈l,c∈l0)(kY:0<bs)(aU:Ni ltC bs l)(wF:bs<l.length)(hl:l.length<1000000000) :
  ∃L,F3 ltC l L/\Ni ltC (2*bs) L/\L.length=l.length/\∀aA:LK,Am (λdJ vs H1=>Sh.f1z H0 aA dJ (ag vs 0) (ag vs 1) (ag vs 2) (ag vs 3) (ag vs 4) (ag vs 5) H1) AM [dV p g l.length,.i6 (l.length:Int),f,.i6 (bs:Int),.i6 0,.i6 ((2*bs:Nat):Int)] H =
   aA [dV p g l.length,.i6 (l.length:Int),f,.i6 ((2*bs:Nat):Int)] (BW H p g L):=by
 have key:=Qh (ι:=LK) (G:=λaA dJ vs H1=>Sh.f1z H0 aA dJ (ag vs 0) (ag vs 1) (ag vs 2) (ag vs 3) (ag vs 4) (ag vs 5) H1) (σ:=Nat×List Cl)
  (λs vs H1=>Stg ltC (2*bs) l s.1 s.2/\2*bs ∣ s.1/\s.1<=l.length/\vs=[dV p g l.length,.i6 (l.length:Int),f,.i6 (bs:Int),.i6 (s.1:Int),.i6 ((s.1+2*bs:Nat):Int)]/\H1=BW H p g s.2) (λs=>l.length-s.1) (λs=>¬s.1+2*bs<=l.length) (λs vs H1 hI hd=>?_)
  (s:=(0,l)) (vs:=[dV p g l.length,.i6 (l.length:Int),f,.i6 (bs:Int),.i6 0,.i6 ((2*bs:Nat):Int)]) (H:=H) ⟨.start _ _,Nat.dvd_zero _,Ve _,by simp,(CM h).symm⟩ (by dsimp only;omega)
 ·obtain⟨⟨a,L⟩,vs,H1,hd,⟨hst,iB,hal,rfl,rfl⟩,aB⟩:=key;dsimp only at hst iB hal hd aB;have hr:De (BW H p g L) p g L:=Dj h;have d1:decide (((a+2*bs:Nat):Int)<=(l.length:Int))=false:=zXd (by omega);have cQ:IntKind.i64.wrap ((a:Int)+(bs:Int))=((a+bs:Nat):Int):=by rw[Ao] <;> omega
  have cA:IntKind.i64.wrap ((bs:Int)*2)=((2*bs:Nat):Int):=by rw[Ao] <;> omega
  by_cases pC:a+bs<l.length
  ·have d2:decide (((a+bs:Nat):Int)<(l.length:Int))=true:=zXc (by omega);obtain⟨L',q1,q2⟩:=TD (n:=l.length-a) hf hr hm hst kY iB aU (by omega) (by omega) (by omega) hl;rw[show a+(l.length-a)=l.length by omega]at q1 q2;obtain⟨r1,r2,r3⟩:=q1.all;refine⟨L',r1,r2,r3,λaA=>?_⟩;obtain⟨rec,aB⟩:=aB aA;rw[aB];unfold Sh.f1z Sh.f7l;simp only[An,Ai,Bb,Bd,B7,Cb,DL,GMw,d1,cQ,d2,q2,cA,BB]
  ·have d2:decide (((a+bs:Nat):Int)<(l.length:Int))=false:=zXd (by omega);obtain⟨A,hA,hL,_,hP⟩:=hst.split (n:=l.length-a) (by omega) iB (by omega) (by omega);have pL:bs ∣ a:=Nat.dvd_trans ⟨2,by omega⟩ iB;have q1:=hP _ ⟨aU.block kY pL (l.length-a) (by omega),.refl _,rfl⟩;rw[<-hL,show a+(l.length-a)=l.length by omega]at q1;obtain⟨r1,r2,r3⟩:=q1.all;refine⟨L,r1,r2,r3,λaA=>?_⟩;obtain⟨rec,aB⟩:=aB aA;rw[aB];unfold Sh.f1z Sh.f7l;simp only[An,Ai,Bb,Bd,B7,Cb,DL,GMw,d1,cQ,d2,cA]
 ·obtain⟨a,L⟩:=s;obtain⟨hst,iB,hal,rfl,rfl⟩:=hI;dsimp only at hst iB hal hd ⊢;have hr:De (BW H p g L) p g L:=Dj h;obtain⟨L',q1,q2⟩:=TD (n:=2*bs) hf hr hm hst kY iB aU (by omega) (by omega) (by omega) hl;have d1:decide (((a+2*bs:Nat):Int)<=(l.length:Int))=true:=zXc (by omega);have cQ:IntKind.i64.wrap ((a:Int)+(bs:Int))=((a+bs:Nat):Int):=by rw[Ao] <;> omega
  have cA:IntKind.i64.wrap (2*(bs:Int))=((2*bs:Nat):Int):=by rw[Ao] <;> omega
  have jM:IntKind.i64.wrap (((a+2*bs:Nat):Int)+((2*bs:Nat):Int))=((a+2*bs+2*bs:Nat):Int):=by rw[Ao] <;> omega
  refine⟨(a+2*bs,L'),_,_,by dsimp only;omega,⟨q1,(X7 iB).2 (Nat.dvd_refl _),by dsimp only;omega,rfl,rfl⟩,λaA rec=>?_⟩;unfold Sh.f1z;simp only[An,Ai,Bb,Bd,B7,Cb,DL,GMw,d1,cQ,q2,cA,jM,BB]
theorem stable_ok (hf1:Ta AD f l0)(hf2:Tz f l0){l:List Cl}{H:Aa}(h:De H p g l)(hm:∀c∈l,c∈l0)(hl:l.length<1000000000) :
  ∃S,E4 ltC S/\F3 ltC l S/\S.length=l.length/\Sh.f20 (dV p g l.length) (.i6 (l.length:Int)) f H=some (.ret (.tup []),BW H p g S):=by
 unfold Sh.f20;have rounds:∀(L:List Cl),F3 ltC l L->Ni ltC 20 L->L.length=l.length->∃S,E4 ltC S/\F3 ltC l S/\S.length=l.length /\
   Am (λaA vs H1=>Sh.f1d H aA (ag vs 0) (ag vs 1) (ag vs 2) (ag vs 3) H1) AM [dV p g l.length,.i6 (l.length:Int),f,.i6 20] (BW H p g L)=some (.ret (.tup []),BW H p g S):=λL hL1 hL2 hL3=>by
  have key:=Ep (G:=λaA vs H1=>Sh.f1d H aA (ag vs 0) (ag vs 1) (ag vs 2) (ag vs 3) H1) (σ:=Nat×List Cl)
   (λs vs H1=>(F3 ltC l s.2/\Ni ltC s.1 s.2/\s.2.length=l.length/\0<s.1)/\vs=[dV p g l.length,.i6 (l.length:Int),f,.i6 (s.1:Int)]/\H1=BW H p g s.2) (λs=>l.length-s.1) (λs=>¬s.1<l.length) (λs vs H1 hI hd=>?_)
   (s:=(20,L)) (vs:=[dV p g l.length,.i6 (l.length:Int),f,.i6 20]) (H:=BW H p g L) ⟨⟨hL1,hL2,hL3,Nat.succ_pos _⟩,rfl,rfl⟩ (by dsimp only;omega)
  ·obtain⟨⟨bs,S⟩,vs,H1,hd,⟨⟨i1,i2,i3,i4⟩,rfl,rfl⟩,rec,aB⟩:=key;dsimp only at i1 i2 i3 i4 hd aB;have d1:decide ((bs:Int)<(l.length:Int))=false:=zXd (by omega);refine⟨S,i2.whole (by omega),i1,i3,?_⟩;rw[aB];unfold Sh.f1d;simp only[An,Ai,Bb,Bd,B7,GMw,d1]
  ·obtain⟨bs,L⟩:=s;obtain⟨⟨i1,i2,i3,i4⟩,rfl,rfl⟩:=hI;dsimp only at i1 i2 i3 i4 hd ⊢;have hr:De (BW H p g L) p g L:=Dj h;have d1:decide ((bs:Int)<(l.length:Int))=true:=zXc (by omega);have cQ:IntKind.i64.wrap (2*(bs:Int))=((2*bs:Nat):Int):=by rw[Ao] <;> omega
   obtain⟨L',q1,q2,q3,q4⟩:∃L',F3 ltC L L'/\Ni ltC (2*bs) L'/\L'.length=L.length/\∀aA:LK,Sh.f1d H aA (dV p g l.length) (.i6 (l.length:Int)) f (.i6 (bs:Int)) (BW H p g L)=aA [dV p g l.length,.i6 (l.length:Int),f,.i6 ((2*bs:Nat):Int)] (BW H p g L'):=by
    obtain⟨L',q1,q2,q3,q4⟩:=sym_round (H0:=H) hf2 hr (λc hc=>hm c ((i1.mem Lk).2 hc)) i4 i2 (by omega) (by omega);rw[i3]at q4;refine⟨L',q1,q2,q3,λaA=>?_⟩;unfold Sh.f1d;simp only[GMw,d1,cQ];rw[q4 aA,BB]
   refine⟨(2*bs,L'),_,_,by dsimp only;omega,⟨⟨i1.trans q1,q2,by dsimp only;omega,by dsimp only;omega⟩,rfl,rfl⟩,λrec=>?_⟩;simp only[An,Ai,Bb,Bd,B7];exact q4 rec
 have key:=Ep (G:=λrec1 vs H1=>Sh.f2o H rec1 (ag vs 0) (ag vs 1) (ag vs 2) (ag vs 3) (ag vs 4) (ag vs 5) H1) (σ:=Nat×List Cl)
  (λs vs H1=>(Stg ltC 20 l s.1 s.2/\20 ∣ s.1/\s.1<=l.length)/\vs=[dV p g l.length,.i6 (l.length:Int),f,.i6 20,.i6 (s.1:Int),.i6 ((s.1+20:Nat):Int)]/\H1=BW H p g s.2) (λs=>l.length-s.1) (λs=>¬s.1+20<=l.length) (λs vs H1 hI hd=>?_)
  (s:=(0,l)) (vs:=[dV p g l.length,.i6 (l.length:Int),f,.i6 20,.i6 0,.i6 20]) (H:=H) ⟨⟨.start _ _,Nat.dvd_zero _,Ve _⟩,rfl,(CM h).symm⟩ (by dsimp only;omega)
 ·obtain⟨⟨a,L⟩,vs,H1,hd,⟨⟨hst,iB,hal⟩,rfl,rfl⟩,rec,aB⟩:=key;dsimp only at hst iB hal hd aB;have hr:De (BW H p g L) p g L:=Dj h;obtain⟨L',q1,q2⟩:=Uo (n:=l.length-a) hf1 hr hm hst (by decide) iB (by omega) (by omega) hl;rw[show a+(l.length-a)=l.length by omega]at q1 q2;obtain⟨r1,r2,r3⟩:=q1.all;obtain⟨S,s1,s2,s3,s4⟩:=rounds L' r1 r2 r3;refine⟨S,s1,s2,s3,?_⟩;have d1:decide (((a+20:Nat):Int)<=(l.length:Int))=false:=zXd (by omega);rw[aB];unfold Sh.f2o;simp only[An,Ai,Bb,Bd,B7,Cb,DL,GMw,d1,q2,BB];exact s4
 ·obtain⟨a,L⟩:=s;obtain⟨⟨hst,iB,hal⟩,rfl,rfl⟩:=hI;dsimp only at hst iB hal hd ⊢;have hr:De (BW H p g L) p g L:=Dj h;obtain⟨L',q1,q2⟩:=Uo (n:=20) hf1 hr hm hst (by decide) iB (by omega) (by omega) hl;have d1:decide (((a+20:Nat):Int)<=(l.length:Int))=true:=zXc (by omega);have jM:IntKind.i64.wrap (((a+20:Nat):Int)+20)=((a+20+20:Nat):Int):=by rw[Ao] <;> omega
  refine⟨(a+20,L'),_,_,by dsimp only;omega,⟨⟨q1,(X7 iB).2 (Nat.dvd_refl _),by dsimp only;omega⟩,rfl,rfl⟩,λrec=>?_⟩;unfold Sh.f2o;simp only[An,Ai,Bb,Bd,B7,Cb,DL,GMw,d1,q2,jM,BB]

end
theorem enLU_inj {l l':List Nat}(h:enL cU l=enL cU l'):l=l':=by
 unfold enL at h
 induction l generalizing l' with
 | nil=>cases l' with
  | nil=>rfl
  | cons y r=>simp at h
 | cons x l ih=>
  cases l' with
  | nil=>simp at h
  | cons y r=>
   simp only[Wl,List.cons.injEq,Ab.int.injEq,true_and,and_true]at h;rw[ih h.2]
   congr 1
   omega
theorem OA {l m:List Nat}{t t':Tok}(H:Aa)(hl:Lim l)(hm:Lim m)(h1:l.length<=1099511627776)(h2:m.length<=1099511627776) :
  Sh.fw (.sl (enL cU l) t) (.sl (enL cU m) t') H=some (.ret (.i6 (FC (val l:Int) (val m:Int))),H):=by
 have hex:∃p:List Nat×List Nat,enL cU l=enL cU p.1/\enL cU m=enL cU p.2/\Lim p.1/\Lim p.2/\p.1.length<=1099511627776/\p.2.length<=1099511627776:=⟨(l,m),rfl,rfl,hl,hm,h1,h2⟩;have e1:hex.choose.1=l:=(enLU_inj hex.choose_spec.1).symm;have e2:hex.choose.2=m:=(enLU_inj hex.choose_spec.2.1).symm;unfold Sh.fw;simp only[];rw[dif_pos hex,e1,e2];unfold FC;by_cases c1:val l<val m
 ·rw[if_pos c1,if_pos (show (val l:Int)<(val m:Int)by omega)]
 ·by_cases c2:val l=val m
  ·rw[if_neg c1,if_pos c2,if_neg (show ¬(val l:Int)<(val m:Int)by omega),if_pos (show (val l:Int)=(val m:Int)by omega)]
  ·rw[if_neg c1,if_neg c2,if_neg (show ¬(val l:Int)<(val m:Int)by omega),if_neg (show ¬(val l:Int)=(val m:Int)by omega)]
section
variable {H:Aa}{p:Nat}{z:Int}
theorem Jt (hg:H[p]? = some (.cel 0 (A3 z))):Ad false 1 (.ptr p 0 0) H=some (.bool (decide (z<0))):=by
 simp only[Ad,A1 hg,zXa];rfl
theorem ld_lim (hg:H[p]? = some (.cel 0 (A3 z))):Ad false 1 (.ptr p 0 1) H=some (.sl (enL cU (A6 z.natAbs)) .no):=by
 simp only[Ad,A1 hg,zXa];rfl

end
theorem b_cmp {a b:Int}(ha:LB a)(hb:LB b)(H:Aa):Sh.f2m (big a) (big b) H=some (.ret (.i6 (FC a b)),H):=by
 have e1:(H++[Blk.cel 0 (A3 a)]++[Blk.cel 0 (A3 b)])[H.length]? = some (.cel 0 (A3 a)):=by simp
 have e2:(H++[Blk.cel 0 (A3 a)]++[Blk.cel 0 (A3 b)])[(H++[Blk.cel 0 (A3 a)]).length]? = some (.cel 0 (A3 b)):=Ap;have c1:=λK=>OA (t:=.no) (t':=.no) K (Br a.natAbs) (Br b.natAbs) (Vf ha (by decide)) (Vf hb (by decide));have c2:=λK=>OA (t:=.no) (t':=.no) K (Br b.natAbs) (Br a.natAbs) (Vf hb (by decide)) (Vf ha (by decide));rw[B2,B2]at c1 c2;have fin:∀q:Int,rP H (.i6 q) (H++[Blk.cel 0 (A3 a)]++[Blk.cel 0 (A3 b)])=some (.ret (.i6 q),H):=λq=>by simp only[UP];exact HS
 unfold Sh.f2m;simp only[GMw,DO,Ah,UJ,Nat.add_zero,Jt e1,Jt e2];by_cases h1:a<0
 ·have d1:decide (a<0)=true:=zXc h1;by_cases h2:b<0
  ·have d2:decide (b<0)=true:=zXc h2;have:FC (b.natAbs:Int) (a.natAbs:Int)=FC a b:=by
    unfold FC;by_cases q1:a<b
    ·rw[if_pos q1,if_pos (by omega)]
    ·by_cases q2:a=b
     ·rw[if_neg q1,if_neg (by omega),if_pos q2,if_pos (by omega)]
     ·rw[if_neg q1,if_neg (by omega),if_neg q2,if_neg (by omega)]
   simp only[GMw,d1,d2,Jt e1,Jt e2,ld_lim e1,ld_lim e2,c2,fin,this]
  ·have d2:decide (b<0)=false:=zXd h2;have:FC a b = -1:=by unfold FC;rw[if_pos (by omega)]
   simp only[GMw,d1,d2,Jt e1,Jt e2,fin,this]
 ·have d1:decide (a<0)=false:=zXd h1;by_cases h2:b<0
  ·have d2:decide (b<0)=true:=zXc h2;have:FC a b=1:=by unfold FC;rw[if_neg (by omega),if_neg (by omega)]
   simp only[GMw,d1,Jt e1,Jt e2,d2,fin,this]
  ·have d2:decide (b<0)=false:=zXd h2;have:FC (a.natAbs:Int) (b.natAbs:Int)=FC a b:=by
    rw[show (a.natAbs:Int)=a by omega,show (b.natAbs:Int)=b by omega]
   simp only[GMw,d1,Jt e1,Jt e2,d2,ld_lim e1,ld_lim e2,c1,fin,this]
theorem or_two (a b:Int)(H:Aa):Sh.f4j (.sl [[.i6 a],[.i6 b]] .ti) H=some (.ret (.i6 (if a=0 then b else a)),H):=by
 have i0:Aw 1 (.sl [[.i6 a],[.i6 b]] .ti) (.i6 0)=some (.cptr [.i6 a] 0):=rfl;have i1:Aw 1 (.sl [[.i6 a],[.i6 b]] .ti) (.i6 1)=some (.cptr [.i6 b] 0):=rfl;have l0:∀x:Ab,Ad false 1 (.cptr [x] 0) H=some x:=λ_=>rfl;have hl:A7 (.sl [[.i6 a],[.i6 b]] .ti)=some (.i6 2):=rfl;have w0:IntKind.i64.wrap (0+1)=1:=rfl;have w1:IntKind.i64.wrap (1+1)=2:=rfl;have d0:decide ((0:Int)<2)=true:=rfl;have d1:decide ((1:Int)<2)=true:=rfl;have d2:decide ((2:Int)<2)=false:=rfl;unfold Sh.f4j;simp only[GMw,hl];have key:=AZ (G:=λrec1 vs H1=>Sh.f7h H rec1 (ag vs 0) (ag vs 1) (ag vs 2) (ag vs 3) H1) (σ:=Nat) (λi=>i=0\/(i=1/\a=0)\/(i=2/\a=0/\b=0))
  (λi=>[.i6 0,.sl [[.i6 a],[.i6 b]] .ti,.i6 2,.i6 (i:Int)]) (λ_=>H) (λi=>2-i) (λ_=>some (.ret (.i6 (if a=0 then b else a)),H)) (λi rec hi hrec=>?_) 0 (.inl rfl) (by decide)
 ·exact key
 ·unfold Sh.f7h;rcases hi with rfl | ⟨rfl,ha⟩ | ⟨rfl,ha,hb⟩
  ·by_cases h:a=0
   ·have hn:(a != 0)=false:=by simp[h]
    have:=hrec 1 (.inr (.inl ⟨rfl,h⟩)) (by decide);simp only[GMw,Ai,Int.natCast_zero,d0,i0,l0,hn,w0];exact this
   ·have hn:(a != 0)=true:=by simp[h]
    simp only[GMw,Ai,Int.natCast_zero,d0,i0,l0,hn,if_neg h]
  ·by_cases h:b=0
   ·have hn:(b != 0)=false:=by simp[h]
    have:=hrec 2 (.inr (.inr ⟨rfl,ha,h⟩)) (by decide);simp only[GMw,Ai,show ((1:Nat):Int)=1 from rfl,d1,i1,l0,hn,w1];exact this
   ·have hn:(b != 0)=true:=by simp[h]
    simp only[GMw,Ai,show ((1:Nat):Int)=1 from rfl,d1,i1,l0,hn,if_pos ha]
  ·simp only[GMw,Ai,show ((2:Nat):Int)=2 from rfl,d2,if_pos ha,hb]
theorem p_order {c d:Cl}(hc:c.ok)(hd:d.ok)(H:Aa):Sh.f1t (.agg (cCl c)) (.agg (cCl d)) H=some (.ret (.i6 (Jr c d)),H):=by
 have e1:(H++[Blk.cel 0 (cCl c)]++[Blk.cel 0 (cCl d)])[H.length]? = some (.cel 0 (cCl c)):=by simp
 have e2:(H++[Blk.cel 0 (cCl c)]++[Blk.cel 0 (cCl d)])[(H++[Blk.cel 0 (cCl c)]).length]? = some (.cel 0 (cCl d)):=Ap;have hy:=λK=>b_cmp (hc.2.lb (by decide)) (hd.2.lb (by decide)) K;have hx:=λK=>b_cmp (hc.1.lb (by decide)) (hd.1.lb (by decide)) K;have hb:∀x y:Int,AL 1 [.i6 x,.i6 y]=some (.sl [[.i6 x],[.i6 y]] .ti):=λ_ _=>rfl;have fin:∀q:Int,rP H (.i6 q) (H++[Blk.cel 0 (cCl c)]++[Blk.cel 0 (cCl d)])=some (.ret (.i6 q),H):=λq=>by simp only[UP];exact HS
 unfold Sh.f1t;simp only[GMw,boxCl,Ah,UJ,Nat.add_zero,Jc e1,Jc e2,Jd e1,Jd e2,BQ,hy,hx,BC,and_true,hb,or_two,fin]
 rfl
theorem S1 {α:Type}{f:α->List Ab}{sz:Nat}[hf:Sz f sz][hp:Pl f]{H:Aa}{l:List α}{id b d cap k:Nat}{ex:Bool}(hg:AB H id 0=some (flat f l))(hi:b<=id)(hk:k<=l.length):Hl H b (d+3) (.ms id 0 0 k cap sz ex)=some (.sl (enL f (l.take k)) .no):=by
 have h1:¬id<b:=by omega
 have h2:k*sz<=l.length*sz:=Vw _ hk;have h3:(l.take k).length=k:=by simp;omega
 have h4:=Mb (f:=f) (l.take k);rw[h3]at h4;unfold Hl;simp only[frz,h1,if_false,hg,zXa,VX,UJ,Fj,h2,if_true,MS,Hb (MT (f:=f) (l.take k)),Ow (f:=f) (l.take k),h4,zXb,forget,Ew,fgt]
theorem OO (t:Nat):IntKind.u32.wrap (t:Int)=((t%4294967296:Nat):Int):=by
 simp only[IntKind.wrap,IntKind.bits,IntKind.signed];simp
theorem MX (t:Nat):Af .none .shr (.int .u64 (t:Int)) (.int .u64 32)=some (.int .u64 ((t / 4294967296:Nat):Int)):=by
 show some (Ab.int .u64 ((t:Int).fdiv 4294967296))=_;rw[W7 _ (by decide)]
 rfl
theorem RU {x m c:Nat}(hx:x<4294967296)(hm:m<4294967296)(hc:c<4294967296):c+x*m<18446744073709551616:=by
 have h1:x*m<=4294967295*4294967295:=WK (by omega) (by omega);omega
theorem I6 (x:Nat):val [x]=x:=by simp[val]
def Dk (l:List Nat)(m c:Nat):Nat->List Nat×Nat
 | 0=>([],c)
 | i+1=>((Dk l m c i).1++[((Dk l m c i).2+l[i]?.getD 0*m)%4294967296],((Dk l m c i).2+l[i]?.getD 0*m) / 4294967296)
theorem Oc {l:List Nat}{m c:Nat}(hx:Lim l)(hm:m<4294967296)(hc:c<4294967296):∀i,i<=l.length ->
  (Dk l m c i).1.length=i/\(Dk l m c i).2<4294967296/\Lim (Dk l m c i).1/\val (Dk l m c i).1+4294967296^i*(Dk l m c i).2=val (l.take i)*m+c
 | 0,_=>⟨rfl,hc,λx h=>(by cases h),by simp[Dk,val]⟩
 | i+1,hi=>by
  obtain⟨h1,h2,h3,h4⟩:=Oc hx hm hc i (by omega);have aI:=hx _ (UV (show i<l.length by omega));have hg:l[i]?.getD 0=l[i]:=by rw[UG (by omega)];rfl
  have ht:=RU aI hm h2;simp only[Dk,hg];refine⟨by simp[h1],?_,?_,?_⟩
  ·omega
  ·intro x jI;rcases Vi.1 jI with h | h
   ·exact h3 x h
   ·rw[Vg.1 h];exact Ws _ (by decide)
  ·rw[UR (by omega),Cu,Cu,h1,UY,VF (by omega)];have tP:=Wy ((Dk l m c i).2+l[i]*m) 4294967296;simp only[val,Nat.mul_zero,Nat.add_zero];generalize ((Dk l m c i).2+l[i]*m) / 4294967296=q at *;generalize ((Dk l m c i).2+l[i]*m)%4294967296=r at *;rw[Nat.pow_succ,Wk,V6,<-VO,show r+4294967296*q=(Dk l m c i).2+l[i]*m by omega,VO,V4];rw[<-V6,h4,Wk];omega
theorem q_mul {l:List Nat}{tk:Tok}{m c:Nat}(H:Aa)(hx:Lim l)(hl:l.length<=1099511627776)(hm:m<4294967296)(hc:c<4294967296) :
  Sh.f41 (.sl (enL cU l) tk) (.int .u32 (m:Int)) (.int .u32 (c:Int)) H=some (.ret (.sl (enL cU (A6 (val l*m+c))) .no),H):=by
 unfold Sh.f41;have hn:IntKind.i64.wrap ((l.length:Int)+1)=((l.length+1:Nat):Int):=by rw[Ao] <;> omega
 have dA:=Fx (f:=cU) (a:=0) (n:=l.length+1) (bytes:=4) (H:=H) (by omega) (by omega);simp only[show cU 0=[Ab.int .u32 0] from rfl]at dA;have hcc:AA .u64 (.int .u32 (c:Int))=some (.int .u64 (c:Int)):=by rw[Bl,BK (by omega) (by omega)]
 have nB:AA .u64 (.int .u32 (m:Int))=some (.int .u64 (m:Int)):=by rw[Bl,BK (by omega) (by omega)]
 simp only[GMw,Ay,hn,dA,hcc];refine Cj l.length (λi=>[.sl (enL cU l) tk,.int .u32 (m:Int),.ms H.length 0 0 (l.length+1) (l.length+1) 1 true,.int .u64 ((Dk l m c i).2:Int),.sl (enL cU l) tk,.i6 (l.length:Int),.i6 (i:Int)])
  (λi=>H++[.cel 0 (flat cU ((Dk l m c i).1++List.replicate (l.length+1-i) 0))]) _ (by omega) (λrec i hi=>?_) (λrec=>?_)
 ·obtain⟨h1,h2,h3,h4⟩:=Oc hx hm hc i (by omega);have aF:(i:Int)<(l.length:Int):=by omega
  have aI:=hx _ (UV hi);have hg:l[i]?.getD 0=l[i]:=by rw[UG hi];rfl
  have ht:=RU aI hm h2;have hidx:=CS (sz:=1) (id:=H.length) (n:=l.length+1) (K:=.i64) (g:=0) (off:=0) (cap:=l.length+1) (ex:=true) (i:=i) (by omega);simp only[UJ,UW]at hidx;obtain⟨t,htt⟩:∃t,t=(Dk l m c i).2+l[i]*m:=⟨_,rfl⟩;have hP:l[i]*m<=4294967295*4294967295:=WK (by omega) (by omega);have w1:AA .u64 (.int .u32 (l[i]:Int))=some (.int .u64 (l[i]:Int)):=by rw[Bl,BK (by omega) (by omega)]
  have w2:IntKind.u64.wrap ((l[i]:Int)*(m:Int))=((l[i]*m:Nat):Int):=by rw[<-Int.natCast_mul,BK (by omega) (by omega)]
  have w3:IntKind.u64.wrap (((Dk l m c i).2:Int)+((l[i]*m:Nat):Int))=(t:Int):=by rw[BK] <;> omega
  have w4:AA .u32 (.int .u64 (t:Int))=some (.int .u32 ((t%4294967296:Nat):Int)):=by rw[Bl,OO]
  have w5:Af .none .shr (.int .u64 (t:Int)) (.int .u64 32)=some (.int .u64 ((t / 4294967296:Nat):Int)):=MX t;have w6:IntKind.i64.wrap ((i:Int)+1)=((i+1:Nat):Int):=by rw[Ao] <;> omega
  have hst:=DW (f:=cU) (sz:=1) (l:=(Dk l m c i).1++List.replicate (l.length+1-i) 0) (i:=i) (a:=t%4294967296) (v:=.int .u32 ((t%4294967296:Nat):Int)) (H:=H++[Blk.cel 0 (flat cU ((Dk l m c i).1++List.replicate (l.length+1-i) 0))]) (id:=H.length) (A1 Ap) (by simp;omega) rfl;have aH:((Dk l m c i).1++List.replicate (l.length+1-i) 0).set i (t%4294967296)=(Dk l m c (i+1)).1++List.replicate (l.length+1-(i+1)) 0:=by
   rw[show l.length+1-i=(l.length+1-(i+1))+1 by omega,zXm,Vt _ _ (by omega),h1,Vr,List.set_cons_zero];simp[Dk,hg,<-htt]
  rw[UW,B5 Ap,Ba,aH]at hst;unfold Sh.f7b;simp only[GMw,Ai,aF,A4 hi,AF,zXh,w1,nB,w2,w3,w4,hidx,hst,w5,w6];simp only[Dk,hg,<-htt]
 ·obtain⟨h1,h2,h3,h4⟩:=Oc hx hm hc l.length (UK _);have hidx:=CS (sz:=1) (id:=H.length) (n:=l.length+1) (K:=.i64) (g:=0) (off:=0) (cap:=l.length+1) (ex:=true) (i:=l.length) (by omega);simp only[UJ,UW]at hidx;have w4:AA .u32 (.int .u64 ((Dk l m c l.length).2:Int))=some (.int .u32 ((Dk l m c l.length).2:Int)):=by rw[Bl,CP (by omega) (by omega)]
  have hst:=DW (f:=cU) (sz:=1) (l:=(Dk l m c l.length).1++List.replicate (l.length+1-l.length) 0) (i:=l.length) (a:=(Dk l m c l.length).2) (v:=.int .u32 ((Dk l m c l.length).2:Int)) (H:=H++[Blk.cel 0 (flat cU ((Dk l m c l.length).1++List.replicate (l.length+1-l.length) 0))]) (id:=H.length) (A1 Ap) (by simp;omega) rfl;have aH:((Dk l m c l.length).1++List.replicate (l.length+1-l.length) 0).set l.length (Dk l m c l.length).2=(Dk l m c l.length).1++[(Dk l m c l.length).2]:=by
   rw[show l.length+1-l.length=1 by omega,Vt _ _ (by omega),h1,Vr]
   rfl
  rw[UW,B5 Ap,Ba,aH]at hst;obtain⟨o,ho⟩:∃o,o=(Dk l m c l.length).1++[(Dk l m c l.length).2]:=⟨_,rfl⟩;have hol:o.length=l.length+1:=by rw[ho];simp[h1]
  have aJ:Lim o:=by
   intro x jI;rw[ho]at jI;rcases Vi.1 jI with h | h
   ·exact h3 x h
   ·rw[Vg.1 h];exact h2
  have nS:val o=val l*m+c:=by
   rw[ho,Cu,h1,I6];rw[Vs]at h4;exact h4
  rw[<-ho]at hst;have eL:=q_cut (l:=o) (H:=H++[Blk.cel 0 (flat cU o)]) (id:=H.length) Ap (by omega);have htk:=J3 aJ o.length (UK _);rw[Vs,nS]at htk;have eC:=S1 (f:=cU) (sz:=1) (b:=H.length) (d:=5) (cap:=o.length) (ex:=true) (k:=GY o o.length) (l:=o) (H:=H++[Blk.cel 0 (flat cU o)]) (id:=H.length) (A1 Ap) (UK _) (NN o _);rw[htk]at eC;rw[hol]at eL eC;unfold Sh.f7b;simp only[GMw,Ai,V3,Ay,w4,hidx,hst,eL,C6,eC,zXb]
theorem MC (b:List Nat)(i:Nat):val (b.take (i+1))=val (b.take i)+4294967296^i*b[i]?.getD 0:=by
 rcases Vy i b.length with h | h
 ·rw[UR h,Cu,UG h,UY,VF (by omega)];simp[val]
 ·rw[US (by omega),US h,zYb h];simp
theorem JI {b:List Nat}(h:Lim b)(i:Nat):b[i]?.getD 0<4294967296:=by
 rcases Vy i b.length with q | q
 ·rw[UG q];exact h _ (UV q)
 ·rw[zYb q];decide
def EM (a b:List Nat):Nat->List Nat×Nat
 | 0=>([],0)
 | i+1=>((EM a b i).1++[(a[i]?.getD 0+b[i]?.getD 0+(EM a b i).2)%4294967296],(a[i]?.getD 0+b[i]?.getD 0+(EM a b i).2) / 4294967296)
theorem addS_ok {a b:List Nat}(ha:Lim a)(hb:Lim b):∀i,(EM a b i).1.length=i/\(EM a b i).2<=1/\Lim (EM a b i).1/\val (EM a b i).1+4294967296^i*(EM a b i).2=val (a.take i)+val (b.take i)
 | 0=>⟨rfl,Ve _,λx h=>(by cases h),by simp[EM,val]⟩
 | i+1=>by
  obtain⟨h1,h2,h3,h4⟩:=addS_ok ha hb i;have g1:=JI ha i;have g2:=JI hb i;simp only[EM];refine⟨by simp[h1],by omega,?_,?_⟩
  ·intro x hx;rcases Vi.1 hx with h | h
   ·exact h3 x h
   ·rw[Vg.1 h];exact Ws _ (by decide)
  ·rw[MC,MC,Cu,h1];have tP:=Wy (a[i]?.getD 0+b[i]?.getD 0+(EM a b i).2) 4294967296;simp only[val,Nat.mul_zero,Nat.add_zero];generalize (a[i]?.getD 0+b[i]?.getD 0+(EM a b i).2) / 4294967296=q at *;generalize (a[i]?.getD 0+b[i]?.getD 0+(EM a b i).2)%4294967296=r at *;rw[Nat.pow_succ,Wk,V6,<-VO,show r+4294967296*q=a[i]?.getD 0+b[i]?.getD 0+(EM a b i).2 by omega,VO,VO];omega
theorem p_add32 {x y c:Nat}(hx:x<4294967296)(hy:y<4294967296)(hc:c<=1)(H:Aa):Sh.f49 (.int .u32 (x:Int)) (.int .u32 (y:Int)) (.int .u32 (c:Int)) H=some (.ret (.tup [.int .u32 (((x+y+c)%4294967296:Nat):Int),.int .u32 (((x+y+c) / 4294967296:Nat):Int)]),H):=by
 have w:∀n:Nat,n<4294967296->AA .u64 (.int .u32 (n:Int))=some (.int .u64 (n:Int)):=λn h=>by rw[Bl,BK (by omega) (by omega)]
 have w1:IntKind.u64.wrap ((x:Int)+(y:Int))=((x+y:Nat):Int):=by rw[BK] <;> omega
 have w2:IntKind.u64.wrap (((x+y:Nat):Int)+(c:Int))=((x+y+c:Nat):Int):=by rw[BK] <;> omega
 have w4:AA .u32 (.int .u64 ((x+y+c:Nat):Int))=some (.int .u32 (((x+y+c)%4294967296:Nat):Int)):=by rw[Bl,OO]
 have w5:=MX (x+y+c);have w6:AA .u32 (.int .u64 (((x+y+c) / 4294967296:Nat):Int))=some (.int .u32 (((x+y+c) / 4294967296:Nat):Int)):=by rw[Bl,CP (by omega) (by omega)]
 unfold Sh.f49;simp only[GMw,w x hx,w y hy,w c (by omega),w1,w2,w4,w5,w6]
theorem add_tail {H:Aa}{o:List Nat}{v:Nat}(hol:o.length<1099511627780)(aJ:Lim o)(nS:val o=v) :
  (Sh.f2 (.ms H.length 0 0 o.length o.length 1 true) (H++[Blk.cel 0 (flat cU o)])).bind (λr=>match r.1 with | .ret x=>rPN H x r.2 | .pan x=>none)=some (.ret (.sl (enL cU (A6 v)) .no),H):=by
 have eL:=q_cut (l:=o) (H:=H++[Blk.cel 0 (flat cU o)]) (id:=H.length) Ap (by omega);have htk:=J3 aJ o.length (UK _);rw[Vs,nS]at htk;have hk:=NN o o.length;have eC:=S1 (f:=cU) (sz:=1) (d:=5) (cap:=o.length) (ex:=true) (A1 (Ap (cs:=flat cU o) (B:=H))) (UK H.length) hk;rw[eL];simp only[zXa,C6];rw[eC,htk]
 rfl
theorem add_j1 {a b:List Nat}{ta tb:Tok}(H:Aa)(ha:Lim a)(hb:Lim b)(hl:a.length<=1099511627776)(hle:b.length<=a.length) :
  Sh.f7e H (.sl (enL cU a) ta) (.sl (enL cU b) tb) H=some (.ret (.sl (enL cU (A6 (val a+val b))) .no),H):=by
 unfold Sh.f7e;have hn:IntKind.i64.wrap ((a.length:Int)+1)=((a.length+1:Nat):Int):=by rw[Ao] <;> omega
 have dA:=Fx (f:=cU) (a:=0) (n:=a.length+1) (bytes:=4) (H:=H) (by omega) (by omega);simp only[show cU 0=[Ab.int .u32 0] from rfl]at dA;simp only[GMw,Ay,hn,dA];refine Cj (G:=λaA vs H1=>Sh.f4a H aA (ag vs 0) (ag vs 1) (ag vs 2) (ag vs 3) (ag vs 4) (ag vs 5) (ag vs 6) H1) a.length
  (λi=>[.sl (enL cU a) ta,.sl (enL cU b) tb,.ms H.length 0 0 (a.length+1) (a.length+1) 1 true,.int .u32 ((EM a b i).2:Int),.sl (enL cU a) ta,.i6 (a.length:Int),.i6 (i:Int)])
  (λi=>H++[.cel 0 (flat cU ((EM a b i).1++List.replicate (a.length+1-i) 0))]) _ (by omega) (λrec i hi=>?_) (λrec=>?_)
 ·obtain⟨h1,h2,h3,h4⟩:=addS_ok ha hb i;have d1:decide ((i:Int)<(a.length:Int))=true:=zXc (by omega);have aI:=ha _ (UV hi);have hg:a[i]?.getD 0=a[i]:=by rw[UG hi];rfl
  have hidx:=CS (sz:=1) (id:=H.length) (n:=a.length+1) (K:=.i64) (g:=0) (off:=0) (cap:=a.length+1) (ex:=true) (i:=i) (by omega);simp only[UJ,UW]at hidx;have w6:IntKind.i64.wrap ((i:Int)+1)=((i+1:Nat):Int):=by rw[Ao] <;> omega
  have hst:=DW (f:=cU) (sz:=1) (l:=(EM a b i).1++List.replicate (a.length+1-i) 0) (i:=i) (a:=(a[i]?.getD 0+b[i]?.getD 0+(EM a b i).2)%4294967296) (v:=.int .u32 (((a[i]?.getD 0+b[i]?.getD 0+(EM a b i).2)%4294967296:Nat):Int)) (H:=H++[Blk.cel 0 (flat cU ((EM a b i).1++List.replicate (a.length+1-i) 0))]) (id:=H.length) (A1 Ap) (by simp;omega) rfl;have aH:((EM a b i).1++List.replicate (a.length+1-i) 0).set i ((a[i]?.getD 0+b[i]?.getD 0+(EM a b i).2)%4294967296)=(EM a b (i+1)).1++List.replicate (a.length+1-(i+1)) 0:=by
   rw[show a.length+1-i=(a.length+1-(i+1))+1 by omega,zXm,Vt _ _ (by omega),h1,Vr,List.set_cons_zero];simp[EM]
  rw[UW,B5 Ap,Ba,aH]at hst;rw[hg]at hst;have oS:=JI hb i;have h32:=λK=>p_add32 aI oS h2 K;have cF:(EM a b (i+1)).2=(a[i]+b[i]?.getD 0+(EM a b i).2) / 4294967296:=by simp only[EM,hg]
  unfold Sh.f4a Sh.f8f;by_cases rT:i<b.length
  ·have d2:decide ((i:Int)<(b.length:Int))=true:=zXc (by omega);have oJ:b[i]?.getD 0=b[i]:=by rw[UG rT];rfl
   rw[oJ]at h32 hst cF;simp only[An,Ai,Bb,Bd,B7,Cb,DL,GMw,d1,d2,Ay,A4 hi,A4 rT,AF,zXh,h32,Bt,Bz,hidx,hst,AC,w6,cF]
  ·have d2:decide ((i:Int)<(b.length:Int))=false:=zXd (by omega);have oJ:b[i]?.getD 0=0:=by rw[zYb (by omega)];rfl
   rw[oJ]at h32 hst cF;simp only[Int.natCast_zero]at h32;simp only[An,Ai,Bb,Bd,B7,Cb,DL,GMw,d1,d2,Ay,A4 hi,AF,zXh,h32,Bt,Bz,hidx,hst,AC,w6,cF]
 ·obtain⟨h1,h2,h3,h4⟩:=addS_ok ha hb a.length;have d1:decide ((a.length:Int)<(a.length:Int))=false:=zXd (by omega);have hidx:=CS (sz:=1) (id:=H.length) (n:=a.length+1) (K:=.i64) (g:=0) (off:=0) (cap:=a.length+1) (ex:=true) (i:=a.length) (by omega);simp only[UJ,UW]at hidx;have hst:=DW (f:=cU) (sz:=1) (l:=(EM a b a.length).1++List.replicate (a.length+1-a.length) 0) (i:=a.length) (a:=(EM a b a.length).2) (v:=.int .u32 ((EM a b a.length).2:Int)) (H:=H++[Blk.cel 0 (flat cU ((EM a b a.length).1++List.replicate (a.length+1-a.length) 0))]) (id:=H.length) (A1 Ap) (by simp;omega) rfl;have aH:((EM a b a.length).1++List.replicate (a.length+1-a.length) 0).set a.length (EM a b a.length).2=(EM a b a.length).1++[(EM a b a.length).2]:=by
   rw[show a.length+1-a.length=1 by omega,Vt _ _ (by omega),h1,Vr]
   rfl
  rw[UW,B5 Ap,Ba,aH]at hst;obtain⟨o,ho⟩:∃o,o=(EM a b a.length).1++[(EM a b a.length).2]:=⟨_,rfl⟩;have hol:o.length=a.length+1:=by rw[ho];simp[h1]
  have aJ:Lim o:=by
   intro x jI;rw[ho]at jI;rcases Vi.1 jI with h | h
   ·exact h3 x h
   ·rw[Vg.1 h];omega
  have nS:val o=val a+val b:=by
   rw[ho,Cu,h1,I6];rw[Vs,US hle]at h4;exact h4
  rw[<-ho]at hst;have ht:=add_tail (H:=H) (o:=o) (by omega) aJ nS;rw[hol]at ht;unfold Sh.f4a;simp only[An,Ai,Bb,Bd,B7,Cb,DL,GMw,d1,Ay,hidx,hst,AC];have eL:=q_cut (l:=o) (H:=H++[Blk.cel 0 (flat cU o)]) (id:=H.length) Ap (by omega);rw[hol]at eL;rw[eL]at ht ⊢;simp only[zXa]at ht;simp only[GMw];exact ht
theorem p_add {a b:List Nat}{ta tb:Tok}(H:Aa)(ha:Lim a)(hb:Lim b)(h1:a.length<=1099511627776)(h2:b.length<=1099511627776) :
  Sh.f4b (.sl (enL cU a) ta) (.sl (enL cU b) tb) H=some (.ret (.sl (enL cU (A6 (val a+val b))) .no),H):=by
 unfold Sh.f4b;by_cases h:a.length<b.length
 ·have d1:decide ((a.length:Int)<(b.length:Int))=true:=zXc (by omega);simp only[GMw,Ay,d1];rw[add_j1 H hb ha h2 (by omega),Xo]
 ·have d1:decide ((a.length:Int)<(b.length:Int))=false:=zXd (by omega);simp only[GMw,Ay,d1];exact add_j1 H ha hb h1 (by omega)
theorem Kc (a b:BitVec 32):Ir .and .u32 (a.toNat:Int) (b.toNat:Int)=some (.int .u32 ((a &&& b).toNat:Int))/\Ir .or .u32 (a.toNat:Int) (b.toNat:Int)=some (.int .u32 ((a ||| b).toNat:Int))/\Ir .xor .u32 (a.toNat:Int) (b.toNat:Int)=some (.int .u32 ((a ^^^ b).toNat:Int)):=by
 have ho:∀v:BitVec 32,BitVec.ofInt 32 (v.toNat:Int)=v:=λv=>by
  rw[BitVec.ofInt_natCast,BitVec.ofNat_toNat,BitVec.setWidth_eq]
 have hw:∀v:BitVec 32,IntKind.u32.wrap (v.toNat:Int)=(v.toNat:Int):=λv=>by
  have:=v.isLt;rw[CP (by omega) (by omega)]
 refine⟨?_,?_,?_⟩
 ·show some (Ab.int .u32 (IntKind.u32.wrap (((BitVec.ofInt 32 (a.toNat:Int)) &&& (BitVec.ofInt 32 (b.toNat:Int))).toNat:Int)))=_;rw[ho,ho,hw]
 ·show some (Ab.int .u32 (IntKind.u32.wrap (((BitVec.ofInt 32 (a.toNat:Int)) ||| (BitVec.ofInt 32 (b.toNat:Int))).toNat:Int)))=_;rw[ho,ho,hw]
 ·show some (Ab.int .u32 (IntKind.u32.wrap (((BitVec.ofInt 32 (a.toNat:Int)) ^^^ (BitVec.ofInt 32 (b.toNat:Int))).toNat:Int)))=_;rw[ho,ho,hw]
theorem not_u32 (a:BitVec 32):unA .xor (.int .u32 (a.toNat:Int))=some (.int .u32 ((~~~a).toNat:Int)):=by
 have h:=(Kc (BitVec.allOnes 32) a).2.2;have e:((BitVec.allOnes 32).toNat:Int)=4294967295:=by decide
 rw[e]at h;have hn : ~~~a=BitVec.allOnes 32 ^^^ a:=BitVec.allOnes_xor.symm;rw[hn];exact h
theorem msb_u32 (v:BitVec 32):Af .none .shr (.int .u32 (v.toNat:Int)) (.int .u64 31)=some (.int .u32 ((if v.msb then 1 else 0:Nat):Int)):=by
 have hs:Af .none .shr (.int .u32 (v.toNat:Int)) (.int .u64 31)=some (.int .u32 (Int.fdiv (v.toNat:Int) (2^(min (31:Int).toNat IntKind.u32.bits)))):=rfl;have hlt:=v.isLt;rw[hs,show (2:Int)^(min (31:Int).toNat IntKind.u32.bits)=2147483648 from by decide,W7 _ (by omega)]
 congr 2
 rw[WQ];by_cases h:2147483648<=v.toNat
 ·have:decide (2^(32-1)<=v.toNat)=true:=zXc (by omega);rw[this];simp only[if_true];omega
 ·have:decide (2^(32-1)<=v.toNat)=false:=zXd (by omega);rw[this];simp only[UM,if_false];omega
theorem M0 (op:BinOp)(aE:Dw op=false)(a b:Int)(hb:∀k x y,FA op k x y=Ir op k x y):Af .none op (.int .u32 a) (.int .u32 b)=Ir op .u32 a b:=by
 show (if Dw op then _ else if IntKind.u32=IntKind.u32 then FA op .u32 a b else none)=_;rw[aE,if_neg (by decide),if_pos rfl,hb]
theorem p_sub32 {x y c:Nat}(hx:x<4294967296)(hy:y<4294967296)(hc:c<=1)(H:Aa):Sh.f2f (.int .u32 (x:Int)) (.int .u32 (y:Int)) (.int .u32 (c:Int)) H =
  some (.ret (.tup [.int .u32 (((x+4294967296-y-c)%4294967296:Nat):Int),.int .u32 ((if x<y+c then 1 else 0:Nat):Int)]),H):=by
 obtain⟨a,ha⟩:∃a:BitVec 32,a.toNat=x:=⟨BitVec.ofNat 32 x,by rw[Wm];omega⟩;obtain⟨b,hb⟩:∃b:BitVec 32,b.toNat=y:=⟨BitVec.ofNat 32 y,by rw[Wm];omega⟩;obtain⟨d,hd⟩:∃d:BitVec 32,d.toNat=(x+4294967296-y-c)%4294967296:=⟨BitVec.ofNat 32 ((x+4294967296-y-c)%4294967296),by rw[Wm];omega⟩;have wX:∀z:Int,IntKind.u32.wrap z=z%4294967296:=λz=>by
  simp only[IntKind.wrap,IntKind.bits,IntKind.signed];simp
 have w1:IntKind.u32.wrap (IntKind.u32.wrap ((x:Int)-(y:Int))-(c:Int))=(d.toNat:Int):=by
  rw[wX,wX,hd];omega
 have e1:∀p q:BitVec 32,Af .none .and (.int .u32 (p.toNat:Int)) (.int .u32 (q.toNat:Int))=some (.int .u32 ((p &&& q).toNat:Int)):=λp q=>by
  rw[M0 .and rfl _ _ (λ_ _ _=>rfl)];exact (Kc p q).1
 have e2:∀p q:BitVec 32,Af .none .or (.int .u32 (p.toNat:Int)) (.int .u32 (q.toNat:Int))=some (.int .u32 ((p ||| q).toNat:Int)):=λp q=>by
  rw[M0 .or rfl _ _ (λ_ _ _=>rfl)];exact (Kc p q).2.1
 have e3:∀p q:BitVec 32,Af .none .xor (.int .u32 (p.toNat:Int)) (.int .u32 (q.toNat:Int))=some (.int .u32 ((p ^^^ q).toNat:Int)):=λp q=>by
  rw[M0 .xor rfl _ _ (λ_ _ _=>rfl)];exact (Kc p q).2.2
 have hm:(if ((~~~a &&& b) ||| (~~~(a ^^^ b) &&& d)).msb then 1 else 0:Nat)=if x<y+c then 1 else 0:=by
  rw[BitVec.msb_or,BitVec.msb_and,BitVec.msb_and,BitVec.msb_not,BitVec.msb_not,BitVec.msb_xor,WQ a,WQ b,WQ d,ha,hb,hd];have q1:decide (2^(32-1)<=x)=decide (2147483648<=x):=rfl;have q2:decide (2^(32-1)<=y)=decide (2147483648<=y):=rfl;have q3:decide (2^(32-1)<=(x+4294967296-y-c)%4294967296)=decide (2147483648<=(x+4294967296-y-c)%4294967296):=rfl;rw[q1,q2,q3];by_cases c1:2147483648<=x <;> by_cases c2:2147483648<=y <;> by_cases c3:2147483648<=(x+4294967296-y-c)%4294967296 <;> simp only[c1,c2,c3,decide_true,decide_false] <;> (first | (rw[if_pos (by decide),if_pos (by omega)]) | (rw[if_neg (by decide),if_neg (by omega)]))
 unfold Sh.f2f;simp only[GMw,w1];rw[<-ha,<-hb];simp only[GMw,not_u32,e1,e2,e3,msb_u32,BL];rw[hm,hd,ha,hb]
theorem q_rightG {l:List Nat}{H:Aa}{id k:Nat}{ex:Bool}(hg:AB H id 0=some (flat cU l))(hk:k<=l.length)(hl:l.length<9223372036854775807):Sh.fc (.ms id 0 0 k l.length 1 ex) H=some (.ret (.bool (decide (k=0)||decide (l[k-1]?.getD 0≠0))),H):=by
 unfold Sh.fc;cases k with
 | zero=>simp[A7]
 | succ k=>
  have hidx:=CS (sz:=1) (id:=id) (n:=k+1) (K:=.i64) (g:=0) (off:=0) (cap:=l.length) (ex:=ex) (i:=k) (by omega);simp only[UJ,UW]at hidx;have hld:=Ih (f:=cU) (id:=id) (l:=l) (H:=H) hg (i:=k) (by omega);have h0:¬((k+1:Nat):Int)=0:=by omega
  have hw:IntKind.i64.wrap (((k+1:Nat):Int)-1)=(k:Int):=by rw[Ao] <;> omega
  have vU:l[k]? = some l[k]:=UG (by omega);simp only[show A7 (.ms id 0 0 (k+1) l.length 1 ex)=some (.i6 ((k+1:Nat):Int)) from rfl,GMw,h0,hw,hidx,hld,Vm,vU,Option.getD_some,Wv];by_cases h:l[k]=0
  ·simp[h]
  ·have:¬(l[k]:Int)=0:=by omega
   simp[h,this]
theorem q_cutG {l:List Nat}{H:Aa}{id:Nat}{ex:Bool}(hg:AB H id 0=some (flat cU l))(hl:l.length<1152921504606846976):Sh.f2 (.ms id 0 0 l.length l.length 1 ex) H=some (.ret (.ms id 0 0 (GY l l.length) l.length 1 ex),H):=by
 unfold Sh.f2;refine AZ (σ:=Nat) (λk=>k<=l.length/\GY l k=GY l l.length) (λk=>[.ms id 0 0 k l.length 1 ex]) (λ_=>H) (λk=>k) (λ_=>some (.ret (.ms id 0 0 (GY l l.length) l.length 1 ex),H)) (λk rec hi hrec=>?_) l.length ⟨UK _,rfl⟩ (by omega);obtain⟨hk,ht⟩:=hi;unfold Sh.f1a;simp only[An,q_rightG hg hk (by omega),GMw];cases k with
 | zero=>simp[<-ht,GY,rKN,fin,forget,Ew,fgt]
 | succ k=>
  by_cases h:l[k]?.getD 0=0
  ·have hw:IntKind.i64.wrap (((k+1:Nat):Int)-1)=(k:Int):=by rw[Ao] <;> omega
   have hsl:Bw 1 (.ms id 0 0 (k+1) l.length 1 ex) none (some (.i6 (k:Int))) none=some (.ms id 0 0 k l.length 1 ex):=by
    have:(0:Int)<=(k:Int):=by omega
    simp only[Bw,By,zXa,this,if_true,zXl];rw[if_pos ⟨trivial,by omega,by omega,by omega⟩];simp
   have dX:GY l k=GY l l.length:=by rw[<-ht];simp[GY,h]
   have hr:=hrec k ⟨by omega,dX⟩ (by omega);simp only[h,show A7 (.ms id 0 0 (k+1) l.length 1 ex)=some (.i6 ((k+1:Nat):Int)) from rfl,GMw,hw,hsl,Vm,ne_eq,not_true_eq_false,Wv];exact hr
  ·have dX:GY l (k+1)=k+1:=by simp[GY,h]
   have hr:(decide (k+1=0)||decide (l[k+1-1]?.getD 0≠0))=true:=by simp[h]
   simp only[hr,GMw,Em,forget,Ew,fgt];rw[<-ht,dX]
theorem clone_u (l:List Nat)(tk:Tok)(H:Aa)(hl:l.length<=1099511627776):Sh.f2e (.sl (enL cU l) tk) H=some (if l=[]then (.ret (.sl [] .ti),H)else (.ret (.ms H.length 0 0 l.length l.length 1 false),H++[.buf 0 (flat cU l) BA 1])):=by
 have hb:AL 1 []=some (.sl [] .ti):=rfl;unfold Sh.f2e;cases l with
 | nil=>
  have ha:Ga BA 1 4 (.sl [] .ti) (.sl (enL cU []) tk) H=some (.sl [] .ti,H):=rfl;have hn:Qz .eql (.sl (enL cU []) tk)=some .ubool:=rfl;have hu:∀x:Out,Ak .ubool x x=x:=λx=>if_pos rfl;simp only[hn,GMw,hb,ha];exact hu _
 | cons c l=>
  have hn:Qz .eql (.sl (enL cU (c::l)) tk)=some (.bool false):=rfl;have ha:Ga BA 1 4 (.sl [] .ti) (.sl (enL cU (c::l)) tk) H=some (.ms H.length 0 0 (c::l).length (c::l).length 1 false,H++[.buf 0 (flat cU (c::l)) BA 1]):=by
   have he:Cw 1 (.sl (enL cU (c::l)) tk) H=some (enL cU (c::l)):=O6;have hlen:(enL cU (c::l)).length=(c::l).length:=by simp[enL]
   unfold Ga;rw[he];simp only[zXa];unfold Iw;rw[hlen,if_neg (by simp)];simp only[zXk,UJ,List.all_nil,List.nil_append];rw[if_pos ⟨trivial,by omega,by omega⟩]
   rfl
  simp only[hn,GMw,hb,ha];rw[if_neg (by simp)]
def dgS (x y c:Nat):Nat:=(x+4294967296-y-c)%4294967296
def bwS (x y c:Nat):Nat:=if x<y+c then 1 else 0
theorem dif_ar1 {P W x y c:Nat}(h:x<y+c)(hy:y+c<=x+W):P*(x+W-y-c)+P*y+P*c=P*x+P*W:=by
 rw[<-VO,<-VO,<-VO,show x+W-y-c+y+c=x+W by omega]
theorem dif_ar2 {P x y c:Nat}(h:y+c<=x):P*(x-y-c)+P*y+P*c=P*x:=by
 rw[<-VO,<-VO,show x-y-c+y+c=x by omega]
theorem dif_mod {W x y c:Nat}(hx:x<W)(hy:y<W)(hc:c<=1):(x+W-y-c)%W=if x<y+c then x+W-y-c else x-y-c:=by
 by_cases h:x<y+c
 ·rw[if_pos h,VE (by omega)]
 ·rw[if_neg h,show x+W-y-c=(x-y-c)+W by omega,Nat.add_mod_right,VE (by omega)]
theorem dif_fin {v1 v2 u P Q W x y c d r:Nat}(h4:v1+v2=u+P*c)(hQ:Q=P*W)(hr:r=if x<y+c then x+W-y-c else x-y-c)(hd:d=if x<y+c then 1 else 0)(hy:y+c<=x+W):v1+P*r+(v2+P*y)=u+P*x+Q*d:=by
 by_cases h:x<y+c
 ·rw[if_pos h]at hr hd;have:=dif_ar1 (P:=P) h hy;rw[hr,hd,hQ,UW];omega
 ·rw[if_neg h]at hr hd;have:=dif_ar2 (P:=P) (show y+c<=x by omega);rw[hr,hd,Nat.mul_zero];omega
theorem dg_eq {x y c:Nat}(hx:x<4294967296)(hy:y<4294967296)(hc:c<=1):dgS x y c=if x<y+c then x+4294967296-y-c else x-y-c:=dif_mod hx hy hc
theorem dg_lt (x y c:Nat):dgS x y c<4294967296:=Ws _ (by decide)
theorem bw_le (x y c:Nat):bwS x y c<=1:=by unfold bwS;split <;> omega
def FB (a b:List Nat):Nat->List Nat×Nat
 | 0=>([],0)
 | i+1=>((FB a b i).1++[dgS (a[i]?.getD 0) (b[i]?.getD 0) (FB a b i).2],bwS (a[i]?.getD 0) (b[i]?.getD 0) (FB a b i).2)
theorem difS_ok {a b:List Nat}(ha:Lim a)(hb:Lim b):∀i,(FB a b i).1.length=i/\(FB a b i).2<=1/\Lim (FB a b i).1/\val (FB a b i).1+val (b.take i)=val (a.take i)+4294967296^i*(FB a b i).2
 | 0=>⟨rfl,Ve _,λx h=>(by cases h),by simp[FB,val]⟩
 | i+1=>by
  obtain⟨h1,h2,h3,h4⟩:=difS_ok ha hb i;have g1:=JI ha i;have g2:=JI hb i;simp only[FB];refine⟨by simp[h1],bw_le _ _ _,?_,?_⟩
  ·intro x hx;rcases Vi.1 hx with h | h
   ·exact h3 x h
   ·rw[Vg.1 h];exact dg_lt _ _ _
  ·rw[MC,MC,Cu,h1,I6];exact dif_fin h4 (Nat.pow_succ _ _) (dg_eq g1 g2 h2) rfl (Vf (Nat.add_le_add (Nat.le_of_lt_succ g2) h2) (Nat.le_add_left _ _))
theorem fpart_msT {α:Type}{f:α->List Ab}{sz:Nat}[hf:Sz f sz][hp:Pl f]{H:Aa}{l:List α}{id b d cap k:Nat}{ex:Bool}(hg:AB H id 0=some (flat f l))(hi:b<=id)(hk:k<=l.length):Fh H b (d+3) (.ms id 0 0 k cap sz ex)=some (.sl (enL f (l.take k)) .no):=by
 have h1:¬id<b:=by omega
 have h2:k*sz<=l.length*sz:=Vw _ hk;have h3:(l.take k).length=k:=by simp;omega
 have h4:=Mb (f:=f) (l.take k);rw[h3]at h4;unfold Fh;simp only[frz,h1,if_false,hg,zXa,VX,UJ,Fj,h2,if_true,MS,Hb (MT (f:=f) (l.take k)),Ow (f:=f) (l.take k),h4,zXb,Ew,fgt]
theorem Gk {l:List Nat}(h:Lim l):val l<4294967296^l.length:=by
 induction l with
 | nil=>simp[val]
 | cons x l ih=>
  have h1:=h x (by simp);have h2:=ih λy hy=>h y (by simp[hy]);have e:val (x::l)=x+4294967296*val l:=rfl;rw[e,zXj,Nat.pow_succ,VV _ 4294967296];have:4294967296*(val l+1)<=4294967296*4294967296^l.length:=WU _ h2;rw[VO]at this;omega
theorem cut_nil (H:Aa)(tk:Tok):Sh.f2 (.sl [] tk) H=some (.ret (.sl [] .no),H):=by
 have hr:Sh.fc (.sl [] tk) H=some (.ret (.bool true),H):=by unfold Sh.fc;simp[A7]
 unfold Sh.f2;rw[Dp DZ];unfold Sh.f1a;simp only[An,GMw,hr,Em,forget,Ew,fgt]
theorem p_sub {a b:List Nat}{ta tb:Tok}(H:Aa)(ha:Lim a)(hb:Lim b)(hl:a.length<=1099511627776)(hle:b.length<=a.length)(hv:val b<=val a) :
  Sh.f4c (.sl (enL cU a) ta) (.sl (enL cU b) tb) H=some (.ret (.tup [.sl (enL cU (A6 (val a-val b))) .no,.bool true]),H):=by
 have dU:=λK=>OA (t:=ta) (t':=tb) K ha hb hl (by omega);have lM:decide (FC (val a:Int) (val b:Int)<0)=false:=by
  rw[FX];exact zXd (by omega)
 have aG:=clone_u a ta H hl;unfold Sh.f4c;by_cases h0:a=[]
 ·subst h0;rw[if_pos rfl]at aG;have dW:b=[]:=UZ (by simpa using hle);subst dW;have hlen:A7 (.sl [] .ti)=some (.i6 0):=rfl;have d0:decide ((0:Int)<0)=false:=rfl;have e0:A6 (val []-val [])=[]:=DX;simp only[GMw,dU,lM,aG,hlen];rw[Dp DZ];unfold Sh.f2g;simp only[An,Ai,Bb,Bd,B7,Cb,GMw,d0,cut_nil,LN,C9,B4,BO,II,Hi,zXb,e0]
  rfl
 ·rw[if_neg h0]at aG;have hlen:A7 (.ms H.length 0 0 a.length a.length 1 false)=some (.i6 (a.length:Int)):=rfl;simp only[GMw,dU,lM,aG,hlen];refine Cj (G:=λrec1 vs H1=>Sh.f2g H rec1 (ag vs 0) (ag vs 1) (ag vs 2) (ag vs 3) (ag vs 4) H1) a.length
   (λi=>[.sl (enL cU b) tb,.ms H.length 0 0 a.length a.length 1 false,.int .u32 ((FB a b i).2:Int),.i6 (a.length:Int),.i6 (i:Int)])
   (λi=>H++[.buf 0 (flat cU ((FB a b i).1++a.drop i)) BA 1]) _ (by omega) (λrec i hi=>?_) (λrec=>?_)
  ·obtain⟨h1,h2,h3,h4⟩:=difS_ok ha hb i;have d1:decide ((i:Int)<(a.length:Int))=true:=zXc (by omega);have aI:=ha _ (UV hi);have hg:a[i]?.getD 0=a[i]:=by rw[UG hi];rfl
   have hidx:=CS (sz:=1) (id:=H.length) (n:=a.length) (K:=.i64) (g:=0) (off:=0) (cap:=a.length) (ex:=false) (i:=i) hi;simp only[UJ,UW]at hidx;have jC:AB (H++[Blk.buf 0 (flat cU ((FB a b i).1++a.drop i)) BA 1]) H.length 0=some (flat cU ((FB a b i).1++a.drop i)):=by simp[AB]
   have hil:i<((FB a b i).1++a.drop i).length:=by rw[UO,h1,Vc];omega
   have oN:((FB a b i).1++a.drop i)[i]=a[i]:=by
    rw[VK (by omega)];simp only[h1,Vr];rw[W4];rfl
   have hld:=Ih (f:=cU) jC hil;rw[oN]at hld;have w6:IntKind.i64.wrap ((i:Int)+1)=((i+1:Nat):Int):=by rw[Ao] <;> omega
   have hst:=DW (f:=cU) (sz:=1) (a:=dgS (a[i]?.getD 0) (b[i]?.getD 0) (FB a b i).2) (v:=.int .u32 (dgS (a[i]?.getD 0) (b[i]?.getD 0) (FB a b i).2:Int)) jC hil rfl;have aH:((FB a b i).1++a.drop i).set i (dgS (a[i]?.getD 0) (b[i]?.getD 0) (FB a b i).2)=(FB a b (i+1)).1++a.drop (i+1):=by
    rw[Vt _ _ (by omega),h1,Vr,Vh hi,List.set_cons_zero];simp only[FB,UP,List.cons_append,List.nil_append]
   have zB:∀cs,FH (H++[Blk.buf 0 (flat cU ((FB a b i).1++a.drop i)) BA 1]) H.length 0 cs=H++[Blk.buf 0 cs BA 1]:=λcs=>by simp[FH]
   rw[UW,zB,aH]at hst;rw[hg]at hst;have oS:=JI hb i;have h32:∀K,Sh.f2f (.int .u32 (a[i]:Int)) (.int .u32 ((b[i]?.getD 0:Nat):Int)) (.int .u32 ((FB a b i).2:Int)) K=some (.ret (.tup [.int .u32 (dgS a[i] (b[i]?.getD 0) (FB a b i).2:Int),.int .u32 (bwS a[i] (b[i]?.getD 0) (FB a b i).2:Int)]),K):=λK=>p_sub32 aI oS h2 K;have cF:(FB a b (i+1)).2=bwS a[i] (b[i]?.getD 0) (FB a b i).2:=by simp only[FB,hg]
   unfold Sh.f2g Sh.f8g;by_cases rT:i<b.length
   ·have d2:decide ((i:Int)<(b.length:Int))=true:=zXc (by omega);have oJ:b[i]?.getD 0=b[i]:=by rw[UG rT];rfl
    rw[oJ]at h32 hst cF;simp only[An,Ai,Bb,Bd,B7,Cb,DL,GMw,d1,d2,Ay,A4 rT,AF,zXh,hidx,hld,h32,Bt,Bz,hst,AC,w6,cF]
   ·have d2:decide ((i:Int)<(b.length:Int))=false:=zXd (by omega);have oJ:b[i]?.getD 0=0:=by rw[zYb (by omega)];rfl
    rw[oJ]at h32 hst cF;simp only[Int.natCast_zero]at h32;simp only[An,Ai,Bb,Bd,B7,Cb,DL,GMw,d1,d2,Ay,zXh,hidx,hld,h32,Bt,Bz,hst,AC,w6,cF]
  ·obtain⟨h1,h2,h3,h4⟩:=difS_ok ha hb a.length;have d1:decide ((a.length:Int)<(a.length:Int))=false:=zXd (by omega);rw[Vs,US hle]at h4;have hlt:=Gk h3;rw[h1]at hlt;have wE:(FB a b a.length).2=0:=by
    rcases WC (FB a b a.length).2 with q | q
    ·exact q
    ·have:(FB a b a.length).2=1:=by omega
     rw[this,UW]at h4;omega
   rw[wE,Nat.mul_zero]at h4;rw[XE,Vl];obtain⟨o,ho⟩:∃o,o=(FB a b a.length).1:=⟨_,rfl⟩;rw[<-ho]at h1 h3 h4 ⊢;have jC:AB (H++[Blk.buf 0 (flat cU o) BA 1]) H.length 0=some (flat cU o):=by simp[AB]
   have eL:=q_cutG (ex:=false) jC (by omega);have htk:=J3 h3 o.length (UK _);rw[Vs,show val o=val a-val b by omega]at htk;have eC:=fpart_msT (f:=cU) (sz:=1) (d:=3) (cap:=o.length) (ex:=false) jC (UK H.length) (NN o o.length);rw[htk]at eC;rw[h1]at eL eC;unfold Sh.f2g;simp only[An,Ai,Bb,Bd,B7,Cb,GMw,d1,eL,C6,C9,B4,BO,Hi,eC,zXb,BL]
theorem NY (neg:Bool)(n:Nat)(tk:Tok)(H:Aa):Sh.fe (.bool neg) (.sl (enL cU (A6 n)) tk) H=some (.ret (big (if neg then -(n:Int)else n)),H):=by
 unfold Sh.fe big;rw[<-big_sgn];have hp:=Qi n;cases neg with
 | false=>simp[Az,Gp,Dc,sgn,Cc]
 | true=>
  simp only[Ji,CI,zXa,Ay,Dz,hp,sgn,zXn,alloc_eq (cs:=[.bool false,.sl [] .ti]) rfl,Bj];simp[Az,Gp,Dc,Cc]
theorem p_minus (z:Int)(H:Aa):Sh.f2r (big z) H=some (.ret (big (-z)),H):=by
 have e:(if (!decide (z<0))=true then -(z.natAbs:Int)else (z.natAbs:Int)) = -z:=by
  by_cases h:z<0
  ·rw[zXc h,Vp,if_neg (by decide)];omega
  ·rw[zXd h,V0,if_pos rfl];omega
 have ez:∀K,Sh.fe (.bool (!decide (z<0))) (.sl (enL cU (A6 z.natAbs)) .no) K=some (.ret (big (-z)),K):=λK=>by
  rw[NY,e]
 unfold Sh.f2r;simp[DO,ez]
theorem u64_neg {n:Int}(h0:-9223372036854775808<=n)(h:n<0):unA .neg (.int .u64 (IntKind.u64.wrap n))=some (.int .u64 (n.natAbs:Int)):=by
 have w:IntKind.u64.wrap (0-IntKind.u64.wrap n)=(n.natAbs:Int):=by
  rw[J2 (n:=n) (by omega) h,J2 (by omega) (by omega)];omega
 rw[show unA .neg (.int .u64 (IntKind.u64.wrap n))=some (.int .u64 (IntKind.u64.wrap (0-IntKind.u64.wrap n))) from rfl,w]
theorem p_norm {l:List Nat}{tk:Tok}(H:Aa)(hx:Lim l)(hl:l.length<=1099511627776):Sh.f48 (.sl (enL cU l) tk) H=some (.ret (.sl (enL cU (A6 (val l))) .no),H):=by
 have aG:=clone_u l tk H hl;unfold Sh.f48;by_cases h0:l=[]
 ·subst h0;rw[if_pos rfl,Hy]at aG;rw[Hy];simp only[GMw,aG,cut_nil,LN,show val []=0 from rfl,DX,Hx,zXb,Hy]
 ·rw[if_neg h0]at aG;have jC:AB (H++[Blk.buf 0 (flat cU l) BA 1]) H.length 0=some (flat cU l):=by simp[AB]
  have eL:=q_cutG (ex:=false) jC (by omega);have htk:=J3 hx l.length (UK _);rw[Vs]at htk;have eC:=S1 (f:=cU) (sz:=1) (d:=5) (cap:=l.length) (ex:=false) jC (UK H.length) (NN l l.length);rw[htk]at eC;simp only[GMw,aG,eL,C6,eC]
  rfl
theorem p_of (n:Int)(H:Aa)(h0:-9223372036854775808<=n)(h1:n<=9223372036854775807):Sh.f1c (.i6 n) H=some (.ret (big n),H):=by
 obtain⟨u,hu⟩:∃u:Nat,u=n.natAbs:=⟨_,rfl⟩;have hlim:Lim [u%4294967296,u / 4294967296]:=λx hx=>by
  simp at hx;rcases hx with rfl | rfl <;> omega
 have cC:val [u%4294967296,u / 4294967296]=u:=by simp[val];omega
 have ez:(if decide (n<0)=true then -(u:Int)else (u:Int))=n:=by
  by_cases h:n<0 <;> simp[h] <;> omega
 have vB:=λH=>p_norm (l:=[u%4294967296,u / 4294967296]) (tk:=.ti) H hlim (by simp);rw[cC]at vB;have a1:=λH=>NY (decide (n<0)) u .no H;rw[ez]at a1;have e3:AA .u32 (.int .u64 (u:Int))=some (.int .u32 ((u%4294967296:Nat):Int)):=by rw[Bl,OO]
 have e2:=MX u;have e4:AA .u32 (.int .u64 ((u / 4294967296:Nat):Int))=some (.int .u32 ((u / 4294967296:Nat):Int)):=by rw[Bl,CP (by omega) (by omega)]
 have j1:Sh.f7d H (.i6 n) (.ptr H.length 0 0) (.int .u64 (u:Int)) (H++[.cel 0 [.bool false,.sl [] .ti]])=some (.ret (big n),H):=by
  unfold Sh.f7d;simp only[Bq,zXa,e3,e2,e4,build_2U,vB,a1,CC];simp
 unfold Sh.f1c;simp only[alloc_eq (cs:=[.bool false,.sl [] .ti]) rfl,Bj,Bl,zXa,AI,Bq,An,Bb,Bd];by_cases h:n<0
 ·have un:=u64_neg h0 h;rw[<-hu]at un;rw[zXc h];simp only[AU,un,zXa,An,Bb,Bd];exact j1
 ·have w:IntKind.u64.wrap n=(u:Int):=by rw[BK (by omega) (by omega)];omega
  rw[zXd h];simp only[AO,w,An,Bb,Bd];exact j1
theorem MM {m n:Nat}(h:m<=n):(A6 m).length<=(A6 n).length:=by
 refine Fe ?_;have:=Gk (Br n);rw[B2]at this;omega
theorem RK {a b:Int}(H:Aa)(ha:LB a)(hb:LB b):Sh.fy (big a) (big b) H=some (.ret (big (a+b)),H):=by
 have sg:∀(neg:Bool) (m:Nat) (z:Int) (tk:Tok) (K:Aa),(if neg then -(m:Int)else (m:Int))=z->Sh.fe (.bool neg) (.sl (enL cU (A6 m)) tk) K=some (.ret (big z),K):=λneg m z tk K h=>by rw[NY,h]
 unfold LB at ha hb;have gK:=λK=>p_add (ta:=.no) (tb:=.no) K (Br a.natAbs) (Br b.natAbs) (by omega) (by omega);have dU:=λK=>OA (t:=.no) (t':=.no) K (Br a.natAbs) (Br b.natAbs) (by omega) (by omega);simp only[B2]at gK dU;unfold Sh.fy;by_cases hn:decide (a<0)=decide (b<0)
 ·have ez:(if decide (a<0)=true then -((a.natAbs+b.natAbs:Nat):Int)else ((a.natAbs+b.natAbs:Nat):Int))=a+b:=by
   by_cases h1:a<0
   ·have h2:b<0:=by rw[zXc h1]at hn;exact of_decide_eq_true hn.symm
    rw[zXc h1,if_pos rfl];omega
   ·have h2:¬b<0:=by rw[zXd h1]at hn;exact of_decide_eq_false hn.symm
    rw[zXd h1,if_neg (by decide)];omega
  have hbb:(decide (a<0) == decide (b<0))=true:=by rw[hn];exact beq_self_eq_true _
  simp only[DO,Bj,UP,List.singleton_append];simp[V6,DO,Ke,hbb,BQ,gK,sg _ _ _ _ _ ez]
 ·have hbb:(decide (a<0) == decide (b<0))=false:=by
   rw[beq_eq_false_iff_ne];exact hn
  by_cases hv:a.natAbs<b.natAbs
  ·have jN:=λK=>p_sub (ta:=.no) (tb:=.no) K (Br b.natAbs) (Br a.natAbs) (by omega) (MM (by omega)) (by rw[B2,B2];omega);simp only[B2]at jN;have hlt:decide (FC (a.natAbs:Int) (b.natAbs:Int)<0)=true:=by rw[FX];exact zXc (by omega)
   have ez:(if decide (b<0)=true then -((b.natAbs-a.natAbs:Nat):Int)else ((b.natAbs-a.natAbs:Nat):Int))=a+b:=by
    by_cases h1:b<0
    ·have h2:¬a<0:=λh=>hn (by rw[zXc h1,zXc h]);rw[zXc h1,if_pos rfl];omega
    ·have h2:a<0:=by
      rcases Int.lt_or_le a 0 with h | h
      ·exact h
      ·exact (hn (by rw[zXd h1,zXd (by omega)])).elim
     rw[zXd h1,if_neg (by decide)];omega
   have c0:=AU;simp only[DO,Bj,UP,List.singleton_append];unfold Sh.f7f;simp[V6,DO,Ke,hbb,BQ,dU,hlt,jN,sg _ _ _ _ _ ez,AI,Bt,Bz]
  ·have jN:=λK=>p_sub (ta:=.no) (tb:=.no) K (Br a.natAbs) (Br b.natAbs) (by omega) (MM (by omega)) (by rw[B2,B2];omega);simp only[B2]at jN;have hlt:decide (FC (a.natAbs:Int) (b.natAbs:Int)<0)=false:=by rw[FX];exact zXd (by omega)
   have ez:(if decide (a<0)=true then -((a.natAbs-b.natAbs:Nat):Int)else ((a.natAbs-b.natAbs:Nat):Int))=a+b:=by
    by_cases h1:a<0
    ·have h2:¬b<0:=λh=>hn (by rw[zXc h1,zXc h]);rw[zXc h1,if_pos rfl];omega
    ·have h2:b<0:=by
      rcases Int.lt_or_le b 0 with h | h
      ·exact h
      ·exact (hn (by rw[zXd h1,zXd (by omega)])).elim
     rw[zXd h1,if_neg (by decide)];omega
   simp only[DO,Bj,UP,List.singleton_append];unfold Sh.f7f;simp[V6,DO,Ke,hbb,BQ,dU,hlt,jN,sg _ _ _ _ _ ez,AI,Bt,Bz]
theorem p_subB {a b:Int}(H:Aa)(ha:LB a)(hb:LB b):Sh.f4r (big a) (big b) H=some (.ret (big (a-b)),H):=by
 unfold Sh.f4r;simp only[DO,Bj,UP,List.singleton_append];simp[V6,DO,BQ,p_minus,RK _ ha hb.neg,Int.sub_eq_add_neg]
theorem or_u32 {x y:Nat}(hx:x<4294967296)(hy:y<4294967296):Af .none .or (.int .u32 (x:Int)) (.int .u32 (y:Int))=some (.int .u32 ((x ||| y:Nat):Int)):=by
 have h:=(Kc (BitVec.ofNat 32 x) (BitVec.ofNat 32 y)).2.1;rw[BitVec.toNat_or,Wm,Wm,VE hx,VE hy]at h;rw[M0 .or rfl _ _ (λ_ _ _=>rfl)];exact h
theorem shl_one {K:IntKind}{r:Nat}(h:r<32)(hw:K.wrap ((2^r:Nat):Int)=((2^r:Nat):Int))(hb:32<=K.bits):Af .none .shl (.int K 1) (.i6 (r:Int))=some (.int K ((2^r:Nat):Int)):=by
 show HA .shl K 1 (r:Int)=_;unfold HA;rw[if_neg (by omega)];have e:(2:Int)^r=((2^r:Nat):Int):=by simp
 simp only[zXl,VF (show r<=K.bits by omega),Int.one_mul,e,hw]
theorem NW {r:Nat}(h:r<32):2^r<4294967296:=by
 have:(2:Nat)^r<2^32:=Xx (by decide) h;simpa using this
theorem val_repl0 (k:Nat)(l:List Nat):val (List.replicate k 0++l)=4294967296^k*val l:=by
 rw[Cu,WN];have:val (List.replicate k 0)=0:=by
  induction k with
  | zero=>rfl
  | succ k ih=>rw[zXm];show 0+4294967296*val (List.replicate k 0)=0;rw[ih]
 rw[this,UJ]
theorem wrapN {n:Nat}(h:n<4294967296):IntKind.u32.wrap (n:Int)=(n:Int)/\IntKind.u64.wrap (n:Int)=(n:Int):=
 ⟨CP (by omega) (by omega),BK (by omega) (by omega)⟩
def Kl (m:Nat):List Nat:=List.replicate (m / 32) 0++[2^(m%32),0]
theorem LO (m:Nat):(Kl m).length=m / 32+2:=by simp[Kl]
theorem powL_lim (m:Nat):Lim (Kl m):=by
 intro x hx;rcases Vi.1 hx with h | h
 ·rw[(Xb.1 h).2];decide
 ·rcases VC.1 h with rfl | h
  ·exact NW (Ws _ (by decide))
  ·rw[Vg.1 h];decide
theorem powL_val (m:Nat):val (Kl m)=2^m:=by
 unfold Kl;rw[val_repl0];have:val [2^(m%32),0]=2^(m%32):=by simp[val]
 rw[this,show (4294967296:Nat)=2^32 from by decide,<-Xg,<-Nat.pow_add,Wy]
theorem TH (v:Nat):∀k,(List.replicate (k+2) 0).set k v=List.replicate k 0++[v,0]
 | 0=>rfl
 | k+1=>by
  rw[zXm,List.set_cons_succ,TH v k,zXm,List.cons_append]
theorem powL_set1 (m:Nat):(List.replicate (m / 32+2) 0).set (m / 32) (2^(m%32))=Kl m:=by
 exact TH _ _
theorem powL_set2 (m:Nat):(Kl m).set (m / 32+1) 0=Kl m:=by
 unfold Kl;rw[Vt _ _ (by simp)];simp
theorem p_shl1 {m:Nat}(hm:m<=10000)(H:Aa):Sh.f4w (.sl (enL cU [1]) .ti) (.i6 (m:Int)) H=some (.ret (.sl (enL cU (A6 (2^m))) .no),H):=by
 have f1:decide ((m:Int)>=0)=true:=zXc (by omega);have f2:decide ((m:Int)<=10000)=true:=zXc (by omega);have hr:m%32<32:=Ws _ (by decide);have hq:Af .none .quo (.i6 (m:Int)) (.i6 32)=some (.i6 ((m / 32:Nat):Int)):=by
  show some (Ab.i6 (IntKind.i64.wrap (((m / 32:Nat):Int))))=_;rw[Ao (by omega) (by omega)]
 have uI:Af .none .rem (.i6 (m:Int)) (.i6 32)=some (.i6 ((m%32:Nat):Int)):=rfl;have w1:IntKind.i64.wrap (((1:Nat):Int)+((m / 32:Nat):Int))=((m / 32+1:Nat):Int):=by rw[Ao] <;> omega
 have w2:IntKind.i64.wrap (((m / 32+1:Nat):Int)+1)=((m / 32+2:Nat):Int):=by rw[Ao] <;> omega
 have w3:IntKind.i64.wrap (((0:Nat):Int)+((m / 32:Nat):Int))=((m / 32:Nat):Int):=by rw[Ao] <;> omega
 have w4:IntKind.i64.wrap (((m / 32:Nat):Int)+1)=((m / 32+1:Nat):Int):=by rw[Ao] <;> omega
 have w5:IntKind.i64.wrap (((0:Nat):Int)+1)=((1:Nat):Int):=rfl;have dA:=Fx (f:=cU) (a:=0) (n:=m / 32+2) (bytes:=4) (H:=H) (by omega) (by omega);simp only[show cU 0=[Ab.int .u32 0] from rfl]at dA;have xP:(enL cU [1]).length=1:=rfl;have bO:∀K,Sh.f4u (.i6 (m:Int)) K=some (.ret (.bool true),K):=λK=>by
  unfold Sh.f4u;simp only[GMw,f1,f2]
 have d0:decide (((0:Nat):Int)<((1:Nat):Int))=true:=rfl;have d1:decide (((1:Nat):Int)<((1:Nat):Int))=false:=rfl;have ix0:Aw 1 (.sl (enL cU [1]) .ti) (.i6 ((0:Nat):Int))=some (.cptr [.int .u32 1] 0):=rfl;have ld0:∀K,Ad false 1 (.cptr [.int .u32 1] 0) K=some (.int .u32 1):=λ_=>rfl;have lsl:A7 (.sl (enL cU [1]) .ti)=some (.i6 ((1:Nat):Int)):=rfl;have hlt:=NW hr;have s1:=shl_one (K:=.u32) hr (wrapN hlt).1 (by decide);have s2:=shl_one (K:=.u64) hr (wrapN hlt).2 (by decide);have c1:AA .u64 (.int .u32 1)=some (.int .u64 1):=rfl;have sh:Af .none .shr (.int .u64 ((2^(m%32):Nat):Int)) (.int .u64 32)=some (.int .u64 0):=by
  rw[MX,Wg (NW hr)];rfl
 have c2:AA .u32 (.int .u64 0)=some (.int .u32 0):=rfl;have o1:=or_u32 (x:=0) (y:=2^(m%32)) (by decide) (NW hr);rw[Nat.zero_or]at o1;have o2:Af .none .or (.int .u32 ((0:Nat):Int)) (.int .u32 0)=some (.int .u32 ((0:Nat):Int)):=or_u32 (x:=0) (y:=0) (by decide) (by decide);have hidx:=CS (sz:=1) (id:=H.length) (n:=m / 32+2) (K:=.i64) (g:=0) (off:=0) (cap:=m / 32+2) (ex:=true) (i:=m / 32) (by omega);have mU:=CS (sz:=1) (id:=H.length) (n:=m / 32+2) (K:=.i64) (g:=0) (off:=0) (cap:=m / 32+2) (ex:=true) (i:=m / 32+1) (by omega);simp only[UJ,UW]at hidx mU;have g1:AB (H++[Blk.cel 0 (flat cU (List.replicate (m / 32+2) 0))]) H.length 0=some (flat cU (List.replicate (m / 32+2) 0)):=A1 Ap;have g2:AB (H++[Blk.cel 0 (flat cU (Kl m))]) H.length 0=some (flat cU (Kl m)):=A1 Ap;have ld1:Ad false 1 (.ptr H.length 0 (m / 32)) (H++[Blk.cel 0 (flat cU (List.replicate (m / 32+2) 0))])=some (.int .u32 ((0:Nat):Int)):=by
  rw[Ih g1 (by simp),List.getElem_replicate];rfl
 have ld2:Ad false 1 (.ptr H.length 0 (m / 32+1)) (H++[Blk.cel 0 (flat cU (Kl m))])=some (.int .u32 ((0:Nat):Int)):=by
  have hi:m / 32+1<(Kl m).length:=by rw[LO];omega
  have:(Kl m)[m / 32+1]=0:=by simp[Kl,VK]
  rw[Ih g2 hi,this];rfl
 have st1:=DW (f:=cU) (sz:=1) (i:=m / 32) (a:=2^(m%32)) (v:=.int .u32 ((2^(m%32):Nat):Int)) g1 (by simp) rfl;rw[UW,B5 Ap,Ba,powL_set1]at st1;have st2:=DW (f:=cU) (sz:=1) (i:=m / 32+1) (a:=0) (v:=.int .u32 ((0:Nat):Int)) g2 (by rw[LO];omega) rfl;rw[UW,B5 Ap,Ba,powL_set2]at st2;have ht:=add_tail (H:=H) (o:=Kl m) (by rw[LO];omega) (powL_lim m) (powL_val m);have eL:=q_cut (l:=Kl m) (H:=H++[Blk.cel 0 (flat cU (Kl m))]) (id:=H.length) Ap (by rw[LO];omega);rw[LO]at ht eL;rw[eL]at ht;simp only[zXa]at ht;unfold Sh.f4w;simp only[bO,GMw,Jn,Vp,lsl,hq,w1,w2,dA];refine Cj (G:=λrec1 vs H1=>Sh.f4v H rec1 (ag vs 0) (ag vs 1) (ag vs 2) (ag vs 3) (ag vs 4) H1) 1
  (λi=>[.i6 (m:Int),.ms H.length 0 0 (m / 32+2) (m / 32+2) 1 true,.sl (enL cU [1]) .ti,.i6 ((1:Nat):Int),.i6 (i:Int)])
  (λi=>H++[.cel 0 (flat cU (if i=0 then List.replicate (m / 32+2) 0 else Kl m))]) _ (by decide) (λrec i hi=>?_) (λrec=>?_)
 ·have jJ:i=0:=by omega
  subst jJ;unfold Sh.f4v;simp only[if_true,if_neg (show ¬(0+1=0)by decide),An,Ai,Bb,Bd,B7,Cb,GMw,d0,ix0,ld0,hq,w3,hidx,ld1,uI,s1,o1,st1,AC,w4,mU,ld2,c1,s2,sh,c2,o2,st2,w5,BQ]
 ·unfold Sh.f4v;simp only[if_neg (show ¬(1=0)by decide),An,Ai,Bb,Bd,B7,Cb,GMw,d1,eL];exact ht
set_option maxRecDepth 8000
theorem p_right (l:List Nat)(tk:Tok)(H:Aa)(hl:l.length<=1099511627776):Sh.fc (.sl (enL cU l) tk) H=some (.ret (.bool (Gd l)),H):=by
 unfold Sh.fc;rcases Ha l with rfl | ⟨l',x,rfl⟩
 ·simp[Gd]
 ·simp only[UO,zXi]at hl;have h1:l'.length<(l'++[x]).length:=by simp
  have h3:IntKind.i64.wrap ((((l'++[x]).length:Nat):Int)-1)=(l'.length:Int):=by rw[Ao] <;> simp <;> omega
  have hne:((((l'++[x]).length:Nat):Int) == 0)=false:=by simp;omega
  have hb:((x:Int) != 0)=(x != 0):=by rw[Va];simp
  simp only[Ay,zXa,DV,hne,LU,Dy,h3,A4 h1,AF,zXh,VK (UK _),Vr,List.getElem_cons_zero,It,CA,Nn,hb];simp[Gd]
theorem RI (neg:Bool)(l:List Nat)(tk:Tok)(H:Aa)(hl:l.length<=549755813888):Sh.f2k (.agg [.bool neg,.sl (enL cU l) tk]) H=some (.ret (.bool (Hs neg l)),H):=by
 unfold Sh.f2k Hs;have hq:=λH=>p_right l tk H (by omega);cases hr:Gd l with
 | false=>simp[Cz,hq,hr]
 | true=>
  cases neg with
  | false=>simp[Cz,hq,hr]
  | true=>cases l <;> simp[Cz,hq,hr] <;> omega
theorem p_pow {m:Nat}(hm:m<=10000)(H:Aa):Sh.f4x (.i6 (m:Int)) H=some (.ret (big (2^m)),H):=by
 have hs:∀K,Sh.fe (.bool false) (.sl (enL cU (A6 (2^m))) .no) K=some (.ret (big (2^m)),K):=λK=>by
  rw[NY];have:(if false=true then -((2^m:Nat):Int)else ((2^m:Nat):Int))=2^m:=by simp
  rw[this]
 have hb:AL 1 [.int .u32 1]=some (.sl (enL cU [1]) .ti):=rfl;have h1:=λK=>p_shl1 hm K;unfold Sh.f4x;simp only[alloc_eq (cs:=[.bool false,.sl [] .ti]) rfl,GMw,hb,h1,hs];simp
def blN (n:Nat):Nat:=if n=0 then 0 else n.log2+1
theorem Jl {n k:Nat}:blN n<=k↔n<2^k:=by
 unfold blN;by_cases h:n=0
 ·have:0<2^k:=WE (by decide);rw[if_pos h];omega
 ·rw[if_neg h,<-Nat.log2_lt h];omega
theorem blN_div {n j:Nat}(h:2^j<=n):blN n=blN (n / 2^j)+j:=by
 have hp:0<2^j:=WE (by decide);refine Nat.le_antisymm (Jl.2 ?_) ?_
 ·have:=Jl.1 (UK (blN (n / 2^j)));rw[Nat.pow_add];exact (Wd hp).1 this
 ·have h1:=Jl.1 (UK (blN n));have h2:j<blN n:=(Nat.pow_lt_pow_iff_right (by decide:1<2)).1 (V8 h h1);have h3:blN (n / 2^j)<=blN n-j:=Jl.2 ((Wd hp).2 (by rw[<-Nat.pow_add,Nat.sub_add_cancel (by omega)];exact h1));omega
theorem len_tab:∀x,x<256->(([0,1,2,2,3,3,3,3,4,4,4,4,4,4,4,4,5,5,5,5,5,5,5,5,5,5,5,5,5,5,5,5,6,6,6,6,6,6,6,6,6,6,6,6,6,6,6,6,6,6,6,6,6,6,6,6,6,6,6,6,6,6,6,6,7,7,7,7,7,7,7,7,7,7,7,7,7,7,7,7,7,7,7,7,7,7,7,7,7,7,7,7,7,7,7,7,7,7,7,7,7,7,7,7,7,7,7,7,7,7,7,7,7,7,7,7,7,7,7,7,7,7,7,7,7,7,7,7,8,8,8,8,8,8,8,8,8,8,8,8,8,8,8,8,8,8,8,8,8,8,8,8,8,8,8,8,8,8,8,8,8,8,8,8,8,8,8,8,8,8,8,8,8,8,8,8,8,8,8,8,8,8,8,8,8,8,8,8,8,8,8,8,8,8,8,8,8,8,8,8,8,8,8,8,8,8,8,8,8,8,8,8,8,8,8,8,8,8,8,8,8,8,8,8,8,8,8,8,8,8,8,8,8,8,8,8,8,8,8,8,8,8,8,8,8,8,8,8,8,8,8,8,8,8,8,8]:List UInt8)[x]?).map UInt8.toNat=some (blN x):=by decide +kernel
theorem len_idx {x:Nat}(h:x<256):BI (.str [0,1,2,2,3,3,3,3,4,4,4,4,4,4,4,4,5,5,5,5,5,5,5,5,5,5,5,5,5,5,5,5,6,6,6,6,6,6,6,6,6,6,6,6,6,6,6,6,6,6,6,6,6,6,6,6,6,6,6,6,6,6,6,6,7,7,7,7,7,7,7,7,7,7,7,7,7,7,7,7,7,7,7,7,7,7,7,7,7,7,7,7,7,7,7,7,7,7,7,7,7,7,7,7,7,7,7,7,7,7,7,7,7,7,7,7,7,7,7,7,7,7,7,7,7,7,7,7,8,8,8,8,8,8,8,8,8,8,8,8,8,8,8,8,8,8,8,8,8,8,8,8,8,8,8,8,8,8,8,8,8,8,8,8,8,8,8,8,8,8,8,8,8,8,8,8,8,8,8,8,8,8,8,8,8,8,8,8,8,8,8,8,8,8,8,8,8,8,8,8,8,8,8,8,8,8,8,8,8,8,8,8,8,8,8,8,8,8,8,8,8,8,8,8,8,8,8,8,8,8,8,8,8,8,8,8,8,8,8,8,8,8,8,8,8,8,8,8,8,8,8,8,8,8,8,8]) (.int .u8 (x:Int))=some (.int .u8 (blN x:Int)):=by
 have:=len_tab x h;obtain⟨b,h1,h2⟩:=Option.map_eq_some_iff.1 this;unfold BI;simp only[];rw[if_pos (X2 x),zXl,h1,zXb,h2]
theorem len_j2 {x n:Nat}(hx:x<256)(hn:n<=24)(H:Aa):Sh.f7o H (.int .u32 (x:Int)) (.i6 (n:Int)) H=some (.ret (.i6 ((n+blN x:Nat):Int)),H):=by
 have hb:blN x<=8:=Jl.2 hx;have c1:AA .u8 (.int .u32 (x:Int))=some (.int .u8 (x:Int)):=by rw[Bl,NK (by omega) (by omega)]
 have c2:AA .i64 (.int .u8 (blN x:Int))=some (.i6 (blN x:Int)):=by rw[Bl,Ao (by omega) (by omega)]
 have w:IntKind.i64.wrap ((n:Int)+(blN x:Int))=((n+blN x:Nat):Int):=by rw[Ao] <;> omega
 unfold Sh.f7o;simp only[c1,zXa];rw[len_idx hx];simp only[c2,GMw,w]
theorem shr_u32 (x k:Nat)(hk:k<=32):Af .none .shr (.int .u32 (x:Int)) (.int .u64 (k:Int))=some (.int .u32 ((x / 2^k:Nat):Int)):=by
 show HA .shr .u32 (x:Int) (k:Int)=_;unfold HA;rw[if_neg (by omega)];simp only[zXl];rw[show min k IntKind.u32.bits=k from VF hk,W7 _ (Int.le_of_lt (WG (by decide)))];have:((2:Int)^k)=((2^k:Nat):Int):=by simp
 rw[this]
 rfl
theorem len_j1 {x n:Nat}(hx:x<65536)(hn:n<=16)(H:Aa):Sh.f7p H (.int .u32 (x:Int)) (.i6 (n:Int)) H=some (.ret (.i6 ((n+blN x:Nat):Int)),H):=by
 unfold Sh.f7p;by_cases h:256<=x
 ·have d:decide ((x:Int)>=256)=true:=zXc (by omega);have s:=shr_u32 x 8 (by decide);have w:IntKind.i64.wrap ((n:Int)+8)=((n+8:Nat):Int):=by rw[Ao] <;> omega
  have e:=blN_div (n:=x) (j:=8) h;simp only[show ((8:Nat):Int)=8 from rfl]at s;simp only[AI,GMw,d,s,w];rw[len_j2 (by omega) (by omega),e,show n+8+blN (x / 2^8)=n+(blN (x / 2^8)+8)by omega]
 ·have d:decide ((x:Int)>=256)=false:=zXd (by omega);simp only[AI,GMw,d];exact len_j2 (by omega) (by omega) H
theorem p_len32 {x:Nat}(hx:x<4294967296)(H:Aa):Sh.f4s (.int .u32 (x:Int)) H=some (.ret (.i6 (blN x:Int)),H):=by
 unfold Sh.f4s;by_cases h:65536<=x
 ·have d:decide ((x:Int)>=65536)=true:=zXc (by omega);have s:=shr_u32 x 16 (by decide);have e:=blN_div (n:=x) (j:=16) h;simp only[show ((16:Nat):Int)=16 from rfl]at s;have:=len_j1 (x:=x / 2^16) (n:=16) (by omega) (by omega) H;simp only[show ((16:Nat):Int)=16 from rfl]at this;simp only[AI,GMw,d,s];rw[this,e,Xo]
 ·have d:decide ((x:Int)>=65536)=false:=zXd (by omega);have:=len_j1 (x:=x) (n:=0) (by omega) (by omega) H;simp only[Int.natCast_zero,UJ]at this;simp only[AI,GMw,d];exact this
theorem EX {H:Aa}{p o:Nat}{cs:List Ab}{v:Ab}(h:H[p]? = some (.cel 0 cs))(hv:v.isScal=true)(ho:o<cs.length):Ae 1 (.ptr p 0 o) v H=some (H.set p (.cel 0 (cs.set o v))):=by
 have hc:v.acells=some [v]:=by cases v <;> first | rfl | (simp[Ab.isScal]at hv)
 simp only[Ae,A1 h,BL,hc,zXi];rw[if_pos ⟨trivial,by omega⟩,B5 h,show Dc cs o 1 [v]=cs.set o v from by rw[WI,if_pos ho];simp[Dc]]
theorem Gc {H:Aa}{p sz:Nat}{cs ws:List Ab}(h:H[p]? = some (.cel 0 cs))(hl:cs.length=sz)(gW:ws.length=sz)(hs:ws.all Ab.isScal=true):Ae sz (.ptr p 0 0) (.agg ws) H=some (H.set p (.cel 0 ws)):=by
 simp only[Ae,A1 h,BL,Cc hs,hl,gW,UJ,UK,and_self,if_true,DB hl,B5 h]
theorem Et {H:Aa}{p sz:Nat}{cs:List Ab}(h:H[p]? = some (.cel 0 cs))(hl:cs.length=sz):Ad true sz (.ptr p 0 0) H=some (.agg cs):=by
 simp only[Ad,A1 h,BL,if_true,VX,hl,UJ,UK];rw[US (WL hl)]
theorem BH {H:Aa}{p o sz:Nat}{cs:List Ab}(h:H[p]? = some (.cel 0 cs)):Ad false sz (.ptr p 0 o) H=cs[o]? := by
 simp only[Ad,A1 h,BL];rfl
def Td:Ab->Bool
 | .agg cs=>cs.all IV
 | v=>IV v
theorem plnT_frz {v:Ab}{H:Aa}{n d:Nat}(h:Td v=true):frz H n (d+3) v=some v:=by
 cases v with
 | agg cs=>
  have h':cs.all IV=true:=h;simp only[frz,Hb h',zXb]
 | _=>exact plnC_frz (d:=d+2) h
theorem TY {H:Aa}{n d:Nat}:∀ {cs:List Ab},cs.all Td=true->Eu H n (d+4) cs=some cs
 | [],_=>by simp[Eu]
 | c::cs,h=>by
  simp only[List.all_cons,UU]at h;simp[Eu,plnT_frz h.1,TY h.2]
theorem rP_aggP {H G:Aa}{cs:List Ab}(h:cs.all IV=true):rP H (.agg cs) (H++G)=some (.ret (.agg cs),H):=by
 rw[rP_eq _ (by simp)];simp only[frz,Hb h,zXb]
theorem rP_tupP {H G:Aa}{cs:List Ab}(h:cs.all Td=true):rP H (.tup cs) (H++G)=some (.ret (.tup cs),H):=by
 rw[rP_eq _ (by simp)];simp only[frz,TY h,zXb]
theorem OP {g o:Nat}{v:Ab}{cs:List Ab}{G:Aa}(hv:v.isScal=true)(h:o<cs.length):Ae 1 (.ptr 0 g o) v (.cel g cs::G)=some (.cel g (cs.set o v)::G):=by
 have hc:v.acells=some [v]:=by cases v <;> first | rfl | (simp[Ab.isScal]at hv)
 rw[Rl,hc];simp only[BL,zXi];rw[if_pos ⟨trivial,by omega⟩,WI,if_pos h];simp[Dc]
theorem store_agg {sz g:Nat}{cs ws:List Ab}{G:Aa}(h:cs.length=sz)(h2:ws.length=sz)(h3:ws.all Ab.isScal=true):Ae sz (.ptr 0 g 0) (.agg ws) (.cel g cs::G)=some (.cel g ws::G):=J6 (Cc h3) h h2
theorem nil_ptr {id g o:Nat}:Aj (.ptr id g o)=some (.ptr id g o):=(rfl)
theorem app_app (a b c:Aa):a++b++c=a++(b++c):=UP a b c
theorem len_app (a b:Aa):(a++b).length=a.length+b.length:=UO
theorem F1 (x:Ab)(b:List Ab):(x::b)[0]? = some x:=(rfl)
theorem JJ (x:Ab)(b:List Ab)(i:Nat):(x::b)[i+1]? = b[i]? := (rfl)
def Jf (x:Nd):List Ab:=[.i6 x.k0,.i6 x.k1,.i6 x.k2,.i6 x.k3]
theorem ld_kids (x:Nd)(H:Aa):Ad true 4 (.cptr (cNd x) 1) H=some (.agg (Jf x)):=(rfl)
theorem ag_kid (x:Nd){k:Nat}(hk:k<4)(K:IntKind):Ju false 4 1 (.agg (Jf x)) (.int K (k:Int))=some (.i6 (x.kid k)):=by
 match k,hk with
 | 0,_=>rfl
 | 1,_=>rfl
 | 2,_=>rfl
 | 3,_=>rfl
theorem FM (g:Nat)(x:Nd)(G:Aa):Ad true 4 (.ptr 0 g 1) (.cel g (cNd x)::G)=some (.agg (Jf x)):=by
 rw[show Ad true 4 (.ptr 0 g 1) (.cel g (cNd x)::G)=if 1+4<=(cNd x).length then some (.agg (((cNd x).drop 1).take 4))else none from by simp only[Ad,JG];rfl]
 rfl
theorem FT (x:Nd):(cNd x).length=5:=(rfl)
theorem HPa:(((∀(H G:Aa) (a:Bool) (sz k g o:Nat),Ad a sz (.ptr (H.length+k) g o) (H++G)=Ad a sz (.ptr k g o) G) /\
  (∀(H G:Aa) (a:Bool) (sz g o:Nat),Ad a sz (.ptr H.length g o) (H++G)=Ad a sz (.ptr 0 g o) G)) /\
  ((∀(b:Blk) (G:Aa) (a:Bool) (sz k g o:Nat),Ad a sz (.ptr (k+1) g o) (b::G)=Ad a sz (.ptr k g o) G) /\
  (∀(cs:List Ab) (G:Aa) (sz g o:Nat),Ad false sz (.ptr 0 g o) (.cel g cs::G)=cs[o]?) /\
  (∀(cs:List Ab) (G:Aa) (sz g:Nat),cs.length=sz->Ad true sz (.ptr 0 g 0) (.cel g cs::G)=some (.agg cs)))) /\
 (((∀(H G:Aa) (v:Ab) (sz k g o:Nat),Ae sz (.ptr (H.length+k) g o) v (H++G)=(Ae sz (.ptr k g o) v G).map (H++·)) /\
  (∀(H G:Aa) (v:Ab) (sz g o:Nat),Ae sz (.ptr H.length g o) v (H++G)=(Ae sz (.ptr 0 g o) v G).map (H++·))) /\
  ((∀(b:Blk) (G:Aa) (v:Ab) (sz k g o:Nat),Ae sz (.ptr (k+1) g o) v (b::G)=(Ae sz (.ptr k g o) v G).map (b::·)) /\
  (∀(cs:List Ab) (G:Aa) (v:Ab) (g o:Nat),v.isScal=true->o<cs.length->Ae 1 (.ptr 0 g o) v (.cel g cs::G)=some (.cel g (cs.set o v)::G)) /\
  (∀(cs ws:List Ab) (G:Aa) (sz g:Nat),cs.length=sz->ws.length=sz->ws.all Ab.isScal=true->Ae sz (.ptr 0 g 0) (.agg ws) (.cel g cs::G)=some (.cel g ws::G)))) /\
 ((∀(cs:List Ab) (H:Aa),cs.all Ab.isScal=true->Ax (some cs) H=some (.ptr H.length 0 0,H++[.cel 0 cs])) /\
  (∀(cs:List Ab) (H:Aa) (sz:Nat),cs.all Ab.isScal=true->cs.length=sz->Bu true sz (.agg cs) H=some (.ptr H.length 0 0,H++[.cel 0 cs]))):=
 ⟨⟨⟨λ_ _ _ _ _ _ _=>load_app,λ_ _ _ _ _ _=>EH⟩,λ_ _ _ _ _ _ _=>load_succ,λ_ _ _ _ _=>Hf,λ_ _ _ _ h=>RZ h⟩,
  ⟨⟨λ_ _ _ _ _ _ _=>TE,λ_ _ _ _ _ _=>I8⟩,λ_ _ _ _ _ _ _=>store_succ,λ_ _ _ _ _ h1 h2=>OP h1 h2,λ_ _ _ _ _ h1 h2 h3=>store_agg h1 h2 h3⟩,
  λ_ _ h=>alloc_eq h,λ_ _ _ h1 h2=>Cz h1 h2⟩
theorem HPc:(((∀(K:IntKind) (n:Int),(Ab.int K n).isScal=true)/\(∀t:Bool,(Ab.bool t).isScal=true)/\(∀s:List UInt8,(Ab.str s).isScal=true)) /\
  ((∀(es:List (List Ab)) (tk:Tok),(Ab.sl es tk).isScal=true)/\(∀(id g off len cap sz:Nat) (ex:Bool),(Ab.ms id g off len cap sz ex).isScal=true)/\(∀id g off:Nat,(Ab.ptr id g off).isScal=true)) /\
  (∀id:Nat,(Ab.mp id).isScal=true)/\(∀(f:FuncId) (c:List Ab),(Ab.fn f c).isScal=true)/\(Ab.nilp.isScal=true)/\(Ab.nilmap.isScal=true)/\Ab.nilfn.isScal=true) /\
 (((∀(K:IntKind) (n:Int),IV (Ab.int K n)=true)/\(∀t:Bool,IV (Ab.bool t)=true)/\(∀s:List UInt8,IV (Ab.str s)=true)) /\
  ((∀(es:List (List Ab)),IV (Ab.sl es .no)=true)/\(∀(es:List (List Ab)),IV (Ab.sl es .ti)=true)) /\
  ((∀(K:IntKind) (n:Int),Td (Ab.int K n)=true)/\(∀t:Bool,Td (Ab.bool t)=true)/\(∀s:List UInt8,Td (Ab.str s)=true)) /\
  ((∀(es:List (List Ab)),Td (Ab.sl es .no)=true)/\(∀(es:List (List Ab)),Td (Ab.sl es .ti)=true))/\(∀cs:List Ab,Td (.agg cs)=cs.all IV)) /\
 ((∀(H G:Aa) (cs:List Ab),cs.all IV=true->rP H (.agg cs) (H++G)=some (.ret (.agg cs),H)) /\
  (∀(H G:Aa) (cs:List Ab),cs.all Td=true->rP H (.tup cs) (H++G)=some (.ret (.tup cs),H)) /\
  (∀(H G:Aa) (t:Bool),rP H (.bool t) (H++G)=some (.ret (.bool t),H)) /\
  (∀(H G:Aa) (K:IntKind) (n:Int),rP H (.int K n) (H++G)=some (.ret (.int K n),H)) /\
  (∀(H G:Aa) (s:List UInt8),rP H (.str s) (H++G)=some (.ret (.str s),H))):=
 ⟨⟨⟨λ_ _=>rfl,λ_=>rfl,λ_=>rfl⟩,⟨λ_ _=>rfl,λ_ _ _ _ _ _ _=>rfl,λ_ _ _=>rfl⟩,λ_=>rfl,λ_ _=>rfl,rfl,rfl,rfl⟩,
  ⟨⟨λ_ _=>rfl,λ_=>rfl,λ_=>rfl⟩,⟨λ_=>rfl,λ_=>rfl⟩,⟨λ_ _=>rfl,λ_=>rfl,λ_=>rfl⟩,⟨λ_=>rfl,λ_=>rfl⟩,λ_=>rfl⟩,
  λ_ _ _ h=>rP_aggP h,λ_ _ _ h=>rP_tupP h,λ_ _ _=>Fv,λ_ _ _ _=>HS,λ_ _ _=>rP_str⟩
theorem HPd:((∀(H G:Aa) (v:Ab),rPN H v (H++G)=(Hl (H++G) H.length 8 v).map λv=>(.ret v,H)) /\
  (∀(H:Aa) (n d:Nat) (vs:List Ab),Hl H n (d+1) (.tup vs)=(IH H n d vs).map .tup) /\
  (∀(H:Aa) (n d:Nat) (cs:List Ab),Hl H n (d+1) (.agg cs)=(Gh H n d cs).map .agg) /\
  (∀(H:Aa) (n d:Nat) (es:List (List Ab)) (tk:Tok),Hl H n (d+1) (.sl es tk)=some (.sl es .no))) /\
 ((∀(H:Aa) (n d:Nat),IH H n (d+1) []=some []) /\
  (∀(H:Aa) (n d:Nat) (v:Ab) (vs:List Ab),IH H n (d+1) (v::vs)=(Fh H n d v).bind λv'=>(IH H n (d+1) vs).map (v'::·)) /\
  (∀(H:Aa) (n d:Nat),Gh H n (d+1) []=some []) /\
  (∀(H:Aa) (n d:Nat) (v:Ab) (vs:List Ab),Gh H n (d+1) (v::vs)=(IK H n d v).bind λv'=>(Gh H n (d+1) vs).map (v'::·))) /\
 ((∀(H:Aa) (n d:Nat) (cs:List Ab),Fh H n (d+1) (.agg cs)=(Gh H n d cs).map .agg) /\
  (∀(H:Aa) (n d:Nat) (K:IntKind) (i:Int),Fh H n (d+1) (.int K i)=some (.int K i)) /\
  (∀(H:Aa) (n d:Nat) (t:Bool),Fh H n (d+1) (.bool t)=some (.bool t)) /\
  (∀(H:Aa) (n d:Nat) (s:List UInt8),Fh H n (d+1) (.str s)=some (.str s)) /\
  (∀(H:Aa) (n d:Nat) (es:List (List Ab)) (tk:Tok),Fh H n (d+1) (.sl es tk)=some (.sl es .no))) /\
 ((∀(H:Aa) (n d:Nat) (K:IntKind) (i:Int),IK H n (d+1) (.int K i)=some (.int K i)) /\
  (∀(H:Aa) (n d:Nat) (t:Bool),IK H n (d+1) (.bool t)=some (.bool t)) /\
  (∀(H:Aa) (n d:Nat) (s:List UInt8),IK H n (d+1) (.str s)=some (.str s)) /\
  (∀(H:Aa) (n d:Nat) (es:List (List Ab)) (tk:Tok),IK H n (d+1) (.sl es tk)=some (.sl es .no))) /\
 ((∀xs:List (Option Ab),Cv xs=(Tb xs).map .tup)/\(Tb []=some [])/\(∀(x:Option Ab) (xs:List (Option Ab)),Tb (x::xs)=x.bind λv=>(Tb xs).map (v::·))) /\
 ((∀(v:Ab) (vs:List Ab),Aq 0 (.tup (v::vs))=some v)/\(∀(v w:Ab) (vs:List Ab),Aq 1 (.tup (v::w::vs))=some w)/\(∀(v w u:Ab) (vs:List Ab),Aq 2 (.tup (v::w::u::vs))=some u)):=
 ⟨⟨λ_ _ _=>C6,λ_ _ _ _=>C9,λ_ _ _ _=>fall_agg,λ_ _ _ _ _=>Hx⟩,⟨λ_ _ _=>BO,λ_ _ _ _ _=>B4,λ_ _ _=>Gg,λ_ _ _ _ _=>Fk⟩,
  ⟨λ_ _ _ _=>Hj,λ_ _ _ _ _=>CT,λ_ _ _ _=>Hi,λ_ _ _ _=>fpart_str,λ_ _ _ _ _=>II⟩,⟨λ_ _ _ _ _=>fcell_int,λ_ _ _ _=>K3,λ_ _ _ _=>fcell_str,λ_ _ _ _ _=>IJ⟩,
  ⟨λ_=>rfl,rfl,λ_ _=>rfl⟩,λ_ _=>rfl,λ_ _ _=>rfl,λ_ _ _ _=>rfl⟩
theorem HPe:(∀(H:Aa) (j k:Nat),List.length H+j+k=List.length H+(j+k))/\(∀(H0 H:Aa) (v:Ab) (k:Ab->Aa->Out),bK H0 (some (.pan v,H)) k=some (.pan v,H))/\(∀(α β:Type) (a:α) (f:α->β),Option.map f (some a)=some (f a))/\(∀id g o:Nat,Aj (.ptr id g o)=some (.ptr id g o))/\(∀off id g o:Nat,Ac off (.ptr id g o)=some (.ptr id g (o+off))) /\
 ((∀a b c:Aa,a++b++c=a++(b++c))/\(∀(x:Blk) (b c:Aa),(x::b)++c=x::(b++c))/\(∀b:Aa,([]:Aa)++b=b)/\(∀a b:Aa,(a++b).length=a.length+b.length)/\(∀(x:Blk) (b:Aa),(x::b).length=b.length+1)/\(([]:Aa).length=0)) /\
 ((∀(x:Ab) (b:List Ab),(x::b).length=b.length+1)/\(([]:List Ab).length=0)/\(∀(x:Ab) (b:List Ab),(x::b)[0]? = some x)/\(∀(x:Ab) (b:List Ab) (i:Nat),(x::b)[i+1]? = b[i]?)) /\
 ((∀(x y:Ab) (b:List Ab),(x::b).set 0 y=y::b)/\(∀(x y:Ab) (b:List Ab) (i:Nat),(x::b).set (i+1) y=x::b.set i y)/\(∀(p:Ab->Bool) (x:Ab) (b:List Ab),(x::b).all p=(p x&&b.all p))/\(∀p:Ab->Bool,([]:List Ab).all p=true)) /\
 (∀s:List UInt8,BM (.str s)=some (.i6 (s.length:Int))):=
 ⟨λ_ _ _=>V6 _ _ _,λ_ _ _ _=>rfl,λ_ _ _ _=>rfl,λ_ _ _=>rfl,λ_ _ _ _=>rfl,⟨app_app,λ_ _ _=>rfl,λ_=>rfl,len_app,λ_ _=>rfl,rfl⟩,⟨λ_ _=>rfl,rfl,λ_ _=>rfl,λ_ _ _=>rfl⟩,⟨λ_ _ _=>rfl,λ_ _ _ _=>rfl,λ_ _ _=>rfl,λ_=>rfl⟩,λ_=>rfl⟩
theorem HPz:((∀n:Nat,0+n=n)/\(∀n:Nat,n+0=n)/\(∀p:Prop,(p/\p)=p)/\(∀p:Prop,(p/\True)=p)/\(∀(α:Type) (a:α),(a=a)=True)/\(∀b:Bool,(b&&b)=b)):=
 ⟨UJ,Nat.add_zero,and_self,and_true,λ_ a=>eq_self a,Bool.and_self⟩
open Go.Proofs
set_option maxRecDepth 100000
def HPw:=And.intro HPa (And.intro HPc (And.intro HPd (And.intro HPe HPz)))
theorem rightB_snoc (l:List Nat)(x:Nat):Gd (l++[x])=(x != 0):=by simp[Gd]
theorem p_cutG {l:List Nat}(tk:Tok)(H:Aa)(hx:Lim l)(hl:l.length<=1099511627776):Sh.f2 (.sl (enL cU l) tk) H=some (.ret (.sl (enL cU (A6 (val l))) .no),H):=by
 unfold Sh.f2;have key:=AZ (G:=λrec1 vs H1=>Sh.f1a H rec1 (ag vs 0) H1) (σ:=Nat×Tok) (λs=>s.1<=l.length/\val (l.take s.1)=val l)
  (λs=>[.sl (enL cU (l.take s.1)) s.2]) (λ_=>H) (λs=>s.1) (λ_=>some (.ret (.sl (enL cU (A6 (val l))) .no),H)) (λs rec hi hrec=>?_) (l.length,tk) ⟨UK _,by rw[Vs]⟩ (by dsimp only;omega)
 ·dsimp only at key
  rwa [Vs]at key
 ·obtain⟨k,t⟩:=s;dsimp only at hi hrec ⊢;obtain⟨h1,h2⟩:=hi;have hlk:(l.take k).length=k:=by rw[UY];omega
  have hxk:Lim (l.take k):=λx h=>hx x (VR h);have hr:=p_right (l.take k) t H (by omega);unfold Sh.f1a;cases hb:Gd (l.take k)with
  | true=>
   rw[hb]at hr;have hn:=LQ ((Ny hxk).1 hb);rw[h2]at hn;simp only[An,GMw,hr,Vp,Em,forget,Ew,fgt];rw[<-hn]
  | false=>
   rw[hb]at hr;obtain⟨m,rfl⟩:∃m,k=m+1:=by
    cases k with
    | zero=>rw[List.take_zero]at hb;cases hb
    | succ m=>exact⟨m,rfl⟩
   have hm:m<l.length:=by omega
   have hz:l[m]=0:=by
    have:l.take (m+1)=l.take m++[l[m]]:=UR hm;rw[this,rightB_snoc]at hb;simpa using hb
   have hv:val (l.take m)=val l:=by
    rw[<-h2,UR hm,Cu,hz];simp[val]
   have hw:IntKind.i64.wrap (((m+1:Nat):Int)-1)=(m:Int):=by rw[Ao] <;> omega
   have hsl:∃t',Bw 1 (.sl (enL cU (l.take (m+1))) t) none (some (.i6 (m:Int))) none=some (.sl (enL cU (l.take m)) t'):=by
    refine⟨FG t 0 m (l.take (m+1)).length false,?_⟩;have:=Ro (f:=cU) (sz:=1) (l:=l.take (m+1)) (tk:=t) (K:=.i64) (h:=m) (by omega);rw[List.take_take,VF (by omega)]at this;exact this
   obtain⟨t',hsl⟩:=hsl;simp only[An,GMw,hr,V0,Ay,hlk,hw,hsl];exact hrec (m,t') ⟨by omega,hv⟩ (Nat.lt_succ_self m)
theorem cmA_res (kn:List Ab->Aa->Out)(x0:Ab)(eb:List (List Ab))(tb:Tok)(H:Aa) :
  cmA kn x0 (.sl eb tb) H=kn [x0,.sl eb tb,.undef,.ptr H.length 0 0,.ptr (H.length+1) 0 0,.undef,.undef,.undef,.undef,.undef,.undef,.undef,.undef,.undef,.undef,.undef,.undef,.undef,.undef,.undef,.undef,.undef,.undef,.undef,.undef,.undef,.undef,.undef,.undef,.undef,.undef,.undef,.undef,.undef,.undef,.undef,.undef,.undef,.undef] (H++[.cel 0 [.sl eb tb]]++[.cel 0 [.i6 0]]):=by
 have hbx:Bu true 1 (.sl eb tb) H=some (.ptr H.length 0 0,H++[.cel 0 [.sl eb tb]]):=by
  unfold Bu;simp only[PV,alloc_eq (cs:=[.sl eb tb]) rfl];rfl
 have hal:Ax (some [(.i6 0)]) (H++[.cel 0 [.sl eb tb]])=some (.ptr (H++[Blk.cel 0 [.sl eb tb]]).length 0 0,H++[.cel 0 [.sl eb tb]]++[.cel 0 [.i6 0]]):=alloc_eq rfl;have hl:(H++[Blk.cel 0 [.sl eb tb]]).length=H.length+1:=by simp
 unfold cmA;rw[hbx];simp only[Bj];rw[hal];simp only[Bj,hl]
theorem cmB_res (kn:List Ab->Aa->Out){la lb:List Nat}(ta tb:Tok)(H:Aa)(xa:Lim la)(xb:Lim lb)(ha:la.length<=1099511627776)(hb:lb.length<=1099511627776) :
  cmB kn (.sl (enL cU la) ta) (.sl (enL cU lb) tb) (.ptr H.length 0 0) (.ptr (H.length+1) 0 0) (H++[.cel 0 [.sl (enL cU lb) tb]]++[.cel 0 [.i6 0]]) =
   kn [.sl (enL cU (A6 (val la))) .no,.sl (enL cU lb) tb,.undef,.ptr H.length 0 0,.ptr (H.length+1) 0 0,.undef,.undef,.sl (enL cU la) ta,.sl (enL cU (A6 (val la))) .no,.sl (enL cU lb) tb,.sl (enL cU (A6 (val lb))) .no,.undef,.undef,.undef,.undef,.undef,.undef,.undef,.undef,.undef,.undef,.undef,.undef,.undef,.undef,.undef,.undef,.undef,.undef,.undef,.undef,.undef,.undef,.undef,.undef,.undef,.undef,.undef,.undef] (H++[.cel 0 [.sl (enL cU (A6 (val lb))) .no]]++[.cel 0 [.i6 0]]):=by
 have e1:(H++[Blk.cel 0 [.sl (enL cU lb) tb]]++[.cel 0 [.i6 0]])[H.length]? = some (.cel 0 [.sl (enL cU lb) tb]):=by simp
 have ld:Ad false 1 (.ptr H.length 0 0) (H++[Blk.cel 0 [.sl (enL cU lb) tb]]++[.cel 0 [.i6 0]])=some (.sl (enL cU lb) tb):=by
  simp only[Ad,A1 e1,zXa];rfl
 have hst:Ae 1 (.ptr H.length 0 0) (.sl (enL cU (A6 (val lb))) .no) (H++[Blk.cel 0 [.sl (enL cU lb) tb]]++[.cel 0 [.i6 0]])=some (H++[.cel 0 [.sl (enL cU (A6 (val lb))) .no]]++[.cel 0 [.i6 0]]):=by
  rw[EX e1 rfl (by simp)]
  congr 1
  rw[List.set_append_left _ _ (by simp),Ba]
  rfl
 have c1:=λK=>p_cutG ta K xa ha;have c2:=λK=>p_cutG tb K xb hb;unfold cmB;simp only[c1,BC,ld];rw[BQ ⟨rfl,trivial⟩];simp only[c2,BC,hst,AC,Fr]
theorem cmC_res (kn kr:List Ab->Aa->Out)(a b:Nat)(ta tb:Tok)(H:Aa)(ha:(A6 a).length<=1099511627776)(hb:(A6 b).length<=1099511627776) :
  (∃tm:List Ab,tm.length=39/\tm[0]? = some (.sl (enL cU (A6 a)) ta)/\tm[3]? = some (.ptr H.length 0 0)/\tm[4]? = some (.ptr (H.length+1) 0 0) /\
   cmC kn kr (.sl (enL cU (A6 a)) ta) (.ptr H.length 0 0) (.ptr (H.length+1) 0 0) (H++[.cel 0 [.sl (enL cU (A6 b)) tb]]++[.cel 0 [.i6 0]]) =
    if (A6 a).length=(A6 b).length then kn tm (H++[.cel 0 [.sl (enL cU (A6 b)) tb]]++[.cel 0 [.i6 0]])
    else kr tm (H++[.cel 0 [.sl (enL cU (A6 b)) tb]]++[.cel 0 [.i6 (if (A6 a).length<(A6 b).length then -1 else 1)]])):=by
 have e1:(H++[Blk.cel 0 [.sl (enL cU (A6 b)) tb]]++[.cel 0 [.i6 0]])[H.length]? = some (.cel 0 [.sl (enL cU (A6 b)) tb]):=by simp
 have e2:(H++[Blk.cel 0 [.sl (enL cU (A6 b)) tb]]++[.cel 0 [.i6 0]])[H.length+1]? = some (.cel 0 [.i6 0]):=by simp
 have ld:Ad false 1 (.ptr H.length 0 0) (H++[Blk.cel 0 [.sl (enL cU (A6 b)) tb]]++[.cel 0 [.i6 0]])=some (.sl (enL cU (A6 b)) tb):=by
  simp only[Ad,A1 e1,zXa];rfl
 have hst:∀z:Int,Ae 1 (.ptr (H.length+1) 0 0) (.i6 z) (H++[Blk.cel 0 [.sl (enL cU (A6 b)) tb]]++[.cel 0 [.i6 0]])=some (H++[.cel 0 [.sl (enL cU (A6 b)) tb]]++[.cel 0 [.i6 z]]):=λz=>by
  rw[EX e2 rfl (by simp)]
  congr 1
  rw[Vt _ _ (by simp)];simp
 unfold cmC;simp only[Ay,zXa,ld];by_cases h:(A6 a).length=(A6 b).length
 ·have hn:Af .none .neq (.i6 ((A6 a).length:Int)) (.i6 ((A6 b).length:Int))=some (.bool false):=by
   show some (Ab.bool (((A6 a).length:Int) != ((A6 b).length:Int)))=_;rw[h];simp
  simp only[hn,if_pos h,zXa,AO];exact⟨_,rfl,rfl,rfl,rfl,rfl⟩
 ·have hn:Af .none .neq (.i6 ((A6 a).length:Int)) (.i6 ((A6 b).length:Int))=some (.bool true):=by
   show some (Ab.bool (((A6 a).length:Int) != ((A6 b).length:Int)))=_;have:(((A6 a).length:Int) != ((A6 b).length:Int))=true:=by simp;omega
   rw[this]
  simp only[hn,if_neg h,zXa,AU,Bq];by_cases h2:(A6 a).length<(A6 b).length
  ·simp only[zXc (show ((A6 a).length:Int)<((A6 b).length:Int)by omega),if_pos h2,AU,hst,AC,Fr];exact⟨_,rfl,rfl,rfl,rfl,rfl⟩
  ·simp only[zXd (show ¬((A6 a).length:Int)<((A6 b).length:Int)by omega),if_neg h2,AO,hst,AC,Fr];exact⟨_,rfl,rfl,rfl,rfl,rfl⟩
open Go.RowKit
open Go.RowKit Go.Proofs Go.Shelf
attribute [local go_sem] Oper.semAt_some
def GoodC (n:Nat)(za zb:Nat->Nat)(z:Int):Prop:=
 (z=0/\∀j,j<n->za j=zb j)\/∃i,i<n/\za i≠zb i/\(∀j,i<j->j<n->za j=zb j)/\z=if za i<zb i then -1 else 1
def AllEq {n:Nat}(za zb:Nat->Nat)(pre:List (Fin n)):Prop:=∀x∈pre,za x.1=zb x.1
def TopNe {n:Nat}(za zb:Nat->Nat)(pre:List (Fin n))(z:Int):Prop:=
 ∃x:Fin n,za x.1≠zb x.1/\AllEq za zb pre.dropLast/\pre.getLast? = some x/\z=if za x.1<zb x.1 then -1 else 1
def Laid (B R:Nat)(w1:World)(z:Int)(W:World):Prop:=Below B (w1.setCell ⟨R,0,none⟩ (.i6 z)) W/\B+1<=W.heap.size
theorem Hu {W:World}{R k:Nat}{v:Value}(h:k≠R):(W.setCell ⟨R,0,none⟩ v).heap[k]? = W.heap[k]? := by
 simp[World.setCell,Wo,h.symm]
theorem Kj {W:World}{R:Nat}{u v:Value}{t:TypeId}(h:W.heap[R]? = some (.cells #[u] t (0,0))):(W.setCell ⟨R,0,none⟩ v).heap[R]? = some (.cells #[v] t (0,0)):=by
 simp[World.setCell,Wo,h]
theorem Fu (W:World)(R:Nat)(v:Value):(W.setCell ⟨R,0,none⟩ v).heap.size=W.heap.size:=by simp[World.setCell]
theorem laid_of {B R:Nat}{w1 W:World}{t:TypeId}{z:Int}(h:Below B w1 W)(hR:R<B)(hr:w1.heap[R]? = some (.cells #[.i6 0] t (0,0)))(h5:B+1<=W.heap.size):Laid B R w1 z (W.setCell ⟨R,0,none⟩ (.i6 z)):=by
 refine⟨⟨h.os,h.tape,h.output,?_,λk hk=>?_⟩,by rw[Fu];exact h5⟩
 ·rw[Fu,Fu];exact h.size
 ·by_cases e:k=R
  ·subst e;rw[Kj ((h.block k hk).trans hr),Kj hr]
  ·rw[Hu e,Hu e];exact h.block k hk
theorem Un {B R:Nat}{W:World}{v:Value}(hR:R<B):KeepsFrom B W (W.setCell ⟨R,0,none⟩ v):=
 ⟨by rw[Fu];exact UK _,λk o hB hk _=>by rw[Hu (by omega)];exact hk⟩
theorem results_one {P:Program}{fn:Func}{p:Tmp}{ty:TypeId}{d:TypeDesc}(h:fn.results = #[.cell p ty])(hu:P.underlying ty=some d)(ha:BN P ty=false)(tmps:Array Value)(w:World)(R:Nat)(v:Value)(hp:tmps.getD p undef=.pointer (some ⟨R,0,none⟩))(hc:w.cell? ⟨R,0,none⟩=some v) :
  (results fn tmps).run P w=.ok v w:=by
 have hp':tmps[p]?.getD undef=.pointer (some ⟨R,0,none⟩):=by simpa using hp
 simp[results,h,hp',asAddr,Lc hu w _ v hc ha]
theorem cmp_end {fu B R:Nat}{w1 W:World}{Rr:Ending->World->Prop}{z:Int}{t:TypeId}{D:Nat}{ts:Array Value}(hR:R<B)(hB:w1.heap.size=B)(hr:w1.heap[R]? = some (.cells #[.i6 0] t (0,0)))(hl:Laid B R w1 z W)(hD:B+1<=D)(hK:W.heap[D]? = some (.deferred (some [])))
  (hp:ts.getD 4 undef=.pointer (some ⟨R,0,none⟩))(hRr:∀W,Below B (w1.setCell ⟨R,0,none⟩ (.i6 z)) W->Rr (.returned (.i6 z)) W) :
  bodyPostM Fence.wide fu Tryz.prog Tryz.f156 Rr .ret { tmps:=ts,defers:=[{ target:=.collected D,args:=#[] }] } W:=by
 have hb:Below B (w1.setCell ⟨R,0,none⟩ (.i6 z)) (W.putObj D (.deferred none)):=
  hl.1.trans (belowK_b (w:=w1) (n₀:=B) (by omega) W D _ _ (by omega) hK rfl rfl)
 have hh:(W.putObj D (.deferred none)).heap[R]? = some (.cells #[.i6 z] t (0,0)):=(hb.block R hR).trans (Kj hr);show LeavesInM _ _ _ _ _ _ (_::_) _ _;refine⟨by simp,.inl ⟨_,_,rfl,run_takeDeferred hK,?_⟩⟩;show LeavesIn _ _ _ _ _ _ [] _ _;exact⟨_,results_one (p:=4) (ty:=3) (d:=.int .i64) (by kernel_rfl) (by kernel_rfl) (by kernel_rfl) ts _ R (.i6 z) hp (by rw[Bg hh];rfl),hRr _ hb⟩
set_option maxRecDepth 100000 in
set_option maxHeartbeats 4000000 in
theorem cmp_tail {fu n:Nat}(hn:3<=fu){w1:World}{Rr:Ending->World->Prop}(bA R bb ob cb ba oa ca:Nat)(ao bo:Option Addr)(za zb:Nat->Nat)(hreach:n<=1099511627776)
  (hao:0<n->ao=some ⟨ba,oa,none⟩)(hbo:0<n->bo=some ⟨bb,ob,none⟩)(hA:bA<w1.heap.size)(hR:R<w1.heap.size)(hba:ba<w1.heap.size)(hbb:bb<w1.heap.size)
  (hbx:w1.cell? ⟨bA,0,none⟩=some (.slice bo n cb))(hrx:∃t,w1.heap[R]? = some (.cells #[.i6 0] t (0,0)))(hca:∀j,j<n->w1.cell? ⟨ba,oa+j,none⟩=some (.int .u32 (za j:Int)))(hcb:∀j,j<n->w1.cell? ⟨bb,ob+j,none⟩=some (.int .u32 (zb j:Int)))
  (hRr:∀z W,GoodC n za zb z->Below w1.heap.size (w1.setCell ⟨R,0,none⟩ (.i6 z)) W->Rr (.returned (.i6 z)) W)
  (va:Value)(hva:va=.slice ao n ca)(t1 t2 t5 t6 t7 t8 t9 t10 t11 t12 t13 t14 t15 t16 t17 t18 t19 t20 t21 t22 t23 t24 t25 t26 t27 t28 t29 t30 t31 t32 t33 t34 t35 t36 t37 t38:Value) :
  cdD.wpIn Fence.wide fu Tryz.prog (bodyPostM Fence.wide fu Tryz.prog Tryz.f156 Rr) { tmps:=#[va,t1,t2,.pointer (some ⟨bA,0,none⟩),.pointer (some ⟨R,0,none⟩),t5,t6,t7,t8,t9,t10,t11,t12,t13,t14,t15,t16,t17,t18,t19,t20,t21,t22,t23,t24,t25,t26,t27,t28,t29,t30,t31,t32,t33,t34,t35,t36,t37,t38],defers:=[] } w1:=by
 subst hva;have h1:1<=fu:=by omega
 have hro:Fence.wide.round=none:=rfl;have h205:Fence.wide.fn 205:=trivial
 conv in cdD=>whnf
 gi_wp2_with (gi_at_call 205;refine (Tryz.back_in Fence.wide (fu-1) trivial hro _ _ _ _).mono ?_;rintro e w' ⟨rfl,rfl⟩)
 obtain⟨tr,hrx⟩:=hrx;generalize hB:w1.heap.size=B at *;obtain⟨W0,hW0⟩:∃W0,w1.alloc (Obj.cells #[Value.slice ao n ca] 44)=W0:=⟨_,rfl⟩;rw[hW0];have hW0s:W0.heap.size=B+1:=by rw[<-hW0,World.size_alloc,hB]
 have hB0:Below B w1 W0:=by rw[<-hW0];exact Below.alloc (Below.refl _ _) (by omega) _
 have hbx0:W0.cell? ⟨B,0,none⟩=some (.slice ao n ca):=by
  have:W0.heap[B]? = some (Obj.cells #[Value.slice ao n ca] 44):=by have:=World.heap_new w1 (Obj.cells #[Value.slice ao n ca] 44);rw[hB]at this;rw[<-hW0];exact this
  rw[Bg this];rfl
 refine wpIn_rangeFunc_ownG hro h1 (gf:=229) (lb:=#[.pointer (some ⟨B,0,none⟩)]) rfl trivial (enters_of Tryz.func229 (by kernel_rfl) rfl)
  (Tryz.back_stops Fence.wide (fu-1) trivial hro (by omega) B B ba oa n ca ao hao za hreach W0 (by omega) hba (by omega) hbx0 (λj hj=>(hB0.cell (p:=⟨ba,oa+j,none⟩) hba).trans (hca j hj)))
  (λh k=>h.trans k) (λW l o o' hl ho h1 h2=>⟨belowK_b (by omega) W l o o' hl ho h1 h2,?hKb⟩) (Below.refl _ _) (λ_=>rfl)
  (λpre W=>AllEq za zb pre/\Below B w1 W/\B+1<=W.heap.size)
  (λc pre W=>c=.ret/\∃z:Int,TopNe za zb pre z/\Laid B R w1 z W)
  ?hI ?hIx
  ⟨λx hx=>(by cases hx),hB0,by omega⟩
  (λx=>{ tmps:=#[.slice ao n ca,t1,t2,.pointer (some ⟨bA,0,none⟩),.pointer (some ⟨R,0,none⟩),.i6 (x.1:Int),.int .u32 (za x.1:Int),t7,t8,t9,t10,t11,t12,t13,t14,t15,t16,t17,t18,t19,t20,.slice ao n ca,.func (.func 229) #[] #[.pointer (some ⟨B,0,none⟩)],.i6 (x.1:Int),.int .u32 (za x.1:Int),t25,t26,t27,t28,t29,t30,t31,t32,t33,t34,t35,t36,t37,t38],defers:=[] }) ?assign ?body ?done ?stop
 case hKb=>
  have hcB:∀(U V:World),V.heap[B]? = U.heap[B]? -> V.cell? ⟨B,0,none⟩=U.cell? ⟨B,0,none⟩:=λU V h=>World.cell?_of_block h;exact hcB _ _ (World.putObj_heap_other (by omega))
 case hI=>
  exact OwnFrom.and (λ_ _ _ _ h _ _=>h) (OwnFrom.and (ownFrom_below (by omega) (by omega)) (λ_ _ _ _ h hg _=>Vf h hg.size))
 case hIx=>
  rintro c pre W W' row ⟨h1,z,h2,h3,h4⟩ hg hr;refine⟨h1,z,h2,?_,Vf h4 hg.size⟩;exact ownFrom_below (β:=List (Fin n)) (B:=W0.heap.size) (by rw[Fu];omega) (by omega) pre W W' row h3 hg hr
 case assign=>
  intro l x W K hK
  gi_wp2
  exact hK
 case body=>
  rintro l pre x W ⟨hE,hBw,h5⟩ _;have hx:=x.2;have hbo':=hbo (by omega);subst hbo';have hbx':=(hBw.cell (p:=⟨bA,0,none⟩) hA).trans hbx;have hcb':=(hBw.cell (p:=⟨bb,ob+x.1,none⟩) hbb).trans (hcb x.1 hx);have hR':=(hBw.block R hR).trans hrx;have hRf:W.frozen? ⟨R,0,none⟩=false:=by simp[World.frozen?,hR']
  have hRc:W.cell? ⟨R,0,none⟩=some (.i6 0):=by rw[Bg hR'];rfl
  by_cases hlt:za x.1<zb x.1
  ·have hlt':(za x.1:Int)<(zb x.1:Int):=by omega
   have hlaid:∀z:Int,z = -1->TopNe za zb (pre++[x]) z/\Laid B R w1 z (W.setCell ⟨R,0,none⟩ (.i6 z)):=λz hz=>
    ⟨⟨x,by omega,by simpa using hE,by simp,by rw[if_pos hlt];exact hz⟩,laid_of hBw hR hrx h5⟩
   have hl:=hlaid (-1) rfl;generalize hT:TopNe za zb (pre++[x]) (-1)=T at hl;clear hlaid
   gi_wp2
   exact⟨Un (by omega),rfl,-1,by rw[hT];exact hl.1,hl.2⟩
  ·by_cases hgt:zb x.1<za x.1
   ·have hlt':¬(za x.1:Int)<(zb x.1:Int):=by omega
    have hgt':(zb x.1:Int)<(za x.1:Int):=by omega
    have hlaid:∀z:Int,z=1->TopNe za zb (pre++[x]) z/\Laid B R w1 z (W.setCell ⟨R,0,none⟩ (.i6 z)):=λz hz=>
     ⟨⟨x,by omega,by simpa using hE,by simp,by rw[if_neg hlt];exact hz⟩,laid_of hBw hR hrx h5⟩
    have hl:=hlaid 1 rfl;generalize hT:TopNe za zb (pre++[x]) 1=T at hl;clear hlaid
    gi_wp2
    exact⟨Un (by omega),rfl,1,by rw[hT];exact hl.1,hl.2⟩
   ·have hlt':¬(za x.1:Int)<(zb x.1:Int):=by omega
    have hgt':¬(zb x.1:Int)<(za x.1:Int):=by omega
    have hE2:AllEq za zb (pre++[x]):=λy hy=>by
     rcases Vi.1 hy with h | h
     ·exact hE y h
     ·rw[Vg.1 h];omega
    gi_wp2
    exact⟨KeepsFrom.refl _ _,⟨Below.refl _ _,rfl⟩,hE2,hBw,h5⟩
 case done=>
  rintro D ys W hD rfl ⟨hE,hBw,h5⟩ hK;have hR':=(hBw.block R hR).trans hrx;have hRf:W.frozen? ⟨R,0,none⟩=false:=by simp[World.frozen?,hR']
  have hRc:W.cell? ⟨R,0,none⟩=some (.i6 0):=by rw[Bg hR'];rfl
  have hgood:GoodC n za zb 0:=.inl ⟨rfl,λj hj=>hE ⟨j,hj⟩ (PR n ⟨j,hj⟩ (UK _) (by omega))⟩;have hl:Laid B R w1 0 (W.setCell ⟨R,0,none⟩ (.i6 0)):=laid_of hBw hR hrx h5
  gi_wp2
  refine cmp_end hR hB hrx hl (by omega) ?_ rfl (λW h=>hRr 0 W hgood h);rw[Hu (by omega)];exact hK
 case stop=>
  rintro D c pre W hD ⟨k,hk,hpre⟩ ⟨rfl,z,⟨x,x1,x2,x3,x4⟩,hl⟩ hK;subst hpre;rw[NG hk]at x2 x3;simp only[List.dropLast_concat,List.getLast?_concat,UQ]at x2 x3;subst x3;have hgood:GoodC n za zb z:=.inr ⟨n-1-k,by omega,x1,λj h1 h2=>x2 ⟨j,h2⟩ (PR k ⟨j,h2⟩ (by omega) (by dsimp only;omega)),x4⟩
  gi_wp2
  exact cmp_end hR hB hrx hl (by omega) hK rfl (λW h=>hRr z W hgood h)
open Go.RowKit Go.Proofs
set_option maxRecDepth 100000
def OW (tm:List Ab)(H:Aa):Out:=some (.ret (.tup tm),H)
def Qy (tm:List Ab)(H:Aa):Out:=some (.ret (.agg tm),H)
theorem rec_n {x:AExit}{tm tm':List Ab}{H H':Aa}(h:kK OW Qy x tm H=some (.ret (.tup tm'),H')):x=.normal/\tm=tm'/\H=H':=by
 cases x with
 | normal=>simp only[kK,OW,UQ,Vd,Res.ret.injEq,Ab.tup.injEq]at h;exact⟨rfl,h⟩
 | ret=>simp[kK,Qy]at h
 | pan v=>simp[kK]at h
 | exit i=>simp[kK]at h
theorem rec_r {x:AExit}{tm tm':List Ab}{H H':Aa}(h:kK OW Qy x tm H=some (.ret (.agg tm'),H')):x=.ret/\tm=tm'/\H=H':=by
 cases x with
 | normal=>simp[kK,OW]at h
 | ret=>simp only[kK,Qy,UQ,Vd,Res.ret.injEq,Ab.agg.injEq]at h;exact⟨rfl,h⟩
 | pan v=>simp[kK]at h
 | exit i=>simp[kK]at h
theorem sl_view {E:Env}{H:Aa}{w:World}(hs:Sim E H w){L:List Nat}{tk:Tok}{v:Value}(h:A2 E (.sl (enL cU L) tk) v)(hw:0<w.heap.size) :
  ∃(ao:Option Addr) (b o cap:Nat),v=.slice ao L.length cap/\(0<L.length->ao=some ⟨b,o,none⟩)/\b<w.heap.size/\∀j,j<L.length->w.cell? ⟨b,o+j,none⟩=some (.int .u32 ((L[j]?.getD 0:Nat):Int)):=by
 have hge:∀j (hj:j<L.length),(enL cU L)[j]? = some (cU L[j]):=λj hj=>by simp[enL,hj]
 have hle:(enL cU L).length=L.length:=by simp[enL]
 generalize hes:enL cU L=es at *;cases h with
 | @sl0 _ a cap ht ha=>
  have:L.length=0:=by simpa using hle.symm
  exact⟨a,0,0,cap,by rw[this],λh=>by omega,hw,λj hj=>by omega⟩
 | @sl _ _ b o s cap f hlen hI hmm hvv hcc htt=>
  by_cases hpos:0<L.length
  ·have hs1:s=1:=by
    have:=hlen 0 _ (hge 0 hpos);simpa using this.symm
   subst hs1;refine⟨_,b,o,cap,by rw[hle],λ_=>rfl,hs.imm_lt (hI 0 0 (by omega) (by omega)),λj hj=>?_⟩;have h1:=hs.imm _ _ _ (hI j 0 (by omega) (by omega));have h2:=hvv j _ 0 _ (hge j hj) rfl;rw[QD h2]at h1;rw[UG hj];simpa using h1
  ·exact⟨_,0,o,cap,by rw[hle],λh=>absurd h hpos,hw,λj hj=>by omega⟩
theorem T7 {l:List Nat}{i:Nat}(h:i<l.length):val l=val (l.take i)+4294967296^i*(l[i]+4294967296*val (l.drop (i+1))):=by
 have e:l=l.take i++(l[i]::l.drop (i+1)):=by rw[<-Vh h,V7]
 conv=>lhs;rw[e]
 rw[Cu,UY,VF (by omega)]
 rfl
theorem ar_lt {a b P W x y d:Nat}(ha:a<P)(hxy:x<y):a+P*(x+W*d)<b+P*(y+W*d):=by
 have h1:P*(x+W*d)+P<=P*(y+W*d):=by
  rw[<-Nat.mul_succ];exact WU _ (by omega)
 omega
theorem topV_lt {l m:List Nat}(hl:Lim l)(he:l.length=m.length){i:Nat}(h:i<l.length)(h':i<m.length)(hd:l.drop (i+1)=m.drop (i+1))(hlt:l[i]<m[i]):val l<val m:=by
 have h1:=Gk (l:=l.take i) λy hy=>hl y (VR hy);rw[UY,VF (by omega)]at h1;rw[T7 h,T7 h',hd];exact ar_lt h1 hlt
theorem good_val {A B:Nat}(hlen:(A6 A).length=(A6 B).length){z:Int}(h:GoodC (A6 A).length (λj=>(A6 A)[j]?.getD 0) (λj=>(A6 B)[j]?.getD 0) z):z=if A<B then -1 else if A=B then 0 else 1:=by
 rcases h with ⟨rfl,h⟩ | ⟨i,hi,hne,hab,rfl⟩
 ·have:A6 A=A6 B:=by
   apply List.ext_getElem hlen;intro j h1 h2;have:=h j h1;dsimp only at this;rw[UG h1,UG h2]at this;exact this
  have e:A=B:=by rw[<-B2 A,<-B2 B,this]
  rw[if_neg (by omega),if_pos e]
 ·have hi2:i<(A6 B).length:=by omega
  have g1:(A6 A)[i]?.getD 0=(A6 A)[i]:=by rw[UG hi];rfl
  have g2:(A6 B)[i]?.getD 0=(A6 B)[i]:=by rw[UG hi2];rfl
  have hd:(A6 A).drop (i+1)=(A6 B).drop (i+1):=by
   apply List.ext_getElem (by simp[hlen]);intro j h1 h2;rw[Vc]at h1 h2;have:=hab (i+1+j) (by omega) (by omega);dsimp only at this;rw[UG (by omega),UG (by omega)]at this;rw[W4,W4];exact this
  dsimp only at hne ⊢;rw[g1,g2]at hne;have e:((A6 A)[i]?.getD 0<(A6 B)[i]?.getD 0)↔(A6 A)[i]<(A6 B)[i]:=by rw[g1,g2]
  by_cases hlt:(A6 A)[i]<(A6 B)[i]
  ·have:=topV_lt (Br A) hlen hi hi2 hd hlt;rw[B2,B2]at this;rw[if_pos (e.2 hlt),if_pos this]
  ·have:=topV_lt (Br B) hlen.symm hi2 hi hd.symm (by omega);rw[B2,B2]at this;rw[if_neg (λh=>hlt (e.1 h)),if_neg (by omega),if_neg (by omega)]
theorem len_val {A B:Nat}(hne:¬(A6 A).length=(A6 B).length):(if (A6 A).length<(A6 B).length then (-1:Int)else 1)=if A<B then -1 else if A=B then 0 else 1:=by
 by_cases h:(A6 A).length<(A6 B).length
 ·have:A<B:=by
   rcases Vy A B with q | q
   ·exact q
   ·have:=MM q;omega
  rw[if_pos h,if_pos this]
 ·have:B<A:=by
   rcases Vy B A with q | q
   ·exact q
   ·have:=MM q;omega
  rw[if_neg h,if_neg (by omega),if_neg (by omega)]
theorem one_of {E:Env}{x:Ab}{vs:Array Value}(h:A9 E [x] vs.toList):∃v,vs = #[v]/\A2 E x v:=args1 h
theorem Bx {α:Type}{n:Nat}{l:List α}(h:l.length=n+1):∃x r,l=x::r/\r.length=n:=by
 cases l with
 | nil=>cases h
 | cons x r=>exact⟨x,r,rfl,by simpa using h⟩
theorem lit39 (ts:Array Value)(h:ts.toList.length=39):∃t0 t1 t2 t3 t4 t5 t6 t7 t8 t9 t10 t11 t12 t13 t14 t15 t16 t17 t18 t19 t20 t21 t22 t23 t24 t25 t26 t27 t28 t29 t30 t31 t32 t33 t34 t35 t36 t37 t38:Value,ts = #[t0,t1,t2,t3,t4,t5,t6,t7,t8,t9,t10,t11,t12,t13,t14,t15,t16,t17,t18,t19,t20,t21,t22,t23,t24,t25,t26,t27,t28,t29,t30,t31,t32,t33,t34,t35,t36,t37,t38]:=by
 obtain⟨l⟩:=ts;dsimp only at h;obtain⟨t0,l0,rfl,h0⟩:=Bx h;obtain⟨t1,l1,rfl,h1⟩:=Bx h0;obtain⟨t2,l2,rfl,h2⟩:=Bx h1;obtain⟨t3,l3,rfl,h3⟩:=Bx h2;obtain⟨t4,l4,rfl,h4⟩:=Bx h3;obtain⟨t5,l5,rfl,h5⟩:=Bx h4;obtain⟨t6,l6,rfl,h6⟩:=Bx h5;obtain⟨t7,l7,rfl,h7⟩:=Bx h6;obtain⟨t8,l8,rfl,h8⟩:=Bx h7;obtain⟨t9,l9,rfl,h9⟩:=Bx h8;obtain⟨t10,l10,rfl,h10⟩:=Bx h9;obtain⟨t11,l11,rfl,h11⟩:=Bx h10;obtain⟨t12,l12,rfl,h12⟩:=Bx h11;obtain⟨t13,l13,rfl,h13⟩:=Bx h12;obtain⟨t14,l14,rfl,h14⟩:=Bx h13;obtain⟨t15,l15,rfl,h15⟩:=Bx h14;obtain⟨t16,l16,rfl,h16⟩:=Bx h15;obtain⟨t17,l17,rfl,h17⟩:=Bx h16;obtain⟨t18,l18,rfl,h18⟩:=Bx h17;obtain⟨t19,l19,rfl,h19⟩:=Bx h18;obtain⟨t20,l20,rfl,h20⟩:=Bx h19;obtain⟨t21,l21,rfl,h21⟩:=Bx h20;obtain⟨t22,l22,rfl,h22⟩:=Bx h21;obtain⟨t23,l23,rfl,h23⟩:=Bx h22;obtain⟨t24,l24,rfl,h24⟩:=Bx h23;obtain⟨t25,l25,rfl,h25⟩:=Bx h24;obtain⟨t26,l26,rfl,h26⟩:=Bx h25;obtain⟨t27,l27,rfl,h27⟩:=Bx h26;obtain⟨t28,l28,rfl,h28⟩:=Bx h27;obtain⟨t29,l29,rfl,h29⟩:=Bx h28;obtain⟨t30,l30,rfl,h30⟩:=Bx h29;obtain⟨t31,l31,rfl,h31⟩:=Bx h30;obtain⟨t32,l32,rfl,h32⟩:=Bx h31;obtain⟨t33,l33,rfl,h33⟩:=Bx h32;obtain⟨t34,l34,rfl,h34⟩:=Bx h33;obtain⟨t35,l35,rfl,h35⟩:=Bx h34;obtain⟨t36,l36,rfl,h36⟩:=Bx h35;obtain⟨t37,l37,rfl,h37⟩:=Bx h36;obtain⟨t38,l38,rfl,h38⟩:=Bx h37;obtain rfl:=UZ h38;exact⟨t0,t1,t2,t3,t4,t5,t6,t7,t8,t9,t10,t11,t12,t13,t14,t15,t16,t17,t18,t19,t20,t21,t22,t23,t24,t25,t26,t27,t28,t29,t30,t31,t32,t33,t34,t35,t36,t37,t38,rfl⟩
theorem frel0 {E:Env}{H:Aa}{w:World}{args:List Ab}{vs:Array Value}{n:Nat}(hs:Sim E H w)(hv:A9 E args vs.toList)(hn:args.length<=n):HW n E H (args++List.replicate (n-args.length) .undef) { tmps:=vs++Array.replicate (n-vs.size) undef,defers:=[] } w:=by
 have hlen:args.length=vs.size:=by simpa using hv.1
 refine⟨?_,by simp;omega,rfl,hs⟩;rw[Wu];refine hv.append ⟨by simp[hlen],λi c v h1 h2=>?_⟩;rw[WF]at h1;split at h1
 ·simp at h1;subst h1;exact .undef _
 ·cases h1
def Of:List Bool->List Ab->List Ab
 | true::m,x::xs=>x::Of m xs
 | _::m,_::xs=>.undef::Of m xs
 | [],xs=>xs
 | _,[]=>[]
theorem Pd:∀(m:List Bool) (xs:List Ab),(Of m xs).length=xs.length
 | [],[]=>rfl
 | [],_::_=>rfl
 | _::_,[]=>by simp[Of]
 | true::m,x::xs=>by simp[Of,Pd m xs]
 | false::m,x::xs=>by simp[Of,Pd m xs]
theorem OV {E:Env}:∀(m:List Bool) (xs:List Ab) (vs:List Value),A9 E xs vs->A9 E (Of m xs) vs
 | [],[],_,h=>h
 | [],_::_,_,h=>h
 | _::_,[],_,h=>by simpa[Of]using h
 | b::m,x::xs,[],h=>absurd h.1 (by simp)
 | true::m,x::xs,v::vs,h=>A9.cons h.head (OV m xs vs h.tail)
 | false::m,x::xs,v::vs,h=>A9.cons (.undef _) (OV m xs vs h.tail)
theorem frel_mask {n:Nat}{E:Env}{H:Aa}{tm:List Ab}{a:Act}{w:World}(m:List Bool)(h:HW n E H tm a w):HW n E H (Of m tm) a w:=
 ⟨OV m tm _ h.rel,by rw[Pd];exact h.len,h.defers,h.sim⟩
theorem setCells_one (w:World)(R:Nat)(v:Value):w.setCells R 0 [v]=w.setCell ⟨R,0,none⟩ v:=rfl
theorem Jv:AG Tryz.prog Gs 156 (ap2 Sh.fw):=by
 intro args H res H' h;unfold ap2 at h;split at h
 ·rename_i a b;unfold Sh.fw at h;split at h
  ·rename_i es ta fs tb;split at h
   ·rename_i hex;have hsp:=hex.choose_spec;generalize hp:hex.choose=p at hsp h;obtain⟨la,lb⟩:=p;dsimp only at hsp h;obtain⟨rfl,rfl,xa,xb,ha,hb⟩:=hsp;simp only[UQ,Vd]at h;obtain⟨rfl,rfl⟩:=h;intro E w vs hG hs hv;obtain⟨va,vb,rfl,k1,k2⟩:=args2 hv;have hlA:(A6 (val la)).length<=1099511627776:=Vf (Fe (Gk xa)) ha;have hlB:(A6 (val lb)).length<=1099511627776:=Vf (Fe (Gk xb)) hb;refine .inl ⟨F2 Tryz.func156 (by kernel_rfl) (by kernel_rfl) _ w,?_⟩;refine callsIn_wide.1 (callsIn_of_wp_marks (n:=3) Tryz.func156 body_156 trivial ?_ rfl);have hC:MB Tm:=mk_ok (Ag DN (Ar _ _));have hD:DrawOk Tm:=draw_ok hC mixed;have hfr:HW 39 E H [.sl (enL cU la) ta,.sl (enL cU lb) tb,.undef,.undef,.undef,.undef,.undef,.undef,.undef,.undef,.undef,.undef,.undef,.undef,.undef,.undef,.undef,.undef,.undef,.undef,.undef,.undef,.undef,.undef,.undef,.undef,.undef,.undef,.undef,.undef,.undef,.undef,.undef,.undef,.undef,.undef,.undef,.undef,.undef] { tmps:=#[va,vb]++Array.replicate (39 - #[va,vb].size) undef,defers:=[] } w:=frel0 hs hv (by simp);rw[Tryz.ntmps156];obtain⟨HB,hHB⟩:∃HB:Aa,HB=H++[.cel 0 [.sl (enL cU (A6 (val lb))) .no]]++[.cel 0 [.i6 0]]:=⟨_,rfl⟩;have hAev:=cmA_eq OW Qy (.sl (enL cU la) ta) (.sl (enL cU lb) tb) H;rw[cmA_res,<-ev_eq]at hAev;refine wpIn_seq (wpIn_mono (wpIn_wide.2 (S2 hC hD cdA _ (kK OW Qy) E _ H _ w hG (BX.refl E H w) hfr hAev)) ?_);rintro e1 a1 w1 ⟨E1,H1,tm1,x1,hG1,st1,hf1,hx1,hk1⟩;obtain⟨rfl,rfl,rfl⟩:=rec_n hk1;cases e1 <;> first | exact hx1.elim | skip
    have hBev:=cmB_eq OW Qy (.sl (enL cU la) ta) (.sl (enL cU lb) tb) (.ptr H.length 0 0) (.ptr (H.length+1) 0 0) (H++[.cel 0 [.sl (enL cU lb) tb]]++[.cel 0 [.i6 0]]);rw[cmB_res OW ta tb H xa xb ha hb,<-ev_eq]at hBev;refine wpIn_seq (wpIn_mono (wpIn_wide.2 (S2 hC hD cdB _ (kK OW Qy) E1 _ _ a1 w1 hG1 st1 hf1 hBev)) ?_);rintro e2 a2 w2 ⟨E2,H2,tm2,x2,hG2,st2,hf2,hx2,hk2⟩;obtain⟨rfl,rfl,rfl⟩:=rec_n hk2;cases e2 <;> first | exact hx2.elim | skip
    have hf2':HW 39 E2 HB [.sl (enL cU (A6 (val la))) .no,.undef,.undef,.ptr H.length 0 0,.ptr (H.length+1) 0 0,.undef,.undef,.undef,.undef,.undef,.undef,.undef,.undef,.undef,.undef,.undef,.undef,.undef,.undef,.undef,.undef,.undef,.undef,.undef,.undef,.undef,.undef,.undef,.undef,.undef,.undef,.undef,.undef,.undef,.undef,.undef,.undef,.undef,.undef] a2 w2:=hHB ▸ frel_mask [true,false,false,true,true,false,false,false,false,false,false,false,false,false,false,false,false,false,false,false,false,false,false,false,false,false,false,false,false,false,false,false,false,false,false,false,false,false,false] hf2;have hCev:=cmC_eq OW Qy (.sl (enL cU (A6 (val la))) .no) (.ptr H.length 0 0) (.ptr (H.length+1) 0 0) HB;obtain⟨tm3,hl3,g0,g3,g4,hres⟩:=cmC_res OW Qy (val la) (val lb) .no .no H hlA hlB;have fin2:∀(z:Int) (HX:Aa) (E3:Env) (W:World),HX=H++[.cel 0 [.sl (enL cU (A6 (val lb))) .no]]++[.cel 0 [.i6 z]]->Sim E3 HX W->BX E H w E3 HX W->∃E',IT E' (.ret (.i6 z)) (.returned (.i6 z))/\Sim E' H W/\BX E H w E' H W:=by
     intro z HX E3 W hHX hsim hst;have hfin:fin .pure H (.ret (.i6 z)) HX=some (.ret (.i6 z),H):=by
      have:rP H (.i6 z) HX=some (.ret (.i6 z),H):=by rw[hHX,UP];exact HS
      exact this
     obtain⟨E',q1,q2,q3⟩:=fin_ok (r:=.ret (.i6 z)) (e:=.returned (.i6 z)) hs hst hsim (show IT E3 _ _ from A2.int _ _) hfin;exact⟨E',q1,q2,q3⟩
    rw[<-hHB]at hres;rw[hres,<-ev_eq]at hCev;by_cases hlen:(A6 (val la)).length=(A6 (val lb)).length
    ·rw[if_pos hlen]at hCev;refine wpIn_seq (wpIn_mono (wpIn_wide.2 (S2 hC hD cdC _ (kK OW Qy) E2 _ HB a2 w2 hG2 (hHB ▸ st2) hf2' hCev)) ?_);rintro e3 a3 w3 ⟨E3,H3,tm4,x3,hG3,st3,hf3,hx3,hk3⟩;obtain⟨rfl,rfl,hHH⟩:=rec_n hk3;rw[hHH]at hf3 st3;cases e3 <;> first | exact hx3.elim | skip
     have hl39:a3.tmps.toList.length=39:=by rw[<-hf3.rel.1];exact hf3.len
     obtain⟨ts,ds⟩:=a3;obtain⟨t0,t1,t2,t3,t4,t5,t6,t7,t8,t9,t10,t11,t12,t13,t14,t15,t16,t17,t18,t19,t20,t21,t22,t23,t24,t25,t26,t27,t28,t29,t30,t31,t32,t33,t34,t35,t36,t37,t38,hts⟩:=lit39 ts hl39;have hds:ds=[]:=hf3.defers;subst hds;subst hts;obtain⟨u0,p0,r0⟩:=hf3.rel.get g0;obtain⟨u3,p3,r3⟩:=hf3.rel.get g3;obtain⟨u4,p4,r4⟩:=hf3.rel.get g4;obtain rfl:t0=u0:=by simpa using p0
     obtain rfl:t3=u3:=by simpa using p3
     obtain rfl:t4=u4:=by simpa using p4
     have hsim:=hf3.sim;obtain⟨bA,f3,rfl⟩:=r3.ptr_inv;obtain⟨R,f4,rfl⟩:=r4.ptr_inv;have e1:HB[H.length]? = some (.cel 0 [.sl (enL cU (A6 (val lb))) .no]):=by rw[hHB];simp
     have e2:HB[H.length+1]? = some (.cel 0 [.i6 0]):=by rw[hHB];simp
     obtain⟨b0,c0,y0,q0,q1,q2,_⟩:=hsim.blk _ _ e1;obtain⟨b1,c1,y1,q4,q5,q6,_⟩:=hsim.blk _ _ e2;rw[f3]at q0;rw[f4]at q4;cases q0;cases q4;obtain⟨vb3,rfl,rb⟩:=one_of q2;obtain⟨vr3,rfl,rr⟩:=one_of q6;have hvr:=QD rr;subst hvr;have hw0:bA<w3.heap.size:=(Vu.1 q1).1;have hwR:R<w3.heap.size:=(Vu.1 q5).1;obtain⟨ao,ba,oa,ca,rfl,hao,hba,hca⟩:=sl_view hsim r0 (by omega);obtain⟨bo,bb,ob,cb,rfl,hbo,hbb,hcb⟩:=sl_view hsim rb (by omega);rw[<-hlen]at hbo hcb q1;refine cmp_tail (n:=(A6 (val la)).length) (UK 3) bA R bb ob cb ba oa ca ao bo (λj=>(A6 (val la))[j]?.getD 0) (λj=>(A6 (val lb))[j]?.getD 0) hlA hao hbo hw0 hwR hba hbb (by rw[Bg q1];rfl) ⟨y1,q5⟩ hca hcb (λz W hg hbel=>?_) _ rfl t1 t2 t5 t6 t7 t8 t9 t10 t11 t12 t13 t14 t15 t16 t17 t18 t19 t20 t21 t22 t23 t24 t25 t26 t27 t28 t29 t30 t31 t32 t33 t34 t35 t36 t37 t38;have hz:=good_val hlen hg;have hst:Ae 1 (.ptr (H.length+1) 0 0) (.i6 z) HB=some (H++[.cel 0 [.sl (enL cU (A6 (val lb))) .no]]++[.cel 0 [.i6 z]]):=by
      rw[EX e2 rfl (by simp),hHB]
      congr 1
      rw[Vt _ _ (by simp)];simp
     obtain⟨b',o',cs',tt',w1',w2',w3',w4',w5',w6',w7'⟩:=LC hsim (.ptr f4) (.i6 z) hst;injection w1' with w1';injection w1' with w1';injection w1' with w1a w1b;subst w1a;subst w1b;have hce:(Value.i6 z).cells.toList=[Value.i6 z]:=rfl;rw[hce,setCells_one]at w6' w7';have hext:=w6'.ext (.refl E3) (λ_ _ _ h=>h) (λ_ _ _ h=>h) (λb hb=>hbel.block b (by rw[Fu]at hb;exact hb)) (λ_ _=>rfl) (λb o v hv hb=>by have:=w6'.imm_lt hv;omega) hbel.os hbel.tape hbel.output hbel.size;obtain⟨E',k1',k2',k3'⟩:=fin2 z _ E3 W rfl hext.1 ((st3.trans w7').trans hext.2);refine⟨E',?_,k2',k3'⟩;rw[<-hz];exact k1'
    ·rw[if_neg hlen]at hCev;refine wpIn_seq (wpIn_mono (wpIn_wide.2 (S2 hC hD cdC _ (kK OW Qy) E2 _ HB a2 w2 hG2 (hHB ▸ st2) hf2' hCev)) ?_);rintro e3 a3 w3 ⟨E3,H3,tm4,x3,hG3,st3,hf3,hx3,hk3⟩;obtain⟨rfl,rfl,rfl⟩:=rec_r hk3;cases e3 <;> first | exact hx3.elim | skip
     have hz:=len_val hlen;have hra:FI Tm Tryz.f156.results.toList tm4 (H++[.cel 0 [.sl (enL cU (A6 (val lb))) .no]]++[.cel 0 [.i6 (if (A6 (val la)).length<(A6 (val lb)).length then -1 else 1)]])=some (.i6 (if (A6 (val la)).length<(A6 (val lb)).length then -1 else 1)):=by
      have hrs:Tryz.f156.results.toList=[.cell 4 3]:=by kernel_rfl
      have hld:Ad false 1 (.ptr (H.length+1) 0 0) (H++[Blk.cel 0 [.sl (enL cU (A6 (val lb))) .no]]++[.cel 0 [.i6 (if (A6 (val la)).length<(A6 (val lb)).length then -1 else 1)]])=some (.i6 (if (A6 (val la)).length<(A6 (val lb)).length then -1 else 1)):=by
       simp only[Ad,A1 (show (H++[Blk.cel 0 [.sl (enL cU (A6 (val lb))) .no]]++[Blk.cel 0 [.i6 (if (A6 (val la)).length<(A6 (val lb)).length then -1 else 1)]])[H.length+1]? = some (.cel 0 [.i6 (if (A6 (val la)).length<(A6 (val lb)).length then -1 else 1)])by simp),zXa]
       rfl
      rw[hrs];show Ic Tm tm4 _ (.cell 4 3)=_;have hd4:tm4.getD 4 .undef=.ptr (H.length+1) 0 0:=by rw[UN,g4];rfl
      have hok:okT Tm.P 3=true:=by kernel_rfl
      have hagg:BN Tm.P 3=false:=by kernel_rfl
      have hsz:At Tm.P 3=1:=by kernel_rfl
      simp only[Ic,hok,hagg,hsz,hd4,Vp,UM,if_false];exact hld
     obtain⟨v,r1,r2⟩:=Ry (fn:=Tryz.f156) hf3 hra;have hv3:=QD r2;subst hv3;show LeavesInM _ _ _ _ _ _ a3.defers _ _;rw[hf3.defers];show LeavesIn _ _ _ _ _ _ [] _ _;refine⟨_,r1,?_⟩;obtain⟨E',q1,q2,q3⟩:=fin2 _ _ E3 w3 rfl hf3.sim st3;refine⟨E',?_,q2,q3⟩;rw[<-hz];exact q1
   ·cases h
  ·cases h
 ·cases h
open Go.Proofs Go.RowKit Go.Shelf
theorem dig1 (x:Nat)(H:Aa):Sh.f74 (.int .i32 x) H=some (.ret (.bool (Le x)),H):=by
 unfold Sh.f74 Le;by_cases h:x<48
 ·have h':(x:Int)<48:=by omega
  simp[h,h']
 ·have h':¬(x:Int)<48:=by omega
  by_cases h2:57<x
  ·have kO:(57:Int)<x:=by omega
   simp[h,h',h2,kO]
  ·have kO:¬(57:Int)<x:=by omega
   simp[h,h',h2,kO]
theorem KC:AG Tryz.prog Gs 234 (ap2 Sh.f2a):=by
 intro args H res H' h;unfold ap2 at h;split at h
 ·unfold Sh.f2a at h;split at h
  ·rename_i s;cases h;refine lib_ok Tryz.func234 (by kernel_rfl) λE w vs hG hs hv=>?_;obtain⟨v,u,rfl,h1,h2⟩:=args2 hv;rw[val_str h1];have hu:u=.func (.func 235) #[] #[]:=by
    cases h2 with
    | @fn _ _ vs' pA aP=>exact congrArg _ (Array.eq_empty_of_size_eq_zero pA.symm)
   rw[hu];refine⟨_,.int _ _,Tryz.strings_IndexFunc_grows 235 #[] (λa w=>F2 Tryz.func235 (by kernel_rfl) (by kernel_rfl) a w) Le ⟨s.toArray⟩ w λW x hx hb=>?_⟩;refine (fn_calls OF Tryz.func235 (by kernel_rfl) (λ_ _ h=>nomatch h) (TF hs hb).1 (args:=[.int .i32 x]) (A9.cons (.int _ _) (A9.nil _)) (dig1 x [])).mono λe w' ⟨⟨E',he⟩,hw⟩=>⟨?_,hw⟩;cases e with
   | returned v=>rw[A2.bool_inv he]
   | panicked c=>exact he.elim
   | outgrown=>exact he.elim
  ·cases h
 ·cases h
theorem KD:AG Tryz.prog Gs 177 (ap2 Sh.f2b):=by
 intro args H res H' h;unfold ap2 at h;split at h
 ·unfold Sh.f2b at h;split at h
  ·rename_i s c;cases h;refine lib_ok Tryz.func177 (by kernel_rfl) λE w vs hG hs hv=>?_;obtain⟨v,u,rfl,h1,h2⟩:=args2 hv;rw[val_str h1,QD h2];exact⟨_,.int _ _,(Tryz.strings_IndexByte ⟨s.toArray⟩ c w).mono λe w' ⟨he,hw⟩=>⟨by simpa using he,hw ▸ Below.refl _ _⟩⟩
  ·cases h
 ·cases h
end Go.Gm
namespace Go.Proofs
open Go.RowKit
set_option maxRecDepth 10000 in
theorem Tryz.catch_panicking5 (p:Addr)(c0 c1:Value)(older:List PanicEntry)(w:World){wa w1:World}(hs0:Sem.run Tryz.prog (store p c0) w=.ok () wa)(hs1:Sem.run Tryz.prog (store { block:=p.block,off:=p.off+1 } c1) wa=.ok () w1) :
  CallsD Tryz.prog 110 #[.pointer (some p)] (.panicking ({ v:=.iface 107 (.agg #[c0,c1]),recovered:=false }::older)) w λe u' w'=>
   e=.returned (.tuple #[])/\u'=.panicking ({ v:=.iface 107 (.agg #[c0,c1]),recovered:=true }::older)/\w'=w1:=by
 have hta:Sem.run Tryz.prog (Instr.typeAssert (.iface 107 (.agg #[c0,c1])) 20 107 false) w=.ok (.agg #[c0,c1]) w:=by
  kernel_rfl
 refine callsD_of_wpS Tryz.func110 rfl λc₀ cs hu=>?_;apply wpS_seq;apply wpS_region;simp[wpOpsS,go_sem,recoverD,hu,Tryz.ntmps110,Exit.thenS];apply wpS_seq;apply wpS_region;simp[wpOpsS,go_sem,Exit.thenS];refine wpS_cond (t:=true) (by simp[Act.eval,Array.replicate]) ?_;simp only[if_true];apply wpS_region;simp[wpOpsS,go_sem,bodyPostS,results,Tryz.results110,hta,hs0,hs1]
set_option maxRecDepth 10000 in
theorem Tryz.catch_idle5 (p:Addr)(w:World) :
  CallsD Tryz.prog 110 #[.pointer (some p)] .returning w λe u' w'=>e=.returned (.tuple #[])/\u'=.returning/\w'=w:=by
 refine callsD_of_wpS Tryz.func110 rfl λc₀ cs hu=>?_;apply wpS_seq;apply wpS_region;simp[wpOpsS,go_sem,recoverD,hu,Tryz.ntmps110,Exit.thenS];apply wpS_seq;apply wpS_region;simp[wpOpsS,go_sem,Exit.thenS];refine wpS_cond (t:=false) (by simp[Act.eval,Array.replicate]) ?_;simp only[Bool.false_eq_true,if_false];refine wpS_of_wp (wp_skip ?_);cases c₀
 simp_all [bodyPostS,results,Tryz.results110]
end Go.Proofs
namespace Go.Proofs
open Go.RowKit
theorem Tryz.box_cells5 {w:World}{b:Nat}{x0 x1:Value}{t:TypeId}(hbox:w.heap[b]? = some (.cells #[x0,x1] t (0,0)))(y0 y1:Value) :
  (w.setCell ⟨b,0,none⟩ y0).cell? ⟨b,1,none⟩=some x1/\(w.setCell ⟨b,0,none⟩ y0).frozen? ⟨b,1,none⟩=false /\
   ((w.setCell ⟨b,0,none⟩ y0).setCell ⟨b,1,none⟩ y1).cell? ⟨b,0,none⟩=some y0/\((w.setCell ⟨b,0,none⟩ y0).setCell ⟨b,1,none⟩ y1).cell? ⟨b,1,none⟩=some y1:=by
 have sz:b<w.heap.size:=by
  rcases Nat.lt_or_ge b w.heap.size with h | h
  ·exact h
  ·rw[Array.getElem?_eq_none h]at hbox;cases hbox
 have hx:w.heap[b]=.cells #[x0,x1] t (0,0):=by
  rw[Array.getElem?_eq_getElem sz]at hbox;exact Option.some.inj hbox
 refine⟨?_,?_,?_,?_⟩ <;> simp[World.cell?,World.frozen?,World.setCell,hx,sz,Array.getElem_modify]
set_option maxRecDepth 10000 in
set_option maxHeartbeats 1000000 in
theorem Tryz.caught_in5 (g:Nat)(caps:Array Value)(w:World)(eg:∀args w,(callFunc g args).run Tryz.prog w=.ok (.enter g args) w){R:Ending->World->Prop}
  (hj:Calls Tryz.prog g caps (w.alloc (.cells #[.i6 0,.string ⟨#[]⟩] 107)) R)
  (hR:∀e w2,R e w2->(∃t c0 c1,w2.heap[w.heap.size]? = some (.cells #[c0,c1] t (0,0)))/\((∃v,e=.returned v)\/∃c0 c1,Value.oneCell' c0=true/\Value.oneCell' c1=true/\e=.panicked [{ v:=.iface 107 (.agg #[c0,c1]),recovered:=false }])) :
  Calls Tryz.prog 58 #[.func (.func g) caps #[]] w λe w'=>∃e2 w2,R e2 w2/\∃c0 c1,e=.returned (.agg #[c0,c1])/\w'=(w2.setCell ⟨w.heap.size,0,none⟩ c0).setCell ⟨w.heap.size,1,none⟩ c1 /\
   ((∃v,e2=.returned v/\c0=.i6 0/\c1=.string ⟨#[]⟩)\/e2=.panicked [{ v:=.iface 107 (.agg #[c0,c1]),recovered:=false }]):=by
 have hmf:∀(fn:Fn) (first cap:Array Value) (w:World),(Instr.makeFunc fn first cap).run Tryz.prog w=.ok (.func fn first cap) w:=λ_ _ _ _=>rfl
 go_enter_defers Tryz.func58,Tryz.ntmps58
 go_wp2
 refine hj.mono ?_;rintro e w2 hr;obtain⟨⟨t,x0,x1,hbox⟩,h⟩:=hR _ _ hr;have c0:w2.cell? ⟨w.heap.size,0,none⟩=some x0:=by simp[World.cell?,hbox]
 have c1:w2.cell? ⟨w.heap.size,1,none⟩=some x1:=by simp[World.cell?,hbox]
 have f0:w2.frozen? ⟨w.heap.size,0,none⟩=false:=by simp[World.frozen?,hbox]
 have f1:w2.frozen? ⟨w.heap.size,1,none⟩=false:=by simp[World.frozen?,hbox]
 have K:=λy0 y1=>Tryz.box_cells5 (w:=w2) hbox y0 y1;rcases h with ⟨v,rfl⟩ | ⟨y0,y1,o0,o1,rfl⟩
 ·obtain⟨k1,k2,k3,k4⟩:=K (.i6 0) (.string ⟨#[]⟩)
  go_wp2
  refine leaves_cons (f:=110) (args:=#[.pointer (some ⟨w.heap.size,0,none⟩)]) (by simp) (by simp[go_sem]) ?_;refine (Tryz.catch_idle5 ⟨w.heap.size,0,none⟩ _).mono ?_;rintro e u' w'' ⟨rfl,rfl,rfl⟩;simp[Leaves,settle,results,Tryz.results58,go_sem,k3,k4];exact⟨_,_,hr,_,_,⟨rfl,rfl⟩,rfl,Or.inl ⟨⟨_,rfl⟩,rfl,rfl⟩⟩
 ·obtain⟨k1,k2,k3,k4⟩:=K y0 y1;refine leaves_cons (f:=110) (args:=#[.pointer (some ⟨w.heap.size,0,none⟩)]) (by simp) (by simp[go_sem]) ?_;refine (Tryz.catch_panicking5 ⟨w.heap.size,0,none⟩ y0 y1 [] _ (wa:=w2.setCell ⟨w.heap.size,0,none⟩ y0) (w1:=(w2.setCell ⟨w.heap.size,0,none⟩ y0).setCell ⟨w.heap.size,1,none⟩ y1) ?_ ?_).mono ?_
  ·rw[run_store _ _ _ _ _ o0];simp[c0,f0]
  ·rw[run_store _ _ _ _ _ o1];simp[k1,k2]
  rintro e u' w'' ⟨rfl,rfl,rfl⟩;simp[Leaves,settle,results,Tryz.results58,go_sem,k3,k4];exact⟨_,_,hr,_,_,⟨rfl,rfl⟩,rfl,Or.inr rfl⟩
end Go.Proofs
namespace Go.Gm
open Go.Proofs Go.RowKit
theorem Sim.aside5 {E:Env}{H:Aa}{w w':World}(hs:Sim E H w){b:Nat}(h1:¬MA E H b)(h2:∀o,E.I b o=none)(hh:∀x,x≠b->w'.heap[x]? = w.heap[x]?):Sim E H w':=by
 have ne:∀id b',loc E H id=some b'->b'≠b:=λid b' hl e=>h1 ⟨id,e ▸ hl⟩;constructor
 ·intro id B hB;refine ((hs.blk id B hB).keep (.refl E) (λb' hl=>hh b' (ne id b' ?_)) (λ_ _=>rfl)).1;unfold loc;rw[hB];exact hl
 ·exact hs.dom
 ·exact hs.domk
 ·exact hs.late
 ·exact hs.inj
 ·intro b' o v hv;have hne:b'≠b:=λe=>by rw[e,h2 o]at hv;cases hv
  have:=hs.imm b' o v hv;simp only[World.cell?]at this ⊢;rw[hh b' hne];exact this
 ·intro b' cs hf;obtain⟨⟨t,fr,k1⟩,⟨v,k2⟩,k3⟩:=hs.fix b' cs hf;have hne:b'≠b:=λe=>by rw[e,h2 0]at k2;cases k2
  exact⟨⟨t,fr,by rw[hh b' hne];exact k1⟩,⟨v,k2⟩,k3⟩
theorem Tw {orc:Orc}(ho:Gu Tryz.prog Gs orc):AG Tryz.prog Gs 58 (ap1 (OD orc)):=by
 intro args H res H' h;unfold ap1 at h;split at h
 case h_2=>cases h
 rename_i job;unfold OD at h;split at h
 case h_2=>cases h
 rename_i caps;cases hr:orc 59 caps H with
 | none=>rw[hr]at h;cases h
 | some r=>
  obtain⟨r,H1⟩:=r;rw[hr]at h;cases hc:Rb r with
  | none=>simp[hc]at h
  | some x=>
   have hx:Res.ret x=res/\H1=H':=by simpa[hc]using h
   obtain⟨rfl,rfl⟩:=hx;intro E w vs hG hs hv;obtain⟨v,rfl,h1⟩:=args1 hv;cases h1 with
   | bfn hn hcv=>
    rename_i cv;obtain⟨s1,st1⟩:=hs.laid (.cells #[.i6 0,.string ⟨#[]⟩] 107);have hcs:A9 E caps cv.toList:=⟨by simpa using hn,λi c u hi hu=>hcv i c u hi (by simpa using hu)⟩;obtain⟨b1,b2,b3⟩:=FO (show fnB 0 Tryz.f59=true by kernel_rfl);obtain⟨d1,d2,d3⟩:=FO (show fnB 0 Tryz.f58=true by kernel_rfl);have f59:Tryz.prog.funcs[59]? = some Tryz.f59:=Tryz.func59;have f58:Tryz.prog.funcs[58]? = some Tryz.f58:=Tryz.func58;have nb:¬MA E H w.heap.size:=hs.free_new;have lt:w.heap.size<(w.alloc (.cells #[.i6 0,.string ⟨#[]⟩] 107)).heap.size:=by simp[World.alloc,-World.alloc_eq]
    rcases ho 59 caps H r H1 hr E _ cv hG s1 hcs with ⟨_,hj⟩ | ⟨v,w',h1,_⟩
    ·refine .inl ⟨F2 f58 d1 d2 _ w,?_⟩;have hj':=Tryz.caught_in5 59 cv w (λa w=>F2 f59 b1 b2 a w) hj ?_
     ·refine hj'.mono ?_;rintro e w' ⟨e2,w2,⟨E',k1,k2,k3⟩,c0,c1,rfl,rfl,hcase⟩;have no:¬MA E' H1 w.heap.size:=λho=>(k3.own _ ho).elim nb (λh=>by omega);have ni:∀o,E'.I w.heap.size o=none:=λo=>by rw[k3.imm _ o lt nb];exact hs.imm_new o
      have hh:∀b,b≠w.heap.size->((w2.setCell ⟨w.heap.size,0,none⟩ c0).setCell ⟨w.heap.size,1,none⟩ c1).heap[b]? = w2.heap[b]? := λb hb=>by
       simp[World.setCell,Wo,Ne.symm hb]
      have st2:=st1.trans k3;refine⟨E',?_,k2.aside5 no ni hh,st2.le,st2.os,st2.tape,st2.output,?_,λb hb ho=>?_,st2.own,st2.imm⟩
      ·rcases hcase with ⟨v,rfl,rfl,rfl⟩ | rfl
       ·cases r with
        | ret y=>cases hc;exact A2.agg rfl (by intro i c v hi hv;match i with
          | 0=>simp at hi hv;subst hi;subst hv;exact .int _ _
          | 1=>simp at hi hv;subst hi;subst hv;exact .str []
          | _+2=>simp at hi)
        | pan y=>exact absurd k1 id
       ·cases r with
        | ret y=>exact absurd k1 id
        | pan y=>
         obtain⟨v,hv1,hv2⟩:=k1;cases hv1;unfold Rb at hc;split at hc
         ·rename_i heq;cases heq
         ·rename_i heq;cases heq;cases hc;cases hv2 with
          | iface h=>exact h
         ·cases hc
      ·simpa[World.setCell]using st2.size
      ·rw[hh b (by omega)];exact st2.frame b hb ho
     ·rintro e w2 ⟨E',k1,k2,k3⟩;refine⟨⟨107,_,_,by rw[k3.frame _ lt nb];exact World.heap_new w _⟩,?_⟩;cases r with
      | ret y=>cases e with
       | returned v=>exact .inl ⟨v,rfl⟩
       | _=>exact absurd k1 id
      | pan y=>cases e with
       | panicked ch=>
        obtain⟨v,rfl,hv2⟩:=k1;unfold Rb at hc;split at hc
        ·rename_i heq;cases heq
        ·rename_i heq;cases heq;cases hv2 with
         | iface h=>cases h with
          | agg hn hv => 
           rename_i n s vs;obtain⟨l⟩:=vs
           match l,hn,hv with
           | [a,b],hn,hv=>
            have h0:=hv 0 _ a rfl rfl;have h1:=hv 1 _ b rfl rfl;cases h0;cases h1;exact .inr ⟨_,_,rfl,rfl,rfl⟩
        ·cases hc
       | _=>exact absurd k1 id
    ·rw[F2 f59 b1 b2]at h1;cases h1
open Go.Proofs
set_option maxRecDepth 100000
theorem L0:AG Tryz.prog Gs 16 (ap0 Sh.fx):=mk0 .pure (Ar _ _) [] Tryz.func16
theorem Q2:AG Tryz.prog Gs 77 (ap2 Sh.f3t):=mk2 .keep (Ar _ _) [] Tryz.func77
theorem OE:AG Tryz.prog Gs 36 (ap1 Sh.f3u):=mk1 .pure ((Ag Q2 (Ar _ _))) [] Tryz.func36
theorem PJ:AG Tryz.prog Gs 134 (ap2 Sh.f3v):=mk2 .keep (Ar _ _) [[0,1,5,12,13],[]] Tryz.func134
theorem Cr:AG Tryz.prog Gs 113 (ap1 Sh.fp):=mk1 .keep (Ar _ _) [[]] Tryz.func113
theorem C0:AG Tryz.prog Gs 117 (ap2 Sh.f5):=mk2 .keep ((Ag Cr (Ar _ _))) [[1000000]] Tryz.func117
theorem GU:AG Tryz.prog Gs 111 (ap3 Sh.fd):=mk3 .keep ((Ag PJ ((Ag C0 (Ar _ _))))) [[]] Tryz.func111
theorem C1:AG Tryz.prog Gs 114 (ap2 Sh.f4):=mk2 .keep ((Ag Cr ((Ag KD (Ar _ _))))) [[]] Tryz.func114
theorem Mg:AG Tryz.prog Gs 112 (ap2 Sh.f1p):=mk2 .keep ((Ag Cr ((Ag C1 ((Ag C0 (Ar _ _))))))) [[1000003,0,1],[1000006,0]] Tryz.func112
theorem Mh:AG Tryz.prog Gs 178 (ap1 Sh.f3w):=mk1 .keep ((Ag Cr ((Ag C1 (Ar _ _))))) [[0]] Tryz.func178
theorem SF:AG Tryz.prog Gs 194 (ap1 Sh.f3x):=mk1 .keep (Ar _ _) [] Tryz.func194
theorem Lu:AG Tryz.prog Gs 179 (ap2 Sh.f1q):=mk2 .keep ((Ag Cr ((Ag SF ((Ag C0 (Ar _ _))))))) [[0,1,5],[],[1000006,0,5],[]] Tryz.func179
theorem GF:AG Tryz.prog Gs 181 (ap1 Sh.f2c):=mk1 .keep (Ar _ _) [] Tryz.func181
theorem IM:AG Tryz.prog Gs 232 (ap2 Sh.f3y):=mk2 .keep (Ar _ _) [] Tryz.func232
theorem IP:AG Tryz.prog Gs 233 (ap2 Sh.f7a):=mk2 .keep ((Ag IM (Ar _ _))) [] Tryz.func233
theorem KE:AG Tryz.prog Gs 224 (ap2 Sh.f3z):=mk2 .keep ((Ag IP (Ar _ _))) [] Tryz.func224
theorem Q8:AG Tryz.prog Gs 225 (ap2 Sh.f40):=mk2 .keep ((Ag KC (Ar _ _))) [] Tryz.func225
theorem Tq:AG Tryz.prog Gs 226 (ap3 Sh.f41):=mk3 .pureN ((Ag DN (Ar _ _))) [[0,1,7,8,17,18,19]] Tryz.func226
theorem SI:AG Tryz.prog Gs 196 (ap1 Sh.f43):=mk1 .pureN ((Ag KE ((Ag Tq ((Ag Q8 (Ar _ _))))))) [[1000003,2,4,5,14],[2,5,6,36]] Tryz.func196
theorem JP:AG Tryz.prog Gs 180 (ap3 Sh.f1b):=mk3 .keepN ((Ag C1 ((Ag C0 ((Ag GF ((Ag SI (Ar _ _))))))))) [[1000002,0,2,6,7],[0,2,6,7,8],[1000013,0,2,6,7,8],[1000018,0,6,7],[0,1,2,3,4,5,6,7,8,9,10,11,12,14,15,13,16]] Tryz.func180
theorem KF:AG Tryz.prog Gs 115 (ap1 Sh.f47):=mk1 .keep ((Ag C1 ((Ag Mh ((Ag GU ((Ag Lu ((Ag JP ((Ag C0 (Ar _ _))))))))))))) [[9,0,1,2,3,5,6,4,7,8],[9,0,1,2,3,5,6,4,7,8]] Tryz.func115
theorem Dt:AG Tryz.prog Gs 206 (ap1 Sh.f2e):=mv1 .keep (Ar _ _) [] Tryz.func206
theorem SH:AG Tryz.prog Gs 200 (ap1 Sh.f48):=mk1 .pureN ((Ag Dt ((Ag DN (Ar _ _))))) [] Tryz.func200
theorem FZ:AG Tryz.prog Gs 153 (ap2 Sh.fe):=mk2 .pureN (Ar _ _) [] Tryz.func153
theorem Qq:AG Tryz.prog Gs 151 (ap1 Sh.f1c):=mk1 .pureN ((Ag SH ((Ag FZ (Ar _ _))))) [[1000002,0,2,3]] Tryz.func151
open Go.Proofs
set_option maxRecDepth 100000
theorem Mf:AG Tryz.prog Gs 204 (ap3 Sh.f49):=mk3 .keep (Ar _ _) [] Tryz.func204
theorem Tu:AG Tryz.prog Gs 155 (ap2 Sh.f4b):=mk2 .pureN ((Ag Mf ((Ag DN (Ar _ _))))) [[1000001,0,1],[0,1,5,6,21,22,23],[1000014,0,1,5,6,7,8,9,21,22,23]] Tryz.func155
theorem Md:AG Tryz.prog Gs 207 (ap3 Sh.f2f):=mk3 .keep (Ar _ _) [] Tryz.func207
theorem To:AG Tryz.prog Gs 157 (ap2 Sh.f4c):=mk2 .pureN ((Ag Jv ((Ag Dt ((Ag Md ((Ag DN (Ar _ _))))))))) [[1,6,7,17,18],[1000015,1,6,7,8,9,17,18]] Tryz.func157
theorem KT:AG Tryz.prog Gs 89 (ap2 Sh.fy):=mk2 .pureN ((Ag Tu ((Ag FZ ((Ag To ((Ag Jv (Ar _ _))))))))) [[2,3,4,5,6,0,1,7,8],[1000005,2,3,4]] Tryz.func89
theorem Ls:AG Tryz.prog Gs 116 (ap1 Sh.f8h):=mk1 .keep ((Ag C1 ((Ag Qq ((Ag KT ((Ag GF (Ar _ _))))))))) [[0,2],[1000006,0,2],[1000009,0,2],[],[10,11,5,6,7,8,9,12,18,19,20,21,22,13,14,15,16,17,23,1,2,3,4,24,25,26,0,27,28,29]] Tryz.func116
theorem Lt:AG Tryz.prog Gs 59 (ap1 Sh.f1r):=mk1 .keep ((Ag GU ((Ag Mg ((Ag Cr ((Ag C1 ((Ag KF ((Ag Ls ((Ag C0 (Ar _ _))))))))))))))) [[0],[1000005,0]] Tryz.func59
theorem Jj:AG Tryz.prog Gs 58 (ap1 Sh.f2i):=Tw ((Ag Lt (Ar _ _)))
theorem Jk:AG Tryz.prog Gs 148 (ap1 Sh.f2j):=mk1 .pure (Ar _ _) [] Tryz.func148
theorem SJ:AG Tryz.prog Gs 85 (ap1 Sh.f2k):=mk1 .pure ((Ag Lf (Ar _ _))) [] Tryz.func85
theorem QB:AG Tryz.prog Gs 84 (ap1 Sh.f4g):=mk1 .pure ((Ag SJ (Ar _ _))) [] Tryz.func84
noncomputable def E9:Orc:=AH
theorem E6:T2 Tryz.prog Gs false E9 Tryz.f139 (.tw .lf (.tw (.tw .lf (.one (.loop [0,1,7,8] (.tw .lf (.tw (.tw .lf .lf) (.tw (.one (.tw .lf (.tw .lf (.tw (.tw .lf .lf) .lf)))) .lf)))))) (.tw .lf .lf))) .keep Sh.ff:=by unfold T2;intros;kernel_rfl
theorem CJ:AG Tryz.prog Gs 139 (ap2 Sh.ff):=P6 mixed ((Ag Jk ((Ag QB (Ar _ _))))) Tryz.func139 (by kernel_rfl) E6
theorem DR:AG Tryz.prog Gs 83 (ap2 Sh.f4h):=mk2 .keep ((Ag CJ (Ar _ _))) [] Tryz.func83
theorem Fo:AG Tryz.prog Gs 141 (ap1 Sh.f4i):=mv1 .keep (Ar _ _) [] Tryz.func141
theorem EJ:AG Tryz.prog Gs 142 (ap1 Sh.f1s):=mk1 .keep (Ar _ _) [[0,2,3],[0,1,4,5,6,7,8,9,10,11,12,13,2,3,14,15]] Tryz.func142
theorem call_big_Cmp:AG Tryz.prog Gs 199 (ap2 Sh.f2m):=mk2 .pure ((Ag Jv (Ar _ _))) [] Tryz.func199
theorem PM:AG Tryz.prog Gs 198 (ap1 Sh.f4j):=mk1 .keep (Ar _ _) [[3,6,7,8]] Tryz.func198
theorem Hr:AG Tryz.prog Gs 144 (ap2 Sh.f1t):=mk2 .pure ((Ag call_big_Cmp ((Ag PM (Ar _ _))))) [[]] Tryz.func144
noncomputable def E8:Orc:=AD
theorem E5:T4 Tryz.prog Gs false E8 Tryz.f227 (.tw .lf (.one (.loop [0,1,2,3,8] (.tw (.tw .lf (.tw .lf .lf)) (.tw (.one (.tw .lf (.one (.loop [0,1,2,3,8,9] (.tw (.tw (.reg [0,1,2,3,4,5,6,7,8,9,10,11,12,13,14,15,16]) (.tw .lf .lf)) (.tw (.one (.reg [0,1,5,6,7,8,9,10,11,12,13,14,15,2,3,4,16,17])) .lf)))))) .lf))))) .keep Sh.fr:=by unfold T4;intros;kernel_rfl
theorem Ey:AG Tryz.prog Gs 227 (ap4 Sh.fr):=fn_ok4 mixed ((Ag Hr (Ar _ _))) Tryz.func227 (by kernel_rfl) E5
theorem Fl:AG Tryz.prog Gs 240 (ap5 Sh.f1u):=mk5 .keep (Ar _ _) [[0,1,2,3,10],[0,1,2,3,8,9,10,11,12,13,14,15,16,17,18,19,20,21,4,5,6,7,22,23]] Tryz.func240
theorem FR:AG Tryz.prog Gs 236 (ap5 Sh.f2n):=mk5 .keep ((Ag Fl (Ar _ _))) [[0,2,4,10,11]] Tryz.func236
noncomputable def F8 (m:Nat):Orc:=Bc (Sh.f3 m)
theorem F6 (m:Nat):T5 Tryz.prog Gs false (F8 m) Tryz.f228 (.tw (.tw .lf (.tw (.tw .lf (.tw .lf (.tw (.one (.loop [0,1,4,10,11] (.tw (.tw .lf (.tw .lf .lf)) (.one (.tw .lf (.tw (.reg [0,1,2,3,4,5,6,7,8,9,10]) (.tw .lf .lf))))))) (.tw (.tw .lf (.one (.loop [0,10,13] (.tw (.tw .lf (.tw .lf .lf)) (.tw (.one (.reg [0,1,5,6,7,8,9,10,11,12,13,14,15,2,3,4,16,17])) .lf))))) .lf)))) .lf)) (.tw (.tw .lf (.tw (.tw .lf (.tw .lf (.tw (.one (.loop [0,2,4,14,15] (.tw (.tw .lf (.tw .lf .lf)) (.one (.tw .lf (.tw (.reg [0,1,2,3,4,5,6,7,8,9,10,11]) (.tw .lf .lf))))))) (.tw (.tw .lf (.one (.loop [0,14,17] (.tw (.tw .lf (.tw .lf .lf)) (.tw (.one (.reg [0,1,5,6,7,8,9,10,11,12,13,14,15,2,3,4,16,17])) .lf))))) .lf)))) .lf)) (.tw .lf (.tw .lf (.tw .lf (.join [0,1,2,3,4,18,19,20,21] (.tw .lf (.tw (.tw .lf .lf) (.tw .lf .lf))) (.tw .lf (.tw (.one (.loop [0,1,2,3,4,18,19,20,21,22] (.tw (.tw .lf (.tw .lf .lf)) (.one (.tw .lf (.tw (.reg [0,1,2,3,4,5,6,7,8,9,10,11,12,13]) (.tw .lf .lf))))))) (.tw .lf (.join [0,1,3,4,18,20,24] (.tw .lf (.tw .lf .lf)) (.join [0,3,4,18,24] (.tw .lf (.tw .lf .lf)) (.tw .lf (.tw .lf .lf))))))))))))) .keep (Sh.f3 (m+1)):=by unfold T5;intros;kernel_rfl
theorem Db:∀m,AG Tryz.prog Gs 228 (ap5 (Sh.f3 m))
 | 0=>NZ λ_ _ _ _ _ _=>rfl
 | m+1=>Sv mixed (Ag (Db m) ((Ag Hr ((Ag FR (Ar _ _)))))) Tryz.func228 (by kernel_rfl) (F6 m)
theorem FQ:AG Tryz.prog Gs 197 (ap3 Sh.f20):=mk3 .keep ((Ag Ey ((Ag (Db AM) (Ar _ _))))) [[0,1,2,6,7,8],[0,1,2,6],[0,1,2,6,7,8],[1000019,0,1,2,6]] Tryz.func197
theorem DH:AG Tryz.prog Gs 143 (ap2 Sh.f21):=mk2 .keep ((Ag FQ (Ar _ _))) [] Tryz.func143
theorem OG:AG Tryz.prog Gs 146 (ap2 Sh.f4p):=mk2 .pure ((Ag Hr (Ar _ _))) [] Tryz.func146
open Go.Proofs
set_option maxRecDepth 100000
noncomputable def Eg:Orc:=AJ
theorem Ee:T2 Tryz.prog Gs false Eg Tryz.f145 (.tw .lf (.tw (.tw .lf (.tw (.tw .lf .lf) .lf)) (.tw (.tw .lf (.one (.loop [0,1,5] (.tw (.tw .lf (.tw .lf .lf)) (.tw (.one (.tw (.reg [0,1,2,3,4,5,6,7,8,9,10]) (.tw (.tw .lf (.tw (.tw .lf (.one (.loop [0,1,5,6,7] (.tw (.tw .lf (.tw .lf .lf)) (.join [0,1,5,6,7] (.one (.tw (.reg [0,1,2,3,4,5,6,7,8,9,10,11]) (.tw (.tw .lf .lf) .lf))) .lf))))) (.tw .lf (.tw .lf .lf)))) .lf))) .lf))))) (.tw .lf .lf)))) .keepN Sh.f1e:=by unfold T2;intros;kernel_rfl
theorem Ea:AG Tryz.prog Gs 145 (ap2 Sh.f1e):=P6 mixed ((Ag OG (Ar _ _))) Tryz.func145 (by kernel_rfl) Ee
noncomputable def En:Orc:=AY
theorem Ek:T2 Tryz.prog Gs false En Tryz.f147 (.tw .lf (.tw .lf (.tw (.tw .lf (.tw (.tw .lf .lf) .lf)) (.tw (.tw .lf (.one (.loop [0,1,5,6] (.tw (.tw .lf (.tw .lf .lf)) (.join [0,1,5,6] (.one (.tw .lf (.tw .lf (.tw (.tw .lf .lf) .lf)))) .lf))))) (.tw .lf (.tw .lf .lf)))))) .keepN Sh.f1f:=by unfold T2;intros;kernel_rfl
theorem Eh:AG Tryz.prog Gs 147 (ap2 Sh.f1f):=P6 mixed ((Ag CJ ((Ag Jk (Ar _ _))))) Tryz.func147 (by kernel_rfl) Ek
theorem QA:AG Tryz.prog Gs 86 (ap1 Sh.f4q):=mk1 .pureN ((Ag Fo ((Ag EJ ((Ag DH ((Ag Ea ((Ag Eh (Ar _ _))))))))))) [] Tryz.func86
theorem Mw:AG Tryz.prog Gs 150 (ap1 Sh.f2r):=mk1 .pureN ((Ag FZ (Ar _ _))) [] Tryz.func150
theorem call_big_Sub:AG Tryz.prog Gs 149 (ap2 Sh.f4r):=mk2 .pureN ((Ag Mw ((Ag KT (Ar _ _))))) [[1,2,0,3,4]] Tryz.func149
theorem Me:AG Tryz.prog Gs 202 (ap1 Sh.f4s):=mk1 .keep (Ar _ _) [[1000001,0,2],[1000005,0,2]] Tryz.func202
theorem Ts:AG Tryz.prog Gs 152 (ap1 Sh.f4t):=mk1 .keep ((Ag DN ((Ag Me (Ar _ _))))) [] Tryz.func152
theorem Q9:AG Tryz.prog Gs 87 (ap1 Sh.f2s):=mk1 .pure ((Ag Ts ((Ag Mw ((Ag Qq ((Ag call_big_Sub (Ar _ _))))))))) [[1000001,1]] Tryz.func87
theorem SG:AG Tryz.prog Gs 203 (ap1 Sh.f4u):=mk1 .keep (Ar _ _) [] Tryz.func203
theorem Tp:AG Tryz.prog Gs 154 (ap2 Sh.f4w):=mk2 .pureN ((Ag SG ((Ag DN (Ar _ _))))) [[1,5,19,20,21],[],[]] Tryz.func154
theorem call_big_Pow:AG Tryz.prog Gs 88 (ap1 Sh.f4x):=mk1 .pureN ((Ag Tp ((Ag FZ (Ar _ _))))) [] Tryz.func88
theorem Tt:AG Tryz.prog Gs 158 (ap2 Sh.f23):=mk2 .keep (Ar _ _) [] Tryz.func158
noncomputable def Lo (m:Nat):Orc:=ent 90 (ap3 (Sh.f24 m)) (ent 158 (ap2 Sh.f23) noO)
theorem Lj (m:Nat):T3 Tryz.prog Gs false (Lo m) Tryz.f90 (.tw .lf (.tw (.tw .lf (.tw (.tw .lf .lf) .lf)) (.tw .lf (.tw (.tw .lf (.one (.loop [0,1,7,17,18,19] (.tw .lf (.tw (.tw .lf .lf) (.tw (.one (.tw .lf (.tw .lf (.join [0,1,7,9,10,17,18,19] (.tw .lf (.tw .lf .lf)) (.join [0,1,7,9,10,17,18,19] (.tw .lf (.tw .lf .lf)) (.reg [1,2,3,4,5,6,0,7,8])))))) .lf)))))) (.tw .lf (.tw (.tw .lf (.one (.loop [0,1,11,48,49] (.tw .lf (.tw (.tw .lf .lf) (.tw (.one (.tw .lf (.one (.tw .lf (.tw .lf (.tw .lf (.tw .lf .lf))))))) .lf)))))) (.tw (.reg [1,2,3,4,5,6,7,0,8,9,10]) (.tw .lf .lf)))))))) .keep (Sh.f24 (m+1)):=by unfold T3;intros;kernel_rfl
theorem GK:∀m,AG Tryz.prog Gs 90 (ap3 (Sh.f24 m))
 | 0=>none_ok3 λ_ _ _ _=>rfl
 | m+1=>fn_ok3 mixed (Ag (GK m) ((Ag Tt (Ar _ _)))) Tryz.func90 (by kernel_rfl) (Lj m)
theorem Tn:AG Tryz.prog Gs 208 (ap3 Sh.f4y):=mk3 .pure (Ar _ _) [[]] Tryz.func208
theorem Q3:AG Tryz.prog Gs 159 (ap1 Sh.f2u):=mk1 .pure ((Ag Tn (Ar _ _))) [[0,7,8,9],[0,3,7,8,9,23,24]] Tryz.func159
theorem Fm:AG Tryz.prog Gs 209 (ap1 Sh.f50):=mk1 .keep (Ar _ _) [] Tryz.func209
theorem PK:AG Tryz.prog Gs 238 (ap3 Sh.f51):=mk3 .keep (Ar _ _) [] Tryz.func238
noncomputable def GQ:Orc:=CG
theorem GO:T2 Tryz.prog Gs false GQ Tryz.f241 (.tw .lf (.tw (.tw .lf (.one (.loop [0,1,7,8] (.tw .lf (.tw (.tw .lf .lf) (.tw (.one (.tw .lf (.tw .lf (.tw (.tw .lf .lf) .lf)))) .lf)))))) (.tw .lf .lf))) .keep Sh.f53:=by unfold T2;intros;kernel_rfl
theorem GE:AG Tryz.prog Gs 241 (ap2 Sh.f53):=P6 mixed ((Ag PK (Ar _ _))) Tryz.func241 (by kernel_rfl) GO
theorem FS:AG Tryz.prog Gs 237 (ap2 Sh.f54):=mk2 .keep ((Ag GE (Ar _ _))) [] Tryz.func237
theorem Mc:AG Tryz.prog Gs 230 (ap1 Sh.f2v):=mk1 .pureN ((Ag FS (Ar _ _))) [[3,10,11,12],[3,4,5,6,0,1,2,7,8]] Tryz.func230
theorem Q5:AG Tryz.prog Gs 210 (ap2 Sh.f55):=mk2 .keep ((Ag Mc (Ar _ _))) [] Tryz.func210
theorem PL:AG Tryz.prog Gs 211 (ap2 Sh.f58):=mk2 .keep ((Ag Mc (Ar _ _))) [[0,5,28,29],[0,5,6,7,28,29,40,41]] Tryz.func211
theorem PN:AG Tryz.prog Gs 212 (ap3 Sh.f59):=mk3 .keep (Ar _ _) [] Tryz.func212
theorem OH:AG Tryz.prog Gs 160 (ap2 Sh.f2w):=mk2 .pureN ((Ag Fm ((Ag Q5 ((Ag PL ((Ag PN (Ar _ _))))))))) [[0,1],[0,1,6,25]] Tryz.func160
theorem JW:AG Tryz.prog Gs 162 (ap2 Sh.f2x):=mk2 .keep (Ar _ _) [[],[1,2,3,4,5,6,7,0,8,9,10],[]] Tryz.func162
open Go.Proofs
set_option maxRecDepth 100000
noncomputable def RN (m:Nat):Orc:=HT (Sh.f9 m)
theorem Rg (m:Nat):T5 Tryz.prog Gs false (RN m) Tryz.f161 (.tw .lf (.tw (.tw .lf (.tw .lf (.tw (.tw .lf .lf) .lf))) (.tw .lf (.join [0,1,4,9] (.tw .lf (.tw (.tw .lf (.one (.loop [0,1,3,4,9,30,31] (.tw .lf (.tw (.tw .lf .lf) (.tw (.one (.tw .lf .lf)) .lf)))))) .lf)) (.tw .lf (.tw .lf (.tw .lf .lf))))))) .keep (Sh.f9 (m+1)):=by unfold T5;intros;kernel_rfl
theorem Lg:∀m,AG Tryz.prog Gs 161 (ap5 (Sh.f9 m))
 | 0=>NZ λ_ _ _ _ _ _=>rfl
 | m+1=>Sv mixed (Ag (Lg m) ((Ag JW (Ar _ _)))) Tryz.func161 (by kernel_rfl) (Rg m)
noncomputable def orc_canon_Of:Orc:=Js
theorem tie_canon_Of:T2 Tryz.prog Gs false orc_canon_Of Tryz.f91 (.tw .lf (.tw (.tw .lf (.tw (.tw .lf .lf) .lf)) (.tw .lf (.tw .lf (.tw .lf (.tw .lf (.tw .lf (.tw .lf (.tw .lf .lf))))))))) .pureN Sh.f2z:=by unfold T2;intros;kernel_rfl
theorem Tx:AG Tryz.prog Gs 91 (ap2 Sh.f2z):=P6 mixed ((Ag Q3 ((Ag OH ((Ag (Lg AM) (Ar _ _))))))) Tryz.func91 (by kernel_rfl) tie_canon_Of
theorem Tv:AG Tryz.prog Gs 39 (ap1 Sh.f31):=mk1 .pureN ((Ag DR ((Ag QA ((Ag Q9 ((Ag call_big_Pow ((Ag KT ((Ag (GK AM) ((Ag Tx (Ar _ _))))))))))))))) [[2,4,5,19,20,21],[1,2,3,4,5,6,0,7,8],[2,5,8,9,40,41,42],[1,2,3,4,6,7,8,9,0,5,10,11,12,13,14,15,16]] Tryz.func39
theorem Q6:AG Tryz.prog Gs 24 (ap2 Sh.fz):=mk2 .pureN ((Ag OE ((Ag Jj ((Ag Tv (Ar _ _))))))) [[0,8,1,2,3,4,5,6,7,9,10],[]] Tryz.func24
theorem JR:AG Tryz.prog Gs 104 (ap1 Sh.f5d):=mk1 .keep (Ar _ _) [] Tryz.func104
theorem GW:AG Tryz.prog Gs 93 (ap1 Sh.f32):=mk1 .keep (Ar _ _) [] Tryz.func93
theorem L6:AG Tryz.prog Gs 50 (ap1 Sh.f5e):=mk1 .keep ((Ag GW (Ar _ _))) [[0,3]] Tryz.func50
theorem GI:AG Tryz.prog Gs 167 (ap1 Sh.f33):=mk1 .keep (Ar _ _) [[0,3],[0,3,4],[]] Tryz.func167
theorem CV:AG Tryz.prog Gs 170 (ap1 Sh.f1i):=mk1 .pureN (Ar _ _) [[0,3,4],[0,3,4,5,6]] Tryz.func170
theorem Gt:AG Tryz.prog Gs 215 (ap2 Sh.f35):=mk2 .keep ((Ag CV (Ar _ _))) [[0,1,5,6],[0,1,5,6,7,8]] Tryz.func215
noncomputable def Na (m:Nat):Orc:=ent 218 (ap3 (Sh.fj m)) noO
theorem MZ (m:Nat):T3 Tryz.prog Gs false (Na m) Tryz.f218 (.tw .lf (.tw (.tw .lf (.one (.loop [0,1,2,7] (.tw (.tw .lf (.tw .lf .lf)) (.tw (.one (.tw .lf (.tw (.tw .lf .lf) .lf))) .lf))))) (.tw (.tw .lf (.one (.loop [0,1,2,8] (.tw (.tw .lf (.tw .lf .lf)) (.join [0,1,2,8] (.one (.tw .lf (.tw .lf .lf))) .lf))))) (.tw .lf .lf)))) .keep (Sh.fj (m+1)):=by unfold T3;intros;kernel_rfl
theorem HO:∀m,AG Tryz.prog Gs 218 (ap3 (Sh.fj m))
 | 0=>none_ok3 λ_ _ _ _=>rfl
 | m+1=>fn_ok3 mixed (Ag (HO m) (Ar _ _)) Tryz.func218 (by kernel_rfl) (MZ m)
theorem KL:AG Tryz.prog Gs 173 (ap1 Sh.f5p):=mk1 .pure ((Ag GI ((Ag Gt ((Ag CV ((Ag (HO AM) (Ar _ _))))))))) [[3,4,5],[3,4,5,6],[],[3,7,8]] Tryz.func173
theorem KH:AG Tryz.prog Gs 105 (ap1 Sh.f5q):=mk1 .pure ((Ag L6 ((Ag KL (Ar _ _))))) [] Tryz.func105
theorem GV:AG Tryz.prog Gs 28 (ap1 Sh.f26):=mk1 .pure (Ar _ _) [] Tryz.func28
theorem HP:AG Tryz.prog Gs 219 (ap1 Sh.f27):=mk1 .keepN (Ar _ _) [[0]] Tryz.func219
theorem CR:AG Tryz.prog Gs 176 (ap1 Sh.f6):=mk1 .pureN ((Ag HP (Ar _ _))) [[0,3,4],[0,3,4,5,6]] Tryz.func176
theorem DU:AG Tryz.prog Gs 175 (ap1 Sh.fs):=mk1 .pureN ((Ag HP (Ar _ _))) [[0,3,4],[0,3,4,5,6,7],[1000016,0,3,4,5,6,7]] Tryz.func175
theorem EL:AG Tryz.prog Gs 109 (ap1 Sh.f10):=mk1 .keepN ((Ag CR ((Ag DU (Ar _ _))))) [] Tryz.func109
theorem Dx:AG Tryz.prog Gs 119 (ap2 Sh.fg):=mk2 .pureN ((Ag EL (Ar _ _))) [] Tryz.func119
theorem DT:AG Tryz.prog Gs 64 (ap1 Sh.fk):=mk1 .pureN ((Ag Dx (Ar _ _))) [[1000002,0,2,3]] Tryz.func64
theorem Mr:AG Tryz.prog Gs 213 (ap2 Sh.f5t):=mk2 .pureN ((Ag CR ((Ag DU (Ar _ _))))) [[2,3,0,1,4,5,6]] Tryz.func213
theorem Mo:AG Tryz.prog Gs 166 (ap2 Sh.f5u):=mk2 .pureN ((Ag Mr ((Ag Dx (Ar _ _))))) [[2,3,4,5,0,1,6,7]] Tryz.func166
theorem BT:AG Tryz.prog Gs 98 (ap1 Sh.f7):=mk1 .pureN ((Ag DT ((Ag Mo (Ar _ _))))) [] Tryz.func98
theorem FD:AG Tryz.prog Gs 182 (ap2 Sh.f8):=mk2 .keep (Ar _ _) [] Tryz.func182
theorem Mv:AG Tryz.prog Gs 120 (ap2 Sh.f5v):=mk2 .pureN ((Ag CR ((Ag FD ((Ag DU (Ar _ _))))))) [[5,6,7,8,9],[1000011,5,6,7,8,9,10],[1000014,5,6,7,8,9,10],[1000017,5,6,7,9,10]] Tryz.func120
open Go.Proofs
set_option maxRecDepth 100000
theorem Mu:AG Tryz.prog Gs 183 (ap2 Sh.f5w):=mk2 .keep ((Ag CR ((Ag FD (Ar _ _))))) [[5,6,7]] Tryz.func183
theorem Mq:AG Tryz.prog Gs 121 (ap2 Sh.f38):=mk2 .pureN ((Ag Mu ((Ag CR ((Ag FD ((Ag DU (Ar _ _))))))))) [[6,7,8,9,10],[1000015,6,7,8,10,11],[1000018,6,7,8,10,11],[1000022,6,7,8,9,10,11]] Tryz.func121
theorem Cp:AG Tryz.prog Gs 63 (ap2 Sh.f0):=mk2 .pureN ((Ag Mv ((Ag Dx ((Ag Mq (Ar _ _))))))) [[2,3,4,5,6,0,1,7,8]] Tryz.func63
theorem Cs:AG Tryz.prog Gs 97 (ap1 Sh.fh):=mk1 .pureN ((Ag Dx (Ar _ _))) [] Tryz.func97
theorem Fp:AG Tryz.prog Gs 172 (ap2 Sh.fl):=mk2 .pureN ((Ag Cs ((Ag Cp (Ar _ _))))) [[1,2,0,3,4]] Tryz.func172
theorem Co:AG Tryz.prog Gs 103 (ap2 Sh.f1):=mk2 .pure ((Ag Fp (Ar _ _))) [] Tryz.func103
theorem KJ:AG Tryz.prog Gs 171 (ap3 Sh.f1k):=mk3 .pureN ((Ag BT ((Ag Co ((Ag Cp (Ar _ _))))))) [[0,4,5,7,8],[0,4,5,7,8,9,10,11],[1000014,0,4,5,7,8,9,10,11],[1000016,0,4,5,7,8,9,10,11,12,13],[],[1000024,0,4,5,7,8,9,10,11,15],[],[],[]] Tryz.func171
theorem GJ:AG Tryz.prog Gs 107 (ap1 Sh.f3a):=mk1 .pure (Ar _ _) [] Tryz.func107
theorem Ia:AG Tryz.prog Gs 102 (ap1 Sh.f1l):=mk1 .pureN ((Ag KJ ((Ag GJ ((Ag BT ((Ag Cs ((Ag Cp ((Ag Fp (Ar _ _))))))))))))) [[0,1,2,3,4,5,7,8,9,6,10,12,13,14,11,15,16,17,18]] Tryz.func102
theorem Gq:AG Tryz.prog Gs 51 (ap2 Sh.f3b):=mk2 .pure ((Ag Ia ((Ag DT ((Ag Co (Ar _ _))))))) [[2,3,0,1,4,5,6,9,10,7,8,11,12,13,14]] Tryz.func51
theorem L2:AG Tryz.prog Gs 52 (ap1 Sh.f3d):=mk1 .pure (Ar _ _) [[1,3,4],[1,3,4,5]] Tryz.func52
theorem Jw:AG Tryz.prog Gs 18 (ap3 Sh.f61):=mk3 .pure ((Ag Gq ((Ag L2 (Ar _ _))))) [] Tryz.func18
theorem KI:AG Tryz.prog Gs 53 (ap3 Sh.f62):=mk3 .pure ((Ag JR ((Ag KH ((Ag GV ((Ag Jw (Ar _ _))))))))) [] Tryz.func53
theorem Mp:AG Tryz.prog Gs 122 (ap1 Sh.f11):=mk1 .pure (Ar _ _) [[1,4,5]] Tryz.func122
theorem Nf:AG Tryz.prog Gs 184 (ap2 Sh.f3e):=mk2 .pure ((Ag BT ((Ag Cs ((Ag Co (Ar _ _))))))) [[1,2,0,3,4,5,6,7,8,9,10,11]] Tryz.func184
theorem Jy:AG Tryz.prog Gs 185 (ap3 Sh.f63):=mk3 .pureN ((Ag BT ((Ag Co ((Ag Fp (Ar _ _))))))) [[1000003,4,5,7,8,9,10],[1000006,4,5,7,8,10],[0,1,3,4,2,5]] Tryz.func185
theorem Mn:AG Tryz.prog Gs 123 (ap3 Sh.f64):=mk3 .pure ((Ag GJ ((Ag Nf ((Ag BT ((Ag Cp ((Ag Jy (Ar _ _))))))))))) [[],[3,4,5,9],[0,1,2,3,4,5,6,7,8,9,10,11,12,14,15,16,17,13,18],[0,1,3,4,2,5]] Tryz.func123
theorem Nc:AG Tryz.prog Gs 65 (ap2 Sh.f65):=mk2 .pureN ((Ag Gq ((Ag Ia ((Ag Mp ((Ag DT ((Ag Cp ((Ag Mn (Ar _ _))))))))))))) [[2,4,6,8,10,12,13],[2,4,6,8,10,12,13,14,15],[5,6,3,4,7,10,11,8,9,12,2,13,0,1,14,15]] Tryz.func65
theorem Mt:AG Tryz.prog Gs 56 (ap2 Sh.f66):=mk2 .pureN ((Ag EL (Ar _ _))) [[0,1,6,7,8],[0,1,2,3,4,5,6,11,12,7,8,9,10,13]] Tryz.func56
theorem L7:AG Tryz.prog Gs 22 (ap1 Sh.f3i):=mk1 .pure ((Ag Mt (Ar _ _))) [[1,3,4]] Tryz.func22
theorem Mm:AG Tryz.prog Gs 66 (ap2 Sh.f68):=mk2 .pure (Ar _ _) [[0,1,5,6,7],[1000008,0,1,5,6,7]] Tryz.func66
theorem KG:AG Tryz.prog Gs 26 (ap2 Sh.f12):=mk2 .pure ((Ag KI ((Ag Nc ((Ag Mm ((Ag L7 (Ar _ _))))))))) [[1000008,7,9],[2,3,4,7,8,9,0,1,5,6,10,11,12],[7,9,10],[1000018,7,9,10,11]] Tryz.func26
theorem Q7:AG Tryz.prog Gs 57 (ap1 Sh.f13):=mk1 .pure ((Ag Jj (Ar _ _))) [[]] Tryz.func57
theorem KV:AG Tryz.prog Gs 16 (ap0 Sl.gliderref11_Wide):=by rw[Sl.gliderref11_Wide_eq];exact L0
theorem JX:AG Tryz.prog Gs 24 (ap2 Sl.life5_Read):=by rw[Sl.life5_Read_eq];exact Q6
open Go.Proofs
set_option maxRecDepth 100000
theorem JY:AG Tryz.prog Gs 26 (ap2 Sl.gliderref12_Life5):=by rw[Sl.gliderref12_Life5_eq];exact KG
theorem PO:AG Tryz.prog Gs 57 (ap1 Sl.life5_Hint):=by rw[Sl.life5_Hint_eq];exact Q7
theorem KS:AG Tryz.prog Gs 23 (ap0 Sh.f14):=mk0 .pure ((Ag KV ((Ag JX ((Ag JY ((Ag PO (Ar _ _))))))))) [] Tryz.func23
theorem JU:AG Tryz.prog Gs 92 (ap2 Sh.f6b):=mk2 .keep (Ar _ _) [[0,1,5],[]] Tryz.func92
theorem BF:AG Tryz.prog Gs 42 (ap1 Sh.fa):=mk1 .pure (Ar _ _) [] Tryz.func42
theorem C2:AG Tryz.prog Gs 61 (ap1 Sh.fb):=mk1 .pure ((Ag BF (Ar _ _))) [] Tryz.func61
theorem HN:AG Tryz.prog Gs 41 (ap2 Sh.fm):=mk2 .pure ((Ag JU ((Ag C2 (Ar _ _))))) [] Tryz.func41
theorem Mk:AG Tryz.prog Gs 40 (ap1 Sh.ft):=mk1 .pure ((Ag BF ((Ag C2 (Ar _ _))))) [[1000005,1,2]] Tryz.func40
theorem EK:AG Tryz.prog Gs 43 (ap2 Sh.fn):=mk2 .pure ((Ag BF (Ar _ _))) [] Tryz.func43
theorem Ml:AG Tryz.prog Gs 118 (ap1 Sh.f6c):=mk1 .pure ((Ag BF (Ar _ _))) [[1,2]] Tryz.func118
theorem Lz:AG Tryz.prog Gs 44 (ap1 Sh.f1m):=mk1 .pure ((Ag BF ((Ag GW ((Ag C2 (Ar _ _))))))) [[1,2,4],[0,7,1,2,3,4,5,6,8]] Tryz.func44
theorem JV:AG Tryz.prog Gs 163 (ap2 Sh.f6e):=mk2 .keep (Ar _ _) [[0,1,5,6]] Tryz.func163
theorem Ms:AG Tryz.prog Gs 164 (ap3 Sh.f6f):=mk3 .pureN ((Ag EL (Ar _ _))) [[0,1,7,8,9]] Tryz.func164
theorem KP:AG Tryz.prog Gs 94 (ap1 Sh.f6g):=mk1 .pureN ((Ag JV ((Ag Ms ((Ag Cs (Ar _ _))))))) [[1000003,2,4,5],[2,4,5,6,7]] Tryz.func94
theorem Mj:AG Tryz.prog Gs 45 (ap2 Sh.f15):=mk2 .pureN ((Ag EK ((Ag BF ((Ag C2 ((Ag KP (Ar _ _))))))))) [[1000007,2,4,5,6,7],[2,4,5,6,7,8],[0,2,1,3]] Tryz.func45
theorem Lw:AG Tryz.prog Gs 60 (ap2 Sh.f16):=mk2 .pure ((Ag EK ((Ag Ml ((Ag HN ((Ag Lz ((Ag Mj ((Ag C2 (Ar _ _))))))))))))) [[0,1,3,2,4],[0,2,1,3],[0,2,1,3],[0,2,1,3],[0,1,3,2,4]] Tryz.func60
theorem Mi:AG Tryz.prog Gs 62 (ap4 Sh.f6i):=mk4 .pureN ((Ag BF (Ar _ _))) [[1,2,4,7,8,10,11],[1000008,1,2,4,7,8,10,11]] Tryz.func62
theorem JQ:AG Tryz.prog Gs 46 (ap4 Sh.f1n):=mk4 .pureN (Ar _ _) [[0,5,1,2,3,4,6,7],[0,4,1,2,3,5,6]] Tryz.func46
theorem KR:AG Tryz.prog Gs 55 (ap1 Sh.f6j):=mk1 .keep (Ar _ _) [] Tryz.func55
theorem KQ:AG Tryz.prog Gs 21 (ap1 Sh.f3l):=mk1 .pure ((Ag KR (Ar _ _))) [] Tryz.func21
theorem KK:AG Tryz.prog Gs 165 (ap2 Sh.f3m):=mk2 .pure ((Ag Co (Ar _ _))) [] Tryz.func165
theorem L3:AG Tryz.prog Gs 95 (ap1 Sh.f6o):=mk1 .pureN ((Ag KK (Ar _ _))) [[0,3,4],[0,3,4,5],[],[],[1000015,0,3,4,5,7],[],[3,8,9],[1000024,3,8,9]] Tryz.func95
theorem JS:AG Tryz.prog Gs 96 (ap2 Sh.f6p):=mk2 .pure ((Ag BT ((Ag Cs ((Ag Co (Ar _ _))))))) [] Tryz.func96
noncomputable def Lm (m:Nat):Orc:=ent 99 (ap5 (Sh.fo m)) (ent 98 (ap1 Sh.f7) (ent 103 (ap2 Sh.f1) (ent 63 (ap2 Sh.f0) noO)))
theorem Lh (m:Nat):T5 Tryz.prog Gs false (Lm m) Tryz.f99 (.tw .lf (.tw (.tw .lf (.tw (.tw .lf .lf) .lf)) (.tw .lf (.tw .lf (.tw (.tw .lf (.one (.loop [0,1,4,7,8,12,13,14] (.tw (.tw .lf (.tw .lf .lf)) (.join [0,1,4,7,8,12,13,14] (.one (.tw (.reg [0,2,3,4,1,5]) (.join [0,1,4,7,8,12,13,14,15,16] (.tw .lf (.tw .lf .lf)) (.join [0,1,4,7,8,12,13,14,15,16] (.tw .lf (.tw .lf .lf)) (.tw .lf (.tw (.tw .lf (.one (.loop [0,1,4,7,8,12,13,14,15,16,17,18] (.tw (.tw .lf (.tw .lf .lf)) (.join [0,1,4,7,8,12,13,14,15,16,17,18] (.one (.tw (.reg [0,1,2,3,4,5,6,7,8,14,15,16,9,10,11,12,13,17,18,19,20,21,22,23,24,25,26,27,28,29,30,36,37,38,31,32,33,34,35,39,40,41]) (.tw .lf .lf))) .lf))))) (.join [0,1,4,7,8,12,13,14,15,16,17] (.tw .lf (.tw .lf .lf)) (.tw .lf (.tw .lf .lf))))))))) .lf))))) (.tw .lf (.tw .lf .lf))))))) .keep (Sh.fo (m+1)):=by unfold T5;intros;kernel_rfl
theorem GG:∀m,AG Tryz.prog Gs 99 (ap5 (Sh.fo m))
 | 0=>NZ λ_ _ _ _ _ _=>rfl
 | m+1=>Sv mixed (Ag (GG m) ((Ag BT ((Ag Co ((Ag Cp (Ar _ _)))))))) Tryz.func99 (by kernel_rfl) (Lh m)
theorem KO:AG Tryz.prog Gs 214 (ap2 Sh.f6s):=mk2 .keep ((Ag CV (Ar _ _))) [] Tryz.func214
open Go.Proofs
set_option maxRecDepth 100000
theorem KN:AG Tryz.prog Gs 216 (ap3 Sh.f6t):=mk3 .keep (Ar _ _) [] Tryz.func216
theorem JT:AG Tryz.prog Gs 168 (ap2 Sh.f6v):=mk2 .pureN ((Ag KO ((Ag Gt ((Ag KN (Ar _ _))))))) [[1,6],[1,6,7,8]] Tryz.func168
theorem L4:AG Tryz.prog Gs 217 (ap2 Sh.f3p):=mk2 .pure (Ar _ _) [[0,3,5],[]] Tryz.func217
noncomputable def Ln (m:Nat):Orc:=ent 169 (ap5 (Sh.fu m)) (ent 217 (ap2 Sh.f3p) noO)
theorem Li (m:Nat):T5 Tryz.prog Gs false (Ln m) Tryz.f169 (.tw .lf (.tw (.tw .lf (.tw (.tw .lf .lf) .lf)) (.tw (.tw .lf (.tw (.tw (.reg [0,1,2,3,4,5,6,7,8]) .lf) .lf)) (.tw .lf (.tw (.tw .lf (.one (.loop [0,1,2,3,4,13,14] (.tw (.tw .lf (.tw .lf .lf)) (.tw (.one .lf) .lf))))) (.tw .lf (.join [2,3,4,15] (.tw .lf (.tw (.tw .lf .lf) .lf)) (.tw .lf (.tw .lf .lf))))))))) .keep (Sh.fu (m+1)):=by unfold T5;intros;kernel_rfl
theorem GH:∀m,AG Tryz.prog Gs 169 (ap5 (Sh.fu m))
 | 0=>NZ λ_ _ _ _ _ _=>rfl
 | m+1=>Sv mixed (Ag (GH m) ((Ag L4 (Ar _ _)))) Tryz.func169 (by kernel_rfl) (Li m)
theorem Nh:AG Tryz.prog Gs 100 (ap2 Sh.f6y):=mk2 .pureN ((Ag GI ((Ag JT ((Ag CV ((Ag (GH AM) (Ar _ _))))))))) [[1,2,0,3,4,5,6,7,8,9,10,11,12,13,14,15]] Tryz.func100
theorem Ng:AG Tryz.prog Gs 47 (ap1 Sh.f3r):=mk1 .pureN ((Ag KQ ((Ag L3 ((Ag JS ((Ag BT ((Ag Cs ((Ag (GG AM) ((Ag Nh (Ar _ _))))))))))))))) [[0,2,4],[2,5,6,7],[2,5,6,7]] Tryz.func47
theorem Ly:AG Tryz.prog Gs 25 (ap2 Sh.f18):=mk2 .pureN ((Ag GV ((Ag HN ((Ag Mk ((Ag BF ((Ag EK ((Ag Lw ((Ag C2 ((Ag Mi ((Ag DT ((Ag Cp ((Ag JQ ((Ag Ng (Ar _ _))))))))))))))))))))))))) [[3,4,7,8],[3,4,7,8,9,10,11],[4,5,6,7,8,2,3,9,12,13,14,10,11,15,0,1,16,17,18,19,20],[0,1,5,2,3,4,6,7]] Tryz.func25
theorem KM:AG Tryz.prog Gs 101 (ap2 Sh.f72):=mk2 .keep (Ar _ _) [[0,1,5],[]] Tryz.func101
theorem L5:AG Tryz.prog Gs 48 (ap2 Sh.f73):=mk2 .pure ((Ag KM (Ar _ _))) [] Tryz.func48
theorem L1:AG Tryz.prog Gs 15 (ap2 Sh.f19):=mk2 .pure ((Ag L5 (Ar _ _))) [] Tryz.func15
theorem JZ:AG Tryz.prog Gs 23 (ap0 Sl.gliderlaw16_alive):=by rw[Sl.gliderlaw16_alive_eq];exact KS
theorem KU:AG Tryz.prog Gs 25 (ap2 Sl.gliderref16_Read):=by rw[Sl.gliderref16_Read_eq];exact Ly
theorem KW:AG Tryz.prog Gs 15 (ap2 Sl.gliderref11_Same):=by rw[Sl.gliderref11_Same_eq];exact L1
theorem Io:AG Tryz.prog Gs 6 (ap2 Sh.f8d):=mk2 .pure ((Ag JZ ((Ag JX ((Ag KU ((Ag KW (Ar _ _))))))))) [] Tryz.func6
theorem q05_nodes (A B:List Nd)(t t':Tok)(H:Aa)(hA:A.length<1000000000000):Sh.f72 (.sl (enL cNd A) t) (.sl (enL cNd B) t') H=some (.ret (.bool (decide (A=B))),H):=by
 unfold Sh.f72;simp only[GMw,Ay];by_cases hl:A.length=B.length
 ·have hd:decide ((A.length:Int)=(B.length:Int))=true:=zXc (by omega);simp only[GMw,hd];have key:=AZ (G:=λrec1 vs H1=>Sh.f8c H rec1 (ag vs 0) (ag vs 1) (ag vs 2) H1) (σ:=Nat) (λi=>i<=A.length)
   (λi=>[.sl (enL cNd A) t,.sl (enL cNd B) t',.i6 (i:Int)]) (λ_=>H) (λi=>A.length-i) (λi=>some (.ret (.bool (decide (A.drop i=B.drop i))),H)) (λi rec hi hrec=>?_) 0 (Ve _) (by omega)
  ·simpa using key
  ·unfold Sh.f8c;by_cases h:i<A.length
   ·have h':i<B.length:=by omega
    have hlt:(i:Int)<(A.length:Int):=by omega
    have hw:=As (show i<9223372036854775807 by omega);have:=hrec (i+1) h (by omega);rw[Vh h,Vh h'];simp only[GMw,Ai,Ay,hlt,A4 h,A4 h',Je,neq_nd,hw];by_cases he:A[i]=B[i]
    ·simp only[he,GMw,List.cons.injEq,true_and];exact this
    ·simp only[he,GMw,List.cons.injEq,false_and]
   ·have hlt:¬(i:Int)<(A.length:Int):=by omega
    rw[VY (by omega),VY (by omega)];simp only[GMw,Ai,Ay,hlt]
 ·have hd:decide ((A.length:Int)=(B.length:Int))=false:=zXd (by omega);have hne:decide (A=B)=false:=zXd λh=>hl (by rw[h]);simp only[GMw,hd,hne]
theorem q05_same (A B:List Nd)(H:Aa)(hA:A.length<1000000000000):Sh.f73 (.agg [.sl (enL cNd A) .no]) (.agg [.sl (enL cNd B) .no]) H=some (.ret (.bool (decide (A=B))),H):=by
 unfold Sh.f73;simp only[GMw,HPw,Nat.reduceAdd,Nat.reduceLT,q05_nodes A B .no .no _ hA]
theorem q11_same (r r':List UInt8)(A B:List Nd)(H:Aa)(hA:A.length<1000000000000):Sh.f19 (pat r A) (pat r' B) H=some (.ret (.bool (decide (r=r')&&decide (A=B))),H):=by
 unfold Sh.f19 pat Gv;have hq:Bv A=[.sl (enL cNd A) .no]:=rfl;have Ys:Bv B=[.sl (enL cNd B) .no]:=rfl;have hl:∀(c d:Ab) (G:Aa),Ad true 1 (.ptr 0 0 1) (.cel 0 [c,d]::G)=some (.agg [d]):=λc d G=>by
  simp only[Ad,JG];rfl
 by_cases hr:r=r'
 ·have hd:(r == r')=true:=by simp[hr]
  have bQ:decide (r=r')=true:=zXc hr;simp only[GMw,HPw,Nat.reduceAdd,Nat.reduceLT,Kd,hd,bQ,hl,q05_same A B _ hA]
 ·have hd:(r == r')=false:=by simp[hr]
  have bQ:decide (r=r')=false:=zXd hr;simp only[GMw,HPw,Nat.reduceAdd,Nat.reduceLT,Kd,hd,bQ]
def Lx (H:Aa)(p:Nat)(b:List UInt8)(a:Nat)(r:List Ab):Prop:=H[p]? = some (.cel 0 (.str b::.i6 (a:Int)::r))
theorem lx_b {H:Aa}{p a:Nat}{b:List UInt8}{r:List Ab}(h:Lx H p b a r):Ad false 1 (.ptr p 0 0) H=some (.str b):=by
 simp only[Ad,A1 h,Option.bind];rfl
theorem HF {H:Aa}{p a:Nat}{b:List UInt8}{r:List Ab}(h:Lx H p b a r):Ad false 1 (.ptr p 0 1) H=some (.i6 (a:Int)):=by
 simp only[Ad,A1 h,Option.bind];rfl
theorem JD {H:Aa}{p a:Nat}{b:List UInt8}{r:List Ab}(h:Lx H p b a r):Sh.fp (.ptr p 0 0) H=some (.ret (.bool (decide (a=b.length))),H):=by
 unfold Sh.fp;simp only[GMw,Aj,Ah,UJ,lx_b h,HF h];by_cases e:a=b.length
 ·have e':(a:Int)=(b.length:Int):=by omega
  simp[e,e']
 ·have e':¬(a:Int)=(b.length:Int):=by omega
  simp[e,e']
def Sq (e:Int)(s:List UInt8):Ab:=.iface Ht (.agg [.i6 e,.str s])
theorem MI {H:Aa}{p a:Nat}{b:List UInt8}{r:List Ab}(h:Lx H p b a r)(s:List UInt8):Sh.f5 (.ptr p 0 0) (.str s) H=some (.pan (if a=b.length then Sq 3 s else Sq 2 []),H):=by
 unfold Sh.f5;simp only[GMw,JD h];by_cases e:a=b.length
 ·simp only[e,GMw]
  rfl
 ·simp only[e,GMw]
  rfl
theorem RX {H:Aa}(x:Ab):Sh.f2c x H=some (.pan (Sq 4 []),H):=rfl
theorem Uq (l:List UInt8)(c:UInt8):(0<=Lib.indexByte l c)↔c∈l:=by
 induction l with
 | nil=>simp[Lib.indexByte]
 | cons b l ih=>
  have hge:=Lib.indexByte_ge l c;unfold Lib.indexByte;by_cases h:b=c
  ·simp[h]
  ·have h':¬c=b:=λe=>h e.symm;by_cases h2:Lib.indexByte l c = -1
   ·have:¬c∈l:=λhm=>by have:=ih.2 hm;omega
    simp[h,h',h2,this]
   ·have h3:0<=Lib.indexByte l c:=by omega
    have h4:=ih.1 h3;simp[h,h2,h4];omega
def Be (b:List UInt8)(a:Nat)(some:List UInt8):Bool:=match b[a]? with
 | none=>false
 | Option.some c=>some.contains c
theorem Fy {H:Aa}{p a:Nat}{b:List UInt8}{r:List Ab}(h:Lx H p b a r)(ha:a<=b.length)(s:List UInt8):Sh.f4 (.ptr p 0 0) (.str s) H=some (.ret (.bool (Be b a s)),H):=by
 unfold Sh.f4 Be;simp only[GMw,JD h];by_cases e:a=b.length
 ·simp only[e,GMw];rw[zYb (UK _)]
 ·have hlt:a<b.length:=by omega
  rw[UG hlt];have hi:Sh.f2b (.str s) (.int .u8 (b[a].toNat:Int)) H=some (.ret (.i6 (Lib.indexByte s b[a])),H):=by
   unfold Sh.f2b;simp
  simp only[e,GMw,Aj,Ah,UJ,lx_b h,HF h,B1 hlt,hi];by_cases hm:b[a]∈s
  ·have:=(Uq s b[a]).2 hm;simp[hm,this]
  ·have:¬0<=Lib.indexByte s b[a]:=λhc=>hm ((Uq s b[a]).1 hc);simp[hm,this]
theorem QM {H:Aa}{p a:Nat}{b:List UInt8}{r:List Ab}(h:Lx H p b a r)(n:Int):Ae 1 (.ptr p 0 1) (.i6 n) H=some (H.set p (.cel 0 (.str b::.i6 n::r))):=by
 simp only[Ae,A1 h,Option.bind,Ab.acells];simp[B5 h,Dc]
theorem lx_set {H:Aa}{p a a':Nat}{b:List UInt8}{r:List Ab}(h:Lx H p b a r):Lx (H.set p (.cel 0 (.str b::.i6 (a':Int)::r))) p b a' r:=by
 have:p<H.length:=by
  rcases Vy p H.length with h' | h'
  ·exact h'
  ·unfold Lx at h;rw[zYb h']at h;cases h
 unfold Lx;simp[this]
def Ct (H:Aa)(p:Nat)(b:List UInt8)(r:List Ab)(a:Nat):Aa:=H.set p (.cel 0 (.str b::.i6 (a:Int)::r))
theorem EE {H:Aa}{p a:Nat}{b:List UInt8}{r:List Ab}(h:Lx H p b a r):Ct H p b r a=H:=by
 unfold Ct;apply VW;intro i;by_cases e:p=i
 ·subst e;have:p<H.length:=by
   rcases Vy p H.length with h' | h'
   ·exact h'
   ·unfold Lx at h;rw[zYb h']at h;cases h
  rw[UT this];exact h.symm
 ·rw[UI e]
theorem Gz {H:Aa}{p a a':Nat}{b:List UInt8}{r:List Ab}(h:Lx H p b a r):Lx (Ct H p b r a') p b a' r:=lx_set h
theorem TI (H:Aa)(p a a':Nat)(b:List UInt8)(r r':List Ab):Ct (Ct H p b r a) p b r' a'=Ct H p b r' a':=by unfold Ct;rw[Xq]
theorem setL_len (H:Aa)(p a:Nat)(b:List UInt8)(r:List Ab):(Ct H p b r a).length=H.length:=by unfold Ct;simp
theorem Ks {H:Aa}{p a a':Nat}{b:List UInt8}{r:List Ab}(h:Lx H p b a r)(n:Nat):Ae 1 (.ptr p 0 1) (.i6 (n:Int)) (Ct H p b r a')=some (Ct H p b r n):=by
 rw[QM (Gz h)];exact congrArg some (TI H p a' n b r r)
def M7 (b:List UInt8)(a:Nat):Nat:=a+((b.drop a).takeWhile λc=>!([13,10]:List UInt8).contains c).length
theorem PU {b:List UInt8}{a:Nat}(h:a<b.length):M7 b a=if Be b a [13,10]then a else M7 b (a+1):=by
 unfold M7 Be;rw[UG h,Vh h,WA];cases hc:([13,10]:List UInt8).contains b[a]with
 | true=>simp only[hc,Vp,if_true,if_false,UM,zXk,Nat.add_zero]
 | false=>simp only[hc,V0,if_true,if_false,UM,zXj];omega
theorem anyN_end {b:List UInt8}:M7 b b.length=b.length:=by simp[M7]
theorem lx_any {H:Aa}{p a:Nat}{b:List UInt8}{r:List Ab}(h:Lx H p b a r)(ha:a<=b.length)(hb:b.length<1152921504606846976) :
  Sh.f3w (.ptr p 0 0) H=some (.ret (.tup []),Ct H p b r (M7 b a)):=by
 unfold Sh.f3w;have key:=AZ (G:=λrec1 vs H1=>Sh.f77 H rec1 (ag vs 0) H1) (σ:=Nat) (λi=>i<=b.length) (λ_=>[.ptr p 0 0]) (λi=>Ct H p b r i) (λi=>b.length-i)
  (λi=>some (.ret (.tup []),Ct H p b r (M7 b i))) (λi rec hi hrec=>?_) a ha (by omega)
 ·rw[EE h]at key;exact key
 ·unfold Sh.f77;have hx:=Gz (a':=i) h;simp only[GMw,JD hx];by_cases e:i=b.length
  ·simp only[e,GMw,anyN_end]
  ·have hlt:i<b.length:=by omega
   simp only[e,GMw,Fy hx hi];rw[PU hlt];cases hc:Be b i [13,10]with
   | true=>simp only[GMw,Vp]
   | false=>
    simp only[GMw,V0,Aj,Ah,UJ,HF hx,As (show i<9223372036854775807 by omega),Ks h];exact hrec (i+1) (by omega) (by omega)
def PZ (b:List UInt8)(a:Nat)(s:List UInt8):Ab:=if a=b.length then Sq 3 s else Sq 2 []
def crN (b:List UInt8)(a:Nat):Nat:=if Be b a [13]then a+1 else a
theorem CF {b s:List UInt8}{a:Nat}(h:Be b a s=true):a<b.length:=by
 rcases Vy a b.length with h' | h'
 ·exact h'
 ·unfold Be at h;rw[zYb h']at h;cases h
theorem crN_le {b:List UInt8}{a:Nat}(ha:a<=b.length):crN b a<=b.length:=by
 unfold crN;cases hs:Be b a [13]with
 | true=>exact CF hs
 | false=>exact ha
def endO (H:Aa)(p:Nat)(b:List UInt8)(r:List Ab)(a:Nat)(rest:List UInt8):Out:=
 if a=b.length then some (.ret (.tup []),H)
 else if Be b (crN b a) [10]then some (.ret (.tup []),Ct H p b r (crN b a+1))
 else some (.pan (PZ b (crN b a) (10::rest)),Ct H p b r (crN b a))
theorem lx_end {H:Aa}{p a:Nat}{b:List UInt8}{r:List Ab}(h:Lx H p b a r)(ha:a<=b.length)(hb:b.length<1152921504606846976)(rest:List UInt8)(hr:rest.length<=1000000) :
  Sh.f1p (.ptr p 0 0) (.str rest) H=endO H p b r a rest:=by
 unfold Sh.f1p endO;simp only[GMw,JD h];by_cases e:a=b.length
 ·simp only[e,GMw]
 ·have key:∀c,c<=b.length->Sh.f76 H (.ptr p 0 0) (.str rest) (Ct H p b r c)=if Be b c [10]then some (.ret (.tup []),Ct H p b r (c+1))else some (.pan (PZ b c (10::rest)),Ct H p b r c):=by
   intro c hc;have hx:=Gz (a':=c) h;unfold Sh.f76;simp only[GMw,Fy hx hc];cases hs:Be b c [10]with
   | true=>
    unfold Sh.f8e;simp only[GMw,Vp,Aj,Ah,UJ,HF hx,As (show c<9223372036854775807 by omega),Ks h]
   | false=>
    have iE:Af .none .add (.str [10]) (.str rest)=some (.str (10::rest)):=Dh (by simp only[zXj,zXk];omega);simp only[GMw,V0,iE,MI hx]
    rfl
  simp only[e,GMw,Fy h ha,AI];unfold crN;cases hs:Be b a [13]with
  | true=>
   have hlt:a<b.length:=by omega
   have hm:=Ks (a':=a) h (a+1);rw[EE h]at hm;simp only[GMw,Aj,Ah,UJ,HF h,As (show a<9223372036854775807 by omega),hm];exact key (a+1) (by omega)
  | false=>
   have:=key a ha;rw[EE h]at this;simp only[GMw];rw[EE h];exact this
end Go.Gm
