/- Texts of this proof, joined. -/
import Derived.Test.YtagddbecnkbcdaaGreatJ4
import Derived.Test.YtagddbecnkbcdaaGreatJ5
import Derived.Test.YtagddbecnkbcdaaGreatJ6
import Derived.Test.YtagddbecnkbcdaaGreatJ7
set_option linter.all false
namespace Go.Gm
structure Q4 (b p:Nat)(S:Nat->List Sp)(W:Nat->Ab)(T:Nat->Nat)(H:Aa):Prop where
 blk:H[p]? = some (.c0 [W 0,W 1,W 2,W 3])
 row:∀k,k<4->(S k=[]/\W k=.sl [] .ti)\/(S k≠[]/\b<=T k/\W k=.sl (enL cSp (S k)) (.own (T k))/\H[T k]? = some (.tok (S k).length BV 3))
 ne:∀i j,i<4->j<4->i≠j->S i≠[]->S j≠[]->T i≠T j
def up {α:Type}(f:Nat->α)(k:Nat)(a:α):Nat->α:=λj=>if j=k then a else f j
theorem KI {α:Type}(f:Nat->α)(k:Nat)(a:α):up f k a k=a:=if_pos rfl
theorem Fe {α:Type}(f:Nat->α){j k:Nat}(a:α)(h:j≠k):up f k a j=f j:=if_neg h
theorem VbI (W:Nat->Ab){k:Nat}(hk:k<4)(w:Ab):[W 0,W 1,W 2,W 3].set k w=[up W k w 0,up W k w 1,up W k w 2,up W k w 3]:=by
 match k,hk with
 |0,_=>rfl
 |1,_=>rfl
 |2,_=>rfl
 |3,_=>rfl
theorem Vgh (W:Nat->Ab){k:Nat}(hk:k<4):[W 0,W 1,W 2,W 3][k]? = some (W k):=by
 match k,hk with
 |0,_=>rfl
 |1,_=>rfl
 |2,_=>rfl
 |3,_=>rfl
theorem Q4.push {b p:Nat}{S:Nat->List Sp}{W:Nat->Ab}{T:Nat->Nat}{H:Aa}(h:Q4 b p S W T H)(G:Aa):Q4 b p S W T (H++G):=
 ⟨A1 h.blk,λk hk=>by
  rcases h.row k hk with q | ⟨q0,q1,q2,q3⟩;exact .inl q
  ·exact .inr ⟨q0,q1,q2,A1 q3⟩,h.ne⟩
theorem Q4.add {b p:Nat}{S:Nat->List Sp}{W:Nat->Ab}{T:Nat->Nat}{H:Aa}(h:Q4 b p S W T H)(hb:b<=p){k:Nat}(hk:k<4)(s:Sp)(hl:(S k).length<1000000000):∃w' H1 T',Ad false 1 (.ptr p 0 k) H=some (W k)/\AW BV 3 56 (W k) (.sl (enL cSp [s]) .ti) H=some (w',H1)/\Ai 1 (.ptr p 0 k) w' H1=some (H1.set p (.c0 [up W k w' 0,up W k w' 1,up W k w' 2,up W k w' 3])) /\
   Q4 b p (up S k (S k++[s])) (up W k w') T' (H1.set p (.c0 [up W k w' 0,up W k w' 1,up W k w' 2,up W k w' 3]))/\H.length<=H1.length/\∀i,i<b->H1[i]? = H[i]? := by
 have bL:p<H.length:=(W5.1 h.blk).1;have hld:Ad false 1 (.ptr p 0 k) H=some (W k):=by rw[CD h.blk];exact Vgh W hk
 have mQ:k<[W 0,W 1,W 2,W 3].length:=hk;rcases h.row k hk with ⟨q1,q2⟩ | ⟨q0,q1,q2,q3⟩
 ·have ha:=Dh (f:=cSp) (sz:=3) (l:=[]) (m:=[s]) (ty:=BV) (bytes:=56) (tk:=.ti) (H:=H) (by simp) (by simp) (by simp);simp only[List.nil_append,zXk,zXi,W9,Ia]at ha;have kJ:(H++[Blk.tok 1 BV 3])[p]? = some (.c0 [W 0,W 1,W 2,W 3]):=A1 h.blk;have hst:=HD (v:=.sl (enL cSp [s]) (.own H.length)) kJ rfl mQ;rw[VbI W hk]at hst;refine⟨.sl (enL cSp [s]) (.own H.length),H++[Blk.tok 1 BV 3],up T k H.length,hld,by rw[q2];exact ha,hst,⟨?_,λj hj=>?_,λi j hi hj hij lI nI=>?_⟩,by simp,λi hi=>W8 (by omega)⟩;rw[WJ (by simp;omega)];by_cases e:j=k;subst e;right;rw[KI,KI,KI,q1,WA (by omega)];exact⟨by simp,by omega,rfl,by simp⟩;rw[Fe _ _ e,Fe _ _ e,Fe _ _ e];rcases h.row j hj with r | ⟨r0,r1,r2,r3⟩;exact .inl r;have:p≠T j:=λe=>(by rw[<-e,h.blk]at r3;cases r3);exact .inr ⟨r0,r1,r2,by rw[WA this];exact A1 r3⟩;have lt:∀i,i<4->S i≠[]->T i<H.length:=λi hi hs=>(by rcases h.row i hi with r | ⟨r0,r1,r2,r3⟩;exact absurd r.1 hs;exact(W5.1 r3).1);by_cases e1:i=k;have e2:j≠k:=λe=>hij (by omega);rw[e1,KI,Fe _ _ e2];rw[Fe _ _ e2]at nI;have:=lt j hj nI;omega;rw[Fe _ _ e1]at lI⊢;by_cases e2:j=k;rw[e2,KI];have:=lt i hi lI;omega;rw[Fe _ _ e2]at nI⊢;exact h.ne i j hi hj hij lI nI
 ·have ha:=F4 (f:=cSp) (sz:=3) (l:=S k) (m:=[s]) (ty:=BV) (bytes:=56) (tk:=.ti) (H:=H) (t:=T k) (by simp) q3 (by simp;omega) (by simp;omega);simp only[zXi]at ha;have iI:T k<H.length:=(W5.1 q3).1;have tJ:T k≠p:=λe=>by rw[e,h.blk]at q3;cases q3
  have kJ:(H.set (T k) (Blk.tok ((S k).length+1) BV 3))[p]? = some (.c0 [W 0,W 1,W 2,W 3]):=by rw[WA tJ];exact h.blk
  have hst:=HD (v:=.sl (enL cSp (S k++[s])) (.own (T k))) kJ rfl mQ;rw[VbI W hk]at hst;refine⟨.sl (enL cSp (S k++[s])) (.own (T k)),H.set (T k) (Blk.tok ((S k).length+1) BV 3),T,hld,by rw[q2];exact ha,hst,⟨?_,λj hj=>?_,λi j hi hj hij lI nI=>?_⟩,by simp,λi hi=>WA (by omega)⟩;rw[WJ (by simp;omega)];by_cases e:j=k;subst e;right;rw[KI,KI,WA (Ne.symm tJ),WJ iI];exact⟨by simp,q1,rfl,by simp⟩;rw[Fe _ _ e,Fe _ _ e];rcases h.row j hj with r | ⟨r0,r1,r2,r3⟩;exact .inl r;have:p≠T j:=λe=>(by rw[<-e,h.blk]at r3;cases r3);have h2:T k≠T j:=h.ne k j hk hj (Ne.symm e) q0 r0;exact .inr ⟨r0,r1,r2,by rw[WA this,WA h2];exact r3⟩;have b1:S i≠[]:=(by by_cases e1:i=k;rw[e1];exact q0;rw[Fe _ _ e1]at lI;exact lI);have b2:S j≠[]:=(by by_cases e1:j=k;rw[e1];exact q0;rw[Fe _ _ e1]at nI;exact nI);exact h.ne i j hi hj hij b1 b2
def VoX (p:Sp):Prop:=(AB p.a).length<=1000000/\(AB p.b).length<=1000000
theorem Nt (s:Sp):AN 3 [.agg (cSp s)]=some (.sl (enL cSp [s]) .ti):=by simp[AN,Di,Cb,cSp,Ab.isScal,Ld,BN,enL]
theorem VjR (v:Nat)(p:Sp):qOf v p<4:=by unfold qOf;split<;>split<;>omega
theorem VhX {v k:Nat}{S:List Sp}{s:Sp}:qSp v k (S++[s])=if k=qOf v s then qSp v k S++[s]else qSp v k S:=by unfold qSp;rw[Xq];by_cases h:k=qOf v s;rw[if_pos h];simp[h];rw[if_neg h];have:¬qOf v s=k:=λe=>h e.symm;simp[this]
theorem ViG {self:Ab->Ab->Ab->Aa->Out}{pb v:Nat}{S:List Sp}{tk:Tok}{H B Hc:Aa}{W:Nat->Ab}{T:Nat->Nat}{i:Nat}(hi:i<S.length)(hok:∀p∈S,VoX p)(hS:S.length<1000000000)(hv:v<100000)
  (hBb:H.length=B.length)(hq:Q4 B.length B.length (λk=>qSp v k (S.take i)) W T Hc)(hlen:B.length<=Hc.length)(hold:∀i,i<B.length->Hc[i]? = B[i]?):∃W' T' Hd,(∀rec:LK,Ubf H self rec (.ptr pb 0 0) (.i6 ((v+1:Nat):Int)) (.ptr B.length 0 0) (.sl (enL cSp S) tk) (.i6 (S.length:Int)) (.i6 (i:Int)) Hc=rec [.ptr pb 0 0,.i6 ((v+1:Nat):Int),.ptr B.length 0 0,.sl (enL cSp S) tk,.i6 (S.length:Int),.i6 ((i+1:Nat):Int)] Hd) /\
   Q4 B.length B.length (λk=>qSp v k (S.take (i+1))) W' T' Hd/\B.length<=Hd.length/\(∀i,i<B.length->Hd[i]? = B[i]?):=by
 have d1:decide ((i:Int)<(S.length:Int))=true:=zXc (by omega);have lI:=hok _ (WI hi);have hlt:=VjR v S[i];have jO:Q4 B.length B.length (λk=>qSp v k (S.take i)) W T (Hc++[.c0 (cSp S[i])]):=hq.push _;have jR:(qSp v (qOf v S[i]) (S.take i)).length<1000000000:=Xt (XJ _ _) (by rw[WN];omega);obtain⟨w',H1,T',a1,a2,a3,a4,a5,a6⟩:=jO.add (W7 _) hlt S[i] jR;have hw:=Au (show i<9223372036854775807 by omega);have w1:IntKind.i64.wrap (((v+1:Nat):Int)-1)=(v:Int):=by rw[Am]<;>omega
 have bx:=λK=>VnD S[i].a v .no K lI.1 (by omega);have bY:=λK=>VnD S[i].b v .no K lI.2 (by omega);have e1:(Hc++[Blk.c0 [Ab.sl [] .ti,.sl [] .ti,.int .u8 0]])[Hc.length]? = some (.c0 [.sl [] .ti,.sl [] .ti,.int .u8 0]):=An;have e2:(Hc++[Blk.c0 (cSp S[i])])[Hc.length]? = some (.c0 (cSp S[i])):=An;have hst:Ai 3 (.ptr Hc.length 0 0) (.agg (cSp S[i])) (Hc++[Blk.c0 [Ab.sl [] .ti,.sl [] .ti,.int .u8 0]])=some (Hc++[Blk.c0 (cSp S[i])]):=by rw[Qp (sz:=3) (ws:=cSp S[i]) e1 rfl rfl rfl,Be]
 have ldA:Ad true 3 (.cptr (cSp S[i]) 0) Hc=some (.agg (cSp S[i])):=rfl;have ld0:Ad false 1 (.ptr Hc.length 0 0) (Hc++[Blk.c0 (cSp S[i])])=some (.sl (enL cU (AB S[i].a)) .no):=by rw[CD e2];rfl
 have ld1:Ad false 1 (.ptr Hc.length 0 1) (Hc++[Blk.c0 (cSp S[i])])=some (.sl (enL cU (AB S[i].b)) .no):=by rw[CD e2];rfl
 have ldG:Ad true 3 (.ptr Hc.length 0 0) (Hc++[Blk.c0 (cSp S[i])])=some (.agg (cSp S[i])):=QE e2 rfl;have hal:A0 (some [(.sl [] .ti),(.sl [] .ti),(.int .u8 0)]) Hc=some (.ptr Hc.length 0 0,Hc++[.c0 [Ab.sl [] .ti,.sl [] .ti,.int .u8 0]]):=alloc_eq rfl;have dO:=Ih (K:=.i64) (id:=B.length) (g:=0) (o:=0) hlt;rw[W9]at dO;have w2:IntKind.i64.wrap (0+1)=1:=rfl;have w3:IntKind.i64.wrap (0+2)=2:=rfl;have w4:IntKind.i64.wrap (1+2)=3:=rfl;refine⟨up W (qOf v S[i]) w',T',H1.set B.length (.c0 [up W (qOf v S[i]) w' 0,up W (qOf v S[i]) w' 1,up W (qOf v S[i]) w' 2,up W (qOf v S[i]) w' 3]),λrec=>?_,?_,?_,?_⟩
 ·unfold Ubf Ue6 Ue5;simp only[GMw,d1,Aw,Ay hi,ldA,hal,hst,AJ,Ae,W9,ld0,w1,bx];have fin:∀k:Int,k=((qOf v S[i]:Nat):Int)->(BH 4 1 (.ptr B.length 0 0) (.i6 k))=some (.ptr B.length 0 (qOf v S[i])):=λk hk=>by rw[hk];exact dO
  cases hA:S[i].a.testBit v with
  |true=>cases hB:S[i].b.testBit v with|true=>have f:=fin 3 (by unfold qOf;rw[hA,hB];rfl);simp only[GMw,w2,ld1,bY,hB,w4,f,a1,ldG,Nt,a2,a3,AM,hw,Ao,Aj,Bf,Bj,B6,BQ,DI]|false=>have f:=fin 1 (by unfold qOf;rw[hA,hB];rfl);simp only[GMw,w2,ld1,bY,hB,f,a1,ldG,Nt,a2,a3,AM,hw,Ao,Aj,Bf,Bj,B6,BQ,DI]
  |false=>cases hB:S[i].b.testBit v with|true=>have f:=fin 2 (by unfold qOf;rw[hA,hB];rfl);simp only[GMw,w3,ld1,bY,hB,f,a1,ldG,Nt,a2,a3,AM,hw,Ao,Aj,Bf,Bj,B6,BQ,DI]|false=>have f:=fin 0 (by unfold qOf;rw[hA,hB];rfl);simp only[GMw,ld1,bY,hB,f,a1,ldG,Nt,a2,a3,AM,hw,Ao,Aj,Bf,Bj,B6,BQ,DI]
 ·have hs:(λk=>qSp v k (S.take (i+1)))=up (λk=>qSp v k (S.take i)) (qOf v S[i]) (qSp v (qOf v S[i]) (S.take i)++[S[i]]):=by
   funext k
   rw[WF hi,VhX];unfold up;by_cases h:k=qOf v S[i];rw[if_pos h,if_pos h,h];rw[if_neg h,if_neg h]
  rw[hs];exact a4
 rw[zYa];simp at a5;omega;intro j hj;rw[WA (by omega),a6 j hj,W8 (by omega)];exact hold j hj
def Lm (v:Nat)(S:List Sp):Nat->Nat
 |0=>0
 |k+1=>Lm v S k+(qSp v k S).length
theorem Rl (v:Nat):∀S:List Sp,Lm v S 4=S.length
 |[]=>by simp[Lm,qSp]
 |p::S=>by
  have ih:=Rl v S;have hq:=VjR v p;simp only[Lm,qSp,Xy,zXj]at ih⊢;generalize qOf v p=q at hq
  match q,hq with
  |0,_=>simp;omega
  |1,_=>simp;omega
  |2,_=>simp;omega
  |3,_=>simp;omega
theorem Wp (v:Nat)(S:List Sp){k:Nat}(h:k<=4):Lm v S k<=S.length:=by
 have h4:=Rl v S
 match k,h with
 |0,_=>simp[Lm]
 |1,_=>simp only[Lm]at h4⊢;omega
 |2,_=>simp only[Lm]at h4⊢;omega
 |3,_=>simp only[Lm]at h4⊢;omega
 |4,_=>omega

mutual
theorem VfQ:∀(v:Nat)(out:List Nd)(S:List Sp),(CI v out S).1.length<=out.length+S.length*v
 |0,out,S=>by simp[CI]
 |v+1,out,S=>by unfold CI;split;simp;rename_i hS;have h:=S0 v out S 4 (W7 _);have hpos:0<S.length:=Xd.2 hS;have:Lm v S 4*v<=S.length*v:=Xg _ (Wp v S (W7 _));simp only[WC,zXi,Nat.mul_succ];omega
theorem S0:∀(v:Nat)(out:List Nd)(S:List Sp)(k:Nat),k<=4->(lyK (CI v) v S k out).1.length<=out.length+Lm v S k*v
 |v,out,S,0,_=>by simp[lyK,Lm]
 |v,out,S,k+1,hk=>by have h:=S0 v out S k (by omega);unfold lyK;split;rename_i h0;subst h0;dsimp only;omega;have h2:=VfQ v (lyK (CI v) v S k out).1 (qSp v k S);dsimp only;have:Lm v S (k+1)*v=Lm v S k*v+(qSp v k S).length*v:=(by show(Lm v S k+(qSp v k S).length)*v=_;rw[Xr]);omega

end
theorem VaW (rec:List Nd->List Sp->List Nd×Nat)(v:Nat)(S:List Sp)(out:List Nd):∀k,k<=4->∀j,k<=j->j<4->(lyK rec v S k out).2.kid j=0
 |0,_,j,_,h4=>by
  match j,h4 with
  |0,_=>rfl
  |1,_=>rfl
  |2,_=>rfl
  |3,_=>rfl
 |k+1,hk,j,hj,h4=>by unfold lyK;split;rw[F9 _ _ (by omega) h4 (by omega)];exact VaW rec v S out k (by omega) j (by omega) h4;rw[F9 _ _ (by omega) h4 (by omega)];exact VaW rec v S out k (by omega) j (by omega) h4
theorem VeF (x:Nd){k:Nat}(hk:k<4)(h:x.kid k=0):x.setKid k 0=x:=by
 match k,hk with
 |0,_=>simp only[Nd.kid]at h;unfold Nd.setKid;cases x;simp_all
 |1,_=>simp only[Nd.kid]at h;unfold Nd.setKid;cases x;simp_all
 |2,_=>simp only[Nd.kid]at h;unfold Nd.setKid;cases x;simp_all
 |3,_=>simp only[Nd.kid]at h;unfold Nd.setKid;cases x;simp_all
theorem PS.same {b:Nat}{out:List Nd}{v:Ab}{H H':Aa}(h:PS b out v H)(hs:∀i,i<H.length->H'[i]? = H[i]?):PS b out v H':=by rcases h with h1 | ⟨t,h1,h2,h3⟩;exact .inl h1;exact .inr ⟨t,h1,h2,by rw[hs t (W5.1 h3).1];exact h3⟩
def VjD (b pb n:Nat)(self:Ab->Ab->Ab->Aa->Out):Prop:=
 ∀(out:List Nd)(w:Ab)(S:List Sp)(tk:Tok)(H:Aa),H[pb]? = some (.c0 [w])->PS b out w H->b<=H.length->(∀p∈S,VoX p)->S.length<1000000000->out.length+S.length*n<3518437208880 ->
  ∃H' w',self (.ptr pb 0 0) (.i6 (n:Int)) (.sl (enL cSp S) tk) H=some (.ret (.i6 ((CI n out S).2:Int)),H')/\H'[pb]? = some (.c0 [w'])/\PS b (CI n out S).1 w' H'/\Ext b pb H H'
theorem VnM (v:Nat):A6 (some [(.i6 0),(.i6 0),(.i6 0),(.i6 0),(.i6 0)]) [(0,1,.i6 (v:Int))]=some (.agg (cNd ⟨(v:Int),0,0,0,0⟩)):=by simp[A6,GF,D7,cNd]
theorem VlE {b pb q v k:Nat}{self:Ab->Ab->Ab->Aa->Out}{out:List Nd}{S:List Sp}{H Hd:Aa}{W:Nat->Ab}{w:Ab}(cO:v=0\/VjD b pb v self)(hv:v<100000)(hk:k<4)
  (hW:∃tk,W k=.sl (enL cSp (qSp v k S)) tk)(hok:∀p∈S,VoX p)(hS:S.length<1000000000)(hlen:out.length+S.length*v<3518437208880)(sN:b<=pb)(mM:q≠pb)(hbq:b<=q)
  (f1:Hd[pb]? = some (.c0 [w]))(f2:PS b (lyK (CI v) v S k out).1 w Hd)(f3:Hd[q]? = some (.c0 (cNd (lyK (CI v) v S k out).2))):∃w' He,(∀rec:LK,Ual H self rec (.ptr pb 0 0) (.i6 ((v+1:Nat):Int)) (.ptr q 0 0) (.agg [W 0,W 1,W 2,W 3]) (.i6 (k:Int)) Hd=rec [.ptr pb 0 0,.i6 ((v+1:Nat):Int),.ptr q 0 0,.agg [W 0,W 1,W 2,W 3],.i6 ((k+1:Nat):Int)] He) /\
   He[pb]? = some (.c0 [w'])/\PS b (lyK (CI v) v S (k+1) out).1 w' He/\He[q]? = some (.c0 (cNd (lyK (CI v) v S (k+1) out).2))/\Hd.length<=He.length/\(∀(i:Nat)(cs:List Ab),i≠pb->i≠q->Hd[i]? = some (.c0 cs)->He[i]? = some (.c0 cs))/\∀i,i<b->He[i]? = Hd[i]? := by
 obtain⟨tk,hW⟩:=hW;have hk':decide ((k:Int)<4)=true:=zXc (by omega);have bL:pb<Hd.length:=(W5.1 f1).1;have hql:q<Hd.length:=(W5.1 f3).1;have xA:Kb false 4 1 (.agg [W 0,W 1,W 2,W 3]) (.i6 (k:Int))=some (W k):=by
  match k,hk with
  |0,_=>rfl
  |1,_=>rfl
  |2,_=>rfl
  |3,_=>rfl
 have hw:=Au (show k<9223372036854775807 by omega);have w1:IntKind.i64.wrap (((v+1:Nat):Int)-1)=(v:Int):=by rw[Am]<;>omega
 have dO:=Ih (K:=.i64) (id:=q) (g:=0) (o:=1) hk;rcases XN v with h0 | h0
 ·subst h0;have d1:decide (((0+1:Nat):Int)>1)=false:=rfl;have e:lyK (CI 0) 0 S (k+1) out=((lyK (CI 0) 0 S k out).1,(lyK (CI 0) 0 S k out).2.setKid k (VlO (qSp 0 k S))):=rfl;rw[e];cases hq:qSp 0 k S with
  |nil=>rw[hq]at hW;have hid:=VeF _ hk (VaW (CI 0) 0 S out k (by omega) k (W7 _) hk);refine⟨w,Hd,λrec=>?_,f1,f2,?_,W7 _,λ_ _ _ _ h=>h,λ_ _=>rfl⟩;unfold Ual;have hl0:A7 (.sl (enL cSp []) tk)=some (.i6 0):=rfl;have d2:decide ((0:Int)>0)=false:=rfl;simp only[GMw,hk',xA,d1,hW,hl0,d2,hw];show Hd[q]? = some (.c0 (cNd ((lyK (CI 0) 0 S k out).2.setKid k 0)));rw[hid];exact f3
  |cons s r=>
   rw[hq]at hW;have hst:=Fg (c:=(s.s.toNat:Int)) f3 hk;refine⟨w,Hd.set q (.c0 (cNd ((lyK (CI 0) 0 S k out).2.setKid k (s.s.toNat:Int)))),λrec=>?_,?_,f2.put f3,?_,by simp,λi cs h1 h2 h=>?_,λi hi=>?_⟩;have cM:decide (((s::r).length:Int)>0)=true:=zXc (by simp only[zXj];omega);have jH:Av 3 (.sl (enL cSp (s::r)) tk) (.i6 0)=some (.cptr (cSp s) 0):=Ay (f:=cSp) (l:=s::r) (i:=0) (K:=.i64) (by simp);have hld:∀K,Ad false 1 (.cptr (cSp s) 2) K=some (.int .u8 (s.s.toNat:Int)):=λ_=>rfl;have hc:AG .i64 (.int .u8 (s.s.toNat:Int))=some (.i6 (s.s.toNat:Int)):=(by have:=s.s.toNat_lt;rw[Bx,Am (by omega) (by omega)]);unfold Ual;simp only[GMw,hk',xA,d1,hW,Aw,cM,jH,Aq,Ae,W9,hld,hc,dO,hst,AM,hw];rw[WA mM];exact f1;rw[WJ hql];rfl
   rw[WA (Ne.symm h2)];exact h;rw[WA (by omega)]
 ·obtain cO:=cO.resolve_left (by omega);have d1:decide (((v+1:Nat):Int)>1)=true:=zXc (by omega);have cA:=S0 v out S k (by omega);have eZ:Lm v S (k+1)*v=Lm v S k*v+(qSp v k S).length*v:=by show(Lm v S k+(qSp v k S).length)*v=_;rw[Xr]
  have mY:Lm v S (k+1)*v<=S.length*v:=Xg _ (Wp v S (by omega));obtain⟨H1,w',r1,r2,r3,r4⟩:=cO (lyK (CI v) v S k out).1 w (qSp v k S) tk Hd f1 f2 (by omega) (λp hp=>hok p (Xz.1 hp).1) (Xt (XJ _ _) hS) (by omega);have f3':=r4.cel q _ mM f3;have hst:=Fg (c:=((CI v (lyK (CI v) v S k out).1 (qSp v k S)).2:Int)) f3' hk;have uR:q<H1.length:=(W5.1 f3').1;have e:lyK (CI v) v S (k+1) out=((CI v (lyK (CI v) v S k out).1 (qSp v k S)).1,(lyK (CI v) v S k out).2.setKid k ((CI v (lyK (CI v) v S k out).1 (qSp v k S)).2:Int)):=by
   conv=>lhs;unfold lyK
   rw[if_neg (by omega)]
  rw[e];refine⟨w',H1.set q (.c0 (cNd ((lyK (CI v) v S k out).2.setKid k ((CI v (lyK (CI v) v S k out).1 (qSp v k S)).2:Int)))),λrec=>?_,?_,r3.put f3',?_,by rw[zYa];exact r4.len,λi cs h1 h2 h=>?_,λi hi=>?_⟩;unfold Ual;simp only[GMw,hk',xA,d1,hW,w1,r1,Ae,W9,dO,hst,AM,hw];rw[WA mM];exact r2;rw[WJ uR];rw[WA (Ne.symm h2)];exact r4.cel i cs h1 h;rw[WA (by omega)];exact r4.old i hi
theorem ViH {b pb v:Nat}{self:Ab->Ab->Ab->Aa->Out}(cO:v=0\/VjD b pb v self)(hv:v<100000)(sN:b<=pb):VjD b pb (v+1) (Uee self):=by
 intro out w S tk H f1 f2 hb hok hS hlen;have bL:pb<H.length:=(W5.1 f1).1;unfold Uee CI;by_cases h0:S=[];subst h0;refine⟨H,w,?_,f1,f2,Ext.refl _ _ _⟩;simp
 ·rw[if_neg h0];have hpos:=Xd.2 h0;have hne:decide ((S.length:Int)=0)=false:=zXd (by omega);have nT:((S.length:Int)==0)=false:=by rw[beq_eq_false_iff_ne];omega
  have hal:A0 (some [(.sl [] .ti),(.sl [] .ti),(.sl [] .ti),(.sl [] .ti)]) H=some (.ptr H.length 0 0,H++[.c0 [Ab.sl [] .ti,.sl [] .ti,.sl [] .ti,.sl [] .ti]]):=alloc_eq rfl;simp only[GMw,Aw,hne,nT,hal];have hQ0:Q4 H.length H.length (λk=>qSp v k (S.take 0)) (λ_=>.sl [] .ti) (λ_=>0) (H++[.c0 [Ab.sl [] .ti,.sl [] .ti,.sl [] .ti,.sl [] .ti]]):=
   ⟨An,λk hk=>.inl ⟨rfl,rfl⟩,λi j _ _ _ h=>absurd rfl h⟩
  have loop:=Fk (G:=λrec1 vs H1=>Ubf H self rec1 (ag vs 0) (ag vs 1) (ag vs 2) (ag vs 3) (ag vs 4) (ag vs 5) H1) S.length
   (λi vs Hc=>vs=[.ptr pb 0 0,.i6 ((v+1:Nat):Int),.ptr H.length 0 0,.sl (enL cSp S) tk,.i6 (S.length:Int),.i6 (i:Int)]/\∃W T,Q4 H.length H.length (λk=>qSp v k (S.take i)) W T Hc/\H.length<=Hc.length/\∀i,i<H.length->Hc[i]? = H[i]?)
   (by omega) (λi vs Hc hi hI=>?_) (vs:=[.ptr pb 0 0,.i6 ((v+1:Nat):Int),.ptr H.length 0 0,.sl (enL cSp S) tk,.i6 (S.length:Int),.i6 0]) (H:=H++[.c0 [Ab.sl [] .ti,.sl [] .ti,.sl [] .ti,.sl [] .ti]])
   ⟨rfl,_,_,hQ0,by simp,λi hi=>W8 hi⟩
  ·obtain⟨vs,Hc,⟨rfl,W,T,hQ,hl,hold⟩,rec,aB⟩:=loop;rw[Xu]at hQ;rw[aB];have d1:decide ((S.length:Int)<(S.length:Int))=false:=zXd (by omega);have wZ:A0 (some [(.i6 0),(.i6 0),(.i6 0),(.i6 0),(.i6 0)]) Hc=some (.ptr Hc.length 0 0,Hc++[.c0 [Ab.i6 0,.i6 0,.i6 0,.i6 0,.i6 0]]):=alloc_eq rfl;have hst:Ai 5 (.ptr Hc.length 0 0) (.agg (cNd ⟨((v+1:Nat):Int),0,0,0,0⟩)) (Hc++[.c0 [Ab.i6 0,.i6 0,.i6 0,.i6 0,.i6 0]])=some (Hc++[.c0 (cNd ⟨((v+1:Nat):Int),0,0,0,0⟩)]):=(by rw[Kl An rfl,Be]);have vR:Ad true 4 (.ptr H.length 0 0) (Hc++[.c0 (cNd ⟨((v+1:Nat):Int),0,0,0,0⟩)])=some (.agg [W 0,W 1,W 2,W 3]):=QE (A1 hQ.blk) rfl;have hqH:H.length<Hc.length:=(W5.1 hQ.blk).1;have hWr:∀k,k<4->∃tk,W k=.sl (enL cSp (qSp v k S)) tk:=λk hk=>(by rcases hQ.row k hk with ⟨q1,q2⟩ | ⟨_,_,q2,_⟩;exact⟨.ti,by rw[q2,show qSp v k S=[] from q1];rfl⟩;exact⟨_,q2⟩);have rO:out.length+S.length*v<3518437208880:=(by rw[Nat.mul_succ]at hlen;omega);have loop2:=Fk (G:=λbI vs H1=>Ual H self bI (ag vs 0) (ag vs 1) (ag vs 2) (ag vs 3) (ag vs 4) H1) 4
    (λk vs Hd=>vs=[.ptr pb 0 0,.i6 ((v+1:Nat):Int),.ptr Hc.length 0 0,.agg [W 0,W 1,W 2,W 3],.i6 (k:Int)]/\∃w',Hd[pb]? = some (.c0 [w'])/\PS b (lyK (CI v) v S k out).1 w' Hd/\Hd[Hc.length]? = some (.c0 (cNd (lyK (CI v) v S k out).2))/\Hc.length<=Hd.length/\(∀(i:Nat)(cs:List Ab),i≠pb->i<H.length->H[i]? = some (.c0 cs)->Hd[i]? = some (.c0 cs))/\∀i,i<b->Hd[i]? = H[i]?)
    (by decide) (λk vs Hd hk hI=>?_) (vs:=[.ptr pb 0 0,.i6 ((v+1:Nat):Int),.ptr Hc.length 0 0,.agg [W 0,W 1,W 2,W 3],.i6 0]) (H:=Hc++[.c0 (cNd ⟨((v+1:Nat):Int),0,0,0,0⟩)])
    ⟨rfl,w,by rw[W8 (by omega),hold pb bL];exact f1,f2.same λi hi=>by rw[W8 (by omega)];exact hold i hi,by simp[lyK],by simp,λi cs _ hi hc=>by rw[W8 (by omega),hold i hi];exact hc,λi hi=>by rw[W8 (by omega)];exact hold i (by omega)⟩
   obtain⟨vs,Hd,⟨rfl,w1,g1,g2,g3,g4,g5,g6⟩,aA,hloop2⟩:=loop2;have hlk:=S0 v out S 4 (W7 _);rw[Rl]at hlk;obtain⟨w2,H2,a1,a2,a3⟩:=g2.snoc (show b<=Hd.length by omega) (lyK (CI v) v S 4 out).2 (by omega);have xG:=a3.cel pb _ g1;have qO:=(W5.1 xG).1;obtain⟨tk2,bZ⟩:=a2.sl;have gG:=HD (v:=w2) (o:=0) xG (by rw[bZ];rfl) (by simp);have oA:Ad false 1 (.ptr pb 0 0) Hd=some w1:=(by rw[CD g1];rfl);have lQ:Ad false 1 (.ptr pb 0 0) (H2.set pb (.c0 ([w1].set 0 w2)))=some w2:=(by rw[CD (cs:=[w1].set 0 w2) (WJ qO)];rfl);have vS:=Ig g3;have hlen2:A7 w2=some (.i6 (((lyK (CI v) v S 4 out).1.length+1:Nat):Int)):=(by rw[bZ,Aw,WC,zXi]);have d4:decide (((4:Nat):Int)<4)=false:=rfl;refine⟨H2.set pb (.c0 ([w1].set 0 w2)),w2,?_,by rw[WJ qO];rfl,a2.put xG,⟨?_,λi cs hi hc=>?_,λi hi=>?_⟩⟩;unfold Ubf;simp only[Ao,Aj,Bf,Bj,B6,BQ,DI,GMw,d1,VnM,wZ,hst,AM,vR];rw[hloop2];unfold Ual;simp only[Ao,Aj,Bf,Bj,B6,BQ,DI,GMw,d4,Vf8,Ae,W9,oA,vS,KC,a1,gG,AM,lQ,hlen2];rw[zYa];have:=a3.len;omega;rw[WA (Ne.symm hi)];exact a3.cel i cs (g5 i cs hi (W5.1 hc).1 hc);rw[WA (by omega),a3.old i hi];exact g6 i hi;obtain⟨rfl,w1,g1,g2,g3,g4,g5,g6⟩:=hI;obtain⟨w',He,t1,t2,t3,t4,t5,t6,t7⟩:=VlE (H:=H) (W:=W) cO hv hk (hWr k hk) hok hS rO sN (show Hc.length≠pb by omega) (by omega) g1 g2 g3;exact⟨_,He,⟨rfl,w',t2,t3,t4,by omega,λi cs hi hl hc=>t6 i cs hi (by omega) (g5 i cs hi hl hc),λi hi=>(t7 i hi).trans (g6 i hi)⟩,t1⟩
  obtain⟨rfl,W,T,hQ,hl,hold⟩:=hI;obtain⟨W',T',Hd,t1,t2,t3,t4⟩:=ViG (self:=self) (pb:=pb) (tk:=tk) (H:=H) hi hok hS hv rfl hQ hl hold;exact⟨_,Hd,⟨rfl,W',T',t2,t3,t4⟩,t1⟩
theorem Vkj {b pb:Nat}(sN:b<=pb):∀(n d:Nat),n<d->n<100000->1<=n->VjD b pb n (UaD d)
 |0,_,_,_,h=>by omega
 |n+1,d,hd,hn,_=>by obtain⟨d,rfl⟩:∃e,d=e+1:=⟨d-1,by omega⟩;refine ViH (v:=n) ?_ (by omega) sN;rcases XN n with h | h;exact .inl h;exact .inr (Vkj sN n d (by omega) (by omega) h)
theorem Vln (l:List Cl)(tk:Tok)(H:Aa)(hl:l.length<1000000000):Uch (.sl (enL cCl l) tk) H=some (if l=[]then (.ret (.sl [] .ti),H)else (.ret (dV H.length 0 l.length),H++[.buf 0 (flat cCl l) AI 5])):=by
 have hb:AN 5 []=some (.sl [] .ti):=rfl;unfold Uch;cases l with
 |nil=>have ha:Gw AI 5 72 (.sl [] .ti) (.sl (enL cCl []) tk) H=some (.sl [] .ti,H):=rfl;have hn:Sa .eql (.sl (enL cCl []) tk)=some .ubool:=rfl;have hu:∀x:Out,Ak .ubool x x=x:=λx=>if_pos rfl;simp only[hn,GMw,hb,ha];exact hu _
 |cons c l=>
  have hn:Sa .eql (.sl (enL cCl (c::l)) tk)=some (.bool false):=rfl;have ha:Gw AI 5 72 (.sl [] .ti) (.sl (enL cCl (c::l)) tk) H=some (dV H.length 0 (c::l).length,H++[.buf 0 (flat cCl (c::l)) AI 5]):=by
   have he:Cu 5 (.sl (enL cCl (c::l)) tk) H=some (enL cCl (c::l)):=PM;have hlen:(enL cCl (c::l)).length=(c::l).length:=(by simp[enL]);unfold Gw;rw[he];simp only[zXa];unfold IT;rw[hlen,if_neg (by simp)];simp only[zXk,W9,List.all_nil,List.nil_append];rw[if_pos ⟨trivial,by omega,by omega⟩]
   rfl
  simp only[hn,GMw,hb,ha];rw[if_neg (by simp)]
def Wz (P L:List Cl)(i:Nat):Prop:=L.length=P.length/\∀k,k<P.length->L[k]? = if k<i\/P.length-i<=k then P[P.length-1-k]? else P[k]?
theorem Wz.step {P L:List Cl}{i:Nat}(h:Wz P L i)(hi:i<P.length-1-i):Wz P (swp L i (P.length-1-i)) (i+1):=by
 obtain⟨h1,h2⟩:=h;have hl:i<L.length:=by omega
 have hj:P.length-1-i<L.length:=by omega
 refine⟨by rw[N5];exact h1,λk hk=>?_⟩;have ei:=h2 i (by omega);have ej:=h2 (P.length-1-i) (by omega);rw[W4 hl,if_neg (by omega)]at ei;rw[W4 hj,if_neg (by omega)]at ej;rw[VjK hl hj];by_cases k1:k=P.length-1-i
 ·subst k1;rw[WJ (by simp;omega),if_pos (by omega),ei]
  congr 1
  omega
 rw[WA (Ne.symm k1)];by_cases k2:k=i;subst k2;rw[WJ hl,if_pos (by omega),ej];rw[WA (Ne.symm k2),h2 k hk];by_cases k3:k<i\/P.length-i<=k;rw[if_pos k3,if_pos (by omega)];rw[if_neg k3,if_neg (by omega)]
theorem Wz.done {P L:List Cl}{i:Nat}(h:Wz P L i)(hi:¬i<P.length-1-i):L=P.reverse:=by
 apply Ye;intro k;by_cases hk:k<P.length
 ·rw[h.2 k hk,List.getElem?_reverse hk];split
  ·rfl
  ·congr 1
   omega
 rw[zYb (by rw[h.1];omega),zYb (by simp;omega)]
section
variable {p g:Nat}{l:List Cl}{H:Aa}
theorem Vfz (h:Ds H p g l)(hp:0<l.length)(hl:l.length<1000000000):Ua0 (dV p g l.length) H=some (.ret (.tup []),BR H p g l.reverse):=by
 have hw:IntKind.i64.wrap ((l.length:Int)-1)=((l.length-1:Nat):Int):=by rw[Am]<;>omega
 have bG:A7 (dV p g l.length)=some (.i6 (l.length:Int)):=rfl;unfold Ua0;simp only[bG,GMw,hw];have key:=E8 (G:=λrec1 vs H1=>UaX H rec1 (ag vs 0) (ag vs 1) (ag vs 2) H1) (σ:=Nat×List Cl)
  (λs vs H1=>(Wz l s.2 s.1/\2*s.1<=l.length)/\vs=[dV p g l.length,.i6 (s.1:Int),.i6 ((l.length:Int)-1-(s.1:Int))]/\H1=BR H p g s.2) (λs=>l.length-s.1) (λs=>¬s.1<l.length-1-s.1) (λs vs H1 hI hd=>?_)
  (s:=(0,l)) (vs:=[dV p g l.length,.i6 0,.i6 ((l.length-1:Nat):Int)]) (H:=H) ⟨⟨⟨rfl,λk hk=>by rw[if_neg (by omega)]⟩,WZ _⟩,by dsimp only;rw[show(l.length:Int)-1-((0:Nat):Int)=((l.length-1:Nat):Int)by omega];rfl,(CS h).symm⟩ (by dsimp only;omega)
 obtain⟨⟨i,L⟩,vs,H1,hd,⟨⟨ht,hi⟩,rfl,rfl⟩,rec,aB⟩:=key;dsimp only at ht hi hd aB;have d1:decide ((i:Int)<(l.length:Int)-1-(i:Int))=false:=zXd (by omega);rw[aB];unfold UaX;simp only[Ao,Aj,Bf,Bj,GMw,d1];rw[ht.done hd]
 ·obtain⟨i,L⟩:=s;obtain⟨⟨ht,hi⟩,rfl,rfl⟩:=hI;dsimp only at ht hi hd⊢;have hr:Ds (BR H p g L) p g L:=Dw h;have hlt:i<l.length-1-i:=by omega
  have hLl:=ht.1;have i1:i<L.length:=by omega
  have i2:l.length-1-i<L.length:=by omega
  have e:(l.length:Int)-1-(i:Int)=((l.length-1-i:Nat):Int):=by omega
  have d1:decide ((i:Int)<((l.length-1-i:Nat):Int))=true:=zXc (by omega);have cD:=Au (show i<9223372036854775807 by omega);have bZ:IntKind.i64.wrap (((l.length-1-i:Nat):Int)-1)=(l.length:Int)-1-((i+1:Nat):Int):=by rw[Am]<;>omega
  obtain⟨s1,s2⟩:=Td hr i1 i2;rw[BD]at s1 s2;rw[BD]at s2;refine⟨(i+1,swp L i (l.length-1-i)),_,_,by dsimp only;omega,⟨⟨ht.step hlt,by dsimp only;omega⟩,rfl,rfl⟩,λrec=>?_⟩;unfold UaX;simp only[Ao,Aj,Bf,Bj,GMw,e,d1,Cc (show i<l.length by omega),Cc (show l.length-1-i<l.length by omega),CH hr i1,CH hr i2,B3,s1,s2,BF,AM,cD,bZ]
theorem Vn8 {f:Ab}{l0:List Cl}(hf1:UB AE f l0)(hf2:Vc f l0)(h:Ds H p g l)(hm:∀c∈l,c∈l0)(hl:l.length<1000000000):∃S,EI ltC S/\FL ltC l S/\S.length=l.length/\Ua9 (dV p g l.length) f H=some (.ret (.tup []),BR H p g S):=by
 obtain⟨S,s1,s2,s3,s4⟩:=Ve0 hf1 hf2 h hm hl;refine⟨S,s1,s2,s3,?_⟩;have bG:A7 (dV p g l.length)=some (.i6 (l.length:Int)):=rfl;unfold Ua9;simp only[bG,GMw,s4]
def RwT (H:Aa)(p g:Nat)(l:List Cl)(r:List Ab):Prop:=H[p]? = some (.buf g (flat cCl l++r) AI 5)
theorem Ds.t (h:Ds H p g l):RwT H p g l []:=by unfold RwT;rw[WU];exact h

end
theorem VcZ (lt:Cl->Cl->Bool)(y:Cl):∀(P:List Cl)(x:Cl),cpL lt (P++[x]++[y])=if BI lt y x then cpL lt (P++[x])else cpL lt (P++[x])++[y]:=by
 have key:∀(t:List Cl)(a x:Cl),cpF lt a (t++[x]++[y])=if BI lt y x then cpF lt a (t++[x])else cpF lt a (t++[x])++[y]:=by
  intro t
  induction t with
  |nil=>
   intro a x;show(if BI lt x a then cpF lt x [y]else x::cpF lt x [y])=if BI lt y x then (if BI lt x a then cpF lt x []else x::cpF lt x [])else (if BI lt x a then cpF lt x []else x::cpF lt x [])++[y]
   have e:cpF lt x [y]=if BI lt y x then []else [y]:=rfl
   rw[e];cases BI lt x a<;>cases BI lt y x<;>rfl
  |cons b t ih=>
   intro a x;have ihb:=ih b x;show(if BI lt b a then cpF lt b (t++[x]++[y])else b::cpF lt b (t++[x]++[y]))=if BI lt y x then (if BI lt b a then cpF lt b (t++[x])else b::cpF lt b (t++[x]))else (if BI lt b a then cpF lt b (t++[x])else b::cpF lt b (t++[x]))++[y]
   rw[ihb];cases BI lt b a<;>cases BI lt y x<;>rfl
 intro P x;cases P with
 |nil=>
  show x::cpF lt x [y]=if BI lt y x then [x]else [x]++[y]
  have e:cpF lt x [y]=if BI lt y x then []else [y]:=rfl
  rw[e];cases BI lt y x<;>rfl
 |cons a P=>
  show a::cpF lt a (P++[x]++[y])=if BI lt y x then a::cpF lt a (P++[x])else (a::cpF lt a (P++[x]))++[y]
  rw[key];cases BI lt y x<;>rfl
theorem Vmh (lt:Cl->Cl->Bool):∀l:List Cl,(cpL lt l).length<=l.length:=by
 have key:∀(t:List Cl)(a:Cl),(cpF lt a t).length<=t.length:=by
  intro t
  induction t with
  |nil=>intro a;exact W7 _
  |cons b t ih=>intro a;have:=ih b;unfold cpF;split;simp only[zXj];omega;simp only[zXj];omega
 intro l;cases l with|nil=>exact W7 _|cons a t=>have:=key t a;show(cpF lt a t).length+1<=t.length+1;omega
def zCl:List Ab:=[.bool false,.sl [] .ti,.bool false,.sl [] .ti,.int .u8 0]
theorem VeQ (n:Nat):(M7 n zCl).all Ab.isScal=true:=by
 unfold M7
 induction n with
 |zero=>rfl
 |succ n ih=>rw[zXm,List.flatten_cons,Zl,ih];rfl
theorem VhN (n:Nat):(M7 n zCl).length=n*5:=by
 unfold M7
 induction n with
 |zero=>rfl
 |succ n ih=>rw[zXm,List.flatten_cons,WC,ih,show zCl.length=5 from rfl];omega
theorem VdN {L:List Cl}{k:Nat}(hk:k<=L.length):(flat cCl L).take (k*5)=flat cCl (L.take k)/\(flat cCl L).drop (k*5)=flat cCl (L.drop k):=by
 have h1:flat cCl L=flat cCl (L.take k)++flat cCl (L.drop k):=by rw[<-RM,Xk]
 have h2:(flat cCl (L.take k)).length=k*5:=by rw[Fv,WN,X4 hk]
 rw[h1];exact⟨by rw[<-h2,YH],by rw[<-h2,YI]⟩
section
variable {p g:Nat}{l:List Cl}{H:Aa}{r:List Ab}
theorem V4 {L:List Cl}{k:Nat}(h:RwT H p g L r)(hk:k<=L.length):∃G r',Lo 5 (some zCl) (.ms p g (k*5) (L.length-k) (L.length-k) 5 false) H=some G/\RwT G p g (L.take k) r'/\(∀i,i≠p->G[i]? = H[i]?)/\G.length=H.length:=by
 unfold Lo;by_cases h0:L.length-k=0;have:L.take k=L:=WH (by omega);simp only[h0,if_true];exact⟨H,r,rfl,by rw[this];exact h,λ_ _=>rfl,rfl⟩
 ·have bL:p<H.length:=(W5.1 h).1;have bB:AC H p g=some (flat cCl L++r):=by unfold RwT at h;simp[AC,h]
  have hac:(Ab.agg (M7 (L.length-k) zCl)).acells=some (M7 (L.length-k) zCl):=by show(if (M7 (L.length-k) zCl).all Ab.isScal=true then _ else _)=_;rw[if_pos (VeQ _)]
  have eL:(flat cCl L).length=L.length*5:=Fv L;have aI:∀cs,Ga H p g cs=H.set p (.buf g cs AI 5):=λcs=>by unfold RwT at h;unfold Ga;rw[h]
  simp only[h0,if_false,zXa,if_true,Ai,bB,hac,VhN,WC,eL];rw[if_pos ⟨trivial,by omega⟩,aI];refine⟨_,(M7 (L.length-k) zCl)++r,rfl,?_,λi hi=>?_,by rw[zYa]⟩;unfold RwT;rw[WJ bL];have e1:D7 (flat cCl L++r) (k*5) ((L.length-k)*5) (M7 (L.length-k) zCl)=flat cCl (L.take k)++(M7 (L.length-k) zCl++r):=(by unfold D7;rw[XI (by omega),(VdN hk).1,show k*5+(L.length-k)*5=(flat cCl L).length by omega,YI,WD]);rw[e1];rw[WA (Ne.symm hi)]
theorem VdU {f:Ab}{k0:Nat}{H0:Aa}(hf:∀c∈l,∀d∈l,∀H,DV AO f [.agg (cCl c),.agg (cCl d)] H=some (.ret (.bool (BI ltC c d)),H))
  (h:Ds H p g l)(h1:1<=k0)(h2:k0<l.length)(h3:cpL ltC (l.take k0)=l.take k0)(h4:BI ltC l[k0] (l[k0-1]'(by omega))=true)(hl:l.length<1000000000):∃G r,Al (λaA vs H1=>UaA H0 aA (ag vs 0) (ag vs 1) (ag vs 2) (ag vs 3) (ag vs 4) H1) AU [dV p g l.length,f,.i6 (k0:Int),.ms p g (k0*5) (l.length-k0) (l.length-k0) 5 false,.i6 1] H =
   some (.ret (.ms p g 0 (cpL ltC l).length l.length 5 false),G)/\RwT G p g (cpL ltC l) r/\(∀i,i≠p->G[i]? = H[i]?)/\G.length=H.length:=by
 have eA:∀m (nW:1<=m) (hm:m<l.length),cpL ltC (l.take (m+1))=if BI ltC l[m] (l[m-1]'(by omega))then cpL ltC (l.take m)else cpL ltC (l.take m)++[l[m]]:=λm nW hm=>by obtain⟨j,rfl⟩:∃j,m=j+1:=⟨m-1,by omega⟩;have:=VcZ ltC l[j+1] (l.take j) (l[j]'(by omega));rw[<-WF (by omega:j<l.length),<-WF hm]at this;exact this
 have key:=E8 (G:=λaA vs H1=>UaA H0 aA (ag vs 0) (ag vs 1) (ag vs 2) (ag vs 3) (ag vs 4) H1) (σ:=Nat×List Cl)
  (λs vs H1=>(k0+1<=s.1/\s.1<=l.length/\s.2.length=l.length/\(cpL ltC (l.take s.1)).length<=s.1-1/\s.2.take (cpL ltC (l.take s.1)).length=cpL ltC (l.take s.1)/\s.2.drop (s.1-1)=l.drop (s.1-1)) /\
   vs=[dV p g l.length,f,.i6 ((cpL ltC (l.take s.1)).length:Int),.ms p g (k0*5) (l.length-k0) (l.length-k0) 5 false,.i6 ((s.1-k0:Nat):Int)]/\H1=BR H p g s.2) (λs=>l.length-s.1) (λs=>¬s.1<l.length) (λs vs H1 hI hd=>?_)
  (s:=(k0+1,l)) (vs:=[dV p g l.length,f,.i6 (k0:Int),.ms p g (k0*5) (l.length-k0) (l.length-k0) 5 false,.i6 1]) (H:=H)
  (by have e1:cpL ltC (l.take (k0+1))=l.take k0:=(by rw[eA k0 h1 h2,h4,if_pos rfl,h3]);have e2:(l.take k0).length=k0:=(by rw[WN];omega);dsimp only;rw[e1,e2];exact⟨⟨W7 _,h2,rfl,by omega,rfl,by rw[WQ]⟩,by rw[Nat.add_sub_cancel_left];rfl,(CS h).symm⟩) (by dsimp only;omega)
 ·obtain⟨⟨m,L⟩,vs,H1,hd,⟨⟨i1,i2,i3,i4,i5,i6⟩,rfl,rfl⟩,rec,aB⟩:=key;dsimp only at i1 i2 i3 i4 i5 i6 hd aB;have em:m=l.length:=by omega
  subst em;rw[WH (W7 _)]at i4 i5 aB;have hr:RwT (BR H p g L) p g L []:=(Dw h).t;obtain⟨G,r,g1,g2,g3,g4⟩:=V4 (k:=(cpL ltC l).length) hr (by omega);rw[i3]at g1;rw[i5]at g2;have d1:decide (((l.length-k0:Nat):Int)<((l.length-k0:Nat):Int))=false:=zXd (by omega);have bG:A7 (.ms p g (k0*5) (l.length-k0) (l.length-k0) 5 false)=some (.i6 ((l.length-k0:Nat):Int)):=rfl;have s1:B5 5 (dV p g l.length) (some (.i6 ((cpL ltC l).length:Int))) none none=some (.ms p g ((cpL ltC l).length*5) (l.length-(cpL ltC l).length) (l.length-(cpL ltC l).length) 5 false):=by have:(cpL ltC l).length<=l.length:=(by omega);simp[B5,B2,this]
  have s2:B5 5 (dV p g l.length) none (some (.i6 ((cpL ltC l).length:Int))) none=some (.ms p g 0 (cpL ltC l).length l.length 5 false):=by have:(cpL ltC l).length<=l.length:=(by omega);simp[B5,B2,this]
  refine⟨G,r,?_,g2,λi hi=>?_,?_⟩;rw[aB];unfold UaA;simp only[Ao,Aj,Bf,Bj,B6,BQ,GMw,bG,d1,s1,s2];rw[show [Ab.bool false,.sl [] .ti,.bool false,.sl [] .ti,.int .u8 0]=zCl from rfl,g1];simp only[GMw,AM,Ez,forget,ED,fgt];rw[g3 i hi];unfold BR;rw[WA (Ne.symm hi)];rw[g4];unfold BR;rw[zYa]
 ·obtain⟨m,L⟩:=s;obtain⟨⟨i1,i2,i3,i4,i5,i6⟩,rfl,rfl⟩:=hI;dsimp only at i1 i2 i3 i4 i5 i6 hd⊢;have hm:m<l.length:=by omega
  have hr:Ds (BR H p g L) p g L:=Dw h;have hLm:m<L.length:=by omega
  have hLm1:m-1<L.length:=by omega
  have e1:L[m]=l[m]:=by have:=congrArg (λx=>x[1]?) i6;simp only[Xh]at this;rw[show m-1+1=m by omega,W4 hLm,W4 hm]at this;exact Yf this
  have e2:L[m-1]=l[m-1]:=by have:=congrArg (λx=>x[0]?) i6;simp only[Xh,Nat.add_zero]at this;rw[W4 hLm1,W4 (by omega)]at this;exact Yf this
  have bG:A7 (.ms p g (k0*5) (l.length-k0) (l.length-k0) 5 false)=some (.i6 ((l.length-k0:Nat):Int)):=rfl;have d1:decide (((m-k0:Nat):Int)<((l.length-k0:Nat):Int))=true:=zXc (by omega);have cD:IntKind.i64.wrap (((m-k0:Nat):Int)-1)=((m-k0-1:Nat):Int):=by rw[Am]<;>omega
  have bZ:IntKind.i64.wrap (((m-k0:Nat):Int)+1)=((m+1-k0:Nat):Int):=by rw[Am]<;>omega
  have x1:Av 5 (.ms p g (k0*5) (l.length-k0) (l.length-k0) 5 false) (.i6 ((m-k0:Nat):Int))=some (.ptr p g (m*5)):=by rw[Db (by omega),<-Xr,show k0+(m-k0)=m by omega]
  have x2:Av 5 (.ms p g (k0*5) (l.length-k0) (l.length-k0) 5 false) (.i6 ((m-k0-1:Nat):Int))=some (.ptr p g ((m-1)*5)):=by rw[Db (by omega),<-Xr,show k0+(m-k0-1)=m-1 by omega]
  have c1:=hf l[m] (WI hm) (l[m-1]'(by omega)) (WI _);have eR:=eA m (by omega) hm;have l1:=CH hr hLm;have l2:=CH hr hLm1;rw[e1]at l1;rw[e2]at l2;cases he:BI ltC l[m] (l[m-1]'(by omega))with
  |true=>rw[he,if_pos rfl]at eR;refine⟨(m+1,L),_,_,by dsimp only;omega,⟨⟨by dsimp only;omega,by dsimp only;omega,i3,by dsimp only;rw[eR];omega,by dsimp only;rw[eR];exact i5,by dsimp only;rw[WQ];have:=congrArg (List.drop 1) i6;rw[X6,X6,show m-1+1=m by omega]at this;exact this⟩,rfl,rfl⟩,λrec=>?_⟩;rw[he]at c1;unfold UaA Uea;simp only[Ao,Aj,Bf,Bj,B6,BQ,GMw,bG,d1,cD,x1,x2,l1,l2,B3,c1,BF,bZ,eR]
  |false=>
   rw[he]at eR;simp only[WB,if_false]at eR;have hk:(cpL ltC (l.take m)).length<L.length:=(by omega);have gB:=Au (show(cpL ltC (l.take m)).length<9223372036854775807 by omega);have hst:=VeL hr hk l[m];rw[BD]at hst;refine⟨(m+1,L.set (cpL ltC (l.take m)).length l[m]),_,_,by dsimp only;omega,⟨⟨by dsimp only;omega,by dsimp only;omega,by dsimp only;rw[zYa];exact i3,by dsimp only;rw[eR];simp;omega,by
     dsimp only;rw[eR,WC,zXi,WF (by rw[zYa];omega),Zm,List.take_set_of_le (W7 _),i5],by
     dsimp only;rw[WQ,List.drop_set_of_lt (by omega)];have:=congrArg (List.drop 1) i6;rw[X6,X6,show m-1+1=m by omega]at this;exact this⟩,rfl,rfl⟩,λrec=>?_⟩
   rw[he]at c1;unfold UaA Uea;simp only[Ao,Aj,Bf,Bj,B6,BQ,GMw,bG,d1,cD,x1,x2,l1,l2,B3,c1,BF,Cc (show(cpL ltC (l.take m)).length<l.length by omega),hst,AM,gB,bZ,eR,WC,zXi]

end
def VlZ (l:List Cl)(k:Nat):Bool:=match l[k]?,l[k-1]? with
 |some a,some b=>BI ltC a b
 |_,_=>false
theorem VcS {l:List Cl}{k:Nat}(hk:k<l.length)(hk1:k-1<l.length):VlZ l k=BI ltC l[k] l[k-1]:=by unfold VlZ;rw[W4 hk,W4 hk1]
section
variable {p g:Nat}{l:List Cl}{H:Aa}{r:List Ab}{f:Ab}
theorem Vf1 (hf:∀c∈l,∀d∈l,∀H,DV AO f [.agg (cCl c),.agg (cCl d)] H=some (.ret (.bool (BI ltC c d)),H))
  (h:Ds H p g l)(hl:l.length<1000000000):∃G r,Uaj (dV p g l.length) f H=some (.ret (.ms p g 0 (cpL ltC l).length l.length 5 false),G)/\RwT G p g (cpL ltC l) r/\(∀i,i≠p->G[i]? = H[i]?)/\G.length=H.length:=by
 have bG:A7 (dV p g l.length)=some (.i6 (l.length:Int)):=rfl;have eA:∀m (nW:1<=m) (hm:m<l.length),cpL ltC (l.take (m+1))=if BI ltC l[m] (l[m-1]'(by omega))then cpL ltC (l.take m)else cpL ltC (l.take m)++[l[m]]:=λm nW hm=>by obtain⟨j,rfl⟩:∃j,m=j+1:=⟨m-1,by omega⟩;have:=VcZ ltC l[j+1] (l.take j) (l[j]'(by omega));rw[<-WF (by omega:j<l.length),<-WF hm]at this;exact this
 unfold Uaj;by_cases h2:l.length<2
 ·have d2:decide ((l.length:Int)<2)=true:=zXc (by omega);have e:cpL ltC l=l:=by
   match l,h2 with
   |[],_=>rfl
   |[c],_=>rfl
   |_::_::_,h2=>simp only[zXj]at h2;omega
  refine⟨H,[],?_,by rw[e];exact h.t,λ_ _=>rfl,rfl⟩;simp only[bG,GMw,d2,Ez,forget,ED,fgt];rw[e]
 ·have d2:decide ((l.length:Int)<2)=false:=zXd (by omega);have key:=E8 (G:=λrec1 vs H1=>Ubb H rec1 (ag vs 0) (ag vs 1) (ag vs 2) H1) (σ:=Nat)
   (λk vs H1=>(1<=k/\k<=l.length/\cpL ltC (l.take k)=l.take k)/\vs=[dV p g l.length,f,.i6 (k:Int)]/\H1=H) (λk=>l.length-k) (λk=>k<l.length->VlZ l k=true) (λk vs H1 hI hd=>?_)
   (s:=1) (vs:=[dV p g l.length,f,.i6 1]) (H:=H) ⟨⟨W7 _,by omega,by
    cases l with
    |nil=>simp at h2
    |cons c l=>rfl⟩,rfl,rfl⟩ (by omega)
  obtain⟨k,vs,H1,hd,⟨⟨i1,i2,i3⟩,rfl,rfl⟩,rec,aB⟩:=key;simp only[bG,GMw,d2];rw[aB];by_cases hk:k<l.length;have hk1:k-1<l.length:=(by omega);have jI:=hd hk;rw[VcS hk hk1]at jI;obtain⟨G,r,g1,g2,g3,g4⟩:=VdU (H0:=H1) hf h i1 hk i3 jI hl;refine⟨G,r,?_,g2,g3,g4⟩;have d1:decide ((k:Int)<(l.length:Int))=true:=zXc (by omega);have cD:IntKind.i64.wrap ((k:Int)-1)=((k-1:Nat):Int):=(by rw[Am]<;>omega);have c1:=hf l[k] (WI hk) l[k-1] (WI hk1);rw[jI]at c1;have s1:B5 5 (dV p g l.length) (some (.i6 (k:Int))) none none=some (.ms p g (k*5) (l.length-k) (l.length-k) 5 false):=(by have:k<=l.length:=(by omega);simp[B5,B2,this]);unfold Ubb;simp only[Ao,Aj,Bf,Bj,GMw,bG,d1,cD,Cc hk,Cc (show k-1<l.length by omega),CH h hk,CH h (show k-1<l.length by omega),B3,c1,s1];exact g1;have d1:decide ((k:Int)<(l.length:Int))=false:=zXd (by omega);have e:cpL ltC l=l:=(by rw[WH (by omega)]at i3;exact i3);refine⟨H1,[],?_,by rw[e];exact h.t,λ_ _=>rfl,rfl⟩;unfold Ubb;simp only[Ao,Aj,Bf,Bj,GMw,bG,d1,Ez,forget,ED,fgt];rw[e];obtain⟨⟨i1,i2,i3⟩,rfl,rfl⟩:=hI;have hk:k<l.length:=(by rcases Xj k l.length with q | q;exact q;exact absurd (λhk=>absurd hk (by omega)) hd);have hk1:k-1<l.length:=(by omega);have he:BI ltC l[k] l[k-1]=false:=(by cases e:BI ltC l[k] l[k-1]with|false=>rfl|true=>exact absurd (λ_=>by rw[VcS hk hk1];exact e) hd);have d1:decide ((k:Int)<(l.length:Int))=true:=zXc (by omega);have cD:IntKind.i64.wrap ((k:Int)-1)=((k-1:Nat):Int):=(by rw[Am]<;>omega);have bZ:=Au (show k<9223372036854775807 by omega);have c1:=hf l[k] (WI hk) l[k-1] (WI hk1);rw[he]at c1;refine⟨k+1,_,_,by omega,⟨⟨by omega,hk,by rw[eA k i1 hk,if_neg (by rw[he];decide),i3,WF hk]⟩,rfl,rfl⟩,λrec=>?_⟩;unfold Ubb;simp only[Ao,Aj,Bf,Bj,GMw,bG,d1,cD,Cc hk,Cc (show k-1<l.length by omega),CH h hk,CH h (show k-1<l.length by omega),B3,c1,bZ]
theorem Tf (h:RwT H p g l r):AC H p g=some (flat cCl l++r):=by unfold RwT at h;simp[AC,h]
theorem VaH {i:Nat}(h:RwT H p g l r)(hi:i<l.length):Ad true 5 (.ptr p g (i*5)) H=some (.agg (cCl l[i])):=by
 have h1:=Lg (f:=cCl) (sz:=5) hi;have h2:=S7 (f:=cCl) (sz:=5) hi;have h3:((flat cCl l++r).drop (i*5)).take 5=cCl l[i]:=by rw[Yc (by omega),XI (by rw[WS];omega),h2]
 simp only[Ad,Tf h,zXa,if_true,h3];rw[if_pos (by rw[WC];omega)]
theorem VkI {i:Nat}(h:RwT H p g l r)(hi:i<l.length)(a:Cl):∃G,Ai 5 (.ptr p g (i*5)) (.agg (cCl a)) H=some G/\RwT G p g (l.set i a) r/\(∀i,i≠p->G[i]? = H[i]?)/\G.length=H.length:=by
 have bL:p<H.length:=(W5.1 h).1;have h1:=Lg (f:=cCl) (sz:=5) hi;have hs:=TV (f:=cCl) (sz:=5) (a:=a) hi;have aI:∀cs,Ga H p g cs=H.set p (.buf g cs AI 5):=λcs=>by unfold RwT at h;unfold Ga;rw[h]
 have hp:D7 (flat cCl l++r) (i*5) 5 (cCl a)=flat cCl (l.set i a)++r:=by rw[<-hs];unfold D7;rw[XI (by omega),Yc (by omega)];simp only[WD]
 refine⟨H.set p (.buf g (flat cCl (l.set i a)++r) AI 5),?_,?_,λj hj=>by rw[WA (Ne.symm hj)],by rw[zYa]⟩;simp only[Ai,Tf h,zXa,NY,show(cCl a).length=5 from rfl];rw[if_pos ⟨trivial,by rw[WC];omega⟩,aI,hp];unfold RwT;rw[WJ bL]
theorem RwT.push (h:RwT H p g l r)(G:Aa):RwT (H++G) p g l r:=by have bL:p<H.length:=(W5.1 h).1;unfold RwT at h⊢;rw[W8 bL];exact h
def z0 (c:Cl):Bool:=decide (c.s=0)
theorem VlK {cap:Nat}(hf:∀c∈l,∀H,DV AK f [.agg (cCl c)] H=some (.ret (.bool (z0 c)),H))(h:RwT H p g l r)(hl:l.length<1000000000):UeO (.ms p g 0 l.length cap 5 false) f H=some (.ret (.i6 (match l.findIdx? z0 with | some i=>(i:Int) | none=>-1)),H):=by
 have bG:A7 (.ms p g 0 l.length cap 5 false)=some (.i6 (l.length:Int)):=rfl;unfold UeO;simp only[bG,GMw];have key:=Bv (G:=λrec1 vs H1=>UeY H rec1 (ag vs 0) (ag vs 1) (ag vs 2) (ag vs 3) H1) (σ:=Nat) (λi=>i<=l.length/\(l.take i).findIdx? z0=none)
  (λi=>[.ms p g 0 l.length cap 5 false,f,.i6 (l.length:Int),.i6 (i:Int)]) (λ_=>H) (λi=>l.length-i) (λ_=>some (.ret (.i6 (match l.findIdx? z0 with | some i=>(i:Int) | none=>-1)),H)) (λi rec hi hrec=>?_) 0 ⟨WZ _,rfl⟩ (by omega)
 exact key
 ·obtain⟨h1,h2⟩:=hi;unfold UeY;by_cases hi:i<l.length;have d1:decide ((i:Int)<(l.length:Int))=true:=zXc (by omega);have x1:Av 5 (.ms p g 0 l.length cap 5 false) (.i6 (i:Int))=some (.ptr p g (i*5)):=(by rw[Db hi,W9]);have cJ:=Au (show i<9223372036854775807 by omega);have c1:=hf l[i] (WI hi);cases hz:z0 l[i]with|true=>rw[hz]at c1;have:l.findIdx? z0=some i:=(by rw[YD];refine⟨hi,hz,λj hj=>?_⟩;rw[YU]at h2;have:=h2 l[j] (by rw[List.mem_take_iff_getElem];exact⟨j,by omega,rfl⟩);simpa using this);simp only[Ao,Aj,Bf,Bj,B6,GMw,d1,x1,VaH h hi,c1,this]|false=>rw[hz]at c1;simp only[Ao,Aj,Bf,Bj,B6,GMw,d1,x1,VaH h hi,c1,cJ];refine hrec (i+1) ⟨hi,?_⟩ (by omega);rw[WF hi,List.findIdx?_append,h2];simp[hz]
  have d1:decide ((i:Int)<(l.length:Int))=false:=zXd (by omega);rw[WH (by omega)]at h2;simp only[Ao,Aj,Bf,Bj,B6,GMw,d1,h2]

end
theorem Vjg {α:Type}{f:α->List Ab}{sz:Nat}[hf:Sz f sz][hp:Pl f]{H:Aa}{l:List α}{r:List Ab}{id b d cap:Nat}{ex:Bool}(hg:AC H id 0=some (flat f l++r))(hi:b<=id):HI H b (d+3) (.ms id 0 0 l.length cap sz ex)=some (.sl (enL f l) .no):=by
 have h1:¬id<b:=by omega
 have h2:l.length*sz<=(flat f l++r).length:=by rw[WC,Fv];omega
 have h3:(flat f l++r).take (l.length*sz)=flat f l:=by rw[<-Fv (f:=f) (sz:=sz) l,YH]
 unfold HI;simp only[frz,h1,if_false,hg,zXa,XP,W9,h2,if_true,h3,HG (NR (f:=f) l),PC (f:=f) l,MZ,zXb,forget,ED,fgt]
section
variable {p g:Nat}{l:List Cl}{H:Aa}{r:List Ab}{f:Ab}
def kp (c:Cl):Bool:=decide (c.s≠0)
theorem VnT (c:Cl):kp c = !z0 c:=by unfold kp z0;by_cases h:c.s=0<;>simp[h]
theorem Vix {cap:Nat}(hf:∀c∈l,∀H,DV AK f [.agg (cCl c)] H=some (.ret (.bool (z0 c)),H))(hf2:∀c∈l,∀H,DV Bg f [.agg (cCl c)] H=some (.ret (.bool (z0 c)),H))
  (h:RwT H p g l r)(hc:l.length<=cap)(hl:cap<1000000000):∃G r',Uak (.ms p g 0 l.length cap 5 false) f H=some (.ret (.ms p g 0 (l.filter kp).length cap 5 false),G)/\RwT G p g (l.filter kp) r'/\(∀i,i<H.length->i≠p->G[i]? = H[i]?)/\H.length<=G.length:=by
 have dO:=VlK (cap:=cap) hf h (by omega);have bG:A7 (.ms p g 0 l.length cap 5 false)=some (.i6 (l.length:Int)):=rfl;unfold Uak;cases dW:l.findIdx? z0 with
 |none=>
  rw[dW]at dO;have e:l.filter kp=l:=by rw[Zt];intro c hc;rw[YU]at dW;rw[VnT,dW c hc];rfl
  refine⟨H,r,?_,by rw[e];exact h,λ_ _ _=>rfl,W7 _⟩;have hb:((-1:Int) == -1)=true:=rfl;simp only[GMw,dO,hb,Ez,forget,ED,fgt];rw[e]
 |some i0=>
  rw[dW]at dO;rw[YD]at dW;obtain⟨jH,mE,rM⟩:=dW;have hb:(((i0:Nat):Int) == -1)=false:=by rw[beq_eq_false_iff_ne];omega
  have hw0:=Au (show i0<9223372036854775807 by omega);have ef:(l.take (i0+1)).filter kp=l.take i0:=by rw[WF jH,Xq];have e1:(l.take i0).filter kp=l.take i0:=(by rw[Zt];intro c hc;rw[List.mem_take_iff_getElem]at hc;obtain⟨j,hj,rfl⟩:=hc;rw[VnT];have:=rM j (by omega);simpa using this);have e2:[l[i0]].filter kp=[]:=(by simp[Xy,VnT,mE]);rw[e1,e2,WU]
  have key:=E8 (G:=λrec1 vs H1=>Ubc H rec1 (ag vs 0) (ag vs 1) (ag vs 2) (ag vs 3) H1) (σ:=Nat×List Cl)
   (λs vs K=>(i0+1<=s.1/\s.1<=l.length/\s.2.length=l.length/\((l.take s.1).filter kp).length<s.1/\s.2.take ((l.take s.1).filter kp).length=(l.take s.1).filter kp/\s.2.drop s.1=l.drop s.1) /\
    (RwT K p g s.2 r/\(∀i,i<H.length->i≠p->K[i]? = H[i]?)/\H.length<=K.length)/\vs=[.ms p g 0 l.length cap 5 false,f,.i6 (((l.take s.1).filter kp).length:Int),.i6 (s.1:Int)]) (λs=>l.length-s.1) (λs=>¬s.1<l.length) (λs vs K hI hd=>?_)
   (s:=(i0+1,l)) (vs:=[.ms p g 0 l.length cap 5 false,f,.i6 (i0:Int),.i6 ((i0+1:Nat):Int)]) (H:=H)
   (by have e2:(l.take i0).length=i0:=(by rw[WN];omega);dsimp only;rw[ef,e2];exact⟨⟨W7 _,jH,rfl,by omega,rfl,rfl⟩,⟨h,λ_ _ _=>rfl,W7 _⟩,rfl⟩) (by dsimp only;omega)
  obtain⟨⟨j,L⟩,vs,K,hd,⟨⟨i1,i2,i3,i4,i5,i6⟩,⟨k1,k2,k3⟩,rfl⟩,rec,aB⟩:=key;dsimp only at i1 i2 i3 i4 i5 i6 k1 hd aB;have ej:j=l.length:=(by omega);subst ej;rw[WH (W7 _)]at i4 i5 aB;obtain⟨G,r',g1,g2,g3,g4⟩:=V4 (k:=(l.filter kp).length) k1 (by omega);rw[i3]at g1;rw[i5]at g2;have d1:decide ((l.length:Int)<(l.length:Int))=false:=zXd (by omega);have s1:B5 5 (.ms p g 0 l.length cap 5 false) (some (.i6 ((l.filter kp).length:Int))) none none=some (.ms p g ((l.filter kp).length*5) (l.length-(l.filter kp).length) (cap-(l.filter kp).length) 5 false):=(by have:(l.filter kp).length<=l.length:=(by omega);simp[B5,B2,this,hc]);have s2:B5 5 (.ms p g 0 l.length cap 5 false) none (some (.i6 ((l.filter kp).length:Int))) none=some (.ms p g 0 (l.filter kp).length cap 5 false):=(by have:(l.filter kp).length<=cap:=(by omega);simp[B5,B2,this]);have g1':Lo 5 (some zCl) (.ms p g ((l.filter kp).length*5) (l.length-(l.filter kp).length) (cap-(l.filter kp).length) 5 false) K=some G:=g1;refine⟨G,r',?_,g2,λi hi hne=>by rw[g3 i hne];exact k2 i hi hne,by omega⟩;simp only[GMw,dO,hb,hw0];rw[aB];unfold Ubc;simp only[Ao,Aj,Bf,Bj,B6,GMw,bG,d1,s1,s2];rw[show [Ab.bool false,.sl [] .ti,.bool false,.sl [] .ti,.int .u8 0]=zCl from rfl,g1'];simp only[GMw,AM,Ez,forget,ED,fgt]
  ·obtain⟨j,L⟩:=s;obtain⟨⟨i1,i2,i3,i4,i5,i6⟩,⟨k1,k2,k3⟩,rfl⟩:=hI;dsimp only at i1 i2 i3 i4 i5 i6 k1 hd⊢;have hj:j<l.length:=(by omega);have hLj:j<L.length:=(by omega);have ej:L[j]=l[j]:=(by have:=congrArg (λx=>x[0]?) i6;simp only[Xh,Nat.add_zero]at this;rw[W4 hLj,W4 hj]at this;exact Yf this);have edr:L.drop (j+1)=l.drop (j+1):=(by have:=congrArg (List.drop 1) i6;rw[X6,X6]at this;exact this);have d1:decide ((j:Int)<(l.length:Int))=true:=zXc (by omega);have x1:Av 5 (.ms p g 0 l.length cap 5 false) (.i6 (j:Int))=some (.ptr p g (j*5)):=(by rw[Db hj,W9]);have tE:=Au (show j<9223372036854775807 by omega);have ld:=VaH k1 hLj;rw[ej]at ld;have al:A0 (some [.bool false,.sl [] .ti,.bool false,.sl [] .ti,.int .u8 0]) K=some (.ptr K.length 0 0,K++[.c0 zCl]):=alloc_eq rfl;have stv:Ai 5 (.ptr K.length 0 0) (.agg (cCl l[j])) (K++[.c0 zCl])=some (K++[.c0 (cCl l[j])]):=by
    simp only[Ai,Ax An,zXa,NY,show(cCl l[j]).length=5 from rfl];rw[if_pos ⟨trivial,by simp[zCl]⟩,Bw An,Be]
    rfl
   have ldv:Ad true 5 (.ptr K.length 0 0) (K++[.c0 (cCl l[j])])=some (.agg (cCl l[j])):=(by simp only[Ad,Ax An,zXa];rfl);have c1:=hf2 l[j] (WI hj);have kr:=k1.push [.c0 (cCl l[j])];have eR:(l.take (j+1)).filter kp=(l.take j).filter kp++[l[j]].filter kp:=(by rw[WF hj,Xq]);cases hz:z0 l[j]with
   |true=>have e0:[l[j]].filter kp=[]:=(by simp[Xy,VnT,hz]);rw[e0,WU]at eR;rw[hz]at c1;refine⟨(j+1,L),_,K++[.c0 (cCl l[j])],by dsimp only;omega,⟨⟨by dsimp only;omega,hj,i3,by dsimp only;rw[eR];omega,by dsimp only;rw[eR];exact i5,edr⟩,⟨kr,λi hi hne=>by rw[W8 (by omega)];exact k2 i hi hne,by simp;omega⟩,rfl⟩,λrec=>?_⟩;unfold Ubc Ueb;simp only[Ao,Aj,Bf,Bj,B6,GMw,bG,d1,x1,ld,al,stv,ldv,AM,c1,tE,eR]
   |false=>
    have e0:[l[j]].filter kp=[l[j]]:=(by simp[Xy,VnT,hz]);rw[e0]at eR;rw[hz]at c1;have aE:((l.take j).filter kp).length<L.length:=(by omega);obtain⟨G,g1,g2,g3,g4⟩:=VkI kr aE l[j];have cJ:=Au (show((l.take j).filter kp).length<9223372036854775807 by omega);have x2:Av 5 (.ms p g 0 l.length cap 5 false) (.i6 (((l.take j).filter kp).length:Int))=some (.ptr p g (((l.take j).filter kp).length*5)):=(by rw[Db (by omega),W9]);have hGl:G.length=K.length+1:=(by rw[g4];simp);refine⟨(j+1,L.set ((l.take j).filter kp).length l[j]),_,G,by dsimp only;omega,⟨⟨by dsimp only;omega,hj,by dsimp only;rw[zYa];exact i3,by dsimp only;rw[eR];simp;omega,by
      dsimp only;rw[eR,WC,zXi,WF (by rw[zYa];omega),Zm,List.take_set_of_le (W7 _),i5],by
      dsimp only;rw[List.drop_set_of_lt (by omega)];exact edr⟩,⟨g2,λi hi hne=>by rw[g3 i hne,W8 (by omega)];exact k2 i hi hne,by omega⟩,rfl⟩,λrec=>?_⟩
    unfold Ubc Ueb;simp only[Ao,Aj,Bf,Bj,B6,GMw,bG,d1,x1,x2,ld,al,stv,ldv,AM,c1,g1,cJ,tE,eR,WC,zXi]

end
theorem MW {g:FuncId}{F:List Ab->Aa->Out}{o:Orc}{args:List Ab}{H:Aa}:DV (ent g F o) (.fn g []) args H=F args H:=by unfold DV ent;simp only[if_true,WU]
theorem SE {g g':FuncId}{F:List Ab->Aa->Out}{o:Orc}{args:List Ab}{H:Aa}(h:¬g'=g):DV (ent g F o) (.fn g' []) args H=DV o (.fn g' []) args H:=by unfold DV ent;simp only[h,if_false]
theorem Qf (F:Ab->Aa->Out)(a:Ab)(H:Aa):ap1 F [a] H=F a H:=rfl
theorem VbB (F:Ab->Ab->Aa->Out)(a b:Ab)(H:Aa):ap2 F [a,b] H=F a b H:=rfl
theorem Vml {l:List Cl}(hok:∀c∈l,c.ok):UB AE (.fn 144 []) l:=λc hc d hd K=>by unfold AE;rw[MW,VbB];exact VaR (hok c hc) (hok d hd) K
theorem Vmk {l:List Cl}(hok:∀c∈l,c.ok):Vc (.fn 144 []) l:=λself c hc d hd K=>by unfold Bk;rw[SE (by decide),MW,VbB];exact VaR (hok c hc) (hok d hd) K
theorem Vll {c d:Cl}(hc:c.ok)(hd:d.ok)(H:Aa):Uco (.agg (cCl c)) (.agg (cCl d)) H=some (.ret (.bool (BI ltC c d)),H):=by
 have e1:(H++[Blk.c0 (cCl c)]++[Blk.c0 (cCl d)])[H.length]? = some (.c0 (cCl c)):=by simp
 have e2:(H++[Blk.c0 (cCl c)]++[Blk.c0 (cCl d)])[(H++[Blk.c0 (cCl c)]).length]? = some (.c0 (cCl d)):=An;have ld:∀ {K:Aa} {p:Nat} {x:Cl},K[p]? = some (.c0 (cCl x))->Ad true 5 (.ptr p 0 0) K=some (.agg (cCl x)):=λh=>by simp only[Ad,Ax h,zXa];rfl
 have ho:=λK=>VaR hc hd K;have fin:∀q:Bool,rP H (.bool q) (H++[Blk.c0 (cCl c)]++[Blk.c0 (cCl d)])=some (.ret (.bool q),H):=λq=>GD rfl (by simp);have hb:(JY c d==0)=BI ltC c d:=by rw[<-VJ];rfl
 unfold Uco;simp only[GMw,Vhc,ld e1,ld e2,ho,hb,fin]
theorem Sw (c:Cl)(H:Aa):UaV (.agg (cCl c)) H=some (.ret (.bool (z0 c)),H):=by
 have ld:Ad false 1 (.ptr H.length 0 4) (H++[Blk.c0 (cCl c)])=some (.int .u8 (c.s.toNat:Int)):=by simp only[Ad,Ax An,zXa];rfl
 have fin:∀q:Bool,rP H (.bool q) (H++[Blk.c0 (cCl c)])=some (.ret (.bool q),H):=λq=>GD rfl (by simp);have hb:((c.s.toNat:Int)==0)=z0 c:=by
  unfold z0;by_cases h:c.s=0;rw[h];rfl
  rw[zXd h,beq_eq_false_iff_ne];intro e;exact h (XL.1 (by simpa using e))
 unfold UaV;simp only[GMw,Vhc,Ae,W9,ld,hb,fin]
theorem VlF (l:List Cl):(Dx l).filter kp=Bo l:=rfl
theorem VpB {l:List Cl}(hok:∀c∈l,c.ok):∀c∈l,∀d∈l,∀H,DV AO (.fn 146 []) [.agg (cCl c),.agg (cCl d)] H=some (.ret (.bool (BI ltC c d)),H):=λc hc d hd K=>by unfold AO;rw[MW,VbB];exact Vll (hok c hc) (hok d hd) K
theorem Vqf (c:Cl)(K:Aa):DV AK (.fn 148 []) [.agg (cCl c)] K=some (.ret (.bool (z0 c)),K):=by
 unfold AK
 first
  |rw[MW,Qf];exact Sw c K
  |rw[SE (by decide),MW,Qf];exact Sw c K
theorem VoY (c:Cl)(K:Aa):DV Bg (.fn 148 []) [.agg (cCl c)] K=some (.ret (.bool (z0 c)),K):=by
 unfold Bg
 first
  |rw[MW,Qf];exact Sw c K
  |rw[SE (by decide),MW,Qf];exact Sw c K
theorem ViI (H:Aa)(f1 f2 f3:Ab):Ua0 (.sl [] .ti) H=some (.ret (.tup []),H)/\Ua9 (.sl [] .ti) f1 H=some (.ret (.tup []),H) /\
  Uaj (.sl [] .ti) f2 H=some (.ret (.sl [] .no),H)/\Uak (.sl [] .no) f3 H=some (.ret (.sl [] .no),H):=by
 have hl:∀tk,A7 (.sl [] tk)=some (.i6 0):=λ_=>rfl;have w1:IntKind.i64.wrap (0-1) = -1:=rfl;have w2:IntKind.i64.wrap (0+1)=1:=rfl;have d1:decide ((0:Int) < -1)=false:=rfl;have d2:decide ((20:Int)<=0)=false:=rfl;have d3:decide ((1:Int)<0)=false:=rfl;have d4:decide ((20:Int)<0)=false:=rfl;have d5:decide ((0:Int)<2)=true:=rfl;have d6:decide ((0:Int)<0)=false:=rfl;have eK:UeZ (.sl [] .ti) (.i6 0) (.i6 0) f1 H=some (.ret (.tup []),H):=by unfold UeZ;simp only[GMw,w2];rw[Eg Fr];unfold Uck;simp only[Ao,Aj,Bf,Bj,B6,BQ,GMw,d3]
 have hst:Ua8 (.sl [] .ti) (.i6 0) f1 H=some (.ret (.tup []),H):=by unfold Ua8;rw[Eg Fr];unfold Uba;simp only[Ao,Aj,Bf,Bj,B6,BQ,DI,GMw,d2,eK];rw[Eg Fr];unfold Uai;simp only[Ao,Aj,Bf,Bj,B6,GMw,d4]
 have dO:UeO (.sl [] .no) f3 H=some (.ret (.i6 (-1)),H):=by unfold UeO;simp only[hl,GMw];rw[Eg Fr];unfold UeY;simp only[Ao,Aj,Bf,Bj,B6,GMw,d6]
 refine⟨?_,?_,?_,?_⟩;unfold Ua0;simp only[hl,GMw,w1];rw[Eg Fr];unfold UaX;simp only[Ao,Aj,Bf,Bj,GMw,d1];unfold Ua9;simp only[hl,GMw,hst];unfold Uaj;simp only[hl,GMw,d5,Ez,forget,ED,fgt];unfold Uak;have hb:((-1:Int) == -1)=true:=rfl;simp only[GMw,dO,hb,Ez,forget,ED,fgt]
theorem VnC (l:List Cl)(tk:Tok)(H:Aa)(hl:l.length<1000000000)(hok:∀c∈l,c.ok):Ucp (.sl (enL cCl l) tk) H=some (.ret (.sl (enL cCl (Bo l)) .no),H):=by
 have aG:=Vln l tk H hl;unfold Ucp;by_cases h0:l=[]
 ·subst h0;rw[if_pos rfl]at aG;obtain⟨n1,n2,n3,n4⟩:=ViI H (.fn 144 []) (.fn 146 []) (.fn 148 []);have hl0:Bo ([]:List Cl)=[]:=rfl;simp only[GMw,aG,n1,n2,n3,n4,M9,HZ,zXb,hl0]
  rfl
 ·rw[if_neg h0]at aG;have hp:0<l.length:=Xd.2 h0;have r0:Ds (H++[.buf 0 (flat cCl l) AI 5]) H.length 0 l:=by unfold Ds;simp
  have nL:=Vfz r0 hp hl;have r1:Ds (BR (H++[.buf 0 (flat cCl l) AI 5]) H.length 0 l.reverse) H.length 0 l.reverse:=Dw r0;have yB:l.reverse.length=l.length:=List.length_reverse;obtain⟨S,s1,s2,s3,s4⟩:=Vn8 (f:=.fn 144 []) (l0:=l) (Vml hok) (Vmk hok) r1 (λc hc=>List.mem_reverse.1 hc) (by omega);rw[yB,BD]at s4;rw[yB]at s3;have hmS:∀c∈S,c∈l:=λc hc=>List.mem_reverse.1 ((s2.mem JT).2 hc);have r2:Ds (BR (H++[.buf 0 (flat cCl l) AI 5]) H.length 0 S) H.length 0 S:=Dw r0;obtain⟨G,r,g1,g2,g3,g4⟩:=Vf1 (f:=.fn 146 []) (VpB λc hc=>hok c (hmS c hc)) r2 (by omega);have mX:=Vmg s1 s2;rw[mX,s3]at g1;rw[mX]at g2;have hAl:(Dx l).length<=l.length:=by rw[<-mX,<-s3];exact Vmh _ _
  obtain⟨G2,r',k1,k2,k3,k4⟩:=Vix (f:=.fn 148 []) (cap:=l.length) (λc hc K=>Vqf c K) (λc hc K=>VoY c K) g2 hAl hl;rw[VlF]at k1 k2;have hHl:(H++[Blk.buf 0 (flat cCl l) AI 5]).length=H.length+1:=by simp
  have hGl:G.length=H.length+1:=by rw[g4];unfold BR;rw[zYa,hHl]
  have hold:∀i,i<H.length->G2[i]? = H[i]? := λi hi=>by rw[k3 i (by omega) (by omega),g3 i (by omega)];unfold BR;rw[WA (by omega),W8 hi]
  have eC:=Vjg (d:=5) (cap:=l.length) (ex:=false) (Tf k2) (W7 H.length);simp only[GMw,aG,nL,s4,g1,k1,Gz (Cv hold)];rw[eC]
  rfl
theorem Vpv (r:RC)(hf:r.fits)(H:Aa):Ucf (.agg (cRC r)) H=some (.ret (.bool (!r.right)),H):=by
 obtain⟨f1,f2,f3,f4⟩:=hf;have hb:BC true 5 (.agg (cRC r)) H=some (.ptr H.length 0 0,H++[.c0 (cRC r)]):=Ce rfl rfl;have e1:(H++[Blk.c0 (cRC r)])[H.length]? = some (.c0 (cRC r)):=An;have l1:Ad true 2 (.ptr H.length 0 0) (H++[Blk.c0 (cRC r)])=some (.agg [.bool r.n1,.sl (enL cU r.l1) .no]):=by simp only[Ad,Ax e1,zXa];rfl
 have l2:Ad true 2 (.ptr H.length 0 2) (H++[Blk.c0 (cRC r)])=some (.agg [.bool r.n2,.sl (enL cU r.l2) .no]):=by simp only[Ad,Ax e1,zXa];rfl
 have r1:=λK=>T6 r.n1 r.l1 .no K f3;have r2:=λK=>T6 r.n2 r.l2 .no K f4;have fin:∀q:Bool,rP H (.bool q) (H++[Blk.c0 (cRC r)])=some (.ret (.bool q),H):=λq=>GD rfl (by simp);unfold Ucf RC.right;simp only[GMw,hb,Ae,W9,l1,r1];cases HS r.n1 r.l1 with|false=>simp only[GMw,X2,fin,Xw]|true=>simp only[GMw,Xo,Ae,W9,l2,r2,fin,zXn]
theorem Un (l:List RC)(tk:Tok)(H:Aa)(hl:l.length<1000000000)(hf:∀r∈l,r.fits):Ucg (.sl (enL cRC l) tk) (.fn 84 []) H=some (.ret (.bool (!l.all RC.right)),H):=by
 have dD:∀(r:RC),r∈l->∀K,DV AK (.fn 84 []) [.agg (cRC r)] K=some (.ret (.bool (!r.right)),K):=λr hr K=>by unfold AK;rw[SE (by decide),MW,Qf];exact Vpv r (hf r hr) K
 have key:∃k:Int,UeO (.sl (enL cRC l) tk) (.fn 84 []) H=some (.ret (.i6 k),H)/\decide (k>=0) = !l.all RC.right:=by
  unfold UeO;simp only[Aw,GMw];cases aD:l.all RC.right with
  |true=>
   refine⟨-1,?_,rfl⟩;refine Cx (G:=λrec1 vs H1=>UeY H rec1 (ag vs 0) (ag vs 1) (ag vs 2) (ag vs 3) H1) l.length
    (λi=>[.sl (enL cRC l) tk,.fn 84 [],.i6 (l.length:Int),.i6 (i:Int)]) (λ_=>H) _ (by omega) (λrec i hi=>?_) (λrec=>?_)
   have d1:decide ((i:Int)<(l.length:Int))=true:=zXc (by omega);have hr:l[i].right=true:=WO.1 aD _ (WI hi);have c1:=dD l[i] (WI hi) H;have hld:Ad true 5 (.cptr (cRC l[i]) 0) H=some (.agg (cRC l[i])):=rfl;have cJ:=Au (show i<9223372036854775807 by omega);rw[hr]at c1;unfold UeY;simp only[Ao,Aj,Bf,Bj,B6,GMw,d1,Ay hi,hld,c1,cJ,Xo];have d1:decide ((l.length:Int)<(l.length:Int))=false:=zXd (by omega);unfold UeY;simp only[Ao,Aj,Bf,Bj,B6,GMw,d1]
  |false=>
   obtain⟨k,hk⟩:∃k,l.findIdx? (λr=>!r.right)=some k:=by
    cases hq:l.findIdx? (λr=>!r.right)with
    |some k=>exact⟨k,rfl⟩
    |none=>rw[YU]at hq;rw[XR]at aD;obtain⟨r,hr,h⟩:=aD;have:=hq r hr;cases gH:r.right with|true=>exact absurd gH h|false=>rw[gH]at this;simp at this
   rw[YD]at hk;obtain⟨k1,k2,k3⟩:=hk;refine⟨k,?_,by simp⟩;have loop:=Bv (G:=λrec1 vs H1=>UeY H rec1 (ag vs 0) (ag vs 1) (ag vs 2) (ag vs 3) H1) (σ:=Nat) (λi=>i<=k)
    (λi=>[.sl (enL cRC l) tk,.fn 84 [],.i6 (l.length:Int),.i6 (i:Int)]) (λ_=>H) (λi=>k-i) (λ_=>some (.ret (.i6 (k:Int)),H)) (λi rec hi hrec=>?_) 0 (WZ _) (by omega)
   exact loop;have hil:i<l.length:=(by omega);have d1:decide ((i:Int)<(l.length:Int))=true:=zXc (by omega);have c1:=dD l[i] (WI hil) H;have hld:Ad true 5 (.cptr (cRC l[i]) 0) H=some (.agg (cRC l[i])):=rfl;have cJ:=Au (show i<9223372036854775807 by omega);unfold UeY;rcases Xj i k with h | h;have:=k3 i h;have hr:l[i].right=true:=(by simpa using this);rw[hr]at c1;simp only[Ao,Aj,Bf,Bj,B6,GMw,d1,Ay hil,hld,c1,cJ,Xo];exact hrec (i+1) (by omega) (by omega);obtain rfl:i=k:=(by omega);have hr:(!l[i].right)=true:=k2;rw[hr]at c1;simp only[Ao,Aj,Bf,Bj,B6,GMw,d1,Ay hil,hld,c1]
 obtain⟨k,e1,e2⟩:=key;unfold Ucg;simp only[GMw,e1,e2]
theorem Vjc (a b c:Nat):Hv JD (.i6 (a:Int)) [.i6 (b:Int),.i6 (c:Int)]=some (.i6 ((max a (max b c):Nat):Int)):=by
 have m:∀x y:Nat,JD (.i6 (x:Int)) (.i6 (y:Int))=some (.i6 ((max x y:Nat):Int)):=λx y=>by unfold JD;by_cases h:(y:Int)>(x:Int);simp only[if_pos h];congr 2;omega;simp only[if_neg h];congr 2;omega
 simp only[Hv,m,zXa]
 congr 2;omega
def bxC (l:List Cl):Aa:=l.map λc=>Blk.c0 (cCl c)
theorem Vj2 (l:List Cl)(c:Cl):bxC (l++[c])=bxC l++[.c0 (cCl c)]:=by simp[bxC]
theorem VpX (H:Aa)(c:Cl):Ai 5 (.ptr H.length 0 0) (.agg (cCl c)) (H++[.c0 [.bool false,.sl [] .ti,.bool false,.sl [] .ti,.int .u8 0]])=some (H++[.c0 (cCl c)]):=by rw[Qp (sz:=5) (ws:=cCl c) An rfl rfl rfl,Be]
theorem ldX (H:Aa)(c:Cl):Ad true 2 (.ptr H.length 0 0) (H++[.c0 (cCl c)])=some (big c.x)/\Ad true 2 (.ptr H.length 0 2) (H++[.c0 (cCl c)])=some (big c.y)/\Ad false 1 (.ptr H.length 0 4) (H++[.c0 (cCl c)])=some (.int .u8 (c.s.toNat:Int)):=by refine⟨?_,?_,?_⟩ <;> (simp only[Ad,Ax An,zXa];rfl)
theorem VfA {l:List Cl}{tk:Tok}{H K:Aa}{x2 x14:Ab}{i:Nat}(hi:i<l.length)(hok:∀c∈l,c.ok)(hl:l.length<1000000000)(rec:LK):UaE H rec x2 x14 (.i6 (E6 l i:Int)) (.sl (enL cCl l) tk) (.i6 (l.length:Int)) (.i6 (i:Int)) (K++bxC (l.take i))=rec [x2,x14,.i6 (E6 l (i+1):Int),.sl (enL cCl l) tk,.i6 (l.length:Int),.i6 ((i+1:Nat):Int)] (K++bxC (l.take (i+1))):=by
 have d1:decide ((i:Int)<(l.length:Int))=true:=zXc (by omega);have cJ:=Au (show i<9223372036854775807 by omega);have hc:=hok _ (WI hi);have hld:∀G,Ad true 5 (.cptr (cCl l[i]) 0) G=some (.agg (cCl l[i])):=λ_=>rfl;have hal:∀G:Aa,A0 (some [(.bool false),(.sl [] .ti),(.bool false),(.sl [] .ti),(.int .u8 0)]) G=some (.ptr G.length 0 0,G++[.c0 [.bool false,.sl [] .ti,.bool false,.sl [] .ti,.int .u8 0]]):=λG=>alloc_eq rfl;have n1:=λG=>VjU (z:=l[i].x) G (hc.1.lb (by decide)) hc.1;have n2:=λG=>VjU (z:=l[i].y) G (hc.2.lb (by decide)) hc.2;have hn:E6 l (i+1)=max (E6 l i) (max (Pn l[i].x) (Pn l[i].y)):=by simp only[E6,W4 hi,RG]
 have hbx:K++bxC (l.take (i+1))=(K++bxC (l.take i))++[.c0 (cCl l[i])]:=by rw[WF hi,Vj2,WD]
 obtain⟨l1,l2,l3⟩:=ldX (K++bxC (l.take i)) l[i];have tS:=Vjc (E6 l i) (Pn l[i].x) (Pn l[i].y);unfold Pn at tS hn;rw[hbx,hn];generalize K++bxC (l.take i)=G at *;have b5:=VpX G l[i];unfold UaE;simp only[GMw,d1,Ay hi,hld,hal,b5,AM,Ae,W9,l1,l2,n1,n2,tS,cJ,B3,and_self,Il]
set_option exponentiation.threshold 5000
theorem VdZ (p:Sp):A6 (some [(.sl [] .ti),(.sl [] .ti),(.int .u8 0)]) [(0,1,.sl (enL cU (AB p.a)) .no),(1,1,.sl (enL cU (AB p.b)) .no),(2,1,.int .u8 (p.s.toNat:Int))]=some (.agg (cSp p)):=by simp[A6,GF,D7,cSp]
theorem VlT (z:Int):Rf false 1 1 (big z)=some (.sl (enL cU (AB z.natAbs)) .no):=rfl
theorem Ve4 {L:List Cl}{tk:Tok}{H Hc:Aa}{x50 x51 w:Ab}{b ph i n:Nat}(hi:i<L.length)(hok:∀c∈L,c.ok)(hl:L.length<1000000000)(hn:n<=1400)(cR:∀c∈L,0<=c.x+2^n/\0<=c.y+2^n)
  (hb:b<=Hc.length)(hR:RS cSp BV 3 b ((L.take i).map (spot (2^n))) w Hc)(hp:Hc[ph]? = some (.c0 (A2 (2^n)))):∃w' Hd,(∀rec:LK,Ubm H rec x50 x51 (.ptr ph 0 0) w (.sl (enL cCl L) tk) (.i6 (L.length:Int)) (.i6 (i:Int)) Hc=rec [x50,x51,.ptr ph 0 0,w',.sl (enL cCl L) tk,.i6 (L.length:Int),.i6 ((i+1:Nat):Int)] Hd) /\
   RS cSp BV 3 b ((L.take (i+1)).map (spot (2^n))) w' Hd/\Kp b Hc Hd:=by
 have d1:decide ((i:Int)<(L.length:Int))=true:=zXc (by omega);have cJ:=Au (show i<9223372036854775807 by omega);have hc:=hok _ (WI hi);have hz:=cR _ (WI hi);have hld:∀G,Ad true 5 (.cptr (cCl L[i]) 0) G=some (.agg (cCl L[i])):=λ_=>rfl;have hal:∀G:Aa,A0 (some [(.bool false),(.sl [] .ti),(.bool false),(.sl [] .ti),(.int .u8 0)]) G=some (.ptr G.length 0 0,G++[.c0 [.bool false,.sl [] .ti,.bool false,.sl [] .ti,.int .u8 0]]):=λG=>alloc_eq rfl;have qR:SB 44 (2^n):=EW hn;have a1:=λG=>Vck (a:=L[i].x) (b:=2^n) G (hc.1.lb (by decide)) (qR.lb (by decide));have a2:=λG=>Vck (a:=L[i].y) (b:=2^n) G (hc.2.lb (by decide)) (qR.lb (by decide));obtain⟨l1,l2,l3⟩:=ldX Hc L[i];have lh:Ad true 2 (.ptr ph 0 0) (Hc++[.c0 (cCl L[i])])=some (big (2^n)):=Ba (A1 hp);have b5:=VpX Hc L[i];have hR1:=hR.left [Blk.c0 (cCl L[i])];obtain⟨w',H2,r1,r2,r3⟩:=hR1.snoc (bytes:=56) (by simp;omega) (spot (2^n) L[i]) .ti (by simp;omega) (by simp;omega);have mZ:A6 (some [(.sl [] .ti),(.sl [] .ti),(.int .u8 0)]) [(0,1,.sl (enL cU (AB (L[i].x+2^n).natAbs)) .no),(1,1,.sl (enL cU (AB (L[i].y+2^n).natAbs)) .no),(2,1,.int .u8 (L[i].s.toNat:Int))]=some (.agg (cSp (spot (2^n) L[i]))):=by
  have e1:(L[i].x+2^n).natAbs=(spot (2^n) L[i]).a:=by unfold spot;dsimp only;omega
  have e2:(L[i].y+2^n).natAbs=(spot (2^n) L[i]).b:=by unfold spot;dsimp only;omega
  rw[e1,e2];exact VdZ _
 have vM:(L.take (i+1)).map (spot (2^n))=(L.take i).map (spot (2^n))++[spot (2^n) L[i]]:=by rw[WF hi,List.map_append];rfl
 rw[vM];refine⟨w',H2,λrec=>?_,r2,(Kp.app hb _).trans r3⟩;unfold Ubm;simp only[GMw,d1,Ay hi,hld,hal,b5,AM,Ae,W9,l1,l2,l3,lh,a1,a2,VlT,mZ,Nt,r1,cJ,B3,and_self,Il]
theorem Vf2 (l:List RC)(tk:Tok)(H:Aa)(hl:l.length<700000000)(hf:∀r∈l,r.fits)(hs:∀r∈l,r.right=true->r.cl.ok):Ubo (.sl (enL cRC l) tk) H=some (.ret (if l.all RC.right then .tup [Dp (CU (l.map RC.cl)).1,.i6 (CU (l.map RC.cl)).2]else .tup [Dp [],.i6 1]),H):=by
 have pO:=λK=>Un l tk K (by omega) hf;have hal:A0 (some [(.sl [] .ti)]) H=some (.ptr H.length 0 0,H++[.c0 [.sl [] .ti]]):=alloc_eq rfl;unfold Ubo;simp only[GMw,hal,pO];cases hr:l.all RC.right with
 |false=>simp only[GMw,X2,Pf,WB,if_false]
 |true=>
  have gH:∀r∈l,r.right=true:=WO.1 hr;have aG:∀c∈l.map RC.cl,c.ok:=λc hc=>by obtain⟨r,h1,rfl⟩:=XM.1 hc;exact hs r h1 (gH r h1)
  rw[Vks gH hf];generalize hL:l.map RC.cl=L at aG;have hLl:L.length<700000000:=by rw[<-hL];simpa using hl
  have hla:=λK=>VnC L tk K (by omega) aG;simp only[GMw,Xo,hla,Aw,Sx,if_true];have eF:∀c∈Bo L,c.ok:=λc hc=>aG c (VU hc);have hsl:=VV L;generalize Bo L=S at eF hsl;refine Eq.trans ?hd (Cx (G:=λrec1 vs H1=>UaE H rec1 (ag vs 0) (ag vs 1) (ag vs 2) (ag vs 3) (ag vs 4) (ag vs 5) H1) S.length
   (λi=>[.ptr H.length 0 0,.sl (enL cCl S) .no,.i6 (E6 S i:Int),.sl (enL cCl S) .no,.i6 (S.length:Int),.i6 (i:Int)]) (λi=>H++[.c0 [.sl [] .ti]]++bxC (S.take i))
   (some (.ret (.tup [Dp (Ov S).1,.i6 (Ov S).2]),H)) (by omega) (λrec i hi=>?_) (λrec=>?_))
  case hd=>
   have e0:H++[Blk.c0 [.sl [] .ti]]++bxC (S.take 0)=H++[Blk.c0 [.sl [] .ti]]:=(by simp[bxC]);rw[e0]
   rfl
  exact VfA hi eF (by omega) rec
  ·have aJ:=Vak S;have d1:decide ((S.length:Int)<(S.length:Int))=false:=zXd (by omega);have h1n:1<=E6 S S.length:=(by rw[Q9];omega);rw[Xu];unfold Ov;by_cases hv:1329<E6 S S.length;have aP:decide ((E6 S S.length:Int)>1329)=true:=zXc (by omega);rw[if_pos (by omega)];have wU:A6 (some [(.sl [] .ti)]) []=some (.agg [.sl (enL cNd []) .ti]):=rfl;have qt:=IX (H:=H) (Hq:=H++[.c0 [.sl [] .ti]]++bxC S) (tk:=.ti) (Q:=[]) (e:=4) (by rw[WD];simp) (λi hi=>by rw[WD,W8 hi]);unfold UaE;simp only[Ao,Aj,Bf,Bj,B6,BQ,DI,GMw,d1,aP,wU];exact qt
   ·have aP:decide ((E6 S S.length:Int)>1329)=false:=zXd (by omega);have hle:A9 S<=1329:=(by omega);have rL:A9 S=E6 S S.length:=(by omega);rw[if_neg (by omega)];have lH:∀c∈S,F6 (A9 S) (-(2^(A9 S-1))) (-(2^(A9 S-1))) c:=λc hc=>N1 (by omega) (Pw hle c hc);rw[rL]at lH;rw[rL];obtain⟨n,hn⟩:∃n,E6 S S.length=n+1:=⟨E6 S S.length-1,by omega⟩;rw[hn,WQ]at lH⊢;have cR:∀c∈S,0<=c.x+2^n/\0<=c.y+2^n:=λc hc=>(by obtain⟨q1,q2,q3,q4⟩:=lH c hc;generalize (2:Int)^n=P at *;omega);have vQ:=VR (h:=2^n) (n+1) [] (-(2^n)) (-(2^n)) S 0 0 0 0 (by simp;omega) (by simp;omega) rfl rfl lH;have mG:IntKind.i64.wrap (((n+1:Nat):Int)-1)=(n:Int):=(by rw[Am]<;>omega);have cE:=λG=>Vpu (m:=n) (by omega) G;have s1:∀B:Aa,Ai 2 (.ptr B.length 0 0) (big (2^n)) (B++[.c0 [.bool false,.sl [] .ti]])=some (B++[.c0 (A2 (2^n))]):=λB=>(by rw[BP (An (B:=B)) rfl,Be]);obtain⟨B,hB⟩:∃B,B=H++[.c0 [.sl [] .ti]]++bxC S:=⟨_,rfl⟩;have hBH:B[H.length]? = some (.c0 [.sl [] .ti]):=(by rw[hB,WD];simp);have hBo:∀i,i<H.length->B[i]? = H[i]? := λi hi=>(by rw[hB,WD,W8 hi]);have hBl:H.length<B.length:=(W5.1 hBH).1;rw[<-hB];have loop:=Fk (G:=λaA vs H1=>Ubm H aA (ag vs 0) (ag vs 1) (ag vs 2) (ag vs 3) (ag vs 4) (ag vs 5) (ag vs 6) H1) S.length
     (λi vs Hc=>∃w,vs=[.ptr H.length 0 0,.i6 ((n+1:Nat):Int),.ptr B.length 0 0,w,.sl (enL cCl S) .no,.i6 (S.length:Int),.i6 (i:Int)]/\RS cSp BV 3 B.length ((S.take i).map (spot (2^n))) w Hc/\Kp B.length (B++[.c0 (A2 (2^n))]) Hc)
     (by omega) (λi vs Hc hi hI=>?_) (vs:=[.ptr H.length 0 0,.i6 ((n+1:Nat):Int),.ptr B.length 0 0,.sl [] .ti,.sl (enL cCl S) .no,.i6 (S.length:Int),.i6 0]) (H:=B++[.c0 (A2 (2^n))])
     ⟨_,rfl,.inl ⟨rfl,rfl⟩,Kp.refl _ _⟩
    obtain⟨vs,Hc,⟨w,rfl,hR,hK⟩,aA,aB⟩:=loop;rw[Xu]at hR;obtain⟨tk2,rfl⟩:=hR.sl;have hKl:=hK.len;rw[WC,zXi]at hKl;have hHc:Hc[H.length]? = some (.c0 [.sl [] .ti]):=hK.cel _ _ (A1 hBH);have hHo:∀i,i<H.length->Hc[i]? = H[i]? := λi hi=>(by rw[hK.old i (by omega),W8 (by omega)];exact hBo i hi);have hbx:BC true 1 (.agg [.sl [] .ti]) Hc=some (.ptr Hc.length 0 0,Hc++[.c0 [.sl [] .ti]]):=Ce rfl rfl;have wU:A6 (some [(.sl [] .ti)]) []=some (.agg [.sl [] .ti]):=rfl;have dB:S.length*(n+1)<=700000000*1329:=YF (by omega) (by omega);have uL:∀p∈S.map (spot (2^n)),VoX p:=λp hp=>(by obtain⟨c,hc,rfl⟩:=XM.1 hp;obtain⟨q1,q2,q3,q4⟩:=lH c hc;have uV:(2:Int)^(n+1)=((2^(n+1):Nat):Int):=VmN _;rw[uV]at q2 q4;have tJ:2^(n+1)<=2^(32*44):=Xe (by decide) (by omega);rw[<-Veh]at tJ;exact⟨WV (Fm (k:=44) (by unfold spot;dsimp only;omega)) (by decide),WV (Fm (k:=44) (by unfold spot;dsimp only;omega)) (by decide)⟩);obtain⟨Hq,w',p1,p2,p3,p4⟩:=Vkj (b:=H.length) (pb:=Hc.length) (by omega) (n+1) AU (by rw[Dj];omega) (by omega) (by omega) [] (.sl [] .ti) (S.map (spot (2^n))) tk2 (Hc++[.c0 [.sl [] .ti]]) An (.inl ⟨rfl,rfl⟩) (by simp;omega) uL (by simp;omega) (by simp only[zXk,XB];omega);rw[vQ]at p1 p3;have bL:=WV (VfQ (n+1) [] (S.map (spot (2^n)))) (Nat.add_le_add_left (by rw[XB];exact dB) _);rw[vQ]at bL;simp only[zXk]at bL;generalize AS (n+1) [] (-(2^n)) (-(2^n)) S=P at p1 p3 bL;obtain⟨Q,r⟩:=P;dsimp only at p1 p3 bL⊢;obtain⟨tk3,rfl⟩:=p3.sl;have uQ:=λG=>Vop Q tk3 (r:Int) G (by omega);have jO:Hq[H.length]? = some (.c0 [.sl [] .ti]):=p4.cel _ _ (by omega) (A1 hHc);have qM:∀i,i<H.length->Hq[i]? = H[i]? := λi hi=>(by rw[p4.old i hi,W8 (by omega)];exact hHo i hi);have vT:Ad false 1 (.ptr Hc.length 0 0) Hq=some (.sl (enL cNd Q) tk3):=(by rw[CD p2];rfl);unfold UaE;simp only[Ao,Aj,Bf,Bj,B6,BQ,DI,GMw,d1,hn,show decide (((n+1:Nat):Int)>1329)=false from by rw[<-hn];exact aP,mG,cE,CR,s1,AM,Aw];rw[aB];unfold Ubm;simp only[Ao,Aj,Bf,Bj,B6,BQ,DI,GMw,d1,wU,hbx,p1,Vf8,Ae,W9,vT,uQ];cases T9 Q (r:Int)with|false=>simp only[GMw,B4,BE,Dp,Bl,WB,if_false];exact IX jO qM|true=>simp only[GMw,B4,BE,Dp,Bl,zXl,if_true];exact IX jO qM
    obtain⟨w,rfl,hR,hK⟩:=hI;have hKl:=hK.len;rw[WC,zXi]at hKl;obtain⟨w',Hd,t1,t2,t3⟩:=Ve4 (H:=H) (x50:=.ptr H.length 0 0) (x51:=.i6 ((n+1:Nat):Int)) (tk:=.no) hi eF (by omega) (by omega) cR (by omega) hR (hK.cel _ _ An);exact⟨_,Hd,⟨w',rfl,t2,hK.trans t3⟩,t1⟩
section
variable {p:Nat}{H:Aa}
theorem Vkh {cs:List Ab}{o:Nat}(h:H[p]? = some (.c0 cs))(ho:o+2<=cs.length):Ad true 2 (.ptr p 0 o) H=some (.agg ((cs.drop o).take 2)):=by simp only[Ad,Ax h,zXa,if_true];rw[if_pos ho]
theorem Ve2 {cs:List Ab}{o:Nat}{z:Int}(h:H[p]? = some (.c0 cs))(ho:o+2<=cs.length):Ai 2 (.ptr p 0 o) (big z) H=some (H.set p (.c0 (D7 cs o 2 (A2 z)))):=by simp only[Ai,Ax h,zXa,Uz,Bw h];rw[if_pos ⟨rfl,ho⟩]
theorem Vm7 {z:Int}{x y:Ab}(h:[x,y]=A2 z):Ab.agg [x,y]=big z:=by rw[h];rfl
theorem VhD {z:Int}(h:z.natAbs<10^400):SB 100 z:=by
 have h2:(10:Nat)^400<4294967296^100:=by decide +kernel
 unfold SB;omega
theorem TK {z:Int}(h:z.natAbs<10^400):LB z:=(VhD h).lb (by decide)
theorem Vki {n:Nat}(h:n<=1152921504606846976):LB (n:Int):=by
 have h2:1152921504606846976<(10:Nat)^400:=by decide +kernel
 exact TK (by omega)

end
def Abg (f0 f1:Ab)(z:Int):Prop:=[f0,f1]=A2 z\/f0=.bool false/\f1=.sl [] .ti/\z=0
theorem VnE {b:Int}(H:Aa)(h0:0<=b)(hb:LB b):UeN (.agg [.bool false,.sl [] .ti]) (big b) H=some (.ret (big b),H):=by
 have sg:∀(tk:Tok)(K:Aa),UeK (.bool false) (.sl (enL cU (AB b.natAbs)) tk) K=some (.ret (big b),K):=λtk K=>by rw[ME];simp only[WB,if_false];rw[show((b.natAbs:Nat):Int)=b by omega]
 unfold LB at hb;have aW:=λK=>VnF (a:=[]) (b:=AB b.natAbs) (ta:=.ti) (tb:=.no) K (λx hx=>by cases hx) (Bz b.natAbs) (by decide) (by omega);simp only[B9,show val []=0 from rfl,W9,show enL cU []=[] from rfl]at aW;have hbx:∀K,BC true 2 (.agg [.bool false,.sl [] .ti]) K=some (.ptr K.length 0 0,K++[.c0 [.bool false,.sl [] .ti]]):=λK=>Ce rfl rfl;have hd:decide (b<0)=false:=zXd (by omega);unfold UeN;simp only[DA,hbx,Br,WD,List.singleton_append];simp[Xc,DA,hbx,Jz,hd,B3,aW,sg]
theorem VjW {f0 f1:Ab}{z:Int}{n:Nat}(H:Aa)(h:Abg f0 f1 z)(hz:LB z)(hn:LB (n:Int)):UeN (.agg [f0,f1]) (big (n:Int)) H=some (.ret (big (z+n)),H):=by rcases h with h | ⟨rfl,rfl,rfl⟩;rw[Vm7 h];exact Vck H hz hn;rw[VnE H (by omega) hn,Int.zero_add]
def rdL (bx N:Int)(st:LSt)(f0 f1 g0 g1 v:Ab):List Ab:=[.i6 bx,.i6 N,.str st.law,f0,f1,g0,g1,.i6 (st.col:Int),.i6 (st.row:Int),v]
structure RLx (bx N:Int)(b0 p:Nat)(b:zAa)(a:Nat)(st:LSt)(f0 f1 g0 g1 v:Ab)(H:Aa):Prop where
 hb:b0<=p
 lx:Lx H p b a (rdL bx N st f0 f1 g0 g1 v)
 row:RS cCl AI 5 b0 st.cells v H
 fx:Abg f0 f1 st.x
 gy:Abg g0 g1 st.y
def RLe (bx N:Int)(b0 p:Nat)(b:zAa)(a:Nat)(st:LSt)(H:Aa):Prop:=∃f0 f1 g0 g1 v,RLx bx N b0 p b a st f0 f1 g0 g1 v H
section
variable {bx N:Int}{b0 p a:Nat}{b:zAa}{st:LSt}{H:Aa}{f0 f1 g0 g1 v:Ab}
theorem RLx.lt (h:RLx bx N b0 p b a st f0 f1 g0 g1 v H):p<H.length:=ViA h.lx
theorem RLx.move (h:RLx bx N b0 p b a st f0 f1 g0 g1 v H)(a':Nat):RLx bx N b0 p b a' st f0 f1 g0 g1 v (BW H p b (rdL bx N st f0 f1 g0 g1 v) a'):=⟨h.hb,GN h.lx,h.row.put h.lx,h.fx,h.gy⟩
theorem RLx.push (h:RLx bx N b0 p b a st f0 f1 g0 g1 v H)(G:Aa):RLx bx N b0 p b a st f0 f1 g0 g1 v (H++G):=⟨h.hb,Lx.push h.lx,h.row.left G,h.fx,h.gy⟩
theorem RLx.ext (h:RLx bx N b0 p b a st f0 f1 g0 g1 v H)(cs:List Ab):Ext b0 p H (H.set p (.c0 cs)):=
 ⟨by simp,λi c hi hc=>by rw[WA (Ne.symm hi)];exact hc,λi hi=>by rw[WA (by have:=h.hb;omega)]⟩
theorem RLx.ble (h:RLx bx N b0 p b a st f0 f1 g0 g1 v H):b0<=H.length:=WV h.hb (Nat.le_of_lt h.lt)
theorem RLx.go (h:RLx bx N b0 p b a st f0 f1 g0 g1 v H)(a':Nat)(G:Aa):RLx bx N b0 p b a' st f0 f1 g0 g1 v (BW H p b (rdL bx N st f0 f1 g0 g1 v) a'++G)/\Ext b0 p H (BW H p b (rdL bx N st f0 f1 g0 g1 v) a'++G):=
 ⟨(h.move a').push G,(h.ext _).trans (Ext.push b0 p (by show b0<=List.length _;rw[show(H.set p _).length=H.length from by simp];exact h.ble) G)⟩
theorem RLx.go0 (h:RLx bx N b0 p b a st f0 f1 g0 g1 v H)(a':Nat):RLx bx N b0 p b a' st f0 f1 g0 g1 v (BW H p b (rdL bx N st f0 f1 g0 g1 v) a')/\Ext b0 p H (BW H p b (rdL bx N st f0 f1 g0 g1 v) a'):=⟨h.move a',h.ext _⟩
theorem RLx.set (h:RLx bx N b0 p b a st f0 f1 g0 g1 v H){a':Nat}{st':LSt}{f0' f1' g0' g1' v':Ab}{cs:List Ab}(hr:RS cCl AI 5 b0 st'.cells v' H)
  (hc:cs=.str b::.i6 (a':Int)::rdL bx N st' f0' f1' g0' g1' v')(hf:Abg f0' f1' st'.x)(hg:Abg g0' g1' st'.y):RLx bx N b0 p b a' st' f0' f1' g0' g1' v' (H.set p (.c0 cs))/\Ext b0 p H (H.set p (.c0 cs)):=by
 refine⟨⟨h.hb,?_,hr.put h.lx,hf,hg⟩,h.ext _⟩;unfold Lx;rw[WJ h.lt,hc]
def Nz (bx N:Int)(b0 p:Nat)(b:zAa)(H:Aa)(x:Out)(v:Ab)(s:(Er×Nat)×LSt):Prop:=∃H',x=some (Qz s.1.1 v,H')/\Ext b0 p H H'/\RLe bx N b0 p b s.1.2 s.2 H'
theorem TD {r:List Ab}(h:Lx H p b a r)(ha:a<=b.length)(hb:b.length<1152921504606846976)(rest:zAa)(hr:rest.length<=1000):Uav (.ptr p 0 0) (.str rest) H=some (Qz (Ik b a rest).1 (.tup []),BW H p b r (Ik b a rest).2):=by
 have hj:∀e,Af e .add (.str [10]) (.str rest)=some (.str (10::rest)):=λe=>Dk (by simp;omega);unfold Uav Ik;simp only[GMw,HPw,Nat.reduceAdd,Nat.reduceLT,Jh h];by_cases he:a=b.length
 ·simp only[he,GMw,HPw,Nat.reduceAdd,Nat.reduceLT,if_true,hj];rw[he]at h;simp only[Jg h,GMw,HPw,Nat.reduceAdd,Nat.reduceLT,Ef h]
  rfl
 simp only[he,GMw,HPw,Nat.reduceAdd,Nat.reduceLT,if_false];unfold Ue0;simp only[GMw,HPw,Nat.reduceAdd,Nat.reduceLT,VfE h ha hb rest (by omega)];cases(Li b a rest).1 with|some e=>simp only[BJ,GMw,HPw,Nat.reduceAdd,Nat.reduceLT]|none=>simp only[B7,GMw,HPw,Nat.reduceAdd,Nat.reduceLT]
theorem VnX (k:Nat)(hk:k<2):BH 2 2 (.ptr p 0 5) (.i6 (k:Int))=some (.ptr p 0 (5+k*2)):=Vbf hk
theorem Vkm:BH 2 2 (.ptr p 0 5) (.i6 0)=some (.ptr p 0 5):=VnX 0 (by decide)
theorem Vkl:BH 2 2 (.ptr p 0 5) (.i6 1)=some (.ptr p 0 7):=VnX 1 (by decide)
theorem Vce:∀(s t:zAa),cpN s t=t.length↔s.take t.length=t
 |s,[]=>by simp[cpN]
 |[],c::t=>by simp[cpN]
 |d::s,c::t=>by
  have ih:=Vce s t;have e:cpN (d::s) (c::t)=if d=c then cpN s t+1 else 0:=rfl
  rw[e];by_cases h:d=c;subst h;simp[ih];simp[h]
theorem Viw (s t:zAa)(K:Aa):UbG (.str s) (.str t) K=some (.ret (.bool (decide (cpN s t=t.length))),K):=by
 unfold UbG Uat;by_cases h:t.length<=s.length
 ·have hd:decide ((s.length:Int)>=(t.length:Int))=true:=zXc (by omega);have he:(s.take t.length==t)=decide (cpN s t=t.length):=by rw[WP,beq_iff_eq,zXe,Vce]
  simp only[GMw,HPw,Nat.reduceAdd,Nat.reduceLT,Ec,hd,Pa h,KE,he]
 have hd:decide ((s.length:Int)>=(t.length:Int))=false:=zXd (by omega);have he:decide (cpN s t=t.length)=false:=zXd (λhh=>by have:=Ll s t;omega);simp only[GMw,HPw,Nat.reduceAdd,Nat.reduceLT,Ec,hd,he]
theorem VeO (h:RLx bx N b0 p b a st f0 f1 g0 g1 v H)(ha:a<=b.length)(hb:b.length<1152921504606846976):Nz bx N b0 p b H (UbS (.ptr p 0 0) H) (.tup []) (Pc b a st):=by
 have bL:KQ.length=7:=rfl;have mX:=Ll (b.drop a) KQ;have hpre:=λK=>Viw (b.drop a) KQ K;have hh:Ck.length=24:=rfl;unfold UbS Pc Nz;rw[show Ab.str [35,67,88,82,76,69,32]=.str KQ from rfl,show Ab.str [120,32,61,32,48,44,32,121,32,61,32,48,44,32,114,117,108,101,32,61,32,97,10,33]=.str Ck from rfl];simp only[GMw,HPw,Nat.reduceAdd,Nat.reduceLT,Ah,Ae,FC h.lx,QB h.lx,B3,GM ha,hpre];by_cases hc:cpN (b.drop a) KQ<7;have hd:decide (cpN (b.drop a) KQ=KQ.length)=false:=zXd (by omega);rw[if_pos hc];simp only[hd,GMw,HPw,Nat.reduceAdd,Nat.reduceLT,VnQ h.lx ha hb];obtain⟨h2,e2⟩:=h.go0 (OO b a);simp only[TD h2.lx (VbC ha) hb Ck (by omega)];obtain⟨h3,e3⟩:=h2.go0 (Ik b (OO b a) Ck).2;refine⟨_,?_,e2.trans e3,_,_,_,_,_,h3⟩;cases(Ik b (OO b a) Ck).1 with|some e=>simp only[BJ,GMw,HPw,Nat.reduceAdd,Nat.reduceLT]|none=>simp only[B7,GMw,HPw,Nat.reduceAdd,Nat.reduceLT]
 ·have hd:decide (cpN (b.drop a) KQ=KQ.length)=true:=zXc (by omega);have hle:=Ll (b.drop a) KQ;have h7:a+7<=b.length:=by rw[WS]at hle;omega
  rw[if_neg hc];have aQ:Ai 1 (.ptr p 0 1) (.i6 ((a+7:Nat):Int)) H=some (BW H p b (rdL bx N st f0 f1 g0 g1 v) (a+7)):=ND h.lx _;have zN:IntKind.i64.wrap ((a:Int)+7)=((a+7:Nat):Int):=by rw[Am (by omega) (by omega)];simp
  simp only[hd,GMw,HPw,Nat.reduceAdd,Nat.reduceLT,Ah,Ae,FC h.lx,zN,aQ,AM];obtain⟨h1,e1⟩:=h.go0 (a+7);generalize BW H p b _ (a+7)=H1 at h1 e1;have hM:=EO (s:=Kq) (rest:=[48,44,48,10]++Ck) h7;have hx:=MK h1.lx h7 hb Kq ([48,44,48,10]++Ck) (by decide) (by decide);rw[show Ab.str ([48,44,48,10]++Ck)=.str [48,44,48,10,120,32,61,32,48,44,32,121,32,61,32,48,44,32,114,117,108,101,32,61,32,97,10,33] from rfl,show Ab.str Kq=.str [80,111,115,61] from rfl]at hx;simp only[hx];generalize Ea b (a+7) Kq ([48,44,48,10]++Ck)=M at hM;obtain⟨er,c⟩:=M;dsimp only at hM⊢;obtain⟨h2,e2⟩:=h1.go0 c;generalize BW H1 p b _ c=H2 at h2 e2;cases er with
  |some e=>simp only[GMw,HPw,Nat.reduceAdd,Nat.reduceLT,BJ];exact⟨_,rfl,e1.trans e2,_,_,_,_,_,h2⟩
  |none=>
   obtain⟨G1,cL⟩:=NE h2.lx hM hb true ([44,48,10]++Ck) (by decide);rw[show Ab.str ([44,48,10]++Ck)=.str [44,48,10,120,32,61,32,48,44,32,121,32,61,32,48,44,32,114,117,108,101,32,61,32,97,10,33] from rfl]at cL;have jX:=HY hM true ([44,48,10]++Ck);simp only[GMw,HPw,Nat.reduceAdd,Nat.reduceLT,B7,cL];generalize Fp b c true ([44,48,10]++Ck)=M at jX;obtain⟨er,d⟩:=M;dsimp only at jX⊢;obtain⟨h3,e3⟩:=h2.go d G1;generalize BW H2 p b _ d++G1=H3 at h3 e3;cases er with
   |some e=>simp only[GMw,HPw,Nat.reduceAdd,Nat.reduceLT,BJ];exact⟨_,rfl,(e1.trans e2).trans e3,_,_,_,_,_,h3⟩
   |none=>
    have hst:=Ve2 (o:=5) (z:=Dq ((b.take d).drop c)) h3.lx (by simp[rdL]);simp only[GMw,HPw,Nat.reduceAdd,Nat.reduceLT,B7,Vkm,hst,AM];generalize hz:Dq ((b.take d).drop c)=z1;obtain⟨h4,e4⟩:=h3.set (a':=d) (st':={st with x:=z1}) (f0':=.bool (decide (z1<0))) (f1':=.sl (enL cU (AB z1.natAbs)) .no) (cs:=D7 (.str b::.i6 (d:Int)::rdL bx N st f0 f1 g0 g1 v) 5 2 (A2 z1)) h3.row rfl (.inl rfl) h3.gy;generalize H3.set p _=H4 at h4 e4;have hx2:=MK h4.lx jX.2 hb [44] ([48,10]++Ck) (by decide) (by decide);rw[show Ab.str ([48,10]++Ck)=.str [48,10,120,32,61,32,48,44,32,121,32,61,32,48,44,32,114,117,108,101,32,61,32,97,10,33] from rfl]at hx2;simp only[GMw,HPw,Nat.reduceAdd,Nat.reduceLT,hx2];have hM2:=EO (s:=[44]) (rest:=[48,10]++Ck) jX.2;generalize Ea b d [44] ([48,10]++Ck)=M at hM2;obtain⟨er,f⟩:=M;dsimp only at hM2⊢;obtain⟨h5,e5⟩:=h4.go0 f;generalize BW H4 p b _ f=H5 at h5 e5;cases er with
    |some e=>simp only[GMw,HPw,Nat.reduceAdd,Nat.reduceLT,BJ];exact⟨_,rfl,(((e1.trans e2).trans e3).trans e4).trans e5,_,_,_,_,_,h5⟩
    |none=>
     obtain⟨G2,hn2⟩:=NE h5.lx hM2 hb true (10::Ck) (by decide);rw[show Ab.str (10::Ck)=.str [10,120,32,61,32,48,44,32,121,32,61,32,48,44,32,114,117,108,101,32,61,32,97,10,33] from rfl]at hn2;have hi2:=HY hM2 true (10::Ck);simp only[GMw,HPw,Nat.reduceAdd,Nat.reduceLT,B7,hn2];generalize Fp b f true (10::Ck)=M at hi2;obtain⟨er,g⟩:=M;dsimp only at hi2⊢;obtain⟨h6,e6⟩:=h5.go g G2;generalize BW H5 p b _ g++G2=H6 at h6 e6;cases er with
     |some e=>simp only[GMw,HPw,Nat.reduceAdd,Nat.reduceLT,BJ];exact⟨_,rfl,((((e1.trans e2).trans e3).trans e4).trans e5).trans e6,_,_,_,_,_,h6⟩
     |none=>have hst:=Ve2 (o:=7) (z:=Dq ((b.take g).drop f)) h6.lx (by simp[rdL]);simp only[GMw,HPw,Nat.reduceAdd,Nat.reduceLT,B7,Vkl,hst,AM];generalize mD:Dq ((b.take g).drop f)=z2;obtain⟨xE,e7⟩:=h6.set (a':=g) (st':={st with x:=z1,y:=z2}) (f0':=.bool (decide (z1<0))) (f1':=.sl (enL cU (AB z1.natAbs)) .no) (g0':=.bool (decide (z2<0))) (g1':=.sl (enL cU (AB z2.natAbs)) .no) (cs:=D7 (.str b::.i6 (g:Int)::rdL bx N {st with x:=z1} (.bool (decide (z1<0))) (.sl (enL cU (AB z1.natAbs)) .no) g0 g1 v) 7 2 (A2 z2)) h6.row rfl (.inl rfl) (.inl rfl);generalize H6.set p _=H7 at xE e7;simp only[GMw,HPw,Nat.reduceAdd,Nat.reduceLT,TD xE.lx hi2.2 hb Ck (by omega)];obtain⟨h8,e8⟩:=xE.go0 (Ik b g Ck).2;refine⟨_,?_,(((((e1.trans e2).trans e3).trans e4).trans e5).trans e6).trans (e7.trans e8),_,_,_,_,_,h8⟩;cases(Ik b g Ck).1 with|some e=>simp only[BJ,GMw,HPw,Nat.reduceAdd,Nat.reduceLT]|none=>simp only[B7,GMw,HPw,Nat.reduceAdd,Nat.reduceLT]

end
section
variable {bx N:Int}{b0 p a:Nat}{b:zAa}{st:LSt}{H:Aa}{f0 f1 g0 g1 v:Ab}
theorem VkK (h:RLx bx N b0 p b a st f0 f1 g0 g1 v H)(ha:a<=b.length)(hb:b.length<1152921504606846976){H0:Aa}{rec:LK}(hs:Bc b a [35]=false):Nz bx N b0 p b H (Uax H0 rec (.ptr p 0 0) H) (.tup []) (Vh6 b a st):=by
 have hx:=MK h.lx ha hb szA UF (by decide) (by decide);rw[show Ab.str szA=.str [120,32,61,32] from rfl,show Ab.str UF=.str [48,44,32,121,32,61,32,48,44,32,114,117,108,101,32,61,32,97,10,33] from rfl]at hx;unfold Uax Vh6 Nz;simp only[GMw,HPw,Nat.reduceAdd,Nat.reduceLT,Ah,Ae,De h.lx ha,hs,hx];have hM:=EO (s:=szA) (rest:=UF) ha;generalize Ea b a szA UF=M at hM;obtain⟨er,c⟩:=M;dsimp only at hM⊢;obtain⟨h2,e2⟩:=h.go0 c;generalize BW H p b _ c=H2 at h2 e2;cases er with
 |some e=>simp only[GMw,HPw,Nat.reduceAdd,Nat.reduceLT,BJ];exact⟨_,rfl,e2,_,_,_,_,_,h2⟩
 |none=>
  obtain⟨G1,cL⟩:=NE h2.lx hM hb false VhG (by decide);rw[show Ab.str VhG=.str [44,32,121,32,61,32,48,44,32,114,117,108,101,32,61,32,97,10,33] from rfl]at cL;have jX:=HY hM false VhG;simp only[GMw,HPw,Nat.reduceAdd,Nat.reduceLT,B7,cL];generalize Fp b c false VhG=M at jX;obtain⟨er,d⟩:=M;dsimp only at jX⊢;obtain⟨h3,e3⟩:=h2.go d G1;generalize BW H2 p b _ d++G1=H3 at h3 e3;cases er with
  |some e=>simp only[GMw,HPw,Nat.reduceAdd,Nat.reduceLT,BJ];exact⟨_,rfl,e2.trans e3,_,_,_,_,_,h3⟩
  |none=>
   have hx2:=MK h3.lx jX.2 hb szB UE (by decide) (by decide);rw[show Ab.str szB=.str [44,32,121,32,61,32] from rfl,show Ab.str UE=.str [48,44,32,114,117,108,101,32,61,32,97,10,33] from rfl]at hx2;simp only[GMw,HPw,Nat.reduceAdd,Nat.reduceLT,B7,hx2];have hM2:=EO (s:=szB) (rest:=UE) jX.2;generalize Ea b d szB UE=M at hM2;obtain⟨er,f⟩:=M;dsimp only at hM2⊢;obtain⟨h5,e5⟩:=h3.go0 f;generalize BW H3 p b _ f=H5 at h5 e5;cases er with
   |some e=>simp only[GMw,HPw,Nat.reduceAdd,Nat.reduceLT,BJ];exact⟨_,rfl,(e2.trans e3).trans e5,_,_,_,_,_,h5⟩
   |none=>
    obtain⟨G2,hn2⟩:=NE h5.lx hM2 hb false VhF (by decide);rw[show Ab.str VhF=.str [44,32,114,117,108,101,32,61,32,97,10,33] from rfl]at hn2;have hi2:=HY hM2 false VhF;simp only[GMw,HPw,Nat.reduceAdd,Nat.reduceLT,B7,hn2];generalize Fp b f false VhF=M at hi2;obtain⟨er,g⟩:=M;dsimp only at hi2⊢;obtain⟨h6,e6⟩:=h5.go g G2;generalize BW H5 p b _ g++G2=H6 at h6 e6;cases er with
    |some e=>simp only[GMw,HPw,Nat.reduceAdd,Nat.reduceLT,BJ];exact⟨_,rfl,((e2.trans e3).trans e5).trans e6,_,_,_,_,_,h6⟩
    |none=>
     have hx3:=MK h6.lx hi2.2 hb szC [97,10,33] (by decide) (by decide);rw[show Ab.str szC=.str [44,32,114,117,108,101,32,61,32] from rfl]at hx3;simp only[GMw,HPw,Nat.reduceAdd,Nat.reduceLT,B7,hx3];have hM3:=EO (s:=szC) (rest:=[97,10,33]) hi2.2;generalize Ea b g szC [97,10,33]=M at hM3;obtain⟨er,i⟩:=M;dsimp only at hM3⊢;obtain⟨h7,e7⟩:=h6.go0 i;generalize BW H6 p b _ i=H7 at h7 e7;cases er with
     |some e=>simp only[GMw,HPw,Nat.reduceAdd,Nat.reduceLT,BJ];exact⟨_,rfl,(((e2.trans e3).trans e5).trans e6).trans e7,_,_,_,_,_,h7⟩
     |none=>
      have hr:=VeK (rest:=[10,33]) hM3;simp only[GMw,HPw,Nat.reduceAdd,Nat.reduceLT,B7,Vi9 h7.lx hM3 hb [10,33] (by decide)];generalize Qx b i [10,33]=M at hr;obtain⟨er,j⟩:=M;dsimp only at hr⊢;obtain⟨h8,e8⟩:=h7.go0 j;generalize BW H7 p b _ j=H8 at h8 e8;cases er with
      |some e=>simp only[GMw,HPw,Nat.reduceAdd,Nat.reduceLT,BJ];exact⟨_,rfl,((((e2.trans e3).trans e5).trans e6).trans e7).trans e8,_,_,_,_,_,h8⟩
      |none=>
       obtain⟨H9,hst,h9,e9⟩:∃K,Ai 1 (.ptr p 0 4) (.str ((b.take j).drop i)) H8=some K/\RLx bx N b0 p b j {st with law:=(b.take j).drop i} f0 f1 g0 g1 v K/\Ext b0 p H8 K:=
        ⟨_,HD (o:=4) (v:=.str ((b.take j).drop i)) h8.lx rfl (by simp[rdL]),h8.set (a':=j) (st':={st with law:=(b.take j).drop i}) h8.row rfl h8.fx h8.gy⟩
       simp only[GMw,HPw,Nat.reduceAdd,Nat.reduceLT,B7,hst,AM];simp only[GMw,HPw,Nat.reduceAdd,Nat.reduceLT,TD h9.lx hr.2 hb [33] (by decide)];obtain⟨hz,ez⟩:=h9.go0 (Ik b j [33]).2;refine⟨_,?_,(((((e2.trans e3).trans e5).trans e6).trans e7).trans e8).trans (e9.trans ez),_,_,_,_,_,hz⟩;cases(Ik b j [33]).1 with|some e=>simp only[BJ,GMw,HPw,Nat.reduceAdd,Nat.reduceLT]|none=>simp only[B7,GMw,HPw,Nat.reduceAdd,Nat.reduceLT]
def VmO (b:zAa)(k a:Nat)(st:LSt):(Er×Nat)×LSt:=match Ot b k a st with
 |((some e,c),st')=>((some e,c),st')
 |((none,c),st')=>Vh6 b c st'
theorem Vad (hb:b.length<1000000000)(H0:Aa):∀(m a:Nat)(st:LSt)(H:Aa),a<=b.length->b.length-a<m->∀n,m<=n->RLe bx N b0 p b a st H ->
  Nz bx N b0 p b H (Al (λrec1 vs H=>Uax H0 rec1 (ag vs 0) H) n [.ptr p 0 0] H) (.tup []) (VmO b m a st):=by
 intro m
 induction m with
 |zero=>intro a st H _ h;omega
 |succ m ih=>
  intro a st H ha hm n hn h;obtain⟨n,rfl⟩:∃k,n=k+1:=⟨n-1,by omega⟩;rw[Cp];generalize hg:Al (λrec1 vs H=>Uax H0 rec1 (ag vs 0) H) n=rec;obtain⟨f0,f1,g0,g1,v,h⟩:=h;cases hs:Bc b a [35]with
  |false=>have:VmO b (m+1) a st=Vh6 b a st:=(by unfold VmO Ot;rw[hs];rfl);rw[this];exact VkK h ha (by omega) hs
  |true=>
   have hr:=VeO h ha (by omega);have hok:=VeR ha st;have aQ:=VkN ha st;have he:VmO b (m+1) a st=match Pc b a st with
     |((some e,c),st')=>((some e,c),st')
     |((none,c),st')=>VmO b m c st':=by
    unfold VmO
    conv=>lhs;unfold Ot
    rw[if_pos hs];generalize Pc b a st=M;obtain⟨⟨er,c⟩,st'⟩:=M;cases er<;>rfl
   rw[he];unfold Uax;simp only[GMw,HPw,Nat.reduceAdd,Nat.reduceLT,Ah,Ae,De h.lx ha,hs];obtain⟨H1,r1,r2,r3⟩:=hr;rw[r1];generalize Pc b a st=M at r1 r2 r3 hok aQ;obtain⟨⟨er,c⟩,st'⟩:=M;obtain⟨k1,k2,k3,k4⟩:=hok;dsimp only at r1 r2 r3 k1 k2 aQ⊢;cases er with
   |some e=>simp only[GMw,HPw,Nat.reduceAdd,Nat.reduceLT,BJ];exact⟨H1,rfl,r2,r3⟩
   |none=>have:=aQ rfl;obtain⟨H2,s1,s2,s3⟩:=ih c st' H1 k1 (by omega) n (by omega) r3;rw[hg]at s1;simp only[GMw,HPw,Nat.reduceAdd,Nat.reduceLT,B7];exact⟨H2,s1,r2.trans s2,s3⟩
theorem VkM (hb:b.length<1000000000)(ha:a<=b.length)(h:RLe bx N b0 p b a st H):Nz bx N b0 p b H (UbU (.ptr p 0 0) H) (.tup []) (ViT b a st):=by unfold UbU;exact Vad hb H (b.length+1) a st H ha (by omega) AU (by rw[Dj];omega) h
theorem Vma {i:Nat}(h:Bc b i Dm=true)(hl:i<b.length):IntKind.u8.wrap ((b[i].toNat:Int)-48)=(MV b i:Int)/\IntKind.i64.wrap (MV b i:Int)=(MV b i:Int):=by
 have h':=h;unfold Bc at h';rw[W4 hl]at h';have hm:b[i]∈Dm:=by simpa using h'
 have key:∀x∈Dm,48<=x.toNat:=by decide
 have h1:=key _ hm;have h2:=b[i].toNat_lt;have e:MV b i=b[i].toNat-48:=by unfold MV;rw[W6,W4 hl];rfl
 rw[e];exact⟨by rw[Gp (by omega) (by omega)];omega,OT (by omega)⟩
def Vhp (bx N:Int)(b0 p:Nat)(b:zAa)(st:LSt)(H:Aa)(x:Out)(s:Er×Nat×Nat):Prop:=∃H',x=some (Qz s.1 (.i6 (s.2.2:Int)),H')/\Ext b0 p H H'/\RLe bx N b0 p b s.2.1 st H'
theorem UG (hb:b.length<1000000000)(H0:Aa){f:Nat}:∀(m a n:Nat)(H:Aa),a<=b.length->f<=a->a<=f+9->n<10^(a-f)->f+10<a+m->∀k,m<=k->RLe bx N b0 p b a st H ->
  Vhp bx N b0 p b st H (Al (λrec1 vs H=>UbV H0 rec1 (ag vs 0) (ag vs 1) (ag vs 2) H) k [.ptr p 0 0,.i6 (n:Int),.i6 (f:Int)] H) (J6 b f m a n):=by
 intro m
 induction m with
 |zero=>intro a n H _ _ _ _ h;omega
 |succ m ih=>
  intro a n H ha hf h9 hn hm k hk hh;obtain⟨k,rfl⟩:∃j,k=j+1:=⟨k-1,by omega⟩;have hn9:n<=999999999:=by have:=Xe (show 0<10 by decide) (show a-f<=9 by omega);omega
  rw[Cp];generalize hg:Al (λrec1 vs H=>UbV H0 rec1 (ag vs 0) (ag vs 1) (ag vs 2) H) k=rec;have tR:=hh;obtain⟨f0,f1,g0,g1,v,h⟩:=hh;unfold UbV J6 Vhp;simp only[GMw,HPw,Nat.reduceAdd,Nat.reduceLT,Ah,Ae,De h.lx ha];rw[show Bc b a [48,49,50,51,52,53,54,55,56,57]=Bc b a Dm from rfl];cases hs:Bc b a Dm with
  |false=>simp only[GMw,HPw,Nat.reduceAdd,Nat.reduceLT,WB,if_false];exact⟨H,rfl,Ext.refl _ _ _,tR⟩
  |true=>
   have hlt:=CE hs;have hd9:=Vku hs;obtain⟨db1,db2⟩:=Vma hs hlt;have dn:decide ((n:Int)=0)=decide (n=0):=(by rw[WP];simp);have gF:IntKind.i64.wrap ((a:Int)-(f:Int))=((a-f:Nat):Int):=(by rw[Am (by omega) (by omega)];omega);have d9:decide (((a-f:Nat):Int)=9)=decide (a-f=9):=(by rw[WP];simp;omega);have go:∀x:Out,x=UdP H0 rec (.ptr p 0 0) (.i6 (n:Int)) (.i6 (f:Int)) H->a-f≠9->∃H',x=some (Qz (J6 b f m (a+1) (10*n+MV b a)).1 (.i6 ((J6 b f m (a+1) (10*n+MV b a)).2.2:Int)),H')/\Ext b0 p H H'/\RLe bx N b0 p b (J6 b f m (a+1) (10*n+MV b a)).2.1 st H':=(by intro x hx hne;have aQ:Ai 1 (.ptr p 0 1) (.i6 ((a+1:Nat):Int)) H=some (BW H p b (rdL bx N st f0 f1 g0 g1 v) (a+1)):=ND h.lx _;obtain⟨h1,e1⟩:=h.go0 (a+1);have dB:IntKind.i64.wrap (10*(n:Int))=((10*n:Nat):Int):=(by rw[Am (by omega) (by omega)];simp);have aW:IntKind.i64.wrap (((10*n:Nat):Int)+(MV b a:Int))=((10*n+MV b a:Nat):Int):=(by rw[Am (by omega) (by omega)];simp);have dO:C3 (.str b) (.i6 (a:Int))=some (.int .u8 (b[a].toNat:Int)):=DC hlt;rw[hx];unfold UdP;simp only[GMw,HPw,Nat.reduceAdd,Nat.reduceLT,Ah,Ae,dB,FC h.lx,QB h.lx,B3,dO,db1,Bx,db2,aW,Au (show a<9223372036854775807 by omega),aQ,AM];obtain⟨H2,s1,s2,s3⟩:=ih (a+1) (10*n+MV b a) _ (by omega) (by omega) (by omega) (by rw[show a+1-f=a-f+1 by omega,Nat.pow_succ];omega) (by omega) k (by omega) ⟨_,_,_,_,_,h1⟩;rw[hg]at s1;exact⟨H2,s1,e1.trans s2,s3⟩);simp only[GMw,HPw,Nat.reduceAdd,Nat.reduceLT,if_true,dn];cases h0:decide (n=0)with
   |true=>have dT:n=0:=of_decide_eq_true h0;simp only[GMw,HPw,Nat.reduceAdd,Nat.reduceLT,Ah,Ae,De h.lx ha,zXn,h0];cases pS:Bc b a [48]with|true=>simp only[GMw,HPw,Nat.reduceAdd,Nat.reduceLT,Jg h.lx,if_true,h0];exact⟨H,rfl,Ext.refl _ _ _,tR⟩|false=>simp only[GMw,HPw,Nat.reduceAdd,Nat.reduceLT,WB,if_false,Ah,Ae,FC h.lx,gF,d9,h0];by_cases oP:a-f=9;simp only[oP,GMw,HPw,Nat.reduceAdd,Nat.reduceLT,ML,if_true];exact⟨H,rfl,Ext.refl _ _ _,tR⟩;simp only[oP,GMw,HPw,Nat.reduceAdd,Nat.reduceLT,if_false];exact go _ rfl oP
   |false=>simp only[GMw,HPw,Nat.reduceAdd,Nat.reduceLT,Xw,WB,if_false,Ah,Ae,FC h.lx,gF,d9,h0];by_cases oP:a-f=9;simp only[oP,GMw,HPw,Nat.reduceAdd,Nat.reduceLT,ML,if_true];exact⟨H,rfl,Ext.refl _ _ _,tR⟩;simp only[oP,GMw,HPw,Nat.reduceAdd,Nat.reduceLT,if_false];exact go _ rfl oP
theorem VhM (hb:b.length<1000000000)(ha:a<=b.length)(h:RLe bx N b0 p b a st H):Vhp bx N b0 p b st H (UbW (.ptr p 0 0) H) (J6 b a 11 a 0):=by have h':=h;obtain⟨f0,f1,g0,g1,v,hx⟩:=h;unfold UbW;simp only[GMw,HPw,Nat.reduceAdd,Nat.reduceLT,Ah,Ae,FC hx.lx,B3];exact UG hb H 11 a 0 H ha (W7 _) (by omega) (by simp) (by omega) AU (by rw[Dj];omega) h'

end
section
variable {bx N:Int}{b0 p a:Nat}{b:zAa}{st:LSt}{H:Aa}{f0 f1 g0 g1 v:Ab}
theorem Vdd {i:Nat}(h:Bc b i JO=true):∃hl:i<b.length,65<=b[i].toNat/\b[i].toNat<=88/\atV b i=b[i].toNat:=by
 have hl:=CE h;unfold Bc at h;rw[W4 hl]at h;have hm:b[i]∈JO:=by simpa using h
 have key:∀x∈JO,65<=x.toNat/\x.toNat<=88:=by decide
 exact⟨hl,(key _ hm).1,(key _ hm).2,by unfold atV;rw[W6,W4 hl];rfl⟩
theorem ViB {i:Nat}(h:Bc b i TE=true):∃hl:i<b.length,112<=b[i].toNat/\b[i].toNat<=121/\atV b i=b[i].toNat:=by
 have hl:=CE h;unfold Bc at h;rw[W4 hl]at h;have hm:b[i]∈TE:=by simpa using h
 have key:∀x∈TE,112<=x.toNat/\x.toNat<=121:=by decide
 exact⟨hl,(key _ hm).1,(key _ hm).2,by unfold atV;rw[W6,W4 hl];rfl⟩
theorem VjM {x k:Nat}(h:k<=x)(hx:x<256):IntKind.u8.wrap ((x:Int)-(k:Int))=((x-k:Nat):Int):=by rw[Gp (by omega) (by omega)];omega
theorem Qh {x y:Nat}(h:x+y<9223372036854775808):IntKind.i64.wrap ((x:Int)+(y:Int))=((x+y:Nat):Int):=by rw[Am (by omega) (by omega)];simp
theorem Vlw {x y:Nat}(h:x*y<9223372036854775808):IntKind.i64.wrap ((x:Int)*(y:Int))=((x*y:Nat):Int):=by
 have e0:((x:Int)*(y:Int))=((x*y:Nat):Int):=by simp
 rw[e0,Am (by omega) (by omega)]
theorem VgC {x:Nat}(hx:x<256):IntKind.i64.wrap (x:Int)=(x:Int):=OT (by omega)
theorem VhK (hb:b.length<1000000000)(ha:a<=b.length)(h:RLe bx N b0 p b a st H):Vhp bx N b0 p b st H (UaP (.ptr p 0 0) H) (UC b a):=by
 have hh:=h;obtain⟨f0,f1,g0,g1,v,h⟩:=h;have u65:∀ {x:Nat},65<=x->x<256->IntKind.u8.wrap ((x:Int)-65)=((x-65:Nat):Int):=λh hx=>VjM (k:=65) h hx;have u112:∀ {x:Nat},112<=x->x<256->IntKind.u8.wrap ((x:Int)-112)=((x-112:Nat):Int):=λh hx=>VjM (k:=112) h hx;have a1:∀ {x:Nat},x<1000->IntKind.i64.wrap ((x:Int)+1)=((x+1:Nat):Int):=λh=>Qh (y:=1) (by omega);have a24:∀ {x:Nat},x<1000->IntKind.i64.wrap ((x:Int)+24)=((x+24:Nat):Int):=λh=>Qh (y:=24) (by omega);have m24:∀ {x:Nat},x<1000->IntKind.i64.wrap (24*(x:Int))=((24*x:Nat):Int):=λh=>Vlw (x:=24) (by omega);unfold UaP UC Vhp;simp only[GMw,HPw,Nat.reduceAdd,Nat.reduceLT,Ah,Ae,De h.lx ha];cases h1:Bc b a [46,98]with
 |true=>simp only[GMw,HPw,Nat.reduceAdd,Nat.reduceLT,if_true];exact⟨H,rfl,Ext.refl _ _ _,hh⟩
 |false=>
  simp only[GMw,HPw,Nat.reduceAdd,Nat.reduceLT,WB,if_false,Ah,Ae,De h.lx ha];cases h2:Bc b a [111]with
  |true=>simp only[GMw,HPw,Nat.reduceAdd,Nat.reduceLT,if_true];exact⟨H,rfl,Ext.refl _ _ _,hh⟩
  |false=>
   simp only[GMw,HPw,Nat.reduceAdd,Nat.reduceLT,WB,if_false,Ah,Ae,De h.lx ha];rw[show Bc b a [65,66,67,68,69,70,71,72,73,74,75,76,77,78,79,80,81,82,83,84,85,86,87,88]=Bc b a JO from rfl];cases h3:Bc b a JO with
   |true=>obtain⟨hl,c1,c2,c3⟩:=Vdd h3;have dO:C3 (.str b) (.i6 (a:Int))=some (.int .u8 (b[a].toNat:Int)):=DC hl;simp only[GMw,HPw,Nat.reduceAdd,Nat.reduceLT,if_true,Ah,Ae,FC h.lx,QB h.lx,B3,dO,u65 c1 (show b[a].toNat<256 by omega),Bx,VgC (show b[a].toNat-65<256 by omega),a1 (show b[a].toNat-65<1000 by omega)];exact⟨H,by rw[c3];rfl,Ext.refl _ _ _,hh⟩
   |false=>
    simp only[GMw,HPw,Nat.reduceAdd,Nat.reduceLT,WB,if_false,Ah,Ae,De h.lx ha];rw[show Bc b a [112,113,114,115,116,117,118,119,120,121]=Bc b a TE from rfl];cases h4:Bc b a TE with
    |false=>simp only[GMw,HPw,Nat.reduceAdd,Nat.reduceLT,WB,if_false,Ah,Ae,Jg h.lx];exact⟨H,rfl,Ext.refl _ _ _,hh⟩
    |true=>
     obtain⟨hl,c1,c2,c3⟩:=ViB h4;have dO:C3 (.str b) (.i6 (a:Int))=some (.int .u8 (b[a].toNat:Int)):=DC hl;have aQ:Ai 1 (.ptr p 0 1) (.i6 ((a+1:Nat):Int)) H=some (BW H p b (rdL bx N st f0 f1 g0 g1 v) (a+1)):=ND h.lx _;obtain⟨h5,e5⟩:=h.go0 (a+1);have sW:decide ((b[a].toNat:Int)=121)=decide (b[a]? = some 121):=(by rw[W4 hl,WP];simp only[zXe,WE];constructor;intro e;exact XL.1 (by show b[a].toNat=121;omega);intro e;rw[e];rfl);unfold Ue1;simp only[GMw,HPw,Nat.reduceAdd,Nat.reduceLT,if_true,Ah,Ae,FC h.lx,QB h.lx,B3,dO,Au (show a<9223372036854775807 by omega),aQ,AM];generalize BW H p b _ (a+1)=H1 at h5 e5;have tQ:RLe bx N b0 p b (a+1) st H1:=⟨_,_,_,_,_,h5⟩;have pR:a+1<=b.length:=hl;simp only[De h5.lx pR];rw[show Bc b (a+1) [65,66,67,68,69,70,71,72,73,74,75,76,77,78,79,80,81,82,83,84,85,86,87,88]=Bc b (a+1) JO from rfl];cases h6:Bc b (a+1) JO with
     |false=>simp only[GMw,HPw,Nat.reduceAdd,Nat.reduceLT,X2,Yi,if_true,Ah,Ae,Jg h5.lx];exact⟨H1,rfl,e5,tQ⟩
     |true=>
      obtain⟨gK,d1,d2,d3⟩:=Vdd h6;have wA:C3 (.str b) (.i6 ((a+1:Nat):Int))=some (.int .u8 (b[a+1].toNat:Int)):=DC gK;simp only[GMw,HPw,Nat.reduceAdd,Nat.reduceLT,Xo,zXo,sW,Ah,Ae,De h5.lx pR];have fin:UdQ H (.ptr p 0 0) (.int .u8 (b[a].toNat:Int)) H1=some (.ret (.i6 ((24*(atV b a-112)+(atV b (a+1)-65)+25:Nat):Int)),H1):=by
       unfold UdQ;simp only[GMw,HPw,Nat.reduceAdd,Nat.reduceLT,Ah,Ae,FC h5.lx,QB h5.lx,B3,wA,u112 c1 (show b[a].toNat<256 by omega),Bx,VgC (show b[a].toNat-112<256 by omega),m24 (show b[a].toNat-112<1000 by omega),u65 d1 (show b[a+1].toNat<256 by omega),
        VgC (show b[a+1].toNat-65<256 by omega),Qh (show 24*(b[a].toNat-112)+(b[a+1].toNat-65)<9223372036854775808 by omega),a24 (show 24*(b[a].toNat-112)+(b[a+1].toNat-65)<1000 by omega),a1 (show 24*(b[a].toNat-112)+(b[a+1].toNat-65)+24<1000 by omega)]
       rw[c3,d3]
      cases h7:decide (b[a]? = some 121)with
      |false=>simp only[GMw,HPw,Nat.reduceAdd,Nat.reduceLT,Xw,WB,if_false,h7,fin];exact⟨H1,rfl,e5,tQ⟩
      |true=>simp only[GMw,HPw,Nat.reduceAdd,Nat.reduceLT,zXn,h7,Ah,Ae,De h5.lx pR];rw[show Bc b (a+1) [80,81,82,83,84,85,86,87,88]=Bc b (a+1) VfR from rfl];cases h8:Bc b (a+1) VfR with|true=>simp only[GMw,HPw,Nat.reduceAdd,Nat.reduceLT,if_true,Ah,Ae,Jg h5.lx];exact⟨H1,rfl,e5,tQ⟩|false=>simp only[GMw,HPw,Nat.reduceAdd,Nat.reduceLT,WB,if_false,fin];exact⟨H1,rfl,e5,tQ⟩
theorem Veg (s:Nat):IntKind.u8.wrap (s:Int)=((UInt8.ofNat s).toNat:Int):=by
 have h:(UInt8.ofNat s).toNat=s%256:=by simp
 rw[h];have h1:IntKind.u8.bits=8:=rfl;have h2:IntKind.u8.signed=false:=rfl;unfold IntKind.wrap;simp[h1,h2]
theorem Vj3 (x y:Int)(s:Nat):A6 (some [(.bool false),(.sl [] .ti),(.bool false),(.sl [] .ti),(.int .u8 0)]) [(0,2,big x),(2,2,big y),(4,1,(.int .u8 ((UInt8.ofNat s).toNat:Int)))]=some (.agg (cCl ⟨x,y,UInt8.ofNat s⟩)):=rfl
theorem Vfv (h:RLx bx N b0 p b a st f0 f1 g0 g1 v H){q s n i:Nat}{Y:Int}(hq:H[q]? = some (.c0 (A2 Y)))(mM:q≠p)(hX:st.x.natAbs<10^400)(hc:st.col<=1000000000000000000)(hk:st.cells.length<=1000000000000)(hi:i<n)(hn:n<=1000000000){rec:LK}{H0:Aa}:∃w H6,Uay H0 rec (.ptr p 0 0) (.i6 (s:Int)) (.ptr q 0 0) (.i6 (n:Int)) (.i6 (i:Int)) H=rec [.ptr p 0 0,.i6 (s:Int),.ptr q 0 0,.i6 (n:Int),.i6 ((i+1:Nat):Int)] H6 /\
   RLx bx N b0 p b a {st with col:=st.col+1,cells:=st.cells++[⟨st.x+st.col,Y,UInt8.ofNat s⟩]} f0 f1 g0 g1 w H6/\Ext b0 p H H6:=by
 have hd:decide ((i:Int)<(n:Int))=true:=zXc (by omega);have pO:Ad false 1 (.ptr p 0 9) H=some (.i6 (st.col:Int)):=by rw[CD h.lx];rfl
 have hf:Ad true 2 (.ptr p 0 5) H=some (.agg [f0,f1]):=by rw[Vkh h.lx (by simp[rdL])];rfl
 have hv:Ad false 1 (.ptr p 0 11) H=some v:=by rw[CD h.lx];rfl
 have hy:Ad true 2 (.ptr q 0 0) H=some (big Y):=Ba hq;have aW:=λK=>VjW (n:=st.col) K h.fx (TK hX) (Vki (show st.col<=1152921504606846976 by omega));obtain⟨w,H6,r1,r2,r3⟩:=h.row.snoc (bytes:=72) h.ble ⟨st.x+st.col,Y,UInt8.ofNat s⟩ .ti (by omega) (by omega);have nX:Lx H6 p b a (rdL bx N st f0 f1 g0 g1 v):=r3.cel _ _ h.lx;have uB:w.isScal=true:=by obtain⟨tk,rfl⟩:=r2.sl;rfl
 have xV:=ViA nX;obtain⟨C7,hC7⟩:∃C,C=(Ab.str b::.i6 (a:Int)::rdL bx N st f0 f1 g0 g1 v).set 11 w:=⟨_,rfl⟩;obtain⟨H7,hH7⟩:∃K,K=H6.set p (.c0 C7):=⟨_,rfl⟩;have hst:Ai 1 (.ptr p 0 11) w H6=some H7:=by rw[hH7,hC7];exact HD (o:=11) (v:=w) nX uB (by simp[rdL])
 have rH:H7[p]? = some (.c0 C7):=by rw[hH7,WJ xV]
 have hc7:Ad false 1 (.ptr p 0 9) H7=some (.i6 (st.col:Int)):=by rw[CD rH,hC7];rfl
 obtain⟨H8,hH8⟩:∃K,K=H7.set p (.c0 (C7.set 9 (.i6 ((st.col+1:Nat):Int)))):=⟨_,rfl⟩;have gG:Ai 1 (.ptr p 0 9) (.i6 ((st.col+1:Nat):Int)) H7=some H8:=by rw[hH8];exact HD (o:=9) rH rfl (by rw[hC7];simp[rdL])
 have h8:H8=H6.set p (.c0 (.str b::.i6 (a:Int)::rdL bx N {st with col:=st.col+1,cells:=st.cells++[⟨st.x+st.col,Y,UInt8.ofNat s⟩]} f0 f1 g0 g1 w)):=by rw[hH8,hH7,Zg,hC7];rfl
 unfold Uay;simp only[GMw,HPw,Nat.reduceAdd,Nat.reduceLT,hd,Ah,Ae,pO,B3,Vpw (st.col:Int) _ (by omega) (by omega),Vkm,hf,aW,hv,hy,Bx,Veg,Vj3,Qc,r1,hst,AM,Cd,hc7,Au (show st.col<9223372036854775807 by omega),gG,Au (show i<9223372036854775807 by omega)];refine⟨w,H8,rfl,?_,?_⟩;rw[h8];refine⟨h.hb,?_,r2.put nX,h.fx,h.gy⟩;unfold Lx;rw[WJ xV];rw[h8];exact Ext.trans ⟨r3.len,λi cs hi hc=>r3.cel i cs hc,r3.old⟩ ⟨by simp,λi c hi hc=>by rw[WA (Ne.symm hi)];exact hc,λi hi=>by rw[WA (by have:=h.hb;omega)]⟩
def Q2 (st:LSt)(s i:Nat):LSt:={st with col:=st.col+i,cells:=st.cells++Tv st i s}
theorem Vfw (st:LSt)(i s:Nat):Tv st (i+1) s=Tv st i s++[⟨st.x+((st.col+i:Nat):Int),st.y+(st.row:Int),UInt8.ofNat s⟩]:=by simp[Tv,Y2]
theorem Vch {H0:Aa}{q s n:Nat}(mM:q≠p)(hX:st.x.natAbs<10^400)(hc:st.col<=100000000000000000)(hk:st.cells.length<=100000000000)(hn:n<=1000000000):∀(m i:Nat)(H:Aa),i+m=n->H[q]? = some (.c0 (A2 (st.y+st.row)))->∀k,m<k ->
  RLe bx N b0 p b a (Q2 st s i) H->Nz bx N b0 p b H (Al (λaA vs H=>Uay H0 aA (ag vs 0) (ag vs 1) (ag vs 2) (ag vs 3) (ag vs 4) H) k [.ptr p 0 0,.i6 (s:Int),.ptr q 0 0,.i6 (n:Int),.i6 (i:Int)] H) (.tup []) ((none,a),Q2 st s n)
 |0,i,H,gY,hq,k,hk2,h=>by
  obtain⟨k,rfl⟩:∃j,k=j+1:=⟨k-1,by omega⟩;have e:i=n:=by omega
  subst e;have hd:decide ((i:Int)<(i:Int))=false:=zXd (by omega);rw[Cp];unfold Uay;simp only[GMw,HPw,Nat.reduceAdd,Nat.reduceLT,hd];exact⟨H,rfl,Ext.refl _ _ _,h⟩
 |m+1,i,H,gY,hq,k,hk2,h=>by
  obtain⟨k,rfl⟩:∃j,k=j+1:=⟨k-1,by omega⟩;rw[Cp];generalize hg:Al (λaA vs H=>Uay H0 aA (ag vs 0) (ag vs 1) (ag vs 2) (ag vs 3) (ag vs 4) H) k=rec;obtain⟨f0,f1,g0,g1,v,h⟩:=h;obtain⟨w,H6,r1,r2,r3⟩:=Vfv h (s:=s) (n:=n) (i:=i) hq mM hX (by show st.col+i<=_;omega) (by show(st.cells++Tv st i s).length<=_;rw[WC,Vci];omega) (by omega) hn (rec:=rec) (H0:=H0);have e2:({ Q2 st s i with col:=(Q2 st s i).col+1,cells:=(Q2 st s i).cells++[⟨(Q2 st s i).x+(Q2 st s i).col,st.y+st.row,UInt8.ofNat s⟩]}:LSt)=Q2 st s (i+1):=by unfold Q2;rw[Vfw];simp[Xc]
  rw[e2]at r2;obtain⟨H7,s1,s2,s3⟩:=Vch mM hX hc hk hn m (i+1) H6 (by omega) (r3.cel q _ mM hq) k (by omega) ⟨_,_,_,_,_,r2⟩;rw[hg]at s1;exact⟨H7,r1.trans s1,r3.trans s2,s3⟩

end
section
variable {bx N:Int}{b0 p a:Nat}{b:zAa}{st:LSt}{H:Aa}{f0 f1 g0 g1 v:Ab}
theorem Vn5 (st:LSt)(s:Nat):Q2 st s 0=st:=by unfold Q2 Tv;simp
theorem VhL {n s m:Nat}(hn:n<=999999999)(hm:m<=1000000)(hok:LOk m st)(hbx:bx<=1000)(h:RLe bx N b0 p b a st H):Nz bx N b0 p b H (UaT (.ptr p 0 0) (.i6 (n:Int)) (.i6 (s:Int)) H) (.tup []) (((OC bx n s st).1,a),(OC bx n s st).2):=by
 have hc:=hok.c;have hr:=hok.r;have hk:=hok.k;have hh:=h;obtain⟨f0,f1,g0,g1,v,h⟩:=h;have pO:Ad false 1 (.ptr p 0 9) H=some (.i6 (st.col:Int)):=by rw[CD h.lx];rfl
 have hrw:Ad false 1 (.ptr p 0 10) H=some (.i6 (st.row:Int)):=by rw[CD h.lx];rfl
 have hbw:Ad false 1 (.ptr p 0 2) H=some (.i6 bx):=by rw[CD h.lx];rfl
 have lX:=Qh (show st.col+n<9223372036854775808 by omega);have hds:decide ((s:Int)=0)=decide (s=0):=by rw[WP];simp
 unfold UaT OC;by_cases h0:s=0
 ·obtain⟨K,hst,s1,s2⟩:∃K,Ai 1 (.ptr p 0 9) (.i6 ((st.col+n:Nat):Int)) H=some K/\RLx bx N b0 p b a {st with col:=st.col+n} f0 f1 g0 g1 v K/\Ext b0 p H K:=
   ⟨_,HD (o:=9) (v:=.i6 ((st.col+n:Nat):Int)) h.lx rfl (by simp[rdL]),h.set (a':=a) (st':={st with col:=st.col+n}) h.row rfl h.fx h.gy⟩
  simp only[hds,zXc h0,h0,GMw,HPw,Nat.reduceAdd,Nat.reduceLT,Ah,Ae,pO,lX,hst,AM,if_true];exact⟨K,rfl,s2,_,_,_,_,_,s1⟩
 ·have hcc:((st.col+n:Nat):Int)=(st.col:Int)+n:=by simp
  have j1:decide ((st.row:Int)>=bx)=false->decide ((st.col:Int)+n>bx)=false->Nz bx N b0 p b H (UdU H (.ptr p 0 0) (.i6 (n:Int)) (.i6 (s:Int)) H) (.tup []) ((none,a),Q2 st s n):=by intro d1 d2;have hg:Ad true 2 (.ptr p 0 7) H=some (.agg [g0,g1]):=(by rw[Vkh h.lx (by simp[rdL])];rfl);have aW:=λK=>VjW (n:=st.row) K h.gy (TK hok.y) (Vki (show st.row<=1152921504606846976 by omega));have hal:A0 (some [.bool false,.sl [] .ti]) H=some (.ptr H.length 0 0,H++[.c0 [.bool false,.sl [] .ti]]):=alloc_eq rfl;have hst:Ai 2 (.ptr H.length 0 0) (big (st.y+st.row)) (H++[.c0 [.bool false,.sl [] .ti]])=some (H++[.c0 (A2 (st.y+st.row))]):=(by have e0:=Ve2 (p:=H.length) (o:=0) (z:=st.y+st.row) (H:=H++[Blk.c0 [Ab.bool false,.sl [] .ti]]) (cs:=[Ab.bool false,.sl [] .ti]) (by simp) (by simp);rw[e0,Be];rfl);have hp:=h.lt;unfold UdU;simp only[GMw,HPw,Nat.reduceAdd,Nat.reduceLT,Ah,Ae,hrw,B3,Vpw (st.row:Int) _ (by omega) (by omega),Vkl,hg,aW,hal,hst,AM];have h2:=h.push [.c0 (A2 (st.y+st.row))];obtain⟨H7,s1,s2,s3⟩:=Vch (H0:=H) (bx:=bx) (N:=N) (b0:=b0) (b:=b) (a:=a) (p:=p) (st:=st) (q:=H.length) (s:=s) (n:=n) (by omega) hok.x (by omega) (by omega) (by omega) n 0 (H++[.c0 (A2 (st.y+st.row))]) (by omega) (by simp) AU (by rw[Dj];omega) (by rw[Vn5];exact⟨_,_,_,_,_,h2⟩);exact⟨H7,s1,(Ext.push b0 p h.ble _).trans s2,s3⟩
  have e3:({st with col:=st.col+n,cells:=st.cells++Tv st n s}:LSt)=Q2 st s n:=rfl;simp only[hds,zXd h0,h0,GMw,HPw,Nat.reduceAdd,Nat.reduceLT,Ah,Ae,hrw,hbw,B3,if_false];cases d1:decide ((st.row:Int)>=bx)with
  |true=>simp only[d1,GMw,HPw,Nat.reduceAdd,Nat.reduceLT,ML,Yi,if_true];exact⟨H,rfl,Ext.refl _ _ _,hh⟩
  |false=>simp only[d1,GMw,HPw,Nat.reduceAdd,Nat.reduceLT,Ah,Ae,pO,hbw,B3,lX,hcc,zXo];cases d2:decide ((st.col:Int)+n>bx)with|true=>simp only[d2,GMw,HPw,Nat.reduceAdd,Nat.reduceLT,ML,if_true];exact⟨H,rfl,Ext.refl _ _ _,hh⟩|false=>simp only[d2,GMw,HPw,Nat.reduceAdd,Nat.reduceLT,WB,if_false];rw[e3];exact j1 d1 d2
def VmC (bx N:Int)(b0 p:Nat)(b:zAa)(H:Aa)(x:Out)(s:((Er×Nat)×LSt)×Bool):Prop:=∃H',x=some (Qz s.1.1.1 (.bool s.2),H')/\Ext b0 p H H'/\RLe bx N b0 p b s.1.1.2 s.1.2 H'
theorem VhJ {m:Nat}(hb:b.length<1000000000)(ha:a<=b.length)(hm:m<=1000000)(hok:LOk m st)(hbx:bx<=1000)(h:RLe bx N b0 p b a st H):VmC bx N b0 p b H (Ucd (.ptr p 0 0) H) (OZ b bx a st):=by
 obtain⟨H1,r1,r2,r3⟩:=VhM hb ha h;have lX:=Vdc ha;unfold Ucd OZ;rw[r1];generalize J6 b a 11 a 0=M at r1 r2 r3 lX;obtain⟨er,c,t⟩:=M;obtain⟨c1,c2,c3,c4⟩:=lX;dsimp only at r1 r2 r3 c1 c2 c3⊢;cases er with
 |some e=>simp only[BJ,GMw,HPw,Nat.reduceAdd,Nat.reduceLT];exact⟨H1,rfl,r2,r3⟩
 |none=>
  have kV:((max t 1:Nat):Int)=max (t:Int) 1:=by omega
  have vG:max t 1<=999999999:=by omega
  have xQ:=r3;obtain⟨f0,f1,g0,g1,v,h1⟩:=r3;have step:∀(st':LSt)(d:Nat)(K:Aa),d<b.length->Ext b0 p H K->RLe bx N b0 p b d st' K->VmC bx N b0 p b H (Ucc H (.ptr p 0 0) K) (((none,d+1),st'),false):=by intro st' d K hd hE hK;obtain⟨f0,f1,g0,g1,v,hK⟩:=hK;have aQ:Ai 1 (.ptr p 0 1) (.i6 ((d+1:Nat):Int)) K=some (BW K p b (rdL bx N st' f0 f1 g0 g1 v) (d+1)):=ND hK.lx _;obtain⟨h2,e2⟩:=hK.go0 (d+1);unfold Ucc;simp only[GMw,HPw,Nat.reduceAdd,Nat.reduceLT,Ah,Ae,FC hK.lx,Au (show d<9223372036854775807 by omega),aQ,AM];exact⟨_,rfl,hE.trans e2,_,_,_,_,_,h2⟩
  simp only[B7,GMw,HPw,Nat.reduceAdd,Nat.reduceLT,Sy,Ah,Ae,De h1.lx c1];cases h36:Bc b c [36]with
  |true=>have hlt:=CE h36;have hr:=hok.r;have hrw:Ad false 1 (.ptr p 0 10) H1=some (.i6 (st.row:Int)):=(by rw[CD h1.lx];rfl);have aW:=Qh (show st.row+max t 1<9223372036854775808 by omega);rw[kV]at aW;have qS:=h1.lt;obtain⟨C2,hC2⟩:∃C,C=(Ab.str b::.i6 (c:Int)::rdL bx N st f0 f1 g0 g1 v).set 10 (.i6 ((st.row+max t 1:Nat):Int)):=⟨_,rfl⟩;obtain⟨H2,hH2⟩:∃K,K=H1.set p (.c0 C2):=⟨_,rfl⟩;have hst:Ai 1 (.ptr p 0 10) (.i6 ((st.row+max t 1:Nat):Int)) H1=some H2:=(by rw[hH2,hC2];exact HD (o:=10) h1.lx rfl (by simp[rdL]));have vO:H2[p]? = some (.c0 C2):=(by rw[hH2,WJ qS]);obtain⟨H3,hH3⟩:∃K,K=H2.set p (.c0 (C2.set 9 (.i6 0))):=⟨_,rfl⟩;have gG:Ai 1 (.ptr p 0 9) (.i6 0) H2=some H3:=(by rw[hH3];exact HD (o:=9) vO rfl (by rw[hC2];simp[rdL]));obtain⟨s1,s2⟩:RLx bx N b0 p b c {st with row:=st.row+max t 1,col:=0} f0 f1 g0 g1 v H3/\Ext b0 p H1 H3:=(by rw[hH3,hH2,Zg,hC2];exact h1.set (a':=c) (st':={st with row:=st.row+max t 1,col:=0}) h1.row rfl h1.fx h1.gy);simp only[GMw,HPw,Nat.reduceAdd,Nat.reduceLT,if_true,Ah,Ae,hrw,aW,hst,gG,AM];exact step _ c _ hlt (r2.trans s2) ⟨_,_,_,_,_,s1⟩
  |false=>
   simp only[GMw,HPw,Nat.reduceAdd,Nat.reduceLT,WB,if_false,Ah,Ae,De h1.lx c1];have zT:decide ((t:Int)=0)=decide (t=0):=(by rw[WP];simp);have rest:VmC bx N b0 p b H (bK H (UaP (.ptr p 0 0) H1) λx40 H41=>bK H (UaT (.ptr p 0 0) (.i6 (max (t:Int) 1)) x40 H41) λx42 H43=>Ucc H (.ptr p 0 0) H43) (match UC b c with
     |(some e,d,_)=>(((some e,d),st),false)
     |(none,d,s)=>match OC bx (max t 1) s st with
      |(some e,st')=>(((some e,d),st'),false)
      |(none,st')=>(((none,d+1),st'),false)):=by
    obtain⟨H2,s1,s2,s3⟩:=VhK hb c1 xQ;have xP:=Vez (b:=b) c1;rw[s1];generalize UC b c=M at s1 s2 s3 xP;obtain⟨er,d,s⟩:=M;obtain⟨d1,d2,d3,d4⟩:=xP;dsimp only at s1 s2 s3 d1 d2 d3⊢;cases er with
    |some e=>simp only[BJ,GMw,HPw,Nat.reduceAdd,Nat.reduceLT];exact⟨H2,rfl,r2.trans s2,s3⟩
    |none=>obtain⟨H3,t1,t2,t3⟩:=VhL (s:=s) vG hm hok hbx s3;rw[kV]at t1;simp only[B7,GMw,HPw,Nat.reduceAdd,Nat.reduceLT,t1];generalize OC bx (max t 1) s st=M at t1 t2 t3;obtain⟨er,st'⟩:=M;dsimp only at t1 t2 t3⊢;cases er with|some e=>simp only[BJ,GMw,HPw,Nat.reduceAdd,Nat.reduceLT];exact⟨H3,rfl,(r2.trans s2).trans t2,t3⟩|none=>simp only[B7,GMw,HPw,Nat.reduceAdd,Nat.reduceLT];exact step st' d H3 (d3 rfl) ((r2.trans s2).trans t2) t3
   cases h33:Bc b c [33]with
   |true=>simp only[GMw,HPw,Nat.reduceAdd,Nat.reduceLT,zT,zXn];cases h0:decide (t=0)with|true=>simp only[GMw,HPw,Nat.reduceAdd,Nat.reduceLT,if_true,h0];exact⟨H1,rfl,r2,xQ⟩|false=>simp only[GMw,HPw,Nat.reduceAdd,Nat.reduceLT,WB,if_false,h0];exact rest
   |false=>simp only[GMw,HPw,Nat.reduceAdd,Nat.reduceLT,Xw,WB,if_false];exact rest

end
section
variable {bx N:Int}{b0 p a:Nat}{b:zAa}{st:LSt}{H:Aa}{f0 f1 g0 g1 v:Ab}
theorem VkL (hb:b.length<=1000000)(hbx:bx<=1000)(H0:Aa):∀(m a:Nat)(st:LSt)(H:Aa),a<=b.length->b.length-a<m->∀n,m<=n->∀q,q+(b.length-a)<=1000000->LOk q st->RLe bx N b0 p b a st H ->
  Nz bx N b0 p b H (Al (λrec1 vs H=>Uce H0 rec1 (ag vs 0) H) n [.ptr p 0 0] H) (.tup []) (J3 b bx m a st):=by
 intro m
 induction m with
 |zero=>intro a st H _ h;omega
 |succ m ih=>
  intro a st H ha hm n hn q hq hok hh;obtain⟨n,rfl⟩:∃k,n=k+1:=⟨n-1,by omega⟩;rw[Cp];generalize hg:Al (λrec1 vs H=>Uce H0 rec1 (ag vs 0) H) n=rec;have h:=hh;obtain⟨f0,f1,g0,g1,v,h⟩:=h;unfold Uce J3;simp only[GMw,HPw,Nat.reduceAdd,Nat.reduceLT,Ah,Ae,Jh h.lx];by_cases he:a=b.length;simp only[he,zXc,GMw,HPw,Nat.reduceAdd,Nat.reduceLT,if_true];rw[he]at h hh;simp only[Jg h.lx,GMw,HPw,Nat.reduceAdd,Nat.reduceLT];exact⟨H,rfl,Ext.refl _ _ _,hh⟩
  ·have hlt:a<b.length:=(by omega);simp only[he,GMw,HPw,Nat.reduceAdd,Nat.reduceLT,if_false,Ah,Ae,De h.lx ha];cases h32:Bc b a [32]with
   |true=>have aQ:Ai 1 (.ptr p 0 1) (.i6 ((a+1:Nat):Int)) H=some (BW H p b (rdL bx N st f0 f1 g0 g1 v) (a+1)):=ND h.lx _;obtain⟨h2,e2⟩:=h.go0 (a+1);simp only[GMw,HPw,Nat.reduceAdd,Nat.reduceLT,if_true,Ah,Ae,FC h.lx,Au (show a<9223372036854775807 by omega),aQ,AM];obtain⟨H2,s1,s2,s3⟩:=ih (a+1) st _ (by omega) (by omega) n (by omega) q (by omega) hok ⟨_,_,_,_,_,h2⟩;rw[hg]at s1;exact⟨H2,s1,e2.trans s2,s3⟩
   |false=>
    simp only[GMw,HPw,Nat.reduceAdd,Nat.reduceLT,WB,if_false,Ah,Ae,De h.lx ha];cases cK:Bc b a [13,10]with
    |true=>
     have hx:=VfE h.lx ha (by omega) [33] (by decide);have hle:=Vbq ha [33];have aQ:=VcN cK [33];simp only[GMw,HPw,Nat.reduceAdd,Nat.reduceLT,if_true,Ah,Ae,hx];generalize Li b a [33]=M at hle aQ;obtain⟨er,c⟩:=M;dsimp only at hle aQ⊢;obtain⟨h2,e2⟩:=h.go0 c;cases er with
     |some e=>simp only[BJ,GMw,HPw,Nat.reduceAdd,Nat.reduceLT];exact⟨_,rfl,e2,_,_,_,_,_,h2⟩
     |none=>have:=aQ rfl;simp only[B7,GMw,HPw,Nat.reduceAdd,Nat.reduceLT];obtain⟨H2,s1,s2,s3⟩:=ih c st _ hle.2 (by omega) n (by omega) q (by omega) hok ⟨_,_,_,_,_,h2⟩;rw[hg]at s1;exact⟨H2,s1,e2.trans s2,s3⟩
    |false=>
     obtain⟨H1,r1,r2,r3⟩:=VhJ (by omega) ha (m:=q) (by omega) hok hbx hh;have ht:=Veq hbx ha st;simp only[GMw,HPw,Nat.reduceAdd,Nat.reduceLT,WB,if_false,r1];generalize OZ b bx a st=M at r1 r2 r3 ht;obtain⟨⟨⟨er,c⟩,st'⟩,d⟩:=M;obtain⟨t1,t2,t3,t4,t5,t6⟩:=ht;dsimp only at r2 r3 t1 t2 t3 t4 t5 t6⊢;cases d with
     |true=>have:=t6 rfl;subst this;simp only[B7,GMw,HPw,Nat.reduceAdd,Nat.reduceLT];exact⟨H1,rfl,r2,r3⟩
     |false=>
      cases er with
      |some e=>simp only[BJ,GMw,HPw,Nat.reduceAdd,Nat.reduceLT];exact⟨H1,rfl,r2,r3⟩
      |none=>have:=t3 rfl rfl;simp only[B7,GMw,HPw,Nat.reduceAdd,Nat.reduceLT];obtain⟨H2,s1,s2,s3⟩:=ih c st' H1 t1 (by omega) n (by omega) (q+1) (by omega) (t5 q (by omega) hok) r3;rw[hg]at s1;exact⟨H2,s1,r2.trans s2,s3⟩
theorem Vnu (h:RLe bx N b0 p b 0 st H)(hb:b.length<=1000000)(hbx:bx<=1000)(hok:LOk 0 st):Nz bx N b0 p b H (Uaz (.ptr p 0 0) H) (.tup []) (OQ b bx st):=by
 obtain⟨H1,r1,r2,r3⟩:=VkM (by omega) (WZ b.length) h;have ho:=Vgc (WZ b.length) st;unfold Uaz OQ;rw[r1];generalize ViT b 0 st=M at r1 r2 r3 ho;obtain⟨⟨er,c⟩,st'⟩:=M;obtain⟨k1,k2,k3,k4⟩:=ho;dsimp only at r2 r3 k1 k2⊢;cases er with
 |some e=>simp only[BJ,GMw,HPw,Nat.reduceAdd,Nat.reduceLT];exact⟨H1,rfl,r2,r3⟩
 |none=>simp only[B7,GMw,HPw,Nat.reduceAdd,Nat.reduceLT];obtain⟨H4,s1,s2,s3⟩:=VkL (bx:=bx) (N:=N) (b0:=b0) (p:=p) hb hbx H (b.length+1) c st' H1 k1 (by omega) AU (by rw[Dj];omega) 0 (by omega) (k4 0 hok) r3;exact⟨H4,s1,r2.trans s2,s3⟩
def QH (er:Er):Ab:=match er with
 |none=>.agg [.i6 0,.str []]
 |some e=>.agg [.i6 e.1,.str e.2]
theorem V5 (h:RLe bx N b0 p b 0 st H)(hb:b.length<=1000000)(hbx:bx<=1000)(hok:LOk 0 st):∃H',UaU (.bfn 69 [.ptr p 0 0]) H=some (.ret (QH (OQ b bx st).1.1),H')/\Ext b0 p H H'/\RLe bx N b0 p b (OQ b bx st).1.2 (OQ b bx st).2 H':=by
 obtain⟨H1,r1,r2,r3⟩:=Vnu h hb hbx hok;refine⟨H1,?_,r2,r3⟩;have ho:ent 69 (ap1 Uaz) noO 69 [.ptr p 0 0] H=Uaz (.ptr p 0 0) H:=by unfold ent;rw[if_pos rfl];rfl
 unfold UaU PX;simp only[ho,r1,GMw];cases(OQ b bx st).1.1 with|none=>rfl|some e=>rfl

end
def rcC (c:Cl):RC:=⟨decide (c.x<0),AB c.x.natAbs,decide (c.y<0),AB c.y.natAbs,c.s⟩
theorem U0 (z:Int):HS (decide (z<0)) (AB z.natAbs)=true:=by
 unfold HS;rw[Ti,zXn];by_cases h:z<0;have:AB z.natAbs≠[]:=Pv (by omega);rw[zXc h];cases hl:AB z.natAbs with|nil=>exact absurd hl this|cons _ _=>rfl
 rw[zXd h];rfl
theorem VeS (c:Cl):(rcC c).right=true:=by unfold RC.right rcC;rw[U0,U0];rfl
theorem VjP (c:Cl):(rcC c).cl=c:=by unfold RC.cl rcC;rw[LI,LI]
theorem VhO {c:Cl}(h:c.ok):(rcC c).fits:=⟨Bz _,Bz _,h.1.lb (by decide),h.2.lb (by decide)⟩
theorem VlX (L:List Cl):enL cRC (L.map rcC)=enL cCl L:=by
 unfold enL;rw[Zz]
 rfl
theorem Vl4 (L:List Cl):(L.map rcC).map RC.cl=L:=by
 rw[Zz]
 conv=>rhs;rw[<-List.map_id L]
 exact Y6 λc _=>VjP c
theorem Vm4 (L:List Cl):(L.map rcC).all RC.right=true:=by rw[WO];intro r hr;obtain⟨c,_,rfl⟩:=XM.1 hr;exact VeS c
theorem Viy (L:List Cl)(tk:Tok)(H:Aa)(hl:L.length<700000000)(hok:∀c∈L,c.ok):Ubo (.sl (enL cCl L) tk) H=some (.ret (.tup [Dp (CU L).1,.i6 (CU L).2]),H):=by have h:=Vf2 (L.map rcC) tk H (by rw[XB];exact hl) (λr hr=>by obtain⟨c,hc,rfl⟩:=XM.1 hr;exact VhO (hok c hc)) (λr hr _=>by obtain⟨c,hc,rfl⟩:=XM.1 hr;rw[VjP];exact hok c hc);rw[Vm4,VlX,Vl4,if_pos rfl]at h;exact h
def M8 (r:(zAa×List Nd)×Int×Int):Ab:=.tup [pat r.1.1 r.1.2,.i6 r.2.1,.i6 r.2.2]
theorem HV (rule:zAa)(L:List Nd):pat rule L=.agg [.str rule,.sl (enL cNd L) .no]:=rfl
theorem VhQ (L:List Nd):Dp L=.agg [.sl (enL cNd L) .no]:=rfl
theorem Vlm (bx N:Int)(H:Aa):UbF (.agg [.i6 bx,.i6 N]) H=some (.ret (.bool (K0 bx N)),H):=by unfold UbF UbE K0;by_cases h1:bx>=0;by_cases h2:bx<=1000;by_cases h3:N>=0;simp only[GMw,HPw,Nat.reduceAdd,Nat.reduceLT,h1,h2,h3];simp only[GMw,HPw,Nat.reduceAdd,Nat.reduceLT,h1,h2,h3];simp only[GMw,HPw,Nat.reduceAdd,Nat.reduceLT,h1,h2];simp only[GMw,HPw,Nat.reduceAdd,Nat.reduceLT,h1]
theorem VlV {bx N:Int}(h:K0 bx N=true):bx<=1000:=by unfold K0 at h;simp only[WG,zXe]at h;omega
theorem HF (b:zAa)(bx N:Int)(H:Aa)(hb:b.length<=500000):Uff (.str b) (.agg [.i6 bx,.i6 N]) H=some (.ret (M8 (Jb b bx N)),H):=by
 have b1:A6 (some [(.str []),(.sl [] .ti)]) []=some (.agg [.str [],.sl [] .ti]):=rfl;have b2:∀s,A6 (some [(.str []),(.i6 0)]) [(0,1,.str s)]=some (.agg [.str s,.i6 0]):=λ_=>rfl;have b3:∀s,A6 (some [(.str []),(.i6 0),(.i6 0),(.i6 0),(.str []),(.bool false),(.sl [] .ti),(.bool false),(.sl [] .ti),(.i6 0),(.i6 0),(.sl [] .ti)]) [(0,2,.agg [.str s,.i6 0]),(2,2,.agg [.i6 bx,.i6 N])]=some (.agg [.str s,.i6 0,.i6 bx,.i6 N,.str [],.bool false,.sl [] .ti,.bool false,.sl [] .ti,.i6 0,.i6 0,.sl [] .ti]):=λ_=>rfl;unfold Uff Jb;simp only[GMw,HPw,Nat.reduceAdd,Nat.reduceLT,Vlm];cases hf:K0 bx N with
 |false=>
  simp only[GMw,HPw,Nat.reduceAdd,Nat.reduceLT,b1,WB,if_false,M8,HV]
  rfl
 |true=>
  simp only[GMw,HPw,Nat.reduceAdd,Nat.reduceLT,b2,b3,if_true];have hbx:bx<=1000:=VlV hf;obtain⟨F,hF⟩:∃F:Aa,F=H++[.c0 [.i6 bx,.i6 N],.c0 [.str [],.sl [] .ti],.c0 [.str b,.i6 0,.i6 bx,.i6 N,.str [],.bool false,.sl [] .ti,.bool false,.sl [] .ti,.i6 0,.i6 0,.sl [] .ti]]:=⟨_,rfl⟩;have hR:RLe bx N H.length (H.length+2) b 0 QD F:=⟨.bool false,.sl [] .ti,.bool false,.sl [] .ti,.sl [] .ti,by omega,by unfold Lx;rw[hF];simp[rdL,QD],.inl ⟨rfl,rfl⟩,.inr ⟨rfl,rfl,rfl⟩,.inr ⟨rfl,rfl,rfl⟩⟩;obtain⟨H1,c1,c2,c3⟩:=V5 hR (by omega) hbx Vba;rw[hF]at c1;have hlim:H1[H.length]? = some (.c0 [.i6 bx,.i6 N]):=c2.cel _ _ (by omega) (by rw[hF];simp);have hres:H1[H.length+1]? = some (.c0 [.str [],.sl [] .ti]):=c2.cel _ _ (by omega) (by rw[hF];simp);have hold:∀i,i<H.length->H1[i]? = H[i]? := λi hi=>by rw[c2.old i hi,hF,W8 hi]
  simp only[c1,GMw];have cA:=Vm6 (b:=b) hbx (by omega) Vba;have hpos:=cA.2.1;have cA:=cA.2.2;generalize OQ b bx QD=A at c3 hpos cA;obtain⟨⟨er,c⟩,st⟩:=A;dsimp only at c3⊢;obtain⟨f0,f1,g0,g1,v,c3⟩:=c3;have cM:=(W5.1 hres).1;cases er with
  |some e=>
   have qQ:=hpos e rfl;have jM:=A1 (G:=[Blk.c0 [.i6 e.1,.str e.2]]) hres;have hst:=Qp (sz:=2) (ws:=[.str [],.sl [] .ti]) jM rfl rfl rfl;have aI:(H1++[Blk.c0 [.i6 e.1,.str e.2]]).set (H.length+1) (.c0 [.str [],.sl [] .ti])=H1++[Blk.c0 [.i6 e.1,.str e.2]]:=(by apply Ye;intro i;by_cases hi:H.length+1=i;subst hi;rw[WJ (by simp;omega),jM];rw[WA hi]);rw[aI]at hst;have hld:=QE (sz:=2) jM rfl;have dP:=CD (o:=1) (sz:=1) (A1 (G:=[Blk.c0 [.i6 e.1,.str e.2]]) c3.lx);have htk:(H1++[Blk.c0 [.i6 e.1,.str e.2]]).take H.length=H:=Cv λi hi=>(by rw[W8 (by omega)];exact hold i hi);by_cases he:e.1=0;exact absurd he (by omega)
   ·have hne:(!decide (e.1=0))=true:=(by simp[he]);simp only[QH,GMw,HPw,Nat.reduceAdd,Nat.reduceLT,hne,b1,hst,dP,FG,Kz,hld,Gz htk,M8,HV]
    rfl
  |none=>
   have kY:st.cells.length<=1000*(b.length+1):=cA.k;have eZ:∀c∈st.cells,c.ok:=cA.ok;obtain⟨tk,hv⟩:=c3.row.sl;have gV:=λK=>Viy st.cells tk K (by omega) eZ;have rV:=CD (o:=11) (sz:=1) (A1 (G:=[Blk.c0 [.i6 0,.str []]]) c3.lx);have lQ:=λG=>CD (o:=4) (sz:=1) (A1 (G:=G) (A1 (G:=[Blk.c0 [.i6 0,.str []]]) c3.lx));obtain⟨K,hK⟩:∃K,K=H1++[Blk.c0 [.i6 0,.str []]]:=⟨_,rfl⟩;have hKr:K[H.length+1]? = some (.c0 [.str [],.sl [] .ti]):=(by rw[hK];exact A1 hres);have hKm:K[H.length]? = some (.c0 [.i6 bx,.i6 N]):=(by rw[hK];exact A1 hlim);have hKo:∀i,i<H.length->K[i]? = H[i]? := λi hi=>(by rw[hK,W8 (by omega)];exact hold i hi);have hKl:H.length+1<K.length:=(W5.1 hKr).1;rw[<-hK]at rV lQ;have bad:∀L:List Nd,((A6 (some [(.str []),(.sl [] .ti)]) []).bind λx57=>
      (C1 (.str b)).bind λx58=>
      bP H (AA (Ai 2 (.ptr (H.length+1) 0 0) x57 (K++[.c0 [.sl (enL cNd L) .no]]))) λ_ H60=>
      (Ex [Ad true 2 (.ptr (H.length+1) 0 0) H60,some x58,some (.i6 4)]).bind λx61=>rPN H x61 H60)=some (.ret (M8 (([],[]),(b.length:Int),4)),H):=by
    intro L;have eT:=A1 (G:=[Blk.c0 [.sl (enL cNd L) .no]]) hKr;have hst:=Qp (sz:=2) (ws:=[.str [],.sl [] .ti]) eT rfl rfl rfl;have hld:=QE (sz:=2) (H:=(K++[Blk.c0 [.sl (enL cNd L) .no]]).set (H.length+1) (.c0 [.str [],.sl [] .ti])) (p:=H.length+1) (cs:=[.str [],.sl [] .ti]) (by rw[WJ (by simp;omega)]) rfl;have htk:((K++[Blk.c0 [.sl (enL cNd L) .no]]).set (H.length+1) (.c0 [.str [],.sl [] .ti])).take H.length=H:=Cv λi hi=>(by rw[WA (by omega),W8 (by omega)];exact hKo i hi);simp only[b1,GMw,HPw,Nat.reduceAdd,Nat.reduceLT,hst,hld,Gz htk,M8,HV]
    rfl
   have rU:Ad false 1 (.ptr (H.length+2) 0 11) K=some (.sl (enL cCl st.cells) tk):=(by rw[rV,hv];rfl);have rX:∀G,Ad false 1 (.ptr (H.length+2) 0 4) (K++G)=some (.str st.law):=λG=>lQ G;simp only[QH,GMw,HPw,Nat.reduceAdd,Nat.reduceLT];rw[<-hK];simp only[GMw,HPw,Nat.reduceAdd,Nat.reduceLT,rU,gV];generalize CU st.cells=O;obtain⟨Q,e⟩:=O;dsimp only;have kO:=bad Q;have mP:=CD (o:=1) (sz:=1) (A1 (G:=[Blk.c0 [.sl (enL cNd Q) .no]]) hKm);simp only[GMw,HPw,Nat.reduceAdd,Nat.reduceLT,VhQ]at kO⊢;by_cases he:e=0;subst he;by_cases hlen:(Q.length:Int)<=N;have hgt:¬(Q.length:Int)>N:=(by omega);have eT:=A1 (G:=[Blk.c0 [.sl (enL cNd Q) .no]]) hKr;have hst:=Qp (sz:=2) (ws:=[.str st.law,.sl (enL cNd Q) .no]) eT rfl rfl rfl;have hld:=QE (sz:=2) (H:=(K++[Blk.c0 [.sl (enL cNd Q) .no]]).set (H.length+1) (.c0 [.str st.law,.sl (enL cNd Q) .no])) (p:=H.length+1) (cs:=[.str st.law,.sl (enL cNd Q) .no]) (by rw[WJ (by simp;omega)]) rfl;have htk:((K++[Blk.c0 [.sl (enL cNd Q) .no]]).set (H.length+1) (.c0 [.str st.law,.sl (enL cNd Q) .no])).take H.length=H:=Cv λi hi=>(by rw[WA (by omega),W8 (by omega)];exact hKo i hi);have iP:A6 (some [(.str []),(.sl [] .ti)]) [(0,1,.str st.law),(1,1,.agg [.sl (enL cNd Q) .no])]=some (.agg [.str st.law,.sl (enL cNd Q) .no]):=rfl;simp only[GMw,HPw,Nat.reduceAdd,Nat.reduceLT,Aw,mP,FG,Kz,hgt,hlen,rX,iP,hst,hld,Gz htk,M8,HV,if_true];have hgt:(Q.length:Int)>N:=(by omega);simp only[GMw,HPw,Nat.reduceAdd,Nat.reduceLT,Aw,mP,FG,Kz,hgt,hlen,WB,if_false]at kO⊢;exact kO;have hne:(!decide (e=0))=true:=(by simp[he]);simp only[GMw,HPw,Nat.reduceAdd,Nat.reduceLT,he,hne,WB,if_false,Xw]at kO⊢;exact kO
theorem Tl (b:zAa)(H:Aa)(hb:b.length<=500000):Ufj (.str b) H=some (.ret (.tup [.str (Wb b).1,.bool (Wb b).2]),H):=by
 have b2:∀s,A6 (some [(.str []),(.i6 0)]) [(0,1,.str s)]=some (.agg [.str s,.i6 0]):=λ_=>rfl;have b3:∀s,A6 (some [(.str []),(.i6 0),(.i6 0),(.i6 0),(.str []),(.bool false),(.sl [] .ti),(.bool false),(.sl [] .ti),(.i6 0),(.i6 0),(.sl [] .ti)]) [(0,2,.agg [.str s,.i6 0]),(2,2,.agg [.i6 1000,.i6 100000])]=some (.agg [.str s,.i6 0,.i6 1000,.i6 100000,.str [],.bool false,.sl [] .ti,.bool false,.sl [] .ti,.i6 0,.i6 0,.sl [] .ti]):=λ_=>rfl;have b4:A6 (some [(.i6 0),(.i6 0)]) [(0,1,(.i6 1000)),(1,1,(.i6 100000))]=some (.agg [.i6 1000,.i6 100000]):=rfl;unfold Ufj Wb;simp only[GMw,HPw,Nat.reduceAdd,Nat.reduceLT,b2,b3,b4];obtain⟨F,hF⟩:∃F:Aa,F=H++[.c0 [.str b,.i6 0,.i6 1000,.i6 100000,.str [],.bool false,.sl [] .ti,.bool false,.sl [] .ti,.i6 0,.i6 0,.sl [] .ti]]:=⟨_,rfl⟩;have hR:RLe 1000 100000 H.length H.length b 0 QD F:=⟨.bool false,.sl [] .ti,.bool false,.sl [] .ti,.sl [] .ti,W7 _,by unfold Lx;rw[hF];simp[rdL,QD],.inl ⟨rfl,rfl⟩,.inr ⟨rfl,rfl,rfl⟩,.inr ⟨rfl,rfl,rfl⟩⟩;obtain⟨H1,c1,c2,c3⟩:=V5 hR (by omega) (by decide) Vba;rw[hF]at c1;have hlen:H.length<=H1.length:=by have:=c2.len;rw[hF]at this;simp at this;omega
 have hold:∀i,i<H.length->H1[i]? = H[i]? := λi hi=>by rw[c2.old i hi,hF,W8 hi]
 have htk:∀G,(H1++G).take H.length=H:=λG=>Cv λi hi=>by rw[W8 (by omega)];exact hold i hi
 simp only[c1,GMw];cases(OQ b 1000 QD).1.1 with|none=>simp only[QH,GMw,HPw,Nat.reduceAdd,Nat.reduceLT];exact GD rfl (htk _)|some e=>by_cases h0:e.1=0;simp only[QH,GMw,HPw,Nat.reduceAdd,Nat.reduceLT,h0];exact GD rfl (htk _);simp only[QH,GMw,HPw,Nat.reduceAdd,Nat.reduceLT,h0];exact GD rfl (htk _)
theorem CM {b t:zAa}{a:Nat}{c:UInt8}(h:b.drop a=c::t):a<b.length/\b[a]? = some c/\b.drop (a+1)=t:=by
 have hl:a<b.length:=by rcases Xj a b.length with h' | h';exact h';rw[XQ h']at h;cases h
 rw[Xb hl]at h;injection h with h1 h2;exact⟨hl,by rw[W4 hl,h1],h2⟩
theorem AV {b t:zAa}{a:Nat}{c:UInt8}(h:b.drop a=c::t)(s:zAa):Bc b a s=s.contains c:=by unfold Bc;rw[(CM h).2.1]
theorem CZ {b s t:zAa}{a:Nat}(h:b.drop a=s++t):b.drop (a+s.length)=t:=by rw[<-X6,h,YI]
theorem Vi4 {b t:zAa}{a:Nat}{c:UInt8}(h:b.drop a=c::t)(rest:zAa):Ea b a [c] rest=(none,a+1):=by
 have h1:cpN (b.drop a) [c]=1:=by rw[h];show(if c=c then cpN t []+1 else 0)=1;rw[if_pos rfl];cases t<;>rfl
 unfold Ea Vl8;rw[h1]
 rfl
theorem Vg2 {b t:zAa}{a:Nat}(h:b.drop a=10::t)(rest:zAa):Li b a rest=(none,a+1):=by
 have hne:a≠b.length:=by have:=(CM h).1;omega
 have h13:Bc b a [13]=false:=by rw[AV h];decide
 have h10:Bc b a [10]=true:=by rw[AV h];decide
 unfold Li Vjl crN;simp only[h13,h10,if_neg hne,WB,if_false,if_true]
theorem VcM {b t:zAa}{a:Nat}(h:b.drop a=13::10::t)(rest:zAa):Li b a rest=(none,a+2):=by
 have hne:a≠b.length:=by have:=(CM h).1;omega
 have h13:Bc b a [13]=true:=by rw[AV h];decide
 have h10:Bc b (a+1) [10]=true:=by rw[AV (CM h).2.2];decide
 unfold Li Vjl crN;simp only[h13,h10,if_neg hne,if_true]
theorem VaS {b ds t:zAa}{f:Nat}{c:UInt8}(rest:zAa)(h:b.drop f=ds++c::t)(hd:∀x∈ds,Dm.contains x=true)(hc:Dm.contains c=false)(h4:ds.length<=400)(h0:0<ds.length)(h1:ds[0]? = some 48->ds.length=1):∀(n i:Nat),i<=ds.length->ds.length-i<n->MF b f rest n (f+i)=(none,f+ds.length):=by
 intro n
 induction n with
 |zero=>intro i _ h;omega
 |succ n ih=>
  intro i hi hn;have hb:b.drop (f+i)=ds.drop i++c::t:=by rw[<-X6,h,Yc hi]
  conv=>lhs;unfold MF
  by_cases he:i=ds.length;subst he;rw[Z7,List.nil_append]at hb;rw[AV hb,hc,if_neg (by decide),if_neg (by omega)];have hlt:i<ds.length:=(by omega);rw[Xb hlt]at hb;rw[AV hb,hd _ (WI hlt),if_pos rfl,if_neg (λhh=>by have hf:b[f]? = ds[0]? := (by have:=congrArg (·[0]?) h;simp only[Xh,Nat.add_zero]at this;rw[this,W8 h0]);have:=h1 (hf ▸ hh.2);omega),if_neg (by omega),Xc];exact ih (i+1) (by omega) (by omega)
theorem K3 (n:Nat):∀x∈CA n,Dm.contains x=true:=λx hx=>by have:=(FF x).1 (PR n x hx);unfold Dm;rw[Vjr,zXe];omega
theorem GX {n:Nat}(h:(CA n)[0]? = some 48):(CA n).length=1:=by
 by_cases h0:n=0;subst h0;rw[HO (by omega)];rfl
 obtain⟨c,r,e,hc⟩:=NU n h0;rw[e]at h;simp at h;exact absurd h hc
theorem VcT {b t:zAa}{a:Nat}{z:Int}{c:UInt8}(rest:zAa)(h:b.drop a=Ct z++c::t)(hc:Dm.contains c=false)(h4:(CA z.natAbs).length<=400):Fp b a true rest=(none,a+(Ct z).length):=by
 have hp:=PQ z.natAbs;unfold Ct at h⊢;unfold Fp P0;by_cases hz:z<0
 ·rw[if_pos hz]at h⊢;rw[List.cons_append]at h;have h2:=(CM h).2.2;have hne:Bc b (a+1) [48]=false:=by obtain⟨c0,r0,e,cT⟩:=NU z.natAbs (by omega);rw[e,List.cons_append]at h2;rw[AV h2];simpa using cT
  rw[AV h,hne];have:=VaS rest h2 (K3 _) hc h4 hp GX 402 0 (WZ _) (by omega);rw[Nat.add_zero]at this;simp only[List.contains_cons,beq_self_eq_true,Yi,YJ,WB,if_false,zXn,if_true,zXj];rw[this];congr 1;omega
 ·rw[if_neg hz]at h⊢;have tV:Bc b a [45]=false:=by cases e:CA z.natAbs with|nil=>rw[e]at hp;simp at hp|cons x r=>rw[e,List.cons_append]at h;rw[AV h];have:=(FF x).1 (PR z.natAbs x (by rw[e];exact Yn));have:x≠45:=λhx=>(by subst hx;simp at this);simpa using this
  rw[tV];have:=VaS rest h (K3 _) hc h4 hp GX 402 0 (WZ _) (by omega);rw[Nat.add_zero]at this;simp only[YJ,Xw,WB,if_false];exact this
theorem Vbv:∀(s t:zAa),cpN (s++t) s=s.length
 |[],[]=>rfl
 |[],_::_=>rfl
 |c::s,t=>by show(if c=c then cpN (s++t) s+1 else 0)=_;rw[if_pos rfl,Vbv s t];rfl
theorem Po {b s t:zAa}{a:Nat}(h:b.drop a=s++t)(rest:zAa):Ea b a s rest=(none,a+s.length):=by unfold Ea Vl8;rw[h,Vbv,if_neg (by omega)]
theorem VgE {b s t:zAa}{a:Nat}(h:b.drop a=s++t):(b.take (a+s.length)).drop a=s:=by rw[List.drop_take,h,Nat.add_sub_cancel_left,YH]
def Vjk (cr:Bool):zAa:=if cr then [13,10]else [10]
def Ja (two:Bool):zAa->List (zAa)
 |[]=>[]
 |b::l=>Ff (((l.takeWhile (· == b)).length+1:Nat):Int) (FZ b.toNat two)::Ja two (l.dropWhile (· == b))
termination_by l=>l.length
decreasing_by
 simp only[zXj];exact Nat.lt_succ_of_le (Zh _).length_le
theorem GA (two:Bool):Ja two []=[]:=by rw[Ja]
theorem IZ (two:Bool)(b:UInt8)(l:zAa):Ja two (b::l)=Ff (((l.takeWhile (· == b)).length+1:Nat):Int) (FZ b.toNat two)::Ja two (l.drop (l.takeWhile (· == b)).length):=by rw[Ja,Vg6]
def Ev (two:Bool)(st:List (zAa)×Int)(y:Nat)(row:zAa):List (zAa)×Int:=
 if D4 row=0 then st else (st.1++(if 0<=st.2 then [Ff ((y:Int)-st.2) [36]]else [])++Ja two (row.take (D4 row)),(y:Int))
def CV (two:Bool)(rows:List (zAa)):Nat->List (zAa)×Int
 |0=>([],-1)
 |i+1=>Ev two (CV two rows i) i (rows.getD i [])
def GL (rows:List (zAa)):List (zAa):=(CV (OW rows) rows rows.length).1++[[33]]
theorem Qr (n:Nat)(two:Bool):(FZ n two).length<=2:=by unfold FZ;split;simp;split;simp;split;simp;split<;>simp
theorem Vz (two:Bool):∀(k:Nat)(l:zAa),l.length<=k->(Ja two l).length<=l.length
 |0,l,h=>by have:l=[]:=List.length_eq_zero_iff.1 (by omega);subst this;rw[GA];exact W7 _
 |k+1,[],_=>by rw[GA];exact W7 _
 |k+1,b::l,h=>by rw[IZ];simp only[zXj]at h⊢;have:=Vz two k (l.drop (l.takeWhile (· == b)).length) (by simp;omega);simp only[WS]at this;omega
theorem N4 (two:Bool)(rows:List (zAa))(h:∀r∈rows,r.length<=1000):∀i,i<=rows.length->(CV two rows i).1.length<=i*1001
 |0,_=>by simp[CV]
 |i+1,hi=>by
  have ih:=N4 two rows h i (by omega);have hr:rows.getD i []=rows[i]:=by rw[W6,W4 (show i<rows.length by omega)];rfl
  have h2:=h rows[i] (WI _);simp only[CV,Ev,hr];split;exact WV ih (Xg _ (Nat.le_succ _));have h3:=Vz two _ (rows[i].take (D4 rows[i])) (W7 _);simp only[WC,WN]at h3⊢;split<;>simp<;>omega
theorem KJ (two:Bool)(rows:List (zAa)):∀i,-1<=(CV two rows i).2/\(CV two rows i).2<(i:Int)\/i=0/\(CV two rows i).2 = -1
 |0=>.inr ⟨rfl,rfl⟩
 |i+1=>by have ih:=KJ two rows i;left;simp only[CV,Ev];split;omega;exact⟨by show(-1:Int)<=(i:Int);omega,by show(i:Int)<((i+1:Nat):Int);omega⟩
theorem VkB (H:Aa)(bI:LK)(p out last two g:Ab)(row:zAa)(n x:Nat)(b:UInt8)(l:zAa)(Hd:Aa)(hn:n<=row.length)(hr:row.length<=1000)(hl:(row.take n).drop x=b::l):∃bV,Al (λbV vs H1=>UaI H bI bV (ag vs 0) (ag vs 1) (ag vs 2) (ag vs 3) (ag vs 4) (ag vs 5) (ag vs 6) (ag vs 7) (ag vs 8) H1) AU [p,out,last,two,g,.str row,.i6 (n:Int),.i6 (x:Int),.i6 (x:Int)] Hd
   = UaI H bI bV p out last two g (.str row) (.i6 (n:Int)) (.i6 (x:Int)) (.i6 ((x+((l.takeWhile (· == b)).length+1):Nat):Int)) Hd:=by
 have dP:∀i,(b::l)[i]? = (row.take n)[x+i]? := λi=>by rw[<-hl,Xh]
 have hlen:(b::l).length=n-x:=by rw[<-hl];simp;omega
 have qA:=Vk8 (b:=b) l;simp only[zXj]at hlen;have hx:x<row.length:=by omega
 have hb:row[x]=b:=by have h0:=dP 0;rw[XY,if_pos (by omega),Nat.add_zero,W4 hx]at h0;simpa using h0.symm
 have loop:=Fk (G:=λbV vs H1=>UaI H bI bV (ag vs 0) (ag vs 1) (ag vs 2) (ag vs 3) (ag vs 4) (ag vs 5) (ag vs 6) (ag vs 7) (ag vs 8) H1) ((l.takeWhile (· == b)).length+1)
  (λi vs H1=>vs=[p,out,last,two,g,.str row,.i6 (n:Int),.i6 (x:Int),.i6 ((x+i:Nat):Int)]/\H1=Hd) (by omega) (λi vs H1 hi hI=>?_) (vs:=[p,out,last,two,g,.str row,.i6 (n:Int),.i6 (x:Int),.i6 (x:Int)]) (H:=Hd) ⟨rfl,rfl⟩
 obtain⟨vs',H',⟨rfl,rfl⟩,rec,h1⟩:=loop;exact⟨rec,h1⟩
 ·obtain⟨rfl,rfl⟩:=hI;refine⟨_,_,⟨rfl,rfl⟩,λrec=>?_⟩;have hk:x+i<row.length:=by omega
  have jS:((x+i:Nat):Int)<(n:Int):=by omega
  have tT:row[x+i]=b:=by have h0:=dP i;rw[XY,if_pos (by omega),W4 hk]at h0;have h1:(b::l)[i]? = some b:=(by cases i with|zero=>rfl|succ i=>rw[List.getElem?_cons_succ];exact Vnf (by omega));rw[h1]at h0;simpa using h0.symm
  have aK:=Au (show x+i<9223372036854775807 by omega);unfold UaI;simp only[GMw,Aj,jS,DC hk,DC hx,tT,hb,aK]
  rfl
theorem Vhy (H:Aa)(p last g:Ab)(two:Bool)(row:zAa)(n:Nat)(out0:List (zAa))(v0:Ab)(Hd:Aa)(hn:n<=row.length)(hr:row.length<=1000)(ho:out0.length<=2000000)
  (hR:RS cS DJ 1 H.length out0 v0 Hd)(hH:H.length<=Hd.length):∃v' H',RS cS DJ 1 H.length (out0++Ja two (row.take n)) v' H'/\Kp H.length Hd H'/\∀j2:LK,
   Al (λbI vs H1=>Ub7 H j2 bI (ag vs 0) (ag vs 1) (ag vs 2) (ag vs 3) (ag vs 4) (ag vs 5) (ag vs 6) (ag vs 7) H1) AU [p,v0,last,.bool two,g,.str row,.i6 (n:Int),.i6 0] Hd
   = j2 [p,v',last,.bool two,g] H':=by
 have bG:(row.take n).length=n:=by simp;omega
 have loop:=MM (ι:=LK) (G:=λj2 bI vs H1=>Ub7 H j2 bI (ag vs 0) (ag vs 1) (ag vs 2) (ag vs 3) (ag vs 4) (ag vs 5) (ag vs 6) (ag vs 7) H1) (σ:=Nat)
  (λx vs H1=>∃v out,x<=n/\vs=[p,v,last,.bool two,g,.str row,.i6 (n:Int),.i6 (x:Int)]/\RS cS DJ 1 H.length out v H1/\Kp H.length Hd H1/\out++Ja two ((row.take n).drop x)=out0++Ja two (row.take n)/\out.length<=out0.length+x)
  (λx=>n-x) (λx=>x=n) (λx vs H1 hI hd=>?_) (s:=0) (vs:=[p,v0,last,.bool two,g,.str row,.i6 (n:Int),.i6 0]) (H:=Hd) ⟨v0,out0,WZ _,rfl,hR,Kp.refl _ _,rfl,W7 _⟩ (by omega)
 obtain⟨x,vs',H',rfl,⟨v,out,_,rfl,h1,h2,h3,_⟩,h4⟩:=loop;refine⟨v,H',?_,h2,λj2=>?_⟩;rw[<-h3,Y1 (by omega),GA,WU];exact h1;obtain⟨rec,h4⟩:=h4 j2;rw[h4];unfold Ub7;simp only[GMw,Aj,Xm]
 ·obtain⟨v,out,hx,rfl,h1,h2,h3,h5⟩:=hI;have zF:(x:Int)<(n:Int):=by omega
  obtain⟨b,l,hbl⟩:∃b l,(row.take n).drop x=b::l:=by cases hq:(row.take n).drop x with|nil=>have:=congrArg List.length hq;simp at this;omega|cons b l=>exact⟨b,l,rfl⟩
  have hlen:(b::l).length=n-x:=by rw[<-hbl];simp;omega
  have qA:=Vk8 (b:=b) l;simp only[zXj]at hlen;have tA:x<row.length:=by omega
  have dP:∀i,(b::l)[i]? = (row.take n)[x+i]? := λi=>by rw[<-hbl,Xh]
  have hb:row[x]=b:=by have h0:=dP 0;rw[XY,if_pos (by omega),Nat.add_zero,W4 tA]at h0;simpa using h0.symm
  obtain⟨k,hk⟩:∃k,k=(l.takeWhile (· == b)).length+1:=⟨_,rfl⟩;obtain⟨tk,rfl⟩:=h1.sl;have hsg:=Qr b.toNat two;have qE:=λH=>Via b.toNat two H b.toNat_lt;have iT:=λH=>V7 (k:Int) (FZ b.toNat two) H (by omega) (by omega) (by omega);obtain⟨v2,H2,a1,a2,a3⟩:=h1.snoc (bytes:=16) (by have:=h2.len;omega) (Ff (k:Int) (FZ b.toNat two)) .ti (by omega) (by omega);refine⟨x+k,[p,v2,last,.bool two,g,.str row,.i6 (n:Int),.i6 ((x+k:Nat):Int)],H2,by omega,⟨v2,out++[Ff (k:Int) (FZ b.toNat two)],by omega,rfl,a2,h2.trans a3,?_,?_⟩,λj2 bI=>?_⟩
  ·rw[<-h3,hbl,IZ,<-hk,WD,List.singleton_append]
   congr 2
   rw[<-X6,hbl,hk,Y7]
  simp;omega
  ·obtain⟨bV,h6⟩:=VkB H bI p (.sl (enL cS out) tk) last (.bool two) g row n x b l H1 hn hr hbl;unfold Ub7;simp only[Ao,Aj,Bf,Bj,B6,BQ,DI,Bn,BA,zF,decide_true,AZ];refine h6.trans ?_;rw[<-hk];have hw:IntKind.i64.wrap (((x+k:Nat):Int)-(x:Int))=(k:Int):=(by rw[Am]<;>omega);have exit:(Af .none .sub (.i6 ((x+k:Nat):Int)) (.i6 (x:Int))).bind (λx68=>(C3 (.str row) (.i6 (x:Int))).bind λx69=>bP H (Ub6 x69 (.bool two) H1) λx70 H71=>bP H (UaH x68 x70 H71) λx72 H73=>(AN 1 [x72]).bind λx74=>bP H (Cd (AW DJ 1 16 (.sl (enL cS out) tk) x74 H73)) λx75 H76=>bI [p,x75,last,.bool two,g,.str row,.i6 (n:Int),.i6 ((x+k:Nat):Int)] H76)
     = bI [p,v2,last,.bool two,g,.str row,.i6 (n:Int),.i6 ((x+k:Nat):Int)] H2:=by
    simp only[GMw,hw,DC tA,hb,qE,iT,SH,a1]
   unfold UaI;by_cases he:x+k<n;have yF:x+k<row.length:=(by omega);have dE:((x+k:Nat):Int)<(n:Int):=(by omega);have hne:¬((row[x+k].toNat:Int)=(b.toNat:Int)):=(by intro h0;have h7:row[x+k]=b:=XL.1 (by omega);have h8:=dP k;rw[XY,if_pos he,W4 yF,h7,hk,List.getElem?_cons_succ]at h8;exact VjH l h8);simp only[Bn,BA,dE,decide_true,Hu,DC yF,DC tA,hb,Dy,Fa,hne,decide_false,Cg,AL];simp only[DC tA,BA,hb]at exit;exact exit;have dE:¬((x+k:Nat):Int)<(n:Int):=(by omega);simp only[Bn,BA,dE,decide_false,O0,Vkn,Ch,AL];exact exit
theorem Vd5 (X Y:Int)(rows:List (zAa))(tk:Tok)(H:Aa)(hn:rows.length<=1000)(h:∀r∈rows,r.length<=1000):Udn (.agg (Cr X Y (.sl (enL cS rows) tk))) H=some (.ret (.sl (enL cS (GL rows)) .no),H):=by
 unfold Udn;have hbx:BC true 5 (.agg (Cr X Y (.sl (enL cS rows) tk))) H=some (.ptr H.length 0 0,H++[.c0 (Cr X Y (.sl (enL cS rows) tk))]):=Ce (Jn _ _ _ _) rfl;have hg:(H++[Blk.c0 (Cr X Y (.sl (enL cS rows) tk))])[H.length]? = some (.c0 (Cr X Y (.sl (enL cS rows) tk))):=An;generalize hHc:H++[Blk.c0 (Cr X Y (.sl (enL cS rows) tk))]=Hc at hbx hg;have oB:H.length<=Hc.length:=by rw[<-hHc];simp
 have nD:Ad true 5 (.ptr H.length 0 0) Hc=some (.agg (Cr X Y (.sl (enL cS rows) tk))):=by simp only[Ad,Ax hg,zXa];rfl
 have uF:=VkV X Y rows tk Hc (by omega) (λr hr=>by have:=h r hr;omega);simp only[hbx,Br,nD,BA,uF,CQ];obtain⟨two,qA⟩:∃two,two=OW rows:=⟨_,rfl⟩;rw[<-qA];have loop:=Fk (G:=λrec1 vs H1=>UaJ H rec1 (ag vs 0) (ag vs 1) (ag vs 2) (ag vs 3) (ag vs 4) H1) rows.length
  (λy vs Hd=>∃v,vs=[.ptr H.length 0 0,v,.i6 (CV two rows y).2,.bool two,.i6 (y:Int)]/\RS cS DJ 1 H.length (CV two rows y).1 v Hd/\Kp H.length Hc Hd)
  (by omega) (λy vs Hd hy hI=>?_) (vs:=[.ptr H.length 0 0,.sl [] .ti,.i6 (-1),.bool two,.i6 0]) (H:=Hc) ⟨_,rfl,.inl ⟨rfl,rfl⟩,Kp.refl _ _⟩
 ·obtain⟨vs',Hd,⟨v,rfl,gR,gk⟩,rec,aB⟩:=loop;rw[aB];have hld:Ad false 1 (.ptr H.length 0 4) Hd=some (.sl (enL cS rows) tk):=by simp only[Ad,Ax (gk.get hg),zXa];rfl
  have hlen:=N4 two rows h rows.length (W7 _);obtain⟨v2,H2,a1,a2,a3⟩:=gR.snoc (bytes:=16) (by have:=gk.len;omega) ([33]:zAa) .ti (by omega) (by omega);obtain⟨tk2,rfl⟩:=a2.sl;have hold:H2.take H.length=H:=Cv λi hi=>by rw[a3.old i hi,gk.old i hi,<-hHc,W8 hi]
  have wV:=SH [33];unfold UaJ;simp only[GMw,Aj,Ae,W9,hld,Aw,Xm,wV,a1,Gz hold,HZ,zXb,GL,qA]
 ·obtain⟨v,rfl,gR,gk⟩:=hI;have kR:(y:Int)<(rows.length:Int):=by omega
  have aK:=Au (show y<9223372036854775807 by omega);have hld:Ad false 1 (.ptr H.length 0 4) Hd=some (.sl (enL cS rows) tk):=by simp only[Ad,Ax (gk.get hg),zXa];rfl
  have hrow:rows.getD y []=rows[y]:=by rw[W6,W4 hy];rfl
  have kU:=h rows[y] (WI hy);have iH:=λH=>VhZ rows[y] H (by omega);have gC:=SN rows[y];have hlen:=N4 two rows h y (by omega);have hlast:=KJ two rows y;have hstep:CV two rows (y+1)=Ev two (CV two rows y) y rows[y]:=by rw[CV,hrow]
  rw[hstep];generalize CV two rows y=st at *;obtain⟨out,last⟩:=st;dsimp only at *;have hHd:H.length<=Hd.length:=by have:=gk.len;omega
  have mR:∀(rec1:LK)(v:Ab)(l:Int)(H1:Aa),Udm H rec1 (.ptr H.length 0 0) v (.i6 l) (.bool two) (.i6 (y:Int)) H1=rec1 [.ptr H.length 0 0,v,.i6 l,.bool two,.i6 ((y+1:Nat):Int)] H1:=by intro rec1 v l H1;unfold Udm;simp only[GMw,aK]
  by_cases hu:D4 rows[y]=0;refine⟨_,Hd,⟨v,rfl,?_,gk⟩,λrec=>?_⟩;unfold Ev;rw[if_pos hu];exact gR;unfold UaJ Ev;rw[if_pos hu];simp only[GMw,Aj,Ae,W9,hld,Aw,kR,Ay hy,A5,zXh,iH,hu,Int.natCast_zero,mR]
  ·have jF:¬((D4 rows[y]:Nat):Int)=0:=(by omega);have mI:∀(o:List (zAa)) (v1:Ab) (H1:Aa),o.length<=y*1001+1->RS cS DJ 1 H.length o v1 H1->Kp H.length Hd H1 ->
     ∃v2 H2,RS cS DJ 1 H.length (o++Ja two (rows[y].take (D4 rows[y]))) v2 H2/\Kp H.length Hc H2/\∀rec1:LK,
      Ueq H (λvs H1=>Udm H rec1 (ag vs 0) (ag vs 1) (ag vs 2) (ag vs 3) (ag vs 4) H1) (.ptr H.length 0 0) v1 (.bool two) (.i6 (y:Int)) (.str rows[y]) (.i6 (D4 rows[y]:Int)) H1
       = rec1 [.ptr H.length 0 0,v2,.i6 (y:Int),.bool two,.i6 ((y+1:Nat):Int)] H2:=by
    intro o v1 H1 ho hR1 hK1;obtain⟨v2,H2,b1,b2,b3⟩:=Vhy H (.ptr H.length 0 0) (.i6 (y:Int)) (.i6 (y:Int)) two rows[y] (D4 rows[y]) o v1 H1 gC kU (by omega) hR1 (by have:=hK1.len;omega);refine⟨v2,H2,b1,gk.trans (hK1.trans b2),λrec1=>?_⟩;unfold Ueq;rw[b3];simp only[Ao,Aj,Bf,Bj,B6,BQ];exact mR _ _ _ _
   by_cases hl:0<=last;have iT:=λH=>V7 ((y:Int)-last) [36] H (by omega) (by omega) (by decide);have zK:IntKind.i64.wrap ((y:Int)-last)=(y:Int)-last:=(by rw[Am]<;>omega);obtain⟨tk0,rfl⟩:=gR.sl;obtain⟨v1,H1,a1,a2,a3⟩:=gR.snoc (bytes:=16) hHd (Ff ((y:Int)-last) [36]) .ti (by omega) (by omega);obtain⟨v2,H2,b1,b2,b3⟩:=mI _ v1 H1 (by simp;omega) a2 a3;refine⟨[.ptr H.length 0 0,v2,.i6 (y:Int),.bool two,.i6 ((y+1:Nat):Int)],H2,⟨v2,?_,?_,b2⟩,λrec=>?_⟩;unfold Ev;rw[if_neg hu];unfold Ev;rw[if_neg hu,if_pos hl];exact b1;unfold UaJ;simp only[GMw,Aj,Ae,W9,hld,Aw,kR,Ay hy,A5,zXh,iH,jF,hl,ge_iff_le,zK,iT,SH,a1];exact b3 rec;obtain⟨v2,H2,b1,b2,b3⟩:=mI _ v Hd (Nat.le_succ_of_le hlen) gR (Kp.refl _ _);refine⟨[.ptr H.length 0 0,v2,.i6 (y:Int),.bool two,.i6 ((y+1:Nat):Int)],H2,⟨v2,?_,?_,b2⟩,λrec=>?_⟩;unfold Ev;rw[if_neg hu];unfold Ev;rw[if_neg hu,if_neg hl,WU];exact b1;unfold UaJ;simp only[GMw,Aj,Ae,W9,hld,Aw,kR,Ay hy,A5,zXh,iH,jF,hl,ge_iff_le];exact b3 rec
theorem SP {n:Int}{s:zAa}(h0:-1000000000<=n)(h1:n<=1000000000)(hs:s.length<=1000):(Ff n s).length<=10000:=by
 have uN:SB 44 n:=by unfold SB;have:(4294967296:Nat)^1<=4294967296^44:=Gd (by omega);omega
 have h:=(Qt uN).2;unfold Ff;split;omega;simp;omega
theorem Tc (two:Bool):∀(k:Nat)(l:zAa),l.length<=k->k<=1000000->∀t∈Ja two l,t.length<=10000
 |0,l,h,_,t,ht=>by have:l=[]:=List.length_eq_zero_iff.1 (by omega);subst this;rw[GA]at ht;cases ht
 |k+1,[],_,_,t,ht=>by rw[GA]at ht;cases ht
 |k+1,b::l,h,hk,t,ht=>by rw[IZ]at ht;simp only[zXj]at h;have qA:=Vk8 (b:=b) l;rcases Xs.1 ht with rfl | ht;have:=Qr b.toNat two;exact SP (by omega) (by omega) (by omega);exact Tc two k _ (by simp;omega) (by omega) t ht
theorem SO (two:Bool)(rows:List (zAa))(hn:rows.length<=1000)(h:∀r∈rows,r.length<=1000):∀i,i<=rows.length->∀t∈(CV two rows i).1,t.length<=10000
 |0,_,t,ht=>by cases ht
 |i+1,hi,t,ht=>by
  have ih:=SO two rows hn h i (by omega);have hl:=KJ two rows i;have hr:rows.getD i []=rows[i]:=by rw[W6,W4 (show i<rows.length by omega)];rfl
  have h2:=h rows[i] (WI _);rw[CV,hr]at ht;unfold Ev at ht;split at ht
  exact ih t ht
  ·simp only[WT]at ht;rcases ht with (ht | ht) | ht;exact ih t ht
   ·split at ht
    rw[WR]at ht;rw[ht];exact SP (by omega) (by omega) (by decide);cases ht
   exact Tc two 1000 _ (by simp;omega) (by omega) t ht
theorem Va5 (rows:List (zAa))(hn:rows.length<=1000)(h:∀r∈rows,r.length<=1000):(GL rows).length<=2000000/\∀t∈GL rows,t.length<=10000:=by have h1:=N4 (OW rows) rows h rows.length (W7 _);unfold GL;refine⟨by simp;omega,λt ht=>?_⟩;rcases WT.1 ht with ht | ht;exact SO _ rows hn h _ (W7 _) t ht;rw[WR]at ht;rw[ht];decide
def VjO (rows:List (zAa)):Nat:=match rows with | []=>0 | r::_=>r.length
def N6 (X Y:Int)(w h:Nat)(rule:zAa):zAa:=
 [35,67,88,82,76,69,32,80,111,115,61]++Ct X++[44]++Ct Y++[10]++[120,32,61,32]++Ct (w:Int)++[44,32,121,32,61,32]++Ct (h:Int)++[44,32,114,117,108,101,32,61,32]++rule++[10]
def VhI (rule:zAa)(L:List Nd):zAa:=N6 (bx L bxX) (bx L bxY) (VjO (CX L)) (CX L).length rule++On (GL (CX L))
theorem VpG {L:List Nd}(hl:AF L=true):SB 44 (bx L bxX)/\SB 44 (bx L bxY):=by unfold bx;by_cases hn:L=[];rw[if_pos hn,if_pos hn];exact⟨R1 (n:=0) (by omega),R1 (n:=0) (by omega)⟩;rw[if_neg hn,if_neg hn];exact Vky hl hn
theorem Tm (rule:zAa)(L:List Nd)(b n:Int)(H:Aa)(hr:rule.length<35184372088832)(hL:L.length<549755813888)(h0:-9223372036854775808<=b)(h1:b<=9223372036854775807):Ufi (pat rule L) (.agg (IE b n)) H=some (.ret (if Iw 4 rule L b n=0 then .tup [.str (VhI rule L),.i6 0]else .tup [.str [],.i6 (Iw 4 rule L b n)]),H):=by
 unfold Ufi;have hbx:∀H,BC true 2 (.agg (IE b n)) H=some (.ptr H.length 0 0,H++[.c0 (IE b n)]):=λH=>Ce rfl rfl;have e3:(H++[Blk.c0 (Fb rule L)]++[Blk.c0 (IE b n)])[H.length]? = some (.c0 (Fb rule L)):=by simp
 have g5:Ad true 2 (.ptr (H++[Blk.c0 (Fb rule L)]).length 0 0) (H++[Blk.c0 (Fb rule L)]++[Blk.c0 (IE b n)])=some (.agg (IE b n)):=by simp only[Ad,Ax (An (B:=H++[Blk.c0 (Fb rule L)])),zXa];rfl
 have g6:Ad false 1 (.ptr (H++[Blk.c0 (Fb rule L)]).length 0 0) (H++[Blk.c0 (Fb rule L)]++[Blk.c0 (IE b n)])=some (.i6 b):=by simp only[Ad,Ax (An (B:=H++[Blk.c0 (Fb rule L)])),zXa];rfl
 have kG:=λH=>VeZ 4 rule L b n H (by omega) hL h0 h1;simp only[GMw,Vdg,hbx,NI e3,g5,kG];by_cases he:Iw 4 rule L b n=0
 ·obtain⟨hl,b0,b1,hw,_,_⟩:=Vjz he (by decide);obtain⟨r1,r2⟩:=V3 hl b0 b1 hw;have yJ:=λH=>Vn0 L b H hL hl h0 h1;simp only[VdK b0 b1 hw]at yJ;rw[if_pos he];simp only[he,GMw,Ae,W9,Nat.add_zero,KY e3,g6,yJ,B4,BE,Nx];generalize hB:H++[Blk.c0 (Fb rule L)]++[Blk.c0 (IE b n)]=B at e3;obtain⟨sx,sy⟩:=VpG hl;obtain⟨x1,x2⟩:=Qt sx;obtain⟨y1,y2⟩:=Qt sy;have nF:Ai 5 (.ptr B.length 0 0) (P6 (bx L bxX) (bx L bxY) (CX L)) (B++[Blk.c0 DZ])=some (B++[Blk.c0 (Cr (bx L bxX) (bx L bxY) (.sl (enL cS (CX L)) .no))]):=by
   unfold P6;simp only[Ai,Ax (An (B:=B) (cs:=DZ)),zXa,Cb (Jn _ _ _ _),Bw (An (B:=B) (cs:=DZ)),D6 (cs:=DZ) (sz:=5) rfl,Be]
   rfl
  have kU:=TH (A1 (G:=[Blk.c0 (Cr (bx L bxX) (bx L bxY) (.sl (enL cS (CX L)) .no))]) e3);have gx:Ad true 2 (.ptr B.length 0 0) (B++[Blk.c0 (Cr (bx L bxX) (bx L bxY) (.sl (enL cS (CX L)) .no))])=some (big (bx L bxX)):=by simp only[Ad,Ax (An (B:=B)),zXa];rfl
  have gy:Ad true 2 (.ptr B.length 0 2) (B++[Blk.c0 (Cr (bx L bxX) (bx L bxY) (.sl (enL cS (CX L)) .no))])=some (big (bx L bxY)):=by simp only[Ad,Ax (An (B:=B)),zXa];rfl
  have gr:Ad false 1 (.ptr B.length 0 4) (B++[Blk.c0 (Cr (bx L bxX) (bx L bxY) (.sl (enL cS (CX L)) .no))])=some (.sl (enL cS (CX L)) .no):=by simp only[Ad,Ax (An (B:=B)),zXa];rfl
  have gw:Ad true 5 (.ptr B.length 0 0) (B++[Blk.c0 (Cr (bx L bxX) (bx L bxY) (.sl (enL cS (CX L)) .no))])=some (.agg (Cr (bx L bxX) (bx L bxY) (.sl (enL cS (CX L)) .no))):=by simp only[Ad,Ax (An (B:=B)),zXa];rfl
  have tx:=λH=>MB (bx L bxX) H x1;have ty':=λH=>MB (bx L bxY) H y1;simp only[GMw,nF,Ae,W9,gr,Aw];generalize hbX:bx L bxX=X at *;generalize hbY:bx L bxY=Y at *;generalize hro:CX L=rows at *;have hBl:∀(G:Aa)(v:Ab),JV v=true->rP H v (B++G)=some (.ret v,H):=λG v hv=>by rw[<-hB,WD,WD];exact VbZ hv
  have key:∀w:Nat,w<=1000->w=VjO rows->Ues H (.ptr H.length 0 0) (.ptr B.length 0 0) (.i6 (w:Int)) (B++[Blk.c0 (Cr X Y (.sl (enL cS rows) .no))])=some (.ret (.tup [.str (VhI rule L),.i6 0]),H):=by
   intro w cD bZ;have uZ:=λH=>OA (w:Int) H (by omega) (by omega);have vA:=λH=>OA (rows.length:Int) H (by omega) (by omega);have sw:SB 44 (w:Int):=R1 (n:=w) (by have:(4294967296:Nat)^1<=4294967296^44:=Gd (by omega);omega);have sh:SB 44 (rows.length:Int):=R1 (n:=rows.length) (by have:(4294967296:Nat)^1<=4294967296^44:=Gd (by omega);omega);obtain⟨w1,w2⟩:=Qt sw;obtain⟨hh1,hh2⟩:=Qt sh;have tw:=λH=>MB (w:Int) H w1;have th:=λH=>MB (rows.length:Int) H hh1;have qB:=λH=>Vd5 X Y rows .no H r1 r2;obtain⟨k1,k2⟩:=Va5 rows r1 r2;have tC:=λH=>VhY (GL rows) .no H (by omega) k2;have jE:=J8 (GL rows) k2 (GL rows).length (W7 _);rw[WH (W7 _)]at jE;have uC:(On (GL rows)).length<=100000000000:=(by unfold On;simp;omega);unfold Ues VhI;rw[hbX,hbY,hro,<-bZ];unfold N6;simp only[GMw,Ae,W9,Nat.add_zero,gx,gy,gr,kU,gw,tx,ty',and_true,eq_self,Aw,uZ,vA,tw,th]
   iterate 11
    rw[Dk (by simp;omega)];simp only[GMw,qB,tC]
   rw[Dk (by simp;omega)];simp only[GMw];exact hBl _ _ rfl
  cases jL:rows with|nil=>rw[jL]at key;have h9:¬((([]:List (zAa)).length:Int)>0):=(by simp);simp only[GMw,h9,Aj];exact key 0 (by omega) rfl|cons r rest=>have h9:((r::rest:List (zAa)).length:Int)>0:=(by simp);have hidx:=Ay (f:=cS) (l:=r::rest) (tk:=.no) (i:=0) (K:=.i64) (by simp);simp only[Int.natCast_zero,List.getElem_cons_zero]at hidx;rw[jL]at key gr;simp only[GMw,h9,gr,hidx,A5,zXh,Ec,Aj];exact key r.length (r2 r (by rw[jL];simp)) rfl
 rw[if_neg he];simp only[he,GMw];rw[WD];exact VbZ (v:=.tup [.str [],.i6 (Iw 4 rule L b n)]) rfl
theorem VgI {b u:zAa}{f:Nat}{c:UInt8}(hc:Dm.contains c=false):∀(n k a v:Nat)(ds:zAa),b.drop a=ds++c::u->(∀x∈ds,Dm.contains x=true)->ds.length=n->f<=a->a+ds.length<=f+9->ds.length<k->(v=0->∀x,ds[0]? = some x->x≠48) ->
  J6 b f k a v=(none,a+ds.length,ds.foldl (λv x=>v*10+(x.toNat-48)) v)
 |n,0,a,v,ds,_,_,_,_,_,hk,_=>by omega
 |n,k+1,a,v,[],h,_,_,_,_,_,_=>by rw[List.nil_append]at h;unfold J6;rw[AV h,hc,if_neg (by decide)];simp
 |n,k+1,a,v,d::ds,h,hd,hn,hf,h9,hk,h0=>by
  rw[List.cons_append]at h;have hl:(d::ds).length=ds.length+1:=rfl;have jI:=hd d (by simp);rw[hl]at h9 hk;have hz:(decide (v=0)&&Bc b a [48])=false:=by rw[AV h];by_cases hv:v=0;have:=h0 hv d rfl;simp[this];simp[hv]
  have gL:MV b a=d.toNat-48:=by unfold MV;rw[W6,(CM h).2.1];rfl
  unfold J6;rw[AV h,jI,if_pos rfl,hz];simp only[WB,if_false];rw[if_neg (by omega),gL];have h1:v=0->1<=d.toNat-48:=λhv=>by have h1:=h0 hv d rfl;have h2:d∈Dm:=(by simpa using jI);have key:∀x∈Dm,x≠48->1<=x.toNat-48:=(by decide);exact key d h2 h1
  rw[VgI hc ds.length k (a+1) (10*v+(d.toNat-48)) ds (CM h).2.2 (λx hx=>hd x (by simp[hx])) rfl (by omega) (by omega) (by omega) (λhv=>by
   by_cases hv0:v=0;have:=h1 hv0;omega
   ·omega)]
  rw[List.foldl_cons,hl,show a+1+ds.length=a+(ds.length+1)by omega,XG 10 v]
theorem VgH {b u:zAa}{a:Nat}{c:UInt8}{n:Nat}(hc:Dm.contains c=false)(hn:n<=999999999)(h2:2<=n)(h:b.drop a=Ct (n:Int)++c::u):J6 b a 11 a 0=(none,a+(Ct (n:Int)).length,n):=by
 have e:Ct (n:Int)=CA n:=by unfold Ct;rw[if_neg (by omega)];rfl
 rw[e]at h⊢;have hlen:(CA n).length<=9:=by have:=IY 9 n (by omega);rw[if_neg (by decide)]at this;exact this
 have:=VgI (f:=a) hc (CA n).length 11 a 0 (CA n) h (K3 n) rfl (W7 _) (by omega) (by omega) (λ_ x hx e=>by subst e;have:=GX hx;obtain⟨d,r,e1,e2⟩:=NU n (by omega);rw[e1]at hx;simp at hx;exact e2 hx);rw[this];exact congrArg (λx=>(none,a+(CA n).length,x)) (Wo n)
theorem Uo {b u:zAa}{a:Nat}{c:UInt8}(hc:Dm.contains c=false)(h:b.drop a=c::u):J6 b a 11 a 0=(none,a,0):=by unfold J6;rw[AV h,hc,if_neg (by decide)]
theorem Vh4 {b u:zAa}{a s:Nat}{two:Bool}(hs:s<=255)(h2:two=true->s<=1)(h:b.drop a=FZ s two++u):UC b a=(none,a+(FZ s two).length-1,s)/\1<=(FZ s two).length:=by
 unfold FZ at h⊢;unfold UC;by_cases c1:(two&&decide (s=0))=true;rw[if_pos c1]at h⊢;rw[WG,zXe]at c1;rw[List.singleton_append]at h;rw[AV h,if_pos (by decide),c1.2];exact⟨rfl,W7 _⟩
 ·rw[if_neg c1]at h⊢;by_cases c2:(two&&decide (s=1))=true;rw[if_pos c2]at h⊢;rw[WG,zXe]at c2;rw[List.singleton_append]at h;rw[AV h,AV h,if_neg (by decide),if_pos (by decide),c2.2];exact⟨rfl,W7 _⟩
  ·rw[if_neg c2]at h⊢;by_cases c3:s=0;rw[if_pos c3]at h⊢;rw[List.singleton_append]at h;rw[AV h,if_pos (by decide),c3];exact⟨rfl,W7 _⟩
   ·rw[if_neg c3]at h⊢;by_cases c4:s<=24
    ·rw[if_pos c4]at h⊢;rw[List.singleton_append]at h;have key:∀n,n<25->n≠0->([46,98]:zAa).contains (UInt8.ofNat (64+n))=false/\([111]:zAa).contains (UInt8.ofNat (64+n))=false/\JO.contains (UInt8.ofNat (64+n))=true/\(UInt8.ofNat (64+n)).toNat=64+n:=(by decide);obtain⟨k1,k2,k3,k4⟩:=key s (by omega) c3;have dP:atV b a=64+s:=(by unfold atV;rw[W6,(CM h).2.1];exact k4);rw[AV h,AV h,AV h,k1,k2,k3,dP];refine⟨?_,W7 _⟩;simp only[WB,if_false,if_true,zXi]
     congr 2
     omega
    ·rw[if_neg c4]at h⊢;have e:([UInt8.ofNat (112+(s-25) / 24),UInt8.ofNat (65+(s-25)%24)]:zAa)++u=UInt8.ofNat (112+(s-25) / 24)::(UInt8.ofNat (65+(s-25)%24)::u):=rfl;rw[e]at h;have h1:=(CM h).2.2;have hq:(s-25) / 24<10:=(by omega);have hr:(s-25)%24<24:=XW _ (by omega);have key1:∀n,n<10->([46,98]:zAa).contains (UInt8.ofNat (112+n))=false/\([111]:zAa).contains (UInt8.ofNat (112+n))=false/\JO.contains (UInt8.ofNat (112+n))=false/\TE.contains (UInt8.ofNat (112+n))=true/\(UInt8.ofNat (112+n)).toNat=112+n:=(by decide);have key2:∀n,n<24->JO.contains (UInt8.ofNat (65+n))=true/\(UInt8.ofNat (65+n)).toNat=65+n/\(n<15->VfR.contains (UInt8.ofNat (65+n))=false):=(by decide);obtain⟨k1,k2,k3,k4,k5⟩:=key1 _ hq;obtain⟨m1,m2,m3⟩:=key2 _ hr;have dP:atV b a=112+(s-25) / 24:=(by unfold atV;rw[W6,(CM h).2.1];exact k5);have wW:atV b (a+1)=65+(s-25)%24:=(by unfold atV;rw[W6,(CM h1).2.1];exact m2);have hy:(decide (b[a]? = some 121)&&Bc b (a+1) VfR)=false:=(by rw[(CM h).2.1,AV h1];by_cases h9:(s-25) / 24=9;rw[m3 (by omega),YJ];have:UInt8.ofNat (112+(s-25) / 24)≠121:=λe=>(by have:=congrArg UInt8.toNat e;rw[k5]at this;have sW:(121:UInt8).toNat=121:=rfl;omega);rw[show decide (some (UInt8.ofNat (112+(s-25) / 24))=some (121:UInt8))=false from zXd (λe=>this (Yf e)),Xw]);rw[AV h,AV h,AV h,AV h,k1,k2,k3,k4,hy,AV h1,m1,dP,wW];refine⟨?_,by simp⟩;simp only[WB,if_false,if_true,Xo,zXp,zXj,zXk];have sJ:=Yt (s-25) 24
     congr 2
     omega
theorem Ve8 {s:Nat}{two:Bool}(hs:s<=255):∃c r,FZ s two=c::r/\Dm.contains c=false/\([36,33,32,13,10]:zAa).contains c=false:=by
 have key0:∀n,n<25->Dm.contains (UInt8.ofNat (64+n))=false/\([36,33,32,13,10]:zAa).contains (UInt8.ofNat (64+n))=false:=by decide
 have key1:∀n,n<10->Dm.contains (UInt8.ofNat (112+n))=false/\([36,33,32,13,10]:zAa).contains (UInt8.ofNat (112+n))=false:=by decide
 unfold FZ;split;exact⟨_,_,rfl,by decide,by decide⟩;split;exact⟨_,_,rfl,by decide,by decide⟩;split;exact⟨_,_,rfl,by decide,by decide⟩;split;exact⟨_,_,rfl,(key0 s (by omega)).1,(key0 s (by omega)).2⟩;exact⟨_,_,rfl,(key1 _ (by omega)).1,(key1 _ (by omega)).2⟩
theorem VcU {n:Nat}(h:2<=n):∃c r,Ct (n:Int)=c::r/\([36,33,32,13,10]:zAa).contains c=false:=by
 have e:Ct (n:Int)=CA n:=by unfold Ct;rw[if_neg (by omega)];rfl
 rw[e];cases hd:CA n with
 |nil=>have:=PQ n;rw[hd]at this;simp at this
 |cons c r=>
  have h1:=K3 n c (by rw[hd];exact Yn);have h2:c∈Dm:=by simpa using h1
  have key:∀x∈Dm,([36,33,32,13,10]:zAa).contains x=false:=by decide
  exact⟨c,r,rfl,key c h2⟩
structure Tk1 (bx:Int)(t:zAa)(st st':LSt):Prop where
 go:∀(b u:zAa)(a:Nat),b.drop a=t++u->OZ b bx a st=(((none,a+t.length),st'),false)
 hd:∃c r,t=c::r/\([32,13,10]:zAa).contains c=false
theorem Va8 {c:UInt8}(h:([36,33,32,13,10]:zAa).contains c=false):([32,13,10]:zAa).contains c=false/\([36]:zAa).contains c=false/\([33]:zAa).contains c=false:=by simp at h⊢;exact⟨⟨h.2.2.1,h.2.2.2.1,h.2.2.2.2⟩,h.1,h.2.1⟩
theorem VkG {bx:Int}{n s:Nat}{two:Bool}{st st':LSt}(h1:1<=n)(hn:n<=999999999)(hs:s<=255)(h2:two=true->s<=1)(hp:OC bx n s st=(none,st')):Tk1 bx (Ff (n:Int) (FZ s two)) st st':=by
 obtain⟨c,r,e,hc,eZ⟩:=Ve8 (two:=two) hs;obtain⟨k1,k2,k3⟩:=Va8 eZ;have fin:∀(b u:zAa)(a c' t:Nat),J6 b a 11 a 0=(none,c',t)->max t 1=n->b.drop c'=FZ s two++u->OZ b bx a st=(((none,c'+(FZ s two).length),st'),false):=by intro b u a c' t lX hm hd;obtain⟨g1,g2⟩:=Vh4 hs h2 hd;have hd':=hd;rw[e,List.cons_append]at hd';unfold OZ;rw[lX];dsimp only;rw[AV hd',AV hd',k2,k3,g1,hm];simp only[WB,if_false,Xw];rw[hp];dsimp only;rw[show c'+(FZ s two).length-1+1=c'+(FZ s two).length by omega]
 unfold Ff;by_cases cL:n=1;subst cL;rw[if_pos (show((1:Nat):Int)=1 from rfl)];refine⟨λb u a h=>?_,c,r,e,k1⟩;have h':=h;rw[e,List.cons_append]at h';exact fin b u a a 0 (Uo hc h') (by omega) h;rw[if_neg (by omega)];obtain⟨d,r',e',cF⟩:=VcU (n:=n) (by omega);refine⟨λb u a h=>?_,d,r'++FZ s two,by rw[e'];rfl,(Va8 cF).1⟩;rw[WD]at h;have bU:=h;rw[e,List.cons_append]at bU;rw[fin b u a _ n (VgH hc hn (by omega) bU) (by omega) (CZ h),WC,Xc]
theorem Vjo {bx:Int}{n:Nat}{st:LSt}(h1:1<=n)(hn:n<=999999999):Tk1 bx (Ff (n:Int) [36]) st {st with row:=st.row+n,col:=0}:=by
 have fin:∀(b u:zAa)(a c' t:Nat),J6 b a 11 a 0=(none,c',t)->max t 1=n->b.drop c'=[36]++u->OZ b bx a st=(((none,c'+1),{st with row:=st.row+n,col:=0}),false):=by intro b u a c' t lX hm hd;rw[List.singleton_append]at hd;unfold OZ;rw[lX];dsimp only;rw[AV hd,if_pos (by decide),hm]
 unfold Ff;by_cases cL:n=1;subst cL;rw[if_pos (show((1:Nat):Int)=1 from rfl)];exact⟨λb u a h=>fin b u a a 0 (Uo (c:=36) (u:=u) (by decide) (by rw[List.singleton_append]at h;exact h)) (by omega) h,36,[],rfl,by decide⟩;rw[if_neg (by omega)];obtain⟨d,r',e',cF⟩:=VcU (n:=n) (by omega);refine⟨λb u a h=>?_,d,r'++[36],by rw[e'];rfl,(Va8 cF).1⟩;rw[WD]at h;rw[fin b u a _ n (VgH (c:=36) (u:=u) (by decide) hn (by omega) h) (by omega) (CZ h),WC];simp[Xc]
inductive Tks (bx:Int):List (zAa)->LSt->LSt->Prop where
 |nil (st:LSt):Tks bx [] st st
 |cons {t:zAa} {l:List (zAa)} {st st' st'':LSt} (h:Tk1 bx t st st') (h':Tks bx l st' st''):Tks bx (t::l) st st''
theorem Tks.app {bx:Int}{l m:List (zAa)}{st st' st'':LSt}(h:Tks bx l st st')(h':Tks bx m st' st''):Tks bx (l++m) st st'':=by
 induction h with
 |nil st=>exact h'
 |cons h1 _ ih=>exact .cons h1 (ih h')
def Ir (X Y:Int):zAa->List Cl
 |[]=>[]
 |b::l=>(if b=0 then []else [⟨X,Y,b⟩])++Ir (X+1) Y l
theorem Th {Y:Int}{c:Cl}:∀(r:zAa)(X:Int),c∈Ir X Y r↔∃(i:Nat)(v:UInt8),r[i]? = some v/\v≠0/\c=⟨X+i,Y,v⟩
 |[],X=>by simp[Ir]
 |d::s,X=>by
  have ih:=Th (Y:=Y) (c:=c) s (X+1);unfold Ir;rw[WT,ih];constructor
  ·rintro (h | ⟨i,v,h1,h2,h3⟩)
   ·split at h
    cases h;rename_i hd;rw[WR]at h;exact⟨0,d,rfl,hd,by rw[h];simp⟩
   exact⟨i+1,v,by simpa using h1,h2,by rw[h3];congr 1;push_cast;omega⟩
  rintro⟨i,v,h1,h2,h3⟩;cases i with|zero=>simp at h1;subst h1;left;rw[if_neg h2,h3];simp|succ i=>exact .inr ⟨i,v,by simpa using h1,h2,by rw[h3];congr 1;push_cast;omega⟩
theorem Tg (X Y:Int)(b:UInt8)(l:zAa):∀n:Nat,Ir X Y (List.replicate n b++l)=(if b=0 then []else (List.range n).map λi:Nat=>(⟨X+(i:Int),Y,b⟩:Cl))++Ir (X+n) Y l:=by
 intro n
 induction n generalizing X with
 |zero=>simp
 |succ n ih=>
  rw[zXm,List.cons_append];show(if b=0 then []else [⟨X,Y,b⟩])++Ir (X+1) Y (List.replicate n b++l)=_;rw[ih (X+1),show X+1+(n:Int)=X+((n+1:Nat):Int)by push_cast;omega];by_cases hb:b=0;rw[if_pos hb,if_pos hb,if_pos hb];rfl
  ·rw[if_neg hb,if_neg hb,if_neg hb,List.range_succ_eq_map,Yk,Zz,List.cons_append,List.cons_append,List.nil_append]
   congr 1
   simp
   ·congr 1
    apply Y6;intro i _;simp only[Function.comp_apply,Cl.mk.injEq,and_true,true_and]
    push_cast;omega
theorem VbL (b:UInt8):∀l:zAa,l.takeWhile (· == b)=List.replicate (l.takeWhile (· == b)).length b
 |[]=>rfl
 |c::l=>by
  rw[Yg];split;rename_i h;rw[beq_iff_eq]at h;subst h;rw[zXj,zXm,<-VbL c l]
  ·rfl
theorem VeI (b:UInt8)(l:zAa):b::l=List.replicate ((l.takeWhile (· == b)).length+1) b++l.drop (l.takeWhile (· == b)).length:=by
 rw[zXm,List.cons_append,<-VbL b l]
 congr 1
 have h:=Z4 (p:=(· == b)) (l:=l);have e:l.drop (l.takeWhile (· == b)).length=l.dropWhile (· == b):=by
  conv=>lhs;rw[<-h]
  rw[Yc (by rw[h];exact W7 _)];rw[h];simp
 rw[e,h]
def atR (st:LSt)(r:zAa):LSt:={st with col:=st.col+r.length,cells:=st.cells++Ir (st.x+st.col) (st.y+st.row) r}
theorem Tb {bx:Int}{two:Bool}(hbx:bx<=1000):∀(k:Nat)(r:zAa)(st:LSt),r.length<=k->(two=true->∀b∈r,b.toNat<=1)->(st.row:Int)<bx->(st.col:Int)+r.length<=bx->Tks bx (Ja two r) st (atR st r)
 |k,[],st,_,_,_,_=>by
  rw[GA];have:atR st []=st:=by unfold atR Ir;simp
  rw[this];exact .nil st
 |0,b::l,st,h,_,_,_=>by simp at h
 |k+1,b::l,st,h,h2,hr,hc=>by
  have hs:=VeI b l;have iI:(l.takeWhile (· == b)).length<=l.length:=(Yh _).length_le;rw[IZ];generalize (l.takeWhile (· == b)).length=m at *;simp only[zXj]at h hc
  push_cast at hc
  have hp:OC bx (m+1) b.toNat st=(none,atR st (List.replicate (m+1) b)):=by
   have e:=Tg (st.x+st.col) (st.y+st.row) b [] (m+1);rw[WU]at e;unfold OC atR;rw[e];by_cases h0:b=0;subst h0;simp[Ir]
   ·have hn:b.toNat≠0:=λh=>h0 (XL.1 (by simpa using h));have hd:(decide ((st.row:Int)>=bx)||decide ((st.col:Int)+((m+1:Nat):Int)>bx))=false:=by
     simp only[Y5,decide_eq_false_iff_not]
     push_cast
     omega
    rw[if_neg hn,hd,if_neg h0];simp only[WB,if_false,XU,Ir,WU]
    congr 3
    unfold Tv;apply Y6;intro i _;simp only[Cl.mk.injEq];refine⟨by push_cast;omega,trivial,by simp⟩
  have hb:=h2;refine .cons (VkG (n:=m+1) (s:=b.toNat) (by omega) (by omega) (by have:=b.toNat_lt;omega) (λht=>h2 ht b (by simp)) hp) ?_;have ih:=Tb hbx k (l.drop m) (atR st (List.replicate (m+1) b)) (by rw[WS];omega) (λht x hx=>h2 ht x (by simp[Yb hx])) hr (by
   show((st.col+(List.replicate (m+1) b).length:Nat):Int)+_<=bx;rw[XU,WS]
   push_cast
   omega)
  have e2:atR (atR st (List.replicate (m+1) b)) (l.drop m)=atR st (b::l):=by
   conv=>rhs;rw[hs]
   have e:=Tg (st.x+st.col) (st.y+st.row) b [] (m+1);have e3:=Tg (st.x+st.col) (st.y+st.row) b (l.drop m) (m+1);rw[WU]at e;unfold atR;rw[e,e3];simp only[WC,XU,Ir,WU,WD,LSt.mk.injEq,and_true,true_and];refine⟨by omega,?_⟩
   congr 3
   push_cast;omega
  rw[e2]at ih;exact ih
theorem N3:∀(n:Nat)(r:zAa)(X Y:Int),r.length=n->Ir X Y (r.take (D4 r))=Ir X Y r
 |0,r,X,Y,hn=>by rw[WM hn];rfl
 |n+1,r,X,Y,hn=>by
  obtain⟨q,d,rfl⟩:∃q d,r=q++[d]:=by rcases Zn r with e | ⟨q,d,e⟩;rw[e]at hn;simp at hn;exact⟨q,d,by rw[e,Zo]⟩
  have hq:q.length=n:=by simpa using hn
  have app:∀(l m:zAa)(X:Int),Ir X Y (l++m)=Ir X Y l++Ir (X+l.length) Y m:=by
   intro l
   induction l with
   |nil=>intro m X;simp[Ir]
   |cons a l ih=>intro m X;show(if a=0 then []else [⟨X,Y,a⟩])++Ir (X+1) Y (l++m)=(if a=0 then []else [⟨X,Y,a⟩])++Ir (X+1) Y l++_;rw[ih m (X+1),WD,show X+1+(l.length:Int)=X+((a::l).length:Int)by rw[zXj];push_cast;omega]
  rw[O5];by_cases hd:d=0;rw[if_pos hd,XI (SN q),N3 n q X Y hq,app,hd];simp[Ir];rw[if_neg hd,WH (by simp)]
def Kv (rows:List (zAa))(X Y:Int)(f:Nat):Nat->List Cl
 |0=>[]
 |i+1=>Kv rows X Y f i++(if i<f then []else Ir X (Y+((i-f:Nat):Int)) (rows.getD i []))
theorem P7 {rows:List (zAa)}{X Y:Int}{f:Nat}:∀i,i<=f->Kv rows X Y f i=[]
 |0,_=>rfl
 |i+1,h=>by unfold Kv;rw[P7 i (by omega),if_pos (by omega)];rfl
theorem VaI {r:zAa}{X Y:Int}(h:D4 r=0):Ir X Y r=[]:=by rw[<-N3 _ r X Y rfl,h];rfl
theorem VbK {bx:Int}{rows:List (zAa)}{two:Bool}{f:Nat}{st:LSt}(hbx:bx<=1000)(h2:two=true->∀r∈rows,∀b∈r,b.toNat<=1)(hw:∀r∈rows,(r.length:Int)<=bx)(hh:(rows.length:Int)<=bx)(h0:st.row=0/\st.col=0)
  (hf:∀j,j<f->D4 (rows.getD j [])=0)(hu:f<rows.length->D4 (rows.getD f [])≠0):∀i,i<=rows.length ->
  (i<=f->CV two rows i=([],-1))/\(f<i->∃y:Nat,(CV two rows i).2=(y:Int)/\f<=y/\y<i/\∃st',Tks bx (CV two rows i).1 st st'/\st'.law=st.law/\st'.x=st.x/\st'.y=st.y/\st'.row=y-f/\st'.cells=st.cells++Kv rows st.x st.y f i)
 |0,_=>⟨λ_=>rfl,λh=>by omega⟩
 |i+1,hi=>by
  obtain⟨ih1,ih2⟩:=VbK hbx h2 hw hh h0 hf hu i (by omega);have hil:i<rows.length:=by omega
  have qK:rows.getD i []∈rows:=by rw[W6,W4 hil];exact WI hil
  have gC:=SN (rows.getD i []);have cJ:=hw _ qK;refine⟨λsB=>?_,λsB=>?_⟩;have:=hf i (by omega);unfold CV Ev;rw[if_pos this];exact ih1 (by omega)
  ·rcases Xj f i with dW | dW
   ·obtain⟨y,e1,e2,e3,st',t1,t2,t3,t4,t5,t6⟩:=ih2 dW;unfold CV Ev Kv;by_cases hz:D4 (rows.getD i [])=0;rw[if_pos hz,if_neg (by omega),VaI hz,WU];exact⟨y,e1,e2,by omega,st',t1,t2,t3,t4,t5,t6⟩;rw[if_neg hz,e1,if_pos (show(0:Int)<=(y:Int)by omega),if_neg (show ¬i<f by omega)];refine⟨i,rfl,by omega,by omega,atR { st' with row:=st'.row+(i-y),col:=0} ((rows.getD i []).take (D4 (rows.getD i []))),?_,t2,t3,t4,?_,?_⟩;refine(t1.app (.cons ?_ (.nil _))).app (Tb hbx _ _ _ (W7 _) (λht b hb=>h2 ht _ qK b (X5 hb)) ?_ ?_);have e:((i:Int)-(y:Int))=((i-y:Nat):Int):=(by omega);rw[e];exact Vjo (by omega) (by omega);show((st'.row+(i-y):Nat):Int)<bx;rw[t5];omega;show((0:Nat):Int)+_<=bx;rw[WN];omega;show st'.row+(i-y)=i-f;rw[t5];omega;show st'.cells++Ir (st'.x+((0:Nat):Int)) (st'.y+((st'.row+(i-y):Nat):Int)) _=_;rw[N3 _ _ _ _ rfl,t6,t3,t4,t5,WD,show y-f+(i-y)=i-f by omega];simp
   have oH:f=i:=(by omega);subst oH;have hz:=hu hil;unfold CV Ev Kv;rw[if_neg hz,ih1 (W7 _),if_neg (show ¬(0:Int)<=(([],-1):List (zAa)×Int).2 by decide),if_neg (show ¬f<f by omega),P7 f (W7 _)];refine⟨f,rfl,W7 _,by omega,atR st ((rows.getD f []).take (D4 (rows.getD f []))),?_,rfl,rfl,rfl,?_,?_⟩;rw[WU,List.nil_append];refine Tb hbx _ _ _ (W7 _) (λht b hb=>h2 ht _ qK b (X5 hb)) ?_ ?_;rw[h0.1];omega;rw[h0.2,WN];omega;show st.row=f-f;rw[h0.1];omega;show st.cells++Ir (st.x+(st.col:Int)) (st.y+(st.row:Int)) _=_;rw[N3 _ _ _ _ rfl,h0.1,h0.2,Xi];simp
end Go.Gm
