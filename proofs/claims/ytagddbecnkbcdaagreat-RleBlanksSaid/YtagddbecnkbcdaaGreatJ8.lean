/- Texts of this proof, joined. -/
import Derived.Test.YtagddbecnkbcdaaGreatJ2
import Derived.Test.YtagddbecnkbcdaaGreatJ3
import Derived.Test.YtagddbecnkbcdaaGreatJ4
import Derived.Test.YtagddbecnkbcdaaGreatJ5
import Derived.Test.YtagddbecnkbcdaaGreatJ6
import Derived.Test.YtagddbecnkbcdaaGreatJ7
set_option linter.all false
namespace Go.Gm
def Abg (f0 f1:Ab)(z:Int):Prop:=[f0,f1]=AA z\/f0=.bool false/\f1=.sl [] .ti/\z=0
theorem VnB {b:Int}(H:Aa)(h0:0<=b)(hb:LB b):Uex (.agg [.bool false,.sl [] .ti]) (big b) H=some (.ret (big b),H):=by
 have sg:∀(tk:Tok) (K:Aa),UdB (.bool false) (.sl (enL cU (A4 b.natAbs)) tk) K=some (.ret (big b),K):=λtk K=>by rw[LI];simp only[Vq,if_false];rw[show ((b.natAbs:Nat):Int)=b by omega]
 unfold LB at hb;have aQ:=λK=>VnC (a:=[]) (b:=A4 b.natAbs) (ta:=.ti) (tb:=.no) K (λx hx=>by cases hx) (Bn b.natAbs) (by decide) (by omega);simp only[B2,show val []=0 from rfl,Vr,show enL cU []=[] from rfl]at aQ;have hbx:∀K,B3 true 2 (.agg [.bool false,.sl [] .ti]) K=some (.ptr K.length 0 0,K++[.cel 0 [.bool false,.sl [] .ti]]):=λK=>BH rfl rfl;have hd:decide (b<0)=false:=zXd (by omega);unfold Uex;simp only[D0,hbx,Bj,Vu,List.singleton_append];simp[VN,D0,hbx,IF,hd,Bm,aQ,sg]
theorem VjL {f0 f1:Ab}{z:Int}{n:Nat}(H:Aa)(h:Abg f0 f1 z)(hz:LB z)(hn:LB (n:Int)):Uex (.agg [f0,f1]) (big (n:Int)) H=some (.ret (big (z+n)),H):=by
 rcases h with h | ⟨rfl,rfl,rfl⟩
 ·rw[Vm4 h];exact Vck H hz hn
 ·rw[VnB H (by omega) hn,Int.zero_add]
def rdL (bx N:Int)(st:LSt)(f0 f1 g0 g1 v:Ab):List Ab:=[.i6 bx,.i6 N,.str st.law,f0,f1,g0,g1,.i6 (st.col:Int),.i6 (st.row:Int),v]
structure RLx (bx N:Int)(b0 p:Nat)(b:zAa)(a:Nat)(st:LSt)(f0 f1 g0 g1 v:Ab)(H:Aa):Prop where
 hb:b0<=p
 lx:Lx H p b a (rdL bx N st f0 f1 g0 g1 v)
 row:RS cCl B9 5 b0 st.cells v H
 fx:Abg f0 f1 st.x
 gy:Abg g0 g1 st.y
def RLe (bx N:Int)(b0 p:Nat)(b:zAa)(a:Nat)(st:LSt)(H:Aa):Prop:=∃f0 f1 g0 g1 v,RLx bx N b0 p b a st f0 f1 g0 g1 v H
section
variable {bx N:Int}{b0 p a:Nat}{b:zAa}{st:LSt}{H:Aa}{f0 f1 g0 g1 v:Ab}
theorem RLx.lt (h:RLx bx N b0 p b a st f0 f1 g0 g1 v H):p<H.length:=Vi1 h.lx
theorem RLx.move (h:RLx bx N b0 p b a st f0 f1 g0 g1 v H)(a':Nat):RLx bx N b0 p b a' st f0 f1 g0 g1 v (BO H p b (rdL bx N st f0 f1 g0 g1 v) a'):=⟨h.hb,Gj h.lx,h.row.put h.lx,h.fx,h.gy⟩
theorem RLx.push (h:RLx bx N b0 p b a st f0 f1 g0 g1 v H)(G:Aa):RLx bx N b0 p b a st f0 f1 g0 g1 v (H++G):=⟨h.hb,Lx.push h.lx,h.row.left G,h.fx,h.gy⟩
theorem RLx.ext (h:RLx bx N b0 p b a st f0 f1 g0 g1 v H)(cs:List Ab):Ext b0 p H (H.set p (.cel 0 cs)):=
 ⟨by simp,λi c hi hc=>by rw[Vt (Ne.symm hi)];exact hc,λi hi=>by rw[Vt (by have:=h.hb;omega)]⟩
theorem RLx.ble (h:RLx bx N b0 p b a st f0 f1 g0 g1 v H):b0<=H.length:=VM h.hb (Nat.le_of_lt h.lt)
theorem RLx.go (h:RLx bx N b0 p b a st f0 f1 g0 g1 v H)(a':Nat)(G:Aa):RLx bx N b0 p b a' st f0 f1 g0 g1 v (BO H p b (rdL bx N st f0 f1 g0 g1 v) a'++G)/\Ext b0 p H (BO H p b (rdL bx N st f0 f1 g0 g1 v) a'++G):=
 ⟨(h.move a').push G,(h.ext _).trans (Ext.push b0 p (by show b0<=List.length _;rw[show (H.set p _).length=H.length from by simp];exact h.ble) G)⟩
theorem RLx.go0 (h:RLx bx N b0 p b a st f0 f1 g0 g1 v H)(a':Nat):RLx bx N b0 p b a' st f0 f1 g0 g1 v (BO H p b (rdL bx N st f0 f1 g0 g1 v) a')/\Ext b0 p H (BO H p b (rdL bx N st f0 f1 g0 g1 v) a'):=⟨h.move a',h.ext _⟩
theorem RLx.set (h:RLx bx N b0 p b a st f0 f1 g0 g1 v H){a':Nat}{st':LSt}{f0' f1' g0' g1' v':Ab}{cs:List Ab}(hr:RS cCl B9 5 b0 st'.cells v' H)
  (hc:cs=.str b::.i6 (a':Int)::rdL bx N st' f0' f1' g0' g1' v')(hf:Abg f0' f1' st'.x)(hg:Abg g0' g1' st'.y) :
  RLx bx N b0 p b a' st' f0' f1' g0' g1' v' (H.set p (.cel 0 cs))/\Ext b0 p H (H.set p (.cel 0 cs)):=by
 refine⟨⟨h.hb,?_,hr.put h.lx,hf,hg⟩,h.ext _⟩;unfold Lx;rw[V0 h.lt,hc]
def MB (bx N:Int)(b0 p:Nat)(b:zAa)(H:Aa)(x:Out)(v:Ab)(s:(Er×Nat)×LSt):Prop:=∃H',x=some (Pw s.1.1 v,H')/\Ext b0 p H H'/\RLe bx N b0 p b s.1.2 s.2 H'
theorem S2 {r:List Ab}(h:Lx H p b a r)(ha:a<=b.length)(hb:b.length<1152921504606846976)(rest:zAa)(hr:rest.length<=1000) :
  Uar (.ptr p 0 0) (.str rest) H=some (Pw (HD b a rest).1 (.tup []),BO H p b r (HD b a rest).2):=by
 have hj:∀e,Af e .add (.str [10]) (.str rest)=some (.str (10::rest)):=λe=>Cq (by simp;omega);unfold Uar HD;simp only[GMw,HPw,Nat.reduceAdd,Nat.reduceLT,Iu h];by_cases he:a=b.length
 ·simp only[he,GMw,HPw,Nat.reduceAdd,Nat.reduceLT,if_true,hj];rw[he]at h;simp only[It h,GMw,HPw,Nat.reduceAdd,Nat.reduceLT,DS h]
  rfl
 ·simp only[he,GMw,HPw,Nat.reduceAdd,Nat.reduceLT,if_false];unfold UdZ;simp only[GMw,HPw,Nat.reduceAdd,Nat.reduceLT,VfB h ha hb rest (by omega)];cases (Ks b a rest).1 with
  |some e=>simp only[B8,GMw,HPw,Nat.reduceAdd,Nat.reduceLT]
  |none=>simp only[By,GMw,HPw,Nat.reduceAdd,Nat.reduceLT]
theorem VnU (k:Nat)(hk:k<2):BK 2 2 (.ptr p 0 5) (.i6 (k:Int))=some (.ptr p 0 (5+k*2)):=Vbe hk
theorem Vkc:BK 2 2 (.ptr p 0 5) (.i6 0)=some (.ptr p 0 5):=VnU 0 (by decide)
theorem Vkb:BK 2 2 (.ptr p 0 5) (.i6 1)=some (.ptr p 0 7):=VnU 1 (by decide)
theorem Vcf:∀(s t:zAa),cpN s t=t.length↔s.take t.length=t
 |s,[]=>by simp[cpN]
 |[],c::t=>by simp[cpN]
 |d::s,c::t=>by
  have ih:=Vcf s t;have e:cpN (d::s) (c::t)=if d=c then cpN s t+1 else 0:=rfl
  rw[e];by_cases h:d=c
  ·subst h;simp[ih]
  ·simp[h]
theorem Vin (s t:zAa)(K:Aa):Ub7 (.str s) (.str t) K=some (.ret (.bool (decide (cpN s t=t.length))),K):=by
 unfold Ub7 Uap;by_cases h:t.length<=s.length
 ·have hd:decide ((s.length:Int)>=(t.length:Int))=true:=zXc (by omega);have he:(s.take t.length == t)=decide (cpN s t=t.length):=by rw[V8,beq_iff_eq,zXe,Vcf]
  simp only[GMw,HPw,Nat.reduceAdd,Nat.reduceLT,CU,hd,Od h,JK,he]
 ·have hd:decide ((s.length:Int)>=(t.length:Int))=false:=zXd (by omega);have he:decide (cpN s t=t.length)=false:=zXd (λhh=>by have:=Kv s t;omega);simp only[GMw,HPw,Nat.reduceAdd,Nat.reduceLT,CU,hd,he]
theorem VeN (h:RLx bx N b0 p b a st f0 f1 g0 g1 v H)(ha:a<=b.length)(hb:b.length<1152921504606846976) :
  MB bx N b0 p b H (UbI (.ptr p 0 0) H) (.tup []) (Of b a st):=by
 have dT:On.length=7:=rfl;have mJ:=Kv (b.drop a) On;have hpre:=λK=>Vin (b.drop a) On K;have hh:Ck.length=24:=rfl;unfold UbI Of MB;rw[show Ab.str [35,67,88,82,76,69,32]=.str On from rfl,show Ab.str [120,32,61,32,48,44,32,121,32,61,32,48,44,32,114,117,108,101,32,61,32,97,10,33]=.str Ck from rfl];simp only[GMw,HPw,Nat.reduceAdd,Nat.reduceLT,Ag,Ae,Fh h.lx,P7 h.lx,Bm,Gi ha,hpre];by_cases hc:cpN (b.drop a) On<7
 ·have hd:decide (cpN (b.drop a) On=On.length)=false:=zXd (by omega);rw[if_pos hc];simp only[hd,GMw,HPw,Nat.reduceAdd,Nat.reduceLT,VnN h.lx ha hb];obtain⟨h2,e2⟩:=h.go0 (M6 b a);simp only[S2 h2.lx (VbD ha) hb Ck (by omega)];obtain⟨h3,e3⟩:=h2.go0 (HD b (M6 b a) Ck).2;refine⟨_,?_,e2.trans e3,_,_,_,_,_,h3⟩;cases (HD b (M6 b a) Ck).1 with
  |some e=>simp only[B8,GMw,HPw,Nat.reduceAdd,Nat.reduceLT]
  |none=>simp only[By,GMw,HPw,Nat.reduceAdd,Nat.reduceLT]
 ·have hd:decide (cpN (b.drop a) On=On.length)=true:=zXc (by omega);have hle:=Kv (b.drop a) On;have h7:a+7<=b.length:=by rw[V9]at hle;omega
  rw[if_neg hc];have aR:Ai 1 (.ptr p 0 1) (.i6 ((a+7:Nat):Int)) H=some (BO H p b (rdL bx N st f0 f1 g0 g1 v) (a+7)):=MQ h.lx _;have yU:IntKind.i64.wrap ((a:Int)+7)=((a+7:Nat):Int):=by rw[An (by omega) (by omega)];simp
  simp only[hd,GMw,HPw,Nat.reduceAdd,Nat.reduceLT,Ag,Ae,Fh h.lx,yU,aR,AJ];obtain⟨h1,e1⟩:=h.go0 (a+7);generalize BO H p b _ (a+7)=H1 at h1 e1;have hM:=E5 (s:=QU) (rest:=[48,44,48,10]++Ck) h7;have hx:=LN h1.lx h7 hb QU ([48,44,48,10]++Ck) (by decide) (by decide);rw[show Ab.str ([48,44,48,10]++Ck)=.str [48,44,48,10,120,32,61,32,48,44,32,121,32,61,32,48,44,32,114,117,108,101,32,61,32,97,10,33] from rfl,show Ab.str QU=.str [80,111,115,61] from rfl]at hx;simp only[hx];generalize DZ b (a+7) QU ([48,44,48,10]++Ck)=M at hM;obtain⟨er,c⟩:=M;dsimp only at hM ⊢;obtain⟨h2,e2⟩:=h1.go0 c;generalize BO H1 p b _ c=H2 at h2 e2;cases er with
  |some e=>simp only[GMw,HPw,Nat.reduceAdd,Nat.reduceLT,B8];exact⟨_,rfl,e1.trans e2,_,_,_,_,_,h2⟩
  |none=>
   obtain⟨G1,cL⟩:=MR h2.lx hM hb true ([44,48,10]++Ck) (by decide);rw[show Ab.str ([44,48,10]++Ck)=.str [44,48,10,120,32,61,32,48,44,32,121,32,61,32,48,44,32,114,117,108,101,32,61,32,97,10,33] from rfl]at cL;have jD:=Hk hM true ([44,48,10]++Ck);simp only[GMw,HPw,Nat.reduceAdd,Nat.reduceLT,By,cL];generalize Ft b c true ([44,48,10]++Ck)=M at jD;obtain⟨er,d⟩:=M;dsimp only at jD ⊢;obtain⟨h3,e3⟩:=h2.go d G1;generalize BO H2 p b _ d++G1=H3 at h3 e3;cases er with
   |some e=>simp only[GMw,HPw,Nat.reduceAdd,Nat.reduceLT,B8];exact⟨_,rfl,(e1.trans e2).trans e3,_,_,_,_,_,h3⟩
   |none=>
    have hst:=Ve2 (o:=5) (z:=Dl ((b.take d).drop c)) h3.lx (by simp[rdL]);simp only[GMw,HPw,Nat.reduceAdd,Nat.reduceLT,By,Vkc,hst,AJ];generalize hz:Dl ((b.take d).drop c)=z1;obtain⟨h4,e4⟩:=h3.set (a':=d) (st':={ st with x:=z1 }) (f0':=.bool (decide (z1<0))) (f1':=.sl (enL cU (A4 z1.natAbs)) .no) (cs:=Dx (.str b::.i6 (d:Int)::rdL bx N st f0 f1 g0 g1 v) 5 2 (AA z1)) h3.row rfl (.inl rfl) h3.gy;generalize H3.set p _=H4 at h4 e4;have hx2:=LN h4.lx jD.2 hb [44] ([48,10]++Ck) (by decide) (by decide);rw[show Ab.str ([48,10]++Ck)=.str [48,10,120,32,61,32,48,44,32,121,32,61,32,48,44,32,114,117,108,101,32,61,32,97,10,33] from rfl]at hx2;simp only[GMw,HPw,Nat.reduceAdd,Nat.reduceLT,hx2];have hM2:=E5 (s:=[44]) (rest:=[48,10]++Ck) jD.2;generalize DZ b d [44] ([48,10]++Ck)=M at hM2;obtain⟨er,f⟩:=M;dsimp only at hM2 ⊢;obtain⟨h5,e5⟩:=h4.go0 f;generalize BO H4 p b _ f=H5 at h5 e5;cases er with
    |some e=>simp only[GMw,HPw,Nat.reduceAdd,Nat.reduceLT,B8];exact⟨_,rfl,(((e1.trans e2).trans e3).trans e4).trans e5,_,_,_,_,_,h5⟩
    |none=>
     obtain⟨G2,hn2⟩:=MR h5.lx hM2 hb true (10::Ck) (by decide);rw[show Ab.str (10::Ck)=.str [10,120,32,61,32,48,44,32,121,32,61,32,48,44,32,114,117,108,101,32,61,32,97,10,33] from rfl]at hn2;have hi2:=Hk hM2 true (10::Ck);simp only[GMw,HPw,Nat.reduceAdd,Nat.reduceLT,By,hn2];generalize Ft b f true (10::Ck)=M at hi2;obtain⟨er,g⟩:=M;dsimp only at hi2 ⊢;obtain⟨h6,e6⟩:=h5.go g G2;generalize BO H5 p b _ g++G2=H6 at h6 e6;cases er with
     |some e=>simp only[GMw,HPw,Nat.reduceAdd,Nat.reduceLT,B8];exact⟨_,rfl,((((e1.trans e2).trans e3).trans e4).trans e5).trans e6,_,_,_,_,_,h6⟩
     |none=>
      have hst:=Ve2 (o:=7) (z:=Dl ((b.take g).drop f)) h6.lx (by simp[rdL]);simp only[GMw,HPw,Nat.reduceAdd,Nat.reduceLT,By,Vkb,hst,AJ];generalize lK:Dl ((b.take g).drop f)=z2;obtain⟨wJ,e7⟩:=h6.set (a':=g) (st':={ st with x:=z1,y:=z2 }) (f0':=.bool (decide (z1<0))) (f1':=.sl (enL cU (A4 z1.natAbs)) .no) (g0':=.bool (decide (z2<0))) (g1':=.sl (enL cU (A4 z2.natAbs)) .no) (cs:=Dx (.str b::.i6 (g:Int)::rdL bx N { st with x:=z1 } (.bool (decide (z1<0))) (.sl (enL cU (A4 z1.natAbs)) .no) g0 g1 v) 7 2 (AA z2)) h6.row rfl (.inl rfl) (.inl rfl);generalize H6.set p _=H7 at wJ e7;simp only[GMw,HPw,Nat.reduceAdd,Nat.reduceLT,S2 wJ.lx hi2.2 hb Ck (by omega)];obtain⟨h8,e8⟩:=wJ.go0 (HD b g Ck).2;refine⟨_,?_,(((((e1.trans e2).trans e3).trans e4).trans e5).trans e6).trans (e7.trans e8),_,_,_,_,_,h8⟩;cases (HD b g Ck).1 with
      |some e=>simp only[B8,GMw,HPw,Nat.reduceAdd,Nat.reduceLT]
      |none=>simp only[By,GMw,HPw,Nat.reduceAdd,Nat.reduceLT]

end
section
variable {bx N:Int}{b0 p a:Nat}{b:zAa}{st:LSt}{H:Aa}{f0 f1 g0 g1 v:Ab}
theorem VkE (h:RLx bx N b0 p b a st f0 f1 g0 g1 v H)(ha:a<=b.length)(hb:b.length<1152921504606846976){H0:Aa}{rec:LK}(hs:AV b a [35]=false) :
  MB bx N b0 p b H (Uat H0 rec (.ptr p 0 0) H) (.tup []) (Vh0 b a st):=by
 have hx:=LN h.lx ha hb szA T9 (by decide) (by decide);rw[show Ab.str szA=.str [120,32,61,32] from rfl,show Ab.str T9=.str [48,44,32,121,32,61,32,48,44,32,114,117,108,101,32,61,32,97,10,33] from rfl]at hx;unfold Uat Vh0 MB;simp only[GMw,HPw,Nat.reduceAdd,Nat.reduceLT,Ag,Ae,CM h.lx ha,hs,hx];have hM:=E5 (s:=szA) (rest:=T9) ha;generalize DZ b a szA T9=M at hM;obtain⟨er,c⟩:=M;dsimp only at hM ⊢;obtain⟨h2,e2⟩:=h.go0 c;generalize BO H p b _ c=H2 at h2 e2;cases er with
 |some e=>simp only[GMw,HPw,Nat.reduceAdd,Nat.reduceLT,B8];exact⟨_,rfl,e2,_,_,_,_,_,h2⟩
 |none=>
  obtain⟨G1,cL⟩:=MR h2.lx hM hb false Vh9 (by decide);rw[show Ab.str Vh9=.str [44,32,121,32,61,32,48,44,32,114,117,108,101,32,61,32,97,10,33] from rfl]at cL;have jD:=Hk hM false Vh9;simp only[GMw,HPw,Nat.reduceAdd,Nat.reduceLT,By,cL];generalize Ft b c false Vh9=M at jD;obtain⟨er,d⟩:=M;dsimp only at jD ⊢;obtain⟨h3,e3⟩:=h2.go d G1;generalize BO H2 p b _ d++G1=H3 at h3 e3;cases er with
  |some e=>simp only[GMw,HPw,Nat.reduceAdd,Nat.reduceLT,B8];exact⟨_,rfl,e2.trans e3,_,_,_,_,_,h3⟩
  |none=>
   have hx2:=LN h3.lx jD.2 hb szB T8 (by decide) (by decide);rw[show Ab.str szB=.str [44,32,121,32,61,32] from rfl,show Ab.str T8=.str [48,44,32,114,117,108,101,32,61,32,97,10,33] from rfl]at hx2;simp only[GMw,HPw,Nat.reduceAdd,Nat.reduceLT,By,hx2];have hM2:=E5 (s:=szB) (rest:=T8) jD.2;generalize DZ b d szB T8=M at hM2;obtain⟨er,f⟩:=M;dsimp only at hM2 ⊢;obtain⟨h5,e5⟩:=h3.go0 f;generalize BO H3 p b _ f=H5 at h5 e5;cases er with
   |some e=>simp only[GMw,HPw,Nat.reduceAdd,Nat.reduceLT,B8];exact⟨_,rfl,(e2.trans e3).trans e5,_,_,_,_,_,h5⟩
   |none=>
    obtain⟨G2,hn2⟩:=MR h5.lx hM2 hb false Vh8 (by decide);rw[show Ab.str Vh8=.str [44,32,114,117,108,101,32,61,32,97,10,33] from rfl]at hn2;have hi2:=Hk hM2 false Vh8;simp only[GMw,HPw,Nat.reduceAdd,Nat.reduceLT,By,hn2];generalize Ft b f false Vh8=M at hi2;obtain⟨er,g⟩:=M;dsimp only at hi2 ⊢;obtain⟨h6,e6⟩:=h5.go g G2;generalize BO H5 p b _ g++G2=H6 at h6 e6;cases er with
    |some e=>simp only[GMw,HPw,Nat.reduceAdd,Nat.reduceLT,B8];exact⟨_,rfl,((e2.trans e3).trans e5).trans e6,_,_,_,_,_,h6⟩
    |none=>
     have hx3:=LN h6.lx hi2.2 hb szC [97,10,33] (by decide) (by decide);rw[show Ab.str szC=.str [44,32,114,117,108,101,32,61,32] from rfl]at hx3;simp only[GMw,HPw,Nat.reduceAdd,Nat.reduceLT,By,hx3];have hM3:=E5 (s:=szC) (rest:=[97,10,33]) hi2.2;generalize DZ b g szC [97,10,33]=M at hM3;obtain⟨er,i⟩:=M;dsimp only at hM3 ⊢;obtain⟨h7,e7⟩:=h6.go0 i;generalize BO H6 p b _ i=H7 at h7 e7;cases er with
     |some e=>simp only[GMw,HPw,Nat.reduceAdd,Nat.reduceLT,B8];exact⟨_,rfl,(((e2.trans e3).trans e5).trans e6).trans e7,_,_,_,_,_,h7⟩
     |none=>
      have hr:=VeH (rest:=[10,33]) hM3;simp only[GMw,HPw,Nat.reduceAdd,Nat.reduceLT,By,Vi0 h7.lx hM3 hb [10,33] (by decide)];generalize Pv b i [10,33]=M at hr;obtain⟨er,j⟩:=M;dsimp only at hr ⊢;obtain⟨h8,e8⟩:=h7.go0 j;generalize BO H7 p b _ j=H8 at h8 e8;cases er with
      |some e=>simp only[GMw,HPw,Nat.reduceAdd,Nat.reduceLT,B8];exact⟨_,rfl,((((e2.trans e3).trans e5).trans e6).trans e7).trans e8,_,_,_,_,_,h8⟩
      |none=>
       obtain⟨H9,hst,h9,e9⟩:∃K,Ai 1 (.ptr p 0 4) (.str ((b.take j).drop i)) H8=some K/\RLx bx N b0 p b j { st with law:=(b.take j).drop i } f0 f1 g0 g1 v K/\Ext b0 p H8 K:=
        ⟨_,GM (o:=4) (v:=.str ((b.take j).drop i)) h8.lx rfl (by simp[rdL]),h8.set (a':=j) (st':={ st with law:=(b.take j).drop i }) h8.row rfl h8.fx h8.gy⟩
       simp only[GMw,HPw,Nat.reduceAdd,Nat.reduceLT,By,hst,AJ];simp only[GMw,HPw,Nat.reduceAdd,Nat.reduceLT,S2 h9.lx hr.2 hb [33] (by decide)];obtain⟨hz,ez⟩:=h9.go0 (HD b j [33]).2;refine⟨_,?_,(((((e2.trans e3).trans e5).trans e6).trans e7).trans e8).trans (e9.trans ez),_,_,_,_,_,hz⟩;cases (HD b j [33]).1 with
       |some e=>simp only[B8,GMw,HPw,Nat.reduceAdd,Nat.reduceLT]
       |none=>simp only[By,GMw,HPw,Nat.reduceAdd,Nat.reduceLT]
def VmL (b:zAa)(k a:Nat)(st:LSt):(Er×Nat)×LSt:=match L8 b k a st with
 |((some e,c),st')=>((some e,c),st')
 |((none,c),st')=>Vh0 b c st'
theorem Vad (hb:b.length<1000000000)(H0:Aa):∀(m a:Nat) (st:LSt) (H:Aa),a<=b.length->b.length-a<m->∀n,m<=n->RLe bx N b0 p b a st H ->
  MB bx N b0 p b H (Am (λrec1 vs H=>Uat H0 rec1 (ag vs 0) H) n [.ptr p 0 0] H) (.tup []) (VmL b m a st):=by
 intro m
 induction m with
 |zero=>intro a st H _ h;omega
 |succ m ih=>
  intro a st H ha hm n hn h;obtain⟨n,rfl⟩:∃k,n=k+1:=⟨n-1,by omega⟩;rw[C0];generalize hg:Am (λrec1 vs H=>Uat H0 rec1 (ag vs 0) H) n=rec;obtain⟨f0,f1,g0,g1,v,h⟩:=h;cases hs:AV b a [35]with
  |false=>
   have:VmL b (m+1) a st=Vh0 b a st:=by unfold VmL L8;rw[hs];rfl
   rw[this];exact VkE h ha (by omega) hs
  |true=>
   have hr:=VeN h ha (by omega);have hok:=VeQ ha st;have aR:=VkH ha st;have he:VmL b (m+1) a st=match Of b a st with
     |((some e,c),st')=>((some e,c),st')
     |((none,c),st')=>VmL b m c st':=by
    unfold VmL
    conv=>lhs;unfold L8
    rw[if_pos hs];generalize Of b a st=M;obtain⟨⟨er,c⟩,st'⟩:=M;cases er <;> rfl
   rw[he];unfold Uat;simp only[GMw,HPw,Nat.reduceAdd,Nat.reduceLT,Ag,Ae,CM h.lx ha,hs];obtain⟨H1,r1,r2,r3⟩:=hr;rw[r1];generalize Of b a st=M at r1 r2 r3 hok aR;obtain⟨⟨er,c⟩,st'⟩:=M;obtain⟨k1,k2,k3,k4⟩:=hok;dsimp only at r1 r2 r3 k1 k2 aR ⊢;cases er with
   |some e=>simp only[GMw,HPw,Nat.reduceAdd,Nat.reduceLT,B8];exact⟨H1,rfl,r2,r3⟩
   |none=>have:=aR rfl;obtain⟨H2,s1,s2,s3⟩:=ih c st' H1 k1 (by omega) n (by omega) r3;rw[hg]at s1;simp only[GMw,HPw,Nat.reduceAdd,Nat.reduceLT,By];exact⟨H2,s1,r2.trans s2,s3⟩
theorem VkG (hb:b.length<1000000000)(ha:a<=b.length)(h:RLe bx N b0 p b a st H):MB bx N b0 p b H (UbK (.ptr p 0 0) H) (.tup []) (SF b a st):=by unfold UbK;exact Vad hb H (b.length+1) a st H ha (by omega) AP (by rw[DB];omega) h
theorem VlW {i:Nat}(h:AV b i Db=true)(hl:i<b.length):IntKind.u8.wrap ((b[i].toNat:Int)-48)=(Mg b i:Int)/\IntKind.i64.wrap (Mg b i:Int)=(Mg b i:Int):=by
 have h':=h;unfold AV at h';rw[Vl hl]at h';have hm:b[i]∈Db:=by simpa using h'
 have key:∀x∈Db,48<=x.toNat:=by decide
 have h1:=key _ hm;have h2:=b[i].toNat_lt;have e:Mg b i=b[i].toNat-48:=by unfold Mg;rw[Vm,Vl hl];rfl
 rw[e];exact⟨by rw[FE (by omega) (by omega)];omega,R5 (by omega)⟩
def Vhl (bx N:Int)(b0 p:Nat)(b:zAa)(st:LSt)(H:Aa)(x:Out)(s:Er×Nat×Nat):Prop:=∃H',x=some (Pw s.1 (.i6 (s.2.2:Int)),H')/\Ext b0 p H H'/\RLe bx N b0 p b s.2.1 st H'
theorem TB (hb:b.length<1000000000)(H0:Aa){f:Nat}:∀(m a n:Nat) (H:Aa),a<=b.length->f<=a->a<=f+9->n<10^(a-f)->f+10<a+m->∀k,m<=k->RLe bx N b0 p b a st H ->
  Vhl bx N b0 p b st H (Am (λrec1 vs H=>UbL H0 rec1 (ag vs 0) (ag vs 1) (ag vs 2) H) k [.ptr p 0 0,.i6 (n:Int),.i6 (f:Int)] H) (IL b f m a n):=by
 intro m
 induction m with
 |zero=>intro a n H _ _ _ _ h;omega
 |succ m ih=>
  intro a n H ha hf h9 hn hm k hk hh;obtain⟨k,rfl⟩:∃j,k=j+1:=⟨k-1,by omega⟩;have Zn:n<=999999999:=by have:=VO (show 0<10 by decide) (show a-f<=9 by omega);omega
  rw[C0];generalize hg:Am (λrec1 vs H=>UbL H0 rec1 (ag vs 0) (ag vs 1) (ag vs 2) H) k=rec;have sW:=hh;obtain⟨f0,f1,g0,g1,v,h⟩:=hh;unfold UbL IL Vhl;simp only[GMw,HPw,Nat.reduceAdd,Nat.reduceLT,Ag,Ae,CM h.lx ha];rw[show AV b a [48,49,50,51,52,53,54,55,56,57]=AV b a Db from rfl];cases hs:AV b a Db with
  |false=>simp only[GMw,HPw,Nat.reduceAdd,Nat.reduceLT,Vq,if_false];exact⟨H,rfl,Ext.refl _ _ _,sW⟩
  |true=>
   have hlt:=Cx hs;have Zr:=Vkk hs;obtain⟨db1,db2⟩:=VlW hs hlt;have dn:decide ((n:Int)=0)=decide (n=0):=by rw[V8];simp
   have eJ:IntKind.i64.wrap ((a:Int)-(f:Int))=((a-f:Nat):Int):=by rw[An (by omega) (by omega)];omega
   have d9:decide (((a-f:Nat):Int)=9)=decide (a-f=9):=by rw[V8];simp;omega
   have go:∀x:Out,x=Ud0 H0 rec (.ptr p 0 0) (.i6 (n:Int)) (.i6 (f:Int)) H->a-f≠9->∃H',x=some (Pw (IL b f m (a+1) (10*n+Mg b a)).1 (.i6 ((IL b f m (a+1) (10*n+Mg b a)).2.2:Int)),H')/\Ext b0 p H H'/\RLe bx N b0 p b (IL b f m (a+1) (10*n+Mg b a)).2.1 st H':=by
    intro x hx hne;have aR:Ai 1 (.ptr p 0 1) (.i6 ((a+1:Nat):Int)) H=some (BO H p b (rdL bx N st f0 f1 g0 g1 v) (a+1)):=MQ h.lx _;obtain⟨h1,e1⟩:=h.go0 (a+1);have gJ:IntKind.i64.wrap (10*(n:Int))=((10*n:Nat):Int):=by rw[An (by omega) (by omega)];simp
    have aQ:IntKind.i64.wrap (((10*n:Nat):Int)+(Mg b a:Int))=((10*n+Mg b a:Nat):Int):=by rw[An (by omega) (by omega)];simp
    have dD:Cj (.str b) (.i6 (a:Int))=some (.int .u8 (b[a].toNat:Int)):=Ds hlt;rw[hx];unfold Ud0;simp only[GMw,HPw,Nat.reduceAdd,Nat.reduceLT,Ag,Ae,gJ,Fh h.lx,P7 h.lx,Bm,dD,db1,Bo,db2,aQ,Av (show a<9223372036854775807 by omega),aR,AJ];obtain⟨H2,s1,s2,s3⟩:=ih (a+1) (10*n+Mg b a) _ (by omega) (by omega) (by omega) (by rw[show a+1-f=a-f+1 by omega,Nat.pow_succ];omega) (by omega) k (by omega) ⟨_,_,_,_,_,h1⟩;rw[hg]at s1;exact⟨H2,s1,e1.trans s2,s3⟩
   simp only[GMw,HPw,Nat.reduceAdd,Nat.reduceLT,if_true,dn];cases h0:decide (n=0)with
   |true=>
    have iT:n=0:=of_decide_eq_true h0;simp only[GMw,HPw,Nat.reduceAdd,Nat.reduceLT,Ag,Ae,CM h.lx ha,zXn,h0];cases oU:AV b a [48]with
    |true=>simp only[GMw,HPw,Nat.reduceAdd,Nat.reduceLT,It h.lx,if_true,h0];exact⟨H,rfl,Ext.refl _ _ _,sW⟩
    |false=>
     simp only[GMw,HPw,Nat.reduceAdd,Nat.reduceLT,Vq,if_false,Ag,Ae,Fh h.lx,eJ,d9,h0];by_cases nV:a-f=9
     ·simp only[nV,GMw,HPw,Nat.reduceAdd,Nat.reduceLT,LO,if_true];exact⟨H,rfl,Ext.refl _ _ _,sW⟩
     ·simp only[nV,GMw,HPw,Nat.reduceAdd,Nat.reduceLT,if_false];exact go _ rfl nV
   |false=>
    simp only[GMw,HPw,Nat.reduceAdd,Nat.reduceLT,Wh,Vq,if_false,Ag,Ae,Fh h.lx,eJ,d9,h0];by_cases nV:a-f=9
    ·simp only[nV,GMw,HPw,Nat.reduceAdd,Nat.reduceLT,LO,if_true];exact⟨H,rfl,Ext.refl _ _ _,sW⟩
    ·simp only[nV,GMw,HPw,Nat.reduceAdd,Nat.reduceLT,if_false];exact go _ rfl nV
theorem VhD (hb:b.length<1000000000)(ha:a<=b.length)(h:RLe bx N b0 p b a st H):Vhl bx N b0 p b st H (UbM (.ptr p 0 0) H) (IL b a 11 a 0):=by have h':=h;obtain⟨f0,f1,g0,g1,v,hx⟩:=h;unfold UbM;simp only[GMw,HPw,Nat.reduceAdd,Nat.reduceLT,Ag,Ae,Fh hx.lx,Bm];exact TB hb H 11 a 0 H ha (Vo _) (by omega) (by simp) (by omega) AP (by rw[DB];omega) h'

end
section
variable {bx N:Int}{b0 p a:Nat}{b:zAa}{st:LSt}{H:Aa}{f0 f1 g0 g1 v:Ab}
theorem Vdh {i:Nat}(h:AV b i IZ=true):∃hl:i<b.length,65<=b[i].toNat/\b[i].toNat<=88/\atV b i=b[i].toNat:=by
 have hl:=Cx h;unfold AV at h;rw[Vl hl]at h;have hm:b[i]∈IZ:=by simpa using h
 have key:∀x∈IZ,65<=x.toNat/\x.toNat<=88:=by decide
 exact⟨hl,(key _ hm).1,(key _ hm).2,by unfold atV;rw[Vm,Vl hl];rfl⟩
theorem Vi2 {i:Nat}(h:AV b i S3=true):∃hl:i<b.length,112<=b[i].toNat/\b[i].toNat<=121/\atV b i=b[i].toNat:=by
 have hl:=Cx h;unfold AV at h;rw[Vl hl]at h;have hm:b[i]∈S3:=by simpa using h
 have key:∀x∈S3,112<=x.toNat/\x.toNat<=121:=by decide
 exact⟨hl,(key _ hm).1,(key _ hm).2,by unfold atV;rw[Vm,Vl hl];rfl⟩
theorem VjC {x k:Nat}(h:k<=x)(hx:x<256):IntKind.u8.wrap ((x:Int)-(k:Int))=((x-k:Nat):Int):=by rw[FE (by omega) (by omega)];omega
theorem Pa {x y:Nat}(h:x+y<9223372036854775808):IntKind.i64.wrap ((x:Int)+(y:Int))=((x+y:Nat):Int):=by rw[An (by omega) (by omega)];simp
theorem Vlt {x y:Nat}(h:x*y<9223372036854775808):IntKind.i64.wrap ((x:Int)*(y:Int))=((x*y:Nat):Int):=by
 have e0:((x:Int)*(y:Int))=((x*y:Nat):Int):=by simp
 rw[e0,An (by omega) (by omega)]
theorem VgC {x:Nat}(hx:x<256):IntKind.i64.wrap (x:Int)=(x:Int):=R5 (by omega)
theorem VhB (hb:b.length<1000000000)(ha:a<=b.length)(h:RLe bx N b0 p b a st H):Vhl bx N b0 p b st H (UaK (.ptr p 0 0) H) (T6 b a):=by
 have hh:=h;obtain⟨f0,f1,g0,g1,v,h⟩:=h;have u65:∀ {x:Nat},65<=x->x<256->IntKind.u8.wrap ((x:Int)-65)=((x-65:Nat):Int):=λh hx=>VjC (k:=65) h hx;have u112:∀ {x:Nat},112<=x->x<256->IntKind.u8.wrap ((x:Int)-112)=((x-112:Nat):Int):=λh hx=>VjC (k:=112) h hx;have a1:∀ {x:Nat},x<1000->IntKind.i64.wrap ((x:Int)+1)=((x+1:Nat):Int):=λh=>Pa (y:=1) (by omega);have a24:∀ {x:Nat},x<1000->IntKind.i64.wrap ((x:Int)+24)=((x+24:Nat):Int):=λh=>Pa (y:=24) (by omega);have m24:∀ {x:Nat},x<1000->IntKind.i64.wrap (24*(x:Int))=((24*x:Nat):Int):=λh=>Vlt (x:=24) (by omega);unfold UaK T6 Vhl;simp only[GMw,HPw,Nat.reduceAdd,Nat.reduceLT,Ag,Ae,CM h.lx ha];cases h1:AV b a [46,98]with
 |true=>simp only[GMw,HPw,Nat.reduceAdd,Nat.reduceLT,if_true];exact⟨H,rfl,Ext.refl _ _ _,hh⟩
 |false=>
  simp only[GMw,HPw,Nat.reduceAdd,Nat.reduceLT,Vq,if_false,Ag,Ae,CM h.lx ha];cases h2:AV b a [111]with
  |true=>simp only[GMw,HPw,Nat.reduceAdd,Nat.reduceLT,if_true];exact⟨H,rfl,Ext.refl _ _ _,hh⟩
  |false=>
   simp only[GMw,HPw,Nat.reduceAdd,Nat.reduceLT,Vq,if_false,Ag,Ae,CM h.lx ha];rw[show AV b a [65,66,67,68,69,70,71,72,73,74,75,76,77,78,79,80,81,82,83,84,85,86,87,88]=AV b a IZ from rfl];cases h3:AV b a IZ with
   |true=>obtain⟨hl,c1,c2,c3⟩:=Vdh h3;have dD:Cj (.str b) (.i6 (a:Int))=some (.int .u8 (b[a].toNat:Int)):=Ds hl;simp only[GMw,HPw,Nat.reduceAdd,Nat.reduceLT,if_true,Ag,Ae,Fh h.lx,P7 h.lx,Bm,dD,u65 c1 (show b[a].toNat<256 by omega),Bo,VgC (show b[a].toNat-65<256 by omega),a1 (show b[a].toNat-65<1000 by omega)];exact⟨H,by rw[c3];rfl,Ext.refl _ _ _,hh⟩
   |false=>
    simp only[GMw,HPw,Nat.reduceAdd,Nat.reduceLT,Vq,if_false,Ag,Ae,CM h.lx ha];rw[show AV b a [112,113,114,115,116,117,118,119,120,121]=AV b a S3 from rfl];cases h4:AV b a S3 with
    |false=>simp only[GMw,HPw,Nat.reduceAdd,Nat.reduceLT,Vq,if_false,Ag,Ae,It h.lx];exact⟨H,rfl,Ext.refl _ _ _,hh⟩
    |true=>
     obtain⟨hl,c1,c2,c3⟩:=Vi2 h4;have dD:Cj (.str b) (.i6 (a:Int))=some (.int .u8 (b[a].toNat:Int)):=Ds hl;have aR:Ai 1 (.ptr p 0 1) (.i6 ((a+1:Nat):Int)) H=some (BO H p b (rdL bx N st f0 f1 g0 g1 v) (a+1)):=MQ h.lx _;obtain⟨h5,e5⟩:=h.go0 (a+1);have rY:decide ((b[a].toNat:Int)=121)=decide (b[a]? = some 121):=by
      rw[Vl hl,V8];simp only[zXe,Vv];constructor
      ·intro e;exact WF.1 (by show b[a].toNat=121;omega)
      ·intro e;rw[e];rfl
     unfold Uea;simp only[GMw,HPw,Nat.reduceAdd,Nat.reduceLT,if_true,Ag,Ae,Fh h.lx,P7 h.lx,Bm,dD,Av (show a<9223372036854775807 by omega),aR,AJ];generalize BO H p b _ (a+1)=H1 at h5 e5;have sT:RLe bx N b0 p b (a+1) st H1:=⟨_,_,_,_,_,h5⟩;have tC:a+1<=b.length:=hl;simp only[CM h5.lx tC];rw[show AV b (a+1) [65,66,67,68,69,70,71,72,73,74,75,76,77,78,79,80,81,82,83,84,85,86,87,88]=AV b (a+1) IZ from rfl];cases h6:AV b (a+1) IZ with
     |false=>simp only[GMw,HPw,Nat.reduceAdd,Nat.reduceLT,Wg,Xe,if_true,Ag,Ae,It h5.lx];exact⟨H1,rfl,e5,sT⟩
     |true=>
      obtain⟨eO,d1,d2,d3⟩:=Vdh h6;have vF:Cj (.str b) (.i6 ((a+1:Nat):Int))=some (.int .u8 (b[a+1].toNat:Int)):=Ds eO;simp only[GMw,HPw,Nat.reduceAdd,Nat.reduceLT,VR,zXo,rY,Ag,Ae,CM h5.lx tC];have fin:Ud1 H (.ptr p 0 0) (.int .u8 (b[a].toNat:Int)) H1=some (.ret (.i6 ((24*(atV b a-112)+(atV b (a+1)-65)+25:Nat):Int)),H1):=by
       unfold Ud1;simp only[GMw,HPw,Nat.reduceAdd,Nat.reduceLT,Ag,Ae,Fh h5.lx,P7 h5.lx,Bm,vF,u112 c1 (show b[a].toNat<256 by omega),Bo,VgC (show b[a].toNat-112<256 by omega),m24 (show b[a].toNat-112<1000 by omega),u65 d1 (show b[a+1].toNat<256 by omega),
        VgC (show b[a+1].toNat-65<256 by omega),Pa (show 24*(b[a].toNat-112)+(b[a+1].toNat-65)<9223372036854775808 by omega),a24 (show 24*(b[a].toNat-112)+(b[a+1].toNat-65)<1000 by omega),a1 (show 24*(b[a].toNat-112)+(b[a+1].toNat-65)+24<1000 by omega)]
       rw[c3,d3]
      cases h7:decide (b[a]? = some 121)with
      |false=>simp only[GMw,HPw,Nat.reduceAdd,Nat.reduceLT,Wh,Vq,if_false,h7,fin];exact⟨H1,rfl,e5,sT⟩
      |true=>
       simp only[GMw,HPw,Nat.reduceAdd,Nat.reduceLT,zXn,h7,Ag,Ae,CM h5.lx tC];rw[show AV b (a+1) [80,81,82,83,84,85,86,87,88]=AV b (a+1) VfO from rfl];cases h8:AV b (a+1) VfO with
       |true=>simp only[GMw,HPw,Nat.reduceAdd,Nat.reduceLT,if_true,Ag,Ae,It h5.lx];exact⟨H1,rfl,e5,sT⟩
       |false=>simp only[GMw,HPw,Nat.reduceAdd,Nat.reduceLT,Vq,if_false,fin];exact⟨H1,rfl,e5,sT⟩
theorem Vef (s:Nat):IntKind.u8.wrap (s:Int)=((UInt8.ofNat s).toNat:Int):=by
 have h:(UInt8.ofNat s).toNat=s%256:=by simp
 rw[h];have h1:IntKind.u8.bits=8:=rfl;have h2:IntKind.u8.signed=false:=rfl;unfold IntKind.wrap;simp[h1,h2]
theorem Vju (x y:Int)(s:Nat):AD (some [(.bool false),(.sl [] .ti),(.bool false),(.sl [] .ti),(.int .u8 0)]) [(0,2,big x),(2,2,big y),(4,1,(.int .u8 ((UInt8.ofNat s).toNat:Int)))]=some (.agg (cCl ⟨x,y,UInt8.ofNat s⟩)):=rfl
theorem Vfr (h:RLx bx N b0 p b a st f0 f1 g0 g1 v H){q s n i:Nat}{Y:Int}(hq:H[q]? = some (.cel 0 (AA Y)))(lX:q≠p)(hX:st.x.natAbs<10^400)(hc:st.col<=1000000000000000000)(hk:st.cells.length<=1000000000000)(hi:i<n)(hn:n<=1000000000){rec:LK}{H0:Aa} :
  ∃w H6,Uau H0 rec (.ptr p 0 0) (.i6 (s:Int)) (.ptr q 0 0) (.i6 (n:Int)) (.i6 (i:Int)) H=rec [.ptr p 0 0,.i6 (s:Int),.ptr q 0 0,.i6 (n:Int),.i6 ((i+1:Nat):Int)] H6 /\
   RLx bx N b0 p b a { st with col:=st.col+1,cells:=st.cells++[⟨st.x+st.col,Y,UInt8.ofNat s⟩] } f0 f1 g0 g1 w H6/\Ext b0 p H H6:=by
 have hd:decide ((i:Int)<(n:Int))=true:=zXc (by omega);have oR:Ad false 1 (.ptr p 0 9) H=some (.i6 (st.col:Int)):=by rw[Cu h.lx];rfl
 have hf:Ad true 2 (.ptr p 0 5) H=some (.agg [f0,f1]):=by rw[VjX h.lx (by simp[rdL])];rfl
 have hv:Ad false 1 (.ptr p 0 11) H=some v:=by rw[Cu h.lx];rfl
 have hy:Ad true 2 (.ptr q 0 0) H=some (big Y):=BV hq;have aQ:=λK=>VjL (n:=st.col) K h.fx (S8 hX) (VjY (show st.col<=1152921504606846976 by omega));obtain⟨w,H6,r1,r2,r3⟩:=h.row.snoc (bytes:=72) h.ble ⟨st.x+st.col,Y,UInt8.ofNat s⟩ .ti (by omega) (by omega);have nJ:Lx H6 p b a (rdL bx N st f0 f1 g0 g1 v):=r3.cel _ _ h.lx;have yP:w.isScal=true:=by obtain⟨tk,rfl⟩:=r2.sl;rfl
 have xB:=Vi1 nJ;obtain⟨C7,hC7⟩:∃C,C=(Ab.str b::.i6 (a:Int)::rdL bx N st f0 f1 g0 g1 v).set 11 w:=⟨_,rfl⟩;obtain⟨H7,hH7⟩:∃K,K=H6.set p (.cel 0 C7):=⟨_,rfl⟩;have hst:Ai 1 (.ptr p 0 11) w H6=some H7:=by rw[hH7,hC7];exact GM (o:=11) (v:=w) nJ yP (by simp[rdL])
 have qG:H7[p]? = some (.cel 0 C7):=by rw[hH7,V0 xB]
 have Y5:Ad false 1 (.ptr p 0 9) H7=some (.i6 (st.col:Int)):=by rw[Cu qG,hC7];rfl
 obtain⟨H8,hH8⟩:∃K,K=H7.set p (.cel 0 (C7.set 9 (.i6 ((st.col+1:Nat):Int)))):=⟨_,rfl⟩;have eK:Ai 1 (.ptr p 0 9) (.i6 ((st.col+1:Nat):Int)) H7=some H8:=by rw[hH8];exact GM (o:=9) qG rfl (by rw[hC7];simp[rdL])
 have h8:H8=H6.set p (.cel 0 (.str b::.i6 (a:Int)::rdL bx N { st with col:=st.col+1,cells:=st.cells++[⟨st.x+st.col,Y,UInt8.ofNat s⟩] } f0 f1 g0 g1 w)):=by rw[hH8,hH7,XT,hC7];rfl
 unfold Uau;simp only[GMw,HPw,Nat.reduceAdd,Nat.reduceLT,hd,Ag,Ae,oR,Bm,Vpo (st.col:Int) _ (by omega) (by omega),Vkc,hf,aQ,hv,hy,Bo,Vef,Vju,Vjx,r1,hst,AJ,Cy,Y5,Av (show st.col<9223372036854775807 by omega),eK,Av (show i<9223372036854775807 by omega)];refine⟨w,H8,rfl,?_,?_⟩
 ·rw[h8];refine⟨h.hb,?_,r2.put nJ,h.fx,h.gy⟩;unfold Lx;rw[V0 xB]
 ·rw[h8];exact Ext.trans ⟨r3.len,λi cs hi hc=>r3.cel i cs hc,r3.old⟩ ⟨by simp,λi c hi hc=>by rw[Vt (Ne.symm hi)];exact hc,λi hi=>by rw[Vt (by have:=h.hb;omega)]⟩
def Pz (st:LSt)(s i:Nat):LSt:={ st with col:=st.col+i,cells:=st.cells++Sn st i s }
theorem Vfs (st:LSt)(i s:Nat):Sn st (i+1) s=Sn st i s++[⟨st.x+((st.col+i:Nat):Int),st.y+(st.row:Int),UInt8.ofNat s⟩]:=by simp[Sn,Xm]
theorem Vch {H0:Aa}{q s n:Nat}(lX:q≠p)(hX:st.x.natAbs<10^400)(hc:st.col<=100000000000000000)(hk:st.cells.length<=100000000000)(hn:n<=1000000000):∀(m i:Nat) (H:Aa),i+m=n->H[q]? = some (.cel 0 (AA (st.y+st.row)))->∀k,m<k ->
  RLe bx N b0 p b a (Pz st s i) H->MB bx N b0 p b H (Am (λaA vs H=>Uau H0 aA (ag vs 0) (ag vs 1) (ag vs 2) (ag vs 3) (ag vs 4) H) k [.ptr p 0 0,.i6 (s:Int),.ptr q 0 0,.i6 (n:Int),.i6 (i:Int)] H) (.tup []) ((none,a),Pz st s n)
 |0,i,H,gL,hq,k,hk2,h=>by
  obtain⟨k,rfl⟩:∃j,k=j+1:=⟨k-1,by omega⟩;have e:i=n:=by omega
  subst e;have hd:decide ((i:Int)<(i:Int))=false:=zXd (by omega);rw[C0];unfold Uau;simp only[GMw,HPw,Nat.reduceAdd,Nat.reduceLT,hd];exact⟨H,rfl,Ext.refl _ _ _,h⟩
 |m+1,i,H,gL,hq,k,hk2,h=>by
  obtain⟨k,rfl⟩:∃j,k=j+1:=⟨k-1,by omega⟩;rw[C0];generalize hg:Am (λaA vs H=>Uau H0 aA (ag vs 0) (ag vs 1) (ag vs 2) (ag vs 3) (ag vs 4) H) k=rec;obtain⟨f0,f1,g0,g1,v,h⟩:=h;obtain⟨w,H6,r1,r2,r3⟩:=Vfr h (s:=s) (n:=n) (i:=i) hq lX hX (by show st.col+i<=_;omega) (by show (st.cells++Sn st i s).length<=_;rw[Vs,Vci];omega) (by omega) hn (rec:=rec) (H0:=H0);have e2:({ Pz st s i with col:=(Pz st s i).col+1,cells:=(Pz st s i).cells++[⟨(Pz st s i).x+(Pz st s i).col,st.y+st.row,UInt8.ofNat s⟩] }:LSt)=Pz st s (i+1):=by unfold Pz;rw[Vfs];simp[VN]
  rw[e2]at r2;obtain⟨H7,s1,s2,s3⟩:=Vch lX hX hc hk hn m (i+1) H6 (by omega) (r3.cel q _ lX hq) k (by omega) ⟨_,_,_,_,_,r2⟩;rw[hg]at s1;exact⟨H7,r1.trans s1,r3.trans s2,s3⟩

end
section
variable {bx N:Int}{b0 p a:Nat}{b:zAa}{st:LSt}{H:Aa}{f0 f1 g0 g1 v:Ab}
theorem Vn2 (st:LSt)(s:Nat):Pz st s 0=st:=by unfold Pz Sn;simp
theorem VhC {n s m:Nat}(hn:n<=999999999)(hm:m<=1000000)(hok:LOk m st)(hbx:bx<=1000)(h:RLe bx N b0 p b a st H) :
  MB bx N b0 p b H (UaO (.ptr p 0 0) (.i6 (n:Int)) (.i6 (s:Int)) H) (.tup []) (((NB bx n s st).1,a),(NB bx n s st).2):=by
 have hc:=hok.c;have hr:=hok.r;have hk:=hok.k;have hh:=h;obtain⟨f0,f1,g0,g1,v,h⟩:=h;have oR:Ad false 1 (.ptr p 0 9) H=some (.i6 (st.col:Int)):=by rw[Cu h.lx];rfl
 have hrw:Ad false 1 (.ptr p 0 10) H=some (.i6 (st.row:Int)):=by rw[Cu h.lx];rfl
 have hbw:Ad false 1 (.ptr p 0 2) H=some (.i6 bx):=by rw[Cu h.lx];rfl
 have lE:=Pa (show st.col+n<9223372036854775808 by omega);have hds:decide ((s:Int)=0)=decide (s=0):=by rw[V8];simp
 unfold UaO NB;by_cases h0:s=0
 ·obtain⟨K,hst,s1,s2⟩:∃K,Ai 1 (.ptr p 0 9) (.i6 ((st.col+n:Nat):Int)) H=some K/\RLx bx N b0 p b a { st with col:=st.col+n } f0 f1 g0 g1 v K/\Ext b0 p H K:=
   ⟨_,GM (o:=9) (v:=.i6 ((st.col+n:Nat):Int)) h.lx rfl (by simp[rdL]),h.set (a':=a) (st':={ st with col:=st.col+n }) h.row rfl h.fx h.gy⟩
  simp only[hds,zXc h0,h0,GMw,HPw,Nat.reduceAdd,Nat.reduceLT,Ag,Ae,oR,lE,hst,AJ,if_true];exact⟨K,rfl,s2,_,_,_,_,_,s1⟩
 ·have hcc:((st.col+n:Nat):Int)=(st.col:Int)+n:=by simp
  have j1:decide ((st.row:Int)>=bx)=false->decide ((st.col:Int)+n>bx)=false->MB bx N b0 p b H (Ud5 H (.ptr p 0 0) (.i6 (n:Int)) (.i6 (s:Int)) H) (.tup []) ((none,a),Pz st s n):=by
   intro d1 d2;have hg:Ad true 2 (.ptr p 0 7) H=some (.agg [g0,g1]):=by rw[VjX h.lx (by simp[rdL])];rfl
   have aQ:=λK=>VjL (n:=st.row) K h.gy (S8 hok.y) (VjY (show st.row<=1152921504606846976 by omega));have hal:A3 (some [.bool false,.sl [] .ti]) H=some (.ptr H.length 0 0,H++[.cel 0 [.bool false,.sl [] .ti]]):=alloc_eq rfl;have hst:Ai 2 (.ptr H.length 0 0) (big (st.y+st.row)) (H++[.cel 0 [.bool false,.sl [] .ti]])=some (H++[.cel 0 (AA (st.y+st.row))]):=by have e0:=Ve2 (p:=H.length) (o:=0) (z:=st.y+st.row) (H:=H++[Blk.cel 0 [Ab.bool false,.sl [] .ti]]) (cs:=[Ab.bool false,.sl [] .ti]) (by simp) (by simp);rw[e0,Bt];rfl
   have hp:=h.lt;unfold Ud5;simp only[GMw,HPw,Nat.reduceAdd,Nat.reduceLT,Ag,Ae,hrw,Bm,Vpo (st.row:Int) _ (by omega) (by omega),Vkb,hg,aQ,hal,hst,AJ];have h2:=h.push [.cel 0 (AA (st.y+st.row))];obtain⟨H7,s1,s2,s3⟩:=Vch (H0:=H) (bx:=bx) (N:=N) (b0:=b0) (b:=b) (a:=a) (p:=p) (st:=st) (q:=H.length) (s:=s) (n:=n) (by omega) hok.x (by omega) (by omega) (by omega) n 0 (H++[.cel 0 (AA (st.y+st.row))]) (by omega) (by simp) AP (by rw[DB];omega) (by rw[Vn2];exact⟨_,_,_,_,_,h2⟩);exact⟨H7,s1,(Ext.push b0 p h.ble _).trans s2,s3⟩
  have e3:({ st with col:=st.col+n,cells:=st.cells++Sn st n s }:LSt)=Pz st s n:=rfl;simp only[hds,zXd h0,h0,GMw,HPw,Nat.reduceAdd,Nat.reduceLT,Ag,Ae,hrw,hbw,Bm,if_false];cases d1:decide ((st.row:Int)>=bx)with
  |true=>simp only[d1,GMw,HPw,Nat.reduceAdd,Nat.reduceLT,LO,Xe,if_true];exact⟨H,rfl,Ext.refl _ _ _,hh⟩
  |false=>
   simp only[d1,GMw,HPw,Nat.reduceAdd,Nat.reduceLT,Ag,Ae,oR,hbw,Bm,lE,hcc,zXo];cases d2:decide ((st.col:Int)+n>bx)with
   |true=>simp only[d2,GMw,HPw,Nat.reduceAdd,Nat.reduceLT,LO,if_true];exact⟨H,rfl,Ext.refl _ _ _,hh⟩
   |false=>simp only[d2,GMw,HPw,Nat.reduceAdd,Nat.reduceLT,Vq,if_false];rw[e3];exact j1 d1 d2
def Vm8 (bx N:Int)(b0 p:Nat)(b:zAa)(H:Aa)(x:Out)(s:((Er×Nat)×LSt)×Bool):Prop:=∃H',x=some (Pw s.1.1.1 (.bool s.2),H')/\Ext b0 p H H'/\RLe bx N b0 p b s.1.1.2 s.1.2 H'
theorem VhA {m:Nat}(hb:b.length<1000000000)(ha:a<=b.length)(hm:m<=1000000)(hok:LOk m st)(hbx:bx<=1000)(h:RLe bx N b0 p b a st H) :
  Vm8 bx N b0 p b H (UbU (.ptr p 0 0) H) (NZ b bx a st):=by
 obtain⟨H1,r1,r2,r3⟩:=VhD hb ha h;have lE:=Vde ha;unfold UbU NZ;rw[r1];generalize IL b a 11 a 0=M at r1 r2 r3 lE;obtain⟨er,c,t⟩:=M;obtain⟨c1,c2,c3,c4⟩:=lE;dsimp only at r1 r2 r3 c1 c2 c3 ⊢;cases er with
 |some e=>simp only[B8,GMw,HPw,Nat.reduceAdd,Nat.reduceLT];exact⟨H1,rfl,r2,r3⟩
 |none=>
  have jU:((max t 1:Nat):Int)=max (t:Int) 1:=by omega
  have uL:max t 1<=999999999:=by omega
  have wW:=r3;obtain⟨f0,f1,g0,g1,v,h1⟩:=r3;have step:∀(st':LSt) (d:Nat) (K:Aa),d<b.length->Ext b0 p H K->RLe bx N b0 p b d st' K->Vm8 bx N b0 p b H (UbT H (.ptr p 0 0) K) (((none,d+1),st'),false):=by intro st' d K hd hE hK;obtain⟨f0,f1,g0,g1,v,hK⟩:=hK;have aR:Ai 1 (.ptr p 0 1) (.i6 ((d+1:Nat):Int)) K=some (BO K p b (rdL bx N st' f0 f1 g0 g1 v) (d+1)):=MQ hK.lx _;obtain⟨h2,e2⟩:=hK.go0 (d+1);unfold UbT;simp only[GMw,HPw,Nat.reduceAdd,Nat.reduceLT,Ag,Ae,Fh hK.lx,Av (show d<9223372036854775807 by omega),aR,AJ];exact⟨_,rfl,hE.trans e2,_,_,_,_,_,h2⟩
  simp only[By,GMw,HPw,Nat.reduceAdd,Nat.reduceLT,Ro,Ag,Ae,CM h1.lx c1];cases h36:AV b c [36]with
  |true=>
   have hlt:=Cx h36;have hr:=hok.r;have hrw:Ad false 1 (.ptr p 0 10) H1=some (.i6 (st.row:Int)):=by rw[Cu h1.lx];rfl
   have aQ:=Pa (show st.row+max t 1<9223372036854775808 by omega);rw[jU]at aQ;have pT:=h1.lt;obtain⟨C2,hC2⟩:∃C,C=(Ab.str b::.i6 (c:Int)::rdL bx N st f0 f1 g0 g1 v).set 10 (.i6 ((st.row+max t 1:Nat):Int)):=⟨_,rfl⟩;obtain⟨H2,hH2⟩:∃K,K=H1.set p (.cel 0 C2):=⟨_,rfl⟩;have hst:Ai 1 (.ptr p 0 10) (.i6 ((st.row+max t 1:Nat):Int)) H1=some H2:=by rw[hH2,hC2];exact GM (o:=10) h1.lx rfl (by simp[rdL])
   have uT:H2[p]? = some (.cel 0 C2):=by rw[hH2,V0 pT]
   obtain⟨H3,hH3⟩:∃K,K=H2.set p (.cel 0 (C2.set 9 (.i6 0))):=⟨_,rfl⟩;have eK:Ai 1 (.ptr p 0 9) (.i6 0) H2=some H3:=by rw[hH3];exact GM (o:=9) uT rfl (by rw[hC2];simp[rdL])
   obtain⟨s1,s2⟩:RLx bx N b0 p b c { st with row:=st.row+max t 1,col:=0 } f0 f1 g0 g1 v H3/\Ext b0 p H1 H3:=by rw[hH3,hH2,XT,hC2];exact h1.set (a':=c) (st':={ st with row:=st.row+max t 1,col:=0 }) h1.row rfl h1.fx h1.gy
   simp only[GMw,HPw,Nat.reduceAdd,Nat.reduceLT,if_true,Ag,Ae,hrw,aQ,hst,eK,AJ];exact step _ c _ hlt (r2.trans s2) ⟨_,_,_,_,_,s1⟩
  |false=>
   simp only[GMw,HPw,Nat.reduceAdd,Nat.reduceLT,Vq,if_false,Ag,Ae,CM h1.lx c1];have zA:decide ((t:Int)=0)=decide (t=0):=by rw[V8];simp
   have rest:Vm8 bx N b0 p b H (bK H (UaK (.ptr p 0 0) H1) λx40 H41=>bK H (UaO (.ptr p 0 0) (.i6 (max (t:Int) 1)) x40 H41) λx42 H43=>UbT H (.ptr p 0 0) H43) (match T6 b c with
     |(some e,d,_)=>(((some e,d),st),false)
     |(none,d,s)=>match NB bx (max t 1) s st with
      |(some e,st')=>(((some e,d),st'),false)
      |(none,st')=>(((none,d+1),st'),false)):=by
    obtain⟨H2,s1,s2,s3⟩:=VhB hb c1 wW;have wT:=Vez (b:=b) c1;rw[s1];generalize T6 b c=M at s1 s2 s3 wT;obtain⟨er,d,s⟩:=M;obtain⟨d1,d2,d3,d4⟩:=wT;dsimp only at s1 s2 s3 d1 d2 d3 ⊢;cases er with
    |some e=>simp only[B8,GMw,HPw,Nat.reduceAdd,Nat.reduceLT];exact⟨H2,rfl,r2.trans s2,s3⟩
    |none=>
     obtain⟨H3,t1,t2,t3⟩:=VhC (s:=s) uL hm hok hbx s3;rw[jU]at t1;simp only[By,GMw,HPw,Nat.reduceAdd,Nat.reduceLT,t1];generalize NB bx (max t 1) s st=M at t1 t2 t3;obtain⟨er,st'⟩:=M;dsimp only at t1 t2 t3 ⊢;cases er with
     |some e=>simp only[B8,GMw,HPw,Nat.reduceAdd,Nat.reduceLT];exact⟨H3,rfl,(r2.trans s2).trans t2,t3⟩
     |none=>simp only[By,GMw,HPw,Nat.reduceAdd,Nat.reduceLT];exact step st' d H3 (d3 rfl) ((r2.trans s2).trans t2) t3
   cases h33:AV b c [33]with
   |true=>
    simp only[GMw,HPw,Nat.reduceAdd,Nat.reduceLT,zA,zXn];cases h0:decide (t=0)with
    |true=>simp only[GMw,HPw,Nat.reduceAdd,Nat.reduceLT,if_true,h0];exact⟨H1,rfl,r2,wW⟩
    |false=>simp only[GMw,HPw,Nat.reduceAdd,Nat.reduceLT,Vq,if_false,h0];exact rest
   |false=>simp only[GMw,HPw,Nat.reduceAdd,Nat.reduceLT,Wh,Vq,if_false];exact rest

end
section
variable {bx N:Int}{b0 p a:Nat}{b:zAa}{st:LSt}{H:Aa}{f0 f1 g0 g1 v:Ab}
theorem VkF (hb:b.length<=1000000)(hbx:bx<=1000)(H0:Aa):∀(m a:Nat) (st:LSt) (H:Aa),a<=b.length->b.length-a<m->∀n,m<=n->∀q,q+(b.length-a)<=1000000->LOk q st->RLe bx N b0 p b a st H ->
  MB bx N b0 p b H (Am (λrec1 vs H=>UbV H0 rec1 (ag vs 0) H) n [.ptr p 0 0] H) (.tup []) (II b bx m a st):=by
 intro m
 induction m with
 |zero=>intro a st H _ h;omega
 |succ m ih=>
  intro a st H ha hm n hn q hq hok hh;obtain⟨n,rfl⟩:∃k,n=k+1:=⟨n-1,by omega⟩;rw[C0];generalize hg:Am (λrec1 vs H=>UbV H0 rec1 (ag vs 0) H) n=rec;have h:=hh;obtain⟨f0,f1,g0,g1,v,h⟩:=h;unfold UbV II;simp only[GMw,HPw,Nat.reduceAdd,Nat.reduceLT,Ag,Ae,Iu h.lx];by_cases he:a=b.length
  ·simp only[he,zXc,GMw,HPw,Nat.reduceAdd,Nat.reduceLT,if_true];rw[he]at h hh;simp only[It h.lx,GMw,HPw,Nat.reduceAdd,Nat.reduceLT];exact⟨H,rfl,Ext.refl _ _ _,hh⟩
  ·have hlt:a<b.length:=by omega
   simp only[he,GMw,HPw,Nat.reduceAdd,Nat.reduceLT,if_false,Ag,Ae,CM h.lx ha];cases h32:AV b a [32]with
   |true=>have aR:Ai 1 (.ptr p 0 1) (.i6 ((a+1:Nat):Int)) H=some (BO H p b (rdL bx N st f0 f1 g0 g1 v) (a+1)):=MQ h.lx _;obtain⟨h2,e2⟩:=h.go0 (a+1);simp only[GMw,HPw,Nat.reduceAdd,Nat.reduceLT,if_true,Ag,Ae,Fh h.lx,Av (show a<9223372036854775807 by omega),aR,AJ];obtain⟨H2,s1,s2,s3⟩:=ih (a+1) st _ (by omega) (by omega) n (by omega) q (by omega) hok ⟨_,_,_,_,_,h2⟩;rw[hg]at s1;exact⟨H2,s1,e2.trans s2,s3⟩
   |false=>
    simp only[GMw,HPw,Nat.reduceAdd,Nat.reduceLT,Vq,if_false,Ag,Ae,CM h.lx ha];cases cE:AV b a [13,10]with
    |true=>
     have hx:=VfB h.lx ha (by omega) [33] (by decide);have hle:=Vbp ha [33];have aR:=VcP cE [33];simp only[GMw,HPw,Nat.reduceAdd,Nat.reduceLT,if_true,Ag,Ae,hx];generalize Ks b a [33]=M at hle aR;obtain⟨er,c⟩:=M;dsimp only at hle aR ⊢;obtain⟨h2,e2⟩:=h.go0 c;cases er with
     |some e=>simp only[B8,GMw,HPw,Nat.reduceAdd,Nat.reduceLT];exact⟨_,rfl,e2,_,_,_,_,_,h2⟩
     |none=>have:=aR rfl;simp only[By,GMw,HPw,Nat.reduceAdd,Nat.reduceLT];obtain⟨H2,s1,s2,s3⟩:=ih c st _ hle.2 (by omega) n (by omega) q (by omega) hok ⟨_,_,_,_,_,h2⟩;rw[hg]at s1;exact⟨H2,s1,e2.trans s2,s3⟩
    |false=>
     obtain⟨H1,r1,r2,r3⟩:=VhA (by omega) ha (m:=q) (by omega) hok hbx hh;have ht:=Veq hbx ha st;simp only[GMw,HPw,Nat.reduceAdd,Nat.reduceLT,Vq,if_false,r1];generalize NZ b bx a st=M at r1 r2 r3 ht;obtain⟨⟨⟨er,c⟩,st'⟩,d⟩:=M;obtain⟨t1,t2,t3,t4,t5,t6⟩:=ht;dsimp only at r2 r3 t1 t2 t3 t4 t5 t6 ⊢;cases d with
     |true=>have:=t6 rfl;subst this;simp only[By,GMw,HPw,Nat.reduceAdd,Nat.reduceLT];exact⟨H1,rfl,r2,r3⟩
     |false=>
      cases er with
      |some e=>simp only[B8,GMw,HPw,Nat.reduceAdd,Nat.reduceLT];exact⟨H1,rfl,r2,r3⟩
      |none=>have:=t3 rfl rfl;simp only[By,GMw,HPw,Nat.reduceAdd,Nat.reduceLT];obtain⟨H2,s1,s2,s3⟩:=ih c st' H1 t1 (by omega) n (by omega) (q+1) (by omega) (t5 q (by omega) hok) r3;rw[hg]at s1;exact⟨H2,s1,r2.trans s2,s3⟩
theorem Vnu (h:RLe bx N b0 p b 0 st H)(hb:b.length<=1000000)(hbx:bx<=1000)(hok:LOk 0 st):MB bx N b0 p b H (Uav (.ptr p 0 0) H) (.tup []) (NR b bx st):=by
 obtain⟨H1,r1,r2,r3⟩:=VkG (by omega) (VL b.length) h;have ho:=Vga (VL b.length) st;unfold Uav NR;rw[r1];generalize SF b 0 st=M at r1 r2 r3 ho;obtain⟨⟨er,c⟩,st'⟩:=M;obtain⟨k1,k2,k3,k4⟩:=ho;dsimp only at r2 r3 k1 k2 ⊢;cases er with
 |some e=>simp only[B8,GMw,HPw,Nat.reduceAdd,Nat.reduceLT];exact⟨H1,rfl,r2,r3⟩
 |none=>simp only[By,GMw,HPw,Nat.reduceAdd,Nat.reduceLT];obtain⟨H4,s1,s2,s3⟩:=VkF (bx:=bx) (N:=N) (b0:=b0) (p:=p) hb hbx H (b.length+1) c st' H1 k1 (by omega) AP (by rw[DB];omega) 0 (by omega) (k4 0 hok) r3;exact⟨H4,s1,r2.trans s2,s3⟩
def PG (er:Er):Ab:=match er with
 |none=>.agg [.i6 0,.str []]
 |some e=>.agg [.i6 e.1,.str e.2]
theorem Ux (h:RLe bx N b0 p b 0 st H)(hb:b.length<=1000000)(hbx:bx<=1000)(hok:LOk 0 st):∃H',UaP (.bfn 69 [.ptr p 0 0]) H=some (.ret (PG (NR b bx st).1.1),H')/\Ext b0 p H H'/\RLe bx N b0 p b (NR b bx st).1.2 (NR b bx st).2 H':=by
 obtain⟨H1,r1,r2,r3⟩:=Vnu h hb hbx hok;refine⟨H1,?_,r2,r3⟩;have ho:ent 69 (ap1 Uav) noO 69 [.ptr p 0 0] H=Uav (.ptr p 0 0) H:=by unfold ent;rw[if_pos rfl];rfl
 unfold UaP OR;simp only[ho,r1,GMw];cases (NR b bx st).1.1 with
 |none=>rfl
 |some e=>rfl

end
def rcC (c:Cl):RC:=⟨decide (c.x<0),A4 c.x.natAbs,decide (c.y<0),A4 c.y.natAbs,c.s⟩
theorem Tp (z:Int):Et (decide (z<0)) (A4 z.natAbs)=true:=by
 unfold Et;rw[RZ,zXn];by_cases h:z<0
 ·have:A4 z.natAbs≠[]:=Oz (by omega);rw[zXc h];cases hl:A4 z.natAbs with
  |nil=>exact absurd hl this
  |cons _ _=>rfl
 ·rw[zXd h];rfl
theorem VeR (c:Cl):(rcC c).right=true:=by unfold RC.right rcC;rw[Tp,Tp];rfl
theorem VjF (c:Cl):(rcC c).cl=c:=by unfold RC.cl rcC;rw[KP,KP]
theorem VhG {c:Cl}(h:c.ok):(rcC c).fits:=⟨Bn _,Bn _,h.1.lb (by decide),h.2.lb (by decide)⟩
theorem VlT (L:List Cl):enL cRC (L.map rcC)=enL cCl L:=by
 unfold enL;rw[Yk]
 rfl
theorem Vl0 (L:List Cl):(L.map rcC).map RC.cl=L:=by
 rw[Yk]
 conv=>rhs;rw[<-List.map_id L]
 exact Xr λc _=>VjF c
theorem Vm1 (L:List Cl):(L.map rcC).all RC.right=true:=by rw[V7];intro r hr;obtain⟨c,_,rfl⟩:=WM.1 hr;exact VeR c
theorem Vip (L:List Cl)(tk:Tok)(H:Aa)(hl:L.length<700000000)(hok:∀c∈L,c.ok):Ubi (.sl (enL cCl L) tk) H=some (.ret (.tup [Gn (HA L).1,.i6 (HA L).2]),H):=by have h:=Vfz (L.map rcC) tk H (by rw[W7];exact hl) (λr hr=>by obtain⟨c,hc,rfl⟩:=WM.1 hr;exact VhG (hok c hc)) (λr hr _=>by obtain⟨c,hc,rfl⟩:=WM.1 hr;rw[VjF];exact hok c hc);rw[Vm1,VlT,Vl0,if_pos rfl]at h;exact h
def L9 (r:(zAa×List Nd)×Int×Int):Ab:=.tup [pat r.1.1 r.1.2,.i6 r.2.1,.i6 r.2.2]
theorem JX (rule:zAa)(L:List Nd):pat rule L=.agg [.str rule,.sl (enL cNd L) .no]:=rfl
theorem VhI (L:List Nd):Gn L=.agg [.sl (enL cNd L) .no]:=rfl
theorem Vlj (bx N:Int)(H:Aa):Ub6 (.agg [.i6 bx,.i6 N]) H=some (.ret (.bool (J9 bx N)),H):=by
 unfold Ub6 Ub5 J9;by_cases h1:bx>=0
 ·by_cases h2:bx<=1000
  ·by_cases h3:N>=0
   ·simp only[GMw,HPw,Nat.reduceAdd,Nat.reduceLT,h1,h2,h3]
   ·simp only[GMw,HPw,Nat.reduceAdd,Nat.reduceLT,h1,h2,h3]
  ·simp only[GMw,HPw,Nat.reduceAdd,Nat.reduceLT,h1,h2]
 ·simp only[GMw,HPw,Nat.reduceAdd,Nat.reduceLT,h1]
theorem VlR {bx N:Int}(h:J9 bx N=true):bx<=1000:=by unfold J9 at h;simp only[Vx,zXe]at h;omega
theorem FN (b:zAa)(bx N:Int)(H:Aa)(hb:b.length<=500000):UeE (.str b) (.agg [.i6 bx,.i6 N]) H=some (.ret (L9 (HJ b bx N)),H):=by
 have b1:AD (some [(.str []),(.sl [] .ti)]) []=some (.agg [.str [],.sl [] .ti]):=rfl;have b2:∀s,AD (some [(.str []),(.i6 0)]) [(0,1,.str s)]=some (.agg [.str s,.i6 0]):=λ_=>rfl;have b3:∀s,AD (some [(.str []),(.i6 0),(.i6 0),(.i6 0),(.str []),(.bool false),(.sl [] .ti),(.bool false),(.sl [] .ti),(.i6 0),(.i6 0),(.sl [] .ti)]) [(0,2,.agg [.str s,.i6 0]),(2,2,.agg [.i6 bx,.i6 N])]=some (.agg [.str s,.i6 0,.i6 bx,.i6 N,.str [],.bool false,.sl [] .ti,.bool false,.sl [] .ti,.i6 0,.i6 0,.sl [] .ti]):=λ_=>rfl;unfold UeE HJ;simp only[GMw,HPw,Nat.reduceAdd,Nat.reduceLT,Vlj];cases hf:J9 bx N with
 |false=>
  simp only[GMw,HPw,Nat.reduceAdd,Nat.reduceLT,b1,Vq,if_false,L9,JX]
  rfl
 |true=>
  simp only[GMw,HPw,Nat.reduceAdd,Nat.reduceLT,b2,b3,if_true];have hbx:bx<=1000:=VlR hf;obtain⟨F,hF⟩:∃F:Aa,F=H++[.cel 0 [.i6 bx,.i6 N],.cel 0 [.str [],.sl [] .ti],.cel 0 [.str b,.i6 0,.i6 bx,.i6 N,.str [],.bool false,.sl [] .ti,.bool false,.sl [] .ti,.i6 0,.i6 0,.sl [] .ti]]:=⟨_,rfl⟩;have hR:RLe bx N H.length (H.length+2) b 0 Oy F:=⟨.bool false,.sl [] .ti,.bool false,.sl [] .ti,.sl [] .ti,by omega,by unfold Lx;rw[hF];simp[rdL,Oy],.inl ⟨rfl,rfl⟩,.inr ⟨rfl,rfl,rfl⟩,.inr ⟨rfl,rfl,rfl⟩⟩;obtain⟨H1,c1,c2,c3⟩:=Ux hR (by omega) hbx VaY;rw[hF]at c1;have hlim:H1[H.length]? = some (.cel 0 [.i6 bx,.i6 N]):=c2.cel _ _ (by omega) (by rw[hF];simp);have hres:H1[H.length+1]? = some (.cel 0 [.str [],.sl [] .ti]):=c2.cel _ _ (by omega) (by rw[hF];simp);have hold:∀i,i<H.length->H1[i]? = H[i]? := λi hi=>by rw[c2.old i hi,hF,Vp hi]
  simp only[c1,GMw];have cM:=Vm3 (b:=b) hbx (by omega) VaY;have hpos:=cM.2.1;have cM:=cM.2.2;generalize NR b bx Oy=A at c3 hpos cM;obtain⟨⟨er,c⟩,st⟩:=A;dsimp only at c3 ⊢;obtain⟨f0,f1,g0,g1,v,c3⟩:=c3;have cA:=(Vn.1 hres).1;cases er with
  |some e=>
   have pR:=hpos e rfl;have iW:=AK (G:=[Blk.cel 0 [.i6 e.1,.str e.2]]) hres;have hst:=Pm (sz:=2) (ws:=[.str [],.sl [] .ti]) iW rfl rfl rfl;have aI:(H1++[Blk.cel 0 [.i6 e.1,.str e.2]]).set (H.length+1) (.cel 0 [.str [],.sl [] .ti])=H1++[Blk.cel 0 [.i6 e.1,.str e.2]]:=by
    apply WP;intro i;by_cases hi:H.length+1=i
    ·subst hi;rw[V0 (by simp;omega),iW]
    ·rw[Vt hi]
   rw[aI]at hst;have hld:=PA (sz:=2) iW rfl;have dE:=Cu (o:=1) (sz:=1) (AK (G:=[Blk.cel 0 [.i6 e.1,.str e.2]]) c3.lx);have htk:(H1++[Blk.cel 0 [.i6 e.1,.str e.2]]).take H.length=H:=CG λi hi=>by rw[Vp (by omega)];exact hold i hi
   by_cases he:e.1=0
   ·exact absurd he (by omega)
   ·have hne:(!decide (e.1=0))=true:=by simp[he]
    simp only[PG,GMw,HPw,Nat.reduceAdd,Nat.reduceLT,hne,b1,hst,dE,Fj,J7,hld,GQ htk,L9,JX]
    rfl
  |none=>
   have mL:st.cells.length<=1000*(b.length+1):=cM.k;have eZ:∀c∈st.cells,c.ok:=cM.ok;obtain⟨tk,hv⟩:=c3.row.sl;have oG:=λK=>Vip st.cells tk K (by omega) eZ;have qQ:=Cu (o:=11) (sz:=1) (AK (G:=[Blk.cel 0 [.i6 0,.str []]]) c3.lx);have kX:=λG=>Cu (o:=4) (sz:=1) (AK (G:=G) (AK (G:=[Blk.cel 0 [.i6 0,.str []]]) c3.lx));obtain⟨K,hK⟩:∃K,K=H1++[Blk.cel 0 [.i6 0,.str []]]:=⟨_,rfl⟩;have hKr:K[H.length+1]? = some (.cel 0 [.str [],.sl [] .ti]):=by rw[hK];exact AK hres
   have hKm:K[H.length]? = some (.cel 0 [.i6 bx,.i6 N]):=by rw[hK];exact AK hlim
   have hKo:∀i,i<H.length->K[i]? = H[i]? := λi hi=>by rw[hK,Vp (by omega)];exact hold i hi
   have hKl:H.length+1<K.length:=(Vn.1 hKr).1;rw[<-hK]at qQ kX;have bad:∀L:List Nd,((AD (some [(.str []),(.sl [] .ti)]) []).bind λx57=>
 (BU (.str b)).bind λx58=>
 bP H (AE (Ai 2 (.ptr (H.length+1) 0 0) x57 (K++[.cel 0 [.sl (enL cNd L) .no]]))) λ_ H60=>
 (GP [Ad true 2 (.ptr (H.length+1) 0 0) H60,some x58,some (.i6 4)]).bind λx61=>rPN H x61 H60)=some (.ret (L9 (([],[]),(b.length:Int),4)),H):=by
    intro L;have eD:=AK (G:=[Blk.cel 0 [.sl (enL cNd L) .no]]) hKr;have hst:=Pm (sz:=2) (ws:=[.str [],.sl [] .ti]) eD rfl rfl rfl;have hld:=PA (sz:=2) (H:=(K++[Blk.cel 0 [.sl (enL cNd L) .no]]).set (H.length+1) (.cel 0 [.str [],.sl [] .ti])) (p:=H.length+1) (cs:=[.str [],.sl [] .ti]) (by rw[V0 (by simp;omega)]) rfl;have htk:((K++[Blk.cel 0 [.sl (enL cNd L) .no]]).set (H.length+1) (.cel 0 [.str [],.sl [] .ti])).take H.length=H:=CG λi hi=>by rw[Vt (by omega),Vp (by omega)];exact hKo i hi
    simp only[b1,GMw,HPw,Nat.reduceAdd,Nat.reduceLT,hst,hld,GQ htk,L9,JX]
    rfl
   have qP:Ad false 1 (.ptr (H.length+2) 0 11) K=some (.sl (enL cCl st.cells) tk):=by rw[qQ,hv];rfl
   have qR:∀G,Ad false 1 (.ptr (H.length+2) 0 4) (K++G)=some (.str st.law):=λG=>kX G;simp only[PG,GMw,HPw,Nat.reduceAdd,Nat.reduceLT];rw[<-hK];simp only[GMw,HPw,Nat.reduceAdd,Nat.reduceLT,qP,oG];generalize HA st.cells=O;obtain⟨Q,e⟩:=O;dsimp only;have jP:=bad Q;have mA:=Cu (o:=1) (sz:=1) (AK (G:=[Blk.cel 0 [.sl (enL cNd Q) .no]]) hKm);simp only[GMw,HPw,Nat.reduceAdd,Nat.reduceLT,VhI]at jP ⊢;by_cases he:e=0
   ·subst he;by_cases hlen:(Q.length:Int)<=N
    ·have hgt:¬(Q.length:Int)>N:=by omega
     have eD:=AK (G:=[Blk.cel 0 [.sl (enL cNd Q) .no]]) hKr;have hst:=Pm (sz:=2) (ws:=[.str st.law,.sl (enL cNd Q) .no]) eD rfl rfl rfl;have hld:=PA (sz:=2) (H:=(K++[Blk.cel 0 [.sl (enL cNd Q) .no]]).set (H.length+1) (.cel 0 [.str st.law,.sl (enL cNd Q) .no])) (p:=H.length+1) (cs:=[.str st.law,.sl (enL cNd Q) .no]) (by rw[V0 (by simp;omega)]) rfl;have htk:((K++[Blk.cel 0 [.sl (enL cNd Q) .no]]).set (H.length+1) (.cel 0 [.str st.law,.sl (enL cNd Q) .no])).take H.length=H:=CG λi hi=>by rw[Vt (by omega),Vp (by omega)];exact hKo i hi
     have iD:AD (some [(.str []),(.sl [] .ti)]) [(0,1,.str st.law),(1,1,.agg [.sl (enL cNd Q) .no])]=some (.agg [.str st.law,.sl (enL cNd Q) .no]):=rfl;simp only[GMw,HPw,Nat.reduceAdd,Nat.reduceLT,Ax,mA,Fj,J7,hgt,hlen,qR,iD,hst,hld,GQ htk,L9,JX,if_true]
    ·have hgt:(Q.length:Int)>N:=by omega
     simp only[GMw,HPw,Nat.reduceAdd,Nat.reduceLT,Ax,mA,Fj,J7,hgt,hlen,Vq,if_false]at jP ⊢;exact jP
   ·have hne:(!decide (e=0))=true:=by simp[he]
    simp only[GMw,HPw,Nat.reduceAdd,Nat.reduceLT,he,hne,Vq,if_false,Wh]at jP ⊢;exact jP
theorem Sc (b:zAa)(H:Aa)(hb:b.length<=500000):UeJ (.str b) H=some (.ret (.tup [.str (UN b).1,.bool (UN b).2]),H):=by
 have b2:∀s,AD (some [(.str []),(.i6 0)]) [(0,1,.str s)]=some (.agg [.str s,.i6 0]):=λ_=>rfl;have b3:∀s,AD (some [(.str []),(.i6 0),(.i6 0),(.i6 0),(.str []),(.bool false),(.sl [] .ti),(.bool false),(.sl [] .ti),(.i6 0),(.i6 0),(.sl [] .ti)]) [(0,2,.agg [.str s,.i6 0]),(2,2,.agg [.i6 1000,.i6 100000])]=some (.agg [.str s,.i6 0,.i6 1000,.i6 100000,.str [],.bool false,.sl [] .ti,.bool false,.sl [] .ti,.i6 0,.i6 0,.sl [] .ti]):=λ_=>rfl;have b4:AD (some [(.i6 0),(.i6 0)]) [(0,1,(.i6 1000)),(1,1,(.i6 100000))]=some (.agg [.i6 1000,.i6 100000]):=rfl;unfold UeJ UN;simp only[GMw,HPw,Nat.reduceAdd,Nat.reduceLT,b2,b3,b4];obtain⟨F,hF⟩:∃F:Aa,F=H++[.cel 0 [.str b,.i6 0,.i6 1000,.i6 100000,.str [],.bool false,.sl [] .ti,.bool false,.sl [] .ti,.i6 0,.i6 0,.sl [] .ti]]:=⟨_,rfl⟩;have hR:RLe 1000 100000 H.length H.length b 0 Oy F:=⟨.bool false,.sl [] .ti,.bool false,.sl [] .ti,.sl [] .ti,Vo _,by unfold Lx;rw[hF];simp[rdL,Oy],.inl ⟨rfl,rfl⟩,.inr ⟨rfl,rfl,rfl⟩,.inr ⟨rfl,rfl,rfl⟩⟩;obtain⟨H1,c1,c2,c3⟩:=Ux hR (by omega) (by decide) VaY;rw[hF]at c1;have hlen:H.length<=H1.length:=by have:=c2.len;rw[hF]at this;simp at this;omega
 have hold:∀i,i<H.length->H1[i]? = H[i]? := λi hi=>by rw[c2.old i hi,hF,Vp hi]
 have htk:∀G,(H1++G).take H.length=H:=λG=>CG λi hi=>by rw[Vp (by omega)];exact hold i hi
 simp only[c1,GMw];cases (NR b 1000 Oy).1.1 with
 |none=>simp only[PG,GMw,HPw,Nat.reduceAdd,Nat.reduceLT];exact FY rfl (htk _)
 |some e=>
  by_cases h0:e.1=0
  ·simp only[PG,GMw,HPw,Nat.reduceAdd,Nat.reduceLT,h0];exact FY rfl (htk _)
  ·simp only[PG,GMw,HPw,Nat.reduceAdd,Nat.reduceLT,h0];exact FY rfl (htk _)
theorem C1 {b t:zAa}{a:Nat}{c:UInt8}(h:b.drop a=c::t):a<b.length/\b[a]? = some c/\b.drop (a+1)=t:=by
 have hl:a<b.length:=by
  rcases VT a b.length with h' | h'
  ·exact h'
  ·rw[WD h']at h;cases h
 rw[VJ hl]at h;injection h with h1 h2;exact⟨hl,by rw[Vl hl,h1],h2⟩
theorem AQ {b t:zAa}{a:Nat}{c:UInt8}(h:b.drop a=c::t)(s:zAa):AV b a s=s.contains c:=by unfold AV;rw[(C1 h).2.1]
theorem DD {b s t:zAa}{a:Nat}(h:b.drop a=s++t):b.drop (a+s.length)=t:=by rw[<-Wp,h,X2]
theorem Vg2 {b t:zAa}{a:Nat}(h:b.drop a=10::t)(rest:zAa):Ks b a rest=(none,a+1):=by
 have hne:a≠b.length:=by have:=(C1 h).1;omega
 have h13:AV b a [13]=false:=by rw[AQ h];decide
 have h10:AV b a [10]=true:=by rw[AQ h];decide
 unfold Ks Vja crN;simp only[h13,h10,if_neg hne,Vq,if_false,if_true]
theorem VcO {b t:zAa}{a:Nat}(h:b.drop a=13::10::t)(rest:zAa):Ks b a rest=(none,a+2):=by
 have hne:a≠b.length:=by have:=(C1 h).1;omega
 have h13:AV b a [13]=true:=by rw[AQ h];decide
 have h10:AV b (a+1) [10]=true:=by rw[AQ (C1 h).2.2];decide
 unfold Ks Vja crN;simp only[h13,h10,if_neg hne,if_true]
theorem Vlo {b ds t:zAa}{f:Nat}{c:UInt8}(rest:zAa)(h:b.drop f=ds++c::t)(hd:∀x∈ds,Db.contains x=true)(hc:Db.contains c=false)(h4:ds.length<=400)(h0:0<ds.length)(h1:ds[0]? = some 48->ds.length=1) :
  ∀(n i:Nat),i<=ds.length->ds.length-i<n->LJ b f rest n (f+i)=(none,f+ds.length):=by
 intro n
 induction n with
 |zero=>intro i _ h;omega
 |succ n ih=>
  intro i hi hn;have hb:b.drop (f+i)=ds.drop i++c::t:=by rw[<-Wp,h,WO hi]
  conv=>lhs;unfold LJ
  by_cases he:i=ds.length
  ·subst he;rw[Yr,List.nil_append]at hb;rw[AQ hb,hc,if_neg (by decide),if_neg (by omega)]
  ·have hlt:i<ds.length:=by omega
   rw[VJ hlt]at hb;rw[AQ hb,hd _ (Vz hlt),if_pos rfl,if_neg (λhh=>by
    have hf:b[f]? = ds[0]? := by have:=congrArg (·[0]?) h;simp only[VP,Nat.add_zero]at this;rw[this,Vp h0]
    have:=h1 (hf ▸ hh.2);omega),if_neg (by omega),VN]
   exact ih (i+1) (by omega) (by omega)
theorem Qh (n:Nat):∀x∈Di n,Db.contains x=true:=λx hx=>by have:=(GT x).1 (Vjj n x hx);unfold Db;rw[Vjh,zXe];omega
theorem Mh {n:Nat}(h:(Di n)[0]? = some 48):(Di n).length=1:=by
 by_cases h0:n=0
 ·subst h0;rw[IA (by omega)];rfl
 ·obtain⟨c,r,e,hc⟩:=Vb n h0;rw[e]at h;simp at h;exact absurd h hc
theorem VgG:∀(s t:zAa),cpN (s++t) s=s.length
 |[],[]=>rfl
 |[],_::_=>rfl
 |c::s,t=>by show (if c=c then cpN (s++t) s+1 else 0)=_;rw[if_pos rfl,VgG s t];rfl
theorem Sx {b s t:zAa}{a:Nat}(h:b.drop a=s++t)(rest:zAa):DZ b a s rest=(none,a+s.length):=by unfold DZ VmJ;rw[h,VgG,if_neg (by omega)]
theorem Vod {b s t:zAa}{a:Nat}(h:b.drop a=s++t):(b.take (a+s.length)).drop a=s:=by rw[List.drop_take,h,Nat.add_sub_cancel_left,X0]
def ViZ (cr:Bool):zAa:=if cr then [13,10]else [10]
def In (two:Bool):zAa->List (zAa)
 |[]=>[]
 |b::l=>EL (((l.takeWhile (· == b)).length+1:Nat):Int) (Fz b.toNat two)::In two (l.dropWhile (· == b))
termination_by l=>l.length
decreasing_by
 simp only[zXj];exact Nat.lt_succ_of_le (XU _).length_le
theorem FW (two:Bool):In two []=[]:=by rw[In]
theorem Im (two:Bool)(b:UInt8)(l:zAa):In two (b::l)=EL (((l.takeWhile (· == b)).length+1:Nat):Int) (Fz b.toNat two)::In two (l.drop (l.takeWhile (· == b)).length):=by rw[In,Vg6]
def Ed (two:Bool)(st:List (zAa)×Int)(y:Nat)(row:zAa):List (zAa)×Int:=
 if Dw row=0 then st else (st.1++(if 0<=st.2 then [EL ((y:Int)-st.2) [36]]else [])++In two (row.take (Dw row)),(y:Int))
def CO (two:Bool)(rows:List (zAa)):Nat->List (zAa)×Int
 |0=>([],-1)
 |i+1=>Ed two (CO two rows i) i (rows.getD i [])
def CL (rows:List (zAa)):List (zAa):=(CO (RA rows) rows rows.length).1++[[33]]
theorem Pp (n:Nat)(two:Bool):(Fz n two).length<=2:=by
 unfold Fz;split
 ·simp
 ·split
  ·simp
  ·split
   ·simp
   ·split <;> simp
theorem Uu (two:Bool):∀(k:Nat) (l:zAa),l.length<=k->(In two l).length<=l.length
 |0,l,h=>by have:l=[]:=List.length_eq_zero_iff.1 (by omega);subst this;rw[FW];exact Vo _
 |k+1,[],_=>by rw[FW];exact Vo _
 |k+1,b::l,h=>by rw[Im];simp only[zXj]at h ⊢;have:=Uu two k (l.drop (l.takeWhile (· == b)).length) (by simp;omega);simp only[V9]at this;omega
theorem MG (two:Bool)(rows:List (zAa))(h:∀r∈rows,r.length<=1000):∀i,i<=rows.length->(CO two rows i).1.length<=i*1001
 |0,_=>by simp[CO]
 |i+1,hi=>by
  have ih:=MG two rows h i (by omega);have hr:rows.getD i []=rows[i]:=by rw[Vm,Vl (show i<rows.length by omega)];rfl
  have h2:=h rows[i] (Vz _);simp only[CO,Ed,hr];split
  ·exact VM ih (VV _ (Nat.le_succ _))
  ·have h3:=Uu two _ (rows[i].take (Dw rows[i])) (Vo _);simp only[Vs,V5]at h3 ⊢;split <;> simp <;> omega
theorem JP (two:Bool)(rows:List (zAa)):∀i,-1<=(CO two rows i).2/\(CO two rows i).2<(i:Int)\/i=0/\(CO two rows i).2 = -1
 |0=>.inr ⟨rfl,rfl⟩
 |i+1=>by
  have ih:=JP two rows i;left;simp only[CO,Ed];split
  ·omega
  ·exact⟨by show (-1:Int)<=(i:Int);omega,by show (i:Int)<((i+1:Nat):Int);omega⟩
theorem Vk1 (H:Aa)(bJ:LK)(p out last two g:Ab)(row:zAa)(n x:Nat)(b:UInt8)(l:zAa)(Hd:Aa)(hn:n<=row.length)(hr:row.length<=1000)(hl:(row.take n).drop x=b::l) :
  ∃iE,Am (λiE vs H1=>UaE H bJ iE (ag vs 0) (ag vs 1) (ag vs 2) (ag vs 3) (ag vs 4) (ag vs 5) (ag vs 6) (ag vs 7) (ag vs 8) H1) AP [p,out,last,two,g,.str row,.i6 (n:Int),.i6 (x:Int),.i6 (x:Int)] Hd
   = UaE H bJ iE p out last two g (.str row) (.i6 (n:Int)) (.i6 (x:Int)) (.i6 ((x+((l.takeWhile (· == b)).length+1):Nat):Int)) Hd:=by
 have dE:∀i,(b::l)[i]? = (row.take n)[x+i]? := λi=>by rw[<-hl,VP]
 have hlen:(b::l).length=n-x:=by rw[<-hl];simp;omega
 have pA:=Vky (b:=b) l;simp only[zXj]at hlen;have hx:x<row.length:=by omega
 have hb:row[x]=b:=by have h0:=dE 0;rw[WL,if_pos (by omega),Nat.add_zero,Vl hx]at h0;simpa using h0.symm
 have loop:=Gq (G:=λiE vs H1=>UaE H bJ iE (ag vs 0) (ag vs 1) (ag vs 2) (ag vs 3) (ag vs 4) (ag vs 5) (ag vs 6) (ag vs 7) (ag vs 8) H1) ((l.takeWhile (· == b)).length+1)
  (λi vs H1=>vs=[p,out,last,two,g,.str row,.i6 (n:Int),.i6 (x:Int),.i6 ((x+i:Nat):Int)]/\H1=Hd) (by omega) (λi vs H1 hi hI=>?_) (vs:=[p,out,last,two,g,.str row,.i6 (n:Int),.i6 (x:Int),.i6 (x:Int)]) (H:=Hd) ⟨rfl,rfl⟩
 ·obtain⟨vs',H',⟨rfl,rfl⟩,rec,h1⟩:=loop;exact⟨rec,h1⟩
 ·obtain⟨rfl,rfl⟩:=hI;refine⟨_,_,⟨rfl,rfl⟩,λrec=>?_⟩;have hk:x+i<row.length:=by omega
  have kY:((x+i:Nat):Int)<(n:Int):=by omega
  have tA:row[x+i]=b:=by
   have h0:=dE i;rw[WL,if_pos (by omega),Vl hk]at h0;have h1:(b::l)[i]? = some b:=by
    cases i with
    |zero=>rfl
    |succ i=>rw[List.getElem?_cons_succ];exact Vnc (by omega)
   rw[h1]at h0;simpa using h0.symm
  have bD:=Av (show x+i<9223372036854775807 by omega);unfold UaE;simp only[GMw,Aj,kY,Ds hk,Ds hx,tA,hb,bD]
  rfl
theorem Vht (H:Aa)(p last g:Ab)(two:Bool)(row:zAa)(n:Nat)(out0:List (zAa))(v0:Ab)(Hd:Aa)(hn:n<=row.length)(hr:row.length<=1000)(ho:out0.length<=2000000)
  (hR:RS cS D5 1 H.length out0 v0 Hd)(hH:H.length<=Hd.length) :
  ∃v' H',RS cS D5 1 H.length (out0++In two (row.take n)) v' H'/\Kp H.length Hd H'/\∀j2:LK,
   Am (λbJ vs H1=>Ub0 H j2 bJ (ag vs 0) (ag vs 1) (ag vs 2) (ag vs 3) (ag vs 4) (ag vs 5) (ag vs 6) (ag vs 7) H1) AP [p,v0,last,.bool two,g,.str row,.i6 (n:Int),.i6 0] Hd
   = j2 [p,v',last,.bool two,g] H':=by
 have bB:(row.take n).length=n:=by simp;omega
 have loop:=LP (ι:=LK) (G:=λj2 bJ vs H1=>Ub0 H j2 bJ (ag vs 0) (ag vs 1) (ag vs 2) (ag vs 3) (ag vs 4) (ag vs 5) (ag vs 6) (ag vs 7) H1) (σ:=Nat)
  (λx vs H1=>∃v out,x<=n/\vs=[p,v,last,.bool two,g,.str row,.i6 (n:Int),.i6 (x:Int)]/\RS cS D5 1 H.length out v H1/\Kp H.length Hd H1/\out++In two ((row.take n).drop x)=out0++In two (row.take n)/\out.length<=out0.length+x)
  (λx=>n-x) (λx=>x=n) (λx vs H1 hI hd=>?_) (s:=0) (vs:=[p,v0,last,.bool two,g,.str row,.i6 (n:Int),.i6 0]) (H:=Hd) ⟨v0,out0,VL _,rfl,hR,Kp.refl _ _,rfl,Vo _⟩ (by omega)
 ·obtain⟨x,vs',H',rfl,⟨v,out,_,rfl,h1,h2,h3,_⟩,h4⟩:=loop;refine⟨v,H',?_,h2,λj2=>?_⟩
  ·rw[<-h3,Xk (by omega),FW,VF];exact h1
  ·obtain⟨rec,h4⟩:=h4 j2;rw[h4];unfold Ub0;simp only[GMw,Aj,Wb]
 ·obtain⟨v,out,hx,rfl,h1,h2,h3,h5⟩:=hI;have yM:(x:Int)<(n:Int):=by omega
  obtain⟨b,l,hbl⟩:∃b l,(row.take n).drop x=b::l:=by
   cases hq:(row.take n).drop x with
   |nil=>have:=congrArg List.length hq;simp at this;omega
   |cons b l=>exact⟨b,l,rfl⟩
  have hlen:(b::l).length=n-x:=by rw[<-hbl];simp;omega
  have pA:=Vky (b:=b) l;simp only[zXj]at hlen;have sA:x<row.length:=by omega
  have dE:∀i,(b::l)[i]? = (row.take n)[x+i]? := λi=>by rw[<-hbl,VP]
  have hb:row[x]=b:=by have h0:=dE 0;rw[WL,if_pos (by omega),Nat.add_zero,Vl sA]at h0;simpa using h0.symm
  obtain⟨k,hk⟩:∃k,k=(l.takeWhile (· == b)).length+1:=⟨_,rfl⟩;obtain⟨tk,rfl⟩:=h1.sl;have Zj:=Pp b.toNat two;have pE:=λH=>VhS b.toNat two H b.toNat_lt;have iH:=λH=>Uz (k:Int) (Fz b.toNat two) H (by omega) (by omega) (by omega);obtain⟨v2,H2,a1,a2,a3⟩:=h1.snoc (bytes:=16) (by have:=h2.len;omega) (EL (k:Int) (Fz b.toNat two)) .ti (by omega) (by omega);refine⟨x+k,[p,v2,last,.bool two,g,.str row,.i6 (n:Int),.i6 ((x+k:Nat):Int)],H2,by omega,⟨v2,out++[EL (k:Int) (Fz b.toNat two)],by omega,rfl,a2,h2.trans a3,?_,?_⟩,λj2 bJ=>?_⟩
  ·rw[<-h3,hbl,Im,<-hk,Vu,List.singleton_append]
   congr 2
   rw[<-Wp,hbl,hk,Xs]
  ·simp;omega
  ·obtain⟨iE,h6⟩:=Vk1 H bJ p (.sl (enL cS out) tk) last (.bool two) g row n x b l H1 hn hr hbl;unfold Ub0;simp only[Al,Aj,AZ,Bd,Bx,BI,D4,Bh,BB,yM,decide_true,AU];refine h6.trans ?_;rw[<-hk];have hw:IntKind.i64.wrap (((x+k:Nat):Int)-(x:Int))=(k:Int):=by rw[An] <;> omega
   have exit:(Af .none .sub (.i6 ((x+k:Nat):Int)) (.i6 (x:Int))).bind (λx68=>(Cj (.str row) (.i6 (x:Int))).bind λx69=>bP H (Ubz x69 (.bool two) H1) λx70 H71=>bP H (UaD x68 x70 H71) λx72 H73=>(AN 1 [x72]).bind λx74=>bP H (Cy (Bf D5 1 16 (.sl (enL cS out) tk) x74 H73)) λx75 H76=>bJ [p,x75,last,.bool two,g,.str row,.i6 (n:Int),.i6 ((x+k:Nat):Int)] H76)
     = bJ [p,v2,last,.bool two,g,.str row,.i6 (n:Int),.i6 ((x+k:Nat):Int)] H2:=by
    simp only[GMw,hw,Ds sA,hb,pE,iH,R1,a1]
   unfold UaE;by_cases he:x+k<n
   ·have xM:x+k<row.length:=by omega
    have cQ:((x+k:Nat):Int)<(n:Int):=by omega
    have hne:¬((row[x+k].toNat:Int)=(b.toNat:Int)):=by intro h0;have h7:row[x+k]=b:=WF.1 (by omega);have h8:=dE k;rw[WL,if_pos he,Vl xM,h7,hk,List.getElem?_cons_succ]at h8;exact Vj8 l h8
    simp only[Bh,BB,cQ,decide_true,GF,Ds xM,Ds sA,hb,Dv,Fm,hne,decide_false,BZ,AI];simp only[Ds sA,BB,hb]at exit;exact exit
   ·have cQ:¬((x+k:Nat):Int)<(n:Int):=by omega
    simp only[Bh,BB,cQ,decide_false,N0,Vkd,Ca,AI];exact exit
theorem Sd (X Y:Int)(rows:List (zAa))(tk:Tok)(H:Aa)(hn:rows.length<=1000)(h:∀r∈rows,r.length<=1000) :
  UeA (.agg (BX X Y (.sl (enL cS rows) tk))) H=some (.ret (.sl (enL cS (CL rows)) .no),H):=by
 unfold UeA;have hbx:B3 true 5 (.agg (BX X Y (.sl (enL cS rows) tk))) H=some (.ptr H.length 0 0,H++[.cel 0 (BX X Y (.sl (enL cS rows) tk))]):=BH (I0 _ _ _ _) rfl;have hg:(H++[Blk.cel 0 (BX X Y (.sl (enL cS rows) tk))])[H.length]? = some (.cel 0 (BX X Y (.sl (enL cS rows) tk))):=Ap;generalize hHc:H++[Blk.cel 0 (BX X Y (.sl (enL cS rows) tk))]=Hc at hbx hg;have nM:H.length<=Hc.length:=by rw[<-hHc];simp
 have mQ:Ad true 5 (.ptr H.length 0 0) Hc=some (.agg (BX X Y (.sl (enL cS rows) tk))):=by simp only[Ad,As hg,zXa];rfl
 have tL:=VkQ X Y rows tk Hc (by omega) (λr hr=>by have:=h r hr;omega);simp only[hbx,Bj,mQ,BB,tL,CD];obtain⟨two,pA⟩:∃two,two=RA rows:=⟨_,rfl⟩;rw[<-pA];have loop:=Gq (G:=λrec1 vs H1=>UaF H rec1 (ag vs 0) (ag vs 1) (ag vs 2) (ag vs 3) (ag vs 4) H1) rows.length
  (λy vs Hd=>∃v,vs=[.ptr H.length 0 0,v,.i6 (CO two rows y).2,.bool two,.i6 (y:Int)]/\RS cS D5 1 H.length (CO two rows y).1 v Hd/\Kp H.length Hc Hd)
  (by omega) (λy vs Hd hy hI=>?_) (vs:=[.ptr H.length 0 0,.sl [] .ti,.i6 (-1),.bool two,.i6 0]) (H:=Hc) ⟨_,rfl,.inl ⟨rfl,rfl⟩,Kp.refl _ _⟩
 ·obtain⟨vs',Hd,⟨v,rfl,gR,gk⟩,rec,aB⟩:=loop;rw[aB];have hld:Ad false 1 (.ptr H.length 0 4) Hd=some (.sl (enL cS rows) tk):=by simp only[Ad,As (gk.get hg),zXa];rfl
  have hlen:=MG two rows h rows.length (Vo _);obtain⟨v2,H2,a1,a2,a3⟩:=gR.snoc (bytes:=16) (by have:=gk.len;omega) ([33]:zAa) .ti (by omega) (by omega);obtain⟨tk2,rfl⟩:=a2.sl;have hold:H2.take H.length=H:=CG λi hi=>by rw[a3.old i hi,gk.old i hi,<-hHc,Vp hi]
  have vZ:=R1 [33];unfold UaF;simp only[GMw,Aj,Ae,Vr,hld,Ax,Wb,vZ,a1,GQ hold,HU,zXb,CL,pA]
 ·obtain⟨v,rfl,gR,gk⟩:=hI;have jS:(y:Int)<(rows.length:Int):=by omega
  have bD:=Av (show y<9223372036854775807 by omega);have hld:Ad false 1 (.ptr H.length 0 4) Hd=some (.sl (enL cS rows) tk):=by simp only[Ad,As (gk.get hg),zXa];rfl
  have hrow:rows.getD y []=rows[y]:=by rw[Vm,Vl hy];rfl
  have kJ:=h rows[y] (Vz hy);have gX:=λH=>VhR rows[y] H (by omega);have eH:=R9 rows[y];have hlen:=MG two rows h y (by omega);have hlast:=JP two rows y;have hstep:CO two rows (y+1)=Ed two (CO two rows y) y rows[y]:=by rw[CO,hrow]
  rw[hstep];generalize CO two rows y=st at *;obtain⟨out,last⟩:=st;dsimp only at *;have hHd:H.length<=Hd.length:=by have:=gk.len;omega
  have mD:∀(rec1:LK) (v:Ab) (l:Int) (H1:Aa),Udh H rec1 (.ptr H.length 0 0) v (.i6 l) (.bool two) (.i6 (y:Int)) H1=rec1 [.ptr H.length 0 0,v,.i6 l,.bool two,.i6 ((y+1:Nat):Int)] H1:=by intro rec1 v l H1;unfold Udh;simp only[GMw,bD]
  by_cases hu:Dw rows[y]=0
  ·refine⟨_,Hd,⟨v,rfl,?_,gk⟩,λrec=>?_⟩
   ·unfold Ed;rw[if_pos hu];exact gR
   ·unfold UaF Ed;rw[if_pos hu];simp only[GMw,Aj,Ae,Vr,hld,Ax,jS,Az hy,A0,zXh,gX,hu,Int.natCast_zero,mD]
  ·have iS:¬((Dw rows[y]:Nat):Int)=0:=by omega
   have lP:∀(o:List (zAa)) (v1:Ab) (H1:Aa),o.length<=y*1001+1->RS cS D5 1 H.length o v1 H1->Kp H.length Hd H1 ->
     ∃v2 H2,RS cS D5 1 H.length (o++In two (rows[y].take (Dw rows[y]))) v2 H2/\Kp H.length Hc H2/\∀rec1:LK,
      UdR H (λvs H1=>Udh H rec1 (ag vs 0) (ag vs 1) (ag vs 2) (ag vs 3) (ag vs 4) H1) (.ptr H.length 0 0) v1 (.bool two) (.i6 (y:Int)) (.str rows[y]) (.i6 (Dw rows[y]:Int)) H1
       = rec1 [.ptr H.length 0 0,v2,.i6 (y:Int),.bool two,.i6 ((y+1:Nat):Int)] H2:=by
    intro o v1 H1 ho hR1 hK1;obtain⟨v2,H2,b1,b2,b3⟩:=Vht H (.ptr H.length 0 0) (.i6 (y:Int)) (.i6 (y:Int)) two rows[y] (Dw rows[y]) o v1 H1 eH kJ (by omega) hR1 (by have:=hK1.len;omega);refine⟨v2,H2,b1,gk.trans (hK1.trans b2),λrec1=>?_⟩;unfold UdR;rw[b3];simp only[Al,Aj,AZ,Bd,Bx,BI];exact mD _ _ _ _
   by_cases hl:0<=last
   ·have iH:=λH=>Uz ((y:Int)-last) [36] H (by omega) (by omega) (by decide);have yS:IntKind.i64.wrap ((y:Int)-last)=(y:Int)-last:=by rw[An] <;> omega
    obtain⟨tk0,rfl⟩:=gR.sl;obtain⟨v1,H1,a1,a2,a3⟩:=gR.snoc (bytes:=16) hHd (EL ((y:Int)-last) [36]) .ti (by omega) (by omega);obtain⟨v2,H2,b1,b2,b3⟩:=lP _ v1 H1 (by simp;omega) a2 a3;refine⟨[.ptr H.length 0 0,v2,.i6 (y:Int),.bool two,.i6 ((y+1:Nat):Int)],H2,⟨v2,?_,?_,b2⟩,λrec=>?_⟩
    ·unfold Ed;rw[if_neg hu]
    ·unfold Ed;rw[if_neg hu,if_pos hl];exact b1
    ·unfold UaF;simp only[GMw,Aj,Ae,Vr,hld,Ax,jS,Az hy,A0,zXh,gX,iS,hl,ge_iff_le,yS,iH,R1,a1];exact b3 rec
   ·obtain⟨v2,H2,b1,b2,b3⟩:=lP _ v Hd (Nat.le_succ_of_le hlen) gR (Kp.refl _ _);refine⟨[.ptr H.length 0 0,v2,.i6 (y:Int),.bool two,.i6 ((y+1:Nat):Int)],H2,⟨v2,?_,?_,b2⟩,λrec=>?_⟩
    ·unfold Ed;rw[if_neg hu]
    ·unfold Ed;rw[if_neg hu,if_neg hl,VF];exact b1
    ·unfold UaF;simp only[GMw,Aj,Ae,Vr,hld,Ax,jS,Az hy,A0,zXh,gX,iS,hl,ge_iff_le];exact b3 rec
theorem RD {n:Int}{s:zAa}(h0:-1000000000<=n)(h1:n<=1000000000)(hs:s.length<=1000):(EL n s).length<=10000:=by
 have tT:SB 44 n:=by unfold SB;have:(4294967296:Nat)^1<=4294967296^44:=Hp (by omega);omega
 have h:=(Pr tT).2;unfold EL;split
 ·omega
 ·simp;omega
theorem RR (two:Bool):∀(k:Nat) (l:zAa),l.length<=k->k<=1000000->∀t∈In two l,t.length<=10000
 |0,l,h,_,t,ht=>by have:l=[]:=List.length_eq_zero_iff.1 (by omega);subst this;rw[FW]at ht;cases ht
 |k+1,[],_,_,t,ht=>by rw[FW]at ht;cases ht
 |k+1,b::l,h,hk,t,ht=>by
  rw[Im]at ht;simp only[zXj]at h;have pA:=Vky (b:=b) l;rcases Wf.1 ht with rfl | ht
  ·have:=Pp b.toNat two;exact RD (by omega) (by omega) (by omega)
  ·exact RR two k _ (by simp;omega) (by omega) t ht
theorem RB (two:Bool)(rows:List (zAa))(hn:rows.length<=1000)(h:∀r∈rows,r.length<=1000):∀i,i<=rows.length->∀t∈(CO two rows i).1,t.length<=10000
 |0,_,t,ht=>by cases ht
 |i+1,hi,t,ht=>by
  have ih:=RB two rows hn h i (by omega);have hl:=JP two rows i;have hr:rows.getD i []=rows[i]:=by rw[Vm,Vl (show i<rows.length by omega)];rfl
  have h2:=h rows[i] (Vz _);rw[CO,hr]at ht;unfold Ed at ht;split at ht
  ·exact ih t ht
  ·simp only[VA]at ht;rcases ht with (ht | ht) | ht
   ·exact ih t ht
   ·split at ht
    ·rw[VB]at ht;rw[ht];exact RD (by omega) (by omega) (by decide)
    ·cases ht
   ·exact RR two 1000 _ (by simp;omega) (by omega) t ht
theorem Va5 (rows:List (zAa))(hn:rows.length<=1000)(h:∀r∈rows,r.length<=1000):(CL rows).length<=2000000/\∀t∈CL rows,t.length<=10000:=by
 have h1:=MG (RA rows) rows h rows.length (Vo _);unfold CL;refine⟨by simp;omega,λt ht=>?_⟩;rcases VA.1 ht with ht | ht
 ·exact RB _ rows hn h _ (Vo _) t ht
 ·rw[VB]at ht;rw[ht];decide
def VpI (rows:List (zAa)):Nat:=match rows with | []=>0 | r::_=>r.length
def VeM (X Y:Int)(w h:Nat)(rule:zAa):zAa:=
 [35,67,88,82,76,69,32,80,111,115,61]++DE X++[44]++DE Y++[10]++[120,32,61,32]++DE (w:Int)++[44,32,121,32,61,32]++DE (h:Int)++[44,32,114,117,108,101,32,61,32]++rule++[10]
def Vnt (rule:zAa)(L:List Nd):zAa:=VeM (bx L bxX) (bx L bxY) (VpI (GD L)) (GD L).length rule++Veg (CL (GD L))
theorem Vp6 {L:List Nd}(hl:AH L=true):SB 44 (bx L bxX)/\SB 44 (bx L bxY):=by
 unfold bx;by_cases hn:L=[]
 ·rw[if_pos hn,if_pos hn];exact⟨Qw (n:=0) (by omega),Qw (n:=0) (by omega)⟩
 ·rw[if_neg hn,if_neg hn];exact Vkp hl hn
theorem Vcb (rule:zAa)(L:List Nd)(b n:Int)(H:Aa)(hr:rule.length<35184372088832)(hL:L.length<549755813888)(h0:-9223372036854775808<=b)(h1:b<=9223372036854775807) :
  UeI (pat rule L) (.agg (Ix b n)) H=some (.ret (if Jm 4 rule L b n=0 then .tup [.str (Vnt rule L),.i6 0]else .tup [.str [],.i6 (Jm 4 rule L b n)]),H):=by
 unfold UeI;have hbx:∀H,B3 true 2 (.agg (Ix b n)) H=some (.ptr H.length 0 0,H++[.cel 0 (Ix b n)]):=λH=>BH rfl rfl;have e3:(H++[Blk.cel 0 (Gp rule L)]++[Blk.cel 0 (Ix b n)])[H.length]? = some (.cel 0 (Gp rule L)):=by simp
 have g5:Ad true 2 (.ptr (H++[Blk.cel 0 (Gp rule L)]).length 0 0) (H++[Blk.cel 0 (Gp rule L)]++[Blk.cel 0 (Ix b n)])=some (.agg (Ix b n)):=by simp only[Ad,As (Ap (B:=H++[Blk.cel 0 (Gp rule L)])),zXa];rfl
 have g6:Ad false 1 (.ptr (H++[Blk.cel 0 (Gp rule L)]).length 0 0) (H++[Blk.cel 0 (Gp rule L)]++[Blk.cel 0 (Ix b n)])=some (.i6 b):=by simp only[Ad,As (Ap (B:=H++[Blk.cel 0 (Gp rule L)])),zXa];rfl
 have lG:=λH=>VeX 4 rule L b n H (by omega) hL h0 h1;simp only[GMw,Vdk,hbx,P9 e3,g5,lG];by_cases he:Jm 4 rule L b n=0
 ·obtain⟨hl,b0,b1,hw,_,_⟩:=Vjq he (by decide);obtain⟨r1,r2⟩:=VeI hl b0 b1 hw;have xR:=λH=>Vnz L b H hL hl h0 h1;simp only[VdK b0 b1 hw]at xR;rw[if_pos he];simp only[he,GMw,Ae,Vr,Nat.add_zero,Kg e3,g6,xR,Ce,Cg,M7];generalize hB:H++[Blk.cel 0 (Gp rule L)]++[Blk.cel 0 (Ix b n)]=B at e3;obtain⟨sx,sy⟩:=Vp6 hl;obtain⟨x1,x2⟩:=Pr sx;obtain⟨y1,y2⟩:=Pr sy;have mS:Ai 5 (.ptr B.length 0 0) (O7 (bx L bxX) (bx L bxY) (GD L)) (B++[Blk.cel 0 DN])=some (B++[Blk.cel 0 (BX (bx L bxX) (bx L bxY) (.sl (enL cS (GD L)) .no))]):=by
   unfold O7;simp only[Ai,As (Ap (B:=B) (cs:=DN)),zXa,Cc (I0 _ _ _ _),B6 (Ap (B:=B) (cs:=DN)),D8 (cs:=DN) (sz:=5) rfl,Bt]
   rfl
  have kJ:=S5 (AK (G:=[Blk.cel 0 (BX (bx L bxX) (bx L bxY) (.sl (enL cS (GD L)) .no))]) e3);have gx:Ad true 2 (.ptr B.length 0 0) (B++[Blk.cel 0 (BX (bx L bxX) (bx L bxY) (.sl (enL cS (GD L)) .no))])=some (big (bx L bxX)):=by simp only[Ad,As (Ap (B:=B)),zXa];rfl
  have gy:Ad true 2 (.ptr B.length 0 2) (B++[Blk.cel 0 (BX (bx L bxX) (bx L bxY) (.sl (enL cS (GD L)) .no))])=some (big (bx L bxY)):=by simp only[Ad,As (Ap (B:=B)),zXa];rfl
  have gr:Ad false 1 (.ptr B.length 0 4) (B++[Blk.cel 0 (BX (bx L bxX) (bx L bxY) (.sl (enL cS (GD L)) .no))])=some (.sl (enL cS (GD L)) .no):=by simp only[Ad,As (Ap (B:=B)),zXa];rfl
  have gw:Ad true 5 (.ptr B.length 0 0) (B++[Blk.cel 0 (BX (bx L bxX) (bx L bxY) (.sl (enL cS (GD L)) .no))])=some (.agg (BX (bx L bxX) (bx L bxY) (.sl (enL cS (GD L)) .no))):=by simp only[Ad,As (Ap (B:=B)),zXa];rfl
  have tx:=λH=>LD (bx L bxX) H x1;have ty':=λH=>LD (bx L bxY) H y1;simp only[GMw,mS,Ae,Vr,gr,Ax];generalize Y8:bx L bxX=X at *;generalize Y7:bx L bxY=Y at *;generalize hro:GD L=rows at *;have hBl:∀(G:Aa) (v:Ab),Jg v=true->rP H v (B++G)=some (.ret v,H):=λG v hv=>by rw[<-hB,Vu,Vu];exact Vca hv
  have key:∀w:Nat,w<=1000->w=VpI rows->UdT H (.ptr H.length 0 0) (.ptr B.length 0 0) (.i6 (w:Int)) (B++[Blk.cel 0 (BX X Y (.sl (enL cS rows) .no))])=some (.ret (.tup [.str (Vnt rule L),.i6 0]),H):=by
   intro w cD bZ;have uE:=λH=>N8 (w:Int) H (by omega) (by omega);have uF:=λH=>N8 (rows.length:Int) H (by omega) (by omega);have sw:SB 44 (w:Int):=Qw (n:=w) (by have:(4294967296:Nat)^1<=4294967296^44:=Hp (by omega);omega);have sh:SB 44 (rows.length:Int):=Qw (n:=rows.length) (by have:(4294967296:Nat)^1<=4294967296^44:=Hp (by omega);omega);obtain⟨w1,w2⟩:=Pr sw;obtain⟨Ys,Zp⟩:=Pr sh;have tw:=λH=>LD (w:Int) H w1;have th:=λH=>LD (rows.length:Int) H Ys;have pB:=λH=>Sd X Y rows .no H r1 r2;obtain⟨k1,k2⟩:=Va5 rows r1 r2;have sC:=λH=>VhQ (CL rows) .no H (by omega) k2;have lN:=IM (CL rows) k2 (CL rows).length (Vo _);rw[Vy (Vo _)]at lN;have tI:(Veg (CL rows)).length<=100000000000:=by unfold Veg;simp;omega
   unfold UdT Vnt;rw[Y8,Y7,hro,<-bZ];unfold VeM;simp only[GMw,Ae,Vr,Nat.add_zero,gx,gy,gr,kJ,gw,tx,ty',and_true,eq_self,Ax,uE,uF,tw,th]
   iterate 11
    rw[Cq (by simp;omega)];simp only[GMw,pB,sC]
   rw[Cq (by simp;omega)];simp only[GMw];exact hBl _ _ rfl
  cases iV:rows with
  |nil=>
   rw[iV]at key;have h9:¬((([]:List (zAa)).length:Int)>0):=by simp
   simp only[GMw,h9,Aj];exact key 0 (by omega) rfl
  |cons r rest=>
   have h9:((r::rest:List (zAa)).length:Int)>0:=by simp
   have hidx:=Az (f:=cS) (l:=r::rest) (tk:=.no) (i:=0) (K:=.i64) (by simp);simp only[Int.natCast_zero,List.getElem_cons_zero]at hidx;rw[iV]at key gr;simp only[GMw,h9,gr,hidx,A0,zXh,CU,Aj];exact key r.length (r2 r (by rw[iV];simp)) rfl
 ·rw[if_neg he];simp only[he,GMw];rw[Vu];exact Vca (v:=.tup [.str [],.i6 (Jm 4 rule L b n)]) rfl
theorem VgI {b u:zAa}{f:Nat}{c:UInt8}(hc:Db.contains c=false):∀(n k a v:Nat) (ds:zAa),b.drop a=ds++c::u->(∀x∈ds,Db.contains x=true)->ds.length=n->f<=a->a+ds.length<=f+9->ds.length<k->(v=0->∀x,ds[0]? = some x->x≠48) ->
  IL b f k a v=(none,a+ds.length,ds.foldl (λv x=>v*10+(x.toNat-48)) v)
 |n,0,a,v,ds,_,_,_,_,_,hk,_=>by omega
 |n,k+1,a,v,[],h,_,_,_,_,_,_=>by rw[List.nil_append]at h;unfold IL;rw[AQ h,hc,if_neg (by decide)];simp
 |n,k+1,a,v,d::ds,h,hd,hn,hf,h9,hk,h0=>by
  rw[List.cons_append]at h;have hl:(d::ds).length=ds.length+1:=rfl;have lD:=hd d (by simp);rw[hl]at h9 hk;have hz:(decide (v=0)&&AV b a [48])=false:=by
   rw[AQ h];by_cases hv:v=0
   ·have:=h0 hv d rfl;simp[this]
   ·simp[hv]
  have eP:Mg b a=d.toNat-48:=by unfold Mg;rw[Vm,(C1 h).2.1];rfl
  unfold IL;rw[AQ h,lD,if_pos rfl,hz];simp only[Vq,if_false];rw[if_neg (by omega),eP];have h1:v=0->1<=d.toNat-48:=λhv=>by
   have h1:=h0 hv d rfl;have h2:d∈Db:=by simpa using lD
   have key:∀x∈Db,x≠48->1<=x.toNat-48:=by decide
   exact key d h2 h1
  rw[VgI hc ds.length k (a+1) (10*v+(d.toNat-48)) ds (C1 h).2.2 (λx hx=>hd x (by simp[hx])) rfl (by omega) (by omega) (by omega) (λhv=>by
   by_cases hv0:v=0
   ·have:=h1 hv0;omega
   ·omega)]
  rw[List.foldl_cons,hl,show a+1+ds.length=a+(ds.length+1)by omega,W8 10 v]
theorem VgH {b u:zAa}{a:Nat}{c:UInt8}{n:Nat}(hc:Db.contains c=false)(hn:n<=999999999)(h2:2<=n)(h:b.drop a=DE (n:Int)++c::u):IL b a 11 a 0=(none,a+(DE (n:Int)).length,n):=by
 have e:DE (n:Int)=Di n:=by unfold DE;rw[if_neg (by omega)];rfl
 rw[e]at h ⊢;have hlen:(Di n).length<=9:=by have:=Nf 9 n (by omega);rw[if_neg (by decide)]at this;exact this
 have:=VgI (f:=a) hc (Di n).length 11 a 0 (Di n) h (Qh n) rfl (Vo _) (by omega) (by omega) (λ_ x hx e=>by subst e;have:=Mh hx;obtain⟨d,r,e1,e2⟩:=Vb n (by omega);rw[e1]at hx;simp at hx;exact e2 hx);rw[this];exact congrArg (λx=>(none,a+(Di n).length,x)) (VgA n)
theorem Te {b u:zAa}{a:Nat}{c:UInt8}(hc:Db.contains c=false)(h:b.drop a=c::u):IL b a 11 a 0=(none,a,0):=by unfold IL;rw[AQ h,hc,if_neg (by decide)]
theorem Vhz {b u:zAa}{a s:Nat}{two:Bool}(hs:s<=255)(h2:two=true->s<=1)(h:b.drop a=Fz s two++u):T6 b a=(none,a+(Fz s two).length-1,s)/\1<=(Fz s two).length:=by
 unfold Fz at h ⊢;unfold T6;by_cases c1:(two&&decide (s=0))=true
 ·rw[if_pos c1]at h ⊢;rw[Vx,zXe]at c1;rw[List.singleton_append]at h;rw[AQ h,if_pos (by decide),c1.2];exact⟨rfl,Vo _⟩
 ·rw[if_neg c1]at h ⊢;by_cases c2:(two&&decide (s=1))=true
  ·rw[if_pos c2]at h ⊢;rw[Vx,zXe]at c2;rw[List.singleton_append]at h;rw[AQ h,AQ h,if_neg (by decide),if_pos (by decide),c2.2];exact⟨rfl,Vo _⟩
  ·rw[if_neg c2]at h ⊢;by_cases c3:s=0
   ·rw[if_pos c3]at h ⊢;rw[List.singleton_append]at h;rw[AQ h,if_pos (by decide),c3];exact⟨rfl,Vo _⟩
   ·rw[if_neg c3]at h ⊢;by_cases c4:s<=24
    ·rw[if_pos c4]at h ⊢;rw[List.singleton_append]at h;have key:∀n,n<25->n≠0->([46,98]:zAa).contains (UInt8.ofNat (64+n))=false/\([111]:zAa).contains (UInt8.ofNat (64+n))=false/\IZ.contains (UInt8.ofNat (64+n))=true/\(UInt8.ofNat (64+n)).toNat=64+n:=by decide
     obtain⟨k1,k2,k3,k4⟩:=key s (by omega) c3;have dE:atV b a=64+s:=by unfold atV;rw[Vm,(C1 h).2.1];exact k4
     rw[AQ h,AQ h,AQ h,k1,k2,k3,dE];refine⟨?_,Vo _⟩;simp only[Vq,if_false,if_true,zXi]
     congr 2
     omega
    ·rw[if_neg c4]at h ⊢;have e:([UInt8.ofNat (112+(s-25) / 24),UInt8.ofNat (65+(s-25)%24)]:zAa)++u=UInt8.ofNat (112+(s-25) / 24)::(UInt8.ofNat (65+(s-25)%24)::u):=rfl;rw[e]at h;have h1:=(C1 h).2.2;have hq:(s-25) / 24<10:=by omega
     have hr:(s-25)%24<24:=WJ _ (by omega);have key1:∀n,n<10->([46,98]:zAa).contains (UInt8.ofNat (112+n))=false/\([111]:zAa).contains (UInt8.ofNat (112+n))=false/\IZ.contains (UInt8.ofNat (112+n))=false/\S3.contains (UInt8.ofNat (112+n))=true/\(UInt8.ofNat (112+n)).toNat=112+n:=by decide
     have key2:∀n,n<24->IZ.contains (UInt8.ofNat (65+n))=true/\(UInt8.ofNat (65+n)).toNat=65+n/\(n<15->VfO.contains (UInt8.ofNat (65+n))=false):=by decide
     obtain⟨k1,k2,k3,k4,k5⟩:=key1 _ hq;obtain⟨m1,m2,m3⟩:=key2 _ hr;have dE:atV b a=112+(s-25) / 24:=by unfold atV;rw[Vm,(C1 h).2.1];exact k5
     have wA:atV b (a+1)=65+(s-25)%24:=by unfold atV;rw[Vm,(C1 h1).2.1];exact m2
     have hy:(decide (b[a]? = some 121)&&AV b (a+1) VfO)=false:=by
      rw[(C1 h).2.1,AQ h1];by_cases h9:(s-25) / 24=9
      ·rw[m3 (by omega),Ye]
      ·have:UInt8.ofNat (112+(s-25) / 24)≠121:=λe=>by have:=congrArg UInt8.toNat e;rw[k5]at this;have rY:(121:UInt8).toNat=121:=rfl;omega
       rw[show decide (some (UInt8.ofNat (112+(s-25) / 24))=some (121:UInt8))=false from zXd (λe=>this (WQ e)),Wh]
     rw[AQ h,AQ h,AQ h,AQ h,k1,k2,k3,k4,hy,AQ h1,m1,dE,wA];refine⟨?_,by simp⟩;simp only[Vq,if_false,if_true,VR,zXp,zXj,zXk];have rI:=Xb (s-25) 24
     congr 2
     omega
theorem Ve6 {s:Nat}{two:Bool}(hs:s<=255):∃c r,Fz s two=c::r/\Db.contains c=false/\([36,33,32,13,10]:zAa).contains c=false:=by
 have key0:∀n,n<25->Db.contains (UInt8.ofNat (64+n))=false/\([36,33,32,13,10]:zAa).contains (UInt8.ofNat (64+n))=false:=by decide
 have key1:∀n,n<10->Db.contains (UInt8.ofNat (112+n))=false/\([36,33,32,13,10]:zAa).contains (UInt8.ofNat (112+n))=false:=by decide
 unfold Fz;split
 ·exact⟨_,_,rfl,by decide,by decide⟩
 ·split
  ·exact⟨_,_,rfl,by decide,by decide⟩
  ·split
   ·exact⟨_,_,rfl,by decide,by decide⟩
   ·split
    ·exact⟨_,_,rfl,(key0 s (by omega)).1,(key0 s (by omega)).2⟩
    ·exact⟨_,_,rfl,(key1 _ (by omega)).1,(key1 _ (by omega)).2⟩
theorem VcW {n:Nat}(h:2<=n):∃c r,DE (n:Int)=c::r/\([36,33,32,13,10]:zAa).contains c=false:=by
 have e:DE (n:Int)=Di n:=by unfold DE;rw[if_neg (by omega)];rfl
 rw[e];cases hd:Di n with
 |nil=>have:=VcX n;rw[hd]at this;simp at this
 |cons c r=>
  have h1:=Qh n c (by rw[hd];exact XF);have h2:c∈Db:=by simpa using h1
  have key:∀x∈Db,([36,33,32,13,10]:zAa).contains x=false:=by decide
  exact⟨c,r,rfl,key c h2⟩
structure Tk1 (bx:Int)(t:zAa)(st st':LSt):Prop where
 go:∀(b u:zAa) (a:Nat),b.drop a=t++u->NZ b bx a st=(((none,a+t.length),st'),false)
 hd:∃c r,t=c::r/\([32,13,10]:zAa).contains c=false
theorem Va7 {c:UInt8}(h:([36,33,32,13,10]:zAa).contains c=false):([32,13,10]:zAa).contains c=false/\([36]:zAa).contains c=false/\([33]:zAa).contains c=false:=by simp at h ⊢;exact⟨⟨h.2.2.1,h.2.2.2.1,h.2.2.2.2⟩,h.1,h.2.1⟩
theorem VkA {bx:Int}{n s:Nat}{two:Bool}{st st':LSt}(h1:1<=n)(hn:n<=999999999)(hs:s<=255)(h2:two=true->s<=1)(hp:NB bx n s st=(none,st')):Tk1 bx (EL (n:Int) (Fz s two)) st st':=by
 obtain⟨c,r,e,hc,eZ⟩:=Ve6 (two:=two) hs;obtain⟨k1,k2,k3⟩:=Va7 eZ;have fin:∀(b u:zAa) (a c' t:Nat),IL b a 11 a 0=(none,c',t)->max t 1=n->b.drop c'=Fz s two++u->NZ b bx a st=(((none,c'+(Fz s two).length),st'),false):=by intro b u a c' t lE hm hd;obtain⟨g1,g2⟩:=Vhz hs h2 hd;have hd':=hd;rw[e,List.cons_append]at hd';unfold NZ;rw[lE];dsimp only;rw[AQ hd',AQ hd',k2,k3,g1,hm];simp only[Vq,if_false,Wh];rw[hp];dsimp only;rw[show c'+(Fz s two).length-1+1=c'+(Fz s two).length by omega]
 unfold EL;by_cases cL:n=1
 ·subst cL;rw[if_pos (show ((1:Nat):Int)=1 from rfl)];refine⟨λb u a h=>?_,c,r,e,k1⟩;have h':=h;rw[e,List.cons_append]at h';exact fin b u a a 0 (Te hc h') (by omega) h
 ·rw[if_neg (by omega)];obtain⟨d,r',e',bU⟩:=VcW (n:=n) (by omega);refine⟨λb u a h=>?_,d,r'++Fz s two,by rw[e'];rfl,(Va7 bU).1⟩;rw[Vu]at h;have cF:=h;rw[e,List.cons_append]at cF;rw[fin b u a _ n (VgH hc hn (by omega) cF) (by omega) (DD h),Vs,VN]
theorem Vje {bx:Int}{n:Nat}{st:LSt}(h1:1<=n)(hn:n<=999999999):Tk1 bx (EL (n:Int) [36]) st { st with row:=st.row+n,col:=0 }:=by
 have fin:∀(b u:zAa) (a c' t:Nat),IL b a 11 a 0=(none,c',t)->max t 1=n->b.drop c'=[36]++u->NZ b bx a st=(((none,c'+1),{ st with row:=st.row+n,col:=0 }),false):=by intro b u a c' t lE hm hd;rw[List.singleton_append]at hd;unfold NZ;rw[lE];dsimp only;rw[AQ hd,if_pos (by decide),hm]
 unfold EL;by_cases cL:n=1
 ·subst cL;rw[if_pos (show ((1:Nat):Int)=1 from rfl)];exact⟨λb u a h=>fin b u a a 0 (Te (c:=36) (u:=u) (by decide) (by rw[List.singleton_append]at h;exact h)) (by omega) h,36,[],rfl,by decide⟩
 ·rw[if_neg (by omega)];obtain⟨d,r',e',bU⟩:=VcW (n:=n) (by omega);refine⟨λb u a h=>?_,d,r'++[36],by rw[e'];rfl,(Va7 bU).1⟩;rw[Vu]at h;rw[fin b u a _ n (VgH (c:=36) (u:=u) (by decide) hn (by omega) h) (by omega) (DD h),Vs];simp[VN]
inductive Tks (bx:Int):List (zAa)->LSt->LSt->Prop where
 |nil (st:LSt):Tks bx [] st st
 |cons {t:zAa} {l:List (zAa)} {st st' st'':LSt} (h:Tk1 bx t st st') (h':Tks bx l st' st''):Tks bx (t::l) st st''
theorem Tks.app {bx:Int}{l m:List (zAa)}{st st' st'':LSt}(h:Tks bx l st st')(h':Tks bx m st' st''):Tks bx (l++m) st st'':=by
 induction h with
 |nil st=>exact h'
 |cons h1 _ ih=>exact .cons h1 (ih h')
def GO (X Y:Int):zAa->List Cl
 |[]=>[]
 |b::l=>(if b=0 then []else [⟨X,Y,b⟩])++GO (X+1) Y l
theorem RY {Y:Int}{c:Cl}:∀(r:zAa) (X:Int),c∈GO X Y r↔∃(i:Nat) (v:UInt8),r[i]? = some v/\v≠0/\c=⟨X+i,Y,v⟩
 |[],X=>by simp[GO]
 |d::s,X=>by
  have ih:=RY (Y:=Y) (c:=c) s (X+1);unfold GO;rw[VA,ih];constructor
  ·rintro (h | ⟨i,v,h1,h2,h3⟩)
   ·split at h
    ·cases h
    ·rename_i hd;rw[VB]at h;exact⟨0,d,rfl,hd,by rw[h];simp⟩
   ·exact⟨i+1,v,by simpa using h1,h2,by rw[h3];congr 1;push_cast;omega⟩
  ·rintro⟨i,v,h1,h2,h3⟩;cases i with
   |zero=>simp at h1;subst h1;left;rw[if_neg h2,h3];simp
   |succ i=>exact .inr ⟨i,v,by simpa using h1,h2,by rw[h3];congr 1;push_cast;omega⟩
theorem RX (X Y:Int)(b:UInt8)(l:zAa):∀n:Nat,GO X Y (List.replicate n b++l)=(if b=0 then []else (List.range n).map λi:Nat=>(⟨X+(i:Int),Y,b⟩:Cl))++GO (X+n) Y l:=by
 intro n
 induction n generalizing X with
 |zero=>simp
 |succ n ih=>
  rw[zXm,List.cons_append];show (if b=0 then []else [⟨X,Y,b⟩])++GO (X+1) Y (List.replicate n b++l)=_;rw[ih (X+1),show X+1+(n:Int)=X+((n+1:Nat):Int)by push_cast;omega];by_cases hb:b=0
  ·rw[if_pos hb,if_pos hb,if_pos hb];rfl
  ·rw[if_neg hb,if_neg hb,if_neg hb,List.range_succ_eq_map,WT,Yk,List.cons_append,List.cons_append,List.nil_append]
   congr 1
   ·simp
   ·congr 1
    apply Xr;intro i _;simp only[Function.comp_apply,Cl.mk.injEq,and_true,true_and]
    push_cast;omega
theorem VbM (b:UInt8):∀l:zAa,l.takeWhile (· == b)=List.replicate (l.takeWhile (· == b)).length b
 |[]=>rfl
 |c::l=>by
  rw[Xq];split
  ·rename_i h;rw[beq_iff_eq]at h;subst h;rw[zXj,zXm,<-VbM c l]
  ·rfl
theorem VeF (b:UInt8)(l:zAa):b::l=List.replicate ((l.takeWhile (· == b)).length+1) b++l.drop (l.takeWhile (· == b)).length:=by
 rw[zXm,List.cons_append,<-VbM b l]
 congr 1
 have h:=Yo (p:=(· == b)) (l:=l);have e:l.drop (l.takeWhile (· == b)).length=l.dropWhile (· == b):=by
  conv=>lhs;rw[<-h]
  rw[WO (by rw[h];exact Vo _)];rw[h];simp
 rw[e,h]
def atR (st:LSt)(r:zAa):LSt:={ st with col:=st.col+r.length,cells:=st.cells++GO (st.x+st.col) (st.y+st.row) r }
theorem RQ {bx:Int}{two:Bool}(hbx:bx<=1000):∀(k:Nat) (r:zAa) (st:LSt),r.length<=k->(two=true->∀b∈r,b.toNat<=1)->(st.row:Int)<bx->(st.col:Int)+r.length<=bx->Tks bx (In two r) st (atR st r)
 |k,[],st,_,_,_,_=>by
  rw[FW];have:atR st []=st:=by unfold atR GO;simp
  rw[this];exact .nil st
 |0,b::l,st,h,_,_,_=>by simp at h
 |k+1,b::l,st,h,h2,hr,hc=>by
  have hs:=VeF b l;have gY:(l.takeWhile (· == b)).length<=l.length:=(WR _).length_le;rw[Im];generalize (l.takeWhile (· == b)).length=m at *;simp only[zXj]at h hc
  push_cast at hc
  have hp:NB bx (m+1) b.toNat st=(none,atR st (List.replicate (m+1) b)):=by
   have e:=RX (st.x+st.col) (st.y+st.row) b [] (m+1);rw[VF]at e;unfold NB atR;rw[e];by_cases h0:b=0
   ·subst h0;simp[GO]
   ·have hn:b.toNat≠0:=λh=>h0 (WF.1 (by simpa using h));have hd:(decide ((st.row:Int)>=bx)||decide ((st.col:Int)+((m+1:Nat):Int)>bx))=false:=by
     simp only[X5,decide_eq_false_iff_not]
     push_cast
     omega
    rw[if_neg hn,hd,if_neg h0];simp only[Vq,if_false,WH,GO,VF]
    congr 3
    unfold Sn;apply Xr;intro i _;simp only[Cl.mk.injEq];refine⟨by push_cast;omega,trivial,by simp⟩
  have hb:=h2;refine .cons (VkA (n:=m+1) (s:=b.toNat) (by omega) (by omega) (by have:=b.toNat_lt;omega) (λht=>h2 ht b (by simp)) hp) ?_;have ih:=RQ hbx k (l.drop m) (atR st (List.replicate (m+1) b)) (by rw[V9];omega) (λht x hx=>h2 ht x (by simp[WN hx])) hr (by
   show ((st.col+(List.replicate (m+1) b).length:Nat):Int)+_<=bx;rw[WH,V9]
   push_cast
   omega)
  have e2:atR (atR st (List.replicate (m+1) b)) (l.drop m)=atR st (b::l):=by
   conv=>rhs;rw[hs]
   have e:=RX (st.x+st.col) (st.y+st.row) b [] (m+1);have e3:=RX (st.x+st.col) (st.y+st.row) b (l.drop m) (m+1);rw[VF]at e;unfold atR;rw[e,e3];simp only[Vs,WH,GO,VF,Vu,LSt.mk.injEq,and_true,true_and];refine⟨by omega,?_⟩
   congr 3
   push_cast;omega
  rw[e2]at ih;exact ih
theorem MF:∀(n:Nat) (r:zAa) (X Y:Int),r.length=n->GO X Y (r.take (Dw r))=GO X Y r
 |0,r,X,Y,hn=>by rw[V6 hn];rfl
 |n+1,r,X,Y,hn=>by
  obtain⟨q,d,rfl⟩:∃q d,r=q++[d]:=by
   rcases List.eq_nil_or_concat r with e | ⟨q,d,e⟩
   ·rw[e]at hn;simp at hn
   ·exact⟨q,d,by rw[e,List.concat_eq_append]⟩
  have hq:q.length=n:=by simpa using hn
  have app:∀(l m:zAa) (X:Int),GO X Y (l++m)=GO X Y l++GO (X+l.length) Y m:=by
   intro l
   induction l with
   |nil=>intro m X;simp[GO]
   |cons a l ih=>intro m X;show (if a=0 then []else [⟨X,Y,a⟩])++GO (X+1) Y (l++m)=(if a=0 then []else [⟨X,Y,a⟩])++GO (X+1) Y l++_;rw[ih m (X+1),Vu,show X+1+(l.length:Int)=X+((a::l).length:Int)by rw[zXj];push_cast;omega]
  rw[R8];by_cases hd:d=0
  ·rw[if_pos hd,W9 (R9 q),MF n q X Y hq,app,hd];simp[GO]
  ·rw[if_neg hd,Vy (by simp)]
def KW (rows:List (zAa))(X Y:Int)(f:Nat):Nat->List Cl
 |0=>[]
 |i+1=>KW rows X Y f i++(if i<f then []else GO X (Y+((i-f:Nat):Int)) (rows.getD i []))
theorem Km {rows:List (zAa)}{X Y:Int}{f:Nat}:∀i,i<=f->KW rows X Y f i=[]
 |0,_=>rfl
 |i+1,h=>by unfold KW;rw[Km i (by omega),if_pos (by omega)];rfl
theorem VaG {r:zAa}{X Y:Int}(h:Dw r=0):GO X Y r=[]:=by rw[<-MF _ r X Y rfl,h];rfl
theorem VbL {bx:Int}{rows:List (zAa)}{two:Bool}{f:Nat}{st:LSt}(hbx:bx<=1000)(h2:two=true->∀r∈rows,∀b∈r,b.toNat<=1)(hw:∀r∈rows,(r.length:Int)<=bx)(hh:(rows.length:Int)<=bx)(h0:st.row=0/\st.col=0)
  (hf:∀j,j<f->Dw (rows.getD j [])=0)(hu:f<rows.length->Dw (rows.getD f [])≠0):∀i,i<=rows.length ->
  (i<=f->CO two rows i=([],-1))/\(f<i->∃y:Nat,(CO two rows i).2=(y:Int)/\f<=y/\y<i/\∃st',Tks bx (CO two rows i).1 st st'/\st'.law=st.law/\st'.x=st.x/\st'.y=st.y/\st'.row=y-f/\st'.cells=st.cells++KW rows st.x st.y f i)
 |0,_=>⟨λ_=>rfl,λh=>by omega⟩
 |i+1,hi=>by
  obtain⟨ih1,ih2⟩:=VbL hbx h2 hw hh h0 hf hu i (by omega);have hil:i<rows.length:=by omega
  have mZ:rows.getD i []∈rows:=by rw[Vm,Vl hil];exact Vz hil
  have eH:=R9 (rows.getD i []);have bV:=hw _ mZ;refine⟨λqV=>?_,λqV=>?_⟩
  ·have:=hf i (by omega);unfold CO Ed;rw[if_pos this];exact ih1 (by omega)
  ·rcases VT f i with eG | eG
   ·obtain⟨y,e1,e2,e3,st',t1,t2,t3,t4,t5,t6⟩:=ih2 eG;unfold CO Ed KW;by_cases hz:Dw (rows.getD i [])=0
    ·rw[if_pos hz,if_neg (by omega),VaG hz,VF];exact⟨y,e1,e2,by omega,st',t1,t2,t3,t4,t5,t6⟩
    ·rw[if_neg hz,e1,if_pos (show (0:Int)<=(y:Int)by omega),if_neg (show ¬i<f by omega)];refine⟨i,rfl,by omega,by omega,atR { st' with row:=st'.row+(i-y),col:=0 } ((rows.getD i []).take (Dw (rows.getD i []))),?_,t2,t3,t4,?_,?_⟩
     ·refine (t1.app (.cons ?_ (.nil _))).app (RQ hbx _ _ _ (Vo _) (λht b hb=>h2 ht _ mZ b (Wo hb)) ?_ ?_)
      ·have e:((i:Int)-(y:Int))=((i-y:Nat):Int):=by omega
       rw[e];exact Vje (by omega) (by omega)
      ·show ((st'.row+(i-y):Nat):Int)<bx;rw[t5];omega
      ·show ((0:Nat):Int)+_<=bx;rw[V5];omega
     ·show st'.row+(i-y)=i-f;rw[t5];omega
     ·show st'.cells++GO (st'.x+((0:Nat):Int)) (st'.y+((st'.row+(i-y):Nat):Int)) _=_;rw[MF _ _ _ _ rfl,t6,t3,t4,t5,Vu,show y-f+(i-y)=i-f by omega];simp
   ·have nQ:f=i:=by omega
    subst nQ;have hz:=hu hil;unfold CO Ed KW;rw[if_neg hz,ih1 (Vo _),if_neg (show ¬(0:Int)<=(([],-1):List (zAa)×Int).2 by decide),if_neg (show ¬f<f by omega),Km f (Vo _)];refine⟨f,rfl,Vo _,by omega,atR st ((rows.getD f []).take (Dw (rows.getD f []))),?_,rfl,rfl,rfl,?_,?_⟩
    ·rw[VF,List.nil_append];refine RQ hbx _ _ _ (Vo _) (λht b hb=>h2 ht _ mZ b (Wo hb)) ?_ ?_
     ·rw[h0.1];omega
     ·rw[h0.2,V5];omega
    ·show st.row=f-f;rw[h0.1];omega
    ·show st.cells++GO (st.x+(st.col:Int)) (st.y+(st.row:Int)) _=_;rw[MF _ _ _ _ rfl,h0.1,h0.2,VZ];simp
inductive Sep:zAa->Prop where
 |nil:Sep []
 |sp {w:zAa} (h:Sep w):Sep (32::w)
 |lf {w:zAa} (h:Sep w):Sep (10::w)
 |crlf {w:zAa} (h:Sep w):Sep (13::10::w)
theorem VcV {b s t:zAa}{a:Nat}(h:b.drop a=s++t)(hs:s≠[]):a+s.length<=b.length/\a<b.length:=by have hl:=congrArg List.length h;have:=Wd.2 hs;rw[V9,Vs]at hl;omega
theorem VbU {b u:zAa}{bx:Int}{st:LSt}{w:zAa}(hw:Sep w):∀(a:Nat),b.drop a=w++u->∃n,n<=w.length/\∀k,II b bx (k+n) a st=II b bx k (a+w.length) st:=by
 induction hw with
 |nil=>exact λa h=>⟨0,Vo _,λk=>rfl⟩
 |@sp w hw ih=>
  intro a h;rw[List.cons_append]at h;obtain⟨g1,g2,g3⟩:=C1 h;obtain⟨n,n1,n2⟩:=ih (a+1) g3;refine⟨n+1,by simp;omega,λk=>?_⟩;rw[<-VN]
  conv=>lhs;unfold II
  rw[if_neg (by omega),AQ h,if_pos (by decide),n2 k,zXj,show a+1+w.length=a+(w.length+1)by omega]
 |@lf w hw ih=>
  intro a h;rw[List.cons_append]at h;obtain⟨g1,g2,g3⟩:=C1 h;obtain⟨n,n1,n2⟩:=ih (a+1) g3;refine⟨n+1,by simp;omega,λk=>?_⟩;rw[<-VN]
  conv=>lhs;unfold II
  rw[if_neg (by omega),AQ h,AQ h,if_neg (by decide),if_pos (by decide),Vg2 h [33]];dsimp only;rw[n2 k,zXj,show a+1+w.length=a+(w.length+1)by omega]
 |@crlf w hw ih=>
  intro a h;rw[List.cons_append,List.cons_append]at h;obtain⟨g1,g2,g3⟩:=C1 h;obtain⟨g4,g5,g6⟩:=C1 g3;obtain⟨n,n1,n2⟩:=ih (a+1+1) g6;refine⟨n+1,by simp;omega,λk=>?_⟩;rw[<-VN]
  conv=>lhs;unfold II
  rw[if_neg (by omega),AQ h,AQ h,if_neg (by decide),if_pos (by decide),VcO h [33]];dsimp only;rw[show a+2=a+1+1 from rfl,n2 k,zXj,zXj,show a+1+1+w.length=a+(w.length+1+1)by omega]
inductive Hf:List (zAa)->zAa->Prop where
 |nil:Hf [] []
 |cons {t w u:zAa} {l:List (zAa)} (hw:Sep w) (h:Hf l u):Hf (t::l) (w++(t++u))
theorem Hf.snoc {t w u:zAa}{l:List (zAa)}(h:Hf l u)(hw:Sep w):Hf (l++[t]) (u++(w++t)):=by
 induction h with
 |nil=>have:=Hf.cons (t:=t) hw .nil;simpa using this
 |@cons t' w' u' l' hw' _ ih=>have:=Hf.cons (t:=t') hw' ih;simpa[Vu]using this
theorem VaB {b:zAa}{bx:Int}{l:List (zAa)}{st st':LSt}(hT:Tks bx l st st'):∀ {u:zAa},Hf l u->∀(a:Nat) (v:zAa),b.drop a=u++v->∃n,n<=u.length/\∀k,II b bx (k+n) a st=II b bx k (a+u.length) st':=by
 induction hT with
 |nil st=>intro u hs a v h;cases hs;exact⟨0,Vo _,λk=>rfl⟩
 |@cons t l st st1 st2 h1 _ ih=>
  intro u hs a v h;cases hs with
  |@cons _ w u' _ hw hs=>
   rw[Vu]at h;obtain⟨n1,p1,p2⟩:=VbU (bx:=bx) (st:=st) hw a h;have h2:=DD h;rw[Vu]at h2;have h3:=DD h2;obtain⟨n2,q1,q2⟩:=ih hs _ v h3;have ht:=h1.go b _ _ h2;obtain⟨c,r,hc,hd⟩:=h1.hd;have hb:=VcV h2 (by rw[hc];simp);have hlen:1<=t.length:=by rw[hc];simp
   have hcs:b.drop (a+w.length)=c::(r++(u'++v)):=by rw[h2,hc];rfl
   have h32:AV b (a+w.length) [32]=false:=by rw[AQ hcs];simp at hd ⊢;exact hd.1
   have cE:AV b (a+w.length) [13,10]=false:=by rw[AQ hcs];simp at hd ⊢;exact hd.2
   refine⟨n2+1+n1,by simp only[Vs];omega,λk=>?_⟩;rw[show k+(n2+1+n1)=k+n2+1+n1 by omega,p2]
   conv=>lhs;unfold II
   rw[if_neg (by omega),h32,cE,ht];simp only[Vq,if_false];rw[q2 k];simp only[Vs,VN]
theorem Va4 {b:zAa}{bx:Int}{l:List (zAa)}{st st':LSt}(hT:Tks bx l st st'){u w v:zAa}(hs:Hf l u)(hw:Sep w){a:Nat}(h:b.drop a=u++(w++33::v)) :
  (II b bx (b.length+1) a st).1.1=none/\(II b bx (b.length+1) a st).2=st':=by
 obtain⟨n1,p1,p2⟩:=VaB hT hs a _ h;have h2:=DD h;obtain⟨n2,q1,q2⟩:=VbU (bx:=bx) (st:=st') hw _ h2;have h3:=DD h2;obtain⟨g1,g2,g3⟩:=C1 h3;have hl:=congrArg List.length h;rw[V9,Vs,Vs,zXj]at hl;obtain⟨k,hk⟩:∃k,b.length+1=k+1+n2+n1:=⟨b.length-n2-n1,by omega⟩;rw[hk,p2,q2];unfold II;rw[if_neg (by omega),AQ h3,AQ h3,if_neg (by decide),if_neg (by decide)];have ht:NZ b bx (a+u.length+w.length) st'=(((none,a+u.length+w.length),st'),true):=by
  unfold NZ;rw[Te (by decide) h3];dsimp only;rw[AQ h3,AQ h3,if_neg (by decide)]
  rfl
 rw[ht];exact⟨rfl,rfl⟩
theorem Vco {b t:zAa}{a n:Nat}{c:UInt8}(rest:zAa)(h:b.drop a=DE (n:Int)++c::t)(hc:Db.contains c=false)(h4:(Di n).length<=400):Ft b a false rest=(none,a+(DE (n:Int)).length):=by
 have e:DE (n:Int)=Di n:=by unfold DE;rw[if_neg (by omega)];rfl
 rw[e]at h ⊢;unfold Ft PC;have:=Vlo rest h (Qh _) hc h4 (VcX n) Mh 402 0 (VL _) (by omega);rw[Nat.add_zero]at this;simp only[Wh,Vq,if_false];exact this
theorem Uv {b rule t:zAa}{f:Nat}{c:UInt8}(hc:KS c=false)(h:b.drop f=rule++c::t)(hs:rule.all KS=true)(tD:rule.length<=40):∀n k,k<=rule.length->rule.length-k<=n->Hn b f n (f+k)=f+rule.length
 |0,k,h1,h2=>by
  have:k=rule.length:=by omega
  rw[this];rfl
 |n+1,k,h1,h2=>by
  have dE:b[f+k]? = (rule++c::t)[k]? := by rw[<-h,VP]
  by_cases hk:k<rule.length
  ·rw[Vp hk,Vl hk]at dE;have ho:onB b f (f+k)=true:=by unfold onB;rw[dE];dsimp only;rw[V7]at hs;rw[hs _ (Vz hk),zXc (by omega)];rfl
   rw[Hn,ho,if_pos rfl,VN];exact Uv hc h hs tD n (k+1) hk (by omega)
  ·have e:k=rule.length:=by omega
   subst e;have dE:b[f+rule.length]? = some c:=by rw[dE];simp
   have ho:onB b f (f+rule.length)=false:=by unfold onB;rw[dE];dsimp only;rw[hc,Ye]
   rw[Hn,ho];rfl
def Po (w h:Nat)(rule:zAa)(cr:Bool):zAa:=szA++(DE (w:Int)++(szB++(DE (h:Int)++(szC++(rule++ViZ cr)))))
theorem Uk {b t rule:zAa}{a w h:Nat}{cr:Bool}(hd:b.drop a=Po w h rule cr++t)(hr:HH rule=true)(hw:(Di w).length<=400)(hh:(Di h).length<=400)(st:LSt) :
  Vh0 b a st=((none,a+(Po w h rule cr).length),{ st with law:=rule }):=by
 unfold HH at hr;rw[Vx,zXe]at hr;obtain⟨hs,sI,lW⟩:=hr;obtain⟨e,u,he,Yy⟩:∃e u,ViZ cr++t=e::u/\KS e=false:=by
  cases cr
  ·exact⟨10,t,rfl,by decide⟩
  ·exact⟨13,10::t,rfl,by decide⟩
 have h0:b.drop a=szA++(DE (w:Int)++44::([32,121,32,61,32]++(DE (h:Int)++44::([32,114,117,108,101,32,61,32]++(rule++(ViZ cr++t)))))):=by rw[hd];simp[Po,szB,szC]
 have m1:=Sx h0 T9;have h1:=DD h0;have i1:=Vco Vh9 h1 (by decide) hw;have h2:b.drop (a+szA.length+(DE (w:Int)).length)=szB++(DE (h:Int)++44::([32,114,117,108,101,32,61,32]++(rule++(ViZ cr++t)))):=DD h1;have m2:=Sx h2 T8;have h3:=DD h2;have i2:=Vco Vh8 h3 (by decide) hh;have h4:b.drop (a+szA.length+(DE (w:Int)).length+szB.length+(DE (h:Int)).length)=szC++(rule++(ViZ cr++t)):=DD h3;have m3:=Sx h4 [97,10,33];have h5:=DD h4;have yF:=h5;rw[he]at yF;have aC:=Uv Yy yF hs lW 40 0 (VL _) (by omega);rw[Nat.add_zero]at aC;have h6:=DD h5;have vB:=Vod h5;have aG:HD b (a+szA.length+(DE (w:Int)).length+szB.length+(DE (h:Int)).length+szC.length+rule.length) [33]=(none,a+szA.length+(DE (w:Int)).length+szB.length+(DE (h:Int)).length+szC.length+rule.length+(ViZ cr).length):=by
  have hne:=VcV h6 (by cases cr <;> simp[ViZ]);unfold HD;rw[if_neg (by omega)];cases cr
  ·exact Vg2 h6 [33]
  ·exact VcO h6 [33]
 have zH:Pv b (a+szA.length+(DE (w:Int)).length+szB.length+(DE (h:Int)).length+szC.length) [10,33]=(none,a+szA.length+(DE (w:Int)).length+szB.length+(DE (h:Int)).length+szC.length+rule.length):=by unfold Pv;rw[aC,if_neg (by omega)]
 unfold Vh0;rw[m1];dsimp only;rw[i1];dsimp only;rw[m2];dsimp only;rw[i2];dsimp only;rw[m3];dsimp only;rw[zH];dsimp only;rw[aG,vB]
 congr 2
 simp only[Po,Vs];omega
theorem ViH {b t rule:zAa}{w h:Nat}{cr:Bool}(hd:b=Po w h rule cr++t)(hr:HH rule=true)(hw:(Di w).length<=400)(hh:(Di h).length<=400)(st:LSt) :
  ∃c,SF b 0 st=((none,c),{ st with law:=rule })/\b.drop c=t:=by
 have h0:b.drop 0=Po w h rule cr++t:=hd;have r2:=Uk h0 hr hw hh st;have s2:AV b 0 [35]=false:=by
  have:b.drop 0=120::([32,61,32]++(DE (w:Int)++(szB++(DE (h:Int)++(szC++(rule++ViZ cr)))))++t):=by rw[h0];rfl
  rw[AQ this];decide
 refine⟨_,?_,DD h0⟩;unfold SF L8;rw[s2,if_neg (by decide)];dsimp only;rw[r2]
theorem ViI {b t rule:zAa}{w h:Nat}{cr:Bool}(hd:b=35::120::10::(Po w h rule cr++t))(hr:HH rule=true)(hw:(Di w).length<=400)(hh:(Di h).length<=400)(st:LSt) :
  ∃c,SF b 0 st=((none,c),{ st with law:=rule })/\b.drop c=t:=by
 have h0:b.drop 0=35::120::10::(Po w h rule cr++t):=hd;have h1:=(C1 h0).2.2;have h2:=(C1 h1).2.2;have h3:=(C1 h2).2.2;have hlt:=(C1 h2).1;have mJ:cpN (b.drop 0) On<7:=by
  rw[h0];show (if (35:UInt8)=35 then cpN (120::10::(Po w h rule cr++t)) [67,88,82,76,69,32]+1 else 0)<7;rw[if_pos rfl];show (if (120:UInt8)=67 then _ else 0)+1<7;rw[if_neg (by decide)]
  decide
 have wD:M6 b 0=2:=by
  unfold M6;rw[h0]
  rfl
 have r1:Of b 0 st=((none,3),st):=by unfold Of;rw[if_pos mJ,wD];unfold HD;rw[if_neg (by omega),Vg2 h2 Ck]
 have r2:=Uk h3 hr hw hh st;have s1:AV b 0 [35]=true:=by rw[AQ h0];decide
 have s2:AV b 3 [35]=false:=by
  have:b.drop 3=120::([32,61,32]++(DE (w:Int)++(szB++(DE (h:Int)++(szC++(rule++ViZ cr)))))++t):=by rw[h3];rfl
  rw[AQ this];decide
 obtain⟨m,hm⟩:∃m,b.length+1=m+1+1:=⟨b.length-1,by omega⟩;refine⟨_,?_,DD h3⟩;unfold SF;rw[hm];unfold L8;rw[s1,if_pos rfl,r1];dsimp only;unfold L8;rw[s2,if_neg (by decide)];dsimp only;rw[r2]
theorem Vh {b:zAa}{bx N:Int}(hf:J9 bx N=true){l:List (zAa)}{st st':LSt}{c:Nat}(hh:SF b 0 Oy=((none,c),st))(hT:Tks bx l st st'){u w v:zAa}(hs:Hf l u)(hw:Sep w)(h:b.drop c=u++(w++33::v))
  (h0:(HA st'.cells).2=0)(hn:((HA st'.cells).1.length:Int)<=N):HJ b bx N=((st'.law,(HA st'.cells).1),0,0):=by
 obtain⟨t1,t2⟩:=Va4 hT hs hw h;unfold HJ NR;rw[if_pos hf,hh];dsimp only;generalize II b bx (b.length+1) c st=M at t1 t2;obtain⟨⟨er,d⟩,st2⟩:=M;dsimp only at t1 t2;subst t1 t2;dsimp only;rw[if_pos (by simp;omega)]
def VgO (rec:Int->Int->Int->List Cl)(v:Nat)(x:Nd)(a b:Int)(k:Nat):List Cl:=
 if 1<x.lv then rec (x.kid k) (qa v a k) (qb v b k)else if 0<x.kid k then [⟨qa v a k,qb v b k,UInt8.ofNat (x.kid k).toNat⟩]else []
def NN (L:List Nd):Nat->Int->Int->Int->List Cl
 |0,_,_,_=>[]
 |v+1,n,x,y=>if n=0 then []else (List.range 4).flatMap λk=>VgO (NN L v) (v+1) (A9 L n) x y k
theorem QG (L:List Nd)(v:Nat)(x y:Int):NN L v 0 x y=[]:=by cases v <;> simp[NN]
def Vbu (L:List Nd):Int:=-(2^((BD L).toNat-1))
def Vdg (L:List Nd):List Cl:=NN L (BD L).toNat L.length (Vbu L) (Vbu L)
def Dz:Nat->QT->Int->Int->List Cl
 |0,_,_,_=>[]
 |v+1,t,x,y=>(List.range 4).flatMap λk=>if v=0 then (if 0<t.s k then [⟨qa 1 x k,qb 1 y k,UInt8.ofNat (t.s k).toNat⟩]else [])else Dz v (t.q k) (qa (v+1) x k) (qb (v+1) y k)
theorem IB:∀(v:Nat) (x y:Int),Dz v .nil x y=[]
 |0,_,_=>rfl
 |v+1,x,y=>by
  unfold Dz;rw[List.flatMap_eq_nil_iff];intro k _;split
  ·rfl
  ·exact IB v _ _
theorem Vdf {L:List Nd}(hl:AH L=true):∀(v n:Nat) (x y:Int),Lv L v n->NN L v (n:Int) x y=Dz v (sem L v n) x y
 |0,n,x,y,h=>rfl
 |v+1,n,x,y,h=>by
  rcases Xt n with h0 | h0
  ·subst h0;rw[F2,IB];exact QG L _ x y
  ·obtain⟨aN,_⟩:=h.num h0 hl;unfold NN Dz;rw[if_neg (by omega)];have key:∀k∈List.range 4,VgO (NN L v) (v+1) (A9 L (n:Int)) x y k=(if v=0 then (if 0<(sem L (v+1) n).s k then [⟨qa 1 x k,qb 1 y k,UInt8.ofNat ((sem L (v+1) n).s k).toNat⟩]else [])else Dz v ((sem L (v+1) n).q k) (qa (v+1) x k) (qb (v+1) y k)):=by
    intro k hk;have cK:k<4:=by simpa using hk
    unfold VgO;by_cases hv:v=0
    ·subst hv;have h1:¬1<(A9 L (n:Int)).lv:=by omega
     rw[if_neg h1,if_pos rfl,VbV hl h0 h h1 cK]
    ·have h1:1<(A9 L (n:Int)).lv:=by omega
     obtain⟨k1,k2,k3⟩:=Lv.kid hl h0 h h1 cK;rw[if_pos h1,if_neg hv,RP hl h0 h h1 cK,<-Vdf hl v _ _ _ k1,Int.toNat_of_nonneg k3]
   have:∀(l:zAb) (f g:Nat->List Cl),(∀k∈l,f k=g k)->l.flatMap f=l.flatMap g:=λl f g h=>by
    induction l with
    |nil=>rfl
    |cons a l ih=>rw[XN,XN,h a (by simp),ih λk hk=>h k (by simp[hk])]
   exact this _ _ _ key
theorem VlQ {α:Type}(f:Nat->List α):(List.range 4).flatMap f=f 0++(f 1++(f 2++f 3)):=by rw[show List.range 4=[0,1,2,3] from rfl];simp
theorem ViG {t:QT}(h:O4 t=true){k j:Nat}(hk:k<4)(hj:j<4)(hne:j≠3-k)(v:Nat)(x y:Int):Dz v ((t.q k).q j) x y=[]:=by rw[(Vbg h hk hj hne).1,IB]
theorem Oj {t:QT}(h:O4 t=true){k:Nat}(hk:k<4)(v:Nat)(x y:Int) :
  Dz (v+1) (t.q k) x y=if v=0 then (if 0<(t.q k).s (3-k)then [⟨qa 1 x (3-k),qb 1 y (3-k),UInt8.ofNat ((t.q k).s (3-k)).toNat⟩]else [])else Dz v ((t.q k).q (3-k)) (qa (v+1) x (3-k)) (qb (v+1) y (3-k)):=by
 have hs:∀j,j<4->j≠3-k->(t.q k).s j=0:=λj hj hne=>(Vbg h hk hj hne).2;have hq:∀j,j<4->j≠3-k->∀X Y,Dz v ((t.q k).q j) X Y=[]:=λj hj hne X Y=>ViG h hk hj hne v X Y;show (List.range 4).flatMap _=_;rw[VlQ];by_cases hv:v=0
 ·subst hv;simp only[if_true]
  match k,hk with
  |0,_=>simp[hs 0 (by omega) (by omega),hs 1 (by omega) (by omega),hs 2 (by omega) (by omega)]
  |1,_=>simp[hs 0 (by omega) (by omega),hs 1 (by omega) (by omega),hs 3 (by omega) (by omega)]
  |2,_=>simp[hs 0 (by omega) (by omega),hs 3 (by omega) (by omega),hs 2 (by omega) (by omega)]
  |3,_=>simp[hs 3 (by omega) (by omega),hs 1 (by omega) (by omega),hs 2 (by omega) (by omega)]
 ·simp only[if_neg hv]
  match k,hk with
  |0,_=>simp[hq 0 (by omega) (by omega),hq 1 (by omega) (by omega),hq 2 (by omega) (by omega)]
  |1,_=>simp[hq 0 (by omega) (by omega),hq 1 (by omega) (by omega),hq 3 (by omega) (by omega)]
  |2,_=>simp[hq 0 (by omega) (by omega),hq 3 (by omega) (by omega),hq 2 (by omega) (by omega)]
  |3,_=>simp[hq 3 (by omega) (by omega),hq 1 (by omega) (by omega),hq 2 (by omega) (by omega)]
theorem HK {v k:Nat}(hk:k<4)(x:Int):qa (v+1) (qa (v+2) x k) (3-k)=qa (v+1) (x+2^v) k/\qb (v+1) (qb (v+2) x k) (3-k)=qb (v+1) (x+2^v) k:=by
 have e:(2:Int)^(v+1)=2^v*2:=Xl _ _;unfold qa qb;simp only[show v+2-1=v+1 from rfl,VH,e];generalize (2:Int)^v=p
 match k,hk with
 |0,_=>simp
 |1,_=>simp;omega
 |2,_=>simp;omega
 |3,_=>simp;omega
theorem Vbz {v:Nat}{t:QT}(h:O4 t=true)(x y:Int):Dz (v+2) t x y=Dz (v+1) (HC (v+2) t) (x+2^v) (y+2^v):=by
 have e1:Dz (v+2) t x y=(List.range 4).flatMap λk=>Dz (v+1) (t.q k) (qa (v+2) x k) (qb (v+2) y k):=by show (List.range 4).flatMap _=_;simp only[show ¬v+1=0 from by omega,if_false]
 rw[e1,VlQ,Oj h (by omega),Oj h (by omega),Oj h (by omega),Oj h (by omega)];show _=(List.range 4).flatMap _;rw[VlQ];by_cases hv:v=0
 ·subst hv;simp only[if_true];rw[(HK (v:=0) (show 0<4 by omega) x).1,(HK (v:=0) (show 0<4 by omega) y).2,(HK (v:=0) (show 1<4 by omega) x).1,(HK (v:=0) (show 1<4 by omega) y).2,
   (HK (v:=0) (show 2<4 by omega) x).1,(HK (v:=0) (show 2<4 by omega) y).2,(HK (v:=0) (show 3<4 by omega) x).1,(HK (v:=0) (show 3<4 by omega) y).2]
  rfl
 ·simp only[if_neg hv];rw[(HK (v:=v) (show 0<4 by omega) x).1,(HK (v:=v) (show 0<4 by omega) y).2,(HK (v:=v) (show 1<4 by omega) x).1,(HK (v:=v) (show 1<4 by omega) y).2,
   (HK (v:=v) (show 2<4 by omega) x).1,(HK (v:=v) (show 2<4 by omega) y).2,(HK (v:=v) (show 3<4 by omega) x).1,(HK (v:=v) (show 3<4 by omega) y).2]
  unfold HC;rw[if_neg (by omega)]
  rfl
def crn (v:Nat):Int:=-(2^(v-1))
theorem Vf:∀(v:Nat) (t:QT),Ge v t->t≠.nil->Dz (Hx v t).1 (Hx v t).2 (crn (Hx v t).1) (crn (Hx v t).1)=Dz v t (crn v) (crn v)
 |0,t,_,_=>rfl
 |v+1,t,hg,hn=>by
  unfold Hx;cases hh:O4 t with
  |false=>rfl
  |true=>
   simp only[if_true];obtain⟨g1,g2⟩:=LW hg hh;rw[Vf v _ g1 g2];obtain⟨u,rfl⟩:∃u,v=u+1:=⟨v-1,by
    rcases hg.kind with h | ⟨h1,h2,_⟩ | ⟨h1,_⟩
    ·exact absurd h hn
    ·simp only[O4,h2,Wh]at hh;cases hh
    ·omega⟩
   rw[Vbz hh];have e:crn (u+2)+2^u=crn (u+1):=by unfold crn;have e:(2:Int)^(u+1)=2^u*2:=Xl _ _;simp only[show u+2-1=u+1 from rfl,VH,e];omega
   rw[e]
def VpU (S:List Cl):Prop:=∀a∈S,∀b∈S,a.x=b.x->a.y=b.y->a=b
theorem sq0 {a b:Int}{c:Cl}(h:M9 0 a b c):c.x=a/\c.y=b:=by unfold M9 at h;simp only[Int.pow_zero]at h;omega
theorem Ven (s:UInt8):UInt8.ofNat ((s.toNat:Int).toNat)=s:=by simp
theorem SG (d:Cl)(r:List Cl):Gu (d::r)=(d.s.toNat:Int):=rfl
theorem Uf:∀(v:Nat) (x y:Int) (S:List Cl),(∀c∈S,M9 v x y c)->(∀c∈S,c.s≠0)->VpU S->(S≠[]->1<=v)->∀c,c∈Dz v (FV v x y S) x y↔c∈S
 |0,x,y,S,h1,h2,h3,h4,c=>by
  have:S=[]:=Classical.byContradiction λh=>by have:=h4 h;omega
  subst this;simp[Dz]
 |v+1,x,y,S,h1,h2,h3,h4,c=>by
  by_cases hS:S=[]
  ·subst hS;rw[Ue,IB]
  ·have sub:∀k,∀d∈Bu (v+1) x y k S,d∈S:=λk d hd=>(W6.1 hd).1;by_cases hv:v=0
   ·subst hv;have hs:∀k,k<4->(FV 1 x y S).s k=Gu (Bu 1 x y k S):=by
     intro k hk;unfold FV;rw[if_neg hS,if_pos rfl]
     match k,hk with
     |0,_=>rfl
     |1,_=>rfl
     |2,_=>rfl
     |3,_=>rfl
    unfold Dz;rw[List.mem_flatMap];constructor
    ·rintro⟨k,hk,hc⟩;have cK:k<4:=by simpa using hk
     rw[if_pos rfl,hs k cK]at hc;split at hc
     ·rename_i hp;cases hq:Bu 1 x y k S with
      |nil=>rw[hq]at hp;exact absurd hp (by decide)
      |cons d r=>
       have hd:d∈Bu 1 x y k S:=by rw[hq];exact XF
       have Y1:=sub k d hd;obtain⟨e1,e2⟩:=sq0 (LC (v:=0) hd);rw[hq,SG,Ven,VB]at hc;have:c=d:=by rw[hc,<-e1,<-e2]
       rw[this];exact Y1
     ·cases hc
    ·intro hc;obtain⟨k,hk,dI⟩:=Kk (v:=0) (h1 c hc);refine⟨k,by simpa using hk,?_⟩;rw[if_pos rfl,hs k hk];have yC:c∈Bu 1 x y k S:=W6.2 ⟨hc,VcC.2 dI⟩;cases hq:Bu 1 x y k S with
     |nil=>rw[hq]at yC;cases yC
     |cons d r=>
      have hd:d∈Bu 1 x y k S:=by rw[hq];exact XF
      obtain⟨e1,e2⟩:=sq0 (LC (v:=0) hd);obtain⟨e3,e4⟩:=sq0 dI;have vS:d=c:=h3 d (sub k d hd) c hc (by rw[e1,e3]) (by rw[e2,e4]);subst vS;have hp:(0:Int)<(d.s.toNat:Int):=by have:=h2 d hc;have:d.s.toNat≠0:=λh=>this (WF.1 (by simpa using h));omega
      rw[SG,if_pos hp,Ven,VB,<-e1,<-e2]
   ·have hq:∀k,k<4->(FV (v+1) x y S).q k=FV v (qa (v+1) x k) (qb (v+1) y k) (Bu (v+1) x y k S):=by
     intro k hk
     conv=>lhs;unfold FV
     rw[if_neg hS,if_neg hv]
     match k,hk with
     |0,_=>rfl
     |1,_=>rfl
     |2,_=>rfl
     |3,_=>rfl
    have ih:∀k,∀d,d∈Dz v (FV v (qa (v+1) x k) (qb (v+1) y k) (Bu (v+1) x y k S)) (qa (v+1) x k) (qb (v+1) y k)↔d∈Bu (v+1) x y k S:=λk=>Uf v _ _ _ (λd hd=>LC hd) (λd hd=>h2 d (sub k d hd)) (λa ha b hb=>h3 a (sub k a ha) b (sub k b hb)) (λ_=>by omega);unfold Dz;rw[List.mem_flatMap];constructor
    ·rintro⟨k,hk,hc⟩;have cK:k<4:=by simpa using hk
     rw[if_neg hv,hq k cK]at hc;exact sub k c ((ih k c).1 hc)
    ·intro hc;obtain⟨k,hk,dI⟩:=Kk (h1 c hc);refine⟨k,by simpa using hk,?_⟩;rw[if_neg hv,hq k hk];exact (ih k c).2 (W6.2 ⟨hc,VcC.2 dI⟩)
theorem Vhx {S:List Cl}(h:Re S):VpU S:=by intro a ha b hb hx hy;have h1:=(RH h a).1 ha;have h2:=(RH h b).1 hb;have:BC ltC a=BC ltC b:=SO JQ (I7.2 ⟨hx,hy⟩);rw[this,h2]at h1;injection h1 with h1;exact h1.symm
theorem Vbb (l:List Cl):Re (FG l):=(LU l [] List.Pairwise.nil).1
theorem VfP (l:List Cl):Re (B1 l):=(Vbb l).filter _
theorem Vd6 {l:List Cl}(hv:A8 (B1 l)<=1329):(∀c,c∈Vdg (HA l).1↔c∈B1 l)/\((HA l).1=[]↔B1 l=[])/\EG (HA l).1=true/\(HA l).2=0:=by
 have hs:∀c∈B1 l,c.s≠0:=λc h=>Vc0 h;have hg:=VdU hs hv;have ho:=VfP l;rw[Vir,if_neg (by omega)];have cA:=(NH (B1 l)).1;have bT:=Uf (A8 (B1 l)) _ _ (B1 l) (λc hc=>MD cA (O0 hv c hc)) hs (Vhx ho) (λ_=>cA);obtain⟨hr,aG⟩:=Vav hg;refine⟨?_,?_,hr,rfl⟩
 ·by_cases ht:JB (B1 l)=.nil
  ·have e:En (A8 (B1 l)) (JB (B1 l))=[]:=by unfold En;rw[if_pos ht]
   intro c;dsimp only;rw[e,<-bT c];have:FV (A8 (B1 l)) (-(2^(A8 (B1 l)-1))) (-(2^(A8 (B1 l)-1))) (B1 l)=.nil:=ht;rw[this,IB];unfold Vdg;simp only[zXk];rw[show (((0:Nat):Int))=0 from rfl,QG]
  ·obtain⟨c1,c2,c3,c4⟩:=aG ht;intro c;have kI:=Vf _ _ hg ht;rw[<-bT c];show c∈Vdg (En (A8 (B1 l)) (JB (B1 l)))↔c∈Dz (A8 (B1 l)) (JB (B1 l)) (crn (A8 (B1 l))) (crn (A8 (B1 l)));rw[<-kI,<-c4];obtain⟨q1,q2⟩:=c3.num c2 c1.lo;generalize En (A8 (B1 l)) (JB (B1 l))=Q at c1 c2 c3 c4 q1;have eI:(BD Q).toNat=(Hx (A8 (B1 l)) (JB (B1 l))).1:=by unfold BD;omega
   unfold Vdg Vbu;rw[eI,Vdf c1.lo _ _ _ _ c3]
   rfl
 ·dsimp only;constructor
  ·intro h;by_cases ht:JB (B1 l)=.nil
   ·refine Classical.byContradiction λhne=>?_;obtain⟨w,hw⟩:∃w,A8 (B1 l)=w+1:=⟨A8 (B1 l)-1,by omega⟩;unfold JB at ht;rw[hw]at ht;exact VbK hne ht
   ·obtain⟨c1,c2,c3,c4⟩:=aG ht;rw[h]at c2;simp at c2
  ·intro h;rw[h];unfold En JB;rw[Ue,if_pos rfl]
theorem VdV {L:List Nd}{n:Nat}(hL:L.length<3518437200000)(hl:AH L=true)(hn:n<=L.length):(K0 L n).length<=L.length+1330:=by
 obtain⟨s1,s2,s3⟩:=Um hl hn;unfold K0;generalize EM L n=s at s1 s2 s3;obtain⟨M,r⟩:=s;dsimp only at s1 s2 s3 ⊢;obtain⟨H',D',w',v1,v2,v3,v4,v5⟩:=Vfc (L:=M) .no .no 0 0 (by omega) s1 (A9 M (r:Int)).lv.toNat r ((A9 M (r:Int)).lv.toNat+1) [] (List.replicate (M.length+1) 0) (.sl [] .ti) [.cel 0 (flat cN (List.replicate (M.length+1) 0))]
  s2 (.inr rfl) (Yp _) (Vo _) (by simp) ⟨.inl ⟨rfl,rfl⟩,rfl⟩ ⟨by simp,by simp,λj dd hj lD=>by have:=VE hj;rw[XE]at this;omega⟩
 have:=v4.le;omega
theorem UO {rows:List (zAa)}{X Y:Int}{f:Nat}{c:Cl}:∀i,i<=rows.length->(c∈KW rows X Y f i↔∃(j k:Nat) (r:zAa) (v:UInt8),f<=j/\j<i/\rows[j]? = some r/\r[k]? = some v/\v≠0/\c=⟨X+k,Y+((j-f:Nat):Int),v⟩)
 |0,_=>by
  constructor
  ·intro h;cases h
  ·rintro⟨j,k,r,v,_,h,_⟩;omega
 |i+1,hi=>by
  have ih:=UO (rows:=rows) (X:=X) (Y:=Y) (f:=f) (c:=c) i (by omega);have hg:rows[i]? = some (rows.getD i []):=by rw[Vm,Vl (show i<rows.length by omega)];rfl
  unfold KW;rw[VA,ih];constructor
  ·rintro (⟨j,k,r,v,h1,h2,h3⟩ | h)
   ·exact⟨j,k,r,v,h1,by omega,h3⟩
   ·split at h
    ·cases h
    ·rename_i hf;obtain⟨k,v,g1,g2,g3⟩:=(RY _ _).1 h;exact⟨i,k,_,v,by omega,by omega,hg,g1,g2,g3⟩
  ·rintro⟨j,k,r,v,h1,h2,h3,h4,h5,h6⟩;by_cases e:j=i
   ·subst e;rw[hg]at h3;injection h3 with h3;right;rw[if_neg (by omega),h3];exact (RY _ _).2 ⟨k,v,h4,h5,h6⟩
   ·exact .inl ⟨j,k,r,v,h1,by omega,h3,h4,h5,h6⟩
def szT (l:List (zAa)):Nat:=(l.map λt=>t.length+1).sum
theorem Oa (l m:List (zAa)):szT (l++m)=szT l+szT m:=by simp[szT]
theorem Vj9 {n:Nat}{s:zAa}(hs:s.length<=2)(hn:n<=999999999):(EL (n:Int) s).length<=12:=by
 unfold EL;split
 ·omega
 ·have e:DE (n:Int)=Di n:=by unfold DE;rw[if_neg (by omega)];rfl
  have:=Nf 9 n (by omega);rw[if_neg (by decide)]at this;rw[e,Vs];omega
theorem VeE (two:Bool):∀(k:Nat) (l:zAa),l.length<=k->l.length<=1000->szT (In two l)<=13*l.length
 |0,l,h,_=>by have e:l=[]:=V6 (by omega);subst e;rw[FW];simp[szT]
 |k+1,[],_,_=>by rw[FW];simp[szT]
 |k+1,b::l,h,h2=>by
  rw[Im];simp only[zXj]at h h2 ⊢;have gY:(l.takeWhile (· == b)).length<=l.length:=(WR _).length_le;have ih:=VeE two k (l.drop (l.takeWhile (· == b)).length) (by simp;omega) (by simp;omega);have h3:=Vj9 (n:=(l.takeWhile (· == b)).length+1) (Pp b.toNat two) (by omega);have h4:∀(t:zAa) m,szT (t::m)=t.length+1+szT m:=λt m=>by simp[szT]
  rw[h4];rw[V9]at ih;omega
theorem Vep (two:Bool){rows:List (zAa)}{w:Nat}(hw:∀r∈rows,r.length<=w)(cD:w<=1000)(hr:rows.length<=1000):∀i,i<=rows.length->szT (CO two rows i).1<=i*(13*w+13) /\ -1<=(CO two rows i).2
 |0,_=>⟨by simp[CO,szT],by simp[CO]⟩
 |i+1,hi=>by
  obtain⟨ih,ihl⟩:=Vep two hw cD hr i (by omega);have hil:i<rows.length:=by omega
  have mZ:rows.getD i []∈rows:=by rw[Vm,Vl hil];exact Vz hil
  have bV:=hw _ mZ;rw[We];unfold CO Ed;split
  ·exact⟨by omega,ihl⟩
  ·refine⟨?_,by dsimp only;omega⟩;dsimp only;rw[Oa,Oa];have hl:((rows.getD i []).take (Dw (rows.getD i []))).length<=w:=by rw[V5];omega
   have h2:=VeE two _ ((rows.getD i []).take (Dw (rows.getD i []))) (Vo _) (by omega);have h3:szT (if 0<=(CO two rows i).2 then [EL ((i:Int)-(CO two rows i).2) [36]]else [])<=13:=by
    split
    ·rename_i h0;rcases JP two rows i with ⟨_,hlt⟩ | ⟨_,hlt⟩
     ·have e:((i:Int)-(CO two rows i).2)=((i-(CO two rows i).2.toNat:Nat):Int):=by omega
      have:=Vj9 (n:=i-(CO two rows i).2.toNat) (s:=[36]) (by decide) (by omega);rw[e];simp[szT];omega
     ·omega
    ·simp[szT]
   have h4:13*((rows.getD i []).take (Dw (rows.getD i []))).length<=13*w:=Ww _ hl;omega
theorem Vhs {rows:List (zAa)}(h:RA rows=true):∀r∈rows,∀b∈r,b.toNat<=1:=by
 intro r hr b hb;obtain⟨j,hj,rfl⟩:=Yc.1 hr;obtain⟨i,hi,rfl⟩:=Yc.1 hb;unfold RA at h;rw[V7]at h;have h1:=h j (by simpa using hj);have e:rows.getD j []=rows[j]:=by rw[Vm,Vl hj];rfl
 rw[e,V7]at h1;have h2:=h1 i (by simpa using hi);rw[Vm,Vl hi,zXe]at h2;exact h2
set_option maxRecDepth 100000
def s8A:zAa:=[120,32,61,32,48,44,32,121,32,61,32,48,44,32,114,117,108,101,32,61,32,97,10,50,98,50,111,36,33]
def s8B:zAa:=[35,67,32,97,110,121,13,10,35,67,88,82,76,69,32,80,111,115,61,45,49,44,53,10,120,32,61,32,57,44,32,121,32,61,32,57,44,32,114,117,108,101,32,61,32,97,13,10,32,112,65,32,50,36,10,46,66,33,120]
def s8C:zAa:=[120,32,61,32,48,44,32,121,32,61,32,48,44,32,114,117,108,101,32,61,32,97,10,121,80,33]
def s8D:zAa:=[35,97,98,99]
def s8E:zAa:=[120,61]
def s8F:zAa:=[120,32,61,32,48,44,32,121,32,61,32,48,44,32,114,117,108,101,32,61,32,97,10,98,50,111,33]
def s8S:zAa:=[35,67,88,82,76,69,32,80,111,115,61,50,44,48,10,120,32,61,32,50,44,32,121,32,61,32,49,44,32,114,117,108,101,32,61,32,97,10,50,111,33,10]
def s8T:zAa:=[35,67,88,82,76,69,32,80,111,115,61,45,49,44,53,10,120,32,61,32,50,44,32,121,32,61,32,51,44,32,114,117,108,101,32,61,32,97,10,112,65,50,36,46,66,33,10]
def l8A:List Nd:=(HJ s8A 1000 100000).1.2
def l8B:List Nd:=(HJ s8B 1000 100000).1.2
theorem y8A:HJ s8A 1000 100000=(([97],l8A),0,0):=by decide +kernel
theorem y8B:HJ s8B 1000 100000=(([97],l8B),0,0):=by decide +kernel
theorem Vqb:Jm 4 [97] l8A 1000 100000=0:=by decide +kernel
theorem VpZ:Jm 4 [97] l8B 1000 100000=0:=by decide +kernel
theorem Vqa:Vnt [97] l8A=s8S:=by decide +kernel
theorem VpY:Vnt [97] l8B=s8T:=by decide +kernel
theorem y8C:(HJ s8C 1000 100000).2=(24,2):=by decide +kernel
theorem y8D:UN s8D=(10::Ck,true):=by decide +kernel
theorem VpX:(HJ (s8D++10::Ck) 1000 100000).2.2=0:=by decide +kernel
theorem y8E:(UN s8E).2=false:=by decide +kernel
theorem y8F:(HJ s8F 2 9).2.2=4:=by decide +kernel
theorem VnP:l8A.length<1000/\l8B.length<1000:=by decide +kernel
theorem VeY (H:Aa):UeD H=some (.ret (.agg [.i6 1000,.i6 100000]),H):=by have hb:AD (some [(.i6 0),(.i6 0)]) [(0,1,(.i6 1000)),(1,1,(.i6 100000))]=some (.agg [.i6 1000,.i6 100000]):=rfl;unfold UeD;simp only[GMw,HPw,Nat.reduceAdd,Nat.reduceLT,hb]
theorem VeV (H:Aa):UeK H=some (.ret (.bool true),H):=by
 have hA:=λK=>FN s8A 1000 100000 K (by decide);have hB:=λK=>FN s8B 1000 100000 K (by decide);have hC:=λK=>FN s8C 1000 100000 K (by decide);have hD:=λK=>Sc s8D K (by decide);have hD2:=λK=>FN (s8D++10::Ck) 1000 100000 K (by decide);have hE:=λK=>Sc s8E K (by decide);have hF:=λK=>FN s8F 2 9 K (by decide);obtain⟨hlA,hlB⟩:=VnP;have hT:=λK=>Vcb [97] l8A 1000 100000 K (by decide) (by omega) (by decide) (by decide);have hU:=λK=>Vcb [97] l8B 1000 100000 K (by decide) (by omega) (by decide) (by decide);have eZ:=y8C;generalize HJ s8C 1000 100000=C at hC eZ;obtain⟨⟨c1,c2⟩,c3,c4⟩:=C;simp only[VC]at eZ;obtain⟨rfl,rfl⟩:=eZ;have hx2:=VpX;generalize HJ (s8D++10::Ck) 1000 100000=R at hD2 hx2;obtain⟨⟨r1,r2⟩,r3,r4⟩:=R;dsimp only at hx2;subst hx2;have vP:=y8E;generalize UN s8E=D at hE vP;obtain⟨d1,d2⟩:=D;dsimp only at vP;subst vP;have hf2:=y8F;generalize HJ s8F 2 9=F at hF hf2;obtain⟨⟨e1,e2⟩,e3,e4⟩:=F;dsimp only at hf2;subst hf2;have aQ:Af .none .add (.str s8D) (.str (10::Ck))=some (.str (s8D++10::Ck)):=Cq (by decide);have Za:AD (some [(.i6 0),(.i6 0)]) [(0,1,(.i6 2)),(1,1,(.i6 9))]=some (.agg [.i6 2,.i6 9]):=rfl;rw[y8A]at hA;rw[y8B]at hB;rw[y8D]at hD;rw[if_pos Vqb,Vqa]at hT;rw[if_pos VpZ,VpY]at hU;generalize l8A=LA at hA hT;generalize l8B=LB at hB hU;have hlim:Ix 1000 100000=[.i6 1000,.i6 100000]:=rfl;rw[hlim]at hT hU;simp only[L9,JX]at hA hB hC hD2 hT hU hF;dsimp only at hD hE;unfold UeK;rw[show ([120,32,61,32,48,44,32,121,32,61,32,48,44,32,114,117,108,101,32,61,32,97,10,50,98,50,111,36,33]:zAa)=s8A from rfl,
  show ([35,67,32,97,110,121,13,10,35,67,88,82,76,69,32,80,111,115,61,45,49,44,53,10,120,32,61,32,57,44,32,121,32,61,32,57,44,32,114,117,108,101,32,61,32,97,13,10,32,112,65,32,50,36,10,46,66,33,120]:zAa)=s8B from rfl,
  show ([120,32,61,32,48,44,32,121,32,61,32,48,44,32,114,117,108,101,32,61,32,97,10,121,80,33]:zAa)=s8C from rfl,
  show ([35,97,98,99]:zAa)=s8D from rfl,show ([120,61]:zAa)=s8E from rfl,
  show ([120,32,61,32,48,44,32,121,32,61,32,48,44,32,114,117,108,101,32,61,32,97,10,98,50,111,33]:zAa)=s8F from rfl,
  show ([35,67,88,82,76,69,32,80,111,115,61,50,44,48,10,120,32,61,32,50,44,32,121,32,61,32,49,44,32,114,117,108,101,32,61,32,97,10,50,111,33,10]:zAa)=s8S from rfl,
  show ([35,67,88,82,76,69,32,80,111,115,61,45,49,44,53,10,120,32,61,32,50,44,32,121,32,61,32,51,44,32,114,117,108,101,32,61,32,97,10,112,65,50,36,46,66,33,10]:zAa)=s8T from rfl]
 simp only[Sl.gliderref11_Wide_eq,Sl.rle_Read_eq,Sl.gliderref13_Text_eq,Sl.rle_Hint_eq,GMw,HPw,Nat.reduceAdd,Nat.reduceLT,VeY,hA,hB,hC,aQ,hD,hD2,hE,hT,hU,Za,hF,JK,beq_self_eq_true]
theorem Vf0 {k:Nat}(l:List Cl)(hl:l.length<=1000000)(hk:A8 (B1 l)<=k)(hk2:k<=1329):(HA l).1.length<=l.length*k+2000:=by
 rw[VaQ];unfold Su;have hS:=UH l;generalize B1 l=S at hS hk;split
 ·simp
 ·rename_i hv;have hp:=U7 (A8 S) [] (-(2^(A8 S-1))) (-(2^(A8 S-1))) S;generalize Bv (A8 S) [] (-(2^(A8 S-1))) (-(2^(A8 S-1))) S=p at hp;have h1:S.length*A8 S<=l.length*k:=XC hS hk;have h2:l.length*k<=l.length*1329:=Ww _ hk2;simp only[zXk,Vr]at hp;split
  ·rename_i ho;simp only[VjP,Vx,zXe]at ho;have:=VdV (L:=p.1) (n:=p.2) (by omega) ho.1.1 (by omega);show (K0 p.1 p.2).length<=_;omega
  ·simp
theorem VfC {w:Nat}{c:Cl}(h:Eb w c=true):∀f v,v<=w->IK f v c<=w
 |0,v,hv=>hv
 |f+1,v,hv=>by
  unfold IK;split
  ·exact hv
  ·rename_i hn;refine VfC h f (v+1) ?_;by_cases e:v=w
   ·subst e;exact absurd h hn
   ·omega
theorem Vcx {w:Nat}:∀(S:List Cl) (v:Nat),v<=w->(∀c∈S,Eb w c=true)->S.foldl (λv c=>IK (1330-v) v c) v<=w
 |[],v,hv,_=>hv
 |d::S,v,hv,h=>by rw[List.foldl_cons];exact Vcx S _ (VfC (h d (by simp)) _ v hv) λc hc=>h c (by simp[hc])
theorem Vd4 {C:List Cl}(hn:C.length<=1000)(h:∀c∈C,0<=c.x/\c.x<60/\0<=c.y/\c.y<60):(HA C).2=0/\(HA C).1.length<=100000:=by
 have hw:∀c∈B1 C,Eb 7 c=true:=λc hc=>by
  have:=h c (UG hc);have e:(2:Int)^(7-1)=64:=by decide
  unfold Eb inZ;rw[e];simp only[Vx,zXe];omega
 have aN:A8 (B1 C)<=7:=Vcx _ 1 (by omega) hw;refine⟨(Vd6 (by omega)).2.2.2,?_⟩;have:=Vf0 C (by omega) aN (by decide);omega
theorem VbX (X Y:Int):∀r:zAa,(GO X Y r).length<=r.length
 |[]=>Vo _
 |b::l=>by
  have:=VbX (X+1) Y l;unfold GO;rw[Vs,zXj];split
  ·simp;omega
  ·simp;omega
theorem UP {rows:List (zAa)}{X Y:Int}{f w:Nat}(hw:∀r∈rows,r.length<=w):∀i,i<=rows.length->(KW rows X Y f i).length<=i*w
 |0,_=>by simp[KW]
 |i+1,h=>by
  have ih:=UP (X:=X) (Y:=Y) (f:=f) hw i (by omega);have hil:i<rows.length:=by omega
  have mZ:rows.getD i []∈rows:=by rw[Vm,Vl hil];exact Vz hil
  have h1:=hw _ mZ;unfold KW;rw[Vs,We];split
  ·simp;omega
  ·have:=VbX X (Y+((i-f:Nat):Int)) (rows.getD i []);omega
theorem VcK (p:Nat->Prop):∀n,(∀j,j<n->¬p j)\/∃f,f<n/\p f/\∀j,j<f->¬p j
 |0=>.inl λj h=>by omega
 |n+1=>by
  rcases VcK p n with h | ⟨f,h1,h2,h3⟩
  ·by_cases hp:p n
   ·exact .inr ⟨n,by omega,hp,h⟩
   ·left;intro j hj;by_cases e:j=n
    ·subst e;exact hp
    ·exact h j (by omega)
  ·exact .inr ⟨f,by omega,h2,h3⟩
theorem ViM {rows:List (zAa)}(hn:rows.length<=30)(hw:∀r∈rows,r.length<=30)(law:zAa):∃st',Tks 60 (CO (RA rows) rows rows.length).1 { Oy with law:=law } st'/\st'.law=law/\(HA st'.cells).2=0/\(HA st'.cells).1.length<=100000:=by
 obtain⟨f,hf,hu⟩:∃f,(∀j,j<f->Dw (rows.getD j [])=0)/\(f<rows.length->Dw (rows.getD f [])≠0):=by
  rcases VcK (λj=>Dw (rows.getD j [])≠0) rows.length with h | ⟨f,h1,h2,h3⟩
  ·exact⟨rows.length,λj hj=>Classical.byContradiction λhh=>h j hj hh,λh=>by omega⟩
  ·exact⟨f,λj hj=>Classical.byContradiction λhh=>h3 j hj hh,λ_=>h2⟩
 obtain⟨g1,g2⟩:=VbL (bx:=60) (rows:=rows) (two:=RA rows) (f:=f) (st:={ Oy with law:=law }) (by decide) (λht=>Vhs ht) (λr hr=>by have:=hw r hr;omega) (by omega) ⟨rfl,rfl⟩ hf hu rows.length (Vo _);have key:∀C:List Cl,C=KW rows 0 0 f rows.length->(HA C).2=0/\(HA C).1.length<=100000:=by intro C hC;have hl:=UP (X:=0) (Y:=0) (f:=f) hw rows.length (Vo _);have hm:rows.length*30<=30*30:=VV _ hn;refine Vd4 (by rw[hC];omega) λc hc=>?_;rw[hC]at hc;obtain⟨j,k,r,v,h1,h2,h3,h4,h5,h6⟩:=(UO _ (Vo _)).1 hc;have hk:=(Vn.1 h4).1;have hr:=hw r (VE h3);rw[h6];dsimp only;omega
 rcases VT f rows.length with h | h
 ·obtain⟨y,_,_,_,st',t1,t2,t3,t4,t5,t6⟩:=g2 h;have:=key st'.cells (by rw[t6];rfl);exact⟨st',t1,t2,this.1,this.2⟩
 ·have e:=g1 h;rw[e];have:=key [] (by rw[Km _ h]);exact⟨_,.nil _,rfl,this.1,this.2⟩
def No (wh:List Bool)(n j:Nat):zAa:=if j<wh.length/\j+1<n then (if wh.getD j false then [32,13,10]else [10,32,32])else []
theorem Vk8 (wh:List Bool)(n j:Nat):Sep (No wh n j):=by
 unfold No;split
 ·split
  ·exact .sp (.crlf .nil)
  ·exact .lf (.sp (.sp .nil))
 ·exact .nil
def Ea (wh:List Bool)(l:List (zAa)):Nat->zAa
 |0=>[]
 |i+1=>Ea wh l i++(l.getD i []++No wh l.length i)
def FD (l:List (zAa)):Nat->zAa
 |0=>[]
 |i+1=>FD l i++l.getD i []
theorem Pc (T:List (zAa))(e:List (zAa)):∀i,i<=T.length->Hf (T.take i) (FD (T++e) i)
 |0,_=>.nil
 |i+1,h=>by
  have ih:=Pc T e i (by omega);have hi:i<T.length:=by omega
  have hg:(T++e).getD i []=T[i]:=by rw[Vm,Vp hi,Vl hi];rfl
  have:=ih.snoc (t:=T[i]) Sep.nil;rw[Vw hi];unfold FD;rw[hg];exact this
theorem OY (wh:List Bool)(T:List (zAa))(e:List (zAa)):∀i,i<=T.length->∃u w,Hf (T.take i) u/\Sep w/\Ea wh (T++e) i=u++w
 |0,_=>⟨[],[],.nil,.nil,rfl⟩
 |i+1,h=>by
  obtain⟨u,w,h1,h2,h3⟩:=OY wh T e i (by omega);have hi:i<T.length:=by omega
  have hg:(T++e).getD i []=T[i]:=by rw[Vm,Vp hi,Vl hi];rfl
  refine⟨u++(w++T[i]),No wh (T++e).length i,?_,Vk8 _ _ _,?_⟩
  ·rw[Vw hi];exact h1.snoc h2
  ·unfold Ea;rw[hg,h3];simp[Vu]
theorem Vk2 (wh:List Bool)(l:List (zAa)):∀i,i<=l.length->(FD l i).length<=szT l/\(Ea wh l i).length<=4*szT l:=by
 have key:∀i,i<=l.length->(FD l i).length+i=szT (l.take i)/\(Ea wh l i).length<=szT (l.take i)+2*i:=by
  intro i
  induction i with
  |zero=>intro _;simp[FD,Ea,szT]
  |succ i ih=>
   intro h;obtain⟨h1,h2⟩:=ih (by omega);have hi:i<l.length:=by omega
   have hg:l.getD i []=l[i]:=by rw[Vm,Vl hi];rfl
   have hs:(No wh l.length i).length<=3:=by
    unfold No;split
    ·split <;> simp
    ·simp
   rw[Vw hi,Oa];have e:szT [l[i]]=l[i].length+1:=by simp[szT]
   unfold FD Ea;rw[hg,e];simp only[Vs];omega
 intro i hi;obtain⟨h1,h2⟩:=key i hi;have h3:szT l=szT (l.take i)+szT (l.drop i):=by rw[<-Oa,VW]
 omega
def SI:zAa:=[120,32,61,32,48,44,32,121,32,61,32,48,44,32,114,117,108,101,32,61,32,97,10]
def LZ:zAa:=[35,120,10,120,32,61,32,48,44,32,121,32,61,32,48,44,32,114,117,108,101,32,61,32,97,13,10]
theorem VlJ:SI=Po 0 0 [97] false:=by
 have:DE ((0:Nat):Int)=[48]:=by decide +kernel
 unfold Po;rw[this];rfl
theorem VlI:LZ=35::120::10::Po 0 0 [97] true:=by
 have:DE ((0:Nat):Int)=[48]:=by decide +kernel
 unfold Po;rw[this];rfl
theorem Vb1 {rows:List (zAa)}(hn:rows.length<=30)(hw:∀r∈rows,r.length<=30)(wh:List Bool)(Kc:zAa):∃Q:List Nd,Q.length<=100000 /\
  HJ (SI++FD (CL rows) (CL rows).length) 60 100000=(([97],Q),0,0)/\HJ (LZ++Ea wh (CL rows) (CL rows).length++Kc) 60 100000=(([97],Q),0,0):=by
 obtain⟨st',t1,t2,t3,t4⟩:=ViM hn hw [97];have hd:(Di 0).length<=400:=by rw[IA (by omega)];simp
 have hr:HH [97]=true:=by decide +kernel
 unfold CL;generalize (CO (RA rows) rows rows.length).1=T at t1;have hg:(T++[[33]]).getD T.length []=[33]:=by rw[Vm,VG (Vo _)];simp
 have hl:(T++[[33]]).length=T.length+1:=by simp
 have ha:=Pc T [[33]] T.length (Vo _);obtain⟨u,w,b1,b2,b3⟩:=OY wh T [[33]] T.length (Vo _);rw[Wc]at ha b1;have ea:FD (T++[[33]]) (T++[[33]]).length=FD (T++[[33]]) T.length++([]++33::[]):=by
  rw[hl]
  conv=>lhs;unfold FD
  rw[hg];rfl
 have eb:Ea wh (T++[[33]]) (T++[[33]]).length=u++(w++[33]):=by
  rw[hl]
  conv=>lhs;unfold Ea
  have:No wh (T++[[33]]).length T.length=[]:=by unfold No;rw[if_neg (by rw[hl];omega)]
  rw[hg,b3,this];simp
 refine⟨(HA st'.cells).1,t4,?_,?_⟩
 ·obtain⟨c,c1,c2⟩:=ViH (b:=SI++FD (T++[[33]]) (T++[[33]]).length) (t:=FD (T++[[33]]) (T++[[33]]).length) (by rw[VlJ]) hr hd hd Oy;have:=Vh (bx:=60) (N:=100000) (by decide) c1 t1 ha .nil (by rw[c2,ea]) t3 (by omega);rw[this,t2]
 ·obtain⟨c,c1,c2⟩:=ViI (cr:=true) (w:=0) (h:=0) (b:=LZ++Ea wh (T++[[33]]) (T++[[33]]).length++Kc) (t:=Ea wh (T++[[33]]) (T++[[33]]).length++Kc) (by rw[VlI];simp) hr hd hd Oy;have:=Vh (bx:=60) (N:=100000) (by decide) c1 t1 b1 b2 (v:=Kc) (by rw[c2,eb];simp) t3 (by omega);rw[this,t2]
def Fg (n1:Bool)(l1:zAb)(n2:Bool)(l2:zAb)(rows:List (zAa)):List Ab:=[.bool n1,.sl (enL cU l1) .no,.bool n2,.sl (enL cU l2) .no,.sl (enL cS rows) .no]
def cBl (b:Bool):List Ab:=[.bool b]
instance:Sz cBl 1:=⟨λ_=>rfl⟩
section
variable {n1 n2:Bool}{l1 l2:zAb}{rows:List (zAa)}
theorem VeZ (most:Int)(hm:most<1152921504606846976)(H:Aa):Uac (.agg (Fg n1 l1 n2 l2 rows)) (.i6 most) H =
  some (.ret (.bool (decide ((rows.length:Int)>most)||decide ((l1.length:Int)>50)||decide ((l2.length:Int)>50) || !((List.range rows.length).all λi=>!decide (((rows.getD i []).length:Int)>most)))),H):=by
 have hbx:B3 true 5 (.agg (Fg n1 l1 n2 l2 rows)) H=some (.ptr H.length 0 0,H++[.cel 0 (Fg n1 l1 n2 l2 rows)]):=BH rfl rfl;have hg:(H++[Blk.cel 0 (Fg n1 l1 n2 l2 rows)])[H.length]? = some (.cel 0 (Fg n1 l1 n2 l2 rows)):=Ap;have g4:Ad false 1 (.ptr H.length 0 4) (H++[Blk.cel 0 (Fg n1 l1 n2 l2 rows)])=some (.sl (enL cS rows) .no):=by simp only[Ad,As hg,zXa];rfl
 have g1:Ad false 1 (.ptr H.length 0 1) (H++[Blk.cel 0 (Fg n1 l1 n2 l2 rows)])=some (.sl (enL cU l1) .no):=by simp only[Ad,As hg,zXa];rfl
 have g3:Ad false 1 (.ptr H.length 0 3) (H++[Blk.cel 0 (Fg n1 l1 n2 l2 rows)])=some (.sl (enL cU l2) .no):=by simp only[Ad,As hg,zXa];rfl
 have aM:∀b,rP H (.bool b) (H++[Blk.cel 0 (Fg n1 l1 n2 l2 rows)])=some (.ret (.bool b),H):=λb=>Dq;unfold Uac;simp only[GMw,hbx,Ae,Vr,g4,Ax];cases d1:decide ((rows.length:Int)>most)with
 |true=>simp only[d1,GMw,aM]
 |false=>
  simp only[d1,GMw,Ae,Vr,g1,Ax];cases d2:decide ((l1.length:Int)>50)with
  |true=>simp only[d2,GMw,aM]
  |false=>
   simp only[d2,GMw,Ae,Vr,g3,Ax,show 2+1=3 from rfl];cases d3:decide ((l2.length:Int)>50)with
   |true=>simp only[d3,GMw,aM]
   |false=>
    simp only[d3,GMw];have hn:rows.length<1152921504606846976:=by have:=of_decide_eq_false d1;omega
    have key:=DA (G:=λrec1 vs H1=>Udp H rec1 (ag vs 0) (ag vs 1) (ag vs 2) H1) rows.length (λi=>!decide (((rows.getD i []).length:Int)>most)) (λi=>[.i6 most,.ptr H.length 0 0,.i6 (i:Int)]) (H++[Blk.cel 0 (Fg n1 l1 n2 l2 rows)]) (some (.ret (.bool false),H)) (some (.ret (.bool true),H)) hn (λrec i hi=>?_) (λrec=>?_)
    ·refine key.trans ?_;cases (List.range rows.length).all λi=>!decide (((rows.getD i []).length:Int)>most) <;> rfl
    ·have aE:(i:Int)<(rows.length:Int):=by omega
     have e:rows.getD i []=rows[i]:=by rw[Vm,Vl hi];rfl
     unfold Udp;simp only[GMw,Ae,Vr,g4,Ax,aE,Az hi,A0,zXh,CU,e,Av (show i<9223372036854775807 by omega)];cases d4:decide ((rows[i].length:Int)>most)with
     |true=>simp only[d4,GMw,aM,VR,Vq,if_false]
     |false=>simp only[d4,GMw,Wg,if_true]
    ·unfold Udp;simp only[GMw,Ae,Vr,g4,Ax,Wb,aM]
theorem Vae (hn:rows.length<1152921504606846976)(h1:l1.length<=549755813888)(h2:l2.length<=549755813888)(H:Aa):UeB (.agg (Fg n1 l1 n2 l2 rows)) H =
  some (.ret (.bool (((List.range rows.length).all λi=>decide ((rows.getD i []).length=(rows.getD 0 []).length)&&decide ((rows.getD i []).length<=1000))&&(Et n1 l1&&Et n2 l2&&decide ((rows.length:Int)<=1000)))),H):=by
 have hbx:B3 true 5 (.agg (Fg n1 l1 n2 l2 rows)) H=some (.ptr H.length 0 0,H++[.cel 0 (Fg n1 l1 n2 l2 rows)]):=BH rfl rfl;have hg:(H++[Blk.cel 0 (Fg n1 l1 n2 l2 rows)])[H.length]? = some (.cel 0 (Fg n1 l1 n2 l2 rows)):=Ap;have g4:Ad false 1 (.ptr H.length 0 4) (H++[Blk.cel 0 (Fg n1 l1 n2 l2 rows)])=some (.sl (enL cS rows) .no):=by simp only[Ad,As hg,zXa];rfl
 have g0:Ad true 2 (.ptr H.length 0 0) (H++[Blk.cel 0 (Fg n1 l1 n2 l2 rows)])=some (.agg [.bool n1,.sl (enL cU l1) .no]):=by simp only[Ad,As hg,zXa];rfl
 have g2:Ad true 2 (.ptr H.length 0 2) (H++[Blk.cel 0 (Fg n1 l1 n2 l2 rows)])=some (.agg [.bool n2,.sl (enL cU l2) .no]):=by simp only[Ad,As hg,zXa];rfl
 have aM:∀b,rP H (.bool b) (H++[Blk.cel 0 (Fg n1 l1 n2 l2 rows)])=some (.ret (.bool b),H):=λb=>Dq;have r1:=λK=>U3 n1 l1 .no K h1;have r2:=λK=>U3 n2 l2 .no K h2;unfold UeB;simp only[GMw,hbx];have key:=DA (G:=λrec1 vs H1=>Udq H rec1 (ag vs 0) (ag vs 1) H1) rows.length (λi=>decide ((rows.getD i []).length=(rows.getD 0 []).length)&&decide ((rows.getD i []).length<=1000)) (λi=>[.ptr H.length 0 0,.i6 (i:Int)]) (H++[Blk.cel 0 (Fg n1 l1 n2 l2 rows)])
  (some (.ret (.bool (Et n1 l1&&Et n2 l2&&decide ((rows.length:Int)<=1000))),H)) (some (.ret (.bool false),H)) hn (λrec i hi=>?_) (λrec=>?_)
 ·refine key.trans ?_;cases (List.range rows.length).all λi=>decide ((rows.getD i []).length=(rows.getD 0 []).length)&&decide ((rows.getD i []).length<=1000) <;> rfl
 ·have aE:(i:Int)<(rows.length:Int):=by omega
  have h0:0<rows.length:=by omega
  have e:rows.getD i []=rows[i]:=by rw[Vm,Vl hi];rfl
  have e0:rows.getD 0 []=rows[0]:=by rw[Vm,Vl h0];rfl
  have ix0:Aw 1 (.sl (enL cS rows) .no) (.i6 0)=some (.cptr (cS rows[0]) 0):=Az (f:=cS) (i:=0) h0;have dn:(!decide ((rows[i].length:Int)=(rows[0].length:Int))) = !decide (rows[i].length=rows[0].length):=by congr 1;rw[V8];simp;omega
  have dg:decide ((rows[i].length:Int)>1000) = !decide (rows[i].length<=1000):=by rw[V8];simp;omega
  unfold Udq;simp only[GMw,Ae,Vr,g4,Bm,Ax,aE,Az hi,ix0,A0,zXh,CU,e,e0,dn,Av (show i<9223372036854775807 by omega)];cases d4:decide (rows[i].length=rows[0].length)with
  |false=>simp only[d4,GMw,aM,Wg,Wh,Vq,if_false]
  |true=>
   simp only[d4,GMw,Ae,Vr,g4,Bm,Az hi,A0,zXh,CU,dg,VR,zXn];cases d5:decide (rows[i].length<=1000)with
   |false=>simp only[d5,GMw,aM,Wg,Vq,if_false]
   |true=>simp only[d5,GMw,VR,if_true]
 ·unfold Udq;simp only[GMw,Ae,Vr,Nat.add_zero,g4,Ax,Wb,g0,r1];cases d1:Et n1 l1 with
  |false=>simp only[d1,GMw,aM]
  |true=>
   simp only[d1,GMw,Ae,Vr,g2,r2];cases d2:Et n2 l2 with
   |false=>simp only[d2,GMw,aM]
   |true=>simp only[d2,GMw,Ae,Vr,g4,Ax,aM]

end
theorem Vb2 {rows:List (zAa)}(hn:rows.length<=30)(hw:∀r∈rows,r.length<=30)(wh:List Bool)(Kc:zAa)(hm:Kc.length<=100)(Zi:wh.length<=1000)(H G:Aa) :
  Am (λrec1 vs H1=>Ub4 H rec1 (ag vs 0) (ag vs 1) (ag vs 2) (ag vs 3) (ag vs 4) (ag vs 5) H1) AP [.sl (enL cBl wh) .no,.str Kc,.sl (enL cS (CL rows)) .no,.str SI,.str LZ,.i6 0] (H++G)=some (.ret (.bool true),H):=by
 obtain⟨Q,hQ,sI,lW⟩:=Vb1 hn hw wh Kc;have hsz:szT (CL rows)<=20000:=by have h1:=Vep (RA rows) (w:=30) hw (by decide) (by omega) rows.length (Vo _);have h2:rows.length*(13*30+13)<=30*403:=VV _ hn;unfold CL;rw[Oa];have h3:szT [[33]]=2:=rfl;omega
 have cM:(CL rows).length<=20000:=by
  have:∀l:List (zAa),l.length<=szT l:=λl=>by
   induction l with
   |nil=>simp
   |cons t l ih=>
    have:szT (t::l)=t.length+1+szT l:=by simp[szT]
    rw[this,zXj];omega
  have:=this (CL rows);omega
 generalize CL rows=l at *;have hts:=Vk2 wh l;have xK:SI.length=23:=rfl;have zW:LZ.length=27:=rfl;have aM:∀(b:Bool) (X:Aa),rP H (.bool b) ((H++G)++X)=some (.ret (.bool b),H):=λb X=>by rw[Vu];exact Dq
 have key:=CA (G:=λrec1 vs H1=>Ub4 H rec1 (ag vs 0) (ag vs 1) (ag vs 2) (ag vs 3) (ag vs 4) (ag vs 5) H1) l.length (λi=>[.sl (enL cBl wh) .no,.str Kc,.sl (enL cS l) .no,.str (SI++FD l i),.str (LZ++Ea wh l i),.i6 (i:Int)]) (λ_=>H++G) (some (.ret (.bool true),H)) (by omega) (λrec i hi=>?_) (λrec=>?_)
 ·have e1:SI++FD l 0=SI:=VF _;have e2:LZ++Ea wh l 0=LZ:=VF _;simp only[e1,e2]at key;exact key
 ·have aE:(i:Int)<(l.length:Int):=by omega
  have hg:l.getD i []=l[i]:=by rw[Vm,Vl hi];rfl
  obtain⟨s1,s2⟩:=hts i (by omega);obtain⟨s3,s4⟩:=hts (i+1) (by omega);have bD:=Av (show i<9223372036854775807 by omega);have ha:FD l (i+1)=FD l i++l[i]:=by
   conv=>lhs;unfold FD
   rw[hg]
  have hb:Ea wh l (i+1)=Ea wh l i++(l[i]++No wh l.length i):=by
   conv=>lhs;unfold Ea
   rw[hg]
  have cA:l[i].length<=20000:=by rw[ha,Vs]at s3;omega
  have a1:∀ek,Af ek .add (.str (SI++FD l i)) (.str l[i])=some (.str (SI++FD l (i+1))):=λek=>by rw[Cq (by rw[Vs];omega),ha,Vu]
  have b1:∀ek,Af ek .add (.str (LZ++Ea wh l i)) (.str l[i])=some (.str (LZ++Ea wh l i++l[i])):=λek=>Cq (by rw[Vs];omega);have b2:∀ek (s:zAa),s.length<=3->Af ek .add (.str (LZ++Ea wh l i++l[i])) (.str s)=some (.str (LZ++Ea wh l i++l[i]++s)):=λek s hs=>Cq (by simp only[Vs];omega);have Y9:LZ++Ea wh l (i+1)=LZ++Ea wh l i++l[i]++No wh l.length i:=by rw[hb];simp[Vu]
  have d1:decide ((i:Int)<(wh.length:Int))=decide (i<wh.length):=by rw[V8];simp
  have d2:decide (((i+1:Nat):Int)<(l.length:Int))=decide (i+1<l.length):=by rw[V8];simp;omega
  rw[Y9];unfold Ub4 Uet;simp only[GMw,Ax,aE,Az hi,A0,zXh,Bm,a1,b1,d1,Al,Aj];by_cases c1:i<wh.length
  ·by_cases c2:i+1<l.length
   ·have hs:No wh l.length i=if wh[i]then [32,13,10]else [10,32,32]:=by unfold No;rw[if_pos ⟨c1,c2⟩,Vm,Vl c1];rfl
    rw[hs];simp only[GMw,zXc c1,bD,d2,zXc c2,Ax,Az c1,cBl,A0,zXh];cases bV:wh[i]with
    |true=>simp only[GMw,bV,b2 _ [32,13,10] (by decide),bD,if_true,Al,Aj]
    |false=>simp only[GMw,bV,b2 _ [10,32,32] (by decide),bD,Vq,if_false,Al,Aj]
   ·have hs:No wh l.length i=[]:=by unfold No;rw[if_neg (λh=>c2 h.2)]
    rw[hs,VF];simp only[GMw,zXc c1,bD,d2,zXd c2,Ax,Al,Aj]
  ·have hs:No wh l.length i=[]:=by unfold No;rw[if_neg (λh=>c1 h.1)]
   rw[hs,VF];simp only[GMw,zXd c1,bD,Al,Aj]
 ·obtain⟨s1,s2⟩:=hts l.length (Vo _);have hx1:=λK=>FN (SI++FD l l.length) 60 100000 K (by rw[Vs];omega);have hx2:=λK=>FN (LZ++Ea wh l l.length++Kc) 60 100000 K (by simp only[Vs];omega);have aQ:∀ek,Af ek .add (.str (LZ++Ea wh l l.length)) (.str Kc)=some (.str (LZ++Ea wh l l.length++Kc)):=λek=>Cq (by simp only[Vs];omega);rw[sI]at hx1;rw[lW]at hx2;simp only[L9,JX]at hx1 hx2;have hs:=λK=>VhT [97] [97] Q Q K (by omega);simp only[JX]at hs;have b4:AD (some [(.i6 0),(.i6 0)]) [(0,1,(.i6 60)),(1,1,(.i6 100000))]=some (.agg [.i6 60,.i6 100000]):=rfl;have b5:Ai 2 (.ptr 0 0 0) (.agg [.i6 60,.i6 100000]) [Blk.cel 0 [.i6 0,.i6 0]]=some [Blk.cel 0 [.i6 60,.i6 100000]]:=rfl;generalize H++G=K at aM ⊢;unfold Ub4;simp only[Sl.rle_Read_eq,Sl.gliderref11_Same_eq,GMw,HPw,Nat.reduceAdd,Nat.reduceLT,Ax,Wb,b4,b5,hx1,hx2,aQ,hs,beq_self_eq_true,aM]
theorem TA {n1 n2:Bool}{l1 l2:zAb}{rows:List (zAa)}{wh:List Bool}{Kc:zAa}(H:Aa)(hx:Lim l1)(hy:Lim l2) :
  UdX (.agg (Fg n1 l1 n2 l2 rows)) (.sl (enL cBl wh) .no) (.str Kc) H=some (.ret (.bool true),H):=by
 have hbx:B3 true 5 (.agg (Fg n1 l1 n2 l2 rows)) H=some (.ptr H.length 0 0,H++[.cel 0 (Fg n1 l1 n2 l2 rows)]):=BH rfl rfl;have hg:(H++[Blk.cel 0 (Fg n1 l1 n2 l2 rows)])[H.length]? = some (.cel 0 (Fg n1 l1 n2 l2 rows)):=Ap;have gw:Ad true 5 (.ptr H.length 0 0) (H++[Blk.cel 0 (Fg n1 l1 n2 l2 rows)])=some (.agg (Fg n1 l1 n2 l2 rows)):=by simp only[Ad,As hg,zXa];rfl
 have aM:∀b,rP H (.bool b) (H++[Blk.cel 0 (Fg n1 l1 n2 l2 rows)])=some (.ret (.bool b),H):=λb=>Dq;have Yu:=λK=>VeZ (n1:=n1) (l1:=l1) (n2:=n2) (l2:=l2) (rows:=rows) 30 (by decide) K;unfold UdX;simp only[Sl.gliderlaw18_alive_eq,Sl.gliderref10_Great_eq,Sl.gliderref10_Right_eq,Sl.gliderref13_Tokens_eq,GMw,hbx,VeV,gw,Yu];cases jW:(decide ((rows.length:Int)>30)||decide ((l1.length:Int)>50)||decide ((l2.length:Int)>50) || !((List.range rows.length).all λi=>!decide (((rows.getD i []).length:Int)>30)))with
 |true=>simp only[GMw,aM]
 |false=>
  simp only[X5,decide_eq_false_iff_not,XG,V7,WV,Wk]at jW;obtain⟨⟨⟨c1,c2⟩,c3⟩,c4⟩:=jW;have hrow:∀r∈rows,r.length<=30:=λr hr=>by obtain⟨i,hi,rfl⟩:=Yc.1 hr;have:=c4 i hi;rw[Vm,Vl hi]at this;simp only[Option.getD_some,decide_eq_false_iff_not]at this;omega
  have mY:∃r:Bool,(∀K,UeB (.agg (Fg n1 l1 n2 l2 rows)) K=some (.ret (.bool r),K))/\(r=true->Et n1 l1=true/\Et n2 l2=true):=
   ⟨_,λK=>Vae (by omega) (by omega) (by omega) K,λh=>by simp only[Vx]at h;exact⟨h.2.1.1,h.2.1.2⟩⟩
  obtain⟨r,sI,lW⟩:=mY;simp only[GMw,gw,sI];cases r with
  |false=>simp only[GMw,aM]
  |true=>
   obtain⟨o1,o2⟩:=lW rfl;have eg:Fg n1 l1 n2 l2 rows=BX (DL n1 l1) (DL n2 l2) (.sl (enL cS rows) .no):=by unfold Fg BX;rw[<-R3 o1 hx,<-R3 o2 hy];rfl
   have htk:=λK=>Sd (DL n1 l1) (DL n2 l2) rows .no K (by omega) (λr hr=>by have:=hrow r hr;omega);rw[<-eg]at htk;by_cases w1:wh.length>1000
   ·have hd:decide ((wh.length:Int)>1000)=true:=zXc (by omega);simp only[GMw,Ax,hd,aM]
   ·have hd:decide ((wh.length:Int)>1000)=false:=zXd (by omega);by_cases w2:Kc.length>100
    ·have bU:decide ((Kc.length:Int)>100)=true:=zXc (by omega);simp only[GMw,Ax,CU,hd,bU,aM]
    ·have bU:decide ((Kc.length:Int)>100)=false:=zXd (by omega);simp only[GMw,Ax,CU,hd,bU,gw,htk];exact Vb2 (by omega) hrow wh Kc (by omega) (by omega) H [Blk.cel 0 (Fg n1 l1 n2 l2 rows)]
def Shp (P:Program):Nat->TypeId->List Ab->Prop
 |0,_,_=>False
 |f+1,t,vas=>match P.underlying t with
  |some .bool=>∃b,vas=[.bool b]
  |some (.int k)=>∃n,vas=[.int k n]/\(Lit.int k n).wf=true
  |some .string=>∃s,vas=[.str s]/\s.length<=maxLen
  |some (.slice e)=>∃es,vas=[.sl es .no]/\es.length<=maxLen/\∀x∈es,Shp P f e x
  |some (.struct fs)=>∃ps:List (List Ab),vas=ps.flatten/\ps.length=fs.toList.length/\∀(i:Nat) (fd:Field) (p:List Ab),fs.toList[i]? = some fd->ps[i]? = some p->Shp P f fd.type p
  |some (.array n e)=>∃ps:List (List Ab),vas=ps.flatten/\ps.length=n/\∀p∈ps,Shp P f e p
  |_=>False
def VnO (P:Program)(total:Nat):List Field->Nat->Bool
 |[],off=>off == total
 |f::r,off=>f.offset == off&&VnO P total r (off+P.cellsOf f.type)
def Oc (P:Program):Nat->TypeId->Bool
 |0,_=>false
 |f+1,t=>match P.underlying t with
  |some .bool=>true
  |some (.int _)=>true
  |some .string=>true
  |some (.slice e)=>decide (0<P.cellsOf e)&&Oc P f e
  |some (.struct fs)=>VnO P (P.cellsOf t) fs.toList 0&&fs.toList.all λfd=>Oc P f fd.type
  |some (.array n e)=>decide (P.cellsOf t=n*P.cellsOf e)&&Oc P f e
  |_=>false
theorem S0 {α β:Type}{f:α->Option β}:∀ {l:List α} {r:List β},l.mapM f=some r->∀a∈l,∃b,f a=some b
 |[],_,_,a,ha=>by cases ha
 |x::l,r,h,a,ha=>by
  rw[Yd]at h;cases hx:f x with
  |none=>simp[hx]at h
  |some b=>
   cases hl:l.mapM f with
   |none=>simp[hx,hl]at h
   |some bs=>
    rcases Wf.1 ha with rfl | ha
    ·exact⟨b,hx⟩
    ·exact S0 hl a ha
theorem S1 {α β:Type}{f:α->Option β}:∀ {l:List α} {r:List β},l.mapM f=some r->r.length=l.length/\∀(i:Nat) (a:α),l[i]? = some a->r[i]? = f a
 |[],r,h=>by
  have:r=[]:=by simpa using h.symm
  subst this;exact⟨rfl,λi a ha=>by simp at ha⟩
 |x::l,r,h=>by
  rw[Yd]at h;cases hx:f x with
  |none=>simp[hx]at h
  |some b=>
   cases hl:l.mapM f with
   |none=>simp[hx,hl]at h
   |some bs=>
    have:r=b::bs:=by simpa[hx,hl]using h.symm
    subst this;obtain⟨h1,h2⟩:=S1 hl;refine⟨by simp[h1],λi a ha=>?_⟩;cases i with
    |zero=>simp at ha;subst ha;simp[hx]
    |succ i=>simp at ha ⊢;exact h2 i a ha
theorem Vo4 (W:World)(b o:Nat):(MA W).I b o=W.cell? ⟨b,o,none⟩:=rfl
section
variable {H:Type}{enc:TypeId×Value->H}{P:Program}{w:World}{base:Nat}{spare:Nat->Bool}{held:Bool}
def Vdt (enc:TypeId×Value->H)(P:Program)(w:World)(base:Nat)(spare:Nat->Bool)(held:Bool)(f fuel:Nat):Prop:=
 ∀(t:TypeId) (cs:List Value) (x:DataW H×List MemPlace),Oc P f t=true->DataW.trod enc P w base spare held fuel t cs=some x->∃vas,A1 (MA w) vas cs/\(∀c∈vas,BG c=true)/\Shp P f t vas
theorem Q7 {f fuel:Nat}(ih:Vdt enc P w base spare held f fuel)(cs:List Value):∀(fs:List Field) (off:Nat) (r:List (DataW H×List MemPlace)),VnO P cs.length fs off=true->(fs.all λfd=>Oc P f fd.type)=true ->
  (fs.mapM λfd=>DataW.trod enc P w base spare held fuel fd.type ((cs.drop fd.offset).take (P.cellsOf fd.type)))=some r->(∀fd∈fs,∀(c:List Value) (x:DataW H×List MemPlace),DataW.trod enc P w base spare held fuel fd.type c=some x->True) ->
  ∃ps:List (List Ab),A1 (MA w) ps.flatten (cs.drop off)/\(∀c∈ps.flatten,BG c=true)/\ps.length=fs.length/\∀(i:Nat) (fd:Field) (p:List Ab),fs[i]? = some fd->ps[i]? = some p->Shp P f fd.type p
 |[],off,r,iJ,_,_,_=>by
  have:off=cs.length:=by simpa[VnO]using iJ
  subst this;exact⟨[],by simpa using A1.nil _,λc hc=>by simp at hc,rfl,λi fd p h=>by simp at h⟩
 |fd::fs,off,r,iJ,hs,hm,ht=>by
  simp only[VnO,Vx,beq_iff_eq]at iJ;obtain⟨ho,iJ⟩:=iJ;simp only[List.all_cons,Vx]at hs;rw[Yd]at hm;cases hx:DataW.trod enc P w base spare held fuel fd.type ((cs.drop fd.offset).take (P.cellsOf fd.type))with
  |none=>simp[hx]at hm
  |some x=>
   cases hl:fs.mapM λfd=>DataW.trod enc P w base spare held fuel fd.type ((cs.drop fd.offset).take (P.cellsOf fd.type))with
   |none=>simp[hx,hl]at hm
   |some xs=>
    obtain⟨vas,a1,a2,a3⟩:=ih fd.type _ x hs.1 hx;obtain⟨ps,b1,b2,b3,b4⟩:=Q7 ih cs fs (off+P.cellsOf fd.type) xs iJ hs.2 hl (λ_ _ _ _ _=>trivial);refine⟨vas::ps,?_,λc hc=>?_,by simp[b3],λi fd' p h1 h2=>?_⟩
    ·rw[List.flatten_cons];have e:cs.drop off=(cs.drop off).take (P.cellsOf fd.type)++cs.drop (off+P.cellsOf fd.type):=by rw[<-Wp];exact (VW _ _).symm
     rw[e];rw[ho]at a1;exact a1.append b1
    ·rw[List.flatten_cons]at hc;rcases VA.1 hc with hc | hc
     ·exact a2 c hc
     ·exact b2 c hc
    ·cases i with
     |zero=>simp at h1 h2;subst h1;subst h2;exact a3
     |succ i=>exact b4 i fd' p (by simpa using h1) (by simpa using h2)
theorem Ss {f fuel:Nat}(ih:Vdt enc P w base spare held f fuel){e:TypeId}(hs:Oc P f e=true)(cs:List Value):∀(d i n:Nat),i+d=n->cs.length=n*P.cellsOf e ->
  (∀j,j<n->∃x,DataW.trod enc P w base spare held fuel e ((cs.drop (j*P.cellsOf e)).take (P.cellsOf e))=some x) ->
  ∃ps:List (List Ab),A1 (MA w) ps.flatten (cs.drop (i*P.cellsOf e))/\(∀c∈ps.flatten,BG c=true)/\ps.length=d/\∀p∈ps,Shp P f e p
 |0,i,n,hi,hl,_=>by have:cs.drop (i*P.cellsOf e)=[]:=Xk (by rw[hl,show i=n by omega];exact Vo _);rw[this];exact⟨[],A1.nil _,λc hc=>by simp at hc,rfl,λp h=>by simp at h⟩
 |d+1,i,n,hi,hl,hm=>by
  obtain⟨x,hx⟩:=hm i (by omega);obtain⟨vas,a1,a2,a3⟩:=ih e _ x hs hx;obtain⟨ps,b1,b2,b3,b4⟩:=Ss ih hs cs d (i+1) n (by omega) hl hm;refine⟨vas::ps,?_,λc hc=>?_,by simp[b3],λp hp=>?_⟩
  ·rw[List.flatten_cons];have e':cs.drop (i*P.cellsOf e)=(cs.drop (i*P.cellsOf e)).take (P.cellsOf e)++cs.drop ((i+1)*P.cellsOf e):=by rw[XA,<-Wp];exact (VW _ _).symm
   rw[e'];exact a1.append b1
  ·rw[List.flatten_cons]at hc;rcases VA.1 hc with hc | hc
   ·exact a2 c hc
   ·exact b2 c hc
  ·rcases Wf.1 hp with rfl | hp
   ·exact a3
   ·exact b4 p hp
theorem Ni {a:Addr}{n:Nat}{r:List Value}(h:w.cells? base a n=some r):r.length=n/\∀j,j<n->w.cell? (a.add j)=r[j]? := by
 unfold World.cells? at h;split at h
 ·obtain⟨h1,h2⟩:=S1 h;refine⟨by simpa using h1,λj hj=>(h2 j j (Wx hj)).symm⟩
 ·cases h
theorem Viq {f fuel:Nat}(ih:Vdt enc P w base spare held f fuel){e:TypeId}(hpos:0<P.cellsOf e)(hs:Oc P f e=true)(a:Addr)(len cap:Nat)(hc:len<=cap)
  (hm:∀i,i<len->∃x,(w.cells? base (a.add (i*P.cellsOf e)) (P.cellsOf e)).bind (DataW.trod enc P w base spare held fuel e)=some x) :
  ∃es tk,Au (MA w) (.sl es tk) (.slice (some a) len cap)/\(tk=.no)/\es.length=len/\∀x∈es,Shp P f e x:=by
 by_cases h0:len=0
 ·subst h0;exact⟨[],.no,.sl0 trivial (λh=>by cases h),rfl,rfl,λx hx=>by cases hx⟩
 ·have each:∀i,∃vas:List Ab,i<len->∃r,w.cells? base (a.add (i*P.cellsOf e)) (P.cellsOf e)=some r/\A1 (MA w) vas r/\(∀c∈vas,BG c=true)/\Shp P f e vas:=by
   intro i;by_cases hi:i<len
   ·obtain⟨x,hx⟩:=hm i hi;cases hr:w.cells? base (a.add (i*P.cellsOf e)) (P.cellsOf e)with
    |none=>simp[hr]at hx
    |some r=>rw[hr,zXa]at hx;obtain⟨vas,a1,a2,a3⟩:=ih e r x hs hx;exact⟨vas,λ_=>⟨r,rfl,a1,a2,a3⟩⟩
   ·exact⟨[],λh=>absurd h hi⟩
  obtain⟨g,hg⟩:=Classical.axiomOfChoice each;have hg:∀i,i<len->∃r,w.cells? base (a.add (i*P.cellsOf e)) (P.cellsOf e)=some r/\A1 (MA w) (g i) r/\(∀c∈g i,BG c=true)/\Shp P f e (g i):=hg;have hsp:a.spot=none:=by
   obtain⟨r,h1,_⟩:=hg 0 (by omega);obtain⟨h2,h3⟩:=Ni h1;have h4:=h3 0 hpos;have h5:(a.add (0*P.cellsOf e)).add 0=a:=by simp[Addr.add]
   rw[h5,Vl (by omega)]at h4;unfold World.cell? at h4;split at h4
   ·split at h4
    ·cases h4
    ·rename_i hh;simpa using hh
   ·cases h4
  obtain⟨b,o,sp⟩:=a;simp only at hsp;subst hsp;have aQ:∀i j,((⟨b,o,none⟩:Addr).add (i*P.cellsOf e)).add j=⟨b,o+(i*P.cellsOf e+j),none⟩:=λi j=>by rw[CW,CW,VN]
  refine⟨(List.range len).map g,.no,?_,rfl,by simp,λx hx=>?_⟩
  ·have hl:((List.range len).map g).length=len:=by simp
   have key:=Au.sl (E:=MA w) (es:=(List.range len).map g) (tk:=.no) (b:=b) (o:=o) (s:=P.cellsOf e) (cap:=cap) (λi j=>(w.cell? ⟨b,o+(i*P.cellsOf e+j),none⟩).getD default)
    (λi x hx=>?_) (λi j hi hj=>?_) (λi x j c hx hc=>?_) (λi x j c hx hc=>?_) (by rw[hl];exact hc) trivial
   ·rw[hl]at key;exact key
   ·have hi:i<len:=by have:=(Vn.1 hx).1;simpa using this
    rw[VK,Wx hi]at hx;simp at hx;subst hx;obtain⟨r,h1,h2,_⟩:=hg i hi;rw[h2.1,(Ni h1).1]
   ·rw[hl]at hi;obtain⟨r,h1,h2,_⟩:=hg i hi;obtain⟨h3,h4⟩:=Ni h1;have h5:=h4 j hj;rw[aQ]at h5;rw[Vo4,h5,Vl (by omega)];rfl
   ·have hi:i<len:=by have:=(Vn.1 hx).1;simpa using this
    rw[VK,Wx hi]at hx;simp at hx;subst hx;obtain⟨r,h1,h2,h6,_⟩:=hg i hi;exact h6 c (VE hc)
   ·have hi:i<len:=by have:=(Vn.1 hx).1;simpa using this
    rw[VK,Wx hi]at hx;simp at hx;subst hx;obtain⟨r,h1,h2,h6,_⟩:=hg i hi;obtain⟨h3,h4⟩:=Ni h1;have hj:j<P.cellsOf e:=by have:=(Vn.1 hc).1;rw[h2.1,h3]at this;exact this
    have h5:=h4 j hj;rw[aQ]at h5;refine h2.2 j c _ hc ?_;rw[<-h5,h5,Vl (by omega)];rfl
  ·simp only[WM,WV]at hx;obtain⟨i,hi,rfl⟩:=hx;obtain⟨r,_,_,_,h7⟩:=hg i hi;exact h7
theorem Oo {E:Env}{x:Ab}{v:Value}(h:Au E x v):A1 E [x] [v]:=.cons h (.nil _)
theorem Pg:∀(f fuel:Nat),Vdt enc P w base spare held f fuel
 |0,_=>λt cs x hs _=>by simp[Oc]at hs
 |_+1,0=>λt cs x _ h=>by simp[DataW.trod]at h
 |f+1,fuel+1=>λt cs x hs h=>by
  have ih:=Pg f fuel;unfold Oc at hs;unfold Shp;cases hu:P.underlying t with
  |none=>rw[hu]at hs;cases hs
  |some td=>
   rw[hu]at hs;unfold DataW.trod at h;rw[hu]at h;cases td with
   |bool=>
    simp only at h;split at h
    all_goals first | (rename_i hq;cases hq;done) | skip
    all_goals first | (cases h;done) | skip
    ·rename_i b hq;exact⟨[.bool b],Oo (.bool b),λc hc=>by simp at hc;subst hc;rfl,b,rfl⟩
   |int k=>
    simp only at h;split at h
    all_goals first | (rename_i hq;cases hq;done) | skip
    all_goals first | (cases h;done) | skip
    ·rename_i k2 k' n heq;cases heq;split at h
     ·rename_i hc;obtain⟨rfl,hw⟩:=hc;exact⟨[.int _ _],Oo (.int _ _),λc hc=>by simp at hc;subst hc;rfl,_,rfl,hw⟩
     ·cases h
   |string=>
    simp only at h;split at h
    all_goals first | (rename_i hq;cases hq;done) | skip
    all_goals first | (cases h;done) | skip
    ·rename_i s heq;split at h
     ·rename_i hc;have e:Au (MA w) (.str s.data.toList) (.string s):=by
       have e:s=⟨s.data.toList.toArray⟩:=by cases s;simp
       rw[e];exact .str _
      refine⟨[.str s.data.toList],Oo e,λc hc=>by simp at hc;subst hc;rfl,_,rfl,hc⟩
     ·cases h
   |slice e=>
    simp only[Vx,zXe]at hs;simp only at h;split at h
    all_goals first | (rename_i hq;cases hq;done) | skip
    all_goals first | (cases h;done) | skip
    ·exact⟨[.sl [] .no],Oo (.sl0 trivial (λ_=>rfl)),λc hc=>by simp at hc;subst hc;rfl,[],rfl,VL _,λx hx=>by cases hx⟩
    ·rename_i e2 a len cap heq;cases heq;split at h
     ·rename_i hc;obtain⟨h1,h2,h3⟩:=hc;cases hm:(List.range len).mapM λi=>(w.cells? base (a.add (i*P.cellsOf e)) (P.cellsOf e)).bind (DataW.trod enc P w base spare held fuel e)with
      |none=>rw[hm]at h;cases h
      |some elems=>obtain⟨es,tk,k1,rfl,k2,k3⟩:=Viq ih hs.1 hs.2 a len cap h2 (λi hi=>S0 hm i (by simpa using hi));exact⟨[.sl es .no],Oo k1,λc hc=>by simp at hc;subst hc;rfl,es,rfl,by omega,k3⟩
     ·cases h
   |struct fs=>
    simp only[Vx]at hs;simp only at h;split at h
    ·rename_i hc;cases hm:fs.toList.mapM λfd=>DataW.trod enc P w base spare held fuel fd.type ((cs.drop fd.offset).take (P.cellsOf fd.type))with
     |none=>rw[hm]at h;cases h
     |some xs=>obtain⟨ps,b1,b2,b3,b4⟩:=Q7 ih cs fs.toList 0 xs (by rw[hc];exact hs.1) hs.2 hm (λ_ _ _ _ _=>trivial);exact⟨ps.flatten,by simpa using b1,b2,ps,rfl,b3,b4⟩
    ·cases h
   |array n e=>
    simp only[Vx,zXe]at hs;simp only at h;split at h
    ·rename_i hc;cases hm:(List.range n).mapM λi=>DataW.trod enc P w base spare held fuel e ((cs.drop (i*P.cellsOf e)).take (P.cellsOf e))with
     |none=>rw[hm]at h;cases h
     |some xs=>obtain⟨ps,b1,b2,b3,b4⟩:=Ss ih hs.2 cs n 0 n (by omega) (by rw[hc];exact hs.1) (λj hj=>S0 hm j (by simpa using hj));exact⟨ps.flatten,by simpa using b1,b2,ps,rfl,b3,b4⟩
    ·cases h
   |_=>cases hs
theorem Vmx {r:Reach}{b0 f:Nat}{t:TypeId}{v:Value}{d:DataW H}{ps:List MemPlace}(hs:Oc P f t=true)(aO:Value.okWide P w r b0 t v)(hd:DataW.Trod enc P w base spare held t v d ps)
  (hu:(match P.underlying t with | some (.slice _)=>true | some (.int _)=>true | some .string=>true | some .bool=>true | _=>false)=true):∃x,Au (MA w) x v/\Shp P f t [x]:=by
 obtain⟨fuel,hf⟩:=hd;have hc:v.cells.toList=[v]:=by
  unfold Value.okWide Cell.okWide Cell.ok at aO;cases hx:P.underlying t with
  |none=>rw[hx]at hu;cases hu
  |some td=>
   rw[hx]at hu aO;cases td <;> first | (cases hu;done) | skip
   all_goals (cases v <;> first | (simp[Value.cells];done) | (simp at aO;done) | (exact aO.elim;done))
 rw[hc]at hf;obtain⟨vas,a1,a2,a3⟩:=Pg f fuel t [v] _ hs hf;have hl:=a1.1
 match vas,hl with
 |[x],_=>exact⟨x,a1.2 0 x v rfl rfl,a3⟩
theorem Vmy {r:Reach}{b0 f:Nat}{t:TypeId}{v:Value}{d:DataW H}{ps:List MemPlace}(hs:Oc P f t=true)(aO:Value.okWide P w r b0 t v)(hd:DataW.Trod enc P w base spare held t v d ps)
  (hu:(match P.underlying t with | some (.struct _)=>true | some (.array _ _)=>true | _=>false)=true):∃vas,Au (MA w) (.agg vas) v/\Shp P f t vas:=by
 obtain⟨fuel,hf⟩:=hd;have hc:∃cs,v=.agg cs:=by
  unfold Value.okWide at aO;cases hx:P.underlying t with
  |none=>rw[hx]at hu;cases hu
  |some td=>
   rw[hx]at hu aO;cases td <;> first | (cases hu;done) | skip
   all_goals (obtain⟨cs,rfl,_⟩:=aO;exact⟨cs,rfl⟩)
 obtain⟨cs,rfl⟩:=hc;obtain⟨vas,a1,a2,a3⟩:=Pg f fuel t _ _ hs hf;exact⟨vas,Au.agg_of a1,a3⟩
theorem Vmw {r:Reach}{b0 f:Nat}{t e:TypeId}{v:Value}{d:DataW H}{ps:List MemPlace}(hu:P.underlying t=some (.slice e))(hs:Oc P (f+1) t=true)(aO:Value.okWide P w r b0 t v)(hd:DataW.Trod enc P w base spare held t v d ps) :
  ∃es,Au (MA w) (.sl es .no) v/\(∀x∈es,Shp P f e x)/\es.length<=maxLen/\(es=[]\/∃elems spare,d=.slice elems spare/\elems.length=es.length):=by
 obtain⟨x,h1,h2⟩:=Vmx hs aO hd (by rw[hu]);unfold Shp at h2;rw[hu]at h2;obtain⟨es,h3,h4,h5⟩:=h2;injection h3 with h3 _;subst h3;refine⟨es,h1,h5,h4,?_⟩;obtain⟨fuel,hf⟩:=hd;cases fuel with
 |zero=>simp[DataW.trod]at hf
 |succ fuel=>
  unfold DataW.trod at hf;rw[hu]at hf;cases h1 with
  |sl0 _ _=>exact .inl rfl
  |sl fv hl hI hm hv hc ht=>
   rename_i b o s cap;right;have e1:(Value.slice (some ⟨b,o,none⟩) es.length cap).cells.toList=[.slice (some ⟨b,o,none⟩) es.length cap]:=rfl;rw[e1]at hf;simp only at hf;split at hf
   ·cases uS:(List.range es.length).mapM λi=>(w.cells? base (Addr.add ⟨b,o,none⟩ (i*P.cellsOf e)) (P.cellsOf e)).bind (DataW.trod enc P w base spare held fuel e)with
    |none=>rw[uS]at hf;cases hf
    |some elems=>rw[uS,zXa]at hf;obtain⟨q1,_⟩:=S1 uS;rw[Option.map_eq_some_iff]at hf;obtain⟨rest,_,hf⟩:=hf;injection hf with hf _;exact⟨_,_,hf.symm,by simpa using q1⟩
   ·cases hf

end
section
variable {P:Program}{f:Nat}{t e:TypeId}{vas:List Ab}
theorem Vk6 {k:IntKind}(hu:P.underlying t=some (.int k))(h:Shp P (f+1) t vas):∃n,vas=[.int k n]/\(Lit.int k n).wf=true:=by unfold Shp at h;rw[hu]at h;exact h
theorem VbR (hu:P.underlying t=some .bool)(h:Shp P (f+1) t vas):∃b,vas=[.bool b]:=by unfold Shp at h;rw[hu]at h;exact h
theorem Vk5 (hu:P.underlying t=some .string)(h:Shp P (f+1) t vas):∃s,vas=[.str s]/\s.length<=maxLen:=by unfold Shp at h;rw[hu]at h;exact h
theorem VjE (hu:P.underlying t=some (.slice e))(h:Shp P (f+1) t vas):∃es,vas=[.sl es .no]/\es.length<=maxLen/\∀x∈es,Shp P f e x:=by unfold Shp at h;rw[hu]at h;exact h
theorem VjD {fs:Array Field}(hu:P.underlying t=some (.struct fs))(h:Shp P (f+1) t vas):∃ps:List (List Ab),vas=ps.flatten/\ps.length=fs.toList.length/\∀(i:Nat) (fd:Field) (p:List Ab),fs.toList[i]? = some fd->ps[i]? = some p->Shp P f fd.type p:=by unfold Shp at h;rw[hu]at h;exact h
theorem Vqc {k:IntKind}{n:Int}(h:(Lit.int k n).wf=true):k.min<=n/\n<=k.max:=by simp only[Lit.wf,Vx,zXe]at h;exact h
theorem Vnb {n:Int}(h:(Lit.int .u32 n).wf=true):0<=n/\n<4294967296:=by have h1:=Vqc h;rw[show IntKind.u32.min=0 from rfl,show IntKind.u32.max=4294967295 from rfl]at h1;omega
theorem Rm {α:Type}{g:α->List Ab}{p:α->Prop}:∀ {es:List (List Ab)},(∀x∈es,∃a,x=g a/\p a)->∃l:List α,es=enL g l/\∀a∈l,p a
 |[],_=>⟨[],rfl,λa h=>by cases h⟩
 |x::es,h=>by obtain⟨a,rfl,ha⟩:=h x (by simp);obtain⟨l,rfl,hl⟩:=Rm (g:=g) (p:=p) (es:=es) λy hy=>h y (by simp[hy]);exact⟨a::l,rfl,λb hb=>by rcases Wf.1 hb with rfl | hb;exact ha;exact hl b hb⟩
theorem Ve8 (h1:P.underlying t=some (.slice e))(h2:P.underlying e=some (.int .u32))(h:Shp P (f+2) t vas):∃l:zAb,vas=[.sl (enL cU l) .no]/\Lim l/\l.length<=maxLen:=by
 obtain⟨es,rfl,hl,he⟩:=VjE h1 h;obtain⟨l,rfl,hp⟩:=Rm (g:=cU) (p:=λn=>n<4294967296) (es:=es) λx hx=>by obtain⟨n,rfl,hw⟩:=Vk6 h2 (he x hx);obtain⟨w1,w2⟩:=Vnb hw;exact⟨n.toNat,by show [Ab.int .u32 n]=[Ab.int .u32 (n.toNat:Int)];rw[Int.toNat_of_nonneg w1],by omega⟩
 exact⟨l,rfl,hp,by simpa using hl⟩
structure Vo6 (P:Program)(tb:TypeId):Prop where
 ex:∃(f0 f1:Field) (e:TypeId),P.underlying tb=some (.struct #[f0,f1])/\P.underlying f0.type=some .bool/\P.underlying f1.type=some (.slice e)/\P.underlying e=some (.int .u32)
theorem Ve9 {tb:TypeId}(hb:Vo6 P tb)(h:Shp P (f+3) tb vas):∃n l,vas=[.bool n,.sl (enL cU l) .no]/\Lim l:=by
 obtain⟨f0,f1,e,h1,h2,h3,h4⟩:=hb.ex;obtain⟨ps,rfl,hl,hp⟩:=VjD h1 h
 match ps,hl with
 |[p0,p1],_=>obtain⟨n,rfl⟩:=VbR h2 (hp 0 f0 p0 rfl rfl);obtain⟨l,rfl,hlim,_⟩:=Ve8 h3 h4 (hp 1 f1 p1 rfl rfl);exact⟨n,l,rfl,hlim⟩

end
end Go.Gm
