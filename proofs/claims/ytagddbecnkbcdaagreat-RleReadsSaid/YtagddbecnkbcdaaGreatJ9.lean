/- Texts of this proof, joined. -/
import Derived.Test.YtagddbecnkbcdaaGreatJ5
import Derived.Test.YtagddbecnkbcdaaGreatJ6
import Derived.Test.YtagddbecnkbcdaaGreatJ7
import Derived.Test.YtagddbecnkbcdaaGreatJ8
set_option linter.all false
noncomputable section
namespace Go.Gm
def KX (v:Nat)(S:List Sp):Nat->Nat
 |0=>0
 |k+1=>KX v S k+(qSp v k S).length
theorem Qz (v:Nat):∀S:List Sp,KX v S 4=S.length
 |[]=>by simp[KX,qSp]
 |p::S=>by
  have ih:=Qz v S;have hq:=Vj7 v p;simp only[KX,qSp,WH,zXj]at ih⊢;generalize qOf v p=q at hq
  match q,hq with
  |0,_=>simp;omega
  |1,_=>simp;omega
  |2,_=>simp;omega
  |3,_=>simp;omega
def V6 (v:Nat)(S:List Sp){k:Nat}(h:k<=4):KX v S k<=S.length:=by
 have h4:=Qz v S
 match k,h with
 |0,_=>simp[KX]
 |1,_=>simp only[KX]at h4⊢;omega
 |2,_=>simp only[KX]at h4⊢;omega
 |3,_=>simp only[KX]at h4⊢;omega
 |4,_=>omega

mutual
theorem VfP:∀(v:Nat)(out:List Nd)(S:List Sp),(CJ v out S).1.length<=out.length+S.length*v
 |0,out,S=>by simp[CJ]
 |v+1,out,S=>by unfold CJ;split;simp;rename_i hS;have h:=RB v out S 4 (VM _);have hpos:0<S.length:=W6.2 hS;have:KX v S 4*v<=S.length*v:=Ww _ (V6 v S (VM _));simp only[VR,zXi,Nat.mul_succ];omega
theorem RB:∀(v:Nat)(out:List Nd)(S:List Sp)(k:Nat),k<=4->(lyK (CJ v) v S k out).1.length<=out.length+KX v S k*v
 |v,out,S,0,_=>by simp[lyK,KX]
 |v,out,S,k+1,hk=>by have h:=RB v out S k (by omega);unfold lyK;split;rename_i h0;subst h0;dsimp only;omega;have h2:=VfP v (lyK (CJ v) v S k out).1 (qSp v k S);dsimp only;have:KX v S (k+1)*v=KX v S k*v+(qSp v k S).length*v:=(by show(KX v S k+(qSp v k S).length)*v=_;rw[WB]);omega

end
theorem VaV (rec:List Nd->List Sp->List Nd×Nat)(v:Nat)(S:List Sp)(out:List Nd):∀k,k<=4->∀j,k<=j->j<4->(lyK rec v S k out).2.kid j=0
 |0,_,j,_,h4=>by
  match j,h4 with
  |0,_=>rfl
  |1,_=>rfl
  |2,_=>rfl
  |3,_=>rfl
 |k+1,hk,j,hj,h4=>by unfold lyK;split;rw[GB _ _ (by omega) h4 (by omega)];exact VaV rec v S out k (by omega) j (by omega) h4;rw[GB _ _ (by omega) h4 (by omega)];exact VaV rec v S out k (by omega) j (by omega) h4
def Ve4 (x:Nd){k:Nat}(hk:k<4)(h:x.kid k=0):x.setKid k 0=x:=by
 match k,hk with
 |0,_=>simp only[Nd.kid]at h;unfold Nd.setKid;cases x;simp_all
 |1,_=>simp only[Nd.kid]at h;unfold Nd.setKid;cases x;simp_all
 |2,_=>simp only[Nd.kid]at h;unfold Nd.setKid;cases x;simp_all
 |3,_=>simp only[Nd.kid]at h;unfold Nd.setKid;cases x;simp_all
theorem PS.same {b:Nat}{out:List Nd}{v:Ab}{H H':Aa}(h:PS b out v H)(hs:∀i,i<H.length->H'[i]? = H[i]?):PS b out v H':=by rcases h with h1 | ⟨t,h1,h2,h3⟩;exact .inl h1;exact .inr ⟨t,h1,h2,by rw[hs t (VJ.1 h3).1];exact h3⟩
def Vjw (b pb n:Nat)(self:Ab->Ab->Ab->Aa->Out):Prop:=
 ∀(out:List Nd)(w:Ab)(S:List Sp)(tk:Tok)(H:Aa),H[pb]? = some (.c0 [w])->PS b out w H->b<=H.length->(∀p∈S,Vpb p)->S.length<1000000000->out.length+S.length*n<3518437208880 ->
  ∃H' w',self (.ptr pb 0 0) (.i6 (n:Int)) (.sl (enL cSp S) tk) H=some (.ret (.i6 ((CJ n out S).2:Int)),H')/\H'[pb]? = some (.c0 [w'])/\PS b (CJ n out S).1 w' H'/\Ext b pb H H'
def Vn6 (v:Nat):Az (some [(.i6 0),(.i6 0),(.i6 0),(.i6 0),(.i6 0)]) [(0,1,.i6 (v:Int))]=some (.agg (cNd ⟨(v:Int),0,0,0,0⟩)):=by simp[Az,Gy,D3,cNd]
def Vl3 {b pb q v k:Nat}{self:Ab->Ab->Ab->Aa->Out}{out:List Nd}{S:List Sp}{H Hd:Aa}{W:Nat->Ab}{w:Ab}(cK:v=0\/Vjw b pb v self)(hv:v<100000)(hk:k<4)
  (hW:∃tk,W k=.sl (enL cSp (qSp v k S)) tk)(hok:∀p∈S,Vpb p)(hS:S.length<1000000000)(hlen:out.length+S.length*v<3518437208880)(tE:b<=pb)(mZ:q≠pb)(hbq:b<=q)
  (f1:Hd[pb]? = some (.c0 [w]))(f2:PS b (lyK (CJ v) v S k out).1 w Hd)(f3:Hd[q]? = some (.c0 (cNd (lyK (CJ v) v S k out).2))):∃w' He,(∀rec:LK,Uau H self rec (.ptr pb 0 0) (.i6 ((v+1:Nat):Int)) (.ptr q 0 0) (.agg [W 0,W 1,W 2,W 3]) (.i6 (k:Int)) Hd=rec [.ptr pb 0 0,.i6 ((v+1:Nat):Int),.ptr q 0 0,.agg [W 0,W 1,W 2,W 3],.i6 ((k+1:Nat):Int)] He) /\
   He[pb]? = some (.c0 [w'])/\PS b (lyK (CJ v) v S (k+1) out).1 w' He/\He[q]? = some (.c0 (cNd (lyK (CJ v) v S (k+1) out).2))/\Hd.length<=He.length/\(∀(i:Nat)(cs:List Ab),i≠pb->i≠q->Hd[i]? = some (.c0 cs)->He[i]? = some (.c0 cs))/\∀i,i<b->He[i]? = Hd[i]? := by
 obtain⟨tk,hW⟩:=hW;have hk':decide ((k:Int)<4)=true:=zXc (by omega);have bO:pb<Hd.length:=(VJ.1 f1).1;have hql:q<Hd.length:=(VJ.1 f3).1;have xK:JF false 4 1 (.agg [W 0,W 1,W 2,W 3]) (.i6 (k:Int))=some (W k):=by
  match k,hk with
  |0,_=>rfl
  |1,_=>rfl
  |2,_=>rfl
  |3,_=>rfl
 have hw:=Ar (show k<9223372036854775807 by omega);have w1:I_.wrap (((v+1:Nat):Int)-1)=(v:Int):=by rw[Am]<;>omega
 have dC:=HY (K:=.i64) (id:=q) (g:=0) (o:=1) hk;rcases XC v with h0 | h0
 ·subst h0;have d1:decide (((0+1:Nat):Int)>1)=false:=rfl;have e:lyK (CJ 0) 0 S (k+1) out=((lyK (CJ 0) 0 S k out).1,(lyK (CJ 0) 0 S k out).2.setKid k (VlC (qSp 0 k S))):=rfl;rw[e];cases hq:qSp 0 k S with
  |nil=>rw[hq]at hW;have hid:=Ve4 _ hk (VaV (CJ 0) 0 S out k (by omega) k (VM _) hk);refine⟨w,Hd,λrec=>?_,f1,f2,?_,VM _,λ_ _ _ _ h=>h,λ_ _=>rfl⟩;unfold Uau;have hl0:A9 (.sl (enL cSp []) tk)=some (.i6 0):=rfl;have d2:decide ((0:Int)>0)=false:=rfl;simp only[GMw,hk',xK,d1,hW,hl0,d2,hw];show Hd[q]? = some (.c0 (cNd ((lyK (CJ 0) 0 S k out).2.setKid k 0)));rw[hid];exact f3
  |cons s r=>
   rw[hq]at hW;have hst:=Fj (c:=(s.s.toNat:Int)) f3 hk;refine⟨w,Hd.set q (.c0 (cNd ((lyK (CJ 0) 0 S k out).2.setKid k (s.s.toNat:Int)))),λrec=>?_,?_,f2.put f3,?_,by simp,λi cs h1 h2 h=>?_,λi hi=>?_⟩;have cT:decide (((s::r).length:Int)>0)=true:=zXc (by simp only[zXj];omega);have jS:Aw 3 (.sl (enL cSp (s::r)) tk) (.i6 0)=some (.cptr (cSp s) 0):=A4 (f:=cSp) (l:=s::r) (i:=0) (K:=.i64) (by simp);have hld:∀K,Ad false 1 (.cptr (cSp s) 2) K=some (.int .u8 (s.s.toNat:Int)):=λ_=>rfl;have hc:A5 .i64 (.int .u8 (s.s.toNat:Int))=some (.i6 (s.s.toNat:Int)):=(by have:=s.s.toNat_lt;rw[AV,Am (by omega) (by omega)]);unfold Uau;simp only[GMw,hk',xK,d1,hW,Ax,cT,jS,A2,Aj,VK,hld,hc,dC,hst,hw];rw[VH mZ];exact f1;rw[VX hql];rfl
   rw[VH (Ne.symm h2)];exact h;rw[VH (by omega)]
 ·obtain cK:=cK.resolve_left (by omega);have d1:decide (((v+1:Nat):Int)>1)=true:=zXc (by omega);have bX:=RB v out S k (by omega);have iX:KX v S (k+1)*v=KX v S k*v+(qSp v k S).length*v:=by show(KX v S k+(qSp v k S).length)*v=_;rw[WB]
  have kY:KX v S (k+1)*v<=S.length*v:=Ww _ (V6 v S (by omega));obtain⟨H1,w',r1,r2,r3,r4⟩:=cK (lyK (CJ v) v S k out).1 w (qSp v k S) tk Hd f1 f2 (by omega) (λp hp=>hok p (X4.1 hp).1) (WE (Xh _ _) hS) (by omega);have f3':=r4.cel q _ mZ f3;have hst:=Fj (c:=((CJ v (lyK (CJ v) v S k out).1 (qSp v k S)).2:Int)) f3' hk;have vB:q<H1.length:=(VJ.1 f3').1;have e:lyK (CJ v) v S (k+1) out=((CJ v (lyK (CJ v) v S k out).1 (qSp v k S)).1,(lyK (CJ v) v S k out).2.setKid k ((CJ v (lyK (CJ v) v S k out).1 (qSp v k S)).2:Int)):=by
   conv=>lhs;unfold lyK
   rw[zYb (by omega)]
  rw[e];refine⟨w',H1.set q (.c0 (cNd ((lyK (CJ v) v S k out).2.setKid k ((CJ v (lyK (CJ v) v S k out).1 (qSp v k S)).2:Int)))),λrec=>?_,?_,r3.put f3',?_,by rw[zXp];exact r4.len,λi cs h1 h2 h=>?_,λi hi=>?_⟩;unfold Uau;simp only[GMw,hk',xK,d1,hW,w1,r1,Aj,VK,dC,hst,hw];rw[VH mZ];exact r2;rw[VX vB];rw[VH (Ne.symm h2)];exact r4.cel i cs h1 h;rw[VH (by omega)];exact r4.old i hi
def ViA {b pb v:Nat}{self:Ab->Ab->Ab->Aa->Out}(cK:v=0\/Vjw b pb v self)(hv:v<100000)(tE:b<=pb):Vjw b pb (v+1) (Uey self):=by
 intro out w S tk H f1 f2 hb hok hS hlen;have bO:pb<H.length:=(VJ.1 f1).1;unfold Uey CJ;by_cases h0:S=[];subst h0;refine⟨H,w,?_,f1,f2,Ext.refl _ _ _⟩;simp
 ·rw[zYb h0];have hpos:=W6.2 h0;have hne:decide ((S.length:Int)=0)=false:=zXd (by omega);have oI:((S.length:Int)==0)=false:=by rw[beq_eq_false_iff_ne];omega
  have hal:Av (some [(.sl [] .ti),(.sl [] .ti),(.sl [] .ti),(.sl [] .ti)]) H=some (.ptr H.length 0 0,H++[.c0 [Ab.sl [] .ti,.sl [] .ti,.sl [] .ti,.sl [] .ti]]):=alloc_eq rfl;simp only[GMw,Ax,oI,hal];have hQ0:Q4 H.length H.length (λk=>qSp v k (S.take 0)) (λ_=>.sl [] .ti) (λ_=>0) (H++[.c0 [Ab.sl [] .ti,.sl [] .ti,.sl [] .ti,.sl [] .ti]]):=
   ⟨Ap,λk hk=>.inl ⟨rfl,rfl⟩,λi j _ _ _ h=>zYf rfl h⟩
  have loop:=Fp (G:=λrec1 vs H1=>Ubr H self rec1 (ag vs 0) (ag vs 1) (ag vs 2) (ag vs 3) (ag vs 4) (ag vs 5) H1) S.length
   (λi vs Hc=>vs=[.ptr pb 0 0,.i6 ((v+1:Nat):Int),.ptr H.length 0 0,.sl (enL cSp S) tk,.i6 (S.length:Int),.i6 (i:Int)]/\∃W T,Q4 H.length H.length (λk=>qSp v k (S.take i)) W T Hc/\H.length<=Hc.length/\∀i,i<H.length->Hc[i]? = H[i]?)
   (by omega) (λi vs Hc hi hI=>?_) (vs:=[.ptr pb 0 0,.i6 ((v+1:Nat):Int),.ptr H.length 0 0,.sl (enL cSp S) tk,.i6 (S.length:Int),.i6 0]) (H:=H++[.c0 [Ab.sl [] .ti,.sl [] .ti,.sl [] .ti,.sl [] .ti]])
   ⟨rfl,_,_,hQ0,by simp,λi hi=>VN hi⟩
  ·obtain⟨vs,Hc,⟨rfl,W,T,hQ,hl,hold⟩,rec,aB⟩:=loop;rw[Wx]at hQ;rw[aB];have d1:decide ((S.length:Int)<(S.length:Int))=false:=zXd (by omega);have xJ:Av (some [(.i6 0),(.i6 0),(.i6 0),(.i6 0),(.i6 0)]) Hc=some (.ptr Hc.length 0 0,Hc++[.c0 [Ab.i6 0,.i6 0,.i6 0,.i6 0,.i6 0]]):=alloc_eq rfl;have hst:Ae 5 (.ptr Hc.length 0 0) (.agg (cNd ⟨((v+1:Nat):Int),0,0,0,0⟩)) (Hc++[.c0 [Ab.i6 0,.i6 0,.i6 0,.i6 0,.i6 0]])=some (Hc++[.c0 (cNd ⟨((v+1:Nat):Int),0,0,0,0⟩)]):=(by rw[JR Ap rfl,Bg]);have wC:Ad true 4 (.ptr H.length 0 0) (Hc++[.c0 (cNd ⟨((v+1:Nat):Int),0,0,0,0⟩)])=some (.agg [W 0,W 1,W 2,W 3]):=CV (A1 hQ.blk) rfl;have hqH:H.length<Hc.length:=(VJ.1 hQ.blk).1;have hWr:∀k,k<4->∃tk,W k=.sl (enL cSp (qSp v k S)) tk:=λk hk=>(by rcases hQ.row k hk with ⟨q1,q2⟩ | ⟨_,_,q2,_⟩;exact⟨.ti,by rw[q2,show qSp v k S=[] from q1];rfl⟩;exact⟨_,q2⟩);have rX:out.length+S.length*v<3518437208880:=(by rw[Nat.mul_succ]at hlen;omega);have loop2:=Fp (G:=λbB vs H1=>Uau H self bB (ag vs 0) (ag vs 1) (ag vs 2) (ag vs 3) (ag vs 4) H1) 4
    (λk vs Hd=>vs=[.ptr pb 0 0,.i6 ((v+1:Nat):Int),.ptr Hc.length 0 0,.agg [W 0,W 1,W 2,W 3],.i6 (k:Int)]/\∃w',Hd[pb]? = some (.c0 [w'])/\PS b (lyK (CJ v) v S k out).1 w' Hd/\Hd[Hc.length]? = some (.c0 (cNd (lyK (CJ v) v S k out).2))/\Hc.length<=Hd.length/\(∀(i:Nat)(cs:List Ab),i≠pb->i<H.length->H[i]? = some (.c0 cs)->Hd[i]? = some (.c0 cs))/\∀i,i<b->Hd[i]? = H[i]?)
    (by decide) (λk vs Hd hk hI=>?_) (vs:=[.ptr pb 0 0,.i6 ((v+1:Nat):Int),.ptr Hc.length 0 0,.agg [W 0,W 1,W 2,W 3],.i6 0]) (H:=Hc++[.c0 (cNd ⟨((v+1:Nat):Int),0,0,0,0⟩)])
    ⟨rfl,w,by rw[VN (by omega),hold pb bO];exact f1,f2.same λi hi=>by rw[VN (by omega)];exact hold i hi,by simp[lyK],by simp,λi cs _ hi hc=>by rw[VN (by omega),hold i hi];exact hc,λi hi=>by rw[VN (by omega)];exact hold i (by omega)⟩
   obtain⟨vs,Hd,⟨rfl,w1,g1,g2,g3,g4,g5,g6⟩,aA,hloop2⟩:=loop2;have hlk:=RB v out S 4 (VM _);rw[Qz]at hlk;obtain⟨w2,H2,a1,a2,a3⟩:=g2.snoc (show b<=Hd.length by omega) (lyK (CJ v) v S 4 out).2 (by omega);have xQ:=a3.cel pb _ g1;have qW:=(VJ.1 xQ).1;obtain⟨tk2,cA⟩:=a2.sl;have cJ:=Dm (v:=w2) (o:=0) xQ (by rw[cA];rfl) (by simp);have oP:Ad false 1 (.ptr pb 0 0) Hd=some w1:=(by rw[Bt g1];rfl);have dY:Ad false 1 (.ptr pb 0 0) (H2.set pb (.c0 ([w1].set 0 w2)))=some w2:=(by rw[Bt (cs:=[w1].set 0 w2) (VX qW)];rfl);have wD:=HV g3;have hlen2:A9 w2=some (.i6 (((lyK (CJ v) v S 4 out).1.length+1:Nat):Int)):=(by rw[cA,Ax,VR,zXi]);have d4:decide (((4:Nat):Int)<4)=false:=rfl;refine⟨H2.set pb (.c0 ([w1].set 0 w2)),w2,?_,by rw[VX qW];rfl,a2.put xQ,⟨?_,λi cs hi hc=>?_,λi hi=>?_⟩⟩;unfold Ubr;simp only[At,Ak,GMw,d1,Vn6,xJ,hst,wC];rw[hloop2];unfold Uau;simp only[At,Ak,GMw,d4,Vf4,Aj,VK,oP,wD,Kx,a1,cJ,dY,hlen2];rw[zXp];have:=a3.len;omega;rw[VH (Ne.symm hi)];exact a3.cel i cs (g5 i cs hi (VJ.1 hc).1 hc);rw[VH (by omega),a3.old i hi];exact g6 i hi;obtain⟨rfl,w1,g1,g2,g3,g4,g5,g6⟩:=hI;obtain⟨w',He,t1,t2,t3,t4,t5,t6,t7⟩:=Vl3 (H:=H) (W:=W) cK hv hk (hWr k hk) hok hS rX tE (show Hc.length≠pb by omega) (by omega) g1 g2 g3;exact⟨_,He,⟨rfl,w',t2,t3,t4,by omega,λi cs hi hl hc=>t6 i cs hi (by omega) (g5 i cs hi hl hc),λi hi=>(t7 i hi).trans (g6 i hi)⟩,t1⟩
  obtain⟨rfl,W,T,hQ,hl,hold⟩:=hI;obtain⟨W',T',Hd,t1,t2,t3,t4⟩:=Vi9 (self:=self) (pb:=pb) (tk:=tk) (H:=H) hi hok hS hv rfl hQ hl hold;exact⟨_,Hd,⟨rfl,W',T',t2,t3,t4⟩,t1⟩
theorem VjO {b pb:Nat}(tE:b<=pb):∀(n d:Nat),n<d->n<100000->1<=n->Vjw b pb n (UaO d)
 |0,_,_,_,h=>by omega
 |n+1,d,hd,hn,_=>by obtain⟨d,rfl⟩:∃e,d=e+1:=⟨d-1,by omega⟩;refine ViA (v:=n) ?_ (by omega) tE;rcases XC n with h | h;exact .inl h;exact .inr (VjO tE n d (by omega) (by omega) h)
def Vlg (l:List Cl)(tk:Tok)(H:Aa)(hl:l.length<1000000000):Ucw (.sl (enL cCl l) tk) H=some (if l=[]then (.ret (.sl [] .ti),H)else (.ret (dV H.length 0 l.length),H++[.buf 0 (flat cCl l) A6 5])):=by
 have hb:AK 5 []=some (.sl [] .ti):=rfl;unfold Ucw;cases l with
 |nil=>have ha:Gg A6 5 72 (.sl [] .ti) (.sl (enL cCl []) tk) H=some (.sl [] .ti,H):=rfl;have hn:Ri .eql (.sl (enL cCl []) tk)=some .ubool:=rfl;have hu:∀x:Out,Ai .ubool x x=x:=λx=>zYc rfl;simp only[hn,GMw,hb,ha];exact hu _
 |cons c l=>
  have hn:Ri .eql (.sl (enL cCl (c::l)) tk)=some (.bool false):=rfl;have ha:Gg A6 5 72 (.sl [] .ti) (.sl (enL cCl (c::l)) tk) H=some (dV H.length 0 (c::l).length,H++[.buf 0 (flat cCl (c::l)) A6 5]):=by
   have he:C8 5 (.sl (enL cCl (c::l)) tk) H=some (enL cCl (c::l)):=Tx;have hlen:(enL cCl (c::l)).length=(c::l).length:=(by simp[enL]);unfold Gg;rw[he];simp only[zXa];unfold IC;rw[hlen,zYb (by simp)];simp only[zXk,VK,List.all_nil,List.nil_append];rw[zYc ⟨trivial,by omega,by omega⟩]
   rfl
  simp only[hn,GMw,hb,ha];rw[zYb (by simp)]
def VF (P L:List Cl)(i:Nat):Prop:=L.length=P.length/\∀k,k<P.length->L[k]? = if k<i\/P.length-i<=k then P[P.length-1-k]? else P[k]?
theorem VF.step {P L:List Cl}{i:Nat}(h:VF P L i)(hi:i<P.length-1-i):VF P (swp L i (P.length-1-i)) (i+1):=by
 obtain⟨h1,h2⟩:=h;have hl:i<L.length:=by omega
 have hj:P.length-1-i<L.length:=by omega
 refine⟨by rw[Nz];exact h1,λk hk=>?_⟩;have ei:=h2 i (by omega);have ej:=h2 (P.length-1-i) (by omega);rw[VG hl,zYb (by omega)]at ei;rw[VG hj,zYb (by omega)]at ej;rw[Vj2 hl hj];by_cases k1:k=P.length-1-i
 ·subst k1;rw[VX (by simp;omega),zYc (by omega),ei]
  congr 1
  omega
 rw[VH (Ne.symm k1)];by_cases k2:k=i;subst k2;rw[VX hl,zYc (by omega),ej];rw[VH (Ne.symm k2),h2 k hk];by_cases k3:k<i\/P.length-i<=k;rw[zYc k3,zYc (by omega)];rw[zYb k3,zYb (by omega)]
theorem VF.done {P L:List Cl}{i:Nat}(h:VF P L i)(hi:¬i<P.length-1-i):L=P.reverse:=by
 apply Xm;intro k;by_cases hk:k<P.length
 ·rw[h.2 k hk,List.getElem?_reverse hk];split
  ·rfl
  ·congr 1
   omega
 rw[zYa (by rw[h.1];omega),zYa (by simp;omega)]
section
variable {p g:Nat}{l:List Cl}{H:Aa}
theorem Vfv (h:Dn H p g l)(hp:0<l.length)(hl:l.length<1000000000):UaB (dV p g l.length) H=some (.ret (.tup []),Ce H p g l.reverse):=by
 have hw:I_.wrap ((l.length:Int)-1)=((l.length-1:Nat):Int):=by rw[Am]<;>omega
 have aZ:A9 (dV p g l.length)=some (.i6 (l.length:Int)):=rfl;unfold UaB;simp only[aZ,GMw,hw];have key:=E6 (G:=λrec1 vs H1=>Ubi H rec1 (ag vs 0) (ag vs 1) (ag vs 2) H1) (σ:=Nat×List Cl)
  (λs vs H1=>(VF l s.2 s.1/\2*s.1<=l.length)/\vs=[dV p g l.length,.i6 (s.1:Int),.i6 ((l.length:Int)-1-(s.1:Int))]/\H1=Ce H p g s.2) (λs=>l.length-s.1) (λs=>¬s.1<l.length-1-s.1) (λs vs H1 hI hd=>?_)
  (s:=(0,l)) (vs:=[dV p g l.length,.i6 0,.i6 ((l.length-1:Nat):Int)]) (H:=H) ⟨⟨⟨rfl,λk hk=>by rw[zYb (by omega)]⟩,Wi _⟩,by dsimp only;rw[show(l.length:Int)-1-((0:Nat):Int)=((l.length-1:Nat):Int)by omega];rfl,(CQ h).symm⟩ (by dsimp only;omega)
 obtain⟨⟨i,L⟩,vs,H1,hd,⟨⟨ht,hi⟩,rfl,rfl⟩,rec,aB⟩:=key;dsimp only at ht hi hd aB;have d1:decide ((i:Int)<(l.length:Int)-1-(i:Int))=false:=zXd (by omega);rw[aB];unfold Ubi;simp only[At,Ak,GMw,d1];rw[ht.done hd]
 ·obtain⟨i,L⟩:=s;obtain⟨⟨ht,hi⟩,rfl,rfl⟩:=hI;dsimp only at ht hi hd⊢;have hr:Dn (Ce H p g L) p g L:=Dq h;have hlt:i<l.length-1-i:=by omega
  have hLl:=ht.1;have i1:i<L.length:=by omega
  have i2:l.length-1-i<L.length:=by omega
  have e:(l.length:Int)-1-(i:Int)=((l.length-1-i:Nat):Int):=by omega
  have d1:decide ((i:Int)<((l.length-1-i:Nat):Int))=true:=zXc (by omega);have cQ:=Ar (show i<9223372036854775807 by omega);have cA:I_.wrap (((l.length-1-i:Nat):Int)-1)=(l.length:Int)-1-((i+1:Nat):Int):=by rw[Am]<;>omega
  obtain⟨s1,s2⟩:=Sq hr i1 i2;rw[BN]at s1 s2;rw[BN]at s2;refine⟨(i+1,swp L i (l.length-1-i)),_,_,by dsimp only;omega,⟨⟨ht.step hlt,by dsimp only;omega⟩,rfl,rfl⟩,λrec=>?_⟩;unfold Ubi;simp only[At,Ak,GMw,e,d1,C1 (show i<l.length by omega),C1 (show l.length-1-i<l.length by omega),CU hr i1,CU hr i2,s1,s2,cQ,cA]
theorem Vns {f:Ab}{l0:List Cl}(hf1:TY AF f l0)(hf2:Uy f l0)(h:Dn H p g l)(hm:∀c∈l,c∈l0)(hl:l.length<1000000000):∃S,EG ltC S/\FF ltC l S/\S.length=l.length/\UaL (dV p g l.length) f H=some (.ret (.tup []),Ce H p g S):=by
 obtain⟨S,s1,s2,s3,s4⟩:=Vep hf1 hf2 h hm hl;refine⟨S,s1,s2,s3,?_⟩;have aZ:A9 (dV p g l.length)=some (.i6 (l.length:Int)):=rfl;unfold UaL;simp only[aZ,GMw,s4]
def RwT (H:Aa)(p g:Nat)(l:List Cl)(r:List Ab):Prop:=H[p]? = some (.buf g (flat cCl l++r) A6 5)
theorem Dn.t (h:Dn H p g l):RwT H p g l []:=by unfold RwT;rw[Wm];exact h

end
def VcK (lt:Cl->Cl->Bool)(y:Cl):∀(P:List Cl)(x:Cl),cpL lt (P++[x]++[y])=if BZ lt y x then cpL lt (P++[x])else cpL lt (P++[x])++[y]:=by
 have key:∀(t:List Cl)(a x:Cl),cpF lt a (t++[x]++[y])=if BZ lt y x then cpF lt a (t++[x])else cpF lt a (t++[x])++[y]:=by
  intro t
  induction t with
  |nil=>
   intro a x;show(if BZ lt x a then cpF lt x [y]else x::cpF lt x [y])=if BZ lt y x then (if BZ lt x a then cpF lt x []else x::cpF lt x [])else (if BZ lt x a then cpF lt x []else x::cpF lt x [])++[y]
   have e:cpF lt x [y]=if BZ lt y x then []else [y]:=rfl
   rw[e];cases BZ lt x a<;>cases BZ lt y x<;>rfl
  |cons b t ih=>
   intro a x;have ihb:=ih b x;show(if BZ lt b a then cpF lt b (t++[x]++[y])else b::cpF lt b (t++[x]++[y]))=if BZ lt y x then (if BZ lt b a then cpF lt b (t++[x])else b::cpF lt b (t++[x]))else (if BZ lt b a then cpF lt b (t++[x])else b::cpF lt b (t++[x]))++[y]
   rw[ihb];cases BZ lt b a<;>cases BZ lt y x<;>rfl
 intro P x;cases P with
 |nil=>
  show x::cpF lt x [y]=if BZ lt y x then [x]else [x]++[y]
  have e:cpF lt x [y]=if BZ lt y x then []else [y]:=rfl
  rw[e];cases BZ lt y x<;>rfl
 |cons a P=>
  show a::cpF lt a (P++[x]++[y])=if BZ lt y x then a::cpF lt a (P++[x])else (a::cpF lt a (P++[x]))++[y]
  rw[key];cases BZ lt y x<;>rfl
def VlU (lt:Cl->Cl->Bool):∀l:List Cl,(cpL lt l).length<=l.length:=by
 have key:∀(t:List Cl)(a:Cl),(cpF lt a t).length<=t.length:=by
  intro t
  induction t with
  |nil=>intro a;exact VM _
  |cons b t ih=>intro a;have:=ih b;unfold cpF;split;simp only[zXj];omega;simp only[zXj];omega
 intro l;cases l with|nil=>exact VM _|cons a t=>have:=key t a;show(cpF lt a t).length+1<=t.length+1;omega
def zCl:List Ab:=[.bool false,.sl [] .ti,.bool false,.sl [] .ti,.int .u8 0]
def VeG (n:Nat):(My n zCl).all Ab.isScal=true:=by
 unfold My
 induction n with
 |zero=>rfl
 |succ n ih=>rw[zXm,List.flatten_cons,Yv,ih];rfl
def VhE (n:Nat):(My n zCl).length=n*5:=by
 unfold My
 induction n with
 |zero=>rfl
 |succ n ih=>rw[zXm,List.flatten_cons,VR,ih,show zCl.length=5 from rfl];omega
def VdB {L:List Cl}{k:Nat}(hk:k<=L.length):(flat cCl L).take (k*5)=flat cCl (L.take k)/\(flat cCl L).drop (k*5)=flat cCl (L.drop k):=by
 have h1:flat cCl L=flat cCl (L.take k)++flat cCl (L.drop k):=by rw[<-QT,WD]
 have h2:(flat cCl (L.take k)).length=k*5:=by rw[Fv,Wc,WK hk]
 rw[h1];exact⟨by rw[<-h2,Yb],by rw[<-h2,Yd]⟩
section
variable {p g:Nat}{l:List Cl}{H:Aa}{r:List Ab}
theorem UP {L:List Cl}{k:Nat}(h:RwT H p g L r)(hk:k<=L.length):∃G r',KZ 5 (some zCl) (.ms p g (k*5) (L.length-k) (L.length-k) 5 false) H=some G/\RwT G p g (L.take k) r'/\(∀i,i≠p->G[i]? = H[i]?)/\G.length=H.length:=by
 unfold KZ;by_cases h0:L.length-k=0;have:L.take k=L:=VW (by omega);simp only[h0,zYd];exact⟨H,r,rfl,by rw[this];exact h,λ_ _=>rfl,rfl⟩
 ·have bO:p<H.length:=(VJ.1 h).1;have bJ:AD H p g=some (flat cCl L++r):=by unfold RwT at h;simp[AD,h]
  have hac:(Ab.agg (My (L.length-k) zCl)).acells=some (My (L.length-k) zCl):=by show(if (My (L.length-k) zCl).all Ab.isScal=true then _ else _)=_;rw[zYc (VeG _)]
  have dI:(flat cCl L).length=L.length*5:=Fv L;have aH:∀cs,FR H p g cs=H.set p (.buf g cs A6 5):=λcs=>by unfold RwT at h;unfold FR;rw[h]
  simp only[h0,zYe,zXa,zYd,Ae,bJ,hac,VhE,VR,dI];rw[zYc ⟨trivial,by omega⟩,aH];refine⟨_,(My (L.length-k) zCl)++r,rfl,?_,λi hi=>?_,by rw[zXp]⟩;unfold RwT;rw[VX bO];have e1:D3 (flat cCl L++r) (k*5) ((L.length-k)*5) (My (L.length-k) zCl)=flat cCl (L.take k)++(My (L.length-k) zCl++r):=(by unfold D3;rw[Xl (by omega),(VdB hk).1,show k*5+(L.length-k)*5=(flat cCl L).length by omega,Yd,VP]);rw[e1];rw[VH (Ne.symm hi)]
theorem VdI {f:Ab}{k0:Nat}{H0:Aa}(hf:∀c∈l,∀d∈l,∀H,DP AN f [.agg (cCl c),.agg (cCl d)] H=some (.ret (.bool (BZ ltC c d)),H))
  (h:Dn H p g l)(h1:1<=k0)(h2:k0<l.length)(h3:cpL ltC (l.take k0)=l.take k0)(h4:BZ ltC l[k0] (l[k0-1]'(by omega))=true)(hl:l.length<1000000000):∃G r,An (λaA vs H1=>UaM H0 aA (ag vs 0) (ag vs 1) (ag vs 2) (ag vs 3) (ag vs 4) H1) AI [dV p g l.length,f,.i6 (k0:Int),.ms p g (k0*5) (l.length-k0) (l.length-k0) 5 false,.i6 1] H =
   some (.ret (.ms p g 0 (cpL ltC l).length l.length 5 false),G)/\RwT G p g (cpL ltC l) r/\(∀i,i≠p->G[i]? = H[i]?)/\G.length=H.length:=by
 have eC:∀m (kG:1<=m) (hm:m<l.length),cpL ltC (l.take (m+1))=if BZ ltC l[m] (l[m-1]'(by omega))then cpL ltC (l.take m)else cpL ltC (l.take m)++[l[m]]:=λm kG hm=>by obtain⟨j,rfl⟩:∃j,m=j+1:=⟨m-1,by omega⟩;have:=VcK ltC l[j+1] (l.take j) (l[j]'(by omega));rw[<-VU (by omega:j<l.length),<-VU hm]at this;exact this
 have key:=E6 (G:=λaA vs H1=>UaM H0 aA (ag vs 0) (ag vs 1) (ag vs 2) (ag vs 3) (ag vs 4) H1) (σ:=Nat×List Cl)
  (λs vs H1=>(k0+1<=s.1/\s.1<=l.length/\s.2.length=l.length/\(cpL ltC (l.take s.1)).length<=s.1-1/\s.2.take (cpL ltC (l.take s.1)).length=cpL ltC (l.take s.1)/\s.2.drop (s.1-1)=l.drop (s.1-1)) /\
   vs=[dV p g l.length,f,.i6 ((cpL ltC (l.take s.1)).length:Int),.ms p g (k0*5) (l.length-k0) (l.length-k0) 5 false,.i6 ((s.1-k0:Nat):Int)]/\H1=Ce H p g s.2) (λs=>l.length-s.1) (λs=>¬s.1<l.length) (λs vs H1 hI hd=>?_)
  (s:=(k0+1,l)) (vs:=[dV p g l.length,f,.i6 (k0:Int),.ms p g (k0*5) (l.length-k0) (l.length-k0) 5 false,.i6 1]) (H:=H)
  (by have e1:cpL ltC (l.take (k0+1))=l.take k0:=(by rw[eC k0 h1 h2,h4,zYc rfl,h3]);have e2:(l.take k0).length=k0:=(by rw[Wc];omega);dsimp only;rw[e1,e2];exact⟨⟨VM _,h2,rfl,by omega,rfl,by rw[Wr]⟩,by rw[Nat.add_sub_cancel_left];rfl,(CQ h).symm⟩) (by dsimp only;omega)
 ·obtain⟨⟨m,L⟩,vs,H1,hd,⟨⟨i1,i2,i3,i4,i5,i6⟩,rfl,rfl⟩,rec,aB⟩:=key;dsimp only at i1 i2 i3 i4 i5 i6 hd aB;have em:m=l.length:=by omega
  subst em;rw[VW (VM _)]at i4 i5 aB;have hr:RwT (Ce H p g L) p g L []:=(Dq h).t;obtain⟨G,r,g1,g2,g3,g4⟩:=UP (k:=(cpL ltC l).length) hr (by omega);rw[i3]at g1;rw[i5]at g2;have d1:decide (((l.length-k0:Nat):Int)<((l.length-k0:Nat):Int))=false:=zXd (by omega);have aZ:A9 (.ms p g (k0*5) (l.length-k0) (l.length-k0) 5 false)=some (.i6 ((l.length-k0:Nat):Int)):=rfl;have s1:B7 5 (dV p g l.length) (some (.i6 ((cpL ltC l).length:Int))) none none=some (.ms p g ((cpL ltC l).length*5) (l.length-(cpL ltC l).length) (l.length-(cpL ltC l).length) 5 false):=by have:(cpL ltC l).length<=l.length:=(by omega);simp[B7,B5,this]
  have s2:B7 5 (dV p g l.length) none (some (.i6 ((cpL ltC l).length:Int))) none=some (.ms p g 0 (cpL ltC l).length l.length 5 false):=by have:(cpL ltC l).length<=l.length:=(by omega);simp[B7,B5,this]
  refine⟨G,r,?_,g2,λi hi=>?_,?_⟩;rw[aB];unfold UaM;simp only[At,Ak,GMw,aZ,d1,s1,s2];rw[show [Ab.bool false,.sl [] .ti,.bool false,.sl [] .ti,.int .u8 0]=zCl from rfl,g1];simp only[GMw,forget,E9,fgt];rw[g3 i hi];unfold Ce;rw[VH (Ne.symm hi)];rw[g4];unfold Ce;rw[zXp]
 ·obtain⟨m,L⟩:=s;obtain⟨⟨i1,i2,i3,i4,i5,i6⟩,rfl,rfl⟩:=hI;dsimp only at i1 i2 i3 i4 i5 i6 hd⊢;have hm:m<l.length:=by omega
  have hr:Dn (Ce H p g L) p g L:=Dq h;have hLm:m<L.length:=by omega
  have hLm1:m-1<L.length:=by omega
  have e1:L[m]=l[m]:=by have:=zYg (λx=>x[1]?) i6;simp only[W5]at this;rw[show m-1+1=m by omega,VG hLm,VG hm]at this;exact Xf this
  have e2:L[m-1]=l[m-1]:=by have:=zYg (λx=>x[0]?) i6;simp only[W5,Nat.add_zero]at this;rw[VG hLm1,VG (by omega)]at this;exact Xf this
  have aZ:A9 (.ms p g (k0*5) (l.length-k0) (l.length-k0) 5 false)=some (.i6 ((l.length-k0:Nat):Int)):=rfl;have d1:decide (((m-k0:Nat):Int)<((l.length-k0:Nat):Int))=true:=zXc (by omega);have cQ:I_.wrap (((m-k0:Nat):Int)-1)=((m-k0-1:Nat):Int):=by rw[Am]<;>omega
  have cA:I_.wrap (((m-k0:Nat):Int)+1)=((m+1-k0:Nat):Int):=by rw[Am]<;>omega
  have x1:Aw 5 (.ms p g (k0*5) (l.length-k0) (l.length-k0) 5 false) (.i6 ((m-k0:Nat):Int))=some (.ptr p g (m*5)):=by rw[CZ (by omega),<-WB,show k0+(m-k0)=m by omega]
  have x2:Aw 5 (.ms p g (k0*5) (l.length-k0) (l.length-k0) 5 false) (.i6 ((m-k0-1:Nat):Int))=some (.ptr p g ((m-1)*5)):=by rw[CZ (by omega),<-WB,show k0+(m-k0-1)=m-1 by omega]
  have c1:=hf l[m] (VY hm) (l[m-1]'(by omega)) (VY _);have eP:=eC m (by omega) hm;have l1:=CU hr hLm;have l2:=CU hr hLm1;rw[e1]at l1;rw[e2]at l2;cases he:BZ ltC l[m] (l[m-1]'(by omega))with
  |true=>rw[he,zYc rfl]at eP;refine⟨(m+1,L),_,_,by dsimp only;omega,⟨⟨by dsimp only;omega,by dsimp only;omega,i3,by dsimp only;rw[eP];omega,by dsimp only;rw[eP];exact i5,by dsimp only;rw[Wr];have:=zYg (List.drop 1) i6;rw[WX,WX,show m-1+1=m by omega]at this;exact this⟩,rfl,rfl⟩,λrec=>?_⟩;rw[he]at c1;unfold UaM Ueu;simp only[At,Ak,GMw,aZ,d1,cQ,x1,x2,l1,l2,c1,cA,eP]
  |false=>
   rw[he]at eP;simp only[VL,zYe]at eP;have hk:(cpL ltC (l.take m)).length<L.length:=(by omega);have eZ:=Ar (show(cpL ltC (l.take m)).length<9223372036854775807 by omega);have hst:=Ve9 hr hk l[m];rw[BN]at hst;refine⟨(m+1,L.set (cpL ltC (l.take m)).length l[m]),_,_,by dsimp only;omega,⟨⟨by dsimp only;omega,by dsimp only;omega,by dsimp only;rw[zXp];exact i3,by dsimp only;rw[eP];simp;omega,by
     dsimp only;rw[eP,VR,zXi,VU (by rw[zXp];omega),Yw,List.take_set_of_le (VM _),i5],by
     dsimp only;rw[Wr,List.drop_set_of_lt (by omega)];have:=zYg (List.drop 1) i6;rw[WX,WX,show m-1+1=m by omega]at this;exact this⟩,rfl,rfl⟩,λrec=>?_⟩
   rw[he]at c1;unfold UaM Ueu;simp only[At,Ak,GMw,aZ,d1,cQ,x1,x2,l1,l2,c1,C1 (show(cpL ltC (l.take m)).length<l.length by omega),hst,eZ,cA,eP,VR,zXi]

end
def VlN (l:List Cl)(k:Nat):Bool:=match l[k]?,l[k-1]? with
 |some a,some b=>BZ ltC a b
 |_,_=>false
def VcG {l:List Cl}{k:Nat}(hk:k<l.length)(hk1:k-1<l.length):VlN l k=BZ ltC l[k] l[k-1]:=by unfold VlN;rw[VG hk,VG hk1]
section
variable {p g:Nat}{l:List Cl}{H:Aa}{r:List Ab}{f:Ab}
theorem Vfx (hf:∀c∈l,∀d∈l,∀H,DP AN f [.agg (cCl c),.agg (cCl d)] H=some (.ret (.bool (BZ ltC c d)),H))
  (h:Dn H p g l)(hl:l.length<1000000000):∃G r,Uas (dV p g l.length) f H=some (.ret (.ms p g 0 (cpL ltC l).length l.length 5 false),G)/\RwT G p g (cpL ltC l) r/\(∀i,i≠p->G[i]? = H[i]?)/\G.length=H.length:=by
 have aZ:A9 (dV p g l.length)=some (.i6 (l.length:Int)):=rfl;have eC:∀m (kG:1<=m) (hm:m<l.length),cpL ltC (l.take (m+1))=if BZ ltC l[m] (l[m-1]'(by omega))then cpL ltC (l.take m)else cpL ltC (l.take m)++[l[m]]:=λm kG hm=>by obtain⟨j,rfl⟩:∃j,m=j+1:=⟨m-1,by omega⟩;have:=VcK ltC l[j+1] (l.take j) (l[j]'(by omega));rw[<-VU (by omega:j<l.length),<-VU hm]at this;exact this
 unfold Uas;by_cases h2:l.length<2
 ·have d2:decide ((l.length:Int)<2)=true:=zXc (by omega);have e:cpL ltC l=l:=by
   match l,h2 with
   |[],_=>rfl
   |[c],_=>rfl
   |_::_::_,h2=>simp only[zXj]at h2;omega
  refine⟨H,[],?_,by rw[e];exact h.t,λ_ _=>rfl,rfl⟩;simp only[aZ,GMw,d2,forget,E9,fgt];rw[e]
 ·have d2:decide ((l.length:Int)<2)=false:=zXd (by omega);have key:=E6 (G:=λrec1 vs H1=>Ubm H rec1 (ag vs 0) (ag vs 1) (ag vs 2) H1) (σ:=Nat)
   (λk vs H1=>(1<=k/\k<=l.length/\cpL ltC (l.take k)=l.take k)/\vs=[dV p g l.length,f,.i6 (k:Int)]/\H1=H) (λk=>l.length-k) (λk=>k<l.length->VlN l k=true) (λk vs H1 hI hd=>?_)
   (s:=1) (vs:=[dV p g l.length,f,.i6 1]) (H:=H) ⟨⟨VM _,by omega,by
    cases l with
    |nil=>simp at h2
    |cons c l=>rfl⟩,rfl,rfl⟩ (by omega)
  obtain⟨k,vs,H1,hd,⟨⟨i1,i2,i3⟩,rfl,rfl⟩,rec,aB⟩:=key;simp only[aZ,GMw,d2];rw[aB];by_cases hk:k<l.length;have hk1:k-1<l.length:=(by omega);have lP:=hd hk;rw[VcG hk hk1]at lP;obtain⟨G,r,g1,g2,g3,g4⟩:=VdI (H0:=H1) hf h i1 hk i3 lP hl;refine⟨G,r,?_,g2,g3,g4⟩;have d1:decide ((k:Int)<(l.length:Int))=true:=zXc (by omega);have cQ:I_.wrap ((k:Int)-1)=((k-1:Nat):Int):=(by rw[Am]<;>omega);have c1:=hf l[k] (VY hk) l[k-1] (VY hk1);rw[lP]at c1;have s1:B7 5 (dV p g l.length) (some (.i6 (k:Int))) none none=some (.ms p g (k*5) (l.length-k) (l.length-k) 5 false):=(by have:k<=l.length:=(by omega);simp[B7,B5,this]);unfold Ubm;simp only[At,Ak,GMw,aZ,d1,cQ,C1 hk,C1 (show k-1<l.length by omega),CU h hk,CU h (show k-1<l.length by omega),c1,s1];exact g1;have d1:decide ((k:Int)<(l.length:Int))=false:=zXd (by omega);have e:cpL ltC l=l:=(by rw[VW (by omega)]at i3;exact i3);refine⟨H1,[],?_,by rw[e];exact h.t,λ_ _=>rfl,rfl⟩;unfold Ubm;simp only[At,Ak,GMw,aZ,d1,forget,E9,fgt];rw[e];obtain⟨⟨i1,i2,i3⟩,rfl,rfl⟩:=hI;have hk:k<l.length:=(by rcases W4 k l.length with q | q;exact q;exact zYf (λhk=>zYf hk (by omega)) hd);have hk1:k-1<l.length:=(by omega);have he:BZ ltC l[k] l[k-1]=false:=(by cases e:BZ ltC l[k] l[k-1]with|false=>rfl|true=>exact zYf (λ_=>by rw[VcG hk hk1];exact e) hd);have d1:decide ((k:Int)<(l.length:Int))=true:=zXc (by omega);have cQ:I_.wrap ((k:Int)-1)=((k-1:Nat):Int):=(by rw[Am]<;>omega);have cA:=Ar (show k<9223372036854775807 by omega);have c1:=hf l[k] (VY hk) l[k-1] (VY hk1);rw[he]at c1;refine⟨k+1,_,_,by omega,⟨⟨by omega,hk,by rw[eC k i1 hk,zYb (by rw[he];decide),i3,VU hk]⟩,rfl,rfl⟩,λrec=>?_⟩;unfold Ubm;simp only[At,Ak,GMw,aZ,d1,cQ,C1 hk,C1 (show k-1<l.length by omega),CU h hk,CU h (show k-1<l.length by omega),c1,cA]
theorem Ss (h:RwT H p g l r):AD H p g=some (flat cCl l++r):=by unfold RwT at h;simp[AD,h]
theorem VaG {i:Nat}(h:RwT H p g l r)(hi:i<l.length):Ad true 5 (.ptr p g (i*5)) H=some (.agg (cCl l[i])):=by
 have h1:=KS (f:=cCl) (sz:=5) hi;have h2:=RG (f:=cCl) (sz:=5) hi;have h3:((flat cCl l++r).drop (i*5)).take 5=cCl l[i]:=by rw[XS (by omega),Xl (by rw[Wd];omega),h2]
 simp only[Ad,Ss h,zXa,zYd,h3];rw[zYc (by rw[VR];omega)]
theorem Vk5 {i:Nat}(h:RwT H p g l r)(hi:i<l.length)(a:Cl):∃G,Ae 5 (.ptr p g (i*5)) (.agg (cCl a)) H=some G/\RwT G p g (l.set i a) r/\(∀i,i≠p->G[i]? = H[i]?)/\G.length=H.length:=by
 have bO:p<H.length:=(VJ.1 h).1;have h1:=KS (f:=cCl) (sz:=5) hi;have hs:=Tm (f:=cCl) (sz:=5) (a:=a) hi;have aH:∀cs,FR H p g cs=H.set p (.buf g cs A6 5):=λcs=>by unfold RwT at h;unfold FR;rw[h]
 have hp:D3 (flat cCl l++r) (i*5) 5 (cCl a)=flat cCl (l.set i a)++r:=by rw[<-hs];unfold D3;rw[Xl (by omega),XS (by omega)];simp only[VP]
 refine⟨H.set p (.buf g (flat cCl (l.set i a)++r) A6 5),?_,?_,λj hj=>by rw[VH (Ne.symm hj)],by rw[zXp]⟩;simp only[Ae,Ss h,zXa,NS,show(cCl a).length=5 from rfl];rw[zYc ⟨trivial,by rw[VR];omega⟩,aH,hp];unfold RwT;rw[VX bO]
theorem RwT.push (h:RwT H p g l r)(G:Aa):RwT (H++G) p g l r:=by have bO:p<H.length:=(VJ.1 h).1;unfold RwT at h⊢;rw[VN bO];exact h
def z0 (c:Cl):Bool:=decide (c.s=0)
theorem Vl8 {cap:Nat}(hf:∀c∈l,∀H,DP AJ f [.agg (cCl c)] H=some (.ret (.bool (z0 c)),H))(h:RwT H p g l r)(hl:l.length<1000000000):Ufu (.ms p g 0 l.length cap 5 false) f H=some (.ret (.i6 (match l.findIdx? z0 with | some i=>(i:Int) | none=>-1)),H):=by
 have aZ:A9 (.ms p g 0 l.length cap 5 false)=some (.i6 (l.length:Int)):=rfl;unfold Ufu;simp only[aZ,GMw];have key:=Bf (G:=λrec1 vs H1=>Uf9 H rec1 (ag vs 0) (ag vs 1) (ag vs 2) (ag vs 3) H1) (σ:=Nat) (λi=>i<=l.length/\(l.take i).findIdx? z0=none)
  (λi=>[.ms p g 0 l.length cap 5 false,f,.i6 (l.length:Int),.i6 (i:Int)]) (λ_=>H) (λi=>l.length-i) (λ_=>some (.ret (.i6 (match l.findIdx? z0 with | some i=>(i:Int) | none=>-1)),H)) (λi rec hi hrec=>?_) 0 ⟨Wi _,rfl⟩ (by omega)
 exact key
 ·obtain⟨h1,h2⟩:=hi;unfold Uf9;by_cases hi:i<l.length;have d1:decide ((i:Int)<(l.length:Int))=true:=zXc (by omega);have x1:Aw 5 (.ms p g 0 l.length cap 5 false) (.i6 (i:Int))=some (.ptr p g (i*5)):=(by rw[CZ hi,VK]);have cP:=Ar (show i<9223372036854775807 by omega);have c1:=hf l[i] (VY hi);cases hz:z0 l[i]with|true=>rw[hz]at c1;have:l.findIdx? z0=some i:=(by rw[XJ];refine⟨hi,hz,λj hj=>?_⟩;rw[Yg]at h2;have:=h2 l[j] (by rw[List.mem_take_iff_getElem];exact⟨j,by omega,rfl⟩);simpa using this);simp only[At,Ak,GMw,d1,x1,VaG h hi,c1,this]|false=>rw[hz]at c1;simp only[At,Ak,GMw,d1,x1,VaG h hi,c1,cP];refine hrec (i+1) ⟨hi,?_⟩ (by omega);rw[VU hi,List.findIdx?_append,h2];simp[hz]
  have d1:decide ((i:Int)<(l.length:Int))=false:=zXd (by omega);rw[VW (by omega)]at h2;simp only[At,Ak,GMw,d1,h2]

end
def ViS {α:Type}{f:α->List Ab}{sz:Nat}[hf:Sz f sz][hp:Pl f]{H:Aa}{l:List α}{r:List Ab}{id b d cap:Nat}{ex:Bool}(hg:AD H id 0=some (flat f l++r))(hi:b<=id):Hv H b (d+3) (.ms id 0 0 l.length cap sz ex)=some (.sl (enL f l) .no):=by
 have h1:¬id<b:=by omega
 have h2:l.length*sz<=(flat f l++r).length:=by rw[VR,Fv];omega
 have h3:(flat f l++r).take (l.length*sz)=flat f l:=by rw[<-Fv (f:=f) (sz:=sz) l,Yb]
 unfold Hv;simp only[frz,h1,zYe,hg,zXa,Xa,VK,h2,zYd,h3,Hp (NI (f:=f) l),Pw (f:=f) l,MT,zXb,forget,E9,fgt]
section
variable {p g:Nat}{l:List Cl}{H:Aa}{r:List Ab}{f:Ab}
def kp (c:Cl):Bool:=decide (c.s≠0)
theorem VnC (c:Cl):kp c = !z0 c:=by unfold kp z0;by_cases h:c.s=0<;>simp[h]
theorem Vir {cap:Nat}(hf:∀c∈l,∀H,DP AJ f [.agg (cCl c)] H=some (.ret (.bool (z0 c)),H))(hf2:∀c∈l,∀H,DP Be f [.agg (cCl c)] H=some (.ret (.bool (z0 c)),H))
  (h:RwT H p g l r)(hc:l.length<=cap)(hl:cap<1000000000):∃G r',Uat (.ms p g 0 l.length cap 5 false) f H=some (.ret (.ms p g 0 (l.filter kp).length cap 5 false),G)/\RwT G p g (l.filter kp) r'/\(∀i,i<H.length->i≠p->G[i]? = H[i]?)/\H.length<=G.length:=by
 have dC:=Vl8 (cap:=cap) hf h (by omega);have aZ:A9 (.ms p g 0 l.length cap 5 false)=some (.i6 (l.length:Int)):=rfl;unfold Uat;cases dZ:l.findIdx? z0 with
 |none=>
  rw[dZ]at dC;have e:l.filter kp=l:=by rw[List.filter_eq_self];intro c hc;rw[Yg]at dZ;rw[VnC,dZ c hc];rfl
  refine⟨H,r,?_,by rw[e];exact h,λ_ _ _=>rfl,VM _⟩;have hb:((-1:Int) == -1)=true:=rfl;simp only[GMw,dC,hb,forget,E9,fgt];rw[e]
 |some i0=>
  rw[dZ]at dC;rw[XJ]at dZ;obtain⟨jS,mS,rV⟩:=dZ;have hb:(((i0:Nat):Int) == -1)=false:=by rw[beq_eq_false_iff_ne];omega
  have hw0:=Ar (show i0<9223372036854775807 by omega);have ef:(l.take (i0+1)).filter kp=l.take i0:=by rw[VU jS,W9];have e1:(l.take i0).filter kp=l.take i0:=(by rw[List.filter_eq_self];intro c hc;rw[List.mem_take_iff_getElem]at hc;obtain⟨j,hj,rfl⟩:=hc;rw[VnC];have:=rV j (by omega);simpa using this);have e2:[l[i0]].filter kp=[]:=(by simp[VnC,mS]);rw[e1,e2,Wm]
  have key:=E6 (G:=λrec1 vs H1=>Ubo H rec1 (ag vs 0) (ag vs 1) (ag vs 2) (ag vs 3) H1) (σ:=Nat×List Cl)
   (λs vs K=>(i0+1<=s.1/\s.1<=l.length/\s.2.length=l.length/\((l.take s.1).filter kp).length<s.1/\s.2.take ((l.take s.1).filter kp).length=(l.take s.1).filter kp/\s.2.drop s.1=l.drop s.1) /\
    (RwT K p g s.2 r/\(∀i,i<H.length->i≠p->K[i]? = H[i]?)/\H.length<=K.length)/\vs=[.ms p g 0 l.length cap 5 false,f,.i6 (((l.take s.1).filter kp).length:Int),.i6 (s.1:Int)]) (λs=>l.length-s.1) (λs=>¬s.1<l.length) (λs vs K hI hd=>?_)
   (s:=(i0+1,l)) (vs:=[.ms p g 0 l.length cap 5 false,f,.i6 (i0:Int),.i6 ((i0+1:Nat):Int)]) (H:=H)
   (by have e2:(l.take i0).length=i0:=(by rw[Wc];omega);dsimp only;rw[ef,e2];exact⟨⟨VM _,jS,rfl,by omega,rfl,rfl⟩,⟨h,λ_ _ _=>rfl,VM _⟩,rfl⟩) (by dsimp only;omega)
  obtain⟨⟨j,L⟩,vs,K,hd,⟨⟨i1,i2,i3,i4,i5,i6⟩,⟨k1,k2,k3⟩,rfl⟩,rec,aB⟩:=key;dsimp only at i1 i2 i3 i4 i5 i6 k1 hd aB;have ej:j=l.length:=(by omega);subst ej;rw[VW (VM _)]at i4 i5 aB;obtain⟨G,r',g1,g2,g3,g4⟩:=UP (k:=(l.filter kp).length) k1 (by omega);rw[i3]at g1;rw[i5]at g2;have d1:decide ((l.length:Int)<(l.length:Int))=false:=zXd (by omega);have s1:B7 5 (.ms p g 0 l.length cap 5 false) (some (.i6 ((l.filter kp).length:Int))) none none=some (.ms p g ((l.filter kp).length*5) (l.length-(l.filter kp).length) (cap-(l.filter kp).length) 5 false):=(by have:(l.filter kp).length<=l.length:=(by omega);simp[B7,B5,this,hc]);have s2:B7 5 (.ms p g 0 l.length cap 5 false) none (some (.i6 ((l.filter kp).length:Int))) none=some (.ms p g 0 (l.filter kp).length cap 5 false):=(by have:(l.filter kp).length<=cap:=(by omega);simp[B7,B5,this]);have g1':KZ 5 (some zCl) (.ms p g ((l.filter kp).length*5) (l.length-(l.filter kp).length) (cap-(l.filter kp).length) 5 false) K=some G:=g1;refine⟨G,r',?_,g2,λi hi hne=>by rw[g3 i hne];exact k2 i hi hne,by omega⟩;simp only[GMw,dC,hb,hw0];rw[aB];unfold Ubo;simp only[At,Ak,GMw,aZ,d1,s1,s2];rw[show [Ab.bool false,.sl [] .ti,.bool false,.sl [] .ti,.int .u8 0]=zCl from rfl,g1'];simp only[GMw,forget,E9,fgt]
  ·obtain⟨j,L⟩:=s;obtain⟨⟨i1,i2,i3,i4,i5,i6⟩,⟨k1,k2,k3⟩,rfl⟩:=hI;dsimp only at i1 i2 i3 i4 i5 i6 k1 hd⊢;have hj:j<l.length:=(by omega);have hLj:j<L.length:=(by omega);have ej:L[j]=l[j]:=(by have:=zYg (λx=>x[0]?) i6;simp only[W5,Nat.add_zero]at this;rw[VG hLj,VG hj]at this;exact Xf this);have edr:L.drop (j+1)=l.drop (j+1):=(by have:=zYg (List.drop 1) i6;rw[WX,WX]at this;exact this);have d1:decide ((j:Int)<(l.length:Int))=true:=zXc (by omega);have x1:Aw 5 (.ms p g 0 l.length cap 5 false) (.i6 (j:Int))=some (.ptr p g (j*5)):=(by rw[CZ hj,VK]);have tO:=Ar (show j<9223372036854775807 by omega);have ld:=VaG k1 hLj;rw[ej]at ld;have al:Av (some [.bool false,.sl [] .ti,.bool false,.sl [] .ti,.int .u8 0]) K=some (.ptr K.length 0 0,K++[.c0 zCl]):=alloc_eq rfl;have stv:Ae 5 (.ptr K.length 0 0) (.agg (cCl l[j])) (K++[.c0 zCl])=some (K++[.c0 (cCl l[j])]):=by
    simp only[Ae,A0 Ap,zXa,NS,show(cCl l[j]).length=5 from rfl];rw[zYc ⟨trivial,by simp[zCl]⟩,BE Ap,Bg]
    rfl
   have ldv:Ad true 5 (.ptr K.length 0 0) (K++[.c0 (cCl l[j])])=some (.agg (cCl l[j])):=(by simp only[Ad,A0 Ap,zXa];rfl);have c1:=hf2 l[j] (VY hj);have kr:=k1.push [.c0 (cCl l[j])];have eP:(l.take (j+1)).filter kp=(l.take j).filter kp++[l[j]].filter kp:=(by rw[VU hj,W9]);cases hz:z0 l[j]with
   |true=>have e0:[l[j]].filter kp=[]:=(by simp[VnC,hz]);rw[e0,Wm]at eP;rw[hz]at c1;refine⟨(j+1,L),_,K++[.c0 (cCl l[j])],by dsimp only;omega,⟨⟨by dsimp only;omega,hj,i3,by dsimp only;rw[eP];omega,by dsimp only;rw[eP];exact i5,edr⟩,⟨kr,λi hi hne=>by rw[VN (by omega)];exact k2 i hi hne,by simp;omega⟩,rfl⟩,λrec=>?_⟩;unfold Ubo Uev;simp only[At,Ak,GMw,aZ,d1,x1,ld,al,stv,ldv,c1,tO,eP]
   |false=>
    have e0:[l[j]].filter kp=[l[j]]:=(by simp[VnC,hz]);rw[e0]at eP;rw[hz]at c1;have aE:((l.take j).filter kp).length<L.length:=(by omega);obtain⟨G,g1,g2,g3,g4⟩:=Vk5 kr aE l[j];have cP:=Ar (show((l.take j).filter kp).length<9223372036854775807 by omega);have x2:Aw 5 (.ms p g 0 l.length cap 5 false) (.i6 (((l.take j).filter kp).length:Int))=some (.ptr p g (((l.take j).filter kp).length*5)):=(by rw[CZ (by omega),VK]);have hGl:G.length=K.length+1:=(by rw[g4];simp);refine⟨(j+1,L.set ((l.take j).filter kp).length l[j]),_,G,by dsimp only;omega,⟨⟨by dsimp only;omega,hj,by dsimp only;rw[zXp];exact i3,by dsimp only;rw[eP];simp;omega,by
      dsimp only;rw[eP,VR,zXi,VU (by rw[zXp];omega),Yw,List.take_set_of_le (VM _),i5],by
      dsimp only;rw[List.drop_set_of_lt (by omega)];exact edr⟩,⟨g2,λi hi hne=>by rw[g3 i hne,VN (by omega)];exact k2 i hi hne,by omega⟩,rfl⟩,λrec=>?_⟩
    unfold Ubo Uev;simp only[At,Ak,GMw,aZ,d1,x1,x2,ld,al,stv,ldv,c1,g1,cP,tO,eP,VR,zXi]

end
def MQ {g:FuncId}{F:List Ab->Aa->Out}{o:Orc}{args:List Ab}{H:Aa}:DP (ent g F o) (.fn g []) args H=F args H:=by unfold DP ent;simp only[zYd,Wm]
def RO {g g':FuncId}{F:List Ab->Aa->Out}{o:Orc}{args:List Ab}{H:Aa}(h:¬g'=g):DP (ent g F o) (.fn g' []) args H=DP o (.fn g' []) args H:=by unfold DP ent;simp only[h,zYe]
theorem PH (F:Ab->Aa->Out)(a:Ab)(H:Aa):ap1 F [a] H=F a H:=rfl
theorem Vb6 (F:Ab->Ab->Aa->Out)(a b:Ab)(H:Aa):ap2 F [a,b] H=F a b H:=rfl
theorem VlY {l:List Cl}(hok:∀c∈l,c.ok):TY AF (.fn 144 []) l:=λc hc d hd K=>by unfold AF;rw[MQ,Vb6];exact VaS (hok c hc) (hok d hd) K
theorem VlX {l:List Cl}(hok:∀c∈l,c.ok):Uy (.fn 144 []) l:=λself c hc d hd K=>by unfold Bh;rw[RO (by decide),MQ,Vb6];exact VaS (hok c hc) (hok d hd) K
def Vle {c d:Cl}(hc:c.ok)(hd:d.ok)(H:Aa):Uc4 (.agg (cCl c)) (.agg (cCl d)) H=some (.ret (.bool (BZ ltC c d)),H):=by
 have e1:(H++[Blk.c0 (cCl c)]++[Blk.c0 (cCl d)])[H.length]? = some (.c0 (cCl c)):=by simp
 have e2:(H++[Blk.c0 (cCl c)]++[Blk.c0 (cCl d)])[(H++[Blk.c0 (cCl c)]).length]? = some (.c0 (cCl d)):=Ap;have ld:∀ {K:Aa} {p:Nat} {x:Cl},K[p]? = some (.c0 (cCl x))->Ad true 5 (.ptr p 0 0) K=some (.agg (cCl x)):=λh=>by simp only[Ad,A0 h,zXa];rfl
 have ho:=λK=>VaS hc hd K;have fin:∀q:Bool,rP H (.bool q) (H++[Blk.c0 (cCl c)]++[Blk.c0 (cCl d)])=some (.ret (.bool q),H):=λq=>Gw rfl (by simp);have hb:(JD c d==0)=BZ ltC c d:=by rw[<-Vh];rfl
 unfold Uc4;simp only[GMw,VgW,ld e1,ld e2,ho,hb,fin]
def R9 (c:Cl)(H:Aa):Ubg (.agg (cCl c)) H=some (.ret (.bool (z0 c)),H):=by
 have ld:Ad false 1 (.ptr H.length 0 4) (H++[Blk.c0 (cCl c)])=some (.int .u8 (c.s.toNat:Int)):=by simp only[Ad,A0 Ap,zXa];rfl
 have fin:∀q:Bool,rP H (.bool q) (H++[Blk.c0 (cCl c)])=some (.ret (.bool q),H):=λq=>Gw rfl (by simp);have hb:((c.s.toNat:Int)==0)=z0 c:=by
  unfold z0;by_cases h:c.s=0;rw[h];rfl
  rw[zXd h,beq_eq_false_iff_ne];intro e;exact h (Xt.1 (by simpa using e))
 unfold Ubg;simp only[GMw,VgW,Aj,VK,ld,hb,fin]
theorem Vl4 (l:List Cl):(DX l).filter kp=DB l:=rfl
theorem VpL {l:List Cl}(hok:∀c∈l,c.ok):∀c∈l,∀d∈l,∀H,DP AN (.fn 146 []) [.agg (cCl c),.agg (cCl d)] H=some (.ret (.bool (BZ ltC c d)),H):=λc hc d hd K=>by unfold AN;rw[MQ,Vb6];exact Vle (hok c hc) (hok d hd) K
def Vqs (c:Cl)(K:Aa):DP AJ (.fn 148 []) [.agg (cCl c)] K=some (.ret (.bool (z0 c)),K):=by
 unfold AJ
 first
  |rw[MQ,PH];exact R9 c K
  |rw[RO (by decide),MQ,PH];exact R9 c K
def Vpc (c:Cl)(K:Aa):DP Be (.fn 148 []) [.agg (cCl c)] K=some (.ret (.bool (z0 c)),K):=by
 unfold Be
 first
  |rw[MQ,PH];exact R9 c K
  |rw[RO (by decide),MQ,PH];exact R9 c K
def ViC (H:Aa)(f1 f2 f3:Ab):UaB (.sl [] .ti) H=some (.ret (.tup []),H)/\UaL (.sl [] .ti) f1 H=some (.ret (.tup []),H) /\
  Uas (.sl [] .ti) f2 H=some (.ret (.sl [] .no),H)/\Uat (.sl [] .no) f3 H=some (.ret (.sl [] .no),H):=by
 have hl:∀tk,A9 (.sl [] tk)=some (.i6 0):=λ_=>rfl;have w1:I_.wrap (0-1) = -1:=rfl;have w2:I_.wrap (0+1)=1:=rfl;have d1:decide ((0:Int) < -1)=false:=rfl;have d2:decide ((20:Int)<=0)=false:=rfl;have d3:decide ((1:Int)<0)=false:=rfl;have d4:decide ((20:Int)<0)=false:=rfl;have d5:decide ((0:Int)<2)=true:=rfl;have d6:decide ((0:Int)<0)=false:=rfl;have eK:UfA (.sl [] .ti) (.i6 0) (.i6 0) f1 H=some (.ret (.tup []),H):=by unfold UfA;simp only[GMw,w2];rw[Dx Eh];unfold Uc0;simp only[At,Ak,GMw,d3]
 have hst:UaK (.sl [] .ti) (.i6 0) f1 H=some (.ret (.tup []),H):=by unfold UaK;rw[Dx Eh];unfold Ubl;simp only[At,Ak,GMw,d2,eK];rw[Dx Eh];unfold Uar;simp only[At,Ak,GMw,d4]
 have dC:Ufu (.sl [] .no) f3 H=some (.ret (.i6 (-1)),H):=by unfold Ufu;simp only[hl,GMw];rw[Dx Eh];unfold Uf9;simp only[At,Ak,GMw,d6]
 refine⟨?_,?_,?_,?_⟩;unfold UaB;simp only[hl,GMw,w1];rw[Dx Eh];unfold Ubi;simp only[At,Ak,GMw,d1];unfold UaL;simp only[hl,GMw,hst];unfold Uas;simp only[hl,GMw,d5,forget,E9,fgt];unfold Uat;have hb:((-1:Int) == -1)=true:=rfl;simp only[GMw,dC,hb,forget,E9,fgt]
def Vnw (l:List Cl)(tk:Tok)(H:Aa)(hl:l.length<1000000000)(hok:∀c∈l,c.ok):Uc5 (.sl (enL cCl l) tk) H=some (.ret (.sl (enL cCl (DB l)) .no),H):=by
 have aG:=Vlg l tk H hl;unfold Uc5;by_cases h0:l=[]
 ·subst h0;rw[zYc rfl]at aG;obtain⟨n1,n2,n3,n4⟩:=ViC H (.fn 144 []) (.fn 146 []) (.fn 148 []);have hl0:DB ([]:List Cl)=[]:=rfl;simp only[GMw,aG,n1,n2,n3,n4,M8,GI,zXb,hl0]
  rfl
 ·rw[zYb h0]at aG;have hp:0<l.length:=W6.2 h0;have r0:Dn (H++[.buf 0 (flat cCl l) A6 5]) H.length 0 l:=by unfold Dn;simp
  have oB:=Vfv r0 hp hl;have r1:Dn (Ce (H++[.buf 0 (flat cCl l) A6 5]) H.length 0 l.reverse) H.length 0 l.reverse:=Dq r0;have yL:l.reverse.length=l.length:=List.length_reverse;obtain⟨S,s1,s2,s3,s4⟩:=Vns (f:=.fn 144 []) (l0:=l) (VlY hok) (VlX hok) r1 (λc hc=>List.mem_reverse.1 hc) (by omega);rw[yL,BN]at s4;rw[yL]at s3;have Zs:∀c∈S,c∈l:=λc hc=>List.mem_reverse.1 ((s2.mem LI).2 hc);have r2:Dn (Ce (H++[.buf 0 (flat cCl l) A6 5]) H.length 0 S) H.length 0 S:=Dq r0;obtain⟨G,r,g1,g2,g3,g4⟩:=Vfx (f:=.fn 146 []) (VpL λc hc=>hok c (Zs c hc)) r2 (by omega);have pZ:=VlT s1 s2;rw[pZ,s3]at g1;rw[pZ]at g2;have hAl:(DX l).length<=l.length:=by rw[<-pZ,<-s3];exact VlU _ _
  obtain⟨G2,r',k1,k2,k3,k4⟩:=Vir (f:=.fn 148 []) (cap:=l.length) (λc hc K=>Vqs c K) (λc hc K=>Vpc c K) g2 hAl hl;rw[Vl4]at k1 k2;have hHl:(H++[Blk.buf 0 (flat cCl l) A6 5]).length=H.length+1:=by simp
  have hGl:G.length=H.length+1:=by rw[g4];unfold Ce;rw[zXp,hHl]
  have hold:∀i,i<H.length->G2[i]? = H[i]? := λi hi=>by rw[k3 i (by omega) (by omega),g3 i (by omega)];unfold Ce;rw[VH (by omega),VN hi]
  have eF:=ViS (d:=5) (cap:=l.length) (ex:=false) (Ss k2) (VM H.length);simp only[GMw,aG,oB,s4,g1,k1,Fl (Cu hold)];rw[eF]
  rfl
def Vpy (r:RC)(hf:r.fits)(H:Aa):Ucu (.agg (cRC r)) H=some (.ret (.bool (!r.right)),H):=by
 obtain⟨f1,f2,f3,f4⟩:=hf;have hb:Bj true 5 (.agg (cRC r)) H=some (.ptr H.length 0 0,H++[.c0 (cRC r)]):=BF rfl rfl;have e1:(H++[Blk.c0 (cRC r)])[H.length]? = some (.c0 (cRC r)):=Ap;have l1:Ad true 2 (.ptr H.length 0 0) (H++[Blk.c0 (cRC r)])=some (.agg [.bool r.n1,.sl (enL cU r.l1) .no]):=by simp only[Ad,A0 e1,zXa];rfl
 have l2:Ad true 2 (.ptr H.length 0 2) (H++[Blk.c0 (cRC r)])=some (.agg [.bool r.n2,.sl (enL cU r.l2) .no]):=by simp only[Ad,A0 e1,zXa];rfl
 have r1:=λK=>SG r.n1 r.l1 .no K f3;have r2:=λK=>SG r.n2 r.l2 .no K f4;have fin:∀q:Bool,rP H (.bool q) (H++[Blk.c0 (cRC r)])=some (.ret (.bool q),H):=λq=>Gw rfl (by simp);unfold Ucu RC.right;simp only[GMw,hb,Aj,VK,l1,r1];cases HD r.n1 r.l1 with|false=>simp only[GMw,fin]|true=>simp only[GMw,l2,r2,fin]
def TA (l:List RC)(tk:Tok)(H:Aa)(hl:l.length<1000000000)(hf:∀r∈l,r.fits):Ucv (.sl (enL cRC l) tk) (.fn 84 []) H=some (.ret (.bool (!l.all RC.right)),H):=by
 have dG:∀(r:RC),r∈l->∀K,DP AJ (.fn 84 []) [.agg (cRC r)] K=some (.ret (.bool (!r.right)),K):=λr hr K=>by unfold AJ;rw[RO (by decide),MQ,PH];exact Vpy r (hf r hr) K
 have key:∃k:Int,Ufu (.sl (enL cRC l) tk) (.fn 84 []) H=some (.ret (.i6 k),H)/\decide (k>=0) = !l.all RC.right:=by
  unfold Ufu;simp only[Ax,GMw];cases aD:l.all RC.right with
  |true=>
   refine⟨-1,?_,rfl⟩;refine Ct (G:=λrec1 vs H1=>Uf9 H rec1 (ag vs 0) (ag vs 1) (ag vs 2) (ag vs 3) H1) l.length
    (λi=>[.sl (enL cRC l) tk,.fn 84 [],.i6 (l.length:Int),.i6 (i:Int)]) (λ_=>H) _ (by omega) (λrec i hi=>?_) (λrec=>?_)
   have d1:decide ((i:Int)<(l.length:Int))=true:=zXc (by omega);have hr:l[i].right=true:=Wf.1 aD _ (VY hi);have c1:=dG l[i] (VY hi) H;have hld:Ad true 5 (.cptr (cRC l[i]) 0) H=some (.agg (cRC l[i])):=rfl;have cP:=Ar (show i<9223372036854775807 by omega);rw[hr]at c1;unfold Uf9;simp only[At,Ak,GMw,d1,A4 hi,hld,c1,cP];have d1:decide ((l.length:Int)<(l.length:Int))=false:=zXd (by omega);unfold Uf9;simp only[At,Ak,GMw,d1]
  |false=>
   obtain⟨k,hk⟩:∃k,l.findIdx? (λr=>!r.right)=some k:=by
    cases hq:l.findIdx? (λr=>!r.right)with
    |some k=>exact⟨k,rfl⟩
    |none=>rw[Yg]at hq;rw[X7]at aD;obtain⟨r,hr,h⟩:=aD;have:=hq r hr;cases gD:r.right with|true=>exact zYf gD h|false=>rw[gD]at this;simp at this
   rw[XJ]at hk;obtain⟨k1,k2,k3⟩:=hk;refine⟨k,?_,by simp⟩;have loop:=Bf (G:=λrec1 vs H1=>Uf9 H rec1 (ag vs 0) (ag vs 1) (ag vs 2) (ag vs 3) H1) (σ:=Nat) (λi=>i<=k)
    (λi=>[.sl (enL cRC l) tk,.fn 84 [],.i6 (l.length:Int),.i6 (i:Int)]) (λ_=>H) (λi=>k-i) (λ_=>some (.ret (.i6 (k:Int)),H)) (λi rec hi hrec=>?_) 0 (Wi _) (by omega)
   exact loop;have hil:i<l.length:=(by omega);have d1:decide ((i:Int)<(l.length:Int))=true:=zXc (by omega);have c1:=dG l[i] (VY hil) H;have hld:Ad true 5 (.cptr (cRC l[i]) 0) H=some (.agg (cRC l[i])):=rfl;have cP:=Ar (show i<9223372036854775807 by omega);unfold Uf9;rcases W4 i k with h | h;have:=k3 i h;have hr:l[i].right=true:=(by simpa using this);rw[hr]at c1;simp only[At,Ak,GMw,d1,A4 hil,hld,c1,cP];exact hrec (i+1) (by omega) (by omega);obtain rfl:i=k:=(by omega);have hr:(!l[i].right)=true:=k2;rw[hr]at c1;simp only[At,Ak,GMw,d1,A4 hil,hld,c1]
 obtain⟨k,e1,e2⟩:=key;unfold Ucv;simp only[GMw,e1,e2]
def ViO (a b c:Nat):Hf Jw (.i6 (a:Int)) [.i6 (b:Int),.i6 (c:Int)]=some (.i6 ((max a (max b c):Nat):Int)):=by
 have m:∀x y:Nat,Jw (.i6 (x:Int)) (.i6 (y:Int))=some (.i6 ((max x y:Nat):Int)):=λx y=>by unfold Jw;by_cases h:(y:Int)>(x:Int);simp only[zYc h];congr 2;omega;simp only[zYb h];congr 2;omega
 simp only[Hf,m,zXa]
 congr 2;omega
def bxC (l:List Cl):Aa:=l.map λc=>Blk.c0 (cCl c)
def Vjo (l:List Cl)(c:Cl):bxC (l++[c])=bxC l++[.c0 (cCl c)]:=by simp[bxC]
def Vql (H:Aa)(c:Cl):Ae 5 (.ptr H.length 0 0) (.agg (cCl c)) (H++[.c0 [.bool false,.sl [] .ti,.bool false,.sl [] .ti,.int .u8 0]])=some (H++[.c0 (cCl c)]):=by rw[Dz (sz:=5) (ws:=cCl c) Ap rfl rfl rfl,Bg]
def ldX (H:Aa)(c:Cl):Ad true 2 (.ptr H.length 0 0) (H++[.c0 (cCl c)])=some (big c.x)/\Ad true 2 (.ptr H.length 0 2) (H++[.c0 (cCl c)])=some (big c.y)/\Ad false 1 (.ptr H.length 0 4) (H++[.c0 (cCl c)])=some (.int .u8 (c.s.toNat:Int)):=by refine⟨?_,?_,?_⟩ <;> (simp only[Ad,A0 Ap,zXa];rfl)
def Vf5 {l:List Cl}{tk:Tok}{H K:Aa}{x2 x14:Ab}{i:Nat}(hi:i<l.length)(hok:∀c∈l,c.ok)(hl:l.length<1000000000)(rec:LK):UaP H rec x2 x14 (.i6 (E4 l i:Int)) (.sl (enL cCl l) tk) (.i6 (l.length:Int)) (.i6 (i:Int)) (K++bxC (l.take i))=rec [x2,x14,.i6 (E4 l (i+1):Int),.sl (enL cCl l) tk,.i6 (l.length:Int),.i6 ((i+1:Nat):Int)] (K++bxC (l.take (i+1))):=by
 have d1:decide ((i:Int)<(l.length:Int))=true:=zXc (by omega);have cP:=Ar (show i<9223372036854775807 by omega);have hc:=hok _ (VY hi);have hld:∀G,Ad true 5 (.cptr (cCl l[i]) 0) G=some (.agg (cCl l[i])):=λ_=>rfl;have hal:∀G:Aa,Av (some [(.bool false),(.sl [] .ti),(.bool false),(.sl [] .ti),(.int .u8 0)]) G=some (.ptr G.length 0 0,G++[.c0 [.bool false,.sl [] .ti,.bool false,.sl [] .ti,.int .u8 0]]):=λG=>alloc_eq rfl;have n1:=λG=>Vj9 (z:=l[i].x) G (hc.1.lb (by decide)) hc.1;have n2:=λG=>Vj9 (z:=l[i].y) G (hc.2.lb (by decide)) hc.2;have hn:E4 l (i+1)=max (E4 l i) (max (Pc l[i].x) (Pc l[i].y)):=by simp only[E4,VG hi,QM]
 have hbx:K++bxC (l.take (i+1))=(K++bxC (l.take i))++[.c0 (cCl l[i])]:=by rw[VU hi,Vjo,VP]
 obtain⟨l1,l2,l3⟩:=ldX (K++bxC (l.take i)) l[i];have uC:=ViO (E4 l i) (Pc l[i].x) (Pc l[i].y);unfold Pc at uC hn;rw[hbx,hn];generalize K++bxC (l.take i)=G at *;have b5:=Vql G l[i];unfold UaP;simp only[GMw,d1,A4 hi,hld,hal,b5,Aj,VK,l1,l2,n1,n2,uC,cP,zYi]
set_option exponentiation.threshold 5000
def VdN (p:Sp):Az (some [(.sl [] .ti),(.sl [] .ti),(.int .u8 0)]) [(0,1,.sl (enL cU (A8 p.a)) .no),(1,1,.sl (enL cU (A8 p.b)) .no),(2,1,.int .u8 (p.s.toNat:Int))]=some (.agg (cSp p)):=by simp[Az,Gy,D3,cSp]
theorem VlH (z:Int):Qs false 1 1 (big z)=some (.sl (enL cU (A8 z.natAbs)) .no):=rfl
def Vet {L:List Cl}{tk:Tok}{H Hc:Aa}{x50 x51 w:Ab}{b ph i n:Nat}(hi:i<L.length)(hok:∀c∈L,c.ok)(hl:L.length<1000000000)(hn:n<=1400)(iV:∀c∈L,0<=c.x+2^n/\0<=c.y+2^n)
  (hb:b<=Hc.length)(hR:RS cSp Ch 3 b ((L.take i).map (spot (2^n))) w Hc)(hp:Hc[ph]? = some (.c0 (A7 (2^n)))):∃w' Hd,(∀rec:LK,Uby H rec x50 x51 (.ptr ph 0 0) w (.sl (enL cCl L) tk) (.i6 (L.length:Int)) (.i6 (i:Int)) Hc=rec [x50,x51,.ptr ph 0 0,w',.sl (enL cCl L) tk,.i6 (L.length:Int),.i6 ((i+1:Nat):Int)] Hd) /\
   RS cSp Ch 3 b ((L.take (i+1)).map (spot (2^n))) w' Hd/\Kp b Hc Hd:=by
 have d1:decide ((i:Int)<(L.length:Int))=true:=zXc (by omega);have cP:=Ar (show i<9223372036854775807 by omega);have hc:=hok _ (VY hi);have hz:=iV _ (VY hi);have hld:∀G,Ad true 5 (.cptr (cCl L[i]) 0) G=some (.agg (cCl L[i])):=λ_=>rfl;have hal:∀G:Aa,Av (some [(.bool false),(.sl [] .ti),(.bool false),(.sl [] .ti),(.int .u8 0)]) G=some (.ptr G.length 0 0,G++[.c0 [.bool false,.sl [] .ti,.bool false,.sl [] .ti,.int .u8 0]]):=λG=>alloc_eq rfl;have qZ:SB 44 (2^n):=EY hn;have a1:=λG=>Vcd (a:=L[i].x) (b:=2^n) G (hc.1.lb (by decide)) (qZ.lb (by decide));have a2:=λG=>Vcd (a:=L[i].y) (b:=2^n) G (hc.2.lb (by decide)) (qZ.lb (by decide));obtain⟨l1,l2,l3⟩:=ldX Hc L[i];have lh:Ad true 2 (.ptr ph 0 0) (Hc++[.c0 (cCl L[i])])=some (big (2^n)):=Bn (A1 hp);have b5:=Vql Hc L[i];have hR1:=hR.left [Blk.c0 (cCl L[i])];obtain⟨w',H2,r1,r2,r3⟩:=hR1.snoc (bytes:=56) (by simp;omega) (spot (2^n) L[i]) .ti (by simp;omega) (by simp;omega);have nO:Az (some [(.sl [] .ti),(.sl [] .ti),(.int .u8 0)]) [(0,1,.sl (enL cU (A8 (L[i].x+2^n).natAbs)) .no),(1,1,.sl (enL cU (A8 (L[i].y+2^n).natAbs)) .no),(2,1,.int .u8 (L[i].s.toNat:Int))]=some (.agg (cSp (spot (2^n) L[i]))):=by
  have e1:(L[i].x+2^n).natAbs=(spot (2^n) L[i]).a:=by unfold spot;dsimp only;omega
  have e2:(L[i].y+2^n).natAbs=(spot (2^n) L[i]).b:=by unfold spot;dsimp only;omega
  rw[e1,e2];exact VdN _
 have vZ:(L.take (i+1)).map (spot (2^n))=(L.take i).map (spot (2^n))++[spot (2^n) L[i]]:=by rw[VU hi,List.map_append];rfl
 rw[vZ];refine⟨w',H2,λrec=>?_,r2,(Kp.app hb _).trans r3⟩;unfold Uby;simp only[GMw,d1,A4 hi,hld,hal,b5,Aj,VK,l1,l2,l3,lh,a1,a2,VlH,nO,No,r1,cP,zYi]
def Vfy (l:List RC)(tk:Tok)(H:Aa)(hl:l.length<700000000)(hf:∀r∈l,r.fits)(hs:∀r∈l,r.right=true->r.cl.ok):Ubz (.sl (enL cRC l) tk) H=some (.ret (if l.all RC.right then .tup [En (Iy (l.map RC.cl)).1,.i6 (Iy (l.map RC.cl)).2]else .tup [En [],.i6 1]),H):=by
 have pY:=λK=>TA l tk K (by omega) hf;have hal:Av (some [(.sl [] .ti)]) H=some (.ptr H.length 0 0,H++[.c0 [.sl [] .ti]]):=alloc_eq rfl;unfold Ubz;simp only[GMw,hal,pY];cases hr:l.all RC.right with
 |false=>simp only[GMw,OW,zYe]
 |true=>
  have gD:∀r∈l,r.right=true:=Wf.1 hr;have aG:∀c∈l.map RC.cl,c.ok:=λc hc=>by obtain⟨r,h1,rfl⟩:=WZ.1 hc;exact hs r h1 (gD r h1)
  rw[VjX gD hf];generalize hL:l.map RC.cl=L at aG;have hLl:L.length<700000000:=by rw[<-hL];simpa using hl
  have Zt:=λK=>Vnw L tk K (by omega) aG;simp only[GMw,Zt,Ax,Vfz,zYd];have gY:∀c∈DB L,c.ok:=λc hc=>aG c (Vq hc);have hsl:=Vr L;generalize DB L=S at gY hsl;refine Eq.trans ?hd (Ct (G:=λrec1 vs H1=>UaP H rec1 (ag vs 0) (ag vs 1) (ag vs 2) (ag vs 3) (ag vs 4) (ag vs 5) H1) S.length
   (λi=>[.ptr H.length 0 0,.sl (enL cCl S) .no,.i6 (E4 S i:Int),.sl (enL cCl S) .no,.i6 (S.length:Int),.i6 (i:Int)]) (λi=>H++[.c0 [.sl [] .ti]]++bxC (S.take i))
   (some (.ret (.tup [En (SJ S).1,.i6 (SJ S).2]),H)) (by omega) (λrec i hi=>?_) (λrec=>?_))
  case hd=>
   have e0:H++[Blk.c0 [.sl [] .ti]]++bxC (S.take 0)=H++[Blk.c0 [.sl [] .ti]]:=(by simp[bxC]);rw[e0]
   rfl
  exact Vf5 hi gY (by omega) rec
  ·have aV:=Val S;have d1:decide ((S.length:Int)<(S.length:Int))=false:=zXd (by omega);have h1n:1<=E4 S S.length:=(by rw[Qe];omega);rw[Wx];unfold SJ;by_cases hv:1329<E4 S S.length;have aQ:decide ((E4 S S.length:Int)>1329)=true:=zXc (by omega);rw[zYc (by omega)];have xE:Az (some [(.sl [] .ti)]) []=some (.agg [.sl (enL cNd []) .ti]):=rfl;have qt:=IH (H:=H) (Hq:=H++[.c0 [.sl [] .ti]]++bxC S) (tk:=.ti) (Q:=[]) (e:=4) (by rw[VP];simp) (λi hi=>by rw[VP,VN hi]);unfold UaP;simp only[At,Ak,GMw,d1,aQ,xE];exact qt
   ·have aQ:decide ((E4 S S.length:Int)>1329)=false:=zXd (by omega);have hle:Bp S<=1329:=(by omega);have rU:Bp S=E4 S S.length:=(by omega);rw[zYb (by omega)];have mA:∀c∈S,Vjx (Bp S) (-(2^(Bp S-1))) (-(2^(Bp S-1))) c:=λc hc=>VdW (by omega) (Vi7 hle c hc);rw[rU]at mA;rw[rU];obtain⟨n,hn⟩:∃n,E4 S S.length=n+1:=⟨E4 S S.length-1,by omega⟩;rw[hn,Wr]at mA⊢;have iV:∀c∈S,0<=c.x+2^n/\0<=c.y+2^n:=λc hc=>(by obtain⟨q1,q2,q3,q4⟩:=mA c hc;generalize (2:Int)^n=P at *;omega);have wB:=Vo (h:=2^n) (n+1) [] (-(2^n)) (-(2^n)) S 0 0 0 0 (by simp;omega) (by simp;omega) rfl rfl mA;have mU:I_.wrap (((n+1:Nat):Int)-1)=(n:Int):=(by rw[Am]<;>omega);have cD:=λG=>Vpx (m:=n) (by omega) G;have s1:∀B:Aa,Ae 2 (.ptr B.length 0 0) (big (2^n)) (B++[.c0 [.bool false,.sl [] .ti]])=some (B++[.c0 (A7 (2^n))]):=λB=>(by rw[Cc (Ap (B:=B)) rfl,Bg]);obtain⟨B,hB⟩:∃B,B=H++[.c0 [.sl [] .ti]]++bxC S:=⟨_,rfl⟩;have hBH:B[H.length]? = some (.c0 [.sl [] .ti]):=(by rw[hB,VP];simp);have hBo:∀i,i<H.length->B[i]? = H[i]? := λi hi=>(by rw[hB,VP,VN hi]);have hBl:H.length<B.length:=(VJ.1 hBH).1;rw[<-hB];have loop:=Fp (G:=λaA vs H1=>Uby H aA (ag vs 0) (ag vs 1) (ag vs 2) (ag vs 3) (ag vs 4) (ag vs 5) (ag vs 6) H1) S.length
     (λi vs Hc=>∃w,vs=[.ptr H.length 0 0,.i6 ((n+1:Nat):Int),.ptr B.length 0 0,w,.sl (enL cCl S) .no,.i6 (S.length:Int),.i6 (i:Int)]/\RS cSp Ch 3 B.length ((S.take i).map (spot (2^n))) w Hc/\Kp B.length (B++[.c0 (A7 (2^n))]) Hc)
     (by omega) (λi vs Hc hi hI=>?_) (vs:=[.ptr H.length 0 0,.i6 ((n+1:Nat):Int),.ptr B.length 0 0,.sl [] .ti,.sl (enL cCl S) .no,.i6 (S.length:Int),.i6 0]) (H:=B++[.c0 (A7 (2^n))])
     ⟨_,rfl,.inl ⟨rfl,rfl⟩,Kp.refl _ _⟩
    obtain⟨vs,Hc,⟨w,rfl,hR,hK⟩,aA,aB⟩:=loop;rw[Wx]at hR;obtain⟨tk2,rfl⟩:=hR.sl;have hKl:=hK.len;rw[VR,zXi]at hKl;have hHc:Hc[H.length]? = some (.c0 [.sl [] .ti]):=hK.cel _ _ (A1 hBH);have hHo:∀i,i<H.length->Hc[i]? = H[i]? := λi hi=>(by rw[hK.old i (by omega),VN (by omega)];exact hBo i hi);have hbx:Bj true 1 (.agg [.sl [] .ti]) Hc=some (.ptr Hc.length 0 0,Hc++[.c0 [.sl [] .ti]]):=BF rfl rfl;have xE:Az (some [(.sl [] .ti)]) []=some (.agg [.sl [] .ti]):=rfl;have bU:S.length*(n+1)<=700000000*1329:=XK (by omega) (by omega);have uV:∀p∈S.map (spot (2^n)),Vpb p:=λp hp=>(by obtain⟨c,hc,rfl⟩:=WZ.1 hp;obtain⟨q1,q2,q3,q4⟩:=mA c hc;have vG:(2:Int)^(n+1)=((2^(n+1):Nat):Int):=Vm7 _;rw[vG]at q2 q4;have tS:2^(n+1)<=2^(32*44):=Wn (by decide) (by omega);rw[<-VdX]at tS;exact⟨Wg (Fr (k:=44) (by unfold spot;dsimp only;omega)) (by decide),Wg (Fr (k:=44) (by unfold spot;dsimp only;omega)) (by decide)⟩);obtain⟨Hq,w',p1,p2,p3,p4⟩:=VjO (b:=H.length) (pb:=Hc.length) (by omega) (n+1) AI (by rw[Cw];omega) (by omega) (by omega) [] (.sl [] .ti) (S.map (spot (2^n))) tk2 (Hc++[.c0 [.sl [] .ti]]) Ap (.inl ⟨rfl,rfl⟩) (by simp;omega) uV (by simp;omega) (by simp only[zXk,WP];omega);rw[wB]at p1 p3;have bO:=Wg (VfP (n+1) [] (S.map (spot (2^n)))) (Nat.add_le_add_left (by rw[WP];exact bU) _);rw[wB]at bO;simp only[zXk]at bO;generalize Br (n+1) [] (-(2^n)) (-(2^n)) S=P at p1 p3 bO;obtain⟨Q,r⟩:=P;dsimp only at p1 p3 bO⊢;obtain⟨tk3,rfl⟩:=p3.sl;have vA:=λG=>Vor Q tk3 (r:Int) G (by omega);have nA:Hq[H.length]? = some (.c0 [.sl [] .ti]):=p4.cel _ _ (by omega) (A1 hHc);have qU:∀i,i<H.length->Hq[i]? = H[i]? := λi hi=>(by rw[p4.old i hi,VN (by omega)];exact hHo i hi);have wE:Ad false 1 (.ptr Hc.length 0 0) Hq=some (.sl (enL cNd Q) tk3):=(by rw[Bt p2];rfl);unfold UaP;simp only[At,Ak,GMw,d1,show decide (((n+1:Nat):Int)>1329)=false from by rw[<-hn];exact aQ,mU,cD,D6,s1,Ax];rw[aB];unfold Uby;simp only[At,Ak,GMw,d1,xE,hbx,p1,Vf4,Aj,VK,wE,vA];cases VjF Q (r:Int)with|false=>simp only[GMw,Ba,Bd,En,By,zYe];exact IH nA qU|true=>simp only[GMw,Ba,Bd,En,By,zXl,zYd];exact IH nA qU
    obtain⟨w,rfl,hR,hK⟩:=hI;have hKl:=hK.len;rw[VR,zXi]at hKl;obtain⟨w',Hd,t1,t2,t3⟩:=Vet (H:=H) (x50:=.ptr H.length 0 0) (x51:=.i6 ((n+1:Nat):Int)) (tk:=.no) hi gY (by omega) (by omega) iV (by omega) hR (hK.cel _ _ Ap);exact⟨_,Hd,⟨w',rfl,t2,hK.trans t3⟩,t1⟩
def rcC (c:Cl):RC:=⟨decide (c.x<0),A8 c.x.natAbs,decide (c.y<0),A8 c.y.natAbs,c.s⟩
def TO (z:Int):HD (decide (z<0)) (A8 z.natAbs)=true:=by
 unfold HD;rw[Sv,zXn];by_cases h:z<0;have:A8 z.natAbs≠[]:=Pk (by omega);rw[zXc h];cases hl:A8 z.natAbs with|nil=>exact zYf hl this|cons _ _=>rfl
 rw[zXd h];rfl
def VeJ (c:Cl):(rcC c).right=true:=by unfold RC.right rcC;rw[TO,TO];rfl
def VeK (c:Cl):(rcC c).cl=c:=by unfold RC.cl rcC;rw[L3,L3]
theorem VbQ {c:Cl}(h:c.ok):(rcC c).fits:=⟨Bw _,Bw _,h.1.lb (by decide),h.2.lb (by decide)⟩
def Vg2 (L:List Cl):enL cRC (L.map rcC)=enL cCl L:=by
 unfold enL;rw[List.map_map]
 rfl
def Vf9 (L:List Cl):(L.map rcC).map RC.cl=L:=by
 rw[List.map_map]
 conv=>rhs;rw[<-List.map_id L]
 exact Y2 λc _=>VeK c
def Vhf (L:List Cl):(L.map rcC).all RC.right=true:=by rw[Wf];intro r hr;obtain⟨c,_,rfl⟩:=WZ.1 hr;exact VeJ c
def Vis (L:List Cl)(tk:Tok)(H:Aa)(hl:L.length<700000000)(hok:∀c∈L,c.ok):Ubz (.sl (enL cCl L) tk) H=some (.ret (.tup [En (Iy L).1,.i6 (Iy L).2]),H):=by have h:=Vfy (L.map rcC) tk H (by rw[WP];exact hl) (λr hr=>by obtain⟨c,hc,rfl⟩:=WZ.1 hr;exact VbQ (hok c hc)) (λr hr _=>by obtain⟨c,hc,rfl⟩:=WZ.1 hr;rw[VeK];exact hok c hc);rw[Vhf,Vg2,Vf9,zYc rfl]at h;exact h
def EQ (r:(zAa×List Nd)×Int×Int):Ab:=.tup [pat r.1.1 r.1.2,.i6 r.2.1,.i6 r.2.2]
theorem HH (rule:zAa)(L:List Nd):pat rule L=.agg [.str rule,.sl (enL cNd L) .no]:=rfl
theorem S1 (L:List Nd):En L=.agg [.sl (enL cNd L) .no]:=rfl
def Vlf (bx N:Int)(H:Aa):UbV (.agg [.i6 bx,.i6 N]) H=some (.ret (.bool (Iq bx N)),H):=by unfold UbV UbU Iq;by_cases h1:bx>=0;by_cases h2:bx<=1000;by_cases h3:N>=0;simp only[GMw,HPw,Nat.reduceAdd,h1,h2,h3];simp only[GMw,HPw,Nat.reduceAdd,h1,h2,h3];simp only[GMw,HPw,Nat.reduceAdd,h1,h2];simp only[GMw,HPw,Nat.reduceAdd,h1]
def Vlk {b:zAa}{f a n:Nat}{rest:zAa}(hs:AE b a DU=true)(h1:¬(f<a/\b[f]? = some 48))(h2:¬a-f=400):FU b f rest (n+1) a=FU b f rest n (a+1):=by rw[FU,zYc hs,zYb h1,zYb h2]
def Vja {b:zAa}{i:Nat}(h:i<b.length):AE b i DU=(decide ((b[i].toNat:Int)>=48)&&decide ((b[i].toNat:Int)<=57)):=by
 unfold AE DU;rw[VG h];have:∀c:UInt8,([48,49,50,51,52,53,54,55,56,57]:zAa).contains c=decide (48<=c.toNat/\c.toNat<=57):=λc=>by simp only[List.contains_eq_mem,WF,List.not_mem_nil,or_false,decide_eq_decide,<-Xt];simp only[UInt8.reduceToNat];omega
 simp only[this];rw[VZ];simp only[zXe,VV];omega
theorem U6 (c:UInt8):decide ((c.toNat:Int)=48)=decide (c=48):=Ved c 48 (by decide)
def VqA (b:zAa)(a:Nat)(neg:Bool):Int:=match (Cv b a neg []).1 with
 |none=>BQ ((b.take (Cv b a neg []).2).drop a)
 |some _=>0
def NV (b:zAa)(a:Nat)(R:Er×Nat):Ab:=.tup [Bq b R.2 (B8 R.1),big (match R.1 with | none=>BQ ((b.take R.2).drop a) | some _=>0)]
def VeR {b:zAa}{a:Nat}(ha:a<=b.length)(hb:b.length<1152921504606846976)(neg:Bool)(H:Aa):Ufz (Bq b a 0) (.bool neg) H=some (.ret (NV b a (Cv b a neg [])),H):=by
 have eB:Az (some [(.bool false),(.sl [] .ti)]) []=some (.agg [.bool false,.sl [] .ti]):=rfl;have hz:Ab.agg [.bool false,.sl [] .no]=big 0:=by rw[<-Ns];rfl
 have loop:∀(m:Bool)(f:Nat),a<=f->f<=b.length->(m=true->¬b[f]? = some 48) ->
   An (λaA vs H1=>UbJ H aA (ag vs 0) (ag vs 1) (ag vs 2) (ag vs 3) (ag vs 4) (ag vs 5) H1) AI [.ptr H.length 0 0,.ptr (H.length+1) 0 0,.ptr (H.length+2) 0 0,.i6 (a:Int),.bool m,.i6 (f:Int)] (H++[.c0 [.str b,.i6 (f:Int),.i6 0],.c0 [.str [],.i6 0,.i6 0],.c0 [.bool false,.sl [] .ti]])=some (.ret (NV b a (FU b f [] 402 f)),H):=by
  intro m f haf hf hm0;have key:=Bf (G:=λaA vs H1=>UbJ H aA (ag vs 0) (ag vs 1) (ag vs 2) (ag vs 3) (ag vs 4) (ag vs 5) H1) (σ:=Nat) (λi=>f<=i/\i<=b.length/\i-f<=400) (λ_=>[.ptr H.length 0 0,.ptr (H.length+1) 0 0,.ptr (H.length+2) 0 0,.i6 (a:Int),.bool m,.i6 (f:Int)])
   (λi=>H++[.c0 [.str b,.i6 (i:Int),.i6 0],.c0 [.str [],.i6 0,.i6 0],.c0 [.bool false,.sl [] .ti]]) (λi=>b.length-i) (λi=>some (.ret (NV b a (FU b f [] (402-(i-f)) i)),H)) (λi rec hi hrec=>?_) f ⟨VM _,hf,by omega⟩ (by omega)
  rw[Wu,Nat.sub_zero]at key;exact key
  ·obtain⟨h1,h2,h3⟩:=hi;have he:=λe H=>Ed b i e H;have hst:=λe H=>FT b i e H;unfold Bq AP at he hst;have e:402-(i-f)=(401-(i-f))+1:=(by omega);have dO:=Ea h2;have hw:I_.wrap ((i:Int)-(f:Int))=((i-f:Nat):Int):=(by rw[Am]<;>omega);rw[e];unfold UbJ;by_cases aO:b.length<=i;have hs:AE b i DU=false:=(by unfold AE;rw[zYa aO]);rw[FU,zYb (by rw[hs];decide)];by_cases gG:i=f;have dD:decide ((i:Int)=(f:Int))=true:=zXc (by omega);rw[zYc gG];simp only[GMw,HPw,Nat.reduceAdd,Nat.reduceLT,Ak,he,aO,dD,hst,eB,NV,Bq,AP,CF,dO,hz];have dD:¬(i:Int)=(f:Int):=(by omega);rw[zYb gG];have hp:=λH=>PY ((b.take i).drop a) H (by rw[Wd,Wc];omega);obtain⟨sg,es,dS⟩:∃sg es,big (BQ ((b.take i).drop a))=.agg [.bool sg,.sl es .no]:=⟨_,_,JL _⟩;rw[dS]at hp;simp only[GMw,HPw,Nat.reduceAdd,Nat.reduceLT,Ak,he,aO,dD,IF (show a<=i by omega) h2,hp,NV,Bq,AP,CO,dS]
   ·have hlt:i<b.length:=(by omega);have jU:=Vja hlt;cases hs:AE b i DU with
    |false=>rw[hs]at jU;rw[FU,zYb (by rw[hs];decide)];have stop:∀(x:Bool),x=false->(Ai (.bool x) (none:Out) ((Ad false 1 (.ptr H.length 0 1) (H++[.c0 [.str b,.i6 (i:Int),.i6 0],.c0 [.str [],.i6 0,.i6 0],.c0 [.bool false,.sl [] .ti]])).bind λ_=>none))=none:=λx hx=>(by subst hx;simp only[GMw,HPw]);by_cases hge:(b[i].toNat:Int)>=48;have hle:¬(b[i].toNat:Int)<=57:=λh=>(by rw[zXc hge,zXc h]at jU;cases jU);by_cases gG:i=f;have dD:decide ((i:Int)=(f:Int))=true:=zXc (by omega);rw[zYc gG];simp only[GMw,HPw,Nat.reduceAdd,Nat.reduceLT,Ak,he,aO,AQ hlt,hge,hle,dD,hst,eB,NV,Bq,AP,CF,dO,hz];have dD:¬(i:Int)=(f:Int):=(by omega);rw[zYb gG];have hp:=λH=>PY ((b.take i).drop a) H (by rw[Wd,Wc];omega);obtain⟨sg,es,dS⟩:∃sg es,big (BQ ((b.take i).drop a))=.agg [.bool sg,.sl es .no]:=⟨_,_,JL _⟩;rw[dS]at hp;simp only[GMw,HPw,Nat.reduceAdd,Nat.reduceLT,Ak,he,aO,AQ hlt,hge,hle,dD,IF (show a<=i by omega) h2,hp,NV,Bq,AP,CO,dS];by_cases gG:i=f;have dD:decide ((i:Int)=(f:Int))=true:=zXc (by omega);rw[zYc gG];simp only[GMw,HPw,Nat.reduceAdd,Nat.reduceLT,Ak,he,aO,AQ hlt,hge,dD,hst,eB,NV,Bq,AP,CF,dO,hz];have dD:¬(i:Int)=(f:Int):=(by omega);rw[zYb gG];have hp:=λH=>PY ((b.take i).drop a) H (by rw[Wd,Wc];omega);obtain⟨sg,es,dS⟩:∃sg es,big (BQ ((b.take i).drop a))=.agg [.bool sg,.sl es .no]:=⟨_,_,JL _⟩;rw[dS]at hp;simp only[GMw,HPw,Nat.reduceAdd,Nat.reduceLT,Ak,he,aO,AQ hlt,hge,dD,IF (show a<=i by omega) h2,hp,NV,Bq,AP,CO,dS]
    |true=>
     rw[hs]at jU;obtain⟨hge,hle⟩:(b[i].toNat:Int)>=48/\(b[i].toNat:Int)<=57:=(by have:=jU.symm;simp only[VV,zXe]at this;exact this);have go:¬(f<i/\b[f]? = some 48)->((Af .n .sub (.i6 (i:Int)) (.i6 (f:Int))).bind λx93=>
      (Af .n .eql x93 (.i6 400)).bind λx94=>
      Ai x94 (
      bP H (As (Ae 1 (.ptr H.length 0 2) (.i6 4) (H++[.c0 [.str b,.i6 (i:Int),.i6 0],.c0 [.str [],.i6 0,.i6 0],.c0 [.bool false,.sl [] .ti]]))) λ_ H97=>
      (Ad true 3 (.ptr H.length 0 0) H97).bind λx98=>
      (Az (some [(.bool false),(.sl [] .ti)]) []).bind λx99=>
      bP H (As (Ae 3 (.ptr (H.length+1) 0 0) x98 H97)) λ_ H101=>
      bP H (As (Ae 2 (.ptr (H.length+2) 0 0) x99 H101)) λ_ H103=>
      (BV [Ad true 3 (.ptr (H.length+1) 0 0) H103,Ad true 2 (.ptr (H.length+2) 0 0) H103]).bind λx104=>rPN H x104 H103) (
      (Ad false 1 (.ptr H.length 0 1) (H++[.c0 [.str b,.i6 (i:Int),.i6 0],.c0 [.str [],.i6 0,.i6 0],.c0 [.bool false,.sl [] .ti]])).bind λx106=>
      (Af .n .add x106 (.i6 1)).bind λx107=>
      bP H (As (Ae 1 (.ptr H.length 0 1) x107 (H++[.c0 [.str b,.i6 (i:Int),.i6 0],.c0 [.str [],.i6 0,.i6 0],.c0 [.bool false,.sl [] .ti]]))) λ_ H110=>
      rec [.ptr H.length 0 0,.ptr (H.length+1) 0 0,.ptr (H.length+2) 0 0,.i6 (a:Int),.bool m,.i6 (f:Int)] H110))=some (.ret (NV b a (FU b f [] (401-(i-f)+1) i)),H):=by
      intro hn;simp only[GMw,hw];by_cases h4:i-f=400;have pC:((i-f:Nat):Int)=400:=(by omega);rw[FU,zYc hs,zYb hn,zYc h4];simp only[pC,GMw,HPw,Nat.reduceAdd,Nat.reduceLT,eB,NV,Bq,AP,CF,hz];have pC:¬((i-f:Nat):Int)=400:=(by omega);rw[Vlk hs hn h4];have:=hrec (i+1) ⟨by omega,by omega,by omega⟩ (by omega);rw[show 402-(i+1-f)=401-(i-f)by omega]at this;simp only[pC,GMw,HPw,Nat.reduceAdd,Nat.reduceLT,Ar (show i<9223372036854775807 by omega)];exact this
     have bad:b[f]? = some 48/\f<i->some (Res.ret (.tup [.agg [.str b,.i6 (i:Int),.i6 (Ig b i)],big 0]),H)=some (.ret (NV b a (FU b f [] (401-(i-f)+1) i)),H):=λhc=>(by rw[FU,zYc hs,zYc ⟨hc.2,hc.1⟩];simp only[NV,Bq,AP,CF,dO]);have dI:f<b.length:=(by omega);have uB:b[f]? = some b[f]:=VG dI;by_cases dZ:f<i
     ·have jL:¬(i:Int)=(f:Int):=(by omega);have iF:(i:Int)>(f:Int):=(by omega);by_cases eY:b[f]=48;have gJ:=bad ⟨by rw[uB,eY],dZ⟩;cases m with|false=>simp only[GMw,HPw,Nat.reduceAdd,Nat.reduceLT,Ak,he,aO,AQ hlt,AQ dI,hge,hle,jL,iF,U6,eY,hst,eB,hz];exact gJ|true=>simp only[GMw,HPw,Nat.reduceAdd,Nat.reduceLT,Ak,he,aO,AQ hlt,AQ dI,hge,hle,jL,iF,U6,eY,hst,eB,hz];exact gJ
      have jT:=go (λhc=>eY (by have:=hc.2;rw[uB]at this;exact Xf this));simp only[GMw,HPw,Nat.reduceAdd,Nat.reduceLT,eB]at jT;cases m with|false=>simp only[GMw,HPw,Nat.reduceAdd,Nat.reduceLT,Ak,he,aO,AQ hlt,AQ dI,hge,hle,jL,iF,U6,eY,hst,eB];exact jT|true=>simp only[GMw,HPw,Nat.reduceAdd,Nat.reduceLT,Ak,he,aO,AQ hlt,AQ dI,hge,hle,jL,iF,U6,eY,hst,eB];exact jT
     have gG:i=f:=(by omega);have jL:(i:Int)=(f:Int):=(by omega);have iF:¬(i:Int)>(f:Int):=(by omega);have jT:=go (λhc=>dZ hc.1);simp only[GMw,HPw,Nat.reduceAdd,Nat.reduceLT,eB]at jT;cases m with|false=>simp only[GMw,HPw,Nat.reduceAdd,Nat.reduceLT,Ak,he,aO,AQ hlt,hge,hle,iF,hst,eB];exact jT|true=>have eY:¬b[i]=48:=λe'=>hm0 rfl (by rw[<-gG,VG hlt,e']);have lP:decide ((i:Int)=(f:Int))=true:=zXc jL;simp only[GMw,HPw,Nat.reduceAdd,Nat.reduceLT,Ak,he,aO,AQ hlt,hge,hle,lP,iF,U6,eY,hst,eB];exact jT
 have qC:AE b a [45]=isB b a 45:=by unfold isB;by_cases h:a<b.length;rw[JV h,VG h];simp;unfold AE;rw[zYa (by omega)];simp
 have gC:=λe H=>M9 b a e 45 H;unfold Bq AP at gC;rw[show(((45:UInt8).toNat:Int))=45 from rfl]at gC;unfold Ufz Ufk Bq AP;cases neg with
 |false=>have:=loop false a (VM _) ha (λh=>by cases h);have e:Cv b a false []=FU b a [] 402 a:=rfl;rw[e];simp only[GMw,HPw,Nat.reduceAdd]at this⊢;exact this
 |true=>
  cases hm:isB b a 45 with
  |false=>have:=loop false a (VM _) ha (λh=>by cases h);have e:Cv b a true []=FU b a [] 402 a:=(by simp[Cv,Pq,qC,hm]);rw[e];simp only[GMw,HPw,Nat.reduceAdd,Nat.reduceLT,gC,hm]at this⊢;exact this
  |true=>have hlt:a<b.length:=(by rw[<-qC]at hm;exact Ca hm);have hw:=Ar (show a<9223372036854775807 by omega);cases h0:AE b (a+1) [48]with|false=>have e:Cv b a true []=FU b (a+1) [] 402 (a+1):=(by simp[Cv,Pq,qC,hm,h0]);have:=loop true (a+1) (Nat.le_succ _) hlt (λ_ hc=>by unfold AE at h0;rw[hc]at h0;cases h0);rw[e];simp only[GMw,HPw,Nat.reduceAdd,Nat.reduceLT,gC,hm,hw]at this⊢;exact this|true=>have dB:=Ca h0;have eY:b[a+1]=48:=(by rw[JV dB]at h0;exact of_decide_eq_true h0);have e:Cv b a true []=(some (Fi b (a+1) []),a+1):=(by simp[Cv,qC,hm,h0]);rw[e];have he:=λe H=>Ed b (a+1) e H;have hst:=λe H=>FT b (a+1) e H;unfold Bq AP at he hst;have vS:¬b.length<=a+1:=(by omega);have dO:=Ea (show a+1<=b.length by omega) [];simp only[GMw,HPw,Nat.reduceAdd,Nat.reduceLT,gC,hm,hw];rw[Dx Eh];unfold UbJ;simp only[GMw,HPw,Nat.reduceAdd,Nat.reduceLT,Ak,he,vS,AQ dB,eY,show decide (((48:UInt8).toNat:Int)>=48)=true from by decide,show decide (((48:UInt8).toNat:Int)<=57)=true from by decide,show decide (((48:UInt8).toNat:Int)=48)=true from by decide,hst,eB,NV,Bq,AP,CF,dO,hz]
def VbT (b:zAa)(a:Nat){e:Int}(he:e≠0)(neg:Bool)(H:Aa):Ufz (Bq b a e) (.bool neg) H=some (.ret (.tup [Bq b a e,big 0]),H):=by
 have eB:Az (some [(.bool false),(.sl [] .ti)]) []=some (.agg [.bool false,.sl [] .ti]):=rfl;have hz:Ab.agg [.bool false,.sl [] .no]=big 0:=by rw[<-Ns];rfl
 unfold Ufz Bq AP;simp only[GMw,HPw,Nat.reduceAdd,he,eB,hz]
def B1 (M:Er×Nat)(f:Nat->Er×Nat):Er×Nat:=match M.1 with
 |some e=>(some e,M.2)
 |none=>f M.2
theorem C6 (e:Int×zAa)(c:Nat)(f:Nat->Er×Nat):B1 (some e,c) f=(some e,c):=rfl
theorem BU (c:Nat)(f:Nat->Er×Nat):B1 (none,c) f=f c:=rfl
def Co {M:Er×Nat}{f:Nat->Er×Nat}(h:Dt M.1)(hf:∀c,Dt (f c).1):Dt (B1 M f).1:=by obtain⟨er,c⟩:=M;cases er with|some e=>exact h|none=>exact hf c
def DZ {M:Er×Nat}{f:Nat->Er×Nat}{n:Nat}(h:M.2<=n)(hf:∀c,c<=n->(f c).2<=n):(B1 M f).2<=n:=by obtain⟨er,c⟩:=M;cases er with|some e=>exact h|none=>exact hf c h
def Oo {er:Er}{e:Int×zAa}(h:Dt er)(he:er=some e):e.1≠0:=by have:=h e he;omega
section
variable {b:zAa}{er:Er}{c:Nat}
theorem VdJ (ha:c<=b.length)(s rest:zAa):B8 (BW b c s rest).1=VoL b c s:=by
 unfold BW VoL;dsimp only;split;exact Ea (Vba ha s) _
 ·rfl
theorem Kk (ha:c<=b.length)(rest:zAa):B8 (EA b c rest).1=Tv b c:=by
 unfold EA Tv;dsimp only;split
 ·rfl
 ·split
  ·rfl
  ·exact Ea (by
    unfold crN;split;rename_i h;exact Ca h
    ·exact ha) _
theorem Qy (ha:c<=b.length)(rest:zAa):B8 (Gi b c rest).1=Vk4 b c:=by
 unfold Gi Vk4;dsimp only;split;exact Ea ha _
 ·rfl
def VoB (x y:Er×Nat):Prop:=x.2=y.2/\B8 x.1=B8 y.1/\(x.1=none↔y.1=none)
theorem Vdg (b:zAa)(a:Nat)(s t:zAa):(Fi b a s).1=(Fi b a t).1:=by unfold Fi;split<;>rfl
theorem SK (b:zAa)(f:Nat)(r s:zAa):∀n a,VoB (FU b f r n a) (FU b f s n a)
 |0,a=>⟨rfl,rfl,Iff.rfl⟩
 |n+1,a=>by unfold FU;split;split;exact⟨rfl,rfl,Iff.rfl⟩;split;exact⟨rfl,rfl,Iff.rfl⟩;exact SK b f r s n (a+1);split;exact⟨rfl,Vdg _ _ _ _,by simp⟩;exact⟨rfl,rfl,Iff.rfl⟩
theorem Ta (b:zAa)(a:Nat)(neg:Bool)(r s:zAa):VoB (Cv b a neg r) (Cv b a neg s):=by unfold Cv;split;exact⟨rfl,rfl,Iff.rfl⟩;exact SK _ _ _ _ _ _
theorem VgB (hc:c<=b.length)(hb:b.length<1000000000000)(he:Dt er)(s rest:zAa)(K:Aa):Ufy (Bq b c (B8 er)) (.str s) K=some (.ret (Bq b (B1 (er,c) λc=>BW b c s rest).2 (B8 (B1 (er,c) λc=>BW b c s rest).1)),K):=by cases er with|some e=>rw[C6];exact VhL b c (Oo he rfl) s K|none=>rw[BU,VdJ hc];exact VkF hc (by omega) s K
theorem Vjd (hc:c<=b.length)(hb:b.length<1000000000000)(he:Dt er)(K:Aa):Uf4 (Bq b c (B8 er)) K=some (.ret (Bq b (B1 (er,c) λc=>EA b c []).2 (B8 (B1 (er,c) λc=>EA b c []).1)),K):=by cases er with|some e=>rw[C6];exact VhM b c (Oo he rfl) K|none=>rw[BU,Kk hc];exact VkG hc (by omega) K
theorem Vof (hc:c<=b.length)(hb:b.length<1000000000000)(he:Dt er):∃s,(∀K,Ua0 (Bq b c (B8 er)) K=some (.ret (.tup [Bq b (B1 (er,c) λc=>Gi b c []).2 (B8 (B1 (er,c) λc=>Gi b c []).1),.str s]),K))/\((B1 (er,c) λc=>Gi b c []).1=none->s=(b.take (B1 (er,c) λc=>Gi b c []).2).drop c):=by
 cases er with
 |some e=>rw[C6];exact⟨[],λK=>VeQ b c (Oo he rfl) K,λh=>by cases h⟩
 |none=>
  rw[BU,Qy hc];refine⟨_,λK=>VhK hc (by omega) K,λh=>?_⟩;unfold Gi at h;dsimp only at h;split at h
  cases h;rename_i hn;rw[zYb hn];rfl
theorem VdS:(0:Int).natAbs<10^400:=by
 have:=Gx []
 rwa [show BQ []=0 from by decide]at this
theorem Vog (hc:c<=b.length)(hb:b.length<1000000000000)(he:Dt er)(rest:zAa):∃z,(∀K,Ufz (Bq b c (B8 er)) (.bool true) K=some (.ret (.tup [Bq b (B1 (er,c) λc=>Cv b c true rest).2 (B8 (B1 (er,c) λc=>Cv b c true rest).1),big z]),K))/\((B1 (er,c) λc=>Cv b c true rest).1=none->z=BQ ((b.take (B1 (er,c) λc=>Cv b c true rest).2).drop c))/\z.natAbs<10^400:=by
 cases er with
 |some e=>rw[C6];exact⟨0,λK=>VbT b c (Oo he rfl) true K,(λh=>by cases h),VdS⟩
 |none=>rw[BU];obtain⟨h1,h2,h3⟩:=Ta b c true [] rest;have hi:=λK=>VeR hc (show b.length<1152921504606846976 by omega) true K;unfold NV at hi;rw[h1,h2]at hi;refine⟨_,hi,λh=>?_,?_⟩;rw[h3.2 h];split;exact Gx _;exact VdS
theorem Vaf (b:zAa)(c:Nat){e:Int}(he:e≠0){p m:List Ab}(hp:p.all Ab.isScal=true)(bO:p.length=2)(hm:m.all Ab.isScal=true)(hml:m.length=2)(e3:Ab)(K:Aa):Ua3 (.agg [.str b,.i6 (c:Int),.i6 e]) (.agg p) e3 (.agg m) K=some (.ret (.tup [.agg [.str [],.sl [] .no],.i6 (c:Int),.i6 e]),K):=by
 have hf:decide (e=0)=false:=zXd he;have b1:Az (some [(.str []),(.sl [] .ti)]) []=some (.agg [.str [],.sl [] .ti]):=rfl;unfold Ua3;simp only[GMw,HPw,Nat.reduceAdd,hp,bO,hm,hml,hf,b1]
theorem VaL (b:zAa)(c:Nat)(law:zAa)(Q:List Nd)(bx N e3:Int)(K:Aa):Ua3 (.agg [.str b,.i6 (c:Int),.i6 0]) (.agg [.str law,.sl (enL cNd Q) .no]) (.i6 e3) (.agg [.i6 bx,.i6 N]) K =
   some (.ret (if e3=0/\(Q.length:Int)<=N then .tup [.agg [.str law,.sl (enL cNd Q) .no],.i6 0,.i6 0]else .tup [.agg [.str [],.sl [] .no],.i6 (b.length:Int),.i6 4]),K):=by
 have b1:Az (some [(.str []),(.sl [] .ti)]) []=some (.agg [.str [],.sl [] .ti]):=rfl;unfold Ua3;by_cases he:e3=0;have hf:decide (e3=0)=true:=zXc he;by_cases hq:(Q.length:Int)<=N;have hg:decide ((Q.length:Int)>N)=false:=zXd (by omega);rw[zYc ⟨he,hq⟩];simp only[GMw,HPw,Nat.reduceAdd,hf,b1,Ax,hg];have hg:decide ((Q.length:Int)>N)=true:=zXc (by omega);rw[zYb (λh=>hq h.2)];simp only[GMw,HPw,Nat.reduceAdd,hf,b1,Ax,hg];have hf:decide (e3=0)=false:=zXd he;rw[zYb (λh=>he h.1)];simp only[GMw,HPw,Nat.reduceAdd,hf,b1]

end
def VkN (L:List Cl)(tk:Tok)(H:Aa)(hl:L.length<700000000)(hok:∀c∈L,c.ok):UbT (.sl (enL cCl L) tk) H=some (.ret (.tup [En (Iy L).1,.i6 (Iy L).2]),H):=by have h:=Vnm (L.map rcC) tk H (by rw[WP];omega) (λr hr=>by obtain⟨c,hc,rfl⟩:=WZ.1 hr;exact VbQ (hok c hc)) (λr hr _=>by obtain⟨c,hc,rfl⟩:=WZ.1 hr;rw[VeK];exact hok c hc);rw[Vhf,Vg2,Vf9,zYc rfl]at h;exact h
def Vk2 {b:zAa}{a:Nat}(ha:a<b.length)(c:UInt8):isB b a c=AE b a [c]:=by rw[JV ha];unfold isB;rw[VG ha];simp
structure DI (H:Aa)(b:zAa)(bx N:Int)(er:Er)(c:Nat)(K:Aa):Prop where
 lim:K[H.length]? = some (.c0 [.i6 bx,.i6 N])
 res:K[H.length+1]? = some (.c0 [.str [],.sl [] .ti])
 cur:K[H.length+2]? = some (.c0 (AP b c (B8 er)))
 old:∀i,i<H.length->K[i]? = H[i]?
section
variable {H:Aa}{b:zAa}{bx N:Int}{er:Er}{c:Nat}{v:Ab}{K:Aa}
theorem DI.len (h:DI H b bx N er c K):H.length+2<K.length:=(VJ.1 h.cur).1
theorem DI.push (h:DI H b bx N er c K)(G:Aa):DI H b bx N er c (K++G):=
 ⟨A1 h.lim,A1 h.res,A1 h.cur,λi hi=>by have:=h.len;rw[VN (by omega)];exact h.old i hi⟩
theorem DI.kp (h:DI H b bx N er c K){K':Aa}(hk:Kp H.length K K'):DI H b bx N er c K':=
 ⟨hk.cel _ _ h.lim,hk.cel _ _ h.res,hk.cel _ _ h.cur,λi hi=>(hk.old i hi).trans (h.old i hi)⟩
theorem DI.mv (h:DI H b bx N er c K)(er':Er)(c':Nat):DI H b bx N er' c' (K.set (H.length+2) (.c0 (AP b c' (B8 er')))):=by have hl:=h.len;refine⟨?_,?_,?_,λi hi=>?_⟩;rw[VH (by omega)];exact h.lim;rw[VH (by omega)];exact h.res;rw[VX (by omega)];rw[VH (by omega)];exact h.old i hi
theorem DI.ld (h:DI H b bx N er c K):Ad true 3 (.ptr (H.length+2) 0 0) K=some (Bq b c (B8 er)):=CV (sz:=3) h.cur rfl
theorem DI.sto (h:DI H b bx N er c K)(c':Nat)(e':Int):Ae 3 (.ptr (H.length+2) 0 0) (Bq b c' e') K=some (K.set (H.length+2) (.c0 (AP b c' e'))):=Dz (sz:=3) h.cur rfl rfl rfl
theorem DI.le3 (h:DI H b bx N er c K):Ad false 1 (.ptr (H.length+2) 0 2) K=some (.i6 (B8 er)):=by rw[Bt h.cur];rfl

end
structure Bk where
 p0:Bool
 e0:List (List Ab)
 t0:Tok
 p1:Bool
 e1:List (List Ab)
 t1:Tok
def bkB (x y:Int):Bk:=⟨decide (x<0),enL cU (A8 x.natAbs),.no,decide (y<0),enL cU (A8 y.natAbs),.no⟩
def Vby {K:Aa}{n d:Nat}{es:List (List Ab)}{tk:Tok}(h:∀t,tk=.own t->t<n):frz K n (d+1) (.sl es tk)=some (.sl es tk):=by cases tk with|own t=>simp[frz,h t rfl]|_=>simp[frz]
def QA (H:Aa)(n d:Nat):Ei H n (d+1) []=some []:=by simp[Ei]
def OF (H:Aa)(n d:Nat)(v:Ab)(vs:List Ab):Ei H n (d+1) (v::vs)=(frz H n d v).bind λv=>(Ei H n (d+1) vs).map (v::·):=by simp[Ei]
def OU {b:zAa}{a:Nat}(ha:a<=b.length)(c:UInt8):isB b a c=AE b a [c]:=by
 by_cases h:a<b.length;exact Vk2 h c
 ·unfold isB AE;rw[zYa (by omega)]
  rfl
section
variable {b:zAa}{a:Nat}{st:BSt}

end
def UV (b:zAa)(a:Nat):Er×Nat:=BW b (a+7) JZ ([48,44,48,10]++B9)
def UU (b:zAa)(a:Nat):Er×Nat:=B1 (UV b a) λc=>Cv b c true ([44,48,10]++B9)
def UT (b:zAa)(a:Nat):Er×Nat:=B1 (UU b a) λc=>BW b c [44] ([48,10]++B9)
def US (b:zAa)(a:Nat):Er×Nat:=B1 (UT b a) λc=>Cv b c true (10::B9)
def VeH (b:zAa)(a:Nat):Er×Nat:=B1 (US b a) λc=>EA b c []
def Gk (b:zAa)(a:Nat)(st:LSt):(Er×Nat)×LSt:=
 if cpN (b.drop a) Jm<7 then (EA b (L4 b a) [],st)
 else (VeH b a,{st with x:=BQ ((b.take (UU b a).2).drop (UV b a).2),y:=BQ ((b.take (US b a).2).drop (UT b a).2)})
def Vhk (b:zAa)(e:Int×zAa)(c:Nat)(D:Er×Nat):Prop:=(B8 D.1=e.1/\D.1≠none/\D.2=c)\/(D=(none,b.length)/\c=b.length/\e.1=3)
def TC {b:zAa}{a:Nat}(ha:a<=b.length)(rest:zAa):(∀e c,Ik b a rest=(some e,c)->Vhk b e c (EA b a []))/\(∀c,Ik b a rest=(none,c)->EA b a []=(none,c)):=by
 unfold Ik;by_cases h:a=b.length;rw[zYc h];refine⟨λe c he=>?_,λc he=>by cases he⟩;injection he with h1 h2;injection h1 with h1;subst h2;right;refine⟨?_,h,?_⟩;unfold EA MN crN;subst h;simp;rw[<-h1];unfold Fi;rw[zYc h]
 ·rw[zYb h];have hc:(EA b a rest).2=(EA b a []).2:=rfl;have h1:(EA b a rest).1=none↔(EA b a []).1=none:=by unfold EA;dsimp only;rw[zYb h,zYb h];split<;>simp
  have h2:B8 (EA b a rest).1=B8 (EA b a []).1:=by rw[Kk ha,Kk ha]
  refine⟨λe c he=>.inl ?_,λc he=>?_⟩;rw[he]at hc h1 h2;exact⟨h2.symm,(λhn=>by have:=h1.2 hn;cases this),hc.symm⟩;rw[he]at hc h1;exact Prod.ext (h1.1 rfl) hc.symm
def VbO {b:zAa}{a:Nat}(ha:a<=b.length)(st:LSt):(∀e c st',M0 b a st=((some e,c),st')->Vhk b e c (Gk b a st).1)/\(∀c st',M0 b a st=((none,c),st')->Gk b a st=((none,c),st')):=by
 unfold M0 Gk;by_cases h7:cpN (b.drop a) Jm<7;rw[zYc h7,zYc h7];obtain⟨k1,k2⟩:=TC (NR ha) B9;refine⟨λe c st' h=>?_,λc st' h=>?_⟩;injection h with h1 h2;exact k1 e c h1;injection h with h1 h2;rw[k2 c h1,h2]
 ·rw[zYb h7,zYb h7];have hle:=Hz (b.drop a) Jm;have h0:a+7<=b.length:=by rw[Wd]at hle;omega
  have l1:=Cp (s:=JZ) (rest:=[48,44,48,10]++B9) h0;unfold VeH US UT UU UV;generalize BW b (a+7) JZ ([48,44,48,10]++B9)=M at l1;obtain⟨er,c1⟩:=M;dsimp only at l1;cases er with
  |some e0=>simp only[C6];exact⟨λe c st' h=>by injection h with h1 _;injection h1 with h1 h2;injection h1 with h1;subst h1 h2;exact .inl ⟨rfl,by simp,rfl⟩,λc st' h=>by injection h with h1 _;injection h1 with h1 _;cases h1⟩
  |none=>
   simp only[BU];have l2:=Dk l1 true ([44,48,10]++B9);generalize Cv b c1 true ([44,48,10]++B9)=M at l2;obtain⟨er,c2⟩:=M;dsimp only at l2;cases er with
   |some e0=>simp only[C6];exact⟨λe c st' h=>by injection h with h1 _;injection h1 with h1 h2;injection h1 with h1;subst h1 h2;exact .inl ⟨rfl,by simp,rfl⟩,λc st' h=>by injection h with h1 _;injection h1 with h1 _;cases h1⟩
   |none=>
    simp only[BU];have l3:=Cp (s:=[44]) (rest:=[48,10]++B9) l2.2;generalize BW b c2 [44] ([48,10]++B9)=M at l3;obtain⟨er,c3⟩:=M;dsimp only at l3;cases er with
    |some e0=>simp only[C6];exact⟨λe c st' h=>by injection h with h1 _;injection h1 with h1 h2;injection h1 with h1;subst h1 h2;exact .inl ⟨rfl,by simp,rfl⟩,λc st' h=>by injection h with h1 _;injection h1 with h1 _;cases h1⟩
    |none=>
     simp only[BU];have l4:=Dk l3 true (10::B9);generalize Cv b c3 true (10::B9)=M at l4;obtain⟨er,c4⟩:=M;dsimp only at l4;cases er with
     |some e0=>simp only[C6];exact⟨λe c st' h=>by injection h with h1 _;injection h1 with h1 h2;injection h1 with h1;subst h1 h2;exact .inl ⟨rfl,by simp,rfl⟩,λc st' h=>by injection h with h1 _;injection h1 with h1 _;cases h1⟩
     |none=>simp only[BU];obtain⟨k1,k2⟩:=TC l4.2 B9;refine⟨λe c st' h=>?_,λc st' h=>?_⟩;injection h with h1 h2;exact k1 e c h1;injection h with h1 h2;rw[k2 c h1,h2]
def UB (b:zAa)(M:Er×Nat):Er×Nat:=B1 M λc=>BW b c szA Mw
def Ve1 (b:zAa)(M:Er×Nat):Er×Nat:=B1 (UB b M) λc=>Cv b c false Oz
def Ve0 (b:zAa)(M:Er×Nat):Er×Nat:=B1 (Ve1 b M) λc=>BW b c szB NU
def Vez (b:zAa)(M:Er×Nat):Er×Nat:=B1 (Ve0 b M) λc=>Cv b c false Oy
def UA (b:zAa)(M:Er×Nat):Er×Nat:=B1 (Vez b M) λc=>BW b c szC [97,10,33]
def U9 (b:zAa)(M:Er×Nat):Er×Nat:=B1 (UA b M) λc=>Gi b c []
def Vey (b:zAa)(M:Er×Nat):Er×Nat:=B1 (U9 b M) λc=>EA b c []
def JU (b:zAa)(M:Er×Nat)(st:LSt):(Er×Nat)×LSt:=(Vey b M,{st with law:=(b.take (U9 b M).2).drop (UA b M).2})
theorem Vew (b:zAa)(e:Int×zAa)(c:Nat)(st:LSt):(JU b (some e,c) st).1=(some e,c):=rfl
def Vex (b:zAa)(st:LSt):B8 (JU b (none,b.length) st).1.1=3/\(JU b (none,b.length) st).1.1≠none/\(JU b (none,b.length) st).1.2=b.length:=by
 have h:UB b (none,b.length)=(some (3,szA++Mw),b.length):=by unfold UB;rw[BU];unfold BW SU Fi;rw[YF];have:cpN [] szA=0:=rfl;rw[this];simp[szA]
 unfold JU Vey U9 UA Vez Ve0 Ve1;rw[h];exact⟨rfl,by simp[C6],rfl⟩
def Ve7 {b:zAa}{c:Nat}(hc:c<=b.length)(r s:zAa):B8 (Gi b c r).1=B8 (Gi b c s).1/\((Gi b c r).1=none↔(Gi b c s).1=none):=by refine⟨by rw[Qy hc,Qy hc],?_⟩;unfold Gi;dsimp only;split<;>simp
def Vh2 {b:zAa}{a:Nat}(ha:a<=b.length)(st:LSt):(∀e c st',Rg b a st=((some e,c),st')->Vhk b e c (JU b (none,a) st).1)/\(∀c st',Rg b a st=((none,c),st')->JU b (none,a) st=((none,c),st')):=by
 unfold Rg JU Vey U9 UA Vez Ve0 Ve1 UB;rw[BU];have l1:=Cp (s:=szA) (rest:=Mw) ha;generalize BW b a szA Mw=M at l1;obtain⟨er,c1⟩:=M;dsimp only at l1;cases er with
 |some e0=>simp only[C6];exact⟨λe c st' h=>by injection h with h1 _;injection h1 with h1 h2;injection h1 with h1;subst h1 h2;exact .inl ⟨rfl,by simp,rfl⟩,λc st' h=>by injection h with h1 _;injection h1 with h1 _;cases h1⟩
 |none=>
  simp only[BU];have l2:=Dk l1 false Oz;generalize Cv b c1 false Oz=M at l2;obtain⟨er,c2⟩:=M;dsimp only at l2;cases er with
  |some e0=>simp only[C6];exact⟨λe c st' h=>by injection h with h1 _;injection h1 with h1 h2;injection h1 with h1;subst h1 h2;exact .inl ⟨rfl,by simp,rfl⟩,λc st' h=>by injection h with h1 _;injection h1 with h1 _;cases h1⟩
  |none=>
   simp only[BU];have l3:=Cp (s:=szB) (rest:=NU) l2.2;generalize BW b c2 szB NU=M at l3;obtain⟨er,c3⟩:=M;dsimp only at l3;cases er with
   |some e0=>simp only[C6];exact⟨λe c st' h=>by injection h with h1 _;injection h1 with h1 h2;injection h1 with h1;subst h1 h2;exact .inl ⟨rfl,by simp,rfl⟩,λc st' h=>by injection h with h1 _;injection h1 with h1 _;cases h1⟩
   |none=>
    simp only[BU];have l4:=Dk l3 false Oy;generalize Cv b c3 false Oy=M at l4;obtain⟨er,c4⟩:=M;dsimp only at l4;cases er with
    |some e0=>simp only[C6];exact⟨λe c st' h=>by injection h with h1 _;injection h1 with h1 h2;injection h1 with h1;subst h1 h2;exact .inl ⟨rfl,by simp,rfl⟩,λc st' h=>by injection h with h1 _;injection h1 with h1 _;cases h1⟩
    |none=>
     simp only[BU];have l5:=Cp (s:=szC) (rest:=[97,10,33]) l4.2;generalize BW b c4 szC [97,10,33]=M at l5;obtain⟨er,c5⟩:=M;dsimp only at l5;cases er with
     |some e0=>simp only[C6];exact⟨λe c st' h=>by injection h with h1 _;injection h1 with h1 h2;injection h1 with h1;subst h1 h2;exact .inl ⟨rfl,by simp,rfl⟩,λc st' h=>by injection h with h1 _;injection h1 with h1 _;cases h1⟩
     |none=>
      simp only[BU];obtain⟨a1,a2⟩:=Ve7 l5 [10,33] [];have a3:(Gi b c5 [10,33]).2=(Gi b c5 []).2:=rfl;have l6:=R7 (rest:=[]) l5;generalize Gi b c5 [10,33]=M at a1 a2 a3;generalize Gi b c5 []=D at a1 a2 a3 l6;obtain⟨er,c6⟩:=M;obtain⟨er',c6'⟩:=D;dsimp only at a1 a2 a3 l6;subst a3;cases er with
      |some e0=>cases er' with|none=>have:=a2.2 rfl;cases this|some e1=>simp only[C6];exact⟨λe c st' h=>by injection h with h1 _;injection h1 with h1 h2;injection h1 with h1;subst h1 h2;exact .inl ⟨a1.symm,by simp,rfl⟩,λc st' h=>by injection h with h1 _;injection h1 with h1 _;cases h1⟩
      |none=>
       cases er' with
       |some e1=>have:=a2.1 rfl;cases this
       |none=>simp only[BU];obtain⟨k1,k2⟩:=TC l6.2 [33];refine⟨λe c st' h=>?_,λc st' h=>?_⟩;injection h with h1 h2;exact k1 e c h1;injection h with h1 h2;rw[k2 c h1,h2]
def Dy (b:zAa):Nat->Er×Nat->LSt->(Er×Nat)×LSt
 |0,M,st=>JU b M st
 |k+1,(er,c),st=>match er with
  |some e=>JU b (some e,c) st
  |none=>if AE b c [35]then Dy b k (Gk b c st).1 (Gk b c st).2 else JU b (none,c) st
def OT (b s:zAa):AE b b.length s=false:=by unfold AE;rw[zYa (VM _)]
def VlA (b:zAa)(k:Nat)(e:Int×zAa)(c:Nat)(st:LSt):(Dy b k (some e,c) st).1=(some e,c):=by cases k<;>rfl
def VlB (b:zAa)(k:Nat)(st:LSt):B8 (Dy b k (none,b.length) st).1.1=3/\(Dy b k (none,b.length) st).1.1≠none/\(Dy b k (none,b.length) st).1.2=b.length:=by cases k with|zero=>exact Vex b st|succ k=>unfold Dy;dsimp only;rw[OT,zYb (by decide)];exact Vex b st
theorem Vc5 {b:zAa}:∀(k a:Nat)(st:LSt),a<=b.length->b.length<a+k ->
  (∀e c st',(match Mz b k a st with | ((some e,c),st')=>((some e,c),st') | ((none,c),st')=>Rg b c st')=((some e,c),st')->Vhk b e c (Dy b k (none,a) st).1) /\
  (∀c st',(match Mz b k a st with | ((some e,c),st')=>((some e,c),st') | ((none,c),st')=>Rg b c st')=((none,c),st')->Dy b k (none,a) st=((none,c),st'))
 |0,a,st,ha,hk=>by omega
 |k+1,a,st,ha,hk=>by
  unfold Mz Dy;cases hs:AE b a [35]with
  |false=>simp only[VL,zYe];exact Vh2 ha st
  |true=>
   simp only[zYd];obtain⟨n1,n2⟩:=VbO ha st;have hok:=VaK ha st;have aM:=VaJ ha st;generalize M0 b a st=M at n1 n2 hok aM;obtain⟨⟨er,c⟩,st1⟩:=M;obtain⟨k1,k2,k3,k4⟩:=hok;dsimp only at k1 aM;cases er with
   |some e=>
    refine⟨λe' c' st' h=>?_,λc' st' h=>by injection h with h1 _;injection h1 with h1 _;cases h1⟩;injection h with h1 _;injection h1 with h1 h2;injection h1 with h1;subst h1 h2;have hn:=n1 e c st1 rfl;generalize Gk b a st=D at hn;obtain⟨⟨er',c''⟩,st2⟩:=D;rcases hn with ⟨q1,q2,q3⟩ | ⟨q1,q2,q3⟩;dsimp only at q1 q2 q3⊢;subst q3;cases er' with|none=>exact zYf rfl q2|some e1=>left;rw[VlA];exact⟨q1,by simp,rfl⟩
    dsimp only at q1⊢;rw[q1];obtain⟨w1,w2,w3⟩:=VlB b k st2;left;exact⟨by rw[w1,q3],w2,by rw[w3,q2]⟩
   |none=>have:=aM rfl;rw[n2 c st1 rfl];exact Vc5 k c st1 k1 (by omega)
section
variable {H K:Aa}{b:zAa}{bx N:Int}{c:Nat}

end
section
variable {H K:Aa}{b:zAa}{bx N:Int}{er:Er}{c:Nat}
theorem UN {z:Int}(h:z.natAbs<10^400):LB z:=by
 have h2:(10:Nat)^400<4294967296^100:=by decide +kernel
 exact SB.lb (k:=100) (by unfold SB;omega) (by decide)
theorem VfO {n:Nat}(h:n<=1152921504606846976):LB (n:Int):=by
 have h2:1152921504606846976<(10:Nat)^400:=by decide +kernel
 exact UN (by omega)

end
def skC (law:zAa)(k:Bk)(col row:Int)(v:Ab)(d:Bool):List Ab:=[.str law,.bool k.p0,.sl k.e0 k.t0,.bool k.p1,.sl k.e1 k.t1,.i6 col,.i6 row,v,.bool d]
structure TW (st:LSt)(k:Bk):Prop where
 fx:Rep st.x [.bool k.p0,.sl k.e0 k.t0]
 gy:Rep st.y [.bool k.p1,.sl k.e1 k.t1]
 n0:∀t,k.t0≠.own t
 n1:∀t,k.t1≠.own t
def Vj5 (b:zAa)(c:Nat)(e:Int)(l':zAa)(k:Bk)(co ro:Int)(d:Bool){es:List (List Ab)}{tk:Tok}{K:Aa}(h0:∀t,k.t0≠.own t)(h1:∀t,k.t1≠.own t)(h:∀t,tk=.own t->t<K.length)(G:Aa):rP K (.tup [.agg [.str b,.i6 (c:Int),.i6 e],.agg (skC l' k co ro (.sl es tk) d)]) (K++G)=some (.ret (.tup [.agg [.str b,.i6 (c:Int),.i6 e],.agg (skC l' k co ro (.sl es tk) d)]),K):=by
 rw[UW _ (by simp)];have f0:frz (K++G) K.length 4 (.sl k.e0 k.t0)=some (.sl k.e0 k.t0):=Vby λt ht=>zYf ht (h0 t);have f1:frz (K++G) K.length 4 (.sl k.e1 k.t1)=some (.sl k.e1 k.t1):=Vby λt ht=>zYf ht (h1 t);have f2:frz (K++G) K.length 4 (.sl es tk)=some (.sl es tk):=Vby h;have fb:∀x,frz (K++G) K.length 4 (.bool x)=some (.bool x):=λ_=>by simp[frz]
 have fi:∀kk x,frz (K++G) K.length 4 (.int kk x)=some (.int kk x):=λ_ _=>by simp[frz]
 have fs:∀x,frz (K++G) K.length 4 (.str x)=some (.str x):=λ_=>by simp[frz]
 have g:∀cs cs',Ei (K++G) K.length 5 cs=some cs'->frz (K++G) K.length 6 (.agg cs)=some (.agg cs'):=λcs cs' hh=>by rw[show frz (K++G) K.length 6 (.agg cs)=(Ei (K++G) K.length 5 cs).map .agg from by simp[frz],hh];rfl
 have g1:=g [.str b,.i6 (c:Int),.i6 e] [.str b,.i6 (c:Int),.i6 e] (by simp only[OF,QA,fs,fi,BI,zXb]);have g2:=g (skC l' k co ro (.sl es tk) d) (skC l' k co ro (.sl es tk) d) (by unfold skC;simp only[OF,QA,fs,fi,fb,f0,f1,f2,BI,zXb]);rw[show ∀vs,frz (K++G) K.length 8 (.tup vs)=(Ei (K++G) K.length 7 vs).map .tup from λvs=>by simp[frz]];simp only[OF,QA,g1,g2,BI,zXb]
def Vka {b:zAa}{c:Nat}{er:Er}(hc:c<=b.length)(hb:b.length<1000000000000)(he:Dt er)(rest:zAa):∃z,∀K,Ufz (Bq b c (B8 er)) (.bool false) K=some (.ret (.tup [Bq b (B1 (er,c) λc=>Cv b c false rest).2 (B8 (B1 (er,c) λc=>Cv b c false rest).1),big z]),K):=by
 cases er with
 |some e=>rw[C6];exact⟨0,λK=>VbT b c (Oo he rfl) false K⟩
 |none=>rw[BU];obtain⟨h1,h2,h3⟩:=Ta b c false [] rest;have hi:=λK=>VeR hc (show b.length<1152921504606846976 by omega) false K;unfold NV at hi;rw[h1,h2]at hi;exact⟨_,hi⟩
theorem Vpi (c0 c1 c2 c3 c4 c5 c6 c7 c8:Ab)(x:Bool)(y:List (List Ab))(z:Tok)(G:Aa):Ae 2 (.ptr 0 0 1) (.agg [.bool x,.sl y z]) (.c0 [c0,c1,c2,c3,c4,c5,c6,c7,c8]::G)=some (.c0 [c0,.bool x,.sl y z,c3,c4,c5,c6,c7,c8]::G):=rfl
theorem Vph (c0 c1 c2 c3 c4 c5 c6 c7 c8:Ab)(x:Bool)(y:List (List Ab))(z:Tok)(G:Aa):Ae 2 (.ptr 0 0 3) (.agg [.bool x,.sl y z]) (.c0 [c0,c1,c2,c3,c4,c5,c6,c7,c8]::G)=some (.c0 [c0,c1,c2,.bool x,.sl y z,c5,c6,c7,c8]::G):=rfl
section
variable {b:zAa}{a:Nat}{st:LSt}
theorem Vne {z:Int}(h:z.natAbs<10^400):Rep z [.bool (decide (z<0)),.sl (enL cU (A8 z.natAbs)) .no]:=Rep.big (UN h)
theorem Vdn (ha:a<=b.length)(hb:b.length<100000000)(k:Bk)(hk:TW st k)(co ro:Int)(d:Bool):∃k',(∀K:Aa,UbK (Bq b a 0) (.agg (skC st.law k co ro (.sl [] .ti) d)) K=some (.ret (.tup [Bq b (Gk b a st).1.2 (B8 (Gk b a st).1.1),.agg (skC st.law k' co ro (.sl [] .ti) d)]),K)) /\
  (∀t,k'.t0≠.own t)/\(∀t,k'.t1≠.own t)/\((Gk b a st).1.1=none->TW (Gk b a st).2 k'):=by
 have hb':b.length<1000000000000:=by omega
 have jV:=λK=>S0 (b.drop a) [35,67,88,82,76,69,32] K (by rw[Wd];omega);have bO:([35,67,88,82,76,69,32]:zAa)=Jm:=rfl;rw[bO]at jV;have hsl:=D0 (K:=.i64) ha;unfold Gk;by_cases h7:cpN (b.drop a) Jm<7;rw[zYc h7];have hd:decide ((cpN (b.drop a) Jm:Int)<7)=true:=zXc (by omega);have tH:=λK=>VkH ha (show b.length<1152921504606846976 by omega) K;have gH:=λK=>Vjd (b:=b) (c:=L4 b a) (er:=none) (NR ha) hb' Dt.none K;rw[BU,CO]at gH;refine⟨k,λK=>?_,hk.n0,hk.n1,λ_=>hk⟩;unfold UbK;rw[bO];unfold Bq AP at tH gH⊢;unfold skC;simp only[GMw,HPw,Nat.reduceAdd,Nat.reduceLT,hsl,jV,hd,tH,gH];exact Vj5 (es:=[]) (tk:=.ti) _ _ _ _ k _ _ _ hk.n0 hk.n1 (λt h=>by cases h) _
 ·rw[zYb h7];have hle:=Hz (b.drop a) Jm;have h0:a+7<=b.length:=by rw[Wd]at hle;omega
  have hd:decide ((cpN (b.drop a) Jm:Int)<7)=false:=zXd (by omega);have wr:I_.wrap ((a:Int)+7)=((a+7:Nat):Int):=by rw[Am (by omega) (by omega)];simp
  have m1:=λK=>VgB (b:=b) (c:=a+7) (er:=none) h0 hb' Dt.none JZ ([48,44,48,10]++B9) K;rw[BU,CO]at m1;unfold VeH US UT UU UV;have e1:Dt (BW b (a+7) JZ ([48,44,48,10]++B9)).1:=Dh _ _ _ _;have l1:(BW b (a+7) JZ ([48,44,48,10]++B9)).2<=b.length:=Cp h0;generalize BW b (a+7) JZ ([48,44,48,10]++B9)=M1 at *;obtain⟨er1,c1⟩:=M1;dsimp only at m1 e1 l1⊢;obtain⟨z1,m2,m2n,m2b⟩:=Vog l1 hb' e1 ([44,48,10]++B9);have e2:Dt (B1 (er1,c1) λc=>Cv b c true ([44,48,10]++B9)).1:=Co e1 λc=>Fa _ _ _ _;have l2:(B1 (er1,c1) λc=>Cv b c true ([44,48,10]++B9)).2<=b.length:=DZ l1 λc hc=>(Dk hc _ _).2;have n2:∀ {e:Int×zAa} {c:Nat} {f:Nat->Er×Nat},B1 (some e,c) f=(some e,c):=rfl;generalize (B1 (er1,c1) λc=>Cv b c true ([44,48,10]++B9))=M2 at *;obtain⟨er2,c2⟩:=M2;dsimp only at m2 m2n e2 l2⊢;have m3:=λK=>VgB l2 hb' e2 [44] ([48,10]++B9) K;have e3:Dt (B1 (er2,c2) λc=>BW b c [44] ([48,10]++B9)).1:=Co e2 λc=>Dh _ _ _ _;have l3:(B1 (er2,c2) λc=>BW b c [44] ([48,10]++B9)).2<=b.length:=DZ l2 λc hc=>Cp hc;have p3:(B1 (er2,c2) λc=>BW b c [44] ([48,10]++B9)).1=none->er2=none:=by cases er2<;>simp[B1]
  generalize (B1 (er2,c2) λc=>BW b c [44] ([48,10]++B9))=M3 at *;obtain⟨er3,c3⟩:=M3;dsimp only at m3 e3 l3 p3⊢;obtain⟨z2,m4,m4n,m4b⟩:=Vog l3 hb' e3 (10::B9);have e4:Dt (B1 (er3,c3) λc=>Cv b c true (10::B9)).1:=Co e3 λc=>Fa _ _ _ _;have l4:(B1 (er3,c3) λc=>Cv b c true (10::B9)).2<=b.length:=DZ l3 λc hc=>(Dk hc _ _).2;have p4:(B1 (er3,c3) λc=>Cv b c true (10::B9)).1=none->er3=none:=by cases er3<;>simp[B1]
  generalize (B1 (er3,c3) λc=>Cv b c true (10::B9))=M4 at *;obtain⟨er4,c4⟩:=M4;dsimp only at m4 m4n e4 l4 p4⊢;have m5:=λK=>Vjd l4 hb' e4 K;have p5:(B1 (er4,c4) λc=>EA b c []).1=none->er4=none:=by cases er4<;>simp[B1]
  generalize (B1 (er4,c4) λc=>EA b c [])=M5 at *;obtain⟨er5,c5⟩:=M5;dsimp only at m5 p5⊢;have q0:∀t,(bkB z1 z2).t0≠.own t:=λt h=>by cases h
  have q1:∀t,(bkB z1 z2).t1≠.own t:=λt h=>by cases h
  refine⟨bkB z1 z2,λK=>?_,q0,q1,λhn=>?_⟩;unfold UbK;rw[bO,show([80,111,115,61]:zAa)=JZ from rfl];unfold Bq AP at m1 m2 m3 m4 m5⊢;unfold big A7 at m2 m4;unfold skC bkB;simp only[GMw,HPw,Nat.reduceAdd,Nat.reduceLT,hsl,jV,hd,wr,m1,m2,m3,m4,m5,Vpi,Vph];have h4:=p5 hn;have h3:=p4 h4;have h2:=p3 h3;exact⟨by show Rep (BQ _) _;rw[<-m2n h2];exact Vne m2b,by show Rep (BQ _) _;rw[<-m4n h4];exact Vne m4b,q0,q1⟩

end
def z3C:List Ab:=[.str [],.i6 0,.i6 0]
def z9C:List Ab:=[.str [],.bool false,.sl [] .ti,.bool false,.sl [] .ti,.i6 0,.i6 0,.sl [] .ti,.bool false]
section
variable {b:zAa}{K:Aa}
theorem Vqi (c:Nat)(e:Int)(B C D:Blk):Ad true 3 (.ptr K.length 0 0) (K++[.c0 (AP b c e),B,C,D])=some (.agg (AP b c e)):=CV (sz:=3) (by simp) rfl
theorem Vqd (c:Nat)(e:Int)(c':Nat)(e':Int)(B C D:Blk):Ae 3 (.ptr K.length 0 0) (.agg (AP b c' e')) (K++[.c0 (AP b c e),B,C,D])=some (K++[.c0 (AP b c' e'),B,C,D]):=by rw[Dz (sz:=3) (H:=K++[.c0 (AP b c e),B,C,D]) (p:=K.length) (cs:=AP b c e) (ws:=AP b c' e') (by simp) rfl rfl rfl];simp
theorem Vqh {l:zAa}{k:Bk}{co ro:Int}{es:List (List Ab)}{tk:Tok}{d:Bool}(A C D:Blk):Ad true 9 (.ptr (K.length+1) 0 0) (K++[A,.c0 (skC l k co ro (.sl es tk) d),C,D])=some (.agg (skC l k co ro (.sl es tk) d)):=CV (sz:=9) (by simp) rfl
theorem Vqz {l l':zAa}{k k':Bk}{co ro co' ro':Int}{es es':List (List Ab)}{tk tk':Tok}{d d':Bool}(A C D:Blk):Ae 9 (.ptr (K.length+1) 0 0) (.agg (skC l' k' co' ro' (.sl es' tk') d')) (K++[A,.c0 (skC l k co ro (.sl es tk) d),C,D])=some (K++[A,.c0 (skC l' k' co' ro' (.sl es' tk') d'),C,D]):=by rw[Dz (sz:=9) (H:=K++[A,.c0 (skC l k co ro (.sl es tk) d),C,D]) (p:=K.length+1) (cs:=skC l k co ro (.sl es tk) d) (ws:=skC l' k' co' ro' (.sl es' tk') d') (by simp) rfl rfl rfl];simp
theorem Vna {l l':zAa}{k:Bk}{co ro:Int}{es:List (List Ab)}{tk:Tok}{d:Bool}(A C D:Blk):Ae 1 (.ptr (K.length+1) 0 0) (.str l') (K++[A,.c0 (skC l k co ro (.sl es tk) d),C,D])=some (K++[A,.c0 (skC l' k co ro (.sl es tk) d),C,D]):=by rw[Dm (o:=0) (v:=.str l') (H:=K++[A,.c0 (skC l k co ro (.sl es tk) d),C,D]) (p:=K.length+1) (cs:=skC l k co ro (.sl es tk) d) (by simp) rfl (by simp[skC])];simp[skC]
theorem Vpp (c:Nat)(e:Int)(A B D:Blk):Ae 3 (.ptr (K.length+2) 0 0) (.agg (AP b c e)) (K++[A,B,.c0 z3C,D])=some (K++[A,B,.c0 (AP b c e),D]):=by rw[Dz (sz:=3) (H:=K++[A,B,.c0 z3C,D]) (p:=K.length+2) (cs:=z3C) (ws:=AP b c e) (by simp) rfl rfl rfl];simp
theorem Vp5 (c:Nat)(e:Int)(A B D:Blk):Ad true 3 (.ptr (K.length+2) 0 0) (K++[A,B,.c0 (AP b c e),D])=some (.agg (AP b c e)):=CV (sz:=3) (by simp) rfl
theorem Vpo {l:zAa}{k:Bk}{co ro:Int}{es:List (List Ab)}{tk:Tok}{d:Bool}(A B C:Blk):Ae 9 (.ptr (K.length+3) 0 0) (.agg (skC l k co ro (.sl es tk) d)) (K++[A,B,C,.c0 z9C])=some (K++[A,B,C,.c0 (skC l k co ro (.sl es tk) d)]):=by rw[Dz (sz:=9) (H:=K++[A,B,C,.c0 z9C]) (p:=K.length+3) (cs:=z9C) (ws:=skC l k co ro (.sl es tk) d) (by simp) rfl rfl rfl];simp
theorem Vp4 {l:zAa}{k:Bk}{co ro:Int}{es:List (List Ab)}{tk:Tok}{d:Bool}(A B C:Blk):Ad true 9 (.ptr (K.length+3) 0 0) (K++[A,B,C,.c0 (skC l k co ro (.sl es tk) d)])=some (.agg (skC l k co ro (.sl es tk) d)):=CV (sz:=9) (by simp) rfl
def hp4 (K:Aa)(b:zAa)(c:Nat)(e:Int)(sk:List Ab):Aa:=K++[.c0 (AP b c e),.c0 sk,.c0 z3C,.c0 z9C]
theorem VbS {er:Er}{c:Nat}{st:LSt}(hc:c<=b.length)(hb:b.length<100000000)(he:Dt er)(k:Bk)(h0:∀t,k.t0≠.own t)(h1:∀t,k.t1≠.own t)(rec:LK)(hs:er=none->AE b c [35]=false):∃law,Ua1 K rec (.ptr K.length 0 0) (.ptr (K.length+1) 0 0) (.ptr (K.length+2) 0 0) (.ptr (K.length+3) 0 0) (hp4 K b c (B8 er) (skC st.law k 0 0 (.sl [] .ti) false))=some (.ret (.tup [Bq b (JU b (er,c) st).1.2 (B8 (JU b (er,c) st).1.1),.agg (skC law k 0 0 (.sl [] .ti) false)]),K)/\((JU b (er,c) st).1.1=none->law=(JU b (er,c) st).2.law):=by
 have hb':b.length<1000000000000:=by omega
 have lK:∀K,UfC (Bq b c (B8 er)) (.int .u8 35) K=some (.ret (.bool false),K):=λK=>by have h:=M9 b c (B8 er) 35 K;rw[show((35:UInt8).toNat:Int)=35 from rfl,OU hc]at h;rw[h];cases er with|some e=>rw[CF,zXd (Oo he rfl)];rfl|none=>rw[hs rfl,Ye]
 have m1:=λK=>VgB hc hb' he szA Mw K;unfold JU Vey U9 UA Vez Ve0 Ve1 UB;have e1:Dt (B1 (er,c) λc=>BW b c szA Mw).1:=Co he λc=>Dh _ _ _ _;have l1:(B1 (er,c) λc=>BW b c szA Mw).2<=b.length:=DZ hc λc hc=>Cp hc;generalize (B1 (er,c) λc=>BW b c szA Mw)=M1 at *;obtain⟨er1,c1⟩:=M1;dsimp only at m1 e1 l1⊢;obtain⟨z1,m2⟩:=Vka l1 hb' e1 Oz;have e2:Dt (B1 (er1,c1) λc=>Cv b c false Oz).1:=Co e1 λc=>Fa _ _ _ _;have l2:(B1 (er1,c1) λc=>Cv b c false Oz).2<=b.length:=DZ l1 λc hc=>(Dk hc _ _).2;generalize (B1 (er1,c1) λc=>Cv b c false Oz)=M2 at *;obtain⟨er2,c2⟩:=M2;dsimp only at m2 e2 l2⊢;have m3:=λK=>VgB l2 hb' e2 szB NU K;have e3:Dt (B1 (er2,c2) λc=>BW b c szB NU).1:=Co e2 λc=>Dh _ _ _ _;have l3:(B1 (er2,c2) λc=>BW b c szB NU).2<=b.length:=DZ l2 λc hc=>Cp hc;generalize (B1 (er2,c2) λc=>BW b c szB NU)=M3 at *;obtain⟨er3,c3⟩:=M3;dsimp only at m3 e3 l3⊢;obtain⟨z2,m4⟩:=Vka l3 hb' e3 Oy;have e4:Dt (B1 (er3,c3) λc=>Cv b c false Oy).1:=Co e3 λc=>Fa _ _ _ _;have l4:(B1 (er3,c3) λc=>Cv b c false Oy).2<=b.length:=DZ l3 λc hc=>(Dk hc _ _).2;generalize (B1 (er3,c3) λc=>Cv b c false Oy)=M4 at *;obtain⟨er4,c4⟩:=M4;dsimp only at m4 e4 l4⊢;have m5:=λK=>VgB l4 hb' e4 szC [97,10,33] K;have e5:Dt (B1 (er4,c4) λc=>BW b c szC [97,10,33]).1:=Co e4 λc=>Dh _ _ _ _;have l5:(B1 (er4,c4) λc=>BW b c szC [97,10,33]).2<=b.length:=DZ l4 λc hc=>Cp hc;generalize (B1 (er4,c4) λc=>BW b c szC [97,10,33])=M5 at *;obtain⟨er5,c5⟩:=M5;dsimp only at m5 e5 l5⊢;obtain⟨s,m6,m6n⟩:=Vof l5 hb' e5;have e6:Dt (B1 (er5,c5) λc=>Gi b c []).1:=Co e5 λc=>VaF _ _ _;have l6:(B1 (er5,c5) λc=>Gi b c []).2<=b.length:=DZ l5 λc hc=>(R7 hc).2;generalize (B1 (er5,c5) λc=>Gi b c [])=M6 at *;obtain⟨er6,c6⟩:=M6;dsimp only at m6 m6n e6 l6⊢;have m7:=λK=>Vjd l6 hb' e6 K;have p7:(B1 (er6,c6) λc=>EA b c []).1=none->er6=none:=by cases er6<;>simp[B1]
 generalize (B1 (er6,c6) λc=>EA b c [])=M7 at *;obtain⟨er7,c7⟩:=M7;dsimp only at m7 p7⊢;refine⟨s,?_,λhn=>m6n (p7 hn)⟩;unfold Ua1 hp4;rw[show([120,32,61,32]:zAa)=szA from rfl,show([44,32,121,32,61,32]:zAa)=szB from rfl,show([44,32,114,117,108,101,32,61,32]:zAa)=szC from rfl];simp only[GMw,Vqi,lK,Vqd,Vna,Vqh,Vpp,Vpo,Vp5,Vp4,m1,m2,m3,m4,m5,m6,m7,Ba,Bd,Aj,Nat.add_zero,zYi,BV];exact Vj5 (es:=[]) (tk:=.ti) _ _ _ _ k _ _ _ h0 h1 (λt h=>by cases h) _
theorem Ub (hb:b.length<100000000):∀(m n c:Nat)(er:Er)(st:LSt)(k:Bk),c<=b.length->b.length<c+m->m<n->Dt er->(∀t,k.t0≠.own t)->(∀t,k.t1≠.own t)->(er=none->TW st k) ->
  ∃law' k',An (λrec1 vs H=>Ua1 K rec1 (ag vs 0) (ag vs 1) (ag vs 2) (ag vs 3) H) n [.ptr K.length 0 0,.ptr (K.length+1) 0 0,.ptr (K.length+2) 0 0,.ptr (K.length+3) 0 0] (hp4 K b c (B8 er) (skC st.law k 0 0 (.sl [] .ti) false)) =
    some (.ret (.tup [Bq b (Dy b m (er,c) st).1.2 (B8 (Dy b m (er,c) st).1.1),.agg (skC law' k' 0 0 (.sl [] .ti) false)]),K) /\
   ((Dy b m (er,c) st).1.1=none->law'=(Dy b m (er,c) st).2.law/\TW (Dy b m (er,c) st).2 k')/\(∀t,k'.t0≠.own t)/\(∀t,k'.t1≠.own t):=by
 intro m
 induction m with
 |zero=>intro n c er st k hc hm;omega
 |succ m ih=>
  intro n c er st k hc hm hn he h0 h1 hk;obtain⟨n,rfl⟩:∃j,n=j+1:=⟨n-1,by omega⟩;rw[Bx];generalize hg:An (λrec1 vs H=>Ua1 K rec1 (ag vs 0) (ag vs 1) (ag vs 2) (ag vs 3) H) n=rec;have last:Dy b (m+1) (er,c) st=JU b (er,c) st->(er=none->AE b c [35]=false)->∃law' k',Ua1 K rec (.ptr K.length 0 0) (.ptr (K.length+1) 0 0) (.ptr (K.length+2) 0 0) (.ptr (K.length+3) 0 0) (hp4 K b c (B8 er) (skC st.law k 0 0 (.sl [] .ti) false)) =
    some (.ret (.tup [Bq b (Dy b (m+1) (er,c) st).1.2 (B8 (Dy b (m+1) (er,c) st).1.1),.agg (skC law' k' 0 0 (.sl [] .ti) false)]),K) /\
   ((Dy b (m+1) (er,c) st).1.1=none->law'=(Dy b (m+1) (er,c) st).2.law/\TW (Dy b (m+1) (er,c) st).2 k')/\(∀t,k'.t0≠.own t)/\(∀t,k'.t1≠.own t):=by
   intro e hs;rw[e];obtain⟨law,r1,r2⟩:=VbS (K:=K) hc hb he k h0 h1 rec hs (st:=st);refine⟨law,k,r1,λh=>⟨r2 h,?_⟩,h0,h1⟩;have hen:er=none:=(by cases er with|none=>rfl|some e=>rw[Vew]at h;cases h);have:=hk hen;exact⟨this.fx,this.gy,this.n0,this.n1⟩
  cases er with
  |some e=>exact last rfl (λh=>by cases h)
  |none=>
   cases hs:AE b c [35]with
   |false=>exact last (by unfold Dy;dsimp only;rw[hs,zYb (by decide)]) (λ_=>hs)
   |true=>
    have e2:Dy b (m+1) (none,c) st=Dy b m (Gk b c st).1 (Gk b c st).2:=by
     conv=>lhs;unfold Dy
     dsimp only;rw[hs,zYc rfl]
    rw[e2];obtain⟨k',r1,r2,r3,r4⟩:=Vdn hc hb k (hk rfl) 0 0 false;have lK:∀K,UfC (Bq b c 0) (.int .u8 35) K=some (.ret (.bool true),K):=λK=>(by have h:=M9 b c 0 35 K;rw[show((35:UInt8).toNat:Int)=35 from rfl,OU hc,hs]at h;exact h);have hl:(Gk b c st).2.law=st.law:=(by unfold Gk;split<;>rfl);have hle:(Gk b c st).1.2<=b.length/\Dt (Gk b c st).1.1:=by
     unfold Gk;split;exact⟨(NL (NR hc) []).2,J4 _ _ _⟩
     ·rename_i h7;have hle:=Hz (b.drop c) Jm;have h0:c+7<=b.length:=(by rw[Wd]at hle;omega);unfold VeH US UT UU UV;exact⟨DZ (DZ (DZ (DZ (Cp h0) λc hc=>(Dk hc _ _).2) λc hc=>Cp hc) λc hc=>(Dk hc _ _).2) λc hc=>(NL hc _).2,
       Co (Co (Co (Co (Dh _ _ _ _) λc=>Fa _ _ _ _) λc=>Dh _ _ _ _) λc=>Fa _ _ _ _) λc=>J4 _ _ _⟩
    have jT:(Gk b c st).1.1=none->c<(Gk b c st).1.2\/(Gk b c st).1.2=b.length:=by
     intro hn;have h1:=VbO hc st;have h2:=VaJ hc st;generalize M0 b c st=M at h1 h2;obtain⟨⟨er',c'⟩,st'⟩:=M;cases er' with
     |some e=>rcases h1.1 e c' st' rfl with ⟨q1,q2,q3⟩ | ⟨q1,q2,q3⟩;exact zYf hn q2;right;rw[q1]
     |none=>left;rw[h1.2 c' st' rfl];exact h2 rfl
    unfold Ua1 hp4;unfold Bq at r1;rw[CO];simp only[GMw,Vqi,lK,Vqh,r1,Ba,Bd,Vqd,Vqz];rw[show st.law=(Gk b c st).2.law from hl.symm]at *;generalize Gk b c st=R at *;obtain⟨⟨er',c'⟩,st'⟩:=R;dsimp only at *;by_cases hlt:c<c';obtain⟨law',k2,s1,s2,s3,s4⟩:=ih n c' er' st' k' hle.1 (by omega) (by omega) hle.2 r2 r3 r4;rw[hg]at s1;exact⟨law',k2,s1,s2,s3,s4⟩
    ·have jX:Dy b m (er',c') st'=JU b (er',c') st'/\(er'=none->AE b c' [35]=false):=by
      cases er' with
      |some e=>exact⟨by cases m<;>rfl,λh=>by cases h⟩
      |none=>have aG:c'=b.length:=(by rcases jT rfl with h | h;omega;exact h);subst aG;refine⟨?_,λ_=>OT b _⟩;cases m with|zero=>rfl|succ m=>unfold Dy;dsimp only;rw[OT,zYb (by decide)]
     obtain⟨n,rfl⟩:∃j,n=j+1:=⟨n-1,by omega⟩;rw[jX.1,<-hg,Bx];obtain⟨law,w1,w2⟩:=VbS (K:=K) hle.1 hb hle.2 k' r2 r3 _ jX.2 (st:=st');refine⟨law,k',w1,λh=>⟨w2 h,?_⟩,r2,r3⟩;have hen:er'=none:=(by cases er' with|none=>rfl|some e=>rw[Vew]at h;cases h);have:=r4 hen;exact⟨this.fx,this.gy,this.n0,this.n1⟩

end
def bk0:Bk:=⟨false,[],.ti,false,[],.ti⟩
theorem Vnf:Rep 0 [.bool false,.sl [] .ti]:=⟨false,[],.ti,rfl,by simp,(λx hx=>by cases hx),rfl⟩
def VhJ {b:zAa}(hb:b.length<100000000)(K:Aa):∃law' k',UdC (Bq b 0 0) (.agg z9C) K =
    some (.ret (.tup [Bq b (Dy b (b.length+1) (none,0) Ff).1.2 (B8 (Dy b (b.length+1) (none,0) Ff).1.1),.agg (skC law' k' 0 0 (.sl [] .ti) false)]),K) /\
   ((Dy b (b.length+1) (none,0) Ff).1.1=none->law'=(Dy b (b.length+1) (none,0) Ff).2.law/\TW (Dy b (b.length+1) (none,0) Ff).2 k')/\(∀t,k'.t0≠.own t)/\(∀t,k'.t1≠.own t):=by
 obtain⟨law',k',h1,h2,h3,h4⟩:=Ub (K:=K) hb (b.length+1) AI 0 none Ff bk0 (Wi _) (by omega) (by rw[Cw];omega) .none (λt h=>by cases h) (λt h=>by cases h) (λ_=>⟨Vnf,Vnf,(λt h=>by cases h),(λt h=>by cases h)⟩);refine⟨law',k',?_,h2,h3,h4⟩;have b1:Bj true 3 (Bq b 0 0) K=some (.ptr K.length 0 0,K++[.c0 (AP b 0 0)]):=BF rfl rfl;have b2:Bj true 9 (.agg z9C) (K++[.c0 (AP b 0 0)])=some (.ptr (K.length+1) 0 0,K++[.c0 (AP b 0 0),.c0 z9C]):=by rw[BF (sz:=9) (cs:=z9C) (H:=K++[Blk.c0 (AP b 0 0)]) rfl rfl];simp
 have b3:Av (some z3C) (K++[.c0 (AP b 0 0),.c0 z9C])=some (.ptr (K.length+2) 0 0,K++[.c0 (AP b 0 0),.c0 z9C,.c0 z3C]):=by rw[alloc_eq rfl];simp
 have b4:Av (some z9C) (K++[.c0 (AP b 0 0),.c0 z9C,.c0 z3C])=some (.ptr (K.length+3) 0 0,K++[.c0 (AP b 0 0),.c0 z9C,.c0 z3C,.c0 z9C]):=by rw[alloc_eq rfl];simp
 unfold UdC;rw[show([.str [],.i6 0,.i6 0]:List Ab)=z3C from rfl,show([.str [],.bool false,.sl [] .ti,.bool false,.sl [] .ti,.i6 0,.i6 0,.sl [] .ti,.bool false]:List Ab)=z9C from rfl];simp only[GMw,b1,b2,b3,b4];exact h1
section
variable {p:Nat}{H:Aa}
theorem Vco {cs:List Ab}{o:Nat}(h:H[p]? = some (.c0 cs))(ho:o+2<=cs.length):Ad true 2 (.ptr p 0 o) H=some (.agg ((cs.drop o).take 2)):=by simp only[Ad,A0 h,zXa,zYd];rw[zYc ho]
theorem Ver {cs:List Ab}{o:Nat}{z:Int}(h:H[p]? = some (.c0 cs))(ho:o+2<=cs.length):Ae 2 (.ptr p 0 o) (big z) H=some (H.set p (.c0 (D3 cs o 2 (A7 z)))):=by simp only[Ae,A0 h,zXa,TN,BE h];rw[zYc ⟨rfl,ho⟩]
theorem Vmr {z:Int}{x y:Ab}(h:[x,y]=A7 z):Ab.agg [x,y]=big z:=by rw[h];rfl
theorem Vh9 {z:Int}(h:z.natAbs<10^400):SB 100 z:=by
 have h2:(10:Nat)^400<4294967296^100:=by decide +kernel
 unfold SB;omega
theorem SY {z:Int}(h:z.natAbs<10^400):LB z:=(Vh9 h).lb (by decide)
theorem VjN {n:Nat}(h:n<=1152921504606846976):LB (n:Int):=by
 have h2:1152921504606846976<(10:Nat)^400:=by decide +kernel
 exact SY (by omega)

end
def Abg (f0 f1:Ab)(z:Int):Prop:=[f0,f1]=A7 z\/f0=.bool false/\f1=.sl [] .ti/\z=0
def Vny {b:Int}(H:Aa)(h0:0<=b)(hb:LB b):Uft (.agg [.bool false,.sl [] .ti]) (big b) H=some (.ret (big b),H):=by
 have sg:∀(tk:Tok)(K:Aa),Ufq (.bool false) (.sl (enL cU (A8 b.natAbs)) tk) K=some (.ret (big b),K):=λtk K=>by rw[MD];simp only[VL,zYe];rw[show((b.natAbs:Nat):Int)=b by omega]
 unfold LB at hb;have aU:=λK=>Vnz (a:=[]) (b:=A8 b.natAbs) (ta:=.ti) (tb:=.no) K (λx hx=>by cases hx) (Bw b.natAbs) (by decide) (by omega);simp only[B6,show val []=0 from rfl,VK,show enL cU []=[] from rfl]at aU;have hbx:∀K,Bj true 2 (.agg [.bool false,.sl [] .ti]) K=some (.ptr K.length 0 0,K++[.c0 [.bool false,.sl [] .ti]]):=λK=>BF rfl rfl;have hd:decide (b<0)=false:=zXd (by omega);unfold Uft;simp only[F4,hbx,BD,VP,List.singleton_append];simp[Jh,hd,aU,sg]
def VjB {f0 f1:Ab}{z:Int}{n:Nat}(H:Aa)(h:Abg f0 f1 z)(hz:LB z)(hn:LB (n:Int)):Uft (.agg [f0,f1]) (big (n:Int)) H=some (.ret (big (z+n)),H):=by rcases h with h | ⟨rfl,rfl,rfl⟩;rw[Vmr h];exact Vcd H hz hn;rw[Vny H (by omega) hn,Int.zero_add]
def rdL (bx N:Int)(st:LSt)(f0 f1 g0 g1 v:Ab):List Ab:=[.i6 bx,.i6 N,.str st.law,f0,f1,g0,g1,.i6 (st.col:Int),.i6 (st.row:Int),v]
structure RLx (bx N:Int)(b0 p:Nat)(b:zAa)(a:Nat)(st:LSt)(f0 f1 g0 g1 v:Ab)(H:Aa):Prop where
 hb:b0<=p
 lx:Lx H p b a (rdL bx N st f0 f1 g0 g1 v)
 row:RS cCl A6 5 b0 st.cells v H
 fx:Abg f0 f1 st.x
 gy:Abg g0 g1 st.y
def RLe (bx N:Int)(b0 p:Nat)(b:zAa)(a:Nat)(st:LSt)(H:Aa):Prop:=∃f0 f1 g0 g1 v,RLx bx N b0 p b a st f0 f1 g0 g1 v H
section
variable {bx N:Int}{b0 p a:Nat}{b:zAa}{st:LSt}{H:Aa}{f0 f1 g0 g1 v:Ab}
theorem RLx.lt (h:RLx bx N b0 p b a st f0 f1 g0 g1 v H):p<H.length:=Vi1 h.lx
theorem RLx.move (h:RLx bx N b0 p b a st f0 f1 g0 g1 v H)(a':Nat):RLx bx N b0 p b a' st f0 f1 g0 g1 v (Ci H p b (rdL bx N st f0 f1 g0 g1 v) a'):=⟨h.hb,GA h.lx,h.row.put h.lx,h.fx,h.gy⟩
theorem RLx.push (h:RLx bx N b0 p b a st f0 f1 g0 g1 v H)(G:Aa):RLx bx N b0 p b a st f0 f1 g0 g1 v (H++G):=⟨h.hb,Lx.push h.lx,h.row.left G,h.fx,h.gy⟩
theorem RLx.ext (h:RLx bx N b0 p b a st f0 f1 g0 g1 v H)(cs:List Ab):Ext b0 p H (H.set p (.c0 cs)):=
 ⟨by simp,λi c hi hc=>by rw[VH (Ne.symm hi)];exact hc,λi hi=>by rw[VH (by have:=h.hb;omega)]⟩
theorem RLx.ble (h:RLx bx N b0 p b a st f0 f1 g0 g1 v H):b0<=H.length:=Wg h.hb (Nat.le_of_lt h.lt)
theorem RLx.go (h:RLx bx N b0 p b a st f0 f1 g0 g1 v H)(a':Nat)(G:Aa):RLx bx N b0 p b a' st f0 f1 g0 g1 v (Ci H p b (rdL bx N st f0 f1 g0 g1 v) a'++G)/\Ext b0 p H (Ci H p b (rdL bx N st f0 f1 g0 g1 v) a'++G):=
 ⟨(h.move a').push G,(h.ext _).trans (Ext.push b0 p (by show b0<=List.length _;rw[show(H.set p _).length=H.length from by simp];exact h.ble) G)⟩
theorem RLx.go0 (h:RLx bx N b0 p b a st f0 f1 g0 g1 v H)(a':Nat):RLx bx N b0 p b a' st f0 f1 g0 g1 v (Ci H p b (rdL bx N st f0 f1 g0 g1 v) a')/\Ext b0 p H (Ci H p b (rdL bx N st f0 f1 g0 g1 v) a'):=⟨h.move a',h.ext _⟩
theorem RLx.set (h:RLx bx N b0 p b a st f0 f1 g0 g1 v H){a':Nat}{st':LSt}{f0' f1' g0' g1' v':Ab}{cs:List Ab}(hr:RS cCl A6 5 b0 st'.cells v' H)
  (hc:cs=.str b::.i6 (a':Int)::rdL bx N st' f0' f1' g0' g1' v')(hf:Abg f0' f1' st'.x)(hg:Abg g0' g1' st'.y):RLx bx N b0 p b a' st' f0' f1' g0' g1' v' (H.set p (.c0 cs))/\Ext b0 p H (H.set p (.c0 cs)):=by
 refine⟨⟨h.hb,?_,hr.put h.lx,hf,hg⟩,h.ext _⟩;unfold Lx;rw[VX h.lt,hc]
def Nv (bx N:Int)(b0 p:Nat)(b:zAa)(H:Aa)(x:Out)(v:Ab)(s:(Er×Nat)×LSt):Prop:=∃H',x=some (PV s.1.1 v,H')/\Ext b0 p H H'/\RLe bx N b0 p b s.1.2 s.2 H'
theorem SP {r:List Ab}(h:Lx H p b a r)(ha:a<=b.length)(hb:b.length<1152921504606846976)(rest:zAa)(hr:rest.length<=1000):Ua6 (.ptr p 0 0) (.str rest) H=some (PV (Ik b a rest).1 (.tup []),Ci H p b r (Ik b a rest).2):=by
 have hj:∀e,Af e .add (.str [10]) (.str rest)=some (.str (10::rest)):=λe=>Dj (by simp;omega);unfold Ua6 Ik;simp only[GMw,IT h];by_cases he:a=b.length
 ·simp only[he,GMw,HPw,zYd,hj];rw[he]at h;simp only[IS h,HPw,Ec h]
  rfl
 simp only[he,GMw,zYe];unfold UeP;simp only[GMw,VfA h ha hb rest (by omega)];cases(EA b a rest).1 with|some e=>simp only[BO,HPw]|none=>simp only[BA,GMw,HPw]
theorem VnH (k:Nat)(hk:k<2):BM 2 2 (.ptr p 0 5) (.i6 (k:Int))=some (.ptr p 0 (5+k*2)):=VfY hk
theorem VjR:BM 2 2 (.ptr p 0 5) (.i6 0)=some (.ptr p 0 5):=VnH 0 (by decide)
theorem VjQ:BM 2 2 (.ptr p 0 5) (.i6 1)=some (.ptr p 0 7):=VnH 1 (by decide)
theorem VbX:∀(s t:zAa),cpN s t=t.length↔s.take t.length=t
 |s,[]=>by simp[cpN]
 |[],c::t=>by simp[cpN]
 |d::s,c::t=>by
  have ih:=VbX s t;have e:cpN (d::s) (c::t)=if d=c then cpN s t+1 else 0:=rfl
  rw[e];by_cases h:d=c;subst h;simp[ih];simp[h]
theorem Viq (s t:zAa)(K:Aa):UbW (.str s) (.str t) K=some (.ret (.bool (decide (cpN s t=t.length))),K):=by
 unfold UbW Ua4;by_cases h:t.length<=s.length
 ·have hd:decide ((s.length:Int)>=(t.length:Int))=true:=zXc (by omega);have he:(s.take t.length==t)=decide (cpN s t=t.length):=by rw[VZ,beq_iff_eq,zXe,VbX]
  simp only[GMw,HPw,hd,OQ h,Kz,he]
 have hd:decide ((s.length:Int)>=(t.length:Int))=false:=zXd (by omega);have he:decide (cpN s t=t.length)=false:=zXd (λhh=>by have:=Hz s t;omega);simp only[GMw,HPw,hd,he]
theorem VeD (h:RLx bx N b0 p b a st f0 f1 g0 g1 v H)(ha:a<=b.length)(hb:b.length<1152921504606846976):Nv bx N b0 p b H (Uch (.ptr p 0 0) H) (.tup []) (M0 b a st):=by
 have bO:Jm.length=7:=rfl;have pZ:=Hz (b.drop a) Jm;have hpre:=λK=>Viq (b.drop a) Jm K;have hh:B9.length=24:=rfl;unfold Uch M0 Nv;rw[show Ab.str [35,67,88,82,76,69,32]=.str Jm from rfl,show Ab.str [120,32,61,32,48,44,32,121,32,61,32,48,44,32,114,117,108,101,32,61,32,97,10,33]=.str B9 from rfl];simp only[GMw,HPw,Ah,Gl h.lx,Rj h.lx,D0 ha,hpre];by_cases hc:cpN (b.drop a) Jm<7;have hd:decide (cpN (b.drop a) Jm=Jm.length)=false:=zXd (by omega);rw[zYc hc];simp only[hd,GMw,VnA h.lx ha hb];obtain⟨h2,e2⟩:=h.go0 (L4 b a);simp only[SP h2.lx (NR ha) hb B9 (by omega)];obtain⟨h3,e3⟩:=h2.go0 (Ik b (L4 b a) B9).2;refine⟨_,?_,e2.trans e3,_,_,_,_,_,h3⟩;cases(Ik b (L4 b a) B9).1 with|some e=>simp only[BO,HPw]|none=>simp only[BA,GMw,HPw]
 ·have hd:decide (cpN (b.drop a) Jm=Jm.length)=true:=zXc (by omega);have hle:=Hz (b.drop a) Jm;have h7:a+7<=b.length:=by rw[Wd]at hle;omega
  rw[zYb hc];have aM:Ae 1 (.ptr p 0 1) (.i6 ((a+7:Nat):Int)) H=some (Ci H p b (rdL bx N st f0 f1 g0 g1 v) (a+7)):=N6 h.lx _;have zT:I_.wrap ((a:Int)+7)=((a+7:Nat):Int):=by rw[Am (by omega) (by omega)];simp
  simp only[hd,GMw,zT,aM];obtain⟨h1,e1⟩:=h.go0 (a+7);generalize Ci H p b _ (a+7)=H1 at h1 e1;have hM:=Cp (s:=JZ) (rest:=[48,44,48,10]++B9) h7;have hx:=ME h1.lx h7 hb JZ ([48,44,48,10]++B9) (by decide) (by decide);rw[show Ab.str ([48,44,48,10]++B9)=.str [48,44,48,10,120,32,61,32,48,44,32,121,32,61,32,48,44,32,114,117,108,101,32,61,32,97,10,33] from rfl,show Ab.str JZ=.str [80,111,115,61] from rfl]at hx;simp only[hx];generalize BW b (a+7) JZ ([48,44,48,10]++B9)=M at hM;obtain⟨er,c⟩:=M;dsimp only at hM⊢;obtain⟨h2,e2⟩:=h1.go0 c;generalize Ci H1 p b _ c=H2 at h2 e2;cases er with
  |some e=>simp only[HPw,BO];exact⟨_,rfl,e1.trans e2,_,_,_,_,_,h2⟩
  |none=>
   obtain⟨G1,eR⟩:=N7 h2.lx hM hb true ([44,48,10]++B9) (by decide);rw[show Ab.str ([44,48,10]++B9)=.str [44,48,10,120,32,61,32,48,44,32,121,32,61,32,48,44,32,114,117,108,101,32,61,32,97,10,33] from rfl]at eR;have kL:=Dk hM true ([44,48,10]++B9);simp only[GMw,BA,eR];generalize Cv b c true ([44,48,10]++B9)=M at kL;obtain⟨er,d⟩:=M;dsimp only at kL⊢;obtain⟨h3,e3⟩:=h2.go d G1;generalize Ci H2 p b _ d++G1=H3 at h3 e3;cases er with
   |some e=>simp only[HPw,BO];exact⟨_,rfl,(e1.trans e2).trans e3,_,_,_,_,_,h3⟩
   |none=>
    have hst:=Ver (o:=5) (z:=BQ ((b.take d).drop c)) h3.lx (by simp[rdL]);simp only[GMw,BA,VjR,hst];generalize hz:BQ ((b.take d).drop c)=z1;obtain⟨h4,e4⟩:=h3.set (a':=d) (st':={st with x:=z1}) (f0':=.bool (decide (z1<0))) (f1':=.sl (enL cU (A8 z1.natAbs)) .no) (cs:=D3 (.str b::.i6 (d:Int)::rdL bx N st f0 f1 g0 g1 v) 5 2 (A7 z1)) h3.row rfl (.inl rfl) h3.gy;generalize H3.set p _=H4 at h4 e4;have hx2:=ME h4.lx kL.2 hb [44] ([48,10]++B9) (by decide) (by decide);rw[show Ab.str ([48,10]++B9)=.str [48,10,120,32,61,32,48,44,32,121,32,61,32,48,44,32,114,117,108,101,32,61,32,97,10,33] from rfl]at hx2;simp only[hx2];have hM2:=Cp (s:=[44]) (rest:=[48,10]++B9) kL.2;generalize BW b d [44] ([48,10]++B9)=M at hM2;obtain⟨er,f⟩:=M;dsimp only at hM2⊢;obtain⟨h5,e5⟩:=h4.go0 f;generalize Ci H4 p b _ f=H5 at h5 e5;cases er with
    |some e=>simp only[HPw,BO];exact⟨_,rfl,(((e1.trans e2).trans e3).trans e4).trans e5,_,_,_,_,_,h5⟩
    |none=>
     obtain⟨G2,hn2⟩:=N7 h5.lx hM2 hb true (10::B9) (by decide);rw[show Ab.str (10::B9)=.str [10,120,32,61,32,48,44,32,121,32,61,32,48,44,32,114,117,108,101,32,61,32,97,10,33] from rfl]at hn2;have hi2:=Dk hM2 true (10::B9);simp only[GMw,BA,hn2];generalize Cv b f true (10::B9)=M at hi2;obtain⟨er,g⟩:=M;dsimp only at hi2⊢;obtain⟨h6,e6⟩:=h5.go g G2;generalize Ci H5 p b _ g++G2=H6 at h6 e6;cases er with
     |some e=>simp only[HPw,BO];exact⟨_,rfl,((((e1.trans e2).trans e3).trans e4).trans e5).trans e6,_,_,_,_,_,h6⟩
     |none=>have hst:=Ver (o:=7) (z:=BQ ((b.take g).drop f)) h6.lx (by simp[rdL]);simp only[GMw,BA,VjQ,hst];generalize pH:BQ ((b.take g).drop f)=z2;obtain⟨xO,e7⟩:=h6.set (a':=g) (st':={st with x:=z1,y:=z2}) (f0':=.bool (decide (z1<0))) (f1':=.sl (enL cU (A8 z1.natAbs)) .no) (g0':=.bool (decide (z2<0))) (g1':=.sl (enL cU (A8 z2.natAbs)) .no) (cs:=D3 (.str b::.i6 (g:Int)::rdL bx N {st with x:=z1} (.bool (decide (z1<0))) (.sl (enL cU (A8 z1.natAbs)) .no) g0 g1 v) 7 2 (A7 z2)) h6.row rfl (.inl rfl) (.inl rfl);generalize H6.set p _=H7 at xO e7;simp only[SP xO.lx hi2.2 hb B9 (by omega)];obtain⟨h8,e8⟩:=xO.go0 (Ik b g B9).2;refine⟨_,?_,(((((e1.trans e2).trans e3).trans e4).trans e5).trans e6).trans (e7.trans e8),_,_,_,_,_,h8⟩;cases(Ik b g B9).1 with|some e=>simp only[BO,HPw]|none=>simp only[BA,GMw,HPw]

end
section
variable {bx N:Int}{b0 p a:Nat}{b:zAa}{st:LSt}{H:Aa}{f0 f1 g0 g1 v:Ab}
theorem Vk7 (h:RLx bx N b0 p b a st f0 f1 g0 g1 v H)(ha:a<=b.length)(hb:b.length<1152921504606846976){H0:Aa}{rec:LK}(hs:AE b a [35]=false):Nv bx N b0 p b H (Ua8 H0 rec (.ptr p 0 0) H) (.tup []) (Rg b a st):=by
 have hx:=ME h.lx ha hb szA Mw (by decide) (by decide);rw[show Ab.str szA=.str [120,32,61,32] from rfl,show Ab.str Mw=.str [48,44,32,121,32,61,32,48,44,32,114,117,108,101,32,61,32,97,10,33] from rfl]at hx;unfold Ua8 Rg Nv;simp only[GMw,HPw,Ah,E5 h.lx ha,hs,hx];have hM:=Cp (s:=szA) (rest:=Mw) ha;generalize BW b a szA Mw=M at hM;obtain⟨er,c⟩:=M;dsimp only at hM⊢;obtain⟨h2,e2⟩:=h.go0 c;generalize Ci H p b _ c=H2 at h2 e2;cases er with
 |some e=>simp only[HPw,BO];exact⟨_,rfl,e2,_,_,_,_,_,h2⟩
 |none=>
  obtain⟨G1,eR⟩:=N7 h2.lx hM hb false Oz (by decide);rw[show Ab.str Oz=.str [44,32,121,32,61,32,48,44,32,114,117,108,101,32,61,32,97,10,33] from rfl]at eR;have kL:=Dk hM false Oz;simp only[GMw,BA,eR];generalize Cv b c false Oz=M at kL;obtain⟨er,d⟩:=M;dsimp only at kL⊢;obtain⟨h3,e3⟩:=h2.go d G1;generalize Ci H2 p b _ d++G1=H3 at h3 e3;cases er with
  |some e=>simp only[HPw,BO];exact⟨_,rfl,e2.trans e3,_,_,_,_,_,h3⟩
  |none=>
   have hx2:=ME h3.lx kL.2 hb szB NU (by decide) (by decide);rw[show Ab.str szB=.str [44,32,121,32,61,32] from rfl,show Ab.str NU=.str [48,44,32,114,117,108,101,32,61,32,97,10,33] from rfl]at hx2;simp only[GMw,BA,hx2];have hM2:=Cp (s:=szB) (rest:=NU) kL.2;generalize BW b d szB NU=M at hM2;obtain⟨er,f⟩:=M;dsimp only at hM2⊢;obtain⟨h5,e5⟩:=h3.go0 f;generalize Ci H3 p b _ f=H5 at h5 e5;cases er with
   |some e=>simp only[HPw,BO];exact⟨_,rfl,(e2.trans e3).trans e5,_,_,_,_,_,h5⟩
   |none=>
    obtain⟨G2,hn2⟩:=N7 h5.lx hM2 hb false Oy (by decide);rw[show Ab.str Oy=.str [44,32,114,117,108,101,32,61,32,97,10,33] from rfl]at hn2;have hi2:=Dk hM2 false Oy;simp only[GMw,BA,hn2];generalize Cv b f false Oy=M at hi2;obtain⟨er,g⟩:=M;dsimp only at hi2⊢;obtain⟨h6,e6⟩:=h5.go g G2;generalize Ci H5 p b _ g++G2=H6 at h6 e6;cases er with
    |some e=>simp only[HPw,BO];exact⟨_,rfl,((e2.trans e3).trans e5).trans e6,_,_,_,_,_,h6⟩
    |none=>
     have hx3:=ME h6.lx hi2.2 hb szC [97,10,33] (by decide) (by decide);rw[show Ab.str szC=.str [44,32,114,117,108,101,32,61,32] from rfl]at hx3;simp only[GMw,BA,hx3];have hM3:=Cp (s:=szC) (rest:=[97,10,33]) hi2.2;generalize BW b g szC [97,10,33]=M at hM3;obtain⟨er,i⟩:=M;dsimp only at hM3⊢;obtain⟨h7,e7⟩:=h6.go0 i;generalize Ci H6 p b _ i=H7 at h7 e7;cases er with
     |some e=>simp only[HPw,BO];exact⟨_,rfl,(((e2.trans e3).trans e5).trans e6).trans e7,_,_,_,_,_,h7⟩
     |none=>
      have hr:=R7 (rest:=[10,33]) hM3;simp only[GMw,BA,Vi0 h7.lx hM3 hb [10,33] (by decide)];generalize Gi b i [10,33]=M at hr;obtain⟨er,j⟩:=M;dsimp only at hr⊢;obtain⟨h8,e8⟩:=h7.go0 j;generalize Ci H7 p b _ j=H8 at h8 e8;cases er with
      |some e=>simp only[HPw,BO];exact⟨_,rfl,((((e2.trans e3).trans e5).trans e6).trans e7).trans e8,_,_,_,_,_,h8⟩
      |none=>
       obtain⟨H9,hst,h9,e9⟩:∃K,Ae 1 (.ptr p 0 4) (.str ((b.take j).drop i)) H8=some K/\RLx bx N b0 p b j {st with law:=(b.take j).drop i} f0 f1 g0 g1 v K/\Ext b0 p H8 K:=
        ⟨_,Dm (o:=4) (v:=.str ((b.take j).drop i)) h8.lx rfl (by simp[rdL]),h8.set (a':=j) (st':={st with law:=(b.take j).drop i}) h8.row rfl h8.fx h8.gy⟩
       simp only[GMw,BA,hst];simp only[SP h9.lx hr.2 hb [33] (by decide)];obtain⟨hz,ez⟩:=h9.go0 (Ik b j [33]).2;refine⟨_,?_,(((((e2.trans e3).trans e5).trans e6).trans e7).trans e8).trans (e9.trans ez),_,_,_,_,_,hz⟩;cases(Ik b j [33]).1 with|some e=>simp only[BO,HPw]|none=>simp only[BA,GMw,HPw]
def Vm8 (b:zAa)(k a:Nat)(st:LSt):(Er×Nat)×LSt:=match Mz b k a st with
 |((some e,c),st')=>((some e,c),st')
 |((none,c),st')=>Rg b c st'
theorem Vae (hb:b.length<1000000000)(H0:Aa):∀(m a:Nat)(st:LSt)(H:Aa),a<=b.length->b.length-a<m->∀n,m<=n->RLe bx N b0 p b a st H ->
  Nv bx N b0 p b H (An (λrec1 vs H=>Ua8 H0 rec1 (ag vs 0) H) n [.ptr p 0 0] H) (.tup []) (Vm8 b m a st):=by
 intro m
 induction m with
 |zero=>intro a st H _ h;omega
 |succ m ih=>
  intro a st H ha hm n hn h;obtain⟨n,rfl⟩:∃k,n=k+1:=⟨n-1,by omega⟩;rw[Bx];generalize hg:An (λrec1 vs H=>Ua8 H0 rec1 (ag vs 0) H) n=rec;obtain⟨f0,f1,g0,g1,v,h⟩:=h;cases hs:AE b a [35]with
  |false=>have:Vm8 b (m+1) a st=Rg b a st:=(by unfold Vm8 Mz;rw[hs];rfl);rw[this];exact Vk7 h ha (by omega) hs
  |true=>
   have hr:=VeD h ha (by omega);have hok:=VaK ha st;have aM:=VaJ ha st;have he:Vm8 b (m+1) a st=match M0 b a st with
     |((some e,c),st')=>((some e,c),st')
     |((none,c),st')=>Vm8 b m c st':=by
    unfold Vm8
    conv=>lhs;unfold Mz
    rw[zYc hs];generalize M0 b a st=M;obtain⟨⟨er,c⟩,st'⟩:=M;cases er<;>rfl
   rw[he];unfold Ua8;simp only[GMw,HPw,Ah,E5 h.lx ha,hs];obtain⟨H1,r1,r2,r3⟩:=hr;rw[r1];generalize M0 b a st=M at r1 r2 r3 hok aM;obtain⟨⟨er,c⟩,st'⟩:=M;obtain⟨k1,k2,k3,k4⟩:=hok;dsimp only at r1 r2 r3 k1 k2 aM⊢;cases er with
   |some e=>simp only[HPw,BO];exact⟨H1,rfl,r2,r3⟩
   |none=>have:=aM rfl;obtain⟨H2,s1,s2,s3⟩:=ih c st' H1 k1 (by omega) n (by omega) r3;rw[hg]at s1;simp only[GMw,BA];exact⟨H2,s1,r2.trans s2,s3⟩
theorem Vk9 (hb:b.length<1000000000)(ha:a<=b.length)(h:RLe bx N b0 p b a st H):Nv bx N b0 p b H (Ucj (.ptr p 0 0) H) (.tup []) (ViI b a st):=by unfold Ucj;exact Vae hb H (b.length+1) a st H ha (by omega) AI (by rw[Cw];omega) h
theorem Vg8 {i:Nat}(h:AE b i DU=true)(hl:i<b.length):J_.wrap ((b[i].toNat:Int)-48)=(Jo b i:Int)/\I_.wrap (Jo b i:Int)=(Jo b i:Int):=by
 have h':=h;unfold AE at h';rw[VG hl]at h';have hm:b[i]∈DU:=by simpa using h'
 have key:∀x∈DU,48<=x.toNat:=by decide
 have h1:=key _ hm;have h2:=b[i].toNat_lt;have e:Jo b i=b[i].toNat-48:=by unfold Jo;rw[VO,VG hl];rfl
 rw[e];exact⟨by rw[DW (by omega) (by omega)];omega,OK (by omega)⟩
def Vhl (bx N:Int)(b0 p:Nat)(b:zAa)(st:LSt)(H:Aa)(x:Out)(s:Er×Nat×Nat):Prop:=∃H',x=some (PV s.1 (.i6 (s.2.2:Int)),H')/\Ext b0 p H H'/\RLe bx N b0 p b s.2.1 st H'
theorem Ua (hb:b.length<1000000000)(H0:Aa){f:Nat}:∀(m a n:Nat)(H:Aa),a<=b.length->f<=a->a<=f+9->n<10^(a-f)->f+10<a+m->∀k,m<=k->RLe bx N b0 p b a st H ->
  Vhl bx N b0 p b st H (An (λrec1 vs H=>Uck H0 rec1 (ag vs 0) (ag vs 1) (ag vs 2) H) k [.ptr p 0 0,.i6 (n:Int),.i6 (f:Int)] H) (Ij b f m a n):=by
 intro m
 induction m with
 |zero=>intro a n H _ _ _ _ h;omega
 |succ m ih=>
  intro a n H ha hf h9 hn hm k hk hh;obtain⟨k,rfl⟩:∃j,k=j+1:=⟨k-1,by omega⟩;have Zq:n<=999999999:=by have:=Wn (show 0<10 by decide) (show a-f<=9 by omega);omega
  rw[Bx];generalize hg:An (λrec1 vs H=>Uck H0 rec1 (ag vs 0) (ag vs 1) (ag vs 2) H) k=rec;have uA:=hh;obtain⟨f0,f1,g0,g1,v,h⟩:=hh;unfold Uck Ij Vhl;simp only[GMw,HPw,Ah,E5 h.lx ha];rw[show AE b a [48,49,50,51,52,53,54,55,56,57]=AE b a DU from rfl];cases hs:AE b a DU with
  |false=>simp only[GMw,zYe];exact⟨H,rfl,Ext.refl _ _ _,uA⟩
  |true=>
   have hlt:=Ca hs;have Z6:=Vg9 hs;obtain⟨db1,db2⟩:=Vg8 hs hlt;have dn:decide ((n:Int)=0)=decide (n=0):=(by rw[VZ];simp);have gB:I_.wrap ((a:Int)-(f:Int))=((a-f:Nat):Int):=(by rw[Am (by omega) (by omega)];omega);have d9:decide (((a-f:Nat):Int)=9)=decide (a-f=9):=(by rw[VZ];simp;omega);have go:∀x:Out,x=Uei H0 rec (.ptr p 0 0) (.i6 (n:Int)) (.i6 (f:Int)) H->a-f≠9->∃H',x=some (PV (Ij b f m (a+1) (10*n+Jo b a)).1 (.i6 ((Ij b f m (a+1) (10*n+Jo b a)).2.2:Int)),H')/\Ext b0 p H H'/\RLe bx N b0 p b (Ij b f m (a+1) (10*n+Jo b a)).2.1 st H':=(by intro x hx hne;have aM:Ae 1 (.ptr p 0 1) (.i6 ((a+1:Nat):Int)) H=some (Ci H p b (rdL bx N st f0 f1 g0 g1 v) (a+1)):=N6 h.lx _;obtain⟨h1,e1⟩:=h.go0 (a+1);have bU:I_.wrap (10*(n:Int))=((10*n:Nat):Int):=(by rw[Am (by omega) (by omega)];simp);have aU:I_.wrap (((10*n:Nat):Int)+(Jo b a:Int))=((10*n+Jo b a:Nat):Int):=(by rw[Am (by omega) (by omega)];simp);have dC:Bc (.str b) (.i6 (a:Int))=some (.int .u8 (b[a].toNat:Int)):=AQ hlt;rw[hx];unfold Uei;simp only[GMw,HPw,Ah,bU,Gl h.lx,Rj h.lx,dC,db1,AV,db2,aU,Ar (show a<9223372036854775807 by omega),aM];obtain⟨H2,s1,s2,s3⟩:=ih (a+1) (10*n+Jo b a) _ (by omega) (by omega) (by omega) (by rw[show a+1-f=a-f+1 by omega,Nat.pow_succ];omega) (by omega) k (by omega) ⟨_,_,_,_,_,h1⟩;rw[hg]at s1;exact⟨H2,s1,e1.trans s2,s3⟩);simp only[GMw,HPw,zYd,dn];cases h0:decide (n=0)with
   |true=>have dQ:n=0:=of_decide_eq_true h0;simp only[GMw,HPw,E5 h.lx ha];cases eY:AE b a [48]with|true=>simp only[GMw,HPw,IS h.lx,zYd];exact⟨H,rfl,Ext.refl _ _ _,uA⟩|false=>simp only[GMw,zYe,Gl h.lx,gB,d9];by_cases gU:a-f=9;simp only[gU,GMw,HPw,MF,zYd];exact⟨H,rfl,Ext.refl _ _ _,uA⟩;simp only[gU,GMw,zYe];exact go _ rfl gU
   |false=>simp only[GMw,zYe,Gl h.lx,gB,d9];by_cases gU:a-f=9;simp only[gU,GMw,HPw,MF,zYd];exact⟨H,rfl,Ext.refl _ _ _,uA⟩;simp only[gU,GMw,zYe];exact go _ rfl gU
theorem VhD (hb:b.length<1000000000)(ha:a<=b.length)(h:RLe bx N b0 p b a st H):Vhl bx N b0 p b st H (Ucl (.ptr p 0 0) H) (Ij b a 11 a 0):=by have h':=h;obtain⟨f0,f1,g0,g1,v,hx⟩:=h;unfold Ucl;simp only[GMw,HPw,Ah,Gl hx.lx];exact Ua hb H 11 a 0 H ha (VM _) (by omega) (by simp) (by omega) AI (by rw[Cw];omega) h'

end
section
variable {b:zAa}{K:Aa}
theorem VmL (c:UInt8)(n:Nat):decide ((c.toNat:Int)>=(n:Int))=decide (n<=c.toNat):=by rw[VZ];simp
theorem VmK (c:UInt8)(n:Nat):decide ((c.toNat:Int)<=(n:Int))=decide (c.toNat<=n):=by rw[VZ];simp
theorem VbK {i:Nat}(h:i<b.length)(lo hi:Nat)(s:zAa)(hs:∀c:UInt8,s.contains c=(decide (lo<=c.toNat)&&decide (c.toNat<=hi))):AE b i s=(decide (lo<=b[i].toNat)&&decide (b[i].toNat<=hi)):=by unfold AE;rw[VG h];exact hs _
theorem Mm (p:UInt8->Bool)(h:∀n,n<256->p (UInt8.ofNat n)=true)(c:UInt8):p c=true:=by
 have:=h c.toNat c.toNat_lt
 rwa [UInt8.ofNat_toNat]at this
theorem VcH (c:UInt8):DU.contains c=(decide (48<=c.toNat)&&decide (c.toNat<=57)):=by have:=Mm (λc=>DU.contains c==(decide (48<=c.toNat)&&decide (c.toNat<=57))) (by decide +kernel) c;exact eq_of_beq this
theorem VcO (c:UInt8):Ir.contains c=(decide (65<=c.toNat)&&decide (c.toNat<=88)):=by have:=Mm (λc=>Ir.contains c==(decide (65<=c.toNat)&&decide (c.toNat<=88))) (by decide +kernel) c;exact eq_of_beq this
theorem Vi3 (c:UInt8):Ph.contains c=(decide (112<=c.toNat)&&decide (c.toNat<=121)):=by have:=Mm (λc=>Ph.contains c==(decide (112<=c.toNat)&&decide (c.toNat<=121))) (by decide +kernel) c;exact eq_of_beq this
theorem ViB (c:UInt8):Vp.contains c=(decide (80<=c.toNat)&&decide (c.toNat<=88)):=by have:=Mm (λc=>Vp.contains c==(decide (80<=c.toNat)&&decide (c.toNat<=88))) (by decide +kernel) c;exact eq_of_beq this
def Voj (R:Er×Nat×Nat):Ab×Ab:=match R.1 with
 |some _=>(.i6 0,.bool false)
 |none=>(.i6 ((max R.2.2 1:Nat):Int),.bool (decide (R.2.2≠0)))
theorem Sy (hb:b.length<100000000){f:Nat}:∀(m a n:Nat),a<=b.length->f<=a->a<=f+9->(n=0↔a=f)->n<10^(a-f)->f+10<a+m->∀k,m<=k ->
  An (λrec1 vs H=>Ua2 K rec1 (ag vs 0) (ag vs 1) (ag vs 2) (ag vs 3) H) k [.ptr K.length 0 0,.ptr (K.length+1) 0 0,.i6 (n:Int),.i6 ((a-f:Nat):Int)] (K++[.c0 (AP b a 0),.c0 z3C]) =
   some (.ret (.tup [Bq b (Ij b f m a n).2.1 (B8 (Ij b f m a n).1),(Voj (Ij b f m a n)).1,(Voj (Ij b f m a n)).2]),K):=by
 intro m
 induction m with
 |zero=>intro a n _ _ _ _ _ h;omega
 |succ m ih=>
  intro a n ha hf h9 hz hn hm k hk;obtain⟨k,rfl⟩:∃j,k=j+1:=⟨k-1,by omega⟩;have Zq:n<=999999999:=by have:=Wn (show 0<10 by decide) (show a-f<=9 by omega);omega
  rw[Bx];generalize hg:An (λrec1 vs H=>Ua2 K rec1 (ag vs 0) (ag vs 1) (ag vs 2) (ag vs 3) H) k=rec;have lc:∀e,Ad true 3 (.ptr K.length 0 0) (K++[.c0 (AP b a e),.c0 z3C])=some (Bq b a e):=λe=>CV (sz:=3) (by simp) rfl;have aO:=λK=>Ed b a 0 K;have l0:Ad false 1 (.ptr K.length 0 0) (K++[.c0 (AP b a 0),.c0 z3C])=some (.str b):=by rw[Bt (cs:=AP b a 0) (by simp)];rfl
  have l1:Ad false 1 (.ptr K.length 0 1) (K++[.c0 (AP b a 0),.c0 z3C])=some (.i6 (a:Int)):=by rw[Bt (cs:=AP b a 0) (by simp)];rfl
  have sr:∀(c:Nat)(e:Int)(B:Blk),Ae 3 (.ptr (K.length+1) 0 0) (Bq b c e) (K++[B,.c0 z3C])=some (K++[B,.c0 (AP b c e)]):=λc e B=>by rw[Dz (sz:=3) (H:=K++[B,.c0 z3C]) (p:=K.length+1) (cs:=z3C) (ws:=AP b c e) (by simp) rfl rfl rfl];simp
  have lr:∀(c:Nat)(e:Int)(B:Blk),Ad true 3 (.ptr (K.length+1) 0 0) (K++[B,.c0 (AP b c e)])=some (Bq b c e):=λc e B=>CV (sz:=3) (by simp) rfl;have bI:∀(c:Nat)(e n:Int)(d:Bool)(G:Aa),rP K (.tup [Bq b c e,.i6 n,.bool d]) (K++G)=some (.ret (.tup [Bq b c e,.i6 n,.bool d]),K):=λc e n d G=>by rw[UW _ (by simp)];simp[frz,Ei,Bq,AP]
  have dz:decide (((a-f:Nat):Int)=0)=decide (n=0):=by rw[VZ];simp only[zXe];rw[hz];omega
  have d9:decide (((a-f:Nat):Int)=9)=decide (a-f=9):=by rw[VZ];simp only[zXe];omega
  have fin:AE b a DU=false->Ua2 K rec (.ptr K.length 0 0) (.ptr (K.length+1) 0 0) (.i6 (n:Int)) (.i6 ((a-f:Nat):Int)) (K++[.c0 (AP b a 0),.c0 z3C])=some (.ret (.tup [Bq b a 0,.i6 ((max n 1:Nat):Int),.bool (decide (n≠0))]),K):=by
   intro hs;unfold Ua2;simp only[GMw,lc,aO,Aj,VK,Nat.add_zero,l0,l1];have tail:((Af .n .eql (.i6 ((a-f:Nat):Int)) (.i6 0)).bind λx67=>
      Ai x67 (
      (Ad true 3 (.ptr K.length 0 0) (K++[.c0 (AP b a 0),.c0 z3C])).bind λx68=>
      bP K (As (Ae 3 (.ptr (K.length+1) 0 0) x68 (K++[.c0 (AP b a 0),.c0 z3C]))) λ_ H70=>
      (BV [Ad true 3 (.ptr (K.length+1) 0 0) H70,some (.i6 1),some (.bool false)]).bind λx71=>rP K x71 H70) (
      (Ad true 3 (.ptr K.length 0 0) (K++[.c0 (AP b a 0),.c0 z3C])).bind λx72=>
      bP K (As (Ae 3 (.ptr (K.length+1) 0 0) x72 (K++[.c0 (AP b a 0),.c0 z3C]))) λ_ H74=>
      (BV [Ad true 3 (.ptr (K.length+1) 0 0) H74,some (.i6 (n:Int)),some (.bool true)]).bind λx75=>rP K x75 H74))=some (.ret (.tup [Bq b a 0,.i6 ((max n 1:Nat):Int),.bool (decide (n≠0))]),K):=by
    by_cases h0:n=0;have kG:max n 1=1:=(by omega);simp only[GMw,dz,zXc h0,lc,sr,lr,B2,AW,Bl,zXb,kG];rw[show decide (n≠0)=false from zXd (λh=>h h0)];exact bI a 0 1 false _;have kG:max n 1=n:=(by omega);simp only[GMw,dz,zXd h0,lc,sr,lr,B2,AW,Bl,zXb,kG];rw[show decide (n≠0)=true from zXc h0];exact bI a 0 n true _
   by_cases he:b.length<=a;simp only[zXc he,GMw];simp only[GMw,lc]at tail;exact tail;have hlt:a<b.length:=(by omega);have g48:decide ((b[a].toNat:Int)>=48)=decide (48<=b[a].toNat):=VmL _ 48;have g57:decide ((b[a].toNat:Int)<=57)=decide (b[a].toNat<=57):=VmK _ 57;rw[VbK hlt 48 57 DU VcH]at hs;simp only[zXd he,GMw,l0,l1,AQ hlt,g48];cases h1:decide (48<=b[a].toNat)with|false=>simp only[GMw];simp only[GMw,lc]at tail;exact tail|true=>rw[h1,zXn]at hs;simp only[GMw,l0,l1,AQ hlt,g57,hs];simp only[GMw,lc]at tail;exact tail
  conv=>rhs;unfold Ij
  cases hs:AE b a DU with
  |false=>simp only[VL,zYe];exact fin hs
  |true=>
   have hlt:=Ca hs;have Z6:=Vg9 hs;obtain⟨db1,db2⟩:=Vg8 hs hlt;have lL:=hs;rw[VbK hlt 48 57 DU VcH,VV]at lL;have he:¬b.length<=a:=(by omega);have g48:decide ((b[a].toNat:Int)>=48)=true:=(VmL _ 48).trans lL.1;have g57:decide ((b[a].toNat:Int)<=57)=true:=(VmK _ 57).trans lL.2;have eY:decide ((b[a].toNat:Int)=48)=AE b a [48]:=(by rw[U6];unfold AE;rw[VG hlt,VZ];simp);have wr:=Ar (show a<9223372036854775807 by omega);have wd:I_.wrap (((a-f:Nat):Int)+1)=((a+1-f:Nat):Int):=(by rw[Am (by omega) (by omega)];omega);have bU:I_.wrap (10*(n:Int))=((10*n:Nat):Int):=(by rw[Am (by omega) (by omega)];simp);have aU:I_.wrap (((10*n:Nat):Int)+(Jo b a:Int))=((10*n+Jo b a:Nat):Int):=(by rw[Am (by omega) (by omega)];simp);have s1:∀e,Ae 1 (.ptr K.length 0 1) (.i6 ((a+1:Nat):Int)) (K++[.c0 (AP b a e),.c0 z3C])=some (K++[.c0 (AP b (a+1) e),.c0 z3C]):=λe=>(by rw[Dm (o:=1) (cs:=AP b a e) (by simp) rfl (by simp[AP])];simp[AP]);have s2:Ae 1 (.ptr K.length 0 2) (.i6 4) (K++[.c0 (AP b a 0),.c0 z3C])=some (K++[.c0 (AP b a 4),.c0 z3C]):=(by rw[Dm (o:=2) (cs:=AP b a 0) (by simp) rfl (by simp[AP])];simp[AP]);have dO:=λK=>FT b a 0 K;have tB:B8 (some (Fi b a []))=Ig b a:=Ea ha _;rw[<-tB]at dO;unfold Ua2;simp only[zYd,GMw,lc,aO,zXd he,Aj,VK,Nat.add_zero,l0,l1,AQ hlt,g48,g57,dz];have uH:n≠0->f<a:=λh=>(by rcases W4 f a with h1 | h1;exact h1;exact zYf (hz.2 (by omega)) h);have nz:n=0->AE b a [48]=false->Jo b a≠0:=λ_ h0 hd=>(by unfold AE at h0;unfold Jo at hd;rw[VG hlt]at h0;rw[VO,VG hlt]at hd;have xP:=lL.1;simp only[zXe]at xP;have:b[a]=48:=UInt8.toNat_inj.mp (by simp only[Option.getD_some]at hd;show b[a].toNat=48;omega);simp[this]at h0);have go:a-f≠9->(n=0->AE b a [48]=false)->An (λrec1 vs H=>Ua2 K rec1 (ag vs 0) (ag vs 1) (ag vs 2) (ag vs 3) H) k [.ptr K.length 0 0,.ptr (K.length+1) 0 0,.i6 ((10*n+Jo b a:Nat):Int),.i6 ((a+1-f:Nat):Int)] (K++[.c0 (AP b (a+1) 0),.c0 z3C])=_:=λgU dQ=>ih (a+1) (10*n+Jo b a) (by omega) (by omega) (by omega) ⟨λh=>zYf (show Jo b a=0 by omega) (nz (by omega) (dQ (by omega))),λh=>by omega⟩ (by rw[show a+1-f=a-f+1 by omega,Nat.pow_succ];omega) (by omega) k (by omega);rw[hg]at go;cases h0:decide (n=0)with
   |true=>simp only[GMw,l0,l1,AQ hlt,eY];cases uX:AE b a [48]with|true=>simp only[GMw,dO,sr,lr,B2,AW,Bl,zXb,zYd];exact bI a _ 0 false _|false=>simp only[GMw,d9,zYe];by_cases gU:a-f=9;simp only[gU,GMw,s2,lc,sr,lr,B2,AW,Bl,zXb,zYd];exact bI a 4 0 false _;simp only[gU,GMw,zYe,bU,db1,AV,db2,aU,wd,wr,s1];exact go gU (λ_=>uX)
   |false=>simp only[GMw,d9,zYe];by_cases gU:a-f=9;simp only[gU,GMw,s2,lc,sr,lr,B2,AW,Bl,zXb,zYd];exact bI a 4 0 false _;simp only[gU,GMw,zYe,bU,db1,AV,db2,aU,wd,wr,s1];exact go gU (λh=>zYf h (of_decide_eq_false h0))

end
section
variable {b:zAa}{c:Nat}
theorem VeP (hb:b.length<100000000)(hc:c<=b.length)(K:Aa):UdD (Bq b c 0) K=some (.ret (.tup [Bq b (Ij b c 11 c 0).2.1 (B8 (Ij b c 11 c 0).1),(Voj (Ij b c 11 c 0)).1,(Voj (Ij b c 11 c 0)).2]),K):=by
 have h:=Sy (K:=K) hb (f:=c) 11 c 0 hc (VM _) (by omega) (by simp) (by simp) (by omega) AI (by rw[Cw];omega);rw[Wu]at h;have b1:Bj true 3 (Bq b c 0) K=some (.ptr K.length 0 0,K++[.c0 (AP b c 0)]):=BF rfl rfl;have b3:Av (some z3C) (K++[.c0 (AP b c 0)])=some (.ptr (K.length+1) 0 0,K++[.c0 (AP b c 0),.c0 z3C]):=by rw[alloc_eq rfl];simp
 unfold UdD;rw[show([.str [],.i6 0,.i6 0]:List Ab)=z3C from rfl];simp only[GMw,b1,b3];exact h
theorem VnD (x:UInt8):([46,98]:zAa).contains x=(decide (x.toNat=46)||decide (x.toNat=98)):=by have:=Mm (λc=>([46,98]:zAa).contains c==(decide (c.toNat=46)||decide (c.toNat=98))) (by decide +kernel) x;exact eq_of_beq this
theorem Vq2 (x:UInt8):([111]:zAa).contains x=decide (x.toNat=111):=by have:=Mm (λc=>([111]:zAa).contains c==decide (c.toNat=111)) (by decide +kernel) x;exact eq_of_beq this
theorem Jt {i:Nat}(h:i<b.length){s:zAa}{p:Nat->Bool}(hs:∀c:UInt8,s.contains c=p c.toNat):AE b i s=p b[i].toNat:=by unfold AE;rw[VG h];exact hs _
def Mq (b:zAa)(c:Nat):Nat×Int×Int:=
 if b.length<=c then (c,Ig b c,0)
 else if (Fe b c).1=none then ((Fe b c).2.1,0,((Fe b c).2.2:Int))
 else if (Fe b c).2.1=c then (c,0,-1)
 else (c+1,Ig b (c+1),0)
theorem Vki (h:c<b.length):atV b c=b[c].toNat:=by
 unfold atV;rw[VO,VG h]
 rfl
theorem VhH (hb:b.length<100000000)(hc:c<=b.length)(K:Aa):UbL (Bq b c 0) K=some (.ret (.tup [Bq b (Mq b c).1 (Mq b c).2.1,.i6 (Mq b c).2.2]),K):=by
 have b1:Bj true 3 (Bq b c 0) K=some (.ptr K.length 0 0,K++[.c0 (AP b c 0)]):=BF rfl rfl;have b3:Av (some z3C) (K++[.c0 (AP b c 0)])=some (.ptr (K.length+1) 0 0,K++[.c0 (AP b c 0),.c0 z3C]):=by rw[alloc_eq rfl];simp
 have lc:∀(c:Nat) e,Ad true 3 (.ptr K.length 0 0) (K++[.c0 (AP b c e),.c0 z3C])=some (Bq b c e):=λc e=>CV (sz:=3) (by simp) rfl;have aO:=λK=>Ed b c 0 K;have sR:=λK=>Ed b (c+1) 0 K;have dO:=λK=>FT b c 0 K;have iQ:=λK=>FT b (c+1) 0 K;have l0:∀c,Ad false 1 (.ptr K.length 0 0) (K++[.c0 (AP b c 0),.c0 z3C])=some (.str b):=λc=>by rw[Bt (cs:=AP b c 0) (by simp)];rfl
 have l1:∀c:Nat,Ad false 1 (.ptr K.length 0 1) (K++[.c0 (AP b c 0),.c0 z3C])=some (.i6 (c:Int)):=λc=>by rw[Bt (cs:=AP b c 0) (by simp)];rfl
 have l0r:∀(c d:Nat) e,Ad false 1 (.ptr K.length 0 0) (K++[.c0 (AP b c 0),.c0 (AP b d e)])=some (.str b):=λc d e=>by rw[Bt (cs:=AP b c 0) (by simp)];rfl
 have l1r:∀(c d:Nat) e,Ad false 1 (.ptr K.length 0 1) (K++[.c0 (AP b c 0),.c0 (AP b d e)])=some (.i6 (c:Int)):=λc d e=>by rw[Bt (cs:=AP b c 0) (by simp)];rfl
 have sr:∀(c:Nat)(e:Int)(B:Blk),Ae 3 (.ptr (K.length+1) 0 0) (Bq b c e) (K++[B,.c0 z3C])=some (K++[B,.c0 (AP b c e)]):=λc e B=>by rw[Dz (sz:=3) (H:=K++[B,.c0 z3C]) (p:=K.length+1) (cs:=z3C) (ws:=AP b c e) (by simp) rfl rfl rfl];simp
 have lr:∀(c:Nat)(e:Int)(B:Blk),Ad true 3 (.ptr (K.length+1) 0 0) (K++[B,.c0 (AP b c e)])=some (Bq b c e):=λc e B=>CV (sz:=3) (by simp) rfl;have bI:∀(c:Nat)(e n:Int)(G:Aa),rP K (.tup [Bq b c e,.i6 n]) (K++G)=some (.ret (.tup [Bq b c e,.i6 n]),K):=λc e n G=>by rw[UW _ (by simp)];simp[frz,Ei,Bq,AP]
 have s1:Ae 1 (.ptr K.length 0 1) (.i6 ((c+1:Nat):Int)) (K++[.c0 (AP b c 0),.c0 z3C])=some (K++[.c0 (AP b (c+1) 0),.c0 z3C]):=by rw[Dm (o:=1) (cs:=AP b c 0) (by simp) rfl (by simp[AP])];simp[AP]
 unfold UbL;rw[show([.str [],.i6 0,.i6 0]:List Ab)=z3C from rfl];by_cases he:b.length<=c
 ·have hs:Mq b c=(c,Ig b c,0):=by unfold Mq;rw[zYc he]
  rw[hs];simp only[GMw,b1,b3,lc,aO,zXc he,dO,sr,lr,B2,AW,Bl,zXb];exact bI _ _ _ _
 ·have hlt:c<b.length:=by omega
  have hv:Mq b c=if (Fe b c).1=none then ((Fe b c).2.1,0,((Fe b c).2.2:Int))else if (Fe b c).2.1=c then (c,0,-1)else (c+1,Ig b (c+1),0):=by unfold Mq;rw[zYb he]
  rw[hv];have wr:=Ar (show c<9223372036854775807 by omega);have h1:AE b c [46,98]=(decide (b[c].toNat=46)||decide (b[c].toNat=98)):=Jt (p:=λn=>decide (n=46)||decide (n=98)) hlt VnD;have h2:AE b c [111]=decide (b[c].toNat=111):=Jt (p:=λn=>decide (n=111)) hlt Vq2;have h3:AE b c Ir=(decide (65<=b[c].toNat)&&decide (b[c].toNat<=88)):=Jt (p:=λn=>decide (65<=n)&&decide (n<=88)) hlt VcO;have h4:AE b c Ph=(decide (112<=b[c].toNat)&&decide (b[c].toNat<=121)):=Jt (p:=λn=>decide (112<=n)&&decide (n<=121)) hlt Vi3;have h5:b[c]? = some b[c]:=VG hlt;have h6:(some b[c]=some (121:UInt8))↔b[c].toNat=121:=by
   rw[Option.some_inj];constructor;intro h;rw[h];rfl
   intro h;exact UInt8.toNat_inj.mp h
  have mQ:b[c].toNat<256:=b[c].toNat_lt;simp only[GMw,b1,b3,lc,aO,zXd he,Aj,VK,Nat.add_zero,l0,l1,AQ hlt];unfold Fe;rw[Vki hlt,h1,h2,h3,h4,h5];simp only[h6];generalize b[c].toNat=t at *;have q1:decide ((t:Int)=46)=decide (t=46):=by rw[VZ];simp only[zXe];omega
  have q2:decide ((t:Int)=98)=decide (t=98):=by rw[VZ];simp only[zXe];omega
  have q3:decide ((t:Int)=111)=decide (t=111):=by rw[VZ];simp only[zXe];omega
  have q4:decide ((t:Int)>=65)=decide (65<=t):=by rw[VZ];simp only[zXe];omega
  have q5:decide ((t:Int)<=88)=decide (t<=88):=by rw[VZ];simp only[zXe];omega
  have q6:decide ((t:Int)>=112)=decide (112<=t):=by rw[VZ];simp only[zXe];omega
  have q7:decide ((t:Int)<=121)=decide (t<=121):=by rw[VZ];simp only[zXe];omega
  have q8:decide ((t:Int)=121)=decide (t=121):=by rw[VZ];simp only[zXe];omega
  by_cases t1:t=46;simp only[q1,zXc t1,GMw,sr,lr,B2,AW,Bl,zXb,zYd];exact bI _ _ _ _;by_cases t2:t=98;simp only[q1,q2,zXd t1,zXc t2,GMw,sr,lr,B2,AW,Bl,zXb,zYd];exact bI _ _ _ _;by_cases t3:t=111;simp only[q1,q2,q3,zXd t1,zXd t2,zXc t3,GMw,sr,lr,B2,AW,Bl,zXb,zYe,zYd];exact bI _ _ _ _;simp only[q1,q2,q3,zXd t1,zXd t2,zXd t3,GMw,zYe];by_cases t4:65<=t/\t<=88;have w1:J_.wrap ((t:Int)-65)=((t-65:Nat):Int):=(by rw[DW (by omega) (by omega)];omega);have w2:I_.wrap ((t-65:Nat):Int)=((t-65:Nat):Int):=Am (by omega) (by omega);have w3:I_.wrap (((t-65:Nat):Int)+1)=((t-65+1:Nat):Int):=Ar (by omega);simp only[q4,q5,zXc t4.1,zXc t4.2,GMw,w1,AV,w2,w3,sr,lr,B2,AW,Bl,zXb,Bool.and_self,zYd];exact bI _ _ _ _;by_cases t5:112<=t/\t<=121
  ·have n88:¬t<=88:=(by omega);have n65:65<=t:=(by omega);simp only[q4,q5,q6,q7,zXc n65,zXd n88,zXc t5.1,zXc t5.2,GMw,Bool.and_self,zYe,zYd,l1,wr,s1,lc,sR];by_cases wU:b.length<=c+1;have hn:AE b (c+1) Ir=false:=(by unfold AE;rw[zYa wU]);simp only[zXc wU,hn,GMw,iQ,sr,lr,B2,AW,Bl,zXb,zYd,reduceCtorEq,zYe,Nat.succ_ne_self];exact bI _ _ _ _
   ·have dB:c+1<b.length:=(by omega);have g1:AE b (c+1) Ir=(decide (65<=b[c+1].toNat)&&decide (b[c+1].toNat<=88)):=Jt (p:=λn=>decide (65<=n)&&decide (n<=88)) dB VcO;have g2:AE b (c+1) Vp=(decide (80<=b[c+1].toNat)&&decide (b[c+1].toNat<=88)):=Jt (p:=λn=>decide (80<=n)&&decide (n<=88)) dB ViB;have zG:b[c+1].toNat<256:=b[c+1].toNat_lt;rw[Vki dB,g1,g2];simp only[zXd wU,GMw,l0,l1,AQ dB];generalize hu:b[c+1].toNat=u at *;have p1:decide ((u:Int)<65) = !decide (65<=u):=(by rw[VZ];simp only[zXe,WC,zYl];omega);have p2:decide ((u:Int)>88) = !decide (u<=88):=(by rw[VZ];simp only[zXe,WC,zYl];omega);have p3:decide ((u:Int)>79)=decide (80<=u):=(by rw[VZ];simp only[zXe];omega);have stop:(!(decide (65<=u)&&decide (u<=88))||(decide (t=121)&&(decide (80<=u)&&decide (u<=88))))=true->∀er:Er×Nat×Nat,(if (if (!(decide (65<=u)&&decide (u<=88))||(decide (t=121)&&(decide (80<=u)&&decide (u<=88))))=true then (some (Fi b (c+1) [65,33]),c+1,0)else er).1=none then ((if (!(decide (65<=u)&&decide (u<=88))||(decide (t=121)&&(decide (80<=u)&&decide (u<=88))))=true then (some (Fi b (c+1) [65,33]),c+1,0)else er).2.1,(0:Int),(((if (!(decide (65<=u)&&decide (u<=88))||(decide (t=121)&&(decide (80<=u)&&decide (u<=88))))=true then (some (Fi b (c+1) [65,33]),c+1,0)else er).2.2:Nat):Int))else if (if (!(decide (65<=u)&&decide (u<=88))||(decide (t=121)&&(decide (80<=u)&&decide (u<=88))))=true then (some (Fi b (c+1) [65,33]),c+1,0)else er).2.1=c then (c,0,-1)else (c+1,Ig b (c+1),0))=(c+1,Ig b (c+1),0):=λh er=>(by rw[zYc h,zYb (by simp),zYb (by show ¬c+1=c;omega)]);by_cases u1:65<=u
    ·by_cases u2:u<=88;by_cases u3:t=121/\80<=u;rw[stop (by simp[u1,u2,u3])];simp only[p1,p2,p3,q8,zXc u1,zXc u2,zXc u3.1,zXc u3.2,Wp,GMw,l0,l1,hu,AQ dB,iQ,sr,lr,B2,AW,Bl,zXb];exact bI _ _ _ _;have bT:(!(decide (65<=u)&&decide (u<=88))||(decide (t=121)&&(decide (80<=u)&&decide (u<=88))))=false:=(by rw[zXc u1,zXc u2];by_cases u4:t=121;rw[zXd (λh=>u3 ⟨u4,h⟩)];simp;rw[zXd u4];simp);have w1:J_.wrap ((t:Int)-112)=((t-112:Nat):Int):=(by rw[DW (by omega) (by omega)];omega);have w2:I_.wrap ((t-112:Nat):Int)=((t-112:Nat):Int):=Am (by omega) (by omega);have w3:I_.wrap (24*((t-112:Nat):Int))=((24*(t-112):Nat):Int):=(by rw[Am (by omega) (by omega)];omega);have w4:I_.wrap (25+((24*(t-112):Nat):Int))=((25+24*(t-112):Nat):Int):=(by rw[Am (by omega) (by omega)];omega);have w5:J_.wrap ((u:Int)-65)=((u-65:Nat):Int):=(by rw[DW (by omega) (by omega)];omega);have w6:I_.wrap ((u-65:Nat):Int)=((u-65:Nat):Int):=Am (by omega) (by omega);have w7:I_.wrap (((25+24*(t-112):Nat):Int)+((u-65:Nat):Int))=((24*(t-112)+(u-65)+25:Nat):Int):=(by rw[Am (by omega) (by omega)];omega);simp only[bT,VL,zYe,zYd];by_cases u4:t=121;have u5:¬80<=u:=λh=>u3 ⟨u4,h⟩;simp only[p1,p2,p3,q8,zXc u1,zXc u2,zXc u4,zXd u5,Wp,GMw,l0,l1,l0r,l1r,hu,AQ dB,w1,w2,w3,w4,w5,w6,w7,AV,sr,lr,B2,AW,Bl,zXb,zYi];exact bI _ _ _ _;simp only[p1,p2,q8,zXc u1,zXc u2,zXd u4,Wp,GMw,l0,l1,l0r,l1r,hu,AQ dB,w1,w2,w3,w4,w5,w6,w7,AV,sr,lr,B2,AW,Bl,zXb,zYi];exact bI _ _ _ _;rw[stop (by simp[u2])];simp only[p1,p2,zXc u1,zXd u2,Wp,W8,GMw,l0,l1,hu,AQ dB,iQ,sr,lr,B2,AW,Bl,zXb];exact bI _ _ _ _
    rw[stop (by simp[u1])];simp only[p1,zXd u1,W8,GMw,iQ,sr,lr,B2,AW,Bl,zXb];exact bI _ _ _ _
  have hC:(decide (65<=t)&&decide (t<=88))=false:=(by rw[Bool.eq_false_iff];simp only[ne_eq,VV,zXe];exact t4);have hL:(decide (112<=t)&&decide (t<=121))=false:=(by rw[Bool.eq_false_iff];simp only[ne_eq,VV,zXe];exact t5);rw[hC,hL];by_cases n65:65<=t;have n88:¬t<=88:=λh=>t4 ⟨n65,h⟩;by_cases n112:112<=t;have n121:¬t<=121:=λh=>t5 ⟨n112,h⟩;simp only[q4,q5,q6,q7,zXc n65,zXd n88,zXc n112,zXd n121,GMw,sr,lr,B2,AW,Bl,zXb,zYe,zYd,reduceCtorEq];exact bI _ _ _ _;simp only[q4,q5,q6,zXc n65,zXd n88,zXd n112,GMw,sr,lr,B2,AW,Bl,zXb,zYe,zYd,reduceCtorEq];exact bI _ _ _ _;have n112:¬112<=t:=(by omega);simp only[q4,q6,zXd n65,zXd n112,GMw,sr,lr,B2,AW,Bl,zXb,zYe,zYd,reduceCtorEq];exact bI _ _ _ _

end
section
variable {bx N:Int}{b0 p a:Nat}{b:zAa}{st:LSt}{H:Aa}{f0 f1 g0 g1 v:Ab}
theorem VcN {i:Nat}(h:AE b i Ir=true):∃hl:i<b.length,65<=b[i].toNat/\b[i].toNat<=88/\atV b i=b[i].toNat:=by
 have hl:=Ca h;unfold AE at h;rw[VG hl]at h;have hm:b[i]∈Ir:=by simpa using h
 have key:∀x∈Ir,65<=x.toNat/\x.toNat<=88:=by decide
 exact⟨hl,(key _ hm).1,(key _ hm).2,by unfold atV;rw[VO,VG hl];rfl⟩
theorem Vi2 {i:Nat}(h:AE b i Ph=true):∃hl:i<b.length,112<=b[i].toNat/\b[i].toNat<=121/\atV b i=b[i].toNat:=by
 have hl:=Ca h;unfold AE at h;rw[VG hl]at h;have hm:b[i]∈Ph:=by simpa using h
 have key:∀x∈Ph,112<=x.toNat/\x.toNat<=121:=by decide
 exact⟨hl,(key _ hm).1,(key _ hm).2,by unfold atV;rw[VO,VG hl];rfl⟩
theorem Vj4 {x k:Nat}(h:k<=x)(hx:x<256):J_.wrap ((x:Int)-(k:Int))=((x-k:Nat):Int):=by rw[DW (by omega) (by omega)];omega
theorem PJ {x y:Nat}(h:x+y<9223372036854775808):I_.wrap ((x:Int)+(y:Int))=((x+y:Nat):Int):=by rw[Am (by omega) (by omega)];simp
theorem Vlp {x y:Nat}(h:x*y<9223372036854775808):I_.wrap ((x:Int)*(y:Int))=((x*y:Nat):Int):=by
 have e0:((x:Int)*(y:Int))=((x*y:Nat):Int):=by simp
 rw[e0,Am (by omega) (by omega)]
theorem VgC {x:Nat}(hx:x<256):I_.wrap (x:Int)=(x:Int):=OK (by omega)
theorem VhB (hb:b.length<1000000000)(ha:a<=b.length)(h:RLe bx N b0 p b a st H):Vhl bx N b0 p b st H (Uba (.ptr p 0 0) H) (Fe b a):=by
 have hh:=h;obtain⟨f0,f1,g0,g1,v,h⟩:=h;have u65:∀ {x:Nat},65<=x->x<256->J_.wrap ((x:Int)-65)=((x-65:Nat):Int):=λh hx=>Vj4 (k:=65) h hx;have u112:∀ {x:Nat},112<=x->x<256->J_.wrap ((x:Int)-112)=((x-112:Nat):Int):=λh hx=>Vj4 (k:=112) h hx;have a1:∀ {x:Nat},x<1000->I_.wrap ((x:Int)+1)=((x+1:Nat):Int):=λh=>PJ (y:=1) (by omega);have a24:∀ {x:Nat},x<1000->I_.wrap ((x:Int)+24)=((x+24:Nat):Int):=λh=>PJ (y:=24) (by omega);have m24:∀ {x:Nat},x<1000->I_.wrap (24*(x:Int))=((24*x:Nat):Int):=λh=>Vlp (x:=24) (by omega);unfold Uba Fe Vhl;simp only[GMw,HPw,Ah,E5 h.lx ha];cases h1:AE b a [46,98]with
 |true=>simp only[GMw,HPw,zYd];exact⟨H,rfl,Ext.refl _ _ _,hh⟩
 |false=>
  simp only[GMw,zYe];cases h2:AE b a [111]with
  |true=>simp only[GMw,HPw,zYd];exact⟨H,rfl,Ext.refl _ _ _,hh⟩
  |false=>
   simp only[GMw,zYe];rw[show AE b a [65,66,67,68,69,70,71,72,73,74,75,76,77,78,79,80,81,82,83,84,85,86,87,88]=AE b a Ir from rfl];cases h3:AE b a Ir with
   |true=>obtain⟨hl,c1,c2,c3⟩:=VcN h3;have dC:Bc (.str b) (.i6 (a:Int))=some (.int .u8 (b[a].toNat:Int)):=AQ hl;simp only[GMw,HPw,zYd,Gl h.lx,Rj h.lx,dC,u65 c1 (show b[a].toNat<256 by omega),AV,VgC (show b[a].toNat-65<256 by omega),a1 (show b[a].toNat-65<1000 by omega)];exact⟨H,by rw[c3];rfl,Ext.refl _ _ _,hh⟩
   |false=>
    simp only[GMw,zYe];rw[show AE b a [112,113,114,115,116,117,118,119,120,121]=AE b a Ph from rfl];cases h4:AE b a Ph with
    |false=>simp only[GMw,HPw,zYe,IS h.lx];exact⟨H,rfl,Ext.refl _ _ _,hh⟩
    |true=>
     obtain⟨hl,c1,c2,c3⟩:=Vi2 h4;have dC:Bc (.str b) (.i6 (a:Int))=some (.int .u8 (b[a].toNat:Int)):=AQ hl;have aM:Ae 1 (.ptr p 0 1) (.i6 ((a+1:Nat):Int)) H=some (Ci H p b (rdL bx N st f0 f1 g0 g1 v) (a+1)):=N6 h.lx _;obtain⟨h5,e5⟩:=h.go0 (a+1);have xS:decide ((b[a].toNat:Int)=121)=decide (b[a]? = some 121):=(by rw[VG hl,VZ];simp only[zXe,VT];constructor;intro e;exact Xt.1 (by show b[a].toNat=121;omega);intro e;rw[e];rfl);unfold UeQ;simp only[GMw,HPw,zYd,Ah,Gl h.lx,Rj h.lx,dC,Ar (show a<9223372036854775807 by omega),aM];generalize Ci H p b _ (a+1)=H1 at h5 e5;have tZ:RLe bx N b0 p b (a+1) st H1:=⟨_,_,_,_,_,h5⟩;have tI:a+1<=b.length:=hl;simp only[E5 h5.lx tI];rw[show AE b (a+1) [65,66,67,68,69,70,71,72,73,74,75,76,77,78,79,80,81,82,83,84,85,86,87,88]=AE b (a+1) Ir from rfl];cases h6:AE b (a+1) Ir with
     |false=>simp only[GMw,HPw,zYd,IS h5.lx];exact⟨H1,rfl,e5,tZ⟩
     |true=>
      obtain⟨gO,d1,d2,d3⟩:=VcN h6;have wK:Bc (.str b) (.i6 ((a+1:Nat):Int))=some (.int .u8 (b[a+1].toNat:Int)):=AQ gO;simp only[GMw,xS];have fin:Uej H (.ptr p 0 0) (.int .u8 (b[a].toNat:Int)) H1=some (.ret (.i6 ((24*(atV b a-112)+(atV b (a+1)-65)+25:Nat):Int)),H1):=(by unfold Uej;simp only[GMw,HPw,Ah,Gl h5.lx,Rj h5.lx,wK,u112 c1 (show b[a].toNat<256 by omega),AV,VgC (show b[a].toNat-112<256 by omega),m24 (show b[a].toNat-112<1000 by omega),u65 d1 (show b[a+1].toNat<256 by omega),VgC (show b[a+1].toNat-65<256 by omega),PJ (show 24*(b[a].toNat-112)+(b[a+1].toNat-65)<9223372036854775808 by omega),a24 (show 24*(b[a].toNat-112)+(b[a+1].toNat-65)<1000 by omega),a1 (show 24*(b[a].toNat-112)+(b[a+1].toNat-65)+24<1000 by omega)];rw[c3,d3]);cases h7:decide (b[a]? = some 121)with
      |false=>simp only[GMw,zYe,fin];exact⟨H1,rfl,e5,tZ⟩
      |true=>simp only[GMw,HPw,E5 h5.lx tI];rw[show AE b (a+1) [80,81,82,83,84,85,86,87,88]=AE b (a+1) Vp from rfl];cases h8:AE b (a+1) Vp with|true=>simp only[GMw,HPw,zYd,IS h5.lx];exact⟨H1,rfl,e5,tZ⟩|false=>simp only[GMw,zYe,fin];exact⟨H1,rfl,e5,tZ⟩
theorem U0 (s:Nat):J_.wrap (s:Int)=((UInt8.ofNat s).toNat:Int):=by
 have h:(UInt8.ofNat s).toNat=s%256:=by simp
 rw[h];have h1:J_.bits=8:=rfl;have h2:J_.signed=false:=rfl;unfold IntKind.wrap;simp[h1,h2]
theorem VcQ (x y:Int)(s:Nat):Az (some [(.bool false),(.sl [] .ti),(.bool false),(.sl [] .ti),(.int .u8 0)]) [(0,2,big x),(2,2,big y),(4,1,(.int .u8 ((UInt8.ofNat s).toNat:Int)))]=some (.agg (cCl ⟨x,y,UInt8.ofNat s⟩)):=rfl
theorem Vfq (h:RLx bx N b0 p b a st f0 f1 g0 g1 v H){q s n i:Nat}{Y:Int}(hq:H[q]? = some (.c0 (A7 Y)))(mZ:q≠p)(hX:st.x.natAbs<10^400)(hc:st.col<=1000000000000000000)(hk:st.cells.length<=1000000000000)(hi:i<n)(hn:n<=1000000000){rec:LK}{H0:Aa}:∃w H6,Ua9 H0 rec (.ptr p 0 0) (.i6 (s:Int)) (.ptr q 0 0) (.i6 (n:Int)) (.i6 (i:Int)) H=rec [.ptr p 0 0,.i6 (s:Int),.ptr q 0 0,.i6 (n:Int),.i6 ((i+1:Nat):Int)] H6 /\
   RLx bx N b0 p b a {st with col:=st.col+1,cells:=st.cells++[⟨st.x+st.col,Y,UInt8.ofNat s⟩]} f0 f1 g0 g1 w H6/\Ext b0 p H H6:=by
 have hd:decide ((i:Int)<(n:Int))=true:=zXc (by omega);have pY:Ad false 1 (.ptr p 0 9) H=some (.i6 (st.col:Int)):=by rw[Bt h.lx];rfl
 have hf:Ad true 2 (.ptr p 0 5) H=some (.agg [f0,f1]):=by rw[Vco h.lx (by simp[rdL])];rfl
 have hv:Ad false 1 (.ptr p 0 11) H=some v:=by rw[Bt h.lx];rfl
 have hy:Ad true 2 (.ptr q 0 0) H=some (big Y):=Bn hq;have aU:=λK=>VjB (n:=st.col) K h.fx (SY hX) (VjN (show st.col<=1152921504606846976 by omega));obtain⟨w,H6,r1,r2,r3⟩:=h.row.snoc (bytes:=72) h.ble ⟨st.x+st.col,Y,UInt8.ofNat s⟩ .ti (by omega) (by omega);have oK:Lx H6 p b a (rdL bx N st f0 f1 g0 g1 v):=r3.cel _ _ h.lx;have uN:w.isScal=true:=by obtain⟨tk,rfl⟩:=r2.sl;rfl
 have yE:=Vi1 oK;obtain⟨C7,hC7⟩:∃C,C=(Ab.str b::.i6 (a:Int)::rdL bx N st f0 f1 g0 g1 v).set 11 w:=⟨_,rfl⟩;obtain⟨H7,hH7⟩:∃K,K=H6.set p (.c0 C7):=⟨_,rfl⟩;have hst:Ae 1 (.ptr p 0 11) w H6=some H7:=by rw[hH7,hC7];exact Dm (o:=11) (v:=w) oK uN (by simp[rdL])
 have rQ:H7[p]? = some (.c0 C7):=by rw[hH7,VX yE]
 have Z9:Ad false 1 (.ptr p 0 9) H7=some (.i6 (st.col:Int)):=by rw[Bt rQ,hC7];rfl
 obtain⟨H8,hH8⟩:∃K,K=H7.set p (.c0 (C7.set 9 (.i6 ((st.col+1:Nat):Int)))):=⟨_,rfl⟩;have cJ:Ae 1 (.ptr p 0 9) (.i6 ((st.col+1:Nat):Int)) H7=some H8:=by rw[hH8];exact Dm (o:=9) rQ rfl (by rw[hC7];simp[rdL])
 have h8:H8=H6.set p (.c0 (.str b::.i6 (a:Int)::rdL bx N {st with col:=st.col+1,cells:=st.cells++[⟨st.x+st.col,Y,UInt8.ofNat s⟩]} f0 f1 g0 g1 w)):=by rw[hH8,hH7,Yr,hC7];rfl
 unfold Ua9;simp only[GMw,HPw,hd,Ah,pY,Vpz (st.col:Int) _ (by omega) (by omega),VjR,hf,aU,hv,hy,AV,U0,VcQ,Np,r1,hst,Cd,Z9,Ar (show st.col<9223372036854775807 by omega),cJ,Ar (show i<9223372036854775807 by omega)];refine⟨w,H8,rfl,?_,?_⟩;rw[h8];refine⟨h.hb,?_,r2.put oK,h.fx,h.gy⟩;unfold Lx;rw[VX yE];rw[h8];exact Ext.trans ⟨r3.len,λi cs hi hc=>r3.cel i cs hc,r3.old⟩ ⟨by simp,λi c hi hc=>by rw[VH (Ne.symm hi)];exact hc,λi hi=>by rw[VH (by have:=h.hb;omega)]⟩
def Qa (st:LSt)(s i:Nat):LSt:={st with col:=st.col+i,cells:=st.cells++Qb st i s}
theorem Vfs (st:LSt)(i s:Nat):Qb st (i+1) s=Qb st i s++[⟨st.x+((st.col+i:Nat):Int),st.y+(st.row:Int),UInt8.ofNat s⟩]:=by simp[Qb,XB]
theorem Vca {H0:Aa}{q s n:Nat}(mZ:q≠p)(hX:st.x.natAbs<10^400)(hc:st.col<=100000000000000000)(hk:st.cells.length<=100000000000)(hn:n<=1000000000):∀(m i:Nat)(H:Aa),i+m=n->H[q]? = some (.c0 (A7 (st.y+st.row)))->∀k,m<k ->
  RLe bx N b0 p b a (Qa st s i) H->Nv bx N b0 p b H (An (λaA vs H=>Ua9 H0 aA (ag vs 0) (ag vs 1) (ag vs 2) (ag vs 3) (ag vs 4) H) k [.ptr p 0 0,.i6 (s:Int),.ptr q 0 0,.i6 (n:Int),.i6 (i:Int)] H) (.tup []) ((none,a),Qa st s n)
 |0,i,H,iD,hq,k,hk2,h=>by
  obtain⟨k,rfl⟩:∃j,k=j+1:=⟨k-1,by omega⟩;have e:i=n:=by omega
  subst e;have hd:decide ((i:Int)<(i:Int))=false:=zXd (by omega);rw[Bx];unfold Ua9;simp only[GMw,HPw,hd];exact⟨H,rfl,Ext.refl _ _ _,h⟩
 |m+1,i,H,iD,hq,k,hk2,h=>by
  obtain⟨k,rfl⟩:∃j,k=j+1:=⟨k-1,by omega⟩;rw[Bx];generalize hg:An (λaA vs H=>Ua9 H0 aA (ag vs 0) (ag vs 1) (ag vs 2) (ag vs 3) (ag vs 4) H) k=rec;obtain⟨f0,f1,g0,g1,v,h⟩:=h;obtain⟨w,H6,r1,r2,r3⟩:=Vfq h (s:=s) (n:=n) (i:=i) hq mZ hX (by show st.col+i<=_;omega) (by show(st.cells++Qb st i s).length<=_;rw[VR,Vcb];omega) (by omega) hn (rec:=rec) (H0:=H0);have e2:({ Qa st s i with col:=(Qa st s i).col+1,cells:=(Qa st s i).cells++[⟨(Qa st s i).x+(Qa st s i).col,st.y+st.row,UInt8.ofNat s⟩]}:LSt)=Qa st s (i+1):=by unfold Qa;rw[Vfs];simp[WA]
  rw[e2]at r2;obtain⟨H7,s1,s2,s3⟩:=Vca mZ hX hc hk hn m (i+1) H6 (by omega) (r3.cel q _ mZ hq) k (by omega) ⟨_,_,_,_,_,r2⟩;rw[hg]at s1;exact⟨H7,r1.trans s1,r3.trans s2,s3⟩

end
structure TI (m0:Nat)(K0:Aa)(b:zAa)(c:Nat)(e bx N:Int)(sk:List Ab)(K:Aa):Prop where
 kp:Kp m0 K0 K
 cur:K[K0.length]? = some (.c0 (AP b c e))
 sk:K[K0.length+1]? = some (.c0 sk)
 lim:K[K0.length+2]? = some (.c0 [.i6 bx,.i6 N])
 r3:K[K0.length+3]? = some (.c0 z3C)
 r9:K[K0.length+4]? = some (.c0 z9C)
def Vcr {b p:Nat}{H H':Aa}{B:Blk}(h:Kp b H H')(hp:b<=H.length)(hq:H.length<=p:=by omega):Kp b H (H'.set p B):=
 ⟨by rw[zXp];exact h.len,λi cs hc=>by have:=(VJ.1 hc).1;rw[VH (by omega)];exact h.cel i cs hc,λi hi=>by rw[VH (by omega)];exact h.old i hi⟩
def HP (l:zAa)(k:Bk)(co ro:Int)(d:Bool){v:Ab}(h:v.isScal=true):(skC l k co ro v d).all Ab.isScal=true:=by simp[skC,h]
section
variable {m0 c:Nat}{K0 K:Aa}{b:zAa}{e bx N:Int}{sk:List Ab}{cells:List Cl}{v:Ab}
theorem TI.len (h:TI m0 K0 b c e bx N sk K):K0.length+4<K.length:=(VJ.1 h.r9).1
theorem TI.new (b:zAa)(c:Nat)(e bx N:Int)(sk:List Ab)(hm:m0<=K0.length):TI m0 K0 b c e bx N sk (K0++[.c0 (AP b c e),.c0 sk,.c0 [.i6 bx,.i6 N],.c0 z3C,.c0 z9C]):=
 ⟨Kp.app hm _,by simp,by simp,by simp,by simp,by simp⟩
theorem TI.grow (h:TI m0 K0 b c e bx N sk K){K':Aa}(hk:Kp m0 K K'):TI m0 K0 b c e bx N sk K':=
 ⟨h.kp.trans hk,hk.cel _ _ h.cur,hk.cel _ _ h.sk,hk.cel _ _ h.lim,hk.cel _ _ h.r3,hk.cel _ _ h.r9⟩
theorem TI.ldc (h:TI m0 K0 b c e bx N sk K):Ad true 3 (.ptr K0.length 0 0) K=some (Bq b c e):=CV (sz:=3) h.cur rfl
theorem TI.le (h:TI m0 K0 b c e bx N sk K):Ad false 1 (.ptr K0.length 0 2) K=some (.i6 e):=by rw[Bt h.cur];rfl
theorem TI.la (h:TI m0 K0 b c e bx N sk K):Ad false 1 (.ptr K0.length 0 1) K=some (.i6 (c:Int)):=by rw[Bt h.cur];rfl
theorem TI.stc (h:TI m0 K0 b c e bx N sk K)(c':Nat)(e':Int):Ae 3 (.ptr K0.length 0 0) (Bq b c' e') K=some (K.set K0.length (.c0 (AP b c' e'))):=Dz (sz:=3) h.cur rfl rfl rfl
theorem TI.sta (h:TI m0 K0 b c e bx N sk K)(c':Nat):Ae 1 (.ptr K0.length 0 1) (.i6 (c':Int)) K=some (K.set K0.length (.c0 (AP b c' e))):=Dm (o:=1) h.cur rfl (by simp[AP])
theorem TI.ste (h:TI m0 K0 b c e bx N sk K)(e':Int):Ae 1 (.ptr K0.length 0 2) (.i6 e') K=some (K.set K0.length (.c0 (AP b c e'))):=Dm (o:=2) h.cur rfl (by simp[AP])
theorem TI.mvc (h:TI m0 K0 b c e bx N sk K)(hm:m0<=K0.length)(c':Nat)(e':Int):TI m0 K0 b c' e' bx N sk (K.set K0.length (.c0 (AP b c' e'))):=by have hl:=h.len;exact⟨Vcr h.kp hm,by rw[VX (by omega)],by rw[VH (by omega)];exact h.sk,by rw[VH (by omega)];exact h.lim,by rw[VH (by omega)];exact h.r3,by rw[VH (by omega)];exact h.r9⟩
theorem TI.mvs (h:TI m0 K0 b c e bx N sk K)(hm:m0<=K0.length)(sk':List Ab):TI m0 K0 b c e bx N sk' (K.set (K0.length+1) (.c0 sk')):=by have hl:=h.len;exact⟨Vcr h.kp hm,by rw[VH (by omega)];exact h.cur,by rw[VX (by omega)],by rw[VH (by omega)];exact h.lim,by rw[VH (by omega)];exact h.r3,by rw[VH (by omega)];exact h.r9⟩
theorem TI.out (h:TI m0 K0 b c e bx N sk K)(hm:m0<=K0.length)(hl:sk.length=9)(hs:sk.all Ab.isScal=true)(hR:RS cCl A6 5 m0 cells v K)(c':Nat)(e':Int):∃K1 K2,Ae 3 (.ptr (K0.length+3) 0 0) (Bq b c' e') K=some K1/\Ad true 9 (.ptr (K0.length+1) 0 0) K=some (.agg sk)/\Ad true 9 (.ptr (K0.length+1) 0 0) K1=some (.agg sk) /\
  Ae 9 (.ptr (K0.length+4) 0 0) (.agg sk) K1=some K2/\Ad true 3 (.ptr (K0.length+3) 0 0) K2=some (Bq b c' e')/\Ad true 9 (.ptr (K0.length+4) 0 0) K2=some (.agg sk)/\Kp m0 K0 K2/\RS cCl A6 5 m0 cells v K2:=by
 have eT:=h.len;have g1:=CV (sz:=9) h.sk hl;have e1:(K.set (K0.length+3) (.c0 (AP b c' e')))[K0.length+1]? = some (.c0 sk):=by rw[VH (by omega)];exact h.sk
 have e2:(K.set (K0.length+3) (.c0 (AP b c' e')))[K0.length+4]? = some (.c0 z9C):=by rw[VH (by omega)];exact h.r9
 have e3:((K.set (K0.length+3) (.c0 (AP b c' e'))).set (K0.length+4) (.c0 sk))[K0.length+3]? = some (.c0 (AP b c' e')):=by rw[VH (by omega),VX (by omega)]
 have e4:((K.set (K0.length+3) (.c0 (AP b c' e'))).set (K0.length+4) (.c0 sk))[K0.length+4]? = some (.c0 sk):=by rw[VX (by rw[zXp];omega)]
 exact⟨_,_,Dz (sz:=3) (ws:=AP b c' e') h.r3 rfl rfl rfl,g1,CV (sz:=9) e1 hl,Dz (sz:=9) e2 rfl hl hs,CV (sz:=3) e3 rfl,CV (sz:=9) e4 hl,Vcr (Vcr h.kp hm) hm,(hR.put h.r3).put e2⟩

end
section
variable {m0 c:Nat}{K0:Aa}{b:zAa}{bx N:Int}{l:zAa}{k:Bk}
theorem VbD (hm:m0<=K0.length){co ro n:Nat}{s i:Int}{v:Ab}{K:Aa}{cells:List Cl}(hc:c<100000000)(nM:co<=10000000000000000)(hn:n<=1000000000000)(h:TI m0 K0 b c 0 bx N (skC l k co ro v false) K)(hR:RS cCl A6 5 m0 cells v K)(bT:(decide (i<(n:Int))&&decide (s>0))=false)(rec:LK):∃K',Uf5 K0 rec (.ptr K0.length 0 0) (.ptr (K0.length+1) 0 0) (.ptr (K0.length+3) 0 0) (.ptr (K0.length+4) 0 0) (.i6 (n:Int)) (.i6 s) (.i6 i) K=some (.ret (.tup [Bq b (c+1) 0,.agg (skC l k ((co+n:Nat):Int) ro v false)]),K')/\Kp m0 K0 K'/\RS cCl A6 5 m0 cells v K':=by
 have hv:v.isScal=true:=hR.one;have l1:=h.la;have s1:=h.sta (c+1);have h1:=h.mvc hm (c+1) 0;have R1:=hR.put (c':=AP b (c+1) 0) h.cur;generalize K.set K0.length (.c0 (AP b (c+1) 0))=K1 at *;have l2:Ad false 1 (.ptr (K0.length+1) 0 5) K1=some (.i6 (co:Int)):=by rw[Bt h1.sk];rfl
 have s2:Ae 1 (.ptr (K0.length+1) 0 5) (.i6 ((co+n:Nat):Int)) K1=some (K1.set (K0.length+1) (.c0 (skC l k ((co+n:Nat):Int) ro v false))):=Dm (o:=5) h1.sk rfl (by simp[skC]);have h2:=h1.mvs hm (skC l k ((co+n:Nat):Int) ro v false);have R2:=R1.put (c':=skC l k ((co+n:Nat):Int) ro v false) h1.sk;generalize K1.set (K0.length+1) (.c0 (skC l k ((co+n:Nat):Int) ro v false))=K2 at *;have l3:=h2.ldc;obtain⟨K3,K4,f1,f2,f3,f4,f5,f6,f7,f8⟩:=h2.out hm rfl (HP l k _ _ _ hv) R2 (c+1) 0;have wc:=Ar (show c<9223372036854775807 by omega);have wn:I_.wrap ((co:Int)+(n:Int))=((co+n:Nat):Int):=by rw[Am (by omega) (by omega)];simp
 refine⟨K4,?_,f7,f8⟩;unfold Uf5;have tail:((Ac 1 (.ptr K0.length 0 0)).bind λx167=>
     (Ad false 1 x167 K).bind λx168=>
     (Af .n .add x168 (.i6 1)).bind λx169=>
     (Ac 1 (.ptr K0.length 0 0)).bind λx170=>
     bK K0 (As (Ae 1 x170 x169 K)) λ_ H172=>
     (Ac 5 (.ptr (K0.length+1) 0 0)).bind λx173=>
     (Ad false 1 x173 H172).bind λx174=>
     (Af .n .add x174 (.i6 (n:Int))).bind λx175=>
     (Ac 5 (.ptr (K0.length+1) 0 0)).bind λx176=>
     bK K0 (As (Ae 1 x176 x175 H172)) λ_ H178=>
     bC (Ad true 3 (.ptr K0.length 0 0) H178) (λ_=>True) λx179=>
     AH (As (Ae 3 (.ptr (K0.length+3) 0 0) x179 H178)) λ_ H181=>
     bC (Ad true 9 (.ptr (K0.length+1) 0 0) H181) (λx182=>Ad true 9 (.ptr (K0.length+1) 0 0) H178=some x182/\True) λx182=>
     bK K0 (As (Ae 9 (.ptr (K0.length+4) 0 0) x182 H181)) λ_ H184=>
     (BV [Ad true 3 (.ptr (K0.length+3) 0 0) H184,Ad true 9 (.ptr (K0.length+4) 0 0) H184]).bind λx185=>rK K0 x185 H184)=some (.ret (.tup [Bq b (c+1) 0,.agg (skC l k ((co+n:Nat):Int) ro v false)]),K4):=by
  simp only[GMw,Aj,VK,l1,wc,s1,l2,wn,s2,l3,f1,f2,f3,f4,f5,f6,zYi,B2,AW,Bl,zXb]
 cases h1:decide (i<(n:Int))with|false=>simp only[h1,GMw];exact tail|true=>rw[h1,zXn]at bT;simp only[h1,bT,GMw];exact tail

end
end Go.Gm
