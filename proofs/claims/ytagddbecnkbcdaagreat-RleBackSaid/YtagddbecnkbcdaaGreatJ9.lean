/- Texts of this proof, joined. -/
import Derived.Test.YtagddbecnkbcdaaGreatJ2
import Derived.Test.YtagddbecnkbcdaaGreatJ3
import Derived.Test.YtagddbecnkbcdaaGreatJ4
import Derived.Test.YtagddbecnkbcdaaGreatJ5
import Derived.Test.YtagddbecnkbcdaaGreatJ6
import Derived.Test.YtagddbecnkbcdaaGreatJ7
import Derived.Test.YtagddbecnkbcdaaGreatJ8
set_option linter.all false
namespace Go.Gm
inductive Sep:zAa->Prop where
 |nil:Sep []
 |sp {w:zAa} (h:Sep w):Sep (32::w)
 |lf {w:zAa} (h:Sep w):Sep (10::w)
 |crlf {w:zAa} (h:Sep w):Sep (13::10::w)
theorem Ui {b s t:zAa}{a:Nat}(h:b.drop a=s++t)(hs:s≠[]):a+s.length<=b.length/\a<b.length:=by have hl:=congrArg List.length h;have:=Xd.2 hs;rw[WS,WC]at hl;omega
theorem VbT {b u:zAa}{bx:Int}{st:LSt}{w:zAa}(hw:Sep w):∀(a:Nat),b.drop a=w++u->∃n,n<=w.length/\∀k,J3 b bx (k+n) a st=J3 b bx k (a+w.length) st:=by
 induction hw with
 |nil=>exact λa h=>⟨0,W7 _,λk=>rfl⟩
 |@sp w hw ih=>
  intro a h;rw[List.cons_append]at h;obtain⟨g1,g2,g3⟩:=CM h;obtain⟨n,n1,n2⟩:=ih (a+1) g3;refine⟨n+1,by simp;omega,λk=>?_⟩;rw[<-Xc]
  conv=>lhs;unfold J3
  rw[if_neg (by omega),AV h,if_pos (by decide),n2 k,zXj,show a+1+w.length=a+(w.length+1)by omega]
 |@lf w hw ih=>
  intro a h;rw[List.cons_append]at h;obtain⟨g1,g2,g3⟩:=CM h;obtain⟨n,n1,n2⟩:=ih (a+1) g3;refine⟨n+1,by simp;omega,λk=>?_⟩;rw[<-Xc]
  conv=>lhs;unfold J3
  rw[if_neg (by omega),AV h,AV h,if_neg (by decide),if_pos (by decide),Vg2 h [33]];dsimp only;rw[n2 k,zXj,show a+1+w.length=a+(w.length+1)by omega]
 |@crlf w hw ih=>
  intro a h;rw[List.cons_append,List.cons_append]at h;obtain⟨g1,g2,g3⟩:=CM h;obtain⟨g4,g5,g6⟩:=CM g3;obtain⟨n,n1,n2⟩:=ih (a+1+1) g6;refine⟨n+1,by simp;omega,λk=>?_⟩;rw[<-Xc]
  conv=>lhs;unfold J3
  rw[if_neg (by omega),AV h,AV h,if_neg (by decide),if_pos (by decide),VcM h [33]];dsimp only;rw[show a+2=a+1+1 from rfl,n2 k,zXj,zXj,show a+1+1+w.length=a+(w.length+1+1)by omega]
inductive Iz:List (zAa)->zAa->Prop where
 |nil:Iz [] []
 |cons {t w u:zAa} {l:List (zAa)} (hw:Sep w) (h:Iz l u):Iz (t::l) (w++(t++u))
theorem Iz.snoc {t w u:zAa}{l:List (zAa)}(h:Iz l u)(hw:Sep w):Iz (l++[t]) (u++(w++t)):=by
 induction h with
 |nil=>have:=Iz.cons (t:=t) hw .nil;simpa using this
 |@cons t' w' u' l' hw' _ ih=>have:=Iz.cons (t:=t') hw' ih;simpa[WD]using this
theorem VaC {b:zAa}{bx:Int}{l:List (zAa)}{st st':LSt}(hT:Tks bx l st st'):∀ {u:zAa},Iz l u->∀(a:Nat)(v:zAa),b.drop a=u++v->∃n,n<=u.length/\∀k,J3 b bx (k+n) a st=J3 b bx k (a+u.length) st':=by
 induction hT with
 |nil st=>intro u hs a v h;cases hs;exact⟨0,W7 _,λk=>rfl⟩
 |@cons t l st st1 st2 h1 _ ih=>
  intro u hs a v h;cases hs with
  |@cons _ w u' _ hw hs=>
   rw[WD]at h;obtain⟨n1,p1,p2⟩:=VbT (bx:=bx) (st:=st) hw a h;have h2:=CZ h;rw[WD]at h2;have h3:=CZ h2;obtain⟨n2,q1,q2⟩:=ih hs _ v h3;have ht:=h1.go b _ _ h2;obtain⟨c,r,hc,hd⟩:=h1.hd;have hb:=Ui h2 (by rw[hc];simp);have hlen:1<=t.length:=(by rw[hc];simp);have hcs:b.drop (a+w.length)=c::(r++(u'++v)):=(by rw[h2,hc];rfl);have h32:Bc b (a+w.length) [32]=false:=(by rw[AV hcs];simp at hd⊢;exact hd.1);have cK:Bc b (a+w.length) [13,10]=false:=(by rw[AV hcs];simp at hd⊢;exact hd.2);refine⟨n2+1+n1,by simp only[WC];omega,λk=>?_⟩;rw[show k+(n2+1+n1)=k+n2+1+n1 by omega,p2]
   conv=>lhs;unfold J3
   rw[if_neg (by omega),h32,cK,ht];simp only[WB,if_false];rw[q2 k];simp only[WC,Xc]
theorem Va4 {b:zAa}{bx:Int}{l:List (zAa)}{st st':LSt}(hT:Tks bx l st st'){u w v:zAa}(hs:Iz l u)(hw:Sep w){a:Nat}(h:b.drop a=u++(w++33::v)):(J3 b bx (b.length+1) a st).1.1=none/\(J3 b bx (b.length+1) a st).2=st':=by
 obtain⟨n1,p1,p2⟩:=VaC hT hs a _ h;have h2:=CZ h;obtain⟨n2,q1,q2⟩:=VbT (bx:=bx) (st:=st') hw _ h2;have h3:=CZ h2;obtain⟨g1,g2,g3⟩:=CM h3;have hl:=congrArg List.length h;rw[WS,WC,WC,zXj]at hl;obtain⟨k,hk⟩:∃k,b.length+1=k+1+n2+n1:=⟨b.length-n2-n1,by omega⟩;rw[hk,p2,q2];unfold J3;rw[if_neg (by omega),AV h3,AV h3,if_neg (by decide),if_neg (by decide)];have ht:OZ b bx (a+u.length+w.length) st'=(((none,a+u.length+w.length),st'),true):=by
  unfold OZ;rw[Uo (by decide) h3];dsimp only;rw[AV h3,AV h3,if_neg (by decide)]
  rfl
 rw[ht];exact⟨rfl,rfl⟩
theorem Vcp {b t:zAa}{a n:Nat}{c:UInt8}(rest:zAa)(h:b.drop a=Ct (n:Int)++c::t)(hc:Dm.contains c=false)(h4:(CA n).length<=400):Fp b a false rest=(none,a+(Ct (n:Int)).length):=by
 have e:Ct (n:Int)=CA n:=by unfold Ct;rw[if_neg (by omega)];rfl
 rw[e]at h⊢;unfold Fp P0;have:=VaS rest h (K3 _) hc h4 (PQ n) GX 402 0 (WZ _) (by omega);rw[Nat.add_zero]at this;simp only[Xw,WB,if_false];exact this
theorem V0 {b rule t:zAa}{f:Nat}{c:UInt8}(hc:LM c=false)(h:b.drop f=rule++c::t)(hs:rule.all LM=true)(tW:rule.length<=40):∀n k,k<=rule.length->rule.length-k<=n->Id b f n (f+k)=f+rule.length
 |0,k,h1,h2=>by
  have:k=rule.length:=by omega
  rw[this];rfl
 |n+1,k,h1,h2=>by
  have dP:b[f+k]? = (rule++c::t)[k]? := by rw[<-h,Xh]
  by_cases hk:k<rule.length;rw[W8 hk,W4 hk]at dP;have ho:onB b f (f+k)=true:=(by unfold onB;rw[dP];dsimp only;rw[WO]at hs;rw[hs _ (WI hk),zXc (by omega)];rfl);rw[Id,ho,if_pos rfl,Xc];exact V0 hc h hs tW n (k+1) hk (by omega);have e:k=rule.length:=(by omega);subst e;have dP:b[f+rule.length]? = some c:=(by rw[dP];simp);have ho:onB b f (f+rule.length)=false:=(by unfold onB;rw[dP];dsimp only;rw[hc,YJ]);rw[Id,ho];rfl
def Vh5 (w h:Nat)(rule:zAa)(cr:Bool):zAa:=szA++(Ct (w:Int)++(szB++(Ct (h:Int)++(szC++(rule++Vjk cr)))))
theorem Ve7 {b t rule:zAa}{a w h:Nat}{cr:Bool}(hd:b.drop a=Vh5 w h rule cr++t)(hr:Hs rule=true)(hw:(CA w).length<=400)(hh:(CA h).length<=400)(st:LSt):Vh6 b a st=((none,a+(Vh5 w h rule cr).length),{st with law:=rule}):=by
 unfold Hs at hr;rw[WG,zXe]at hr;obtain⟨hs,hr1,tH⟩:=hr;obtain⟨e,u,he,heu⟩:∃e u,Vjk cr++t=e::u/\LM e=false:=by cases cr;exact⟨10,t,rfl,by decide⟩;exact⟨13,10::t,rfl,by decide⟩
 have h0:b.drop a=szA++(Ct (w:Int)++44::([32,121,32,61,32]++(Ct (h:Int)++44::([32,114,117,108,101,32,61,32]++(rule++(Vjk cr++t)))))):=by rw[hd];simp[Vh5,szB,szC]
 have m1:=Po h0 UF;have h1:=CZ h0;have i1:=Vcp VhG h1 (by decide) hw;have h2:b.drop (a+szA.length+(Ct (w:Int)).length)=szB++(Ct (h:Int)++44::([32,114,117,108,101,32,61,32]++(rule++(Vjk cr++t)))):=CZ h1;have m2:=Po h2 UE;have h3:=CZ h2;have i2:=Vcp VhF h3 (by decide) hh;have h4:b.drop (a+szA.length+(Ct (w:Int)).length+szB.length+(Ct (h:Int)).length)=szC++(rule++(Vjk cr++t)):=CZ h3;have m3:=Po h4 [97,10,33];have h5:=CZ h4;have yY:=h5;rw[he]at yY;have aC:=V0 heu yY hs tH 40 0 (WZ _) (by omega);rw[Nat.add_zero]at aC;have h6:=CZ h5;have vW:=VgE h5;have aG:Ik b (a+szA.length+(Ct (w:Int)).length+szB.length+(Ct (h:Int)).length+szC.length+rule.length) [33]=(none,a+szA.length+(Ct (w:Int)).length+szB.length+(Ct (h:Int)).length+szC.length+rule.length+(Vjk cr).length):=by have hne:=Ui h6 (by cases cr<;>simp[Vjk]);unfold Ik;rw[if_neg (by omega)];cases cr;exact Vg2 h6 [33];exact VcM h6 [33]
 have zY:Qx b (a+szA.length+(Ct (w:Int)).length+szB.length+(Ct (h:Int)).length+szC.length) [10,33]=(none,a+szA.length+(Ct (w:Int)).length+szB.length+(Ct (h:Int)).length+szC.length+rule.length):=by unfold Qx;rw[aC,if_neg (by omega)]
 unfold Vh6;rw[m1];dsimp only;rw[i1];dsimp only;rw[m2];dsimp only;rw[i2];dsimp only;rw[m3];dsimp only;rw[zY];dsimp only;rw[aG,vW]
 congr 2
 simp only[Vh5,WC];omega
def Tw (X Y:Int):zAa:=KQ++(Kq++(Ct X++([44]++(Ct Y++[10]))))
theorem Vit {b t:zAa}{a:Nat}{X Y:Int}(h:b.drop a=Tw X Y++t)(hX:(CA X.natAbs).length<=400)(hY:(CA Y.natAbs).length<=400)(st:LSt):Pc b a st=((none,a+(Tw X Y).length),{st with x:=X,y:=Y}):=by
 have h0:b.drop a=KQ++(Kq++(Ct X++44::(Ct Y++10::t))):=by rw[h];simp[Tw]
 have mX:¬cpN (b.drop a) KQ<7:=by rw[h0,Vbv];decide
 have h1:b.drop (a+7)=Kq++(Ct X++44::(Ct Y++10::t)):=CZ h0;have m1:=Po h1 ([48,44,48,10]++Ck);have h2:=CZ h1;have i1:=VcT ([44,48,10]++Ck) h2 (by decide) hX;have h3:=CZ h2;have m2:=Vi4 h3 ([48,10]++Ck);have h4:=(CM h3).2.2;have i2:=VcT (10::Ck) h4 (by decide) hY;have h5:=CZ h4;have hx:=VgE h2;have hy:=VgE h4;have hlt:=(CM h5).1;have aG:Ik b (a+7+Kq.length+(Ct X).length+1+(Ct Y).length) Ck=(none,a+7+Kq.length+(Ct X).length+1+(Ct Y).length+1):=by unfold Ik;rw[if_neg (by omega)];exact Vg2 h5 Ck
 unfold Pc;rw[if_neg mX,m1];dsimp only;rw[i1];dsimp only;rw[m2];dsimp only;rw[i2];dsimp only;rw[aG,hx,hy,(Tz hX).2,(Tz hY).2]
 congr 2
 simp[Tw,KQ,Kq];omega
theorem ViU {b t rule:zAa}{w h:Nat}{X Y:Int}(hd:b=Tw X Y++(Vh5 w h rule false++t))(hX:(CA X.natAbs).length<=400)(hY:(CA Y.natAbs).length<=400)(hr:Hs rule=true)(hw:(CA w).length<=400)(hh:(CA h).length<=400)(st:LSt):∃c,ViT b 0 st=((none,c),{st with x:=X,y:=Y,law:=rule})/\b.drop c=t:=by
 have h0:b.drop 0=Tw X Y++(Vh5 w h rule false++t):=hd;have r1:=Vit h0 hX hY st;have h1:=CZ h0;have hlt:=Ui h0 (by simp[Tw,KQ]);have r2:=Ve7 h1 hr hw hh {st with x:=X,y:=Y};have h2:=CZ h1;have s1:Bc b 0 [35]=true:=by
  have:b.drop 0=35::([67,88,82,76,69,32]++(Kq++(Ct X++([44]++(Ct Y++[10]))))++(Vh5 w h rule false++t)):=by rw[h0];rfl
  rw[AV this];decide
 have s2:Bc b (0+(Tw X Y).length) [35]=false:=by
  have:b.drop (0+(Tw X Y).length)=120::([32,61,32]++(Ct (w:Int)++(szB++(Ct (h:Int)++(szC++(rule++Vjk false)))))++t):=by rw[h1];rfl
  rw[AV this];decide
 obtain⟨m,hm⟩:∃m,b.length+1=m+1+1:=⟨b.length-1,by omega⟩;refine⟨_,?_,h2⟩;unfold ViT;rw[hm];unfold Ot;rw[s1,if_pos rfl,r1];dsimp only;unfold Ot;rw[s2,if_neg (by decide)];dsimp only;rw[r2]
theorem Vhd {b:zAa}{bx N:Int}(hf:K0 bx N=true){l:List (zAa)}{st st':LSt}{c:Nat}(hh:ViT b 0 QD=((none,c),st))(hT:Tks bx l st st'){u w v:zAa}(hs:Iz l u)(hw:Sep w)(h:b.drop c=u++(w++33::v))
  (h0:(CU st'.cells).2=0)(hn:((CU st'.cells).1.length:Int)<=N):Jb b bx N=((st'.law,(CU st'.cells).1),0,0):=by
 obtain⟨t1,t2⟩:=Va4 hT hs hw h;unfold Jb OQ;rw[if_pos hf,hh];dsimp only;generalize J3 b bx (b.length+1) c st=M at t1 t2;obtain⟨⟨er,d⟩,st2⟩:=M;dsimp only at t1 t2;subst t1 t2;dsimp only;rw[if_pos (by simp;omega)]
def Ix (rec:Int->Int->Int->List Cl)(v:Nat)(x:Nd)(a b:Int)(k:Nat):List Cl:=
 if 1<x.lv then rec (x.kid k) (qa v a k) (qb v b k)else if 0<x.kid k then [⟨qa v a k,qb v b k,UInt8.ofNat (x.kid k).toNat⟩]else []
def FU (L:List Nd):Nat->Int->Int->Int->List Cl
 |0,_,_,_=>[]
 |v+1,n,x,y=>if n=0 then []else (List.range 4).flatMap λk=>Ix (FU L v) (v+1) (A8 L n) x y k
theorem Im (L:List Nd)(v:Nat)(x y:Int):FU L v 0 x y=[]:=by cases v<;>simp[FU]
def FK (L:List Nd):Int:=-(2^((Bq L).toNat-1))
def HP (L:List Nd):List Cl:=FU L (Bq L).toNat L.length (FK L) (FK L)
def Dr:Nat->QT->Int->Int->List Cl
 |0,_,_,_=>[]
 |v+1,t,x,y=>(List.range 4).flatMap λk=>if v=0 then (if 0<t.s k then [⟨qa 1 x k,qb 1 y k,UInt8.ofNat (t.s k).toNat⟩]else [])else Dr v (t.q k) (qa (v+1) x k) (qb (v+1) y k)
theorem Ju:∀(v:Nat)(x y:Int),Dr v .nil x y=[]
 |0,_,_=>rfl
 |v+1,x,y=>by
  unfold Dr;rw[List.flatMap_eq_nil_iff];intro k _;split
  ·rfl
  exact Ju v _ _
theorem PV {L:List Nd}(hl:AF L=true):∀(v n:Nat)(x y:Int),Lv L v n->FU L v (n:Int) x y=Dr v (sem L v n) x y
 |0,n,x,y,h=>rfl
 |v+1,n,x,y,h=>by
  rcases XN n with h0 | h0;subst h0;rw[Gb,Ju];exact Im L _ x y
  ·obtain⟨aJ,_⟩:=h.num h0 hl;unfold FU Dr;rw[if_neg (by omega)];have key:∀k∈List.range 4,Ix (FU L v) (v+1) (A8 L (n:Int)) x y k=(if v=0 then (if 0<(sem L (v+1) n).s k then [⟨qa 1 x k,qb 1 y k,UInt8.ofNat ((sem L (v+1) n).s k).toNat⟩]else [])else Dr v ((sem L (v+1) n).q k) (qa (v+1) x k) (qb (v+1) y k)):=(by intro k hk;have bX:k<4:=(by simpa using hk);unfold Ix;by_cases hv:v=0;subst hv;have h1:¬1<(A8 L (n:Int)).lv:=(by omega);rw[if_neg h1,if_pos rfl,VbU hl h0 h h1 bX];have h1:1<(A8 L (n:Int)).lv:=(by omega);obtain⟨k1,k2,k3⟩:=Lv.kid hl h0 h h1 bX;rw[if_pos h1,if_neg hv,Ta hl h0 h h1 bX,<-PV hl v _ _ _ k1,Yw k3]);have:∀(l:zAb)(f g:Nat->List Cl),(∀k∈l,f k=g k)->l.flatMap f=l.flatMap g:=λl f g h=>by
    induction l with
    |nil=>rfl
    |cons a l ih=>rw[YZ,YZ,h a (by simp),ih λk hk=>h k (by simp[hk])]
   exact this _ _ _ key
theorem VlU {α:Type}(f:Nat->List α):(List.range 4).flatMap f=f 0++(f 1++(f 2++f 3)):=by rw[show List.range 4=[0,1,2,3] from rfl];simp
theorem ViS {t:QT}(h:P3 t=true){k j:Nat}(hk:k<4)(hj:j<4)(hne:j≠3-k)(v:Nat)(x y:Int):Dr v ((t.q k).q j) x y=[]:=by rw[(Vbh h hk hj hne).1,Ju]
theorem Pe {t:QT}(h:P3 t=true){k:Nat}(hk:k<4)(v:Nat)(x y:Int):Dr (v+1) (t.q k) x y=if v=0 then (if 0<(t.q k).s (3-k)then [⟨qa 1 x (3-k),qb 1 y (3-k),UInt8.ofNat ((t.q k).s (3-k)).toNat⟩]else [])else Dr v ((t.q k).q (3-k)) (qa (v+1) x (3-k)) (qb (v+1) y (3-k)):=by
 have hs:∀j,j<4->j≠3-k->(t.q k).s j=0:=λj hj hne=>(Vbh h hk hj hne).2;have hq:∀j,j<4->j≠3-k->∀X Y,Dr v ((t.q k).q j) X Y=[]:=λj hj hne X Y=>ViS h hk hj hne v X Y;show(List.range 4).flatMap _=_;rw[VlU];by_cases hv:v=0
 ·subst hv;simp only[if_true]
  match k,hk with
  |0,_=>simp[hs 0 (by omega) (by omega),hs 1 (by omega) (by omega),hs 2 (by omega) (by omega)]
  |1,_=>simp[hs 0 (by omega) (by omega),hs 1 (by omega) (by omega),hs 3 (by omega) (by omega)]
  |2,_=>simp[hs 0 (by omega) (by omega),hs 3 (by omega) (by omega),hs 2 (by omega) (by omega)]
  |3,_=>simp[hs 3 (by omega) (by omega),hs 1 (by omega) (by omega),hs 2 (by omega) (by omega)]
 ·simp only[if_neg hv]
  match k,hk with
  |0,_=>simp[hq 0 (by omega) (by omega),hq 1 (by omega) (by omega),hq 2 (by omega) (by omega)]
  |1,_=>simp[hq 0 (by omega) (by omega),hq 1 (by omega) (by omega),hq 3 (by omega) (by omega)]
  |2,_=>simp[hq 0 (by omega) (by omega),hq 3 (by omega) (by omega),hq 2 (by omega) (by omega)]
  |3,_=>simp[hq 3 (by omega) (by omega),hq 1 (by omega) (by omega),hq 2 (by omega) (by omega)]
theorem I4 {v k:Nat}(hk:k<4)(x:Int):qa (v+1) (qa (v+2) x k) (3-k)=qa (v+1) (x+2^v) k/\qb (v+1) (qb (v+2) x k) (3-k)=qb (v+1) (x+2^v) k:=by
 have e:(2:Int)^(v+1)=2^v*2:=Ya _ _;unfold qa qb;simp only[show v+2-1=v+1 from rfl,WQ,e];generalize (2:Int)^v=p
 match k,hk with
 |0,_=>simp
 |1,_=>simp;omega
 |2,_=>simp;omega
 |3,_=>simp;omega
theorem Vb0 {v:Nat}{t:QT}(h:P3 t=true)(x y:Int):Dr (v+2) t x y=Dr (v+1) (Iv (v+2) t) (x+2^v) (y+2^v):=by
 have e1:Dr (v+2) t x y=(List.range 4).flatMap λk=>Dr (v+1) (t.q k) (qa (v+2) x k) (qb (v+2) y k):=by show(List.range 4).flatMap _=_;simp only[show ¬v+1=0 from by omega,if_false]
 rw[e1,VlU,Pe h (by omega),Pe h (by omega),Pe h (by omega),Pe h (by omega)];show _=(List.range 4).flatMap _;rw[VlU];by_cases hv:v=0
 ·subst hv;simp only[if_true];rw[(I4 (v:=0) (show 0<4 by omega) x).1,(I4 (v:=0) (show 0<4 by omega) y).2,(I4 (v:=0) (show 1<4 by omega) x).1,(I4 (v:=0) (show 1<4 by omega) y).2,
   (I4 (v:=0) (show 2<4 by omega) x).1,(I4 (v:=0) (show 2<4 by omega) y).2,(I4 (v:=0) (show 3<4 by omega) x).1,(I4 (v:=0) (show 3<4 by omega) y).2]
  rfl
 ·simp only[if_neg hv];rw[(I4 (v:=v) (show 0<4 by omega) x).1,(I4 (v:=v) (show 0<4 by omega) y).2,(I4 (v:=v) (show 1<4 by omega) x).1,(I4 (v:=v) (show 1<4 by omega) y).2,
   (I4 (v:=v) (show 2<4 by omega) x).1,(I4 (v:=v) (show 2<4 by omega) y).2,(I4 (v:=v) (show 3<4 by omega) x).1,(I4 (v:=v) (show 3<4 by omega) y).2]
  unfold Iv;rw[if_neg (by omega)]
  rfl
def crn (v:Nat):Int:=-(2^(v-1))
theorem Ws:∀(v:Nat)(t:QT),GJ v t->t≠.nil->Dr (Iq v t).1 (Iq v t).2 (crn (Iq v t).1) (crn (Iq v t).1)=Dr v t (crn v) (crn v)
 |0,t,_,_=>rfl
 |v+1,t,hg,hn=>by
  unfold Iq;cases hh:P3 t with
  |false=>rfl
  |true=>
   simp only[if_true];obtain⟨g1,g2⟩:=MR hg hh;rw[Ws v _ g1 g2];obtain⟨u,rfl⟩:∃u,v=u+1:=⟨v-1,by
    rcases hg.kind with h | ⟨h1,h2,_⟩ | ⟨h1,_⟩;exact absurd h hn;simp only[P3,h2,Xw]at hh;cases hh
    ·omega⟩
   rw[Vb0 hh];have e:crn (u+2)+2^u=crn (u+1):=(by unfold crn;have e:(2:Int)^(u+1)=2^u*2:=Ya _ _;simp only[show u+2-1=u+1 from rfl,WQ,e];omega);rw[e]
def Vqd (S:List Cl):Prop:=∀a∈S,∀b∈S,a.x=b.x->a.y=b.y->a=b
theorem sq0 {a b:Int}{c:Cl}(h:F6 0 a b c):c.x=a/\c.y=b:=by unfold F6 at h;simp only[Int.pow_zero]at h;omega
theorem Vem (s:UInt8):UInt8.ofNat ((s.toNat:Int).toNat)=s:=by simp
theorem TQ (d:Cl)(r:List Cl):Gg (d::r)=(d.s.toNat:Int):=rfl
theorem Vl:∀(v:Nat)(x y:Int)(S:List Cl),(∀c∈S,F6 v x y c)->(∀c∈S,c.s≠0)->Vqd S->(S≠[]->1<=v)->∀c,c∈Dr v (G9 v x y S) x y↔c∈S
 |0,x,y,S,h1,h2,h3,h4,c=>by
  have:S=[]:=Classical.byContradiction λh=>by have:=h4 h;omega
  subst this;simp[Dr]
 |v+1,x,y,S,h1,h2,h3,h4,c=>by
  by_cases hS:S=[];subst hS;rw[Vk,Ju]
  ·have sub:∀k,∀d∈Bt (v+1) x y k S,d∈S:=λk d hd=>(Xz.1 hd).1;by_cases hv:v=0
   ·subst hv;have hs:∀k,k<4->(G9 1 x y S).s k=Gg (Bt 1 x y k S):=by
     intro k hk;unfold G9;rw[if_neg hS,if_pos rfl]
     match k,hk with
     |0,_=>rfl
     |1,_=>rfl
     |2,_=>rfl
     |3,_=>rfl
    unfold Dr;rw[Zd];constructor
    ·rintro⟨k,hk,hc⟩;have bX:k<4:=(by simpa using hk);rw[if_pos rfl,hs k bX]at hc;split at hc
     ·rename_i hp;cases hq:Bt 1 x y k S with
      |nil=>rw[hq]at hp;exact absurd hp (by decide)
      |cons d r=>have hd:d∈Bt 1 x y k S:=(by rw[hq];exact Yn);have hdS:=sub k d hd;obtain⟨e1,e2⟩:=sq0 (MA (v:=0) hd);rw[hq,TQ,Vem,WR]at hc;have:c=d:=(by rw[hc,<-e1,<-e2]);rw[this];exact hdS
     cases hc
    ·intro hc;obtain⟨k,hk,cR⟩:=Lc (v:=0) (h1 c hc);refine⟨k,by simpa using hk,?_⟩;rw[if_pos rfl,hs k hk];have yU:c∈Bt 1 x y k S:=Xz.2 ⟨hc,VcB.2 cR⟩;cases hq:Bt 1 x y k S with
     |nil=>rw[hq]at yU;cases yU
     |cons d r=>have hd:d∈Bt 1 x y k S:=(by rw[hq];exact Yn);obtain⟨e1,e2⟩:=sq0 (MA (v:=0) hd);obtain⟨e3,e4⟩:=sq0 cR;have wM:d=c:=h3 d (sub k d hd) c hc (by rw[e1,e3]) (by rw[e2,e4]);subst wM;have hp:(0:Int)<(d.s.toNat:Int):=(by have:=h2 d hc;have:d.s.toNat≠0:=λh=>this (XL.1 (by simpa using h));omega);rw[TQ,if_pos hp,Vem,WR,<-e1,<-e2]
   ·have hq:∀k,k<4->(G9 (v+1) x y S).q k=G9 v (qa (v+1) x k) (qb (v+1) y k) (Bt (v+1) x y k S):=by
     intro k hk
     conv=>lhs;unfold G9
     rw[if_neg hS,if_neg hv]
     match k,hk with
     |0,_=>rfl
     |1,_=>rfl
     |2,_=>rfl
     |3,_=>rfl
    have ih:∀k,∀d,d∈Dr v (G9 v (qa (v+1) x k) (qb (v+1) y k) (Bt (v+1) x y k S)) (qa (v+1) x k) (qb (v+1) y k)↔d∈Bt (v+1) x y k S:=λk=>Vl v _ _ _ (λd hd=>MA hd) (λd hd=>h2 d (sub k d hd)) (λa ha b hb=>h3 a (sub k a ha) b (sub k b hb)) (λ_=>by omega);unfold Dr;rw[Zd];constructor;rintro⟨k,hk,hc⟩;have bX:k<4:=(by simpa using hk);rw[if_neg hv,hq k bX]at hc;exact sub k c ((ih k c).1 hc);intro hc;obtain⟨k,hk,cR⟩:=Lc (h1 c hc);refine⟨k,by simpa using hk,?_⟩;rw[if_neg hv,hq k hk];exact(ih k c).2 (Xz.2 ⟨hc,VcB.2 cR⟩)
theorem VbM {S:List Cl}(h:R0 S):Vqd S:=by intro a ha b hb hx hy;have h1:=(SS h a).1 ha;have h2:=(SS h b).1 hb;have:BI ltC a=BI ltC b:=TY JT (Ij.2 ⟨hx,hy⟩);rw[this,h2]at h1;injection h1 with h1;exact h1.symm
theorem RJ (l:List Cl):R0 (Dx l):=(JI l [] List.Pairwise.nil).1
theorem VT (l:List Cl):R0 (Bo l):=(RJ l).filter _
theorem ViJ {l S:List Cl}(h:R0 S)(hs:∀c∈S,c.s≠0)(hm:∀c,c∈l↔c∈S):Bo l=S:=by
 have e:Dx l=S:=by
  refine O6 JT _ _ (RJ l) h λz=>?_;obtain⟨_,f2⟩:=JI l [] List.Pairwise.nil;show z∈l.foldl Cq []↔_;rw[f2 z,WU];constructor;intro hz;have:=List.mem_of_mem_head? (Option.mem_def.2 hz);exact(hm z).1 (by simpa using(Xz.1 this).1)
  ·intro hz;cases hf:l.reverse.filter (BI ltC z)with
   |nil=>have:z∈l.reverse.filter (BI ltC z):=Xz.2 ⟨by simpa using(hm z).2 hz,MS JT z⟩;rw[hf]at this;cases this
   |cons c r=>have hc:c∈l.reverse.filter (BI ltC z):=(by rw[hf];exact Yn);obtain⟨c1,c2⟩:=Xz.1 hc;obtain⟨e1,e2⟩:=Ij.1 c2;rw[VbM h c ((hm c).1 (by simpa using c1)) z hz e1.symm e2.symm];rfl
 unfold Bo;rw[e,Zt];exact λc hc=>zXc (hs c hc)
theorem Vlr {l m:List Cl}(h:Bo l=Bo m):CU l=CU m:=by unfold CU;rw[h]
theorem Vd2 {l:List Cl}(hv:A9 (Bo l)<=1329):(∀c,c∈HP (CU l).1↔c∈Bo l)/\((CU l).1=[]↔Bo l=[])/\DO (CU l).1=true/\(CU l).2=0:=by
 have hs:∀c∈Bo l,c.s≠0:=λc h=>Kt h;have hg:=OL hs hv;have ho:=VT l;rw[Pj,if_neg (by omega)];have cM:=(Jk (Bo l)).1;have bQ:=Vl (A9 (Bo l)) _ _ (Bo l) (λc hc=>N1 cM (Pw hv c hc)) hs (VbM ho) (λ_=>cM);obtain⟨hr,aG⟩:=Lq hg;refine⟨?_,?_,hr,rfl⟩
 ·by_cases ht:JN (Bo l)=.nil;have e:Ek (A9 (Bo l)) (JN (Bo l))=[]:=(by unfold Ek;rw[if_pos ht]);intro c;dsimp only;rw[e,<-bQ c];have:G9 (A9 (Bo l)) (-(2^(A9 (Bo l)-1))) (-(2^(A9 (Bo l)-1))) (Bo l)=.nil:=ht;rw[this,Ju];unfold HP;simp only[zXk];rw[show(((0:Nat):Int))=0 from rfl,Im]
  ·obtain⟨c1,c2,c3,c4⟩:=aG ht;intro c;have lJ:=Ws _ _ hg ht;rw[<-bQ c];show c∈HP (Ek (A9 (Bo l)) (JN (Bo l)))↔c∈Dr (A9 (Bo l)) (JN (Bo l)) (crn (A9 (Bo l))) (crn (A9 (Bo l)));rw[<-lJ,<-c4];obtain⟨q1,q2⟩:=c3.num c2 c1.lo;generalize Ek (A9 (Bo l)) (JN (Bo l))=Q at c1 c2 c3 c4 q1;have gD:(Bq Q).toNat=(Iq (A9 (Bo l)) (JN (Bo l))).1:=(by unfold Bq;omega);unfold HP FK;rw[gD,PV c1.lo _ _ _ _ c3]
   rfl
 dsimp only;constructor;intro h;by_cases ht:JN (Bo l)=.nil;refine Classical.byContradiction λhne=>?_;obtain⟨w,hw⟩:∃w,A9 (Bo l)=w+1:=⟨A9 (Bo l)-1,by omega⟩;unfold JN at ht;rw[hw]at ht;exact VbJ hne ht;obtain⟨c1,c2,c3,c4⟩:=aG ht;rw[h]at c2;simp at c2;intro h;rw[h];unfold Ek JN;rw[Vk,if_pos rfl]
theorem VlL {v k:Nat}{x y:Int}{c:Cl}(hk:k<4)(h:F6 v (qa (v+1) x k) (qb (v+1) y k) c):F6 (v+1) x y c:=by
 have e:(2:Int)^(v+1)=2^v*2:=Ya _ _;have hp:(0:Int)<2^v:=Yv (by omega);unfold F6 qa qb at *;simp only[WQ,e]at *;generalize (2:Int)^v=p at *
 match k,hk with
 |0,_=>simp at h;omega
 |1,_=>simp at h;omega
 |2,_=>simp at h;omega
 |3,_=>simp at h;omega
theorem ViO {v k j:Nat}{x y:Int}{c:Cl}(hk:k<4)(hj:j<4)(h:F6 v (qa (v+1) x k) (qb (v+1) y k) c)(h2:F6 v (qa (v+1) x j) (qb (v+1) y j) c):k=j:=by
 unfold F6 qa qb at *;simp only[WQ]at *;generalize (2:Int)^v=p at *
 match k,hk,j,hj with
 |0,_,0,_=>rfl
 |1,_,1,_=>rfl
 |2,_,2,_=>rfl
 |3,_,3,_=>rfl
 |0,_,1,_=>simp at h h2;omega
 |0,_,2,_=>simp at h h2;omega
 |0,_,3,_=>simp at h h2;omega
 |1,_,0,_=>simp at h h2;omega
 |1,_,2,_=>simp at h h2;omega
 |1,_,3,_=>simp at h h2;omega
 |2,_,0,_=>simp at h h2;omega
 |2,_,1,_=>simp at h h2;omega
 |2,_,3,_=>simp at h h2;omega
 |3,_,0,_=>simp at h h2;omega
 |3,_,1,_=>simp at h h2;omega
 |3,_,2,_=>simp at h h2;omega
def VjT (v:Nat)(t:QT)(x y:Int)(k:Nat):List Cl:=if v=0 then (if 0<t.s k then [⟨qa 1 x k,qb 1 y k,UInt8.ofNat (t.s k).toNat⟩]else [])else Dr v (t.q k) (qa (v+1) x k) (qb (v+1) y k)
theorem Vav (v:Nat)(t:QT)(x y:Int):Dr (v+1) t x y=(List.range 4).flatMap (VjT v t x y):=rfl
theorem Ro:∀(v:Nat)(t:QT)(x y:Int),∀c∈Dr v t x y,F6 v x y c
 |0,t,x,y,c,h=>by cases h
 |v+1,t,x,y,c,h=>by
  rw[Vav,Zd]at h;obtain⟨k,hk,hc⟩:=h;have bX:k<4:=by simpa using hk
  refine VlL bX ?_;unfold VjT at hc;split at hc
  ·rename_i hv;subst hv;split at hc
   rw[WR]at hc;subst hc;unfold F6;simp;omega;cases hc
  exact Ro v _ _ _ c hc
theorem VdV {L:List Nd}{n:Nat}(hL:L.length<3518437200000)(hl:AF L=true)(hn:n<=L.length):(Jv L n).length<=L.length+1330:=by
 obtain⟨s1,s2,s3⟩:=Qs hl hn;unfold Jv;generalize DW L n=s at s1 s2 s3;obtain⟨M,r⟩:=s;dsimp only at s1 s2 s3⊢;obtain⟨H',D',w',v1,v2,v3,v4,v5⟩:=V9 (L:=M) .no .no 0 0 (by omega) s1 (A8 M (r:Int)).lv.toNat r ((A8 M (r:Int)).lv.toNat+1) [] (List.replicate (M.length+1) 0) (.sl [] .ti) [.c0 (flat cN (List.replicate (M.length+1) 0))]
  s2 (.inr rfl) (Z5 _) (W7 _) (by simp) ⟨.inl ⟨rfl,rfl⟩,rfl⟩ ⟨by simp,by simp,λj dd hj jI=>by have:=Xa hj;rw[Y8]at this;omega⟩
 have:=v4.le;omega
theorem Vcl (l:List Cl)(hl:l.length<=1000000):(CU l).1.length<=l.length*1329+2000:=by
 rw[Sx];unfold Ov;have hS:(Bo l).length<=l.length:=by have h1:(Bo l).length<=(Dx l).length:=XJ _ _;have h2:=(GE (l:=l) l.length (W7 _)).1;rw[WH (W7 _)]at h2;omega
 generalize Bo l=S at hS;split;simp;rename_i hv;have hp:=Q5 (A9 S) [] (-(2^(A9 S-1))) (-(2^(A9 S-1))) S;generalize AS (A9 S) [] (-(2^(A9 S-1))) (-(2^(A9 S-1))) S=p at hp;have h1:S.length*A9 S<=l.length*1329:=YF hS (by omega);simp only[zXk,W9]at hp;split;rename_i ho;simp only[T9,WG,zXe]at ho;have:=VdV (L:=p.1) (n:=p.2) (by omega) ho.1.1 (by omega);show(Jv p.1 p.2).length<=_;omega;simp
theorem Vd4 {most:Int}{l:List RC}(hm:most<=1000000):(FO most l).1.length<=1400000000:=by
 unfold FO;split;simp
 ·rename_i hg;have h1:(l.length:Int)<=most:=by simp only[Kc,X0,not_or,zXe]at hg;omega
  split;have:=Vcl (l.map RC.cl) (by simp;omega);simp only[XB]at this;show(CU (l.map RC.cl)).1.length<=_;omega;simp
theorem VeW {most:Int}{l:List RC}:DO (FO most l).1=true:=by
 unfold FO;split
 ·rfl
 ·split;exact Vae (most:=most)
  ·rfl
theorem ViK {z:Int}{e d:Nat}(he:(2:Nat)^e<10^d)(hd:d≠0)(h1:-(2^e)<=z)(h2:z<2^e):(CA z.natAbs).length<=d:=by
 have h3:z.natAbs<=2^e:=by
  have e':(2:Int)^e=((2^e:Nat):Int):=by rw[Int.natCast_pow];rfl
  rw[e']at h1 h2;generalize (2:Nat)^e=p at h1 h2;omega
 have:=IY d z.natAbs (Xt h3 he);rw[if_neg hd]at this;exact this
theorem Vpx:(2:Nat)^(1329-1)<10^400:=by decide +kernel
theorem VlM {v:Nat}{x y:Int}{c:Cl}(h:F6 (v+1) x y c):F6 v (qa (v+1) x (qk (v+1) (c.x-x) (c.y-y))) (qb (v+1) y (qk (v+1) (c.x-x) (c.y-y))) c /\
   c.x-qa (v+1) x (qk (v+1) (c.x-x) (c.y-y))=qd (v+1) (c.x-x)/\c.y-qb (v+1) y (qk (v+1) (c.x-x) (c.y-y))=qd (v+1) (c.y-y):=by
 obtain⟨h1,h2,h3,h4⟩:=h;have e:(2:Int)^(v+1)=2^v*2:=Ya _ _;have hp:(0:Int)<2^v:=Yv (by omega);unfold F6 qa qb qk qd;simp only[WQ];rw[e]at h2 h4;generalize (2:Int)^v=p at *;by_cases a1:p<=c.x-x;by_cases a2:p<=c.y-y;simp only[a1,a2,if_true];omega;simp only[a1,a2,if_true,if_false];omega;by_cases a2:p<=c.y-y;simp only[a1,a2,if_true,if_false];omega;simp only[a1,a2,if_false];omega
theorem Wu {L:List Nd}(hl:AF L=true){v n k:Nat}{x y:Int}{c:Cl}(h0:0<n)(h:Lv L (v+1) n)(hk:k<4)(hc:c∈Ix (FU L v) (v+1) (A8 L (n:Int)) x y k):F6 v (qa (v+1) x k) (qb (v+1) y k) c:=by
 unfold Ix at hc;split at hc
 rename_i h1;obtain⟨k1,k2,k3⟩:=Lv.kid hl h0 h h1 hk;rw[<-Yw k3,PV hl v _ _ _ k1]at hc;exact Ro v _ _ _ c hc
 ·rename_i h1;have aJ:=(h.num h0 hl).1;have hv:v=0:=by omega
  subst hv;split at hc
  rw[WR]at hc;subst hc;unfold F6;simp;omega;cases hc
theorem JM {L:List Nd}{v n:Nat}{x y:Int}{c:Cl}(h0:0<n):c∈FU L (v+1) (n:Int) x y↔∃k,k<4/\c∈Ix (FU L v) (v+1) (A8 L (n:Int)) x y k:=by unfold FU;rw[if_neg (by omega),Zd];simp only[Ym]
theorem Wt {L:List Nd}(hl:AF L=true):∀(v n:Nat)(x y:Int),Lv L v n->∀c,F6 v x y c ->
  (c∈FU L v (n:Int) x y↔0<P9 L v n (c.x-x) (c.y-y)/\c.s=UInt8.ofNat (P9 L v n (c.x-x) (c.y-y)).toNat)
 |0,n,x,y,h,c,hc=>by constructor;intro h;cases h;rintro⟨h,_⟩;exact absurd h (by show ¬(0:Int)<0;decide)
 |v+1,n,x,y,h,c,hc=>by
  rcases XN n with h0 | h0;subst h0;rw[show((0:Nat):Int)=0 from rfl,Im];unfold P9;rw[if_pos rfl];constructor;intro h;cases h;rintro⟨h,_⟩;exact absurd h (by decide);obtain⟨s1,s2,s3⟩:=VlM hc;have hq:=VhR (v+1) (c.x-x) (c.y-y);have cP:c∈FU L (v+1) (n:Int) x y↔c∈Ix (FU L v) (v+1) (A8 L (n:Int)) x y (qk (v+1) (c.x-x) (c.y-y)):=(by rw[JM h0];constructor;rintro⟨k,hk,hm⟩;have:=ViO hk hq (Wu hl h0 h hk hm) s1;rw[<-this];exact hm;intro hm;exact⟨_,hq,hm⟩);rw[cP];have aJ:=(h.num h0 hl).1;unfold P9 Ix;rw[if_neg (show ¬n=0 by omega)];generalize qk (v+1) (c.x-x) (c.y-y)=k at *;by_cases h1:1<(A8 L (n:Int)).lv;obtain⟨k1,k2,k3⟩:=Lv.kid hl h0 h h1 hq;have ih:=Wt hl v _ _ _ k1 c s1;rw[Yw k3,s2,s3]at ih;rw[if_pos h1,if_neg (by omega)];exact ih;have hv:v=0:=(by omega);subst hv;obtain⟨e1,e2⟩:=sq0 s1;rw[if_neg h1,if_pos (show(A8 L (n:Int)).lv=1 by omega)];by_cases hp:0<(A8 L (n:Int)).kid k;rw[if_pos hp,WR];constructor;intro e;exact⟨hp,by rw[e]⟩;rintro⟨_,e⟩;obtain⟨cx,cy,cs⟩:=c;simp only at e e1 e2;rw[e,e1,e2];rw[if_neg hp];constructor;intro h;cases h;rintro⟨h,_⟩;exact absurd h hp
structure Vo1 (nf:Nat->Nat)(D:Nat->Int->Int->Cl->Int):Prop where
 lt:∀j,nf j<4
 all:∀k,k<4->∃j,j<4/\nf j=k/\∀v x y c,D (v+1) x y c=(if 1<j then 2^v else 0)+D v (qa (v+1) x k) (qb (v+1) y k) c
 one:∀v x y c,F6 v x y c->0<=D v x y c
theorem HU (v:Nat):(2:Int)^(v+1)=2^v+2^v:=by rw[Ya];omega
theorem Vpe:Vo1 nfW λ_ x _ c=>c.x-x:=⟨MG,λk hk=>by
 match k,hk with
 |0,_=>exact⟨0,by decide,rfl,λv x y c=>by simp[qa]⟩
 |1,_=>exact⟨2,by decide,rfl,λv x y c=>by simp[qa];omega⟩
 |2,_=>exact⟨1,by decide,rfl,λv x y c=>by simp[qa]⟩
 |3,_=>exact⟨3,by decide,rfl,λv x y c=>by simp[qa];omega⟩,λv x y c h=>by have:=h.1;omega⟩
theorem Vph:Vo1 nfE λv x _ c=>x+2^v-1-c.x:=⟨Q8,λk hk=>by
 match k,hk with
 |0,_=>exact⟨2,by decide,rfl,λv x y c=>by simp[qa,HU];omega⟩
 |1,_=>exact⟨0,by decide,rfl,λv x y c=>by simp[qa,HU];omega⟩
 |2,_=>exact⟨3,by decide,rfl,λv x y c=>by simp[qa,HU];omega⟩
 |3,_=>exact⟨1,by decide,rfl,λv x y c=>by simp[qa,HU];omega⟩,λv x y c h=>by have:=h.2.1;omega⟩
theorem Vpg:Vo1 nfN λ_ _ y c=>c.y-y:=⟨MH,λk hk=>by
 match k,hk with
 |0,_=>exact⟨0,by decide,rfl,λv x y c=>by simp[qb]⟩
 |1,_=>exact⟨1,by decide,rfl,λv x y c=>by simp[qb]⟩
 |2,_=>exact⟨2,by decide,rfl,λv x y c=>by simp[qb];omega⟩
 |3,_=>exact⟨3,by decide,rfl,λv x y c=>by simp[qb];omega⟩,λv x y c h=>by have:=h.2.2.1;omega⟩
theorem Vpf:Vo1 nfS λv _ y c=>y+2^v-1-c.y:=⟨Q7,λk hk=>by
 match k,hk with
 |0,_=>exact⟨2,by decide,rfl,λv x y c=>by simp[qb,HU];omega⟩
 |1,_=>exact⟨3,by decide,rfl,λv x y c=>by simp[qb,HU];omega⟩
 |2,_=>exact⟨0,by decide,rfl,λv x y c=>by simp[qb,HU];omega⟩
 |3,_=>exact⟨1,by decide,rfl,λv x y c=>by simp[qb,HU];omega⟩,λv x y c h=>by have:=h.2.2.2;omega⟩
theorem NS (nf:Nat->Nat)(L:List Nd):∀(d i:Nat),i+d=L.length->∀j,j<=i->(BX nf (L.take i)).getD j none=(BX nf L).getD j none
 |0,i,h,j,hj=>by rw[WH (by omega)]
 |d+1,i,h,j,hj=>by
  rw[<-NS nf L d (i+1) (by omega) j (by omega),HN nf L (show i<L.length by omega)];have hlen:(BX nf (L.take i)).length=i+1:=by rw[FJ];simp;omega
  simp only[W6];rw[W8 (by omega)]
theorem Wn (nf:Nat->Nat){L:List Nd}{m:Nat}(hm:m<L.length):(BX nf L).getD (m+1) none=(CJ nf (BX nf (L.take m)) L[m] 4).2:=by
 have hlen:(BX nf (L.take m)).length=m+1:=by rw[FJ];simp;omega
 rw[<-NS nf L (L.length-(m+1)) (m+1) (by omega) (m+1) (W7 _),HN nf L hm,W6,WX (by omega),hlen];simp
theorem Jt {nf:Nat->Nat}{D:Nat->Int->Int->Cl->Int}(hs:Vo1 nf D){L:List Nd}(hl:AF L=true):∀(v n:Nat)(x y:Int),Lv L v n->∀c,c∈FU L v (n:Int) x y ->
  bo ((BX nf L).getD n none)<=D v x y c
 |0,n,x,y,h,c,hc=>by cases hc
 |v+1,n,x,y,h,c,hc=>by rcases XN n with h0 | h0;subst h0;rw[show((0:Nat):Int)=0 from rfl,Im]at hc;cases hc;obtain⟨k,hk,hm⟩:=(JM h0).1 hc;have cR:=Wu hl h0 h hk hm;obtain⟨j,hj,jT,hD⟩:=hs.all k hk;have aJ:=(h.num h0 hl).1;obtain⟨m,rfl⟩:∃m,n=m+1:=⟨n-1,by omega⟩;have nV:m<L.length:=h.1;have dS:A8 L ((m+1:Nat):Int)=L[m]:=Bd nV;rw[Wn nf nV,hD];have aZ:L[m].kid (nf j)≠0:=(by rw[jT];intro e;unfold Ix at hm;rw[dS,e,Im]at hm;simp at hm);have hle:=(PN (nf:=nf) (E:=BX nf (L.take m)) (x:=L[m]) 4 (W7 _) j hj aZ).2;refine Int.le_trans hle ?_;unfold Dd;rw[dS]at aJ;rw[jT,show L[m].lv.toNat-1=v by omega];unfold Ix at hm;by_cases h1:1<L[m].lv;obtain⟨k1,k2,k3⟩:=Lv.kid hl h0 h (by rw[dS];exact h1) hk;rw[dS]at k1 k2 k3;rw[dS,if_pos h1,<-Yw k3]at hm;have ih:=Jt hs hl v _ _ _ k1 c hm;rw[if_pos h1,NS nf L (L.length-m) m (by omega) _ (by omega)];omega;rw[if_neg h1];have:=hs.one _ _ _ _ cR;omega
theorem VgQ {L:List Nd}(hl:AF L=true)(h0:L≠[]):∀c∈HP L,bxX L<=c.x/\c.x<bxX L+bxW L/\bxY L<=c.y/\c.y<bxY L+bxH L:=by intro c hc;unfold HP at hc;have hLv:Lv L (Bq L).toNat L.length:=⟨W7 _,.inr rfl⟩;have w:=Jt Vpe hl _ _ _ _ hLv c hc;have e:=Jt Vph hl _ _ _ _ hLv c hc;have n:=Jt Vpg hl _ _ _ _ hLv c hc;have s:=Jt Vpf hl _ _ _ _ hLv c hc;unfold bxX bxY bxW bxH G6;unfold FK at w e n s;generalize (2:Int)^(Bq L).toNat=p at *;generalize (2:Int)^((Bq L).toNat-1)=q at *;omega
theorem Vl1 {L:List Nd}(hl:AF L=true)(h0:L≠[])(c:Cl):c∈HP L↔0<Sc L c.x c.y/\c.s=UInt8.ofNat (Sc L c.x c.y).toNat:=by
 have hLv:Lv L (Bq L).toNat L.length:=⟨W7 _,.inr rfl⟩;have hlen:0<L.length:=Xd.2 h0;have ht:1<=(Bq L).toNat:=by have h1:=(AQ hl (show L.length-1<L.length by omega)).1;unfold Bq;rw[E7 (n:=L.length-1) (by omega) (by omega)];omega
 have cR:F6 (Bq L).toNat (FK L) (FK L) c↔(inZ (Bq L).toNat c.x&&inZ (Bq L).toNat c.y)=true:=by obtain⟨w,hw⟩:∃w,(Bq L).toNat=w+1:=⟨(Bq L).toNat-1,by omega⟩;unfold F6 inZ FK;rw[hw];simp only[WQ,HU,WG,zXe];generalize (2:Int)^w=p;omega
 unfold Sc;rw[if_neg h0];by_cases hc:F6 (Bq L).toNat (FK L) (FK L) c;rw[if_pos (cR.1 hc)];have:=Wt hl _ _ _ _ hLv c hc;unfold FK at this;rw[Int.sub_neg,Int.sub_neg]at this;exact this;rw[if_neg (λh=>hc (cR.2 h))];constructor;intro h;unfold HP at h;rw[PV hl _ _ _ _ hLv]at h;exact absurd (Ro _ _ _ _ c h) hc;rintro⟨h,_⟩;exact absurd h (by decide)
theorem Vf:∀(n:Nat)(r:zAa)(i:Nat)(v:UInt8),r.length=n->r[i]? = some v->v≠0->i<D4 r
 |0,r,i,v,hn,h,_=>by rw[WM hn]at h;simp at h
 |n+1,r,i,v,hn,h,hv=>by
  obtain⟨q,d,rfl⟩:∃q d,r=q++[d]:=by rcases Zn r with e | ⟨q,d,e⟩;rw[e]at hn;simp at hn;exact⟨q,d,by rw[e,Zo]⟩
  have hq:q.length=n:=by simpa using hn
  have hi:=(W5.1 h).1;simp at hi;rw[O5];by_cases e:i<q.length;rw[W8 e]at h;have:=Vf n q i v hq h hv;split;exact this;omega;have e':i=q.length:=(by omega);subst e';simp at h;subst h;rw[if_neg hv];omega
theorem Vmt {L:List Nd}(hl:AF L=true):(CA (bx L bxX).natAbs).length<=400/\(CA (bx L bxY).natAbs).length<=400:=by
 unfold bx;by_cases h0:L=[]
 ·rw[if_pos h0,if_pos h0];have:(CA (0:Int).natAbs).length<=400:=by rw[show(0:Int).natAbs=0 from rfl,HO (by omega)];simp
  exact⟨this,this⟩
 ·rw[if_neg h0,if_neg h0];have hlen:0<L.length:=Xd.2 h0;have hm:L.length-1<L.length:=by omega
  have ht:Bq L=L[L.length-1].lv:=by unfold Bq;rw[E7 (n:=L.length-1) (by omega) hm]
  obtain⟨g1,g2,_⟩:=AQ hl hm;rw[<-ht]at g1 g2;have hw:=HM MG hl hlen;have hn:=HM MH hl hlen;have key:∀z:Int,0<=z/\z<2^(Bq L).toNat->(CA (-(2^((Bq L).toNat-1))+z).natAbs).length<=400:=by intro z hz;obtain⟨w,hw⟩:∃w,(Bq L).toNat=w+1:=⟨(Bq L).toNat-1,by omega⟩;rw[hw]at hz⊢;have hp:=Vpx;have hle:w<=1329-1:=(by omega);revert hp hle;generalize 1329-1=q;intro hp hle;have h2:=Vfq hle;rw[HU]at hz;rw[WQ];exact ViK hp (by decide) (by omega) (by omega)
  exact⟨key _ hw,key _ hn⟩
theorem SD {z:Int}(h:(CA z.natAbs).length<=400):(Ct z).length<=401:=by unfold Ct;split;rw[zXj];omega;omega
theorem Uh {nf:Nat->Nat}{E:List (Option Int)}{x:Nd}:∀n,(∃j,j<n/\x.kid (nf j)≠0)->∃j,j<n/\x.kid (nf j)≠0/\bo (CJ nf E x n).2=Dd nf E x j
 |0,⟨j,h,_⟩=>by omega
 |n+1,⟨j,h,hk⟩=>by
  unfold CJ;by_cases h0:x.kid (nf n)=0
  ·rw[if_pos h0];obtain⟨i,i1,i2,i3⟩:=Uh n ⟨j,by
    by_cases e:j=n;subst e;exact absurd h0 hk
    ·omega,hk⟩
   exact⟨i,by omega,i2,i3⟩
  rw[if_neg h0];by_cases hc:(CJ nf E x n).1=false\/Dd nf E x n<bo (CJ nf E x n).2;rw[if_pos hc];exact⟨n,by omega,h0,by rw[K1]⟩;rw[if_neg hc];by_cases aD:∃i,i<n/\x.kid (nf i)≠0;obtain⟨i,i1,i2,i3⟩:=Uh (E:=E) n aD;exact⟨i,by omega,i2,i3⟩;have:=Lj (nf:=nf) (E:=E) (x:=x) n λi hi=>Classical.byContradiction λhh=>aD ⟨i,hi,hh⟩;rw[this]at hc;exact absurd (.inl rfl) hc
theorem VgP {L:List Nd}(hc:F8 L){m:Nat}(hm:m<L.length):∃k,k<4/\L[m].kid k≠0:=by
 have h:=hc.ne (m+1) (by omega) hm;have e:L=(L.take m++[L[m]])++L.drop (m+1):=by rw[<-WF hm,Xk]
 obtain⟨s,hs⟩:=VcP (L.drop (m+1)) (L.take m++[L[m]]);rw[<-e]at hs;have hl:(A3 (L.take m)).length=m+1:=by rw[CY];simp;omega
 rw[hs,HL,W6,WD,WX (by omega),hl]at h;simp only[Xi,List.cons_append,List.nil_append,zXh,Option.getD_some]at h;unfold Md at h;refine Classical.byContradiction λhn=>?_;have:∀k,k<4->L[m].kid k=0:=λk hk=>Classical.byContradiction λhh=>hn ⟨k,hk,hh⟩;rw[XR]at h;obtain⟨k,hk,hh⟩:=h;have bX:k<4:=by simpa using hk
 rw[this k bX]at hh;simp at hh
theorem Vf9 {j:Nat}(h:j<4):nfN j=j:=by
 match j,h with
 |0,_=>rfl
 |1,_=>rfl
 |2,_=>rfl
 |3,_=>rfl
theorem Vcm {L:List Nd}(hc:F8 L):∀(v n:Nat)(x y:Int),Lv L v n->0<n->∃c,c∈FU L v (n:Int) x y/\c.y-y=bo ((BX nfN L).getD n none)
 |0,n,x,y,h,h0=>by have:=(h.num h0 hc.lo).1;have:=(h.num h0 hc.lo).2;omega
 |v+1,n,x,y,h,h0=>by
  have hl:=hc.lo;have aJ:=(h.num h0 hl).1;obtain⟨m,rfl⟩:∃m,n=m+1:=⟨n-1,by omega⟩;have nV:m<L.length:=h.1;have dS:A8 L ((m+1:Nat):Int)=L[m]:=Bd nV;rw[dS]at aJ;obtain⟨k,bX,jS⟩:=VgP hc nV;obtain⟨j,hj,hjn,hje⟩:=Uh (nf:=nfN) (E:=BX nfN (L.take m)) (x:=L[m]) 4 ⟨k,bX,by rw[Vf9 bX];exact jS⟩;rw[Vf9 hj]at hjn;rw[Wn nfN nV,hje];unfold Dd;rw[Vf9 hj,show L[m].lv.toNat-1=v by omega];by_cases h1:1<L[m].lv;obtain⟨k1,k2,k3⟩:=Lv.kid hl h0 h (by rw[dS];exact h1) hj;rw[dS]at k1 k2 k3;obtain⟨c,c1,c2⟩:=Vcm hc v _ (qa (v+1) x j) (qb (v+1) y j) k1 (by omega);rw[Yw k3]at c1;refine⟨c,(JM h0).2 ⟨j,hj,?_⟩,?_⟩;unfold Ix;rw[dS,if_pos h1];exact c1;rw[if_pos h1,NS nfN L (L.length-m) m (by omega) _ (by omega),<-c2];unfold qb;rw[WQ];split<;>omega
  have hv:v=0:=(by omega);subst hv;have hp:0<L[m].kid j:=(by have:=((AQ hl nV).2.2 j hj).1;omega);refine⟨⟨qa 1 x j,qb 1 y j,UInt8.ofNat (L[m].kid j).toNat⟩,(JM h0).2 ⟨j,hj,?_⟩,?_⟩;unfold Ix;rw[dS,if_neg h1,if_pos hp];exact WR.2 rfl;rw[if_neg h1];unfold qb;dsimp only;rw[show(2:Int)^(1-1)=2^0 from rfl];split<;>omega
theorem Vd1 {l:List Cl}(hv:A9 (Bo l)<=1329)(hn:(CU l).1≠[]):F8 (CU l).1:=by have hs:∀c∈Bo l,c.s≠0:=λc h=>Kt h;have hg:=OL hs hv;rw[Pj,if_neg (by omega)]at hn⊢;by_cases ht:JN (Bo l)=.nil;exact absurd (by unfold Ek;rw[if_pos ht]) hn;exact((Lq hg).2 ht).1
theorem QI {rows:List (zAa)}{X Y:Int}{f:Nat}{c:Cl}:∀i,i<=rows.length->(c∈Kv rows X Y f i↔∃(j k:Nat)(r:zAa)(v:UInt8),f<=j/\j<i/\rows[j]? = some r/\r[k]? = some v/\v≠0/\c=⟨X+k,Y+((j-f:Nat):Int),v⟩)
 |0,_=>by constructor;intro h;cases h;rintro⟨j,k,r,v,_,h,_⟩;omega
 |i+1,hi=>by
  have ih:=QI (rows:=rows) (X:=X) (Y:=Y) (f:=f) (c:=c) i (by omega);have hg:rows[i]? = some (rows.getD i []):=by rw[W6,W4 (show i<rows.length by omega)];rfl
  unfold Kv;rw[WT,ih];constructor
  ·rintro (⟨j,k,r,v,h1,h2,h3⟩ | h);exact⟨j,k,r,v,h1,by omega,h3⟩
   ·split at h
    cases h;rename_i hf;obtain⟨k,v,g1,g2,g3⟩:=(Th _ _).1 h;exact⟨i,k,_,v,by omega,by omega,hg,g1,g2,g3⟩
  rintro⟨j,k,r,v,h1,h2,h3,h4,h5,h6⟩;by_cases e:j=i;subst e;rw[hg]at h3;injection h3 with h3;right;rw[if_neg (by omega),h3];exact(Th _ _).2 ⟨k,v,h4,h5,h6⟩;exact .inl ⟨j,k,r,v,h1,by omega,h3,h4,h5,h6⟩
theorem VbW {L:List Nd}(hl:AF L=true)(h0:L≠[])(h1:∀c∈HP L,c.s≠0)(c:Cl):c∈Kv (CX L) (bxX L) (bxY L) 0 (CX L).length↔c∈HP L:=by
 rw[QI _ (W7 _)];have get:∀(j i:Nat)(v:UInt8),(∃r,(CX L)[j]? = some r/\r[i]? = some v)↔j<(bxH L).toNat/\i<(bxW L).toNat/\LR L (bxX L) (bxY L) j i=v:=by intro j i v;unfold CX GC Qy;rw[if_neg h0];constructor;rintro⟨r,g1,g2⟩;rw[WW]at g1;obtain⟨j',e1,e2⟩:=YE.1 g1;have hj:=(W5.1 e1).1;rw[List.length_range]at hj;rw[Xv hj]at e1;injection e1 with e1;subst e1 e2;rw[WW]at g2;obtain⟨i',e3,e4⟩:=YE.1 g2;have hi:=(W5.1 e3).1;rw[List.length_range]at hi;rw[Xv hi]at e3;injection e3 with e3;subst e3;exact⟨hj,hi,e4⟩;rintro⟨hj,hi,hv⟩;exact⟨_,by rw[WW,Xv hj];rfl,by rw[WW,Xv hi,<-hv];rfl⟩
 have bB:=Vl1 hl h0;have hlen:(CX L).length=(bxH L).toNat:=by unfold CX GC;rw[if_neg h0];simp
 constructor
 ·rintro⟨j,i,r,v,_,_,g1,g2,g3,rfl⟩;obtain⟨hj,hi,hv⟩:=(get j i v).1 ⟨r,g1,g2⟩;rw[Nat.sub_zero];refine(bB _).2 ⟨?_,?_⟩;dsimp only;apply Classical.byContradiction;intro hn;apply g3;rw[<-hv];unfold LR;rw[show(Sc L (bxX L+(i:Int)) (bxY L+(j:Int))).toNat=0 by omega];rfl
  dsimp only;rw[<-hv];rfl
 ·intro hc;obtain⟨b1,b2,b3,b4⟩:=VgQ hl h0 c hc;obtain⟨k1,k2⟩:=(bB c).1 hc;have ex:bxX L+((c.x-bxX L).toNat:Int)=c.x:=by omega
  have ey:bxY L+((c.y-bxY L).toNat:Int)=c.y:=by omega
  have hcb:LR L (bxX L) (bxY L) (c.y-bxY L).toNat (c.x-bxX L).toNat=c.s:=by unfold LR;rw[ex,ey,k2]
  obtain⟨r,g1,g2⟩:=(get (c.y-bxY L).toNat (c.x-bxX L).toNat c.s).2 ⟨by omega,by omega,hcb⟩;refine⟨_,_,r,c.s,WZ _,by omega,g1,g2,h1 c hc,?_⟩;rw[Nat.sub_zero,ex,ey]
theorem VdO {L:List Nd}(hc:F8 L)(h0:L≠[])(h1:∀c∈HP L,c.s≠0):D4 ((CX L).getD 0 [])≠0:=by
 have hl:=hc.lo;have hlen:0<L.length:=Xd.2 h0;obtain⟨c,c1,c2⟩:=Vcm hc (Bq L).toNat L.length (FK L) (FK L) ⟨W7 _,.inr rfl⟩ hlen;have wN:c.y=bxY L:=by unfold bxY G6;unfold FK at c2;omega
 have hm:c∈HP L:=c1;obtain⟨j,i,r,v,_,_,g1,g2,g3,e⟩:=(QI _ (W7 _)).1 ((VbW hl h0 h1 c).2 hm);have hj:j=0:=by have:=congrArg Cl.y e;dsimp only at this;omega
 subst hj;rw[W6,g1];have:=Vf _ r i v rfl g2 g3;show D4 r≠0;omega
theorem R2:∀(n:Nat)(l:List (zAa)),l.length=n->Iz l ((CK l).1++(CK l).2)
 |0,l,hn=>by rw[WM hn];exact .nil
 |n+1,l,hn=>by
  obtain⟨q,t,rfl⟩:∃q t,l=q++[t]:=by rcases Zn l with e | ⟨q,d,e⟩;rw[e]at hn;simp at hn;exact⟨q,d,by rw[e,Zo]⟩
  have ih:=R2 n q (by simpa using hn);have e:CK (q++[t])=DL (CK q) t:=by unfold CK;rw[Yd];rfl
  rw[e];generalize CK q=p at ih;obtain⟨s,line⟩:=p;unfold DL;split;have:=ih.snoc (t:=t) (Sep.lf .nil);simpa using this;have:=ih.snoc (t:=t) Sep.nil;simpa using this
theorem Vef (l:List (zAa)):∃w,Sep w/\On (l++[[33]])=((CK l).1++(CK l).2)++(w++33::[10]):=by
 have e:CK (l++[[33]])=DL (CK l) [33]:=by unfold CK;rw[Yd];rfl
 unfold On;rw[e];unfold DL;split;exact⟨[10],.lf .nil,by simp⟩;exact⟨[],.nil,by simp⟩
def szT (l:List (zAa)):Nat:=(l.map λt=>t.length+1).sum
theorem Va6 (l m:List (zAa)):szT (l++m)=szT l+szT m:=by simp[szT]
theorem Vk4 (l:List (zAa)):(On l).length<=szT l+1:=by
 have key:∀(l:List (zAa)) (p:zAa×zAa),(l.foldl DL p).1.length+(l.foldl DL p).2.length<=p.1.length+p.2.length+szT l:=by
  intro l
  induction l with
  |nil=>intro p;simp[szT]
  |cons t l ih=>intro p;rw[List.foldl_cons];have h1:=ih (DL p t);have h2:(DL p t).1.length+(DL p t).2.length<=p.1.length+p.2.length+t.length+1:=(by unfold DL;split;simp only[WC,zXi];omega;simp only[WC];omega);have h3:szT (t::l)=t.length+1+szT l:=(by simp[szT]);omega
 have:=key l ([],[]);unfold On CK;simp only[WC,zXi,zXk]at this⊢;omega
theorem VjJ {n:Nat}{s:zAa}(hs:s.length<=2)(hn:n<=999999999):(Ff (n:Int) s).length<=12:=by
 unfold Ff;split;omega
 ·have e:Ct (n:Int)=CA n:=by unfold Ct;rw[if_neg (by omega)];rfl
  have:=IY 9 n (by omega);rw[if_neg (by decide)]at this;rw[e,WC];omega
theorem VeH (two:Bool):∀(k:Nat)(l:zAa),l.length<=k->l.length<=1000->szT (Ja two l)<=13*l.length
 |0,l,h,_=>by have e:l=[]:=WM (by omega);subst e;rw[GA];simp[szT]
 |k+1,[],_,_=>by rw[GA];simp[szT]
 |k+1,b::l,h,h2=>by
  rw[IZ];simp only[zXj]at h h2⊢;have iI:(l.takeWhile (· == b)).length<=l.length:=(Yh _).length_le;have ih:=VeH two k (l.drop (l.takeWhile (· == b)).length) (by simp;omega) (by simp;omega);have h3:=VjJ (n:=(l.takeWhile (· == b)).length+1) (Qr b.toNat two) (by omega);have h4:∀(t:zAa) m,szT (t::m)=t.length+1+szT m:=λt m=>by simp[szT]
  rw[h4];rw[WS]at ih;omega
theorem Vep (two:Bool){rows:List (zAa)}{w:Nat}(hw:∀r∈rows,r.length<=w)(cD:w<=1000)(hr:rows.length<=1000):∀i,i<=rows.length->szT (CV two rows i).1<=i*(13*w+13) /\ -1<=(CV two rows i).2
 |0,_=>⟨by simp[CV,szT],by simp[CV]⟩
 |i+1,hi=>by
  obtain⟨ih,ihl⟩:=Vep two hw cD hr i (by omega);have hil:i<rows.length:=by omega
  have qK:rows.getD i []∈rows:=by rw[W6,W4 hil];exact WI hil
  have cJ:=hw _ qK;rw[Xr];unfold CV Ev;split;exact⟨by omega,ihl⟩
  ·refine⟨?_,by dsimp only;omega⟩;dsimp only;rw[Va6,Va6];have hl:((rows.getD i []).take (D4 (rows.getD i []))).length<=w:=(by rw[WN];omega);have h2:=VeH two _ ((rows.getD i []).take (D4 (rows.getD i []))) (W7 _) (by omega);have h3:szT (if 0<=(CV two rows i).2 then [Ff ((i:Int)-(CV two rows i).2) [36]]else [])<=13:=(by split;rename_i h0;rcases KJ two rows i with ⟨_,hlt⟩ | ⟨_,hlt⟩;have e:((i:Int)-(CV two rows i).2)=((i-(CV two rows i).2.toNat:Nat):Int):=(by omega);have:=VjJ (n:=i-(CV two rows i).2.toNat) (s:=[36]) (by decide) (by omega);rw[e];simp[szT];omega;omega;simp[szT]);have h4:13*((rows.getD i []).take (D4 (rows.getD i []))).length<=13*w:=XH _ hl;omega
theorem Vhx {rows:List (zAa)}(h:OW rows=true):∀r∈rows,∀b∈r,b.toNat<=1:=by
 intro r hr b hb;obtain⟨j,hj,rfl⟩:=List.mem_iff_getElem.1 hr;obtain⟨i,hi,rfl⟩:=List.mem_iff_getElem.1 hb;unfold OW at h;rw[WO]at h;have h1:=h j (by simpa using hj);have e:rows.getD j []=rows[j]:=by rw[W6,W4 hj];rfl
 rw[e,WO]at h1;have h2:=h1 i (by simpa using hi);rw[W6,W4 hi,zXe]at h2;exact h2
theorem VhH {rule:zAa}{l:List Cl}(hr:Hs rule=true)(hv:A9 (Bo l)<=1329)(hn:l.length<=40)(hw:EU (CU l).1 60=true):Jb (VhI rule (CU l).1) 60 100000=((rule,(CU l).1),0,0)/\(VhI rule (CU l).1).length<=100000:=by
 obtain⟨h1,h2,h3,h4⟩:=Vd2 hv;have hlo:=I9 h3;have aG:=λh=>Vd1 hv h;have hlen:=Vcl l (by omega);have hst:∀c∈HP (CU l).1,c.s≠0:=λc hc=>Kt ((h1 c).1 hc);obtain⟨dx,dy⟩:=Vmt hlo;have hrw:=V3 hlo (b:=60) (by decide) (by decide) hw;have iS:(∀r∈CX (CU l).1,r.length<=60)/\(CX (CU l).1).length<=60:=by unfold EU at hw;simp only[WG,zXe]at hw;unfold CX;by_cases e0:(CU l).1=[];rw[if_pos e0];exact⟨λr hr=>(by cases hr),by simp⟩;rw[if_neg e0];unfold bx at hw;rw[if_neg e0,if_neg e0]at hw;refine⟨λr hr=>?_,by simp[GC];omega⟩;unfold GC at hr;obtain⟨j,_,rfl⟩:=XM.1 hr;simp[Qy];omega
 have hfu:0<(CX (CU l).1).length->D4 ((CX (CU l).1).getD 0 [])≠0:=λh=>by
  have e0:(CU l).1≠[]:=λe=>by rw[e]at h;simp[CX]at h
  exact VdO (aG e0) e0 hst
 have bQ:∀c,c∈Kv (CX (CU l).1) (bx (CU l).1 bxX) (bx (CU l).1 bxY) 0 (CX (CU l).1).length↔c∈Bo l:=by intro c;by_cases e0:(CU l).1=[];have hs:=h2.1 e0;rw[hs,e0];simp[CX,Kv];unfold bx;rw[if_neg e0,if_neg e0,VbW hlo e0 hst,h1]
 have gV:CU (Kv (CX (CU l).1) (bx (CU l).1 bxX) (bx (CU l).1 bxY) 0 (CX (CU l).1).length)=CU l:=
  Vlr (ViJ (VT l) (λ_ h=>Kt h) bQ)
 unfold VhI GL;have qJ:(VjO (CX (CU l).1))<=60:=by unfold VjO;split;omega;rename_i r rs e;exact iS.1 r (by rw[e];exact Yn)
 generalize CX (CU l).1=rows at *;generalize hQ:(CU l).1=Q at *;generalize bx Q bxX=X at *;generalize bx Q bxY=Y at *;obtain⟨w,cD,bZ⟩:=Vef (CV (OW rows) rows rows.length).1;have hsp:=R2 _ (CV (OW rows) rows rows.length).1 rfl;have hsz:=Vep (OW rows) (w:=60) iS.1 (by decide) (by omega) rows.length (W7 _);have jE:=Vk4 ((CV (OW rows) rows rows.length).1++[[33]]);have hd:∀n:Nat,n<=60->(CA n).length<=400:=λn hn=>by have:=IY 2 n (by omega);rw[if_neg (by decide)]at this;omega
 have jY:N6 X Y (VjO rows) rows.length rule=Tw X Y++Vh5 (VjO rows) rows.length rule false:=by simp[N6,Tw,Vh5,KQ,Kq,szA,szB,szC,Vjk]
 constructor
 ·obtain⟨c,kY,eZ⟩:=ViU (b:=N6 X Y (VjO rows) rows.length rule++On ((CV (OW rows) rows rows.length).1++[[33]])) (by rw[jY,WD]) dx dy hr (hd _ qJ) (hd _ iS.2) QD;have hT:∃st',Tks 60 (CV (OW rows) rows rows.length).1 {QD with x:=X,y:=Y,law:=rule} st'/\st'.law=rule/\st'.cells=Kv rows X Y 0 rows.length:=by obtain⟨_,g2⟩:=VbK (bx:=60) (rows:=rows) (two:=OW rows) (f:=0) (st:={QD with x:=X,y:=Y,law:=rule}) (by decide) (λht=>Vhx ht) (λr hr=>by have:=iS.1 r hr;omega) (by omega) ⟨rfl,rfl⟩ (λj hj=>by omega) hfu rows.length (W7 _);rcases XN rows.length with e | e;rw[WM e];exact⟨_,.nil _,rfl,rfl⟩;obtain⟨y,_,_,_,st',t1,t2,t3,t4,t5,t6⟩:=g2 e;exact⟨st',t1,t2,by rw[t6];rfl⟩
  obtain⟨st',t1,t2,t3⟩:=hT;have:=Vhd (bx:=60) (N:=100000) (by decide) kY t1 hsp cD (by rw[eZ,bZ]) (by rw[t3,gV];exact h4) (by rw[t3,gV,hQ];omega);rw[this,t2,t3,gV,hQ]
 ·have l1:=SD dx;have l2:=SD dy;have l3:(Ct ((VjO rows:Nat):Int)).length<=401:=SD (by simpa using hd _ qJ);have l4:(Ct ((rows.length:Nat):Int)).length<=401:=SD (by simpa using hd _ iS.2);have l5:rule.length<=40:=by unfold Hs at hr;rw[WG,zXe]at hr;exact hr.2.2
  have l6:rows.length*(13*60+13)<=60*793:=Xg _ iS.2;rw[Va6]at jE;have l7:szT [[33]]=2:=rfl;rw[WC];simp[N6];omega
set_option maxRecDepth 100000
def s8A:zAa:=[120,32,61,32,48,44,32,121,32,61,32,48,44,32,114,117,108,101,32,61,32,97,10,50,98,50,111,36,33]
def s8B:zAa:=[35,67,32,97,110,121,13,10,35,67,88,82,76,69,32,80,111,115,61,45,49,44,53,10,120,32,61,32,57,44,32,121,32,61,32,57,44,32,114,117,108,101,32,61,32,97,13,10,32,112,65,32,50,36,10,46,66,33,120]
def s8C:zAa:=[120,32,61,32,48,44,32,121,32,61,32,48,44,32,114,117,108,101,32,61,32,97,10,121,80,33]
def s8D:zAa:=[35,97,98,99]
def s8E:zAa:=[120,61]
def s8F:zAa:=[120,32,61,32,48,44,32,121,32,61,32,48,44,32,114,117,108,101,32,61,32,97,10,98,50,111,33]
def s8S:zAa:=[35,67,88,82,76,69,32,80,111,115,61,50,44,48,10,120,32,61,32,50,44,32,121,32,61,32,49,44,32,114,117,108,101,32,61,32,97,10,50,111,33,10]
def s8T:zAa:=[35,67,88,82,76,69,32,80,111,115,61,45,49,44,53,10,120,32,61,32,50,44,32,121,32,61,32,51,44,32,114,117,108,101,32,61,32,97,10,112,65,50,36,46,66,33,10]
def l8A:List Nd:=(Jb s8A 1000 100000).1.2
def l8B:List Nd:=(Jb s8B 1000 100000).1.2
theorem y8A:Jb s8A 1000 100000=(([97],l8A),0,0):=by decide +kernel
theorem y8B:Jb s8B 1000 100000=(([97],l8B),0,0):=by decide +kernel
theorem Vqk:Iw 4 [97] l8A 1000 100000=0:=by decide +kernel
theorem Vqi:Iw 4 [97] l8B 1000 100000=0:=by decide +kernel
theorem Vqj:VhI [97] l8A=s8S:=by decide +kernel
theorem Vqh:VhI [97] l8B=s8T:=by decide +kernel
theorem y8C:(Jb s8C 1000 100000).2=(24,2):=by decide +kernel
theorem y8D:Wb s8D=(10::Ck,true):=by decide +kernel
theorem Vqg:(Jb (s8D++10::Ck) 1000 100000).2.2=0:=by decide +kernel
theorem y8E:(Wb s8E).2=false:=by decide +kernel
theorem y8F:(Jb s8F 2 9).2.2=4:=by decide +kernel
theorem VnS:l8A.length<1000/\l8B.length<1000:=by decide +kernel
theorem Vfa (H:Aa):Ufe H=some (.ret (.agg [.i6 1000,.i6 100000]),H):=by have hb:A6 (some [(.i6 0),(.i6 0)]) [(0,1,(.i6 1000)),(1,1,(.i6 100000))]=some (.agg [.i6 1000,.i6 100000]):=rfl;unfold Ufe;simp only[GMw,HPw,Nat.reduceAdd,Nat.reduceLT,hb]
theorem VeX (H:Aa):Ufk H=some (.ret (.bool true),H):=by
 have hA:=λK=>HF s8A 1000 100000 K (by decide);have hB:=λK=>HF s8B 1000 100000 K (by decide);have hC:=λK=>HF s8C 1000 100000 K (by decide);have hD:=λK=>Tl s8D K (by decide);have hD2:=λK=>HF (s8D++10::Ck) 1000 100000 K (by decide);have hE:=λK=>Tl s8E K (by decide);have hF:=λK=>HF s8F 2 9 K (by decide);obtain⟨hlA,hlB⟩:=VnS;have hT:=λK=>Tm [97] l8A 1000 100000 K (by decide) (by omega) (by decide) (by decide);have hU:=λK=>Tm [97] l8B 1000 100000 K (by decide) (by omega) (by decide) (by decide);have eZ:=y8C;generalize Jb s8C 1000 100000=C at hC eZ;obtain⟨⟨c1,c2⟩,c3,c4⟩:=C;simp only[WY]at eZ;obtain⟨rfl,rfl⟩:=eZ;have hx2:=Vqg;generalize Jb (s8D++10::Ck) 1000 100000=R at hD2 hx2;obtain⟨⟨r1,r2⟩,r3,r4⟩:=R;dsimp only at hx2;subst hx2;have wJ:=y8E;generalize Wb s8E=D at hE wJ;obtain⟨d1,d2⟩:=D;dsimp only at wJ;subst wJ;have hf2:=y8F;generalize Jb s8F 2 9=F at hF hf2;obtain⟨⟨e1,e2⟩,e3,e4⟩:=F;dsimp only at hf2;subst hf2;have aW:Af .none .add (.str s8D) (.str (10::Ck))=some (.str (s8D++10::Ck)):=Dk (by decide);have hbE:A6 (some [(.i6 0),(.i6 0)]) [(0,1,(.i6 2)),(1,1,(.i6 9))]=some (.agg [.i6 2,.i6 9]):=rfl;rw[y8A]at hA;rw[y8B]at hB;rw[y8D]at hD;rw[if_pos Vqk,Vqj]at hT;rw[if_pos Vqi,Vqh]at hU;generalize l8A=LA at hA hT;generalize l8B=LB at hB hU;have hlim:IE 1000 100000=[.i6 1000,.i6 100000]:=rfl;rw[hlim]at hT hU;simp only[M8,HV]at hA hB hC hD2 hT hU hF;dsimp only at hD hE;unfold Ufk;rw[show([120,32,61,32,48,44,32,121,32,61,32,48,44,32,114,117,108,101,32,61,32,97,10,50,98,50,111,36,33]:zAa)=s8A from rfl,
  show([35,67,32,97,110,121,13,10,35,67,88,82,76,69,32,80,111,115,61,45,49,44,53,10,120,32,61,32,57,44,32,121,32,61,32,57,44,32,114,117,108,101,32,61,32,97,13,10,32,112,65,32,50,36,10,46,66,33,120]:zAa)=s8B from rfl,
  show([120,32,61,32,48,44,32,121,32,61,32,48,44,32,114,117,108,101,32,61,32,97,10,121,80,33]:zAa)=s8C from rfl,
  show([35,97,98,99]:zAa)=s8D from rfl,show([120,61]:zAa)=s8E from rfl,
  show([120,32,61,32,48,44,32,121,32,61,32,48,44,32,114,117,108,101,32,61,32,97,10,98,50,111,33]:zAa)=s8F from rfl,
  show([35,67,88,82,76,69,32,80,111,115,61,50,44,48,10,120,32,61,32,50,44,32,121,32,61,32,49,44,32,114,117,108,101,32,61,32,97,10,50,111,33,10]:zAa)=s8S from rfl,
  show([35,67,88,82,76,69,32,80,111,115,61,45,49,44,53,10,120,32,61,32,50,44,32,121,32,61,32,51,44,32,114,117,108,101,32,61,32,97,10,112,65,50,36,46,66,33,10]:zAa)=s8T from rfl]
 simp only[Sl.gliderref11_Wide_eq,Sl.rle_Read_eq,Sl.gliderref13_Text_eq,Sl.rle_Hint_eq,GMw,HPw,Nat.reduceAdd,Nat.reduceLT,Vfa,hA,hB,hC,aW,hD,hD2,hE,hT,hU,hbE,hF,KE,beq_self_eq_true]
theorem Vd3 {most:Int}{l:List RC}(h:(FO most l).2=true)(hm:most<=40):(FO most l).1=(CU (l.map RC.cl)).1/\A9 (Bo (l.map RC.cl))<=1329/\(l.map RC.cl).length<=40:=by
 have hg:Kc most l=false:=by cases hg:Kc most l with|false=>rfl|true=>simp[FO,hg]at h
 have hlen:(l.length:Int)<=most:=by unfold Kc at hg;simp only[Y5,decide_eq_false_iff_not]at hg;omega
 have hr:l.all RC.right=true:=by cases hr:l.all RC.right with|true=>rfl|false=>simp[FO,hg,hr]at h
 simp only[FO,hg,hr]at h⊢;refine⟨by simp,?_,by simp;omega⟩;have h2:(CU (l.map RC.cl)).2=0:=by simpa using h
 rw[Pj]at h2;split at h2
 simp at h2;omega
theorem VaJ {rule:zAa}{l:List RC}(H:Aa)(hr:rule.length<1152921504606846976)(jR:l.length<1152921504606846976)(hl:∀r∈l,r.lim):Uey (.str rule) (.sl (enL cRC l) .no) H=some (.ret (.bool true),H):=by
 have gV:=λK=>Vnz rule l .no 40 K hr (by omega) jR hl;have hq:=Vd3 (most:=40) (l:=l);have pA:=VeW (most:=40) (l:=l);have jO:=Vd4 (most:=40) (l:=l) (by omega);generalize FO 40 l=Q at gV hq pA jO;obtain⟨Q,ok⟩:=Q;dsimp only at gV hq pA jO;simp only[HV]at gV;have b4:A6 (some [(.i6 0),(.i6 0)]) [(0,1,(.i6 60)),(1,1,(.i6 100000))]=some (.agg [.i6 60,.i6 100000]):=rfl;have b5:Ai 2 (.ptr 0 0 0) (.agg [.i6 60,.i6 100000]) [Blk.c0 [.i6 0,.i6 0]]=some [Blk.c0 [.i6 60,.i6 100000]]:=rfl;unfold Uey;simp only[Sl.gliderlaw18_alive_eq,Sl.gliderref11_Of_eq,Sl.gliderref11_Express_eq,Sl.gliderref13_Text_eq,Sl.rle_Read_eq,Sl.gliderref11_Same_eq,GMw,HPw,Nat.reduceAdd,Nat.reduceLT,VeX,b4,b5,gV,Ec];by_cases h100:rule.length>100;have hd:decide ((rule.length:Int)>100)=true:=zXc (by omega);simp only[hd,GMw,HPw,Nat.reduceAdd,Nat.reduceLT]
 ·have hd:decide ((rule.length:Int)>100)=false:=zXd (by omega);cases hb:ok&&Hs rule with
  |false=>simp only[hd,hb,GMw,HPw,Nat.reduceAdd,Nat.reduceLT]
  |true=>
   rw[WG]at hb;obtain⟨hok,nN⟩:=hb;obtain⟨e1,hv,hn⟩:=hq hok (by omega);have hlo:=I9 pA;have hex:=λK=>RB 4 rule Q 60 100000 K (by omega) hlo (by omega) (by omega);have hlim:IE 60 100000=[.i6 60,.i6 100000]:=rfl;simp only[HV,hlim]at hex;cases hx:Js 4 Q 60 with
   |false=>simp only[hd,GMw,HPw,Nat.reduceAdd,Nat.reduceLT,hex,hx]
   |true=>have hw:EU Q 60=true:=(by unfold Js at hx;simp at hx;exact hx);have kG:Iw 4 rule Q 60 100000=0:=(by unfold Iw;rw[nN,pA,hx];rfl);have hT:=λK=>Tm rule Q 60 100000 K (by omega) (by omega) (by omega) (by omega);simp only[HV,hlim,kG,if_true]at hT;have wT:=VhH nN hv hn (by rw[<-e1];exact hw);rw[<-e1]at wT;obtain⟨sQ,hlen⟩:=wT;have oZ:=λK=>HF (VhI rule Q) 60 100000 K (by omega);rw[sQ]at oZ;simp only[M8,HV]at oZ;have hs:=λK=>Vib rule rule Q Q K (by omega);simp only[HV]at hs;simp only[hd,GMw,HPw,Nat.reduceAdd,Nat.reduceLT,hex,hx,hT,oZ,hs]
def Shp (P:Program):Nat->TypeId->List Ab->Prop
 |0,_,_=>False
 |f+1,t,vas=>match P.underlying t with
  |some .bool=>∃b,vas=[.bool b]
  |some (.int k)=>∃n,vas=[.int k n]/\(Lit.int k n).wf=true
  |some .string=>∃s,vas=[.str s]/\s.length<=maxLen
  |some (.slice e)=>∃es,vas=[.sl es .no]/\es.length<=maxLen/\∀x∈es,Shp P f e x
  |some (.struct fs)=>∃ps:List (List Ab),vas=ps.flatten/\ps.length=fs.toList.length/\∀(i:Nat)(fd:Field)(p:List Ab),fs.toList[i]? = some fd->ps[i]? = some p->Shp P f fd.type p
  |some (.array n e)=>∃ps:List (List Ab),vas=ps.flatten/\ps.length=n/\∀p∈ps,Shp P f e p
  |_=>False
def VnR (P:Program)(total:Nat):List Field->Nat->Bool
 |[],off=>off==total
 |f::r,off=>f.offset==off&&VnR P total r (off+P.cellsOf f.type)
def RY (P:Program):Nat->TypeId->Bool
 |0,_=>false
 |f+1,t=>match P.underlying t with
  |some .bool=>true
  |some (.int _)=>true
  |some .string=>true
  |some (.slice e)=>decide (0<P.cellsOf e)&&RY P f e
  |some (.struct fs)=>VnR P (P.cellsOf t) fs.toList 0&&fs.toList.all λfd=>RY P f fd.type
  |some (.array n e)=>decide (P.cellsOf t=n*P.cellsOf e)&&RY P f e
  |_=>false
theorem TB {α β:Type}{f:α->Option β}:∀ {l:List α} {r:List β},l.mapM f=some r->∀a∈l,∃b,f a=some b
 |[],_,_,a,ha=>by cases ha
 |x::l,r,h,a,ha=>by
  rw[Zr]at h;cases hx:f x with
  |none=>simp[hx]at h
  |some b=>
   cases hl:l.mapM f with
   |none=>simp[hx,hl]at h
   |some bs=>rcases Xs.1 ha with rfl | ha;exact⟨b,hx⟩;exact TB hl a ha
theorem TC {α β:Type}{f:α->Option β}:∀ {l:List α} {r:List β},l.mapM f=some r->r.length=l.length/\∀(i:Nat)(a:α),l[i]? = some a->r[i]? = f a
 |[],r,h=>by
  have:r=[]:=by simpa using h.symm
  subst this;exact⟨rfl,λi a ha=>by simp at ha⟩
 |x::l,r,h=>by
  rw[Zr]at h;cases hx:f x with
  |none=>simp[hx]at h
  |some b=>
   cases hl:l.mapM f with
   |none=>simp[hx,hl]at h
   |some bs=>have:r=b::bs:=(by simpa[hx,hl]using h.symm);subst this;obtain⟨h1,h2⟩:=TC hl;refine⟨by simp[h1],λi a ha=>?_⟩;cases i with|zero=>simp at ha;subst ha;simp[hx]|succ i=>simp at ha⊢;exact h2 i a ha
theorem Vo8 (W:World)(b o:Nat):(Ol W).I b o=W.cell? ⟨b,o,none⟩:=rfl
section
variable {H:Type}{enc:TypeId×Value->H}{P:Program}{w:World}{base:Nat}{spare:Nat->Bool}{held:Bool}
def Vdn (enc:TypeId×Value->H)(P:Program)(w:World)(base:Nat)(spare:Nat->Bool)(held:Bool)(f fuel:Nat):Prop:=
 ∀(t:TypeId)(cs:List Value)(x:DataW H×List MemPlace),RY P f t=true->DataW.trod enc P w base spare held fuel t cs=some x->∃vas,A4 (Ol w) vas cs/\(∀c∈vas,BN c=true)/\Shp P f t vas
theorem RD {f fuel:Nat}(ih:Vdn enc P w base spare held f fuel)(cs:List Value):∀(fs:List Field)(off:Nat)(r:List (DataW H×List MemPlace)),VnR P cs.length fs off=true->(fs.all λfd=>RY P f fd.type)=true ->
  (fs.mapM λfd=>DataW.trod enc P w base spare held fuel fd.type ((cs.drop fd.offset).take (P.cellsOf fd.type)))=some r->(∀fd∈fs,∀(c:List Value)(x:DataW H×List MemPlace),DataW.trod enc P w base spare held fuel fd.type c=some x->True) ->
  ∃ps:List (List Ab),A4 (Ol w) ps.flatten (cs.drop off)/\(∀c∈ps.flatten,BN c=true)/\ps.length=fs.length/\∀(i:Nat)(fd:Field)(p:List Ab),fs[i]? = some fd->ps[i]? = some p->Shp P f fd.type p
 |[],off,r,iW,_,_,_=>by
  have:off=cs.length:=by simpa[VnR]using iW
  subst this;exact⟨[],by simpa using A4.nil _,λc hc=>by simp at hc,rfl,λi fd p h=>by simp at h⟩
 |fd::fs,off,r,iW,hs,hm,ht=>by
  simp only[VnR,WG,beq_iff_eq]at iW;obtain⟨ho,iW⟩:=iW;simp only[List.all_cons,WG]at hs;rw[Zr]at hm;cases hx:DataW.trod enc P w base spare held fuel fd.type ((cs.drop fd.offset).take (P.cellsOf fd.type))with
  |none=>simp[hx]at hm
  |some x=>
   cases hl:fs.mapM λfd=>DataW.trod enc P w base spare held fuel fd.type ((cs.drop fd.offset).take (P.cellsOf fd.type))with
   |none=>simp[hx,hl]at hm
   |some xs=>obtain⟨vas,a1,a2,a3⟩:=ih fd.type _ x hs.1 hx;obtain⟨ps,b1,b2,b3,b4⟩:=RD ih cs fs (off+P.cellsOf fd.type) xs iW hs.2 hl (λ_ _ _ _ _=>trivial);refine⟨vas::ps,?_,λc hc=>?_,by simp[b3],λi fd' p h1 h2=>?_⟩;rw[List.flatten_cons];have e:cs.drop off=(cs.drop off).take (P.cellsOf fd.type)++cs.drop (off+P.cellsOf fd.type):=(by rw[<-X6];exact(Xk _ _).symm);rw[e];rw[ho]at a1;exact a1.append b1;rw[List.flatten_cons]at hc;rcases WT.1 hc with hc | hc;exact a2 c hc;exact b2 c hc;cases i with|zero=>simp at h1 h2;subst h1;subst h2;exact a3|succ i=>exact b4 i fd' p (by simpa using h1) (by simpa using h2)
theorem T8 {f fuel:Nat}(ih:Vdn enc P w base spare held f fuel){e:TypeId}(hs:RY P f e=true)(cs:List Value):∀(d i n:Nat),i+d=n->cs.length=n*P.cellsOf e ->
  (∀j,j<n->∃x,DataW.trod enc P w base spare held fuel e ((cs.drop (j*P.cellsOf e)).take (P.cellsOf e))=some x) ->
  ∃ps:List (List Ab),A4 (Ol w) ps.flatten (cs.drop (i*P.cellsOf e))/\(∀c∈ps.flatten,BN c=true)/\ps.length=d/\∀p∈ps,Shp P f e p
 |0,i,n,hi,hl,_=>by have:cs.drop (i*P.cellsOf e)=[]:=Y1 (by rw[hl,show i=n by omega];exact W7 _);rw[this];exact⟨[],A4.nil _,λc hc=>by simp at hc,rfl,λp h=>by simp at h⟩
 |d+1,i,n,hi,hl,hm=>by obtain⟨x,hx⟩:=hm i (by omega);obtain⟨vas,a1,a2,a3⟩:=ih e _ x hs hx;obtain⟨ps,b1,b2,b3,b4⟩:=T8 ih hs cs d (i+1) n (by omega) hl hm;refine⟨vas::ps,?_,λc hc=>?_,by simp[b3],λp hp=>?_⟩;rw[List.flatten_cons];have e':cs.drop (i*P.cellsOf e)=(cs.drop (i*P.cellsOf e)).take (P.cellsOf e)++cs.drop ((i+1)*P.cellsOf e):=(by rw[YP,<-X6];exact(Xk _ _).symm);rw[e'];exact a1.append b1;rw[List.flatten_cons]at hc;rcases WT.1 hc with hc | hc;exact a2 c hc;exact b2 c hc;rcases Xs.1 hp with rfl | hp;exact a3;exact b4 p hp
theorem NV {a:Addr}{n:Nat}{r:List Value}(h:w.cells? base a n=some r):r.length=n/\∀j,j<n->w.cell? (a.add j)=r[j]? := by
 unfold World.cells? at h;split at h
 obtain⟨h1,h2⟩:=TC h;refine⟨by simpa using h1,λj hj=>(h2 j j (Xv hj)).symm⟩;cases h
theorem Viz {f fuel:Nat}(ih:Vdn enc P w base spare held f fuel){e:TypeId}(hpos:0<P.cellsOf e)(hs:RY P f e=true)(a:Addr)(len cap:Nat)(hc:len<=cap)
  (hm:∀i,i<len->∃x,(w.cells? base (a.add (i*P.cellsOf e)) (P.cellsOf e)).bind (DataW.trod enc P w base spare held fuel e)=some x):∃es tk,Az (Ol w) (.sl es tk) (.slice (some a) len cap)/\(tk=.no)/\es.length=len/\∀x∈es,Shp P f e x:=by
 by_cases h0:len=0;subst h0;exact⟨[],.no,.sl0 trivial (λh=>by cases h),rfl,rfl,λx hx=>by cases hx⟩
 ·have each:∀i,∃vas:List Ab,i<len->∃r,w.cells? base (a.add (i*P.cellsOf e)) (P.cellsOf e)=some r/\A4 (Ol w) vas r/\(∀c∈vas,BN c=true)/\Shp P f e vas:=by
   intro i;by_cases hi:i<len
   ·obtain⟨x,hx⟩:=hm i hi;cases hr:w.cells? base (a.add (i*P.cellsOf e)) (P.cellsOf e)with
    |none=>simp[hr]at hx
    |some r=>rw[hr,zXa]at hx;obtain⟨vas,a1,a2,a3⟩:=ih e r x hs hx;exact⟨vas,λ_=>⟨r,rfl,a1,a2,a3⟩⟩
   exact⟨[],λh=>absurd h hi⟩
  obtain⟨g,hg⟩:=Classical.axiomOfChoice each;have hg:∀i,i<len->∃r,w.cells? base (a.add (i*P.cellsOf e)) (P.cellsOf e)=some r/\A4 (Ol w) (g i) r/\(∀c∈g i,BN c=true)/\Shp P f e (g i):=hg;have hsp:a.spot=none:=by
   obtain⟨r,h1,_⟩:=hg 0 (by omega);obtain⟨h2,h3⟩:=NV h1;have h4:=h3 0 hpos;have h5:(a.add (0*P.cellsOf e)).add 0=a:=(by simp[Addr.add]);rw[h5,W4 (by omega)]at h4;unfold World.cell? at h4;split at h4
   ·split at h4
    cases h4;rename_i hh;simpa using hh
   cases h4
  obtain⟨b,o,sp⟩:=a;simp only at hsp;subst hsp;have aW:∀i j,((⟨b,o,none⟩:Addr).add (i*P.cellsOf e)).add j=⟨b,o+(i*P.cellsOf e+j),none⟩:=λi j=>by rw[Do,Do,Xc]
  refine⟨(List.range len).map g,.no,?_,rfl,by simp,λx hx=>?_⟩
  ·have hl:((List.range len).map g).length=len:=(by simp);have key:=Az.sl (E:=Ol w) (es:=(List.range len).map g) (tk:=.no) (b:=b) (o:=o) (s:=P.cellsOf e) (cap:=cap) (λi j=>(w.cell? ⟨b,o+(i*P.cellsOf e+j),none⟩).getD default)
    (λi x hx=>?_) (λi j hi hj=>?_) (λi x j c hx hc=>?_) (λi x j c hx hc=>?_) (by rw[hl];exact hc) trivial
   rw[hl]at key;exact key;have hi:i<len:=(by have:=(W5.1 hx).1;simpa using this);rw[WW,Xv hi]at hx;simp at hx;subst hx;obtain⟨r,h1,h2,_⟩:=hg i hi;rw[h2.1,(NV h1).1];rw[hl]at hi;obtain⟨r,h1,h2,_⟩:=hg i hi;obtain⟨h3,h4⟩:=NV h1;have h5:=h4 j hj;rw[aW]at h5;rw[Vo8,h5,W4 (by omega)];rfl
   have hi:i<len:=(by have:=(W5.1 hx).1;simpa using this);rw[WW,Xv hi]at hx;simp at hx;subst hx;obtain⟨r,h1,h2,h6,_⟩:=hg i hi;exact h6 c (Xa hc);have hi:i<len:=(by have:=(W5.1 hx).1;simpa using this);rw[WW,Xv hi]at hx;simp at hx;subst hx;obtain⟨r,h1,h2,h6,_⟩:=hg i hi;obtain⟨h3,h4⟩:=NV h1;have hj:j<P.cellsOf e:=(by have:=(W5.1 hc).1;rw[h2.1,h3]at this;exact this);have h5:=h4 j hj;rw[aW]at h5;refine h2.2 j c _ hc ?_;rw[<-h5,h5,W4 (by omega)];rfl
  simp only[XM,Ym]at hx;obtain⟨i,hi,rfl⟩:=hx;obtain⟨r,_,_,_,h7⟩:=hg i hi;exact h7
theorem Pi {E:Env}{x:Ab}{v:Value}(h:Az E x v):A4 E [x] [v]:=.cons h (.nil _)
theorem Vj:∀(f fuel:Nat),Vdn enc P w base spare held f fuel
 |0,_=>λt cs x hs _=>by simp[RY]at hs
 |_+1,0=>λt cs x _ h=>by simp[DataW.trod]at h
 |f+1,fuel+1=>λt cs x hs h=>by
  have ih:=Vj f fuel;unfold RY at hs;unfold Shp;cases hu:P.underlying t with
  |none=>rw[hu]at hs;cases hs
  |some td=>
   rw[hu]at hs;unfold DataW.trod at h;rw[hu]at h;cases td with
   |bool=>
    simp only at h;split at h
    all_goals first | (rename_i hq;cases hq;done) | skip
    all_goals first | (cases h;done) | skip
    rename_i b hq;exact⟨[.bool b],Pi (.bool b),λc hc=>by simp at hc;subst hc;rfl,b,rfl⟩
   |int k=>
    simp only at h;split at h
    all_goals first | (rename_i hq;cases hq;done) | skip
    all_goals first | (cases h;done) | skip
    ·rename_i k2 k' n heq;cases heq;split at h
     rename_i hc;obtain⟨rfl,hw⟩:=hc;exact⟨[.int _ _],Pi (.int _ _),λc hc=>by simp at hc;subst hc;rfl,_,rfl,hw⟩;cases h
   |string=>
    simp only at h;split at h
    all_goals first | (rename_i hq;cases hq;done) | skip
    all_goals first | (cases h;done) | skip
    ·rename_i s heq;split at h
     rename_i hc;have e:Az (Ol w) (.str s.data.toList) (.string s):=(by have e:s=⟨s.data.toList.toArray⟩:=(by cases s;simp);rw[e];exact .str _);refine⟨[.str s.data.toList],Pi e,λc hc=>by simp at hc;subst hc;rfl,_,rfl,hc⟩;cases h
   |slice e=>
    simp only[WG,zXe]at hs;simp only at h;split at h
    all_goals first | (rename_i hq;cases hq;done) | skip
    all_goals first | (cases h;done) | skip
    exact⟨[.sl [] .no],Pi (.sl0 trivial (λ_=>rfl)),λc hc=>by simp at hc;subst hc;rfl,[],rfl,WZ _,λx hx=>by cases hx⟩
    ·rename_i e2 a len cap heq;cases heq;split at h
     ·rename_i hc;obtain⟨h1,h2,h3⟩:=hc;cases hm:(List.range len).mapM λi=>(w.cells? base (a.add (i*P.cellsOf e)) (P.cellsOf e)).bind (DataW.trod enc P w base spare held fuel e)with
      |none=>rw[hm]at h;cases h
      |some elems=>obtain⟨es,tk,k1,rfl,k2,k3⟩:=Viz ih hs.1 hs.2 a len cap h2 (λi hi=>TB hm i (by simpa using hi));exact⟨[.sl es .no],Pi k1,λc hc=>by simp at hc;subst hc;rfl,es,rfl,by omega,k3⟩
     cases h
   |struct fs=>
    simp only[WG]at hs;simp only at h;split at h
    ·rename_i hc;cases hm:fs.toList.mapM λfd=>DataW.trod enc P w base spare held fuel fd.type ((cs.drop fd.offset).take (P.cellsOf fd.type))with
     |none=>rw[hm]at h;cases h
     |some xs=>obtain⟨ps,b1,b2,b3,b4⟩:=RD ih cs fs.toList 0 xs (by rw[hc];exact hs.1) hs.2 hm (λ_ _ _ _ _=>trivial);exact⟨ps.flatten,by simpa using b1,b2,ps,rfl,b3,b4⟩
    cases h
   |array n e=>
    simp only[WG,zXe]at hs;simp only at h;split at h
    ·rename_i hc;cases hm:(List.range n).mapM λi=>DataW.trod enc P w base spare held fuel e ((cs.drop (i*P.cellsOf e)).take (P.cellsOf e))with
     |none=>rw[hm]at h;cases h
     |some xs=>obtain⟨ps,b1,b2,b3,b4⟩:=T8 ih hs.2 cs n 0 n (by omega) (by rw[hc];exact hs.1) (λj hj=>TB hm j (by simpa using hj));exact⟨ps.flatten,by simpa using b1,b2,ps,rfl,b3,b4⟩
    cases h
   |_=>cases hs
theorem Vm1 {r:Reach}{b0 f:Nat}{t:TypeId}{v:Value}{d:DataW H}{ps:List MemPlace}(hs:RY P f t=true)(bJ:Value.okWide P w r b0 t v)(hd:DataW.Trod enc P w base spare held t v d ps)
  (hu:(match P.underlying t with | some (.slice _)=>true | some (.int _)=>true | some .string=>true | some .bool=>true | _=>false)=true):∃x,Az (Ol w) x v/\Shp P f t [x]:=by
 obtain⟨fuel,hf⟩:=hd;have hc:v.cells.toList=[v]:=by
  unfold Value.okWide Cell.okWide Cell.ok at bJ;cases hx:P.underlying t with
  |none=>rw[hx]at hu;cases hu
  |some td=>
   rw[hx]at hu bJ;cases td<;>first | (cases hu;done) | skip
   all_goals (cases v<;>first | (simp[Value.cells];done) | (simp at bJ;done) | (exact bJ.elim;done))
 rw[hc]at hf;obtain⟨vas,a1,a2,a3⟩:=Vj f fuel t [v] _ hs hf;have hl:=a1.1
 match vas,hl with
 |[x],_=>exact⟨x,a1.2 0 x v rfl rfl,a3⟩
theorem Vm0 {r:Reach}{b0 f:Nat}{t e:TypeId}{v:Value}{d:DataW H}{ps:List MemPlace}(hu:P.underlying t=some (.slice e))(hs:RY P (f+1) t=true)(bJ:Value.okWide P w r b0 t v)(hd:DataW.Trod enc P w base spare held t v d ps):∃es,Az (Ol w) (.sl es .no) v/\(∀x∈es,Shp P f e x)/\es.length<=maxLen/\(es=[]\/∃elems spare,d=.slice elems spare/\elems.length=es.length):=by
 obtain⟨x,h1,h2⟩:=Vm1 hs bJ hd (by rw[hu]);unfold Shp at h2;rw[hu]at h2;obtain⟨es,h3,h4,h5⟩:=h2;injection h3 with h3 _;subst h3;refine⟨es,h1,h5,h4,?_⟩;obtain⟨fuel,hf⟩:=hd;cases fuel with
 |zero=>simp[DataW.trod]at hf
 |succ fuel=>
  unfold DataW.trod at hf;rw[hu]at hf;cases h1 with
  |sl0 _ _=>exact .inl rfl
  |sl fv hl hI hm hv hc ht=>
   rename_i b o s cap;right;have e1:(Value.slice (some ⟨b,o,none⟩) es.length cap).cells.toList=[.slice (some ⟨b,o,none⟩) es.length cap]:=rfl;rw[e1]at hf;simp only at hf;split at hf
   ·cases vN:(List.range es.length).mapM λi=>(w.cells? base (Addr.add ⟨b,o,none⟩ (i*P.cellsOf e)) (P.cellsOf e)).bind (DataW.trod enc P w base spare held fuel e)with
    |none=>rw[vN]at hf;cases hf
    |some elems=>rw[vN,zXa]at hf;obtain⟨q1,_⟩:=TC vN;rw[YE]at hf;obtain⟨rest,_,hf⟩:=hf;injection hf with hf _;exact⟨_,_,hf.symm,by simpa using q1⟩
   cases hf

end
section
variable {P:Program}{f:Nat}{t e:TypeId}{vas:List Ab}
theorem VeB {k:IntKind}(hu:P.underlying t=some (.int k))(h:Shp P (f+1) t vas):∃n,vas=[.int k n]/\(Lit.int k n).wf=true:=by unfold Shp at h;rw[hu]at h;exact h
theorem VhA (hu:P.underlying t=some .bool)(h:Shp P (f+1) t vas):∃b,vas=[.bool b]:=by unfold Shp at h;rw[hu]at h;exact h
theorem Vnp (hu:P.underlying t=some (.slice e))(h:Shp P (f+1) t vas):∃es,vas=[.sl es .no]/\es.length<=maxLen/\∀x∈es,Shp P f e x:=by unfold Shp at h;rw[hu]at h;exact h
theorem VjN {fs:Array Field}(hu:P.underlying t=some (.struct fs))(h:Shp P (f+1) t vas):∃ps:List (List Ab),vas=ps.flatten/\ps.length=fs.toList.length/\∀(i:Nat)(fd:Field)(p:List Ab),fs.toList[i]? = some fd->ps[i]? = some p->Shp P f fd.type p:=by unfold Shp at h;rw[hu]at h;exact h
theorem VpS {k:IntKind}{n:Int}(h:(Lit.int k n).wf=true):k.min<=n/\n<=k.max:=by simp only[Lit.wf,WG,zXe]at h;exact h
theorem Vne {n:Int}(h:(Lit.int .u32 n).wf=true):0<=n/\n<4294967296:=by have h1:=VpS h;rw[show IntKind.u32.min=0 from rfl,show IntKind.u32.max=4294967295 from rfl]at h1;omega
theorem VoZ {n:Int}(h:(Lit.int .u8 n).wf=true):0<=n/\n<256:=by have h1:=VpS h;rw[show IntKind.u8.min=0 from rfl,show IntKind.u8.max=255 from rfl]at h1;omega
theorem VaG {α:Type}{g:α->List Ab}{p:α->Prop}:∀ {es:List (List Ab)},(∀x∈es,∃a,x=g a/\p a)->∃l:List α,es=enL g l/\∀a∈l,p a
 |[],_=>⟨[],rfl,λa h=>by cases h⟩
 |x::es,h=>by obtain⟨a,rfl,ha⟩:=h x (by simp);obtain⟨l,rfl,hl⟩:=VaG (g:=g) (p:=p) (es:=es) λy hy=>h y (by simp[hy]);exact⟨a::l,rfl,λb hb=>by rcases Xs.1 hb with rfl | hb;exact ha;exact hl b hb⟩
theorem VeA (h1:P.underlying t=some (.slice e))(h2:P.underlying e=some (.int .u32))(h:Shp P (f+2) t vas):∃l:zAb,vas=[.sl (enL cU l) .no]/\Lim l/\l.length<=maxLen:=by
 obtain⟨es,rfl,hl,he⟩:=Vnp h1 h;obtain⟨l,rfl,hp⟩:=VaG (g:=cU) (p:=λn=>n<4294967296) (es:=es) λx hx=>by obtain⟨n,rfl,hw⟩:=VeB h2 (he x hx);obtain⟨w1,w2⟩:=Vne hw;exact⟨n.toNat,by show [Ab.int .u32 n]=[Ab.int .u32 (n.toNat:Int)];rw[Yw w1],by omega⟩
 exact⟨l,rfl,hp,by simpa using hl⟩
structure VjF (P:Program)(tb:TypeId):Prop where
 ex:∃(f0 f1:Field)(e:TypeId),P.underlying tb=some (.struct #[f0,f1])/\P.underlying f0.type=some .bool/\P.underlying f1.type=some (.slice e)/\P.underlying e=some (.int .u32)
theorem VeD {tb:TypeId}(hb:VjF P tb)(h:Shp P (f+3) tb vas):∃n l,vas=[.bool n,.sl (enL cU l) .no]/\Lim l:=by
 obtain⟨f0,f1,e,h1,h2,h3,h4⟩:=hb.ex;obtain⟨ps,rfl,hl,hp⟩:=VjN h1 h
 match ps,hl with
 |[p0,p1],_=>obtain⟨n,rfl⟩:=VhA h2 (hp 0 f0 p0 rfl rfl);obtain⟨l,rfl,hlim,_⟩:=VeA h3 h4 (hp 1 f1 p1 rfl rfl);exact⟨n,l,rfl,hlim⟩

end
section
variable {P:Program}{f:Nat}{t e:TypeId}{vas:List Ab}
structure Vhq (P:Program)(tc:TypeId):Prop where
 ex:∃(f0 f1 f2:Field),P.underlying tc=some (.struct #[f0,f1,f2])/\VjF P f0.type/\VjF P f1.type/\P.underlying f2.type=some (.int .u8)
theorem Vh9 {tc:TypeId}(hc:Vhq P tc)(h:Shp P (f+4) tc vas):∃r:RC,vas=cRC r/\r.lim:=by
 obtain⟨f0,f1,f2,h1,h2,h3,h4⟩:=hc.ex;obtain⟨ps,rfl,hl,hp⟩:=VjN h1 h
 match ps,hl with
 |[p0,p1,p2],_=>
  obtain⟨n1,l1,rfl,k1⟩:=VeD h2 (hp 0 f0 p0 rfl rfl);obtain⟨n2,l2,rfl,k2⟩:=VeD h3 (hp 1 f1 p1 rfl rfl);obtain⟨s,rfl,hw⟩:=VeB h4 (hp 2 f2 p2 rfl rfl);obtain⟨w1,w2⟩:=VoZ hw;refine⟨⟨n1,l1,n2,l2,UInt8.ofNat s.toNat⟩,?_,k1,k2⟩;have e:((UInt8.ofNat s.toNat).toNat:Int)=s:=by rw[XZ (show s.toNat<256 by omega)];omega
  unfold cRC;dsimp only;rw[e];rfl
theorem VeC {tc:TypeId}(hc:Vhq P tc){es:List (List Ab)}(h:∀x∈es,Shp P (f+4) tc x):∃l:List RC,es=enL cRC l/\∀r∈l,r.lim:=
 VaG λx hx=>Vh9 hc (h x hx)

end
end Go.Gm
