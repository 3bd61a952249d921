/- Texts of this proof, joined. -/
import Derived.Test.YtagddbecnkbcdaaGreatJ5
import Derived.Test.YtagddbecnkbcdaaGreatJ6
import Derived.Test.YtagddbecnkbcdaaGreatJ7
import Derived.Test.YtagddbecnkbcdaaGreatJ8
import Derived.Test.YtagddbecnkbcdaaGreatJ9
set_option linter.all false
noncomputable section
namespace Go.Gm
section
variable {m0 c:Nat}{K0:Aa}{b:zAa}{bx N:Int}{l:zAa}{k:Bk}{st:LSt}
theorem Vhw (hm:m0<=K0.length)(hk:TW st k)(hX:st.x.natAbs<10^400)(hY:st.y.natAbs<10^400)(nM:st.col<=10000000000000000)(hro:st.row<=10000000000000000){s n:Nat}(hs:0<s)(hn:n<=1000000000)(hc:c<100000000):∀(m i fuel:Nat)(base:List Cl)(v:Ab)(K:Aa),i+m=n->m<fuel->base.length+m<=1000000000000->TI m0 K0 b c 0 bx N (skC l k st.col st.row v false) K->RS cCl A6 5 m0 base v K ->
  ∃v' K',An (λrec1 vs H=>Uf5 K0 rec1 (ag vs 0) (ag vs 1) (ag vs 2) (ag vs 3) (ag vs 4) (ag vs 5) (ag vs 6) H) fuel [.ptr K0.length 0 0,.ptr (K0.length+1) 0 0,.ptr (K0.length+3) 0 0,.ptr (K0.length+4) 0 0,.i6 (n:Int),.i6 (s:Int),.i6 (i:Int)] K =
    some (.ret (.tup [Bq b (c+1) 0,.agg (skC l k ((st.col+n:Nat):Int) st.row v' false)]),K')/\Kp m0 K0 K' /\
   RS cCl A6 5 m0 (base++(List.range' i m).map λj=>⟨st.x+((st.col+j:Nat):Int),st.y+(st.row:Int),UInt8.ofNat s⟩) v' K':=by
 intro m
 induction m with
 |zero=>
  intro i fuel base v K hi hf hb h hR;obtain⟨fuel,rfl⟩:∃j,fuel=j+1:=⟨fuel-1,by omega⟩;rw[Bx];have bT:(decide ((i:Int)<(n:Int))&&decide ((s:Int)>0))=false:=by rw[zXd (by omega)];rfl
  obtain⟨K',r1,r2,r3⟩:=VbD hm hc nM (show n<=1000000000000 by omega) h hR bT (An (λrec1 vs H=>Uf5 K0 rec1 (ag vs 0) (ag vs 1) (ag vs 2) (ag vs 3) (ag vs 4) (ag vs 5) (ag vs 6) H) fuel);refine⟨v,K',r1,r2,?_⟩;simpa using r3
 |succ m ih=>
  intro i fuel base v K hi hf hb h hR;obtain⟨fuel,rfl⟩:∃j,fuel=j+1:=⟨fuel-1,by omega⟩;have hlen:=h.len;have h1:decide ((i:Int)<(n:Int))=true:=zXc (by omega);have h2:decide ((s:Int)>0)=true:=zXc (by omega);have l1:Ad true 2 (.ptr (K0.length+1) 0 1) K=some (.agg [.bool k.p0,.sl k.e0 k.t0]):=by rw[Vco h.sk (by simp[skC])];rfl
  have l3:Ad true 2 (.ptr (K0.length+1) 0 3) K=some (.agg [.bool k.p1,.sl k.e1 k.t1]):=by rw[Vco h.sk (by simp[skC])];rfl
  have l5:Ad false 1 (.ptr (K0.length+1) 0 5) K=some (.i6 (st.col:Int)):=by rw[Bt h.sk];rfl
  have l6:Ad false 1 (.ptr (K0.length+1) 0 6) K=some (.i6 (st.row:Int)):=by rw[Bt h.sk];rfl
  have l7:Ad false 1 (.ptr (K0.length+1) 0 7) K=some v:=by rw[Bt h.sk];rfl
  have wn:I_.wrap ((st.col:Int)+(i:Int))=((st.col+i:Nat):Int):=by rw[Am (by omega) (by omega)];simp
  have a1:∀K,Uaa (.agg [.bool k.p0,.sl k.e0 k.t0]) (big ((st.col+i:Nat):Int)) K=some (.ret (big (st.x+((st.col+i:Nat):Int))),K):=λK=>Vkl hk.fx (Rep.big (VfO (show st.col+i<=1152921504606846976 by omega))) K;have a2:∀K,Uaa (.agg [.bool k.p1,.sl k.e1 k.t1]) (big (st.row:Int)) K=some (.ret (big (st.y+(st.row:Int))),K):=λK=>Vkl hk.gy (Rep.big (VfO (show st.row<=1152921504606846976 by omega))) K;obtain⟨w,K1,r1,r2,r3⟩:=hR.snoc (bytes:=72) (by omega) ⟨st.x+((st.col+i:Nat):Int),st.y+(st.row:Int),UInt8.ofNat s⟩ .ti (by omega) (by omega);have g1:=h.grow r3;have st1:Ae 1 (.ptr (K0.length+1) 0 7) w K1=some (K1.set (K0.length+1) (.c0 (skC l k st.col st.row w false))):=Dm (o:=7) g1.sk r2.one (by simp[skC]);have g2:=g1.mvs hm (skC l k st.col st.row w false);have R2:=r2.put (c':=skC l k st.col st.row w false) g1.sk;obtain⟨v',K',q1,q2,q3⟩:=ih (i+1) fuel _ w _ (by omega) (by omega) (by simp;omega) g2 R2;refine⟨v',K',?_,q2,?_⟩;rw[Bx];refine Eq.trans ?_ q1;generalize An (λrec1 vs H=>Uf5 K0 rec1 (ag vs 0) (ag vs 1) (ag vs 2) (ag vs 3) (ag vs 4) (ag vs 5) (ag vs 6) H) fuel=rec;show Uf5 K0 rec (.ptr K0.length 0 0) (.ptr (K0.length+1) 0 0) (.ptr (K0.length+3) 0 0) (.ptr (K0.length+4) 0 0) (.i6 (n:Int)) (.i6 (s:Int)) (.i6 (i:Int)) K=_;unfold Uf5;simp only[GMw,h1,h2,Aj,VK,l1,l3,l5,l6,l7,wn,KE ((st.col+i:Nat):Int) _ (by omega) (by omega),KE (st.row:Int) _ (by omega) (by omega),a1,a2,zYi,AV,U0,VcQ,Np,r1,st1,Ar (show i<9223372036854775807 by omega)];rw[VP]at q3;rw[YD,Xo];exact q3
theorem Va6 (b:zAa)(a:Nat):Ig b a≠0:=by unfold Ig;split<;>decide
theorem Vh6 (hc:c<=b.length):((Fe b c).1=none->Mq b c=((Fe b c).2.1,0,((Fe b c).2.2:Int))) /\
  (∀e,(Fe b c).1=some e->(Mq b c).1=(Fe b c).2.1/\e.1=Ig b (Fe b c).2.1/\((Mq b c).2.1≠0\/((Mq b c).2.1=0/\(Mq b c).2.2<0))):=by
 have qO:=R5 hc;by_cases he:b.length<=c
 ·have aG:c=b.length:=by omega
  subst aG;have hs:Fe b b.length=(some (Fi b b.length [98,33]),b.length,0):=by unfold Fe;simp only[OT,VL,zYe]
  have hg:Mq b b.length=(b.length,Ig b b.length,0):=by unfold Mq;rw[zYc (VM _)]
  rw[hs,hg];exact⟨(λh=>nomatch h),λe h=>(by injection h with h;subst h;exact⟨rfl,Ea (VM _) _,.inl (Va6 _ _)⟩)⟩
 ·have hg:Mq b c=if (Fe b c).1=none then ((Fe b c).2.1,0,((Fe b c).2.2:Int))else if (Fe b c).2.1=c then (c,0,-1)else (c+1,Ig b (c+1),0):=by unfold Mq;rw[zYb he]
  refine⟨λh=>by rw[hg,zYc h],λe h=>?_⟩;have hne:(Fe b c).1≠none:=by rw[h];simp
  rw[hg,zYb hne];have two:(Fe b c)=(some (Fi b c [98,33]),c,0)\/(Fe b c)=(some (Fi b (c+1) [65,33]),c+1,0):=by
   unfold Fe at hne⊢;split;rename_i q;rw[zYc q]at hne;exact zYf rfl hne
   ·rename_i q;rw[zYb q]at hne;split;rename_i q;rw[zYc q]at hne;exact zYf rfl hne;rename_i q;rw[zYb q]at hne;split;rename_i q;rw[zYc q]at hne;exact zYf rfl hne;rename_i q;rw[zYb q]at hne;split;rename_i q;rw[zYc q]at hne;split;exact .inr rfl;rename_i q;rw[zYb q]at hne;exact zYf rfl hne;exact .inl rfl
  rcases two with q | q;rw[q]at h⊢;injection h with h;subst h;rw[zYc rfl];exact⟨rfl,Ea hc _,.inr ⟨rfl,show(-1:Int)<0 by decide⟩⟩;rw[q]at h⊢;injection h with h;subst h;rw[zYb (by show ¬c+1=c;omega)];exact⟨rfl,Ea (by omega) _,.inl (Va6 _ _)⟩
theorem Vhv {m:Nat}(hm:m0<=K0.length)(hb:b.length<100000000)(hc:c<=b.length)(hk:TW st k)(yK:m<=1000000)(hok:LOk m st)(hbx:bx<=1000){v:Ab}{K:Aa}{n:Nat}(hn:n<=999999999)(T:TI m0 K0 b c 0 bx N (skC st.law k st.col st.row v false) K)(hR:RS cCl A6 5 m0 st.cells v K)(M:((Er×Nat)×LSt)×Bool)
  (hM:M=match Fe b c with
   |(some e,d,_)=>(((some e,d),st),false)
   |(none,d,s)=>match Ix bx n s st with
    |(some e,st')=>(((some e,d),st'),false)
    |(none,st')=>(((none,d+1),st'),false)):∃v' K',(
    (Ad true 3 (.ptr K0.length 0 0) K).bind λx79=>
    bK K0 (UbL x79 K) λx80 H81=>
    (Ao 0 x80).bind λx82=>
    (Ao 1 x80).bind λx83=>
    bK K0 (As (Ae 3 (.ptr K0.length 0 0) x82 H81)) λ_ H85=>
    (Ac 2 (.ptr K0.length 0 0)).bind λx86=>
    (Ad false 1 x86 H85).bind λx87=>
    (Af .n .neq x87 (.i6 0)).bind λx88=>
    gk x88 false (some x83) λx89=>
    gk x88 false (Af .n .lss x89 (.i6 0)) λx90=>
    (Ay x88 (.bool true) x90).bind λx91=>
    Ai x91 (
    bC (Ad true 3 (.ptr K0.length 0 0) H85) (λ_=>True) λx92=>
    AH (Uda x92 H85) λx93 H94=>
    AH (As (Ae 3 (.ptr (K0.length+3) 0 0) x93 H94)) λ_ H96=>
    bC (Ad true 9 (.ptr (K0.length+1) 0 0) H96) (λx97=>Ad true 9 (.ptr (K0.length+1) 0 0) H94=some x97/\Ad true 9 (.ptr (K0.length+1) 0 0) H85=some x97/\True) λx97=>
    bK K0 (As (Ae 9 (.ptr (K0.length+4) 0 0) x97 H96)) λ_ H99=>
    (BV [Ad true 3 (.ptr (K0.length+3) 0 0) H99,Ad true 9 (.ptr (K0.length+4) 0 0) H99]).bind λx100=>rK K0 x100 H99) (
    (Af .n .gtr x83 (.i6 0)).bind λx101=>
    gk x101 true (Ac 6 (.ptr (K0.length+1) 0 0)) λx102=>
    gk x101 true (Ad false 1 x102 H85) λx103=>
    gk x101 true (Ac 0 (.ptr (K0.length+2) 0 0)) λx104=>
    gk x101 true (Ad false 1 x104 H85) λx105=>
    gk x101 true (Af .n .geq x103 x105) λx106=>
    gk x101 true (some x106) λx107=>
    gk x107 false (Ac 5 (.ptr (K0.length+1) 0 0)) λx108=>
    gk x107 false (Ad false 1 x108 H85) λx109=>
    gk x107 false (some (.i6 (n:Int))) λx110=>
    gk x107 false (Af .n .add x109 x110) λx111=>
    gk x107 false (Ac 0 (.ptr (K0.length+2) 0 0)) λx112=>
    gk x107 false (Ad false 1 x112 H85) λx113=>
    gk x107 false (Af .n .gtr x111 x113) λx114=>
    gk x101 true (Ay x107 (.bool true) x114) λx115=>
    (Ay x101 x115 (.bool false)).bind λx116=>
    Ai x116 (
    (Ac 2 (.ptr K0.length 0 0)).bind λx117=>
    bK K0 (As (Ae 1 x117 (.i6 4) H85)) λ_ H119=>
    bC (Ad true 3 (.ptr K0.length 0 0) H119) (λ_=>True) λx120=>
    AH (As (Ae 3 (.ptr (K0.length+3) 0 0) x120 H119)) λ_ H122=>
    bC (Ad true 9 (.ptr (K0.length+1) 0 0) H122) (λx123=>Ad true 9 (.ptr (K0.length+1) 0 0) H119=some x123/\True) λx123=>
    bK K0 (As (Ae 9 (.ptr (K0.length+4) 0 0) x123 H122)) λ_ H125=>
    (BV [Ad true 3 (.ptr (K0.length+3) 0 0) H125,Ad true 9 (.ptr (K0.length+4) 0 0) H125]).bind λx126=>rK K0 x126 H125) (
    An (λrec1 vs H=>Uf5 K0 rec1 (ag vs 0) (ag vs 1) (ag vs 2) (ag vs 3) (ag vs 4) (ag vs 5) (ag vs 6) H) AI [(.ptr K0.length 0 0),(.ptr (K0.length+1) 0 0),(.ptr (K0.length+3) 0 0),(.ptr (K0.length+4) 0 0),(.i6 (n:Int)),x83,(.i6 0)] H85))) =
    some (.ret (.tup [Bq b (M.1.1.2+(if M.2 then 1 else 0)) (B8 M.1.1.1),.agg (skC st.law k M.1.2.col M.1.2.row v' M.2)]),K')/\Kp m0 K0 K'/\RS cCl A6 5 m0 M.1.2.cells v' K':=by
 have hcb:=hok.c;have pK:=hok.r;have hkb:=hok.k;have hv:=hR.one;have ld0:=T.ldc;have sg:=λK=>VhH hb hc K;obtain⟨p1,p2⟩:=Vh6 hc;have qO:=R5 hc;obtain⟨o1,o2,o3,o4⟩:=qO;generalize Mq b c=S at *;obtain⟨d,E,z⟩:=S;generalize Fe b c=M1 at *;obtain⟨er,d',s⟩:=M1;dsimp only at sg p1 p2 o1 o2 o3 hM;have sto:=T.stc d E;have T1:=T.mvc hm d E;have R1:=hR.put (c':=AP b d E) T.cur;generalize K.set K0.length (.c0 (AP b d E))=K1 at *;have le1:=T1.le;have ld1:=T1.ldc;cases er with
 |some e=>obtain⟨w1,w2,w3⟩:=p2 e rfl;subst w1 hM;have hst:=λK=>FT b d E K;rw[<-w2]at hst;obtain⟨K3,K4,f1,f2,f3,f4,f5,f6,f7,f8⟩:=T1.out hm rfl (HP st.law k _ _ _ hv) R1 d e.1;refine⟨v,K4,?_,f7,f8⟩;rcases w3 with w | ⟨w,w'⟩;have hne:(!decide (E=0))=true:=(by rw[zXd w];rfl);simp only[GMw,ld0,sg,sto,le1,ld1,hne,hst,f1,f2,f3,f4,f5,f6,Aj,VK,Nat.add_zero,Ba,Bd,zYi,B2,AW,Bl,zXb,CF,zYe];have hne:(!decide (E=0))=false:=(by rw[zXc w];rfl);have hlt:decide (z<0)=true:=zXc w';simp only[GMw,ld0,sg,sto,le1,ld1,hne,hlt,hst,f1,f2,f3,f4,f5,f6,Aj,VK,Nat.add_zero,Ba,Bd,zYi,B2,AW,Bl,zXb,CF,zYe]
 |none=>
  have w:=p1 rfl;injection w with w1 w2;injection w2 with w2 w3;subst w1 w2 w3;have dlt:=o3 rfl;have hne:(!decide ((0:Int)=0))=false:=rfl;have hlt:decide ((s:Int)<0)=false:=zXd (by omega);dsimp only at hM;by_cases h0:s=0;subst h0;have hp:Ix bx n 0 st=(none,{st with col:=st.col+n}):=(by unfold Ix;rw[zYc rfl]);rw[hp]at hM;subst hM;have bT:(decide ((0:Int)<(n:Int))&&decide (((0:Nat):Int)>0))=false:=(by rw[show decide (((0:Nat):Int)>0)=false from rfl,Ye]);obtain⟨fu,wP⟩:∃f,AI=f+1:=⟨AI-1,by rw[Cw]⟩;obtain⟨K',r1,r2,r3⟩:=VbD hm (show d<100000000 by omega) (show st.col<=10000000000000000 by omega) (show n<=1000000000000 by omega) T1 R1 bT (An (λrec1 vs H=>Uf5 K0 rec1 (ag vs 0) (ag vs 1) (ag vs 2) (ag vs 3) (ag vs 4) (ag vs 5) (ag vs 6) H) fu);refine⟨v,K',?_,r2,r3⟩;have hgt:decide (((0:Nat):Int)>0)=false:=rfl;simp only[GMw,ld0,sg,sto,le1,hlt,hgt,Aj,VK,Nat.add_zero,Ba,Bd,CO,zYe];rw[wP,Bx];exact r1
  ·have hgt:decide ((s:Int)>0)=true:=zXc (by omega);have l6:Ad false 1 (.ptr (K0.length+1) 0 6) K1=some (.i6 (st.row:Int)):=(by rw[Bt T1.sk];rfl);have l5:Ad false 1 (.ptr (K0.length+1) 0 5) K1=some (.i6 (st.col:Int)):=(by rw[Bt T1.sk];rfl);have lb:Ad false 1 (.ptr (K0.length+2) 0 0) K1=some (.i6 bx):=(by rw[Bt T1.lim];rfl);have wn:I_.wrap ((st.col:Int)+(n:Int))=(st.col:Int)+(n:Int):=Am (by omega) (by omega);have s4:=T1.ste 4;have T2:=T1.mvc hm d 4;have R2:=R1.put (c':=AP b d 4) T1.cur;have lim:(decide ((st.row:Int)>=bx)||decide ((st.col:Int)+n>bx))=true->Ix bx n s st=(some (4,[]),st):=λh=>(by unfold Ix;rw[zYb h0,zYc h]);have nol:(decide ((st.row:Int)>=bx)||decide ((st.col:Int)+n>bx))=false->Ix bx n s st=(none,{st with col:=st.col+n,cells:=st.cells++Qb st n s}):=λh=>(by unfold Ix;rw[zYb h0,zYb (by rw[h];decide)]);generalize K1.set K0.length (.c0 (AP b d 4))=K2 at *;have ld2:=T2.ldc;obtain⟨K3,K4,f1,f2,f3,f4,f5,f6,f7,f8⟩:=T2.out hm rfl (HP st.law k _ _ _ hv) R2 d 4;cases d1:decide ((st.row:Int)>=bx)with
   |true=>rw[lim (by rw[d1];rfl)]at hM;subst hM;refine⟨v,K4,?_,f7,f8⟩;simp only[GMw,ld0,sg,sto,le1,hlt,hgt,l6,lb,d1,s4,ld2,f1,f2,f3,f4,f5,f6,Aj,VK,Nat.add_zero,Ba,Bd,zYi,B2,AW,Bl,zXb,CF,zYe]
   |false=>
    cases d2:decide ((st.col:Int)+n>bx)with
    |true=>rw[lim (by rw[d1,d2];rfl)]at hM;subst hM;refine⟨v,K4,?_,f7,f8⟩;simp only[GMw,ld0,sg,sto,le1,hlt,hgt,l6,l5,lb,d1,wn,d2,s4,ld2,f1,f2,f3,f4,f5,f6,Aj,VK,Nat.add_zero,Ba,Bd,zYi,B2,AW,Bl,zXb,CF,zYe]
    |false=>rw[nol (by rw[d1,d2];rfl)]at hM;subst hM;have q1:=of_decide_eq_false d1;have q2:=of_decide_eq_false d2;obtain⟨v',K',r1,r2,r3⟩:=Vhw hm hk hok.x hok.y (show st.col<=10000000000000000 by omega) (show st.row<=10000000000000000 by omega) (show 0<s by omega) (show n<=1000000000 by omega) (show d<100000000 by omega) n 0 AI st.cells v K1 (by omega) (by rw[Cw];omega) (by omega) T1 R1;refine⟨v',K',?_,r2,?_⟩;simp only[GMw,ld0,sg,sto,le1,hlt,hgt,l6,l5,lb,d1,wn,d2,Aj,VK,Nat.add_zero,Ba,Bd,CO,zYe];exact r1;show RS cCl A6 5 m0 (st.cells++Qb st n s) v' K';unfold Qb;rw[Yz];exact r3
theorem VeN {m:Nat}(hm:m0<=K0.length)(hb:b.length<100000000)(hc:c<=b.length)(hk:TW st k)(yK:m<=1000000)(hok:LOk m st)(hbx:bx<=1000){v:Ab}(hR:RS cCl A6 5 m0 st.cells v K0):∃v' K',UdE (Bq b c 0) (.agg (skC st.law k st.col st.row v false)) (.agg [.i6 bx,.i6 N]) K0 =
    some (.ret (.tup [Bq b ((JP b bx c st).1.1.2+(if (JP b bx c st).2 then 1 else 0)) (B8 (JP b bx c st).1.1.1),.agg (skC st.law k (JP b bx c st).1.2.col (JP b bx c st).1.2.row v' (JP b bx c st).2)]),K')/\Kp m0 K0 K' /\
   RS cCl A6 5 m0 (JP b bx c st).1.2.cells v' K':=by
 have hcb:=hok.c;have pK:=hok.r;have hkb:=hok.k;have hv:=hR.one;have b1:Bj true 3 (Bq b c 0) K0=some (.ptr K0.length 0 0,K0++[.c0 (AP b c 0)]):=BF rfl rfl;have b2:Bj true 9 (.agg (skC st.law k st.col st.row v false)) (K0++[.c0 (AP b c 0)])=some (.ptr (K0.length+1) 0 0,K0++[.c0 (AP b c 0),.c0 (skC st.law k st.col st.row v false)]):=by rw[BF (sz:=9) (cs:=skC st.law k st.col st.row v false) (H:=K0++[Blk.c0 (AP b c 0)]) (HP _ _ _ _ _ hv) rfl];simp
 have b3:Bj true 2 (.agg [.i6 bx,.i6 N]) (K0++[.c0 (AP b c 0),.c0 (skC st.law k st.col st.row v false)])=some (.ptr (K0.length+2) 0 0,K0++[.c0 (AP b c 0),.c0 (skC st.law k st.col st.row v false),.c0 [.i6 bx,.i6 N]]):=by rw[BF (sz:=2) (cs:=[.i6 bx,.i6 N]) rfl rfl];simp
 have b4:Av (some z3C) (K0++[.c0 (AP b c 0),.c0 (skC st.law k st.col st.row v false),.c0 [.i6 bx,.i6 N]])=some (.ptr (K0.length+3) 0 0,K0++[.c0 (AP b c 0),.c0 (skC st.law k st.col st.row v false),.c0 [.i6 bx,.i6 N],.c0 z3C]):=by rw[alloc_eq rfl];simp
 have b5:Av (some z9C) (K0++[.c0 (AP b c 0),.c0 (skC st.law k st.col st.row v false),.c0 [.i6 bx,.i6 N],.c0 z3C])=some (.ptr (K0.length+4) 0 0,K0++[.c0 (AP b c 0),.c0 (skC st.law k st.col st.row v false),.c0 [.i6 bx,.i6 N],.c0 z3C,.c0 z9C]):=by rw[alloc_eq rfl];simp
 unfold UdE;rw[show([.str [],.i6 0,.i6 0]:List Ab)=z3C from rfl,show([.str [],.bool false,.sl [] .ti,.bool false,.sl [] .ti,.i6 0,.i6 0,.sl [] .ti,.bool false]:List Ab)=z9C from rfl];have T0:=TI.new (m0:=m0) (K0:=K0) b c 0 bx N (skC st.law k st.col st.row v false) hm;have R0:=hR.left [.c0 (AP b c 0),.c0 (skC st.law k st.col st.row v false),.c0 [.i6 bx,.i6 N],.c0 z3C,.c0 z9C];simp only[GMw,b1,b2,b3,b4,b5];generalize K0++[.c0 (AP b c 0),.c0 (skC st.law k st.col st.row v false),.c0 [.i6 bx,.i6 N],.c0 z3C,.c0 z9C]=K at *;have cnt:=λK=>VeP hb hc K;have cok:=TB hc;have ld0:=T0.ldc;unfold JP;generalize Ij b c 11 c 0=M at *;obtain⟨er,d,t⟩:=M;obtain⟨q1,q2,q3,q4⟩:=cok;dsimp only at cnt q1 q2 q3 q4⊢;have sto:=T0.stc d (B8 er);have T1:=T0.mvc hm d (B8 er);have R1:=R0.put (c':=AP b d (B8 er)) T0.cur;generalize K.set K0.length (.c0 (AP b d (B8 er)))=K1 at *;have le1:=T1.le;cases er with
 |some e=>
  obtain⟨K3,K4,f1,f2,f3,f4,f5,f6,f7,f8⟩:=T1.out hm rfl (HP st.law k _ _ _ hv) R1 d (B8 (some e));have hne:(!decide (B8 (some e)=0))=true:=by rw[CF,zXd (Oo q4 rfl)];rfl
  have ld1:=T1.ldc;refine⟨v,K4,?_,f7,f8⟩;simp only[GMw,ld0,cnt,sto,le1,ld1,hne,f1,f2,f3,f4,f5,f6,Aj,VK,Nat.add_zero,Ba,Bd,NK,zYi,B2,AW,Bl,zXb,zYe]
 |none=>
  rw[show Voj (none,d,t)=(.i6 ((max t 1:Nat):Int),.bool (decide (t≠0))) from rfl]at cnt;rw[CO]at *;have hn:max t 1<=999999999:=by omega
  have ld1:=T1.ldc;have hne:(!decide ((0:Int)=0))=false:=rfl;have h36:=λK=>M9 b d 0 36 K;rw[show((36:UInt8).toNat:Int)=36 from rfl,OU q1,zXc (rfl:(0:Int)=0),zXn]at h36;have h33:=λK=>M9 b d 0 33 K;rw[show((33:UInt8).toNat:Int)=33 from rfl,OU q1,zXc (rfl:(0:Int)=0),zXn]at h33;simp only[GMw,ld0,cnt,sto,le1,ld1,h36,Aj,VK,Nat.add_zero,Ba,Bd,NK];by_cases v36:AE b d [36]=true;simp only[v36,zYd];have hlt:=Ca v36;have l1:=T1.la;have wd:=Ar (show d<9223372036854775807 by omega);have s1:=T1.sta (d+1);have T2:=T1.mvc hm (d+1) 0;have R2:=R1.put (c':=AP b (d+1) 0) T1.cur;generalize K1.set K0.length (.c0 (AP b (d+1) 0))=K2 at *;have l6:Ad false 1 (.ptr (K0.length+1) 0 6) K2=some (.i6 (st.row:Int)):=(by rw[Bt T2.sk];rfl);have wn:I_.wrap ((st.row:Int)+((max t 1:Nat):Int))=((st.row+max t 1:Nat):Int):=(by rw[Am (by omega) (by omega)];omega);have s6:Ae 1 (.ptr (K0.length+1) 0 6) (.i6 ((st.row+max t 1:Nat):Int)) K2=some (K2.set (K0.length+1) (.c0 (skC st.law k st.col ((st.row+max t 1:Nat):Int) v false))):=Dm (o:=6) T2.sk rfl (by simp[skC]);have T3:=T2.mvs hm (skC st.law k st.col ((st.row+max t 1:Nat):Int) v false);have R3:=R2.put (c':=skC st.law k st.col ((st.row+max t 1:Nat):Int) v false) T2.sk;generalize K2.set (K0.length+1) (.c0 (skC st.law k st.col ((st.row+max t 1:Nat):Int) v false))=K3 at *;have s5:Ae 1 (.ptr (K0.length+1) 0 5) (.i6 0) K3=some (K3.set (K0.length+1) (.c0 (skC st.law k ((0:Nat):Int) ((st.row+max t 1:Nat):Int) v false))):=Dm (o:=5) T3.sk rfl (by simp[skC]);have T4:=T3.mvs hm (skC st.law k ((0:Nat):Int) ((st.row+max t 1:Nat):Int) v false);have R4:=R3.put (c':=skC st.law k ((0:Nat):Int) ((st.row+max t 1:Nat):Int) v false) T3.sk;generalize K3.set (K0.length+1) (.c0 (skC st.law k ((0:Nat):Int) ((st.row+max t 1:Nat):Int) v false))=K5 at *;have ld4:=T4.ldc;obtain⟨K6,K7,f1,f2,f3,f4,f5,f6,f7,f8⟩:=T4.out hm rfl (HP st.law k _ _ _ hv) R4 (d+1) 0;refine⟨v,K7,?_,f7,f8⟩;simp only[GMw,l1,wd,s1,l6,wn,s6,s5,ld4,f1,f2,f3,f4,f5,f6,Nat.add_zero,zYi,B2,AW,Bl,zXb,CO,zYe];rw[YG]at v36;simp only[GMw,v36,ld1,h33,zYe];by_cases v33:(AE b d [33]&&decide (t=0))=true;simp only[v33,zYd];have v33':=v33;rw[VV]at v33;have ht:=of_decide_eq_true v33.2;have hlt:=Ca v33.1;have dK:decide (t≠0)=false:=zXd (λh=>h ht);have l1:=T1.la;have wd:=Ar (show d<9223372036854775807 by omega);have s1:=T1.sta (d+1);have T2:=T1.mvc hm (d+1) 0;have R2:=R1.put (c':=AP b (d+1) 0) T1.cur;generalize K1.set K0.length (.c0 (AP b (d+1) 0))=K2 at *;have s8:Ae 1 (.ptr (K0.length+1) 0 8) (.bool true) K2=some (K2.set (K0.length+1) (.c0 (skC st.law k st.col st.row v true))):=Dm (o:=8) T2.sk rfl (by simp[skC]);have T3:=T2.mvs hm (skC st.law k st.col st.row v true);have R3:=R2.put (c':=skC st.law k st.col st.row v true) T2.sk;generalize K2.set (K0.length+1) (.c0 (skC st.law k st.col st.row v true))=K3 at *;have ld3:=T3.ldc;obtain⟨K6,K7,f1,f2,f3,f4,f5,f6,f7,f8⟩:=T3.out hm rfl (HP st.law k _ _ _ hv) R3 (d+1) 0;refine⟨v,K7,?_,f7,f8⟩;simp only[GMw,v33.1,dK,l1,wd,s1,s8,ld3,f1,f2,f3,f4,f5,f6,zYi,B2,AW,Bl,zXb,CO];rw[YG]at v33;obtain⟨v',K',r1,r2,r3⟩:=Vhv hm hb q1 hk yK hok hbx hn T1 R1 _ rfl;simp only[v33,VL,zYe];refine⟨v',K',?_,r2,r3⟩;cases w33:AE b d [33]with|false=>simp only[GMw,ld1,Aj,VK,Nat.add_zero]at r1⊢;exact r1|true=>rw[w33,zXn]at v33;have ht:=of_decide_eq_false v33;have dK:decide (t≠0)=true:=zXc ht;simp only[GMw,dK,ld1,Aj,VK,Nat.add_zero]at r1⊢;exact r1

end
section
variable {bx N:Int}{b0 p a:Nat}{b:zAa}{st:LSt}{H:Aa}{f0 f1 g0 g1 v:Ab}
theorem Vnp (st:LSt)(s:Nat):Qa st s 0=st:=by unfold Qa Qb;simp
theorem VhC {n s m:Nat}(hn:n<=999999999)(hm:m<=1000000)(hok:LOk m st)(hbx:bx<=1000)(h:RLe bx N b0 p b a st H):Nv bx N b0 p b H (Ube (.ptr p 0 0) (.i6 (n:Int)) (.i6 (s:Int)) H) (.tup []) (((Ix bx n s st).1,a),(Ix bx n s st).2):=by
 have hc:=hok.c;have hr:=hok.r;have hk:=hok.k;have hh:=h;obtain⟨f0,f1,g0,g1,v,h⟩:=h;have pY:Ad false 1 (.ptr p 0 9) H=some (.i6 (st.col:Int)):=by rw[Bt h.lx];rfl
 have hrw:Ad false 1 (.ptr p 0 10) H=some (.i6 (st.row:Int)):=by rw[Bt h.lx];rfl
 have hbw:Ad false 1 (.ptr p 0 2) H=some (.i6 bx):=by rw[Bt h.lx];rfl
 have tD:=PJ (show st.col+n<9223372036854775808 by omega);have hds:decide ((s:Int)=0)=decide (s=0):=by rw[VZ];simp
 unfold Ube Ix;by_cases h0:s=0
 ·obtain⟨K,hst,s1,s2⟩:∃K,Ae 1 (.ptr p 0 9) (.i6 ((st.col+n:Nat):Int)) H=some K/\RLx bx N b0 p b a {st with col:=st.col+n} f0 f1 g0 g1 v K/\Ext b0 p H K:=
   ⟨_,Dm (o:=9) (v:=.i6 ((st.col+n:Nat):Int)) h.lx rfl (by simp[rdL]),h.set (a':=a) (st':={st with col:=st.col+n}) h.row rfl h.fx h.gy⟩
  simp only[h0,GMw,HPw,Ah,pY,tD,hst,zYd];exact⟨K,rfl,s2,_,_,_,_,_,s1⟩
 ·have hcc:((st.col+n:Nat):Int)=(st.col:Int)+n:=by simp
  have j1:decide ((st.row:Int)>=bx)=false->decide ((st.col:Int)+n>bx)=false->Nv bx N b0 p b H (Ueo H (.ptr p 0 0) (.i6 (n:Int)) (.i6 (s:Int)) H) (.tup []) ((none,a),Qa st s n):=by intro d1 d2;have hg:Ad true 2 (.ptr p 0 7) H=some (.agg [g0,g1]):=(by rw[Vco h.lx (by simp[rdL])];rfl);have aU:=λK=>VjB (n:=st.row) K h.gy (SY hok.y) (VjN (show st.row<=1152921504606846976 by omega));have hal:Av (some [.bool false,.sl [] .ti]) H=some (.ptr H.length 0 0,H++[.c0 [.bool false,.sl [] .ti]]):=alloc_eq rfl;have hst:Ae 2 (.ptr H.length 0 0) (big (st.y+st.row)) (H++[.c0 [.bool false,.sl [] .ti]])=some (H++[.c0 (A7 (st.y+st.row))]):=(by have e0:=Ver (p:=H.length) (o:=0) (z:=st.y+st.row) (H:=H++[Blk.c0 [Ab.bool false,.sl [] .ti]]) (cs:=[Ab.bool false,.sl [] .ti]) (by simp) (by simp);rw[e0,Bg];rfl);have hp:=h.lt;unfold Ueo;simp only[GMw,HPw,Ah,hrw,Vpz (st.row:Int) _ (by omega) (by omega),VjQ,hg,aU];have h2:=h.push [.c0 (A7 (st.y+st.row))];obtain⟨H7,s1,s2,s3⟩:=Vca (H0:=H) (bx:=bx) (N:=N) (b0:=b0) (b:=b) (a:=a) (p:=p) (st:=st) (q:=H.length) (s:=s) (n:=n) (by omega) hok.x (by omega) (by omega) (by omega) n 0 (H++[.c0 (A7 (st.y+st.row))]) (by omega) (by simp) AI (by rw[Cw];omega) (by rw[Vnp];exact⟨_,_,_,_,_,h2⟩);exact⟨H7,s1,(Ext.push b0 p h.ble _).trans s2,s3⟩
  have e3:({st with col:=st.col+n,cells:=st.cells++Qb st n s}:LSt)=Qa st s n:=rfl;simp only[hds,h0,GMw,HPw,Ah,hrw,hbw,zYe];cases d1:decide ((st.row:Int)>=bx)with
  |true=>simp only[GMw,HPw,MF,zYd];exact⟨H,rfl,Ext.refl _ _ _,hh⟩
  |false=>simp only[GMw,HPw,pY,hbw,tD,hcc];cases d2:decide ((st.col:Int)+n>bx)with|true=>simp only[GMw,HPw,MF,zYd];exact⟨H,rfl,Ext.refl _ _ _,hh⟩|false=>simp only[GMw,zYe];rw[e3];exact j1 d1 d2
def Vmw (bx N:Int)(b0 p:Nat)(b:zAa)(H:Aa)(x:Out)(s:((Er×Nat)×LSt)×Bool):Prop:=∃H',x=some (PV s.1.1.1 (.bool s.2),H')/\Ext b0 p H H'/\RLe bx N b0 p b s.1.1.2 s.1.2 H'
theorem VhA {m:Nat}(hb:b.length<1000000000)(ha:a<=b.length)(hm:m<=1000000)(hok:LOk m st)(hbx:bx<=1000)(h:RLe bx N b0 p b a st H):Vmw bx N b0 p b H (Ucs (.ptr p 0 0) H) (JP b bx a st):=by
 obtain⟨H1,r1,r2,r3⟩:=VhD hb ha h;have tD:=TB ha;unfold Ucs JP;rw[r1];generalize Ij b a 11 a 0=M at r1 r2 r3 tD;obtain⟨er,c,t⟩:=M;obtain⟨c1,c2,c3,c4⟩:=tD;dsimp only at r1 r2 r3 c1 c2 c3⊢;cases er with
 |some e=>simp only[BO,GMw,HPw];exact⟨H1,rfl,r2,r3⟩
 |none=>
  have lN:((max t 1:Nat):Int)=max (t:Int) 1:=by omega
  have vU:max t 1<=999999999:=by omega
  have xZ:=r3;obtain⟨f0,f1,g0,g1,v,h1⟩:=r3;have step:∀(st':LSt)(d:Nat)(K:Aa),d<b.length->Ext b0 p H K->RLe bx N b0 p b d st' K->Vmw bx N b0 p b H (Ucr H (.ptr p 0 0) K) (((none,d+1),st'),false):=by intro st' d K hd hE hK;obtain⟨f0,f1,g0,g1,v,hK⟩:=hK;have aM:Ae 1 (.ptr p 0 1) (.i6 ((d+1:Nat):Int)) K=some (Ci K p b (rdL bx N st' f0 f1 g0 g1 v) (d+1)):=N6 hK.lx _;obtain⟨h2,e2⟩:=hK.go0 (d+1);unfold Ucr;simp only[GMw,HPw,Ah,Gl hK.lx,Ar (show d<9223372036854775807 by omega),aM];exact⟨_,rfl,hE.trans e2,_,_,_,_,_,h2⟩
  simp only[BA,GMw,HPw,RA,Ah,E5 h1.lx c1];cases h36:AE b c [36]with
  |true=>have hlt:=Ca h36;have hr:=hok.r;have hrw:Ad false 1 (.ptr p 0 10) H1=some (.i6 (st.row:Int)):=(by rw[Bt h1.lx];rfl);have aU:=PJ (show st.row+max t 1<9223372036854775808 by omega);rw[lN]at aU;have rA:=h1.lt;obtain⟨C2,hC2⟩:∃C,C=(Ab.str b::.i6 (c:Int)::rdL bx N st f0 f1 g0 g1 v).set 10 (.i6 ((st.row+max t 1:Nat):Int)):=⟨_,rfl⟩;obtain⟨H2,hH2⟩:∃K,K=H1.set p (.c0 C2):=⟨_,rfl⟩;have hst:Ae 1 (.ptr p 0 10) (.i6 ((st.row+max t 1:Nat):Int)) H1=some H2:=(by rw[hH2,hC2];exact Dm (o:=10) h1.lx rfl (by simp[rdL]));have wA:H2[p]? = some (.c0 C2):=(by rw[hH2,VX rA]);obtain⟨H3,hH3⟩:∃K,K=H2.set p (.c0 (C2.set 9 (.i6 0))):=⟨_,rfl⟩;have cJ:Ae 1 (.ptr p 0 9) (.i6 0) H2=some H3:=(by rw[hH3];exact Dm (o:=9) wA rfl (by rw[hC2];simp[rdL]));obtain⟨s1,s2⟩:RLx bx N b0 p b c {st with row:=st.row+max t 1,col:=0} f0 f1 g0 g1 v H3/\Ext b0 p H1 H3:=(by rw[hH3,hH2,Yr,hC2];exact h1.set (a':=c) (st':={st with row:=st.row+max t 1,col:=0}) h1.row rfl h1.fx h1.gy);simp only[GMw,HPw,zYd,hrw,aU,hst,cJ];exact step _ c _ hlt (r2.trans s2) ⟨_,_,_,_,_,s1⟩
  |false=>
   simp only[GMw,zYe];have zZ:decide ((t:Int)=0)=decide (t=0):=(by rw[VZ];simp);have rest:Vmw bx N b0 p b H (bK H (Uba (.ptr p 0 0) H1) λx40 H41=>bK H (Ube (.ptr p 0 0) (.i6 (max (t:Int) 1)) x40 H41) λx42 H43=>Ucr H (.ptr p 0 0) H43) (match Fe b c with
     |(some e,d,_)=>(((some e,d),st),false)
     |(none,d,s)=>match Ix bx (max t 1) s st with
      |(some e,st')=>(((some e,d),st'),false)
      |(none,st')=>(((none,d+1),st'),false)):=by
    obtain⟨H2,s1,s2,s3⟩:=VhB hb c1 xZ;have qO:=R5 (b:=b) c1;rw[s1];generalize Fe b c=M at s1 s2 s3 qO;obtain⟨er,d,s⟩:=M;obtain⟨d1,d2,d3,d4⟩:=qO;dsimp only at s1 s2 s3 d1 d2 d3⊢;cases er with
    |some e=>simp only[BO,HPw];exact⟨H2,rfl,r2.trans s2,s3⟩
    |none=>obtain⟨H3,t1,t2,t3⟩:=VhC (s:=s) vU hm hok hbx s3;rw[lN]at t1;simp only[BA,GMw,t1];generalize Ix bx (max t 1) s st=M at t1 t2 t3;obtain⟨er,st'⟩:=M;dsimp only at t1 t2 t3⊢;cases er with|some e=>simp only[BO,HPw];exact⟨H3,rfl,(r2.trans s2).trans t2,t3⟩|none=>simp only[BA,GMw];exact step st' d H3 (d3 rfl) ((r2.trans s2).trans t2) t3
   cases h33:AE b c [33]with
   |true=>simp only[GMw,zZ];cases h0:decide (t=0)with|true=>simp only[GMw,HPw,zYd];exact⟨H1,rfl,r2,xZ⟩|false=>simp only[GMw,zYe];exact rest
   |false=>simp only[GMw,zYe];exact rest

end
section
variable {bx N:Int}{b0 p a:Nat}{b:zAa}{st:LSt}{H:Aa}{f0 f1 g0 g1 v:Ab}
theorem Vk8 (hb:b.length<=1000000)(hbx:bx<=1000)(H0:Aa):∀(m a:Nat)(st:LSt)(H:Aa),a<=b.length->b.length-a<m->∀n,m<=n->∀q,q+(b.length-a)<=1000000->LOk q st->RLe bx N b0 p b a st H ->
  Nv bx N b0 p b H (An (λrec1 vs H=>Uct H0 rec1 (ag vs 0) H) n [.ptr p 0 0] H) (.tup []) (Ov b bx m a st):=by
 intro m
 induction m with
 |zero=>intro a st H _ h;omega
 |succ m ih=>
  intro a st H ha hm n hn q hq hok hh;obtain⟨n,rfl⟩:∃k,n=k+1:=⟨n-1,by omega⟩;rw[Bx];generalize hg:An (λrec1 vs H=>Uct H0 rec1 (ag vs 0) H) n=rec;have h:=hh;obtain⟨f0,f1,g0,g1,v,h⟩:=h;unfold Uct Ov;simp only[GMw,HPw,Ah,IT h.lx];by_cases he:a=b.length;simp only[he,zXc,GMw,HPw,zYd];rw[he]at h hh;simp only[IS h.lx,HPw];exact⟨H,rfl,Ext.refl _ _ _,hh⟩
  ·have hlt:a<b.length:=(by omega);simp only[he,GMw,zYe,E5 h.lx ha];cases h32:AE b a [32]with
   |true=>have aM:Ae 1 (.ptr p 0 1) (.i6 ((a+1:Nat):Int)) H=some (Ci H p b (rdL bx N st f0 f1 g0 g1 v) (a+1)):=N6 h.lx _;obtain⟨h2,e2⟩:=h.go0 (a+1);simp only[GMw,HPw,zYd,Gl h.lx,Ar (show a<9223372036854775807 by omega),aM];obtain⟨H2,s1,s2,s3⟩:=ih (a+1) st _ (by omega) (by omega) n (by omega) q (by omega) hok ⟨_,_,_,_,_,h2⟩;rw[hg]at s1;exact⟨H2,s1,e2.trans s2,s3⟩
   |false=>
    simp only[GMw,zYe];cases cR:AE b a [13,10]with
    |true=>
     have hx:=VfA h.lx ha (by omega) [33] (by decide);have hle:=NL ha [33];have aM:=Tw cR [33];simp only[GMw,HPw,zYd,hx];generalize EA b a [33]=M at hle aM;obtain⟨er,c⟩:=M;dsimp only at hle aM⊢;obtain⟨h2,e2⟩:=h.go0 c;cases er with
     |some e=>simp only[BO,HPw];exact⟨_,rfl,e2,_,_,_,_,_,h2⟩
     |none=>have:=aM rfl;simp only[BA,GMw];obtain⟨H2,s1,s2,s3⟩:=ih c st _ hle.2 (by omega) n (by omega) q (by omega) hok ⟨_,_,_,_,_,h2⟩;rw[hg]at s1;exact⟨H2,s1,e2.trans s2,s3⟩
    |false=>
     obtain⟨H1,r1,r2,r3⟩:=VhA (by omega) ha (m:=q) (by omega) hok hbx hh;have ht:=Va5 hbx ha st;simp only[GMw,zYe,r1];generalize JP b bx a st=M at r1 r2 r3 ht;obtain⟨⟨⟨er,c⟩,st'⟩,d⟩:=M;obtain⟨t1,t2,t3,t4,t5,t6⟩:=ht;dsimp only at r2 r3 t1 t2 t3 t4 t5 t6⊢;cases d with
     |true=>have:=t6 rfl;subst this;simp only[BA,GMw];exact⟨H1,rfl,r2,r3⟩
     |false=>
      cases er with
      |some e=>simp only[BO,HPw];exact⟨H1,rfl,r2,r3⟩
      |none=>have:=t3 rfl rfl;simp only[BA,GMw];obtain⟨H2,s1,s2,s3⟩:=ih c st' H1 t1 (by omega) n (by omega) (q+1) (by omega) (t5 q (by omega) hok) r3;rw[hg]at s1;exact⟨H2,s1,r2.trans s2,s3⟩
theorem Vnd (h:RLe bx N b0 p b 0 st H)(hb:b.length<=1000000)(hbx:bx<=1000)(hok:LOk 0 st):Nv bx N b0 p b H (UaA (.ptr p 0 0) H) (.tup []) (Mi b bx st):=by
 obtain⟨H1,r1,r2,r3⟩:=Vk9 (by omega) (Wi b.length) h;have ho:=Vbd (Wi b.length) st;unfold UaA Mi;rw[r1];generalize ViI b 0 st=M at r1 r2 r3 ho;obtain⟨⟨er,c⟩,st'⟩:=M;obtain⟨k1,k2,k3,k4⟩:=ho;dsimp only at r2 r3 k1 k2⊢;cases er with
 |some e=>simp only[BO,HPw];exact⟨H1,rfl,r2,r3⟩
 |none=>simp only[BA,GMw];obtain⟨H4,s1,s2,s3⟩:=Vk8 (bx:=bx) (N:=N) (b0:=b0) (p:=p) hb hbx H (b.length+1) c st' H1 k1 (by omega) AI (by rw[Cw];omega) 0 (by omega) (k4 0 hok) r3;exact⟨H4,s1,r2.trans s2,s3⟩
def Qm (er:Er):Ab:=match er with
 |none=>.agg [.i6 0,.str []]
 |some e=>.agg [.i6 e.1,.str e.2]
theorem UQ (h:RLe bx N b0 p b 0 st H)(hb:b.length<=1000000)(hbx:bx<=1000)(hok:LOk 0 st):∃H',Ubf (.bfn 69 [.ptr p 0 0]) H=some (.ret (Qm (Mi b bx st).1.1),H')/\Ext b0 p H H'/\RLe bx N b0 p b (Mi b bx st).1.2 (Mi b bx st).2 H':=by
 obtain⟨H1,r1,r2,r3⟩:=Vnd h hb hbx hok;refine⟨H1,?_,r2,r3⟩;have ho:ent 69 (ap1 UaA) noO 69 [.ptr p 0 0] H=UaA (.ptr p 0 0) H:=by unfold ent;rw[zYc rfl];rfl
 unfold Ubf PC;simp only[ho,r1,GMw];cases(Mi b bx st).1.1 with|none=>rfl|some e=>rfl

end
def Vgt {bx N:Int}(h:Iq bx N=true):bx<=1000:=by unfold Iq at h;simp only[VV,zXe]at h;omega
def Ho (b:zAa)(bx N:Int)(H:Aa)(hb:b.length<=500000):Uae (.str b) (.agg [.i6 bx,.i6 N]) H=some (.ret (EQ (HR b bx N)),H):=by
 have b1:Az (some [(.str []),(.sl [] .ti)]) []=some (.agg [.str [],.sl [] .ti]):=rfl;have b2:∀s,Az (some [(.str []),(.i6 0)]) [(0,1,.str s)]=some (.agg [.str s,.i6 0]):=λ_=>rfl;have b3:∀s,Az (some [(.str []),(.i6 0),(.i6 0),(.i6 0),(.str []),(.bool false),(.sl [] .ti),(.bool false),(.sl [] .ti),(.i6 0),(.i6 0),(.sl [] .ti)]) [(0,2,.agg [.str s,.i6 0]),(2,2,.agg [.i6 bx,.i6 N])]=some (.agg [.str s,.i6 0,.i6 bx,.i6 N,.str [],.bool false,.sl [] .ti,.bool false,.sl [] .ti,.i6 0,.i6 0,.sl [] .ti]):=λ_=>rfl;unfold Uae HR;simp only[GMw,HPw,Nat.reduceAdd,Vlf];cases hf:Iq bx N with
 |false=>
  simp only[GMw,HPw,Nat.reduceAdd,b1,zYe,EQ,HH]
  rfl
 |true=>
  simp only[GMw,HPw,Nat.reduceAdd,b2,b3,zYd];have hbx:bx<=1000:=Vgt hf;obtain⟨F,hF⟩:∃F:Aa,F=H++[.c0 [.i6 bx,.i6 N],.c0 [.str [],.sl [] .ti],.c0 [.str b,.i6 0,.i6 bx,.i6 N,.str [],.bool false,.sl [] .ti,.bool false,.sl [] .ti,.i6 0,.i6 0,.sl [] .ti]]:=⟨_,rfl⟩;have hR:RLe bx N H.length (H.length+2) b 0 Ff F:=⟨.bool false,.sl [] .ti,.bool false,.sl [] .ti,.sl [] .ti,by omega,by unfold Lx;rw[hF];simp[rdL,Ff],.inl ⟨rfl,rfl⟩,.inr ⟨rfl,rfl,rfl⟩,.inr ⟨rfl,rfl,rfl⟩⟩;obtain⟨H1,c1,c2,c3⟩:=UQ hR (by omega) hbx RE;rw[hF]at c1;have hlim:H1[H.length]? = some (.c0 [.i6 bx,.i6 N]):=c2.cel _ _ (by omega) (by rw[hF];simp);have hres:H1[H.length+1]? = some (.c0 [.str [],.sl [] .ti]):=c2.cel _ _ (by omega) (by rw[hF];simp);have hold:∀i,i<H.length->H1[i]? = H[i]? := λi hi=>by rw[c2.old i hi,hF,VN hi]
  simp only[c1,GMw];have bX:=Vmq (b:=b) hbx (by omega) RE;have hpos:=bX.2.1;have bX:=bX.2.2;generalize Mi b bx Ff=A at c3 hpos bX;obtain⟨⟨er,c⟩,st⟩:=A;dsimp only at c3⊢;obtain⟨f0,f1,g0,g1,v,c3⟩:=c3;have cT:=(VJ.1 hres).1;cases er with
  |some e=>
   have qY:=hpos e rfl;have kA:=A1 (G:=[Blk.c0 [.i6 e.1,.str e.2]]) hres;have hst:=Dz (sz:=2) (ws:=[.str [],.sl [] .ti]) kA rfl rfl rfl;have aH:(H1++[Blk.c0 [.i6 e.1,.str e.2]]).set (H.length+1) (.c0 [.str [],.sl [] .ti])=H1++[Blk.c0 [.i6 e.1,.str e.2]]:=(by apply Xm;intro i;by_cases hi:H.length+1=i;subst hi;rw[VX (by simp;omega),kA];rw[VH hi]);rw[aH]at hst;have hld:=CV (sz:=2) kA rfl;have iY:=Bt (o:=1) (sz:=1) (A1 (G:=[Blk.c0 [.i6 e.1,.str e.2]]) c3.lx);have htk:(H1++[Blk.c0 [.i6 e.1,.str e.2]]).take H.length=H:=Cu λi hi=>(by rw[VN (by omega)];exact hold i hi);by_cases he:e.1=0;exact zYf he (by omega)
   ·have hne:(!decide (e.1=0))=true:=(by simp[he]);simp only[Qm,GMw,HPw,Nat.reduceAdd,hne,b1,hst,iY,hld,Fl htk,EQ,HH]
    rfl
  |none=>
   have pA:st.cells.length<=1000*(b.length+1):=bX.k;have iX:∀c∈st.cells,c.ok:=bX.ok;obtain⟨tk,hv⟩:=c3.row.sl;have kD:=λK=>Vis st.cells tk K (by omega) iX;have sC:=Bt (o:=11) (sz:=1) (A1 (G:=[Blk.c0 [.i6 0,.str []]]) c3.lx);have dY:=λG=>Bt (o:=4) (sz:=1) (A1 (G:=G) (A1 (G:=[Blk.c0 [.i6 0,.str []]]) c3.lx));obtain⟨K,hK⟩:∃K,K=H1++[Blk.c0 [.i6 0,.str []]]:=⟨_,rfl⟩;have hKr:K[H.length+1]? = some (.c0 [.str [],.sl [] .ti]):=(by rw[hK];exact A1 hres);have hKm:K[H.length]? = some (.c0 [.i6 bx,.i6 N]):=(by rw[hK];exact A1 hlim);have hKo:∀i,i<H.length->K[i]? = H[i]? := λi hi=>(by rw[hK,VN (by omega)];exact hold i hi);have hKl:H.length+1<K.length:=(VJ.1 hKr).1;rw[<-hK]at sC dY;have bad:∀L:List Nd,((Az (some [(.str []),(.sl [] .ti)]) []).bind λx57=>
      (BG (.str b)).bind λx58=>
      bP H (As (Ae 2 (.ptr (H.length+1) 0 0) x57 (K++[.c0 [.sl (enL cNd L) .no]]))) λ_ H60=>
      (BV [Ad true 2 (.ptr (H.length+1) 0 0) H60,some x58,some (.i6 4)]).bind λx61=>rPN H x61 H60)=some (.ret (EQ (([],[]),(b.length:Int),4)),H):=by
    intro L;have eQ:=A1 (G:=[Blk.c0 [.sl (enL cNd L) .no]]) hKr;have hst:=Dz (sz:=2) (ws:=[.str [],.sl [] .ti]) eQ rfl rfl rfl;have hld:=CV (sz:=2) (H:=(K++[Blk.c0 [.sl (enL cNd L) .no]]).set (H.length+1) (.c0 [.str [],.sl [] .ti])) (p:=H.length+1) (cs:=[.str [],.sl [] .ti]) (by rw[VX (by simp;omega)]) rfl;have htk:((K++[Blk.c0 [.sl (enL cNd L) .no]]).set (H.length+1) (.c0 [.str [],.sl [] .ti])).take H.length=H:=Cu λi hi=>(by rw[VH (by omega),VN (by omega)];exact hKo i hi);simp only[b1,GMw,HPw,Nat.reduceAdd,hst,hld,Fl htk,EQ,HH]
    rfl
   have sB:Ad false 1 (.ptr (H.length+2) 0 11) K=some (.sl (enL cCl st.cells) tk):=(by rw[sC,hv];rfl);have sD:∀G,Ad false 1 (.ptr (H.length+2) 0 4) (K++G)=some (.str st.law):=λG=>dY G;simp only[Qm,GMw,HPw,Nat.reduceAdd];rw[<-hK];simp only[GMw,HPw,sB,kD];generalize Iy st.cells=O;obtain⟨Q,e⟩:=O;dsimp only;have gJ:=bad Q;have nD:=Bt (o:=1) (sz:=1) (A1 (G:=[Blk.c0 [.sl (enL cNd Q) .no]]) hKm);simp only[GMw,HPw,S1]at gJ⊢;by_cases he:e=0;subst he;by_cases hlen:(Q.length:Int)<=N;have hgt:¬(Q.length:Int)>N:=(by omega);have eQ:=A1 (G:=[Blk.c0 [.sl (enL cNd Q) .no]]) hKr;have hst:=Dz (sz:=2) (ws:=[.str st.law,.sl (enL cNd Q) .no]) eQ rfl rfl rfl;have hld:=CV (sz:=2) (H:=(K++[Blk.c0 [.sl (enL cNd Q) .no]]).set (H.length+1) (.c0 [.str st.law,.sl (enL cNd Q) .no])) (p:=H.length+1) (cs:=[.str st.law,.sl (enL cNd Q) .no]) (by rw[VX (by simp;omega)]) rfl;have htk:((K++[Blk.c0 [.sl (enL cNd Q) .no]]).set (H.length+1) (.c0 [.str st.law,.sl (enL cNd Q) .no])).take H.length=H:=Cu λi hi=>(by rw[VH (by omega),VN (by omega)];exact hKo i hi);have gI:Az (some [(.str []),(.sl [] .ti)]) [(0,1,.str st.law),(1,1,.agg [.sl (enL cNd Q) .no])]=some (.agg [.str st.law,.sl (enL cNd Q) .no]):=rfl;simp only[GMw,HPw,Nat.reduceAdd,Ax,nD,hgt,hlen,sD,gI,hst,hld,Fl htk,EQ,HH,zYd];have hgt:(Q.length:Int)>N:=(by omega);simp only[GMw,HPw,Ax,nD,hgt,hlen,zYe]at gJ⊢;exact gJ;have hne:(!decide (e=0))=true:=(by simp[he]);simp only[GMw,he,zYe]at gJ⊢;exact gJ
def S2 (b:zAa)(H:Aa)(hb:b.length<=500000):Uaj (.str b) H=some (.ret (.tup [.str (Vw b).1,.bool (Vw b).2]),H):=by
 have b2:∀s,Az (some [(.str []),(.i6 0)]) [(0,1,.str s)]=some (.agg [.str s,.i6 0]):=λ_=>rfl;have b3:∀s,Az (some [(.str []),(.i6 0),(.i6 0),(.i6 0),(.str []),(.bool false),(.sl [] .ti),(.bool false),(.sl [] .ti),(.i6 0),(.i6 0),(.sl [] .ti)]) [(0,2,.agg [.str s,.i6 0]),(2,2,.agg [.i6 1000,.i6 100000])]=some (.agg [.str s,.i6 0,.i6 1000,.i6 100000,.str [],.bool false,.sl [] .ti,.bool false,.sl [] .ti,.i6 0,.i6 0,.sl [] .ti]):=λ_=>rfl;have b4:Az (some [(.i6 0),(.i6 0)]) [(0,1,(.i6 1000)),(1,1,(.i6 100000))]=some (.agg [.i6 1000,.i6 100000]):=rfl;unfold Uaj Vw;simp only[GMw,HPw,Nat.reduceAdd,b2,b3,b4];obtain⟨F,hF⟩:∃F:Aa,F=H++[.c0 [.str b,.i6 0,.i6 1000,.i6 100000,.str [],.bool false,.sl [] .ti,.bool false,.sl [] .ti,.i6 0,.i6 0,.sl [] .ti]]:=⟨_,rfl⟩;have hR:RLe 1000 100000 H.length H.length b 0 Ff F:=⟨.bool false,.sl [] .ti,.bool false,.sl [] .ti,.sl [] .ti,VM _,by unfold Lx;rw[hF];simp[rdL,Ff],.inl ⟨rfl,rfl⟩,.inr ⟨rfl,rfl,rfl⟩,.inr ⟨rfl,rfl,rfl⟩⟩;obtain⟨H1,c1,c2,c3⟩:=UQ hR (by omega) (by decide) RE;rw[hF]at c1;have hlen:H.length<=H1.length:=by have:=c2.len;rw[hF]at this;simp at this;omega
 have hold:∀i,i<H.length->H1[i]? = H[i]? := λi hi=>by rw[c2.old i hi,hF,VN hi]
 have htk:∀G,(H1++G).take H.length=H:=λG=>Cu λi hi=>by rw[VN (by omega)];exact hold i hi
 simp only[c1,GMw];cases(Mi b 1000 Ff).1.1 with|none=>simp only[Qm,GMw,HPw,Nat.reduceAdd];exact Gw rfl (htk _)|some e=>by_cases h0:e.1=0;simp only[Qm,GMw,HPw,Nat.reduceAdd,h0];exact Gw rfl (htk _);simp only[Qm,GMw,HPw,Nat.reduceAdd,h0];exact Gw rfl (htk _)
def ViQ (b:zAa)(N:Int)(A:(Er×Nat)×LSt):(zAa×List Nd)×Int×Int:=
 match A with
 |((some e,c),_)=>(([],[]),(c:Int),e.1)
 |((none,_),st)=>
  if decide ((Iy st.cells).2=0)&&decide (((Iy st.cells).1.length:Int)<=N)then ((st.law,(Iy st.cells).1),0,0)
  else (([],[]),(b.length:Int),4)
def VlI (b:zAa)(N:Int)(c:Nat)(st:LSt):ViQ b N ((none,c),st)=if (Iy st.cells).2=0/\((Iy st.cells).1.length:Int)<=N then ((st.law,(Iy st.cells).1),0,0)else (([],[]),(b.length:Int),4):=by unfold ViQ;by_cases h1:(Iy st.cells).2=0;by_cases h2:((Iy st.cells).1.length:Int)<=N;simp[h1,h2];simp[h1,h2];simp[h1]
theorem VhF (b:zAa)(bx N:Int):HR b bx N=if Iq bx N then ViQ b N (Mi b bx Ff)else (([],[]),0,1):=rfl
def Vp6 (x:UInt8):([32]:zAa).contains x=decide (x.toNat=32):=by have:=Mm (λc=>([32]:zAa).contains c==decide (c.toNat=32)) (by decide +kernel) x;exact eq_of_beq this
def Vp7 (x:UInt8):([13,10]:zAa).contains x=(decide (x.toNat=10)||decide (x.toNat=13)):=by have:=Mm (λc=>([13,10]:zAa).contains c==(decide (c.toNat=10)||decide (c.toNat=13))) (by decide +kernel) x;exact eq_of_beq this
section
variable {H:Aa}{b:zAa}{bx N:Int}{er:Er}{c:Nat}{st:LSt}{v:Ab}{K:Aa}
theorem Vfr (bx:Int)(n s:Nat)(st:LSt):(Ix bx n s st).2.law=st.law/\(Ix bx n s st).2.x=st.x/\(Ix bx n s st).2.y=st.y:=by unfold Ix;split;exact⟨rfl,rfl,rfl⟩;split<;>exact⟨rfl,rfl,rfl⟩
theorem Veg (b:zAa)(bx:Int)(c:Nat)(st:LSt):(JP b bx c st).1.2.law=st.law/\(JP b bx c st).1.2.x=st.x/\(JP b bx c st).1.2.y=st.y:=by
 unfold JP;generalize Ij b c 11 c 0=M;obtain⟨er,d,t⟩:=M;cases er with
 |some e=>exact⟨rfl,rfl,rfl⟩
 |none=>
  dsimp only;split;exact⟨rfl,rfl,rfl⟩
  ·split;exact⟨rfl,rfl,rfl⟩
   ·generalize Fe b d=M;obtain⟨er,f,s⟩:=M;cases er with
    |some e=>exact⟨rfl,rfl,rfl⟩
    |none=>dsimp only;have h:=Vfr bx (max t 1) s st;generalize Ix bx (max t 1) s st=M at h;obtain⟨er,st'⟩:=M;cases er<;>exact h
theorem DI.set3k (h:DI H b bx N er c K){p:Nat}(hp:H.length+3<=p)(B:Blk):DI H b bx N er c (K.set p B):=
 ⟨by rw[VH (by omega)];exact h.lim,by rw[VH (by omega)];exact h.res,by rw[VH (by omega)];exact h.cur,λi hi=>by rw[VH (by omega)];exact h.old i hi⟩
theorem VeO {e:Int×zAa}(h:DI H b bx N (some e) c K)(he:e.1≠0)(rec:LK):Uf7 H rec (.ptr H.length 0 0) (.ptr (H.length+1) 0 0) (.ptr (H.length+2) 0 0) (.ptr (H.length+3) 0 0) K=some (.ret (EQ (([],[]),(c:Int),e.1)),H):=by
 have hf:decide (e.1=0)=false:=zXd he;have hl3:=h.le3;have hld:=h.ld;have b1:Az (some [(.str []),(.sl [] .ti)]) []=some (.agg [.str [],.sl [] .ti]):=rfl;have tX:=CV (sz:=2) h.lim rfl;have fine:=λK=>Vaf b c he (p:=[.str [],.sl [] .ti]) (m:=[.i6 bx,.i6 N]) rfl rfl rfl rfl (.i6 0) K;have cJ:=Dz (sz:=2) (ws:=[.str [],.sl [] .no]) h.res rfl rfl rfl;have hl:=h.len;have aH:(K.set (H.length+1) (.c0 [.str [],.sl [] .no]))[H.length+1]? = some (.c0 [.str [],.sl [] .no]):=by rw[VX (by omega)]
 have dY:=CV (sz:=2) aH rfl;have htk:(K.set (H.length+1) (.c0 [.str [],.sl [] .no])).take H.length=H:=Cu λi hi=>by rw[VH (by omega)];exact h.old i hi
 have hcv:Bq b c (B8 (some e))=.agg [.str b,.i6 (c:Int),.i6 e.1]:=rfl;rw[CF]at hl3;rw[hcv]at hld;unfold Uf7;simp only[GMw,HPw,Nat.reduceAdd,hl3,hf,hld,b1,tX,fine,cJ,dY,Fl htk,EQ,HH]
 rfl
theorem VkE {k:Bk}(h:DI H b bx N none c K)(lQ:K[H.length+3]? = some (.c0 (skC st.law k st.col st.row v true)))(hR:RS cCl A6 5 H.length st.cells v K)(hn:st.cells.length<600000000)(hok:∀c∈st.cells,c.ok)(d:Nat)(rec:LK):Uf7 H rec (.ptr H.length 0 0) (.ptr (H.length+1) 0 0) (.ptr (H.length+2) 0 0) (.ptr (H.length+3) 0 0) K=some (.ret (EQ (ViQ b N ((none,d),st))),H):=by
 obtain⟨tk,rfl⟩:=hR.sl;have hl3:=h.le3;have hld:=h.ld;rw[CO]at hl3 hld;have kD:=λK=>VkN st.cells tk K (by omega) hok;have hal:Av (some [(.sl [] .ti)]) K=some (.ptr K.length 0 0,K++[.c0 [.sl [] .ti]]):=alloc_eq rfl;have hl:=h.len;have l8:Ad false 1 (.ptr (H.length+3) 0 8) K=some (.bool true):=by rw[Bt lQ];rfl
 have l7:Ad false 1 (.ptr (H.length+3) 0 7) K=some (.sl (enL cCl st.cells) tk):=by rw[Bt lQ];rfl
 have l0:∀G,Ad false 1 (.ptr (H.length+3) 0 0) (K++G)=some (.str st.law):=λG=>by rw[Bt (A1 lQ)];rfl
 unfold Uf7;rw[VlI];generalize Iy st.cells=O at kD;obtain⟨Q,e3⟩:=O;dsimp only at kD⊢;have gI:Az (some [(.str []),(.sl [] .ti)]) [(0,1,.str st.law),(1,1,.agg [.sl (enL cNd Q) .no])]=some (.agg [.str st.law,.sl (enL cNd Q) .no]):=rfl;have qM:Ae 1 (.ptr K.length 0 0) (.agg [.sl (enL cNd Q) .no]) (K++[.c0 [.sl [] .ti]])=some (K++[.c0 [.sl (enL cNd Q) .no]]):=by rw[Dz (sz:=1) (ws:=[.sl (enL cNd Q) .no]) Ap rfl rfl rfl,Bg]
 have g:=h.push [Blk.c0 [.sl (enL cNd Q) .no]];have l4:(K++[Blk.c0 [.sl (enL cNd Q) .no]])[K.length]? = some (.c0 [.sl (enL cNd Q) .no]):=Ap;have ld4:=CV (sz:=1) l4 rfl;have ldc:=g.ld;have ldm:=CV (sz:=2) g.lim rfl;have hcv:Bq b c (B8 none)=.agg [.str b,.i6 (c:Int),.i6 0]:=rfl;rw[hcv]at ldc;have fin:=λK=>VaL b c st.law Q bx N e3 K;have htk:∀B,((K++[Blk.c0 [.sl (enL cNd Q) .no]]).set (H.length+1) B).take H.length=H:=λB=>Cu λi hi=>by rw[VH (by omega)];exact g.old i hi
 have aH:∀B,((K++[Blk.c0 [.sl (enL cNd Q) .no]]).set (H.length+1) B)[H.length+1]? = some B:=λB=>by rw[VX (by rw[VR];omega)]
 by_cases hq:e3=0/\(Q.length:Int)<=N;rw[zYc hq]at fin⊢;have cJ:=Dz (sz:=2) (ws:=[.str st.law,.sl (enL cNd Q) .no]) g.res rfl rfl rfl;have dY:=CV (sz:=2) (aH (.c0 [.str st.law,.sl (enL cNd Q) .no])) rfl;simp only[GMw,hl3,l8,Aj,VK,zYj,l7,kD,Ba,Bd,hal,S1,qM,ldc,l0,ld4,gI,ldm,fin];simp only[GMw,HPw,Nat.reduceAdd,cJ,dY,Fl (htk _),EQ,HH]
 ·rw[zYb hq]at fin⊢;have cJ:=Dz (sz:=2) (ws:=[.str [],.sl [] .no]) g.res rfl rfl rfl;have dY:=CV (sz:=2) (aH (.c0 [.str [],.sl [] .no])) rfl;simp only[GMw,hl3,l8,Aj,VK,zYj,l7,kD,Ba,Bd,hal,S1,qM,ldc,l0,ld4,gI,ldm,fin];simp only[GMw,HPw,Nat.reduceAdd,cJ,dY,Fl (htk _),EQ,HH]
  rfl
theorem VhI (hb:b.length<=400000)(hbx:bx<=1000):∀(m n c q:Nat)(st:LSt)(k:Bk)(v:Ab)(K:Aa),c<=b.length->b.length-c<m->m+1<n->DI H b bx N none c K->K[H.length+3]? = some (.c0 (skC st.law k st.col st.row v false))->TW st k->RS cCl A6 5 H.length st.cells v K->LOk q st->q+(b.length-c)<=500000 ->
  An (λrec1 vs H1=>Uf7 H rec1 (ag vs 0) (ag vs 1) (ag vs 2) (ag vs 3) H1) n [.ptr H.length 0 0,.ptr (H.length+1) 0 0,.ptr (H.length+2) 0 0,.ptr (H.length+3) 0 0] K=some (.ret (EQ (ViQ b N (Ov b bx m c st))),H):=by
 intro m
 induction m with
 |zero=>intro n c q st k v K _ h;omega
 |succ m ih=>
  intro n c q st k v K hc hk hn hD lQ iB hR hok hq;obtain⟨n,rfl⟩:∃m,n=m+1:=⟨n-1,by omega⟩;obtain⟨n,rfl⟩:∃m,n=m+1:=⟨n-1,by omega⟩;rw[Bx];generalize hg:An (λrec1 vs H1=>Uf7 H rec1 (ag vs 0) (ag vs 1) (ag vs 2) (ag vs 3) H1) (n+1)=rec;have hl3:=hD.le3;have hld:=hD.ld;rw[CO]at hl3 hld;have l8:Ad false 1 (.ptr (H.length+3) 0 8) K=some (.bool false):=by rw[Bt lQ];rfl
  have kQ:=λK=>Ed b c 0 K;show Uf7 H rec (.ptr H.length 0 0) (.ptr (H.length+1) 0 0) (.ptr (H.length+2) 0 0) (.ptr (H.length+3) 0 0) K=_;have errs:∀(e:Int×zAa)(d:Nat)(K':Aa),DI H b bx N (some e) d K'->e.1≠0->rec [.ptr H.length 0 0,.ptr (H.length+1) 0 0,.ptr (H.length+2) 0 0,.ptr (H.length+3) 0 0] K'=some (.ret (EQ (([],[]),(d:Int),e.1)),H):=λe d K' h1 h2=>by rw[<-hg,Bx];exact VeO h1 h2 _
  unfold Ov;by_cases he:c=b.length;rw[zYc he];have hst:=λK=>FT b c 0 K;have st1:=hD.sto c (Ig b c);have g1:=hD.mv (some (Fi b c [33])) c;rw[CF,Ea hc]at g1;have:=errs _ c _ g1 (by rw[Ea hc];exact Va6 b c);have wY:decide (b.length<=c)=true:=zXc (by omega);unfold Uf7;simp only[GMw,hl3,l8,hld,kQ,wY,hst,st1,Aj,VK,zYj];exact this
  ·rw[zYb he];have hlt:c<b.length:=(by omega);have wY:decide (b.length<=c)=false:=zXd (by omega);have l0:Ad false 1 (.ptr (H.length+2) 0 0) K=some (.str b):=(by rw[Bt hD.cur];rfl);have l1:Ad false 1 (.ptr (H.length+2) 0 1) K=some (.i6 (c:Int)):=(by rw[Bt hD.cur];rfl);have h1:AE b c [32]=decide (b[c].toNat=32):=Jt (p:=λn=>decide (n=32)) hlt Vp6;have h2:AE b c [13,10]=(decide (b[c].toNat=10)||decide (b[c].toNat=13)):=Jt (p:=λn=>decide (n=10)||decide (n=13)) hlt Vp7;have q1:decide ((b[c].toNat:Int)=32)=AE b c [32]:=(by rw[h1,VZ];simp only[zXe];omega);have q2:decide ((b[c].toNat:Int)=10)=decide (b[c].toNat=10):=(by rw[VZ];simp only[zXe];omega);have q3:decide ((b[c].toNat:Int)=13)=decide (b[c].toNat=13):=(by rw[VZ];simp only[zXe];omega);unfold Uf7;simp only[GMw,hl3,l8,hld,kQ,wY,Aj,VK,Nat.add_zero,zYj,l0,l1,AQ hlt,q1];cases hs:AE b c [32]with
   |true=>have wr:=Ar (show c<9223372036854775807 by omega);have st1:Ae 1 (.ptr (H.length+2) 0 1) (.i6 ((c+1:Nat):Int)) K=some (K.set (H.length+2) (.c0 (AP b (c+1) (B8 none)))):=Dm (o:=1) hD.cur rfl (by simp[AP]);have g1:=hD.mv none (c+1);have key:=ih (n+1) (c+1) q st k v _ (by omega) (by omega) (by omega) g1 (by rw[VH (by omega)];exact lQ) iB (hR.put hD.cur) hok (by omega);rw[hg]at key;simp only[GMw,wr,st1,zYd];exact key
   |false=>
    simp only[GMw,zYe,q2];cases hn2:AE b c [13,10]with
    |true=>
     have e1:=NL hc [33];have e2:=Tw hn2 [33];have e3:=J4 b c [33];have gH:=λK=>Vjd (b:=b) (c:=c) (er:=none) hc (show b.length<1000000000000 by omega) Dt.none K;rw[BU,CO,Kk hc,show(EA b c []).2=(EA b c [33]).2 from rfl,<-Kk hc (rest:=[33])]at gH;generalize EA b c [33]=M at *;obtain⟨er,d⟩:=M;dsimp only at e1 e2 e3 gH⊢;have st1:=hD.sto d (B8 er);have g1:=hD.mv er d;have xG:(K.set (H.length+2) (.c0 (AP b d (B8 er))))[H.length+3]? = some (.c0 (skC st.law k st.col st.row v false)):=(by rw[VH (by omega)];exact lQ);have go:rec [.ptr H.length 0 0,.ptr (H.length+1) 0 0,.ptr (H.length+2) 0 0,.ptr (H.length+3) 0 0] (K.set (H.length+2) (.c0 (AP b d (B8 er))))=some (.ret (EQ (ViQ b N (match (er,d)with | (some e,c)=>((some e,c),st) | (none,c)=>Ov b bx m c st))),H):=by cases er with|some e=>exact errs e d _ g1 (Oo e3 rfl)|none=>have:=e2 rfl;have key:=ih (n+1) d q st k v _ e1.2 (by omega) (by omega) g1 xG iB (hR.put hD.cur) hok (by omega);rw[hg]at key;exact key
     rw[hn2]at h2;cases t1:decide (b[c].toNat=10)with|true=>simp only[GMw,gH,st1,zYd];exact go|false=>rw[t1,zXo]at h2;simp only[GMw,<-h2,l0,l1,AQ hlt,q3,gH,st1,zYd];exact go
    |false=>
     rw[hn2]at h2;have iO:=h2.symm;rw[Y1]at iO;have l9:=CV (sz:=9) lQ rfl;have lm:=CV (sz:=2) hD.lim rfl;obtain⟨v',K',r1,r2,r3⟩:=VeN (N:=N) (show H.length<=K.length by have:=hD.len;omega) (show b.length<100000000 by omega) hc iB (show q<=1000000 by omega) hok hbx hR;have jR:=Va5 hbx hc st;have Zv:=Veg b bx c st;generalize JP b bx c st=M at *;obtain⟨⟨⟨er,d⟩,st'⟩,fi⟩:=M;obtain⟨t1,t2,t3,t4,t5,t6⟩:=jR;obtain⟨k1,k2,k3⟩:=Zv;dsimp only at r1 r2 r3 t1 t2 t3 t4 t5 t6 k1 k2 k3⊢;have t5:=t5 q (by omega) hok;obtain⟨d2,cC⟩:∃d2,d2=d+(if fi then 1 else 0):=⟨_,rfl⟩;rw[<-cC]at r1;have g0:=hD.kp r2;have st1:=g0.sto d2 (B8 er);have g1:=g0.mv er d2;have b0:=r2.cel _ _ lQ;have hl0:=g0.len;have b1:(K'.set (H.length+2) (.c0 (AP b d2 (B8 er))))[H.length+3]? = some (.c0 (skC st.law k st.col st.row v false)):=(by rw[VH (by omega)];exact b0);have R1:=r3.put (c':=AP b d2 (B8 er)) g0.cur;generalize K'.set (H.length+2) (.c0 (AP b d2 (B8 er)))=K1 at *;have st2:=Dz (sz:=9) (ws:=skC st.law k st'.col st'.row v' fi) b1 rfl rfl (HP _ _ _ _ _ r3.one);have g2:=g1.set3k (VM (H.length+3)) (.c0 (skC st.law k st'.col st'.row v' fi));have R2:=R1.put (c':=skC st.law k st'.col st'.row v' fi) b1;have cT:=(VJ.1 b1).1;have b2:(K1.set (H.length+3) (.c0 (skC st.law k st'.col st'.row v' fi)))[H.length+3]? = some (.c0 (skC st.law k st'.col st'.row v' fi)):=(by rw[VX cT]);generalize K1.set (H.length+3) (.c0 (skC st.law k st'.col st'.row v' fi))=K2 at *;rw[<-k1]at b2;have kk:TW st' k:=⟨by rw[k2];exact iB.fx,by rw[k3];exact iB.gy,iB.n0,iB.n1⟩;have nN:=t5.k;simp only[GMw,iO.1,iO.2,zYe,l0,l1,AQ hlt,q3,l9,lm,r1,Ba,Bd,st1,st2];cases fi with
     |true=>have hen:=t6 rfl;subst hen;rw[<-hg,Bx];exact VkE g2 b2 R2 (by omega) t5.ok d _
     |false=>have lP:d2=d:=(by rw[cC];simp);subst lP;cases er with|some e=>exact errs e d2 _ g2 (Oo t4 rfl)|none=>have:=t3 rfl rfl;have key:=ih (n+1) d2 (q+1) st' k v' K2 t1 (by omega) (by omega) g2 b2 kk R2 t5 (by omega);rw[hg]at key;exact key
theorem Vgc {b:zAa}{n:Nat}:∀(k:Nat)(M:Er×Nat)(st:LSt),LOk n st->LOk n (Dy b k M st).2/\(Dy b k M st).2.col=st.col/\(Dy b k M st).2.row=st.row/\(Dy b k M st).2.cells=st.cells
 |0,M,st,h=>⟨⟨h.x,h.y,h.c,h.r,h.k,h.ok⟩,rfl,rfl,rfl⟩
 |k+1,(some e,c),st,h=>⟨⟨h.x,h.y,h.c,h.r,h.k,h.ok⟩,rfl,rfl,rfl⟩
 |k+1,(none,c),st,h=>by unfold Dy;dsimp only;split;have h1:LOk n (Gk b c st).2/\(Gk b c st).2.col=st.col/\(Gk b c st).2.row=st.row/\(Gk b c st).2.cells=st.cells:=(by unfold Gk;split;exact⟨h,rfl,rfl,rfl⟩;exact⟨⟨Gx _,Gx _,h.c,h.r,h.k,h.ok⟩,rfl,rfl,rfl⟩);obtain⟨i1,i2,i3,i4⟩:=Vgc k (Gk b c st).1 (Gk b c st).2 h1.1;exact⟨i1,i2.trans h1.2.1,i3.trans h1.2.2.1,i4.trans h1.2.2.2⟩;exact⟨⟨h.x,h.y,h.c,h.r,h.k,h.ok⟩,rfl,rfl,rfl⟩
theorem VaC {b:zAa}(M:Er×Nat)(st:LSt)(h:Dt M.1):Dt (JU b M st).1.1:=by unfold JU Vey U9 UA Vez Ve0 Ve1 UB;exact Co (Co (Co (Co (Co (Co (Co h λc=>Dh _ _ _ _) λc=>Fa _ _ _ _) λc=>Dh _ _ _ _) λc=>Fa _ _ _ _) λc=>Dh _ _ _ _) λc=>VaF _ _ _) λc=>J4 _ _ _
theorem Vgd {b:zAa}:∀(k:Nat)(M:Er×Nat)(st:LSt),Dt M.1->Dt (Dy b k M st).1.1
 |0,M,st,h=>VaC M st h
 |k+1,(some e,c),st,h=>VaC _ st h
 |k+1,(none,c),st,h=>by unfold Dy;dsimp only;split;refine Vgd k _ _ ?_;unfold Gk;split;exact J4 _ _ _;unfold VeH US UT UU UV;exact Co (Co (Co (Co (Dh _ _ _ _) λc=>Fa _ _ _ _) λc=>Dh _ _ _ _) λc=>Fa _ _ _ _) λc=>J4 _ _ _;exact VaC _ st .none
theorem Vhh {b:zAa}{bx:Int}(N:Int):(∀e,(Dy b (b.length+1) (none,0) Ff).1.1=some e->ViQ b N (Mi b bx Ff)=(([],[]),((Dy b (b.length+1) (none,0) Ff).1.2:Int),e.1)) /\
  ((Dy b (b.length+1) (none,0) Ff).1.1=none->(Dy b (b.length+1) (none,0) Ff).1.2<=b.length/\ViQ b N (Mi b bx Ff)=ViQ b N (Ov b bx (b.length+1) (Dy b (b.length+1) (none,0) Ff).1.2 (Dy b (b.length+1) (none,0) Ff).2)):=by
 obtain⟨n1,n2⟩:(∀e c st',ViI b 0 Ff=((some e,c),st')->Vhk b e c (Dy b (b.length+1) (none,0) Ff).1)/\(∀c st',ViI b 0 Ff=((none,c),st')->Dy b (b.length+1) (none,0) Ff=((none,c),st')):=Vc5 (b:=b) (b.length+1) 0 Ff (Wi _) (by omega);have hl:=Vbd (Wi b.length) Ff;unfold Mi;generalize Dy b (b.length+1) (none,0) Ff=D at *;generalize ViI b 0 Ff=L at *;obtain⟨⟨er,c⟩,st'⟩:=L;obtain⟨⟨er2,c2⟩,st2⟩:=D;dsimp only at n1 n2⊢;cases er with
 |some e=>
  rcases n1 e c st' rfl with ⟨a1,a2,a3⟩ | ⟨a1,a2,a3⟩
  ·subst a3;refine⟨λe' h=>?_,λh=>zYf h a2⟩;subst h;rw[CF]at a1;rw[a1]
   rfl
  injection a1 with a1 a4;subst a1 a4 a2;refine⟨(λe' h=>by cases h),λ_=>⟨VM _,?_⟩⟩;unfold Ov;rw[zYc rfl];unfold Fi;rw[zYc rfl];show(([],[]),((b.length:Nat):Int),e.1)=(([],[]),((b.length:Nat):Int),(3:Int));rw[a3]
 |none=>have:=n2 c st' rfl;injection this with w1 w2;injection w1 with w1 w3;subst w1 w2 w3;exact⟨(λe' h=>by cases h),λ_=>⟨hl.le,rfl⟩⟩

end
def VhU (b:zAa)(bx N:Int)(H:Aa)(hb:b.length<=400000):Uam (.str b) (.agg [.i6 bx,.i6 N]) H=some (.ret (EQ (HR b bx N)),H):=by
 have b1:Az (some [(.str []),(.sl [] .ti)]) []=some (.agg [.str [],.sl [] .ti]):=rfl;have b2:Az (some [(.str []),(.i6 0),(.i6 0)]) [(0,1,.str b)]=some (Bq b 0 0):=rfl;have b3:Az (some [(.str []),(.bool false),(.sl [] .ti),(.bool false),(.sl [] .ti),(.i6 0),(.i6 0),(.sl [] .ti),(.bool false)]) []=some (.agg z9C):=rfl;rw[VhF];unfold Uam;simp only[GMw,HPw,Nat.reduceAdd,MA];cases hf:Iq bx N with
 |false=>
  simp only[GMw,HPw,Nat.reduceAdd,b1,zYe,EQ,HH]
  rfl
 |true=>
  have hbx:bx<=1000:=Vgt hf;obtain⟨law',k',h1,h2,h3,h4⟩:=VhJ (show b.length<100000000 by omega) (H++[.c0 [.i6 bx,.i6 N],.c0 [.str [],.sl [] .ti]]);obtain⟨n1,n2⟩:=Vhh (b:=b) (bx:=bx) N;have hE:=Vgd (b:=b) (b.length+1) (none,0) Ff .none;obtain⟨k1,k2,k3,k4⟩:=Vgc (b:=b) (b.length+1) (none,0) Ff RE;generalize Dy b (b.length+1) (none,0) Ff=D at *;obtain⟨⟨er,c⟩,st⟩:=D;dsimp only at h1 h2 n1 n2 k1 k2 k3 k4 hE;simp only[GMw,HPw,Nat.reduceAdd,b2,b3,h1,zYd];have kY:Ae 3 (.ptr 0 0 0) (Bq b c (B8 er)) [Blk.c0 z3C,Blk.c0 z9C]=some [.c0 (AP b c (B8 er)),.c0 z9C]:=Dz (sz:=3) (p:=0) (cs:=z3C) (ws:=AP b c (B8 er)) (H:=[Blk.c0 z3C,Blk.c0 z9C]) rfl rfl rfl rfl;have zB:Ae 9 (.ptr 0 0 0) (.agg (skC law' k' 0 0 (.sl [] .ti) false)) [Blk.c0 z9C]=some [.c0 (skC law' k' 0 0 (.sl [] .ti) false)]:=Dz (sz:=9) (p:=0) (cs:=z9C) (ws:=skC law' k' 0 0 (.sl [] .ti) false) (H:=[Blk.c0 z9C]) rfl rfl rfl rfl;unfold z3C z9C at kY;unfold z9C at zB;simp only[GMw,HPw,kY,zB];have hD:DI H b bx N er c (H++[.c0 [.i6 bx,.i6 N],.c0 [.str [],.sl [] .ti],.c0 (AP b c (B8 er)),.c0 (skC law' k' 0 0 (.sl [] .ti) false)]):=⟨by simp,by simp,by simp,λi hi=>VN hi⟩;cases er with
  |some e=>obtain⟨fu,wP⟩:∃f,AI=f+1:=⟨AI-1,by rw[Cw]⟩;rw[n1 e rfl,wP,Bx];exact VeO hD (Oo hE rfl) _
  |none=>obtain⟨w1,w2⟩:=n2 rfl;obtain⟨w3,w4⟩:=h2 rfl;rw[w2];subst w3;exact VhI hb hbx (b.length+1) AI c 0 st k' (.sl [] .ti) _ w1 (by omega) (by rw[Cw];omega) hD (by rw[k2,k3];simp[Ff]) w4 (.inl ⟨by rw[k4];rfl,rfl⟩) k1 (by omega)
def Vfd (A B:List Nd)(t t':Tok)(H:Aa)(hA:A.length<1000000000000):UdX (.sl (enL cNd A) t) (.sl (enL cNd B) t') H=some (.ret (.bool (decide (A=B))),H):=by
 unfold UdX;simp only[GMw,Ax];by_cases hl:A.length=B.length
 ·have hd:decide ((A.length:Int)=(B.length:Int))=true:=zXc (by omega);simp only[GMw,hd];have key:=Bf (G:=λrec1 vs H1=>UeL H rec1 (ag vs 0) (ag vs 1) (ag vs 2) H1) (σ:=Nat) (λi=>i<=A.length)
   (λi=>[.sl (enL cNd A) t,.sl (enL cNd B) t',.i6 (i:Int)]) (λ_=>H) (λi=>A.length-i) (λi=>some (.ret (.bool (decide (A.drop i=B.drop i))),H)) (λi rec hi hrec=>?_) 0 (Wi _) (by omega)
  simpa using key;unfold UeL;by_cases h:i<A.length;have h':i<B.length:=(by omega);have hlt:(i:Int)<(A.length:Int):=(by omega);have hw:=Ar (show i<9223372036854775807 by omega);have:=hrec (i+1) h (by omega);rw[Wl h,Wl h'];simp only[GMw,Ak,Ax,hlt,A4 h,A4 h',Jz,Vn5,hw];by_cases he:A[i]=B[i];simp only[he,GMw,List.cons.injEq,true_and];exact this;simp only[he,GMw,List.cons.injEq,false_and];have hlt:¬(i:Int)<(A.length:Int):=(by omega);rw[Xb (by omega),Xb (by omega)];simp only[GMw,Ak,Ax,hlt]
 have hd:decide ((A.length:Int)=(B.length:Int))=false:=zXd (by omega);have hne:decide (A=B)=false:=zXd λh=>hl (by rw[h]);simp only[GMw,hd,hne]
def Vic (A B:List Nd)(H:Aa)(hA:A.length<1000000000000):UdY (.agg [.sl (enL cNd A) .no]) (.agg [.sl (enL cNd B) .no]) H=some (.ret (.bool (decide (A=B))),H):=by unfold UdY;simp only[GMw,HPw,Vfd A B .no .no _ hA]
def VhY (r r':zAa)(A B:List Nd)(H:Aa)(hA:A.length<1000000000000):Uan (pat r A) (pat r' B) H=some (.ret (.bool (decide (r=r')&&decide (A=B))),H):=by
 unfold Uan pat GC;have hq:By A=[.sl (enL cNd A) .no]:=rfl;have hq2:By B=[.sl (enL cNd B) .no]:=rfl;have hl:∀(c d:Ab)(G:Aa),Ad true 1 (.ptr 0 0 1) (.c0 [c,d]::G)=some (.agg [d]):=λc d G=>by simp only[Ad,Kf];rfl
 by_cases hr:r=r'
 ·have hd:(r==r')=true:=by simp[hr]
  have cC:decide (r=r')=true:=zXc hr;simp only[GMw,HPw,Nat.reduceAdd,Kz,hd,cC,hl,Vic A B _ hA]
 ·have hd:(r==r')=false:=by simp[hr]
  have cC:decide (r=r')=false:=zXd hr;simp only[GMw,HPw,Nat.reduceAdd,Kz,hd,cC]
def JX (two:Bool):zAa->List (zAa)
 |[]=>[]
 |b::l=>J8 (((l.takeWhile (· == b)).length+1:Nat):Int) (OS b.toNat two)::JX two (l.dropWhile (· == b))
termination_by l=>l.length
decreasing_by
 simp only[zXj];exact Nat.lt_succ_of_le (Ys _).length_le
def JW (two:Bool):JX two []=[]:=by rw[JX]
def Ox (two:Bool)(b:UInt8)(l:zAa):JX two (b::l)=J8 (((l.takeWhile (· == b)).length+1:Nat):Int) (OS b.toNat two)::JX two (l.drop (l.takeWhile (· == b)).length):=by rw[JX,Vg5]
def G9 (two:Bool)(st:List (zAa)×Int)(y:Nat)(row:zAa):List (zAa)×Int:=
 if HM row=0 then st else (st.1++(if 0<=st.2 then [J8 ((y:Int)-st.2) [36]]else [])++JX two (row.take (HM row)),(y:Int))
def HN (two:Bool)(rows:List (zAa)):Nat->List (zAa)×Int
 |0=>([],-1)
 |i+1=>G9 two (HN two rows i) i (rows.getD i [])
def HE (rows:List (zAa)):List (zAa):=(HN (VmM rows) rows rows.length).1++[[33]]
def UD (n:Nat)(two:Bool):(OS n two).length<=2:=by unfold OS;split;simp;split;simp;split;simp;split<;>simp
theorem UO (two:Bool):∀(k:Nat)(l:zAa),l.length<=k->(JX two l).length<=l.length
 |0,l,h=>by have:l=[]:=List.length_eq_zero_iff.1 (by omega);subst this;rw[JW];exact VM _
 |k+1,[],_=>by rw[JW];exact VM _
 |k+1,b::l,h=>by rw[Ox];simp only[zXj]at h⊢;have:=UO two k (l.drop (l.takeWhile (· == b)).length) (by simp;omega);simp only[Wd]at this;omega
def Ny (two:Bool)(rows:List (zAa))(h:∀r∈rows,r.length<=1000):∀i,i<=rows.length->(HN two rows i).1.length<=i*1001
 |0,_=>by simp[HN]
 |i+1,hi=>by
  have ih:=Ny two rows h i (by omega);have hr:rows.getD i []=rows[i]:=by rw[VO,VG (show i<rows.length by omega)];rfl
  have h2:=h rows[i] (VY _);simp only[HN,G9,hr];split;exact Wg ih (Ww _ (Nat.le_succ _));have h3:=UO two _ (rows[i].take (HM rows[i])) (VM _);simp only[VR,Wc]at h3⊢;split<;>simp<;>omega
theorem Ou (two:Bool)(rows:List (zAa)):∀i,-1<=(HN two rows i).2/\(HN two rows i).2<(i:Int)\/i=0/\(HN two rows i).2 = -1
 |0=>.inr ⟨rfl,rfl⟩
 |i+1=>by have ih:=Ou two rows i;left;simp only[HN,G9];split;omega;exact⟨by show(-1:Int)<=(i:Int);omega,by show(i:Int)<((i+1:Nat):Int);omega⟩
def Vkx (H:Aa)(bB:LK)(p out last two g:Ab)(row:zAa)(n x:Nat)(b:UInt8)(l:zAa)(Hd:Aa)(hn:n<=row.length)(hr:row.length<=1000)(hl:(row.take n).drop x=b::l):∃bQ,An (λbQ vs H1=>UaT H bB bQ (ag vs 0) (ag vs 1) (ag vs 2) (ag vs 3) (ag vs 4) (ag vs 5) (ag vs 6) (ag vs 7) (ag vs 8) H1) AI [p,out,last,two,g,.str row,.i6 (n:Int),.i6 (x:Int),.i6 (x:Int)] Hd
   = UaT H bB bQ p out last two g (.str row) (.i6 (n:Int)) (.i6 (x:Int)) (.i6 ((x+((l.takeWhile (· == b)).length+1):Nat):Int)) Hd:=by
 have iY:∀i,(b::l)[i]? = (row.take n)[x+i]? := λi=>by rw[<-hl,W5]
 have hlen:(b::l).length=n-x:=by rw[<-hl];simp;omega
 have qI:=Vku (b:=b) l;simp only[zXj]at hlen;have hx:x<row.length:=by omega
 have hb:row[x]=b:=by have h0:=iY 0;rw[Xk,zYc (by omega),Nat.add_zero,VG hx]at h0;simpa using h0.symm
 have loop:=Fp (G:=λbQ vs H1=>UaT H bB bQ (ag vs 0) (ag vs 1) (ag vs 2) (ag vs 3) (ag vs 4) (ag vs 5) (ag vs 6) (ag vs 7) (ag vs 8) H1) ((l.takeWhile (· == b)).length+1)
  (λi vs H1=>vs=[p,out,last,two,g,.str row,.i6 (n:Int),.i6 (x:Int),.i6 ((x+i:Nat):Int)]/\H1=Hd) (by omega) (λi vs H1 hi hI=>?_) (vs:=[p,out,last,two,g,.str row,.i6 (n:Int),.i6 (x:Int),.i6 (x:Int)]) (H:=Hd) ⟨rfl,rfl⟩
 obtain⟨vs',H',⟨rfl,rfl⟩,rec,h1⟩:=loop;exact⟨rec,h1⟩
 ·obtain⟨rfl,rfl⟩:=hI;refine⟨_,_,⟨rfl,rfl⟩,λrec=>?_⟩;have hk:x+i<row.length:=by omega
  have pQ:((x+i:Nat):Int)<(n:Int):=by omega
  have qB:row[x+i]=b:=by have h0:=iY i;rw[Xk,zYc (by omega),VG hk]at h0;have h1:(b::l)[i]? = some b:=(by cases i with|zero=>rfl|succ i=>rw[List.getElem?_cons_succ];exact VmN (by omega));rw[h1]at h0;simpa using h0.symm
  have aP:=Ar (show x+i<9223372036854775807 by omega);unfold UaT;simp only[GMw,Ak,pQ,AQ hk,AQ hx,qB,hb,aP]
  rfl
def Vhu (H:Aa)(p last g:Ab)(two:Bool)(row:zAa)(n:Nat)(out0:List (zAa))(v0:Ab)(Hd:Aa)(hn:n<=row.length)(hr:row.length<=1000)(ho:out0.length<=2000000)
  (hR:RS cS DE 1 H.length out0 v0 Hd)(hH:H.length<=Hd.length):∃v' H',RS cS DE 1 H.length (out0++JX two (row.take n)) v' H'/\Kp H.length Hd H'/\∀j2:LK,
   An (λbB vs H1=>UbG H j2 bB (ag vs 0) (ag vs 1) (ag vs 2) (ag vs 3) (ag vs 4) (ag vs 5) (ag vs 6) (ag vs 7) H1) AI [p,v0,last,.bool two,g,.str row,.i6 (n:Int),.i6 0] Hd
   = j2 [p,v',last,.bool two,g] H':=by
 have aZ:(row.take n).length=n:=by simp;omega
 have loop:=MG (ι:=LK) (G:=λj2 bB vs H1=>UbG H j2 bB (ag vs 0) (ag vs 1) (ag vs 2) (ag vs 3) (ag vs 4) (ag vs 5) (ag vs 6) (ag vs 7) H1) (σ:=Nat)
  (λx vs H1=>∃v out,x<=n/\vs=[p,v,last,.bool two,g,.str row,.i6 (n:Int),.i6 (x:Int)]/\RS cS DE 1 H.length out v H1/\Kp H.length Hd H1/\out++JX two ((row.take n).drop x)=out0++JX two (row.take n)/\out.length<=out0.length+x)
  (λx=>n-x) (λx=>x=n) (λx vs H1 hI hd=>?_) (s:=0) (vs:=[p,v0,last,.bool two,g,.str row,.i6 (n:Int),.i6 0]) (H:=Hd) ⟨v0,out0,Wi _,rfl,hR,Kp.refl _ _,rfl,VM _⟩ (by omega)
 obtain⟨x,vs',H',rfl,⟨v,out,_,rfl,h1,h2,h3,_⟩,h4⟩:=loop;refine⟨v,H',?_,h2,λj2=>?_⟩;rw[<-h3,XO (by omega),JW,Wm];exact h1;obtain⟨rec,h4⟩:=h4 j2;rw[h4];unfold UbG;simp only[GMw,Ak,Wv]
 ·obtain⟨v,out,hx,rfl,h1,h2,h3,h5⟩:=hI;have zL:(x:Int)<(n:Int):=by omega
  obtain⟨b,l,hbl⟩:∃b l,(row.take n).drop x=b::l:=by cases hq:(row.take n).drop x with|nil=>have:=zYg List.length hq;simp at this;omega|cons b l=>exact⟨b,l,rfl⟩
  have hlen:(b::l).length=n-x:=by rw[<-hbl];simp;omega
  have qI:=Vku (b:=b) l;simp only[zXj]at hlen;have tK:x<row.length:=by omega
  have iY:∀i,(b::l)[i]? = (row.take n)[x+i]? := λi=>by rw[<-hbl,W5]
  have hb:row[x]=b:=by have h0:=iY 0;rw[Xk,zYc (by omega),Nat.add_zero,VG tK]at h0;simpa using h0.symm
  obtain⟨k,hk⟩:∃k,k=(l.takeWhile (· == b)).length+1:=⟨_,rfl⟩;obtain⟨tk,rfl⟩:=h1.sl;have hsg:=UD b.toNat two;have qP:=λH=>VhX b.toNat two H b.toNat_lt;have jB:=λH=>UY (k:Int) (OS b.toNat two) H (by omega) (by omega) (by omega);obtain⟨v2,H2,a1,a2,a3⟩:=h1.snoc (bytes:=16) (by have:=h2.len;omega) (J8 (k:Int) (OS b.toNat two)) .ti (by omega) (by omega);refine⟨x+k,[p,v2,last,.bool two,g,.str row,.i6 (n:Int),.i6 ((x+k:Nat):Int)],H2,by omega,⟨v2,out++[J8 (k:Int) (OS b.toNat two)],by omega,rfl,a2,h2.trans a3,?_,?_⟩,λj2 bB=>?_⟩
  ·rw[<-h3,hbl,Ox,<-hk,VP,List.singleton_append]
   congr 2
   rw[<-WX,hbl,hk,XA]
  simp;omega
  ·obtain⟨bQ,h6⟩:=Vkx H bB p (.sl (enL cS out) tk) last (.bool two) g row n x b l H1 hn hr hbl;unfold UbG;simp only[At,Ak,Bz,BI,zL,decide_true,Bb];refine h6.trans ?_;rw[<-hk];have hw:I_.wrap (((x+k:Nat):Int)-(x:Int))=(k:Int):=(by rw[Am]<;>omega);have exit:(Af .n .sub (.i6 ((x+k:Nat):Int)) (.i6 (x:Int))).bind (λx68=>(Bc (.str row) (.i6 (x:Int))).bind λx69=>bP H (UbF x69 (.bool two) H1) λx70 H71=>bP H (UaS x68 x70 H71) λx72 H73=>(AK 1 [x72]).bind λx74=>bP H (Cd (AS DE 1 16 (.sl (enL cS out) tk) x74 H73)) λx75 H76=>bB [p,x75,last,.bool two,g,.str row,.i6 (n:Int),.i6 ((x+k:Nat):Int)] H76)
     = bB [p,v2,last,.bool two,g,.str row,.i6 (n:Int),.i6 ((x+k:Nat):Int)] H2:=by
    simp only[GMw,hw,AQ tK,hb,qP,jB,RR,a1]
   unfold UaT;by_cases he:x+k<n;have yO:x+k<row.length:=(by omega);have dU:((x+k:Nat):Int)<(n:Int):=(by omega);have hne:¬((row[x+k].toNat:Int)=(b.toNat:Int)):=(by intro h0;have h7:row[x+k]=b:=Xt.1 (by omega);have h8:=iY k;rw[Xk,zYc he,VG yO,h7,hk,List.getElem?_cons_succ]at h8;exact Vj0 l h8);simp only[Bz,BI,dU,decide_true,J3,AQ yO,AQ tK,hb,Fc,GS,hne,zYh,CN,AM];simp only[AQ tK,BI,hb]at exit;exact exit;have dU:¬((x+k:Nat):Int)<(n:Int):=(by omega);simp only[Bz,BI,dU,zYh,QR,CI,AM];exact exit
def Vdq (X Y:Int)(rows:List (zAa))(tk:Tok)(H:Aa)(hn:rows.length<=1000)(h:∀r∈rows,r.length<=1000):Ud3 (.agg (C4 X Y (.sl (enL cS rows) tk))) H=some (.ret (.sl (enL cS (HE rows)) .no),H):=by
 unfold Ud3;have hbx:Bj true 5 (.agg (C4 X Y (.sl (enL cS rows) tk))) H=some (.ptr H.length 0 0,H++[.c0 (C4 X Y (.sl (enL cS rows) tk))]):=BF (IY _ _ _ _) rfl;have hg:(H++[Blk.c0 (C4 X Y (.sl (enL cS rows) tk))])[H.length]? = some (.c0 (C4 X Y (.sl (enL cS rows) tk))):=Ap;generalize hHc:H++[Blk.c0 (C4 X Y (.sl (enL cS rows) tk))]=Hc at hbx hg;have oQ:H.length<=Hc.length:=by rw[<-hHc];simp
 have nS:Ad true 5 (.ptr H.length 0 0) Hc=some (.agg (C4 X Y (.sl (enL cS rows) tk))):=by simp only[Ad,A0 hg,zXa];rfl
 have uR:=VkL X Y rows tk Hc (by omega) (λr hr=>by have:=h r hr;omega);simp only[hbx,BD,nS,BI,uR,Ds];obtain⟨two,qI⟩:∃two,two=VmM rows:=⟨_,rfl⟩;rw[<-qI];have loop:=Fp (G:=λrec1 vs H1=>UaU H rec1 (ag vs 0) (ag vs 1) (ag vs 2) (ag vs 3) (ag vs 4) H1) rows.length
  (λy vs Hd=>∃v,vs=[.ptr H.length 0 0,v,.i6 (HN two rows y).2,.bool two,.i6 (y:Int)]/\RS cS DE 1 H.length (HN two rows y).1 v Hd/\Kp H.length Hc Hd)
  (by omega) (λy vs Hd hy hI=>?_) (vs:=[.ptr H.length 0 0,.sl [] .ti,.i6 (-1),.bool two,.i6 0]) (H:=Hc) ⟨_,rfl,.inl ⟨rfl,rfl⟩,Kp.refl _ _⟩
 ·obtain⟨vs',Hd,⟨v,rfl,gR,gk⟩,rec,aB⟩:=loop;rw[aB];have hld:Ad false 1 (.ptr H.length 0 4) Hd=some (.sl (enL cS rows) tk):=by simp only[Ad,A0 (gk.get hg),zXa];rfl
  have hlen:=Ny two rows h rows.length (VM _);obtain⟨v2,H2,a1,a2,a3⟩:=gR.snoc (bytes:=16) (by have:=gk.len;omega) ([33]:zAa) .ti (by omega) (by omega);obtain⟨tk2,rfl⟩:=a2.sl;have hold:H2.take H.length=H:=Cu λi hi=>by rw[a3.old i hi,gk.old i hi,<-hHc,VN hi]
  have xF:=RR [33];unfold UaU;simp only[GMw,Ak,Aj,VK,hld,Ax,Wv,xF,a1,Fl hold,GI,zXb,HE,qI]
 ·obtain⟨v,rfl,gR,gk⟩:=hI;have lG:(y:Int)<(rows.length:Int):=by omega
  have aP:=Ar (show y<9223372036854775807 by omega);have hld:Ad false 1 (.ptr H.length 0 4) Hd=some (.sl (enL cS rows) tk):=by simp only[Ad,A0 (gk.get hg),zXa];rfl
  have hrow:rows.getD y []=rows[y]:=by rw[VO,VG hy];rfl
  have lM:=h rows[y] (VY hy);have iP:=λH=>VhW rows[y] H (by omega);have gN:=Vht rows[y];have hlen:=Ny two rows h y (by omega);have hlast:=Ou two rows y;have hstep:HN two rows (y+1)=G9 two (HN two rows y) y rows[y]:=by rw[HN,hrow]
  rw[hstep];generalize HN two rows y=st at *;obtain⟨out,last⟩:=st;dsimp only at *;have hHd:H.length<=Hd.length:=by have:=gk.len;omega
  have nF:∀(rec1:LK)(v:Ab)(l:Int)(H1:Aa),Ud2 H rec1 (.ptr H.length 0 0) v (.i6 l) (.bool two) (.i6 (y:Int)) H1=rec1 [.ptr H.length 0 0,v,.i6 l,.bool two,.i6 ((y+1:Nat):Int)] H1:=by intro rec1 v l H1;unfold Ud2;simp only[GMw,aP]
  by_cases hu:HM rows[y]=0;refine⟨_,Hd,⟨v,rfl,?_,gk⟩,λrec=>?_⟩;unfold G9;rw[zYc hu];exact gR;unfold UaU G9;rw[zYc hu];simp only[GMw,Ak,Aj,VK,hld,Ax,lG,A4 hy,AA,zXh,iP,hu,Int.natCast_zero,nF]
  ·have jQ:¬((HM rows[y]:Nat):Int)=0:=(by omega);have mW:∀(o:List (zAa)) (v1:Ab) (H1:Aa),o.length<=y*1001+1->RS cS DE 1 H.length o v1 H1->Kp H.length Hd H1 ->
     ∃v2 H2,RS cS DE 1 H.length (o++JX two (rows[y].take (HM rows[y]))) v2 H2/\Kp H.length Hc H2/\∀rec1:LK,
      Ue9 H (λvs H1=>Ud2 H rec1 (ag vs 0) (ag vs 1) (ag vs 2) (ag vs 3) (ag vs 4) H1) (.ptr H.length 0 0) v1 (.bool two) (.i6 (y:Int)) (.str rows[y]) (.i6 (HM rows[y]:Int)) H1
       = rec1 [.ptr H.length 0 0,v2,.i6 (y:Int),.bool two,.i6 ((y+1:Nat):Int)] H2:=by
    intro o v1 H1 ho hR1 hK1;obtain⟨v2,H2,b1,b2,b3⟩:=Vhu H (.ptr H.length 0 0) (.i6 (y:Int)) (.i6 (y:Int)) two rows[y] (HM rows[y]) o v1 H1 gN lM (by omega) hR1 (by have:=hK1.len;omega);refine⟨v2,H2,b1,gk.trans (hK1.trans b2),λrec1=>?_⟩;unfold Ue9;rw[b3];simp only[At,Ak];exact nF _ _ _ _
   by_cases hl:0<=last;have jB:=λH=>UY ((y:Int)-last) [36] H (by omega) (by omega) (by decide);have zQ:I_.wrap ((y:Int)-last)=(y:Int)-last:=(by rw[Am]<;>omega);obtain⟨tk0,rfl⟩:=gR.sl;obtain⟨v1,H1,a1,a2,a3⟩:=gR.snoc (bytes:=16) hHd (J8 ((y:Int)-last) [36]) .ti (by omega) (by omega);obtain⟨v2,H2,b1,b2,b3⟩:=mW _ v1 H1 (by simp;omega) a2 a3;refine⟨[.ptr H.length 0 0,v2,.i6 (y:Int),.bool two,.i6 ((y+1:Nat):Int)],H2,⟨v2,?_,?_,b2⟩,λrec=>?_⟩;unfold G9;rw[zYb hu];unfold G9;rw[zYb hu,zYc hl];exact b1;unfold UaU;simp only[GMw,Ak,Aj,VK,hld,Ax,lG,A4 hy,AA,zXh,iP,jQ,hl,zQ,jB,RR,a1];exact b3 rec;obtain⟨v2,H2,b1,b2,b3⟩:=mW _ v Hd (Nat.le_succ_of_le hlen) gR (Kp.refl _ _);refine⟨[.ptr H.length 0 0,v2,.i6 (y:Int),.bool two,.i6 ((y+1:Nat):Int)],H2,⟨v2,?_,?_,b2⟩,λrec=>?_⟩;unfold G9;rw[zYb hu];unfold G9;rw[zYb hu,zYb hl,Wm];exact b1;unfold UaU;simp only[GMw,Ak,Aj,VK,hld,Ax,lG,A4 hy,AA,zXh,iP,jQ,hl];exact b3 rec
def Sc {n:Int}{s:zAa}(h0:-1000000000<=n)(h1:n<=1000000000)(hs:s.length<=1000):(J8 n s).length<=10000:=by
 have uW:SB 44 n:=by unfold SB;have:(4294967296:Nat)^1<=4294967296^44:=HU (by omega);omega
 have h:=(PR uW).2;unfold J8;split;omega;simp;omega
theorem So (two:Bool):∀(k:Nat)(l:zAa),l.length<=k->k<=1000000->∀t∈JX two l,t.length<=10000
 |0,l,h,_,t,ht=>by have:l=[]:=List.length_eq_zero_iff.1 (by omega);subst this;rw[JW]at ht;cases ht
 |k+1,[],_,_,t,ht=>by rw[JW]at ht;cases ht
 |k+1,b::l,h,hk,t,ht=>by rw[Ox]at ht;simp only[zXj]at h;have qI:=Vku (b:=b) l;rcases WF.1 ht with rfl | ht;have:=UD b.toNat two;exact Sc (by omega) (by omega) (by omega);exact So two k _ (by simp;omega) (by omega) t ht
def Sb (two:Bool)(rows:List (zAa))(hn:rows.length<=1000)(h:∀r∈rows,r.length<=1000):∀i,i<=rows.length->∀t∈(HN two rows i).1,t.length<=10000
 |0,_,t,ht=>by cases ht
 |i+1,hi,t,ht=>by
  have ih:=Sb two rows hn h i (by omega);have hl:=Ou two rows i;have hr:rows.getD i []=rows[i]:=by rw[VO,VG (show i<rows.length by omega)];rfl
  have h2:=h rows[i] (VY _);rw[HN,hr]at ht;unfold G9 at ht;split at ht
  exact ih t ht
  ·simp only[Wk]at ht;rcases ht with (ht | ht) | ht;exact ih t ht
   ·split at ht
    rw[Wj]at ht;rw[ht];exact Sc (by omega) (by omega) (by decide);cases ht
   exact So two 1000 _ (by simp;omega) (by omega) t ht
def Va4 (rows:List (zAa))(hn:rows.length<=1000)(h:∀r∈rows,r.length<=1000):(HE rows).length<=2000000/\∀t∈HE rows,t.length<=10000:=by have h1:=Ny (VmM rows) rows h rows.length (VM _);unfold HE;refine⟨by simp;omega,λt ht=>?_⟩;rcases Wk.1 ht with ht | ht;exact Sb _ rows hn h _ (VM _) t ht;rw[Wj]at ht;rw[ht];decide
def Vqe (rows:List (zAa)):Nat:=match rows with | []=>0 | r::_=>r.length
def VeC (X Y:Int)(w h:Nat)(rule:zAa):zAa:=
 [35,67,88,82,76,69,32,80,111,115,61]++Vjc X++[44]++Vjc Y++[10]++[120,32,61,32]++Vjc (w:Int)++[44,32,121,32,61,32]++Vjc (h:Int)++[44,32,114,117,108,101,32,61,32]++rule++[10]
def Vnc (rule:zAa)(L:List Nd):zAa:=VeC (bx L bxX) (bx L bxY) (Vqe (GZ L)) (GZ L).length rule++VdV (HE (GZ L))
def VpR {L:List Nd}(hl:AY L=true):SB 44 (bx L bxX)/\SB 44 (bx L bxY):=by unfold bx;by_cases hn:L=[];rw[zYc hn,zYc hn];exact⟨QD (n:=0) (by omega),QD (n:=0) (by omega)⟩;rw[zYb hn,zYb hn];exact Vke hl hn
def VbU (rule:zAa)(L:List Nd)(b n:Int)(H:Aa)(hr:rule.length<35184372088832)(hL:L.length<549755813888)(h0:-9223372036854775808<=b)(h1:b<=9223372036854775807):Uai (pat rule L) (.agg (IW b n)) H=some (.ret (if JG 4 rule L b n=0 then .tup [.str (Vnc rule L),.i6 0]else .tup [.str [],.i6 (JG 4 rule L b n)]),H):=by
 unfold Uai;have hbx:∀H,Bj true 2 (.agg (IW b n)) H=some (.ptr H.length 0 0,H++[.c0 (IW b n)]):=λH=>BF rfl rfl;have e3:(H++[Blk.c0 (GC rule L)]++[Blk.c0 (IW b n)])[H.length]? = some (.c0 (GC rule L)):=by simp
 have g5:Ad true 2 (.ptr (H++[Blk.c0 (GC rule L)]).length 0 0) (H++[Blk.c0 (GC rule L)]++[Blk.c0 (IW b n)])=some (.agg (IW b n)):=by simp only[Ad,A0 (Ap (B:=H++[Blk.c0 (GC rule L)])),zXa];rfl
 have g6:Ad false 1 (.ptr (H++[Blk.c0 (GC rule L)]).length 0 0) (H++[Blk.c0 (GC rule L)]++[Blk.c0 (IW b n)])=some (.i6 b):=by simp only[Ad,A0 (Ap (B:=H++[Blk.c0 (GC rule L)])),zXa];rfl
 have nN:=λH=>VeW 4 rule L b n H (by omega) hL h0 h1;simp only[GMw,VcS,hbx,Qh e3,g5,nN];by_cases he:JG 4 rule L b n=0
 ·obtain⟨hl,b0,b1,hw,_,_⟩:=Vjl he (by decide);obtain⟨r1,r2⟩:=Ve8 hl b0 b1 hw;have jT:=λH=>Vnk L b H hL hl h0 h1;simp only[Vd8 b0 b1 hw]at jT;rw[zYc he];simp only[he,GMw,Aj,VK,Nat.add_zero,KL e3,g6,jT,Ba,Bd,Rb];generalize hB:H++[Blk.c0 (GC rule L)]++[Blk.c0 (IW b n)]=B at e3;obtain⟨sx,sy⟩:=VpR hl;obtain⟨x1,x2⟩:=PR sx;obtain⟨y1,y2⟩:=PR sy;have nV:Ae 5 (.ptr B.length 0 0) (Ps (bx L bxX) (bx L bxY) (GZ L)) (B++[Blk.c0 DT])=some (B++[Blk.c0 (C4 (bx L bxX) (bx L bxY) (.sl (enL cS (GZ L)) .no))]):=by
   unfold Ps;simp only[Ae,A0 (Ap (B:=B) (cs:=DT)),zXa,C0 (IY _ _ _ _),BE (Ap (B:=B) (cs:=DT)),DJ (cs:=DT) (sz:=5) rfl,Bg]
   rfl
  have lM:=SS (A1 (G:=[Blk.c0 (C4 (bx L bxX) (bx L bxY) (.sl (enL cS (GZ L)) .no))]) e3);have gx:Ad true 2 (.ptr B.length 0 0) (B++[Blk.c0 (C4 (bx L bxX) (bx L bxY) (.sl (enL cS (GZ L)) .no))])=some (big (bx L bxX)):=by simp only[Ad,A0 (Ap (B:=B)),zXa];rfl
  have gy:Ad true 2 (.ptr B.length 0 2) (B++[Blk.c0 (C4 (bx L bxX) (bx L bxY) (.sl (enL cS (GZ L)) .no))])=some (big (bx L bxY)):=by simp only[Ad,A0 (Ap (B:=B)),zXa];rfl
  have gr:Ad false 1 (.ptr B.length 0 4) (B++[Blk.c0 (C4 (bx L bxX) (bx L bxY) (.sl (enL cS (GZ L)) .no))])=some (.sl (enL cS (GZ L)) .no):=by simp only[Ad,A0 (Ap (B:=B)),zXa];rfl
  have gw:Ad true 5 (.ptr B.length 0 0) (B++[Blk.c0 (C4 (bx L bxX) (bx L bxY) (.sl (enL cS (GZ L)) .no))])=some (.agg (C4 (bx L bxX) (bx L bxY) (.sl (enL cS (GZ L)) .no))):=by simp only[Ad,A0 (Ap (B:=B)),zXa];rfl
  have tx:=λH=>MB (bx L bxX) H x1;have ty':=λH=>MB (bx L bxY) H y1;simp only[GMw,nV,gr,Ax];generalize hbX:bx L bxX=X at *;generalize hbY:bx L bxY=Y at *;generalize hro:GZ L=rows at *;have hBl:∀(G:Aa)(v:Ab),JA v=true->rP H v (B++G)=some (.ret v,H):=λG v hv=>by rw[<-hB,VP,VP];exact VbR hv
  have key:∀w:Nat,w<=1000->w=Vqe rows->UeB H (.ptr H.length 0 0) (.ptr B.length 0 0) (.i6 (w:Int)) (B++[Blk.c0 (C4 X Y (.sl (enL cS rows) .no))])=some (.ret (.tup [.str (Vnc rule L),.i6 0]),H):=by
   intro w cQ cA;have vL:=λH=>KE (w:Int) H (by omega) (by omega);have vM:=λH=>KE (rows.length:Int) H (by omega) (by omega);have sw:SB 44 (w:Int):=QD (n:=w) (by have:(4294967296:Nat)^1<=4294967296^44:=HU (by omega);omega);have sh:SB 44 (rows.length:Int):=QD (n:=rows.length) (by have:(4294967296:Nat)^1<=4294967296^44:=HU (by omega);omega);obtain⟨w1,w2⟩:=PR sw;obtain⟨Z0,hh2⟩:=PR sh;have tw:=λH=>MB (w:Int) H w1;have th:=λH=>MB (rows.length:Int) H Z0;have qJ:=λH=>Vdq X Y rows .no H r1 r2;obtain⟨k1,k2⟩:=Va4 rows r1 r2;have tM:=λH=>VhV (HE rows) .no H (by omega) k2;have lI:=Jq (HE rows) k2 (HE rows).length (VM _);rw[VW (VM _)]at lI;have uO:(VdV (HE rows)).length<=100000000000:=(by unfold VdV;simp;omega);unfold UeB Vnc;rw[hbX,hbY,hro,<-cA];unfold VeC;simp only[GMw,Aj,VK,Nat.add_zero,gx,gy,gr,lM,gw,tx,ty',and_true,eq_self,Ax,vL,vM,tw,th]
   iterate 11
    rw[Dj (by simp;omega)];simp only[GMw,qJ,tM]
   rw[Dj (by simp;omega)];simp only[GMw];exact hBl _ _ rfl
  cases jZ:rows with|nil=>rw[jZ]at key;have h9:¬((([]:List (zAa)).length:Int)>0):=(by simp);simp only[GMw,h9];exact key 0 (by omega) rfl|cons r rest=>have h9:((r::rest:List (zAa)).length:Int)>0:=(by simp);have hidx:=A4 (f:=cS) (l:=r::rest) (tk:=.no) (i:=0) (K:=.i64) (by simp);simp only[Int.natCast_zero,List.getElem_cons_zero]at hidx;rw[jZ]at key gr;simp only[GMw,h9,hidx,AA,zXh,CW];exact key r.length (r2 r (by rw[jZ];simp)) rfl
 rw[zYb he];simp only[he,GMw];rw[VP];exact VbR (v:=.tup [.str [],.i6 (JG 4 rule L b n)]) rfl
set_option maxRecDepth 100000
def s8A:zAa:=[120,32,61,32,48,44,32,121,32,61,32,48,44,32,114,117,108,101,32,61,32,97,10,50,98,50,111,36,33]
def s8B:zAa:=[35,67,32,97,110,121,13,10,35,67,88,82,76,69,32,80,111,115,61,45,49,44,53,10,120,32,61,32,57,44,32,121,32,61,32,57,44,32,114,117,108,101,32,61,32,97,13,10,32,112,65,32,50,36,10,46,66,33,120]
def s8C:zAa:=[120,32,61,32,48,44,32,121,32,61,32,48,44,32,114,117,108,101,32,61,32,97,10,121,80,33]
def s8D:zAa:=[35,97,98,99]
def s8E:zAa:=[120,61]
def s8F:zAa:=[120,32,61,32,48,44,32,121,32,61,32,48,44,32,114,117,108,101,32,61,32,97,10,98,50,111,33]
def s8S:zAa:=[35,67,88,82,76,69,32,80,111,115,61,50,44,48,10,120,32,61,32,50,44,32,121,32,61,32,49,44,32,114,117,108,101,32,61,32,97,10,50,111,33,10]
def s8T:zAa:=[35,67,88,82,76,69,32,80,111,115,61,45,49,44,53,10,120,32,61,32,50,44,32,121,32,61,32,51,44,32,114,117,108,101,32,61,32,97,10,112,65,50,36,46,66,33,10]
def l8A:List Nd:=(HR s8A 1000 100000).1.2
def l8B:List Nd:=(HR s8B 1000 100000).1.2
def y8A:HR s8A 1000 100000=(([97],l8A),0,0):=by decide +kernel
def y8B:HR s8B 1000 100000=(([97],l8B),0,0):=by decide +kernel
def Vqx:JG 4 [97] l8A 1000 100000=0:=by decide +kernel
def Vqv:JG 4 [97] l8B 1000 100000=0:=by decide +kernel
def Vqw:Vnc [97] l8A=s8S:=by decide +kernel
def Vqu:Vnc [97] l8B=s8T:=by decide +kernel
def y8C:(HR s8C 1000 100000).2=(24,2):=by decide +kernel
def y8D:Vw s8D=(10::B9,true):=by decide +kernel
def Vqt:(HR (s8D++10::B9) 1000 100000).2.2=0:=by decide +kernel
def y8E:(Vw s8E).2=false:=by decide +kernel
def y8F:(HR s8F 2 9).2.2=4:=by decide +kernel
def VnB:l8A.length<1000/\l8B.length<1000:=by decide +kernel
def VeX (H:Aa):Uad H=some (.ret (.agg [.i6 1000,.i6 100000]),H):=by have hb:Az (some [(.i6 0),(.i6 0)]) [(0,1,(.i6 1000)),(1,1,(.i6 100000))]=some (.agg [.i6 1000,.i6 100000]):=rfl;unfold Uad;simp only[GMw,HPw,Nat.reduceAdd,hb]
def VeU (H:Aa):Uak H=some (.ret (.bool true),H):=by
 have hA:=λK=>Ho s8A 1000 100000 K (by decide);have hB:=λK=>Ho s8B 1000 100000 K (by decide);have hC:=λK=>Ho s8C 1000 100000 K (by decide);have hD:=λK=>S2 s8D K (by decide);have hD2:=λK=>Ho (s8D++10::B9) 1000 100000 K (by decide);have hE:=λK=>S2 s8E K (by decide);have hF:=λK=>Ho s8F 2 9 K (by decide);obtain⟨hlA,hlB⟩:=VnB;have hT:=λK=>VbU [97] l8A 1000 100000 K (by decide) (by omega) (by decide) (by decide);have hU:=λK=>VbU [97] l8B 1000 100000 K (by decide) (by omega) (by decide) (by decide);have iX:=y8C;generalize HR s8C 1000 100000=C at hC iX;obtain⟨⟨c1,c2⟩,c3,c4⟩:=C;simp only[Wh]at iX;obtain⟨rfl,rfl⟩:=iX;have hx2:=Vqt;generalize HR (s8D++10::B9) 1000 100000=R at hD2 hx2;obtain⟨⟨r1,r2⟩,r3,r4⟩:=R;dsimp only at hx2;subst hx2;have wT:=y8E;generalize Vw s8E=D at hE wT;obtain⟨d1,d2⟩:=D;dsimp only at wT;subst wT;have hf2:=y8F;generalize HR s8F 2 9=F at hF hf2;obtain⟨⟨e1,e2⟩,e3,e4⟩:=F;dsimp only at hf2;subst hf2;have aU:Af .n .add (.str s8D) (.str (10::B9))=some (.str (s8D++10::B9)):=Dj (by decide);have hbE:Az (some [(.i6 0),(.i6 0)]) [(0,1,(.i6 2)),(1,1,(.i6 9))]=some (.agg [.i6 2,.i6 9]):=rfl;rw[y8A]at hA;rw[y8B]at hB;rw[y8D]at hD;rw[zYc Vqx,Vqw]at hT;rw[zYc Vqv,Vqu]at hU;generalize l8A=LA at hA hT;generalize l8B=LB at hB hU;have hlim:IW 1000 100000=[.i6 1000,.i6 100000]:=rfl;rw[hlim]at hT hU;simp only[EQ,HH]at hA hB hC hD2 hT hU hF;dsimp only at hD hE;unfold Uak;rw[show([120,32,61,32,48,44,32,121,32,61,32,48,44,32,114,117,108,101,32,61,32,97,10,50,98,50,111,36,33]:zAa)=s8A from rfl,
  show([35,67,32,97,110,121,13,10,35,67,88,82,76,69,32,80,111,115,61,45,49,44,53,10,120,32,61,32,57,44,32,121,32,61,32,57,44,32,114,117,108,101,32,61,32,97,13,10,32,112,65,32,50,36,10,46,66,33,120]:zAa)=s8B from rfl,
  show([120,32,61,32,48,44,32,121,32,61,32,48,44,32,114,117,108,101,32,61,32,97,10,121,80,33]:zAa)=s8C from rfl,
  show([35,97,98,99]:zAa)=s8D from rfl,show([120,61]:zAa)=s8E from rfl,
  show([120,32,61,32,48,44,32,121,32,61,32,48,44,32,114,117,108,101,32,61,32,97,10,98,50,111,33]:zAa)=s8F from rfl,
  show([35,67,88,82,76,69,32,80,111,115,61,50,44,48,10,120,32,61,32,50,44,32,121,32,61,32,49,44,32,114,117,108,101,32,61,32,97,10,50,111,33,10]:zAa)=s8S from rfl,
  show([35,67,88,82,76,69,32,80,111,115,61,45,49,44,53,10,120,32,61,32,50,44,32,121,32,61,32,51,44,32,114,117,108,101,32,61,32,97,10,112,65,50,36,46,66,33,10]:zAa)=s8T from rfl]
 simp only[Sl.gliderref11_Wide_eq,Sl.rle_Read_eq,Sl.gliderref13_Text_eq,Sl.rle_Hint_eq,GMw,HPw,Nat.reduceAdd,VeX,hA,hB,hC,aU,hD,hD2,hE,hT,hU,hbE,hF,Kz,zYj]
def VeI (b:zAa)(bx N:Int):(HR b bx N).1.2.length<=100000:=by unfold HR;split;rename_i hf;unfold Iq at hf;simp only[VV,zXe]at hf;split;exact Wi _;split;rename_i hq;simp only[VV,zXe]at hq;dsimp only;omega;exact Wi _;exact Wi _
def Vad {b:zAa}(bx N:Int)(H:Aa):UeM (.str b) (.agg [.i6 bx,.i6 N]) H=some (.ret (.bool true),H):=by
 unfold UeM;simp only[Sl.gliderlaw18_alive_eq,Sl.rle_Read_eq,Sl.gliderref18_Read_eq,Sl.gliderref11_Same_eq,Sl.gliderref11_Fine_eq,GMw,HPw,Nat.reduceAdd,VeU];by_cases hb:b.length>500;have hd:decide ((b.length:Int)>500)=true:=zXc (by omega);simp only[GMw,HPw,hd]
 ·have hd:decide ((b.length:Int)>500)=false:=zXd (by omega);have h1:=λK=>Ho b bx N K (by omega);have h2:=λK=>VhU b bx N K (by omega);have hl:=VeI b bx N;generalize HR b bx N=R at h1 h2 hl;obtain⟨⟨r,L⟩,i,e⟩:=R;have hs:=λK=>VhY r r L L K (by dsimp only at hl;omega);simp only[EQ,HH]at h1 h2 hs;cases hf:Iq bx N with
  |false=>simp only[GMw,HPw,Nat.reduceAdd,hd,MA,hf,h1,h2,hs]
  |true=>cases h60:decide (bx>60)with|true=>simp only[GMw,HPw,Nat.reduceAdd,hd,MA,hf,h60,h1,h2,hs]|false=>simp only[GMw,HPw,Nat.reduceAdd,hd,MA,hf,h60,h1,h2,hs]
end Go.Gm
