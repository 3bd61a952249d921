/- Texts of this proof, joined. -/
import Derived.Test.YtagddbecnkbcdaaGreatJ2
import Derived.Test.YtagddbecnkbcdaaGreatJ3
import Derived.Test.YtagddbecnkbcdaaGreatJ4
set_option linter.unusedVariables false
set_option linter.unusedSimpArgs false
namespace Go.Gm
theorem quartL_mem {v:Nat} {x y:Int} {k:Nat} {l:List Cl} {c:Cl} (h:c∈Bn v x y k l):c∈l:=(VT.1 h).1
theorem quartL_len (v:Nat) (x y:Int) (k:Nat) (l:List Cl):(Bn v x y k l).length≤l.length:=Wi _ _
def PlOk (b n:Nat) (self:Ab→Ab→Ab→Ab→Ab→Aa→Out):Prop:=
 ∀(out:List Nd) (w:Ab) (x y:Int) (l:List Cl) (tk:Tok) (H:Aa),PS b out w H→b≤H.length→(∀c∈l,c.ok)→Cn n x→Cn n y→l.length<549755813888→out.length+l.length*n<3518437208883 →
  ∃H' w',self w (.int .i64 (n:Int)) (big x) (big y) (.sl (enL cCl l) tk) H=some (.ret (.tup [w',.int .i64 ((AO n out x y l).2:Int)]),H')∧PS b (AO n out x y l).1 w' H'∧Kp b H H'
theorem qa_c {n:Nat} {x:Int} (h:Cn (n+1) x) (k:Nat):Cn n (qa (n+1) x k)∧SB 44 (qa (n+1) x k)∧SB 44 (qa (n+1) x k+2^(n+1-1)):=by
 unfold qa
 rw [Vp]
 split
 ·exact ⟨h.add.1,h.sb1.1,h.sb1.2⟩
 ·exact ⟨h.add.2,h.sb,h.sb1.1⟩
theorem qb_c {n:Nat} {y:Int} (h:Cn (n+1) y) (k:Nat):Cn n (qb (n+1) y k)∧SB 44 (qb (n+1) y k)∧SB 44 (qb (n+1) y k+2^(n+1-1)):=by
 unfold qb
 rw [Vp]
 split
 ·exact ⟨h.add.1,h.sb1.1,h.sb1.2⟩
 ·exact ⟨h.add.2,h.sb,h.sb1.1⟩
theorem place_turn {b n:Nat} {self:Ab→Ab→Ab→Ab→Ab→Aa→Out} (hself:n=0∨PlOk b n self) (hn:n+1≤1329) (H Hc:Aa) (out:List Nd) (w:Ab) (x y:Int) (l:List Cl) (tk:Tok) (p6 p8 p15 p20 k:Nat) (hk:k<4) (hb:b≤H.length) (h20:H.length≤p20)
  (hok:∀c∈l,c.ok) (cnx:Cn (n+1) x) (cny:Cn (n+1) y) (hl:l.length<549755813888) (hlen:out.length+l.length*(n+1)<3518437208883)
  (hPS:PS b (plK (AO n) (n+1) x y l k out).1 w Hc) (f6:Hc[p6]? = some (.cel 0 (A9 x))) (f8:Hc[p8]? = some (.cel 0 (A9 y))) (f15:Hc[p15]? = some (.cel 0 (A9 (2^(n+1-1))))) (f20:Hc[p20]? = some (.cel 0 (cNd (plK (AO n) (n+1) x y l k out).2))) (hKp:Kp b H Hc) (d6:p6≠p20) (d8:p8≠p20) (d15:p15≠p20) :
  ∃w' Hd,(∀rec:LK,Sh.f3a H self rec w (.int .i64 ((n+1:Nat):Int)) (.sl (enL cCl l) tk) (.ptr p6 0 0) (.ptr p8 0 0) (.ptr p15 0 0) (.ptr p20 0 0) (.int .i64 (k:Int)) Hc=rec [w',.int .i64 ((n+1:Nat):Int),.sl (enL cCl l) tk,.ptr p6 0 0,.ptr p8 0 0,.ptr p15 0 0,.ptr p20 0 0,.int .i64 ((k+1:Nat):Int)] Hd) ∧
   PS b (plK (AO n) (n+1) x y l (k+1) out).1 w' Hd∧Hd[p6]? = some (.cel 0 (A9 x))∧Hd[p8]? = some (.cel 0 (A9 y))∧Hd[p15]? = some (.cel 0 (A9 (2^(n+1-1))))∧Hd[p20]? = some (.cel 0 (cNd (plK (AO n) (n+1) x y l (k+1) out).2))∧Kp b H Hd:=by
 have hk':(k:Int)<4:=by omega
 have hws:=Aw (show k<9223372036854775807 by omega)
 have hp:SB 44 (2^(n+1-1)):=GX (by omega)
 have hrem:(k:Int).tmod 2=((k%2:Nat):Int):=rfl
 have hra:decide (((k%2:Nat):Int)=1)=decide (k%2=1):=by rw [Vr];simp;omega
 have hrb:decide ((k:Int)>1)=decide (1<k):=by rw [Vr];simp only [decide_eq_true_eq];omega
 have adx:=fun H=>Jz x (2^(n+1-1)) H (cnx.sb.lb (by decide)) (hp.lb (by decide))
 have ady:=fun H=>Jz y (2^(n+1-1)) H (cny.sb.lb (by decide)) (hp.lb (by decide))
 obtain ⟨ca1,ca2⟩:=qa_c cnx k
 obtain ⟨cb1,cb2⟩:=qb_c cny k
 have start:∀(j2:LK) (O:Out),Sh.f60 H self j2 w (.int .i64 ((n+1:Nat):Int)) (.sl (enL cCl l) tk) (.ptr p6 0 0) (.ptr p8 0 0) (.ptr p15 0 0) (.ptr p20 0 0) (.int .i64 (k:Int)) (.ptr Hc.length 0 0) (.ptr (Hc.length+1) 0 0) (Hc++[Blk.cel 0 (A9 (qa (n+1) x k))]++[Blk.cel 0 (A9 (qb (n+1) y k))])=O →
   (bC (Ac true 2 (.ptr p6 0 0) Hc) (fun _=>True) fun x44=>
    Am (Az (some [(.bool false),(.sl [] .tight)]) Hc) fun x45 H46=>
    Am (Az (some [(.bool false),(.sl [] .tight)]) H46) fun x47 H48=>
    Bk (AF (Ag 2 x45 x44 H48)) fun _ H50=>
    bC (Ac true 2 (.ptr p8 0 0) H50) (fun x51=>Ac true 2 (.ptr p8 0 0) Hc=some x51∧True) fun x51=>
    bK H (AF (Ag 2 x47 x51 H50)) fun _ H53=>
    AN (fun j3=>
    (Ae .none .rem (.int .i64 (k:Int)) (.int .i64 2)).bind fun x197=>
    (Ae .none .eql x197 (.int .i64 1)).bind fun x198=>
    Aj x198 (
    (Ac true 2 (.ptr p6 0 0) H53).bind fun x199=>
    (Ac true 2 (.ptr p15 0 0) H53).bind fun x200=>
    bK H (Sh.f0 x199 x200 H53) fun x201 H202=>
    bK H (AF (Ag 2 x45 x201 H202)) fun _ H204=>
    j3 [w,(.int .i64 ((n+1:Nat):Int)),(.sl (enL cCl l) tk),(.ptr p6 0 0),(.ptr p8 0 0),(.ptr p15 0 0),(.ptr p20 0 0),(.int .i64 (k:Int)),x45,x47] H204) (
    j3 [w,(.int .i64 ((n+1:Nat):Int)),(.sl (enL cCl l) tk),(.ptr p6 0 0),(.ptr p8 0 0),(.ptr p15 0 0),(.ptr p20 0 0),(.int .i64 (k:Int)),x45,x47] H53)) (fun vs H1=>Sh.f1x H self j2 (ag vs 0) (ag vs 1) (ag vs 2) (ag vs 3) (ag vs 4) (ag vs 5) (ag vs 6) (ag vs 7) (ag vs 8) (ag vs 9) H1))=O:=by
  intro j2 O hO
  have l1:(Hc++[Blk.cel 0 [Ab.bool false,.sl [] .tight]]).length=Hc.length+1:=by simp
  have g6:=fun (G G':Aa)=>Bb (A1 (G:=G') (A1 (G:=G) f6))
  have g8:=fun (G G':Aa)=>Bb (A1 (G:=G') (A1 (G:=G) f8))
  have g15:=fun (G G':Aa)=>Bb (A1 (G:=G') (A1 (G:=G) f15))
  have s0:=fun (z:Int) (c:List Ab)=>st0 (Hc:=Hc) (a:=[.bool false,.sl [] .tight]) (c:=c) (z:=z) rfl
  have s0':=fun (z z':Int) (c:List Ab)=>st0 (Hc:=Hc) (a:=A9 z') (c:=c) (z:=z) rfl
  have s1:=fun (z:Int) (a:List Ab)=>st1 (Hc:=Hc) (a:=a) (c:=[.bool false,.sl [] .tight]) (z:=z) rfl
  have s1':=fun (z z':Int) (a:List Ab)=>st1 (Hc:=Hc) (a:=a) (c:=A9 z') (z:=z) rfl
  simp only [GMb,GMc,Ai,Bb f6,Cb,l1,s0,g8,Bb f8,and_true,eq_self,s1,HT (show (2:Int)≠0 by decide),hrem,hra]
  unfold qa qb at hO
  by_cases hka:k%2=1
  ·rw [if_pos hka]at hO
   by_cases hkb:1<k
   ·rw [if_pos hkb]at hO
    simp only [GMb,GMc,Ai,hka,g6,g15,adx,s0',Sh.f1x,hrb,hkb,g8,ady,s1']
    exact hO
   ·rw [if_neg hkb]at hO
    simp only [GMb,GMc,Ai,hka,g6,g15,adx,s0',Sh.f1x,hrb,hkb]
    exact hO
  ·rw [if_neg hka]at hO
   by_cases hkb:1<k
   ·rw [if_pos hkb]at hO
    simp only [GMb,GMc,Ai,hka,Sh.f1x,hrb,hkb,g8,g15,ady,s1']
    exact hO
   ·rw [if_neg hkb]at hO
    simp only [GMb,GMc,Ai,hka,Sh.f1x,hrb,hkb]
    exact hO
 generalize hB:Hc++[Blk.cel 0 (A9 (qa (n+1) x k))]++[Blk.cel 0 (A9 (qb (n+1) y k))]=B at start
 have b6:B[p6]? = some (.cel 0 (A9 x)):=by rw [←hB];exact A1 (A1 f6)
 have b8:B[p8]? = some (.cel 0 (A9 y)):=by rw [←hB];exact A1 (A1 f8)
 have b15:B[p15]? = some (.cel 0 (A9 (2^(n+1-1)))):=by rw [←hB];exact A1 (A1 f15)
 have b20:B[p20]? = some (.cel 0 (cNd (plK (AO n) (n+1) x y l k out).2)):=by rw [←hB];exact A1 (A1 f20)
 have b45:B[Hc.length]? = some (.cel 0 (A9 (qa (n+1) x k))):=by rw [←hB];simp
 have b47:B[Hc.length+1]? = some (.cel 0 (A9 (qb (n+1) y k))):=by rw [←hB];simp
 have bPS:PS b (plK (AO n) (n+1) x y l k out).1 w B:=by rw [←hB];exact (hPS.left _).left _
 have bKp:Kp b H B:=by rw [←hB,Vb];exact hKp.trans (Kp.app (Vw hb hKp.len) _)
 have hcnt:=cntQ_mono (n+1) x y l (show k+1≤4 by omega)
 have hpl:=QR n out x y l k (by omega)
 have hmul:Ma (n+1) x y l (k+1)*n≤l.length*n:=VE _ hcnt
 rw [show Ma (n+1) x y l (k+1)*n=Ma (n+1) x y l k*n+(Bn (n+1) x y k l).length*n from by rw [←VM];rfl]at hmul
 have hmul2:l.length*(n+1)=l.length*n+l.length:=Nat.mul_succ _ _
 obtain ⟨G,hG⟩:=GZ (f:=cCl) (ty:=A6) (sz:=5) B (Bn (n+1) x y k l)
 have hin:∀i,l.filter (inQ (n+1) (qa (n+1) x i) (qb (n+1) y i))=Bn (n+1) x y i l:=fun i=>rfl
 suffices hs:∃w' Hd,(∀(rec rec5:LK),Sh.fy H self (fun vs H1=>Sh.f39 H rec (ag vs 0) (ag vs 1) (ag vs 2) (ag vs 3) (ag vs 4) (ag vs 5) (ag vs 6) (ag vs 7) H1) rec5 w (.int .i64 ((n+1:Nat):Int)) (.sl (enL cCl l) tk) (.ptr p6 0 0) (.ptr p8 0 0) (.ptr p15 0 0) (.ptr p20 0 0) (.int .i64 (k:Int)) (.ptr Hc.length 0 0) (.ptr (Hc.length+1) 0 0) (DZ cCl B (Bn (n+1) x y k l)) (.int .i64 (l.length:Int)) (B++G)=rec [w',.int .i64 ((n+1:Nat):Int),.sl (enL cCl l) tk,.ptr p6 0 0,.ptr p8 0 0,.ptr p15 0 0,.ptr p20 0 0,.int .i64 ((k+1:Nat):Int)] Hd) ∧
   PS b (plK (AO n) (n+1) x y l (k+1) out).1 w' Hd∧Hd[p6]? = some (.cel 0 (A9 x))∧Hd[p8]? = some (.cel 0 (A9 y))∧Hd[p15]? = some (.cel 0 (A9 (2^(n+1-1))))∧Hd[p20]? = some (.cel 0 (cNd (plK (AO n) (n+1) x y l (k+1) out).2))∧Kp b H Hd by
  obtain ⟨w',Hd,q1,q2⟩:=hs
  refine ⟨w',Hd,fun rec=>?_,q2⟩
  unfold Sh.f3a
  simp only [Bm,B5,hk',decide_true,AZ]
  rw [show ∀(f:LK→Out) (j:LK),AN f j=f j from fun _ _=>rfl]
  refine start _ _ (place_gather H self _ (n+1) hn w l tk p6 p8 p15 p20 Hc.length (Hc.length+1) k B _ _ _ hl hok b15 b45 b47 ca2 cb2 fun rec5=>?_)
  rw [hin,hG]
  exact q1 rec rec5
 generalize hq:Bn (n+1) x y k l=q at hG hmul
 have hqm:∀c∈q,c.ok:=fun c hc=>hok c (by rw [←hq]at hc;exact quartL_mem hc)
 have hql:q.length≤l.length:=by rw [←hq];exact quartL_len _ _ _ _ _
 have t6:=A1 (G:=G) b6
 have t8:=A1 (G:=G) b8
 have t15:=A1 (G:=G) b15
 have t20:=A1 (G:=G) b20
 have t45:=A1 (G:=G) b45
 have t47:=A1 (G:=G) b47
 have tPS:=bPS.left G
 have tKp:Kp b H (B++G):=bKp.trans (Kp.app (Vw hb bKp.len) G)
 have hlast:¬((l.length:Int)<(l.length:Int)):=by omega
 generalize hT:B++G=T at t6 t8 t15 t20 t45 t47 tPS tKp
 have h20l:=(UV.1 t20).1
 rcases Wp n with hn0 | hn0
 ·subst hn0
  have hone:¬(((0+1:Nat):Int)>1):=by decide
  have hone':(((0+1:Nat):Int)=1):=rfl
  have hone2:¬((1:Int)>1):=by decide
  have hpk:plK (AO 0) (0+1) x y l (k+1) out=((plK (AO 0) (0+1) x y l k out).1,(plK (AO 0) (0+1) x y l k out).2.setKid k (F2 q)):=by
   conv=>lhs;unfold plK
   rw [if_pos rfl,hq]
  rw [hpk]
  cases q with
  | nil=>
   refine ⟨w,T,fun rec rec5=>?_,tPS,t6,t8,t15,?_,tKp⟩
   ·unfold Sh.fy
    simp only [GMb,GMc,Ai,Au,hlast,Sh.f5z,hone,hone',hone2,show DZ cCl B []=.sl [] .tight from rfl,show A5 (.sl [] .tight)=some (.int .i64 0) from rfl,show ¬((0:Int)>0) from by decide,Sh.f39,hws]
   ·rw [t20]
    have:(plK (AO 0) (0+1) x y l k out).2.setKid k (F2 [])=(plK (AO 0) (0+1) x y l k out).2:=by
     have hz:(plK (AO 0) (0+1) x y l k out).2.kid k=0:=by
      have:∀j,j≤k→(plK (AO 0) (0+1) x y l j out).2.kid k=0:=by
       intro j
       induction j with
       | zero=>
        intro _
        unfold plK Nd.kid
        dsimp only
        split <;> rfl
       | succ j ihj=>
        intro hj
        conv=>lhs;unfold plK
        rw [if_pos rfl]
        dsimp only
        rw [EY _ _ (by omega) hk (by omega)]
        exact ihj (by omega)
      exact this k (Va _)
     generalize (plK (AO 0) (0+1) x y l k out).2=nd at hz
     obtain ⟨lv,k0,k1,k2,k3⟩:=nd
     match k,hk,hz with
     | 0,_,hz=>simp only [Nd.kid]at hz;subst hz;rfl
     | 1,_,hz=>simp only [Nd.kid]at hz;subst hz;rfl
     | 2,_,hz=>simp only [Nd.kid]at hz;subst hz;rfl
     | 3,_,hz=>simp only [Nd.kid]at hz;subst hz;rfl
    rw [this]
  | cons c q=>
   have hwc:IntKind.i64.wrap (c.s.toNat:Int)=(c.s.toNat:Int):=wrap_nat (by have:=c.s.toNat_lt;omega)
   have hidx:At 5 (.sl (enL cCl (c::q)) (.own B.length)) (.int .i64 0)=some (.cptr (cCl c) 0):=Ay (f:=cCl) (l:=c::q) (tk:=.own B.length) (K:=.i64) (i:=0) (by simp)
   have hpos:(((c::q).length:Int)>0):=by simp only [List.length_cons];omega
   refine ⟨w,T.set p20 (.cel 0 (cNd ((plK (AO 0) (0+1) x y l k out).2.setKid k (c.s.toNat:Int)))),fun rec rec5=>?_,tPS.put t20,by rw [UX d6.symm];exact t6,by rw [UX d8.symm];exact t8,by rw [UX d15.symm];exact t15,by rw [Vj h20l];rfl,⟨by simp;exact tKp.len,fun i cs hi=>?_,fun i hi=>?_⟩⟩
   ·unfold Sh.fy
    simp only [GMb,GMc,Ai,Au,hlast,Sh.f5z,hone,hone',hone2,show DZ cCl B (c::q)=.sl (enL cCl (c::q)) (.own B.length) from rfl,hpos,hidx,Al,Ah,UY,load_sC,B7,hwc,Hl hk,EC t20 hk,Sh.f39,hws]
   ·have:=(UV.1 hi).1
    rw [UX (by omega)];exact tKp.cel i cs hi
   ·rw [UX (by omega)];exact tKp.old i hi
 ·-- a level above: a node
  have hsf:PlOk b n self:=by rcases hself with h | h;omega;exact h
  have hone:(((n+1:Nat):Int)>1):=by omega
  have hone':¬(((n+1:Nat):Int)=1):=by omega
  have hwn:IntKind.i64.wrap (((n+1:Nat):Int)-1)=(n:Int):=by rw [An] <;> omega
  have hpk:plK (AO n) (n+1) x y l (k+1) out=((AO n (plK (AO n) (n+1) x y l k out).1 (qa (n+1) x k) (qb (n+1) y k) q).1,(plK (AO n) (n+1) x y l k out).2.setKid k ((AO n (plK (AO n) (n+1) x y l k out).1 (qa (n+1) x k) (qb (n+1) y k) q).2:Int)):=by
   conv=>lhs;unfold plK
   rw [if_neg (by omega),hq]
  rw [hpk]
  obtain ⟨H1,w1,r1,r2,r3⟩:=hsf _ w (qa (n+1) x k) (qb (n+1) y k) q (outK B q) T tPS (Vw hb tKp.len) hqm ca1 cb1 (by omega) (by omega)
  have u20:=r3.cel _ _ t20
  have u20l:=(UV.1 u20).1
  refine ⟨w1,H1.set p20 (.cel 0 (cNd ((plK (AO n) (n+1) x y l k out).2.setKid k ((AO n (plK (AO n) (n+1) x y l k out).1 (qa (n+1) x k) (qb (n+1) y k) q).2:Int)))),fun rec rec5=>?_,r2.put u20,by rw [UX d6.symm];exact r3.cel _ _ t6,by rw [UX d8.symm];exact r3.cel _ _ t8,by rw [UX d15.symm];exact r3.cel _ _ t15,by rw [Vj u20l],⟨by simp;exact Vw tKp.len r3.len,fun i cs hi=>?_,fun i hi=>?_⟩⟩
  ·unfold Sh.fy
   simp only [GMb,GMc,Ai,Au,hlast,Sh.f5z,hone,hone',Gh,hwn,Bb t45,Bb t47,r1,B3,BB,Ah,UY,Hl hk,EC u20 hk,Sh.f39,hws]
  ·have:=(UV.1 hi).1
   rw [UX (by omega)];exact r3.cel _ _ (tKp.cel i cs hi)
  ·rw [UX (by omega),r3.old i hi];exact tKp.old i hi
theorem RH {b n d:Nat} (hself:n=0∨PlOk b n (Sh.fh d)) (hn:n+1≤1329):PlOk b (n+1) (Sh.fh (d+1)):=by
 intro out w x y l tk H hPS hb hok cnx cny hl hlen
 have hws:IntKind.i64.wrap (((n+1:Nat):Int)-1)=((n:Nat):Int):=by rw [An] <;> omega
 have hp:SB 44 (2^(n+1-1)):=GX (by omega)
 have hpow:=fun H=>IL n H (by omega)
 show ∃H' w',Sh.f7c (Sh.fh d) _ _ _ _ _ _=_∧_
 unfold Sh.f7c AO
 have s1:∀B:Aa,Ag 2 (.ptr B.length 0 0) (big (2^n)) (B++[.cel 0 [.bool false,.sl [] .tight]])=some (B++[.cel 0 (A9 (2^n))]):=fun B=>by rw [Cx (Ap (B:=B)) rfl,Bh]
 simp only [GMb,GMc,D8,Au]
 by_cases h0:l=[]
 ·subst h0
  simp only [GMb,GMc,List.length_nil,show ((0:Nat):Int)=0 from rfl]
  exact ⟨_,_,rfl,(hPS.left _).left _,(Kp.app hb _).trans (Kp.app (by simp;omega) _)⟩
 ·have hl0:¬((l.length:Int)=0):=by have:=VC.2 h0;omega
  have hlp:=VC.2 h0
  simp only [if_neg h0,hl0,GMb,GMc,hws,hpow,Cb,s1,SU,OQ,Ju (Ap (cs:=cNd nd0)) rfl,Bh]
  generalize h1:H++[Blk.cel 0 (A9 x)]=H1
  generalize h2:H1++[Blk.cel 0 (A9 y)]=H2
  generalize h3:H2++[Blk.cel 0 (A9 (2^n))]=H3
  have e1:H1.length=H.length+1:=by rw [←h1];simp
  have e2:H2.length=H.length+2:=by rw [←h2];simp;omega
  have e3:H3.length=H.length+3:=by rw [←h3];simp;omega
  have f6:(H3++[Blk.cel 0 (cNd ⟨((n+1:Nat):Int),0,0,0,0⟩)])[H.length]? = some (.cel 0 (A9 x)):=by rw [←h3,←h2,←h1];simp
  have f8:(H3++[Blk.cel 0 (cNd ⟨((n+1:Nat):Int),0,0,0,0⟩)])[H1.length]? = some (.cel 0 (A9 y)):=by rw [←h3,←h2];simp
  have f15:(H3++[Blk.cel 0 (cNd ⟨((n+1:Nat):Int),0,0,0,0⟩)])[H2.length]? = some (.cel 0 (A9 (2^n))):=by rw [←h3];simp
  have hPS':PS b out w (H3++[Blk.cel 0 (cNd ⟨((n+1:Nat):Int),0,0,0,0⟩)]):=by rw [←h3,←h2,←h1];exact (((hPS.left _).left _).left _).left _
  have hKp':Kp b H (H3++[Blk.cel 0 (cNd ⟨((n+1:Nat):Int),0,0,0,0⟩)]):=by
   rw [←h3,←h2,←h1];simp only [Vb];exact Kp.app hb _
  have loop:=Gi (G:=fun rec1 vs Hc=>Sh.f3a H (Sh.fh d) rec1 (ag vs 0) (ag vs 1) (ag vs 2) (ag vs 3) (ag vs 4) (ag vs 5) (ag vs 6) (ag vs 7) Hc) 4
   (fun k vs Hc=>∃w',vs=[w',.int .i64 ((n+1:Nat):Int),.sl (enL cCl l) tk,.ptr H.length 0 0,.ptr H1.length 0 0,.ptr H2.length 0 0,.ptr H3.length 0 0,.int .i64 (k:Int)]∧PS b (plK (AO n) (n+1) x y l k out).1 w' Hc∧Hc[H.length]? = some (.cel 0 (A9 x))∧Hc[H1.length]? = some (.cel 0 (A9 y))∧Hc[H2.length]? = some (.cel 0 (A9 (2^n)))∧Hc[H3.length]? = some (.cel 0 (cNd (plK (AO n) (n+1) x y l k out).2))∧Kp b H Hc)
   (by decide) (fun k vs Hc hk hI=>?_) (vs:=[w,.int .i64 ((n+1:Nat):Int),.sl (enL cCl l) tk,.ptr H.length 0 0,.ptr H1.length 0 0,.ptr H2.length 0 0,.ptr H3.length 0 0,.int .i64 0]) (H:=H3++[Blk.cel 0 (cNd ⟨((n+1:Nat):Int),0,0,0,0⟩)])
   ⟨w,rfl,hPS',f6,f8,f15,by simp [plK],hKp'⟩
  ·obtain ⟨vs',Hc,⟨w',rfl,g1,g2,g3,g4,g5,g6⟩,rec,hloop⟩:=loop
   have hpl:=QR n out x y l 4 (Va _)
   have hcnt:=Rj (n+1) x y l
   have hmul:Ma (n+1) x y l 4*n≤l.length*n:=VE _ hcnt
   have hmul2:l.length*(n+1)=l.length*n+l.length:=Nat.mul_succ _ _
   obtain ⟨w2,H4,a1,a2,a3⟩:=g1.snoc (Vw hb g6.len) (plK (AO n) (n+1) x y l 4 out).2 (by omega)
   obtain ⟨tk4,rfl⟩:=a2.sl
   have hf:¬(((4:Nat):Int)<4):=by decide
   refine ⟨H4,_,?_,a2,g6.trans a3⟩
   rw [hloop]
   unfold Sh.f3a
   simp only [GMb,GMc,Ai,hf,Hk g5,JN,a1,Au,Vc,List.length_singleton]
  ·obtain ⟨w',rfl,g1,g2,g3,g4,g5,g6⟩:=hI
   obtain ⟨w2,Hd,q1,q2,q3,q4,q5,q6,q7⟩:=place_turn hself hn H Hc out w' x y l tk H.length H1.length H2.length H3.length k hk hb (by omega) hok cnx cny hl hlen g1 g2 g3 g4 g5 g6 (by omega) (by omega) (by omega)
   exact ⟨_,_,⟨w2,rfl,q2,q3,q4,q5,q6,q7⟩,q1⟩
theorem TX (b:Nat):∀n d,n+1≤1329→n+1≤d→PlOk b (n+1) (Sh.fh d)
 | 0,d,h1,h2=>by
  obtain ⟨d,rfl⟩:∃e,d=e+1:=⟨d-1,by omega⟩
  exact RH (.inl rfl) h1
 | n+1,d,h1,h2=>by
  obtain ⟨d,rfl⟩:∃e,d=e+1:=⟨d-1,by omega⟩
  exact RH (.inr (TX b n d (by omega) (by omega))) h1
structure RC where
 n1:Bool
 l1:List Nat
 n2:Bool
 l2:List Nat
 s:UInt8
def cRC (r:RC):List Ab:=[.bool r.n1,.sl (enL cU r.l1) .no,.bool r.n2,.sl (enL cU r.l2) .no,.int .u8 (r.s.toNat:Int)]
instance:Sz cRC 5:=⟨fun _=>rfl⟩
def RC.fits (r:RC):Prop:=Lim r.l1∧Lim r.l2∧r.l1.length≤549755813888∧r.l2.length≤549755813888
def RC.right (r:RC):Bool:=GS r.n1 r.l1&&GS r.n2 r.l2
def RC.cl (r:RC):Cl:=⟨Hw r.n1 r.l1,Hw r.n2 r.l2,r.s⟩
theorem cRC_cl {r:RC} (h:r.right=true) (hf:r.fits):cRC r=cCl r.cl:=by
 simp only [RC.right,Vh]at h
 have e1:=bigC_ok h.1 hf.1
 have e2:=bigC_ok h.2 hf.2.1
 show [Ab.bool r.n1,.sl (enL cU r.l1) .no]++([Ab.bool r.n2,.sl (enL cU r.l2) .no]++[.int .u8 (r.s.toNat:Int)])=_
 rw [e1,e2];rfl
theorem enL_RC {l:List RC} (h:∀r∈l,r.right=true) (hf:∀r∈l,r.fits):enL cRC l=enL cCl (l.map RC.cl):=by
 unfold enL
 rw [Yb]
 exact X0 fun r hr=>cRC_cl (h r hr) (hf r hr)
def Jn (most:Int) (l:List RC):Bool:=decide ((l.length:Int)>most) || !((List.range l.length).all fun i=>match l[i]? with | some r=>decide (r.l1.length≤50)&&decide (r.l2.length≤50) | none=>true)
theorem q07_great (l:List RC) (tk:Tok) (most:Int) (H:Aa) (hl:l.length<1152921504606846976):Sh.f6f (.sl (enL cRC l) tk) (.int .i64 most) H=some (.ret (.bool (Jn most l)),H):=by
 unfold Sh.f6f Jn
 simp only [GMb,GMc,Au]
 by_cases hm:(l.length:Int)>most
 ·simp only [hm,GMb,GMc]
 ·simp only [hm,GMb,GMc]
  have key:=EF (G:=fun rec1 vs H1=>Sh.f6e H rec1 (ag vs 0) (ag vs 1) H1) l.length (fun i=>match l[i]? with | some r=>decide (r.l1.length≤50)&&decide (r.l2.length≤50) | none=>true) (fun i=>[.sl (enL cRC l) tk,.int .i64 (i:Int)]) H (some (.ret (.bool false),H)) (some (.ret (.bool true),H)) hl (fun rec i hi=>?_) (fun rec=>?_)
  ·refine key.trans ?_
   cases (List.range l.length).all fun i=>match l[i]? with | some r=>decide (r.l1.length≤50)&&decide (r.l2.length≤50) | none=>true <;> rfl
  ·have hi':(i:Int)<(l.length:Int):=by omega
   have hws:=Aw (show i<9223372036854775807 by omega)
   have g1:∀H,Ac false 1 (.cptr (cRC l[i]) 1) H=some (.sl (enL cU l[i].l1) .no):=fun H=>rfl
   have g2:∀H,Ac false 1 (.cptr (cRC l[i]) 3) H=some (.sl (enL cU l[i].l2) .no):=fun H=>rfl
   have d1:decide ((l[i].l1.length:Int)>50) = !decide (l[i].l1.length≤50):=by rw [Vr];simp;omega
   have d2:decide ((l[i].l2.length:Int)>50) = !decide (l[i].l2.length≤50):=by rw [Vr];simp;omega
   unfold Sh.f6e
   simp only [GMb,GMc,Au,hi',Ay hi,Al,UY,g1,UU hi,d1]
   cases decide (l[i].l1.length≤50)with
   | false=>simp only [GMb,GMc]
   | true=>
    simp only [GMb,GMc,Ay hi,Al,UY,show 2+1=3 from rfl,g2,Au,d2,hws]
    cases decide (l[i].l2.length≤50) <;> simp only [GMb,GMc]
  ·unfold Sh.f6e
   simp only [GMb,GMc,Au,VV]
def IE:Nat→Nat→Cl→Nat
 | 0,v,_=>v
 | f+1,v,c=>if DV v c then v else IE f (v+1) c
def A2 (l:List Cl):Nat:=l.foldl (fun v c=>IE (1330-v) v c) 1
theorem lvUp_ge:∀f v c,v≤IE f v c∧IE f v c≤v+f
 | 0,v,c=>⟨Va _,Va _⟩
 | f+1,v,c=>by
  unfold IE
  split
  ·omega
  ·have:=lvUp_ge f (v+1) c;omega
theorem Ur (l:List Cl):∀v,1≤v→v≤1330→v≤l.foldl (fun v c=>IE (1330-v) v c) v∧l.foldl (fun v c=>IE (1330-v) v c) v≤1330:=by
 induction l with
 | nil=>intro v h1 h2;simp;omega
 | cons c l ih=>
  intro v h1 h2
  have h:=lvUp_ge (1330-v) v c
  have:=ih (IE (1330-v) v c) (by omega) (by omega)
  simp only [List.foldl_cons]
  omega
theorem Iq (l:List Cl):1≤A2 l∧A2 l≤1330:=Ur l 1 (by omega) (by omega)
def Dq (l:List Cl):List Nd×Int:=
 if A2 (AU l)>1329 then ([],4)
 else if RO (AO (A2 (AU l)) [] (-(2^(A2 (AU l)-1))) (-(2^(A2 (AU l)-1))) (AU l)).1 ((AO (A2 (AU l)) [] (-(2^(A2 (AU l)-1))) (-(2^(A2 (AU l)-1))) (AU l)).2:Int)
 then (I5 (AO (A2 (AU l)) [] (-(2^(A2 (AU l)-1))) (-(2^(A2 (AU l)-1))) (AU l)).1 (AO (A2 (AU l)) [] (-(2^(A2 (AU l)-1))) (-(2^(A2 (AU l)-1))) (AU l)).2,0)
 else ([],1)
theorem Ut {l:List Cl} {c:Cl} (h:c∈AU l):c∈l:=by
 have h1:=(VT.1 h).1
 have:=(EH (l:=l) l.length (Va _)).2
 rw [Vg (Va _)]at this
 exact this c h1
theorem MJ (l:List Cl):(AU l).length≤l.length:=by
 have h1:(AU l).length≤(CH l).length:=Wi _ _
 have:=(EH (l:=l) l.length (Va _)).1
 rw [Vg (Va _)]at this
 omega
theorem cn_corner {v:Nat} (h1:1≤v) (h:v≤1329):Cn v (-(2^(v-1))):=by
 unfold Cn
 rw [XU,JQ]
 have e:(2:Nat)^(v+1)=2^v*2:=Nat.pow_succ _ _
 have e1:(2:Nat)^(v-1)≤2^v:=V6 (by omega) (by omega)
 have:=top_ge (v:=v+1) (by omega)
 omega
theorem Ib {H Hq:Aa} {tk:Tok} {Q:List Nd} {e:Int} (hc:Hq[H.length]? = some (.cel 0 [.sl [] .tight])) (hold:∀i,i<H.length→Hq[i]? = H[i]?) :
  (bP H (AF (Ag 1 (.ptr H.length 0 0) (.agg [.sl (enL cNd Q) tk]) Hq)) fun _ H37=>(Fy [Ac true 1 (.ptr H.length 0 0) H37,some (.int .i64 e)]).bind fun x38=>rPN H x38 H37)=some (.ret (.tup [CP Q,.int .i64 e]),H):=by
 have hcl:=(UV.1 hc).1
 have hst:Ag 1 (.ptr H.length 0 0) (.agg [.sl (enL cNd Q) tk]) Hq=some (Hq.set H.length (.cel 0 [.sl (enL cNd Q) tk])):=by
  simp only [Ag,AA hc,Option.bind_some,B9 hc];rfl
 have hld:Ac true 1 (.ptr H.length 0 0) (Hq.set H.length (.cel 0 [.sl (enL cNd Q) tk]))=some (.agg [.sl (enL cNd Q) tk]):=by
  have:(Hq.set H.length (.cel 0 [.sl (enL cNd Q) tk]))[H.length]? = some (.cel 0 [.sl (enL cNd Q) tk]):=by rw [Vj hcl]
  simp only [Ac,AA this,Option.bind_some];rfl
 have htake:(Hq.set H.length (.cel 0 [.sl (enL cNd Q) tk])).take H.length=H:=C8 fun i hi=>by
  rw [UX (by omega),hold i hi]
 simp only [GMb,GMc,hst,hld,IJ,FS,Hf,Option.map_some,GI htake,CQ,BN,Cd,FU,DU,EN,Ho,Fe]
 rfl
theorem loop_all2 {G:LK→LK} (N:Nat) (p:Nat→Bool) (st:Nat→List Ab) (H:Aa) (yes no:Out) (hN:N<1152921504606846976)
  (turn:∀(rec:LK) (i:Nat),i<N→G rec (st i) H=if p i then rec (st (i+1)) H else no) (last:(List.range N).all p=true→∀rec:LK,G rec (st N) H=yes):Ao G AQ (st 0) H=if (List.range N).all p then yes else no:=by
 refine Br (σ:=Nat) (fun i=>i≤N∧∀j,j<i→p j=true) st (fun _=>H) (fun i=>N-i) (fun _=>if (List.range N).all p then yes else no) (fun i rec hi hrec=>?_) 0 ⟨Vy _,fun j hj=>by omega⟩ (by omega)
 by_cases h:i<N
 ·rw [turn rec i h]
  cases hp:p i with
  | true=>exact hrec (i+1) ⟨h,fun j hj=>by
    by_cases e:j=i
    ·rw [e];exact hp
    ·exact hi.2 j (by omega)⟩ (by omega)
  | false=>
   have:(List.range N).all p=false:=by rw [W7];exact ⟨i,by simpa using h,by simp [hp]⟩
   simp [this]
 ·have e:i=N:=by omega
  subst e
  have:(List.range i).all p=true:=by rw [Vn];intro j hj;exact hi.2 j (by simpa using hj)
  rw [last this,this];rfl
def Np (S:List Cl):List Nd×Int:=
 if A2 S>1329 then ([],4)
 else if RO (AO (A2 S) [] (-(2^(A2 S-1))) (-(2^(A2 S-1))) S).1 ((AO (A2 S) [] (-(2^(A2 S-1))) (-(2^(A2 S-1))) S).2:Int)
 then (I5 (AO (A2 S) [] (-(2^(A2 S-1))) (-(2^(A2 S-1))) S).1 (AO (A2 S) [] (-(2^(A2 S-1))) (-(2^(A2 S-1))) S).2,0)
 else ([],1)
theorem QU (l:List Cl):Dq l=Np (AU l):=rfl
theorem level_run (H B:Aa) (rec2:LK) (p:Ab) (l:List Cl) (tk:Tok) (i:Nat) (hi:i<l.length) (hll:l.length<2147483648) (hc:l[i].ok):∀(f v n:Nat),f+v=1330→1≤v→f<n →
  Ao (fun rec3 vs H1=>Sh.f68 H rec2 rec3 (ag vs 0) (ag vs 1) (ag vs 2) (ag vs 3) H1) n [p,.sl (enL cCl l) tk,.int .i64 (v:Int),.int .i64 (i:Int)] B=rec2 [p,.sl (enL cCl l) tk,.int .i64 (IE f v l[i]:Int),.int .i64 ((i+1:Nat):Int)] B:=by
 intro f
 induction f with
 | zero=>
  intro v n h1 h2 h3
  obtain ⟨n,rfl⟩:∃m,n=m+1:=⟨n-1,by omega⟩
  have hv:¬(v:Int)≤1329:=by omega
  have hws:=Aw (show i<9223372036854775807 by omega)
  rw [CF]
  unfold Sh.f68
  simp only [GMb,GMc,Ai,hv,hws]
  rfl
 | succ f ih=>
  intro v n h1 h2 h3
  obtain ⟨n,rfl⟩:∃m,n=m+1:=⟨n-1,by omega⟩
  have hv:(v:Int)≤1329:=by omega
  have hws:=Aw (show i<9223372036854775807 by omega)
  have hwv:=Aw (show v<9223372036854775807 by omega)
  have hw:=fun H=>q07_within l[i] v H hc h2 (by omega)
  rw [CF]
  unfold Sh.f68 IE
  simp only [GMb,GMc,Ai,hv,Ay hi,Ol,hw]
  cases DV v l[i]with
  | true=>simp only [GMb,GMc,hws]
  | false=>
   simp only [GMb,GMc,hwv]
   exact ih (v+1) n (by omega) (by omega) (by omega)
theorem NU {H:Aa} {e:Int}:((AD (some [(.sl [] .tight)]) []).bind fun x57=>bP H (AF (Ag 1 (.ptr H.length 0 0) x57 (H++[.cel 0 [.sl [] .tight]]))) fun _ H59=>(Fy [Ac true 1 (.ptr H.length 0 0) H59,some (.int .i64 e)]).bind fun x60=>rPN H x60 H59)=some (.ret (.tup [CP [],.int .i64 e]),H):=by
 rw [show AD (some [(.sl [] .tight)]) []=some (.agg [.sl (enL cNd []) .tight]) from rfl]
 rw [B5]
 exact Ib (by simp) fun i hi=>by rw [UW hi]
theorem q07_of (l:List RC) (tk:Tok) (H:Aa) (hl:l.length<2147483648) (hf:∀r∈l,r.fits) (hs:∀r∈l,r.right=true→r.cl.ok) :
  Sh.f6b (.sl (enL cRC l) tk) H=some (.ret (if l.all RC.right then .tup [CP (Dq (l.map RC.cl)).1,.int .i64 (Dq (l.map RC.cl)).2]else .tup [CP [],.int .i64 1]),H):=by
 unfold Sh.f6b
 rw [alloc_eq (cs:=[.sl [] .tight]) rfl]
 simp only [GMb,GMc]
 have hall:l.all RC.right=(List.range l.length).all fun i=>match l[i]? with | some r=>r.right | none=>true:=by
  rw [Vr,Vn,Vn]
  constructor
  ·intro h i hi
   have hi':i<l.length:=by simpa using hi
   rw [UU hi'];exact h _ (Vi hi')
  ·intro h r hr
   obtain ⟨i,hi,rfl⟩:=V5 hr
   have:=h i (by simpa using hi)
   rwa [UU hi]at this
 have key:=loop_all2 (G:=fun rec1 vs H1=>Sh.f6a H rec1 (ag vs 0) (ag vs 1) (ag vs 2) H1) l.length (fun i=>match l[i]? with | some r=>r.right | none=>true) (fun i=>[.sl (enL cRC l) tk,.ptr H.length 0 0,.int .i64 (i:Int)]) (H++[.cel 0 [.sl [] .tight]])
  (some (.ret (.tup [CP (Dq (l.map RC.cl)).1,.int .i64 (Dq (l.map RC.cl)).2]),H)) (some (.ret (.tup [CP [],.int .i64 1]),H)) (by omega) (fun rec i hi=>?_) (fun hr rec=>?_)
 ·refine key.trans ?_
  rw [hall]
  cases (List.range l.length).all fun i=>match l[i]? with | some r=>r.right | none=>true <;> rfl
 ·have hi':(i:Int)<(l.length:Int):=by omega
  have hws:=Aw (show i<9223372036854775807 by omega)
  have hfi:=hf _ (Vi hi)
  have g1:∀H,Ac true 2 (.cptr (cRC l[i]) 0) H=some (.agg [.bool l[i].n1,.sl (enL cU l[i].l1) .no]):=fun H=>rfl
  have g2:∀H,Ac true 2 (.cptr (cRC l[i]) 2) H=some (.agg [.bool l[i].n2,.sl (enL cU l[i].l2) .no]):=fun H=>rfl
  have r1:=fun H=>Uc l[i].n1 l[i].l1 .no H hfi.2.2.1
  have r2:=fun H=>Uc l[i].n2 l[i].l2 .no H hfi.2.2.2
  unfold Sh.f6a
  simp only [GMb,GMc,Au,hi',Ay hi,Al,UY,g1,r1,UU hi,RC.right]
  cases GS l[i].n1 l[i].l1 with
  | false=>simp only [GMb,GMc,NU]
  | true=>
   simp only [GMb,GMc,Ay hi,Al,UY,g2,r2]
   cases GS l[i].n2 l[i].l2 with
   | false=>simp only [GMb,GMc,NU]
   | true=>simp only [GMb,GMc,hws]
 ·rw [←hall]at hr
  have hrr:∀r∈l,r.right=true:=Vn.1 hr
  have hcl:∀c∈l.map RC.cl,c.ok:=fun c hc=>by
   obtain ⟨r,h1,rfl⟩:=Wz.1 hc
   exact hs r h1 (hrr r h1)
  unfold Sh.f6a
  simp only [GMb,GMc,Au,VV]
  rw [enL_RC hrr hf]
  generalize hL:l.map RC.cl=L at hcl
  have hLl:L.length<2147483648:=by rw [←hL];simpa using hl
  simp only [GMb,GMc,q07_last L tk _ (by omega) hcl,QU]
  have hsm:∀c∈AU L,c.ok:=fun c hc=>hcl c (Ut hc)
  have hsl:=MJ L
  generalize AU L=S at hsm hsl
  refine Cg (G:=fun rec2 vs H1=>Sh.f69 H rec2 (ag vs 0) (ag vs 1) (ag vs 2) (ag vs 3) H1) S.length (fun i=>[.ptr H.length 0 0,.sl (enL cCl S) .no,.int .i64 (A2 (S.take i):Int),.int .i64 (i:Int)]) (fun _=>H++[.cel 0 [.sl [] .tight]])
   (some (.ret (.tup [CP (Np S).1,.int .i64 (Np S).2]),H)) (by omega) (fun rec2 i hi=>?_) (fun rec2=>?_)
  ·have hi':(i:Int)<(S.length:Int):=by omega
   obtain ⟨v1,v2⟩:=Iq (S.take i)
   have hrun:=level_run H (H++[.cel 0 [.sl [] .tight]]) rec2 (.ptr H.length 0 0) S .no i hi (by omega) (hsm _ (Vi hi)) (1330-A2 (S.take i)) (A2 (S.take i)) AQ (by omega) v1 (by rw [Dv];omega)
   have hlv:A2 (S.take (i+1))=IE (1330-A2 (S.take i)) (A2 (S.take i)) S[i]:=by
    unfold A2
    rw [Vf hi,WY];rfl
   unfold Sh.f69
   simp only [GMb,GMc,Ai,Au,hi']
   rw [hlv]
   exact hrun
  ·obtain ⟨v1,v2⟩:=Iq S
   unfold Sh.f69 Np
   rw [Vg (Va _)]
   generalize A2 S=v at v1 v2
   simp only [GMb,GMc,Ai,Au,VV]
   by_cases hv:v>1329
   ·have hv':(v:Int)>1329:=by omega
    simp only [GMb,GMc,hv',if_pos hv,NU]
   ·have hv':¬(v:Int)>1329:=by omega
    obtain ⟨n,rfl⟩:∃n,v=n+1:=⟨v-1,by omega⟩
    have hwn:IntKind.i64.wrap (((n+1:Nat):Int)-1)=(n:Int):=by rw [An] <;> omega
    have hp:SB 44 (2^n):=GX (by omega)
    have hpow:=fun H=>IL n H (by omega)
    have hmin:=fun H=>Ij (2^n) H (hp.lb (by decide))
    have hcorn:=cn_corner (v:=n+1) (by omega) (by omega)
    rw [Vp]at hcorn
    rw [if_neg hv]
    have s1:∀B:Aa,Ag 2 (.ptr B.length 0 0) (big (-(2^n))) (B++[.cel 0 [.bool false,.sl [] .tight]])=some (B++[.cel 0 (A9 (-(2^n)))]):=fun B=>by rw [Cx (Ap (B:=B)) rfl,Bh]
    have hmul:S.length*(n+1)≤2147483648*1329:=X7 (by omega) (by omega)
    have hlen:([]:List Nd).length+S.length*(n+1)<3518437208883:=by
     simp only [List.length_nil];omega
    obtain ⟨Hq,w',p1,p2,p3⟩:=TX (H++[Blk.cel 0 [.sl [] .tight]]).length n AQ (by omega) (by rw [Dv];omega) [] (.sl [] .tight) (-(2^n)) (-(2^n)) S .no (H++[.cel 0 [.sl [] .tight]]++[.cel 0 (A9 (-(2^n)))]) (.inl ⟨rfl,rfl⟩) (by simp) hsm hcorn hcorn (by omega) hlen
    obtain ⟨tk2,rfl⟩:=p2.sl
    have hpl:=Vw (Ph (n+1) [] (-(2^n)) (-(2^n)) S) (Nat.add_le_add_left hmul _)
    simp only [List.length_nil]at hpl
    simp only [GMb,GMc,hv',hwn,hpow,hmin,Cb,s1,Bb Ap,p1,B3,BB,Vp]
    generalize AO (n+1) [] (-(2^n)) (-(2^n)) S=P at p1 p2 hpl
    obtain ⟨Q,r⟩:=P
    dsimp only at p1 p2 hpl ⊢
    have hqo:=fun H=>q06_of Q tk2 (r:Int) H (by omega)
    have hc':Hq[H.length]? = some (.cel 0 [.sl [] .tight]):=p3.cel _ _ (by simp)
    have hold:∀i,i<H.length→Hq[i]? = H[i]? := fun i hi=>by
     rw [p3.old i (by simp;omega),Vb,UW hi]
    simp only [GMb,GMc,hqo]
    cases RO Q (r:Int)with
    | false=>
     simp only [GMb,GMc,B3,BB,CP,BD]
     exact Ib hc' hold
    | true=>
     simp only [GMb,GMc,B3,BB,CP,BD,Int.toNat_natCast]
     exact Ib hc' hold
def Lu (c:UInt8):Bool:=decide (33≤c.toNat∧c.toNat≤126)
theorem q04_sign (c:UInt8) (H:Aa):Sh.f4w (.int .u8 (c.toNat:Int)) H=some (.ret (.bool (Lu c)),H):=by
 unfold Sh.f4w Lu
 by_cases h:(33:Int)≤c.toNat
 ·have:33≤c.toNat:=by omega
  simp [h,this];omega
 ·have:¬33≤c.toNat:=by omega
  simp [h,this]
def Hi (s:List UInt8):Bool:=s.all Lu&&decide (1≤s.length∧s.length≤40)
theorem q04_rule (s:List UInt8) (H:Aa) (hs:s.length<1152921504606846976):Sh.f2r (.str s) H=some (.ret (.bool (Hi s)),H):=by
 unfold Sh.f2r
 refine Br (σ:=Nat) (fun i=>i≤s.length∧(s.take i).all Lu=true) (fun i=>[.str s,.int .i64 (i:Int)]) (fun _=>H) (fun i=>s.length-i) (fun _=>some (.ret (.bool (Hi s)),H)) (fun i rec hi hrec=>?_) 0 ⟨by omega,by simp⟩ (by omega)
 obtain ⟨hi,hall⟩:=hi
 unfold Sh.f7n
 by_cases h:i<s.length
 ·have hx:(i:Int)<(s.length:Int):=by omega
  simp only [Ak,Bc,IS,Option.bind_some,Bm,hx,decide_true,AZ,ML h,q04_sign,EU,Je]
  cases hc:Lu s[i]with
  | false=>
   have:Hi s=false:=by
    simp only [Hi,WD];left
    rw [W7];exact ⟨s[i],Vi h,by simp [hc]⟩
   simp [this]
  | true=>
   have:=hrec (i+1) ⟨h,by rw [Vf h,XP];simp [hall,hc]⟩ (by omega)
   simp (disch:=omega) [An]
   simpa using this
 ·have hx:¬(i:Int)<(s.length:Int):=by omega
  have he:s.take i=s:=Vg (by omega)
  rw [he]at hall
  by_cases h1:(1:Int)≤s.length
  ·simp [hx,h1,Hi,hall]
   by_cases h2:s.length≤40
   ·have:(s.length:Int)≤40:=by omega
    simp [this,h2];omega
   ·have:¬(s.length:Int)≤40:=by omega
    simp [this,h2]
  ·have:s=[]:=Vo (by omega)
   subst this
   have hz:i=0:=by simpa using hi
   subst hz;simp [Hi]
def Fl (most:Int) (l:List RC):List Nd×Bool:=
 if Jn most l then ([],false)
 else if l.all RC.right then ((Dq (l.map RC.cl)).1,decide ((Dq (l.map RC.cl)).2=0))else ([],false)
def RC.lim (r:RC):Prop:=Lim r.l1∧Lim r.l2
theorem great_no {most:Int} {l:List RC} (h:Jn most l=false) (hl:∀r∈l,r.lim):(l.length:Int)≤most∧(∀r∈l,r.fits)∧∀r∈l,r.cl.ok:=by
 simp only [Jn,Xv,decide_eq_false_iff_not,XB,Vn]at h
 obtain ⟨h1,h2⟩:=h
 have hs:∀r∈l,r.l1.length≤50∧r.l2.length≤50:=fun r hr=>by
  obtain ⟨i,hi,rfl⟩:=V5 hr
  have:=h2 i (by simpa using hi)
  rw [UU hi]at this
  simpa using this
 refine ⟨by omega,fun r hr=>⟨(hl r hr).1,(hl r hr).2,by have:=(hs r hr).1;omega,by have:=(hs r hr).2;omega⟩,fun r hr=>⟨?_,?_⟩⟩
 ·have h3:=Rs r.l1 (hl r hr).1
  have h4:=L8 (show r.l1.length≤100 by have:=(hs r hr).1;omega)
  show (Hw r.n1 r.l1).natAbs<_
  rw [OO];exact VR h3 h4
 ·have h3:=Rs r.l2 (hl r hr).2
  have h4:=L8 (show r.l2.length≤100 by have:=(hs r hr).2;omega)
  show (Hw r.n2 r.l2).natAbs<_
  rw [OO];exact VR h3 h4
theorem q07_quad (l:List RC) (tk:Tok) (most:Int) (H:Aa) (hm:most<2147483648) (hll:l.length<1152921504606846976) (hl:∀r∈l,r.lim) :
  Sh.f6g (.sl (enL cRC l) tk) (.int .i64 most) H=some (.ret (.tup [CP (Fl most l).1,.bool (Fl most l).2]),H):=by
 unfold Sh.f6g Fl
 rw [alloc_eq (cs:=[.sl [] .tight]) rfl]
 simp only [GMb,GMc,q07_great l tk most _ hll]
 have tail:∀(Q:List Nd) (q:Bool) (Hq:Aa) (tk:Tok),Hq[H.length]? = some (.cel 0 [.sl [] .tight])→(∀i,i<H.length→Hq[i]? = H[i]?) →
   (bP H (AF (Ag 1 (.ptr H.length 0 0) (.agg [.sl (enL cNd Q) tk]) Hq)) fun _ H37=>(Fy [Ac true 1 (.ptr H.length 0 0) H37,some (.bool q)]).bind fun x38=>rPN H x38 H37)=some (.ret (.tup [CP Q,.bool q]),H):=by
  intro Q q Hq tk hc hold
  have hcl:=(UV.1 hc).1
  have hst:Ag 1 (.ptr H.length 0 0) (.agg [.sl (enL cNd Q) tk]) Hq=some (Hq.set H.length (.cel 0 [.sl (enL cNd Q) tk])):=by
   simp only [Ag,AA hc,Option.bind_some,B9 hc];rfl
  have hld:Ac true 1 (.ptr H.length 0 0) (Hq.set H.length (.cel 0 [.sl (enL cNd Q) tk]))=some (.agg [.sl (enL cNd Q) tk]):=by
   have:(Hq.set H.length (.cel 0 [.sl (enL cNd Q) tk]))[H.length]? = some (.cel 0 [.sl (enL cNd Q) tk]):=by rw [Vj hcl]
   simp only [Ac,AA this,Option.bind_some];rfl
  have htake:(Hq.set H.length (.cel 0 [.sl (enL cNd Q) tk])).take H.length=H:=C8 fun i hi=>by
   rw [UX (by omega),hold i hi]
  simp only [GMb,GMc,hst,hld,IJ,FS,Hf,Option.map_some,GI htake,CQ,BN,Cd,FU,DU,EN,Ho,EL]
  rfl
 cases hg:Jn most l with
 | true=>
  simp only [GMb,GMc]
  rw [show AD (some [(.sl [] .tight)]) []=some (.agg [.sl (enL cNd []) .tight]) from rfl,B5]
  exact tail [] false _ _ (by simp) fun i hi=>by rw [UW hi]
 | false=>
  obtain ⟨g1,g2,g3⟩:=great_no hg hl
  simp only [GMb,GMc,q07_of l tk _ (by omega) g2 (fun r hr _=>g3 r hr)]
  have mid:∀(Q:List Nd) (e:Int),((Av 0 (.tup [CP Q,.int .i64 e])).bind fun x13=>(Av 1 (.tup [CP Q,.int .i64 e])).bind fun x14=>
    Am (Az (some [(.sl [] .tight)]) (H++[Blk.cel 0 [.sl [] .tight]])) fun q_15 H16=>bP H (AF (Ag 1 q_15 x13 H16)) fun _ H18=>(Ac true 1 q_15 H18).bind fun x19=>
    (Ae .none .eql x14 (.int .i64 0)).bind fun x20=>bP H (AF (Ag 1 (.ptr H.length 0 0) x19 H18)) fun _ H22=>(Fy [Ac true 1 (.ptr H.length 0 0) H22,some x20]).bind fun x23=>rPN H x23 H22)=some (.ret (.tup [CP Q,.bool (decide (e=0))]),H):=by
   intro Q e
   rw [alloc_eq (cs:=[.sl [] .tight]) rfl]
   have hB:∀B:Aa,Ag 1 (.ptr B.length 0 0) (.agg [.sl (enL cNd Q) .no]) (B++[.cel 0 [.sl [] .tight]])=some (B++[.cel 0 [.sl (enL cNd Q) .no]]):=fun B=>by
    simp only [Ag,AA (Ap (B:=B) (cs:=[.sl [] .tight])),Option.bind_some,B9 (Ap (B:=B) (cs:=[.sl [] .tight])),Bh];rfl
   have hL:∀B:Aa,Ac true 1 (.ptr B.length 0 0) (B++[.cel 0 [.sl (enL cNd Q) .no]])=some (.agg [.sl (enL cNd Q) .no]):=fun B=>by
    simp only [Ac,AA (Ap (B:=B)),Option.bind_some];rfl
   simp only [B3,BB,GMb,GMc,CP,BD,hB,hL]
   exact tail Q _ _ _ (by simp) fun i hi=>by rw [Vb,UW hi]
  cases hr:l.all RC.right with
  | true=>simp only [GMb,GMc];exact mid _ _
  | false=>simp only [GMb,GMc];exact mid [] 1
def Fm (rule:List UInt8) (L:List Nd):List Ab:=[.str rule,.sl (enL cNd L) .no]
def pat (rule:List UInt8) (L:List Nd):Ab:=.agg (Fm rule L)
theorem boxPat (rule:List UInt8) (L:List Nd) (H:Aa):B8 true 2 (pat rule L) H=some (.ptr H.length 0 0,H++[.cel 0 (Fm rule L)]):=Cm rfl rfl
section
variable {H:Aa} {p:Nat} {rule:List UInt8} {L:List Nd}
theorem Sa (hg:H[p]? = some (.cel 0 (Fm rule L))):Ac false 1 (.ptr p 0 0) H=some (.str rule):=by
 simp only [Ac,AA hg,Option.bind_some];rfl
theorem Kk (hg:H[p]? = some (.cel 0 (Fm rule L))):Ac true 1 (.ptr p 0 1) H=some (CP L):=by
 simp only [Ac,AA hg,Option.bind_some];rfl
theorem MG (hg:H[p]? = some (.cel 0 (Fm rule L))):Ac true 2 (.ptr p 0 0) H=some (pat rule L):=by
 simp only [Ac,AA hg,Option.bind_some];rfl

end
theorem q11_right (rule:List UInt8) (L:List Nd) (H:Aa) (hr:rule.length<1152921504606846976) (hL:L.length<17592186044415):Sh.f58 (pat rule L) H=some (.ret (.bool (Hi rule&&Do L)),H):=by
 unfold Sh.f58
 have e1:(H++[Blk.cel 0 (Fm rule L)])[H.length]? = some (.cel 0 (Fm rule L)):=Ap
 simp only [GMb,GMc,boxPat,Ah,UY,Nat.add_zero,Sa e1,q04_rule rule _ hr]
 cases Hi rule with
 | false=>simp only [GMb,GMc,FB]
 | true=>simp only [GMb,GMc,Ah,UY,Kk e1,CP,BD,q05_right L .no _ hL,FB]
theorem q11_of (rule:List UInt8) (l:List RC) (tk:Tok) (most:Int) (H:Aa) (hr:rule.length<1152921504606846976) (hm:most<2147483648) (hll:l.length<1152921504606846976) (hl:∀r∈l,r.lim) :
  Sh.f10 (.str rule) (.sl (enL cRC l) tk) (.int .i64 most) H=some (.ret (.tup [pat rule (Fl most l).1,.bool ((Fl most l).2&&Hi rule)]),H):=by
 unfold Sh.f10
 rw [alloc_eq (cs:=[.str [],.sl [] .tight]) rfl]
 simp only [GMb,GMc,q07_quad l tk most _ hm hll hl,B3,BB,alloc_eq (cs:=[Ab.sl [] .tight]) rfl]
 generalize Fl most l=Q
 obtain ⟨Q,ok⟩:=Q
 dsimp only
 have hB:∀B:Aa,Ag 1 (.ptr B.length 0 0) (CP Q) (B++[.cel 0 [.sl [] .tight]])=some (B++[.cel 0 (BD Q)]):=fun B=>by
  unfold CP BD
  simp only [Ag,AA (Ap (B:=B) (cs:=[.sl [] .tight])),Option.bind_some,B9 (Ap (B:=B) (cs:=[.sl [] .tight])),Bh];rfl
 have hL:∀B:Aa,Ac true 1 (.ptr B.length 0 0) (B++[.cel 0 (BD Q)])=some (CP Q):=fun B=>by
  unfold CP BD
  simp only [Ac,AA (Ap (B:=B)),Option.bind_some];rfl
 have hb:AD (some [.str [],.sl [] .tight]) [(0,1,.str rule),(1,1,CP Q)]=some (pat rule Q):=by
  unfold CP BD pat Fm
  simp [AD,FV,Dp,Ab.acells]
 have hst:Ag 2 (.ptr H.length 0 0) (pat rule Q) (H++[Blk.cel 0 [.str [],.sl [] .tight]]++[.cel 0 (BD Q)])=some (H++[Blk.cel 0 (Fm rule Q)]++[.cel 0 (BD Q)]):=by
  have hc:(H++[Blk.cel 0 [.str [],.sl [] .tight]]++[.cel 0 (BD Q)])[H.length]? = some (.cel 0 [.str [],.sl [] .tight]):=by simp
  unfold pat Fm
  simp only [Ag,AA hc,Option.bind_some,B9 hc,C5 (cs:=[Ab.str rule,.sl (enL cNd Q) .no]) rfl,Fz (cs:=[Ab.str [],.sl [] .tight]) (sz:=2) rfl]
  simp
 have hld:Ac true 2 (.ptr H.length 0 0) (H++[Blk.cel 0 (Fm rule Q)]++[.cel 0 (BD Q)])=some (pat rule Q):=MG (by simp)
 have fin:∀q:Bool,((Fy [Ac true 2 (.ptr H.length 0 0) (H++[Blk.cel 0 (Fm rule Q)]++[.cel 0 (BD Q)]),some (.bool q)]).bind fun x22=>rPN H x22 (H++[Blk.cel 0 (Fm rule Q)]++[.cel 0 (BD Q)]))=some (.ret (.tup [pat rule Q,.bool q]),H):=fun q=>by
  rw [hld,Vb]
  unfold pat Fm
  simp only [IJ,FS,Hf,Option.map_some,B5,Cf,CQ,BN,Cd,FU,DU,EN,Ho,UC,EL]
 simp only [hB,GMb,GMc]
 cases ok with
 | false=>simp only [GMb,GMc,hL,and_true,eq_self,hb,hst,fin]
 | true=>simp only [GMb,GMc,q04_rule rule _ hr,hL,and_true,eq_self,hb,hst,fin]
def Nv (a b:Int):Bool:=decide (0≤a)&&decide (a≤1000)&&decide (0≤b)&&decide (b≤100000)
theorem q11_fine (a b:Int) (H:Aa):Sh.f2w (.agg [.int .i64 a,.int .i64 b]) H=some (.ret (.bool (Nv a b)),H):=by
 unfold Sh.f2w Nv
 have e1:(H++[Blk.cel 0 [.int .i64 a,.int .i64 b]])[H.length]? = some (.cel 0 [.int .i64 a,.int .i64 b]):=Ap
 have g1:Ac false 1 (.ptr H.length 0 0) (H++[Blk.cel 0 [.int .i64 a,.int .i64 b]])=some (.int .i64 a):=by simp only [Ac,AA e1,Option.bind_some];rfl
 have g2:Ac false 1 (.ptr H.length 0 1) (H++[Blk.cel 0 [.int .i64 a,.int .i64 b]])=some (.int .i64 b):=by simp only [Ac,AA e1,Option.bind_some];rfl
 simp only [GMb,GMc,Cm (sz:=2) (cs:=[Ab.int .i64 a,.int .i64 b]) rfl rfl,Ah,UY,Nat.add_zero,g1,ge_iff_le]
 cases decide (0≤a)with
 | false=>simp only [GMb,GMc,FB]
 | true=>
  simp only [GMb,GMc,Ah,UY,Nat.add_zero,g1]
  cases decide (a≤1000)with
  | false=>simp only [GMb,GMc,FB]
  | true=>
   simp only [GMb,GMc,Ah,UY,g2,ge_iff_le]
   cases decide (0≤b)with
   | false=>simp only [GMb,GMc,FB]
   | true=>simp only [GMb,GMc,Ah,UY,g2,FB]
theorem q11_format (n:Int) (H:Aa):Sh.f4v (.int .i64 n) H=some (.ret (.bool (decide (1≤n)&&decide (n≤5))),H):=by
 unfold Sh.f4v
 simp only [GMb,GMc,ge_iff_le]
 cases decide (1≤n) <;> simp only [GMb,GMc]
inductive QT where
 | nil
 | lf (a b c d:Int)
 | node (a b c d:QT)
deriving DecidableEq
def KZ (L:List Nd) (E:List Bool):Nat→Nat→QT
 | 0,_=>.nil
 | v+1,n=>
  if E.getD n true then .nil
  else if 1<(A0 L n).lv then .node (KZ L E v (A0 L n).k0.toNat) (KZ L E v (A0 L n).k1.toNat) (KZ L E v (A0 L n).k2.toNat) (KZ L E v (A0 L n).k3.toNat)
  else .lf (A0 L n).k0 (A0 L n).k1 (A0 L n).k2 (A0 L n).k3
abbrev sem (L:List Nd) (v n:Nat):QT:=KZ L (A3 L) v n
def St (a:Int):Prop:=0≤a∧a≤255
def Ga:Nat→QT→Prop
 | _,.nil=>True
 | v,.lf a b c d=>v=1∧(St a∧St b∧St c∧St d)∧¬(a=0∧b=0∧c=0∧d=0)
 | v,.node a b c d=>2≤v∧v≤1329∧(Ga (v-1) a∧Ga (v-1) b∧Ga (v-1) c∧Ga (v-1) d)∧¬(a=.nil∧b=.nil∧c=.nil∧d=.nil)
def Be:Nat→QT→List Nd→List Nd×Nat
 | _,.nil,out=>(out,0)
 | _,.lf a b c d,out=>B4 out ⟨1,a,b,c,d⟩
 | v,.node a b c d,out=>
  B4 (Be (v-1) d (Be (v-1) c (Be (v-1) b (Be (v-1) a out).1).1).1).1
   ⟨v,(Be (v-1) a out).2,(Be (v-1) b (Be (v-1) a out).1).2,(Be (v-1) c (Be (v-1) b (Be (v-1) a out).1).1).2,(Be (v-1) d (Be (v-1) c (Be (v-1) b (Be (v-1) a out).1).1).1).2⟩
theorem insK_4 (rec:Nat→List Nd→List Nd×Nat) (x:Nd) (out:List Nd):BO rec x 4 out =
  ((rec x.k3.toNat (rec x.k2.toNat (rec x.k1.toNat (rec x.k0.toNat out).1).1).1).1,
   ⟨x.lv,(rec x.k0.toNat out).2,(rec x.k1.toNat (rec x.k0.toNat out).1).2,(rec x.k2.toNat (rec x.k1.toNat (rec x.k0.toNat out).1).1).2,(rec x.k3.toNat (rec x.k2.toNat (rec x.k1.toNat (rec x.k0.toNat out).1).1).1).2⟩):=rfl
def Lv (L:List Nd) (v n:Nat):Prop:=n≤L.length∧(n=0∨(A0 L n).lv.toNat=v)
theorem Lv.kid {L:List Nd} (hl:AE L=true) {v n k:Nat} (h0:0<n) (h:Lv L (v+1) n) (h1:1<(A0 L n).lv) (hk:k<4):Lv L v ((A0 L n).kid k).toNat∧((A0 L n).kid k).toNat<n∧0≤(A0 L n).kid k:=by
 obtain ⟨m,rfl⟩:∃m,n=m+1:=⟨n-1,by omega⟩
 have hm:m<L.length:=h.1
 obtain ⟨l1,l2,l3⟩:=AJ hl hm
 have hx:A0 L ((m+1:Nat):Int)=L[m]:=Ba hm
 have hv:=h.2
 rw [hx]at h1 hv ⊢
 obtain ⟨q1,q2,q3⟩:=l3 k hk
 by_cases hc:0<L[m].kid k
 ·obtain ⟨r1,r2⟩:=q3 h1 hc
  obtain ⟨c,hcc⟩:∃c:Nat,L[m].kid k=((c+1:Nat):Int):=⟨(L[m].kid k-1).toNat,by omega⟩
  have hcl:c<L.length:=by omega
  have:=r2 L[c] (by rw [show (L[m].kid k-1).toNat=c from by omega];exact UU hcl)
  rw [hcc,show (((c+1:Nat):Int)).toNat=c+1 from by omega]
  refine ⟨⟨by omega,.inr ?_⟩,by omega,by omega⟩
  rw [Ba hcl];omega
 ·rw [show (L[m].kid k).toNat=0 from by omega]
  exact ⟨⟨Vy _,.inl rfl⟩,by omega,q1⟩
theorem insF_sem {L:List Nd} (hl:AE L=true):∀v n out,Lv L v n→Bl L (A3 L) v n out=Be v (sem L v n) out
 | 0,n,out,h=>rfl
 | v+1,n,out,h=>by
  unfold sem
  simp only [Bl,KZ]
  split
  ·rfl
  ·rename_i he
   have h0:0<n:=O8 (by simpa using he)
   have hlv:(A0 L (n:Int)).lv.toNat=v+1:=by rcases h.2 with h | h <;> omega
   split
   ·rename_i h1
    rw [insK_4]
    have e:∀k,k<4→∀o,Bl L (A3 L) v ((A0 L n).kid k).toNat o=Be v (sem L v ((A0 L n).kid k).toNat) o:=fun k hk o=>insF_sem hl v _ o (Lv.kid hl h0 h h1 hk).1
    have e0:=e 0 (by omega)
    have e1:=e 1 (by omega)
    have e2:=e 2 (by omega)
    have e3:=e 3 (by omega)
    simp only [Nd.kid]at e0 e1 e2 e3
    simp only [Be,Vp,e0,e1,e2,e3]
    have:(A0 L (n:Int)).lv=((v+1:Nat):Int):=by omega
    rw [this]
   ·rename_i h1
    have:(A0 L (n:Int)).lv=1:=by omega
    simp only [Be]
    congr 1
    cases hx:A0 L (n:Int)with
    | mk a b c d e=>rw [hx]at this;simp only at this;rw [this]
theorem O9 {L:List Nd} (hl:AE L=true) {n:Nat} (h0:0<n) (hn:n≤L.length):(A3 L).getD n true=(List.range 4).all fun k=>decide ((A0 L n).kid k=0)||(decide (1<(A0 L n).lv)&&(A3 L).getD ((A0 L n).kid k).toNat true):=by
 obtain ⟨m,rfl⟩:∃m,n=m+1:=⟨n-1,by omega⟩
 have hm:m<L.length:=hn
 have hpre:∀(r l:List Nd),∃s,A3 (l++r)=A3 l++s:=by
  intro r
  induction r with
  | nil=>intro l;exact ⟨[],by simp⟩
  | cons x r ih=>
   intro l
   obtain ⟨s,hs⟩:=ih (l++[x])
   exact ⟨[LT (A3 l) x]++s,by rw [show l++x::r=l++[x]++r from by simp,hs,Id];simp⟩
 have hL:L=L.take m++[L[m]]++L.drop (m+1):=by
  rw [←Vf hm,VG]
 obtain ⟨s,hs⟩:=hpre (L.drop (m+1)) (L.take m++[L[m]])
 rw [←hL,Id]at hs
 have hlen:(A3 (L.take m)).length=m+1:=by rw [CK];simp;omega
 have hat:(A3 L).getD (m+1) true=LT (A3 (L.take m)) L[m]:=by
  rw [hs,UZ,UW (by simp [hlen]),Vu (by omega),hlen];simp
 rw [hat,Ba hm]
 obtain ⟨l1,l2,l3⟩:=AJ hl hm
 unfold LT
 have hk:∀k,k<4→(decide (1<L[m].lv)&&(A3 (L.take m)).getD (L[m].kid k).toNat true)=(decide (1<L[m].lv)&&(A3 L).getD (L[m].kid k).toNat true):=by
  intro k hk
  obtain ⟨q1,q2,q3⟩:=l3 k hk
  by_cases h1:1<L[m].lv
  ·have hlt:(L[m].kid k).toNat<m+1:=by
    by_cases hc:0<L[m].kid k
    ·have:=(q3 h1 hc).1;omega
    ·omega
   congr 1
   rw [hs,Vb,UZ,UZ,UW (by omega)]
  ·simp [h1]
 rw [Hy,Hy,hk 0 (by omega),hk 1 (by omega),hk 2 (by omega),hk 3 (by omega)]
theorem Fw (L:List Nd) (v:Nat):sem L v 0=.nil:=by
 unfold sem
 cases v with
 | zero=>rfl
 | succ v=>simp only [KZ,DM,if_true]
theorem JZ {L:List Nd} (hl:AE L=true) {v n:Nat} (h:Lv L v n):sem L v n=.nil↔(A3 L).getD n true=true:=by
 unfold sem
 cases v with
 | zero=>
  refine ⟨fun _=>?_,fun _=>rfl⟩
  rcases h.2 with h0 | h0
  ·rw [h0];exact DM L
  ·by_cases hn:0<n
   ·obtain ⟨m,rfl⟩:∃m,n=m+1:=⟨n-1,by omega⟩
    have hm:m<L.length:=h.1
    rw [Ba hm]at h0
    have:=(AJ hl hm).1;omega
   ·obtain rfl:n=0:=by omega
    exact DM L
 | succ v=>
  simp only [KZ]
  split
  ·rename_i he;exact ⟨fun _=>he,fun _=>rfl⟩
  ·rename_i he
   split
   ·exact ⟨fun h=>by (cases h),fun h=>absurd h he⟩
   ·exact ⟨fun h=>by (cases h),fun h=>absurd h he⟩
theorem Lz {L:List Nd} (hl:AE L=true):∀v n,Lv L v n→Ga v (sem L v n)
 | 0,n,h=>trivial
 | v+1,n,h=>by
  unfold sem
  simp only [KZ]
  split
  ·trivial
  ·rename_i he
   have he':(A3 L).getD n true=false:=by simpa using he
   have h0:0<n:=O8 he'
   have hlv:(A0 L (n:Int)).lv.toNat=v+1:=by rcases h.2 with h | h <;> omega
   have hle:=Oh hl h0 h.1
   have hem:=O9 hl h0 h.1
   rw [he',Hy]at hem
   split
   ·rename_i h1
    have e:∀k,k<4→Ga v (sem L v ((A0 L n).kid k).toNat):=fun k hk=>Lz hl v _ (Lv.kid hl h0 h h1 hk).1
    have e0:=e 0 (by omega)
    have e1:=e 1 (by omega)
    have e2:=e 2 (by omega)
    have e3:=e 3 (by omega)
    have f:∀k,k<4→sem L v ((A0 L n).kid k).toNat=.nil→(decide ((A0 L n).kid k=0)||(decide (1<(A0 L n).lv)&&(A3 L).getD ((A0 L n).kid k).toNat true))=true:=fun k hk hs=>by
     rw [JZ hl (Lv.kid hl h0 h h1 hk).1]at hs;rw [hs];simp [h1]
    refine ⟨by omega,by omega,⟨e0,e1,e2,e3⟩,fun ⟨n0,n1,n2,n3⟩=>?_⟩
    rw [f 0 (by omega) n0,f 1 (by omega) n1,f 2 (by omega) n2,f 3 (by omega) n3]at hem
    cases hem
   ·rename_i h1
    have hlv1:(A0 L (n:Int)).lv=1:=by omega
    obtain ⟨m,rfl⟩:∃m,n=m+1:=⟨n-1,by omega⟩
    have hm:m<L.length:=h.1
    obtain ⟨l1,l2,l3⟩:=AJ hl hm
    have hx:A0 L ((m+1:Nat):Int)=L[m]:=Ba hm
    rw [hx]at hlv1 hem h1 ⊢
    have s:∀k,k<4→St (L[m].kid k):=fun k hk=>⟨(l3 k hk).1,(l3 k hk).2.1 hlv1⟩
    refine ⟨by rw [hx]at hlv;omega,⟨s 0 (by omega),s 1 (by omega),s 2 (by omega),s 3 (by omega)⟩,fun ⟨n0,n1,n2,n3⟩=>?_⟩
    simp only [Nd.kid,n0,n1,n2,n3,decide_true,WT,Bool.and_self]at hem
    cases hem
structure G7 (out:List Nd):Prop where
 lo:AE out=true
 nd:out.Nodup
 ne:∀n,0<n→n≤out.length→(A3 out).getD n true=false
theorem G7.nil:G7 []:=⟨rfl,List.nodup_nil,fun n h1 h2=>by simp at h2;omega⟩
theorem empL_pre:∀(r l:List Nd),∃s,A3 (l++r)=A3 l++s:=by
 intro r
 induction r with
 | nil=>intro l;exact ⟨[],by simp⟩
 | cons x r ih=>
  intro l
  obtain ⟨s,hs⟩:=ih (l++[x])
  exact ⟨[LT (A3 l) x]++s,by rw [show l++x::r=l++[x]++r from by simp,hs,Id];simp⟩
theorem S6 {l r:List Nd} {n:Nat} (h:n≤l.length):(A3 (l++r)).getD n true=(A3 l).getD n true:=by
 obtain ⟨s,hs⟩:=empL_pre r l
 rw [hs,UZ,UZ,UW (by rw [CK];omega)]
theorem LF {l r:List Nd} {n:Nat} (h0:0<n) (h:n≤l.length):A0 (l++r) (n:Int)=A0 l (n:Int):=by
 obtain ⟨m,rfl⟩:∃m,n=m+1:=⟨n-1,by omega⟩
 rw [Ba (show m<(l++r).length by simp;omega),Ba (show m<l.length by omega),XH (by omega)]
theorem Gc {l r:List Nd} (hl:AE l=true):∀v n,Lv l v n→sem (l++r) v n=sem l v n
 | 0,n,h=>rfl
 | v+1,n,h=>by
  unfold sem
  simp only [KZ,S6 h.1]
  split
  ·rfl
  ·rename_i he
   have h0:0<n:=O8 (by simpa using he)
   rw [LF h0 h.1]
   split
   ·rename_i h1
    have e:∀k,k<4→sem (l++r) v ((A0 l n).kid k).toNat=sem l v ((A0 l n).kid k).toNat:=fun k hk=>Gc hl v _ (Lv.kid hl h0 h h1 hk).1
    have e0:=e 0 (by omega)
    have e1:=e 1 (by omega)
    have e2:=e 2 (by omega)
    have e3:=e 3 (by omega)
    simp only [Nd.kid,sem]at e0 e1 e2 e3
    rw [e0,e1,e2,e3]
   ·rfl
theorem Lv.old {l r:List Nd} {v n:Nat} (h:Lv l v n):Lv (l++r) v n:=by
 refine ⟨by have:=h.1;simp;omega,?_⟩
 rcases h.2 with h0 | h0
 ·exact .inl h0
 ·by_cases hn:0<n
  ·exact .inr (by rw [LF hn h.1];exact h0)
  ·exact .inl (by omega)
structure Fit (o:List Nd) (x:Nd) (v:Nat) (t:QT):Prop where
 lv:x.lv=(v:Int)
 v1:1≤v∧v≤1329
 kid:(1<v∧t=.node (sem o (v-1) x.k0.toNat) (sem o (v-1) x.k1.toNat) (sem o (v-1) x.k2.toNat) (sem o (v-1) x.k3.toNat)∧∀k,k<4→0≤x.kid k∧Lv o (v-1) (x.kid k).toNat)∨(v=1∧t=.lf x.k0 x.k1 x.k2 x.k3∧∀k,k<4→St (x.kid k))
 ne:∃k,k<4∧x.kid k≠0
structure Ins (v:Nat) (t:QT) (out o':List Nd) (i:Nat):Prop where
 pre:∃r,o'=out++r∧∀x∈r,x.lv≤(v:Int)
 cl:G7 o'
 lv:Lv o' v i
 sm:sem o' v i=t
 old:i≤out.length→o'=out
 new:out.length<i→i=o'.length
theorem fit_loose {o:List Nd} (hc:G7 o) {x:Nd} {v:Nat} {t:QT} (h:Fit o x v t):AE (o++[x])=true:=by
 refine Kh hc.lo (Ki (by rw [h.lv];have:=h.v1;omega) (by rw [h.lv];have:=h.v1;omega) fun k hk=>?_)
 rcases h.kid with ⟨h1,_,h2⟩ | ⟨h1,_,h2⟩
 ·obtain ⟨q1,q2⟩:=h2 k hk
  refine ⟨q1,fun e=>by rw [h.lv]at e;omega,fun _ hp=>?_⟩
  have hn:=q2.1
  refine ⟨by omega,?_⟩
  rcases q2.2 with q | q
  ·omega
  ·have e:x.kid k=(((x.kid k).toNat:Nat):Int):=by omega
   obtain ⟨m,hm⟩:∃m,(x.kid k).toNat=m+1:=⟨(x.kid k).toNat-1,by omega⟩
   rw [e,hm] 
   rw [hm]at q
   have hml:m<o.length:=by omega
   rw [Ba hml]at q ⊢
   have:=(AJ hc.lo hml).1
   rw [h.lv];omega
 ·obtain ⟨q1,q2⟩:=h2 k hk
  exact ⟨q1,fun _=>q2,fun e=>by rw [h.lv]at e;omega⟩
theorem fit_ne {o:List Nd} (hc:G7 o) {x:Nd} {v:Nat} {t:QT} (h:Fit o x v t):LT (A3 o) x=false:=by
 obtain ⟨k,hk,hkn⟩:=h.ne
 unfold LT
 rw [W7]
 refine ⟨k,by simpa using hk,?_⟩
 rcases h.kid with ⟨h1,_,h2⟩ | ⟨h1,_,h2⟩
 ·obtain ⟨q1,q2⟩:=h2 k hk
  rw [hc.ne (x.kid k).toNat (by omega) q2.1]
  simp [hkn]
 ·have:¬1<x.lv:=by rw [h.lv];omega
  simp [hkn,this]
theorem fit_sem {o:List Nd} (hc:G7 o) {x:Nd} {v:Nat} {t:QT} (h:Fit o x v t) {i:Nat} (hi:o[i]? = some x):sem o v (i+1)=t:=by
 have hlt:i<o.length:=(UV.1 hi).1
 have hx:A0 o ((i+1:Nat):Int)=x:=by rw [Ba hlt];rw [UU hlt]at hi;injection hi
 obtain ⟨w,rfl⟩:∃w,v=w+1:=⟨v-1,by have:=h.v1;omega⟩
 unfold sem
 simp only [KZ,hc.ne (i+1) (by omega) (by omega),hx,h.lv,Vd,if_false]
 rcases h.kid with ⟨h1,h3,h2⟩ | ⟨h1,h3,h2⟩
 ·rw [if_pos (by omega),h3];rfl
 ·rw [if_neg (by omega),h3]
theorem Fit.old {o r:List Nd} (hc:G7 o) {x:Nd} {v:Nat} {t:QT} (h:Fit o x v t):Fit (o++r) x v t:=by
 refine ⟨h.lv,h.v1,?_,h.ne⟩
 rcases h.kid with ⟨h1,h3,h2⟩ | ⟨h1,h3,h2⟩
 ·left
  refine ⟨h1,?_,fun k hk=>⟨(h2 k hk).1,(h2 k hk).2.old⟩⟩
  have e0:=Gc (r:=r) hc.lo _ _ (h2 0 (by omega)).2
  have e1:=Gc (r:=r) hc.lo _ _ (h2 1 (by omega)).2
  have e2:=Gc (r:=r) hc.lo _ _ (h2 2 (by omega)).2
  have e3:=Gc (r:=r) hc.lo _ _ (h2 3 (by omega)).2
  simp only [Nd.kid]at e0 e1 e2 e3
  rw [e0,e1,e2,e3];exact h3
 ·exact .inr ⟨h1,h3,h2⟩
theorem fit_clean {o:List Nd} (hc:G7 o) {x:Nd} {v:Nat} {t:QT} (h:Fit o x v t) (hn:x ∉ o):G7 (o++[x]):=by
 refine ⟨fit_loose hc h,?_,fun n h0 hle=>?_⟩
 ·rw [WW]
  exact ⟨hc.nd,by simp,fun a ha b hb e=>by simp at hb;subst hb;subst e;exact hn ha⟩
 ·by_cases hno:n≤o.length
  ·rw [S6 hno];exact hc.ne n h0 hno
  ·have e:n=o.length+1:=by simp at hle;omega
   rw [e,Id,UZ,Vu (by rw [CK];omega),CK]
   simp [fit_ne hc h]
theorem put_ins {o:List Nd} (hc:G7 o) {x:Nd} {v:Nat} {t:QT} (h:Fit o x v t):(∃r,(B4 o x).1=o++r∧∀y∈r,y=x)∧G7 (B4 o x).1∧Lv (B4 o x).1 v (B4 o x).2∧sem (B4 o x).1 v (B4 o x).2=t∧((B4 o x).1[(B4 o x).2-1]? = some x∧0<(B4 o x).2)∧(((B4 o x).1=o∧(B4 o x).2≤o.length)∨((B4 o x).2=o.length+1∧(B4 o x).2=(B4 o x).1.length)):=by
 have hlv:x.lv.toNat=v:=by rw [h.lv];omega
 cases hf:Ch o x with
 | zero=>
  have hp:B4 o x=(o++[x],o.length+1):=by simp [B4,hf]
  have hn:=Iv.1 hf
  have hg:(o++[x])[o.length]? = some x:=by simp
  rw [hp]
  have hc':=fit_clean hc h hn
  refine ⟨⟨[x],rfl,by simp⟩,hc',⟨by simp,.inr ?_⟩,fit_sem hc' (h.old hc) hg,⟨by simp,by simp⟩,.inr ⟨rfl,by simp⟩⟩
  rw [Ba (by simp)];simp [hlv]
 | succ i=>
  have hp:B4 o x=(o,i+1):=by simp [B4,hf]
  rw [Ef]at hf
  have hlt:i<o.length:=(UV.1 hf.1).1
  rw [hp]
  refine ⟨⟨[],by simp,by simp⟩,hc,⟨hlt,.inr ?_⟩,fit_sem hc h hf.1,⟨by simpa using hf.1,by simp⟩,.inl ⟨rfl,hlt⟩⟩
  rw [Ba hlt]
  have:=hf.1
  rw [UU hlt]at this
  injection this with this
  rw [this,hlv]
theorem EJ:∀(t:QT) (v:Nat) (out:List Nd),Ga v t→G7 out→Ins v t out (Be v t out).1 (Be v t out).2
 | .nil,v,out,hg,hc=>⟨⟨[],by simp [Be],by simp⟩,hc,⟨Vy _,.inl rfl⟩,Fw _ _,fun _=>rfl,fun h=>by simp [Be]at h⟩
 | .lf a b c d,v,out,hg,hc=>by
  obtain ⟨rfl,⟨ha,hb,hcc,hd⟩,hne⟩:=hg
  have hfit:Fit out ⟨1,a,b,c,d⟩ 1 (.lf a b c d):=by
   refine ⟨rfl,⟨by omega,by omega⟩,.inr ⟨rfl,rfl,fun k hk=>?_⟩,?_⟩
   ·match k,hk with
    | 0,_=>exact ha
    | 1,_=>exact hb
    | 2,_=>exact hcc
    | 3,_=>exact hd
   ·by_cases h0:a=0
    ·by_cases h1:b=0
     ·by_cases h2:c=0
      ·exact ⟨3,by omega,fun h3=>hne ⟨h0,h1,h2,h3⟩⟩
      ·exact ⟨2,by omega,h2⟩
     ·exact ⟨1,by omega,h1⟩
    ·exact ⟨0,by omega,h0⟩
  obtain ⟨⟨r,p1,p2⟩,p3,p4,p5,p6,p7⟩:=put_ins hc hfit
  refine ⟨⟨r,p1,fun x hx=>by rw [p2 x hx];simp⟩,p3,p4,p5,fun hi=>?_,fun hi=>?_⟩
  ·rcases p7 with ⟨q,_⟩ | ⟨q,_⟩
   ·exact q
   ·have:(Be 1 (.lf a b c d) out).2=out.length+1:=q
    omega
  ·rcases p7 with ⟨_,q⟩ | ⟨_,q⟩
   ·have:(Be 1 (.lf a b c d) out).2≤out.length:=q
    omega
   ·exact q
 | .node a b c d,v,out,hg,hc=>by
  obtain ⟨h2,hv,⟨ga,gb,gc,gd⟩,hne⟩:=hg
  have ia:=EJ a (v-1) out ga hc
  have ib:=EJ b (v-1) _ gb ia.cl
  have ic:=EJ c (v-1) _ gc ib.cl
  have id:=EJ d (v-1) _ gd ic.cl
  simp only [Be]
  generalize Be (v-1) a out=A at ia ib ic id ⊢
  obtain ⟨o1,n0⟩:=A
  dsimp only at ia ib ic id ⊢
  generalize Be (v-1) b o1=B at ib ic id ⊢
  obtain ⟨o2,n1⟩:=B
  dsimp only at ib ic id ⊢
  generalize Be (v-1) c o2=C at ic id ⊢
  obtain ⟨o3,n2⟩:=C
  dsimp only at ic id ⊢
  generalize Be (v-1) d o3=D at id ⊢
  obtain ⟨o4,n3⟩:=D
  dsimp only at id ⊢
  obtain ⟨r1,e1,w1⟩:=ia.pre
  obtain ⟨r2,e2,w2⟩:=ib.pre
  obtain ⟨r3,e3,w3⟩:=ic.pre
  obtain ⟨r4,e4,w4⟩:=id.pre
  have la:Lv o4 (v-1) n0∧sem o4 (v-1) n0=a:=by
   have:o4=o1++(r2++r3++r4):=by rw [e4,e3,e2];simp
   rw [this];exact ⟨ia.lv.old,(Gc ia.cl.lo _ _ ia.lv).trans ia.sm⟩
  have lb:Lv o4 (v-1) n1∧sem o4 (v-1) n1=b:=by
   have:o4=o2++(r3++r4):=by rw [e4,e3];simp
   rw [this];exact ⟨ib.lv.old,(Gc ib.cl.lo _ _ ib.lv).trans ib.sm⟩
  have lc:Lv o4 (v-1) n2∧sem o4 (v-1) n2=c:=by
   rw [e4];exact ⟨ic.lv.old,(Gc ic.cl.lo _ _ ic.lv).trans ic.sm⟩
  have ld:Lv o4 (v-1) n3∧sem o4 (v-1) n3=d:=⟨id.lv,id.sm⟩
  have nz:∀ {n:Nat} {t:QT},sem o4 (v-1) n=t→t≠.nil→n≠0:=fun h ht h0=>ht (by rw [←h,h0,Fw])
  have hfit:Fit o4 ⟨v,n0,n1,n2,n3⟩ v (.node a b c d):=by
   refine ⟨rfl,⟨by omega,hv⟩,.inl ⟨by omega,?_,fun k hk=>?_⟩,?_⟩
   ·simp only [Int.toNat_natCast,la.2,lb.2,lc.2,ld.2]
   ·match k,hk with
    | 0,_=>exact ⟨Wq _,by simpa [Nd.kid]using la.1⟩
    | 1,_=>exact ⟨Wq _,by simpa [Nd.kid]using lb.1⟩
    | 2,_=>exact ⟨Wq _,by simpa [Nd.kid]using lc.1⟩
    | 3,_=>exact ⟨Wq _,by simpa [Nd.kid]using ld.1⟩
   ·by_cases h0:a=.nil
    ·by_cases h1:b=.nil
     ·by_cases h2:c=.nil
      ·exact ⟨3,by omega,by have:=nz ld.2 (fun h3=>hne ⟨h0,h1,h2,h3⟩);simp [Nd.kid];omega⟩
      ·exact ⟨2,by omega,by have:=nz lc.2 h2;simp [Nd.kid];omega⟩
     ·exact ⟨1,by omega,by have:=nz lb.2 h1;simp [Nd.kid];omega⟩
    ·exact ⟨0,by omega,by have:=nz la.2 h0;simp [Nd.kid];omega⟩
  obtain ⟨⟨r,p1,p2⟩,p3,p4,p5,⟨p6,p6'⟩,p7⟩:=put_ins id.cl hfit
  have hout:o4=out++(r1++r2++r3++r4):=by rw [e4,e3,e2,e1];simp
  have hlen:out.length≤o4.length:=by rw [hout];simp
  generalize hP:B4 o4 ⟨v,n0,n1,n2,n3⟩=P at p1 p3 p4 p5 p6 p6' p7 ⊢
  obtain ⟨o',i⟩:=P
  dsimp only at p1 p3 p4 p5 p6 p6' p7 ⊢
  have lvs:∀x∈r1++r2++r3++r4,x.lv≤((v-1:Nat):Int):=by
   intro x hx
   simp only [Vt]at hx
   rcases hx with ((hx | hx) | hx) | hx
   ·exact w1 x hx
   ·exact w2 x hx
   ·exact w3 x hx
   ·exact w4 x hx
  refine ⟨⟨r1++r2++r3++r4++r,by rw [p1,hout];simp,fun x hx=>?_⟩,p3,p4,p5,fun hi=>?_,fun hi=>?_⟩
  ·rw [Vt]at hx
   rcases hx with hx | hx
   ·have:=lvs x hx;omega
   ·rw [p2 x hx];exact WJ _
  ·rcases p7 with ⟨q,_⟩ | ⟨q,_⟩
   ·-- found among the old ones: its kids are old,too
    rw [q]at p6
    have hlt:i-1<out.length:=by omega
    have hx:out[i-1]=⟨v,n0,n1,n2,n3⟩:=by
     rw [hout,UW hlt,UU hlt]at p6
     injection p6
    obtain ⟨l1,l2,l3⟩:=AJ hc.lo hlt
    have hk:∀k,k<4→out[i-1].kid k≤out.length:=fun k hk=>by
     obtain ⟨q1,q2,q3⟩:=l3 k hk
     by_cases hp:0<out[i-1].kid k
     ·have:=(q3 (by rw [hx];show (1:Int)<(v:Int);omega) hp).1;omega
     ·omega
    rw [hx]at hk
    have k0:(n0:Int)≤out.length:=hk 0 (by omega)
    have k1:(n1:Int)≤out.length:=hk 1 (by omega)
    have k2:(n2:Int)≤out.length:=hk 2 (by omega)
    have k3:(n3:Int)≤out.length:=hk 3 (by omega)
    have f1:=ia.old (by omega)
    have f2:=ib.old (by rw [f1];omega)
    have f3:=ic.old (by rw [f2,f1];omega)
    have f4:=id.old (by rw [f3,f2,f1];omega)
    rw [q,f4,f3,f2,f1]
   ·omega
  ·rcases p7 with ⟨q,q'⟩ | ⟨_,q⟩
   ·exfalso
    rw [q]at p6
    have hin:(⟨v,n0,n1,n2,n3⟩:Nd)∈r1++r2++r3++r4:=by
     rw [hout,Vu (by omega)]at p6
     exact Vz p6
    have:=lvs _ hin
    have h3:(v:Int)≤((v-1:Nat):Int):=this
    omega
   ·exact q
def QT.q:QT→Nat→QT
 | .node a b c d,k=>match k with | 0=>a | 1=>b | 2=>c | _=>d
 | _,_=>.nil
def QT.s:QT→Nat→Int
 | .lf a b c d,k=>match k with | 0=>a | 1=>b | 2=>c | _=>d
 | _,_=>0
def QT.isNode:QT→Bool
 | .node _ _ _ _=>true
 | _=>false
def Ov (t:QT):Bool:=t.isNode&&(List.range 4).all fun k=>(List.range 4).all fun j=>decide (j=3-k)||(decide ((t.q k).q j=.nil)&&decide ((t.q k).s j=0))
def HA (v:Nat) (t:QT):QT:=
 if v=2 then .lf ((t.q 0).s 3) ((t.q 1).s 2) ((t.q 2).s 1) ((t.q 3).s 0)else .node ((t.q 0).q 3) ((t.q 1).q 2) ((t.q 2).q 1) ((t.q 3).q 0)
def Hx:Nat→QT→Nat×QT
 | 0,t=>(0,t)
 | v+1,t=>if Ov t then Hx v (HA (v+1) t)else (v+1,t)
theorem Ga.q {v:Nat} {t:QT} (h:Ga v t) (k:Nat):Ga (v-1) (t.q k):=by
 cases t with
 | nil=>trivial
 | lf a b c d=>trivial
 | node a b c d=>
  obtain ⟨h1,h2,⟨ga,gb,gc,gd⟩,_⟩:=h
  unfold QT.q
  dsimp only
  split <;> assumption
theorem Ga.st {v:Nat} {t:QT} (h:Ga v t) (k:Nat):St (t.s k):=by
 cases t with
 | nil=>exact ⟨WJ _,by show (0:Int)≤255;decide⟩
 | node a b c d=>exact ⟨WJ _,by show (0:Int)≤255;decide⟩
 | lf a b c d=>
  obtain ⟨h1,⟨ga,gb,gc,gd⟩,_⟩:=h
  unfold QT.s
  dsimp only
  split <;> assumption
theorem Ga.kind {v:Nat} {t:QT} (h:Ga v t):t=.nil∨(v=1∧t.isNode=false∧∃a b c d,t=.lf a b c d)∨(2≤v∧v≤1329∧t.isNode=true):=by
 cases t with
 | nil=>exact .inl rfl
 | lf a b c d=>exact .inr (.inl ⟨h.1,rfl,a,b,c,d,rfl⟩)
 | node a b c d=>exact .inr (.inr ⟨h.1,h.2.1,rfl⟩)
theorem QT.eta {t:QT} (h:t.isNode=true):t=.node (t.q 0) (t.q 1) (t.q 2) (t.q 3):=by
 cases t with
 | nil=>cases h
 | lf a b c d=>cases h
 | node a b c d=>rfl
theorem Ga.some {v:Nat} {t:QT} (h:Ga v t) (hn:t≠.nil):∃j,j<4∧((v=1∧t.s j≠0)∨(1<v∧t.q j≠.nil)):=by
 cases t with
 | nil=>exact absurd rfl hn
 | lf a b c d=>
  obtain ⟨h1,_,h2⟩:=h
  by_cases h0:a=0
  ·by_cases h3:b=0
   ·by_cases h4:c=0
    ·exact ⟨3,by omega,.inl ⟨h1,fun h5=>h2 ⟨h0,h3,h4,h5⟩⟩⟩
    ·exact ⟨2,by omega,.inl ⟨h1,h4⟩⟩
   ·exact ⟨1,by omega,.inl ⟨h1,h3⟩⟩
  ·exact ⟨0,by omega,.inl ⟨h1,h0⟩⟩
 | node a b c d=>
  obtain ⟨h1,_,_,h2⟩:=h
  by_cases h0:a=.nil
  ·by_cases h3:b=.nil
   ·by_cases h4:c=.nil
    ·exact ⟨3,by omega,.inr ⟨by omega,fun h5=>h2 ⟨h0,h3,h4,h5⟩⟩⟩
    ·exact ⟨2,by omega,.inr ⟨by omega,h4⟩⟩
   ·exact ⟨1,by omega,.inr ⟨by omega,h3⟩⟩
  ·exact ⟨0,by omega,.inr ⟨by omega,h0⟩⟩
theorem holT_at {t:QT} (h:Ov t=true) {k j:Nat} (hk:k<4) (hj:j<4) (hne:j≠3-k):(t.q k).q j=.nil∧(t.q k).s j=0:=by
 simp only [Ov,Vh,Vn]at h
 have:=h.2 k (by simpa using hk) j (by simpa using hj)
 simpa [hne]using this
theorem LN {v:Nat} {t:QT} (h:Ga (v+1) t) (hh:Ov t=true):Ga v (HA (v+1) t)∧HA (v+1) t≠.nil:=by
 have hnode:t.isNode=true:=by simp only [Ov,Vh]at hh;exact hh.1
 have hnn:t≠.nil:=fun e=>by subst e;cases hnode
 obtain ⟨k,hk,hkk⟩:=h.some hnn
 rcases h.kind with rfl | ⟨h1,h2,_⟩ | ⟨h1,h2,_⟩
 ·exact absurd rfl hnn
 ·rw [h2]at hnode;cases hnode
 have hq:t.q k≠.nil:=by rcases hkk with ⟨e,_⟩ | ⟨_,e⟩;omega;exact e
 obtain ⟨j,hj,hjj⟩:=(h.q k).some hq
 simp only [Vp]at hjj
 have hj3:j=3-k:=by
  by_cases e:j=3-k
  ·exact e
  ·exfalso
   obtain ⟨e1,e2⟩:=holT_at hh hk hj e
   rcases hjj with ⟨_,e3⟩ | ⟨_,e3⟩
   ·exact e3 e2
   ·exact e3 e1
 unfold HA
 by_cases hv:v+1=2
 ·rw [if_pos hv]
  refine ⟨⟨by omega,⟨(h.q 0).st 3,(h.q 1).st 2,(h.q 2).st 1,(h.q 3).st 0⟩,fun ⟨e0,e1,e2,e3⟩=>?_⟩,by simp⟩
  rcases hjj with ⟨_,e⟩ | ⟨e,_⟩
  ·rw [hj3]at e
   match k,hk with
   | 0,_=>exact e e0
   | 1,_=>exact e e1
   | 2,_=>exact e e2
   | 3,_=>exact e e3
  ·omega
 ·rw [if_neg hv]
  refine ⟨⟨by omega,by omega,⟨(h.q 0).q 3,(h.q 1).q 2,(h.q 2).q 1,(h.q 3).q 0⟩,fun ⟨e0,e1,e2,e3⟩=>?_⟩,by simp⟩
  rcases hjj with ⟨e,_⟩ | ⟨_,e⟩
  ·omega
  ·rw [hj3]at e
   match k,hk with
   | 0,_=>exact e e0
   | 1,_=>exact e e1
   | 2,_=>exact e e2
   | 3,_=>exact e e3
theorem shrT_ok:∀(v:Nat) (t:QT),Ga v t→t≠.nil→Ga (Hx v t).1 (Hx v t).2∧(Hx v t).2≠.nil∧Ov (Hx v t).2=false
 | 0,t,hg,hn=>by
  rcases hg.kind with h | ⟨h,_⟩ | ⟨h,_⟩
  ·exact absurd h hn
  ·omega
  ·omega
 | v+1,t,hg,hn=>by
  unfold Hx
  cases hh:Ov t with
  | true=>
   obtain ⟨r1,r2⟩:=LN hg hh
   simp only [if_true]
   exact shrT_ok v _ r1 r2
  | false=>simp only [Vd,if_false];exact ⟨hg,hn,hh⟩
section
variable {L:List Nd}
theorem R3 (hl:AE L=true) {v n k:Nat} (h0:0<n) (h:Lv L (v+1) n) (h1:1<(A0 L n).lv) (hk:k<4):(sem L (v+1) n).q k=sem L v ((A0 L n).kid k).toNat:=by
 unfold sem
 simp only [KZ,if_pos h1]
 split
 ·rename_i he
  have hem:=O9 hl h0 h.1
  rw [he]at hem
  have:=Vn.1 hem.symm k (by simpa using hk)
  simp only [Wa,decide_eq_true_eq,Vh]at this
  show QT.nil=_
  rcases this with e | ⟨_,e⟩
  ·rw [e];exact (Fw L v).symm
  ·exact ((JZ hl (Lv.kid hl h0 h h1 hk).1).2 e).symm
 ·match k,hk with
  | 0,_=>rfl
  | 1,_=>rfl
  | 2,_=>rfl
  | 3,_=>rfl
theorem sem_s1 (hl:AE L=true) {v n k:Nat} (h0:0<n) (h:Lv L (v+1) n) (h1:¬1<(A0 L n).lv) (hk:k<4):(sem L (v+1) n).s k=(A0 L n).kid k:=by
 unfold sem
 simp only [KZ,if_neg h1]
 split
 ·rename_i he
  have hem:=O9 hl h0 h.1
  rw [he]at hem
  have:=Vn.1 hem.symm k (by simpa using hk)
  simp only [Wa,decide_eq_true_eq,Vh]at this
  rcases this with e | ⟨e,_⟩
  ·rw [e];rfl
  ·exact absurd e h1
 ·match k,hk with
  | 0,_=>rfl
  | 1,_=>rfl
  | 2,_=>rfl
  | 3,_=>rfl
theorem hol_sem (hl:AE L=true) {v n:Nat} (h0:0<n) (h:Lv L v n) (he:(A3 L).getD n true=false):Du L n=Ov (sem L v n):=by
 have hv0:(A0 L (n:Int)).lv.toNat=v:=by rcases h.2 with h | h <;> omega
 have hv1:1≤(A0 L (n:Int)).lv:=by
  obtain ⟨m,rfl⟩:∃m,n=m+1:=⟨n-1,by omega⟩
  rw [Ba h.1];exact (AJ hl h.1).1
 obtain ⟨w,rfl⟩:∃w,v=w+1:=⟨v-1,by omega⟩
 unfold Du Ov
 by_cases h1:1<(A0 L (n:Int)).lv
 ·have hnode:(sem L (w+1) n).isNode=true:=by
   unfold sem
   simp only [KZ,he,Vd,if_false,if_pos h1];rfl
  have e2:(2:Int)≤(A0 L (n:Int)).lv:=by omega
  rw [hnode,decide_eq_true (show n≠0 by omega),decide_eq_true e2,VW,VW,VW]
  unfold hol
  have hk:∀k,k<4→(decide ((A0 L n).kid k=0)||(List.range 4).all (Ow L (A3 L) (A0 L n) k))=(List.range 4).all fun j=>decide (j=3-k)||(decide (((sem L (w+1) n).q k).q j=.nil)&&decide (((sem L (w+1) n).q k).s j=0)):=by
   intro k hk
   rw [R3 hl h0 h h1 hk]
   obtain ⟨g1,g2,g3⟩:=Lv.kid hl h0 h h1 hk
   by_cases hc:(A0 L n).kid k=0
   ·rw [hc]
    have:(List.range 4).all (fun j=>decide (j=3-k)||(decide ((sem L w ((0:Int)).toNat).q j=.nil)&&decide ((sem L w ((0:Int)).toNat).s j=0)))=true:=by
     rw [show ((0:Int)).toNat=0 from rfl,Fw,Vn]
     intro j _
     simp [QT.q,QT.s]
    rw [this];rfl
   ·rw [decide_eq_false hc,W4]
    have hc0:0<((A0 L n).kid k).toNat:=by omega
    have ec:(((A0 L n).kid k).toNat:Int)=(A0 L n).kid k:=by omega
    have hcv:(A0 L (((A0 L n).kid k).toNat:Int)).lv.toNat=w:=by rcases g1.2 with g | g <;> omega
    have hc1:1≤(A0 L (((A0 L n).kid k).toNat:Int)).lv:=by
     obtain ⟨m,hm⟩:∃m,((A0 L n).kid k).toNat=m+1:=⟨((A0 L n).kid k).toNat-1,by omega⟩
     rw [hm]
     have hml:m<L.length:=by have:=g1.1;omega
     rw [Ba hml];exact (AJ hl hml).1
    obtain ⟨u,rfl⟩:∃u,w=u+1:=⟨w-1,by omega⟩
    have pt:∀j,j<4→Ow L (A3 L) (A0 L n) k j=(decide (j=3-k)||(decide ((sem L (u+1) ((A0 L n).kid k).toNat).q j=.nil)&&decide ((sem L (u+1) ((A0 L n).kid k).toNat).s j=0))):=by
     intro j hj
     unfold Ow
     congr 1
     by_cases h2:(A0 L n).lv=2
     ·rw [if_pos h2]
      have hn1:¬1<(A0 L (((A0 L n).kid k).toNat:Int)).lv:=by omega
      rw [sem_s1 hl hc0 g1 hn1 hj,ec]
      have hq:(sem L (u+1) ((A0 L n).kid k).toNat).q j=.nil:=by
       unfold sem
       simp only [KZ,if_neg hn1]
       split <;> rfl
      rw [hq];simp
     ·rw [if_neg h2]
      have hn1:1<(A0 L (((A0 L n).kid k).toNat:Int)).lv:=by omega
      obtain ⟨f1,f2,f3⟩:=Lv.kid hl hc0 g1 hn1 hj
      rw [R3 hl hc0 g1 hn1 hj,ec]
      rw [ec]at f1
      have hs:(sem L (u+1) ((A0 L n).kid k).toNat).s j=0:=by
       unfold sem
       simp only [KZ,if_pos hn1]
       split <;> rfl
      rw [hs]
      have:=JZ hl f1
      rw [Vr]
      simp only [decide_true,Bool.and_true,decide_eq_true_eq]
      exact this.symm
    rw [Hy,Hy,pt 0 (by omega),pt 1 (by omega),pt 2 (by omega),pt 3 (by omega)]
  rw [Hy,Hy (fun k=>(List.range 4).all fun j=>decide (j=3-k)||(decide (((sem L (w+1) n).q k).q j=.nil)&&decide (((sem L (w+1) n).q k).s j=0))),hk 0 (by omega),hk 1 (by omega),hk 2 (by omega),hk 3 (by omega)]
 ·have hnode:(sem L (w+1) n).isNode=false:=by
   unfold sem
   simp only [KZ,he,Vd,if_false,if_neg h1];rfl
  have e2:¬(2:Int)≤(A0 L (n:Int)).lv:=by omega
  rw [hnode,decide_eq_false e2];simp

end
theorem Lv.num {L:List Nd} {v n:Nat} (h:Lv L v n) (h0:0<n) (hl:AE L=true):(A0 L (n:Int)).lv=(v:Int)∧1≤v:=by
 have hv:(A0 L (n:Int)).lv.toNat=v:=by rcases h.2 with h | h <;> omega
 obtain ⟨m,rfl⟩:∃m,n=m+1:=⟨n-1,by omega⟩
 rw [Ba h.1]at hv ⊢
 have:=(AJ hl h.1).1
 omega
theorem inn_sem {L:List Nd} (hl:AE L=true) {w n:Nat} (h0:0<n) (h:Lv L (w+1) n) (he:(A3 L).getD n true=false) (hh:Du L n=true) :
  AE (L++[BW L n])=true∧Lv (L++[BW L n]) w (L.length+1)∧sem (L++[BW L n]) w (L.length+1)=HA (w+1) (sem L (w+1) n)∧(A3 (L++[BW L n])).getD (L.length+1) true=false:=by
 obtain ⟨hn1,hn2⟩:=MM hh
 obtain ⟨hlv,_⟩:=h.num h0 hl
 obtain ⟨u,rfl⟩:∃u,w=u+1:=⟨w-1,by omega⟩
 have h1:1<(A0 L (n:Int)).lv:=by omega
 have hl':AE (L++[BW L n])=true:=by
  obtain ⟨m,rfl⟩:∃m,n=m+1:=⟨n-1,by omega⟩
  exact MK hl h.1 (by rw [Ba h.1]at hn2;exact hn2)
 have hx:A0 (L++[BW L n]) ((L.length+1:Nat):Int)=BW L n:=by rw [Ba (by simp)];simp
 have hxl:(BW L n).lv=(u+1:Nat):=by show (A0 L (n:Int)).lv-1=_;omega
 have hLv:Lv (L++[BW L n]) (u+1) (L.length+1):=⟨by simp,.inr (by rw [hx,hxl];omega)⟩
 rw [hol_sem hl h0 h he]at hh
 obtain ⟨ig,inn⟩:=LN (Lz hl _ _ h) hh
 have hkid:∀k,k<4→(BW L n).kid k=Is L (A0 L n) k:=fun k hk=>Ux L n hk
 have hne:sem (L++[BW L n]) (u+1) (L.length+1)=HA (u+1+1) (sem L (u+1+1) n):=by
  by_cases hu:u=0
  ·subst hu
   have hx1:¬1<(A0 (L++[BW L n]) ((L.length+1:Nat):Int)).lv:=by rw [hx,hxl];decide
   have hs:∀k,k<4→(sem (L++[BW L n]) 1 (L.length+1)).s k=((sem L 2 n).q k).s (3-k):=by
    intro k hk
    rw [sem_s1 hl' (by omega) hLv hx1 hk,hx,hkid k hk,R3 hl h0 h h1 hk]
    unfold Is
    obtain ⟨g1,g2,g3⟩:=Lv.kid hl h0 h h1 hk
    by_cases hc:(A0 L n).kid k=0
    ·rw [if_pos hc,hc,show ((0:Int)).toNat=0 from rfl,Fw];rfl
    ·rw [if_neg hc]
     have hc0:0<((A0 L n).kid k).toNat:=by omega
     obtain ⟨cl,_⟩:=g1.num hc0 hl
     rw [sem_s1 hl hc0 g1 (by omega) (by omega)]
     rw [show (((A0 L n).kid k).toNat:Int)=(A0 L n).kid k from by omega]
   have e:HA 2 (sem L 2 n)=.lf ((sem (L++[BW L n]) 1 (L.length+1)).s 0) ((sem (L++[BW L n]) 1 (L.length+1)).s 1) ((sem (L++[BW L n]) 1 (L.length+1)).s 2) ((sem (L++[BW L n]) 1 (L.length+1)).s 3):=by
    rw [hs 0 (by omega),hs 1 (by omega),hs 2 (by omega),hs 3 (by omega)];rfl
   have hg:=Lz hl' 1 _ hLv
   rcases hg.kind with hk | ⟨_,_,a,b,c,d,hk⟩ | ⟨hk,_⟩
   ·exfalso
    rw [hk]at e
    rw [e]at ig
    exact ig.2.2 ⟨rfl,rfl,rfl,rfl⟩
   ·show sem (L++[BW L n]) 1 (L.length+1)=HA 2 (sem L 2 n)
    rw [e,hk];rfl
   ·omega
  ·have hx1:1<(A0 (L++[BW L n]) ((L.length+1:Nat):Int)).lv:=by rw [hx,hxl];omega
   have hs:∀k,k<4→(sem (L++[BW L n]) (u+1) (L.length+1)).q k=((sem L (u+1+1) n).q k).q (3-k):=by
    intro k hk
    rw [R3 hl' (by omega) hLv hx1 hk,hx,hkid k hk,R3 hl h0 h h1 hk]
    unfold Is
    obtain ⟨g1,g2,g3⟩:=Lv.kid hl h0 h h1 hk
    by_cases hc:(A0 L n).kid k=0
    ·rw [if_pos hc,hc,show ((0:Int)).toNat=0 from rfl,Fw,Fw];rfl
    ·rw [if_neg hc]
     have hc0:0<((A0 L n).kid k).toNat:=by omega
     obtain ⟨cl,_⟩:=g1.num hc0 hl
     have c1:1<(A0 L (((A0 L n).kid k).toNat:Int)).lv:=by omega
     have hk3:=(Lv.kid hl hc0 g1 c1 (show 3-k<4 by omega)).1
     rw [R3 hl hc0 g1 c1 (by omega)]
     rw [show (((A0 L n).kid k).toNat:Int)=(A0 L n).kid k from by omega]at hk3 ⊢
     exact Gc hl _ _ hk3
   have e:HA (u+1+1) (sem L (u+1+1) n)=.node ((sem (L++[BW L n]) (u+1) (L.length+1)).q 0) ((sem (L++[BW L n]) (u+1) (L.length+1)).q 1) ((sem (L++[BW L n]) (u+1) (L.length+1)).q 2) ((sem (L++[BW L n]) (u+1) (L.length+1)).q 3):=by
    rw [hs 0 (by omega),hs 1 (by omega),hs 2 (by omega),hs 3 (by omega)]
    unfold HA
    rw [if_neg (by omega)]
   have hg:=Lz hl' (u+1) _ hLv
   rcases hg.kind with hk | ⟨hk,_⟩ | ⟨_,_,hk⟩
   ·exfalso
    rw [hk]at e
    rw [e]at ig
    exact ig.2.2.2 ⟨rfl,rfl,rfl,rfl⟩
   ·omega
   ·rw [e];exact QT.eta hk
 refine ⟨hl',hLv,hne,?_⟩
 cases hq:(A3 (L++[BW L n])).getD (L.length+1) true with
 | false=>rfl
 | true=>
  have:=(JZ hl' hLv).2 hq
  rw [hne]at this
  exact absurd this inn
theorem Qe:∀(v:Nat) (L:List Nd) (n:Nat),AE L=true→0<n→Lv L v n→(A3 L).getD n true=false →
  AE (BI v L n).1=true∧Lv (BI v L n).1 (Hx v (sem L v n)).1 (BI v L n).2∧0<(BI v L n).2∧sem (BI v L n).1 (Hx v (sem L v n)).1 (BI v L n).2=(Hx v (sem L v n)).2
 | 0,L,n,hl,h0,hLv,he=>by have:=(hLv.num h0 hl).2;omega
 | v+1,L,n,hl,h0,hLv,he=>by
  have hs:=hol_sem hl h0 hLv he
  unfold BI Hx
  cases hh:Du L n with
  | false=>
   rw [hh]at hs
   rw [←hs]
   exact ⟨hl,hLv,h0,rfl⟩
  | true=>
   rw [hh]at hs
   rw [←hs]
   obtain ⟨r1,r2,r3,r4⟩:=inn_sem hl h0 hLv he hh
   simp only [if_true]
   rw [←r3]
   exact Qe v _ _ r1 (by omega) r2 r4
def Ei (v:Nat) (t:QT):List Nd:=if t=.nil then []else (Be (Hx v t).1 (Hx v t).2 []).1
theorem canon_sem {L:List Nd} (hl:AE L=true) {v n:Nat} (h:Lv L v n):I5 L n=Ei v (sem L v n):=by
 unfold I5 Ei D6
 cases he:(A3 L).getD n true with
 | true=>
  rw [(JZ hl h).2 he]
  simp only [if_true]
  cases (A0 L ((0:Nat):Int)).lv.toNat with
  | zero=>rfl
  | succ w=>simp only [Bl,DM,if_true]
 | false=>
  have h0:=O8 he
  have hn:sem L v n≠.nil:=fun e=>by rw [(JZ hl h).1 e]at he;cases he
  obtain ⟨hlv,hv1⟩:=h.num h0 hl
  obtain ⟨r1,r2,r3,r4⟩:=Qe v L n hl h0 h he
  rw [if_neg hn]
  have hv:(A0 L (n:Int)).lv.toNat=v:=by omega
  simp only [Vd,if_false,hv]
  have hlv2:=(r2.num r3 r1).1
  rw [show (A0 (BI v L n).1 ((BI v L n).2:Int)).lv.toNat=(Hx v (sem L v n)).1 from by omega,insF_sem r1 _ _ _ r2,r4]
theorem nodup_dup {L:List Nd} (h:G7 L):dupB L=true:=by
 unfold dupB
 rw [Vn]
 intro i hi
 have hi':i<L.length:=by simpa using hi
 rw [h.ne (i+1) (by omega) (by omega)]
 simp only [Wg,VW,Vn,decide_eq_true_eq]
 intro k hk
 have hk':k<i:=by simpa using hk
 simp only [UZ,UU hi',UU (show k<L.length by omega),Option.getD_some]
 intro e
 exact (WF.1 h.nd) k i (by omega) hi' hk' e.symm
def MX (n:Nat):List Nat:=(List.range n).map (· + 1)
theorem TD (n:Nat):MX (n+1)=MX n++[n+1]:=by simp [MX,WV]
theorem Oe {n i:Nat}:i∈MX n↔1≤i∧i≤n:=by
 simp only [MX,Wz,Xl]
 constructor
 ·rintro ⟨j,h1,h2⟩;omega
 ·intro h;exact ⟨i-1,by omega,by omega⟩
theorem endK_4 (rec:Nat→List Nat→List Nat) (x:Nd) (out:List Nat):LS rec x 4 out =
  (if 1<x.lv∧0<x.k3 then rec x.k3.toNat (if 1<x.lv∧0<x.k2 then rec x.k2.toNat (if 1<x.lv∧0<x.k1 then rec x.k1.toNat (if 1<x.lv∧0<x.k0 then rec x.k0.toNat out else out)else (if 1<x.lv∧0<x.k0 then rec x.k0.toNat out else out))else (if 1<x.lv∧0<x.k1 then rec x.k1.toNat (if 1<x.lv∧0<x.k0 then rec x.k0.toNat out else out)else (if 1<x.lv∧0<x.k0 then rec x.k0.toNat out else out)))else (if 1<x.lv∧0<x.k2 then rec x.k2.toNat (if 1<x.lv∧0<x.k1 then rec x.k1.toNat (if 1<x.lv∧0<x.k0 then rec x.k0.toNat out else out)else (if 1<x.lv∧0<x.k0 then rec x.k0.toNat out else out))else (if 1<x.lv∧0<x.k1 then rec x.k1.toNat (if 1<x.lv∧0<x.k0 then rec x.k0.toNat out else out)else (if 1<x.lv∧0<x.k0 then rec x.k0.toNat out else out)))):=by
 simp only [PE,Nd.kid,show LS rec x 0 out=out from rfl]
theorem Ou {v:Nat} {t:QT} {out:List Nd} (h:t≠.nil):0<(Be v t out).2:=by
 cases t with
 | nil=>exact absurd rfl h
 | lf a b c d=>exact L7 _ _
 | node a b c d=>exact L7 _ _
theorem O7:∀(t:QT) (v:Nat) (out s L:List Nd),Ga v t→t≠.nil→G7 out→L=(Be v t out).1++s→FO L v (Be v t out).2 (MX out.length)=MX (Be v t out).1.length
 | .nil,v,out,s,L,hg,hn,hc,hL=>absurd rfl hn
 | .lf a b c d,v,out,s,L,hg,hn,hc,hL=>by
  have hi:=EJ (.lf a b c d) v out hg hc
  have hp:=Ou (v:=v) (out:=out) hn
  obtain ⟨rfl,_,_⟩:=hg
  by_cases hle:(Be 1 (.lf a b c d) out).2≤out.length
  ·have:=hi.old hle
   simp only [FO]
   rw [if_pos (Oe.2 ⟨hp,hle⟩),this]
  ·have hnew:=hi.new (by omega)
   have hform:(Be 1 (.lf a b c d) out).1.length=out.length+1:=by
    have h1:Be 1 (.lf a b c d) out=B4 out ⟨1,a,b,c,d⟩:=rfl
    rw [h1]at hle ⊢
    unfold B4 at hle ⊢
    split
    ·simp
    ·rename_i hf;rw [if_neg hf]at hle;exact absurd (findN_le _ _) hle
   have hx:¬1<(A0 L ((Be 1 (.lf a b c d) out).2:Int)).lv:=by
    rw [hL,LF hp (by omega)]
    intro h
    have:=hi.lv.num hp hi.cl.lo
    omega
   simp only [FO]
   rw [if_neg (fun h=>by have:=Oe.1 h;omega),endK_4]
   simp only [hx,false_and,if_false]
   rw [hform,TD,hnew,hform]
 | .node a b c d,v,out,s,L,hg,hn,hc,hL=>by
  have hi:=EJ (.node a b c d) v out hg hc
  have hp:=Ou (v:=v) (out:=out) hn
  obtain ⟨h2,hv,⟨ga,gb,gc,gd⟩,hne⟩:=hg
  obtain ⟨w,rfl⟩:∃w,v=w+1:=⟨v-1,by omega⟩
  by_cases hle:(Be (w+1) (.node a b c d) out).2≤out.length
  ·have:=hi.old hle
   simp only [FO]
   rw [if_pos (Oe.2 ⟨hp,hle⟩),this]
  ·have hnew:=hi.new (by omega)
   have ga:Ga w a:=ga
   have gb:Ga w b:=gb
   have gc:Ga w c:=gc
   have gd:Ga w d:=gd
   have ia:=EJ a w out ga hc
   have ib:=EJ b w _ gb ia.cl
   have ic:=EJ c w _ gc ib.cl
   have id:=EJ d w _ gd ic.cl
   have hform:Be (w+1) (.node a b c d) out=B4 (Be w d (Be w c (Be w b (Be w a out).1).1).1).1 ⟨(w+1:Nat),(Be w a out).2,(Be w b (Be w a out).1).2,(Be w c (Be w b (Be w a out).1).1).2,(Be w d (Be w c (Be w b (Be w a out).1).1).1).2⟩:=rfl
   obtain ⟨ra,ea,_⟩:=ia.pre
   obtain ⟨rb,eb,_⟩:=ib.pre
   obtain ⟨rc,ec,_⟩:=ic.pre
   obtain ⟨rd,ed,_⟩:=id.pre
   have hput:(Be (w+1) (.node a b c d) out).1=(Be w d (Be w c (Be w b (Be w a out).1).1).1).1++[⟨(w+1:Nat),(Be w a out).2,(Be w b (Be w a out).1).2,(Be w c (Be w b (Be w a out).1).1).2,(Be w d (Be w c (Be w b (Be w a out).1).1).1).2⟩]:=by
    rw [hform]at hle hnew ⊢
    unfold B4 at hle hnew ⊢
    split
    ·rfl
    ·rename_i hf
     exfalso
     rw [if_neg hf]at hle hnew
     dsimp only at hle hnew
     cases hfn:Ch (Be w d (Be w c (Be w b (Be w a out).1).1).1).1 ⟨(w+1:Nat),(Be w a out).2,(Be w b (Be w a out).1).2,(Be w c (Be w b (Be w a out).1).1).2,(Be w d (Be w c (Be w b (Be w a out).1).1).1).2⟩with
     | zero=>exact hf hfn
     | succ i=>
      rw [hfn]at hle
      have h3:=(Ef.1 hfn).1
      obtain ⟨r1,e1,w1⟩:=ia.pre
      obtain ⟨r2,e2,w2⟩:=ib.pre
      obtain ⟨r3,e3,w3⟩:=ic.pre
      obtain ⟨r4,e4,w4⟩:=id.pre
      have hout:(Be w d (Be w c (Be w b (Be w a out).1).1).1).1=out++(r1++r2++r3++r4):=by
       conv=>lhs;rw [e4]
       conv=>lhs;arg 1;rw [e3]
       conv=>lhs;arg 1;arg 1;rw [e2]
       conv=>lhs;arg 1;arg 1;arg 1;rw [e1]
       simp
      rw [hout,Vu (by omega)]at h3
      have hm:=Vz h3
      have:((w+1:Nat):Int)≤(w:Int):=by
       simp only [Vt]at hm
       rcases hm with ((hm | hm) | hm) | hm
       ·exact w1 _ hm
       ·exact w2 _ hm
       ·exact w3 _ hm
       ·exact w4 _ hm
      omega
   have hlast:A0 L ((Be (w+1) (.node a b c d) out).2:Int)=⟨(w+1:Nat),(Be w a out).2,(Be w b (Be w a out).1).2,(Be w c (Be w b (Be w a out).1).1).2,(Be w d (Be w c (Be w b (Be w a out).1).1).1).2⟩:=by
    rw [hL,LF hp (by omega),hnew,hput]
    simp only [Vc,List.length_singleton]
    rw [Ba (by simp)];simp
   have step:∀(t:QT) (o:List Nd) (s':List Nd),Ga w t→G7 o→L=(Be w t o).1++s'→(∀(out s L:List Nd),Ga w t→t≠.nil→G7 out→L=(Be w t out).1++s→FO L w (Be w t out).2 (MX out.length)=MX (Be w t out).1.length) →
     (if 1<((w+1:Nat):Int)∧0<((Be w t o).2:Int)then FO L w ((Be w t o).2:Int).toNat (MX o.length)else MX o.length)=MX (Be w t o).1.length:=by
    intro t o s' gt hco hLo ih
    by_cases ht:t=.nil
    ·subst ht;simp [Be]
    ·have hp':=Ou (v:=w) (out:=o) ht
     rw [if_pos ⟨by omega,by omega⟩,Int.toNat_natCast]
     exact ih o s' L gt ht hco hLo
   have hLd:L=(Be w d (Be w c (Be w b (Be w a out).1).1).1).1++([⟨(w+1:Nat),(Be w a out).2,(Be w b (Be w a out).1).2,(Be w c (Be w b (Be w a out).1).1).2,(Be w d (Be w c (Be w b (Be w a out).1).1).1).2⟩]++s):=by rw [hL,hput];simp
   have hLc:=hLd
   conv at hLc=>rhs;arg 1;rw [ed]
   rw [Vb]at hLc
   have hLb:=hLc
   conv at hLb=>rhs;arg 1;rw [ec]
   rw [Vb]at hLb
   have hLa:=hLb
   conv at hLa=>rhs;arg 1;rw [eb]
   rw [Vb]at hLa
   have sa:=step a out _ ga hc hLa (fun o s L=>O7 a w o s L)
   have sb:=step b _ _ gb ia.cl hLb (fun o s L=>O7 b w o s L)
   have sc:=step c _ _ gc ib.cl hLc (fun o s L=>O7 c w o s L)
   have sd:=step d _ _ gd ic.cl hLd (fun o s L=>O7 d w o s L)
   simp only [FO]
   rw [if_neg (fun h=>by have:=Oe.1 h;omega),hlast,endK_4]
   dsimp only
   rw [sa,sb,sc,sd,hnew,hput]
   simp only [Vc,List.length_singleton,TD]
theorem OI {v:Nat} {t:QT} (hg:Ga v t):Do (Ei v t)=true∧(t≠.nil→G7 (Ei v t)∧0<(Ei v t).length∧Lv (Ei v t) (Hx v t).1 (Ei v t).length∧sem (Ei v t) (Hx v t).1 (Ei v t).length=(Hx v t).2):=by
 by_cases hn:t=.nil
 ·subst hn;exact ⟨by simp [Ei,Do],fun h=>absurd rfl h⟩
 ·obtain ⟨s1,s2,s3⟩:=shrT_ok v t hg hn
  have e:Ei v t=(Be (Hx v t).1 (Hx v t).2 []).1:=by unfold Ei;rw [if_neg hn]
  rw [e]
  generalize Hx v t=vt at s1 s2 s3
  obtain ⟨w,u⟩:=vt
  dsimp only at s1 s2 s3 ⊢
  have hi:=EJ u w [] s1 G7.nil
  have hp:=Ou (v:=w) (out:=[]) s2
  have hnew:=hi.new (by simpa using hp)
  have hend:=O7 u w [] [] _ s1 s2 G7.nil (V3 _).symm
  have hlv:=hi.lv
  have hsm:=hi.sm
  rw [hnew]at hlv hsm hp hend
  generalize (Be w u []).1=Q at *
  have hcl:=hi.cl
  obtain ⟨q1,q2⟩:=hlv.num hp hcl.lo
  refine ⟨?_,fun _=>⟨hcl,hp,hlv,hsm⟩⟩
  have hne:Q≠[]:=fun h=>by rw [h]at hp;simp at hp
  have htop:(BM Q).toNat=w:=by unfold BM;omega
  have hord:N4 Q=MX Q.length:=by unfold N4;rw [htop];exact hend
  unfold Do
  rw [hcl.lo,hol_sem hcl.lo hp hlv (hcl.ne _ hp (Va _)),hsm,s3,nodup_dup hcl]
  have:Pi Q=true:=by
   unfold Pi
   rw [hord]
   have hlen:(MX Q.length).length=Q.length:=by simp [MX]
   simp only [hlen,decide_true,Bool.and_true,Vn,decide_eq_true_eq]
   intro i hi
   have hi':i<Q.length:=by simpa using hi
   simp [MX,UZ,hi']
  rw [this];simp [hne]
def FR:Nat→Int→Int→List Cl→QT
 | 0,_,_,_=>.nil
 | v+1,x,y,l=>
  if l=[]then .nil
  else if v=0 then .lf (F2 (Bn 1 x y 0 l)) (F2 (Bn 1 x y 1 l)) (F2 (Bn 1 x y 2 l)) (F2 (Bn 1 x y 3 l))
  else .node (FR v (qa (v+1) x 0) (qb (v+1) y 0) (Bn (v+1) x y 0 l)) (FR v (qa (v+1) x 1) (qb (v+1) y 1) (Bn (v+1) x y 1 l)) (FR v (qa (v+1) x 2) (qb (v+1) y 2) (Bn (v+1) x y 2 l)) (FR v (qa (v+1) x 3) (qb (v+1) y 3) (Bn (v+1) x y 3 l))
def GT (v:Nat) (x y:Int) (c:Cl):Prop:=x≤c.x∧c.x<x+2^v∧y≤c.y∧c.y<y+2^v
theorem inQ_sq {v:Nat} {a b:Int} {c:Cl}:inQ (v+1) a b c=true↔GT v a b c:=by
 unfold inQ GT
 simp only [Vh,decide_eq_true_eq,Vp]
 constructor
 ·rintro ⟨⟨⟨h1,h2⟩,h3⟩,h4⟩;exact ⟨h1,h2,h3,h4⟩
 ·rintro ⟨h1,h2,h3,h4⟩;exact ⟨⟨⟨h1,h2⟩,h3⟩,h4⟩
theorem Ko {v:Nat} {x y:Int} {c:Cl} (h:GT (v+1) x y c):∃k,k<4∧GT v (qa (v+1) x k) (qb (v+1) y k) c:=by
 obtain ⟨h1,h2,h3,h4⟩:=h
 have e:(2:Int)^(v+1)=2^v*2:=WS _ _
 unfold GT qa qb
 simp only [Vp]
 have hp:(0:Int)<2^v:=Xh (by omega)
 rw [e]at h2 h4
 generalize (2:Int)^v=p at *
 by_cases hx:c.x<x+p
 ·by_cases hy:c.y<y+p
  ·exact ⟨0,by omega,by simp;omega⟩
  ·exact ⟨2,by omega,by simp;omega⟩
 ·by_cases hy:c.y<y+p
  ·exact ⟨1,by omega,by simp;omega⟩
  ·exact ⟨3,by omega,by simp;omega⟩
theorem L6 {v:Nat} {x y:Int} {k:Nat} {l:List Cl} {c:Cl} (h:c∈Bn (v+1) x y k l):GT v (qa (v+1) x k) (qb (v+1) y k) c:=inQ_sq.1 (VT.1 h).2
theorem last_sem {o:List Nd} {x:Nd} {v:Nat} (hl:AE o=true) (hl':AE (o++[x])=true) (hv:x.lv=(v:Int)) (hne:(1<v∧∃k,k<4∧sem o (v-1) (x.kid k).toNat≠.nil)∨(v=1∧∃k,k<4∧x.kid k≠0)) :
  Lv (o++[x]) v (o.length+1)∧sem (o++[x]) v (o.length+1)=(if 1<v then .node (sem o (v-1) x.k0.toNat) (sem o (v-1) x.k1.toNat) (sem o (v-1) x.k2.toNat) (sem o (v-1) x.k3.toNat)else .lf x.k0 x.k1 x.k2 x.k3):=by
 have hx:A0 (o++[x]) ((o.length+1:Nat):Int)=x:=by rw [Ba (by simp)];simp
 have hLv:Lv (o++[x]) v (o.length+1):=⟨by simp,.inr (by rw [hx,hv];omega)⟩
 have hv1:1≤v:=by rcases hne with ⟨h,_⟩ | ⟨h,_⟩ <;> omega
 obtain ⟨w,rfl⟩:∃w,v=w+1:=⟨v-1,by omega⟩
 have hk:1<(A0 (o++[x]) ((o.length+1:Nat):Int)).lv→∀k,k<4→Lv o w (x.kid k).toNat:=by
  intro h1 k hk
  obtain ⟨q1,q2,q3⟩:=Lv.kid hl' (by omega) hLv h1 hk
  rw [hx]at q1 q2 q3
  refine ⟨by omega,?_⟩
  rcases q1.2 with h | h
  ·exact .inl h
  ·by_cases h0:0<(x.kid k).toNat
   ·right
    rw [←h,LF h0 (by omega)]
   ·exact .inl (by omega)
 have hE:(A3 (o++[x])).getD (o.length+1) true=false:=by
  rw [O9 hl' (by omega) (by simp),hx,W7]
  rcases hne with ⟨h1,k,hk4,hs⟩ | ⟨h1,k,hk4,hs⟩
  ·have h1':1<(A0 (o++[x]) ((o.length+1:Nat):Int)).lv:=by rw [hx,hv];omega
   have hkk:=hk h1' k hk4
   refine ⟨k,by simpa using hk4,?_⟩
   have hn:(A3 o).getD (x.kid k).toNat true=false:=by
    cases hq:(A3 o).getD (x.kid k).toNat true with
    | false=>rfl
    | true=>exact absurd ((JZ hl hkk).2 hq) hs
   rw [S6 hkk.1,hn]
   have:x.kid k≠0:=fun e=>by rw [e]at hn;rw [show ((0:Int)).toNat=0 from rfl,DM]at hn;cases hn
   simp [this]
  ·refine ⟨k,by simpa using hk4,?_⟩
   have:¬1<x.lv:=by rw [hv];omega
   simp [hs,this]
 refine ⟨hLv,?_⟩
 unfold sem
 simp only [KZ,hE,Vd,if_false,hx]
 by_cases h1:1<w+1
 ·have h1':1<(A0 (o++[x]) ((o.length+1:Nat):Int)).lv:=by rw [hx,hv];omega
  rw [if_pos (by rw [hv];omega),if_pos h1]
  have e:=fun k hk4=>Gc (r:=[x]) hl _ _ (hk h1' k hk4)
  have e0:=e 0 (by omega)
  have e1:=e 1 (by omega)
  have e2:=e 2 (by omega)
  have e3:=e 3 (by omega)
  simp only [Nd.kid,sem]at e0 e1 e2 e3
  simp only [Vp,e0,e1,e2,e3]
 ·rw [if_neg (by rw [hv];omega),if_neg h1]
structure Plc (v:Nat) (t:QT) (out o':List Nd) (i:Nat):Prop where
 pre:∃r,o'=out++r
 lo:AE o'=true
 lv:Lv o' v i
 sm:sem o' v i=t
theorem plK_0 (v:Nat) (x y:Int) (l:List Cl) (out:List Nd):plK (AO 0) 1 x y l 4 out=(out,⟨((1:Nat):Int),F2 (Bn 1 x y 0 l),F2 (Bn 1 x y 1 l),F2 (Bn 1 x y 2 l),F2 (Bn 1 x y 3 l)⟩):=rfl
theorem headS_st (l:List Cl):St (F2 l):=by
 cases l with
 | nil=>exact ⟨WJ _,by show (0:Int)≤255;decide⟩
 | cons c l=>
  have:=c.s.toNat_lt
  exact ⟨Wq _,by show (c.s.toNat:Int)≤255;omega⟩
theorem headS_ne {l:List Cl} (h:l≠[]) (hs:∀c∈l,c.s≠0):F2 l≠0:=by
 cases l with
 | nil=>exact absurd rfl h
 | cons c l=>
  intro e
  have h1:(c.s.toNat:Int)=0:=e
  exact hs c (by simp) (W8.1 (by simpa using h1))
theorem TF {v:Nat} {x y:Int}:FR v x y []=.nil:=by cases v <;> simp [FR]
theorem treeC_ne {v:Nat} {x y:Int} {l:List Cl} (h:l≠[]):FR (v+1) x y l≠.nil:=by
 unfold FR
 rw [if_neg h]
 split <;> simp
theorem Pg:∀(v:Nat) (out:List Nd) (x y:Int) (l:List Cl),v≤1329→AE out=true→(∀c∈l,GT v x y c)→(∀c∈l,c.s≠0)→(l≠[]→1≤v)→Plc v (FR v x y l) out (AO v out x y l).1 (AO v out x y l).2
 | 0,out,x,y,l,hv,ho,hl,hs,h1=>⟨⟨[],by simp [AO]⟩,ho,⟨Vy _,.inl rfl⟩,Fw _ _⟩
 | v+1,out,x,y,l,hv,ho,hl,hs,h1=>by
  unfold AO FR
  by_cases h0:l=[]
  ·rw [if_pos h0,if_pos h0]
   exact ⟨⟨[],by simp⟩,ho,⟨Vy _,.inl rfl⟩,Fw _ _⟩
  ·rw [if_neg h0,if_neg h0]
   obtain ⟨c,hc⟩:=List.exists_mem_of_ne_nil l h0
   obtain ⟨k0,hk0,hck⟩:=Ko (hl c hc)
   have hq0:Bn (v+1) x y k0 l≠[]:=fun e=>by
    have:c∈Bn (v+1) x y k0 l:=VT.2 ⟨hc,inQ_sq.2 hck⟩
    rw [e]at this;cases this
   have hqs:∀k,∀c∈Bn (v+1) x y k l,c.s≠0:=fun k c hc=>hs c (VT.1 hc).1
   by_cases hv0:v=0
   ·subst hv0
    rw [if_pos rfl,plK_0 0]
    dsimp only
    generalize hX:(⟨((1:Nat):Int),F2 (Bn 1 x y 0 l),F2 (Bn 1 x y 1 l),F2 (Bn 1 x y 2 l),F2 (Bn 1 x y 3 l)⟩:Nd)=X
    have hkid:∀k,k<4→X.kid k=F2 (Bn 1 x y k l):=by
     intro k hk
     subst hX
     match k,hk with
     | 0,_=>rfl
     | 1,_=>rfl
     | 2,_=>rfl
     | 3,_=>rfl
    have hXl:X.lv=((1:Nat):Int):=by subst hX;rfl
    have hlo:AE (out++[X])=true:=Kh ho (Ki (by rw [hXl];decide) (by rw [hXl];decide) fun k hk=>by
     rw [hkid k hk];have:=headS_st (Bn 1 x y k l);exact ⟨this.1,fun _=>this.2,fun e=>by rw [hXl]at e;exact absurd e (by decide)⟩)
    obtain ⟨q1,q2⟩:=last_sem ho hlo hXl (.inr ⟨rfl,k0,hk0,by rw [hkid k0 hk0];exact headS_ne hq0 (hqs k0)⟩)
    refine ⟨⟨[X],rfl⟩,hlo,q1,?_⟩
    rw [q2,if_neg (by omega)]
    subst hX;rfl
   ·rw [if_neg hv0]
    have step:∀k,k≤4→AE (plK (AO v) (v+1) x y l k out).1=true∧(∃r,(plK (AO v) (v+1) x y l k out).1=out++r)∧(plK (AO v) (v+1) x y l k out).2.lv=((v+1:Nat):Int) ∧
      ∀j,j<k→0≤(plK (AO v) (v+1) x y l k out).2.kid j∧Lv (plK (AO v) (v+1) x y l k out).1 v ((plK (AO v) (v+1) x y l k out).2.kid j).toNat∧sem (plK (AO v) (v+1) x y l k out).1 v ((plK (AO v) (v+1) x y l k out).2.kid j).toNat=FR v (qa (v+1) x j) (qb (v+1) y j) (Bn (v+1) x y j l):=by
     intro k
     induction k with
     | zero=>intro _;exact ⟨ho,⟨[],by simp [plK]⟩,rfl,fun j hj=>by omega⟩
     | succ k ih=>
      intro hk
      obtain ⟨i1,⟨r,i2⟩,i3,i4⟩:=ih (by omega)
      have hp:=Pg v (plK (AO v) (v+1) x y l k out).1 (qa (v+1) x k) (qb (v+1) y k) (Bn (v+1) x y k l) (by omega) i1 (fun c hc=>L6 hc) (hqs k) (fun _=>by omega)
      have e:plK (AO v) (v+1) x y l (k+1) out=((AO v (plK (AO v) (v+1) x y l k out).1 (qa (v+1) x k) (qb (v+1) y k) (Bn (v+1) x y k l)).1,(plK (AO v) (v+1) x y l k out).2.setKid k ((AO v (plK (AO v) (v+1) x y l k out).1 (qa (v+1) x k) (qb (v+1) y k) (Bn (v+1) x y k l)).2:Int)):=by
       conv=>lhs;unfold plK
       rw [if_neg (by omega)]
      rw [e]
      generalize plK (AO v) (v+1) x y l k out=P at *
      generalize AO v P.1 (qa (v+1) x k) (qb (v+1) y k) (Bn (v+1) x y k l)=Q at *
      obtain ⟨s,hs'⟩:=hp.pre
      dsimp only
      refine ⟨hp.lo,⟨r++s,by rw [hs',i2];simp⟩,by rw [TQ];exact i3,fun j hj=>?_⟩
      by_cases hjk:j=k
      ·subst hjk
       rw [Qf _ _ (by omega),Int.toNat_natCast]
       exact ⟨Wq _,hp.lv,hp.sm⟩
      ·rw [EY _ _ (by omega) (by omega) hjk]
       obtain ⟨j1,j2,j3⟩:=i4 j (by omega)
       rw [hs']
       exact ⟨j1,j2.old,(Gc i1 _ _ j2).trans j3⟩
    obtain ⟨t1,⟨r,t2⟩,t3,t4⟩:=step 4 (by omega)
    generalize plK (AO v) (v+1) x y l 4 out=P at t1 t2 t3 t4
    obtain ⟨o,X⟩:=P
    dsimp only at t1 t2 t3 t4 ⊢
    have hlo:AE (o++[X])=true:=Kh t1 (Ki (by rw [t3];omega) (by rw [t3];omega) fun k hk=>by
     obtain ⟨j1,j2,j3⟩:=t4 k hk
     refine ⟨j1,fun e=>by rw [t3]at e;omega,fun _ hpos=>?_⟩
     have:=j2.1
     refine ⟨by omega,?_⟩
     have hnum:=(j2.num (by omega) t1).1
     rw [show ((X.kid k).toNat:Int)=X.kid k from by omega]at hnum
     rw [hnum,t3];omega)
    obtain ⟨q1,q2⟩:=last_sem t1 hlo t3 (.inl ⟨by omega,k0,hk0,by
     rw [Vp,(t4 k0 hk0).2.2]
     obtain ⟨w,rfl⟩:∃w,v=w+1:=⟨v-1,by omega⟩
     exact treeC_ne hq0⟩)
    refine ⟨⟨r++[X],by rw [t2];simp⟩,hlo,q1,?_⟩
    rw [q2,if_pos (by omega),Vp]
    have f0:=(t4 0 (by omega)).2.2
    have f1:=(t4 1 (by omega)).2.2
    have f2:=(t4 2 (by omega)).2.2
    have f3:=(t4 3 (by omega)).2.2
    simp only [Nd.kid]at f0 f1 f2 f3
    rw [f0,f1,f2,f3]
theorem lvUp_in:∀f v c,IE f v c<v+f→DV (IE f v c) c=true
 | 0,v,c,h=>by simp [IE]at h
 | f+1,v,c,h=>by
  unfold IE at h ⊢
  split
  ·rename_i hw;exact hw
  ·rename_i hw
   rw [if_neg hw]at h
   exact lvUp_in f (v+1) c (by omega)
theorem pow_le2 {v w:Nat} (h:v≤w):(2:Int)^v≤2^w:=by
 have h1:(2:Nat)^v≤2^w:=V6 (by omega) h
 have h2:((2^v:Nat):Int)≤((2^w:Nat):Int):=by omega
 simpa using h2
theorem PY {v w:Nat} {c:Cl} (h:DV v c=true) (hw:v≤w):DV w c=true:=by
 have h1:=pow_le2 (show v-1≤w-1 by omega)
 simp only [DV,inZ,Vh,decide_eq_true_eq]at h ⊢
 generalize (2:Int)^(v-1)=p at *
 generalize (2:Int)^(w-1)=q at *
 omega
theorem Oo:∀(l:List Cl) (v:Nat),1≤v→v≤1330→l.foldl (fun v c=>IE (1330-v) v c) v≤1329→∀c∈l,DV (l.foldl (fun v c=>IE (1330-v) v c) v) c=true
 | [],v,_,_,_,c,hc=>by cases hc
 | d::l,v,h1,h2,h3,c,hc=>by
  have hu:=lvUp_ge (1330-v) v d
  have hf:=Ur l (IE (1330-v) v d) (by omega) (by omega)
  simp only [List.foldl_cons]at h3 ⊢
  rcases V7.1 hc with rfl | hc
  ·exact PY (lvUp_in (1330-v) v c (by omega)) hf.1
  ·exact Oo l _ (by omega) (by omega) h3 c hc
theorem LL {S:List Cl} (h:A2 S≤1329):∀c∈S,DV (A2 S) c=true:=Oo S 1 (by omega) (by omega) h
theorem M1 {v:Nat} {c:Cl} (h1:1≤v) (h:DV v c=true):GT v (-(2^(v-1))) (-(2^(v-1))) c:=by
 obtain ⟨w,rfl⟩:∃w,v=w+1:=⟨v-1,by omega⟩
 have e:(2:Int)^(w+1)=2^w*2:=WS _ _
 simp only [DV,inZ,Vh,decide_eq_true_eq,Vp]at h
 unfold GT
 rw [Vp,e]
 generalize (2:Int)^w=p at *
 omega
def JC (S:List Cl):QT:=FR (A2 S) (-(2^(A2 S-1))) (-(2^(A2 S-1))) S
theorem of07S_eq {S:List Cl} (hs:∀c∈S,c.s≠0):Np S=if A2 S>1329 then ([],4)else (Ei (A2 S) (JC S),0):=by
 unfold Np JC
 obtain ⟨v1,v2⟩:=Iq S
 by_cases hv:A2 S>1329
 ·rw [if_pos hv,if_pos hv]
 ·rw [if_neg hv,if_neg hv]
  have hin:∀c∈S,GT (A2 S) (-(2^(A2 S-1))) (-(2^(A2 S-1))) c:=fun c hc=>M1 v1 (LL (by omega) c hc)
  generalize A2 S=v at v1 v2 hv hin
  have hp:=Pg v [] (-(2^(v-1))) (-(2^(v-1))) S (by omega) rfl hin hs (fun _=>v1)
  have hok:RO (AO v [] (-(2^(v-1))) (-(2^(v-1))) S).1 ((AO v [] (-(2^(v-1))) (-(2^(v-1))) S).2:Int)=true:=by
   unfold RO
   have:=hp.lv.1
   simp only [hp.lo,VW,Vh,decide_eq_true_eq]
   omega
  rw [if_pos hok,canon_sem hp.lo hp.lv,hp.sm]
theorem J5 {l:List Cl} {c:Cl} (h:c∈AU l):c.s≠0:=by
 have:=(VT.1 h).2
 simpa using this
theorem SN {S:List Cl} (hs:∀c∈S,c.s≠0) (hv:A2 S≤1329):Ga (A2 S) (JC S):=by
 obtain ⟨v1,v2⟩:=Iq S
 have hp:=Pg (A2 S) [] (-(2^(A2 S-1))) (-(2^(A2 S-1))) S hv rfl (fun c hc=>M1 v1 (LL hv c hc)) hs (fun _=>v1)
 have:=Lz hp.lo _ _ hp.lv
 rw [hp.sm]at this
 exact this
theorem RQ (l:List Cl):Dq l=if A2 (AU l)>1329 then ([],4)else (Ei (A2 (AU l)) (JC (AU l)),0):=by
 rw [QU,of07S_eq fun c hc=>J5 hc]
theorem quad07_right {most:Int} {l:List Cl}:Do (Dq l).1=true:=by
 rw [RQ]
 split
 ·simp [Do]
 ·exact (OI (SN (fun c hc=>J5 hc) (by omega))).1
def N8 (m:Int) (x:Nd):Nat→Int
 | 0=>m
 | k+1=>max (N8 m x k) (x.kid k)
def Il (L:List Nd):Int:=L.foldl (fun m x=>if x.lv=1 then N8 m x 4 else m) 0
theorem quad_eq (L:List Nd):CP L=.agg [.sl (enL cNd L) .no]:=rfl
theorem boxQ (L:List Nd) (H:Aa):B8 true 1 (CP L) H=some (.ptr H.length 0 0,H++[.cel 0 (BD L)]):=Cm rfl rfl
section
variable {H:Aa} {p:Nat} {L:List Nd}
theorem Ds (hg:H[p]? = some (.cel 0 (BD L))):Ac false 1 (.ptr p 0 0) H=some (.sl (enL cNd L) .no):=by
 simp only [Ac,AA hg,Option.bind_some];rfl
theorem QX (hg:H[p]? = some (.cel 0 (BD L))):Ac true 1 (.ptr p 0 0) H=some (CP L):=by
 simp only [Ac,AA hg,Option.bind_some];rfl

end
theorem q08_most (L:List Nd) (H:Aa) (hL:L.length<1152921504606846976):Sh.f31 (CP L) H=some (.ret (.int .u8 (IntKind.u8.wrap (Il L))),H):=by
 unfold Sh.f31
 have e1:(H++[Blk.cel 0 (BD L)])[H.length]? = some (.cel 0 (BD L)):=Ap
 simp only [GMb,GMc,boxQ]
 refine Cg (G:=fun rec1 vs H1=>Sh.f5j H rec1 (ag vs 0) (ag vs 1) (ag vs 2) H1) L.length (fun i=>[.ptr H.length 0 0,.int .i64 (Il (L.take i)),.int .i64 (i:Int)]) (fun _=>H++[.cel 0 (BD L)]) _ hL (fun rec i hi=>?_) (fun rec=>?_)
 ·have hi':(i:Int)<(L.length:Int):=by omega
  have hws:=Aw (show i<9223372036854775807 by omega)
  have hm:Il (L.take (i+1))=if L[i].lv=1 then N8 (Il (L.take i)) L[i] 4 else Il (L.take i):=by
   unfold Il
   rw [Vf hi,WY];rfl
  rw [hm]
  generalize Il (L.take i)=m
  unfold Sh.f5j
  simp only [GMb,GMc,Ah,UY,Ds e1,Au,hi']
  by_cases hlv:L[i].lv=1
  ·rw [if_pos hlv]
   refine Cg (G:=fun rec2 vs H1=>Sh.f30 H rec rec2 (ag vs 0) (ag vs 1) (ag vs 2) (ag vs 3) H1) 4 (fun k=>[.ptr H.length 0 0,.int .i64 (N8 m L[i] k),.int .i64 (i:Int),.int .i64 (k:Int)]) (fun _=>H++[.cel 0 (BD L)]) _ (by decide) (fun rec2 k hk=>?_) (fun rec2=>?_)
   ·have hk':(k:Int)<4:=by omega
    unfold Sh.f30
    simp only [GMb,GMc,Al,Ah,AC,UY,Nat.add_zero,Vk,BS,hk',Ds e1,Ay hi,hlv,Dt hk,Dk hk,max_int,Aw (show k<9223372036854775807 by omega),N8]
   ·have hf:¬(((4:Nat):Int)<4):=by decide
    unfold Sh.f30
    simp only [GMb,GMc,hf,hws]
  ·rw [if_neg hlv,DI EK]
   have hf:((0:Int)<4):=by decide
   unfold Sh.f30
   simp only [GMb,GMc,Al,Ah,AC,UY,Nat.add_zero,Vk,BS,hf,Ds e1,Ay hi,hlv,hws]
 ·unfold Sh.f5j
  rw [Vg (Va _)]
  simp only [GMb,GMc,Ah,UY,Ds e1,Au,VV,B7,Ii]
theorem maxK_st {m:Int} {x:Nd} (hm:St m) (hx:∀k,k<4→St (x.kid k)):∀k,k≤4→St (N8 m x k)
 | 0,_=>hm
 | k+1,h=>by
  have h1:=maxK_st hm hx k (by omega)
  have h2:=hx k (by omega)
  obtain ⟨a1,a2⟩:=h1
  obtain ⟨b1,b2⟩:=h2
  exact ⟨show (0:Int)≤max (N8 m x k) (x.kid k)by omega,show max (N8 m x k) (x.kid k)≤(255:Int)by omega⟩
theorem mostZ_st {L:List Nd} (hl:AE L=true):St (Il L):=by
 have key:∀(l:List Nd) (m:Int),St m→(∀x∈l,x.lv=1→∀k,k<4→St (x.kid k))→St (l.foldl (fun m x=>if x.lv=1 then N8 m x 4 else m) m):=by
  intro l
  induction l with
  | nil=>intro m hm _;exact hm
  | cons a l ih=>
   intro m hm hx
   refine ih _ ?_ fun x h=>hx x (by simp [h])
   dsimp only
   split
   ·rename_i h;exact maxK_st hm (hx a (by simp) h) 4 (Va _)
   ·exact hm
 refine key L 0 ⟨WJ _,by decide⟩ fun x hx hlv k hk=>?_
 obtain ⟨i,hi,rfl⟩:=V5 hx
 have:=(AJ hl hi).2.2 k hk
 exact ⟨this.1,this.2.1 hlv⟩
theorem q08_mostZ {L:List Nd} (H:Aa) (hL:L.length<1152921504606846976) (hl:AE L=true):Sh.f31 (CP L) H=some (.ret (.int .u8 (Il L)),H):=by
 have:=mostZ_st hl
 rw [q08_most L H hL,QL this.1 (by have:=this.2;omega)]
def cBO:Option Int→List Ab
 | none=>[.bool false,.sl [] .tight]
 | some z=>A9 z
instance:Sz cBO 2:=⟨fun a=>by cases a <;> rfl⟩
instance:Pl cBO:=⟨fun a=>by cases a <;> rfl⟩
def bo (a:Option Int):Int:=a.getD 0
theorem acells_BO (z:Int):(big z).acells=some (cBO (some z)):=NG z
theorem addO (a b:Option Int) (H:Aa) (ha:LB (bo a)) (hb:LB (bo b)):Sh.f0 (.agg (cBO a)) (.agg (cBO b)) H=some (.ret (big (bo a+bo b)),H):=by
 have e:∀a:Option Int,LB (bo a)→∃n l tk,cBO a=[.bool n,.sl (enL cU l) tk]∧l.length≤549755813888∧Lim l∧Hw n l=bo a:=by
  intro a h
  cases a with
  | none=>exact ⟨false,[],.tight,rfl,by simp,(fun x hx=>by simp at hx),rfl⟩
  | some z=>exact ⟨decide (z<0),A7 z.natAbs,.no,rfl,h,Bt _,KN z⟩
 obtain ⟨n1,l1,t1,e1,b1,x1,i1⟩:=e a ha
 obtain ⟨n2,l2,t2,e2,b2,x2,i2⟩:=e b hb
 rw [e1,e2,q02_add _ _ _ _ _ _ _ b1 b2 x1 x2,i1,i2]
def DN (nf:Nat→Nat) (E:List (Option Int)) (x:Nd) (j:Nat):Int:=
 (if 1<j then 2^(x.lv.toNat-1)else 0)+(if 1<x.lv then bo (E.getD (x.kid (nf j)).toNat none)else 0)
def Dw (nf:Nat→Nat) (E:List (Option Int)) (x:Nd) (j:Nat):Option Int:=
 if 1<x.lv then some (DN nf E x j)else if 1<j then some (2^(x.lv.toNat-1))else none
theorem SA (nf:Nat→Nat) (E:List (Option Int)) (x:Nd) (j:Nat):bo (Dw nf E x j)=DN nf E x j:=by
 unfold Dw
 split
 ·rfl
 ·rename_i h
  unfold DN
  rw [if_neg h]
  split <;> simp [bo]
def EO (nf:Nat→Nat) (E:List (Option Int)) (x:Nd):Nat→Bool×Option Int
 | 0=>(false,none)
 | j+1=>if x.kid (nf j)=0 then EO nf E x j
  else if (EO nf E x j).1=false∨DN nf E x j<bo (EO nf E x j).2 then (true,Dw nf E x j)else EO nf E x j
def CR (nf:Nat→Nat) (L:List Nd):List (Option Int):=L.foldl (fun E x=>E++[(EO nf E x 4).2]) [none]
theorem edgeL_snoc (nf:Nat→Nat) (L:List Nd) (x:Nd):CR nf (L++[x])=CR nf L++[(EO nf (CR nf L) x 4).2]:=by simp [CR]
theorem Ie (nf:Nat→Nat) (L:List Nd):(CR nf L).length=L.length+1:=by
 have key:∀(l:List Nd) (E:List (Option Int)),(l.foldl (fun E x=>E++[(EO nf E x 4).2]) E).length=l.length+E.length:=by
  intro l
  induction l with
  | nil=>intro E;simp
  | cons a l ih=>intro E;simp only [List.foldl_cons,ih];simp;omega
 unfold CR;rw [key];simp
theorem S9 (nf:Nat→Nat) (L:List Nd) {i:Nat} (hi:i<L.length):CR nf (L.take (i+1))=CR nf (L.take i)++[(EO nf (CR nf (L.take i)) L[i] 4).2]:=by
 rw [Vf hi,edgeL_snoc]
def EB (L:List Nd) (E:List (Option Int)):Prop:=∀(m:Nat) (x:Nd) (o:Option Int),L[m]? = some x→E[m+1]? = some o→0≤bo o∧bo o<2^x.lv.toNat
theorem edgeJ_b {nf:Nat→Nat} {E:List (Option Int)} {x:Nd} {j:Nat} (hx:1≤x.lv) (hE:1<x.lv→0≤bo (E.getD (x.kid (nf j)).toNat none)∧bo (E.getD (x.kid (nf j)).toNat none)<2^(x.lv.toNat-1)):0≤DN nf E x j∧DN nf E x j<2^x.lv.toNat:=by
 unfold DN
 have e:(2:Int)^x.lv.toNat=2^(x.lv.toNat-1)*2:=by rw [←WS];congr 1;omega
 have hp:(0:Int)<2^(x.lv.toNat-1):=Xh (by omega)
 rw [e]
 by_cases h1:1<x.lv
 ·obtain ⟨h2,h3⟩:=hE h1
  rw [if_pos h1]
  generalize (2:Int)^(x.lv.toNat-1)=p at *
  split <;> omega
 ·rw [if_neg h1]
  generalize (2:Int)^(x.lv.toNat-1)=p at *
  split <;> omega
theorem Rh {nf:Nat→Nat} {E:List (Option Int)} {x:Nd} (hb:∀j,j<4→0≤DN nf E x j∧DN nf E x j<2^x.lv.toNat):∀j,j≤4→0≤bo (EO nf E x j).2∧bo (EO nf E x j).2<2^x.lv.toNat
 | 0,_=>⟨WJ _,Xh (by omega)⟩
 | j+1,hj=>by
  unfold EO
  split
  ·exact Rh hb j (by omega)
  ·split
   ·rw [SA];exact hb j (by omega)
   ·exact Rh hb j (by omega)
theorem S8 {nf:Nat→Nat} (hnf:∀j,nf j<4) {L:List Nd} (hl:AE L=true) {i:Nat} (hi:i<L.length) (hE:EB (L.take i) (CR nf (L.take i))) (j:Nat) (h1:1<L[i].lv):0≤bo ((CR nf (L.take i)).getD (L[i].kid (nf j)).toNat none)∧bo ((CR nf (L.take i)).getD (L[i].kid (nf j)).toNat none)<2^(L[i].lv.toNat-1):=by
 obtain ⟨l1,l2,l3⟩:=AJ hl hi
 obtain ⟨q1,q2,q3⟩:=l3 (nf j) (hnf j)
 have hp:(0:Int)<2^(L[i].lv.toNat-1):=Xh (by omega)
 by_cases hc:0<L[i].kid (nf j)
 ·obtain ⟨r1,r2⟩:=q3 h1 hc
  obtain ⟨m,hm⟩:∃m:Nat,(L[i].kid (nf j)).toNat=m+1:=⟨(L[i].kid (nf j)).toNat-1,by omega⟩
  have hmi:m<i:=by omega
  have hml:m<L.length:=by omega
  have hlen:=Ie nf (L.take i)
  rw [Vm,VZ (by omega)]at hlen
  have hlt:m+1<(CR nf (L.take i)).length:=by omega
  have:=hE m L[m] _ (by rw [VU hmi,UU hml]) (UU hlt)
  have hlv:=r2 L[m] (by rw [show (L[i].kid (nf j)-1).toNat=m from by omega];exact UU hml)
  rw [hm,UZ,UU hlt,show L[i].lv.toNat-1=L[m].lv.toNat from by omega]
  exact this
 ·rw [show (L[i].kid (nf j)).toNat=0 from by omega]
  have h0:(CR nf (L.take i)).getD 0 none=none:=by
   have key:∀(l:List Nd) (E:List (Option Int)),E[0]? = some none→(l.foldl (fun E x=>E++[(EO nf E x 4).2]) E)[0]? = some none:=by
    intro l
    induction l with
    | nil=>intro E h;exact h
    | cons a l ih=>intro E h;exact ih _ (by rw [UW (UV.1 h).1];exact h)
   rw [UZ,show (CR nf (L.take i))[0]? = some none from key _ [none] rfl];rfl
  rw [h0];exact ⟨WJ _,hp⟩
theorem edgeL_b {nf:Nat→Nat} (hnf:∀j,nf j<4) {L:List Nd} (hl:AE L=true):∀i,i≤L.length→EB (L.take i) (CR nf (L.take i))
 | 0,_=>by intro m x o h;simp at h
 | i+1,h=>by
  have ih:=edgeL_b hnf hl i (by omega)
  rw [S9 nf L h]
  intro m x o hx hz
  have hlen:=Ie nf (L.take i)
  rw [Vm,VZ (by omega)]at hlen
  by_cases hn:m<i
  ·rw [UW (by omega)]at hz
   rw [VU (by omega)]at hx
   exact ih m x o (by rw [VU hn];exact hx) hz
  ·rw [Vu (by omega),hlen]at hz
   have hmi:m=i:=by
    have:=(UV.1 hz).1
    simp at this;omega
   subst hmi
   simp only [V9,List.getElem?_cons_zero,Ve]at hz
   rw [VU (by omega),UU h]at hx
   injection hx with hx
   rw [←hx,←hz]
   exact Rh (fun j _=>edgeJ_b (AJ hl h).1 (S8 hnf hl h ih j)) 4 (Va _)
section
variable {len sz id g o m p:Nat} {K:IntKind} {Hc:Aa} {nf:Nat→Nat}
theorem idx_arr (h:m<len):BP len sz (.ptr id g o) (.int K (m:Int))=some (.ptr id g (o+m*sz)):=by
 unfold BP
 simp only []
 rw [if_pos ⟨by omega,by omega⟩];simp
def FH (a b:Nat):List Ab:=[.int .i64 (a:Int),.int .i64 (b:Int)]
theorem load_two {a b:Nat} (hg:Hc[p]? = some (.cel 0 (FH a b))) (h:m<2):Ac false 1 (.ptr p 0 m) Hc=some (.int .i64 ((if m=0 then a else b:Nat):Int)):=by
 simp only [Ac,AA hg,Option.bind_some,Vd,if_false]
 match m,h with
 | 0,_=>rfl
 | 1,_=>rfl
theorem F0 {a:Option Int} (hg:Hc[p]? = some (.cel 0 (cBO a))):Ac true 2 (.ptr p 0 0) Hc=some (.agg (cBO a)):=by
 simp only [Ac,AA hg,Option.bind_some,if_true]
 cases a <;> rfl
theorem Te (a:Option Int):(Ab.agg (cBO a)).acells=some (cBO a):=by cases a <;> rfl
theorem M5 {a:Option Int} {cs:List Ab} (hg:Hc[p]? = some (.cel 0 cs)) (hl:cs.length=2):Ag 2 (.ptr p 0 0) (.agg (cBO a)) Hc=some (Hc.set p (.cel 0 (cBO a))):=by
 simp only [Ag,AA hg,Option.bind_some,Te,B9 hg,Fz hl]
 rw [if_pos ⟨by cases a <;> rfl,by omega⟩]

end
theorem big_BO (z:Int):big z=.agg (cBO (some z)):=rfl
def Rep (z:Int) (cs:List Ab):Prop:=∃n l tk,cs=[.bool n,.sl (enL cU l) tk]∧l.length≤549755813888∧Lim l∧Hw n l=z
theorem Rep.big {z:Int} (h:LB z):Rep z (A9 z):=⟨decide (z<0),A7 z.natAbs,.no,rfl,h,Bt _,KN z⟩
theorem Rep.bo {a:Option Int} (h:LB (bo a)):Rep (Go.Gm.bo a) (cBO a):=by
 cases a with
 | none=>exact ⟨false,[],.tight,rfl,by simp,(fun x hx=>by simp at hx),rfl⟩
 | some z=>exact Rep.big h
theorem Rep.lb {z:Int} {cs:List Ab} (h:Rep z cs):LB z:=by
 obtain ⟨n,l,tk,_,h2,h3,rfl⟩:=h
 unfold LB
 rw [OO]
 exact Vw (EG (Rs l h3)) h2
theorem addR {a b:Int} {cs ds:List Ab} (ha:Rep a cs) (hb:Rep b ds) (H:Aa):Sh.f0 (.agg cs) (.agg ds) H=some (.ret (Go.Gm.big (a+b)),H):=by
 obtain ⟨n1,l1,t1,rfl,b1,x1,rfl⟩:=ha
 obtain ⟨n2,l2,t2,rfl,b2,x2,rfl⟩:=hb
 exact q02_add _ _ _ _ _ _ _ b1 b2 x1 x2
theorem minusR {a:Int} {cs:List Ab} (ha:Rep a cs) (H:Aa):Sh.fg (.agg cs) H=some (.ret (Go.Gm.big (-a)),H):=by
 obtain ⟨n1,l1,t1,rfl,b1,x1,rfl⟩:=ha
 exact Ud _ _ _ _ (by omega) x1
theorem boxR {a:Int} {cs:List Ab} (ha:Rep a cs) (H:Aa):B8 true 2 (.agg cs) H=some (.ptr H.length 0 0,H++[.cel 0 cs]):=by
 obtain ⟨n1,l1,t1,rfl,b1,x1,rfl⟩:=ha
 exact Cm rfl rfl
theorem loadR {a:Int} {cs:List Ab} {H:Aa} {p:Nat} (ha:Rep a cs) (hg:H[p]? = some (.cel 0 cs)):Ac true 2 (.ptr p 0 0) H=some (.agg cs):=by
 obtain ⟨n1,l1,t1,rfl,b1,x1,rfl⟩:=ha
 simp only [Ac,AA hg,Option.bind_some];rfl
theorem subR {a b:Int} {cs ds:List Ab} (ha:Rep a cs) (hb:Rep b ds) (H:Aa):Sh.fu (.agg cs) (.agg ds) H=some (.ret (Go.Gm.big (a-b)),H):=by
 unfold Sh.fu
 have e1:(H++[Blk.cel 0 cs]++[Blk.cel 0 ds]++[Blk.cel 0 [.bool false,.sl [] .tight]])[H.length]? = some (.cel 0 cs):=by simp
 have e2:(H++[Blk.cel 0 cs]++[Blk.cel 0 ds]++[Blk.cel 0 [.bool false,.sl [] .tight]])[(H++[Blk.cel 0 cs]).length]? = some (.cel 0 ds):=by simp
 have hz:=Rep.big hb.lb.neg
 simp only [GMb,GMc,boxR ha,boxR hb,Cb,loadR ha e1,loadR hb e2,minusR hb,and_true,eq_self]
 rw [←Td (-b)]
 simp only [GMb,GMc,addR ha hz,Cx (Ap (B:=H++[Blk.cel 0 cs]++[Blk.cel 0 ds]) (cs:=[.bool false,.sl [] .tight])) rfl,Bh,Bb Ap]
 rw [show a + -b=a-b from rfl]
 simp only [Vb,Cf,fall_big,Option.map_some]
theorem cmpR {a b:Int} {cs ds:List Ab} (ha:Rep a cs) (hb:Rep b ds) (H:Aa):Sh.f2 (.agg cs) (.agg ds) H=some (.ret (.int .i64 (EP a b)),H):=by
 unfold Sh.f2
 have e1:(H++[Blk.cel 0 cs]++[Blk.cel 0 ds])[H.length]? = some (.cel 0 cs):=by simp
 have e2:(H++[Blk.cel 0 cs]++[Blk.cel 0 ds])[(H++[Blk.cel 0 cs]).length]? = some (.cel 0 ds):=Ap
 simp only [GMb,GMc,boxR ha,boxR hb,loadR ha e1,loadR hb e2,subR ha hb,Cb]
 generalize hB:H++[Blk.cel 0 cs]++[Blk.cel 0 ds]=B
 have g0:Ac false 1 (.ptr B.length 0 0) (B++[Blk.cel 0 (A9 (a-b))])=some (.bool (decide (a-b<0))):=by
  simp only [Ac,AA Ap,Option.bind_some];rfl
 have g1:Ac false 1 (.ptr B.length 0 1) (B++[Blk.cel 0 (A9 (a-b))])=some (.sl (enL cU (A7 (a-b).natAbs)) .no):=by
  simp only [Ac,AA Ap,Option.bind_some];rfl
 have fin:∀q:Int,rP H (.int .i64 q) (B++[Blk.cel 0 (A9 (a-b))])=some (.ret (.int .i64 q),H):=fun q=>by rw [←hB];simp only [Vb];exact Ii
 simp only [Cx (Ap (B:=B) (cs:=[.bool false,.sl [] .tight])) rfl,Bh,GMb,GMc,Ah,UY,Nat.add_zero,g0,g1,Au]
 unfold EP
 by_cases h0:a=b
 ·subst h0
  have:((A7 (a-a).natAbs).length:Int)=0:=by rw [Int.sub_self];simp [DJ]
  simp only [this,GMb,GMc,fin,VV]
 ·have hne:A7 (a-b).natAbs≠[]:=On (by omega)
  have hp:=VC.2 hne
  have hz:¬((A7 (a-b).natAbs).length:Int)=0:=by omega
  by_cases hn:a<b
  ·have h1:a-b<0:=by omega
   simp only [hz,GMb,GMc,h1,hn,fin]
  ·have h1:¬a-b<0:=by omega
   simp only [hz,GMb,GMc,h1,hn,h0,fin]
def Im (x:Nd) (j:Nat):Option Int:=if 1<j then some (2^(x.lv.toNat-1))else none
theorem boxTwo (a b:Nat) (H:Aa):B8 true 2 (.agg (FH a b)) H=some (.ptr H.length 0 0,H++[.cel 0 (FH a b)]):=Cm rfl rfl
theorem edge_turn {nf:Nat→Nat} (hnf:∀j,nf j<4) {L:List Nd} (tk:Tok) (H Hc:Aa) (E:List (Option Int)) (i j pN pF id ph:Nat) (hi:i<L.length) (hj:j<4) (hL:L.length<549755813888)
  (hE:E.length=L.length+1) (hlv:1≤L[i].lv∧L[i].lv≤1329) (hkid:0≤L[i].kid (nf j)) (hin:1<L[i].lv→(L[i].kid (nf j)).toNat<E.length∧(L[i].kid (nf j)).toNat≠i+1∧LB (bo (E.getD (L[i].kid (nf j)).toNat none)))
  (hJ:LB (DN nf E L[i] j)) (q:Bool×Option Int) (hq:LB (bo q.2)) (hbase:H.length≤pN∧H.length≤pF∧H.length≤id∧H.length≤ph) (dN:pN≠id) (dF:pF≠id) (dH:ph≠id)
  (fN:Hc[pN]? = some (.cel 0 (FH (nf 0) (nf 1)))) (fF:Hc[pF]? = some (.cel 0 (FH (nf 2) (nf 3)))) (fR:Hc[id]? = some (.cel 0 (flat cBO (E.set (i+1) q.2)))) (fH:Hc[ph]? = some (.cel 0 (A9 (2^(L[i].lv.toNat-1))))) (hold:∀k,k<H.length→Hc[k]? = H[k]?) (hlen:H.length≤Hc.length) :
  ∃Hd,(∀rec1 rec2:LK,Sh.f5g H rec1 rec2 (.sl (enL cNd L) tk) (.ptr pN 0 0) (.ptr pF 0 0) (.ms id 0 0 (L.length+1) (L.length+1) 2 true) (.int .i64 (i:Int)) (.ptr ph 0 0) (.bool q.1) (.int .i64 (j:Int)) Hc=rec2 [.sl (enL cNd L) tk,.ptr pN 0 0,.ptr pF 0 0,.ms id 0 0 (L.length+1) (L.length+1) 2 true,.int .i64 (i:Int),.ptr ph 0 0,.bool (if L[i].kid (nf j)=0 then q else if q.1=false∨DN nf E L[i] j<bo q.2 then (true,Dw nf E L[i] j)else q).1,.int .i64 ((j+1:Nat):Int)] Hd) ∧
   Hd[pN]? = some (.cel 0 (FH (nf 0) (nf 1)))∧Hd[pF]? = some (.cel 0 (FH (nf 2) (nf 3)))∧Hd[id]? = some (.cel 0 (flat cBO (E.set (i+1) (if L[i].kid (nf j)=0 then q else if q.1=false∨DN nf E L[i] j<bo q.2 then (true,Dw nf E L[i] j)else q).2)))∧Hd[ph]? = some (.cel 0 (A9 (2^(L[i].lv.toNat-1))))∧(∀k,k<H.length→Hd[k]? = H[k]?)∧H.length≤Hd.length:=by
 have hj':(j:Int)<4:=by omega
 have hws:=Aw (show j<9223372036854775807 by omega)
 have hwi:=Aw (show i<9223372036854775807 by omega)
 have hm2:j%2<2:=W9 _ (by omega)
 have hrem:(j:Int).tmod 2=((j%2:Nat):Int):=rfl
 have hgt:decide ((j:Int)>1)=decide (1<j):=by rw [Vr];simp only [decide_eq_true_eq];omega
 have hnj:nf j=if 1<j then (if j%2=0 then nf 2 else nf 3)else (if j%2=0 then nf 0 else nf 1):=by
  match j,hj with
  | 0,_=>rfl
  | 1,_=>rfl
  | 2,_=>rfl
  | 3,_=>rfl
 have hz:AD (some [(.bool false),(.sl [] .tight)]) []=some (.agg (cBO none)):=rfl
 generalize hB:Hc++[Blk.cel 0 (cBO (Im L[i] j))]=B
 have bN:B[pN]? = some (.cel 0 (FH (nf 0) (nf 1))):=by rw [←hB];exact A1 fN
 have bF:B[pF]? = some (.cel 0 (FH (nf 2) (nf 3))):=by rw [←hB];exact A1 fF
 have bR:B[id]? = some (.cel 0 (flat cBO (E.set (i+1) q.2))):=by rw [←hB];exact A1 fR
 have bH:B[ph]? = some (.cel 0 (A9 (2^(L[i].lv.toNat-1)))):=by rw [←hB];exact A1 fH
 have bM:B[Hc.length]? = some (.cel 0 (cBO (Im L[i] j))):=by rw [←hB];exact Ap
 have bold:∀k,k<H.length→B[k]? = H[k]? := fun k hk=>by rw [←hB,UW (by omega)];exact hold k hk
 have bl:B.length=Hc.length+1:=by rw [←hB];simp
 suffices hs:∃Hd,(∀rec2:LK,Sh.f5f H (fun vs H1=>Sh.f1a H rec2 (ag vs 0) (ag vs 1) (ag vs 2) (ag vs 3) (ag vs 4) (ag vs 5) (ag vs 6) (ag vs 7) H1) (.sl (enL cNd L) tk) (.ptr pN 0 0) (.ptr pF 0 0) (.ms id 0 0 (L.length+1) (L.length+1) 2 true) (.int .i64 (i:Int)) (.ptr ph 0 0) (.bool q.1) (.int .i64 (j:Int)) (.int .i64 (nf j:Int)) (.ptr Hc.length 0 0) B=rec2 [.sl (enL cNd L) tk,.ptr pN 0 0,.ptr pF 0 0,.ms id 0 0 (L.length+1) (L.length+1) 2 true,.int .i64 (i:Int),.ptr ph 0 0,.bool (if L[i].kid (nf j)=0 then q else if q.1=false∨DN nf E L[i] j<bo q.2 then (true,Dw nf E L[i] j)else q).1,.int .i64 ((j+1:Nat):Int)] Hd) ∧
   Hd[pN]? = some (.cel 0 (FH (nf 0) (nf 1)))∧Hd[pF]? = some (.cel 0 (FH (nf 2) (nf 3)))∧Hd[id]? = some (.cel 0 (flat cBO (E.set (i+1) (if L[i].kid (nf j)=0 then q else if q.1=false∨DN nf E L[i] j<bo q.2 then (true,Dw nf E L[i] j)else q).2)))∧Hd[ph]? = some (.cel 0 (A9 (2^(L[i].lv.toNat-1))))∧(∀k,k<H.length→Hd[k]? = H[k]?)∧H.length≤Hd.length by
  obtain ⟨Hd,h1,h2⟩:=hs
  refine ⟨Hd,fun rec1 rec2=>?_,h2⟩
  have hst:∀a:Option Int,Ag 2 (.ptr Hc.length 0 0) (.agg (cBO a)) (Hc++[Blk.cel 0 (cBO none)])=some (Hc++[Blk.cel 0 (cBO a)]):=fun a=>by rw [M5 (Ap (B:=Hc)) rfl,Bh]
  have halloc:Az (some [.bool false,.sl [] .tight]) Hc=some (.ptr Hc.length 0 0,Hc++[.cel 0 (cBO none)]):=Cb Hc
  unfold Sh.f5g
  simp only [GMb,GMc,hj',HT (show (2:Int)≠0 by decide),hrem,idx_arr hm2,UY,Vk,load_two fN hm2,hz,halloc,hst,Ai,hgt]
  by_cases h1j:1<j
  ·have hF:(Hc++[Blk.cel 0 (cBO none)])[pF]? = some (.cel 0 (FH (nf 2) (nf 3))):=A1 fF
   have hH:(Hc++[Blk.cel 0 (cBO none)])[ph]? = some (.cel 0 (A9 (2^(L[i].lv.toNat-1)))):=A1 fH
   rw [if_pos h1j]at hnj
   have hmo:Im L[i] j=some (2^(L[i].lv.toNat-1)):=by unfold Im;rw [if_pos h1j]
   simp only [GMb,GMc,h1j,Ai,idx_arr hm2,UY,Vk,load_two hF hm2,Bb hH]
   rw [big_BO]
   simp only [GMb,GMc,hst]
   rw [←hmo,hB,←hnj]
   exact h1 rec2
  ·rw [if_neg h1j]at hnj
   have hmo:Im L[i] j=none:=by unfold Im;rw [if_neg h1j]
   simp only [GMb,GMc,h1j,Ai]
   rw [←hmo,hB,←hnj]
   exact h1 rec2
 have hnk:=hnf j
 have hEl:(E.set (i+1) q.2).length=L.length+1:=by simp [hE]
 by_cases hk0:L[i].kid (nf j)=0
 ·refine ⟨B,fun rec2=>?_,bN,bF,by rw [if_pos hk0];exact bR,bH,bold,by omega⟩
  unfold Sh.f5f
  simp only [GMb,GMc,Al,Ah,AC,UY,Nat.add_zero,Vk,BS,Ay hi,Dt hnk,Dk hnk,hk0,Ai,Sh.f1a,hws]
 ·-- the distance
  obtain ⟨c,hc⟩:=VP hkid
  have hct:(L[i].kid (nf j)).toNat=c:=by omega
  rw [hct]at hin
  generalize hD:B++[Blk.cel 0 (cBO (Dw nf E L[i] j))]=D
  have dn:D[pN]? = some (.cel 0 (FH (nf 0) (nf 1))):=by rw [←hD];exact A1 bN
  have df:D[pF]? = some (.cel 0 (FH (nf 2) (nf 3))):=by rw [←hD];exact A1 bF
  have dr:D[id]? = some (.cel 0 (flat cBO (E.set (i+1) q.2))):=by rw [←hD];exact A1 bR
  have dh:D[ph]? = some (.cel 0 (A9 (2^(L[i].lv.toNat-1)))):=by rw [←hD];exact A1 bH
  have dd:D[B.length]? = some (.cel 0 (cBO (Dw nf E L[i] j))):=by rw [←hD];exact Ap
  have dold:∀k,k<H.length→D[k]? = H[k]? := fun k hk=>by rw [←hD,UW (by omega)];exact bold k hk
  have dl:D.length=B.length+1:=by rw [←hD];simp
  have hidl:=(UV.1 dr).1
  have hrowI:=CB (sz:=2) (id:=id) (n:=L.length+1) (K:=.i64) (g:=0) (off:=0) (cap:=L.length+1) (ex:=true) (i:=i+1) (by omega)
  rw [UY]at hrowI
  have hldI:=Ok (f:=cBO) (sz:=2) (AA dr) (i:=i+1) (by omega)
  rw [XQ]at hldI
  have hstI:=DG (f:=cBO) (sz:=2) (l:=E.set (i+1) q.2) (i:=i+1) (a:=Dw nf E L[i] j) (v:=.agg (cBO (Dw nf E L[i] j))) (AA dr) (by omega) (Te _)
  rw [B9 dr,List.set_set]at hstI
  have hJ':LB (bo (Dw nf E L[i] j)):=by rw [SA];exact hJ
  have hcmp:=fun H=>cmpR (Rep.bo hJ') (Rep.bo hq) H
  simp only [SA]at hcmp
  have h5:∃Hd,(∀rec2:LK,Sh.f2z H (fun vs H1=>Sh.f1a H rec2 (ag vs 0) (ag vs 1) (ag vs 2) (ag vs 3) (ag vs 4) (ag vs 5) (ag vs 6) (ag vs 7) H1) (.sl (enL cNd L) tk) (.ptr pN 0 0) (.ptr pF 0 0) (.ms id 0 0 (L.length+1) (L.length+1) 2 true) (.int .i64 (i:Int)) (.ptr ph 0 0) (.bool q.1) (.int .i64 (j:Int)) (.ptr B.length 0 0) D=rec2 [.sl (enL cNd L) tk,.ptr pN 0 0,.ptr pF 0 0,.ms id 0 0 (L.length+1) (L.length+1) 2 true,.int .i64 (i:Int),.ptr ph 0 0,.bool (if q.1=false∨DN nf E L[i] j<bo q.2 then (true,Dw nf E L[i] j)else q).1,.int .i64 ((j+1:Nat):Int)] Hd) ∧
    Hd[pN]? = some (.cel 0 (FH (nf 0) (nf 1)))∧Hd[pF]? = some (.cel 0 (FH (nf 2) (nf 3)))∧Hd[id]? = some (.cel 0 (flat cBO (E.set (i+1) (if q.1=false∨DN nf E L[i] j<bo q.2 then (true,Dw nf E L[i] j)else q).2)))∧Hd[ph]? = some (.cel 0 (A9 (2^(L[i].lv.toNat-1))))∧(∀k,k<H.length→Hd[k]? = H[k]?)∧H.length≤Hd.length:=by
   have put:(D.set id (.cel 0 (flat cBO (E.set (i+1) (Dw nf E L[i] j)))))[pN]? = some (.cel 0 (FH (nf 0) (nf 1)))∧(D.set id (.cel 0 (flat cBO (E.set (i+1) (Dw nf E L[i] j)))))[pF]? = some (.cel 0 (FH (nf 2) (nf 3)))∧(D.set id (.cel 0 (flat cBO (E.set (i+1) (Dw nf E L[i] j)))))[id]? = some (.cel 0 (flat cBO (E.set (i+1) (Dw nf E L[i] j))))∧(D.set id (.cel 0 (flat cBO (E.set (i+1) (Dw nf E L[i] j)))))[ph]? = some (.cel 0 (A9 (2^(L[i].lv.toNat-1))))∧(∀k,k<H.length→(D.set id (.cel 0 (flat cBO (E.set (i+1) (Dw nf E L[i] j)))))[k]? = H[k]?)∧H.length≤(D.set id (.cel 0 (flat cBO (E.set (i+1) (Dw nf E L[i] j))))).length:=
    ⟨by rw [UX dN.symm];exact dn,by rw [UX dF.symm];exact df,by rw [Vj hidl],by rw [UX dH.symm];exact dh,fun k hk=>by rw [UX (by omega)];exact dold k hk,by simp;omega⟩
   cases hq1:q.1 with
   | false=>
    rw [if_pos (Or.inl rfl)]
    refine ⟨_,fun rec2=>?_,put⟩
    unfold Sh.f2z
    simp only [GMb,GMc,F0 dd,hwi,hrowI,hstI,Ai,Sh.f1a,hws]
   | true=>
    by_cases hlt:DN nf E L[i] j<bo q.2
    ·rw [if_pos (Or.inr hlt)]
     refine ⟨_,fun rec2=>?_,put⟩
     unfold Sh.f2z
     simp only [GMb,GMc,F0 dd,hwi,hrowI,hldI,hcmp,Gq,hlt,hstI,Ai,Sh.f1a,hws]
    ·rw [if_neg (by intro h;rcases h with h | h;cases h;exact hlt h)]
     refine ⟨D,fun rec2=>?_,dn,df,dr,dh,dold,by omega⟩
     unfold Sh.f2z
     simp only [GMb,GMc,F0 dd,hwi,hrowI,hldI,hcmp,Gq,hlt,Ai,Sh.f1a,hws,hq1]
  rw [if_neg hk0]
  obtain ⟨Hd,g1,g2⟩:=h5
  refine ⟨Hd,fun rec2=>?_,g2⟩
  have hk0':¬(c:Int)=0:=by rw [←hc];exact hk0
  have hst:∀a:Option Int,∀cs:Option Int,Ag 2 (.ptr B.length 0 0) (.agg (cBO a)) (B++[Blk.cel 0 (cBO cs)])=some (B++[Blk.cel 0 (cBO a)]):=fun a cs=>by rw [M5 (Ap (B:=B)) (by cases cs <;> rfl),Bh]
  have halloc:Az (some [.bool false,.sl [] .tight]) B=some (.ptr B.length 0 0,B++[.cel 0 (cBO none)]):=Cb B
  unfold Sh.f5f
  simp only [GMb,GMc,Al,Ah,AC,UY,Nat.add_zero,Vk,BS,Ay hi,Dt hnk,Dk hnk,hc,hk0',F0 bM,halloc,hst,Ai]
  by_cases h1:1<L[i].lv
  ·have h1':L[i].lv>1:=h1
   obtain ⟨i1,i2,i3⟩:=hin h1
   have hB1M:(B++[Blk.cel 0 (cBO (Im L[i] j))])[Hc.length]? = some (.cel 0 (cBO (Im L[i] j))):=A1 bM
   have hB1R:(B++[Blk.cel 0 (cBO (Im L[i] j))])[id]? = some (.cel 0 (flat cBO (E.set (i+1) q.2))):=A1 bR
   have hrowC:=CB (sz:=2) (id:=id) (n:=L.length+1) (K:=.i64) (g:=0) (off:=0) (cap:=L.length+1) (ex:=true) (i:=c) (by omega)
   rw [UY]at hrowC
   have hldC:=Ok (f:=cBO) (sz:=2) (AA hB1R) (i:=c) (by omega)
   rw [List.getElem_set_ne (by omega)]at hldC
   have hgd:E.getD c none=E[c]:=by rw [UZ,UU i1];rfl
   rw [hgd]at i3
   have hmb:LB (bo (Im L[i] j)):=by
    unfold Im
    split
    ·exact (GX (by omega)).lb (by decide)
    ·exact LB_zero
   have hadd:=fun H=>addR (Rep.bo hmb) (Rep.bo i3) H
   have hsum:bo (Im L[i] j)+bo E[c]=DN nf E L[i] j:=by
    unfold DN Im
    rw [if_pos h1,hct,hgd]
    split <;> rfl
   have hDd:Dw nf E L[i] j=some (DN nf E L[i] j):=by unfold Dw;rw [if_pos h1]
   simp only [GMb,GMc,h1',F0 hB1M,hrowC,hldC,hadd,hsum]
   rw [big_BO,←hDd]
   simp only [GMb,GMc,hst,hD,Ai]
   exact g1 rec2
  ·have h1':¬L[i].lv>1:=h1
   have hDd:Dw nf E L[i] j=Im L[i] j:=by unfold Dw Im;rw [if_neg h1]
   simp only [GMb,GMc,h1',Ai]
   rw [←hDd,hD]
   exact g1 rec2
theorem LM {z:Int} {v:Nat} (h0:0≤z) (h:z<2^v) (hv:v≤1400):LB z:=by
 have h1:=GX hv
 have h2:=JQ v
 unfold SB at h1
 refine LB.of (k:=44) (VN ?_ h1) (by decide)
 generalize (2:Int)^v=p at *
 omega
theorem M7 {nf:Nat→Nat} (hnf:∀j,nf j<4) (L:List Nd) (tk:Tok) (H:Aa) (hL:L.length<549755813888) (hl:AE L=true) :
  Sh.f1b (.sl (enL cNd L) tk) (.agg (FH (nf 0) (nf 1))) (.agg (FH (nf 2) (nf 3))) H=some (.ret (.sl (enL cBO (CR nf L)) .no),H):=by
 unfold Sh.f1b
 have hmk:=Fa (f:=cBO) (a:=none) (n:=L.length+1) (bytes:=32) (H:=H++[Blk.cel 0 (FH (nf 0) (nf 1))]++[Blk.cel 0 (FH (nf 2) (nf 3))]) (by omega) (by omega)
 simp only [show cBO none=[Ab.bool false,.sl [] .tight] from rfl]at hmk
 simp only [GMb,GMc,boxTwo,Au,Aw (show L.length<9223372036854775807 by omega),hmk]
 have l1:(H++[Blk.cel 0 (FH (nf 0) (nf 1))]).length=H.length+1:=by simp
 have l2:(H++[Blk.cel 0 (FH (nf 0) (nf 1))]++[Blk.cel 0 (FH (nf 2) (nf 3))]).length=H.length+2:=by simp
 rw [l1,l2]
 have loop:=Gi (G:=fun rec1 vs Hc=>Sh.f5h H rec1 (ag vs 0) (ag vs 1) (ag vs 2) (ag vs 3) (ag vs 4) Hc) L.length
  (fun i vs Hc=>vs=[.sl (enL cNd L) tk,.ptr H.length 0 0,.ptr (H.length+1) 0 0,.ms (H.length+2) 0 0 (L.length+1) (L.length+1) 2 true,.int .i64 (i:Int)]∧Hc[H.length]? = some (.cel 0 (FH (nf 0) (nf 1)))∧Hc[H.length+1]? = some (.cel 0 (FH (nf 2) (nf 3)))∧Hc[H.length+2]? = some (.cel 0 (flat cBO (CR nf (L.take i)++List.replicate (L.length-i) none)))∧(∀k,k<H.length→Hc[k]? = H[k]?)∧H.length+3≤Hc.length)
  (by omega) (fun i vs Hc hi hI=>?_) (vs:=[.sl (enL cNd L) tk,.ptr H.length 0 0,.ptr (H.length+1) 0 0,.ms (H.length+2) 0 0 (L.length+1) (L.length+1) 2 true,.int .i64 0])
  (H:=H++[Blk.cel 0 (FH (nf 0) (nf 1))]++[Blk.cel 0 (FH (nf 2) (nf 3))]++[Blk.cel 0 (flat cBO (List.replicate (L.length+1) none))])
  ⟨rfl,by simp,by simp,by simp [CR,List.replicate_succ],fun k hk=>by rw [Vb,Vb,UW hk],by simp⟩
 ·obtain ⟨vs',Hc,⟨rfl,f1,f2,f3,f4,f5⟩,rec,hloop⟩:=loop
  rw [hloop]
  unfold Sh.f5h
  rw [Vg (Va _),V9,List.replicate_zero,V3]at f3
  have hfa:=Re (f:=cBO) (b:=H.length) (d:=5) (cap:=L.length+1) (ex:=true) (AA f3) (by omega)
  rw [Ie]at hfa
  simp only [GMb,GMc,Ai,Au,VV,GI (C8 f4),hfa,Option.map_some]
 ·obtain ⟨rfl,f1,f2,f3,f4,f5⟩:=hI
  have hi':(i:Int)<(L.length:Int):=by omega
  have hwi:=Aw (show i<9223372036854775807 by omega)
  obtain ⟨v1,v2,v3⟩:=AJ hl hi
  have hw:IntKind.i64.wrap (L[i].lv-1)=((L[i].lv.toNat-1:Nat):Int):=by rw [An] <;> omega
  have hpow:=fun H=>IL (L[i].lv.toNat-1) H (by omega)
  have hEB:=edgeL_b hnf hl i (by omega)
  have hlen:(CR nf (L.take i)).length=i+1:=by rw [Ie];simp;omega
  have s1:Ag 2 (.ptr Hc.length 0 0) (big (2^(L[i].lv.toNat-1))) (Hc++[.cel 0 [.bool false,.sl [] .tight]])=some (Hc++[.cel 0 (A9 (2^(L[i].lv.toNat-1)))]):=by rw [Cx (Ap (B:=Hc)) rfl,Bh]
  generalize hE:CR nf (L.take i)++List.replicate (L.length-i) none=E at f3
  have hEl:E.length=L.length+1:=by rw [←hE];simp [hlen];omega
  have hgetE:∀c,c≤i→E.getD c none=(CR nf (L.take i)).getD c none:=fun c hc=>by
   rw [←hE,UZ,UZ,UW (by omega)]
  have hkidle:∀j,1<L[i].lv→(L[i].kid (nf j)).toNat≤i:=fun j h1=>by
   obtain ⟨q1,q2,q3⟩:=v3 (nf j) (hnf j)
   by_cases hc:0<L[i].kid (nf j)
   ·have:=(q3 h1 hc).1;omega
   ·omega
  have hJeq:∀j,DN nf E L[i] j=DN nf (CR nf (L.take i)) L[i] j:=fun j=>by
   unfold DN
   by_cases h1:1<L[i].lv
   ·rw [if_pos h1,if_pos h1,hgetE _ (hkidle j h1)]
   ·rw [if_neg h1,if_neg h1]
  have hDeq:∀j,Dw nf E L[i] j=Dw nf (CR nf (L.take i)) L[i] j:=fun j=>by unfold Dw;rw [hJeq]
  have hKeq:∀j,EO nf E L[i] j=EO nf (CR nf (L.take i)) L[i] j:=fun j=>by
   induction j with
   | zero=>rfl
   | succ j ih=>unfold EO;rw [ih,hJeq,hDeq]
  have hJb:∀j,0≤DN nf E L[i] j∧DN nf E L[i] j<2^L[i].lv.toNat:=fun j=>by rw [hJeq];exact edgeJ_b v1 (S8 hnf hl hi hEB j)
  have hJl:∀j,LB (DN nf E L[i] j):=fun j=>LM (hJb j).1 (hJb j).2 (by omega)
  have hKl:∀j,j≤4→LB (bo (EO nf E L[i] j).2):=fun j hj=>by
   have:=Rh (fun j _=>hJb j) j hj
   exact LM this.1 this.2 (by omega)
  have hrep:List.replicate (L.length-i) (none:Option Int)=none::List.replicate (L.length-(i+1)) none:=by rw [show L.length-i=(L.length-(i+1))+1 from by omega,List.replicate_succ]
  have hset:∀o:Option Int,E.set (i+1) o=CR nf (L.take i)++o::List.replicate (L.length-(i+1)) none:=fun o=>by
   rw [←hE,hrep,V8 _ _ (by omega),hlen,V9,List.set_cons_zero]
  have hset0:E.set (i+1) (EO nf E L[i] 0).2=E:=by rw [hset];show CR nf (L.take i)++none::_=E;rw [←hrep,hE]
  have turn:=fun (j:Nat) (hj:j<4) (Hd:Aa)=>edge_turn hnf tk H Hd E i j H.length (H.length+1) (H.length+2) Hc.length hi hj hL hEl ⟨v1,v2⟩ (v3 (nf j) (hnf j)).1 (fun h1=>⟨by have:=hkidle j h1;omega,by have:=hkidle j h1;omega,by
    rw [hgetE _ (hkidle j h1)]
    have:=S8 hnf hl hi hEB j h1
    exact LM this.1 this.2 (by omega)⟩) (hJl j) (EO nf E L[i] j) (hKl j (by omega)) ⟨by omega,by omega,by omega,by omega⟩ (by omega) (by omega) (by omega)
  have next:∀j,(if L[i].kid (nf j)=0 then EO nf E L[i] j else if (EO nf E L[i] j).1=false∨DN nf E L[i] j<bo (EO nf E L[i] j).2 then (true,Dw nf E L[i] j)else EO nf E L[i] j)=EO nf E L[i] (j+1):=fun j=>rfl
  simp only [next]at turn
  obtain ⟨H1,t1,a1,b1,c1,d1,e1,g1⟩:=turn 0 (by omega) (Hc++[Blk.cel 0 (A9 (2^(L[i].lv.toNat-1)))]) (A1 f1) (A1 f2) (by rw [hset0];exact A1 f3) Ap (fun k hk=>by rw [UW (by omega)];exact f4 k hk) (by simp;omega)
  obtain ⟨H2,t2,a2,b2,c2,d2,e2,g2⟩:=turn 1 (by omega) H1 a1 b1 c1 d1 e1 g1
  obtain ⟨H3,t3,a3,b3,c3,d3,e3,g3⟩:=turn 2 (by omega) H2 a2 b2 c2 d2 e2 g2
  obtain ⟨H4,t4,a4,b4,c4,d4,e4,g4⟩:=turn 3 (by omega) H3 a3 b3 c3 d3 e3 g3
  have hidl:=(UV.1 c4).1
  refine ⟨[.sl (enL cNd L) tk,.ptr H.length 0 0,.ptr (H.length+1) 0 0,.ms (H.length+2) 0 0 (L.length+1) (L.length+1) 2 true,.int .i64 ((i+1:Nat):Int)],H4,⟨rfl,a4,b4,?_,e4,by omega⟩,fun rec=>?_⟩
  ·rw [c4,S9 nf L hi,hset,←hKeq];simp
  ·unfold Sh.f5h
   simp only [GMb,GMc,Al,Ah,AC,UY,Nat.add_zero,Vk,BS,Ai,Au,hi',Ay hi,hw,hpow,Cb,s1]
   obtain ⟨n,hn⟩:=U6 5 (by decide)
   have hf:¬(((3+1:Nat):Int)<4):=by decide
   rw [hn,show n+5=(((n+1)+1)+1+1)+1 from rfl,CF]
   simp only [Ak,Ai]
   refine (t1 rec _).trans ?_
   rw [CF]
   simp only [Ak,Ai]
   refine (t2 rec _).trans ?_
   rw [CF]
   simp only [Ak,Ai]
   refine (t3 rec _).trans ?_
   rw [CF]
   simp only [Ak,Ai]
   refine (t4 rec _).trans ?_
   rw [CF]
   unfold Sh.f5g
   simp only [GMb,GMc,Ai,hf,hwi]
def Ni (x y w h:Int):List Ab:=A9 x++A9 y++A9 w++A9 h
def QJ (x y w h:Int):Ab:=.agg (Ni x y w h)
def HH:List Ab:=[.bool false,.sl [] .tight,.bool false,.sl [] .tight,.bool false,.sl [] .tight,.bool false,.sl [] .tight]
def nfW (j:Nat):Nat:=match j with | 0=>0 | 1=>2 | 2=>1 | _=>3
def nfE (j:Nat):Nat:=match j with | 0=>1 | 1=>3 | 2=>0 | _=>2
def nfN (j:Nat):Nat:=match j with | 0=>0 | 1=>1 | 2=>2 | _=>3
def nfS (j:Nat):Nat:=match j with | 0=>2 | 1=>3 | 2=>0 | _=>1
def GP (nf:Nat→Nat) (L:List Nd):Option Int:=(CR nf L).getD L.length none
def bxX (L:List Nd):Int:=-(2^((BM L).toNat-1))+bo (GP nfW L)
def bxY (L:List Nd):Int:=-(2^((BM L).toNat-1))+bo (GP nfN L)
def bxW (L:List Nd):Int:=2^(BM L).toNat-(bo (GP nfW L)+bo (GP nfE L))
def bxH (L:List Nd):Int:=2^(BM L).toNat-(bo (GP nfN L)+bo (GP nfS L))
theorem nfW_lt (j:Nat):nfW j<4:=by unfold nfW;split <;> omega
theorem nfE_lt (j:Nat):nfE j<4:=by unfold nfE;split <;> omega
theorem nfN_lt (j:Nat):nfN j<4:=by unfold nfN;split <;> omega
theorem nfS_lt (j:Nat):nfS j<4:=by unfold nfS;split <;> omega
theorem build_two (a b:Nat):AD (some [.int .i64 0,.int .i64 0]) [(0,1,.int .i64 (a:Int)),(1,1,.int .i64 (b:Int))]=some (.agg (FH a b)):=by
 simp [AD,FV,Dp,FH]
theorem Kt {nf:Nat→Nat} (hnf:∀j,nf j<4) {L:List Nd} (hl:AE L=true) (h0:0<L.length):0≤bo (GP nf L)∧bo (GP nf L)<2^(BM L).toNat:=by
 have hb:=edgeL_b hnf hl L.length (Va _)
 rw [Vg (Va _)]at hb
 have hm:L.length-1<L.length:=by omega
 have hlt:L.length<(CR nf L).length:=by rw [Ie];omega
 have:=hb (L.length-1) L[L.length-1] (CR nf L)[L.length] (UU hm) (by rw [show L.length-1+1=L.length from by omega];exact UU hlt)
 have ht:BM L=L[L.length-1].lv:=by unfold BM;rw [Ec (n:=L.length-1) (by omega) hm]
 unfold GP
 rw [UZ,UU hlt,ht]
 exact this
theorem IH (B:Aa) (o:Option Int):Ag 2 (.ptr B.length 0 0) (.agg (cBO o)) (B++[Blk.cel 0 [.bool false,.sl [] .tight]])=some (B++[Blk.cel 0 (cBO o)]):=by
 rw [M5 (Ap (B:=B) (cs:=[.bool false,.sl [] .tight])) rfl,Bh]
theorem MF {nf:Nat→Nat} (L:List Nd) (H:Aa) (k:Ab→Out):((At 2 (.sl (enL cBO (CR nf L)) .no) (.int .i64 (L.length:Int))).bind fun x20=>(Ac true 2 x20 H).bind k)=k (.agg (cBO (GP nf L))):=by
 have hlt:L.length<(CR nf L).length:=by rw [Ie];omega
 rw [Ay hlt]
 unfold GP
 rw [UZ,UU hlt]
 cases (CR nf L)[L.length] <;> rfl
theorem Rg {nf:Nat→Nat} (hnf:∀j,nf j<4) {L:List Nd} (hl:AE L=true) (h0:0<L.length):LB (bo (GP nf L)):=by
 have:=Kt hnf hl h0
 have hle:=Oh hl h0 (Va _)
 exact LM this.1 this.2 (Vw hle (by omega))
theorem q09_of (L:List Nd) (H:Aa) (hL:L.length<549755813888) (hl:AE L=true) (h0:L≠[]) :
  Sh.f1v (CP L) H=some (.ret (.tup [QJ (bxX L) (bxY L) (bxW L) (bxH L),.bool true]),H):=by
 have hlen:0<L.length:=VC.2 h0
 have hl0:¬((L.length:Int)=0):=by omega
 have hLv:Lv L (BM L).toNat L.length:=⟨Va _,.inr rfl⟩
 obtain ⟨hn1,hn2⟩:=hLv.num hlen hl
 have htop:BM L=((BM L).toNat:Int):=hn1
 have hle:(BM L).toNat≤1329:=Oh hl hlen (Va _)
 have bW:=Rg nfW_lt hl hlen
 have bE:=Rg nfE_lt hl hlen
 have bN:=Rg nfN_lt hl hlen
 have bS:=Rg nfS_lt hl hlen
 have kW:=fun H=>M7 nfW_lt L .no H hL hl
 have kE:=fun H=>M7 nfE_lt L .no H hL hl
 have kN:=fun H=>M7 nfN_lt L .no H hL hl
 have kS:=fun H=>M7 nfS_lt L .no H hL hl
 simp only [nfW,nfE,nfN,nfS]at kW kE kN kS
 have lvl:=fun H=>Ua L .no H (show L.length<17592186044415 by omega)
 rw [←quad_eq]at lvl
 simp only [if_neg h0]at lvl
 unfold Sh.f1v
 have hzb:Az (some [(.bool false),(.sl [] .tight),(.bool false),(.sl [] .tight),(.bool false),(.sl [] .tight),(.bool false),(.sl [] .tight)]) (H++[Blk.cel 0 (BD L)])=some (.ptr (H++[Blk.cel 0 (BD L)]).length 0 0,H++[Blk.cel 0 (BD L)]++[.cel 0 HH]):=alloc_eq rfl
 simp only [GMb,GMc,boxQ,hzb]
 generalize h2:H++[Blk.cel 0 (BD L)]++[Blk.cel 0 HH]=H2
 generalize h1:(H++[Blk.cel 0 (BD L)]).length=p1
 have n2:Ac false 1 (.ptr H.length 0 0) H2=some (.sl (enL cNd L) .no):=Ds (by rw [←h2];simp)
 have q2:Ac true 1 (.ptr H.length 0 0) H2=some (CP L):=QX (by rw [←h2];simp)
 have z2:H2[p1]? = some (.cel 0 HH):=by rw [←h2,←h1];exact Ap
 have o2:∀k,k<H.length→H2[k]? = H[k]? := fun k hk=>by rw [←h2,Vb,UW hk]
 have p1l:H.length<p1:=by rw [←h1];simp
 have tw:=fun (a b:Nat)=>build_two a b
 have t02:=tw 0 2
 have t13:=tw 1 3
 have t01:=tw 0 1
 have t23:=tw 2 3
 simp only [show ((0:Nat):Int)=0 from rfl,show ((1:Nat):Int)=1 from rfl,show ((2:Nat):Int)=2 from rfl,show ((3:Nat):Int)=3 from rfl]at t02 t13 t01 t23
 simp only [GMb,GMc,Ah,UY,Nat.add_zero,n2,Au,hl0,t02,t13,t01,t23,kW]
 rw [MF]
 simp only [GMb,GMc,Cb,IH]
 generalize h3:H2++[Blk.cel 0 (cBO (GP nfW L))]=H3
 have n3:Ac false 1 (.ptr H.length 0 0) H3=some (.sl (enL cNd L) .no):=by rw [←h3];exact BA n2
 have w3:Ac true 2 (.ptr H2.length 0 0) H3=some (.agg (cBO (GP nfW L))):=by rw [←h3];exact F0 Ap
 simp only [GMb,GMc,Ah,UY,Nat.add_zero,n3,t02,t13,t01,t23,kE]
 rw [MF]
 simp only [GMb,GMc,Cb,IH]
 generalize h4:H3++[Blk.cel 0 (cBO (GP nfE L))]=H4
 have n4:Ac false 1 (.ptr H.length 0 0) H4=some (.sl (enL cNd L) .no):=by rw [←h4];exact BA n3
 have e4:Ac true 2 (.ptr H3.length 0 0) H4=some (.agg (cBO (GP nfE L))):=by rw [←h4];exact F0 Ap
 simp only [GMb,GMc,Ah,UY,Nat.add_zero,n4,t02,t13,t01,t23,kN]
 rw [MF]
 simp only [GMb,GMc,Cb,IH]
 generalize h5:H4++[Blk.cel 0 (cBO (GP nfN L))]=H5
 have n5:Ac false 1 (.ptr H.length 0 0) H5=some (.sl (enL cNd L) .no):=by rw [←h5];exact BA n4
 have d5:Ac true 2 (.ptr H4.length 0 0) H5=some (.agg (cBO (GP nfN L))):=by rw [←h5];exact F0 Ap
 simp only [GMb,GMc,Ah,UY,Nat.add_zero,n5,t02,t13,t01,t23,kS]
 rw [MF]
 simp only [GMb,GMc,Cb,IH]
 generalize h6:H5++[Blk.cel 0 (cBO (GP nfS L))]=H6
 have q6:Ac true 1 (.ptr H.length 0 0) H6=some (CP L):=by rw [←h6,←h5,←h4,←h3];exact BA (BA (BA (BA q2)))
 have s6:Ac true 2 (.ptr H5.length 0 0) H6=some (.agg (cBO (GP nfS L))):=by rw [←h6];exact F0 Ap
 have w6:Ac true 2 (.ptr H2.length 0 0) H6=some (.agg (cBO (GP nfW L))):=by rw [←h6,←h5,←h4];exact BA (BA (BA w3))
 have e6:Ac true 2 (.ptr H3.length 0 0) H6=some (.agg (cBO (GP nfE L))):=by rw [←h6,←h5];exact BA (BA e4)
 have d6:Ac true 2 (.ptr H4.length 0 0) H6=some (.agg (cBO (GP nfN L))):=by rw [←h6];exact BA d5
 have z6:H6[p1]? = some (.cel 0 HH):=by rw [←h6,←h5,←h4,←h3];exact A1 (A1 (A1 (A1 z2)))
 have o6:∀k,k<H.length→H6[k]? = H[k]? := fun k hk=>by
  have hk2:k<H2.length:=by rw [←h2];simp;omega
  rw [←h6,←h5,←h4,←h3,Vb,Vb,Vb,UW hk2];exact o2 k hk
 unfold bxX bxY bxW bxH
 generalize hv:(BM L).toNat=v at *
 have hpw1:=fun H=>IL v H (by omega)
 have hpw2:=fun H=>IL (v-1) H (by omega)
 have hw:IntKind.i64.wrap ((v:Int)-1)=((v-1:Nat):Int):=HY (by omega) (by omega)
 have sb1:=(GX (show v≤1400 by omega)).lb (show 44≤549755813888 by decide)
 have sb2:=(GX (show v-1≤1400 by omega)).lb (show 44≤549755813888 by decide)
 have hmin:=fun H=>Ij (2^(v-1)) H sb2
 have lB:(H6++[Blk.cel 0 [Ab.bool false,.sl [] .tight]]).length=H6.length+1:=by simp
 have s0:=fun (z:Int) (c:List Ab)=>st0 (Hc:=H6) (a:=[.bool false,.sl [] .tight]) (c:=c) (z:=z) rfl
 have s1:=fun (z:Int) (a:List Ab)=>st1 (Hc:=H6) (a:=a) (c:=[.bool false,.sl [] .tight]) (z:=z) rfl
 rw [htop]at lvl
 simp only [GMb,GMc,q6,lvl,hpw1,hw,hpw2,hmin,Cb,lB,s0,s1]
 generalize h8:H6++[Blk.cel 0 (A9 (2^v))]++[Blk.cel 0 (A9 (-(2^(v-1))))]=H8
 have c8:Ac true 2 (.ptr (H6.length+1) 0 0) H8=some (big (-(2^(v-1)))):=Bb (by rw [←h8];simp)
 have g8:Ac true 2 (.ptr H6.length 0 0) H8=some (big (2^v)):=Bb (by rw [←h8];simp)
 have w8:Ac true 2 (.ptr H2.length 0 0) H8=some (.agg (cBO (GP nfW L))):=by rw [←h8];exact BA (BA w6)
 have e8:Ac true 2 (.ptr H3.length 0 0) H8=some (.agg (cBO (GP nfE L))):=by rw [←h8];exact BA (BA e6)
 have d8:Ac true 2 (.ptr H4.length 0 0) H8=some (.agg (cBO (GP nfN L))):=by rw [←h8];exact BA (BA d6)
 have s8:Ac true 2 (.ptr H5.length 0 0) H8=some (.agg (cBO (GP nfS L))):=by rw [←h8];exact BA (BA s6)
 have z8:H8[p1]? = some (.cel 0 HH):=by rw [←h8];exact A1 (A1 z6)
 have o8:∀k,k<H.length→H8[k]? = H[k]? := fun k hk=>by
  have hk6:k<H6.length:=by
   have:=(UV.1 z6).1;omega
  rw [←h8,Vb,UW hk6];exact o6 k hk
 have rW:=Rep.bo bW
 have rE:=Rep.bo bE
 have rN:=Rep.bo bN
 have rS:=Rep.bo bS
 have rC:=Rep.big sb2.neg
 have rG:=Rep.big sb1
 have aX:=fun H=>addR rC rW H
 have aY:=fun H=>addR rC rN H
 have aWE:=fun H=>addR rW rE H
 have aNS:=fun H=>addR rN rS H
 simp only [Td]at aX aY
 have sumlb:∀a b:Int,0≤a→a<2^v→0≤b→b<2^v→LB (a+b):=fun a b ha1 ha2 hb1 hb2=>LM (v:=v+1) (by omega) (by rw [WS];omega) (by omega)
 have eW:=Kt nfW_lt hl hlen
 have eE:=Kt nfE_lt hl hlen
 have eN:=Kt nfN_lt hl hlen
 have eS:=Kt nfS_lt hl hlen
 rw [hv]at eW eE eN eS
 have bW':=fun H=>subR rG (Rep.big (sumlb _ _ eW.1 eW.2 eE.1 eE.2)) H
 have bH':=fun H=>subR rG (Rep.big (sumlb _ _ eN.1 eN.2 eS.1 eS.2)) H
 simp only [Td]at bW' bH'
 simp only [GMb,GMc,c8,g8,w8,e8,d8,s8,and_true,eq_self,aX,aY,aWE,aNS,bW',bH']
 have hbd:∀x y w h:Int,AD (some [(.bool false),(.sl [] .tight),(.bool false),(.sl [] .tight),(.bool false),(.sl [] .tight),(.bool false),(.sl [] .tight)]) [(0,2,big x),(2,2,big y),(4,2,big w),(6,2,big h)]=some (QJ x y w h):=fun x y w h=>by
  unfold QJ Ni
  simp [AD,FV,Dp,A9]
 have hacc:∀x y w h:Int,(QJ x y w h).acells=some (Ni x y w h):=fun x y w h=>C5 (by simp [Ni,A9])
 have hp1:=(UV.1 z8).1
 have hst:∀x y w h:Int,Ag 8 (.ptr p1 0 0) (QJ x y w h) H8=some (H8.set p1 (.cel 0 (Ni x y w h))):=fun x y w h=>by
  simp only [Ag,AA z8,Option.bind_some,hacc,B9 z8,Fz (cs:=HH) (sz:=8) rfl]
  rw [if_pos ⟨rfl,by decide⟩]
 have hld:∀x y w h:Int,Ac true 8 (.ptr p1 0 0) (H8.set p1 (.cel 0 (Ni x y w h)))=some (QJ x y w h):=fun x y w h=>by
  have:(H8.set p1 (.cel 0 (Ni x y w h)))[p1]? = some (.cel 0 (Ni x y w h)):=by rw [Vj hp1]
  simp only [Ac,AA this,Option.bind_some];rfl
 have htk:∀x y w h:Int,(H8.set p1 (.cel 0 (Ni x y w h))).take H.length=H:=fun x y w h=>C8 fun k hk=>by
  rw [UX (by omega)];exact o8 k hk
 have hfp:∀(x y w h:Int) (H':Aa) (n d:Nat),Fj H' n (d+3) (QJ x y w h)=some (QJ x y w h):=fun x y w h H' n d=>by
  unfold QJ Ni A9;simp
 simp only [hbd,GMb,GMc,hst,hld,IJ,FS,Hf,Option.map_some,GI (htk _ _ _ _),CQ,BN,Cd,hfp,EL]
def bx (L:List Nd) (f:List Nd→Int):Int:=if L=[]then 0 else f L
theorem box_acells (x y w h:Int):(QJ x y w h).acells=some (Ni x y w h):=C5 (by simp [Ni,A9])
theorem Tc (H:Aa):Az (some [(.bool false),(.sl [] .tight),(.bool false),(.sl [] .tight),(.bool false),(.sl [] .tight),(.bool false),(.sl [] .tight)]) H=some (.ptr H.length 0 0,H++[.cel 0 HH]):=alloc_eq rfl
theorem q09_ofB (L:List Nd) (H:Aa) (hL:L.length<549755813888) (hl:AE L=true) :
  Sh.f1v (CP L) H=some (.ret (.tup [QJ (bx L bxX) (bx L bxY) (bx L bxW) (bx L bxH),.bool (decide (L≠[]))]),H):=by
 unfold bx
 by_cases h0:L=[]
 ·subst h0
  unfold Sh.f1v
  have n2:Ac false 1 (.ptr H.length 0 0) (H++[Blk.cel 0 (BD [])]++[Blk.cel 0 HH])=some (.sl (enL cNd []) .no):=Ds (by simp)
  have hb:AD (some [(.bool false),(.sl [] .tight),(.bool false),(.sl [] .tight),(.bool false),(.sl [] .tight),(.bool false),(.sl [] .tight)]) []=some (.agg HH):=rfl
  have hst:Ag 8 (.ptr (H++[Blk.cel 0 (BD [])]).length 0 0) (.agg HH) (H++[Blk.cel 0 (BD [])]++[Blk.cel 0 HH])=some (H++[Blk.cel 0 (BD [])]++[Blk.cel 0 HH]):=by
   have hz:(H++[Blk.cel 0 (BD [])]++[Blk.cel 0 HH])[(H++[Blk.cel 0 (BD [])]).length]? = some (.cel 0 HH):=Ap
   simp only [Ag,AA hz,Option.bind_some,B9 hz,C5 (cs:=HH) rfl,Fz (cs:=HH) (sz:=8) rfl,Bh]
   rfl
  have hld:Ac true 8 (.ptr (H++[Blk.cel 0 (BD [])]).length 0 0) (H++[Blk.cel 0 (BD [])]++[Blk.cel 0 HH])=some (.agg HH):=by
   simp only [Ac,AA (Ap (cs:=HH)),Option.bind_some];rfl
  simp only [GMb,GMc,boxQ,Tc,Ah,UY,n2,Au,List.length_nil,show ((0:Nat):Int)=0 from rfl,hb,hst,hld,IJ,FS,Hf,Option.map_some]
  rw [Vb]
  simp only [Cf,CQ,BN,Cd,FU,HH,DU,EN,ND,Ho,EL,B5,Option.map_some]
  rfl
 ·rw [q09_of L H hL hl h0]
  simp only [if_false,ne_eq,h0,not_false_eq_true,decide_true]
theorem bx_lb {L:List Nd} (hl:AE L=true):LB (bx L bxW)∧LB (bx L bxH):=by
 unfold bx
 by_cases h0:L=[]
 ·rw [if_pos h0,if_pos h0];exact ⟨LB_zero,LB_zero⟩
 ·rw [if_neg h0,if_neg h0]
  have hlen:0<L.length:=VC.2 h0
  have eW:=Kt nfW_lt hl hlen
  have eE:=Kt nfE_lt hl hlen
  have eN:=Kt nfN_lt hl hlen
  have eS:=Kt nfS_lt hl hlen
  have hle:(BM L).toNat≤1329:=Oh hl hlen (Va _)
  have key:∀a b:Int,0≤a→a<2^(BM L).toNat→0≤b→b<2^(BM L).toNat→LB (2^(BM L).toNat-(a+b)):=fun a b h1 h2 h3 h4=>by
   have hs:=GX (show (BM L).toNat≤1400 by omega)
   have ha:=JQ (BM L).toNat
   unfold SB at hs
   refine LB.of (k:=44) (VN ?_ hs) (by decide)
   generalize (2:Int)^(BM L).toNat=p at *
   omega
  exact ⟨key _ _ eW.1 eW.2 eE.1 eE.2,key _ _ eN.1 eN.2 eS.1 eS.2⟩
def NK (L:List Nd) (m:Int):Bool:=decide (bx L bxW≤m)&&decide (bx L bxH≤m)
theorem cmp_leq (a b:Int):decide (EP a b≤0)=decide (a≤b):=by
 unfold EP;rw [Vr]
 split
 ·simp;omega
 ·split
  ·simp;omega
  ·simp;omega
theorem LB_i64 {m:Int} (h0:-9223372036854775808≤m) (h1:m≤9223372036854775807):LB m:=LB.of (k:=3) (show m.natAbs<4294967296^3 by rw [show (4294967296:Nat)^3=79228162514264337593543950336 from by decide];omega) (by decide)
theorem q09_within (L:List Nd) (m:Int) (H:Aa) (hL:L.length<549755813888) (hl:AE L=true) (h0:-9223372036854775808≤m) (h1:m≤9223372036854775807) :
  Sh.f5i (CP L) (.int .i64 m) H=some (.ret (.bool (NK L m)),H):=by
 unfold Sh.f5i NK
 have q1:Ac true 1 (.ptr H.length 0 0) (H++[Blk.cel 0 (BD L)])=some (CP L):=QX Ap
 obtain ⟨b1,b2⟩:=bx_lb hl
 have hof:=fun H=>q02_of m H h0 h1
 have cW:=fun H=>Ge (bx L bxW) m H b1 (LB_i64 h0 h1)
 have cH:=fun H=>Ge (bx L bxH) m H b2 (LB_i64 h0 h1)
 simp only [GMb,GMc,boxQ,q1,q09_ofB L _ hL hl,B3,BB,Tc]
 generalize bx L bxX=x
 generalize bx L bxY=y
 generalize bx L bxW=w at *
 generalize bx L bxH=h at *
 generalize hB:H++[Blk.cel 0 (BD L)]=B
 have hst:Ag 8 (.ptr B.length 0 0) (QJ x y w h) (B++[Blk.cel 0 HH])=some (B++[Blk.cel 0 (Ni x y w h)]):=by
  simp only [Ag,AA (Ap (B:=B) (cs:=HH)),Option.bind_some,box_acells,B9 (Ap (B:=B) (cs:=HH)),Fz (cs:=HH) (sz:=8) rfl,Bh]
  rfl
 have g4:Ac true 2 (.ptr B.length 0 4) (B++[Blk.cel 0 (Ni x y w h)])=some (big w):=by
  simp only [Ac,AA (Ap (B:=B)),Option.bind_some];rfl
 have g6:Ac true 2 (.ptr B.length 0 6) (B++[Blk.cel 0 (Ni x y w h)])=some (big h):=by
  simp only [Ac,AA (Ap (B:=B)),Option.bind_some];rfl
 have fin:∀q:Bool,rP H (.bool q) (B++[Blk.cel 0 (Ni x y w h)])=some (.ret (.bool q),H):=fun q=>by rw [←hB,Vb];exact FB
 simp only [hst,GMb,GMc,hof,Ah,UY,g4,g6,and_true,eq_self,cW,cmp_leq]
 cases decide (w≤m)with
 | false=>simp only [GMb,GMc,Oz,and_true,eq_self,fin]
 | true=>simp only [GMb,GMc,hof,Ah,UY,g6,Ra,and_true,eq_self,cH,cmp_leq,fin]
section
variable {α:Type} {f:α→List Ab} {ty:TypeId} {sz:Nat}
def RS (f:α→List Ab) (ty:TypeId) (sz b:Nat) (out:List α) (v:Ab) (H:Aa):Prop:=(out=[]∧v=.sl [] .tight)∨∃t,b≤t∧v=.sl (enL f out) (.own t)∧H[t]? = some (.tok out.length ty sz)
theorem RS.sl {b:Nat} {out:List α} {v:Ab} {H:Aa} (h:RS f ty sz b out v H):∃tk,v=.sl (enL f out) tk:=by
 rcases h with ⟨rfl,rfl⟩ | ⟨t,_,rfl,_⟩
 ·exact ⟨_,rfl⟩
 ·exact ⟨_,rfl⟩
theorem RS.left {b:Nat} {out:List α} {v:Ab} {H:Aa} (h:RS f ty sz b out v H) (G:Aa):RS f ty sz b out v (H++G):=by
 rcases h with h1 | ⟨t,h1,h2,h3⟩
 ·exact .inl h1
 ·exact .inr ⟨t,h1,h2,A1 h3⟩
theorem RS.put {b p:Nat} {out:List α} {v:Ab} {H:Aa} {c c':List Ab} (h:RS f ty sz b out v H) (hp:H[p]? = some (.cel 0 c)):RS f ty sz b out v (H.set p (.cel 0 c')):=by
 rcases h with h1 | ⟨t,h1,h2,h3⟩
 ·exact .inl h1
 ·refine .inr ⟨t,h1,h2,?_⟩
  have:p≠t:=fun e=>by rw [←e,hp]at h3;cases h3
  rw [UX this];exact h3
theorem RS.snoc [hf:Sz f sz] {bytes b:Nat} {out:List α} {v:Ab} {H:Aa} (h:RS f ty sz b out v H) (hb:b≤H.length) (x:α) (tk:Tok) (hl:(out.length+1)*bytes≤140737488355328) (hl2:out.length+1≤140737488355328) :
  ∃v' H',AW ty sz bytes v (.sl (enL f [x]) tk) H=some (v',H')∧RS f ty sz b (out++[x]) v' H'∧Kp b H H':=by
 rcases h with ⟨rfl,rfl⟩ | ⟨t,h1,rfl,h3⟩
 ·have:=C4 (f:=f) (l:=[]) (m:=[x]) (ty:=ty) (bytes:=bytes) (tk:=tk) (H:=H) (by simp) (by simpa using hl) (by simp)
  exact ⟨_,_,this,.inr ⟨H.length,hb,rfl,by simp⟩,Kp.app hb _⟩
 ·have:=Em (f:=f) (l:=out) (m:=[x]) (ty:=ty) (bytes:=bytes) (tk:=tk) (H:=H) (t:=t) (by simp) h3 (by simpa using hl) (by simpa using hl2)
  have htl:=(UV.1 h3).1
  refine ⟨_,_,this,.inr ⟨t,h1,rfl,by simp [htl]⟩,⟨by simp,fun i cs hc=>?_,fun i hi=>?_⟩⟩
  ·have:t≠i:=fun e=>by rw [←e,h3]at hc;cases hc
   rw [UX this];exact hc
  ·rw [UX (by omega)]

end
def Io (b n:Int):List Ab:=[.int .i64 b,.int .i64 n]
def Ix (f:Int) (L:List Nd) (b:Int):Bool:=decide (f=5)||(NK L b&&(decide (f=4)||decide (Il L≤1)))
def I3 (f:Int) (rule:List UInt8) (L:List Nd) (b n:Int):Int:=
 if (decide (1≤f)&&decide (f≤5)&&(Hi rule&&Do L)&&Nv b n)=false then 1 else if Ix f L b=false then 5 else 0
theorem Gd {L:List Nd} (h:Do L=true):AE L=true:=by
 simp only [Do,Wa,decide_eq_true_eq,Vh]at h
 rcases h with h | h
 ·subst h;rfl
 ·exact h.1.1.1
theorem Qg (f:Int) (rule:List UInt8) (L:List Nd) (b n:Int) (H:Aa) (hL:L.length<549755813888) (hl:AE L=true) (h0:-9223372036854775808≤b) (h1:b≤9223372036854775807) :
  Sh.fn (.int .i64 f) (pat rule L) (.agg (Io b n)) H=some (.ret (.bool (Ix f L b)),H):=by
 unfold Sh.fn Ix
 have hbx:∀H,B8 true 2 (.agg (Io b n)) H=some (.ptr H.length 0 0,H++[.cel 0 (Io b n)]):=fun H=>Cm rfl rfl
 have e4:(H++[Blk.cel 0 (Fm rule L)]++[Blk.cel 0 (Io b n)])[H.length]? = some (.cel 0 (Fm rule L)):=by simp
 have g6:Ac false 1 (.ptr (H++[Blk.cel 0 (Fm rule L)]).length 0 0) (H++[Blk.cel 0 (Fm rule L)]++[Blk.cel 0 (Io b n)])=some (.int .i64 b):=by
  simp only [Ac,AA (Ap (B:=H++[Blk.cel 0 (Fm rule L)])),Option.bind_some];rfl
 have fin:∀q:Bool,rP H (.bool q) (H++[Blk.cel 0 (Fm rule L)]++[Blk.cel 0 (Io b n)])=some (.ret (.bool q),H):=fun q=>by rw [Vb];exact FB
 have hwi:=fun H=>q09_within L b H hL hl h0 h1
 have hmo:=fun H=>q08_mostZ H (show L.length<1152921504606846976 by omega) hl
 simp only [GMb,GMc,boxPat,hbx]
 by_cases h5:f=5
 ·simp only [h5,GMb,GMc,fin]
 ·simp only [h5,GMb,GMc,Ah,UY,Kk e4,g6,hwi]
  cases NK L b with
  | false=>simp only [GMb,GMc,fin]
  | true=>
   by_cases h4:f=4
   ·simp only [h4,GMb,GMc,fin]
   ·simp only [h4,GMb,GMc,Ah,UY,Kk e4,hmo,fin]
theorem q11_check (f:Int) (rule:List UInt8) (L:List Nd) (b n:Int) (H:Aa) (hr:rule.length<1152921504606846976) (hL:L.length<549755813888) (h0:-9223372036854775808≤b) (h1:b≤9223372036854775807) :
  Sh.f5k (.int .i64 f) (pat rule L) (.agg (Io b n)) H=some (.ret (.int .i64 (I3 f rule L b n)),H):=by
 unfold Sh.f5k I3
 have hbx:∀H,B8 true 2 (.agg (Io b n)) H=some (.ptr H.length 0 0,H++[.cel 0 (Io b n)]):=fun H=>Cm rfl rfl
 have e4:(H++[Blk.cel 0 (Fm rule L)]++[Blk.cel 0 (Io b n)])[H.length]? = some (.cel 0 (Fm rule L)):=by simp
 have g6:Ac true 2 (.ptr (H++[Blk.cel 0 (Fm rule L)]).length 0 0) (H++[Blk.cel 0 (Fm rule L)]++[Blk.cel 0 (Io b n)])=some (.agg (Io b n)):=by
  simp only [Ac,AA (Ap (B:=H++[Blk.cel 0 (Fm rule L)])),Option.bind_some];rfl
 have fin:∀q:Int,rP H (.int .i64 q) (H++[Blk.cel 0 (Fm rule L)]++[Blk.cel 0 (Io b n)])=some (.ret (.int .i64 q),H):=fun q=>by rw [Vb];exact Ii
 have hfm:=fun H=>q11_format f H
 have hrt:=fun H=>q11_right rule L H hr (by omega)
 have hfi:=fun H=>q11_fine b n H
 simp only [GMb,GMc,boxPat,hbx,hfm]
 cases hf:(decide (1≤f)&&decide (f≤5))with
 | false=>simp only [GMb,GMc,fin]
 | true=>
  simp only [GMb,GMc,MG e4,hrt]
  cases hq:(Hi rule&&Do L)with
  | false=>simp only [GMb,GMc,fin]
  | true=>
   have hl:AE L=true:=by
    simp only [Vh]at hq
    exact Gd hq.2
   have hex:=fun H=>Qg f rule L b n H hL hl h0 h1
   have hfi':∀H,Sh.f2w (.agg (Io b n)) H=some (.ret (.bool (Nv b n)),H):=hfi
   simp only [GMb,GMc,g6,hfi']
   cases Nv b n with
   | false=>simp only [GMb,GMc,fin]
   | true=>
    simp only [GMb,GMc,MG e4,g6,hex]
    cases Ix f L b with
    | false=>simp only [GMb,GMc,fin];rfl
    | true=>simp only [GMb,GMc,fin];rfl
theorem check_ok {f:Int} {rule:List UInt8} {L:List Nd} {b n:Int} (h:I3 f rule L b n=0) (hf:f≠5):AE L=true∧0≤b∧b≤1000∧NK L b=true∧Hi rule=true∧Do L=true:=by
 unfold I3 at h
 split at h
 ·cases h
 ·rename_i h1
  split at h
  ·cases h
  ·rename_i h2
   simp only [Bool.not_eq_false,Vh,Nv,Ix,decide_eq_true_eq,Wa]at h1 h2
   obtain ⟨⟨_,h3,h4⟩,h5⟩:=h1
   refine ⟨Gd h4,h5.1.1.1,h5.1.1.2,?_,h3,h4⟩
   rcases h2 with h2 | h2
   ·exact absurd h2 hf
   ·exact h2.1
theorem sb_lt10 {z:Int} {k m:Nat} (h:SB k z) (hk:10*k≤m):z.natAbs<10^m:=VR h (pow10_le hk)
theorem sb_dec {z:Int} (h:SB 44 z):z.natAbs<10^4096∧(DA z).length≤5000:=by
 have h1:z.natAbs<10^4096:=sb_lt10 (m:=4096) h (by decide)
 refine ⟨h1,?_⟩
 have:=PI 4096 z.natAbs h1
 simp only [show ¬((4096:Nat)=0)by decide,if_false]at this
 unfold DA
 split
 ·simp;omega
 ·omega
theorem u8_nat {n:Nat} (h:n<256):((UInt8.ofNat n).toNat:Int)=(n:Int):=by rw [Wy (show n<256 from h)]
theorem Qn {ι:Type} {G:ι→LK→LK} {σ:Type} (I:σ→List Ab→Aa→Prop) (μ:σ→Nat) (done:σ→Prop)
  (turn:∀(s:σ) (vs:List Ab) (H:Aa),I s vs H→¬done s→∃s' vs' H',μ s'<μ s∧I s' vs' H'∧∀(i:ι) (rec:LK),G i rec vs H=rec vs' H')
  {s:σ} {vs:List Ab} {H:Aa} (h0:I s vs H) (hm:μ s<1152921504606846976):∃s' vs' H',done s'∧I s' vs' H'∧∀i,∃rec,Ao (G i) AQ vs H=G i rec vs' H':=by
 have key:∀(n:Nat) (s:σ) (vs:List Ab) (H:Aa),μ s<n→I s vs H→∃s' vs' H',done s'∧I s' vs' H'∧∀i,∃rec,Ao (G i) n vs H=G i rec vs' H':=by
  intro n
  induction n with
  | zero=>intro s vs H hn _;omega
  | succ n ih=>
   intro s vs H hn hI
   by_cases hd:done s
   ·exact ⟨s,vs,H,hd,hI,fun i=>⟨Ao (G i) n,CF n vs H⟩⟩
   ·obtain ⟨s1,vs1,H1,h1,h2,h3⟩:=turn s vs H hI hd
    obtain ⟨s2,vs2,H2,h4,h5,h6⟩:=ih s1 vs1 H1 (by omega) h2
    exact ⟨s2,vs2,H2,h4,h5,fun i=>(h6 i).imp fun rec h7=>by rw [CF,h3,h7]⟩
 exact key AQ s vs H (by rw [Dv];exact hm) h0
theorem Ed {G:LK→LK} {σ:Type} (I:σ→List Ab→Aa→Prop) (μ:σ→Nat) (done:σ→Prop)
  (turn:∀(s:σ) (vs:List Ab) (H:Aa),I s vs H→¬done s→∃s' vs' H',μ s'<μ s∧I s' vs' H'∧∀rec:LK,G rec vs H=rec vs' H')
  {s:σ} {vs:List Ab} {H:Aa} (h0:I s vs H) (hm:μ s<1152921504606846976):∃s' vs' H',done s'∧I s' vs' H'∧∃rec,Ao G AQ vs H=G rec vs' H':=by
 obtain ⟨s',vs',H',h1,h2,h3⟩:=Qn (G:=fun (_:Unit)=>G) I μ done (fun s vs H hI hd=>by
  obtain ⟨s1,vs1,H1,h1,h2,h3⟩:=turn s vs H hI hd
  exact ⟨s1,vs1,H1,h1,h2,fun _=>h3⟩) h0 hm
 exact ⟨s',vs',H',h1,h2,h3 ()⟩
theorem Kp.get {b p:Nat} {H H':Aa} {cs:List Ab} (h:Kp b H H') (hp:H[p]? = some (.cel 0 cs)):H'[p]? = some (.cel 0 cs):=h.cel p cs hp
section
variable {p g:Nat} {f:Ab} {self:Ab→Ab→Ab→Ab→Ab→Aa→Out}
theorem Ox {i j:Nat} (hi:i<1000000000) (hj:j<1000000000):AK .u64 (.int .i64 ((i:Int)+(j:Int)))=some (.int .u64 ((i+j:Nat):Int))∧IntKind.i64.wrap ((i:Int)+(j:Int))=(i:Int)+(j:Int) ∧
  Ae .none .shr (.int .u64 ((i+j:Nat):Int)) (.int .u64 1)=some (.int .u64 (((i+j) / 2:Nat):Int))∧AK .i64 (.int .u64 (((i+j) / 2:Nat):Int))=some (.int .i64 (((i+j) / 2:Nat):Int)):=by
 refine ⟨?_,by rw [An] <;> omega,?_,?_⟩
 ·rw [B7]
  have:IntKind.u64.wrap ((i:Int)+(j:Int))=((i+j:Nat):Int):=by
   rw [show (i:Int)+(j:Int)=((i+j:Nat):Int)by omega]
   exact CD (by omega) (by omega)
  rw [this]
 ·have hs:Ae .none .shr (.int .u64 ((i+j:Nat):Int)) (.int .u64 1)=some (.int .u64 (Int.fdiv ((i+j:Nat):Int) (2^(min (1:Int).toNat IntKind.u64.bits)))):=rfl
  rw [hs,show (2:Int)^(min (1:Int).toNat IntKind.u64.bits)=2 from by decide,Xb _ (by omega)]
  congr 2
 ·rw [B7,wrap_nat (by omega)]
theorem sym_up {l:List Cl} {i a:Nat} {H0 H:Aa} (h:CO H p g l) (hi:i≤l.length) (ha:a<i) (hl:l.length<1000000000) :
  Ao (fun rec2 vs H1=>Sh.f1h H0 rec2 (ag vs 0) (ag vs 1) (ag vs 2) H1) AQ [dV p g l.length,.int .i64 (i:Int),.int .i64 (a:Int)] H=some (.ret (.tup []),BF H p g (upR a (i-1-a) l)):=by
 have hlen:∀k,(upR a k l).length=l.length:=fun k=>by
  induction k with
  | zero=>rfl
  | succ k ih=>unfold upR;rw [M3,ih]
 have key:=Cg (G:=fun rec2 vs H1=>Sh.f1h H0 rec2 (ag vs 0) (ag vs 1) (ag vs 2) H1) (i-1-a)
  (fun k=>[dV p g l.length,.int .i64 (i:Int),.int .i64 ((a+k:Nat):Int)]) (fun k=>BF H p g (upR a k l)) (some (.ret (.tup []),BF H p g (upR a (i-1-a) l))) (by omega) (fun rec k hk=>?_) (fun rec=>?_)
 ·rw [show upR a 0 l=l from rfl,C6 h]at key;exact key
 ·unfold Sh.f1h
  have hr:CO (BF H p g (upR a k l)) p g (upR a k l):=CT h
  have hln:=hlen k
  have hw:IntKind.i64.wrap ((i:Int)-1)=((i-1:Nat):Int):=by rw [An] <;> omega
  have hd:decide (((a+k:Nat):Int)<((i-1:Nat):Int))=true:=decide_eq_true (by omega)
  have hwk:=Aw (show a+k<9223372036854775807 by omega)
  have i1:a+k<(upR a k l).length:=by omega
  have i2:a+k+1<(upR a k l).length:=by omega
  obtain ⟨s1,s2⟩:=R4 hr i1 i2
  rw [Bx]at s1 s2
  rw [Bx]at s2
  simp only [Ak,Ai,Bc,Bg,GMb,GMc,hw,hd,hwk,BQ (show a+k<l.length by omega),BQ (show a+k+1<l.length by omega),Cv hr i1,Cv hr i2,BR,s1,s2,By,AV]
  rfl
 ·unfold Sh.f1h
  have hw:IntKind.i64.wrap ((i:Int)-1)=((i-1:Nat):Int):=by rw [An] <;> omega
  have hd:decide (((a+(i-1-a):Nat):Int)<((i-1:Nat):Int))=false:=decide_eq_false (by omega)
  simp only [Ak,Ai,Bc,Bg,GMb,GMc,hw,hd]
theorem sym_dn {l:List Cl} {i m:Nat} {H0 H:Aa} (h:CO H p g l) (hi:i≤m) (hm:m<l.length) (hl:l.length<1000000000) :
  Ao (fun rec4 vs H1=>Sh.f1j H0 rec4 (ag vs 0) (ag vs 1) (ag vs 2) H1) AQ [dV p g l.length,.int .i64 (i:Int),.int .i64 (m:Int)] H=some (.ret (.tup []),BF H p g (dnR m (m-i) l)):=by
 have hlen:∀k,(dnR m k l).length=l.length:=fun k=>by
  induction k with
  | zero=>rfl
  | succ k ih=>unfold dnR;rw [M3,ih]
 have key:=Cg (G:=fun rec4 vs H1=>Sh.f1j H0 rec4 (ag vs 0) (ag vs 1) (ag vs 2) H1) (m-i)
  (fun k=>[dV p g l.length,.int .i64 (i:Int),.int .i64 ((m:Int)-(k:Int))]) (fun k=>BF H p g (dnR m k l)) (some (.ret (.tup []),BF H p g (dnR m (m-i) l))) (by omega) (fun rec k hk=>?_) (fun rec=>?_)
 ·rw [show dnR m 0 l=l from rfl,C6 h,show (m:Int)-((0:Nat):Int)=(m:Int)by omega]at key;exact key
 ·unfold Sh.f1j
  have hr:CO (BF H p g (dnR m k l)) p g (dnR m k l):=CT h
  have hln:=hlen k
  have e:(m:Int)-(k:Int)=((m-k:Nat):Int):=by omega
  have e2:(m:Int)-((k+1:Nat):Int)=((m-k-1:Nat):Int):=by omega
  have hd:decide (((m-k:Nat):Int)>(i:Int))=true:=decide_eq_true (by omega)
  have hwk:IntKind.i64.wrap (((m-k:Nat):Int)-1)=((m-k-1:Nat):Int):=by rw [An] <;> omega
  have i1:m-k<(dnR m k l).length:=by omega
  have i2:m-k-1<(dnR m k l).length:=by omega
  obtain ⟨s1,s2⟩:=R4 hr i1 i2
  rw [Bx]at s1 s2
  rw [Bx]at s2
  simp only [Ak,Ai,Bc,Bg,GMb,GMc,e,e2,hd,hwk,BQ (show m-k<l.length by omega),BQ (show m-k-1<l.length by omega),Cv hr i1,Cv hr i2,BR,s1,s2,By,AV]
  rfl
 ·unfold Sh.f1j
  have e:(m:Int)-((m-i:Nat):Int)=(i:Int):=by omega
  have hd:decide ((i:Int)>(i:Int))=false:=decide_eq_false (by omega)
  simp only [Ak,Ai,Bc,Bg,GMb,GMc,e,hd]

end
section
variable {p g:Nat} {f:Ab} {self:Ab→Ab→Ab→Ab→Ab→Aa→Out} {l0:List Cl}
abbrev T8 (f:Ab) (l0:List Cl):Prop:=∀self,Ti (Bf self) f l0
theorem sym_l1 (hf:T8 f l0) {l:List Cl} {a m b:Nat} {H0 H:Aa} (h:CO H p g l) (hm:∀c∈l,c∈l0) (ha:a<l.length) (hmb:m≤b) (hb:b≤l.length) (hl:l.length<1000000000)
  (mono:∀c d,m≤c→c≤d→d<b→In ltC l d a=true→In ltC l c a=true) :
  ∃s,BsI (fun c=>In ltC l c a) m b s s∧Ao (fun rec1 vs H1=>Sh.f1i H0 self rec1 (ag vs 0) (ag vs 1) (ag vs 2) (ag vs 3) (ag vs 4) H1) AQ [dV p g l.length,.int .i64 (a:Int),f,.int .i64 (m:Int),.int .i64 (b:Int)] H =
   Ao (fun rec2 vs H1=>Sh.f1h H0 rec2 (ag vs 0) (ag vs 1) (ag vs 2) H1) AQ [dV p g l.length,.int .i64 (s:Int),.int .i64 (a:Int)] H:=by
 have key:=Ed (G:=fun rec1 vs H1=>Sh.f1i H0 self rec1 (ag vs 0) (ag vs 1) (ag vs 2) (ag vs 3) (ag vs 4) H1) (σ:=Nat×Nat)
  (fun s vs H1=>BsI (fun c=>In ltC l c a) m b s.1 s.2∧vs=[dV p g l.length,.int .i64 (a:Int),f,.int .i64 (s.1:Int),.int .i64 (s.2:Int)]∧H1=H) (fun s=>s.2-s.1) (fun s=>¬s.1<s.2) (fun s vs H1 hI hd=>?_)
  (s:=(m,b)) (vs:=[dV p g l.length,.int .i64 (a:Int),f,.int .i64 (m:Int),.int .i64 (b:Int)]) (H:=H) ⟨.start hmb,rfl,rfl⟩ (by dsimp only;omega)
 ·obtain ⟨⟨i,j⟩,vs,H1,hd,⟨hI,rfl,rfl⟩,rec,hloop⟩:=key
  dsimp only at hI hd hloop
  obtain ⟨q1,q2,q3⟩:=hI.le
  have e:j=i:=by omega
  subst e
  refine ⟨j,hI,?_⟩
  rw [hloop]
  have hd2:decide ((j:Int)<(j:Int))=false:=decide_eq_false (by omega)
  conv=>lhs;unfold Sh.f1i
  simp only [Ak,Ai,Bc,Bg,Bw,BG,GMb,GMc,hd2]
 ·obtain ⟨i,j⟩:=s
  obtain ⟨hI,rfl,rfl⟩:=hI
  dsimp only at hI hd ⊢
  obtain ⟨q1,q2,q3⟩:=hI.le
  have hij:i<j:=by omega
  obtain ⟨k,hk⟩:∃k,k=(i+j) / 2:=⟨_,rfl⟩
  obtain ⟨w1,w2,w3,w4⟩:=Ox (i:=i) (j:=j) (by omega) (by omega)
  rw [←hk]at w3 w4
  have hkl:k<l.length:=by omega
  have c1:=hf self l[k] (hm _ (Vi hkl)) l[a] (hm _ (Vi ha))
  have hd2:decide ((i:Int)<(j:Int))=true:=decide_eq_true (by omega)
  have hwk:=Aw (show k<9223372036854775807 by omega)
  have hlt:In ltC l k a=ltC l[k] l[a]:=QW hkl ha
  cases hc:ltC l[k] l[a]with
  | true=>
   refine ⟨(k+1,j),_,_,by dsimp only;omega,⟨hI.yes mono (by omega) (by omega) (by rw [hlt,hc]),rfl,rfl⟩,fun rec=>?_⟩
   unfold Sh.f1i
   simp only [Ak,Ai,Bc,Bg,Bw,BG,GMb,GMc,hd2,w1,w2,w3,w4,BQ hkl,BQ ha,Cv h hkl,Cv h ha,BR,c1,By,Ku,hc,hwk]
  | false=>
   refine ⟨(i,k),_,_,by dsimp only;omega,⟨hI.no mono (by omega) (by omega) (by rw [hlt,hc]),rfl,rfl⟩,fun rec=>?_⟩
   unfold Sh.f1i
   simp only [Ak,Ai,Bc,Bg,Bw,BG,GMb,GMc,hd2,w1,w2,w3,w4,BQ hkl,BQ ha,Cv h hkl,Cv h ha,BR,c1,By,Ku,hc]
theorem sym_l3 (hf:T8 f l0) {l:List Cl} {a m:Nat} {H0 H:Aa} (h:CO H p g l) (hm:∀c∈l,c∈l0) (ham:a≤m) (hml:m<l.length) (hl:l.length<1000000000)
  (mono:∀c d,a≤c→c≤d→d<m→(!In ltC l m d)=true→(!In ltC l m c)=true) :
  ∃s,BsI (fun c=>!In ltC l m c) a m s s∧Ao (fun rec3 vs H1=>Sh.f1k H0 self rec3 (ag vs 0) (ag vs 1) (ag vs 2) (ag vs 3) (ag vs 4) H1) AQ [dV p g l.length,.int .i64 (m:Int),f,.int .i64 (a:Int),.int .i64 (m:Int)] H =
   Ao (fun rec4 vs H1=>Sh.f1j H0 rec4 (ag vs 0) (ag vs 1) (ag vs 2) H1) AQ [dV p g l.length,.int .i64 (s:Int),.int .i64 (m:Int)] H:=by
 have key:=Ed (G:=fun rec3 vs H1=>Sh.f1k H0 self rec3 (ag vs 0) (ag vs 1) (ag vs 2) (ag vs 3) (ag vs 4) H1) (σ:=Nat×Nat)
  (fun s vs H1=>BsI (fun c=>!In ltC l m c) a m s.1 s.2∧vs=[dV p g l.length,.int .i64 (m:Int),f,.int .i64 (s.1:Int),.int .i64 (s.2:Int)]∧H1=H) (fun s=>s.2-s.1) (fun s=>¬s.1<s.2) (fun s vs H1 hI hd=>?_)
  (s:=(a,m)) (vs:=[dV p g l.length,.int .i64 (m:Int),f,.int .i64 (a:Int),.int .i64 (m:Int)]) (H:=H) ⟨.start ham,rfl,rfl⟩ (by dsimp only;omega)
 ·obtain ⟨⟨i,j⟩,vs,H1,hd,⟨hI,rfl,rfl⟩,rec,hloop⟩:=key
  dsimp only at hI hd hloop
  obtain ⟨q1,q2,q3⟩:=hI.le
  have e:j=i:=by omega
  subst e
  refine ⟨j,hI,?_⟩
  rw [hloop]
  have hd2:decide ((j:Int)<(j:Int))=false:=decide_eq_false (by omega)
  conv=>lhs;unfold Sh.f1k
  simp only [Ak,Ai,Bc,Bg,Bw,BG,GMb,GMc,hd2]
 ·obtain ⟨i,j⟩:=s
  obtain ⟨hI,rfl,rfl⟩:=hI
  dsimp only at hI hd ⊢
  obtain ⟨q1,q2,q3⟩:=hI.le
  have hij:i<j:=by omega
  obtain ⟨k,hk⟩:∃k,k=(i+j) / 2:=⟨_,rfl⟩
  obtain ⟨w1,w2,w3,w4⟩:=Ox (i:=i) (j:=j) (by omega) (by omega)
  rw [←hk]at w3 w4
  have hkl:k<l.length:=by omega
  have c1:=hf self l[m] (hm _ (Vi hml)) l[k] (hm _ (Vi hkl))
  have hd2:decide ((i:Int)<(j:Int))=true:=decide_eq_true (by omega)
  have hwk:=Aw (show k<9223372036854775807 by omega)
  have hlt:In ltC l m k=ltC l[m] l[k]:=QW hml hkl
  cases hc:ltC l[m] l[k]with
  | false=>
   refine ⟨(k+1,j),_,_,by dsimp only;omega,⟨hI.yes mono (by omega) (by omega) (by rw [hlt,hc];rfl),rfl,rfl⟩,fun rec=>?_⟩
   unfold Sh.f1k
   simp only [Ak,Ai,Bc,Bg,Bw,BG,GMb,GMc,hd2,w1,w2,w3,w4,BQ hkl,BQ hml,Cv h hkl,Cv h hml,BR,c1,By,Ku,hc,hwk]
  | true=>
   refine ⟨(i,k),_,_,by dsimp only;omega,⟨hI.no mono (by omega) (by omega) (by rw [hlt,hc];rfl),rfl,rfl⟩,fun rec=>?_⟩
   unfold Sh.f1k
   simp only [Ak,Ai,Bc,Bg,Bw,BG,GMb,GMc,hd2,w1,w2,w3,w4,BQ hkl,BQ hml,Cv h hkl,Cv h hml,BR,c1,By,Ku,hc]
def SymOk (p g:Nat) (f:Ab) (l0:List Cl) (self:Ab→Ab→Ab→Ab→Ab→Aa→Out) (n:Nat):Prop:=
 ∀(A U V B:List Cl) (H:Aa),U.length+V.length=n→CO H p g (A++(U++(V++B)))→0<U.length→0<V.length→En ltC U→En ltC V→(∀c∈A++(U++(V++B)),c∈l0)→(A++(U++(V++B))).length<1000000000 →
  ∃W,Srt ltC (U++V) W∧self (dV p g (A++(U++(V++B))).length) (.int .i64 (A.length:Int)) (.int .i64 ((A.length+U.length:Nat):Int)) (.int .i64 ((A.length+U.length+V.length:Nat):Int)) f H=some (.ret (.tup []),BF H p g (A++(W++B)))
theorem QQ {U V:List Cl} (hU:En ltC U) (hV:En ltC V) (h:U=[]∨V=[]):Srt ltC (U++V) (U++V):=by
 refine ⟨?_,.refl _,rfl⟩
 rcases h with rfl | rfl
 ·exact hV
 ·rw [V3];exact hU
theorem sym_j8 {H0 H:Aa} {A U V B:List Cl} {n:Nat} (hs:∀n',n'<n→SymOk p g f l0 self n') (hn:U.length+V.length<n) (h:CO H p g (A++(U++(V++B)))) (hU:En ltC U) (hV:En ltC V) (hm:∀c∈A++(U++(V++B)),c∈l0) (hl:(A++(U++(V++B))).length<1000000000) :
  ∃W,Srt ltC (U++V) W∧Sh.f40 H0 self (dV p g (A++(U++(V++B))).length) (.int .i64 ((A.length+U.length+V.length:Nat):Int)) f (.int .i64 (A.length:Int)) (.int .i64 ((A.length+U.length:Nat):Int)) H=some (.ret (.tup []),BF H p g (A++(W++B))):=by
 unfold Sh.f40
 by_cases h1:0<U.length
 ·have d1:decide ((A.length:Int)<((A.length+U.length:Nat):Int))=true:=decide_eq_true (by omega)
  by_cases h2:0<V.length
  ·have d2:decide (((A.length+U.length:Nat):Int)<((A.length+U.length+V.length:Nat):Int))=true:=decide_eq_true (by omega)
   obtain ⟨W,w1,w2⟩:=hs _ hn A U V B H rfl h h1 h2 hU hV hm hl
   refine ⟨W,w1,?_⟩
   simp only [GMb,GMc,d1,d2,w2]
  ·have d2:decide (((A.length+U.length:Nat):Int)<((A.length+U.length+V.length:Nat):Int))=false:=decide_eq_false (by omega)
   have hv:V=[]:=Vo (by omega)
   refine ⟨U++V,QQ hU hV (.inr hv),?_⟩
   simp only [GMb,GMc,d1,d2]
   rw [Vb,C6 h]
 ·have d1:decide ((A.length:Int)<((A.length+U.length:Nat):Int))=false:=decide_eq_false (by omega)
  have hu:U=[]:=Vo (by omega)
  refine ⟨U++V,QQ hU hV (.inl hu),?_⟩
  simp only [GMb,GMc,d1]
  rw [Vb,C6 h]
theorem sym_j7 {H0 H:Aa} {A U V U2 V2 B:List Cl} {n:Nat} (hs:∀n',n'<n→SymOk p g f l0 self n') (hn:U.length+V.length<n) (hn2:U2.length+V2.length<n) (h:CO H p g (A++(U++(V++(U2++(V2++B)))))) (hU:En ltC U) (hV:En ltC V) (hU2:En ltC U2) (hV2:En ltC V2)
  (hm:∀c∈A++(U++(V++(U2++(V2++B)))),c∈l0) (hl:(A++(U++(V++(U2++(V2++B))))).length<1000000000) :
  ∃W W2,Srt ltC (U++V) W∧Srt ltC (U2++V2) W2∧Sh.f41 H0 self (dV p g (A++(U++(V++(U2++(V2++B))))).length) (.int .i64 (A.length:Int)) (.int .i64 ((A.length+U.length+V.length+U2.length+V2.length:Nat):Int)) f (.int .i64 ((A.length+U.length+V.length:Nat):Int)) (.int .i64 ((A.length+U.length:Nat):Int)) (.int .i64 ((A.length+U.length+V.length+U2.length:Nat):Int)) H =
   some (.ret (.tup []),BF H p g (A++(W++(W2++B)))):=by
 have second:∀(W:List Cl) (G:Aa),Srt ltC (U++V) W→G=BF H p g (A++(W++(U2++(V2++B))))→∃W2,Srt ltC (U2++V2) W2∧Sh.f40 H0 self (dV p g (A++(U++(V++(U2++(V2++B))))).length) (.int .i64 ((A.length+U.length+V.length+U2.length+V2.length:Nat):Int)) f (.int .i64 ((A.length+U.length+V.length:Nat):Int)) (.int .i64 ((A.length+U.length+V.length+U2.length:Nat):Int)) G =
   some (.ret (.tup []),BF H p g (A++(W++(W2++B)))):=fun W G hW hG=>by
  have hWl:=hW.len
  rw [Vc]at hWl
  have e1:A++(W++(U2++(V2++B)))=(A++W)++(U2++(V2++B)):=by rw [Vb]
  have hlen:((A++W)++(U2++(V2++B))).length=(A++(U++(V++(U2++(V2++B))))).length:=by simp only [Vc];omega
  have hAW:(A++W).length=A.length+U.length+V.length:=by rw [Vc];omega
  have hr:CO G p g ((A++W)++(U2++(V2++B))):=by rw [hG,e1];exact CT h
  obtain ⟨W2,w1,w2⟩:=sym_j8 (H0:=H0) hs hn2 hr hU2 hV2 (fun c hc=>hm c (by
   rw [←e1]at hc
   simp only [Vt]at hc ⊢
   rcases hc with hc | hc | hc | hc | hc
   ·exact .inl hc
   ·have:=(hW.st.mem IA).2 hc
    rcases Vt.1 this with q | q
    ·exact .inr (.inl q)
    ·exact .inr (.inr (.inl q))
   ·exact .inr (.inr (.inr (.inl hc)))
   ·exact .inr (.inr (.inr (.inr (.inl hc))))
   ·exact .inr (.inr (.inr (.inr (.inr hc)))))) (by rw [hlen];exact hl)
  refine ⟨W2,w1,?_⟩
  rw [hlen,hAW]at w2
  rw [w2,hG,Bx,Vb]
 have d:∀t:Bool,True:=fun _=>trivial
 unfold Sh.f41
 by_cases h1:0<U.length
 ·have d1:decide ((A.length:Int)<((A.length+U.length:Nat):Int))=true:=decide_eq_true (by omega)
  by_cases h2:0<V.length
  ·have d2:decide (((A.length+U.length:Nat):Int)<((A.length+U.length+V.length:Nat):Int))=true:=decide_eq_true (by omega)
   obtain ⟨W,w1,w2⟩:=hs _ hn A U V (U2++(V2++B)) H rfl h h1 h2 hU hV hm hl
   obtain ⟨W2,w3,w4⟩:=second W _ w1 rfl
   refine ⟨W,W2,w1,w3,?_⟩
   simp only [Ak,Ai,Bc,Bg,Bw,BG,GMb,GMc,d1,d2,w2]
   exact w4
  ·have d2:decide (((A.length+U.length:Nat):Int)<((A.length+U.length+V.length:Nat):Int))=false:=decide_eq_false (by omega)
   have hv:V=[]:=Vo (by omega)
   have w1:=QQ hU hV (.inr hv)
   obtain ⟨W2,w3,w4⟩:=second (U++V) H w1 (by rw [Vb,C6 h])
   refine ⟨_,W2,w1,w3,?_⟩
   simp only [Ak,Ai,Bc,Bg,Bw,BG,GMb,GMc,d1,d2]
   exact w4
 ·have d1:decide ((A.length:Int)<((A.length+U.length:Nat):Int))=false:=decide_eq_false (by omega)
  have hu:U=[]:=Vo (by omega)
  have w1:=QQ hU hV (.inl hu)
  obtain ⟨W2,w3,w4⟩:=second (U++V) H w1 (by rw [Vb,C6 h])
  refine ⟨_,W2,w1,w3,?_⟩
  simp only [Ak,Ai,Bc,Bg,Bw,BG,GMb,GMc,d1]
  exact w4

end
section
variable {p g:Nat} {f:Ab} {l0:List Cl} {A B:List Cl}
theorem sym_l6 {self:Ab→Ab→Ab→Ab→Ab→Aa→Out} (hf:T8 f l0) {l:List Cl} {a m b mid n s0 r0 P:Nat} {H0 H:Aa} (h:CO H p g l) (hm:∀c∈l,c∈l0) (hsr:s0≤r0) (hr:r0≤l.length) (hP:∀c,s0≤c→c<r0→P-c<l.length∧c≤P) (hPl:P<2000000000) (hl:l.length<1000000000)
  (mono:∀c d,s0≤c→c≤d→d<r0→Rv ltC l P d=true→Rv ltC l P c=true) :
  ∃s,BsI (Rv ltC l P) s0 r0 s s∧∃rec,Ao (fun rec6 vs H1=>Sh.fe H0 self rec6 (ag vs 0) (ag vs 1) (ag vs 2) (ag vs 3) (ag vs 4) (ag vs 5) (ag vs 6) (ag vs 7) (ag vs 8) (ag vs 9) H1) AQ
    [dV p g l.length,.int .i64 (a:Int),.int .i64 (m:Int),.int .i64 (b:Int),f,.int .i64 (mid:Int),.int .i64 (n:Int),.int .i64 (s0:Int),.int .i64 (r0:Int),.int .i64 (P:Int)] H =
   Sh.fe H0 self rec (dV p g l.length) (.int .i64 (a:Int)) (.int .i64 (m:Int)) (.int .i64 (b:Int)) f (.int .i64 (mid:Int)) (.int .i64 (n:Int)) (.int .i64 (s:Int)) (.int .i64 (s:Int)) (.int .i64 (P:Int)) H:=by
 have key:=Ed (G:=fun rec6 vs H1=>Sh.fe H0 self rec6 (ag vs 0) (ag vs 1) (ag vs 2) (ag vs 3) (ag vs 4) (ag vs 5) (ag vs 6) (ag vs 7) (ag vs 8) (ag vs 9) H1) (σ:=Nat×Nat)
  (fun s vs H1=>BsI (Rv ltC l P) s0 r0 s.1 s.2∧vs=[dV p g l.length,.int .i64 (a:Int),.int .i64 (m:Int),.int .i64 (b:Int),f,.int .i64 (mid:Int),.int .i64 (n:Int),.int .i64 (s.1:Int),.int .i64 (s.2:Int),.int .i64 (P:Int)]∧H1=H) (fun s=>s.2-s.1) (fun s=>¬s.1<s.2) (fun s vs H1 hI hd=>?_)
  (s:=(s0,r0)) (vs:=[dV p g l.length,.int .i64 (a:Int),.int .i64 (m:Int),.int .i64 (b:Int),f,.int .i64 (mid:Int),.int .i64 (n:Int),.int .i64 (s0:Int),.int .i64 (r0:Int),.int .i64 (P:Int)]) (H:=H) ⟨.start hsr,rfl,rfl⟩ (by dsimp only;omega)
 ·obtain ⟨⟨i,j⟩,vs,H1,hd,⟨hI,rfl,rfl⟩,rec,hloop⟩:=key
  dsimp only at hI hd hloop
  obtain ⟨q1,q2,q3⟩:=hI.le
  have e:j=i:=by omega
  subst e
  exact ⟨j,hI,rec,hloop⟩
 ·obtain ⟨i,j⟩:=s
  obtain ⟨hI,rfl,rfl⟩:=hI
  dsimp only at hI hd ⊢
  obtain ⟨q1,q2,q3⟩:=hI.le
  have hij:i<j:=by omega
  obtain ⟨k,hk⟩:∃k,k=(i+j) / 2:=⟨_,rfl⟩
  obtain ⟨w1,w2,w3,w4⟩:=Ox (i:=i) (j:=j) (by omega) (by omega)
  rw [←hk]at w3 w4
  have hkl:k<l.length:=by omega
  obtain ⟨hPk,hkP⟩:=hP k (by omega) (by omega)
  have c1:=hf self l[P-k] (hm _ (Vi hPk)) l[k] (hm _ (Vi hkl))
  have hd2:decide ((i:Int)<(j:Int))=true:=decide_eq_true (by omega)
  have hwk:=Aw (show k<9223372036854775807 by omega)
  have hwp:IntKind.i64.wrap ((P:Int)-(k:Int))=((P-k:Nat):Int):=by rw [An] <;> omega
  have hlt:In ltC l (P-k) k=ltC l[P-k] l[k]:=QW hPk hkl
  have hp:Rv ltC l P k = !ltC l[P-k] l[k]:=by unfold Rv;rw [hlt]
  cases hc:ltC l[P-k] l[k]with
  | false=>
   refine ⟨(k+1,j),_,_,by dsimp only;omega,⟨hI.yes mono (by omega) (by omega) (by rw [hp,hc];rfl),rfl,rfl⟩,fun rec=>?_⟩
   unfold Sh.fe
   simp only [Ak,Ai,Bc,Bg,Bw,BG,GMb,GMc,hd2,w1,w2,w3,w4,hwp,BQ hkl,BQ hPk,Cv h hkl,Cv h hPk,BR,c1,By,Ku,hc,hwk]
  | true=>
   refine ⟨(i,k),_,_,by dsimp only;omega,⟨hI.no mono (by omega) (by omega) (by rw [hp,hc];rfl),rfl,rfl⟩,fun rec=>?_⟩
   unfold Sh.fe
   simp only [Ak,Ai,Bc,Bg,Bw,BG,GMb,GMc,hd2,w1,w2,w3,w4,hwp,BQ hkl,BQ hPk,Cv h hkl,Cv h hPk,BR,c1,By,Ku,hc]
theorem sym_step (hf:T8 f l0) {d n:Nat} (hs:∀n',n'<n→SymOk p g f l0 (Sh.f3 d) n'):SymOk p g f l0 (Sh.f3 (d+1)) n:=by
 intro A U V B H hn h hUp hVp hU hV hm hl
 obtain ⟨l,hL⟩:∃l,l=A++(U++(V++B)):=⟨_,rfl⟩
 have hlen:l.length=A.length+(U.length+(V.length+B.length)):=by rw [hL];simp only [Vc]
 have hl2:l.length<1000000000:=by rw [hL];exact hl
 show ∃W,_∧Sh.f6s (Sh.f3 d) _ _ _ _ _ H=_
 unfold Sh.f6s
 have hw1:IntKind.i64.wrap (((A.length+U.length:Nat):Int)-(A.length:Int))=(U.length:Int):=by rw [An] <;> omega
 by_cases h1:U.length=1
 ·obtain ⟨x,rfl⟩:=WR.1 h1
  have hd1:((([x]:List Cl).length:Int) == 1)=true:=by simp
  have hat:l[A.length]? = some x:=by rw [hL];simp
  have hltA:∀c,A.length+1≤c→c<A.length+1+V.length→∃hc:c-(A.length+1)<V.length,In ltC l c A.length=ltC V[c-(A.length+1)] x:=fun c h3 h4=>by
   have hc:c-(A.length+1)<V.length:=by omega
   refine ⟨hc,?_⟩
   have e:l[c]? = some V[c-(A.length+1)]:=by
    rw [hL,at_V rfl rfl (by simpa using h3) (by simpa using h4)];rfl
   unfold In
   rw [hat,e]
  obtain ⟨s,b1,b2⟩:=sym_l1 (self:=Sh.f3 d) (H0:=H) (a:=A.length) (m:=A.length+1) (b:=A.length+1+V.length) hf (l:=l) (by rw [hL];exact h) (by rw [hL];exact hm) (by rw [hlen];simp only [List.length_cons,List.length_nil];omega) (by omega) (by rw [hlen];simp only [List.length_cons,List.length_nil];omega) hl2 (fun c d hc1 hc2 hc3 hc4=>by
   obtain ⟨e1,e2⟩:=hltA c hc1 (by omega)
   obtain ⟨e3,e4⟩:=hltA d (by omega) hc3
   rw [e2]
   rw [e4]at hc4
   cases e:ltC V[c-(A.length+1)] x with
   | true=>rfl
   | false=>
    have:=Ha hV IA (i:=c-(A.length+1)) (j:=d-(A.length+1)) (by omega) e3
    have:=IA.neg _ _ _ this e
    rw [hc4]at this;cases this)
  obtain ⟨⟨g1,_,g2⟩,g3,g4⟩:=b1
  have hup:=sym_up (H0:=H) (p:=p) (g:=g) (l:=l) (i:=s) (a:=A.length) (H:=H) (by rw [hL];exact h) (by rw [hlen];simp only [List.length_cons,List.length_nil]at *;omega) (by omega) hl2
  have hres:=upR_ok A B x V (s-1-A.length) (by omega)
  refine ⟨V.take (s-1-A.length)++([x]++V.drop (s-1-A.length)),one_up IA hV (fun y hy=>?_) (fun y hy=>?_),?_⟩
  ·obtain ⟨i,hi,hi2,rfl⟩:=HK hy
   have:=g3 (A.length+1+i) (by omega) (by omega)
   obtain ⟨e1,e2⟩:=hltA (A.length+1+i) (by omega) (by omega)
   rw [e2]at this
   have e3:A.length+1+i-(A.length+1)=i:=by omega
   simp only [e3]at this
   exact this
  ·obtain ⟨i,hi,hi2,rfl⟩:=HL hy
   have:=g4 (A.length+1+i) (by omega) (by omega)
   obtain ⟨e1,e2⟩:=hltA (A.length+1+i) (by omega) (by omega)
   rw [e2]at this
   have e3:A.length+1+i-(A.length+1)=i:=by omega
   simp only [e3]at this
   exact this
  ·rw [←hL]
   simp only [GMb,GMc,hw1,hd1]
   have eb:A.length+([x]:List Cl).length=A.length+1:=rfl
   rw [eb,b2,hup,hL,hres]
 ·have hd1:((U.length:Int) == 1)=false:=by simp;omega
  have hw2:IntKind.i64.wrap (((A.length+U.length+V.length:Nat):Int)-((A.length+U.length:Nat):Int))=(V.length:Int):=by rw [An] <;> omega
  by_cases h2:V.length=1
  ·obtain ⟨y,rfl⟩:=WR.1 h2
   have hd2:((([y]:List Cl).length:Int) == 1)=true:=by simp
   have hat:l[A.length+U.length]? = some y:=by
    rw [hL,at_V rfl rfl (Va _) (by simp)];simp
   have hltA:∀c,A.length≤c→c<A.length+U.length→∃hc:c-A.length<U.length,In ltC l (A.length+U.length) c=ltC y U[c-A.length]:=fun c h3 h4=>by
    have hc:c-A.length<U.length:=by omega
    refine ⟨hc,?_⟩
    have e:l[c]? = some U[c-A.length]:=by rw [hL,at_U rfl h3 h4]
    unfold In
    rw [hat,e]
   obtain ⟨s,b1,b2⟩:=sym_l3 (self:=Sh.f3 d) (H0:=H) (a:=A.length) (m:=A.length+U.length) hf (l:=l) (by rw [hL];exact h) (by rw [hL];exact hm) (by omega) (by rw [hlen];simp only [List.length_cons,List.length_nil];omega) hl2 (fun c d hc1 hc2 hc3 hc4=>by
    obtain ⟨e1,e2⟩:=hltA c hc1 (by omega)
    obtain ⟨e3,e4⟩:=hltA d (by omega) hc3
    rw [e2]
    rw [e4]at hc4
    simp only [Wc]at hc4 ⊢
    have:=Ha hU IA (i:=c-A.length) (j:=d-A.length) (by omega) e3
    exact IA.neg _ _ _ hc4 this)
   obtain ⟨⟨g1,_,g2⟩,g3,g4⟩:=b1
   have hdn:=sym_dn (H0:=H) (p:=p) (g:=g) (l:=l) (i:=s) (m:=A.length+U.length) (H:=H) (by rw [hL];exact h) g2 (by rw [hlen];simp only [List.length_cons,List.length_nil];omega) hl2
   have hres:=dnR_ok A B y U (A.length+U.length-s) (by omega)
   have ek:U.length-(A.length+U.length-s)=s-A.length:=by omega
   rw [ek]at hres
   refine ⟨U.take (s-A.length)++([y]++U.drop (s-A.length)),one_dn IA hU (fun x hx=>?_) (fun x hx=>?_),?_⟩
   ·obtain ⟨i,hi,hi2,rfl⟩:=HK hx
    have:=g3 (A.length+i) (by omega) (by omega)
    obtain ⟨e1,e2⟩:=hltA (A.length+i) (by omega) (by omega)
    rw [e2]at this
    have e3:A.length+i-A.length=i:=by omega
    simp only [e3,Wc]at this
    exact this
   ·obtain ⟨i,hi,hi2,rfl⟩:=HL hx
    have:=g4 (A.length+i) (by omega) (by omega)
    obtain ⟨e1,e2⟩:=hltA (A.length+i) (by omega) (by omega)
    rw [e2]at this
    have e3:A.length+i-A.length=i:=by omega
    simp only [e3,XB]at this
    exact this
   ·rw [←hL]
    simp only [GMb,GMc,hw1,hw2,hd1,hd2]
    rw [b2,hdn,hL,hres]
  ·have hd2:((V.length:Int) == 1)=false:=by simp;omega
   obtain ⟨a,ha⟩:∃a,a=A.length:=⟨_,rfl⟩
   obtain ⟨m,hmm⟩:∃m,m=A.length+U.length:=⟨_,rfl⟩
   obtain ⟨b,hb⟩:∃b,b=A.length+U.length+V.length:=⟨_,rfl⟩
   obtain ⟨mid,hmid⟩:∃mid,mid=(a+b) / 2:=⟨_,rfl⟩
   obtain ⟨w1,w2,w3,w4⟩:=Ox (i:=a) (j:=b) (by omega) (by omega)
   rw [←hmid]at w3 w4
   have hw5:IntKind.i64.wrap ((mid:Int)+(m:Int))=((mid+m:Nat):Int):=by rw [An] <;> omega
   obtain ⟨s0,hs0⟩:∃s0,s0=if mid<m then mid+m-b else a:=⟨_,rfl⟩
   obtain ⟨r0,hr0⟩:∃r0,r0=if mid<m then mid else m:=⟨_,rfl⟩
   have hsr:s0≤r0∧r0≤m∧a≤s0∧mid+m≤s0+b∧r0≤mid:=by
    by_cases hc:mid<m
    ·rw [if_pos hc]at hs0 hr0;omega
    ·rw [if_neg hc]at hs0 hr0;omega
   obtain ⟨z1,z2,z3,z4,z5⟩:=hsr
   obtain ⟨s,b1,rec,b2⟩:=sym_l6 (self:=Sh.f3 d) (H0:=H) (a:=a) (m:=m) (b:=b) (mid:=mid) (n:=mid+m) (s0:=s0) (r0:=r0) (P:=mid+m-1) hf (l:=l) (H:=H) (by rw [hL];exact h) (by rw [hL];exact hm) z1 (by omega) (fun c h3 h4=>by omega) (by omega) (by rw [hL];exact hl)
    (fun c e h3 h4 h5 h6=>by
     rw [hL]at h6 ⊢
     exact symP_mono IA hU hV ha.symm (show a+U.length=m by omega) (by omega) h4 (by omega) (by omega) (by omega) h6)
   have b1':=b1
   rw [hL]at b1'
   obtain ⟨p1,p2,p3,p4,p5,p6,p7⟩:=sym_split IA hU hV ha.symm (show a+U.length=m by omega) (show m+V.length=b by omega) hmid hUp hVp hs0 hr0 b1'
   have l1:(U.take (s-a)).length=s-a:=by rw [Vm];omega
   have l2:(V.take (mid-s)).length=mid-s:=by rw [Vm];omega
   have l3:(U.drop (s-a)).length=m-s:=by rw [Vx];omega
   have l4:(V.drop (mid-s)).length=b-(mid+m-s):=by rw [Vx];omega
   have sU1:En ltC (U.take (s-a)):=Wn (XE _ _) hU
   have sU2:En ltC (U.drop (s-a)):=Wn (XG _ _) hU
   have sV1:En ltC (V.take (mid-s)):=Wn (XE _ _) hV
   have sV2:En ltC (V.drop (mid-s)):=Wn (XG _ _) hV
   have eU:U.take (s-a)++U.drop (s-a)=U:=VG _ _
   have eV:V.take (mid-s)++V.drop (mid-s)=V:=VG _ _
   have hmem:∀c,c∈A++(U.take (s-a)++(V.take (mid-s)++(U.drop (s-a)++(V.drop (mid-s)++B))))→c∈l0:=fun c hc=>hm c (by
    simp only [Vt]at hc ⊢
    rcases hc with q | q | q | q | q | q
    ·exact .inl q
    ·exact .inr (.inl (Wm q))
    ·exact .inr (.inr (.inl (Wm q)))
    ·exact .inr (.inl (WI q))
    ·exact .inr (.inr (.inl (WI q)))
    ·exact .inr (.inr (.inr q)))
   have hlen2:(A++(U.take (s-a)++(V.take (mid-s)++(U.drop (s-a)++(V.drop (mid-s)++B))))).length=l.length:=by
    rw [hlen];simp only [Vc,l1,l2,l3,l4];omega
   generalize U.take (s-a)=U1 at *
   generalize U.drop (s-a)=U2 at *
   generalize V.take (mid-s)=V1 at *
   generalize V.drop (mid-s)=V2 at *
   have rest:∀G,G=BF H p g (A++(U1++(V1++(U2++(V2++B)))))→∃W W2,Srt ltC (U1++V1) W∧Srt ltC (U2++V2) W2∧Sh.f41 H (Sh.f3 d) (dV p g l.length) (.int .i64 (a:Int)) (.int .i64 (b:Int)) f (.int .i64 (mid:Int)) (.int .i64 (s:Int)) (.int .i64 ((mid+m-s:Nat):Int)) G =
     some (.ret (.tup []),BF H p g (A++(W++(W2++B)))):=fun G hG=>by
    obtain ⟨W,W2,k1,k2,k3⟩:=sym_j7 (H0:=H) (H:=G) (p:=p) (g:=g) (f:=f) (l0:=l0) (A:=A) (U:=U1) (V:=V1) (U2:=U2) (V2:=V2) (B:=B) (n:=n) hs (by omega) (by omega) (by rw [hG];exact CT h) sU1 sV1 sU2 sV2 hmem (by rw [hlen2,hL];exact hl)
    refine ⟨W,W2,k1,k2,?_⟩
    rw [hlen2,←ha,show a+U1.length=s by omega,show s+V1.length=mid by omega,show mid+U2.length=mid+m-s by omega,show mid+m-s+V2.length=b by omega]at k3
    rw [k3,hG,Bx]
   have hwe:IntKind.i64.wrap (((mid+m:Nat):Int)-(s:Int))=((mid+m-s:Nat):Int):=by rw [An] <;> omega
   have hds:decide ((s:Int)<(s:Int))=false:=decide_eq_false (by omega)
   have hwp:IntKind.i64.wrap (((mid+m:Nat):Int)-1)=((mid+m-1:Nat):Int):=by rw [An] <;> omega
   have after:∃W W2,Srt ltC (U1++V1) W∧Srt ltC (U2++V2) W2∧Sh.fe H (Sh.f3 d) rec (dV p g l.length) (.int .i64 (a:Int)) (.int .i64 (m:Int)) (.int .i64 (b:Int)) f (.int .i64 (mid:Int)) (.int .i64 ((mid+m:Nat):Int)) (.int .i64 (s:Int)) (.int .i64 (s:Int)) (.int .i64 ((mid+m-1:Nat):Int)) H =
     some (.ret (.tup []),BF H p g (A++(W++(W2++B)))):=by
    by_cases t1:s<m
    ·have c1:decide ((s:Int)<(m:Int))=true:=decide_eq_true (by omega)
     by_cases t2:m<mid+m-s
     ·have c2:decide ((m:Int)<((mid+m-s:Nat):Int))=true:=decide_eq_true (by omega)
      have e1:l=(A++U1)++(U2++(V1++(V2++B))):=by
       rw [hL,←eU,←eV];simp only [Vb]
      have hrot:=rotate_ok (p:=p) (g:=g) (f:=f) (a:=s) (b:=mid+m-s) (m:=m) (A:=A++U1) (U:=U2) (V:=V1) (B:=V2++B) (H:=H) (by rw [←e1,hL];exact h) (by rw [Vc];omega) (by omega) (by omega) (by omega) (by omega) (by rw [←e1,hL];exact hl)
      rw [←e1]at hrot
      obtain ⟨W,W2,k1,k2,k3⟩:=rest _ rfl
      refine ⟨W,W2,k1,k2,?_⟩
      have e2:(A++U1)++((V1++U2)++(V2++B))=A++(U1++(V1++(U2++(V2++B)))):=by simp only [Vb]
      rw [e2]at hrot
      unfold Sh.fe
      simp only [Ak,Ai,Bc,Bg,Bw,BG,D5,GMb,GMc,hds,hwe,c1,c2,hrot]
      exact k3
     ·have c2:decide ((m:Int)<((mid+m-s:Nat):Int))=false:=decide_eq_false (by omega)
      have hv1:V1=[]:=Vo (by omega)
      obtain ⟨W,W2,k1,k2,k3⟩:=rest H (by
       rw [show A++(U1++(V1++(U2++(V2++B))))=A++(U++(V++B))by
        rw [←eU,←eV,hv1];simp only [Vb,List.nil_append],C6 h])
      refine ⟨W,W2,k1,k2,?_⟩
      unfold Sh.fe
      simp only [Ak,Ai,Bc,Bg,Bw,BG,D5,GMb,GMc,hds,hwe,c1,c2]
      exact k3
    ·have c1:decide ((s:Int)<(m:Int))=false:=decide_eq_false (by omega)
     have hu2:U2=[]:=Vo (by omega)
     obtain ⟨W,W2,k1,k2,k3⟩:=rest H (by
      rw [show A++(U1++(V1++(U2++(V2++B))))=A++(U++(V++B))by
       rw [←eU,←eV,hu2];simp only [Vb,List.nil_append,V3],C6 h])
     refine ⟨W,W2,k1,k2,?_⟩
     unfold Sh.fe
     simp only [Ak,Ai,Bc,Bg,Bw,BG,D5,GMb,GMc,hds,hwe,c1]
     exact k3
   obtain ⟨W,W2,k1,k2,k3⟩:=after
   have hsplit:Srt ltC (U++V) (W++W2):=by
    have l5:U.take U1.length=U1∧U.drop U1.length=U2:=by rw [←eU];exact ⟨Xk,Xo⟩
    have l6:V.take V1.length=V1∧V.drop V1.length=V2:=by rw [←eV];exact ⟨Xk,Xo⟩
    exact OV (i:=U1.length) (k:=V1.length) IA hU hV (by rw [l5.2,l6.1];exact p1) (by rw [l5.1,l6.2];exact p2) (by rw [l5.1,l6.1];exact k1) (by rw [l5.2,l6.2];exact k2)
   refine ⟨W++W2,hsplit,?_⟩
   rw [←hL,←hb,←hmm,←ha]
   rw [←hmm,show m+V.length=b by omega]at hw2
   rw [←hmm,←ha]at hw1
   have j5:∀x y:Nat,x=s0→y=r0→Sh.f6r H (Sh.f3 d) (dV p g l.length) (.int .i64 (a:Int)) (.int .i64 (m:Int)) (.int .i64 (b:Int)) f (.int .i64 (mid:Int)) (.int .i64 ((mid+m:Nat):Int)) (.int .i64 (x:Int)) (.int .i64 (y:Int)) H=some (.ret (.tup []),BF H p g (A++((W++W2)++B))):=fun x y hx hy=>by
    subst hx;subst hy
    unfold Sh.f6r
    simp only [GMb,GMc,hwp]
    rw [b2,k3,Vb]
   by_cases hc:mid<m
   ·have c3:decide ((m:Int)>(mid:Int))=true:=decide_eq_true (by omega)
    have hw6:IntKind.i64.wrap (((mid+m:Nat):Int)-(b:Int))=((mid+m-b:Nat):Int):=by
     rw [if_pos hc]at hs0
     rw [An] <;> omega
    simp only [Ak,Ai,Bc,Bg,Bw,BG,D5,GMb,GMc,hw1,hw2,hd1,hd2,w1,w2,w3,w4,hw5,c3,hw6]
    exact j5 _ _ (by rw [hs0,if_pos hc]) (by rw [hr0,if_pos hc])
   ·have c3:decide ((m:Int)>(mid:Int))=false:=decide_eq_false (by omega)
    simp only [Ak,Ai,Bc,Bg,Bw,BG,D5,GMb,GMc,hw1,hw2,hd1,hd2,w1,w2,w3,w4,hw5,c3]
    exact j5 _ _ (by rw [hs0,if_neg hc]) (by rw [hr0,if_neg hc])
theorem sym_all (hf:T8 f l0):∀d n,n<d→SymOk p g f l0 (Sh.f3 d) n
 | 0,n,h=>absurd h (by omega)
 | d+1,n,h=>sym_step hf fun n' hn'=>sym_all hf d n' (by omega)

end
theorem Stg.split {w n a:Nat} {l l':List Cl} (hw:0<w) (hd:w ∣ a) (hn:n≤w) (hl:a+n≤l.length) (h:Stg ltC w l a l') :
  ∃A,A.length=a∧l'=A++((l.drop a).take n++l.drop (a+n))∧(∀c∈A,c∈l)∧∀P2,Srt ltC ((l.drop a).take n) P2→Stg ltC w l (a+n) (A++(P2++l.drop (a+n))):=by
 obtain ⟨P,h1,hP,hst,hb⟩:=h.ex
 refine ⟨P,hP,?_,fun c hc=>?_,fun P2 h2=>?_⟩
 ·rw [h1]
  congr 1
  rw [←Wf,VG]
 ·exact Wm ((hst.mem IA).2 hc)
 ·have hlen:P2.length=n:=by rw [h2.len,Vm,Vx];omega
  refine ⟨P++P2,by rw [Vb],by rw [Vc,hP,hlen],?_,Nk.app hw (by rw [hP];exact hd) hb h2.srt (by omega)⟩
  rw [List.take_add]
  exact hst.app h2.st
theorem Stg.mem {w a:Nat} {l l':List Cl} (h:Stg ltC w l a l') {c:Cl} (hc:c∈l'):c∈l:=by
 obtain ⟨P,h1,hP,hst,hb⟩:=h.ex
 rw [h1]at hc
 rcases Vt.1 hc with q | q
 ·exact Wm ((hst.mem IA).2 q)
 ·exact WI q
section
variable {p g:Nat} {f:Ab} {l0:List Cl}
theorem Uv (hf:Ti AB f l0) {l L:List Cl} {a n w:Nat} {H:Aa} (h:CO H p g L) (hm:∀c∈l,c∈l0) (hst:Stg ltC w l a L) (hw:0<w) (hd:w ∣ a) (hn:n≤w) (hal:a+n≤l.length) (hl:l.length<1000000000) :
  ∃L',Stg ltC w l (a+n) L'∧Sh.fk (dV p g l.length) (.int .i64 (a:Int)) (.int .i64 ((a+n:Nat):Int)) f H=some (.ret (.tup []),BF H p g L'):=by
 have hlen:=hst.len (by omega)
 have hin:=ins_sort (a:=a) (b:=a+n) hf h (fun c hc=>hm c (hst.mem hc)) (by omega) (by omega) (by omega)
 rw [hlen]at hin
 obtain ⟨A,hA,hL,_,hP⟩:=hst.split hw hd hn hal
 by_cases h0:n=0
 ·subst h0
  refine ⟨L,?_,?_⟩
  ·rw [Nat.add_zero];exact hst
  ·rw [hin]
   congr 3
   rw [show a+0-a-1=0 by omega];rfl
 ·have hSl:((l.drop a).take n).length=n:=by rw [Vm,Vx];omega
  obtain ⟨P,q1,q2⟩:=insN_ok IA A (n-1) ((l.drop a).take n) (l.drop (a+n)) (by omega)
  refine ⟨_,hP P q2,?_⟩
  rw [hin,show a+n-a-1=n-1 by omega,←q1,←hL,hA]
theorem TH (hf:T8 f l0) {l L:List Cl} {a n bs:Nat} {H:Aa} (h:CO H p g L) (hm:∀c∈l,c∈l0) (hst:Stg ltC (2*bs) l a L) (hbs:0<bs) (hd:2*bs ∣ a) (hup:Nk ltC bs l) (hn:bs<n) (hn2:n≤2*bs) (hal:a+n≤l.length) (hl:l.length<1000000000) :
  ∃L',Stg ltC (2*bs) l (a+n) L'∧Sh.f3 AQ (dV p g l.length) (.int .i64 (a:Int)) (.int .i64 ((a+bs:Nat):Int)) (.int .i64 ((a+n:Nat):Int)) f H=some (.ret (.tup []),BF H p g L'):=by
 have hlen:=hst.len (by omega)
 obtain ⟨A,hA,hL,_,hP⟩:=hst.split (by omega) hd hn2 hal
 have hda:bs ∣ a:=Nat.dvd_trans ⟨2,by omega⟩ hd
 have sU:=hup.block hbs hda bs (Va _)
 have sV:=hup.block hbs (show bs ∣ a+bs from (XZ hda).2 (Nat.dvd_refl _)) (n-bs) (by omega)
 have hS:(l.drop a).take n=(l.drop a).take bs++(l.drop (a+bs)).take (n-bs):=by
  rw [show n=bs+(n-bs)by omega,List.take_add,Wf]
  congr 2;omega
 have lU:((l.drop a).take bs).length=bs:=by rw [Vm,Vx];omega
 have lV:((l.drop (a+bs)).take (n-bs)).length=n-bs:=by rw [Vm,Vx];omega
 rw [hS]at hL hP
 rw [Vb]at hL
 have hall:=sym_all (p:=p) (g:=g) hf AQ (((l.drop a).take bs).length+((l.drop (a+bs)).take (n-bs)).length) (by rw [Dv];omega) A ((l.drop a).take bs) ((l.drop (a+bs)).take (n-bs)) (l.drop (a+n)) H rfl (by rw [←hL];exact h) (by omega) (by omega) sU sV
  (fun c hc=>by rw [←hL]at hc;exact hm c (hst.mem hc)) (by rw [←hL,hlen];exact hl)
 obtain ⟨W,w1,w2⟩:=hall
 refine ⟨_,hP W w1,?_⟩
 rw [←hL,hlen,hA,lU,lV,show a+bs+(n-bs)=a+n by omega]at w2
 exact w2
theorem sym_round (hf:T8 f l0) {l:List Cl} {bs:Nat} {H0 H:Aa} (h:CO H p g l) (hm:∀c∈l,c∈l0) (hbs:0<bs) (hup:Nk ltC bs l) (hbn:bs<l.length) (hl:l.length<1000000000) :
  ∃L,Fh ltC l L∧Nk ltC (2*bs) L∧L.length=l.length∧∀rec2:LK,Ao (fun rec3 vs H1=>Sh.f1l H0 rec2 rec3 (ag vs 0) (ag vs 1) (ag vs 2) (ag vs 3) (ag vs 4) (ag vs 5) H1) AQ [dV p g l.length,.int .i64 (l.length:Int),f,.int .i64 (bs:Int),.int .i64 0,.int .i64 ((2*bs:Nat):Int)] H =
   rec2 [dV p g l.length,.int .i64 (l.length:Int),f,.int .i64 ((2*bs:Nat):Int)] (BF H p g L):=by
 have key:=Qn (ι:=LK) (G:=fun rec2 rec3 vs H1=>Sh.f1l H0 rec2 rec3 (ag vs 0) (ag vs 1) (ag vs 2) (ag vs 3) (ag vs 4) (ag vs 5) H1) (σ:=Nat×List Cl)
  (fun s vs H1=>Stg ltC (2*bs) l s.1 s.2∧2*bs ∣ s.1∧s.1≤l.length∧vs=[dV p g l.length,.int .i64 (l.length:Int),f,.int .i64 (bs:Int),.int .i64 (s.1:Int),.int .i64 ((s.1+2*bs:Nat):Int)]∧H1=BF H p g s.2) (fun s=>l.length-s.1) (fun s=>¬s.1+2*bs≤l.length) (fun s vs H1 hI hd=>?_)
  (s:=(0,l)) (vs:=[dV p g l.length,.int .i64 (l.length:Int),f,.int .i64 (bs:Int),.int .i64 0,.int .i64 ((2*bs:Nat):Int)]) (H:=H) ⟨.start _ _,Nat.dvd_zero _,Vy _,by simp,(C6 h).symm⟩ (by dsimp only;omega)
 ·obtain ⟨⟨a,L⟩,vs,H1,hd,⟨hst,hdv,hal,rfl,rfl⟩,hloop⟩:=key
  dsimp only at hst hdv hal hd hloop
  have hr:CO (BF H p g L) p g L:=CT h
  have d1:decide (((a+2*bs:Nat):Int)≤(l.length:Int))=false:=decide_eq_false (by omega)
  have hw1:IntKind.i64.wrap ((a:Int)+(bs:Int))=((a+bs:Nat):Int):=by rw [An] <;> omega
  have hw2:IntKind.i64.wrap ((bs:Int)*2)=((2*bs:Nat):Int):=by rw [An] <;> omega
  by_cases hmn:a+bs<l.length
  ·have d2:decide (((a+bs:Nat):Int)<(l.length:Int))=true:=decide_eq_true (by omega)
   obtain ⟨L',q1,q2⟩:=TH (n:=l.length-a) hf hr hm hst hbs hdv hup (by omega) (by omega) (by omega) hl
   rw [show a+(l.length-a)=l.length by omega]at q1 q2
   obtain ⟨r1,r2,r3⟩:=q1.all
   refine ⟨L',r1,r2,r3,fun rec2=>?_⟩
   obtain ⟨rec,hloop⟩:=hloop rec2
   rw [hloop]
   unfold Sh.f1l Sh.f6t
   simp only [Ak,Ai,Bc,Bg,Bw,BG,D5,GMb,GMc,d1,hw1,d2,q2,hw2,Bx]
  ·have d2:decide (((a+bs:Nat):Int)<(l.length:Int))=false:=decide_eq_false (by omega)
   obtain ⟨A,hA,hL,_,hP⟩:=hst.split (n:=l.length-a) (by omega) hdv (by omega) (by omega)
   have hda:bs ∣ a:=Nat.dvd_trans ⟨2,by omega⟩ hdv
   have q1:=hP _ ⟨hup.block hbs hda (l.length-a) (by omega),.refl _,rfl⟩
   rw [←hL,show a+(l.length-a)=l.length by omega]at q1
   obtain ⟨r1,r2,r3⟩:=q1.all
   refine ⟨L,r1,r2,r3,fun rec2=>?_⟩
   obtain ⟨rec,hloop⟩:=hloop rec2
   rw [hloop]
   unfold Sh.f1l Sh.f6t
   simp only [Ak,Ai,Bc,Bg,Bw,BG,D5,GMb,GMc,d1,hw1,d2,hw2]
 ·obtain ⟨a,L⟩:=s
  obtain ⟨hst,hdv,hal,rfl,rfl⟩:=hI
  dsimp only at hst hdv hal hd ⊢
  have hr:CO (BF H p g L) p g L:=CT h
  obtain ⟨L',q1,q2⟩:=TH (n:=2*bs) hf hr hm hst hbs hdv hup (by omega) (by omega) (by omega) hl
  have d1:decide (((a+2*bs:Nat):Int)≤(l.length:Int))=true:=decide_eq_true (by omega)
  have hw1:IntKind.i64.wrap ((a:Int)+(bs:Int))=((a+bs:Nat):Int):=by rw [An] <;> omega
  have hw2:IntKind.i64.wrap (2*(bs:Int))=((2*bs:Nat):Int):=by rw [An] <;> omega
  have hw3:IntKind.i64.wrap (((a+2*bs:Nat):Int)+((2*bs:Nat):Int))=((a+2*bs+2*bs:Nat):Int):=by rw [An] <;> omega
  refine ⟨(a+2*bs,L'),_,_,by dsimp only;omega,⟨q1,(XZ hdv).2 (Nat.dvd_refl _),by dsimp only;omega,rfl,rfl⟩,fun rec2 rec=>?_⟩
  unfold Sh.f1l
  simp only [Ak,Ai,Bc,Bg,Bw,BG,D5,GMb,GMc,d1,hw1,q2,hw2,hw3,Bx]
theorem stable_ok (hf1:Ti AB f l0) (hf2:T8 f l0) {l:List Cl} {H:Aa} (h:CO H p g l) (hm:∀c∈l,c∈l0) (hl:l.length<1000000000) :
  ∃S,En ltC S∧Fh ltC l S∧S.length=l.length∧Sh.f1m (dV p g l.length) (.int .i64 (l.length:Int)) f H=some (.ret (.tup []),BF H p g S):=by
 unfold Sh.f1m
 have rounds:∀(L:List Cl),Fh ltC l L→Nk ltC 20 L→L.length=l.length→∃S,En ltC S∧Fh ltC l S∧S.length=l.length ∧
   Ao (fun rec2 vs H1=>Sh.f13 H rec2 (ag vs 0) (ag vs 1) (ag vs 2) (ag vs 3) H1) AQ [dV p g l.length,.int .i64 (l.length:Int),f,.int .i64 20] (BF H p g L)=some (.ret (.tup []),BF H p g S):=fun L hL1 hL2 hL3=>by
  have key:=Ed (G:=fun rec2 vs H1=>Sh.f13 H rec2 (ag vs 0) (ag vs 1) (ag vs 2) (ag vs 3) H1) (σ:=Nat×List Cl)
   (fun s vs H1=>(Fh ltC l s.2∧Nk ltC s.1 s.2∧s.2.length=l.length∧0<s.1)∧vs=[dV p g l.length,.int .i64 (l.length:Int),f,.int .i64 (s.1:Int)]∧H1=BF H p g s.2) (fun s=>l.length-s.1) (fun s=>¬s.1<l.length) (fun s vs H1 hI hd=>?_)
   (s:=(20,L)) (vs:=[dV p g l.length,.int .i64 (l.length:Int),f,.int .i64 20]) (H:=BF H p g L) ⟨⟨hL1,hL2,hL3,Nat.succ_pos _⟩,rfl,rfl⟩ (by dsimp only;omega)
  ·obtain ⟨⟨bs,S⟩,vs,H1,hd,⟨⟨i1,i2,i3,i4⟩,rfl,rfl⟩,rec,hloop⟩:=key
   dsimp only at i1 i2 i3 i4 hd hloop
   have d1:decide ((bs:Int)<(l.length:Int))=false:=decide_eq_false (by omega)
   refine ⟨S,i2.whole (by omega),i1,i3,?_⟩
   rw [hloop]
   unfold Sh.f13
   simp only [Ak,Ai,Bc,Bg,Bw,GMb,GMc,d1]
  ·obtain ⟨bs,L⟩:=s
   obtain ⟨⟨i1,i2,i3,i4⟩,rfl,rfl⟩:=hI
   dsimp only at i1 i2 i3 i4 hd ⊢
   have hr:CO (BF H p g L) p g L:=CT h
   have d1:decide ((bs:Int)<(l.length:Int))=true:=decide_eq_true (by omega)
   have hw1:IntKind.i64.wrap (2*(bs:Int))=((2*bs:Nat):Int):=by rw [An] <;> omega
   obtain ⟨L',q1,q2,q3,q4⟩:∃L',Fh ltC L L'∧Nk ltC (2*bs) L'∧L'.length=L.length∧∀rec2:LK,Sh.f13 H rec2 (dV p g l.length) (.int .i64 (l.length:Int)) f (.int .i64 (bs:Int)) (BF H p g L)=rec2 [dV p g l.length,.int .i64 (l.length:Int),f,.int .i64 ((2*bs:Nat):Int)] (BF H p g L'):=by
    obtain ⟨L',q1,q2,q3,q4⟩:=sym_round (H0:=H) hf2 hr (fun c hc=>hm c ((i1.mem IA).2 hc)) i4 i2 (by omega) (by omega)
    rw [i3]at q4
    refine ⟨L',q1,q2,q3,fun rec2=>?_⟩
    unfold Sh.f13
    simp only [GMb,GMc,d1,hw1]
    rw [q4 rec2,Bx]
   refine ⟨(2*bs,L'),_,_,by dsimp only;omega,⟨⟨i1.trans q1,q2,by dsimp only;omega,by dsimp only;omega⟩,rfl,rfl⟩,fun rec=>?_⟩
   simp only [Ak,Ai,Bc,Bg,Bw]
   exact q4 rec
 have key:=Ed (G:=fun rec1 vs H1=>Sh.f29 H rec1 (ag vs 0) (ag vs 1) (ag vs 2) (ag vs 3) (ag vs 4) (ag vs 5) H1) (σ:=Nat×List Cl)
  (fun s vs H1=>(Stg ltC 20 l s.1 s.2∧20 ∣ s.1∧s.1≤l.length)∧vs=[dV p g l.length,.int .i64 (l.length:Int),f,.int .i64 20,.int .i64 (s.1:Int),.int .i64 ((s.1+20:Nat):Int)]∧H1=BF H p g s.2) (fun s=>l.length-s.1) (fun s=>¬s.1+20≤l.length) (fun s vs H1 hI hd=>?_)
  (s:=(0,l)) (vs:=[dV p g l.length,.int .i64 (l.length:Int),f,.int .i64 20,.int .i64 0,.int .i64 20]) (H:=H) ⟨⟨.start _ _,Nat.dvd_zero _,Vy _⟩,rfl,(C6 h).symm⟩ (by dsimp only;omega)
 ·obtain ⟨⟨a,L⟩,vs,H1,hd,⟨⟨hst,hdv,hal⟩,rfl,rfl⟩,rec,hloop⟩:=key
  dsimp only at hst hdv hal hd hloop
  have hr:CO (BF H p g L) p g L:=CT h
  obtain ⟨L',q1,q2⟩:=Uv (n:=l.length-a) hf1 hr hm hst (by decide) hdv (by omega) (by omega) hl
  rw [show a+(l.length-a)=l.length by omega]at q1 q2
  obtain ⟨r1,r2,r3⟩:=q1.all
  obtain ⟨S,s1,s2,s3,s4⟩:=rounds L' r1 r2 r3
  refine ⟨S,s1,s2,s3,?_⟩
  have d1:decide (((a+20:Nat):Int)≤(l.length:Int))=false:=decide_eq_false (by omega)
  rw [hloop]
  unfold Sh.f29
  simp only [Ak,Ai,Bc,Bg,Bw,BG,D5,GMb,GMc,d1,q2,Bx]
  exact s4
 ·obtain ⟨a,L⟩:=s
  obtain ⟨⟨hst,hdv,hal⟩,rfl,rfl⟩:=hI
  dsimp only at hst hdv hal hd ⊢
  have hr:CO (BF H p g L) p g L:=CT h
  obtain ⟨L',q1,q2⟩:=Uv (n:=20) hf1 hr hm hst (by decide) hdv (by omega) (by omega) hl
  have d1:decide (((a+20:Nat):Int)≤(l.length:Int))=true:=decide_eq_true (by omega)
  have hw3:IntKind.i64.wrap (((a+20:Nat):Int)+20)=((a+20+20:Nat):Int):=by rw [An] <;> omega
  refine ⟨(a+20,L'),_,_,by dsimp only;omega,⟨⟨q1,(XZ hdv).2 (Nat.dvd_refl _),by dsimp only;omega⟩,rfl,rfl⟩,fun rec=>?_⟩
  unfold Sh.f29
  simp only [Ak,Ai,Bc,Bg,Bw,BG,D5,GMb,GMc,d1,q2,hw3,Bx]

end
end Go.Gm
