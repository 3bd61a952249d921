/- Texts of this proof, joined. -/
import Derived.Test.YtagddbecnkbcdaaGreatJ4
import Derived.Test.YtagddbecnkbcdaaGreatJ5
import Derived.Test.YtagddbecnkbcdaaGreatJ6
import Derived.Test.YtagddbecnkbcdaaGreatJ7
set_option linter.unusedVariables false
set_option linter.unusedSimpArgs false
namespace Go.Gm
theorem p_of1 (r:RC) (hf:r.fits) (H:Aa):Sh.f4q (.agg (cRC r)) H=some (.ret (.bool (!r.right)),H):=by
 obtain ⟨f1,f2,f3,f4⟩:=hf
 have hb:Bz true 5 (.agg (cRC r)) H=some (.ptr H.length 0 0,H++[.cel 0 (cRC r)]):=Ct rfl rfl
 have e1:(H++[Blk.cel 0 (cRC r)])[H.length]? = some (.cel 0 (cRC r)):=Ap
 have l1:Ac true 2 (.ptr H.length 0 0) (H++[Blk.cel 0 (cRC r)])=some (.agg [.bool r.n1,.sl (enL cU r.l1) .no]):=by
  simp only [Ac,AE e1,Option.bind_some];rfl
 have l2:Ac true 2 (.ptr H.length 0 2) (H++[Blk.cel 0 (cRC r)])=some (.agg [.bool r.n2,.sl (enL cU r.l2) .no]):=by
  simp only [Ac,AE e1,Option.bind_some];rfl
 have r1:=fun K=>Vn r.n1 r.l1 .no K f3
 have r2:=fun K=>Vn r.n2 r.l2 .no K f4
 have fin:∀q:Bool,rP H (.bool q) (H++[Blk.cel 0 (cRC r)])=some (.ret (.bool q),H):=fun q=>Gp rfl (by simp)
 unfold Sh.f4q RC.right
 simp only [GMb,GMc,hb,Ah,Yy,l1,r1]
 cases Hv r.n1 r.l1 with
 | false=>simp only [GMb,GMc,Zt,fin,Z7]
 | true=>simp only [GMb,GMc,Zi,Ah,Yy,l2,r2,fin,Zu]
theorem Wn (l:List RC) (tk:Tok) (H:Aa) (hl:l.length<1000000000) (hf:∀r∈l,r.fits) :
  Sh.f2y (.sl (enL cRC l) tk) (.fn 84 []) H=some (.ret (.bool (!l.all RC.right)),H):=by
 have hcall:∀(r:RC),r∈l→∀K,D6 AF (.fn 84 []) [.agg (cRC r)] K=some (.ret (.bool (!r.right)),K):=fun r hr K=>by
  unfold AF
  rw [Uz (by decide),Ok,RI]
  exact p_of1 r (hf r hr) K
 have key:∃k:Int,Sh.fi (.sl (enL cRC l) tk) (.fn 84 []) H=some (.ret (.int .i64 k),H)∧decide (k≥0) = !l.all RC.right:=by
  unfold Sh.fi
  simp only [Aw,GMb,GMc]
  cases hall:l.all RC.right with
  | true=>
   refine ⟨-1,?_,rfl⟩
   refine Ca (G:=fun rec1 vs H1=>Sh.f10 H rec1 (ag vs 0) (ag vs 1) (ag vs 2) (ag vs 3) H1) l.length
    (fun i=>[.sl (enL cRC l) tk,.fn 84 [],.int .i64 (l.length:Int),.int .i64 (i:Int)]) (fun _=>H) _ (by omega) (fun rec i hi=>?_) (fun rec=>?_)
   ·have d1:decide ((i:Int)<(l.length:Int))=true:=decide_eq_true (by omega)
    have hr:l[i].right=true:=YH.1 hall _ (Y8 hi)
    have c1:=hcall l[i] (Y8 hi) H
    have hld:Ac true 5 (.cptr (cRC l[i]) 0) H=some (.agg (cRC l[i])):=rfl
    have hwi:=Av (show i<9223372036854775807 by omega)
    rw [hr]at c1
    unfold Sh.f10
    simp only [Al,Ai,Bb,Bf,B2,GMb,GMc,d1,Ay hi,hld,c1,hwi,Zi]
   ·have d1:decide ((l.length:Int)<(l.length:Int))=false:=decide_eq_false (by omega)
    unfold Sh.f10
    simp only [Al,Ai,Bb,Bf,B2,GMb,GMc,d1]
  | false=>
   obtain ⟨k,hk⟩:∃k,l.findIdx? (fun r=>!r.right)=some k:=by
    cases hq:l.findIdx? (fun r=>!r.right)with
    | some k=>exact ⟨k,rfl⟩
    | none=>
     rw [QaG]at hq
     rw [Qae]at hall
     obtain ⟨r,hr,h⟩:=hall
     have:=hq r hr
     cases hrr:r.right with
     | true=>exact absurd hrr h
     | false=>rw [hrr]at this;simp at this
   rw [Qaq]at hk
   obtain ⟨k1,k2,k3⟩:=hk
   refine ⟨k,?_,by simp⟩
   have loop:=Bk (G:=fun rec1 vs H1=>Sh.f10 H rec1 (ag vs 0) (ag vs 1) (ag vs 2) (ag vs 3) H1) (σ:=Nat) (fun i=>i≤k)
    (fun i=>[.sl (enL cRC l) tk,.fn 84 [],.int .i64 (l.length:Int),.int .i64 (i:Int)]) (fun _=>H) (fun i=>k-i) (fun _=>some (.ret (.int .i64 (k:Int)),H)) (fun i rec hi hrec=>?_) 0 (YL _) (by omega)
   ·exact loop
   ·have hil:i<l.length:=by omega
    have d1:decide ((i:Int)<(l.length:Int))=true:=decide_eq_true (by omega)
    have c1:=hcall l[i] (Y8 hil) H
    have hld:Ac true 5 (.cptr (cRC l[i]) 0) H=some (.agg (cRC l[i])):=rfl
    have hwi:=Av (show i<9223372036854775807 by omega)
    unfold Sh.f10
    rcases Zf i k with h | h
    ·have:=k3 i h
     have hr:l[i].right=true:=by simpa using this
     rw [hr]at c1
     simp only [Al,Ai,Bb,Bf,B2,GMb,GMc,d1,Ay hil,hld,c1,hwi,Zi]
     exact hrec (i+1) (by omega) (by omega)
    ·obtain rfl:i=k:=by omega
     have hr:(!l[i].right)=true:=k2
     rw [hr]at c1
     simp only [Al,Ai,Bb,Bf,B2,GMb,GMc,d1,Ay hil,hld,c1]
 obtain ⟨k,e1,e2⟩:=key
 unfold Sh.f2y
 simp only [GMb,GMc,e1,e2]
theorem fold_max (a b c:Nat):HM JK (.int .i64 (a:Int)) [.int .i64 (b:Int),.int .i64 (c:Int)]=some (.int .i64 ((max a (max b c):Nat):Int)):=by
 have m:∀x y:Nat,JK (.int .i64 (x:Int)) (.int .i64 (y:Int))=some (.int .i64 ((max x y:Nat):Int)):=fun x y=>by
  unfold JK
  by_cases h:(y:Int)>(x:Int)
  ·simp only [if_pos h];congr 2;omega
  ·simp only [if_neg h];congr 2;omega
 simp only [HM,m,Option.bind_some]
 congr 2;omega
def bxC (l:List Cl):Aa:=l.map fun c=>Blk.cel 0 (cCl c)
theorem bxC_snoc (l:List Cl) (c:Cl):bxC (l++[c])=bxC l++[.cel 0 (cCl c)]:=by simp [bxC]
theorem box5 (H:Aa) (c:Cl):Af 5 (.ptr H.length 0 0) (.agg (cCl c)) (H++[.cel 0 [.bool false,.sl [] .tight,.bool false,.sl [] .tight,.int .u8 0]])=some (H++[.cel 0 (cCl c)]):=by
 rw [FZ (sz:=5) (ws:=cCl c) Ap rfl rfl rfl,Bd]
theorem ldX (H:Aa) (c:Cl):Ac true 2 (.ptr H.length 0 0) (H++[.cel 0 (cCl c)])=some (big c.x)∧Ac true 2 (.ptr H.length 0 2) (H++[.cel 0 (cCl c)])=some (big c.y)∧Ac false 1 (.ptr H.length 0 4) (H++[.cel 0 (cCl c)])=some (.int .u8 (c.s.toNat:Int)):=by
 refine ⟨?_,?_,?_⟩ <;> (simp only [Ac,AE Ap,Option.bind_some];rfl)
theorem need_turn {l:List Cl} {tk:Tok} {H K:Aa} {x2 x14:Ab} {i:Nat} (hi:i<l.length) (hok:∀c∈l,c.ok) (hl:l.length<1000000000) (rec:LK) :
  Sh.f3t H rec x2 x14 (.int .i64 (En l i:Int)) (.sl (enL cCl l) tk) (.int .i64 (l.length:Int)) (.int .i64 (i:Int)) (K++bxC (l.take i))=rec [x2,x14,.int .i64 (En l (i+1):Int),.sl (enL cCl l) tk,.int .i64 (l.length:Int),.int .i64 ((i+1:Nat):Int)] (K++bxC (l.take (i+1))):=by
 have d1:decide ((i:Int)<(l.length:Int))=true:=decide_eq_true (by omega)
 have hwi:=Av (show i<9223372036854775807 by omega)
 have hc:=hok _ (Y8 hi)
 have hld:∀G,Ac true 5 (.cptr (cCl l[i]) 0) G=some (.agg (cCl l[i])):=fun _=>rfl
 have hal:∀G:Aa,Ax (some [(.bool false),(.sl [] .tight),(.bool false),(.sl [] .tight),(.int .u8 0)]) G=some (.ptr G.length 0 0,G++[.cel 0 [.bool false,.sl [] .tight,.bool false,.sl [] .tight,.int .u8 0]]):=fun G=>alloc_eq rfl
 have n1:=fun G=>p_need (z:=l[i].x) G (hc.1.lb (by decide)) hc.1
 have n2:=fun G=>p_need (z:=l[i].y) G (hc.2.lb (by decide)) hc.2
 have hn:En l (i+1)=max (En l i) (max (Rb l[i].x) (Rb l[i].y)):=by
  simp only [En,Yu hi,Ti]
 have hbx:K++bxC (l.take (i+1))=(K++bxC (l.take i))++[.cel 0 (cCl l[i])]:=by
  rw [Y5 hi,bxC_snoc,Y1]
 obtain ⟨l1,l2,l3⟩:=ldX (K++bxC (l.take i)) l[i]
 have hfm:=fold_max (En l i) (Rb l[i].x) (Rb l[i].y)
 unfold Rb at hfm hn
 rw [hbx,hn]
 generalize K++bxC (l.take i)=G at *
 have b5:=box5 G l[i]
 unfold Sh.f3t
 simp only [GMb,GMc,d1,Ay hi,hld,hal,b5,AL,Ah,Yy,l1,l2,n1,n2,hfm,hwi,BN,and_self,GI]
set_option exponentiation.threshold 5000
theorem build_spot (p:Sp):A2 (some [(.sl [] .tight),(.sl [] .tight),(.int .u8 0)]) [(0,1,.sl (enL cU (A4 p.a)) .no),(1,1,.sl (enL cU (A4 p.b)) .no),(2,1,.int .u8 (p.s.toNat:Int))]=some (.agg (cSp p)):=by
 simp [A2,Gu,DF,cSp]
theorem fld_big (z:Int):SH false 1 1 (big z)=some (.sl (enL cU (A4 z.natAbs)) .no):=rfl
theorem spot_turn {L:List Cl} {tk:Tok} {H Hc:Aa} {x50 x51 w:Ab} {b ph i n:Nat} (hi:i<L.length) (hok:∀c∈L,c.ok) (hl:L.length<1000000000) (hn:n≤1400) (hin:∀c∈L,0≤c.x+2^n∧0≤c.y+2^n)
  (hb:b≤Hc.length) (hR:RS cSp BO 3 b ((L.take i).map (spot (2^n))) w Hc) (hp:Hc[ph]? = some (.cel 0 (A6 (2^n)))) :
  ∃w' Hd,(∀rec:LK,Sh.f51 H rec x50 x51 (.ptr ph 0 0) w (.sl (enL cCl L) tk) (.int .i64 (L.length:Int)) (.int .i64 (i:Int)) Hc=rec [x50,x51,.ptr ph 0 0,w',.sl (enL cCl L) tk,.int .i64 (L.length:Int),.int .i64 ((i+1:Nat):Int)] Hd) ∧
   RS cSp BO 3 b ((L.take (i+1)).map (spot (2^n))) w' Hd∧Kp b Hc Hd:=by
 have d1:decide ((i:Int)<(L.length:Int))=true:=decide_eq_true (by omega)
 have hwi:=Av (show i<9223372036854775807 by omega)
 have hc:=hok _ (Y8 hi)
 have hz:=hin _ (Y8 hi)
 have hld:∀G,Ac true 5 (.cptr (cCl L[i]) 0) G=some (.agg (cCl L[i])):=fun _=>rfl
 have hal:∀G:Aa,Ax (some [(.bool false),(.sl [] .tight),(.bool false),(.sl [] .tight),(.int .u8 0)]) G=some (.ptr G.length 0 0,G++[.cel 0 [.bool false,.sl [] .tight,.bool false,.sl [] .tight,.int .u8 0]]):=fun G=>alloc_eq rfl
 have hp44:SB 44 (2^n):=Hz hn
 have a1:=fun G=>p_addB (a:=L[i].x) (b:=2^n) G (hc.1.lb (by decide)) (hp44.lb (by decide))
 have a2:=fun G=>p_addB (a:=L[i].y) (b:=2^n) G (hc.2.lb (by decide)) (hp44.lb (by decide))
 obtain ⟨l1,l2,l3⟩:=ldX Hc L[i]
 have lh:Ac true 2 (.ptr ph 0 0) (Hc++[.cel 0 (cCl L[i])])=some (big (2^n)):=AW (A1 hp)
 have b5:=box5 Hc L[i]
 have hR1:=hR.left [Blk.cel 0 (cCl L[i])]
 obtain ⟨w',H2,r1,r2,r3⟩:=hR1.snoc (bytes:=56) (by simp;omega) (spot (2^n) L[i]) .tight (by simp;omega) (by simp;omega)
 have hbs:A2 (some [(.sl [] .tight),(.sl [] .tight),(.int .u8 0)]) [(0,1,.sl (enL cU (A4 (L[i].x+2^n).natAbs)) .no),(1,1,.sl (enL cU (A4 (L[i].y+2^n).natAbs)) .no),(2,1,.int .u8 (L[i].s.toNat:Int))]=some (.agg (cSp (spot (2^n) L[i]))):=by
  have e1:(L[i].x+2^n).natAbs=(spot (2^n) L[i]).a:=by unfold spot;dsimp only;omega
  have e2:(L[i].y+2^n).natAbs=(spot (2^n) L[i]).b:=by unfold spot;dsimp only;omega
  rw [e1,e2]
  exact build_spot _
 have hmap:(L.take (i+1)).map (spot (2^n))=(L.take i).map (spot (2^n))++[spot (2^n) L[i]]:=by
  rw [Y5 hi,List.map_append];rfl
 rw [hmap]
 refine ⟨w',H2,fun rec=>?_,r2,(Kp.app hb _).trans r3⟩
 unfold Sh.f51
 simp only [GMb,GMc,d1,Ay hi,hld,hal,b5,AL,Ah,Yy,l1,l2,l3,lh,a1,a2,fld_big,hbs,O8,r1,hwi,BN,and_self,GI]
theorem p_cellsOf (l:List RC) (tk:Tok) (H:Aa) (hl:l.length<700000000) (hf:∀r∈l,r.fits) (hs:∀r∈l,r.right=true→r.cl.ok) :
  Sh.f2b (.sl (enL cRC l) tk) H=some (.ret (if l.all RC.right then .tup [El (HV (l.map RC.cl)).1,.int .i64 (HV (l.map RC.cl)).2]else .tup [El [],.int .i64 1]),H):=by
 have hcw:=fun K=>Wn l tk K (by omega) hf
 have hal:Ax (some [(.sl [] .tight)]) H=some (.ptr H.length 0 0,H++[.cel 0 [.sl [] .tight]]):=alloc_eq rfl
 unfold Sh.f2b
 simp only [GMb,GMc,hal,hcw]
 cases hr:l.all RC.right with
 | false=>
  simp only [GMb,GMc,Zt,QT,Y4,if_false]
 | true=>
  have hrr:∀r∈l,r.right=true:=YH.1 hr
  have hcl:∀c∈l.map RC.cl,c.ok:=fun c hc=>by
   obtain ⟨r,h1,rfl⟩:=ZQ.1 hc
   exact hs r h1 (hrr r h1)
  rw [enL_RC hrr hf]
  generalize hL:l.map RC.cl=L at hcl
  have hLl:L.length<700000000:=by rw [←hL];simpa using hl
  have hla:=fun K=>p_last L tk K (by omega) hcl
  simp only [GMb,GMc,Zi,hla,Aw,of07_eq,if_true]
  have hsm:∀c∈CV L,c.ok:=fun c hc=>hcl c (XL hc)
  have hsl:=XM L
  generalize CV L=S at hsm hsl
  refine Eq.trans ?hd (Ca (G:=fun rec1 vs H1=>Sh.f3t H rec1 (ag vs 0) (ag vs 1) (ag vs 2) (ag vs 3) (ag vs 4) (ag vs 5) H1) S.length
   (fun i=>[.ptr H.length 0 0,.sl (enL cCl S) .no,.int .i64 (En S i:Int),.sl (enL cCl S) .no,.int .i64 (S.length:Int),.int .i64 (i:Int)]) (fun i=>H++[.cel 0 [.sl [] .tight]]++bxC (S.take i))
   (some (.ret (.tup [El (V3 S).1,.int .i64 (V3 S).2]),H)) (by omega) (fun rec i hi=>?_) (fun rec=>?_))
  case hd=>
   have e0:H++[Blk.cel 0 [.sl [] .tight]]++bxC (S.take 0)=H++[Blk.cel 0 [.sl [] .tight]]:=by simp [bxC]
   rw [e0]
   rfl
  ·exact need_turn hi hsm (by omega) rec
  ·have hlv:=levelOf_need S
   have d1:decide ((S.length:Int)<(S.length:Int))=false:=decide_eq_false (by omega)
   have h1n:1≤En S S.length:=by rw [Sk];omega
   rw [YY]
   unfold V3
   by_cases hv:1329<En S S.length
   ·have hv':decide ((En S S.length:Int)>1329)=true:=decide_eq_true (by omega)
    rw [if_pos (by omega)]
    have hbe:A2 (some [(.sl [] .tight)]) []=some (.agg [.sl (enL cNd []) .tight]):=rfl
    have qt:=Iw (H:=H) (Hq:=H++[.cel 0 [.sl [] .tight]]++bxC S) (tk:=.tight) (Q:=[]) (e:=4) (by rw [Y1];simp) (fun i hi=>by rw [Y1,Yx hi])
    unfold Sh.f3t
    simp only [Al,Ai,Bb,Bf,B2,BK,D8,GMb,GMc,d1,hv',hbe]
    exact qt
   ·have hv':decide ((En S S.length:Int)>1329)=false:=decide_eq_false (by omega)
    have hle:Bh S≤1329:=by omega
    have hlev:Bh S=En S S.length:=by omega
    rw [if_neg (by omega)]
    have hsq:∀c∈S,InSq (Bh S) (-(2^(Bh S-1))) (-(2^(Bh S-1))) c:=fun c hc=>within_sq (by omega) (level_in hle c hc)
    rw [hlev]at hsq
    rw [hlev]
    obtain ⟨n,hn⟩:∃n,En S S.length=n+1:=⟨En S S.length-1,by omega⟩
    rw [hn,YM]at hsq ⊢
    have hin:∀c∈S,0≤c.x+2^n∧0≤c.y+2^n:=fun c hc=>by
     obtain ⟨q1,q2,q3,q4⟩:=hsq c hc
     generalize (2:Int)^n=P at *
     omega
    have hlp:=XK (h:=2^n) (n+1) [] (-(2^n)) (-(2^n)) S 0 0 0 0 (by simp;omega) (by simp;omega) rfl rfl hsq
    have hwn:IntKind.i64.wrap (((n+1:Nat):Int)-1)=(n:Int):=by rw [Am] <;> omega
    have hpow:=fun G=>p_pow (m:=n) (by omega) G
    have s1:∀B:Aa,Af 2 (.ptr B.length 0 0) (big (2^n)) (B++[.cel 0 [.bool false,.sl [] .tight]])=some (B++[.cel 0 (A6 (2^n))]):=fun B=>by rw [Cu (Ap (B:=B)) rfl,Bd]
    obtain ⟨B,hB⟩:∃B,B=H++[.cel 0 [.sl [] .tight]]++bxC S:=⟨_,rfl⟩
    have hBH:B[H.length]? = some (.cel 0 [.sl [] .tight]):=by rw [hB,Y1];simp
    have hBo:∀i,i<H.length→B[i]? = H[i]? := fun i hi=>by rw [hB,Y1,Yx hi]
    have hBl:H.length<B.length:=(Yw.1 hBH).1
    rw [←hB]
    have loop:=GB (G:=fun rec2 vs H1=>Sh.f51 H rec2 (ag vs 0) (ag vs 1) (ag vs 2) (ag vs 3) (ag vs 4) (ag vs 5) (ag vs 6) H1) S.length
     (fun i vs Hc=>∃w,vs=[.ptr H.length 0 0,.int .i64 ((n+1:Nat):Int),.ptr B.length 0 0,w,.sl (enL cCl S) .no,.int .i64 (S.length:Int),.int .i64 (i:Int)]∧RS cSp BO 3 B.length ((S.take i).map (spot (2^n))) w Hc∧Kp B.length (B++[.cel 0 (A6 (2^n))]) Hc)
     (by omega) (fun i vs Hc hi hI=>?_) (vs:=[.ptr H.length 0 0,.int .i64 ((n+1:Nat):Int),.ptr B.length 0 0,.sl [] .tight,.sl (enL cCl S) .no,.int .i64 (S.length:Int),.int .i64 0]) (H:=B++[.cel 0 (A6 (2^n))])
     ⟨_,rfl,.inl ⟨rfl,rfl⟩,Kp.refl _ _⟩
    ·obtain ⟨vs,Hc,⟨w,rfl,hR,hK⟩,rec2,hloop⟩:=loop
     rw [YY]at hR
     obtain ⟨tk2,rfl⟩:=hR.sl
     have hKl:=hK.len
     rw [Y2,List.length_singleton]at hKl
     have hHc:Hc[H.length]? = some (.cel 0 [.sl [] .tight]):=hK.cel _ _ (A1 hBH)
     have hHo:∀i,i<H.length→Hc[i]? = H[i]? := fun i hi=>by rw [hK.old i (by omega),Yx (by omega)];exact hBo i hi
     have hbx:Bz true 1 (.agg [.sl [] .tight]) Hc=some (.ptr Hc.length 0 0,Hc++[.cel 0 [.sl [] .tight]]):=Ct rfl rfl
     have hbe:A2 (some [(.sl [] .tight)]) []=some (.agg [.sl [] .tight]):=rfl
     have hmul:S.length*(n+1)≤700000000*1329:=Qa8 (by omega) (by omega)
     have hspk:∀p∈S.map (spot (2^n)),SpOk p:=fun p hp=>by
      obtain ⟨c,hc,rfl⟩:=ZQ.1 hp
      obtain ⟨q1,q2,q3,q4⟩:=hsq c hc
      have hpw:(2:Int)^(n+1)=((2^(n+1):Nat):Int):=ipow _
      rw [hpw]at q2 q4
      have hpt:2^(n+1)≤2^(32*44):=YT (by decide) (by omega)
      rw [←w_pow]at hpt
      exact ⟨YJ (ES (k:=44) (by unfold spot;dsimp only;omega)) (by decide),YJ (ES (k:=44) (by unfold spot;dsimp only;omega)) (by decide)⟩
     obtain ⟨Hq,w',p1,p2,p3,p4⟩:=lay_ok (b:=H.length) (pb:=Hc.length) (by omega) (n+1) AK (by rw [Dg];omega) (by omega) (by omega) [] (.sl [] .tight) (S.map (spot (2^n))) tk2 (Hc++[.cel 0 [.sl [] .tight]]) Ap (.inl ⟨rfl,rfl⟩) (by simp;omega) hspk (by simp;omega) (by simp only [List.length_nil,Zx];omega)
     rw [hlp]at p1 p3
     have hpl:=YJ (lay_len (n+1) [] (S.map (spot (2^n)))) (Nat.add_le_add_left (by rw [Zx];exact hmul) _)
     rw [hlp]at hpl
     simp only [List.length_nil]at hpl
     generalize Bl (n+1) [] (-(2^n)) (-(2^n)) S=P at p1 p3 hpl
     obtain ⟨Q,r⟩:=P
     dsimp only at p1 p3 hpl ⊢
     obtain ⟨tk3,rfl⟩:=p3.sl
     have hqo:=fun G=>c06_of Q tk3 (r:Int) G (by omega)
     have hq1:Hq[H.length]? = some (.cel 0 [.sl [] .tight]):=p4.cel _ _ (by omega) (A1 hHc)
     have hqo2:∀i,i<H.length→Hq[i]? = H[i]? := fun i hi=>by rw [p4.old i hi,Yx (by omega)];exact hHo i hi
     have hldb:Ac false 1 (.ptr Hc.length 0 0) Hq=some (.sl (enL cNd Q) tk3):=by rw [CR p2];rfl
     unfold Sh.f3t
     simp only [Al,Ai,Bb,Bf,B2,BK,D8,GMb,GMc,d1,hn,show decide (((n+1:Nat):Int)>1329)=false from by rw [←hn];exact hv',hwn,hpow,Cd,s1,AL,Aw]
     rw [hloop]
     unfold Sh.f51
     simp only [Al,Ai,Bb,Bf,B2,BK,D8,GMb,GMc,d1,hbe,hbx,p1,nil_ptr,Ah,Yy,hldb,hqo]
     cases ofOk Q (r:Int)with
     | false=>
      simp only [GMb,GMc,B1,B8,El,C6,Y4,if_false]
      exact Iw hq1 hqo2
     | true=>
      simp only [GMb,GMc,B1,B8,El,C6,Int.toNat_natCast,if_true]
      exact Iw hq1 hqo2
    ·obtain ⟨w,rfl,hR,hK⟩:=hI
     have hKl:=hK.len
     rw [Y2,List.length_singleton]at hKl
     obtain ⟨w',Hd,t1,t2,t3⟩:=spot_turn (H:=H) (x50:=.ptr H.length 0 0) (x51:=.int .i64 ((n+1:Nat):Int)) (tk:=.no) hi hsm (by omega) (by omega) hin (by omega) hR (hK.cel _ _ Ap)
     exact ⟨_,Hd,⟨w',rfl,t2,hK.trans t3⟩,t1⟩
def rdP (law:List UInt8) (v:Ab):List Ab:=[.str law,v]
structure RPx (b0 p:Nat) (b:List UInt8) (a:Nat) (st:PSt) (v:Ab) (H:Aa):Prop where
 hb:b0≤p
 lx:Lx H p b a (rdP st.law v)
 row:RS cCl A0 5 b0 st.cells v H
def RP (b0 p:Nat) (b:List UInt8) (a:Nat) (st:PSt) (H:Aa):Prop:=∃v,RPx b0 p b a st v H
section
variable {b0 p a:Nat} {b:List UInt8} {st:PSt} {H:Aa} {v:Ab}
theorem RPx.lt (h:RPx b0 p b a st v H):p<H.length:=lx_lt h.lx
theorem RPx.move (h:RPx b0 p b a st v H) (a':Nat):RPx b0 p b a' st v (C7 H p b (rdP st.law v) a'):=⟨h.hb,Hx h.lx,h.row.put h.lx⟩
theorem RPx.push (h:RPx b0 p b a st v H) (G:Aa):RPx b0 p b a st v (H++G):=⟨h.hb,Lx.push h.lx,h.row.left G⟩
theorem RPx.ext (h:RPx b0 p b a st v H) (cs:List Ab):Ext b0 p H (H.set p (.cel 0 cs)):=
 ⟨by simp,fun i c hi hc=>by rw [Yv (Ne.symm hi)];exact hc,fun i hi=>by rw [Yv (by have:=h.hb;omega)]⟩
theorem RPx.ble (h:RPx b0 p b a st v H):b0≤H.length:=YJ h.hb (Qa4 h.lt)
theorem RPx.go (h:RPx b0 p b a st v H) (a':Nat) (G:Aa):RPx b0 p b a' st v (C7 H p b (rdP st.law v) a'++G)∧Ext b0 p H (C7 H p b (rdP st.law v) a'++G):=
 ⟨(h.move a').push G,(h.ext _).trans (Ext.push b0 p (by show b0≤List.length _;rw [show (H.set p _).length=H.length from by simp];exact h.ble) G)⟩
theorem RPx.go0 (h:RPx b0 p b a st v H) (a':Nat):RPx b0 p b a' st v (C7 H p b (rdP st.law v) a')∧Ext b0 p H (C7 H p b (rdP st.law v) a'):=⟨h.move a',h.ext _⟩
theorem RPx.put (h:RPx b0 p b a st v H) (G:Aa):RPx b0 p b a st v (H++G)∧Ext b0 p H (H++G):=⟨h.push G,Ext.push b0 p h.ble G⟩
def EndsP (b0 p:Nat) (b:List UInt8) (H:Aa) (x:Out) (v:Ab) (s:(Er×Nat)×PSt):Prop:=∃H',x=some (resE s.1.1 v,H')∧Ext b0 p H H'∧RP b0 p b s.1.2 s.2 H'
theorem build_pl (x y:Int):A2 (some [(.bool false),(.sl [] .tight),(.bool false),(.sl [] .tight),(.int .u8 0)]) [(0,2,big x),(2,2,big y),(4,1,(.int .u8 1))]=some (.agg (cCl ⟨x,y,1⟩)):=rfl
theorem box_bigS (z:Int):Af 2 (.ptr 0 0 0) (big z) [Blk.cel 0 [.bool false,.sl [] .tight]]=some [.cel 0 (A6 z)]:=Is (QE z) rfl rfl
theorem ld_bigS (z:Int):Ac true 2 (.ptr 0 0 0) [Blk.cel 0 (A6 z)]=some (big z):=(rfl)
theorem rp_line (h:RP b0 p b a st H) (ha:a<b.length) (hb:b.length<1152921504606846976) (hn:st.cells.length<1000000000):EndsP b0 p b H (Sh.f2w (.ptr p 0 0) H) (.tup []) (NY b a st):=by
 obtain ⟨v,h⟩:=h
 have hle:a≤b.length:=Qa4 ha
 unfold EndsP Sh.f2w NY
 simp only [GMb,GMc,HPa,HPc,HPd,HPe,HPz,Nat.reduceAdd,Nat.reduceLT,OT h.lx hle]
 cases hC:BI b a [35]with
 | true=>
  unfold WS G6
  simp only [GMb,GMc,HPa,HPc,HPd,HPe,HPz,Nat.reduceAdd,Nat.reduceLT,V8 h.lx hle hb [35,82,32] [97] (by decide) (by decide),if_true]
  have hM:=GA (s:=[35,82,32]) (rest:=[97]) hle
  generalize BT b a [35,82,32] [97]=M at hM
  obtain ⟨er,c⟩:=M
  dsimp only at hM ⊢
  obtain ⟨h2,e2⟩:=h.go0 c
  cases er with
  | some e=>
   simp only [GMb,GMc,HPa,HPc,HPd,HPe,HPz,Nat.reduceAdd,Nat.reduceLT,DQ]
   exact ⟨_,rfl,e2,_,h2⟩
  | none=>
   simp only [GMb,GMc,HPa,HPc,HPd,HPe,HPz,Nat.reduceAdd,Nat.reduceLT,Dc,lx_ruleS h2.lx hM hb [] (by decide)]
   generalize Hg b c []=M
   obtain ⟨er,d⟩:=M
   dsimp only
   obtain ⟨h3,e3⟩:=h2.go0 d
   generalize C7 _ p b _ d=H3 at h3 e3
   cases er with
   | some e=>
    simp only [GMb,GMc,HPa,HPc,HPd,HPe,HPz,Nat.reduceAdd,Nat.reduceLT,DQ]
    exact ⟨_,rfl,e2.trans e3,_,h3⟩
   | none=>
    have hst:=K9 (o:=2) (v:=.str ((b.take d).drop c)) h3.lx rfl (by simp [rdP])
    simp only [GMb,GMc,HPa,HPc,HPd,HPe,HPz,Nat.reduceAdd,Nat.reduceLT,Dc,hst]
    refine ⟨_,rfl,(e2.trans e3).trans (h3.ext _),v,h3.hb,?_,h3.row.put h3.lx⟩
    unfold Lx
    rw [Y9 h3.lt];rfl
 | false=>
  unfold Jt Ei
  obtain ⟨G1,hn1⟩:=XB h.lx hle hb true [32,49] (by decide)
  have hi1:=OZ hle true [32,49]
  simp only [GMb,GMc,HPa,HPc,HPd,HPe,HPz,Nat.reduceAdd,Nat.reduceLT,hn1,Y4,if_false]
  generalize C4 b a true [32,49]=M at hi1
  obtain ⟨er,c⟩:=M
  dsimp only at hi1 ⊢
  obtain ⟨h1,e1⟩:=h.go c G1
  generalize C7 H p b (rdP st.law v) c++G1=H1 at h1 e1
  cases er with
  | some e=>
   simp only [GMb,GMc,HPa,HPc,HPd,HPe,HPz,Nat.reduceAdd,Nat.reduceLT,DQ]
   exact ⟨_,rfl,e1,_,h1⟩
  | none=>
   obtain ⟨h2,e2⟩:=h1.put [.cel 0 (A6 (Bv ((b.take c).drop a)))]
   have hx0:(H1++[Blk.cel 0 (A6 (Bv ((b.take c).drop a)))])[H1.length]? = some (.cel 0 (A6 (Bv ((b.take c).drop a)))):=Ap
   have hH1:p≠H1.length:=by have:=h1.lt;omega
   simp only [GMb,GMc,HPa,HPc,HPd,HPe,HPz,Nat.reduceAdd,Nat.reduceLT,Dc,Cd,box_bigS,AL]
   generalize H1++[Blk.cel 0 (A6 (Bv ((b.take c).drop a)))]=H2 at h2 e2 hx0
   simp only [GMb,GMc,HPa,HPc,HPd,HPe,HPz,Nat.reduceAdd,Nat.reduceLT,V8 h2.lx hi1.2 hb [32] [49] (by decide) (by decide)]
   have hM:=GA (s:=[32]) (rest:=[49]) hi1.2
   generalize BT b c [32] [49]=M at hM
   obtain ⟨er,d⟩:=M
   dsimp only at hM ⊢
   obtain ⟨h3,e3⟩:=h2.go0 d
   have hx1:=e3.cel _ _ (Ne.symm hH1) hx0
   generalize C7 H2 p b (rdP st.law v) d=H3 at h3 e3 hx1
   cases er with
   | some e=>
    simp only [GMb,GMc,HPa,HPc,HPd,HPe,HPz,Nat.reduceAdd,Nat.reduceLT,DQ]
    exact ⟨_,rfl,(e1.trans e2).trans e3,_,h3⟩
   | none=>
    obtain ⟨G4,hn4⟩:=XB h3.lx hM hb true [] (by decide)
    have hi4:=OZ hM true []
    simp only [GMb,GMc,HPa,HPc,HPd,HPe,HPz,Nat.reduceAdd,Nat.reduceLT,Dc,hn4]
    generalize C4 b d true []=M at hi4
    obtain ⟨er,f⟩:=M
    dsimp only at hi4 ⊢
    obtain ⟨h4,e4⟩:=h3.go f G4
    have hx4:=e4.cel _ _ (Ne.symm hH1) hx1
    generalize C7 H3 p b (rdP st.law v) f++G4=H4 at h4 e4 hx4
    cases er with
    | some e=>
     simp only [GMb,GMc,HPa,HPc,HPd,HPe,HPz,Nat.reduceAdd,Nat.reduceLT,DQ]
     exact ⟨_,rfl,((e1.trans e2).trans e3).trans e4,_,h4⟩
    | none=>
     obtain ⟨h5,e5⟩:=h4.put [.cel 0 (A6 (Bv ((b.take f).drop d)))]
     have hy:Ac true 2 (.ptr H4.length 0 0) (H4++[Blk.cel 0 (A6 (Bv ((b.take f).drop d)))])=some (big (Bv ((b.take f).drop d))):=AW Ap
     have hx:Ac true 2 (.ptr H1.length 0 0) (H4++[Blk.cel 0 (A6 (Bv ((b.take f).drop d)))])=some (big (Bv ((b.take c).drop a))):=AW (A1 hx4)
     simp only [GMb,GMc,HPa,HPc,HPd,HPe,HPz,Nat.reduceAdd,Nat.reduceLT,Dc,Cd,box_bigS,AL]
     generalize H4++[Blk.cel 0 (A6 (Bv ((b.take f).drop d)))]=H5 at h5 e5 hy hx
     have hrow:Ac false 1 (.ptr p 0 3) H5=some v:=by rw [CR h5.lx];rfl
     obtain ⟨w,H6,r1,r2,r3⟩:=h5.row.snoc (bytes:=72) h5.ble ⟨Bv ((b.take c).drop a),Bv ((b.take f).drop d),1⟩ .tight (by omega) (by omega)
     have hlx6:Lx H6 p b f (rdP st.law v):=r3.cel _ _ h5.lx
     have hwv:w.isScal=true:=by obtain ⟨tk,rfl⟩:=r2.sl;rfl
     have hst:=K9 (o:=3) (v:=w) hlx6 hwv (by simp [rdP])
     simp only [GMb,GMc,HPa,HPc,HPd,HPe,HPz,Nat.reduceAdd,Nat.reduceLT,hrow,hx,hy,ld_bigS,build_pl,Kl,r1,hst,AL,BN]
     have hp6:=lx_lt hlx6
     refine ⟨_,rfl,(((((e1.trans e2).trans e3).trans e4).trans e5).trans ⟨r3.len,fun i cs hi hc=>r3.cel i cs hc,r3.old⟩).trans ⟨by simp,fun i c hi hc=>by rw [Yv (Ne.symm hi)];exact hc,fun i hi=>by rw [Yv (by have:=h.hb;omega)]⟩,w,h.hb,?_,r2.put hlx6⟩
     unfold Lx
     rw [Y9 hp6];rfl
theorem one_endP (hb:b.length<1152921504606846976) {rec:LK} {H0:Aa} {x:Out} {s:(Er×Nat)×PSt} {F:LK} (he:EndsP b0 p b H x (.tup []) s) (hs:s.1.2≤b.length) :
  (∃H' e c st',WW b s=((some e,c),st')∧(bK H0 x fun _ H18=>bK H0 (Sh.fu (.ptr p 0 0) (.str []) H18) fun _ H22=>rec [.ptr p 0 0] H22)=some (.pan (hv e),H')∧Ext b0 p H H'∧RP b0 p b c st' H') ∨
  (∃H' c st',WW b s=((none,c),st')∧(bK H0 x fun _ H18=>bK H0 (Sh.fu (.ptr p 0 0) (.str []) H18) fun _ H22=>rec [.ptr p 0 0] H22)=rec [.ptr p 0 0] H'∧Ext b0 p H H'∧RP b0 p b c st' H'):=by
 obtain ⟨⟨er,c⟩,st'⟩:=s
 obtain ⟨H1,rfl,e1,h1⟩:=he
 dsimp only at hs e1 h1 ⊢
 cases er with
 | some e=>exact .inl ⟨H1,e,c,st',rfl,rfl,e1,h1⟩
 | none=>
  obtain ⟨v,h1⟩:=h1
  obtain ⟨h2,e2⟩:=h1.go0 (GU b c []).2
  have hx:=lx_endS h1.lx hs hb [] (by decide)
  unfold WW
  simp only [Dc,GMb,GMc,HPa,HPc,HPd,HPe,HPz,Nat.reduceAdd,Nat.reduceLT,hx]
  cases hE:(GU b c []).1 with
  | some e=>
   refine .inl ⟨_,e,(GU b c []).2,st',by rw [←hE],?_,e1.trans e2,_,h2⟩
   simp only [DQ,GMb,GMc,HPa,HPc,HPd,HPe,HPz,Nat.reduceAdd,Nat.reduceLT]
  | none=>
   refine .inr ⟨_,(GU b c []).2,st',by rw [←hE],?_,e1.trans e2,_,h2⟩
   simp only [Dc,GMb,GMc,HPa,HPc,HPd,HPe,HPz,Nat.reduceAdd,Nat.reduceLT]
theorem rp_loop (hb:b.length<1152921504606846976) (H0:Aa):∀(m a:Nat) (st:PSt) (H:Aa),a≤b.length→b.length-a<m→∀n,m≤n→st.cells.length+(b.length-a)+5<1000000000→RP b0 p b a st H →
  EndsP b0 p b H (Ao (fun rec1 vs H=>Sh.f5k H0 rec1 (ag vs 0) H) n [.ptr p 0 0] H) (.tup []) (HW b m a st):=by
 intro m
 induction m with
 | zero=>intro a st H _ h;omega
 | succ m ih=>
  intro a st H ha hm n hn h1 h
  obtain ⟨n,rfl⟩:∃k,n=k+1:=⟨n-1,by omega⟩
  rw [Cw]
  generalize hg:Ao (fun rec1 vs H=>Sh.f5k H0 rec1 (ag vs 0) H) n=rec
  have hh:=h
  obtain ⟨v,h⟩:=h
  unfold Sh.f5k HW
  simp only [GMb,GMc,HPa,HPc,HPd,HPe,HPz,Nat.reduceAdd,Nat.reduceLT,NW h.lx]
  by_cases he:a=b.length
  ·simp only [he,GMb,GMc,HPa,HPc,HPd,HPe,HPz,Nat.reduceAdd,Nat.reduceLT,if_true]
   rw [he]at hh
   exact ⟨H,rfl,Ext.refl _ _ _,hh⟩
  ·have hlt:a<b.length:=by omega
   have hl:=rp_line hh hlt hb (by omega)
   have hok:=oneP_ok hlt st
   have hone:=one_endP (rec:=rec) (H0:=H0) (F:=rec) hb hl (lineP_ok hlt st).le
   simp only [he,GMb,GMc,HPa,HPc,HPd,HPe,HPz,Nat.reduceAdd,Nat.reduceLT,if_false]
   unfold FB at hok ⊢
   rcases hone with ⟨H1,e,c,st',q1,q2,q3,q4⟩ | ⟨H1,c,st',q1,q2,q3,q4⟩
   ·rw [q1]
    exact ⟨H1,q2,q3,q4⟩
   ·rw [q1]at hok ⊢
    obtain ⟨k1,k2,k3,k4⟩:=hok
    dsimp only at k1 k2 k3 k4 ⊢
    have:=k2 rfl
    obtain ⟨H2,s1,s2,s3⟩:=ih c st' H1 k1 (by omega) n (by omega) (by omega) q4
    rw [hg]at s1
    exact ⟨H2,q2.trans s1,q3.trans s2,s3⟩
theorem rp_all (h:RP b0 p b 0 st H) (hb:b.length<900000000) (hn:st.cells.length=0):EndsP b0 p b H (Sh.f1z (.ptr p 0 0) H) (.tup []) (MT b st):=by
 have hb':b.length<1152921504606846976:=by omega
 obtain ⟨v,h⟩:=h
 have hM:=GA (s:=EV) (rest:=[]) (YL b.length)
 have hx:=V8 h.lx (YL _) hb' EV [] (by decide) (by decide)
 unfold Sh.f1z MT
 rw [show Ab.str [35,76,105,102,101,32,49,46,48,54]=.str EV from rfl]
 simp only [GMb,GMc,HPa,HPc,HPd,HPe,HPz,Nat.reduceAdd,Nat.reduceLT,hx]
 generalize BT b 0 EV []=M at hM
 obtain ⟨er,c⟩:=M
 dsimp only at hM ⊢
 obtain ⟨h1,e1⟩:=h.go0 c
 cases er with
 | some e=>
  simp only [DQ,GMb,GMc,HPa,HPc,HPd,HPe,HPz,Nat.reduceAdd,Nat.reduceLT]
  exact ⟨_,rfl,e1,_,h1⟩
 | none=>
  have hx2:=lx_endS h1.lx hM hb' [] (by decide)
  simp only [Dc,GMb,GMc,HPa,HPc,HPd,HPe,HPz,Nat.reduceAdd,Nat.reduceLT,hx2]
  have hle:=Ut hM []
  generalize GU b c []=M at hle
  obtain ⟨er,d⟩:=M
  dsimp only at hle ⊢
  obtain ⟨h3,e3⟩:=h1.go0 d
  cases er with
  | some e=>
   simp only [DQ,GMb,GMc,HPa,HPc,HPd,HPe,HPz,Nat.reduceAdd,Nat.reduceLT]
   exact ⟨_,rfl,e1.trans e3,_,h3⟩
  | none=>
   simp only [Dc,GMb,GMc,HPa,HPc,HPd,HPe,HPz,Nat.reduceAdd,Nat.reduceLT]
   obtain ⟨H4,r1,r2,r3⟩:=rp_loop (b0:=b0) (p:=p) hb' H (b.length+1) d st _ hle.2 (by omega) AK (by rw [Dg];omega) (by omega) ⟨_,h3⟩
   rw [r1]
   exact ⟨H4,rfl,(e1.trans e3).trans r2,r3⟩
def Sv (er:Er):Ab:=match er with
 | none=>.agg [.int .i64 0,.str []]
 | some e=>.agg [.int .i64 e.1,.str e.2]
theorem Xz (h:RP b0 p b 0 st H) (hb:b.length<900000000) (hn:st.cells.length=0):∃H',Sh.f20 (.bfn 38 [.ptr p 0 0]) H=some (.ret (Sv (MT b st).1.1),H')∧Ext b0 p H H'∧RP b0 p b (MT b st).1.2 (MT b st).2 H':=by
 obtain ⟨H1,r1,r2,r3⟩:=rp_all h hb hn
 refine ⟨H1,?_,r2,r3⟩
 have ho:ent 38 (ap1 Sh.f1z) noO 38 [.ptr p 0 0] H=Sh.f1z (.ptr p 0 0) H:=by
  unfold ent;rw [if_pos rfl];rfl
 unfold Sh.f20 RA
 simp only [ho,r1,GMb,GMc]
 cases (MT b st).1.1 with
 | none=>rfl
 | some e=>rfl

end
def rcC (c:Cl):RC:=⟨decide (c.x<0),A4 c.x.natAbs,decide (c.y<0),A4 c.y.natAbs,c.s⟩
theorem Wx (z:Int):Hv (decide (z<0)) (A4 z.natAbs)=true:=by
 unfold Hv
 rw [UX,Zu]
 by_cases h:z<0
 ·have:A4 z.natAbs≠[]:=Rk (by omega)
  rw [decide_eq_true h]
  cases hl:A4 z.natAbs with
  | nil=>exact absurd hl this
  | cons _ _=>rfl
 ·rw [decide_eq_false h];rfl
theorem rcC_right (c:Cl):(rcC c).right=true:=by
 unfold RC.right rcC
 rw [Wx,Wx];rfl
theorem rcC_cl (c:Cl):(rcC c).cl=c:=by
 unfold RC.cl rcC
 rw [LE,LE]
theorem rcC_fits {c:Cl} (h:c.ok):(rcC c).fits:=⟨Bp _,Bp _,h.1.lb (by decide),h.2.lb (by decide)⟩
theorem enL_rcC (L:List Cl):enL cRC (L.map rcC)=enL cCl L:=by
 unfold enL
 rw [List.map_map]
 rfl
theorem map_rcC (L:List Cl):(L.map rcC).map RC.cl=L:=by
 rw [List.map_map]
 conv=>rhs;rw [←List.map_id L]
 exact Qbc fun c _=>rcC_cl c
theorem all_rcC (L:List Cl):(L.map rcC).all RC.right=true:=by
 rw [YH]
 intro r hr
 obtain ⟨c,_,rfl⟩:=ZQ.1 hr
 exact rcC_right c
theorem p_cellsC (L:List Cl) (tk:Tok) (H:Aa) (hl:L.length<700000000) (hok:∀c∈L,c.ok):Sh.f2b (.sl (enL cCl L) tk) H=some (.ret (.tup [El (HV L).1,.int .i64 (HV L).2]),H):=by
 have h:=p_cellsOf (L.map rcC) tk H (by rw [Zx];exact hl) (fun r hr=>by obtain ⟨c,hc,rfl⟩:=ZQ.1 hr;exact rcC_fits (hok c hc)) (fun r hr _=>by obtain ⟨c,hc,rfl⟩:=ZQ.1 hr;rw [rcC_cl];exact hok c hc)
 rw [all_rcC,enL_rcC,map_rcC,if_pos rfl]at h
 exact h
def F0 (r:(List UInt8×List Nd)×Int×Int):Ab:=.tup [pat r.1.1 r.1.2,.int .i64 r.2.1,.int .i64 r.2.2]
theorem HC (rule:List UInt8) (L:List Nd):pat rule L=.agg [.str rule,.sl (enL cNd L) .no]:=rfl
theorem Va (L:List Nd):El L=.agg [.sl (enL cNd L) .no]:=rfl
theorem p_fine6 (bx N:Int) (H:Aa):Sh.f2n (.agg [.int .i64 bx,.int .i64 N]) H=some (.ret (.bool (JR bx N)),H):=by
 unfold Sh.f2n Sh.f2m JR
 by_cases h1:bx≥0
 ·by_cases h2:bx≤1000
  ·by_cases h3:N≥0
   ·simp only [GMb,GMc,HPa,HPc,HPd,HPe,HPz,Nat.reduceAdd,Nat.reduceLT,h1,h2,h3]
   ·simp only [GMb,GMc,HPa,HPc,HPd,HPe,HPz,Nat.reduceAdd,Nat.reduceLT,h1,h2,h3]
  ·simp only [GMb,GMc,HPa,HPc,HPd,HPe,HPz,Nat.reduceAdd,Nat.reduceLT,h1,h2]
 ·simp only [GMb,GMc,HPa,HPc,HPd,HPe,HPz,Nat.reduceAdd,Nat.reduceLT,h1]
theorem Ie (b:List UInt8) (bx N:Int) (H:Aa) (hb:b.length<600000000):Sh.f12 (.str b) (.agg [.int .i64 bx,.int .i64 N]) H=some (.ret (F0 (N4 b bx N)),H):=by
 have b1:A2 (some [(.str []),(.sl [] .tight)]) []=some (.agg [.str [],.sl [] .tight]):=rfl
 have b2:∀s,A2 (some [(.str []),(.int .i64 0)]) [(0,1,.str s)]=some (.agg [.str s,.int .i64 0]):=fun _=>rfl
 have b3:∀s,A2 (some [(.str []),(.int .i64 0),(.str []),(.sl [] .tight)]) [(0,2,.agg [.str s,.int .i64 0]),(2,1,(.str [66,51,47,83,50,51]))]=some (.agg [.str s,.int .i64 0,.str usualL,.sl [] .tight]):=fun _=>rfl
 unfold Sh.f12 N4
 simp only [GMb,GMc,HPa,HPc,HPd,HPe,HPz,Nat.reduceAdd,Nat.reduceLT,p_fine6]
 cases hf:JR bx N with
 | false=>
  simp only [GMb,GMc,HPa,HPc,HPd,HPe,HPz,Nat.reduceAdd,Nat.reduceLT,b1,Y4,if_false,F0,HC]
  rfl
 | true=>
  simp only [GMb,GMc,HPa,HPc,HPd,HPe,HPz,Nat.reduceAdd,Nat.reduceLT,b2,b3,if_true]
  obtain ⟨F,hF⟩:∃F:Aa,F=H++[.cel 0 [.int .i64 bx,.int .i64 N],.cel 0 [.str [],.sl [] .tight],.cel 0 [.str b,.int .i64 0,.str usualL,.sl [] .tight]]:=⟨_,rfl⟩
  have hR:RP H.length (H.length+2) b 0 TG F:=⟨.sl [] .tight,by omega,by unfold Lx;rw [hF];simp [rdP,TG],.inl ⟨rfl,rfl⟩⟩
  obtain ⟨H1,c1,c2,c3⟩:=Xz hR (by omega) rfl
  rw [hF]at c1
  have hlim:H1[H.length]? = some (.cel 0 [.int .i64 bx,.int .i64 N]):=c2.cel _ _ (by omega) (by rw [hF];simp)
  have hres:H1[H.length+1]? = some (.cel 0 [.str [],.sl [] .tight]):=c2.cel _ _ (by omega) (by rw [hF];simp)
  have hold:∀i,i<H.length→H1[i]? = H[i]? := fun i hi=>by rw [c2.old i hi,hF,Yx hi]
  simp only [c1,GMb,GMc]
  have hpos:=allP_er b TG
  have hcnt:=allP_ok b TG
  generalize MT b TG=A at c3 hpos hcnt
  obtain ⟨⟨er,c⟩,st⟩:=A
  dsimp only at c3 ⊢
  obtain ⟨v,c3⟩:=c3
  have hl1:=(Yw.1 hres).1
  cases er with
  | some e=>
   have hpe:=hpos e rfl
   have hres':=A1 (G:=[Blk.cel 0 [.int .i64 e.1,.str e.2]]) hres
   have hst:=FZ (sz:=2) (ws:=[.str [],.sl [] .tight]) hres' rfl rfl rfl
   have hset:(H1++[Blk.cel 0 [.int .i64 e.1,.str e.2]]).set (H.length+1) (.cel 0 [.str [],.sl [] .tight])=H1++[Blk.cel 0 [.int .i64 e.1,.str e.2]]:=by
    apply ZH
    intro i
    by_cases hi:H.length+1=i
    ·subst hi
     rw [Y9 (by simp;omega),hres']
    ·rw [Yv hi]
   rw [hset]at hst
   have hld:=ET (sz:=2) hres' rfl
   have hat:=CR (o:=1) (sz:=1) (A1 (G:=[Blk.cel 0 [.int .i64 e.1,.str e.2]]) c3.lx)
   have htk:(H1++[Blk.cel 0 [.int .i64 e.1,.str e.2]]).take H.length=H:=Cv fun i hi=>by rw [Yx (by omega)];exact hold i hi
   by_cases he:e.1=0
   ·exact absurd he (by omega)
   ·have hne:(!decide (e.1=0))=true:=by simp [he]
    simp only [Sv,GMb,GMc,HPa,HPc,HPd,HPe,HPz,Nat.reduceAdd,Nat.reduceLT,hne,b1,hst,hat,Fr,JQ,hld,Gc htk,F0,HC]
    rfl
  | none=>
   have hc1:st.cells.length≤b.length:=by have:=hcnt.1;dsimp only [TG]at this;simp only [List.length_nil]at this;omega
   have hc2:∀c∈st.cells,c.ok:=hcnt.2 (fun c hc=>by cases hc)
   obtain ⟨tk,hv⟩:=c3.row.sl
   have hof:=fun K=>p_cellsC st.cells tk K (by omega) hc2
   have hld3:=CR (o:=3) (sz:=1) (A1 (G:=[Blk.cel 0 [.int .i64 0,.str []]]) c3.lx)
   have hld2:=fun G=>CR (o:=2) (sz:=1) (A1 (G:=G) (A1 (G:=[Blk.cel 0 [.int .i64 0,.str []]]) c3.lx))
   obtain ⟨K,hK⟩:∃K,K=H1++[Blk.cel 0 [.int .i64 0,.str []]]:=⟨_,rfl⟩
   have hKr:K[H.length+1]? = some (.cel 0 [.str [],.sl [] .tight]):=by rw [hK];exact A1 hres
   have hKm:K[H.length]? = some (.cel 0 [.int .i64 bx,.int .i64 N]):=by rw [hK];exact A1 hlim
   have hKo:∀i,i<H.length→K[i]? = H[i]? := fun i hi=>by rw [hK,Yx (by omega)];exact hold i hi
   have hKl:H.length+1<K.length:=(Yw.1 hKr).1
   rw [←hK]at hld3 hld2
   have bad:∀L:List Nd,((A2 (some [(.str []),(.sl [] .tight)]) []).bind fun x57=>
 (BE (.str b)).bind fun x58=>
 bP H (A3 (Af 2 (.ptr (H.length+1) 0 0) x57 (K++[.cel 0 [.sl (enL cNd L) .no]]))) fun _ H60=>
 (CU [Ac true 2 (.ptr (H.length+1) 0 0) H60,some x58,some (.int .i64 4)]).bind fun x61=>rPN H x61 H60)=some (.ret (F0 (([],[]),(b.length:Int),4)),H):=by
    intro L
    have hr':=A1 (G:=[Blk.cel 0 [.sl (enL cNd L) .no]]) hKr
    have hst:=FZ (sz:=2) (ws:=[.str [],.sl [] .tight]) hr' rfl rfl rfl
    have hld:=ET (sz:=2) (H:=(K++[Blk.cel 0 [.sl (enL cNd L) .no]]).set (H.length+1) (.cel 0 [.str [],.sl [] .tight])) (p:=H.length+1) (cs:=[.str [],.sl [] .tight]) (by rw [Y9 (by simp;omega)]) rfl
    have htk:((K++[Blk.cel 0 [.sl (enL cNd L) .no]]).set (H.length+1) (.cel 0 [.str [],.sl [] .tight])).take H.length=H:=Cv fun i hi=>by rw [Yv (by omega),Yx (by omega)];exact hKo i hi
    simp only [b1,GMb,GMc,HPa,HPc,HPd,HPe,HPz,Nat.reduceAdd,Nat.reduceLT,hst,hld,Gc htk,F0,HC]
    rfl
   have hld3':Ac false 1 (.ptr (H.length+2) 0 3) K=some (.sl (enL cCl st.cells) tk):=by rw [hld3,hv];rfl
   have hld2':∀G,Ac false 1 (.ptr (H.length+2) 0 2) (K++G)=some (.str st.law):=fun G=>hld2 G
   simp only [Sv,GMb,GMc,HPa,HPc,HPd,HPe,HPz,Nat.reduceAdd,Nat.reduceLT]
   rw [←hK]
   simp only [GMb,GMc,HPa,HPc,HPd,HPe,HPz,Nat.reduceAdd,Nat.reduceLT,hld3',hof]
   generalize HV st.cells=O
   obtain ⟨Q,e⟩:=O
   dsimp only
   have hbad:=bad Q
   have hlim':=CR (o:=1) (sz:=1) (A1 (G:=[Blk.cel 0 [.sl (enL cNd Q) .no]]) hKm)
   simp only [GMb,GMc,HPa,HPc,HPd,HPe,HPz,Nat.reduceAdd,Nat.reduceLT,Va]at hbad ⊢
   by_cases he:e=0
   ·subst he
    by_cases hlen:(Q.length:Int)≤N
    ·have hgt:¬(Q.length:Int)>N:=by omega
     have hr':=A1 (G:=[Blk.cel 0 [.sl (enL cNd Q) .no]]) hKr
     have hst:=FZ (sz:=2) (ws:=[.str st.law,.sl (enL cNd Q) .no]) hr' rfl rfl rfl
     have hld:=ET (sz:=2) (H:=(K++[Blk.cel 0 [.sl (enL cNd Q) .no]]).set (H.length+1) (.cel 0 [.str st.law,.sl (enL cNd Q) .no])) (p:=H.length+1) (cs:=[.str st.law,.sl (enL cNd Q) .no]) (by rw [Y9 (by simp;omega)]) rfl
     have htk:((K++[Blk.cel 0 [.sl (enL cNd Q) .no]]).set (H.length+1) (.cel 0 [.str st.law,.sl (enL cNd Q) .no])).take H.length=H:=Cv fun i hi=>by rw [Yv (by omega),Yx (by omega)];exact hKo i hi
     have hbd:A2 (some [(.str []),(.sl [] .tight)]) [(0,1,.str st.law),(1,1,.agg [.sl (enL cNd Q) .no])]=some (.agg [.str st.law,.sl (enL cNd Q) .no]):=rfl
     simp only [GMb,GMc,HPa,HPc,HPd,HPe,HPz,Nat.reduceAdd,Nat.reduceLT,Aw,hlim',Fr,JQ,hgt,hlen,hld2',hbd,hst,hld,Gc htk,F0,HC,if_true]
    ·have hgt:(Q.length:Int)>N:=by omega
     simp only [GMb,GMc,HPa,HPc,HPd,HPe,HPz,Nat.reduceAdd,Nat.reduceLT,Aw,hlim',Fr,JQ,hgt,hlen,Y4,if_false]at hbad ⊢
     exact hbad
   ·have hne:(!decide (e=0))=true:=by simp [he]
    simp only [GMb,GMc,HPa,HPc,HPd,HPe,HPz,Nat.reduceAdd,Nat.reduceLT,he,hne,Y4,if_false,Z7]at hbad ⊢
    exact hbad
theorem QV (b:List UInt8) (H:Aa) (hb:b.length<600000000):Sh.f18 (.str b) H=some (.ret (.tup [.str (XR b).1,.bool (XR b).2]),H):=by
 have b2:∀s,A2 (some [(.str []),(.int .i64 0)]) [(0,1,.str s)]=some (.agg [.str s,.int .i64 0]):=fun _=>rfl
 have b3:∀s,A2 (some [(.str []),(.int .i64 0),(.str []),(.sl [] .tight)]) [(0,2,.agg [.str s,.int .i64 0])]=some (.agg [.str s,.int .i64 0,.str [],.sl [] .tight]):=fun _=>rfl
 unfold Sh.f18 XR
 simp only [GMb,GMc,HPa,HPc,HPd,HPe,HPz,Nat.reduceAdd,Nat.reduceLT,b2,b3]
 obtain ⟨F,hF⟩:∃F:Aa,F=H++[.cel 0 [.str b,.int .i64 0,.str [],.sl [] .tight]]:=⟨_,rfl⟩
 have hR:RP H.length H.length b 0 ⟨[],[]⟩ F:=⟨.sl [] .tight,Yz _,by unfold Lx;rw [hF];simp [rdP],.inl ⟨rfl,rfl⟩⟩
 obtain ⟨H1,c1,c2,c3⟩:=Xz hR (by omega) rfl
 rw [hF]at c1
 have hlen:H.length≤H1.length:=by have:=c2.len;rw [hF]at this;simp at this;omega
 have hold:∀i,i<H.length→H1[i]? = H[i]? := fun i hi=>by rw [c2.old i hi,hF,Yx hi]
 have htk:∀G,(H1++G).take H.length=H:=fun G=>Cv fun i hi=>by rw [Yx (by omega)];exact hold i hi
 simp only [c1,GMb,GMc]
 cases (MT b ⟨[],[]⟩).1.1 with
 | none=>
  simp only [Sv,GMb,GMc,HPa,HPc,HPd,HPe,HPz,Nat.reduceAdd,Nat.reduceLT]
  exact Gp rfl (htk _)
 | some e=>
  by_cases h0:e.1=0
  ·simp only [Sv,GMb,GMc,HPa,HPc,HPd,HPe,HPz,Nat.reduceAdd,Nat.reduceLT,h0]
   exact Gp rfl (htk _)
  ·simp only [Sv,GMb,GMc,HPa,HPc,HPd,HPe,HPz,Nat.reduceAdd,Nat.reduceLT,h0]
   exact Gp rfl (htk _)
theorem numS_on {b:List UInt8} {f a n:Nat} {rest:List UInt8} (hs:BI b a JU=true) (h1:¬(f<a∧b[f]? = some 48)) (h2:¬a-f=400):FC b f rest (n+1) a=FC b f rest n (a+1):=by
 rw [FC,if_pos hs,if_neg h1,if_neg h2]
theorem digs_get {b:List UInt8} {i:Nat} (h:i<b.length):BI b i JU=(decide ((b[i].toNat:Int)≥48)&&decide ((b[i].toNat:Int)≤57)):=by
 unfold BI JU
 rw [Yu h]
 have:∀c:UInt8,([48,49,50,51,52,53,54,55,56,57]:List UInt8).contains c=decide (48≤c.toNat∧c.toNat≤57):=fun c=>by
  simp only [List.contains_eq_mem,Zc,List.not_mem_nil,or_false,decide_eq_decide,←Qay]
  simp only [UInt8.reduceToNat]
  omega
 simp only [this]
 rw [YD];simp only [decide_eq_true_eq,Y7];omega
theorem Xo (c:UInt8):decide ((c.toNat:Int)=48)=decide (c=48):=u8_lit c 48 (by decide)
def intZ (b:List UInt8) (a:Nat) (neg:Bool):Int:=match (C4 b a neg []).1 with
 | none=>Bv ((b.take (C4 b a neg []).2).drop a)
 | some _=>0
def Qt (b:List UInt8) (a:Nat) (R:Er×Nat):Ab:=.tup [BW b R.2 (Bu R.1),big (match R.1 with | none=>Bv ((b.take R.2).drop a) | some _=>0)]
theorem r15_int {b:List UInt8} {a:Nat} (ha:a≤b.length) (hb:b.length<1152921504606846976) (neg:Bool) (H:Aa):Sh.fx (BW b a 0) (.bool neg) H=some (.ret (Qt b a (C4 b a neg [])),H):=by
 have hb0:A2 (some [(.bool false),(.sl [] .tight)]) []=some (.agg [.bool false,.sl [] .tight]):=rfl
 have hz:Ab.agg [.bool false,.sl [] .no]=big 0:=by rw [←OC];rfl
 have loop:∀(m:Bool) (f:Nat),a≤f→f≤b.length→(m=true→¬b[f]? = some 48) →
   Ao (fun rec2 vs H1=>Sh.f5b H rec2 (ag vs 0) (ag vs 1) (ag vs 2) (ag vs 3) (ag vs 4) (ag vs 5) H1) AK [.ptr H.length 0 0,.ptr (H.length+1) 0 0,.ptr (H.length+2) 0 0,.int .i64 (a:Int),.bool m,.int .i64 (f:Int)] (H++[.cel 0 [.str b,.int .i64 (f:Int),.int .i64 0],.cel 0 [.str [],.int .i64 0,.int .i64 0],.cel 0 [.bool false,.sl [] .tight]])=some (.ret (Qt b a (FC b f [] 402 f)),H):=by
  intro m f haf hf hm0
  have key:=Bk (G:=fun rec2 vs H1=>Sh.f5b H rec2 (ag vs 0) (ag vs 1) (ag vs 2) (ag vs 3) (ag vs 4) (ag vs 5) H1) (σ:=Nat) (fun i=>f≤i∧i≤b.length∧i-f≤400) (fun _=>[.ptr H.length 0 0,.ptr (H.length+1) 0 0,.ptr (H.length+2) 0 0,.int .i64 (a:Int),.bool m,.int .i64 (f:Int)])
   (fun i=>H++[.cel 0 [.str b,.int .i64 (i:Int),.int .i64 0],.cel 0 [.str [],.int .i64 0,.int .i64 0],.cel 0 [.bool false,.sl [] .tight]]) (fun i=>b.length-i) (fun i=>some (.ret (Qt b a (FC b f [] (402-(i-f)) i)),H)) (fun i rec hi hrec=>?_) f ⟨Yz _,hf,by omega⟩ (by omega)
  ·rw [YV,Nat.sub_zero]at key;exact key
  ·obtain ⟨h1,h2,h3⟩:=hi
   have he:=fun e H=>Gq b i e H
   have hst:=fun e H=>N6 b i e H
   unfold BW Cy at he hst
   have e:402-(i-f)=(401-(i-f))+1:=by omega
   have hstp:=J7 h2
   have hw:IntKind.i64.wrap ((i:Int)-(f:Int))=((i-f:Nat):Int):=by rw [Am] <;> omega
   rw [e]
   unfold Sh.f5b
   by_cases hend:b.length≤i
   ·have hs:BI b i JU=false:=by unfold BI;rw [YA hend]
    rw [FC,if_neg (by rw [hs];decide)]
    by_cases hif:i=f
    ·have hif':decide ((i:Int)=(f:Int))=true:=decide_eq_true (by omega)
     rw [if_pos hif]
     simp only [GMb,GMc,HPa,HPc,HPd,HPe,HPz,Nat.reduceAdd,Nat.reduceLT,Ai,he,hend,hif',hst,hb0,Qt,BW,Cy,Gk,hstp,hz]
    ·have hif':¬(i:Int)=(f:Int):=by omega
     rw [if_neg hif]
     have hp:=fun H=>Sc ((b.take i).drop a) H (by rw [YG,YC];omega)
     obtain ⟨sg,es,hbig⟩:∃sg es,big (Bv ((b.take i).drop a))=.agg [.bool sg,.sl es .no]:=⟨_,_,LD _⟩
     rw [hbig]at hp
     simp only [GMb,GMc,HPa,HPc,HPd,HPe,HPz,Nat.reduceAdd,Nat.reduceLT,Ai,he,hend,hif',It (show a≤i by omega) h2,hp,Qt,BW,Cy,EY,hbig]
   ·have hlt:i<b.length:=by omega
    have hdg:=digs_get hlt
    cases hs:BI b i JU with
    | false=>
     rw [hs]at hdg
     rw [FC,if_neg (by rw [hs];decide)]
     have stop:∀(x:Bool),x=false→(Aj (.bool x) (none:Out) ((Ac false 1 (.ptr H.length 0 1) (H++[.cel 0 [.str b,.int .i64 (i:Int),.int .i64 0],.cel 0 [.str [],.int .i64 0,.int .i64 0],.cel 0 [.bool false,.sl [] .tight]])).bind fun _=>none))=none:=fun x hx=>by subst hx;simp only [GMb,GMc,HPa,HPc,HPd,HPe,HPz,Nat.reduceAdd,Nat.reduceLT]
     by_cases hge:(b[i].toNat:Int)≥48
     ·have hle:¬(b[i].toNat:Int)≤57:=fun h=>by rw [decide_eq_true hge,decide_eq_true h]at hdg;cases hdg
      by_cases hif:i=f
      ·have hif':decide ((i:Int)=(f:Int))=true:=decide_eq_true (by omega)
       rw [if_pos hif]
       simp only [GMb,GMc,HPa,HPc,HPd,HPe,HPz,Nat.reduceAdd,Nat.reduceLT,Ai,he,hend,B9 hlt,hge,hle,hif',hst,hb0,Qt,BW,Cy,Gk,hstp,hz]
      ·have hif':¬(i:Int)=(f:Int):=by omega
       rw [if_neg hif]
       have hp:=fun H=>Sc ((b.take i).drop a) H (by rw [YG,YC];omega)
       obtain ⟨sg,es,hbig⟩:∃sg es,big (Bv ((b.take i).drop a))=.agg [.bool sg,.sl es .no]:=⟨_,_,LD _⟩
       rw [hbig]at hp
       simp only [GMb,GMc,HPa,HPc,HPd,HPe,HPz,Nat.reduceAdd,Nat.reduceLT,Ai,he,hend,B9 hlt,hge,hle,hif',It (show a≤i by omega) h2,hp,Qt,BW,Cy,EY,hbig]
     ·by_cases hif:i=f
      ·have hif':decide ((i:Int)=(f:Int))=true:=decide_eq_true (by omega)
       rw [if_pos hif]
       simp only [GMb,GMc,HPa,HPc,HPd,HPe,HPz,Nat.reduceAdd,Nat.reduceLT,Ai,he,hend,B9 hlt,hge,hif',hst,hb0,Qt,BW,Cy,Gk,hstp,hz]
      ·have hif':¬(i:Int)=(f:Int):=by omega
       rw [if_neg hif]
       have hp:=fun H=>Sc ((b.take i).drop a) H (by rw [YG,YC];omega)
       obtain ⟨sg,es,hbig⟩:∃sg es,big (Bv ((b.take i).drop a))=.agg [.bool sg,.sl es .no]:=⟨_,_,LD _⟩
       rw [hbig]at hp
       simp only [GMb,GMc,HPa,HPc,HPd,HPe,HPz,Nat.reduceAdd,Nat.reduceLT,Ai,he,hend,B9 hlt,hge,hif',It (show a≤i by omega) h2,hp,Qt,BW,Cy,EY,hbig]
    | true=>
     rw [hs]at hdg
     obtain ⟨hge,hle⟩:(b[i].toNat:Int)≥48∧(b[i].toNat:Int)≤57:=by
      have:=hdg.symm;simp only [Y7,decide_eq_true_eq]at this;exact this
     have go:¬(f<i∧b[f]? = some 48)→((Ae .none .sub (.int .i64 (i:Int)) (.int .i64 (f:Int))).bind fun x93=>
 (Ae .none .eql x93 (.int .i64 400)).bind fun x94=>
 Aj x94 (
 bP H (A3 (Af 1 (.ptr H.length 0 2) (.int .i64 4) (H++[.cel 0 [.str b,.int .i64 (i:Int),.int .i64 0],.cel 0 [.str [],.int .i64 0,.int .i64 0],.cel 0 [.bool false,.sl [] .tight]]))) fun _ H97=>
 (Ac true 3 (.ptr H.length 0 0) H97).bind fun x98=>
 (A2 (some [(.bool false),(.sl [] .tight)]) []).bind fun x99=>
 bP H (A3 (Af 3 (.ptr (H.length+1) 0 0) x98 H97)) fun _ H101=>
 bP H (A3 (Af 2 (.ptr (H.length+2) 0 0) x99 H101)) fun _ H103=>
 (CU [Ac true 3 (.ptr (H.length+1) 0 0) H103,Ac true 2 (.ptr (H.length+2) 0 0) H103]).bind fun x104=>rPN H x104 H103) (
 (Ac false 1 (.ptr H.length 0 1) (H++[.cel 0 [.str b,.int .i64 (i:Int),.int .i64 0],.cel 0 [.str [],.int .i64 0,.int .i64 0],.cel 0 [.bool false,.sl [] .tight]])).bind fun x106=>
 (Ae .none .add x106 (.int .i64 1)).bind fun x107=>
 bP H (A3 (Af 1 (.ptr H.length 0 1) x107 (H++[.cel 0 [.str b,.int .i64 (i:Int),.int .i64 0],.cel 0 [.str [],.int .i64 0,.int .i64 0],.cel 0 [.bool false,.sl [] .tight]]))) fun _ H110=>
 rec [.ptr H.length 0 0,.ptr (H.length+1) 0 0,.ptr (H.length+2) 0 0,.int .i64 (a:Int),.bool m,.int .i64 (f:Int)] H110))=some (.ret (Qt b a (FC b f [] (401-(i-f)+1) i)),H):=by
      intro hn
      simp only [GMb,GMc,hw]
      by_cases h4:i-f=400
      ·have h4':((i-f:Nat):Int)=400:=by omega
       rw [FC,if_pos hs,if_neg hn,if_pos h4]
       simp only [h4',GMb,GMc,HPa,HPc,HPd,HPe,HPz,Nat.reduceAdd,Nat.reduceLT,hb0,Qt,BW,Cy,Gk,hz]
      ·have h4':¬((i-f:Nat):Int)=400:=by omega
       rw [numS_on hs hn h4]
       have:=hrec (i+1) ⟨by omega,by omega,by omega⟩ (by omega)
       rw [show 402-(i+1-f)=401-(i-f)by omega]at this
       simp only [h4',GMb,GMc,HPa,HPc,HPd,HPe,HPz,Nat.reduceAdd,Nat.reduceLT,Av (show i<9223372036854775807 by omega)]
       exact this
     have bad:b[f]? = some 48∧f<i→some (Res.ret (.tup [.agg [.str b,.int .i64 (i:Int),.int .i64 (TE b i)],big 0]),H)=some (.ret (Qt b a (FC b f [] (401-(i-f)+1) i)),H):=fun hc=>by
      rw [FC,if_pos hs,if_pos ⟨hc.2,hc.1⟩]
      simp only [Qt,BW,Cy,Gk,hstp]
     have hfl:f<b.length:=by omega
     have hgf:b[f]? = some b[f]:=Yu hfl
     by_cases hfi:f<i
     ·have hfi1:¬(i:Int)=(f:Int):=by omega
      have hfi2:(i:Int)>(f:Int):=by omega
      by_cases h48:b[f]=48
      ·have hbad:=bad ⟨by rw [hgf,h48],hfi⟩
       cases m with
       | false=>
        simp only [GMb,GMc,HPa,HPc,HPd,HPe,HPz,Nat.reduceAdd,Nat.reduceLT,Ai,he,hend,B9 hlt,B9 hfl,hge,hle,hfi1,hfi2,Xo,h48,hst,hb0,hz]
        exact hbad
       | true=>
        simp only [GMb,GMc,HPa,HPc,HPd,HPe,HPz,Nat.reduceAdd,Nat.reduceLT,Ai,he,hend,B9 hlt,B9 hfl,hge,hle,hfi1,hfi2,Xo,h48,hst,hb0,hz]
        exact hbad
      ·have hgo:=go (fun hc=>h48 (by have:=hc.2;rw [hgf]at this;exact Z9 this))
       simp only [GMb,GMc,HPa,HPc,HPd,HPe,HPz,Nat.reduceAdd,Nat.reduceLT,hb0]at hgo
       cases m with
       | false=>
        simp only [GMb,GMc,HPa,HPc,HPd,HPe,HPz,Nat.reduceAdd,Nat.reduceLT,Ai,he,hend,B9 hlt,B9 hfl,hge,hle,hfi1,hfi2,Xo,h48,hst,hb0]
        exact hgo
       | true=>
        simp only [GMb,GMc,HPa,HPc,HPd,HPe,HPz,Nat.reduceAdd,Nat.reduceLT,Ai,he,hend,B9 hlt,B9 hfl,hge,hle,hfi1,hfi2,Xo,h48,hst,hb0]
        exact hgo
     ·have hif:i=f:=by omega
      have hfi1:(i:Int)=(f:Int):=by omega
      have hfi2:¬(i:Int)>(f:Int):=by omega
      have hgo:=go (fun hc=>hfi hc.1)
      simp only [GMb,GMc,HPa,HPc,HPd,HPe,HPz,Nat.reduceAdd,Nat.reduceLT,hb0]at hgo
      cases m with
      | false=>
       simp only [GMb,GMc,HPa,HPc,HPd,HPe,HPz,Nat.reduceAdd,Nat.reduceLT,Ai,he,hend,B9 hlt,hge,hle,hfi2,hst,hb0]
       exact hgo
      | true=>
       have h48:¬b[i]=48:=fun e'=>hm0 rfl (by rw [←hif,Yu hlt,e'])
       have hdd:decide ((i:Int)=(f:Int))=true:=decide_eq_true hfi1
       simp only [GMb,GMc,HPa,HPc,HPd,HPe,HPz,Nat.reduceAdd,Nat.reduceLT,Ai,he,hend,B9 hlt,hge,hle,hdd,hfi2,Xo,h48,hst,hb0]
       exact hgo
 have h45:BI b a [45]=isB b a 45:=by
  unfold isB
  by_cases h:a<b.length
  ·rw [JC h,Yu h];simp
  ·unfold BI;rw [YA (by omega)];simp
 have hsee:=fun e H=>r15_sees b a e 45 H
 unfold BW Cy at hsee
 rw [show (((45:UInt8).toNat:Int))=45 from rfl]at hsee
 unfold Sh.fx Sh.f8g BW Cy
 cases neg with
 | false=>
  have:=loop false a (Yz _) ha (fun h=>by cases h)
  have e:C4 b a false []=FC b a [] 402 a:=rfl
  rw [e]
  simp only [GMb,GMc,HPa,HPc,HPd,HPe,HPz,Nat.reduceAdd,Nat.reduceLT]at this ⊢
  exact this
 | true=>
  cases hm:isB b a 45 with
  | false=>
   have:=loop false a (Yz _) ha (fun h=>by cases h)
   have e:C4 b a true []=FC b a [] 402 a:=by simp [C4,Q6,h45,hm]
   rw [e]
   simp only [GMb,GMc,HPa,HPc,HPd,HPe,HPz,Nat.reduceAdd,Nat.reduceLT,hsee,hm]at this ⊢
   exact this
  | true=>
   have hlt:a<b.length:=by rw [←h45]at hm;exact F9 hm
   have hw:=Av (show a<9223372036854775807 by omega)
   cases h0:BI b (a+1) [48]with
   | false=>
    have e:C4 b a true []=FC b (a+1) [] 402 (a+1):=by simp [C4,Q6,h45,hm,h0]
    have:=loop true (a+1) (Qan _) hlt (fun _ hc=>by unfold BI at h0;rw [hc]at h0;cases h0)
    rw [e]
    simp only [GMb,GMc,HPa,HPc,HPd,HPe,HPz,Nat.reduceAdd,Nat.reduceLT,hsee,hm,hw]at this ⊢
    exact this
   | true=>
    have hlt1:=F9 h0
    have h48:b[a+1]=48:=by rw [JC hlt1]at h0;exact of_decide_eq_true h0
    have e:C4 b a true []=(some (Mn b (a+1) []),a+1):=by simp [C4,Q6,h45,hm,h0]
    rw [e]
    have he:=fun e H=>Gq b (a+1) e H
    have hst:=fun e H=>N6 b (a+1) e H
    unfold BW Cy at he hst
    have hnle:¬b.length≤a+1:=by omega
    have hstp:=J7 (show a+1≤b.length by omega) []
    simp only [GMb,GMc,HPa,HPc,HPd,HPe,HPz,Nat.reduceAdd,Nat.reduceLT,hsee,hm,hw]
    rw [Dd DU]
    unfold Sh.f5b
    simp only [GMb,GMc,HPa,HPc,HPd,HPe,HPz,Nat.reduceAdd,Nat.reduceLT,Ai,he,hnle,B9 hlt1,h48,Xo,show decide (((48:UInt8).toNat:Int)≥48)=true from by decide,show decide (((48:UInt8).toNat:Int)≤57)=true from by decide,show decide (((48:UInt8).toNat:Int)=48)=true from by decide,hst,hb0,Qt,BW,Cy,Gk,hstp,hz]
theorem r15_intX (b:List UInt8) (a:Nat) {e:Int} (he:e≠0) (neg:Bool) (H:Aa):Sh.fx (BW b a e) (.bool neg) H=some (.ret (.tup [BW b a e,big 0]),H):=by
 have hb0:A2 (some [(.bool false),(.sl [] .tight)]) []=some (.agg [.bool false,.sl [] .tight]):=rfl
 have hz:Ab.agg [.bool false,.sl [] .no]=big 0:=by rw [←OC];rfl
 unfold Sh.fx BW Cy
 simp only [GMb,GMc,HPa,HPc,HPd,HPe,HPz,Nat.reduceAdd,Nat.reduceLT,he,hb0,hz]
def By (M:Er×Nat) (f:Nat→Er×Nat):Er×Nat:=match M.1 with
 | some e=>(some e,M.2)
 | none=>f M.2
theorem K8 (e:Int×List UInt8) (c:Nat) (f:Nat→Er×Nat):By (some e,c) f=(some e,c):=rfl
theorem Cj (c:Nat) (f:Nat→Er×Nat):By (none,c) f=f c:=rfl
theorem QO {M:Er×Nat} {f:Nat→Er×Nat} (h:EL M.1) (hf:∀c,EL (f c).1):EL (By M f).1:=by
 obtain ⟨er,c⟩:=M
 cases er with
 | some e=>exact h
 | none=>exact hf c
theorem QN {M:Er×Nat} {f:Nat→Er×Nat} {n:Nat} (h:M.2≤n) (hf:∀c,c≤n→(f c).2≤n):(By M f).2≤n:=by
 obtain ⟨er,c⟩:=M
 cases er with
 | some e=>exact h
 | none=>exact hf c h
theorem Yc {er:Er} {e:Int×List UInt8} (h:EL er) (he:er=some e):e.1≠0:=by have:=h e he;omega
section
variable {b:List UInt8} {er:Er} {c:Nat}
theorem codeP_must (ha:c≤b.length) (s rest:List UInt8):Bu (BT b c s rest).1=litE b c s:=by
 unfold BT litE
 dsimp only
 split
 ·exact J7 (litN_le ha s) _
 ·rfl
theorem codeP_end (ha:c≤b.length) (rest:List UInt8):Bu (GU b c rest).1=We b c:=by
 unfold GU We
 dsimp only
 split
 ·rfl
 ·split
  ·rfl
  ·exact J7 (by
    unfold crN
    split
    ·rename_i h;exact F9 h
    ·exact ha) _
theorem codeP_rul (ha:c≤b.length) (rest:List UInt8):Bu (Hg b c rest).1=ruleE b c:=by
 unfold Hg ruleE
 dsimp only
 split
 ·exact J7 ha _
 ·rfl
def Alike (x y:Er×Nat):Prop:=x.2=y.2∧Bu x.1=Bu y.1∧(x.1=none↔y.1=none)
theorem stpR_alike (b:List UInt8) (a:Nat) (s t:List UInt8):(Mn b a s).1=(Mn b a t).1:=by unfold Mn;split <;> rfl
theorem V4 (b:List UInt8) (f:Nat) (r s:List UInt8):∀n a,Alike (FC b f r n a) (FC b f s n a)
 | 0,a=>⟨rfl,rfl,Iff.rfl⟩
 | n+1,a=>by
  unfold FC
  split
  ·split
   ·exact ⟨rfl,rfl,Iff.rfl⟩
   ·split
    ·exact ⟨rfl,rfl,Iff.rfl⟩
    ·exact V4 b f r s n (a+1)
  ·split
   ·exact ⟨rfl,stpR_alike _ _ _ _,by simp⟩
   ·exact ⟨rfl,rfl,Iff.rfl⟩
theorem intS_alike (b:List UInt8) (a:Nat) (neg:Bool) (r s:List UInt8):Alike (C4 b a neg r) (C4 b a neg s):=by
 unfold C4
 split
 ·exact ⟨rfl,rfl,Iff.rfl⟩
 ·exact V4 _ _ _ _ _ _
theorem d_lit (hc:c≤b.length) (hb:b.length<1000000000000) (he:EL er) (s rest:List UInt8) (K:Aa):Sh.fq (BW b c (Bu er)) (.str s) K=some (.ret (BW b (By (er,c) fun c=>BT b c s rest).2 (Bu (By (er,c) fun c=>BT b c s rest).1)),K):=by
 cases er with
 | some e=>rw [K8];exact r15_litX b c (Yc he rfl) s K
 | none=>
  rw [Cj,codeP_must hc]
  exact r15_lit hc (by omega) s K
theorem d_eol (hc:c≤b.length) (hb:b.length<1000000000000) (he:EL er) (K:Aa):Sh.fr (BW b c (Bu er)) K=some (.ret (BW b (By (er,c) fun c=>GU b c []).2 (Bu (By (er,c) fun c=>GU b c []).1)),K):=by
 cases er with
 | some e=>rw [K8];exact r15_eolX b c (Yc he rfl) K
 | none=>
  rw [Cj,codeP_end hc]
  exact r15_eol hc (by omega) K
theorem d_rule (hc:c≤b.length) (hb:b.length<1000000000000) (he:EL er):∃s,(∀K,Sh.f1a (BW b c (Bu er)) K=some (.ret (.tup [BW b (By (er,c) fun c=>Hg b c []).2 (Bu (By (er,c) fun c=>Hg b c []).1),.str s]),K))∧((By (er,c) fun c=>Hg b c []).1=none→s=(b.take (By (er,c) fun c=>Hg b c []).2).drop c):=by
 cases er with
 | some e=>rw [K8];exact ⟨[],fun K=>r15_ruleX b c (Yc he rfl) K,fun h=>by cases h⟩
 | none=>
  rw [Cj,codeP_rul hc]
  refine ⟨_,fun K=>r15_rule hc (by omega) K,fun h=>?_⟩
  unfold Hg at h
  dsimp only at h
  split at h
  ·cases h
  ·rename_i hn
   rw [if_neg hn];rfl
theorem zero_lt:(0:Int).natAbs<10^400:=by
 have:=OQ []
 rwa [show Bv []=0 from by decide]at this
theorem d_int (hc:c≤b.length) (hb:b.length<1000000000000) (he:EL er) (rest:List UInt8):∃z,(∀K,Sh.fx (BW b c (Bu er)) (.bool true) K=some (.ret (.tup [BW b (By (er,c) fun c=>C4 b c true rest).2 (Bu (By (er,c) fun c=>C4 b c true rest).1),big z]),K))∧((By (er,c) fun c=>C4 b c true rest).1=none→z=Bv ((b.take (By (er,c) fun c=>C4 b c true rest).2).drop c))∧z.natAbs<10^400:=by
 cases er with
 | some e=>rw [K8];exact ⟨0,fun K=>r15_intX b c (Yc he rfl) true K,(fun h=>by cases h),zero_lt⟩
 | none=>
  rw [Cj]
  obtain ⟨h1,h2,h3⟩:=intS_alike b c true [] rest
  have hi:=fun K=>r15_int hc (show b.length<1152921504606846976 by omega) true K
  unfold Qt at hi
  rw [h1,h2]at hi
  refine ⟨_,hi,fun h=>?_,?_⟩
  ·rw [h3.2 h]
  ·split
   ·exact OQ _
   ·exact zero_lt
theorem r15P_finishE (b:List UInt8) (c:Nat) {e:Int} (he:e≠0) {p m:List Ab} (hp:p.all Ab.isScal=true) (hpl:p.length=2) (hm:m.all Ab.isScal=true) (hml:m.length=2) (e3:Ab) (K:Aa) :
  Sh.f1b (.agg [.str b,.int .i64 (c:Int),.int .i64 e]) (.agg p) e3 (.agg m) K=some (.ret (.tup [.agg [.str [],.sl [] .no],.int .i64 (c:Int),.int .i64 e]),K):=by
 have hf:decide (e=0)=false:=decide_eq_false he
 have b1:A2 (some [(.str []),(.sl [] .tight)]) []=some (.agg [.str [],.sl [] .tight]):=rfl
 unfold Sh.f1b
 simp only [GMb,GMc,HPa,HPc,HPd,HPe,HPz,Nat.reduceAdd,Nat.reduceLT,hp,hpl,hm,hml,hf,b1]
theorem r15P_finish (b:List UInt8) (c:Nat) (law:List UInt8) (Q:List Nd) (bx N e3:Int) (K:Aa) :
  Sh.f1b (.agg [.str b,.int .i64 (c:Int),.int .i64 0]) (.agg [.str law,.sl (enL cNd Q) .no]) (.int .i64 e3) (.agg [.int .i64 bx,.int .i64 N]) K =
   some (.ret (if e3=0∧(Q.length:Int)≤N then .tup [.agg [.str law,.sl (enL cNd Q) .no],.int .i64 0,.int .i64 0]else .tup [.agg [.str [],.sl [] .no],.int .i64 (b.length:Int),.int .i64 4]),K):=by
 have b1:A2 (some [(.str []),(.sl [] .tight)]) []=some (.agg [.str [],.sl [] .tight]):=rfl
 unfold Sh.f1b
 by_cases he:e3=0
 ·have hf:decide (e3=0)=true:=decide_eq_true he
  by_cases hq:(Q.length:Int)≤N
  ·have hg:decide ((Q.length:Int)>N)=false:=decide_eq_false (by omega)
   rw [if_pos ⟨he,hq⟩]
   simp only [GMb,GMc,HPa,HPc,HPd,HPe,HPz,Nat.reduceAdd,Nat.reduceLT,hf,b1,Aw,hg]
  ·have hg:decide ((Q.length:Int)>N)=true:=decide_eq_true (by omega)
   rw [if_neg (fun h=>hq h.2)]
   simp only [GMb,GMc,HPa,HPc,HPd,HPe,HPz,Nat.reduceAdd,Nat.reduceLT,hf,b1,Aw,hg]
 ·have hf:decide (e3=0)=false:=decide_eq_false he
  rw [if_neg (fun h=>he h.1)]
  simp only [GMb,GMc,HPa,HPc,HPd,HPe,HPz,Nat.reduceAdd,Nat.reduceLT,hf,b1]

end
theorem q07_ofC (L:List Cl) (tk:Tok) (H:Aa) (hl:L.length<700000000) (hok:∀c∈L,c.ok):Sh.f2j (.sl (enL cCl L) tk) H=some (.ret (.tup [El (HV L).1,.int .i64 (HV L).2]),H):=by
 have h:=q07_of (L.map rcC) tk H (by rw [Zx];omega) (fun r hr=>by obtain ⟨c,hc,rfl⟩:=ZQ.1 hr;exact rcC_fits (hok c hc)) (fun r hr _=>by obtain ⟨c,hc,rfl⟩:=ZQ.1 hr;rw [rcC_cl];exact hok c hc)
 rw [all_rcC,enL_rcC,map_rcC,if_pos rfl]at h
 exact h
theorem sees_is {b:List UInt8} {a:Nat} (ha:a<b.length) (c:UInt8):isB b a c=BI b a [c]:=by
 rw [JC ha]
 unfold isB
 rw [Yu ha]
 simp
structure DI (H:Aa) (b:List UInt8) (bx N:Int) (er:Er) (c:Nat) (K:Aa):Prop where
 lim:K[H.length]? = some (.cel 0 [.int .i64 bx,.int .i64 N])
 res:K[H.length+1]? = some (.cel 0 [.str [],.sl [] .tight])
 cur:K[H.length+2]? = some (.cel 0 (Cy b c (Bu er)))
 old:∀i,i<H.length→K[i]? = H[i]?
section
variable {H:Aa} {b:List UInt8} {bx N:Int} {er:Er} {c:Nat} {st:PSt} {v:Ab} {K:Aa}
theorem DI.len (h:DI H b bx N er c K):H.length+2<K.length:=(Yw.1 h.cur).1
theorem DI.push (h:DI H b bx N er c K) (G:Aa):DI H b bx N er c (K++G):=
 ⟨A1 h.lim,A1 h.res,A1 h.cur,fun i hi=>by have:=h.len;rw [Yx (by omega)];exact h.old i hi⟩
theorem DI.kp (h:DI H b bx N er c K) {K':Aa} (hk:Kp H.length K K'):DI H b bx N er c K':=
 ⟨hk.cel _ _ h.lim,hk.cel _ _ h.res,hk.cel _ _ h.cur,fun i hi=>(hk.old i hi).trans (h.old i hi)⟩
theorem DI.mv (h:DI H b bx N er c K) (er':Er) (c':Nat):DI H b bx N er' c' (K.set (H.length+2) (.cel 0 (Cy b c' (Bu er')))):=by
 have hl:=h.len
 refine ⟨?_,?_,?_,fun i hi=>?_⟩
 ·rw [Yv (by omega)];exact h.lim
 ·rw [Yv (by omega)];exact h.res
 ·rw [Y9 (by omega)]
 ·rw [Yv (by omega)];exact h.old i hi
theorem DI.ld (h:DI H b bx N er c K):Ac true 3 (.ptr (H.length+2) 0 0) K=some (BW b c (Bu er)):=ET (sz:=3) h.cur rfl
theorem DI.sto (h:DI H b bx N er c K) (c':Nat) (e':Int):Af 3 (.ptr (H.length+2) 0 0) (BW b c' e') K=some (K.set (H.length+2) (.cel 0 (Cy b c' e'))):=FZ (sz:=3) h.cur rfl rfl rfl
theorem DI.le3 (h:DI H b bx N er c K):Ac false 1 (.ptr (H.length+2) 0 2) K=some (.int .i64 (Bu er)):=by rw [CR h.cur];rfl
theorem cur_box (G:Aa) (b:List UInt8) (c:Nat) (e:Int):Af 3 (.ptr G.length 0 0) (BW b c e) (G++[.cel 0 [.str [],.int .i64 0,.int .i64 0]])=some (G++[.cel 0 (Cy b c e)]):=by
 unfold BW
 rw [FZ (sz:=3) (ws:=Cy b c e) Ap rfl rfl rfl,Bd]
theorem Yh (G:Aa):Ax (some [(.str []),(.int .i64 0),(.int .i64 0)]) G=some (.ptr G.length 0 0,G++[.cel 0 [.str [],.int .i64 0,.int .i64 0]]):=alloc_eq rfl
theorem big_box (G:Aa) (z:Int):Af 2 (.ptr G.length 0 0) (big z) (G++[.cel 0 [.bool false,.sl [] .tight]])=some (G++[.cel 0 (A6 z)]):=by rw [Cu (Ap (B:=G)) rfl,Bd]
theorem oneP_law {a:Nat} (h:BI b a [35]=true):(FB b a st).1=By (By (By (none,a) fun c=>BT b c G6 [97]) fun c=>Hg b c []) fun c=>GU b c []:=by
 unfold FB NY WS WW
 rw [if_pos h,Cj]
 generalize BT b a G6 [97]=M
 obtain ⟨er,c⟩:=M
 cases er with
 | some e=>rfl
 | none=>
  dsimp only
  rw [Cj]
  generalize Hg b c []=M
  obtain ⟨er,d⟩:=M
  cases er with
  | some e=>rfl
  | none=>rfl
theorem oneP_law2 {a:Nat} (h:BI b a [35]=true) (hn:(FB b a st).1.1=none):(FB b a st).2={ st with law:=(b.take (By (By (none,a) fun c=>BT b c G6 [97]) fun c=>Hg b c []).2).drop (By (none,a) fun c=>BT b c G6 [97]).2 }∧(By (By (none,a) fun c=>BT b c G6 [97]) fun c=>Hg b c []).1=none:=by
 unfold FB NY WS WW at hn ⊢
 rw [if_pos h]at hn ⊢
 rw [Cj]
 generalize BT b a G6 [97]=M at *
 obtain ⟨er,c⟩:=M
 cases er with
 | some e=>cases hn
 | none=>
  dsimp only at hn ⊢
  rw [Cj]
  generalize Hg b c []=M at *
  obtain ⟨er,d⟩:=M
  cases er with
  | some e=>cases hn
  | none=>exact ⟨rfl,rfl⟩
theorem oneP_place {a:Nat} (h:BI b a [35]=false):(FB b a st).1=By (By (By (By (none,a) fun c=>C4 b c true [32,49]) fun c=>BT b c Ei [49]) fun c=>C4 b c true []) fun c=>GU b c []:=by
 unfold FB NY Jt WW
 rw [if_neg (by rw [h];decide),Cj]
 generalize C4 b a true [32,49]=M
 obtain ⟨er,c⟩:=M
 cases er with
 | some e=>rfl
 | none=>
  dsimp only
  rw [Cj]
  generalize BT b c Ei [49]=M
  obtain ⟨er,d⟩:=M
  cases er with
  | some e=>rfl
  | none=>
   dsimp only
   rw [Cj]
   generalize C4 b d true []=M
   obtain ⟨er,f⟩:=M
   cases er with
   | some e=>rfl
   | none=>rfl
theorem oneP_place2 {a:Nat} (h:BI b a [35]=false) (hn:(FB b a st).1.1=none) :
  (FB b a st).2={ st with cells:=st.cells++[⟨Bv ((b.take (By (none,a) fun c=>C4 b c true [32,49]).2).drop a),Bv ((b.take (By (By (By (none,a) fun c=>C4 b c true [32,49]) fun c=>BT b c Ei [49]) fun c=>C4 b c true []).2).drop (By (By (none,a) fun c=>C4 b c true [32,49]) fun c=>BT b c Ei [49]).2),1⟩] } ∧
   (By (none,a) fun c=>C4 b c true [32,49]).1=none∧(By (By (By (none,a) fun c=>C4 b c true [32,49]) fun c=>BT b c Ei [49]) fun c=>C4 b c true []).1=none:=by
 unfold FB NY Jt WW at hn ⊢
 rw [if_neg (by rw [h];decide)]at hn ⊢
 rw [Cj]
 generalize C4 b a true [32,49]=M at *
 obtain ⟨er,c⟩:=M
 cases er with
 | some e=>cases hn
 | none=>
  dsimp only at hn ⊢
  rw [Cj]
  generalize BT b c Ei [49]=M at *
  obtain ⟨er,d⟩:=M
  cases er with
  | some e=>cases hn
  | none=>
   dsimp only at hn ⊢
   rw [Cj]
   generalize C4 b d true []=M at *
   obtain ⟨er,f⟩:=M
   cases er with
   | some e=>cases hn
   | none=>exact ⟨rfl,rfl,rfl⟩
theorem r17_turn {a:Nat} (h:DI H b bx N none a K) (hR:RS cCl A0 5 H.length st.cells v K) (ha:a<b.length) (hb:b.length<100000000) (hn:st.cells.length<1000000000) :
  ∃law' v' K',(∀rec:LK,Sh.f1c H rec (.ptr H.length 0 0) (.ptr (H.length+1) 0 0) (.ptr (H.length+2) 0 0) (.str st.law) v K=rec [.ptr H.length 0 0,.ptr (H.length+1) 0 0,.ptr (H.length+2) 0 0,.str law',v'] K') ∧
   DI H b bx N (FB b a st).1.1 (FB b a st).1.2 K'∧((FB b a st).1.1=none→law'=(FB b a st).2.law∧RS cCl A0 5 H.length (FB b a st).2.cells v' K'):=by
 have hle:a≤b.length:=by omega
 have hend:decide (b.length≤a)=false:=decide_eq_false (by omega)
 have hld:=h.ld
 rw [EY]at hld
 have hl3:=h.le3
 have h35:=fun K=>r15_sees b a 0 35 K
 rw [show ((35:UInt8).toNat:Int)=35 from rfl,sees_is ha,decide_eq_true (rfl:(0:Int)=0),Zu]at h35
 have hended:=fun K=>Gq b a 0 K
 rw [hend]at hended
 rw [EY]at hl3
 unfold Sh.f1c
 cases hs:BI b a [35]with
 | true=>
  rw [hs]at h35
  have hM1:EL (By (none,a) fun c=>BT b c G6 [97]).1:=JJ _ _ _ _
  have hM1l:(By (none,a) fun c=>BT b c G6 [97]).2≤b.length:=GA hle
  have s1:=fun K=>d_lit (er:=none) hle (by omega) EL.none G6 [97] K
  have hone:=oneP_law (st:=st) hs
  have hone2:=oneP_law2 (st:=st) hs
  generalize (By (none,a) fun c=>BT b c G6 [97])=M1 at *
  obtain ⟨e1,c1⟩:=M1
  dsimp only at hM1 hM1l s1
  obtain ⟨r,s2,s2n⟩:=d_rule hM1l (show b.length<1000000000000 by omega) hM1
  have hM2:EL (By (e1,c1) fun c=>Hg b c []).1:=QO hM1 fun c=>rulS_er _ _ _
  have hM2l:(By (e1,c1) fun c=>Hg b c []).2≤b.length:=QN hM1l fun c hc=>(rulS_le hc).2
  generalize (By (e1,c1) fun c=>Hg b c [])=M2 at *
  obtain ⟨e2,c2⟩:=M2
  dsimp only at hM2 hM2l s2 s2n
  have s3:=fun K=>d_eol hM2l (show b.length<1000000000000 by omega) hM2 K
  rw [←hone]at s3
  have g1:=h.mv e1 c1
  have st1:=h.sto c1 (Bu e1)
  have R1:=hR.put (c':=Cy b c1 (Bu e1)) h.cur
  generalize K.set (H.length+2) (.cel 0 (Cy b c1 (Bu e1)))=K1 at g1 st1 R1
  have bx2:=cur_box K1 b c2 (Bu e2)
  have g2:=g1.push [.cel 0 (Cy b c2 (Bu e2))]
  have R2:=R1.left [.cel 0 (Cy b c2 (Bu e2))]
  have ld2:Ac true 3 (.ptr K1.length 0 0) (K1++[.cel 0 (Cy b c2 (Bu e2))])=some (BW b c2 (Bu e2)):=ET (sz:=3) Ap rfl
  have ca:=Yh K1
  have l1:=g1.ld
  refine ⟨r,v,(K1++[Blk.cel 0 (Cy b c2 (Bu e2))]).set (H.length+2) (.cel 0 (Cy b (FB b a st).1.2 (Bu (FB b a st).1.1))),fun rec=>?_,g2.mv _ _,fun hno=>?_⟩
  ·have st3:=g2.sto (FB b a st).1.2 (Bu (FB b a st).1.1)
   rw [EY]at s1
   unfold G6 at s1
   simp only [GMb,GMc,hl3,hld,hended,h35,s1,st1,AL,l1,s2,B1,B8,ca,bx2,ld2,s3,st3,Ah,Yy,Zt,beq_self_eq_true]
  ·obtain ⟨q1,q2⟩:=hone2 hno
   rw [q1]
   dsimp only at q2 ⊢
   exact ⟨s2n q2,R2.put g2.cur⟩
 | false=>
  rw [hs]at h35
  have hM1:EL (By (none,a) fun c=>C4 b c true [32,49]).1:=Un _ _ _ _
  have hM1l:(By (none,a) fun c=>C4 b c true [32,49]).2≤b.length:=(OZ hle _ _).2
  obtain ⟨x,s1,s1n,xl⟩:=d_int (er:=none) hle (show b.length<1000000000000 by omega) EL.none [32,49]
  have hone:=oneP_place (st:=st) hs
  have hone2:=oneP_place2 (st:=st) hs
  generalize (By (none,a) fun c=>C4 b c true [32,49])=M1 at *
  obtain ⟨e1,c1⟩:=M1
  dsimp only at hM1 hM1l s1 s1n
  have s2:=fun K=>d_lit hM1l (show b.length<1000000000000 by omega) hM1 Ei [49] K
  have hM2:EL (By (e1,c1) fun c=>BT b c Ei [49]).1:=QO hM1 fun c=>JJ _ _ _ _
  have hM2l:(By (e1,c1) fun c=>BT b c Ei [49]).2≤b.length:=QN hM1l fun c hc=>GA hc
  generalize (By (e1,c1) fun c=>BT b c Ei [49])=M2 at *
  obtain ⟨e2,c2⟩:=M2
  dsimp only at hM2 hM2l s2
  obtain ⟨y,s3,s3n,yl⟩:=d_int hM2l (show b.length<1000000000000 by omega) hM2 []
  have hM3:EL (By (e2,c2) fun c=>C4 b c true []).1:=QO hM2 fun c=>Un _ _ _ _
  have hM3l:(By (e2,c2) fun c=>C4 b c true []).2≤b.length:=QN hM2l fun c hc=>(OZ hc _ _).2
  generalize (By (e2,c2) fun c=>C4 b c true [])=M3 at *
  obtain ⟨e3,c3⟩:=M3
  dsimp only at hM3 hM3l s3 s3n
  have s4:=fun K=>d_eol hM3l (show b.length<1000000000000 by omega) hM3 K
  rw [←hone]at s4
  have ca:=Yh K
  have cb:∀G:Aa,Ax (some [(.bool false),(.sl [] .tight)]) G=some (.ptr G.length 0 0,G++[.cel 0 [.bool false,.sl [] .tight]]):=Cd
  obtain ⟨K1,hK1⟩:∃K1,K1=K++[Blk.cel 0 (Cy b c1 (Bu e1)),.cel 0 (A6 x)]:=⟨_,rfl⟩
  have st1:Af 3 (.ptr K.length 0 0) (BW b c1 (Bu e1)) (K++[.cel 0 [.str [],.int .i64 0,.int .i64 0]]++[.cel 0 [.bool false,.sl [] .tight]])=some (K++[.cel 0 (Cy b c1 (Bu e1))]++[.cel 0 [.bool false,.sl [] .tight]]):=by
   rw [show BW b c1 (Bu e1)=.agg (Cy b c1 (Bu e1)) from rfl,FZ (sz:=3) (ws:=Cy b c1 (Bu e1)) (A1 Ap) rfl rfl rfl,Qau _ _ (by simp),Bd]
  have st2:Af 2 (.ptr (K++[Blk.cel 0 [.str [],.int .i64 0,.int .i64 0]]).length 0 0) (big x) (K++[.cel 0 (Cy b c1 (Bu e1))]++[.cel 0 [.bool false,.sl [] .tight]])=some K1:=by
   have:=big_box (K++[Blk.cel 0 (Cy b c1 (Bu e1))]) x
   rw [hK1]
   simp only [Y2,List.length_singleton]at this ⊢
   rw [this];simp
  have p67:(K++[Blk.cel 0 [Ab.str [],.int .i64 0,.int .i64 0]]).length=K.length+1:=by simp
  have g1:DI H b bx N none a K1:=by rw [hK1];exact h.push _
  have R1:RS cCl A0 5 H.length st.cells v K1:=by rw [hK1];exact hR.left _
  have hKl:=h.len
  have c65:K1[K.length]? = some (.cel 0 (Cy b c1 (Bu e1))):=by rw [hK1];simp
  have x67:K1[K.length+1]? = some (.cel 0 (A6 x)):=by rw [hK1];simp
  have ld1:Ac true 3 (.ptr K.length 0 0) K1=some (BW b c1 (Bu e1)):=ET (sz:=3) c65 rfl
  have st3:Af 3 (.ptr K.length 0 0) (BW b c2 (Bu e2)) K1=some (K1.set K.length (.cel 0 (Cy b c2 (Bu e2)))):=FZ (sz:=3) c65 rfl rfl rfl
  have hK1l:K.length+1<K1.length:=(Yw.1 x67).1
  obtain ⟨K2,hK2⟩:∃K2,K2=K1.set K.length (.cel 0 (Cy b c2 (Bu e2))):=⟨_,rfl⟩
  have hK2l:K2.length=K1.length:=by rw [hK2];simp
  have g2:DI H b bx N none a K2:=by
   rw [hK2]
   exact ⟨by rw [Yv (by omega)];exact g1.lim,by rw [Yv (by omega)];exact g1.res,by rw [Yv (by omega)];exact g1.cur,fun i hi=>by rw [Yv (by omega)];exact g1.old i hi⟩
  have R2:RS cCl A0 5 H.length st.cells v K2:=by rw [hK2];exact R1.put c65
  have c65b:K2[K.length]? = some (.cel 0 (Cy b c2 (Bu e2))):=by rw [hK2,Y9 (by omega)]
  have x67b:K2[K.length+1]? = some (.cel 0 (A6 x)):=by rw [hK2,Yv (by omega)];exact x67
  rw [←hK2]at st3
  have ld2:Ac true 3 (.ptr K.length 0 0) K2=some (BW b c2 (Bu e2)):=ET (sz:=3) c65b rfl
  obtain ⟨K3,hK3⟩:∃K3,K3=K2.set K.length (.cel 0 (Cy b c3 (Bu e3)))++[.cel 0 (A6 y)]:=⟨_,rfl⟩
  have st4:Af 3 (.ptr K.length 0 0) (BW b c3 (Bu e3)) (K2++[.cel 0 [.bool false,.sl [] .tight]])=some (K2.set K.length (.cel 0 (Cy b c3 (Bu e3)))++[.cel 0 [.bool false,.sl [] .tight]]):=by
   rw [show BW b c3 (Bu e3)=.agg (Cy b c3 (Bu e3)) from rfl,FZ (sz:=3) (ws:=Cy b c3 (Bu e3)) (A1 c65b) rfl rfl rfl,Qau _ _ (by omega)]
  have st5:Af 2 (.ptr K2.length 0 0) (big y) (K2.set K.length (.cel 0 (Cy b c3 (Bu e3)))++[.cel 0 [.bool false,.sl [] .tight]])=some K3:=by
   have:=big_box (K2.set K.length (.cel 0 (Cy b c3 (Bu e3)))) y
   rw [YW]at this
   rw [this,hK3]
  have g3:DI H b bx N none a K3:=by
   rw [hK3]
   refine DI.push ⟨by rw [Yv (by omega)];exact g2.lim,by rw [Yv (by omega)];exact g2.res,by rw [Yv (by omega)];exact g2.cur,fun i hi=>by rw [Yv (by omega)];exact g2.old i hi⟩ _
  have R3:RS cCl A0 5 H.length st.cells v K3:=by rw [hK3];exact (R2.put c65b).left _
  have hsl:(K2.set K.length (.cel 0 (Cy b c3 (Bu e3)))).length=K2.length:=by simp
  have c65c:K3[K.length]? = some (.cel 0 (Cy b c3 (Bu e3))):=by rw [hK3,Yx (by omega),Y9 (by omega)]
  have x67c:K3[K.length+1]? = some (.cel 0 (A6 x)):=by rw [hK3,Yx (by omega),Yv (by omega)];exact x67b
  have y83:K3[K2.length]? = some (.cel 0 (A6 y)):=by rw [hK3,←hsl];exact Ap
  have ld3:Ac true 3 (.ptr K.length 0 0) K3=some (BW b c3 (Bu e3)):=ET (sz:=3) c65c rfl
  have ldx:Ac true 2 (.ptr (K.length+1) 0 0) K3=some (big x):=AW x67c
  have ldy:Ac true 2 (.ptr K2.length 0 0) K3=some (big y):=AW y83
  obtain ⟨w,K4,r1,r2,r3⟩:=R3.snoc (bytes:=72) (by have:=g3.len;omega) ⟨x,y,1⟩ .tight (by omega) (by omega)
  have g4:=g3.kp r3
  refine ⟨st.law,w,K4.set (H.length+2) (.cel 0 (Cy b (FB b a st).1.2 (Bu (FB b a st).1.1))),fun rec=>?_,g4.mv _ _,fun hno=>?_⟩
  ·have st6:=g4.sto (FB b a st).1.2 (Bu (FB b a st).1.1)
   rw [EY]at s1
   unfold Ei at s2
   rw [p67]at st2
   simp only [GMb,GMc,hl3,hld,hended,h35,s1,B1,B8,ca,cb,st1,p67,st2,AL,ld1,s2,st3,ld2,s3,st4,st5,ld3,s4,ldx,ldy,build_pl,Kl,r1,st6,Ah,Yy,Zt,beq_self_eq_true,BN,and_self,GI]
  ·obtain ⟨q1,q2,q3⟩:=hone2 hno
   rw [q1]
   dsimp only at q2 q3 ⊢
   rw [s1n q2,s3n q3]at r2
   exact ⟨rfl,r2.put g4.cur⟩

end
def finP (b:List UInt8) (N:Int) (A:(Er×Nat)×PSt):(List UInt8×List Nd)×Int×Int:=
 match A with
 | ((some e,c),_)=>(([],[]),(c:Int),e.1)
 | ((none,_),st)=>
  if decide ((HV st.cells).2=0)&&decide (((HV st.cells).1.length:Int)≤N)then ((st.law,(HV st.cells).1),0,0)
  else (([],[]),(b.length:Int),4)
theorem finP_ok (b:List UInt8) (N:Int) (c:Nat) (st:PSt):finP b N ((none,c),st)=if (HV st.cells).2=0∧((HV st.cells).1.length:Int)≤N then ((st.law,(HV st.cells).1),0,0)else (([],[]),(b.length:Int),4):=by
 unfold finP
 by_cases h1:(HV st.cells).2=0
 ·by_cases h2:((HV st.cells).1.length:Int)≤N
  ·simp [h1,h2]
  ·simp [h1,h2]
 ·simp [h1]
theorem readP_eq (b:List UInt8) (bx N:Int):N4 b bx N=if JR bx N then finP b N (MT b TG)else (([],[]),0,1):=rfl
section
variable {H:Aa} {b:List UInt8} {bx N:Int} {er:Er} {c:Nat} {st:PSt} {v:Ab} {K:Aa}
theorem r17_err {e:Int×List UInt8} (h:DI H b bx N (some e) c K) (he:e.1≠0) (law:List UInt8) (v:Ab) (rec:LK) :
  Sh.f1c H rec (.ptr H.length 0 0) (.ptr (H.length+1) 0 0) (.ptr (H.length+2) 0 0) (.str law) v K=some (.ret (F0 (([],[]),(c:Int),e.1)),H):=by
 have hf:decide (e.1=0)=false:=decide_eq_false he
 have hl3:=h.le3
 have hld:=h.ld
 have b1:A2 (some [(.str []),(.sl [] .tight)]) []=some (.agg [.str [],.sl [] .tight]):=rfl
 have hlm:=ET (sz:=2) h.lim rfl
 have fine:=fun K=>r15P_finishE b c he (p:=[.str [],.sl [] .tight]) (m:=[.int .i64 bx,.int .i64 N]) rfl rfl rfl rfl (.int .i64 0) K
 have hst2:=FZ (sz:=2) (ws:=[.str [],.sl [] .no]) h.res rfl rfl rfl
 have hl:=h.len
 have hset:(K.set (H.length+1) (.cel 0 [.str [],.sl [] .no]))[H.length+1]? = some (.cel 0 [.str [],.sl [] .no]):=by rw [Y9 (by omega)]
 have hld2:=ET (sz:=2) hset rfl
 have htk:(K.set (H.length+1) (.cel 0 [.str [],.sl [] .no])).take H.length=H:=Cv fun i hi=>by rw [Yv (by omega)];exact h.old i hi
 have hcv:BW b c (Bu (some e))=.agg [.str b,.int .i64 (c:Int),.int .i64 e.1]:=rfl
 rw [Gk]at hl3
 rw [hcv]at hld
 unfold Sh.f1c
 simp only [GMb,GMc,HPa,HPc,HPd,HPe,HPz,Nat.reduceAdd,Nat.reduceLT,hl3,hf,hld,b1,hlm,fine,hst2,hld2,Gc htk,F0,HC]
 rfl
theorem r17_fin (h:DI H b bx N none b.length K) (hR:RS cCl A0 5 H.length st.cells v K) (hn:st.cells.length<600000000) (hok:∀c∈st.cells,c.ok) (rec:LK) :
  Sh.f1c H rec (.ptr H.length 0 0) (.ptr (H.length+1) 0 0) (.ptr (H.length+2) 0 0) (.str st.law) v K=some (.ret (F0 (finP b N ((none,b.length),st))),H):=by
 obtain ⟨tk,rfl⟩:=hR.sl
 have hl3:=h.le3
 have hld:=h.ld
 rw [EY]at hl3 hld
 have hended:=fun K=>Gq b b.length 0 K
 rw [decide_eq_true (Yz _)]at hended
 have hof:=fun K=>q07_ofC st.cells tk K (by omega) hok
 have hal:Ax (some [(.sl [] .tight)]) K=some (.ptr K.length 0 0,K++[.cel 0 [.sl [] .tight]]):=alloc_eq rfl
 have hl:=h.len
 unfold Sh.f1c
 rw [finP_ok]
 generalize HV st.cells=O at hof
 obtain ⟨Q,e3⟩:=O
 dsimp only at hof ⊢
 have hbd:A2 (some [(.str []),(.sl [] .tight)]) [(0,1,.str st.law),(1,1,.agg [.sl (enL cNd Q) .no])]=some (.agg [.str st.law,.sl (enL cNd Q) .no]):=rfl
 have hst1:Af 1 (.ptr K.length 0 0) (.agg [.sl (enL cNd Q) .no]) (K++[.cel 0 [.sl [] .tight]])=some (K++[.cel 0 [.sl (enL cNd Q) .no]]):=by
  rw [FZ (sz:=1) (ws:=[.sl (enL cNd Q) .no]) Ap rfl rfl rfl,Bd]
 have g:=h.push [Blk.cel 0 [.sl (enL cNd Q) .no]]
 have l4:(K++[Blk.cel 0 [.sl (enL cNd Q) .no]])[K.length]? = some (.cel 0 [.sl (enL cNd Q) .no]):=Ap
 have ld4:=ET (sz:=1) l4 rfl
 have ldc:=g.ld
 have ldm:=ET (sz:=2) g.lim rfl
 have hcv:BW b b.length (Bu none)=.agg [.str b,.int .i64 (b.length:Int),.int .i64 0]:=rfl
 rw [hcv]at ldc
 have fin:=fun K=>r15P_finish b b.length st.law Q bx N e3 K
 have htk:∀B,((K++[Blk.cel 0 [.sl (enL cNd Q) .no]]).set (H.length+1) B).take H.length=H:=fun B=>Cv fun i hi=>by rw [Yv (by omega)];exact g.old i hi
 have hset:∀B,((K++[Blk.cel 0 [.sl (enL cNd Q) .no]]).set (H.length+1) B)[H.length+1]? = some B:=fun B=>by rw [Y9 (by rw [Y2];omega)]
 by_cases hq:e3=0∧(Q.length:Int)≤N
 ·rw [if_pos hq]at fin ⊢
  have hst2:=FZ (sz:=2) (ws:=[.str st.law,.sl (enL cNd Q) .no]) g.res rfl rfl rfl
  have hld2:=ET (sz:=2) (hset (.cel 0 [.str st.law,.sl (enL cNd Q) .no])) rfl
  simp only [GMb,GMc,hl3,hld,hended,Zi,Ah,Yy,beq_self_eq_true,hof,B1,B8,hal,Va,hst1,AL,ldc,ld4,hbd,ldm,fin]
  simp only [GMb,GMc,HPa,HPc,HPd,HPe,HPz,Nat.reduceAdd,Nat.reduceLT,hst2,hld2,Gc (htk _),F0,HC,if_true]
 ·rw [if_neg hq]at fin ⊢
  have hst2:=FZ (sz:=2) (ws:=[.str [],.sl [] .no]) g.res rfl rfl rfl
  have hld2:=ET (sz:=2) (hset (.cel 0 [.str [],.sl [] .no])) rfl
  simp only [GMb,GMc,hl3,hld,hended,Zi,Ah,Yy,beq_self_eq_true,hof,B1,B8,hal,Va,hst1,AL,ldc,ld4,hbd,ldm,fin]
  simp only [GMb,GMc,HPa,HPc,HPd,HPe,HPz,Nat.reduceAdd,Nat.reduceLT,hst2,hld2,Gc (htk _),F0,HC,Y4,if_false]
  rfl
def restP (b:List UInt8) (k:Nat) (er:Er) (c:Nat) (st:PSt):(Er×Nat)×PSt:=match er with
 | some e=>((some e,c),st)
 | none=>HW b k c st
theorem r17_loop (hb:b.length<100000000):∀(k n c:Nat) (er:Er) (law:List UInt8) (st:PSt) (v:Ab) (K:Aa),c≤b.length→b.length-c<k→k<n→EL er→DI H b bx N er c K→(er=none→law=st.law∧RS cCl A0 5 H.length st.cells v K∧st.cells.length+(b.length-c)≤600000000-100000000∧∀c∈st.cells,c.ok) →
  Ao (fun rec1 vs H1=>Sh.f1c H rec1 (ag vs 0) (ag vs 1) (ag vs 2) (ag vs 3) (ag vs 4) H1) n [.ptr H.length 0 0,.ptr (H.length+1) 0 0,.ptr (H.length+2) 0 0,.str law,v] K=some (.ret (F0 (finP b N (restP b k er c st))),H):=by
 intro k
 induction k with
 | zero=>intro n c er law st v K _ h;omega
 | succ k ih=>
  intro n c er law st v K hc hk hn hE hD hnone
  obtain ⟨n,rfl⟩:∃m,n=m+1:=⟨n-1,by omega⟩
  rw [Cw]
  generalize hg:Ao (fun rec1 vs H1=>Sh.f1c H rec1 (ag vs 0) (ag vs 1) (ag vs 2) (ag vs 3) (ag vs 4) H1) n=rec
  cases er with
  | some e=>
   exact r17_err hD (Yc hE rfl) law v rec
  | none=>
   obtain ⟨rfl,hR,hl,hok⟩:=hnone rfl
   by_cases he:c=b.length
   ·subst he
    have:=r17_fin hD hR (by omega) hok rec
    unfold restP HW
    rw [if_pos rfl]
    exact this
   ·have hlt:c<b.length:=by omega
    obtain ⟨law',v',K',t1,t2,t3⟩:=r17_turn hD hR hlt hb (by omega)
    have hlo:=oneP_ok hlt st
    have hoe:=oneP_er b c st
    refine (t1 rec).trans ?_
    unfold restP HW
    rw [if_neg he]
    generalize FB b c st=M at t2 t3 hlo hoe
    obtain ⟨⟨er',c'⟩,st'⟩:=M
    obtain ⟨k1,k2,k3,k4⟩:=hlo
    dsimp only at t2 t3 k1 k2 k3 k4 hoe ⊢
    cases er' with
    | some e=>
     obtain ⟨n,rfl⟩:∃m,n=m+1:=⟨n-1,by omega⟩
     rw [←hg,Cw]
     exact r17_err t2 (Yc hoe rfl) law' v' _
    | none=>
     obtain ⟨q1,q2⟩:=t3 rfl
     have hgo:=k2 rfl
     have:=ih n c' none law' st' v' K' k1 (by omega) (by omega) .none t2 (fun _=>⟨q1,q2,by omega,k4 hok⟩)
     rw [hg]at this
     exact this
theorem q17_read (b:List UInt8) (bx N:Int) (H:Aa) (hb:b.length<100000000):Sh.f1d (.str b) (.agg [.int .i64 bx,.int .i64 N]) H=some (.ret (F0 (N4 b bx N)),H):=by
 have b1:A2 (some [(.str []),(.sl [] .tight)]) []=some (.agg [.str [],.sl [] .tight]):=rfl
 have b2:A2 (some [(.str []),(.int .i64 0),(.int .i64 0)]) [(0,1,.str b)]=some (BW b 0 (Bu none)):=rfl
 rw [readP_eq]
 unfold Sh.f1d
 simp only [GMb,GMc,HPa,HPc,HPd,HPe,HPz,Nat.reduceAdd,Nat.reduceLT,q11_fine]
 cases hf:JR bx N with
 | false=>
  simp only [GMb,GMc,HPa,HPc,HPd,HPe,HPz,Nat.reduceAdd,Nat.reduceLT,b1,Y4,if_false,F0,HC]
  rfl
 | true=>
  have s1:=fun K=>d_lit (b:=b) (er:=none) (YL b.length) (by omega) EL.none EV [] K
  have hM1:EL (By (none,0) fun c=>BT b c EV []).1:=JJ _ _ _ _
  have hM1l:(By (none,0) fun c=>BT b c EV []).2≤b.length:=GA (YL _)
  have hall:MT b TG=restP b (b.length+1) (By (By (none,0) fun c=>BT b c EV []) fun c=>GU b c []).1 (By (By (none,0) fun c=>BT b c EV []) fun c=>GU b c []).2 TG:=by
   unfold MT
   rw [Cj]
   generalize BT b 0 EV []=M
   obtain ⟨er,c⟩:=M
   cases er with
   | some e=>rfl
   | none=>
    dsimp only
    rw [Cj]
    generalize GU b c []=M
    obtain ⟨er,d⟩:=M
    cases er <;> rfl
  rw [hall]
  generalize (By (none,0) fun c=>BT b c EV [])=M1 at *
  obtain ⟨e1,c1⟩:=M1
  dsimp only at hM1 hM1l s1
  have s2:=fun K=>d_eol hM1l (show b.length<1000000000000 by omega) hM1 K
  have hM2:EL (By (e1,c1) fun c=>GU b c []).1:=QO hM1 fun c=>endS_er _ _ _
  have hM2l:(By (e1,c1) fun c=>GU b c []).2≤b.length:=QN hM1l fun c hc=>(Ut hc _).2
  generalize (By (e1,c1) fun c=>GU b c [])=M2 at *
  obtain ⟨e2,c2⟩:=M2
  dsimp only at hM2 hM2l s2 ⊢
  unfold EV at s1
  simp only [GMb,GMc,HPa,HPc,HPd,HPe,HPz,Nat.reduceAdd,Nat.reduceLT,b2,s1,s2,if_true]
  have hD:DI H b bx N e2 c2 (H++[.cel 0 [.int .i64 bx,.int .i64 N],.cel 0 [.str [],.sl [] .tight],.cel 0 (Cy b c2 (Bu e2))]):=
   ⟨by simp,by simp,by simp,fun i hi=>Yx hi⟩
  have key:=r17_loop (H:=H) (bx:=bx) (N:=N) hb (b.length+1) AK c2 e2 usualL TG (.sl [] .tight) _ hM2l (by omega) (by rw [Dg];omega) hM2 hD (fun _=>⟨rfl,.inl ⟨rfl,rfl⟩,by simp [TG];omega,fun c hc=>by cases hc⟩)
  have hcu:Af 3 (.ptr 0 0 0) (BW b c2 (Bu e2)) [Blk.cel 0 [.str [],.int .i64 0,.int .i64 0]]=some [.cel 0 (Cy b c2 (Bu e2))]:=Is (CF rfl) rfl rfl
  simp only [GMb,GMc,HPa,HPc,HPd,HPe,HPz,Nat.reduceAdd,Nat.reduceLT,hcu]
  exact key

end
def CO (E:List (Option Int)) (x:Nd):Nat→Option Int
 | 0=>none
 | k+1=>if 1<x.lv then some (bo (CO E x k)+bo (E.getD (x.kid k).toNat none))else if 0<x.kid k then some (bo (CO E x k)+1)else CO E x k
def BP (L:List Nd):List (Option Int):=L.foldl (fun E x=>E++[CO E x 4]) [none]
theorem Yk (L:List Nd) (x:Nd):BP (L++[x])=BP L++[CO (BP L) x 4]:=by simp [BP]
theorem IG (L:List Nd):(BP L).length=L.length+1:=by
 rcases Ga L with rfl | ⟨l,a,rfl⟩
 ·rfl
 ·rw [Yk];have:=IG l;simp [this]
termination_by L.length
decreasing_by (subst_vars;simp)
theorem JV (L:List Nd) {i:Nat} (hi:i<L.length):BP (L.take (i+1))=BP (L.take i)++[CO (BP (L.take i)) L[i] 4]:=by
 rw [Y5 hi,Yk]
theorem U3 {L:List Nd} (hl:AU L=true):∀i,i≤L.length→∀j,j≤i→0≤bo ((BP (L.take i)).getD j none)∧bo ((BP (L.take i)).getD j none)≤4^((match j with | 0=>0 | j+1=>match L[j]? with | some y=>y.lv.toNat | none=>0):Nat)
 | 0,_,j,hj=>by
  have:j=0:=by omega
  subst this
  simp [BP,bo]
 | i+1,hi,j,hj=>by
  have ih:=U3 hl i (by omega)
  have hlen:(BP (L.take i)).length=i+1:=by rw [IG];simp;omega
  rw [JV L (show i<L.length by omega)]
  by_cases hji:j≤i
  ·have:=ih j hji
   rw [Y0]at this ⊢
   rw [Yx (by omega)]
   exact this
  ·have e:j=i+1:=by omega
   subst e
   have hi':i<L.length:=by omega
   have hg:(BP (L.take i)++[CO (BP (L.take i)) L[i] 4]).getD (i+1) none=CO (BP (L.take i)) L[i] 4:=by
    rw [Y0,YO (by omega),hlen];simp
   rw [hg]
   simp only [Yu hi']
   obtain ⟨l1,l2,l3⟩:=AP hl hi'
   generalize hx:L[i]=x at *
   obtain ⟨v,hv⟩:∃v:Nat,x.lv=(v:Int)+1:=⟨(x.lv-1).toNat,by omega⟩
   have hvn:x.lv.toNat=v+1:=by omega
   have hone:(1:Int)≤4^v:=by have:=Nat.one_le_pow v 4 (by omega);exact_mod_cast this
   have step:∀k,k<4→1<x.lv→0≤bo ((BP (L.take i)).getD (x.kid k).toNat none)∧bo ((BP (L.take i)).getD (x.kid k).toNat none)≤4^v:=by
    intro k hk h1
    obtain ⟨q1,q2,q3⟩:=l3 k hk
    by_cases h0:0<x.kid k
    ·obtain ⟨q4,q5⟩:=q3 h1 h0
     have h6:=ih (x.kid k).toNat (by omega)
     obtain ⟨m,hm⟩:∃m,(x.kid k).toNat=m+1:=⟨(x.kid k).toNat-1,by omega⟩
     rw [hm]at h6 ⊢
     have hml:m<L.length:=by omega
     simp only [Yu hml]at h6
     have h7:=q5 L[m] (by rw [show (x.kid k-1).toNat=m by omega];exact Yu hml)
     rw [show L[m].lv.toNat=v by omega]at h6
     exact h6
    ·have h8:(x.kid k).toNat=0:=by omega
     have h6:=ih 0 (by omega)
     rw [h8]
     simp only [Int.pow_zero]at h6
     exact ⟨h6.1,by omega⟩
   have part:∀k,k≤4→0≤bo (CO (BP (L.take i)) x k)∧bo (CO (BP (L.take i)) x k)≤k*4^v:=by
    intro k
    induction k with
    | zero=>intro _;simp [CO,bo]
    | succ k ihk=>
     intro hk
     have ih2:=ihk (by omega)
     have e1:((k+1:Nat):Int)*4^v=(k:Int)*4^v+4^v:=by push_cast;rw [Int.add_mul,Int.one_mul]
     rw [e1]
     unfold CO
     generalize (k:Int)*4^v=kp at *
     by_cases h1:1<x.lv
     ·have h2:=step k (by omega) h1
      rw [if_pos h1]
      simp only [bo,Option.getD_some]at h2 ih2 ⊢
      omega
     ·rw [if_neg h1]
      by_cases h0:0<x.kid k
      ·rw [if_pos h0];simp only [bo,Option.getD_some]at ih2 ⊢;omega
      ·rw [if_neg h0];omega
   have:=part 4 (Yz _)
   rw [hvn,QaS,Qbm]
   exact this
theorem SB_fourk {z:Int} {v w k:Nat} (h0:0≤z) (h:z≤4^v) (hv:v≤w) (hk:2*w<32*k):SB k z:=by
 have h1:=pow4_le hv
 have h2:z.natAbs≤2^(2*w):=by omega
 exact Zm h2 (Vk hk)
theorem SB_four {z:Int} {v:Nat} (h0:0≤z) (h:z≤4^v) (hv:v≤1400):SB 100 z:=by
 exact SB_fourk (w:=1400) (k:=100) h0 h hv (by decide)
theorem q07_counts (L:List Nd) (tk:Tok) (H:Aa) (hL:L.length<549755813888) (hl:AU L=true):Sh.f45 (.sl (enL cNd L) tk) H=some (.ret (.sl (enL cBO (BP L)) .no),H):=by
 have hmk:=Fo (f:=cBO) (a:=none) (n:=L.length+1) (bytes:=32) (H:=H) (by omega) (by omega)
 rw [show cBO none=[Ab.bool false,.sl [] .tight] from rfl]at hmk
 unfold Sh.f45
 simp only [Aw,BD,C2,Av (show L.length<9223372036854775807 by omega),hmk,Bo]
 have key:=Ca (G:=fun rec1 vs H1=>Sh.f6h H rec1 (ag vs 0) (ag vs 1) (ag vs 2) H1) L.length (fun i=>[.sl (enL cNd L) tk,.ms H.length 0 0 (L.length+1) (L.length+1) 2 true,.int .i64 (i:Int)]) (fun i=>H++[.cel 0 (flat cBO (BP (L.take i)++List.replicate (L.length-i) none))]) (some (.ret (.sl (enL cBO (BP L)) .no),H)) (by omega) (fun rec i hi=>?_) (fun rec=>?_)
 ·have e:List.replicate (L.length+1) none=BP (L.take 0)++List.replicate (L.length-0) none:=by simp [List.replicate_succ,BP]
  rw [e];exact key
 ·have hi':(i:Int)<(L.length:Int):=by omega
  obtain ⟨l1,l2,l3⟩:=AP hl hi
  have hle:=U3 hl i (by omega)
  have hle2:=(U3 hl (i+1) (by omega) (i+1) (Yz _))
  rw [JV L hi]at hle2
  have hEl:(BP (L.take i)).length=i+1:=by rw [IG];simp;omega
  unfold Sh.f6h
  simp only [Al,Bb,Bf,Aw,BD,Bj,hi',decide_true,AV]
  have hb:∀k,k<4→1<L[i].lv→(L[i].kid k).toNat≤i:=by
   intro k hk h1
   obtain ⟨q1,q2,q3⟩:=l3 k hk
   by_cases h0:0<L[i].kid k
   ·have:=(q3 h1 h0).1;omega
   ·omega
  have hset:∀a,(BP (L.take i)++List.replicate (L.length-i) none).set (i+1) a=BP (L.take i)++a::List.replicate (L.length-(i+1)) none:=by
   intro a
   rw [YR _ _ (by omega),hEl,YV,show L.length-i=(L.length-(i+1))+1 from by omega,List.replicate_succ,List.set_cons_zero]
  have hpart:∀k,k≤4→SB 100 (bo (CO (BP (L.take i)) L[i] k)):=by
   intro k hk
   have mono:∀d,k+d≤4→bo (CO (BP (L.take i)) L[i] k)≤bo (CO (BP (L.take i)) L[i] (k+d)):=by
    intro d
    induction d with
    | zero=>intro _;exact Qbb _
    | succ d ihd=>
     intro hd
     refine Int.le_trans (ihd (by omega)) ?_
     show _≤bo (CO (BP (L.take i)) L[i] (k+d+1))
     rw [show CO (BP (L.take i)) L[i] (k+d+1)=(if 1<L[i].lv then some (bo (CO (BP (L.take i)) L[i] (k+d))+bo ((BP (L.take i)).getD (L[i].kid (k+d)).toNat none))else if 0<L[i].kid (k+d)then some (bo (CO (BP (L.take i)) L[i] (k+d))+1)else CO (BP (L.take i)) L[i] (k+d)) from rfl]
     by_cases h1:1<L[i].lv
     ·have:=(hle (L[i].kid (k+d)).toNat (hb (k+d) (by omega) h1)).1
      rw [if_pos h1];simp only [bo,Option.getD_some]at this ⊢;omega
     ·rw [if_neg h1]
      split
      ·simp only [bo,Option.getD_some];omega
      ·exact Qbb _
   have nn:∀k,k≤4→0≤bo (CO (BP (L.take i)) L[i] k):=by
    intro k
    induction k with
    | zero=>intro _;simp [CO,bo]
    | succ k ihk=>
     intro hk
     have ih2:=ihk (by omega)
     unfold CO
     by_cases h1:1<L[i].lv
     ·have:=(hle (L[i].kid k).toNat (hb k (by omega) h1)).1
      rw [if_pos h1];simp only [bo,Option.getD_some]at this ih2 ⊢;omega
     ·rw [if_neg h1]
      split
      ·simp only [bo,Option.getD_some]at ih2 ⊢;omega
      ·exact ih2
   have hg:(BP (L.take i)++[CO (BP (L.take i)) L[i] 4]).getD (i+1) none=CO (BP (L.take i)) L[i] 4:=by
    rw [Y0,YO (by omega),hEl];simp
   rw [hg]at hle2
   simp only [Yu hi]at hle2
   have h5:=mono (4-k) (by omega)
   rw [show k+(4-k)=4 by omega]at h5
   exact SB_four (nn k hk) (Int.le_trans h5 hle2.2) (by omega)
  have hkidSB:∀k,k<4→1<L[i].lv→LB (bo ((BP (L.take i)).getD (L[i].kid k).toNat none)):=by
   intro k hk h1
   have h2:=hle (L[i].kid k).toNat (hb k hk h1)
   refine (SB_four h2.1 h2.2 ?_).lb (by omega)
   cases hq:(L[i].kid k).toNat with
   | zero=>simp
   | succ m=>
    simp only
    have hml:m<L.length:=by have:=hb k hk h1;omega
    rw [Yu hml]
    have:=(AP hl hml).2.1
    simp only;omega
  have hgetE:∀(a:Option Int) (c:Nat),c≤i→(BP (L.take i)++a::List.replicate (L.length-(i+1)) none).getD c none=(BP (L.take i)).getD c none:=by
   intro a c hc
   simp only [Y0]
   rw [Yx (by omega)]
  have hfin:BP (L.take (i+1))++List.replicate (L.length-(i+1)) none=BP (L.take i)++CO (BP (L.take i)) L[i] 4::List.replicate (L.length-(i+1)) none:=by rw [JV L hi];simp
  have hini:BP (L.take i)++List.replicate (L.length-i) none=BP (L.take i)++CO (BP (L.take i)) L[i] 0::List.replicate (L.length-(i+1)) none:=by
   rw [show L.length-i=(L.length-(i+1))+1 from by omega,List.replicate_succ];rfl
  rw [hfin,hini]
  generalize hC:BP (L.take i)=C at *
  generalize hx:L[i]=x at *
  have hset2:∀a b:Option Int,(C++a::List.replicate (L.length-(i+1)) none).set (i+1) b=C++b::List.replicate (L.length-(i+1)) none:=by
   intro a b;rw [YR _ _ (by omega),hEl,YV,List.set_cons_zero]
  have hlenE:∀a:Option Int,(C++a::List.replicate (L.length-(i+1)) none).length=L.length+1:=by intro a;simp [hEl];omega
  have hgetI:∀a:Option Int,(C++a::List.replicate (L.length-(i+1)) none)[i+1]? = some a:=by
   intro a;rw [YO (by omega),hEl];simp
  refine Ca (G:=fun rec2 vs H1=>Sh.f6g H rec rec2 (ag vs 0) (ag vs 1) (ag vs 2) (ag vs 3) H1) 4 (fun k=>[.sl (enL cNd L) tk,.ms H.length 0 0 (L.length+1) (L.length+1) 2 true,.int .i64 (i:Int),.int .i64 (k:Int)]) (fun k=>H++[.cel 0 (flat cBO (C++CO C x k::List.replicate (L.length-(i+1)) none))]) _ (by decide) (fun rec2 k hk=>?_) (fun rec2=>?_)
  ·have hk':(k:Int)<4:=by omega
   have hwk:=Av (show k<9223372036854775807 by omega)
   have hwi:=Av (show i<9223372036854775807 by omega)
   obtain ⟨q1,q2,q3⟩:=l3 k hk
   have hb':=hb k hk
   have hsb:=(hpart k (by omega)).lb (by omega)
   have hgc:A7 (H++[.cel 0 (flat cBO (C++CO C x k::List.replicate (L.length-(i+1)) none))]) H.length 0=some (flat cBO (C++CO C x k::List.replicate (L.length-(i+1)) none)):=by simp
   have hidi:=CJ (sz:=2) (id:=H.length) (n:=L.length+1) (K:=.i64) (g:=0) (off:=0) (cap:=L.length+1) (ex:=true) (i:=i+1) (by omega)
   simp only [Yy]at hidi
   have hldi:Ac true 2 (.ptr H.length 0 ((i+1)*2)) (H++[.cel 0 (flat cBO (C++CO C x k::List.replicate (L.length-(i+1)) none))])=some (.agg (cBO (CO C x k))):=by
    have h1:=Ri (f:=cBO) (sz:=2) hgc (i:=i+1) (by rw [hlenE];omega)
    rw [h1]
    have h2:=hgetI (CO C x k)
    rw [Yu (by rw [hlenE];omega)]at h2
    simp only [Y3]at h2
    rw [h2]
   have hsti:∀z:Int,Af 2 (.ptr H.length 0 ((i+1)*2)) (big z) (H++[.cel 0 (flat cBO (C++CO C x k::List.replicate (L.length-(i+1)) none))])=some (H++[.cel 0 (flat cBO (C++some z::List.replicate (L.length-(i+1)) none))]):=by
    intro z
    have h1:=DP (f:=cBO) (sz:=2) (a:=some z) (v:=big z) hgc (i:=i+1) (by rw [hlenE];omega) (acells_BO z)
    rw [h1,hset2,RX,RW]
   have hcs:CO C x (k+1)=if 1<x.lv then some (bo (CO C x k)+bo (C.getD (x.kid k).toNat none))else if 0<x.kid k then some (bo (CO C x k)+1)else CO C x k:=rfl
   rw [hcs]
   have hof1:∀H,Sh.fg (.int .i64 1) H=some (.ret (big 1),H):=fun H=>q02_of 1 H (by omega) (by omega)
   unfold Sh.f6g
   simp only [GMb,GMc,hk',Ay hi,hx,An,Dy hk,A9,Yy,YB,Dq hk,BY,hwi,hidi,hldi]
   by_cases h1:1<x.lv
   ·have hcn:=hb' h1
    obtain ⟨c,hc⟩:=Zj q1
    rw [hc]at hcn ⊢
    simp only [Int.toNat_natCast]at hcn ⊢
    have hidc:=CJ (sz:=2) (id:=H.length) (n:=L.length+1) (K:=.i64) (g:=0) (off:=0) (cap:=L.length+1) (ex:=true) (i:=c) (by omega)
    simp only [Yy]at hidc
    have hldc:Ac true 2 (.ptr H.length 0 (c*2)) (H++[.cel 0 (flat cBO (C++CO C x k::List.replicate (L.length-(i+1)) none))])=some (.agg (cBO (C.getD c none))):=by
     have h2:=Ri (f:=cBO) (sz:=2) hgc (i:=c) (by rw [hlenE];omega)
     rw [h2]
     have h3:=hgetE (CO C x k) c hcn
     rw [Y0,Yu (by rw [hlenE];omega),Option.getD_some]at h3
     rw [h3]
    have hkSB:=hkidSB k hk h1
    rw [hc,Int.toNat_natCast]at hkSB
    have hadd:=fun H=>addO (CO C x k) (C.getD c none) H hsb hkSB
    simp only [h1,if_true,GMb,GMc,gt_iff_lt,hwi,hidi,hldi,hidc,hldc,hadd,hsti,Sh.f6f,hwk,Ai]
   ·by_cases h0:0<x.kid k
    ·have hadd:=fun H=>addO (CO C x k) (some 1) H hsb LB_one
     simp only [h1,h0,if_false,if_true,GMb,GMc,gt_iff_lt,hof1,hwi,hidi,hldi,eq_self,and_true,big_BO,hadd,Sh.f6f,hwk,Ai]
     simp only [←big_BO,hsti,GMb,GMc,Ai,hwk]
     rfl
    ·simp only [h1,h0,if_false,GMb,GMc,gt_iff_lt,Sh.f6f,hwk,Ai]
  ·have hf:¬(((4:Nat):Int)<4):=by decide
   unfold Sh.f6g
   simp only [Al,Bb,Bf,B2,BK,BD,Bj,hf,decide_false,AM,C2,Av (show i<9223372036854775807 by omega)]
 ·unfold Sh.f6h
  have hgc:A7 (H++[.cel 0 (flat cBO (BP L))]) H.length 0=some (flat cBO (BP L)):=by simp
  have hfa:=Us (f:=cBO) (b:=H.length) (d:=5) (cap:=L.length+1) (ex:=true) hgc (Yz _)
  rw [IG]at hfa
  have ht:L.take L.length=L:=Y6 (Yz _)
  simp only [Al,Bb,Bf,Aw,BD,Bj,Zl,decide_false,AM,ht,YV,List.replicate_zero,YP,Co,hfa,Option.map_some]
def IF (L:List Nd):Int:=bo ((BP L).getD L.length none)
theorem q07_count (L:List Nd) (H:Aa) (hL:L.length<549755813888) (hl:AU L=true):Sh.f46 (El L) H=some (.ret (big (IF L)),H):=by
 unfold Sh.f46
 have e3:(H++[Blk.cel 0 (C6 L)]++[Blk.cel 0 (cBO none)])[H.length]? = some (.cel 0 (C6 L)):=by simp
 have halloc:∀Hc,Ax (some [.bool false,.sl [] .tight]) Hc=some (.ptr Hc.length 0 0,Hc++[.cel 0 (cBO none)]):=fun Hc=>Cd Hc
 have hcs:=fun H=>q07_counts L .no H hL hl
 have hlt:L.length<(BP L).length:=by rw [IG];omega
 have hst:∀(B:Aa) (a:Option Int),Af 2 (.ptr B.length 0 0) (.agg (cBO a)) (B++[Blk.cel 0 (cBO none)])=some (B++[Blk.cel 0 (cBO a)]):=fun B a=>by rw [OL Ap rfl,Bd]
 have hldB:∀(B:Aa) (a:Option Int),Ac true 2 (.ptr B.length 0 0) (B++[Blk.cel 0 (cBO a)])=some (.agg (cBO a)):=fun B a=>FE Ap
 have hcp:∀(a:Option Int) (H:Aa),Ac true 2 (.cptr (cBO a) 0) H=some (.agg (cBO a)):=fun a H=>by cases a <;> rfl
 simp only [GMb,GMc,boxQ,halloc,Ah,Yy,Nat.add_zero,Dx e3,hcs,and_true,eq_self,Aw,Ay hlt,hcp,hst,hldB]
 have hc:(BP L)[L.length]=(BP L).getD L.length none:=by rw [Y0,Yu hlt];rfl
 rw [hc,Y1,Co]
 unfold IF
 have hSB:bo ((BP L).getD L.length none)=bo ((BP L).getD L.length none):=rfl
 generalize (BP L).getD L.length none=o
 cases o with
 | none=>simp [cBO,bo,big,A6,Du,enL]
 | some z=>
  simp [cBO,bo,big,A6]
  rfl
def DX (rec:Int→Int→Int→List Cl) (v:Nat) (x:Nd) (a b:Int) (k:Nat):List Cl:=
 if 1<x.lv then rec (x.kid k) (qa v a k) (qb v b k)else if 0<x.kid k then [⟨qa v a k,qb v b k,UInt8.ofNat (x.kid k).toNat⟩]else []
def C5 (L:List Nd):Nat→Int→Int→Int→List Cl
 | 0,_,_,_=>[]
 | v+1,n,x,y=>if n=0 then []else (List.range 4).flatMap fun k=>DX (C5 L v) (v+1) (AS L n) x y k
theorem Oo (L:List Nd) (v:Nat) (x y:Int):C5 L v 0 x y=[]:=by cases v <;> simp [C5]
theorem RS.app {α:Type} {f:α→List Ab} {ty:TypeId} {sz:Nat} [hf:Sz f sz] {bytes b:Nat} {out:List α} {v:Ab} {H:Aa} (h:RS f ty sz b out v H) (hb:b≤H.length) (m:List α) (tk:Tok) (hl:(out.length+m.length)*bytes≤140737488355328) (hl2:out.length+m.length≤140737488355328) :
  ∃v' H',AN ty sz bytes v (.sl (enL f m) tk) H=some (v',H')∧RS f ty sz b (out++m) v' H'∧Kp b H H':=by
 by_cases hm:m=[]
 ·subst hm
  have hx:(Ce sz v H).isSome=true:=by
   obtain ⟨tk',rfl⟩:=h.sl
   rw [Oi];rfl
  refine ⟨v,H,Dk hx,by rw [YP];exact h,Kp.refl _ _⟩
 ·rcases h with ⟨rfl,rfl⟩ | ⟨t,h1,rfl,h3⟩
  ·have:=CE (f:=f) (l:=[]) (m:=m) (ty:=ty) (bytes:=bytes) (tk:=tk) (H:=H) hm (by simpa using hl) (by simpa using hl2)
   exact ⟨_,_,this,.inr ⟨H.length,hb,rfl,by simp⟩,Kp.app hb _⟩
  ·have:=Ey (f:=f) (l:=out) (m:=m) (ty:=ty) (bytes:=bytes) (tk:=tk) (H:=H) (t:=t) hm h3 hl hl2
   have htl:=(Yw.1 h3).1
   refine ⟨_,_,this,.inr ⟨t,h1,rfl,by simp [htl]⟩,⟨by simp,fun i cs hc=>?_,fun i hi=>?_⟩⟩
   ·have:t≠i:=fun e=>by rw [←e,h3]at hc;cases hc
    rw [Yv this];exact hc
   ·rw [Yv (by omega)]
theorem sb_k {x:Int} {v k m:Nat} (h:x.natAbs+2^v≤2^k) (hk:k≤32*m):SB m x:=by
 have h1:0<2^v:=Qag (by omega)
 have h2:x.natAbs<2^k:=by omega
 exact Zs h2 (pow32_le hk)
theorem OM {x:Int} {v:Nat} (h:x.natAbs+2^v≤2^1340):SB 42 x:=sb_k (k:=1340) h (by decide)
theorem qa_abs {x:Int} {u k:Nat} (h:x.natAbs+2^(u+1)≤2^1340):(qa (u+1) x k).natAbs+2^u≤2^1340:=by
 have h2:x.natAbs+2^u*2≤2^1340:=by rw [←Nat.pow_succ];exact h
 obtain ⟨q,hq⟩:∃q:Nat,q=2^1340:=⟨_,rfl⟩
 rw [←hq]at h2 ⊢
 clear hq h
 unfold qa
 rw [YM]
 have e:((2:Int)^u)=((2^u:Nat):Int):=by push_cast;rfl
 rw [e]
 generalize 2^u=p at *
 split <;> omega
theorem qb_abs {x:Int} {u k:Nat} (h:x.natAbs+2^(u+1)≤2^1340):(qb (u+1) x k).natAbs+2^u≤2^1340:=by
 have h2:x.natAbs+2^u*2≤2^1340:=by rw [←Nat.pow_succ];exact h
 obtain ⟨q,hq⟩:∃q:Nat,q=2^1340:=⟨_,rfl⟩
 rw [←hq]at h2 ⊢
 clear hq h
 unfold qb
 rw [YM]
 have e:((2:Int)^u)=((2^u:Nat):Int):=by push_cast;rfl
 rw [e]
 generalize 2^u=p at *
 split <;> omega
abbrev zBig:List Ab:=[.bool false,.sl [] .tight]
theorem two_a {Hd:Aa} {A B:List Ab} {z:Int} (hA:A.length=2):Af 2 (.ptr Hd.length 0 0) (big z) (Hd++[.cel 0 A]++[.cel 0 B])=some (Hd++[.cel 0 (A6 z)]++[.cel 0 B]):=by
 rw [Cu (cs:=A) (by simp) hA];simp
theorem two_b {Hd:Aa} {A B:List Ab} {z:Int} (hB:B.length=2):Af 2 (.ptr (Hd.length+1) 0 0) (big z) (Hd++[.cel 0 A]++[.cel 0 B])=some (Hd++[.cel 0 A]++[.cel 0 (A6 z)]):=by
 rw [Cu (cs:=B) (by simp) hB]
 have:Hd.length+1=(Hd++[Blk.cel 0 A]).length:=by simp
 rw [this,Bd]
theorem build_cell (a b:Int) (c:Int) (h0:0<c) (h1:c≤255):A2 (some [(.bool false),(.sl [] .tight),(.bool false),(.sl [] .tight),(.int .u8 0)]) [(0,2,big a),(2,2,big b),(4,1,.int .u8 c)]=some (.agg (cCl ⟨a,b,UInt8.ofNat c.toNat⟩)):=by
 have e:((UInt8.ofNat c.toNat).toNat:Int)=c:=by rw [u8_nat (by omega)];omega
 unfold cCl
 simp only [e]
 simp [A2,Gu,DF,big,A6,Ab.acells]
theorem list_turn {L:List Nd} {tk:Tok} {H Hd:Aa} {self:Ab→Ab→Ab→Ab→Aa→Out} {n u k p5 p7 p17:Nat} {x y:Int} {out:List Cl} {vo:Ab} (hL:L.length<549755813888) (hl:AU L=true) (hn0:0<n) (hn:n≤L.length) (hv:(AS L n).lv=((u+1:Nat):Int))
  (hk:k<4) (hu:u+1≤1329) (hx:x.natAbs+2^(u+1)≤2^1340) (hy:y.natAbs+2^(u+1)≤2^1340) (b5:H.length≤p5) (b7:H.length≤p7) (b17:H.length≤p17)
  (f5:Hd[p5]? = some (.cel 0 (A6 x))) (f7:Hd[p7]? = some (.cel 0 (A6 y))) (f17:Hd[p17]? = some (.cel 0 (A6 (2^u)))) (hR:RS cCl A0 5 H.length out vo Hd) (hold:∀i,i<H.length→Hd[i]? = H[i]?) (hlen:H.length≤Hd.length)
  (hs:∀(c:Int) (a b:Int) (H1:Aa),c=(AS L n).kid k→0<u→a=qa (u+1) x k→b=qb (u+1) y k→self (.sl (enL cNd L) tk) (.int .i64 c) (big a) (big b) H1=some (.ret (.sl (enL cCl (C5 L u c a b)) .no),H1))
  (hcnt:out.length+(DX (C5 L u) (u+1) (AS L n) x y k).length≤1000000000000) :
  ∃v' H',RS cCl A0 5 H.length (out++DX (C5 L u) (u+1) (AS L n) x y k) v' H'∧H'[p5]? = some (.cel 0 (A6 x))∧H'[p7]? = some (.cel 0 (A6 y))∧H'[p17]? = some (.cel 0 (A6 (2^u)))∧(∀i,i<H.length→H'[i]? = H[i]?)∧H.length≤H'.length ∧
   ∀rec:LK,Sh.f58 H self rec (.sl (enL cNd L) tk) (.int .i64 (n:Int)) (.ptr p5 0 0) (.ptr p7 0 0) (.ptr p17 0 0) vo (.int .i64 (k:Int)) Hd=rec [.sl (enL cNd L) tk,.int .i64 (n:Int),.ptr p5 0 0,.ptr p7 0 0,.ptr p17 0 0,v',.int .i64 ((k+1:Nat):Int)] H':=by
 have hk':(k:Int)<4:=by omega
 have hwk:=Av (show k<9223372036854775807 by omega)
 have hwn:=Iq hn0 (show n<9223372036854775807 by omega)
 have hni:n-1<L.length:=by omega
 have hnd:AS L (n:Int)=L[n-1]:=Eo (by omega) hni
 have sx:=OM hx
 have sy:=OM hy
 have sa:=OM (qa_abs (k:=k) hx)
 have sb:=OM (qb_abs (k:=k) hy)
 have sp:LB (2^u):=LB_pow u (by omega)
 obtain ⟨l1,l2,l3⟩:=AP hl hni
 obtain ⟨q1,q2,q3⟩:=l3 k hk
 rw [hnd]at hv hs hcnt ⊢
 have rest:∀a b:Int,a=qa (u+1) x k→b=qb (u+1) y k→∃v' H',RS cCl A0 5 H.length (out++DX (C5 L u) (u+1) L[n-1] x y k) v' H'∧H'[p5]? = some (.cel 0 (A6 x))∧H'[p7]? = some (.cel 0 (A6 y))∧H'[p17]? = some (.cel 0 (A6 (2^u)))∧(∀i,i<H.length→H'[i]? = H[i]?)∧H.length≤H'.length ∧
   ∀rec:LK,Sh.f57 H self (fun vs H1=>Sh.f47 H rec (ag vs 0) (ag vs 1) (ag vs 2) (ag vs 3) (ag vs 4) (ag vs 5) (ag vs 6) H1) (.sl (enL cNd L) tk) (.int .i64 (n:Int)) (.ptr p5 0 0) (.ptr p7 0 0) (.ptr p17 0 0) vo (.int .i64 (k:Int)) (.ptr Hd.length 0 0) (.ptr (Hd.length+1) 0 0) (Hd++[.cel 0 (A6 a)]++[.cel 0 (A6 b)])=rec [.sl (enL cNd L) tk,.int .i64 (n:Int),.ptr p5 0 0,.ptr p7 0 0,.ptr p17 0 0,v',.int .i64 ((k+1:Nat):Int)] H':=by
  intro a b ha hb
  have la:Ac true 2 (.ptr Hd.length 0 0) (Hd++[.cel 0 (A6 a)]++[.cel 0 (A6 b)])=some (big a):=AW (by simp)
  have lb:Ac true 2 (.ptr (Hd.length+1) 0 0) (Hd++[.cel 0 (A6 a)]++[.cel 0 (A6 b)])=some (big b):=AW (by simp)
  have hR':RS cCl A0 5 H.length out vo (Hd++[.cel 0 (A6 a)]++[.cel 0 (A6 b)]):=(hR.left _).left _
  have hkp:Kp H.length Hd (Hd++[.cel 0 (A6 a)]++[.cel 0 (A6 b)]):=(Kp.app hlen _).trans (Kp.app (by simp;omega) _)
  generalize Hd++[Blk.cel 0 (A6 a)]++[Blk.cel 0 (A6 b)]=He at la lb hR' hkp
  have hHe:H.length≤He.length:=YJ hlen hkp.len
  by_cases h1:1<L[n-1].lv
  ·have hu0:0<u:=by omega
   have hself:=hs (L[n-1].kid k) a b He rfl hu0 ha hb
   have hck:DX (C5 L u) (u+1) L[n-1] x y k=C5 L u (L[n-1].kid k) a b:=by unfold DX;rw [if_pos h1,ha,hb]
   rw [hck]at hcnt ⊢
   obtain ⟨v',H',a1,a2,a3⟩:=hR'.app (bytes:=72) hHe (C5 L u (L[n-1].kid k) a b) .no (by omega) (by omega)
   refine ⟨v',H',a2,(hkp.trans a3).get f5,(hkp.trans a3).get f7,(hkp.trans a3).get f17,fun i hi=>by rw [(hkp.trans a3).old i hi];exact hold i hi,YJ hHe a3.len,fun rec=>?_⟩
   unfold Sh.f57
   simp only [GMb,GMc,hwn,Ay hni,An,Dy hk,A9,Yy,YB,Dq hk,BY,h1,gt_iff_lt,la,lb,hself,a1,Ai,Sh.f47,hwk]
  ·have hu0:u=0:=by omega
   by_cases h0:0<L[n-1].kid k
   ·have h255:=q2 (by omega)
    have hck:DX (C5 L u) (u+1) L[n-1] x y k=[⟨a,b,UInt8.ofNat (L[n-1].kid k).toNat⟩]:=by unfold DX;rw [if_neg h1,if_pos h0,ha,hb]
    rw [hck]at hcnt ⊢
    simp only [List.length_singleton]at hcnt
    obtain ⟨v',H',a1,a2,a3⟩:=hR'.app (bytes:=72) hHe [⟨a,b,UInt8.ofNat (L[n-1].kid k).toNat⟩] .tight (by simp only [List.length_singleton];omega) (by simp only [List.length_singleton];omega)
    have hcv:AD .u8 (.int .i64 (L[n-1].kid k))=some (.int .u8 (L[n-1].kid k)):=by rw [Bq,QI q1 (by omega)]
    have hbc:=build_cell a b (L[n-1].kid k) h0 h255
    refine ⟨v',H',a2,(hkp.trans a3).get f5,(hkp.trans a3).get f7,(hkp.trans a3).get f17,fun i hi=>by rw [(hkp.trans a3).old i hi];exact hold i hi,YJ hHe a3.len,fun rec=>?_⟩
    unfold Sh.f57
    simp only [GMb,GMc,hwn,Ay hni,An,Dy hk,A9,Yy,YB,Dq hk,BY,h1,h0,gt_iff_lt,la,lb,hcv,hbc,Kl,a1,Ai,Sh.f47,hwk]
   ·have hck:DX (C5 L u) (u+1) L[n-1] x y k=[]:=by unfold DX;rw [if_neg h1,if_neg h0]
    rw [hck,YP]
    refine ⟨vo,He,hR',hkp.get f5,hkp.get f7,hkp.get f17,fun i hi=>by rw [hkp.old i hi];exact hold i hi,hHe,fun rec=>?_⟩
    unfold Sh.f57
    simp only [GMb,GMc,hwn,Ay hni,An,Dy hk,A9,Yy,YB,Dq hk,BY,h1,h0,gt_iff_lt,la,lb,Ai,Sh.f47,hwk]
 have al1:=Cd Hd
 have al2:∀A,Ax (some [.bool false,.sl [] .tight]) (Hd++[.cel 0 A])=some (.ptr (Hd.length+1) 0 0,Hd++[.cel 0 A]++[.cel 0 zBig]):=fun A=>by rw [Cd];simp
 have lx:∀G,Ac true 2 (.ptr p5 0 0) (Hd++G)=some (big x):=fun G=>AW (A1 f5)
 have ly:∀G,Ac true 2 (.ptr p7 0 0) (Hd++G)=some (big y):=fun G=>AW (A1 f7)
 have lh:∀G,Ac true 2 (.ptr p17 0 0) (Hd++G)=some (big (2^u)):=fun G=>AW (A1 f17)
 have lx2:∀G G',Ac true 2 (.ptr p5 0 0) (Hd++G++G')=some (big x):=fun G G'=>by rw [Y1];exact lx _
 have ly2:∀G G',Ac true 2 (.ptr p7 0 0) (Hd++G++G')=some (big y):=fun G G'=>by rw [Y1];exact ly _
 have lh2:∀G G',Ac true 2 (.ptr p17 0 0) (Hd++G++G')=some (big (2^u)):=fun G G'=>by rw [Y1];exact lh _
 have lx0:Ac true 2 (.ptr p5 0 0) Hd=some (big x):=AW f5
 have ly0:Ac true 2 (.ptr p7 0 0) Hd=some (big y):=AW f7
 have addx:=fun H=>JE x (2^u) H (sx.lb (by omega)) sp
 have addy:=fun H=>JE y (2^u) H (sy.lb (by omega)) sp
 have hrem:(k:Int).tmod 2=((k%2:Nat):Int):=rfl
 have hmod:decide (((k%2:Nat):Int)=1)=decide (k%2=1):=by rw [YD];simp only [decide_eq_true_eq];omega
 have hgt:decide ((k:Int)>1)=decide (1<k):=by rw [YD];simp only [decide_eq_true_eq];omega
 have zl:zBig.length=2:=rfl
 have bl:∀z:Int,(A6 z).length=2:=fun z=>rfl
 obtain ⟨v',H',r1,r2,r3,r4,r5,r6,r7⟩:=rest (qa (u+1) x k) (qb (u+1) y k) rfl rfl
 refine ⟨v',H',r1,r2,r3,r4,r5,r6,fun rec=>?_⟩
 have s1:∀z,Af 2 (.ptr Hd.length 0 0) (big z) (Hd++[.cel 0 zBig]++[.cel 0 zBig])=some (Hd++[.cel 0 (A6 z)]++[.cel 0 zBig]):=fun z=>two_a zl
 have s2:∀z A,Af 2 (.ptr (Hd.length+1) 0 0) (big z) (Hd++[.cel 0 A]++[.cel 0 zBig])=some (Hd++[.cel 0 A]++[.cel 0 (A6 z)]):=fun z A=>two_b zl
 have s3:∀z z' B,Af 2 (.ptr Hd.length 0 0) (big z) (Hd++[.cel 0 (A6 z')]++[.cel 0 B])=some (Hd++[.cel 0 (A6 z)]++[.cel 0 B]):=fun z z' B=>two_a (bl z')
 have s4:∀z z' A,Af 2 (.ptr (Hd.length+1) 0 0) (big z) (Hd++[.cel 0 A]++[.cel 0 (A6 z')])=some (Hd++[.cel 0 A]++[.cel 0 (A6 z)]):=fun z z' A=>two_b (bl z')
 have j3:∀a:Int,a=qa (u+1) x k→Sh.f7m H self (fun vs H1=>Sh.f47 H rec (ag vs 0) (ag vs 1) (ag vs 2) (ag vs 3) (ag vs 4) (ag vs 5) (ag vs 6) H1) (.sl (enL cNd L) tk) (.int .i64 (n:Int)) (.ptr p5 0 0) (.ptr p7 0 0) (.ptr p17 0 0) vo (.int .i64 (k:Int)) (.ptr Hd.length 0 0) (.ptr (Hd.length+1) 0 0) (Hd++[.cel 0 (A6 a)]++[.cel 0 (A6 y)])=rec [.sl (enL cNd L) tk,.int .i64 (n:Int),.ptr p5 0 0,.ptr p7 0 0,.ptr p17 0 0,v',.int .i64 ((k+1:Nat):Int)] H':=by
  intro a ha
  subst ha
  unfold Sh.f7m
  have hqb:qb (u+1) y k=if 1<k then y+2^u else y:=by unfold qb;rw [YM]
  have r7':=r7 rec
  rw [hqb]at r7'
  by_cases hk1:1<k
  ·rw [if_pos hk1]at r7'
   simp only [GMb,GMc,hgt,hk1,ly2,lh2,addy,s4,Ai]
   exact r7'
  ·rw [if_neg hk1]at r7'
   simp only [GMb,GMc,hgt,hk1,Ai]
   exact r7'
 have hqa:qa (u+1) x k=if k%2=1 then x+2^u else x:=by unfold qa;rw [YM]
 rw [hqa]at j3
 unfold Sh.f58
 simp only [GMb,GMc,hk',al1,al2,lx0,ly0,lx2,ly2,s1,s2,and_true,eq_self,HD (show (2:Int)≠0 by decide),hrem,hmod,Ai]
 by_cases hk2:k%2=1
 ·rw [if_pos hk2]at j3
  simp only [GMb,GMc,hk2,lx2,lh2,addx,s3,Ai]
  exact j3 _ rfl
 ·rw [if_neg hk2]at j3
  simp only [GMb,GMc,hk2,Ai]
  exact j3 _ rfl
theorem q07_listN {L:List Nd} {tk:Tok} (hL:L.length<549755813888) (hl:AU L=true):∀(v n:Nat) (x y:Int) (d:Nat) (H:Aa),Lv L v n→v≤d→v≤1329→x.natAbs+2^v≤2^1340→y.natAbs+2^v≤2^1340→(C5 L v n x y).length≤1000000000000 →
  Sh.fm (d+1) (.sl (enL cNd L) tk) (.int .i64 (n:Int)) (big x) (big y) H=some (.ret (.sl (enL cCl (C5 L v n x y)) .no),H):=by
 intro v
 induction v with
 | zero=>
  intro n x y d H hLv _ _ _ _ _
  have hn:n=0:=by
   rcases ZI n with h | h
   ·exact h
   ·have:=(hLv.num h hl).2;omega
  subst hn
  show Sh.f59 (Sh.fm d) _ _ _ _ H=_
  unfold Sh.f59
  simp only [GMb,GMc,DC,Int.natCast_zero,Oo,FS]
  rw [Y1,Co]
  simp only [Ft,Option.map_some]
 | succ u ih=>
  intro n x y d H hLv hd hv hx hy hlen
  show Sh.f59 (Sh.fm d) _ _ _ _ H=_
  unfold Sh.f59
  by_cases hn:n=0
  ·subst hn
   simp only [GMb,GMc,DC,Int.natCast_zero,Oo,FS]
   rw [Y1,Co]
   simp only [Ft,Option.map_some]
  ·have hn0:0<n:=by omega
   have hn':¬(n:Int)=0:=by omega
   have hnL:=hLv.1
   have hni:n-1<L.length:=by omega
   have hnd:AS L (n:Int)=L[n-1]:=Eo (by omega) hni
   obtain ⟨hlv,_⟩:=hLv.num hn0 hl
   have hwn:=Iq hn0 (show n<9223372036854775807 by omega)
   have hlv2:L[n-1].lv=((u+1:Nat):Int):=by rw [←hnd];exact hlv
   have hwl:IntKind.i64.wrap (((u+1:Nat):Int)-1)=((u:Nat):Int):=by rw [Am] <;> omega
   have hpow:=fun H=>Jc u H (by omega)
   have hcells:C5 L (u+1) n x y=(List.range 4).flatMap fun k=>DX (C5 L u) (u+1) (AS L n) x y k:=by
    show (if (n:Int)=0 then _ else _)=_
    rw [if_neg hn']
   have h5:(H++[Blk.cel 0 (A6 x)]++[Blk.cel 0 (A6 y)]++[Blk.cel 0 (A6 (2^u))])[H.length]? = some (.cel 0 (A6 x)):=by simp
   have h7:(H++[Blk.cel 0 (A6 x)]++[Blk.cel 0 (A6 y)]++[Blk.cel 0 (A6 (2^u))])[(H++[Blk.cel 0 (A6 x)]).length]? = some (.cel 0 (A6 y)):=A1 Ap
   have h17:(H++[Blk.cel 0 (A6 x)]++[Blk.cel 0 (A6 y)]++[Blk.cel 0 (A6 (2^u))])[(H++[Blk.cel 0 (A6 x)]++[Blk.cel 0 (A6 y)]).length]? = some (.cel 0 (A6 (2^u))):=Ap
   have hst:Af 2 (.ptr (H++[Blk.cel 0 (A6 x)]++[Blk.cel 0 (A6 y)]).length 0 0) (big (2^u)) (H++[Blk.cel 0 (A6 x)]++[Blk.cel 0 (A6 y)]++[Blk.cel 0 zBig])=some (H++[Blk.cel 0 (A6 x)]++[Blk.cel 0 (A6 y)]++[Blk.cel 0 (A6 (2^u))]):=by
    rw [Cu Ap rfl,Bd]
   have hold:∀i,i<H.length→(H++[Blk.cel 0 (A6 x)]++[Blk.cel 0 (A6 y)]++[Blk.cel 0 (A6 (2^u))])[i]? = H[i]? := fun i hi=>by rw [Y1,Y1,Yx hi]
   have hlen0:H.length≤(H++[Blk.cel 0 (A6 x)]++[Blk.cel 0 (A6 y)]++[Blk.cel 0 (A6 (2^u))]).length:=by simp
   simp only [GMb,GMc,DC,hn',hwn,Ay hni,An,A9,Yy,BY,hlv2,hwl,hpow,Cd,hst]
   have b7:H.length≤(H++[Blk.cel 0 (A6 x)]).length:=by simp
   have b17:H.length≤(H++[Blk.cel 0 (A6 x)]++[Blk.cel 0 (A6 y)]).length:=by simp
   generalize (H++[Blk.cel 0 (A6 x)]++[Blk.cel 0 (A6 y)]).length=p17 at *
   generalize (H++[Blk.cel 0 (A6 x)]).length=p7 at *
   generalize H++[Blk.cel 0 (A6 x)]++[Blk.cel 0 (A6 y)]++[Blk.cel 0 (A6 (2^u))]=Hc at *
   obtain ⟨d',rfl⟩:∃d',d=d'+1:=⟨d-1,by omega⟩
   have hpre:∀k,k≤4→((List.range k).flatMap fun k=>DX (C5 L u) (u+1) (AS L n) x y k).length≤(C5 L (u+1) n x y).length:=by
    intro k hk
    rw [hcells,show (4:Nat)=k+(4-k)by omega,List.range_add,ZV,Y2]
    omega
   have loop:=GB (G:=fun rec1 vs H1=>Sh.f58 H (Sh.fm (d'+1)) rec1 (ag vs 0) (ag vs 1) (ag vs 2) (ag vs 3) (ag vs 4) (ag vs 5) (ag vs 6) H1) 4
    (fun k vs Hd=>∃vo,vs=[.sl (enL cNd L) tk,.int .i64 (n:Int),.ptr H.length 0 0,.ptr p7 0 0,.ptr p17 0 0,vo,.int .i64 (k:Int)]∧RS cCl A0 5 H.length ((List.range k).flatMap fun k=>DX (C5 L u) (u+1) (AS L n) x y k) vo Hd∧Hd[H.length]? = some (.cel 0 (A6 x))∧Hd[p7]? = some (.cel 0 (A6 y))∧Hd[p17]? = some (.cel 0 (A6 (2^u)))∧(∀i,i<H.length→Hd[i]? = H[i]?)∧H.length≤Hd.length)
    (by decide) (fun k vs Hd hk hI=>?_) (vs:=[.sl (enL cNd L) tk,.int .i64 (n:Int),.ptr H.length 0 0,.ptr p7 0 0,.ptr p17 0 0,.sl [] .tight,.int .i64 0]) (H:=Hc) ⟨_,rfl,.inl ⟨rfl,rfl⟩,h5,h7,h17,hold,hlen0⟩
   ·obtain ⟨vs',Hd,⟨vo,rfl,gR,_,_,_,go,gl⟩,rec,hloop⟩:=loop
    rw [hloop]
    obtain ⟨tk2,rfl⟩:=gR.sl
    have hf:¬(((4:Nat):Int)<4):=by decide
    unfold Sh.f58
    simp only [Al,Ai,Bj,BD,hf,decide_false,AM,Gc (Cv go),Ft,Option.map_some]
    rw [hcells]
   ·obtain ⟨vo,rfl,gR,g5,g7,g17,go,gl⟩:=hI
    have hck:=hpre (k+1) (by omega)
    rw [Qak,ZV,Y2,QaQ]at hck
    obtain ⟨v',H',a1,a2,a3,a4,a5,a6,a7⟩:=list_turn (self:=Sh.fm (d'+1)) hL hl hn0 hnL hlv hk hv hx hy (Yz _) b7 b17 g5 g7 g17 gR go gl (fun c a b H1 hc hu0 ha hb=>by
     subst hc
     have h1:1<(AS L n).lv:=by rw [hlv];omega
     obtain ⟨e1,e2,e3⟩:=hLv.kid hl hn0 h1 hk
     obtain ⟨m,hm⟩:=Zj e3
     rw [hm]at e1 ⊢
     rw [Int.toNat_natCast]at e1
     refine ih m a b d' H1 e1 (by omega) (by omega) (by rw [ha];exact qa_abs hx) (by rw [hb];exact qb_abs hy) ?_
     have h2:DX (C5 L u) (u+1) (AS L n) x y k=C5 L u m a b:=by unfold DX;rw [if_pos h1,ha,hb,hm]
     rw [←h2];omega) (by omega)
    refine ⟨_,H',⟨v',rfl,?_,a2,a3,a4,a5,a6⟩,fun rec=>?_⟩
    ·rw [Qak,ZV,QaQ];exact a1
    ·exact a7 rec
theorem R6 (L:List Nd):∀(d i:Nat),i+d=L.length→∀j,j≤i→(BP (L.take i)).getD j none=(BP L).getD j none
 | 0,i,h,j,hj=>by rw [Y6 (by omega)]
 | d+1,i,h,j,hj=>by
  rw [←R6 L d (i+1) (by omega) j (by omega),JV L (show i<L.length by omega)]
  have hlen:(BP (L.take i)).length=i+1:=by rw [IG];simp;omega
  simp only [Y0]
  rw [Yx (by omega)]
theorem Wo {E E':List (Option Int)} {x:Nd} (h:∀k,k<4→1<x.lv→E.getD (x.kid k).toNat none=E'.getD (x.kid k).toNat none):∀j,j≤4→CO E x j=CO E' x j
 | 0,_=>rfl
 | j+1,hj=>by
  have ih:=Wo h j (by omega)
  unfold CO
  by_cases h1:1<x.lv
  ·rw [if_pos h1,if_pos h1,ih,h j (by omega) h1]
  ·rw [if_neg h1,if_neg h1,ih]
theorem cntL_get {L:List Nd} (hl:AU L=true) {m:Nat} (hm:m<L.length):(BP L).getD (m+1) none=CO (BP L) L[m] 4:=by
 have hlen:(BP (L.take m)).length=m+1:=by rw [IG];simp;omega
 obtain ⟨l1,l2,l3⟩:=AP hl hm
 rw [←R6 L (L.length-(m+1)) (m+1) (by omega) (m+1) (Yz _),JV L hm]
 have hg:(BP (L.take m)++[CO (BP (L.take m)) L[m] 4]).getD (m+1) none=CO (BP (L.take m)) L[m] 4:=by
  rw [Y0,YO (by omega),hlen];simp
 rw [hg]
 refine Wo (fun k hk h1=>?_) 4 (Yz _)
 obtain ⟨q1,q2,q3⟩:=l3 k hk
 have:(L[m].kid k).toNat≤m:=by
  by_cases h0:0<L[m].kid k
  ·have:=(q3 h1 h0).1;omega
  ·omega
 exact R6 L (L.length-m) m (by omega) _ this
theorem Yj (L:List Nd):(BP L).getD 0 none=none:=by
 rw [←R6 L L.length 0 (by omega) 0 (Yz _)];rfl
theorem cellsN_len {L:List Nd} (hl:AU L=true):∀(v n:Nat) (x y:Int),Lv L v n→((C5 L v n x y).length:Int)=bo ((BP L).getD n none):=by
 intro v
 induction v with
 | zero=>
  intro n x y hLv
  have hn:n=0:=by
   rcases ZI n with h | h
   ·exact h
   ·have:=(hLv.num h hl).2;omega
  subst hn
  rw [Yj];rfl
 | succ u ih=>
  intro n x y hLv
  by_cases hn:n=0
  ·subst hn
   rw [Yj]
   rw [show ((0:Nat):Int)=0 from rfl,Oo];rfl
  ·have hn0:0<n:=by omega
   have hn':¬(n:Int)=0:=by omega
   have hnL:=hLv.1
   have hni:n-1<L.length:=by omega
   have hnd:AS L (n:Int)=L[n-1]:=Eo (by omega) hni
   obtain ⟨hlv,_⟩:=hLv.num hn0 hl
   obtain ⟨l1,l2,l3⟩:=AP hl hni
   have hcells:C5 L (u+1) n x y=(List.range 4).flatMap fun k=>DX (C5 L u) (u+1) (AS L n) x y k:=by
    show (if (n:Int)=0 then _ else _)=_
    rw [if_neg hn']
   have hget:=cntL_get hl hni
   rw [show n-1+1=n by omega]at hget
   rw [hcells,hget,←hnd]
   have part:∀k,k≤4→(((List.range k).flatMap fun k=>DX (C5 L u) (u+1) (AS L n) x y k).length:Int)=bo (CO (BP L) (AS L n) k):=by
    intro k
    induction k with
    | zero=>intro _;simp [CO,bo]
    | succ k ihk=>
     intro hk
     have ih2:=ihk (by omega)
     rw [Qak,ZV,Y2,QaQ]
     push_cast
     rw [ih2]
     unfold DX
     rw [show CO (BP L) (AS L n) (k+1)=if 1<(AS L n).lv then some (bo (CO (BP L) (AS L n) k)+bo ((BP L).getD ((AS L n).kid k).toNat none))else if 0<(AS L n).kid k then some (bo (CO (BP L) (AS L n) k)+1)else CO (BP L) (AS L n) k from rfl]
     by_cases h1:1<(AS L n).lv
     ·rw [if_pos h1,if_pos h1]
      obtain ⟨e1,e2,e3⟩:=hLv.kid hl hn0 h1 (show k<4 by omega)
      obtain ⟨m,hm⟩:=Zj e3
      rw [hm]at e1 ⊢
      rw [Int.toNat_natCast]at e1 ⊢
      rw [ih m _ _ e1];rfl
     ·rw [if_neg h1,if_neg h1]
      by_cases h0:0<(AS L n).kid k
      ·rw [if_pos h0,if_pos h0];rfl
      ·rw [if_neg h0,if_neg h0];simp
   exact part 4 (Yz _)
theorem Yn {L:List Nd}:∀(v:Nat) (n x y:Int),x.natAbs+2^v≤2^1340→y.natAbs+2^v≤2^1340→∀c∈C5 L v n x y,SB 42 c.x∧SB 42 c.y:=by
 intro v
 induction v with
 | zero=>intro n x y _ _ c hc;cases hc
 | succ u ih=>
  intro n x y hx hy c hc
  have hc':c∈(if n=0 then []else (List.range 4).flatMap fun k=>DX (C5 L u) (u+1) (AS L n) x y k):=hc
  split at hc'
  ·cases hc'
  ·rw [List.mem_flatMap]at hc'
   obtain ⟨k,_,hk⟩:=hc'
   unfold DX at hk
   have ha:=qa_abs (k:=k) hx
   have hb:=qb_abs (k:=k) hy
   split at hk
   ·exact ih _ _ _ ha hb c hk
   ·split at hk
    ·rw [YI]at hk
     subst hk
     exact ⟨OM ha,OM hb⟩
    ·cases hk
theorem cellsN_ok {L:List Nd} (v:Nat) (n x y:Int) (hx:x.natAbs+2^v≤2^1340) (hy:y.natAbs+2^v≤2^1340):∀c∈C5 L v n x y,c.ok:=fun c hc=>by
 obtain ⟨h1,h2⟩:=Yn v n x y hx hy c hc
 exact ⟨h1.mono (by omega),h2.mono (by omega)⟩
def DJ (L:List Nd):Int:=-(2^((Ck L).toNat-1))
def HY (L:List Nd):List Cl:=C5 L (Ck L).toNat L.length (DJ L) (DJ L)
def Tm (L:List Nd) (most:Int):List Cl×Bool:=if IF L>most then ([],false)else if L=[]then ([],true)else (CV (HY L),true)
theorem countZ_b {L:List Nd} (hl:AU L=true):LB (IF L):=by
 have h:=U3 hl L.length (Yz _) L.length (Yz _)
 rw [Y6 (Yz _)]at h
 unfold IF
 refine (SB_four h.1 h.2 ?_).lb (by omega)
 cases hq:L.length with
 | zero=>simp
 | succ m=>
  simp only
  have hml:m<L.length:=by omega
  rw [Yu hml]
  have:=(AP hl hml).2.1
  simp only;omega
theorem corner_k {v k:Nat} (h:v+1≤k):(-((2:Int)^(v-1))).natAbs+2^v≤2^k:=by
 have e:((2:Int)^(v-1)).natAbs=2^(v-1):=by rw [QaE];rfl
 rw [Qba,e]
 have h1:2^(v-1)≤2^v:=YT (by omega) (by omega)
 have h2:2^v*2≤2^k:=by rw [←Nat.pow_succ];exact pow2_le h
 omega
theorem Wl {L:List Nd} (hl:AU L=true) (h0:L≠[]):(DJ L).natAbs+2^(Ck L).toNat≤2^1340:=by
 have hlen:0<L.length:=YZ.2 h0
 have hle:(Ck L).toNat≤1329:=Tk hl hlen (Yz _)
 unfold DJ
 generalize (Ck L).toNat=v at *
 exact corner_k (k:=1340) (by omega)
theorem Wp {L:List Nd} (hl:AU L=true) (h0:L≠[]):((HY L).length:Int)=IF L:=by
 have hlen:0<L.length:=YZ.2 h0
 exact cellsN_len hl _ L.length _ _ ⟨Yz _,.inr rfl⟩
theorem q07_List (L:List Nd) (most:Int) (H:Aa) (hL:L.length<549755813888) (hl:AU L=true) (h0:-9223372036854775808≤most) (h1:most≤500000000000) :
  Sh.f48 (El L) (.int .i64 most) H=some (.ret (.tup [.sl (enL cCl (Tm L most).1) .no,.bool (Tm L most).2]),H):=by
 unfold Sh.f48 Tm
 have e3:(H++[Blk.cel 0 (C6 L)])[H.length]? = some (.cel 0 (C6 L)):=Ap
 have hct:=fun H=>q07_count L H hL hl
 have hof:=fun H=>q02_of most H h0 (by omega)
 have hcmp:=fun H=>G7 (IF L) most H (countZ_b hl) (LB_i64 (by omega) (by omega))
 have hgt:decide (EZ (IF L) most>0)=decide (IF L>most):=by
  unfold EZ
  rw [YD];simp only [decide_eq_true_eq]
  split
  ·omega
  ·split <;> omega
 simp only [GMb,GMc,boxQ,Ul e3,hct,hof,hcmp,hgt]
 by_cases hc:IF L>most
 ·rw [if_pos hc]
  simp only [hc,GMb,GMc]
  simp [enL]
 ·rw [if_neg hc]
  simp only [hc,GMb,GMc,Ah,Yy,Dx e3,Aw]
  by_cases hn:L=[]
  ·rw [if_pos hn]
   have:((L.length:Int)=0):=by rw [hn];rfl
   simp only [this,GMb,GMc]
   simp [enL]
  ·rw [if_neg hn]
   have hlen:0<L.length:=YZ.2 hn
   have hne:¬((L.length:Int)=0):=by omega
   have hLv:Lv L (Ck L).toNat L.length:=⟨Yz _,.inr rfl⟩
   obtain ⟨hv1,hv2⟩:=hLv.num hlen hl
   have hv3:Ck L=((Ck L).toNat:Int):=hv1
   have hle:(Ck L).toNat≤1329:=Tk hl hlen (Yz _)
   have hlv:=fun H=>X4 L .no H (show L.length<17592186044415 by omega)
   rw [if_neg hn]at hlv
   obtain ⟨v,hv⟩:∃v,v=(Ck L).toNat:=⟨_,rfl⟩
   rw [←hv]at hv2 hle hv3
   have hwl:IntKind.i64.wrap (Ck L-1)=((v-1:Nat):Int):=by rw [hv3,Am] <;> omega
   have hpow:=fun H=>Jc (v-1) H (by omega)
   have hmin:=fun H=>I7 (2^(v-1)) H (LB_pow _ (by omega))
   have hcz:-(2^(v-1))=DJ L:=by unfold DJ;rw [hv]
   rw [hcz]at hmin
   have hst:Af 2 (.ptr (H++[Blk.cel 0 (C6 L)]).length 0 0) (big (DJ L)) (H++[Blk.cel 0 (C6 L)]++[Blk.cel 0 zBig])=some (H++[Blk.cel 0 (C6 L)]++[Blk.cel 0 (A6 (DJ L))]):=by
    rw [Cu Ap rfl,Bd]
   have hlc:Ac true 2 (.ptr (H++[Blk.cel 0 (C6 L)]).length 0 0) (H++[Blk.cel 0 (C6 L)]++[Blk.cel 0 (A6 (DJ L))])=some (big (DJ L)):=AW Ap
   have hln:∀G,Ac false 1 (.ptr H.length 0 0) (H++[Blk.cel 0 (C6 L)]++G)=some (.sl (enL cNd L) .no):=fun G=>Dx (A1 e3)
   have hab:=Wl hl hn
   have hcl:=Wp hl hn
   obtain ⟨F,hF⟩:=XW 2000 (by omega)
   have hcv:HY L=C5 L v (L.length) (DJ L) (DJ L):=by unfold HY;rw [←hv]
   have hlist:∀H,Sh.fm AK (.sl (enL cNd L) .no) (.int .i64 (L.length:Int)) (big (DJ L)) (big (DJ L)) H=some (.ret (.sl (enL cCl (HY L)) .no),H):=by
    intro H
    rw [hF,show F+2000=(F+1999)+1 from rfl]
    rw [hcv]
    exact q07_listN hL hl v L.length (DJ L) (DJ L) (F+1999) H (by rw [hv];exact hLv) (by omega) hle (by rw [hv];exact hab) (by rw [hv];exact hab) (by rw [←hcv];omega)
   have hlast:=fun H=>q07_last (HY L) .no H (by omega) (cellsN_ok _ _ _ _ hab hab)
   have hlv':∀H,Sh.f16 (El L) H=some (.ret (.int .i64 (Ck L)),H):=hlv
   simp only [hne,GMb,GMc,Ul e3,hlv',hwl,hpow,hmin,Cd]
   simp only [GMb,GMc,hst,hln,hlc,Ah,Yy,Nat.add_zero,Aw,hlist,hlast]
   rw [Y1,Co]
   simp
def Oc (s0:List UInt8) (l:List Cl):List UInt8:=l.foldl (fun s c=>s++TP c.x++[32]++TP c.y++[10]) s0
def Ix (rule:List UInt8):List UInt8:=[35,76,105,102,101,32,49,46,48,54,10,35,82,32]++rule++[10]
def life6T (rule:List UInt8) (L:List Nd):List UInt8:=Oc (Ix rule) (Tm L 1000000).1
theorem To (s0:List UInt8) (l:List Cl) {i:Nat} (hi:i<l.length):Oc s0 (l.take (i+1))=Oc s0 (l.take i)++TP l[i].x++[32]++TP l[i].y++[10]:=by
 unfold Oc
 rw [Y5 hi,Qad];rfl
theorem VG (s0:List UInt8) (l:List Cl) (h:∀c∈l,(TP c.x).length≤5000∧(TP c.y).length≤5000):∀i,i≤l.length→(Oc s0 (l.take i)).length≤s0.length+i*10002
 | 0,_=>by simp [Oc]
 | i+1,hi=>by
  have ih:=VG s0 l h i (by omega)
  have h2:=h l[i] (Y8 hi)
  rw [To s0 l hi]
  simp only [Y2,List.length_singleton]
  omega
theorem listO_mem {L:List Nd} (hl:AU L=true) (most:Int) (h0:0≤most) (h1:most≤500000000000):((Tm L most).1.length:Int)≤most∧∀c∈(Tm L most).1,SB 42 c.x∧SB 42 c.y:=by
 unfold Tm
 by_cases hc:IF L>most
 ·rw [if_pos hc];exact ⟨h0,fun c hc=>by cases hc⟩
 ·rw [if_neg hc]
  by_cases hn:L=[]
  ·rw [if_pos hn];exact ⟨h0,fun c hc=>by cases hc⟩
  ·rw [if_neg hn]
   have hab:=Wl hl hn
   have hcl:=Wp hl hn
   have hm:=Gt (l:=HY L) (HY L).length (Yz _)
   rw [Y6 (Yz _)]at hm
   have hsb:=Yn (L:=L) _ L.length _ _ hab hab
   refine ⟨?_,fun c hc=>?_⟩
   ·have h2:(CV (HY L)).length≤(Dl (HY L)).length:=Z2 _ _
    show ((CV (HY L)).length:Int)≤most
    omega
   ·have h3:c∈Dl (HY L):=(ZN.1 hc).1
    exact hsb c (hm.2 c h3)
theorem q12_life6 (rule:List UInt8) (L:List Nd) (b n:Int) (H:Aa) (hr:rule.length<35184372088832) (hL:L.length<549755813888) (h0:-9223372036854775808≤b) (h1:b≤9223372036854775807) :
  Sh.f17 (pat rule L) (.agg (IY b n)) H=some (.ret (if Lj 3 rule L b n=0 then .tup [.str (life6T rule L),.int .i64 0]else .tup [.str [],.int .i64 (Lj 3 rule L b n)]),H):=by
 unfold Sh.f17
 have hbx:∀H,Bz true 2 (.agg (IY b n)) H=some (.ptr H.length 0 0,H++[.cel 0 (IY b n)]):=fun H=>Ct rfl rfl
 have e3:(H++[Blk.cel 0 (HJ rule L)]++[Blk.cel 0 (IY b n)])[H.length]? = some (.cel 0 (HJ rule L)):=by simp
 have g5:Ac true 2 (.ptr (H++[Blk.cel 0 (HJ rule L)]).length 0 0) (H++[Blk.cel 0 (HJ rule L)]++[Blk.cel 0 (IY b n)])=some (.agg (IY b n)):=by
  simp only [Ac,AE (Ap (B:=H++[Blk.cel 0 (HJ rule L)])),Option.bind_some];rfl
 have hck:=fun H=>q11_check 3 rule L b n H (by omega) hL h0 h1
 simp only [GMb,GMc,boxPat,hbx,So e3,g5,hck]
 by_cases he:Lj 3 rule L b n=0
 ·obtain ⟨hl,b0,b1,hw,_,_⟩:=check_ok he (by decide)
  rw [if_pos he]
  have hli:=fun H=>q07_List L 1000000 H hL hl (by omega) (by omega)
  have hrl:=VB e3
  simp only [he,GMb,GMc,Ah,Yy,Nat.add_zero,KV e3,hli,B1,B8,hrl]
  rw [FO (by simp;omega)]
  simp only [GMb,GMc]
  rw [FO (by simp;omega)]
  simp only [GMb,GMc]
  obtain ⟨m1,m2⟩:=listO_mem hl 1000000 (by omega) (by omega)
  unfold life6T
  generalize (Tm L 1000000).1=l at *
  have hd:∀c∈l,(TP c.x).length≤5000∧(TP c.y).length≤5000:=fun c hc=>⟨(sb_dec ((m2 c hc).1.mono (by omega))).2,(sb_dec ((m2 c hc).2.mono (by omega))).2⟩
  have hhl:(Ix rule).length≤35184372088932:=by unfold Ix;simp;omega
  rw [Y1 H]
  generalize hG:[Blk.cel 0 (HJ rule L)]++[Blk.cel 0 (IY b n)]=G
  refine Ca (G:=fun rec1 vs H1=>Sh.f6m H rec1 (ag vs 0) (ag vs 1) (ag vs 2) H1) l.length (fun i=>[.sl (enL cCl l) .no,.str (Oc (Ix rule) (l.take i)),.int .i64 (i:Int)]) (fun _=>H++G) _ (by omega) (fun rec i hi=>?_) (fun rec=>?_)
  ·have hi':(i:Int)<(l.length:Int):=by omega
   have hws:=Av (show i<9223372036854775807 by omega)
   have hb:=VG (Ix rule) l hd i (by omega)
   have h2:=hd l[i] (Y8 hi)
   have h3:=m2 l[i] (Y8 hi)
   have tx:=fun H=>q03_text l[i].x H (sb_dec (h3.1.mono (show 42≤44 by omega))).1
   have ty':=fun H=>q03_text l[i].y H (sb_dec (h3.2.mono (show 42≤44 by omega))).1
   rw [To _ l hi]
   unfold Sh.f6m
   simp only [GMb,GMc,Aw,hi',Ay hi,An,Yy,Nat.add_zero,Rh,Rg,tx,ty',and_true,eq_self]
   iterate 4
    rw [FO (by first | omega | (simp;omega))]
    simp only [GMb,GMc,hws]
  ·unfold Sh.f6m
   rw [Y6 (Yz _)]
   simp only [GMb,GMc,Aw,Zl]
   exact rP_plain (v:=.tup [.str (Oc (Ix rule) l),.int .i64 0]) rfl
 ·rw [if_neg he]
  simp only [he,GMb,GMc]
  rw [Y1]
  exact rP_plain (v:=.tup [.str [],.int .i64 (Lj 3 rule L b n)]) rfl
set_option maxRecDepth 100000
def s6A:List UInt8:=[35,76,105,102,101,32,49,46,48,54,13,10,49,32,45,50,10,35,82,32,97,98,99,10,49,32,45,50]
def s6B:List UInt8:=[35,76,105,102,101,32,49,46,48,54,10,49,32,32,50]
def s6C:List UInt8:=[35,76,105,102,101,32,49,46,48,54,10,49,50]
def s6D:List UInt8:=[35,76,105,102,101,32,49,46,48,54,10,10]
def s6T:List UInt8:=[35,76,105,102,101,32,49,46,48,54,10,35,82,32,97,98,99,10,49,32,45,50,10]
def l6A:List Nd:=HV [⟨1,-2,1⟩,⟨1,-2,1⟩] |>.1
theorem y6A:N4 s6A 1000 100000=(([97,98,99],l6A),0,0):=by decide +kernel
theorem y6T:Lj 3 [97,98,99] l6A 1000 100000=0:=by decide +kernel
theorem y6W:life6T [97,98,99] l6A=s6T:=by decide +kernel
theorem y6B:N4 s6B 1000 100000=(([],[]),13,2):=by decide +kernel
theorem y6C:XR s6C=([32,49],true):=by decide +kernel
theorem y6C2:(N4 (s6C++[32,49]) 1000 100000).2.2=0:=by decide +kernel
theorem y6D:(XR s6D).2=false:=by decide +kernel
theorem l6A_len:l6A.length<1000:=by decide +kernel
theorem q11P_wide (H:Aa):Sh.fz H=some (.ret (.agg [.int .i64 1000,.int .i64 100000]),H):=by
 have hb:A2 (some [(.int .i64 0),(.int .i64 0)]) [(0,1,(.int .i64 1000)),(1,1,(.int .i64 100000))]=some (.agg [.int .i64 1000,.int .i64 100000]):=rfl
 unfold Sh.fz
 simp only [GMb,GMc,HPa,HPc,HPd,HPe,HPz,Nat.reduceAdd,Nat.reduceLT,hb]
theorem q17_alive (H:Aa):Sh.f19 H=some (.ret (.bool true),H):=by
 have hA:=fun K=>Ie s6A 1000 100000 K (by decide)
 have hB:=fun K=>Ie s6B 1000 100000 K (by decide)
 have hC:=fun K=>QV s6C K (by decide)
 have hC2:=fun K=>Ie (s6C++[32,49]) 1000 100000 K (by decide)
 have hD:=fun K=>QV s6D K (by decide)
 have hl:=l6A_len
 have hT:=fun K=>q12_life6 [97,98,99] l6A 1000 100000 K (by decide) (by omega) (by decide) (by decide)
 have hx2:=y6C2
 generalize N4 (s6C++[32,49]) 1000 100000=R at hC2 hx2
 obtain ⟨⟨r1,r2⟩,r3,r4⟩:=R
 dsimp only at hx2
 subst hx2
 have hd2:=y6D
 generalize XR s6D=D at hD hd2
 obtain ⟨d1,d2⟩:=D
 dsimp only at hd2
 subst hd2
 have hadd:Ae .none .add (.str s6C) (.str [32,49])=some (.str (s6C++[32,49])):=FO (by decide)
 rw [y6A]at hA
 rw [y6B]at hB
 rw [y6C]at hC
 rw [if_pos y6T,y6W]at hT
 generalize l6A=LA at hA hT
 have hlim:IY 1000 100000=[.int .i64 1000,.int .i64 100000]:=rfl
 rw [hlim]at hT
 simp only [F0,HC]at hA hB hC2 hT
 dsimp only at hC hD
 unfold Sh.f19
 rw [show ([35,76,105,102,101,32,49,46,48,54,13,10,49,32,45,50,10,35,82,32,97,98,99,10,49,32,45,50]:List UInt8)=s6A from rfl,show ([35,76,105,102,101,32,49,46,48,54,10,49,32,32,50]:List UInt8)=s6B from rfl,
  show ([35,76,105,102,101,32,49,46,48,54,10,49,50]:List UInt8)=s6C from rfl,show ([35,76,105,102,101,32,49,46,48,54,10,10]:List UInt8)=s6D from rfl,show ([35,76,105,102,101,32,49,46,48,54,10,35,82,32,97,98,99,10,49,32,45,50,10]:List UInt8)=s6T from rfl]
 simp only [Sl.gliderref11_Wide_eq,Sl.life6_Read_eq,Sl.gliderref12_Life6_eq,Sl.life6_Hint_eq,GMb,GMc,HPa,HPc,HPd,HPe,HPz,Nat.reduceAdd,Nat.reduceLT,q11P_wide,hA,hB,hC,hadd,hC2,hD,hT,OA,beq_self_eq_true]
theorem readP_len (b:List UInt8) (bx N:Int):(N4 b bx N).1.2.length≤100000:=by
 unfold N4
 split
 ·rename_i hf
  unfold JR at hf
  simp only [Y7,decide_eq_true_eq]at hf
  split
  ·exact YL _
  ·split
   ·rename_i hq
    simp only [Y7,decide_eq_true_eq]at hq
    dsimp only
    omega
   ·exact YL _
 ·exact YL _
theorem WI {b:List UInt8} (bx N:Int) (H:Aa):Sh.f6w (.str b) (.agg [.int .i64 bx,.int .i64 N]) H=some (.ret (.bool true),H):=by
 unfold Sh.f6w
 simp only [Sl.gliderlaw17_alive_eq,Sl.life6_Read_eq,Sl.gliderref17_Read_eq,Sl.gliderref11_Same_eq,GMb,GMc,HPa,HPc,HPd,HPe,HPz,Nat.reduceAdd,Nat.reduceLT,q17_alive]
 by_cases hb:b.length>500
 ·have hd:decide ((b.length:Int)>500)=true:=decide_eq_true (by omega)
  simp only [GMb,GMc,HPa,HPc,HPd,HPe,HPz,Nat.reduceAdd,Nat.reduceLT,hd]
 ·have hd:decide ((b.length:Int)>500)=false:=decide_eq_false (by omega)
  have h1:=fun K=>Ie b bx N K (by omega)
  have h2:=fun K=>q17_read b bx N K (by omega)
  have hl:=readP_len b bx N
  generalize N4 b bx N=R at h1 h2 hl
  obtain ⟨⟨r,L⟩,i,e⟩:=R
  have hs:=fun K=>q11_same r r L L K (by dsimp only at hl;omega)
  simp only [F0,HC]at h1 h2 hs
  simp only [GMb,GMc,HPa,HPc,HPd,HPe,HPz,Nat.reduceAdd,Nat.reduceLT,hd,h1,h2,hs]
end Go.Gm
