/- Texts of this proof, joined. -/
import Derived.Test.YtagddbecnkbcdaaGreatJ2
import Derived.Test.YtagddbecnkbcdaaGreatJ3
import Derived.Test.YtagddbecnkbcdaaGreatJ4
import Derived.OrdersIn
import Derived.TacticsIn
import Derived.RangeFuncCalls
import Derived.Shelf.RegionOpen
import Derived.Laws.ResultCell
import Derived.Test.YtagddbecnkbcdaaGreatProg
import Derived.WalkKit
import Derived.Tactics
import Derived.Tactics2
import Derived.Defers
import Derived.Recover
import Derived.Laws.Pointers
import Derived.Test.YtagddbecnkbcdaaGreatChecked
import Derived.KernelRfl
set_option linter.unusedVariables false
set_option linter.unusedSimpArgs false
namespace Go.Gm
theorem Mv {z:Int} {v:Nat} (h0:0≤z) (h:z<2^v) (hv:v≤1400):LB z:=by
 have h1:=Nh hv
 have h2:=UK v
 unfold SB at h1
 refine LB.of (k:=44) (X6 ?_ h1) (by decide)
 generalize (2:Int)^v=p at *
 omega
theorem Nk {nf:Nat→Nat} (hnf:∀j,nf j<4) (L:List Nd) (tk:Tok) (H:Aa) (hL:L.length<549755813888) (hl:AP L=true) :
  Sh.fx (.sl (enL cNd L) tk) (.agg (Fz (nf 0) (nf 1))) (.agg (Fz (nf 2) (nf 3))) H=some (.ret (.sl (enL cBO (C7 nf L)) .no),H):=by
 unfold Sh.fx
 have hmk:=FG (f:=cBO) (a:=none) (n:=L.length+1) (bytes:=32) (H:=H++[Blk.cel 0 (Fz (nf 0) (nf 1))]++[Blk.cel 0 (Fz (nf 2) (nf 3))]) (by omega) (by omega)
 simp only [show cBO none=[Ab.bool false,.sl [] .tight] from rfl]at hmk
 simp only [GMb,GMc,boxTwo,Av,Aw (show L.length<9223372036854775807 by omega),hmk]
 have l1:(H++[Blk.cel 0 (Fz (nf 0) (nf 1))]).length=H.length+1:=by simp
 have l2:(H++[Blk.cel 0 (Fz (nf 0) (nf 1))]++[Blk.cel 0 (Fz (nf 2) (nf 3))]).length=H.length+2:=by simp
 rw [l1,l2]
 have loop:=HC (G:=fun rec1 vs Hc=>Sh.f5l H rec1 (ag vs 0) (ag vs 1) (ag vs 2) (ag vs 3) (ag vs 4) Hc) L.length
  (fun i vs Hc=>vs=[.sl (enL cNd L) tk,.ptr H.length 0 0,.ptr (H.length+1) 0 0,.ms (H.length+2) 0 0 (L.length+1) (L.length+1) 2 true,.int .i64 (i:Int)]∧Hc[H.length]? = some (.cel 0 (Fz (nf 0) (nf 1)))∧Hc[H.length+1]? = some (.cel 0 (Fz (nf 2) (nf 3)))∧Hc[H.length+2]? = some (.cel 0 (flat cBO (C7 nf (L.take i)++List.replicate (L.length-i) none)))∧(∀k,k<H.length→Hc[k]? = H[k]?)∧H.length+3≤Hc.length)
  (by omega) (fun i vs Hc hi hI=>?_) (vs:=[.sl (enL cNd L) tk,.ptr H.length 0 0,.ptr (H.length+1) 0 0,.ms (H.length+2) 0 0 (L.length+1) (L.length+1) 2 true,.int .i64 0])
  (H:=H++[Blk.cel 0 (Fz (nf 0) (nf 1))]++[Blk.cel 0 (Fz (nf 2) (nf 3))]++[Blk.cel 0 (flat cBO (List.replicate (L.length+1) none))])
  ⟨rfl,by simp,by simp,by simp [C7,List.replicate_succ],fun k hk=>by rw [WG,WG,WD hk],by simp⟩
 ·obtain ⟨vs',Hc,⟨rfl,f1,f2,f3,f4,f5⟩,rec,hloop⟩:=loop
  rw [hloop]
  unfold Sh.f5l
  rw [WN (WF _),Xn,List.replicate_zero,Xl]at f3
  have hfa:=SD (f:=cBO) (b:=H.length) (d:=5) (cap:=L.length+1) (ex:=true) (A5 f3) (by omega)
  rw [Ht]at hfa
  simp only [GMb,GMc,Ai,Av,XA,Hx (CB f4),hfa,Option.map_some]
 ·obtain ⟨rfl,f1,f2,f3,f4,f5⟩:=hI
  have hi':(i:Int)<(L.length:Int):=by omega
  have hwi:=Aw (show i<9223372036854775807 by omega)
  obtain ⟨v1,v2,v3⟩:=AO hl hi
  have hw:IntKind.i64.wrap (L[i].lv-1)=((L[i].lv.toNat-1:Nat):Int):=by rw [Al] <;> omega
  have hpow:=fun H=>Pp (L[i].lv.toNat-1) H (by omega)
  have hEB:=edgeL_b hnf hl i (by omega)
  have hlen:(C7 nf (L.take i)).length=i+1:=by rw [Ht];simp;omega
  have s1:Ah 2 (.ptr Hc.length 0 0) (big (2^(L[i].lv.toNat-1))) (Hc++[.cel 0 [.bool false,.sl [] .tight]])=some (Hc++[.cel 0 (AD (2^(L[i].lv.toNat-1)))]):=by rw [Dk (Ar (B:=Hc)) rfl,Bv]
  generalize hE:C7 nf (L.take i)++List.replicate (L.length-i) none=E at f3
  have hEl:E.length=L.length+1:=by rw [←hE];simp [hlen];omega
  have hgetE:∀c,c≤i→E.getD c none=(C7 nf (L.take i)).getD c none:=fun c hc=>by
   rw [←hE,WH,WH,WD (by omega)]
  have hkidle:∀j,1<L[i].lv→(L[i].kid (nf j)).toNat≤i:=fun j h1=>by
   obtain ⟨q1,q2,q3⟩:=v3 (nf j) (hnf j)
   by_cases hc:0<L[i].kid (nf j)
   ·have:=(q3 h1 hc).1;omega
   ·omega
  have hJeq:∀j,D3 nf E L[i] j=D3 nf (C7 nf (L.take i)) L[i] j:=fun j=>by
   unfold D3
   by_cases h1:1<L[i].lv
   ·rw [if_pos h1,if_pos h1,hgetE _ (hkidle j h1)]
   ·rw [if_neg h1,if_neg h1]
  have hDeq:∀j,Db nf E L[i] j=Db nf (C7 nf (L.take i)) L[i] j:=fun j=>by unfold Db;rw [hJeq]
  have hKeq:∀j,E6 nf E L[i] j=E6 nf (C7 nf (L.take i)) L[i] j:=fun j=>by
   induction j with
   | zero=>rfl
   | succ j ih=>unfold E6;rw [ih,hJeq,hDeq]
  have hJb:∀j,0≤D3 nf E L[i] j∧D3 nf E L[i] j<2^L[i].lv.toNat:=fun j=>by rw [hJeq];exact edgeJ_b v1 (Ur hnf hl hi hEB j)
  have hJl:∀j,LB (D3 nf E L[i] j):=fun j=>Mv (hJb j).1 (hJb j).2 (by omega)
  have hKl:∀j,j≤4→LB (bo (E6 nf E L[i] j).2):=fun j hj=>by
   have:=SG (fun j _=>hJb j) j hj
   exact Mv this.1 this.2 (by omega)
  have hrep:List.replicate (L.length-i) (none:Option Int)=none::List.replicate (L.length-(i+1)) none:=by rw [show L.length-i=(L.length-(i+1))+1 from by omega,List.replicate_succ]
  have hset:∀o:Option Int,E.set (i+1) o=C7 nf (L.take i)++o::List.replicate (L.length-(i+1)) none:=fun o=>by
   rw [←hE,hrep,Xg _ _ (by omega),hlen,Xn,List.set_cons_zero]
  have hset0:E.set (i+1) (E6 nf E L[i] 0).2=E:=by rw [hset];show C7 nf (L.take i)++none::_=E;rw [←hrep,hE]
  have turn:=fun (j:Nat) (hj:j<4) (Hd:Aa)=>edge_turn hnf tk H Hd E i j H.length (H.length+1) (H.length+2) Hc.length hi hj hL hEl ⟨v1,v2⟩ (v3 (nf j) (hnf j)).1 (fun h1=>⟨by have:=hkidle j h1;omega,by have:=hkidle j h1;omega,by
    rw [hgetE _ (hkidle j h1)]
    have:=Ur hnf hl hi hEB j h1
    exact Mv this.1 this.2 (by omega)⟩) (hJl j) (E6 nf E L[i] j) (hKl j (by omega)) ⟨by omega,by omega,by omega,by omega⟩ (by omega) (by omega) (by omega)
  have next:∀j,(if L[i].kid (nf j)=0 then E6 nf E L[i] j else if (E6 nf E L[i] j).1=false∨D3 nf E L[i] j<bo (E6 nf E L[i] j).2 then (true,Db nf E L[i] j)else E6 nf E L[i] j)=E6 nf E L[i] (j+1):=fun j=>rfl
  simp only [next]at turn
  obtain ⟨H1,t1,a1,b1,c1,d1,e1,g1⟩:=turn 0 (by omega) (Hc++[Blk.cel 0 (AD (2^(L[i].lv.toNat-1)))]) (AE f1) (AE f2) (by rw [hset0];exact AE f3) Ar (fun k hk=>by rw [WD (by omega)];exact f4 k hk) (by simp;omega)
  obtain ⟨H2,t2,a2,b2,c2,d2,e2,g2⟩:=turn 1 (by omega) H1 a1 b1 c1 d1 e1 g1
  obtain ⟨H3,t3,a3,b3,c3,d3,e3,g3⟩:=turn 2 (by omega) H2 a2 b2 c2 d2 e2 g2
  obtain ⟨H4,t4,a4,b4,c4,d4,e4,g4⟩:=turn 3 (by omega) H3 a3 b3 c3 d3 e3 g3
  have hidl:=(WC.1 c4).1
  refine ⟨[.sl (enL cNd L) tk,.ptr H.length 0 0,.ptr (H.length+1) 0 0,.ms (H.length+2) 0 0 (L.length+1) (L.length+1) 2 true,.int .i64 ((i+1:Nat):Int)],H4,⟨rfl,a4,b4,?_,e4,by omega⟩,fun rec=>?_⟩
  ·rw [c4,Us nf L hi,hset,←hKeq];simp
  ·unfold Sh.f5l
   simp only [GMb,GMc,Ap,Ag,A7,WE,Nat.add_zero,WQ,BI,Ai,Av,hi',Ax hi,hw,hpow,Cw,s1]
   obtain ⟨n,hn⟩:=Wm 5 (by decide)
   have hf:¬(((3+1:Nat):Int)<4):=by decide
   rw [hn,show n+5=(((n+1)+1)+1+1)+1 from rfl,CH]
   simp only [Aj,Ai]
   refine (t1 rec _).trans ?_
   rw [CH]
   simp only [Aj,Ai]
   refine (t2 rec _).trans ?_
   rw [CH]
   simp only [Aj,Ai]
   refine (t3 rec _).trans ?_
   rw [CH]
   simp only [Aj,Ai]
   refine (t4 rec _).trans ?_
   rw [CH]
   unfold Sh.f5k
   simp only [GMb,GMc,Ai,hf,hwi]
def Ok (x y w h:Int):List Ab:=AD x++AD y++AD w++AD h
def So (x y w h:Int):Ab:=.agg (Ok x y w h)
def GY:List Ab:=[.bool false,.sl [] .tight,.bool false,.sl [] .tight,.bool false,.sl [] .tight,.bool false,.sl [] .tight]
def nfW (j:Nat):Nat:=match j with | 0=>0 | 1=>2 | 2=>1 | _=>3
def nfE (j:Nat):Nat:=match j with | 0=>1 | 1=>3 | 2=>0 | _=>2
def nfN (j:Nat):Nat:=match j with | 0=>0 | 1=>1 | 2=>2 | _=>3
def nfS (j:Nat):Nat:=match j with | 0=>2 | 1=>3 | 2=>0 | _=>1
def G5 (nf:Nat→Nat) (L:List Nd):Option Int:=(C7 nf L).getD L.length none
def bxX (L:List Nd):Int:=-(2^((BL L).toNat-1))+bo (G5 nfW L)
def bxY (L:List Nd):Int:=-(2^((BL L).toNat-1))+bo (G5 nfN L)
def bxW (L:List Nd):Int:=2^(BL L).toNat-(bo (G5 nfW L)+bo (G5 nfE L))
def bxH (L:List Nd):Int:=2^(BL L).toNat-(bo (G5 nfN L)+bo (G5 nfS L))
theorem nfW_lt (j:Nat):nfW j<4:=by unfold nfW;split <;> omega
theorem nfE_lt (j:Nat):nfE j<4:=by unfold nfE;split <;> omega
theorem nfN_lt (j:Nat):nfN j<4:=by unfold nfN;split <;> omega
theorem nfS_lt (j:Nat):nfS j<4:=by unfold nfS;split <;> omega
theorem build_two (a b:Nat):AB (some [.int .i64 0,.int .i64 0]) [(0,1,.int .i64 (a:Int)),(1,1,.int .i64 (b:Int))]=some (.agg (Fz a b)):=by
 simp [AB,Gj,D9,Fz]
theorem JR {nf:Nat→Nat} (hnf:∀j,nf j<4) {L:List Nd} (hl:AP L=true) (h0:0<L.length):0≤bo (G5 nf L)∧bo (G5 nf L)<2^(BL L).toNat:=by
 have hb:=edgeL_b hnf hl L.length (WF _)
 rw [WN (WF _)]at hb
 have hm:L.length-1<L.length:=by omega
 have hlt:L.length<(C7 nf L).length:=by rw [Ht];omega
 have:=hb (L.length-1) L[L.length-1] (C7 nf L)[L.length] (WB hm) (by rw [show L.length-1+1=L.length from by omega];exact WB hlt)
 have ht:BL L=L[L.length-1].lv:=by unfold BL;rw [El (n:=L.length-1) (by omega) hm]
 unfold G5
 rw [WH,WB hlt,ht]
 exact this
theorem HV (B:Aa) (o:Option Int):Ah 2 (.ptr B.length 0 0) (.agg (cBO o)) (B++[Blk.cel 0 [.bool false,.sl [] .tight]])=some (B++[Blk.cel 0 (cBO o)]):=by
 rw [Nc (Ar (B:=B) (cs:=[.bool false,.sl [] .tight])) rfl,Bv]
theorem Nt {nf:Nat→Nat} (L:List Nd) (H:Aa) (k:Ab→Out):((At 2 (.sl (enL cBO (C7 nf L)) .no) (.int .i64 (L.length:Int))).bind fun x20=>(Ac true 2 x20 H).bind k)=k (.agg (cBO (G5 nf L))):=by
 have hlt:L.length<(C7 nf L).length:=by rw [Ht];omega
 rw [Ax hlt]
 unfold G5
 rw [WH,WB hlt]
 cases (C7 nf L)[L.length] <;> rfl
theorem SF {nf:Nat→Nat} (hnf:∀j,nf j<4) {L:List Nd} (hl:AP L=true) (h0:0<L.length):LB (bo (G5 nf L)):=by
 have:=JR hnf hl h0
 have hle:=TS hl h0 (WF _)
 exact Mv this.1 this.2 (Xh hle (by omega))
theorem q09_of (L:List Nd) (H:Aa) (hL:L.length<549755813888) (hl:AP L=true) (h0:L≠[]) :
  Sh.f1g (Gg L) H=some (.ret (.tup [So (bxX L) (bxY L) (bxW L) (bxH L),.bool true]),H):=by
 have hlen:0<L.length:=Xx.2 h0
 have hl0:¬((L.length:Int)=0):=by omega
 have hLv:Lv L (BL L).toNat L.length:=⟨WF _,.inr rfl⟩
 obtain ⟨hn1,hn2⟩:=hLv.num hlen hl
 have htop:BL L=((BL L).toNat:Int):=hn1
 have hle:(BL L).toNat≤1329:=TS hl hlen (WF _)
 have bW:=SF nfW_lt hl hlen
 have bE:=SF nfE_lt hl hlen
 have bN:=SF nfN_lt hl hlen
 have bS:=SF nfS_lt hl hlen
 have kW:=fun H=>Nk nfW_lt L .no H hL hl
 have kE:=fun H=>Nk nfE_lt L .no H hL hl
 have kN:=fun H=>Nk nfN_lt L .no H hL hl
 have kS:=fun H=>Nk nfS_lt L .no H hL hl
 simp only [nfW,nfE,nfN,nfS]at kW kE kN kS
 have lvl:=fun H=>VL L .no H (show L.length<17592186044415 by omega)
 rw [←quad_eq]at lvl
 simp only [if_neg h0]at lvl
 unfold Sh.f1g
 have hzb:A3 (some [(.bool false),(.sl [] .tight),(.bool false),(.sl [] .tight),(.bool false),(.sl [] .tight),(.bool false),(.sl [] .tight)]) (H++[Blk.cel 0 (Cq L)])=some (.ptr (H++[Blk.cel 0 (Cq L)]).length 0 0,H++[Blk.cel 0 (Cq L)]++[.cel 0 GY]):=alloc_eq rfl
 simp only [GMb,GMc,boxQ,hzb]
 generalize h2:H++[Blk.cel 0 (Cq L)]++[Blk.cel 0 GY]=H2
 generalize h1:(H++[Blk.cel 0 (Cq L)]).length=p1
 have n2:Ac false 1 (.ptr H.length 0 0) H2=some (.sl (enL cNd L) .no):=CZ (by rw [←h2];simp)
 have q2:Ac true 1 (.ptr H.length 0 0) H2=some (Gg L):=S6 (by rw [←h2];simp)
 have z2:H2[p1]? = some (.cel 0 GY):=by rw [←h2,←h1];exact Ar
 have o2:∀k,k<H.length→H2[k]? = H[k]? := fun k hk=>by rw [←h2,WG,WD hk]
 have p1l:H.length<p1:=by rw [←h1];simp
 have tw:=fun (a b:Nat)=>build_two a b
 have t02:=tw 0 2
 have t13:=tw 1 3
 have t01:=tw 0 1
 have t23:=tw 2 3
 simp only [show ((0:Nat):Int)=0 from rfl,show ((1:Nat):Int)=1 from rfl,show ((2:Nat):Int)=2 from rfl,show ((3:Nat):Int)=3 from rfl]at t02 t13 t01 t23
 simp only [GMb,GMc,Ag,WE,Nat.add_zero,n2,Av,hl0,t02,t13,t01,t23,kW]
 rw [Nt]
 simp only [GMb,GMc,Cw,HV]
 generalize h3:H2++[Blk.cel 0 (cBO (G5 nfW L))]=H3
 have n3:Ac false 1 (.ptr H.length 0 0) H3=some (.sl (enL cNd L) .no):=by rw [←h3];exact Bz n2
 have w3:Ac true 2 (.ptr H2.length 0 0) H3=some (.agg (cBO (G5 nfW L))):=by rw [←h3];exact Fi Ar
 simp only [GMb,GMc,Ag,WE,Nat.add_zero,n3,t02,t13,t01,t23,kE]
 rw [Nt]
 simp only [GMb,GMc,Cw,HV]
 generalize h4:H3++[Blk.cel 0 (cBO (G5 nfE L))]=H4
 have n4:Ac false 1 (.ptr H.length 0 0) H4=some (.sl (enL cNd L) .no):=by rw [←h4];exact Bz n3
 have e4:Ac true 2 (.ptr H3.length 0 0) H4=some (.agg (cBO (G5 nfE L))):=by rw [←h4];exact Fi Ar
 simp only [GMb,GMc,Ag,WE,Nat.add_zero,n4,t02,t13,t01,t23,kN]
 rw [Nt]
 simp only [GMb,GMc,Cw,HV]
 generalize h5:H4++[Blk.cel 0 (cBO (G5 nfN L))]=H5
 have n5:Ac false 1 (.ptr H.length 0 0) H5=some (.sl (enL cNd L) .no):=by rw [←h5];exact Bz n4
 have d5:Ac true 2 (.ptr H4.length 0 0) H5=some (.agg (cBO (G5 nfN L))):=by rw [←h5];exact Fi Ar
 simp only [GMb,GMc,Ag,WE,Nat.add_zero,n5,t02,t13,t01,t23,kS]
 rw [Nt]
 simp only [GMb,GMc,Cw,HV]
 generalize h6:H5++[Blk.cel 0 (cBO (G5 nfS L))]=H6
 have q6:Ac true 1 (.ptr H.length 0 0) H6=some (Gg L):=by rw [←h6,←h5,←h4,←h3];exact Bz (Bz (Bz (Bz q2)))
 have s6:Ac true 2 (.ptr H5.length 0 0) H6=some (.agg (cBO (G5 nfS L))):=by rw [←h6];exact Fi Ar
 have w6:Ac true 2 (.ptr H2.length 0 0) H6=some (.agg (cBO (G5 nfW L))):=by rw [←h6,←h5,←h4];exact Bz (Bz (Bz w3))
 have e6:Ac true 2 (.ptr H3.length 0 0) H6=some (.agg (cBO (G5 nfE L))):=by rw [←h6,←h5];exact Bz (Bz e4)
 have d6:Ac true 2 (.ptr H4.length 0 0) H6=some (.agg (cBO (G5 nfN L))):=by rw [←h6];exact Bz d5
 have z6:H6[p1]? = some (.cel 0 GY):=by rw [←h6,←h5,←h4,←h3];exact AE (AE (AE (AE z2)))
 have o6:∀k,k<H.length→H6[k]? = H[k]? := fun k hk=>by
  have hk2:k<H2.length:=by rw [←h2];simp;omega
  rw [←h6,←h5,←h4,←h3,WG,WG,WG,WD hk2];exact o2 k hk
 unfold bxX bxY bxW bxH
 generalize hv:(BL L).toNat=v at *
 have hpw1:=fun H=>Pp v H (by omega)
 have hpw2:=fun H=>Pp (v-1) H (by omega)
 have hw:IntKind.i64.wrap ((v:Int)-1)=((v-1:Nat):Int):=I6 (by omega) (by omega)
 have sb1:=(Nh (show v≤1400 by omega)).lb (show 44≤549755813888 by decide)
 have sb2:=(Nh (show v-1≤1400 by omega)).lb (show 44≤549755813888 by decide)
 have hmin:=fun H=>OB (2^(v-1)) H sb2
 have lB:(H6++[Blk.cel 0 [Ab.bool false,.sl [] .tight]]).length=H6.length+1:=by simp
 have s0:=fun (z:Int) (c:List Ab)=>st0 (Hc:=H6) (a:=[.bool false,.sl [] .tight]) (c:=c) (z:=z) rfl
 have s1:=fun (z:Int) (a:List Ab)=>st1 (Hc:=H6) (a:=a) (c:=[.bool false,.sl [] .tight]) (z:=z) rfl
 rw [htop]at lvl
 simp only [GMb,GMc,q6,lvl,hpw1,hw,hpw2,hmin,Cw,lB,s0,s1]
 generalize h8:H6++[Blk.cel 0 (AD (2^v))]++[Blk.cel 0 (AD (-(2^(v-1))))]=H8
 have c8:Ac true 2 (.ptr (H6.length+1) 0 0) H8=some (big (-(2^(v-1)))):=Cx (by rw [←h8];simp)
 have g8:Ac true 2 (.ptr H6.length 0 0) H8=some (big (2^v)):=Cx (by rw [←h8];simp)
 have w8:Ac true 2 (.ptr H2.length 0 0) H8=some (.agg (cBO (G5 nfW L))):=by rw [←h8];exact Bz (Bz w6)
 have e8:Ac true 2 (.ptr H3.length 0 0) H8=some (.agg (cBO (G5 nfE L))):=by rw [←h8];exact Bz (Bz e6)
 have d8:Ac true 2 (.ptr H4.length 0 0) H8=some (.agg (cBO (G5 nfN L))):=by rw [←h8];exact Bz (Bz d6)
 have s8:Ac true 2 (.ptr H5.length 0 0) H8=some (.agg (cBO (G5 nfS L))):=by rw [←h8];exact Bz (Bz s6)
 have z8:H8[p1]? = some (.cel 0 GY):=by rw [←h8];exact AE (AE z6)
 have o8:∀k,k<H.length→H8[k]? = H[k]? := fun k hk=>by
  have hk6:k<H6.length:=by
   have:=(WC.1 z6).1;omega
  rw [←h8,WG,WD hk6];exact o6 k hk
 have rW:=Rep.bo bW
 have rE:=Rep.bo bE
 have rN:=Rep.bo bN
 have rS:=Rep.bo bS
 have rC:=Rep.big sb2.neg
 have rG:=Rep.big sb1
 have aX:=fun H=>addR rC rW H
 have aY:=fun H=>addR rC rN H
 have aWE:=fun H=>addR rW rE H
 have aNS:=fun H=>addR rN rS H
 simp only [UI]at aX aY
 have sumlb:∀a b:Int,0≤a→a<2^v→0≤b→b<2^v→LB (a+b):=fun a b ha1 ha2 hb1 hb2=>Mv (v:=v+1) (by omega) (by rw [Zi];omega) (by omega)
 have eW:=JR nfW_lt hl hlen
 have eE:=JR nfE_lt hl hlen
 have eN:=JR nfN_lt hl hlen
 have eS:=JR nfS_lt hl hlen
 rw [hv]at eW eE eN eS
 have bW':=fun H=>subR rG (Rep.big (sumlb _ _ eW.1 eW.2 eE.1 eE.2)) H
 have bH':=fun H=>subR rG (Rep.big (sumlb _ _ eN.1 eN.2 eS.1 eS.2)) H
 simp only [UI]at bW' bH'
 simp only [GMb,GMc,c8,g8,w8,e8,d8,s8,and_true,eq_self,aX,aY,aWE,aNS,bW',bH']
 have hbd:∀x y w h:Int,AB (some [(.bool false),(.sl [] .tight),(.bool false),(.sl [] .tight),(.bool false),(.sl [] .tight),(.bool false),(.sl [] .tight)]) [(0,2,big x),(2,2,big y),(4,2,big w),(6,2,big h)]=some (So x y w h):=fun x y w h=>by
  unfold So Ok
  simp [AB,Gj,D9,AD]
 have hacc:∀x y w h:Int,(So x y w h).acells=some (Ok x y w h):=fun x y w h=>Cj (by simp [Ok,AD])
 have hp1:=(WC.1 z8).1
 have hst:∀x y w h:Int,Ah 8 (.ptr p1 0 0) (So x y w h) H8=some (H8.set p1 (.cel 0 (Ok x y w h))):=fun x y w h=>by
  simp only [Ah,A5 z8,Option.bind_some,hacc,BT z8,FP (cs:=GY) (sz:=8) rfl]
  rw [if_pos ⟨rfl,by decide⟩]
 have hld:∀x y w h:Int,Ac true 8 (.ptr p1 0 0) (H8.set p1 (.cel 0 (Ok x y w h)))=some (So x y w h):=fun x y w h=>by
  have:(H8.set p1 (.cel 0 (Ok x y w h)))[p1]? = some (.cel 0 (Ok x y w h)):=by rw [WS hp1]
  simp only [Ac,A5 this,Option.bind_some];rfl
 have htk:∀x y w h:Int,(H8.set p1 (.cel 0 (Ok x y w h))).take H.length=H:=fun x y w h=>CB fun k hk=>by
  rw [WI (by omega)];exact o8 k hk
 have hfp:∀(x y w h:Int) (H':Aa) (n d:Nat),EU H' n (d+3) (So x y w h)=some (So x y w h):=fun x y w h H' n d=>by
  unfold So Ok AD;simp
 simp only [hbd,GMb,GMc,hst,hld,Sy,Ng,Pc,Option.map_some,Hx (htk _ _ _ _),FW,Da,DK,hfp,Gw]
def bx (L:List Nd) (f:List Nd→Int):Int:=if L=[]then 0 else f L
theorem box_acells (x y w h:Int):(So x y w h).acells=some (Ok x y w h):=Cj (by simp [Ok,AD])
theorem UH (H:Aa):A3 (some [(.bool false),(.sl [] .tight),(.bool false),(.sl [] .tight),(.bool false),(.sl [] .tight),(.bool false),(.sl [] .tight)]) H=some (.ptr H.length 0 0,H++[.cel 0 GY]):=alloc_eq rfl
theorem q09_ofB (L:List Nd) (H:Aa) (hL:L.length<549755813888) (hl:AP L=true) :
  Sh.f1g (Gg L) H=some (.ret (.tup [So (bx L bxX) (bx L bxY) (bx L bxW) (bx L bxH),.bool (decide (L≠[]))]),H):=by
 unfold bx
 by_cases h0:L=[]
 ·subst h0
  unfold Sh.f1g
  have n2:Ac false 1 (.ptr H.length 0 0) (H++[Blk.cel 0 (Cq [])]++[Blk.cel 0 GY])=some (.sl (enL cNd []) .no):=CZ (by simp)
  have hb:AB (some [(.bool false),(.sl [] .tight),(.bool false),(.sl [] .tight),(.bool false),(.sl [] .tight),(.bool false),(.sl [] .tight)]) []=some (.agg GY):=rfl
  have hst:Ah 8 (.ptr (H++[Blk.cel 0 (Cq [])]).length 0 0) (.agg GY) (H++[Blk.cel 0 (Cq [])]++[Blk.cel 0 GY])=some (H++[Blk.cel 0 (Cq [])]++[Blk.cel 0 GY]):=by
   have hz:(H++[Blk.cel 0 (Cq [])]++[Blk.cel 0 GY])[(H++[Blk.cel 0 (Cq [])]).length]? = some (.cel 0 GY):=Ar
   simp only [Ah,A5 hz,Option.bind_some,BT hz,Cj (cs:=GY) rfl,FP (cs:=GY) (sz:=8) rfl,Bv]
   rfl
  have hld:Ac true 8 (.ptr (H++[Blk.cel 0 (Cq [])]).length 0 0) (H++[Blk.cel 0 (Cq [])]++[Blk.cel 0 GY])=some (.agg GY):=by
   simp only [Ac,A5 (Ar (cs:=GY)),Option.bind_some];rfl
  simp only [GMb,GMc,boxQ,UH,Ag,WE,n2,Av,List.length_nil,show ((0:Nat):Int)=0 from rfl,hb,hst,hld,Sy,Ng,Pc,Option.map_some]
  rw [WG]
  simp only [Ct,FW,Da,DK,N1,GY,Ii,JQ,OO,PC,Gw,BC,Option.map_some]
  rfl
 ·rw [q09_of L H hL hl h0]
  simp only [if_false,ne_eq,h0,not_false_eq_true,decide_true]
theorem bx_lb {L:List Nd} (hl:AP L=true):LB (bx L bxW)∧LB (bx L bxH):=by
 unfold bx
 by_cases h0:L=[]
 ·rw [if_pos h0,if_pos h0];exact ⟨LB_zero,LB_zero⟩
 ·rw [if_neg h0,if_neg h0]
  have hlen:0<L.length:=Xx.2 h0
  have eW:=JR nfW_lt hl hlen
  have eE:=JR nfE_lt hl hlen
  have eN:=JR nfN_lt hl hlen
  have eS:=JR nfS_lt hl hlen
  have hle:(BL L).toNat≤1329:=TS hl hlen (WF _)
  have key:∀a b:Int,0≤a→a<2^(BL L).toNat→0≤b→b<2^(BL L).toNat→LB (2^(BL L).toNat-(a+b)):=fun a b h1 h2 h3 h4=>by
   have hs:=Nh (show (BL L).toNat≤1400 by omega)
   have ha:=UK (BL L).toNat
   unfold SB at hs
   refine LB.of (k:=44) (X6 ?_ hs) (by decide)
   generalize (2:Int)^(BL L).toNat=p at *
   omega
  exact ⟨key _ _ eW.1 eW.2 eE.1 eE.2,key _ _ eN.1 eN.2 eS.1 eS.2⟩
def OV (L:List Nd) (m:Int):Bool:=decide (bx L bxW≤m)&&decide (bx L bxH≤m)
theorem cmp_leq (a b:Int):decide (Fa a b≤0)=decide (a≤b):=by
 unfold Fa;rw [WW]
 split
 ·simp;omega
 ·split
  ·simp;omega
  ·simp;omega
theorem LB_i64 {m:Int} (h0:-9223372036854775808≤m) (h1:m≤9223372036854775807):LB m:=LB.of (k:=3) (show m.natAbs<4294967296^3 by rw [show (4294967296:Nat)^3=79228162514264337593543950336 from by decide];omega) (by decide)
theorem q09_within (L:List Nd) (m:Int) (H:Aa) (hL:L.length<549755813888) (hl:AP L=true) (h0:-9223372036854775808≤m) (h1:m≤9223372036854775807) :
  Sh.f3o (Gg L) (.int .i64 m) H=some (.ret (.bool (OV L m)),H):=by
 unfold Sh.f3o OV
 have q1:Ac true 1 (.ptr H.length 0 0) (H++[Blk.cel 0 (Cq L)])=some (Gg L):=S6 Ar
 obtain ⟨b1,b2⟩:=bx_lb hl
 have hof:=fun H=>q02_of m H h0 h1
 have cW:=fun H=>LT (bx L bxW) m H b1 (LB_i64 h0 h1)
 have cH:=fun H=>LT (bx L bxH) m H b2 (LB_i64 h0 h1)
 simp only [GMb,GMc,boxQ,q1,q09_ofB L _ hL hl,Cn,Cz,UH]
 generalize bx L bxX=x
 generalize bx L bxY=y
 generalize bx L bxW=w at *
 generalize bx L bxH=h at *
 generalize hB:H++[Blk.cel 0 (Cq L)]=B
 have hst:Ah 8 (.ptr B.length 0 0) (So x y w h) (B++[Blk.cel 0 GY])=some (B++[Blk.cel 0 (Ok x y w h)]):=by
  simp only [Ah,A5 (Ar (B:=B) (cs:=GY)),Option.bind_some,box_acells,BT (Ar (B:=B) (cs:=GY)),FP (cs:=GY) (sz:=8) rfl,Bv]
  rfl
 have g4:Ac true 2 (.ptr B.length 0 4) (B++[Blk.cel 0 (Ok x y w h)])=some (big w):=by
  simp only [Ac,A5 (Ar (B:=B)),Option.bind_some];rfl
 have g6:Ac true 2 (.ptr B.length 0 6) (B++[Blk.cel 0 (Ok x y w h)])=some (big h):=by
  simp only [Ac,A5 (Ar (B:=B)),Option.bind_some];rfl
 have fin:∀q:Bool,rP H (.bool q) (B++[Blk.cel 0 (Ok x y w h)])=some (.ret (.bool q),H):=fun q=>by rw [←hB,WG];exact EI
 simp only [hst,GMb,GMc,hof,Ag,WE,g4,g6,and_true,eq_self,cW,cmp_leq]
 cases decide (w≤m)with
 | false=>simp only [GMb,GMc,gR_false,and_true,eq_self,fin]
 | true=>simp only [GMb,GMc,hof,Ag,WE,g6,gR_true,and_true,eq_self,cH,cmp_leq,fin]
section
variable {α:Type} {f:α→List Ab} {ty:TypeId} {sz:Nat}
def RS (f:α→List Ab) (ty:TypeId) (sz b:Nat) (out:List α) (v:Ab) (H:Aa):Prop:=(out=[]∧v=.sl [] .tight)∨∃t,b≤t∧v=.sl (enL f out) (.own t)∧H[t]? = some (.tok out.length ty sz)
theorem RS.sl {b:Nat} {out:List α} {v:Ab} {H:Aa} (h:RS f ty sz b out v H):∃tk,v=.sl (enL f out) tk:=by
 rcases h with ⟨rfl,rfl⟩ | ⟨t,_,rfl,_⟩
 ·exact ⟨_,rfl⟩
 ·exact ⟨_,rfl⟩
theorem RS.left {b:Nat} {out:List α} {v:Ab} {H:Aa} (h:RS f ty sz b out v H) (G:Aa):RS f ty sz b out v (H++G):=by
 rcases h with h1 | ⟨t,h1,h2,h3⟩
 ·exact .inl h1
 ·exact .inr ⟨t,h1,h2,AE h3⟩
theorem RS.put {b p:Nat} {out:List α} {v:Ab} {H:Aa} {c c':List Ab} (h:RS f ty sz b out v H) (hp:H[p]? = some (.cel 0 c)):RS f ty sz b out v (H.set p (.cel 0 c')):=by
 rcases h with h1 | ⟨t,h1,h2,h3⟩
 ·exact .inl h1
 ·refine .inr ⟨t,h1,h2,?_⟩
  have:p≠t:=fun e=>by rw [←e,hp]at h3;cases h3
  rw [WI this];exact h3
theorem RS.snoc [hf:Sz f sz] {bytes b:Nat} {out:List α} {v:Ab} {H:Aa} (h:RS f ty sz b out v H) (hb:b≤H.length) (x:α) (tk:Tok) (hl:(out.length+1)*bytes≤140737488355328) (hl2:out.length+1≤140737488355328) :
  ∃v' H',AW ty sz bytes v (.sl (enL f [x]) tk) H=some (v',H')∧RS f ty sz b (out++[x]) v' H'∧Kp b H H':=by
 rcases h with ⟨rfl,rfl⟩ | ⟨t,h1,rfl,h3⟩
 ·have:=CA (f:=f) (l:=[]) (m:=[x]) (ty:=ty) (bytes:=bytes) (tk:=tk) (H:=H) (by simp) (by simpa using hl) (by simp)
  exact ⟨_,_,this,.inr ⟨H.length,hb,rfl,by simp⟩,Kp.app hb _⟩
 ·have:=EC (f:=f) (l:=out) (m:=[x]) (ty:=ty) (bytes:=bytes) (tk:=tk) (H:=H) (t:=t) (by simp) h3 (by simpa using hl) (by simpa using hl2)
  have htl:=(WC.1 h3).1
  refine ⟨_,_,this,.inr ⟨t,h1,rfl,by simp [htl]⟩,⟨by simp,fun i cs hc=>?_,fun i hi=>?_⟩⟩
  ·have:t≠i:=fun e=>by rw [←e,h3]at hc;cases hc
   rw [WI this];exact hc
  ·rw [WI (by omega)]

end
def HT (b n:Int):List Ab:=[.int .i64 b,.int .i64 n]
def Mz (f:Int) (L:List Nd) (b:Int):Bool:=decide (f=5)||(OV L b&&(decide (f=4)||decide (Oq L≤1)))
def JX (f:Int) (rule:List UInt8) (L:List Nd) (b n:Int):Int:=
 if (decide (1≤f)&&decide (f≤5)&&(LP rule&&GC L)&&My b n)=false then 1 else if Mz f L b=false then 5 else 0
theorem Pm {L:List Nd} (h:GC L=true):AP L=true:=by
 simp only [GC,XO,decide_eq_true_eq,WO]at h
 rcases h with h | h
 ·subst h;rfl
 ·exact h.1.1.1
theorem q11_express (f:Int) (rule:List UInt8) (L:List Nd) (b n:Int) (H:Aa) (hL:L.length<549755813888) (hl:AP L=true) (h0:-9223372036854775808≤b) (h1:b≤9223372036854775807) :
  Sh.f3p (.int .i64 f) (pat rule L) (.agg (HT b n)) H=some (.ret (.bool (Mz f L b)),H):=by
 unfold Sh.f3p Mz
 have hbx:∀H,B2 true 2 (.agg (HT b n)) H=some (.ptr H.length 0 0,H++[.cel 0 (HT b n)]):=fun H=>BQ rfl rfl
 have e4:(H++[Blk.cel 0 (GK rule L)]++[Blk.cel 0 (HT b n)])[H.length]? = some (.cel 0 (GK rule L)):=by simp
 have g6:Ac false 1 (.ptr (H++[Blk.cel 0 (GK rule L)]).length 0 0) (H++[Blk.cel 0 (GK rule L)]++[Blk.cel 0 (HT b n)])=some (.int .i64 b):=by
  simp only [Ac,A5 (Ar (B:=H++[Blk.cel 0 (GK rule L)])),Option.bind_some];rfl
 have fin:∀q:Bool,rP H (.bool q) (H++[Blk.cel 0 (GK rule L)]++[Blk.cel 0 (HT b n)])=some (.ret (.bool q),H):=fun q=>by rw [WG];exact EI
 have hwi:=fun H=>q09_within L b H hL hl h0 h1
 have hmo:=fun H=>q08_mostZ H (show L.length<1152921504606846976 by omega) hl
 simp only [GMb,GMc,boxPat,hbx]
 by_cases h5:f=5
 ·simp only [h5,GMb,GMc,fin]
 ·simp only [h5,GMb,GMc,Ag,WE,JI e4,g6,hwi]
  cases OV L b with
  | false=>simp only [GMb,GMc,fin]
  | true=>
   by_cases h4:f=4
   ·simp only [h4,GMb,GMc,fin]
   ·simp only [h4,GMb,GMc,Ag,WE,JI e4,hmo,fin]
theorem q11_check (f:Int) (rule:List UInt8) (L:List Nd) (b n:Int) (H:Aa) (hr:rule.length<1152921504606846976) (hL:L.length<549755813888) (h0:-9223372036854775808≤b) (h1:b≤9223372036854775807) :
  Sh.f3q (.int .i64 f) (pat rule L) (.agg (HT b n)) H=some (.ret (.int .i64 (JX f rule L b n)),H):=by
 unfold Sh.f3q JX
 have hbx:∀H,B2 true 2 (.agg (HT b n)) H=some (.ptr H.length 0 0,H++[.cel 0 (HT b n)]):=fun H=>BQ rfl rfl
 have e4:(H++[Blk.cel 0 (GK rule L)]++[Blk.cel 0 (HT b n)])[H.length]? = some (.cel 0 (GK rule L)):=by simp
 have g6:Ac true 2 (.ptr (H++[Blk.cel 0 (GK rule L)]).length 0 0) (H++[Blk.cel 0 (GK rule L)]++[Blk.cel 0 (HT b n)])=some (.agg (HT b n)):=by
  simp only [Ac,A5 (Ar (B:=H++[Blk.cel 0 (GK rule L)])),Option.bind_some];rfl
 have fin:∀q:Int,rP H (.int .i64 q) (H++[Blk.cel 0 (GK rule L)]++[Blk.cel 0 (HT b n)])=some (.ret (.int .i64 q),H):=fun q=>by rw [WG];exact J3
 have hfm:=fun H=>q11_format f H
 have hrt:=fun H=>q11_right rule L H hr (by omega)
 have hfi:=fun H=>q11_fine b n H
 simp only [GMb,GMc,boxPat,hbx,hfm]
 cases hf:(decide (1≤f)&&decide (f≤5))with
 | false=>simp only [GMb,GMc,fin]
 | true=>
  simp only [GMb,GMc,Q3 e4,hrt]
  cases hq:(LP rule&&GC L)with
  | false=>simp only [GMb,GMc,fin]
  | true=>
   have hl:AP L=true:=by
    simp only [WO]at hq
    exact Pm hq.2
   have hex:=fun H=>q11_express f rule L b n H hL hl h0 h1
   have hfi':∀H,Sh.f1x (.agg (HT b n)) H=some (.ret (.bool (My b n)),H):=hfi
   simp only [GMb,GMc,g6,hfi']
   cases My b n with
   | false=>simp only [GMb,GMc,fin]
   | true=>
    simp only [GMb,GMc,Q3 e4,g6,hex]
    cases Mz f L b with
    | false=>simp only [GMb,GMc,fin];rfl
    | true=>simp only [GMb,GMc,fin];rfl
theorem check_ok {f:Int} {rule:List UInt8} {L:List Nd} {b n:Int} (h:JX f rule L b n=0) (hf:f≠5):AP L=true∧0≤b∧b≤1000∧OV L b=true∧LP rule=true∧GC L=true:=by
 unfold JX at h
 split at h
 ·cases h
 ·rename_i h1
  split at h
  ·cases h
  ·rename_i h2
   simp only [Bool.not_eq_false,WO,My,Mz,decide_eq_true_eq,XO]at h1 h2
   obtain ⟨⟨_,h3,h4⟩,h5⟩:=h1
   refine ⟨Pm h4,h5.1.1.1,h5.1.1.2,?_,h3,h4⟩
   rcases h2 with h2 | h2
   ·exact absurd h2 hf
   ·exact h2.1
theorem sb_lt10 {z:Int} {k m:Nat} (h:SB k z) (hk:10*k≤m):z.natAbs<10^m:=X5 h (pow10_le hk)
theorem sb_dec {z:Int} (h:SB 44 z):z.natAbs<10^4096∧(Do z).length≤5000:=by
 have h1:z.natAbs<10^4096:=sb_lt10 (m:=4096) h (by decide)
 refine ⟨h1,?_⟩
 have:=QX 4096 z.natAbs h1
 simp only [show ¬((4096:Nat)=0)by decide,if_false]at this
 unfold Do
 split
 ·simp;omega
 ·omega
theorem u8_nat {n:Nat} (h:n<256):((UInt8.ofNat n).toNat:Int)=(n:Int):=by rw [Ym (show n<256 from h)]
theorem R0 {ι:Type} {G:ι→LK→LK} {σ:Type} (I:σ→List Ab→Aa→Prop) (μ:σ→Nat) (done:σ→Prop)
  (turn:∀(s:σ) (vs:List Ab) (H:Aa),I s vs H→¬done s→∃s' vs' H',μ s'<μ s∧I s' vs' H'∧∀(i:ι) (rec:LK),G i rec vs H=rec vs' H')
  {s:σ} {vs:List Ab} {H:Aa} (h0:I s vs H) (hm:μ s<1152921504606846976):∃s' vs' H',done s'∧I s' vs' H'∧∀i,∃rec,An (G i) AM vs H=G i rec vs' H':=by
 have key:∀(n:Nat) (s:σ) (vs:List Ab) (H:Aa),μ s<n→I s vs H→∃s' vs' H',done s'∧I s' vs' H'∧∀i,∃rec,An (G i) n vs H=G i rec vs' H':=by
  intro n
  induction n with
  | zero=>intro s vs H hn _;omega
  | succ n ih=>
   intro s vs H hn hI
   by_cases hd:done s
   ·exact ⟨s,vs,H,hd,hI,fun i=>⟨An (G i) n,CH n vs H⟩⟩
   ·obtain ⟨s1,vs1,H1,h1,h2,h3⟩:=turn s vs H hI hd
    obtain ⟨s2,vs2,H2,h4,h5,h6⟩:=ih s1 vs1 H1 (by omega) h2
    exact ⟨s2,vs2,H2,h4,h5,fun i=>(h6 i).imp fun rec h7=>by rw [CH,h3,h7]⟩
 exact key AM s vs H (by rw [Ey];exact hm) h0
theorem DH {G:LK→LK} {σ:Type} (I:σ→List Ab→Aa→Prop) (μ:σ→Nat) (done:σ→Prop)
  (turn:∀(s:σ) (vs:List Ab) (H:Aa),I s vs H→¬done s→∃s' vs' H',μ s'<μ s∧I s' vs' H'∧∀rec:LK,G rec vs H=rec vs' H')
  {s:σ} {vs:List Ab} {H:Aa} (h0:I s vs H) (hm:μ s<1152921504606846976):∃s' vs' H',done s'∧I s' vs' H'∧∃rec,An G AM vs H=G rec vs' H':=by
 obtain ⟨s',vs',H',h1,h2,h3⟩:=R0 (G:=fun (_:Unit)=>G) I μ done (fun s vs H hI hd=>by
  obtain ⟨s1,vs1,H1,h1,h2,h3⟩:=turn s vs H hI hd
  exact ⟨s1,vs1,H1,h1,h2,fun _=>h3⟩) h0 hm
 exact ⟨s',vs',H',h1,h2,h3 ()⟩
theorem Kp.get {b p:Nat} {H H':Aa} {cs:List Ab} (h:Kp b H H') (hp:H[p]? = some (.cel 0 cs)):H'[p]? = some (.cel 0 cs):=h.cel p cs hp
section
variable {p g:Nat} {f:Ab} {self:Ab→Ab→Ab→Ab→Ab→Aa→Out}
theorem P7 {i j:Nat} (hi:i<1000000000) (hj:j<1000000000):A9 .u64 (.int .i64 ((i:Int)+(j:Int)))=some (.int .u64 ((i+j:Nat):Int))∧IntKind.i64.wrap ((i:Int)+(j:Int))=(i:Int)+(j:Int) ∧
  Ae .none .shr (.int .u64 ((i+j:Nat):Int)) (.int .u64 1)=some (.int .u64 (((i+j) / 2:Nat):Int))∧A9 .i64 (.int .u64 (((i+j) / 2:Nat):Int))=some (.int .i64 (((i+j) / 2:Nat):Int)):=by
 refine ⟨?_,by rw [Al] <;> omega,?_,?_⟩
 ·rw [By]
  have:IntKind.u64.wrap ((i:Int)+(j:Int))=((i+j:Nat):Int):=by
   rw [show (i:Int)+(j:Int)=((i+j:Nat):Int)by omega]
   exact Cu (by omega) (by omega)
  rw [this]
 ·have hs:Ae .none .shr (.int .u64 ((i+j:Nat):Int)) (.int .u64 1)=some (.int .u64 (Int.fdiv ((i+j:Nat):Int) (2^(min (1:Int).toNat IntKind.u64.bits)))):=rfl
  rw [hs,show (2:Int)^(min (1:Int).toNat IntKind.u64.bits)=2 from by decide,Yz _ (by omega)]
  congr 2
 ·rw [By,wrap_nat (by omega)]
theorem sym_up {l:List Cl} {i a:Nat} {H0 H:Aa} (h:C6 H p g l) (hi:i≤l.length) (ha:a<i) (hl:l.length<1000000000) :
  An (fun rec2 vs H1=>Sh.f2l H0 rec2 (ag vs 0) (ag vs 1) (ag vs 2) H1) AM [dV p g l.length,.int .i64 (i:Int),.int .i64 (a:Int)] H=some (.ret (.tup []),B5 H p g (upR a (i-1-a) l)):=by
 have hlen:∀k,(upR a k l).length=l.length:=fun k=>by
  induction k with
  | zero=>rfl
  | succ k ih=>unfold upR;rw [Na,ih]
 have key:=Cf (G:=fun rec2 vs H1=>Sh.f2l H0 rec2 (ag vs 0) (ag vs 1) (ag vs 2) H1) (i-1-a)
  (fun k=>[dV p g l.length,.int .i64 (i:Int),.int .i64 ((a+k:Nat):Int)]) (fun k=>B5 H p g (upR a k l)) (some (.ret (.tup []),B5 H p g (upR a (i-1-a) l))) (by omega) (fun rec k hk=>?_) (fun rec=>?_)
 ·rw [show upR a 0 l=l from rfl,Ck h]at key;exact key
 ·unfold Sh.f2l
  have hr:C6 (B5 H p g (upR a k l)) p g (upR a k l):=C9 h
  have hln:=hlen k
  have hw:IntKind.i64.wrap ((i:Int)-1)=((i-1:Nat):Int):=by rw [Al] <;> omega
  have hd:decide (((a+k:Nat):Int)<((i-1:Nat):Int))=true:=decide_eq_true (by omega)
  have hwk:=Aw (show a+k<9223372036854775807 by omega)
  have i1:a+k<(upR a k l).length:=by omega
  have i2:a+k+1<(upR a k l).length:=by omega
  obtain ⟨s1,s2⟩:=Tl hr i1 i2
  rw [Bq]at s1 s2
  rw [Bq]at s2
  simp only [Aj,Ai,AS,AY,GMb,GMc,hw,hd,hwk,BD (show a+k<l.length by omega),BD (show a+k+1<l.length by omega),BY hr i1,BY hr i2,B9,s1,s2,Br,AK]
  rfl
 ·unfold Sh.f2l
  have hw:IntKind.i64.wrap ((i:Int)-1)=((i-1:Nat):Int):=by rw [Al] <;> omega
  have hd:decide (((a+(i-1-a):Nat):Int)<((i-1:Nat):Int))=false:=decide_eq_false (by omega)
  simp only [Aj,Ai,AS,AY,GMb,GMc,hw,hd]
theorem sym_dn {l:List Cl} {i m:Nat} {H0 H:Aa} (h:C6 H p g l) (hi:i≤m) (hm:m<l.length) (hl:l.length<1000000000) :
  An (fun rec4 vs H1=>Sh.f2n H0 rec4 (ag vs 0) (ag vs 1) (ag vs 2) H1) AM [dV p g l.length,.int .i64 (i:Int),.int .i64 (m:Int)] H=some (.ret (.tup []),B5 H p g (dnR m (m-i) l)):=by
 have hlen:∀k,(dnR m k l).length=l.length:=fun k=>by
  induction k with
  | zero=>rfl
  | succ k ih=>unfold dnR;rw [Na,ih]
 have key:=Cf (G:=fun rec4 vs H1=>Sh.f2n H0 rec4 (ag vs 0) (ag vs 1) (ag vs 2) H1) (m-i)
  (fun k=>[dV p g l.length,.int .i64 (i:Int),.int .i64 ((m:Int)-(k:Int))]) (fun k=>B5 H p g (dnR m k l)) (some (.ret (.tup []),B5 H p g (dnR m (m-i) l))) (by omega) (fun rec k hk=>?_) (fun rec=>?_)
 ·rw [show dnR m 0 l=l from rfl,Ck h,show (m:Int)-((0:Nat):Int)=(m:Int)by omega]at key;exact key
 ·unfold Sh.f2n
  have hr:C6 (B5 H p g (dnR m k l)) p g (dnR m k l):=C9 h
  have hln:=hlen k
  have e:(m:Int)-(k:Int)=((m-k:Nat):Int):=by omega
  have e2:(m:Int)-((k+1:Nat):Int)=((m-k-1:Nat):Int):=by omega
  have hd:decide (((m-k:Nat):Int)>(i:Int))=true:=decide_eq_true (by omega)
  have hwk:IntKind.i64.wrap (((m-k:Nat):Int)-1)=((m-k-1:Nat):Int):=by rw [Al] <;> omega
  have i1:m-k<(dnR m k l).length:=by omega
  have i2:m-k-1<(dnR m k l).length:=by omega
  obtain ⟨s1,s2⟩:=Tl hr i1 i2
  rw [Bq]at s1 s2
  rw [Bq]at s2
  simp only [Aj,Ai,AS,AY,GMb,GMc,e,e2,hd,hwk,BD (show m-k<l.length by omega),BD (show m-k-1<l.length by omega),BY hr i1,BY hr i2,B9,s1,s2,Br,AK]
  rfl
 ·unfold Sh.f2n
  have e:(m:Int)-((m-i:Nat):Int)=(i:Int):=by omega
  have hd:decide ((i:Int)>(i:Int))=false:=decide_eq_false (by omega)
  simp only [Aj,Ai,AS,AY,GMb,GMc,e,hd]

end
section
variable {p g:Nat} {f:Ab} {self:Ab→Ab→Ab→Ab→Ab→Aa→Out} {l0:List Cl}
abbrev Vw (f:Ab) (l0:List Cl):Prop:=∀self,UO (AV self) f l0
theorem sym_l1 (hf:Vw f l0) {l:List Cl} {a m b:Nat} {H0 H:Aa} (h:C6 H p g l) (hm:∀c∈l,c∈l0) (ha:a<l.length) (hmb:m≤b) (hb:b≤l.length) (hl:l.length<1000000000)
  (mono:∀c d,m≤c→c≤d→d<b→HA ltC l d a=true→HA ltC l c a=true) :
  ∃s,BsI (fun c=>HA ltC l c a) m b s s∧An (fun rec1 vs H1=>Sh.f2m H0 self rec1 (ag vs 0) (ag vs 1) (ag vs 2) (ag vs 3) (ag vs 4) H1) AM [dV p g l.length,.int .i64 (a:Int),f,.int .i64 (m:Int),.int .i64 (b:Int)] H =
   An (fun rec2 vs H1=>Sh.f2l H0 rec2 (ag vs 0) (ag vs 1) (ag vs 2) H1) AM [dV p g l.length,.int .i64 (s:Int),.int .i64 (a:Int)] H:=by
 have key:=DH (G:=fun rec1 vs H1=>Sh.f2m H0 self rec1 (ag vs 0) (ag vs 1) (ag vs 2) (ag vs 3) (ag vs 4) H1) (σ:=Nat×Nat)
  (fun s vs H1=>BsI (fun c=>HA ltC l c a) m b s.1 s.2∧vs=[dV p g l.length,.int .i64 (a:Int),f,.int .i64 (s.1:Int),.int .i64 (s.2:Int)]∧H1=H) (fun s=>s.2-s.1) (fun s=>¬s.1<s.2) (fun s vs H1 hI hd=>?_)
  (s:=(m,b)) (vs:=[dV p g l.length,.int .i64 (a:Int),f,.int .i64 (m:Int),.int .i64 (b:Int)]) (H:=H) ⟨.start hmb,rfl,rfl⟩ (by dsimp only;omega)
 ·obtain ⟨⟨i,j⟩,vs,H1,hd,⟨hI,rfl,rfl⟩,rec,hloop⟩:=key
  dsimp only at hI hd hloop
  obtain ⟨q1,q2,q3⟩:=hI.le
  have e:j=i:=by omega
  subst e
  refine ⟨j,hI,?_⟩
  rw [hloop]
  have hd2:decide ((j:Int)<(j:Int))=false:=decide_eq_false (by omega)
  conv=>lhs;unfold Sh.f2m
  simp only [Aj,Ai,AS,AY,Bo,B6,GMb,GMc,hd2]
 ·obtain ⟨i,j⟩:=s
  obtain ⟨hI,rfl,rfl⟩:=hI
  dsimp only at hI hd ⊢
  obtain ⟨q1,q2,q3⟩:=hI.le
  have hij:i<j:=by omega
  obtain ⟨k,hk⟩:∃k,k=(i+j) / 2:=⟨_,rfl⟩
  obtain ⟨w1,w2,w3,w4⟩:=P7 (i:=i) (j:=j) (by omega) (by omega)
  rw [←hk]at w3 w4
  have hkl:k<l.length:=by omega
  have c1:=hf self l[k] (hm _ (WP hkl)) l[a] (hm _ (WP ha))
  have hd2:decide ((i:Int)<(j:Int))=true:=decide_eq_true (by omega)
  have hwk:=Aw (show k<9223372036854775807 by omega)
  have hlt:HA ltC l k a=ltC l[k] l[a]:=S3 hkl ha
  cases hc:ltC l[k] l[a]with
  | true=>
   refine ⟨(k+1,j),_,_,by dsimp only;omega,⟨hI.yes mono (by omega) (by omega) (by rw [hlt,hc]),rfl,rfl⟩,fun rec=>?_⟩
   unfold Sh.f2m
   simp only [Aj,Ai,AS,AY,Bo,B6,GMb,GMc,hd2,w1,w2,w3,w4,BD hkl,BD ha,BY h hkl,BY h ha,B9,c1,Br,JS,hc,hwk]
  | false=>
   refine ⟨(i,k),_,_,by dsimp only;omega,⟨hI.no mono (by omega) (by omega) (by rw [hlt,hc]),rfl,rfl⟩,fun rec=>?_⟩
   unfold Sh.f2m
   simp only [Aj,Ai,AS,AY,Bo,B6,GMb,GMc,hd2,w1,w2,w3,w4,BD hkl,BD ha,BY h hkl,BY h ha,B9,c1,Br,JS,hc]
theorem sym_l3 (hf:Vw f l0) {l:List Cl} {a m:Nat} {H0 H:Aa} (h:C6 H p g l) (hm:∀c∈l,c∈l0) (ham:a≤m) (hml:m<l.length) (hl:l.length<1000000000)
  (mono:∀c d,a≤c→c≤d→d<m→(!HA ltC l m d)=true→(!HA ltC l m c)=true) :
  ∃s,BsI (fun c=>!HA ltC l m c) a m s s∧An (fun rec3 vs H1=>Sh.f2o H0 self rec3 (ag vs 0) (ag vs 1) (ag vs 2) (ag vs 3) (ag vs 4) H1) AM [dV p g l.length,.int .i64 (m:Int),f,.int .i64 (a:Int),.int .i64 (m:Int)] H =
   An (fun rec4 vs H1=>Sh.f2n H0 rec4 (ag vs 0) (ag vs 1) (ag vs 2) H1) AM [dV p g l.length,.int .i64 (s:Int),.int .i64 (m:Int)] H:=by
 have key:=DH (G:=fun rec3 vs H1=>Sh.f2o H0 self rec3 (ag vs 0) (ag vs 1) (ag vs 2) (ag vs 3) (ag vs 4) H1) (σ:=Nat×Nat)
  (fun s vs H1=>BsI (fun c=>!HA ltC l m c) a m s.1 s.2∧vs=[dV p g l.length,.int .i64 (m:Int),f,.int .i64 (s.1:Int),.int .i64 (s.2:Int)]∧H1=H) (fun s=>s.2-s.1) (fun s=>¬s.1<s.2) (fun s vs H1 hI hd=>?_)
  (s:=(a,m)) (vs:=[dV p g l.length,.int .i64 (m:Int),f,.int .i64 (a:Int),.int .i64 (m:Int)]) (H:=H) ⟨.start ham,rfl,rfl⟩ (by dsimp only;omega)
 ·obtain ⟨⟨i,j⟩,vs,H1,hd,⟨hI,rfl,rfl⟩,rec,hloop⟩:=key
  dsimp only at hI hd hloop
  obtain ⟨q1,q2,q3⟩:=hI.le
  have e:j=i:=by omega
  subst e
  refine ⟨j,hI,?_⟩
  rw [hloop]
  have hd2:decide ((j:Int)<(j:Int))=false:=decide_eq_false (by omega)
  conv=>lhs;unfold Sh.f2o
  simp only [Aj,Ai,AS,AY,Bo,B6,GMb,GMc,hd2]
 ·obtain ⟨i,j⟩:=s
  obtain ⟨hI,rfl,rfl⟩:=hI
  dsimp only at hI hd ⊢
  obtain ⟨q1,q2,q3⟩:=hI.le
  have hij:i<j:=by omega
  obtain ⟨k,hk⟩:∃k,k=(i+j) / 2:=⟨_,rfl⟩
  obtain ⟨w1,w2,w3,w4⟩:=P7 (i:=i) (j:=j) (by omega) (by omega)
  rw [←hk]at w3 w4
  have hkl:k<l.length:=by omega
  have c1:=hf self l[m] (hm _ (WP hml)) l[k] (hm _ (WP hkl))
  have hd2:decide ((i:Int)<(j:Int))=true:=decide_eq_true (by omega)
  have hwk:=Aw (show k<9223372036854775807 by omega)
  have hlt:HA ltC l m k=ltC l[m] l[k]:=S3 hml hkl
  cases hc:ltC l[m] l[k]with
  | false=>
   refine ⟨(k+1,j),_,_,by dsimp only;omega,⟨hI.yes mono (by omega) (by omega) (by rw [hlt,hc];rfl),rfl,rfl⟩,fun rec=>?_⟩
   unfold Sh.f2o
   simp only [Aj,Ai,AS,AY,Bo,B6,GMb,GMc,hd2,w1,w2,w3,w4,BD hkl,BD hml,BY h hkl,BY h hml,B9,c1,Br,JS,hc,hwk]
  | true=>
   refine ⟨(i,k),_,_,by dsimp only;omega,⟨hI.no mono (by omega) (by omega) (by rw [hlt,hc];rfl),rfl,rfl⟩,fun rec=>?_⟩
   unfold Sh.f2o
   simp only [Aj,Ai,AS,AY,Bo,B6,GMb,GMc,hd2,w1,w2,w3,w4,BD hkl,BD hml,BY h hkl,BY h hml,B9,c1,Br,JS,hc]
def SymOk (p g:Nat) (f:Ab) (l0:List Cl) (self:Ab→Ab→Ab→Ab→Ab→Aa→Out) (n:Nat):Prop:=
 ∀(A U V B:List Cl) (H:Aa),U.length+V.length=n→C6 H p g (A++(U++(V++B)))→0<U.length→0<V.length→DS ltC U→DS ltC V→(∀c∈A++(U++(V++B)),c∈l0)→(A++(U++(V++B))).length<1000000000 →
  ∃W,Srt ltC (U++V) W∧self (dV p g (A++(U++(V++B))).length) (.int .i64 (A.length:Int)) (.int .i64 ((A.length+U.length:Nat):Int)) (.int .i64 ((A.length+U.length+V.length:Nat):Int)) f H=some (.ret (.tup []),B5 H p g (A++(W++B)))
theorem Sx {U V:List Cl} (hU:DS ltC U) (hV:DS ltC V) (h:U=[]∨V=[]):Srt ltC (U++V) (U++V):=by
 refine ⟨?_,.refl _,rfl⟩
 rcases h with rfl | rfl
 ·exact hV
 ·rw [Xl];exact hU
theorem sym_j8 {H0 H:Aa} {A U V B:List Cl} {n:Nat} (hs:∀n',n'<n→SymOk p g f l0 self n') (hn:U.length+V.length<n) (h:C6 H p g (A++(U++(V++B)))) (hU:DS ltC U) (hV:DS ltC V) (hm:∀c∈A++(U++(V++B)),c∈l0) (hl:(A++(U++(V++B))).length<1000000000) :
  ∃W,Srt ltC (U++V) W∧Sh.f4w H0 self (dV p g (A++(U++(V++B))).length) (.int .i64 ((A.length+U.length+V.length:Nat):Int)) f (.int .i64 (A.length:Int)) (.int .i64 ((A.length+U.length:Nat):Int)) H=some (.ret (.tup []),B5 H p g (A++(W++B))):=by
 unfold Sh.f4w
 by_cases h1:0<U.length
 ·have d1:decide ((A.length:Int)<((A.length+U.length:Nat):Int))=true:=decide_eq_true (by omega)
  by_cases h2:0<V.length
  ·have d2:decide (((A.length+U.length:Nat):Int)<((A.length+U.length+V.length:Nat):Int))=true:=decide_eq_true (by omega)
   obtain ⟨W,w1,w2⟩:=hs _ hn A U V B H rfl h h1 h2 hU hV hm hl
   refine ⟨W,w1,?_⟩
   simp only [GMb,GMc,d1,d2,w2]
  ·have d2:decide (((A.length+U.length:Nat):Int)<((A.length+U.length+V.length:Nat):Int))=false:=decide_eq_false (by omega)
   have hv:V=[]:=WU (by omega)
   refine ⟨U++V,Sx hU hV (.inr hv),?_⟩
   simp only [GMb,GMc,d1,d2]
   rw [WG,Ck h]
 ·have d1:decide ((A.length:Int)<((A.length+U.length:Nat):Int))=false:=decide_eq_false (by omega)
  have hu:U=[]:=WU (by omega)
  refine ⟨U++V,Sx hU hV (.inl hu),?_⟩
  simp only [GMb,GMc,d1]
  rw [WG,Ck h]
theorem sym_j7 {H0 H:Aa} {A U V U2 V2 B:List Cl} {n:Nat} (hs:∀n',n'<n→SymOk p g f l0 self n') (hn:U.length+V.length<n) (hn2:U2.length+V2.length<n) (h:C6 H p g (A++(U++(V++(U2++(V2++B)))))) (hU:DS ltC U) (hV:DS ltC V) (hU2:DS ltC U2) (hV2:DS ltC V2)
  (hm:∀c∈A++(U++(V++(U2++(V2++B)))),c∈l0) (hl:(A++(U++(V++(U2++(V2++B))))).length<1000000000) :
  ∃W W2,Srt ltC (U++V) W∧Srt ltC (U2++V2) W2∧Sh.f4x H0 self (dV p g (A++(U++(V++(U2++(V2++B))))).length) (.int .i64 (A.length:Int)) (.int .i64 ((A.length+U.length+V.length+U2.length+V2.length:Nat):Int)) f (.int .i64 ((A.length+U.length+V.length:Nat):Int)) (.int .i64 ((A.length+U.length:Nat):Int)) (.int .i64 ((A.length+U.length+V.length+U2.length:Nat):Int)) H =
   some (.ret (.tup []),B5 H p g (A++(W++(W2++B)))):=by
 have second:∀(W:List Cl) (G:Aa),Srt ltC (U++V) W→G=B5 H p g (A++(W++(U2++(V2++B))))→∃W2,Srt ltC (U2++V2) W2∧Sh.f4w H0 self (dV p g (A++(U++(V++(U2++(V2++B))))).length) (.int .i64 ((A.length+U.length+V.length+U2.length+V2.length:Nat):Int)) f (.int .i64 ((A.length+U.length+V.length:Nat):Int)) (.int .i64 ((A.length+U.length+V.length+U2.length:Nat):Int)) G =
   some (.ret (.tup []),B5 H p g (A++(W++(W2++B)))):=fun W G hW hG=>by
  have hWl:=hW.len
  rw [WJ]at hWl
  have e1:A++(W++(U2++(V2++B)))=(A++W)++(U2++(V2++B)):=by rw [WG]
  have hlen:((A++W)++(U2++(V2++B))).length=(A++(U++(V++(U2++(V2++B))))).length:=by simp only [WJ];omega
  have hAW:(A++W).length=A.length+U.length+V.length:=by rw [WJ];omega
  have hr:C6 G p g ((A++W)++(U2++(V2++B))):=by rw [hG,e1];exact C9 h
  obtain ⟨W2,w1,w2⟩:=sym_j8 (H0:=H0) hs hn2 hr hU2 hV2 (fun c hc=>hm c (by
   rw [←e1]at hc
   simp only [WX]at hc ⊢
   rcases hc with hc | hc | hc | hc | hc
   ·exact .inl hc
   ·have:=(hW.st.mem IB).2 hc
    rcases WX.1 this with q | q
    ·exact .inr (.inl q)
    ·exact .inr (.inr (.inl q))
   ·exact .inr (.inr (.inr (.inl hc)))
   ·exact .inr (.inr (.inr (.inr (.inl hc))))
   ·exact .inr (.inr (.inr (.inr (.inr hc)))))) (by rw [hlen];exact hl)
  refine ⟨W2,w1,?_⟩
  rw [hlen,hAW]at w2
  rw [w2,hG,Bq,WG]
 have d:∀t:Bool,True:=fun _=>trivial
 unfold Sh.f4x
 by_cases h1:0<U.length
 ·have d1:decide ((A.length:Int)<((A.length+U.length:Nat):Int))=true:=decide_eq_true (by omega)
  by_cases h2:0<V.length
  ·have d2:decide (((A.length+U.length:Nat):Int)<((A.length+U.length+V.length:Nat):Int))=true:=decide_eq_true (by omega)
   obtain ⟨W,w1,w2⟩:=hs _ hn A U V (U2++(V2++B)) H rfl h h1 h2 hU hV hm hl
   obtain ⟨W2,w3,w4⟩:=second W _ w1 rfl
   refine ⟨W,W2,w1,w3,?_⟩
   simp only [Aj,Ai,AS,AY,Bo,B6,GMb,GMc,d1,d2,w2]
   exact w4
  ·have d2:decide (((A.length+U.length:Nat):Int)<((A.length+U.length+V.length:Nat):Int))=false:=decide_eq_false (by omega)
   have hv:V=[]:=WU (by omega)
   have w1:=Sx hU hV (.inr hv)
   obtain ⟨W2,w3,w4⟩:=second (U++V) H w1 (by rw [WG,Ck h])
   refine ⟨_,W2,w1,w3,?_⟩
   simp only [Aj,Ai,AS,AY,Bo,B6,GMb,GMc,d1,d2]
   exact w4
 ·have d1:decide ((A.length:Int)<((A.length+U.length:Nat):Int))=false:=decide_eq_false (by omega)
  have hu:U=[]:=WU (by omega)
  have w1:=Sx hU hV (.inl hu)
  obtain ⟨W2,w3,w4⟩:=second (U++V) H w1 (by rw [WG,Ck h])
  refine ⟨_,W2,w1,w3,?_⟩
  simp only [Aj,Ai,AS,AY,Bo,B6,GMb,GMc,d1]
  exact w4

end
section
variable {p g:Nat} {f:Ab} {l0:List Cl} {A B:List Cl}
theorem sym_l6 {self:Ab→Ab→Ab→Ab→Ab→Aa→Out} (hf:Vw f l0) {l:List Cl} {a m b mid n s0 r0 P:Nat} {H0 H:Aa} (h:C6 H p g l) (hm:∀c∈l,c∈l0) (hsr:s0≤r0) (hr:r0≤l.length) (hP:∀c,s0≤c→c<r0→P-c<l.length∧c≤P) (hPl:P<2000000000) (hl:l.length<1000000000)
  (mono:∀c d,s0≤c→c≤d→d<r0→Te ltC l P d=true→Te ltC l P c=true) :
  ∃s,BsI (Te ltC l P) s0 r0 s s∧∃rec,An (fun rec6 vs H1=>Sh.fq H0 self rec6 (ag vs 0) (ag vs 1) (ag vs 2) (ag vs 3) (ag vs 4) (ag vs 5) (ag vs 6) (ag vs 7) (ag vs 8) (ag vs 9) H1) AM
    [dV p g l.length,.int .i64 (a:Int),.int .i64 (m:Int),.int .i64 (b:Int),f,.int .i64 (mid:Int),.int .i64 (n:Int),.int .i64 (s0:Int),.int .i64 (r0:Int),.int .i64 (P:Int)] H =
   Sh.fq H0 self rec (dV p g l.length) (.int .i64 (a:Int)) (.int .i64 (m:Int)) (.int .i64 (b:Int)) f (.int .i64 (mid:Int)) (.int .i64 (n:Int)) (.int .i64 (s:Int)) (.int .i64 (s:Int)) (.int .i64 (P:Int)) H:=by
 have key:=DH (G:=fun rec6 vs H1=>Sh.fq H0 self rec6 (ag vs 0) (ag vs 1) (ag vs 2) (ag vs 3) (ag vs 4) (ag vs 5) (ag vs 6) (ag vs 7) (ag vs 8) (ag vs 9) H1) (σ:=Nat×Nat)
  (fun s vs H1=>BsI (Te ltC l P) s0 r0 s.1 s.2∧vs=[dV p g l.length,.int .i64 (a:Int),.int .i64 (m:Int),.int .i64 (b:Int),f,.int .i64 (mid:Int),.int .i64 (n:Int),.int .i64 (s.1:Int),.int .i64 (s.2:Int),.int .i64 (P:Int)]∧H1=H) (fun s=>s.2-s.1) (fun s=>¬s.1<s.2) (fun s vs H1 hI hd=>?_)
  (s:=(s0,r0)) (vs:=[dV p g l.length,.int .i64 (a:Int),.int .i64 (m:Int),.int .i64 (b:Int),f,.int .i64 (mid:Int),.int .i64 (n:Int),.int .i64 (s0:Int),.int .i64 (r0:Int),.int .i64 (P:Int)]) (H:=H) ⟨.start hsr,rfl,rfl⟩ (by dsimp only;omega)
 ·obtain ⟨⟨i,j⟩,vs,H1,hd,⟨hI,rfl,rfl⟩,rec,hloop⟩:=key
  dsimp only at hI hd hloop
  obtain ⟨q1,q2,q3⟩:=hI.le
  have e:j=i:=by omega
  subst e
  exact ⟨j,hI,rec,hloop⟩
 ·obtain ⟨i,j⟩:=s
  obtain ⟨hI,rfl,rfl⟩:=hI
  dsimp only at hI hd ⊢
  obtain ⟨q1,q2,q3⟩:=hI.le
  have hij:i<j:=by omega
  obtain ⟨k,hk⟩:∃k,k=(i+j) / 2:=⟨_,rfl⟩
  obtain ⟨w1,w2,w3,w4⟩:=P7 (i:=i) (j:=j) (by omega) (by omega)
  rw [←hk]at w3 w4
  have hkl:k<l.length:=by omega
  obtain ⟨hPk,hkP⟩:=hP k (by omega) (by omega)
  have c1:=hf self l[P-k] (hm _ (WP hPk)) l[k] (hm _ (WP hkl))
  have hd2:decide ((i:Int)<(j:Int))=true:=decide_eq_true (by omega)
  have hwk:=Aw (show k<9223372036854775807 by omega)
  have hwp:IntKind.i64.wrap ((P:Int)-(k:Int))=((P-k:Nat):Int):=by rw [Al] <;> omega
  have hlt:HA ltC l (P-k) k=ltC l[P-k] l[k]:=S3 hPk hkl
  have hp:Te ltC l P k = !ltC l[P-k] l[k]:=by unfold Te;rw [hlt]
  cases hc:ltC l[P-k] l[k]with
  | false=>
   refine ⟨(k+1,j),_,_,by dsimp only;omega,⟨hI.yes mono (by omega) (by omega) (by rw [hp,hc];rfl),rfl,rfl⟩,fun rec=>?_⟩
   unfold Sh.fq
   simp only [Aj,Ai,AS,AY,Bo,B6,GMb,GMc,hd2,w1,w2,w3,w4,hwp,BD hkl,BD hPk,BY h hkl,BY h hPk,B9,c1,Br,JS,hc,hwk]
  | true=>
   refine ⟨(i,k),_,_,by dsimp only;omega,⟨hI.no mono (by omega) (by omega) (by rw [hp,hc];rfl),rfl,rfl⟩,fun rec=>?_⟩
   unfold Sh.fq
   simp only [Aj,Ai,AS,AY,Bo,B6,GMb,GMc,hd2,w1,w2,w3,w4,hwp,BD hkl,BD hPk,BY h hkl,BY h hPk,B9,c1,Br,JS,hc]
theorem sym_step (hf:Vw f l0) {d n:Nat} (hs:∀n',n'<n→SymOk p g f l0 (Sh.f3 d) n'):SymOk p g f l0 (Sh.f3 (d+1)) n:=by
 intro A U V B H hn h hUp hVp hU hV hm hl
 obtain ⟨l,hL⟩:∃l,l=A++(U++(V++B)):=⟨_,rfl⟩
 have hlen:l.length=A.length+(U.length+(V.length+B.length)):=by rw [hL];simp only [WJ]
 have hl2:l.length<1000000000:=by rw [hL];exact hl
 show ∃W,_∧Sh.f66 (Sh.f3 d) _ _ _ _ _ H=_
 unfold Sh.f66
 have hw1:IntKind.i64.wrap (((A.length+U.length:Nat):Int)-(A.length:Int))=(U.length:Int):=by rw [Al] <;> omega
 by_cases h1:U.length=1
 ·obtain ⟨x,rfl⟩:=Yt.1 h1
  have hd1:((([x]:List Cl).length:Int) == 1)=true:=by simp
  have hat:l[A.length]? = some x:=by rw [hL];simp
  have hltA:∀c,A.length+1≤c→c<A.length+1+V.length→∃hc:c-(A.length+1)<V.length,HA ltC l c A.length=ltC V[c-(A.length+1)] x:=fun c h3 h4=>by
   have hc:c-(A.length+1)<V.length:=by omega
   refine ⟨hc,?_⟩
   have e:l[c]? = some V[c-(A.length+1)]:=by
    rw [hL,at_V rfl rfl (by simpa using h3) (by simpa using h4)];rfl
   unfold HA
   rw [hat,e]
  obtain ⟨s,b1,b2⟩:=sym_l1 (self:=Sh.f3 d) (H0:=H) (a:=A.length) (m:=A.length+1) (b:=A.length+1+V.length) hf (l:=l) (by rw [hL];exact h) (by rw [hL];exact hm) (by rw [hlen];simp only [List.length_cons,List.length_nil];omega) (by omega) (by rw [hlen];simp only [List.length_cons,List.length_nil];omega) hl2 (fun c d hc1 hc2 hc3 hc4=>by
   obtain ⟨e1,e2⟩:=hltA c hc1 (by omega)
   obtain ⟨e3,e4⟩:=hltA d (by omega) hc3
   rw [e2]
   rw [e4]at hc4
   cases e:ltC V[c-(A.length+1)] x with
   | true=>rfl
   | false=>
    have:=GG hV IB (i:=c-(A.length+1)) (j:=d-(A.length+1)) (by omega) e3
    have:=IB.neg _ _ _ this e
    rw [hc4]at this;cases this)
  obtain ⟨⟨g1,_,g2⟩,g3,g4⟩:=b1
  have hup:=sym_up (H0:=H) (p:=p) (g:=g) (l:=l) (i:=s) (a:=A.length) (H:=H) (by rw [hL];exact h) (by rw [hlen];simp only [List.length_cons,List.length_nil]at *;omega) (by omega) hl2
  have hres:=upR_ok A B x V (s-1-A.length) (by omega)
  refine ⟨V.take (s-1-A.length)++([x]++V.drop (s-1-A.length)),one_up IB hV (fun y hy=>?_) (fun y hy=>?_),?_⟩
  ·obtain ⟨i,hi,hi2,rfl⟩:=Hb hy
   have:=g3 (A.length+1+i) (by omega) (by omega)
   obtain ⟨e1,e2⟩:=hltA (A.length+1+i) (by omega) (by omega)
   rw [e2]at this
   have e3:A.length+1+i-(A.length+1)=i:=by omega
   simp only [e3]at this
   exact this
  ·obtain ⟨i,hi,hi2,rfl⟩:=Hf hy
   have:=g4 (A.length+1+i) (by omega) (by omega)
   obtain ⟨e1,e2⟩:=hltA (A.length+1+i) (by omega) (by omega)
   rw [e2]at this
   have e3:A.length+1+i-(A.length+1)=i:=by omega
   simp only [e3]at this
   exact this
  ·rw [←hL]
   simp only [GMb,GMc,hw1,hd1]
   have eb:A.length+([x]:List Cl).length=A.length+1:=rfl
   rw [eb,b2,hup,hL,hres]
 ·have hd1:((U.length:Int) == 1)=false:=by simp;omega
  have hw2:IntKind.i64.wrap (((A.length+U.length+V.length:Nat):Int)-((A.length+U.length:Nat):Int))=(V.length:Int):=by rw [Al] <;> omega
  by_cases h2:V.length=1
  ·obtain ⟨y,rfl⟩:=Yt.1 h2
   have hd2:((([y]:List Cl).length:Int) == 1)=true:=by simp
   have hat:l[A.length+U.length]? = some y:=by
    rw [hL,at_V rfl rfl (WF _) (by simp)];simp
   have hltA:∀c,A.length≤c→c<A.length+U.length→∃hc:c-A.length<U.length,HA ltC l (A.length+U.length) c=ltC y U[c-A.length]:=fun c h3 h4=>by
    have hc:c-A.length<U.length:=by omega
    refine ⟨hc,?_⟩
    have e:l[c]? = some U[c-A.length]:=by rw [hL,at_U rfl h3 h4]
    unfold HA
    rw [hat,e]
   obtain ⟨s,b1,b2⟩:=sym_l3 (self:=Sh.f3 d) (H0:=H) (a:=A.length) (m:=A.length+U.length) hf (l:=l) (by rw [hL];exact h) (by rw [hL];exact hm) (by omega) (by rw [hlen];simp only [List.length_cons,List.length_nil];omega) hl2 (fun c d hc1 hc2 hc3 hc4=>by
    obtain ⟨e1,e2⟩:=hltA c hc1 (by omega)
    obtain ⟨e3,e4⟩:=hltA d (by omega) hc3
    rw [e2]
    rw [e4]at hc4
    simp only [XB]at hc4 ⊢
    have:=GG hU IB (i:=c-A.length) (j:=d-A.length) (by omega) e3
    exact IB.neg _ _ _ hc4 this)
   obtain ⟨⟨g1,_,g2⟩,g3,g4⟩:=b1
   have hdn:=sym_dn (H0:=H) (p:=p) (g:=g) (l:=l) (i:=s) (m:=A.length+U.length) (H:=H) (by rw [hL];exact h) g2 (by rw [hlen];simp only [List.length_cons,List.length_nil];omega) hl2
   have hres:=dnR_ok A B y U (A.length+U.length-s) (by omega)
   have ek:U.length-(A.length+U.length-s)=s-A.length:=by omega
   rw [ek]at hres
   refine ⟨U.take (s-A.length)++([y]++U.drop (s-A.length)),one_dn IB hU (fun x hx=>?_) (fun x hx=>?_),?_⟩
   ·obtain ⟨i,hi,hi2,rfl⟩:=Hb hx
    have:=g3 (A.length+i) (by omega) (by omega)
    obtain ⟨e1,e2⟩:=hltA (A.length+i) (by omega) (by omega)
    rw [e2]at this
    have e3:A.length+i-A.length=i:=by omega
    simp only [e3,XB]at this
    exact this
   ·obtain ⟨i,hi,hi2,rfl⟩:=Hf hx
    have:=g4 (A.length+i) (by omega) (by omega)
    obtain ⟨e1,e2⟩:=hltA (A.length+i) (by omega) (by omega)
    rw [e2]at this
    have e3:A.length+i-A.length=i:=by omega
    simp only [e3,YV]at this
    exact this
   ·rw [←hL]
    simp only [GMb,GMc,hw1,hw2,hd1,hd2]
    rw [b2,hdn,hL,hres]
  ·have hd2:((V.length:Int) == 1)=false:=by simp;omega
   obtain ⟨a,ha⟩:∃a,a=A.length:=⟨_,rfl⟩
   obtain ⟨m,hmm⟩:∃m,m=A.length+U.length:=⟨_,rfl⟩
   obtain ⟨b,hb⟩:∃b,b=A.length+U.length+V.length:=⟨_,rfl⟩
   obtain ⟨mid,hmid⟩:∃mid,mid=(a+b) / 2:=⟨_,rfl⟩
   obtain ⟨w1,w2,w3,w4⟩:=P7 (i:=a) (j:=b) (by omega) (by omega)
   rw [←hmid]at w3 w4
   have hw5:IntKind.i64.wrap ((mid:Int)+(m:Int))=((mid+m:Nat):Int):=by rw [Al] <;> omega
   obtain ⟨s0,hs0⟩:∃s0,s0=if mid<m then mid+m-b else a:=⟨_,rfl⟩
   obtain ⟨r0,hr0⟩:∃r0,r0=if mid<m then mid else m:=⟨_,rfl⟩
   have hsr:s0≤r0∧r0≤m∧a≤s0∧mid+m≤s0+b∧r0≤mid:=by
    by_cases hc:mid<m
    ·rw [if_pos hc]at hs0 hr0;omega
    ·rw [if_neg hc]at hs0 hr0;omega
   obtain ⟨z1,z2,z3,z4,z5⟩:=hsr
   obtain ⟨s,b1,rec,b2⟩:=sym_l6 (self:=Sh.f3 d) (H0:=H) (a:=a) (m:=m) (b:=b) (mid:=mid) (n:=mid+m) (s0:=s0) (r0:=r0) (P:=mid+m-1) hf (l:=l) (H:=H) (by rw [hL];exact h) (by rw [hL];exact hm) z1 (by omega) (fun c h3 h4=>by omega) (by omega) (by rw [hL];exact hl)
    (fun c e h3 h4 h5 h6=>by
     rw [hL]at h6 ⊢
     exact symP_mono IB hU hV ha.symm (show a+U.length=m by omega) (by omega) h4 (by omega) (by omega) (by omega) h6)
   have b1':=b1
   rw [hL]at b1'
   obtain ⟨p1,p2,p3,p4,p5,p6,p7⟩:=sym_split IB hU hV ha.symm (show a+U.length=m by omega) (show m+V.length=b by omega) hmid hUp hVp hs0 hr0 b1'
   have l1:(U.take (s-a)).length=s-a:=by rw [WT];omega
   have l2:(V.take (mid-s)).length=mid-s:=by rw [WT];omega
   have l3:(U.drop (s-a)).length=m-s:=by rw [WZ];omega
   have l4:(V.drop (mid-s)).length=b-(mid+m-s):=by rw [WZ];omega
   have sU1:DS ltC (U.take (s-a)):=XN (YZ _ _) hU
   have sU2:DS ltC (U.drop (s-a)):=XN (Zc _ _) hU
   have sV1:DS ltC (V.take (mid-s)):=XN (YZ _ _) hV
   have sV2:DS ltC (V.drop (mid-s)):=XN (Zc _ _) hV
   have eU:U.take (s-a)++U.drop (s-a)=U:=Xr _ _
   have eV:V.take (mid-s)++V.drop (mid-s)=V:=Xr _ _
   have hmem:∀c,c∈A++(U.take (s-a)++(V.take (mid-s)++(U.drop (s-a)++(V.drop (mid-s)++B))))→c∈l0:=fun c hc=>hm c (by
    simp only [WX]at hc ⊢
    rcases hc with q | q | q | q | q | q
    ·exact .inl q
    ·exact .inr (.inl (XK q))
    ·exact .inr (.inr (.inl (XK q)))
    ·exact .inr (.inl (Yl q))
    ·exact .inr (.inr (.inl (Yl q)))
    ·exact .inr (.inr (.inr q)))
   have hlen2:(A++(U.take (s-a)++(V.take (mid-s)++(U.drop (s-a)++(V.drop (mid-s)++B))))).length=l.length:=by
    rw [hlen];simp only [WJ,l1,l2,l3,l4];omega
   generalize U.take (s-a)=U1 at *
   generalize U.drop (s-a)=U2 at *
   generalize V.take (mid-s)=V1 at *
   generalize V.drop (mid-s)=V2 at *
   have rest:∀G,G=B5 H p g (A++(U1++(V1++(U2++(V2++B)))))→∃W W2,Srt ltC (U1++V1) W∧Srt ltC (U2++V2) W2∧Sh.f4x H (Sh.f3 d) (dV p g l.length) (.int .i64 (a:Int)) (.int .i64 (b:Int)) f (.int .i64 (mid:Int)) (.int .i64 (s:Int)) (.int .i64 ((mid+m-s:Nat):Int)) G =
     some (.ret (.tup []),B5 H p g (A++(W++(W2++B)))):=fun G hG=>by
    obtain ⟨W,W2,k1,k2,k3⟩:=sym_j7 (H0:=H) (H:=G) (p:=p) (g:=g) (f:=f) (l0:=l0) (A:=A) (U:=U1) (V:=V1) (U2:=U2) (V2:=V2) (B:=B) (n:=n) hs (by omega) (by omega) (by rw [hG];exact C9 h) sU1 sV1 sU2 sV2 hmem (by rw [hlen2,hL];exact hl)
    refine ⟨W,W2,k1,k2,?_⟩
    rw [hlen2,←ha,show a+U1.length=s by omega,show s+V1.length=mid by omega,show mid+U2.length=mid+m-s by omega,show mid+m-s+V2.length=b by omega]at k3
    rw [k3,hG,Bq]
   have hwe:IntKind.i64.wrap (((mid+m:Nat):Int)-(s:Int))=((mid+m-s:Nat):Int):=by rw [Al] <;> omega
   have hds:decide ((s:Int)<(s:Int))=false:=decide_eq_false (by omega)
   have hwp:IntKind.i64.wrap (((mid+m:Nat):Int)-1)=((mid+m-1:Nat):Int):=by rw [Al] <;> omega
   have after:∃W W2,Srt ltC (U1++V1) W∧Srt ltC (U2++V2) W2∧Sh.fq H (Sh.f3 d) rec (dV p g l.length) (.int .i64 (a:Int)) (.int .i64 (m:Int)) (.int .i64 (b:Int)) f (.int .i64 (mid:Int)) (.int .i64 ((mid+m:Nat):Int)) (.int .i64 (s:Int)) (.int .i64 (s:Int)) (.int .i64 ((mid+m-1:Nat):Int)) H =
     some (.ret (.tup []),B5 H p g (A++(W++(W2++B)))):=by
    by_cases t1:s<m
    ·have c1:decide ((s:Int)<(m:Int))=true:=decide_eq_true (by omega)
     by_cases t2:m<mid+m-s
     ·have c2:decide ((m:Int)<((mid+m-s:Nat):Int))=true:=decide_eq_true (by omega)
      have e1:l=(A++U1)++(U2++(V1++(V2++B))):=by
       rw [hL,←eU,←eV];simp only [WG]
      have hrot:=rotate_ok (p:=p) (g:=g) (f:=f) (a:=s) (b:=mid+m-s) (m:=m) (A:=A++U1) (U:=U2) (V:=V1) (B:=V2++B) (H:=H) (by rw [←e1,hL];exact h) (by rw [WJ];omega) (by omega) (by omega) (by omega) (by omega) (by rw [←e1,hL];exact hl)
      rw [←e1]at hrot
      obtain ⟨W,W2,k1,k2,k3⟩:=rest _ rfl
      refine ⟨W,W2,k1,k2,?_⟩
      have e2:(A++U1)++((V1++U2)++(V2++B))=A++(U1++(V1++(U2++(V2++B)))):=by simp only [WG]
      rw [e2]at hrot
      unfold Sh.fq
      simp only [Aj,Ai,AS,AY,Bo,B6,Di,GMb,GMc,hds,hwe,c1,c2,hrot]
      exact k3
     ·have c2:decide ((m:Int)<((mid+m-s:Nat):Int))=false:=decide_eq_false (by omega)
      have hv1:V1=[]:=WU (by omega)
      obtain ⟨W,W2,k1,k2,k3⟩:=rest H (by
       rw [show A++(U1++(V1++(U2++(V2++B))))=A++(U++(V++B))by
        rw [←eU,←eV,hv1];simp only [WG,List.nil_append],Ck h])
      refine ⟨W,W2,k1,k2,?_⟩
      unfold Sh.fq
      simp only [Aj,Ai,AS,AY,Bo,B6,Di,GMb,GMc,hds,hwe,c1,c2]
      exact k3
    ·have c1:decide ((s:Int)<(m:Int))=false:=decide_eq_false (by omega)
     have hu2:U2=[]:=WU (by omega)
     obtain ⟨W,W2,k1,k2,k3⟩:=rest H (by
      rw [show A++(U1++(V1++(U2++(V2++B))))=A++(U++(V++B))by
       rw [←eU,←eV,hu2];simp only [WG,List.nil_append,Xl],Ck h])
     refine ⟨W,W2,k1,k2,?_⟩
     unfold Sh.fq
     simp only [Aj,Ai,AS,AY,Bo,B6,Di,GMb,GMc,hds,hwe,c1]
     exact k3
   obtain ⟨W,W2,k1,k2,k3⟩:=after
   have hsplit:Srt ltC (U++V) (W++W2):=by
    have l5:U.take U1.length=U1∧U.drop U1.length=U2:=by rw [←eU];exact ⟨Yy,YC⟩
    have l6:V.take V1.length=V1∧V.drop V1.length=V2:=by rw [←eV];exact ⟨Yy,YC⟩
    exact Qk (i:=U1.length) (k:=V1.length) IB hU hV (by rw [l5.2,l6.1];exact p1) (by rw [l5.1,l6.2];exact p2) (by rw [l5.1,l6.1];exact k1) (by rw [l5.2,l6.2];exact k2)
   refine ⟨W++W2,hsplit,?_⟩
   rw [←hL,←hb,←hmm,←ha]
   rw [←hmm,show m+V.length=b by omega]at hw2
   rw [←hmm,←ha]at hw1
   have j5:∀x y:Nat,x=s0→y=r0→Sh.f65 H (Sh.f3 d) (dV p g l.length) (.int .i64 (a:Int)) (.int .i64 (m:Int)) (.int .i64 (b:Int)) f (.int .i64 (mid:Int)) (.int .i64 ((mid+m:Nat):Int)) (.int .i64 (x:Int)) (.int .i64 (y:Int)) H=some (.ret (.tup []),B5 H p g (A++((W++W2)++B))):=fun x y hx hy=>by
    subst hx;subst hy
    unfold Sh.f65
    simp only [GMb,GMc,hwp]
    rw [b2,k3,WG]
   by_cases hc:mid<m
   ·have c3:decide ((m:Int)>(mid:Int))=true:=decide_eq_true (by omega)
    have hw6:IntKind.i64.wrap (((mid+m:Nat):Int)-(b:Int))=((mid+m-b:Nat):Int):=by
     rw [if_pos hc]at hs0
     rw [Al] <;> omega
    simp only [Aj,Ai,AS,AY,Bo,B6,Di,GMb,GMc,hw1,hw2,hd1,hd2,w1,w2,w3,w4,hw5,c3,hw6]
    exact j5 _ _ (by rw [hs0,if_pos hc]) (by rw [hr0,if_pos hc])
   ·have c3:decide ((m:Int)>(mid:Int))=false:=decide_eq_false (by omega)
    simp only [Aj,Ai,AS,AY,Bo,B6,Di,GMb,GMc,hw1,hw2,hd1,hd2,w1,w2,w3,w4,hw5,c3]
    exact j5 _ _ (by rw [hs0,if_neg hc]) (by rw [hr0,if_neg hc])
theorem sym_all (hf:Vw f l0):∀d n,n<d→SymOk p g f l0 (Sh.f3 d) n
 | 0,n,h=>absurd h (by omega)
 | d+1,n,h=>sym_step hf fun n' hn'=>sym_all hf d n' (by omega)

end
theorem Stg.split {w n a:Nat} {l l':List Cl} (hw:0<w) (hd:w ∣ a) (hn:n≤w) (hl:a+n≤l.length) (h:Stg ltC w l a l') :
  ∃A,A.length=a∧l'=A++((l.drop a).take n++l.drop (a+n))∧(∀c∈A,c∈l)∧∀P2,Srt ltC ((l.drop a).take n) P2→Stg ltC w l (a+n) (A++(P2++l.drop (a+n))):=by
 obtain ⟨P,h1,hP,hst,hb⟩:=h.ex
 refine ⟨P,hP,?_,fun c hc=>?_,fun P2 h2=>?_⟩
 ·rw [h1]
  congr 1
  rw [←XD,Xr]
 ·exact XK ((hst.mem IB).2 hc)
 ·have hlen:P2.length=n:=by rw [h2.len,WT,WZ];omega
  refine ⟨P++P2,by rw [WG],by rw [WJ,hP,hlen],?_,Om.app hw (by rw [hP];exact hd) hb h2.srt (by omega)⟩
  rw [List.take_add]
  exact hst.app h2.st
theorem Stg.mem {w a:Nat} {l l':List Cl} (h:Stg ltC w l a l') {c:Cl} (hc:c∈l'):c∈l:=by
 obtain ⟨P,h1,hP,hst,hb⟩:=h.ex
 rw [h1]at hc
 rcases WX.1 hc with q | q
 ·exact XK ((hst.mem IB).2 q)
 ·exact Yl q
section
variable {p g:Nat} {f:Ab} {l0:List Cl}
theorem Wc (hf:UO A4 f l0) {l L:List Cl} {a n w:Nat} {H:Aa} (h:C6 H p g L) (hm:∀c∈l,c∈l0) (hst:Stg ltC w l a L) (hw:0<w) (hd:w ∣ a) (hn:n≤w) (hal:a+n≤l.length) (hl:l.length<1000000000) :
  ∃L',Stg ltC w l (a+n) L'∧Sh.fp (dV p g l.length) (.int .i64 (a:Int)) (.int .i64 ((a+n:Nat):Int)) f H=some (.ret (.tup []),B5 H p g L'):=by
 have hlen:=hst.len (by omega)
 have hin:=ins_sort (a:=a) (b:=a+n) hf h (fun c hc=>hm c (hst.mem hc)) (by omega) (by omega) (by omega)
 rw [hlen]at hin
 obtain ⟨A,hA,hL,_,hP⟩:=hst.split hw hd hn hal
 by_cases h0:n=0
 ·subst h0
  refine ⟨L,?_,?_⟩
  ·rw [Nat.add_zero];exact hst
  ·rw [hin]
   congr 3
   rw [show a+0-a-1=0 by omega];rfl
 ·have hSl:((l.drop a).take n).length=n:=by rw [WT,WZ];omega
  obtain ⟨P,q1,q2⟩:=insN_ok IB A (n-1) ((l.drop a).take n) (l.drop (a+n)) (by omega)
  refine ⟨_,hP P q2,?_⟩
  rw [hin,show a+n-a-1=n-1 by omega,←q1,←hL,hA]
theorem V6 (hf:Vw f l0) {l L:List Cl} {a n bs:Nat} {H:Aa} (h:C6 H p g L) (hm:∀c∈l,c∈l0) (hst:Stg ltC (2*bs) l a L) (hbs:0<bs) (hd:2*bs ∣ a) (hup:Om ltC bs l) (hn:bs<n) (hn2:n≤2*bs) (hal:a+n≤l.length) (hl:l.length<1000000000) :
  ∃L',Stg ltC (2*bs) l (a+n) L'∧Sh.f3 AM (dV p g l.length) (.int .i64 (a:Int)) (.int .i64 ((a+bs:Nat):Int)) (.int .i64 ((a+n:Nat):Int)) f H=some (.ret (.tup []),B5 H p g L'):=by
 have hlen:=hst.len (by omega)
 obtain ⟨A,hA,hL,_,hP⟩:=hst.split (by omega) hd hn2 hal
 have hda:bs ∣ a:=Nat.dvd_trans ⟨2,by omega⟩ hd
 have sU:=hup.block hbs hda bs (WF _)
 have sV:=hup.block hbs (show bs ∣ a+bs from (Z0 hda).2 (Nat.dvd_refl _)) (n-bs) (by omega)
 have hS:(l.drop a).take n=(l.drop a).take bs++(l.drop (a+bs)).take (n-bs):=by
  rw [show n=bs+(n-bs)by omega,List.take_add,XD]
  congr 2;omega
 have lU:((l.drop a).take bs).length=bs:=by rw [WT,WZ];omega
 have lV:((l.drop (a+bs)).take (n-bs)).length=n-bs:=by rw [WT,WZ];omega
 rw [hS]at hL hP
 rw [WG]at hL
 have hall:=sym_all (p:=p) (g:=g) hf AM (((l.drop a).take bs).length+((l.drop (a+bs)).take (n-bs)).length) (by rw [Ey];omega) A ((l.drop a).take bs) ((l.drop (a+bs)).take (n-bs)) (l.drop (a+n)) H rfl (by rw [←hL];exact h) (by omega) (by omega) sU sV
  (fun c hc=>by rw [←hL]at hc;exact hm c (hst.mem hc)) (by rw [←hL,hlen];exact hl)
 obtain ⟨W,w1,w2⟩:=hall
 refine ⟨_,hP W w1,?_⟩
 rw [←hL,hlen,hA,lU,lV,show a+bs+(n-bs)=a+n by omega]at w2
 exact w2
theorem sym_round (hf:Vw f l0) {l:List Cl} {bs:Nat} {H0 H:Aa} (h:C6 H p g l) (hm:∀c∈l,c∈l0) (hbs:0<bs) (hup:Om ltC bs l) (hbn:bs<l.length) (hl:l.length<1000000000) :
  ∃L,ES ltC l L∧Om ltC (2*bs) L∧L.length=l.length∧∀rec2:LK,An (fun rec3 vs H1=>Sh.f2p H0 rec2 rec3 (ag vs 0) (ag vs 1) (ag vs 2) (ag vs 3) (ag vs 4) (ag vs 5) H1) AM [dV p g l.length,.int .i64 (l.length:Int),f,.int .i64 (bs:Int),.int .i64 0,.int .i64 ((2*bs:Nat):Int)] H =
   rec2 [dV p g l.length,.int .i64 (l.length:Int),f,.int .i64 ((2*bs:Nat):Int)] (B5 H p g L):=by
 have key:=R0 (ι:=LK) (G:=fun rec2 rec3 vs H1=>Sh.f2p H0 rec2 rec3 (ag vs 0) (ag vs 1) (ag vs 2) (ag vs 3) (ag vs 4) (ag vs 5) H1) (σ:=Nat×List Cl)
  (fun s vs H1=>Stg ltC (2*bs) l s.1 s.2∧2*bs ∣ s.1∧s.1≤l.length∧vs=[dV p g l.length,.int .i64 (l.length:Int),f,.int .i64 (bs:Int),.int .i64 (s.1:Int),.int .i64 ((s.1+2*bs:Nat):Int)]∧H1=B5 H p g s.2) (fun s=>l.length-s.1) (fun s=>¬s.1+2*bs≤l.length) (fun s vs H1 hI hd=>?_)
  (s:=(0,l)) (vs:=[dV p g l.length,.int .i64 (l.length:Int),f,.int .i64 (bs:Int),.int .i64 0,.int .i64 ((2*bs:Nat):Int)]) (H:=H) ⟨.start _ _,Nat.dvd_zero _,Xd _,by simp,(Ck h).symm⟩ (by dsimp only;omega)
 ·obtain ⟨⟨a,L⟩,vs,H1,hd,⟨hst,hdv,hal,rfl,rfl⟩,hloop⟩:=key
  dsimp only at hst hdv hal hd hloop
  have hr:C6 (B5 H p g L) p g L:=C9 h
  have d1:decide (((a+2*bs:Nat):Int)≤(l.length:Int))=false:=decide_eq_false (by omega)
  have hw1:IntKind.i64.wrap ((a:Int)+(bs:Int))=((a+bs:Nat):Int):=by rw [Al] <;> omega
  have hw2:IntKind.i64.wrap ((bs:Int)*2)=((2*bs:Nat):Int):=by rw [Al] <;> omega
  by_cases hmn:a+bs<l.length
  ·have d2:decide (((a+bs:Nat):Int)<(l.length:Int))=true:=decide_eq_true (by omega)
   obtain ⟨L',q1,q2⟩:=V6 (n:=l.length-a) hf hr hm hst hbs hdv hup (by omega) (by omega) (by omega) hl
   rw [show a+(l.length-a)=l.length by omega]at q1 q2
   obtain ⟨r1,r2,r3⟩:=q1.all
   refine ⟨L',r1,r2,r3,fun rec2=>?_⟩
   obtain ⟨rec,hloop⟩:=hloop rec2
   rw [hloop]
   unfold Sh.f2p Sh.f67
   simp only [Aj,Ai,AS,AY,Bo,B6,Di,GMb,GMc,d1,hw1,d2,q2,hw2,Bq]
  ·have d2:decide (((a+bs:Nat):Int)<(l.length:Int))=false:=decide_eq_false (by omega)
   obtain ⟨A,hA,hL,_,hP⟩:=hst.split (n:=l.length-a) (by omega) hdv (by omega) (by omega)
   have hda:bs ∣ a:=Nat.dvd_trans ⟨2,by omega⟩ hdv
   have q1:=hP _ ⟨hup.block hbs hda (l.length-a) (by omega),.refl _,rfl⟩
   rw [←hL,show a+(l.length-a)=l.length by omega]at q1
   obtain ⟨r1,r2,r3⟩:=q1.all
   refine ⟨L,r1,r2,r3,fun rec2=>?_⟩
   obtain ⟨rec,hloop⟩:=hloop rec2
   rw [hloop]
   unfold Sh.f2p Sh.f67
   simp only [Aj,Ai,AS,AY,Bo,B6,Di,GMb,GMc,d1,hw1,d2,hw2]
 ·obtain ⟨a,L⟩:=s
  obtain ⟨hst,hdv,hal,rfl,rfl⟩:=hI
  dsimp only at hst hdv hal hd ⊢
  have hr:C6 (B5 H p g L) p g L:=C9 h
  obtain ⟨L',q1,q2⟩:=V6 (n:=2*bs) hf hr hm hst hbs hdv hup (by omega) (by omega) (by omega) hl
  have d1:decide (((a+2*bs:Nat):Int)≤(l.length:Int))=true:=decide_eq_true (by omega)
  have hw1:IntKind.i64.wrap ((a:Int)+(bs:Int))=((a+bs:Nat):Int):=by rw [Al] <;> omega
  have hw2:IntKind.i64.wrap (2*(bs:Int))=((2*bs:Nat):Int):=by rw [Al] <;> omega
  have hw3:IntKind.i64.wrap (((a+2*bs:Nat):Int)+((2*bs:Nat):Int))=((a+2*bs+2*bs:Nat):Int):=by rw [Al] <;> omega
  refine ⟨(a+2*bs,L'),_,_,by dsimp only;omega,⟨q1,(Z0 hdv).2 (Nat.dvd_refl _),by dsimp only;omega,rfl,rfl⟩,fun rec2 rec=>?_⟩
  unfold Sh.f2p
  simp only [Aj,Ai,AS,AY,Bo,B6,Di,GMb,GMc,d1,hw1,q2,hw2,hw3,Bq]
theorem stable_ok (hf1:UO A4 f l0) (hf2:Vw f l0) {l:List Cl} {H:Aa} (h:C6 H p g l) (hm:∀c∈l,c∈l0) (hl:l.length<1000000000) :
  ∃S,DS ltC S∧ES ltC l S∧S.length=l.length∧Sh.f18 (dV p g l.length) (.int .i64 (l.length:Int)) f H=some (.ret (.tup []),B5 H p g S):=by
 unfold Sh.f18
 have rounds:∀(L:List Cl),ES ltC l L→Om ltC 20 L→L.length=l.length→∃S,DS ltC S∧ES ltC l S∧S.length=l.length ∧
   An (fun rec2 vs H1=>Sh.f1o H rec2 (ag vs 0) (ag vs 1) (ag vs 2) (ag vs 3) H1) AM [dV p g l.length,.int .i64 (l.length:Int),f,.int .i64 20] (B5 H p g L)=some (.ret (.tup []),B5 H p g S):=fun L hL1 hL2 hL3=>by
  have key:=DH (G:=fun rec2 vs H1=>Sh.f1o H rec2 (ag vs 0) (ag vs 1) (ag vs 2) (ag vs 3) H1) (σ:=Nat×List Cl)
   (fun s vs H1=>(ES ltC l s.2∧Om ltC s.1 s.2∧s.2.length=l.length∧0<s.1)∧vs=[dV p g l.length,.int .i64 (l.length:Int),f,.int .i64 (s.1:Int)]∧H1=B5 H p g s.2) (fun s=>l.length-s.1) (fun s=>¬s.1<l.length) (fun s vs H1 hI hd=>?_)
   (s:=(20,L)) (vs:=[dV p g l.length,.int .i64 (l.length:Int),f,.int .i64 20]) (H:=B5 H p g L) ⟨⟨hL1,hL2,hL3,Nat.succ_pos _⟩,rfl,rfl⟩ (by dsimp only;omega)
  ·obtain ⟨⟨bs,S⟩,vs,H1,hd,⟨⟨i1,i2,i3,i4⟩,rfl,rfl⟩,rec,hloop⟩:=key
   dsimp only at i1 i2 i3 i4 hd hloop
   have d1:decide ((bs:Int)<(l.length:Int))=false:=decide_eq_false (by omega)
   refine ⟨S,i2.whole (by omega),i1,i3,?_⟩
   rw [hloop]
   unfold Sh.f1o
   simp only [Aj,Ai,AS,AY,Bo,GMb,GMc,d1]
  ·obtain ⟨bs,L⟩:=s
   obtain ⟨⟨i1,i2,i3,i4⟩,rfl,rfl⟩:=hI
   dsimp only at i1 i2 i3 i4 hd ⊢
   have hr:C6 (B5 H p g L) p g L:=C9 h
   have d1:decide ((bs:Int)<(l.length:Int))=true:=decide_eq_true (by omega)
   have hw1:IntKind.i64.wrap (2*(bs:Int))=((2*bs:Nat):Int):=by rw [Al] <;> omega
   obtain ⟨L',q1,q2,q3,q4⟩:∃L',ES ltC L L'∧Om ltC (2*bs) L'∧L'.length=L.length∧∀rec2:LK,Sh.f1o H rec2 (dV p g l.length) (.int .i64 (l.length:Int)) f (.int .i64 (bs:Int)) (B5 H p g L)=rec2 [dV p g l.length,.int .i64 (l.length:Int),f,.int .i64 ((2*bs:Nat):Int)] (B5 H p g L'):=by
    obtain ⟨L',q1,q2,q3,q4⟩:=sym_round (H0:=H) hf2 hr (fun c hc=>hm c ((i1.mem IB).2 hc)) i4 i2 (by omega) (by omega)
    rw [i3]at q4
    refine ⟨L',q1,q2,q3,fun rec2=>?_⟩
    unfold Sh.f1o
    simp only [GMb,GMc,d1,hw1]
    rw [q4 rec2,Bq]
   refine ⟨(2*bs,L'),_,_,by dsimp only;omega,⟨⟨i1.trans q1,q2,by dsimp only;omega,by dsimp only;omega⟩,rfl,rfl⟩,fun rec=>?_⟩
   simp only [Aj,Ai,AS,AY,Bo]
   exact q4 rec
 have key:=DH (G:=fun rec1 vs H1=>Sh.f44 H rec1 (ag vs 0) (ag vs 1) (ag vs 2) (ag vs 3) (ag vs 4) (ag vs 5) H1) (σ:=Nat×List Cl)
  (fun s vs H1=>(Stg ltC 20 l s.1 s.2∧20 ∣ s.1∧s.1≤l.length)∧vs=[dV p g l.length,.int .i64 (l.length:Int),f,.int .i64 20,.int .i64 (s.1:Int),.int .i64 ((s.1+20:Nat):Int)]∧H1=B5 H p g s.2) (fun s=>l.length-s.1) (fun s=>¬s.1+20≤l.length) (fun s vs H1 hI hd=>?_)
  (s:=(0,l)) (vs:=[dV p g l.length,.int .i64 (l.length:Int),f,.int .i64 20,.int .i64 0,.int .i64 20]) (H:=H) ⟨⟨.start _ _,Nat.dvd_zero _,Xd _⟩,rfl,(Ck h).symm⟩ (by dsimp only;omega)
 ·obtain ⟨⟨a,L⟩,vs,H1,hd,⟨⟨hst,hdv,hal⟩,rfl,rfl⟩,rec,hloop⟩:=key
  dsimp only at hst hdv hal hd hloop
  have hr:C6 (B5 H p g L) p g L:=C9 h
  obtain ⟨L',q1,q2⟩:=Wc (n:=l.length-a) hf1 hr hm hst (by decide) hdv (by omega) (by omega) hl
  rw [show a+(l.length-a)=l.length by omega]at q1 q2
  obtain ⟨r1,r2,r3⟩:=q1.all
  obtain ⟨S,s1,s2,s3,s4⟩:=rounds L' r1 r2 r3
  refine ⟨S,s1,s2,s3,?_⟩
  have d1:decide (((a+20:Nat):Int)≤(l.length:Int))=false:=decide_eq_false (by omega)
  rw [hloop]
  unfold Sh.f44
  simp only [Aj,Ai,AS,AY,Bo,B6,Di,GMb,GMc,d1,q2,Bq]
  exact s4
 ·obtain ⟨a,L⟩:=s
  obtain ⟨⟨hst,hdv,hal⟩,rfl,rfl⟩:=hI
  dsimp only at hst hdv hal hd ⊢
  have hr:C6 (B5 H p g L) p g L:=C9 h
  obtain ⟨L',q1,q2⟩:=Wc (n:=20) hf1 hr hm hst (by decide) hdv (by omega) (by omega) hl
  have d1:decide (((a+20:Nat):Int)≤(l.length:Int))=true:=decide_eq_true (by omega)
  have hw3:IntKind.i64.wrap (((a+20:Nat):Int)+20)=((a+20+20:Nat):Int):=by rw [Al] <;> omega
  refine ⟨(a+20,L'),_,_,by dsimp only;omega,⟨⟨q1,(Z0 hdv).2 (Nat.dvd_refl _),by dsimp only;omega⟩,rfl,rfl⟩,fun rec=>?_⟩
  unfold Sh.f44
  simp only [Aj,Ai,AS,AY,Bo,B6,Di,GMb,GMc,d1,q2,hw3,Bq]

end
theorem enLU_inj {l l':List Nat} (h:enL cU l=enL cU l'):l=l':=by
 unfold enL at h
 induction l generalizing l' with
 | nil=>cases l' with
  | nil=>rfl
  | cons y r=>simp at h
 | cons x l ih=>
  cases l' with
  | nil=>simp at h
  | cons y r=>
   simp only [Yo,List.cons.injEq,Ab.int.injEq,true_and,and_true]at h
   rw [ih h.2]
   congr 1
   omega
theorem PO {l m:List Nat} {t t':Tok} (H:Aa) (hl:Lim l) (hm:Lim m) (h1:l.length≤1099511627776) (h2:m.length≤1099511627776) :
  Sh.fk (.sl (enL cU l) t) (.sl (enL cU m) t') H=some (.ret (.int .i64 (Fa (val l:Int) (val m:Int))),H):=by
 have hex:∃p:List Nat×List Nat,enL cU l=enL cU p.1∧enL cU m=enL cU p.2∧Lim p.1∧Lim p.2∧p.1.length≤1099511627776∧p.2.length≤1099511627776:=⟨(l,m),rfl,rfl,hl,hm,h1,h2⟩
 have e1:hex.choose.1=l:=(enLU_inj hex.choose_spec.1).symm
 have e2:hex.choose.2=m:=(enLU_inj hex.choose_spec.2.1).symm
 unfold Sh.fk
 simp only []
 rw [dif_pos hex,e1,e2]
 unfold Fa
 by_cases c1:val l<val m
 ·rw [if_pos c1,if_pos (show (val l:Int)<(val m:Int)by omega)]
 ·by_cases c2:val l=val m
  ·rw [if_neg c1,if_pos c2,if_neg (show ¬(val l:Int)<(val m:Int)by omega),if_pos (show (val l:Int)=(val m:Int)by omega)]
  ·rw [if_neg c1,if_neg c2,if_neg (show ¬(val l:Int)<(val m:Int)by omega),if_neg (show ¬(val l:Int)=(val m:Int)by omega)]
section
variable {H:Aa} {p:Nat} {z:Int}
theorem Ix (hg:H[p]? = some (.cel 0 (AD z))):Ac false 1 (.ptr p 0 0) H=some (.bool (decide (z<0))):=by
 simp only [Ac,A5 hg,Option.bind_some];rfl
theorem ld_lim (hg:H[p]? = some (.cel 0 (AD z))):Ac false 1 (.ptr p 0 1) H=some (.sl (enL cU (A0 z.natAbs)) .no):=by
 simp only [Ac,A5 hg,Option.bind_some];rfl

end
theorem b_cmp {a b:Int} (ha:LB a) (hb:LB b) (H:Aa):Sh.f1n (big a) (big b) H=some (.ret (.int .i64 (Fa a b)),H):=by
 have e1:(H++[Blk.cel 0 (AD a)]++[Blk.cel 0 (AD b)])[H.length]? = some (.cel 0 (AD a)):=by simp
 have e2:(H++[Blk.cel 0 (AD a)]++[Blk.cel 0 (AD b)])[(H++[Blk.cel 0 (AD a)]).length]? = some (.cel 0 (AD b)):=Ar
 have c1:=fun K=>PO (t:=.no) (t':=.no) K (Bh a.natAbs) (Bh b.natAbs) (Xh ha (by decide)) (Xh hb (by decide))
 have c2:=fun K=>PO (t:=.no) (t':=.no) K (Bh b.natAbs) (Bh a.natAbs) (Xh hb (by decide)) (Xh ha (by decide))
 rw [Bp,Bp]at c1 c2
 have fin:∀q:Int,rP H (.int .i64 q) (H++[Blk.cel 0 (AD a)]++[Blk.cel 0 (AD b)])=some (.ret (.int .i64 q),H):=fun q=>by simp only [WG];exact J3
 unfold Sh.f1n
 simp only [GMb,GMc,D6,Ag,WE,Nat.add_zero,Ix e1,Ix e2]
 by_cases h1:a<0
 ·have d1:decide (a<0)=true:=decide_eq_true h1
  by_cases h2:b<0
  ·have d2:decide (b<0)=true:=decide_eq_true h2
   have:Fa (b.natAbs:Int) (a.natAbs:Int)=Fa a b:=by
    unfold Fa
    by_cases q1:a<b
    ·rw [if_pos q1,if_pos (by omega)]
    ·by_cases q2:a=b
     ·rw [if_neg q1,if_neg (by omega),if_pos q2,if_pos (by omega)]
     ·rw [if_neg q1,if_neg (by omega),if_neg q2,if_neg (by omega)]
   simp only [GMb,GMc,d1,d2,Ix e1,Ix e2,ld_lim e1,ld_lim e2,c2,fin,this]
  ·have d2:decide (b<0)=false:=decide_eq_false h2
   have:Fa a b = -1:=by unfold Fa;rw [if_pos (by omega)]
   simp only [GMb,GMc,d1,d2,Ix e1,Ix e2,fin,this]
 ·have d1:decide (a<0)=false:=decide_eq_false h1
  by_cases h2:b<0
  ·have d2:decide (b<0)=true:=decide_eq_true h2
   have:Fa a b=1:=by unfold Fa;rw [if_neg (by omega),if_neg (by omega)]
   simp only [GMb,GMc,d1,Ix e1,Ix e2,d2,fin,this]
  ·have d2:decide (b<0)=false:=decide_eq_false h2
   have:Fa (a.natAbs:Int) (b.natAbs:Int)=Fa a b:=by
    rw [show (a.natAbs:Int)=a by omega,show (b.natAbs:Int)=b by omega]
   simp only [GMb,GMc,d1,Ix e1,Ix e2,d2,ld_lim e1,ld_lim e2,c1,fin,this]
theorem or_two (a b:Int) (H:Aa):Sh.f2j (.sl [[.int .i64 a],[.int .i64 b]] .tight) H=some (.ret (.int .i64 (if a=0 then b else a)),H):=by
 have i0:At 1 (.sl [[.int .i64 a],[.int .i64 b]] .tight) (.int .i64 0)=some (.cptr [.int .i64 a] 0):=rfl
 have i1:At 1 (.sl [[.int .i64 a],[.int .i64 b]] .tight) (.int .i64 1)=some (.cptr [.int .i64 b] 0):=rfl
 have l0:∀x:Ab,Ac false 1 (.cptr [x] 0) H=some x:=fun _=>rfl
 have hl:A2 (.sl [[.int .i64 a],[.int .i64 b]] .tight)=some (.int .i64 2):=rfl
 have w0:IntKind.i64.wrap (0+1)=1:=rfl
 have w1:IntKind.i64.wrap (1+1)=2:=rfl
 have d0:decide ((0:Int)<2)=true:=rfl
 have d1:decide ((1:Int)<2)=true:=rfl
 have d2:decide ((2:Int)<2)=false:=rfl
 unfold Sh.f2j
 simp only [GMb,GMc,hl]
 have key:=Bl (G:=fun rec1 vs H1=>Sh.f63 H rec1 (ag vs 0) (ag vs 1) (ag vs 2) (ag vs 3) H1) (σ:=Nat) (fun i=>i=0∨(i=1∧a=0)∨(i=2∧a=0∧b=0))
  (fun i=>[.int .i64 0,.sl [[.int .i64 a],[.int .i64 b]] .tight,.int .i64 2,.int .i64 (i:Int)]) (fun _=>H) (fun i=>2-i) (fun _=>some (.ret (.int .i64 (if a=0 then b else a)),H)) (fun i rec hi hrec=>?_) 0 (.inl rfl) (by decide)
 ·exact key
 ·unfold Sh.f63
  rcases hi with rfl | ⟨rfl,ha⟩ | ⟨rfl,ha,hb⟩
  ·by_cases h:a=0
   ·have hn:(a != 0)=false:=by simp [h]
    have:=hrec 1 (.inr (.inl ⟨rfl,h⟩)) (by decide)
    simp only [GMb,GMc,Ai,Int.natCast_zero,d0,i0,l0,hn,w0]
    exact this
   ·have hn:(a != 0)=true:=by simp [h]
    simp only [GMb,GMc,Ai,Int.natCast_zero,d0,i0,l0,hn,if_neg h]
  ·by_cases h:b=0
   ·have hn:(b != 0)=false:=by simp [h]
    have:=hrec 2 (.inr (.inr ⟨rfl,ha,h⟩)) (by decide)
    simp only [GMb,GMc,Ai,show ((1:Nat):Int)=1 from rfl,d1,i1,l0,hn,w1]
    exact this
   ·have hn:(b != 0)=true:=by simp [h]
    simp only [GMb,GMc,Ai,show ((1:Nat):Int)=1 from rfl,d1,i1,l0,hn,if_pos ha]
  ·simp only [GMb,GMc,Ai,show ((2:Nat):Int)=2 from rfl,d2,if_pos ha,hb]
theorem p_order {c d:Cl} (hc:c.ok) (hd:d.ok) (H:Aa):Sh.f16 (.agg (cCl c)) (.agg (cCl d)) H=some (.ret (.int .i64 (Iu c d)),H):=by
 have e1:(H++[Blk.cel 0 (cCl c)]++[Blk.cel 0 (cCl d)])[H.length]? = some (.cel 0 (cCl c)):=by simp
 have e2:(H++[Blk.cel 0 (cCl c)]++[Blk.cel 0 (cCl d)])[(H++[Blk.cel 0 (cCl c)]).length]? = some (.cel 0 (cCl d)):=Ar
 have hy:=fun K=>b_cmp (hc.2.lb (by decide)) (hd.2.lb (by decide)) K
 have hx:=fun K=>b_cmp (hc.1.lb (by decide)) (hd.1.lb (by decide)) K
 have hb:∀x y:Int,AQ 1 [.int .i64 x,.int .i64 y]=some (.sl [[.int .i64 x],[.int .i64 y]] .tight):=fun _ _=>rfl
 have fin:∀q:Int,rP H (.int .i64 q) (H++[Blk.cel 0 (cCl c)]++[Blk.cel 0 (cCl d)])=some (.ret (.int .i64 q),H):=fun q=>by simp only [WG];exact J3
 unfold Sh.f16
 simp only [GMb,GMc,boxCl,Ag,WE,Nat.add_zero,S4 e1,S4 e2,S5 e1,S5 e2,B9,hy,hx,Br,and_true,hb,or_two,fin]
 rfl
theorem Um {α:Type} {f:α→List Ab} {sz:Nat} [hf:Sz f sz] [hp:Pl f] {H:Aa} {l:List α} {id b d cap k:Nat} {ex:Bool} (hg:A1 H id 0=some (flat f l)) (hi:b≤id) (hk:k≤l.length):Gy H b (d+3) (.ms id 0 0 k cap sz ex)=some (.sl (enL f (l.take k)) .no):=by
 have h1:¬id<b:=by omega
 have h2:k*sz≤l.length*sz:=X0 _ hk
 have h3:(l.take k).length=k:=by simp;omega
 have h4:=M8 (f:=f) (l.take k)
 rw [h3]at h4
 unfold Gy
 simp only [frz,h1,if_false,hg,Option.bind_some,Yd,WE,Fl,h2,if_true,N3,Gt (N4 (f:=f) (l.take k)),PA (f:=f) (l.take k),h4,Option.map_some,forget,DM,fgt]
theorem Qc (t:Nat):IntKind.u32.wrap (t:Int)=((t%4294967296:Nat):Int):=by
 simp only [IntKind.wrap,IntKind.bits,IntKind.signed]
 simp
theorem N9 (t:Nat):Ae .none .shr (.int .u64 (t:Int)) (.int .u64 32)=some (.int .u64 ((t / 4294967296:Nat):Int)):=by
 show some (Ab.int .u64 ((t:Int).fdiv 4294967296))=_
 rw [Yz _ (by decide)]
 rfl
theorem mul_step {x m c:Nat} (hx:x<4294967296) (hm:m<4294967296) (hc:c<4294967296):c+x*m<18446744073709551616:=by
 have h1:x*m≤4294967295*4294967295:=Nat.mul_le_mul (by omega) (by omega)
 omega
theorem Jm (x:Nat):val [x]=x:=by simp [val]
def Ep (l:List Nat) (m c:Nat):Nat→List Nat×Nat
 | 0=>([],c)
 | i+1=>((Ep l m c i).1++[((Ep l m c i).2+l[i]?.getD 0*m)%4294967296],((Ep l m c i).2+l[i]?.getD 0*m) / 4294967296)
theorem mulS_ok {l:List Nat} {m c:Nat} (hx:Lim l) (hm:m<4294967296) (hc:c<4294967296):∀i,i≤l.length →
  (Ep l m c i).1.length=i∧(Ep l m c i).2<4294967296∧Lim (Ep l m c i).1∧val (Ep l m c i).1+4294967296^i*(Ep l m c i).2=val (l.take i)*m+c
 | 0,_=>⟨rfl,hc,fun x h=>(by cases h),by simp [Ep,val]⟩
 | i+1,hi=>by
  obtain ⟨h1,h2,h3,h4⟩:=mulS_ok hx hm hc i (by omega)
  have hxi:=hx _ (WP (show i<l.length by omega))
  have hg:l[i]?.getD 0=l[i]:=by rw [WB (by omega)];rfl
  have ht:=mul_step hxi hm h2
  simp only [Ep,hg]
  refine ⟨by simp [h1],?_,?_,?_⟩
  ·omega
  ·intro x hxx
   rcases WX.1 hxx with h | h
   ·exact h3 x h
   ·rw [WY.1 h];exact XG _ (by decide)
  ·rw [WM (by omega),BS,BS,h1,WT,X4 (by omega)]
   have hdm:=Yj ((Ep l m c i).2+l[i]*m) 4294967296
   simp only [val,Nat.mul_zero,Nat.add_zero]
   generalize ((Ep l m c i).2+l[i]*m) / 4294967296=q at *
   generalize ((Ep l m c i).2+l[i]*m)%4294967296=r at *
   rw [Nat.pow_succ,Yn,Xy,←XI,show r+4294967296*q=(Ep l m c i).2+l[i]*m by omega,XI,Xz]
   rw [←Xy,h4,Yn]
   omega
theorem q_mul {l:List Nat} {tk:Tok} {m c:Nat} (H:Aa) (hx:Lim l) (hl:l.length≤1099511627776) (hm:m<4294967296) (hc:c<4294967296) :
  Sh.f2d (.sl (enL cU l) tk) (.int .u32 (m:Int)) (.int .u32 (c:Int)) H=some (.ret (.sl (enL cU (A0 (val l*m+c))) .no),H):=by
 unfold Sh.f2d
 have hn:IntKind.i64.wrap ((l.length:Int)+1)=((l.length+1:Nat):Int):=by rw [Al] <;> omega
 have hmk:=FG (f:=cU) (a:=0) (n:=l.length+1) (bytes:=4) (H:=H) (by omega) (by omega)
 simp only [show cU 0=[Ab.int .u32 0] from rfl]at hmk
 have hcc:A9 .u64 (.int .u32 (c:Int))=some (.int .u64 (c:Int)):=by rw [By,Cu (by omega) (by omega)]
 have hcm:A9 .u64 (.int .u32 (m:Int))=some (.int .u64 (m:Int)):=by rw [By,Cu (by omega) (by omega)]
 simp only [GMb,GMc,Av,hn,hmk,hcc]
 refine Cf l.length (fun i=>[.sl (enL cU l) tk,.int .u32 (m:Int),.ms H.length 0 0 (l.length+1) (l.length+1) 1 true,.int .u64 ((Ep l m c i).2:Int),.sl (enL cU l) tk,.int .i64 (l.length:Int),.int .i64 (i:Int)])
  (fun i=>H++[.cel 0 (flat cU ((Ep l m c i).1++List.replicate (l.length+1-i) 0))]) _ (by omega) (fun rec i hi=>?_) (fun rec=>?_)
 ·obtain ⟨h1,h2,h3,h4⟩:=mulS_ok hx hm hc i (by omega)
  have hi':(i:Int)<(l.length:Int):=by omega
  have hxi:=hx _ (WP hi)
  have hg:l[i]?.getD 0=l[i]:=by rw [WB hi];rfl
  have ht:=mul_step hxi hm h2
  have hidx:=Cy (sz:=1) (id:=H.length) (n:=l.length+1) (K:=.i64) (g:=0) (off:=0) (cap:=l.length+1) (ex:=true) (i:=i) (by omega)
  simp only [WE,WQ]at hidx
  obtain ⟨t,htt⟩:∃t,t=(Ep l m c i).2+l[i]*m:=⟨_,rfl⟩
  have hP:l[i]*m≤4294967295*4294967295:=Nat.mul_le_mul (by omega) (by omega)
  have w1:A9 .u64 (.int .u32 (l[i]:Int))=some (.int .u64 (l[i]:Int)):=by rw [By,Cu (by omega) (by omega)]
  have w2:IntKind.u64.wrap ((l[i]:Int)*(m:Int))=((l[i]*m:Nat):Int):=by rw [←Int.natCast_mul,Cu (by omega) (by omega)]
  have w3:IntKind.u64.wrap (((Ep l m c i).2:Int)+((l[i]*m:Nat):Int))=(t:Int):=by rw [Cu] <;> omega
  have w4:A9 .u32 (.int .u64 (t:Int))=some (.int .u32 ((t%4294967296:Nat):Int)):=by rw [By,Qc]
  have w5:Ae .none .shr (.int .u64 (t:Int)) (.int .u64 32)=some (.int .u64 ((t / 4294967296:Nat):Int)):=N9 t
  have w6:IntKind.i64.wrap ((i:Int)+1)=((i+1:Nat):Int):=by rw [Al] <;> omega
  have hst:=DV (f:=cU) (sz:=1) (l:=(Ep l m c i).1++List.replicate (l.length+1-i) 0) (i:=i) (a:=t%4294967296) (v:=.int .u32 ((t%4294967296:Nat):Int)) (H:=H++[Blk.cel 0 (flat cU ((Ep l m c i).1++List.replicate (l.length+1-i) 0))]) (id:=H.length) (A5 Ar) (by simp;omega) rfl
  have hset:((Ep l m c i).1++List.replicate (l.length+1-i) 0).set i (t%4294967296)=(Ep l m c (i+1)).1++List.replicate (l.length+1-(i+1)) 0:=by
   rw [show l.length+1-i=(l.length+1-(i+1))+1 by omega,List.replicate_succ,Xg _ _ (by omega),h1,Xn,List.set_cons_zero]
   simp [Ep,hg,←htt]
  rw [WQ,BT Ar,Bv,hset]at hst
  unfold Sh.f61
  simp only [GMb,GMc,Ai,hi',Ax hi,A7,List.getElem?_cons_zero,w1,hcm,w2,w3,w4,hidx,hst,w5,w6]
  simp only [Ep,hg,←htt]
 ·obtain ⟨h1,h2,h3,h4⟩:=mulS_ok hx hm hc l.length (WF _)
  have hidx:=Cy (sz:=1) (id:=H.length) (n:=l.length+1) (K:=.i64) (g:=0) (off:=0) (cap:=l.length+1) (ex:=true) (i:=l.length) (by omega)
  simp only [WE,WQ]at hidx
  have w4:A9 .u32 (.int .u64 ((Ep l m c l.length).2:Int))=some (.int .u32 ((Ep l m c l.length).2:Int)):=by rw [By,CJ (by omega) (by omega)]
  have hst:=DV (f:=cU) (sz:=1) (l:=(Ep l m c l.length).1++List.replicate (l.length+1-l.length) 0) (i:=l.length) (a:=(Ep l m c l.length).2) (v:=.int .u32 ((Ep l m c l.length).2:Int)) (H:=H++[Blk.cel 0 (flat cU ((Ep l m c l.length).1++List.replicate (l.length+1-l.length) 0))]) (id:=H.length) (A5 Ar) (by simp;omega) rfl
  have hset:((Ep l m c l.length).1++List.replicate (l.length+1-l.length) 0).set l.length (Ep l m c l.length).2=(Ep l m c l.length).1++[(Ep l m c l.length).2]:=by
   rw [show l.length+1-l.length=1 by omega,Xg _ _ (by omega),h1,Xn]
   rfl
  rw [WQ,BT Ar,Bv,hset]at hst
  obtain ⟨o,ho⟩:∃o,o=(Ep l m c l.length).1++[(Ep l m c l.length).2]:=⟨_,rfl⟩
  have hol:o.length=l.length+1:=by rw [ho];simp [h1]
  have hox:Lim o:=by
   intro x hxx
   rw [ho]at hxx
   rcases WX.1 hxx with h | h
   ·exact h3 x h
   ·rw [WY.1 h];exact h2
  have hov:val o=val l*m+c:=by
   rw [ho,BS,h1,Jm]
   rw [Xv]at h4
   exact h4
  rw [←ho]at hst
  have hct:=q_cut (l:=o) (H:=H++[Blk.cel 0 (flat cU o)]) (id:=H.length) Ar (by omega)
  have htk:=I7 hox o.length (WF _)
  rw [Xv,hov]at htk
  have hfa:=Um (f:=cU) (sz:=1) (b:=H.length) (d:=5) (cap:=o.length) (ex:=true) (k:=Gq o o.length) (l:=o) (H:=H++[Blk.cel 0 (flat cU o)]) (id:=H.length) (A5 Ar) (WF _) (OY o _)
  rw [htk]at hfa
  rw [hol]at hct hfa
  unfold Sh.f61
  simp only [GMb,GMc,Ai,XA,Av,w4,hidx,hst,hct,Ct,hfa,Option.map_some]
theorem MY (b:List Nat) (i:Nat):val (b.take (i+1))=val (b.take i)+4294967296^i*b[i]?.getD 0:=by
 rcases Xs i b.length with h | h
 ·rw [WM h,BS,WB h,WT,X4 (by omega)]
  simp [val]
 ·rw [WN (by omega),WN h,WR h]
  simp
theorem IT {b:List Nat} (h:Lim b) (i:Nat):b[i]?.getD 0<4294967296:=by
 rcases Xs i b.length with q | q
 ·rw [WB q];exact h _ (WP q)
 ·rw [WR q];decide
def Ej (a b:List Nat):Nat→List Nat×Nat
 | 0=>([],0)
 | i+1=>((Ej a b i).1++[(a[i]?.getD 0+b[i]?.getD 0+(Ej a b i).2)%4294967296],(a[i]?.getD 0+b[i]?.getD 0+(Ej a b i).2) / 4294967296)
theorem addS_ok {a b:List Nat} (ha:Lim a) (hb:Lim b):∀i,(Ej a b i).1.length=i∧(Ej a b i).2≤1∧Lim (Ej a b i).1∧val (Ej a b i).1+4294967296^i*(Ej a b i).2=val (a.take i)+val (b.take i)
 | 0=>⟨rfl,Xd _,fun x h=>(by cases h),by simp [Ej,val]⟩
 | i+1=>by
  obtain ⟨h1,h2,h3,h4⟩:=addS_ok ha hb i
  have g1:=IT ha i
  have g2:=IT hb i
  simp only [Ej]
  refine ⟨by simp [h1],by omega,?_,?_⟩
  ·intro x hx
   rcases WX.1 hx with h | h
   ·exact h3 x h
   ·rw [WY.1 h];exact XG _ (by decide)
  ·rw [MY,MY,BS,h1]
   have hdm:=Yj (a[i]?.getD 0+b[i]?.getD 0+(Ej a b i).2) 4294967296
   simp only [val,Nat.mul_zero,Nat.add_zero]
   generalize (a[i]?.getD 0+b[i]?.getD 0+(Ej a b i).2) / 4294967296=q at *
   generalize (a[i]?.getD 0+b[i]?.getD 0+(Ej a b i).2)%4294967296=r at *
   rw [Nat.pow_succ,Yn,Xy,←XI,show r+4294967296*q=a[i]?.getD 0+b[i]?.getD 0+(Ej a b i).2 by omega,XI,XI]
   omega
theorem p_add32 {x y c:Nat} (hx:x<4294967296) (hy:y<4294967296) (hc:c≤1) (H:Aa):Sh.f2t (.int .u32 (x:Int)) (.int .u32 (y:Int)) (.int .u32 (c:Int)) H=some (.ret (.tup [.int .u32 (((x+y+c)%4294967296:Nat):Int),.int .u32 (((x+y+c) / 4294967296:Nat):Int)]),H):=by
 have w:∀n:Nat,n<4294967296→A9 .u64 (.int .u32 (n:Int))=some (.int .u64 (n:Int)):=fun n h=>by rw [By,Cu (by omega) (by omega)]
 have w1:IntKind.u64.wrap ((x:Int)+(y:Int))=((x+y:Nat):Int):=by rw [Cu] <;> omega
 have w2:IntKind.u64.wrap (((x+y:Nat):Int)+(c:Int))=((x+y+c:Nat):Int):=by rw [Cu] <;> omega
 have w4:A9 .u32 (.int .u64 ((x+y+c:Nat):Int))=some (.int .u32 (((x+y+c)%4294967296:Nat):Int)):=by rw [By,Qc]
 have w5:=N9 (x+y+c)
 have w6:A9 .u32 (.int .u64 (((x+y+c) / 4294967296:Nat):Int))=some (.int .u32 (((x+y+c) / 4294967296:Nat):Int)):=by rw [By,CJ (by omega) (by omega)]
 unfold Sh.f2t
 simp only [GMb,GMc,w x hx,w y hy,w c (by omega),w1,w2,w4,w5,w6]
theorem add_tail {H:Aa} {o:List Nat} {v:Nat} (hol:o.length<1099511627780) (hox:Lim o) (hov:val o=v) :
  (Sh.f0 (.ms H.length 0 0 o.length o.length 1 true) (H++[Blk.cel 0 (flat cU o)])).bind (fun r=>match r.1 with | .ret x=>rPN H x r.2 | .pan x=>none)=some (.ret (.sl (enL cU (A0 v)) .no),H):=by
 have hct:=q_cut (l:=o) (H:=H++[Blk.cel 0 (flat cU o)]) (id:=H.length) Ar (by omega)
 have htk:=I7 hox o.length (WF _)
 rw [Xv,hov]at htk
 have hk:=OY o o.length
 have hfa:=Um (f:=cU) (sz:=1) (d:=5) (cap:=o.length) (ex:=true) (A5 (Ar (cs:=flat cU o) (B:=H))) (WF H.length) hk
 rw [hct]
 simp only [Option.bind_some,Ct]
 rw [hfa,htk]
 rfl
theorem add_j1 {a b:List Nat} {ta tb:Tok} (H:Aa) (ha:Lim a) (hb:Lim b) (hl:a.length≤1099511627776) (hle:b.length≤a.length) :
  Sh.f6b H (.sl (enL cU a) ta) (.sl (enL cU b) tb) H=some (.ret (.sl (enL cU (A0 (val a+val b))) .no),H):=by
 unfold Sh.f6b
 have hn:IntKind.i64.wrap ((a.length:Int)+1)=((a.length+1:Nat):Int):=by rw [Al] <;> omega
 have hmk:=FG (f:=cU) (a:=0) (n:=a.length+1) (bytes:=4) (H:=H) (by omega) (by omega)
 simp only [show cU 0=[Ab.int .u32 0] from rfl]at hmk
 simp only [GMb,GMc,Av,hn,hmk]
 refine Cf (G:=fun rec2 vs H1=>Sh.f4y H rec2 (ag vs 0) (ag vs 1) (ag vs 2) (ag vs 3) (ag vs 4) (ag vs 5) (ag vs 6) H1) a.length
  (fun i=>[.sl (enL cU a) ta,.sl (enL cU b) tb,.ms H.length 0 0 (a.length+1) (a.length+1) 1 true,.int .u32 ((Ej a b i).2:Int),.sl (enL cU a) ta,.int .i64 (a.length:Int),.int .i64 (i:Int)])
  (fun i=>H++[.cel 0 (flat cU ((Ej a b i).1++List.replicate (a.length+1-i) 0))]) _ (by omega) (fun rec i hi=>?_) (fun rec=>?_)
 ·obtain ⟨h1,h2,h3,h4⟩:=addS_ok ha hb i
  have d1:decide ((i:Int)<(a.length:Int))=true:=decide_eq_true (by omega)
  have hxi:=ha _ (WP hi)
  have hg:a[i]?.getD 0=a[i]:=by rw [WB hi];rfl
  have hidx:=Cy (sz:=1) (id:=H.length) (n:=a.length+1) (K:=.i64) (g:=0) (off:=0) (cap:=a.length+1) (ex:=true) (i:=i) (by omega)
  simp only [WE,WQ]at hidx
  have w6:IntKind.i64.wrap ((i:Int)+1)=((i+1:Nat):Int):=by rw [Al] <;> omega
  have hst:=DV (f:=cU) (sz:=1) (l:=(Ej a b i).1++List.replicate (a.length+1-i) 0) (i:=i) (a:=(a[i]?.getD 0+b[i]?.getD 0+(Ej a b i).2)%4294967296) (v:=.int .u32 (((a[i]?.getD 0+b[i]?.getD 0+(Ej a b i).2)%4294967296:Nat):Int)) (H:=H++[Blk.cel 0 (flat cU ((Ej a b i).1++List.replicate (a.length+1-i) 0))]) (id:=H.length) (A5 Ar) (by simp;omega) rfl
  have hset:((Ej a b i).1++List.replicate (a.length+1-i) 0).set i ((a[i]?.getD 0+b[i]?.getD 0+(Ej a b i).2)%4294967296)=(Ej a b (i+1)).1++List.replicate (a.length+1-(i+1)) 0:=by
   rw [show a.length+1-i=(a.length+1-(i+1))+1 by omega,List.replicate_succ,Xg _ _ (by omega),h1,Xn,List.set_cons_zero]
   simp [Ej]
  rw [WQ,BT Ar,Bv,hset]at hst
  rw [hg]at hst
  have hb32:=IT hb i
  have h32:=fun K=>p_add32 hxi hb32 h2 K
  have hnext:(Ej a b (i+1)).2=(a[i]+b[i]?.getD 0+(Ej a b i).2) / 4294967296:=by simp only [Ej,hg]
  unfold Sh.f4y Sh.f6r
  by_cases hib:i<b.length
  ·have d2:decide ((i:Int)<(b.length:Int))=true:=decide_eq_true (by omega)
   have hgb:b[i]?.getD 0=b[i]:=by rw [WB hib];rfl
   rw [hgb]at h32 hst hnext
   simp only [Aj,Ai,AS,AY,Bo,B6,Di,GMb,GMc,d1,d2,Av,Ax hi,Ax hib,A7,List.getElem?_cons_zero,h32,Cn,Cz,hidx,hst,AK,w6,hnext]
  ·have d2:decide ((i:Int)<(b.length:Int))=false:=decide_eq_false (by omega)
   have hgb:b[i]?.getD 0=0:=by rw [WR (by omega)];rfl
   rw [hgb]at h32 hst hnext
   simp only [Int.natCast_zero]at h32
   simp only [Aj,Ai,AS,AY,Bo,B6,Di,GMb,GMc,d1,d2,Av,Ax hi,A7,List.getElem?_cons_zero,h32,Cn,Cz,hidx,hst,AK,w6,hnext]
 ·obtain ⟨h1,h2,h3,h4⟩:=addS_ok ha hb a.length
  have d1:decide ((a.length:Int)<(a.length:Int))=false:=decide_eq_false (by omega)
  have hidx:=Cy (sz:=1) (id:=H.length) (n:=a.length+1) (K:=.i64) (g:=0) (off:=0) (cap:=a.length+1) (ex:=true) (i:=a.length) (by omega)
  simp only [WE,WQ]at hidx
  have hst:=DV (f:=cU) (sz:=1) (l:=(Ej a b a.length).1++List.replicate (a.length+1-a.length) 0) (i:=a.length) (a:=(Ej a b a.length).2) (v:=.int .u32 ((Ej a b a.length).2:Int)) (H:=H++[Blk.cel 0 (flat cU ((Ej a b a.length).1++List.replicate (a.length+1-a.length) 0))]) (id:=H.length) (A5 Ar) (by simp;omega) rfl
  have hset:((Ej a b a.length).1++List.replicate (a.length+1-a.length) 0).set a.length (Ej a b a.length).2=(Ej a b a.length).1++[(Ej a b a.length).2]:=by
   rw [show a.length+1-a.length=1 by omega,Xg _ _ (by omega),h1,Xn]
   rfl
  rw [WQ,BT Ar,Bv,hset]at hst
  obtain ⟨o,ho⟩:∃o,o=(Ej a b a.length).1++[(Ej a b a.length).2]:=⟨_,rfl⟩
  have hol:o.length=a.length+1:=by rw [ho];simp [h1]
  have hox:Lim o:=by
   intro x hxx
   rw [ho]at hxx
   rcases WX.1 hxx with h | h
   ·exact h3 x h
   ·rw [WY.1 h];omega
  have hov:val o=val a+val b:=by
   rw [ho,BS,h1,Jm]
   rw [Xv,WN hle]at h4
   exact h4
  rw [←ho]at hst
  have ht:=add_tail (H:=H) (o:=o) (by omega) hox hov
  rw [hol]at ht
  unfold Sh.f4y
  simp only [Aj,Ai,AS,AY,Bo,B6,Di,GMb,GMc,d1,Av,hidx,hst,AK]
  have hct:=q_cut (l:=o) (H:=H++[Blk.cel 0 (flat cU o)]) (id:=H.length) Ar (by omega)
  rw [hol]at hct
  rw [hct]at ht ⊢
  simp only [Option.bind_some]at ht
  simp only [GMb,GMc]
  exact ht
theorem p_add {a b:List Nat} {ta tb:Tok} (H:Aa) (ha:Lim a) (hb:Lim b) (h1:a.length≤1099511627776) (h2:b.length≤1099511627776) :
  Sh.f2u (.sl (enL cU a) ta) (.sl (enL cU b) tb) H=some (.ret (.sl (enL cU (A0 (val a+val b))) .no),H):=by
 unfold Sh.f2u
 by_cases h:a.length<b.length
 ·have d1:decide ((a.length:Int)<(b.length:Int))=true:=decide_eq_true (by omega)
  simp only [GMb,GMc,Av,d1]
  rw [add_j1 H hb ha h2 (by omega),Zg]
 ·have d1:decide ((a.length:Int)<(b.length:Int))=false:=decide_eq_false (by omega)
  simp only [GMb,GMc,Av,d1]
  exact add_j1 H ha hb h1 (by omega)
theorem Ji (a b:BitVec 32):Hm .and .u32 (a.toNat:Int) (b.toNat:Int)=some (.int .u32 ((a &&& b).toNat:Int))∧Hm .or .u32 (a.toNat:Int) (b.toNat:Int)=some (.int .u32 ((a ||| b).toNat:Int))∧Hm .xor .u32 (a.toNat:Int) (b.toNat:Int)=some (.int .u32 ((a ^^^ b).toNat:Int)):=by
 have ho:∀v:BitVec 32,BitVec.ofInt 32 (v.toNat:Int)=v:=fun v=>by
  rw [BitVec.ofInt_natCast,BitVec.ofNat_toNat,BitVec.setWidth_eq]
 have hw:∀v:BitVec 32,IntKind.u32.wrap (v.toNat:Int)=(v.toNat:Int):=fun v=>by
  have:=v.isLt
  rw [CJ (by omega) (by omega)]
 refine ⟨?_,?_,?_⟩
 ·show some (Ab.int .u32 (IntKind.u32.wrap (((BitVec.ofInt 32 (a.toNat:Int)) &&& (BitVec.ofInt 32 (b.toNat:Int))).toNat:Int)))=_
  rw [ho,ho,hw]
 ·show some (Ab.int .u32 (IntKind.u32.wrap (((BitVec.ofInt 32 (a.toNat:Int)) ||| (BitVec.ofInt 32 (b.toNat:Int))).toNat:Int)))=_
  rw [ho,ho,hw]
 ·show some (Ab.int .u32 (IntKind.u32.wrap (((BitVec.ofInt 32 (a.toNat:Int)) ^^^ (BitVec.ofInt 32 (b.toNat:Int))).toNat:Int)))=_
  rw [ho,ho,hw]
theorem not_u32 (a:BitVec 32):unA .xor (.int .u32 (a.toNat:Int))=some (.int .u32 ((~~~a).toNat:Int)):=by
 have h:=(Ji (BitVec.allOnes 32) a).2.2
 have e:((BitVec.allOnes 32).toNat:Int)=4294967295:=by decide
 rw [e]at h
 have hn : ~~~a=BitVec.allOnes 32 ^^^ a:=BitVec.allOnes_xor.symm
 rw [hn]
 exact h
theorem msb_u32 (v:BitVec 32):Ae .none .shr (.int .u32 (v.toNat:Int)) (.int .u64 31)=some (.int .u32 ((if v.msb then 1 else 0:Nat):Int)):=by
 have hs:Ae .none .shr (.int .u32 (v.toNat:Int)) (.int .u64 31)=some (.int .u32 (Int.fdiv (v.toNat:Int) (2^(min (31:Int).toNat IntKind.u32.bits)))):=rfl
 have hlt:=v.isLt
 rw [hs,show (2:Int)^(min (31:Int).toNat IntKind.u32.bits)=2147483648 from by decide,Yz _ (by omega)]
 congr 2
 rw [YI]
 by_cases h:2147483648≤v.toNat
 ·have:decide (2^(32-1)≤v.toNat)=true:=decide_eq_true (by omega)
  rw [this]
  simp only [if_true];omega
 ·have:decide (2^(32-1)≤v.toNat)=false:=decide_eq_false (by omega)
  rw [this]
  simp only [WL,if_false];omega
theorem MP (op:BinOp) (hop:CR op=false) (a b:Int) (hb:∀k x y,EY op k x y=Hm op k x y):Ae .none op (.int .u32 a) (.int .u32 b)=Hm op .u32 a b:=by
 show (if CR op then _ else if IntKind.u32=IntKind.u32 then EY op .u32 a b else none)=_
 rw [hop,if_neg (by decide),if_pos rfl,hb]
theorem p_sub32 {x y c:Nat} (hx:x<4294967296) (hy:y<4294967296) (hc:c≤1) (H:Aa):Sh.f1q (.int .u32 (x:Int)) (.int .u32 (y:Int)) (.int .u32 (c:Int)) H =
  some (.ret (.tup [.int .u32 (((x+4294967296-y-c)%4294967296:Nat):Int),.int .u32 ((if x<y+c then 1 else 0:Nat):Int)]),H):=by
 obtain ⟨a,ha⟩:∃a:BitVec 32,a.toNat=x:=⟨BitVec.ofNat 32 x,by rw [Ye];omega⟩
 obtain ⟨b,hb⟩:∃b:BitVec 32,b.toNat=y:=⟨BitVec.ofNat 32 y,by rw [Ye];omega⟩
 obtain ⟨d,hd⟩:∃d:BitVec 32,d.toNat=(x+4294967296-y-c)%4294967296:=⟨BitVec.ofNat 32 ((x+4294967296-y-c)%4294967296),by rw [Ye];omega⟩
 have hwr:∀z:Int,IntKind.u32.wrap z=z%4294967296:=fun z=>by
  simp only [IntKind.wrap,IntKind.bits,IntKind.signed]
  simp
 have w1:IntKind.u32.wrap (IntKind.u32.wrap ((x:Int)-(y:Int))-(c:Int))=(d.toNat:Int):=by
  rw [hwr,hwr,hd]
  omega
 have e1:∀p q:BitVec 32,Ae .none .and (.int .u32 (p.toNat:Int)) (.int .u32 (q.toNat:Int))=some (.int .u32 ((p &&& q).toNat:Int)):=fun p q=>by
  rw [MP .and rfl _ _ (fun _ _ _=>rfl)];exact (Ji p q).1
 have e2:∀p q:BitVec 32,Ae .none .or (.int .u32 (p.toNat:Int)) (.int .u32 (q.toNat:Int))=some (.int .u32 ((p ||| q).toNat:Int)):=fun p q=>by
  rw [MP .or rfl _ _ (fun _ _ _=>rfl)];exact (Ji p q).2.1
 have e3:∀p q:BitVec 32,Ae .none .xor (.int .u32 (p.toNat:Int)) (.int .u32 (q.toNat:Int))=some (.int .u32 ((p ^^^ q).toNat:Int)):=fun p q=>by
  rw [MP .xor rfl _ _ (fun _ _ _=>rfl)];exact (Ji p q).2.2
 have hm:(if ((~~~a &&& b) ||| (~~~(a ^^^ b) &&& d)).msb then 1 else 0:Nat)=if x<y+c then 1 else 0:=by
  rw [BitVec.msb_or,BitVec.msb_and,BitVec.msb_and,BitVec.msb_not,BitVec.msb_not,BitVec.msb_xor,YI a,YI b,YI d,ha,hb,hd]
  have q1:decide (2^(32-1)≤x)=decide (2147483648≤x):=rfl
  have q2:decide (2^(32-1)≤y)=decide (2147483648≤y):=rfl
  have q3:decide (2^(32-1)≤(x+4294967296-y-c)%4294967296)=decide (2147483648≤(x+4294967296-y-c)%4294967296):=rfl
  rw [q1,q2,q3]
  by_cases c1:2147483648≤x <;> by_cases c2:2147483648≤y <;> by_cases c3:2147483648≤(x+4294967296-y-c)%4294967296 <;> simp only [c1,c2,c3,decide_true,decide_false] <;> (first | (rw [if_pos (by decide),if_pos (by omega)]) | (rw [if_neg (by decide),if_neg (by omega)]))
 unfold Sh.f1q
 simp only [GMb,GMc,w1]
 rw [←ha,←hb]
 simp only [GMb,GMc,not_u32,e1,e2,e3,msb_u32,BC]
 rw [hm,hd,ha,hb]
theorem q_rightG {l:List Nat} {H:Aa} {id k:Nat} {ex:Bool} (hg:A1 H id 0=some (flat cU l)) (hk:k≤l.length) (hl:l.length<9223372036854775807):Sh.fa (.ms id 0 0 k l.length 1 ex) H=some (.ret (.bool (decide (k=0)||decide (l[k-1]?.getD 0≠0))),H):=by
 unfold Sh.fa
 cases k with
 | zero=>simp [A2]
 | succ k=>
  have hidx:=Cy (sz:=1) (id:=id) (n:=k+1) (K:=.i64) (g:=0) (off:=0) (cap:=l.length) (ex:=ex) (i:=k) (by omega)
  simp only [WE,WQ]at hidx
  have hld:=Ib (f:=cU) (id:=id) (l:=l) (H:=H) hg (i:=k) (by omega)
  have h0:¬((k+1:Nat):Int)=0:=by omega
  have hw:IntKind.i64.wrap (((k+1:Nat):Int)-1)=(k:Int):=by rw [Al] <;> omega
  have hgk:l[k]? = some l[k]:=WB (by omega)
  simp only [show A2 (.ms id 0 0 (k+1) l.length 1 ex)=some (.int .i64 ((k+1:Nat):Int)) from rfl,GMb,GMc,h0,hw,hidx,hld,Xi,hgk,Option.getD_some,Yq]
  by_cases h:l[k]=0
  ·simp [h]
  ·have:¬(l[k]:Int)=0:=by omega
   simp [h,this]
theorem q_cutG {l:List Nat} {H:Aa} {id:Nat} {ex:Bool} (hg:A1 H id 0=some (flat cU l)) (hl:l.length<1152921504606846976):Sh.f0 (.ms id 0 0 l.length l.length 1 ex) H=some (.ret (.ms id 0 0 (Gq l l.length) l.length 1 ex),H):=by
 unfold Sh.f0
 refine Bl (σ:=Nat) (fun k=>k≤l.length∧Gq l k=Gq l l.length) (fun k=>[.ms id 0 0 k l.length 1 ex]) (fun _=>H) (fun k=>k) (fun _=>some (.ret (.ms id 0 0 (Gq l l.length) l.length 1 ex),H)) (fun k rec hi hrec=>?_) l.length ⟨WF _,rfl⟩ (by omega)
 obtain ⟨hk,ht⟩:=hi
 unfold Sh.f1h
 simp only [Aj,q_rightG hg hk (by omega),GMb,GMc]
 cases k with
 | zero=>simp [←ht,Gq,rKN,fin,forget,DM,fgt]
 | succ k=>
  by_cases h:l[k]?.getD 0=0
  ·have hw:IntKind.i64.wrap (((k+1:Nat):Int)-1)=(k:Int):=by rw [Al] <;> omega
   have hsl:Bn 1 (.ms id 0 0 (k+1) l.length 1 ex) none (some (.int .i64 (k:Int))) none=some (.ms id 0 0 k l.length 1 ex):=by
    have:(0:Int)≤(k:Int):=by omega
    simp only [Bn,Bk,Option.bind_some,this,if_true,Int.toNat_natCast]
    rw [if_pos ⟨trivial,by omega,by omega,by omega⟩]
    simp
   have ht':Gq l k=Gq l l.length:=by rw [←ht];simp [Gq,h]
   have hr:=hrec k ⟨by omega,ht'⟩ (by omega)
   simp only [h,show A2 (.ms id 0 0 (k+1) l.length 1 ex)=some (.int .i64 ((k+1:Nat):Int)) from rfl,GMb,GMc,hw,hsl,Xi,ne_eq,not_true_eq_false,Yq]
   exact hr
  ·have ht':Gq l (k+1)=k+1:=by simp [Gq,h]
   have hr:(decide (k+1=0)||decide (l[k+1-1]?.getD 0≠0))=true:=by simp [h]
   simp only [hr,GMb,GMc,DE,forget,DM,fgt]
   rw [←ht,ht']
theorem clone_u (l:List Nat) (tk:Tok) (H:Aa) (hl:l.length≤1099511627776):Sh.f1d (.sl (enL cU l) tk) H=some (if l=[]then (.ret (.sl [] .tight),H)else (.ret (.ms H.length 0 0 l.length l.length 1 false),H++[.buf 0 (flat cU l) BG 1])):=by
 have hb:AQ 1 []=some (.sl [] .tight):=rfl
 unfold Sh.f1d
 cases l with
 | nil=>
  have ha:Fy BG 1 4 (.sl [] .tight) (.sl (enL cU []) tk) H=some (.sl [] .tight,H):=rfl
  have hn:Sb .eql (.sl (enL cU []) tk)=some .ubool:=rfl
  have hu:∀x:Out,Ak .ubool x x=x:=fun x=>if_pos rfl
  simp only [hn,GMb,GMc,hb,ha]
  exact hu _
 | cons c l=>
  have hn:Sb .eql (.sl (enL cU (c::l)) tk)=some (.bool false):=rfl
  have ha:Fy BG 1 4 (.sl [] .tight) (.sl (enL cU (c::l)) tk) H=some (.ms H.length 0 0 (c::l).length (c::l).length 1 false,H++[.buf 0 (flat cU (c::l)) BG 1]):=by
   have he:BK 1 (.sl (enL cU (c::l)) tk) H=some (enL cU (c::l)):=M2
   have hlen:(enL cU (c::l)).length=(c::l).length:=by simp [enL]
   unfold Fy
   rw [he]
   simp only [Option.bind_some]
   unfold Ho
   rw [hlen,if_neg (by simp)]
   simp only [List.length_nil,WE,List.all_nil,List.nil_append]
   rw [if_pos ⟨trivial,by omega,by omega⟩]
   rfl
  simp only [hn,GMb,GMc,hb,ha]
  rw [if_neg (by simp)]
def dgS (x y c:Nat):Nat:=(x+4294967296-y-c)%4294967296
def bwS (x y c:Nat):Nat:=if x<y+c then 1 else 0
theorem dif_ar1 {P W x y c:Nat} (h:x<y+c) (hy:y+c≤x+W):P*(x+W-y-c)+P*y+P*c=P*x+P*W:=by
 rw [←XI,←XI,←XI,show x+W-y-c+y+c=x+W by omega]
theorem dif_ar2 {P x y c:Nat} (h:y+c≤x):P*(x-y-c)+P*y+P*c=P*x:=by
 rw [←XI,←XI,show x-y-c+y+c=x by omega]
theorem dif_mod {W x y c:Nat} (hx:x<W) (hy:y<W) (hc:c≤1):(x+W-y-c)%W=if x<y+c then x+W-y-c else x-y-c:=by
 by_cases h:x<y+c
 ·rw [if_pos h,X3 (by omega)]
 ·rw [if_neg h,show x+W-y-c=(x-y-c)+W by omega,Nat.add_mod_right,X3 (by omega)]
theorem dif_fin {v1 v2 u P Q W x y c d r:Nat} (h4:v1+v2=u+P*c) (hQ:Q=P*W) (hr:r=if x<y+c then x+W-y-c else x-y-c) (hd:d=if x<y+c then 1 else 0) (hy:y+c≤x+W):v1+P*r+(v2+P*y)=u+P*x+Q*d:=by
 by_cases h:x<y+c
 ·rw [if_pos h]at hr hd
  have:=dif_ar1 (P:=P) h hy
  rw [hr,hd,hQ,WQ];omega
 ·rw [if_neg h]at hr hd
  have:=dif_ar2 (P:=P) (show y+c≤x by omega)
  rw [hr,hd,Nat.mul_zero];omega
theorem dg_eq {x y c:Nat} (hx:x<4294967296) (hy:y<4294967296) (hc:c≤1):dgS x y c=if x<y+c then x+4294967296-y-c else x-y-c:=dif_mod hx hy hc
theorem dg_lt (x y c:Nat):dgS x y c<4294967296:=XG _ (by decide)
theorem bw_le (x y c:Nat):bwS x y c≤1:=by unfold bwS;split <;> omega
def EZ (a b:List Nat):Nat→List Nat×Nat
 | 0=>([],0)
 | i+1=>((EZ a b i).1++[dgS (a[i]?.getD 0) (b[i]?.getD 0) (EZ a b i).2],bwS (a[i]?.getD 0) (b[i]?.getD 0) (EZ a b i).2)
theorem difS_ok {a b:List Nat} (ha:Lim a) (hb:Lim b):∀i,(EZ a b i).1.length=i∧(EZ a b i).2≤1∧Lim (EZ a b i).1∧val (EZ a b i).1+val (b.take i)=val (a.take i)+4294967296^i*(EZ a b i).2
 | 0=>⟨rfl,Xd _,fun x h=>(by cases h),by simp [EZ,val]⟩
 | i+1=>by
  obtain ⟨h1,h2,h3,h4⟩:=difS_ok ha hb i
  have g1:=IT ha i
  have g2:=IT hb i
  simp only [EZ]
  refine ⟨by simp [h1],bw_le _ _ _,?_,?_⟩
  ·intro x hx
   rcases WX.1 hx with h | h
   ·exact h3 x h
   ·rw [WY.1 h];exact dg_lt _ _ _
  ·rw [MY,MY,BS,h1,Jm]
   exact dif_fin h4 (Nat.pow_succ _ _) (dg_eq g1 g2 h2) rfl (Xh (Nat.add_le_add (Nat.le_of_lt_succ g2) h2) (Nat.le_add_left _ _))
theorem fpart_msT {α:Type} {f:α→List Ab} {sz:Nat} [hf:Sz f sz] [hp:Pl f] {H:Aa} {l:List α} {id b d cap k:Nat} {ex:Bool} (hg:A1 H id 0=some (flat f l)) (hi:b≤id) (hk:k≤l.length):EU H b (d+3) (.ms id 0 0 k cap sz ex)=some (.sl (enL f (l.take k)) .no):=by
 have h1:¬id<b:=by omega
 have h2:k*sz≤l.length*sz:=X0 _ hk
 have h3:(l.take k).length=k:=by simp;omega
 have h4:=M8 (f:=f) (l.take k)
 rw [h3]at h4
 unfold EU
 simp only [frz,h1,if_false,hg,Option.bind_some,Yd,WE,Fl,h2,if_true,N3,Gt (N4 (f:=f) (l.take k)),PA (f:=f) (l.take k),h4,Option.map_some,DM,fgt]
theorem FE {l:List Nat} (h:Lim l):val l<4294967296^l.length:=by
 induction l with
 | nil=>simp [val]
 | cons x l ih=>
  have h1:=h x (by simp)
  have h2:=ih fun y hy=>h y (by simp [hy])
  have e:val (x::l)=x+4294967296*val l:=rfl
  rw [e,List.length_cons,Nat.pow_succ,XP _ 4294967296]
  have:4294967296*(val l+1)≤4294967296*4294967296^l.length:=YL _ h2
  rw [XI]at this
  omega
theorem cut_nil (H:Aa) (tk:Tok):Sh.f0 (.sl [] tk) H=some (.ret (.sl [] .no),H):=by
 have hr:Sh.fa (.sl [] tk) H=some (.ret (.bool true),H):=by unfold Sh.fa;simp [A2]
 unfold Sh.f0
 rw [Dy Ez]
 unfold Sh.f1h
 simp only [Aj,GMb,GMc,hr,DE,forget,DM,fgt]
theorem p_sub {a b:List Nat} {ta tb:Tok} (H:Aa) (ha:Lim a) (hb:Lim b) (hl:a.length≤1099511627776) (hle:b.length≤a.length) (hv:val b≤val a) :
  Sh.f2v (.sl (enL cU a) ta) (.sl (enL cU b) tb) H=some (.ret (.tup [.sl (enL cU (A0 (val a-val b))) .no,.bool true]),H):=by
 have hcmp:=fun K=>PO (t:=ta) (t':=tb) K ha hb hl (by omega)
 have hneg:decide (Fa (val a:Int) (val b:Int)<0)=false:=by
  rw [PN];exact decide_eq_false (by omega)
 have hcl:=clone_u a ta H hl
 unfold Sh.f2v
 by_cases h0:a=[]
 ·subst h0
  rw [if_pos rfl]at hcl
  have hb0:b=[]:=WU (by simpa using hle)
  subst hb0
  have hlen:A2 (.sl [] .tight)=some (.int .i64 0):=rfl
  have d0:decide ((0:Int)<0)=false:=rfl
  have e0:A0 (val []-val [])=[]:=CW
  simp only [GMb,GMc,hcmp,hneg,hcl,hlen]
  rw [Dy Ez]
  unfold Sh.f48
  simp only [Aj,Ai,AS,AY,Bo,B6,GMb,GMc,d0,cut_nil,Pj,FW,Da,DK,P8,Gw,Option.map_some,e0]
  rfl
 ·rw [if_neg h0]at hcl
  have hlen:A2 (.ms H.length 0 0 a.length a.length 1 false)=some (.int .i64 (a.length:Int)):=rfl
  simp only [GMb,GMc,hcmp,hneg,hcl,hlen]
  refine Cf (G:=fun rec1 vs H1=>Sh.f48 H rec1 (ag vs 0) (ag vs 1) (ag vs 2) (ag vs 3) (ag vs 4) H1) a.length
   (fun i=>[.sl (enL cU b) tb,.ms H.length 0 0 a.length a.length 1 false,.int .u32 ((EZ a b i).2:Int),.int .i64 (a.length:Int),.int .i64 (i:Int)])
   (fun i=>H++[.buf 0 (flat cU ((EZ a b i).1++a.drop i)) BG 1]) _ (by omega) (fun rec i hi=>?_) (fun rec=>?_)
  ·obtain ⟨h1,h2,h3,h4⟩:=difS_ok ha hb i
   have d1:decide ((i:Int)<(a.length:Int))=true:=decide_eq_true (by omega)
   have hxi:=ha _ (WP hi)
   have hg:a[i]?.getD 0=a[i]:=by rw [WB hi];rfl
   have hidx:=Cy (sz:=1) (id:=H.length) (n:=a.length) (K:=.i64) (g:=0) (off:=0) (cap:=a.length) (ex:=false) (i:=i) hi
   simp only [WE,WQ]at hidx
   have hgc:A1 (H++[Blk.buf 0 (flat cU ((EZ a b i).1++a.drop i)) BG 1]) H.length 0=some (flat cU ((EZ a b i).1++a.drop i)):=by simp [A1]
   have hil:i<((EZ a b i).1++a.drop i).length:=by rw [WJ,h1,WZ];omega
   have hel:((EZ a b i).1++a.drop i)[i]=a[i]:=by
    rw [XC (by omega)]
    simp only [h1,Xn]
    rw [Yv];rfl
   have hld:=Ib (f:=cU) hgc hil
   rw [hel]at hld
   have w6:IntKind.i64.wrap ((i:Int)+1)=((i+1:Nat):Int):=by rw [Al] <;> omega
   have hst:=DV (f:=cU) (sz:=1) (a:=dgS (a[i]?.getD 0) (b[i]?.getD 0) (EZ a b i).2) (v:=.int .u32 (dgS (a[i]?.getD 0) (b[i]?.getD 0) (EZ a b i).2:Int)) hgc hil rfl
   have hset:((EZ a b i).1++a.drop i).set i (dgS (a[i]?.getD 0) (b[i]?.getD 0) (EZ a b i).2)=(EZ a b (i+1)).1++a.drop (i+1):=by
    rw [Xg _ _ (by omega),h1,Xn,Xf hi,List.set_cons_zero]
    simp only [EZ,WG,List.cons_append,List.nil_append]
   have hsc:∀cs,FJ (H++[Blk.buf 0 (flat cU ((EZ a b i).1++a.drop i)) BG 1]) H.length 0 cs=H++[Blk.buf 0 cs BG 1]:=fun cs=>by simp [FJ]
   rw [WQ,hsc,hset]at hst
   rw [hg]at hst
   have hb32:=IT hb i
   have h32:∀K,Sh.f1q (.int .u32 (a[i]:Int)) (.int .u32 ((b[i]?.getD 0:Nat):Int)) (.int .u32 ((EZ a b i).2:Int)) K=some (.ret (.tup [.int .u32 (dgS a[i] (b[i]?.getD 0) (EZ a b i).2:Int),.int .u32 (bwS a[i] (b[i]?.getD 0) (EZ a b i).2:Int)]),K):=fun K=>p_sub32 hxi hb32 h2 K
   have hnext:(EZ a b (i+1)).2=bwS a[i] (b[i]?.getD 0) (EZ a b i).2:=by simp only [EZ,hg]
   unfold Sh.f48 Sh.f6s
   by_cases hib:i<b.length
   ·have d2:decide ((i:Int)<(b.length:Int))=true:=decide_eq_true (by omega)
    have hgb:b[i]?.getD 0=b[i]:=by rw [WB hib];rfl
    rw [hgb]at h32 hst hnext
    simp only [Aj,Ai,AS,AY,Bo,B6,Di,GMb,GMc,d1,d2,Av,Ax hib,A7,List.getElem?_cons_zero,hidx,hld,h32,Cn,Cz,hst,AK,w6,hnext]
   ·have d2:decide ((i:Int)<(b.length:Int))=false:=decide_eq_false (by omega)
    have hgb:b[i]?.getD 0=0:=by rw [WR (by omega)];rfl
    rw [hgb]at h32 hst hnext
    simp only [Int.natCast_zero]at h32
    simp only [Aj,Ai,AS,AY,Bo,B6,Di,GMb,GMc,d1,d2,Av,List.getElem?_cons_zero,hidx,hld,h32,Cn,Cz,hst,AK,w6,hnext]
  ·obtain ⟨h1,h2,h3,h4⟩:=difS_ok ha hb a.length
   have d1:decide ((a.length:Int)<(a.length:Int))=false:=decide_eq_false (by omega)
   rw [Xv,WN hle]at h4
   have hlt:=FE h3
   rw [h1]at hlt
   have hbor:(EZ a b a.length).2=0:=by
    rcases Yc (EZ a b a.length).2 with q | q
    ·exact q
    ·have:(EZ a b a.length).2=1:=by omega
     rw [this,WQ]at h4
     omega
   rw [hbor,Nat.mul_zero]at h4
   rw [Z8,Xl]
   obtain ⟨o,ho⟩:∃o,o=(EZ a b a.length).1:=⟨_,rfl⟩
   rw [←ho]at h1 h3 h4 ⊢
   have hgc:A1 (H++[Blk.buf 0 (flat cU o) BG 1]) H.length 0=some (flat cU o):=by simp [A1]
   have hct:=q_cutG (ex:=false) hgc (by omega)
   have htk:=I7 h3 o.length (WF _)
   rw [Xv,show val o=val a-val b by omega]at htk
   have hfa:=fpart_msT (f:=cU) (sz:=1) (d:=3) (cap:=o.length) (ex:=false) hgc (WF H.length) (OY o o.length)
   rw [htk]at hfa
   rw [h1]at hct hfa
   unfold Sh.f48
   simp only [Aj,Ai,AS,AY,Bo,B6,GMb,GMc,d1,hct,Ct,FW,Da,DK,Gw,hfa,Option.map_some,BC]
theorem Ps (neg:Bool) (n:Nat) (tk:Tok) (H:Aa):Sh.f6 (.bool neg) (.sl (enL cU (A0 n)) tk) H=some (.ret (big (if neg then -(n:Int)else n)),H):=by
 unfold Sh.f6 big
 rw [←big_sgn]
 have hp:=R3 n
 cases neg with
 | false=>simp [AB,Gj,D9,sgn,Cj]
 | true=>
  simp only [Ih,Cg,Option.bind_some,Av,Dh,hp,sgn,X7,alloc_eq (cs:=[.bool false,.sl [] .tight]) rfl,Bm]
  simp [AB,Gj,D9,Cj]
theorem p_minus (z:Int) (H:Aa):Sh.f1c (big z) H=some (.ret (big (-z)),H):=by
 have e:(if (!decide (z<0))=true then -(z.natAbs:Int)else (z.natAbs:Int)) = -z:=by
  by_cases h:z<0
  ·rw [decide_eq_true h,X2,if_neg (by decide)];omega
  ·rw [decide_eq_false h,XL,if_pos rfl];omega
 have ez:∀K,Sh.f6 (.bool (!decide (z<0))) (.sl (enL cU (A0 z.natAbs)) .no) K=some (.ret (big (-z)),K):=fun K=>by
  rw [Ps,e]
 unfold Sh.f1c
 simp [D6,ez]
theorem u64_neg {n:Int} (h0:-9223372036854775808≤n) (h:n<0):unA .neg (.int .u64 (IntKind.u64.wrap n))=some (.int .u64 (n.natAbs:Int)):=by
 have w:IntKind.u64.wrap (0-IntKind.u64.wrap n)=(n.natAbs:Int):=by
  rw [MX (n:=n) (by omega) h,MX (by omega) (by omega)];omega
 rw [show unA .neg (.int .u64 (IntKind.u64.wrap n))=some (.int .u64 (IntKind.u64.wrap (0-IntKind.u64.wrap n))) from rfl,w]
theorem p_norm {l:List Nat} {tk:Tok} (H:Aa) (hx:Lim l) (hl:l.length≤1099511627776):Sh.f2s (.sl (enL cU l) tk) H=some (.ret (.sl (enL cU (A0 (val l))) .no),H):=by
 have hcl:=clone_u l tk H hl
 unfold Sh.f2s
 by_cases h0:l=[]
 ·subst h0
  rw [if_pos rfl,Fw]at hcl
  rw [Fw]
  simp only [GMb,GMc,hcl,cut_nil,Pj,show val []=0 from rfl,CW,Fu,Option.map_some,Fw]
 ·rw [if_neg h0]at hcl
  have hgc:A1 (H++[Blk.buf 0 (flat cU l) BG 1]) H.length 0=some (flat cU l):=by simp [A1]
  have hct:=q_cutG (ex:=false) hgc (by omega)
  have htk:=I7 hx l.length (WF _)
  rw [Xv]at htk
  have hfa:=Um (f:=cU) (sz:=1) (d:=5) (cap:=l.length) (ex:=false) hgc (WF H.length) (OY l l.length)
  rw [htk]at hfa
  simp only [GMb,GMc,hcl,hct,Ct,hfa]
  rfl
theorem p_of (n:Int) (H:Aa) (h0:-9223372036854775808≤n) (h1:n≤9223372036854775807):Sh.f1p (.int .i64 n) H=some (.ret (big n),H):=by
 obtain ⟨u,hu⟩:∃u:Nat,u=n.natAbs:=⟨_,rfl⟩
 have hlim:Lim [u%4294967296,u / 4294967296]:=fun x hx=>by
  simp at hx
  rcases hx with rfl | rfl <;> omega
 have hval:val [u%4294967296,u / 4294967296]=u:=by simp [val];omega
 have ez:(if decide (n<0)=true then -(u:Int)else (u:Int))=n:=by
  by_cases h:n<0 <;> simp [h] <;> omega
 have hnm:=fun H=>p_norm (l:=[u%4294967296,u / 4294967296]) (tk:=.tight) H hlim (by simp)
 rw [hval]at hnm
 have a1:=fun H=>Ps (decide (n<0)) u .no H
 rw [ez]at a1
 have e3:A9 .u32 (.int .u64 (u:Int))=some (.int .u32 ((u%4294967296:Nat):Int)):=by rw [By,Qc]
 have e2:=N9 u
 have e4:A9 .u32 (.int .u64 ((u / 4294967296:Nat):Int))=some (.int .u32 ((u / 4294967296:Nat):Int)):=by rw [By,CJ (by omega) (by omega)]
 have j1:Sh.f6a H (.int .i64 n) (.ptr H.length 0 0) (.int .u64 (u:Int)) (H++[.cel 0 [.bool false,.sl [] .tight]])=some (.ret (big n),H):=by
  unfold Sh.f6a
  simp only [Bf,Option.bind_some,e3,e2,e4,build_2U,hnm,a1,Cs]
  simp
 unfold Sh.f1p
 simp only [alloc_eq (cs:=[.bool false,.sl [] .tight]) rfl,Bm,By,Option.bind_some,AJ,Bf,Aj,AS,AY]
 by_cases h:n<0
 ·have un:=u64_neg h0 h
  rw [←hu]at un
  rw [decide_eq_true h]
  simp only [AN,un,Option.bind_some,Aj,AS,AY]
  exact j1
 ·have w:IntKind.u64.wrap n=(u:Int):=by rw [Cu (by omega) (by omega)];omega
  rw [decide_eq_false h]
  simp only [AI,w,Aj,AS,AY]
  exact j1
theorem Nw {m n:Nat} (h:m≤n):(A0 m).length≤(A0 n).length:=by
 refine Ec ?_
 have:=FE (Bh n)
 rw [Bp]at this
 omega
theorem p_addB {a b:Int} (H:Aa) (ha:LB a) (hb:LB b):Sh.fu (big a) (big b) H=some (.ret (big (a+b)),H):=by
 have sg:∀(neg:Bool) (m:Nat) (z:Int) (tk:Tok) (K:Aa),(if neg then -(m:Int)else (m:Int))=z→Sh.f6 (.bool neg) (.sl (enL cU (A0 m)) tk) K=some (.ret (big z),K):=fun neg m z tk K h=>by rw [Ps,h]
 unfold LB at ha hb
 have hadd:=fun K=>p_add (ta:=.no) (tb:=.no) K (Bh a.natAbs) (Bh b.natAbs) (by omega) (by omega)
 have hcmp:=fun K=>PO (t:=.no) (t':=.no) K (Bh a.natAbs) (Bh b.natAbs) (by omega) (by omega)
 simp only [Bp]at hadd hcmp
 unfold Sh.fu
 by_cases hn:decide (a<0)=decide (b<0)
 ·have ez:(if decide (a<0)=true then -((a.natAbs+b.natAbs:Nat):Int)else ((a.natAbs+b.natAbs:Nat):Int))=a+b:=by
   by_cases h1:a<0
   ·have h2:b<0:=by rw [decide_eq_true h1]at hn;exact of_decide_eq_true hn.symm
    rw [decide_eq_true h1,if_pos rfl];omega
   ·have h2:¬b<0:=by rw [decide_eq_false h1]at hn;exact of_decide_eq_false hn.symm
    rw [decide_eq_false h1,if_neg (by decide)];omega
  have hbb:(decide (a<0) == decide (b<0))=true:=by rw [hn];exact beq_self_eq_true _
  simp only [D6,Bm,WG,List.singleton_append]
  simp [Xy,D6,Jj,hbb,B9,hadd,sg _ _ _ _ _ ez]
 ·have hbb:(decide (a<0) == decide (b<0))=false:=by
   rw [beq_eq_false_iff_ne];exact hn
  by_cases hv:a.natAbs<b.natAbs
  ·have hsub:=fun K=>p_sub (ta:=.no) (tb:=.no) K (Bh b.natAbs) (Bh a.natAbs) (by omega) (Nw (by omega)) (by rw [Bp,Bp];omega)
   simp only [Bp]at hsub
   have hlt:decide (Fa (a.natAbs:Int) (b.natAbs:Int)<0)=true:=by rw [PN];exact decide_eq_true (by omega)
   have ez:(if decide (b<0)=true then -((b.natAbs-a.natAbs:Nat):Int)else ((b.natAbs-a.natAbs:Nat):Int))=a+b:=by
    by_cases h1:b<0
    ·have h2:¬a<0:=fun h=>hn (by rw [decide_eq_true h1,decide_eq_true h])
     rw [decide_eq_true h1,if_pos rfl];omega
    ·have h2:a<0:=by
      rcases Int.lt_or_le a 0 with h | h
      ·exact h
      ·exact (hn (by rw [decide_eq_false h1,decide_eq_false (by omega)])).elim
     rw [decide_eq_false h1,if_neg (by decide)];omega
   have c0:=AN
   simp only [D6,Bm,WG,List.singleton_append]
   unfold Sh.f6c
   simp [Xy,D6,Jj,hbb,B9,hcmp,hlt,hsub,sg _ _ _ _ _ ez,AJ,Cn,Cz]
  ·have hsub:=fun K=>p_sub (ta:=.no) (tb:=.no) K (Bh a.natAbs) (Bh b.natAbs) (by omega) (Nw (by omega)) (by rw [Bp,Bp];omega)
   simp only [Bp]at hsub
   have hlt:decide (Fa (a.natAbs:Int) (b.natAbs:Int)<0)=false:=by rw [PN];exact decide_eq_false (by omega)
   have ez:(if decide (a<0)=true then -((a.natAbs-b.natAbs:Nat):Int)else ((a.natAbs-b.natAbs:Nat):Int))=a+b:=by
    by_cases h1:a<0
    ·have h2:¬b<0:=fun h=>hn (by rw [decide_eq_true h1,decide_eq_true h])
     rw [decide_eq_true h1,if_pos rfl];omega
    ·have h2:b<0:=by
      rcases Int.lt_or_le b 0 with h | h
      ·exact h
      ·exact (hn (by rw [decide_eq_false h1,decide_eq_false (by omega)])).elim
     rw [decide_eq_false h1,if_neg (by decide)];omega
   simp only [D6,Bm,WG,List.singleton_append]
   unfold Sh.f6c
   simp [Xy,D6,Jj,hbb,B9,hcmp,hlt,hsub,sg _ _ _ _ _ ez,AJ,Cn,Cz]
theorem p_subB {a b:Int} (H:Aa) (ha:LB a) (hb:LB b):Sh.f2w (big a) (big b) H=some (.ret (big (a-b)),H):=by
 unfold Sh.f2w
 simp only [D6,Bm,WG,List.singleton_append]
 simp [Xy,D6,B9,p_minus,p_addB _ ha hb.neg,Int.sub_eq_add_neg]
theorem or_u32 {x y:Nat} (hx:x<4294967296) (hy:y<4294967296):Ae .none .or (.int .u32 (x:Int)) (.int .u32 (y:Int))=some (.int .u32 ((x ||| y:Nat):Int)):=by
 have h:=(Ji (BitVec.ofNat 32 x) (BitVec.ofNat 32 y)).2.1
 rw [BitVec.toNat_or,Ye,Ye,X3 hx,X3 hy]at h
 rw [MP .or rfl _ _ (fun _ _ _=>rfl)]
 exact h
theorem shl_one {K:IntKind} {r:Nat} (h:r<32) (hw:K.wrap ((2^r:Nat):Int)=((2^r:Nat):Int)) (hb:32≤K.bits):Ae .none .shl (.int K 1) (.int .i64 (r:Int))=some (.int K ((2^r:Nat):Int)):=by
 show GH .shl K 1 (r:Int)=_
 unfold GH
 rw [if_neg (by omega)]
 have e:(2:Int)^r=((2^r:Nat):Int):=by simp
 simp only [Int.toNat_natCast,X4 (show r≤K.bits by omega),Int.one_mul,e,hw]
theorem Pq {r:Nat} (h:r<32):2^r<4294967296:=by
 have:(2:Nat)^r<2^32:=Zo (by decide) h
 simpa using this
theorem val_repl0 (k:Nat) (l:List Nat):val (List.replicate k 0++l)=4294967296^k*val l:=by
 rw [BS,YE]
 have:val (List.replicate k 0)=0:=by
  induction k with
  | zero=>rfl
  | succ k ih=>rw [List.replicate_succ];show 0+4294967296*val (List.replicate k 0)=0;rw [ih]
 rw [this,WE]
theorem wrapN {n:Nat} (h:n<4294967296):IntKind.u32.wrap (n:Int)=(n:Int)∧IntKind.u64.wrap (n:Int)=(n:Int):=
 ⟨CJ (by omega) (by omega),Cu (by omega) (by omega)⟩
def J4 (m:Nat):List Nat:=List.replicate (m / 32) 0++[2^(m%32),0]
theorem LU (m:Nat):(J4 m).length=m / 32+2:=by simp [J4]
theorem powL_lim (m:Nat):Lim (J4 m):=by
 intro x hx
 rcases WX.1 hx with h | h
 ·rw [(Zw.1 h).2];decide
 ·rcases Xk.1 h with rfl | h
  ·exact Pq (XG _ (by decide))
  ·rw [WY.1 h];decide
theorem powL_val (m:Nat):val (J4 m)=2^m:=by
 unfold J4
 rw [val_repl0]
 have:val [2^(m%32),0]=2^(m%32):=by simp [val]
 rw [this,show (4294967296:Nat)=2^32 from by decide,←Y4,←Nat.pow_add,Yj]
theorem VB (v:Nat):∀k,(List.replicate (k+2) 0).set k v=List.replicate k 0++[v,0]
 | 0=>rfl
 | k+1=>by
  rw [List.replicate_succ,List.set_cons_succ,VB v k,List.replicate_succ,List.cons_append]
theorem powL_set1 (m:Nat):(List.replicate (m / 32+2) 0).set (m / 32) (2^(m%32))=J4 m:=by
 exact VB _ _
theorem powL_set2 (m:Nat):(J4 m).set (m / 32+1) 0=J4 m:=by
 unfold J4
 rw [Xg _ _ (by simp)]
 simp
theorem p_shl1 {m:Nat} (hm:m≤10000) (H:Aa):Sh.f30 (.sl (enL cU [1]) .tight) (.int .i64 (m:Int)) H=some (.ret (.sl (enL cU (A0 (2^m))) .no),H):=by
 have f1:decide ((m:Int)≥0)=true:=decide_eq_true (by omega)
 have f2:decide ((m:Int)≤10000)=true:=decide_eq_true (by omega)
 have hr:m%32<32:=XG _ (by decide)
 have hq:Ae .none .quo (.int .i64 (m:Int)) (.int .i64 32)=some (.int .i64 ((m / 32:Nat):Int)):=by
  show some (Ab.int .i64 (IntKind.i64.wrap (((m / 32:Nat):Int))))=_
  rw [Al (by omega) (by omega)]
 have hrm:Ae .none .rem (.int .i64 (m:Int)) (.int .i64 32)=some (.int .i64 ((m%32:Nat):Int)):=rfl
 have w1:IntKind.i64.wrap (((1:Nat):Int)+((m / 32:Nat):Int))=((m / 32+1:Nat):Int):=by rw [Al] <;> omega
 have w2:IntKind.i64.wrap (((m / 32+1:Nat):Int)+1)=((m / 32+2:Nat):Int):=by rw [Al] <;> omega
 have w3:IntKind.i64.wrap (((0:Nat):Int)+((m / 32:Nat):Int))=((m / 32:Nat):Int):=by rw [Al] <;> omega
 have w4:IntKind.i64.wrap (((m / 32:Nat):Int)+1)=((m / 32+1:Nat):Int):=by rw [Al] <;> omega
 have w5:IntKind.i64.wrap (((0:Nat):Int)+1)=((1:Nat):Int):=rfl
 have hmk:=FG (f:=cU) (a:=0) (n:=m / 32+2) (bytes:=4) (H:=H) (by omega) (by omega)
 simp only [show cU 0=[Ab.int .u32 0] from rfl]at hmk
 have hlen1:(enL cU [1]).length=1:=rfl
 have hfit:∀K,Sh.f2z (.int .i64 (m:Int)) K=some (.ret (.bool true),K):=fun K=>by
  unfold Sh.f2z
  simp only [GMb,GMc,f1,f2]
 have d0:decide (((0:Nat):Int)<((1:Nat):Int))=true:=rfl
 have d1:decide (((1:Nat):Int)<((1:Nat):Int))=false:=rfl
 have ix0:At 1 (.sl (enL cU [1]) .tight) (.int .i64 ((0:Nat):Int))=some (.cptr [.int .u32 1] 0):=rfl
 have ld0:∀K,Ac false 1 (.cptr [.int .u32 1] 0) K=some (.int .u32 1):=fun _=>rfl
 have lsl:A2 (.sl (enL cU [1]) .tight)=some (.int .i64 ((1:Nat):Int)):=rfl
 have hlt:=Pq hr
 have s1:=shl_one (K:=.u32) hr (wrapN hlt).1 (by decide)
 have s2:=shl_one (K:=.u64) hr (wrapN hlt).2 (by decide)
 have c1:A9 .u64 (.int .u32 1)=some (.int .u64 1):=rfl
 have sh:Ae .none .shr (.int .u64 ((2^(m%32):Nat):Int)) (.int .u64 32)=some (.int .u64 0):=by
  rw [N9,XX (Pq hr)];rfl
 have c2:A9 .u32 (.int .u64 0)=some (.int .u32 0):=rfl
 have o1:=or_u32 (x:=0) (y:=2^(m%32)) (by decide) (Pq hr)
 rw [Nat.zero_or]at o1
 have o2:Ae .none .or (.int .u32 ((0:Nat):Int)) (.int .u32 0)=some (.int .u32 ((0:Nat):Int)):=or_u32 (x:=0) (y:=0) (by decide) (by decide)
 have hidx:=Cy (sz:=1) (id:=H.length) (n:=m / 32+2) (K:=.i64) (g:=0) (off:=0) (cap:=m / 32+2) (ex:=true) (i:=m / 32) (by omega)
 have hidx2:=Cy (sz:=1) (id:=H.length) (n:=m / 32+2) (K:=.i64) (g:=0) (off:=0) (cap:=m / 32+2) (ex:=true) (i:=m / 32+1) (by omega)
 simp only [WE,WQ]at hidx hidx2
 have g1:A1 (H++[Blk.cel 0 (flat cU (List.replicate (m / 32+2) 0))]) H.length 0=some (flat cU (List.replicate (m / 32+2) 0)):=A5 Ar
 have g2:A1 (H++[Blk.cel 0 (flat cU (J4 m))]) H.length 0=some (flat cU (J4 m)):=A5 Ar
 have ld1:Ac false 1 (.ptr H.length 0 (m / 32)) (H++[Blk.cel 0 (flat cU (List.replicate (m / 32+2) 0))])=some (.int .u32 ((0:Nat):Int)):=by
  rw [Ib g1 (by simp),List.getElem_replicate];rfl
 have ld2:Ac false 1 (.ptr H.length 0 (m / 32+1)) (H++[Blk.cel 0 (flat cU (J4 m))])=some (.int .u32 ((0:Nat):Int)):=by
  have hi:m / 32+1<(J4 m).length:=by rw [LU];omega
  have:(J4 m)[m / 32+1]=0:=by simp [J4,XC]
  rw [Ib g2 hi,this];rfl
 have st1:=DV (f:=cU) (sz:=1) (i:=m / 32) (a:=2^(m%32)) (v:=.int .u32 ((2^(m%32):Nat):Int)) g1 (by simp) rfl
 rw [WQ,BT Ar,Bv,powL_set1]at st1
 have st2:=DV (f:=cU) (sz:=1) (i:=m / 32+1) (a:=0) (v:=.int .u32 ((0:Nat):Int)) g2 (by rw [LU];omega) rfl
 rw [WQ,BT Ar,Bv,powL_set2]at st2
 have ht:=add_tail (H:=H) (o:=J4 m) (by rw [LU];omega) (powL_lim m) (powL_val m)
 have hct:=q_cut (l:=J4 m) (H:=H++[Blk.cel 0 (flat cU (J4 m))]) (id:=H.length) Ar (by rw [LU];omega)
 rw [LU]at ht hct
 rw [hct]at ht
 simp only [Option.bind_some]at ht
 unfold Sh.f30
 simp only [hfit,GMb,GMc,Ip,X2,lsl,hq,w1,w2,hmk]
 refine Cf (G:=fun rec1 vs H1=>Sh.f4z H rec1 (ag vs 0) (ag vs 1) (ag vs 2) (ag vs 3) (ag vs 4) H1) 1
  (fun i=>[.int .i64 (m:Int),.ms H.length 0 0 (m / 32+2) (m / 32+2) 1 true,.sl (enL cU [1]) .tight,.int .i64 ((1:Nat):Int),.int .i64 (i:Int)])
  (fun i=>H++[.cel 0 (flat cU (if i=0 then List.replicate (m / 32+2) 0 else J4 m))]) _ (by decide) (fun rec i hi=>?_) (fun rec=>?_)
 ·have hi0:i=0:=by omega
  subst hi0
  unfold Sh.f4z
  simp only [if_true,if_neg (show ¬(0+1=0)by decide),Aj,Ai,AS,AY,Bo,B6,GMb,GMc,d0,ix0,ld0,hq,w3,hidx,ld1,hrm,s1,o1,st1,AK,w4,hidx2,ld2,c1,s2,sh,c2,o2,st2,w5,B9]
 ·unfold Sh.f4z
  simp only [if_neg (show ¬(1=0)by decide),Aj,Ai,AS,AY,Bo,B6,GMb,GMc,d1,hct]
  exact ht
set_option maxRecDepth 8000
theorem p_right (l:List Nat) (tk:Tok) (H:Aa) (hl:l.length≤1099511627776):Sh.fa (.sl (enL cU l) tk) H=some (.ret (.bool (F5 l)),H):=by
 unfold Sh.fa
 rcases F3 l with rfl | ⟨l',x,rfl⟩
 ·simp [F5]
 ·simp only [WJ,List.length_singleton]at hl
  have h1:l'.length<(l'++[x]).length:=by simp
  have h3:IntKind.i64.wrap ((((l'++[x]).length:Nat):Int)-1)=(l'.length:Int):=by rw [Al] <;> simp <;> omega
  have hne:((((l'++[x]).length:Nat):Int) == 0)=false:=by simp;omega
  have hb:((x:Int) != 0)=(x != 0):=by rw [WW];simp
  simp only [Av,Option.bind_some,DR,hne,Mx,DQ,h3,Ax h1,A7,List.getElem?_cons_zero,XC (WF _),Xn,List.getElem_cons_zero,Hn,BW,Pk,hb]
  simp [F5]
theorem T7 (neg:Bool) (l:List Nat) (tk:Tok) (H:Aa) (hl:l.length≤549755813888):Sh.f1m (.agg [.bool neg,.sl (enL cU l) tk]) H=some (.ret (.bool (Fd neg l)),H):=by
 unfold Sh.f1m Fd
 have hq:=fun H=>p_right l tk H (by omega)
 cases hr:F5 l with
 | false=>simp [BQ,hq,hr]
 | true=>
  cases neg with
  | false=>simp [BQ,hq,hr]
  | true=>cases l <;> simp [BQ,hq,hr] <;> omega
theorem p_pow {m:Nat} (hm:m≤10000) (H:Aa):Sh.f31 (.int .i64 (m:Int)) H=some (.ret (big (2^m)),H):=by
 have hs:∀K,Sh.f6 (.bool false) (.sl (enL cU (A0 (2^m))) .no) K=some (.ret (big (2^m)),K):=fun K=>by
  rw [Ps]
  have:(if false=true then -((2^m:Nat):Int)else ((2^m:Nat):Int))=2^m:=by simp
  rw [this]
 have hb:AQ 1 [.int .u32 1]=some (.sl (enL cU [1]) .tight):=rfl
 have h1:=fun K=>p_shl1 hm K
 unfold Sh.f31
 simp only [alloc_eq (cs:=[.bool false,.sl [] .tight]) rfl,GMb,GMc,hb,h1,hs]
 simp
def blN (n:Nat):Nat:=if n=0 then 0 else n.log2+1
theorem Im {n k:Nat}:blN n≤k↔n<2^k:=by
 unfold blN
 by_cases h:n=0
 ·have:0<2^k:=Yx (by decide)
  rw [if_pos h];omega
 ·rw [if_neg h,←Nat.log2_lt h];omega
theorem blN_div {n j:Nat} (h:2^j≤n):blN n=blN (n / 2^j)+j:=by
 have hp:0<2^j:=Yx (by decide)
 refine Nat.le_antisymm (Im.2 ?_) ?_
 ·have:=Im.1 (WF (blN (n / 2^j)))
  rw [Nat.pow_add]
  exact (XV hp).1 this
 ·have h1:=Im.1 (WF (blN n))
  have h2:j<blN n:=(Nat.pow_lt_pow_iff_right (by decide:1<2)).1 (X6 h h1)
  have h3:blN (n / 2^j)≤blN n-j:=Im.2 ((XV hp).2 (by rw [←Nat.pow_add,Nat.sub_add_cancel (by omega)];exact h1))
  omega
theorem len_tab:∀x,x<256→(([0,1,2,2,3,3,3,3,4,4,4,4,4,4,4,4,5,5,5,5,5,5,5,5,5,5,5,5,5,5,5,5,6,6,6,6,6,6,6,6,6,6,6,6,6,6,6,6,6,6,6,6,6,6,6,6,6,6,6,6,6,6,6,6,7,7,7,7,7,7,7,7,7,7,7,7,7,7,7,7,7,7,7,7,7,7,7,7,7,7,7,7,7,7,7,7,7,7,7,7,7,7,7,7,7,7,7,7,7,7,7,7,7,7,7,7,7,7,7,7,7,7,7,7,7,7,7,7,8,8,8,8,8,8,8,8,8,8,8,8,8,8,8,8,8,8,8,8,8,8,8,8,8,8,8,8,8,8,8,8,8,8,8,8,8,8,8,8,8,8,8,8,8,8,8,8,8,8,8,8,8,8,8,8,8,8,8,8,8,8,8,8,8,8,8,8,8,8,8,8,8,8,8,8,8,8,8,8,8,8,8,8,8,8,8,8,8,8,8,8,8,8,8,8,8,8,8,8,8,8,8,8,8,8,8,8,8,8,8,8,8,8,8,8,8,8,8,8,8,8,8,8,8,8,8,8]:List UInt8)[x]?).map UInt8.toNat=some (blN x):=by decide +kernel
theorem len_idx {x:Nat} (h:x<256):Eg (.str [0,1,2,2,3,3,3,3,4,4,4,4,4,4,4,4,5,5,5,5,5,5,5,5,5,5,5,5,5,5,5,5,6,6,6,6,6,6,6,6,6,6,6,6,6,6,6,6,6,6,6,6,6,6,6,6,6,6,6,6,6,6,6,6,7,7,7,7,7,7,7,7,7,7,7,7,7,7,7,7,7,7,7,7,7,7,7,7,7,7,7,7,7,7,7,7,7,7,7,7,7,7,7,7,7,7,7,7,7,7,7,7,7,7,7,7,7,7,7,7,7,7,7,7,7,7,7,7,8,8,8,8,8,8,8,8,8,8,8,8,8,8,8,8,8,8,8,8,8,8,8,8,8,8,8,8,8,8,8,8,8,8,8,8,8,8,8,8,8,8,8,8,8,8,8,8,8,8,8,8,8,8,8,8,8,8,8,8,8,8,8,8,8,8,8,8,8,8,8,8,8,8,8,8,8,8,8,8,8,8,8,8,8,8,8,8,8,8,8,8,8,8,8,8,8,8,8,8,8,8,8,8,8,8,8,8,8,8,8,8,8,8,8,8,8,8,8,8,8,8,8,8,8,8,8,8]) (.int .u8 (x:Int))=some (.int .u8 (blN x:Int)):=by
 have:=len_tab x h
 obtain ⟨b,h1,h2⟩:=Option.map_eq_some_iff.1 this
 unfold Eg
 simp only []
 rw [if_pos (Zx x),Int.toNat_natCast,h1,Option.map_some,h2]
theorem len_j2 {x n:Nat} (hx:x<256) (hn:n≤24) (H:Aa):Sh.f6d H (.int .u32 (x:Int)) (.int .i64 (n:Int)) H=some (.ret (.int .i64 ((n+blN x:Nat):Int)),H):=by
 have hb:blN x≤8:=Im.2 hx
 have c1:A9 .u8 (.int .u32 (x:Int))=some (.int .u8 (x:Int)):=by rw [By,Sr (by omega) (by omega)]
 have c2:A9 .i64 (.int .u8 (blN x:Int))=some (.int .i64 (blN x:Int)):=by rw [By,Al (by omega) (by omega)]
 have w:IntKind.i64.wrap ((n:Int)+(blN x:Int))=((n+blN x:Nat):Int):=by rw [Al] <;> omega
 unfold Sh.f6d
 simp only [c1,Option.bind_some]
 rw [len_idx hx]
 simp only [c2,GMb,GMc,w]
theorem shr_u32 (x k:Nat) (hk:k≤32):Ae .none .shr (.int .u32 (x:Int)) (.int .u64 (k:Int))=some (.int .u32 ((x / 2^k:Nat):Int)):=by
 show GH .shr .u32 (x:Int) (k:Int)=_
 unfold GH
 rw [if_neg (by omega)]
 simp only [Int.toNat_natCast]
 rw [show min k IntKind.u32.bits=k from X4 hk,Yz _ (Int.le_of_lt (Zr (by decide)))]
 have:((2:Int)^k)=((2^k:Nat):Int):=by simp
 rw [this]
 rfl
theorem len_j1 {x n:Nat} (hx:x<65536) (hn:n≤16) (H:Aa):Sh.f6e H (.int .u32 (x:Int)) (.int .i64 (n:Int)) H=some (.ret (.int .i64 ((n+blN x:Nat):Int)),H):=by
 unfold Sh.f6e
 by_cases h:256≤x
 ·have d:decide ((x:Int)≥256)=true:=decide_eq_true (by omega)
  have s:=shr_u32 x 8 (by decide)
  have w:IntKind.i64.wrap ((n:Int)+8)=((n+8:Nat):Int):=by rw [Al] <;> omega
  have e:=blN_div (n:=x) (j:=8) h
  simp only [show ((8:Nat):Int)=8 from rfl]at s
  simp only [AJ,GMb,GMc,d,s,w]
  rw [len_j2 (by omega) (by omega),e,show n+8+blN (x / 2^8)=n+(blN (x / 2^8)+8)by omega]
 ·have d:decide ((x:Int)≥256)=false:=decide_eq_false (by omega)
  simp only [AJ,GMb,GMc,d]
  exact len_j2 (by omega) (by omega) H
theorem p_len32 {x:Nat} (hx:x<4294967296) (H:Aa):Sh.f2x (.int .u32 (x:Int)) H=some (.ret (.int .i64 (blN x:Int)),H):=by
 unfold Sh.f2x
 by_cases h:65536≤x
 ·have d:decide ((x:Int)≥65536)=true:=decide_eq_true (by omega)
  have s:=shr_u32 x 16 (by decide)
  have e:=blN_div (n:=x) (j:=16) h
  simp only [show ((16:Nat):Int)=16 from rfl]at s
  have:=len_j1 (x:=x / 2^16) (n:=16) (by omega) (by omega) H
  simp only [show ((16:Nat):Int)=16 from rfl]at this
  simp only [AJ,GMb,GMc,d,s]
  rw [this,e,Zg]
 ·have d:decide ((x:Int)≥65536)=false:=decide_eq_false (by omega)
  have:=len_j1 (x:=x) (n:=0) (by omega) (by omega) H
  simp only [Int.natCast_zero,WE]at this
  simp only [AJ,GMb,GMc,d]
  exact this
theorem Jw {H:Aa} {p o:Nat} {cs:List Ab} {v:Ab} (h:H[p]? = some (.cel 0 cs)) (hv:v.isScal=true) (ho:o<cs.length):Ah 1 (.ptr p 0 o) v H=some (H.set p (.cel 0 (cs.set o v))):=by
 have hc:v.acells=some [v]:=by cases v <;> first | rfl | (simp [Ab.isScal]at hv)
 simp only [Ah,A5 h,BC,hc,List.length_singleton]
 rw [if_pos ⟨trivial,by omega⟩,BT h,show D9 cs o 1 [v]=cs.set o v from by rw [Y6,if_pos ho];simp [D9]]
theorem Qj {H:Aa} {p sz:Nat} {cs ws:List Ab} (h:H[p]? = some (.cel 0 cs)) (hl:cs.length=sz) (hl2:ws.length=sz) (hs:ws.all Ab.isScal=true):Ah sz (.ptr p 0 0) (.agg ws) H=some (H.set p (.cel 0 ws)):=by
 simp only [Ah,A5 h,BC,Cj hs,hl,hl2,WE,WF,and_self,if_true,FP hl,BT h]
theorem Q5 {H:Aa} {p sz:Nat} {cs:List Ab} (h:H[p]? = some (.cel 0 cs)) (hl:cs.length=sz):Ac true sz (.ptr p 0 0) H=some (.agg cs):=by
 simp only [Ac,A5 h,BC,if_true,Yd,hl,WE,WF]
 rw [WN (YQ hl)]
theorem C5 {H:Aa} {p o sz:Nat} {cs:List Ab} (h:H[p]? = some (.cel 0 cs)):Ac false sz (.ptr p 0 o) H=cs[o]? := by
 simp only [Ac,A5 h,BC];rfl
def UX:Ab→Bool
 | .agg cs=>cs.all HP
 | v=>HP v
theorem plnT_frz {v:Ab} {H:Aa} {n d:Nat} (h:UX v=true):frz H n (d+3) v=some v:=by
 cases v with
 | agg cs=>
  have h':cs.all HP=true:=h
  simp only [frz,Gt h',Option.map_some]
 | _=>exact plnC_frz (d:=d+2) h
theorem VP {H:Aa} {n d:Nat}:∀ {cs:List Ab},cs.all UX=true→FA H n (d+4) cs=some cs
 | [],_=>by simp [FA]
 | c::cs,h=>by
  simp only [List.all_cons,WO]at h
  simp [FA,plnT_frz h.1,VP h.2]
theorem rP_aggP {H G:Aa} {cs:List Ab} (h:cs.all HP=true):rP H (.agg cs) (H++G)=some (.ret (.agg cs),H):=by
 rw [rP_eq _ (by simp)]
 simp only [frz,Gt h,Option.map_some]
theorem rP_tupP {H G:Aa} {cs:List Ab} (h:cs.all UX=true):rP H (.tup cs) (H++G)=some (.ret (.tup cs),H):=by
 rw [rP_eq _ (by simp)]
 simp only [frz,VP h,Option.map_some]
theorem Qi {g o:Nat} {v:Ab} {cs:List Ab} {G:Aa} (hv:v.isScal=true) (h:o<cs.length):Ah 1 (.ptr 0 g o) v (.cel g cs::G)=some (.cel g (cs.set o v)::G):=by
 have hc:v.acells=some [v]:=by cases v <;> first | rfl | (simp [Ab.isScal]at hv)
 rw [Tf,hc]
 simp only [BC,List.length_singleton]
 rw [if_pos ⟨trivial,by omega⟩,Y6,if_pos h]
 simp [D9]
theorem store_agg {sz g:Nat} {cs ws:List Ab} {G:Aa} (h:cs.length=sz) (h2:ws.length=sz) (h3:ws.all Ab.isScal=true):Ah sz (.ptr 0 g 0) (.agg ws) (.cel g cs::G)=some (.cel g ws::G):=Nb (Cj h3) h h2
theorem nil_ptr {id g o:Nat}:Aq (.ptr id g o)=some (.ptr id g o):=(rfl)
theorem app_app (a b c:Aa):a++b++c=a++(b++c):=WG a b c
theorem len_app (a b:Aa):(a++b).length=a.length+b.length:=WJ
theorem EP (x:Ab) (b:List Ab):(x::b)[0]? = some x:=(rfl)
theorem IU (x:Ab) (b:List Ab) (i:Nat):(x::b)[i+1]? = b[i]? := (rfl)
def Id (x:Nd):List Ab:=[.int .i64 x.k0,.int .i64 x.k1,.int .i64 x.k2,.int .i64 x.k3]
theorem ld_kids (x:Nd) (H:Aa):Ac true 4 (.cptr (cNd x) 1) H=some (.agg (Id x)):=(rfl)
theorem ag_kid (x:Nd) {k:Nat} (hk:k<4) (K:IntKind):Iy false 4 1 (.agg (Id x)) (.int K (k:Int))=some (.int .i64 (x.kid k)):=by
 match k,hk with
 | 0,_=>rfl
 | 1,_=>rfl
 | 2,_=>rfl
 | 3,_=>rfl
theorem Fj (g:Nat) (x:Nd) (G:Aa):Ac true 4 (.ptr 0 g 1) (.cel g (cNd x)::G)=some (.agg (Id x)):=by
 rw [show Ac true 4 (.ptr 0 g 1) (.cel g (cNd x)::G)=if 1+4≤(cNd x).length then some (.agg (((cNd x).drop 1).take 4))else none from by simp only [Ac,IR];rfl]
 rfl
theorem Fs (x:Nd):(cNd x).length=5:=(rfl)
theorem HPa:(((∀(H G:Aa) (a:Bool) (sz k g o:Nat),Ac a sz (.ptr (H.length+k) g o) (H++G)=Ac a sz (.ptr k g o) G) ∧
  (∀(H G:Aa) (a:Bool) (sz g o:Nat),Ac a sz (.ptr H.length g o) (H++G)=Ac a sz (.ptr 0 g o) G)) ∧
  ((∀(b:Blk) (G:Aa) (a:Bool) (sz k g o:Nat),Ac a sz (.ptr (k+1) g o) (b::G)=Ac a sz (.ptr k g o) G) ∧
  (∀(cs:List Ab) (G:Aa) (sz g o:Nat),Ac false sz (.ptr 0 g o) (.cel g cs::G)=cs[o]?) ∧
  (∀(cs:List Ab) (G:Aa) (sz g:Nat),cs.length=sz→Ac true sz (.ptr 0 g 0) (.cel g cs::G)=some (.agg cs)))) ∧
 (((∀(H G:Aa) (v:Ab) (sz k g o:Nat),Ah sz (.ptr (H.length+k) g o) v (H++G)=(Ah sz (.ptr k g o) v G).map (H++·)) ∧
  (∀(H G:Aa) (v:Ab) (sz g o:Nat),Ah sz (.ptr H.length g o) v (H++G)=(Ah sz (.ptr 0 g o) v G).map (H++·))) ∧
  ((∀(b:Blk) (G:Aa) (v:Ab) (sz k g o:Nat),Ah sz (.ptr (k+1) g o) v (b::G)=(Ah sz (.ptr k g o) v G).map (b::·)) ∧
  (∀(cs:List Ab) (G:Aa) (v:Ab) (g o:Nat),v.isScal=true→o<cs.length→Ah 1 (.ptr 0 g o) v (.cel g cs::G)=some (.cel g (cs.set o v)::G)) ∧
  (∀(cs ws:List Ab) (G:Aa) (sz g:Nat),cs.length=sz→ws.length=sz→ws.all Ab.isScal=true→Ah sz (.ptr 0 g 0) (.agg ws) (.cel g cs::G)=some (.cel g ws::G)))) ∧
 ((∀(cs:List Ab) (H:Aa),cs.all Ab.isScal=true→A3 (some cs) H=some (.ptr H.length 0 0,H++[.cel 0 cs])) ∧
  (∀(cs:List Ab) (H:Aa) (sz:Nat),cs.all Ab.isScal=true→cs.length=sz→B2 true sz (.agg cs) H=some (.ptr H.length 0 0,H++[.cel 0 cs]))):=
 ⟨⟨⟨fun _ _ _ _ _ _ _=>load_app,fun _ _ _ _ _ _=>IM⟩,fun _ _ _ _ _ _ _=>load_succ,fun _ _ _ _ _=>Ns,fun _ _ _ _ h=>load_whole h⟩,
  ⟨⟨fun _ _ _ _ _ _ _=>V8,fun _ _ _ _ _ _=>Jv⟩,fun _ _ _ _ _ _ _=>store_succ,fun _ _ _ _ _ h1 h2=>Qi h1 h2,fun _ _ _ _ _ h1 h2 h3=>store_agg h1 h2 h3⟩,
  fun _ _ h=>alloc_eq h,fun _ _ _ h1 h2=>BQ h1 h2⟩
theorem HPc:(((∀(K:IntKind) (n:Int),(Ab.int K n).isScal=true)∧(∀t:Bool,(Ab.bool t).isScal=true)∧(∀s:List UInt8,(Ab.str s).isScal=true)) ∧
  ((∀(es:List (List Ab)) (tk:Tok),(Ab.sl es tk).isScal=true)∧(∀(id g off len cap sz:Nat) (ex:Bool),(Ab.ms id g off len cap sz ex).isScal=true)∧(∀id g off:Nat,(Ab.ptr id g off).isScal=true)) ∧
  (∀id:Nat,(Ab.mp id).isScal=true)∧(∀(f:FuncId) (c:List Ab),(Ab.fn f c).isScal=true)∧(Ab.nilp.isScal=true)∧(Ab.nilmap.isScal=true)∧Ab.nilfn.isScal=true) ∧
 (((∀(K:IntKind) (n:Int),HP (Ab.int K n)=true)∧(∀t:Bool,HP (Ab.bool t)=true)∧(∀s:List UInt8,HP (Ab.str s)=true)) ∧
  ((∀(es:List (List Ab)),HP (Ab.sl es .no)=true)∧(∀(es:List (List Ab)),HP (Ab.sl es .tight)=true)) ∧
  ((∀(K:IntKind) (n:Int),UX (Ab.int K n)=true)∧(∀t:Bool,UX (Ab.bool t)=true)∧(∀s:List UInt8,UX (Ab.str s)=true)) ∧
  ((∀(es:List (List Ab)),UX (Ab.sl es .no)=true)∧(∀(es:List (List Ab)),UX (Ab.sl es .tight)=true))∧(∀cs:List Ab,UX (.agg cs)=cs.all HP)) ∧
 ((∀(H G:Aa) (cs:List Ab),cs.all HP=true→rP H (.agg cs) (H++G)=some (.ret (.agg cs),H)) ∧
  (∀(H G:Aa) (cs:List Ab),cs.all UX=true→rP H (.tup cs) (H++G)=some (.ret (.tup cs),H)) ∧
  (∀(H G:Aa) (t:Bool),rP H (.bool t) (H++G)=some (.ret (.bool t),H)) ∧
  (∀(H G:Aa) (K:IntKind) (n:Int),rP H (.int K n) (H++G)=some (.ret (.int K n),H)) ∧
  (∀(H G:Aa) (s:List UInt8),rP H (.str s) (H++G)=some (.ret (.str s),H))):=
 ⟨⟨⟨fun _ _=>rfl,fun _=>rfl,fun _=>rfl⟩,⟨fun _ _=>rfl,fun _ _ _ _ _ _ _=>rfl,fun _ _ _=>rfl⟩,fun _=>rfl,fun _ _=>rfl,rfl,rfl,rfl⟩,
  ⟨⟨fun _ _=>rfl,fun _=>rfl,fun _=>rfl⟩,⟨fun _=>rfl,fun _=>rfl⟩,⟨fun _ _=>rfl,fun _=>rfl,fun _=>rfl⟩,⟨fun _=>rfl,fun _=>rfl⟩,fun _=>rfl⟩,
  fun _ _ _ h=>rP_aggP h,fun _ _ _ h=>rP_tupP h,fun _ _ _=>EI,fun _ _ _ _=>J3,fun _ _ _=>rP_str⟩
theorem HPd:((∀(H G:Aa) (v:Ab),rPN H v (H++G)=(Gy (H++G) H.length 8 v).map fun v=>(.ret v,H)) ∧
  (∀(H:Aa) (n d:Nat) (vs:List Ab),Gy H n (d+1) (.tup vs)=(HD H n d vs).map .tup) ∧
  (∀(H:Aa) (n d:Nat) (cs:List Ab),Gy H n (d+1) (.agg cs)=(FB H n d cs).map .agg) ∧
  (∀(H:Aa) (n d:Nat) (es:List (List Ab)) (tk:Tok),Gy H n (d+1) (.sl es tk)=some (.sl es .no))) ∧
 ((∀(H:Aa) (n d:Nat),HD H n (d+1) []=some []) ∧
  (∀(H:Aa) (n d:Nat) (v:Ab) (vs:List Ab),HD H n (d+1) (v::vs)=(EU H n d v).bind fun v'=>(HD H n (d+1) vs).map (v'::·)) ∧
  (∀(H:Aa) (n d:Nat),FB H n (d+1) []=some []) ∧
  (∀(H:Aa) (n d:Nat) (v:Ab) (vs:List Ab),FB H n (d+1) (v::vs)=(HE H n d v).bind fun v'=>(FB H n (d+1) vs).map (v'::·))) ∧
 ((∀(H:Aa) (n d:Nat) (cs:List Ab),EU H n (d+1) (.agg cs)=(FB H n d cs).map .agg) ∧
  (∀(H:Aa) (n d:Nat) (K:IntKind) (i:Int),EU H n (d+1) (.int K i)=some (.int K i)) ∧
  (∀(H:Aa) (n d:Nat) (t:Bool),EU H n (d+1) (.bool t)=some (.bool t)) ∧
  (∀(H:Aa) (n d:Nat) (s:List UInt8),EU H n (d+1) (.str s)=some (.str s)) ∧
  (∀(H:Aa) (n d:Nat) (es:List (List Ab)) (tk:Tok),EU H n (d+1) (.sl es tk)=some (.sl es .no))) ∧
 ((∀(H:Aa) (n d:Nat) (K:IntKind) (i:Int),HE H n (d+1) (.int K i)=some (.int K i)) ∧
  (∀(H:Aa) (n d:Nat) (t:Bool),HE H n (d+1) (.bool t)=some (.bool t)) ∧
  (∀(H:Aa) (n d:Nat) (s:List UInt8),HE H n (d+1) (.str s)=some (.str s)) ∧
  (∀(H:Aa) (n d:Nat) (es:List (List Ab)) (tk:Tok),HE H n (d+1) (.sl es tk)=some (.sl es .no))) ∧
 ((∀xs:List (Option Ab),IF xs=(UW xs).map .tup)∧(UW []=some [])∧(∀(x:Option Ab) (xs:List (Option Ab)),UW (x::xs)=x.bind fun v=>(UW xs).map (v::·))) ∧
 ((∀(v:Ab) (vs:List Ab),Az 0 (.tup (v::vs))=some v)∧(∀(v w:Ab) (vs:List Ab),Az 1 (.tup (v::w::vs))=some w)∧(∀(v w u:Ab) (vs:List Ab),Az 2 (.tup (v::w::u::vs))=some u)):=
 ⟨⟨fun _ _ _=>Ct,fun _ _ _ _=>FW,fun _ _ _ _=>fall_agg,fun _ _ _ _ _=>Fu⟩,⟨fun _ _ _=>DK,fun _ _ _ _ _=>Da,fun _ _ _=>JQ,fun _ _ _ _ _=>Ii⟩,
  ⟨fun _ _ _ _=>N1,fun _ _ _ _ _=>N0,fun _ _ _ _=>Gw,fun _ _ _ _=>fpart_str,fun _ _ _ _ _=>P8⟩,⟨fun _ _ _ _ _=>fcell_int,fun _ _ _ _=>OO,fun _ _ _ _=>fcell_str,fun _ _ _ _ _=>PC⟩,
  ⟨fun _=>rfl,rfl,fun _ _=>rfl⟩,fun _ _=>rfl,fun _ _ _=>rfl,fun _ _ _ _=>rfl⟩
theorem HPe:(∀(H:Aa) (j k:Nat),List.length H+j+k=List.length H+(j+k))∧(∀(H0 H:Aa) (v:Ab) (k:Ab→Aa→Out),bK H0 (some (.pan v,H)) k=some (.pan v,H))∧(∀(α β:Type) (a:α) (f:α→β),Option.map f (some a)=some (f a))∧(∀id g o:Nat,Aq (.ptr id g o)=some (.ptr id g o))∧(∀off id g o:Nat,Ad off (.ptr id g o)=some (.ptr id g (o+off))) ∧
 ((∀a b c:Aa,a++b++c=a++(b++c))∧(∀(x:Blk) (b c:Aa),(x::b)++c=x::(b++c))∧(∀b:Aa,([]:Aa)++b=b)∧(∀a b:Aa,(a++b).length=a.length+b.length)∧(∀(x:Blk) (b:Aa),(x::b).length=b.length+1)∧(([]:Aa).length=0)) ∧
 ((∀(x:Ab) (b:List Ab),(x::b).length=b.length+1)∧(([]:List Ab).length=0)∧(∀(x:Ab) (b:List Ab),(x::b)[0]? = some x)∧(∀(x:Ab) (b:List Ab) (i:Nat),(x::b)[i+1]? = b[i]?)) ∧
 ((∀(x y:Ab) (b:List Ab),(x::b).set 0 y=y::b)∧(∀(x y:Ab) (b:List Ab) (i:Nat),(x::b).set (i+1) y=x::b.set i y)∧(∀(p:Ab→Bool) (x:Ab) (b:List Ab),(x::b).all p=(p x&&b.all p))∧(∀p:Ab→Bool,([]:List Ab).all p=true)) ∧
 (∀s:List UInt8,Cr (.str s)=some (.int .i64 (s.length:Int))):=
 ⟨fun _ _ _=>Xy _ _ _,fun _ _ _ _=>rfl,fun _ _ _ _=>rfl,fun _ _ _=>rfl,fun _ _ _ _=>rfl,⟨app_app,fun _ _ _=>rfl,fun _=>rfl,len_app,fun _ _=>rfl,rfl⟩,⟨fun _ _=>rfl,rfl,fun _ _=>rfl,fun _ _ _=>rfl⟩,⟨fun _ _ _=>rfl,fun _ _ _ _=>rfl,fun _ _ _=>rfl,fun _=>rfl⟩,fun _=>rfl⟩
theorem HPz:((∀n:Nat,0+n=n)∧(∀n:Nat,n+0=n)∧(∀p:Prop,(p∧p)=p)∧(∀p:Prop,(p∧True)=p)∧(∀(α:Type) (a:α),(a=a)=True)∧(∀b:Bool,(b&&b)=b)):=
 ⟨WE,Nat.add_zero,and_self,and_true,fun _ a=>eq_self a,Bool.and_self⟩
open Go.Proofs
set_option maxRecDepth 100000
theorem rightB_snoc (l:List Nat) (x:Nat):F5 (l++[x])=(x != 0):=by simp [F5]
theorem p_cutG {l:List Nat} (tk:Tok) (H:Aa) (hx:Lim l) (hl:l.length≤1099511627776):Sh.f0 (.sl (enL cU l) tk) H=some (.ret (.sl (enL cU (A0 (val l))) .no),H):=by
 unfold Sh.f0
 have key:=Bl (G:=fun rec1 vs H1=>Sh.f1h H rec1 (ag vs 0) H1) (σ:=Nat×Tok) (fun s=>s.1≤l.length∧val (l.take s.1)=val l)
  (fun s=>[.sl (enL cU (l.take s.1)) s.2]) (fun _=>H) (fun s=>s.1) (fun _=>some (.ret (.sl (enL cU (A0 (val l))) .no),H)) (fun s rec hi hrec=>?_) (l.length,tk) ⟨WF _,by rw [Xv]⟩ (by dsimp only;omega)
 ·dsimp only at key
  rwa [Xv]at key
 ·obtain ⟨k,t⟩:=s
  dsimp only at hi hrec ⊢
  obtain ⟨h1,h2⟩:=hi
  have hlk:(l.take k).length=k:=by rw [WT];omega
  have hxk:Lim (l.take k):=fun x h=>hx x (XK h)
  have hr:=p_right (l.take k) t H (by omega)
  unfold Sh.f1h
  cases hb:F5 (l.take k)with
  | true=>
   rw [hb]at hr
   have hn:=Ms ((O7 hxk).1 hb)
   rw [h2]at hn
   simp only [Aj,GMb,GMc,hr,X2,DE,forget,DM,fgt]
   rw [←hn]
  | false=>
   rw [hb]at hr
   obtain ⟨m,rfl⟩:∃m,k=m+1:=by
    cases k with
    | zero=>rw [List.take_zero]at hb;cases hb
    | succ m=>exact ⟨m,rfl⟩
   have hm:m<l.length:=by omega
   have hz:l[m]=0:=by
    have:l.take (m+1)=l.take m++[l[m]]:=WM hm
    rw [this,rightB_snoc]at hb
    simpa using hb
   have hv:val (l.take m)=val l:=by
    rw [←h2,WM hm,BS,hz]
    simp [val]
   have hw:IntKind.i64.wrap (((m+1:Nat):Int)-1)=(m:Int):=by rw [Al] <;> omega
   have hsl:∃t',Bn 1 (.sl (enL cU (l.take (m+1))) t) none (some (.int .i64 (m:Int))) none=some (.sl (enL cU (l.take m)) t'):=by
    refine ⟨Ff t 0 m (l.take (m+1)).length false,?_⟩
    have:=slice_to (f:=cU) (sz:=1) (l:=l.take (m+1)) (tk:=t) (K:=.i64) (h:=m) (by omega)
    rw [List.take_take,X4 (by omega)]at this
    exact this
   obtain ⟨t',hsl⟩:=hsl
   simp only [Aj,GMb,GMc,hr,XL,Av,hlk,hw,hsl]
   exact hrec (m,t') ⟨by omega,hv⟩ (Nat.lt_succ_self m)
theorem cmA_res (kn:List Ab→Aa→Out) (x0:Ab) (eb:List (List Ab)) (tb:Tok) (H:Aa) :
  cmA kn x0 (.sl eb tb) H=kn [x0,.sl eb tb,.undef,.ptr H.length 0 0,.ptr (H.length+1) 0 0,.undef,.undef,.undef,.undef,.undef,.undef,.undef,.undef,.undef,.undef,.undef,.undef,.undef,.undef,.undef,.undef,.undef,.undef,.undef,.undef,.undef,.undef,.undef,.undef,.undef,.undef,.undef,.undef,.undef,.undef,.undef,.undef,.undef,.undef] (H++[.cel 0 [.sl eb tb]]++[.cel 0 [.int .i64 0]]):=by
 have hbx:B2 true 1 (.sl eb tb) H=some (.ptr H.length 0 0,H++[.cel 0 [.sl eb tb]]):=by
  unfold B2;simp only [W8,alloc_eq (cs:=[.sl eb tb]) rfl];rfl
 have hal:A3 (some [(.int .i64 0)]) (H++[.cel 0 [.sl eb tb]])=some (.ptr (H++[Blk.cel 0 [.sl eb tb]]).length 0 0,H++[.cel 0 [.sl eb tb]]++[.cel 0 [.int .i64 0]]):=alloc_eq rfl
 have hl:(H++[Blk.cel 0 [.sl eb tb]]).length=H.length+1:=by simp
 unfold cmA
 rw [hbx]
 simp only [Bm]
 rw [hal]
 simp only [Bm,hl]
theorem cmB_res (kn:List Ab→Aa→Out) {la lb:List Nat} (ta tb:Tok) (H:Aa) (xa:Lim la) (xb:Lim lb) (ha:la.length≤1099511627776) (hb:lb.length≤1099511627776) :
  cmB kn (.sl (enL cU la) ta) (.sl (enL cU lb) tb) (.ptr H.length 0 0) (.ptr (H.length+1) 0 0) (H++[.cel 0 [.sl (enL cU lb) tb]]++[.cel 0 [.int .i64 0]]) =
   kn [.sl (enL cU (A0 (val la))) .no,.sl (enL cU lb) tb,.undef,.ptr H.length 0 0,.ptr (H.length+1) 0 0,.undef,.undef,.sl (enL cU la) ta,.sl (enL cU (A0 (val la))) .no,.sl (enL cU lb) tb,.sl (enL cU (A0 (val lb))) .no,.undef,.undef,.undef,.undef,.undef,.undef,.undef,.undef,.undef,.undef,.undef,.undef,.undef,.undef,.undef,.undef,.undef,.undef,.undef,.undef,.undef,.undef,.undef,.undef,.undef,.undef,.undef,.undef] (H++[.cel 0 [.sl (enL cU (A0 (val lb))) .no]]++[.cel 0 [.int .i64 0]]):=by
 have e1:(H++[Blk.cel 0 [.sl (enL cU lb) tb]]++[.cel 0 [.int .i64 0]])[H.length]? = some (.cel 0 [.sl (enL cU lb) tb]):=by simp
 have ld:Ac false 1 (.ptr H.length 0 0) (H++[Blk.cel 0 [.sl (enL cU lb) tb]]++[.cel 0 [.int .i64 0]])=some (.sl (enL cU lb) tb):=by
  simp only [Ac,A5 e1,Option.bind_some];rfl
 have hst:Ah 1 (.ptr H.length 0 0) (.sl (enL cU (A0 (val lb))) .no) (H++[Blk.cel 0 [.sl (enL cU lb) tb]]++[.cel 0 [.int .i64 0]])=some (H++[.cel 0 [.sl (enL cU (A0 (val lb))) .no]]++[.cel 0 [.int .i64 0]]):=by
  rw [Jw e1 rfl (by simp)]
  congr 1
  rw [List.set_append_left _ _ (by simp),Bv]
  rfl
 have c1:=fun K=>p_cutG ta K xa ha
 have c2:=fun K=>p_cutG tb K xb hb
 unfold cmB
 simp only [c1,Br,ld]
 rw [B9 ⟨rfl,trivial⟩]
 simp only [c2,Br,hst,AK,EA]
theorem cmC_res (kn kr:List Ab→Aa→Out) (a b:Nat) (ta tb:Tok) (H:Aa) (ha:(A0 a).length≤1099511627776) (hb:(A0 b).length≤1099511627776) :
  (∃tm:List Ab,tm.length=39∧tm[0]? = some (.sl (enL cU (A0 a)) ta)∧tm[3]? = some (.ptr H.length 0 0)∧tm[4]? = some (.ptr (H.length+1) 0 0) ∧
   cmC kn kr (.sl (enL cU (A0 a)) ta) (.ptr H.length 0 0) (.ptr (H.length+1) 0 0) (H++[.cel 0 [.sl (enL cU (A0 b)) tb]]++[.cel 0 [.int .i64 0]]) =
    if (A0 a).length=(A0 b).length then kn tm (H++[.cel 0 [.sl (enL cU (A0 b)) tb]]++[.cel 0 [.int .i64 0]])
    else kr tm (H++[.cel 0 [.sl (enL cU (A0 b)) tb]]++[.cel 0 [.int .i64 (if (A0 a).length<(A0 b).length then -1 else 1)]])):=by
 have e1:(H++[Blk.cel 0 [.sl (enL cU (A0 b)) tb]]++[.cel 0 [.int .i64 0]])[H.length]? = some (.cel 0 [.sl (enL cU (A0 b)) tb]):=by simp
 have e2:(H++[Blk.cel 0 [.sl (enL cU (A0 b)) tb]]++[.cel 0 [.int .i64 0]])[H.length+1]? = some (.cel 0 [.int .i64 0]):=by simp
 have ld:Ac false 1 (.ptr H.length 0 0) (H++[Blk.cel 0 [.sl (enL cU (A0 b)) tb]]++[.cel 0 [.int .i64 0]])=some (.sl (enL cU (A0 b)) tb):=by
  simp only [Ac,A5 e1,Option.bind_some];rfl
 have hst:∀z:Int,Ah 1 (.ptr (H.length+1) 0 0) (.int .i64 z) (H++[Blk.cel 0 [.sl (enL cU (A0 b)) tb]]++[.cel 0 [.int .i64 0]])=some (H++[.cel 0 [.sl (enL cU (A0 b)) tb]]++[.cel 0 [.int .i64 z]]):=fun z=>by
  rw [Jw e2 rfl (by simp)]
  congr 1
  rw [Xg _ _ (by simp)]
  simp
 unfold cmC
 simp only [Av,Option.bind_some,ld]
 by_cases h:(A0 a).length=(A0 b).length
 ·have hn:Ae .none .neq (.int .i64 ((A0 a).length:Int)) (.int .i64 ((A0 b).length:Int))=some (.bool false):=by
   show some (Ab.bool (((A0 a).length:Int) != ((A0 b).length:Int)))=_
   rw [h];simp
  simp only [hn,if_pos h,Option.bind_some,AI]
  exact ⟨_,rfl,rfl,rfl,rfl,rfl⟩
 ·have hn:Ae .none .neq (.int .i64 ((A0 a).length:Int)) (.int .i64 ((A0 b).length:Int))=some (.bool true):=by
   show some (Ab.bool (((A0 a).length:Int) != ((A0 b).length:Int)))=_
   have:(((A0 a).length:Int) != ((A0 b).length:Int))=true:=by simp;omega
   rw [this]
  simp only [hn,if_neg h,Option.bind_some,AN,Bf]
  by_cases h2:(A0 a).length<(A0 b).length
  ·simp only [decide_eq_true (show ((A0 a).length:Int)<((A0 b).length:Int)by omega),if_pos h2,AN,hst,AK,EA]
   exact ⟨_,rfl,rfl,rfl,rfl,rfl⟩
  ·simp only [decide_eq_false (show ¬((A0 a).length:Int)<((A0 b).length:Int)by omega),if_neg h2,AI,hst,AK,EA]
   exact ⟨_,rfl,rfl,rfl,rfl,rfl⟩
open Go.RowKit
open Go.RowKit Go.Proofs Go.Shelf
attribute [local go_sem] Oper.semAt_some
def GoodC (n:Nat) (za zb:Nat→Nat) (z:Int):Prop:=
 (z=0∧∀j,j<n→za j=zb j)∨∃i,i<n∧za i≠zb i∧(∀j,i<j→j<n→za j=zb j)∧z=if za i<zb i then -1 else 1
def AllEq {n:Nat} (za zb:Nat→Nat) (pre:List (Fin n)):Prop:=∀x∈pre,za x.1=zb x.1
def TopNe {n:Nat} (za zb:Nat→Nat) (pre:List (Fin n)) (z:Int):Prop:=
 ∃x:Fin n,za x.1≠zb x.1∧AllEq za zb pre.dropLast∧pre.getLast? = some x∧z=if za x.1<zb x.1 then -1 else 1
def Laid (B R:Nat) (w1:World) (z:Int) (W:World):Prop:=Below B (w1.setCell ⟨R,0,none⟩ (.int .i64 z)) W∧B+1≤W.heap.size
theorem GB {W:World} {R k:Nat} {v:Value} (h:k≠R):(W.setCell ⟨R,0,none⟩ v).heap[k]? = W.heap[k]? := by
 simp [World.setCell,Yh,h.symm]
theorem J1 {W:World} {R:Nat} {u v:Value} {t:TypeId} (h:W.heap[R]? = some (.cells #[u] t (0,0))):(W.setCell ⟨R,0,none⟩ v).heap[R]? = some (.cells #[v] t (0,0)):=by
 simp [World.setCell,Yh,h]
theorem EH (W:World) (R:Nat) (v:Value):(W.setCell ⟨R,0,none⟩ v).heap.size=W.heap.size:=by simp [World.setCell]
theorem laid_of {B R:Nat} {w1 W:World} {t:TypeId} {z:Int} (h:Below B w1 W) (hR:R<B) (hr:w1.heap[R]? = some (.cells #[.int .i64 0] t (0,0))) (h5:B+1≤W.heap.size):Laid B R w1 z (W.setCell ⟨R,0,none⟩ (.int .i64 z)):=by
 refine ⟨⟨h.os,h.tape,h.output,?_,fun k hk=>?_⟩,by rw [EH];exact h5⟩
 ·rw [EH,EH];exact h.size
 ·by_cases e:k=R
  ·subst e
   rw [J1 ((h.block k hk).trans hr),J1 hr]
  ·rw [GB e,GB e];exact h.block k hk
theorem Wb {B R:Nat} {W:World} {v:Value} (hR:R<B):KeepsFrom B W (W.setCell ⟨R,0,none⟩ v):=
 ⟨by rw [EH];exact WF _,fun k o hB hk _=>by rw [GB (by omega)];exact hk⟩
theorem results_one {P:Program} {fn:Func} {p:Tmp} {ty:TypeId} {d:TypeDesc} (h:fn.results = #[.cell p ty]) (hu:P.underlying ty=some d) (ha:Bx P ty=false) (tmps:Array Value) (w:World) (R:Nat) (v:Value) (hp:tmps.getD p undef=.pointer (some ⟨R,0,none⟩)) (hc:w.cell? ⟨R,0,none⟩=some v) :
  (results fn tmps).run P w=.ok v w:=by
 have hp':tmps[p]?.getD undef=.pointer (some ⟨R,0,none⟩):=by simpa using hp
 simp [results,h,hp',asAddr,Kz hu w _ v hc ha]
theorem cmp_end {fu B R:Nat} {w1 W:World} {Rr:Ending→World→Prop} {z:Int} {t:TypeId} {D:Nat} {ts:Array Value} (hR:R<B) (hB:w1.heap.size=B) (hr:w1.heap[R]? = some (.cells #[.int .i64 0] t (0,0))) (hl:Laid B R w1 z W) (hD:B+1≤D) (hK:W.heap[D]? = some (.deferred (some [])))
  (hp:ts.getD 4 undef=.pointer (some ⟨R,0,none⟩)) (hRr:∀W,Below B (w1.setCell ⟨R,0,none⟩ (.int .i64 z)) W→Rr (.returned (.int .i64 z)) W) :
  bodyPostM Fence.wide fu Tryz.prog Tryz.f156 Rr .ret { tmps:=ts,defers:=[{ target:=.collected D,args:=#[] }] } W:=by
 have hb:Below B (w1.setCell ⟨R,0,none⟩ (.int .i64 z)) (W.putObj D (.deferred none)):=
  hl.1.trans (belowK_b (w:=w1) (n₀:=B) (by omega) W D _ _ (by omega) hK rfl rfl)
 have hh:(W.putObj D (.deferred none)).heap[R]? = some (.cells #[.int .i64 z] t (0,0)):=(hb.block R hR).trans (J1 hr)
 show LeavesInM _ _ _ _ _ _ (_::_) _ _
 refine ⟨by simp,.inl ⟨_,_,rfl,run_takeDeferred hK,?_⟩⟩
 show LeavesIn _ _ _ _ _ _ [] _ _
 exact ⟨_,results_one (p:=4) (ty:=3) (d:=.int .i64) (by kernel_rfl) (by kernel_rfl) (by kernel_rfl) ts _ R (.int .i64 z) hp (by rw [Ba hh];rfl),hRr _ hb⟩
set_option maxRecDepth 100000 in
set_option maxHeartbeats 4000000 in
theorem cmp_tail {fu n:Nat} (hn:3≤fu) {w1:World} {Rr:Ending→World→Prop} (bA R bb ob cb ba oa ca:Nat) (ao bo:Option Addr) (za zb:Nat→Nat) (hreach:n≤1099511627776)
  (hao:0<n→ao=some ⟨ba,oa,none⟩) (hbo:0<n→bo=some ⟨bb,ob,none⟩) (hA:bA<w1.heap.size) (hR:R<w1.heap.size) (hba:ba<w1.heap.size) (hbb:bb<w1.heap.size)
  (hbx:w1.cell? ⟨bA,0,none⟩=some (.slice bo n cb)) (hrx:∃t,w1.heap[R]? = some (.cells #[.int .i64 0] t (0,0))) (hca:∀j,j<n→w1.cell? ⟨ba,oa+j,none⟩=some (.int .u32 (za j:Int))) (hcb:∀j,j<n→w1.cell? ⟨bb,ob+j,none⟩=some (.int .u32 (zb j:Int)))
  (hRr:∀z W,GoodC n za zb z→Below w1.heap.size (w1.setCell ⟨R,0,none⟩ (.int .i64 z)) W→Rr (.returned (.int .i64 z)) W)
  (va:Value) (hva:va=.slice ao n ca) (t1 t2 t5 t6 t7 t8 t9 t10 t11 t12 t13 t14 t15 t16 t17 t18 t19 t20 t21 t22 t23 t24 t25 t26 t27 t28 t29 t30 t31 t32 t33 t34 t35 t36 t37 t38:Value) :
  cdD.wpIn Fence.wide fu Tryz.prog (bodyPostM Fence.wide fu Tryz.prog Tryz.f156 Rr) { tmps:=#[va,t1,t2,.pointer (some ⟨bA,0,none⟩),.pointer (some ⟨R,0,none⟩),t5,t6,t7,t8,t9,t10,t11,t12,t13,t14,t15,t16,t17,t18,t19,t20,t21,t22,t23,t24,t25,t26,t27,t28,t29,t30,t31,t32,t33,t34,t35,t36,t37,t38],defers:=[] } w1:=by
 subst hva
 have h1:1≤fu:=by omega
 have hro:Fence.wide.round=none:=rfl
 have h205:Fence.wide.fn 205:=trivial
 conv in cdD=>whnf
 gi_wp2_with (gi_at_call 205;refine (Tryz.back_in Fence.wide (fu-1) trivial hro _ _ _ _).mono ?_;rintro e w' ⟨rfl,rfl⟩)
 obtain ⟨tr,hrx⟩:=hrx
 generalize hB:w1.heap.size=B at *
 obtain ⟨W0,hW0⟩:∃W0,w1.alloc (Obj.cells #[Value.slice ao n ca] 44)=W0:=⟨_,rfl⟩
 rw [hW0]
 have hW0s:W0.heap.size=B+1:=by rw [←hW0,World.size_alloc,hB]
 have hB0:Below B w1 W0:=by rw [←hW0];exact Below.alloc (Below.refl _ _) (by omega) _
 have hbx0:W0.cell? ⟨B,0,none⟩=some (.slice ao n ca):=by
  have:W0.heap[B]? = some (Obj.cells #[Value.slice ao n ca] 44):=by have:=World.heap_new w1 (Obj.cells #[Value.slice ao n ca] 44);rw [hB]at this;rw [←hW0];exact this
  rw [Ba this];rfl
 refine wpIn_rangeFunc_ownG hro h1 (gf:=229) (lb:=#[.pointer (some ⟨B,0,none⟩)]) rfl trivial (enters_of Tryz.func229 (by kernel_rfl) rfl)
  (Tryz.back_stops Fence.wide (fu-1) trivial hro (by omega) B B ba oa n ca ao hao za hreach W0 (by omega) hba (by omega) hbx0 (fun j hj=>(hB0.cell (p:=⟨ba,oa+j,none⟩) hba).trans (hca j hj)))
  (fun h k=>h.trans k) (fun W l o o' hl ho h1 h2=>⟨belowK_b (by omega) W l o o' hl ho h1 h2,?hKb⟩) (Below.refl _ _) (fun _=>rfl)
  (fun pre W=>AllEq za zb pre∧Below B w1 W∧B+1≤W.heap.size)
  (fun c pre W=>c=.ret∧∃z:Int,TopNe za zb pre z∧Laid B R w1 z W)
  ?hI ?hIx
  ⟨fun x hx=>(by cases hx),hB0,by omega⟩
  (fun x=>{ tmps:=#[.slice ao n ca,t1,t2,.pointer (some ⟨bA,0,none⟩),.pointer (some ⟨R,0,none⟩),.int .i64 (x.1:Int),.int .u32 (za x.1:Int),t7,t8,t9,t10,t11,t12,t13,t14,t15,t16,t17,t18,t19,t20,.slice ao n ca,.func (.func 229) #[] #[.pointer (some ⟨B,0,none⟩)],.int .i64 (x.1:Int),.int .u32 (za x.1:Int),t25,t26,t27,t28,t29,t30,t31,t32,t33,t34,t35,t36,t37,t38],defers:=[] }) ?assign ?body ?done ?stop
 case hKb=>
  have hcB:∀(U V:World),V.heap[B]? = U.heap[B]? → V.cell? ⟨B,0,none⟩=U.cell? ⟨B,0,none⟩:=fun U V h=>World.cell?_of_block h
  exact hcB _ _ (World.putObj_heap_other (by omega))
 case hI=>
  exact OwnFrom.and (fun _ _ _ _ h _ _=>h) (OwnFrom.and (ownFrom_below (by omega) (by omega)) (fun _ _ _ _ h hg _=>Xh h hg.size))
 case hIx=>
  rintro c pre W W' row ⟨h1,z,h2,h3,h4⟩ hg hr
  refine ⟨h1,z,h2,?_,Xh h4 hg.size⟩
  exact ownFrom_below (β:=List (Fin n)) (B:=W0.heap.size) (by rw [EH];omega) (by omega) pre W W' row h3 hg hr
 case assign=>
  intro l x W K hK
  gi_wp2
  exact hK
 case body=>
  rintro l pre x W ⟨hE,hBw,h5⟩ _
  have hx:=x.2
  have hbo':=hbo (by omega)
  subst hbo'
  have hbx':=(hBw.cell (p:=⟨bA,0,none⟩) hA).trans hbx
  have hcb':=(hBw.cell (p:=⟨bb,ob+x.1,none⟩) hbb).trans (hcb x.1 hx)
  have hR':=(hBw.block R hR).trans hrx
  have hRf:W.frozen? ⟨R,0,none⟩=false:=by simp [World.frozen?,hR']
  have hRc:W.cell? ⟨R,0,none⟩=some (.int .i64 0):=by rw [Ba hR'];rfl
  by_cases hlt:za x.1<zb x.1
  ·have hlt':(za x.1:Int)<(zb x.1:Int):=by omega
   have hlaid:∀z:Int,z = -1→TopNe za zb (pre++[x]) z∧Laid B R w1 z (W.setCell ⟨R,0,none⟩ (.int .i64 z)):=fun z hz=>
    ⟨⟨x,by omega,by simpa using hE,by simp,by rw [if_pos hlt];exact hz⟩,laid_of hBw hR hrx h5⟩
   have hl:=hlaid (-1) rfl
   generalize hT:TopNe za zb (pre++[x]) (-1)=T at hl
   clear hlaid
   gi_wp2
   exact ⟨Wb (by omega),rfl,-1,by rw [hT];exact hl.1,hl.2⟩
  ·by_cases hgt:zb x.1<za x.1
   ·have hlt':¬(za x.1:Int)<(zb x.1:Int):=by omega
    have hgt':(zb x.1:Int)<(za x.1:Int):=by omega
    have hlaid:∀z:Int,z=1→TopNe za zb (pre++[x]) z∧Laid B R w1 z (W.setCell ⟨R,0,none⟩ (.int .i64 z)):=fun z hz=>
     ⟨⟨x,by omega,by simpa using hE,by simp,by rw [if_neg hlt];exact hz⟩,laid_of hBw hR hrx h5⟩
    have hl:=hlaid 1 rfl
    generalize hT:TopNe za zb (pre++[x]) 1=T at hl
    clear hlaid
    gi_wp2
    exact ⟨Wb (by omega),rfl,1,by rw [hT];exact hl.1,hl.2⟩
   ·have hlt':¬(za x.1:Int)<(zb x.1:Int):=by omega
    have hgt':¬(zb x.1:Int)<(za x.1:Int):=by omega
    have hE2:AllEq za zb (pre++[x]):=fun y hy=>by
     rcases WX.1 hy with h | h
     ·exact hE y h
     ·rw [WY.1 h];omega
    gi_wp2
    exact ⟨KeepsFrom.refl _ _,⟨Below.refl _ _,rfl⟩,hE2,hBw,h5⟩
 case done=>
  rintro D ys W hD rfl ⟨hE,hBw,h5⟩ hK
  have hR':=(hBw.block R hR).trans hrx
  have hRf:W.frozen? ⟨R,0,none⟩=false:=by simp [World.frozen?,hR']
  have hRc:W.cell? ⟨R,0,none⟩=some (.int .i64 0):=by rw [Ba hR'];rfl
  have hgood:GoodC n za zb 0:=.inl ⟨rfl,fun j hj=>hE ⟨j,hj⟩ (Rj n ⟨j,hj⟩ (WF _) (by omega))⟩
  have hl:Laid B R w1 0 (W.setCell ⟨R,0,none⟩ (.int .i64 0)):=laid_of hBw hR hrx h5
  gi_wp2
  refine cmp_end hR hB hrx hl (by omega) ?_ rfl (fun W h=>hRr 0 W hgood h)
  rw [GB (by omega)];exact hK
 case stop=>
  rintro D c pre W hD ⟨k,hk,hpre⟩ ⟨rfl,z,⟨x,x1,x2,x3,x4⟩,hl⟩ hK
  subst hpre
  rw [OS hk]at x2 x3
  simp only [List.dropLast_concat,List.getLast?_concat,WK]at x2 x3
  subst x3
  have hgood:GoodC n za zb z:=.inr ⟨n-1-k,by omega,x1,fun j h1 h2=>x2 ⟨j,h2⟩ (Rj k ⟨j,h2⟩ (by omega) (by dsimp only;omega)),x4⟩
  gi_wp2
  exact cmp_end hR hB hrx hl (by omega) hK rfl (fun W h=>hRr z W hgood h)
open Go.RowKit Go.Proofs
set_option maxRecDepth 100000
def Qs (tm:List Ab) (H:Aa):Out:=some (.ret (.tup tm),H)
def RU (tm:List Ab) (H:Aa):Out:=some (.ret (.agg tm),H)
theorem rec_n {x:AExit} {tm tm':List Ab} {H H':Aa} (h:kK Qs RU x tm H=some (.ret (.tup tm'),H')):x=.normal∧tm=tm'∧H=H':=by
 cases x with
 | normal=>simp only [kK,Qs,WK,Xa,Res.ret.injEq,Ab.tup.injEq]at h;exact ⟨rfl,h⟩
 | ret=>simp [kK,RU]at h
 | pan v=>simp [kK]at h
 | exit i=>simp [kK]at h
theorem rec_r {x:AExit} {tm tm':List Ab} {H H':Aa} (h:kK Qs RU x tm H=some (.ret (.agg tm'),H')):x=.ret∧tm=tm'∧H=H':=by
 cases x with
 | normal=>simp [kK,Qs]at h
 | ret=>simp only [kK,RU,WK,Xa,Res.ret.injEq,Ab.agg.injEq]at h;exact ⟨rfl,h⟩
 | pan v=>simp [kK]at h
 | exit i=>simp [kK]at h
theorem sl_view {E:Env} {H:Aa} {w:World} (hs:Sim E H w) {L:List Nat} {tk:Tok} {v:Value} (h:Au E (.sl (enL cU L) tk) v) (hw:0<w.heap.size) :
  ∃(ao:Option Addr) (b o cap:Nat),v=.slice ao L.length cap∧(0<L.length→ao=some ⟨b,o,none⟩)∧b<w.heap.size∧∀j,j<L.length→w.cell? ⟨b,o+j,none⟩=some (.int .u32 ((L[j]?.getD 0:Nat):Int)):=by
 have hge:∀j (hj:j<L.length),(enL cU L)[j]? = some (cU L[j]):=fun j hj=>by simp [enL,hj]
 have hle:(enL cU L).length=L.length:=by simp [enL]
 generalize hes:enL cU L=es at *
 cases h with
 | @sl0 _ a cap ht ha=>
  have:L.length=0:=by simpa using hle.symm
  exact ⟨a,0,0,cap,by rw [this],fun h=>by omega,hw,fun j hj=>by omega⟩
 | @sl _ _ b o s cap f hlen hI hmm hvv hcc htt=>
  by_cases hpos:0<L.length
  ·have hs1:s=1:=by
    have:=hlen 0 _ (hge 0 hpos)
    simpa using this.symm
   subst hs1
   refine ⟨_,b,o,cap,by rw [hle],fun _=>rfl,hs.imm_lt (hI 0 0 (by omega) (by omega)),fun j hj=>?_⟩
   have h1:=hs.imm _ _ _ (hI j 0 (by omega) (by omega))
   have h2:=hvv j _ 0 _ (hge j hj) rfl
   rw [Ss h2]at h1
   rw [WB hj]
   simpa using h1
  ·exact ⟨_,0,o,cap,by rw [hle],fun h=>absurd h hpos,hw,fun j hj=>by omega⟩
theorem Vy {l:List Nat} {i:Nat} (h:i<l.length):val l=val (l.take i)+4294967296^i*(l[i]+4294967296*val (l.drop (i+1))):=by
 have e:l=l.take i++(l[i]::l.drop (i+1)):=by rw [←Xf h,Xr]
 conv=>lhs;rw [e]
 rw [BS,WT,X4 (by omega)]
 rfl
theorem ar_lt {a b P W x y d:Nat} (ha:a<P) (hxy:x<y):a+P*(x+W*d)<b+P*(y+W*d):=by
 have h1:P*(x+W*d)+P≤P*(y+W*d):=by
  rw [←Nat.mul_succ]
  exact YL _ (by omega)
 omega
theorem topV_lt {l m:List Nat} (hl:Lim l) (he:l.length=m.length) {i:Nat} (h:i<l.length) (h':i<m.length) (hd:l.drop (i+1)=m.drop (i+1)) (hlt:l[i]<m[i]):val l<val m:=by
 have h1:=FE (l:=l.take i) fun y hy=>hl y (XK hy)
 rw [WT,X4 (by omega)]at h1
 rw [Vy h,Vy h',hd]
 exact ar_lt h1 hlt
theorem good_val {A B:Nat} (hlen:(A0 A).length=(A0 B).length) {z:Int} (h:GoodC (A0 A).length (fun j=>(A0 A)[j]?.getD 0) (fun j=>(A0 B)[j]?.getD 0) z):z=if A<B then -1 else if A=B then 0 else 1:=by
 rcases h with ⟨rfl,h⟩ | ⟨i,hi,hne,hab,rfl⟩
 ·have:A0 A=A0 B:=by
   apply List.ext_getElem hlen
   intro j h1 h2
   have:=h j h1
   dsimp only at this
   rw [WB h1,WB h2]at this
   exact this
  have e:A=B:=by rw [←Bp A,←Bp B,this]
  rw [if_neg (by omega),if_pos e]
 ·have hi2:i<(A0 B).length:=by omega
  have g1:(A0 A)[i]?.getD 0=(A0 A)[i]:=by rw [WB hi];rfl
  have g2:(A0 B)[i]?.getD 0=(A0 B)[i]:=by rw [WB hi2];rfl
  have hd:(A0 A).drop (i+1)=(A0 B).drop (i+1):=by
   apply List.ext_getElem (by simp [hlen])
   intro j h1 h2
   rw [WZ]at h1 h2
   have:=hab (i+1+j) (by omega) (by omega)
   dsimp only at this
   rw [WB (by omega),WB (by omega)]at this
   rw [Yv,Yv]
   exact this
  dsimp only at hne ⊢
  rw [g1,g2]at hne
  have e:((A0 A)[i]?.getD 0<(A0 B)[i]?.getD 0)↔(A0 A)[i]<(A0 B)[i]:=by rw [g1,g2]
  by_cases hlt:(A0 A)[i]<(A0 B)[i]
  ·have:=topV_lt (Bh A) hlen hi hi2 hd hlt
   rw [Bp,Bp]at this
   rw [if_pos (e.2 hlt),if_pos this]
  ·have:=topV_lt (Bh B) hlen.symm hi2 hi hd.symm (by omega)
   rw [Bp,Bp]at this
   rw [if_neg (fun h=>hlt (e.1 h)),if_neg (by omega),if_neg (by omega)]
theorem len_val {A B:Nat} (hne:¬(A0 A).length=(A0 B).length):(if (A0 A).length<(A0 B).length then (-1:Int)else 1)=if A<B then -1 else if A=B then 0 else 1:=by
 by_cases h:(A0 A).length<(A0 B).length
 ·have:A<B:=by
   rcases Xs A B with q | q
   ·exact q
   ·have:=Nw q;omega
  rw [if_pos h,if_pos this]
 ·have:B<A:=by
   rcases Xs B A with q | q
   ·exact q
   ·have:=Nw q;omega
  rw [if_neg h,if_neg (by omega),if_neg (by omega)]
theorem one_of {E:Env} {x:Ab} {vs:Array Value} (h:Ay E [x] vs.toList):∃v,vs = #[v]∧Au E x v:=args1 h
theorem Bj {α:Type} {n:Nat} {l:List α} (h:l.length=n+1):∃x r,l=x::r∧r.length=n:=by
 cases l with
 | nil=>cases h
 | cons x r=>exact ⟨x,r,rfl,by simpa using h⟩
theorem lit39 (ts:Array Value) (h:ts.toList.length=39):∃t0 t1 t2 t3 t4 t5 t6 t7 t8 t9 t10 t11 t12 t13 t14 t15 t16 t17 t18 t19 t20 t21 t22 t23 t24 t25 t26 t27 t28 t29 t30 t31 t32 t33 t34 t35 t36 t37 t38:Value,ts = #[t0,t1,t2,t3,t4,t5,t6,t7,t8,t9,t10,t11,t12,t13,t14,t15,t16,t17,t18,t19,t20,t21,t22,t23,t24,t25,t26,t27,t28,t29,t30,t31,t32,t33,t34,t35,t36,t37,t38]:=by
 obtain ⟨l⟩:=ts
 dsimp only at h
 obtain ⟨t0,l0,rfl,h0⟩:=Bj h
 obtain ⟨t1,l1,rfl,h1⟩:=Bj h0
 obtain ⟨t2,l2,rfl,h2⟩:=Bj h1
 obtain ⟨t3,l3,rfl,h3⟩:=Bj h2
 obtain ⟨t4,l4,rfl,h4⟩:=Bj h3
 obtain ⟨t5,l5,rfl,h5⟩:=Bj h4
 obtain ⟨t6,l6,rfl,h6⟩:=Bj h5
 obtain ⟨t7,l7,rfl,h7⟩:=Bj h6
 obtain ⟨t8,l8,rfl,h8⟩:=Bj h7
 obtain ⟨t9,l9,rfl,h9⟩:=Bj h8
 obtain ⟨t10,l10,rfl,h10⟩:=Bj h9
 obtain ⟨t11,l11,rfl,h11⟩:=Bj h10
 obtain ⟨t12,l12,rfl,h12⟩:=Bj h11
 obtain ⟨t13,l13,rfl,h13⟩:=Bj h12
 obtain ⟨t14,l14,rfl,h14⟩:=Bj h13
 obtain ⟨t15,l15,rfl,h15⟩:=Bj h14
 obtain ⟨t16,l16,rfl,h16⟩:=Bj h15
 obtain ⟨t17,l17,rfl,h17⟩:=Bj h16
 obtain ⟨t18,l18,rfl,h18⟩:=Bj h17
 obtain ⟨t19,l19,rfl,h19⟩:=Bj h18
 obtain ⟨t20,l20,rfl,h20⟩:=Bj h19
 obtain ⟨t21,l21,rfl,h21⟩:=Bj h20
 obtain ⟨t22,l22,rfl,h22⟩:=Bj h21
 obtain ⟨t23,l23,rfl,h23⟩:=Bj h22
 obtain ⟨t24,l24,rfl,h24⟩:=Bj h23
 obtain ⟨t25,l25,rfl,h25⟩:=Bj h24
 obtain ⟨t26,l26,rfl,h26⟩:=Bj h25
 obtain ⟨t27,l27,rfl,h27⟩:=Bj h26
 obtain ⟨t28,l28,rfl,h28⟩:=Bj h27
 obtain ⟨t29,l29,rfl,h29⟩:=Bj h28
 obtain ⟨t30,l30,rfl,h30⟩:=Bj h29
 obtain ⟨t31,l31,rfl,h31⟩:=Bj h30
 obtain ⟨t32,l32,rfl,h32⟩:=Bj h31
 obtain ⟨t33,l33,rfl,h33⟩:=Bj h32
 obtain ⟨t34,l34,rfl,h34⟩:=Bj h33
 obtain ⟨t35,l35,rfl,h35⟩:=Bj h34
 obtain ⟨t36,l36,rfl,h36⟩:=Bj h35
 obtain ⟨t37,l37,rfl,h37⟩:=Bj h36
 obtain ⟨t38,l38,rfl,h38⟩:=Bj h37
 obtain rfl:=WU h38
 exact ⟨t0,t1,t2,t3,t4,t5,t6,t7,t8,t9,t10,t11,t12,t13,t14,t15,t16,t17,t18,t19,t20,t21,t22,t23,t24,t25,t26,t27,t28,t29,t30,t31,t32,t33,t34,t35,t36,t37,t38,rfl⟩
theorem frel0 {E:Env} {H:Aa} {w:World} {args:List Ab} {vs:Array Value} {n:Nat} (hs:Sim E H w) (hv:Ay E args vs.toList) (hn:args.length≤n):GW n E H (args++List.replicate (n-args.length) .undef) { tmps:=vs++Array.replicate (n-vs.size) undef,defers:=[] } w:=by
 have hlen:args.length=vs.size:=by simpa using hv.1
 refine ⟨?_,by simp;omega,rfl,hs⟩
 rw [Yp]
 refine hv.append ⟨by simp [hlen],fun i c v h1 h2=>?_⟩
 rw [Y5]at h1
 split at h1
 ·simp at h1;subst h1;exact .undef _
 ·cases h1
def Py:List Bool→List Ab→List Ab
 | true::m,x::xs=>x::Py m xs
 | _::m,_::xs=>.undef::Py m xs
 | [],xs=>xs
 | _,[]=>[]
theorem Q0:∀(m:List Bool) (xs:List Ab),(Py m xs).length=xs.length
 | [],[]=>rfl
 | [],_::_=>rfl
 | _::_,[]=>by simp [Py]
 | true::m,x::xs=>by simp [Py,Q0 m xs]
 | false::m,x::xs=>by simp [Py,Q0 m xs]
theorem Qr {E:Env}:∀(m:List Bool) (xs:List Ab) (vs:List Value),Ay E xs vs→Ay E (Py m xs) vs
 | [],[],_,h=>h
 | [],_::_,_,h=>h
 | _::_,[],_,h=>by simpa [Py]using h
 | b::m,x::xs,[],h=>absurd h.1 (by simp)
 | true::m,x::xs,v::vs,h=>Ay.cons h.head (Qr m xs vs h.tail)
 | false::m,x::xs,v::vs,h=>Ay.cons (.undef _) (Qr m xs vs h.tail)
theorem frel_mask {n:Nat} {E:Env} {H:Aa} {tm:List Ab} {a:Act} {w:World} (m:List Bool) (h:GW n E H tm a w):GW n E H (Py m tm) a w:=
 ⟨Qr m tm _ h.rel,by rw [Q0];exact h.len,h.defers,h.sim⟩
theorem setCells_one (w:World) (R:Nat) (v:Value):w.setCells R 0 [v]=w.setCell ⟨R,0,none⟩ v:=rfl
theorem I3:AF Tryz.prog Gs 156 (ap2 Sh.fk):=by
 intro args H res H' h
 unfold ap2 at h
 split at h
 ·rename_i a b
  unfold Sh.fk at h
  split at h
  ·rename_i es ta fs tb
   split at h
   ·rename_i hex
    have hsp:=hex.choose_spec
    generalize hp:hex.choose=p at hsp h
    obtain ⟨la,lb⟩:=p
    dsimp only at hsp h
    obtain ⟨rfl,rfl,xa,xb,ha,hb⟩:=hsp
    simp only [WK,Xa]at h
    obtain ⟨rfl,rfl⟩:=h
    intro E w vs hG hs hv
    obtain ⟨va,vb,rfl,k1,k2⟩:=args2 hv
    have hlA:(A0 (val la)).length≤1099511627776:=Xh (Ec (FE xa)) ha
    have hlB:(A0 (val lb)).length≤1099511627776:=Xh (Ec (FE xb)) hb
    refine .inl ⟨EQ Tryz.func156 (by kernel_rfl) (by kernel_rfl) _ w,?_⟩
    refine callsIn_wide.1 (callsIn_of_wp_marks (n:=3) Tryz.func156 body_156 trivial ?_ rfl)
    have hC:O0 Vk:=mk_ok (Af Dm (As _ _))
    have hD:DrawOk Vk:=draw_ok hC mixed
    have hfr:GW 39 E H [.sl (enL cU la) ta,.sl (enL cU lb) tb,.undef,.undef,.undef,.undef,.undef,.undef,.undef,.undef,.undef,.undef,.undef,.undef,.undef,.undef,.undef,.undef,.undef,.undef,.undef,.undef,.undef,.undef,.undef,.undef,.undef,.undef,.undef,.undef,.undef,.undef,.undef,.undef,.undef,.undef,.undef,.undef,.undef] { tmps:=#[va,vb]++Array.replicate (39 - #[va,vb].size) undef,defers:=[] } w:=frel0 hs hv (by simp)
    rw [Tryz.ntmps156]
    obtain ⟨HB,hHB⟩:∃HB:Aa,HB=H++[.cel 0 [.sl (enL cU (A0 (val lb))) .no]]++[.cel 0 [.int .i64 0]]:=⟨_,rfl⟩
    have hAev:=cmA_eq Qs RU (.sl (enL cU la) ta) (.sl (enL cU lb) tb) H
    rw [cmA_res,←ev_eq]at hAev
    refine wpIn_seq (wpIn_mono (wpIn_wide.2 (Un hC hD cdA _ (kK Qs RU) E _ H _ w hG (B7.refl E H w) hfr hAev)) ?_)
    rintro e1 a1 w1 ⟨E1,H1,tm1,x1,hG1,st1,hf1,hx1,hk1⟩
    obtain ⟨rfl,rfl,rfl⟩:=rec_n hk1
    cases e1 <;> first | exact hx1.elim | skip
    have hBev:=cmB_eq Qs RU (.sl (enL cU la) ta) (.sl (enL cU lb) tb) (.ptr H.length 0 0) (.ptr (H.length+1) 0 0) (H++[.cel 0 [.sl (enL cU lb) tb]]++[.cel 0 [.int .i64 0]])
    rw [cmB_res Qs ta tb H xa xb ha hb,←ev_eq]at hBev
    refine wpIn_seq (wpIn_mono (wpIn_wide.2 (Un hC hD cdB _ (kK Qs RU) E1 _ _ a1 w1 hG1 st1 hf1 hBev)) ?_)
    rintro e2 a2 w2 ⟨E2,H2,tm2,x2,hG2,st2,hf2,hx2,hk2⟩
    obtain ⟨rfl,rfl,rfl⟩:=rec_n hk2
    cases e2 <;> first | exact hx2.elim | skip
    have hf2':GW 39 E2 HB [.sl (enL cU (A0 (val la))) .no,.undef,.undef,.ptr H.length 0 0,.ptr (H.length+1) 0 0,.undef,.undef,.undef,.undef,.undef,.undef,.undef,.undef,.undef,.undef,.undef,.undef,.undef,.undef,.undef,.undef,.undef,.undef,.undef,.undef,.undef,.undef,.undef,.undef,.undef,.undef,.undef,.undef,.undef,.undef,.undef,.undef,.undef,.undef] a2 w2:=hHB ▸ frel_mask [true,false,false,true,true,false,false,false,false,false,false,false,false,false,false,false,false,false,false,false,false,false,false,false,false,false,false,false,false,false,false,false,false,false,false,false,false,false,false] hf2
    have hCev:=cmC_eq Qs RU (.sl (enL cU (A0 (val la))) .no) (.ptr H.length 0 0) (.ptr (H.length+1) 0 0) HB
    obtain ⟨tm3,hl3,g0,g3,g4,hres⟩:=cmC_res Qs RU (val la) (val lb) .no .no H hlA hlB
    have fin2:∀(z:Int) (HX:Aa) (E3:Env) (W:World),HX=H++[.cel 0 [.sl (enL cU (A0 (val lb))) .no]]++[.cel 0 [.int .i64 z]]→Sim E3 HX W→B7 E H w E3 HX W→∃E',HM E' (.ret (.int .i64 z)) (.returned (.int .i64 z))∧Sim E' H W∧B7 E H w E' H W:=by
     intro z HX E3 W hHX hsim hst
     have hfin:fin .pure H (.ret (.int .i64 z)) HX=some (.ret (.int .i64 z),H):=by
      have:rP H (.int .i64 z) HX=some (.ret (.int .i64 z),H):=by rw [hHX,WG];exact J3
      exact this
     obtain ⟨E',q1,q2,q3⟩:=fin_ok (r:=.ret (.int .i64 z)) (e:=.returned (.int .i64 z)) hs hst hsim (show HM E3 _ _ from Au.int _ _) hfin
     exact ⟨E',q1,q2,q3⟩
    rw [←hHB]at hres
    rw [hres,←ev_eq]at hCev
    by_cases hlen:(A0 (val la)).length=(A0 (val lb)).length
    ·rw [if_pos hlen]at hCev
     refine wpIn_seq (wpIn_mono (wpIn_wide.2 (Un hC hD cdC _ (kK Qs RU) E2 _ HB a2 w2 hG2 (hHB ▸ st2) hf2' hCev)) ?_)
     rintro e3 a3 w3 ⟨E3,H3,tm4,x3,hG3,st3,hf3,hx3,hk3⟩
     obtain ⟨rfl,rfl,hHH⟩:=rec_n hk3
     rw [hHH]at hf3 st3
     cases e3 <;> first | exact hx3.elim | skip
     have hl39:a3.tmps.toList.length=39:=by rw [←hf3.rel.1];exact hf3.len
     obtain ⟨ts,ds⟩:=a3
     obtain ⟨t0,t1,t2,t3,t4,t5,t6,t7,t8,t9,t10,t11,t12,t13,t14,t15,t16,t17,t18,t19,t20,t21,t22,t23,t24,t25,t26,t27,t28,t29,t30,t31,t32,t33,t34,t35,t36,t37,t38,hts⟩:=lit39 ts hl39
     have hds:ds=[]:=hf3.defers
     subst hds
     subst hts
     obtain ⟨u0,p0,r0⟩:=hf3.rel.get g0
     obtain ⟨u3,p3,r3⟩:=hf3.rel.get g3
     obtain ⟨u4,p4,r4⟩:=hf3.rel.get g4
     obtain rfl:t0=u0:=by simpa using p0
     obtain rfl:t3=u3:=by simpa using p3
     obtain rfl:t4=u4:=by simpa using p4
     have hsim:=hf3.sim
     obtain ⟨bA,f3,rfl⟩:=r3.ptr_inv
     obtain ⟨R,f4,rfl⟩:=r4.ptr_inv
     have e1:HB[H.length]? = some (.cel 0 [.sl (enL cU (A0 (val lb))) .no]):=by rw [hHB];simp
     have e2:HB[H.length+1]? = some (.cel 0 [.int .i64 0]):=by rw [hHB];simp
     obtain ⟨b0,c0,y0,q0,q1,q2,_⟩:=hsim.blk _ _ e1
     obtain ⟨b1,c1,y1,q4,q5,q6,_⟩:=hsim.blk _ _ e2
     rw [f3]at q0
     rw [f4]at q4
     cases q0
     cases q4
     obtain ⟨vb3,rfl,rb⟩:=one_of q2
     obtain ⟨vr3,rfl,rr⟩:=one_of q6
     have hvr:=Ss rr
     subst hvr
     have hw0:bA<w3.heap.size:=(Xu.1 q1).1
     have hwR:R<w3.heap.size:=(Xu.1 q5).1
     obtain ⟨ao,ba,oa,ca,rfl,hao,hba,hca⟩:=sl_view hsim r0 (by omega)
     obtain ⟨bo,bb,ob,cb,rfl,hbo,hbb,hcb⟩:=sl_view hsim rb (by omega)
     rw [←hlen]at hbo hcb q1
     refine cmp_tail (n:=(A0 (val la)).length) (WF 3) bA R bb ob cb ba oa ca ao bo (fun j=>(A0 (val la))[j]?.getD 0) (fun j=>(A0 (val lb))[j]?.getD 0) hlA hao hbo hw0 hwR hba hbb (by rw [Ba q1];rfl) ⟨y1,q5⟩ hca hcb (fun z W hg hbel=>?_) _ rfl t1 t2 t5 t6 t7 t8 t9 t10 t11 t12 t13 t14 t15 t16 t17 t18 t19 t20 t21 t22 t23 t24 t25 t26 t27 t28 t29 t30 t31 t32 t33 t34 t35 t36 t37 t38
     have hz:=good_val hlen hg
     have hst:Ah 1 (.ptr (H.length+1) 0 0) (.int .i64 z) HB=some (H++[.cel 0 [.sl (enL cU (A0 (val lb))) .no]]++[.cel 0 [.int .i64 z]]):=by
      rw [Jw e2 rfl (by simp),hHB]
      congr 1
      rw [Xg _ _ (by simp)]
      simp
     obtain ⟨b',o',cs',tt',w1',w2',w3',w4',w5',w6',w7'⟩:=LI hsim (.ptr f4) (.int .i64 z) hst
     injection w1' with w1'
     injection w1' with w1'
     injection w1' with w1a w1b
     subst w1a
     subst w1b
     have hce:(Value.int .i64 z).cells.toList=[Value.int .i64 z]:=rfl
     rw [hce,setCells_one]at w6' w7'
     have hext:=w6'.ext (.refl E3) (fun _ _ _ h=>h) (fun _ _ _ h=>h) (fun b hb=>hbel.block b (by rw [EH]at hb;exact hb)) (fun _ _=>rfl) (fun b o v hv hb=>by have:=w6'.imm_lt hv;omega) hbel.os hbel.tape hbel.output hbel.size
     obtain ⟨E',k1',k2',k3'⟩:=fin2 z _ E3 W rfl hext.1 ((st3.trans w7').trans hext.2)
     refine ⟨E',?_,k2',k3'⟩
     rw [←hz]
     exact k1'
    ·rw [if_neg hlen]at hCev
     refine wpIn_seq (wpIn_mono (wpIn_wide.2 (Un hC hD cdC _ (kK Qs RU) E2 _ HB a2 w2 hG2 (hHB ▸ st2) hf2' hCev)) ?_)
     rintro e3 a3 w3 ⟨E3,H3,tm4,x3,hG3,st3,hf3,hx3,hk3⟩
     obtain ⟨rfl,rfl,rfl⟩:=rec_r hk3
     cases e3 <;> first | exact hx3.elim | skip
     have hz:=len_val hlen
     have hra:Fg Vk Tryz.f156.results.toList tm4 (H++[.cel 0 [.sl (enL cU (A0 (val lb))) .no]]++[.cel 0 [.int .i64 (if (A0 (val la)).length<(A0 (val lb)).length then -1 else 1)]])=some (.int .i64 (if (A0 (val la)).length<(A0 (val lb)).length then -1 else 1)):=by
      have hrs:Tryz.f156.results.toList=[.cell 4 3]:=by kernel_rfl
      have hld:Ac false 1 (.ptr (H.length+1) 0 0) (H++[Blk.cel 0 [.sl (enL cU (A0 (val lb))) .no]]++[.cel 0 [.int .i64 (if (A0 (val la)).length<(A0 (val lb)).length then -1 else 1)]])=some (.int .i64 (if (A0 (val la)).length<(A0 (val lb)).length then -1 else 1)):=by
       simp only [Ac,A5 (show (H++[Blk.cel 0 [.sl (enL cU (A0 (val lb))) .no]]++[Blk.cel 0 [.int .i64 (if (A0 (val la)).length<(A0 (val lb)).length then -1 else 1)]])[H.length+1]? = some (.cel 0 [.int .i64 (if (A0 (val la)).length<(A0 (val lb)).length then -1 else 1)])by simp),Option.bind_some]
       rfl
      rw [hrs]
      show GZ Vk tm4 _ (.cell 4 3)=_
      have hd4:tm4.getD 4 .undef=.ptr (H.length+1) 0 0:=by rw [WH,g4];rfl
      have hok:okT Vk.P 3=true:=by kernel_rfl
      have hagg:Bx Vk.P 3=false:=by kernel_rfl
      have hsz:Am Vk.P 3=1:=by kernel_rfl
      simp only [GZ,hok,hagg,hsz,hd4,X2,WL,if_false]
      exact hld
     obtain ⟨v,r1,r2⟩:=Tp (fn:=Tryz.f156) hf3 hra
     have hv3:=Ss r2
     subst hv3
     show LeavesInM _ _ _ _ _ _ a3.defers _ _
     rw [hf3.defers]
     show LeavesIn _ _ _ _ _ _ [] _ _
     refine ⟨_,r1,?_⟩
     obtain ⟨E',q1,q2,q3⟩:=fin2 _ _ E3 w3 rfl hf3.sim st3
     refine ⟨E',?_,q2,q3⟩
     rw [←hz]
     exact q1
   ·cases h
  ·cases h
 ·cases h
open Go.Proofs Go.RowKit Go.Shelf
theorem dig1 (x:Nat) (H:Aa):Sh.f4n (.int .i32 x) H=some (.ret (.bool (K1 x)),H):=by
 unfold Sh.f4n K1
 by_cases h:x<48
 ·have h':(x:Int)<48:=by omega
  simp [h,h']
 ·have h':¬(x:Int)<48:=by omega
  by_cases h2:57<x
  ·have h2':(57:Int)<x:=by omega
   simp [h,h',h2,h2']
  ·have h2':¬(57:Int)<x:=by omega
   simp [h,h',h2,h2']
theorem JY:AF Tryz.prog Gs 234 (ap2 Sh.f23):=by
 intro args H res H' h
 unfold ap2 at h
 split at h
 ·unfold Sh.f23 at h
  split at h
  ·rename_i s
   cases h
   refine lib_ok Tryz.func234 (by kernel_rfl) fun E w vs hG hs hv=>?_
   obtain ⟨v,u,rfl,h1,h2⟩:=args2 hv
   rw [val_str h1]
   have hu:u=.func (.func 235) #[] #[]:=by
    cases h2 with
    | @fn _ _ vs' hn' hv'=>exact congrArg _ (Array.eq_empty_of_size_eq_zero hn'.symm)
   rw [hu]
   refine ⟨_,.int _ _,Tryz.strings_IndexFunc_grows 235 #[] (fun a w=>EQ Tryz.func235 (by kernel_rfl) (by kernel_rfl) a w) K1 ⟨s.toArray⟩ w fun W x hx hb=>?_⟩
   refine (fn_calls PU Tryz.func235 (by kernel_rfl) (fun _ _ h=>nomatch h) (VA hs hb).1 (args:=[.int .i32 x]) (Ay.cons (.int _ _) (Ay.nil _)) (dig1 x [])).mono fun e w' ⟨⟨E',he⟩,hw⟩=>⟨?_,hw⟩
   cases e with
   | returned v=>rw [Au.bool_inv he]
   | panicked c=>exact he.elim
   | outgrown=>exact he.elim
  ·cases h
 ·cases h
theorem JZ:AF Tryz.prog Gs 177 (ap2 Sh.f24):=by
 intro args H res H' h
 unfold ap2 at h
 split at h
 ·unfold Sh.f24 at h
  split at h
  ·rename_i s c
   cases h
   refine lib_ok Tryz.func177 (by kernel_rfl) fun E w vs hG hs hv=>?_
   obtain ⟨v,u,rfl,h1,h2⟩:=args2 hv
   rw [val_str h1,Ss h2]
   exact ⟨_,.int _ _,(Tryz.strings_IndexByte ⟨s.toArray⟩ c w).mono fun e w' ⟨he,hw⟩=>⟨by simpa using he,hw ▸ Below.refl _ _⟩⟩
  ·cases h
 ·cases h
end Go.Gm
namespace Go.Proofs
open Go.RowKit
set_option maxRecDepth 10000 in
theorem Tryz.catch_panicking6 (p:Addr) (c0 c1:Value) (older:List PanicEntry) (w:World) {wa w1:World} (hs0:Sem.run Tryz.prog (store p c0) w=.ok () wa) (hs1:Sem.run Tryz.prog (store { block:=p.block,off:=p.off+1 } c1) wa=.ok () w1) :
  CallsD Tryz.prog 78 #[.pointer (some p)] (.panicking ({ v:=.iface 70 (.agg #[c0,c1]),recovered:=false }::older)) w fun e u' w'=>
   e=.returned (.tuple #[])∧u'=.panicking ({ v:=.iface 70 (.agg #[c0,c1]),recovered:=true }::older)∧w'=w1:=by
 have hta:Sem.run Tryz.prog (Instr.typeAssert (.iface 70 (.agg #[c0,c1])) 20 70 false) w=.ok (.agg #[c0,c1]) w:=by
  kernel_rfl
 refine callsD_of_wpS Tryz.func78 rfl fun c₀ cs hu=>?_
 apply wpS_seq
 apply wpS_region
 simp [wpOpsS,go_sem,recoverD,hu,Tryz.ntmps78,Exit.thenS]
 apply wpS_seq
 apply wpS_region
 simp [wpOpsS,go_sem,Exit.thenS]
 refine wpS_cond (t:=true) (by simp [Act.eval,Array.replicate]) ?_
 simp only [if_true]
 apply wpS_region
 simp [wpOpsS,go_sem,bodyPostS,results,Tryz.results78,hta,hs0,hs1]
set_option maxRecDepth 10000 in
theorem Tryz.catch_idle6 (p:Addr) (w:World) :
  CallsD Tryz.prog 78 #[.pointer (some p)] .returning w fun e u' w'=>e=.returned (.tuple #[])∧u'=.returning∧w'=w:=by
 refine callsD_of_wpS Tryz.func78 rfl fun c₀ cs hu=>?_
 apply wpS_seq
 apply wpS_region
 simp [wpOpsS,go_sem,recoverD,hu,Tryz.ntmps78,Exit.thenS]
 apply wpS_seq
 apply wpS_region
 simp [wpOpsS,go_sem,Exit.thenS]
 refine wpS_cond (t:=false) (by simp [Act.eval,Array.replicate]) ?_
 simp only [Bool.false_eq_true,if_false]
 refine wpS_of_wp (wp_skip ?_)
 cases c₀
 simp_all [bodyPostS,results,Tryz.results78]
end Go.Proofs
namespace Go.Proofs
open Go.RowKit
theorem Tryz.box_cells6 {w:World} {b:Nat} {x0 x1:Value} {t:TypeId} (hbox:w.heap[b]? = some (.cells #[x0,x1] t (0,0))) (y0 y1:Value) :
  (w.setCell ⟨b,0,none⟩ y0).cell? ⟨b,1,none⟩=some x1∧(w.setCell ⟨b,0,none⟩ y0).frozen? ⟨b,1,none⟩=false ∧
   ((w.setCell ⟨b,0,none⟩ y0).setCell ⟨b,1,none⟩ y1).cell? ⟨b,0,none⟩=some y0∧((w.setCell ⟨b,0,none⟩ y0).setCell ⟨b,1,none⟩ y1).cell? ⟨b,1,none⟩=some y1:=by
 have sz:b<w.heap.size:=by
  rcases Nat.lt_or_ge b w.heap.size with h | h
  ·exact h
  ·rw [Array.getElem?_eq_none h]at hbox;cases hbox
 have hx:w.heap[b]=.cells #[x0,x1] t (0,0):=by
  rw [Array.getElem?_eq_getElem sz]at hbox;exact Option.some.inj hbox
 refine ⟨?_,?_,?_,?_⟩ <;> simp [World.cell?,World.frozen?,World.setCell,hx,sz,Array.getElem_modify]
set_option maxRecDepth 10000 in
set_option maxHeartbeats 1000000 in
theorem Tryz.caught_in6 (g:Nat) (caps:Array Value) (w:World) (eg:∀args w,(callFunc g args).run Tryz.prog w=.ok (.enter g args) w) {R:Ending→World→Prop}
  (hj:Calls Tryz.prog g caps (w.alloc (.cells #[.int .i64 0,.string ⟨#[]⟩] 70)) R)
  (hR:∀e w2,R e w2→(∃t c0 c1,w2.heap[w.heap.size]? = some (.cells #[c0,c1] t (0,0)))∧((∃v,e=.returned v)∨∃c0 c1,Value.oneCell' c0=true∧Value.oneCell' c1=true∧e=.panicked [{ v:=.iface 70 (.agg #[c0,c1]),recovered:=false }])) :
  Calls Tryz.prog 37 #[.func (.func g) caps #[]] w fun e w'=>∃e2 w2,R e2 w2∧∃c0 c1,e=.returned (.agg #[c0,c1])∧w'=(w2.setCell ⟨w.heap.size,0,none⟩ c0).setCell ⟨w.heap.size,1,none⟩ c1 ∧
   ((∃v,e2=.returned v∧c0=.int .i64 0∧c1=.string ⟨#[]⟩)∨e2=.panicked [{ v:=.iface 70 (.agg #[c0,c1]),recovered:=false }]):=by
 have hmf:∀(fn:Fn) (first cap:Array Value) (w:World),(Instr.makeFunc fn first cap).run Tryz.prog w=.ok (.func fn first cap) w:=fun _ _ _ _=>rfl
 go_enter_defers Tryz.func37,Tryz.ntmps37
 go_wp2
 refine hj.mono ?_
 rintro e w2 hr
 obtain ⟨⟨t,x0,x1,hbox⟩,h⟩:=hR _ _ hr
 have c0:w2.cell? ⟨w.heap.size,0,none⟩=some x0:=by simp [World.cell?,hbox]
 have c1:w2.cell? ⟨w.heap.size,1,none⟩=some x1:=by simp [World.cell?,hbox]
 have f0:w2.frozen? ⟨w.heap.size,0,none⟩=false:=by simp [World.frozen?,hbox]
 have f1:w2.frozen? ⟨w.heap.size,1,none⟩=false:=by simp [World.frozen?,hbox]
 have K:=fun y0 y1=>Tryz.box_cells6 (w:=w2) hbox y0 y1
 rcases h with ⟨v,rfl⟩ | ⟨y0,y1,o0,o1,rfl⟩
 ·obtain ⟨k1,k2,k3,k4⟩:=K (.int .i64 0) (.string ⟨#[]⟩)
  go_wp2
  refine leaves_cons (f:=78) (args:=#[.pointer (some ⟨w.heap.size,0,none⟩)]) (by simp) (by simp [go_sem]) ?_
  refine (Tryz.catch_idle6 ⟨w.heap.size,0,none⟩ _).mono ?_
  rintro e u' w'' ⟨rfl,rfl,rfl⟩
  simp [Leaves,settle,results,Tryz.results37,go_sem,k3,k4]
  exact ⟨_,_,hr,_,_,⟨rfl,rfl⟩,rfl,Or.inl ⟨⟨_,rfl⟩,rfl,rfl⟩⟩
 ·obtain ⟨k1,k2,k3,k4⟩:=K y0 y1
  refine leaves_cons (f:=78) (args:=#[.pointer (some ⟨w.heap.size,0,none⟩)]) (by simp) (by simp [go_sem]) ?_
  refine (Tryz.catch_panicking6 ⟨w.heap.size,0,none⟩ y0 y1 [] _ (wa:=w2.setCell ⟨w.heap.size,0,none⟩ y0) (w1:=(w2.setCell ⟨w.heap.size,0,none⟩ y0).setCell ⟨w.heap.size,1,none⟩ y1) ?_ ?_).mono ?_
  ·rw [run_store _ _ _ _ _ o0];simp [c0,f0]
  ·rw [run_store _ _ _ _ _ o1];simp [k1,k2]
  rintro e u' w'' ⟨rfl,rfl,rfl⟩
  simp [Leaves,settle,results,Tryz.results37,go_sem,k3,k4]
  exact ⟨_,_,hr,_,_,⟨rfl,rfl⟩,rfl,Or.inr rfl⟩
end Go.Proofs
namespace Go.Gm
open Go.Proofs Go.RowKit
theorem Sim.aside6 {E:Env} {H:Aa} {w w':World} (hs:Sim E H w) {b:Nat} (h1:¬MV E H b) (h2:∀o,E.I b o=none) (hh:∀x,x≠b→w'.heap[x]? = w.heap[x]?):Sim E H w':=by
 have ne:∀id b',loc E H id=some b'→b'≠b:=fun id b' hl e=>h1 ⟨id,e ▸ hl⟩
 constructor
 ·intro id B hB
  refine ((hs.blk id B hB).keep (.refl E) (fun b' hl=>hh b' (ne id b' ?_)) (fun _ _=>rfl)).1
  unfold loc;rw [hB];exact hl
 ·exact hs.dom
 ·exact hs.domk
 ·exact hs.late
 ·exact hs.inj
 ·intro b' o v hv
  have hne:b'≠b:=fun e=>by rw [e,h2 o]at hv;cases hv
  have:=hs.imm b' o v hv
  simp only [World.cell?]at this ⊢
  rw [hh b' hne];exact this
 ·intro b' cs hf
  obtain ⟨⟨t,fr,k1⟩,⟨v,k2⟩,k3⟩:=hs.fix b' cs hf
  have hne:b'≠b:=fun e=>by rw [e,h2 0]at k2;cases k2
  exact ⟨⟨t,fr,by rw [hh b' hne];exact k1⟩,⟨v,k2⟩,k3⟩
theorem Vt {orc:Orc} (ho:Jk Tryz.prog Gs orc):AF Tryz.prog Gs 37 (ap1 (PR orc)):=by
 intro args H res H' h
 unfold ap1 at h
 split at h
 case h_2=>cases h
 rename_i job
 unfold PR at h
 split at h
 case h_2=>cases h
 rename_i caps
 cases hr:orc 38 caps H with
 | none=>rw [hr]at h;cases h
 | some r=>
  obtain ⟨r,H1⟩:=r
  rw [hr]at h
  cases hc:SJ r with
  | none=>simp [hc]at h
  | some x=>
   have hx:Res.ret x=res∧H1=H':=by simpa [hc]using h
   obtain ⟨rfl,rfl⟩:=hx
   intro E w vs hG hs hv
   obtain ⟨v,rfl,h1⟩:=args1 hv
   cases h1 with
   | bfn hn hcv=>
    rename_i cv
    obtain ⟨s1,st1⟩:=hs.laid (.cells #[.int .i64 0,.string ⟨#[]⟩] 70)
    have hcs:Ay E caps cv.toList:=⟨by simpa using hn,fun i c u hi hu=>hcv i c u hi (by simpa using hu)⟩
    obtain ⟨b1,b2,b3⟩:=Fk (show fnB 0 Tryz.f38=true by kernel_rfl)
    obtain ⟨d1,d2,d3⟩:=Fk (show fnB 0 Tryz.f37=true by kernel_rfl)
    have f38:Tryz.prog.funcs[38]? = some Tryz.f38:=Tryz.func38
    have f37:Tryz.prog.funcs[37]? = some Tryz.f37:=Tryz.func37
    have nb:¬MV E H w.heap.size:=hs.free_new
    have lt:w.heap.size<(w.alloc (.cells #[.int .i64 0,.string ⟨#[]⟩] 70)).heap.size:=by simp [World.alloc,-World.alloc_eq]
    rcases ho 38 caps H r H1 hr E _ cv hG s1 hcs with ⟨_,hj⟩ | ⟨v,w',h1,_⟩
    ·refine .inl ⟨EQ f37 d1 d2 _ w,?_⟩
     have hj':=Tryz.caught_in6 38 cv w (fun a w=>EQ f38 b1 b2 a w) hj ?_
     ·refine hj'.mono ?_
      rintro e w' ⟨e2,w2,⟨E',k1,k2,k3⟩,c0,c1,rfl,rfl,hcase⟩
      have no:¬MV E' H1 w.heap.size:=fun ho=>(k3.own _ ho).elim nb (fun h=>by omega)
      have ni:∀o,E'.I w.heap.size o=none:=fun o=>by rw [k3.imm _ o lt nb];exact hs.imm_new o
      have hh:∀b,b≠w.heap.size→((w2.setCell ⟨w.heap.size,0,none⟩ c0).setCell ⟨w.heap.size,1,none⟩ c1).heap[b]? = w2.heap[b]? := fun b hb=>by
       simp [World.setCell,Yh,Ne.symm hb]
      have st2:=st1.trans k3
      refine ⟨E',?_,k2.aside6 no ni hh,st2.le,st2.os,st2.tape,st2.output,?_,fun b hb ho=>?_,st2.own,st2.imm⟩
      ·rcases hcase with ⟨v,rfl,rfl,rfl⟩ | rfl
       ·cases r with
        | ret y=>cases hc;exact Au.agg rfl (by intro i c v hi hv;match i with
          | 0=>simp at hi hv;subst hi;subst hv;exact .int _ _
          | 1=>simp at hi hv;subst hi;subst hv;exact .str []
          | _+2=>simp at hi)
        | pan y=>exact absurd k1 id
       ·cases r with
        | ret y=>exact absurd k1 id
        | pan y=>
         obtain ⟨v,hv1,hv2⟩:=k1
         cases hv1
         unfold SJ at hc
         split at hc
         ·rename_i heq;cases heq
         ·rename_i heq;cases heq;cases hc;cases hv2 with
          | iface h=>exact h
         ·cases hc
      ·simpa [World.setCell]using st2.size
      ·rw [hh b (by omega)];exact st2.frame b hb ho
     ·rintro e w2 ⟨E',k1,k2,k3⟩
      refine ⟨⟨70,_,_,by rw [k3.frame _ lt nb];exact World.heap_new w _⟩,?_⟩
      cases r with
      | ret y=>cases e with
       | returned v=>exact .inl ⟨v,rfl⟩
       | _=>exact absurd k1 id
      | pan y=>cases e with
       | panicked ch=>
        obtain ⟨v,rfl,hv2⟩:=k1
        unfold SJ at hc
        split at hc
        ·rename_i heq;cases heq
        ·rename_i heq;cases heq;cases hv2 with
         | iface h=>cases h with
          | agg hn hv => 
           rename_i n s vs
           obtain ⟨l⟩:=vs
           match l,hn,hv with
           | [a,b],hn,hv=>
            have h0:=hv 0 _ a rfl rfl
            have h1:=hv 1 _ b rfl rfl
            cases h0;cases h1
            exact .inr ⟨_,_,rfl,rfl,rfl⟩
        ·cases hc
       | _=>exact absurd k1 id
    ·rw [EQ f38 b1 b2]at h1;cases h1
open Go.Proofs
set_option maxRecDepth 100000
noncomputable def Mb:Orc:=noO
theorem L2:T0 Tryz.prog Gs false Mb Tryz.f16 (.tw .lf (.tw .lf .lf)) .pure Sh.fs:=by unfold T0;intros;kernel_rfl
theorem Ll:AF Tryz.prog Gs 16 (ap0 Sh.fs):=fn_ok0 mixed (As _ _) Tryz.func16 (by kernel_rfl) L2
noncomputable def T9:Orc:=noO
theorem SR:T2 Tryz.prog Gs false T9 Tryz.f77 (.tw .lf (.tw .lf .lf)) .keep Sh.f25:=by unfold T2;intros;kernel_rfl
theorem Sd:AF Tryz.prog Gs 77 (ap2 Sh.f25):=Bd mixed (As _ _) Tryz.func77 (by kernel_rfl) SR
noncomputable def Qu:Orc:=(ent 77 (ap2 Sh.f25) noO)
theorem Qd:T1 Tryz.prog Gs false Qu Tryz.f36 (.tw .lf (.tw .lf .lf)) .pure Sh.f26:=by unfold T1;intros;kernel_rfl
theorem PT:AF Tryz.prog Gs 36 (ap1 Sh.f26):=Bc mixed ((Af Sd (As _ _))) Tryz.func36 (by kernel_rfl) Qd
noncomputable def RV:Orc:=noO
theorem RH:T2 Tryz.prog Gs false RV Tryz.f134 (.tw .lf (.tw .lf (.tw (.tw .lf (.one (.loop [0,1,5,12,13] (.tw .lf (.tw (.tw .lf .lf) (.tw (.one (.tw .lf (.tw (.reg [0,1,2,3,4,5,6]) (.tw (.tw .lf .lf) .lf)))) .lf)))))) (.tw .lf .lf)))) .keep Sh.f27:=by unfold T2;intros;kernel_rfl
theorem Rd:AF Tryz.prog Gs 134 (ap2 Sh.f27):=Bd mixed (As _ _) Tryz.func134 (by kernel_rfl) RH
noncomputable def KS:Orc:=noO
theorem K7:T1 Tryz.prog Gs false KS Tryz.f81 (.tw .lf (.tw (.reg [0,1,2,3,4,5,6,7,8,9,10]) .lf)) .keep Sh.fb:=by unfold T1;intros;kernel_rfl
theorem Ci:AF Tryz.prog Gs 81 (ap1 Sh.fb):=Bc mixed (As _ _) Tryz.func81 (by kernel_rfl) K7
noncomputable def LX:Orc:=(ent 81 (ap1 Sh.fb) noO)
theorem Ly:T2 Tryz.prog Gs false LX Tryz.f135 (.join [] (.tw .lf (.tw .lf .lf)) .lf) .keep Sh.f5:=by unfold T2;intros;kernel_rfl
theorem CS:AF Tryz.prog Gs 135 (ap2 Sh.f5):=Bd mixed ((Af Ci (As _ _))) Tryz.func135 (by kernel_rfl) Ly
noncomputable def Ma:Orc:=(ent 134 (ap2 Sh.f27) (ent 135 (ap2 Sh.f5) noO))
theorem L1:T3 Tryz.prog Gs false Ma Tryz.f79 (.tw (.reg [0,1,2,3,4,5,6,7,8,9,10,11]) (.tw .lf (.tw .lf (.tw .lf .lf)))) .keep Sh.fn:=by unfold T3;intros;kernel_rfl
theorem Gk:AF Tryz.prog Gs 79 (ap3 Sh.fn):=FV mixed ((Af Rd ((Af CS (As _ _))))) Tryz.func79 (by kernel_rfl) L1
noncomputable def LY:Orc:=(ent 81 (ap1 Sh.fb) (ent 177 (ap2 Sh.f24) noO))
theorem Lz:T2 Tryz.prog Gs false LY Tryz.f136 (.tw .lf (.tw (.reg [0,1,2,3,4,5,6,7,8,9,10,11,12,13,14,15,16,17]) .lf)) .keep Sh.fe:=by unfold T2;intros;kernel_rfl
theorem Ei:AF Tryz.prog Gs 136 (ap2 Sh.fe):=Bd mixed ((Af Ci ((Af JZ (As _ _))))) Tryz.func136 (by kernel_rfl) Lz
noncomputable def NW:Orc:=(ent 81 (ap1 Sh.fb) (ent 136 (ap2 Sh.fe) (ent 135 (ap2 Sh.f5) noO)))
theorem NE:T2 Tryz.prog Gs false NW Tryz.f80 (.tw (.tw .lf (.tw .lf .lf)) (.join [0,1] (.tw .lf (.tw .lf .lf)) (.join [0] (.tw .lf (.tw .lf .lf)) .lf))) .keep Sh.fo:=by unfold T2;intros;kernel_rfl
theorem ME:AF Tryz.prog Gs 80 (ap2 Sh.fo):=Bd mixed ((Af Ci ((Af Ei ((Af CS (As _ _))))))) Tryz.func80 (by kernel_rfl) NE
noncomputable def UY:Orc:=noO
theorem UP:T1 Tryz.prog Gs false UY Tryz.f194 (.tw .lf (.tw .lf .lf)) .keep Sh.f28:=by unfold T1;intros;kernel_rfl
theorem U5:AF Tryz.prog Gs 194 (ap1 Sh.f28):=Bc mixed (As _ _) Tryz.func194 (by kernel_rfl) UP
noncomputable def LZ:Orc:=(ent 81 (ap1 Sh.fb) (ent 194 (ap1 Sh.f28) (ent 135 (ap2 Sh.f5) noO)))
theorem L0:T2 Tryz.prog Gs false LZ Tryz.f137 (.tw .lf (.tw .lf (.tw (.one (.loop [0,1,5] (.tw (.tw (.reg [0,1,2,3,4,5,6,7,8,9,10,11,12,13,14,15,16,17,18,19,20,21,22,23]) (.tw .lf .lf)) (.one .lf)))) (.join [0,5] (.tw .lf (.tw .lf .lf)) (.tw (.reg [0,1,2,3,4,5,6,7,8,9,10]) .lf))))) .keep Sh.f1i:=by unfold T2;intros;kernel_rfl
theorem Lk:AF Tryz.prog Gs 137 (ap2 Sh.f1i):=Bd mixed ((Af Ci ((Af U5 ((Af CS (As _ _))))))) Tryz.func137 (by kernel_rfl) L0
noncomputable def KR:Orc:=noO
theorem K6:T1 Tryz.prog Gs false KR Tryz.f195 .lf .keep Sh.f29:=by unfold T1;intros;kernel_rfl
theorem Kc:AF Tryz.prog Gs 195 (ap1 Sh.f29):=Bc mixed (As _ _) Tryz.func195 (by kernel_rfl) K6
noncomputable def HQ:Orc:=noO
theorem HN:T2 Tryz.prog Gs false HQ Tryz.f232 (.tw .lf (.tw .lf .lf)) .keep Sh.f2a:=by unfold T2;intros;kernel_rfl
theorem HJ:AF Tryz.prog Gs 232 (ap2 Sh.f2a):=Bd mixed (As _ _) Tryz.func232 (by kernel_rfl) HN
noncomputable def HR:Orc:=(ent 232 (ap2 Sh.f2a) noO)
theorem HO:T2 Tryz.prog Gs false HR Tryz.f233 (.tw .lf (.tw (.tw .lf (.tw (.tw .lf .lf) .lf)) (.tw .lf .lf))) .keep Sh.f40:=by unfold T2;intros;kernel_rfl
theorem HK:AF Tryz.prog Gs 233 (ap2 Sh.f40):=Bd mixed ((Af HJ (As _ _))) Tryz.func233 (by kernel_rfl) HO
noncomputable def KP:Orc:=(ent 233 (ap2 Sh.f40) noO)
theorem K4:T2 Tryz.prog Gs false KP Tryz.f224 (.tw .lf (.tw .lf .lf)) .keep Sh.f2b:=by unfold T2;intros;kernel_rfl
theorem Ka:AF Tryz.prog Gs 224 (ap2 Sh.f2b):=Bd mixed ((Af HK (As _ _))) Tryz.func224 (by kernel_rfl) K4
noncomputable def TF:Orc:=(ent 234 (ap2 Sh.f23) noO)
theorem SY:T2 Tryz.prog Gs false TF Tryz.f225 (.tw .lf (.tw (.tw .lf (.tw (.tw .lf .lf) .lf)) (.tw .lf (.tw .lf (.tw (.tw .lf (.tw (.tw .lf .lf) .lf)) (.tw .lf .lf)))))) .keep Sh.f2c:=by unfold T2;intros;kernel_rfl
theorem Sj:AF Tryz.prog Gs 225 (ap2 Sh.f2c):=Bd mixed ((Af JY (As _ _))) Tryz.func225 (by kernel_rfl) SY
noncomputable def orc_limb_Mul:Orc:=(ent 201 (ap1 Sh.f0) noO)
theorem tie_limb_Mul:T3 Tryz.prog Gs false orc_limb_Mul Tryz.f226 (.tw .lf (.tw .lf (.tw .lf (.tw (.tw .lf (.one (.loop [0,1,7,8,17,18,19] (.tw .lf (.tw (.tw .lf .lf) (.tw (.one (.tw .lf (.tw .lf (.tw .lf .lf)))) .lf)))))) (.tw .lf (.tw .lf .lf)))))) .pureN Sh.f2d:=by unfold T3;intros;kernel_rfl
theorem Vo:AF Tryz.prog Gs 226 (ap3 Sh.f2d):=FV mixed ((Af Dm (As _ _))) Tryz.func226 (by kernel_rfl) tie_limb_Mul
noncomputable def Vc:Orc:=(ent 224 (ap2 Sh.f2b) (ent 226 (ap3 Sh.f2d) (ent 225 (ap2 Sh.f2c) noO)))
theorem UT:T1 Tryz.prog Gs false Vc Tryz.f196 (.tw .lf (.tw .lf (.tw (.one (.join [2,4,5,14] (.tw .lf (.tw .lf (.tw .lf (.tw .lf .lf)))) (.tw (.tw .lf .lf) (.tw .lf (.tw (.tw .lf .lf) .lf))))) (.tw .lf (.tw (.tw .lf (.one (.loop [2,5,6,36] (.tw .lf (.tw (.tw .lf .lf) (.one (.tw .lf .lf))))))) (.tw .lf .lf)))))) .pureN Sh.f2e:=by unfold T1;intros;kernel_rfl
theorem U8:AF Tryz.prog Gs 196 (ap1 Sh.f2e):=Bc mixed ((Af Ka ((Af Vo ((Af Sj (As _ _))))))) Tryz.func196 (by kernel_rfl) UT
noncomputable def J8:Orc:=(ent 136 (ap2 Sh.fe) (ent 135 (ap2 Sh.f5) (ent 195 (ap1 Sh.f29) (ent 196 (ap1 Sh.f2e) noO))))
theorem Jo:T3 Tryz.prog Gs false J8 Tryz.f138 (.tw .lf (.tw .lf (.join [0,2,6,7] (.tw .lf (.tw (.tw .lf (.tw .lf (.tw .lf .lf))) .lf)) (.tw .lf (.tw (.one (.loop [0,2,6,7,8] (.tw (.tw .lf (.tw .lf .lf)) (.one (.join [0,2,6,7,8] (.one (.tw .lf (.tw .lf (.tw .lf (.tw .lf .lf))))) .lf))))) (.join [0,6,7] (.tw .lf (.tw .lf .lf)) (.tw (.reg [0,1,2,3,4,5,6,7,8,9,10,11,12,14,15,13,16]) (.tw .lf .lf)))))))) .keepN Sh.f1j:=by unfold T3;intros;kernel_rfl
theorem IW:AF Tryz.prog Gs 138 (ap3 Sh.f1j):=FV mixed ((Af Ei ((Af CS ((Af Kc ((Af U8 (As _ _))))))))) Tryz.func138 (by kernel_rfl) Jo
noncomputable def KQ:Orc:=(ent 136 (ap2 Sh.fe) (ent 79 (ap3 Sh.fn) (ent 137 (ap2 Sh.f1i) (ent 138 (ap3 Sh.f1j) noO))))
theorem K5:T1 Tryz.prog Gs false KQ Tryz.f82 (.tw (.tw .lf (.tw (.tw .lf (.tw .lf .lf)) .lf)) (.tw .lf (.tw .lf (.tw .lf (.reg [1,2,3,4,5,6,7,8,9,0,10,11,12]))))) .keep Sh.f2f:=by unfold T1;intros;kernel_rfl
theorem Kb:AF Tryz.prog Gs 82 (ap1 Sh.f2f):=Bc mixed ((Af Ei ((Af Gk ((Af Lk ((Af IW (As _ _))))))))) Tryz.func82 (by kernel_rfl) K5
noncomputable def LW:Orc:=(ent 79 (ap3 Sh.fn) (ent 80 (ap2 Sh.fo) (ent 81 (ap1 Sh.fb) (ent 82 (ap1 Sh.f2f) noO))))
theorem Lw:T1 Tryz.prog Gs false LW Tryz.f38 (.tw .lf (.tw .lf (.one (.loop [0] (.tw (.tw .lf (.tw .lf .lf)) (.one (.tw .lf .lf))))))) .keep Sh.f1k:=by unfold T1;intros;kernel_rfl
theorem Lj:AF Tryz.prog Gs 38 (ap1 Sh.f1k):=Bc mixed ((Af Gk ((Af ME ((Af Ci ((Af Kb (As _ _))))))))) Tryz.func38 (by kernel_rfl) Lw
theorem Ik:AF Tryz.prog Gs 37 (ap1 Sh.f1l):=Vt ((Af Lj (As _ _)))
noncomputable def Qw:Orc:=noO
theorem Qf:T1 Tryz.prog Gs false Qw Tryz.f148 (.tw .lf (.tw .lf .lf)) .pure Sh.f2g:=by unfold T1;intros;kernel_rfl
theorem Il:AF Tryz.prog Gs 148 (ap1 Sh.f2g):=Bc mixed (As _ _) Tryz.func148 (by kernel_rfl) Qf
noncomputable def Vd:Orc:=(ent 140 (ap1 Sh.fa) noO)
theorem UU:T1 Tryz.prog Gs false Vd Tryz.f85 (.tw .lf (.tw .lf .lf)) .pure Sh.f1m:=by unfold T1;intros;kernel_rfl
theorem U9:AF Tryz.prog Gs 85 (ap1 Sh.f1m):=Bc mixed ((Af K2 (As _ _))) Tryz.func85 (by kernel_rfl) UU
noncomputable def TI:Orc:=(ent 85 (ap1 Sh.f1m) noO)
theorem Tb:T1 Tryz.prog Gs false TI Tryz.f84 (.tw .lf (.tw .lf .lf)) .pure Sh.f42:=by unfold T1;intros;kernel_rfl
theorem Sn:AF Tryz.prog Gs 84 (ap1 Sh.f42):=Bc mixed ((Af U9 (As _ _))) Tryz.func84 (by kernel_rfl) Tb
end Go.Gm
