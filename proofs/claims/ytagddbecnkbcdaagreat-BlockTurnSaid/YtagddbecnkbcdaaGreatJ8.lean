/- Texts of this proof, joined. -/
import Derived.Test.YtagddbecnkbcdaaGreatJ2
import Derived.Test.YtagddbecnkbcdaaGreatJ3
import Derived.Test.YtagddbecnkbcdaaGreatJ4
import Derived.Test.YtagddbecnkbcdaaGreatJ5
import Derived.Test.YtagddbecnkbcdaaGreatJ6
import Derived.Test.YtagddbecnkbcdaaGreatJ7
set_option linter.all false
namespace Go.Gm
theorem c06_shrink (L:List Nd)(tk:Tok)(n:Nat)(H:Aa)(hL:L.length<3518437200000)(hl:AB L=true)(hn:n<=L.length) :
  Sh.f2m (.sl (enL cNd L) tk) (.i6 (n:Int)) H=some (.ret (.tup [.sl (enL cNd (DH L n).1) .no,.i6 ((DH L n).2:Int)]),H):=by
 unfold Sh.f2m;rw[c_clone L tk H (by omega)];by_cases h0:L=[]
 ·subst h0;have dZ:n=0:=by simpa using hn
  subst dZ;have he:=VH [] .ti 0 H (by simp) hl (VV _);have oA:(A4 ([]:List Nd)).getD 0 true=true:=rfl;have hs:DH [] 0=([],0):=rfl;rw[show Ab.sl (enL cNd []) .ti=Ab.sl [] .ti from rfl,oA]at he;rw[hs];have:=Mf (H0:=H) (v:=.tup [.sl [] .ti,.i6 0]);simp only[GMw,HPw,Nat.reduceAdd,Nat.reduceLT,if_true,he,this]
  rfl
 ·simp only[GMw,h0,if_false,VH L _ n _ (show L.length<140737488355327 by omega) hl hn];unfold DH;cases eT:(A4 L).getD n true with
  | true=>simp only[GMw,HPw,Nat.reduceAdd,Nat.reduceLT,if_true];rfl
  | false=>
   simp only[GMw,HPw,Nat.reduceAdd,Nat.reduceLT,VY,if_false];have aJ:(A9 L n).lv<=1329:=by
    cases n with
    | zero=>exfalso;rw[DW]at eT;cases eT
    | succ m=>rw[Ba hn];exact (AO hl hn).2.1
   have key:=Bq (G:=λrec1 vs H1=>Sh.f7a H rec1 (ag vs 0) (ag vs 1) H1) (σ:=List Nd×Nat×Aa) (λs=>AB s.1=true/\s.2.1<=s.1.length/\s.1.length+(A9 s.1 s.2.1).lv.toNat<3518437208883/\s.1.length+(A9 s.1 s.2.1).lv.toNat<3518437208883)
    (λs=>[.sl (enL cNd s.1) (.own H.length),.i6 (s.2.1:Int)]) (λs=>H++.tok s.1.length AN 5::s.2.2) (λs=>(A9 s.1 s.2.1).lv.toNat)
    (λs=>some (.ret (.tup [.sl (enL cNd (BN (A9 s.1 s.2.1).lv.toNat s.1 s.2.1).1) .no,.i6 ((BN (A9 s.1 s.2.1).lv.toNat s.1 s.2.1).2:Int)]),H)) (λs rec hs hrec=>?_) (L,n,[]) ⟨hl,hn,by dsimp only;omega,by dsimp only;omega⟩ (by dsimp only;omega)
   ·exact key
   ·obtain⟨M,i,G⟩:=s;obtain⟨hs1,nA,pT,tY⟩:=hs;simp only at hs1 nA pT tY hrec ⊢;unfold Sh.f7a;simp only[GMw,Aj,c05_hollow M _ i _ (show M.length<140737488355327 by omega) hs1 nA];cases hh:DA M i with
    | false=>
     have:BN (A9 M i).lv.toNat M i=(M,i):=by
      cases (A9 M i).lv.toNat with
      | zero=>rfl
      | succ f=>simp[BN,hh]
     simp only[GMw,HPw,Nat.reduceAdd,Nat.reduceLT,this]
    | true=>
     obtain⟨jC,gD⟩:=Nm hh;obtain⟨m,rfl⟩:∃m,i=m+1:=⟨i-1,by omega⟩;have hm:m<M.length:=nA;obtain⟨l1,l2,l3⟩:=AO hs1 hm;have hx:A9 M ((m+1:Nat):Int)=M[m]:=Ba hm;rw[hx]at gD pT hrec ⊢;have cQ:IntKind.i64.wrap (((m+1:Nat):Int)-1)=(m:Int):=by rw[Ao] <;> omega
     have mA:IntKind.i64.wrap (M[m].lv-1)=M[m].lv-1:=Ao (by omega) (by omega);have jF:BN M[m].lv.toNat M (m+1)=BN (M[m].lv-1).toNat (M++[Cd M (m+1)]) (M.length+1):=by
      rw[show M[m].lv.toNat=(M[m].lv-1).toNat+1 from by omega];simp only[BN,hh,if_true]
     generalize hB:H++.tok M.length AN 5::G=B;simp only[GMw,Ar,Ah,AE,VU,Nat.add_zero,Wg,Co,cQ,A1 hm,mA,TI,Pv,JQ (Al (B:=B) (cs:=cNd nd0)) rfl,Be];refine Cm (G:=λaA vs H1=>Sh.f4x H rec aA (ag vs 0) (ag vs 1) (ag vs 2) (ag vs 3) H1) 4 (λk=>[.sl (enL cNd M) (.own H.length),.i6 ((m+1:Nat):Int),.ptr B.length 0 0,.i6 (k:Int)]) (λk=>B++[.cel 0 (cNd (UI (IX M M[m]) ⟨M[m].lv-1,0,0,0,0⟩ k))]) _ (by decide) (λaA k hk=>?_) (λaA=>?_)
     ·have hk':(k:Int)<4:=by omega
      unfold Sh.f4x;have nW:=c06_inner M (.own H.length) m k (B++[.cel 0 (cNd (UI (IX M M[m]) ⟨M[m].lv-1,0,0,0,0⟩ k))]) (by omega) hs1 hm gD hk;simp only[GMw,Aj,hk',nW,Ah,VU,HZ hk,ET (Al (B:=B)) hk,Be,Au (show k<9223372036854775807 by omega)]
      rfl
     ·have hf:¬(((4:Nat):Int)<4):=by decide
      have nZ:(⟨M[m].lv-1,IX M M[m] 0,IX M M[m] 1,IX M M[m] 2,IX M M[m] 3⟩:Nd)=Cd M (m+1):=by unfold Cd;rw[hx]
      unfold Sh.f4x;rw[UH];simp only[GMw,Aj,hf,HY (Al (B:=B)),Ks];rw[<-hB,VZ,List.cons_append,VL (by omega)];simp only[GMw,Ax,VX,zXi,nZ];have eF:(A9 (M++[Cd M (m+1)]) ((M.length+1:Nat):Int)).lv=M[m].lv-1:=by
       rw[Ba (by simp),show (M++[Cd M (m+1)])[M.length]'(by simp)=Cd M (m+1) from by simp];show (A9 M ((m+1:Nat):Int)).lv-1=_;rw[hx]
      have:=hrec (M++[Cd M (m+1)],M.length+1,G++[.cel 0 (cNd (Cd M (m+1)))]) ⟨Nl hs1 hm gD,by simp,by dsimp only;rw[eF];simp;omega,by dsimp only;rw[eF];simp;omega⟩ (by dsimp only;rw[eF];omega);simp only[VX,zXi]at this;rw[this,eF,jF]
section
variable {α β:Type}{f:α->List Ab}{g:β->List Ab}{ty ty2:TypeId}{sz sz2:Nat}
structure Grown (v v':Ab)(H H':Aa):Prop where
 len:H.length<=H'.length
 keep:∀i,i<H.length->(∀es,v≠.sl es (.own i))->H'[i]? = H[i]?
 own:∀i es,v'=.sl es (.own i)->H.length<=i\/∃es',v=.sl es' (.own i)
theorem RS.snoc2 [hf:Sz f sz]{bytes b:Nat}{out:List α}{v:Ab}{H:Aa}(h:RS f ty sz b out v H)(hb:b<=H.length)(x:α)(tk:Tok)(hl:(out.length+1)*bytes<=140737488355328)(gQ:out.length+1<=140737488355328) :
  ∃v' H',AW ty sz bytes v (.sl (enL f [x]) tk) H=some (v',H')/\RS f ty sz b (out++[x]) v' H'/\Kp b H H'/\Grown v v' H H':=by
 rcases h with ⟨rfl,rfl⟩ | ⟨t,h1,rfl,h3⟩
 ·have:=CR (f:=f) (l:=[]) (m:=[x]) (ty:=ty) (bytes:=bytes) (tk:=tk) (H:=H) (by simp) (by simpa using hl) (by simp);refine⟨_,_,this,.inr ⟨H.length,hb,rfl,by simp⟩,Kp.app hb _,by simp,λi hi _=>VR hi,λi es e=>?_⟩;injection e with _ e;injection e with e;exact .inl (by omega)
 ·have:=Fr (f:=f) (l:=out) (m:=[x]) (ty:=ty) (bytes:=bytes) (tk:=tk) (H:=H) (t:=t) (by simp) h3 (by simpa using hl) (by simpa using gQ);have jA:=(VP.1 h3).1;refine⟨_,_,this,.inr ⟨t,h1,rfl,by simp[jA]⟩,⟨by simp,λi cs hc=>?_,λi hi=>?_⟩,by simp,λi hi hne=>?_,λi es e=>?_⟩
  ·have:t≠i:=λe=>by rw[<-e,h3]at hc;cases hc
   rw[VT this];exact hc
  ·rw[VT (by omega)]
  ·have:t≠i:=λe=>hne _ (by rw[e]);rw[VT this]
  ·injection e with _ e;injection e with e;exact .inr ⟨_,by rw[e]⟩
theorem RS.notok {b i:Nat}{out:List α}{v:Ab}{H:Aa}{B:Blk}(h:RS f ty sz b out v H)(hB:H[i]? = some B)(hn:∀n e s,B≠.tok n e s):∀es,v≠.sl es (.own i):=by
 intro es e;rcases h with ⟨_,k1⟩ | ⟨t,_,k1,k2⟩
 ·rw[k1]at e;injection e with _ e;cases e
 ·rw[k1]at e;injection e with _ e;injection e with e
  rw[e,hB]at k2;injection k2 with k2
  exact hn _ _ _ k2
theorem RS.setB {b i:Nat}{out:List α}{v:Ab}{H:Aa}{B B':Blk}(h:RS f ty sz b out v H)(hB:H[i]? = some B)(hn:∀n e s,B≠.tok n e s):RS f ty sz b out v (H.set i B'):=by
 have hne:=h.notok hB hn;rcases h with h1 | ⟨t,h1,h2,h3⟩
 ·exact .inl h1
 ·refine .inr ⟨t,h1,h2,?_⟩;have:i≠t:=λe=>hne _ (by rw[h2,e]);rw[VT this];exact h3
theorem RS.one {b:Nat}{out:List α}{v:Ab}{H:Aa}(h:RS f ty sz b out v H):v.isScal=true:=by
 obtain⟨tk,rfl⟩:=h.sl;rfl
theorem RS.len {b:Nat}{out:List α}{v:Ab}{H:Aa}(h:RS f ty sz b out v H):A7 v=some (.i6 (out.length:Int)):=by
 obtain⟨tk,rfl⟩:=h.sl;exact Ax
end
theorem nodup_le:∀(N:Nat) (l:List Nat),l.Nodup->(∀x∈l,x<N)->l.length<=N:=by
 intro N
 induction N with
 | zero=>
  intro l _ h;cases l with
  | nil=>simp
  | cons a l=>have:=h a (by simp);omega
 | succ N ih=>
  intro l hn h;by_cases hN:N∈l
  ·have h1:=List.length_erase_of_mem hN;have h2:=ih (l.erase N) (hn.erase N) (λx hx=>by
    rw[hn.mem_erase_iff]at hx;have:=h x hx.2;omega)
   have:=List.length_pos_of_mem hN;omega
  ·have:=ih l hn (λx hx=>by
    have:=h x hx;have:x≠N:=λe=>hN (e ▸ hx);omega)
   omega
def knF:Nat->List Nd->List (Ab×Ab)
 | _,[]=>[]
 | s,x::l=>(.agg (cNd x),.i6 ((s+1:Nat):Int))::knF (s+1) l
theorem Tn (a:Nd)(l:List Nd)(y:Nd):Ct (a::l) y=if a=y then 1 else if Ct l y=0 then 0 else Ct l y+1:=by
 by_cases h:a=y
 ·rw[if_pos h,Et];exact⟨by simp[h],λj hj=>by omega⟩
 ·rw[if_neg h];cases hf:Ct l y with
  | zero=>
   rw[if_pos rfl,Jb];rw[Jb]at hf;intro hm;rcases WG.1 hm with e | e
   ·exact h e.symm
   ·exact hf e
  | succ i=>
   rw[if_neg (by omega),Et];rw[Et]at hf;refine⟨by simpa using hf.1,λj hj=>?_⟩;cases j with
   | zero=>simpa using h
   | succ j=>simpa using hf.2 j (by omega)
theorem key_nd (y:Nd):DV true 5 (.agg (cNd y))=some (cNd y):=(rfl)
theorem Vh (y:Nd):∀(l:List Nd) (s:Nat),EO true 5 (knF s l) (cNd y)=some (if Ct l y=0 then none else some (.i6 ((s+Ct l y:Nat):Int)))
 | [],s=>by
  have:Ct [] y=0:=by rw[Jb];simp
  simp[knF,EO,this]
 | a::l,s=>by
  have ih:=Vh y l (s+1);simp only[knF,EO,key_nd,BH,Ph];rw[Tn];by_cases h:a=y
  ·subst h;simp
  ·have h':¬y=a:=λe=>h e.symm;rw[zXd h',if_neg h];simp only[VY,if_false,ih];by_cases h0:Ct l y=0
   ·simp[h0]
   ·rw[if_neg h0,if_neg (by rw[if_neg h0];omega),if_neg h0]
    congr 3;omega
theorem Uy (y:Nd):∀(l:List Nd) (s:Nat),Ct l y=0->D5 true 5 (knF s l) (.agg (cNd y)) (cNd y) (.i6 ((s+l.length+1:Nat):Int))=some (knF s (l++[y]))
 | [],s,_=>rfl
 | a::l,s,h=>by
  rw[Tn]at h;by_cases ha:a=y
  ·rw[if_pos ha]at h;omega
  ·rw[if_neg ha]at h;have h0:Ct l y=0:=by
    by_cases h0:Ct l y=0
    ·exact h0
    ·rw[if_neg h0]at h;omega
   have h':¬y=a:=λe=>ha e.symm;have ih:=Uy y l (s+1) h0;simp only[knF,D5,key_nd,BH,Ph,List.cons_append];rw[zXd h'];simp only[VY,if_false];rw[zXj,show s+(l.length+1)+1=s+1+l.length+1 by omega,ih]
   rfl
def dnM (D:List (Nat×Nat)):List (Ab×Ab):=D.map λp=>(.i6 (p.1:Int),.i6 (p.2:Int))
def lkD (D:List (Nat×Nat))(n:Nat):Option Nat:=match D with
 | []=>none
 | p::r=>if p.1=n then some p.2 else lkD r n
theorem lkD_mem {n m:Nat}:∀ {D:List (Nat×Nat)},lkD D n=some m->(n,m)∈D
 | [],h=>by cases h
 | p::r,h=>by
  unfold lkD at h;by_cases hp:p.1=n
  ·rw[if_pos hp]at h;injection h with h;subst hp;subst h;exact XS
  ·rw[if_neg hp]at h;exact List.mem_cons_of_mem _ (lkD_mem h)
theorem lkD_none {n:Nat}:∀ {D:List (Nat×Nat)},lkD D n=none->n ∉ D.map (·.1)
 | [],h=>by simp
 | p::r,h=>by
  unfold lkD at h;by_cases hp:p.1=n
  ·rw[if_pos hp]at h;cases h
  ·rw[if_neg hp]at h;have:=lkD_none h;simp only[XC,WG,not_or];exact⟨λe=>hp e.symm,this⟩
theorem lkD_app {n:Nat}{p:Nat×Nat}:∀ {D:List (Nat×Nat)},lkD (D++[p]) n=(match lkD D n with | some m=>some m | none=>if p.1=n then some p.2 else none)
 | []=>by simp[lkD]
 | q::r=>by
  have ih:=lkD_app (n:=n) (p:=p) (D:=r);simp only[List.cons_append,lkD];by_cases hq:q.1=n
  ·simp only[if_pos hq]
  ·simp only[if_neg hq,ih]
theorem nat_cell (a b:Nat):BO [.i6 (a:Int)] [.i6 (b:Int)]=some (decide (a=b)):=by
 simp only[BO,HF,if_true,BH]
 congr 1
 rw[Wo];simp;omega
theorem RH (a:Int):DV false 1 (.i6 a)=some [.i6 a]:=(rfl)
theorem Vi (n:Nat):∀D:List (Nat×Nat),EO false 1 (dnM D) [.i6 (n:Int)]=some ((lkD D n).map λm=>Ab.i6 (m:Int))
 | []=>rfl
 | p::r=>by
  have ih:=Vi n r;simp only[dnM,XC,EO,RH,BH,nat_cell,lkD];by_cases hp:p.1=n
  ·subst hp;simp
  ·have:¬n=p.1:=λe=>hp e.symm;rw[zXd this,if_neg hp];simpa[dnM]using ih
theorem Uz (n m:Nat):∀D:List (Nat×Nat),lkD D n=none->D5 false 1 (dnM D) (.i6 (n:Int)) [.i6 (n:Int)] (.i6 (m:Int))=some (dnM (D++[(n,m)]))
 | [],_=>rfl
 | p::r,h=>by
  unfold lkD at h;by_cases hp:p.1=n
  ·rw[if_pos hp]at h;cases h
  ·rw[if_neg hp]at h;have ih:=Uz n m r h;have:¬n=p.1:=λe=>hp e.symm;simp only[dnM,XC,D5,RH,BH,nat_cell,List.cons_append]at ih ⊢;rw[zXd this];simp only[VY,if_false,ih]
   rfl
theorem lookA_dn {H:Aa}{id:Nat}{D:List (Nat×Nat)}(h:H[id]? = some (.map (dnM D)))(n:Nat):F1 false 1 (some (.i6 0)) true (.mp id) (.i6 (n:Int)) H=some (match lkD D n with | some m=>.tup [.i6 (m:Int),.bool true] | none=>.tup [.i6 0,.bool false]):=by
 unfold F1;simp only[BH,RH,h,Vi,zXb];cases lkD D n <;> rfl
theorem updA_dn {H:Aa}{id:Nat}{D:List (Nat×Nat)}(h:H[id]? = some (.map (dnM D))){n:Nat}(m:Nat)(hn:lkD D n=none):Ef false 1 (.mp id) (.i6 (n:Int)) (.i6 (m:Int)) H=some (H.set id (.map (dnM (D++[(n,m)])))):=by
 unfold Ef;simp only[BH,RH,h,Uz n m D hn,zXb]
theorem lookA_kn {H:Aa}{id:Nat}{out:List Nd}(h:H[id]? = some (.map (knF 0 out)))(y:Nd):F1 true 5 (some (.i6 0)) true (.mp id) (.agg (cNd y)) H=some (if Ct out y=0 then .tup [.i6 0,.bool false]else .tup [.i6 (Ct out y:Int),.bool true]):=by
 unfold F1;simp only[BH,key_nd,h,Vh,zXb,VU];by_cases h0:Ct out y=0 <;> simp[h0]
theorem updA_kn {H:Aa}{id:Nat}{out:List Nd}(h:H[id]? = some (.map (knF 0 out))){y:Nd}(hn:Ct out y=0):Ef true 5 (.mp id) (.agg (cNd y)) (.i6 ((out.length+1:Nat):Int)) H=some (H.set id (.map (knF 0 (out++[y])))):=by
 have:=Uy y out 0 hn;rw[VU]at this;unfold Ef;simp only[BH,key_nd,h,this,zXb]
def KA (y:Nd):Bool:=decide (y.k0=0)&&(decide (y.k1=0)&&(decide (y.k2=0)&&decide (y.k3=0)))
theorem eq_kids (y:Nd):Ae (.flat 4) .eql (.agg (Jz y)) (.agg [.i6 0,.i6 0,.i6 0,.i6 0])=some (.bool (KA y)):=by
 show (eqA (.flat 4) (.agg (Jz y)) (.agg [.i6 0,.i6 0,.i6 0,.i6 0])).map Ab.bool=_;have h:eqA (.flat 4) (.agg (Jz y)) (.agg [.i6 0,.i6 0,.i6 0,.i6 0])=some (KA y):=by
  unfold eqA;simp only[];rw[if_pos (show (Jz y).length=4 from rfl)];simp only[Jz,BO,HF,if_true,BH,YG,GX]
  rfl
 rw[h];rfl
def I3 (out:List Nd)(y:Nd):List Nd×Nat:=if KA y then (out,0)else BF out y
structure AR (b ar km:Nat)(out:List Nd)(v:Ab)(H:Aa):Prop where
 cell:H[ar]? = some (.cel 0 [v,.mp km])
 row:RS cNd AN 5 b out v H
 known:H[km]? = some (.map (knF 0 out))
structure AX (b ar km:Nat)(H H':Aa):Prop where
 len:H.length<=H'.length
 cel:∀(i:Nat) (cs:List Ab),i≠ar->H[i]? = some (.cel 0 cs)->H'[i]? = some (.cel 0 cs)
 map:∀(i:Nat) (es:List (Ab×Ab)),i≠km->H[i]? = some (.map es)->H'[i]? = some (.map es)
 old:∀i,i<b->H'[i]? = H[i]?
theorem AX.trans {b ar km:Nat}{H H1 H2:Aa}(h:AX b ar km H H1)(k:AX b ar km H1 H2):AX b ar km H H2:=
 ⟨Wu h.len k.len,λi cs hi hc=>k.cel i cs hi (h.cel i cs hi hc),λi es hi hc=>k.map i es hi (h.map i es hi hc),λi hi=>(k.old i hi).trans (h.old i hi)⟩
theorem AX.push {b ar km:Nat}{H:Aa}(hb:b<=H.length)(G:Aa):AX b ar km H (H++G):=
 ⟨by simp,λi cs _ h=>A0 h,λi es _ h=>A0 h,λi hi=>VR (by omega)⟩
theorem AR.push {b ar km:Nat}{out:List Nd}{v:Ab}{H:Aa}(h:AR b ar km out v H)(G:Aa):AR b ar km out v (H++G):=
 ⟨A0 h.cell,h.row.left G,A0 h.known⟩
theorem c06_intern {b ar km:Nat}{out:List Nd}{v:Ab}{H:Aa}(h:AR b ar km out v H)(hba:b<=ar)(Zs:b<=km)(hb:b<=H.length)(y:Nd)(ho:out.length<3000000000000) :
  ∃v' H',Sh.f2n (.ptr ar 0 0) (.agg (cNd y)) H=some (.ret (.i6 ((I3 out y).2:Int)),H')/\AR b ar km (I3 out y).1 v' H'/\AX b ar km H H':=by
 have hB:b<=(H++[Blk.cel 0 (cNd y)]).length:=by simp;omega
 have h1:=h.push [.cel 0 (cNd y)];have e1:AX b ar km H (H++[.cel 0 (cNd y)]):=AX.push hb _;have iK:A6 (some [(.i6 0),(.i6 0),(.i6 0),(.i6 0)]) []=some (.agg [.i6 0,.i6 0,.i6 0,.i6 0]):=rfl;unfold Sh.f2n I3;have l0:=C8 (o:=0) (sz:=1) h1.cell;have l1:=C8 (o:=1) (sz:=1) h1.cell;cases hz:KA y with
 | true=>
  simp only[GMw,HPw,Nat.reduceAdd,Nat.reduceLT,Co,FY,Fp,FR,iK,eq_kids,hz,if_true];exact⟨v,_,rfl,h1,e1⟩
 | false=>
  simp only[GMw,HPw,Nat.reduceAdd,Nat.reduceLT,Co,FY,Fp,FR,iK,eq_kids,hz,l1,F4,Ke,lookA_kn h1.known,VY,if_false];unfold BF;by_cases h0:Ct out y=0
  ·obtain⟨v',H2,ha,hr,hk,hg⟩:=RS.snoc2 (bytes:=40) h1.row hB y .ti (by omega) (by omega);have kL:=hk.cel _ _ h1.cell;have hst:=Hs (o:=0) (v:=v') kL hr.one (by simp);have lK:km≠ar:=λe=>by have:=h.known;rw[e,h.cell]at this;cases this
   have wC:ar<H.length:=(VP.1 h.cell).1;have cP:km<H.length:=(VP.1 h.known).1;have nT:∀es,v≠.sl es (.own km):=h.row.notok (B:=.map (knF 0 out)) h.known (λ_ _ _ e=>by cases e);have hk2:H2[km]? = some (.map (knF 0 out)):=by rw[hg.keep km (by simp;omega) nT];exact h1.known
   have hH1:H.length≠ar:=by omega
   have hbox:H2[H.length]? = some (.cel 0 (cNd y)):=hk.cel _ _ Al;have gQ:ar<H2.length:=(VP.1 kL).1;have vH:km<H2.length:=(VP.1 hk2).1;obtain⟨H3,hH3⟩:∃H3,H3=H2.set ar (.cel 0 ([v,.mp km].set 0 v')):=⟨_,rfl⟩;rw[<-hH3]at hst;have mO:H3[ar]? = some (.cel 0 [v',.mp km]):=by rw[hH3,Wf gQ];rfl
   have hk3:H3[km]? = some (.map (knF 0 out)):=by rw[hH3,VT (Ne.symm lK)];exact hk2
   have Zc:H3[H.length]? = some (.cel 0 (cNd y)):=by rw[hH3,VT (Ne.symm hH1)];exact hbox
   have l30:=C8 (o:=0) (sz:=1) mO;have l31:=C8 (o:=1) (sz:=1) mO;have bJ:=updA_kn hk3 h0;obtain⟨H4,hH4⟩:∃H4,H4=H3.set km (.map (knF 0 (out++[y]))):=⟨_,rfl⟩;rw[<-hH4]at bJ;have lR:H4[ar]? = some (.cel 0 [v',.mp km]):=by rw[hH4,VT lK];exact mO
   have l40:=C8 (o:=0) (sz:=1) lR;have hlen:=hr.len;rw[VX,zXi]at hlen;refine⟨v',H4,?_,⟨lR,?_,?_⟩,e1.trans ⟨?_,λi cs hi hc=>?_,λi es hi hc=>?_,λi hi=>?_⟩⟩
   ·simp only[h0,if_true,GMw,HPw,Nat.reduceAdd,Nat.reduceLT,l0,F4,Ke,Co,FY,Fp,FR,Ks,ha,hst,l30,l31,HY Zc,hlen,bJ,l40]
   ·have r3:RS cNd AN 5 b (out++[y]) v' H3:=by rw[hH3];exact hr.put kL
    rw[hH4,if_pos h0];exact r3.setB hk3 (λ_ _ _ e=>by cases e)
   ·rw[hH4,Wf (by rw[hH3,zYa];exact vH)];simp only[h0,if_true]
   ·rw[hH4,zYa,hH3,zYa];exact hk.len
   ·have c2:=hk.cel i cs hc;have hik:i≠km:=λe=>by rw[e,hk2]at c2;cases c2
    rw[hH4,VT (Ne.symm hik),hH3,VT (Ne.symm hi)];exact c2
   ·have zP:i≠ar:=λe=>by rw[e,h1.cell]at hc;cases hc
    have hil:i<(H++[Blk.cel 0 (cNd y)]).length:=(VP.1 hc).1;have cG:∀es',v≠.sl es' (.own i):=h1.row.notok hc (λ_ _ _ e=>by cases e);rw[hH4,VT (Ne.symm hi),hH3,VT (Ne.symm zP),hg.keep i hil cG];exact hc
   ·rw[hH4,VT (by omega),hH3,VT (by omega)];exact hk.old i hi
  ·simp only[h0,if_false,GMw,HPw,Nat.reduceAdd,Nat.reduceLT];exact⟨v,_,rfl,h1,e1⟩
theorem NY (y:Nd):KA y=(List.range 4).all λk=>decide (y.kid k=0):=by
 rw[Ii];simp only[KA,Bool.and_assoc]
 rfl
theorem Ka {L:List Nd}{v n:Nat}{out:List Nd}(h:n=0\/(A4 L).getD n true=true):Bm L (A4 L) v n out=(out,0):=by
 have he:(A4 L).getD n true=true:=by
  rcases h with h | h
  ·rw[h];exact DW L
  ·exact h
 cases v with
 | zero=>rfl
 | succ v=>simp only[Bm,he,if_true]
theorem insF_pos {L:List Nd}{v n:Nat}{out:List Nd}(h:(A4 L).getD n true=false):0<(Bm L (A4 L) (v+1) n out).2:=by
 simp only[Bm,h,VY,if_false];split
 ·exact Mi _ _
 ·exact Mi _ _
theorem PQ (rec:Nat->List Nd->List Nd×Nat)(x:Nd)(out:List Nd):∀k,k<=4->∀j,j<k->(BU rec x k out).2.kid j=((rec (x.kid j).toNat (BU rec x j out).1).2:Int)
 | 0,_,j,h=>by omega
 | k+1,hk,j,h=>by
  simp only[BU];by_cases e:j=k
  ·subst e;rw[QM _ _ (by omega)]
  ·rw[Fu _ _ (by omega) (by omega) e];exact PQ rec x out k (by omega) j (by omega)
theorem Vs {L:List Nd}{v:Nat}(x:Nd)(out:List Nd)(h:∀k,k<4->(x.kid k).toNat=0\/(A4 L).getD (x.kid k).toNat true=true):∀k,k<=4->(BU (Bm L (A4 L) v) x k out).1=out
 | 0,_=>rfl
 | k+1,hk=>by
  simp only[BU];rw[Ka (h k (by omega))];exact Vs x out h k (by omega)
theorem intern_ins {L:List Nd}(hl:AB L=true){m v:Nat}(hm:m<L.length)(hv:L[m].lv.toNat=v+1)(out:List Nd) :
  I3 (BU (Bm L (A4 L) v) L[m] (if 1<L[m].lv then 4 else 0) out).1 (BU (Bm L (A4 L) v) L[m] (if 1<L[m].lv then 4 else 0) out).2=Bm L (A4 L) (v+1) (m+1) out:=by
 obtain⟨l1,l2,l3⟩:=AO hl hm;have hx:A9 L ((m+1:Nat):Int)=L[m]:=Ba hm;have he:=Pa hl (n:=m+1) (by omega) hm;rw[hx]at he;by_cases h1:1<L[m].lv
 ·rw[if_pos h1];cases hE:(A4 L).getD (m+1) true with
  | true=>
   rw[hE]at he;have hk:∀k,k<4->(L[m].kid k).toNat=0\/(A4 L).getD (L[m].kid k).toNat true=true:=λk hk=>by
    have:=Wi.1 he.symm k (by simpa using hk);simp only[WS,zXe,Wc]at this;rcases this with h | h
    ·left;rw[h];rfl
    ·exact .inr h.2
   have hn:KA (BU (Bm L (A4 L) v) L[m] 4 out).2=true:=by
    rw[NY,Wi];intro k hk';have bQ:k<4:=by simpa using hk'
    rw[zXe,PQ _ _ _ 4 (by omega) k bQ,Ka (hk k bQ)];rfl
   unfold I3;rw[hn,if_pos rfl,Vs _ _ hk 4 (by omega)];simp only[Bm,hE,if_true]
  | false=>
   rw[hE]at he;have:¬ ∀k,k<4->(L[m].kid k=0\/(A4 L).getD (L[m].kid k).toNat true=true):=λh=>by
    have:((List.range 4).all λk=>decide (L[m].kid k=0)||(decide (1<L[m].lv)&&(A4 L).getD (L[m].kid k).toNat true))=true:=by
     rw[Wi];intro k hk;have:=h k (by simpa using hk);simp only[WS,zXe,Wc];rcases this with q | q
     ·exact .inl q
     ·exact .inr ⟨h1,q⟩
    rw[this]at he;cases he
   have ⟨k,bQ,eI⟩:∃k,k<4/\¬(L[m].kid k=0\/(A4 L).getD (L[m].kid k).toNat true=true):=by
    by_cases h:∃k,k<4/\¬(L[m].kid k=0\/(A4 L).getD (L[m].kid k).toNat true=true)
    ·exact h
    ·exact absurd (λk hk=>Decidable.byContradiction λhc=>h ⟨k,hk,hc⟩) this
   have hn:KA (BU (Bm L (A4 L) v) L[m] 4 out).2=false:=by
    rw[NY,Xy];refine⟨k,by simpa using bQ,?_⟩;rw[zXe,PQ _ _ _ 4 (by omega) k bQ];obtain⟨v',rfl⟩:∃v',v=v'+1:=⟨v-1,by omega⟩;have:=insF_pos (L:=L) (v:=v') (n:=(L[m].kid k).toNat) (out:=(BU (Bm L (A4 L) (v'+1)) L[m] k out).1) (by
     cases hq:(A4 L).getD (L[m].kid k).toNat true with
     | false=>rfl
     | true=>exact absurd (.inr hq) eI)
    omega
   unfold I3;rw[hn];simp only[Bm,hE,VY,if_false,hx,if_pos h1]
 ·rw[if_neg h1];have hn:KA L[m]=(A4 L).getD (m+1) true:=by
   rw[he,NY,Ii,Ii];simp[h1]
  unfold I3;simp only[BU,Bm,hn,hx,if_neg h1]
structure Seat where
 b:Nat
 pd:Nat
 pl:Nat
 pv:Nat
 pa:Nat
 ar:Nat
 km:Nat
 dm:Nat
structure VQ (s:Seat)(L:List Nd)(tk:Tok)(out:List Nd)(D:List (Nat×Nat))(H:Aa):Prop where
 hb:s.b<=s.ar/\s.b<=s.km/\s.b<=s.dm/\s.km≠s.dm
 ne:s.pd≠s.ar/\s.pl≠s.ar/\s.pv≠s.ar/\s.pa≠s.ar
 done:H[s.pd]? = some (.cel 0 [.mp s.dm])
 list:H[s.pl]? = some (.cel 0 [.sl (enL cNd L) tk])
 self:H[s.pv]? = some (.cel 0 [.fn 161 [.ptr s.pd 0 0,.ptr s.pl 0 0,.ptr s.pv 0 0,.ptr s.pa 0 0]])
 arena:H[s.pa]? = some (.cel 0 [.ptr s.ar 0 0])
 nodes:∃v,AR s.b s.ar s.km out v H
 nums:H[s.dm]? = some (.map (dnM D))
structure VD (L out:List Nd)(D:List (Nat×Nat)):Prop where
 nd:(D.map (·.1)).Nodup
 le:∀p∈D,p.1<=L.length
 val:∀p∈D,Bm L (A4 L) (A9 L (p.1:Int)).lv.toNat p.1 out=(out,p.2)
 cnt:out.length<D.length
 zero:lkD D 0=some 0
theorem VD.short {L out:List Nd}{D:List (Nat×Nat)}(h:VD L out D):out.length<=L.length:=by
 have:=nodup_le (L.length+1) (D.map (·.1)) h.nd (λx hx=>by
  obtain⟨p,hp,rfl⟩:=Xj.1 hx;have:=h.le p hp;omega)
 rw[WW]at this;have:=h.cnt;omega
theorem VQ.len {s:Seat}{L:List Nd}{tk:Tok}{out:List Nd}{D:List (Nat×Nat)}{H:Aa}(h:VQ s L tk out D H):s.b<=H.length:=by
 obtain⟨v,h1⟩:=h.nodes;have:=(VP.1 h1.cell).1;have:=h.hb.1;omega
theorem VQ.cells {s:Seat}{L:List Nd}{tk:Tok}{out:List Nd}{D:List (Nat×Nat)}{H H':Aa}(h:VQ s L tk out D H)(hk:∀i,i<H.length->H'[i]? = H[i]?)(hl:H.length<=H'.length):VQ s L tk out D H':=by
 have g:∀ {i:Nat} {x:Blk},H[i]? = some x->H'[i]? = some x:=λhx=>by rw[hk _ (VP.1 hx).1];exact hx
 obtain⟨v,h1⟩:=h.nodes;refine⟨h.hb,h.ne,g h.done,g h.list,g h.self,g h.arena,⟨v,g h1.cell,?_,g h1.known⟩,g h.nums⟩;rcases h1.row with r | ⟨t,r1,r2,r3⟩
 ·exact .inl r
 ·exact .inr ⟨t,r1,r2,g r3⟩
theorem VQ.put {s:Seat}{L:List Nd}{tk:Tok}{out:List Nd}{D:List (Nat×Nat)}{H:Aa}{q:Nat}{x y:Nd}(h:VQ s L tk out D H)(hq:H[q]? = some (.cel 0 (cNd x))):VQ s L tk out D (H.set q (.cel 0 (cNd y))):=by
 obtain⟨v,h1⟩:=h.nodes;have n5:∀ {i:Nat} {c:List Ab},H[i]? = some (.cel 0 c)->c.length≠5->(H.set q (.cel 0 (cNd y)))[i]? = some (.cel 0 c):=λ{i c} hi hc=>by
  have:q≠i:=λe=>by rw[e,hi]at hq;injection hq with hq;injection hq with _ hq;rw[hq]at hc;exact hc rfl
  rw[VT this];exact hi
 have nm:∀ {i:Nat} {es:List (Ab×Ab)},H[i]? = some (.map es)->(H.set q (.cel 0 (cNd y)))[i]? = some (.map es):=λ{i es} hi=>by
  have:q≠i:=λe=>by rw[e,hi]at hq;cases hq
  rw[VT this];exact hi
 exact⟨h.hb,h.ne,n5 h.done (by simp),n5 h.list (by simp),n5 h.self (by simp),n5 h.arena (by simp),⟨v,n5 h1.cell (by simp),h1.row.put hq,nm h1.known⟩,nm h.nums⟩
theorem VD.grow {L out:List Nd}{D:List (Nat×Nat)}(h:VD L out D)(r:List Nd):∀p∈D,Bm L (A4 L) (A9 L (p.1:Int)).lv.toNat p.1 (out++r)=(out++r,p.2):=by
 intro p hp;have h3:=h.val p hp;have:=IW (L:=L) (E:=A4 L) (A9 L (p.1:Int)).lv.toNat p.1 out r
 rwa [h3]at this
theorem c06_visit {s:Seat}{L:List Nd}{tk:Tok}(hL:L.length<2000000000000)(hl:AB L=true):∀(v n d:Nat) (out:List Nd) (D:List (Nat×Nat)) (H:Aa),n<=L.length->(n=0\/(A9 L (n:Int)).lv.toNat=v)->v<d->VQ s L tk out D H->VD L out D ->
  ∃H' D',Sh.f9 d (.i6 (n:Int)) (.ptr s.pd 0 0) (.ptr s.pl 0 0) (.ptr s.pv 0 0) (.ptr s.pa 0 0) H=some (.ret (.i6 ((Bm L (A4 L) v n out).2:Int)),H') /\
   VQ s L tk (Bm L (A4 L) v n out).1 D' H'/\Ext s.b s.ar H H'/\VD L (Bm L (A4 L) v n out).1 D'/\∀j,n<j->lkD D' j=lkD D j:=by
 intro v
 induction v with
 | zero=>
  intro n d out D H hn hv hd hQ hD;obtain⟨d,rfl⟩:∃e,d=e+1:=⟨d-1,by omega⟩;have dZ:n=0:=by
   rcases hv with h | h
   ·exact h
   ·cases n with
    | zero=>rfl
    | succ m=>
     rw[Ba (show m<L.length from hn)]at h;have:=(AO hl (show m<L.length from hn)).1;omega
  subst dZ;refine⟨H,D,?_,hQ,Ext.refl _ _ _,hD,λ_ _=>rfl⟩;show Sh.f2o (Sh.f9 d) _ _ _ _ _ _=_;have hlk:=lookA_dn hQ.nums 0;rw[hD.zero]at hlk;unfold Sh.f2o;simp only[GMw,HPw,Nat.reduceAdd,Nat.reduceLT,C8 hQ.done,hlk]
  rfl
 | succ v ih=>
  intro n d out D H hn hv hd hQ hD;obtain⟨d,rfl⟩:∃e,d=e+1:=⟨d-1,by omega⟩;show ∃H' D',Sh.f2o (Sh.f9 d) _ _ _ _ _ _=_/\_;have hlk:=lookA_dn hQ.nums n;unfold Sh.f2o;simp only[GMw,HPw,Nat.reduceAdd,Nat.reduceLT,C8 hQ.done,hlk];cases bD:lkD D n with
  | some m=>
   have bO:=lkD_mem bD;have bB:=hD.val _ bO;dsimp only at bB;have eJ:Bm L (A4 L) (v+1) n out=(out,m):=by
    rcases hv with h | h
    ·have:=Ka (L:=L) (v:=(A9 L (n:Int)).lv.toNat) (out:=out) (n:=n) (.inl h);rw[bB]at this;rw[Ka (.inl h)];exact this.symm
    ·rw[h]at bB;exact bB
   rw[eJ];exact⟨H,D,by simp only[GMw,HPw,Nat.reduceAdd,Nat.reduceLT],hQ,Ext.refl _ _ _,hD,λ_ _=>rfl⟩
  | none=>
   obtain⟨m,rfl⟩:∃m,n=m+1:=⟨n-1,by
    cases n with
    | zero=>rw[hD.zero]at bD;cases bD
    | succ n=>rfl⟩
   have hm:m<L.length:=hn;have aO:(A9 L ((m+1:Nat):Int)).lv.toNat=v+1:=by
    rcases hv with h | h
    ·omega
    ·exact h
   obtain⟨l1,l2,l3⟩:=AO hl hm;have hx:A9 L ((m+1:Nat):Int)=L[m]:=Ba hm;rw[hx]at aO;have cQ:IntKind.i64.wrap (((m+1:Nat):Int)-1)=(m:Int):=by rw[Ao] <;> omega
   have vZ:=hQ.len;have hQ1:VQ s L tk out D (H++[.cel 0 (cNd L[m])]):=hQ.cells (λi hi=>VR hi) (by simp);have hE1:Ext s.b s.ar H (H++[.cel 0 (cNd L[m])]):=Ext.snoc vZ _;have hHar:H.length≠s.ar:=by
    obtain⟨v,h1⟩:=hQ.nodes;have:=(VP.1 h1.cell).1;omega
   simp only[GMw,HPw,Nat.reduceAdd,Nat.reduceLT,C8 hQ.list,F4,cQ,A1 hm,Jy,Co,FY,Fp,FR];have fin:∀(Hc:Aa) (D1:List (Nat×Nat)),lkD D1 (m+1)=none->VQ s L tk (BU (Bm L (A4 L) v) L[m] (if 1<L[m].lv then 4 else 0) out).1 D1 Hc->Hc[H.length]? = some (.cel 0 (cNd (BU (Bm L (A4 L) v) L[m] (if 1<L[m].lv then 4 else 0) out).2))->Ext s.b s.ar H Hc->VD L (BU (Bm L (A4 L) v) L[m] (if 1<L[m].lv then 4 else 0) out).1 D1->(∀j,m<j->lkD D1 j=lkD D j) ->
     ∃H' D',Sh.f4y H (.i6 ((m+1:Nat):Int)) (.ptr s.pd 0 0) (.ptr s.pa 0 0) (.ptr H.length 0 0) Hc=some (.ret (.i6 ((Bm L (A4 L) (v+1) (m+1) out).2:Int)),H') /\
      VQ s L tk (Bm L (A4 L) (v+1) (m+1) out).1 D' H'/\Ext s.b s.ar H H'/\VD L (Bm L (A4 L) (v+1) (m+1) out).1 D'/\∀j,m+1<j->lkD D' j=lkD D j:=by
    intro Hc D1 cD hQc hbox hEc hDc oX;have nV:=intern_ins hl hm aO out;have cA:=IW (L:=L) (E:=A4 L) (v+1) (m+1) out [];rw[Wx]at cA;generalize BU (Bm L (A4 L) v) L[m] (if 1<L[m].lv then 4 else 0) out=io at *;obtain⟨o,y⟩:=io;dsimp only at *;obtain⟨vv,hA⟩:=hQc.nodes;have kZ:=hDc.short;obtain⟨v',H2,i1,i2,i3⟩:=c06_intern hA hQc.hb.1 hQc.hb.2.1 hQc.len y (by omega);rw[nV]at i1 i2;have tD:s.dm≠s.km:=Ne.symm hQc.hb.2.2.2;have iY:=i3.map _ _ tD hQc.nums;have zH:=i3.cel _ _ hQc.ne.1 hQc.done;have bJ:=updA_dn (H:=H2) (n:=m+1) iY (Bm L (A4 L) (v+1) (m+1) out).2 cD;have rO:∃r,(Bm L (A4 L) (v+1) (m+1) out).1=o++r:=by
     rw[<-nV];unfold I3 BF;split
     ·exact⟨[],by simp⟩
     ·split
      ·exact⟨[y],rfl⟩
      ·exact⟨[],by simp⟩
    have xP:(Bm L (A4 L) (v+1) (m+1) out).1.length<=o.length+1:=by
     rw[<-nV];unfold I3 BF;split
     ·dsimp only;omega
     ·split
      ·simp
      ·dsimp only;omega
    refine⟨H2.set s.dm (.map (dnM (D1++[(m+1,(Bm L (A4 L) (v+1) (m+1) out).2)]))),D1++[(m+1,(Bm L (A4 L) (v+1) (m+1) out).2)],?_,?_,hEc.trans ⟨?_,λi cs hi hc=>?_,λi hi=>?_⟩,?_,λj hj=>?_⟩
    ·unfold Sh.f4y;simp only[GMw,HPw,Nat.reduceAdd,Nat.reduceLT,C8 hQc.arena,F4,HY hbox,i1,C8 zH,bJ]
    ·have zU:s.dm<H2.length:=(VP.1 iY).1;have nc:∀ {i:Nat} {c:List Ab},i≠s.ar->Hc[i]? = some (.cel 0 c)->(H2.set s.dm (.map (dnM (D1++[(m+1,(Bm L (A4 L) (v+1) (m+1) out).2)]))))[i]? = some (.cel 0 c):=λ{i c} hi hc=>by
      have h2:=i3.cel i c hi hc;have:s.dm≠i:=λe=>by rw[<-e,iY]at h2;cases h2
      rw[VT this];exact h2
     have pB:s.dm≠s.ar:=λe=>by have:=i2.cell;rw[<-e,iY]at this;cases this
     exact⟨hQc.hb,hQc.ne,nc hQc.ne.1 hQc.done,nc hQc.ne.2.1 hQc.list,nc hQc.ne.2.2.1 hQc.self,nc hQc.ne.2.2.2 hQc.arena,
      ⟨v',by rw[VT pB];exact i2.cell,i2.row.setB iY (λ_ _ _ e=>by cases e),by rw[VT tD];exact i2.known⟩,by rw[Wf zU]⟩
    ·rw[zYa];exact i3.len
    ·have h2:=i3.cel i cs hi hc;have:s.dm≠i:=λe=>by rw[<-e,iY]at h2;cases h2
     rw[VT this];exact h2
    ·have:=hQc.hb.2.2.1;rw[VT (by omega)];exact i3.old i hi
    ·obtain⟨r,hr⟩:=rO;refine⟨?_,λp hp=>?_,λp hp=>?_,?_,?_⟩
     ·rw[Y7,YM];refine⟨hDc.nd,by simp,λa ha b hb=>?_⟩;have Za:b=m+1:=by simpa using hb
      have:=lkD_none cD;exact λe=>this (by rw[<-Za,<-e];exact ha)
     ·rcases Wn.1 hp with h | h
      ·exact hDc.le p h
      ·rw[Wm.1 h];exact hn
     ·rcases Wn.1 hp with h | h
      ·rw[hr];exact hDc.grow r p h
      ·rw[Wm.1 h];dsimp only;rw[hx,aO];exact cA
     ·rw[VX,zXi];have:=hDc.cnt;omega
     ·rw[lkD_app,hDc.zero]
    ·rw[lkD_app,oX j (by omega)];cases lkD D j with
     | some _=>rfl
     | none=>dsimp only;rw[if_neg (by omega)]
   by_cases aJ:L[m].lv>1
   ·simp only[aJ,GMw];have oK:1<L[m].lv:=aJ;rw[if_pos oK]at fin;have loop:=GG (G:=λaA vs H1=>Sh.f4z H (Sh.f9 d) (λvs H=>Sh.f4y H (ag vs 0) (ag vs 1) (ag vs 2) (ag vs 3) H) aA (ag vs 0) (ag vs 1) (ag vs 2) (ag vs 3) (ag vs 4) (ag vs 5) (ag vs 6) H1) 4
     (λk vs Hc=>∃D',vs=[.i6 ((m+1:Nat):Int),.ptr s.pd 0 0,.ptr s.pv 0 0,.ptr s.pa 0 0,.ptr H.length 0 0,.agg (Jz L[m]),.i6 (k:Int)]/\VQ s L tk (BU (Bm L (A4 L) v) L[m] k out).1 D' Hc/\Hc[H.length]? = some (.cel 0 (cNd (BU (Bm L (A4 L) v) L[m] k out).2))/\Ext s.b s.ar H Hc/\VD L (BU (Bm L (A4 L) v) L[m] k out).1 D'/\lkD D' (m+1)=none/\∀j,m<j->lkD D' j=lkD D j)
     (by decide) (λk vs Hc hk hI=>?_) (vs:=[.i6 ((m+1:Nat):Int),.ptr s.pd 0 0,.ptr s.pv 0 0,.ptr s.pa 0 0,.ptr H.length 0 0,.agg (Jz L[m]),.i6 0]) (H:=H++[Blk.cel 0 (cNd L[m])]) ⟨D,rfl,hQ1,by simp[BU],hE1,hD,bD,λ_ _=>rfl⟩
    ·obtain⟨vs',Hc,⟨D',rfl,hQc,hbox,hEc,hDc,oV,lL⟩,rec,aB⟩:=loop;obtain⟨H',D2,f1,f2⟩:=fin Hc D' oV hQc hbox hEc hDc lL;refine⟨H',D2,aB.trans ?_,f2⟩;unfold Sh.f4z;simp only[GMw,Aj,show ¬(((4:Nat):Int)<4) from by decide];exact f1
    ·obtain⟨D1,rfl,hQc,hbox,hEc,hDc,oV,lL⟩:=hI;have hk':(k:Int)<4:=by omega
     obtain⟨q1,q2,q3⟩:=l3 k hk;obtain⟨c,hc⟩:∃c:Nat,L[m].kid k=(c:Int):=⟨(L[m].kid k).toNat,by omega⟩;have pD:c<=m:=by
      by_cases h0:0<L[m].kid k
      ·have:=(q3 oK h0).1;omega
      ·omega
     have hcv:c=0\/(A9 L (c:Int)).lv.toNat=v:=by
      by_cases h0:c=0
      ·exact .inl h0
      ·right;obtain⟨g,rfl⟩:∃g,c=g+1:=⟨c-1,by omega⟩;have kJ:g<L.length:=by omega
       have:=(q3 oK (by omega)).2 L[g] (by rw[show (L[m].kid k-1).toNat=g by omega];exact VO kJ);rw[Ba kJ];omega
     obtain⟨H1,D',r1,r2,r3,r4,r5⟩:=ih c d (BU (Bm L (A4 L) v) L[m] k out).1 D1 Hc (by omega) hcv (by omega) hQc hDc;have kA:=r3.cel _ _ hHar hbox;have hst:=ET (c:=((Bm L (A4 L) v c (BU (Bm L (A4 L) v) L[m] k out).1).2:Int)) kA hk;have hstep:BU (Bm L (A4 L) v) L[m] (k+1) out=((Bm L (A4 L) v c (BU (Bm L (A4 L) v) L[m] k out).1).1,(BU (Bm L (A4 L) v) L[m] k out).2.setKid k ((Bm L (A4 L) v c (BU (Bm L (A4 L) v) L[m] k out).1).2:Int)):=by
      simp only[BU,hc,zXl]
     rw[hstep];refine⟨_,H1.set H.length (.cel 0 (cNd ((BU (Bm L (A4 L) v) L[m] k out).2.setKid k ((Bm L (A4 L) v c (BU (Bm L (A4 L) v) L[m] k out).1).2:Int)))),⟨D',rfl,r2.put kA,?_,⟨by have:=hEc.len;have:=r3.len;rw[zYa];omega,λi cs hi hc=>?_,λi hi=>?_⟩,r4,?_,λj hj=>?_⟩,λrec=>?_⟩
     ·rw[Wf (VP.1 kA).1]
     ·have:=(VP.1 hc).1;rw[VT (by omega)];exact r3.cel i cs hi (hEc.cel i cs hi hc)
     ·rw[VT (by omega),r3.old i hi];exact hEc.old i hi
     ·rw[r5 (m+1) (by omega)];exact oV
     ·rw[r5 j (by omega)];exact lL j hj
     ·have cZ:DF (Ik (Sh.f9 d)) (.fn 161 [.ptr s.pd 0 0,.ptr s.pl 0 0,.ptr s.pv 0 0,.ptr s.pa 0 0]) [.i6 (c:Int)] Hc=Sh.f9 d (.i6 (c:Int)) (.ptr s.pd 0 0) (.ptr s.pl 0 0) (.ptr s.pv 0 0) (.ptr s.pa 0 0) Hc:=rfl;unfold Sh.f4z;simp only[GMw,HPw,Nat.reduceAdd,Nat.reduceLT,Aj,hk',ag_kid _ hk,hc,C8 hQc.self,F4,cZ,r1,HZ hk,hst,Au (show k<9223372036854775807 by omega)]
   ·simp only[aJ,GMw];rw[if_neg aJ]at fin;exact fin _ D bD hQ1 (by simp[BU]) hE1 hD (λ_ _=>rfl)
theorem c06_of (L:List Nd)(tk:Tok)(n:Int)(H:Aa)(hL:L.length<1000000000000):Sh.f2p (.sl (enL cNd L) tk) (.i6 n) H =
  some (.ret (if SG L n then .tup [CY (Jg L n.toNat),.i6 0]else .tup [CY [],.i6 1]),H):=by
 unfold Sh.f2p;have hbx:BD true 1 (.sl (enL cNd L) tk) H=some (.ptr H.length 0 0,H++[.cel 0 [.sl (enL cNd L) tk]]):=by
  unfold BD;simp only[QE,alloc_eq (cs:=[.sl (enL cNd L) tk]) rfl];rfl
 have oR:Ab.agg [.sl [] .no]=CY []:=rfl;simp only[hbx,GMw,HPw,Nat.reduceAdd,Nat.reduceLT,c05_loose L tk _ (show L.length<1152921504606846976 by omega)];unfold SG;have sD:A6 (some [(.sl [] .ti)]) []=some (.agg [.sl [] .ti]):=rfl;cases hl:AB L with
 | false=>simp only[GMw,HPw,Nat.reduceAdd,Nat.reduceLT,sD,oR,VY,if_false]
 | true=>
  by_cases dZ:n<0
  ·have:¬0<=n:=by omega
   simp only[GMw,HPw,Nat.reduceAdd,Nat.reduceLT,sD,oR,dZ,this,VY,if_false]
  ·have eX:0<=n:=by omega
   by_cases dL:n>L.length
   ·have:¬n<=L.length:=by omega
    simp only[GMw,HPw,Nat.reduceAdd,Nat.reduceLT,sD,oR,dZ,eX,dL,this,Ax,VY,if_false]
   ·obtain⟨n,rfl⟩:=WQ eX;have hle:n<=L.length:=by omega
    have iQ:(n:Int)<=(L.length:Int):=by omega
    have oT:¬(n:Int)>(L.length:Int):=dL;obtain⟨s1,s2,s3⟩:=P6 hl hle;unfold Jg;simp only[GMw,HPw,Nat.reduceAdd,Nat.reduceLT,dZ,eX,oT,iQ,Ax,c06_shrink L tk n _ (show L.length<3518437200000 by omega) hl hle,if_true,zXl];generalize DH L n=S at s1 s2 s3;obtain⟨M,r⟩:=S;dsimp only at s1 s2 s3 ⊢;have nP:(A9 M (r:Int)).lv.toNat<AU:=by
     rw[Dr];by_cases hr:0<r
     ·have:=OB s1 hr s2;omega
     ·obtain rfl:r=0:=by omega
      unfold A9;rw[VW];by_cases hM:0<M.length
      ·rw[show (((0:Nat):Int)-1).toNat=0 from rfl,VO hM];have:=(AO s1 hM).2.1;simp only[Option.getD_some];omega
      ·rw[show (((0:Nat):Int)-1).toNat=0 from rfl,zYb (by omega)];simp
    have cX:∀K:Aa,ED K=some (.mp K.length,K++[.map []]):=λ_=>rfl;have gK:∀x,A6 (some [.sl [] .ti,.nilmap]) [(1,1,.mp x)]=some (.agg [.sl [] .ti,.mp x]):=λ_=>rfl;have bJ:Ef false 1 (.mp (H.length+5)) (.i6 0) (.i6 0) (H++[.cel 0 [.sl (enL cNd M) .no],.cel 0 [.sl [] .ti],.map [],.cel 0 [.sl [] .ti,.mp (H.length+2)],.cel 0 [.ptr (H.length+3) 0 0],.map []]) =
      some (H++[.cel 0 [.sl (enL cNd M) .no],.cel 0 [.sl [] .ti],.map [],.cel 0 [.sl [] .ti,.mp (H.length+2)],.cel 0 [.ptr (H.length+3) 0 0],.map (dnM [(0,0)])]):=by
     have:=updA_dn (H:=H++[.cel 0 [.sl (enL cNd M) .no],.cel 0 [.sl [] .ti],.map [],.cel 0 [.sl [] .ti,.mp (H.length+2)],.cel 0 [.ptr (H.length+3) 0 0],.map []]) (id:=H.length+5) (D:=[]) (by simp[dnM]) (n:=0) 0 rfl;rw[show ((0:Nat):Int)=0 from rfl]at this;rw[this,W5 _ _ (by omega),show H.length+5-H.length=5 by omega]
     rfl
    have hf:∀l:List Ab,Af 1 (.ptr 0 0 0) (.fn 161 l) [Blk.cel 0 [.nilfn]]=some [.cel 0 [.fn 161 l]]:=λl=>P0 rfl (by simp);obtain⟨F,hF⟩:∃F:Aa,F=H++[.cel 0 [.sl (enL cNd M) .no],.cel 0 [.sl [] .ti],.map [],.cel 0 [.sl [] .ti,.mp (H.length+2)],.cel 0 [.ptr (H.length+3) 0 0],.map (dnM [(0,0)]),.cel 0 [.mp (H.length+5)],.cel 0 [.fn 161 [.ptr (H.length+6) 0 0,.ptr H.length 0 0,.ptr (H.length+7) 0 0,.ptr (H.length+4) 0 0]]]:=⟨_,rfl⟩;have hQ:VQ ⟨H.length,H.length+6,H.length,H.length+7,H.length+4,H.length+3,H.length+2,H.length+5⟩ M .no [] [(0,0)] F:=by
     refine⟨⟨by dsimp only;omega,by dsimp only;omega,by dsimp only;omega,by dsimp only;omega⟩,⟨by dsimp only;omega,by dsimp only;omega,by dsimp only;omega,by dsimp only;omega⟩,?_,?_,?_,?_,⟨.sl [] .ti,?_,.inl ⟨rfl,rfl⟩,?_⟩,?_⟩ <;> (rw[hF];simp[knF])
    have hD:VD M [] [(0,0)]:=⟨by simp,λp hp=>by rw[Wm.1 hp];exact Wv _,λp hp=>by rw[Wm.1 hp];exact Ka (.inl rfl),by simp,rfl⟩;obtain⟨H',D',v1,v2,v3,v4,v5⟩:=c06_visit (s:=⟨H.length,H.length+6,H.length,H.length+7,H.length+4,H.length+3,H.length+2,H.length+5⟩) (L:=M) (tk:=.no) (by omega) s1 (A9 M (r:Int)).lv.toNat r AU [] [(0,0)] F s2 (.inr rfl) nP hQ hD;dsimp only at v1 v3;have cZ:DF JE (.fn 161 [.ptr (H.length+6) 0 0,.ptr H.length 0 0,.ptr (H.length+7) 0 0,.ptr (H.length+4) 0 0]) [.i6 (r:Int)] F=Sh.f9 AU (.i6 (r:Int)) (.ptr (H.length+6) 0 0) (.ptr H.length 0 0) (.ptr (H.length+7) 0 0) (.ptr (H.length+4) 0 0) F:=rfl;rw[v1]at cZ;rw[hF]at cZ;have hres:H'[H.length+1]? = some (.cel 0 [.sl [] .ti]):=v3.cel _ _ (by omega) (by rw[hF];simp);have hold:∀i,i<H.length->H'[i]? = H[i]? := λi hi=>by rw[v3.old i hi,hF,VR hi]
    obtain⟨v,hA⟩:=v2.nodes;have sR:=C8 (o:=0) (sz:=1) v2.arena;have wC:=C8 (o:=0) (sz:=1) hA.cell;dsimp only at sR wC;obtain⟨tk3,rfl⟩:=hA.row.sl;generalize (Bm M (A4 M) (A9 M (r:Int)).lv.toNat r []).1=Q at *;have hb:A6 (some [(.sl [] .ti)]) [(0,1,.sl (enL cNd Q) tk3)]=some (.agg [.sl (enL cNd Q) tk3]):=by simp[A6,Gy,CZ]
    have hst:=P4 (sz:=1) (ws:=[.sl (enL cNd Q) tk3]) hres rfl rfl rfl;have aG:=(VP.1 hres).1;have hld:=PM (sz:=1) (H:=H'.set (H.length+1) (.cel 0 [.sl (enL cNd Q) tk3])) (p:=H.length+1) (by rw[Wf aG]) rfl;have aS:(H'.set (H.length+1) (.cel 0 [.sl (enL cNd Q) tk3])).take H.length=H:=C0 λi hi=>by
     rw[VT (by omega)];exact hold i hi
    simp only[GMw,HPw,Nat.reduceAdd,Nat.reduceLT,cX,gK,bJ,hf,cZ,sR,wC,F4,hb,hst,hld,GD aS]
    rfl
structure Q4 (b p:Nat)(S:Nat->List Sp)(W:Nat->Ab)(T:Nat->Nat)(H:Aa):Prop where
 blk:H[p]? = some (.cel 0 [W 0,W 1,W 2,W 3])
 row:∀k,k<4->(S k=[]/\W k=.sl [] .ti)\/(S k≠[]/\b<=T k/\W k=.sl (enL cSp (S k)) (.own (T k))/\H[T k]? = some (.tok (S k).length BQ 3))
 ne:∀i j,i<4->j<4->i≠j->S i≠[]->S j≠[]->T i≠T j
def up {α:Type}(f:Nat->α)(k:Nat)(a:α):Nat->α:=λj=>if j=k then a else f j
theorem Ky {α:Type}(f:Nat->α)(k:Nat)(a:α):up f k a k=a:=if_pos rfl
theorem ES {α:Type}(f:Nat->α){j k:Nat}(a:α)(h:j≠k):up f k a j=f j:=if_neg h
theorem up_cells (W:Nat->Ab){k:Nat}(hk:k<4)(w:Ab):[W 0,W 1,W 2,W 3].set k w=[up W k w 0,up W k w 1,up W k w 2,up W k w 3]:=by
 match k,hk with
 | 0,_=>rfl
 | 1,_=>rfl
 | 2,_=>rfl
 | 3,_=>rfl
theorem get_cells (W:Nat->Ab){k:Nat}(hk:k<4):[W 0,W 1,W 2,W 3][k]? = some (W k):=by
 match k,hk with
 | 0,_=>rfl
 | 1,_=>rfl
 | 2,_=>rfl
 | 3,_=>rfl
theorem Q4.push {b p:Nat}{S:Nat->List Sp}{W:Nat->Ab}{T:Nat->Nat}{H:Aa}(h:Q4 b p S W T H)(G:Aa):Q4 b p S W T (H++G):=
 ⟨A0 h.blk,λk hk=>by
  rcases h.row k hk with q | ⟨q0,q1,q2,q3⟩
  ·exact .inl q
  ·exact .inr ⟨q0,q1,q2,A0 q3⟩,h.ne⟩
theorem Q4.add {b p:Nat}{S:Nat->List Sp}{W:Nat->Ab}{T:Nat->Nat}{H:Aa}(h:Q4 b p S W T H)(hb:b<=p){k:Nat}(hk:k<4)(s:Sp)(hl:(S k).length<1000000000) :
  ∃w' H1 T',Ac false 1 (.ptr p 0 k) H=some (W k)/\AW BQ 3 56 (W k) (.sl (enL cSp [s]) .ti) H=some (w',H1)/\Af 1 (.ptr p 0 k) w' H1=some (H1.set p (.cel 0 [up W k w' 0,up W k w' 1,up W k w' 2,up W k w' 3])) /\
   Q4 b p (up S k (S k++[s])) (up W k w') T' (H1.set p (.cel 0 [up W k w' 0,up W k w' 1,up W k w' 2,up W k w' 3]))/\H.length<=H1.length/\∀i,i<b->H1[i]? = H[i]? := by
 have bG:p<H.length:=(VP.1 h.blk).1;have hld:Ac false 1 (.ptr p 0 k) H=some (W k):=by rw[C8 h.blk];exact get_cells W hk
 have mI:k<[W 0,W 1,W 2,W 3].length:=hk;rcases h.row k hk with ⟨q1,q2⟩ | ⟨q0,q1,q2,q3⟩
 ·have ha:=CR (f:=cSp) (sz:=3) (l:=[]) (m:=[s]) (ty:=BQ) (bytes:=56) (tk:=.ti) (H:=H) (by simp) (by simp) (by simp);simp only[List.nil_append,zXk,zXi,VU,HM]at ha;have kB:(H++[Blk.tok 1 BQ 3])[p]? = some (.cel 0 [W 0,W 1,W 2,W 3]):=A0 h.blk;have hst:=Hs (v:=.sl (enL cSp [s]) (.own H.length)) kB rfl mI;rw[up_cells W hk]at hst;refine⟨.sl (enL cSp [s]) (.own H.length),H++[Blk.tok 1 BQ 3],up T k H.length,hld,by rw[q2];exact ha,hst,⟨?_,λj hj=>?_,λi j hi hj hij kY mY=>?_⟩,by simp,λi hi=>VR (by omega)⟩
  ·rw[Wf (by simp;omega)]
  ·by_cases e:j=k
   ·subst e;right;rw[Ky,Ky,Ky,q1,VT (by omega)];exact⟨by simp,by omega,rfl,by simp⟩
   ·rw[ES _ _ e,ES _ _ e,ES _ _ e];rcases h.row j hj with r | ⟨r0,r1,r2,r3⟩
    ·exact .inl r
    ·have:p≠T j:=λe=>by rw[<-e,h.blk]at r3;cases r3
     exact .inr ⟨r0,r1,r2,by rw[VT this];exact A0 r3⟩
  ·have lt:∀i,i<4->S i≠[]->T i<H.length:=λi hi hs=>by
    rcases h.row i hi with r | ⟨r0,r1,r2,r3⟩
    ·exact absurd r.1 hs
    ·exact (VP.1 r3).1
   by_cases e1:i=k
   ·have e2:j≠k:=λe=>hij (by omega);rw[e1,Ky,ES _ _ e2];rw[ES _ _ e2]at mY;have:=lt j hj mY;omega
   ·rw[ES _ _ e1]at kY ⊢;by_cases e2:j=k
    ·rw[e2,Ky];have:=lt i hi kY;omega
    ·rw[ES _ _ e2]at mY ⊢;exact h.ne i j hi hj hij kY mY
 ·have ha:=Fr (f:=cSp) (sz:=3) (l:=S k) (m:=[s]) (ty:=BQ) (bytes:=56) (tk:=.ti) (H:=H) (t:=T k) (by simp) q3 (by simp;omega) (by simp;omega);simp only[zXi]at ha;have jA:T k<H.length:=(VP.1 q3).1;have sQ:T k≠p:=λe=>by rw[e,h.blk]at q3;cases q3
  have kB:(H.set (T k) (Blk.tok ((S k).length+1) BQ 3))[p]? = some (.cel 0 [W 0,W 1,W 2,W 3]):=by rw[VT sQ];exact h.blk
  have hst:=Hs (v:=.sl (enL cSp (S k++[s])) (.own (T k))) kB rfl mI;rw[up_cells W hk]at hst;refine⟨.sl (enL cSp (S k++[s])) (.own (T k)),H.set (T k) (Blk.tok ((S k).length+1) BQ 3),T,hld,by rw[q2];exact ha,hst,⟨?_,λj hj=>?_,λi j hi hj hij kY mY=>?_⟩,by simp,λi hi=>VT (by omega)⟩
  ·rw[Wf (by simp;omega)]
  ·by_cases e:j=k
   ·subst e;right;rw[Ky,Ky,VT (Ne.symm sQ),Wf jA];exact⟨by simp,q1,rfl,by simp⟩
   ·rw[ES _ _ e,ES _ _ e];rcases h.row j hj with r | ⟨r0,r1,r2,r3⟩
    ·exact .inl r
    ·have:p≠T j:=λe=>by rw[<-e,h.blk]at r3;cases r3
     have h2:T k≠T j:=h.ne k j hk hj (Ne.symm e) q0 r0;exact .inr ⟨r0,r1,r2,by rw[VT this,VT h2];exact r3⟩
  ·have b1:S i≠[]:=by
    by_cases e1:i=k
    ·rw[e1];exact q0
    ·rw[ES _ _ e1]at kY;exact kY
   have b2:S j≠[]:=by
    by_cases e1:j=k
    ·rw[e1];exact q0
    ·rw[ES _ _ e1]at mY;exact mY
   exact h.ne i j hi hj hij b1 b2
def SpOk (p:Sp):Prop:=(AA p.a).length<=1000000/\(AA p.b).length<=1000000
theorem MM (s:Sp):AS 3 [.agg (cSp s)]=some (.sl (enL cSp [s]) .ti):=by
 simp[AS,Dd,BV,cSp,Ab.isScal,L9,BI,enL]
theorem qOf_lt (v:Nat)(p:Sp):qOf v p<4:=by unfold qOf;split <;> split <;> omega
theorem qSp_snoc {v k:Nat}{S:List Sp}{s:Sp}:qSp v k (S++[s])=if k=qOf v s then qSp v k S++[s]else qSp v k S:=by
 unfold qSp;rw[WE];by_cases h:k=qOf v s
 ·rw[if_pos h];simp[h]
 ·rw[if_neg h];have:¬qOf v s=k:=λe=>h e.symm;simp[this]
theorem lay_turn {self:Ab->Ab->Ab->Aa->Out}{pb v:Nat}{S:List Sp}{tk:Tok}{H B Hc:Aa}{W:Nat->Ab}{T:Nat->Nat}{i:Nat}(hi:i<S.length)(hok:∀p∈S,SpOk p)(hS:S.length<1000000000)(hv:v<100000)
  (hBb:H.length=B.length)(hq:Q4 B.length B.length (λk=>qSp v k (S.take i)) W T Hc)(hlen:B.length<=Hc.length)(hold:∀i,i<B.length->Hc[i]? = B[i]?) :
  ∃W' T' Hd,(∀rec:LK,Sh.f2j H self rec (.ptr pb 0 0) (.i6 ((v+1:Nat):Int)) (.ptr B.length 0 0) (.sl (enL cSp S) tk) (.i6 (S.length:Int)) (.i6 (i:Int)) Hc=rec [.ptr pb 0 0,.i6 ((v+1:Nat):Int),.ptr B.length 0 0,.sl (enL cSp S) tk,.i6 (S.length:Int),.i6 ((i+1:Nat):Int)] Hd) /\
   Q4 B.length B.length (λk=>qSp v k (S.take (i+1))) W' T' Hd/\B.length<=Hd.length/\(∀i,i<B.length->Hd[i]? = B[i]?):=by
 have d1:decide ((i:Int)<(S.length:Int))=true:=zXc (by omega);have kY:=hok _ (We hi);have hlt:=qOf_lt v S[i];have jJ:Q4 B.length B.length (λk=>qSp v k (S.take i)) W T (Hc++[.cel 0 (cSp S[i])]):=hq.push _;have jB:(qSp v (qOf v S[i]) (S.take i)).length<1000000000:=WI (Xf _ _) (by rw[Wj];omega);obtain⟨w',H1,T',a1,a2,a3,a4,a5,a6⟩:=jJ.add (VV _) hlt S[i] jB;have hw:=Au (show i<9223372036854775807 by omega);have w1:IntKind.i64.wrap (((v+1:Nat):Int)-1)=(v:Int):=by rw[Ao] <;> omega
 have bx:=λK=>p_bit S[i].a v .no K kY.1 (by omega);have bY:=λK=>p_bit S[i].b v .no K kY.2 (by omega);have e1:(Hc++[Blk.cel 0 [Ab.sl [] .ti,.sl [] .ti,.int .u8 0]])[Hc.length]? = some (.cel 0 [.sl [] .ti,.sl [] .ti,.int .u8 0]):=Al;have e2:(Hc++[Blk.cel 0 (cSp S[i])])[Hc.length]? = some (.cel 0 (cSp S[i])):=Al;have hst:Af 3 (.ptr Hc.length 0 0) (.agg (cSp S[i])) (Hc++[Blk.cel 0 [Ab.sl [] .ti,.sl [] .ti,.int .u8 0]])=some (Hc++[Blk.cel 0 (cSp S[i])]):=by
  rw[P4 (sz:=3) (ws:=cSp S[i]) e1 rfl rfl rfl,Be]
 have ldA:Ac true 3 (.cptr (cSp S[i]) 0) Hc=some (.agg (cSp S[i])):=rfl;have ld0:Ac false 1 (.ptr Hc.length 0 0) (Hc++[Blk.cel 0 (cSp S[i])])=some (.sl (enL cU (AA S[i].a)) .no):=by rw[C8 e2];rfl
 have ld1:Ac false 1 (.ptr Hc.length 0 1) (Hc++[Blk.cel 0 (cSp S[i])])=some (.sl (enL cU (AA S[i].b)) .no):=by rw[C8 e2];rfl
 have ldG:Ac true 3 (.ptr Hc.length 0 0) (Hc++[Blk.cel 0 (cSp S[i])])=some (.agg (cSp S[i])):=PM e2 rfl;have hal:Az (some [(.sl [] .ti),(.sl [] .ti),(.int .u8 0)]) Hc=some (.ptr Hc.length 0 0,Hc++[.cel 0 [Ab.sl [] .ti,.sl [] .ti,.int .u8 0]]):=alloc_eq rfl;have gF:=HZ (K:=.i64) (id:=B.length) (g:=0) (o:=0) hlt;rw[VU]at gF;have w2:IntKind.i64.wrap (0+1)=1:=rfl;have w3:IntKind.i64.wrap (0+2)=2:=rfl;have w4:IntKind.i64.wrap (1+2)=3:=rfl;refine⟨up W (qOf v S[i]) w',T',H1.set B.length (.cel 0 [up W (qOf v S[i]) w' 0,up W (qOf v S[i]) w' 1,up W (qOf v S[i]) w' 2,up W (qOf v S[i]) w' 3]),λrec=>?_,?_,?_,?_⟩
 ·unfold Sh.f2j Sh.f7w Sh.f7v;simp only[GMw,d1,Ax,A1 hi,ldA,hal,hst,AK,Ah,VU,ld0,w1,bx];have fin:∀k:Int,k=((qOf v S[i]:Nat):Int)->(B5 4 1 (.ptr B.length 0 0) (.i6 k))=some (.ptr B.length 0 (qOf v S[i])):=λk hk=>by rw[hk];exact gF
  cases hA:S[i].a.testBit v with
  | true=>
   cases hB:S[i].b.testBit v with
   | true=>
    have f:=fin 3 (by unfold qOf;rw[hA,hB];rfl);simp only[GMw,w2,ld1,bY,hB,w4,f,a1,ldG,MM,a2,a3,AL,hw,Am,Aj,Bg,Bk,B4,BS,DG]
   | false=>
    have f:=fin 1 (by unfold qOf;rw[hA,hB];rfl);simp only[GMw,w2,ld1,bY,hB,f,a1,ldG,MM,a2,a3,AL,hw,Am,Aj,Bg,Bk,B4,BS,DG]
  | false=>
   cases hB:S[i].b.testBit v with
   | true=>
    have f:=fin 2 (by unfold qOf;rw[hA,hB];rfl);simp only[GMw,w3,ld1,bY,hB,f,a1,ldG,MM,a2,a3,AL,hw,Am,Aj,Bg,Bk,B4,BS,DG]
   | false=>
    have f:=fin 0 (by unfold qOf;rw[hA,hB];rfl);simp only[GMw,ld1,bY,hB,f,a1,ldG,MM,a2,a3,AL,hw,Am,Aj,Bg,Bk,B4,BS,DG]
 ·have hs:(λk=>qSp v k (S.take (i+1)))=up (λk=>qSp v k (S.take i)) (qOf v S[i]) (qSp v (qOf v S[i]) (S.take i)++[S[i]]):=by
   funext k
   rw[Wb hi,qSp_snoc];unfold up;by_cases h:k=qOf v S[i]
   ·rw[if_pos h,if_pos h,h]
   ·rw[if_neg h,if_neg h]
  rw[hs];exact a4
 ·rw[zYa];simp at a5;omega
 ·intro j hj;rw[VT (by omega),a6 j hj,VR (by omega)];exact hold j hj
def KR (v:Nat)(S:List Sp):Nat->Nat
 | 0=>0
 | k+1=>KR v S k+(qSp v k S).length
theorem Qy (v:Nat):∀S:List Sp,KR v S 4=S.length
 | []=>by simp[KR,qSp]
 | p::S=>by
  have ih:=Qy v S;have hq:=qOf_lt v p;simp only[KR,qSp,WN,zXj]at ih ⊢;generalize qOf v p=q at hq
  match q,hq with
  | 0,_=>simp;omega
  | 1,_=>simp;omega
  | 2,_=>simp;omega
  | 3,_=>simp;omega
theorem VA (v:Nat)(S:List Sp){k:Nat}(h:k<=4):KR v S k<=S.length:=by
 have h4:=Qy v S
 match k,h with
 | 0,_=>simp[KR]
 | 1,_=>simp only[KR]at h4 ⊢;omega
 | 2,_=>simp only[KR]at h4 ⊢;omega
 | 3,_=>simp only[KR]at h4 ⊢;omega
 | 4,_=>omega

mutual
theorem lay_len:∀(v:Nat) (out:List Nd) (S:List Sp),(C6 v out S).1.length<=out.length+S.length*v
 | 0,out,S=>by simp[C6]
 | v+1,out,S=>by
  unfold C6;split
  ·simp
  ·rename_i hS;have h:=RA v out S 4 (VV _);have hpos:0<S.length:=Wy.2 hS;have:KR v S 4*v<=S.length*v:=W4 _ (VA v S (VV _));simp only[VX,zXi,Nat.mul_succ];omega
theorem RA:∀(v:Nat) (out:List Nd) (S:List Sp) (k:Nat),k<=4->(lyK (C6 v) v S k out).1.length<=out.length+KR v S k*v
 | v,out,S,0,_=>by simp[lyK,KR]
 | v,out,S,k+1,hk=>by
  have h:=RA v out S k (by omega);unfold lyK;split
  ·rename_i h0;subst h0;dsimp only;omega
  ·have h2:=lay_len v (lyK (C6 v) v S k out).1 (qSp v k S);dsimp only;have:KR v S (k+1)*v=KR v S k*v+(qSp v k S).length*v:=by
    show (KR v S k+(qSp v k S).length)*v=_;rw[WF]
   omega

end
theorem lyK_kid (rec:List Nd->List Sp->List Nd×Nat)(v:Nat)(S:List Sp)(out:List Nd):∀k,k<=4->∀j,k<=j->j<4->(lyK rec v S k out).2.kid j=0
 | 0,_,j,_,h4=>by
  match j,h4 with
  | 0,_=>rfl
  | 1,_=>rfl
  | 2,_=>rfl
  | 3,_=>rfl
 | k+1,hk,j,hj,h4=>by
  unfold lyK;split
  ·rw[Fu _ _ (by omega) h4 (by omega)];exact lyK_kid rec v S out k (by omega) j (by omega) h4
  ·rw[Fu _ _ (by omega) h4 (by omega)];exact lyK_kid rec v S out k (by omega) j (by omega) h4
theorem setKid_id (x:Nd){k:Nat}(hk:k<4)(h:x.kid k=0):x.setKid k 0=x:=by
 match k,hk with
 | 0,_=>simp only[Nd.kid]at h;unfold Nd.setKid;cases x;simp_all
 | 1,_=>simp only[Nd.kid]at h;unfold Nd.setKid;cases x;simp_all
 | 2,_=>simp only[Nd.kid]at h;unfold Nd.setKid;cases x;simp_all
 | 3,_=>simp only[Nd.kid]at h;unfold Nd.setKid;cases x;simp_all
theorem PS.same {b:Nat}{out:List Nd}{v:Ab}{H H':Aa}(h:PS b out v H)(hs:∀i,i<H.length->H'[i]? = H[i]?):PS b out v H':=by
 rcases h with h1 | ⟨t,h1,h2,h3⟩
 ·exact .inl h1
 ·exact .inr ⟨t,h1,h2,by rw[hs t (VP.1 h3).1];exact h3⟩
def LayOk (b pb n:Nat)(self:Ab->Ab->Ab->Aa->Out):Prop:=
 ∀(out:List Nd) (w:Ab) (S:List Sp) (tk:Tok) (H:Aa),H[pb]? = some (.cel 0 [w])->PS b out w H->b<=H.length->(∀p∈S,SpOk p)->S.length<1000000000->out.length+S.length*n<3518437208880 ->
  ∃H' w',self (.ptr pb 0 0) (.i6 (n:Int)) (.sl (enL cSp S) tk) H=some (.ret (.i6 ((C6 n out S).2:Int)),H')/\H'[pb]? = some (.cel 0 [w'])/\PS b (C6 n out S).1 w' H'/\Ext b pb H H'
theorem nd_new (v:Nat):A6 (some [(.i6 0),(.i6 0),(.i6 0),(.i6 0),(.i6 0)]) [(0,1,.i6 (v:Int))]=some (.agg (cNd ⟨(v:Int),0,0,0,0⟩)):=by
 simp[A6,Gy,CZ,cNd]
theorem lay_kid {b pb q v k:Nat}{self:Ab->Ab->Ab->Aa->Out}{out:List Nd}{S:List Sp}{H Hd:Aa}{W:Nat->Ab}{w:Ab}(cE:v=0\/LayOk b pb v self)(hv:v<100000)(hk:k<4)
  (hW:∃tk,W k=.sl (enL cSp (qSp v k S)) tk)(hok:∀p∈S,SpOk p)(hS:S.length<1000000000)(hlen:out.length+S.length*v<3518437208880)(sA:b<=pb)(uA:q≠pb)(Zr:b<=q)
  (f1:Hd[pb]? = some (.cel 0 [w]))(f2:PS b (lyK (C6 v) v S k out).1 w Hd)(f3:Hd[q]? = some (.cel 0 (cNd (lyK (C6 v) v S k out).2))) :
  ∃w' He,(∀rec:LK,Sh.f18 H self rec (.ptr pb 0 0) (.i6 ((v+1:Nat):Int)) (.ptr q 0 0) (.agg [W 0,W 1,W 2,W 3]) (.i6 (k:Int)) Hd=rec [.ptr pb 0 0,.i6 ((v+1:Nat):Int),.ptr q 0 0,.agg [W 0,W 1,W 2,W 3],.i6 ((k+1:Nat):Int)] He) /\
   He[pb]? = some (.cel 0 [w'])/\PS b (lyK (C6 v) v S (k+1) out).1 w' He/\He[q]? = some (.cel 0 (cNd (lyK (C6 v) v S (k+1) out).2))/\Hd.length<=He.length/\(∀(i:Nat) (cs:List Ab),i≠pb->i≠q->Hd[i]? = some (.cel 0 cs)->He[i]? = some (.cel 0 cs))/\∀i,i<b->He[i]? = Hd[i]? := by
 obtain⟨tk,hW⟩:=hW;have hk':decide ((k:Int)<4)=true:=zXc (by omega);have bG:pb<Hd.length:=(VP.1 f1).1;have hql:q<Hd.length:=(VP.1 f3).1;have wF:JG false 4 1 (.agg [W 0,W 1,W 2,W 3]) (.i6 (k:Int))=some (W k):=by
  match k,hk with
  | 0,_=>rfl
  | 1,_=>rfl
  | 2,_=>rfl
  | 3,_=>rfl
 have hw:=Au (show k<9223372036854775807 by omega);have w1:IntKind.i64.wrap (((v+1:Nat):Int)-1)=(v:Int):=by rw[Ao] <;> omega
 have gF:=HZ (K:=.i64) (id:=q) (g:=0) (o:=1) hk;rcases Xk v with h0 | h0
 ·subst h0;have d1:decide (((0+1:Nat):Int)>1)=false:=rfl;have e:lyK (C6 0) 0 S (k+1) out=((lyK (C6 0) 0 S k out).1,(lyK (C6 0) 0 S k out).2.setKid k (headP (qSp 0 k S))):=rfl;rw[e];cases hq:qSp 0 k S with
  | nil=>
   rw[hq]at hW;have hid:=setKid_id _ hk (lyK_kid (C6 0) 0 S out k (by omega) k (VV _) hk);refine⟨w,Hd,λrec=>?_,f1,f2,?_,VV _,λ_ _ _ _ h=>h,λ_ _=>rfl⟩
   ·unfold Sh.f18;have hl0:A7 (.sl (enL cSp []) tk)=some (.i6 0):=rfl;have d2:decide ((0:Int)>0)=false:=rfl;simp only[GMw,hk',wF,d1,hW,hl0,d2,hw]
   ·show Hd[q]? = some (.cel 0 (cNd ((lyK (C6 0) 0 S k out).2.setKid k 0)));rw[hid];exact f3
  | cons s r=>
   rw[hq]at hW;have hst:=ET (c:=(s.s.toNat:Int)) f3 hk;refine⟨w,Hd.set q (.cel 0 (cNd ((lyK (C6 0) 0 S k out).2.setKid k (s.s.toNat:Int)))),λrec=>?_,?_,f2.put f3,?_,by simp,λi cs h1 h2 h=>?_,λi hi=>?_⟩
   ·have cD:decide (((s::r).length:Int)>0)=true:=zXc (by simp only[zXj];omega);have jC:Av 3 (.sl (enL cSp (s::r)) tk) (.i6 0)=some (.cptr (cSp s) 0):=A1 (f:=cSp) (l:=s::r) (i:=0) (K:=.i64) (by simp);have hld:∀K,Ac false 1 (.cptr (cSp s) 2) K=some (.int .u8 (s.s.toNat:Int)):=λ_=>rfl;have hc:AJ .i64 (.int .u8 (s.s.toNat:Int))=some (.i6 (s.s.toNat:Int)):=by
     have:=s.s.toNat_lt;rw[B3,Ao (by omega) (by omega)]
    unfold Sh.f18;simp only[GMw,hk',wF,d1,hW,Ax,cD,jC,Ar,Ah,VU,hld,hc,gF,hst,AL,hw]
   ·rw[VT uA];exact f1
   ·rw[Wf hql];rfl
   ·rw[VT (Ne.symm h2)];exact h
   ·rw[VT (by omega)]
 ·obtain cE:=cE.resolve_left (by omega);have d1:decide (((v+1:Nat):Int)>1)=true:=zXc (by omega);have cT:=RA v out S k (by omega);have kL:KR v S (k+1)*v=KR v S k*v+(qSp v k S).length*v:=by
   show (KR v S k+(qSp v k S).length)*v=_;rw[WF]
  have mO:KR v S (k+1)*v<=S.length*v:=W4 _ (VA v S (by omega));obtain⟨H1,w',r1,r2,r3,r4⟩:=cE (lyK (C6 v) v S k out).1 w (qSp v k S) tk Hd f1 f2 (by omega) (λp hp=>hok p (WO.1 hp).1) (WI (Xf _ _) hS) (by omega);have f3':=r4.cel q _ uA f3;have hst:=ET (c:=((C6 v (lyK (C6 v) v S k out).1 (qSp v k S)).2:Int)) f3' hk;have uC:q<H1.length:=(VP.1 f3').1;have e:lyK (C6 v) v S (k+1) out=((C6 v (lyK (C6 v) v S k out).1 (qSp v k S)).1,(lyK (C6 v) v S k out).2.setKid k ((C6 v (lyK (C6 v) v S k out).1 (qSp v k S)).2:Int)):=by
   conv=>lhs;unfold lyK
   rw[if_neg (by omega)]
  rw[e];refine⟨w',H1.set q (.cel 0 (cNd ((lyK (C6 v) v S k out).2.setKid k ((C6 v (lyK (C6 v) v S k out).1 (qSp v k S)).2:Int)))),λrec=>?_,?_,r3.put f3',?_,by rw[zYa];exact r4.len,λi cs h1 h2 h=>?_,λi hi=>?_⟩
  ·unfold Sh.f18;simp only[GMw,hk',wF,d1,hW,w1,r1,Ah,VU,gF,hst,AL,hw]
  ·rw[VT uA];exact r2
  ·rw[Wf uC]
  ·rw[VT (Ne.symm h2)];exact r4.cel i cs h1 h
  ·rw[VT (by omega)];exact r4.old i hi
theorem lay_step {b pb v:Nat}{self:Ab->Ab->Ab->Aa->Out}(cE:v=0\/LayOk b pb v self)(hv:v<100000)(sA:b<=pb):LayOk b pb (v+1) (Sh.f78 self):=by
 intro out w S tk H f1 f2 hb hok hS hlen;have bG:pb<H.length:=(VP.1 f1).1;unfold Sh.f78 C6;by_cases h0:S=[]
 ·subst h0;refine⟨H,w,?_,f1,f2,Ext.refl _ _ _⟩;simp
 ·rw[if_neg h0];have hpos:=Wy.2 h0;have hne:decide ((S.length:Int)=0)=false:=zXd (by omega);have nL:((S.length:Int) == 0)=false:=by rw[beq_eq_false_iff_ne];omega
  have hal:Az (some [(.sl [] .ti),(.sl [] .ti),(.sl [] .ti),(.sl [] .ti)]) H=some (.ptr H.length 0 0,H++[.cel 0 [Ab.sl [] .ti,.sl [] .ti,.sl [] .ti,.sl [] .ti]]):=alloc_eq rfl;simp only[GMw,Ax,hne,nL,hal];have hQ0:Q4 H.length H.length (λk=>qSp v k (S.take 0)) (λ_=>.sl [] .ti) (λ_=>0) (H++[.cel 0 [Ab.sl [] .ti,.sl [] .ti,.sl [] .ti,.sl [] .ti]]):=
   ⟨Al,λk hk=>.inl ⟨rfl,rfl⟩,λi j _ _ _ h=>absurd rfl h⟩
  have loop:=GG (G:=λrec1 vs H1=>Sh.f2j H self rec1 (ag vs 0) (ag vs 1) (ag vs 2) (ag vs 3) (ag vs 4) (ag vs 5) H1) S.length
   (λi vs Hc=>vs=[.ptr pb 0 0,.i6 ((v+1:Nat):Int),.ptr H.length 0 0,.sl (enL cSp S) tk,.i6 (S.length:Int),.i6 (i:Int)]/\∃W T,Q4 H.length H.length (λk=>qSp v k (S.take i)) W T Hc/\H.length<=Hc.length/\∀i,i<H.length->Hc[i]? = H[i]?)
   (by omega) (λi vs Hc hi hI=>?_) (vs:=[.ptr pb 0 0,.i6 ((v+1:Nat):Int),.ptr H.length 0 0,.sl (enL cSp S) tk,.i6 (S.length:Int),.i6 0]) (H:=H++[.cel 0 [Ab.sl [] .ti,.sl [] .ti,.sl [] .ti,.sl [] .ti]])
   ⟨rfl,_,_,hQ0,by simp,λi hi=>VR hi⟩
  ·obtain⟨vs,Hc,⟨rfl,W,T,hQ,hl,hold⟩,rec,aB⟩:=loop;rw[WJ]at hQ;rw[aB];have d1:decide ((S.length:Int)<(S.length:Int))=false:=zXd (by omega);have wE:Az (some [(.i6 0),(.i6 0),(.i6 0),(.i6 0),(.i6 0)]) Hc=some (.ptr Hc.length 0 0,Hc++[.cel 0 [Ab.i6 0,.i6 0,.i6 0,.i6 0,.i6 0]]):=alloc_eq rfl;have hst:Af 5 (.ptr Hc.length 0 0) (.agg (cNd ⟨((v+1:Nat):Int),0,0,0,0⟩)) (Hc++[.cel 0 [Ab.i6 0,.i6 0,.i6 0,.i6 0,.i6 0]])=some (Hc++[.cel 0 (cNd ⟨((v+1:Nat):Int),0,0,0,0⟩)]):=by
    rw[JQ Al rfl,Be]
   have vA:Ac true 4 (.ptr H.length 0 0) (Hc++[.cel 0 (cNd ⟨((v+1:Nat):Int),0,0,0,0⟩)])=some (.agg [W 0,W 1,W 2,W 3]):=PM (A0 hQ.blk) rfl;have Zm:H.length<Hc.length:=(VP.1 hQ.blk).1;have hWr:∀k,k<4->∃tk,W k=.sl (enL cSp (qSp v k S)) tk:=λk hk=>by
    rcases hQ.row k hk with ⟨q1,q2⟩ | ⟨_,_,q2,_⟩
    ·exact⟨.ti,by rw[q2,show qSp v k S=[] from q1];rfl⟩
    ·exact⟨_,q2⟩
   have qU:out.length+S.length*v<3518437208880:=by rw[Nat.mul_succ]at hlen;omega
   have loop2:=GG (G:=λeC vs H1=>Sh.f18 H self eC (ag vs 0) (ag vs 1) (ag vs 2) (ag vs 3) (ag vs 4) H1) 4
    (λk vs Hd=>vs=[.ptr pb 0 0,.i6 ((v+1:Nat):Int),.ptr Hc.length 0 0,.agg [W 0,W 1,W 2,W 3],.i6 (k:Int)]/\∃w',Hd[pb]? = some (.cel 0 [w'])/\PS b (lyK (C6 v) v S k out).1 w' Hd/\Hd[Hc.length]? = some (.cel 0 (cNd (lyK (C6 v) v S k out).2))/\Hc.length<=Hd.length/\(∀(i:Nat) (cs:List Ab),i≠pb->i<H.length->H[i]? = some (.cel 0 cs)->Hd[i]? = some (.cel 0 cs))/\∀i,i<b->Hd[i]? = H[i]?)
    (by decide) (λk vs Hd hk hI=>?_) (vs:=[.ptr pb 0 0,.i6 ((v+1:Nat):Int),.ptr Hc.length 0 0,.agg [W 0,W 1,W 2,W 3],.i6 0]) (H:=Hc++[.cel 0 (cNd ⟨((v+1:Nat):Int),0,0,0,0⟩)])
    ⟨rfl,w,by rw[VR (by omega),hold pb bG];exact f1,f2.same λi hi=>by rw[VR (by omega)];exact hold i hi,by simp[lyK],by simp,λi cs _ hi hc=>by rw[VR (by omega),hold i hi];exact hc,λi hi=>by rw[VR (by omega)];exact hold i (by omega)⟩
   ·obtain⟨vs,Hd,⟨rfl,w1,g1,g2,g3,g4,g5,g6⟩,aA,hloop2⟩:=loop2;have hlk:=RA v out S 4 (VV _);rw[Qy]at hlk;obtain⟨w2,H2,a1,a2,a3⟩:=g2.snoc (show b<=Hd.length by omega) (lyK (C6 v) v S 4 out).2 (by omega);have wK:=a3.cel pb _ g1;have qB:=(VP.1 wK).1;obtain⟨tk2,cC⟩:=a2.sl;have iO:=Hs (v:=w2) (o:=0) wK (by rw[cC];rfl) (by simp);have nR:Ac false 1 (.ptr pb 0 0) Hd=some w1:=by rw[C8 g1];rfl
    have lJ:Ac false 1 (.ptr pb 0 0) (H2.set pb (.cel 0 ([w1].set 0 w2)))=some w2:=by rw[C8 (cs:=[w1].set 0 w2) (Wf qB)];rfl
    have vB:=HY g3;have hlen2:A7 w2=some (.i6 (((lyK (C6 v) v S 4 out).1.length+1:Nat):Int)):=by rw[cC,Ax,VX,zXi]
    have d4:decide (((4:Nat):Int)<4)=false:=rfl;refine⟨H2.set pb (.cel 0 ([w1].set 0 w2)),w2,?_,by rw[Wf qB];rfl,a2.put wK,⟨?_,λi cs hi hc=>?_,λi hi=>?_⟩⟩
    ·unfold Sh.f2j;simp only[Am,Aj,Bg,Bk,B4,BS,DG,GMw,d1,nd_new,wE,hst,AL,vA];rw[hloop2];unfold Sh.f18;simp only[Am,Aj,Bg,Bk,B4,BS,DG,GMw,d4,nil_ptr,Ah,VU,nR,vB,Ks,a1,iO,AL,lJ,hlen2]
    ·rw[zYa];have:=a3.len;omega
    ·rw[VT (Ne.symm hi)];exact a3.cel i cs (g5 i cs hi (VP.1 hc).1 hc)
    ·rw[VT (by omega),a3.old i hi];exact g6 i hi
   ·obtain⟨rfl,w1,g1,g2,g3,g4,g5,g6⟩:=hI;obtain⟨w',He,t1,t2,t3,t4,t5,t6,t7⟩:=lay_kid (H:=H) (W:=W) cE hv hk (hWr k hk) hok hS qU sA (show Hc.length≠pb by omega) (by omega) g1 g2 g3;exact⟨_,He,⟨rfl,w',t2,t3,t4,by omega,λi cs hi hl hc=>t6 i cs hi (by omega) (g5 i cs hi hl hc),λi hi=>(t7 i hi).trans (g6 i hi)⟩,t1⟩
  ·obtain⟨rfl,W,T,hQ,hl,hold⟩:=hI;obtain⟨W',T',Hd,t1,t2,t3,t4⟩:=lay_turn (self:=self) (pb:=pb) (tk:=tk) (H:=H) hi hok hS hv rfl hQ hl hold;exact⟨_,Hd,⟨rfl,W',T',t2,t3,t4⟩,t1⟩
theorem lay_ok {b pb:Nat}(sA:b<=pb):∀(n d:Nat),n<d->n<100000->1<=n->LayOk b pb n (Sh.f1v d)
 | 0,_,_,_,h=>by omega
 | n+1,d,hd,hn,_=>by
  obtain⟨d,rfl⟩:∃e,d=e+1:=⟨d-1,by omega⟩;refine lay_step (v:=n) ?_ (by omega) sA;rcases Xk n with h | h
  ·exact .inl h
  ·exact .inr (lay_ok sA n d (by omega) (by omega) h)
theorem p_clone (l:List Cl)(tk:Tok)(H:Aa)(hl:l.length<1000000000):Sh.f45 (.sl (enL cCl l) tk) H=some (if l=[]then (.ret (.sl [] .ti),H)else (.ret (dV H.length 0 l.length),H++[.buf 0 (flat cCl l) AG 5])):=by
 have hb:AS 5 []=some (.sl [] .ti):=rfl;unfold Sh.f45;cases l with
 | nil=>
  have ha:Gd AG 5 72 (.sl [] .ti) (.sl (enL cCl []) tk) H=some (.sl [] .ti,H):=rfl;have hn:Rn .eql (.sl (enL cCl []) tk)=some .ubool:=rfl;have hu:∀x:Out,Ak .ubool x x=x:=λx=>if_pos rfl;simp only[hn,GMw,hb,ha];exact hu _
 | cons c l=>
  have hn:Rn .eql (.sl (enL cCl (c::l)) tk)=some (.bool false):=rfl;have ha:Gd AG 5 72 (.sl [] .ti) (.sl (enL cCl (c::l)) tk) H=some (dV H.length 0 (c::l).length,H++[.buf 0 (flat cCl (c::l)) AG 5]):=by
   have he:Cj 5 (.sl (enL cCl (c::l)) tk) H=some (enL cCl (c::l)):=Pb;have hlen:(enL cCl (c::l)).length=(c::l).length:=by simp[enL]
   unfold Gd;rw[he];simp only[zXa];unfold IE;rw[hlen,if_neg (by simp)];simp only[zXk,VU,List.all_nil,List.nil_append];rw[if_pos ⟨trivial,by omega,by omega⟩]
   rfl
  simp only[hn,GMw,hb,ha];rw[if_neg (by simp)]
def VN (P L:List Cl)(i:Nat):Prop:=L.length=P.length/\∀k,k<P.length->L[k]? = if k<i\/P.length-i<=k then P[P.length-1-k]? else P[k]?
theorem VN.step {P L:List Cl}{i:Nat}(h:VN P L i)(hi:i<P.length-1-i):VN P (swp L i (P.length-1-i)) (i+1):=by
 obtain⟨h1,h2⟩:=h;have hl:i<L.length:=by omega
 have hj:P.length-1-i<L.length:=by omega
 refine⟨by rw[MW];exact h1,λk hk=>?_⟩;have ei:=h2 i (by omega);have ej:=h2 (P.length-1-i) (by omega);rw[VO hl,if_neg (by omega)]at ei;rw[VO hj,if_neg (by omega)]at ej;rw[swp_eq hl hj];by_cases k1:k=P.length-1-i
 ·subst k1;rw[Wf (by simp;omega),if_pos (by omega),ei]
  congr 1
  omega
 ·rw[VT (Ne.symm k1)];by_cases k2:k=i
  ·subst k2;rw[Wf hl,if_pos (by omega),ej]
  ·rw[VT (Ne.symm k2),h2 k hk];by_cases k3:k<i\/P.length-i<=k
   ·rw[if_pos k3,if_pos (by omega)]
   ·rw[if_neg k3,if_neg (by omega)]
theorem VN.done {P L:List Cl}{i:Nat}(h:VN P L i)(hi:¬i<P.length-1-i):L=P.reverse:=by
 apply Xx;intro k;by_cases hk:k<P.length
 ·rw[h.2 k hk,List.getElem?_reverse hk];split
  ·rfl
  ·congr 1
   omega
 ·rw[zYb (by rw[h.1];omega),zYb (by simp;omega)]
section
variable {p g:Nat}{l:List Cl}{H:Aa}
theorem p_reverse (h:Dc H p g l)(hp:0<l.length)(hl:l.length<1000000000):Sh.f1j (dV p g l.length) H=some (.ret (.tup []),BL H p g l.reverse):=by
 have hw:IntKind.i64.wrap ((l.length:Int)-1)=((l.length-1:Nat):Int):=by rw[Ao] <;> omega
 have bD:A7 (dV p g l.length)=some (.i6 (l.length:Int)):=rfl;unfold Sh.f1j;simp only[bD,GMw,hw];have key:=En (G:=λrec1 vs H1=>Sh.f2b H rec1 (ag vs 0) (ag vs 1) (ag vs 2) H1) (σ:=Nat×List Cl)
  (λs vs H1=>(VN l s.2 s.1/\2*s.1<=l.length)/\vs=[dV p g l.length,.i6 (s.1:Int),.i6 ((l.length:Int)-1-(s.1:Int))]/\H1=BL H p g s.2) (λs=>l.length-s.1) (λs=>¬s.1<l.length-1-s.1) (λs vs H1 hI hd=>?_)
  (s:=(0,l)) (vs:=[dV p g l.length,.i6 0,.i6 ((l.length-1:Nat):Int)]) (H:=H) ⟨⟨⟨rfl,λk hk=>by rw[if_neg (by omega)]⟩,Wv _⟩,by dsimp only;rw[show (l.length:Int)-1-((0:Nat):Int)=((l.length-1:Nat):Int)by omega];rfl,(CE h).symm⟩ (by dsimp only;omega)
 ·obtain⟨⟨i,L⟩,vs,H1,hd,⟨⟨ht,hi⟩,rfl,rfl⟩,rec,aB⟩:=key;dsimp only at ht hi hd aB;have d1:decide ((i:Int)<(l.length:Int)-1-(i:Int))=false:=zXd (by omega);rw[aB];unfold Sh.f2b;simp only[Am,Aj,Bg,Bk,GMw,d1];rw[ht.done hd]
 ·obtain⟨i,L⟩:=s;obtain⟨⟨ht,hi⟩,rfl,rfl⟩:=hI;dsimp only at ht hi hd ⊢;have hr:Dc (BL H p g L) p g L:=Di h;have hlt:i<l.length-1-i:=by omega
  have hLl:=ht.1;have i1:i<L.length:=by omega
  have i2:l.length-1-i<L.length:=by omega
  have e:(l.length:Int)-1-(i:Int)=((l.length-1-i:Nat):Int):=by omega
  have d1:decide ((i:Int)<((l.length-1-i:Nat):Int))=true:=zXc (by omega);have cR:=Au (show i<9223372036854775807 by omega);have cC:IntKind.i64.wrap (((l.length-1-i:Nat):Int)-1)=(l.length:Int)-1-((i+1:Nat):Int):=by rw[Ao] <;> omega
  obtain⟨s1,s2⟩:=Sr hr i1 i2;rw[B7]at s1 s2;rw[B7]at s2;refine⟨(i+1,swp L i (l.length-1-i)),_,_,by dsimp only;omega,⟨⟨ht.step hlt,by dsimp only;omega⟩,rfl,rfl⟩,λrec=>?_⟩;unfold Sh.f2b;simp only[Am,Aj,Bg,Bk,GMw,e,d1,BW (show i<l.length by omega),BW (show l.length-1-i<l.length by omega),C5 hr i1,C5 hr i2,BP,s1,s2,B9,AL,cR,cC]
theorem p_sort {f:Ab}{l0:List Cl}(hf1:TW AD f l0)(hf2:Uu f l0)(h:Dc H p g l)(hm:∀c∈l,c∈l0)(hl:l.length<1000000000) :
  ∃S,E6 ltC S/\F9 ltC l S/\S.length=l.length/\Sh.f1s (dV p g l.length) f H=some (.ret (.tup []),BL H p g S):=by
 obtain⟨S,s1,s2,s3,s4⟩:=stable_ok hf1 hf2 h hm hl;refine⟨S,s1,s2,s3,?_⟩;have bD:A7 (dV p g l.length)=some (.i6 (l.length:Int)):=rfl;unfold Sh.f1s;simp only[bD,GMw,s4]
def RwT (H:Aa)(p g:Nat)(l:List Cl)(r:List Ab):Prop:=H[p]? = some (.buf g (flat cCl l++r) AG 5)
theorem Dc.t (h:Dc H p g l):RwT H p g l []:=by unfold RwT;rw[Wx];exact h

end
theorem cpL_snoc (lt:Cl->Cl->Bool)(y:Cl):∀(P:List Cl) (x:Cl),cpL lt (P++[x]++[y])=if BC lt y x then cpL lt (P++[x])else cpL lt (P++[x])++[y]:=by
 have key:∀(t:List Cl) (a x:Cl),cpF lt a (t++[x]++[y])=if BC lt y x then cpF lt a (t++[x])else cpF lt a (t++[x])++[y]:=by
  intro t
  induction t with
  | nil=>
   intro a x;show (if BC lt x a then cpF lt x [y]else x::cpF lt x [y])=if BC lt y x then (if BC lt x a then cpF lt x []else x::cpF lt x [])else (if BC lt x a then cpF lt x []else x::cpF lt x [])++[y]
   have e:cpF lt x [y]=if BC lt y x then []else [y]:=rfl
   rw[e];cases BC lt x a <;> cases BC lt y x <;> rfl
  | cons b t ih=>
   intro a x;have ihb:=ih b x;show (if BC lt b a then cpF lt b (t++[x]++[y])else b::cpF lt b (t++[x]++[y]))=if BC lt y x then (if BC lt b a then cpF lt b (t++[x])else b::cpF lt b (t++[x]))else (if BC lt b a then cpF lt b (t++[x])else b::cpF lt b (t++[x]))++[y]
   rw[ihb];cases BC lt b a <;> cases BC lt y x <;> rfl
 intro P x;cases P with
 | nil=>
  show x::cpF lt x [y]=if BC lt y x then [x]else [x]++[y]
  have e:cpF lt x [y]=if BC lt y x then []else [y]:=rfl
  rw[e];cases BC lt y x <;> rfl
 | cons a P=>
  show a::cpF lt a (P++[x]++[y])=if BC lt y x then a::cpF lt a (P++[x])else (a::cpF lt a (P++[x]))++[y]
  rw[key];cases BC lt y x <;> rfl
theorem cpL_len (lt:Cl->Cl->Bool):∀l:List Cl,(cpL lt l).length<=l.length:=by
 have key:∀(t:List Cl) (a:Cl),(cpF lt a t).length<=t.length:=by
  intro t
  induction t with
  | nil=>intro a;exact VV _
  | cons b t ih=>
   intro a;have:=ih b;unfold cpF;split
   ·simp only[zXj];omega
   ·simp only[zXj];omega
 intro l;cases l with
 | nil=>exact VV _
 | cons a t=>have:=key t a;show (cpF lt a t).length+1<=t.length+1;omega
def zCl:List Ab:=[.bool false,.sl [] .ti,.bool false,.sl [] .ti,.int .u8 0]
theorem repl_scal (n:Nat):(Md n zCl).all Ab.isScal=true:=by
 unfold Md
 induction n with
 | zero=>rfl
 | succ n ih=>rw[zXm,List.flatten_cons,Y8,ih];rfl
theorem repl_len (n:Nat):(Md n zCl).length=n*5:=by
 unfold Md
 induction n with
 | zero=>rfl
 | succ n ih=>rw[zXm,List.flatten_cons,VX,ih,show zCl.length=5 from rfl];omega
theorem flat_split {L:List Cl}{k:Nat}(hk:k<=L.length):(flat cCl L).take (k*5)=flat cCl (L.take k)/\(flat cCl L).drop (k*5)=flat cCl (L.drop k):=by
 have h1:flat cCl L=flat cCl (L.take k)++flat cCl (L.drop k):=by rw[<-QY,WC]
 have h2:(flat cCl (L.take k)).length=k*5:=by rw[Fi,Wj,WR hk]
 rw[h1];exact⟨by rw[<-h2,Yc],by rw[<-h2,Ye]⟩
section
variable {p g:Nat}{l:List Cl}{H:Aa}{r:List Ab}
theorem UN {L:List Cl}{k:Nat}(h:RwT H p g L r)(hk:k<=L.length) :
  ∃G r',KT 5 (some zCl) (.ms p g (k*5) (L.length-k) (L.length-k) 5 false) H=some G/\RwT G p g (L.take k) r'/\(∀i,i≠p->G[i]? = H[i]?)/\G.length=H.length:=by
 unfold KT;by_cases h0:L.length-k=0
 ·have:L.take k=L:=Wd (by omega);simp only[h0,if_true];exact⟨H,r,rfl,by rw[this];exact h,λ_ _=>rfl,rfl⟩
 ·have bG:p<H.length:=(VP.1 h).1;have aW:AC H p g=some (flat cCl L++r):=by
   unfold RwT at h;simp[AC,h]
  have Zg:(Ab.agg (Md (L.length-k) zCl)).acells=some (Md (L.length-k) zCl):=by
   show (if (Md (L.length-k) zCl).all Ab.isScal=true then _ else _)=_;rw[if_pos (repl_scal _)]
  have eK:(flat cCl L).length=L.length*5:=Fi L;have aI:∀cs,FO H p g cs=H.set p (.buf g cs AG 5):=λcs=>by
   unfold RwT at h;unfold FO;rw[h]
  simp only[h0,if_false,zXa,if_true,Af,aW,Zg,repl_len,VX,eK];rw[if_pos ⟨trivial,by omega⟩,aI];refine⟨_,(Md (L.length-k) zCl)++r,rfl,?_,λi hi=>?_,by rw[zYa]⟩
  ·unfold RwT;rw[Wf bG];have e1:CZ (flat cCl L++r) (k*5) ((L.length-k)*5) (Md (L.length-k) zCl)=flat cCl (L.take k)++(Md (L.length-k) zCl++r):=by
    unfold CZ;rw[Xw (by omega),(flat_split hk).1,show k*5+(L.length-k)*5=(flat cCl L).length by omega,Ye,VZ]
   rw[e1]
  ·rw[VT (Ne.symm hi)]
theorem compact_l2 {f:Ab}{k0:Nat}{H0:Aa}(hf:∀c∈l,∀d∈l,∀H,DF AM f [.agg (cCl c),.agg (cCl d)] H=some (.ret (.bool (BC ltC c d)),H))
  (h:Dc H p g l)(h1:1<=k0)(h2:k0<l.length)(h3:cpL ltC (l.take k0)=l.take k0)(h4:BC ltC l[k0] (l[k0-1]'(by omega))=true)(hl:l.length<1000000000) :
  ∃G r,Ap (λaA vs H1=>Sh.f1t H0 aA (ag vs 0) (ag vs 1) (ag vs 2) (ag vs 3) (ag vs 4) H1) AU [dV p g l.length,f,.i6 (k0:Int),.ms p g (k0*5) (l.length-k0) (l.length-k0) 5 false,.i6 1] H =
   some (.ret (.ms p g 0 (cpL ltC l).length l.length 5 false),G)/\RwT G p g (cpL ltC l) r/\(∀i,i≠p->G[i]? = H[i]?)/\G.length=H.length:=by
 have dU:∀m (nN:1<=m) (hm:m<l.length),cpL ltC (l.take (m+1))=if BC ltC l[m] (l[m-1]'(by omega))then cpL ltC (l.take m)else cpL ltC (l.take m)++[l[m]]:=λm nN hm=>by
  obtain⟨j,rfl⟩:∃j,m=j+1:=⟨m-1,by omega⟩;have:=cpL_snoc ltC l[j+1] (l.take j) (l[j]'(by omega));rw[<-Wb (by omega:j<l.length),<-Wb hm]at this;exact this
 have key:=En (G:=λaA vs H1=>Sh.f1t H0 aA (ag vs 0) (ag vs 1) (ag vs 2) (ag vs 3) (ag vs 4) H1) (σ:=Nat×List Cl)
  (λs vs H1=>(k0+1<=s.1/\s.1<=l.length/\s.2.length=l.length/\(cpL ltC (l.take s.1)).length<=s.1-1/\s.2.take (cpL ltC (l.take s.1)).length=cpL ltC (l.take s.1)/\s.2.drop (s.1-1)=l.drop (s.1-1)) /\
   vs=[dV p g l.length,f,.i6 ((cpL ltC (l.take s.1)).length:Int),.ms p g (k0*5) (l.length-k0) (l.length-k0) 5 false,.i6 ((s.1-k0:Nat):Int)]/\H1=BL H p g s.2) (λs=>l.length-s.1) (λs=>¬s.1<l.length) (λs vs H1 hI hd=>?_)
  (s:=(k0+1,l)) (vs:=[dV p g l.length,f,.i6 (k0:Int),.ms p g (k0*5) (l.length-k0) (l.length-k0) 5 false,.i6 1]) (H:=H)
  (by
   have e1:cpL ltC (l.take (k0+1))=l.take k0:=by rw[dU k0 h1 h2,h4,if_pos rfl,h3]
   have e2:(l.take k0).length=k0:=by rw[Wj];omega
   dsimp only;rw[e1,e2];exact⟨⟨VV _,h2,rfl,by omega,rfl,by rw[Wl]⟩,by rw[Nat.add_sub_cancel_left];rfl,(CE h).symm⟩) (by dsimp only;omega)
 ·obtain⟨⟨m,L⟩,vs,H1,hd,⟨⟨i1,i2,i3,i4,i5,i6⟩,rfl,rfl⟩,rec,aB⟩:=key;dsimp only at i1 i2 i3 i4 i5 i6 hd aB;have em:m=l.length:=by omega
  subst em;rw[Wd (VV _)]at i4 i5 aB;have hr:RwT (BL H p g L) p g L []:=(Di h).t;obtain⟨G,r,g1,g2,g3,g4⟩:=UN (k:=(cpL ltC l).length) hr (by omega);rw[i3]at g1;rw[i5]at g2;have d1:decide (((l.length-k0:Nat):Int)<((l.length-k0:Nat):Int))=false:=zXd (by omega);have bD:A7 (.ms p g (k0*5) (l.length-k0) (l.length-k0) 5 false)=some (.i6 ((l.length-k0:Nat):Int)):=rfl;have s1:Bw 5 (dV p g l.length) (some (.i6 ((cpL ltC l).length:Int))) none none=some (.ms p g ((cpL ltC l).length*5) (l.length-(cpL ltC l).length) (l.length-(cpL ltC l).length) 5 false):=by
   have:(cpL ltC l).length<=l.length:=by omega
   simp[Bw,By,this]
  have s2:Bw 5 (dV p g l.length) none (some (.i6 ((cpL ltC l).length:Int))) none=some (.ms p g 0 (cpL ltC l).length l.length 5 false):=by
   have:(cpL ltC l).length<=l.length:=by omega
   simp[Bw,By,this]
  refine⟨G,r,?_,g2,λi hi=>?_,?_⟩
  ·rw[aB];unfold Sh.f1t;simp only[Am,Aj,Bg,Bk,B4,BS,GMw,bD,d1,s1,s2];rw[show [Ab.bool false,.sl [] .ti,.bool false,.sl [] .ti,.int .u8 0]=zCl from rfl,g1];simp only[GMw,AL,Ei,forget,Ev,fgt]
  ·rw[g3 i hi];unfold BL;rw[VT (Ne.symm hi)]
  ·rw[g4];unfold BL;rw[zYa]
 ·obtain⟨m,L⟩:=s;obtain⟨⟨i1,i2,i3,i4,i5,i6⟩,rfl,rfl⟩:=hI;dsimp only at i1 i2 i3 i4 i5 i6 hd ⊢;have hm:m<l.length:=by omega
  have hr:Dc (BL H p g L) p g L:=Di h;have hLm:m<L.length:=by omega
  have hLm1:m-1<L.length:=by omega
  have e1:L[m]=l[m]:=by
   have:=congrArg (λx=>x[1]?) i6;simp only[W8]at this;rw[show m-1+1=m by omega,VO hLm,VO hm]at this;exact X7 this
  have e2:L[m-1]=l[m-1]:=by
   have:=congrArg (λx=>x[0]?) i6;simp only[W8,Nat.add_zero]at this;rw[VO hLm1,VO (by omega)]at this;exact X7 this
  have bD:A7 (.ms p g (k0*5) (l.length-k0) (l.length-k0) 5 false)=some (.i6 ((l.length-k0:Nat):Int)):=rfl;have d1:decide (((m-k0:Nat):Int)<((l.length-k0:Nat):Int))=true:=zXc (by omega);have cR:IntKind.i64.wrap (((m-k0:Nat):Int)-1)=((m-k0-1:Nat):Int):=by rw[Ao] <;> omega
  have cC:IntKind.i64.wrap (((m-k0:Nat):Int)+1)=((m+1-k0:Nat):Int):=by rw[Ao] <;> omega
  have x1:Av 5 (.ms p g (k0*5) (l.length-k0) (l.length-k0) 5 false) (.i6 ((m-k0:Nat):Int))=some (.ptr p g (m*5)):=by
   rw[CL (by omega),<-WF,show k0+(m-k0)=m by omega]
  have x2:Av 5 (.ms p g (k0*5) (l.length-k0) (l.length-k0) 5 false) (.i6 ((m-k0-1:Nat):Int))=some (.ptr p g ((m-1)*5)):=by
   rw[CL (by omega),<-WF,show k0+(m-k0-1)=m-1 by omega]
  have c1:=hf l[m] (We hm) (l[m-1]'(by omega)) (We _);have dW:=dU m (by omega) hm;have l1:=C5 hr hLm;have l2:=C5 hr hLm1;rw[e1]at l1;rw[e2]at l2;cases he:BC ltC l[m] (l[m-1]'(by omega))with
  | true=>
   rw[he,if_pos rfl]at dW;refine⟨(m+1,L),_,_,by dsimp only;omega,⟨⟨by dsimp only;omega,by dsimp only;omega,i3,by dsimp only;rw[dW];omega,by dsimp only;rw[dW];exact i5,by
    dsimp only;rw[Wl];have:=congrArg (List.drop 1) i6;rw[WY,WY,show m-1+1=m by omega]at this;exact this⟩,rfl,rfl⟩,λrec=>?_⟩
   rw[he]at c1;unfold Sh.f1t Sh.f74;simp only[Am,Aj,Bg,Bk,B4,BS,GMw,bD,d1,cR,x1,x2,l1,l2,BP,c1,B9,cC,dW]
  | false=>
   rw[he]at dW;simp only[VY,if_false]at dW;have hk:(cpL ltC (l.take m)).length<L.length:=by omega
   have eY:=Au (show (cpL ltC (l.take m)).length<9223372036854775807 by omega);have hst:=row_st hr hk l[m];rw[B7]at hst;refine⟨(m+1,L.set (cpL ltC (l.take m)).length l[m]),_,_,by dsimp only;omega,⟨⟨by dsimp only;omega,by dsimp only;omega,by dsimp only;rw[zYa];exact i3,by dsimp only;rw[dW];simp;omega,by
     dsimp only;rw[dW,VX,zXi,Wb (by rw[zYa];omega),Y9,List.take_set_of_le (VV _),i5],by
     dsimp only;rw[Wl,List.drop_set_of_lt (by omega)];have:=congrArg (List.drop 1) i6;rw[WY,WY,show m-1+1=m by omega]at this;exact this⟩,rfl,rfl⟩,λrec=>?_⟩
   rw[he]at c1;unfold Sh.f1t Sh.f74;simp only[Am,Aj,Bg,Bk,B4,BS,GMw,bD,d1,cR,x1,x2,l1,l2,BP,c1,B9,BW (show (cpL ltC (l.take m)).length<l.length by omega),hst,AL,eY,cC,dW,VX,zXi]

end
def dupAt (l:List Cl)(k:Nat):Bool:=match l[k]?,l[k-1]? with
 | some a,some b=>BC ltC a b
 | _,_=>false
theorem dupAt_eq {l:List Cl}{k:Nat}(hk:k<l.length)(hk1:k-1<l.length):dupAt l k=BC ltC l[k] l[k-1]:=by
 unfold dupAt;rw[VO hk,VO hk1]
section
variable {p g:Nat}{l:List Cl}{H:Aa}{r:List Ab}{f:Ab}
theorem p_compact (hf:∀c∈l,∀d∈l,∀H,DF AM f [.agg (cCl c),.agg (cCl d)] H=some (.ret (.bool (BC ltC c d)),H))
  (h:Dc H p g l)(hl:l.length<1000000000) :
  ∃G r,Sh.f16 (dV p g l.length) f H=some (.ret (.ms p g 0 (cpL ltC l).length l.length 5 false),G)/\RwT G p g (cpL ltC l) r/\(∀i,i≠p->G[i]? = H[i]?)/\G.length=H.length:=by
 have bD:A7 (dV p g l.length)=some (.i6 (l.length:Int)):=rfl;have dU:∀m (nN:1<=m) (hm:m<l.length),cpL ltC (l.take (m+1))=if BC ltC l[m] (l[m-1]'(by omega))then cpL ltC (l.take m)else cpL ltC (l.take m)++[l[m]]:=λm nN hm=>by
  obtain⟨j,rfl⟩:∃j,m=j+1:=⟨m-1,by omega⟩;have:=cpL_snoc ltC l[j+1] (l.take j) (l[j]'(by omega));rw[<-Wb (by omega:j<l.length),<-Wb hm]at this;exact this
 unfold Sh.f16;by_cases h2:l.length<2
 ·have d2:decide ((l.length:Int)<2)=true:=zXc (by omega);have e:cpL ltC l=l:=by
   match l,h2 with
   | [],_=>rfl
   | [c],_=>rfl
   | _::_::_,h2=>simp only[zXj]at h2;omega
  refine⟨H,[],?_,by rw[e];exact h.t,λ_ _=>rfl,rfl⟩;simp only[bD,GMw,d2,Ei,forget,Ev,fgt];rw[e]
 ·have d2:decide ((l.length:Int)<2)=false:=zXd (by omega);have key:=En (G:=λrec1 vs H1=>Sh.f2f H rec1 (ag vs 0) (ag vs 1) (ag vs 2) H1) (σ:=Nat)
   (λk vs H1=>(1<=k/\k<=l.length/\cpL ltC (l.take k)=l.take k)/\vs=[dV p g l.length,f,.i6 (k:Int)]/\H1=H) (λk=>l.length-k) (λk=>k<l.length->dupAt l k=true) (λk vs H1 hI hd=>?_)
   (s:=1) (vs:=[dV p g l.length,f,.i6 1]) (H:=H) ⟨⟨VV _,by omega,by
    cases l with
    | nil=>simp at h2
    | cons c l=>rfl⟩,rfl,rfl⟩ (by omega)
  ·obtain⟨k,vs,H1,hd,⟨⟨i1,i2,i3⟩,rfl,rfl⟩,rec,aB⟩:=key;simp only[bD,GMw,d2];rw[aB];by_cases hk:k<l.length
   ·have hk1:k-1<l.length:=by omega
    have lO:=hd hk;rw[dupAt_eq hk hk1]at lO;obtain⟨G,r,g1,g2,g3,g4⟩:=compact_l2 (H0:=H1) hf h i1 hk i3 lO hl;refine⟨G,r,?_,g2,g3,g4⟩;have d1:decide ((k:Int)<(l.length:Int))=true:=zXc (by omega);have cR:IntKind.i64.wrap ((k:Int)-1)=((k-1:Nat):Int):=by rw[Ao] <;> omega
    have c1:=hf l[k] (We hk) l[k-1] (We hk1);rw[lO]at c1;have s1:Bw 5 (dV p g l.length) (some (.i6 (k:Int))) none none=some (.ms p g (k*5) (l.length-k) (l.length-k) 5 false):=by
     have:k<=l.length:=by omega
     simp[Bw,By,this]
    unfold Sh.f2f;simp only[Am,Aj,Bg,Bk,GMw,bD,d1,cR,BW hk,BW (show k-1<l.length by omega),C5 h hk,C5 h (show k-1<l.length by omega),BP,c1,s1];exact g1
   ·have d1:decide ((k:Int)<(l.length:Int))=false:=zXd (by omega);have e:cpL ltC l=l:=by
     rw[Wd (by omega)]at i3;exact i3
    refine⟨H1,[],?_,by rw[e];exact h.t,λ_ _=>rfl,rfl⟩;unfold Sh.f2f;simp only[Am,Aj,Bg,Bk,GMw,bD,d1,Ei,forget,Ev,fgt];rw[e]
  ·obtain⟨⟨i1,i2,i3⟩,rfl,rfl⟩:=hI;have hk:k<l.length:=by
    rcases W7 k l.length with q | q
    ·exact q
    ·exact absurd (λhk=>absurd hk (by omega)) hd
   have hk1:k-1<l.length:=by omega
   have he:BC ltC l[k] l[k-1]=false:=by
    cases e:BC ltC l[k] l[k-1]with
    | false=>rfl
    | true=>exact absurd (λ_=>by rw[dupAt_eq hk hk1];exact e) hd
   have d1:decide ((k:Int)<(l.length:Int))=true:=zXc (by omega);have cR:IntKind.i64.wrap ((k:Int)-1)=((k-1:Nat):Int):=by rw[Ao] <;> omega
   have cC:=Au (show k<9223372036854775807 by omega);have c1:=hf l[k] (We hk) l[k-1] (We hk1);rw[he]at c1;refine⟨k+1,_,_,by omega,⟨⟨by omega,hk,by rw[dU k i1 hk,if_neg (by rw[he];decide),i3,Wb hk]⟩,rfl,rfl⟩,λrec=>?_⟩;unfold Sh.f2f;simp only[Am,Aj,Bg,Bk,GMw,bD,d1,cR,BW hk,BW (show k-1<l.length by omega),C5 h hk,C5 h (show k-1<l.length by omega),BP,c1,cC]
theorem Su (h:RwT H p g l r):AC H p g=some (flat cCl l++r):=by
 unfold RwT at h;simp[AC,h]
theorem row_ldT {i:Nat}(h:RwT H p g l r)(hi:i<l.length):Ac true 5 (.ptr p g (i*5)) H=some (.agg (cCl l[i])):=by
 have h1:=KO (f:=cCl) (sz:=5) hi;have h2:=RK (f:=cCl) (sz:=5) hi;have h3:((flat cCl l++r).drop (i*5)).take 5=cCl l[i]:=by
  rw[XH (by omega),Xw (by rw[Ws];omega),h2]
 simp only[Ac,Su h,zXa,if_true,h3];rw[if_pos (by rw[VX];omega)]
theorem row_stT {i:Nat}(h:RwT H p g l r)(hi:i<l.length)(a:Cl):∃G,Af 5 (.ptr p g (i*5)) (.agg (cCl a)) H=some G/\RwT G p g (l.set i a) r/\(∀i,i≠p->G[i]? = H[i]?)/\G.length=H.length:=by
 have bG:p<H.length:=(VP.1 h).1;have h1:=KO (f:=cCl) (sz:=5) hi;have hs:=Tm (f:=cCl) (sz:=5) (a:=a) hi;have aI:∀cs,FO H p g cs=H.set p (.buf g cs AG 5):=λcs=>by
  unfold RwT at h;unfold FO;rw[h]
 have hp:CZ (flat cCl l++r) (i*5) 5 (cCl a)=flat cCl (l.set i a)++r:=by
  rw[<-hs];unfold CZ;rw[Xw (by omega),XH (by omega)];simp only[VZ]
 refine⟨H.set p (.buf g (flat cCl (l.set i a)++r) AG 5),?_,?_,λj hj=>by rw[VT (Ne.symm hj)],by rw[zYa]⟩
 ·simp only[Af,Su h,zXa,Ny,show (cCl a).length=5 from rfl];rw[if_pos ⟨trivial,by rw[VX];omega⟩,aI,hp]
 ·unfold RwT;rw[Wf bG]
theorem RwT.push (h:RwT H p g l r)(G:Aa):RwT (H++G) p g l r:=by
 have bG:p<H.length:=(VP.1 h).1;unfold RwT at h ⊢;rw[VR bG];exact h
def z0 (c:Cl):Bool:=decide (c.s=0)
theorem index_z {cap:Nat}(hf:∀c∈l,∀H,DF AH f [.agg (cCl c)] H=some (.ret (.bool (z0 c)),H))(h:RwT H p g l r)(hl:l.length<1000000000) :
  Sh.fd (.ms p g 0 l.length cap 5 false) f H=some (.ret (.i6 (match l.findIdx? z0 with | some i=>(i:Int) | none=>-1)),H):=by
 have bD:A7 (.ms p g 0 l.length cap 5 false)=some (.i6 (l.length:Int)):=rfl;unfold Sh.fd;simp only[bD,GMw];have key:=Bq (G:=λrec1 vs H1=>Sh.fl H rec1 (ag vs 0) (ag vs 1) (ag vs 2) (ag vs 3) H1) (σ:=Nat) (λi=>i<=l.length/\(l.take i).findIdx? z0=none)
  (λi=>[.ms p g 0 l.length cap 5 false,f,.i6 (l.length:Int),.i6 (i:Int)]) (λ_=>H) (λi=>l.length-i) (λ_=>some (.ret (.i6 (match l.findIdx? z0 with | some i=>(i:Int) | none=>-1)),H)) (λi rec hi hrec=>?_) 0 ⟨Wv _,rfl⟩ (by omega)
 ·exact key
 ·obtain⟨h1,h2⟩:=hi;unfold Sh.fl;by_cases hi:i<l.length
  ·have d1:decide ((i:Int)<(l.length:Int))=true:=zXc (by omega);have x1:Av 5 (.ms p g 0 l.length cap 5 false) (.i6 (i:Int))=some (.ptr p g (i*5)):=by rw[CL hi,VU]
   have cL:=Au (show i<9223372036854775807 by omega);have c1:=hf l[i] (We hi);cases hz:z0 l[i]with
   | true=>
    rw[hz]at c1;have:l.findIdx? z0=some i:=by
     rw[XY];refine⟨hi,hz,λj hj=>?_⟩;rw[Yt]at h2;have:=h2 l[j] (by rw[List.mem_take_iff_getElem];exact⟨j,by omega,rfl⟩);simpa using this
    simp only[Am,Aj,Bg,Bk,B4,GMw,d1,x1,row_ldT h hi,c1,this]
   | false=>
    rw[hz]at c1;simp only[Am,Aj,Bg,Bk,B4,GMw,d1,x1,row_ldT h hi,c1,cL];refine hrec (i+1) ⟨hi,?_⟩ (by omega);rw[Wb hi,List.findIdx?_append,h2];simp[hz]
  ·have d1:decide ((i:Int)<(l.length:Int))=false:=zXd (by omega);rw[Wd (by omega)]at h2;simp only[Am,Aj,Bg,Bk,B4,GMw,d1,h2]

end
theorem fall_msX {α:Type}{f:α->List Ab}{sz:Nat}[hf:Sz f sz][hp:Pl f]{H:Aa}{l:List α}{r:List Ab}{id b d cap:Nat}{ex:Bool}(hg:AC H id 0=some (flat f l++r))(hi:b<=id):Hx H b (d+3) (.ms id 0 0 l.length cap sz ex)=some (.sl (enL f l) .no):=by
 have h1:¬id<b:=by omega
 have h2:l.length*sz<=(flat f l++r).length:=by rw[VX,Fi];omega
 have h3:(flat f l++r).take (l.length*sz)=flat f l:=by rw[<-Fi (f:=f) (sz:=sz) l,Yc]
 unfold Hx;simp only[frz,h1,if_false,hg,zXa,Xm,VU,h2,if_true,h3,Hu (Ns (f:=f) l),OR (f:=f) l,M4,zXb,forget,Ev,fgt]
section
variable {p g:Nat}{l:List Cl}{H:Aa}{r:List Ab}{f:Ab}
def kp (c:Cl):Bool:=decide (c.s≠0)
theorem kp_z (c:Cl):kp c = !z0 c:=by unfold kp z0;by_cases h:c.s=0 <;> simp[h]
theorem p_delete {cap:Nat}(hf:∀c∈l,∀H,DF AH f [.agg (cCl c)] H=some (.ret (.bool (z0 c)),H))(hf2:∀c∈l,∀H,DF Bd f [.agg (cCl c)] H=some (.ret (.bool (z0 c)),H))
  (h:RwT H p g l r)(hc:l.length<=cap)(hl:cap<1000000000) :
  ∃G r',Sh.f17 (.ms p g 0 l.length cap 5 false) f H=some (.ret (.ms p g 0 (l.filter kp).length cap 5 false),G)/\RwT G p g (l.filter kp) r'/\(∀i,i<H.length->i≠p->G[i]? = H[i]?)/\H.length<=G.length:=by
 have gF:=index_z (cap:=cap) hf h (by omega);have bD:A7 (.ms p g 0 l.length cap 5 false)=some (.i6 (l.length:Int)):=rfl;unfold Sh.f17;cases eR:l.findIdx? z0 with
 | none=>
  rw[eR]at gF;have e:l.filter kp=l:=by
   rw[List.filter_eq_self];intro c hc;rw[Yt]at eR;rw[kp_z,eR c hc];rfl
  refine⟨H,r,?_,by rw[e];exact h,λ_ _ _=>rfl,VV _⟩;have hb:((-1:Int) == -1)=true:=rfl;simp only[GMw,gF,hb,Ei,forget,Ev,fgt];rw[e]
 | some i0=>
  rw[eR]at gF;rw[XY]at eR;obtain⟨jC,lX,qT⟩:=eR;have hb:(((i0:Nat):Int) == -1)=false:=by rw[beq_eq_false_iff_ne];omega
  have hw0:=Au (show i0<9223372036854775807 by omega);have ef:(l.take (i0+1)).filter kp=l.take i0:=by
   rw[Wb jC,WE];have e1:(l.take i0).filter kp=l.take i0:=by
    rw[List.filter_eq_self];intro c hc;rw[List.mem_take_iff_getElem]at hc;obtain⟨j,hj,rfl⟩:=hc;rw[kp_z];have:=qT j (by omega);simpa using this
   have e2:[l[i0]].filter kp=[]:=by simp[WN,kp_z,lX]
   rw[e1,e2,Wx]
  have key:=En (G:=λrec1 vs H1=>Sh.f2g H rec1 (ag vs 0) (ag vs 1) (ag vs 2) (ag vs 3) H1) (σ:=Nat×List Cl)
   (λs vs K=>(i0+1<=s.1/\s.1<=l.length/\s.2.length=l.length/\((l.take s.1).filter kp).length<s.1/\s.2.take ((l.take s.1).filter kp).length=(l.take s.1).filter kp/\s.2.drop s.1=l.drop s.1) /\
    (RwT K p g s.2 r/\(∀i,i<H.length->i≠p->K[i]? = H[i]?)/\H.length<=K.length)/\vs=[.ms p g 0 l.length cap 5 false,f,.i6 (((l.take s.1).filter kp).length:Int),.i6 (s.1:Int)]) (λs=>l.length-s.1) (λs=>¬s.1<l.length) (λs vs K hI hd=>?_)
   (s:=(i0+1,l)) (vs:=[.ms p g 0 l.length cap 5 false,f,.i6 (i0:Int),.i6 ((i0+1:Nat):Int)]) (H:=H)
   (by
    have e2:(l.take i0).length=i0:=by rw[Wj];omega
    dsimp only;rw[ef,e2];exact⟨⟨VV _,jC,rfl,by omega,rfl,rfl⟩,⟨h,λ_ _ _=>rfl,VV _⟩,rfl⟩) (by dsimp only;omega)
  ·obtain⟨⟨j,L⟩,vs,K,hd,⟨⟨i1,i2,i3,i4,i5,i6⟩,⟨k1,k2,k3⟩,rfl⟩,rec,aB⟩:=key;dsimp only at i1 i2 i3 i4 i5 i6 k1 hd aB;have ej:j=l.length:=by omega
   subst ej;rw[Wd (VV _)]at i4 i5 aB;obtain⟨G,r',g1,g2,g3,g4⟩:=UN (k:=(l.filter kp).length) k1 (by omega);rw[i3]at g1;rw[i5]at g2;have d1:decide ((l.length:Int)<(l.length:Int))=false:=zXd (by omega);have s1:Bw 5 (.ms p g 0 l.length cap 5 false) (some (.i6 ((l.filter kp).length:Int))) none none=some (.ms p g ((l.filter kp).length*5) (l.length-(l.filter kp).length) (cap-(l.filter kp).length) 5 false):=by
    have:(l.filter kp).length<=l.length:=by omega
    simp[Bw,By,this,hc]
   have s2:Bw 5 (.ms p g 0 l.length cap 5 false) none (some (.i6 ((l.filter kp).length:Int))) none=some (.ms p g 0 (l.filter kp).length cap 5 false):=by
    have:(l.filter kp).length<=cap:=by omega
    simp[Bw,By,this]
   have g1':KT 5 (some zCl) (.ms p g ((l.filter kp).length*5) (l.length-(l.filter kp).length) (cap-(l.filter kp).length) 5 false) K=some G:=g1;refine⟨G,r',?_,g2,λi hi hne=>by rw[g3 i hne];exact k2 i hi hne,by omega⟩;simp only[GMw,gF,hb,hw0];rw[aB];unfold Sh.f2g;simp only[Am,Aj,Bg,Bk,B4,GMw,bD,d1,s1,s2];rw[show [Ab.bool false,.sl [] .ti,.bool false,.sl [] .ti,.int .u8 0]=zCl from rfl,g1'];simp only[GMw,AL,Ei,forget,Ev,fgt]
  ·obtain⟨j,L⟩:=s;obtain⟨⟨i1,i2,i3,i4,i5,i6⟩,⟨k1,k2,k3⟩,rfl⟩:=hI;dsimp only at i1 i2 i3 i4 i5 i6 k1 hd ⊢;have hj:j<l.length:=by omega
   have hLj:j<L.length:=by omega
   have ej:L[j]=l[j]:=by
    have:=congrArg (λx=>x[0]?) i6;simp only[W8,Nat.add_zero]at this;rw[VO hLj,VO hj]at this;exact X7 this
   have edr:L.drop (j+1)=l.drop (j+1):=by
    have:=congrArg (List.drop 1) i6;rw[WY,WY]at this;exact this
   have d1:decide ((j:Int)<(l.length:Int))=true:=zXc (by omega);have x1:Av 5 (.ms p g 0 l.length cap 5 false) (.i6 (j:Int))=some (.ptr p g (j*5)):=by rw[CL hj,VU]
   have sK:=Au (show j<9223372036854775807 by omega);have ld:=row_ldT k1 hLj;rw[ej]at ld;have al:Az (some [.bool false,.sl [] .ti,.bool false,.sl [] .ti,.int .u8 0]) K=some (.ptr K.length 0 0,K++[.cel 0 zCl]):=alloc_eq rfl;have stv:Af 5 (.ptr K.length 0 0) (.agg (cCl l[j])) (K++[.cel 0 zCl])=some (K++[.cel 0 (cCl l[j])]):=by
    simp only[Af,Aw Al,zXa,Ny,show (cCl l[j]).length=5 from rfl];rw[if_pos ⟨trivial,by simp[zCl]⟩,Bt Al,Be]
    rfl
   have ldv:Ac true 5 (.ptr K.length 0 0) (K++[.cel 0 (cCl l[j])])=some (.agg (cCl l[j])):=by
    simp only[Ac,Aw Al,zXa];rfl
   have c1:=hf2 l[j] (We hj);have kr:=k1.push [.cel 0 (cCl l[j])];have dW:(l.take (j+1)).filter kp=(l.take j).filter kp++[l[j]].filter kp:=by rw[Wb hj,WE]
   cases hz:z0 l[j]with
   | true=>
    have e0:[l[j]].filter kp=[]:=by simp[WN,kp_z,hz]
    rw[e0,Wx]at dW;rw[hz]at c1;refine⟨(j+1,L),_,K++[.cel 0 (cCl l[j])],by dsimp only;omega,⟨⟨by dsimp only;omega,hj,i3,by dsimp only;rw[dW];omega,by dsimp only;rw[dW];exact i5,edr⟩,⟨kr,λi hi hne=>by rw[VR (by omega)];exact k2 i hi hne,by simp;omega⟩,rfl⟩,λrec=>?_⟩;unfold Sh.f2g Sh.f75;simp only[Am,Aj,Bg,Bk,B4,GMw,bD,d1,x1,ld,al,stv,ldv,AL,c1,sK,dW]
   | false=>
    have e0:[l[j]].filter kp=[l[j]]:=by simp[WN,kp_z,hz]
    rw[e0]at dW;rw[hz]at c1;have aD:((l.take j).filter kp).length<L.length:=by omega
    obtain⟨G,g1,g2,g3,g4⟩:=row_stT kr aD l[j];have cL:=Au (show ((l.take j).filter kp).length<9223372036854775807 by omega);have x2:Av 5 (.ms p g 0 l.length cap 5 false) (.i6 (((l.take j).filter kp).length:Int))=some (.ptr p g (((l.take j).filter kp).length*5)):=by rw[CL (by omega),VU]
    have hGl:G.length=K.length+1:=by rw[g4];simp
    refine⟨(j+1,L.set ((l.take j).filter kp).length l[j]),_,G,by dsimp only;omega,⟨⟨by dsimp only;omega,hj,by dsimp only;rw[zYa];exact i3,by dsimp only;rw[dW];simp;omega,by
      dsimp only;rw[dW,VX,zXi,Wb (by rw[zYa];omega),Y9,List.take_set_of_le (VV _),i5],by
      dsimp only;rw[List.drop_set_of_lt (by omega)];exact edr⟩,⟨g2,λi hi hne=>by rw[g3 i hne,VR (by omega)];exact k2 i hi hne,by omega⟩,rfl⟩,λrec=>?_⟩
    unfold Sh.f2g Sh.f75;simp only[Am,Aj,Bg,Bk,B4,GMw,bD,d1,x1,x2,ld,al,stv,ldv,AL,c1,g1,cL,sK,dW,VX,zXi]

end
theorem M1 {g:FuncId}{F:List Ab->Aa->Out}{o:Orc}{args:List Ab}{H:Aa}:DF (ent g F o) (.fn g []) args H=F args H:=by
 unfold DF ent;simp only[if_true,Wx]
theorem RR {g g':FuncId}{F:List Ab->Aa->Out}{o:Orc}{args:List Ab}{H:Aa}(h:¬g'=g):DF (ent g F o) (.fn g' []) args H=DF o (.fn g' []) args H:=by
 unfold DF ent;simp only[h,if_false]
theorem Pu (F:Ab->Aa->Out)(a:Ab)(H:Aa):ap1 F [a] H=F a H:=rfl
theorem ap2_two (F:Ab->Ab->Aa->Out)(a b:Ab)(H:Aa):ap2 F [a,b] H=F a b H:=rfl
theorem cmp_ins {l:List Cl}(hok:∀c∈l,c.ok):TW AD (.fn 144 []) l:=λc hc d hd K=>by
 unfold AD;rw[M1,ap2_two];exact p_order (hok c hc) (hok d hd) K
theorem cmp_sym {l:List Cl}(hok:∀c∈l,c.ok):Uu (.fn 144 []) l:=λself c hc d hd K=>by
 unfold Bh;rw[RR (by decide),M1,ap2_two];exact p_order (hok c hc) (hok d hd) K
theorem p_last1 {c d:Cl}(hc:c.ok)(hd:d.ok)(H:Aa):Sh.f4c (.agg (cCl c)) (.agg (cCl d)) H=some (.ret (.bool (BC ltC c d)),H):=by
 have e1:(H++[Blk.cel 0 (cCl c)]++[Blk.cel 0 (cCl d)])[H.length]? = some (.cel 0 (cCl c)):=by simp
 have e2:(H++[Blk.cel 0 (cCl c)]++[Blk.cel 0 (cCl d)])[(H++[Blk.cel 0 (cCl c)]).length]? = some (.cel 0 (cCl d)):=Al;have ld:∀ {K:Aa} {p:Nat} {x:Cl},K[p]? = some (.cel 0 (cCl x))->Ac true 5 (.ptr p 0 0) K=some (.agg (cCl x)):=λh=>by
  simp only[Ac,Aw h,zXa];rfl
 have ho:=λK=>p_order hc hd K;have fin:∀q:Bool,rP H (.bool q) (H++[Blk.cel 0 (cCl c)]++[Blk.cel 0 (cCl d)])=some (.ret (.bool q),H):=λq=>Gu rfl (by simp);have hb:(JD c d == 0)=BC ltC c d:=by rw[<-Vc];rfl
 unfold Sh.f4c;simp only[GMw,boxCl,ld e1,ld e2,ho,hb,fin]
theorem R8 (c:Cl)(H:Aa):Sh.f29 (.agg (cCl c)) H=some (.ret (.bool (z0 c)),H):=by
 have ld:Ac false 1 (.ptr H.length 0 4) (H++[Blk.cel 0 (cCl c)])=some (.int .u8 (c.s.toNat:Int)):=by
  simp only[Ac,Aw Al,zXa];rfl
 have fin:∀q:Bool,rP H (.bool q) (H++[Blk.cel 0 (cCl c)])=some (.ret (.bool q),H):=λq=>Gu rfl (by simp);have hb:((c.s.toNat:Int) == 0)=z0 c:=by
  unfold z0;by_cases h:c.s=0
  ·rw[h];rfl
  ·rw[zXd h,beq_eq_false_iff_ne];intro e;exact h (Xp.1 (by simpa using e))
 unfold Sh.f29;simp only[GMw,boxCl,Ah,VU,ld,hb,fin]
theorem kp_last (l:List Cl):(CO l).filter kp=Bb l:=rfl
theorem eq_cp {l:List Cl}(hok:∀c∈l,c.ok):∀c∈l,∀d∈l,∀H,DF AM (.fn 146 []) [.agg (cCl c),.agg (cCl d)] H=some (.ret (.bool (BC ltC c d)),H):=λc hc d hd K=>by
 unfold AM;rw[M1,ap2_two];exact p_last1 (hok c hc) (hok d hd) K
theorem z_ix (c:Cl)(K:Aa):DF AH (.fn 148 []) [.agg (cCl c)] K=some (.ret (.bool (z0 c)),K):=by
 unfold AH
 first
  | rw[M1,Pu];exact R8 c K
  | rw[RR (by decide),M1,Pu];exact R8 c K
theorem z_del (c:Cl)(K:Aa):DF Bd (.fn 148 []) [.agg (cCl c)] K=some (.ret (.bool (z0 c)),K):=by
 unfold Bd
 first
  | rw[M1,Pu];exact R8 c K
  | rw[RR (by decide),M1,Pu];exact R8 c K
theorem last_nil (H:Aa)(f1 f2 f3:Ab):Sh.f1j (.sl [] .ti) H=some (.ret (.tup []),H)/\Sh.f1s (.sl [] .ti) f1 H=some (.ret (.tup []),H) /\
  Sh.f16 (.sl [] .ti) f2 H=some (.ret (.sl [] .no),H)/\Sh.f17 (.sl [] .no) f3 H=some (.ret (.sl [] .no),H):=by
 have hl:∀tk,A7 (.sl [] tk)=some (.i6 0):=λ_=>rfl;have w1:IntKind.i64.wrap (0-1) = -1:=rfl;have w2:IntKind.i64.wrap (0+1)=1:=rfl;have d1:decide ((0:Int) < -1)=false:=rfl;have d2:decide ((20:Int)<=0)=false:=rfl;have d3:decide ((1:Int)<0)=false:=rfl;have d4:decide ((20:Int)<0)=false:=rfl;have d5:decide ((0:Int)<2)=true:=rfl;have d6:decide ((0:Int)<0)=false:=rfl;have eJ:Sh.fm (.sl [] .ti) (.i6 0) (.i6 0) f1 H=some (.ret (.tup []),H):=by
  unfold Sh.fm;simp only[GMw,w2];rw[DU Fe];unfold Sh.f48;simp only[Am,Aj,Bg,Bk,B4,BS,GMw,d3]
 have hst:Sh.f1r (.sl [] .ti) (.i6 0) f1 H=some (.ret (.tup []),H):=by
  unfold Sh.f1r;rw[DU Fe];unfold Sh.f2e;simp only[Am,Aj,Bg,Bk,B4,BS,DG,GMw,d2,eJ];rw[DU Fe];unfold Sh.f15;simp only[Am,Aj,Bg,Bk,B4,GMw,d4]
 have gF:Sh.fd (.sl [] .no) f3 H=some (.ret (.i6 (-1)),H):=by
  unfold Sh.fd;simp only[hl,GMw];rw[DU Fe];unfold Sh.fl;simp only[Am,Aj,Bg,Bk,B4,GMw,d6]
 refine⟨?_,?_,?_,?_⟩
 ·unfold Sh.f1j;simp only[hl,GMw,w1];rw[DU Fe];unfold Sh.f2b;simp only[Am,Aj,Bg,Bk,GMw,d1]
 ·unfold Sh.f1s;simp only[hl,GMw,hst]
 ·unfold Sh.f16;simp only[hl,GMw,d5,Ei,forget,Ev,fgt]
 ·unfold Sh.f17;have hb:((-1:Int) == -1)=true:=rfl;simp only[GMw,gF,hb,Ei,forget,Ev,fgt]
theorem p_last (l:List Cl)(tk:Tok)(H:Aa)(hl:l.length<1000000000)(hok:∀c∈l,c.ok):Sh.f4d (.sl (enL cCl l) tk) H=some (.ret (.sl (enL cCl (Bb l)) .no),H):=by
 have aG:=p_clone l tk H hl;unfold Sh.f4d;by_cases h0:l=[]
 ·subst h0;rw[if_pos rfl]at aG;obtain⟨n1,n2,n3,n4⟩:=last_nil H (.fn 144 []) (.fn 146 []) (.fn 148 []);have hl0:Bb ([]:List Cl)=[]:=rfl;simp only[GMw,aG,n1,n2,n3,n4,Mf,I4,zXb,hl0]
  rfl
 ·rw[if_neg h0]at aG;have hp:0<l.length:=Wy.2 h0;have r0:Dc (H++[.buf 0 (flat cCl l) AG 5]) H.length 0 l:=by unfold Dc;simp
  have nE:=p_reverse r0 hp hl;have r1:Dc (BL (H++[.buf 0 (flat cCl l) AG 5]) H.length 0 l.reverse) H.length 0 l.reverse:=Di r0;have xG:l.reverse.length=l.length:=List.length_reverse;obtain⟨S,s1,s2,s3,s4⟩:=p_sort (f:=.fn 144 []) (l0:=l) (cmp_ins hok) (cmp_sym hok) r1 (λc hc=>List.mem_reverse.1 hc) (by omega);rw[xG,B7]at s4;rw[xG]at s3;have zL:∀c∈S,c∈l:=λc hc=>List.mem_reverse.1 ((s2.mem J9).2 hc);have r2:Dc (BL (H++[.buf 0 (flat cCl l) AG 5]) H.length 0 S) H.length 0 S:=Di r0;obtain⟨G,r,g1,g2,g3,g4⟩:=p_compact (f:=.fn 146 []) (eq_cp λc hc=>hok c (zL c hc)) r2 (by omega);have rY:=cp_last s1 s2;rw[rY,s3]at g1;rw[rY]at g2;have hAl:(CO l).length<=l.length:=by rw[<-rY,<-s3];exact cpL_len _ _
  obtain⟨G2,r',k1,k2,k3,k4⟩:=p_delete (f:=.fn 148 []) (cap:=l.length) (λc hc K=>z_ix c K) (λc hc K=>z_del c K) g2 hAl hl;rw[kp_last]at k1 k2;have hHl:(H++[Blk.buf 0 (flat cCl l) AG 5]).length=H.length+1:=by simp
  have hGl:G.length=H.length+1:=by rw[g4];unfold BL;rw[zYa,hHl]
  have hold:∀i,i<H.length->G2[i]? = H[i]? := λi hi=>by
   rw[k3 i (by omega) (by omega),g3 i (by omega)];unfold BL;rw[VT (by omega),VR hi]
  have eA:=fall_msX (d:=5) (cap:=l.length) (ex:=false) (Su k2) (VV H.length);simp only[GMw,aG,nE,s4,g1,k1,GD (C0 hold)];rw[eA]
  rfl
theorem p_of1 (r:RC)(hf:r.fits)(H:Aa):Sh.f43 (.agg (cRC r)) H=some (.ret (.bool (!r.right)),H):=by
 obtain⟨f1,f2,f3,f4⟩:=hf;have hb:BD true 5 (.agg (cRC r)) H=some (.ptr H.length 0 0,H++[.cel 0 (cRC r)]):=Cp rfl rfl;have e1:(H++[Blk.cel 0 (cRC r)])[H.length]? = some (.cel 0 (cRC r)):=Al;have l1:Ac true 2 (.ptr H.length 0 0) (H++[Blk.cel 0 (cRC r)])=some (.agg [.bool r.n1,.sl (enL cU r.l1) .no]):=by
  simp only[Ac,Aw e1,zXa];rfl
 have l2:Ac true 2 (.ptr H.length 0 2) (H++[Blk.cel 0 (cRC r)])=some (.agg [.bool r.n2,.sl (enL cU r.l2) .no]):=by
  simp only[Ac,Aw e1,zXa];rfl
 have r1:=λK=>SC r.n1 r.l1 .no K f3;have r2:=λK=>SC r.n2 r.l2 .no K f4;have fin:∀q:Bool,rP H (.bool q) (H++[Blk.cel 0 (cRC r)])=some (.ret (.bool q),H):=λq=>Gu rfl (by simp);unfold Sh.f43 RC.right;simp only[GMw,hb,Ah,VU,l1,r1];cases HH r.n1 r.l1 with
 | false=>simp only[GMw,WT,fin,Xh]
 | true=>simp only[GMw,WH,Ah,VU,l2,r2,fin,zXn]
theorem T9 (l:List RC)(tk:Tok)(H:Aa)(hl:l.length<1000000000)(hf:∀r∈l,r.fits) :
  Sh.f44 (.sl (enL cRC l) tk) (.fn 84 []) H=some (.ret (.bool (!l.all RC.right)),H):=by
 have cZ:∀(r:RC),r∈l->∀K,DF AH (.fn 84 []) [.agg (cRC r)] K=some (.ret (.bool (!r.right)),K):=λr hr K=>by
  unfold AH;rw[RR (by decide),M1,Pu];exact p_of1 r (hf r hr) K
 have key:∃k:Int,Sh.fd (.sl (enL cRC l) tk) (.fn 84 []) H=some (.ret (.i6 k),H)/\decide (k>=0) = !l.all RC.right:=by
  unfold Sh.fd;simp only[Ax,GMw];cases aE:l.all RC.right with
  | true=>
   refine⟨-1,?_,rfl⟩;refine Cm (G:=λrec1 vs H1=>Sh.fl H rec1 (ag vs 0) (ag vs 1) (ag vs 2) (ag vs 3) H1) l.length
    (λi=>[.sl (enL cRC l) tk,.fn 84 [],.i6 (l.length:Int),.i6 (i:Int)]) (λ_=>H) _ (by omega) (λrec i hi=>?_) (λrec=>?_)
   ·have d1:decide ((i:Int)<(l.length:Int))=true:=zXc (by omega);have hr:l[i].right=true:=Wi.1 aE _ (We hi);have c1:=cZ l[i] (We hi) H;have hld:Ac true 5 (.cptr (cRC l[i]) 0) H=some (.agg (cRC l[i])):=rfl;have cL:=Au (show i<9223372036854775807 by omega);rw[hr]at c1;unfold Sh.fl;simp only[Am,Aj,Bg,Bk,B4,GMw,d1,A1 hi,hld,c1,cL,WH]
   ·have d1:decide ((l.length:Int)<(l.length:Int))=false:=zXd (by omega);unfold Sh.fl;simp only[Am,Aj,Bg,Bk,B4,GMw,d1]
  | false=>
   obtain⟨k,hk⟩:∃k,l.findIdx? (λr=>!r.right)=some k:=by
    cases hq:l.findIdx? (λr=>!r.right)with
    | some k=>exact⟨k,rfl⟩
    | none=>
     rw[Yt]at hq;rw[Xy]at aE;obtain⟨r,hr,h⟩:=aE;have:=hq r hr;cases gB:r.right with
     | true=>exact absurd gB h
     | false=>rw[gB]at this;simp at this
   rw[XY]at hk;obtain⟨k1,k2,k3⟩:=hk;refine⟨k,?_,by simp⟩;have loop:=Bq (G:=λrec1 vs H1=>Sh.fl H rec1 (ag vs 0) (ag vs 1) (ag vs 2) (ag vs 3) H1) (σ:=Nat) (λi=>i<=k)
    (λi=>[.sl (enL cRC l) tk,.fn 84 [],.i6 (l.length:Int),.i6 (i:Int)]) (λ_=>H) (λi=>k-i) (λ_=>some (.ret (.i6 (k:Int)),H)) (λi rec hi hrec=>?_) 0 (Wv _) (by omega)
   ·exact loop
   ·have hil:i<l.length:=by omega
    have d1:decide ((i:Int)<(l.length:Int))=true:=zXc (by omega);have c1:=cZ l[i] (We hil) H;have hld:Ac true 5 (.cptr (cRC l[i]) 0) H=some (.agg (cRC l[i])):=rfl;have cL:=Au (show i<9223372036854775807 by omega);unfold Sh.fl;rcases W7 i k with h | h
    ·have:=k3 i h;have hr:l[i].right=true:=by simpa using this
     rw[hr]at c1;simp only[Am,Aj,Bg,Bk,B4,GMw,d1,A1 hil,hld,c1,cL,WH];exact hrec (i+1) (by omega) (by omega)
    ·obtain rfl:i=k:=by omega
     have hr:(!l[i].right)=true:=k2;rw[hr]at c1;simp only[Am,Aj,Bg,Bk,B4,GMw,d1,A1 hil,hld,c1]
 obtain⟨k,e1,e2⟩:=key;unfold Sh.f44;simp only[GMw,e1,e2]
theorem fold_max (a b c:Nat):Ia JX (.i6 (a:Int)) [.i6 (b:Int),.i6 (c:Int)]=some (.i6 ((max a (max b c):Nat):Int)):=by
 have m:∀x y:Nat,JX (.i6 (x:Int)) (.i6 (y:Int))=some (.i6 ((max x y:Nat):Int)):=λx y=>by
  unfold JX;by_cases h:(y:Int)>(x:Int)
  ·simp only[if_pos h];congr 2;omega
  ·simp only[if_neg h];congr 2;omega
 simp only[Ia,m,zXa]
 congr 2;omega
def bxC (l:List Cl):Aa:=l.map λc=>Blk.cel 0 (cCl c)
theorem bxC_snoc (l:List Cl)(c:Cl):bxC (l++[c])=bxC l++[.cel 0 (cCl c)]:=by simp[bxC]
theorem box5 (H:Aa)(c:Cl):Af 5 (.ptr H.length 0 0) (.agg (cCl c)) (H++[.cel 0 [.bool false,.sl [] .ti,.bool false,.sl [] .ti,.int .u8 0]])=some (H++[.cel 0 (cCl c)]):=by
 rw[P4 (sz:=5) (ws:=cCl c) Al rfl rfl rfl,Be]
theorem ldX (H:Aa)(c:Cl):Ac true 2 (.ptr H.length 0 0) (H++[.cel 0 (cCl c)])=some (big c.x)/\Ac true 2 (.ptr H.length 0 2) (H++[.cel 0 (cCl c)])=some (big c.y)/\Ac false 1 (.ptr H.length 0 4) (H++[.cel 0 (cCl c)])=some (.int .u8 (c.s.toNat:Int)):=by
 refine⟨?_,?_,?_⟩ <;> (simp only[Ac,Aw Al,zXa];rfl)
theorem need_turn {l:List Cl}{tk:Tok}{H K:Aa}{x2 x14:Ab}{i:Nat}(hi:i<l.length)(hok:∀c∈l,c.ok)(hl:l.length<1000000000)(rec:LK) :
  Sh.f1w H rec x2 x14 (.i6 (El l i:Int)) (.sl (enL cCl l) tk) (.i6 (l.length:Int)) (.i6 (i:Int)) (K++bxC (l.take i))=rec [x2,x14,.i6 (El l (i+1):Int),.sl (enL cCl l) tk,.i6 (l.length:Int),.i6 ((i+1:Nat):Int)] (K++bxC (l.take (i+1))):=by
 have d1:decide ((i:Int)<(l.length:Int))=true:=zXc (by omega);have cL:=Au (show i<9223372036854775807 by omega);have hc:=hok _ (We hi);have hld:∀G,Ac true 5 (.cptr (cCl l[i]) 0) G=some (.agg (cCl l[i])):=λ_=>rfl;have hal:∀G:Aa,Az (some [(.bool false),(.sl [] .ti),(.bool false),(.sl [] .ti),(.int .u8 0)]) G=some (.ptr G.length 0 0,G++[.cel 0 [.bool false,.sl [] .ti,.bool false,.sl [] .ti,.int .u8 0]]):=λG=>alloc_eq rfl;have n1:=λG=>p_need (z:=l[i].x) G (hc.1.lb (by decide)) hc.1;have n2:=λG=>p_need (z:=l[i].y) G (hc.2.lb (by decide)) hc.2;have hn:El l (i+1)=max (El l i) (max (O4 l[i].x) (O4 l[i].y)):=by
  simp only[El,VO hi,QQ]
 have hbx:K++bxC (l.take (i+1))=(K++bxC (l.take i))++[.cel 0 (cCl l[i])]:=by
  rw[Wb hi,bxC_snoc,VZ]
 obtain⟨l1,l2,l3⟩:=ldX (K++bxC (l.take i)) l[i];have tC:=fold_max (El l i) (O4 l[i].x) (O4 l[i].y);unfold O4 at tC hn;rw[hbx,hn];generalize K++bxC (l.take i)=G at *;have b5:=box5 G l[i];unfold Sh.f1w;simp only[GMw,d1,A1 hi,hld,hal,b5,AL,Ah,VU,l1,l2,n1,n2,tC,cL,BP,and_self,Id]
set_option exponentiation.threshold 5000
theorem build_spot (p:Sp):A6 (some [(.sl [] .ti),(.sl [] .ti),(.int .u8 0)]) [(0,1,.sl (enL cU (AA p.a)) .no),(1,1,.sl (enL cU (AA p.b)) .no),(2,1,.int .u8 (p.s.toNat:Int))]=some (.agg (cSp p)):=by
 simp[A6,Gy,CZ,cSp]
theorem fld_big (z:Int):Qp false 1 1 (big z)=some (.sl (enL cU (AA z.natAbs)) .no):=rfl
theorem spot_turn {L:List Cl}{tk:Tok}{H Hc:Aa}{x50 x51 w:Ab}{b ph i n:Nat}(hi:i<L.length)(hok:∀c∈L,c.ok)(hl:L.length<1000000000)(hn:n<=1400)(cG:∀c∈L,0<=c.x+2^n/\0<=c.y+2^n)
  (hb:b<=Hc.length)(hR:RS cSp BQ 3 b ((L.take i).map (spot (2^n))) w Hc)(hp:Hc[ph]? = some (.cel 0 (A2 (2^n)))) :
  ∃w' Hd,(∀rec:LK,Sh.f2q H rec x50 x51 (.ptr ph 0 0) w (.sl (enL cCl L) tk) (.i6 (L.length:Int)) (.i6 (i:Int)) Hc=rec [x50,x51,.ptr ph 0 0,w',.sl (enL cCl L) tk,.i6 (L.length:Int),.i6 ((i+1:Nat):Int)] Hd) /\
   RS cSp BQ 3 b ((L.take (i+1)).map (spot (2^n))) w' Hd/\Kp b Hc Hd:=by
 have d1:decide ((i:Int)<(L.length:Int))=true:=zXc (by omega);have cL:=Au (show i<9223372036854775807 by omega);have hc:=hok _ (We hi);have hz:=cG _ (We hi);have hld:∀G,Ac true 5 (.cptr (cCl L[i]) 0) G=some (.agg (cCl L[i])):=λ_=>rfl;have hal:∀G:Aa,Az (some [(.bool false),(.sl [] .ti),(.bool false),(.sl [] .ti),(.int .u8 0)]) G=some (.ptr G.length 0 0,G++[.cel 0 [.bool false,.sl [] .ti,.bool false,.sl [] .ti,.int .u8 0]]):=λG=>alloc_eq rfl;have qD:SB 44 (2^n):=EM hn;have a1:=λG=>SD (a:=L[i].x) (b:=2^n) G (hc.1.lb (by decide)) (qD.lb (by decide));have a2:=λG=>SD (a:=L[i].y) (b:=2^n) G (hc.2.lb (by decide)) (qD.lb (by decide));obtain⟨l1,l2,l3⟩:=ldX Hc L[i];have lh:Ac true 2 (.ptr ph 0 0) (Hc++[.cel 0 (cCl L[i])])=some (big (2^n)):=AY (A0 hp);have b5:=box5 Hc L[i];have hR1:=hR.left [Blk.cel 0 (cCl L[i])];obtain⟨w',H2,r1,r2,r3⟩:=hR1.snoc (bytes:=56) (by simp;omega) (spot (2^n) L[i]) .ti (by simp;omega) (by simp;omega);have mQ:A6 (some [(.sl [] .ti),(.sl [] .ti),(.int .u8 0)]) [(0,1,.sl (enL cU (AA (L[i].x+2^n).natAbs)) .no),(1,1,.sl (enL cU (AA (L[i].y+2^n).natAbs)) .no),(2,1,.int .u8 (L[i].s.toNat:Int))]=some (.agg (cSp (spot (2^n) L[i]))):=by
  have e1:(L[i].x+2^n).natAbs=(spot (2^n) L[i]).a:=by unfold spot;dsimp only;omega
  have e2:(L[i].y+2^n).natAbs=(spot (2^n) L[i]).b:=by unfold spot;dsimp only;omega
  rw[e1,e2];exact build_spot _
 have uV:(L.take (i+1)).map (spot (2^n))=(L.take i).map (spot (2^n))++[spot (2^n) L[i]]:=by
  rw[Wb hi,Y7];rfl
 rw[uV];refine⟨w',H2,λrec=>?_,r2,(Kp.app hb _).trans r3⟩;unfold Sh.f2q;simp only[GMw,d1,A1 hi,hld,hal,b5,AL,Ah,VU,l1,l2,l3,lh,a1,a2,fld_big,mQ,MM,r1,cL,BP,and_self,Id]
theorem p_cellsOf (l:List RC)(tk:Tok)(H:Aa)(hl:l.length<700000000)(hf:∀r∈l,r.fits)(hs:∀r∈l,r.right=true->r.cl.ok) :
  Sh.f2r (.sl (enL cRC l) tk) H=some (.ret (if l.all RC.right then .tup [CY (D8 (l.map RC.cl)).1,.i6 (D8 (l.map RC.cl)).2]else .tup [CY [],.i6 1]),H):=by
 have zX:=λK=>T9 l tk K (by omega) hf;have hal:Az (some [(.sl [] .ti)]) H=some (.ptr H.length 0 0,H++[.cel 0 [.sl [] .ti]]):=alloc_eq rfl;unfold Sh.f2r;simp only[GMw,hal,zX];cases hr:l.all RC.right with
 | false=>
  simp only[GMw,WT,Ow,VY,if_false]
 | true=>
  have gB:∀r∈l,r.right=true:=Wi.1 hr;have aG:∀c∈l.map RC.cl,c.ok:=λc hc=>by
   obtain⟨r,h1,rfl⟩:=Xj.1 hc;exact hs r h1 (gB r h1)
  rw[enL_RC gB hf];generalize hL:l.map RC.cl=L at aG;have hLl:L.length<700000000:=by rw[<-hL];simpa using hl
  have zM:=λK=>p_last L tk K (by omega) aG;simp only[GMw,WH,zM,Ax,R9,if_true];have eD:∀c∈Bb L,c.ok:=λc hc=>aG c (PN hc);have hsl:=EI L;generalize Bb L=S at eD hsl;refine Eq.trans ?hd (Cm (G:=λrec1 vs H1=>Sh.f1w H rec1 (ag vs 0) (ag vs 1) (ag vs 2) (ag vs 3) (ag vs 4) (ag vs 5) H1) S.length
   (λi=>[.ptr H.length 0 0,.sl (enL cCl S) .no,.i6 (El S i:Int),.sl (enL cCl S) .no,.i6 (S.length:Int),.i6 (i:Int)]) (λi=>H++[.cel 0 [.sl [] .ti]]++bxC (S.take i))
   (some (.ret (.tup [CY (NH S).1,.i6 (NH S).2]),H)) (by omega) (λrec i hi=>?_) (λrec=>?_))
  case hd=>
   have e0:H++[Blk.cel 0 [.sl [] .ti]]++bxC (S.take 0)=H++[Blk.cel 0 [.sl [] .ti]]:=by simp[bxC]
   rw[e0]
   rfl
  ·exact need_turn hi eD (by omega) rec
  ·have aJ:=levelOf_need S;have d1:decide ((S.length:Int)<(S.length:Int))=false:=zXd (by omega);have Zu:1<=El S S.length:=by rw[PJ];omega
   rw[WJ];unfold NH;by_cases hv:1329<El S S.length
   ·have aO:decide ((El S S.length:Int)>1329)=true:=zXc (by omega);rw[if_pos (by omega)];have wA:A6 (some [(.sl [] .ti)]) []=some (.agg [.sl (enL cNd []) .ti]):=rfl;have qt:=II (H:=H) (Hq:=H++[.cel 0 [.sl [] .ti]]++bxC S) (tk:=.ti) (Q:=[]) (e:=4) (by rw[VZ];simp) (λi hi=>by rw[VZ,VR hi]);unfold Sh.f1w;simp only[Am,Aj,Bg,Bk,B4,BS,DG,GMw,d1,aO,wA];exact qt
   ·have aO:decide ((El S S.length:Int)>1329)=false:=zXd (by omega);have hle:A3 S<=1329:=by omega
    have qS:A3 S=El S S.length:=by omega
    rw[if_neg (by omega)];have kX:∀c∈S,Fs (A3 S) (-(2^(A3 S-1))) (-(2^(A3 S-1))) c:=λc hc=>MU (by omega) (JZ hle c hc);rw[qS]at kX;rw[qS];obtain⟨n,hn⟩:∃n,El S S.length=n+1:=⟨El S S.length-1,by omega⟩;rw[hn,Wl]at kX ⊢;have cG:∀c∈S,0<=c.x+2^n/\0<=c.y+2^n:=λc hc=>by
     obtain⟨q1,q2,q3,q4⟩:=kX c hc;generalize (2:Int)^n=P at *;omega
    have uZ:=Vo (h:=2^n) (n+1) [] (-(2^n)) (-(2^n)) S 0 0 0 0 (by simp;omega) (by simp;omega) rfl rfl kX;have lZ:IntKind.i64.wrap (((n+1:Nat):Int)-1)=(n:Int):=by rw[Ao] <;> omega
    have bX:=λG=>p_pow (m:=n) (by omega) G;have s1:∀B:Aa,Af 2 (.ptr B.length 0 0) (big (2^n)) (B++[.cel 0 [.bool false,.sl [] .ti]])=some (B++[.cel 0 (A2 (2^n))]):=λB=>by rw[BK (Al (B:=B)) rfl,Be]
    obtain⟨B,hB⟩:∃B,B=H++[.cel 0 [.sl [] .ti]]++bxC S:=⟨_,rfl⟩;have hBH:B[H.length]? = some (.cel 0 [.sl [] .ti]):=by rw[hB,VZ];simp
    have hBo:∀i,i<H.length->B[i]? = H[i]? := λi hi=>by rw[hB,VZ,VR hi]
    have hBl:H.length<B.length:=(VP.1 hBH).1;rw[<-hB];have loop:=GG (G:=λaA vs H1=>Sh.f2q H aA (ag vs 0) (ag vs 1) (ag vs 2) (ag vs 3) (ag vs 4) (ag vs 5) (ag vs 6) H1) S.length
     (λi vs Hc=>∃w,vs=[.ptr H.length 0 0,.i6 ((n+1:Nat):Int),.ptr B.length 0 0,w,.sl (enL cCl S) .no,.i6 (S.length:Int),.i6 (i:Int)]/\RS cSp BQ 3 B.length ((S.take i).map (spot (2^n))) w Hc/\Kp B.length (B++[.cel 0 (A2 (2^n))]) Hc)
     (by omega) (λi vs Hc hi hI=>?_) (vs:=[.ptr H.length 0 0,.i6 ((n+1:Nat):Int),.ptr B.length 0 0,.sl [] .ti,.sl (enL cCl S) .no,.i6 (S.length:Int),.i6 0]) (H:=B++[.cel 0 (A2 (2^n))])
     ⟨_,rfl,.inl ⟨rfl,rfl⟩,Kp.refl _ _⟩
    ·obtain⟨vs,Hc,⟨w,rfl,hR,hK⟩,aA,aB⟩:=loop;rw[WJ]at hR;obtain⟨tk2,rfl⟩:=hR.sl;have hKl:=hK.len;rw[VX,zXi]at hKl;have hHc:Hc[H.length]? = some (.cel 0 [.sl [] .ti]):=hK.cel _ _ (A0 hBH);have hHo:∀i,i<H.length->Hc[i]? = H[i]? := λi hi=>by rw[hK.old i (by omega),VR (by omega)];exact hBo i hi
     have hbx:BD true 1 (.agg [.sl [] .ti]) Hc=some (.ptr Hc.length 0 0,Hc++[.cel 0 [.sl [] .ti]]):=Cp rfl rfl;have wA:A6 (some [(.sl [] .ti)]) []=some (.agg [.sl [] .ti]):=rfl;have dI:S.length*(n+1)<=700000000*1329:=Ya (by omega) (by omega);have tW:∀p∈S.map (spot (2^n)),SpOk p:=λp hp=>by
      obtain⟨c,hc,rfl⟩:=Xj.1 hp;obtain⟨q1,q2,q3,q4⟩:=kX c hc;have uG:(2:Int)^(n+1)=((2^(n+1):Nat):Int):=ipow _;rw[uG]at q2 q4;have sQ:2^(n+1)<=2^(32*44):=W9 (by decide) (by omega);rw[<-w_pow]at sQ;exact⟨Wu (Fb (k:=44) (by unfold spot;dsimp only;omega)) (by decide),Wu (Fb (k:=44) (by unfold spot;dsimp only;omega)) (by decide)⟩
     obtain⟨Hq,w',p1,p2,p3,p4⟩:=lay_ok (b:=H.length) (pb:=Hc.length) (by omega) (n+1) AU (by rw[Dr];omega) (by omega) (by omega) [] (.sl [] .ti) (S.map (spot (2^n))) tk2 (Hc++[.cel 0 [.sl [] .ti]]) Al (.inl ⟨rfl,rfl⟩) (by simp;omega) tW (by simp;omega) (by simp only[zXk,WW];omega);rw[uZ]at p1 p3;have bG:=Wu (lay_len (n+1) [] (S.map (spot (2^n)))) (Nat.add_le_add_left (by rw[WW];exact dI) _);rw[uZ]at bG;simp only[zXk]at bG;generalize AP (n+1) [] (-(2^n)) (-(2^n)) S=P at p1 p3 bG;obtain⟨Q,r⟩:=P;dsimp only at p1 p3 bG ⊢;obtain⟨tk3,rfl⟩:=p3.sl;have uB:=λG=>c06_of Q tk3 (r:Int) G (by omega);have jJ:Hq[H.length]? = some (.cel 0 [.sl [] .ti]):=p4.cel _ _ (by omega) (A0 hHc);have pY:∀i,i<H.length->Hq[i]? = H[i]? := λi hi=>by rw[p4.old i hi,VR (by omega)];exact hHo i hi
     have vC:Ac false 1 (.ptr Hc.length 0 0) Hq=some (.sl (enL cNd Q) tk3):=by rw[C8 p2];rfl
     unfold Sh.f1w;simp only[Am,Aj,Bg,Bk,B4,BS,DG,GMw,d1,hn,show decide (((n+1:Nat):Int)>1329)=false from by rw[<-hn];exact aO,lZ,bX,CD,s1,AL,Ax];rw[aB];unfold Sh.f2q;simp only[Am,Aj,Bg,Bk,B4,BS,DG,GMw,d1,wA,hbx,p1,nil_ptr,Ah,VU,vC,uB];cases SG Q (r:Int)with
     | false=>
      simp only[GMw,B1,B8,CY,Bj,VY,if_false];exact II jJ pY
     | true=>
      simp only[GMw,B1,B8,CY,Bj,zXl,if_true];exact II jJ pY
    ·obtain⟨w,rfl,hR,hK⟩:=hI;have hKl:=hK.len;rw[VX,zXi]at hKl;obtain⟨w',Hd,t1,t2,t3⟩:=spot_turn (H:=H) (x50:=.ptr H.length 0 0) (x51:=.i6 ((n+1:Nat):Int)) (tk:=.no) hi eD (by omega) (by omega) cG (by omega) hR (hK.cel _ _ Al);exact⟨_,Hd,⟨w',rfl,t2,hK.trans t3⟩,t1⟩
section
variable {p:Nat}{H:Aa}
theorem ld_two {cs:List Ab}{o:Nat}(h:H[p]? = some (.cel 0 cs))(ho:o+2<=cs.length):Ac true 2 (.ptr p 0 o) H=some (.agg ((cs.drop o).take 2)):=by
 simp only[Ac,Aw h,zXa,if_true];rw[if_pos ho]
theorem st_two {cs:List Ab}{o:Nat}{z:Int}(h:H[p]? = some (.cel 0 cs))(ho:o+2<=cs.length):Af 2 (.ptr p 0 o) (big z) H=some (H.set p (.cel 0 (CZ cs o 2 (A2 z)))):=by
 simp only[Af,Aw h,zXa,TM,Bt h];rw[if_pos ⟨rfl,ho⟩]
theorem agg_two {z:Int}{x y:Ab}(h:[x,y]=A2 z):Ab.agg [x,y]=big z:=by rw[h];rfl
theorem sb_small {z:Int}(h:z.natAbs<10^400):SB 100 z:=by
 have h2:(10:Nat)^400<4294967296^100:=by decide +kernel
 unfold SB;omega
theorem SZ {z:Int}(h:z.natAbs<10^400):LB z:=(sb_small h).lb (by decide)
theorem lb_nat {n:Nat}(h:n<=1152921504606846976):LB (n:Int):=by
 have h2:1152921504606846976<(10:Nat)^400:=by decide +kernel
 exact SZ (by omega)

end
def rdB (bx N:Int)(st:BSt)(f0 f1 g0 g1 v:Ab):List Ab:=[.i6 bx,.i6 N,.str st.law,.bool st.block,f0,f1,g0,g1,.i6 (st.rows:Int),v]
structure RBx (bx N:Int)(b0 p:Nat)(b:List UInt8)(a:Nat)(st:BSt)(f0 f1 g0 g1 v:Ab)(H:Aa):Prop where
 hb:b0<=p
 lx:Lx H p b a (rdB bx N st f0 f1 g0 g1 v)
 row:RS cCl AG 5 b0 st.cells v H
 fx:st.block=true->[f0,f1]=A2 st.x
 gy:st.block=true->[g0,g1]=A2 st.y
def RB (bx N:Int)(b0 p:Nat)(b:List UInt8)(a:Nat)(st:BSt)(H:Aa):Prop:=∃f0 f1 g0 g1 v,RBx bx N b0 p b a st f0 f1 g0 g1 v H
section
variable {bx N:Int}{b0 p a:Nat}{b:List UInt8}{st:BSt}{H:Aa}{f0 f1 g0 g1 v:Ab}
theorem RBx.lt (h:RBx bx N b0 p b a st f0 f1 g0 g1 v H):p<H.length:=lx_lt h.lx
theorem RBx.move (h:RBx bx N b0 p b a st f0 f1 g0 g1 v H)(a':Nat):RBx bx N b0 p b a' st f0 f1 g0 g1 v (Cg H p b (rdB bx N st f0 f1 g0 g1 v) a'):=⟨h.hb,GB h.lx,h.row.put h.lx,h.fx,h.gy⟩
theorem RBx.push (h:RBx bx N b0 p b a st f0 f1 g0 g1 v H)(G:Aa):RBx bx N b0 p b a st f0 f1 g0 g1 v (H++G):=⟨h.hb,Lx.push h.lx,h.row.left G,h.fx,h.gy⟩
theorem RBx.ext (h:RBx bx N b0 p b a st f0 f1 g0 g1 v H)(cs:List Ab):Ext b0 p H (H.set p (.cel 0 cs)):=
 ⟨by simp,λi c hi hc=>by rw[VT (Ne.symm hi)];exact hc,λi hi=>by rw[VT (by have:=h.hb;omega)]⟩
theorem RBx.ble (h:RBx bx N b0 p b a st f0 f1 g0 g1 v H):b0<=H.length:=Wu h.hb (YJ h.lt)
theorem RBx.go (h:RBx bx N b0 p b a st f0 f1 g0 g1 v H)(a':Nat)(G:Aa):RBx bx N b0 p b a' st f0 f1 g0 g1 v (Cg H p b (rdB bx N st f0 f1 g0 g1 v) a'++G)/\Ext b0 p H (Cg H p b (rdB bx N st f0 f1 g0 g1 v) a'++G):=
 ⟨(h.move a').push G,(h.ext _).trans (Ext.push b0 p (by show b0<=List.length _;rw[show (H.set p _).length=H.length from by simp];exact h.ble) G)⟩
theorem RBx.go0 (h:RBx bx N b0 p b a st f0 f1 g0 g1 v H)(a':Nat):RBx bx N b0 p b a' st f0 f1 g0 g1 v (Cg H p b (rdB bx N st f0 f1 g0 g1 v) a')/\Ext b0 p H (Cg H p b (rdB bx N st f0 f1 g0 g1 v) a'):=⟨h.move a',h.ext _⟩
theorem RBx.set (h:RBx bx N b0 p b a st f0 f1 g0 g1 v H){a':Nat}{st':BSt}{f0' f1' g0' g1' v':Ab}{cs:List Ab}(hr:RS cCl AG 5 b0 st'.cells v' H)
  (hc:cs=.str b::.i6 (a':Int)::rdB bx N st' f0' f1' g0' g1' v')(hf:st'.block=true->[f0',f1']=A2 st'.x)(hg:st'.block=true->[g0',g1']=A2 st'.y) :
  RBx bx N b0 p b a' st' f0' f1' g0' g1' v' (H.set p (.cel 0 cs))/\Ext b0 p H (H.set p (.cel 0 cs)):=by
 refine⟨⟨h.hb,?_,hr.put h.lx,hf,hg⟩,h.ext _⟩;unfold Lx;rw[Wf h.lt,hc]
def Jm (bx N:Int)(b0 p:Nat)(b:List UInt8)(H:Aa)(x:Out)(v:Ab)(s:(Er×Nat)×BSt):Prop:=∃H',x=some (resE s.1.1 v,H')/\Ext b0 p H H'/\RB bx N b0 p b s.1.2 s.2 H'
theorem build_plB (x y:Int):A6 (some [(.bool false),(.sl [] .ti),(.bool false),(.sl [] .ti),(.int .u8 0)]) [(0,2,big x),(2,2,big y),(4,1,(.int .u8 1))]=some (.agg (cCl ⟨x,y,1⟩)):=rfl
theorem idx_two (k:Nat)(hk:k<2):B5 2 2 (.ptr p 0 6) (.i6 (k:Int))=some (.ptr p 0 (6+k*2)):=idx_arr hk
theorem rb_lawm (h:RBx bx N b0 p b a st f0 f1 g0 g1 v H)(ha:a<=b.length)(hb:b.length<1152921504606846976){k:Ab->Aa->Out}{H0:Aa}
  (hk:∀x K,k x K=rK H0 (.tup []) K) :
  Jm bx N b0 p b H (bK H0 (Sh.fb (.ptr p 0 0) (.str [82,32]) (.str [97]) H) λx44 H45=>
 (Ai (.ptr p 0 0)).bind λx46=>
 (Ad 0 x46).bind λx47=>
 bK H0 (Sh.f1h x47 (.str []) H45) λx48 H49=>
 (Ai (.ptr p 0 0)).bind λx50=>
 (Ad 4 x50).bind λx51=>
 bK H0 (A8 (Af 1 x51 x48 H49)) k) (.tup []) (lawB b a st):=by
 unfold lawB Jm;simp only[GMw,HPw,Nat.reduceAdd,Nat.reduceLT,OA h.lx ha hb [82,32] [97] (by decide) (by decide)];have hM:=HV (s:=[82,32]) (rest:=[97]) ha;generalize DT b a [82,32] [97]=M at hM;obtain⟨er,c⟩:=M;dsimp only at hM ⊢;obtain⟨h2,e2⟩:=h.go0 c;cases er with
 | some e=>
  simp only[GMw,HPw,Nat.reduceAdd,Nat.reduceLT,D3];exact⟨_,rfl,e2,_,_,_,_,_,h2⟩
 | none=>
  simp only[GMw,HPw,Nat.reduceAdd,Nat.reduceLT,CV,lx_ruleS h2.lx hM hb [] (by decide)];generalize Ot b c []=M;obtain⟨er,d⟩:=M;dsimp only;obtain⟨h3,e3⟩:=h2.go0 d;generalize Cg _ p b _ d=H3 at h3 e3;cases er with
  | some e=>
   simp only[GMw,HPw,Nat.reduceAdd,Nat.reduceLT,D3];exact⟨_,rfl,e2.trans e3,_,_,_,_,_,h3⟩
  | none=>
   have hst:=Hs (o:=4) (v:=.str ((b.take d).drop c)) h3.lx rfl (by simp[rdB]);simp only[GMw,HPw,Nat.reduceAdd,Nat.reduceLT,CV,hst,hk];obtain⟨s1,s2⟩:=h3.set (a':=d) (st':={ st with law:=(b.take d).drop c }) h3.row rfl h3.fx h3.gy;exact⟨_,rfl,(e2.trans e3).trans s2,_,_,_,_,_,s1⟩
theorem Jm.after {H1:Aa}{x:Out}{w:Ab}{s:(Er×Nat)×BSt}(e:Ext b0 p H H1)(h:Jm bx N b0 p b H1 x w s):Jm bx N b0 p b H x w s:=by
 obtain⟨H2,r1,r2,r3⟩:=h;exact⟨H2,r1,e.trans r2,r3⟩
theorem idx_f0:B5 2 2 (.ptr p 0 6) (.i6 0)=some (.ptr p 0 6):=idx_two 0 (by decide)
theorem idx_f1:B5 2 2 (.ptr p 0 6) (.i6 1)=some (.ptr p 0 8):=idx_two 1 (by decide)
theorem rb_from (h:RBx bx N b0 p b a st f0 f1 g0 g1 v H)(ha:a<=b.length)(hb:b.length<1152921504606846976){k:Ab->Aa->Out}{H0:Aa}
  (hk:∀x K,k x K=rK H0 (.tup []) K) :
  Jm bx N b0 p b H (bK H0 (Sh.fb (.ptr p 0 0) (.str [80,32]) (.str [49,32,49]) H) λx60 H61=>
 (Ai (.ptr p 0 0)).bind λx62=>
 (Ad 0 x62).bind λx63=>
 (Ai (.ptr p 0 0)).bind λx64=>
 (Ad 6 x64).bind λx65=>
 bK H0 (Sh.f13 x63 (.bool true) (.str [32,49]) H61) λx66 H67=>
 (B5 2 2 x65 (.i6 0)).bind λx68=>
 bK H0 (A8 (Af 2 x68 x66 H67)) λ_ H70=>
 (Ai (.ptr p 0 0)).bind λx71=>
 (Ad 0 x71).bind λx72=>
 bK H0 (Sh.fb x72 (.str [32]) (.str [49]) H70) λx73 H74=>
 (Ai (.ptr p 0 0)).bind λx75=>
 (Ad 0 x75).bind λx76=>
 (Ai (.ptr p 0 0)).bind λx77=>
 (Ad 6 x77).bind λx78=>
 bK H0 (Sh.f13 x76 (.bool true) (.str []) H74) λx79 H80=>
 (B5 2 2 x78 (.i6 1)).bind λx81=>
 bK H0 (A8 (Af 2 x81 x79 H80)) λ_ H83=>
 (Ai (.ptr p 0 0)).bind λx84=>
 (Ad 5 x84).bind λx85=>
 bK H0 (A8 (Af 1 x85 (.bool true) H83)) λ_ H87=>
 (Ai (.ptr p 0 0)).bind λx88=>
 (Ad 10 x88).bind λx89=>
 bK H0 (A8 (Af 1 x89 (.i6 0) H87)) k) (.tup []) (Tj b a st):=by
 unfold Tj Jm;simp only[GMw,HPw,Nat.reduceAdd,Nat.reduceLT,OA h.lx ha hb [80,32] [49,32,49] (by decide) (by decide)];have hM:=HV (s:=[80,32]) (rest:=[49,32,49]) ha;generalize DT b a [80,32] [49,32,49]=M at hM;obtain⟨er,c⟩:=M;dsimp only at hM ⊢;obtain⟨h2,e2⟩:=h.go0 c;generalize Cg H p b _ c=H2 at h2 e2;cases er with
 | some e=>
  simp only[GMw,HPw,Nat.reduceAdd,Nat.reduceLT,D3];exact⟨_,rfl,e2,_,_,_,_,_,h2⟩
 | none=>
  obtain⟨G1,dL⟩:=Ve h2.lx hM hb true [32,49] (by decide);have oY:=RI hM true [32,49];simp only[GMw,HPw,Nat.reduceAdd,Nat.reduceLT,CV,dL];generalize Hw b c true [32,49]=M at oY;obtain⟨er,d⟩:=M;dsimp only at oY ⊢;obtain⟨h3,e3⟩:=h2.go d G1;generalize Cg H2 p b _ d++G1=H3 at h3 e3;cases er with
  | some e=>
   simp only[GMw,HPw,Nat.reduceAdd,Nat.reduceLT,D3];exact⟨_,rfl,e2.trans e3,_,_,_,_,_,h3⟩
  | none=>
   have hst:=st_two (o:=6) (z:=Da ((b.take d).drop c)) h3.lx (by simp[rdB]);simp only[GMw,HPw,Nat.reduceAdd,Nat.reduceLT,CV,idx_f0,hst,AL];generalize hz:Da ((b.take d).drop c)=z1;obtain⟨h4,e4⟩:=h3.set (a':=d) (st':={ st with x:=z1 }) (f0':=.bool (decide (z1<0))) (f1':=.sl (enL cU (AA z1.natAbs)) .no) (cs:=CZ (.str b::.i6 (d:Int)::rdB bx N st f0 f1 g0 g1 v) 6 2 (A2 z1)) h3.row rfl (λ_=>rfl) h3.gy;generalize H3.set p _=H4 at h4 e4;simp only[GMw,HPw,Nat.reduceAdd,Nat.reduceLT,OA h4.lx oY.2 hb [32] [49] (by decide) (by decide)];have hM2:=HV (s:=[32]) (rest:=[49]) oY.2;generalize DT b d [32] [49]=M at hM2;obtain⟨er,f⟩:=M;dsimp only at hM2 ⊢;obtain⟨h5,e5⟩:=h4.go0 f;generalize Cg H4 p b _ f=H5 at h5 e5;cases er with
   | some e=>
    simp only[GMw,HPw,Nat.reduceAdd,Nat.reduceLT,D3];exact⟨_,rfl,((e2.trans e3).trans e4).trans e5,_,_,_,_,_,h5⟩
   | none=>
    obtain⟨G2,hn2⟩:=Ve h5.lx hM2 hb true [] (by decide);have hi2:=RI hM2 true [];simp only[GMw,HPw,Nat.reduceAdd,Nat.reduceLT,CV,hn2];generalize Hw b f true []=M at hi2;obtain⟨er,g⟩:=M;dsimp only at hi2 ⊢;obtain⟨h6,e6⟩:=h5.go g G2;generalize Cg H5 p b _ g++G2=H6 at h6 e6;cases er with
    | some e=>
     simp only[GMw,HPw,Nat.reduceAdd,Nat.reduceLT,D3];exact⟨_,rfl,(((e2.trans e3).trans e4).trans e5).trans e6,_,_,_,_,_,h6⟩
    | none=>
     have hst:=st_two (o:=8) (z:=Da ((b.take g).drop f)) h6.lx (by simp[rdB]);simp only[GMw,HPw,Nat.reduceAdd,Nat.reduceLT,CV,idx_f1,hst,AL];generalize lW:Da ((b.take g).drop f)=z2;have sS:=lx_lt h6.lx;have iO:=Hs (H:=H6.set p (.cel 0 (CZ (.str b::.i6 (g:Int)::rdB bx N { st with x:=z1 } (.bool (decide (z1<0))) (.sl (enL cU (AA z1.natAbs)) .no) g0 g1 v) 8 2 (A2 z2)))) (o:=5) (v:=.bool true) (Wf sS) rfl (by simp[rdB,CZ]);simp only[GMw,HPw,Nat.reduceAdd,Nat.reduceLT,iO,AL,Y4];have tU:=Hs (H:=H6.set p (.cel 0 ((CZ (.str b::.i6 (g:Int)::rdB bx N { st with x:=z1 } (.bool (decide (z1<0))) (.sl (enL cU (AA z1.natAbs)) .no) g0 g1 v) 8 2 (A2 z2)).set 5 (.bool true)))) (o:=10) (v:=.i6 0) (Wf sS) rfl (by simp[rdB,CZ]);simp only[GMw,HPw,Nat.reduceAdd,Nat.reduceLT,tU,AL,Y4,hk];obtain⟨h7,e7⟩:=h6.set (a':=g) (st':={ st with x:=z1,y:=z2,block:=true,rows:=0 }) (f0':=.bool (decide (z1<0))) (f1':=.sl (enL cU (AA z1.natAbs)) .no) (g0':=.bool (decide (z2<0))) (g1':=.sl (enL cU (AA z2.natAbs)) .no) (cs:=((CZ (.str b::.i6 (g:Int)::rdB bx N { st with x:=z1 } (.bool (decide (z1<0))) (.sl (enL cU (AA z1.natAbs)) .no) g0 g1 v) 8 2 (A2 z2)).set 5 (.bool true)).set 10 (.i6 0)) h6.row rfl (λ_=>rfl) (λ_=>rfl);exact⟨_,rfl,((((e2.trans e3).trans e4).trans e5).trans e6).trans e7,_,_,_,_,_,h7⟩
theorem rb_mark (h:RBx bx N b0 p b a st f0 f1 g0 g1 v H)(ha:a<b.length)(hb:b.length<1152921504606846976) :
  Jm bx N b0 p b H (Sh.f3u (.ptr p 0 0) H) (.tup []) (QR b a st):=by
 have bJ:Af 1 (.ptr p 0 1) (.i6 ((a+1:Nat):Int)) H=some (Cg H p b (rdB bx N st f0 f1 g0 g1 v) (a+1)):=RD h.lx _;obtain⟨h1,e1⟩:=h.go0 (a+1);have hle:a+1<=b.length:=ha;unfold Sh.f3u QR;simp only[GMw,HPw,Nat.reduceAdd,Nat.reduceLT,Ai,Ah,HW h.lx,Au (show a<9223372036854775807 by omega),bJ,AL];generalize Cg H p b _ (a+1)=H1 at h1 e1;refine Jm.after e1 ?_;simp only[GMw,HPw,Nat.reduceAdd,Nat.reduceLT,F0 h1.lx hle];cases hD:BT b (a+1) [68]with
 | true=>
  simp only[GMw,HPw,Nat.reduceAdd,Nat.reduceLT,if_true,lx_any h1.lx hle hb];obtain⟨h2,e2⟩:=h1.go0 (QD b (a+1));exact⟨_,rfl,e2,_,_,_,_,_,h2⟩
 | false=>
  simp only[GMw,HPw,Nat.reduceAdd,Nat.reduceLT,VY,if_false,F0 h1.lx hle];cases hN:BT b (a+1) [78]with
  | true=>
   have hlt:=EU hN;have tO:Af 1 (.ptr p 0 1) (.i6 ((a+1+1:Nat):Int)) H1=some (Cg H1 p b (rdB bx N st f0 f1 g0 g1 v) (a+1+1)):=RD h1.lx _;obtain⟨h2,e2⟩:=h1.go0 (a+1+1);simp only[GMw,HPw,Nat.reduceAdd,Nat.reduceLT,if_true,Ai,Ah,HW h1.lx,Au (show a+1<9223372036854775807 by omega),tO,AL];generalize Cg H1 p b _ (a+1+1)=H2 at h2 e2;have hst:=Hs (o:=4) (v:=.str [66,51,47,83,50,51]) h2.lx rfl (by simp[rdB]);simp only[GMw,HPw,Nat.reduceAdd,Nat.reduceLT,hst,AL];obtain⟨s1,s2⟩:=h2.set (a':=a+1+1) (st':={ st with law:=C4 }) h2.row rfl h2.fx h2.gy;exact⟨_,rfl,e2.trans s2,_,_,_,_,_,s1⟩
  | false=>
   simp only[GMw,HPw,Nat.reduceAdd,Nat.reduceLT,VY,if_false,F0 h1.lx hle];cases hR:BT b (a+1) [82]with
   | true=>
    simp only[GMw,HPw,Nat.reduceAdd,Nat.reduceLT,if_true];have hx:=rb_lawm (H0:=H) (k:=λ_ K=>rK H (.tup []) K) h1 hle hb (λ_ _=>rfl);simp only[GMw,HPw,Nat.reduceAdd,Nat.reduceLT,Ai,Ah]at hx;exact hx
   | false=>
    simp only[GMw,HPw,Nat.reduceAdd,Nat.reduceLT,VY,if_false,F0 h1.lx hle];cases hP:BT b (a+1) [80]with
    | true=>
     simp only[GMw,HPw,Nat.reduceAdd,Nat.reduceLT,if_true];have hx:=rb_from (H0:=H) (k:=λ_ K=>rK H (.tup []) K) h1 hle hb (λ_ _=>rfl);simp only[GMw,HPw,Nat.reduceAdd,Nat.reduceLT,Ai,Ah]at hx;exact hx
    | false=>
     simp only[GMw,HPw,Nat.reduceAdd,Nat.reduceLT,VY,if_false,SO h1.lx];exact⟨_,rfl,Ext.refl _ _ _,_,_,_,_,_,h1⟩

end
section
variable {bx N:Int}{b0 p a:Nat}{b:List UInt8}{st:BSt}{H:Aa}{f0 f1 g0 g1 v:Ab}
theorem row_j3 (h:RBx bx N b0 p b a st f0 f1 g0 g1 v H)(cK:st.block=true)(hX:st.x.natAbs<10^400)(hY:st.y.natAbs<10^400)(hr:st.rows<=1000000000000)(hc:st.cells.length<=1000000000000){x:Nat}(hx:x<=1000000000000){j2:LK}{H0:Aa} :
  ∃w H6,Sh.f6y H0 j2 (.ptr p 0 0) (.i6 (x:Int)) H=j2 [.ptr p 0 0,.i6 (x:Int)] H6/\RBx bx N b0 p b a { st with cells:=st.cells++[⟨st.x+x,st.y+st.rows,1⟩] } f0 f1 g0 g1 w H6/\Ext b0 p H H6:=by
 have hf:Ac true 2 (.ptr p 0 6) H=some (big st.x):=by
  rw[ld_two h.lx (by simp[rdB])];exact congrArg some (agg_two (h.fx cK))
 have hg:Ac true 2 (.ptr p 0 8) H=some (big st.y):=by
  rw[ld_two h.lx (by simp[rdB])];exact congrArg some (agg_two (h.gy cK))
 have hrw:Ac false 1 (.ptr p 0 10) H=some (.i6 (st.rows:Int)):=by rw[C8 h.lx];rfl
 have hv:Ac false 1 (.ptr p 0 11) H=some v:=by rw[C8 h.lx];rfl
 obtain⟨w,H6,r1,r2,r3⟩:=h.row.snoc (bytes:=72) h.ble ⟨st.x+x,st.y+st.rows,1⟩ .ti (by omega) (by omega);have nO:Lx H6 p b a (rdB bx N st f0 f1 g0 g1 v):=r3.cel _ _ h.lx;have tM:w.isScal=true:=by obtain⟨tk,rfl⟩:=r2.sl;rfl
 have hst:=Hs (o:=11) (v:=w) nO tM (by simp[rdB]);unfold Sh.f6y;simp only[GMw,HPw,Nat.reduceAdd,Nat.reduceLT,Ai,Ah,idx_f0,idx_f1,p_of (x:Int) _ (by omega) (by omega),p_of (st.rows:Int) _ (by omega) (by omega),hf,hg,hrw,hv,BP,SD _ (SZ hX) (lb_nat (show x<=1152921504606846976 by omega)),SD _ (SZ hY) (lb_nat (show st.rows<=1152921504606846976 by omega)),build_plB,Pr,r1,hst,AL,Cb];have sS:=lx_lt nO;refine⟨w,_,rfl,⟨h.hb,?_,r2.put nO,h.fx,h.gy⟩,Ext.trans ⟨r3.len,λi cs hi hc=>r3.cel i cs hc,r3.old⟩ ⟨by simp,λi c hi hc=>by rw[VT (Ne.symm hi)];exact hc,λi hi=>by rw[VT (by have:=h.hb;omega)]⟩⟩;unfold Lx;rw[Wf sS];rfl
theorem row_j2 (h:RBx bx N b0 p b a st f0 f1 g0 g1 v H)(ha:a<b.length)(hb:b.length<1000000000000){x:Nat}(hx:x<=1000000000000){rec:LK}{H0:Aa} :
  ∃H6,Sh.f40 H0 rec (.ptr p 0 0) (.i6 (x:Int)) H=rec [.ptr p 0 0,.i6 ((x+1:Nat):Int)] H6/\RBx bx N b0 p b (a+1) st f0 f1 g0 g1 v H6/\Ext b0 p H H6:=by
 have bJ:Af 1 (.ptr p 0 1) (.i6 ((a+1:Nat):Int)) H=some (Cg H p b (rdB bx N st f0 f1 g0 g1 v) (a+1)):=RD h.lx _;obtain⟨h1,e1⟩:=h.go0 (a+1);unfold Sh.f40;simp only[GMw,HPw,Nat.reduceAdd,Nat.reduceLT,Ai,Ah,HW h.lx,Au (show a<9223372036854775807 by omega),Au (show x<9223372036854775807 by omega),bJ,AL];exact⟨_,rfl,h1,e1⟩
theorem rb_row (hb:b.length<900000000)(H0:Aa):∀(m a x:Nat) (st:BSt) (H:Aa),a<=b.length->b.length-a<m->x<=a->∀n,m<=n->st.block=true->st.x.natAbs<10^400->st.y.natAbs<10^400->st.rows<=1000000000->st.cells.length+(b.length-a)<=1000000000000 ->
  ∀ {f0 f1 g0 g1 v:Ab},RBx bx N b0 p b a st f0 f1 g0 g1 v H->Jm bx N b0 p b H (Ap (λrec1 vs H=>Sh.f41 H0 rec1 (ag vs 0) (ag vs 1) H) n [.ptr p 0 0,.i6 (x:Int)] H) (.tup []) (Rl b bx m a x st):=by
 intro m
 induction m with
 | zero=>intro a x st H _ h;omega
 | succ m ih=>
  intro a x st H ha hm tJ n hn cK hX hY hr hc f0 f1 g0 g1 v h;obtain⟨n,rfl⟩:∃k,n=k+1:=⟨n-1,by omega⟩;rw[CF];generalize hg:Ap (λrec1 vs H=>Sh.f41 H0 rec1 (ag vs 0) (ag vs 1) H) n=rec;have hrw:Ac false 1 (.ptr p 0 10) H=some (.i6 (st.rows:Int)):=by rw[C8 h.lx];rfl
  have hbx:Ac false 1 (.ptr p 0 2) H=some (.i6 bx):=by rw[C8 h.lx];rfl
  unfold Sh.f41 Rl;simp only[GMw,HPw,Nat.reduceAdd,Nat.reduceLT,F0 h.lx ha];cases h1:BT b a [46,42]with
  | true=>
   have hlt:=EU h1;simp only[GMw,HPw,Nat.reduceAdd,Nat.reduceLT,if_true,F0 h.lx ha];cases h2:BT b a [42]with
   | true=>
    simp only[GMw,HPw,Nat.reduceAdd,Nat.reduceLT,if_true,Ai,Ah,hbx,hrw,BP];cases h3:decide ((x:Int)>=bx)with
    | true=>
     simp only[GMw,HPw,Nat.reduceAdd,Nat.reduceLT,SP,XB,if_true];exact⟨_,rfl,Ext.refl _ _ _,_,_,_,_,_,h⟩
    | false=>
     cases h4:decide ((st.rows:Int)>=bx)with
     | true=>
      simp only[GMw,HPw,Nat.reduceAdd,Nat.reduceLT,SP,Yo,if_true,h4,hbx,hrw];exact⟨_,rfl,Ext.refl _ _ _,_,_,_,_,_,h⟩
     | false=>
      simp only[GMw,HPw,Nat.reduceAdd,Nat.reduceLT,zXp,if_false,VY,h4,hbx,hrw];obtain⟨w,H6,q1,q2,q3⟩:=row_j3 h cK hX hY (by omega) (by omega) (x:=x) (by omega) (j2:=λvs H=>Sh.f40 H0 rec (ag vs 0) (ag vs 1) H) (H0:=H0);obtain⟨H7,s1,s2,s3⟩:=row_j2 q2 hlt (by omega) (x:=x) (by omega) (rec:=rec) (H0:=H0);obtain⟨H8,t1,t2,t3⟩:=ih (a+1) (x+1) { st with cells:=st.cells++[⟨st.x+x,st.y+st.rows,1⟩] } H7 (by omega) (by omega) (by omega) n (by omega) cK hX hY hr (by simp only[VX,zXj,zXk];omega) s2;rw[hg]at t1;exact⟨H8,q1.trans (s1.trans t1),(q3.trans s3).trans t2,t3⟩
   | false=>
    simp only[GMw,HPw,Nat.reduceAdd,Nat.reduceLT,if_false,VY];obtain⟨H7,s1,s2,s3⟩:=row_j2 h hlt (by omega) (x:=x) (by omega) (rec:=rec) (H0:=H0);rw[s1];obtain⟨H8,t1,t2,t3⟩:=ih (a+1) (x+1) st H7 (by omega) (by omega) (by omega) n (by omega) cK hX hY hr (by omega) s2;rw[hg]at t1;exact⟨H8,t1,s3.trans t2,t3⟩
  | false=>
   have hst:=Hs (o:=10) (v:=.i6 ((st.rows+1:Nat):Int)) h.lx rfl (by simp[rdB]);simp only[GMw,HPw,Nat.reduceAdd,Nat.reduceLT,if_false,VY,Ai,Ah,hrw,Au (show st.rows<9223372036854775807 by omega),hst,AL];obtain⟨s1,s2⟩:=h.set (a':=a) (st':={ st with rows:=st.rows+1 }) h.row rfl h.fx h.gy;exact⟨_,rfl,s2,_,_,_,_,_,s1⟩

end
section
variable {bx N:Int}{b0 p a:Nat}{b:List UInt8}{st:BSt}{H:Aa}{f0 f1 g0 g1 v:Ab}
theorem one_endB (hb:b.length<1152921504606846976){rec:LK}{H0:Aa}{x:Out}{s:(Er×Nat)×BSt}(he:Jm bx N b0 p b H x (.tup []) s)(hs:s.1.2<=b.length) :
  (∃H' e c st',Uf b s=((some e,c),st')/\(bK H0 x λ_ H28=>Sh.f27 H0 rec (.ptr p 0 0) H28)=some (.pan (hv e),H')/\Ext b0 p H H'/\RB bx N b0 p b c st' H') \/
  (∃H' c st',Uf b s=((none,c),st')/\(bK H0 x λ_ H28=>Sh.f27 H0 rec (.ptr p 0 0) H28)=rec [.ptr p 0 0] H'/\Ext b0 p H H'/\RB bx N b0 p b c st' H'):=by
 obtain⟨⟨er,c⟩,st'⟩:=s;obtain⟨H1,rfl,e1,h1⟩:=he;dsimp only at hs e1 h1 ⊢;cases er with
 | some e=>exact .inl ⟨H1,e,c,st',rfl,rfl,e1,h1⟩
 | none=>
  obtain⟨f0,f1,g0,g1,v,h1⟩:=h1;obtain⟨h2,e2⟩:=h1.go0 (JI b c []).2;have hx:=lx_endS h1.lx hs hb [] (by decide);unfold Uf Sh.f27;simp only[CV,GMw,HPw,Nat.reduceAdd,Nat.reduceLT,hx];cases hE:(JI b c []).1 with
  | some e=>
   refine .inl ⟨_,e,(JI b c []).2,st',by rw[<-hE],?_,e1.trans e2,_,_,_,_,_,h2⟩;simp only[D3,GMw,HPw,Nat.reduceAdd,Nat.reduceLT]
  | none=>
   refine .inr ⟨_,(JI b c []).2,st',by rw[<-hE],?_,e1.trans e2,_,_,_,_,_,h2⟩;simp only[CV,GMw,HPw,Nat.reduceAdd,Nat.reduceLT]
theorem rb_loop (hb:b.length<250000000)(H0:Aa):∀(m a:Nat) (st:BSt) (H:Aa),a<=b.length->b.length-a<m->∀n,m<=n->∀q,q+2*(b.length-a)+1+b.length<=900000000->BOk q st->RB bx N b0 p b a st H ->
  Jm bx N b0 p b H (Ap (λrec1 vs H=>Sh.f42 H0 rec1 (ag vs 0) H) n [.ptr p 0 0] H) (.tup []) (Eo b bx m a st):=by
 intro m
 induction m with
 | zero=>intro a st H _ h;omega
 | succ m ih=>
  intro a st H ha hm n hn q hq hok h;obtain⟨n,rfl⟩:∃k,n=k+1:=⟨n-1,by omega⟩;rw[CF];generalize hg:Ap (λrec1 vs H=>Sh.f42 H0 rec1 (ag vs 0) H) n=rec;have hh:=h;obtain⟨f0,f1,g0,g1,v,h⟩:=h;have cK:Ac false 1 (.ptr p 0 5) H=some (.bool st.block):=by rw[C8 h.lx];rfl
  unfold Sh.f42 Eo;simp only[GMw,HPw,Nat.reduceAdd,Nat.reduceLT,JY h.lx];by_cases he:a=b.length
  ·simp only[he,GMw,HPw,Nat.reduceAdd,Nat.reduceLT,if_true];rw[he]at hh;exact⟨H,rfl,Ext.refl _ _ _,hh⟩
  ·have hlt:a<b.length:=by omega
   have key:∀ {x:Out},Jm bx N b0 p b H x (.tup []) (IU b bx a st)->Jm bx N b0 p b H (bK H0 x λ_ H28=>Sh.f27 H0 rec (.ptr p 0 0) H28) (.tup []) (match K8 b bx a st with
     | ((some e,c),st')=>((some e,c),st')
     | ((none,c),st')=>Eo b bx m c st'):=by
    intro x hl;have bU:=one_endB (rec:=rec) (H0:=H0) (by omega) hl (SU hlt st).le;have h1:=oneB_ok (bx:=bx) hlt st;have h2:=Vm (bx:=bx) hlt st;unfold K8 at h1 h2 ⊢;rcases bU with ⟨H1,e,c,st',q1,q2,q3,q4⟩ | ⟨H1,c,st',q1,q2,q3,q4⟩
    ·rw[q1];exact⟨H1,q2,q3,q4⟩
    ·rw[q1]at h1 h2 ⊢;obtain⟨k1,k2,k3⟩:=h1;dsimp only at k1 k2 k3 h2 ⊢;have:=h2 rfl;obtain⟨H2,s1,s2,s3⟩:=ih c st' H1 k1 (by omega) n (by omega) _ (by omega) (k3 q (by omega) hok) q4;rw[hg]at s1;exact⟨H2,q2.trans s1,q3.trans s2,s3⟩
   simp only[he,GMw,HPw,Nat.reduceAdd,Nat.reduceLT,if_false,Ai,Ah,F0 h.lx ha];cases hC:BT b a [35]with
   | true=>
    simp only[GMw,HPw,Nat.reduceAdd,Nat.reduceLT];refine key ?_;unfold IU;rw[if_pos hC];exact rb_mark h hlt (by omega)
   | false=>
    simp only[GMw,HPw,Nat.reduceAdd,Nat.reduceLT,cK];cases hB:st.block with
    | true=>
     simp only[GMw,HPw,Nat.reduceAdd,Nat.reduceLT];refine key ?_;unfold IU;rw[hC,hB];simp only[VY,if_false,if_true];exact rb_row (by omega) H (b.length+1-a) a 0 st H ha (by omega) (Wv _) AU (by rw[Dr];omega) hB hok.x hok.y (by have:=hok.r;omega) (by have:=hok.c;omega) h
    | false=>
     simp only[GMw,HPw,Nat.reduceAdd,Nat.reduceLT];refine key ?_;unfold IU;rw[hC,hB];simp only[VY,if_false];exact⟨_,SO h.lx _,Ext.refl _ _ _,hh⟩
theorem rb_all (h:RB bx N b0 p b 0 st H)(hb:b.length<250000000)(hn:BOk 0 st):Jm bx N b0 p b H (Sh.f1i (.ptr p 0 0) H) (.tup []) (N9 b bx st):=by
 have hb':b.length<1152921504606846976:=by omega
 obtain⟨f0,f1,g0,g1,v,h⟩:=h;have hM:=HV (s:=IY) (rest:=[]) (Wv b.length);have hx:=OA h.lx (Wv _) hb' IY [] (by decide) (by decide);unfold Sh.f1i N9;rw[show Ab.str [35,76,105,102,101,32,49,46,48,53]=.str IY from rfl];simp only[GMw,HPw,Nat.reduceAdd,Nat.reduceLT,hx];generalize DT b 0 IY []=M at hM;obtain⟨er,c⟩:=M;dsimp only at hM ⊢;obtain⟨h1,e1⟩:=h.go0 c;cases er with
 | some e=>
  simp only[D3,GMw,HPw,Nat.reduceAdd,Nat.reduceLT];exact⟨_,rfl,e1,_,_,_,_,_,h1⟩
 | none=>
  have hx2:=lx_endS h1.lx hM hb' [] (by decide);simp only[CV,GMw,HPw,Nat.reduceAdd,Nat.reduceLT,hx2];have hle:=RN hM [];generalize JI b c []=M at hle;obtain⟨er,d⟩:=M;dsimp only at hle ⊢;obtain⟨h3,e3⟩:=h1.go0 d;cases er with
  | some e=>
   simp only[D3,GMw,HPw,Nat.reduceAdd,Nat.reduceLT];exact⟨_,rfl,e1.trans e3,_,_,_,_,_,h3⟩
  | none=>
   simp only[CV,GMw,HPw,Nat.reduceAdd,Nat.reduceLT];obtain⟨H4,r1,r2,r3⟩:=rb_loop (bx:=bx) (N:=N) (b0:=b0) (p:=p) hb H (b.length+1) d st _ hle.2 (by omega) AU (by rw[Dr];omega) 0 (by omega) hn ⟨_,_,_,_,_,h3⟩;rw[r1];exact⟨H4,rfl,(e1.trans e3).trans r2,r3⟩
def PR (er:Er):Ab:=match er with
 | none=>.agg [.i6 0,.str []]
 | some e=>.agg [.i6 e.1,.str e.2]
theorem UP (h:RB bx N b0 p b 0 st H)(hb:b.length<250000000)(hn:BOk 0 st):∃H',Sh.f28 (.bfn 59 [.ptr p 0 0]) H=some (.ret (PR (N9 b bx st).1.1),H')/\Ext b0 p H H'/\RB bx N b0 p b (N9 b bx st).1.2 (N9 b bx st).2 H':=by
 obtain⟨H1,r1,r2,r3⟩:=rb_all h hb hn;refine⟨H1,?_,r2,r3⟩;have ho:ent 59 (ap1 Sh.f1i) noO 59 [.ptr p 0 0] H=Sh.f1i (.ptr p 0 0) H:=by
  unfold ent;rw[if_pos rfl];rfl
 unfold Sh.f28 Pk;simp only[ho,r1,GMw];cases (N9 b bx st).1.1 with
 | none=>rfl
 | some e=>rfl

end
def rcC (c:Cl):RC:=⟨decide (c.x<0),AA c.x.natAbs,decide (c.y<0),AA c.y.natAbs,c.s⟩
theorem TN (z:Int):HH (decide (z<0)) (AA z.natAbs)=true:=by
 unfold HH;rw[Sw,zXn];by_cases h:z<0
 ·have:AA z.natAbs≠[]:=OD (by omega);rw[zXc h];cases hl:AA z.natAbs with
  | nil=>exact absurd hl this
  | cons _ _=>rfl
 ·rw[zXd h];rfl
theorem rcC_right (c:Cl):(rcC c).right=true:=by
 unfold RC.right rcC;rw[TN,TN];rfl
theorem rcC_cl (c:Cl):(rcC c).cl=c:=by
 unfold RC.cl rcC;rw[Lr,Lr]
theorem rcC_fits {c:Cl}(h:c.ok):(rcC c).fits:=⟨Bz _,Bz _,h.1.lb (by decide),h.2.lb (by decide)⟩
theorem enL_rcC (L:List Cl):enL cRC (L.map rcC)=enL cCl L:=by
 unfold enL;rw[List.map_map]
 rfl
theorem map_rcC (L:List Cl):(L.map rcC).map RC.cl=L:=by
 rw[List.map_map]
 conv=>rhs;rw[<-List.map_id L]
 exact YE λc _=>rcC_cl c
theorem all_rcC (L:List Cl):(L.map rcC).all RC.right=true:=by
 rw[Wi];intro r hr;obtain⟨c,_,rfl⟩:=Xj.1 hr;exact rcC_right c
theorem p_cellsC (L:List Cl)(tk:Tok)(H:Aa)(hl:L.length<700000000)(hok:∀c∈L,c.ok):Sh.f2r (.sl (enL cCl L) tk) H=some (.ret (.tup [CY (D8 L).1,.i6 (D8 L).2]),H):=by
 have h:=p_cellsOf (L.map rcC) tk H (by rw[WW];exact hl) (λr hr=>by obtain⟨c,hc,rfl⟩:=Xj.1 hr;exact rcC_fits (hok c hc)) (λr hr _=>by obtain⟨c,hc,rfl⟩:=Xj.1 hr;rw[rcC_cl];exact hok c hc);rw[all_rcC,enL_rcC,map_rcC,if_pos rfl]at h;exact h
def Me (r:(List UInt8×List Nd)×Int×Int):Ab:=.tup [pat r.1.1 r.1.2,.i6 r.2.1,.i6 r.2.2]
theorem HL (rule:List UInt8)(L:List Nd):pat rule L=.agg [.str rule,.sl (enL cNd L) .no]:=rfl
theorem quad_eq6 (L:List Nd):CY L=.agg [.sl (enL cNd L) .no]:=rfl
theorem p_fine6 (bx N:Int)(H:Aa):Sh.f3h (.agg [.i6 bx,.i6 N]) H=some (.ret (.bool (Mu bx N)),H):=by
 unfold Sh.f3h Sh.f3g Mu;by_cases h1:bx>=0
 ·by_cases h2:bx<=1000
  ·by_cases h3:N>=0
   ·simp only[GMw,HPw,Nat.reduceAdd,Nat.reduceLT,h1,h2,h3]
   ·simp only[GMw,HPw,Nat.reduceAdd,Nat.reduceLT,h1,h2,h3]
  ·simp only[GMw,HPw,Nat.reduceAdd,Nat.reduceLT,h1,h2]
 ·simp only[GMw,HPw,Nat.reduceAdd,Nat.reduceLT,h1]
theorem bst0_ok:BOk 0 Us:=⟨by decide +kernel,by decide +kernel,VV _,VV _,λc hc=>by cases hc⟩
theorem bst1_ok:BOk 0 ⟨[],false,0,0,0,[]⟩:=⟨by decide +kernel,by decide +kernel,VV _,VV _,λc hc=>by cases hc⟩
theorem Ej (b:List UInt8)(bx N:Int)(H:Aa)(hb:b.length<250000000):Sh.ft (.str b) (.agg [.i6 bx,.i6 N]) H=some (.ret (Me (IM b bx N)),H):=by
 have b1:A6 (some [(.str []),(.sl [] .ti)]) []=some (.agg [.str [],.sl [] .ti]):=rfl;have b2:∀s,A6 (some [(.str []),(.i6 0)]) [(0,1,.str s)]=some (.agg [.str s,.i6 0]):=λ_=>rfl;have b3:∀s,A6 (some [(.str []),(.i6 0),(.i6 0),(.i6 0),(.str []),(.bool false),(.bool false),(.sl [] .ti),(.bool false),(.sl [] .ti),(.i6 0),(.sl [] .ti)]) [(0,2,.agg [.str s,.i6 0]),(2,2,.agg [.i6 bx,.i6 N]),(4,1,(.str [66,51,47,83,50,51]))]=some (.agg [.str s,.i6 0,.i6 bx,.i6 N,.str C4,.bool false,.bool false,.sl [] .ti,.bool false,.sl [] .ti,.i6 0,.sl [] .ti]):=λ_=>rfl;unfold Sh.ft IM;simp only[GMw,HPw,Nat.reduceAdd,Nat.reduceLT,p_fine6];cases hf:Mu bx N with
 | false=>
  simp only[GMw,HPw,Nat.reduceAdd,Nat.reduceLT,b1,VY,if_false,Me,HL]
  rfl
 | true=>
  simp only[GMw,HPw,Nat.reduceAdd,Nat.reduceLT,b2,b3,if_true];obtain⟨F,hF⟩:∃F:Aa,F=H++[.cel 0 [.i6 bx,.i6 N],.cel 0 [.str [],.sl [] .ti],.cel 0 [.str b,.i6 0,.i6 bx,.i6 N,.str C4,.bool false,.bool false,.sl [] .ti,.bool false,.sl [] .ti,.i6 0,.sl [] .ti]]:=⟨_,rfl⟩;have hR:RB bx N H.length (H.length+2) b 0 Us F:=⟨.bool false,.sl [] .ti,.bool false,.sl [] .ti,.sl [] .ti,by omega,by unfold Lx;rw[hF];simp[rdB,Us],.inl ⟨rfl,rfl⟩,(λh=>by cases h),(λh=>by cases h)⟩;obtain⟨H1,c1,c2,c3⟩:=UP hR (by omega) bst0_ok;rw[hF]at c1;have hlim:H1[H.length]? = some (.cel 0 [.i6 bx,.i6 N]):=c2.cel _ _ (by omega) (by rw[hF];simp);have hres:H1[H.length+1]? = some (.cel 0 [.str [],.sl [] .ti]):=c2.cel _ _ (by omega) (by rw[hF];simp);have hold:∀i,i<H.length->H1[i]? = H[i]? := λi hi=>by rw[c2.old i hi,hF,VR hi]
  simp only[c1,GMw];have hpos:=allB_er b bx Us;have cT:=allB_ok b bx Us (by omega) bst0_ok;generalize N9 b bx Us=A at c3 hpos cT;obtain⟨⟨er,c⟩,st⟩:=A;dsimp only at c3 ⊢;obtain⟨f0,f1,g0,g1,v,c3⟩:=c3;have cD:=(VP.1 hres).1;cases er with
  | some e=>
   have wZ:=hpos e rfl;have jH:=A0 (G:=[Blk.cel 0 [.i6 e.1,.str e.2]]) hres;have hst:=P4 (sz:=2) (ws:=[.str [],.sl [] .ti]) jH rfl rfl rfl;have aI:(H1++[Blk.cel 0 [.i6 e.1,.str e.2]]).set (H.length+1) (.cel 0 [.str [],.sl [] .ti])=H1++[Blk.cel 0 [.i6 e.1,.str e.2]]:=by
    apply Xx;intro i;by_cases hi:H.length+1=i
    ·subst hi;rw[Wf (by simp;omega),jH]
    ·rw[VT hi]
   rw[aI]at hst;have hld:=PM (sz:=2) jH rfl;have iB:=C8 (o:=1) (sz:=1) (A0 (G:=[Blk.cel 0 [.i6 e.1,.str e.2]]) c3.lx);have htk:(H1++[Blk.cel 0 [.i6 e.1,.str e.2]]).take H.length=H:=C0 λi hi=>by rw[VR (by omega)];exact hold i hi
   by_cases he:e.1=0
   ·exact absurd he (by omega)
   ·have hne:(!decide (e.1=0))=true:=by simp[he]
    simp only[PR,GMw,HPw,Nat.reduceAdd,Nat.reduceLT,hne,b1,hst,iB,F4,Ke,hld,GD htk,Me,HL]
    rfl
  | none=>
   have mP:st.cells.length<=2*b.length+1:=cT.c;have kL:∀c∈st.cells,c.ok:=cT.ok;obtain⟨tk,hv⟩:=c3.row.sl;have lD:=λK=>p_cellsC st.cells tk K (by omega) kL;have qZ:=C8 (o:=11) (sz:=1) (A0 (G:=[Blk.cel 0 [.i6 0,.str []]]) c3.lx);have lJ:=λG=>C8 (o:=4) (sz:=1) (A0 (G:=G) (A0 (G:=[Blk.cel 0 [.i6 0,.str []]]) c3.lx));obtain⟨K,hK⟩:∃K,K=H1++[Blk.cel 0 [.i6 0,.str []]]:=⟨_,rfl⟩;have hKr:K[H.length+1]? = some (.cel 0 [.str [],.sl [] .ti]):=by rw[hK];exact A0 hres
   have hKm:K[H.length]? = some (.cel 0 [.i6 bx,.i6 N]):=by rw[hK];exact A0 hlim
   have hKo:∀i,i<H.length->K[i]? = H[i]? := λi hi=>by rw[hK,VR (by omega)];exact hold i hi
   have hKl:H.length+1<K.length:=(VP.1 hKr).1;rw[<-hK]at qZ lJ;have bad:∀L:List Nd,((A6 (some [(.str []),(.sl [] .ti)]) []).bind λx57=>
 (CK (.str b)).bind λx58=>
 bP H (A8 (Af 2 (.ptr (H.length+1) 0 0) x57 (K++[.cel 0 [.sl (enL cNd L) .no]]))) λ_ H60=>
 (Eh [Ac true 2 (.ptr (H.length+1) 0 0) H60,some x58,some (.i6 4)]).bind λx61=>rPN H x61 H60)=some (.ret (Me (([],[]),(b.length:Int),4)),H):=by
    intro L;have dY:=A0 (G:=[Blk.cel 0 [.sl (enL cNd L) .no]]) hKr;have hst:=P4 (sz:=2) (ws:=[.str [],.sl [] .ti]) dY rfl rfl rfl;have hld:=PM (sz:=2) (H:=(K++[Blk.cel 0 [.sl (enL cNd L) .no]]).set (H.length+1) (.cel 0 [.str [],.sl [] .ti])) (p:=H.length+1) (cs:=[.str [],.sl [] .ti]) (by rw[Wf (by simp;omega)]) rfl;have htk:((K++[Blk.cel 0 [.sl (enL cNd L) .no]]).set (H.length+1) (.cel 0 [.str [],.sl [] .ti])).take H.length=H:=C0 λi hi=>by rw[VT (by omega),VR (by omega)];exact hKo i hi
    simp only[b1,GMw,HPw,Nat.reduceAdd,Nat.reduceLT,hst,hld,GD htk,Me,HL]
    rfl
   have qY:Ac false 1 (.ptr (H.length+2) 0 11) K=some (.sl (enL cCl st.cells) tk):=by rw[qZ,hv];rfl
   have rA:∀G,Ac false 1 (.ptr (H.length+2) 0 4) (K++G)=some (.str st.law):=λG=>lJ G;simp only[PR,GMw,HPw,Nat.reduceAdd,Nat.reduceLT];rw[<-hK];simp only[GMw,HPw,Nat.reduceAdd,Nat.reduceLT,qY,lD];generalize D8 st.cells=O;obtain⟨Q,e⟩:=O;dsimp only;have kD:=bad Q;have iH:=C8 (o:=1) (sz:=1) (A0 (G:=[Blk.cel 0 [.sl (enL cNd Q) .no]]) hKm);simp only[GMw,HPw,Nat.reduceAdd,Nat.reduceLT,quad_eq6]at kD ⊢;by_cases he:e=0
   ·subst he;by_cases hlen:(Q.length:Int)<=N
    ·have hgt:¬(Q.length:Int)>N:=by omega
     have dY:=A0 (G:=[Blk.cel 0 [.sl (enL cNd Q) .no]]) hKr;have hst:=P4 (sz:=2) (ws:=[.str st.law,.sl (enL cNd Q) .no]) dY rfl rfl rfl;have hld:=PM (sz:=2) (H:=(K++[Blk.cel 0 [.sl (enL cNd Q) .no]]).set (H.length+1) (.cel 0 [.str st.law,.sl (enL cNd Q) .no])) (p:=H.length+1) (cs:=[.str st.law,.sl (enL cNd Q) .no]) (by rw[Wf (by simp;omega)]) rfl;have htk:((K++[Blk.cel 0 [.sl (enL cNd Q) .no]]).set (H.length+1) (.cel 0 [.str st.law,.sl (enL cNd Q) .no])).take H.length=H:=C0 λi hi=>by rw[VT (by omega),VR (by omega)];exact hKo i hi
     have iK:A6 (some [(.str []),(.sl [] .ti)]) [(0,1,.str st.law),(1,1,.agg [.sl (enL cNd Q) .no])]=some (.agg [.str st.law,.sl (enL cNd Q) .no]):=rfl;simp only[GMw,HPw,Nat.reduceAdd,Nat.reduceLT,Ax,iH,F4,Ke,hgt,hlen,rA,iK,hst,hld,GD htk,Me,HL,if_true]
    ·have hgt:(Q.length:Int)>N:=by omega
     simp only[GMw,HPw,Nat.reduceAdd,Nat.reduceLT,Ax,iH,F4,Ke,hgt,hlen,VY,if_false]at kD ⊢;exact kD
   ·have hne:(!decide (e=0))=true:=by simp[he]
    simp only[GMw,HPw,Nat.reduceAdd,Nat.reduceLT,he,hne,VY,if_false,Xh]at kD ⊢;exact kD
theorem Ox (b:List UInt8)(H:Aa)(hb:b.length<250000000):Sh.fx (.str b) H=some (.ret (.tup [.str (Vv b).1,.bool (Vv b).2]),H):=by
 have b2:∀s,A6 (some [(.str []),(.i6 0)]) [(0,1,.str s)]=some (.agg [.str s,.i6 0]):=λ_=>rfl;have b3:∀s,A6 (some [(.str []),(.i6 0),(.i6 0),(.i6 0),(.str []),(.bool false),(.bool false),(.sl [] .ti),(.bool false),(.sl [] .ti),(.i6 0),(.sl [] .ti)]) [(0,2,.agg [.str s,.i6 0]),(2,2,.agg [.i6 1000,.i6 100000])]=some (.agg [.str s,.i6 0,.i6 1000,.i6 100000,.str [],.bool false,.bool false,.sl [] .ti,.bool false,.sl [] .ti,.i6 0,.sl [] .ti]):=λ_=>rfl;have b4:A6 (some [(.i6 0),(.i6 0)]) [(0,1,(.i6 1000)),(1,1,(.i6 100000))]=some (.agg [.i6 1000,.i6 100000]):=rfl;unfold Sh.fx Vv;simp only[GMw,HPw,Nat.reduceAdd,Nat.reduceLT,b2,b3,b4];obtain⟨F,hF⟩:∃F:Aa,F=H++[.cel 0 [.str b,.i6 0,.i6 1000,.i6 100000,.str [],.bool false,.bool false,.sl [] .ti,.bool false,.sl [] .ti,.i6 0,.sl [] .ti]]:=⟨_,rfl⟩;have hR:RB 1000 100000 H.length H.length b 0 ⟨[],false,0,0,0,[]⟩ F:=⟨.bool false,.sl [] .ti,.bool false,.sl [] .ti,.sl [] .ti,VV _,by unfold Lx;rw[hF];simp[rdB],.inl ⟨rfl,rfl⟩,(λh=>by cases h),(λh=>by cases h)⟩;obtain⟨H1,c1,c2,c3⟩:=UP hR (by omega) bst1_ok;rw[hF]at c1;have hlen:H.length<=H1.length:=by have:=c2.len;rw[hF]at this;simp at this;omega
 have hold:∀i,i<H.length->H1[i]? = H[i]? := λi hi=>by rw[c2.old i hi,hF,VR hi]
 have htk:∀G,(H1++G).take H.length=H:=λG=>C0 λi hi=>by rw[VR (by omega)];exact hold i hi
 simp only[c1,GMw];cases (N9 b 1000 ⟨[],false,0,0,0,[]⟩).1.1 with
 | none=>
  simp only[PR,GMw,HPw,Nat.reduceAdd,Nat.reduceLT];exact Gu rfl (htk _)
 | some e=>
  by_cases h0:e.1=0
  ·simp only[PR,GMw,HPw,Nat.reduceAdd,Nat.reduceLT,h0];exact Gu rfl (htk _)
  ·simp only[PR,GMw,HPw,Nat.reduceAdd,Nat.reduceLT,h0];exact Gu rfl (htk _)
section
variable {b:List UInt8}{er:Er}{c:Nat}
end
section
variable {H:Aa}{b:List UInt8}{bx N:Int}{er:Er}{c:Nat}{v:Ab}{K:Aa}
end
section
variable {b:List UInt8}{a:Nat}{st:BSt}
end
section
variable {H K:Aa}{b:List UInt8}{bx N:Int}{c:Nat}
end
section
variable {H K:Aa}{b:List UInt8}{bx N:Int}{er:Er}{c:Nat}
end
section
variable {H K:Aa}{b:List UInt8}{bx N:Int}{er:Er}{c:Nat}{st:BSt}
end
section
variable {H:Aa}{b:List UInt8}{bx N:Int}{er:Er}{c:Nat}{st:BSt}{v:Ab}{K:Aa}
end
set_option maxRecDepth 100000
def s5A:List UInt8:=[35,76,105,102,101,32,49,46,48,53,10,42]
def s5B:List UInt8:=[35,76,105,102,101,32,49,46,48,53,13,10,35,68,120,10,35,82,32,97,98,99,10,35,80,32,45,49,32,50,10,46,42,10,10,42,10,35,80,32,53,32,53,10,42]
def s5C:List UInt8:=[35,76,105,102,101,32,49,46,48,53,10,35,80,32,45]
def s5D:List UInt8:=[35,76,105,102,101,32,50]
def s5E:List UInt8:=[35,76,105,102,101,32,49,46,48,53,10,35,80,32,48,32,48,10,46,46,42]
def s5T:List UInt8:=[35,76,105,102,101,32,49,46,48,53,10,35,82,32,97,98,99,10,35,80,32,45,49,32,50,10,46,42,10,46,10,42,10,46,46,46,46,46,46,42,10]
def l5B:List Nd:=(IM s5B 1000 100000).1.2
theorem y5A:IM s5A 1000 100000=(([],[]),11,2):=by decide +kernel
theorem y5B:IM s5B 1000 100000=(([97,98,99],l5B),0,0):=by decide +kernel
theorem y5T:HE 2 [97,98,99] l5B 1000 100000=0:=by decide +kernel
theorem y5W:FE (SX [97,98,99] l5B) (Ca l5B)=s5T:=by decide +kernel
theorem y5C:Vv s5C=([49,32,49],true):=by decide +kernel
theorem y5C2:(IM (s5C++[49,32,49]) 1000 100000).2.2=0:=by decide +kernel
theorem y5D:(Vv s5D).2=false:=by decide +kernel
theorem y5E:(IM s5E 2 9).2.2=4:=by decide +kernel
theorem l5B_len:l5B.length<1000:=by decide +kernel
theorem q11B_wide (H:Aa):Sh.fr H=some (.ret (.agg [.i6 1000,.i6 100000]),H):=by
 have hb:A6 (some [(.i6 0),(.i6 0)]) [(0,1,(.i6 1000)),(1,1,(.i6 100000))]=some (.agg [.i6 1000,.i6 100000]):=rfl;unfold Sh.fr;simp only[GMw,HPw,Nat.reduceAdd,Nat.reduceLT,hb]
theorem q16_alive (H:Aa):Sh.fy H=some (.ret (.bool true),H):=by
 have hA:=λK=>Ej s5A 1000 100000 K (by decide);have hB:=λK=>Ej s5B 1000 100000 K (by decide);have hC:=λK=>Ox s5C K (by decide);have hC2:=λK=>Ej (s5C++[49,32,49]) 1000 100000 K (by decide);have hD:=λK=>Ox s5D K (by decide);have hE:=λK=>Ej s5E 2 9 K (by decide);have hl:=l5B_len;have hT:=λK=>PD [97,98,99] l5B 1000 100000 K (by decide) (by omega) (by decide) (by decide);have hx2:=y5C2;generalize IM (s5C++[49,32,49]) 1000 100000=R at hC2 hx2;obtain⟨⟨r1,r2⟩,r3,r4⟩:=R;dsimp only at hx2;subst hx2;have bZ:=y5D;generalize Vv s5D=D at hD bZ;obtain⟨d1,d2⟩:=D;dsimp only at bZ;subst bZ;have vR:=y5E;generalize IM s5E 2 9=E at hE vR;obtain⟨⟨e1,e2⟩,e3,e4⟩:=E;dsimp only at vR;subst vR;have dK:Ae .none .add (.str s5C) (.str [49,32,49])=some (.str (s5C++[49,32,49])):=CJ (by decide);have Zb:A6 (some [(.i6 0),(.i6 0)]) [(0,1,(.i6 2)),(1,1,(.i6 9))]=some (.agg [.i6 2,.i6 9]):=rfl;rw[y5A]at hA;rw[y5B]at hB;rw[y5C]at hC;rw[if_pos y5T,y5W]at hT;generalize l5B=LB at hB hT;have hlim:Im 1000 100000=[.i6 1000,.i6 100000]:=rfl;rw[hlim]at hT;simp only[Me,HL]at hA hB hC2 hT hE;dsimp only at hC hD;unfold Sh.fy;rw[show ([35,76,105,102,101,32,49,46,48,53,10,42]:List UInt8)=s5A from rfl,
  show ([35,76,105,102,101,32,49,46,48,53,13,10,35,68,120,10,35,82,32,97,98,99,10,35,80,32,45,49,32,50,10,46,42,10,10,42,10,35,80,32,53,32,53,10,42]:List UInt8)=s5B from rfl,
  show ([35,76,105,102,101,32,49,46,48,53,10,35,80,32,45]:List UInt8)=s5C from rfl,show ([35,76,105,102,101,32,50]:List UInt8)=s5D from rfl,
  show ([35,76,105,102,101,32,49,46,48,53,10,35,80,32,48,32,48,10,46,46,42]:List UInt8)=s5E from rfl,
  show ([35,76,105,102,101,32,49,46,48,53,10,35,82,32,97,98,99,10,35,80,32,45,49,32,50,10,46,42,10,46,10,42,10,46,46,46,46,46,46,42,10]:List UInt8)=s5T from rfl]
 simp only[Sl.gliderref11_Wide_eq,Sl.life5_Read_eq,Sl.gliderref12_Life5_eq,Sl.life5_Hint_eq,GMw,HPw,Nat.reduceAdd,Nat.reduceLT,q11B_wide,hA,hB,hC,dK,hC2,hD,hT,Zb,hE,Ku,beq_self_eq_true]
theorem lvUp_to {w:Nat}{c:Cl}(h:DP w c=true):∀f v,v<=w->Il f v c<=w
 | 0,v,hv=>hv
 | f+1,v,hv=>by
  unfold Il;split
  ·exact hv
  ·rename_i hn;refine lvUp_to h f (v+1) ?_;by_cases e:v=w
   ·subst e;exact absurd h hn
   ·omega
theorem level_to {w:Nat}:∀(S:List Cl) (v:Nat),v<=w->(∀c∈S,DP w c=true)->S.foldl (λv c=>Il (1330-v) v c) v<=w
 | [],v,hv,_=>hv
 | d::S,v,hv,h=>by
  rw[List.foldl_cons];exact level_to S _ (lvUp_to (h d (by simp)) _ v hv) λc hc=>h c (by simp[hc])
theorem level_both {l k:List Cl}(hl:A3 (Bb l)<=1329)(hk:A3 (Bb k)<=1329):A3 (Bb (Bb l++Bb k))<=1329:=
 level_to _ 1 (by omega) λc hc=>by
  rcases Wn.1 (PN hc)with h | h
  ·exact LR (JZ hl c h) hl
  ·exact LR (JZ hk c h) hk
theorem both_read {u:List UInt8}{l k:List Cl}{p q:List UInt8×List Nd}(hl:A3 (Bb l)<=1329)(hk:A3 (Bb k)<=1329)(ml:Gv (D8 l).1<=1)(mk:Gv (D8 k).1<=1)(nl:l.length<=30)(nk:k.length<=30)
  (hp:p=(C4,(D8 l).1))(hq:q=(C4,(D8 k).1))(op:Ok5 60 p)(oq:Ok5 60 q)(B:List (List UInt8×List Nd))(h1:∀r∈B,r=p\/r=q)(h2:p∈B)(h3:q∈B) :
  IM (CS++F8 B) 60 100000=((C4,(D8 (Bb l++Bb k)).1),0,0):=by
 have hv:=level_both hl hk;obtain⟨_,_,_,g4⟩:=K4 hv;have hlen:=SH (Bb l++Bb k) (by have:=EI l;have:=EI k;simp;omega);have jB:=EI l;have gS:=EI k;rw[VX]at hlen;have he:D8 (HO B)=D8 (Bb l++Bb k):=by
  refine of07_same (λc hc=>?_) (λc hc=>?_) λc=>?_
  ·unfold HO at hc;obtain⟨r,_,hr⟩:=XG.1 hc;exact blockC_one _ c hr
  ·rcases Wn.1 hc with h | h
   ·exact Vp hl ml c h
   ·exact Vp hk mk c h
  ·unfold HO;rw[XG,Wn,<-TL hl ml,<-TL hk mk];constructor
   ·rintro⟨r,hr,hc⟩;rcases h1 r hr with rfl | rfl
    ·rw[hp]at hc;exact .inl hc
    ·rw[hq]at hc;exact .inr hc
   ·rintro (h | h)
    ·exact⟨p,h2,by rw[hp];exact h⟩
    ·exact⟨q,h3,by rw[hq];exact h⟩
 have hr:Nw C4 B=C4:=by
  have:∀(B:List (List UInt8×List Nd)),(∀r∈B,r=p\/r=q)->Nw C4 B=C4:=by
   intro B
   induction B with
   | nil=>intro _;rfl
   | cons a B ih=>
    intro h;have ha:a.1=C4:=by
     rcases h a (by simp)with e | e
     ·rw[e,hp]
     ·rw[e,hq]
    show Nw a.1 B=C4;rw[ha];exact ih λr hr=>h r (by simp[hr])
  exact this B h1
 rw[blocks_read B (m:=60) (N:=100000) (by decide) (λr hr=>(h1 r hr).elim (λe=>e ▸ op) (λe=>e ▸ oq)) (by rw[he];exact g4) (by rw[he];omega),he,hr]
theorem Ut {l k:List RC}(H:Aa)(jB:l.length<1152921504606846976)(hl:∀r∈l,r.lim)(gS:k.length<1152921504606846976)(hk:∀r∈k,r.lim) :
  Sh.f7p (.sl (enL cRC l) .no) (.sl (enL cRC k) .no) H=some (.ret (.bool true),H):=by
 have lD:=λK=>q11_of [66,51,47,83,50,51] l .no 20 K (by decide) (by omega) jB hl;have hq:=US (most:=20) (l:=l);have oQ:=UR (most:=20) (l:=l);have jJ:=S0 (most:=20) (l:=l) (by omega);generalize EW 20 l=P at lD hq oQ jJ;obtain⟨P,okP⟩:=P;have lC:=λK=>q11_of [66,51,47,83,50,51] k .no 20 K (by decide) (by omega) gS hk;have eP:=US (most:=20) (l:=k);have lA:=UR (most:=20) (l:=k);have pZ:=S0 (most:=20) (l:=k) (by omega);generalize EW 20 k=Q at lC eP lA pZ;obtain⟨Q,okQ⟩:=Q;have nB:Hk [66,51,47,83,50,51]=true:=by decide +kernel
 dsimp only at lD hq oQ jJ lC eP lA pZ;simp only[HL,nB,YG]at lD lC;have hlim:Im 60 100000=[.i6 60,.i6 100000]:=rfl;have b4:A6 (some [(.i6 0),(.i6 0)]) [(0,1,(.i6 60)),(1,1,(.i6 100000))]=some (.agg [.i6 60,.i6 100000]):=rfl;have b5:Af 2 (.ptr 0 0 0) (.agg [.i6 60,.i6 100000]) [Blk.cel 0 [.i6 0,.i6 0]]=some [Blk.cel 0 [.i6 60,.i6 100000]]:=rfl;unfold Sh.f7p;simp only[Sl.gliderlaw16_alive_eq,Sl.gliderref11_Of_eq,Sl.gliderref11_Express_eq,Sl.gliderref12_Life5_eq,Sl.life5_Read_eq,Sl.gliderref11_Same_eq,GMw,HPw,Nat.reduceAdd,Nat.reduceLT,q16_alive,b4,b5,lD,lC];cases okP with
 | false=>simp only[GMw,HPw,Nat.reduceAdd,Nat.reduceLT]
 | true=>
  cases okQ with
  | false=>simp only[GMw,HPw,Nat.reduceAdd,Nat.reduceLT]
  | true=>
   obtain⟨e1,hv,hn⟩:=hq rfl (by omega);obtain⟨e1',aO,mF⟩:=eP rfl (by omega);have hlo:=Fx oQ;have qR:=Fx lA;have hex:=λK=>Mh 2 [66,51,47,83,50,51] P 60 100000 K (by omega) hlo (by omega) (by omega);have jU:=λK=>Mh 2 [66,51,47,83,50,51] Q 60 100000 K (by omega) qR (by omega) (by omega);simp only[HL,hlim]at hex jU;cases hx:GM 2 P 60 with
   | false=>simp only[GMw,HPw,Nat.reduceAdd,Nat.reduceLT,hex,hx]
   | true=>
    cases hx':GM 2 Q 60 with
    | false=>simp only[GMw,HPw,Nat.reduceAdd,Nat.reduceLT,hex,hx,jU,hx']
    | true=>
     have mG:Gv P<=1/\Ee P 60=true:=by
      unfold GM at hx;simp at hx;exact⟨by omega,hx.1⟩
     have qN:Gv Q<=1/\Ee Q 60=true:=by
      unfold GM at hx';simp at hx';exact⟨by omega,hx'.1⟩
     have jY:HE 2 [66,51,47,83,50,51] P 60 100000=0:=by
      unfold HE;rw[nB,oQ,hx];rfl
     have vV:HE 2 [66,51,47,83,50,51] Q 60 100000=0:=by
      unfold HE;rw[nB,lA,hx'];rfl
     have hT:=λK=>PD [66,51,47,83,50,51] P 60 100000 K (by decide) (by omega) (by omega) (by omega);have hT':=λK=>PD [66,51,47,83,50,51] Q 60 100000 K (by decide) (by omega) (by omega) (by omega);simp only[HL,hlim,jY,vV,if_true,block_text]at hT hT';have op:Ok5 60 (C4,P):=quad_ok5 nB hlo (by decide) mG.2;have oq:Ok5 60 (C4,Q):=quad_ok5 nB qR (by decide) qN.2;have la:=VJ op;have lb:=VJ oq;have key:=both_read (u:=[]) hv aO (by rw[<-e1];exact mG.1) (by rw[<-e1'];exact qN.1) hn mF (p:=(C4,P)) (q:=(C4,Q)) (by rw[<-e1]) (by rw[<-e1']) op oq;have k1:=key [(C4,P),(C4,Q)] (by simp) (by simp) (by simp);have k2:=key [(C4,Q),(C4,P)] (by simp[or_comm]) (by simp) (by simp);have k3:=key [(C4,P),(C4,Q),(C4,P),(C4,Q)] (by simp) (by simp) (by simp);have hRl:=SH (Bb (l.map RC.cl)++Bb (k.map RC.cl)) (by have:=EI (l.map RC.cl);have:=EI (k.map RC.cl);rw[VX];omega);have m1:=EI (l.map RC.cl);have m2:=EI (k.map RC.cl);rw[VX]at hRl;generalize (D8 (Bb (l.map RC.cl)++Bb (k.map RC.cl))).1=R at k1 k2 k3 hRl;simp only[F8,XN,List.flatMap_nil,Wx]at k1 k2 k3;change (Du [66,51,47,83,50,51] P).length<=10000 at la;change (Du [66,51,47,83,50,51] Q).length<=10000 at lb;change IM (CS++(Du [66,51,47,83,50,51] P++Du [66,51,47,83,50,51] Q)) 60 100000=_ at k1;change IM (CS++(Du [66,51,47,83,50,51] Q++Du [66,51,47,83,50,51] P)) 60 100000=_ at k2;change IM (CS++(Du [66,51,47,83,50,51] P++(Du [66,51,47,83,50,51] Q++(Du [66,51,47,83,50,51] P++Du [66,51,47,83,50,51] Q)))) 60 100000=_ at k3;generalize Du [66,51,47,83,50,51] P=a at *;generalize Du [66,51,47,83,50,51] Q=b at *;have hsl:∀s:List UInt8,BZ (.str (CS++s)) (some (.i6 11)) none=some (.str s):=λs=>
      (GA (s:=CS++s) (l:=11) (K:=.i64) (by simp[CS])).trans rfl
     have a1:∀ek (s:List UInt8),s.length<=100000->Ae ek .add (.str CS) (.str s)=some (.str (CS++s)):=λek s hs=>CJ (by simp[CS];omega);have a2:∀ek (s t:List UInt8),s.length<=100000->t.length<=100000->Ae ek .add (.str s) (.str t)=some (.str (s++t)):=λek s t hs ht=>CJ (by omega);have h11:CS.length=11:=rfl;have b1:∀ek,Ae ek .add (.str CS) (.str a)=some (.str (CS++a)):=λek=>a1 ek a (by omega);have b2:∀ek,Ae ek .add (.str (CS++a)) (.str b)=some (.str (CS++(a++b))):=λek=>by rw[a2 ek _ _ (by simp;omega) (by omega),VZ]
     have b3:∀ek,Ae ek .add (.str CS) (.str b)=some (.str (CS++b)):=λek=>a1 ek b (by omega);have b4:∀ek,Ae ek .add (.str (CS++b)) (.str a)=some (.str (CS++(b++a))):=λek=>by rw[a2 ek _ _ (by simp;omega) (by omega),VZ]
     have b5:∀ek,Ae ek .add (.str (CS++(a++b))) (.str a)=some (.str (CS++(a++(b++a)))):=λek=>by rw[a2 ek _ _ (by simp;omega) (by omega)];simp
     have b6:∀ek,Ae ek .add (.str (CS++(a++(b++a)))) (.str b)=some (.str (CS++(a++(b++(a++b))))):=λek=>by rw[a2 ek _ _ (by simp;omega) (by omega)];simp
     have r1:=λK=>Ej (CS++(a++b)) 60 100000 K (by simp;omega);have r2:=λK=>Ej (CS++(b++a)) 60 100000 K (by simp;omega);have r3:=λK=>Ej (CS++(a++(b++(a++b)))) 60 100000 K (by simp;omega);rw[k1]at r1;rw[k2]at r2;rw[k3]at r3;simp only[Me,HL]at r1 r2 r3;have hs:=λK=>q11_same C4 C4 R R K (by omega);simp only[HL]at hs;rw[show ([35,76,105,102,101,32,49,46,48,53,10]:List UInt8)=CS from rfl];simp only[GMw,HPw,Nat.reduceAdd,Nat.reduceLT,hex,hx,jU,hx',hT,hT',hsl,b1,b2,b3,b4,b5,b6,r1,r2,r3,hs]
def Shp (P:Program):Nat->TypeId->List Ab->Prop
 | 0,_,_=>False
 | f+1,t,vas=>match P.underlying t with
  | some .bool=>∃b,vas=[.bool b]
  | some (.int k)=>∃n,vas=[.int k n]/\(Lit.int k n).wf=true
  | some .string=>∃s,vas=[.str s]/\s.length<=maxLen
  | some (.slice e)=>∃es,vas=[.sl es .no]/\es.length<=maxLen/\∀x∈es,Shp P f e x
  | some (.struct fs)=>∃ps:List (List Ab),vas=ps.flatten/\ps.length=fs.toList.length/\∀(i:Nat) (fd:Field) (p:List Ab),fs.toList[i]? = some fd->ps[i]? = some p->Shp P f fd.type p
  | some (.array n e)=>∃ps:List (List Ab),vas=ps.flatten/\ps.length=n/\∀p∈ps,Shp P f e p
  | _=>False
def layF (P:Program)(total:Nat):List Field->Nat->Bool
 | [],off=>off == total
 | f::r,off=>f.offset == off&&layF P total r (off+P.cellsOf f.type)
def Rk (P:Program):Nat->TypeId->Bool
 | 0,_=>false
 | f+1,t=>match P.underlying t with
  | some .bool=>true
  | some (.int _)=>true
  | some .string=>true
  | some (.slice e)=>decide (0<P.cellsOf e)&&Rk P f e
  | some (.struct fs)=>layF P (P.cellsOf t) fs.toList 0&&fs.toList.all λfd=>Rk P f fd.type
  | some (.array n e)=>decide (P.cellsOf t=n*P.cellsOf e)&&Rk P f e
  | _=>false
theorem SM {α β:Type}{f:α->Option β}:∀ {l:List α} {r:List β},l.mapM f=some r->∀a∈l,∃b,f a=some b
 | [],_,_,a,ha=>by cases ha
 | x::l,r,h,a,ha=>by
  rw[YC]at h;cases hx:f x with
  | none=>simp[hx]at h
  | some b=>
   cases hl:l.mapM f with
   | none=>simp[hx,hl]at h
   | some bs=>
    rcases WG.1 ha with rfl | ha
    ·exact⟨b,hx⟩
    ·exact SM hl a ha
theorem SN {α β:Type}{f:α->Option β}:∀ {l:List α} {r:List β},l.mapM f=some r->r.length=l.length/\∀(i:Nat) (a:α),l[i]? = some a->r[i]? = f a
 | [],r,h=>by
  have:r=[]:=by simpa using h.symm
  subst this;exact⟨rfl,λi a ha=>by simp at ha⟩
 | x::l,r,h=>by
  rw[YC]at h;cases hx:f x with
  | none=>simp[hx]at h
  | some b=>
   cases hl:l.mapM f with
   | none=>simp[hx,hl]at h
   | some bs=>
    have:r=b::bs:=by simpa[hx,hl]using h.symm
    subst this;obtain⟨h1,h2⟩:=SN hl;refine⟨by simp[h1],λi a ha=>?_⟩;cases i with
    | zero=>simp at ha;subst ha;simp[hx]
    | succ i=>simp at ha ⊢;exact h2 i a ha
theorem Env0_I (W:World)(b o:Nat):(NB W).I b o=W.cell? ⟨b,o,none⟩:=rfl
section
variable {H:Type}{enc:TypeId×Value->H}{P:Program}{w:World}{base:Nat}{spare:Nat->Bool}{held:Bool}
def OpenAt (enc:TypeId×Value->H)(P:Program)(w:World)(base:Nat)(spare:Nat->Bool)(held:Bool)(f fuel:Nat):Prop:=
 ∀(t:TypeId) (cs:List Value) (x:DataW H×List MemPlace),Rk P f t=true->DataW.trod enc P w base spare held fuel t cs=some x->∃vas,A5 (NB w) vas cs/\(∀c∈vas,BI c=true)/\Shp P f t vas
theorem QN {f fuel:Nat}(ih:OpenAt enc P w base spare held f fuel)(cs:List Value):∀(fs:List Field) (off:Nat) (r:List (DataW H×List MemPlace)),layF P cs.length fs off=true->(fs.all λfd=>Rk P f fd.type)=true ->
  (fs.mapM λfd=>DataW.trod enc P w base spare held fuel fd.type ((cs.drop fd.offset).take (P.cellsOf fd.type)))=some r->(∀fd∈fs,∀(c:List Value) (x:DataW H×List MemPlace),DataW.trod enc P w base spare held fuel fd.type c=some x->True) ->
  ∃ps:List (List Ab),A5 (NB w) ps.flatten (cs.drop off)/\(∀c∈ps.flatten,BI c=true)/\ps.length=fs.length/\∀(i:Nat) (fd:Field) (p:List Ab),fs[i]? = some fd->ps[i]? = some p->Shp P f fd.type p
 | [],off,r,iR,_,_,_=>by
  have:off=cs.length:=by simpa[layF]using iR
  subst this;exact⟨[],by simpa using A5.nil _,λc hc=>by simp at hc,rfl,λi fd p h=>by simp at h⟩
 | fd::fs,off,r,iR,hs,hm,ht=>by
  simp only[layF,Wc,beq_iff_eq]at iR;obtain⟨ho,iR⟩:=iR;simp only[List.all_cons,Wc]at hs;rw[YC]at hm;cases hx:DataW.trod enc P w base spare held fuel fd.type ((cs.drop fd.offset).take (P.cellsOf fd.type))with
  | none=>simp[hx]at hm
  | some x=>
   cases hl:fs.mapM λfd=>DataW.trod enc P w base spare held fuel fd.type ((cs.drop fd.offset).take (P.cellsOf fd.type))with
   | none=>simp[hx,hl]at hm
   | some xs=>
    obtain⟨vas,a1,a2,a3⟩:=ih fd.type _ x hs.1 hx;obtain⟨ps,b1,b2,b3,b4⟩:=QN ih cs fs (off+P.cellsOf fd.type) xs iR hs.2 hl (λ_ _ _ _ _=>trivial);refine⟨vas::ps,?_,λc hc=>?_,by simp[b3],λi fd' p h1 h2=>?_⟩
    ·rw[List.flatten_cons];have e:cs.drop off=(cs.drop off).take (P.cellsOf fd.type)++cs.drop (off+P.cellsOf fd.type):=by
      rw[<-WY];exact (WC _ _).symm
     rw[e];rw[ho]at a1;exact a1.append b1
    ·rw[List.flatten_cons]at hc;rcases Wn.1 hc with hc | hc
     ·exact a2 c hc
     ·exact b2 c hc
    ·cases i with
     | zero=>simp at h1 h2;subst h1;subst h2;exact a3
     | succ i=>exact b4 i fd' p (by simpa using h1) (by simpa using h2)
theorem SF {f fuel:Nat}(ih:OpenAt enc P w base spare held f fuel){e:TypeId}(hs:Rk P f e=true)(cs:List Value):∀(d i n:Nat),i+d=n->cs.length=n*P.cellsOf e ->
  (∀j,j<n->∃x,DataW.trod enc P w base spare held fuel e ((cs.drop (j*P.cellsOf e)).take (P.cellsOf e))=some x) ->
  ∃ps:List (List Ab),A5 (NB w) ps.flatten (cs.drop (i*P.cellsOf e))/\(∀c∈ps.flatten,BI c=true)/\ps.length=d/\∀p∈ps,Shp P f e p
 | 0,i,n,hi,hl,_=>by
  have:cs.drop (i*P.cellsOf e)=[]:=Yd (by rw[hl,show i=n by omega];exact VV _);rw[this];exact⟨[],A5.nil _,λc hc=>by simp at hc,rfl,λp h=>by simp at h⟩
 | d+1,i,n,hi,hl,hm=>by
  obtain⟨x,hx⟩:=hm i (by omega);obtain⟨vas,a1,a2,a3⟩:=ih e _ x hs hx;obtain⟨ps,b1,b2,b3,b4⟩:=SF ih hs cs d (i+1) n (by omega) hl hm;refine⟨vas::ps,?_,λc hc=>?_,by simp[b3],λp hp=>?_⟩
  ·rw[List.flatten_cons];have e':cs.drop (i*P.cellsOf e)=(cs.drop (i*P.cellsOf e)).take (P.cellsOf e)++cs.drop ((i+1)*P.cellsOf e):=by
    rw[Yn,<-WY];exact (WC _ _).symm
   rw[e'];exact a1.append b1
  ·rw[List.flatten_cons]at hc;rcases Wn.1 hc with hc | hc
   ·exact a2 c hc
   ·exact b2 c hc
  ·rcases WG.1 hp with rfl | hp
   ·exact a3
   ·exact b4 p hp
theorem Nu {a:Addr}{n:Nat}{r:List Value}(h:w.cells? base a n=some r):r.length=n/\∀j,j<n->w.cell? (a.add j)=r[j]? := by
 unfold World.cells? at h;split at h
 ·obtain⟨h1,h2⟩:=SN h;refine⟨by simpa using h1,λj hj=>(h2 j j (WK hj)).symm⟩
 ·cases h
theorem open_row {f fuel:Nat}(ih:OpenAt enc P w base spare held f fuel){e:TypeId}(hpos:0<P.cellsOf e)(hs:Rk P f e=true)(a:Addr)(len cap:Nat)(hc:len<=cap)
  (hm:∀i,i<len->∃x,(w.cells? base (a.add (i*P.cellsOf e)) (P.cellsOf e)).bind (DataW.trod enc P w base spare held fuel e)=some x) :
  ∃es tk,Ay (NB w) (.sl es tk) (.slice (some a) len cap)/\(tk=.no)/\es.length=len/\∀x∈es,Shp P f e x:=by
 by_cases h0:len=0
 ·subst h0;exact⟨[],.no,.sl0 trivial (λh=>by cases h),rfl,rfl,λx hx=>by cases hx⟩
 ·have each:∀i,∃vas:List Ab,i<len->∃r,w.cells? base (a.add (i*P.cellsOf e)) (P.cellsOf e)=some r/\A5 (NB w) vas r/\(∀c∈vas,BI c=true)/\Shp P f e vas:=by
   intro i;by_cases hi:i<len
   ·obtain⟨x,hx⟩:=hm i hi;cases hr:w.cells? base (a.add (i*P.cellsOf e)) (P.cellsOf e)with
    | none=>simp[hr]at hx
    | some r=>
     rw[hr,zXa]at hx;obtain⟨vas,a1,a2,a3⟩:=ih e r x hs hx;exact⟨vas,λ_=>⟨r,rfl,a1,a2,a3⟩⟩
   ·exact⟨[],λh=>absurd h hi⟩
  obtain⟨g,hg⟩:=Classical.axiomOfChoice each;have hg:∀i,i<len->∃r,w.cells? base (a.add (i*P.cellsOf e)) (P.cellsOf e)=some r/\A5 (NB w) (g i) r/\(∀c∈g i,BI c=true)/\Shp P f e (g i):=hg;have hsp:a.spot=none:=by
   obtain⟨r,h1,_⟩:=hg 0 (by omega);obtain⟨h2,h3⟩:=Nu h1;have h4:=h3 0 hpos;have h5:(a.add (0*P.cellsOf e)).add 0=a:=by simp[Addr.add]
   rw[h5,VO (by omega)]at h4;unfold World.cell? at h4;split at h4
   ·split at h4
    ·cases h4
    ·rename_i hh;simpa using hh
   ·cases h4
  obtain⟨b,o,sp⟩:=a;simp only at hsp;subst hsp;have dK:∀i j,((⟨b,o,none⟩:Addr).add (i*P.cellsOf e)).add j=⟨b,o+(i*P.cellsOf e+j),none⟩:=λi j=>by rw[CX,CX,WD]
  refine⟨(List.range len).map g,.no,?_,rfl,by simp,λx hx=>?_⟩
  ·have hl:((List.range len).map g).length=len:=by simp
   have key:=Ay.sl (E:=NB w) (es:=(List.range len).map g) (tk:=.no) (b:=b) (o:=o) (s:=P.cellsOf e) (cap:=cap) (λi j=>(w.cell? ⟨b,o+(i*P.cellsOf e+j),none⟩).getD default)
    (λi x hx=>?_) (λi j hi hj=>?_) (λi x j c hx hc=>?_) (λi x j c hx hc=>?_) (by rw[hl];exact hc) trivial
   ·rw[hl]at key;exact key
   ·have hi:i<len:=by have:=(VP.1 hx).1;simpa using this
    rw[Wp,WK hi]at hx;simp at hx;subst hx;obtain⟨r,h1,h2,_⟩:=hg i hi;rw[h2.1,(Nu h1).1]
   ·rw[hl]at hi;obtain⟨r,h1,h2,_⟩:=hg i hi;obtain⟨h3,h4⟩:=Nu h1;have h5:=h4 j hj;rw[dK]at h5;rw[Env0_I,h5,VO (by omega)];rfl
   ·have hi:i<len:=by have:=(VP.1 hx).1;simpa using this
    rw[Wp,WK hi]at hx;simp at hx;subst hx;obtain⟨r,h1,h2,h6,_⟩:=hg i hi;exact h6 c (Wr hc)
   ·have hi:i<len:=by have:=(VP.1 hx).1;simpa using this
    rw[Wp,WK hi]at hx;simp at hx;subst hx;obtain⟨r,h1,h2,h6,_⟩:=hg i hi;obtain⟨h3,h4⟩:=Nu h1;have hj:j<P.cellsOf e:=by have:=(VP.1 hc).1;rw[h2.1,h3]at this;exact this
    have h5:=h4 j hj;rw[dK]at h5;refine h2.2 j c _ hc ?_;rw[<-h5,h5,VO (by omega)];rfl
  ·simp only[Xj,X1]at hx;obtain⟨i,hi,rfl⟩:=hx;obtain⟨r,_,_,_,h7⟩:=hg i hi;exact h7
theorem O1 {E:Env}{x:Ab}{v:Value}(h:Ay E x v):A5 E [x] [v]:=.cons h (.nil _)
theorem U4:∀(f fuel:Nat),OpenAt enc P w base spare held f fuel
 | 0,_=>λt cs x hs _=>by simp[Rk]at hs
 | _+1,0=>λt cs x _ h=>by simp[DataW.trod]at h
 | f+1,fuel+1=>λt cs x hs h=>by
  have ih:=U4 f fuel;unfold Rk at hs;unfold Shp;cases hu:P.underlying t with
  | none=>rw[hu]at hs;cases hs
  | some td=>
   rw[hu]at hs;unfold DataW.trod at h;rw[hu]at h;cases td with
   | bool=>
    simp only at h;split at h
    all_goals first | (rename_i hq;cases hq;done) | skip
    all_goals first | (cases h;done) | skip
    ·rename_i b hq;exact⟨[.bool b],O1 (.bool b),λc hc=>by simp at hc;subst hc;rfl,b,rfl⟩
   | int k=>
    simp only at h;split at h
    all_goals first | (rename_i hq;cases hq;done) | skip
    all_goals first | (cases h;done) | skip
    ·rename_i k2 k' n heq;cases heq;split at h
     ·rename_i hc;obtain⟨rfl,hw⟩:=hc;exact⟨[.int _ _],O1 (.int _ _),λc hc=>by simp at hc;subst hc;rfl,_,rfl,hw⟩
     ·cases h
   | string=>
    simp only at h;split at h
    all_goals first | (rename_i hq;cases hq;done) | skip
    all_goals first | (cases h;done) | skip
    ·rename_i s heq;split at h
     ·rename_i hc;have e:Ay (NB w) (.str s.data.toList) (.string s):=by
       have e:s=⟨s.data.toList.toArray⟩:=by cases s;simp
       rw[e];exact .str _
      refine⟨[.str s.data.toList],O1 e,λc hc=>by simp at hc;subst hc;rfl,_,rfl,hc⟩
     ·cases h
   | slice e=>
    simp only[Wc,zXe]at hs;simp only at h;split at h
    all_goals first | (rename_i hq;cases hq;done) | skip
    all_goals first | (cases h;done) | skip
    ·exact⟨[.sl [] .no],O1 (.sl0 trivial (λ_=>rfl)),λc hc=>by simp at hc;subst hc;rfl,[],rfl,Wv _,λx hx=>by cases hx⟩
    ·rename_i e2 a len cap heq;cases heq;split at h
     ·rename_i hc;obtain⟨h1,h2,h3⟩:=hc;cases hm:(List.range len).mapM λi=>(w.cells? base (a.add (i*P.cellsOf e)) (P.cellsOf e)).bind (DataW.trod enc P w base spare held fuel e)with
      | none=>rw[hm]at h;cases h
      | some elems=>
       obtain⟨es,tk,k1,rfl,k2,k3⟩:=open_row ih hs.1 hs.2 a len cap h2 (λi hi=>SM hm i (by simpa using hi));exact⟨[.sl es .no],O1 k1,λc hc=>by simp at hc;subst hc;rfl,es,rfl,by omega,k3⟩
     ·cases h
   | struct fs=>
    simp only[Wc]at hs;simp only at h;split at h
    ·rename_i hc;cases hm:fs.toList.mapM λfd=>DataW.trod enc P w base spare held fuel fd.type ((cs.drop fd.offset).take (P.cellsOf fd.type))with
     | none=>rw[hm]at h;cases h
     | some xs=>
      obtain⟨ps,b1,b2,b3,b4⟩:=QN ih cs fs.toList 0 xs (by rw[hc];exact hs.1) hs.2 hm (λ_ _ _ _ _=>trivial);exact⟨ps.flatten,by simpa using b1,b2,ps,rfl,b3,b4⟩
    ·cases h
   | array n e=>
    simp only[Wc,zXe]at hs;simp only at h;split at h
    ·rename_i hc;cases hm:(List.range n).mapM λi=>DataW.trod enc P w base spare held fuel e ((cs.drop (i*P.cellsOf e)).take (P.cellsOf e))with
     | none=>rw[hm]at h;cases h
     | some xs=>
      obtain⟨ps,b1,b2,b3,b4⟩:=SF ih hs.2 cs n 0 n (by omega) (by rw[hc];exact hs.1) (λj hj=>SM hm j (by simpa using hj));exact⟨ps.flatten,by simpa using b1,b2,ps,rfl,b3,b4⟩
    ·cases h
   | _=>cases hs
theorem arg_one {r:Reach}{b0 f:Nat}{t:TypeId}{v:Value}{d:DataW H}{ps:List MemPlace}(hs:Rk P f t=true)(bB:Value.okWide P w r b0 t v)(hd:DataW.Trod enc P w base spare held t v d ps)
  (hu:(match P.underlying t with | some (.slice _)=>true | some (.int _)=>true | some .string=>true | some .bool=>true | _=>false)=true):∃x,Ay (NB w) x v/\Shp P f t [x]:=by
 obtain⟨fuel,hf⟩:=hd;have hc:v.cells.toList=[v]:=by
  unfold Value.okWide Cell.okWide Cell.ok at bB;cases hx:P.underlying t with
  | none=>rw[hx]at hu;cases hu
  | some td=>
   rw[hx]at hu bB;cases td <;> first | (cases hu;done) | skip
   all_goals (cases v <;> first | (simp[Value.cells];done) | (simp at bB;done) | (exact bB.elim;done))
 rw[hc]at hf;obtain⟨vas,a1,a2,a3⟩:=U4 f fuel t [v] _ hs hf;have hl:=a1.1
 match vas,hl with
 | [x],_=>exact⟨x,a1.2 0 x v rfl rfl,a3⟩
theorem arg_row {r:Reach}{b0 f:Nat}{t e:TypeId}{v:Value}{d:DataW H}{ps:List MemPlace}(hu:P.underlying t=some (.slice e))(hs:Rk P (f+1) t=true)(bB:Value.okWide P w r b0 t v)(hd:DataW.Trod enc P w base spare held t v d ps) :
  ∃es,Ay (NB w) (.sl es .no) v/\(∀x∈es,Shp P f e x)/\es.length<=maxLen/\(es=[]\/∃elems spare,d=.slice elems spare/\elems.length=es.length):=by
 obtain⟨x,h1,h2⟩:=arg_one hs bB hd (by rw[hu]);unfold Shp at h2;rw[hu]at h2;obtain⟨es,h3,h4,h5⟩:=h2;injection h3 with h3 _;subst h3;refine⟨es,h1,h5,h4,?_⟩;obtain⟨fuel,hf⟩:=hd;cases fuel with
 | zero=>simp[DataW.trod]at hf
 | succ fuel=>
  unfold DataW.trod at hf;rw[hu]at hf;cases h1 with
  | sl0 _ _=>exact .inl rfl
  | sl fv hl hI hm hv hc ht=>
   rename_i b o s cap;right;have e1:(Value.slice (some ⟨b,o,none⟩) es.length cap).cells.toList=[.slice (some ⟨b,o,none⟩) es.length cap]:=rfl;rw[e1]at hf;simp only at hf;split at hf
   ·cases uW:(List.range es.length).mapM λi=>(w.cells? base (Addr.add ⟨b,o,none⟩ (i*P.cellsOf e)) (P.cellsOf e)).bind (DataW.trod enc P w base spare held fuel e)with
    | none=>rw[uW]at hf;cases hf
    | some elems=>
     rw[uW,zXa]at hf;obtain⟨q1,_⟩:=SN uW;rw[XZ]at hf;obtain⟨rest,_,hf⟩:=hf;injection hf with hf _;exact⟨_,_,hf.symm,by simpa using q1⟩
   ·cases hf

end
section
variable {P:Program}{f:Nat}{t e:TypeId}{vas:List Ab}
theorem shp_int {k:IntKind}(hu:P.underlying t=some (.int k))(h:Shp P (f+1) t vas):∃n,vas=[.int k n]/\(Lit.int k n).wf=true:=by
 unfold Shp at h;rw[hu]at h;exact h
theorem shp_bool (hu:P.underlying t=some .bool)(h:Shp P (f+1) t vas):∃b,vas=[.bool b]:=by
 unfold Shp at h;rw[hu]at h;exact h
theorem shp_sl (hu:P.underlying t=some (.slice e))(h:Shp P (f+1) t vas):∃es,vas=[.sl es .no]/\es.length<=maxLen/\∀x∈es,Shp P f e x:=by
 unfold Shp at h;rw[hu]at h;exact h
theorem shp_st {fs:Array Field}(hu:P.underlying t=some (.struct fs))(h:Shp P (f+1) t vas):∃ps:List (List Ab),vas=ps.flatten/\ps.length=fs.toList.length/\∀(i:Nat) (fd:Field) (p:List Ab),fs.toList[i]? = some fd->ps[i]? = some p->Shp P f fd.type p:=by
 unfold Shp at h;rw[hu]at h;exact h
theorem wf_b {k:IntKind}{n:Int}(h:(Lit.int k n).wf=true):k.min<=n/\n<=k.max:=by
 simp only[Lit.wf,Wc,zXe]at h;exact h
theorem wf_u32 {n:Int}(h:(Lit.int .u32 n).wf=true):0<=n/\n<4294967296:=by
 have h1:=wf_b h;rw[show IntKind.u32.min=0 from rfl,show IntKind.u32.max=4294967295 from rfl]at h1;omega
theorem wf_u8 {n:Int}(h:(Lit.int .u8 n).wf=true):0<=n/\n<256:=by
 have h1:=wf_b h;rw[show IntKind.u8.min=0 from rfl,show IntKind.u8.max=255 from rfl]at h1;omega
theorem rows_of {α:Type}{g:α->List Ab}{p:α->Prop}:∀ {es:List (List Ab)},(∀x∈es,∃a,x=g a/\p a)->∃l:List α,es=enL g l/\∀a∈l,p a
 | [],_=>⟨[],rfl,λa h=>by cases h⟩
 | x::es,h=>by
  obtain⟨a,rfl,ha⟩:=h x (by simp);obtain⟨l,rfl,hl⟩:=rows_of (g:=g) (p:=p) (es:=es) λy hy=>h y (by simp[hy]);exact⟨a::l,rfl,λb hb=>by rcases WG.1 hb with rfl | hb;exact ha;exact hl b hb⟩
theorem shp_limbs (h1:P.underlying t=some (.slice e))(h2:P.underlying e=some (.int .u32))(h:Shp P (f+2) t vas):∃l:List Nat,vas=[.sl (enL cU l) .no]/\Lim l/\l.length<=maxLen:=by
 obtain⟨es,rfl,hl,he⟩:=shp_sl h1 h;obtain⟨l,rfl,hp⟩:=rows_of (g:=cU) (p:=λn=>n<4294967296) (es:=es) λx hx=>by
  obtain⟨n,rfl,hw⟩:=shp_int h2 (he x hx);obtain⟨w1,w2⟩:=wf_u32 hw;exact⟨n.toNat,by show [Ab.int .u32 n]=[Ab.int .u32 (n.toNat:Int)];rw[XD w1],by omega⟩
 exact⟨l,rfl,hp,by simpa using hl⟩
structure BigTy (P:Program)(tb:TypeId):Prop where
 ex:∃(f0 f1:Field) (e:TypeId),P.underlying tb=some (.struct #[f0,f1])/\P.underlying f0.type=some .bool/\P.underlying f1.type=some (.slice e)/\P.underlying e=some (.int .u32)
theorem shp_big {tb:TypeId}(hb:BigTy P tb)(h:Shp P (f+3) tb vas):∃n l,vas=[.bool n,.sl (enL cU l) .no]/\Lim l:=by
 obtain⟨f0,f1,e,h1,h2,h3,h4⟩:=hb.ex;obtain⟨ps,rfl,hl,hp⟩:=shp_st h1 h
 match ps,hl with
 | [p0,p1],_=>
  obtain⟨n,rfl⟩:=shp_bool h2 (hp 0 f0 p0 rfl rfl);obtain⟨l,rfl,hlim,_⟩:=shp_limbs h3 h4 (hp 1 f1 p1 rfl rfl);exact⟨n,l,rfl,hlim⟩

end
section
variable {P:Program}{f:Nat}{t e:TypeId}{vas:List Ab}
structure CellTy (P:Program)(tc:TypeId):Prop where
 ex:∃(f0 f1 f2:Field),P.underlying tc=some (.struct #[f0,f1,f2])/\BigTy P f0.type/\BigTy P f1.type/\P.underlying f2.type=some (.int .u8)
theorem shp_cell {tc:TypeId}(hc:CellTy P tc)(h:Shp P (f+4) tc vas):∃r:RC,vas=cRC r/\r.lim:=by
 obtain⟨f0,f1,f2,h1,h2,h3,h4⟩:=hc.ex;obtain⟨ps,rfl,hl,hp⟩:=shp_st h1 h
 match ps,hl with
 | [p0,p1,p2],_=>
  obtain⟨n1,l1,rfl,k1⟩:=shp_big h2 (hp 0 f0 p0 rfl rfl);obtain⟨n2,l2,rfl,k2⟩:=shp_big h3 (hp 1 f1 p1 rfl rfl);obtain⟨s,rfl,hw⟩:=shp_int h4 (hp 2 f2 p2 rfl rfl);obtain⟨w1,w2⟩:=wf_u8 hw;refine⟨⟨n1,l1,n2,l2,UInt8.ofNat s.toNat⟩,?_,k1,k2⟩;have e:((UInt8.ofNat s.toNat).toNat:Int)=s:=by
   rw[Xu (show s.toNat<256 by omega)];omega
  unfold cRC;dsimp only;rw[e];rfl
theorem UD {tc:TypeId}(hc:CellTy P tc){es:List (List Ab)}(h:∀x∈es,Shp P (f+4) tc x):∃l:List RC,es=enL cRC l/\∀r∈l,r.lim:=
 rows_of λx hx=>shp_cell hc (h x hx)

end
end Go.Gm
