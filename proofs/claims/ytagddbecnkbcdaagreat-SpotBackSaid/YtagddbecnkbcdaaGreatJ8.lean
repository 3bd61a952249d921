/- Texts of this proof, joined. -/
import Derived.Test.YtagddbecnkbcdaaGreatJ2
import Derived.Test.YtagddbecnkbcdaaGreatJ3
import Derived.Test.YtagddbecnkbcdaaGreatJ5
import Derived.Test.YtagddbecnkbcdaaGreatJ6
import Derived.Test.YtagddbecnkbcdaaGreatJ7
set_option linter.unusedVariables false
set_option linter.unusedSimpArgs false
namespace Go.Gm
def dupAt (l:List Cl) (k:Nat):Bool:=match l[k]?,l[k-1]? with
 | some a,some b=>B2 ltC a b
 | _,_=>false
theorem dupAt_eq {l:List Cl} {k:Nat} (hk:k<l.length) (hk1:k-1<l.length):dupAt l k=B2 ltC l[k] l[k-1]:=by
 unfold dupAt
 rw [UU hk,UU hk1]
section
variable {p g:Nat} {l:List Cl} {H:Aa} {r:List Ab} {f:Ab}
theorem p_compact (hf:∀c∈l,∀d∈l,∀H,D3 AL f [.agg (cCl c),.agg (cCl d)] H=some (.ret (.bool (B2 ltC c d)),H))
  (h:CO H p g l) (hl:l.length<1000000000) :
  ∃G r,Sh.f14 (dV p g l.length) f H=some (.ret (.ms p g 0 (cpL ltC l).length l.length 5 false),G)∧RwT G p g (cpL ltC l) r∧(∀i,i≠p→G[i]? = H[i]?)∧G.length=H.length:=by
 have hln:A5 (dV p g l.length)=some (.int .i64 (l.length:Int)):=rfl
 have hsnoc:∀m (hm1:1≤m) (hm:m<l.length),cpL ltC (l.take (m+1))=if B2 ltC l[m] (l[m-1]'(by omega))then cpL ltC (l.take m)else cpL ltC (l.take m)++[l[m]]:=fun m hm1 hm=>by
  obtain ⟨j,rfl⟩:∃j,m=j+1:=⟨m-1,by omega⟩
  have:=cpL_snoc ltC l[j+1] (l.take j) (l[j]'(by omega))
  rw [←Vf (by omega:j<l.length),←Vf hm]at this
  exact this
 unfold Sh.f14
 by_cases h2:l.length<2
 ·have d2:decide ((l.length:Int)<2)=true:=decide_eq_true (by omega)
  have e:cpL ltC l=l:=by
   match l,h2 with
   | [],_=>rfl
   | [c],_=>rfl
   | _::_::_,h2=>simp only [List.length_cons]at h2;omega
  refine ⟨H,[],?_,by rw [e];exact h.t,fun _ _=>rfl,rfl⟩
  simp only [hln,GMb,GMc,d2,DY,forget,Eh,fgt]
  rw [e]
 ·have d2:decide ((l.length:Int)<2)=false:=decide_eq_false (by omega)
  have key:=Ed (G:=fun rec1 vs H1=>Sh.f2a H rec1 (ag vs 0) (ag vs 1) (ag vs 2) H1) (σ:=Nat)
   (fun k vs H1=>(1≤k∧k≤l.length∧cpL ltC (l.take k)=l.take k)∧vs=[dV p g l.length,f,.int .i64 (k:Int)]∧H1=H) (fun k=>l.length-k) (fun k=>k<l.length→dupAt l k=true) (fun k vs H1 hI hd=>?_)
   (s:=1) (vs:=[dV p g l.length,f,.int .i64 1]) (H:=H) ⟨⟨Va _,by omega,by
    cases l with
    | nil=>simp at h2
    | cons c l=>rfl⟩,rfl,rfl⟩ (by omega)
  ·obtain ⟨k,vs,H1,hd,⟨⟨i1,i2,i3⟩,rfl,rfl⟩,rec,hloop⟩:=key
   simp only [hln,GMb,GMc,d2]
   rw [hloop]
   by_cases hk:k<l.length
   ·have hk1:k-1<l.length:=by omega
    have hdd:=hd hk
    rw [dupAt_eq hk hk1]at hdd
    obtain ⟨G,r,g1,g2,g3,g4⟩:=compact_l2 (H0:=H1) hf h i1 hk i3 hdd hl
    refine ⟨G,r,?_,g2,g3,g4⟩
    have d1:decide ((k:Int)<(l.length:Int))=true:=decide_eq_true (by omega)
    have hw1:IntKind.i64.wrap ((k:Int)-1)=((k-1:Nat):Int):=by rw [An] <;> omega
    have c1:=hf l[k] (Vi hk) l[k-1] (Vi hk1)
    rw [hdd]at c1
    have s1:Bv 5 (dV p g l.length) (some (.int .i64 (k:Int))) none none=some (.ms p g (k*5) (l.length-k) (l.length-k) 5 false):=by
     have:k≤l.length:=by omega
     simp [Bv,Bq,this]
    unfold Sh.f2a
    simp only [Ak,Ai,Bc,Bg,GMb,GMc,hln,d1,hw1,BQ hk,BQ (show k-1<l.length by omega),Cv h hk,Cv h (show k-1<l.length by omega),BR,c1,s1]
    exact g1
   ·have d1:decide ((k:Int)<(l.length:Int))=false:=decide_eq_false (by omega)
    have e:cpL ltC l=l:=by
     rw [Vg (by omega)]at i3;exact i3
    refine ⟨H1,[],?_,by rw [e];exact h.t,fun _ _=>rfl,rfl⟩
    unfold Sh.f2a
    simp only [Ak,Ai,Bc,Bg,GMb,GMc,hln,d1,DY,forget,Eh,fgt]
    rw [e]
  ·obtain ⟨⟨i1,i2,i3⟩,rfl,rfl⟩:=hI
   have hk:k<l.length:=by
    rcases VH k l.length with q | q
    ·exact q
    ·exact absurd (fun hk=>absurd hk (by omega)) hd
   have hk1:k-1<l.length:=by omega
   have he:B2 ltC l[k] l[k-1]=false:=by
    cases e:B2 ltC l[k] l[k-1]with
    | false=>rfl
    | true=>exact absurd (fun _=>by rw [dupAt_eq hk hk1];exact e) hd
   have d1:decide ((k:Int)<(l.length:Int))=true:=decide_eq_true (by omega)
   have hw1:IntKind.i64.wrap ((k:Int)-1)=((k-1:Nat):Int):=by rw [An] <;> omega
   have hw2:=Aw (show k<9223372036854775807 by omega)
   have c1:=hf l[k] (Vi hk) l[k-1] (Vi hk1)
   rw [he]at c1
   refine ⟨k+1,_,_,by omega,⟨⟨by omega,hk,by rw [hsnoc k i1 hk,if_neg (by rw [he];decide),i3,Vf hk]⟩,rfl,rfl⟩,fun rec=>?_⟩
   unfold Sh.f2a
   simp only [Ak,Ai,Bc,Bg,GMb,GMc,hln,d1,hw1,BQ hk,BQ (show k-1<l.length by omega),Cv h hk,Cv h (show k-1<l.length by omega),BR,c1,hw2]
theorem R6 (h:RwT H p g l r):A8 H p g=some (flat cCl l++r):=by
 unfold RwT at h
 simp [A8,h]
theorem row_ldT {i:Nat} (h:RwT H p g l r) (hi:i<l.length):Ac true 5 (.ptr p g (i*5)) H=some (.agg (cCl l[i])):=by
 have h1:=Ks (f:=cCl) (sz:=5) hi
 have h2:=Rb (f:=cCl) (sz:=5) hi
 have h3:((flat cCl l++r).drop (i*5)).take 5=cCl l[i]:=by
  rw [WO (by omega),W5 (by rw [Vx];omega),h2]
 simp only [Ac,R6 h,Option.bind_some,if_true,h3]
 rw [if_pos (by rw [Vc];omega)]
theorem row_stT {i:Nat} (h:RwT H p g l r) (hi:i<l.length) (a:Cl):∃G,Ag 5 (.ptr p g (i*5)) (.agg (cCl a)) H=some G∧RwT G p g (l.set i a) r∧(∀i,i≠p→G[i]? = H[i]?)∧G.length=H.length:=by
 have hpl:p<H.length:=(UV.1 h).1
 have h1:=Ks (f:=cCl) (sz:=5) hi
 have hs:=Sv (f:=cCl) (sz:=5) (a:=a) hi
 have hset:∀cs,Fv H p g cs=H.set p (.buf g cs A6 5):=fun cs=>by
  unfold RwT at h;unfold Fv;rw [h]
 have hp:Dp (flat cCl l++r) (i*5) 5 (cCl a)=flat cCl (l.set i a)++r:=by
  rw [←hs]
  unfold Dp
  rw [W5 (by omega),WO (by omega)]
  simp only [Vb]
 refine ⟨H.set p (.buf g (flat cCl (l.set i a)++r) A6 5),?_,?_,fun j hj=>by rw [UX (Ne.symm hj)],by rw [VA]⟩
 ·simp only [Ag,R6 h,Option.bind_some,MW,show (cCl a).length=5 from rfl]
  rw [if_pos ⟨trivial,by rw [Vc];omega⟩,hset,hp]
 ·unfold RwT
  rw [Vj hpl]
theorem RwT.push (h:RwT H p g l r) (G:Aa):RwT (H++G) p g l r:=by
 have hpl:p<H.length:=(UV.1 h).1
 unfold RwT at h ⊢
 rw [UW hpl];exact h
def z0 (c:Cl):Bool:=decide (c.s=0)
theorem index_z {cap:Nat} (hf:∀c∈l,∀H,D3 AG f [.agg (cCl c)] H=some (.ret (.bool (z0 c)),H)) (h:RwT H p g l r) (hl:l.length<1000000000) :
  Sh.fa (.ms p g 0 l.length cap 5 false) f H=some (.ret (.int .i64 (match l.findIdx? z0 with | some i=>(i:Int) | none=>-1)),H):=by
 have hln:A5 (.ms p g 0 l.length cap 5 false)=some (.int .i64 (l.length:Int)):=rfl
 unfold Sh.fa
 simp only [hln,GMb,GMc]
 have key:=Br (G:=fun rec1 vs H1=>Sh.fj H rec1 (ag vs 0) (ag vs 1) (ag vs 2) (ag vs 3) H1) (σ:=Nat) (fun i=>i≤l.length∧(l.take i).findIdx? z0=none)
  (fun i=>[.ms p g 0 l.length cap 5 false,f,.int .i64 (l.length:Int),.int .i64 (i:Int)]) (fun _=>H) (fun i=>l.length-i) (fun _=>some (.ret (.int .i64 (match l.findIdx? z0 with | some i=>(i:Int) | none=>-1)),H)) (fun i rec hi hrec=>?_) 0 ⟨Vy _,rfl⟩ (by omega)
 ·exact key
 ·obtain ⟨h1,h2⟩:=hi
  unfold Sh.fj
  by_cases hi:i<l.length
  ·have d1:decide ((i:Int)<(l.length:Int))=true:=decide_eq_true (by omega)
   have x1:At 5 (.ms p g 0 l.length cap 5 false) (.int .i64 (i:Int))=some (.ptr p g (i*5)):=by rw [CB hi,UY]
   have hwi:=Aw (show i<9223372036854775807 by omega)
   have c1:=hf l[i] (Vi hi)
   cases hz:z0 l[i]with
   | true=>
    rw [hz]at c1
    have:l.findIdx? z0=some i:=by
     rw [Xj]
     refine ⟨hi,hz,fun j hj=>?_⟩
     rw [XD]at h2
     have:=h2 l[j] (by rw [List.mem_take_iff_getElem];exact ⟨j,by omega,rfl⟩)
     simpa using this
    simp only [Ak,Ai,Bc,Bg,Bw,GMb,GMc,d1,x1,row_ldT h hi,c1,this]
   | false=>
    rw [hz]at c1
    simp only [Ak,Ai,Bc,Bg,Bw,GMb,GMc,d1,x1,row_ldT h hi,c1,hwi]
    refine hrec (i+1) ⟨hi,?_⟩ (by omega)
    rw [Vf hi,List.findIdx?_append,h2]
    simp [hz]
  ·have d1:decide ((i:Int)<(l.length:Int))=false:=decide_eq_false (by omega)
   rw [Vg (by omega)]at h2
   simp only [Ak,Ai,Bc,Bg,Bw,GMb,GMc,d1,h2]

end
theorem fall_msX {α:Type} {f:α→List Ab} {sz:Nat} [hf:Sz f sz] [hp:Pl f] {H:Aa} {l:List α} {r:List Ab} {id b d cap:Nat} {ex:Bool} (hg:A8 H id 0=some (flat f l++r)) (hi:b≤id):GL H b (d+3) (.ms id 0 0 l.length cap sz ex)=some (.sl (enL f l) .no):=by
 have h1:¬id<b:=by omega
 have h2:l.length*sz≤(flat f l++r).length:=by rw [Vc,F4];omega
 have h3:(flat f l++r).take (l.length*sz)=flat f l:=by rw [←F4 (f:=f) (sz:=sz) l,Xk]
 unfold GL
 simp only [frz,h1,if_false,hg,Option.bind_some,WB,UY,h2,if_true,h3,GJ (MQ (f:=f) l),O1 (f:=f) l,Mb,Option.map_some,forget,Eh,fgt]
section
variable {p g:Nat} {l:List Cl} {H:Aa} {r:List Ab} {f:Ab}
def kp (c:Cl):Bool:=decide (c.s≠0)
theorem kp_z (c:Cl):kp c = !z0 c:=by unfold kp z0;by_cases h:c.s=0 <;> simp [h]
theorem p_delete {cap:Nat} (hf:∀c∈l,∀H,D3 AG f [.agg (cCl c)] H=some (.ret (.bool (z0 c)),H)) (hf2:∀c∈l,∀H,D3 Bd f [.agg (cCl c)] H=some (.ret (.bool (z0 c)),H))
  (h:RwT H p g l r) (hc:l.length≤cap) (hl:cap<1000000000) :
  ∃G r',Sh.f15 (.ms p g 0 l.length cap 5 false) f H=some (.ret (.ms p g 0 (l.filter kp).length cap 5 false),G)∧RwT G p g (l.filter kp) r'∧(∀i,i<H.length→i≠p→G[i]? = H[i]?)∧H.length≤G.length:=by
 have hix:=index_z (cap:=cap) hf h (by omega)
 have hln:A5 (.ms p g 0 l.length cap 5 false)=some (.int .i64 (l.length:Int)):=rfl
 unfold Sh.f15
 cases hfi:l.findIdx? z0 with
 | none=>
  rw [hfi]at hix
  have e:l.filter kp=l:=by
   rw [XV]
   intro c hc
   rw [XD]at hfi
   rw [kp_z,hfi c hc];rfl
  refine ⟨H,r,?_,by rw [e];exact h,fun _ _ _=>rfl,Va _⟩
  have hb:((-1:Int) == -1)=true:=rfl
  simp only [GMb,GMc,hix,hb,DY,forget,Eh,fgt]
  rw [e]
 | some i0=>
  rw [hfi]at hix
  rw [Xj]at hfi
  obtain ⟨hi0,hz0,hless⟩:=hfi
  have hb:(((i0:Nat):Int) == -1)=false:=by rw [beq_eq_false_iff_ne];omega
  have hw0:=Aw (show i0<9223372036854775807 by omega)
  have ef:(l.take (i0+1)).filter kp=l.take i0:=by
   rw [Vf hi0,VJ]
   have e1:(l.take i0).filter kp=l.take i0:=by
    rw [XV]
    intro c hc
    rw [List.mem_take_iff_getElem]at hc
    obtain ⟨j,hj,rfl⟩:=hc
    rw [kp_z]
    have:=hless j (by omega)
    simpa using this
   have e2:[l[i0]].filter kp=[]:=by simp [VY,kp_z,hz0]
   rw [e1,e2,V3]
  have key:=Ed (G:=fun rec1 vs H1=>Sh.f2b H rec1 (ag vs 0) (ag vs 1) (ag vs 2) (ag vs 3) H1) (σ:=Nat×List Cl)
   (fun s vs K=>(i0+1≤s.1∧s.1≤l.length∧s.2.length=l.length∧((l.take s.1).filter kp).length<s.1∧s.2.take ((l.take s.1).filter kp).length=(l.take s.1).filter kp∧s.2.drop s.1=l.drop s.1) ∧
    (RwT K p g s.2 r∧(∀i,i<H.length→i≠p→K[i]? = H[i]?)∧H.length≤K.length)∧vs=[.ms p g 0 l.length cap 5 false,f,.int .i64 (((l.take s.1).filter kp).length:Int),.int .i64 (s.1:Int)]) (fun s=>l.length-s.1) (fun s=>¬s.1<l.length) (fun s vs K hI hd=>?_)
   (s:=(i0+1,l)) (vs:=[.ms p g 0 l.length cap 5 false,f,.int .i64 (i0:Int),.int .i64 ((i0+1:Nat):Int)]) (H:=H)
   (by
    have e2:(l.take i0).length=i0:=by rw [Vm];omega
    dsimp only
    rw [ef,e2]
    exact ⟨⟨Va _,hi0,rfl,by omega,rfl,rfl⟩,⟨h,fun _ _ _=>rfl,Va _⟩,rfl⟩) (by dsimp only;omega)
  ·obtain ⟨⟨j,L⟩,vs,K,hd,⟨⟨i1,i2,i3,i4,i5,i6⟩,⟨k1,k2,k3⟩,rfl⟩,rec,hloop⟩:=key
   dsimp only at i1 i2 i3 i4 i5 i6 k1 hd hloop
   have ej:j=l.length:=by omega
   subst ej
   rw [Vg (Va _)]at i4 i5 hloop
   obtain ⟨G,r',g1,g2,g3,g4⟩:=TT (k:=(l.filter kp).length) k1 (by omega)
   rw [i3]at g1
   rw [i5]at g2
   have d1:decide ((l.length:Int)<(l.length:Int))=false:=decide_eq_false (by omega)
   have s1:Bv 5 (.ms p g 0 l.length cap 5 false) (some (.int .i64 ((l.filter kp).length:Int))) none none=some (.ms p g ((l.filter kp).length*5) (l.length-(l.filter kp).length) (cap-(l.filter kp).length) 5 false):=by
    have:(l.filter kp).length≤l.length:=by omega
    simp [Bv,Bq,this,hc]
   have s2:Bv 5 (.ms p g 0 l.length cap 5 false) none (some (.int .i64 ((l.filter kp).length:Int))) none=some (.ms p g 0 (l.filter kp).length cap 5 false):=by
    have:(l.filter kp).length≤cap:=by omega
    simp [Bv,Bq,this]
   have g1':Kx 5 (some zCl) (.ms p g ((l.filter kp).length*5) (l.length-(l.filter kp).length) (cap-(l.filter kp).length) 5 false) K=some G:=g1
   refine ⟨G,r',?_,g2,fun i hi hne=>by rw [g3 i hne];exact k2 i hi hne,by omega⟩
   simp only [GMb,GMc,hix,hb,hw0]
   rw [hloop]
   unfold Sh.f2b
   simp only [Ak,Ai,Bc,Bg,Bw,GMb,GMc,hln,d1,s1,s2]
   rw [show [Ab.bool false,.sl [] .tight,.bool false,.sl [] .tight,.int .u8 0]=zCl from rfl,g1']
   simp only [GMb,GMc,AV,DY,forget,Eh,fgt]
  ·obtain ⟨j,L⟩:=s
   obtain ⟨⟨i1,i2,i3,i4,i5,i6⟩,⟨k1,k2,k3⟩,rfl⟩:=hI
   dsimp only at i1 i2 i3 i4 i5 i6 k1 hd ⊢
   have hj:j<l.length:=by omega
   have hLj:j<L.length:=by omega
   have ej:L[j]=l[j]:=by
    have:=congrArg (fun x=>x[0]?) i6
    simp only [VB,Nat.add_zero]at this
    rw [UU hLj,UU hj]at this
    exact WG this
   have edr:L.drop (j+1)=l.drop (j+1):=by
    have:=congrArg (List.drop 1) i6
    rw [Wf,Wf]at this
    exact this
   have d1:decide ((j:Int)<(l.length:Int))=true:=decide_eq_true (by omega)
   have x1:At 5 (.ms p g 0 l.length cap 5 false) (.int .i64 (j:Int))=some (.ptr p g (j*5)):=by rw [CB hj,UY]
   have hwj:=Aw (show j<9223372036854775807 by omega)
   have ld:=row_ldT k1 hLj
   rw [ej]at ld
   have al:Az (some [.bool false,.sl [] .tight,.bool false,.sl [] .tight,.int .u8 0]) K=some (.ptr K.length 0 0,K++[.cel 0 zCl]):=alloc_eq rfl
   have stv:Ag 5 (.ptr K.length 0 0) (.agg (cCl l[j])) (K++[.cel 0 zCl])=some (K++[.cel 0 (cCl l[j])]):=by
    simp only [Ag,AA Ap,Option.bind_some,MW,show (cCl l[j]).length=5 from rfl]
    rw [if_pos ⟨trivial,by simp [zCl]⟩,B9 Ap,Bh]
    rfl
   have ldv:Ac true 5 (.ptr K.length 0 0) (K++[.cel 0 (cCl l[j])])=some (.agg (cCl l[j])):=by
    simp only [Ac,AA Ap,Option.bind_some];rfl
   have c1:=hf2 l[j] (Vi hj)
   have kr:=k1.push [.cel 0 (cCl l[j])]
   have hsn:(l.take (j+1)).filter kp=(l.take j).filter kp++[l[j]].filter kp:=by rw [Vf hj,VJ]
   cases hz:z0 l[j]with
   | true=>
    have e0:[l[j]].filter kp=[]:=by simp [VY,kp_z,hz]
    rw [e0,V3]at hsn
    rw [hz]at c1
    refine ⟨(j+1,L),_,K++[.cel 0 (cCl l[j])],by dsimp only;omega,⟨⟨by dsimp only;omega,hj,i3,by dsimp only;rw [hsn];omega,by dsimp only;rw [hsn];exact i5,edr⟩,⟨kr,fun i hi hne=>by rw [UW (by omega)];exact k2 i hi hne,by simp;omega⟩,rfl⟩,fun rec=>?_⟩
    unfold Sh.f2b Sh.f6v
    simp only [Ak,Ai,Bc,Bg,Bw,GMb,GMc,hln,d1,x1,ld,al,stv,ldv,AV,c1,hwj,hsn]
   | false=>
    have e0:[l[j]].filter kp=[l[j]]:=by simp [VY,kp_z,hz]
    rw [e0]at hsn
    rw [hz]at c1
    have hi':((l.take j).filter kp).length<L.length:=by omega
    obtain ⟨G,g1,g2,g3,g4⟩:=row_stT kr hi' l[j]
    have hwi:=Aw (show ((l.take j).filter kp).length<9223372036854775807 by omega)
    have x2:At 5 (.ms p g 0 l.length cap 5 false) (.int .i64 (((l.take j).filter kp).length:Int))=some (.ptr p g (((l.take j).filter kp).length*5)):=by rw [CB (by omega),UY]
    have hGl:G.length=K.length+1:=by rw [g4];simp
    refine ⟨(j+1,L.set ((l.take j).filter kp).length l[j]),_,G,by dsimp only;omega,⟨⟨by dsimp only;omega,hj,by dsimp only;rw [VA];exact i3,by dsimp only;rw [hsn];simp;omega,by
      dsimp only
      rw [hsn,Vc,List.length_singleton,Vf (by rw [VA];omega),XQ,List.take_set_of_le (Va _),i5],by
      dsimp only
      rw [List.drop_set_of_lt (by omega)];exact edr⟩,⟨g2,fun i hi hne=>by rw [g3 i hne,UW (by omega)];exact k2 i hi hne,by omega⟩,rfl⟩,fun rec=>?_⟩
    unfold Sh.f2b Sh.f6v
    simp only [Ak,Ai,Bc,Bg,Bw,GMb,GMc,hln,d1,x1,x2,ld,al,stv,ldv,AV,c1,g1,hwi,hwj,hsn,Vc,List.length_singleton]

end
theorem LY {g:FuncId} {F:List Ab→Aa→Out} {o:Orc} {args:List Ab} {H:Aa}:D3 (ent g F o) (.fn g []) args H=F args H:=by
 unfold D3 ent
 simp only [if_true,V3]
theorem Ri {g g':FuncId} {F:List Ab→Aa→Out} {o:Orc} {args:List Ab} {H:Aa} (h:¬g'=g):D3 (ent g F o) (.fn g' []) args H=D3 o (.fn g' []) args H:=by
 unfold D3 ent
 simp only [h,if_false]
theorem OP (F:Ab→Aa→Out) (a:Ab) (H:Aa):ap1 F [a] H=F a H:=rfl
theorem ap2_two (F:Ab→Ab→Aa→Out) (a b:Ab) (H:Aa):ap2 F [a,b] H=F a b H:=rfl
theorem cmp_ins {l:List Cl} (hok:∀c∈l,c.ok):Ti AB (.fn 144 []) l:=fun c hc d hd K=>by
 unfold AB
 rw [LY,ap2_two]
 exact p_order (hok c hc) (hok d hd) K
theorem cmp_sym {l:List Cl} (hok:∀c∈l,c.ok):T8 (.fn 144 []) l:=fun self c hc d hd K=>by
 unfold Bf
 rw [Ri (by decide),LY,ap2_two]
 exact p_order (hok c hc) (hok d hd) K
theorem p_last1 {c d:Cl} (hc:c.ok) (hd:d.ok) (H:Aa):Sh.f42 (.agg (cCl c)) (.agg (cCl d)) H=some (.ret (.bool (B2 ltC c d)),H):=by
 have e1:(H++[Blk.cel 0 (cCl c)]++[Blk.cel 0 (cCl d)])[H.length]? = some (.cel 0 (cCl c)):=by simp
 have e2:(H++[Blk.cel 0 (cCl c)]++[Blk.cel 0 (cCl d)])[(H++[Blk.cel 0 (cCl c)]).length]? = some (.cel 0 (cCl d)):=Ap
 have ld:∀ {K:Aa} {p:Nat} {x:Cl},K[p]? = some (.cel 0 (cCl x))→Ac true 5 (.ptr p 0 0) K=some (.agg (cCl x)):=fun h=>by
  simp only [Ac,AA h,Option.bind_some];rfl
 have ho:=fun K=>p_order hc hd K
 have fin:∀q:Bool,rP H (.bool q) (H++[Blk.cel 0 (cCl c)]++[Blk.cel 0 (cCl d)])=some (.ret (.bool q),H):=fun q=>FT rfl (by simp)
 have hb:(Ji c d == 0)=B2 ltC c d:=by rw [←Uh];rfl
 unfold Sh.f42
 simp only [GMb,GMc,boxCl,ld e1,ld e2,ho,hb,fin]
theorem QS (c:Cl) (H:Aa):Sh.f24 (.agg (cCl c)) H=some (.ret (.bool (z0 c)),H):=by
 have ld:Ac false 1 (.ptr H.length 0 4) (H++[Blk.cel 0 (cCl c)])=some (.int .u8 (c.s.toNat:Int)):=by
  simp only [Ac,AA Ap,Option.bind_some];rfl
 have fin:∀q:Bool,rP H (.bool q) (H++[Blk.cel 0 (cCl c)])=some (.ret (.bool q),H):=fun q=>FT rfl (by simp)
 have hb:((c.s.toNat:Int) == 0)=z0 c:=by
  unfold z0
  by_cases h:c.s=0
  ·rw [h];rfl
  ·rw [decide_eq_false h,beq_eq_false_iff_ne]
   intro e
   exact h (W8.1 (by simpa using e))
 unfold Sh.f24
 simp only [GMb,GMc,boxCl,Ah,UY,ld,hb,fin]
theorem kp_last (l:List Cl):(CH l).filter kp=AU l:=rfl
theorem eq_cp {l:List Cl} (hok:∀c∈l,c.ok):∀c∈l,∀d∈l,∀H,D3 AL (.fn 146 []) [.agg (cCl c),.agg (cCl d)] H=some (.ret (.bool (B2 ltC c d)),H):=fun c hc d hd K=>by
 unfold AL
 rw [LY,ap2_two]
 exact p_last1 (hok c hc) (hok d hd) K
theorem z_ix (c:Cl) (K:Aa):D3 AG (.fn 148 []) [.agg (cCl c)] K=some (.ret (.bool (z0 c)),K):=by
 unfold AG
 first
  | rw [LY,OP];exact QS c K
  | rw [Ri (by decide),LY,OP];exact QS c K
theorem z_del (c:Cl) (K:Aa):D3 Bd (.fn 148 []) [.agg (cCl c)] K=some (.ret (.bool (z0 c)),K):=by
 unfold Bd
 first
  | rw [LY,OP];exact QS c K
  | rw [Ri (by decide),LY,OP];exact QS c K
theorem last_nil (H:Aa) (f1 f2 f3:Ab):Sh.f1e (.sl [] .tight) H=some (.ret (.tup []),H)∧Sh.f1n (.sl [] .tight) f1 H=some (.ret (.tup []),H) ∧
  Sh.f14 (.sl [] .tight) f2 H=some (.ret (.sl [] .no),H)∧Sh.f15 (.sl [] .no) f3 H=some (.ret (.sl [] .no),H):=by
 have hl:∀tk,A5 (.sl [] tk)=some (.int .i64 0):=fun _=>rfl
 have w1:IntKind.i64.wrap (0-1) = -1:=rfl
 have w2:IntKind.i64.wrap (0+1)=1:=rfl
 have d1:decide ((0:Int) < -1)=false:=rfl
 have d2:decide ((20:Int)≤0)=false:=rfl
 have d3:decide ((1:Int)<0)=false:=rfl
 have d4:decide ((20:Int)<0)=false:=rfl
 have d5:decide ((0:Int)<2)=true:=rfl
 have d6:decide ((0:Int)<0)=false:=rfl
 have hins:Sh.fk (.sl [] .tight) (.int .i64 0) (.int .i64 0) f1 H=some (.ret (.tup []),H):=by
  unfold Sh.fk
  simp only [GMb,GMc,w2]
  rw [DI EK]
  unfold Sh.f3y
  simp only [Ak,Ai,Bc,Bg,Bw,BG,GMb,GMc,d3]
 have hst:Sh.f1m (.sl [] .tight) (.int .i64 0) f1 H=some (.ret (.tup []),H):=by
  unfold Sh.f1m
  rw [DI EK]
  unfold Sh.f29
  simp only [Ak,Ai,Bc,Bg,Bw,BG,D5,GMb,GMc,d2,hins]
  rw [DI EK]
  unfold Sh.f13
  simp only [Ak,Ai,Bc,Bg,Bw,GMb,GMc,d4]
 have hix:Sh.fa (.sl [] .no) f3 H=some (.ret (.int .i64 (-1)),H):=by
  unfold Sh.fa
  simp only [hl,GMb,GMc]
  rw [DI EK]
  unfold Sh.fj
  simp only [Ak,Ai,Bc,Bg,Bw,GMb,GMc,d6]
 refine ⟨?_,?_,?_,?_⟩
 ·unfold Sh.f1e
  simp only [hl,GMb,GMc,w1]
  rw [DI EK]
  unfold Sh.f26
  simp only [Ak,Ai,Bc,Bg,GMb,GMc,d1]
 ·unfold Sh.f1n
  simp only [hl,GMb,GMc,hst]
 ·unfold Sh.f14
  simp only [hl,GMb,GMc,d5,DY,forget,Eh,fgt]
 ·unfold Sh.f15
  have hb:((-1:Int) == -1)=true:=rfl
  simp only [GMb,GMc,hix,hb,DY,forget,Eh,fgt]
theorem p_last (l:List Cl) (tk:Tok) (H:Aa) (hl:l.length<1000000000) (hok:∀c∈l,c.ok):Sh.f43 (.sl (enL cCl l) tk) H=some (.ret (.sl (enL cCl (AU l)) .no),H):=by
 have hcl:=p_clone l tk H hl
 unfold Sh.f43
 by_cases h0:l=[]
 ·subst h0
  rw [if_pos rfl]at hcl
  obtain ⟨n1,n2,n3,n4⟩:=last_nil H (.fn 144 []) (.fn 146 []) (.fn 148 [])
  have hl0:AU ([]:List Cl)=[]:=rfl
  simp only [GMb,GMc,hcl,n1,n2,n3,n4,L5,FC,Option.map_some,hl0]
  rfl
 ·rw [if_neg h0]at hcl
  have hp:0<l.length:=VC.2 h0
  have r0:CO (H++[.buf 0 (flat cCl l) A6 5]) H.length 0 l:=by unfold CO;simp
  have hrev:=p_reverse r0 hp hl
  have r1:CO (BF (H++[.buf 0 (flat cCl l) A6 5]) H.length 0 l.reverse) H.length 0 l.reverse:=CT r0
  have hlr:l.reverse.length=l.length:=List.length_reverse
  obtain ⟨S,s1,s2,s3,s4⟩:=p_sort (f:=.fn 144 []) (l0:=l) (cmp_ins hok) (cmp_sym hok) r1 (fun c hc=>List.mem_reverse.1 hc) (by omega)
  rw [hlr,Bx]at s4
  rw [hlr]at s3
  have hmS:∀c∈S,c∈l:=fun c hc=>List.mem_reverse.1 ((s2.mem IA).2 hc)
  have r2:CO (BF (H++[.buf 0 (flat cCl l) A6 5]) H.length 0 S) H.length 0 S:=CT r0
  obtain ⟨G,r,g1,g2,g3,g4⟩:=p_compact (f:=.fn 146 []) (eq_cp fun c hc=>hok c (hmS c hc)) r2 (by omega)
  have hcp:=cp_last s1 s2
  rw [hcp,s3]at g1
  rw [hcp]at g2
  have hAl:(CH l).length≤l.length:=by rw [←hcp,←s3];exact cpL_len _ _
  obtain ⟨G2,r',k1,k2,k3,k4⟩:=p_delete (f:=.fn 148 []) (cap:=l.length) (fun c hc K=>z_ix c K) (fun c hc K=>z_del c K) g2 hAl hl
  rw [kp_last]at k1 k2
  have hHl:(H++[Blk.buf 0 (flat cCl l) A6 5]).length=H.length+1:=by simp
  have hGl:G.length=H.length+1:=by rw [g4];unfold BF;rw [VA,hHl]
  have hold:∀i,i<H.length→G2[i]? = H[i]? := fun i hi=>by
   rw [k3 i (by omega) (by omega),g3 i (by omega)]
   unfold BF
   rw [UX (by omega),UW hi]
  have hfa:=fall_msX (d:=5) (cap:=l.length) (ex:=false) (R6 k2) (Va H.length)
  simp only [GMb,GMc,hcl,hrev,s4,g1,k1,GI (C8 hold)]
  rw [hfa]
  rfl
theorem p_of1 (r:RC) (hf:r.fits) (H:Aa):Sh.f3t (.agg (cRC r)) H=some (.ret (.bool (!r.right)),H):=by
 obtain ⟨f1,f2,f3,f4⟩:=hf
 have hb:B8 true 5 (.agg (cRC r)) H=some (.ptr H.length 0 0,H++[.cel 0 (cRC r)]):=Cm rfl rfl
 have e1:(H++[Blk.cel 0 (cRC r)])[H.length]? = some (.cel 0 (cRC r)):=Ap
 have l1:Ac true 2 (.ptr H.length 0 0) (H++[Blk.cel 0 (cRC r)])=some (.agg [.bool r.n1,.sl (enL cU r.l1) .no]):=by
  simp only [Ac,AA e1,Option.bind_some];rfl
 have l2:Ac true 2 (.ptr H.length 0 2) (H++[Blk.cel 0 (cRC r)])=some (.agg [.bool r.n2,.sl (enL cU r.l2) .no]):=by
  simp only [Ac,AA e1,Option.bind_some];rfl
 have r1:=fun K=>RK r.n1 r.l1 .no K f3
 have r2:=fun K=>RK r.n2 r.l2 .no K f4
 have fin:∀q:Bool,rP H (.bool q) (H++[Blk.cel 0 (cRC r)])=some (.ret (.bool q),H):=fun q=>FT rfl (by simp)
 unfold Sh.f3t RC.right
 simp only [GMb,GMc,hb,Ah,UY,l1,r1]
 cases GS r.n1 r.l1 with
 | false=>simp only [GMb,GMc,Wg,fin,Wo]
 | true=>simp only [GMb,GMc,VX,Ah,UY,l2,r2,fin,VW]
theorem SJ (l:List RC) (tk:Tok) (H:Aa) (hl:l.length<1000000000) (hf:∀r∈l,r.fits) :
  Sh.f3u (.sl (enL cRC l) tk) (.fn 84 []) H=some (.ret (.bool (!l.all RC.right)),H):=by
 have hcall:∀(r:RC),r∈l→∀K,D3 AG (.fn 84 []) [.agg (cRC r)] K=some (.ret (.bool (!r.right)),K):=fun r hr K=>by
  unfold AG
  rw [Ri (by decide),LY,OP]
  exact p_of1 r (hf r hr) K
 have key:∃k:Int,Sh.fa (.sl (enL cRC l) tk) (.fn 84 []) H=some (.ret (.int .i64 k),H)∧decide (k≥0) = !l.all RC.right:=by
  unfold Sh.fa
  simp only [Au,GMb,GMc]
  cases hall:l.all RC.right with
  | true=>
   refine ⟨-1,?_,rfl⟩
   refine Cg (G:=fun rec1 vs H1=>Sh.fj H rec1 (ag vs 0) (ag vs 1) (ag vs 2) (ag vs 3) H1) l.length
    (fun i=>[.sl (enL cRC l) tk,.fn 84 [],.int .i64 (l.length:Int),.int .i64 (i:Int)]) (fun _=>H) _ (by omega) (fun rec i hi=>?_) (fun rec=>?_)
   ·have d1:decide ((i:Int)<(l.length:Int))=true:=decide_eq_true (by omega)
    have hr:l[i].right=true:=Vn.1 hall _ (Vi hi)
    have c1:=hcall l[i] (Vi hi) H
    have hld:Ac true 5 (.cptr (cRC l[i]) 0) H=some (.agg (cRC l[i])):=rfl
    have hwi:=Aw (show i<9223372036854775807 by omega)
    rw [hr]at c1
    unfold Sh.fj
    simp only [Ak,Ai,Bc,Bg,Bw,GMb,GMc,d1,Ay hi,hld,c1,hwi,VX]
   ·have d1:decide ((l.length:Int)<(l.length:Int))=false:=decide_eq_false (by omega)
    unfold Sh.fj
    simp only [Ak,Ai,Bc,Bg,Bw,GMb,GMc,d1]
  | false=>
   obtain ⟨k,hk⟩:∃k,l.findIdx? (fun r=>!r.right)=some k:=by
    cases hq:l.findIdx? (fun r=>!r.right)with
    | some k=>exact ⟨k,rfl⟩
    | none=>
     rw [XD]at hq
     rw [W7]at hall
     obtain ⟨r,hr,h⟩:=hall
     have:=hq r hr
     cases hrr:r.right with
     | true=>exact absurd hrr h
     | false=>rw [hrr]at this;simp at this
   rw [Xj]at hk
   obtain ⟨k1,k2,k3⟩:=hk
   refine ⟨k,?_,by simp⟩
   have loop:=Br (G:=fun rec1 vs H1=>Sh.fj H rec1 (ag vs 0) (ag vs 1) (ag vs 2) (ag vs 3) H1) (σ:=Nat) (fun i=>i≤k)
    (fun i=>[.sl (enL cRC l) tk,.fn 84 [],.int .i64 (l.length:Int),.int .i64 (i:Int)]) (fun _=>H) (fun i=>k-i) (fun _=>some (.ret (.int .i64 (k:Int)),H)) (fun i rec hi hrec=>?_) 0 (Vy _) (by omega)
   ·exact loop
   ·have hil:i<l.length:=by omega
    have d1:decide ((i:Int)<(l.length:Int))=true:=decide_eq_true (by omega)
    have c1:=hcall l[i] (Vi hil) H
    have hld:Ac true 5 (.cptr (cRC l[i]) 0) H=some (.agg (cRC l[i])):=rfl
    have hwi:=Aw (show i<9223372036854775807 by omega)
    unfold Sh.fj
    rcases VH i k with h | h
    ·have:=k3 i h
     have hr:l[i].right=true:=by simpa using this
     rw [hr]at c1
     simp only [Ak,Ai,Bc,Bg,Bw,GMb,GMc,d1,Ay hil,hld,c1,hwi,VX]
     exact hrec (i+1) (by omega) (by omega)
    ·obtain rfl:i=k:=by omega
     have hr:(!l[i].right)=true:=k2
     rw [hr]at c1
     simp only [Ak,Ai,Bc,Bg,Bw,GMb,GMc,d1,Ay hil,hld,c1]
 obtain ⟨k,e1,e2⟩:=key
 unfold Sh.f3u
 simp only [GMb,GMc,e1,e2]
theorem fold_max (a b c:Nat):Hm J3 (.int .i64 (a:Int)) [.int .i64 (b:Int),.int .i64 (c:Int)]=some (.int .i64 ((max a (max b c):Nat):Int)):=by
 have m:∀x y:Nat,J3 (.int .i64 (x:Int)) (.int .i64 (y:Int))=some (.int .i64 ((max x y:Nat):Int)):=fun x y=>by
  unfold J3
  by_cases h:(y:Int)>(x:Int)
  ·simp only [if_pos h];congr 2;omega
  ·simp only [if_neg h];congr 2;omega
 simp only [Hm,m,Option.bind_some]
 congr 2;omega
def bxC (l:List Cl):Aa:=l.map fun c=>Blk.cel 0 (cCl c)
theorem bxC_snoc (l:List Cl) (c:Cl):bxC (l++[c])=bxC l++[.cel 0 (cCl c)]:=by simp [bxC]
theorem box5 (H:Aa) (c:Cl):Ag 5 (.ptr H.length 0 0) (.agg (cCl c)) (H++[.cel 0 [.bool false,.sl [] .tight,.bool false,.sl [] .tight,.int .u8 0]])=some (H++[.cel 0 (cCl c)]):=by
 rw [OU (sz:=5) (ws:=cCl c) Ap rfl rfl rfl,Bh]
theorem ldX (H:Aa) (c:Cl):Ac true 2 (.ptr H.length 0 0) (H++[.cel 0 (cCl c)])=some (big c.x)∧Ac true 2 (.ptr H.length 0 2) (H++[.cel 0 (cCl c)])=some (big c.y)∧Ac false 1 (.ptr H.length 0 4) (H++[.cel 0 (cCl c)])=some (.int .u8 (c.s.toNat:Int)):=by
 refine ⟨?_,?_,?_⟩ <;> (simp only [Ac,AA Ap,Option.bind_some];rfl)
theorem need_turn {l:List Cl} {tk:Tok} {H K:Aa} {x2 x14:Ab} {i:Nat} (hi:i<l.length) (hok:∀c∈l,c.ok) (hl:l.length<1000000000) (rec:LK) :
  Sh.f1s H rec x2 x14 (.int .i64 (Eb l i:Int)) (.sl (enL cCl l) tk) (.int .i64 (l.length:Int)) (.int .i64 (i:Int)) (K++bxC (l.take i))=rec [x2,x14,.int .i64 (Eb l (i+1):Int),.sl (enL cCl l) tk,.int .i64 (l.length:Int),.int .i64 ((i+1:Nat):Int)] (K++bxC (l.take (i+1))):=by
 have d1:decide ((i:Int)<(l.length:Int))=true:=decide_eq_true (by omega)
 have hwi:=Aw (show i<9223372036854775807 by omega)
 have hc:=hok _ (Vi hi)
 have hld:∀G,Ac true 5 (.cptr (cCl l[i]) 0) G=some (.agg (cCl l[i])):=fun _=>rfl
 have hal:∀G:Aa,Az (some [(.bool false),(.sl [] .tight),(.bool false),(.sl [] .tight),(.int .u8 0)]) G=some (.ptr G.length 0 0,G++[.cel 0 [.bool false,.sl [] .tight,.bool false,.sl [] .tight,.int .u8 0]]):=fun G=>alloc_eq rfl
 have n1:=fun G=>p_need (z:=l[i].x) G (hc.1.lb (by decide)) hc.1
 have n2:=fun G=>p_need (z:=l[i].y) G (hc.2.lb (by decide)) hc.2
 have hn:Eb l (i+1)=max (Eb l i) (max (Oc l[i].x) (Oc l[i].y)):=by
  simp only [Eb,UU hi,Ql]
 have hbx:K++bxC (l.take (i+1))=(K++bxC (l.take i))++[.cel 0 (cCl l[i])]:=by
  rw [Vf hi,bxC_snoc,Vb]
 obtain ⟨l1,l2,l3⟩:=ldX (K++bxC (l.take i)) l[i]
 have hfm:=fold_max (Eb l i) (Oc l[i].x) (Oc l[i].y)
 unfold Oc at hfm hn
 rw [hbx,hn]
 generalize K++bxC (l.take i)=G at *
 have b5:=box5 G l[i]
 unfold Sh.f1s
 simp only [GMb,GMc,d1,Ay hi,hld,hal,b5,AV,Ah,UY,l1,l2,n1,n2,hfm,hwi,BR,and_self,Hs]
set_option exponentiation.threshold 5000
theorem build_spot (p:Sp):AD (some [(.sl [] .tight),(.sl [] .tight),(.int .u8 0)]) [(0,1,.sl (enL cU (A7 p.a)) .no),(1,1,.sl (enL cU (A7 p.b)) .no),(2,1,.int .u8 (p.s.toNat:Int))]=some (.agg (cSp p)):=by
 simp [AD,FV,Dp,cSp]
theorem fld_big (z:Int):PC false 1 1 (big z)=some (.sl (enL cU (A7 z.natAbs)) .no):=rfl
theorem spot_turn {L:List Cl} {tk:Tok} {H Hc:Aa} {x50 x51 w:Ab} {b ph i n:Nat} (hi:i<L.length) (hok:∀c∈L,c.ok) (hl:L.length<1000000000) (hn:n≤1400) (hin:∀c∈L,0≤c.x+2^n∧0≤c.y+2^n)
  (hb:b≤Hc.length) (hR:RS cSp BK 3 b ((L.take i).map (spot (2^n))) w Hc) (hp:Hc[ph]? = some (.cel 0 (A9 (2^n)))) :
  ∃w' Hd,(∀rec:LK,Sh.f2p H rec x50 x51 (.ptr ph 0 0) w (.sl (enL cCl L) tk) (.int .i64 (L.length:Int)) (.int .i64 (i:Int)) Hc=rec [x50,x51,.ptr ph 0 0,w',.sl (enL cCl L) tk,.int .i64 (L.length:Int),.int .i64 ((i+1:Nat):Int)] Hd) ∧
   RS cSp BK 3 b ((L.take (i+1)).map (spot (2^n))) w' Hd∧Kp b Hc Hd:=by
 have d1:decide ((i:Int)<(L.length:Int))=true:=decide_eq_true (by omega)
 have hwi:=Aw (show i<9223372036854775807 by omega)
 have hc:=hok _ (Vi hi)
 have hz:=hin _ (Vi hi)
 have hld:∀G,Ac true 5 (.cptr (cCl L[i]) 0) G=some (.agg (cCl L[i])):=fun _=>rfl
 have hal:∀G:Aa,Az (some [(.bool false),(.sl [] .tight),(.bool false),(.sl [] .tight),(.int .u8 0)]) G=some (.ptr G.length 0 0,G++[.cel 0 [.bool false,.sl [] .tight,.bool false,.sl [] .tight,.int .u8 0]]):=fun G=>alloc_eq rfl
 have hp44:SB 44 (2^n):=GX hn
 have a1:=fun G=>p_addB (a:=L[i].x) (b:=2^n) G (hc.1.lb (by decide)) (hp44.lb (by decide))
 have a2:=fun G=>p_addB (a:=L[i].y) (b:=2^n) G (hc.2.lb (by decide)) (hp44.lb (by decide))
 obtain ⟨l1,l2,l3⟩:=ldX Hc L[i]
 have lh:Ac true 2 (.ptr ph 0 0) (Hc++[.cel 0 (cCl L[i])])=some (big (2^n)):=Bb (A1 hp)
 have b5:=box5 Hc L[i]
 have hR1:=hR.left [Blk.cel 0 (cCl L[i])]
 obtain ⟨w',H2,r1,r2,r3⟩:=hR1.snoc (bytes:=56) (by simp;omega) (spot (2^n) L[i]) .tight (by simp;omega) (by simp;omega)
 have hbs:AD (some [(.sl [] .tight),(.sl [] .tight),(.int .u8 0)]) [(0,1,.sl (enL cU (A7 (L[i].x+2^n).natAbs)) .no),(1,1,.sl (enL cU (A7 (L[i].y+2^n).natAbs)) .no),(2,1,.int .u8 (L[i].s.toNat:Int))]=some (.agg (cSp (spot (2^n) L[i]))):=by
  have e1:(L[i].x+2^n).natAbs=(spot (2^n) L[i]).a:=by unfold spot;dsimp only;omega
  have e2:(L[i].y+2^n).natAbs=(spot (2^n) L[i]).b:=by unfold spot;dsimp only;omega
  rw [e1,e2]
  exact build_spot _
 have hmap:(L.take (i+1)).map (spot (2^n))=(L.take i).map (spot (2^n))++[spot (2^n) L[i]]:=by
  rw [Vf hi,List.map_append];rfl
 rw [hmap]
 refine ⟨w',H2,fun rec=>?_,r2,(Kp.app hb _).trans r3⟩
 unfold Sh.f2p
 simp only [GMb,GMc,d1,Ay hi,hld,hal,b5,AV,Ah,UY,l1,l2,l3,lh,a1,a2,fld_big,hbs,Mp,r1,hwi,BR,and_self,Hs]
theorem p_cellsOf (l:List RC) (tk:Tok) (H:Aa) (hl:l.length<700000000) (hf:∀r∈l,r.fits) (hs:∀r∈l,r.right=true→r.cl.ok) :
  Sh.f2q (.sl (enL cRC l) tk) H=some (.ret (if l.all RC.right then .tup [CP (Dq (l.map RC.cl)).1,.int .i64 (Dq (l.map RC.cl)).2]else .tup [CP [],.int .i64 1]),H):=by
 have hcw:=fun K=>SJ l tk K (by omega) hf
 have hal:Az (some [(.sl [] .tight)]) H=some (.ptr H.length 0 0,H++[.cel 0 [.sl [] .tight]]):=alloc_eq rfl
 unfold Sh.f2q
 simp only [GMb,GMc,hal,hcw]
 cases hr:l.all RC.right with
 | false=>
  simp only [GMb,GMc,Wg,NU,Vd,if_false]
 | true=>
  have hrr:∀r∈l,r.right=true:=Vn.1 hr
  have hcl:∀c∈l.map RC.cl,c.ok:=fun c hc=>by
   obtain ⟨r,h1,rfl⟩:=Wz.1 hc
   exact hs r h1 (hrr r h1)
  rw [enL_RC hrr hf]
  generalize hL:l.map RC.cl=L at hcl
  have hLl:L.length<700000000:=by rw [←hL];simpa using hl
  have hla:=fun K=>p_last L tk K (by omega) hcl
  simp only [GMb,GMc,VX,hla,Au,QU,if_true]
  have hsm:∀c∈AU L,c.ok:=fun c hc=>hcl c (Ut hc)
  have hsl:=MJ L
  generalize AU L=S at hsm hsl
  refine Eq.trans ?hd (Cg (G:=fun rec1 vs H1=>Sh.f1s H rec1 (ag vs 0) (ag vs 1) (ag vs 2) (ag vs 3) (ag vs 4) (ag vs 5) H1) S.length
   (fun i=>[.ptr H.length 0 0,.sl (enL cCl S) .no,.int .i64 (Eb S i:Int),.sl (enL cCl S) .no,.int .i64 (S.length:Int),.int .i64 (i:Int)]) (fun i=>H++[.cel 0 [.sl [] .tight]]++bxC (S.take i))
   (some (.ret (.tup [CP (Np S).1,.int .i64 (Np S).2]),H)) (by omega) (fun rec i hi=>?_) (fun rec=>?_))
  case hd=>
   have e0:H++[Blk.cel 0 [.sl [] .tight]]++bxC (S.take 0)=H++[Blk.cel 0 [.sl [] .tight]]:=by simp [bxC]
   rw [e0]
   rfl
  ·exact need_turn hi hsm (by omega) rec
  ·have hlv:=levelOf_need S
   have d1:decide ((S.length:Int)<(S.length:Int))=false:=decide_eq_false (by omega)
   have h1n:1≤Eb S S.length:=by rw [Pj];omega
   rw [VO]
   unfold Np
   by_cases hv:1329<Eb S S.length
   ·have hv':decide ((Eb S S.length:Int)>1329)=true:=decide_eq_true (by omega)
    rw [if_pos (by omega)]
    have hbe:AD (some [(.sl [] .tight)]) []=some (.agg [.sl (enL cNd []) .tight]):=rfl
    have qt:=Ib (H:=H) (Hq:=H++[.cel 0 [.sl [] .tight]]++bxC S) (tk:=.tight) (Q:=[]) (e:=4) (by rw [Vb];simp) (fun i hi=>by rw [Vb,UW hi])
    unfold Sh.f1s
    simp only [Ak,Ai,Bc,Bg,Bw,BG,D5,GMb,GMc,d1,hv',hbe]
    exact qt
   ·have hv':decide ((Eb S S.length:Int)>1329)=false:=decide_eq_false (by omega)
    have hle:A2 S≤1329:=by omega
    have hlev:A2 S=Eb S S.length:=by omega
    rw [if_neg (by omega)]
    have hsq:∀c∈S,GT (A2 S) (-(2^(A2 S-1))) (-(2^(A2 S-1))) c:=fun c hc=>M1 (by omega) (LL hle c hc)
    rw [hlev]at hsq
    rw [hlev]
    obtain ⟨n,hn⟩:∃n,Eb S S.length=n+1:=⟨Eb S S.length-1,by omega⟩
    rw [hn,Vp]at hsq ⊢
    have hin:∀c∈S,0≤c.x+2^n∧0≤c.y+2^n:=fun c hc=>by
     obtain ⟨q1,q2,q3,q4⟩:=hsq c hc
     generalize (2:Int)^n=P at *
     omega
    have hlp:=Us (h:=2^n) (n+1) [] (-(2^n)) (-(2^n)) S 0 0 0 0 (by simp;omega) (by simp;omega) rfl rfl hsq
    have hwn:IntKind.i64.wrap (((n+1:Nat):Int)-1)=(n:Int):=by rw [An] <;> omega
    have hpow:=fun G=>p_pow (m:=n) (by omega) G
    have s1:∀B:Aa,Ag 2 (.ptr B.length 0 0) (big (2^n)) (B++[.cel 0 [.bool false,.sl [] .tight]])=some (B++[.cel 0 (A9 (2^n))]):=fun B=>by rw [Cx (Ap (B:=B)) rfl,Bh]
    obtain ⟨B,hB⟩:∃B,B=H++[.cel 0 [.sl [] .tight]]++bxC S:=⟨_,rfl⟩
    have hBH:B[H.length]? = some (.cel 0 [.sl [] .tight]):=by rw [hB,Vb];simp
    have hBo:∀i,i<H.length→B[i]? = H[i]? := fun i hi=>by rw [hB,Vb,UW hi]
    have hBl:H.length<B.length:=(UV.1 hBH).1
    rw [←hB]
    have loop:=Gi (G:=fun rec2 vs H1=>Sh.f2p H rec2 (ag vs 0) (ag vs 1) (ag vs 2) (ag vs 3) (ag vs 4) (ag vs 5) (ag vs 6) H1) S.length
     (fun i vs Hc=>∃w,vs=[.ptr H.length 0 0,.int .i64 ((n+1:Nat):Int),.ptr B.length 0 0,w,.sl (enL cCl S) .no,.int .i64 (S.length:Int),.int .i64 (i:Int)]∧RS cSp BK 3 B.length ((S.take i).map (spot (2^n))) w Hc∧Kp B.length (B++[.cel 0 (A9 (2^n))]) Hc)
     (by omega) (fun i vs Hc hi hI=>?_) (vs:=[.ptr H.length 0 0,.int .i64 ((n+1:Nat):Int),.ptr B.length 0 0,.sl [] .tight,.sl (enL cCl S) .no,.int .i64 (S.length:Int),.int .i64 0]) (H:=B++[.cel 0 (A9 (2^n))])
     ⟨_,rfl,.inl ⟨rfl,rfl⟩,Kp.refl _ _⟩
    ·obtain ⟨vs,Hc,⟨w,rfl,hR,hK⟩,rec2,hloop⟩:=loop
     rw [VO]at hR
     obtain ⟨tk2,rfl⟩:=hR.sl
     have hKl:=hK.len
     rw [Vc,List.length_singleton]at hKl
     have hHc:Hc[H.length]? = some (.cel 0 [.sl [] .tight]):=hK.cel _ _ (A1 hBH)
     have hHo:∀i,i<H.length→Hc[i]? = H[i]? := fun i hi=>by rw [hK.old i (by omega),UW (by omega)];exact hBo i hi
     have hbx:B8 true 1 (.agg [.sl [] .tight]) Hc=some (.ptr Hc.length 0 0,Hc++[.cel 0 [.sl [] .tight]]):=Cm rfl rfl
     have hbe:AD (some [(.sl [] .tight)]) []=some (.agg [.sl [] .tight]):=rfl
     have hmul:S.length*(n+1)≤700000000*1329:=X7 (by omega) (by omega)
     have hspk:∀p∈S.map (spot (2^n)),SpOk p:=fun p hp=>by
      obtain ⟨c,hc,rfl⟩:=Wz.1 hp
      obtain ⟨q1,q2,q3,q4⟩:=hsq c hc
      have hpw:(2:Int)^(n+1)=((2^(n+1):Nat):Int):=ipow _
      rw [hpw]at q2 q4
      have hpt:2^(n+1)≤2^(32*44):=V6 (by decide) (by omega)
      rw [←w_pow]at hpt
      exact ⟨Vw (EG (k:=44) (by unfold spot;dsimp only;omega)) (by decide),Vw (EG (k:=44) (by unfold spot;dsimp only;omega)) (by decide)⟩
     obtain ⟨Hq,w',p1,p2,p3,p4⟩:=lay_ok (b:=H.length) (pb:=Hc.length) (by omega) (n+1) AQ (by rw [Dv];omega) (by omega) (by omega) [] (.sl [] .tight) (S.map (spot (2^n))) tk2 (Hc++[.cel 0 [.sl [] .tight]]) Ap (.inl ⟨rfl,rfl⟩) (by simp;omega) hspk (by simp;omega) (by simp only [List.length_nil,We];omega)
     rw [hlp]at p1 p3
     have hpl:=Vw (lay_len (n+1) [] (S.map (spot (2^n)))) (Nat.add_le_add_left (by rw [We];exact hmul) _)
     rw [hlp]at hpl
     simp only [List.length_nil]at hpl
     generalize AO (n+1) [] (-(2^n)) (-(2^n)) S=P at p1 p3 hpl
     obtain ⟨Q,r⟩:=P
     dsimp only at p1 p3 hpl ⊢
     obtain ⟨tk3,rfl⟩:=p3.sl
     have hqo:=fun G=>c06_of Q tk3 (r:Int) G (by omega)
     have hq1:Hq[H.length]? = some (.cel 0 [.sl [] .tight]):=p4.cel _ _ (by omega) (A1 hHc)
     have hqo2:∀i,i<H.length→Hq[i]? = H[i]? := fun i hi=>by rw [p4.old i hi,UW (by omega)];exact hHo i hi
     have hldb:Ac false 1 (.ptr Hc.length 0 0) Hq=some (.sl (enL cNd Q) tk3):=by rw [CN p2];rfl
     unfold Sh.f1s
     simp only [Ak,Ai,Bc,Bg,Bw,BG,D5,GMb,GMc,d1,hn,show decide (((n+1:Nat):Int)>1329)=false from by rw [←hn];exact hv',hwn,hpow,Cb,s1,AV,Au]
     rw [hloop]
     unfold Sh.f2p
     simp only [Ak,Ai,Bc,Bg,Bw,BG,D5,GMb,GMc,d1,hbe,hbx,p1,nil_ptr,Ah,UY,hldb,hqo]
     cases RO Q (r:Int)with
     | false=>
      simp only [GMb,GMc,B3,BB,CP,BD,Vd,if_false]
      exact Ib hq1 hqo2
     | true=>
      simp only [GMb,GMc,B3,BB,CP,BD,Int.toNat_natCast,if_true]
      exact Ib hq1 hqo2
    ·obtain ⟨w,rfl,hR,hK⟩:=hI
     have hKl:=hK.len
     rw [Vc,List.length_singleton]at hKl
     obtain ⟨w',Hd,t1,t2,t3⟩:=spot_turn (H:=H) (x50:=.ptr H.length 0 0) (x51:=.int .i64 ((n+1:Nat):Int)) (tk:=.no) hi hsm (by omega) (by omega) hin (by omega) hR (hK.cel _ _ Ap)
     exact ⟨_,Hd,⟨w',rfl,t2,hK.trans t3⟩,t1⟩
def rdP (law:List UInt8) (v:Ab):List Ab:=[.str law,v]
structure RPx (b0 p:Nat) (b:List UInt8) (a:Nat) (st:PSt) (v:Ab) (H:Aa):Prop where
 hb:b0≤p
 lx:Lx H p b a (rdP st.law v)
 row:RS cCl A6 5 b0 st.cells v H
def RP (b0 p:Nat) (b:List UInt8) (a:Nat) (st:PSt) (H:Aa):Prop:=∃v,RPx b0 p b a st v H
section
variable {b0 p a:Nat} {b:List UInt8} {st:PSt} {H:Aa} {v:Ab}
theorem RPx.lt (h:RPx b0 p b a st v H):p<H.length:=lx_lt h.lx
theorem RPx.move (h:RPx b0 p b a st v H) (a':Nat):RPx b0 p b a' st v (Cy H p b (rdP st.law v) a'):=⟨h.hb,GV h.lx,h.row.put h.lx⟩
theorem RPx.push (h:RPx b0 p b a st v H) (G:Aa):RPx b0 p b a st v (H++G):=⟨h.hb,Lx.push h.lx,h.row.left G⟩
theorem RPx.ext (h:RPx b0 p b a st v H) (cs:List Ab):Ext b0 p H (H.set p (.cel 0 cs)):=
 ⟨by simp,fun i c hi hc=>by rw [UX (Ne.symm hi)];exact hc,fun i hi=>by rw [UX (by have:=h.hb;omega)]⟩
theorem RPx.ble (h:RPx b0 p b a st v H):b0≤H.length:=Vw h.hb (X4 h.lt)
theorem RPx.go (h:RPx b0 p b a st v H) (a':Nat) (G:Aa):RPx b0 p b a' st v (Cy H p b (rdP st.law v) a'++G)∧Ext b0 p H (Cy H p b (rdP st.law v) a'++G):=
 ⟨(h.move a').push G,(h.ext _).trans (Ext.push b0 p (by show b0≤List.length _;rw [show (H.set p _).length=H.length from by simp];exact h.ble) G)⟩
theorem RPx.go0 (h:RPx b0 p b a st v H) (a':Nat):RPx b0 p b a' st v (Cy H p b (rdP st.law v) a')∧Ext b0 p H (Cy H p b (rdP st.law v) a'):=⟨h.move a',h.ext _⟩
theorem RPx.put (h:RPx b0 p b a st v H) (G:Aa):RPx b0 p b a st v (H++G)∧Ext b0 p H (H++G):=⟨h.push G,Ext.push b0 p h.ble G⟩
def EndsP (b0 p:Nat) (b:List UInt8) (H:Aa) (x:Out) (v:Ab) (s:(Er×Nat)×PSt):Prop:=∃H',x=some (resE s.1.1 v,H')∧Ext b0 p H H'∧RP b0 p b s.1.2 s.2 H'
theorem build_pl (x y:Int):AD (some [(.bool false),(.sl [] .tight),(.bool false),(.sl [] .tight),(.int .u8 0)]) [(0,2,big x),(2,2,big y),(4,1,(.int .u8 1))]=some (.agg (cCl ⟨x,y,1⟩)):=rfl
theorem box_bigS (z:Int):Ag 2 (.ptr 0 0 0) (big z) [Blk.cel 0 [.bool false,.sl [] .tight]]=some [.cel 0 (A9 z)]:=M4 (NG z) rfl rfl
theorem ld_bigS (z:Int):Ac true 2 (.ptr 0 0 0) [Blk.cel 0 (A9 z)]=some (big z):=(rfl)
theorem rp_line (h:RP b0 p b a st H) (ha:a<b.length) (hb:b.length<1152921504606846976) (hn:st.cells.length<1000000000):EndsP b0 p b H (Sh.f3r (.ptr p 0 0) H) (.tup []) (Om b a st):=by
 obtain ⟨v,h⟩:=h
 have hle:a≤b.length:=X4 ha
 unfold EndsP Sh.f3r Om
 simp only [GMb,GMc,HPa,HPc,HPd,HPe,HPz,Nat.reduceAdd,Nat.reduceLT,MB h.lx hle]
 cases hC:CA b a [35]with
 | true=>
  unfold lawP Nn
  simp only [GMb,GMc,HPa,HPc,HPd,HPe,HPz,Nat.reduceAdd,Nat.reduceLT,RX h.lx hle hb [35,82,32] [97] (by decide) (by decide),if_true]
  have hM:=J2 (s:=[35,82,32]) (rest:=[97]) hle
  generalize Ev b a [35,82,32] [97]=M at hM
  obtain ⟨er,c⟩:=M
  dsimp only at hM ⊢
  obtain ⟨h2,e2⟩:=h.go0 c
  cases er with
  | some e=>
   simp only [GMb,GMc,HPa,HPc,HPd,HPe,HPz,Nat.reduceAdd,Nat.reduceLT,DH]
   exact ⟨_,rfl,e2,_,h2⟩
  | none=>
   simp only [GMb,GMc,HPa,HPc,HPd,HPe,HPz,Nat.reduceAdd,Nat.reduceLT,CW,lx_ruleS h2.lx hM hb [] (by decide)]
   generalize NP b c []=M
   obtain ⟨er,d⟩:=M
   dsimp only
   obtain ⟨h3,e3⟩:=h2.go0 d
   generalize Cy _ p b _ d=H3 at h3 e3
   cases er with
   | some e=>
    simp only [GMb,GMc,HPa,HPc,HPd,HPe,HPz,Nat.reduceAdd,Nat.reduceLT,DH]
    exact ⟨_,rfl,e2.trans e3,_,h3⟩
   | none=>
    have hst:=JV (o:=2) (v:=.str ((b.take d).drop c)) h3.lx rfl (by simp [rdP])
    simp only [GMb,GMc,HPa,HPc,HPd,HPe,HPz,Nat.reduceAdd,Nat.reduceLT,CW,hst]
    refine ⟨_,rfl,(e2.trans e3).trans (h3.ext _),v,h3.hb,?_,h3.row.put h3.lx⟩
    unfold Lx
    rw [Vj h3.lt];rfl
 | false=>
  unfold Kd JW
  obtain ⟨G1,hn1⟩:=Uj h.lx hle hb true [32,49] (by decide)
  have hi1:=QZ hle true [32,49]
  simp only [GMb,GMc,HPa,HPc,HPd,HPe,HPz,Nat.reduceAdd,Nat.reduceLT,hn1,Vd,if_false]
  generalize GK b a true [32,49]=M at hi1
  obtain ⟨er,c⟩:=M
  dsimp only at hi1 ⊢
  obtain ⟨h1,e1⟩:=h.go c G1
  generalize Cy H p b (rdP st.law v) c++G1=H1 at h1 e1
  cases er with
  | some e=>
   simp only [GMb,GMc,HPa,HPc,HPd,HPe,HPz,Nat.reduceAdd,Nat.reduceLT,DH]
   exact ⟨_,rfl,e1,_,h1⟩
  | none=>
   obtain ⟨h2,e2⟩:=h1.put [.cel 0 (A9 (Cc ((b.take c).drop a)))]
   have hx0:(H1++[Blk.cel 0 (A9 (Cc ((b.take c).drop a)))])[H1.length]? = some (.cel 0 (A9 (Cc ((b.take c).drop a)))):=Ap
   have hH1:p≠H1.length:=by have:=h1.lt;omega
   simp only [GMb,GMc,HPa,HPc,HPd,HPe,HPz,Nat.reduceAdd,Nat.reduceLT,CW,Cb,box_bigS,AV]
   generalize H1++[Blk.cel 0 (A9 (Cc ((b.take c).drop a)))]=H2 at h2 e2 hx0
   simp only [GMb,GMc,HPa,HPc,HPd,HPe,HPz,Nat.reduceAdd,Nat.reduceLT,RX h2.lx hi1.2 hb [32] [49] (by decide) (by decide)]
   have hM:=J2 (s:=[32]) (rest:=[49]) hi1.2
   generalize Ev b c [32] [49]=M at hM
   obtain ⟨er,d⟩:=M
   dsimp only at hM ⊢
   obtain ⟨h3,e3⟩:=h2.go0 d
   have hx1:=e3.cel _ _ (Ne.symm hH1) hx0
   generalize Cy H2 p b (rdP st.law v) d=H3 at h3 e3 hx1
   cases er with
   | some e=>
    simp only [GMb,GMc,HPa,HPc,HPd,HPe,HPz,Nat.reduceAdd,Nat.reduceLT,DH]
    exact ⟨_,rfl,(e1.trans e2).trans e3,_,h3⟩
   | none=>
    obtain ⟨G4,hn4⟩:=Uj h3.lx hM hb true [] (by decide)
    have hi4:=QZ hM true []
    simp only [GMb,GMc,HPa,HPc,HPd,HPe,HPz,Nat.reduceAdd,Nat.reduceLT,CW,hn4]
    generalize GK b d true []=M at hi4
    obtain ⟨er,f⟩:=M
    dsimp only at hi4 ⊢
    obtain ⟨h4,e4⟩:=h3.go f G4
    have hx4:=e4.cel _ _ (Ne.symm hH1) hx1
    generalize Cy H3 p b (rdP st.law v) f++G4=H4 at h4 e4 hx4
    cases er with
    | some e=>
     simp only [GMb,GMc,HPa,HPc,HPd,HPe,HPz,Nat.reduceAdd,Nat.reduceLT,DH]
     exact ⟨_,rfl,((e1.trans e2).trans e3).trans e4,_,h4⟩
    | none=>
     obtain ⟨h5,e5⟩:=h4.put [.cel 0 (A9 (Cc ((b.take f).drop d)))]
     have hy:Ac true 2 (.ptr H4.length 0 0) (H4++[Blk.cel 0 (A9 (Cc ((b.take f).drop d)))])=some (big (Cc ((b.take f).drop d))):=Bb Ap
     have hx:Ac true 2 (.ptr H1.length 0 0) (H4++[Blk.cel 0 (A9 (Cc ((b.take f).drop d)))])=some (big (Cc ((b.take c).drop a))):=Bb (A1 hx4)
     simp only [GMb,GMc,HPa,HPc,HPd,HPe,HPz,Nat.reduceAdd,Nat.reduceLT,CW,Cb,box_bigS,AV]
     generalize H4++[Blk.cel 0 (A9 (Cc ((b.take f).drop d)))]=H5 at h5 e5 hy hx
     have hrow:Ac false 1 (.ptr p 0 3) H5=some v:=by rw [CN h5.lx];rfl
     obtain ⟨w,H6,r1,r2,r3⟩:=h5.row.snoc (bytes:=72) h5.ble ⟨Cc ((b.take c).drop a),Cc ((b.take f).drop d),1⟩ .tight (by omega) (by omega)
     have hlx6:Lx H6 p b f (rdP st.law v):=r3.cel _ _ h5.lx
     have hwv:w.isScal=true:=by obtain ⟨tk,rfl⟩:=r2.sl;rfl
     have hst:=JV (o:=3) (v:=w) hlx6 hwv (by simp [rdP])
     simp only [GMb,GMc,HPa,HPc,HPd,HPe,HPz,Nat.reduceAdd,Nat.reduceLT,hrow,hx,hy,ld_bigS,build_pl,Mq,r1,hst,AV,BR]
     have hp6:=lx_lt hlx6
     refine ⟨_,rfl,(((((e1.trans e2).trans e3).trans e4).trans e5).trans ⟨r3.len,fun i cs hi hc=>r3.cel i cs hc,r3.old⟩).trans ⟨by simp,fun i c hi hc=>by rw [UX (Ne.symm hi)];exact hc,fun i hi=>by rw [UX (by have:=h.hb;omega)]⟩,w,h.hb,?_,r2.put hlx6⟩
     unfold Lx
     rw [Vj hp6];rfl
theorem one_endP (hb:b.length<1152921504606846976) {rec:LK} {H0:Aa} {x:Out} {s:(Er×Nat)×PSt} {F:LK} (he:EndsP b0 p b H x (.tup []) s) (hs:s.1.2≤b.length) :
  (∃H' e c st',endP b s=((some e,c),st')∧(bK H0 x fun _ H18=>bK H0 (Sh.fs (.ptr p 0 0) (.str []) H18) fun _ H22=>rec [.ptr p 0 0] H22)=some (.pan (hv e),H')∧Ext b0 p H H'∧RP b0 p b c st' H') ∨
  (∃H' c st',endP b s=((none,c),st')∧(bK H0 x fun _ H18=>bK H0 (Sh.fs (.ptr p 0 0) (.str []) H18) fun _ H22=>rec [.ptr p 0 0] H22)=rec [.ptr p 0 0] H'∧Ext b0 p H H'∧RP b0 p b c st' H'):=by
 obtain ⟨⟨er,c⟩,st'⟩:=s
 obtain ⟨H1,rfl,e1,h1⟩:=he
 dsimp only at hs e1 h1 ⊢
 cases er with
 | some e=>exact .inl ⟨H1,e,c,st',rfl,rfl,e1,h1⟩
 | none=>
  obtain ⟨v,h1⟩:=h1
  obtain ⟨h2,e2⟩:=h1.go0 (Jo b c []).2
  have hx:=lx_endS h1.lx hs hb [] (by decide)
  unfold endP
  simp only [CW,GMb,GMc,HPa,HPc,HPd,HPe,HPz,Nat.reduceAdd,Nat.reduceLT,hx]
  cases hE:(Jo b c []).1 with
  | some e=>
   refine .inl ⟨_,e,(Jo b c []).2,st',by rw [←hE],?_,e1.trans e2,_,h2⟩
   simp only [DH,GMb,GMc,HPa,HPc,HPd,HPe,HPz,Nat.reduceAdd,Nat.reduceLT]
  | none=>
   refine .inr ⟨_,(Jo b c []).2,st',by rw [←hE],?_,e1.trans e2,_,h2⟩
   simp only [CW,GMb,GMc,HPa,HPc,HPd,HPe,HPz,Nat.reduceAdd,Nat.reduceLT]
theorem rp_loop (hb:b.length<1152921504606846976) (H0:Aa):∀(m a:Nat) (st:PSt) (H:Aa),a≤b.length→b.length-a<m→∀n,m≤n→st.cells.length+(b.length-a)+5<1000000000→RP b0 p b a st H →
  EndsP b0 p b H (Ao (fun rec1 vs H=>Sh.f3s H0 rec1 (ag vs 0) H) n [.ptr p 0 0] H) (.tup []) (Gk b m a st):=by
 intro m
 induction m with
 | zero=>intro a st H _ h;omega
 | succ m ih=>
  intro a st H ha hm n hn h1 h
  obtain ⟨n,rfl⟩:∃k,n=k+1:=⟨n-1,by omega⟩
  rw [CF]
  generalize hg:Ao (fun rec1 vs H=>Sh.f3s H0 rec1 (ag vs 0) H) n=rec
  have hh:=h
  obtain ⟨v,h⟩:=h
  unfold Sh.f3s Gk
  simp only [GMb,GMc,HPa,HPc,HPd,HPe,HPz,Nat.reduceAdd,Nat.reduceLT,LG h.lx]
  by_cases he:a=b.length
  ·simp only [he,GMb,GMc,HPa,HPc,HPd,HPe,HPz,Nat.reduceAdd,Nat.reduceLT,if_true]
   rw [he]at hh
   exact ⟨H,rfl,Ext.refl _ _ _,hh⟩
  ·have hlt:a<b.length:=by omega
   have hl:=rp_line hh hlt hb (by omega)
   have hok:=oneP_ok hlt st
   have hone:=one_endP (rec:=rec) (H0:=H0) (F:=rec) hb hl (lineP_ok hlt st).le
   simp only [he,GMb,GMc,HPa,HPc,HPd,HPe,HPz,Nat.reduceAdd,Nat.reduceLT,if_false]
   unfold Q7 at hok ⊢
   rcases hone with ⟨H1,e,c,st',q1,q2,q3,q4⟩ | ⟨H1,c,st',q1,q2,q3,q4⟩
   ·rw [q1]
    exact ⟨H1,q2,q3,q4⟩
   ·rw [q1]at hok ⊢
    obtain ⟨k1,k2,k3,k4⟩:=hok
    dsimp only at k1 k2 k3 k4 ⊢
    have:=k2 rfl
    obtain ⟨H2,s1,s2,s3⟩:=ih c st' H1 k1 (by omega) n (by omega) (by omega) q4
    rw [hg]at s1
    exact ⟨H2,q2.trans s1,q3.trans s2,s3⟩
theorem rp_all (h:RP b0 p b 0 st H) (hb:b.length<900000000) (hn:st.cells.length=0):EndsP b0 p b H (Sh.f1d (.ptr p 0 0) H) (.tup []) (Mw b st):=by
 have hb':b.length<1152921504606846976:=by omega
 obtain ⟨v,h⟩:=h
 have hM:=J2 (s:=FL) (rest:=[]) (Vy b.length)
 have hx:=RX h.lx (Vy _) hb' FL [] (by decide) (by decide)
 unfold Sh.f1d Mw
 rw [show Ab.str [35,76,105,102,101,32,49,46,48,54]=.str FL from rfl]
 simp only [GMb,GMc,HPa,HPc,HPd,HPe,HPz,Nat.reduceAdd,Nat.reduceLT,hx]
 generalize Ev b 0 FL []=M at hM
 obtain ⟨er,c⟩:=M
 dsimp only at hM ⊢
 obtain ⟨h1,e1⟩:=h.go0 c
 cases er with
 | some e=>
  simp only [DH,GMb,GMc,HPa,HPc,HPd,HPe,HPz,Nat.reduceAdd,Nat.reduceLT]
  exact ⟨_,rfl,e1,_,h1⟩
 | none=>
  have hx2:=lx_endS h1.lx hM hb' [] (by decide)
  simp only [CW,GMb,GMc,HPa,HPc,HPd,HPe,HPz,Nat.reduceAdd,Nat.reduceLT,hx2]
  have hle:=endS_le hM []
  generalize Jo b c []=M at hle
  obtain ⟨er,d⟩:=M
  dsimp only at hle ⊢
  obtain ⟨h3,e3⟩:=h1.go0 d
  cases er with
  | some e=>
   simp only [DH,GMb,GMc,HPa,HPc,HPd,HPe,HPz,Nat.reduceAdd,Nat.reduceLT]
   exact ⟨_,rfl,e1.trans e3,_,h3⟩
  | none=>
   simp only [CW,GMb,GMc,HPa,HPc,HPd,HPe,HPz,Nat.reduceAdd,Nat.reduceLT]
   obtain ⟨H4,r1,r2,r3⟩:=rp_loop (b0:=b0) (p:=p) hb' H (b.length+1) d st _ hle.2 (by omega) AQ (by rw [Dv];omega) (by omega) ⟨_,h3⟩
   rw [r1]
   exact ⟨H4,rfl,(e1.trans e3).trans r2,r3⟩
def Pr (er:Er):Ab:=match er with
 | none=>.agg [.int .i64 0,.str []]
 | some e=>.agg [.int .i64 e.1,.str e.2]
theorem TS (h:RP b0 p b 0 st H) (hb:b.length<900000000) (hn:st.cells.length=0):∃H',Sh.f23 (.bfn 38 [.ptr p 0 0]) H=some (.ret (Pr (Mw b st).1.1),H')∧Ext b0 p H H'∧RP b0 p b (Mw b st).1.2 (Mw b st).2 H':=by
 obtain ⟨H1,r1,r2,r3⟩:=rp_all h hb hn
 refine ⟨H1,?_,r2,r3⟩
 have ho:ent 38 (ap1 Sh.f1d) noO 38 [.ptr p 0 0] H=Sh.f1d (.ptr p 0 0) H:=by
  unfold ent;rw [if_pos rfl];rfl
 unfold Sh.f23 OH
 simp only [ho,r1,GMb,GMc]
 cases (Mw b st).1.1 with
 | none=>rfl
 | some e=>rfl

end
def rcC (c:Cl):RC:=⟨decide (c.x<0),A7 c.x.natAbs,decide (c.y<0),A7 c.y.natAbs,c.s⟩
theorem SY (z:Int):GS (decide (z<0)) (A7 z.natAbs)=true:=by
 unfold GS
 rw [R7,VW]
 by_cases h:z<0
 ·have:A7 z.natAbs≠[]:=On (by omega)
  rw [decide_eq_true h]
  cases hl:A7 z.natAbs with
  | nil=>exact absurd hl this
  | cons _ _=>rfl
 ·rw [decide_eq_false h];rfl
theorem rcC_right (c:Cl):(rcC c).right=true:=by
 unfold RC.right rcC
 rw [SY,SY];rfl
theorem rcC_cl (c:Cl):(rcC c).cl=c:=by
 unfold RC.cl rcC
 rw [KN,KN]
theorem rcC_fits {c:Cl} (h:c.ok):(rcC c).fits:=⟨Bt _,Bt _,h.1.lb (by decide),h.2.lb (by decide)⟩
theorem enL_rcC (L:List Cl):enL cRC (L.map rcC)=enL cCl L:=by
 unfold enL
 rw [Yb]
 rfl
theorem map_rcC (L:List Cl):(L.map rcC).map RC.cl=L:=by
 rw [Yb]
 conv=>rhs;rw [←List.map_id L]
 exact X0 fun c _=>rcC_cl c
theorem all_rcC (L:List Cl):(L.map rcC).all RC.right=true:=by
 rw [Vn]
 intro r hr
 obtain ⟨c,_,rfl⟩:=Wz.1 hr
 exact rcC_right c
theorem p_cellsC (L:List Cl) (tk:Tok) (H:Aa) (hl:L.length<700000000) (hok:∀c∈L,c.ok):Sh.f2q (.sl (enL cCl L) tk) H=some (.ret (.tup [CP (Dq L).1,.int .i64 (Dq L).2]),H):=by
 have h:=p_cellsOf (L.map rcC) tk H (by rw [We];exact hl) (fun r hr=>by obtain ⟨c,hc,rfl⟩:=Wz.1 hr;exact rcC_fits (hok c hc)) (fun r hr _=>by obtain ⟨c,hc,rfl⟩:=Wz.1 hr;rw [rcC_cl];exact hok c hc)
 rw [all_rcC,enL_rcC,map_rcC,if_pos rfl]at h
 exact h
def L4 (r:(List UInt8×List Nd)×Int×Int):Ab:=.tup [pat r.1.1 r.1.2,.int .i64 r.2.1,.int .i64 r.2.2]
theorem GY (rule:List UInt8) (L:List Nd):pat rule L=.agg [.str rule,.sl (enL cNd L) .no]:=rfl
theorem quad_eq6 (L:List Nd):CP L=.agg [.sl (enL cNd L) .no]:=rfl
theorem p_fine6 (bx N:Int) (H:Aa):Sh.f3e (.agg [.int .i64 bx,.int .i64 N]) H=some (.ret (.bool (Nv bx N)),H):=by
 unfold Sh.f3e Sh.f3d Nv
 by_cases h1:bx≥0
 ·by_cases h2:bx≤1000
  ·by_cases h3:N≥0
   ·simp only [GMb,GMc,HPa,HPc,HPd,HPe,HPz,Nat.reduceAdd,Nat.reduceLT,h1,h2,h3]
   ·simp only [GMb,GMc,HPa,HPc,HPd,HPe,HPz,Nat.reduceAdd,Nat.reduceLT,h1,h2,h3]
  ·simp only [GMb,GMc,HPa,HPc,HPd,HPe,HPz,Nat.reduceAdd,Nat.reduceLT,h1,h2]
 ·simp only [GMb,GMc,HPa,HPc,HPd,HPe,HPz,Nat.reduceAdd,Nat.reduceLT,h1]
theorem HJ (b:List UInt8) (bx N:Int) (H:Aa) (hb:b.length<600000000):Sh.ft (.str b) (.agg [.int .i64 bx,.int .i64 N]) H=some (.ret (L4 (NS b bx N)),H):=by
 have b1:AD (some [(.str []),(.sl [] .tight)]) []=some (.agg [.str [],.sl [] .tight]):=rfl
 have b2:∀s,AD (some [(.str []),(.int .i64 0)]) [(0,1,.str s)]=some (.agg [.str s,.int .i64 0]):=fun _=>rfl
 have b3:∀s,AD (some [(.str []),(.int .i64 0),(.str []),(.sl [] .tight)]) [(0,2,.agg [.str s,.int .i64 0]),(2,1,(.str [66,51,47,83,50,51]))]=some (.agg [.str s,.int .i64 0,.str usualL,.sl [] .tight]):=fun _=>rfl
 unfold Sh.ft NS
 simp only [GMb,GMc,HPa,HPc,HPd,HPe,HPz,Nat.reduceAdd,Nat.reduceLT,p_fine6]
 cases hf:Nv bx N with
 | false=>
  simp only [GMb,GMc,HPa,HPc,HPd,HPe,HPz,Nat.reduceAdd,Nat.reduceLT,b1,Vd,if_false,L4,GY]
  rfl
 | true=>
  simp only [GMb,GMc,HPa,HPc,HPd,HPe,HPz,Nat.reduceAdd,Nat.reduceLT,b2,b3,if_true]
  obtain ⟨F,hF⟩:∃F:Aa,F=H++[.cel 0 [.int .i64 bx,.int .i64 N],.cel 0 [.str [],.sl [] .tight],.cel 0 [.str b,.int .i64 0,.str usualL,.sl [] .tight]]:=⟨_,rfl⟩
  have hR:RP H.length (H.length+2) b 0 Tk F:=⟨.sl [] .tight,by omega,by unfold Lx;rw [hF];simp [rdP,Tk],.inl ⟨rfl,rfl⟩⟩
  obtain ⟨H1,c1,c2,c3⟩:=TS hR (by omega) rfl
  rw [hF]at c1
  have hlim:H1[H.length]? = some (.cel 0 [.int .i64 bx,.int .i64 N]):=c2.cel _ _ (by omega) (by rw [hF];simp)
  have hres:H1[H.length+1]? = some (.cel 0 [.str [],.sl [] .tight]):=c2.cel _ _ (by omega) (by rw [hF];simp)
  have hold:∀i,i<H.length→H1[i]? = H[i]? := fun i hi=>by rw [c2.old i hi,hF,UW hi]
  simp only [c1,GMb,GMc]
  have hpos:=allP_er b Tk
  have hcnt:=allP_ok b Tk
  generalize Mw b Tk=A at c3 hpos hcnt
  obtain ⟨⟨er,c⟩,st⟩:=A
  dsimp only at c3 ⊢
  obtain ⟨v,c3⟩:=c3
  have hl1:=(UV.1 hres).1
  cases er with
  | some e=>
   have hpe:=hpos e rfl
   have hres':=A1 (G:=[Blk.cel 0 [.int .i64 e.1,.str e.2]]) hres
   have hst:=OU (sz:=2) (ws:=[.str [],.sl [] .tight]) hres' rfl rfl rfl
   have hset:(H1++[Blk.cel 0 [.int .i64 e.1,.str e.2]]).set (H.length+1) (.cel 0 [.str [],.sl [] .tight])=H1++[Blk.cel 0 [.int .i64 e.1,.str e.2]]:=by
    apply W6
    intro i
    by_cases hi:H.length+1=i
    ·subst hi
     rw [Vj (by simp;omega),hres']
    ·rw [UX hi]
   rw [hset]at hst
   have hld:=Pn (sz:=2) hres' rfl
   have hat:=CN (o:=1) (sz:=1) (A1 (G:=[Blk.cel 0 [.int .i64 e.1,.str e.2]]) c3.lx)
   have htk:(H1++[Blk.cel 0 [.int .i64 e.1,.str e.2]]).take H.length=H:=C8 fun i hi=>by rw [UW (by omega)];exact hold i hi
   by_cases he:e.1=0
   ·exact absurd he (by omega)
   ·have hne:(!decide (e.1=0))=true:=by simp [he]
    simp only [Pr,GMb,GMc,HPa,HPc,HPd,HPe,HPz,Nat.reduceAdd,Nat.reduceLT,hne,b1,hst,hat,Fd,JA,hld,GI htk,L4,GY]
    rfl
  | none=>
   have hc1:st.cells.length≤b.length:=by have:=hcnt.1;dsimp only [Tk]at this;simp only [List.length_nil]at this;omega
   have hc2:∀c∈st.cells,c.ok:=hcnt.2 (fun c hc=>by cases hc)
   obtain ⟨tk,hv⟩:=c3.row.sl
   have hof:=fun K=>p_cellsC st.cells tk K (by omega) hc2
   have hld3:=CN (o:=3) (sz:=1) (A1 (G:=[Blk.cel 0 [.int .i64 0,.str []]]) c3.lx)
   have hld2:=fun G=>CN (o:=2) (sz:=1) (A1 (G:=G) (A1 (G:=[Blk.cel 0 [.int .i64 0,.str []]]) c3.lx))
   obtain ⟨K,hK⟩:∃K,K=H1++[Blk.cel 0 [.int .i64 0,.str []]]:=⟨_,rfl⟩
   have hKr:K[H.length+1]? = some (.cel 0 [.str [],.sl [] .tight]):=by rw [hK];exact A1 hres
   have hKm:K[H.length]? = some (.cel 0 [.int .i64 bx,.int .i64 N]):=by rw [hK];exact A1 hlim
   have hKo:∀i,i<H.length→K[i]? = H[i]? := fun i hi=>by rw [hK,UW (by omega)];exact hold i hi
   have hKl:H.length+1<K.length:=(UV.1 hKr).1
   rw [←hK]at hld3 hld2
   have bad:∀L:List Nd,((AD (some [(.str []),(.sl [] .tight)]) []).bind fun x57=>
 (CG (.str b)).bind fun x58=>
 bP H (AF (Ag 2 (.ptr (H.length+1) 0 0) x57 (K++[.cel 0 [.sl (enL cNd L) .no]]))) fun _ H60=>
 (Fy [Ac true 2 (.ptr (H.length+1) 0 0) H60,some x58,some (.int .i64 4)]).bind fun x61=>rPN H x61 H60)=some (.ret (L4 (([],[]),(b.length:Int),4)),H):=by
    intro L
    have hr':=A1 (G:=[Blk.cel 0 [.sl (enL cNd L) .no]]) hKr
    have hst:=OU (sz:=2) (ws:=[.str [],.sl [] .tight]) hr' rfl rfl rfl
    have hld:=Pn (sz:=2) (H:=(K++[Blk.cel 0 [.sl (enL cNd L) .no]]).set (H.length+1) (.cel 0 [.str [],.sl [] .tight])) (p:=H.length+1) (cs:=[.str [],.sl [] .tight]) (by rw [Vj (by simp;omega)]) rfl
    have htk:((K++[Blk.cel 0 [.sl (enL cNd L) .no]]).set (H.length+1) (.cel 0 [.str [],.sl [] .tight])).take H.length=H:=C8 fun i hi=>by rw [UX (by omega),UW (by omega)];exact hKo i hi
    simp only [b1,GMb,GMc,HPa,HPc,HPd,HPe,HPz,Nat.reduceAdd,Nat.reduceLT,hst,hld,GI htk,L4,GY]
    rfl
   have hld3':Ac false 1 (.ptr (H.length+2) 0 3) K=some (.sl (enL cCl st.cells) tk):=by rw [hld3,hv];rfl
   have hld2':∀G,Ac false 1 (.ptr (H.length+2) 0 2) (K++G)=some (.str st.law):=fun G=>hld2 G
   simp only [Pr,GMb,GMc,HPa,HPc,HPd,HPe,HPz,Nat.reduceAdd,Nat.reduceLT]
   rw [←hK]
   simp only [GMb,GMc,HPa,HPc,HPd,HPe,HPz,Nat.reduceAdd,Nat.reduceLT,hld3',hof]
   generalize Dq st.cells=O
   obtain ⟨Q,e⟩:=O
   dsimp only
   have hbad:=bad Q
   have hlim':=CN (o:=1) (sz:=1) (A1 (G:=[Blk.cel 0 [.sl (enL cNd Q) .no]]) hKm)
   simp only [GMb,GMc,HPa,HPc,HPd,HPe,HPz,Nat.reduceAdd,Nat.reduceLT,quad_eq6]at hbad ⊢
   by_cases he:e=0
   ·subst he
    by_cases hlen:(Q.length:Int)≤N
    ·have hgt:¬(Q.length:Int)>N:=by omega
     have hr':=A1 (G:=[Blk.cel 0 [.sl (enL cNd Q) .no]]) hKr
     have hst:=OU (sz:=2) (ws:=[.str st.law,.sl (enL cNd Q) .no]) hr' rfl rfl rfl
     have hld:=Pn (sz:=2) (H:=(K++[Blk.cel 0 [.sl (enL cNd Q) .no]]).set (H.length+1) (.cel 0 [.str st.law,.sl (enL cNd Q) .no])) (p:=H.length+1) (cs:=[.str st.law,.sl (enL cNd Q) .no]) (by rw [Vj (by simp;omega)]) rfl
     have htk:((K++[Blk.cel 0 [.sl (enL cNd Q) .no]]).set (H.length+1) (.cel 0 [.str st.law,.sl (enL cNd Q) .no])).take H.length=H:=C8 fun i hi=>by rw [UX (by omega),UW (by omega)];exact hKo i hi
     have hbd:AD (some [(.str []),(.sl [] .tight)]) [(0,1,.str st.law),(1,1,.agg [.sl (enL cNd Q) .no])]=some (.agg [.str st.law,.sl (enL cNd Q) .no]):=rfl
     simp only [GMb,GMc,HPa,HPc,HPd,HPe,HPz,Nat.reduceAdd,Nat.reduceLT,Au,hlim',Fd,JA,hgt,hlen,hld2',hbd,hst,hld,GI htk,L4,GY,if_true]
    ·have hgt:(Q.length:Int)>N:=by omega
     simp only [GMb,GMc,HPa,HPc,HPd,HPe,HPz,Nat.reduceAdd,Nat.reduceLT,Au,hlim',Fd,JA,hgt,hlen,Vd,if_false]at hbad ⊢
     exact hbad
   ·have hne:(!decide (e=0))=true:=by simp [he]
    simp only [GMb,GMc,HPa,HPc,HPd,HPe,HPz,Nat.reduceAdd,Nat.reduceLT,he,hne,Vd,if_false,Wo]at hbad ⊢
    exact hbad
theorem NV (b:List UInt8) (H:Aa) (hb:b.length<600000000):Sh.fw (.str b) H=some (.ret (.tup [.str (Uz b).1,.bool (Uz b).2]),H):=by
 have b2:∀s,AD (some [(.str []),(.int .i64 0)]) [(0,1,.str s)]=some (.agg [.str s,.int .i64 0]):=fun _=>rfl
 have b3:∀s,AD (some [(.str []),(.int .i64 0),(.str []),(.sl [] .tight)]) [(0,2,.agg [.str s,.int .i64 0])]=some (.agg [.str s,.int .i64 0,.str [],.sl [] .tight]):=fun _=>rfl
 unfold Sh.fw Uz
 simp only [GMb,GMc,HPa,HPc,HPd,HPe,HPz,Nat.reduceAdd,Nat.reduceLT,b2,b3]
 obtain ⟨F,hF⟩:∃F:Aa,F=H++[.cel 0 [.str b,.int .i64 0,.str [],.sl [] .tight]]:=⟨_,rfl⟩
 have hR:RP H.length H.length b 0 ⟨[],[]⟩ F:=⟨.sl [] .tight,Va _,by unfold Lx;rw [hF];simp [rdP],.inl ⟨rfl,rfl⟩⟩
 obtain ⟨H1,c1,c2,c3⟩:=TS hR (by omega) rfl
 rw [hF]at c1
 have hlen:H.length≤H1.length:=by have:=c2.len;rw [hF]at this;simp at this;omega
 have hold:∀i,i<H.length→H1[i]? = H[i]? := fun i hi=>by rw [c2.old i hi,hF,UW hi]
 have htk:∀G,(H1++G).take H.length=H:=fun G=>C8 fun i hi=>by rw [UW (by omega)];exact hold i hi
 simp only [c1,GMb,GMc]
 cases (Mw b ⟨[],[]⟩).1.1 with
 | none=>
  simp only [Pr,GMb,GMc,HPa,HPc,HPd,HPe,HPz,Nat.reduceAdd,Nat.reduceLT]
  exact FT rfl (htk _)
 | some e=>
  by_cases h0:e.1=0
  ·simp only [Pr,GMb,GMc,HPa,HPc,HPd,HPe,HPz,Nat.reduceAdd,Nat.reduceLT,h0]
   exact FT rfl (htk _)
  ·simp only [Pr,GMb,GMc,HPa,HPc,HPd,HPe,HPz,Nat.reduceAdd,Nat.reduceLT,h0]
   exact FT rfl (htk _)
section
variable {b:List UInt8} {er:Er} {c:Nat}
end
section
variable {H:Aa} {b:List UInt8} {bx N:Int} {er:Er} {c:Nat} {st:PSt} {v:Ab} {K:Aa}
end
section
variable {H:Aa} {b:List UInt8} {bx N:Int} {er:Er} {c:Nat} {st:PSt} {v:Ab} {K:Aa}
end
def Jk (s0:List UInt8) (l:List Cl):List UInt8:=l.foldl (fun s c=>s++DA c.x++[32]++DA c.y++[10]) s0
def Fc (rule:List UInt8):List UInt8:=[35,76,105,102,101,32,49,46,48,54,10,35,82,32]++rule++[10]
def Ip (rule:List UInt8) (L:List Nd):List UInt8:=Jk (Fc rule) (J4 L 1000000).1
theorem Qp (s0:List UInt8) (l:List Cl) {i:Nat} (hi:i<l.length):Jk s0 (l.take (i+1))=Jk s0 (l.take i)++DA l[i].x++[32]++DA l[i].y++[10]:=by
 unfold Jk
 rw [Vf hi,WY];rfl
theorem Se (s0:List UInt8) (l:List Cl) (h:∀c∈l,(DA c.x).length≤5000∧(DA c.y).length≤5000):∀i,i≤l.length→(Jk s0 (l.take i)).length≤s0.length+i*10002
 | 0,_=>by simp [Jk]
 | i+1,hi=>by
  have ih:=Se s0 l h i (by omega)
  have h2:=h l[i] (Vi hi)
  rw [Qp s0 l hi]
  simp only [Vc,List.length_singleton]
  omega
theorem listO_mem {L:List Nd} (hl:AE L=true) (most:Int) (h0:0≤most) (h1:most≤500000000000):((J4 L most).1.length:Int)≤most∧∀c∈(J4 L most).1,SB 42 c.x∧SB 42 c.y:=by
 unfold J4
 by_cases hc:HC L>most
 ·rw [if_pos hc];exact ⟨h0,fun c hc=>by cases hc⟩
 ·rw [if_neg hc]
  by_cases hn:L=[]
  ·rw [if_pos hn];exact ⟨h0,fun c hc=>by cases hc⟩
  ·rw [if_neg hn]
   have hab:=SH hl hn
   have hcl:=NF hl hn
   have hm:=EH (l:=Dd L) (Dd L).length (Va _)
   rw [Vg (Va _)]at hm
   have hsb:=UN (L:=L) _ L.length _ _ hab hab
   refine ⟨?_,fun c hc=>?_⟩
   ·have h2:(AU (Dd L)).length≤(CH (Dd L)).length:=Wi _ _
    show ((AU (Dd L)).length:Int)≤most
    omega
   ·have h3:c∈CH (Dd L):=(VT.1 hc).1
    exact hsb c (hm.2 c h3)
theorem TV (rule:List UInt8) (L:List Nd) (b n:Int) (H:Aa) (hr:rule.length<35184372088832) (hL:L.length<549755813888) (h0:-9223372036854775808≤b) (h1:b≤9223372036854775807) :
  Sh.fv (pat rule L) (.agg (Io b n)) H=some (.ret (if I3 3 rule L b n=0 then .tup [.str (Ip rule L),.int .i64 0]else .tup [.str [],.int .i64 (I3 3 rule L b n)]),H):=by
 unfold Sh.fv
 have hbx:∀H,B8 true 2 (.agg (Io b n)) H=some (.ptr H.length 0 0,H++[.cel 0 (Io b n)]):=fun H=>Cm rfl rfl
 have e3:(H++[Blk.cel 0 (Fm rule L)]++[Blk.cel 0 (Io b n)])[H.length]? = some (.cel 0 (Fm rule L)):=by simp
 have g5:Ac true 2 (.ptr (H++[Blk.cel 0 (Fm rule L)]).length 0 0) (H++[Blk.cel 0 (Fm rule L)]++[Blk.cel 0 (Io b n)])=some (.agg (Io b n)):=by
  simp only [Ac,AA (Ap (B:=H++[Blk.cel 0 (Fm rule L)])),Option.bind_some];rfl
 have hck:=fun H=>q11_check 3 rule L b n H (by omega) hL h0 h1
 simp only [GMb,GMc,boxPat,hbx,MG e3,g5,hck]
 by_cases he:I3 3 rule L b n=0
 ·obtain ⟨hl,b0,b1,hw,_,_⟩:=check_ok he (by decide)
  rw [if_pos he]
  have hli:=fun H=>q07_List L 1000000 H hL hl (by omega) (by omega)
  have hrl:=Sa e3
  simp only [he,GMb,GMc,Ah,UY,Nat.add_zero,Kk e3,hli,B3,BB,hrl]
  rw [FA (by simp;omega)]
  simp only [GMb,GMc]
  rw [FA (by simp;omega)]
  simp only [GMb,GMc]
  obtain ⟨m1,m2⟩:=listO_mem hl 1000000 (by omega) (by omega)
  unfold Ip
  generalize (J4 L 1000000).1=l at *
  have hd:∀c∈l,(DA c.x).length≤5000∧(DA c.y).length≤5000:=fun c hc=>⟨(sb_dec ((m2 c hc).1.mono (by omega))).2,(sb_dec ((m2 c hc).2.mono (by omega))).2⟩
  have hhl:(Fc rule).length≤35184372088932:=by unfold Fc;simp;omega
  rw [Vb H]
  generalize hG:[Blk.cel 0 (Fm rule L)]++[Blk.cel 0 (Io b n)]=G
  refine Cg (G:=fun rec1 vs H1=>Sh.f5w H rec1 (ag vs 0) (ag vs 1) (ag vs 2) H1) l.length (fun i=>[.sl (enL cCl l) .no,.str (Jk (Fc rule) (l.take i)),.int .i64 (i:Int)]) (fun _=>H++G) _ (by omega) (fun rec i hi=>?_) (fun rec=>?_)
  ·have hi':(i:Int)<(l.length:Int):=by omega
   have hws:=Aw (show i<9223372036854775807 by omega)
   have hb:=Se (Fc rule) l hd i (by omega)
   have h2:=hd l[i] (Vi hi)
   have h3:=m2 l[i] (Vi hi)
   have tx:=fun H=>q03_text l[i].x H (sb_dec (h3.1.mono (show 42≤44 by omega))).1
   have ty':=fun H=>q03_text l[i].y H (sb_dec (h3.2.mono (show 42≤44 by omega))).1
   rw [Qp _ l hi]
   unfold Sh.f5w
   simp only [GMb,GMc,Au,hi',Ay hi,Al,UY,Nat.add_zero,Oj,Oi,tx,ty',and_true,eq_self]
   iterate 4
    rw [FA (by first | omega | (simp;omega))]
    simp only [GMb,GMc,hws]
  ·unfold Sh.f5w
   rw [Vg (Va _)]
   simp only [GMb,GMc,Au,VV]
   exact rP_plain (v:=.tup [.str (Jk (Fc rule) l),.int .i64 0]) rfl
 ·rw [if_neg he]
  simp only [he,GMb,GMc]
  rw [Vb]
  exact rP_plain (v:=.tup [.str [],.int .i64 (I3 3 rule L b n)]) rfl
set_option maxRecDepth 100000
def s6A:List UInt8:=[35,76,105,102,101,32,49,46,48,54,13,10,49,32,45,50,10,35,82,32,97,98,99,10,49,32,45,50]
def s6B:List UInt8:=[35,76,105,102,101,32,49,46,48,54,10,49,32,32,50]
def s6C:List UInt8:=[35,76,105,102,101,32,49,46,48,54,10,49,50]
def s6D:List UInt8:=[35,76,105,102,101,32,49,46,48,54,10,10]
def s6T:List UInt8:=[35,76,105,102,101,32,49,46,48,54,10,35,82,32,97,98,99,10,49,32,45,50,10]
def l6A:List Nd:=Dq [⟨1,-2,1⟩,⟨1,-2,1⟩] |>.1
theorem y6A:NS s6A 1000 100000=(([97,98,99],l6A),0,0):=by decide +kernel
theorem y6T:I3 3 [97,98,99] l6A 1000 100000=0:=by decide +kernel
theorem y6W:Ip [97,98,99] l6A=s6T:=by decide +kernel
theorem y6B:NS s6B 1000 100000=(([],[]),13,2):=by decide +kernel
theorem y6C:Uz s6C=([32,49],true):=by decide +kernel
theorem y6C2:(NS (s6C++[32,49]) 1000 100000).2.2=0:=by decide +kernel
theorem y6D:(Uz s6D).2=false:=by decide +kernel
theorem l6A_len:l6A.length<1000:=by decide +kernel
theorem TW (H:Aa):Sh.fq H=some (.ret (.agg [.int .i64 1000,.int .i64 100000]),H):=by
 have hb:AD (some [(.int .i64 0),(.int .i64 0)]) [(0,1,(.int .i64 1000)),(1,1,(.int .i64 100000))]=some (.agg [.int .i64 1000,.int .i64 100000]):=rfl
 unfold Sh.fq
 simp only [GMb,GMc,HPa,HPc,HPd,HPe,HPz,Nat.reduceAdd,Nat.reduceLT,hb]
theorem q17_alive (H:Aa):Sh.fx H=some (.ret (.bool true),H):=by
 have hA:=fun K=>HJ s6A 1000 100000 K (by decide)
 have hB:=fun K=>HJ s6B 1000 100000 K (by decide)
 have hC:=fun K=>NV s6C K (by decide)
 have hC2:=fun K=>HJ (s6C++[32,49]) 1000 100000 K (by decide)
 have hD:=fun K=>NV s6D K (by decide)
 have hl:=l6A_len
 have hT:=fun K=>TV [97,98,99] l6A 1000 100000 K (by decide) (by omega) (by decide) (by decide)
 have hx2:=y6C2
 generalize NS (s6C++[32,49]) 1000 100000=R at hC2 hx2
 obtain ⟨⟨r1,r2⟩,r3,r4⟩:=R
 dsimp only at hx2
 subst hx2
 have hd2:=y6D
 generalize Uz s6D=D at hD hd2
 obtain ⟨d1,d2⟩:=D
 dsimp only at hd2
 subst hd2
 have hadd:Ae .none .add (.str s6C) (.str [32,49])=some (.str (s6C++[32,49])):=FA (by decide)
 rw [y6A]at hA
 rw [y6B]at hB
 rw [y6C]at hC
 rw [if_pos y6T,y6W]at hT
 generalize l6A=LA at hA hT
 have hlim:Io 1000 100000=[.int .i64 1000,.int .i64 100000]:=rfl
 rw [hlim]at hT
 simp only [L4,GY]at hA hB hC2 hT
 dsimp only at hC hD
 unfold Sh.fx
 rw [show ([35,76,105,102,101,32,49,46,48,54,13,10,49,32,45,50,10,35,82,32,97,98,99,10,49,32,45,50]:List UInt8)=s6A from rfl,show ([35,76,105,102,101,32,49,46,48,54,10,49,32,32,50]:List UInt8)=s6B from rfl,
  show ([35,76,105,102,101,32,49,46,48,54,10,49,50]:List UInt8)=s6C from rfl,show ([35,76,105,102,101,32,49,46,48,54,10,10]:List UInt8)=s6D from rfl,show ([35,76,105,102,101,32,49,46,48,54,10,35,82,32,97,98,99,10,49,32,45,50,10]:List UInt8)=s6T from rfl]
 simp only [Sl.gliderref11_Wide_eq,Sl.life6_Read_eq,Sl.gliderref12_Life6_eq,Sl.life6_Hint_eq,GMb,GMc,HPa,HPc,HPd,HPe,HPz,Nat.reduceAdd,Nat.reduceLT,TW,hA,hB,hC,hadd,hC2,hD,hT,Ms,beq_self_eq_true]
theorem canonL_len {L:List Nd} {n:Nat} (hL:L.length<3518437200000) (hl:AE L=true) (hn:n≤L.length):(I5 L n).length≤L.length+1330:=by
 obtain ⟨s1,s2,s3⟩:=OW hl hn
 unfold I5
 generalize D6 L n=s at s1 s2 s3
 obtain ⟨M,r⟩:=s
 dsimp only at s1 s2 s3 ⊢
 obtain ⟨H',D',w',v1,v2,v3,v4,v5⟩:=TY (L:=M) .no .no 0 0 (by omega) s1 (A0 M (r:Int)).lv.toNat r ((A0 M (r:Int)).lv.toNat+1) [] (List.replicate (M.length+1) 0) (.sl [] .tight) [.cel 0 (flat cN (List.replicate (M.length+1) 0))]
  s2 (.inr rfl) (Yh _) (Va _) (by simp) ⟨.inl ⟨rfl,rfl⟩,rfl⟩ ⟨by simp,by simp,fun j dd hj hdd=>by
   have:=Vz hj
   rw [Xd]at this;omega⟩
 have:=v4.le
 omega
theorem of07_len (l:List Cl) (hl:l.length≤1000000):(Dq l).1.length≤l.length*1329+2000:=by
 rw [QU]
 unfold Np
 have hS:(AU l).length≤l.length:=by
  have h1:(AU l).length≤(CH l).length:=Wi _ _
  have h2:=(EH (l:=l) l.length (Va _)).1
  rw [Vg (Va _)]at h2
  omega
 generalize AU l=S at hS
 split
 ·simp
 ·rename_i hv
  have hp:=Ph (A2 S) [] (-(2^(A2 S-1))) (-(2^(A2 S-1))) S
  generalize AO (A2 S) [] (-(2^(A2 S-1))) (-(2^(A2 S-1))) S=p at hp
  have h1:S.length*A2 S≤l.length*1329:=X7 hS (by omega)
  simp only [List.length_nil,UY]at hp
  split
  ·rename_i ho
   simp only [RO,Vh,decide_eq_true_eq]at ho
   have:=canonL_len (L:=p.1) (n:=p.2) (by omega) ho.1.1 (by omega)
   show (I5 p.1 p.2).length≤_
   omega
  ·simp
theorem quad07_len {most:Int} {l:List RC} (hm:most≤1000000):(Fl most l).1.length≤1400000000:=by
 unfold Fl
 split
 ·simp
 ·rename_i hg
  have h1:(l.length:Int)≤most:=by
   simp only [Jn,Wa,not_or,decide_eq_true_eq]at hg
   omega
  split
  ·have:=of07_len (l.map RC.cl) (by simp;omega)
   simp only [We]at this
   show (Dq (l.map RC.cl)).1.length≤_
   omega
  ·simp
theorem quad07_ok {most:Int} {l:List RC}:Do (Fl most l).1=true:=by
 unfold Fl
 split
 ·rfl
 ·split
  ·exact quad07_right (most:=most)
  ·rfl
theorem maxK_ge (m:Int) (x:Nd):∀k,m≤N8 m x k∧∀j,j<k→x.kid j≤N8 m x k
 | 0=>⟨WJ _,fun j h=>by omega⟩
 | k+1=>by
  obtain ⟨h1,h2⟩:=maxK_ge m x k
  unfold N8
  refine ⟨by omega,fun j hj=>?_⟩
  by_cases e:j=k
  ·subst e;omega
  ·have:=h2 j (by omega);omega
theorem Ui:∀(L:List Nd) (m:Int),m≤L.foldl (fun m x=>if x.lv=1 then N8 m x 4 else m) m∧∀x∈L,x.lv=1→∀k,k<4→x.kid k≤L.foldl (fun m x=>if x.lv=1 then N8 m x 4 else m) m
 | [],m=>⟨WJ _,fun x h=>by cases h⟩
 | y::L,m=>by
  obtain ⟨h1,h2⟩:=Ui L (if y.lv=1 then N8 m y 4 else m)
  have h3:=maxK_ge m y 4
  rw [List.foldl_cons]
  refine ⟨?_,fun x hx hlv k hk=>?_⟩
  ·split at h1 <;> rename_i hy <;> simp only [hy,if_true,if_false] <;> omega
  ·rcases V7.1 hx with rfl | hx
   ·have:=h3.2 k hk
    rw [if_pos hlv]at h1 ⊢
    omega
   ·exact h2 x hx hlv k hk
theorem most_kid {L:List Nd} {x:Nd} (h:x∈L) (hl:x.lv=1) {k:Nat} (hk:k<4):x.kid k≤Il L:=(Ui L 0).2 x h hl k hk
theorem SL {L:List Nd} (hl:AE L=true):∀(v n:Nat) (x y:Int),Lv L v n→∀c∈BU L v (n:Int) x y,(c.s.toNat:Int)≤Il L
 | 0,n,x,y,h,c,hc=>by cases hc
 | v+1,n,x,y,h,c,hc=>by
  rcases Wp n with h0 | h0
  ·subst h0
   rw [show ((0:Nat):Int)=0 from rfl,FW]at hc;cases hc
  ·obtain ⟨hlv,_⟩:=h.num h0 hl
   unfold BU at hc
   rw [if_neg (by omega),Xr]at hc
   obtain ⟨k,hk,hc⟩:=hc
   have hk4:k<4:=by simpa using hk
   unfold De at hc
   split at hc
   ·rename_i h1
    obtain ⟨k1,k2,k3⟩:=Lv.kid hl h0 h h1 hk4
    rw [←XW k3]at hc
    exact SL hl v _ _ _ k1 c hc
   ·rename_i h1
    split at hc
    ·rename_i hp
     rw [Vs]at hc
     subst hc
     obtain ⟨m,rfl⟩:∃m,n=m+1:=⟨n-1,by omega⟩
     have hm:m<L.length:=h.1
     have hat:=Ba hm
     obtain ⟨l1,l2,l3⟩:=AJ hl hm
     rw [hat]at h1 hp ⊢
     have hlv1:L[m].lv=1:=by omega
     have hle:=most_kid (Vi hm) hlv1 hk4
     have h255:L[m].kid k≤255:=by
      exact (l3 k hk4).2.1 hlv1
     show ((UInt8.ofNat (L[m].kid k).toNat).toNat:Int)≤_
     rw [Wy (show (L[m].kid k).toNat<256 by omega)]
     omega
    ·cases hc
theorem cellsL_most {L:List Nd} (hl:AE L=true):∀c∈Dd L,(c.s.toNat:Int)≤Il L:=by
 intro c hc
 unfold Dd at hc
 exact SL hl (BM L).toNat L.length _ _ ⟨Va _,.inr rfl⟩ c hc
theorem rule_line {b rule t:List UInt8} {a:Nat} (h:b.drop a=35::82::32::(rule++10::t)) (hr:Hi rule=true) (st:PSt):Q7 b a st=((none,a+3+rule.length+1),{ st with law:=rule }):=by
 unfold Hi at hr
 rw [Vh,decide_eq_true_eq]at hr
 obtain ⟨hs,hr1,hr2⟩:=hr
 have h0:b.drop a=Nn++(rule++10::t):=h
 have hm:=must_app h0 [97]
 have h3:b.drop (a+3)=rule++10::t:=Iy h0
 have hrun:=rule_run h3 hs hr2 40 0 (Vy _) (by omega)
 rw [Nat.add_zero]at hrun
 have hru:NP b (a+3) []=(none,a+3+rule.length):=by
  unfold NP
  rw [hrun,if_neg (by omega)]
 have hlaw:(b.take (a+3+rule.length)).drop (a+3)=rule:=cut_at h3
 have h10:=Iy h3
 unfold Q7 Om lawP endP
 rw [DO h,if_pos (by decide),hm]
 dsimp only
 rw [show a+Nn.length=a+3 from rfl,hru]
 dsimp only
 rw [hlaw,end_lf h10]
def KS (rule:List UInt8):List UInt8:=[35,82,32]++rule++[10]
theorem law_all (rule:List UInt8) (l:List (Cl×Bool)) (hr:Hi rule=true) (hs:∀p∈l,p.1.shrt) :
  Mw (Qr++(KS rule++IB l)) Tk=((none,(Qr++(KS rule++IB l)).length),⟨rule,plsC l⟩):=by
 have h0:(Qr++(KS rule++IB l)).drop 0=FL++10::(KS rule++IB l):=rfl
 have h1:=must_app h0 []
 have h2:=Iy h0
 have h3:=end_lf h2 []
 have h4:=(Hr h2).2.2
 have h5:(Qr++(KS rule++IB l)).drop (0+FL.length+1)=35::82::32::(rule++10::IB l):=by rw [h4];simp [KS]
 have h6:=rule_line h5 hr Tk
 have hlt:=(Hr h5).1
 have hrl:(KS rule).length=rule.length+4:=by simp [KS]
 have h7:(Qr++(KS rule++IB l)).drop (0+FL.length+1+3+rule.length+1)=IB l:=by
  have:=Iy (s:=KS rule) h4
  rw [hrl]at this
  rw [show 0+FL.length+1+3+rule.length+1=0+FL.length+1+(rule.length+4)by omega];exact this
 unfold Mw
 rw [h1]
 dsimp only
 rw [h3]
 dsimp only
 unfold Gk
 rw [if_neg (by omega),h6]
 dsimp only
 rw [Qh l _ _ _ hs h7 (by simp [Qr,FL,hrl];omega) (by have:=plsT_len l;simp;omega)]
 simp [Tk]
theorem Sd (s:List UInt8) (S:List Cl):Jk s S=s++IB (S.map fun c=>(c,false)):=by
 unfold Jk IB
 induction S generalizing s with
 | nil=>simp
 | cons c S ih=>
  rw [List.foldl_cons,ih,WA,Xm]
  simp [plT,S5]
theorem int_digs {z:Int} {e d:Nat} (he:(2:Nat)^e<10^d) (hd:d≠0) (h1:-(2^e)≤z) (h2:z<2^e):(Dx z.natAbs).length≤d:=by
 have h3:z.natAbs≤2^e:=by
  have e':(2:Int)^e=((2^e:Nat):Int):=by rw [Int.natCast_pow];rfl
  rw [e']at h1 h2
  generalize (2:Nat)^e=p at h1 h2
  omega
 have:=PI d z.natAbs (VN h3 he)
 rw [if_neg hd]at this;exact this
theorem p1328:(2:Nat)^(1329-1)<10^400:=by decide +kernel
theorem Sf {S:List Cl} (hv:A2 S≤1329):∀c∈S,c.shrt:=by
 intro c hc
 have hp:=p1328
 have h0:=LL hv c hc
 revert hv hp
 generalize 1329=w
 intro hv hp
 have h:=PY h0 hv
 unfold DV inZ at h
 simp only [Vh,decide_eq_true_eq]at h
 exact ⟨int_digs hp (by decide) h.1.1 h.1.2,int_digs hp (by decide) h.2.1 h.2.2⟩
theorem places_back {rule:List UInt8} {l:List Cl} (hr:Hi rule=true) (hv:A2 (AU l)≤1329) (hn:l.length≤30) (hm:Il (Dq l).1≤1) :
  NS (Ip rule (Dq l).1) 1000 100000=((rule,(Dq l).1),0,0):=by
 obtain ⟨h1,h2,h3,h4⟩:=N3 hv
 have hll:=MJ l
 have hcount:=quad_count hv
 have hlist:=Pe hv
 have hag:=quad_again hv
 have hlo:=Gd h3
 have hlen:=of07_len l (by omega)
 have hst:∀c∈AU l,c.s=1:=fun c hc=>by
  have q1:=cellsL_most hlo c ((h1 c).2 hc)
  have q2:=J5 hc
  have q3:c.s.toNat≠0:=fun h=>q2 (W8.1 (by simpa using h))
  exact W8.1 (by show c.s.toNat=1;omega)
 have hO:(J4 (Dq l).1 1000000).1=AU l:=by
  unfold J4
  by_cases he:(Dq l).1=[]
  ·have hc0:¬HC (Dq l).1>1000000:=by rw [he];decide
   rw [if_neg hc0,if_pos he,h2.1 he]
  ·have:=NF hlo he
   rw [if_neg (by omega),if_neg he,hlist]
 have ht:Ip rule (Dq l).1=Qr++(KS rule++IB ((AU l).map fun c=>(c,false))):=by
  unfold Ip
  rw [hO,Sd]
  simp [Fc,KS,Qr]
 have hC:plsC ((AU l).map fun c=>(c,false))=AU l:=by
  unfold plsC
  rw [Yb]
  have:∀c∈AU l,((fun p:Cl×Bool=>(⟨p.1.x,p.1.y,1⟩:Cl)) ∘ fun c=>(c,false)) c=c:=fun c hc=>by
   have:=hst c hc
   obtain ⟨cx,cy,cs⟩:=c
   simp only at this
   subst this;rfl
  exact (X0 this).trans (List.map_id _)
 have hall:=law_all rule ((AU l).map fun c=>(c,false)) hr (fun p hp=>by
  obtain ⟨c,hc,rfl⟩:=Wz.1 hp
  exact Sf hv c hc)
 rw [hC]at hall
 rw [hlist]at hag
 unfold NS
 rw [if_pos (by decide),ht,hall]
 dsimp only
 rw [hag,h4,if_pos (by simp;omega)]
theorem plsT_le (l:List (Cl×Bool)) (h:∀p∈l,p.1.shrt):(IB l).length≤l.length*810:=by
 induction l with
 | nil=>simp [IB]
 | cons p l ih=>
  have h1:=h p (by simp)
  have hy:∀z:Int,(Dx z.natAbs).length≤400→(DA z).length≤401:=fun z h=>by
   unfold DA
   split
   ·rw [List.length_cons];omega
   ·omega
  have h2:=hy _ h1.1
  have h3:=hy _ h1.2
  have h4:(S5 p.2).length≤2:=by cases p.2 <;> decide
  have:=ih fun q hq=>h q (by simp [hq])
  rw [Pf]
  simp [plT];omega
theorem life6T_len {rule:List UInt8} {l:List Cl} (hr:rule.length≤100) (hv:A2 (AU l)≤1329) (hn:l.length≤30):(Ip rule (Dq l).1).length≤100000:=by
 have hll:=MJ l
 have hlist:=Pe hv
 unfold Ip
 rw [Sd]
 have hO:(J4 (Dq l).1 1000000).1=[]∨(J4 (Dq l).1 1000000).1=AU l:=by
  unfold J4
  split
  ·exact .inl rfl
  ·split
   ·exact .inl rfl
   ·exact .inr hlist
 rcases hO with e | e
 ·rw [e];simp [IB,Fc];omega
 ·rw [e]
  have:=plsT_le ((AU l).map fun c=>(c,false)) fun p hp=>by
   obtain ⟨c,hc,rfl⟩:=Wz.1 hp
   exact Sf hv c hc
  simp [Fc]at this ⊢;omega
theorem quad07_of {most:Int} {l:List RC} (h:(Fl most l).2=true) (hm:most≤30):(Fl most l).1=(Dq (l.map RC.cl)).1∧A2 (AU (l.map RC.cl))≤1329∧(l.map RC.cl).length≤30:=by
 have hg:Jn most l=false:=by
  cases hg:Jn most l with
  | false=>rfl
  | true=>simp [Fl,hg]at h
 have hlen:(l.length:Int)≤most:=by
  unfold Jn at hg
  simp only [Xv,decide_eq_false_iff_not]at hg
  omega
 have hr:l.all RC.right=true:=by
  cases hr:l.all RC.right with
  | true=>rfl
  | false=>simp [Fl,hg,hr]at h
 simp only [Fl,hg,hr]at h ⊢
 refine ⟨by simp,?_,by simp;omega⟩
 have h2:(Dq (l.map RC.cl)).2=0:=by simpa using h
 rw [RQ]at h2
 split at h2
 ·simp at h2
 ·omega
theorem spot_back_ok {rule:List UInt8} {l:List RC} (H:Aa) (hr:rule.length<1152921504606846976) (hll:l.length<1152921504606846976) (hl:∀r∈l,r.lim) :
  Sh.f7g (.str rule) (.sl (enL cRC l) .no) H=some (.ret (.bool true),H):=by
 have hof:=fun K=>q11_of rule l .no 30 K hr (by omega) hll hl
 have hq:=quad07_of (most:=30) (l:=l)
 have hqr:=quad07_ok (most:=30) (l:=l)
 have hq1:=quad07_len (most:=30) (l:=l) (by omega)
 generalize Fl 30 l=Q at hof hq hqr hq1
 obtain ⟨Q,ok⟩:=Q
 dsimp only at hof hq hqr hq1
 simp only [GY]at hof
 unfold Sh.f7g
 simp only [Sl.gliderlaw17_alive_eq,Sl.gliderref11_Wide_eq,Sl.gliderref11_Of_eq,Sl.gliderref11_Express_eq,Sl.gliderref12_Life6_eq,Sl.life6_Read_eq,Sl.gliderref11_Same_eq,GMb,GMc,HPa,HPc,HPd,HPe,HPz,Nat.reduceAdd,Nat.reduceLT,q17_alive,TW,hof,IS]
 by_cases h100:rule.length>100
 ·have hd:decide ((rule.length:Int)>100)=true:=decide_eq_true (by omega)
  simp only [hd,GMb,GMc,HPa,HPc,HPd,HPe,HPz,Nat.reduceAdd,Nat.reduceLT]
 ·have hd:decide ((rule.length:Int)>100)=false:=decide_eq_false (by omega)
  cases hb:ok&&Hi rule with
  | false=>simp only [hd,hb,GMb,GMc,HPa,HPc,HPd,HPe,HPz,Nat.reduceAdd,Nat.reduceLT]
  | true=>
   rw [Vh]at hb
   obtain ⟨hok,hrb⟩:=hb
   obtain ⟨e1,hv,hn⟩:=hq hok (by omega)
   have hlo:=Gd hqr
   have hex:=fun K=>Qg 3 rule Q 1000 100000 K (by omega) hlo (by omega) (by omega)
   have hlim:Io 1000 100000=[.int .i64 1000,.int .i64 100000]:=rfl
   simp only [GY,hlim]at hex
   cases hx:Ix 3 Q 1000 with
   | false=>simp only [hd,GMb,GMc,HPa,HPc,HPd,HPe,HPz,Nat.reduceAdd,Nat.reduceLT,hex,hx]
   | true=>
    have hmo:Il Q≤1:=by
     unfold Ix at hx
     simp at hx
     omega
    have hck:I3 3 rule Q 1000 100000=0:=by
     unfold I3
     rw [hrb,hqr,hx];rfl
    have hT:=fun K=>TV rule Q 1000 100000 K (by omega) (by omega) (by omega) (by omega)
    simp only [GY,hlim,hck,if_true]at hT
    have hlen:(Ip rule Q).length≤100000:=by rw [e1];exact life6T_len (by omega) hv hn
    have hrd:=fun K=>HJ (Ip rule Q) 1000 100000 K (by omega)
    have hback:NS (Ip rule Q) 1000 100000=((rule,Q),0,0):=by
     have:=places_back hrb hv hn (by rw [←e1];exact hmo)
     rw [←e1]at this;exact this
    rw [hback]at hrd
    simp only [L4,GY]at hrd
    have hs:=fun K=>q11_same rule rule Q Q K (by omega)
    simp only [GY]at hs
    simp only [hd,GMb,GMc,HPa,HPc,HPd,HPe,HPz,Nat.reduceAdd,Nat.reduceLT,hex,hx,hT,hrd,hs]
def Shp (P:Program):Nat→TypeId→List Ab→Prop
 | 0,_,_=>False
 | f+1,t,vas=>match P.underlying t with
  | some .bool=>∃b,vas=[.bool b]
  | some (.int k)=>∃n,vas=[.int k n]∧(Lit.int k n).wf=true
  | some .string=>∃s,vas=[.str s]∧s.length≤maxLen
  | some (.slice e)=>∃es,vas=[.sl es .no]∧es.length≤maxLen∧∀x∈es,Shp P f e x
  | some (.struct fs)=>∃ps:List (List Ab),vas=ps.flatten∧ps.length=fs.toList.length∧∀(i:Nat) (fd:Field) (p:List Ab),fs.toList[i]? = some fd→ps[i]? = some p→Shp P f fd.type p
  | some (.array n e)=>∃ps:List (List Ab),vas=ps.flatten∧ps.length=n∧∀p∈ps,Shp P f e p
  | _=>False
def layF (P:Program) (total:Nat):List Field→Nat→Bool
 | [],off=>off == total
 | f::r,off=>f.offset == off&&layF P total r (off+P.cellsOf f.type)
def Q3 (P:Program):Nat→TypeId→Bool
 | 0,_=>false
 | f+1,t=>match P.underlying t with
  | some .bool=>true
  | some (.int _)=>true
  | some .string=>true
  | some (.slice e)=>decide (0<P.cellsOf e)&&Q3 P f e
  | some (.struct fs)=>layF P (P.cellsOf t) fs.toList 0&&fs.toList.all fun fd=>Q3 P f fd.type
  | some (.array n e)=>decide (P.cellsOf t=n*P.cellsOf e)&&Q3 P f e
  | _=>false
theorem RV {α β:Type} {f:α→Option β}:∀ {l:List α} {r:List β},l.mapM f=some r→∀a∈l,∃b,f a=some b
 | [],_,_,a,ha=>by cases ha
 | x::l,r,h,a,ha=>by
  rw [XT]at h
  cases hx:f x with
  | none=>simp [hx]at h
  | some b=>
   cases hl:l.mapM f with
   | none=>simp [hx,hl]at h
   | some bs=>
    rcases V7.1 ha with rfl | ha
    ·exact ⟨b,hx⟩
    ·exact RV hl a ha
theorem RW {α β:Type} {f:α→Option β}:∀ {l:List α} {r:List β},l.mapM f=some r→r.length=l.length∧∀(i:Nat) (a:α),l[i]? = some a→r[i]? = f a
 | [],r,h=>by
  have:r=[]:=by simpa using h.symm
  subst this
  exact ⟨rfl,fun i a ha=>by simp at ha⟩
 | x::l,r,h=>by
  rw [XT]at h
  cases hx:f x with
  | none=>simp [hx]at h
  | some b=>
   cases hl:l.mapM f with
   | none=>simp [hx,hl]at h
   | some bs=>
    have:r=b::bs:=by simpa [hx,hl]using h.symm
    subst this
    obtain ⟨h1,h2⟩:=RW hl
    refine ⟨by simp [h1],fun i a ha=>?_⟩
    cases i with
    | zero=>simp at ha;subst ha;simp [hx]
    | succ i=>simp at ha ⊢;exact h2 i a ha
theorem Env0_I (W:World) (b o:Nat):(Nj W).I b o=W.cell? ⟨b,o,none⟩:=rfl
section
variable {H:Type} {enc:TypeId×Value→H} {P:Program} {w:World} {base:Nat} {spare:Nat→Bool} {held:Bool}
def OpenAt (enc:TypeId×Value→H) (P:Program) (w:World) (base:Nat) (spare:Nat→Bool) (held:Bool) (f fuel:Nat):Prop:=
 ∀(t:TypeId) (cs:List Value) (x:DataW H×List MemPlace),Q3 P f t=true→DataW.trod enc P w base spare held fuel t cs=some x→∃vas,A4 (Nj w) vas cs∧(∀c∈vas,BE c=true)∧Shp P f t vas
theorem Qi {f fuel:Nat} (ih:OpenAt enc P w base spare held f fuel) (cs:List Value):∀(fs:List Field) (off:Nat) (r:List (DataW H×List MemPlace)),layF P cs.length fs off=true→(fs.all fun fd=>Q3 P f fd.type)=true →
  (fs.mapM fun fd=>DataW.trod enc P w base spare held fuel fd.type ((cs.drop fd.offset).take (P.cellsOf fd.type)))=some r→(∀fd∈fs,∀(c:List Value) (x:DataW H×List MemPlace),DataW.trod enc P w base spare held fuel fd.type c=some x→True) →
  ∃ps:List (List Ab),A4 (Nj w) ps.flatten (cs.drop off)∧(∀c∈ps.flatten,BE c=true)∧ps.length=fs.length∧∀(i:Nat) (fd:Field) (p:List Ab),fs[i]? = some fd→ps[i]? = some p→Shp P f fd.type p
 | [],off,r,hlay,_,_,_=>by
  have:off=cs.length:=by simpa [layF]using hlay
  subst this
  exact ⟨[],by simpa using A4.nil _,fun c hc=>by simp at hc,rfl,fun i fd p h=>by simp at h⟩
 | fd::fs,off,r,hlay,hs,hm,ht=>by
  simp only [layF,Vh,beq_iff_eq]at hlay
  obtain ⟨ho,hlay⟩:=hlay
  simp only [List.all_cons,Vh]at hs
  rw [XT]at hm
  cases hx:DataW.trod enc P w base spare held fuel fd.type ((cs.drop fd.offset).take (P.cellsOf fd.type))with
  | none=>simp [hx]at hm
  | some x=>
   cases hl:fs.mapM fun fd=>DataW.trod enc P w base spare held fuel fd.type ((cs.drop fd.offset).take (P.cellsOf fd.type))with
   | none=>simp [hx,hl]at hm
   | some xs=>
    obtain ⟨vas,a1,a2,a3⟩:=ih fd.type _ x hs.1 hx
    obtain ⟨ps,b1,b2,b3,b4⟩:=Qi ih cs fs (off+P.cellsOf fd.type) xs hlay hs.2 hl (fun _ _ _ _ _=>trivial)
    refine ⟨vas::ps,?_,fun c hc=>?_,by simp [b3],fun i fd' p h1 h2=>?_⟩
    ·rw [List.flatten_cons]
     have e:cs.drop off=(cs.drop off).take (P.cellsOf fd.type)++cs.drop (off+P.cellsOf fd.type):=by
      rw [←Wf];exact (VG _ _).symm
     rw [e]
     rw [ho]at a1
     exact a1.append b1
    ·rw [List.flatten_cons]at hc
     rcases Vt.1 hc with hc | hc
     ·exact a2 c hc
     ·exact b2 c hc
    ·cases i with
     | zero=>simp at h1 h2;subst h1;subst h2;exact a3
     | succ i=>exact b4 i fd' p (by simpa using h1) (by simpa using h2)
theorem RN {f fuel:Nat} (ih:OpenAt enc P w base spare held f fuel) {e:TypeId} (hs:Q3 P f e=true) (cs:List Value):∀(d i n:Nat),i+d=n→cs.length=n*P.cellsOf e →
  (∀j,j<n→∃x,DataW.trod enc P w base spare held fuel e ((cs.drop (j*P.cellsOf e)).take (P.cellsOf e))=some x) →
  ∃ps:List (List Ab),A4 (Nj w) ps.flatten (cs.drop (i*P.cellsOf e))∧(∀c∈ps.flatten,BE c=true)∧ps.length=d∧∀p∈ps,Shp P f e p
 | 0,i,n,hi,hl,_=>by
  have:cs.drop (i*P.cellsOf e)=[]:=Xn (by rw [hl,show i=n by omega];exact Va _)
  rw [this]
  exact ⟨[],A4.nil _,fun c hc=>by simp at hc,rfl,fun p h=>by simp at h⟩
 | d+1,i,n,hi,hl,hm=>by
  obtain ⟨x,hx⟩:=hm i (by omega)
  obtain ⟨vas,a1,a2,a3⟩:=ih e _ x hs hx
  obtain ⟨ps,b1,b2,b3,b4⟩:=RN ih hs cs d (i+1) n (by omega) hl hm
  refine ⟨vas::ps,?_,fun c hc=>?_,by simp [b3],fun p hp=>?_⟩
  ·rw [List.flatten_cons]
   have e':cs.drop (i*P.cellsOf e)=(cs.drop (i*P.cellsOf e)).take (P.cellsOf e)++cs.drop ((i+1)*P.cellsOf e):=by
    rw [X3,←Wf];exact (VG _ _).symm
   rw [e']
   exact a1.append b1
  ·rw [List.flatten_cons]at hc
   rcases Vt.1 hc with hc | hc
   ·exact a2 c hc
   ·exact b2 c hc
  ·rcases V7.1 hp with rfl | hp
   ·exact a3
   ·exact b4 p hp
theorem MT {a:Addr} {n:Nat} {r:List Value} (h:w.cells? base a n=some r):r.length=n∧∀j,j<n→w.cell? (a.add j)=r[j]? := by
 unfold World.cells? at h
 split at h
 ·obtain ⟨h1,h2⟩:=RW h
  refine ⟨by simpa using h1,fun j hj=>(h2 j j (Wh hj)).symm⟩
 ·cases h
theorem open_row {f fuel:Nat} (ih:OpenAt enc P w base spare held f fuel) {e:TypeId} (hpos:0<P.cellsOf e) (hs:Q3 P f e=true) (a:Addr) (len cap:Nat) (hc:len≤cap)
  (hm:∀i,i<len→∃x,(w.cells? base (a.add (i*P.cellsOf e)) (P.cellsOf e)).bind (DataW.trod enc P w base spare held fuel e)=some x) :
  ∃es tk,Ax (Nj w) (.sl es tk) (.slice (some a) len cap)∧(tk=.no)∧es.length=len∧∀x∈es,Shp P f e x:=by
 by_cases h0:len=0
 ·subst h0
  exact ⟨[],.no,.sl0 trivial (fun h=>by cases h),rfl,rfl,fun x hx=>by cases hx⟩
 ·have each:∀i,∃vas:List Ab,i<len→∃r,w.cells? base (a.add (i*P.cellsOf e)) (P.cellsOf e)=some r∧A4 (Nj w) vas r∧(∀c∈vas,BE c=true)∧Shp P f e vas:=by
   intro i
   by_cases hi:i<len
   ·obtain ⟨x,hx⟩:=hm i hi
    cases hr:w.cells? base (a.add (i*P.cellsOf e)) (P.cellsOf e)with
    | none=>simp [hr]at hx
    | some r=>
     rw [hr,Option.bind_some]at hx
     obtain ⟨vas,a1,a2,a3⟩:=ih e r x hs hx
     exact ⟨vas,fun _=>⟨r,rfl,a1,a2,a3⟩⟩
   ·exact ⟨[],fun h=>absurd h hi⟩
  obtain ⟨g,hg⟩:=Classical.axiomOfChoice each
  have hg:∀i,i<len→∃r,w.cells? base (a.add (i*P.cellsOf e)) (P.cellsOf e)=some r∧A4 (Nj w) (g i) r∧(∀c∈g i,BE c=true)∧Shp P f e (g i):=hg
  have hsp:a.spot=none:=by
   obtain ⟨r,h1,_⟩:=hg 0 (by omega)
   obtain ⟨h2,h3⟩:=MT h1
   have h4:=h3 0 hpos
   have h5:(a.add (0*P.cellsOf e)).add 0=a:=by simp [Addr.add]
   rw [h5,UU (by omega)]at h4
   unfold World.cell? at h4
   split at h4
   ·split at h4
    ·cases h4
    ·rename_i hh;simpa using hh
   ·cases h4
  obtain ⟨b,o,sp⟩:=a
  simp only at hsp
  subst hsp
  have hadd:∀i j,((⟨b,o,none⟩:Addr).add (i*P.cellsOf e)).add j=⟨b,o+(i*P.cellsOf e+j),none⟩:=fun i j=>by rw [CX,CX,VL]
  refine ⟨(List.range len).map g,.no,?_,rfl,by simp,fun x hx=>?_⟩
  ·have hl:((List.range len).map g).length=len:=by simp
   have key:=Ax.sl (E:=Nj w) (es:=(List.range len).map g) (tk:=.no) (b:=b) (o:=o) (s:=P.cellsOf e) (cap:=cap) (fun i j=>(w.cell? ⟨b,o+(i*P.cellsOf e+j),none⟩).getD default)
    (fun i x hx=>?_) (fun i j hi hj=>?_) (fun i x j c hx hc=>?_) (fun i x j c hx hc=>?_) (by rw [hl];exact hc) trivial
   ·rw [hl]at key;exact key
   ·have hi:i<len:=by have:=(UV.1 hx).1;simpa using this
    rw [V0,Wh hi]at hx
    simp at hx;subst hx
    obtain ⟨r,h1,h2,_⟩:=hg i hi
    rw [h2.1,(MT h1).1]
   ·rw [hl]at hi
    obtain ⟨r,h1,h2,_⟩:=hg i hi
    obtain ⟨h3,h4⟩:=MT h1
    have h5:=h4 j hj
    rw [hadd]at h5
    rw [Env0_I,h5,UU (by omega)];rfl
   ·have hi:i<len:=by have:=(UV.1 hx).1;simpa using this
    rw [V0,Wh hi]at hx
    simp at hx;subst hx
    obtain ⟨r,h1,h2,h6,_⟩:=hg i hi
    exact h6 c (Vz hc)
   ·have hi:i<len:=by have:=(UV.1 hx).1;simpa using this
    rw [V0,Wh hi]at hx
    simp at hx;subst hx
    obtain ⟨r,h1,h2,h6,_⟩:=hg i hi
    obtain ⟨h3,h4⟩:=MT h1
    have hj:j<P.cellsOf e:=by have:=(UV.1 hc).1;rw [h2.1,h3]at this;exact this
    have h5:=h4 j hj
    rw [hadd]at h5
    refine h2.2 j c _ hc ?_
    rw [←h5,h5,UU (by omega)];rfl
  ·simp only [Wz,Xl]at hx
   obtain ⟨i,hi,rfl⟩:=hx
   obtain ⟨r,_,_,_,h7⟩:=hg i hi
   exact h7
theorem NZ {E:Env} {x:Ab} {v:Value} (h:Ax E x v):A4 E [x] [v]:=.cons h (.nil _)
theorem TE:∀(f fuel:Nat),OpenAt enc P w base spare held f fuel
 | 0,_=>fun t cs x hs _=>by simp [Q3]at hs
 | _+1,0=>fun t cs x _ h=>by simp [DataW.trod]at h
 | f+1,fuel+1=>fun t cs x hs h=>by
  have ih:=TE f fuel
  unfold Q3 at hs
  unfold Shp
  cases hu:P.underlying t with
  | none=>rw [hu]at hs;cases hs
  | some td=>
   rw [hu]at hs
   unfold DataW.trod at h
   rw [hu]at h
   cases td with
   | bool=>
    simp only at h
    split at h
    all_goals first | (rename_i hq;cases hq;done) | skip
    all_goals first | (cases h;done) | skip
    ·rename_i b hq
     exact ⟨[.bool b],NZ (.bool b),fun c hc=>by simp at hc;subst hc;rfl,b,rfl⟩
   | int k=>
    simp only at h
    split at h
    all_goals first | (rename_i hq;cases hq;done) | skip
    all_goals first | (cases h;done) | skip
    ·rename_i k2 k' n heq
     cases heq
     split at h
     ·rename_i hc
      obtain ⟨rfl,hw⟩:=hc
      exact ⟨[.int _ _],NZ (.int _ _),fun c hc=>by simp at hc;subst hc;rfl,_,rfl,hw⟩
     ·cases h
   | string=>
    simp only at h
    split at h
    all_goals first | (rename_i hq;cases hq;done) | skip
    all_goals first | (cases h;done) | skip
    ·rename_i s heq
     split at h
     ·rename_i hc
      have e:Ax (Nj w) (.str s.data.toList) (.string s):=by
       have e:s=⟨s.data.toList.toArray⟩:=by cases s;simp
       rw [e];exact .str _
      refine ⟨[.str s.data.toList],NZ e,fun c hc=>by simp at hc;subst hc;rfl,_,rfl,hc⟩
     ·cases h
   | slice e=>
    simp only [Vh,decide_eq_true_eq]at hs
    simp only at h
    split at h
    all_goals first | (rename_i hq;cases hq;done) | skip
    all_goals first | (cases h;done) | skip
    ·exact ⟨[.sl [] .no],NZ (.sl0 trivial (fun _=>rfl)),fun c hc=>by simp at hc;subst hc;rfl,[],rfl,Vy _,fun x hx=>by cases hx⟩
    ·rename_i e2 a len cap heq
     cases heq
     split at h
     ·rename_i hc
      obtain ⟨h1,h2,h3⟩:=hc
      cases hm:(List.range len).mapM fun i=>(w.cells? base (a.add (i*P.cellsOf e)) (P.cellsOf e)).bind (DataW.trod enc P w base spare held fuel e)with
      | none=>rw [hm]at h;cases h
      | some elems=>
       obtain ⟨es,tk,k1,rfl,k2,k3⟩:=open_row ih hs.1 hs.2 a len cap h2 (fun i hi=>RV hm i (by simpa using hi))
       exact ⟨[.sl es .no],NZ k1,fun c hc=>by simp at hc;subst hc;rfl,es,rfl,by omega,k3⟩
     ·cases h
   | struct fs=>
    simp only [Vh]at hs
    simp only at h
    split at h
    ·rename_i hc
     cases hm:fs.toList.mapM fun fd=>DataW.trod enc P w base spare held fuel fd.type ((cs.drop fd.offset).take (P.cellsOf fd.type))with
     | none=>rw [hm]at h;cases h
     | some xs=>
      obtain ⟨ps,b1,b2,b3,b4⟩:=Qi ih cs fs.toList 0 xs (by rw [hc];exact hs.1) hs.2 hm (fun _ _ _ _ _=>trivial)
      exact ⟨ps.flatten,by simpa using b1,b2,ps,rfl,b3,b4⟩
    ·cases h
   | array n e=>
    simp only [Vh,decide_eq_true_eq]at hs
    simp only at h
    split at h
    ·rename_i hc
     cases hm:(List.range n).mapM fun i=>DataW.trod enc P w base spare held fuel e ((cs.drop (i*P.cellsOf e)).take (P.cellsOf e))with
     | none=>rw [hm]at h;cases h
     | some xs=>
      obtain ⟨ps,b1,b2,b3,b4⟩:=RN ih hs.2 cs n 0 n (by omega) (by rw [hc];exact hs.1) (fun j hj=>RV hm j (by simpa using hj))
      exact ⟨ps.flatten,by simpa using b1,b2,ps,rfl,b3,b4⟩
    ·cases h
   | _=>cases hs
theorem arg_one {r:Reach} {b0 f:Nat} {t:TypeId} {v:Value} {d:DataW H} {ps:List MemPlace} (hs:Q3 P f t=true) (hval:Value.okWide P w r b0 t v) (hd:DataW.Trod enc P w base spare held t v d ps)
  (hu:(match P.underlying t with | some (.slice _)=>true | some (.int _)=>true | some .string=>true | some .bool=>true | _=>false)=true):∃x,Ax (Nj w) x v∧Shp P f t [x]:=by
 obtain ⟨fuel,hf⟩:=hd
 have hc:v.cells.toList=[v]:=by
  unfold Value.okWide Cell.okWide Cell.ok at hval
  cases hx:P.underlying t with
  | none=>rw [hx]at hu;cases hu
  | some td=>
   rw [hx]at hu hval
   cases td <;> first | (cases hu;done) | skip
   all_goals (cases v <;> first | (simp [Value.cells];done) | (simp at hval;done) | (exact hval.elim;done))
 rw [hc]at hf
 obtain ⟨vas,a1,a2,a3⟩:=TE f fuel t [v] _ hs hf
 have hl:=a1.1
 match vas,hl with
 | [x],_=>exact ⟨x,a1.2 0 x v rfl rfl,a3⟩
theorem arg_row {r:Reach} {b0 f:Nat} {t e:TypeId} {v:Value} {d:DataW H} {ps:List MemPlace} (hu:P.underlying t=some (.slice e)) (hs:Q3 P (f+1) t=true) (hval:Value.okWide P w r b0 t v) (hd:DataW.Trod enc P w base spare held t v d ps) :
  ∃es,Ax (Nj w) (.sl es .no) v∧(∀x∈es,Shp P f e x)∧es.length≤maxLen∧(es=[]∨∃elems spare,d=.slice elems spare∧elems.length=es.length):=by
 obtain ⟨x,h1,h2⟩:=arg_one hs hval hd (by rw [hu])
 unfold Shp at h2
 rw [hu]at h2
 obtain ⟨es,h3,h4,h5⟩:=h2
 injection h3 with h3 _
 subst h3
 refine ⟨es,h1,h5,h4,?_⟩
 obtain ⟨fuel,hf⟩:=hd
 cases fuel with
 | zero=>simp [DataW.trod]at hf
 | succ fuel=>
  unfold DataW.trod at hf
  rw [hu]at hf
  cases h1 with
  | sl0 _ _=>exact .inl rfl
  | sl fv hl hI hm hv hc ht=>
   rename_i b o s cap
   right
   have e1:(Value.slice (some ⟨b,o,none⟩) es.length cap).cells.toList=[.slice (some ⟨b,o,none⟩) es.length cap]:=rfl
   rw [e1]at hf
   simp only at hf
   split at hf
   ·cases hm':(List.range es.length).mapM fun i=>(w.cells? base (Addr.add ⟨b,o,none⟩ (i*P.cellsOf e)) (P.cellsOf e)).bind (DataW.trod enc P w base spare held fuel e)with
    | none=>rw [hm']at hf;cases hf
    | some elems=>
     rw [hm',Option.bind_some]at hf
     obtain ⟨q1,_⟩:=RW hm'
     rw [Option.map_eq_some_iff]at hf
     obtain ⟨rest,_,hf⟩:=hf
     injection hf with hf _
     exact ⟨_,_,hf.symm,by simpa using q1⟩
   ·cases hf

end
section
variable {P:Program} {f:Nat} {t e:TypeId} {vas:List Ab}
theorem shp_int {k:IntKind} (hu:P.underlying t=some (.int k)) (h:Shp P (f+1) t vas):∃n,vas=[.int k n]∧(Lit.int k n).wf=true:=by
 unfold Shp at h;rw [hu]at h;exact h
theorem shp_bool (hu:P.underlying t=some .bool) (h:Shp P (f+1) t vas):∃b,vas=[.bool b]:=by
 unfold Shp at h;rw [hu]at h;exact h
theorem shp_sl (hu:P.underlying t=some (.slice e)) (h:Shp P (f+1) t vas):∃es,vas=[.sl es .no]∧es.length≤maxLen∧∀x∈es,Shp P f e x:=by
 unfold Shp at h;rw [hu]at h;exact h
theorem shp_st {fs:Array Field} (hu:P.underlying t=some (.struct fs)) (h:Shp P (f+1) t vas):∃ps:List (List Ab),vas=ps.flatten∧ps.length=fs.toList.length∧∀(i:Nat) (fd:Field) (p:List Ab),fs.toList[i]? = some fd→ps[i]? = some p→Shp P f fd.type p:=by
 unfold Shp at h;rw [hu]at h;exact h
theorem wf_b {k:IntKind} {n:Int} (h:(Lit.int k n).wf=true):k.min≤n∧n≤k.max:=by
 simp only [Lit.wf,Vh,decide_eq_true_eq]at h;exact h
theorem wf_u32 {n:Int} (h:(Lit.int .u32 n).wf=true):0≤n∧n<4294967296:=by
 have h1:=wf_b h
 rw [show IntKind.u32.min=0 from rfl,show IntKind.u32.max=4294967295 from rfl]at h1
 omega
theorem wf_u8 {n:Int} (h:(Lit.int .u8 n).wf=true):0≤n∧n<256:=by
 have h1:=wf_b h
 rw [show IntKind.u8.min=0 from rfl,show IntKind.u8.max=255 from rfl]at h1
 omega
theorem rows_of {α:Type} {g:α→List Ab} {p:α→Prop}:∀ {es:List (List Ab)},(∀x∈es,∃a,x=g a∧p a)→∃l:List α,es=enL g l∧∀a∈l,p a
 | [],_=>⟨[],rfl,fun a h=>by cases h⟩
 | x::es,h=>by
  obtain ⟨a,rfl,ha⟩:=h x (by simp)
  obtain ⟨l,rfl,hl⟩:=rows_of (g:=g) (p:=p) (es:=es) fun y hy=>h y (by simp [hy])
  exact ⟨a::l,rfl,fun b hb=>by rcases V7.1 hb with rfl | hb;exact ha;exact hl b hb⟩
theorem shp_limbs (h1:P.underlying t=some (.slice e)) (h2:P.underlying e=some (.int .u32)) (h:Shp P (f+2) t vas):∃l:List Nat,vas=[.sl (enL cU l) .no]∧Lim l∧l.length≤maxLen:=by
 obtain ⟨es,rfl,hl,he⟩:=shp_sl h1 h
 obtain ⟨l,rfl,hp⟩:=rows_of (g:=cU) (p:=fun n=>n<4294967296) (es:=es) fun x hx=>by
  obtain ⟨n,rfl,hw⟩:=shp_int h2 (he x hx)
  obtain ⟨w1,w2⟩:=wf_u32 hw
  exact ⟨n.toNat,by show [Ab.int .u32 n]=[Ab.int .u32 (n.toNat:Int)];rw [XW w1],by omega⟩
 exact ⟨l,rfl,hp,by simpa using hl⟩
structure BigTy (P:Program) (tb:TypeId):Prop where
 ex:∃(f0 f1:Field) (e:TypeId),P.underlying tb=some (.struct #[f0,f1])∧P.underlying f0.type=some .bool∧P.underlying f1.type=some (.slice e)∧P.underlying e=some (.int .u32)
theorem shp_big {tb:TypeId} (hb:BigTy P tb) (h:Shp P (f+3) tb vas):∃n l,vas=[.bool n,.sl (enL cU l) .no]∧Lim l:=by
 obtain ⟨f0,f1,e,h1,h2,h3,h4⟩:=hb.ex
 obtain ⟨ps,rfl,hl,hp⟩:=shp_st h1 h
 match ps,hl with
 | [p0,p1],_=>
  obtain ⟨n,rfl⟩:=shp_bool h2 (hp 0 f0 p0 rfl rfl)
  obtain ⟨l,rfl,hlim,_⟩:=shp_limbs h3 h4 (hp 1 f1 p1 rfl rfl)
  exact ⟨n,l,rfl,hlim⟩

end
section
variable {P:Program} {f:Nat} {t e:TypeId} {vas:List Ab}
structure CellTy (P:Program) (tc:TypeId):Prop where
 ex:∃(f0 f1 f2:Field),P.underlying tc=some (.struct #[f0,f1,f2])∧BigTy P f0.type∧BigTy P f1.type∧P.underlying f2.type=some (.int .u8)
theorem shp_cell {tc:TypeId} (hc:CellTy P tc) (h:Shp P (f+4) tc vas):∃r:RC,vas=cRC r∧r.lim:=by
 obtain ⟨f0,f1,f2,h1,h2,h3,h4⟩:=hc.ex
 obtain ⟨ps,rfl,hl,hp⟩:=shp_st h1 h
 match ps,hl with
 | [p0,p1,p2],_=>
  obtain ⟨n1,l1,rfl,k1⟩:=shp_big h2 (hp 0 f0 p0 rfl rfl)
  obtain ⟨n2,l2,rfl,k2⟩:=shp_big h3 (hp 1 f1 p1 rfl rfl)
  obtain ⟨s,rfl,hw⟩:=shp_int h4 (hp 2 f2 p2 rfl rfl)
  obtain ⟨w1,w2⟩:=wf_u8 hw
  refine ⟨⟨n1,l1,n2,l2,UInt8.ofNat s.toNat⟩,?_,k1,k2⟩
  have e:((UInt8.ofNat s.toNat).toNat:Int)=s:=by
   rw [Wy (show s.toNat<256 by omega)];omega
  unfold cRC
  dsimp only
  rw [e];rfl
theorem shp_cells {tc:TypeId} (hc:CellTy P tc) {es:List (List Ab)} (h:∀x∈es,Shp P (f+4) tc x):∃l:List RC,es=enL cRC l∧∀r∈l,r.lim:=
 rows_of fun x hx=>shp_cell hc (h x hx)

end
end Go.Gm
