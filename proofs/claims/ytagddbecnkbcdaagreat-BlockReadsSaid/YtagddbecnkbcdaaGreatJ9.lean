/- Texts of this proof, joined. -/
import Derived.Test.YtagddbecnkbcdaaGreatJ5
import Derived.Test.YtagddbecnkbcdaaGreatJ6
import Derived.Test.YtagddbecnkbcdaaGreatJ7
import Derived.Test.YtagddbecnkbcdaaGreatJ8
set_option linter.all false
namespace Go.Gm
theorem p_clone (l:List Cl)(tk:Tok)(H:Aa)(hl:l.length<1000000000):Sh.f4i (.sl (enL cCl l) tk) H=some (if l=[]then (.ret (.sl [] .ti),H)else (.ret (dV H.length 0 l.length),H++[.buf 0 (flat cCl l) A8 5])):=by
 have hb:AL 5 []=some (.sl [] .ti):=rfl;unfold Sh.f4i;cases l with
 | nil=>
  have ha:Ga A8 5 72 (.sl [] .ti) (.sl (enL cCl []) tk) H=some (.sl [] .ti,H):=rfl;have hn:Qz .eql (.sl (enL cCl []) tk)=some .ubool:=rfl;have hu:∀x:Out,Ak .ubool x x=x:=λx=>if_pos rfl;simp only[hn,GMw,hb,ha];exact hu _
 | cons c l=>
  have hn:Qz .eql (.sl (enL cCl (c::l)) tk)=some (.bool false):=rfl;have ha:Ga A8 5 72 (.sl [] .ti) (.sl (enL cCl (c::l)) tk) H=some (dV H.length 0 (c::l).length,H++[.buf 0 (flat cCl (c::l)) A8 5]):=by
   have he:Cw 5 (.sl (enL cCl (c::l)) tk) H=some (enL cCl (c::l)):=O6;have hlen:(enL cCl (c::l)).length=(c::l).length:=by simp[enL]
   unfold Ga;rw[he];simp only[zXa];unfold Iw;rw[hlen,if_neg (by simp)];simp only[zXk,UJ,List.all_nil,List.nil_append];rw[if_pos ⟨trivial,by omega,by omega⟩]
   rfl
  simp only[hn,GMw,hb,ha];rw[if_neg (by simp)]
def UF (P L:List Cl)(i:Nat):Prop:=L.length=P.length/\∀k,k<P.length->L[k]? = if k<i\/P.length-i<=k then P[P.length-1-k]? else P[k]?
theorem UF.step {P L:List Cl}{i:Nat}(h:UF P L i)(hi:i<P.length-1-i):UF P (swp L i (P.length-1-i)) (i+1):=by
 obtain⟨h1,h2⟩:=h;have hl:i<L.length:=by omega
 have hj:P.length-1-i<L.length:=by omega
 refine⟨by rw[MD];exact h1,λk hk=>?_⟩;have ei:=h2 i (by omega);have ej:=h2 (P.length-1-i) (by omega);rw[UG hl,if_neg (by omega)]at ei;rw[UG hj,if_neg (by omega)]at ej;rw[swp_eq hl hj];by_cases k1:k=P.length-1-i
 ·subst k1;rw[UT (by simp;omega),if_pos (by omega),ei]
  congr 1
  omega
 ·rw[UI (Ne.symm k1)];by_cases k2:k=i
  ·subst k2;rw[UT hl,if_pos (by omega),ej]
  ·rw[UI (Ne.symm k2),h2 k hk];by_cases k3:k<i\/P.length-i<=k
   ·rw[if_pos k3,if_pos (by omega)]
   ·rw[if_neg k3,if_neg (by omega)]
theorem UF.done {P L:List Cl}{i:Nat}(h:UF P L i)(hi:¬i<P.length-1-i):L=P.reverse:=by
 apply VW;intro k;by_cases hk:k<P.length
 ·rw[h.2 k hk,List.getElem?_reverse hk];split
  ·rfl
  ·congr 1
   omega
 ·rw[zYb (by rw[h.1];omega),zYb (by simp;omega)]
section
variable {p g:Nat}{l:List Cl}{H:Aa}
theorem p_reverse (h:De H p g l)(hp:0<l.length)(hl:l.length<1000000000):Sh.f1s (dV p g l.length) H=some (.ret (.tup []),BW H p g l.reverse):=by
 have hw:IntKind.i64.wrap ((l.length:Int)-1)=((l.length-1:Nat):Int):=by rw[Ao] <;> omega
 have aZ:A7 (dV p g l.length)=some (.i6 (l.length:Int)):=rfl;unfold Sh.f1s;simp only[aZ,GMw,hw];have key:=Ep (G:=λrec1 vs H1=>Sh.f2l H rec1 (ag vs 0) (ag vs 1) (ag vs 2) H1) (σ:=Nat×List Cl)
  (λs vs H1=>(UF l s.2 s.1/\2*s.1<=l.length)/\vs=[dV p g l.length,.i6 (s.1:Int),.i6 ((l.length:Int)-1-(s.1:Int))]/\H1=BW H p g s.2) (λs=>l.length-s.1) (λs=>¬s.1<l.length-1-s.1) (λs vs H1 hI hd=>?_)
  (s:=(0,l)) (vs:=[dV p g l.length,.i6 0,.i6 ((l.length-1:Nat):Int)]) (H:=H) ⟨⟨⟨rfl,λk hk=>by rw[if_neg (by omega)]⟩,Ve _⟩,by dsimp only;rw[show (l.length:Int)-1-((0:Nat):Int)=((l.length-1:Nat):Int)by omega];rfl,(CM h).symm⟩ (by dsimp only;omega)
 ·obtain⟨⟨i,L⟩,vs,H1,hd,⟨⟨ht,hi⟩,rfl,rfl⟩,rec,aB⟩:=key;dsimp only at ht hi hd aB;have d1:decide ((i:Int)<(l.length:Int)-1-(i:Int))=false:=zXd (by omega);rw[aB];unfold Sh.f2l;simp only[An,Ai,Bb,Bd,GMw,d1];rw[ht.done hd]
 ·obtain⟨i,L⟩:=s;obtain⟨⟨ht,hi⟩,rfl,rfl⟩:=hI;dsimp only at ht hi hd ⊢;have hr:De (BW H p g L) p g L:=Dj h;have hlt:i<l.length-1-i:=by omega
  have hLl:=ht.1;have i1:i<L.length:=by omega
  have i2:l.length-1-i<L.length:=by omega
  have e:(l.length:Int)-1-(i:Int)=((l.length-1-i:Nat):Int):=by omega
  have d1:decide ((i:Int)<((l.length-1-i:Nat):Int))=true:=zXc (by omega);have cQ:=As (show i<9223372036854775807 by omega);have cA:IntKind.i64.wrap (((l.length-1-i:Nat):Int)-1)=(l.length:Int)-1-((i+1:Nat):Int):=by rw[Ao] <;> omega
  obtain⟨s1,s2⟩:=Rt hr i1 i2;rw[BB]at s1 s2;rw[BB]at s2;refine⟨(i+1,swp L i (l.length-1-i)),_,_,by dsimp only;omega,⟨⟨ht.step hlt,by dsimp only;omega⟩,rfl,rfl⟩,λrec=>?_⟩;unfold Sh.f2l;simp only[An,Ai,Bb,Bd,GMw,e,d1,Ce (show i<l.length by omega),Ce (show l.length-1-i<l.length by omega),CB hr i1,CB hr i2,BQ,s1,s2,BC,AC,cQ,cA]
theorem p_sort {f:Ab}{l0:List Cl}(hf1:Ta AD f l0)(hf2:Tz f l0)(h:De H p g l)(hm:∀c∈l,c∈l0)(hl:l.length<1000000000) :
  ∃S,E4 ltC S/\F3 ltC l S/\S.length=l.length/\Sh.f21 (dV p g l.length) f H=some (.ret (.tup []),BW H p g S):=by
 obtain⟨S,s1,s2,s3,s4⟩:=stable_ok hf1 hf2 h hm hl;refine⟨S,s1,s2,s3,?_⟩;have aZ:A7 (dV p g l.length)=some (.i6 (l.length:Int)):=rfl;unfold Sh.f21;simp only[aZ,GMw,s4]
def RwT (H:Aa)(p g:Nat)(l:List Cl)(r:List Ab):Prop:=H[p]? = some (.buf g (flat cCl l++r) A8 5)
theorem De.t (h:De H p g l):RwT H p g l []:=by unfold RwT;rw[Vl];exact h

end
theorem cpL_snoc (lt:Cl->Cl->Bool)(y:Cl):∀(P:List Cl) (x:Cl),cpL lt (P++[x]++[y])=if BP lt y x then cpL lt (P++[x])else cpL lt (P++[x])++[y]:=by
 have key:∀(t:List Cl) (a x:Cl),cpF lt a (t++[x]++[y])=if BP lt y x then cpF lt a (t++[x])else cpF lt a (t++[x])++[y]:=by
  intro t
  induction t with
  | nil=>
   intro a x;show (if BP lt x a then cpF lt x [y]else x::cpF lt x [y])=if BP lt y x then (if BP lt x a then cpF lt x []else x::cpF lt x [])else (if BP lt x a then cpF lt x []else x::cpF lt x [])++[y]
   have e:cpF lt x [y]=if BP lt y x then []else [y]:=rfl
   rw[e];cases BP lt x a <;> cases BP lt y x <;> rfl
  | cons b t ih=>
   intro a x;have ihb:=ih b x;show (if BP lt b a then cpF lt b (t++[x]++[y])else b::cpF lt b (t++[x]++[y]))=if BP lt y x then (if BP lt b a then cpF lt b (t++[x])else b::cpF lt b (t++[x]))else (if BP lt b a then cpF lt b (t++[x])else b::cpF lt b (t++[x]))++[y]
   rw[ihb];cases BP lt b a <;> cases BP lt y x <;> rfl
 intro P x;cases P with
 | nil=>
  show x::cpF lt x [y]=if BP lt y x then [x]else [x]++[y]
  have e:cpF lt x [y]=if BP lt y x then []else [y]:=rfl
  rw[e];cases BP lt y x <;> rfl
 | cons a P=>
  show a::cpF lt a (P++[x]++[y])=if BP lt y x then a::cpF lt a (P++[x])else (a::cpF lt a (P++[x]))++[y]
  rw[key];cases BP lt y x <;> rfl
theorem cpL_len (lt:Cl->Cl->Bool):∀l:List Cl,(cpL lt l).length<=l.length:=by
 have key:∀(t:List Cl) (a:Cl),(cpF lt a t).length<=t.length:=by
  intro t
  induction t with
  | nil=>intro a;exact UK _
  | cons b t ih=>
   intro a;have:=ih b;unfold cpF;split
   ·simp only[zXj];omega
   ·simp only[zXj];omega
 intro l;cases l with
 | nil=>exact UK _
 | cons a t=>have:=key t a;show (cpF lt a t).length+1<=t.length+1;omega
def zCl:List Ab:=[.bool false,.sl [] .ti,.bool false,.sl [] .ti,.int .u8 0]
theorem repl_scal (n:Nat):(LM n zCl).all Ab.isScal=true:=by
 unfold LM
 induction n with
 | zero=>rfl
 | succ n ih=>rw[zXm,List.flatten_cons,Xv,ih];rfl
theorem repl_len (n:Nat):(LM n zCl).length=n*5:=by
 unfold LM
 induction n with
 | zero=>rfl
 | succ n ih=>rw[zXm,List.flatten_cons,UO,ih,show zCl.length=5 from rfl];omega
theorem flat_split {L:List Cl}{k:Nat}(hk:k<=L.length):(flat cCl L).take (k*5)=flat cCl (L.take k)/\(flat cCl L).drop (k*5)=flat cCl (L.drop k):=by
 have h1:flat cCl L=flat cCl (L.take k)++flat cCl (L.drop k):=by rw[<-Qm,V7]
 have h2:(flat cCl (L.take k)).length=k*5:=by rw[Fj,UY,VF hk]
 rw[h1];exact⟨by rw[<-h2,Xa],by rw[<-h2,Xd]⟩
section
variable {p g:Nat}{l:List Cl}{H:Aa}{r:List Ab}
theorem TP {L:List Cl}{k:Nat}(h:RwT H p g L r)(hk:k<=L.length) :
  ∃G r',K8 5 (some zCl) (.ms p g (k*5) (L.length-k) (L.length-k) 5 false) H=some G/\RwT G p g (L.take k) r'/\(∀i,i≠p->G[i]? = H[i]?)/\G.length=H.length:=by
 unfold K8;by_cases h0:L.length-k=0
 ·have:L.take k=L:=US (by omega);simp only[h0,if_true];exact⟨H,r,rfl,by rw[this];exact h,λ_ _=>rfl,rfl⟩
 ·have aW:p<H.length:=(UH.1 h).1;have bG:AB H p g=some (flat cCl L++r):=by
   unfold RwT at h;simp[AB,h]
  have Yl:(Ab.agg (LM (L.length-k) zCl)).acells=some (LM (L.length-k) zCl):=by
   show (if (LM (L.length-k) zCl).all Ab.isScal=true then _ else _)=_;rw[if_pos (repl_scal _)]
  have dG:(flat cCl L).length=L.length*5:=Fj L;have aH:∀cs,FH H p g cs=H.set p (.buf g cs A8 5):=λcs=>by
   unfold RwT at h;unfold FH;rw[h]
  simp only[h0,if_false,zXa,if_true,Ae,bG,Yl,repl_len,UO,dG];rw[if_pos ⟨trivial,by omega⟩,aH];refine⟨_,(LM (L.length-k) zCl)++r,rfl,?_,λi hi=>?_,by rw[zYa]⟩
  ·unfold RwT;rw[UT aW];have e1:Dc (flat cCl L++r) (k*5) ((L.length-k)*5) (LM (L.length-k) zCl)=flat cCl (L.take k)++(LM (L.length-k) zCl++r):=by
    unfold Dc;rw[Wj (by omega),(flat_split hk).1,show k*5+(L.length-k)*5=(flat cCl L).length by omega,Xd,UP]
   rw[e1]
  ·rw[UI (Ne.symm hi)]
theorem compact_l2 {f:Ab}{k0:Nat}{H0:Aa}(hf:∀c∈l,∀d∈l,∀H,DK AJ f [.agg (cCl c),.agg (cCl d)] H=some (.ret (.bool (BP ltC c d)),H))
  (h:De H p g l)(h1:1<=k0)(h2:k0<l.length)(h3:cpL ltC (l.take k0)=l.take k0)(h4:BP ltC l[k0] (l[k0-1]'(by omega))=true)(hl:l.length<1000000000) :
  ∃G r,Am (λaA vs H1=>Sh.f22 H0 aA (ag vs 0) (ag vs 1) (ag vs 2) (ag vs 3) (ag vs 4) H1) AM [dV p g l.length,f,.i6 (k0:Int),.ms p g (k0*5) (l.length-k0) (l.length-k0) 5 false,.i6 1] H =
   some (.ret (.ms p g 0 (cpL ltC l).length l.length 5 false),G)/\RwT G p g (cpL ltC l) r/\(∀i,i≠p->G[i]? = H[i]?)/\G.length=H.length:=by
 have dY:∀m (nY:1<=m) (hm:m<l.length),cpL ltC (l.take (m+1))=if BP ltC l[m] (l[m-1]'(by omega))then cpL ltC (l.take m)else cpL ltC (l.take m)++[l[m]]:=λm nY hm=>by
  obtain⟨j,rfl⟩:∃j,m=j+1:=⟨m-1,by omega⟩;have:=cpL_snoc ltC l[j+1] (l.take j) (l[j]'(by omega));rw[<-UR (by omega:j<l.length),<-UR hm]at this;exact this
 have key:=Ep (G:=λaA vs H1=>Sh.f22 H0 aA (ag vs 0) (ag vs 1) (ag vs 2) (ag vs 3) (ag vs 4) H1) (σ:=Nat×List Cl)
  (λs vs H1=>(k0+1<=s.1/\s.1<=l.length/\s.2.length=l.length/\(cpL ltC (l.take s.1)).length<=s.1-1/\s.2.take (cpL ltC (l.take s.1)).length=cpL ltC (l.take s.1)/\s.2.drop (s.1-1)=l.drop (s.1-1)) /\
   vs=[dV p g l.length,f,.i6 ((cpL ltC (l.take s.1)).length:Int),.ms p g (k0*5) (l.length-k0) (l.length-k0) 5 false,.i6 ((s.1-k0:Nat):Int)]/\H1=BW H p g s.2) (λs=>l.length-s.1) (λs=>¬s.1<l.length) (λs vs H1 hI hd=>?_)
  (s:=(k0+1,l)) (vs:=[dV p g l.length,f,.i6 (k0:Int),.ms p g (k0*5) (l.length-k0) (l.length-k0) 5 false,.i6 1]) (H:=H)
  (by
   have e1:cpL ltC (l.take (k0+1))=l.take k0:=by rw[dY k0 h1 h2,h4,if_pos rfl,h3]
   have e2:(l.take k0).length=k0:=by rw[UY];omega
   dsimp only;rw[e1,e2];exact⟨⟨UK _,h2,rfl,by omega,rfl,by rw[Vm]⟩,by rw[Nat.add_sub_cancel_left];rfl,(CM h).symm⟩) (by dsimp only;omega)
 ·obtain⟨⟨m,L⟩,vs,H1,hd,⟨⟨i1,i2,i3,i4,i5,i6⟩,rfl,rfl⟩,rec,aB⟩:=key;dsimp only at i1 i2 i3 i4 i5 i6 hd aB;have em:m=l.length:=by omega
  subst em;rw[US (UK _)]at i4 i5 aB;have hr:RwT (BW H p g L) p g L []:=(Dj h).t;obtain⟨G,r,g1,g2,g3,g4⟩:=TP (k:=(cpL ltC l).length) hr (by omega);rw[i3]at g1;rw[i5]at g2;have d1:decide (((l.length-k0:Nat):Int)<((l.length-k0:Nat):Int))=false:=zXd (by omega);have aZ:A7 (.ms p g (k0*5) (l.length-k0) (l.length-k0) 5 false)=some (.i6 ((l.length-k0:Nat):Int)):=rfl;have s1:Bw 5 (dV p g l.length) (some (.i6 ((cpL ltC l).length:Int))) none none=some (.ms p g ((cpL ltC l).length*5) (l.length-(cpL ltC l).length) (l.length-(cpL ltC l).length) 5 false):=by
   have:(cpL ltC l).length<=l.length:=by omega
   simp[Bw,By,this]
  have s2:Bw 5 (dV p g l.length) none (some (.i6 ((cpL ltC l).length:Int))) none=some (.ms p g 0 (cpL ltC l).length l.length 5 false):=by
   have:(cpL ltC l).length<=l.length:=by omega
   simp[Bw,By,this]
  refine⟨G,r,?_,g2,λi hi=>?_,?_⟩
  ·rw[aB];unfold Sh.f22;simp only[An,Ai,Bb,Bd,B7,Cb,GMw,aZ,d1,s1,s2];rw[show [Ab.bool false,.sl [] .ti,.bool false,.sl [] .ti,.int .u8 0]=zCl from rfl,g1];simp only[GMw,AC,Em,forget,Ew,fgt]
  ·rw[g3 i hi];unfold BW;rw[UI (Ne.symm hi)]
  ·rw[g4];unfold BW;rw[zYa]
 ·obtain⟨m,L⟩:=s;obtain⟨⟨i1,i2,i3,i4,i5,i6⟩,rfl,rfl⟩:=hI;dsimp only at i1 i2 i3 i4 i5 i6 hd ⊢;have hm:m<l.length:=by omega
  have hr:De (BW H p g L) p g L:=Dj h;have hLm:m<L.length:=by omega
  have hLm1:m-1<L.length:=by omega
  have e1:L[m]=l[m]:=by
   have:=congrArg (λx=>x[1]?) i6;simp only[V5]at this;rw[show m-1+1=m by omega,UG hLm,UG hm]at this;exact Wc this
  have e2:L[m-1]=l[m-1]:=by
   have:=congrArg (λx=>x[0]?) i6;simp only[V5,Nat.add_zero]at this;rw[UG hLm1,UG (by omega)]at this;exact Wc this
  have aZ:A7 (.ms p g (k0*5) (l.length-k0) (l.length-k0) 5 false)=some (.i6 ((l.length-k0:Nat):Int)):=rfl;have d1:decide (((m-k0:Nat):Int)<((l.length-k0:Nat):Int))=true:=zXc (by omega);have cQ:IntKind.i64.wrap (((m-k0:Nat):Int)-1)=((m-k0-1:Nat):Int):=by rw[Ao] <;> omega
  have cA:IntKind.i64.wrap (((m-k0:Nat):Int)+1)=((m+1-k0:Nat):Int):=by rw[Ao] <;> omega
  have x1:Aw 5 (.ms p g (k0*5) (l.length-k0) (l.length-k0) 5 false) (.i6 ((m-k0:Nat):Int))=some (.ptr p g (m*5)):=by
   rw[CS (by omega),<-V4,show k0+(m-k0)=m by omega]
  have x2:Aw 5 (.ms p g (k0*5) (l.length-k0) (l.length-k0) 5 false) (.i6 ((m-k0-1:Nat):Int))=some (.ptr p g ((m-1)*5)):=by
   rw[CS (by omega),<-V4,show k0+(m-k0-1)=m-1 by omega]
  have c1:=hf l[m] (UV hm) (l[m-1]'(by omega)) (UV _);have dZ:=dY m (by omega) hm;have l1:=CB hr hLm;have l2:=CB hr hLm1;rw[e1]at l1;rw[e2]at l2;cases he:BP ltC l[m] (l[m-1]'(by omega))with
  | true=>
   rw[he,if_pos rfl]at dZ;refine⟨(m+1,L),_,_,by dsimp only;omega,⟨⟨by dsimp only;omega,by dsimp only;omega,i3,by dsimp only;rw[dZ];omega,by dsimp only;rw[dZ];exact i5,by
    dsimp only;rw[Vm];have:=congrArg (List.drop 1) i6;rw[VZ,VZ,show m-1+1=m by omega]at this;exact this⟩,rfl,rfl⟩,λrec=>?_⟩
   rw[he]at c1;unfold Sh.f22 Sh.f7m;simp only[An,Ai,Bb,Bd,B7,Cb,GMw,aZ,d1,cQ,x1,x2,l1,l2,BQ,c1,BC,cA,dZ]
  | false=>
   rw[he]at dZ;simp only[UM,if_false]at dZ;have hk:(cpL ltC (l.take m)).length<L.length:=by omega
   have eX:=As (show (cpL ltC (l.take m)).length<9223372036854775807 by omega);have hst:=row_st hr hk l[m];rw[BB]at hst;refine⟨(m+1,L.set (cpL ltC (l.take m)).length l[m]),_,_,by dsimp only;omega,⟨⟨by dsimp only;omega,by dsimp only;omega,by dsimp only;rw[zYa];exact i3,by dsimp only;rw[dZ];simp;omega,by
     dsimp only;rw[dZ,UO,zXi,UR (by rw[zYa];omega),Xw,List.take_set_of_le (UK _),i5],by
     dsimp only;rw[Vm,List.drop_set_of_lt (by omega)];have:=congrArg (List.drop 1) i6;rw[VZ,VZ,show m-1+1=m by omega]at this;exact this⟩,rfl,rfl⟩,λrec=>?_⟩
   rw[he]at c1;unfold Sh.f22 Sh.f7m;simp only[An,Ai,Bb,Bd,B7,Cb,GMw,aZ,d1,cQ,x1,x2,l1,l2,BQ,c1,BC,Ce (show (cpL ltC (l.take m)).length<l.length by omega),hst,AC,eX,cA,dZ,UO,zXi]

end
def dupAt (l:List Cl)(k:Nat):Bool:=match l[k]?,l[k-1]? with
 | some a,some b=>BP ltC a b
 | _,_=>false
theorem dupAt_eq {l:List Cl}{k:Nat}(hk:k<l.length)(hk1:k-1<l.length):dupAt l k=BP ltC l[k] l[k-1]:=by
 unfold dupAt;rw[UG hk,UG hk1]
section
variable {p g:Nat}{l:List Cl}{H:Aa}{r:List Ab}{f:Ab}
theorem p_compact (hf:∀c∈l,∀d∈l,∀H,DK AJ f [.agg (cCl c),.agg (cCl d)] H=some (.ret (.bool (BP ltC c d)),H))
  (h:De H p g l)(hl:l.length<1000000000) :
  ∃G r,Sh.f1e (dV p g l.length) f H=some (.ret (.ms p g 0 (cpL ltC l).length l.length 5 false),G)/\RwT G p g (cpL ltC l) r/\(∀i,i≠p->G[i]? = H[i]?)/\G.length=H.length:=by
 have aZ:A7 (dV p g l.length)=some (.i6 (l.length:Int)):=rfl;have dY:∀m (nY:1<=m) (hm:m<l.length),cpL ltC (l.take (m+1))=if BP ltC l[m] (l[m-1]'(by omega))then cpL ltC (l.take m)else cpL ltC (l.take m)++[l[m]]:=λm nY hm=>by
  obtain⟨j,rfl⟩:∃j,m=j+1:=⟨m-1,by omega⟩;have:=cpL_snoc ltC l[j+1] (l.take j) (l[j]'(by omega));rw[<-UR (by omega:j<l.length),<-UR hm]at this;exact this
 unfold Sh.f1e;by_cases h2:l.length<2
 ·have d2:decide ((l.length:Int)<2)=true:=zXc (by omega);have e:cpL ltC l=l:=by
   match l,h2 with
   | [],_=>rfl
   | [c],_=>rfl
   | _::_::_,h2=>simp only[zXj]at h2;omega
  refine⟨H,[],?_,by rw[e];exact h.t,λ_ _=>rfl,rfl⟩;simp only[aZ,GMw,d2,Em,forget,Ew,fgt];rw[e]
 ·have d2:decide ((l.length:Int)<2)=false:=zXd (by omega);have key:=Ep (G:=λrec1 vs H1=>Sh.f2p H rec1 (ag vs 0) (ag vs 1) (ag vs 2) H1) (σ:=Nat)
   (λk vs H1=>(1<=k/\k<=l.length/\cpL ltC (l.take k)=l.take k)/\vs=[dV p g l.length,f,.i6 (k:Int)]/\H1=H) (λk=>l.length-k) (λk=>k<l.length->dupAt l k=true) (λk vs H1 hI hd=>?_)
   (s:=1) (vs:=[dV p g l.length,f,.i6 1]) (H:=H) ⟨⟨UK _,by omega,by
    cases l with
    | nil=>simp at h2
    | cons c l=>rfl⟩,rfl,rfl⟩ (by omega)
  ·obtain⟨k,vs,H1,hd,⟨⟨i1,i2,i3⟩,rfl,rfl⟩,rec,aB⟩:=key;simp only[aZ,GMw,d2];rw[aB];by_cases hk:k<l.length
   ·have hk1:k-1<l.length:=by omega
    have mZ:=hd hk;rw[dupAt_eq hk hk1]at mZ;obtain⟨G,r,g1,g2,g3,g4⟩:=compact_l2 (H0:=H1) hf h i1 hk i3 mZ hl;refine⟨G,r,?_,g2,g3,g4⟩;have d1:decide ((k:Int)<(l.length:Int))=true:=zXc (by omega);have cQ:IntKind.i64.wrap ((k:Int)-1)=((k-1:Nat):Int):=by rw[Ao] <;> omega
    have c1:=hf l[k] (UV hk) l[k-1] (UV hk1);rw[mZ]at c1;have s1:Bw 5 (dV p g l.length) (some (.i6 (k:Int))) none none=some (.ms p g (k*5) (l.length-k) (l.length-k) 5 false):=by
     have:k<=l.length:=by omega
     simp[Bw,By,this]
    unfold Sh.f2p;simp only[An,Ai,Bb,Bd,GMw,aZ,d1,cQ,Ce hk,Ce (show k-1<l.length by omega),CB h hk,CB h (show k-1<l.length by omega),BQ,c1,s1];exact g1
   ·have d1:decide ((k:Int)<(l.length:Int))=false:=zXd (by omega);have e:cpL ltC l=l:=by
     rw[US (by omega)]at i3;exact i3
    refine⟨H1,[],?_,by rw[e];exact h.t,λ_ _=>rfl,rfl⟩;unfold Sh.f2p;simp only[An,Ai,Bb,Bd,GMw,aZ,d1,Em,forget,Ew,fgt];rw[e]
  ·obtain⟨⟨i1,i2,i3⟩,rfl,rfl⟩:=hI;have hk:k<l.length:=by
    rcases Vy k l.length with q | q
    ·exact q
    ·exact absurd (λhk=>absurd hk (by omega)) hd
   have hk1:k-1<l.length:=by omega
   have he:BP ltC l[k] l[k-1]=false:=by
    cases e:BP ltC l[k] l[k-1]with
    | false=>rfl
    | true=>exact absurd (λ_=>by rw[dupAt_eq hk hk1];exact e) hd
   have d1:decide ((k:Int)<(l.length:Int))=true:=zXc (by omega);have cQ:IntKind.i64.wrap ((k:Int)-1)=((k-1:Nat):Int):=by rw[Ao] <;> omega
   have cA:=As (show k<9223372036854775807 by omega);have c1:=hf l[k] (UV hk) l[k-1] (UV hk1);rw[he]at c1;refine⟨k+1,_,_,by omega,⟨⟨by omega,hk,by rw[dY k i1 hk,if_neg (by rw[he];decide),i3,UR hk]⟩,rfl,rfl⟩,λrec=>?_⟩;unfold Sh.f2p;simp only[An,Ai,Bb,Bd,GMw,aZ,d1,cQ,Ce hk,Ce (show k-1<l.length by omega),CB h hk,CB h (show k-1<l.length by omega),BQ,c1,cA]
theorem Rv (h:RwT H p g l r):AB H p g=some (flat cCl l++r):=by
 unfold RwT at h;simp[AB,h]
theorem row_ldT {i:Nat}(h:RwT H p g l r)(hi:i<l.length):Ad true 5 (.ptr p g (i*5)) H=some (.agg (cCl l[i])):=by
 have h1:=Kz (f:=cCl) (sz:=5) hi;have h2:=QS (f:=cCl) (sz:=5) hi;have h3:((flat cCl l++r).drop (i*5)).take 5=cCl l[i]:=by
  rw[WP (by omega),Wj (by rw[Vc];omega),h2]
 simp only[Ad,Rv h,zXa,if_true,h3];rw[if_pos (by rw[UO];omega)]
theorem row_stT {i:Nat}(h:RwT H p g l r)(hi:i<l.length)(a:Cl):∃G,Ae 5 (.ptr p g (i*5)) (.agg (cCl a)) H=some G/\RwT G p g (l.set i a) r/\(∀i,i≠p->G[i]? = H[i]?)/\G.length=H.length:=by
 have aW:p<H.length:=(UH.1 h).1;have h1:=Kz (f:=cCl) (sz:=5) hi;have hs:=Sw (f:=cCl) (sz:=5) (a:=a) hi;have aH:∀cs,FH H p g cs=H.set p (.buf g cs A8 5):=λcs=>by
  unfold RwT at h;unfold FH;rw[h]
 have hp:Dc (flat cCl l++r) (i*5) 5 (cCl a)=flat cCl (l.set i a)++r:=by
  rw[<-hs];unfold Dc;rw[Wj (by omega),WP (by omega)];simp only[UP]
 refine⟨H.set p (.buf g (flat cCl (l.set i a)++r) A8 5),?_,?_,λj hj=>by rw[UI (Ne.symm hj)],by rw[zYa]⟩
 ·simp only[Ae,Rv h,zXa,MY,show (cCl a).length=5 from rfl];rw[if_pos ⟨trivial,by rw[UO];omega⟩,aH,hp]
 ·unfold RwT;rw[UT aW]
theorem RwT.push (h:RwT H p g l r)(G:Aa):RwT (H++G) p g l r:=by
 have aW:p<H.length:=(UH.1 h).1;unfold RwT at h ⊢;rw[UL aW];exact h
def z0 (c:Cl):Bool:=decide (c.s=0)
theorem index_z {cap:Nat}(hf:∀c∈l,∀H,DK AH f [.agg (cCl c)] H=some (.ret (.bool (z0 c)),H))(h:RwT H p g l r)(hl:l.length<1000000000) :
  Sh.ff (.ms p g 0 l.length cap 5 false) f H=some (.ret (.i6 (match l.findIdx? z0 with | some i=>(i:Int) | none=>-1)),H):=by
 have aZ:A7 (.ms p g 0 l.length cap 5 false)=some (.i6 (l.length:Int)):=rfl;unfold Sh.ff;simp only[aZ,GMw];have key:=AZ (G:=λrec1 vs H1=>Sh.fq H rec1 (ag vs 0) (ag vs 1) (ag vs 2) (ag vs 3) H1) (σ:=Nat) (λi=>i<=l.length/\(l.take i).findIdx? z0=none)
  (λi=>[.ms p g 0 l.length cap 5 false,f,.i6 (l.length:Int),.i6 (i:Int)]) (λ_=>H) (λi=>l.length-i) (λ_=>some (.ret (.i6 (match l.findIdx? z0 with | some i=>(i:Int) | none=>-1)),H)) (λi rec hi hrec=>?_) 0 ⟨Ve _,rfl⟩ (by omega)
 ·exact key
 ·obtain⟨h1,h2⟩:=hi;unfold Sh.fq;by_cases hi:i<l.length
  ·have d1:decide ((i:Int)<(l.length:Int))=true:=zXc (by omega);have x1:Aw 5 (.ms p g 0 l.length cap 5 false) (.i6 (i:Int))=some (.ptr p g (i*5)):=by rw[CS hi,UJ]
   have cM:=As (show i<9223372036854775807 by omega);have c1:=hf l[i] (UV hi);cases hz:z0 l[i]with
   | true=>
    rw[hz]at c1;have:l.findIdx? z0=some i:=by
     rw[WJ];refine⟨hi,hz,λj hj=>?_⟩;rw[Xf]at h2;have:=h2 l[j] (by rw[List.mem_take_iff_getElem];exact⟨j,by omega,rfl⟩);simpa using this
    simp only[An,Ai,Bb,Bd,B7,GMw,d1,x1,row_ldT h hi,c1,this]
   | false=>
    rw[hz]at c1;simp only[An,Ai,Bb,Bd,B7,GMw,d1,x1,row_ldT h hi,c1,cM];refine hrec (i+1) ⟨hi,?_⟩ (by omega);rw[UR hi,List.findIdx?_append,h2];simp[hz]
  ·have d1:decide ((i:Int)<(l.length:Int))=false:=zXd (by omega);rw[US (by omega)]at h2;simp only[An,Ai,Bb,Bd,B7,GMw,d1,h2]

end
theorem fall_msX {α:Type}{f:α->List Ab}{sz:Nat}[hf:Sz f sz][hp:Pl f]{H:Aa}{l:List α}{r:List Ab}{id b d cap:Nat}{ex:Bool}(hg:AB H id 0=some (flat f l++r))(hi:b<=id):Hl H b (d+3) (.ms id 0 0 l.length cap sz ex)=some (.sl (enL f l) .no):=by
 have h1:¬id<b:=by omega
 have h2:l.length*sz<=(flat f l++r).length:=by rw[UO,Fj];omega
 have h3:(flat f l++r).take (l.length*sz)=flat f l:=by rw[<-Fj (f:=f) (sz:=sz) l,Xa]
 unfold Hl;simp only[frz,h1,if_false,hg,zXa,VX,UJ,h2,if_true,h3,Hb (MT (f:=f) l),Ow (f:=f) l,Mb,zXb,forget,Ew,fgt]
section
variable {p g:Nat}{l:List Cl}{H:Aa}{r:List Ab}{f:Ab}
def kp (c:Cl):Bool:=decide (c.s≠0)
theorem kp_z (c:Cl):kp c = !z0 c:=by unfold kp z0;by_cases h:c.s=0 <;> simp[h]
theorem p_delete {cap:Nat}(hf:∀c∈l,∀H,DK AH f [.agg (cCl c)] H=some (.ret (.bool (z0 c)),H))(hf2:∀c∈l,∀H,DK AY f [.agg (cCl c)] H=some (.ret (.bool (z0 c)),H))
  (h:RwT H p g l r)(hc:l.length<=cap)(hl:cap<1000000000) :
  ∃G r',Sh.f1f (.ms p g 0 l.length cap 5 false) f H=some (.ret (.ms p g 0 (l.filter kp).length cap 5 false),G)/\RwT G p g (l.filter kp) r'/\(∀i,i<H.length->i≠p->G[i]? = H[i]?)/\H.length<=G.length:=by
 have dE:=index_z (cap:=cap) hf h (by omega);have aZ:A7 (.ms p g 0 l.length cap 5 false)=some (.i6 (l.length:Int)):=rfl;unfold Sh.f1f;cases dT:l.findIdx? z0 with
 | none=>
  rw[dT]at dE;have e:l.filter kp=l:=by
   rw[List.filter_eq_self];intro c hc;rw[Xf]at dT;rw[kp_z,dT c hc];rfl
  refine⟨H,r,?_,by rw[e];exact h,λ_ _ _=>rfl,UK _⟩;have hb:((-1:Int) == -1)=true:=rfl;simp only[GMw,dE,hb,Em,forget,Ew,fgt];rw[e]
 | some i0=>
  rw[dT]at dE;rw[WJ]at dT;obtain⟨jJ,mG,qY⟩:=dT;have hb:(((i0:Nat):Int) == -1)=false:=by rw[beq_eq_false_iff_ne];omega
  have hw0:=As (show i0<9223372036854775807 by omega);have ef:(l.take (i0+1)).filter kp=l.take i0:=by
   rw[UR jJ,Vz];have e1:(l.take i0).filter kp=l.take i0:=by
    rw[List.filter_eq_self];intro c hc;rw[List.mem_take_iff_getElem]at hc;obtain⟨j,hj,rfl⟩:=hc;rw[kp_z];have:=qY j (by omega);simpa using this
   have e2:[l[i0]].filter kp=[]:=by simp[VA,kp_z,mG]
   rw[e1,e2,Vl]
  have key:=Ep (G:=λrec1 vs H1=>Sh.f2q H rec1 (ag vs 0) (ag vs 1) (ag vs 2) (ag vs 3) H1) (σ:=Nat×List Cl)
   (λs vs K=>(i0+1<=s.1/\s.1<=l.length/\s.2.length=l.length/\((l.take s.1).filter kp).length<s.1/\s.2.take ((l.take s.1).filter kp).length=(l.take s.1).filter kp/\s.2.drop s.1=l.drop s.1) /\
    (RwT K p g s.2 r/\(∀i,i<H.length->i≠p->K[i]? = H[i]?)/\H.length<=K.length)/\vs=[.ms p g 0 l.length cap 5 false,f,.i6 (((l.take s.1).filter kp).length:Int),.i6 (s.1:Int)]) (λs=>l.length-s.1) (λs=>¬s.1<l.length) (λs vs K hI hd=>?_)
   (s:=(i0+1,l)) (vs:=[.ms p g 0 l.length cap 5 false,f,.i6 (i0:Int),.i6 ((i0+1:Nat):Int)]) (H:=H)
   (by
    have e2:(l.take i0).length=i0:=by rw[UY];omega
    dsimp only;rw[ef,e2];exact⟨⟨UK _,jJ,rfl,by omega,rfl,rfl⟩,⟨h,λ_ _ _=>rfl,UK _⟩,rfl⟩) (by dsimp only;omega)
  ·obtain⟨⟨j,L⟩,vs,K,hd,⟨⟨i1,i2,i3,i4,i5,i6⟩,⟨k1,k2,k3⟩,rfl⟩,rec,aB⟩:=key;dsimp only at i1 i2 i3 i4 i5 i6 k1 hd aB;have ej:j=l.length:=by omega
   subst ej;rw[US (UK _)]at i4 i5 aB;obtain⟨G,r',g1,g2,g3,g4⟩:=TP (k:=(l.filter kp).length) k1 (by omega);rw[i3]at g1;rw[i5]at g2;have d1:decide ((l.length:Int)<(l.length:Int))=false:=zXd (by omega);have s1:Bw 5 (.ms p g 0 l.length cap 5 false) (some (.i6 ((l.filter kp).length:Int))) none none=some (.ms p g ((l.filter kp).length*5) (l.length-(l.filter kp).length) (cap-(l.filter kp).length) 5 false):=by
    have:(l.filter kp).length<=l.length:=by omega
    simp[Bw,By,this,hc]
   have s2:Bw 5 (.ms p g 0 l.length cap 5 false) none (some (.i6 ((l.filter kp).length:Int))) none=some (.ms p g 0 (l.filter kp).length cap 5 false):=by
    have:(l.filter kp).length<=cap:=by omega
    simp[Bw,By,this]
   have g1':K8 5 (some zCl) (.ms p g ((l.filter kp).length*5) (l.length-(l.filter kp).length) (cap-(l.filter kp).length) 5 false) K=some G:=g1;refine⟨G,r',?_,g2,λi hi hne=>by rw[g3 i hne];exact k2 i hi hne,by omega⟩;simp only[GMw,dE,hb,hw0];rw[aB];unfold Sh.f2q;simp only[An,Ai,Bb,Bd,B7,GMw,aZ,d1,s1,s2];rw[show [Ab.bool false,.sl [] .ti,.bool false,.sl [] .ti,.int .u8 0]=zCl from rfl,g1'];simp only[GMw,AC,Em,forget,Ew,fgt]
  ·obtain⟨j,L⟩:=s;obtain⟨⟨i1,i2,i3,i4,i5,i6⟩,⟨k1,k2,k3⟩,rfl⟩:=hI;dsimp only at i1 i2 i3 i4 i5 i6 k1 hd ⊢;have hj:j<l.length:=by omega
   have hLj:j<L.length:=by omega
   have ej:L[j]=l[j]:=by
    have:=congrArg (λx=>x[0]?) i6;simp only[V5,Nat.add_zero]at this;rw[UG hLj,UG hj]at this;exact Wc this
   have edr:L.drop (j+1)=l.drop (j+1):=by
    have:=congrArg (List.drop 1) i6;rw[VZ,VZ]at this;exact this
   have d1:decide ((j:Int)<(l.length:Int))=true:=zXc (by omega);have x1:Aw 5 (.ms p g 0 l.length cap 5 false) (.i6 (j:Int))=some (.ptr p g (j*5)):=by rw[CS hj,UJ]
   have tA:=As (show j<9223372036854775807 by omega);have ld:=row_ldT k1 hLj;rw[ej]at ld;have al:Ax (some [.bool false,.sl [] .ti,.bool false,.sl [] .ti,.int .u8 0]) K=some (.ptr K.length 0 0,K++[.cel 0 zCl]):=alloc_eq rfl;have stv:Ae 5 (.ptr K.length 0 0) (.agg (cCl l[j])) (K++[.cel 0 zCl])=some (K++[.cel 0 (cCl l[j])]):=by
    simp only[Ae,A1 Ap,zXa,MY,show (cCl l[j]).length=5 from rfl];rw[if_pos ⟨trivial,by simp[zCl]⟩,B5 Ap,Ba]
    rfl
   have ldv:Ad true 5 (.ptr K.length 0 0) (K++[.cel 0 (cCl l[j])])=some (.agg (cCl l[j])):=by
    simp only[Ad,A1 Ap,zXa];rfl
   have c1:=hf2 l[j] (UV hj);have kr:=k1.push [.cel 0 (cCl l[j])];have dZ:(l.take (j+1)).filter kp=(l.take j).filter kp++[l[j]].filter kp:=by rw[UR hj,Vz]
   cases hz:z0 l[j]with
   | true=>
    have e0:[l[j]].filter kp=[]:=by simp[VA,kp_z,hz]
    rw[e0,Vl]at dZ;rw[hz]at c1;refine⟨(j+1,L),_,K++[.cel 0 (cCl l[j])],by dsimp only;omega,⟨⟨by dsimp only;omega,hj,i3,by dsimp only;rw[dZ];omega,by dsimp only;rw[dZ];exact i5,edr⟩,⟨kr,λi hi hne=>by rw[UL (by omega)];exact k2 i hi hne,by simp;omega⟩,rfl⟩,λrec=>?_⟩;unfold Sh.f2q Sh.f7n;simp only[An,Ai,Bb,Bd,B7,GMw,aZ,d1,x1,ld,al,stv,ldv,AC,c1,tA,dZ]
   | false=>
    have e0:[l[j]].filter kp=[l[j]]:=by simp[VA,kp_z,hz]
    rw[e0]at dZ;rw[hz]at c1;have aF:((l.take j).filter kp).length<L.length:=by omega
    obtain⟨G,g1,g2,g3,g4⟩:=row_stT kr aF l[j];have cM:=As (show ((l.take j).filter kp).length<9223372036854775807 by omega);have x2:Aw 5 (.ms p g 0 l.length cap 5 false) (.i6 (((l.take j).filter kp).length:Int))=some (.ptr p g (((l.take j).filter kp).length*5)):=by rw[CS (by omega),UJ]
    have hGl:G.length=K.length+1:=by rw[g4];simp
    refine⟨(j+1,L.set ((l.take j).filter kp).length l[j]),_,G,by dsimp only;omega,⟨⟨by dsimp only;omega,hj,by dsimp only;rw[zYa];exact i3,by dsimp only;rw[dZ];simp;omega,by
      dsimp only;rw[dZ,UO,zXi,UR (by rw[zYa];omega),Xw,List.take_set_of_le (UK _),i5],by
      dsimp only;rw[List.drop_set_of_lt (by omega)];exact edr⟩,⟨g2,λi hi hne=>by rw[g3 i hne,UL (by omega)];exact k2 i hi hne,by omega⟩,rfl⟩,λrec=>?_⟩
    unfold Sh.f2q Sh.f7n;simp only[An,Ai,Bb,Bd,B7,GMw,aZ,d1,x1,x2,ld,al,stv,ldv,AC,c1,g1,cM,tA,dZ,UO,zXi]

end
theorem LY {g:FuncId}{F:List Ab->Aa->Out}{o:Orc}{args:List Ab}{H:Aa}:DK (ent g F o) (.fn g []) args H=F args H:=by
 unfold DK ent;simp only[if_true,Vl]
theorem QZ {g g':FuncId}{F:List Ab->Aa->Out}{o:Orc}{args:List Ab}{H:Aa}(h:¬g'=g):DK (ent g F o) (.fn g' []) args H=DK o (.fn g' []) args H:=by
 unfold DK ent;simp only[h,if_false]
theorem OJ (F:Ab->Aa->Out)(a:Ab)(H:Aa):ap1 F [a] H=F a H:=rfl
theorem ap2_two (F:Ab->Ab->Aa->Out)(a b:Ab)(H:Aa):ap2 F [a,b] H=F a b H:=rfl
theorem cmp_ins {l:List Cl}(hok:∀c∈l,c.ok):Ta AD (.fn 144 []) l:=λc hc d hd K=>by
 unfold AD;rw[LY,ap2_two];exact p_order (hok c hc) (hok d hd) K
theorem cmp_sym {l:List Cl}(hok:∀c∈l,c.ok):Tz (.fn 144 []) l:=λself c hc d hd K=>by
 unfold Bc;rw[QZ (by decide),LY,ap2_two];exact p_order (hok c hc) (hok d hd) K
theorem p_last1 {c d:Cl}(hc:c.ok)(hd:d.ok)(H:Aa):Sh.f4p (.agg (cCl c)) (.agg (cCl d)) H=some (.ret (.bool (BP ltC c d)),H):=by
 have e1:(H++[Blk.cel 0 (cCl c)]++[Blk.cel 0 (cCl d)])[H.length]? = some (.cel 0 (cCl c)):=by simp
 have e2:(H++[Blk.cel 0 (cCl c)]++[Blk.cel 0 (cCl d)])[(H++[Blk.cel 0 (cCl c)]).length]? = some (.cel 0 (cCl d)):=Ap;have ld:∀ {K:Aa} {p:Nat} {x:Cl},K[p]? = some (.cel 0 (cCl x))->Ad true 5 (.ptr p 0 0) K=some (.agg (cCl x)):=λh=>by
  simp only[Ad,A1 h,zXa];rfl
 have ho:=λK=>p_order hc hd K;have fin:∀q:Bool,rP H (.bool q) (H++[Blk.cel 0 (cCl c)]++[Blk.cel 0 (cCl d)])=some (.ret (.bool q),H):=λq=>Gn rfl (by simp);have hb:(Jr c d == 0)=BP ltC c d:=by rw[<-Ua];rfl
 unfold Sh.f4p;simp only[GMw,boxCl,ld e1,ld e2,ho,hb,fin]
theorem QK (c:Cl)(H:Aa):Sh.f2j (.agg (cCl c)) H=some (.ret (.bool (z0 c)),H):=by
 have ld:Ad false 1 (.ptr H.length 0 4) (H++[Blk.cel 0 (cCl c)])=some (.int .u8 (c.s.toNat:Int)):=by
  simp only[Ad,A1 Ap,zXa];rfl
 have fin:∀q:Bool,rP H (.bool q) (H++[Blk.cel 0 (cCl c)])=some (.ret (.bool q),H):=λq=>Gn rfl (by simp);have hb:((c.s.toNat:Int) == 0)=z0 c:=by
  unfold z0;by_cases h:c.s=0
  ·rw[h];rfl
  ·rw[zXd h,beq_eq_false_iff_ne];intro e;exact h (WB.1 (by simpa using e))
 unfold Sh.f2j;simp only[GMw,boxCl,Ah,UJ,ld,hb,fin]
theorem kp_last (l:List Cl):(DS l).filter kp=D3 l:=rfl
theorem eq_cp {l:List Cl}(hok:∀c∈l,c.ok):∀c∈l,∀d∈l,∀H,DK AJ (.fn 146 []) [.agg (cCl c),.agg (cCl d)] H=some (.ret (.bool (BP ltC c d)),H):=λc hc d hd K=>by
 unfold AJ;rw[LY,ap2_two];exact p_last1 (hok c hc) (hok d hd) K
theorem z_ix (c:Cl)(K:Aa):DK AH (.fn 148 []) [.agg (cCl c)] K=some (.ret (.bool (z0 c)),K):=by
 unfold AH
 first
  | rw[LY,OJ];exact QK c K
  | rw[QZ (by decide),LY,OJ];exact QK c K
theorem z_del (c:Cl)(K:Aa):DK AY (.fn 148 []) [.agg (cCl c)] K=some (.ret (.bool (z0 c)),K):=by
 unfold AY
 first
  | rw[LY,OJ];exact QK c K
  | rw[QZ (by decide),LY,OJ];exact QK c K
theorem last_nil (H:Aa)(f1 f2 f3:Ab):Sh.f1s (.sl [] .ti) H=some (.ret (.tup []),H)/\Sh.f21 (.sl [] .ti) f1 H=some (.ret (.tup []),H) /\
  Sh.f1e (.sl [] .ti) f2 H=some (.ret (.sl [] .no),H)/\Sh.f1f (.sl [] .no) f3 H=some (.ret (.sl [] .no),H):=by
 have hl:∀tk,A7 (.sl [] tk)=some (.i6 0):=λ_=>rfl;have w1:IntKind.i64.wrap (0-1) = -1:=rfl;have w2:IntKind.i64.wrap (0+1)=1:=rfl;have d1:decide ((0:Int) < -1)=false:=rfl;have d2:decide ((20:Int)<=0)=false:=rfl;have d3:decide ((1:Int)<0)=false:=rfl;have d4:decide ((20:Int)<0)=false:=rfl;have d5:decide ((0:Int)<2)=true:=rfl;have d6:decide ((0:Int)<0)=false:=rfl;have eK:Sh.fr (.sl [] .ti) (.i6 0) (.i6 0) f1 H=some (.ret (.tup []),H):=by
  unfold Sh.fr;simp only[GMw,w2];rw[Dp DZ];unfold Sh.f4l;simp only[An,Ai,Bb,Bd,B7,Cb,GMw,d3]
 have hst:Sh.f20 (.sl [] .ti) (.i6 0) f1 H=some (.ret (.tup []),H):=by
  unfold Sh.f20;rw[Dp DZ];unfold Sh.f2o;simp only[An,Ai,Bb,Bd,B7,Cb,DL,GMw,d2,eK];rw[Dp DZ];unfold Sh.f1d;simp only[An,Ai,Bb,Bd,B7,GMw,d4]
 have dE:Sh.ff (.sl [] .no) f3 H=some (.ret (.i6 (-1)),H):=by
  unfold Sh.ff;simp only[hl,GMw];rw[Dp DZ];unfold Sh.fq;simp only[An,Ai,Bb,Bd,B7,GMw,d6]
 refine⟨?_,?_,?_,?_⟩
 ·unfold Sh.f1s;simp only[hl,GMw,w1];rw[Dp DZ];unfold Sh.f2l;simp only[An,Ai,Bb,Bd,GMw,d1]
 ·unfold Sh.f21;simp only[hl,GMw,hst]
 ·unfold Sh.f1e;simp only[hl,GMw,d5,Em,forget,Ew,fgt]
 ·unfold Sh.f1f;have hb:((-1:Int) == -1)=true:=rfl;simp only[GMw,dE,hb,Em,forget,Ew,fgt]
theorem p_last (l:List Cl)(tk:Tok)(H:Aa)(hl:l.length<1000000000)(hok:∀c∈l,c.ok):Sh.f4q (.sl (enL cCl l) tk) H=some (.ret (.sl (enL cCl (D3 l)) .no),H):=by
 have aG:=p_clone l tk H hl;unfold Sh.f4q;by_cases h0:l=[]
 ·subst h0;rw[if_pos rfl]at aG;obtain⟨n1,n2,n3,n4⟩:=last_nil H (.fn 144 []) (.fn 146 []) (.fn 148 []);have hl0:D3 ([]:List Cl)=[]:=rfl;simp only[GMw,aG,n1,n2,n3,n4,LN,Hx,zXb,hl0]
  rfl
 ·rw[if_neg h0]at aG;have hp:0<l.length:=Vq.2 h0;have r0:De (H++[.buf 0 (flat cCl l) A8 5]) H.length 0 l:=by unfold De;simp
  have nP:=p_reverse r0 hp hl;have r1:De (BW (H++[.buf 0 (flat cCl l) A8 5]) H.length 0 l.reverse) H.length 0 l.reverse:=Dj r0;have xO:l.reverse.length=l.length:=List.length_reverse;obtain⟨S,s1,s2,s3,s4⟩:=p_sort (f:=.fn 144 []) (l0:=l) (cmp_ins hok) (cmp_sym hok) r1 (λc hc=>List.mem_reverse.1 hc) (by omega);rw[xO,BB]at s4;rw[xO]at s3;have zO:∀c∈S,c∈l:=λc hc=>List.mem_reverse.1 ((s2.mem Lk).2 hc);have r2:De (BW (H++[.buf 0 (flat cCl l) A8 5]) H.length 0 S) H.length 0 S:=Dj r0;obtain⟨G,r,g1,g2,g3,g4⟩:=p_compact (f:=.fn 146 []) (eq_cp λc hc=>hok c (zO c hc)) r2 (by omega);have sH:=cp_last s1 s2;rw[sH,s3]at g1;rw[sH]at g2;have hAl:(DS l).length<=l.length:=by rw[<-sH,<-s3];exact cpL_len _ _
  obtain⟨G2,r',k1,k2,k3,k4⟩:=p_delete (f:=.fn 148 []) (cap:=l.length) (λc hc K=>z_ix c K) (λc hc K=>z_del c K) g2 hAl hl;rw[kp_last]at k1 k2;have hHl:(H++[Blk.buf 0 (flat cCl l) A8 5]).length=H.length+1:=by simp
  have hGl:G.length=H.length+1:=by rw[g4];unfold BW;rw[zYa,hHl]
  have hold:∀i,i<H.length->G2[i]? = H[i]? := λi hi=>by
   rw[k3 i (by omega) (by omega),g3 i (by omega)];unfold BW;rw[UI (by omega),UL hi]
  have eC:=fall_msX (d:=5) (cap:=l.length) (ex:=false) (Rv k2) (UK H.length);simp only[GMw,aG,nP,s4,g1,k1,Fa (Cm hold)];rw[eC]
  rfl
theorem p_of1 (r:RC)(hf:r.fits)(H:Aa):Sh.f4g (.agg (cRC r)) H=some (.ret (.bool (!r.right)),H):=by
 obtain⟨f1,f2,f3,f4⟩:=hf;have hb:Bu true 5 (.agg (cRC r)) H=some (.ptr H.length 0 0,H++[.cel 0 (cRC r)]):=Cz rfl rfl;have e1:(H++[Blk.cel 0 (cRC r)])[H.length]? = some (.cel 0 (cRC r)):=Ap;have l1:Ad true 2 (.ptr H.length 0 0) (H++[Blk.cel 0 (cRC r)])=some (.agg [.bool r.n1,.sl (enL cU r.l1) .no]):=by
  simp only[Ad,A1 e1,zXa];rfl
 have l2:Ad true 2 (.ptr H.length 0 2) (H++[Blk.cel 0 (cRC r)])=some (.agg [.bool r.n2,.sl (enL cU r.l2) .no]):=by
  simp only[Ad,A1 e1,zXa];rfl
 have r1:=λK=>RI r.n1 r.l1 .no K f3;have r2:=λK=>RI r.n2 r.l2 .no K f4;have fin:∀q:Bool,rP H (.bool q) (H++[Blk.cel 0 (cRC r)])=some (.ret (.bool q),H):=λq=>Gn rfl (by simp);unfold Sh.f4g RC.right;simp only[GMw,hb,Ah,UJ,l1,r1];cases Hs r.n1 r.l1 with
 | false=>simp only[GMw,V0,fin,Wa]
 | true=>simp only[GMw,Vp,Ah,UJ,l2,r2,fin,zXn]
theorem SE (l:List RC)(tk:Tok)(H:Aa)(hl:l.length<1000000000)(hf:∀r∈l,r.fits) :
  Sh.f4h (.sl (enL cRC l) tk) (.fn 84 []) H=some (.ret (.bool (!l.all RC.right)),H):=by
 have dB:∀(r:RC),r∈l->∀K,DK AH (.fn 84 []) [.agg (cRC r)] K=some (.ret (.bool (!r.right)),K):=λr hr K=>by
  unfold AH;rw[QZ (by decide),LY,OJ];exact p_of1 r (hf r hr) K
 have key:∃k:Int,Sh.ff (.sl (enL cRC l) tk) (.fn 84 []) H=some (.ret (.i6 k),H)/\decide (k>=0) = !l.all RC.right:=by
  unfold Sh.ff;simp only[Ay,GMw];cases aD:l.all RC.right with
  | true=>
   refine⟨-1,?_,rfl⟩;refine Cj (G:=λrec1 vs H1=>Sh.fq H rec1 (ag vs 0) (ag vs 1) (ag vs 2) (ag vs 3) H1) l.length
    (λi=>[.sl (enL cRC l) tk,.fn 84 [],.i6 (l.length:Int),.i6 (i:Int)]) (λ_=>H) _ (by omega) (λrec i hi=>?_) (λrec=>?_)
   ·have d1:decide ((i:Int)<(l.length:Int))=true:=zXc (by omega);have hr:l[i].right=true:=Vb.1 aD _ (UV hi);have c1:=dB l[i] (UV hi) H;have hld:Ad true 5 (.cptr (cRC l[i]) 0) H=some (.agg (cRC l[i])):=rfl;have cM:=As (show i<9223372036854775807 by omega);rw[hr]at c1;unfold Sh.fq;simp only[An,Ai,Bb,Bd,B7,GMw,d1,A4 hi,hld,c1,cM,Vp]
   ·have d1:decide ((l.length:Int)<(l.length:Int))=false:=zXd (by omega);unfold Sh.fq;simp only[An,Ai,Bb,Bd,B7,GMw,d1]
  | false=>
   obtain⟨k,hk⟩:∃k,l.findIdx? (λr=>!r.right)=some k:=by
    cases hq:l.findIdx? (λr=>!r.right)with
    | some k=>exact⟨k,rfl⟩
    | none=>
     rw[Xf]at hq;rw[W6]at aD;obtain⟨r,hr,h⟩:=aD;have:=hq r hr;cases eZ:r.right with
     | true=>exact absurd eZ h
     | false=>rw[eZ]at this;simp at this
   rw[WJ]at hk;obtain⟨k1,k2,k3⟩:=hk;refine⟨k,?_,by simp⟩;have loop:=AZ (G:=λrec1 vs H1=>Sh.fq H rec1 (ag vs 0) (ag vs 1) (ag vs 2) (ag vs 3) H1) (σ:=Nat) (λi=>i<=k)
    (λi=>[.sl (enL cRC l) tk,.fn 84 [],.i6 (l.length:Int),.i6 (i:Int)]) (λ_=>H) (λi=>k-i) (λ_=>some (.ret (.i6 (k:Int)),H)) (λi rec hi hrec=>?_) 0 (Ve _) (by omega)
   ·exact loop
   ·have hil:i<l.length:=by omega
    have d1:decide ((i:Int)<(l.length:Int))=true:=zXc (by omega);have c1:=dB l[i] (UV hil) H;have hld:Ad true 5 (.cptr (cRC l[i]) 0) H=some (.agg (cRC l[i])):=rfl;have cM:=As (show i<9223372036854775807 by omega);unfold Sh.fq;rcases Vy i k with h | h
    ·have:=k3 i h;have hr:l[i].right=true:=by simpa using this
     rw[hr]at c1;simp only[An,Ai,Bb,Bd,B7,GMw,d1,A4 hil,hld,c1,cM,Vp];exact hrec (i+1) (by omega) (by omega)
    ·obtain rfl:i=k:=by omega
     have hr:(!l[i].right)=true:=k2;rw[hr]at c1;simp only[An,Ai,Bb,Bd,B7,GMw,d1,A4 hil,hld,c1]
 obtain⟨k,e1,e2⟩:=key;unfold Sh.f4h;simp only[GMw,e1,e2]
theorem fold_max (a b c:Nat):HJ JC (.i6 (a:Int)) [.i6 (b:Int),.i6 (c:Int)]=some (.i6 ((max a (max b c):Nat):Int)):=by
 have m:∀x y:Nat,JC (.i6 (x:Int)) (.i6 (y:Int))=some (.i6 ((max x y:Nat):Int)):=λx y=>by
  unfold JC;by_cases h:(y:Int)>(x:Int)
  ·simp only[if_pos h];congr 2;omega
  ·simp only[if_neg h];congr 2;omega
 simp only[HJ,m,zXa]
 congr 2;omega
def bxC (l:List Cl):Aa:=l.map λc=>Blk.cel 0 (cCl c)
theorem bxC_snoc (l:List Cl)(c:Cl):bxC (l++[c])=bxC l++[.cel 0 (cCl c)]:=by simp[bxC]
theorem box5 (H:Aa)(c:Cl):Ae 5 (.ptr H.length 0 0) (.agg (cCl c)) (H++[.cel 0 [.bool false,.sl [] .ti,.bool false,.sl [] .ti,.int .u8 0]])=some (H++[.cel 0 (cCl c)]):=by
 rw[Gc (sz:=5) (ws:=cCl c) Ap rfl rfl rfl,Ba]
theorem ldX (H:Aa)(c:Cl):Ad true 2 (.ptr H.length 0 0) (H++[.cel 0 (cCl c)])=some (big c.x)/\Ad true 2 (.ptr H.length 0 2) (H++[.cel 0 (cCl c)])=some (big c.y)/\Ad false 1 (.ptr H.length 0 4) (H++[.cel 0 (cCl c)])=some (.int .u8 (c.s.toNat:Int)):=by
 refine⟨?_,?_,?_⟩ <;> (simp only[Ad,A1 Ap,zXa];rfl)
theorem need_turn {l:List Cl}{tk:Tok}{H K:Aa}{x2 x14:Ab}{i:Nat}(hi:i<l.length)(hok:∀c∈l,c.ok)(hl:l.length<1000000000)(rec:LK) :
  Sh.f25 H rec x2 x14 (.i6 (Eo l i:Int)) (.sl (enL cCl l) tk) (.i6 (l.length:Int)) (.i6 (i:Int)) (K++bxC (l.take i))=rec [x2,x14,.i6 (Eo l (i+1):Int),.sl (enL cCl l) tk,.i6 (l.length:Int),.i6 ((i+1:Nat):Int)] (K++bxC (l.take (i+1))):=by
 have d1:decide ((i:Int)<(l.length:Int))=true:=zXc (by omega);have cM:=As (show i<9223372036854775807 by omega);have hc:=hok _ (UV hi);have hld:∀G,Ad true 5 (.cptr (cCl l[i]) 0) G=some (.agg (cCl l[i])):=λ_=>rfl;have hal:∀G:Aa,Ax (some [(.bool false),(.sl [] .ti),(.bool false),(.sl [] .ti),(.int .u8 0)]) G=some (.ptr G.length 0 0,G++[.cel 0 [.bool false,.sl [] .ti,.bool false,.sl [] .ti,.int .u8 0]]):=λG=>alloc_eq rfl;have n1:=λG=>p_need (z:=l[i].x) G (hc.1.lb (by decide)) hc.1;have n2:=λG=>p_need (z:=l[i].y) G (hc.2.lb (by decide)) hc.2;have hn:Eo l (i+1)=max (Eo l i) (max (Ob l[i].x) (Ob l[i].y)):=by
  simp only[Eo,UG hi,Qe]
 have hbx:K++bxC (l.take (i+1))=(K++bxC (l.take i))++[.cel 0 (cCl l[i])]:=by
  rw[UR hi,bxC_snoc,UP]
 obtain⟨l1,l2,l3⟩:=ldX (K++bxC (l.take i)) l[i];have tO:=fold_max (Eo l i) (Ob l[i].x) (Ob l[i].y);unfold Ob at tO hn;rw[hbx,hn];generalize K++bxC (l.take i)=G at *;have b5:=box5 G l[i];unfold Sh.f25;simp only[GMw,d1,A4 hi,hld,hal,b5,AC,Ah,UJ,l1,l2,n1,n2,tO,cM,BQ,and_self,HM]
set_option exponentiation.threshold 5000
theorem build_spot (p:Sp):Az (some [(.sl [] .ti),(.sl [] .ti),(.int .u8 0)]) [(0,1,.sl (enL cU (A6 p.a)) .no),(1,1,.sl (enL cU (A6 p.b)) .no),(2,1,.int .u8 (p.s.toNat:Int))]=some (.agg (cSp p)):=by
 simp[Az,Gp,Dc,cSp]
theorem fld_big (z:Int):P9 false 1 1 (big z)=some (.sl (enL cU (A6 z.natAbs)) .no):=rfl
theorem spot_turn {L:List Cl}{tk:Tok}{H Hc:Aa}{x50 x51 w:Ab}{b ph i n:Nat}(hi:i<L.length)(hok:∀c∈L,c.ok)(hl:L.length<1000000000)(hn:n<=1400)(iP:∀c∈L,0<=c.x+2^n/\0<=c.y+2^n)
  (hb:b<=Hc.length)(hR:RS cSp BZ 3 b ((L.take i).map (spot (2^n))) w Hc)(hp:Hc[ph]? = some (.cel 0 (A3 (2^n)))) :
  ∃w' Hd,(∀rec:LK,Sh.f30 H rec x50 x51 (.ptr ph 0 0) w (.sl (enL cCl L) tk) (.i6 (L.length:Int)) (.i6 (i:Int)) Hc=rec [x50,x51,.ptr ph 0 0,w',.sl (enL cCl L) tk,.i6 (L.length:Int),.i6 ((i+1:Nat):Int)] Hd) /\
   RS cSp BZ 3 b ((L.take (i+1)).map (spot (2^n))) w' Hd/\Kp b Hc Hd:=by
 have d1:decide ((i:Int)<(L.length:Int))=true:=zXc (by omega);have cM:=As (show i<9223372036854775807 by omega);have hc:=hok _ (UV hi);have hz:=iP _ (UV hi);have hld:∀G,Ad true 5 (.cptr (cCl L[i]) 0) G=some (.agg (cCl L[i])):=λ_=>rfl;have hal:∀G:Aa,Ax (some [(.bool false),(.sl [] .ti),(.bool false),(.sl [] .ti),(.int .u8 0)]) G=some (.ptr G.length 0 0,G++[.cel 0 [.bool false,.sl [] .ti,.bool false,.sl [] .ti,.int .u8 0]]):=λG=>alloc_eq rfl;have qL:SB 44 (2^n):=EO hn;have a1:=λG=>RK (a:=L[i].x) (b:=2^n) G (hc.1.lb (by decide)) (qL.lb (by decide));have a2:=λG=>RK (a:=L[i].y) (b:=2^n) G (hc.2.lb (by decide)) (qL.lb (by decide));obtain⟨l1,l2,l3⟩:=ldX Hc L[i];have lh:Ad true 2 (.ptr ph 0 0) (Hc++[.cel 0 (cCl L[i])])=some (big (2^n)):=AS (A0 hp);have b5:=box5 Hc L[i];have hR1:=hR.left [Blk.cel 0 (cCl L[i])];obtain⟨w',H2,r1,r2,r3⟩:=hR1.snoc (bytes:=56) (by simp;omega) (spot (2^n) L[i]) .ti (by simp;omega) (by simp;omega);have kY:Az (some [(.sl [] .ti),(.sl [] .ti),(.int .u8 0)]) [(0,1,.sl (enL cU (A6 (L[i].x+2^n).natAbs)) .no),(1,1,.sl (enL cU (A6 (L[i].y+2^n).natAbs)) .no),(2,1,.int .u8 (L[i].s.toNat:Int))]=some (.agg (cSp (spot (2^n) L[i]))):=by
  have e1:(L[i].x+2^n).natAbs=(spot (2^n) L[i]).a:=by unfold spot;dsimp only;omega
  have e2:(L[i].y+2^n).natAbs=(spot (2^n) L[i]).b:=by unfold spot;dsimp only;omega
  rw[e1,e2];exact build_spot _
 have vH:(L.take (i+1)).map (spot (2^n))=(L.take i).map (spot (2^n))++[spot (2^n) L[i]]:=by
  rw[UR hi,Xu];rfl
 rw[vH];refine⟨w',H2,λrec=>?_,r2,(Kp.app hb _).trans r3⟩;unfold Sh.f30;simp only[GMw,d1,A4 hi,hld,hal,b5,AC,Ah,UJ,l1,l2,l3,lh,a1,a2,fld_big,kY,Mx,r1,cM,BQ,and_self,HM]
theorem p_cellsOf (l:List RC)(tk:Tok)(H:Aa)(hl:l.length<700000000)(hf:∀r∈l,r.fits)(hs:∀r∈l,r.right=true->r.cl.ok) :
  Sh.f31 (.sl (enL cRC l) tk) H=some (.ret (if l.all RC.right then .tup [Ef (Ie (l.map RC.cl)).1,.i6 (Ie (l.map RC.cl)).2]else .tup [Ef [],.i6 1]),H):=by
 have Ya:=λK=>SE l tk K (by omega) hf;have hal:Ax (some [(.sl [] .ti)]) H=some (.ptr H.length 0 0,H++[.cel 0 [.sl [] .ti]]):=alloc_eq rfl;unfold Sh.f31;simp only[GMw,hal,Ya];cases hr:l.all RC.right with
 | false=>
  simp only[GMw,V0,NS,UM,if_false]
 | true=>
  have eZ:∀r∈l,r.right=true:=Vb.1 hr;have aG:∀c∈l.map RC.cl,c.ok:=λc hc=>by
   obtain⟨r,h1,rfl⟩:=Wh.1 hc;exact hs r h1 (eZ r h1)
  rw[enL_RC eZ hf];generalize hL:l.map RC.cl=L at aG;have hLl:L.length<700000000:=by rw[<-hL];simpa using hl
  have zP:=λK=>p_last L tk K (by omega) aG;simp only[GMw,Vp,zP,Ay,of07_eq,if_true];have gT:∀c∈D3 L,c.ok:=λc hc=>aG c (Ul hc);have hsl:=Um L;generalize D3 L=S at gT hsl;refine Eq.trans ?hd (Cj (G:=λrec1 vs H1=>Sh.f25 H rec1 (ag vs 0) (ag vs 1) (ag vs 2) (ag vs 3) (ag vs 4) (ag vs 5) H1) S.length
   (λi=>[.ptr H.length 0 0,.sl (enL cCl S) .no,.i6 (Eo S i:Int),.sl (enL cCl S) .no,.i6 (S.length:Int),.i6 (i:Int)]) (λi=>H++[.cel 0 [.sl [] .ti]]++bxC (S.take i))
   (some (.ret (.tup [Ef (RO S).1,.i6 (RO S).2]),H)) (by omega) (λrec i hi=>?_) (λrec=>?_))
  case hd=>
   have e0:H++[Blk.cel 0 [.sl [] .ti]]++bxC (S.take 0)=H++[Blk.cel 0 [.sl [] .ti]]:=by simp[bxC]
   rw[e0]
   rfl
  ·exact need_turn hi gT (by omega) rec
  ·have aT:=levelOf_need S;have d1:decide ((S.length:Int)<(S.length:Int))=false:=zXd (by omega);have Yx:1<=Eo S S.length:=by rw[Pc];omega
   rw[Vs];unfold RO;by_cases hv:1329<Eo S S.length
   ·have aP:decide ((Eo S S.length:Int)>1329)=true:=zXc (by omega);rw[if_pos (by omega)];have wH:Az (some [(.sl [] .ti)]) []=some (.agg [.sl (enL cNd []) .ti]):=rfl;have qt:=I3 (H:=H) (Hq:=H++[.cel 0 [.sl [] .ti]]++bxC S) (tk:=.ti) (Q:=[]) (e:=4) (by rw[UP];simp) (λi hi=>by rw[UP,UL hi]);unfold Sh.f25;simp only[An,Ai,Bb,Bd,B7,Cb,DL,GMw,d1,aP,wH];exact qt
   ·have aP:decide ((Eo S S.length:Int)>1329)=false:=zXd (by omega);have hle:Bh S<=1329:=by omega
    have qX:Bh S=Eo S S.length:=by omega
    rw[if_neg (by omega)];have lI:∀c∈S,InSq (Bh S) (-(2^(Bh S-1))) (-(2^(Bh S-1))) c:=λc hc=>within_sq (by omega) (level_in hle c hc);rw[qX]at lI;rw[qX];obtain⟨n,hn⟩:∃n,Eo S S.length=n+1:=⟨Eo S S.length-1,by omega⟩;rw[hn,Vm]at lI ⊢;have iP:∀c∈S,0<=c.x+2^n/\0<=c.y+2^n:=λc hc=>by
     obtain⟨q1,q2,q3,q4⟩:=lI c hc;generalize (2:Int)^n=P at *;omega
    have vI:=Uk (h:=2^n) (n+1) [] (-(2^n)) (-(2^n)) S 0 0 0 0 (by simp;omega) (by simp;omega) rfl rfl lI;have mJ:IntKind.i64.wrap (((n+1:Nat):Int)-1)=(n:Int):=by rw[Ao] <;> omega
    have bU:=λG=>p_pow (m:=n) (by omega) G;have s1:∀B:Aa,Ae 2 (.ptr B.length 0 0) (big (2^n)) (B++[.cel 0 [.bool false,.sl [] .ti]])=some (B++[.cel 0 (A3 (2^n))]):=λB=>by rw[BU (Ap (B:=B)) rfl,Ba]
    obtain⟨B,hB⟩:∃B,B=H++[.cel 0 [.sl [] .ti]]++bxC S:=⟨_,rfl⟩;have hBH:B[H.length]? = some (.cel 0 [.sl [] .ti]):=by rw[hB,UP];simp
    have hBo:∀i,i<H.length->B[i]? = H[i]? := λi hi=>by rw[hB,UP,UL hi]
    have hBl:H.length<B.length:=(UH.1 hBH).1;rw[<-hB];have loop:=G5 (G:=λaA vs H1=>Sh.f30 H aA (ag vs 0) (ag vs 1) (ag vs 2) (ag vs 3) (ag vs 4) (ag vs 5) (ag vs 6) H1) S.length
     (λi vs Hc=>∃w,vs=[.ptr H.length 0 0,.i6 ((n+1:Nat):Int),.ptr B.length 0 0,w,.sl (enL cCl S) .no,.i6 (S.length:Int),.i6 (i:Int)]/\RS cSp BZ 3 B.length ((S.take i).map (spot (2^n))) w Hc/\Kp B.length (B++[.cel 0 (A3 (2^n))]) Hc)
     (by omega) (λi vs Hc hi hI=>?_) (vs:=[.ptr H.length 0 0,.i6 ((n+1:Nat):Int),.ptr B.length 0 0,.sl [] .ti,.sl (enL cCl S) .no,.i6 (S.length:Int),.i6 0]) (H:=B++[.cel 0 (A3 (2^n))])
     ⟨_,rfl,.inl ⟨rfl,rfl⟩,Kp.refl _ _⟩
    ·obtain⟨vs,Hc,⟨w,rfl,hR,hK⟩,aA,aB⟩:=loop;rw[Vs]at hR;obtain⟨tk2,rfl⟩:=hR.sl;have hKl:=hK.len;rw[UO,zXi]at hKl;have hHc:Hc[H.length]? = some (.cel 0 [.sl [] .ti]):=hK.cel _ _ (A0 hBH);have hHo:∀i,i<H.length->Hc[i]? = H[i]? := λi hi=>by rw[hK.old i (by omega),UL (by omega)];exact hBo i hi
     have hbx:Bu true 1 (.agg [.sl [] .ti]) Hc=some (.ptr Hc.length 0 0,Hc++[.cel 0 [.sl [] .ti]]):=Cz rfl rfl;have wH:Az (some [(.sl [] .ti)]) []=some (.agg [.sl [] .ti]):=rfl;have dM:S.length*(n+1)<=700000000*1329:=WK (by omega) (by omega);have uG:∀p∈S.map (spot (2^n)),SpOk p:=λp hp=>by
      obtain⟨c,hc,rfl⟩:=Wh.1 hp;obtain⟨q1,q2,q3,q4⟩:=lI c hc;have uQ:(2:Int)^(n+1)=((2^(n+1):Nat):Int):=ipow _;rw[uQ]at q2 q4;have tF:2^(n+1)<=2^(32*44):=Vv (by decide) (by omega);rw[<-w_pow]at tF;exact⟨Vf (Fe (k:=44) (by unfold spot;dsimp only;omega)) (by decide),Vf (Fe (k:=44) (by unfold spot;dsimp only;omega)) (by decide)⟩
     obtain⟨Hq,w',p1,p2,p3,p4⟩:=lay_ok (b:=H.length) (pb:=Hc.length) (by omega) (n+1) AM (by rw[CQ];omega) (by omega) (by omega) [] (.sl [] .ti) (S.map (spot (2^n))) tk2 (Hc++[.cel 0 [.sl [] .ti]]) Ap (.inl ⟨rfl,rfl⟩) (by simp;omega) uG (by simp;omega) (by simp only[zXk,VJ];omega);rw[vI]at p1 p3;have aW:=Vf (lay_len (n+1) [] (S.map (spot (2^n)))) (Nat.add_le_add_left (by rw[VJ];exact dM) _);rw[vI]at aW;simp only[zXk]at aW;generalize Bm (n+1) [] (-(2^n)) (-(2^n)) S=P at p1 p3 aW;obtain⟨Q,r⟩:=P;dsimp only at p1 p3 aW ⊢;obtain⟨tk3,rfl⟩:=p3.sl;have uK:=λG=>c06_of Q tk3 (r:Int) G (by omega);have mP:Hq[H.length]? = some (.cel 0 [.sl [] .ti]):=p4.cel _ _ (by omega) (A0 hHc);have qH:∀i,i<H.length->Hq[i]? = H[i]? := λi hi=>by rw[p4.old i hi,UL (by omega)];exact hHo i hi
     have vL:Ad false 1 (.ptr Hc.length 0 0) Hq=some (.sl (enL cNd Q) tk3):=by rw[BH p2];rfl
     unfold Sh.f25;simp only[An,Ai,Bb,Bd,B7,Cb,DL,GMw,d1,hn,show decide (((n+1:Nat):Int)>1329)=false from by rw[<-hn];exact aP,mJ,bU,CL,s1,AC,Ay];rw[aB];unfold Sh.f30;simp only[An,Ai,Bb,Bd,B7,Cb,DL,GMw,d1,wH,hbx,p1,nil_ptr,Ah,UJ,vL,uK];cases ofOk Q (r:Int)with
     | false=>
      simp only[GMw,Bt,Bz,Ef,Bv,UM,if_false];exact I3 mP qH
     | true=>
      simp only[GMw,Bt,Bz,Ef,Bv,zXl,if_true];exact I3 mP qH
    ·obtain⟨w,rfl,hR,hK⟩:=hI;have hKl:=hK.len;rw[UO,zXi]at hKl;obtain⟨w',Hd,t1,t2,t3⟩:=spot_turn (H:=H) (x50:=.ptr H.length 0 0) (x51:=.i6 ((n+1:Nat):Int)) (tk:=.no) hi gT (by omega) (by omega) iP (by omega) hR (hK.cel _ _ Ap);exact⟨_,Hd,⟨w',rfl,t2,hK.trans t3⟩,t1⟩
def rdB (bx N:Int)(st:BSt)(f0 f1 g0 g1 v:Ab):List Ab:=[.i6 bx,.i6 N,.str st.law,.bool st.block,f0,f1,g0,g1,.i6 (st.rows:Int),v]
structure RBx (bx N:Int)(b0 p:Nat)(b:List UInt8)(a:Nat)(st:BSt)(f0 f1 g0 g1 v:Ab)(H:Aa):Prop where
 hb:b0<=p
 lx:Lx H p b a (rdB bx N st f0 f1 g0 g1 v)
 row:RS cCl A8 5 b0 st.cells v H
 fx:st.block=true->[f0,f1]=A3 st.x
 gy:st.block=true->[g0,g1]=A3 st.y
def RB (bx N:Int)(b0 p:Nat)(b:List UInt8)(a:Nat)(st:BSt)(H:Aa):Prop:=∃f0 f1 g0 g1 v,RBx bx N b0 p b a st f0 f1 g0 g1 v H
section
variable {bx N:Int}{b0 p a:Nat}{b:List UInt8}{st:BSt}{H:Aa}{f0 f1 g0 g1 v:Ab}
theorem RBx.lt (h:RBx bx N b0 p b a st f0 f1 g0 g1 v H):p<H.length:=lx_lt h.lx
theorem RBx.move (h:RBx bx N b0 p b a st f0 f1 g0 g1 v H)(a':Nat):RBx bx N b0 p b a' st f0 f1 g0 g1 v (Ct H p b (rdB bx N st f0 f1 g0 g1 v) a'):=⟨h.hb,Gz h.lx,h.row.put h.lx,h.fx,h.gy⟩
theorem RBx.push (h:RBx bx N b0 p b a st f0 f1 g0 g1 v H)(G:Aa):RBx bx N b0 p b a st f0 f1 g0 g1 v (H++G):=⟨h.hb,Lx.push h.lx,h.row.left G,h.fx,h.gy⟩
theorem RBx.ext (h:RBx bx N b0 p b a st f0 f1 g0 g1 v H)(cs:List Ab):Ext b0 p H (H.set p (.cel 0 cs)):=
 ⟨by simp,λi c hi hc=>by rw[UI (Ne.symm hi)];exact hc,λi hi=>by rw[UI (by have:=h.hb;omega)]⟩
theorem RBx.ble (h:RBx bx N b0 p b a st f0 f1 g0 g1 v H):b0<=H.length:=Vf h.hb (X6 h.lt)
theorem RBx.go (h:RBx bx N b0 p b a st f0 f1 g0 g1 v H)(a':Nat)(G:Aa):RBx bx N b0 p b a' st f0 f1 g0 g1 v (Ct H p b (rdB bx N st f0 f1 g0 g1 v) a'++G)/\Ext b0 p H (Ct H p b (rdB bx N st f0 f1 g0 g1 v) a'++G):=
 ⟨(h.move a').push G,(h.ext _).trans (Ext.push b0 p (by show b0<=List.length _;rw[show (H.set p _).length=H.length from by simp];exact h.ble) G)⟩
theorem RBx.go0 (h:RBx bx N b0 p b a st f0 f1 g0 g1 v H)(a':Nat):RBx bx N b0 p b a' st f0 f1 g0 g1 v (Ct H p b (rdB bx N st f0 f1 g0 g1 v) a')/\Ext b0 p H (Ct H p b (rdB bx N st f0 f1 g0 g1 v) a'):=⟨h.move a',h.ext _⟩
theorem RBx.set (h:RBx bx N b0 p b a st f0 f1 g0 g1 v H){a':Nat}{st':BSt}{f0' f1' g0' g1' v':Ab}{cs:List Ab}(hr:RS cCl A8 5 b0 st'.cells v' H)
  (hc:cs=.str b::.i6 (a':Int)::rdB bx N st' f0' f1' g0' g1' v')(hf:st'.block=true->[f0',f1']=A3 st'.x)(hg:st'.block=true->[g0',g1']=A3 st'.y) :
  RBx bx N b0 p b a' st' f0' f1' g0' g1' v' (H.set p (.cel 0 cs))/\Ext b0 p H (H.set p (.cel 0 cs)):=by
 refine⟨⟨h.hb,?_,hr.put h.lx,hf,hg⟩,h.ext _⟩;unfold Lx;rw[UT h.lt,hc]
def IS (bx N:Int)(b0 p:Nat)(b:List UInt8)(H:Aa)(x:Out)(v:Ab)(s:(Er×Nat)×BSt):Prop:=∃H',x=some (resE s.1.1 v,H')/\Ext b0 p H H'/\RB bx N b0 p b s.1.2 s.2 H'
theorem build_plB (x y:Int):Az (some [(.bool false),(.sl [] .ti),(.bool false),(.sl [] .ti),(.int .u8 0)]) [(0,2,big x),(2,2,big y),(4,1,(.int .u8 1))]=some (.agg (cCl ⟨x,y,1⟩)):=rfl
theorem ld_two {cs:List Ab}{o:Nat}(h:H[p]? = some (.cel 0 cs))(ho:o+2<=cs.length):Ad true 2 (.ptr p 0 o) H=some (.agg ((cs.drop o).take 2)):=by
 simp only[Ad,A1 h,zXa,if_true];rw[if_pos ho]
theorem st_two {cs:List Ab}{o:Nat}{z:Int}(h:H[p]? = some (.cel 0 cs))(ho:o+2<=cs.length):Ae 2 (.ptr p 0 o) (big z) H=some (H.set p (.cel 0 (Dc cs o 2 (A3 z)))):=by
 simp only[Ae,A1 h,zXa,SP,B5 h];rw[if_pos ⟨rfl,ho⟩]
theorem agg_two {z:Int}{x y:Ab}(h:[x,y]=A3 z):Ab.agg [x,y]=big z:=by rw[h];rfl
theorem idx_two (k:Nat)(hk:k<2):B8 2 2 (.ptr p 0 6) (.i6 (k:Int))=some (.ptr p 0 (6+k*2)):=idx_arr hk
theorem rb_lawm (h:RBx bx N b0 p b a st f0 f1 g0 g1 v H)(ha:a<=b.length)(hb:b.length<1152921504606846976){k:Ab->Aa->Out}{H0:Aa}
  (hk:∀x K,k x K=rK H0 (.tup []) K) :
  IS bx N b0 p b H (bK H0 (Sh.fd (.ptr p 0 0) (.str [82,32]) (.str [97]) H) λx44 H45=>
 (Aj (.ptr p 0 0)).bind λx46=>
 (Ac 0 x46).bind λx47=>
 bK H0 (Sh.f1q x47 (.str []) H45) λx48 H49=>
 (Aj (.ptr p 0 0)).bind λx50=>
 (Ac 4 x50).bind λx51=>
 bK H0 (Av (Ae 1 x51 x48 H49)) k) (.tup []) (Q0 b a st):=by
 unfold Q0 IS;simp only[GMw,HPw,Nat.reduceAdd,Nat.reduceLT,Og h.lx ha hb [82,32] [97] (by decide) (by decide)];have hM:=EC (s:=[82,32]) (rest:=[97]) ha;generalize B6 b a [82,32] [97]=M at hM;obtain⟨er,c⟩:=M;dsimp only at hM ⊢;obtain⟨h2,e2⟩:=h.go0 c;cases er with
 | some e=>
  simp only[GMw,HPw,Nat.reduceAdd,Nat.reduceLT,D7];exact⟨_,rfl,e2,_,_,_,_,_,h2⟩
 | none=>
  simp only[GMw,HPw,Nat.reduceAdd,Nat.reduceLT,Da,lx_ruleS h2.lx hM hb [] (by decide)];generalize HR b c []=M;obtain⟨er,d⟩:=M;dsimp only;obtain⟨h3,e3⟩:=h2.go0 d;generalize Ct _ p b _ d=H3 at h3 e3;cases er with
  | some e=>
   simp only[GMw,HPw,Nat.reduceAdd,Nat.reduceLT,D7];exact⟨_,rfl,e2.trans e3,_,_,_,_,_,h3⟩
  | none=>
   have hst:=EX (o:=4) (v:=.str ((b.take d).drop c)) h3.lx rfl (by simp[rdB]);simp only[GMw,HPw,Nat.reduceAdd,Nat.reduceLT,Da,hst,hk];obtain⟨s1,s2⟩:=h3.set (a':=d) (st':={ st with law:=(b.take d).drop c }) h3.row rfl h3.fx h3.gy;exact⟨_,rfl,(e2.trans e3).trans s2,_,_,_,_,_,s1⟩
theorem IS.after {H1:Aa}{x:Out}{w:Ab}{s:(Er×Nat)×BSt}(e:Ext b0 p H H1)(h:IS bx N b0 p b H1 x w s):IS bx N b0 p b H x w s:=by
 obtain⟨H2,r1,r2,r3⟩:=h;exact⟨H2,r1,e.trans r2,r3⟩
theorem idx_f0:B8 2 2 (.ptr p 0 6) (.i6 0)=some (.ptr p 0 6):=idx_two 0 (by decide)
theorem idx_f1:B8 2 2 (.ptr p 0 6) (.i6 1)=some (.ptr p 0 8):=idx_two 1 (by decide)
theorem rb_from (h:RBx bx N b0 p b a st f0 f1 g0 g1 v H)(ha:a<=b.length)(hb:b.length<1152921504606846976){k:Ab->Aa->Out}{H0:Aa}
  (hk:∀x K,k x K=rK H0 (.tup []) K) :
  IS bx N b0 p b H (bK H0 (Sh.fd (.ptr p 0 0) (.str [80,32]) (.str [49,32,49]) H) λx60 H61=>
 (Aj (.ptr p 0 0)).bind λx62=>
 (Ac 0 x62).bind λx63=>
 (Aj (.ptr p 0 0)).bind λx64=>
 (Ac 6 x64).bind λx65=>
 bK H0 (Sh.f1b x63 (.bool true) (.str [32,49]) H61) λx66 H67=>
 (B8 2 2 x65 (.i6 0)).bind λx68=>
 bK H0 (Av (Ae 2 x68 x66 H67)) λ_ H70=>
 (Aj (.ptr p 0 0)).bind λx71=>
 (Ac 0 x71).bind λx72=>
 bK H0 (Sh.fd x72 (.str [32]) (.str [49]) H70) λx73 H74=>
 (Aj (.ptr p 0 0)).bind λx75=>
 (Ac 0 x75).bind λx76=>
 (Aj (.ptr p 0 0)).bind λx77=>
 (Ac 6 x77).bind λx78=>
 bK H0 (Sh.f1b x76 (.bool true) (.str []) H74) λx79 H80=>
 (B8 2 2 x78 (.i6 1)).bind λx81=>
 bK H0 (Av (Ae 2 x81 x79 H80)) λ_ H83=>
 (Aj (.ptr p 0 0)).bind λx84=>
 (Ac 5 x84).bind λx85=>
 bK H0 (Av (Ae 1 x85 (.bool true) H83)) λ_ H87=>
 (Aj (.ptr p 0 0)).bind λx88=>
 (Ac 10 x88).bind λx89=>
 bK H0 (Av (Ae 1 x89 (.i6 0) H87)) k) (.tup []) (JK b a st):=by
 unfold JK IS;simp only[GMw,HPw,Nat.reduceAdd,Nat.reduceLT,Og h.lx ha hb [80,32] [49,32,49] (by decide) (by decide)];have hM:=EC (s:=[80,32]) (rest:=[49,32,49]) ha;generalize B6 b a [80,32] [49,32,49]=M at hM;obtain⟨er,c⟩:=M;dsimp only at hM ⊢;obtain⟨h2,e2⟩:=h.go0 c;generalize Ct H p b _ c=H2 at h2 e2;cases er with
 | some e=>
  simp only[GMw,HPw,Nat.reduceAdd,Nat.reduceLT,D7];exact⟨_,rfl,e2,_,_,_,_,_,h2⟩
 | none=>
  obtain⟨G1,iN⟩:=Ub h2.lx hM hb true [32,49] (by decide);have pH:=On hM true [32,49];simp only[GMw,HPw,Nat.reduceAdd,Nat.reduceLT,Da,iN];generalize CO b c true [32,49]=M at pH;obtain⟨er,d⟩:=M;dsimp only at pH ⊢;obtain⟨h3,e3⟩:=h2.go d G1;generalize Ct H2 p b _ d++G1=H3 at h3 e3;cases er with
  | some e=>
   simp only[GMw,HPw,Nat.reduceAdd,Nat.reduceLT,D7];exact⟨_,rfl,e2.trans e3,_,_,_,_,_,h3⟩
  | none=>
   have hst:=st_two (o:=6) (z:=BR ((b.take d).drop c)) h3.lx (by simp[rdB]);simp only[GMw,HPw,Nat.reduceAdd,Nat.reduceLT,Da,idx_f0,hst,AC];generalize hz:BR ((b.take d).drop c)=z1;obtain⟨h4,e4⟩:=h3.set (a':=d) (st':={ st with x:=z1 }) (f0':=.bool (decide (z1<0))) (f1':=.sl (enL cU (A6 z1.natAbs)) .no) (cs:=Dc (.str b::.i6 (d:Int)::rdB bx N st f0 f1 g0 g1 v) 6 2 (A3 z1)) h3.row rfl (λ_=>rfl) h3.gy;generalize H3.set p _=H4 at h4 e4;simp only[GMw,HPw,Nat.reduceAdd,Nat.reduceLT,Og h4.lx pH.2 hb [32] [49] (by decide) (by decide)];have hM2:=EC (s:=[32]) (rest:=[49]) pH.2;generalize B6 b d [32] [49]=M at hM2;obtain⟨er,f⟩:=M;dsimp only at hM2 ⊢;obtain⟨h5,e5⟩:=h4.go0 f;generalize Ct H4 p b _ f=H5 at h5 e5;cases er with
   | some e=>
    simp only[GMw,HPw,Nat.reduceAdd,Nat.reduceLT,D7];exact⟨_,rfl,((e2.trans e3).trans e4).trans e5,_,_,_,_,_,h5⟩
   | none=>
    obtain⟨G2,hn2⟩:=Ub h5.lx hM2 hb true [] (by decide);have hi2:=On hM2 true [];simp only[GMw,HPw,Nat.reduceAdd,Nat.reduceLT,Da,hn2];generalize CO b f true []=M at hi2;obtain⟨er,g⟩:=M;dsimp only at hi2 ⊢;obtain⟨h6,e6⟩:=h5.go g G2;generalize Ct H5 p b _ g++G2=H6 at h6 e6;cases er with
    | some e=>
     simp only[GMw,HPw,Nat.reduceAdd,Nat.reduceLT,D7];exact⟨_,rfl,(((e2.trans e3).trans e4).trans e5).trans e6,_,_,_,_,_,h6⟩
    | none=>
     have hst:=st_two (o:=8) (z:=BR ((b.take g).drop f)) h6.lx (by simp[rdB]);simp only[GMw,HPw,Nat.reduceAdd,Nat.reduceLT,Da,idx_f1,hst,AC];generalize mF:BR ((b.take g).drop f)=z2;have tH:=lx_lt h6.lx;have dD:=EX (H:=H6.set p (.cel 0 (Dc (.str b::.i6 (g:Int)::rdB bx N { st with x:=z1 } (.bool (decide (z1<0))) (.sl (enL cU (A6 z1.natAbs)) .no) g0 g1 v) 8 2 (A3 z2)))) (o:=5) (v:=.bool true) (UT tH) rfl (by simp[rdB,Dc]);simp only[GMw,HPw,Nat.reduceAdd,Nat.reduceLT,dD,AC,Xq];have uF:=EX (H:=H6.set p (.cel 0 ((Dc (.str b::.i6 (g:Int)::rdB bx N { st with x:=z1 } (.bool (decide (z1<0))) (.sl (enL cU (A6 z1.natAbs)) .no) g0 g1 v) 8 2 (A3 z2)).set 5 (.bool true)))) (o:=10) (v:=.i6 0) (UT tH) rfl (by simp[rdB,Dc]);simp only[GMw,HPw,Nat.reduceAdd,Nat.reduceLT,uF,AC,Xq,hk];obtain⟨h7,e7⟩:=h6.set (a':=g) (st':={ st with x:=z1,y:=z2,block:=true,rows:=0 }) (f0':=.bool (decide (z1<0))) (f1':=.sl (enL cU (A6 z1.natAbs)) .no) (g0':=.bool (decide (z2<0))) (g1':=.sl (enL cU (A6 z2.natAbs)) .no) (cs:=((Dc (.str b::.i6 (g:Int)::rdB bx N { st with x:=z1 } (.bool (decide (z1<0))) (.sl (enL cU (A6 z1.natAbs)) .no) g0 g1 v) 8 2 (A3 z2)).set 5 (.bool true)).set 10 (.i6 0)) h6.row rfl (λ_=>rfl) (λ_=>rfl);exact⟨_,rfl,((((e2.trans e3).trans e4).trans e5).trans e6).trans e7,_,_,_,_,_,h7⟩
theorem rb_mark (h:RBx bx N b0 p b a st f0 f1 g0 g1 v H)(ha:a<b.length)(hb:b.length<1152921504606846976) :
  IS bx N b0 p b H (Sh.f47 (.ptr p 0 0) H) (.tup []) (G4 b a st):=by
 have aU:Ae 1 (.ptr p 0 1) (.i6 ((a+1:Nat):Int)) H=some (Ct H p b (rdB bx N st f0 f1 g0 g1 v) (a+1)):=QM h.lx _;obtain⟨h1,e1⟩:=h.go0 (a+1);have hle:a+1<=b.length:=ha;unfold Sh.f47 G4;simp only[GMw,HPw,Nat.reduceAdd,Nat.reduceLT,Aj,Ah,HF h.lx,As (show a<9223372036854775807 by omega),aU,AC];generalize Ct H p b _ (a+1)=H1 at h1 e1;refine IS.after e1 ?_;simp only[GMw,HPw,Nat.reduceAdd,Nat.reduceLT,Fy h1.lx hle];cases hD:Be b (a+1) [68]with
 | true=>
  simp only[GMw,HPw,Nat.reduceAdd,Nat.reduceLT,if_true,lx_any h1.lx hle hb];obtain⟨h2,e2⟩:=h1.go0 (M7 b (a+1));exact⟨_,rfl,e2,_,_,_,_,_,h2⟩
 | false=>
  simp only[GMw,HPw,Nat.reduceAdd,Nat.reduceLT,UM,if_false,Fy h1.lx hle];cases hN:Be b (a+1) [78]with
  | true=>
   have hlt:=CF hN;have uA:Ae 1 (.ptr p 0 1) (.i6 ((a+1+1:Nat):Int)) H1=some (Ct H1 p b (rdB bx N st f0 f1 g0 g1 v) (a+1+1)):=QM h1.lx _;obtain⟨h2,e2⟩:=h1.go0 (a+1+1);simp only[GMw,HPw,Nat.reduceAdd,Nat.reduceLT,if_true,Aj,Ah,HF h1.lx,As (show a+1<9223372036854775807 by omega),uA,AC];generalize Ct H1 p b _ (a+1+1)=H2 at h2 e2;have hst:=EX (o:=4) (v:=.str [66,51,47,83,50,51]) h2.lx rfl (by simp[rdB]);simp only[GMw,HPw,Nat.reduceAdd,Nat.reduceLT,hst,AC];obtain⟨s1,s2⟩:=h2.set (a':=a+1+1) (st':={ st with law:=Nw }) h2.row rfl h2.fx h2.gy;exact⟨_,rfl,e2.trans s2,_,_,_,_,_,s1⟩
  | false=>
   simp only[GMw,HPw,Nat.reduceAdd,Nat.reduceLT,UM,if_false,Fy h1.lx hle];cases hR:Be b (a+1) [82]with
   | true=>
    simp only[GMw,HPw,Nat.reduceAdd,Nat.reduceLT,if_true];have hx:=rb_lawm (H0:=H) (k:=λ_ K=>rK H (.tup []) K) h1 hle hb (λ_ _=>rfl);simp only[GMw,HPw,Nat.reduceAdd,Nat.reduceLT,Aj,Ah]at hx;exact hx
   | false=>
    simp only[GMw,HPw,Nat.reduceAdd,Nat.reduceLT,UM,if_false,Fy h1.lx hle];cases hP:Be b (a+1) [80]with
    | true=>
     simp only[GMw,HPw,Nat.reduceAdd,Nat.reduceLT,if_true];have hx:=rb_from (H0:=H) (k:=λ_ K=>rK H (.tup []) K) h1 hle hb (λ_ _=>rfl);simp only[GMw,HPw,Nat.reduceAdd,Nat.reduceLT,Aj,Ah]at hx;exact hx
    | false=>
     simp only[GMw,HPw,Nat.reduceAdd,Nat.reduceLT,UM,if_false,RW h1.lx];exact⟨_,rfl,Ext.refl _ _ _,_,_,_,_,_,h1⟩

end
section
variable {bx N:Int}{b0 p a:Nat}{b:List UInt8}{st:BSt}{H:Aa}{f0 f1 g0 g1 v:Ab}
theorem sb_small {z:Int}(h:z.natAbs<10^400):SB 100 z:=by
 have h2:(10:Nat)^400<4294967296^100:=by decide +kernel
 unfold SB;omega
theorem Sf {z:Int}(h:z.natAbs<10^400):LB z:=(sb_small h).lb (by decide)
theorem lb_nat {n:Nat}(h:n<=1152921504606846976):LB (n:Int):=by
 have h2:1152921504606846976<(10:Nat)^400:=by decide +kernel
 exact Sf (by omega)
theorem row_j3 (h:RBx bx N b0 p b a st f0 f1 g0 g1 v H)(cL:st.block=true)(hX:st.x.natAbs<10^400)(hY:st.y.natAbs<10^400)(hr:st.rows<=1000000000000)(hc:st.cells.length<=1000000000000){x:Nat}(hx:x<=1000000000000){j2:LK}{H0:Aa} :
  ∃w H6,Sh.f7g H0 j2 (.ptr p 0 0) (.i6 (x:Int)) H=j2 [.ptr p 0 0,.i6 (x:Int)] H6/\RBx bx N b0 p b a { st with cells:=st.cells++[⟨st.x+x,st.y+st.rows,1⟩] } f0 f1 g0 g1 w H6/\Ext b0 p H H6:=by
 have hf:Ad true 2 (.ptr p 0 6) H=some (big st.x):=by
  rw[ld_two h.lx (by simp[rdB])];exact congrArg some (agg_two (h.fx cL))
 have hg:Ad true 2 (.ptr p 0 8) H=some (big st.y):=by
  rw[ld_two h.lx (by simp[rdB])];exact congrArg some (agg_two (h.gy cL))
 have hrw:Ad false 1 (.ptr p 0 10) H=some (.i6 (st.rows:Int)):=by rw[BH h.lx];rfl
 have hv:Ad false 1 (.ptr p 0 11) H=some v:=by rw[BH h.lx];rfl
 obtain⟨w,H6,r1,r2,r3⟩:=h.row.snoc (bytes:=72) h.ble ⟨st.x+x,st.y+st.rows,1⟩ .ti (by omega) (by omega);have nZ:Lx H6 p b a (rdB bx N st f0 f1 g0 g1 v):=r3.cel _ _ h.lx;have pW:w.isScal=true:=by obtain⟨tk,rfl⟩:=r2.sl;rfl
 have hst:=EX (o:=11) (v:=w) nZ pW (by simp[rdB]);unfold Sh.f7g;simp only[GMw,HPw,Nat.reduceAdd,Nat.reduceLT,Aj,Ah,idx_f0,idx_f1,p_of (x:Int) _ (by omega) (by omega),p_of (st.rows:Int) _ (by omega) (by omega),hf,hg,hrw,hv,BQ,RK _ (Sf hX) (lb_nat (show x<=1152921504606846976 by omega)),RK _ (Sf hY) (lb_nat (show st.rows<=1152921504606846976 by omega)),build_plB,My,r1,hst,AC,BV];have tH:=lx_lt nZ;refine⟨w,_,rfl,⟨h.hb,?_,r2.put nZ,h.fx,h.gy⟩,Ext.trans ⟨r3.len,λi cs hi hc=>r3.cel i cs hc,r3.old⟩ ⟨by simp,λi c hi hc=>by rw[UI (Ne.symm hi)];exact hc,λi hi=>by rw[UI (by have:=h.hb;omega)]⟩⟩;unfold Lx;rw[UT tH];rfl
theorem row_j2 (h:RBx bx N b0 p b a st f0 f1 g0 g1 v H)(ha:a<b.length)(hb:b.length<1000000000000){x:Nat}(hx:x<=1000000000000){rec:LK}{H0:Aa} :
  ∃H6,Sh.f4d H0 rec (.ptr p 0 0) (.i6 (x:Int)) H=rec [.ptr p 0 0,.i6 ((x+1:Nat):Int)] H6/\RBx bx N b0 p b (a+1) st f0 f1 g0 g1 v H6/\Ext b0 p H H6:=by
 have aU:Ae 1 (.ptr p 0 1) (.i6 ((a+1:Nat):Int)) H=some (Ct H p b (rdB bx N st f0 f1 g0 g1 v) (a+1)):=QM h.lx _;obtain⟨h1,e1⟩:=h.go0 (a+1);unfold Sh.f4d;simp only[GMw,HPw,Nat.reduceAdd,Nat.reduceLT,Aj,Ah,HF h.lx,As (show a<9223372036854775807 by omega),As (show x<9223372036854775807 by omega),aU,AC];exact⟨_,rfl,h1,e1⟩
theorem rb_row (hb:b.length<900000000)(H0:Aa):∀(m a x:Nat) (st:BSt) (H:Aa),a<=b.length->b.length-a<m->x<=a->∀n,m<=n->st.block=true->st.x.natAbs<10^400->st.y.natAbs<10^400->st.rows<=1000000000->st.cells.length+(b.length-a)<=1000000000000 ->
  ∀ {f0 f1 g0 g1 v:Ab},RBx bx N b0 p b a st f0 f1 g0 g1 v H->IS bx N b0 p b H (Am (λrec1 vs H=>Sh.f4e H0 rec1 (ag vs 0) (ag vs 1) H) n [.ptr p 0 0,.i6 (x:Int)] H) (.tup []) (NQ b bx m a x st):=by
 intro m
 induction m with
 | zero=>intro a x st H _ h;omega
 | succ m ih=>
  intro a x st H ha hm tW n hn cL hX hY hr hc f0 f1 g0 g1 v h;obtain⟨n,rfl⟩:∃k,n=k+1:=⟨n-1,by omega⟩;rw[Ca];generalize hg:Am (λrec1 vs H=>Sh.f4e H0 rec1 (ag vs 0) (ag vs 1) H) n=rec;have hrw:Ad false 1 (.ptr p 0 10) H=some (.i6 (st.rows:Int)):=by rw[BH h.lx];rfl
  have hbx:Ad false 1 (.ptr p 0 2) H=some (.i6 bx):=by rw[BH h.lx];rfl
  unfold Sh.f4e NQ;simp only[GMw,HPw,Nat.reduceAdd,Nat.reduceLT,Fy h.lx ha];cases h1:Be b a [46,42]with
  | true=>
   have hlt:=CF h1;simp only[GMw,HPw,Nat.reduceAdd,Nat.reduceLT,if_true,Fy h.lx ha];cases h2:Be b a [42]with
   | true=>
    simp only[GMw,HPw,Nat.reduceAdd,Nat.reduceLT,if_true,Aj,Ah,hbx,hrw,BQ];cases h3:decide ((x:Int)>=bx)with
    | true=>
     simp only[GMw,HPw,Nat.reduceAdd,Nat.reduceLT,RX,Wi,if_true];exact⟨_,rfl,Ext.refl _ _ _,_,_,_,_,_,h⟩
    | false=>
     cases h4:decide ((st.rows:Int)>=bx)with
     | true=>
      simp only[GMw,HPw,Nat.reduceAdd,Nat.reduceLT,RX,W8,if_true,h4,hbx,hrw];exact⟨_,rfl,Ext.refl _ _ _,_,_,_,_,_,h⟩
     | false=>
      simp only[GMw,HPw,Nat.reduceAdd,Nat.reduceLT,zXp,if_false,UM,h4,hbx,hrw];obtain⟨w,H6,q1,q2,q3⟩:=row_j3 h cL hX hY (by omega) (by omega) (x:=x) (by omega) (j2:=λvs H=>Sh.f4d H0 rec (ag vs 0) (ag vs 1) H) (H0:=H0);obtain⟨H7,s1,s2,s3⟩:=row_j2 q2 hlt (by omega) (x:=x) (by omega) (rec:=rec) (H0:=H0);obtain⟨H8,t1,t2,t3⟩:=ih (a+1) (x+1) { st with cells:=st.cells++[⟨st.x+x,st.y+st.rows,1⟩] } H7 (by omega) (by omega) (by omega) n (by omega) cL hX hY hr (by simp only[UO,zXj,zXk];omega) s2;rw[hg]at t1;exact⟨H8,q1.trans (s1.trans t1),(q3.trans s3).trans t2,t3⟩
   | false=>
    simp only[GMw,HPw,Nat.reduceAdd,Nat.reduceLT,if_false,UM];obtain⟨H7,s1,s2,s3⟩:=row_j2 h hlt (by omega) (x:=x) (by omega) (rec:=rec) (H0:=H0);rw[s1];obtain⟨H8,t1,t2,t3⟩:=ih (a+1) (x+1) st H7 (by omega) (by omega) (by omega) n (by omega) cL hX hY hr (by omega) s2;rw[hg]at t1;exact⟨H8,t1,s3.trans t2,t3⟩
  | false=>
   have hst:=EX (o:=10) (v:=.i6 ((st.rows+1:Nat):Int)) h.lx rfl (by simp[rdB]);simp only[GMw,HPw,Nat.reduceAdd,Nat.reduceLT,if_false,UM,Aj,Ah,hrw,As (show st.rows<9223372036854775807 by omega),hst,AC];obtain⟨s1,s2⟩:=h.set (a':=a) (st':={ st with rows:=st.rows+1 }) h.row rfl h.fx h.gy;exact⟨_,rfl,s2,_,_,_,_,_,s1⟩

end
section
variable {bx N:Int}{b0 p a:Nat}{b:List UInt8}{st:BSt}{H:Aa}{f0 f1 g0 g1 v:Ab}
theorem one_endB (hb:b.length<1152921504606846976){rec:LK}{H0:Aa}{x:Out}{s:(Er×Nat)×BSt}(he:IS bx N b0 p b H x (.tup []) s)(hs:s.1.2<=b.length) :
  (∃H' e c st',Tl b s=((some e,c),st')/\(bK H0 x λ_ H28=>Sh.f2h H0 rec (.ptr p 0 0) H28)=some (.pan (hv e),H')/\Ext b0 p H H'/\RB bx N b0 p b c st' H') \/
  (∃H' c st',Tl b s=((none,c),st')/\(bK H0 x λ_ H28=>Sh.f2h H0 rec (.ptr p 0 0) H28)=rec [.ptr p 0 0] H'/\Ext b0 p H H'/\RB bx N b0 p b c st' H'):=by
 obtain⟨⟨er,c⟩,st'⟩:=s;obtain⟨H1,rfl,e1,h1⟩:=he;dsimp only at hs e1 h1 ⊢;cases er with
 | some e=>exact .inl ⟨H1,e,c,st',rfl,rfl,e1,h1⟩
 | none=>
  obtain⟨f0,f1,g0,g1,v,h1⟩:=h1;obtain⟨h2,e2⟩:=h1.go0 (DM b c []).2;have hx:=lx_endS h1.lx hs hb [] (by decide);unfold Tl Sh.f2h;simp only[Da,GMw,HPw,Nat.reduceAdd,Nat.reduceLT,hx];cases hE:(DM b c []).1 with
  | some e=>
   refine .inl ⟨_,e,(DM b c []).2,st',by rw[<-hE],?_,e1.trans e2,_,_,_,_,_,h2⟩;simp only[D7,GMw,HPw,Nat.reduceAdd,Nat.reduceLT]
  | none=>
   refine .inr ⟨_,(DM b c []).2,st',by rw[<-hE],?_,e1.trans e2,_,_,_,_,_,h2⟩;simp only[Da,GMw,HPw,Nat.reduceAdd,Nat.reduceLT]
theorem rb_loop (hb:b.length<250000000)(H0:Aa):∀(m a:Nat) (st:BSt) (H:Aa),a<=b.length->b.length-a<m->∀n,m<=n->∀q,q+2*(b.length-a)+1+b.length<=900000000->BOk q st->RB bx N b0 p b a st H ->
  IS bx N b0 p b H (Am (λrec1 vs H=>Sh.f4f H0 rec1 (ag vs 0) H) n [.ptr p 0 0] H) (.tup []) (HU b bx m a st):=by
 intro m
 induction m with
 | zero=>intro a st H _ h;omega
 | succ m ih=>
  intro a st H ha hm n hn q hq hok h;obtain⟨n,rfl⟩:∃k,n=k+1:=⟨n-1,by omega⟩;rw[Ca];generalize hg:Am (λrec1 vs H=>Sh.f4f H0 rec1 (ag vs 0) H) n=rec;have hh:=h;obtain⟨f0,f1,g0,g1,v,h⟩:=h;have cL:Ad false 1 (.ptr p 0 5) H=some (.bool st.block):=by rw[BH h.lx];rfl
  unfold Sh.f4f HU;simp only[GMw,HPw,Nat.reduceAdd,Nat.reduceLT,JD h.lx];by_cases he:a=b.length
  ·simp only[he,GMw,HPw,Nat.reduceAdd,Nat.reduceLT,if_true];rw[he]at hh;exact⟨H,rfl,Ext.refl _ _ _,hh⟩
  ·have hlt:a<b.length:=by omega
   have key:∀ {x:Out},IS bx N b0 p b H x (.tup []) (G7 b bx a st)->IS bx N b0 p b H (bK H0 x λ_ H28=>Sh.f2h H0 rec (.ptr p 0 0) H28) (.tup []) (match Lp b bx a st with
     | ((some e,c),st')=>((some e,c),st')
     | ((none,c),st')=>HU b bx m c st'):=by
    intro x hl;have cE:=one_endB (rec:=rec) (H0:=H0) (by omega) hl (Oi hlt st).le;have h1:=oneB_ok (bx:=bx) hlt st;have h2:=Pg (bx:=bx) hlt st;unfold Lp at h1 h2 ⊢;rcases cE with ⟨H1,e,c,st',q1,q2,q3,q4⟩ | ⟨H1,c,st',q1,q2,q3,q4⟩
    ·rw[q1];exact⟨H1,q2,q3,q4⟩
    ·rw[q1]at h1 h2 ⊢;obtain⟨k1,k2,k3⟩:=h1;dsimp only at k1 k2 k3 h2 ⊢;have:=h2 rfl;obtain⟨H2,s1,s2,s3⟩:=ih c st' H1 k1 (by omega) n (by omega) _ (by omega) (k3 q (by omega) hok) q4;rw[hg]at s1;exact⟨H2,q2.trans s1,q3.trans s2,s3⟩
   simp only[he,GMw,HPw,Nat.reduceAdd,Nat.reduceLT,if_false,Aj,Ah,Fy h.lx ha];cases hC:Be b a [35]with
   | true=>
    simp only[GMw,HPw,Nat.reduceAdd,Nat.reduceLT];refine key ?_;unfold G7;rw[if_pos hC];exact rb_mark h hlt (by omega)
   | false=>
    simp only[GMw,HPw,Nat.reduceAdd,Nat.reduceLT,cL];cases hB:st.block with
    | true=>
     simp only[GMw,HPw,Nat.reduceAdd,Nat.reduceLT];refine key ?_;unfold G7;rw[hC,hB];simp only[UM,if_false,if_true];exact rb_row (by omega) H (b.length+1-a) a 0 st H ha (by omega) (Ve _) AM (by rw[CQ];omega) hB hok.x hok.y (by have:=hok.r;omega) (by have:=hok.c;omega) h
    | false=>
     simp only[GMw,HPw,Nat.reduceAdd,Nat.reduceLT];refine key ?_;unfold G7;rw[hC,hB];simp only[UM,if_false];exact⟨_,RW h.lx _,Ext.refl _ _ _,hh⟩
theorem rb_all (h:RB bx N b0 p b 0 st H)(hb:b.length<250000000)(hn:BOk 0 st):IS bx N b0 p b H (Sh.f1r (.ptr p 0 0) H) (.tup []) (M9 b bx st):=by
 have hb':b.length<1152921504606846976:=by omega
 obtain⟨f0,f1,g0,g1,v,h⟩:=h;have hM:=EC (s:=Fg) (rest:=[]) (Ve b.length);have hx:=Og h.lx (Ve _) hb' Fg [] (by decide) (by decide);unfold Sh.f1r M9;rw[show Ab.str [35,76,105,102,101,32,49,46,48,53]=.str Fg from rfl];simp only[GMw,HPw,Nat.reduceAdd,Nat.reduceLT,hx];generalize B6 b 0 Fg []=M at hM;obtain⟨er,c⟩:=M;dsimp only at hM ⊢;obtain⟨h1,e1⟩:=h.go0 c;cases er with
 | some e=>
  simp only[D7,GMw,HPw,Nat.reduceAdd,Nat.reduceLT];exact⟨_,rfl,e1,_,_,_,_,_,h1⟩
 | none=>
  have hx2:=lx_endS h1.lx hM hb' [] (by decide);simp only[Da,GMw,HPw,Nat.reduceAdd,Nat.reduceLT,hx2];have hle:=O4 hM [];generalize DM b c []=M at hle;obtain⟨er,d⟩:=M;dsimp only at hle ⊢;obtain⟨h3,e3⟩:=h1.go0 d;cases er with
  | some e=>
   simp only[D7,GMw,HPw,Nat.reduceAdd,Nat.reduceLT];exact⟨_,rfl,e1.trans e3,_,_,_,_,_,h3⟩
  | none=>
   simp only[Da,GMw,HPw,Nat.reduceAdd,Nat.reduceLT];obtain⟨H4,r1,r2,r3⟩:=rb_loop (bx:=bx) (N:=N) (b0:=b0) (p:=p) hb H (b.length+1) d st _ hle.2 (by omega) AM (by rw[CQ];omega) 0 (by omega) hn ⟨_,_,_,_,_,h3⟩;rw[r1];exact⟨H4,rfl,(e1.trans e3).trans r2,r3⟩
def Pm (er:Er):Ab:=match er with
 | none=>.agg [.i6 0,.str []]
 | some e=>.agg [.i6 e.1,.str e.2]
theorem TR (h:RB bx N b0 p b 0 st H)(hb:b.length<250000000)(hn:BOk 0 st):∃H',Sh.f2i (.bfn 59 [.ptr p 0 0]) H=some (.ret (Pm (M9 b bx st).1.1),H')/\Ext b0 p H H'/\RB bx N b0 p b (M9 b bx st).1.2 (M9 b bx st).2 H':=by
 obtain⟨H1,r1,r2,r3⟩:=rb_all h hb hn;refine⟨H1,?_,r2,r3⟩;have ho:ent 59 (ap1 Sh.f1r) noO 59 [.ptr p 0 0] H=Sh.f1r (.ptr p 0 0) H:=by
  unfold ent;rw[if_pos rfl];rfl
 unfold Sh.f2i OD;simp only[ho,r1,GMw];cases (M9 b bx st).1.1 with
 | none=>rfl
 | some e=>rfl

end
def rcC (c:Cl):RC:=⟨decide (c.x<0),A6 c.x.natAbs,decide (c.y<0),A6 c.y.natAbs,c.s⟩
theorem SQ (z:Int):Hs (decide (z<0)) (A6 z.natAbs)=true:=by
 unfold Hs;rw[Rx,zXn];by_cases h:z<0
 ·have:A6 z.natAbs≠[]:=Oj (by omega);rw[zXc h];cases hl:A6 z.natAbs with
  | nil=>exact absurd hl this
  | cons _ _=>rfl
 ·rw[zXd h];rfl
theorem rcC_right (c:Cl):(rcC c).right=true:=by
 unfold RC.right rcC;rw[SQ,SQ];rfl
theorem rcC_cl (c:Cl):(rcC c).cl=c:=by
 unfold RC.cl rcC;rw[KZ,KZ]
theorem rcC_fits {c:Cl}(h:c.ok):(rcC c).fits:=⟨Br _,Br _,h.1.lb (by decide),h.2.lb (by decide)⟩
theorem enL_rcC (L:List Cl):enL cRC (L.map rcC)=enL cCl L:=by
 unfold enL;rw[List.map_map]
 rfl
theorem map_rcC (L:List Cl):(L.map rcC).map RC.cl=L:=by
 rw[List.map_map]
 conv=>rhs;rw[<-List.map_id L]
 exact X0 λc _=>rcC_cl c
theorem all_rcC (L:List Cl):(L.map rcC).all RC.right=true:=by
 rw[Vb];intro r hr;obtain⟨c,_,rfl⟩:=Wh.1 hr;exact rcC_right c
theorem p_cellsC (L:List Cl)(tk:Tok)(H:Aa)(hl:L.length<700000000)(hok:∀c∈L,c.ok):Sh.f31 (.sl (enL cCl L) tk) H=some (.ret (.tup [Ef (Ie L).1,.i6 (Ie L).2]),H):=by
 have h:=p_cellsOf (L.map rcC) tk H (by rw[VJ];exact hl) (λr hr=>by obtain⟨c,hc,rfl⟩:=Wh.1 hr;exact rcC_fits (hok c hc)) (λr hr _=>by obtain⟨c,hc,rfl⟩:=Wh.1 hr;rw[rcC_cl];exact hok c hc);rw[all_rcC,enL_rcC,map_rcC,if_pos rfl]at h;exact h
def F7 (r:(List UInt8×List Nd)×Int×Int):Ab:=.tup [pat r.1.1 r.1.2,.i6 r.2.1,.i6 r.2.2]
theorem Hw (rule:List UInt8)(L:List Nd):pat rule L=.agg [.str rule,.sl (enL cNd L) .no]:=rfl
theorem R3 (L:List Nd):Ef L=.agg [.sl (enL cNd L) .no]:=rfl
theorem p_fine6 (bx N:Int)(H:Aa):Sh.f3u (.agg [.i6 bx,.i6 N]) H=some (.ret (.bool (JL bx N)),H):=by
 unfold Sh.f3u Sh.f3t JL;by_cases h1:bx>=0
 ·by_cases h2:bx<=1000
  ·by_cases h3:N>=0
   ·simp only[GMw,HPw,Nat.reduceAdd,Nat.reduceLT,h1,h2,h3]
   ·simp only[GMw,HPw,Nat.reduceAdd,Nat.reduceLT,h1,h2,h3]
  ·simp only[GMw,HPw,Nat.reduceAdd,Nat.reduceLT,h1,h2]
 ·simp only[GMw,HPw,Nat.reduceAdd,Nat.reduceLT,h1]
theorem bst0_ok:BOk 0 L8:=⟨by decide +kernel,by decide +kernel,UK _,UK _,λc hc=>by cases hc⟩
theorem bst1_ok:BOk 0 ⟨[],false,0,0,0,[]⟩:=⟨by decide +kernel,by decide +kernel,UK _,UK _,λc hc=>by cases hc⟩
theorem G3 (b:List UInt8)(bx N:Int)(H:Aa)(hb:b.length<250000000):Sh.fz (.str b) (.agg [.i6 bx,.i6 N]) H=some (.ret (F7 (IZ b bx N)),H):=by
 have b1:Az (some [(.str []),(.sl [] .ti)]) []=some (.agg [.str [],.sl [] .ti]):=rfl;have b2:∀s,Az (some [(.str []),(.i6 0)]) [(0,1,.str s)]=some (.agg [.str s,.i6 0]):=λ_=>rfl;have b3:∀s,Az (some [(.str []),(.i6 0),(.i6 0),(.i6 0),(.str []),(.bool false),(.bool false),(.sl [] .ti),(.bool false),(.sl [] .ti),(.i6 0),(.sl [] .ti)]) [(0,2,.agg [.str s,.i6 0]),(2,2,.agg [.i6 bx,.i6 N]),(4,1,(.str [66,51,47,83,50,51]))]=some (.agg [.str s,.i6 0,.i6 bx,.i6 N,.str Nw,.bool false,.bool false,.sl [] .ti,.bool false,.sl [] .ti,.i6 0,.sl [] .ti]):=λ_=>rfl;unfold Sh.fz IZ;simp only[GMw,HPw,Nat.reduceAdd,Nat.reduceLT,p_fine6];cases hf:JL bx N with
 | false=>
  simp only[GMw,HPw,Nat.reduceAdd,Nat.reduceLT,b1,UM,if_false,F7,Hw]
  rfl
 | true=>
  simp only[GMw,HPw,Nat.reduceAdd,Nat.reduceLT,b2,b3,if_true];obtain⟨F,hF⟩:∃F:Aa,F=H++[.cel 0 [.i6 bx,.i6 N],.cel 0 [.str [],.sl [] .ti],.cel 0 [.str b,.i6 0,.i6 bx,.i6 N,.str Nw,.bool false,.bool false,.sl [] .ti,.bool false,.sl [] .ti,.i6 0,.sl [] .ti]]:=⟨_,rfl⟩;have hR:RB bx N H.length (H.length+2) b 0 L8 F:=⟨.bool false,.sl [] .ti,.bool false,.sl [] .ti,.sl [] .ti,by omega,by unfold Lx;rw[hF];simp[rdB,L8],.inl ⟨rfl,rfl⟩,(λh=>by cases h),(λh=>by cases h)⟩;obtain⟨H1,c1,c2,c3⟩:=TR hR (by omega) bst0_ok;rw[hF]at c1;have hlim:H1[H.length]? = some (.cel 0 [.i6 bx,.i6 N]):=c2.cel _ _ (by omega) (by rw[hF];simp);have hres:H1[H.length+1]? = some (.cel 0 [.str [],.sl [] .ti]):=c2.cel _ _ (by omega) (by rw[hF];simp);have hold:∀i,i<H.length->H1[i]? = H[i]? := λi hi=>by rw[c2.old i hi,hF,UL hi]
  simp only[c1,GMw];have hpos:=allB_er b bx L8;have cX:=allB_ok b bx L8 (by omega) bst0_ok;generalize M9 b bx L8=A at c3 hpos cX;obtain⟨⟨er,c⟩,st⟩:=A;dsimp only at c3 ⊢;obtain⟨f0,f1,g0,g1,v,c3⟩:=c3;have cT:=(UH.1 hres).1;cases er with
  | some e=>
   have xH:=hpos e rfl;have jP:=A0 (G:=[Blk.cel 0 [.i6 e.1,.str e.2]]) hres;have hst:=Gc (sz:=2) (ws:=[.str [],.sl [] .ti]) jP rfl rfl rfl;have aH:(H1++[Blk.cel 0 [.i6 e.1,.str e.2]]).set (H.length+1) (.cel 0 [.str [],.sl [] .ti])=H1++[Blk.cel 0 [.i6 e.1,.str e.2]]:=by
    apply VW;intro i;by_cases hi:H.length+1=i
    ·subst hi;rw[UT (by simp;omega),jP]
    ·rw[UI hi]
   rw[aH]at hst;have hld:=Et (sz:=2) jP rfl;have nE:=BH (o:=1) (sz:=1) (A0 (G:=[Blk.cel 0 [.i6 e.1,.str e.2]]) c3.lx);have htk:(H1++[Blk.cel 0 [.i6 e.1,.str e.2]]).take H.length=H:=Cm λi hi=>by rw[UL (by omega)];exact hold i hi
   by_cases he:e.1=0
   ·exact absurd he (by omega)
   ·have hne:(!decide (e.1=0))=true:=by simp[he]
    simp only[Pm,GMw,HPw,Nat.reduceAdd,Nat.reduceLT,hne,b1,hst,nE,F1,JJ,hld,Fa htk,F7,Hw]
    rfl
  | none=>
   have oR:st.cells.length<=2*b.length+1:=cX.c;have kX:∀c∈st.cells,c.ok:=cX.ok;obtain⟨tk,hv⟩:=c3.row.sl;have lL:=λK=>p_cellsC st.cells tk K (by omega) kX;have rH:=BH (o:=11) (sz:=1) (A0 (G:=[Blk.cel 0 [.i6 0,.str []]]) c3.lx);have dS:=λG=>BH (o:=4) (sz:=1) (A0 (G:=G) (A0 (G:=[Blk.cel 0 [.i6 0,.str []]]) c3.lx));obtain⟨K,hK⟩:∃K,K=H1++[Blk.cel 0 [.i6 0,.str []]]:=⟨_,rfl⟩;have hKr:K[H.length+1]? = some (.cel 0 [.str [],.sl [] .ti]):=by rw[hK];exact A0 hres
   have hKm:K[H.length]? = some (.cel 0 [.i6 bx,.i6 N]):=by rw[hK];exact A0 hlim
   have hKo:∀i,i<H.length->K[i]? = H[i]? := λi hi=>by rw[hK,UL (by omega)];exact hold i hi
   have hKl:H.length+1<K.length:=(UH.1 hKr).1;rw[<-hK]at rH dS;have bad:∀L:List Nd,((Az (some [(.str []),(.sl [] .ti)]) []).bind λx57=>
 (BM (.str b)).bind λx58=>
 bP H (Av (Ae 2 (.ptr (H.length+1) 0 0) x57 (K++[.cel 0 [.sl (enL cNd L) .no]]))) λ_ H60=>
 (Cv [Ad true 2 (.ptr (H.length+1) 0 0) H60,some x58,some (.i6 4)]).bind λx61=>rPN H x61 H60)=some (.ret (F7 (([],[]),(b.length:Int),4)),H):=by
    intro L;have eP:=A0 (G:=[Blk.cel 0 [.sl (enL cNd L) .no]]) hKr;have hst:=Gc (sz:=2) (ws:=[.str [],.sl [] .ti]) eP rfl rfl rfl;have hld:=Et (sz:=2) (H:=(K++[Blk.cel 0 [.sl (enL cNd L) .no]]).set (H.length+1) (.cel 0 [.str [],.sl [] .ti])) (p:=H.length+1) (cs:=[.str [],.sl [] .ti]) (by rw[UT (by simp;omega)]) rfl;have htk:((K++[Blk.cel 0 [.sl (enL cNd L) .no]]).set (H.length+1) (.cel 0 [.str [],.sl [] .ti])).take H.length=H:=Cm λi hi=>by rw[UI (by omega),UL (by omega)];exact hKo i hi
    simp only[b1,GMw,HPw,Nat.reduceAdd,Nat.reduceLT,hst,hld,Fa htk,F7,Hw]
    rfl
   have rF:Ad false 1 (.ptr (H.length+2) 0 11) K=some (.sl (enL cCl st.cells) tk):=by rw[rH,hv];rfl
   have rI:∀G,Ad false 1 (.ptr (H.length+2) 0 4) (K++G)=some (.str st.law):=λG=>dS G;simp only[Pm,GMw,HPw,Nat.reduceAdd,Nat.reduceLT];rw[<-hK];simp only[GMw,HPw,Nat.reduceAdd,Nat.reduceLT,rF,lL];generalize Ie st.cells=O;obtain⟨Q,e⟩:=O;dsimp only;have gH:=bad Q;have mS:=BH (o:=1) (sz:=1) (A0 (G:=[Blk.cel 0 [.sl (enL cNd Q) .no]]) hKm);simp only[GMw,HPw,Nat.reduceAdd,Nat.reduceLT,R3]at gH ⊢;by_cases he:e=0
   ·subst he;by_cases hlen:(Q.length:Int)<=N
    ·have hgt:¬(Q.length:Int)>N:=by omega
     have eP:=A0 (G:=[Blk.cel 0 [.sl (enL cNd Q) .no]]) hKr;have hst:=Gc (sz:=2) (ws:=[.str st.law,.sl (enL cNd Q) .no]) eP rfl rfl rfl;have hld:=Et (sz:=2) (H:=(K++[Blk.cel 0 [.sl (enL cNd Q) .no]]).set (H.length+1) (.cel 0 [.str st.law,.sl (enL cNd Q) .no])) (p:=H.length+1) (cs:=[.str st.law,.sl (enL cNd Q) .no]) (by rw[UT (by simp;omega)]) rfl;have htk:((K++[Blk.cel 0 [.sl (enL cNd Q) .no]]).set (H.length+1) (.cel 0 [.str st.law,.sl (enL cNd Q) .no])).take H.length=H:=Cm λi hi=>by rw[UI (by omega),UL (by omega)];exact hKo i hi
     have gG:Az (some [(.str []),(.sl [] .ti)]) [(0,1,.str st.law),(1,1,.agg [.sl (enL cNd Q) .no])]=some (.agg [.str st.law,.sl (enL cNd Q) .no]):=rfl;simp only[GMw,HPw,Nat.reduceAdd,Nat.reduceLT,Ay,mS,F1,JJ,hgt,hlen,rI,gG,hst,hld,Fa htk,F7,Hw,if_true]
    ·have hgt:(Q.length:Int)>N:=by omega
     simp only[GMw,HPw,Nat.reduceAdd,Nat.reduceLT,Ay,mS,F1,JJ,hgt,hlen,UM,if_false]at gH ⊢;exact gH
   ·have hne:(!decide (e=0))=true:=by simp[he]
    simp only[GMw,HPw,Nat.reduceAdd,Nat.reduceLT,he,hne,UM,if_false,Wa]at gH ⊢;exact gH
theorem NU (b:List UInt8)(H:Aa)(hb:b.length<250000000):Sh.f13 (.str b) H=some (.ret (.tup [.str (Ur b).1,.bool (Ur b).2]),H):=by
 have b2:∀s,Az (some [(.str []),(.i6 0)]) [(0,1,.str s)]=some (.agg [.str s,.i6 0]):=λ_=>rfl;have b3:∀s,Az (some [(.str []),(.i6 0),(.i6 0),(.i6 0),(.str []),(.bool false),(.bool false),(.sl [] .ti),(.bool false),(.sl [] .ti),(.i6 0),(.sl [] .ti)]) [(0,2,.agg [.str s,.i6 0]),(2,2,.agg [.i6 1000,.i6 100000])]=some (.agg [.str s,.i6 0,.i6 1000,.i6 100000,.str [],.bool false,.bool false,.sl [] .ti,.bool false,.sl [] .ti,.i6 0,.sl [] .ti]):=λ_=>rfl;have b4:Az (some [(.i6 0),(.i6 0)]) [(0,1,(.i6 1000)),(1,1,(.i6 100000))]=some (.agg [.i6 1000,.i6 100000]):=rfl;unfold Sh.f13 Ur;simp only[GMw,HPw,Nat.reduceAdd,Nat.reduceLT,b2,b3,b4];obtain⟨F,hF⟩:∃F:Aa,F=H++[.cel 0 [.str b,.i6 0,.i6 1000,.i6 100000,.str [],.bool false,.bool false,.sl [] .ti,.bool false,.sl [] .ti,.i6 0,.sl [] .ti]]:=⟨_,rfl⟩;have hR:RB 1000 100000 H.length H.length b 0 ⟨[],false,0,0,0,[]⟩ F:=⟨.bool false,.sl [] .ti,.bool false,.sl [] .ti,.sl [] .ti,UK _,by unfold Lx;rw[hF];simp[rdB],.inl ⟨rfl,rfl⟩,(λh=>by cases h),(λh=>by cases h)⟩;obtain⟨H1,c1,c2,c3⟩:=TR hR (by omega) bst1_ok;rw[hF]at c1;have hlen:H.length<=H1.length:=by have:=c2.len;rw[hF]at this;simp at this;omega
 have hold:∀i,i<H.length->H1[i]? = H[i]? := λi hi=>by rw[c2.old i hi,hF,UL hi]
 have htk:∀G,(H1++G).take H.length=H:=λG=>Cm λi hi=>by rw[UL (by omega)];exact hold i hi
 simp only[c1,GMw];cases (M9 b 1000 ⟨[],false,0,0,0,[]⟩).1.1 with
 | none=>
  simp only[Pm,GMw,HPw,Nat.reduceAdd,Nat.reduceLT];exact Gn rfl (htk _)
 | some e=>
  by_cases h0:e.1=0
  ·simp only[Pm,GMw,HPw,Nat.reduceAdd,Nat.reduceLT,h0];exact Gn rfl (htk _)
  ·simp only[Pm,GMw,HPw,Nat.reduceAdd,Nat.reduceLT,h0];exact Gn rfl (htk _)
theorem numS_on {b:List UInt8}{f a n:Nat}{rest:List UInt8}(hs:Be b a JO=true)(h1:¬(f<a/\b[f]? = some 48))(h2:¬a-f=400):FK b f rest (n+1) a=FK b f rest n (a+1):=by
 rw[FK,if_pos hs,if_neg h1,if_neg h2]
theorem digs_get {b:List UInt8}{i:Nat}(h:i<b.length):Be b i JO=(decide ((b[i].toNat:Int)>=48)&&decide ((b[i].toNat:Int)<=57)):=by
 unfold Be JO;rw[UG h];have:∀c:UInt8,([48,49,50,51,52,53,54,55,56,57]:List UInt8).contains c=decide (48<=c.toNat/\c.toNat<=57):=λc=>by
  simp only[List.contains_eq_mem,VC,List.not_mem_nil,or_false,decide_eq_decide,<-WB];simp only[UInt8.reduceToNat];omega
 simp only[this];rw[Va];simp only[zXe,UU];omega
theorem TA (c:UInt8):decide ((c.toNat:Int)=48)=decide (c=48):=u8_lit c 48 (by decide)
def intZ (b:List UInt8)(a:Nat)(neg:Bool):Int:=match (CO b a neg []).1 with
 | none=>BR ((b.take (CO b a neg []).2).drop a)
 | some _=>0
def N2 (b:List UInt8)(a:Nat)(R:Er×Nat):Ab:=.tup [BE b R.2 (Cq R.1),big (match R.1 with | none=>BR ((b.take R.2).drop a) | some _=>0)]
theorem r15_int {b:List UInt8}{a:Nat}(ha:a<=b.length)(hb:b.length<1152921504606846976)(neg:Bool)(H:Aa):Sh.f15 (BE b a 0) (.bool neg) H=some (.ret (N2 b a (CO b a neg [])),H):=by
 have dW:Az (some [(.bool false),(.sl [] .ti)]) []=some (.agg [.bool false,.sl [] .ti]):=rfl;have hz:Ab.agg [.bool false,.sl [] .no]=big 0:=by rw[<-M5];rfl
 have loop:∀(m:Bool) (f:Nat),a<=f->f<=b.length->(m=true->¬b[f]? = some 48) ->
   Am (λaA vs H1=>Sh.f3k H aA (ag vs 0) (ag vs 1) (ag vs 2) (ag vs 3) (ag vs 4) (ag vs 5) H1) AM [.ptr H.length 0 0,.ptr (H.length+1) 0 0,.ptr (H.length+2) 0 0,.i6 (a:Int),.bool m,.i6 (f:Int)] (H++[.cel 0 [.str b,.i6 (f:Int),.i6 0],.cel 0 [.str [],.i6 0,.i6 0],.cel 0 [.bool false,.sl [] .ti]])=some (.ret (N2 b a (FK b f [] 402 f)),H):=by
  intro m f Yk hf hm0;have key:=AZ (G:=λaA vs H1=>Sh.f3k H aA (ag vs 0) (ag vs 1) (ag vs 2) (ag vs 3) (ag vs 4) (ag vs 5) H1) (σ:=Nat) (λi=>f<=i/\i<=b.length/\i-f<=400) (λ_=>[.ptr H.length 0 0,.ptr (H.length+1) 0 0,.ptr (H.length+2) 0 0,.i6 (a:Int),.bool m,.i6 (f:Int)])
   (λi=>H++[.cel 0 [.str b,.i6 (i:Int),.i6 0],.cel 0 [.str [],.i6 0,.i6 0],.cel 0 [.bool false,.sl [] .ti]]) (λi=>b.length-i) (λi=>some (.ret (N2 b a (FK b f [] (402-(i-f)) i)),H)) (λi rec hi hrec=>?_) f ⟨UK _,hf,by omega⟩ (by omega)
  ·rw[Vr,Nat.sub_zero]at key;exact key
  ·obtain⟨h1,h2,h3⟩:=hi;have he:=λe H=>EF b i e H;have hst:=λe H=>IA b i e H;unfold BE Cg at he hst;have e:402-(i-f)=(401-(i-f))+1:=by omega
   have iU:=GZ h2;have hw:IntKind.i64.wrap ((i:Int)-(f:Int))=((i-f:Nat):Int):=by rw[Ao] <;> omega
   rw[e];unfold Sh.f3k;by_cases aO:b.length<=i
   ·have hs:Be b i JO=false:=by unfold Be;rw[zYb aO]
    rw[FK,if_neg (by rw[hs];decide)];by_cases gF:i=f
    ·have cV:decide ((i:Int)=(f:Int))=true:=zXc (by omega);rw[if_pos gF];simp only[GMw,HPw,Nat.reduceAdd,Nat.reduceLT,Ai,he,aO,cV,hst,dW,N2,BE,Cg,Gi,iU,hz]
    ·have cV:¬(i:Int)=(f:Int):=by omega
     rw[if_neg gF];have hp:=λH=>OX ((b.take i).drop a) H (by rw[Vc,UY];omega);obtain⟨sg,es,dP⟩:∃sg es,big (BR ((b.take i).drop a))=.agg [.bool sg,.sl es .no]:=⟨_,_,J0 _⟩;rw[dP]at hp;simp only[GMw,HPw,Nat.reduceAdd,Nat.reduceLT,Ai,he,aO,cV,Iz (show a<=i by omega) h2,hp,N2,BE,Cg,Dd,dP]
   ·have hlt:i<b.length:=by omega
    have jK:=digs_get hlt;cases hs:Be b i JO with
    | false=>
     rw[hs]at jK;rw[FK,if_neg (by rw[hs];decide)];have stop:∀(x:Bool),x=false->(Ak (.bool x) (none:Out) ((Ad false 1 (.ptr H.length 0 1) (H++[.cel 0 [.str b,.i6 (i:Int),.i6 0],.cel 0 [.str [],.i6 0,.i6 0],.cel 0 [.bool false,.sl [] .ti]])).bind λ_=>none))=none:=λx hx=>by subst hx;simp only[GMw,HPw,Nat.reduceAdd,Nat.reduceLT]
     by_cases hge:(b[i].toNat:Int)>=48
     ·have hle:¬(b[i].toNat:Int)<=57:=λh=>by rw[zXc hge,zXc h]at jK;cases jK
      by_cases gF:i=f
      ·have cV:decide ((i:Int)=(f:Int))=true:=zXc (by omega);rw[if_pos gF];simp only[GMw,HPw,Nat.reduceAdd,Nat.reduceLT,Ai,he,aO,B1 hlt,hge,hle,cV,hst,dW,N2,BE,Cg,Gi,iU,hz]
      ·have cV:¬(i:Int)=(f:Int):=by omega
       rw[if_neg gF];have hp:=λH=>OX ((b.take i).drop a) H (by rw[Vc,UY];omega);obtain⟨sg,es,dP⟩:∃sg es,big (BR ((b.take i).drop a))=.agg [.bool sg,.sl es .no]:=⟨_,_,J0 _⟩;rw[dP]at hp;simp only[GMw,HPw,Nat.reduceAdd,Nat.reduceLT,Ai,he,aO,B1 hlt,hge,hle,cV,Iz (show a<=i by omega) h2,hp,N2,BE,Cg,Dd,dP]
     ·by_cases gF:i=f
      ·have cV:decide ((i:Int)=(f:Int))=true:=zXc (by omega);rw[if_pos gF];simp only[GMw,HPw,Nat.reduceAdd,Nat.reduceLT,Ai,he,aO,B1 hlt,hge,cV,hst,dW,N2,BE,Cg,Gi,iU,hz]
      ·have cV:¬(i:Int)=(f:Int):=by omega
       rw[if_neg gF];have hp:=λH=>OX ((b.take i).drop a) H (by rw[Vc,UY];omega);obtain⟨sg,es,dP⟩:∃sg es,big (BR ((b.take i).drop a))=.agg [.bool sg,.sl es .no]:=⟨_,_,J0 _⟩;rw[dP]at hp;simp only[GMw,HPw,Nat.reduceAdd,Nat.reduceLT,Ai,he,aO,B1 hlt,hge,cV,Iz (show a<=i by omega) h2,hp,N2,BE,Cg,Dd,dP]
    | true=>
     rw[hs]at jK;obtain⟨hge,hle⟩:(b[i].toNat:Int)>=48/\(b[i].toNat:Int)<=57:=by
      have:=jK.symm;simp only[UU,zXe]at this;exact this
     have go:¬(f<i/\b[f]? = some 48)->((Af .none .sub (.i6 (i:Int)) (.i6 (f:Int))).bind λx93=>
 (Af .none .eql x93 (.i6 400)).bind λx94=>
 Ak x94 (
 bP H (Av (Ae 1 (.ptr H.length 0 2) (.i6 4) (H++[.cel 0 [.str b,.i6 (i:Int),.i6 0],.cel 0 [.str [],.i6 0,.i6 0],.cel 0 [.bool false,.sl [] .ti]]))) λ_ H97=>
 (Ad true 3 (.ptr H.length 0 0) H97).bind λx98=>
 (Az (some [(.bool false),(.sl [] .ti)]) []).bind λx99=>
 bP H (Av (Ae 3 (.ptr (H.length+1) 0 0) x98 H97)) λ_ H101=>
 bP H (Av (Ae 2 (.ptr (H.length+2) 0 0) x99 H101)) λ_ H103=>
 (Cv [Ad true 3 (.ptr (H.length+1) 0 0) H103,Ad true 2 (.ptr (H.length+2) 0 0) H103]).bind λx104=>rPN H x104 H103) (
 (Ad false 1 (.ptr H.length 0 1) (H++[.cel 0 [.str b,.i6 (i:Int),.i6 0],.cel 0 [.str [],.i6 0,.i6 0],.cel 0 [.bool false,.sl [] .ti]])).bind λx106=>
 (Af .none .add x106 (.i6 1)).bind λx107=>
 bP H (Av (Ae 1 (.ptr H.length 0 1) x107 (H++[.cel 0 [.str b,.i6 (i:Int),.i6 0],.cel 0 [.str [],.i6 0,.i6 0],.cel 0 [.bool false,.sl [] .ti]]))) λ_ H110=>
 rec [.ptr H.length 0 0,.ptr (H.length+1) 0 0,.ptr (H.length+2) 0 0,.i6 (a:Int),.bool m,.i6 (f:Int)] H110))=some (.ret (N2 b a (FK b f [] (401-(i-f)+1) i)),H):=by
      intro hn;simp only[GMw,hw];by_cases h4:i-f=400
      ·have oT:((i-f:Nat):Int)=400:=by omega
       rw[FK,if_pos hs,if_neg hn,if_pos h4];simp only[oT,GMw,HPw,Nat.reduceAdd,Nat.reduceLT,dW,N2,BE,Cg,Gi,hz]
      ·have oT:¬((i-f:Nat):Int)=400:=by omega
       rw[numS_on hs hn h4];have:=hrec (i+1) ⟨by omega,by omega,by omega⟩ (by omega);rw[show 402-(i+1-f)=401-(i-f)by omega]at this;simp only[oT,GMw,HPw,Nat.reduceAdd,Nat.reduceLT,As (show i<9223372036854775807 by omega)];exact this
     have bad:b[f]? = some 48/\f<i->some (Res.ret (.tup [.agg [.str b,.i6 (i:Int),.i6 (NO b i)],big 0]),H)=some (.ret (N2 b a (FK b f [] (401-(i-f)+1) i)),H):=λhc=>by
      rw[FK,if_pos hs,if_pos ⟨hc.2,hc.1⟩];simp only[N2,BE,Cg,Gi,iU]
     have dG:f<b.length:=by omega
     have tN:b[f]? = some b[f]:=UG dG;by_cases dT:f<i
     ·have jE:¬(i:Int)=(f:Int):=by omega
      have gZ:(i:Int)>(f:Int):=by omega
      by_cases iH:b[f]=48
      ·have gH:=bad ⟨by rw[tN,iH],dT⟩;cases m with
       | false=>
        simp only[GMw,HPw,Nat.reduceAdd,Nat.reduceLT,Ai,he,aO,B1 hlt,B1 dG,hge,hle,jE,gZ,TA,iH,hst,dW,hz];exact gH
       | true=>
        simp only[GMw,HPw,Nat.reduceAdd,Nat.reduceLT,Ai,he,aO,B1 hlt,B1 dG,hge,hle,jE,gZ,TA,iH,hst,dW,hz];exact gH
      ·have jX:=go (λhc=>iH (by have:=hc.2;rw[tN]at this;exact Wc this));simp only[GMw,HPw,Nat.reduceAdd,Nat.reduceLT,dW]at jX;cases m with
       | false=>
        simp only[GMw,HPw,Nat.reduceAdd,Nat.reduceLT,Ai,he,aO,B1 hlt,B1 dG,hge,hle,jE,gZ,TA,iH,hst,dW];exact jX
       | true=>
        simp only[GMw,HPw,Nat.reduceAdd,Nat.reduceLT,Ai,he,aO,B1 hlt,B1 dG,hge,hle,jE,gZ,TA,iH,hst,dW];exact jX
     ·have gF:i=f:=by omega
      have jE:(i:Int)=(f:Int):=by omega
      have gZ:¬(i:Int)>(f:Int):=by omega
      have jX:=go (λhc=>dT hc.1);simp only[GMw,HPw,Nat.reduceAdd,Nat.reduceLT,dW]at jX;cases m with
      | false=>
       simp only[GMw,HPw,Nat.reduceAdd,Nat.reduceLT,Ai,he,aO,B1 hlt,hge,hle,gZ,hst,dW];exact jX
      | true=>
       have iH:¬b[i]=48:=λe'=>hm0 rfl (by rw[<-gF,UG hlt,e']);have mZ:decide ((i:Int)=(f:Int))=true:=zXc jE;simp only[GMw,HPw,Nat.reduceAdd,Nat.reduceLT,Ai,he,aO,B1 hlt,hge,hle,mZ,gZ,TA,iH,hst,dW];exact jX
 have pO:Be b a [45]=isB b a 45:=by
  unfold isB;by_cases h:a<b.length
  ·rw[HC h,UG h];simp
  ·unfold Be;rw[zYb (by omega)];simp
 have eY:=λe H=>R0 b a e 45 H;unfold BE Cg at eY;rw[show (((45:UInt8).toNat:Int))=45 from rfl]at eY;unfold Sh.f15 Sh.f8y BE Cg;cases neg with
 | false=>
  have:=loop false a (UK _) ha (λh=>by cases h);have e:CO b a false []=FK b a [] 402 a:=rfl;rw[e];simp only[GMw,HPw,Nat.reduceAdd,Nat.reduceLT]at this ⊢;exact this
 | true=>
  cases hm:isB b a 45 with
  | false=>
   have:=loop false a (UK _) ha (λh=>by cases h);have e:CO b a true []=FK b a [] 402 a:=by simp[CO,N7,pO,hm]
   rw[e];simp only[GMw,HPw,Nat.reduceAdd,Nat.reduceLT,eY,hm]at this ⊢;exact this
  | true=>
   have hlt:a<b.length:=by rw[<-pO]at hm;exact CF hm
   have hw:=As (show a<9223372036854775807 by omega);cases h0:Be b (a+1) [48]with
   | false=>
    have e:CO b a true []=FK b (a+1) [] 402 (a+1):=by simp[CO,N7,pO,hm,h0]
    have:=loop true (a+1) (Nat.le_succ _) hlt (λ_ hc=>by unfold Be at h0;rw[hc]at h0;cases h0);rw[e];simp only[GMw,HPw,Nat.reduceAdd,Nat.reduceLT,eY,hm,hw]at this ⊢;exact this
   | true=>
    have lR:=CF h0;have iH:b[a+1]=48:=by rw[HC lR]at h0;exact of_decide_eq_true h0
    have e:CO b a true []=(some (HQ b (a+1) []),a+1):=by simp[CO,N7,pO,hm,h0]
    rw[e];have he:=λe H=>EF b (a+1) e H;have hst:=λe H=>IA b (a+1) e H;unfold BE Cg at he hst;have vC:¬b.length<=a+1:=by omega
    have iU:=GZ (show a+1<=b.length by omega) [];simp only[GMw,HPw,Nat.reduceAdd,Nat.reduceLT,eY,hm,hw];rw[Dp DZ];unfold Sh.f3k;simp only[GMw,HPw,Nat.reduceAdd,Nat.reduceLT,Ai,he,vC,B1 lR,iH,TA,show decide (((48:UInt8).toNat:Int)>=48)=true from by decide,show decide (((48:UInt8).toNat:Int)<=57)=true from by decide,show decide (((48:UInt8).toNat:Int)=48)=true from by decide,hst,dW,N2,BE,Cg,Gi,iU,hz]
theorem r15_intX (b:List UInt8)(a:Nat){e:Int}(he:e≠0)(neg:Bool)(H:Aa):Sh.f15 (BE b a e) (.bool neg) H=some (.ret (.tup [BE b a e,big 0]),H):=by
 have dW:Az (some [(.bool false),(.sl [] .ti)]) []=some (.agg [.bool false,.sl [] .ti]):=rfl;have hz:Ab.agg [.bool false,.sl [] .no]=big 0:=by rw[<-M5];rfl
 unfold Sh.f15 BE Cg;simp only[GMw,HPw,Nat.reduceAdd,Nat.reduceLT,he,dW,hz]
def Bo (M:Er×Nat)(f:Nat->Er×Nat):Er×Nat:=match M.1 with
 | some e=>(some e,M.2)
 | none=>f M.2
theorem Kh (e:Int×List UInt8)(c:Nat)(f:Nat->Er×Nat):Bo (some e,c) f=(some e,c):=rfl
theorem Ck (c:Nat)(f:Nat->Er×Nat):Bo (none,c) f=f c:=rfl
theorem Ri {M:Er×Nat}{f:Nat->Er×Nat}(h:Ft M.1)(hf:∀c,Ft (f c).1):Ft (Bo M f).1:=by
 obtain⟨er,c⟩:=M;cases er with
 | some e=>exact h
 | none=>exact hf c
theorem Rh {M:Er×Nat}{f:Nat->Er×Nat}{n:Nat}(h:M.2<=n)(hf:∀c,c<=n->(f c).2<=n):(Bo M f).2<=n:=by
 obtain⟨er,c⟩:=M;cases er with
 | some e=>exact h
 | none=>exact hf c h
theorem U0 {er:Er}{e:Int×List UInt8}(h:Ft er)(he:er=some e):e.1≠0:=by have:=h e he;omega
section
variable {b:List UInt8}{er:Er}{c:Nat}
theorem codeP_must (ha:c<=b.length)(s rest:List UInt8):Cq (B6 b c s rest).1=litE b c s:=by
 unfold B6 litE;dsimp only;split
 ·exact GZ (litN_le ha s) _
 ·rfl
theorem codeP_end (ha:c<=b.length)(rest:List UInt8):Cq (DM b c rest).1=S5 b c:=by
 unfold DM S5;dsimp only;split
 ·rfl
 ·split
  ·rfl
  ·exact GZ (by
    unfold crN;split
    ·rename_i h;exact CF h
    ·exact ha) _
theorem codeP_rul (ha:c<=b.length)(rest:List UInt8):Cq (HR b c rest).1=ruleE b c:=by
 unfold HR ruleE;dsimp only;split
 ·exact GZ ha _
 ·rfl
def Alike (x y:Er×Nat):Prop:=x.2=y.2/\Cq x.1=Cq y.1/\(x.1=none↔y.1=none)
theorem stpR_alike (b:List UInt8)(a:Nat)(s t:List UInt8):(HQ b a s).1=(HQ b a t).1:=by unfold HQ;split <;> rfl
theorem RP (b:List UInt8)(f:Nat)(r s:List UInt8):∀n a,Alike (FK b f r n a) (FK b f s n a)
 | 0,a=>⟨rfl,rfl,Iff.rfl⟩
 | n+1,a=>by
  unfold FK;split
  ·split
   ·exact⟨rfl,rfl,Iff.rfl⟩
   ·split
    ·exact⟨rfl,rfl,Iff.rfl⟩
    ·exact RP b f r s n (a+1)
  ·split
   ·exact⟨rfl,stpR_alike _ _ _ _,by simp⟩
   ·exact⟨rfl,rfl,Iff.rfl⟩
theorem intS_alike (b:List UInt8)(a:Nat)(neg:Bool)(r s:List UInt8):Alike (CO b a neg r) (CO b a neg s):=by
 unfold CO;split
 ·exact⟨rfl,rfl,Iff.rfl⟩
 ·exact RP _ _ _ _ _ _
theorem d_lit (hc:c<=b.length)(hb:b.length<1000000000000)(he:Ft er)(s rest:List UInt8)(K:Aa):Sh.fm (BE b c (Cq er)) (.str s) K=some (.ret (BE b (Bo (er,c) λc=>B6 b c s rest).2 (Cq (Bo (er,c) λc=>B6 b c s rest).1)),K):=by
 cases er with
 | some e=>rw[Kh];exact r15_litX b c (U0 he rfl) s K
 | none=>
  rw[Ck,codeP_must hc];exact r15_lit hc (by omega) s K
theorem d_eol (hc:c<=b.length)(hb:b.length<1000000000000)(he:Ft er)(K:Aa):Sh.ft (BE b c (Cq er)) K=some (.ret (BE b (Bo (er,c) λc=>DM b c []).2 (Cq (Bo (er,c) λc=>DM b c []).1)),K):=by
 cases er with
 | some e=>rw[Kh];exact r15_eolX b c (U0 he rfl) K
 | none=>
  rw[Ck,codeP_end hc];exact r15_eol hc (by omega) K
theorem d_rule (hc:c<=b.length)(hb:b.length<1000000000000)(he:Ft er):∃s,(∀K,Sh.f1m (BE b c (Cq er)) K=some (.ret (.tup [BE b (Bo (er,c) λc=>HR b c []).2 (Cq (Bo (er,c) λc=>HR b c []).1),.str s]),K))/\((Bo (er,c) λc=>HR b c []).1=none->s=(b.take (Bo (er,c) λc=>HR b c []).2).drop c):=by
 cases er with
 | some e=>rw[Kh];exact⟨[],λK=>r15_ruleX b c (U0 he rfl) K,λh=>by cases h⟩
 | none=>
  rw[Ck,codeP_rul hc];refine⟨_,λK=>r15_rule hc (by omega) K,λh=>?_⟩;unfold HR at h;dsimp only at h;split at h
  ·cases h
  ·rename_i hn;rw[if_neg hn];rfl
theorem zero_lt:(0:Int).natAbs<10^400:=by
 have:=I4 []
 rwa [show BR []=0 from by decide]at this
theorem d_int (hc:c<=b.length)(hb:b.length<1000000000000)(he:Ft er)(rest:List UInt8):∃z,(∀K,Sh.f15 (BE b c (Cq er)) (.bool true) K=some (.ret (.tup [BE b (Bo (er,c) λc=>CO b c true rest).2 (Cq (Bo (er,c) λc=>CO b c true rest).1),big z]),K))/\((Bo (er,c) λc=>CO b c true rest).1=none->z=BR ((b.take (Bo (er,c) λc=>CO b c true rest).2).drop c))/\z.natAbs<10^400:=by
 cases er with
 | some e=>rw[Kh];exact⟨0,λK=>r15_intX b c (U0 he rfl) true K,(λh=>by cases h),zero_lt⟩
 | none=>
  rw[Ck];obtain⟨h1,h2,h3⟩:=intS_alike b c true [] rest;have hi:=λK=>r15_int hc (show b.length<1152921504606846976 by omega) true K;unfold N2 at hi;rw[h1,h2]at hi;refine⟨_,hi,λh=>?_,?_⟩
  ·rw[h3.2 h]
  ·split
   ·exact I4 _
   ·exact zero_lt
theorem r15P_finishE (b:List UInt8)(c:Nat){e:Int}(he:e≠0){p m:List Ab}(hp:p.all Ab.isScal=true)(aW:p.length=2)(hm:m.all Ab.isScal=true)(hml:m.length=2)(e3:Ab)(K:Aa) :
  Sh.f1n (.agg [.str b,.i6 (c:Int),.i6 e]) (.agg p) e3 (.agg m) K=some (.ret (.tup [.agg [.str [],.sl [] .no],.i6 (c:Int),.i6 e]),K):=by
 have hf:decide (e=0)=false:=zXd he;have b1:Az (some [(.str []),(.sl [] .ti)]) []=some (.agg [.str [],.sl [] .ti]):=rfl;unfold Sh.f1n;simp only[GMw,HPw,Nat.reduceAdd,Nat.reduceLT,hp,aW,hm,hml,hf,b1]
theorem r15P_finish (b:List UInt8)(c:Nat)(law:List UInt8)(Q:List Nd)(bx N e3:Int)(K:Aa) :
  Sh.f1n (.agg [.str b,.i6 (c:Int),.i6 0]) (.agg [.str law,.sl (enL cNd Q) .no]) (.i6 e3) (.agg [.i6 bx,.i6 N]) K =
   some (.ret (if e3=0/\(Q.length:Int)<=N then .tup [.agg [.str law,.sl (enL cNd Q) .no],.i6 0,.i6 0]else .tup [.agg [.str [],.sl [] .no],.i6 (b.length:Int),.i6 4]),K):=by
 have b1:Az (some [(.str []),(.sl [] .ti)]) []=some (.agg [.str [],.sl [] .ti]):=rfl;unfold Sh.f1n;by_cases he:e3=0
 ·have hf:decide (e3=0)=true:=zXc he;by_cases hq:(Q.length:Int)<=N
  ·have hg:decide ((Q.length:Int)>N)=false:=zXd (by omega);rw[if_pos ⟨he,hq⟩];simp only[GMw,HPw,Nat.reduceAdd,Nat.reduceLT,hf,b1,Ay,hg]
  ·have hg:decide ((Q.length:Int)>N)=true:=zXc (by omega);rw[if_neg (λh=>hq h.2)];simp only[GMw,HPw,Nat.reduceAdd,Nat.reduceLT,hf,b1,Ay,hg]
 ·have hf:decide (e3=0)=false:=zXd he;rw[if_neg (λh=>he h.1)];simp only[GMw,HPw,Nat.reduceAdd,Nat.reduceLT,hf,b1]

end
theorem q07_ofC (L:List Cl)(tk:Tok)(H:Aa)(hl:L.length<700000000)(hok:∀c∈L,c.ok):Sh.f3r (.sl (enL cCl L) tk) H=some (.ret (.tup [Ef (Ie L).1,.i6 (Ie L).2]),H):=by
 have h:=q07_of (L.map rcC) tk H (by rw[VJ];omega) (λr hr=>by obtain⟨c,hc,rfl⟩:=Wh.1 hr;exact rcC_fits (hok c hc)) (λr hr _=>by obtain⟨c,hc,rfl⟩:=Wh.1 hr;rw[rcC_cl];exact hok c hc);rw[all_rcC,enL_rcC,map_rcC,if_pos rfl]at h;exact h
theorem sees_is {b:List UInt8}{a:Nat}(ha:a<b.length)(c:UInt8):isB b a c=Be b a [c]:=by
 rw[HC ha];unfold isB;rw[UG ha];simp
structure DI (H:Aa)(b:List UInt8)(bx N:Int)(er:Er)(c:Nat)(K:Aa):Prop where
 lim:K[H.length]? = some (.cel 0 [.i6 bx,.i6 N])
 res:K[H.length+1]? = some (.cel 0 [.str [],.sl [] .ti])
 cur:K[H.length+2]? = some (.cel 0 (Cg b c (Cq er)))
 old:∀i,i<H.length->K[i]? = H[i]?
section
variable {H:Aa}{b:List UInt8}{bx N:Int}{er:Er}{c:Nat}{v:Ab}{K:Aa}
theorem DI.len (h:DI H b bx N er c K):H.length+2<K.length:=(UH.1 h.cur).1
theorem DI.push (h:DI H b bx N er c K)(G:Aa):DI H b bx N er c (K++G):=
 ⟨A0 h.lim,A0 h.res,A0 h.cur,λi hi=>by have:=h.len;rw[UL (by omega)];exact h.old i hi⟩
theorem DI.kp (h:DI H b bx N er c K){K':Aa}(hk:Kp H.length K K'):DI H b bx N er c K':=
 ⟨hk.cel _ _ h.lim,hk.cel _ _ h.res,hk.cel _ _ h.cur,λi hi=>(hk.old i hi).trans (h.old i hi)⟩
theorem DI.mv (h:DI H b bx N er c K)(er':Er)(c':Nat):DI H b bx N er' c' (K.set (H.length+2) (.cel 0 (Cg b c' (Cq er')))):=by
 have hl:=h.len;refine⟨?_,?_,?_,λi hi=>?_⟩
 ·rw[UI (by omega)];exact h.lim
 ·rw[UI (by omega)];exact h.res
 ·rw[UT (by omega)]
 ·rw[UI (by omega)];exact h.old i hi
theorem DI.ld (h:DI H b bx N er c K):Ad true 3 (.ptr (H.length+2) 0 0) K=some (BE b c (Cq er)):=Et (sz:=3) h.cur rfl
theorem DI.sto (h:DI H b bx N er c K)(c':Nat)(e':Int):Ae 3 (.ptr (H.length+2) 0 0) (BE b c' e') K=some (K.set (H.length+2) (.cel 0 (Cg b c' e'))):=Gc (sz:=3) h.cur rfl rfl rfl
theorem DI.le3 (h:DI H b bx N er c K):Ad false 1 (.ptr (H.length+2) 0 2) K=some (.i6 (Cq er)):=by rw[BH h.cur];rfl
theorem cur_box (G:Aa)(b:List UInt8)(c:Nat)(e:Int):Ae 3 (.ptr G.length 0 0) (BE b c e) (G++[.cel 0 [.str [],.i6 0,.i6 0]])=some (G++[.cel 0 (Cg b c e)]):=by
 unfold BE;rw[Gc (sz:=3) (ws:=Cg b c e) Ap rfl rfl rfl,Ba]
theorem cur_alloc (G:Aa):Ax (some [(.str []),(.i6 0),(.i6 0)]) G=some (.ptr G.length 0 0,G++[.cel 0 [.str [],.i6 0,.i6 0]]):=alloc_eq rfl
end
structure Bk where
 p0:Bool
 e0:List (List Ab)
 t0:Tok
 p1:Bool
 e1:List (List Ab)
 t1:Tok
def bkC (law:List UInt8)(block:Bool)(k:Bk)(rows:Int)(v:Ab):List Ab:=[.str law,.bool block,.bool k.p0,.sl k.e0 k.t0,.bool k.p1,.sl k.e1 k.t1,.i6 rows,v]
structure BkOk (st:BSt)(k:Bk):Prop where
 fx:st.block=true->[.bool k.p0,.sl k.e0 k.t0]=A3 st.x
 gy:st.block=true->[.bool k.p1,.sl k.e1 k.t1]=A3 st.y
 n0:∀t,k.t0≠.own t
 n1:∀t,k.t1≠.own t
def bkB (x y:Int):Bk:=⟨decide (x<0),enL cU (A6 x.natAbs),.no,decide (y<0),enL cU (A6 y.natAbs),.no⟩
theorem bfrz_sl {K:Aa}{n d:Nat}{es:List (List Ab)}{tk:Tok}(h:∀t,tk=.own t->t<n):frz K n (d+1) (.sl es tk)=some (.sl es tk):=by
 cases tk with
 | own t=>simp[frz,h t rfl]
 | _=>simp[frz]
theorem PQ (H:Aa)(n d:Nat):Eu H n (d+1) []=some []:=by simp[Eu]
theorem NF (H:Aa)(n d:Nat)(v:Ab)(vs:List Ab):Eu H n (d+1) (v::vs)=(frz H n d v).bind λv=>(Eu H n (d+1) vs).map (v::·):=by simp[Eu]
theorem SO (b:List UInt8)(c:Nat)(e:Int)(l':List UInt8)(b':Bool)(k:Bk)(r':Int){es:List (List Ab)}{tk:Tok}{K:Aa}(h0:∀t,k.t0≠.own t)(h1:∀t,k.t1≠.own t)(h:∀t,tk=.own t->t<K.length)(G:Aa) :
  rP K (.tup [.agg [.str b,.i6 (c:Int),.i6 e],.agg (bkC l' b' k r' (.sl es tk))]) (K++G)=some (.ret (.tup [.agg [.str b,.i6 (c:Int),.i6 e],.agg (bkC l' b' k r' (.sl es tk))]),K):=by
 rw[rP_eq _ (by simp)];have f0:frz (K++G) K.length 4 (.sl k.e0 k.t0)=some (.sl k.e0 k.t0):=bfrz_sl λt ht=>absurd ht (h0 t);have f1:frz (K++G) K.length 4 (.sl k.e1 k.t1)=some (.sl k.e1 k.t1):=bfrz_sl λt ht=>absurd ht (h1 t);have f2:frz (K++G) K.length 4 (.sl es tk)=some (.sl es tk):=bfrz_sl h;have fb:∀x,frz (K++G) K.length 4 (.bool x)=some (.bool x):=λ_=>by simp[frz]
 have fi:∀kk x,frz (K++G) K.length 4 (.int kk x)=some (.int kk x):=λ_ _=>by simp[frz]
 have fs:∀x,frz (K++G) K.length 4 (.str x)=some (.str x):=λ_=>by simp[frz]
 have g:∀cs cs',Eu (K++G) K.length 5 cs=some cs'->frz (K++G) K.length 6 (.agg cs)=some (.agg cs'):=λcs cs' hh=>by
  rw[show frz (K++G) K.length 6 (.agg cs)=(Eu (K++G) K.length 5 cs).map .agg from by simp[frz],hh];rfl
 have g1:=g [.str b,.i6 (c:Int),.i6 e] [.str b,.i6 (c:Int),.i6 e] (by simp only[NF,PQ,fs,fi,BL,zXb]);have g2:=g (bkC l' b' k r' (.sl es tk)) (bkC l' b' k r' (.sl es tk)) (by unfold bkC;simp only[NF,PQ,fs,fi,fb,f0,f1,f2,BL,zXb]);rw[show ∀vs,frz (K++G) K.length 8 (.tup vs)=(Eu (K++G) K.length 7 vs).map .tup from λvs=>by simp[frz]];simp only[NF,PQ,g1,g2,BL,zXb]
theorem st8_2 (c0 c1 c2 c3 c4 c5 c6 c7:Ab)(x:Bool)(y:List (List Ab))(z:Tok)(G:Aa):Ae 2 (.ptr 0 0 2) (.agg [.bool x,.sl y z]) (.cel 0 [c0,c1,c2,c3,c4,c5,c6,c7]::G)=some (.cel 0 [c0,c1,.bool x,.sl y z,c4,c5,c6,c7]::G):=rfl
theorem st8_4 (c0 c1 c2 c3 c4 c5 c6 c7:Ab)(x:Bool)(y:List (List Ab))(z:Tok)(G:Aa):Ae 2 (.ptr 0 0 4) (.agg [.bool x,.sl y z]) (.cel 0 [c0,c1,c2,c3,c4,c5,c6,c7]::G)=some (.cel 0 [c0,c1,c2,c3,.bool x,.sl y z,c6,c7]::G):=rfl
theorem sees_is2 {b:List UInt8}{a:Nat}(ha:a<=b.length)(c:UInt8):isB b a c=Be b a [c]:=by
 by_cases h:a<b.length
 ·exact sees_is h c
 ·unfold isB Be;rw[zYb (by omega)]
  rfl
theorem lawB_1 (b:List UInt8)(a:Nat)(st:BSt):(Q0 b a st).1=Bo (Bo (none,a) λc=>B6 b c [82,32] [97]) λc=>HR b c []:=by
 unfold Q0;rw[Ck];generalize B6 b a [82,32] [97]=M;obtain⟨er,c⟩:=M;cases er with
 | some e=>rfl
 | none=>
  dsimp only;rw[Ck];generalize HR b c []=M;obtain⟨er,d⟩:=M;cases er <;> rfl
theorem lawB_2 (b:List UInt8)(a:Nat)(st:BSt)(h:(Q0 b a st).1.1=none):(Q0 b a st).2={ st with law:=(b.take (Bo (Bo (none,a) λc=>B6 b c [82,32] [97]) λc=>HR b c []).2).drop (Bo (none,a) λc=>B6 b c [82,32] [97]).2 }:=by
 unfold Q0 at h ⊢;rw[Ck];generalize B6 b a [82,32] [97]=M at *;obtain⟨er,c⟩:=M;cases er with
 | some e=>cases h
 | none=>
  dsimp only at h ⊢;rw[Ck];generalize HR b c []=M at *;obtain⟨er,d⟩:=M;cases er with
  | some e=>cases h
  | none=>rfl
theorem fromB_1 (b:List UInt8)(a:Nat)(st:BSt):(JK b a st).1=Bo (Bo (Bo (Bo (none,a) λc=>B6 b c [80,32] [49,32,49]) λc=>CO b c true [32,49]) λc=>B6 b c [32] [49]) λc=>CO b c true []:=by
 unfold JK;rw[Ck];generalize B6 b a [80,32] [49,32,49]=M;obtain⟨er,c⟩:=M;cases er with
 | some e=>rfl
 | none=>
  dsimp only;rw[Ck];generalize CO b c true [32,49]=M;obtain⟨er,d⟩:=M;cases er with
  | some e=>rfl
  | none=>
   dsimp only;rw[Ck];generalize B6 b d [32] [49]=M;obtain⟨er,f⟩:=M;cases er with
   | some e=>rfl
   | none=>
    dsimp only;rw[Ck];generalize CO b f true []=M;obtain⟨er,g⟩:=M;cases er <;> rfl
theorem fromB_2 (b:List UInt8)(a:Nat)(st:BSt)(h:(JK b a st).1.1=none) :
  (Bo (Bo (none,a) λc=>B6 b c [80,32] [49,32,49]) λc=>CO b c true [32,49]).1=none /\
  (JK b a st).2={ st with block:=true,rows:=0,x:=BR ((b.take (Bo (Bo (none,a) λc=>B6 b c [80,32] [49,32,49]) λc=>CO b c true [32,49]).2).drop (Bo (none,a) λc=>B6 b c [80,32] [49,32,49]).2),y:=BR ((b.take (JK b a st).1.2).drop (Bo (Bo (Bo (none,a) λc=>B6 b c [80,32] [49,32,49]) λc=>CO b c true [32,49]) λc=>B6 b c [32] [49]).2) }:=by
 unfold JK at h ⊢;rw[Ck];generalize B6 b a [80,32] [49,32,49]=M at *;obtain⟨er,c⟩:=M;cases er with
 | some e=>cases h
 | none=>
  dsimp only at h ⊢;rw[Ck];generalize CO b c true [32,49]=M at *;obtain⟨er,d⟩:=M;cases er with
  | some e=>cases h
  | none=>
   dsimp only at h ⊢;rw[Ck];generalize B6 b d [32] [49]=M at *;obtain⟨er,f⟩:=M;cases er with
   | some e=>cases h
   | none=>
    dsimp only at h ⊢;generalize CO b f true []=M at *;obtain⟨er,g⟩:=M;cases er with
    | some e=>cases h
    | none=>exact⟨rfl,rfl⟩
section
variable {b:List UInt8}{a:Nat}{st:BSt}
theorem r16_mark (ha:a<b.length)(hb:b.length<100000000)(k:Bk)(hk:BkOk st k)(es:List (List Ab))(tk:Tok):∃l' b' k' r',
  (∀K:Aa,(∀t,tk=.own t->t<K.length)->Sh.f16 (BE b a 0) (.agg (bkC st.law st.block k st.rows (.sl es tk))) K=some (.ret (.tup [BE b (G4 b a st).1.2 (Cq (G4 b a st).1.1),.agg (bkC l' b' k' r' (.sl es tk))]),K)) /\
  ((G4 b a st).1.1=none->l'=(G4 b a st).2.law/\b'=(G4 b a st).2.block/\r'=((G4 b a st).2.rows:Int)/\BkOk (G4 b a st).2 k'):=by
 have hle:a+1<=b.length:=ha;have hb':b.length<1000000000000:=by omega
 have sees:∀(c:UInt8) K,Sh.fn (BE b (a+1) 0) (.int .u8 (c.toNat:Int)) K=some (.ret (.bool (Be b (a+1) [c])),K):=λc K=>by
  rw[R0,sees_is2 hle,zXc (rfl:(0:Int)=0),zXn]
 have s68:=sees 68;have s78:=sees 78;have s82:=sees 82;have s80:=sees 80;rw[show ((68:UInt8).toNat:Int)=68 from rfl]at s68;rw[show ((78:UInt8).toNat:Int)=78 from rfl]at s78;rw[show ((82:UInt8).toNat:Int)=82 from rfl]at s82;rw[show ((80:UInt8).toNat:Int)=80 from rfl]at s80;have wr:IntKind.i64.wrap ((a:Int)+1)=((a+1:Nat):Int):=As (by omega);unfold G4;cases sO:Be b (a+1) [68]with
 | true=>
  rw[sO]at s68;have hlt:=CF sO;have bJ:Be b (a+1) [13,10]=false:=by
   rw[HC hlt]at sO;unfold Be;rw[UG hlt,of_decide_eq_true sO]
   rfl
  have sN:=λK=>r15_any (b:=b) (a:=a+1+1) (by omega) (by omega) K;have he:M7 b (a+1)=M7 b (a+1+1):=by rw[PU hlt,bJ];rfl
  have wr2:IntKind.i64.wrap (((a+1:Nat):Int)+1)=((a+1+1:Nat):Int):=As (by omega);refine⟨st.law,st.block,k,st.rows,λK hK=>?_,λ_=>⟨rfl,rfl,rfl,hk⟩⟩;unfold Sh.f16;simp only[if_true,Dd];rw[he];unfold BE Cg at s68 sN ⊢;unfold bkC;simp only[GMw,HPw,Nat.reduceAdd,Nat.reduceLT,wr,wr2,s68,sN];exact SO _ _ _ _ _ k _ hk.n0 hk.n1 hK _
 | false=>
  rw[sO]at s68;cases wQ:Be b (a+1) [78]with
  | true=>
   rw[wQ]at s78;have wr2:IntKind.i64.wrap (((a+1:Nat):Int)+1)=((a+1+1:Nat):Int):=As (by have:=CF wQ;omega);refine⟨Nw,st.block,k,st.rows,λK hK=>?_,λ_=>⟨rfl,rfl,rfl,hk.fx,hk.gy,hk.n0,hk.n1⟩⟩;unfold Sh.f16;simp only[if_true,Dd,UM,if_false];unfold BE Cg at s68 s78 ⊢;unfold bkC;simp only[GMw,HPw,Nat.reduceAdd,Nat.reduceLT,wr,wr2,s68,s78];exact SO _ _ _ _ _ k _ hk.n0 hk.n1 hK _
  | false=>
   rw[wQ]at s78;cases yG:Be b (a+1) [82]with
   | true=>
    rw[yG]at s82;simp only[if_true,UM,if_false];rw[lawB_1];have m1:=λK=>d_lit (b:=b) (c:=a+1) (er:=none) hle hb' Ft.none [82,32] [97] K;have e1:Ft (Bo (none,a+1) λc=>B6 b c [82,32] [97]).1:=HE _ _ _ _;have l1:(Bo (none,a+1) λc=>B6 b c [82,32] [97]).2<=b.length:=EC hle;have h2:=lawB_2 b (a+1) st;rw[lawB_1]at h2;generalize (Bo (none,a+1) λc=>B6 b c [82,32] [97])=M1 at *;obtain⟨er1,c1⟩:=M1;dsimp only at m1 e1 l1 h2 ⊢;obtain⟨s,m2,m2n⟩:=d_rule l1 hb' e1;generalize (Bo (er1,c1) λc=>HR b c [])=M2 at *;obtain⟨er2,c2⟩:=M2;dsimp only at m2 m2n h2 ⊢;refine⟨s,st.block,k,st.rows,λK hK=>?_,λhn=>?_⟩
    ·rw[Dd]at m1;unfold Sh.f16;unfold BE Cg at s68 s78 s82 m1 m2 ⊢;unfold bkC;simp only[GMw,HPw,Nat.reduceAdd,Nat.reduceLT,wr,s68,s78,s82,m1,m2];exact SO _ _ _ _ _ k _ hk.n0 hk.n1 hK _
    ·rw[h2 hn];exact⟨m2n hn,rfl,rfl,hk.fx,hk.gy,hk.n0,hk.n1⟩
   | false=>
    rw[yG]at s82;cases yH:Be b (a+1) [80]with
    | true=>
     rw[yH]at s80;simp only[if_true,UM,if_false];rw[fromB_1];have h2:=fromB_2 b (a+1) st;rw[fromB_1]at h2;have m1:=λK=>d_lit (b:=b) (c:=a+1) (er:=none) hle hb' Ft.none [80,32] [49,32,49] K;have e1:Ft (Bo (none,a+1) λc=>B6 b c [80,32] [49,32,49]).1:=HE _ _ _ _;have l1:(Bo (none,a+1) λc=>B6 b c [80,32] [49,32,49]).2<=b.length:=EC hle;generalize (Bo (none,a+1) λc=>B6 b c [80,32] [49,32,49])=M1 at *;obtain⟨er1,c1⟩:=M1;dsimp only at m1 e1 l1 h2 ⊢;obtain⟨z1,m2,m2n,m2b⟩:=d_int l1 hb' e1 [32,49];have e2:Ft (Bo (er1,c1) λc=>CO b c true [32,49]).1:=Ri e1 λc=>intS_er _ _ _ _;have l2:(Bo (er1,c1) λc=>CO b c true [32,49]).2<=b.length:=Rh l1 λc hc=>(On hc _ _).2;generalize (Bo (er1,c1) λc=>CO b c true [32,49])=M2 at *;obtain⟨er2,c2⟩:=M2;dsimp only at m2 m2n e2 l2 h2 ⊢;have m3:=λK=>d_lit l2 hb' e2 [32] [49] K;have e3:Ft (Bo (er2,c2) λc=>B6 b c [32] [49]).1:=Ri e2 λc=>HE _ _ _ _;have l3:(Bo (er2,c2) λc=>B6 b c [32] [49]).2<=b.length:=Rh l2 λc hc=>EC hc;generalize (Bo (er2,c2) λc=>B6 b c [32] [49])=M3 at *;obtain⟨er3,c3⟩:=M3;dsimp only at m3 e3 l3 h2 ⊢;obtain⟨z2,m4,m4n,m4b⟩:=d_int l3 hb' e3 [];generalize (Bo (er3,c3) λc=>CO b c true [])=M4 at *;obtain⟨er4,c4⟩:=M4;dsimp only at m4 m4n h2 ⊢;refine⟨st.law,true,bkB z1 z2,0,λK hK=>?_,λhn=>?_⟩
     ·rw[Dd]at m1;unfold Sh.f16;unfold BE Cg at s68 s78 s82 s80 m1 m2 m3 m4 ⊢;unfold big A3 at m2 m4;unfold bkC bkB;simp only[GMw,HPw,Nat.reduceAdd,Nat.reduceLT,wr,s68,s78,s82,s80,m1,m2,m3,m4,st8_2,st8_4];exact SO _ _ _ _ _ (bkB z1 z2) _ (λt h=>by cases h) (λt h=>by cases h) hK _
     ·obtain⟨q1,q2⟩:=h2 hn;rw[q2];refine⟨rfl,rfl,rfl,λ_=>?_,λ_=>?_,(λt h=>by cases h),(λt h=>by cases h)⟩
      ·rw[m2n q1];rfl
      ·rw[m4n hn];rfl
    | false=>
     rw[yH]at s80;have hst:=λK=>IA b (a+1) 0 K;refine⟨st.law,st.block,k,st.rows,λK hK=>?_,λh=>by simp at h⟩;have kF:Cq (some (HQ b (a+1) [78]))=NO b (a+1):=GZ hle _;unfold Sh.f16;simp only[UM,if_false];rw[kF];unfold BE Cg at s68 s78 s82 s80 hst ⊢;unfold bkC;simp only[GMw,HPw,Nat.reduceAdd,Nat.reduceLT,wr,s68,s78,s82,s80,hst];exact SO _ _ _ _ _ k _ hk.n0 hk.n1 hK _

end
def I9 (b:List UInt8)(bx:Int)(rows:Nat):Nat->Nat->Nat->List Nat->(Er×Nat)×List Nat
 | 0,a,x,o=>((none,a),o)
 | k+1,a,x,o=>
  if Be b a [46,42]then
   if Be b a [42]then
    if decide ((x:Int)>=bx)||decide ((rows:Int)>=bx)then ((some (4,[]),a),o)
    else I9 b bx rows k (a+1) (x+1) (o++[x])
   else I9 b bx rows k (a+1) (x+1) o
  else ((none,a),o)
theorem rowB_X (b:List UInt8)(bx:Int):∀(k a x:Nat) (st:BSt) (o:List Nat) (base:List Cl),st.cells=base++o.map (λx=>⟨st.x+x,st.y+st.rows,1⟩)->b.length-a<k ->
  (NQ b bx k a x st).1=(I9 b bx st.rows k a x o).1/\((NQ b bx k a x st).1.1=none->(NQ b bx k a x st).2={ st with rows:=st.rows+1,cells:=base++(I9 b bx st.rows k a x o).2.map (λx=>⟨st.x+x,st.y+st.rows,1⟩) })
 | 0,a,x,st,o,base,_,h=>by omega
 | k+1,a,x,st,o,base,hc,hk=>by
  unfold NQ I9;split
  ·rename_i hs;have hlt:=CF hs;split
   ·split
    ·exact⟨rfl,λh=>by cases h⟩
    ·have:=rowB_X b bx k (a+1) (x+1) { st with cells:=st.cells++[⟨st.x+x,st.y+st.rows,1⟩] } (o++[x]) base (by simp[hc]) (by omega);exact this
   ·exact rowB_X b bx k (a+1) (x+1) st o base hc (by omega)
  ·exact⟨rfl,λ_=>by rw[hc]⟩
theorem rowX_le {b:List UInt8}{bx:Int}{rows:Nat}:∀(k a x:Nat) (o:List Nat),a<=b.length->x<=a->o.length<=x->(∀y∈o,y<=b.length)->((I9 b bx rows k a x o).2.length<=b.length/\∀y∈(I9 b bx rows k a x o).2,y<=b.length)/\a<=(I9 b bx rows k a x o).1.2/\(I9 b bx rows k a x o).1.2<=b.length/\(I9 b bx rows k a x o).2.length+a<=o.length+(I9 b bx rows k a x o).1.2
 | 0,a,x,o,ha,hx,ho,hy=>⟨⟨by show o.length<=_;omega,hy⟩,UK _,ha,UK _⟩
 | k+1,a,x,o,ha,hx,ho,hy=>by
  unfold I9;split
  ·rename_i hs;have hlt:=CF hs;split
   ·split
    ·exact⟨⟨by dsimp only;omega,hy⟩,UK _,ha,UK _⟩
    ·have:=rowX_le (b:=b) (bx:=bx) (rows:=rows) k (a+1) (x+1) (o++[x]) (by omega) (by omega) (by simp;omega) (λy h=>by
      rcases Vi.1 h with h | h
      ·exact hy y h
      ·rw[Vg.1 h];omega)
     simp only[UO,zXj,zXk]at this;exact⟨this.1,by omega,this.2.2.1,by omega⟩
   ·have:=rowX_le (b:=b) (bx:=bx) (rows:=rows) k (a+1) (x+1) o (by omega) (by omega) (by omega) hy;exact⟨this.1,by omega,this.2.2.1,by omega⟩
  ·exact⟨⟨by dsimp only;omega,hy⟩,UK _,ha,UK _⟩
structure RJ (H:Aa)(b:List UInt8)(bx N:Int)(c:Nat)(K:Aa):Prop where
 cur:K[H.length]? = some (.cel 0 (Cg b c 0))
 lim:K[H.length+1]? = some (.cel 0 [.i6 bx,.i6 N])
 res:K[H.length+2]? = some (.cel 0 [.str [],.i6 0,.i6 0])
 old:∀i,i<H.length->K[i]? = H[i]?
section
variable {H K:Aa}{b:List UInt8}{bx N:Int}{c:Nat}
theorem RJ.len (h:RJ H b bx N c K):H.length+2<K.length:=(UH.1 h.res).1
theorem RJ.kp (h:RJ H b bx N c K){K':Aa}(hk:Kp H.length K K'):RJ H b bx N c K':=
 ⟨hk.cel _ _ h.cur,hk.cel _ _ h.lim,hk.cel _ _ h.res,λi hi=>(hk.old i hi).trans (h.old i hi)⟩
theorem RJ.mv (h:RJ H b bx N c K)(c':Nat):RJ H b bx N c' (K.set H.length (.cel 0 (Cg b c' 0))):=by
 have hl:=h.len;refine⟨by rw[UT (by omega)],?_,?_,λi hi=>?_⟩
 ·rw[UI (by omega)];exact h.lim
 ·rw[UI (by omega)];exact h.res
 ·rw[UI (by omega)];exact h.old i hi
theorem RJ.out (h:RJ H b bx N c K)(e:Int)(out:List Nat)(tk:Tok)(B:Blk) :
  (Cv [Ad true 3 (.ptr (H.length+2) 0 0) ((K.set H.length B).set (H.length+2) (.cel 0 (Cg b c e))),some (.sl (enL cN out) tk)]).bind (λx=>rPN H x ((K.set H.length B).set (H.length+2) (.cel 0 (Cg b c e))))=some (.ret (.tup [BE b c e,.sl (enL cN out) .no]),H):=by
 have hl:=h.len;have h1:((K.set H.length B).set (H.length+2) (Blk.cel 0 (Cg b c e)))[H.length+2]? = some (.cel 0 (Cg b c e)):=by rw[UT (by simp;omega)]
 have h2:=Et (sz:=3) h1 rfl;have h3:((K.set H.length B).set (H.length+2) (Blk.cel 0 (Cg b c e))).take H.length=H:=Cm λi hi=>by
  rw[UI (by omega),UI (by omega)];exact h.old i hi
 unfold BE;unfold Cg at h2 h3 ⊢;simp only[GMw,HPw,Nat.reduceAdd,Nat.reduceLT,h2,Fa h3]
theorem set_same {H:Aa}{p:Nat}{B:Blk}(h:H[p]? = some B):H.set p B=H:=by
 apply VW;intro i;by_cases e:p=i
 ·subst e;rw[UT (UH.1 h).1,h]
 ·rw[UI e]
theorem UD (x0 x1 x2 x3 x4 x5 x6:Ab):ag [x0,x1,x2,x3,x4,x5,x6] 6=x6:=rfl
theorem row_go (hb:b.length<100000000)(rows:Nat)(hr:rows<=1000000000):∀(k n c x:Nat) (o:List Nat) (v:Ab) (K:Aa),c<=b.length->b.length-c<k->k<=n->x<=c->o.length<=x->RJ H b bx N c K->RS cN EV 1 H.length o v K ->
  Am (λrec1 vs H1=>Sh.f6h H rec1 (ag vs 0) (ag vs 1) (ag vs 2) (ag vs 3) (ag vs 4) (ag vs 5) (ag vs 6) H1) n [.int .u8 42,.i6 (rows:Int),.ptr H.length 0 0,.ptr (H.length+1) 0 0,.ptr (H.length+2) 0 0,v,.i6 (x:Int)] K =
   some (.ret (.tup [BE b (I9 b bx rows k c x o).1.2 (Cq (I9 b bx rows k c x o).1.1),.sl (enL cN (I9 b bx rows k c x o).2) .no]),H):=by
 intro k
 induction k with
 | zero=>intro n c x o v K _ h;omega
 | succ k ih=>
  intro n c x o v K hc hk hn hx ho hJ hR;obtain⟨n,rfl⟩:∃m,n=m+1:=⟨n-1,by omega⟩;rw[Ca];generalize hg:Am (λrec1 vs H1=>Sh.f6h H rec1 (ag vs 0) (ag vs 1) (ag vs 2) (ag vs 3) (ag vs 4) (ag vs 5) (ag vs 6) H1) n=rec;have hl:=hJ.len;have l2:Ad false 1 (.ptr H.length 0 2) K=some (.i6 0):=by rw[BH hJ.cur];rfl
  have l0:Ad false 1 (.ptr H.length 0 0) K=some (.str b):=by rw[BH hJ.cur];rfl
  have l1:Ad false 1 (.ptr H.length 0 1) K=some (.i6 (c:Int)):=by rw[BH hJ.cur];rfl
  have lc:Ad true 3 (.ptr H.length 0 0) K=some (BE b c 0):=Et (sz:=3) hJ.cur rfl;have lm:Ad false 1 (.ptr (H.length+1) 0 0) K=some (.i6 bx):=by rw[BH hJ.lim];rfl
  have he:=λK=>EF b c 0 K;obtain⟨tk,hv⟩:=hR.sl;have stop:(bP H (Av (Ae 3 (.ptr (H.length+2) 0 0) (BE b c 0) K)) λ_ H84=>(Cv [Ad true 3 (.ptr (H.length+2) 0 0) H84,some v]).bind λx85=>rPN H x85 H84)=some (.ret (.tup [BE b c 0,.sl (enL cN o) .no]),H):=by
   have hst:=Gc (sz:=3) (ws:=Cg b c 0) hJ.res rfl rfl rfl;have:=hJ.out 0 o tk (.cel 0 (Cg b c 0));rw[set_same hJ.cur]at this;unfold BE;rw[hst,hv];simp only[AC,CC];exact this
  unfold Sh.f6h I9;by_cases aG:c=b.length
  ·have aO:decide (b.length<=c)=true:=zXc (by omega);have bJ:Be b c [46,42]=false:=by
    cases hh:Be b c [46,42]with
    | false=>rfl
    | true=>have:=CF hh;omega
   rw[aO]at he;rw[bJ];simp only[GMw,UD,Ah,UJ,l2,lc,he,Vp,beq_self_eq_true,decide_true,UM,if_false,Dd];exact stop
  ·have hlt:c<b.length:=by omega
   have aO:decide (b.length<=c)=false:=zXd (by omega);rw[aO]at he;have dE:BI (.str b) (.i6 (c:Int))=some (.int .u8 (b[c].toNat:Int)):=B1 hlt;have q46:=u8_eq b[c] 46;have q42:=u8_eq b[c] 42;rw[show ((46:UInt8).toNat:Int)=46 from rfl]at q46;rw[show ((42:UInt8).toNat:Int)=42 from rfl]at q42;have lK:Be b c [42]=decide (b[c]=42):=HC hlt 42;have hs1:Be b c [46,42]=(decide (b[c]=46)||decide (b[c]=42)):=by
    unfold Be;rw[UG hlt];simp only[List.contains_cons,List.contains_nil,zXp];rw[Va];simp
   have go:∀(o':List Nat) (w:Ab) (K1:Aa),RJ H b bx N c K1->RS cN EV 1 H.length o' w K1->o'.length<=x+1 ->
     Sh.f87 H rec (.int .u8 42) (.i6 (rows:Int)) (.ptr H.length 0 0) (.ptr (H.length+1) 0 0) (.ptr (H.length+2) 0 0) w (.i6 (x:Int)) K1 =
      some (.ret (.tup [BE b (I9 b bx rows k (c+1) (x+1) o').1.2 (Cq (I9 b bx rows k (c+1) (x+1) o').1.1),.sl (enL cN (I9 b bx rows k (c+1) (x+1) o').2) .no]),H):=by
    intro o' w K1 hJ1 hR1 xL;have l1:Ad false 1 (.ptr H.length 0 1) K1=some (.i6 (c:Int)):=by rw[BH hJ1.cur];rfl
    have hst:Ae 1 (.ptr H.length 0 1) (.i6 ((c+1:Nat):Int)) K1=some (K1.set H.length (.cel 0 (Cg b (c+1) 0))):=EX (o:=1) hJ1.cur rfl (by simp[Cg]);have:=ih n (c+1) (x+1) o' w (K1.set H.length (.cel 0 (Cg b (c+1) 0))) (by omega) (by omega) (by omega) (by omega) (by omega) (hJ1.mv _) (hR1.put hJ1.cur);rw[hg]at this;unfold Sh.f87;simp only[GMw,Ah,UJ,l1,As (show c<9223372036854775807 by omega),As (show x<9223372036854775807 by omega),hst,AC];exact this
   rw[hs1,lK];cases wR:decide (b[c]=46)with
   | true=>
    have sP:decide (b[c]=42)=false:=by
     rw[of_decide_eq_true wR];rfl
    rw[wR]at q46;rw[sP]at q42;rw[sP];simp only[GMw,UD,Ah,UJ,l0,l1,l2,lc,he,dE,q46,q42,V0,beq_self_eq_true,Wi,if_true,UM,if_false];exact go o v K hJ hR (by omega)
   | false=>
    rw[wR]at q46;cases sP:decide (b[c]=42)with
    | true=>
     rw[sP]at q42;simp only[GMw,UD,Ah,UJ,l0,l1,l2,lc,lm,he,dE,q46,q42,V0,beq_self_eq_true,zXo,if_true];have lim:(bP H (Av (Ae 1 (.ptr H.length 0 2) (.i6 4) K)) λ_ H74=>(Ad true 3 (.ptr H.length 0 0) H74).bind λx75=>bP H (Av (Ae 3 (.ptr (H.length+2) 0 0) x75 H74)) λ_ H77=>(Cv [Ad true 3 (.ptr (H.length+2) 0 0) H77,some v]).bind λx78=>rPN H x78 H77)=some (.ret (.tup [BE b c 4,.sl (enL cN o) .no]),H):=by
      have hst:Ae 1 (.ptr H.length 0 2) (.i6 4) K=some (K.set H.length (.cel 0 (Cg b c 4))):=EX (o:=2) hJ.cur rfl (by simp[Cg]);have h4:(K.set H.length (Blk.cel 0 (Cg b c 4)))[H.length]? = some (.cel 0 (Cg b c 4)):=by rw[UT (by omega)]
      have h5:=Et (sz:=3) h4 rfl;have h6:(K.set H.length (Blk.cel 0 (Cg b c 4)))[H.length+2]? = some (.cel 0 [.str [],.i6 0,.i6 0]):=by rw[UI (by omega)];exact hJ.res
      have h7:=Gc (sz:=3) (ws:=Cg b c 4) h6 rfl rfl rfl;have:=hJ.out 4 o tk (.cel 0 (Cg b c 4));simp only[hst,AC,CC,h5,zXa,h7];rw[hv];exact this
     cases h3:decide ((x:Int)>=bx)with
     | true=>
      simp only[GMw,Wi,if_true];exact lim
     | false=>
      cases h4:decide ((rows:Int)>=bx)with
      | true=>
       simp only[GMw,Ah,UJ,lm,h4,W8,if_true];exact lim
      | false=>
       obtain⟨w,K1,r1,r2,r3⟩:=hR.snoc (bytes:=8) (by omega) x .ti (by omega) (by omega);have kY:AL 1 [.i6 (x:Int)]=some (.sl (enL cN [x]) .ti):=rfl;simp only[GMw,Ah,UJ,lm,h4,zXp,UM,if_false,kY,r1,BV];exact go (o++[x]) w K1 (hJ.kp r3) r2 (by simp;omega)
    | false=>
     rw[sP]at q42;simp only[GMw,UD,Ah,UJ,l0,l1,l2,lc,he,dE,q46,q42,V0,beq_self_eq_true,zXp,UM,if_false,Dd];exact stop
theorem r15_row (hb:b.length<100000000){a:Nat}(ha:a<=b.length)(rows:Nat)(hr:rows<=1000000000)(H:Aa):Sh.f6i (BE b a 0) (.int .u8 42) (.i6 (rows:Int)) (.agg [.i6 bx,.i6 N]) H =
  some (.ret (.tup [BE b (I9 b bx rows (b.length+1-a) a 0 []).1.2 (Cq (I9 b bx rows (b.length+1-a) a 0 []).1.1),.sl (enL cN (I9 b bx rows (b.length+1-a) a 0 []).2) .no]),H):=by
 have hJ:RJ H b bx N a (H++[.cel 0 (Cg b a 0),.cel 0 [.i6 bx,.i6 N],.cel 0 [.str [],.i6 0,.i6 0]]):=⟨by simp,by simp,by simp,λi hi=>UL hi⟩;have:=row_go (N:=N) hb rows hr (b.length+1-a) AM a 0 [] (.sl [] .ti) _ ha (by omega) (by rw[CQ];omega) (Ve _) (UK _) hJ (.inl ⟨rfl,rfl⟩);unfold Sh.f6i;unfold BE Cg at *;simp only[GMw,HPw,Nat.reduceAdd,Nat.reduceLT];exact this

end
section
variable {H K:Aa}{b:List UInt8}{bx N:Int}{er:Er}{c:Nat}
theorem DI.set3 (h:DI H b bx N er c K){p:Nat}(hp:H.length+3<=p)(B:Blk):DI H b bx N er c (K.set p B):=
 ⟨by rw[UI (by omega)];exact h.lim,by rw[UI (by omega)];exact h.res,by rw[UI (by omega)];exact h.cur,λi hi=>by rw[UI (by omega)];exact h.old i hi⟩
theorem OS {z:Int}(h:z.natAbs<10^400):LB z:=by
 have h2:(10:Nat)^400<4294967296^100:=by decide +kernel
 exact SB.lb (k:=100) (by unfold SB;omega) (by decide)
theorem lb_natD {n:Nat}(h:n<=1152921504606846976):LB (n:Int):=by
 have h2:1152921504606846976<(10:Nat)^400:=by decide +kernel
 exact OS (by omega)
theorem build_plD (x y:Int):Az (some [(.bool false),(.sl [] .ti),(.bool false),(.sl [] .ti),(.int .u8 0)]) [(0,2,big x),(2,2,big y),(4,1,(.int .u8 1))]=some (.agg (cCl ⟨x,y,1⟩)):=rfl
theorem row_cells {l:List UInt8}{k:Bk}{X Y:Int}{rows a:Nat}{xs:List Nat}{er0:Er}{c0 q:Nat}(mI:∀y∈xs,y<=1000000000000)(hX:X.natAbs<10^400)(hY:Y.natAbs<10^400)(hr:rows<=1000000000000)(h0:[Ab.bool k.p0,.sl k.e0 k.t0]=A3 X)(h1:[Ab.bool k.p1,.sl k.e1 k.t1]=A3 Y)
  (mA:Ft er0)(eT:c0<=b.length)(hb:b.length<100000000)(hq:H.length+3<q)(jL:xs.length<=1000000000000) :
  ∀(m j n:Nat) (base:List Cl) (v:Ab) (K:Aa),j+m=xs.length->m<n->base.length+m<=1000000000000->DI H b bx N none a K->K[H.length+3]? = some (.cel 0 (bkC l true k rows v))->K[q]? = some (.cel 0 (Cg b c0 (Cq er0)))->RS cCl A8 5 H.length base v K ->
  ∃v' K',(∀rec1:LK,Am (λaA vs H1=>Sh.f3s H rec1 aA (ag vs 0) (ag vs 1) (ag vs 2) (ag vs 3) (ag vs 4) (ag vs 5) (ag vs 6) H1) n [.ptr H.length 0 0,.ptr (H.length+1) 0 0,.ptr (H.length+2) 0 0,.ptr (H.length+3) 0 0,.ptr q 0 0,.sl (enL cN xs) .no,.i6 (j:Int)] K =
    rec1 [.ptr H.length 0 0,.ptr (H.length+1) 0 0,.ptr (H.length+2) 0 0,.ptr (H.length+3) 0 0] K') /\
   DI H b bx N (Bo (er0,c0) λc=>DM b c []).1 (Bo (er0,c0) λc=>DM b c []).2 K'/\K'[H.length+3]? = some (.cel 0 (bkC l true k ((rows+1:Nat):Int) v')) /\
   RS cCl A8 5 H.length (base++(xs.drop j).map (λx=>⟨X+(x:Int),Y+(rows:Int),1⟩)) v' K':=by
 intro m
 induction m with
 | zero=>
  intro j n base v K hj hn hbl hD dC wB hR;obtain⟨n,rfl⟩:∃m,n=m+1:=⟨n-1,by omega⟩;have kU:j=xs.length:=by omega
  have hlen:=hD.len;have bV:H.length+3<K.length:=(UH.1 dC).1;have lq:=Et (sz:=3) wB rfl;have s1:=λK=>d_eol eT (show b.length<1000000000000 by omega) mA K;have st1:=hD.sto (Bo (er0,c0) λc=>DM b c []).2 (Cq (Bo (er0,c0) λc=>DM b c []).1);have g1:=hD.mv (Bo (er0,c0) λc=>DM b c []).1 (Bo (er0,c0) λc=>DM b c []).2;generalize Bo (er0,c0) (λc=>DM b c [])=M at *;have R1:=hR.put (c':=Cg b M.2 (Cq M.1)) hD.cur;have bk1:(K.set (H.length+2) (.cel 0 (Cg b M.2 (Cq M.1))))[H.length+3]? = some (.cel 0 (bkC l true k rows v)):=by rw[UI (by omega)];exact dC
  generalize K.set (H.length+2) (.cel 0 (Cg b M.2 (Cq M.1)))=K1 at *;have l6:Ad false 1 (.ptr (H.length+3) 0 6) K1=some (.i6 (rows:Int)):=by rw[BH bk1];rfl
  have l6o:Ad false 1 (.ptr (H.length+3) 0 6) K=some (.i6 (rows:Int)):=by rw[BH dC];rfl
  have st2:=EX (o:=6) (v:=.i6 ((rows+1:Nat):Int)) bk1 rfl (by simp[bkC]);have oF:H.length+3<K1.length:=(UH.1 bk1).1;refine⟨v,K1.set (H.length+3) (.cel 0 (bkC l true k ((rows+1:Nat):Int) v)),λrec1=>?_,g1.set3 (UK _) _,by rw[UT oF],?_⟩
  ·rw[Ca];unfold Sh.f3s;have hge:¬((j:Int)<(xs.length:Int)):=by omega
   unfold BE at s1 st1;simp only[GMw,UD,Ay,hge,decide_false,lq,s1,st1,AC,Ah,UJ,l6,l6o,BQ,and_self,As (show rows<9223372036854775807 by omega),st2]
   rfl
  ·rw[kU,XE,List.map_nil,Vl];exact R1.put bk1
 | succ m ih=>
  intro j n base v K hj hn hbl hD dC wB hR;obtain⟨n,rfl⟩:∃m,n=m+1:=⟨n-1,by omega⟩;have kU:j<xs.length:=by omega
  have hlen:=hD.len;have bV:H.length+3<K.length:=(UH.1 dC).1;have Yp:xs[j]<=1000000000000:=mI _ (UV kU);have l2:Ad true 2 (.ptr (H.length+3) 0 2) K=some (big X):=by
   rw[show Ad true 2 (.ptr (H.length+3) 0 2) K=some (.agg (((bkC l true k rows v).drop 2).take 2)) from by simp only[Ad,A1 dC,zXa,if_true];rw[if_pos (by simp[bkC])]];exact congrArg some (by show Ab.agg [Ab.bool k.p0,.sl k.e0 k.t0]=_;rw[h0];rfl)
  have l4:Ad true 2 (.ptr (H.length+3) 0 4) K=some (big Y):=by
   rw[show Ad true 2 (.ptr (H.length+3) 0 4) K=some (.agg (((bkC l true k rows v).drop 4).take 2)) from by simp only[Ad,A1 dC,zXa,if_true];rw[if_pos (by simp[bkC])]];exact congrArg some (by show Ab.agg [Ab.bool k.p1,.sl k.e1 k.t1]=_;rw[h1];rfl)
  have l6:Ad false 1 (.ptr (H.length+3) 0 6) K=some (.i6 (rows:Int)):=by rw[BH dC];rfl
  have l7:Ad false 1 (.ptr (H.length+3) 0 7) K=some v:=by rw[BH dC];rfl
  obtain⟨w,K1,r1,r2,r3⟩:=hR.snoc (bytes:=72) (by omega) ⟨X+(xs[j]:Int),Y+(rows:Int),1⟩ .ti (by omega) (by omega);have pW:w.isScal=true:=by obtain⟨tk,rfl⟩:=r2.sl;rfl
  have bk1:=r3.cel _ _ dC;have oF:H.length+3<K1.length:=(UH.1 bk1).1;have st1:=EX (o:=7) (v:=w) bk1 pW (by simp[bkC]);obtain⟨v',K',q1,q2,q3,q4⟩:=ih (j+1) n (base++[⟨X+(xs[j]:Int),Y+(rows:Int),1⟩]) w (K1.set (H.length+3) (.cel 0 (bkC l true k rows w))) (by omega) (by omega) (by simp;omega) ((hD.kp r3).set3 (UK _) _) (by rw[UT oF]) (by rw[UI (by omega)];exact r3.cel _ _ wB) (r2.put bk1);refine⟨v',K',λrec1=>?_,q2,q3,?_⟩
  ·rw[Ca];refine Eq.trans ?_ (q1 rec1);generalize Am (λaA vs H1=>Sh.f3s H rec1 aA (ag vs 0) (ag vs 1) (ag vs 2) (ag vs 3) (ag vs 4) (ag vs 5) (ag vs 6) H1) n=rec;unfold Sh.f3s;have hlt:(j:Int)<(xs.length:Int):=by omega
   have hidx:Aw 1 (.sl (enL cN xs) .no) (.i6 (j:Int))=some (.cptr (cN xs[j]) 0):=A4 kU;simp only[GMw,UD,Ay,hlt,decide_true,hidx,AF,zXh,BQ,Ah,UJ,OY (xs[j]:Int) _ (by omega) (by omega),OY (rows:Int) _ (by omega) (by omega),l2,l4,l6,l7,and_self,FJ _ _ _ (OS hX) (lb_natD (show xs[j]<=1152921504606846976 by omega)),FJ _ _ _ (OS hY) (lb_natD (show rows<=1152921504606846976 by omega)),build_plD,My,r1,st1,AC,As (show j<9223372036854775807 by omega)]
   rfl
  ·rw[Vh kU,Wl,List.append_cons];exact q4

end
section
variable {H K:Aa}{b:List UInt8}{bx N:Int}{er:Er}{c:Nat}{st:BSt}
theorem endB_1 (b:List UInt8)(s:(Er×Nat)×BSt):(Tl b s).1=Bo s.1 λc=>DM b c []:=by
 obtain⟨⟨er,c⟩,st'⟩:=s;cases er <;> rfl
theorem endB_2 {b:List UInt8}{s:(Er×Nat)×BSt}(h:(Tl b s).1.1=none):s.1.1=none/\(Tl b s).2=s.2:=by
 obtain⟨⟨er,c⟩,st'⟩:=s;cases er with
 | some e=>cases h
 | none=>exact⟨rfl,rfl⟩
def Known (H:Aa)(st:BSt)(l:List UInt8)(bl:Bool)(k:Bk)(r:Int)(v:Ab)(K:Aa):Prop:=l=st.law/\bl=st.block/\r=(st.rows:Int)/\BkOk st k/\RS cCl A8 5 H.length st.cells v K
theorem markB_cells (b:List UInt8)(a:Nat)(st:BSt):(G4 b a st).2.cells=st.cells:=by
 unfold G4;split
 ·rfl
 ·split
  ·rfl
  ·split
   ·unfold Q0;generalize B6 b (a+1) [82,32] [97]=M;obtain⟨er,c⟩:=M;cases er with
    | some e=>rfl
    | none=>
     dsimp only;generalize HR b c []=M;obtain⟨er,d⟩:=M;cases er <;> rfl
   ·split
    ·unfold JK;generalize B6 b (a+1) [80,32] [49,32,49]=M;obtain⟨er,c⟩:=M;cases er with
     | some e=>rfl
     | none=>
      dsimp only;generalize CO b c true [32,49]=M;obtain⟨er,d⟩:=M;cases er with
      | some e=>rfl
      | none=>
       dsimp only;generalize B6 b d [32] [49]=M;obtain⟨er,f⟩:=M;cases er with
       | some e=>rfl
       | none=>
        dsimp only;generalize CO b f true []=M;obtain⟨er,g⟩:=M;cases er <;> rfl
    ·rfl
theorem r16_turn {a:Nat}{k:Bk}{v:Ab}(h:DI H b bx N none a K)(dC:K[H.length+3]? = some (.cel 0 (bkC st.law st.block k st.rows v)))(hk:BkOk st k)(hR:RS cCl A8 5 H.length st.cells v K)(ha:a<b.length)(hb:b.length<100000000)
  (hX:st.x.natAbs<10^400)(hY:st.y.natAbs<10^400)(hr:st.rows<=1000000000)(hn:st.cells.length<=10000000000) :
  ∃l' b' k' r' v' K',(∀rec:LK,Sh.fv H rec (.ptr H.length 0 0) (.ptr (H.length+1) 0 0) (.ptr (H.length+2) 0 0) (.ptr (H.length+3) 0 0) K=rec [.ptr H.length 0 0,.ptr (H.length+1) 0 0,.ptr (H.length+2) 0 0,.ptr (H.length+3) 0 0] K') /\
   DI H b bx N (Lp b bx a st).1.1 (Lp b bx a st).1.2 K'/\K'[H.length+3]? = some (.cel 0 (bkC l' b' k' r' v'))/\((Lp b bx a st).1.1=none->Known H (Lp b bx a st).2 l' b' k' r' v' K'):=by
 have hle:a<=b.length:=by omega
 have hlen:=h.len;have bV:H.length+3<K.length:=(UH.1 dC).1;have aO:decide (b.length<=a)=false:=zXd (by omega);have hld:=h.ld;rw[Dd]at hld;have hl3:=h.le3;rw[Dd]at hl3;have h35:=λK=>R0 b a 0 35 K;rw[show ((35:UInt8).toNat:Int)=35 from rfl,sees_is ha,zXc (rfl:(0:Int)=0),zXn]at h35;have bL:=λK=>EF b a 0 K;rw[aO]at bL;obtain⟨tk,hv⟩:=hR.sl;have htk:∀t,tk=.own t->t<K.length:=λt ht=>by
  rcases hR with ⟨h1,h2⟩ | ⟨t',h1,h2,h3⟩
  ·rw[h2]at hv;injection hv with h4 h5;rw[ht]at h5;cases h5
  ·rw[h2]at hv;injection hv with h4 h5;rw[ht]at h5;injection h5 with h5;subst h5;exact (UH.1 h3).1
 subst hv;unfold Sh.fv;unfold Lp;rw[endB_1];have oL:=lineB_er b bx a st;have hlo:=Oi (bx:=bx) ha st;cases hs:Be b a [35]with
 | true=>
  rw[hs]at h35;have gC:G7 b bx a st=G4 b a st:=by unfold G7;rw[if_pos hs]
  rw[gC]at oL hlo ⊢;obtain⟨l',b',k',r',m1,m2⟩:=r16_mark ha hb k hk (enL cCl st.cells) tk;have m1:=m1 K htk;have l8:=Et (sz:=8) dC rfl;have cK:=@endB_2 b (G4 b a st);rw[endB_1]at cK;have aG:=hlo.le;have pD:=markB_cells b a st;generalize G4 b a st=M at *;obtain⟨⟨e1,c1⟩,st1⟩:=M;dsimp only at oL aG m1 m2 cK pD ⊢;have s3:=λK=>d_eol aG (show b.length<1000000000000 by omega) oL K;have st1':=h.sto c1 (Cq e1);have g1:=h.mv e1 c1;have R1:=hR.put (c':=Cg b c1 (Cq e1)) h.cur;have bk1:(K.set (H.length+2) (.cel 0 (Cg b c1 (Cq e1))))[H.length+3]? = some (.cel 0 (bkC st.law st.block k st.rows (.sl (enL cCl st.cells) tk))):=by rw[UI (by omega)];exact dC
  generalize K.set (H.length+2) (.cel 0 (Cg b c1 (Cq e1)))=K1 at *;have hk1:H.length+3<K1.length:=(UH.1 bk1).1;have st2:=Gc (sz:=8) (ws:=bkC l' b' k' r' (.sl (enL cCl st.cells) tk)) bk1 rfl rfl rfl;have g2:=g1.set3 (UK (H.length+3)) (.cel 0 (bkC l' b' k' r' (.sl (enL cCl st.cells) tk)));have R2:=R1.put (c':=bkC l' b' k' r' (.sl (enL cCl st.cells) tk)) bk1;have bk2:(K1.set (H.length+3) (.cel 0 (bkC l' b' k' r' (.sl (enL cCl st.cells) tk))))[H.length+3]? = some (.cel 0 (bkC l' b' k' r' (.sl (enL cCl st.cells) tk))):=by rw[UT hk1]
  generalize K1.set (H.length+3) (.cel 0 (bkC l' b' k' r' (.sl (enL cCl st.cells) tk)))=K2 at *;have ld2:=g2.ld;have st3:=g2.sto (Bo (e1,c1) λc=>DM b c []).2 (Cq (Bo (e1,c1) λc=>DM b c []).1);have g3:=g2.mv (Bo (e1,c1) λc=>DM b c []).1 (Bo (e1,c1) λc=>DM b c []).2;have bk3:(K2.set (H.length+2) (.cel 0 (Cg b (Bo (e1,c1) λc=>DM b c []).2 (Cq (Bo (e1,c1) λc=>DM b c []).1))))[H.length+3]? = some (.cel 0 (bkC l' b' k' r' (.sl (enL cCl st.cells) tk))):=by rw[UI (by omega)];exact bk2
  refine⟨l',b',k',r',.sl (enL cCl st.cells) tk,_,λrec=>?_,g3,bk3,λbJ=>?_⟩
  ·simp only[GMw,hl3,hld,bL,h35,l8,m1,st1',st2,AC,Bt,Bz,ld2,s3,st3,Ah,UJ,V0,beq_self_eq_true]
  ·obtain⟨q1,q2⟩:=cK bJ;rw[q2];obtain⟨w1,w2,w3,w4⟩:=m2 q1;refine⟨w1,w2,w3,w4,?_⟩;rw[pD];exact R2.put g2.cur
 | false=>
  rw[hs]at h35;have hbl:Ad false 1 (.ptr (H.length+3) 0 1) K=some (.bool st.block):=by rw[BH dC];rfl
  cases hB:st.block with
  | false=>
   rw[hB]at hbl;have gC:G7 b bx a st=((some (HQ b a []),a),st):=by unfold G7;rw[hs,hB];rfl
   rw[gC]at ⊢;have hst:=λK=>IA b a 0 K;have kF:Cq (some (HQ b a []))=NO b a:=GZ hle _;rw[<-kF]at hst;have st1:=h.sto a (Cq (some (HQ b a [])));have g1:=h.mv (some (HQ b a [])) a;refine⟨st.law,st.block,k,st.rows,_,_,λrec=>?_,g1,by rw[UI (by omega)];exact dC,λbJ=>by cases bJ⟩;simp only[GMw,hl3,hld,bL,h35,hbl,hst,st1,AC,Ah,UJ,V0,beq_self_eq_true]
  | true=>
   rw[hB]at hbl dC;have gC:G7 b bx a st=NQ b bx (b.length+1-a) a 0 st:=by unfold G7;rw[hs,hB];rfl
   obtain⟨x1,x2⟩:=rowB_X b bx (b.length+1-a) a 0 st [] st.cells (by simp) (by omega);obtain⟨⟨y1,y1'⟩,y2,y3,y4⟩:=rowX_le (b:=b) (bx:=bx) (rows:=st.rows) (b.length+1-a) a 0 [] hle (Ve _) (UK _) (λy hy=>by cases hy);have hrow:=r15_row (bx:=bx) (N:=N) hb hle st.rows hr;have cK:=@endB_2 b (G7 b bx a st);rw[endB_1]at cK;rw[gC]at oL cK ⊢;rw[x1]at oL cK x2 ⊢;generalize I9 b bx st.rows (b.length+1-a) a 0 []=M at *;obtain⟨⟨e0,c0⟩,xs⟩:=M;dsimp only at oL y1 y1' y2 y3 hrow x2 cK ⊢;have l6:Ad false 1 (.ptr (H.length+3) 0 6) K=some (.i6 (st.rows:Int)):=by rw[BH dC];rfl
   have llm:=Et (sz:=2) h.lim rfl;have ca:=cur_alloc K;have bx1:=cur_box K b c0 (Cq e0);obtain⟨v',K',q1,q2,q3,q4⟩:=row_cells (H:=H) (b:=b) (bx:=bx) (N:=N) (l:=st.law) (k:=k) (a:=a) (xs:=xs) (er0:=e0) (c0:=c0) (q:=K.length) (λy hy=>Vf (y1' y hy) (by omega)) hX hY (show st.rows<=1000000000000 by omega) (hk.fx hB) (hk.gy hB) oL y3 hb (by omega) (by omega)
    xs.length 0 AM st.cells (.sl (enL cCl st.cells) tk) (K++[.cel 0 (Cg b c0 (Cq e0))]) (by omega) (by rw[CQ];omega) (by omega) (h.push _) (A0 dC) Ap (hR.left _)
   refine⟨st.law,true,k,((st.rows+1:Nat):Int),v',K',λrec=>?_,q2,q3,λbJ=>?_⟩
   ·simp only[GMw,hl3,hld,bL,h35,hbl,l6,llm,hrow,ca,bx1,AC,Bt,Bz,Ah,UJ,V0,Vp,beq_self_eq_true];exact q1 rec
   ·obtain⟨p1,p2⟩:=cK bJ;rw[p2,x2 p1];exact⟨rfl,hB.symm,rfl,⟨hk.fx,hk.gy,hk.n0,hk.n1⟩,q4⟩

end
def finB (b:List UInt8)(N:Int)(A:(Er×Nat)×BSt):(List UInt8×List Nd)×Int×Int:=
 match A with
 | ((some e,c),_)=>(([],[]),(c:Int),e.1)
 | ((none,_),st)=>
  if decide ((Ie st.cells).2=0)&&decide (((Ie st.cells).1.length:Int)<=N)then ((st.law,(Ie st.cells).1),0,0)
  else (([],[]),(b.length:Int),4)
theorem finB_ok (b:List UInt8)(N:Int)(c:Nat)(st:BSt):finB b N ((none,c),st)=if (Ie st.cells).2=0/\((Ie st.cells).1.length:Int)<=N then ((st.law,(Ie st.cells).1),0,0)else (([],[]),(b.length:Int),4):=by
 unfold finB;by_cases h1:(Ie st.cells).2=0
 ·by_cases h2:((Ie st.cells).1.length:Int)<=N
  ·simp[h1,h2]
  ·simp[h1,h2]
 ·simp[h1]
theorem readB_eq (b:List UInt8)(bx N:Int):IZ b bx N=if JL bx N then finB b N (M9 b bx L8)else (([],[]),0,1):=rfl
section
variable {H:Aa}{b:List UInt8}{bx N:Int}{er:Er}{c:Nat}{st:BSt}{v:Ab}{K:Aa}
theorem r16_err {e:Int×List UInt8}(h:DI H b bx N (some e) c K)(he:e.1≠0)(rec:LK) :
  Sh.fv H rec (.ptr H.length 0 0) (.ptr (H.length+1) 0 0) (.ptr (H.length+2) 0 0) (.ptr (H.length+3) 0 0) K=some (.ret (F7 (([],[]),(c:Int),e.1)),H):=by
 have hf:decide (e.1=0)=false:=zXd he;have hl3:=h.le3;have hld:=h.ld;have b1:Az (some [(.str []),(.sl [] .ti)]) []=some (.agg [.str [],.sl [] .ti]):=rfl;have tL:=Et (sz:=2) h.lim rfl;have fine:=λK=>r15P_finishE b c he (p:=[.str [],.sl [] .ti]) (m:=[.i6 bx,.i6 N]) rfl rfl rfl rfl (.i6 0) K;have dD:=Gc (sz:=2) (ws:=[.str [],.sl [] .no]) h.res rfl rfl rfl;have hl:=h.len;have aH:(K.set (H.length+1) (.cel 0 [.str [],.sl [] .no]))[H.length+1]? = some (.cel 0 [.str [],.sl [] .no]):=by rw[UT (by omega)]
 have dS:=Et (sz:=2) aH rfl;have htk:(K.set (H.length+1) (.cel 0 [.str [],.sl [] .no])).take H.length=H:=Cm λi hi=>by rw[UI (by omega)];exact h.old i hi
 have hcv:BE b c (Cq (some e))=.agg [.str b,.i6 (c:Int),.i6 e.1]:=rfl;rw[Gi]at hl3;rw[hcv]at hld;unfold Sh.fv;simp only[GMw,HPw,Nat.reduceAdd,Nat.reduceLT,hl3,hf,hld,b1,tL,fine,dD,dS,Fa htk,F7,Hw]
 rfl
theorem r16_fin {k:Bk}(h:DI H b bx N none b.length K)(dC:K[H.length+3]? = some (.cel 0 (bkC st.law st.block k st.rows v)))(hR:RS cCl A8 5 H.length st.cells v K)(hn:st.cells.length<600000000)(hok:∀c∈st.cells,c.ok)(rec:LK) :
  Sh.fv H rec (.ptr H.length 0 0) (.ptr (H.length+1) 0 0) (.ptr (H.length+2) 0 0) (.ptr (H.length+3) 0 0) K=some (.ret (F7 (finB b N ((none,b.length),st))),H):=by
 obtain⟨tk,rfl⟩:=hR.sl;have hl3:=h.le3;have hld:=h.ld;rw[Dd]at hl3 hld;have bL:=λK=>EF b b.length 0 K;rw[zXc (UK _)]at bL;have lL:=λK=>q07_ofC st.cells tk K (by omega) hok;have hal:Ax (some [(.sl [] .ti)]) K=some (.ptr K.length 0 0,K++[.cel 0 [.sl [] .ti]]):=alloc_eq rfl;have hl:=h.len;have l7:Ad false 1 (.ptr (H.length+3) 0 7) K=some (.sl (enL cCl st.cells) tk):=by rw[BH dC];rfl
 have l0:∀G,Ad false 1 (.ptr (H.length+3) 0 0) (K++G)=some (.str st.law):=λG=>by rw[BH (A0 dC)];rfl
 unfold Sh.fv;rw[finB_ok];generalize Ie st.cells=O at lL;obtain⟨Q,e3⟩:=O;dsimp only at lL ⊢;have gG:Az (some [(.str []),(.sl [] .ti)]) [(0,1,.str st.law),(1,1,.agg [.sl (enL cNd Q) .no])]=some (.agg [.str st.law,.sl (enL cNd Q) .no]):=rfl;have qA:Ae 1 (.ptr K.length 0 0) (.agg [.sl (enL cNd Q) .no]) (K++[.cel 0 [.sl [] .ti]])=some (K++[.cel 0 [.sl (enL cNd Q) .no]]):=by
  rw[Gc (sz:=1) (ws:=[.sl (enL cNd Q) .no]) Ap rfl rfl rfl,Ba]
 have g:=h.push [Blk.cel 0 [.sl (enL cNd Q) .no]];have l4:(K++[Blk.cel 0 [.sl (enL cNd Q) .no]])[K.length]? = some (.cel 0 [.sl (enL cNd Q) .no]):=Ap;have ld4:=Et (sz:=1) l4 rfl;have ldc:=g.ld;have ldm:=Et (sz:=2) g.lim rfl;have hcv:BE b b.length (Cq none)=.agg [.str b,.i6 (b.length:Int),.i6 0]:=rfl;rw[hcv]at ldc;have fin:=λK=>r15P_finish b b.length st.law Q bx N e3 K;have htk:∀B,((K++[Blk.cel 0 [.sl (enL cNd Q) .no]]).set (H.length+1) B).take H.length=H:=λB=>Cm λi hi=>by rw[UI (by omega)];exact g.old i hi
 have aH:∀B,((K++[Blk.cel 0 [.sl (enL cNd Q) .no]]).set (H.length+1) B)[H.length+1]? = some B:=λB=>by rw[UT (by rw[UO];omega)]
 by_cases hq:e3=0/\(Q.length:Int)<=N
 ·rw[if_pos hq]at fin ⊢;have dD:=Gc (sz:=2) (ws:=[.str st.law,.sl (enL cNd Q) .no]) g.res rfl rfl rfl;have dS:=Et (sz:=2) (aH (.cel 0 [.str st.law,.sl (enL cNd Q) .no])) rfl;simp only[GMw,hl3,hld,bL,Vp,Ah,UJ,beq_self_eq_true,l7,lL,Bt,Bz,hal,R3,qA,AC,ldc,l0,ld4,gG,ldm,fin];simp only[GMw,HPw,Nat.reduceAdd,Nat.reduceLT,dD,dS,Fa (htk _),F7,Hw,if_true]
 ·rw[if_neg hq]at fin ⊢;have dD:=Gc (sz:=2) (ws:=[.str [],.sl [] .no]) g.res rfl rfl rfl;have dS:=Et (sz:=2) (aH (.cel 0 [.str [],.sl [] .no])) rfl;simp only[GMw,hl3,hld,bL,Vp,Ah,UJ,beq_self_eq_true,l7,lL,Bt,Bz,hal,R3,qA,AC,ldc,l0,ld4,gG,ldm,fin];simp only[GMw,HPw,Nat.reduceAdd,Nat.reduceLT,dD,dS,Fa (htk _),F7,Hw,UM,if_false]
  rfl
def restB (b:List UInt8)(bx:Int)(k:Nat)(er:Er)(c:Nat)(st:BSt):(Er×Nat)×BSt:=match er with
 | some e=>((some e,c),st)
 | none=>HU b bx k c st
theorem r16_loop (hb:b.length<100000000):∀(m n c:Nat) (er:Er) (l:List UInt8) (bl:Bool) (k:Bk) (r:Int) (st:BSt) (v:Ab) (K:Aa),c<=b.length->b.length-c<m->m<n->Ft er->DI H b bx N er c K->K[H.length+3]? = some (.cel 0 (bkC l bl k r v))->(er=none->Known H st l bl k r v K/\∃q,BOk q st/\q+2*(b.length-c)+1+b.length<=500000000) ->
  Am (λrec1 vs H1=>Sh.fv H rec1 (ag vs 0) (ag vs 1) (ag vs 2) (ag vs 3) H1) n [.ptr H.length 0 0,.ptr (H.length+1) 0 0,.ptr (H.length+2) 0 0,.ptr (H.length+3) 0 0] K=some (.ret (F7 (finB b N (restB b bx m er c st))),H):=by
 intro m
 induction m with
 | zero=>intro n c er l bl k r st v K _ h;omega
 | succ m ih=>
  intro n c er l bl k r st v K hc hk hn hE hD dC jS;obtain⟨n,rfl⟩:∃m,n=m+1:=⟨n-1,by omega⟩;rw[Ca];generalize hg:Am (λrec1 vs H1=>Sh.fv H rec1 (ag vs 0) (ag vs 1) (ag vs 2) (ag vs 3) H1) n=rec;cases er with
  | some e=>
   exact r16_err hD (U0 hE rfl) rec
  | none=>
   obtain⟨⟨rfl,rfl,rfl,lT,hR⟩,q,hbok,hq⟩:=jS rfl;have aG:=hbok.c;have mN:=hbok.r;by_cases he:c=b.length
   ·subst he;have:=r16_fin hD dC hR (by omega) hbok.ok rec;unfold restB HU;rw[if_pos rfl];exact this
   ·have hlt:c<b.length:=by omega
    obtain⟨l',b',k',r',v',K',t1,t2,t3,t4⟩:=r16_turn hD dC lT hR hlt hb hbok.x hbok.y (by omega) (by omega);have hlo:=oneB_ok (bx:=bx) hlt st;have aU:=Pg (bx:=bx) hlt st;have uY:=oneB_er b bx c st;refine (t1 rec).trans ?_;unfold restB HU;rw[if_neg he];generalize Lp b bx c st=M at t2 t4 hlo uY aU;obtain⟨⟨er',c'⟩,st'⟩:=M;obtain⟨k1,k2,k3⟩:=hlo;dsimp only at t2 t4 k1 k2 k3 uY aU ⊢;cases er' with
    | some e=>
     obtain⟨n,rfl⟩:∃m,n=m+1:=⟨n-1,by omega⟩;rw[<-hg,Ca];exact r16_err t2 (U0 uY rfl) _
    | none=>
     have jX:=aU rfl;have:=ih n c' none l' b' k' r' st' v' K' k1 (by omega) (by omega) .none t2 t3 (λ_=>⟨t4 rfl,_,k3 q (by omega) hbok,by omega⟩);rw[hg]at this;exact this
theorem bst0_okD:BOk 0 L8:=⟨by decide +kernel,by decide +kernel,UK _,UK _,λc hc=>by cases hc⟩
theorem q16_read (b:List UInt8)(bx N:Int)(H:Aa)(hb:b.length<100000000):Sh.f18 (.str b) (.agg [.i6 bx,.i6 N]) H=some (.ret (F7 (IZ b bx N)),H):=by
 have b1:Az (some [(.str []),(.sl [] .ti)]) []=some (.agg [.str [],.sl [] .ti]):=rfl;have b2:Az (some [(.str []),(.i6 0),(.i6 0)]) [(0,1,.str b)]=some (BE b 0 (Cq none)):=rfl;have b3:Az (some [(.str []),(.bool false),(.bool false),(.sl [] .ti),(.bool false),(.sl [] .ti),(.i6 0),(.sl [] .ti)]) [(0,1,(.str [66,51,47,83,50,51]))]=some (.agg [.str Nw,.bool false,.bool false,.sl [] .ti,.bool false,.sl [] .ti,.i6 0,.sl [] .ti]):=rfl;rw[readB_eq];unfold Sh.f18;simp only[GMw,HPw,Nat.reduceAdd,Nat.reduceLT,q11_fine];cases hf:JL bx N with
 | false=>
  simp only[GMw,HPw,Nat.reduceAdd,Nat.reduceLT,b1,UM,if_false,F7,Hw]
  rfl
 | true=>
  have s1:=λK=>d_lit (b:=b) (er:=none) (Ve b.length) (by omega) Ft.none Fg [] K;have hM1:Ft (Bo (none,0) λc=>B6 b c Fg []).1:=HE _ _ _ _;have hM1l:(Bo (none,0) λc=>B6 b c Fg []).2<=b.length:=EC (Ve _);have aD:M9 b bx L8=restB b bx (b.length+1) (Bo (Bo (none,0) λc=>B6 b c Fg []) λc=>DM b c []).1 (Bo (Bo (none,0) λc=>B6 b c Fg []) λc=>DM b c []).2 L8:=by
   unfold M9;rw[Ck];generalize B6 b 0 Fg []=M;obtain⟨er,c⟩:=M;cases er with
   | some e=>rfl
   | none=>
    dsimp only;rw[Ck];generalize DM b c []=M;obtain⟨er,d⟩:=M;cases er <;> rfl
  rw[aD];generalize (Bo (none,0) λc=>B6 b c Fg [])=M1 at *;obtain⟨e1,c1⟩:=M1;dsimp only at hM1 hM1l s1;have s2:=λK=>d_eol hM1l (show b.length<1000000000000 by omega) hM1 K;have hM2:Ft (Bo (e1,c1) λc=>DM b c []).1:=Ri hM1 λc=>endS_er _ _ _;have hM2l:(Bo (e1,c1) λc=>DM b c []).2<=b.length:=Rh hM1l λc hc=>(O4 hc _).2;generalize (Bo (e1,c1) λc=>DM b c [])=M2 at *;obtain⟨e2,c2⟩:=M2;dsimp only at hM2 hM2l s2 ⊢;unfold Fg at s1;simp only[GMw,HPw,Nat.reduceAdd,Nat.reduceLT,b2,b3,s1,s2,if_true];have hD:DI H b bx N e2 c2 (H++[.cel 0 [.i6 bx,.i6 N],.cel 0 [.str [],.sl [] .ti],.cel 0 (Cg b c2 (Cq e2)),.cel 0 (bkC L8.law L8.block ⟨false,[],.ti,false,[],.ti⟩ L8.rows (.sl [] .ti))]):=
   ⟨by simp,by simp,by simp,λi hi=>UL hi⟩
  have key:=r16_loop (H:=H) (bx:=bx) (N:=N) hb (b.length+1) AM c2 e2 L8.law L8.block ⟨false,[],.ti,false,[],.ti⟩ L8.rows L8 (.sl [] .ti) _ hM2l (by omega) (by rw[CQ];omega) hM2 hD (by simp) (λ_=>⟨⟨rfl,rfl,rfl,⟨(λh=>by cases h),(λh=>by cases h),(λt h=>by cases h),(λt h=>by cases h)⟩,.inl ⟨rfl,rfl⟩⟩,0,bst0_okD,by omega⟩);have Yb:Ae 3 (.ptr 0 0 0) (BE b c2 (Cq e2)) [Blk.cel 0 [.str [],.i6 0,.i6 0]]=some [.cel 0 (Cg b c2 (Cq e2))]:=J6 (Cc rfl) rfl rfl;simp only[GMw,HPw,Nat.reduceAdd,Nat.reduceLT,Yb];exact key

end
set_option maxRecDepth 100000
def s5A:List UInt8:=[35,76,105,102,101,32,49,46,48,53,10,42]
def s5B:List UInt8:=[35,76,105,102,101,32,49,46,48,53,13,10,35,68,120,10,35,82,32,97,98,99,10,35,80,32,45,49,32,50,10,46,42,10,10,42,10,35,80,32,53,32,53,10,42]
def s5C:List UInt8:=[35,76,105,102,101,32,49,46,48,53,10,35,80,32,45]
def s5D:List UInt8:=[35,76,105,102,101,32,50]
def s5E:List UInt8:=[35,76,105,102,101,32,49,46,48,53,10,35,80,32,48,32,48,10,46,46,42]
def s5T:List UInt8:=[35,76,105,102,101,32,49,46,48,53,10,35,82,32,97,98,99,10,35,80,32,45,49,32,50,10,46,42,10,46,10,42,10,46,46,46,46,46,46,42,10]
def l5B:List Nd:=(IZ s5B 1000 100000).1.2
theorem y5A:IZ s5A 1000 100000=(([],[]),11,2):=by decide +kernel
theorem y5B:IZ s5B 1000 100000=(([97,98,99],l5B),0,0):=by decide +kernel
theorem y5T:KA 2 [97,98,99] l5B 1000 100000=0:=by decide +kernel
theorem y5W:Hg (life5S [97,98,99] l5B) (F4 l5B)=s5T:=by decide +kernel
theorem y5C:Ur s5C=([49,32,49],true):=by decide +kernel
theorem y5C2:(IZ (s5C++[49,32,49]) 1000 100000).2.2=0:=by decide +kernel
theorem y5D:(Ur s5D).2=false:=by decide +kernel
theorem y5E:(IZ s5E 2 9).2.2=4:=by decide +kernel
theorem l5B_len:l5B.length<1000:=by decide +kernel
theorem q11B_wide (H:Aa):Sh.fx H=some (.ret (.agg [.i6 1000,.i6 100000]),H):=by
 have hb:Az (some [(.i6 0),(.i6 0)]) [(0,1,(.i6 1000)),(1,1,(.i6 100000))]=some (.agg [.i6 1000,.i6 100000]):=rfl;unfold Sh.fx;simp only[GMw,HPw,Nat.reduceAdd,Nat.reduceLT,hb]
theorem q16_alive (H:Aa):Sh.f14 H=some (.ret (.bool true),H):=by
 have hA:=λK=>G3 s5A 1000 100000 K (by decide);have hB:=λK=>G3 s5B 1000 100000 K (by decide);have hC:=λK=>NU s5C K (by decide);have hC2:=λK=>G3 (s5C++[49,32,49]) 1000 100000 K (by decide);have hD:=λK=>NU s5D K (by decide);have hE:=λK=>G3 s5E 2 9 K (by decide);have hl:=l5B_len;have hT:=λK=>q12_life5 [97,98,99] l5B 1000 100000 K (by decide) (by omega) (by decide) (by decide);have hx2:=y5C2;generalize IZ (s5C++[49,32,49]) 1000 100000=R at hC2 hx2;obtain⟨⟨r1,r2⟩,r3,r4⟩:=R;dsimp only at hx2;subst hx2;have bQ:=y5D;generalize Ur s5D=D at hD bQ;obtain⟨d1,d2⟩:=D;dsimp only at bQ;subst bQ;have vY:=y5E;generalize IZ s5E 2 9=E at hE vY;obtain⟨⟨e1,e2⟩,e3,e4⟩:=E;dsimp only at vY;subst vY;have gK:Af .none .add (.str s5C) (.str [49,32,49])=some (.str (s5C++[49,32,49])):=Dh (by decide);have Yf:Az (some [(.i6 0),(.i6 0)]) [(0,1,(.i6 2)),(1,1,(.i6 9))]=some (.agg [.i6 2,.i6 9]):=rfl;rw[y5A]at hA;rw[y5B]at hB;rw[y5C]at hC;rw[if_pos y5T,y5W]at hT;generalize l5B=LB at hB hT;have hlim:Ii 1000 100000=[.i6 1000,.i6 100000]:=rfl;rw[hlim]at hT;simp only[F7,Hw]at hA hB hC2 hT hE;dsimp only at hC hD;unfold Sh.f14;rw[show ([35,76,105,102,101,32,49,46,48,53,10,42]:List UInt8)=s5A from rfl,
  show ([35,76,105,102,101,32,49,46,48,53,13,10,35,68,120,10,35,82,32,97,98,99,10,35,80,32,45,49,32,50,10,46,42,10,10,42,10,35,80,32,53,32,53,10,42]:List UInt8)=s5B from rfl,
  show ([35,76,105,102,101,32,49,46,48,53,10,35,80,32,45]:List UInt8)=s5C from rfl,show ([35,76,105,102,101,32,50]:List UInt8)=s5D from rfl,
  show ([35,76,105,102,101,32,49,46,48,53,10,35,80,32,48,32,48,10,46,46,42]:List UInt8)=s5E from rfl,
  show ([35,76,105,102,101,32,49,46,48,53,10,35,82,32,97,98,99,10,35,80,32,45,49,32,50,10,46,42,10,46,10,42,10,46,46,46,46,46,46,42,10]:List UInt8)=s5T from rfl]
 simp only[Sl.gliderref11_Wide_eq,Sl.life5_Read_eq,Sl.gliderref12_Life5_eq,Sl.life5_Hint_eq,GMw,HPw,Nat.reduceAdd,Nat.reduceLT,q11B_wide,hA,hB,hC,gK,hC2,hD,hT,Yf,hE,Kd,beq_self_eq_true]
theorem readB_len (b:List UInt8)(bx N:Int):(IZ b bx N).1.2.length<=100000:=by
 unfold IZ;split
 ·rename_i hf;unfold JL at hf;simp only[UU,zXe]at hf;split
  ·exact Ve _
  ·split
   ·rename_i hq;simp only[UU,zXe]at hq;dsimp only;omega
   ·exact Ve _
 ·exact Ve _
theorem SN {b:List UInt8}(bx N:Int)(H:Aa):Sh.f8d (.str b) (.agg [.i6 bx,.i6 N]) H=some (.ret (.bool true),H):=by
 unfold Sh.f8d;simp only[Sl.gliderlaw16_alive_eq,Sl.life5_Read_eq,Sl.gliderref16_Read_eq,Sl.gliderref11_Same_eq,GMw,HPw,Nat.reduceAdd,Nat.reduceLT,q16_alive];by_cases hb:b.length>500
 ·have hd:decide ((b.length:Int)>500)=true:=zXc (by omega);simp only[GMw,HPw,Nat.reduceAdd,Nat.reduceLT,hd]
 ·have hd:decide ((b.length:Int)>500)=false:=zXd (by omega);have h1:=λK=>G3 b bx N K (by omega);have h2:=λK=>q16_read b bx N K (by omega);have hl:=readB_len b bx N;generalize IZ b bx N=R at h1 h2 hl;obtain⟨⟨r,L⟩,i,e⟩:=R;have hs:=λK=>q11_same r r L L K (by dsimp only at hl;omega);simp only[F7,Hw]at h1 h2 hs;simp only[GMw,HPw,Nat.reduceAdd,Nat.reduceLT,hd,h1,h2,hs]
end Go.Gm
