/- Texts of this proof, joined. -/
import Derived.Test.YtagddbecnkbcdaaGreatJ2
import Derived.Test.YtagddbecnkbcdaaGreatJ3
import Derived.Test.YtagddbecnkbcdaaGreatJ4
set_option linter.all false
namespace Go.Gm
def ltC (a b:Cl):Bool:=decide (JY a b<0)
theorem Ln (a b:Int):(a<b/\FT a b<0)\/(a=b/\FT a b=0)\/(b<a/\0<FT a b):=by unfold FT;rcases Int.lt_trichotomy a b with h | h | h;exact .inl ⟨h,by rw[if_pos h];decide⟩;exact .inr (.inl ⟨h,by rw[if_neg (by omega),if_pos h]⟩);exact .inr (.inr ⟨h,by rw[if_neg (by omega),if_neg (by omega)];decide⟩)
theorem NF {a b:Cl}:ltC a b=true↔a.y<b.y\/(a.y=b.y/\a.x<b.x):=by
 unfold ltC JY;rw[zXe];rcases Ln a.y b.y with ⟨h1,h2⟩ | ⟨h1,h2⟩ | ⟨h1,h2⟩;rw[if_neg (by omega)];omega;rw[if_pos h2];rcases Ln a.x b.x with ⟨h3,h4⟩ | ⟨h3,h4⟩ | ⟨h3,h4⟩ <;> omega
 rw[if_neg (by omega)];omega
theorem Vct {a b:Cl}:ltC a b=false↔¬(a.y<b.y\/(a.y=b.y/\a.x<b.x)):=by rw[<-NF,Bool.not_eq_true]
theorem JT:SW ltC:=⟨λa b h=>by rw[NF]at h;rw[Vct];omega,λa b c h k=>by rw[Vct]at h k⊢;omega⟩
theorem Ij {a b:Cl}:BI ltC a b=true↔a.x=b.x/\a.y=b.y:=by rw[Gq,Vct,Vct];omega
theorem VJ {a b:Cl}:decide (JY a b=0)=BI ltC a b:=by
 rw[WP,Ij,zXe];unfold JY;rcases Ln a.y b.y with ⟨h1,h2⟩ | ⟨h1,h2⟩ | ⟨h1,h2⟩;rw[if_neg (by omega)];omega;rw[if_pos h2];rcases Ln a.x b.x with ⟨h3,h4⟩ | ⟨h3,h4⟩ | ⟨h3,h4⟩ <;> omega
 rw[if_neg (by omega)];omega
def R0 (l:List Cl):Prop:=l.Pairwise λa b=>ltC a b=true
theorem Vkb {p:Cl->Bool}:∀ {l:List Cl} {a:Cl},a∈l.takeWhile p->p a=true
 |[],a,h=>by cases h
 |c::l,a,h=>by
  rw[Yg]at h;split at h
  rename_i hc;rcases Xs.1 h with e | e;rw[e];exact hc;exact Vkb e;cases h
theorem Vao {out:List Cl}(c:Cl)(h:R0 out):∃T D R,out=T++(D++R)/\Cq out c=T++(c::R)/\(∀a∈T,ltC a c=true)/\(∀a∈R,ltC c a=true)/\∀a∈D,BI ltC a c=true:=by
 obtain⟨T,hT⟩:∃T,T=out.takeWhile λd=>decide (JY d c<0):=⟨_,rfl⟩;obtain⟨D,hD⟩:∃D,D=out.dropWhile λd=>decide (JY d c<0):=⟨_,rfl⟩;have hTD:out=T++D:=by rw[hT,hD,Z4]
 have hp:Fj c out=T.length:=by unfold Fj;rw[hT]
 have h1:out.take (Fj c out)=T:=by rw[hp,hTD,YH]
 have h2:out.drop (Fj c out)=D:=by rw[hp,hTD,YI]
 have hlt:∀a∈T,ltC a c=true:=λa ha=>by rw[hT]at ha;exact Vkb (p:=λd=>decide (JY d c<0)) ha
 have hst:=h;unfold R0 at hst;rw[hTD]at hst;have lG:=(XF.1 hst).2.1;have hg:out[Fj c out]? = D.head? := by rw[<-List.head?_drop,h2]
 unfold Cq Ko M4;rw[h1,h2,hg];cases hDc:D with
 |nil=>refine⟨T,[],[],by rw[hTD,hDc];simp,by simp,hlt,λa (ha:a∈[])=>(by cases ha),λa (ha:a∈[])=>(by cases ha)⟩
 |cons d D'=>
  rw[hDc]at lG;rw[Yz]at lG;have hd:ltC d c=false:=by have:=List.head?_dropWhile_not (λd=>decide (JY d c<0)) out;rw[<-hD,hDc]at this;exact this
  have wM:decide (JY d c=0)=BI ltC d c:=VJ;simp only[List.head?_cons,wM];by_cases he:BI ltC d c=true;rw[if_pos he];refine⟨T,[d],D',by rw[hTD,hDc];simp,by simp,hlt,λa ha=>?_,λa ha=>by rw[WR]at ha;rw[ha];exact he⟩;have:=lG.1 a ha;rw[Ij]at he;rw[NF]at this⊢;omega;rw[if_neg he];refine⟨T,[],d::D',by rw[hTD,hDc];simp,by simp,hlt,λa ha=>?_,λa (ha:a∈[])=>(by cases ha)⟩;have wP:ltC c d=true:=(by cases e:ltC c d with|true=>rfl|false=>exact absurd (Gq.2 ⟨hd,e⟩) he);rcases Xs.1 ha with e | e;rw[e];exact wP;have:=lG.1 a e;rw[NF]at this wP⊢;omega
theorem Val {out:List Cl}(c:Cl)(h:R0 out):R0 (Cq out c)/\∀z,(if BI ltC z c=true then ((Cq out c).filter (BI ltC z)).head? = some c else (Cq out c).filter (BI ltC z)=out.filter (BI ltC z)):=by
 obtain⟨T,D,R,e1,e2,hT,hR,hD⟩:=Vao c h;have h':=h;unfold R0 at h'⊢;rw[e1]at h';rw[XF]at h';obtain⟨p1,p2,p3⟩:=h';rw[XF]at p2;rw[e2];refine⟨XF.2 ⟨p1,Yz.2 ⟨hR,p2.2.1⟩,λa ha b hb=>?_⟩,λz=>?_⟩;rcases Xs.1 hb with e | e;rw[e];exact hT a ha;exact p3 a ha b (by simp[e])
 ·by_cases hz:BI ltC z c=true;rw[if_pos hz,Xq];have:T.filter (BI ltC z)=[]:=Ii λa ha=>(by cases e:BI ltC z a with|false=>rfl|true=>have:=hT a ha;rw[Ij]at e hz;rw[NF]at this;omega);rw[this,List.nil_append,Xy,if_pos hz];rfl
  rw[if_neg hz,e1,Xq,Xq,Xq,Xy,if_neg hz];have:D.filter (BI ltC z)=[]:=Ii λa ha=>(by cases e:BI ltC z a with|false=>rfl|true=>have:=hD a ha;rw[Ij]at e this;exact absurd (Ij.2 (by omega)) hz);rw[this,List.nil_append]
theorem SS {l:List Cl}(h:R0 l)(z:Cl):z∈l↔(l.filter (BI ltC z)).head? = some z:=by
 constructor
 ·intro hz;obtain⟨A,B,rfl⟩:=List.append_of_mem hz;unfold R0 at h;rw[XF]at h;have:A.filter (BI ltC z)=[]:=Ii λa ha=>by cases e:BI ltC z a with|false=>rfl|true=>have:=h.2.2 a ha z (by simp);rw[Ij]at e;rw[NF]at this;omega
  rw[Xq,this,List.nil_append,Xy,if_pos (MS JT z)];rfl
 intro hz;exact(Xz.1 (List.mem_of_mem_head? hz)).1
theorem JI:∀(l out:List Cl),R0 out->R0 (l.foldl Cq out)/\∀z,z∈l.foldl Cq out↔((l.reverse++out).filter (BI ltC z)).head? = some z
 |[],out,h=>⟨h,λz=>SS h z⟩
 |c::l,out,h=>by
  obtain⟨s1,s2⟩:=Val c h;obtain⟨i1,i2⟩:=JI l (Cq out c) s1;refine⟨i1,λz=>?_⟩;rw[List.foldl_cons,i2 z,YX,WD,Xq,Xq];have hz:=s2 z;have key:((Cq out c).filter (BI ltC z)).head? = (([c]++out).filter (BI ltC z)).head? := by
   by_cases hc:BI ltC z c=true;rw[if_pos hc]at hz;rw[hz,List.singleton_append,Xy,if_pos hc];rfl
   rw[if_neg hc]at hz;rw[hz,List.singleton_append,Xy,if_neg hc]
  rw[List.head?_append,List.head?_append,key]
theorem Vmg {l S:List Cl}(h:EI ltC S)(hst:FL ltC l.reverse S):cpL ltC S=Dx l:=by obtain⟨c1,c2⟩:=Vog JT h;obtain⟨f1,f2⟩:=JI l [] List.Pairwise.nil;refine O6 JT _ _ c1 f1 λz=>?_;rw[c2 z,<-hst z];show _↔z∈l.foldl Cq [];rw[f2 z,WU]
section
variable {p g i j n:Nat}{l l':List Cl}{H:Aa}
def Ds (H:Aa)(p g:Nat)(l:List Cl):Prop:=H[p]? = some (.buf g (flat cCl l) AI 5)
def BR (H:Aa)(p g:Nat)(l:List Cl):Aa:=H.set p (.buf g (flat cCl l) AI 5)
abbrev dV (p g n:Nat):Ab:=.ms p g 0 n n 5 false
theorem VeM (h:Ds H p g l):AC H p g=some (flat cCl l):=by unfold Ds at h;simp[AC,h]
theorem CH (h:Ds H p g l)(hi:i<l.length):Ad true 5 (.ptr p g (i*5)) H=some (.agg (cCl l[i])):=by simp only[Ad,VeM h,zXa,if_true,Lg hi,S7 hi]
theorem VeL (h:Ds H p g l)(hi:i<l.length)(a:Cl):Ai 5 (.ptr p g (i*5)) (.agg (cCl a)) H=some (BR H p g (l.set i a)):=by
 have hs:Ga H p g (flat cCl (l.set i a))=BR H p g (l.set i a):=by have h':=h;unfold Ds at h';unfold Ga BR;rw[h']
 simp only[Ai,VeM h,zXa,NY,show(cCl a).length=5 from rfl,Lg hi,and_self,if_true,TV hi,hs]
theorem Dw (h:Ds H p g l):Ds (BR H p g l') p g l':=by have:p<H.length:=(W5.1 h).1;unfold Ds BR;rw[WJ this]
theorem BD:BR (BR H p g l) p g l'=BR H p g l':=by unfold BR;rw[Zg]
theorem CS (h:Ds H p g l):BR H p g l=H:=by
 unfold Ds at h;unfold BR;apply Ye;intro i;rw[Z0];split;rename_i e;subst e;rw[h];rw[if_pos (W5.1 h).1]
 ·rfl
theorem Cc (h:i<n):Av 5 (dV p g n) (.i6 (i:Int))=some (.ptr p g (i*5)):=by rw[Db h,W9]
theorem VjK (hi:i<l.length)(hj:j<l.length):swp l i j=(l.set i l[j]).set j l[i]:=by unfold swp;rw[W4 hi,W4 hj]
theorem Vew {c:Cl}(h:c∈swp l i j):c∈l:=by
 unfold swp at h;split at h
 rename_i a b ha hb;rcases YT h with h | h;rcases YT h with h | h;exact h;rw[h];exact Xa hb;rw[h];exact Xa ha;exact h
theorem Td (h:Ds H p g l)(hi:i<l.length)(hj:j<l.length):Ai 5 (.ptr p g (i*5)) (.agg (cCl l[j])) H=some (BR H p g (l.set i l[j]))/\Ai 5 (.ptr p g (j*5)) (.agg (cCl l[i])) (BR H p g (l.set i l[j]))=some (BR H p g (swp l i j)):=by refine⟨VeL h hi _,?_⟩;rw[VeL (Dw h) (by rw[zYa];exact hj),BD,VjK hi hj]

end
def UB (orc:Orc)(f:Ab)(l:List Cl):Prop:=∀c∈l,∀d∈l,∀H,DV orc f [.agg (cCl c),.agg (cCl d)] H=some (.ret (.i6 (JY c d)),H)
theorem Vc7 (a:Nat){c:Cl}:∀(j:Nat)(l:List Cl),c∈Lb ltC a j l->c∈l
 |0,l,h=>h
 |j+1,l,h=>by
  unfold Lb at h;split at h
  exact Vew (Vc7 a j _ h);exact h
theorem Vc4 (a:Nat){c:Cl}:∀(k:Nat)(l:List Cl),c∈Sb ltC a k l->c∈l
 |0,l,h=>h
 |k+1,l,h=>Vc4 a k l (Vc7 a _ _ h)
theorem Lk (c d:Cl):decide (JY c d<0)=ltC c d:=rfl
section
variable {p g a b:Nat}{f:Ab}
theorem VnV {l0:List Cl}{i:Nat}(hf:UB AE f l0)(B:Aa)(rec1:LK){l:List Cl}{H:Aa}(h:Ds H p g l)(hm:∀c∈l,c∈l0)(hi:i<l.length)(hl:l.length<1000000000):Al (λaA vs H1=>Ucj B rec1 aA (ag vs 0) (ag vs 1) (ag vs 2) (ag vs 3) (ag vs 4) (ag vs 5) H1) AU [dV p g l.length,.i6 (a:Int),.i6 (b:Int),f,.i6 (i:Int),.i6 (i:Int)] H =
   rec1 [dV p g l.length,.i6 (a:Int),.i6 (b:Int),f,.i6 ((i+1:Nat):Int)] (BR H p g (Lb ltC a i l)):=by
 have key:=Bv (G:=λaA vs H1=>Ucj B rec1 aA (ag vs 0) (ag vs 1) (ag vs 2) (ag vs 3) (ag vs 4) (ag vs 5) H1) (σ:=Nat×List Cl) (λs=>s.1<l.length/\s.2.length=l.length/\∀c∈s.2,c∈l0)
  (λs=>[dV p g l.length,.i6 (a:Int),.i6 (b:Int),f,.i6 (i:Int),.i6 (s.1:Int)]) (λs=>BR H p g s.2) (λs=>s.1)
  (λs=>rec1 [dV p g l.length,.i6 (a:Int),.i6 (b:Int),f,.i6 ((i+1:Nat):Int)] (BR H p g (Lb ltC a s.1 s.2))) (λs aA hs hrec=>?_) (i,l) ⟨hi,rfl,hm⟩ (by dsimp only;omega)
 rw[CS h]at key;exact key
 ·obtain⟨j,L⟩:=s;obtain⟨h1,h2,h3⟩:=hs;dsimp only at h1 h2 h3 hrec⊢;have hr:Ds (BR H p g L) p g L:=Dw h;have cJ:=Au (show i<9223372036854775807 by omega);unfold Ucj;by_cases yH:a<j
  ·obtain⟨k,rfl⟩:∃k,j=k+1:=⟨j-1,by omega⟩;have hg:decide (((k+1:Nat):Int)>(a:Int))=true:=zXc (by omega);have hw:IntKind.i64.wrap (((k+1:Nat):Int)-1)=(k:Int):=(by rw[Am]<;>omega);have hk1:k+1<L.length:=(by omega);have hk:k<L.length:=(by omega);have c1:=hf L[k+1] (h3 _ (WI hk1)) L[k] (h3 _ (WI hk));obtain⟨s1,s2⟩:=Td hr hk1 hk;rw[BD]at s1 s2;rw[BD]at s2;have hlt:Ji ltC L (k+1) k=ltC L[k+1] L[k]:=S1 hk1 hk;simp only[Ao,Aj,Bf,Bj,B6,BQ,DI,GMw,hg,Cc h1,Cc (show k<l.length by omega),CH hr hk1,CH hr hk,B3,c1,BF,hw,Lk];cases hc:ltC L[k+1] L[k]with
   |true=>
    have eK:Lb ltC a (k+1) L=Lb ltC a k (swp L (k+1) k):=by
     conv=>lhs;unfold Lb
     rw[hlt,hc,if_pos ⟨yH,rfl⟩]
    simp only[GMw,CH hr hk1,CH hr hk,B3,Cc h1,Cc (show k<l.length by omega),s1,s2,BD,hw];have tH:=hrec (k,swp L (k+1) k) ⟨by omega,by rw[N5];exact h2,λc hc=>h3 c (Vew hc)⟩ (Z5 _);dsimp only at tH;rw[tH,eK]
   |false=>have eK:Lb ltC a (k+1) L=L:=(by unfold Lb;rw[hlt,hc,if_neg (λh=>by cases h.2)]);simp only[GMw,cJ];rw[eK]
  have hg:decide ((j:Int)>(a:Int))=false:=zXd (by omega);have eK:Lb ltC a j L=L:=(by cases j with|zero=>rfl|succ k=>unfold Lb;rw[if_neg (λh=>yH h.1)]);simp only[Ao,Aj,Bf,Bj,B6,BQ,DI,GMw,hg,cJ];rw[eK]
theorem ViL {l0:List Cl}(hf:UB AE f l0){l:List Cl}{H:Aa}(h:Ds H p g l)(hm:∀c∈l,c∈l0)(hab:a<=b)(hb:b<=l.length)(hl:l.length<1000000000):UeZ (dV p g l.length) (.i6 (a:Int)) (.i6 (b:Int)) f H=some (.ret (.tup []),BR H p g (Sb ltC a (b-a-1) l)):=by
 have zM:=Au (show a<9223372036854775807 by omega);unfold UeZ;simp only[GMw,zM];have key:=Bv (G:=λrec1 vs H1=>Uck H rec1 (ag vs 0) (ag vs 1) (ag vs 2) (ag vs 3) (ag vs 4) H1) (σ:=Nat) (λk=>k<=b-a-1)
  (λk=>[dV p g l.length,.i6 (a:Int),.i6 (b:Int),f,.i6 ((a+1+k:Nat):Int)]) (λk=>BR H p g (Sb ltC a k l)) (λk=>b-a-1-k)
  (λ_=>some (.ret (.tup []),BR H p g (Sb ltC a (b-a-1) l))) (λk rec hk hrec=>?_) 0 (WZ _) (by omega)
 rw[show Sb ltC a 0 l=l from rfl,CS h]at key;exact key;unfold Uck;have hr:Ds (BR H p g (Sb ltC a k l)) p g (Sb ltC a k l):=Dw h;have bG:=Vc5 (lt:=ltC) a k l;by_cases hlt:a+1+k<b;have hd:decide (((a+1+k:Nat):Int)<(b:Int))=true:=zXc (by omega);have h2:=VnV (a:=a) (b:=b) (i:=a+1+k) hf H rec hr (λc hc=>hm c (Vc4 a k l hc)) (by omega) (by omega);rw[bG,BD]at h2;simp only[Ao,Aj,Bf,Bj,B6,BQ,GMw,hd];rw[h2];exact hrec (k+1) (by omega) (by omega);have hd:decide (((a+1+k:Nat):Int)<(b:Int))=false:=zXd (by omega);have e:k=b-a-1:=(by omega);simp only[Ao,Aj,Bf,Bj,B6,BQ,GMw,hd];rw[<-e]
theorem Vds {l:List Cl}{n:Nat}{H:Aa}(h:Ds H p g l)(ha:a+n<=l.length)(hb:b+n<=l.length)(hl:l.length<1000000000):Ua2 (dV p g l.length) (.i6 (a:Int)) (.i6 (b:Int)) (.i6 (n:Int)) f H=some (.ret (.tup []),BR H p g (swR a b n l)):=by
 unfold Ua2;have key:=Cx (G:=λrec1 vs H1=>Ucl H rec1 (ag vs 0) (ag vs 1) (ag vs 2) (ag vs 3) (ag vs 4) H1) n
  (λk=>[dV p g l.length,.i6 (a:Int),.i6 (b:Int),.i6 (n:Int),.i6 (k:Int)]) (λk=>BR H p g (swR a b k l)) (some (.ret (.tup []),BR H p g (swR a b n l))) (by omega) (λrec k hk=>?_) (λrec=>?_)
 rw[show swR a b 0 l=l from rfl,CS h]at key;exact key
 ·unfold Ucl;have hr:Ds (BR H p g (swR a b k l)) p g (swR a b k l):=Dw h;have bG:=Ss a b k l;have hd:decide ((k:Int)<(n:Int))=true:=zXc (by omega);have gB:=Au (show k<9223372036854775807 by omega);have cD:IntKind.i64.wrap ((a:Int)+(k:Int))=((a+k:Nat):Int):=by rw[Am]<;>omega
  have bZ:IntKind.i64.wrap ((b:Int)+(k:Int))=((b+k:Nat):Int):=by rw[Am]<;>omega
  have i1:a+k<(swR a b k l).length:=by omega
  have i2:b+k<(swR a b k l).length:=by omega
  obtain⟨s1,s2⟩:=Td hr i1 i2;rw[BD]at s1 s2;rw[BD]at s2;simp only[Ao,Aj,Bf,Bj,B6,BQ,GMw,hd,cD,bZ,Cc (show a+k<l.length by omega),Cc (show b+k<l.length by omega),CH hr i1,CH hr i2,B3,s1,s2,BF,AM,gB]
  rfl
 unfold Ucl;have hd:decide ((n:Int)<(n:Int))=false:=zXd (by omega);simp only[Ao,Aj,Bf,Bj,B6,BQ,GMw,hd]
theorem VeN {A B U V:List Cl}{m:Nat}{H:Aa}(h:Ds H p g (A++(U++(V++B))))(ha:a=A.length)(hm:m=a+U.length)(hb:b=m+V.length)(hU:0<U.length)(hV:0<V.length)(hl:(A++(U++(V++B))).length<1000000000):UaZ (dV p g (A++(U++(V++B))).length) (.i6 (a:Int)) (.i6 (m:Int)) (.i6 (b:Int)) f H=some (.ret (.tup []),BR H p g (A++((V++U)++B))):=by
 obtain⟨l,hL⟩:∃l,l=A++(U++(V++B)):=⟨_,rfl⟩;have hst:OR A B (V++U) m U.length V.length l:=by rw[hL,hm,ha];exact OR.start hU hV
 rw[<-hL]at h hl⊢;have hlen:=hst.len;have cD:IntKind.i64.wrap ((m:Int)-(a:Int))=(U.length:Int):=by rw[Am]<;>omega
 have bZ:IntKind.i64.wrap ((b:Int)-(m:Int))=(V.length:Int):=by rw[Am]<;>omega
 unfold UaZ;simp only[GMw,cD,bZ];have key:=Bv (G:=λrec1 vs H1=>UdW H rec1 (ag vs 0) (ag vs 1) (ag vs 2) (ag vs 3) (ag vs 4) H1) (σ:=(Nat×Nat)×List Cl) (λs=>OR A B (V++U) m s.1.1 s.1.2 s.2/\s.2.length=l.length)
  (λs=>[dV p g l.length,.i6 (m:Int),f,.i6 (s.1.1:Int),.i6 (s.1.2:Int)]) (λs=>BR H p g s.2) (λs=>s.1.1+s.1.2)
  (λ_=>some (.ret (.tup []),BR H p g (A++((V++U)++B)))) (λs rec hs hrec=>?_) ((U.length,V.length),l) ⟨hst,rfl⟩ (by dsimp only;omega)
 rw[CS h]at key;exact key
 ·obtain⟨⟨i,j⟩,L⟩:=s;obtain⟨h1,h2⟩:=hs;dsimp only at h1 h2 hrec⊢;have hr:Ds (BR H p g L) p g L:=Dw h;obtain⟨q1,q2⟩:=h1.len;obtain⟨p1,p2⟩:=h1.pos;have tF:=λ(x y n:Nat) (h3:x+n<=L.length) (h4:y+n<=L.length)=>Vds (f:=f) (a:=x) (b:=y) (n:=n) hr h3 h4 (by omega);rw[h2]at tF;have dA:IntKind.i64.wrap ((m:Int)-(i:Int))=((m-i:Nat):Int):=by rw[Am]<;>omega
  unfold UdW;by_cases hij:i=j;subst hij;have hd:((i:Int) != (i:Int))=false:=(by simp);simp only[Ao,Aj,Bf,Bj,B6,BQ,GMw,hd,dA,tF (m-i) m i (by omega) (by omega),BD];rw[h1.eq];have hd:((i:Int) != (j:Int))=true:=(by simp;omega);by_cases hgt:j<i;have cF:decide ((i:Int)>(j:Int))=true:=zXc (by omega);have cJ:IntKind.i64.wrap ((i:Int)-(j:Int))=((i-j:Nat):Int):=(by rw[Am]<;>omega);simp only[Ao,Aj,Bf,Bj,B6,BQ,GMw,hd,cF,dA,cJ,tF (m-i) m j (by omega) (by omega),BD];exact hrec ((i-j,j),swR (m-i) m j L) ⟨h1.hi hgt,by rw[Ss];exact h2⟩ (by dsimp only;omega);have cF:decide ((i:Int)>(j:Int))=false:=zXd (by omega);have cJ:IntKind.i64.wrap ((j:Int)-(i:Int))=((j-i:Nat):Int):=(by rw[Am]<;>omega);have tE:IntKind.i64.wrap ((m:Int)+(j:Int))=((m+j:Nat):Int):=(by rw[Am]<;>omega);have gB:IntKind.i64.wrap (((m+j:Nat):Int)-(i:Int))=((m+j-i:Nat):Int):=(by rw[Am]<;>omega);simp only[Ao,Aj,Bf,Bj,B6,BQ,GMw,hd,cF,dA,cJ,tE,gB,tF (m-i) (m+j-i) i (by omega) (by omega),BD];exact hrec ((i,j-i),swR (m-i) (m+j-i) i L) ⟨h1.lo (by omega),by rw[Ss];exact h2⟩ (by dsimp only;omega)

end
def VpO (v:Ab)(H:Aa)(l:zAb):Prop:=A7 v=some (.i6 (l.length:Int))/\∀(i:Nat)(h:i<l.length),∃p,Av 1 v (.i6 (i:Int))=some p/\∀G,Ad false 1 p (H++G)=some (.int .u32 (l[i]:Int))
theorem Vnt {l:zAb}{H:Aa}{id:Nat}(hg:H[id]? = some (.c0 (flat cU l))):VpO (.ms id 0 0 l.length l.length 1 true) H l:=by refine⟨rfl,λi h=>?_⟩;have hidx:=Db (sz:=1) (id:=id) (n:=l.length) (K:=.i64) (g:=0) (off:=0) (cap:=l.length) (ex:=true) (i:=i) h;simp only[W9,WK]at hidx;exact⟨_,hidx,λG=>B8 (ID (f:=cU) (Ax hg) h)⟩
theorem Vfm {v:Ab}{H:Aa}{l:zAb}(hv:VpO v H l)(hl:l.length<=2199023255552)(hx:Lim l):Uda v H=some (.ret (.sl (enL cB (DG (AY l))) .no),H):=by
 unfold Uda;refine Cx l.length (λi=>[v,E4 cB H (AY (l.take i)),.i6 (i:Int)]) (λi=>Ep cB Cf 1 H (AY (l.take i))) _ (by omega) (λrec i hi=>?_) (λrec=>?_)
 ·have aE:(i:Int)<(l.length:Int):=by omega
  have aH:l[i]<4294967296:=hx _ (WI hi);have htk:AY (l.take (i+1))=AY (l.take i)++DH 32 l[i]:=by rw[WF hi,AY,List.flatMap_append];simp[AY]
  have hlen:(AY (l.take i)).length<=32*2199023255552:=by rw[C6];simp;omega
  obtain⟨p,qS,hp2⟩:=hv.2 i hi;obtain⟨G,hG⟩:=HW (f:=cB) (ty:=Cf) (sz:=1) H (AY (l.take i));have hld:Ad false 1 p (Ep cB Cf 1 H (AY (l.take i)))=some (.int .u32 (l[i]:Int)):=by rw[hG];exact hp2 G
  unfold Ubv;simp only[Ao,Bf,Bj,hv.1,BA,Bn,aE,decide_true,AZ,qS,hld,htk];generalize AY (l.take i)=o at hlen;generalize l[i]=x at aH;refine Bv (σ:=Nat×Nat×List Bool) (λs=>s.1<=32/\s.2.1<4294967296/\s.2.2.length<=o.length+s.1) (λs=>[v,E4 cB H s.2.2,.i6 (i:Int),.int .u32 (s.2.1:Int),.i6 (s.1:Int)]) (λs=>Ep cB Cf 1 H s.2.2) (λs=>32-s.1)
   (λs=>rec [v,E4 cB H (s.2.2++DH (32-s.1) s.2.1),.i6 ((i+1:Nat):Int)] (Ep cB Cf 1 H (s.2.2++DH (32-s.1) s.2.1))) (λs aA hs hrec=>?_) (0,x,o) ⟨by dsimp only;omega,aH,by dsimp only;omega⟩ (by dsimp only;omega)
  obtain⟨k,y,p⟩:=s;obtain⟨hk,hy,hp⟩:=hs;simp only at hk hy hp hrec⊢;unfold Uei;by_cases h:k<32;have h':(k:Int)<32:=(by omega);have e1:(y:Int).tmod 2=((y%2:Nat):Int):=rfl;have e2:IntKind.u32.wrap ((y:Int).tdiv 2)=((y / 2:Nat):Int):=(by rw[show(y:Int).tdiv 2=((y / 2:Nat):Int) from rfl,D3]<;>omega);have e3:decide (((y%2:Nat):Int)=1)=(y%2==1):=(by rw[WP];simp only[beq_iff_eq,zXe];omega);have e4:IntKind.i64.wrap ((k:Int)+1)=((k+1:Nat):Int):=(by rw[Am]<;>omega);have:=hrec (k+1,y / 2,p++[y%2==1]) ⟨h,by dsimp only;omega,by simp;omega⟩ (by dsimp only;omega);simp only[Ao,Bf,Bj,B6,BQ,Bn,h',decide_true,BA,AZ,IP (show(2:Int)≠0 by decide),Qd (show(2:Int)≠0 by decide),e1,e2,Dy,Fa,e3,SI];rw[F5 (by simp) (by simp;omega) (by simp;omega)];simp only[D5,CQ,CP,BA,e4,this];rw[show 32-k=(32-(k+1))+1 from by omega,DH];simp;have:k=32:=(by omega);subst this;have e4:IntKind.i64.wrap ((i:Int)+1)=((i+1:Nat):Int):=(by rw[Am]<;>omega);simp[DH,e4]
 unfold Ubv;obtain⟨G,hG⟩:=HW (f:=cB) (ty:=Cf) (sz:=1) H (AY l);rw[WH (W7 _)];simp only[Ao,Bf,Bj,GQ,hG,hv.1,BA,Bn,Xm,decide_false,AL,VaP (AY l) _ _ (by rw[C6];omega),CQ,C8,HZ,zXb]
theorem Vfl {v:Ab}{H:Aa}{l:zAb}(hv:VpO v H l)(hl:l.length<=1099511627776)(hx:Lim l):Uao v H=some (.ret (.sl (enL cU (AB (val l))) .no),H):=by have hc:=IK (AY l);rw[C6]at hc;unfold Uao;rw[Vfm hv (by omega) hx];simp only[F3];rw[Tq _ _ _ (by omega)];simp only[F3,Ez,Wg,EN,Fd l hx]
theorem SM (a:Nat)(l:zAb):val (a::l)=a+4294967296*val l:=rfl
theorem Vjp {m a v:Nat}(hm:0<m):(a+4294967296*v) / m=(v%m*4294967296+a) / m+4294967296*(v / m)/\(a+4294967296*v)%m=(v%m*4294967296+a)%m:=by
 have h:=Yt v m;have e:a+4294967296*v=(v%m*4294967296+a)+m*(4294967296*(v / m)):=by
  conv=>lhs;rw[<-h]
  rw[XE,Nat.mul_left_comm];omega
 rw[e,Zq _ _ hm,Nat.add_mul_mod_self_left];exact⟨rfl,rfl⟩
theorem Vnw {m a r:Nat}(hr:r<m)(ha:a<4294967296):(r*4294967296+a) / m<4294967296:=by rw[XT (by omega)];have:(r+1)*4294967296<=m*4294967296:=Xg _ hr;omega
theorem Vlb (l:zAb)(tk:Tok)(m:Nat)(H:Aa)(hl:l.length<=1099511627776)(hx:Lim l)(hm0:0<m)(hm:m<4294967296):Udg (.sl (enL cU l) tk) (.int .u32 (m:Int)) H=some (.ret (.tup [.sl (enL cU (AB (val l / m))) .no,.int .u32 ((val l%m:Nat):Int)]),H):=by
 unfold Udg;have rF:¬(m:Int)=0:=by omega
 have dC:=FB (f:=cU) (a:=0) (n:=l.length) (bytes:=4) (H:=H) (by omega) (by omega);simp only[show cU 0=[Ab.int .u32 0] from rfl]at dC;have pP:∀n:Int,AG .u64 (.int .u32 (m:Int))=some (.int .u64 (m:Int)):=λ_=>by rw[Bx,Cz (by omega) (by omega)]
 simp only[GMw,rF,Aw,dC];have hw0:IntKind.i64.wrap ((l.length:Int)-1)=(l.length:Int)-1:=Am (by omega) (by omega);rw[hw0];have key:=Bv (G:=λrec1 vs H1=>Uen H rec1 (ag vs 0) (ag vs 1) (ag vs 2) (ag vs 3) (ag vs 4) H1) (σ:=Nat×zAb) (λs=>s.1<=l.length/\s.2.length=l.length/\Lim s.2/\val (s.2.drop s.1)=val (l.drop s.1) / m)
  (λs=>[.sl (enL cU l) tk,.int .u32 (m:Int),.ms H.length 0 0 l.length l.length 1 true,.int .u64 ((val (l.drop s.1)%m:Nat):Int),.i6 ((s.1:Int)-1)]) (λs=>H++[.c0 (flat cU s.2)]) (λs=>s.1)
  (λ_=>some (.ret (.tup [.sl (enL cU (AB (val l / m))) .no,.int .u32 ((val l%m:Nat):Int)]),H)) (λs rec hs hrec=>?_) (l.length,List.replicate l.length 0) ⟨W7 _,by simp,λx hx=>by have:=(Y8.1 hx).2;omega,by simp[val]⟩ (by dsimp only;omega)
 simp only[Z7,show val []=0 from rfl,Nat.zero_mod]at key;exact key
 ·obtain⟨k,O⟩:=s;obtain⟨h1,h2,h3,h4⟩:=hs;simp only at h1 h2 h3 h4 hrec⊢;unfold Uen;cases k with
  |zero=>have hrow:=Vnt (l:=O) (H:=H++[Blk.c0 (flat cU O)]) (id:=H.length) An;rw[h2]at hrow;have hn:=Vfl hrow (by omega) h3;have hv:val O=val l / m:=(by simpa using h4);have hlt:val l%m<m:=XW _ hm0;have hcv:AG .u32 (.int .u64 ((val l%m:Nat):Int))=some (.int .u32 ((val l%m:Nat):Int)):=(by rw[Bx,D3 (by omega) (by omega)]);simp only[GMw,Aj,show ¬(((0:Nat):Int)-1>=0) from by decide,hn,XP,hcv,hv,C8,Cs,By,BB,Jp,Dc,zXb]
  |succ j=>
   have hj:j<l.length:=h1;have hi:((j+1:Nat):Int)-1=(j:Int):=(by omega);have ha:=hx _ (WI hj);have hd:l.drop j=l[j]::l.drop (j+1):=Xb hj;have hr:val (l.drop (j+1))%m<m:=XW _ hm0;obtain⟨s1,s2⟩:=Vjp (m:=m) (a:=l[j]) (v:=val (l.drop (j+1))) hm0;have hq:=Vnw (m:=m) (a:=l[j]) (r:=val (l.drop (j+1))%m) hr ha;have dB:val (l.drop (j+1))%m*4294967296<=4294967295*4294967296:=Xg _ (by omega);generalize gH:val (l.drop (j+1))%m=r at *;have w1:IntKind.u64.wrap ((r:Int)*4294967296)=((r*4294967296:Nat):Int):=(by rw[Cz]<;>omega);have w2:AG .u64 (.int .u32 (l[j]:Int))=some (.int .u64 (l[j]:Int)):=(by rw[Bx,Cz (by omega) (by omega)]);have w3:IntKind.u64.wrap (((r*4294967296:Nat):Int)+(l[j]:Int))=((r*4294967296+l[j]:Nat):Int):=(by rw[Cz]<;>omega);have w4:IntKind.u64.wrap (((r*4294967296+l[j]:Nat):Int).tdiv (m:Int))=(((r*4294967296+l[j]) / m:Nat):Int):=(by rw[show(((r*4294967296+l[j]:Nat):Int).tdiv (m:Int))=(((r*4294967296+l[j]) / m:Nat):Int) from rfl,Cz (XO _) (Int.lt_of_lt_of_le (Int.ofNat_lt.2 hq) (by decide))]);have w5:AG .u32 (.int .u64 (((r*4294967296+l[j]) / m:Nat):Int))=some (.int .u32 (((r*4294967296+l[j]) / m:Nat):Int)):=(by rw[Bx,D3 (XO _) (Int.ofNat_lt.2 hq)]);have w6:(((r*4294967296+l[j]:Nat):Int).tmod (m:Int))=(((r*4294967296+l[j])%m:Nat):Int):=rfl;have w7:IntKind.i64.wrap ((j:Int)-1)=(j:Int)-1:=Am (by omega) (by omega);have hidx:=Db (sz:=1) (id:=H.length) (n:=l.length) (K:=.i64) (g:=0) (off:=0) (cap:=l.length) (ex:=true) (i:=j) hj;simp only[W9,WK]at hidx;have hst:=Ee (f:=cU) (sz:=1) (l:=O) (i:=j) (a:=(r*4294967296+l[j]) / m) (v:=.int .u32 (((r*4294967296+l[j]) / m:Nat):Int)) (H:=H++[Blk.c0 (flat cU O)]) (id:=H.length) (Ax An) (by omega) rfl;rw[WK,Bw An,Be]at hst;have hge:((j:Int)>=0):=(by omega);have xZ:(m:Int)≠0:=rF;have:=hrec (j,O.set j ((r*4294967296+l[j]) / m)) ⟨by omega,by simp[h2],λx lD=>by
     rcases YT lD with h | h;exact h3 x h
     ·rw[h];exact hq,by
     dsimp only;rw[hd,SM,s1,List.drop_set,if_neg (by omega),Xi,Xb (by omega:j<O.length),List.set_cons_zero,SM,h4]⟩ (by dsimp only;omega)
   dsimp only at this;rw[hd,SM,s2]at this;rw[hi];simp only[GMw,Aj,hge,w1,Ay hj,A5,zXh,w2,w3,pP 0,Qd xZ,w4,w5,hidx,hst,and_true,eq_self,IP xZ,w6,w7];exact this
def CA (n:Nat):zAa:=if h:n<10 then [UInt8.ofNat (48+n)]else CA (n / 10)++[UInt8.ofNat (48+n%10)]
termination_by n
decreasing_by omega
def Ct (z:Int):zAa:=if z<0 then 45::CA z.natAbs else CA z.natAbs
theorem VcW:∀(k n:Nat),n<10^(k+1)->(CA n).length<=k+1:=by
 intro k
 induction k with
 |zero=>intro n h;unfold CA;rw[dif_pos (by omega)];simp
 |succ k ih=>intro n h;unfold CA;split;simp;have h2:n / 10<10^(k+1):=(by rw[XT (by omega),<-Nat.pow_succ];exact h);have:=ih (n / 10) h2;simp;omega
theorem IY (k n:Nat)(h:n<10^k):(CA n).length<=k+(if k=0 then 1 else 0):=by cases k with|zero=>have:=VcW 0 n (by omega);simpa using this|succ k=>have:=VcW k n h;simpa using this
theorem Vjs {d:Nat}(h:d<10):AG .u8 (.int .u32 (IntKind.u32.wrap (48+(d:Int))))=some (.int .u8 ((UInt8.ofNat (48+d)).toNat:Int)):=by
 rw[Bx,D3 (by omega) (by omega),Gp (by omega) (by omega),XZ (show 48+d<256 by omega)]
 rfl
theorem Vip (k:Nat):10^k<=4294967296^k:=Nat.pow_le_pow_left (by omega) k
theorem TJ {n:Nat}(h:n<10^4096):(AB n).length<=4096:=Fm (X1 h (Vip 4096))
theorem MB (z:Int)(H:Aa)(hz:z.natAbs<10^4096):Ufh (big z) H=some (.ret (.str (Ct z)),H):=by
 unfold Ufh;have g0:Ad false 1 (.ptr H.length 0 0) (H++[Blk.c0 (A2 z)])=some (.bool (decide (z<0))):=by simp only[Ad,Ax An,zXa];rfl
 have g1:Ad false 1 (.ptr H.length 0 1) (H++[Blk.c0 (A2 z)])=some (.sl (enL cU (AB z.natAbs)) .no):=by simp only[Ad,Ax An,zXa];rfl
 simp only[GMw,DA,Ae,W9,g1];have mO:∀n:Nat,n<10^4096->(CA n).length<=4096:=λn h=>IY 4096 n h;have key:=Bv (G:=λrec1 vs H1=>Ueo H rec1 (ag vs 0) (ag vs 1) (ag vs 2) H1) (σ:=Nat×zAa) (λs=>s.1<10^4096/\s.2.length+(CA s.1).length<=5000)
  (λs=>[.ptr H.length 0 0,.str s.2,.sl (enL cU (AB s.1)) .no]) (λ_=>H++[.c0 (A2 z)]) (λs=>(CA s.1).length)
  (λs=>some (.ret (.str ((if z<0 then [45]else [])++CA s.1++s.2)),H)) (λs rec hs hrec=>?_) (z.natAbs,[]) ⟨hz,by have:=mO _ hz;simp;omega⟩ (by have:=mO _ hz;dsimp only;omega)
 refine key.trans ?_;unfold Ct;dsimp only;split<;>simp
 ·obtain⟨n,s⟩:=s;obtain⟨h1,h2⟩:=hs;simp only at h1 h2 hrec⊢;have sK:=λH=>Vlb (AB n) .no 10 H (by have:=TJ h1;omega) (Bz n) (by omega) (by omega);simp only[B9,show((10:Nat):Int)=10 from rfl]at sK;have hd:n%10<10:=XW _ (by omega);have wK:=Vjs hd;unfold Ueo;simp only[GMw,Aj,sK,B4,BE,wK,Vha,Ql];rw[Dk (by simp;omega)];simp only[GMw,Aw];by_cases hn:n<10;have h0:n / 10=0:=(by omega);have hm:n%10=n:=(by omega);have jC:CA n=[UInt8.ofNat (48+n)]:=(by unfold CA;rw[dif_pos hn]);rw[jC,h0,ER,hm];simp only[GMw,zXk,show((0:Nat):Int)=0 from rfl,Ae,Nat.add_zero,g0];by_cases mE:z<0;simp only[mE,GMw];rw[Dk (by simp;omega)];simp only[GMw,VeT];simp;simp only[mE,GMw,VeT];simp
  ·have h0:n / 10≠0:=(by omega);have hne:¬((AB (n / 10)).length:Int)=0:=(by have:=Xd.2 (Pv h0);omega);have jC:CA n=CA (n / 10)++[UInt8.ofNat (48+n%10)]:=by
    conv=>lhs;unfold CA
    rw[dif_neg hn]
   have hlen:(CA n).length=(CA (n / 10)).length+1:=(by rw[jC];simp);have:=hrec (n / 10,[UInt8.ofNat (48+n%10)]++s) ⟨Xt (Nat.div_le_self _ _) h1,by simp;omega⟩ (by dsimp only;omega);simp only[hne,GMw];rw[this,jC];simp
def qa (v:Nat)(x:Int)(k:Nat):Int:=if k%2=1 then x+2^(v-1)else x
def qb (v:Nat)(y:Int)(k:Nat):Int:=if 1<k then y+2^(v-1)else y
def inQ (v:Nat)(a b:Int)(c:Cl):Bool:=decide (a<=c.x)&&decide (c.x<a+2^(v-1))&&decide (b<=c.y)&&decide (c.y<b+2^(v-1))
def Bt (v:Nat)(x y:Int)(k:Nat)(l:List Cl):List Cl:=l.filter (inQ v (qa v x k) (qb v y k))
def Gg:List Cl->Int
 |[]=>0
 |c::_=>(c.s.toNat:Int)
def plK (rec:List Nd->Int->Int->List Cl->List Nd×Nat)(v:Nat)(x y:Int)(l:List Cl):Nat->List Nd->List Nd×Nd
 |0,out=>(out,⟨v,0,0,0,0⟩)
 |k+1,out=>
  if v=1 then ((plK rec v x y l k out).1,(plK rec v x y l k out).2.setKid k (Gg (Bt v x y k l)))
  else ((rec (plK rec v x y l k out).1 (qa v x k) (qb v y k) (Bt v x y k l)).1,(plK rec v x y l k out).2.setKid k ((rec (plK rec v x y l k out).1 (qa v x k) (qb v y k) (Bt v x y k l)).2:Int))
def AS:Nat->List Nd->Int->Int->List Cl->List Nd×Nat
 |0,out,_,_,_=>(out,0)
 |v+1,out,x,y,l=>if l=[]then (out,0)else ((plK (AS v) (v+1) x y l 4 out).1++[(plK (AS v) (v+1) x y l 4 out).2],(plK (AS v) (v+1) x y l 4 out).1.length+1)
def MY (v:Nat)(x y:Int)(l:List Cl):Nat->Nat
 |0=>0
 |k+1=>MY v x y l k+(Bt v x y k l).length
theorem Vil (v:Nat):(0:Int)<2^(v-1):=Yv (by omega)
theorem SF (v:Nat)(x y:Int):∀l:List Cl,MY v x y l 4<=l.length
 |[]=>by simp[MY,Bt]
 |c::l=>by
  have ih:=SF v x y l;have sB:∀(p:Bool)(m:List Cl),(if p=true then c::m else m).length=(if p=true then 1 else 0)+m.length:=λp m=>by cases p<;>simp<;>omega
  simp only[MY,Bt,Xy,qa,qb,sB]at ih⊢;simp only[show(0:Nat)%2=0 from rfl,show(1:Nat)%2=1 from rfl,show(2:Nat)%2=0 from rfl,show(3:Nat)%2=1 from rfl,show ¬(1:Nat)<0 from by omega,show ¬(1:Nat)<1 from by omega,show(1:Nat)<2 from by omega,show(1:Nat)<3 from by omega,if_true,if_false,show ¬(0:Nat)=1 from by omega]at ih⊢;have key:(if inQ v x y c then 1 else 0)+(if inQ v (x+2^(v-1)) y c then 1 else 0)+(if inQ v x (y+2^(v-1)) c then 1 else 0)+(if inQ v (x+2^(v-1)) (y+2^(v-1)) c then 1 else 0)<=1:=by unfold inQ;have hp:=Vil v;generalize (2:Int)^(v-1)=h at hp;simp only[WG,zXe];split<;>split<;>split<;>split<;>first | omega | (exfalso;omega)
  simp only[zXj];omega
theorem VgK (v:Nat)(x y:Int)(l:List Cl){k:Nat}(h:k<=4):MY v x y l k<=l.length:=by
 have h4:=SF v x y l
 match k,h with
 |0,_=>simp[MY]
 |1,_=>simp only[MY]at h4⊢;omega
 |2,_=>simp only[MY]at h4⊢;omega
 |3,_=>simp only[MY]at h4⊢;omega
 |4,_=>exact h4

mutual
theorem Q5:∀(v:Nat)(out:List Nd)(x y:Int)(l:List Cl),(AS v out x y l).1.length<=out.length+l.length*v
 |0,out,x,y,l=>by simp[AS]
 |v+1,out,x,y,l=>by unfold AS;split;simp;rename_i hl;have h:=Sv v out x y l 4 (W7 _);have hc:=SF (v+1) x y l;have hpos:0<l.length:=Xd.2 hl;have:MY (v+1) x y l 4*v<=l.length*v:=Xg _ hc;have e:l.length*(v+1)=l.length*v+l.length:=Nat.mul_succ _ _;simp only[WC,zXi];omega
theorem Sv:∀(v:Nat)(out:List Nd)(x y:Int)(l:List Cl)(k:Nat),k<=4->(plK (AS v) (v+1) x y l k out).1.length<=out.length+MY (v+1) x y l k*v
 |v,out,x,y,l,0,_=>by simp[plK,MY]
 |v,out,x,y,l,k+1,h=>by have ih:=Sv v out x y l k (by omega);unfold plK MY;rw[Xr];split;dsimp only;omega;have:=Q5 v (plK (AS v) (v+1) x y l k out).1 (qa (v+1) x k) (qb (v+1) y k) (Bt (v+1) x y k l);dsimp only;omega

end
def PS (b:Nat)(out:List Nd)(v:Ab)(H:Aa):Prop:=(out=[]/\v=.sl [] .ti)\/∃t,b<=t/\v=.sl (enL cNd out) (.own t)/\H[t]? = some (.tok out.length AP 5)
structure Kp (b:Nat)(H H':Aa):Prop where
 len:H.length<=H'.length
 cel:∀(i:Nat)(cs:List Ab),H[i]? = some (.c0 cs)->H'[i]? = some (.c0 cs)
 old:∀i,i<b->H'[i]? = H[i]?
theorem Kp.refl (b:Nat)(H:Aa):Kp b H H:=⟨W7 _,λ_ _ h=>h,λ_ _=>rfl⟩
theorem Kp.trans {b:Nat}{H H1 H2:Aa}(h:Kp b H H1)(h':Kp b H1 H2):Kp b H H2:=
 ⟨WV h.len h'.len,λi cs hc=>h'.cel i cs (h.cel i cs hc),λi hi=>(h'.old i hi).trans (h.old i hi)⟩
theorem Kp.app {b:Nat}{H:Aa}(hb:b<=H.length)(G:Aa):Kp b H (H++G):=
 ⟨by simp,λi cs h=>A1 h,λi hi=>by rw[W8 (by omega)]⟩
theorem PS.sl {b:Nat}{out:List Nd}{v:Ab}{H:Aa}(h:PS b out v H):∃tk,v=.sl (enL cNd out) tk:=by rcases h with ⟨rfl,rfl⟩ | ⟨t,_,rfl,_⟩;exact⟨_,rfl⟩;exact⟨_,rfl⟩
theorem PS.left {b:Nat}{out:List Nd}{v:Ab}{H:Aa}(h:PS b out v H)(G:Aa):PS b out v (H++G):=by rcases h with h1 | ⟨t,h1,h2,h3⟩;exact .inl h1;exact .inr ⟨t,h1,h2,A1 h3⟩
theorem PS.put {b p:Nat}{out:List Nd}{v:Ab}{H:Aa}{c c':List Ab}(h:PS b out v H)(hp:H[p]? = some (.c0 c)):PS b out v (H.set p (.c0 c')):=by
 rcases h with h1 | ⟨t,h1,h2,h3⟩;exact .inl h1
 ·refine .inr ⟨t,h1,h2,?_⟩;have:p≠t:=λe=>by rw[<-e,hp]at h3;cases h3
  rw[WA this];exact h3
theorem PS.snoc {b:Nat}{out:List Nd}{v:Ab}{H:Aa}(h:PS b out v H)(hb:b<=H.length)(x:Nd)(hl:out.length<3518437208883):∃v' H',AW AP 5 40 v (.sl (enL cNd [x]) .ti) H=some (v',H')/\PS b (out++[x]) v' H'/\Kp b H H':=by
 rcases h with ⟨rfl,rfl⟩ | ⟨t,h1,rfl,h3⟩;have:=Dh (f:=cNd) (l:=[]) (m:=[x]) (ty:=AP) (bytes:=40) (tk:=.ti) (H:=H) (by simp) (by simp) (by simp);exact⟨_,_,this,.inr ⟨H.length,hb,rfl,by simp⟩,Kp.app hb _⟩;have:=F4 (f:=cNd) (l:=out) (m:=[x]) (ty:=AP) (bytes:=40) (tk:=.ti) (H:=H) (t:=t) (by simp) h3 (by simp;omega) (by simp;omega);have iI:=(W5.1 h3).1;refine⟨_,_,this,.inr ⟨t,h1,rfl,by simp[iI]⟩,⟨by simp,λi cs hc=>?_,λi hi=>?_⟩⟩;have:t≠i:=λe=>(by rw[<-e,h3]at hc;cases hc);rw[WA this];exact hc;rw[WA (by omega)]
def VpN (k:Nat):Nat:=2^k
def TOP:Nat:=VpN 1400
theorem Vk9 {k m:Nat}(h:k<32*m):VpN k<4294967296^m:=Vcf h
theorem VkA {v k:Nat}(h:v<=k):2^v<=VpN k:=Vlf h
theorem Ven:TOP<4294967296^44:=Vk9 (by decide)
theorem VjI {v:Nat}(h:v<=1400):2^v<=TOP:=VkA h
def Cn (v:Nat)(z:Int):Prop:=z.natAbs+2^v<=TOP
theorem J1 (v:Nat):((2:Int)^v).natAbs=2^v:=by rw[Zs];rfl
theorem Cn.sb {v:Nat}{z:Int}(h:Cn v z):SB 44 z:=by exact Xt (WV (Nat.le_add_right _ _) h) Ven
theorem Cn.add {v:Nat}{z:Int}(h:Cn (v+1) z):Cn v (z+2^v)/\Cn v z:=by unfold Cn at *;have e:(2:Nat)^(v+1)=2^v*2:=Nat.pow_succ _ _;have h1:=Z1 z (2^v);rw[J1]at h1;omega
theorem EW {v:Nat}(h:v<=1400):SB 44 (2^v):=by unfold SB;rw[J1];exact Xt (VjI h) Ven
theorem Cn.sb1 {v:Nat}{z:Int}(h:Cn (v+1) z):SB 44 (z+2^v)/\SB 44 (z+2^v+2^v):=by refine⟨h.add.1.sb,?_⟩;unfold Cn at h;have e:(2:Nat)^(v+1)=2^v*2:=Nat.pow_succ _ _;have h1:=Z1 z (2^v);have h2:=Z1 (z+2^v) (2^v);rw[J1]at h1 h2;exact Xt (show(z+2^v+2^v).natAbs<=TOP by omega) Ven
section
variable {Hc:Aa}{a c:List Ab}{z:Int}
theorem st0 (ha:a.length=2):Ai 2 (.ptr Hc.length 0 0) (big z) (Hc++[Blk.c0 a]++[Blk.c0 c])=some (Hc++[Blk.c0 (A2 z)]++[Blk.c0 c]):=by rw[BP (cs:=a) (by simp) ha];simp
theorem st1 (hc:c.length=2):Ai 2 (.ptr (Hc.length+1) 0 0) (big z) (Hc++[Blk.c0 a]++[Blk.c0 c])=some (Hc++[Blk.c0 a]++[Blk.c0 (A2 z)]):=by rw[BP (cs:=c) (by simp) hc];simp

end
theorem Vaf (H:Aa)(self:Ab->Ab->Ab->Ab->Ab->Aa->Out)(j2:LK)(v:Nat)(hv:v<=1329)(w:Ab)(l:List Cl)(tk:Tok)(p6 p8 p15 p20 p45 p47 k:Nat)(B:Aa)(qa qb:Int)(out:Out)
  (hl:l.length<549755813888)(hok:∀c∈l,c.ok)(h15:B[p15]? = some (.c0 (A2 (2^(v-1)))))(tV:B[p45]? = some (.c0 (A2 qa)))(h47:B[p47]? = some (.c0 (A2 qb)))
  (ca:SB 44 qa/\SB 44 (qa+2^(v-1)))(cb:SB 44 qb/\SB 44 (qb+2^(v-1)))
  (fin:∀bV:LK,Uac H self j2 bV w (.i6 (v:Int)) (.sl (enL cCl l) tk) (.ptr p6 0 0) (.ptr p8 0 0) (.ptr p15 0 0) (.ptr p20 0 0) (.i6 (k:Int)) (.ptr p45 0 0) (.ptr p47 0 0) (E4 cCl B (l.filter (inQ v qa qb))) (.i6 (l.length:Int)) (Ep cCl AI 5 B (l.filter (inQ v qa qb)))=out):Udy H self j2 w (.i6 (v:Int)) (.sl (enL cCl l) tk) (.ptr p6 0 0) (.ptr p8 0 0) (.ptr p15 0 0) (.ptr p20 0 0) (.i6 (k:Int)) (.ptr p45 0 0) (.ptr p47 0 0) B=out:=by
 unfold Udy;refine Cx (G:=λbV vs H1=>Uac H self j2 bV (ag vs 0) (ag vs 1) (ag vs 2) (ag vs 3) (ag vs 4) (ag vs 5) (ag vs 6) (ag vs 7) (ag vs 8) (ag vs 9) (ag vs 10) (ag vs 11) H1) l.length
  (λi=>[w,.i6 (v:Int),.sl (enL cCl l) tk,.ptr p6 0 0,.ptr p8 0 0,.ptr p15 0 0,.ptr p20 0 0,.i6 (k:Int),.ptr p45 0 0,.ptr p47 0 0,E4 cCl B ((l.take i).filter (inQ v qa qb)),.i6 (i:Int)]) (λi=>Ep cCl AI 5 B ((l.take i).filter (inQ v qa qb))) _ (by omega) (λrec i hi=>?_) (λrec=>?_)
 ·have aE:(i:Int)<(l.length:Int):=by omega
  have aK:=Au (show i<9223372036854775807 by omega);have oL:=hok _ (WI hi);rw[WF hi,Xq];have eL:((l.take i).filter (inQ v qa qb)).length<=i:=WV (XJ _ _) (by simp;omega);generalize ((l.take i).filter (inQ v qa qb))=fo at eL;obtain⟨G,hG⟩:=HW (f:=cCl) (ty:=AI) (sz:=5) B fo;have t15:=Ba (A1 (G:=G) h15);have t45:=Ba (A1 (G:=G) tV);have t47:=Ba (A1 (G:=G) h47);have ha:=F5 (f:=cCl) (ty:=AI) (bytes:=72) (tk:=.ti) (B:=B) (l:=fo) (m:=[l[i]]) (by simp) (by simp;omega) (by simp;omega);rw[hG]at ha⊢;have hp:SB 44 (2^(v-1)):=EW (by omega);have cx:=λH z (hz:SB 44 z)=>Fi l[i].x z H (oL.1.lb (by decide)) (hz.lb (by decide));have cy:=λH z (hz:SB 44 z)=>Fi l[i].y z H (oL.2.lb (by decide)) (hz.lb (by decide));have ad:=λH z (hz:SB 44 z)=>Ie z (2^(v-1)) H (hz.lb (by decide)) (hp.lb (by decide));generalize hc:l[i]=cl at oL cx cy ha;unfold Uac;have hidx:=Ay (f:=cCl) (tk:=tk) (K:=.i64) hi;rw[hc]at hidx;have e0:∀(s:Bool),inQ v qa qb cl=s->(if s then [cl]else [])=[cl].filter (inQ v qa qb):=λs h=>by subst h;simp[Xy]
  simp only[GMw,Aj,Aw,aE,hidx,Aq,W9,S3,S2,t15,t45,t47,cx _ _ ca.1,Gu,Uas,aK];cases h1:decide (qa<=cl.x)with
  |false=>rw[<-e0 false (by simp[inQ,h1])];simp only[GMw,Aj,PA,and_true,eq_self,Uas,aK,WU,hG]
  |true=>
   simp only[GMw,Aj,S6,and_true,eq_self,t15,t45,t47,ad _ _ ca.1,hidx,Aq,W9,S3,S2,cx _ _ ca.2,Gt];cases h2:decide (cl.x<qa+2^(v-1))with
   |false=>rw[<-e0 false (by simp[inQ,h2])];simp only[GMw,Aj,PA,and_true,eq_self,Uas,aK,WU,hG]
   |true=>
    simp only[GMw,Aj,S6,and_true,eq_self,t15,t45,t47,hidx,Aq,W9,S3,S2,cy _ _ cb.1,Gu];cases h3:decide (qb<=cl.y)with
    |false=>rw[<-e0 false (by simp[inQ,h3])];simp only[GMw,Aj,PA,and_true,eq_self,Uas,aK,WU,hG]
    |true=>simp only[GMw,Aj,S6,and_true,eq_self,t15,t45,t47,ad _ _ cb.1,hidx,Aq,W9,S3,S2,cy _ _ cb.2,Gt];cases h4:decide (cl.y<qb+2^(v-1))with|false=>rw[<-e0 false (by simp[inQ,h4])];simp only[GMw,Aj,Uas,aK,WU,hG]|true=>rw[<-e0 true (by unfold inQ;rw[h1,h2,h3,h4];rfl)];simp only[GMw,Aj,hidx,Pu,Qc,ha,Uas,aK]
 rw[WH (W7 _)];exact fin rec
theorem Vdz {v:Nat}{x y:Int}{k:Nat}{l:List Cl}{c:Cl}(h:c∈Bt v x y k l):c∈l:=(Xz.1 h).1
theorem Vd0 (v:Nat)(x y:Int)(k:Nat)(l:List Cl):(Bt v x y k l).length<=l.length:=XJ _ _
def Vo5 (b n:Nat)(self:Ab->Ab->Ab->Ab->Ab->Aa->Out):Prop:=
 ∀(out:List Nd)(w:Ab)(x y:Int)(l:List Cl)(tk:Tok)(H:Aa),PS b out w H->b<=H.length->(∀c∈l,c.ok)->Cn n x->Cn n y->l.length<549755813888->out.length+l.length*n<3518437208883 ->
  ∃H' w',self w (.i6 (n:Int)) (big x) (big y) (.sl (enL cCl l) tk) H=some (.ret (.tup [w',.i6 ((AS n out x y l).2:Int)]),H')/\PS b (AS n out x y l).1 w' H'/\Kp b H H'
theorem Vqn {n:Nat}{x:Int}(h:Cn (n+1) x)(k:Nat):Cn n (qa (n+1) x k)/\SB 44 (qa (n+1) x k)/\SB 44 (qa (n+1) x k+2^(n+1-1)):=by unfold qa;rw[WQ];split;exact⟨h.add.1,h.sb1.1,h.sb1.2⟩;exact⟨h.add.2,h.sb,h.sb1.1⟩
theorem Vqm {n:Nat}{y:Int}(h:Cn (n+1) y)(k:Nat):Cn n (qb (n+1) y k)/\SB 44 (qb (n+1) y k)/\SB 44 (qb (n+1) y k+2^(n+1-1)):=by unfold qb;rw[WQ];split;exact⟨h.add.1,h.sb1.1,h.sb1.2⟩;exact⟨h.add.2,h.sb,h.sb1.1⟩
theorem VdB {b n:Nat}{self:Ab->Ab->Ab->Ab->Ab->Aa->Out}(cO:n=0\/Vo5 b n self)(hn:n+1<=1329)(H Hc:Aa)(out:List Nd)(w:Ab)(x y:Int)(l:List Cl)(tk:Tok)(p6 p8 p15 p20 k:Nat)(hk:k<4)(hb:b<=H.length)(h20:H.length<=p20)
  (hok:∀c∈l,c.ok)(cnx:Cn (n+1) x)(cny:Cn (n+1) y)(hl:l.length<549755813888)(hlen:out.length+l.length*(n+1)<3518437208883)
  (hPS:PS b (plK (AS n) (n+1) x y l k out).1 w Hc)(f6:Hc[p6]? = some (.c0 (A2 x)))(f8:Hc[p8]? = some (.c0 (A2 y)))(f15:Hc[p15]? = some (.c0 (A2 (2^(n+1-1)))))(f20:Hc[p20]? = some (.c0 (cNd (plK (AS n) (n+1) x y l k out).2)))(hKp:Kp b H Hc)(d6:p6≠p20)(d8:p8≠p20)(d15:p15≠p20):∃w' Hd,(∀rec:LK,UbB H self rec w (.i6 ((n+1:Nat):Int)) (.sl (enL cCl l) tk) (.ptr p6 0 0) (.ptr p8 0 0) (.ptr p15 0 0) (.ptr p20 0 0) (.i6 (k:Int)) Hc=rec [w',.i6 ((n+1:Nat):Int),.sl (enL cCl l) tk,.ptr p6 0 0,.ptr p8 0 0,.ptr p15 0 0,.ptr p20 0 0,.i6 ((k+1:Nat):Int)] Hd) /\
   PS b (plK (AS n) (n+1) x y l (k+1) out).1 w' Hd/\Hd[p6]? = some (.c0 (A2 x))/\Hd[p8]? = some (.c0 (A2 y))/\Hd[p15]? = some (.c0 (A2 (2^(n+1-1))))/\Hd[p20]? = some (.c0 (cNd (plK (AS n) (n+1) x y l (k+1) out).2))/\Kp b H Hd:=by
 have hk':(k:Int)<4:=by omega
 have aK:=Au (show k<9223372036854775807 by omega);have hp:SB 44 (2^(n+1-1)):=EW (by omega);have nM:(k:Int).tmod 2=((k%2:Nat):Int):=rfl;have hra:decide (((k%2:Nat):Int)=1)=decide (k%2=1):=by rw[WP];simp;omega
 have nN:decide ((k:Int)>1)=decide (1<k):=by rw[WP];simp only[zXe];omega
 have adx:=λH=>Ie x (2^(n+1-1)) H (cnx.sb.lb (by decide)) (hp.lb (by decide));have ady:=λH=>Ie y (2^(n+1-1)) H (cny.sb.lb (by decide)) (hp.lb (by decide));obtain⟨ca1,ca2⟩:=Vqn cnx k;obtain⟨cb1,cb2⟩:=Vqm cny k;have start:∀(j2:LK)(O:Out),Udy H self j2 w (.i6 ((n+1:Nat):Int)) (.sl (enL cCl l) tk) (.ptr p6 0 0) (.ptr p8 0 0) (.ptr p15 0 0) (.ptr p20 0 0) (.i6 (k:Int)) (.ptr Hc.length 0 0) (.ptr (Hc.length+1) 0 0) (Hc++[Blk.c0 (A2 (qa (n+1) x k))]++[Blk.c0 (A2 (qb (n+1) y k))])=O ->
   (bC (Ad true 2 (.ptr p6 0 0) Hc) (λ_=>True) λx44=>
    Ap (A0 (some [(.bool false),(.sl [] .ti)]) Hc) λx45 H46=>
    Ap (A0 (some [(.bool false),(.sl [] .ti)]) H46) λx47 H48=>
    Bb (AA (Ai 2 x45 x44 H48)) λ_ H50=>
    bC (Ad true 2 (.ptr p8 0 0) H50) (λx51=>Ad true 2 (.ptr p8 0 0) Hc=some x51/\True) λx51=>
    bK H (AA (Ai 2 x47 x51 H50)) λ_ H53=>
    AJ (λj3=>
    (Af .none .rem (.i6 (k:Int)) (.i6 2)).bind λx197=>
    (Af .none .eql x197 (.i6 1)).bind λx198=>
    Ak x198 (
    (Ad true 2 (.ptr p6 0 0) H53).bind λx199=>
    (Ad true 2 (.ptr p15 0 0) H53).bind λx200=>
    bK H (Ubn x199 x200 H53) λx201 H202=>
    bK H (AA (Ai 2 x45 x201 H202)) λ_ H204=>
    j3 [w,(.i6 ((n+1:Nat):Int)),(.sl (enL cCl l) tk),(.ptr p6 0 0),(.ptr p8 0 0),(.ptr p15 0 0),(.ptr p20 0 0),(.i6 (k:Int)),x45,x47] H204) (
    j3 [w,(.i6 ((n+1:Nat):Int)),(.sl (enL cCl l) tk),(.ptr p6 0 0),(.ptr p8 0 0),(.ptr p15 0 0),(.ptr p20 0 0),(.i6 (k:Int)),x45,x47] H53)) (λvs H1=>UaK H self j2 (ag vs 0) (ag vs 1) (ag vs 2) (ag vs 3) (ag vs 4) (ag vs 5) (ag vs 6) (ag vs 7) (ag vs 8) (ag vs 9) H1))=O:=by
  intro j2 O hO;have l1:(Hc++[Blk.c0 [Ab.bool false,.sl [] .ti]]).length=Hc.length+1:=by simp
  have g6:=λ(G G':Aa)=>Ba (A1 (G:=G') (A1 (G:=G) f6));have g8:=λ(G G':Aa)=>Ba (A1 (G:=G') (A1 (G:=G) f8));have g15:=λ(G G':Aa)=>Ba (A1 (G:=G') (A1 (G:=G) f15));have s0:=λ(z:Int) (c:List Ab)=>st0 (Hc:=Hc) (a:=[.bool false,.sl [] .ti]) (c:=c) (z:=z) rfl;have s0':=λ(z z':Int) (c:List Ab)=>st0 (Hc:=Hc) (a:=A2 z') (c:=c) (z:=z) rfl;have s1:=λ(z:Int) (a:List Ab)=>st1 (Hc:=Hc) (a:=a) (c:=[.bool false,.sl [] .ti]) (z:=z) rfl;have s1':=λ(z z':Int) (a:List Ab)=>st1 (Hc:=Hc) (a:=a) (c:=A2 z') (z:=z) rfl;simp only[GMw,Aj,Ba f6,CR,l1,s0,g8,Ba f8,and_true,eq_self,s1,IP (show(2:Int)≠0 by decide),nM,hra];unfold qa qb at hO;by_cases lR:k%2=1;rw[if_pos lR]at hO;by_cases hkb:1<k;rw[if_pos hkb]at hO;simp only[GMw,Aj,lR,g6,g15,adx,s0',UaK,nN,hkb,g8,ady,s1'];exact hO;rw[if_neg hkb]at hO;simp only[GMw,Aj,lR,g6,g15,adx,s0',UaK,nN,hkb];exact hO;rw[if_neg lR]at hO;by_cases hkb:1<k;rw[if_pos hkb]at hO;simp only[GMw,Aj,lR,UaK,nN,hkb,g8,g15,ady,s1'];exact hO;rw[if_neg hkb]at hO;simp only[GMw,Aj,lR,UaK,nN,hkb];exact hO
 generalize hB:Hc++[Blk.c0 (A2 (qa (n+1) x k))]++[Blk.c0 (A2 (qb (n+1) y k))]=B at start;have b6:B[p6]? = some (.c0 (A2 x)):=by rw[<-hB];exact A1 (A1 f6)
 have b8:B[p8]? = some (.c0 (A2 y)):=by rw[<-hB];exact A1 (A1 f8)
 have b15:B[p15]? = some (.c0 (A2 (2^(n+1-1)))):=by rw[<-hB];exact A1 (A1 f15)
 have b20:B[p20]? = some (.c0 (cNd (plK (AS n) (n+1) x y l k out).2)):=by rw[<-hB];exact A1 (A1 f20)
 have b45:B[Hc.length]? = some (.c0 (A2 (qa (n+1) x k))):=by rw[<-hB];simp
 have b47:B[Hc.length+1]? = some (.c0 (A2 (qb (n+1) y k))):=by rw[<-hB];simp
 have bPS:PS b (plK (AS n) (n+1) x y l k out).1 w B:=by rw[<-hB];exact(hPS.left _).left _
 have bKp:Kp b H B:=by rw[<-hB,WD];exact hKp.trans (Kp.app (WV hb hKp.len) _)
 have cA:=VgK (n+1) x y l (show k+1<=4 by omega);have bL:=Sv n out x y l k (by omega);have dB:MY (n+1) x y l (k+1)*n<=l.length*n:=Xg _ cA;rw[show MY (n+1) x y l (k+1)*n=MY (n+1) x y l k*n+(Bt (n+1) x y k l).length*n from by rw[<-Xr];rfl]at dB;have rA:l.length*(n+1)=l.length*n+l.length:=Nat.mul_succ _ _;obtain⟨G,hG⟩:=HW (f:=cCl) (ty:=AI) (sz:=5) B (Bt (n+1) x y k l);have cR:∀i,l.filter (inQ (n+1) (qa (n+1) x i) (qb (n+1) y i))=Bt (n+1) x y i l:=λi=>rfl;suffices hs:∃w' Hd,(∀(rec bV:LK),Uac H self (λvs H1=>UbA H rec (ag vs 0) (ag vs 1) (ag vs 2) (ag vs 3) (ag vs 4) (ag vs 5) (ag vs 6) (ag vs 7) H1) bV w (.i6 ((n+1:Nat):Int)) (.sl (enL cCl l) tk) (.ptr p6 0 0) (.ptr p8 0 0) (.ptr p15 0 0) (.ptr p20 0 0) (.i6 (k:Int)) (.ptr Hc.length 0 0) (.ptr (Hc.length+1) 0 0) (E4 cCl B (Bt (n+1) x y k l)) (.i6 (l.length:Int)) (B++G)=rec [w',.i6 ((n+1:Nat):Int),.sl (enL cCl l) tk,.ptr p6 0 0,.ptr p8 0 0,.ptr p15 0 0,.ptr p20 0 0,.i6 ((k+1:Nat):Int)] Hd) /\
   PS b (plK (AS n) (n+1) x y l (k+1) out).1 w' Hd/\Hd[p6]? = some (.c0 (A2 x))/\Hd[p8]? = some (.c0 (A2 y))/\Hd[p15]? = some (.c0 (A2 (2^(n+1-1))))/\Hd[p20]? = some (.c0 (cNd (plK (AS n) (n+1) x y l (k+1) out).2))/\Kp b H Hd by
  obtain⟨w',Hd,q1,q2⟩:=hs;refine⟨w',Hd,λrec=>?_,q2⟩;unfold UbB;simp only[Bn,BA,hk',decide_true,AZ];rw[show ∀(f:LK->Out)(j:LK),AJ f j=f j from λ_ _=>rfl];refine start _ _ (Vaf H self _ (n+1) hn w l tk p6 p8 p15 p20 Hc.length (Hc.length+1) k B _ _ _ hl hok b15 b45 b47 ca2 cb2 λbV=>?_);rw[cR,hG];exact q1 rec bV
 generalize hq:Bt (n+1) x y k l=q at hG dB;have hqm:∀c∈q,c.ok:=λc hc=>hok c (by rw[<-hq]at hc;exact Vdz hc);have hql:q.length<=l.length:=by rw[<-hq];exact Vd0 _ _ _ _ _
 have t6:=A1 (G:=G) b6;have t8:=A1 (G:=G) b8;have t15:=A1 (G:=G) b15;have t20:=A1 (G:=G) b20;have t45:=A1 (G:=G) b45;have t47:=A1 (G:=G) b47;have tPS:=bPS.left G;have tKp:Kp b H (B++G):=bKp.trans (Kp.app (WV hb bKp.len) G);have hlast:¬((l.length:Int)<(l.length:Int)):=by omega
 generalize hT:B++G=T at t6 t8 t15 t20 t45 t47 tPS tKp;have xH:=(W5.1 t20).1;rcases XN n with dT | dT
 ·subst dT;have cP:¬(((0+1:Nat):Int)>1):=by decide
  have iL:(((0+1:Nat):Int)=1):=rfl;have mN:¬((1:Int)>1):=by decide
  have uX:plK (AS 0) (0+1) x y l (k+1) out=((plK (AS 0) (0+1) x y l k out).1,(plK (AS 0) (0+1) x y l k out).2.setKid k (Gg q)):=by
   conv=>lhs;unfold plK
   rw[if_pos rfl,hq]
  rw[uX];cases q with
  |nil=>
   refine⟨w,T,λrec bV=>?_,tPS,t6,t8,t15,?_,tKp⟩;unfold Uac;simp only[GMw,Aj,Aw,hlast,Udx,cP,iL,mN,show E4 cCl B []=.sl [] .ti from rfl,show A7 (.sl [] .ti)=some (.i6 0) from rfl,show ¬((0:Int)>0) from by decide,UbA,aK]
   ·rw[t20];have:(plK (AS 0) (0+1) x y l k out).2.setKid k (Gg [])=(plK (AS 0) (0+1) x y l k out).2:=by
     have hz:(plK (AS 0) (0+1) x y l k out).2.kid k=0:=by
      have:∀j,j<=k->(plK (AS 0) (0+1) x y l j out).2.kid k=0:=by
       intro j
       induction j with
       |zero=>intro _;unfold plK Nd.kid;dsimp only;split<;>rfl
       |succ j ihj=>
        intro hj
        conv=>lhs;unfold plK
        rw[if_pos rfl];dsimp only;rw[F9 _ _ (by omega) hk (by omega)];exact ihj (by omega)
      exact this k (W7 _)
     generalize (plK (AS 0) (0+1) x y l k out).2=nd at hz;obtain⟨lv,k0,k1,k2,k3⟩:=nd
     match k,hk,hz with
     |0,_,hz=>simp only[Nd.kid]at hz;subst hz;rfl
     |1,_,hz=>simp only[Nd.kid]at hz;subst hz;rfl
     |2,_,hz=>simp only[Nd.kid]at hz;subst hz;rfl
     |3,_,hz=>simp only[Nd.kid]at hz;subst hz;rfl
    rw[this]
  |cons c q=>have zL:IntKind.i64.wrap (c.s.toNat:Int)=(c.s.toNat:Int):=OT (by have:=c.s.toNat_lt;omega);have hidx:Av 5 (.sl (enL cCl (c::q)) (.own B.length)) (.i6 0)=some (.cptr (cCl c) 0):=Ay (f:=cCl) (l:=c::q) (tk:=.own B.length) (K:=.i64) (i:=0) (by simp);have hpos:(((c::q).length:Int)>0):=(by simp only[zXj];omega);refine⟨w,T.set p20 (.c0 (cNd ((plK (AS 0) (0+1) x y l k out).2.setKid k (c.s.toNat:Int)))),λrec bV=>?_,tPS.put t20,by rw[WA d6.symm];exact t6,by rw[WA d8.symm];exact t8,by rw[WA d15.symm];exact t15,by rw[WJ xH];rfl,⟨by simp;exact tKp.len,λi cs hi=>?_,λi hi=>?_⟩⟩;unfold Uac;simp only[GMw,Aj,Aw,hlast,Udx,cP,iL,mN,show E4 cCl B (c::q)=.sl (enL cCl (c::q)) (.own B.length) from rfl,hpos,hidx,Aq,Ae,W9,VfI,Bx,zL,Ih hk,Fg t20 hk,UbA,aK];have:=(W5.1 hi).1;rw[WA (by omega)];exact tKp.cel i cs hi;rw[WA (by omega)];exact tKp.old i hi
 ·-- a level above: a node
  have jK:Vo5 b n self:=by rcases cO with h | h;omega;exact h
  have cP:(((n+1:Nat):Int)>1):=by omega
  have iL:¬(((n+1:Nat):Int)=1):=by omega
  have mG:IntKind.i64.wrap (((n+1:Nat):Int)-1)=(n:Int):=by rw[Am]<;>omega
  have uX:plK (AS n) (n+1) x y l (k+1) out=((AS n (plK (AS n) (n+1) x y l k out).1 (qa (n+1) x k) (qb (n+1) y k) q).1,(plK (AS n) (n+1) x y l k out).2.setKid k ((AS n (plK (AS n) (n+1) x y l k out).1 (qa (n+1) x k) (qb (n+1) y k) q).2:Int)):=by
   conv=>lhs;unfold plK
   rw[if_neg (by omega),hq]
  rw[uX];obtain⟨H1,w1,r1,r2,r3⟩:=jK _ w (qa (n+1) x k) (qb (n+1) y k) q (Vpy B q) T tPS (WV hb tKp.len) hqm ca1 cb1 (by omega) (by omega);have u20:=r3.cel _ _ t20;have u20l:=(W5.1 u20).1;refine⟨w1,H1.set p20 (.c0 (cNd ((plK (AS n) (n+1) x y l k out).2.setKid k ((AS n (plK (AS n) (n+1) x y l k out).1 (qa (n+1) x k) (qb (n+1) y k) q).2:Int)))),λrec bV=>?_,r2.put u20,by rw[WA d6.symm];exact r3.cel _ _ t6,by rw[WA d8.symm];exact r3.cel _ _ t8,by rw[WA d15.symm];exact r3.cel _ _ t15,by rw[WJ u20l],⟨by simp;exact WV tKp.len r3.len,λi cs hi=>?_,λi hi=>?_⟩⟩;unfold Uac;simp only[GMw,Aj,Aw,hlast,Udx,cP,iL,GQ,mG,Ba t45,Ba t47,r1,B4,BE,Ae,W9,Ih hk,Fg u20 hk,UbA,aK];have:=(W5.1 hi).1;rw[WA (by omega)];exact r3.cel _ _ (tKp.cel i cs hi);rw[WA (by omega),r3.old i hi];exact tKp.old i hi
theorem Tx {b n d:Nat}(cO:n=0\/Vo5 b n (UeW d))(hn:n+1<=1329):Vo5 b (n+1) (UeW (d+1)):=by
 intro out w x y l tk H hPS hb hok cnx cny hl hlen;have aK:IntKind.i64.wrap (((n+1:Nat):Int)-1)=((n:Nat):Int):=by rw[Am]<;>omega
 have hp:SB 44 (2^(n+1-1)):=EW (by omega);have cE:=λH=>IA n H (by omega);show ∃H' w',Ueu (UeW d) _ _ _ _ _ _=_/\_;unfold Ueu AS;have s1:∀B:Aa,Ai 2 (.ptr B.length 0 0) (big (2^n)) (B++[.c0 [.bool false,.sl [] .ti]])=some (B++[.c0 (A2 (2^n))]):=λB=>by rw[BP (An (B:=B)) rfl,Be]
 simp only[GMw,DA,Aw];by_cases h0:l=[];subst h0;simp only[GMw,zXk,show((0:Nat):Int)=0 from rfl];exact⟨_,_,rfl,(hPS.left _).left _,(Kp.app hb _).trans (Kp.app (by simp;omega) _)⟩
 ·have hl0:¬((l.length:Int)=0):=by have:=Xd.2 h0;omega
  have vQ:=Xd.2 h0;simp only[if_neg h0,hl0,GMw,aK,cE,CR,s1,Uw,Qg,Kl (An (cs:=cNd nd0)) rfl,Be];generalize h1:H++[Blk.c0 (A2 x)]=H1;generalize h2:H1++[Blk.c0 (A2 y)]=H2;generalize h3:H2++[Blk.c0 (A2 (2^n))]=H3;have e1:H1.length=H.length+1:=by rw[<-h1];simp
  have e2:H2.length=H.length+2:=by rw[<-h2];simp;omega
  have e3:H3.length=H.length+3:=by rw[<-h3];simp;omega
  have f6:(H3++[Blk.c0 (cNd ⟨((n+1:Nat):Int),0,0,0,0⟩)])[H.length]? = some (.c0 (A2 x)):=by rw[<-h3,<-h2,<-h1];simp
  have f8:(H3++[Blk.c0 (cNd ⟨((n+1:Nat):Int),0,0,0,0⟩)])[H1.length]? = some (.c0 (A2 y)):=by rw[<-h3,<-h2];simp
  have f15:(H3++[Blk.c0 (cNd ⟨((n+1:Nat):Int),0,0,0,0⟩)])[H2.length]? = some (.c0 (A2 (2^n))):=by rw[<-h3];simp
  have hPS':PS b out w (H3++[Blk.c0 (cNd ⟨((n+1:Nat):Int),0,0,0,0⟩)]):=by rw[<-h3,<-h2,<-h1];exact(((hPS.left _).left _).left _).left _
  have hKp':Kp b H (H3++[Blk.c0 (cNd ⟨((n+1:Nat):Int),0,0,0,0⟩)]):=by rw[<-h3,<-h2,<-h1];simp only[WD];exact Kp.app hb _
  have loop:=Fk (G:=λrec1 vs Hc=>UbB H (UeW d) rec1 (ag vs 0) (ag vs 1) (ag vs 2) (ag vs 3) (ag vs 4) (ag vs 5) (ag vs 6) (ag vs 7) Hc) 4
   (λk vs Hc=>∃w',vs=[w',.i6 ((n+1:Nat):Int),.sl (enL cCl l) tk,.ptr H.length 0 0,.ptr H1.length 0 0,.ptr H2.length 0 0,.ptr H3.length 0 0,.i6 (k:Int)]/\PS b (plK (AS n) (n+1) x y l k out).1 w' Hc/\Hc[H.length]? = some (.c0 (A2 x))/\Hc[H1.length]? = some (.c0 (A2 y))/\Hc[H2.length]? = some (.c0 (A2 (2^n)))/\Hc[H3.length]? = some (.c0 (cNd (plK (AS n) (n+1) x y l k out).2))/\Kp b H Hc)
   (by decide) (λk vs Hc hk hI=>?_) (vs:=[w,.i6 ((n+1:Nat):Int),.sl (enL cCl l) tk,.ptr H.length 0 0,.ptr H1.length 0 0,.ptr H2.length 0 0,.ptr H3.length 0 0,.i6 0]) (H:=H3++[Blk.c0 (cNd ⟨((n+1:Nat):Int),0,0,0,0⟩)])
   ⟨w,rfl,hPS',f6,f8,f15,by simp[plK],hKp'⟩
  obtain⟨vs',Hc,⟨w',rfl,g1,g2,g3,g4,g5,g6⟩,rec,aB⟩:=loop;have bL:=Sv n out x y l 4 (W7 _);have cA:=SF (n+1) x y l;have dB:MY (n+1) x y l 4*n<=l.length*n:=Xg _ cA;have rA:l.length*(n+1)=l.length*n+l.length:=Nat.mul_succ _ _;obtain⟨w2,H4,a1,a2,a3⟩:=g1.snoc (WV hb g6.len) (plK (AS n) (n+1) x y l 4 out).2 (by omega);obtain⟨tk4,rfl⟩:=a2.sl;have hf:¬(((4:Nat):Int)<4):=(by decide);refine⟨H4,_,?_,a2,g6.trans a3⟩;rw[aB];unfold UbB;simp only[GMw,Aj,hf,Ig g5,KC,a1,Aw,WC,zXi];obtain⟨w',rfl,g1,g2,g3,g4,g5,g6⟩:=hI;obtain⟨w2,Hd,q1,q2,q3,q4,q5,q6,q7⟩:=VdB cO hn H Hc out w' x y l tk H.length H1.length H2.length H3.length k hk hb (by omega) hok cnx cny hl hlen g1 g2 g3 g4 g5 g6 (by omega) (by omega) (by omega);exact⟨_,_,⟨w2,rfl,q2,q3,q4,q5,q6,q7⟩,q1⟩
theorem V8 (b:Nat):∀n d,n+1<=1329->n+1<=d->Vo5 b (n+1) (UeW d)
 |0,d,h1,h2=>by obtain⟨d,rfl⟩:∃e,d=e+1:=⟨d-1,by omega⟩;exact Tx (.inl rfl) h1
 |n+1,d,h1,h2=>by obtain⟨d,rfl⟩:∃e,d=e+1:=⟨d-1,by omega⟩;exact Tx (.inr (V8 b n d (by omega) (by omega))) h1
structure RC where
 n1:Bool
 l1:zAb
 n2:Bool
 l2:zAb
 s:UInt8
def cRC (r:RC):List Ab:=[.bool r.n1,.sl (enL cU r.l1) .no,.bool r.n2,.sl (enL cU r.l2) .no,.int .u8 (r.s.toNat:Int)]
instance:Sz cRC 5:=⟨λ_=>rfl⟩
def RC.fits (r:RC):Prop:=Lim r.l1/\Lim r.l2/\r.l1.length<=549755813888/\r.l2.length<=549755813888
def RC.right (r:RC):Bool:=HS r.n1 r.l1&&HS r.n2 r.l2
def RC.cl (r:RC):Cl:=⟨Em r.n1 r.l1,Em r.n2 r.l2,r.s⟩
theorem Voo {r:RC}(h:r.right=true)(hf:r.fits):cRC r=cCl r.cl:=by simp only[RC.right,WG]at h;have e1:=Vhf h.1 hf.1;have e2:=Vhf h.2 hf.2.1;show [Ab.bool r.n1,.sl (enL cU r.l1) .no]++([Ab.bool r.n2,.sl (enL cU r.l2) .no]++[.int .u8 (r.s.toNat:Int)])=_;rw[e1,e2];rfl
theorem Vks {l:List RC}(h:∀r∈l,r.right=true)(hf:∀r∈l,r.fits):enL cRC l=enL cCl (l.map RC.cl):=by unfold enL;rw[Zz];exact Y6 λr hr=>Voo (h r hr) (hf r hr)
def Kc (most:Int)(l:List RC):Bool:=decide ((l.length:Int)>most) || !((List.range l.length).all λi=>match l[i]? with | some r=>decide (r.l1.length<=50)&&decide (r.l2.length<=50) | none=>true)
theorem Vfe (l:List RC)(tk:Tok)(most:Int)(H:Aa)(hl:l.length<1152921504606846976):UdE (.sl (enL cRC l) tk) (.i6 most) H=some (.ret (.bool (Kc most l)),H):=by
 unfold UdE Kc;simp only[GMw,Aw];by_cases hm:(l.length:Int)>most;simp only[hm,GMw]
 ·simp only[hm,GMw];have key:=Eh (G:=λrec1 vs H1=>UdD H rec1 (ag vs 0) (ag vs 1) H1) l.length (λi=>match l[i]? with | some r=>decide (r.l1.length<=50)&&decide (r.l2.length<=50) | none=>true) (λi=>[.sl (enL cRC l) tk,.i6 (i:Int)]) H (some (.ret (.bool false),H)) (some (.ret (.bool true),H)) hl (λrec i hi=>?_) (λrec=>?_)
  ·refine key.trans ?_;cases(List.range l.length).all λi=>match l[i]? with | some r=>decide (r.l1.length<=50)&&decide (r.l2.length<=50) | none=>true<;>rfl
  have aE:(i:Int)<(l.length:Int):=(by omega);have aK:=Au (show i<9223372036854775807 by omega);have g1:∀H,Ad false 1 (.cptr (cRC l[i]) 1) H=some (.sl (enL cU l[i].l1) .no):=λH=>rfl;have g2:∀H,Ad false 1 (.cptr (cRC l[i]) 3) H=some (.sl (enL cU l[i].l2) .no):=λH=>rfl;have d1:decide ((l[i].l1.length:Int)>50) = !decide (l[i].l1.length<=50):=(by rw[WP];simp;omega);have d2:decide ((l[i].l2.length:Int)>50) = !decide (l[i].l2.length<=50):=(by rw[WP];simp;omega);unfold UdD;simp only[GMw,Aw,aE,Ay hi,Aq,W9,g1,W4 hi,d1];cases decide (l[i].l1.length<=50)with|false=>simp only[GMw]|true=>simp only[GMw,Ay hi,Aq,W9,show 2+1=3 from rfl,g2,Aw,d2,aK];cases decide (l[i].l2.length<=50)<;>simp only[GMw]
  unfold UdD;simp only[GMw,Aw,Xm]
def J5:Nat->Nat->Cl->Nat
 |0,v,_=>v
 |f+1,v,c=>if EV v c then v else J5 f (v+1) c
def A9 (l:List Cl):Nat:=l.foldl (λv c=>J5 (1330-v) v c) 1
theorem VaZ:∀f v c,v<=J5 f v c/\J5 f v c<=v+f
 |0,v,c=>⟨W7 _,W7 _⟩
 |f+1,v,c=>by unfold J5;split;omega;have:=VaZ f (v+1) c;omega
theorem VP (l:List Cl):∀v,1<=v->v<=1330->v<=l.foldl (λv c=>J5 (1330-v) v c) v/\l.foldl (λv c=>J5 (1330-v) v c) v<=1330:=by
 induction l with
 |nil=>intro v h1 h2;simp;omega
 |cons c l ih=>intro v h1 h2;have h:=VaZ (1330-v) v c;have:=ih (J5 (1330-v) v c) (by omega) (by omega);simp only[List.foldl_cons];omega
theorem Jk (l:List Cl):1<=A9 l/\A9 l<=1330:=VP l 1 (by omega) (by omega)
def CU (l:List Cl):List Nd×Int:=
 if A9 (Bo l)>1329 then ([],4)
 else if T9 (AS (A9 (Bo l)) [] (-(2^(A9 (Bo l)-1))) (-(2^(A9 (Bo l)-1))) (Bo l)).1 ((AS (A9 (Bo l)) [] (-(2^(A9 (Bo l)-1))) (-(2^(A9 (Bo l)-1))) (Bo l)).2:Int)
 then (Jv (AS (A9 (Bo l)) [] (-(2^(A9 (Bo l)-1))) (-(2^(A9 (Bo l)-1))) (Bo l)).1 (AS (A9 (Bo l)) [] (-(2^(A9 (Bo l)-1))) (-(2^(A9 (Bo l)-1))) (Bo l)).2,0)
 else ([],1)
theorem VU {l:List Cl}{c:Cl}(h:c∈Bo l):c∈l:=by have h1:=(Xz.1 h).1;have:=(GE (l:=l) l.length (W7 _)).2;rw[WH (W7 _)]at this;exact this c h1
theorem VV (l:List Cl):(Bo l).length<=l.length:=by have h1:(Bo l).length<=(Dx l).length:=XJ _ _;have:=(GE (l:=l) l.length (W7 _)).1;rw[WH (W7 _)]at this;omega
theorem VgL {v:Nat}(h1:1<=v)(h:v<=1329):Cn v (-(2^(v-1))):=by unfold Cn;rw[Int.natAbs_neg,J1];have e:(2:Nat)^(v+1)=2^v*2:=Nat.pow_succ _ _;have e1:(2:Nat)^(v-1)<=2^v:=Xe (by omega) (by omega);have:=VjI (v:=v+1) (by omega);omega
theorem IX {H Hq:Aa}{tk:Tok}{Q:List Nd}{e:Int}(hc:Hq[H.length]? = some (.c0 [.sl [] .ti]))(hold:∀i,i<H.length->Hq[i]? = H[i]?):(bP H (AA (Ai 1 (.ptr H.length 0 0) (.agg [.sl (enL cNd Q) tk]) Hq)) λ_ H37=>(Ex [Ad true 1 (.ptr H.length 0 0) H37,some (.i6 e)]).bind λx38=>rPN H x38 H37)=some (.ret (.tup [Dp Q,.i6 e]),H):=by
 have aG:=(W5.1 hc).1;have hst:Ai 1 (.ptr H.length 0 0) (.agg [.sl (enL cNd Q) tk]) Hq=some (Hq.set H.length (.c0 [.sl (enL cNd Q) tk])):=by simp only[Ai,Ax hc,zXa,Bw hc];rfl
 have hld:Ad true 1 (.ptr H.length 0 0) (Hq.set H.length (.c0 [.sl (enL cNd Q) tk]))=some (.agg [.sl (enL cNd Q) tk]):=by
  have:(Hq.set H.length (.c0 [.sl (enL cNd Q) tk]))[H.length]? = some (.c0 [.sl (enL cNd Q) tk]):=by rw[WJ aG]
  simp only[Ad,Ax this,zXa];rfl
 have aT:(Hq.set H.length (.c0 [.sl (enL cNd Q) tk])).take H.length=H:=Cv λi hi=>by rw[WA (by omega),hold i hi]
 simp only[GMw,hst,hld,EX,Dl,DN,zXb,Gz aT,Cs,By,BB,FH,DR,EE,GV,Dc]
 rfl
theorem VfG {G:LK->LK}(N:Nat)(p:Nat->Bool)(st:Nat->List Ab)(H:Aa)(yes no:Out)(hN:N<1152921504606846976)
  (turn:∀(rec:LK)(i:Nat),i<N->G rec (st i) H=if p i then rec (st (i+1)) H else no)(last:(List.range N).all p=true->∀rec:LK,G rec (st N) H=yes):Al G AU (st 0) H=if (List.range N).all p then yes else no:=by
 refine Bv (σ:=Nat) (λi=>i<=N/\∀j,j<i->p j=true) st (λ_=>H) (λi=>N-i) (λ_=>if (List.range N).all p then yes else no) (λi rec hi hrec=>?_) 0 ⟨WZ _,λj hj=>by omega⟩ (by omega);by_cases h:i<N
 ·rw[turn rec i h];cases hp:p i with
  |true=>exact hrec (i+1) ⟨h,λj hj=>by
    by_cases e:j=i;rw[e];exact hp
    ·exact hi.2 j (by omega)⟩ (by omega)
  |false=>have:(List.range N).all p=false:=(by rw[XR];exact⟨i,by simpa using h,by simp[hp]⟩);simp[this]
 ·have e:i=N:=by omega
  subst e;have:(List.range i).all p=true:=by rw[WO];intro j hj;exact hi.2 j (by simpa using hj)
  rw[last this,this];rfl
def Ov (S:List Cl):List Nd×Int:=
 if A9 S>1329 then ([],4)
 else if T9 (AS (A9 S) [] (-(2^(A9 S-1))) (-(2^(A9 S-1))) S).1 ((AS (A9 S) [] (-(2^(A9 S-1))) (-(2^(A9 S-1))) S).2:Int)
 then (Jv (AS (A9 S) [] (-(2^(A9 S-1))) (-(2^(A9 S-1))) S).1 (AS (A9 S) [] (-(2^(A9 S-1))) (-(2^(A9 S-1))) S).2,0)
 else ([],1)
theorem Sx (l:List Cl):CU l=Ov (Bo l):=rfl
theorem VfM (H B:Aa)(aA:LK)(p:Ab)(l:List Cl)(tk:Tok)(i:Nat)(hi:i<l.length)(jR:l.length<2147483648)(hc:l[i].ok):∀(f v n:Nat),f+v=1330->1<=v->f<n ->
  Al (λdG vs H1=>Ud6 H aA dG (ag vs 0) (ag vs 1) (ag vs 2) (ag vs 3) H1) n [p,.sl (enL cCl l) tk,.i6 (v:Int),.i6 (i:Int)] B=aA [p,.sl (enL cCl l) tk,.i6 (J5 f v l[i]:Int),.i6 ((i+1:Nat):Int)] B:=by
 intro f
 induction f with
 |zero=>
  intro v n h1 h2 h3;obtain⟨n,rfl⟩:∃m,n=m+1:=⟨n-1,by omega⟩;have hv:¬(v:Int)<=1329:=by omega
  have aK:=Au (show i<9223372036854775807 by omega);rw[Cp];unfold Ud6;simp only[GMw,Aj,hv,aK]
  rfl
 |succ f ih=>
  intro v n h1 h2 h3;obtain⟨n,rfl⟩:∃m,n=m+1:=⟨n-1,by omega⟩;have hv:(v:Int)<=1329:=by omega
  have aK:=Au (show i<9223372036854775807 by omega);have uB:=Au (show v<9223372036854775807 by omega);have hw:=λH=>Vd7 l[i] v H hc h2 (by omega);rw[Cp];unfold Ud6 J5;simp only[GMw,Aj,hv,Ay hi,Pu,hw];cases EV v l[i]with|true=>simp only[GMw,aK]|false=>simp only[GMw,uB];exact ih (v+1) n (by omega) (by omega) (by omega)
theorem Pf {H:Aa}{e:Int}:((A6 (some [(.sl [] .ti)]) []).bind λx57=>bP H (AA (Ai 1 (.ptr H.length 0 0) x57 (H++[.c0 [.sl [] .ti]]))) λ_ H59=>(Ex [Ad true 1 (.ptr H.length 0 0) H59,some (.i6 e)]).bind λx60=>rPN H x60 H59)=some (.ret (.tup [Dp [],.i6 e]),H):=by rw[show A6 (some [(.sl [] .ti)]) []=some (.agg [.sl (enL cNd []) .ti]) from rfl];rw[BA];exact IX (by simp) λi hi=>by rw[W8 hi]
theorem Vn2 (l:List RC)(tk:Tok)(H:Aa)(hl:l.length<2147483648)(hf:∀r∈l,r.fits)(hs:∀r∈l,r.right=true->r.cl.ok):Ud9 (.sl (enL cRC l) tk) H=some (.ret (if l.all RC.right then .tup [Dp (CU (l.map RC.cl)).1,.i6 (CU (l.map RC.cl)).2]else .tup [Dp [],.i6 1]),H):=by
 unfold Ud9;rw[alloc_eq (cs:=[.sl [] .ti]) rfl];simp only[GMw];have aD:l.all RC.right=(List.range l.length).all λi=>match l[i]? with | some r=>r.right | none=>true:=by
  rw[WP,WO,WO];constructor;intro h i hi;have aE:i<l.length:=(by simpa using hi);rw[W4 aE];exact h _ (WI aE)
  ·intro h r hr;obtain⟨i,hi,rfl⟩:=Xf hr;have:=h i (by simpa using hi)
   rwa [W4 hi]at this
 have key:=VfG (G:=λrec1 vs H1=>Ud8 H rec1 (ag vs 0) (ag vs 1) (ag vs 2) H1) l.length (λi=>match l[i]? with | some r=>r.right | none=>true) (λi=>[.sl (enL cRC l) tk,.ptr H.length 0 0,.i6 (i:Int)]) (H++[.c0 [.sl [] .ti]])
  (some (.ret (.tup [Dp (CU (l.map RC.cl)).1,.i6 (CU (l.map RC.cl)).2]),H)) (some (.ret (.tup [Dp [],.i6 1]),H)) (by omega) (λrec i hi=>?_) (λhr rec=>?_)
 ·refine key.trans ?_;rw[aD];cases(List.range l.length).all λi=>match l[i]? with | some r=>r.right | none=>true<;>rfl
 ·have aE:(i:Int)<(l.length:Int):=by omega
  have aK:=Au (show i<9223372036854775807 by omega);have dW:=hf _ (WI hi);have g1:∀H,Ad true 2 (.cptr (cRC l[i]) 0) H=some (.agg [.bool l[i].n1,.sl (enL cU l[i].l1) .no]):=λH=>rfl;have g2:∀H,Ad true 2 (.cptr (cRC l[i]) 2) H=some (.agg [.bool l[i].n2,.sl (enL cU l[i].l2) .no]):=λH=>rfl;have r1:=λH=>VE l[i].n1 l[i].l1 .no H dW.2.2.1;have r2:=λH=>VE l[i].n2 l[i].l2 .no H dW.2.2.2;unfold Ud8;simp only[GMw,Aw,aE,Ay hi,Aq,W9,g1,r1,W4 hi,RC.right];cases HS l[i].n1 l[i].l1 with
  |false=>simp only[GMw,Pf]
  |true=>simp only[GMw,Ay hi,Aq,W9,g2,r2];cases HS l[i].n2 l[i].l2 with|false=>simp only[GMw,Pf]|true=>simp only[GMw,aK]
 ·rw[<-aD]at hr;have gH:∀r∈l,r.right=true:=WO.1 hr;have aG:∀c∈l.map RC.cl,c.ok:=λc hc=>by obtain⟨r,h1,rfl⟩:=XM.1 hc;exact hs r h1 (gH r h1)
  unfold Ud8;simp only[GMw,Aw,Xm];rw[Vks gH hf];generalize hL:l.map RC.cl=L at aG;have hLl:L.length<2147483648:=by rw[<-hL];simpa using hl
  simp only[GMw,Vif L tk _ (by omega) aG,Sx];have eF:∀c∈Bo L,c.ok:=λc hc=>aG c (VU hc);have hsl:=VV L;generalize Bo L=S at eF hsl;refine Cx (G:=λaA vs H1=>Ud7 H aA (ag vs 0) (ag vs 1) (ag vs 2) (ag vs 3) H1) S.length (λi=>[.ptr H.length 0 0,.sl (enL cCl S) .no,.i6 (A9 (S.take i):Int),.i6 (i:Int)]) (λ_=>H++[.c0 [.sl [] .ti]])
   (some (.ret (.tup [Dp (Ov S).1,.i6 (Ov S).2]),H)) (by omega) (λaA i hi=>?_) (λaA=>?_)
  have aE:(i:Int)<(S.length:Int):=(by omega);obtain⟨v1,v2⟩:=Jk (S.take i);have aC:=VfM H (H++[.c0 [.sl [] .ti]]) aA (.ptr H.length 0 0) S .no i hi (by omega) (eF _ (WI hi)) (1330-A9 (S.take i)) (A9 (S.take i)) AU (by omega) v1 (by rw[Dj];omega);have aJ:A9 (S.take (i+1))=J5 (1330-A9 (S.take i)) (A9 (S.take i)) S[i]:=(by unfold A9;rw[WF hi,Yd];rfl);unfold Ud7;simp only[GMw,Aj,Aw,aE];rw[aJ];exact aC;obtain⟨v1,v2⟩:=Jk S;unfold Ud7 Ov;rw[WH (W7 _)];generalize A9 S=v at v1 v2;simp only[GMw,Aj,Aw,Xm];by_cases hv:v>1329;have aP:(v:Int)>1329:=(by omega);simp only[GMw,aP,if_pos hv,Pf];have aP:¬(v:Int)>1329:=(by omega);obtain⟨n,rfl⟩:∃n,v=n+1:=⟨v-1,by omega⟩;have mG:IntKind.i64.wrap (((n+1:Nat):Int)-1)=(n:Int):=(by rw[Am]<;>omega);have hp:SB 44 (2^n):=EW (by omega);have cE:=λH=>IA n H (by omega);have gW:=λH=>Jc (2^n) H (hp.lb (by decide));have kF:=VgL (v:=n+1) (by omega) (by omega);rw[WQ]at kF;rw[if_neg hv];have s1:∀B:Aa,Ai 2 (.ptr B.length 0 0) (big (-(2^n))) (B++[.c0 [.bool false,.sl [] .ti]])=some (B++[.c0 (A2 (-(2^n)))]):=λB=>(by rw[BP (An (B:=B)) rfl,Be]);have dB:S.length*(n+1)<=2147483648*1329:=YF (by omega) (by omega);have hlen:([]:List Nd).length+S.length*(n+1)<3518437208883:=(by simp only[zXk];omega);obtain⟨Hq,w',p1,p2,p3⟩:=V8 (H++[Blk.c0 [.sl [] .ti]]).length n AU (by omega) (by rw[Dj];omega) [] (.sl [] .ti) (-(2^n)) (-(2^n)) S .no (H++[.c0 [.sl [] .ti]]++[.c0 (A2 (-(2^n)))]) (.inl ⟨rfl,rfl⟩) (by simp) eF kF kF (by omega) hlen;obtain⟨tk2,rfl⟩:=p2.sl;have bL:=WV (Q5 (n+1) [] (-(2^n)) (-(2^n)) S) (Nat.add_le_add_left dB _);simp only[zXk]at bL;simp only[GMw,aP,mG,cE,gW,CR,s1,Ba An,p1,B4,BE,WQ];generalize AS (n+1) [] (-(2^n)) (-(2^n)) S=P at p1 p2 bL;obtain⟨Q,r⟩:=P;dsimp only at p1 p2 bL⊢;have uQ:=λH=>Vn3 Q tk2 (r:Int) H (by omega);have bU:Hq[H.length]? = some (.c0 [.sl [] .ti]):=p3.cel _ _ (by simp);have hold:∀i,i<H.length->Hq[i]? = H[i]? := λi hi=>(by rw[p3.old i (by simp;omega),WD,W8 hi]);simp only[GMw,uQ];cases T9 Q (r:Int)with|false=>simp only[GMw,B4,BE,Dp,Bl];exact IX bU hold|true=>simp only[GMw,B4,BE,Dp,Bl,zXl];exact IX bU hold
def LM (c:UInt8):Bool:=decide (33<=c.toNat/\c.toNat<=126)
theorem Vii (c:UInt8)(H:Aa):UcE (.int .u8 (c.toNat:Int)) H=some (.ret (.bool (LM c)),H):=by
 unfold UcE LM;by_cases h:(33:Int)<=c.toNat
 ·have:33<=c.toNat:=by omega
  simp[h,this];omega
 ·have:¬33<=c.toNat:=by omega
  simp[h,this]
def Hs (s:zAa):Bool:=s.all LM&&decide (1<=s.length/\s.length<=40)
theorem Vca (s:zAa)(H:Aa)(hs:s.length<1152921504606846976):Ubp (.str s) H=some (.ret (.bool (Hs s)),H):=by
 unfold Ubp;refine Bv (σ:=Nat) (λi=>i<=s.length/\(s.take i).all LM=true) (λi=>[.str s,.i6 (i:Int)]) (λ_=>H) (λi=>s.length-i) (λ_=>some (.ret (.bool (Hs s)),H)) (λi rec hi hrec=>?_) 0 ⟨by omega,by simp⟩ (by omega);obtain⟨hi,aD⟩:=hi;unfold Ue7;by_cases h:i<s.length
 ·have hx:(i:Int)<(s.length:Int):=by omega
  simp only[Ao,Bf,Ec,zXa,Bn,hx,decide_true,AZ,DC h,Vii,F3,JS];cases hc:LM s[i]with|false=>have:Hs s=false:=(by simp only[Hs,Yp];left;rw[XR];exact⟨s[i],WI h,by simp[hc]⟩);simp[this]|true=>have:=hrec (i+1) ⟨h,by rw[WF h,Zl];simp[aD,hc]⟩ (by omega);simp (disch:=omega) [Am];simpa using this
 ·have hx:¬(i:Int)<(s.length:Int):=by omega
  have he:s.take i=s:=WH (by omega);rw[he]at aD;by_cases h1:(1:Int)<=s.length;simp[hx,h1,Hs,aD];by_cases h2:s.length<=40;have:(s.length:Int)<=40:=(by omega);simp[this,h2];omega;have:¬(s.length:Int)<=40:=(by omega);simp[this,h2];have:s=[]:=WM (by omega);subst this;have hz:i=0:=(by simpa using hi);subst hz;simp[Hs]
def FO (most:Int)(l:List RC):List Nd×Bool:=
 if Kc most l then ([],false)
 else if l.all RC.right then ((CU (l.map RC.cl)).1,decide ((CU (l.map RC.cl)).2=0))else ([],false)
def RC.lim (r:RC):Prop:=Lim r.l1/\Lim r.l2
theorem ViZ {most:Int}{l:List RC}(h:Kc most l=false)(hl:∀r∈l,r.lim):(l.length:Int)<=most/\(∀r∈l,r.fits)/\∀r∈l,r.cl.ok:=by
 simp only[Kc,Y5,decide_eq_false_iff_not,YS,WO]at h;obtain⟨h1,h2⟩:=h;have hs:∀r∈l,r.l1.length<=50/\r.l2.length<=50:=λr hr=>by obtain⟨i,hi,rfl⟩:=Xf hr;have:=h2 i (by simpa using hi);rw[W4 hi]at this;simpa using this
 refine⟨by omega,λr hr=>⟨(hl r hr).1,(hl r hr).2,by have:=(hs r hr).1;omega,by have:=(hs r hr).2;omega⟩,λr hr=>⟨?_,?_⟩⟩;have h3:=SL r.l1 (hl r hr).1;have h4:=Gd (show r.l1.length<=100 by have:=(hs r hr).1;omega);show(Em r.n1 r.l1).natAbs<_;rw[Qe];exact X1 h3 h4;have h3:=SL r.l2 (hl r hr).2;have h4:=Gd (show r.l2.length<=100 by have:=(hs r hr).2;omega);show(Em r.n2 r.l2).natAbs<_;rw[Qe];exact X1 h3 h4
theorem Vie (l:List RC)(tk:Tok)(most:Int)(H:Aa)(hm:most<2147483648)(jR:l.length<1152921504606846976)(hl:∀r∈l,r.lim):UdF (.sl (enL cRC l) tk) (.i6 most) H=some (.ret (.tup [Dp (FO most l).1,.bool (FO most l).2]),H):=by
 unfold UdF FO;rw[alloc_eq (cs:=[.sl [] .ti]) rfl];simp only[GMw,Vfe l tk most _ jR];have tail:∀(Q:List Nd)(q:Bool)(Hq:Aa)(tk:Tok),Hq[H.length]? = some (.c0 [.sl [] .ti])->(∀i,i<H.length->Hq[i]? = H[i]?) ->
   (bP H (AA (Ai 1 (.ptr H.length 0 0) (.agg [.sl (enL cNd Q) tk]) Hq)) λ_ H37=>(Ex [Ad true 1 (.ptr H.length 0 0) H37,some (.bool q)]).bind λx38=>rPN H x38 H37)=some (.ret (.tup [Dp Q,.bool q]),H):=by
  intro Q q Hq tk hc hold;have aG:=(W5.1 hc).1;have hst:Ai 1 (.ptr H.length 0 0) (.agg [.sl (enL cNd Q) tk]) Hq=some (Hq.set H.length (.c0 [.sl (enL cNd Q) tk])):=by simp only[Ai,Ax hc,zXa,Bw hc];rfl
  have hld:Ad true 1 (.ptr H.length 0 0) (Hq.set H.length (.c0 [.sl (enL cNd Q) tk]))=some (.agg [.sl (enL cNd Q) tk]):=by have:(Hq.set H.length (.c0 [.sl (enL cNd Q) tk]))[H.length]? = some (.c0 [.sl (enL cNd Q) tk]):=(by rw[WJ aG]);simp only[Ad,Ax this,zXa];rfl
  have aT:(Hq.set H.length (.c0 [.sl (enL cNd Q) tk])).take H.length=H:=Cv λi hi=>by rw[WA (by omega),hold i hi]
  simp only[GMw,hst,hld,EX,Dl,DN,zXb,Gz aT,Cs,By,BB,FH,DR,EE,GV,Fs]
  rfl
 cases hg:Kc most l with
 |true=>simp only[GMw];rw[show A6 (some [(.sl [] .ti)]) []=some (.agg [.sl (enL cNd []) .ti]) from rfl,BA];exact tail [] false _ _ (by simp) λi hi=>by rw[W8 hi]
 |false=>
  obtain⟨g1,g2,g3⟩:=ViZ hg hl;simp only[GMw,Vn2 l tk _ (by omega) g2 (λr hr _=>g3 r hr)];have mid:∀(Q:List Nd)(e:Int),((At 0 (.tup [Dp Q,.i6 e])).bind λx13=>(At 1 (.tup [Dp Q,.i6 e])).bind λx14=>
    Ap (A0 (some [(.sl [] .ti)]) (H++[Blk.c0 [.sl [] .ti]])) λq_15 H16=>bP H (AA (Ai 1 q_15 x13 H16)) λ_ H18=>(Ad true 1 q_15 H18).bind λx19=>
    (Af .none .eql x14 (.i6 0)).bind λx20=>bP H (AA (Ai 1 (.ptr H.length 0 0) x19 H18)) λ_ H22=>(Ex [Ad true 1 (.ptr H.length 0 0) H22,some x20]).bind λx23=>rPN H x23 H22)=some (.ret (.tup [Dp Q,.bool (decide (e=0))]),H):=by
   intro Q e;rw[alloc_eq (cs:=[.sl [] .ti]) rfl];have hB:∀B:Aa,Ai 1 (.ptr B.length 0 0) (.agg [.sl (enL cNd Q) .no]) (B++[.c0 [.sl [] .ti]])=some (B++[.c0 [.sl (enL cNd Q) .no]]):=λB=>(by simp only[Ai,Ax (An (B:=B) (cs:=[.sl [] .ti])),zXa,Bw (An (B:=B) (cs:=[.sl [] .ti])),Be];rfl);have hL:∀B:Aa,Ad true 1 (.ptr B.length 0 0) (B++[.c0 [.sl (enL cNd Q) .no]])=some (.agg [.sl (enL cNd Q) .no]):=λB=>(by simp only[Ad,Ax (An (B:=B)),zXa];rfl);simp only[B4,BE,GMw,Dp,Bl,hB,hL];exact tail Q _ _ _ (by simp) λi hi=>by rw[WD,W8 hi]
  cases hr:l.all RC.right with|true=>simp only[GMw];exact mid _ _|false=>simp only[GMw];exact mid [] 1
def Fb (rule:zAa)(L:List Nd):List Ab:=[.str rule,.sl (enL cNd L) .no]
def pat (rule:zAa)(L:List Nd):Ab:=.agg (Fb rule L)
theorem Vdg (rule:zAa)(L:List Nd)(H:Aa):BC true 2 (pat rule L) H=some (.ptr H.length 0 0,H++[.c0 (Fb rule L)]):=Ce rfl rfl
section
variable {H:Aa}{p:Nat}{rule:zAa}{L:List Nd}
theorem TH (hg:H[p]? = some (.c0 (Fb rule L))):Ad false 1 (.ptr p 0 0) H=some (.str rule):=by simp only[Ad,Ax hg,zXa];rfl
theorem KY (hg:H[p]? = some (.c0 (Fb rule L))):Ad true 1 (.ptr p 0 1) H=some (Dp L):=by simp only[Ad,Ax hg,zXa];rfl
theorem NI (hg:H[p]? = some (.c0 (Fb rule L))):Ad true 2 (.ptr p 0 0) H=some (pat rule L):=by simp only[Ad,Ax hg,zXa];rfl

end
theorem VeY (rule:zAa)(L:List Nd)(H:Aa)(hr:rule.length<1152921504606846976)(hL:L.length<17592186044415):UcQ (pat rule L) H=some (.ret (.bool (Hs rule&&DO L)),H):=by unfold UcQ;have e1:(H++[Blk.c0 (Fb rule L)])[H.length]? = some (.c0 (Fb rule L)):=An;simp only[GMw,Vdg,Ae,W9,Nat.add_zero,TH e1,Vca rule _ hr];cases Hs rule with|false=>simp only[GMw,Ey]|true=>simp only[GMw,Ae,W9,KY e1,Dp,Bl,Vff L .no _ hL,Ey]
theorem Vnz (rule:zAa)(l:List RC)(tk:Tok)(most:Int)(H:Aa)(hr:rule.length<1152921504606846976)(hm:most<2147483648)(jR:l.length<1152921504606846976)(hl:∀r∈l,r.lim):Uae (.str rule) (.sl (enL cRC l) tk) (.i6 most) H=some (.ret (.tup [pat rule (FO most l).1,.bool ((FO most l).2&&Hs rule)]),H):=by
 unfold Uae;rw[alloc_eq (cs:=[.str [],.sl [] .ti]) rfl];simp only[GMw,Vie l tk most _ hm jR hl,B4,BE,alloc_eq (cs:=[Ab.sl [] .ti]) rfl];generalize FO most l=Q;obtain⟨Q,ok⟩:=Q;dsimp only;have hB:∀B:Aa,Ai 1 (.ptr B.length 0 0) (Dp Q) (B++[.c0 [.sl [] .ti]])=some (B++[.c0 (Bl Q)]):=λB=>by unfold Dp Bl;simp only[Ai,Ax (An (B:=B) (cs:=[.sl [] .ti])),zXa,Bw (An (B:=B) (cs:=[.sl [] .ti])),Be];rfl
 have hL:∀B:Aa,Ad true 1 (.ptr B.length 0 0) (B++[.c0 (Bl Q)])=some (Dp Q):=λB=>by unfold Dp Bl;simp only[Ad,Ax (An (B:=B)),zXa];rfl
 have hb:A6 (some [.str [],.sl [] .ti]) [(0,1,.str rule),(1,1,Dp Q)]=some (pat rule Q):=by unfold Dp Bl pat Fb;simp[A6,GF,D7,Ab.acells]
 have hst:Ai 2 (.ptr H.length 0 0) (pat rule Q) (H++[Blk.c0 [.str [],.sl [] .ti]]++[.c0 (Bl Q)])=some (H++[Blk.c0 (Fb rule Q)]++[.c0 (Bl Q)]):=by
  have hc:(H++[Blk.c0 [.str [],.sl [] .ti]]++[.c0 (Bl Q)])[H.length]? = some (.c0 [.str [],.sl [] .ti]):=by simp
  unfold pat Fb;simp only[Ai,Ax hc,zXa,Bw hc,Cb (cs:=[Ab.str rule,.sl (enL cNd Q) .no]) rfl,D6 (cs:=[Ab.str [],.sl [] .ti]) (sz:=2) rfl];simp
 have hld:Ad true 2 (.ptr H.length 0 0) (H++[Blk.c0 (Fb rule Q)]++[.c0 (Bl Q)])=some (pat rule Q):=NI (by simp);have fin:∀q:Bool,((Ex [Ad true 2 (.ptr H.length 0 0) (H++[Blk.c0 (Fb rule Q)]++[.c0 (Bl Q)]),some (.bool q)]).bind λx22=>rPN H x22 (H++[Blk.c0 (Fb rule Q)]++[.c0 (Bl Q)]))=some (.ret (.tup [pat rule Q,.bool q]),H):=λq=>by rw[hld,WD];unfold pat Fb;simp only[EX,Dl,DN,zXb,BA,C8,Cs,By,BB,FH,DR,EE,GV,Wj,Fs]
 simp only[hB,GMw];cases ok with|false=>simp only[GMw,hL,and_true,eq_self,hb,hst,fin]|true=>simp only[GMw,Vca rule _ hr,hL,and_true,eq_self,hb,hst,fin]
def K0 (a b:Int):Bool:=decide (0<=a)&&decide (a<=1000)&&decide (0<=b)&&decide (b<=100000)
theorem Vic (a b:Int)(H:Aa):Ubu (.agg [.i6 a,.i6 b]) H=some (.ret (.bool (K0 a b)),H):=by
 unfold Ubu K0;have e1:(H++[Blk.c0 [.i6 a,.i6 b]])[H.length]? = some (.c0 [.i6 a,.i6 b]):=An;have g1:Ad false 1 (.ptr H.length 0 0) (H++[Blk.c0 [.i6 a,.i6 b]])=some (.i6 a):=by simp only[Ad,Ax e1,zXa];rfl
 have g2:Ad false 1 (.ptr H.length 0 1) (H++[Blk.c0 [.i6 a,.i6 b]])=some (.i6 b):=by simp only[Ad,Ax e1,zXa];rfl
 simp only[GMw,Ce (sz:=2) (cs:=[Ab.i6 a,.i6 b]) rfl rfl,Ae,W9,Nat.add_zero,g1,ge_iff_le];cases decide (0<=a)with
 |false=>simp only[GMw,Ey]
 |true=>
  simp only[GMw,Ae,W9,Nat.add_zero,g1];cases decide (a<=1000)with
  |false=>simp only[GMw,Ey]
  |true=>simp only[GMw,Ae,W9,g2,ge_iff_le];cases decide (0<=b)with|false=>simp only[GMw,Ey]|true=>simp only[GMw,Ae,W9,g2,Ey]
theorem Vd6 (n:Int)(H:Aa):UcD (.i6 n) H=some (.ret (.bool (decide (1<=n)&&decide (n<=5))),H):=by unfold UcD;simp only[GMw,ge_iff_le];cases decide (1<=n)<;>simp only[GMw]
inductive QT where
 |nil
 |lf (a b c d:Int)
 |node (a b c d:QT)
deriving DecidableEq
def LY (L:List Nd)(E:List Bool):Nat->Nat->QT
 |0,_=>.nil
 |v+1,n=>
  if E.getD n true then .nil
  else if 1<(A8 L n).lv then .node (LY L E v (A8 L n).k0.toNat) (LY L E v (A8 L n).k1.toNat) (LY L E v (A8 L n).k2.toNat) (LY L E v (A8 L n).k3.toNat)
  else .lf (A8 L n).k0 (A8 L n).k1 (A8 L n).k2 (A8 L n).k3
abbrev sem (L:List Nd)(v n:Nat):QT:=LY L (A3 L) v n
def St (a:Int):Prop:=0<=a/\a<=255
def GJ:Nat->QT->Prop
 |_,.nil=>True
 |v,.lf a b c d=>v=1/\(St a/\St b/\St c/\St d)/\¬(a=0/\b=0/\c=0/\d=0)
 |v,.node a b c d=>2<=v/\v<=1329/\(GJ (v-1) a/\GJ (v-1) b/\GJ (v-1) c/\GJ (v-1) d)/\¬(a=.nil/\b=.nil/\c=.nil/\d=.nil)
def Bh:Nat->QT->List Nd->List Nd×Nat
 |_,.nil,out=>(out,0)
 |_,.lf a b c d,out=>BL out ⟨1,a,b,c,d⟩
 |v,.node a b c d,out=>
  BL (Bh (v-1) d (Bh (v-1) c (Bh (v-1) b (Bh (v-1) a out).1).1).1).1
   ⟨v,(Bh (v-1) a out).2,(Bh (v-1) b (Bh (v-1) a out).1).2,(Bh (v-1) c (Bh (v-1) b (Bh (v-1) a out).1).1).2,(Bh (v-1) d (Bh (v-1) c (Bh (v-1) b (Bh (v-1) a out).1).1).1).2⟩
theorem VnW (rec:Nat->List Nd->List Nd×Nat)(x:Nd)(out:List Nd):Ca rec x 4 out =
  ((rec x.k3.toNat (rec x.k2.toNat (rec x.k1.toNat (rec x.k0.toNat out).1).1).1).1,
   ⟨x.lv,(rec x.k0.toNat out).2,(rec x.k1.toNat (rec x.k0.toNat out).1).2,(rec x.k2.toNat (rec x.k1.toNat (rec x.k0.toNat out).1).1).2,(rec x.k3.toNat (rec x.k2.toNat (rec x.k1.toNat (rec x.k0.toNat out).1).1).1).2⟩):=rfl
def Lv (L:List Nd)(v n:Nat):Prop:=n<=L.length/\(n=0\/(A8 L n).lv.toNat=v)
theorem Lv.kid {L:List Nd}(hl:AF L=true){v n k:Nat}(h0:0<n)(h:Lv L (v+1) n)(h1:1<(A8 L n).lv)(hk:k<4):Lv L v ((A8 L n).kid k).toNat/\((A8 L n).kid k).toNat<n/\0<=(A8 L n).kid k:=by
 obtain⟨m,rfl⟩:∃m,n=m+1:=⟨n-1,by omega⟩;have hm:m<L.length:=h.1;obtain⟨l1,l2,l3⟩:=AQ hl hm;have hx:A8 L ((m+1:Nat):Int)=L[m]:=Bd hm;have hv:=h.2;rw[hx]at h1 hv⊢;obtain⟨q1,q2,q3⟩:=l3 k hk;by_cases hc:0<L[m].kid k
 ·obtain⟨r1,r2⟩:=q3 h1 hc;obtain⟨c,hcc⟩:∃c:Nat,L[m].kid k=((c+1:Nat):Int):=⟨(L[m].kid k-1).toNat,by omega⟩;have aG:c<L.length:=by omega
  have:=r2 L[c] (by rw[show(L[m].kid k-1).toNat=c from by omega];exact W4 aG);rw[hcc,show(((c+1:Nat):Int)).toNat=c+1 from by omega];refine⟨⟨by omega,.inr ?_⟩,by omega,by omega⟩;rw[Bd aG];omega
 rw[show(L[m].kid k).toNat=0 from by omega];exact⟨⟨WZ _,.inl rfl⟩,by omega,q1⟩
theorem Vc9 {L:List Nd}(hl:AF L=true):∀v n out,Lv L v n->Bp L (A3 L) v n out=Bh v (sem L v n) out
 |0,n,out,h=>rfl
 |v+1,n,out,h=>by
  unfold sem;simp only[Bp,LY];split
  ·rfl
  ·rename_i he;have h0:0<n:=PK (by simpa using he);have aJ:(A8 L (n:Int)).lv.toNat=v+1:=(by rcases h.2 with h | h<;>omega);split;rename_i h1;rw[VnW];have e:∀k,k<4->∀o,Bp L (A3 L) v ((A8 L n).kid k).toNat o=Bh v (sem L v ((A8 L n).kid k).toNat) o:=λk hk o=>Vc9 hl v _ o (Lv.kid hl h0 h h1 hk).1;have e0:=e 0 (by omega);have e1:=e 1 (by omega);have e2:=e 2 (by omega);have e3:=e 3 (by omega);simp only[Nd.kid]at e0 e1 e2 e3;simp only[Bh,WQ,e0,e1,e2,e3];have:(A8 L (n:Int)).lv=((v+1:Nat):Int):=(by omega);rw[this]
   ·rename_i h1;have:(A8 L (n:Int)).lv=1:=(by omega);simp only[Bh]
    congr 1
    cases hx:A8 L (n:Int)with
    |mk a b c d e=>rw[hx]at this;simp only at this;rw[this]
theorem PL {L:List Nd}(hl:AF L=true){n:Nat}(h0:0<n)(hn:n<=L.length):(A3 L).getD n true=(List.range 4).all λk=>decide ((A8 L n).kid k=0)||(decide (1<(A8 L n).lv)&&(A3 L).getD ((A8 L n).kid k).toNat true):=by
 obtain⟨m,rfl⟩:∃m,n=m+1:=⟨n-1,by omega⟩;have hm:m<L.length:=hn;have hpre:∀(r l:List Nd),∃s,A3 (l++r)=A3 l++s:=by
  intro r
  induction r with
  |nil=>intro l;exact⟨[],by simp⟩
  |cons x r ih=>intro l;obtain⟨s,hs⟩:=ih (l++[x]);exact⟨[Md (A3 l) x]++s,by rw[show l++x::r=l++[x]++r from by simp,hs,HL];simp⟩
 have hL:L=L.take m++[L[m]]++L.drop (m+1):=by rw[<-WF hm,Xk]
 obtain⟨s,hs⟩:=hpre (L.drop (m+1)) (L.take m++[L[m]]);rw[<-hL,HL]at hs;have hlen:(A3 (L.take m)).length=m+1:=by rw[CY];simp;omega
 have dP:(A3 L).getD (m+1) true=Md (A3 (L.take m)) L[m]:=by rw[hs,W6,W8 (by simp[hlen]),WX (by omega),hlen];simp
 rw[dP,Bd hm];obtain⟨l1,l2,l3⟩:=AQ hl hm;unfold Md;have hk:∀k,k<4->(decide (1<L[m].lv)&&(A3 (L.take m)).getD (L[m].kid k).toNat true)=(decide (1<L[m].lv)&&(A3 L).getD (L[m].kid k).toNat true):=by
  intro k hk;obtain⟨q1,q2,q3⟩:=l3 k hk;by_cases h1:1<L[m].lv
  ·have hlt:(L[m].kid k).toNat<m+1:=by by_cases hc:0<L[m].kid k;have:=(q3 h1 hc).1;omega;omega
   congr 1
   rw[hs,WD,W6,W6,W8 (by omega)]
  simp[h1]
 rw[Is,Is,hk 0 (by omega),hk 1 (by omega),hk 2 (by omega),hk 3 (by omega)]
theorem Gb (L:List Nd)(v:Nat):sem L v 0=.nil:=by unfold sem;cases v with|zero=>rfl|succ v=>simp only[LY,Ej,if_true]
theorem KN {L:List Nd}(hl:AF L=true){v n:Nat}(h:Lv L v n):sem L v n=.nil↔(A3 L).getD n true=true:=by
 unfold sem;cases v with
 |zero=>refine⟨λ_=>?_,λ_=>rfl⟩;rcases h.2 with h0 | h0;rw[h0];exact Ej L;by_cases hn:0<n;obtain⟨m,rfl⟩:∃m,n=m+1:=⟨n-1,by omega⟩;have hm:m<L.length:=h.1;rw[Bd hm]at h0;have:=(AQ hl hm).1;omega;obtain rfl:n=0:=(by omega);exact Ej L
 |succ v=>simp only[LY];split;rename_i he;exact⟨λ_=>he,λ_=>rfl⟩;rename_i he;split;exact⟨λh=>by (cases h),λh=>absurd h he⟩;exact⟨λh=>by (cases h),λh=>absurd h he⟩
theorem M3 {L:List Nd}(hl:AF L=true):∀v n,Lv L v n->GJ v (sem L v n)
 |0,n,h=>trivial
 |v+1,n,h=>by
  unfold sem;simp only[LY];split
  ·trivial
  rename_i he;have dE:(A3 L).getD n true=false:=(by simpa using he);have h0:0<n:=PK dE;have aJ:(A8 L (n:Int)).lv.toNat=v+1:=(by rcases h.2 with h | h<;>omega);have hle:=Pt hl h0 h.1;have eY:=PL hl h0 h.1;rw[dE,Is]at eY;split;rename_i h1;have e:∀k,k<4->GJ v (sem L v ((A8 L n).kid k).toNat):=λk hk=>M3 hl v _ (Lv.kid hl h0 h h1 hk).1;have e0:=e 0 (by omega);have e1:=e 1 (by omega);have e2:=e 2 (by omega);have e3:=e 3 (by omega);have f:∀k,k<4->sem L v ((A8 L n).kid k).toNat=.nil->(decide ((A8 L n).kid k=0)||(decide (1<(A8 L n).lv)&&(A3 L).getD ((A8 L n).kid k).toNat true))=true:=λk hk hs=>(by rw[KN hl (Lv.kid hl h0 h h1 hk).1]at hs;rw[hs];simp[h1]);refine⟨by omega,by omega,⟨e0,e1,e2,e3⟩,λ⟨n0,n1,n2,n3⟩=>?_⟩;rw[f 0 (by omega) n0,f 1 (by omega) n1,f 2 (by omega) n2,f 3 (by omega) n3]at eY;cases eY;rename_i h1;have rI:(A8 L (n:Int)).lv=1:=(by omega);obtain⟨m,rfl⟩:∃m,n=m+1:=⟨n-1,by omega⟩;have hm:m<L.length:=h.1;obtain⟨l1,l2,l3⟩:=AQ hl hm;have hx:A8 L ((m+1:Nat):Int)=L[m]:=Bd hm;rw[hx]at rI eY h1⊢;have s:∀k,k<4->St (L[m].kid k):=λk hk=>⟨(l3 k hk).1,(l3 k hk).2.1 rI⟩;refine⟨by rw[hx]at aJ;omega,⟨s 0 (by omega),s 1 (by omega),s 2 (by omega),s 3 (by omega)⟩,λ⟨n0,n1,n2,n3⟩=>?_⟩;simp only[Nd.kid,n0,n1,n2,n3,decide_true,Yi,Bool.and_self]at eY;cases eY
structure F8 (out:List Nd):Prop where
 lo:AF out=true
 nd:out.Nodup
 ne:∀n,0<n->n<=out.length->(A3 out).getD n true=false
theorem F8.nil:F8 []:=⟨rfl,List.nodup_nil,λn h1 h2=>by simp at h2;omega⟩
theorem VcP:∀(r l:List Nd),∃s,A3 (l++r)=A3 l++s:=by
 intro r
 induction r with
 |nil=>intro l;exact⟨[],by simp⟩
 |cons x r ih=>intro l;obtain⟨s,hs⟩:=ih (l++[x]);exact⟨[Md (A3 l) x]++s,by rw[show l++x::r=l++[x]++r from by simp,hs,HL];simp⟩
theorem Ue {l r:List Nd}{n:Nat}(h:n<=l.length):(A3 (l++r)).getD n true=(A3 l).getD n true:=by obtain⟨s,hs⟩:=VcP r l;rw[hs,W6,W6,W8 (by rw[CY];omega)]
theorem MI {l r:List Nd}{n:Nat}(h0:0<n)(h:n<=l.length):A8 (l++r) (n:Int)=A8 l (n:Int):=by obtain⟨m,rfl⟩:∃m,n=m+1:=⟨n-1,by omega⟩;rw[Bd (show m<(l++r).length by simp;omega),Bd (show m<l.length by omega),Zb (by omega)]
theorem GO {l r:List Nd}(hl:AF l=true):∀v n,Lv l v n->sem (l++r) v n=sem l v n
 |0,n,h=>rfl
 |v+1,n,h=>by
  unfold sem;simp only[LY,Ue h.1];split
  ·rfl
  ·rename_i he;have h0:0<n:=PK (by simpa using he);rw[MI h0 h.1];split;rename_i h1;have e:∀k,k<4->sem (l++r) v ((A8 l n).kid k).toNat=sem l v ((A8 l n).kid k).toNat:=λk hk=>GO hl v _ (Lv.kid hl h0 h h1 hk).1;have e0:=e 0 (by omega);have e1:=e 1 (by omega);have e2:=e 2 (by omega);have e3:=e 3 (by omega);simp only[Nd.kid,sem]at e0 e1 e2 e3;rw[e0,e1,e2,e3]
   ·rfl
theorem Lv.old {l r:List Nd}{v n:Nat}(h:Lv l v n):Lv (l++r) v n:=by refine⟨by have:=h.1;simp;omega,?_⟩;rcases h.2 with h0 | h0;exact .inl h0;by_cases hn:0<n;exact .inr (by rw[MI hn h.1];exact h0);exact .inl (by omega)
structure Fit (o:List Nd)(x:Nd)(v:Nat)(t:QT):Prop where
 lv:x.lv=(v:Int)
 v1:1<=v/\v<=1329
 kid:(1<v/\t=.node (sem o (v-1) x.k0.toNat) (sem o (v-1) x.k1.toNat) (sem o (v-1) x.k2.toNat) (sem o (v-1) x.k3.toNat)/\∀k,k<4->0<=x.kid k/\Lv o (v-1) (x.kid k).toNat)\/(v=1/\t=.lf x.k0 x.k1 x.k2 x.k3/\∀k,k<4->St (x.kid k))
 ne:∃k,k<4/\x.kid k≠0
structure Ins (v:Nat)(t:QT)(out o':List Nd)(i:Nat):Prop where
 pre:∃r,o'=out++r/\∀x∈r,x.lv<=(v:Int)
 cl:F8 o'
 lv:Lv o' v i
 sm:sem o' v i=t
 old:i<=out.length->o'=out
 new:out.length<i->i=o'.length
theorem Vgt {o:List Nd}(hc:F8 o){x:Nd}{v:Nat}{t:QT}(h:Fit o x v t):AF (o++[x])=true:=by refine KW hc.lo (KX (by rw[h.lv];have:=h.v1;omega) (by rw[h.lv];have:=h.v1;omega) λk hk=>?_);rcases h.kid with ⟨h1,_,h2⟩ | ⟨h1,_,h2⟩;obtain⟨q1,q2⟩:=h2 k hk;refine⟨q1,λe=>by rw[h.lv]at e;omega,λ_ hp=>?_⟩;have hn:=q2.1;refine⟨by omega,?_⟩;rcases q2.2 with q | q;omega;have e:x.kid k=(((x.kid k).toNat:Nat):Int):=(by omega);obtain⟨m,hm⟩:∃m,(x.kid k).toNat=m+1:=⟨(x.kid k).toNat-1,by omega⟩;rw[e,hm] ;rw[hm]at q;have hml:m<o.length:=(by omega);rw[Bd hml]at q⊢;have:=(AQ hc.lo hml).1;rw[h.lv];omega;obtain⟨q1,q2⟩:=h2 k hk;exact⟨q1,λ_=>q2,λe=>by rw[h.lv]at e;omega⟩
theorem Voa {o:List Nd}(hc:F8 o){x:Nd}{v:Nat}{t:QT}(h:Fit o x v t):Md (A3 o) x=false:=by
 obtain⟨k,hk,jS⟩:=h.ne;unfold Md;rw[XR];refine⟨k,by simpa using hk,?_⟩;rcases h.kid with ⟨h1,_,h2⟩ | ⟨h1,_,h2⟩;obtain⟨q1,q2⟩:=h2 k hk;rw[hc.ne (x.kid k).toNat (by omega) q2.1];simp[jS]
 ·have:¬1<x.lv:=by rw[h.lv];omega
  simp[jS,this]
theorem Vgs {o:List Nd}(hc:F8 o){x:Nd}{v:Nat}{t:QT}(h:Fit o x v t){i:Nat}(hi:o[i]? = some x):sem o v (i+1)=t:=by
 have hlt:i<o.length:=(W5.1 hi).1;have hx:A8 o ((i+1:Nat):Int)=x:=by rw[Bd hlt];rw[W4 hlt]at hi;injection hi
 obtain⟨w,rfl⟩:∃w,v=w+1:=⟨v-1,by have:=h.v1;omega⟩;unfold sem;simp only[LY,hc.ne (i+1) (by omega) (by omega),hx,h.lv,WB,if_false];rcases h.kid with ⟨h1,h3,h2⟩ | ⟨h1,h3,h2⟩;rw[if_pos (by omega),h3];rfl
 rw[if_neg (by omega),h3]
theorem Fit.old {o r:List Nd}(hc:F8 o){x:Nd}{v:Nat}{t:QT}(h:Fit o x v t):Fit (o++r) x v t:=by refine⟨h.lv,h.v1,?_,h.ne⟩;rcases h.kid with ⟨h1,h3,h2⟩ | ⟨h1,h3,h2⟩;left;refine⟨h1,?_,λk hk=>⟨(h2 k hk).1,(h2 k hk).2.old⟩⟩;have e0:=GO (r:=r) hc.lo _ _ (h2 0 (by omega)).2;have e1:=GO (r:=r) hc.lo _ _ (h2 1 (by omega)).2;have e2:=GO (r:=r) hc.lo _ _ (h2 2 (by omega)).2;have e3:=GO (r:=r) hc.lo _ _ (h2 3 (by omega)).2;simp only[Nd.kid]at e0 e1 e2 e3;rw[e0,e1,e2,e3];exact h3;exact .inr ⟨h1,h3,h2⟩
theorem Vgu {o:List Nd}(hc:F8 o){x:Nd}{v:Nat}{t:QT}(h:Fit o x v t)(hn:x ∉ o):F8 (o++[x]):=by refine⟨Vgt hc h,?_,λn h0 hle=>?_⟩;rw[Zy];exact⟨hc.nd,by simp,λa ha b hb e=>by simp at hb;subst hb;subst e;exact hn ha⟩;by_cases cV:n<=o.length;rw[Ue cV];exact hc.ne n h0 cV;have e:n=o.length+1:=(by simp at hle;omega);rw[e,HL,W6,WX (by rw[CY];omega),CY];simp[Voa hc h]
theorem Vfo {o:List Nd}(hc:F8 o){x:Nd}{v:Nat}{t:QT}(h:Fit o x v t):(∃r,(BL o x).1=o++r/\∀y∈r,y=x)/\F8 (BL o x).1/\Lv (BL o x).1 v (BL o x).2/\sem (BL o x).1 v (BL o x).2=t/\((BL o x).1[(BL o x).2-1]? = some x/\0<(BL o x).2)/\(((BL o x).1=o/\(BL o x).2<=o.length)\/((BL o x).2=o.length+1/\(BL o x).2=(BL o x).1.length)):=by
 have aJ:x.lv.toNat=v:=by rw[h.lv];omega
 cases hf:C4 o x with
 |zero=>
  have hp:BL o x=(o++[x],o.length+1):=by simp[BL,hf]
  have hn:=Jq.1 hf;have hg:(o++[x])[o.length]? = some x:=by simp
  rw[hp];have bU:=Vgu hc h hn;refine⟨⟨[x],rfl,by simp⟩,bU,⟨by simp,.inr ?_⟩,Vgs bU (h.old hc) hg,⟨by simp,by simp⟩,.inr ⟨rfl,by simp⟩⟩;rw[Bd (by simp)];simp[aJ]
 |succ i=>
  have hp:BL o x=(o,i+1):=by simp[BL,hf]
  rw[EA]at hf;have hlt:i<o.length:=(W5.1 hf.1).1;rw[hp];refine⟨⟨[],by simp,by simp⟩,hc,⟨hlt,.inr ?_⟩,Vgs hc h hf.1,⟨by simpa using hf.1,by simp⟩,.inl ⟨rfl,hlt⟩⟩;rw[Bd hlt];have:=hf.1;rw[W4 hlt]at this;injection this with this;rw[this,aJ]
theorem Fq:∀(t:QT)(v:Nat)(out:List Nd),GJ v t->F8 out->Ins v t out (Bh v t out).1 (Bh v t out).2
 |.nil,v,out,hg,hc=>⟨⟨[],by simp[Bh],by simp⟩,hc,⟨WZ _,.inl rfl⟩,Gb _ _,λ_=>rfl,λh=>by simp[Bh]at h⟩
 |.lf a b c d,v,out,hg,hc=>by
  obtain⟨rfl,⟨ha,hb,hcc,hd⟩,hne⟩:=hg;have bO:Fit out ⟨1,a,b,c,d⟩ 1 (.lf a b c d):=by
   refine⟨rfl,⟨by omega,by omega⟩,.inr ⟨rfl,rfl,λk hk=>?_⟩,?_⟩
   ·match k,hk with
    |0,_=>exact ha
    |1,_=>exact hb
    |2,_=>exact hcc
    |3,_=>exact hd
   by_cases h0:a=0;by_cases h1:b=0;by_cases h2:c=0;exact⟨3,by omega,λh3=>hne ⟨h0,h1,h2,h3⟩⟩;exact⟨2,by omega,h2⟩;exact⟨1,by omega,h1⟩;exact⟨0,by omega,h0⟩
  obtain⟨⟨r,p1,p2⟩,p3,p4,p5,p6,p7⟩:=Vfo hc bO;refine⟨⟨r,p1,λx hx=>by rw[p2 x hx];simp⟩,p3,p4,p5,λhi=>?_,λhi=>?_⟩;rcases p7 with ⟨q,_⟩ | ⟨q,_⟩;exact q;have:(Bh 1 (.lf a b c d) out).2=out.length+1:=q;omega;rcases p7 with ⟨_,q⟩ | ⟨_,q⟩;have:(Bh 1 (.lf a b c d) out).2<=out.length:=q;omega;exact q
 |.node a b c d,v,out,hg,hc=>by
  obtain⟨h2,hv,⟨ga,gb,gc,gd⟩,hne⟩:=hg;have ia:=Fq a (v-1) out ga hc;have ib:=Fq b (v-1) _ gb ia.cl;have ic:=Fq c (v-1) _ gc ib.cl;have id:=Fq d (v-1) _ gd ic.cl;simp only[Bh];generalize Bh (v-1) a out=A at ia ib ic id⊢;obtain⟨o1,n0⟩:=A;dsimp only at ia ib ic id⊢;generalize Bh (v-1) b o1=B at ib ic id⊢;obtain⟨o2,n1⟩:=B;dsimp only at ib ic id⊢;generalize Bh (v-1) c o2=C at ic id⊢;obtain⟨o3,n2⟩:=C;dsimp only at ic id⊢;generalize Bh (v-1) d o3=D at id⊢;obtain⟨o4,n3⟩:=D;dsimp only at id⊢;obtain⟨r1,e1,w1⟩:=ia.pre;obtain⟨r2,e2,w2⟩:=ib.pre;obtain⟨r3,e3,w3⟩:=ic.pre;obtain⟨r4,e4,w4⟩:=id.pre;have la:Lv o4 (v-1) n0/\sem o4 (v-1) n0=a:=by have:o4=o1++(r2++r3++r4):=(by rw[e4,e3,e2];simp);rw[this];exact⟨ia.lv.old,(GO ia.cl.lo _ _ ia.lv).trans ia.sm⟩
  have lb:Lv o4 (v-1) n1/\sem o4 (v-1) n1=b:=by have:o4=o2++(r3++r4):=(by rw[e4,e3];simp);rw[this];exact⟨ib.lv.old,(GO ib.cl.lo _ _ ib.lv).trans ib.sm⟩
  have lc:Lv o4 (v-1) n2/\sem o4 (v-1) n2=c:=by rw[e4];exact⟨ic.lv.old,(GO ic.cl.lo _ _ ic.lv).trans ic.sm⟩
  have ld:Lv o4 (v-1) n3/\sem o4 (v-1) n3=d:=⟨id.lv,id.sm⟩;have nz:∀ {n:Nat} {t:QT},sem o4 (v-1) n=t->t≠.nil->n≠0:=λh ht h0=>ht (by rw[<-h,h0,Gb]);have bO:Fit o4 ⟨v,n0,n1,n2,n3⟩ v (.node a b c d):=by
   refine⟨rfl,⟨by omega,hv⟩,.inl ⟨by omega,?_,λk hk=>?_⟩,?_⟩;simp only[zXl,la.2,lb.2,lc.2,ld.2]
   ·match k,hk with
    |0,_=>exact⟨XO _,by simpa[Nd.kid]using la.1⟩
    |1,_=>exact⟨XO _,by simpa[Nd.kid]using lb.1⟩
    |2,_=>exact⟨XO _,by simpa[Nd.kid]using lc.1⟩
    |3,_=>exact⟨XO _,by simpa[Nd.kid]using ld.1⟩
   by_cases h0:a=.nil;by_cases h1:b=.nil;by_cases h2:c=.nil;exact⟨3,by omega,by have:=nz ld.2 (λh3=>hne ⟨h0,h1,h2,h3⟩);simp[Nd.kid];omega⟩;exact⟨2,by omega,by have:=nz lc.2 h2;simp[Nd.kid];omega⟩;exact⟨1,by omega,by have:=nz lb.2 h1;simp[Nd.kid];omega⟩;exact⟨0,by omega,by have:=nz la.2 h0;simp[Nd.kid];omega⟩
  obtain⟨⟨r,p1,p2⟩,p3,p4,p5,⟨p6,p6'⟩,p7⟩:=Vfo id.cl bO;have hout:o4=out++(r1++r2++r3++r4):=by rw[e4,e3,e2,e1];simp
  have hlen:out.length<=o4.length:=by rw[hout];simp
  generalize hP:BL o4 ⟨v,n0,n1,n2,n3⟩=P at p1 p3 p4 p5 p6 p6' p7⊢;obtain⟨o',i⟩:=P;dsimp only at p1 p3 p4 p5 p6 p6' p7⊢;have lvs:∀x∈r1++r2++r3++r4,x.lv<=((v-1:Nat):Int):=by intro x hx;simp only[WT]at hx;rcases hx with ((hx | hx) | hx) | hx;exact w1 x hx;exact w2 x hx;exact w3 x hx;exact w4 x hx
  refine⟨⟨r1++r2++r3++r4++r,by rw[p1,hout];simp,λx hx=>?_⟩,p3,p4,p5,λhi=>?_,λhi=>?_⟩;rw[WT]at hx;rcases hx with hx | hx;have:=lvs x hx;omega;rw[p2 x hx];exact Yl _
  ·rcases p7 with ⟨q,_⟩ | ⟨q,_⟩
   ·-- found among the old ones: its kids are old,too
    rw[q]at p6;have hlt:i-1<out.length:=(by omega);have hx:out[i-1]=⟨v,n0,n1,n2,n3⟩:=(by rw[hout,W8 hlt,W4 hlt]at p6;injection p6);obtain⟨l1,l2,l3⟩:=AQ hc.lo hlt;have hk:∀k,k<4->out[i-1].kid k<=out.length:=λk hk=>(by obtain⟨q1,q2,q3⟩:=l3 k hk;by_cases hp:0<out[i-1].kid k;have:=(q3 (by rw[hx];show(1:Int)<(v:Int);omega) hp).1;omega;omega);rw[hx]at hk;have k0:(n0:Int)<=out.length:=hk 0 (by omega);have k1:(n1:Int)<=out.length:=hk 1 (by omega);have k2:(n2:Int)<=out.length:=hk 2 (by omega);have k3:(n3:Int)<=out.length:=hk 3 (by omega);have f1:=ia.old (by omega);have f2:=ib.old (by rw[f1];omega);have f3:=ic.old (by rw[f2,f1];omega);have f4:=id.old (by rw[f3,f2,f1];omega);rw[q,f4,f3,f2,f1]
   omega
  rcases p7 with ⟨q,q'⟩ | ⟨_,q⟩;exfalso;rw[q]at p6;have cR:(⟨v,n0,n1,n2,n3⟩:Nd)∈r1++r2++r3++r4:=(by rw[hout,WX (by omega)]at p6;exact Xa p6);have:=lvs _ cR;have h3:(v:Int)<=((v-1:Nat):Int):=this;omega;exact q
def QT.q:QT->Nat->QT
 |.node a b c d,k=>match k with | 0=>a | 1=>b | 2=>c | _=>d
 |_,_=>.nil
def QT.s:QT->Nat->Int
 |.lf a b c d,k=>match k with | 0=>a | 1=>b | 2=>c | _=>d
 |_,_=>0
def QT.isNode:QT->Bool
 |.node _ _ _ _=>true
 |_=>false
def P3 (t:QT):Bool:=t.isNode&&(List.range 4).all λk=>(List.range 4).all λj=>decide (j=3-k)||(decide ((t.q k).q j=.nil)&&decide ((t.q k).s j=0))
def Iv (v:Nat)(t:QT):QT:=
 if v=2 then .lf ((t.q 0).s 3) ((t.q 1).s 2) ((t.q 2).s 1) ((t.q 3).s 0)else .node ((t.q 0).q 3) ((t.q 1).q 2) ((t.q 2).q 1) ((t.q 3).q 0)
def Iq:Nat->QT->Nat×QT
 |0,t=>(0,t)
 |v+1,t=>if P3 t then Iq v (Iv (v+1) t)else (v+1,t)
theorem GJ.q {v:Nat}{t:QT}(h:GJ v t)(k:Nat):GJ (v-1) (t.q k):=by
 cases t with
 |nil=>trivial
 |lf a b c d=>trivial
 |node a b c d=>obtain⟨h1,h2,⟨ga,gb,gc,gd⟩,_⟩:=h;unfold QT.q;dsimp only;split<;>assumption
theorem GJ.st {v:Nat}{t:QT}(h:GJ v t)(k:Nat):St (t.s k):=by
 cases t with
 |nil=>exact⟨Yl _,by show(0:Int)<=255;decide⟩
 |node a b c d=>exact⟨Yl _,by show(0:Int)<=255;decide⟩
 |lf a b c d=>obtain⟨h1,⟨ga,gb,gc,gd⟩,_⟩:=h;unfold QT.s;dsimp only;split<;>assumption
theorem GJ.kind {v:Nat}{t:QT}(h:GJ v t):t=.nil\/(v=1/\t.isNode=false/\∃a b c d,t=.lf a b c d)\/(2<=v/\v<=1329/\t.isNode=true):=by cases t with|nil=>exact .inl rfl|lf a b c d=>exact .inr (.inl ⟨h.1,rfl,a,b,c,d,rfl⟩)|node a b c d=>exact .inr (.inr ⟨h.1,h.2.1,rfl⟩)
theorem QT.eta {t:QT}(h:t.isNode=true):t=.node (t.q 0) (t.q 1) (t.q 2) (t.q 3):=by cases t with|nil=>cases h|lf a b c d=>cases h|node a b c d=>rfl
theorem GJ.some {v:Nat}{t:QT}(h:GJ v t)(hn:t≠.nil):∃j,j<4/\((v=1/\t.s j≠0)\/(1<v/\t.q j≠.nil)):=by
 cases t with
 |nil=>exact absurd rfl hn
 |lf a b c d=>obtain⟨h1,_,h2⟩:=h;by_cases h0:a=0;by_cases h3:b=0;by_cases h4:c=0;exact⟨3,by omega,.inl ⟨h1,λh5=>h2 ⟨h0,h3,h4,h5⟩⟩⟩;exact⟨2,by omega,.inl ⟨h1,h4⟩⟩;exact⟨1,by omega,.inl ⟨h1,h3⟩⟩;exact⟨0,by omega,.inl ⟨h1,h0⟩⟩
 |node a b c d=>obtain⟨h1,_,_,h2⟩:=h;by_cases h0:a=.nil;by_cases h3:b=.nil;by_cases h4:c=.nil;exact⟨3,by omega,.inr ⟨by omega,λh5=>h2 ⟨h0,h3,h4,h5⟩⟩⟩;exact⟨2,by omega,.inr ⟨by omega,h4⟩⟩;exact⟨1,by omega,.inr ⟨by omega,h3⟩⟩;exact⟨0,by omega,.inr ⟨by omega,h0⟩⟩
theorem Vbh {t:QT}(h:P3 t=true){k j:Nat}(hk:k<4)(hj:j<4)(hne:j≠3-k):(t.q k).q j=.nil/\(t.q k).s j=0:=by simp only[P3,WG,WO]at h;have:=h.2 k (by simpa using hk) j (by simpa using hj);simpa[hne]using this
theorem MR {v:Nat}{t:QT}(h:GJ (v+1) t)(hh:P3 t=true):GJ v (Iv (v+1) t)/\Iv (v+1) t≠.nil:=by
 have dL:t.isNode=true:=by simp only[P3,WG]at hh;exact hh.1
 have pD:t≠.nil:=λe=>by subst e;cases dL
 obtain⟨k,hk,jG⟩:=h.some pD;rcases h.kind with rfl | ⟨h1,h2,_⟩ | ⟨h1,h2,_⟩;exact absurd rfl pD;rw[h2]at dL;cases dL;have hq:t.q k≠.nil:=by rcases jG with ⟨e,_⟩ | ⟨_,e⟩;omega;exact e
 obtain⟨j,hj,pI⟩:=(h.q k).some hq;simp only[WQ]at pI;have tP:j=3-k:=by by_cases e:j=3-k;exact e;exfalso;obtain⟨e1,e2⟩:=Vbh hh hk hj e;rcases pI with ⟨_,e3⟩ | ⟨_,e3⟩;exact e3 e2;exact e3 e1
 unfold Iv;by_cases hv:v+1=2
 ·rw[if_pos hv];refine⟨⟨by omega,⟨(h.q 0).st 3,(h.q 1).st 2,(h.q 2).st 1,(h.q 3).st 0⟩,λ⟨e0,e1,e2,e3⟩=>?_⟩,by simp⟩;rcases pI with ⟨_,e⟩ | ⟨e,_⟩
  ·rw[tP]at e
   match k,hk with
   |0,_=>exact e e0
   |1,_=>exact e e1
   |2,_=>exact e e2
   |3,_=>exact e e3
  omega
 ·rw[if_neg hv];refine⟨⟨by omega,by omega,⟨(h.q 0).q 3,(h.q 1).q 2,(h.q 2).q 1,(h.q 3).q 0⟩,λ⟨e0,e1,e2,e3⟩=>?_⟩,by simp⟩;rcases pI with ⟨e,_⟩ | ⟨_,e⟩;omega
  ·rw[tP]at e
   match k,hk with
   |0,_=>exact e e0
   |1,_=>exact e e1
   |2,_=>exact e e2
   |3,_=>exact e e3
theorem Ve9:∀(v:Nat)(t:QT),GJ v t->t≠.nil->GJ (Iq v t).1 (Iq v t).2/\(Iq v t).2≠.nil/\P3 (Iq v t).2=false
 |0,t,hg,hn=>by rcases hg.kind with h | ⟨h,_⟩ | ⟨h,_⟩;exact absurd h hn;omega;omega
 |v+1,t,hg,hn=>by
  unfold Iq;cases hh:P3 t with
  |true=>obtain⟨r1,r2⟩:=MR hg hh;simp only[if_true];exact Ve9 v _ r1 r2
  |false=>simp only[WB,if_false];exact⟨hg,hn,hh⟩
section
variable {L:List Nd}
theorem Ta (hl:AF L=true){v n k:Nat}(h0:0<n)(h:Lv L (v+1) n)(h1:1<(A8 L n).lv)(hk:k<4):(sem L (v+1) n).q k=sem L v ((A8 L n).kid k).toNat:=by
 unfold sem;simp only[LY,if_pos h1];split;rename_i he;have eY:=PL hl h0 h.1;rw[he]at eY;have:=WO.1 eY.symm k (by simpa using hk);simp only[X0,zXe,WG]at this;show QT.nil=_;rcases this with e | ⟨_,e⟩;rw[e];exact(Gb L v).symm;exact((KN hl (Lv.kid hl h0 h h1 hk).1).2 e).symm
 ·match k,hk with
  |0,_=>rfl
  |1,_=>rfl
  |2,_=>rfl
  |3,_=>rfl
theorem VbU (hl:AF L=true){v n k:Nat}(h0:0<n)(h:Lv L (v+1) n)(h1:¬1<(A8 L n).lv)(hk:k<4):(sem L (v+1) n).s k=(A8 L n).kid k:=by
 unfold sem;simp only[LY,if_neg h1];split
 ·rename_i he;have eY:=PL hl h0 h.1;rw[he]at eY;have:=WO.1 eY.symm k (by simpa using hk);simp only[X0,zXe,WG]at this;rcases this with e | ⟨e,_⟩;rw[e];rfl
  exact absurd e h1
 ·match k,hk with
  |0,_=>rfl
  |1,_=>rfl
  |2,_=>rfl
  |3,_=>rfl
theorem Vbg (hl:AF L=true){v n:Nat}(h0:0<n)(h:Lv L v n)(he:(A3 L).getD n true=false):DQ L n=P3 (sem L v n):=by
 have hv0:(A8 L (n:Int)).lv.toNat=v:=by rcases h.2 with h | h<;>omega
 have hv1:1<=(A8 L (n:Int)).lv:=by obtain⟨m,rfl⟩:∃m,n=m+1:=⟨n-1,by omega⟩;rw[Bd h.1];exact(AQ hl h.1).1
 obtain⟨w,rfl⟩:∃w,v=w+1:=⟨v-1,by omega⟩;unfold DQ P3;by_cases h1:1<(A8 L (n:Int)).lv
 ·have dL:(sem L (w+1) n).isNode=true:=by unfold sem;simp only[LY,he,WB,if_false,if_pos h1];rfl
  have e2:(2:Int)<=(A8 L (n:Int)).lv:=by omega
  rw[dL,zXc (show n≠0 by omega),zXc e2,zXn,zXn,zXn];unfold hol;have hk:∀k,k<4->(decide ((A8 L n).kid k=0)||(List.range 4).all (P4 L (A3 L) (A8 L n) k))=(List.range 4).all λj=>decide (j=3-k)||(decide (((sem L (w+1) n).q k).q j=.nil)&&decide (((sem L (w+1) n).q k).s j=0)):=by
   intro k hk;rw[Ta hl h0 h h1 hk];obtain⟨g1,g2,g3⟩:=Lv.kid hl h0 h h1 hk;by_cases hc:(A8 L n).kid k=0;rw[hc];have:(List.range 4).all (λj=>decide (j=3-k)||(decide ((sem L w ((0:Int)).toNat).q j=.nil)&&decide ((sem L w ((0:Int)).toNat).s j=0)))=true:=(by rw[show((0:Int)).toNat=0 from rfl,Gb,WO];intro j _;simp[QT.q,QT.s]);rw[this];rfl
   ·rw[zXd hc,zXo];have cT:0<((A8 L n).kid k).toNat:=(by omega);have ec:(((A8 L n).kid k).toNat:Int)=(A8 L n).kid k:=(by omega);have hcv:(A8 L (((A8 L n).kid k).toNat:Int)).lv.toNat=w:=(by rcases g1.2 with g | g<;>omega);have kY:1<=(A8 L (((A8 L n).kid k).toNat:Int)).lv:=(by obtain⟨m,hm⟩:∃m,((A8 L n).kid k).toNat=m+1:=⟨((A8 L n).kid k).toNat-1,by omega⟩;rw[hm];have hml:m<L.length:=(by have:=g1.1;omega);rw[Bd hml];exact(AQ hl hml).1);obtain⟨u,rfl⟩:∃u,w=u+1:=⟨w-1,by omega⟩;have pt:∀j,j<4->P4 L (A3 L) (A8 L n) k j=(decide (j=3-k)||(decide ((sem L (u+1) ((A8 L n).kid k).toNat).q j=.nil)&&decide ((sem L (u+1) ((A8 L n).kid k).toNat).s j=0))):=by
     intro j hj;unfold P4
     congr 1
     by_cases h2:(A8 L n).lv=2;rw[if_pos h2];have cL:¬1<(A8 L (((A8 L n).kid k).toNat:Int)).lv:=(by omega);rw[VbU hl cT g1 cL hj,ec];have hq:(sem L (u+1) ((A8 L n).kid k).toNat).q j=.nil:=(by unfold sem;simp only[LY,if_neg cL];split<;>rfl);rw[hq];simp;rw[if_neg h2];have cL:1<(A8 L (((A8 L n).kid k).toNat:Int)).lv:=(by omega);obtain⟨f1,f2,f3⟩:=Lv.kid hl cT g1 cL hj;rw[Ta hl cT g1 cL hj,ec];rw[ec]at f1;have hs:(sem L (u+1) ((A8 L n).kid k).toNat).s j=0:=(by unfold sem;simp only[LY,if_pos cL];split<;>rfl);rw[hs];have:=KN hl f1;rw[WP];simp only[decide_true,Bool.and_true,zXe];exact this.symm
    rw[Is,Is,pt 0 (by omega),pt 1 (by omega),pt 2 (by omega),pt 3 (by omega)]
  rw[Is,Is (λk=>(List.range 4).all λj=>decide (j=3-k)||(decide (((sem L (w+1) n).q k).q j=.nil)&&decide (((sem L (w+1) n).q k).s j=0))),hk 0 (by omega),hk 1 (by omega),hk 2 (by omega),hk 3 (by omega)]
 ·have dL:(sem L (w+1) n).isNode=false:=by unfold sem;simp only[LY,he,WB,if_false,if_neg h1];rfl
  have e2:¬(2:Int)<=(A8 L (n:Int)).lv:=by omega
  rw[dL,zXd e2];simp

end
theorem Lv.num {L:List Nd}{v n:Nat}(h:Lv L v n)(h0:0<n)(hl:AF L=true):(A8 L (n:Int)).lv=(v:Int)/\1<=v:=by
 have hv:(A8 L (n:Int)).lv.toNat=v:=by rcases h.2 with h | h<;>omega
 obtain⟨m,rfl⟩:∃m,n=m+1:=⟨n-1,by omega⟩;rw[Bd h.1]at hv⊢;have:=(AQ hl h.1).1;omega
theorem VlJ {L:List Nd}(hl:AF L=true){w n:Nat}(h0:0<n)(h:Lv L (w+1) n)(he:(A3 L).getD n true=false)(hh:DQ L n=true):AF (L++[Cm L n])=true/\Lv (L++[Cm L n]) w (L.length+1)/\sem (L++[Cm L n]) w (L.length+1)=Iv (w+1) (sem L (w+1) n)/\(A3 (L++[Cm L n])).getD (L.length+1) true=false:=by
 obtain⟨cL,hn2⟩:=NL hh;obtain⟨aJ,_⟩:=h.num h0 hl;obtain⟨u,rfl⟩:∃u,w=u+1:=⟨w-1,by omega⟩;have h1:1<(A8 L (n:Int)).lv:=by omega
 have dQ:AF (L++[Cm L n])=true:=by obtain⟨m,rfl⟩:∃m,n=m+1:=⟨n-1,by omega⟩;exact NK hl h.1 (by rw[Bd h.1]at hn2;exact hn2)
 have hx:A8 (L++[Cm L n]) ((L.length+1:Nat):Int)=Cm L n:=by rw[Bd (by simp)];simp
 have iG:(Cm L n).lv=(u+1:Nat):=by show(A8 L (n:Int)).lv-1=_;omega
 have hLv:Lv (L++[Cm L n]) (u+1) (L.length+1):=⟨by simp,.inr (by rw[hx,iG];omega)⟩;rw[Vbg hl h0 h he]at hh;obtain⟨ig,inn⟩:=MR (M3 hl _ _ h) hh;have aZ:∀k,k<4->(Cm L n).kid k=Jm L (A8 L n) k:=λk hk=>VZ L n hk;have hne:sem (L++[Cm L n]) (u+1) (L.length+1)=Iv (u+1+1) (sem L (u+1+1) n):=by
  by_cases hu:u=0
  ·subst hu;have hx1:¬1<(A8 (L++[Cm L n]) ((L.length+1:Nat):Int)).lv:=(by rw[hx,iG];decide);have hs:∀k,k<4->(sem (L++[Cm L n]) 1 (L.length+1)).s k=((sem L 2 n).q k).s (3-k):=by
    intro k hk;rw[VbU dQ (by omega) hLv hx1 hk,hx,aZ k hk,Ta hl h0 h h1 hk];unfold Jm;obtain⟨g1,g2,g3⟩:=Lv.kid hl h0 h h1 hk;by_cases hc:(A8 L n).kid k=0;rw[if_pos hc,hc,show((0:Int)).toNat=0 from rfl,Gb];rfl
    rw[if_neg hc];have cT:0<((A8 L n).kid k).toNat:=(by omega);obtain⟨cl,_⟩:=g1.num cT hl;rw[VbU hl cT g1 (by omega) (by omega)];rw[show(((A8 L n).kid k).toNat:Int)=(A8 L n).kid k from by omega]
   have e:Iv 2 (sem L 2 n)=.lf ((sem (L++[Cm L n]) 1 (L.length+1)).s 0) ((sem (L++[Cm L n]) 1 (L.length+1)).s 1) ((sem (L++[Cm L n]) 1 (L.length+1)).s 2) ((sem (L++[Cm L n]) 1 (L.length+1)).s 3):=(by rw[hs 0 (by omega),hs 1 (by omega),hs 2 (by omega),hs 3 (by omega)];rfl);have hg:=M3 dQ 1 _ hLv;rcases hg.kind with hk | ⟨_,_,a,b,c,d,hk⟩ | ⟨hk,_⟩;exfalso;rw[hk]at e;rw[e]at ig;exact ig.2.2 ⟨rfl,rfl,rfl,rfl⟩;show sem (L++[Cm L n]) 1 (L.length+1)=Iv 2 (sem L 2 n);rw[e,hk];rfl
   omega
  ·have hx1:1<(A8 (L++[Cm L n]) ((L.length+1:Nat):Int)).lv:=(by rw[hx,iG];omega);have hs:∀k,k<4->(sem (L++[Cm L n]) (u+1) (L.length+1)).q k=((sem L (u+1+1) n).q k).q (3-k):=by
    intro k hk;rw[Ta dQ (by omega) hLv hx1 hk,hx,aZ k hk,Ta hl h0 h h1 hk];unfold Jm;obtain⟨g1,g2,g3⟩:=Lv.kid hl h0 h h1 hk;by_cases hc:(A8 L n).kid k=0;rw[if_pos hc,hc,show((0:Int)).toNat=0 from rfl,Gb,Gb];rfl
    rw[if_neg hc];have cT:0<((A8 L n).kid k).toNat:=(by omega);obtain⟨cl,_⟩:=g1.num cT hl;have c1:1<(A8 L (((A8 L n).kid k).toNat:Int)).lv:=(by omega);have hk3:=(Lv.kid hl cT g1 c1 (show 3-k<4 by omega)).1;rw[Ta hl cT g1 c1 (by omega)];rw[show(((A8 L n).kid k).toNat:Int)=(A8 L n).kid k from by omega]at hk3⊢;exact GO hl _ _ hk3
   have e:Iv (u+1+1) (sem L (u+1+1) n)=.node ((sem (L++[Cm L n]) (u+1) (L.length+1)).q 0) ((sem (L++[Cm L n]) (u+1) (L.length+1)).q 1) ((sem (L++[Cm L n]) (u+1) (L.length+1)).q 2) ((sem (L++[Cm L n]) (u+1) (L.length+1)).q 3):=(by rw[hs 0 (by omega),hs 1 (by omega),hs 2 (by omega),hs 3 (by omega)];unfold Iv;rw[if_neg (by omega)]);have hg:=M3 dQ (u+1) _ hLv;rcases hg.kind with hk | ⟨hk,_⟩ | ⟨_,_,hk⟩;exfalso;rw[hk]at e;rw[e]at ig;exact ig.2.2.2 ⟨rfl,rfl,rfl,rfl⟩;omega;rw[e];exact QT.eta hk
 refine⟨dQ,hLv,hne,?_⟩;cases hq:(A3 (L++[Cm L n])).getD (L.length+1) true with|false=>rfl|true=>have:=(KN dQ hLv).2 hq;rw[hne]at this;exact absurd this inn
theorem R9:∀(v:Nat)(L:List Nd)(n:Nat),AF L=true->0<n->Lv L v n->(A3 L).getD n true=false ->
  AF (BT v L n).1=true/\Lv (BT v L n).1 (Iq v (sem L v n)).1 (BT v L n).2/\0<(BT v L n).2/\sem (BT v L n).1 (Iq v (sem L v n)).1 (BT v L n).2=(Iq v (sem L v n)).2
 |0,L,n,hl,h0,hLv,he=>by have:=(hLv.num h0 hl).2;omega
 |v+1,L,n,hl,h0,hLv,he=>by
  have hs:=Vbg hl h0 hLv he;unfold BT Iq;cases hh:DQ L n with
  |false=>rw[hh]at hs;rw[<-hs];exact⟨hl,hLv,h0,rfl⟩
  |true=>rw[hh]at hs;rw[<-hs];obtain⟨r1,r2,r3,r4⟩:=VlJ hl h0 hLv he hh;simp only[if_true];rw[<-r3];exact R9 v _ _ r1 (by omega) r2 r4
def Ek (v:Nat)(t:QT):List Nd:=if t=.nil then []else (Bh (Iq v t).1 (Iq v t).2 []).1
theorem VgS {L:List Nd}(hl:AF L=true){v n:Nat}(h:Lv L v n):Jv L n=Ek v (sem L v n):=by
 unfold Jv Ek DW;cases he:(A3 L).getD n true with
 |true=>rw[(KN hl h).2 he];simp only[if_true];cases(A8 L ((0:Nat):Int)).lv.toNat with|zero=>rfl|succ w=>simp only[Bp,Ej,if_true]
 |false=>
  have h0:=PK he;have hn:sem L v n≠.nil:=λe=>by rw[(KN hl h).1 e]at he;cases he
  obtain⟨aJ,hv1⟩:=h.num h0 hl;obtain⟨r1,r2,r3,r4⟩:=R9 v L n hl h0 h he;rw[if_neg hn];have hv:(A8 L (n:Int)).lv.toNat=v:=by omega
  simp only[WB,if_false,hv];have gJ:=(r2.num r3 r1).1;rw[show(A8 (BT v L n).1 ((BT v L n).2:Int)).lv.toNat=(Iq v (sem L v n)).1 from by omega,Vc9 r1 _ _ _ r2,r4]
theorem Vf7 {L:List Nd}(h:F8 L):Voe L=true:=by
 unfold Voe;rw[WO];intro i hi;have aE:i<L.length:=by simpa using hi
 rw[h.ne (i+1) (by omega) (by omega)];simp only[X2,zXn,WO,zXe];intro k hk;have hk':k<i:=by simpa using hk
 simp only[W6,W4 aE,W4 (show k<L.length by omega),Option.getD_some];intro e;exact(Yr.1 h.nd) k i (by omega) aE hk' e.symm
def NZ (n:Nat):zAb:=(List.range n).map (· + 1)
theorem Vi (n:Nat):NZ (n+1)=NZ n++[n+1]:=by simp[NZ,Y2]
theorem Pq {n i:Nat}:i∈NZ n↔1<=i/\i<=n:=by simp only[NZ,XM,Ym];constructor;rintro⟨j,h1,h2⟩;omega;intro h;exact⟨i-1,by omega,by omega⟩
theorem Vkr (rec:Nat->zAb->zAb)(x:Nd)(out:zAb):MU rec x 4 out =
  (if 1<x.lv/\0<x.k3 then rec x.k3.toNat (if 1<x.lv/\0<x.k2 then rec x.k2.toNat (if 1<x.lv/\0<x.k1 then rec x.k1.toNat (if 1<x.lv/\0<x.k0 then rec x.k0.toNat out else out)else (if 1<x.lv/\0<x.k0 then rec x.k0.toNat out else out))else (if 1<x.lv/\0<x.k1 then rec x.k1.toNat (if 1<x.lv/\0<x.k0 then rec x.k0.toNat out else out)else (if 1<x.lv/\0<x.k0 then rec x.k0.toNat out else out)))else (if 1<x.lv/\0<x.k2 then rec x.k2.toNat (if 1<x.lv/\0<x.k1 then rec x.k1.toNat (if 1<x.lv/\0<x.k0 then rec x.k0.toNat out else out)else (if 1<x.lv/\0<x.k0 then rec x.k0.toNat out else out))else (if 1<x.lv/\0<x.k1 then rec x.k1.toNat (if 1<x.lv/\0<x.k0 then rec x.k0.toNat out else out)else (if 1<x.lv/\0<x.k0 then rec x.k0.toNat out else out)))):=by
 simp only[Rh,Nd.kid,show MU rec x 0 out=out from rfl]
theorem P1 {v:Nat}{t:QT}{out:List Nd}(h:t≠.nil):0<(Bh v t out).2:=by cases t with|nil=>exact absurd rfl h|lf a b c d=>exact MC _ _|node a b c d=>exact MC _ _
theorem PJ:∀(t:QT)(v:Nat)(out s L:List Nd),GJ v t->t≠.nil->F8 out->L=(Bh v t out).1++s->G5 L v (Bh v t out).2 (NZ out.length)=NZ (Bh v t out).1.length
 |.nil,v,out,s,L,hg,hn,hc,hL=>absurd rfl hn
 |.lf a b c d,v,out,s,L,hg,hn,hc,hL=>by have hi:=Fq (.lf a b c d) v out hg hc;have hp:=P1 (v:=v) (out:=out) hn;obtain⟨rfl,_,_⟩:=hg;by_cases hle:(Bh 1 (.lf a b c d) out).2<=out.length;have:=hi.old hle;simp only[G5];rw[if_pos (Pq.2 ⟨hp,hle⟩),this];have aS:=hi.new (by omega);have iN:(Bh 1 (.lf a b c d) out).1.length=out.length+1:=(by have h1:Bh 1 (.lf a b c d) out=BL out ⟨1,a,b,c,d⟩:=rfl;rw[h1]at hle⊢;unfold BL at hle⊢;split;simp;rename_i hf;rw[if_neg hf]at hle;exact absurd (Vje _ _) hle);have hx:¬1<(A8 L ((Bh 1 (.lf a b c d) out).2:Int)).lv:=(by rw[hL,MI hp (by omega)];intro h;have:=hi.lv.num hp hi.cl.lo;omega);simp only[G5];rw[if_neg (λh=>by have:=Pq.1 h;omega),Vkr];simp only[hx,false_and,if_false];rw[iN,Vi,aS,iN]
 |.node a b c d,v,out,s,L,hg,hn,hc,hL=>by
  have hi:=Fq (.node a b c d) v out hg hc;have hp:=P1 (v:=v) (out:=out) hn;obtain⟨h2,hv,⟨ga,gb,gc,gd⟩,hne⟩:=hg;obtain⟨w,rfl⟩:∃w,v=w+1:=⟨v-1,by omega⟩;by_cases hle:(Bh (w+1) (.node a b c d) out).2<=out.length;have:=hi.old hle;simp only[G5];rw[if_pos (Pq.2 ⟨hp,hle⟩),this]
  ·have aS:=hi.new (by omega);have ga:GJ w a:=ga;have gb:GJ w b:=gb;have gc:GJ w c:=gc;have gd:GJ w d:=gd;have ia:=Fq a w out ga hc;have ib:=Fq b w _ gb ia.cl;have ic:=Fq c w _ gc ib.cl;have id:=Fq d w _ gd ic.cl;have iN:Bh (w+1) (.node a b c d) out=BL (Bh w d (Bh w c (Bh w b (Bh w a out).1).1).1).1 ⟨(w+1:Nat),(Bh w a out).2,(Bh w b (Bh w a out).1).2,(Bh w c (Bh w b (Bh w a out).1).1).2,(Bh w d (Bh w c (Bh w b (Bh w a out).1).1).1).2⟩:=rfl;obtain⟨ra,ea,_⟩:=ia.pre;obtain⟨rb,eb,_⟩:=ib.pre;obtain⟨rc,ec,_⟩:=ic.pre;obtain⟨rd,ed,_⟩:=id.pre;have dR:(Bh (w+1) (.node a b c d) out).1=(Bh w d (Bh w c (Bh w b (Bh w a out).1).1).1).1++[⟨(w+1:Nat),(Bh w a out).2,(Bh w b (Bh w a out).1).2,(Bh w c (Bh w b (Bh w a out).1).1).2,(Bh w d (Bh w c (Bh w b (Bh w a out).1).1).1).2⟩]:=by
    rw[iN]at hle aS⊢;unfold BL at hle aS⊢;split
    ·rfl
    ·rename_i hf;exfalso;rw[if_neg hf]at hle aS;dsimp only at hle aS;cases wF:C4 (Bh w d (Bh w c (Bh w b (Bh w a out).1).1).1).1 ⟨(w+1:Nat),(Bh w a out).2,(Bh w b (Bh w a out).1).2,(Bh w c (Bh w b (Bh w a out).1).1).2,(Bh w d (Bh w c (Bh w b (Bh w a out).1).1).1).2⟩with
     |zero=>exact hf wF
     |succ i=>
      rw[wF]at hle;have h3:=(EA.1 wF).1;obtain⟨r1,e1,w1⟩:=ia.pre;obtain⟨r2,e2,w2⟩:=ib.pre;obtain⟨r3,e3,w3⟩:=ic.pre;obtain⟨r4,e4,w4⟩:=id.pre;have hout:(Bh w d (Bh w c (Bh w b (Bh w a out).1).1).1).1=out++(r1++r2++r3++r4):=by
       conv=>lhs;rw[e4]
       conv=>lhs;arg 1;rw[e3]
       conv=>lhs;arg 1;arg 1;rw[e2]
       conv=>lhs;arg 1;arg 1;arg 1;rw[e1]
       simp
      rw[hout,WX (by omega)]at h3;have hm:=Xa h3;have:((w+1:Nat):Int)<=(w:Int):=(by simp only[WT]at hm;rcases hm with ((hm | hm) | hm) | hm;exact w1 _ hm;exact w2 _ hm;exact w3 _ hm;exact w4 _ hm);omega
   have hlast:A8 L ((Bh (w+1) (.node a b c d) out).2:Int)=⟨(w+1:Nat),(Bh w a out).2,(Bh w b (Bh w a out).1).2,(Bh w c (Bh w b (Bh w a out).1).1).2,(Bh w d (Bh w c (Bh w b (Bh w a out).1).1).1).2⟩:=(by rw[hL,MI hp (by omega),aS,dR];simp only[WC,zXi];rw[Bd (by simp)];simp);have step:∀(t:QT)(o:List Nd)(s':List Nd),GJ w t->F8 o->L=(Bh w t o).1++s'->(∀(out s L:List Nd),GJ w t->t≠.nil->F8 out->L=(Bh w t out).1++s->G5 L w (Bh w t out).2 (NZ out.length)=NZ (Bh w t out).1.length) ->
     (if 1<((w+1:Nat):Int)/\0<((Bh w t o).2:Int)then G5 L w ((Bh w t o).2:Int).toNat (NZ o.length)else NZ o.length)=NZ (Bh w t o).1.length:=by
    intro t o s' gt oL hLo ih;by_cases ht:t=.nil;subst ht;simp[Bh];have hp':=P1 (v:=w) (out:=o) ht;rw[if_pos ⟨by omega,by omega⟩,zXl];exact ih o s' L gt ht oL hLo
   have hLd:L=(Bh w d (Bh w c (Bh w b (Bh w a out).1).1).1).1++([⟨(w+1:Nat),(Bh w a out).2,(Bh w b (Bh w a out).1).2,(Bh w c (Bh w b (Bh w a out).1).1).2,(Bh w d (Bh w c (Bh w b (Bh w a out).1).1).1).2⟩]++s):=(by rw[hL,dR];simp);have hLc:=hLd
   conv at hLc=>rhs;arg 1;rw[ed]
   rw[WD]at hLc;have hLb:=hLc
   conv at hLb=>rhs;arg 1;rw[ec]
   rw[WD]at hLb;have hLa:=hLb
   conv at hLa=>rhs;arg 1;rw[eb]
   rw[WD]at hLa;have sa:=step a out _ ga hc hLa (λo s L=>PJ a w o s L);have sb:=step b _ _ gb ia.cl hLb (λo s L=>PJ b w o s L);have sc:=step c _ _ gc ib.cl hLc (λo s L=>PJ c w o s L);have sd:=step d _ _ gd ic.cl hLd (λo s L=>PJ d w o s L);simp only[G5];rw[if_neg (λh=>by have:=Pq.1 h;omega),hlast,Vkr];dsimp only;rw[sa,sb,sc,sd,aS,dR];simp only[WC,zXi,Vi]
theorem Lq {v:Nat}{t:QT}(hg:GJ v t):DO (Ek v t)=true/\(t≠.nil->F8 (Ek v t)/\0<(Ek v t).length/\Lv (Ek v t) (Iq v t).1 (Ek v t).length/\sem (Ek v t) (Iq v t).1 (Ek v t).length=(Iq v t).2):=by
 by_cases hn:t=.nil;subst hn;exact⟨by simp[Ek,DO],λh=>absurd rfl h⟩
 ·obtain⟨s1,s2,s3⟩:=Ve9 v t hg hn;have e:Ek v t=(Bh (Iq v t).1 (Iq v t).2 []).1:=by unfold Ek;rw[if_neg hn]
  rw[e];generalize Iq v t=vt at s1 s2 s3;obtain⟨w,u⟩:=vt;dsimp only at s1 s2 s3⊢;have hi:=Fq u w [] s1 F8.nil;have hp:=P1 (v:=w) (out:=[]) s2;have aS:=hi.new (by simpa using hp);have eM:=PJ u w [] [] _ s1 s2 F8.nil (WU _).symm;have aJ:=hi.lv;have eF:=hi.sm;rw[aS]at aJ eF hp eM;generalize (Bh w u []).1=Q at *;have aG:=hi.cl;obtain⟨q1,q2⟩:=aJ.num hp aG.lo;refine⟨?_,λ_=>⟨aG,hp,aJ,eF⟩⟩;have hne:Q≠[]:=λh=>by rw[h]at hp;simp at hp
  have gD:(Bq Q).toNat=w:=by unfold Bq;omega
  have nR:OD Q=NZ Q.length:=by unfold OD;rw[gD];exact eM
  unfold DO;rw[aG.lo,Vbg aG.lo hp aJ (aG.ne _ hp (W7 _)),eF,s3,Vf7 aG];have:Q6 Q=true:=by unfold Q6;rw[nR];have hlen:(NZ Q.length).length=Q.length:=(by simp[NZ]);simp only[hlen,decide_true,Bool.and_true,WO,zXe];intro i hi;have aE:i<Q.length:=(by simpa using hi);simp[NZ,W6,aE]
  rw[this];simp[hne]
def G9:Nat->Int->Int->List Cl->QT
 |0,_,_,_=>.nil
 |v+1,x,y,l=>
  if l=[]then .nil
  else if v=0 then .lf (Gg (Bt 1 x y 0 l)) (Gg (Bt 1 x y 1 l)) (Gg (Bt 1 x y 2 l)) (Gg (Bt 1 x y 3 l))
  else .node (G9 v (qa (v+1) x 0) (qb (v+1) y 0) (Bt (v+1) x y 0 l)) (G9 v (qa (v+1) x 1) (qb (v+1) y 1) (Bt (v+1) x y 1 l)) (G9 v (qa (v+1) x 2) (qb (v+1) y 2) (Bt (v+1) x y 2 l)) (G9 v (qa (v+1) x 3) (qb (v+1) y 3) (Bt (v+1) x y 3 l))
def F6 (v:Nat)(x y:Int)(c:Cl):Prop:=x<=c.x/\c.x<x+2^v/\y<=c.y/\c.y<y+2^v
theorem VcB {v:Nat}{a b:Int}{c:Cl}:inQ (v+1) a b c=true↔F6 v a b c:=by unfold inQ F6;simp only[WG,zXe,WQ];constructor;rintro⟨⟨⟨h1,h2⟩,h3⟩,h4⟩;exact⟨h1,h2,h3,h4⟩;rintro⟨h1,h2,h3,h4⟩;exact⟨⟨⟨h1,h2⟩,h3⟩,h4⟩
theorem Lc {v:Nat}{x y:Int}{c:Cl}(h:F6 (v+1) x y c):∃k,k<4/\F6 v (qa (v+1) x k) (qb (v+1) y k) c:=by obtain⟨h1,h2,h3,h4⟩:=h;have e:(2:Int)^(v+1)=2^v*2:=Ya _ _;unfold F6 qa qb;simp only[WQ];have hp:(0:Int)<2^v:=Yv (by omega);rw[e]at h2 h4;generalize (2:Int)^v=p at *;by_cases hx:c.x<x+p;by_cases hy:c.y<y+p;exact⟨0,by omega,by simp;omega⟩;exact⟨2,by omega,by simp;omega⟩;by_cases hy:c.y<y+p;exact⟨1,by omega,by simp;omega⟩;exact⟨3,by omega,by simp;omega⟩
theorem MA {v:Nat}{x y:Int}{k:Nat}{l:List Cl}{c:Cl}(h:c∈Bt (v+1) x y k l):F6 v (qa (v+1) x k) (qb (v+1) y k) c:=VcB.1 (Xz.1 h).2
theorem Vcz {o:List Nd}{x:Nd}{v:Nat}(hl:AF o=true)(dQ:AF (o++[x])=true)(hv:x.lv=(v:Int))(hne:(1<v/\∃k,k<4/\sem o (v-1) (x.kid k).toNat≠.nil)\/(v=1/\∃k,k<4/\x.kid k≠0)):Lv (o++[x]) v (o.length+1)/\sem (o++[x]) v (o.length+1)=(if 1<v then .node (sem o (v-1) x.k0.toNat) (sem o (v-1) x.k1.toNat) (sem o (v-1) x.k2.toNat) (sem o (v-1) x.k3.toNat)else .lf x.k0 x.k1 x.k2 x.k3):=by
 have hx:A8 (o++[x]) ((o.length+1:Nat):Int)=x:=by rw[Bd (by simp)];simp
 have hLv:Lv (o++[x]) v (o.length+1):=⟨by simp,.inr (by rw[hx,hv];omega)⟩;have hv1:1<=v:=by rcases hne with ⟨h,_⟩ | ⟨h,_⟩ <;> omega
 obtain⟨w,rfl⟩:∃w,v=w+1:=⟨v-1,by omega⟩;have hk:1<(A8 (o++[x]) ((o.length+1:Nat):Int)).lv->∀k,k<4->Lv o w (x.kid k).toNat:=by intro h1 k hk;obtain⟨q1,q2,q3⟩:=Lv.kid dQ (by omega) hLv h1 hk;rw[hx]at q1 q2 q3;refine⟨by omega,?_⟩;rcases q1.2 with h | h;exact .inl h;by_cases h0:0<(x.kid k).toNat;right;rw[<-h,MI h0 (by omega)];exact .inl (by omega)
 have hE:(A3 (o++[x])).getD (o.length+1) true=false:=by rw[PL dQ (by omega) (by simp),hx,XR];rcases hne with ⟨h1,k,bX,hs⟩ | ⟨h1,k,bX,hs⟩;have eQ:1<(A8 (o++[x]) ((o.length+1:Nat):Int)).lv:=(by rw[hx,hv];omega);have jG:=hk eQ k bX;refine⟨k,by simpa using bX,?_⟩;have hn:(A3 o).getD (x.kid k).toNat true=false:=(by cases hq:(A3 o).getD (x.kid k).toNat true with|false=>rfl|true=>exact absurd ((KN hl jG).2 hq) hs);rw[Ue jG.1,hn];have:x.kid k≠0:=λe=>(by rw[e]at hn;rw[show((0:Int)).toNat=0 from rfl,Ej]at hn;cases hn);simp[this];refine⟨k,by simpa using bX,?_⟩;have:¬1<x.lv:=(by rw[hv];omega);simp[hs,this]
 refine⟨hLv,?_⟩;unfold sem;simp only[LY,hE,WB,if_false,hx];by_cases h1:1<w+1
 ·have eQ:1<(A8 (o++[x]) ((o.length+1:Nat):Int)).lv:=by rw[hx,hv];omega
  rw[if_pos (by rw[hv];omega),if_pos h1];have e:=λk bX=>GO (r:=[x]) hl _ _ (hk eQ k bX);have e0:=e 0 (by omega);have e1:=e 1 (by omega);have e2:=e 2 (by omega);have e3:=e 3 (by omega);simp only[Nd.kid,sem]at e0 e1 e2 e3;simp only[WQ,e0,e1,e2,e3]
 rw[if_neg (by rw[hv];omega),if_neg h1]
structure Plc (v:Nat)(t:QT)(out o':List Nd)(i:Nat):Prop where
 pre:∃r,o'=out++r
 lo:AF o'=true
 lv:Lv o' v i
 sm:sem o' v i=t
theorem Vps (v:Nat)(x y:Int)(l:List Cl)(out:List Nd):plK (AS 0) 1 x y l 4 out=(out,⟨((1:Nat):Int),Gg (Bt 1 x y 0 l),Gg (Bt 1 x y 1 l),Gg (Bt 1 x y 2 l),Gg (Bt 1 x y 3 l)⟩):=rfl
theorem ViV (l:List Cl):St (Gg l):=by cases l with|nil=>exact⟨Yl _,by show(0:Int)<=255;decide⟩|cons c l=>have:=c.s.toNat_lt;exact⟨XO _,by show(c.s.toNat:Int)<=255;omega⟩
theorem ViW {l:List Cl}(h:l≠[])(hs:∀c∈l,c.s≠0):Gg l≠0:=by cases l with|nil=>exact absurd rfl h|cons c l=>intro e;have h1:(c.s.toNat:Int)=0:=e;exact hs c (by simp) (XL.1 (by simpa using h1))
theorem Vk {v:Nat}{x y:Int}:G9 v x y []=.nil:=by cases v<;>simp[G9]
theorem VbJ {v:Nat}{x y:Int}{l:List Cl}(h:l≠[]):G9 (v+1) x y l≠.nil:=by unfold G9;rw[if_neg h];split<;>simp
theorem Q3:∀(v:Nat)(out:List Nd)(x y:Int)(l:List Cl),v<=1329->AF out=true->(∀c∈l,F6 v x y c)->(∀c∈l,c.s≠0)->(l≠[]->1<=v)->Plc v (G9 v x y l) out (AS v out x y l).1 (AS v out x y l).2
 |0,out,x,y,l,hv,ho,hl,hs,h1=>⟨⟨[],by simp[AS]⟩,ho,⟨WZ _,.inl rfl⟩,Gb _ _⟩
 |v+1,out,x,y,l,hv,ho,hl,hs,h1=>by
  unfold AS G9;by_cases h0:l=[];rw[if_pos h0,if_pos h0];exact⟨⟨[],by simp⟩,ho,⟨WZ _,.inl rfl⟩,Gb _ _⟩
  ·rw[if_neg h0,if_neg h0];obtain⟨c,hc⟩:=List.exists_mem_of_ne_nil l h0;obtain⟨k0,eJ,kG⟩:=Lc (hl c hc);have pB:Bt (v+1) x y k0 l≠[]:=λe=>(by have:c∈Bt (v+1) x y k0 l:=Xz.2 ⟨hc,VcB.2 kG⟩;rw[e]at this;cases this);have xS:∀k,∀c∈Bt (v+1) x y k l,c.s≠0:=λk c hc=>hs c (Xz.1 hc).1;by_cases hv0:v=0
   ·subst hv0;rw[if_pos rfl,Vps 0];dsimp only;generalize hX:(⟨((1:Nat):Int),Gg (Bt 1 x y 0 l),Gg (Bt 1 x y 1 l),Gg (Bt 1 x y 2 l),Gg (Bt 1 x y 3 l)⟩:Nd)=X;have aZ:∀k,k<4->X.kid k=Gg (Bt 1 x y k l):=by
     intro k hk;subst hX
     match k,hk with
     |0,_=>rfl
     |1,_=>rfl
     |2,_=>rfl
     |3,_=>rfl
    have hXl:X.lv=((1:Nat):Int):=(by subst hX;rfl);have hlo:AF (out++[X])=true:=KW ho (KX (by rw[hXl];decide) (by rw[hXl];decide) λk hk=>by rw[aZ k hk];have:=ViV (Bt 1 x y k l);exact⟨this.1,λ_=>this.2,λe=>by rw[hXl]at e;exact absurd e (by decide)⟩);obtain⟨q1,q2⟩:=Vcz ho hlo hXl (.inr ⟨rfl,k0,eJ,by rw[aZ k0 eJ];exact ViW pB (xS k0)⟩);refine⟨⟨[X],rfl⟩,hlo,q1,?_⟩;rw[q2,if_neg (by omega)];subst hX;rfl
   ·rw[if_neg hv0];have step:∀k,k<=4->AF (plK (AS v) (v+1) x y l k out).1=true/\(∃r,(plK (AS v) (v+1) x y l k out).1=out++r)/\(plK (AS v) (v+1) x y l k out).2.lv=((v+1:Nat):Int) /\
      ∀j,j<k->0<=(plK (AS v) (v+1) x y l k out).2.kid j/\Lv (plK (AS v) (v+1) x y l k out).1 v ((plK (AS v) (v+1) x y l k out).2.kid j).toNat/\sem (plK (AS v) (v+1) x y l k out).1 v ((plK (AS v) (v+1) x y l k out).2.kid j).toNat=G9 v (qa (v+1) x j) (qb (v+1) y j) (Bt (v+1) x y j l):=by
     intro k
     induction k with
     |zero=>intro _;exact⟨ho,⟨[],by simp[plK]⟩,rfl,λj hj=>by omega⟩
     |succ k ih=>
      intro hk;obtain⟨i1,⟨r,i2⟩,i3,i4⟩:=ih (by omega);have hp:=Q3 v (plK (AS v) (v+1) x y l k out).1 (qa (v+1) x k) (qb (v+1) y k) (Bt (v+1) x y k l) (by omega) i1 (λc hc=>MA hc) (xS k) (λ_=>by omega);have e:plK (AS v) (v+1) x y l (k+1) out=((AS v (plK (AS v) (v+1) x y l k out).1 (qa (v+1) x k) (qb (v+1) y k) (Bt (v+1) x y k l)).1,(plK (AS v) (v+1) x y l k out).2.setKid k ((AS v (plK (AS v) (v+1) x y l k out).1 (qa (v+1) x k) (qb (v+1) y k) (Bt (v+1) x y k l)).2:Int)):=by
       conv=>lhs;unfold plK
       rw[if_neg (by omega)]
      rw[e];generalize plK (AS v) (v+1) x y l k out=P at *;generalize AS v P.1 (qa (v+1) x k) (qb (v+1) y k) (Bt (v+1) x y k l)=Q at *;obtain⟨s,mJ⟩:=hp.pre;dsimp only;refine⟨hp.lo,⟨r++s,by rw[mJ,i2];simp⟩,by rw[Vv];exact i3,λj hj=>?_⟩;by_cases jT:j=k;subst jT;rw[RA _ _ (by omega),zXl];exact⟨XO _,hp.lv,hp.sm⟩;rw[F9 _ _ (by omega) (by omega) jT];obtain⟨j1,j2,j3⟩:=i4 j (by omega);rw[mJ];exact⟨j1,j2.old,(GO i1 _ _ j2).trans j3⟩
    obtain⟨t1,⟨r,t2⟩,t3,t4⟩:=step 4 (by omega);generalize plK (AS v) (v+1) x y l 4 out=P at t1 t2 t3 t4;obtain⟨o,X⟩:=P;dsimp only at t1 t2 t3 t4⊢;have hlo:AF (o++[X])=true:=KW t1 (KX (by rw[t3];omega) (by rw[t3];omega) λk hk=>by obtain⟨j1,j2,j3⟩:=t4 k hk;refine⟨j1,λe=>by rw[t3]at e;omega,λ_ hpos=>?_⟩;have:=j2.1;refine⟨by omega,?_⟩;have qU:=(j2.num (by omega) t1).1;rw[show((X.kid k).toNat:Int)=X.kid k from by omega]at qU;rw[qU,t3];omega);obtain⟨q1,q2⟩:=Vcz t1 hlo t3 (.inl ⟨by omega,k0,eJ,by rw[WQ,(t4 k0 eJ).2.2];obtain⟨w,rfl⟩:∃w,v=w+1:=⟨v-1,by omega⟩;exact VbJ pB⟩);refine⟨⟨r++[X],by rw[t2];simp⟩,hlo,q1,?_⟩;rw[q2,if_pos (by omega),WQ];have f0:=(t4 0 (by omega)).2.2;have f1:=(t4 1 (by omega)).2.2;have f2:=(t4 2 (by omega)).2.2;have f3:=(t4 3 (by omega)).2.2;simp only[Nd.kid]at f0 f1 f2 f3;rw[f0,f1,f2,f3]
theorem VfF:∀f v c,J5 f v c<v+f->EV (J5 f v c) c=true
 |0,v,c,h=>by simp[J5]at h
 |f+1,v,c,h=>by unfold J5 at h⊢;split;rename_i hw;exact hw;rename_i hw;rw[if_neg hw]at h;exact VfF f (v+1) c (by omega)
theorem Vfq {v w:Nat}(h:v<=w):(2:Int)^v<=2^w:=by
 have h1:(2:Nat)^v<=2^w:=Xe (by omega) h;have h2:((2^v:Nat):Int)<=((2^w:Nat):Int):=by omega
 simpa using h2
theorem Va1 {v w:Nat}{c:Cl}(h:EV v c=true)(hw:v<=w):EV w c=true:=by have h1:=Vfq (show v-1<=w-1 by omega);simp only[EV,inZ,WG,zXe]at h⊢;generalize (2:Int)^(v-1)=p at *;generalize (2:Int)^(w-1)=q at *;omega
theorem Px:∀(l:List Cl)(v:Nat),1<=v->v<=1330->l.foldl (λv c=>J5 (1330-v) v c) v<=1329->∀c∈l,EV (l.foldl (λv c=>J5 (1330-v) v c) v) c=true
 |[],v,_,_,_,c,hc=>by cases hc
 |d::l,v,h1,h2,h3,c,hc=>by have hu:=VaZ (1330-v) v d;have hf:=VP l (J5 (1330-v) v d) (by omega) (by omega);simp only[List.foldl_cons]at h3⊢;rcases Xs.1 hc with rfl | hc;exact Va1 (VfF (1330-v) v c (by omega)) hf.1;exact Px l _ (by omega) (by omega) h3 c hc
theorem Pw {S:List Cl}(h:A9 S<=1329):∀c∈S,EV (A9 S) c=true:=Px S 1 (by omega) (by omega) h
theorem N1 {v:Nat}{c:Cl}(h1:1<=v)(h:EV v c=true):F6 v (-(2^(v-1))) (-(2^(v-1))) c:=by obtain⟨w,rfl⟩:∃w,v=w+1:=⟨v-1,by omega⟩;have e:(2:Int)^(w+1)=2^w*2:=Ya _ _;simp only[EV,inZ,WG,zXe,WQ]at h;unfold F6;rw[WQ,e];generalize (2:Int)^w=p at *;omega
def JN (S:List Cl):QT:=G9 (A9 S) (-(2^(A9 S-1))) (-(2^(A9 S-1))) S
theorem Vi0 {S:List Cl}(hs:∀c∈S,c.s≠0):Ov S=if A9 S>1329 then ([],4)else (Ek (A9 S) (JN S),0):=by
 unfold Ov JN;obtain⟨v1,v2⟩:=Jk S;by_cases hv:A9 S>1329;rw[if_pos hv,if_pos hv]
 ·rw[if_neg hv,if_neg hv];have cR:∀c∈S,F6 (A9 S) (-(2^(A9 S-1))) (-(2^(A9 S-1))) c:=λc hc=>N1 v1 (Pw (by omega) c hc);generalize A9 S=v at v1 v2 hv cR;have hp:=Q3 v [] (-(2^(v-1))) (-(2^(v-1))) S (by omega) rfl cR hs (λ_=>v1);have hok:T9 (AS v [] (-(2^(v-1))) (-(2^(v-1))) S).1 ((AS v [] (-(2^(v-1))) (-(2^(v-1))) S).2:Int)=true:=by unfold T9;have:=hp.lv.1;simp only[hp.lo,zXn,WG,zXe];omega
  rw[if_pos hok,VgS hp.lo hp.lv,hp.sm]
theorem Kt {l:List Cl}{c:Cl}(h:c∈Bo l):c.s≠0:=by have:=(Xz.1 h).2;simpa using this
theorem OL {S:List Cl}(hs:∀c∈S,c.s≠0)(hv:A9 S<=1329):GJ (A9 S) (JN S):=by obtain⟨v1,v2⟩:=Jk S;have hp:=Q3 (A9 S) [] (-(2^(A9 S-1))) (-(2^(A9 S-1))) S hv rfl (λc hc=>N1 v1 (Pw hv c hc)) hs (λ_=>v1);have:=M3 hp.lo _ _ hp.lv;rw[hp.sm]at this;exact this
theorem Pj (l:List Cl):CU l=if A9 (Bo l)>1329 then ([],4)else (Ek (A9 (Bo l)) (JN (Bo l)),0):=by rw[Sx,Vi0 λc hc=>Kt hc]
theorem Vae {most:Int}{l:List Cl}:DO (CU l).1=true:=by rw[Pj];split;simp[DO];exact(Lq (OL (λc hc=>Kt hc) (by omega))).1
def Vi6 (m:Int)(x:Nd):Nat->Int
 |0=>m
 |k+1=>max (Vi6 m x k) (x.kid k)
def Ow (L:List Nd):Int:=L.foldl (λm x=>if x.lv=1 then Vi6 m x 4 else m) 0
theorem VeV (L:List Nd):Dp L=.agg [.sl (enL cNd L) .no]:=rfl
theorem VmW (L:List Nd)(H:Aa):BC true 1 (Dp L) H=some (.ptr H.length 0 0,H++[.c0 (Bl L)]):=Ce rfl rfl
section
variable {H:Aa}{p:Nat}{L:List Nd}
theorem Fl (hg:H[p]? = some (.c0 (Bl L))):Ad false 1 (.ptr p 0 0) H=some (.sl (enL cNd L) .no):=by simp only[Ad,Ax hg,zXa];rfl
theorem NH (hg:H[p]? = some (.c0 (Bl L))):Ad true 1 (.ptr p 0 0) H=some (Dp L):=by simp only[Ad,Ax hg,zXa];rfl

end
theorem Vid (L:List Nd)(H:Aa)(hL:L.length<1152921504606846976):Ub1 (Dp L) H=some (.ret (.int .u8 (IntKind.u8.wrap (Ow L))),H):=by
 unfold Ub1;have e1:(H++[Blk.c0 (Bl L)])[H.length]? = some (.c0 (Bl L)):=An;simp only[GMw,VmW];refine Cx (G:=λrec1 vs H1=>Udb H rec1 (ag vs 0) (ag vs 1) (ag vs 2) H1) L.length (λi=>[.ptr H.length 0 0,.i6 (Ow (L.take i)),.i6 (i:Int)]) (λ_=>H++[.c0 (Bl L)]) _ hL (λrec i hi=>?_) (λrec=>?_)
 ·have aE:(i:Int)<(L.length:Int):=by omega
  have aK:=Au (show i<9223372036854775807 by omega);have hm:Ow (L.take (i+1))=if L[i].lv=1 then Vi6 (Ow (L.take i)) L[i] 4 else Ow (L.take i):=by unfold Ow;rw[WF hi,Yd];rfl
  rw[hm];generalize Ow (L.take i)=m;unfold Udb;simp only[GMw,Ae,W9,Fl e1,Aw,aE];by_cases aJ:L[i].lv=1;rw[if_pos aJ];refine Cx (G:=λaA vs H1=>Ub0 H rec aA (ag vs 0) (ag vs 1) (ag vs 2) (ag vs 3) H1) 4 (λk=>[.ptr H.length 0 0,.i6 (Vi6 m L[i] k),.i6 (i:Int),.i6 (k:Int)]) (λ_=>H++[.c0 (Bl L)]) _ (by decide) (λaA k hk=>?_) (λaA=>?_);have hk':(k:Int)<4:=(by omega);unfold Ub0;simp only[GMw,Aq,Ae,A5,W9,Nat.add_zero,WK,Cy,hk',Fl e1,Ay hi,aJ,EZ hk,EG hk,Sy,Au (show k<9223372036854775807 by omega),Vi6];have hf:¬(((4:Nat):Int)<4):=(by decide);unfold Ub0;simp only[GMw,hf,aK];rw[if_neg aJ,Eg Fr];have hf:((0:Int)<4):=(by decide);unfold Ub0;simp only[GMw,Aq,Ae,A5,W9,Nat.add_zero,WK,Cy,hf,Fl e1,Ay hi,aJ,aK]
 unfold Udb;rw[WH (W7 _)];simp only[GMw,Ae,W9,Fl e1,Aw,Xm,Bx,It]
theorem VfD {m:Int}{x:Nd}(hm:St m)(hx:∀k,k<4->St (x.kid k)):∀k,k<=4->St (Vi6 m x k)
 |0,_=>hm
 |k+1,h=>by have h1:=VfD hm hx k (by omega);have h2:=hx k (by omega);obtain⟨a1,a2⟩:=h1;obtain⟨b1,b2⟩:=h2;exact⟨show(0:Int)<=max (Vi6 m x k) (x.kid k)by omega,show max (Vi6 m x k) (x.kid k)<=(255:Int)by omega⟩
theorem Vi5 {L:List Nd}(hl:AF L=true):St (Ow L):=by
 have key:∀(l:List Nd)(m:Int),St m->(∀x∈l,x.lv=1->∀k,k<4->St (x.kid k))->St (l.foldl (λm x=>if x.lv=1 then Vi6 m x 4 else m) m):=by
  intro l
  induction l with
  |nil=>intro m hm _;exact hm
  |cons a l ih=>intro m hm hx;refine ih _ ?_ λx h=>hx x (by simp[h]);dsimp only;split;rename_i h;exact VfD hm (hx a (by simp) h) 4 (W7 _);exact hm
 refine key L 0 ⟨Yl _,by decide⟩ λx hx aJ k hk=>?_;obtain⟨i,hi,rfl⟩:=Xf hx;have:=(AQ hl hi).2.2 k hk;exact⟨this.1,this.2.1 aJ⟩
theorem Vfc {L:List Nd}(H:Aa)(hL:L.length<1152921504606846976)(hl:AF L=true):Ub1 (Dp L) H=some (.ret (.int .u8 (Ow L)),H):=by have:=Vi5 hl;rw[Vid L H hL,Gp this.1 (by have:=this.2;omega)]
theorem VjS (z:Int)(v:Nat)(H:Aa)(hz:SB 100 z)(h1:1<=v)(h2:v<=1400):Ub2 (big z) (.i6 (v:Int)) H=some (.ret (.bool (inZ v z)),H):=by
 have hw:IntKind.i64.wrap ((v:Int)-1)=((v-1:Nat):Int):=HA (by omega) (by omega);have hp:=(EW (show v-1<=1400 by omega)).lb (by decide);have cE:=λH=>IA (v-1) H (by omega);have gW:=λH=>Jc (2^(v-1)) H hp;have hx:=λH b (hb:LB b)=>Fi z b H (hz.lb (by decide)) hb;have s1:∀B:Aa,Ai 2 (.ptr B.length 0 0) (big (2^(v-1))) (B++[.c0 [.bool false,.sl [] .ti]])=some (B++[.c0 (A2 (2^(v-1)))]):=λB=>by rw[BP (An (B:=B)) rfl,Be]
 have e1:(H++[Blk.c0 (A2 z)]++[Blk.c0 (A2 (2^(v-1)))])[H.length]? = some (.c0 (A2 z)):=by simp
 have e2:(H++[Blk.c0 (A2 z)]++[Blk.c0 (A2 (2^(v-1)))])[(H++[Blk.c0 (A2 z)]).length]? = some (.c0 (A2 (2^(v-1)))):=An;have fin:∀q:Bool,rP H (.bool q) (H++[Blk.c0 (A2 z)]++[Blk.c0 (A2 (2^(v-1)))])=some (.ret (.bool q),H):=λq=>by simp only[WD];exact Ey
 unfold Ub2 inZ;simp only[GMw,DA,hw,cE,CR,s1,Ba e1,Ba e2,gW,and_true,eq_self,hx _ _ hp.neg,Gu];cases decide (-(2^(v-1))<=z)with|false=>simp only[GMw,fin]|true=>simp only[GMw,Ba e1,Ba e2,hx _ _ hp,Gt,fin]
def qk (v:Nat)(x y:Int):Nat:=(if 2^(v-1)<=x then 1 else 0)+(if 2^(v-1)<=y then 2 else 0)
def qd (v:Nat)(x:Int):Int:=if 2^(v-1)<=x then x-2^(v-1)else x
theorem VhR (v:Nat)(x y:Int):qk v x y<4:=by unfold qk;split<;>split<;>omega
theorem VaN (v:Nat)(x y:Int)(H:Aa)(h1:1<=v)(h2:v<=1400)(hx:SB 100 x)(hy:SB 100 y):Udd (.i6 (v:Int)) (big x) (big y) H=some (.ret (.tup [.i6 (qk v x y:Int),big (qd v x),big (qd v y)]),H):=by
 have hw:IntKind.i64.wrap ((v:Int)-1)=((v-1:Nat):Int):=HA (by omega) (by omega);have hp:=(EW (show v-1<=1400 by omega)).lb (by decide);have cE:=λH=>IA (v-1) H (by omega);have cx:=λH=>Fi x (2^(v-1)) H (hx.lb (by decide)) hp;have cy:=λH=>Fi y (2^(v-1)) H (hy.lb (by decide)) hp;have sx:=λH=>Tp x (2^(v-1)) H (hx.lb (by decide)) hp;have sy:=λH=>Tp y (2^(v-1)) H (hy.lb (by decide)) hp;unfold Udd;have s1:∀B:Aa,Ai 2 (.ptr B.length 0 0) (big (2^(v-1))) (B++[.c0 [.bool false,.sl [] .ti]])=some (B++[.c0 (A2 (2^(v-1)))]):=λB=>by rw[BP (An (B:=B)) rfl,Be]
 simp only[GMw,DA,CR,hw,cE,s1];have l1:(H++[Blk.c0 (A2 x)]).length=H.length+1:=by simp
 have l2:(H++[Blk.c0 (A2 x)]++[Blk.c0 (A2 y)]).length=H.length+2:=by simp
 have l3:(H++[Blk.c0 (A2 x)]++[Blk.c0 (A2 y)]++[Blk.c0 [Ab.bool false,.sl [] .ti]]).length=H.length+3:=by simp
 have l4:(H++[Blk.c0 (A2 x)]++[Blk.c0 (A2 y)]++[Blk.c0 [Ab.bool false,.sl [] .ti]]++[Blk.c0 [Ab.bool false,.sl [] .ti]]).length=H.length+4:=by simp
 simp only[l1,l2,l3,l4];have five:∀a b c d e:List Ab,(H++[Blk.c0 a]++[Blk.c0 b]++[Blk.c0 c]++[Blk.c0 d]++[Blk.c0 e])=H++[Blk.c0 a,.c0 b,.c0 c,.c0 d,.c0 e]:=λa b c d e=>by simp
 rw[five];have g0:∀(z:Int)(b c d e:List Ab),Ad true 2 (.ptr H.length 0 0) (H++[Blk.c0 (A2 z),.c0 b,.c0 c,.c0 d,.c0 e])=some (big z):=λz b c d e=>Ba (by simp);have g1:∀(z:Int)(a c d e:List Ab),Ad true 2 (.ptr (H.length+1) 0 0) (H++[Blk.c0 a,.c0 (A2 z),.c0 c,.c0 d,.c0 e])=some (big z):=λz a c d e=>Ba (by simp);have g2:∀(z:Int)(a b d e:List Ab),Ad true 2 (.ptr (H.length+2) 0 0) (H++[Blk.c0 a,.c0 b,.c0 (A2 z),.c0 d,.c0 e])=some (big z):=λz a b d e=>Ba (by simp);have g3:∀(z:Int)(a b c e:List Ab),Ad true 2 (.ptr (H.length+3) 0 0) (H++[Blk.c0 a,.c0 b,.c0 c,.c0 (A2 z),.c0 e])=some (big z):=λz a b c e=>Ba (by simp);have g4:∀(z:Int)(a b c d:List Ab),Ad true 2 (.ptr (H.length+4) 0 0) (H++[Blk.c0 a,.c0 b,.c0 c,.c0 d,.c0 (A2 z)])=some (big z):=λz a b c d=>Ba (by simp);have p0:∀(z z':Int)(b c d e:List Ab),Ai 2 (.ptr H.length 0 0) (big z) (H++[Blk.c0 (A2 z'),.c0 b,.c0 c,.c0 d,.c0 e])=some (H++[Blk.c0 (A2 z),.c0 b,.c0 c,.c0 d,.c0 e]):=λz z' b c d e=>by rw[BP (cs:=A2 z') (by simp) rfl];simp
 have p1:∀(z z':Int)(a c d e:List Ab),Ai 2 (.ptr (H.length+1) 0 0) (big z) (H++[Blk.c0 a,.c0 (A2 z'),.c0 c,.c0 d,.c0 e])=some (H++[Blk.c0 a,.c0 (A2 z),.c0 c,.c0 d,.c0 e]):=λz z' a c d e=>by rw[BP (cs:=A2 z') (by simp) rfl];simp
 have p2:∀(z:Int)(a b d e:List Ab),Ai 2 (.ptr (H.length+2) 0 0) (big z) (H++[Blk.c0 a,.c0 b,.c0 [.bool false,.sl [] .ti],.c0 d,.c0 e])=some (H++[Blk.c0 a,.c0 b,.c0 (A2 z),.c0 d,.c0 e]):=λz a b d e=>by rw[BP (cs:=[.bool false,.sl [] .ti]) (by simp) rfl];simp
 have p3:∀(z:Int)(a b c e:List Ab),Ai 2 (.ptr (H.length+3) 0 0) (big z) (H++[Blk.c0 a,.c0 b,.c0 c,.c0 [.bool false,.sl [] .ti],.c0 e])=some (H++[Blk.c0 a,.c0 b,.c0 c,.c0 (A2 z),.c0 e]):=λz a b c e=>by rw[BP (cs:=[.bool false,.sl [] .ti]) (by simp) rfl];simp
 have w1:IntKind.i64.wrap (0+1)=1:=by decide
 have w2:IntKind.i64.wrap (0+2)=2:=by decide
 have w3:IntKind.i64.wrap (1+2)=3:=by decide
 unfold qk qd;simp only[GMw,g0,g4,cx,Gu];by_cases ha:(2:Int)^(v-1)<=x
 ·by_cases hb:(2:Int)^(v-1)<=y
  ·simp only[GMw,ha,hb,w1,w3,g0,g1,g2,g3,g4,sx,sy,cx,cy,Gu,p0,p1,p2,p3,Aj,Ub4,Ub3,and_true,eq_self,EX,Dl,DN,zXb,C8,Cs,By,BB,Dc,NO]
   rfl
  ·simp only[GMw,ha,hb,w1,w3,g0,g1,g2,g3,g4,sx,sy,cx,cy,Gu,p0,p1,p2,p3,Aj,Ub4,Ub3,and_true,eq_self,EX,Dl,DN,zXb,C8,Cs,By,BB,Dc,NO]
   rfl
 ·by_cases hb:(2:Int)^(v-1)<=y
  ·simp only[GMw,ha,hb,w1,w2,w3,g0,g1,g2,g3,g4,sx,sy,cx,cy,Gu,p0,p1,p2,p3,Aj,Ub4,Ub3,and_true,eq_self,EX,Dl,DN,zXb,C8,Cs,By,BB,Dc,NO]
   rfl
  ·simp only[GMw,ha,hb,w1,w2,w3,g0,g1,g2,g3,g4,sx,sy,cx,cy,Gu,p0,p1,p2,p3,Aj,Ub4,Ub3,and_true,eq_self,EX,Dl,DN,zXb,C8,Cs,By,BB,Dc,NO]
   rfl
def P9 (L:List Nd):Nat->Nat->Int->Int->Int
 |0,_,_,_=>0
 |v+1,n,x,y=>
  if n=0 then 0
  else if (A8 L n).lv=1 then (A8 L n).kid (qk (v+1) x y)
  else P9 L v ((A8 L n).kid (qk (v+1) x y)).toNat (qd (v+1) x) (qd (v+1) y)
def Sc (L:List Nd)(x y:Int):Int:=
 if L=[]then 0
 else if inZ (Bq L).toNat x&&inZ (Bq L).toNat y then P9 L (Bq L).toNat L.length (x+2^((Bq L).toNat-1)) (y+2^((Bq L).toNat-1))else 0
theorem Vnx {v k:Nat}{x:Int}(h:SB k x):SB k (qd v x):=by unfold qd;have hp:(0:Int)<2^(v-1):=Yv (by omega);unfold SB at *;generalize (2:Int)^(v-1)=p at *;generalize (4294967296:Nat)^k=q at *;split<;>omega
theorem Vgi {L:List Nd}(hl:AF L=true):∀v n x y,Lv L v n->St (P9 L v n x y)
 |0,n,x,y,h=>⟨Yl _,by show(0:Int)<=255;decide⟩
 |v+1,n,x,y,h=>by unfold P9;split;exact⟨Yl _,by show(0:Int)<=255;decide⟩;rename_i h0;have dY:0<n:=(by omega);split;rename_i h1;obtain⟨m,rfl⟩:∃m,n=m+1:=⟨n-1,by omega⟩;rw[Bd h.1]at h1⊢;have:=(AQ hl h.1).2.2 (qk (v+1) x y) (VhR _ _ _);exact⟨this.1,this.2.1 h1⟩;rename_i h1;have:=h.num dY hl;exact Vgi hl v _ _ _ (Lv.kid hl dY h (by omega) (VhR _ _ _)).1
theorem VkW (L:List Nd)(x y:Int)(H:Aa)(hL:L.length<17592186044415)(hl:AF L=true)(hx:SB 99 x)(hy:SB 99 y):Ude (Dp L) (big x) (big y) H=some (.ret (.int .u8 (Sc L x y)),H):=by
 unfold Ude;simp only[GMw,VmW,DA];have l1:(H++[Blk.c0 (Bl L)]).length=H.length+1:=by simp
 have l2:(H++[Blk.c0 (Bl L)]++[Blk.c0 (A2 x)]).length=H.length+2:=by simp
 have l3:(H++[Blk.c0 (Bl L)]++[Blk.c0 (A2 x)]++[Blk.c0 (A2 y)]).length=H.length+3:=by simp
 have three:∀(x y:Int),H++[Blk.c0 (Bl L)]++[Blk.c0 (A2 x)]++[Blk.c0 (A2 y)]=H++Blk.c0 (Bl L)::.c0 (A2 x)::.c0 (A2 y)::[]:=λx y=>by simp
 have gq:∀(x y:Int)(G:Aa),Ad true 1 (.ptr H.length 0 0) (H++Blk.c0 (Bl L)::.c0 (A2 x)::.c0 (A2 y)::G)=some (Dp L):=λx y G=>NH (by simp);have gn:∀(x y:Int)(G:Aa),Ad false 1 (.ptr H.length 0 0) (H++Blk.c0 (Bl L)::.c0 (A2 x)::.c0 (A2 y)::G)=some (.sl (enL cNd L) .no):=λx y G=>Fl (by simp);have gx:∀(x y:Int)(G:Aa),Ad true 2 (.ptr (H.length+1) 0 0) (H++Blk.c0 (Bl L)::.c0 (A2 x)::.c0 (A2 y)::G)=some (big x):=λx y G=>Ba (by simp);have gy:∀(x y:Int)(G:Aa),Ad true 2 (.ptr (H.length+2) 0 0) (H++Blk.c0 (Bl L)::.c0 (A2 x)::.c0 (A2 y)::G)=some (big y):=λx y G=>Ba (by simp);have px:∀(z x y:Int)(G:Aa),Ai 2 (.ptr (H.length+1) 0 0) (big z) (H++Blk.c0 (Bl L)::.c0 (A2 x)::.c0 (A2 y)::G)=some (H++Blk.c0 (Bl L)::.c0 (A2 z)::.c0 (A2 y)::G):=λz x y G=>by rw[BP (cs:=A2 x) (by simp) rfl];simp
 have py:∀(z x y:Int)(G:Aa),Ai 2 (.ptr (H.length+2) 0 0) (big z) (H++Blk.c0 (Bl L)::.c0 (A2 x)::.c0 (A2 y)::G)=some (H++Blk.c0 (Bl L)::.c0 (A2 x)::.c0 (A2 z)::G):=λz x y G=>by rw[BP (cs:=A2 y) (by simp) rfl];simp
 have fin:∀(q:Int)(G:Aa),rP H (.int .u8 q) (H++G)=some (.ret (.int .u8 q),H):=λq G=>It;have lvl:=λH=>VB L .no H hL;rw[<-VeV]at lvl;rw[l1,l2,three];simp only[GMw,gq,lvl];unfold Sc;by_cases h0:L=[];simp only[if_pos h0,GMw,fin]
 ·rw[if_neg h0];have hlen:0<L.length:=Xd.2 h0;have hm:L.length-1<L.length:=by omega
  have hLv:Lv L (Bq L).toNat L.length:=⟨W7 _,.inr rfl⟩;obtain⟨cL,hn2⟩:=hLv.num hlen hl;have gD:Bq L=((Bq L).toNat:Int):=cL;have hle:=Pt hl hlen (W7 _);have iV:(Bq L).toNat<=1329:=hle;rw[if_neg h0];generalize (Bq L).toNat=v at hLv cL hn2 gD iV;rw[gD];have hv0:¬((v:Int)=0):=by omega
  have wC:=λH=>VjS x v H (hx.mono (by omega)) hn2 (by omega);have wB:=λH=>VjS y v H (hy.mono (by omega)) hn2 (by omega);simp only[GMw,hv0,gx,wC];cases inZ v x with
  |false=>simp only[GMw,fin]
  |true=>
   simp only[GMw,gy,wB];cases inZ v y with
   |false=>simp only[GMw,fin]
   |true=>
    have hw:IntKind.i64.wrap ((v:Int)-1)=((v-1:Nat):Int):=HA (by omega) (by omega);have uY:=EW (show v-1<=1400 by omega);have hp:=uY.lb (show 44<=549755813888 by decide);have cE:=λH=>IA (v-1) H (by omega);have ax:=λH=>Ie x (2^(v-1)) H (hx.lb (by decide)) hp;have ay:=λH=>Ie y (2^(v-1)) H (hy.lb (by decide)) hp;have oW:SB 100 (x+2^(v-1)):=hx.add (uY.mono (by omega));have kQ:SB 100 (y+2^(v-1)):=hy.add (uY.mono (by omega));have l4:∀x y:Int,(H++Blk.c0 (Bl L)::.c0 (A2 x)::.c0 (A2 y)::[]).length=H.length+3:=λx y=>(by simp);have four:∀(x y:Int)(c:Blk),(H++Blk.c0 (Bl L)::.c0 (A2 x)::.c0 (A2 y)::[])++[c]=H++Blk.c0 (Bl L)::.c0 (A2 x)::.c0 (A2 y)::[c]:=λx y c=>(by simp);have ph:∀(x y:Int),Ai 2 (.ptr (H.length+3) 0 0) (big (2^(v-1))) (H++Blk.c0 (Bl L)::.c0 (A2 x)::.c0 (A2 y)::[.c0 [.bool false,.sl [] .ti]])=some (H++Blk.c0 (Bl L)::.c0 (A2 x)::.c0 (A2 y)::[.c0 (A2 (2^(v-1)))]):=λx y=>(by rw[BP (cs:=[.bool false,.sl [] .ti]) (by simp) rfl];simp);have gh:∀(x y:Int)(z:Int),Ad true 2 (.ptr (H.length+3) 0 0) (H++Blk.c0 (Bl L)::.c0 (A2 x)::.c0 (A2 y)::[.c0 (A2 z)])=some (big z):=λx y z=>Ba (by simp);simp only[GMw,hw,cE,CR,l4,four,ph,gx,gh,and_true,eq_self,ax,gy,ay,px,py,Ae,W9,gn,Aw];refine Bv (G:=λrec1 vs H1=>Uel H rec1 (ag vs 0) (ag vs 1) (ag vs 2) (ag vs 3) H1) (σ:=Nat×Nat×Int×Int×Aa) (λs=>Lv L s.1 s.2.1/\s.1<=1329/\SB 100 s.2.2.1/\SB 100 s.2.2.2.1)
     (λs=>[.ptr H.length 0 0,.ptr (H.length+1) 0 0,.ptr (H.length+2) 0 0,.i6 (s.2.1:Int)]) (λs=>H++Blk.c0 (Bl L)::.c0 (A2 s.2.2.1)::.c0 (A2 s.2.2.2.1)::s.2.2.2.2) (λs=>s.1)
     (λs=>some (.ret (.int .u8 (P9 L s.1 s.2.1 s.2.2.1 s.2.2.2.1)),H)) (λs rec hs hrec=>?_) (v,L.length,x+2^(v-1),y+2^(v-1),[.c0 (A2 (2^(v-1)))]) ⟨hLv,iV,oW,kQ⟩ (by dsimp only;omega)
    obtain⟨u,n,a,b,G⟩:=s;obtain⟨s1,s2,s3,s4⟩:=hs;simp only at s1 s2 s3 s4 hrec⊢;unfold Uel;by_cases hn:n=0;subst hn;have:P9 L u 0 a b=0:=(by cases u<;>simp[P9]);rw[this];simp only[GMw,show((0:Nat):Int)=0 from rfl,show ¬((0:Int)>0) from by decide,fin]
    ·obtain⟨m,rfl⟩:∃m,n=m+1:=⟨n-1,by omega⟩;have hml:m<L.length:=s1.1;obtain⟨c1,c2⟩:=s1.num (by omega) hl;obtain⟨w,rfl⟩:∃w,u=w+1:=⟨u-1,by omega⟩;have dA:IntKind.i64.wrap (((m+1:Nat):Int)-1)=(m:Int):=(by rw[Am]<;>omega);have hpos:((m+1:Nat):Int)>0:=(by omega);have hx:A8 L ((m+1:Nat):Int)=L[m]:=Bd hml;have aJ:L[m].lv=((w+1:Nat):Int):=(by rw[<-hx];exact c1);have pA:=λH=>VaN (w+1) a b H (by omega) (by omega) s3 s4;have bX:=VhR (w+1) a b;have hgf:P9 L (w+1) (m+1) a b=if L[m].lv=1 then L[m].kid (qk (w+1) a b)else P9 L w (L[m].kid (qk (w+1) a b)).toNat (qd (w+1) a) (qd (w+1) b):=by
      conv=>lhs;unfold P9
      rw[if_neg (by omega),hx]
     rw[hgf];generalize hB:H++Blk.c0 (Bl L)::.c0 (A2 a)::.c0 (A2 b)::G=B;have n1:Ad false 1 (.ptr H.length 0 0) B=some (.sl (enL cNd L) .no):=(by rw[<-hB];exact gn _ _ _);have n2:Ad true 2 (.ptr (H.length+1) 0 0) B=some (big a):=(by rw[<-hB];exact gx _ _ _);have n3:Ad true 2 (.ptr (H.length+2) 0 0) B=some (big b):=(by rw[<-hB];exact gy _ _ _);have lB:(B++[Blk.c0 [Ab.bool false,.sl [] .ti]]).length=B.length+1:=(by simp);have t0:=λ(z:Int) (c:List Ab)=>st0 (Hc:=B) (a:=[.bool false,.sl [] .ti]) (c:=c) (z:=z) rfl;have t1:=λ(z:Int) (a:List Ab)=>st1 (Hc:=B) (a:=a) (c:=[.bool false,.sl [] .ti]) (z:=z) rfl;have shape:∀(a b:Int)(c d:Blk),H++Blk.c0 (Bl L)::.c0 (A2 a)::.c0 (A2 b)::G++[c]++[d]=H++Blk.c0 (Bl L)::.c0 (A2 a)::.c0 (A2 b)::(G++[c,d]):=λa b c d=>(by simp);have m1:∀c d:Blk,Ad false 1 (.ptr H.length 0 0) (B++[c]++[d])=some (.sl (enL cNd L) .no):=λc d=>(by rw[<-hB,shape];exact gn _ _ _);simp only[GMw,Aj,hpos,Ae,W9,n1,dA,Ay hml,Aq,A5,Nat.add_zero,Cy,aJ,n2,n3,pA,B4,BE,Wk,CR,lB,t0,t1,m1,EZ bX,WK,EG bX];by_cases h1:((w+1:Nat):Int)=1;have hst:=(AQ hl hml).2.2 (qk (w+1) a b) bX;have zI:IntKind.u8.wrap (L[m].kid (qk (w+1) a b))=L[m].kid (qk (w+1) a b):=Gp hst.1 (by have:=hst.2.1 (by rw[aJ];exact h1);omega);have:(H++Blk.c0 (Bl L)::.c0 (A2 a)::.c0 (A2 b)::G++[Blk.c0 (A2 (qd (w+1) a))]++[Blk.c0 (A2 (qd (w+1) b))])=H++(Blk.c0 (Bl L)::.c0 (A2 a)::.c0 (A2 b)::(G++[Blk.c0 (A2 (qd (w+1) a)),.c0 (A2 (qd (w+1) b))])):=shape _ _ _ _;rw[<-hB,this];simp only[h1,GMw,Bx,zI,fin];have e66:Ad true 2 (.ptr B.length 0 0) (B++[Blk.c0 (A2 (qd (w+1) a))]++[Blk.c0 (A2 (qd (w+1) b))])=some (big (qd (w+1) a)):=Ba (by simp);have e68:∀a',Ad true 2 (.ptr (B.length+1) 0 0) (H++Blk.c0 (Bl L)::.c0 (A2 a')::.c0 (A2 b)::(G++[Blk.c0 (A2 (qd (w+1) a)),.c0 (A2 (qd (w+1) b))]))=some (big (qd (w+1) b)):=λa'=>(by rw[<-shape];have:B.length+1=(H++Blk.c0 (Bl L)::.c0 (A2 a')::.c0 (A2 b)::G++[Blk.c0 (A2 (qd (w+1) a))]).length:=(by rw[<-hB];simp;omega);rw[this];exact Ba An);have lJ:B++[Blk.c0 (A2 (qd (w+1) a))]++[Blk.c0 (A2 (qd (w+1) b))]=H++Blk.c0 (Bl L)::.c0 (A2 a)::.c0 (A2 b)::(G++[Blk.c0 (A2 (qd (w+1) a)),.c0 (A2 (qd (w+1) b))]):=(by rw[<-hB];exact shape _ _ _ _);simp only[h1,GMw,e66];rw[lJ];simp only[GMw,px,e68,and_true,eq_self,py,if_false];obtain⟨k1,k2,k3⟩:=Lv.kid hl (by omega) s1 (by rw[hx,aJ];omega) bX;rw[hx]at k1 k2 k3;have:=hrec (w,(L[m].kid (qk (w+1) a b)).toNat,qd (w+1) a,qd (w+1) b,G++[Blk.c0 (A2 (qd (w+1) a)),.c0 (A2 (qd (w+1) b))]) ⟨k1,by dsimp only;omega,Vnx s3,Vnx s4⟩ (by dsimp only;omega);rw[show(((L[m].kid (qk (w+1) a b)).toNat:Nat):Int)=L[m].kid (qk (w+1) a b) from by omega]at this;exact this
def cBO:Option Int->List Ab
 |none=>[.bool false,.sl [] .ti]
 |some z=>A2 z
instance:Sz cBO 2:=⟨λa=>by cases a<;>rfl⟩
instance:Pl cBO:=⟨λa=>by cases a<;>rfl⟩
def bo (a:Option Int):Int:=a.getD 0
def Dd (nf:Nat->Nat)(E:List (Option Int))(x:Nd)(j:Nat):Int:=
 (if 1<j then 2^(x.lv.toNat-1)else 0)+(if 1<x.lv then bo (E.getD (x.kid (nf j)).toNat none)else 0)
def DS (nf:Nat->Nat)(E:List (Option Int))(x:Nd)(j:Nat):Option Int:=
 if 1<x.lv then some (Dd nf E x j)else if 1<j then some (2^(x.lv.toNat-1))else none
theorem K1 (nf:Nat->Nat)(E:List (Option Int))(x:Nd)(j:Nat):bo (DS nf E x j)=Dd nf E x j:=by
 unfold DS;split
 ·rfl
 rename_i h;unfold Dd;rw[if_neg h];split<;>simp[bo]
def CJ (nf:Nat->Nat)(E:List (Option Int))(x:Nd):Nat->Bool×Option Int
 |0=>(false,none)
 |j+1=>if x.kid (nf j)=0 then CJ nf E x j
  else if (CJ nf E x j).1=false\/Dd nf E x j<bo (CJ nf E x j).2 then (true,DS nf E x j)else CJ nf E x j
def BX (nf:Nat->Nat)(L:List Nd):List (Option Int):=L.foldl (λE x=>E++[(CJ nf E x 4).2]) [none]
theorem VdT (nf:Nat->Nat)(L:List Nd)(x:Nd):BX nf (L++[x])=BX nf L++[(CJ nf (BX nf L) x 4).2]:=by simp[BX]
theorem FJ (nf:Nat->Nat)(L:List Nd):(BX nf L).length=L.length+1:=by
 have key:∀(l:List Nd)(E:List (Option Int)),(l.foldl (λE x=>E++[(CJ nf E x 4).2]) E).length=l.length+E.length:=by
  intro l
  induction l with
  |nil=>intro E;simp
  |cons a l ih=>intro E;simp only[List.foldl_cons,ih];simp;omega
 unfold BX;rw[key];simp
theorem HN (nf:Nat->Nat)(L:List Nd){i:Nat}(hi:i<L.length):BX nf (L.take (i+1))=BX nf (L.take i)++[(CJ nf (BX nf (L.take i)) L[i] 4).2]:=by rw[WF hi,VdT]
def EB (L:List Nd)(E:List (Option Int)):Prop:=∀(m:Nat)(x:Nd)(o:Option Int),L[m]? = some x->E[m+1]? = some o->0<=bo o/\bo o<2^x.lv.toNat
theorem Vg5 {nf:Nat->Nat}{E:List (Option Int)}{x:Nd}{j:Nat}(hx:1<=x.lv)(hE:1<x.lv->0<=bo (E.getD (x.kid (nf j)).toNat none)/\bo (E.getD (x.kid (nf j)).toNat none)<2^(x.lv.toNat-1)):0<=Dd nf E x j/\Dd nf E x j<2^x.lv.toNat:=by
 unfold Dd;have e:(2:Int)^x.lv.toNat=2^(x.lv.toNat-1)*2:=by rw[<-Ya];congr 1;omega
 have hp:(0:Int)<2^(x.lv.toNat-1):=Yv (by omega);rw[e];by_cases h1:1<x.lv;obtain⟨h2,h3⟩:=hE h1;rw[if_pos h1];generalize (2:Int)^(x.lv.toNat-1)=p at *;split<;>omega
 rw[if_neg h1];generalize (2:Int)^(x.lv.toNat-1)=p at *;split<;>omega
theorem SC {nf:Nat->Nat}{E:List (Option Int)}{x:Nd}(hb:∀j,j<4->0<=Dd nf E x j/\Dd nf E x j<2^x.lv.toNat):∀j,j<=4->0<=bo (CJ nf E x j).2/\bo (CJ nf E x j).2<2^x.lv.toNat
 |0,_=>⟨Yl _,Yv (by omega)⟩
 |j+1,hj=>by unfold CJ;split;exact SC hb j (by omega);split;rw[K1];exact hb j (by omega);exact SC hb j (by omega)
theorem Ug {nf:Nat->Nat}(gI:∀j,nf j<4){L:List Nd}(hl:AF L=true){i:Nat}(hi:i<L.length)(hE:EB (L.take i) (BX nf (L.take i)))(j:Nat)(h1:1<L[i].lv):0<=bo ((BX nf (L.take i)).getD (L[i].kid (nf j)).toNat none)/\bo ((BX nf (L.take i)).getD (L[i].kid (nf j)).toNat none)<2^(L[i].lv.toNat-1):=by
 obtain⟨l1,l2,l3⟩:=AQ hl hi;obtain⟨q1,q2,q3⟩:=l3 (nf j) (gI j);have hp:(0:Int)<2^(L[i].lv.toNat-1):=Yv (by omega);by_cases hc:0<L[i].kid (nf j)
 ·obtain⟨r1,r2⟩:=q3 h1 hc;obtain⟨m,hm⟩:∃m:Nat,(L[i].kid (nf j)).toNat=m+1:=⟨(L[i].kid (nf j)).toNat-1,by omega⟩;have rD:m<i:=by omega
  have hml:m<L.length:=by omega
  have hlen:=FJ nf (L.take i);rw[WN,X4 (by omega)]at hlen;have hlt:m+1<(BX nf (L.take i)).length:=by omega
  have:=hE m L[m] _ (by rw[Xx rD,W4 hml]) (W4 hlt);have aJ:=r2 L[m] (by rw[show(L[i].kid (nf j)-1).toNat=m from by omega];exact W4 hml);rw[hm,W6,W4 hlt,show L[i].lv.toNat-1=L[m].lv.toNat from by omega];exact this
 ·rw[show(L[i].kid (nf j)).toNat=0 from by omega];have h0:(BX nf (L.take i)).getD 0 none=none:=by
   have key:∀(l:List Nd)(E:List (Option Int)),E[0]? = some none->(l.foldl (λE x=>E++[(CJ nf E x 4).2]) E)[0]? = some none:=by
    intro l
    induction l with
    |nil=>intro E h;exact h
    |cons a l ih=>intro E h;exact ih _ (by rw[W8 (W5.1 h).1];exact h)
   rw[W6,show(BX nf (L.take i))[0]? = some none from key _ [none] rfl];rfl
  rw[h0];exact⟨Yl _,hp⟩
theorem Vbr {nf:Nat->Nat}(gI:∀j,nf j<4){L:List Nd}(hl:AF L=true):∀i,i<=L.length->EB (L.take i) (BX nf (L.take i))
 |0,_=>by intro m x o h;simp at h
 |i+1,h=>by have ih:=Vbr gI hl i (by omega);rw[HN nf L h];intro m x o hx hz;have hlen:=FJ nf (L.take i);rw[WN,X4 (by omega)]at hlen;by_cases hn:m<i;rw[W8 (by omega)]at hz;rw[Xx (by omega)]at hx;exact ih m x o (by rw[Xx hn];exact hx) hz;rw[WX (by omega),hlen]at hz;have rD:m=i:=(by have:=(W5.1 hz).1;simp at this;omega);subst rD;simp only[Xi,zXh,WE]at hz;rw[Xx (by omega),W4 h]at hx;injection hx with hx;rw[<-hx,<-hz];exact SC (λj _=>Vg5 (AQ hl h).1 (Ug gI hl h ih j)) 4 (W7 _)
section
variable {len sz id g o m p:Nat}{K:IntKind}{Hc:Aa}{nf:Nat->Nat}
theorem Vbf (h:m<len):BH len sz (.ptr id g o) (.int K (m:Int))=some (.ptr id g (o+m*sz)):=by unfold BH;simp only[];rw[if_pos ⟨by omega,by omega⟩];simp
def Gx (a b:Nat):List Ab:=[.i6 (a:Int),.i6 (b:Int)]
theorem Vcv {a b:Nat}(hg:Hc[p]? = some (.c0 (Gx a b)))(h:m<2):Ad false 1 (.ptr p 0 m) Hc=some (.i6 ((if m=0 then a else b:Nat):Int)):=by
 simp only[Ad,Ax hg,zXa,WB,if_false]
 match m,h with
 |0,_=>rfl
 |1,_=>rfl
theorem GR {a:Option Int}(hg:Hc[p]? = some (.c0 (cBO a))):Ad true 2 (.ptr p 0 0) Hc=some (.agg (cBO a)):=by simp only[Ad,Ax hg,zXa,if_true];cases a<;>rfl
theorem U7 (a:Option Int):(Ab.agg (cBO a)).acells=some (cBO a):=by cases a<;>rfl
theorem Qo {a:Option Int}{cs:List Ab}(hg:Hc[p]? = some (.c0 cs))(hl:cs.length=2):Ai 2 (.ptr p 0 0) (.agg (cBO a)) Hc=some (Hc.set p (.c0 (cBO a))):=by simp only[Ai,Ax hg,zXa,U7,Bw hg,D6 hl];rw[if_pos ⟨by cases a<;>rfl,by omega⟩]

end
theorem Vk0 (z:Int):big z=.agg (cBO (some z)):=rfl
def Rep (z:Int)(cs:List Ab):Prop:=∃n l tk,cs=[.bool n,.sl (enL cU l) tk]/\l.length<=549755813888/\Lim l/\Em n l=z
theorem Rep.big {z:Int}(h:LB z):Rep z (A2 z):=⟨decide (z<0),AB z.natAbs,.no,rfl,h,Bz _,LI z⟩
theorem Rep.bo {a:Option Int}(h:LB (bo a)):Rep (Go.Gm.bo a) (cBO a):=by cases a with|none=>exact⟨false,[],.ti,rfl,by simp,(λx hx=>by simp at hx),rfl⟩|some z=>exact Rep.big h
theorem Rep.lb {z:Int}{cs:List Ab}(h:Rep z cs):LB z:=by obtain⟨n,l,tk,_,h2,h3,rfl⟩:=h;unfold LB;rw[Qe];exact WV (Fm (SL l h3)) h2
theorem VmZ {a b:Int}{cs ds:List Ab}(ha:Rep a cs)(hb:Rep b ds)(H:Aa):Ubn (.agg cs) (.agg ds) H=some (.ret (Go.Gm.big (a+b)),H):=by obtain⟨n1,l1,t1,rfl,b1,x1,rfl⟩:=ha;obtain⟨n2,l2,t2,rfl,b2,x2,rfl⟩:=hb;exact Vfi _ _ _ _ _ _ _ b1 b2 x1 x2
theorem VnN {a:Int}{cs:List Ab}(ha:Rep a cs)(H:Aa):UeU (.agg cs) H=some (.ret (Go.Gm.big (-a)),H):=by obtain⟨n1,l1,t1,rfl,b1,x1,rfl⟩:=ha;exact VF _ _ _ _ (by omega) x1
theorem VoU {a:Int}{cs:List Ab}(ha:Rep a cs)(H:Aa):BC true 2 (.agg cs) H=some (.ptr H.length 0 0,H++[.c0 cs]):=by obtain⟨n1,l1,t1,rfl,b1,x1,rfl⟩:=ha;exact Ce rfl rfl
theorem ViE {a:Int}{cs:List Ab}{H:Aa}{p:Nat}(ha:Rep a cs)(hg:H[p]? = some (.c0 cs)):Ad true 2 (.ptr p 0 0) H=some (.agg cs):=by obtain⟨n1,l1,t1,rfl,b1,x1,rfl⟩:=ha;simp only[Ad,Ax hg,zXa];rfl
theorem Vpb {a b:Int}{cs ds:List Ab}(ha:Rep a cs)(hb:Rep b ds)(H:Aa):UeV (.agg cs) (.agg ds) H=some (.ret (Go.Gm.big (a-b)),H):=by
 unfold UeV;have e1:(H++[Blk.c0 cs]++[Blk.c0 ds]++[Blk.c0 [.bool false,.sl [] .ti]])[H.length]? = some (.c0 cs):=by simp
 have e2:(H++[Blk.c0 cs]++[Blk.c0 ds]++[Blk.c0 [.bool false,.sl [] .ti]])[(H++[Blk.c0 cs]).length]? = some (.c0 ds):=by simp
 have hz:=Rep.big hb.lb.neg;simp only[GMw,VoU ha,VoU hb,CR,ViE ha e1,ViE hb e2,VnN hb,and_true,eq_self];rw[<-U6 (-b)];simp only[GMw,VmZ ha hz,BP (An (B:=H++[Blk.c0 cs]++[Blk.c0 ds]) (cs:=[.bool false,.sl [] .ti])) rfl,Be,Ba An];rw[show a + -b=a-b from rfl];simp only[WD,C8,Vjh,zXb]
theorem Vqp {a b:Int}{cs ds:List Ab}(ha:Rep a cs)(hb:Rep b ds)(H:Aa):Uaa (.agg cs) (.agg ds) H=some (.ret (.i6 (FT a b)),H):=by
 unfold Uaa;have e1:(H++[Blk.c0 cs]++[Blk.c0 ds])[H.length]? = some (.c0 cs):=by simp
 have e2:(H++[Blk.c0 cs]++[Blk.c0 ds])[(H++[Blk.c0 cs]).length]? = some (.c0 ds):=An;simp only[GMw,VoU ha,VoU hb,ViE ha e1,ViE hb e2,Vpb ha hb,CR];generalize hB:H++[Blk.c0 cs]++[Blk.c0 ds]=B;have g0:Ad false 1 (.ptr B.length 0 0) (B++[Blk.c0 (A2 (a-b))])=some (.bool (decide (a-b<0))):=by simp only[Ad,Ax An,zXa];rfl
 have g1:Ad false 1 (.ptr B.length 0 1) (B++[Blk.c0 (A2 (a-b))])=some (.sl (enL cU (AB (a-b).natAbs)) .no):=by simp only[Ad,Ax An,zXa];rfl
 have fin:∀q:Int,rP H (.i6 q) (B++[Blk.c0 (A2 (a-b))])=some (.ret (.i6 q),H):=λq=>by rw[<-hB];simp only[WD];exact It
 simp only[BP (An (B:=B) (cs:=[.bool false,.sl [] .ti])) rfl,Be,GMw,Ae,W9,Nat.add_zero,g0,g1,Aw];unfold FT;by_cases h0:a=b
 ·subst h0;have:((AB (a-a).natAbs).length:Int)=0:=by rw[Int.sub_self];simp[ER]
  simp only[this,GMw,fin,Xm]
 ·have hne:AB (a-b).natAbs≠[]:=Pv (by omega);have hp:=Xd.2 hne;have hz:¬((AB (a-b).natAbs).length:Int)=0:=by omega
  by_cases hn:a<b;have h1:a-b<0:=(by omega);simp only[hz,GMw,h1,hn,fin];have h1:¬a-b<0:=(by omega);simp only[hz,GMw,h1,hn,h0,fin]
def Jf (x:Nd)(j:Nat):Option Int:=if 1<j then some (2^(x.lv.toNat-1))else none
theorem Voq (a b:Nat)(H:Aa):BC true 2 (.agg (Gx a b)) H=some (.ptr H.length 0 0,H++[.c0 (Gx a b)]):=Ce rfl rfl
theorem Vg4 {nf:Nat->Nat}(gI:∀j,nf j<4){L:List Nd}(tk:Tok)(H Hc:Aa)(E:List (Option Int))(i j pN pF id ph:Nat)(hi:i<L.length)(hj:j<4)(hL:L.length<549755813888)
  (hE:E.length=L.length+1)(aJ:1<=L[i].lv/\L[i].lv<=1329)(aZ:0<=L[i].kid (nf j))(cR:1<L[i].lv->(L[i].kid (nf j)).toNat<E.length/\(L[i].kid (nf j)).toNat≠i+1/\LB (bo (E.getD (L[i].kid (nf j)).toNat none)))
  (hJ:LB (Dd nf E L[i] j))(q:Bool×Option Int)(hq:LB (bo q.2))(yW:H.length<=pN/\H.length<=pF/\H.length<=id/\H.length<=ph)(dN:pN≠id)(dF:pF≠id)(dH:ph≠id)
  (fN:Hc[pN]? = some (.c0 (Gx (nf 0) (nf 1))))(fF:Hc[pF]? = some (.c0 (Gx (nf 2) (nf 3))))(fR:Hc[id]? = some (.c0 (flat cBO (E.set (i+1) q.2))))(fH:Hc[ph]? = some (.c0 (A2 (2^(L[i].lv.toNat-1)))))(hold:∀k,k<H.length->Hc[k]? = H[k]?)(hlen:H.length<=Hc.length):∃Hd,(∀rec1 aA:LK,UcY H rec1 aA (.sl (enL cNd L) tk) (.ptr pN 0 0) (.ptr pF 0 0) (.ms id 0 0 (L.length+1) (L.length+1) 2 true) (.i6 (i:Int)) (.ptr ph 0 0) (.bool q.1) (.i6 (j:Int)) Hc=aA [.sl (enL cNd L) tk,.ptr pN 0 0,.ptr pF 0 0,.ms id 0 0 (L.length+1) (L.length+1) 2 true,.i6 (i:Int),.ptr ph 0 0,.bool (if L[i].kid (nf j)=0 then q else if q.1=false\/Dd nf E L[i] j<bo q.2 then (true,DS nf E L[i] j)else q).1,.i6 ((j+1:Nat):Int)] Hd) /\
   Hd[pN]? = some (.c0 (Gx (nf 0) (nf 1)))/\Hd[pF]? = some (.c0 (Gx (nf 2) (nf 3)))/\Hd[id]? = some (.c0 (flat cBO (E.set (i+1) (if L[i].kid (nf j)=0 then q else if q.1=false\/Dd nf E L[i] j<bo q.2 then (true,DS nf E L[i] j)else q).2)))/\Hd[ph]? = some (.c0 (A2 (2^(L[i].lv.toNat-1))))/\(∀k,k<H.length->Hd[k]? = H[k]?)/\H.length<=Hd.length:=by
 have hj':(j:Int)<4:=by omega
 have aK:=Au (show j<9223372036854775807 by omega);have cJ:=Au (show i<9223372036854775807 by omega);have hm2:j%2<2:=XW _ (by omega);have nM:(j:Int).tmod 2=((j%2:Nat):Int):=rfl;have hgt:decide ((j:Int)>1)=decide (1<j):=by rw[WP];simp only[zXe];omega
 have tM:nf j=if 1<j then (if j%2=0 then nf 2 else nf 3)else (if j%2=0 then nf 0 else nf 1):=by
  match j,hj with
  |0,_=>rfl
  |1,_=>rfl
  |2,_=>rfl
  |3,_=>rfl
 have hz:A6 (some [(.bool false),(.sl [] .ti)]) []=some (.agg (cBO none)):=rfl;generalize hB:Hc++[Blk.c0 (cBO (Jf L[i] j))]=B;have bN:B[pN]? = some (.c0 (Gx (nf 0) (nf 1))):=by rw[<-hB];exact A1 fN
 have bF:B[pF]? = some (.c0 (Gx (nf 2) (nf 3))):=by rw[<-hB];exact A1 fF
 have bR:B[id]? = some (.c0 (flat cBO (E.set (i+1) q.2))):=by rw[<-hB];exact A1 fR
 have bH:B[ph]? = some (.c0 (A2 (2^(L[i].lv.toNat-1)))):=by rw[<-hB];exact A1 fH
 have bM:B[Hc.length]? = some (.c0 (cBO (Jf L[i] j))):=by rw[<-hB];exact An
 have bold:∀k,k<H.length->B[k]? = H[k]? := λk hk=>by rw[<-hB,W8 (by omega)];exact hold k hk
 have bl:B.length=Hc.length+1:=by rw[<-hB];simp
 suffices hs:∃Hd,(∀aA:LK,UcX H (λvs H1=>Uap H aA (ag vs 0) (ag vs 1) (ag vs 2) (ag vs 3) (ag vs 4) (ag vs 5) (ag vs 6) (ag vs 7) H1) (.sl (enL cNd L) tk) (.ptr pN 0 0) (.ptr pF 0 0) (.ms id 0 0 (L.length+1) (L.length+1) 2 true) (.i6 (i:Int)) (.ptr ph 0 0) (.bool q.1) (.i6 (j:Int)) (.i6 (nf j:Int)) (.ptr Hc.length 0 0) B=aA [.sl (enL cNd L) tk,.ptr pN 0 0,.ptr pF 0 0,.ms id 0 0 (L.length+1) (L.length+1) 2 true,.i6 (i:Int),.ptr ph 0 0,.bool (if L[i].kid (nf j)=0 then q else if q.1=false\/Dd nf E L[i] j<bo q.2 then (true,DS nf E L[i] j)else q).1,.i6 ((j+1:Nat):Int)] Hd) /\
   Hd[pN]? = some (.c0 (Gx (nf 0) (nf 1)))/\Hd[pF]? = some (.c0 (Gx (nf 2) (nf 3)))/\Hd[id]? = some (.c0 (flat cBO (E.set (i+1) (if L[i].kid (nf j)=0 then q else if q.1=false\/Dd nf E L[i] j<bo q.2 then (true,DS nf E L[i] j)else q).2)))/\Hd[ph]? = some (.c0 (A2 (2^(L[i].lv.toNat-1))))/\(∀k,k<H.length->Hd[k]? = H[k]?)/\H.length<=Hd.length by
  obtain⟨Hd,h1,h2⟩:=hs;refine⟨Hd,λrec1 aA=>?_,h2⟩;have hst:∀a:Option Int,Ai 2 (.ptr Hc.length 0 0) (.agg (cBO a)) (Hc++[Blk.c0 (cBO none)])=some (Hc++[Blk.c0 (cBO a)]):=λa=>by rw[Qo (An (B:=Hc)) rfl,Be]
  have iF:A0 (some [.bool false,.sl [] .ti]) Hc=some (.ptr Hc.length 0 0,Hc++[.c0 (cBO none)]):=CR Hc;unfold UcY;simp only[GMw,hj',IP (show(2:Int)≠0 by decide),nM,Vbf hm2,W9,WK,Vcv fN hm2,hz,iF,hst,Aj,hgt];by_cases pT:1<j;have hF:(Hc++[Blk.c0 (cBO none)])[pF]? = some (.c0 (Gx (nf 2) (nf 3))):=A1 fF;have hH:(Hc++[Blk.c0 (cBO none)])[ph]? = some (.c0 (A2 (2^(L[i].lv.toNat-1)))):=A1 fH;rw[if_pos pT]at tM;have rB:Jf L[i] j=some (2^(L[i].lv.toNat-1)):=(by unfold Jf;rw[if_pos pT]);simp only[GMw,pT,Aj,Vbf hm2,W9,WK,Vcv hF hm2,Ba hH];rw[Vk0];simp only[GMw,hst];rw[<-rB,hB,<-tM];exact h1 aA;rw[if_neg pT]at tM;have rB:Jf L[i] j=none:=(by unfold Jf;rw[if_neg pT]);simp only[GMw,pT,Aj];rw[<-rB,hB,<-tM];exact h1 aA
 have tL:=gI j;have hEl:(E.set (i+1) q.2).length=L.length+1:=by simp[hE]
 by_cases eJ:L[i].kid (nf j)=0;refine⟨B,λaA=>?_,bN,bF,by rw[if_pos eJ];exact bR,bH,bold,by omega⟩;unfold UcX;simp only[GMw,Aq,Ae,A5,W9,Nat.add_zero,WK,Cy,Ay hi,EZ tL,EG tL,eJ,Aj,Uap,aK]
 ·-- the distance
  obtain⟨c,hc⟩:=X3 aZ;have eO:(L[i].kid (nf j)).toNat=c:=by omega
  rw[eO]at cR;generalize hD:B++[Blk.c0 (cBO (DS nf E L[i] j))]=D;have dn:D[pN]? = some (.c0 (Gx (nf 0) (nf 1))):=by rw[<-hD];exact A1 bN
  have df:D[pF]? = some (.c0 (Gx (nf 2) (nf 3))):=by rw[<-hD];exact A1 bF
  have dr:D[id]? = some (.c0 (flat cBO (E.set (i+1) q.2))):=by rw[<-hD];exact A1 bR
  have dh:D[ph]? = some (.c0 (A2 (2^(L[i].lv.toNat-1)))):=by rw[<-hD];exact A1 bH
  have dd:D[B.length]? = some (.c0 (cBO (DS nf E L[i] j))):=by rw[<-hD];exact An
  have dold:∀k,k<H.length->D[k]? = H[k]? := λk hk=>by rw[<-hD,W8 (by omega)];exact bold k hk
  have dl:D.length=B.length+1:=by rw[<-hD];simp
  have lT:=(W5.1 dr).1;have iJ:=Db (sz:=2) (id:=id) (n:=L.length+1) (K:=.i64) (g:=0) (off:=0) (cap:=L.length+1) (ex:=true) (i:=i+1) (by omega);rw[W9]at iJ;have nZ:=Vcw (f:=cBO) (sz:=2) (Ax dr) (i:=i+1) (by omega);rw[Zm]at nZ;have nG:=Ee (f:=cBO) (sz:=2) (l:=E.set (i+1) q.2) (i:=i+1) (a:=DS nf E L[i] j) (v:=.agg (cBO (DS nf E L[i] j))) (Ax dr) (by omega) (U7 _);rw[Bw dr,Zg]at nG;have hJ':LB (bo (DS nf E L[i] j)):=by rw[K1];exact hJ
  have dX:=λH=>Vqp (Rep.bo hJ') (Rep.bo hq) H;simp only[K1]at dX;have h5:∃Hd,(∀aA:LK,Ubx H (λvs H1=>Uap H aA (ag vs 0) (ag vs 1) (ag vs 2) (ag vs 3) (ag vs 4) (ag vs 5) (ag vs 6) (ag vs 7) H1) (.sl (enL cNd L) tk) (.ptr pN 0 0) (.ptr pF 0 0) (.ms id 0 0 (L.length+1) (L.length+1) 2 true) (.i6 (i:Int)) (.ptr ph 0 0) (.bool q.1) (.i6 (j:Int)) (.ptr B.length 0 0) D=aA [.sl (enL cNd L) tk,.ptr pN 0 0,.ptr pF 0 0,.ms id 0 0 (L.length+1) (L.length+1) 2 true,.i6 (i:Int),.ptr ph 0 0,.bool (if q.1=false\/Dd nf E L[i] j<bo q.2 then (true,DS nf E L[i] j)else q).1,.i6 ((j+1:Nat):Int)] Hd) /\
    Hd[pN]? = some (.c0 (Gx (nf 0) (nf 1)))/\Hd[pF]? = some (.c0 (Gx (nf 2) (nf 3)))/\Hd[id]? = some (.c0 (flat cBO (E.set (i+1) (if q.1=false\/Dd nf E L[i] j<bo q.2 then (true,DS nf E L[i] j)else q).2)))/\Hd[ph]? = some (.c0 (A2 (2^(L[i].lv.toNat-1))))/\(∀k,k<H.length->Hd[k]? = H[k]?)/\H.length<=Hd.length:=by
   have put:(D.set id (.c0 (flat cBO (E.set (i+1) (DS nf E L[i] j)))))[pN]? = some (.c0 (Gx (nf 0) (nf 1)))/\(D.set id (.c0 (flat cBO (E.set (i+1) (DS nf E L[i] j)))))[pF]? = some (.c0 (Gx (nf 2) (nf 3)))/\(D.set id (.c0 (flat cBO (E.set (i+1) (DS nf E L[i] j)))))[id]? = some (.c0 (flat cBO (E.set (i+1) (DS nf E L[i] j))))/\(D.set id (.c0 (flat cBO (E.set (i+1) (DS nf E L[i] j)))))[ph]? = some (.c0 (A2 (2^(L[i].lv.toNat-1))))/\(∀k,k<H.length->(D.set id (.c0 (flat cBO (E.set (i+1) (DS nf E L[i] j)))))[k]? = H[k]?)/\H.length<=(D.set id (.c0 (flat cBO (E.set (i+1) (DS nf E L[i] j))))).length:=
    ⟨by rw[WA dN.symm];exact dn,by rw[WA dF.symm];exact df,by rw[WJ lT],by rw[WA dH.symm];exact dh,λk hk=>by rw[WA (by omega)];exact dold k hk,by simp;omega⟩
   cases jO:q.1 with
   |false=>rw[if_pos (Or.inl rfl)];refine⟨_,λaA=>?_,put⟩;unfold Ubx;simp only[GMw,GR dd,cJ,iJ,nG,Aj,Uap,aK]
   |true=>by_cases hlt:Dd nf E L[i] j<bo q.2;rw[if_pos (Or.inr hlt)];refine⟨_,λaA=>?_,put⟩;unfold Ubx;simp only[GMw,GR dd,cJ,iJ,nZ,dX,Gt,hlt,nG,Aj,Uap,aK];rw[if_neg (by intro h;rcases h with h | h;cases h;exact hlt h)];refine⟨D,λaA=>?_,dn,df,dr,dh,dold,by omega⟩;unfold Ubx;simp only[GMw,GR dd,cJ,iJ,nZ,dX,Gt,hlt,Aj,Uap,aK,jO]
  rw[if_neg eJ];obtain⟨Hd,g1,g2⟩:=h5;refine⟨Hd,λaA=>?_,g2⟩;have iY:¬(c:Int)=0:=by rw[<-hc];exact eJ
  have hst:∀a:Option Int,∀cs:Option Int,Ai 2 (.ptr B.length 0 0) (.agg (cBO a)) (B++[Blk.c0 (cBO cs)])=some (B++[Blk.c0 (cBO a)]):=λa cs=>by rw[Qo (An (B:=B)) (by cases cs<;>rfl),Be]
  have iF:A0 (some [.bool false,.sl [] .ti]) B=some (.ptr B.length 0 0,B++[.c0 (cBO none)]):=CR B;unfold UcX;simp only[GMw,Aq,Ae,A5,W9,Nat.add_zero,WK,Cy,Ay hi,EZ tL,EG tL,hc,iY,GR bM,iF,hst,Aj];by_cases h1:1<L[i].lv;have eQ:L[i].lv>1:=h1;obtain⟨i1,i2,i3⟩:=cR h1;have hB1M:(B++[Blk.c0 (cBO (Jf L[i] j))])[Hc.length]? = some (.c0 (cBO (Jf L[i] j))):=A1 bM;have hB1R:(B++[Blk.c0 (cBO (Jf L[i] j))])[id]? = some (.c0 (flat cBO (E.set (i+1) q.2))):=A1 bR;have mK:=Db (sz:=2) (id:=id) (n:=L.length+1) (K:=.i64) (g:=0) (off:=0) (cap:=L.length+1) (ex:=true) (i:=c) (by omega);rw[W9]at mK;have rT:=Vcw (f:=cBO) (sz:=2) (Ax hB1R) (i:=c) (by omega);rw[List.getElem_set_ne (by omega)]at rT;have eX:E.getD c none=E[c]:=(by rw[W6,W4 i1];rfl);rw[eX]at i3;have vL:LB (bo (Jf L[i] j)):=(by unfold Jf;split;exact(EW (by omega)).lb (by decide);exact VbH);have aW:=λH=>VmZ (Rep.bo vL) (Rep.bo i3) H;have gT:bo (Jf L[i] j)+bo E[c]=Dd nf E L[i] j:=(by unfold Dd Jf;rw[if_pos h1,eO,eX];split<;>rfl);have hDd:DS nf E L[i] j=some (Dd nf E L[i] j):=(by unfold DS;rw[if_pos h1]);simp only[GMw,eQ,GR hB1M,mK,rT,aW,gT];rw[Vk0,<-hDd];simp only[GMw,hst,hD,Aj];exact g1 aA;have eQ:¬L[i].lv>1:=h1;have hDd:DS nf E L[i] j=Jf L[i] j:=(by unfold DS Jf;rw[if_neg h1]);simp only[GMw,eQ,Aj];rw[<-hDd,hD];exact g1 aA
theorem MQ {z:Int}{v:Nat}(h0:0<=z)(h:z<2^v)(hv:v<=1400):LB z:=by have h1:=EW hv;have h2:=J1 v;unfold SB at h1;refine LB.of (k:=44) (Xt ?_ h1) (by decide);generalize (2:Int)^v=p at *;omega
theorem N8 {nf:Nat->Nat}(gI:∀j,nf j<4)(L:List Nd)(tk:Tok)(H:Aa)(hL:L.length<549755813888)(hl:AF L=true):Uaq (.sl (enL cNd L) tk) (.agg (Gx (nf 0) (nf 1))) (.agg (Gx (nf 2) (nf 3))) H=some (.ret (.sl (enL cBO (BX nf L)) .no),H):=by
 unfold Uaq;have dC:=FB (f:=cBO) (a:=none) (n:=L.length+1) (bytes:=32) (H:=H++[Blk.c0 (Gx (nf 0) (nf 1))]++[Blk.c0 (Gx (nf 2) (nf 3))]) (by omega) (by omega);simp only[show cBO none=[Ab.bool false,.sl [] .ti] from rfl]at dC;simp only[GMw,Voq,Aw,Au (show L.length<9223372036854775807 by omega),dC];have l1:(H++[Blk.c0 (Gx (nf 0) (nf 1))]).length=H.length+1:=by simp
 have l2:(H++[Blk.c0 (Gx (nf 0) (nf 1))]++[Blk.c0 (Gx (nf 2) (nf 3))]).length=H.length+2:=by simp
 rw[l1,l2];have loop:=Fk (G:=λrec1 vs Hc=>UcZ H rec1 (ag vs 0) (ag vs 1) (ag vs 2) (ag vs 3) (ag vs 4) Hc) L.length
  (λi vs Hc=>vs=[.sl (enL cNd L) tk,.ptr H.length 0 0,.ptr (H.length+1) 0 0,.ms (H.length+2) 0 0 (L.length+1) (L.length+1) 2 true,.i6 (i:Int)]/\Hc[H.length]? = some (.c0 (Gx (nf 0) (nf 1)))/\Hc[H.length+1]? = some (.c0 (Gx (nf 2) (nf 3)))/\Hc[H.length+2]? = some (.c0 (flat cBO (BX nf (L.take i)++List.replicate (L.length-i) none)))/\(∀k,k<H.length->Hc[k]? = H[k]?)/\H.length+3<=Hc.length)
  (by omega) (λi vs Hc hi hI=>?_) (vs:=[.sl (enL cNd L) tk,.ptr H.length 0 0,.ptr (H.length+1) 0 0,.ms (H.length+2) 0 0 (L.length+1) (L.length+1) 2 true,.i6 0])
  (H:=H++[Blk.c0 (Gx (nf 0) (nf 1))]++[Blk.c0 (Gx (nf 2) (nf 3))]++[Blk.c0 (flat cBO (List.replicate (L.length+1) none))])
  ⟨rfl,by simp,by simp,by simp[BX,zXm],λk hk=>by rw[WD,WD,W8 hk],by simp⟩
 obtain⟨vs',Hc,⟨rfl,f1,f2,f3,f4,f5⟩,rec,aB⟩:=loop;rw[aB];unfold UcZ;rw[WH (W7 _),Xi,List.replicate_zero,WU]at f3;have eC:=Vbl (f:=cBO) (b:=H.length) (d:=5) (cap:=L.length+1) (ex:=true) (Ax f3) (by omega);rw[FJ]at eC;simp only[GMw,Aj,Aw,Xm,Gz (Cv f4),eC,zXb]
 ·obtain⟨rfl,f1,f2,f3,f4,f5⟩:=hI;have aE:(i:Int)<(L.length:Int):=by omega
  have cJ:=Au (show i<9223372036854775807 by omega);obtain⟨v1,v2,v3⟩:=AQ hl hi;have hw:IntKind.i64.wrap (L[i].lv-1)=((L[i].lv.toNat-1:Nat):Int):=by rw[Am]<;>omega
  have cE:=λH=>IA (L[i].lv.toNat-1) H (by omega);have hEB:=Vbr gI hl i (by omega);have hlen:(BX nf (L.take i)).length=i+1:=by rw[FJ];simp;omega
  have s1:Ai 2 (.ptr Hc.length 0 0) (big (2^(L[i].lv.toNat-1))) (Hc++[.c0 [.bool false,.sl [] .ti]])=some (Hc++[.c0 (A2 (2^(L[i].lv.toNat-1)))]):=by rw[BP (An (B:=Hc)) rfl,Be]
  generalize hE:BX nf (L.take i)++List.replicate (L.length-i) none=E at f3;have hEl:E.length=L.length+1:=by rw[<-hE];simp[hlen];omega
  have mT:∀c,c<=i->E.getD c none=(BX nf (L.take i)).getD c none:=λc hc=>by rw[<-hE,W6,W6,W8 (by omega)]
  have eI:∀j,1<L[i].lv->(L[i].kid (nf j)).toNat<=i:=λj h1=>by obtain⟨q1,q2,q3⟩:=v3 (nf j) (gI j);by_cases hc:0<L[i].kid (nf j);have:=(q3 h1 hc).1;omega;omega
  have hJeq:∀j,Dd nf E L[i] j=Dd nf (BX nf (L.take i)) L[i] j:=λj=>by unfold Dd;by_cases h1:1<L[i].lv;rw[if_pos h1,if_pos h1,mT _ (eI j h1)];rw[if_neg h1,if_neg h1]
  have hDeq:∀j,DS nf E L[i] j=DS nf (BX nf (L.take i)) L[i] j:=λj=>by unfold DS;rw[hJeq]
  have hKeq:∀j,CJ nf E L[i] j=CJ nf (BX nf (L.take i)) L[i] j:=λj=>by
   induction j with
   |zero=>rfl
   |succ j ih=>unfold CJ;rw[ih,hJeq,hDeq]
  have hJb:∀j,0<=Dd nf E L[i] j/\Dd nf E L[i] j<2^L[i].lv.toNat:=λj=>by rw[hJeq];exact Vg5 v1 (Ug gI hl hi hEB j)
  have hJl:∀j,LB (Dd nf E L[i] j):=λj=>MQ (hJb j).1 (hJb j).2 (by omega);have hKl:∀j,j<=4->LB (bo (CJ nf E L[i] j).2):=λj hj=>by have:=SC (λj _=>hJb j) j hj;exact MQ this.1 this.2 (by omega)
  have qL:List.replicate (L.length-i) (none:Option Int)=none::List.replicate (L.length-(i+1)) none:=by rw[show L.length-i=(L.length-(i+1))+1 from by omega,zXm]
  have aI:∀o:Option Int,E.set (i+1) o=BX nf (L.take i)++o::List.replicate (L.length-(i+1)) none:=λo=>by rw[<-hE,qL,Xl _ _ (by omega),hlen,Xi,List.set_cons_zero]
  have qF:E.set (i+1) (CJ nf E L[i] 0).2=E:=by rw[aI];show BX nf (L.take i)++none::_=E;rw[<-qL,hE]
  have turn:=λ(j:Nat) (hj:j<4) (Hd:Aa)=>Vg4 gI tk H Hd E i j H.length (H.length+1) (H.length+2) Hc.length hi hj hL hEl ⟨v1,v2⟩ (v3 (nf j) (gI j)).1 (λh1=>⟨by have:=eI j h1;omega,by have:=eI j h1;omega,by rw[mT _ (eI j h1)];have:=Ug gI hl hi hEB j h1;exact MQ this.1 this.2 (by omega)⟩) (hJl j) (CJ nf E L[i] j) (hKl j (by omega)) ⟨by omega,by omega,by omega,by omega⟩ (by omega) (by omega) (by omega);have next:∀j,(if L[i].kid (nf j)=0 then CJ nf E L[i] j else if (CJ nf E L[i] j).1=false\/Dd nf E L[i] j<bo (CJ nf E L[i] j).2 then (true,DS nf E L[i] j)else CJ nf E L[i] j)=CJ nf E L[i] (j+1):=λj=>rfl
  simp only[next]at turn;obtain⟨H1,t1,a1,b1,c1,d1,e1,g1⟩:=turn 0 (by omega) (Hc++[Blk.c0 (A2 (2^(L[i].lv.toNat-1)))]) (A1 f1) (A1 f2) (by rw[qF];exact A1 f3) An (λk hk=>by rw[W8 (by omega)];exact f4 k hk) (by simp;omega);obtain⟨H2,t2,a2,b2,c2,d2,e2,g2⟩:=turn 1 (by omega) H1 a1 b1 c1 d1 e1 g1;obtain⟨H3,t3,a3,b3,c3,d3,e3,g3⟩:=turn 2 (by omega) H2 a2 b2 c2 d2 e2 g2;obtain⟨H4,t4,a4,b4,c4,d4,e4,g4⟩:=turn 3 (by omega) H3 a3 b3 c3 d3 e3 g3;have lT:=(W5.1 c4).1;refine⟨[.sl (enL cNd L) tk,.ptr H.length 0 0,.ptr (H.length+1) 0 0,.ms (H.length+2) 0 0 (L.length+1) (L.length+1) 2 true,.i6 ((i+1:Nat):Int)],H4,⟨rfl,a4,b4,?_,e4,by omega⟩,λrec=>?_⟩;rw[c4,HN nf L hi,aI,<-hKeq];simp;unfold UcZ;simp only[GMw,Aq,Ae,A5,W9,Nat.add_zero,WK,Cy,Aj,Aw,aE,Ay hi,hw,cE,CR,s1];obtain⟨n,hn⟩:=Vgk 5 (by decide);have hf:¬(((3+1:Nat):Int)<4):=(by decide);rw[hn,show n+5=(((n+1)+1)+1+1)+1 from rfl,Cp];simp only[Ao,Aj];refine(t1 rec _).trans ?_;rw[Cp];simp only[Ao,Aj];refine(t2 rec _).trans ?_;rw[Cp];simp only[Ao,Aj];refine(t3 rec _).trans ?_;rw[Cp];simp only[Ao,Aj];refine(t4 rec _).trans ?_;rw[Cp];unfold UcY;simp only[GMw,Aj,hf,cJ]
def IL (x y w h:Int):List Ab:=A2 x++A2 y++A2 w++A2 h
def Rv (x y w h:Int):Ab:=.agg (IL x y w h)
def Hm:List Ab:=[.bool false,.sl [] .ti,.bool false,.sl [] .ti,.bool false,.sl [] .ti,.bool false,.sl [] .ti]
def nfW (j:Nat):Nat:=match j with | 0=>0 | 1=>2 | 2=>1 | _=>3
def nfE (j:Nat):Nat:=match j with | 0=>1 | 1=>3 | 2=>0 | _=>2
def nfN (j:Nat):Nat:=match j with | 0=>0 | 1=>1 | 2=>2 | _=>3
def nfS (j:Nat):Nat:=match j with | 0=>2 | 1=>3 | 2=>0 | _=>1
def G6 (nf:Nat->Nat)(L:List Nd):Option Int:=(BX nf L).getD L.length none
def bxX (L:List Nd):Int:=-(2^((Bq L).toNat-1))+bo (G6 nfW L)
def bxY (L:List Nd):Int:=-(2^((Bq L).toNat-1))+bo (G6 nfN L)
def bxW (L:List Nd):Int:=2^(Bq L).toNat-(bo (G6 nfW L)+bo (G6 nfE L))
def bxH (L:List Nd):Int:=2^(Bq L).toNat-(bo (G6 nfN L)+bo (G6 nfS L))
theorem MG (j:Nat):nfW j<4:=by unfold nfW;split<;>omega
theorem Q8 (j:Nat):nfE j<4:=by unfold nfE;split<;>omega
theorem MH (j:Nat):nfN j<4:=by unfold nfN;split<;>omega
theorem Q7 (j:Nat):nfS j<4:=by unfold nfS;split<;>omega
theorem VgZ (a b:Nat):A6 (some [.i6 0,.i6 0]) [(0,1,.i6 (a:Int)),(1,1,.i6 (b:Int))]=some (.agg (Gx a b)):=by simp[A6,GF,D7,Gx]
theorem HM {nf:Nat->Nat}(gI:∀j,nf j<4){L:List Nd}(hl:AF L=true)(h0:0<L.length):0<=bo (G6 nf L)/\bo (G6 nf L)<2^(Bq L).toNat:=by
 have hb:=Vbr gI hl L.length (W7 _);rw[WH (W7 _)]at hb;have hm:L.length-1<L.length:=by omega
 have hlt:L.length<(BX nf L).length:=by rw[FJ];omega
 have:=hb (L.length-1) L[L.length-1] (BX nf L)[L.length] (W4 hm) (by rw[show L.length-1+1=L.length from by omega];exact W4 hlt);have ht:Bq L=L[L.length-1].lv:=by unfold Bq;rw[E7 (n:=L.length-1) (by omega) hm]
 unfold G6;rw[W6,W4 hlt,ht];exact this
theorem JA (B:Aa)(o:Option Int):Ai 2 (.ptr B.length 0 0) (.agg (cBO o)) (B++[Blk.c0 [.bool false,.sl [] .ti]])=some (B++[Blk.c0 (cBO o)]):=by rw[Qo (An (B:=B) (cs:=[.bool false,.sl [] .ti])) rfl,Be]
theorem NG {nf:Nat->Nat}(L:List Nd)(H:Aa)(k:Ab->Out):((Av 2 (.sl (enL cBO (BX nf L)) .no) (.i6 (L.length:Int))).bind λx20=>(Ad true 2 x20 H).bind k)=k (.agg (cBO (G6 nf L))):=by
 have hlt:L.length<(BX nf L).length:=by rw[FJ];omega
 rw[Ay hlt];unfold G6;rw[W6,W4 hlt];cases(BX nf L)[L.length]<;>rfl
theorem SA {nf:Nat->Nat}(gI:∀j,nf j<4){L:List Nd}(hl:AF L=true)(h0:0<L.length):LB (bo (G6 nf L)):=by have:=HM gI hl h0;have hle:=Pt hl h0 (W7 _);exact MQ this.1 this.2 (WV hle (by omega))
theorem Vn1 (L:List Nd)(H:Aa)(hL:L.length<549755813888)(hl:AF L=true)(h0:L≠[]):Uar (Dp L) H=some (.ret (.tup [Rv (bxX L) (bxY L) (bxW L) (bxH L),.bool true]),H):=by
 have hlen:0<L.length:=Xd.2 h0;have hl0:¬((L.length:Int)=0):=by omega
 have hLv:Lv L (Bq L).toNat L.length:=⟨W7 _,.inr rfl⟩;obtain⟨cL,hn2⟩:=hLv.num hlen hl;have gD:Bq L=((Bq L).toNat:Int):=cL;have hle:(Bq L).toNat<=1329:=Pt hl hlen (W7 _);have bW:=SA MG hl hlen;have bE:=SA Q8 hl hlen;have bN:=SA MH hl hlen;have bS:=SA Q7 hl hlen;have kW:=λH=>N8 MG L .no H hL hl;have kE:=λH=>N8 Q8 L .no H hL hl;have kN:=λH=>N8 MH L .no H hL hl;have kS:=λH=>N8 Q7 L .no H hL hl;simp only[nfW,nfE,nfN,nfS]at kW kE kN kS;have lvl:=λH=>VB L .no H (show L.length<17592186044415 by omega);rw[<-VeV]at lvl;simp only[if_neg h0]at lvl;unfold Uar;have zB:A0 (some [(.bool false),(.sl [] .ti),(.bool false),(.sl [] .ti),(.bool false),(.sl [] .ti),(.bool false),(.sl [] .ti)]) (H++[Blk.c0 (Bl L)])=some (.ptr (H++[Blk.c0 (Bl L)]).length 0 0,H++[Blk.c0 (Bl L)]++[.c0 Hm]):=alloc_eq rfl;simp only[GMw,VmW,zB];generalize h2:H++[Blk.c0 (Bl L)]++[Blk.c0 Hm]=H2;generalize h1:(H++[Blk.c0 (Bl L)]).length=p1;have n2:Ad false 1 (.ptr H.length 0 0) H2=some (.sl (enL cNd L) .no):=Fl (by rw[<-h2];simp);have q2:Ad true 1 (.ptr H.length 0 0) H2=some (Dp L):=NH (by rw[<-h2];simp);have z2:H2[p1]? = some (.c0 Hm):=by rw[<-h2,<-h1];exact An
 have o2:∀k,k<H.length->H2[k]? = H[k]? := λk hk=>by rw[<-h2,WD,W8 hk]
 have p1l:H.length<p1:=by rw[<-h1];simp
 have tw:=λ(a b:Nat)=>VgZ a b;have t02:=tw 0 2;have t13:=tw 1 3;have t01:=tw 0 1;have t23:=tw 2 3;simp only[show((0:Nat):Int)=0 from rfl,show((1:Nat):Int)=1 from rfl,show((2:Nat):Int)=2 from rfl,show((3:Nat):Int)=3 from rfl]at t02 t13 t01 t23;simp only[GMw,Ae,W9,Nat.add_zero,n2,Aw,hl0,t02,t13,t01,t23,kW];rw[NG];simp only[GMw,CR,JA];generalize h3:H2++[Blk.c0 (cBO (G6 nfW L))]=H3;have n3:Ad false 1 (.ptr H.length 0 0) H3=some (.sl (enL cNd L) .no):=by rw[<-h3];exact B8 n2
 have w3:Ad true 2 (.ptr H2.length 0 0) H3=some (.agg (cBO (G6 nfW L))):=by rw[<-h3];exact GR An
 simp only[GMw,Ae,W9,Nat.add_zero,n3,t02,t13,t01,t23,kE];rw[NG];simp only[GMw,CR,JA];generalize h4:H3++[Blk.c0 (cBO (G6 nfE L))]=H4;have n4:Ad false 1 (.ptr H.length 0 0) H4=some (.sl (enL cNd L) .no):=by rw[<-h4];exact B8 n3
 have e4:Ad true 2 (.ptr H3.length 0 0) H4=some (.agg (cBO (G6 nfE L))):=by rw[<-h4];exact GR An
 simp only[GMw,Ae,W9,Nat.add_zero,n4,t02,t13,t01,t23,kN];rw[NG];simp only[GMw,CR,JA];generalize h5:H4++[Blk.c0 (cBO (G6 nfN L))]=H5;have n5:Ad false 1 (.ptr H.length 0 0) H5=some (.sl (enL cNd L) .no):=by rw[<-h5];exact B8 n4
 have d5:Ad true 2 (.ptr H4.length 0 0) H5=some (.agg (cBO (G6 nfN L))):=by rw[<-h5];exact GR An
 simp only[GMw,Ae,W9,Nat.add_zero,n5,t02,t13,t01,t23,kS];rw[NG];simp only[GMw,CR,JA];generalize h6:H5++[Blk.c0 (cBO (G6 nfS L))]=H6;have q6:Ad true 1 (.ptr H.length 0 0) H6=some (Dp L):=by rw[<-h6,<-h5,<-h4,<-h3];exact B8 (B8 (B8 (B8 q2)))
 have s6:Ad true 2 (.ptr H5.length 0 0) H6=some (.agg (cBO (G6 nfS L))):=by rw[<-h6];exact GR An
 have w6:Ad true 2 (.ptr H2.length 0 0) H6=some (.agg (cBO (G6 nfW L))):=by rw[<-h6,<-h5,<-h4];exact B8 (B8 (B8 w3))
 have e6:Ad true 2 (.ptr H3.length 0 0) H6=some (.agg (cBO (G6 nfE L))):=by rw[<-h6,<-h5];exact B8 (B8 e4)
 have d6:Ad true 2 (.ptr H4.length 0 0) H6=some (.agg (cBO (G6 nfN L))):=by rw[<-h6];exact B8 d5
 have z6:H6[p1]? = some (.c0 Hm):=by rw[<-h6,<-h5,<-h4,<-h3];exact A1 (A1 (A1 (A1 z2)))
 have o6:∀k,k<H.length->H6[k]? = H[k]? := λk hk=>by
  have hk2:k<H2.length:=by rw[<-h2];simp;omega
  rw[<-h6,<-h5,<-h4,<-h3,WD,WD,WD,W8 hk2];exact o2 k hk
 unfold bxX bxY bxW bxH;generalize hv:(Bq L).toNat=v at *;have uU:=λH=>IA v H (by omega);have uT:=λH=>IA (v-1) H (by omega);have hw:IntKind.i64.wrap ((v:Int)-1)=((v-1:Nat):Int):=HA (by omega) (by omega);have sb1:=(EW (show v<=1400 by omega)).lb (show 44<=549755813888 by decide);have sb2:=(EW (show v-1<=1400 by omega)).lb (show 44<=549755813888 by decide);have gW:=λH=>Jc (2^(v-1)) H sb2;have lB:(H6++[Blk.c0 [Ab.bool false,.sl [] .ti]]).length=H6.length+1:=by simp
 have s0:=λ(z:Int) (c:List Ab)=>st0 (Hc:=H6) (a:=[.bool false,.sl [] .ti]) (c:=c) (z:=z) rfl;have s1:=λ(z:Int) (a:List Ab)=>st1 (Hc:=H6) (a:=a) (c:=[.bool false,.sl [] .ti]) (z:=z) rfl;rw[gD]at lvl;simp only[GMw,q6,lvl,uU,hw,uT,gW,CR,lB,s0,s1];generalize h8:H6++[Blk.c0 (A2 (2^v))]++[Blk.c0 (A2 (-(2^(v-1))))]=H8;have c8:Ad true 2 (.ptr (H6.length+1) 0 0) H8=some (big (-(2^(v-1)))):=Ba (by rw[<-h8];simp);have g8:Ad true 2 (.ptr H6.length 0 0) H8=some (big (2^v)):=Ba (by rw[<-h8];simp);have w8:Ad true 2 (.ptr H2.length 0 0) H8=some (.agg (cBO (G6 nfW L))):=by rw[<-h8];exact B8 (B8 w6)
 have e8:Ad true 2 (.ptr H3.length 0 0) H8=some (.agg (cBO (G6 nfE L))):=by rw[<-h8];exact B8 (B8 e6)
 have d8:Ad true 2 (.ptr H4.length 0 0) H8=some (.agg (cBO (G6 nfN L))):=by rw[<-h8];exact B8 (B8 d6)
 have s8:Ad true 2 (.ptr H5.length 0 0) H8=some (.agg (cBO (G6 nfS L))):=by rw[<-h8];exact B8 (B8 s6)
 have z8:H8[p1]? = some (.c0 Hm):=by rw[<-h8];exact A1 (A1 z6)
 have o8:∀k,k<H.length->H8[k]? = H[k]? := λk hk=>by
  have hk6:k<H6.length:=by have:=(W5.1 z6).1;omega
  rw[<-h8,WD,W8 hk6];exact o6 k hk
 have rW:=Rep.bo bW;have rE:=Rep.bo bE;have rN:=Rep.bo bN;have rS:=Rep.bo bS;have rC:=Rep.big sb2.neg;have rG:=Rep.big sb1;have aX:=λH=>VmZ rC rW H;have aY:=λH=>VmZ rC rN H;have aWE:=λH=>VmZ rW rE H;have aNS:=λH=>VmZ rN rS H;simp only[U6]at aX aY;have sumlb:∀a b:Int,0<=a->a<2^v->0<=b->b<2^v->LB (a+b):=λa b pR yX gQ gP=>MQ (v:=v+1) (by omega) (by rw[Ya];omega) (by omega);have eW:=HM MG hl hlen;have eE:=HM Q8 hl hlen;have eN:=HM MH hl hlen;have eS:=HM Q7 hl hlen;rw[hv]at eW eE eN eS;have bW':=λH=>Vpb rG (Rep.big (sumlb _ _ eW.1 eW.2 eE.1 eE.2)) H;have bH':=λH=>Vpb rG (Rep.big (sumlb _ _ eN.1 eN.2 eS.1 eS.2)) H;simp only[U6]at bW' bH';simp only[GMw,c8,g8,w8,e8,d8,s8,and_true,eq_self,aX,aY,aWE,aNS,bW',bH'];have iP:∀x y w h:Int,A6 (some [(.bool false),(.sl [] .ti),(.bool false),(.sl [] .ti),(.bool false),(.sl [] .ti),(.bool false),(.sl [] .ti)]) [(0,2,big x),(2,2,big y),(4,2,big w),(6,2,big h)]=some (Rv x y w h):=λx y w h=>by unfold Rv IL;simp[A6,GF,D7,A2]
 have xD:∀x y w h:Int,(Rv x y w h).acells=some (IL x y w h):=λx y w h=>Cb (by simp[IL,A2]);have qS:=(W5.1 z8).1;have hst:∀x y w h:Int,Ai 8 (.ptr p1 0 0) (Rv x y w h) H8=some (H8.set p1 (.c0 (IL x y w h))):=λx y w h=>by simp only[Ai,Ax z8,zXa,xD,Bw z8,D6 (cs:=Hm) (sz:=8) rfl];rw[if_pos ⟨rfl,by decide⟩]
 have hld:∀x y w h:Int,Ad true 8 (.ptr p1 0 0) (H8.set p1 (.c0 (IL x y w h)))=some (Rv x y w h):=λx y w h=>by
  have:(H8.set p1 (.c0 (IL x y w h)))[p1]? = some (.c0 (IL x y w h)):=by rw[WJ qS]
  simp only[Ad,Ax this,zXa];rfl
 have htk:∀x y w h:Int,(H8.set p1 (.c0 (IL x y w h))).take H.length=H:=λx y w h=>Cv λk hk=>by rw[WA (by omega)];exact o8 k hk
 have hfp:∀(x y w h:Int)(H':Aa)(n d:Nat),Ft H' n (d+3) (Rv x y w h)=some (Rv x y w h):=λx y w h H' n d=>by unfold Rv IL A2;simp
 simp only[iP,GMw,hst,hld,EX,Dl,DN,zXb,Gz (htk _ _ _ _),Cs,By,BB,hfp,Fs]
def bx (L:List Nd)(f:List Nd->Int):Int:=if L=[]then 0 else f L
theorem Uy (x y w h:Int):(Rv x y w h).acells=some (IL x y w h):=Cb (by simp[IL,A2])
theorem OP (H:Aa):A0 (some [(.bool false),(.sl [] .ti),(.bool false),(.sl [] .ti),(.bool false),(.sl [] .ti),(.bool false),(.sl [] .ti)]) H=some (.ptr H.length 0 0,H++[.c0 Hm]):=alloc_eq rfl
theorem Vfb (L:List Nd)(H:Aa)(hL:L.length<549755813888)(hl:AF L=true):Uar (Dp L) H=some (.ret (.tup [Rv (bx L bxX) (bx L bxY) (bx L bxW) (bx L bxH),.bool (decide (L≠[]))]),H):=by
 unfold bx;by_cases h0:L=[]
 ·subst h0;unfold Uar;have n2:Ad false 1 (.ptr H.length 0 0) (H++[Blk.c0 (Bl [])]++[Blk.c0 Hm])=some (.sl (enL cNd []) .no):=Fl (by simp);have hb:A6 (some [(.bool false),(.sl [] .ti),(.bool false),(.sl [] .ti),(.bool false),(.sl [] .ti),(.bool false),(.sl [] .ti)]) []=some (.agg Hm):=rfl;have hst:Ai 8 (.ptr (H++[Blk.c0 (Bl [])]).length 0 0) (.agg Hm) (H++[Blk.c0 (Bl [])]++[Blk.c0 Hm])=some (H++[Blk.c0 (Bl [])]++[Blk.c0 Hm]):=by
   have hz:(H++[Blk.c0 (Bl [])]++[Blk.c0 Hm])[(H++[Blk.c0 (Bl [])]).length]? = some (.c0 Hm):=An;simp only[Ai,Ax hz,zXa,Bw hz,Cb (cs:=Hm) rfl,D6 (cs:=Hm) (sz:=8) rfl,Be]
   rfl
  have hld:Ad true 8 (.ptr (H++[Blk.c0 (Bl [])]).length 0 0) (H++[Blk.c0 (Bl [])]++[Blk.c0 Hm])=some (.agg Hm):=by simp only[Ad,Ax (An (cs:=Hm)),zXa];rfl
  simp only[GMw,VmW,OP,Ae,W9,n2,Aw,zXk,show((0:Nat):Int)=0 from rfl,hb,hst,hld,EX,Dl,DN,zXb];rw[WD];simp only[C8,Cs,By,BB,FH,Hm,DR,EE,Lh,GV,Fs,BA,zXb]
  rfl
 rw[Vn1 L H hL hl h0];simp only[if_false,ne_eq,h0,not_false_eq_true,decide_true]
theorem VpH {L:List Nd}(hl:AF L=true):LB (bx L bxW)/\LB (bx L bxH):=by
 unfold bx;by_cases h0:L=[];rw[if_pos h0,if_pos h0];exact⟨VbH,VbH⟩
 ·rw[if_neg h0,if_neg h0];have hlen:0<L.length:=Xd.2 h0;have eW:=HM MG hl hlen;have eE:=HM Q8 hl hlen;have eN:=HM MH hl hlen;have eS:=HM Q7 hl hlen;have hle:(Bq L).toNat<=1329:=Pt hl hlen (W7 _);have key:∀a b:Int,0<=a->a<2^(Bq L).toNat->0<=b->b<2^(Bq L).toNat->LB (2^(Bq L).toNat-(a+b)):=λa b h1 h2 h3 h4=>by have hs:=EW (show(Bq L).toNat<=1400 by omega);have ha:=J1 (Bq L).toNat;unfold SB at hs;refine LB.of (k:=44) (Xt ?_ hs) (by decide);generalize (2:Int)^(Bq L).toNat=p at *;omega
  exact⟨key _ _ eW.1 eW.2 eE.1 eE.2,key _ _ eN.1 eN.2 eS.1 eS.2⟩
def EU (L:List Nd)(m:Int):Bool:=decide (bx L bxW<=m)&&decide (bx L bxH<=m)
theorem VgM (a b:Int):decide (FT a b<=0)=decide (a<=b):=by unfold FT;rw[WP];split;simp;omega;split;simp;omega;simp;omega
theorem Vdp {m:Int}(h0:-9223372036854775808<=m)(h1:m<=9223372036854775807):LB m:=LB.of (k:=3) (show m.natAbs<4294967296^3 by rw[show(4294967296:Nat)^3=79228162514264337593543950336 from by decide];omega) (by decide)
theorem Tn (L:List Nd)(m:Int)(H:Aa)(hL:L.length<549755813888)(hl:AF L=true)(h0:-9223372036854775808<=m)(h1:m<=9223372036854775807):Ubz (Dp L) (.i6 m) H=some (.ret (.bool (EU L m)),H):=by
 unfold Ubz EU;have q1:Ad true 1 (.ptr H.length 0 0) (H++[Blk.c0 (Bl L)])=some (Dp L):=NH An;obtain⟨b1,b2⟩:=VpH hl;have gV:=λH=>OA m H h0 h1;have cW:=λH=>Fi (bx L bxW) m H b1 (Vdp h0 h1);have cH:=λH=>Fi (bx L bxH) m H b2 (Vdp h0 h1);simp only[GMw,VmW,q1,Vfb L _ hL hl,B4,BE,OP];generalize bx L bxX=x;generalize bx L bxY=y;generalize bx L bxW=w at *;generalize bx L bxH=h at *;generalize hB:H++[Blk.c0 (Bl L)]=B;have hst:Ai 8 (.ptr B.length 0 0) (Rv x y w h) (B++[Blk.c0 Hm])=some (B++[Blk.c0 (IL x y w h)]):=by
  simp only[Ai,Ax (An (B:=B) (cs:=Hm)),zXa,Uy,Bw (An (B:=B) (cs:=Hm)),D6 (cs:=Hm) (sz:=8) rfl,Be]
  rfl
 have g4:Ad true 2 (.ptr B.length 0 4) (B++[Blk.c0 (IL x y w h)])=some (big w):=by simp only[Ad,Ax (An (B:=B)),zXa];rfl
 have g6:Ad true 2 (.ptr B.length 0 6) (B++[Blk.c0 (IL x y w h)])=some (big h):=by simp only[Ad,Ax (An (B:=B)),zXa];rfl
 have fin:∀q:Bool,rP H (.bool q) (B++[Blk.c0 (IL x y w h)])=some (.ret (.bool q),H):=λq=>by rw[<-hB,WD];exact Ey
 simp only[hst,GMw,gV,Ae,W9,g4,g6,and_true,eq_self,cW,VgM];cases decide (w<=m)with|false=>simp only[GMw,PA,and_true,eq_self,fin]|true=>simp only[GMw,gV,Ae,W9,g6,S6,and_true,eq_self,cH,VgM,fin]
end Go.Gm
