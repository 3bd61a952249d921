/- Texts of this proof, joined. -/
import Derived.Test.YtagddbecnkbcdaaGreatJ2
import Derived.Test.YtagddbecnkbcdaaGreatJ3
set_option linter.unusedVariables false
set_option linter.unusedSimpArgs false
namespace Go.Gm
section
variable {α:Type} {lt:α→α→Bool}
theorem GG {l:List α} (h:DS lt l) (hs:SW lt) {i j:Nat} (hij:i≤j) (hj:j<l.length):lt l[j] (l[i]'(by omega))=false:=by
 by_cases e:i=j
 ·subst e;exact hs.irr _
 ·exact Y1.1 h i j (by omega) hj (by omega)
theorem Hb {l:List α} {n:Nat} {x:α} (h:x∈l.take n):∃i,∃hi:i<l.length,i<n∧l[i]=x:=by
 obtain ⟨i,hi,e⟩:=Xp h
 rw [WT]at hi
 exact ⟨i,by omega,by omega,by rw [←e,Z3]⟩
theorem Hf {l:List α} {n:Nat} {x:α} (h:x∈l.drop n):∃i,∃hi:i<l.length,n≤i∧l[i]=x:=by
 obtain ⟨i,hi,e⟩:=Xp h
 rw [WZ]at hi
 exact ⟨n+i,by omega,by omega,by rw [←e,Yv]⟩
theorem Qk (hs:SW lt) {U V W1 W2:List α} {i k:Nat} (hU:DS lt U) (hV:DS lt V) (h1:∀x∈U.drop i,∀y∈V.take k,lt y x=true) (h2:∀x∈U.take i,∀y∈V.drop k,lt y x=false)
  (w1:Srt lt (U.take i++V.take k) W1) (w2:Srt lt (U.drop i++V.drop k) W2):Srt lt (U++V) (W1++W2):=by
 have eU:U.take i++U.drop i=U:=Xr i U
 have eV:V.take k++V.drop k=V:=Xr k V
 have hU':=hU
 have hV':=hV
 rw [←eU]at hU'
 rw [←eV]at hV'
 have pU:=(XJ.1 hU').2.2
 have pV:=(XJ.1 hV').2.2
 refine ⟨LJ w1.srt w2.srt fun a ha b hb=>?_,?_,?_⟩
 ·have ha':=(w1.st.mem hs).2 ha
  have hb':=(w2.st.mem hs).2 hb
  rcases WX.1 ha' with x | x <;> rcases WX.1 hb' with y | y
  ·exact pU a x b y
  ·exact h2 a x b y
  ·exact hs.asy _ _ (h1 b y a x)
  ·exact pV a x b y
 ·refine ES.trans ?_ (w1.st.app w2.st)
  have e1:U++V=U.take i++((U.drop i++V.take k)++V.drop k):=by
   conv=>lhs;rw [←eU,←eV]
   simp only [WG]
  have e2:U.take i++V.take k++(U.drop i++V.drop k)=U.take i++((V.take k++U.drop i)++V.drop k):=by simp only [WG]
  rw [e1,e2]
  exact (ES.refl _).app ((ES.swap hs h1).app (.refl _))
 ·rw [WJ,w1.len,w2.len,WJ,WJ,WJ,WT,WT,WZ,WZ];omega
section
variable {U V A B:List α} {a m b mid s0 r0 s:Nat}
def Te (lt:α→α→Bool) (l:List α) (P:Nat) (c:Nat):Bool:=!HA lt l (P-c) c
theorem at_U (ha:A.length=a) {c:Nat} (h1:a≤c) (h2:c<a+U.length):(A++(U++(V++B)))[c]? = some (U[c-a]'(by omega)):=by
 rw [Xe (by omega),WD (by omega),ha,WB]
theorem at_V (ha:A.length=a) (hm:a+U.length=m) {c:Nat} (h1:m≤c) (h2:c<m+V.length):(A++(U++(V++B)))[c]? = some (V[c-m]'(by omega)):=by
 rw [Xe (by omega),Xe (by omega),WD (by omega),show c-A.length-U.length=c-m by omega,WB]
theorem Su (ha:A.length=a) (hm:a+U.length=m) {P c:Nat} (h1:a≤c) (h2:c<m) (h3:m≤P-c) (h4:P-c<m+V.length):Te lt (A++(U++(V++B))) P c = !lt (V[P-c-m]'(by omega)) (U[c-a]'(by omega)):=by
 unfold Te HA
 rw [at_V ha hm h3 h4,at_U ha h1 (by omega)]
theorem symP_mono (hs:SW lt) (hU:DS lt U) (hV:DS lt V) (ha:A.length=a) (hm:a+U.length=m) {P c d:Nat} (h1:a≤c) (hcd:c≤d) (h2:d<m) (h3:m≤P-d) (h4:P-c<m+V.length)
  (h:Te lt (A++(U++(V++B))) P d=true):Te lt (A++(U++(V++B))) P c=true:=by
 rw [Su ha hm (by omega) h2 h3 (by omega)]at h
 rw [Su ha hm h1 (by omega) (by omega) h4]
 simp only [XB]at h ⊢
 have u:=GG hU hs (i:=c-a) (j:=d-a) (by omega) (by omega)
 have v:=GG hV hs (i:=P-d-m) (j:=P-c-m) (by omega) (by omega)
 exact hs.neg _ _ _ v (hs.neg _ _ _ h u)
theorem sym_split (hs:SW lt) (hU:DS lt U) (hV:DS lt V) (ha:A.length=a) (hm:a+U.length=m) (hb:m+V.length=b) (hmid:mid=(a+b) / 2) (hUp:0<U.length) (hVp:0<V.length)
  (h0:s0=if mid<m then mid+m-b else a) (hr:r0=if mid<m then mid else m) (k:BsI (Te lt (A++(U++(V++B))) (mid+m-1)) s0 r0 s s) :
  (∀x∈U.drop (s-a),∀y∈V.take (mid-s),lt y x=true)∧(∀x∈U.take (s-a),∀y∈V.drop (mid-s),lt y x=false)∧a≤s∧s≤m∧s≤mid∧m≤mid+m-s∧mid+m-s≤b:=by
 obtain ⟨⟨k1,_,k2⟩,k3,k4⟩:=k
 have hrange:a≤s∧s≤m∧s≤mid∧mid+m-s≤b:=by
  by_cases hc:mid<m
  ·rw [if_pos hc]at h0 hr;omega
  ·rw [if_neg hc]at h0 hr;omega
 refine ⟨fun x hx y hy=>?_,fun x hx y hy=>?_,by omega,by omega,by omega,by omega,by omega⟩
 ·obtain ⟨i,hi,hi2,rfl⟩:=Hf hx
  obtain ⟨j,hj,hj2,rfl⟩:=Hb hy
  have hlt:s<r0:=by
   by_cases hc:mid<m
   ·rw [if_pos hc]at hr;omega
   ·rw [if_neg hc]at hr;omega
  have:=k4 s (WF _) hlt
  rw [Su ha hm (by omega) (by omega) (by omega) (by omega)]at this
  simp only [YV]at this
  have u:=GG hU hs (i:=s-a) (j:=i) hi2 hi
  have v:=GG hV hs (i:=j) (j:=mid+m-1-s-m) (by omega) (by omega)
  cases e:lt V[j] U[i]with
  | true=>rfl
  | false=>
   have h9:=hs.neg _ _ _ v (hs.neg _ _ _ e u)
   rw [h9]at this;cases this
 ·obtain ⟨i,hi,hi2,rfl⟩:=Hb hx
  obtain ⟨j,hj,hj2,rfl⟩:=Hf hy
  have hlt:s0<s:=by
   by_cases hc:mid<m
   ·rw [if_pos hc]at h0;omega
   ·rw [if_neg hc]at h0;omega
  have:=k3 (s-1) (by omega) (by omega)
  rw [Su ha hm (by omega) (by omega) (by omega) (by omega)]at this
  simp only [XB]at this
  have u:=GG hU hs (i:=i) (j:=s-1-a) (by omega) (by omega)
  have v:=GG hV hs (i:=mid+m-1-(s-1)-m) (j:=j) (by omega) hj
  exact hs.neg _ _ _ v (hs.neg _ _ _ this u)

end
theorem one_up (hs:SW lt) {x:α} {V:List α} {k:Nat} (hV:DS lt V) (h1:∀y∈V.take k,lt y x=true) (h2:∀y∈V.drop k,lt y x=false):Srt lt ([x]++V) (V.take k++([x]++V.drop k)):=by
 have:=Qk (U:=[x]) (V:=V) (i:=0) (k:=k) (W1:=V.take k) (W2:=[x]++V.drop k) hs (XH _ _) hV (fun a ha y hy=>by
  have:a=x:=by simpa using ha
  rw [this];exact h1 y hy) (fun a ha=>by simp at ha) ⟨XN (YZ k V) hV,ES.refl _,rfl⟩
  ⟨LJ (XH _ _) (XN (Zc k V) hV) fun a ha y hy=>by rw [WY]at ha;rw [ha];exact h2 y hy,.refl _,rfl⟩
 exact this
theorem one_dn (hs:SW lt) {y:α} {U:List α} {i:Nat} (hU:DS lt U) (h1:∀x∈U.take i,lt y x=false) (h2:∀x∈U.drop i,lt y x=true):Srt lt (U++[y]) (U.take i++([y]++U.drop i)):=by
 have:=Qk (U:=U) (V:=[y]) (i:=i) (k:=1) (W1:=U.take i++[y]) (W2:=U.drop i) hs hU (XH _ _) (fun x hx a ha=>by
  have:a=y:=by simpa using ha
  rw [this];exact h2 x hx) (fun x hx a ha=>by simp at ha)
  ⟨LJ (XN (YZ i U) hU) (XH _ _) fun a ha x hx=>by rw [WY]at hx;rw [hx];exact h1 a ha,.refl _,rfl⟩
  ⟨XN (Zc i U) hU,by simpa using ES.refl _,by simp⟩
 simpa using this
def upR (a:Nat):Nat→List α→List α
 | 0,l=>l
 | k+1,l=>swp (upR a k l) (a+k) (a+k+1)
def dnR (m:Nat):Nat→List α→List α
 | 0,l=>l
 | k+1,l=>swp (dnR m k l) (m-k) (m-k-1)
theorem upR_ok (A B:List α) (x:α) (V:List α):∀k,k≤V.length→upR A.length k (A++([x]++(V++B)))=A++((V.take k++([x]++V.drop k))++B)
 | 0,_=>by simp [upR]
 | k+1,hk=>by
  have hkv:k<V.length:=hk
  unfold upR
  rw [upR_ok A B x V k (by omega)]
  have e:A++((V.take k++([x]++V.drop k))++B)=(A++V.take k)++x::([]++V[k]::(V.drop (k+1)++B)):=by
   rw [Xf hkv];simp only [WG,List.cons_append,List.nil_append]
  have h1:(V.take k).length=k:=by rw [WT];omega
  rw [e,(Sv (A++V.take k) [] (V.drop (k+1)++B) x V[k] (by rw [WJ,h1]) (by rw [WJ,h1];rfl)).1,WM hkv]
  simp only [WG,List.cons_append,List.nil_append]
theorem dnR_ok (A B:List α) (y:α) (U:List α):∀k,k≤U.length→dnR (A.length+U.length) k (A++(U++([y]++B)))=A++((U.take (U.length-k)++([y]++U.drop (U.length-k)))++B)
 | 0,_=>by simp [dnR]
 | k+1,hk=>by
  unfold dnR
  rw [dnR_ok A B y U k (by omega)]
  obtain ⟨i,hi⟩:∃i,U.length=i+(k+1):=⟨U.length-(k+1),by omega⟩
  have h2:U.length-k=i+1:=by omega
  have h3:U.length-(k+1)=i:=by omega
  have hiu:i<U.length:=by omega
  rw [h2,h3]
  have h1:(U.take i).length=i:=by rw [WT];omega
  have e:A++((U.take (i+1)++([y]++U.drop (i+1)))++B)=(A++U.take i)++U[i]::([]++y::(U.drop (i+1)++B)):=by
   rw [WM hiu];simp only [WG,List.cons_append,List.nil_append]
  rw [e,(Sv (A++U.take i) [] (U.drop (i+1)++B) U[i] y (i:=A.length+U.length-k-1) (j:=A.length+U.length-k) (by rw [WJ,h1];omega) (by rw [WJ,h1];simp;omega)).2,Xf hiu]
  simp only [WG,List.cons_append,List.nil_append]

end
section
variable {α:Type} {lt:α→α→Bool}
def Om (lt:α→α→Bool) (w:Nat) (l:List α):Prop:=∀(i j:Nat) (hj:j<l.length) (hi:i<j),i / w=j / w→lt l[j] (l[i]'(by omega))=false
structure Stg (lt:α→α→Bool) (w:Nat) (l:List α) (a:Nat) (l':List α):Prop where
 ex:∃P,l'=P++l.drop a∧P.length=a∧ES lt (l.take a) P∧Om lt w P
theorem Stg.start (w:Nat) (l:List α):Stg lt w l 0 l:=⟨⟨[],by simp,rfl,by simpa using ES.refl _,fun i j hj=>by simp at hj⟩⟩
theorem Stg.len {w:Nat} {l l':List α} {a:Nat} (h:Stg lt w l a l') (ha:a≤l.length):l'.length=l.length:=by
 obtain ⟨P,rfl,hP,_,_⟩:=h.ex
 rw [WJ,hP,WZ];omega
theorem Uu {w a i:Nat} (hw:0<w) (hd:w ∣ a) (hi:i<w):(a+i) / w=a / w:=by
 obtain ⟨q,rfl⟩:=hd
 rw [Nat.mul_add_div hw,Nat.mul_div_cancel_left _ hw,XX hi];omega
theorem div_less {w a i:Nat} (hw:0<w) (hd:w ∣ a) (hi:i<a):i / w<a / w:=by
 obtain ⟨q,rfl⟩:=hd
 rw [Nat.mul_div_cancel_left _ hw]
 rw [XV hw,XP];exact hi
theorem Om.app {w:Nat} {P S:List α} (hw:0<w) (hd:w ∣ P.length) (h:Om lt w P) (hS:DS lt S):S.length≤w→Om lt w (P++S):=by
 intro hl i j hj hi he
 rw [WJ]at hj
 by_cases h1:j<P.length
 ·rw [List.getElem_append_left h1,List.getElem_append_left (by omega)]
  exact h i j h1 hi he
 ·by_cases h2:i<P.length
  ·have e1:=div_less hw hd h2
   have e2:=Uu hw hd (show j-P.length<w by omega)
   rw [show P.length+(j-P.length)=j by omega]at e2
   omega
  ·rw [XC (by omega),XC (by omega)]
   exact Y1.1 hS (i-P.length) (j-P.length) (by omega) (by omega) (by omega)
theorem Stg.all {w:Nat} {l l':List α} (h:Stg lt w l l.length l'):ES lt l l'∧Om lt w l'∧l'.length=l.length:=by
 obtain ⟨P,h1,hP,hst,hb⟩:=h.ex
 rw [XR (WF _),Xl]at h1
 rw [WN (WF _)]at hst
 subst h1
 exact ⟨hst,hb,hP⟩
theorem Om.block {w a:Nat} {l:List α} (hw:0<w) (hd:w ∣ a) (h:Om lt w l) (n:Nat) (hn:n≤w):DS lt ((l.drop a).take n):=by
 refine Y1.2 fun i j hi hj hij=>?_
 rw [WT,WZ]at hi hj
 rw [Z3,Z3,Yv,Yv]
 refine h (a+i) (a+j) (by omega) (by omega) ?_
 rw [Uu hw hd (by omega),Uu hw hd (by omega)]
theorem Om.whole {w:Nat} {l:List α} (hw:l.length≤w) (h:Om lt w l):DS lt l:=by
 refine Y1.2 fun i j hi hj hij=>h i j hj hij ?_
 rw [XX (by omega),XX (by omega)]
theorem O5 (hs:SW lt):∀l m:List α,(l.Pairwise fun a b=>lt a b=true)→(m.Pairwise fun a b=>lt a b=true)→(∀a,a∈l↔a∈m)→l=m
 | [],m,_,_,h=>by
  cases m with
  | nil=>rfl
  | cons y m=>have:=(h y).2 (by simp);cases this
 | x::l,m,hl,hm,h=>by
  cases m with
  | nil=>have:=(h x).1 (by simp);cases this
  | cons y m=>
   rw [Ys]at hl hm
   have hxy:x=y:=by
    rcases Xk.1 ((h x).1 (by simp))with e | e
    ·exact e
    ·rcases Xk.1 ((h y).2 (by simp))with e' | e'
     ·exact e'.symm
     ·have a1:=hm.1 x e
      have a2:=hl.1 y e'
      rw [hs.asy _ _ a1]at a2;cases a2
   subst hxy
   congr 1
   refine O5 hs l m hl.2 hm.2 fun a=>?_
   have ne:∀ {k:List α},(∀a∈k,lt x a=true)→a∈k→a≠x:=fun hk ha e=>by
    have:=hk a ha
    rw [e,hs.irr]at this;cases this
   constructor
   ·intro ha
    rcases Xk.1 ((h a).1 (by simp [ha]))with e | e
    ·exact absurd e (ne hl.1 ha)
    ·exact e
   ·intro ha
    rcases Xk.1 ((h a).2 (by simp [ha]))with e | e
    ·exact absurd e (ne hm.1 ha)
    ·exact e
def cpF (lt:α→α→Bool):α→List α→List α
 | _,[]=>[]
 | x,y::t=>if Bw lt y x then cpF lt y t else y::cpF lt y t
def cpL (lt:α→α→Bool):List α→List α
 | []=>[]
 | x::t=>x::cpF lt x t
theorem cpF_ok (hs:SW lt):∀(t:List α) (x:α),DS lt (x::t)→((cpF lt x t).Pairwise fun a b=>lt a b=true)∧(∀z∈cpF lt x t,lt x z=true)∧∀z,z∈cpF lt x t↔Bw lt z x=false∧(t.filter (Bw lt z)).head? = some z
 | [],x,h=>⟨List.Pairwise.nil,fun z (hz:z∈[])=>(by cases hz),fun z=>(by simp [cpF])⟩
 | y::t,x,h=>by
  have h':=h
  unfold DS at h'
  rw [Ys]at h'
  obtain ⟨hx,ht⟩:=h'
  obtain ⟨i1,i2,i3⟩:=cpF_ok hs t y ht
  have hyx:=hx y (by simp)
  unfold cpF
  by_cases he:Bw lt y x=true
  ·rw [if_pos he]
   have hey:=filter_eqv hs he
   rw [Fv]at he
   have hlt:∀z∈cpF lt y t,lt x z=true:=fun z hz=>by
    cases e:lt x z with
    | true=>rfl
    | false=>have:=hs.neg y x z he.1 e;rw [i2 z hz]at this;cases this
   refine ⟨i1,hlt,fun z=>?_⟩
   rw [i3 z]
   have e1:Bw lt z y=Bw lt z x:=by
    rw [WW,Fv,Fv]
    exact ⟨fun ⟨p,q⟩=>⟨hs.neg _ _ _ p he.1,hs.neg _ _ _ he.2 q⟩,fun ⟨p,q⟩=>⟨hs.neg _ _ _ p he.2,hs.neg _ _ _ he.1 q⟩⟩
   rw [e1]
   constructor
   ·rintro ⟨a,b⟩
    refine ⟨a,?_⟩
    rw [X8,if_neg (by rw [e1,a];decide)];exact b
   ·rintro ⟨a,b⟩
    refine ⟨a,?_⟩
    rw [X8,if_neg (by rw [e1,a];decide)]at b;exact b
  ·rw [if_neg he]
   have hxy:lt x y=true:=by
    cases e:lt x y with
    | true=>rfl
    | false=>exact absurd (Fv.2 ⟨hyx,e⟩) he
   have hlt:∀z∈cpF lt y t,lt x z=true:=fun z hz=>by
    cases e:lt x z with
    | true=>rfl
    | false=>have:=hs.neg x z y e (hs.asy _ _ (i2 z hz));rw [hxy]at this;cases this
   refine ⟨Ys.2 ⟨i2,i1⟩,fun z hz=>?_,fun z=>?_⟩
   ·rcases Xk.1 hz with e | e
    ·rw [e];exact hxy
    ·exact hlt z e
   ·rw [Xk,i3 z,X8]
    by_cases hzy:Bw lt z y=true
    ·rw [if_pos hzy]
     have hzx:Bw lt z x=false:=by
      cases e:Bw lt z x with
      | false=>rfl
      | true=>
       rw [Fv]at e hzy
       have:=hs.neg x z y e.2 hzy.1
       rw [hxy]at this;cases this
     rw [hzx,hzy]
     simp only [List.head?_cons,WK,Zy,false_and,or_false,true_and]
     exact ⟨fun h=>h.symm,fun h=>h.symm⟩
    ·rw [if_neg hzy]
     have hzy':Bw lt z y=false:=by simpa using hzy
     rw [hzy']
     have hne:z≠y:=fun e=>by rw [e,M0 hs]at hzy';cases hzy'
     simp only [hne,false_or,true_and]
     constructor
     ·intro hb
      refine ⟨?_,hb⟩
      have hz:z∈cpF lt y t:=(i3 z).2 ⟨hzy',hb⟩
      cases e:Bw lt z x with
      | false=>rfl
      | true=>rw [Fv]at e;have:=hlt z hz;rw [e.2]at this;cases this
     ·exact fun h=>h.2
theorem cpL_ok (hs:SW lt) {l:List α} (h:DS lt l):((cpL lt l).Pairwise fun a b=>lt a b=true)∧∀z,z∈cpL lt l↔(l.filter (Bw lt z)).head? = some z:=by
 cases l with
 | nil=>exact ⟨List.Pairwise.nil,fun z=>by simp [cpL]⟩
 | cons x t=>
  obtain ⟨i1,i2,i3⟩:=cpF_ok hs t x h
  refine ⟨Ys.2 ⟨i2,i1⟩,fun z=>?_⟩
  show z∈x::cpF lt x t↔_
  rw [Xk,i3 z,X8]
  by_cases hzx:Bw lt z x=true
  ·rw [if_pos hzx,hzx]
   simp only [List.head?_cons,WK,Zy,false_and,or_false]
   exact ⟨fun h=>h.symm,fun h=>h.symm⟩
  ·rw [if_neg hzx]
   have hne:z≠x:=fun e=>by rw [e,M0 hs]at hzx;exact hzx rfl
   simp only [hne,false_or]
   exact ⟨fun h=>h.2,fun h=>⟨by simpa using hzx,h⟩⟩

end
def CD (L:List Nd) (i:Nat) (x:Nd) (c:Int):Bool:=
 decide (0≤c)&&(decide (x.lv=1→c≤255))&&decide (1<x.lv→0<c→c≤i∧∀y,L[(c-1).toNat]? = some y→y.lv=x.lv-1)
def FL (L:List Nd) (i:Nat):Bool:=
 match L[i]? with
 | some x=>decide (1≤x.lv∧x.lv≤1329)&&(List.range 4).all fun k=>CD L i x (x.kid k)
 | none=>true
def AP (L:List Nd):Bool:=(List.range L.length).all (FL L)
theorem q05_loose (L:List Nd) (tk:Tok) (H:Aa) (hL:L.length<1152921504606846976):Sh.f3g (.sl (enL cNd L) tk) H=some (.ret (.bool (AP L)),H):=by
 unfold Sh.f3g
 rw [show AP L=(List.range L.length).all (FL L) from rfl]
 have:=Ew L.length (FL L) (fun i=>[.sl (enL cNd L) tk,.int .i64 (i:Int)]) H (some (.ret (.bool true),H)) (some (.ret (.bool false),H)) hL (fun rec i hi=>?_) (fun rec=>?_)
  (G:=fun rec1 vs H1=>Sh.f58 H rec1 (ag vs 0) (ag vs 1) H1)
 ·refine this.trans ?_
  cases (List.range L.length).all (FL L) <;> rfl
 ·have hx:(i:Int)<(L.length:Int):=by omega
  have hg:L[i]? = some L[i]:=WB hi
  unfold Sh.f58
  simp only [Aj,AS,Av,BC,Bf,hx,decide_true,AN,Ax hi,Ap,A7,Nat.add_zero,BI]
  by_cases h1:L[i].lv<1
  ·have:FL L i=false:=by simp only [FL,hg];simp;intro;omega
   simp [h1,this]
  ·by_cases h2:L[i].lv>1329
   ·have:FL L i=false:=by simp only [FL,hg];simp;intro;omega
    simp [h1,h2,this,Ax hi]
   ·have hd:FL L i=(List.range 4).all fun k=>CD L i L[i] (L[i].kid k):=by
     simp only [FL,hg];rw [decide_eq_true (by omega)];rfl
    simp only [h1,h2,decide_false,Mx,BC,Dh,BW,AI,hd,A7,Nat.add_zero,BI,Ap,Ax hi]
    have:=Ew 4 (fun k=>CD L i L[i] (L[i].kid k)) (fun k=>[.sl (enL cNd L) tk,.int .i64 (i:Int),.int .i64 (k:Int)]) H (rec [.sl (enL cNd L) tk,.int .i64 ((i+1:Nat):Int)] H) (some (.ret (.bool false),H)) (by decide) (fun rec2 k hk=>?_) (fun rec2=>?_)
     (G:=fun rec2 vs H1=>Sh.f57 H rec rec2 (ag vs 0) (ag vs 1) (ag vs 2) H1)
    ·exact this
    ·have hk':(k:Int)<4:=by omega
     unfold Sh.f57
     simp only [Aj,AS,AY,BC,Bf,hk',decide_true,AN,Ax hi,Ap,DJ hk,A7,WE,WQ,Dt hk,BI,Aw (show k<9223372036854775807 by omega),BX,DR,Dh]
     generalize L[i].kid k=c
     generalize hx':L[i]=x at h1 h2 ⊢
     by_cases hc:c<0
     ·have:CD L i x c=false:=by simp [CD];omega
      simp [hc,this,Ax hi,hx']
     ·obtain ⟨n,rfl⟩:=X9 (show 0≤c by omega)
      by_cases hl:x.lv=1
      ·by_cases h255:255<n
       ·have:CD L i x n=false:=by simp [CD,hl];omega
        have h256:(255:Int)<n:=by omega
        simp [hc,hl,h255,h256,this,Ax hi,hx']
       ·have:CD L i x n=true:=by simp [CD,hl];omega
        have h256:¬(255:Int)<n:=by omega
        simp [hc,hl,h255,h256,this,Ax hi,hx']
      ·have hl1:1<x.lv:=by omega
       by_cases hn:0<n
       ·by_cases hni:i<n
        ·have:CD L i x n=false:=by
          unfold CD
          rw [Yg];right
          rw [decide_eq_false_iff_not];intro h;have:=(h hl1 (by omega)).1;omega
         simp [hc,hl,hl1,hn,hni,this,Ax hi,hx']
        ·have hlt:n-1<L.length:=by omega
         have e1:((n:Int)-1).toNat=n-1:=by omega
         have hk2:CD L i x n=decide (L[n-1].lv=x.lv-1):=by
          unfold CD
          rw [e1,WB hlt,WW]
          simp only [WO,decide_eq_true_eq,WK,forall_eq']
          constructor
          ·intro h;exact (h.2 hl1 (by omega)).2
          ·intro h;exact ⟨⟨by omega,by omega⟩,fun _ _=>⟨by omega,h⟩⟩
         have hw:IntKind.i64.wrap (x.lv-1)=x.lv-1:=Al (by omega) (by omega)
         simp [hc,hl,hl1,hn,hni,hk2,I6 (show 0<n by omega) (by omega),Ax hlt,Ax hi,hx',hw]
         by_cases he:L[n-1].lv=x.lv-1 <;> simp [he]
       ·have:CD L i x n=true:=by
         unfold CD
         simp only [WO,decide_eq_true_eq]
         exact ⟨⟨by omega,by omega⟩,fun _ _=>by omega⟩
        simp [hc,hl,hl1,hn,this,Ax hi,hx']
    ·unfold Sh.f57
     simp [Aw (show i<9223372036854775807 by omega)]
 ·unfold Sh.f58
  simp
theorem AO {L:List Nd} (h:AP L=true) {i:Nat} (hi:i<L.length):1≤L[i].lv∧L[i].lv≤1329∧∀k,k<4→0≤L[i].kid k∧(L[i].lv=1→L[i].kid k≤255)∧(1<L[i].lv→0<L[i].kid k→L[i].kid k≤i∧∀y,L[(L[i].kid k-1).toNat]? = some y→y.lv=L[i].lv-1):=by
 have h1:=Xb.1 h i (by simpa using hi)
 simp only [FL,WB hi,WO,decide_eq_true_eq,Xb]at h1
 refine ⟨h1.1.1,h1.1.2,fun k hk=>?_⟩
 have h2:=h1.2 k (by simpa using hk)
 simp only [CD,WO,decide_eq_true_eq]at h2
 exact ⟨h2.1.1,h2.1.2,h2.2⟩
def PI (E:List Bool) (x:Nd):Bool:=(List.range 4).all fun k=>decide (x.kid k=0)||(decide (1<x.lv)&&E.getD (x.kid k).toNat true)
def AC (L:List Nd):List Bool:=L.foldl (fun E x=>E++[PI E x]) [true]
theorem N5 (L:List Nd) (x:Nd):AC (L++[x])=AC L++[PI (AC L) x]:=by simp [AC]
theorem E5 (L:List Nd):(AC L).length=L.length+1:=by
 rcases F3 L with rfl | ⟨l,a,rfl⟩
 ·rfl
 ·rw [N5];have:=E5 l;simp [this]
termination_by L.length
decreasing_by (subst_vars;simp)
theorem Wu (L:List Nd) {i:Nat} (hi:i<L.length):AC (L.take (i+1))=AC (L.take i)++[PI (AC (L.take i)) L[i]]:=by
 rw [WM hi,N5]
theorem Rs (L:List Nd) (tk:Tok) (H:Aa) (hL:L.length<140737488355327) (hl:AP L=true):Sh.f1f (.sl (enL cNd L) tk) H=some (.ret (.sl (enL cB (AC L)) .no),H):=by
 have hmk:=FG (f:=cB) (a:=false) (n:=L.length+1) (bytes:=1) (H:=H) (by omega) (by omega)
 have hid:=Cy (sz:=1) (id:=H.length) (n:=L.length+1) (K:=.i64) (g:=0) (off:=0) (cap:=L.length+1) (ex:=true) (i:=0) (by omega)
 have hst:=DV (f:=cB) (sz:=1) (l:=List.replicate (L.length+1) false) (i:=0) (a:=true) (v:=.bool true) (H:=H++[.cel 0 (flat cB (List.replicate (L.length+1) false))]) (id:=H.length) (by simp) (by simp) rfl
 unfold Sh.f1f
 simp only [Av,BC,BX,Aw (show L.length<9223372036854775807 by omega),hmk,Bm]
 simp only [YO,Nat.add_zero]at hid
 rw [show ((0:Nat):Int)=0 from rfl]at hid
 simp only [YO]at hst
 rw [hid]
 simp only [BC,hst,AK,Cs,Qm,Ql]
 have key:=Cf (G:=fun rec1 vs H1=>Sh.f5a H rec1 (ag vs 0) (ag vs 1) (ag vs 2) H1) L.length (fun i=>[.sl (enL cNd L) tk,.ms H.length 0 0 (L.length+1) (L.length+1) 1 true,.int .i64 (i:Int)]) (fun i=>H++[.cel 0 (flat cB (AC (L.take i)++List.replicate (L.length-i) false))]) (some (.ret (.sl (enL cB (AC L)) .no),H)) (by omega) (fun rec i hi=>?_) (fun rec=>?_)
 ·have e:(List.replicate (L.length+1) false).set 0 true=AC (L.take 0)++List.replicate (L.length-0) false:=by simp [List.replicate_succ,AC]
  rw [e];exact key
 ·have hi':(i:Int)<(L.length:Int):=by omega
  obtain ⟨l1,l2,l3⟩:=AO hl hi
  have hEl:(AC (L.take i)).length=i+1:=by rw [E5];simp;omega
  unfold Sh.f5a
  simp only [Aj,AS,AY,Av,BC,Bf,hi',decide_true,AN]
  have hs:∀k,k<4→1<L[i].lv→(AC (L.take i)++List.replicate (L.length-i) false).getD (L[i].kid k).toNat true=(AC (L.take i)).getD (L[i].kid k).toNat true:=by
   intro k hk h1
   obtain ⟨q1,q2,q3⟩:=l3 k hk
   have:(L[i].kid k).toNat<(AC (L.take i)).length:=by
    rw [hEl]
    by_cases h0:0<L[i].kid k
    ·have:=(q3 h1 h0).1;omega
    ·omega
   simp only [WH,WD this]
  have hb:∀k,k<4→1<L[i].lv→(L[i].kid k).toNat<L.length+1:=by
   intro k hk h1
   obtain ⟨q1,q2,q3⟩:=l3 k hk
   by_cases h0:0<L[i].kid k
   ·have:=(q3 h1 h0).1;omega
   ·omega
  have hEs:PI (AC (L.take i)) L[i]=(List.range 4).all fun k=>decide (L[i].kid k=0)||(decide (1<L[i].lv)&&(AC (L.take i)++List.replicate (L.length-i) false).getD (L[i].kid k).toNat true):=by
   unfold PI
   rw [O9,O9]
   by_cases h1:1<L[i].lv
   ·simp only [hs 0 (by omega) h1,hs 1 (by omega) h1,hs 2 (by omega) h1,hs 3 (by omega) h1]
   ·simp only [h1,decide_false,XE]
  have hset:(AC (L.take i)++List.replicate (L.length-i) false).set (i+1) (PI (AC (L.take i)) L[i])=AC (L.take (i+1))++List.replicate (L.length-(i+1)) false:=by
   rw [Wu L hi,Xg _ _ (by omega),hEl,Xn,show L.length-i=(L.length-(i+1))+1 from by omega,List.replicate_succ,List.set_cons_zero]
   simp
  have hlen:(AC (L.take i)++List.replicate (L.length-i) false).length=L.length+1:=by simp [hEl];omega
  rw [←hset,hEs]
  generalize AC (L.take i)++List.replicate (L.length-i) false=E at hlen
  generalize hx:L[i]=x at l1 l2 l3 hb
  have hgc:A1 (H++[.cel 0 (flat cB E)]) H.length 0=some (flat cB E):=by simp
  refine Cf (G:=fun rec2 vs H1=>Sh.f59 H rec rec2 (ag vs 0) (ag vs 1) (ag vs 2) (ag vs 3) (ag vs 4) H1) 4 (fun k=>[.sl (enL cNd L) tk,.ms H.length 0 0 (L.length+1) (L.length+1) 1 true,.int .i64 (i:Int),.bool ((List.range k).all fun k=>decide (x.kid k=0)||(decide (1<x.lv)&&E.getD (x.kid k).toNat true)),.int .i64 (k:Int)]) (fun _=>H++[.cel 0 (flat cB E)]) _ (by decide) (fun rec2 k hk=>?_) (fun rec2=>?_)
  ·have hk':(k:Int)<4:=by omega
   obtain ⟨q1,q2,q3⟩:=l3 k hk
   have hb':=hb k hk
   unfold Sh.f59
   have hsucc:((List.range (k+1)).all fun k=>decide (x.kid k=0)||(decide (1<x.lv)&&E.getD (x.kid k).toNat true))=(((List.range k).all fun k=>decide (x.kid k=0)||(decide (1<x.lv)&&E.getD (x.kid k).toNat true))&&(decide (x.kid k=0)||(decide (1<x.lv)&&E.getD (x.kid k).toNat true))):=by
    rw [Yu,Zm];simp
   rw [hsucc]
   generalize ((List.range k).all fun k=>decide (x.kid k=0)||(decide (1<x.lv)&&E.getD (x.kid k).toNat true))=e
   simp only [Aj,AS,AY,Bo,B6,BC,Bf,hk',decide_true,AN,Ax hi,hx,Ap,DJ hk,A7,WE,WQ,Dt hk,BI,Aw (show k<9223372036854775807 by omega),BX,DR,Dh]
   obtain ⟨n,hn⟩:=X9 q1
   rw [hn]at hb' ⊢
   simp only [Int.toNat_natCast]at hb' ⊢
   cases e with
   | false=>simp
   | true=>
    by_cases h0:n=0
    ·subst h0;simp
    ·by_cases h1:1<x.lv
     ·have hnE:n<E.length:=by rw [hlen];exact hb' h1
      have hid2:=Cy (sz:=1) (id:=H.length) (n:=L.length+1) (K:=.i64) (g:=0) (off:=0) (cap:=L.length+1) (ex:=true) (i:=n) (hb' h1)
      simp only [WE,WQ]at hid2
      have hld:=Ib (f:=cB) hgc hnE
      simp [h0,h1,hx,Ax hi,hid2,hld,WB hnE]
     ·simp [h0,h1,hx,Ax hi]
  ·have hid2:=Cy (sz:=1) (id:=H.length) (n:=L.length+1) (K:=.i64) (g:=0) (off:=0) (cap:=L.length+1) (ex:=true) (i:=i+1) (by omega)
   simp only [WE,WQ]at hid2
   have hst2:=DV (f:=cB) (sz:=1) (l:=E) (i:=i+1) (a:=(List.range 4).all fun k=>decide (x.kid k=0)||(decide (1<x.lv)&&E.getD (x.kid k).toNat true)) (H:=H++[.cel 0 (flat cB E)]) (id:=H.length) hgc (by omega) (v:=.bool ((List.range 4).all fun k=>decide (x.kid k=0)||(decide (1<x.lv)&&E.getD (x.kid k).toNat true))) rfl
   simp only [WQ]at hst2
   unfold Sh.f59
   have hf:¬(((4:Nat):Int)<4):=by decide
   simp only [Aj,AS,AY,Bo,B6,BC,Bf,hf,decide_false,AI,BX,Aw (show i<9223372036854775807 by omega),hid2,hst2,AK,Cs,Qm,Ql]
 ·unfold Sh.f5a
  have hgc:A1 (H++[.cel 0 (flat cB (AC L))]) H.length 0=some (flat cB (AC L)):=by simp
  have hfa:=SD (f:=cB) (b:=H.length) (d:=5) (cap:=L.length+1) (ex:=true) hgc (WF _)
  rw [E5]at hfa
  have ht:L.take L.length=L:=WN (WF _)
  simp only [Aj,AS,AY,Av,BC,Bf,XA,decide_false,AI,ht,Xn,List.replicate_zero,Xl,Ct,hfa,Option.map_some]
def Bb (L:List Nd) (c:Int):Nd:=L.getD (c-1).toNat ⟨0,0,0,0,0⟩
def Uc (L:List Nd) (E:List Bool) (x:Nd) (k j:Nat):Bool:=
 decide (j=3-k)||(if x.lv=2 then decide ((Bb L (x.kid k)).kid j=0)else E.getD ((Bb L (x.kid k)).kid j).toNat true)
def hol (L:List Nd) (E:List Bool) (x:Nd):Bool:=
 (List.range 4).all fun k=>decide (x.kid k=0)||(List.range 4).all (Uc L E x k)
def Ft (L:List Nd) (n:Nat):Bool:=
 decide (n≠0)&&decide (2≤(Bb L n).lv)&&hol L (AC L) (Bb L n)
theorem El {L:List Nd} {c:Int} {n:Nat} (hc:c=((n+1:Nat):Int)) (h:n<L.length):Bb L c=L[n]:=by
 have:(c-1).toNat=n:=by omega
 unfold Bb;rw [this,WH,WB h];rfl
theorem q05_hollow (L:List Nd) (tk:Tok) (n:Nat) (H:Aa) (hL:L.length<140737488355327) (hl:AP L=true) (hn:n≤L.length):Sh.f3h (.sl (enL cNd L) tk) (.int .i64 (n:Int)) H=some (.ret (.bool (Ft L n)),H):=by
 unfold Sh.f3h Ft
 cases n with
 | zero=>simp
 | succ n=>
  have hi:n<L.length:=hn
  have e0:¬((n+1:Nat):Int)=0:=by omega
  obtain ⟨l1,l2,l3⟩:=AO hl hi
  rw [El rfl hi]
  generalize hx:L[n]=x at l1 l2 l3
  have hw:IntKind.i64.wrap (((n+1:Nat):Int)-1)=(n:Int):=by rw [Al] <;> omega
  simp only [DR,GE,e0,decide_false,BC,Mx,DQ,hw,Ax hi,hx,Ap,A7,Nat.add_zero,BI,Bf,BW]
  by_cases h2:x.lv<2
  ·have:¬2≤x.lv:=by omega
   simp [h2,this]
  ·have h2':2≤x.lv:=by omega
   simp only [h2,h2',decide_false,AI,Rs L tk H hL hl,EA,decide_true,ne_eq,Yq,not_false_eq_true,X7]
   have key:=Ew (G:=fun rec1 vs H1=>Sh.f5b H rec1 (ag vs 0) (ag vs 1) (ag vs 2) (ag vs 3) H1) 4 (fun k=>decide (x.kid k=0)||(List.range 4).all (Uc L (AC L) x k))
    (fun k=>[.sl (enL cNd L) tk,.int .i64 ((n+1:Nat):Int),.sl (enL cB (AC L)) .no,.int .i64 (k:Int)]) H (some (.ret (.bool true),H)) (some (.ret (.bool false),H)) (by decide) (fun rec k hk=>?_) (fun rec=>?_)
   ·refine key.trans ?_
    rw [show hol L (AC L) x=(List.range 4).all fun k=>decide (x.kid k=0)||(List.range 4).all (Uc L (AC L) x k) from rfl]
    cases (List.range 4).all fun k=>decide (x.kid k=0)||(List.range 4).all (Uc L (AC L) x k) <;> rfl
   ·have hk':(k:Int)<4:=by omega
    obtain ⟨q1,q2,q3⟩:=l3 k hk
    unfold Sh.f5b
    simp only [Aj,AS,AY,Bo,BC,Bf,hk',decide_true,AN,DQ,hw,Ax hi,hx,Ap,DJ hk,A7,WE,WQ,Dt hk]
    have hws:IntKind.i64.wrap ((k:Int)+1)=((k+1:Nat):Int):=Aw (by omega)
    by_cases hc:x.kid k=0
    ·rw [Dy Ez]
     unfold Sh.f4e
     simp only [hc,decide_true,Y0,if_true,Aj,AS,AY,Bo,B6,Di,Bf,BC,show ((0:Int)<4) from by decide,Ih,Dh,show ¬((0:Int)>0) from by decide,decide_false,Cg,AI,BX,hws]
    ·obtain ⟨m,hm⟩:∃m:Nat,x.kid k=((m+1:Nat):Int):=⟨(x.kid k-1).toNat,by omega⟩
     have h1:1<x.lv:=by omega
     obtain ⟨r1,r2⟩:=q3 h1 (by omega)
     have hmn:m<n:=by omega
     have hml:m<L.length:=by omega
     have hy:=r2 L[m] (by rw [show (x.kid k-1).toNat=m from by omega];exact WB hml)
     obtain ⟨y1,y2,y3⟩:=AO hl hml
     have hE:∀j,j<4→2<x.lv→(L[m].kid j).toNat<(AC L).length:=by
      intro j hj h3
      obtain ⟨s1,s2,s3⟩:=y3 j hj
      rw [E5]
      by_cases h0:0<L[m].kid j
      ·have:=(s3 (by omega) h0).1;omega
      ·omega
     have hp:Uc L (AC L) x k=fun j=>decide (j=3-k)||(if x.lv=2 then decide (L[m].kid j=0)else (AC L).getD (L[m].kid j).toNat true):=by
      funext j;unfold Uc;rw [El hm hml]
     have hwm:IntKind.i64.wrap (((m+1:Nat):Int)-1)=(m:Int):=by rw [Al] <;> omega
     have hc':¬((m+1:Nat):Int)=0:=by omega
     simp only [hp,hm,hc',decide_false,Yb]
     generalize hyy:L[m]=y at y1 y2 y3 hy hE
     refine Ew (G:=fun rec2 vs H1=>Sh.f4e H rec rec2 (ag vs 0) (ag vs 1) (ag vs 2) (ag vs 3) (ag vs 4) (ag vs 5) H1) 4 _
      (fun j=>[.sl (enL cNd L) tk,.int .i64 ((n+1:Nat):Int),.sl (enL cB (AC L)) .no,.int .i64 (k:Int),.int .i64 ((m+1:Nat):Int),.int .i64 (j:Int)]) H _ _ (by decide) (fun rec2 j hj=>?_) (fun rec2=>?_)
     ·have hj':(j:Int)<4:=by omega
      have hm0:((m+1:Nat):Int)>0:=by omega
      have hw3:IntKind.i64.wrap (3-(k:Int))=3-(k:Int):=Al (by omega) (by omega)
      have hjs:IntKind.i64.wrap ((j:Int)+1)=((j+1:Nat):Int):=Aw (by omega)
      obtain ⟨s1,s2,s3⟩:=y3 j hj
      have hE':=hE j hj
      unfold Sh.f4e
      simp only [Aj,AS,AY,Bo,B6,Di,Bf,BC,hj',decide_true,Ih,Dh,hm0,Cg,AN,DQ,hw,hwm,hw3,Ax hml,hyy,Ax hi,hx,Ap,DJ hj,A7,WE,Nat.add_zero,WQ,Dt hj,BI,Hn,Kt,DR,GE,BX,hjs]
      obtain ⟨g,hg⟩:=X9 s1
      rw [hg]at hE' ⊢
      simp only [Int.toNat_natCast]at hE' ⊢
      by_cases h3k:j=3-k
      ·have h3:(j:Int)=3-(k:Int):=by omega
       simp only [BC,Aj,AS,AY,Bo,B6,Di,Bf,Dh,Ku,Kv,DR,Hn,GE,Kt,BX,DQ,Io,AN,AI,Cg,BW,Ih,Mx,Uf,R5,gk_s,QA,QD,QB,QC,Wi,Rk,FY,QM,QP,QN,QO,Wl,QE,QH,QF,QG,Wj,QI,QL,QJ,QK,Wk,Br,AJ,decide_true,decide_false,X2,XL,EA,Cs,Pk,DE,Ip,if_true,WL,if_false,Hr,AK,CL,Bm,Yb,Y0,YG,Zj,decide_eq_true h3,decide_eq_true h3k,Y0]
      ·have h3:¬(j:Int)=3-(k:Int):=by omega
       simp only [h3k,h3,GMb,GMc,Ap,Ag,A7,WE,Nat.add_zero,WQ,BI,Yb]
       by_cases hx2:x.lv=2
       ·have hx3:¬(2:Int)>2:=by decide
        by_cases hg0:(g:Int)=0
        ·simp only [BC,Aj,AS,AY,Bo,B6,Di,Bf,Dh,Ku,Kv,DR,Hn,GE,Kt,BX,DQ,Io,AN,AI,Cg,BW,Ih,Mx,Uf,R5,gk_s,QA,QD,QB,QC,Wi,Rk,FY,QM,QP,QN,QO,Wl,QE,QH,QF,QG,Wj,QI,QL,QJ,QK,Wk,Br,AJ,decide_true,decide_false,X2,XL,EA,Cs,Pk,DE,Ip,if_true,WL,if_false,Hr,AK,CL,Bm,Yb,Y0,YG,Zj,Ap,Ag,A7,WE,Nat.add_zero,WQ,BI,hw,Ax hi,hx,hx2,hg0,hx3]
        ·simp only [BC,Aj,AS,AY,Bo,B6,Di,Bf,Dh,Ku,Kv,DR,Hn,GE,Kt,BX,DQ,Io,AN,AI,Cg,BW,Ih,Mx,Uf,R5,gk_s,QA,QD,QB,QC,Wi,Rk,FY,QM,QP,QN,QO,Wl,QE,QH,QF,QG,Wj,QI,QL,QJ,QK,Wk,Br,AJ,decide_true,decide_false,X2,XL,EA,Cs,Pk,DE,Ip,if_true,WL,if_false,Hr,AK,CL,Bm,Yb,Y0,YG,Zj,Ap,Ag,A7,WE,Nat.add_zero,WQ,BI,hw,Ax hi,hx,hx2,hg0,hx3]
       ·have hx3:x.lv>2:=by omega
        have hlt:=hE' hx3
        have hgd:(AC L).getD g true=(AC L)[g]:=by rw [WH,WB hlt];rfl
        simp only [BC,Aj,AS,AY,Bo,B6,Di,Bf,Dh,Ku,Kv,DR,Hn,GE,Kt,BX,DQ,Io,AN,AI,Cg,BW,Ih,Mx,Uf,R5,gk_s,QA,QD,QB,QC,Wi,Rk,FY,QM,QP,QN,QO,Wl,QE,QH,QF,QG,Wj,QI,QL,QJ,QK,Wk,Br,AJ,decide_true,decide_false,X2,XL,EA,Cs,Pk,DE,Ip,if_true,WL,if_false,Hr,AK,CL,Bm,Yb,Y0,YG,Zj,Ap,Ag,A7,WE,Nat.add_zero,WQ,BI,hw,Ax hi,hx,hx2,hx3,Ax hlt,hgd,List.getElem?_cons_zero]
        cases (AC L)[g] <;> simp only [BC,Aj,AS,AY,Bo,B6,Di,Bf,Dh,Ku,Kv,DR,Hn,GE,Kt,BX,DQ,Io,AN,AI,Cg,BW,Ih,Mx,Uf,R5,gk_s,QA,QD,QB,QC,Wi,Rk,FY,QM,QP,QN,QO,Wl,QE,QH,QF,QG,Wj,QI,QL,QJ,QK,Wk,Br,AJ,decide_true,decide_false,X2,XL,EA,Cs,Pk,DE,Ip,if_true,WL,if_false,Hr,AK,CL,Bm,Yb,Y0,YG,Zj]
     ·have hf:¬(((4:Nat):Int)<4):=by decide
      unfold Sh.f4e
      simp only [Aj,AS,AY,Bo,B6,Di,Bf,BC,hf,decide_false,R5,Uf,BW,AI,BX,hws]
   ·have hf:¬(((4:Nat):Int)<4):=by decide
    unfold Sh.f5b
    simp only [Aj,AS,AY,Bo,Bf,BC,hf,decide_false,AI,Pk]
def OP (rec:Nat→List Nat→List Nat) (x:Nd) (k:Nat) (out:List Nat):List Nat:=
 (List.range k).foldl (fun o k=>if 1<x.lv∧0<x.kid k then rec (x.kid k).toNat o else o) out
def Hi (L:List Nd):Nat→Nat→List Nat→List Nat
 | 0,_,out=>out
 | v+1,n,out=>if n∈out then out else OP (Hi L v) (Bb L n) 4 out++[n]
def Oz (N:Nat) (out:List Nat):Prop:=out.Nodup∧∀x∈out,1≤x∧x≤N
theorem Nn:∀(N:Nat) (out:List Nat),Oz N out→out.length≤N
 | 0,out,h=>by
  cases out with
  | nil=>simp
  | cons a l=>have:=h.2 a (by simp);omega
 | N+1,out,h=>by
  have h1:Oz N (out.erase (N+1)):=⟨h.1.erase _,fun x hx=>by
   have:=(h.1.mem_erase_iff).1 hx
   have:=h.2 x this.2
   omega⟩
  have:=Nn N _ h1
  rw [List.length_erase]at this
  split at this <;> omega
theorem Wt (rec:Nat→List Nat→List Nat) (x:Nd) (k:Nat) (out:List Nat):OP rec x (k+1) out=if 1<x.lv∧0<x.kid k then rec (x.kid k).toNat (OP rec x k out)else OP rec x k out:=by
 simp [OP,Yu]
theorem M1 {rec:Nat→List Nat→List Nat} {x:Nd} {out:List Nat} (P:List Nat→Prop) (h0:P out) (hs:∀k o,k<4→1<x.lv→0<x.kid k→P o→P (rec (x.kid k).toNat o)):∀k,k≤4→P (OP rec x k out)
 | 0,_=>h0
 | k+1,h=>by
  rw [Wt]
  split
  ·rename_i hc;exact hs k _ (by omega) hc.1 hc.2 (M1 P h0 hs k (by omega))
  ·exact M1 P h0 hs k (by omega)
theorem BN {L:List Nd} {n:Nat} (h:n<L.length):Bb L ((n+1:Nat):Int)=L[n]:=El rfl h
theorem SE {L:List Nd} (hl:AP L=true):∀(v n:Nat) (out:List Nat),1≤n→n≤L.length→Oz L.length out→Oz L.length (Hi L v n out)∧(∀x∈out,x∈Hi L v n out)∧∀x∈Hi L v n out,x∈out∨x≤n
 | 0,n,out,h1,h2,ho=>⟨ho,fun x hx=>hx,fun x hx=>.inl hx⟩
 | v+1,n,out,h1,h2,ho=>by
  obtain ⟨m,rfl⟩:∃m,n=m+1:=⟨n-1,by omega⟩
  have hm:m<L.length:=by omega
  obtain ⟨l1,l2,l3⟩:=AO hl hm
  simp only [Hi]
  split
  ·exact ⟨ho,fun x hx=>hx,fun x hx=>.inl hx⟩
  ·rename_i hn
   rw [BN hm]
   have key:=M1 (rec:=Hi L v) (x:=L[m]) (out:=out) (fun o=>Oz L.length o∧(∀x∈out,x∈o)∧∀x∈o,x∈out∨x≤m) ⟨ho,fun x hx=>hx,fun x hx=>.inl hx⟩ (fun k o hk hlv hkid hP=>by
    obtain ⟨q1,q2,q3⟩:=l3 k hk
    have:=(q3 hlv hkid).1
    obtain ⟨r1,r2,r3⟩:=SE hl v (L[m].kid k).toNat o (by omega) (by omega) hP.1
    exact ⟨r1,fun x hx=>r2 x (hP.2.1 x hx),fun x hx=>by
     rcases r3 x hx with h | h
     ·exact hP.2.2 x h
     ·right;omega⟩) 4 (by omega)
   obtain ⟨⟨k1,k2⟩,k3,k4⟩:=key
   generalize OP (Hi L v) L[m] 4 out=o at k1 k2 k3 k4
   have hno:m+1 ∉ o:=fun h=>by
    rcases k4 _ h with h | h
    ·exact hn h
    ·omega
   refine ⟨⟨?_,?_⟩,?_,?_⟩
   ·rw [List.nodup_append]
    exact ⟨k1,by simp,fun a ha b hb e=>by simp at hb;subst hb;subst e;exact hno ha⟩
   ·intro x hx
    simp only [WX,WY]at hx
    rcases hx with hx | rfl
    ·exact k2 x hx
    ·omega
   ·intro x hx;simp [k3 x hx]
   ·intro x hx
    simp only [WX,WY]at hx
    rcases hx with hx | rfl
    ·rcases k4 x hx with h | h
     ·exact .inl h
     ·exact .inr (by omega)
    ·exact .inr (WF _)
theorem append_outN {B:Aa} {l:List Nat} {n:Nat} (h:l.length<17592186044415):AW FO 1 8 (EK cN B l) (.sl (enL cN [n]) .tight) (DW cN FO 1 B l)=some (EK cN B (l++[n]),DW cN FO 1 B (l++[n])):=
 FC (by simp) (by simp;omega) (by simp;omega)
theorem q05_end {L:List Nd} (tk:Tok) (B:Aa) (hL:L.length<17592186044415) (hl:AP L=true):∀(v n d:Nat) (out:List Nat),1≤n→n≤L.length→(Bb L n).lv=v→v≤d→Oz L.length out →
  Sh.fl d (.sl (enL cNd L) tk) (.int .i64 (n:Int)) (EK cN B out) (DW cN FO 1 B out)=some (.ret (EK cN B (Hi L v n out)),DW cN FO 1 B (Hi L v n out)):=by
 intro v
 induction v with
 | zero=>
  intro n d out h1 h2 hv hd ho
  exfalso
  obtain ⟨m,rfl⟩:∃m,n=m+1:=⟨n-1,by omega⟩
  rw [BN (by omega)]at hv
  have:=(AO hl (show m<L.length by omega)).1
  omega
 | succ v ih=>
  intro n d out h1 h2 hv hd ho
  obtain ⟨d,rfl⟩:∃e,d=e+1:=⟨d-1,by omega⟩
  obtain ⟨m,rfl⟩:∃m,n=m+1:=⟨n-1,by omega⟩
  have hm:m<L.length:=by omega
  obtain ⟨l1,l2,l3⟩:=AO hl hm
  have hln:=Nn _ _ ho
  rw [BN hm]at hv
  show Sh.f6i (Sh.fl d) _ _ _ _=_
  unfold Sh.f6i
  have key:=TT (G:=fun rec1 vs H1=>Sh.f5d (DW cN FO 1 B out) (Sh.fl d) rec1 (ag vs 0) (ag vs 1) (ag vs 2) (ag vs 3) H1) out.length (fun i=>decide (out.getD i 0=m+1))
   (fun i=>[.sl (enL cNd L) tk,.int .i64 ((m+1:Nat):Int),EK cN B out,.int .i64 (i:Int)]) (DW cN FO 1 B out) (some (.ret (EK cN B (OP (Hi L v) L[m] 4 out++[m+1])),DW cN FO 1 B (OP (Hi L v) L[m] 4 out++[m+1]))) (fun _=>some (.ret (EK cN B out),DW cN FO 1 B out)) (by omega) (fun rec i hi=>?_) (fun rec=>?_)
  ·refine key.trans ?_
   by_cases hmem:m+1∈out
   ·obtain ⟨i,hi,hx⟩:=Xp hmem
    have hf:∃j,(List.range out.length).find? (fun i=>decide (out.getD i 0=m+1))=some j:=by
     cases hq:(List.range out.length).find? (fun i=>decide (out.getD i 0=m+1))with
     | some j=>exact ⟨j,rfl⟩
     | none=>
      have:=Y3.1 hq i (by simpa using hi)
      simp [WH,WB hi,hx]at this
    obtain ⟨j,hj⟩:=hf
    rw [hj];simp only [Hi,if_pos hmem]
   ·have hf:(List.range out.length).find? (fun i=>decide (out.getD i 0=m+1))=none:=by
     rw [Y3]
     intro i hi
     have hi':i<out.length:=by simpa using hi
     rw [WH,WB hi']
     simp only [Option.getD_some,decide_eq_true_eq]
     intro e;exact hmem (e ▸ WP hi')
    rw [hf];simp only [Hi,if_neg hmem,BN hm]
  ·have hi':(i:Int)<(out.length:Int):=by omega
   have hd2:decide ((out[i]:Int)=((m+1:Nat):Int))=decide (out.getD i 0=m+1):=by
    rw [WH,WB hi,WW];simp;omega
   unfold Sh.f5d
   simp only [GMb,GMc,Ap,Ag,A7,WE,Nat.add_zero,WQ,BI,GD,Av,hi',Ax hi,List.getElem?_cons_zero,Aw (show i<9223372036854775807 by omega),hd2]
   cases decide (out.getD i 0=m+1) <;> simp only [GMb,GMc]
  ·unfold Sh.f5d
   rw [GD]
   simp only [GMb,GMc,Av,XA]
   rw [←GD]
   refine Cf (G:=fun rec2 vs H1=>Sh.f5c (DW cN FO 1 B out) (Sh.fl d) rec2 (ag vs 0) (ag vs 1) (ag vs 2) (ag vs 3) H1) 4 (fun k=>[.sl (enL cNd L) tk,.int .i64 ((m+1:Nat):Int),EK cN B (OP (Hi L v) L[m] k out),.int .i64 (k:Int)]) (fun k=>DW cN FO 1 B (OP (Hi L v) L[m] k out)) _ (by decide) (fun rec2 k hk=>?_) (fun rec2=>?_)
   ·have hk':(k:Int)<4:=by omega
    have hws:IntKind.i64.wrap ((k:Int)+1)=((k+1:Nat):Int):=Aw (by omega)
    have hwm:IntKind.i64.wrap (((m+1:Nat):Int)-1)=(m:Int):=by rw [Al] <;> omega
    obtain ⟨q1,q2,q3⟩:=l3 k hk
    have ho':Oz L.length (OP (Hi L v) L[m] k out):=M1 (fun o=>Oz L.length o) ho (fun k o hk hlv hkid hP=>by
     obtain ⟨q1,q2,q3⟩:=l3 k hk
     have:=(q3 hlv hkid).1
     exact (SE hl v (L[m].kid k).toNat o (by omega) (by omega) hP).1) k (by omega)
    unfold Sh.f5c
    rw [Wt]
    generalize OP (Hi L v) L[m] k out=o at ho'
    simp only [GMb,GMc,Ap,Ag,A7,WE,Nat.add_zero,WQ,BI,hk',hwm,Ax hm,Sh.f4f,hws]
    by_cases hlv:1<L[m].lv
    ·by_cases hkid:0<L[m].kid k
     ·obtain ⟨r1,r2⟩:=q3 hlv hkid
      obtain ⟨c,hc⟩:∃c:Nat,L[m].kid k=((c+1:Nat):Int):=⟨(L[m].kid k-1).toNat,by omega⟩
      have hcl:c<L.length:=by omega
      have hy:=r2 L[c] (by rw [show (L[m].kid k-1).toNat=c from by omega];exact WB hcl)
      have hi2:=ih (c+1) d o (by omega) (by omega) (by rw [BN hcl];omega) (by omega) ho'
      have hc0:((c+1:Nat):Int)>0:=by omega
      rw [if_pos ⟨hlv,hkid⟩]
      simp only [GMb,GMc,Ap,Ag,A7,WE,Nat.add_zero,WQ,BI,hlv,hwm,Ax hm,Ap,DJ hk,Dt hk,hc,hc0,hi2,gt_iff_lt,Int.toNat_natCast,Sh.f4f,hws]
     ·rw [if_neg (fun h=>hkid h.2)]
      simp only [GMb,GMc,Ap,Ag,A7,WE,Nat.add_zero,WQ,BI,hlv,hwm,Ax hm,Ap,DJ hk,Dt hk,hkid,gt_iff_lt,Sh.f4f,hws]
    ·rw [if_neg (fun h=>hlv h.1)]
     simp only [GMb,GMc,Ap,Ag,A7,WE,Nat.add_zero,WQ,BI,hlv,gt_iff_lt,Sh.f4f,hws]
   ·have hf:¬(((4:Nat):Int)<4):=by decide
    have ho':Oz L.length (OP (Hi L v) L[m] 4 out):=M1 (fun o=>Oz L.length o) ho (fun k o hk hlv hkid hP=>by
     obtain ⟨q1,q2,q3⟩:=l3 k hk
     have:=(q3 hlv hkid).1
     exact (SE hl v (L[m].kid k).toNat o (by omega) (by omega) hP).1) 4 (by omega)
    have hle:=Nn _ _ ho'
    unfold Sh.f5c
    simp only [GMb,GMc,hf,build_N,append_outN (show (OP (Hi L v) L[m] 4 out).length<17592186044415 by omega)]
def Cq (L:List Nd):List Ab:=[.sl (enL cNd L) .no]
def Gg (L:List Nd):Ab:=.agg (Cq L)
def BL (L:List Nd):Int:=(Bb L (L.length:Int)).lv
def T8 (L:List Nd):List Nat:=Hi L (BL L).toNat L.length []
def dupB (L:List Nd):Bool:=(List.range L.length).all fun i=>!((AC L).getD (i+1) true)&&(List.range i).all fun k=>decide (L.getD i ⟨0,0,0,0,0⟩≠L.getD k ⟨0,0,0,0,0⟩)
def orderB (L:List Nd):Bool:=(List.range (T8 L).length).all (fun i=>decide ((T8 L).getD i 0=i+1))&&decide ((T8 L).length=L.length)
def GC (L:List Nd):Bool:=
 decide (L=[])||(AP L && !(Ft L L.length)&&dupB L&&orderB L)
theorem boxQuad (L:List Nd) (tk:Tok) (H:Aa):B2 true 1 (.agg [.sl (enL cNd L) tk]) H=some (.ptr H.length 0 0,H++[.cel 0 [.sl (enL cNd L) tk]]):=BQ rfl rfl
theorem q05_right (L:List Nd) (tk:Tok) (H:Aa) (hL:L.length<17592186044415):Sh.f3i (.agg [.sl (enL cNd L) tk]) H=some (.ret (.bool (GC L)),H):=by
 unfold Sh.f3i
 simp only [GMb,GMc,Ap,Ag,A7,WE,Nat.add_zero,WQ,BI,boxQuad,IM,Ns,List.getElem?_cons_zero,Av]
 by_cases h0:L=[]
 ·subst h0;simp [GC]
 ·have hlen:L.length≠0:=fun h=>h0 (WU h)
  have h0':¬((L.length:Int)=0):=by omega
  have hq:GC L=(AP L && !(Ft L L.length)&&dupB L&&orderB L):=by simp [GC,h0]
  simp only [GMb,GMc,h0',q05_loose L tk _ (show L.length<1152921504606846976 by omega)]
  cases hl:AP L with
  | false=>simp [hq,hl]
  | true=>
   simp only [GMb,GMc,Av,q05_hollow L tk L.length _ (show L.length<140737488355327 by omega) hl (WF _)]
   cases hh:Ft L L.length with
   | true=>simp [hq,hh]
   | false=>
    simp only [GMb,GMc,Rs L tk _ (show L.length<140737488355327 by omega) hl]
    rw [hq,hl,hh]
    simp only [GMb,GMc]
    generalize hB:H++[.cel 0 [.sl (enL cNd L) tk]]=B
    have hfin:∀(v:Bool) (G:Aa),rP H (.bool v) (B++G)=some (.ret (.bool v),H):=fun v G=>by rw [←hB,WG];exact EI
    have hfin0:∀(v:Bool),rP H (.bool v) B=some (.ret (.bool v),H):=fun v=>by rw [←hB];exact EI
    have key:=Ew (G:=fun rec1 vs H1=>Sh.f5g H rec1 (ag vs 0) (ag vs 1) (ag vs 2) H1) L.length (fun i=>!((AC L).getD (i+1) true)&&(List.range i).all fun k=>decide (L.getD i ⟨0,0,0,0,0⟩≠L.getD k ⟨0,0,0,0,0⟩))
     (fun i=>[.sl (enL cNd L) tk,.sl (enL cB (AC L)) .no,.int .i64 (i:Int)]) B (some (.ret (.bool (orderB L)),H)) (some (.ret (.bool false),H)) (by omega) (fun rec i hi=>?_) (fun rec=>?_)
    ·refine key.trans ?_
     rw [show dupB L=(List.range L.length).all fun i=>!((AC L).getD (i+1) true)&&(List.range i).all fun k=>decide (L.getD i ⟨0,0,0,0,0⟩≠L.getD k ⟨0,0,0,0,0⟩) from rfl]
     cases (List.range L.length).all fun i=>!((AC L).getD (i+1) true)&&(List.range i).all fun k=>decide (L.getD i ⟨0,0,0,0,0⟩≠L.getD k ⟨0,0,0,0,0⟩) <;> simp only [GMb,GMc]
    ·have hi':(i:Int)<(L.length:Int):=by omega
     have hlt:i+1<(AC L).length:=by rw [E5];omega
     have hws:IntKind.i64.wrap ((i:Int)+1)=((i+1:Nat):Int):=Aw (by omega)
     have hgd:(AC L).getD (i+1) true=(AC L)[i+1]:=by rw [WH,WB hlt];rfl
     unfold Sh.f5g
     simp only [GMb,GMc,Ap,Ag,A7,WE,Nat.add_zero,WQ,BI,Av,hi',hws,Ax hlt,List.getElem?_cons_zero,hgd]
     cases (AC L)[i+1]with
     | true=>simp only [GMb,GMc,hfin0]
     | false=>
      simp only [GMb,GMc]
      refine Ew (G:=fun rec2 vs H1=>Sh.f5e H rec rec2 (ag vs 0) (ag vs 1) (ag vs 2) (ag vs 3) H1) i (fun k=>decide (L.getD i ⟨0,0,0,0,0⟩≠L.getD k ⟨0,0,0,0,0⟩))
       (fun k=>[.sl (enL cNd L) tk,.sl (enL cB (AC L)) .no,.int .i64 (i:Int),.int .i64 (k:Int)]) B _ _ (by omega) (fun rec2 k hk=>?_) (fun rec2=>?_)
      ·have hk':(k:Int)<(i:Int):=by omega
       have hkl:k<L.length:=by omega
       unfold Sh.f5e
       simp only [GMb,GMc,hk',Ax hi,Ax hkl,Nu,eq_nd,hfin0,Aw (show k<9223372036854775807 by omega)]
       simp only [WH,WB hi,WB hkl,Option.getD_some]
       by_cases he:L[i]=L[k]
       ·simp only [he,ne_eq,not_true_eq_false,GMb,GMc]
       ·simp only [he,ne_eq,not_false_eq_true,GMb,GMc]
      ·unfold Sh.f5e
       simp only [GMb,GMc,XA,hws]
    ·unfold Sh.f5g
     have hm:L.length-1<L.length:=by omega
     have hlm:L.length=L.length-1+1:=by omega
     have hlv:(Bb L (L.length:Int)).lv=((BL L).toNat:Int):=by
      have:=(AO hl hm).1
      unfold BL
      rw [hlm,BN hm];omega
     have hend:Sh.fl AM (.sl (enL cNd L) tk) (.int .i64 (L.length:Int)) (.sl [] .tight) B=some (.ret (EK cN B (Hi L (BL L).toNat L.length [])),DW cN FO 1 B (Hi L (BL L).toNat L.length [])):=q05_end tk B hL hl (BL L).toNat L.length AM [] (by omega) (WF _) hlv (by
      have:=(AO hl hm).2.1
      rw [Ey]
      unfold BL
      rw [hlm,BN hm];omega) ⟨by simp,by simp⟩
     have hok:=(SE hl (BL L).toNat L.length [] (by omega) (WF _) ⟨by simp,by simp⟩).1
     have hol:=Nn _ _ hok
     obtain ⟨G,hG⟩:=HZ (f:=cN) (ty:=FO) (sz:=1) B (Hi L (BL L).toNat L.length [])
     simp only [GMb,GMc,Av,XA,hend,hG,GD]
     have hsame:T8 L=Hi L (BL L).toNat L.length []:=rfl
     rw [←hsame]at hol ⊢
     unfold orderB
     generalize T8 L=o at hol ⊢
     have key:=Ew (G:=fun rec3 vs H1=>Sh.f5f H rec3 (ag vs 0) (ag vs 1) (ag vs 2) H1) o.length (fun i=>decide (o.getD i 0=i+1)) (fun i=>[.sl (enL cNd L) tk,.sl (enL cN o) (outK B o),.int .i64 (i:Int)]) (B++G) (some (.ret (.bool (decide (o.length=L.length))),H)) (some (.ret (.bool false),H)) (by omega) (fun rec i hi=>?_) (fun rec=>?_)
     ·refine key.trans ?_
      cases (List.range o.length).all (fun i=>decide (o.getD i 0=i+1)) <;> simp only [GMb,GMc]
     ·have hi':(i:Int)<(o.length:Int):=by omega
      unfold Sh.f5f
      simp only [GMb,GMc,Ap,Ag,A7,WE,Nat.add_zero,WQ,BI,Av,hi',Ax hi,List.getElem?_cons_zero,Aw (show i<9223372036854775807 by omega),hfin]
      simp only [WH,WB hi,Option.getD_some]
      by_cases he:o[i]=i+1
      ·have:(o[i]:Int)=((i+1:Nat):Int):=by omega
       simp only [decide_eq_true this,decide_eq_true he,GMb,GMc]
      ·have:¬(o[i]:Int)=((i+1:Nat):Int):=by omega
       simp only [decide_eq_false this,decide_eq_false he,GMb,GMc]
     ·have hd:decide ((o.length:Int)=(L.length:Int))=decide (o.length=L.length):=by rw [WW];simp;omega
      unfold Sh.f5f
      simp only [GMb,GMc,Av,XA,hfin,hd]
theorem VL (L:List Nd) (tk:Tok) (H:Aa) (hL:L.length<17592186044415):Sh.fy (.agg [.sl (enL cNd L) tk]) H=some (.ret (.int .i64 (if L=[]then 0 else BL L)),H):=by
 unfold Sh.fy
 simp only [GMb,GMc,Ap,Ag,A7,WE,Nat.add_zero,WQ,BI,boxQuad,IM,Ns,List.getElem?_cons_zero,Av]
 by_cases h0:L=[]
 ·subst h0;simp
 ·have hlen:L.length≠0:=fun h=>h0 (WU h)
  have h0':¬((L.length:Int)=0):=by omega
  have hm:L.length-1<L.length:=by omega
  have hw:IntKind.i64.wrap ((L.length:Int)-1)=((L.length-1:Nat):Int):=I6 (by omega) (by omega)
  have ht:BL L=L[L.length-1].lv:=by
   unfold BL
   rw [El (n:=L.length-1) (by omega) hm]
  simp only [h0,h0',GMb,GMc,Ap,Ag,A7,WE,Nat.add_zero,WQ,BI,hw,Ax hm,J3,ht]
abbrev nd0:Nd:=⟨0,0,0,0,0⟩
def Nd.setKid (x:Nd) (k:Nat) (c:Int):Nd:=match k with | 0=>{ x with k0:=c } | 1=>{ x with k1:=c } | 2=>{ x with k2:=c } | _=>{ x with k3:=c }
theorem setKid_same (x:Nd) {k:Nat} (c:Int) (h:k<4):(x.setKid k c).kid k=c:=by
 match k,h with
 | 0,_=>rfl
 | 1,_=>rfl
 | 2,_=>rfl
 | 3,_=>rfl
theorem J0 (x:Nd) {k j:Nat} (c:Int) (h:k<4) (hj:j<4) (hne:j≠k):(x.setKid k c).kid j=x.kid j:=by
 match k,j,h,hj with
 | 0,1,_,_=>rfl
 | 0,2,_,_=>rfl
 | 0,3,_,_=>rfl
 | 1,0,_,_=>rfl
 | 1,2,_,_=>rfl
 | 1,3,_,_=>rfl
 | 2,0,_,_=>rfl
 | 2,1,_,_=>rfl
 | 2,3,_,_=>rfl
 | 3,0,_,_=>rfl
 | 3,1,_,_=>rfl
 | 3,2,_,_=>rfl
 | 0,0,_,_=>exact absurd rfl hne
 | 1,1,_,_=>exact absurd rfl hne
 | 2,2,_,_=>exact absurd rfl hne
 | 3,3,_,_=>exact absurd rfl hne
section
variable {H:Aa} {p k:Nat} {x:Nd} {cs cs':List Ab}
theorem Pz (hg:H[p]? = some (.cel 0 (cNd x))):Ac true 5 (.ptr p 0 0) H=some (.agg (cNd x)):=by
 simp only [Ac,A5 hg,Option.bind_some,if_true];rfl
theorem load_lvP (hg:H[p]? = some (.cel 0 (cNd x))):Ac false 1 (.ptr p 0 0) H=some (.int .i64 x.lv):=by
 simp only [Ac,A5 hg,Option.bind_some,WL,if_false];rfl
theorem load_kidP (hg:H[p]? = some (.cel 0 (cNd x))) (h:k<4):Ac false 1 (.ptr p 0 (1+k)) H=some (.int .i64 (x.kid k)):=by
 simp only [Ac,A5 hg,Option.bind_some,WL,if_false];exact Dt h
theorem Ju {c:Int} (hg:H[p]? = some (.cel 0 (cNd x))) (h:k<4):Ah 1 (.ptr p 0 (1+k)) (.int .i64 c) H=some (H.set p (.cel 0 (cNd (x.setKid k c)))):=by
 simp only [Ah,A5 hg,Option.bind_some,acells_int,BT hg]
 match k,h with
 | 0,_=>rfl
 | 1,_=>rfl
 | 2,_=>rfl
 | 3,_=>rfl
theorem V7 (hg:H[p]? = some (.cel 0 cs)) (hl:cs.length=5):Ah 5 (.ptr p 0 0) (.agg (cNd x)) H=some (H.set p (.cel 0 (cNd x))):=by
 simp only [Ah,A5 hg,Option.bind_some,W9,BT hg,FP hl]
 rw [if_pos ⟨rfl,by omega⟩]
theorem P6 {K:IntKind} {id g o:Nat} (h:k<4):BZ 4 1 (.ptr id g o) (.int K (k:Int))=some (.ptr id g (o+k)):=by
 unfold BZ
 simp only []
 rw [if_pos ⟨by omega,by omega⟩];simp

end
theorem alloc_nd (H:Aa):A3 (some [.int .i64 0,.int .i64 0,.int .i64 0,.int .i64 0,.int .i64 0]) H=some (.ptr H.length 0 0,H++[.cel 0 (cNd nd0)]):=alloc_eq rfl
theorem PH (L:List Nd):(AC L).getD 0 true=true:=by
 have key:∀(l:List Nd) (E:List Bool),E[0]? = some true→(l.foldl (fun E x=>E++[PI E x]) E)[0]? = some true:=by
  intro l
  induction l with
  | nil=>intro E h;exact h
  | cons a l ih=>intro E h;exact ih _ (by rw [WD (by cases E with | nil=>simp at h | cons e E=>simp)];exact h)
 rw [WH,show (AC L)[0]? = some true from key L [true] rfl];rfl
def P5 (L:List Nd) (x:Nd) (k:Nat):Int:=if x.kid k=0 then 0 else (Bb L (x.kid k)).kid (3-k)
def IQ (L:List Nd) (n:Nat):Nd:=⟨(Bb L n).lv-1,P5 L (Bb L n) 0,P5 L (Bb L n) 1,P5 L (Bb L n) 2,P5 L (Bb L n) 3⟩
def Ek:Nat→List Nd→Nat→List Nd×Nat
 | 0,L,n=>(L,n)
 | f+1,L,n=>if Ft L n then Ek f (L++[IQ L n]) (L.length+1)else (L,n)
def F4 (L:List Nd) (n:Nat):List Nd×Nat:=
 if (AC L).getD n true then (L,0)else Ek (Bb L n).lv.toNat L n
theorem innNd_kid (L:List Nd) (n:Nat) {k:Nat} (h:k<4):(IQ L n).kid k=P5 L (Bb L n) k:=by
 match k,h with
 | 0,_=>rfl
 | 1,_=>rfl
 | 2,_=>rfl
 | 3,_=>rfl
theorem loose_snoc {L:List Nd} {x:Nd} (hl:AP L=true) (hx:FL (L++[x]) L.length=true):AP (L++[x])=true:=by
 unfold AP
 rw [Xb]
 intro i hi
 have hi':i<L.length+1:=by simpa using hi
 by_cases h:i=L.length
 ·rw [h];exact hx
 ·have hlt:i<L.length:=by omega
  have h1:=Xb.1 hl i (by simpa using hlt)
  simp only [FL,WD hlt,WB hlt,WO,Xb]at h1 ⊢
  refine ⟨h1.1,fun k hk=>?_⟩
  have h2:=h1.2 k hk
  simp only [CD,WO,decide_eq_true_eq]at h2 ⊢
  refine ⟨h2.1,fun q1 q2=>?_⟩
  obtain ⟨r1,r2⟩:=h2.2 q1 q2
  refine ⟨r1,fun y hy=>?_⟩
  rw [WD (by omega)]at hy
  exact r2 y hy
theorem loose_ndOk {L:List Nd} {x:Nd} (h1:1≤x.lv) (h2:x.lv≤1329) (h3:∀k,k<4→0≤x.kid k∧(x.lv=1→x.kid k≤255)∧(1<x.lv→0<x.kid k→x.kid k≤L.length∧(Bb L (x.kid k)).lv=x.lv-1)):FL (L++[x]) L.length=true:=by
 simp only [FL,Xe (WF _),Xn,List.getElem?_cons_zero,WO,decide_eq_true_eq,Xb]
 refine ⟨⟨h1,h2⟩,fun k hk=>?_⟩
 obtain ⟨q1,q2,q3⟩:=h3 k (by simpa using hk)
 simp only [CD,WO,decide_eq_true_eq]
 refine ⟨⟨q1,q2⟩,fun r1 r2=>?_⟩
 obtain ⟨s1,s2⟩:=q3 r1 r2
 refine ⟨s1,fun y hy=>?_⟩
 have hlt:(x.kid k-1).toNat<L.length:=by omega
 rw [WD hlt,WB hlt]at hy
 injection hy with hy
 rw [←hy,←s2,El (n:=(x.kid k-1).toNat) (by omega) hlt]
theorem We {L:List Nd} (hl:AP L=true) {n:Nat} (hn:n<L.length) (h2:2≤L[n].lv):AP (L++[IQ L (n+1)])=true:=by
 obtain ⟨l1,l2,l3⟩:=AO hl hn
 have e:Bb L ((n+1:Nat):Int)=L[n]:=BN hn
 have elv:(IQ L (n+1)).lv=L[n].lv-1:=by show (Bb L ((n+1:Nat):Int)).lv-1=_;rw [e]
 refine loose_snoc hl (loose_ndOk (by omega) (by omega) fun k hk=>?_)
 obtain ⟨q1,q2,q3⟩:=l3 k hk
 rw [innNd_kid L (n+1) hk,elv,e]
 unfold P5
 by_cases hc:L[n].kid k=0
 ·rw [if_pos hc];exact ⟨by omega,fun _=>by omega,fun _ h=>by omega⟩
 ·rw [if_neg hc]
  obtain ⟨m,hm⟩:∃m:Nat,L[n].kid k=((m+1:Nat):Int):=⟨(L[n].kid k-1).toNat,by omega⟩
  obtain ⟨r1,r2⟩:=q3 (by omega) (by omega)
  have hml:m<L.length:=by omega
  have hy:=r2 L[m] (by rw [show (L[n].kid k-1).toNat=m from by omega];exact WB hml)
  obtain ⟨y1,y2,y3⟩:=AO hl hml
  rw [El hm hml]
  obtain ⟨s1,s2,s3⟩:=y3 (3-k) (by omega)
  refine ⟨s1,fun h=>s2 (by omega),fun h h0=>?_⟩
  obtain ⟨t1,t2⟩:=s3 (by omega) h0
  refine ⟨by omega,?_⟩
  obtain ⟨c,hc'⟩:∃c:Nat,L[m].kid (3-k)=((c+1:Nat):Int):=⟨(L[m].kid (3-k)-1).toNat,by omega⟩
  have hcl:c<L.length:=by omega
  rw [El hc' hcl]
  have:=t2 L[c] (by rw [show (L[m].kid (3-k)-1).toNat=c from by omega];exact WB hcl)
  omega
theorem Wg {L:List Nd} {n:Nat} (h:Ft L n=true):n≠0∧2≤(Bb L n).lv:=by
 simp only [Ft,WO,decide_eq_true_eq]at h
 exact ⟨h.1.1,h.1.2⟩
theorem append_nd {H G:Aa} {l:List Nd} {x:Nd} (h:l.length<3518437208883):AW Bg 5 40 (.sl (enL cNd l) (.own H.length)) (.sl (enL cNd [x]) .tight) (H++.tok l.length Bg 5::G)=some (.sl (enL cNd (l++[x])) (.own H.length),H++.tok (l.length+1) Bg 5::G):=by
 have:=EC (f:=cNd) (l:=l) (m:=[x]) (ty:=Bg) (bytes:=40) (tk:=.tight) (H:=H++.tok l.length Bg 5::G) (t:=H.length) (by simp) (by simp) (by simp;omega) (by simp;omega)
 rw [this];simp
def setKs (f:Nat→Int) (x:Nd):Nat→Nd
 | 0=>x
 | k+1=>(setKs f x k).setKid k (f k)
theorem setKs_all (f:Nat→Int) (x:Nd):setKs f x 4=⟨x.lv,f 0,f 1,f 2,f 3⟩:=rfl
theorem build_lv (z:Int):AB (some [.int .i64 0,.int .i64 0,.int .i64 0,.int .i64 0,.int .i64 0]) [(0,1,.int .i64 z)]=some (.agg (cNd ⟨z,0,0,0,0⟩)):=by
 simp [AB,Gj,D9,cNd]
def CF (l:List Nd) (x:Nd):Nat:=match (List.range l.length).find? (fun i=>decide (l.getD i nd0=x))with | some i=>i+1 | none=>0
theorem Gx {l:List Nd} {x:Nd} {i:Nat}:CF l x=i+1↔l[i]? = some x∧∀j,j<i→l[j]? ≠ some x:=by
 unfold CF
 constructor
 ·intro h
  cases hf:(List.range l.length).find? (fun i=>decide (l.getD i nd0=x))with
  | none=>rw [hf]at h;dsimp only at h;omega
  | some k=>
   rw [hf]at h;dsimp only at h
   have hk:k=i:=by omega
   subst hk
   rw [Zd]at hf
   obtain ⟨h1,h2,h3⟩:=hf
   have hlt:k<l.length:=by simpa using h2
   simp only [decide_eq_true_eq,WH,WB hlt,Option.getD_some]at h1
   refine ⟨by rw [WB hlt,h1],fun j hj e=>?_⟩
   have:=h3 j hj
   simp only [WH,e,Option.getD_some,decide_true,X2]at this
   cases this
 ·rintro ⟨h1,h2⟩
  have hlt:i<l.length:=(WC.1 h1).1
  have hf:(List.range l.length).find? (fun i=>decide (l.getD i nd0=x))=some i:=by
   rw [Zd]
   refine ⟨by simp [WH,h1],by simpa using hlt,fun j hj=>?_⟩
   have hjl:j<l.length:=by omega
   have:=h2 j hj
   rw [WB hjl]at this
   simp only [WH,WB hjl,Option.getD_some,XB,decide_eq_false_iff_not]
   exact fun e=>this (by rw [e])
  rw [hf]
theorem JP {l:List Nd} {x:Nd}:CF l x=0↔x ∉ l:=by
 constructor
 ·intro h hx
  obtain ⟨i,hi,hxi⟩:=Xp hx
  unfold CF at h
  cases hf:(List.range l.length).find? (fun i=>decide (l.getD i nd0=x))with
  | none=>
   have:=Y3.1 hf i (by simpa using hi)
   simp [WH,WB hi,hxi]at this
  | some k=>rw [hf]at h;dsimp only at h;omega
 ·intro h
  cases hf:CF l x with
  | zero=>rfl
  | succ i=>
   rw [Gx]at hf
   exact absurd (Xj hf.1) h
theorem PB {l m:List Nd} {x:Nd} (h:CF l x≠0):CF (l++m) x=CF l x:=by
 cases hf:CF l x with
 | zero=>exact absurd hf h
 | succ i=>
  rw [Gx]at hf ⊢
  have hlt:i<l.length:=(WC.1 hf.1).1
  refine ⟨by rw [WD hlt];exact hf.1,fun j hj=>?_⟩
  rw [WD (by omega)];exact hf.2 j hj
theorem Wq {l:List Nd} {x:Nd} (h:CF l x=0):CF (l++[x]) x=l.length+1:=by
 rw [Gx]
 refine ⟨by simp,fun j hj e=>?_⟩
 rw [WD hj]at e
 exact JP.1 h (Xj e)
def ET (out:List Nd) (x:Nd):List Nd×Nat:=if CF out x=0 then (out++[x],out.length+1)else (out,CF out x)
def C1 (rec:Nat→List Nd→List Nd×Nat) (x:Nd):Nat→List Nd→List Nd×Nd
 | 0,out=>(out,x)
 | k+1,out=>((rec (x.kid k).toNat (C1 rec x k out).1).1,(C1 rec x k out).2.setKid k ((rec (x.kid k).toNat (C1 rec x k out).1).2:Int))
def B1 (L:List Nd) (E:List Bool):Nat→Nat→List Nd→List Nd×Nat
 | 0,_,out=>(out,0)
 | v+1,n,out=>
  if E.getD n true then (out,0)
  else if 1<(Bb L n).lv then ET (C1 (B1 L E v) (Bb L n) 4 out).1 (C1 (B1 L E v) (Bb L n) 4 out).2
  else ET out (Bb L n)
theorem putN_pos (out:List Nd) (x:Nd):0<(ET out x).2:=by
 unfold ET
 split
 ·simp
 ·dsimp only;omega
theorem Tw (out:List Nd) (x:Nd):∃r,(ET out x).1=out++r:=by
 unfold ET
 split
 ·exact ⟨_,rfl⟩
 ·exact ⟨[],by simp⟩
theorem Tx (out:List Nd) (x:Nd) (r:List Nd):ET ((ET out x).1++r) x=((ET out x).1++r,(ET out x).2):=by
 by_cases h:CF out x=0
 ·have h1:ET out x=(out++[x],out.length+1):=by simp [ET,h]
  rw [h1]
  have h2:CF (out++[x]++r) x=out.length+1:=by rw [PB (by rw [Wq h];omega),Wq h]
  dsimp only
  unfold ET
  rw [h2,if_neg (by omega)]
 ·have h1:ET out x=(out,CF out x):=by simp [ET,h]
  rw [h1]
  dsimp only
  unfold ET
  rw [PB h,if_neg h]
section
variable {L:List Nd} {E:List Bool}
theorem insK_pre {rec:Nat→List Nd→List Nd×Nat} (hr:∀n out,∃r,(rec n out).1=out++r) (x:Nd):∀k out,∃r,(C1 rec x k out).1=out++r
 | 0,out=>⟨[],by simp [C1]⟩
 | k+1,out=>by
  obtain ⟨r,h⟩:=insK_pre hr x k out
  obtain ⟨r',h'⟩:=hr (x.kid k).toNat (C1 rec x k out).1
  exact ⟨r++r',by simp only [C1];rw [h',h];simp⟩
theorem insF_pre:∀v n out,∃r,(B1 L E v n out).1=out++r
 | 0,n,out=>⟨[],by simp [B1]⟩
 | v+1,n,out=>by
  simp only [B1]
  split
  ·exact ⟨[],by simp⟩
  ·split
   ·obtain ⟨r,h⟩:=insK_pre (insF_pre v) (Bb L n) 4 out
    obtain ⟨r',h'⟩:=Tw (C1 (B1 L E v) (Bb L n) 4 out).1 (C1 (B1 L E v) (Bb L n) 4 out).2
    exact ⟨r++r',by rw [h',h];simp⟩
   ·exact Tw _ _
theorem OL:∀v n out r,B1 L E v n ((B1 L E v n out).1++r)=((B1 L E v n out).1++r,(B1 L E v n out).2)
 | 0,n,out,r=>by simp [B1]
 | v+1,n,out,r=>by
  by_cases he:E.getD n true=true
  ·simp only [B1,if_pos he]
  ·by_cases hl:1<(Bb L n).lv
   ·have e:∀o,B1 L E (v+1) n o=ET (C1 (B1 L E v) (Bb L n) 4 o).1 (C1 (B1 L E v) (Bb L n) 4 o).2:=fun o=>by simp only [B1,if_neg he,if_pos hl]
    have key:∀k,k≤4→∀s,C1 (B1 L E v) (Bb L n) k ((C1 (B1 L E v) (Bb L n) k out).1++s)=((C1 (B1 L E v) (Bb L n) k out).1++s,(C1 (B1 L E v) (Bb L n) k out).2):=by
     intro k
     induction k with
     | zero=>intro _ s;simp [C1]
     | succ k ih=>
      intro hk s
      simp only [C1]
      obtain ⟨r',h'⟩:=insF_pre (L:=L) (E:=E) v ((Bb L n).kid k).toNat (C1 (B1 L E v) (Bb L n) k out).1
      have hi:=ih (by omega) (r'++s)
      have ha:=OL v ((Bb L n).kid k).toNat (C1 (B1 L E v) (Bb L n) k out).1 s
      rw [h']at ha ⊢
      rw [WG,hi]
      rw [WG]at ha
      dsimp only
      rw [ha]
    obtain ⟨r',h'⟩:=Tw (C1 (B1 L E v) (Bb L n) 4 out).1 (C1 (B1 L E v) (Bb L n) 4 out).2
    have ha:=Tx (C1 (B1 L E v) (Bb L n) 4 out).1 (C1 (B1 L E v) (Bb L n) 4 out).2 r
    rw [e,e]
    rw [h']at ha ⊢
    rw [WG,key 4 (by omega)]
    dsimp only
    rw [WG]at ha
    exact ha
   ·have e:∀o,B1 L E (v+1) n o=ET o (Bb L n):=fun o=>by simp only [B1,if_neg he,if_neg hl]
    rw [e,e];exact Tx out (Bb L n) r

end
structure Ext (b id:Nat) (H H':Aa):Prop where
 len:H.length≤H'.length
 cel:∀(i:Nat) (cs:List Ab),i≠id→H[i]? = some (.cel 0 cs)→H'[i]? = some (.cel 0 cs)
 old:∀i,i<b→H'[i]? = H[i]?
theorem Ext.refl (b id:Nat) (H:Aa):Ext b id H H:=⟨WF _,fun _ _ _ h=>h,fun _ _=>rfl⟩
theorem Ext.trans {b id:Nat} {H H1 H2:Aa} (h:Ext b id H H1) (h':Ext b id H1 H2):Ext b id H H2:=
 ⟨Xh h.len h'.len,fun i cs hi hc=>h'.cel i cs hi (h.cel i cs hi hc),fun i hi=>(h'.old i hi).trans (h.old i hi)⟩
theorem get_snoc {H:Aa} {i:Nat} {x:Blk} (B:Blk) (h:H[i]? = some x):(H++[B])[i]? = some x:=by
 have:=(WC.1 h).1
 rw [WD this];exact h
theorem Ext.snoc {b id:Nat} {H:Aa} (hb:b≤H.length) (B:Blk):Ext b id H (H++[B]):=
 ⟨by simp,fun i cs _ h=>get_snoc B h,fun i hi=>by rw [WD (by omega)]⟩
theorem CB {H H0:Aa} (h:∀i,i<H0.length→H[i]? = H0[i]?):H.take H0.length=H0:=by
 apply XZ
 intro i
 by_cases hi:i<H0.length
 ·rw [X1 hi,h i hi]
 ·rw [WR (by simp;omega),WR (by omega)]
theorem Ti:∀(f:Nat) (L:List Nd) (n:Nat),AP L=true→n≤L.length→AP (Ek f L n).1=true∧(Ek f L n).2≤(Ek f L n).1.length∧(Ek f L n).1.length≤L.length+f
 | 0,L,n,hl,hn=>⟨hl,hn,WF _⟩
 | f+1,L,n,hl,hn=>by
  unfold Ek
  cases hh:Ft L n with
  | false=>exact ⟨hl,hn,by show L.length≤_;omega⟩
  | true=>
   obtain ⟨h0,h2⟩:=Wg hh
   obtain ⟨m,rfl⟩:∃m,n=m+1:=⟨n-1,by omega⟩
   rw [BN hn]at h2
   obtain ⟨r1,r2,r3⟩:=Ti f (L++[IQ L (m+1)]) (L.length+1) (We hl hn h2) (by simp)
   simp only [if_true]
   refine ⟨r1,r2,?_⟩
   simp at r3;omega
theorem emp_pos {L:List Nd} {n:Nat} (h:(AC L).getD n true=false):0<n:=by
 cases n with
 | zero=>rw [PH]at h;cases h
 | succ n=>omega
theorem TS {L:List Nd} (hl:AP L=true) {n:Nat} (h0:0<n) (hn:n≤L.length):(Bb L (n:Int)).lv.toNat≤1329:=by
 obtain ⟨m,rfl⟩:∃m,n=m+1:=⟨n-1,by omega⟩
 rw [BN hn]
 have:=(AO hl hn).2.1;omega
theorem shrink_ok {L:List Nd} {n:Nat} (hl:AP L=true) (hn:n≤L.length):AP (F4 L n).1=true∧(F4 L n).2≤(F4 L n).1.length∧(F4 L n).1.length≤L.length+1329:=by
 unfold F4
 cases he:(AC L).getD n true with
 | true=>exact ⟨hl,Xd _,by show L.length≤_;omega⟩
 | false=>
  obtain ⟨r1,r2,r3⟩:=Ti (Bb L n).lv.toNat L n hl hn
  have:=TS hl (emp_pos he) hn
  simp only [WL,if_false]
  exact ⟨r1,r2,by omega⟩
def canonL (L:List Nd) (n:Nat):List Nd:=(B1 (F4 L n).1 (AC (F4 L n).1) (Bb (F4 L n).1 ((F4 L n).2:Int)).lv.toNat (F4 L n).2 []).1
def ofOk (L:List Nd) (n:Int):Bool:=AP L&&decide (0≤n)&&decide (n≤L.length)
theorem q01_cut (l:List Bool) (tk:Tok) (H:Aa) (hb:l.length<1152921504606846976):Sh.fw (.sl (enL cB l) tk) H=some (.ret (.sl (enL cB (CU l)) .no),H):=by
 unfold Sh.fw
 refine Bl (σ:=List Bool×Tok) (fun s=>s.1.length<1152921504606846976) (fun s=>[.sl (enL cB s.1) s.2]) (fun _=>H) (fun s=>s.1.length) (fun s=>some (.ret (.sl (enL cB (CU s.1)) .no),H)) (fun s rec hs hrec=>?_) (l,tk) hb hb
 obtain ⟨l,tk⟩:=s
 simp only at hs hrec ⊢
 unfold Sh.f5h
 rcases F3 l with rfl | ⟨l',b,rfl⟩
 ·simp [cutL_nil]
 ·simp only [WJ,List.length_singleton]at hs hrec
  have h1:l'.length<(l'++[b]).length:=by simp
  have h2:((((l'++[b]).length:Nat):Int)>0):=by simp
  have h3:IntKind.i64.wrap ((((l'++[b]).length:Nat):Int)-1)=(l'.length:Int):=by rw [Al] <;> simp <;> omega
  simp only [Aj,Av,Option.bind_some,Dh,h2,decide_true,Ih,DQ,h3,Ax h1,A7,List.getElem?_cons_zero,Ip,Cg,XC (WF _),Xn,List.getElem_cons_zero]
  cases b with
  | true=>simp [QZ]
  | false=>
   have:=hrec (l',Ff tk 0 l'.length (l'++[false]).length false) (by dsimp only;omega) (by simp)
   simp only [XL,AN,slice_to (Y8 h1),Option.bind_some,List.take_left',this,OQ]
theorem q01_at (l:List Bool) (tk:Tok) (i:Int) (H:Aa):Sh.f4 (.sl (enL cB l) tk) (.int .i64 i) H=some (.ret (.bool (decide (0≤i)&&l.getD i.toNat false)),H):=by
 unfold Sh.f4
 by_cases h0:0≤i
 ·obtain ⟨n,rfl⟩:=X9 h0
  by_cases h1:n<l.length
  ·have h2:(n:Int)<(l.length:Int):=by omega
   simp [h2,Ax h1,WH,WB h1]
  ·have h2:¬(n:Int)<(l.length:Int):=by omega
   simp [h2,WH,WR (Nat.le_of_not_lt h1)]
 ·simp [h0]
theorem GJ (l:List Nat) (tk:Tok) (H:Aa) (hl:l.length≤2199023255552) (hx:Lim l):Sh.f2 (.sl (enL cU l) tk) H=some (.ret (.sl (enL cB (CU (AL l))) .no),H):=by
 unfold Sh.f2
 refine Cf l.length (fun i=>[.sl (enL cU l) tk,EK cB H (AL (l.take i)),.int .i64 (i:Int)]) (fun i=>DW cB BE 1 H (AL (l.take i))) _ (by omega) (fun rec i hi=>?_) (fun rec=>?_)
 ·have hi':(i:Int)<(l.length:Int):=by omega
  have hxi:l[i]<4294967296:=hx _ (WP hi)
  have htk:AL (l.take (i+1))=AL (l.take i)++CV 32 l[i]:=by
   rw [WM hi,AL,Ya];simp [AL]
  have hlen:(AL (l.take i)).length≤32*2199023255552:=by rw [BP];simp;omega
  unfold Sh.f4g
  simp only [Aj,AS,AY,Av,Option.bind_some,Bf,hi',decide_true,AN,Ax hi,A7,List.getElem?_cons_zero,htk]
  generalize AL (l.take i)=o at hlen
  generalize l[i]=x at hxi
  refine Bl (σ:=Nat×Nat×List Bool) (fun s=>s.1≤32∧s.2.1<4294967296∧s.2.2.length≤o.length+s.1) (fun s=>[.sl (enL cU l) tk,EK cB H s.2.2,.int .i64 (i:Int),.int .u32 (s.2.1:Int),.int .i64 (s.1:Int)]) (fun s=>DW cB BE 1 H s.2.2) (fun s=>32-s.1)
   (fun s=>rec [.sl (enL cU l) tk,EK cB H (s.2.2++CV (32-s.1) s.2.1),.int .i64 ((i+1:Nat):Int)] (DW cB BE 1 H (s.2.2++CV (32-s.1) s.2.1))) (fun s rec2 hs hrec=>?_) (0,x,o) ⟨by dsimp only;omega,hxi,by dsimp only;omega⟩ (by dsimp only;omega)
  obtain ⟨k,y,p⟩:=s
  obtain ⟨hk,hy,hp⟩:=hs
  simp only at hk hy hp hrec ⊢
  unfold Sh.f6j
  by_cases h:k<32
  ·have h':(k:Int)<32:=by omega
   have e1:(y:Int).tmod 2=((y%2:Nat):Int):=rfl
   have e2:IntKind.u32.wrap ((y:Int).tdiv 2)=((y / 2:Nat):Int):=by rw [show (y:Int).tdiv 2=((y / 2:Nat):Int) from rfl,CJ] <;> omega
   have e3:(((y%2:Nat):Int) == 1)=(y%2 == 1):=by rw [WW];simp only [beq_iff_eq];omega
   have e4:IntKind.i64.wrap ((k:Int)+1)=((k+1:Nat):Int):=by rw [Al] <;> omega
   have:=hrec (k+1,y / 2,p++[y%2 == 1]) ⟨h,by dsimp only;omega,by simp;omega⟩ (by dsimp only;omega)
   simp only [Aj,AS,AY,Bo,B6,Bf,h',decide_true,Option.bind_some,AN,In (show (2:Int)≠0 by decide),SL (show (2:Int)≠0 by decide),e1,e2,DR,e3,SK]
   rw [FC (by simp) (by simp;omega) (by simp;omega)]
   simp only [CL,Cs,BX,Option.bind_some,e4,this]
   rw [show 32-k=(32-(k+1))+1 from by omega,CV];simp
  ·have:k=32:=by omega
   subst this
   have e4:IntKind.i64.wrap ((i:Int)+1)=((i+1:Nat):Int):=by rw [Al] <;> omega
   simp [CV,e4]
 ·unfold Sh.f4g
  obtain ⟨G,hG⟩:=HZ (f:=cB) (ty:=BE) (sz:=1) H (AL l)
  rw [WN (WF _)]
  simp only [Aj,AS,AY,GD,hG,Av,Option.bind_some,Bf,XA,decide_false,AI,q01_cut (AL l) _ _ (by rw [BP];omega),Cs,Ct,Fu,Option.map_some]
theorem Tu (l:List Bool) (tk:Tok) (H:Aa) (hl:l.length≤70368744177664):Sh.fc (.sl (enL cB l) tk) H=some (.ret (.sl (enL cU (A0 (Be l))) .no),H):=by
 unfold Sh.fc
 have hcl:=Hl l
 rw [q01_cut l tk H (by omega),←limbsOf_eq,JK]
 simp only [Cs]
 generalize CU l=c at hcl
 obtain ⟨n,hn⟩:∃n,n=(c.length+31) / 32:=⟨_,rfl⟩
 rw [←hn]
 refine Cf n (fun q=>[.sl (enL cB c) .no,EK cU H (DI c q),.int .i64 ((32*q:Nat):Int)]) (fun q=>DW cU BG 1 H (DI c q)) _ (by omega) (fun rec q hq=>?_) (fun rec=>?_)
 ·have hq':((32*q:Nat):Int)<(c.length:Int):=by omega
  unfold Sh.f5i
  simp only [Aj,AS,AY,Av,Option.bind_some,Bf,hq',decide_true,AN]
  have hlo:(DI c q).length=q:=Mt c q
  rw [JJ]
  generalize DI c q=o at hlo
  refine Bl (σ:=Nat) (fun j=>j≤min 32 (c.length-32*q)) (fun j=>[.sl (enL cB c) .no,EK cU H o,.int .i64 ((32*q:Nat):Int),.int .u32 ((Be ((c.drop (32*q)).take j):Nat):Int),.int .u32 (IntKind.u32.wrap ((2:Int)^j)),.int .i64 ((32*q+j:Nat):Int)]) (fun _=>DW cU BG 1 H o) (fun j=>32-j)
   (fun _=>rec [.sl (enL cB c) .no,EK cU H (o++[FS c q]),.int .i64 ((32*(q+1):Nat):Int)] (DW cU BG 1 H (o++[FS c q]))) (fun j rec2 hj hrec=>?_) 0 (by omega) (by omega)
  unfold Sh.f6x
  have hw:IntKind.i64.wrap (((32*q:Nat):Int)+32)=((32*(q+1):Nat):Int):=by rw [Al] <;> omega
  by_cases h:j<min 32 (c.length-32*q)
  ·have h1:((32*q+j:Nat):Int)<(c.length:Int):=by omega
   have h1':32*q+j<c.length:=by omega
   have h2:((32*q+j:Nat):Int)<((32*(q+1):Nat):Int):=by omega
   have hw2:IntKind.i64.wrap (((32*q+j:Nat):Int)+1)=((32*q+(j+1):Nat):Int):=by rw [Al] <;> omega
   have htake:(c.drop (32*q)).take (j+1)=(c.drop (32*q)).take j++[c[32*q+j]]:=by
    rw [WM (by simp;omega)];simp
   have hlen:((c.drop (32*q)).take j).length=j:=by simp;omega
   have hnat:Be ((c.drop (32*q)).take (j+1))=Be ((c.drop (32*q)).take j)+(if c[32*q+j]then 2^j else 0):=by
    rw [htake,CY,hlen];simp only [Be];split <;> simp
   have hlt1:=JF ((c.drop (32*q)).take j)
   rw [hlen]at hlt1
   have hp:(2:Nat)^j*2≤2^32:=by rw [←Nat.pow_succ];exact Xm (by omega) (by omega)
   have hpw:IntKind.u32.wrap ((2:Int)^j)=((2^j:Nat):Int):=by
    rw [show ((2:Int)^j)=((2^j:Nat):Int) from by simp,CJ] <;> omega
   have hadd:IntKind.u32.wrap (((Be ((c.drop (32*q)).take j):Nat):Int)+((2^j:Nat):Int))=((Be ((c.drop (32*q)).take j)+2^j:Nat):Int):=by rw [CJ] <;> omega
   have hmul:IntKind.u32.wrap (((2^j:Nat):Int)*2)=IntKind.u32.wrap ((2:Int)^(j+1)):=by rw [Zi];simp
   have:=hrec (j+1) (by omega) (by omega)
   rw [hnat]at this
   simp only [Aj,AS,AY,Bo,B6,Di,Av,Option.bind_some,Bf,h1,decide_true,Ih,BX,hw,h2,Cg,AN,AJ,Ax h1',A7,List.getElem?_cons_zero,hpw]
   cases hb:c[32*q+j]with
   | true=>
    rw [hb]at this
    simp only [AN,BX,hadd,Option.bind_some,Aj,AS,AY,Bo,B6,Di,Sh.f6k,Io,hmul,hw2]
    simpa using this
   | false=>
    rw [hb]at this
    simp only [AI,Aj,AS,AY,Bo,B6,Di,Sh.f6k,Io,BX,hmul,hw2,Option.bind_some]
    simpa using this
  ·have hj':j=min 32 (c.length-32*q):=by omega
   have hx:Be ((c.drop (32*q)).take j)=FS c q:=by
    unfold FS
    by_cases h:j=32
    ·rw [h]
    ·rw [WN (by simp;omega),WN (by simp;omega)]
   have tail:((AQ 1 [.int .u32 ((FS c q:Nat):Int)]).bind fun x40=>bP H (Cb (AW BG 1 4 (EK cU H o) x40 (DW cU BG 1 H o))) fun x41 H42=>(Ae .none .add (.int .i64 ((32*q:Nat):Int)) (.int .i64 32)).bind fun x43=>rec [.sl (enL cB c) .no,x41,x43] H42)
     = rec [.sl (enL cB c) .no,EK cU H (o++[FS c q]),.int .i64 ((32*(q+1):Nat):Int)] (DW cU BG 1 H (o++[FS c q])):=by
    rw [build_U]
    simp only [Option.bind_some]
    rw [FC (by simp) (by simp;omega) (by simp;omega)]
    simp only [CL,Cs,BX,Option.bind_some,hw]
   rw [hx]
   by_cases h1:((32*q+j:Nat):Int)<(c.length:Int)
   ·have h2:¬((32*q+j:Nat):Int)<((32*(q+1):Nat):Int):=by omega
    simp only [Aj,AS,AY,Bo,B6,Di,Av,Option.bind_some,Bf,h1,decide_true,Ih,BX,hw,h2,decide_false,Cg,AI]
    simpa only [BX,hw,Option.bind_some]using tail
   ·simp only [Aj,AS,AY,Bo,B6,Di,Av,Option.bind_some,Bf,h1,decide_false,R5,BW,AI]
    exact tail
 ·have hq':¬((32*n:Nat):Int)<(c.length:Int):=by omega
  obtain ⟨G,hG⟩:=HZ (f:=cU) (ty:=BG) (sz:=1) H (DI c n)
  unfold Sh.f5i
  simp only [Aj,AS,AY,GD,hG,Av,Option.bind_some,Bf,hq',decide_false,AI,Ct,Fu,Option.map_some]
theorem q01_norm (l:List Nat) (tk:Tok) (H:Aa) (hl:l.length≤1099511627776) (hx:Lim l):Sh.fr (.sl (enL cU l) tk) H=some (.ret (.sl (enL cU (A0 (val l))) .no),H):=by
 have hc:=Hl (AL l)
 rw [BP]at hc
 unfold Sh.fr
 rw [GJ l tk H (by omega) hx]
 simp only [EA]
 rw [Tu _ _ _ (by omega)]
 simp only [EA,DE,Wn,DZ,Es l hx]
theorem q01_right (l:List Nat) (tk:Tok) (H:Aa) (hl:l.length≤1099511627776):Sh.f3x (.sl (enL cU l) tk) H=some (.ret (.bool (F5 l)),H):=by
 unfold Sh.f3x
 rcases F3 l with rfl | ⟨l',x,rfl⟩
 ·simp [F5]
 ·simp only [WJ,List.length_singleton]at hl
  have h1:l'.length<(l'++[x]).length:=by simp
  have h3:IntKind.i64.wrap ((((l'++[x]).length:Nat):Int)-1)=(l'.length:Int):=by rw [Al] <;> simp <;> omega
  have hne:((((l'++[x]).length:Nat):Int) == 0)=false:=by simp;omega
  have hb:((x:Int) != 0)=(x != 0):=by rw [WW];simp
  simp only [Av,Option.bind_some,DR,hne,Mx,DQ,h3,Ax h1,A7,List.getElem?_cons_zero,XC (WF _),Xn,List.getElem_cons_zero,Hn,BW,Pk,hb]
  simp [F5]
theorem q01_cmp (a b:List Nat) (ta tb:Tok) (H:Aa) (ha:a.length≤1099511627776) (hb:b.length≤1099511627776) (la:Lim a) (lb:Lim b) :
  Sh.f3n (.sl (enL cU a) ta) (.sl (enL cU b) tb) H=some (.ret (.int .i64 (cmpI (val a) (val b))),H):=by
 have c1:=Hl (AL a)
 have c2:=Hl (AL b)
 rw [BP]at c1 c2
 unfold Sh.f3n
 rw [GJ a ta H (by omega) la]
 simp only [EA,GJ b tb H (by omega) lb,Av,Option.bind_some,max_int]
 have hx:Be (CU (AL a))=val a:=by rw [DZ,Es a la]
 have hy:Be (CU (AL b))=val b:=by rw [DZ,Es b lb]
 rw [←hx,←hy]
 generalize CU (AL a)=x at c1 ⊢
 generalize CU (AL b)=y at c2 ⊢
 have hw:IntKind.i64.wrap (max (x.length:Int) (y.length:Int)-1)=((max x.length y.length:Nat):Int)-1:=by rw [Al] <;> omega
 simp only [DQ,hw,Option.bind_some]
 have z:∀(c:List Bool) (m:Nat),c.length≤m→Be c / 2^m=0:=fun c m h=>XX (X5 (JF c) (Xm (by omega) h))
 refine Bl (σ:=Nat) (fun i=>i<9223372036854775807∧(Be x) / 2^i=(Be y) / 2^i) (fun i=>[.sl (enL cB x) .no,.sl (enL cB y) .no,.int .i64 ((i:Int)-1)]) (fun _=>H) (fun i=>i) (fun _=>some (.ret (.int .i64 (cmpI (Be x) (Be y))),H)) (fun i rec hi hrec=>?_) (max x.length y.length) ⟨by omega,by rw [z _ _ (by omega),z _ _ (by omega)]⟩ (by omega)
 obtain ⟨hi,he⟩:=hi
 unfold Sh.f72
 cases i with
 | zero=>
  have e:Be x=Be y:=by simpa using he
  simp [e,cmpI]
 | succ i=>
  have hi0:(((i+1:Nat):Int)-1)=(i:Int):=by omega
  have hge:(i:Int)≥0:=by omega
  have hw:IntKind.i64.wrap ((i:Int)-1)=(i:Int)-1:=by rw [Al] <;> omega
  have ax:∀(c:List Bool) (H:Aa),Sh.f4 (.sl (enL cB c) .no) (.int .i64 (i:Int)) H=some (.ret (.bool ((Be c).testBit i)),H):=fun c H=>by rw [q01_at,Int.toNat_natCast,nat1_bit];simp
  have tb:∀m:Nat,m.testBit i=decide (m / 2^i%2=1):=fun m=>Yk
  have hs:∀m:Nat,m / 2^(i+1)=m / 2^i / 2:=fun m=>by rw [Nat.pow_succ,Nat.div_div_eq_div_mul]
  rw [hs,hs]at he
  have mono:∀p q:Nat,p≤q→p / 2^i≤q / 2^i:=fun p q h=>Nat.div_le_div_right h
  simp only [Aj,AS,AY,hi0,Kv,hge,decide_true,Option.bind_some,AN,ax,EA,bne_bool]
  by_cases heq:(Be x) / 2^i=(Be y) / 2^i
  ·have hbit:(Be x).testBit i=(Be y).testBit i:=by rw [tb,tb,heq]
   simp only [hbit,bne_self_eq_false,AI,DQ,hw,Option.bind_some]
   exact hrec i ⟨by omega,heq⟩ (by omega)
  ·have m1:=mono (Be x) (Be y)
   have m2:=mono (Be y) (Be x)
   rcases YS (Be x / 2^i)with h1 | h1 <;> rcases YS (Be y / 2^i)with h2 | h2
   ·omega
   ·have hlt:Be x<Be y:=by
     rcases Xs (Be x) (Be y)with h | h
     ·exact h
     ·have:=m2 h;omega
    simp [tb,h1,h2,cmpI,hlt]
   ·have hlt:Be y<Be x:=by
     rcases Xs (Be y) (Be x)with h | h
     ·exact h
     ·have:=m1 h;omega
    have hn:¬Be x<Be y:=by omega
    simp [tb,h1,h2,cmpI,hlt,hn]
   ·omega
theorem Pw (m:List Bool) (i:Nat):Be m%2^(i+1)=Be m%2^i+2^i*bn (m.getD i false):=by
 rw [nat1_bit,Yk,Nat.pow_succ,Nat.mod_mul]
 congr 2
 rcases YS (Be m / 2^i)with h | h <;> simp [h,bn]
theorem q01_add (a b:List Nat) (ta tb:Tok) (H:Aa) (ha:a.length≤1099511627776) (hb:b.length≤1099511627776) (la:Lim a) (lb:Lim b) :
  Sh.f3m (.sl (enL cU a) ta) (.sl (enL cU b) tb) H=some (.ret (.sl (enL cU (A0 (val a+val b))) .no),H):=by
 have c1:=Hl (AL a)
 have c2:=Hl (AL b)
 rw [BP]at c1 c2
 unfold Sh.f3m
 have hx:Be (CU (AL a))=val a:=by rw [DZ,Es a la]
 have hy:Be (CU (AL b))=val b:=by rw [DZ,Es b lb]
 simp only [GJ a ta H (by omega) la,Cs,GJ b tb H (by omega) lb]
 rw [←hx,←hy]
 generalize CU (AL a)=x at c1 ⊢
 generalize CU (AL b)=y at c2 ⊢
 refine Bl (σ:=List Bool×Bool) (fun s=>s.1.length≤max x.length y.length+1∧Be s.1+2^s.1.length*bn s.2=Be x%2^s.1.length+Be y%2^s.1.length) (fun s=>[.sl (enL cB x) .no,.sl (enL cB y) .no,EK cB H s.1,.bool s.2,.int .i64 (s.1.length:Int)]) (fun s=>DW cB BE 1 H s.1) (fun s=>max x.length y.length+1-s.1.length)
  (fun _=>some (.ret (.sl (enL cU (A0 (Be x+Be y))) .no),H)) (fun s rec hs hrec=>?_) ([],false) ⟨by simp,by simp [Be,bn,Nat.mod_one]⟩ (by simp;omega)
 obtain ⟨o,c⟩:=s
 obtain ⟨ho,he⟩:=hs
 simp only at ho he hrec ⊢
 unfold Sh.f71
 simp only [Aj,AS,AY,Bo,B6,Av,Option.bind_some,max_int,Ku]
 by_cases h:o.length≤max x.length y.length
 ·have h':((o.length:Int)≤max (x.length:Int) (y.length:Int)):=by omega
  have hw:IntKind.i64.wrap ((o.length:Int)+1)=((o.length+1:Nat):Int):=by rw [Al] <;> omega
  have ax:∀(m:List Bool) (H:Aa),Sh.f4 (.sl (enL cB m) .no) (.int .i64 (o.length:Int)) H=some (.ret (.bool (m.getD o.length false)),H):=fun m H=>by rw [q01_at,Int.toNat_natCast];simp
  have app:∀s:Bool,AW BE 1 1 (EK cB H o) (.sl (enL cB [s]) .tight) (DW cB BE 1 H o)=some (EK cB H (o++[s]),DW cB BE 1 H (o++[s])):=fun s=>FC (by simp) (by simp;omega) (by simp;omega)
  have w1:IntKind.i64.wrap (0+1)=1:=by decide
  have w2:IntKind.i64.wrap (1+1)=2:=by decide
  have w3:IntKind.i64.wrap (2+1)=3:=by decide
  have fin:rec [.sl (enL cB x) .no,.sl (enL cB y) .no,EK cB H (o++[(bn (x.getD o.length false)+bn (y.getD o.length false)+bn c)%2 == 1]),.bool (decide (1<bn (x.getD o.length false)+bn (y.getD o.length false)+bn c)),.int .i64 ((o.length+1:Nat):Int)] (DW cB BE 1 H (o++[(bn (x.getD o.length false)+bn (y.getD o.length false)+bn c)%2 == 1]))=some (.ret (.sl (enL cU (A0 (Be x+Be y))) .no),H):=by
   have:=hrec (o++[(bn (x.getD o.length false)+bn (y.getD o.length false)+bn c)%2 == 1],decide (1<bn (x.getD o.length false)+bn (y.getD o.length false)+bn c)) ⟨by simp;omega,?_⟩ (by simp;omega)
   ·simpa using this
   ·simp only [WJ,List.length_singleton]
    rw [Pw x,Pw y,CY,Nat.pow_succ]
    generalize x.getD o.length false=p
    generalize y.getD o.length false=q
    generalize 2^o.length=z at he ⊢
    cases p <;> cases q <;> cases c <;> simp [bn,Be]at he ⊢ <;> omega
  simp only [h',decide_true,AN,AJ,ax,Cs]
  revert fin
  generalize x.getD o.length false=p
  simp only [Sh.f70,AJ,Aj,AS,AY,Bo,B6,Di,ax,Cs]
  generalize y.getD o.length false=q
  intro fin
  rw [←fin]
  cases p <;> cases q <;> cases c <;>
   simp only [AN,AI,BX,w1,w2,w3,Option.bind_some,Aj,AS,AY,Bo,B6,Di,Sh.f6z,Sh.f6y,AJ,In (show (2:Int)≠0 by decide),DR,SK,Dh,app,CL,Cs,hw,bn] <;> rfl
 ·have h':¬((o.length:Int)≤max (x.length:Int) (y.length:Int)):=by omega
  obtain ⟨G,hG⟩:=HZ (f:=cB) (ty:=BE) (sz:=1) H o
  have bx:=JF x
  have by':=JF y
  have px:2^x.length*2≤2^o.length:=by rw [←Nat.pow_succ];exact Xm (by omega) (by omega)
  have py:2^y.length*2≤2^o.length:=by rw [←Nat.pow_succ];exact Xm (by omega) (by omega)
  rw [X3 (by omega),X3 (by omega)]at he
  have hc:c=false:=by
   cases c with
   | false=>rfl
   | true=>exfalso;simp only [bn,if_true,WQ]at he;omega
  subst hc
  have hsum:Be o=Be x+Be y:=by simpa [bn]using he
  simp only [h',decide_false,AI,GD,hG,Tu o _ _ (by omega),Cs,Ct,Fu,Option.map_some,hsum]
theorem q01_sub (a b:List Nat) (ta tb:Tok) (H:Aa) (ha:a.length≤1099511627776) (hb:b.length≤1099511627776) (la:Lim a) (lb:Lim b) :
  Sh.f1y (.sl (enL cU a) ta) (.sl (enL cU b) tb) H=some (.ret (.tup [.sl (enL cU (if val b≤val a then A0 (val a-val b)else [])) .no,.bool (decide (val b≤val a))]),H):=by
 have c1:=Hl (AL a)
 rw [BP]at c1
 unfold Sh.f1y
 simp only [q01_cmp a b ta tb H ha hb la lb,Cs,Bf,Option.bind_some]
 by_cases hv:val b≤val a
 ·have hc:¬(cmpI (val a) (val b)<0):=by unfold cmpI;split <;> (try split) <;> omega
  have hx:Be (CU (AL a))=val a:=by rw [DZ,Es a la]
  have hy:Be (CU (AL b))=val b:=by rw [DZ,Es b lb]
  simp only [hc,decide_false,AI,GJ a ta H (by omega) la,GJ b tb H (by omega) lb,Cs,hv,if_true,decide_true]
  rw [←hx,←hy]at hv ⊢
  generalize CU (AL a)=x at c1 hv ⊢
  generalize CU (AL b)=y at hv ⊢
  refine Bl (σ:=List Bool×Bool) (fun s=>s.1.length≤x.length∧Be s.1+Be y%2^s.1.length=Be x%2^s.1.length+2^s.1.length*bn s.2) (fun s=>[.sl (enL cB x) .no,.sl (enL cB y) .no,EK cB H s.1,.int .i64 (if s.2 then 1 else 0),.int .i64 (s.1.length:Int)]) (fun s=>DW cB BE 1 H s.1) (fun s=>x.length-s.1.length)
   (fun _=>some (.ret (.tup [.sl (enL cU (A0 (Be x-Be y))) .no,.bool true]),H)) (fun s rec hs hrec=>?_) ([],false) ⟨by simp,by simp [Be,bn,Nat.mod_one]⟩ (by simp;omega)
  obtain ⟨o,c⟩:=s
  obtain ⟨ho,he⟩:=hs
  simp only at ho he hrec ⊢
  unfold Sh.f76
  simp only [Aj,AS,AY,Bo,B6,Av,Option.bind_some,Bf]
  by_cases h:o.length<x.length
  ·have h':((o.length:Int)<(x.length:Int)):=by omega
   have hw:IntKind.i64.wrap ((o.length:Int)+1)=((o.length+1:Nat):Int):=by rw [Al] <;> omega
   have ax:∀(m:List Bool) (H:Aa),Sh.f4 (.sl (enL cB m) .no) (.int .i64 (o.length:Int)) H=some (.ret (.bool (m.getD o.length false)),H):=fun m H=>by rw [q01_at,Int.toNat_natCast];simp
   have app:∀s:Bool,AW BE 1 1 (EK cB H o) (.sl (enL cB [s]) .tight) (DW cB BE 1 H o)=some (EK cB H (o++[s]),DW cB BE 1 H (o++[s])):=fun s=>FC (by simp) (by simp;omega) (by simp;omega)
   have n0:unA .neg (.int .i64 0)=some (.int .i64 0):=by rw [show unA .neg (.int .i64 0)=some (.int .i64 (IntKind.i64.wrap (0-0))) from rfl,show IntKind.i64.wrap (0-0)=0 from by decide]
   have n1:unA .neg (.int .i64 1)=some (.int .i64 (-1)):=by rw [show unA .neg (.int .i64 1)=some (.int .i64 (IntKind.i64.wrap (0-1))) from rfl,show IntKind.i64.wrap (0-1) = -1 from by decide]
   have w1:IntKind.i64.wrap (0+1)=1:=by decide
   have w2:IntKind.i64.wrap (-1+1)=0:=by decide
   have w3:IntKind.i64.wrap (0-1) = -1:=by decide
   have w4:IntKind.i64.wrap (1-1)=0:=by decide
   have w5:IntKind.i64.wrap (-1-1) = -2:=by decide
   have w6:IntKind.i64.wrap (-1+2)=1:=by decide
   have w7:IntKind.i64.wrap (-2+2)=0:=by decide
   have fin:rec [.sl (enL cB x) .no,.sl (enL cB y) .no,EK cB H (o++[subS (x.getD o.length false) (y.getD o.length false) c]),.int .i64 (if subC (x.getD o.length false) (y.getD o.length false) c then 1 else 0),.int .i64 ((o.length+1:Nat):Int)] (DW cB BE 1 H (o++[subS (x.getD o.length false) (y.getD o.length false) c]))=some (.ret (.tup [.sl (enL cU (A0 (Be x-Be y))) .no,.bool true]),H):=by
    have:=hrec (o++[subS (x.getD o.length false) (y.getD o.length false) c],subC (x.getD o.length false) (y.getD o.length false) c) ⟨by simp;omega,?_⟩ (by simp;omega)
    ·simpa using this
    ·simp only [WJ,List.length_singleton]
     rw [Pw x,Pw y,CY,Nat.pow_succ]
     generalize x.getD o.length false=p
     generalize y.getD o.length false=q
     generalize 2^o.length=z at he ⊢
     cases p <;> cases q <;> cases c <;> simp [bn,Be,subS,subC,subN]at he ⊢ <;> omega
   simp only [h',decide_true,AN,AJ,ax,Cs]
   revert fin
   generalize x.getD o.length false=p
   simp only [Sh.f75,AJ,Aj,AS,AY,Bo,B6,Di,ax,Cs]
   generalize y.getD o.length false=q
   intro fin
   rw [←fin]
   cases p <;> cases q <;> cases c <;>
    simp [n0,n1,w1,w2,w3,w4,w5,w6,w7,Sh.f74,Sh.f73,AJ,SK,app,hw,subS,subC,subN]
  ·have h':¬((o.length:Int)<(x.length:Int)):=by omega
   obtain ⟨G,hG⟩:=HZ (f:=cB) (ty:=BE) (sz:=1) H o
   have bx:=JF x
   have bo:=JF o
   have hxi:x.length=o.length:=by omega
   rw [hxi]at bx
   rw [X3 bx,X3 (by omega)]at he
   have hc:c=false:=by
    cases c with
    | false=>rfl
    | true=>exfalso;simp only [bn,if_true,WQ]at he;omega
   subst hc
   have hsum:Be o=Be x-Be y:=by simp [bn]at he;omega
   simp only [h',decide_false,AI,GD,hG,Tu o _ _ (by omega),Cs,Ct,FW,Da,DK,P8,Gw,Option.bind_some,Option.map_some,hsum]
 ·have hc:cmpI (val a) (val b)<0:=by unfold cmpI;rw [if_pos (by omega)];decide
  simp [hc,hv,Fw]
def AD (z:Int):List Ab:=[.bool (decide (z<0)),.sl (enL cU (A0 z.natAbs)) .no]
def big (z:Int):Ab:=.agg (AD z)
def LB (z:Int):Prop:=(A0 z.natAbs).length≤549755813888
theorem W7 (z:Int):(AD z).all Ab.isScal=true:=by simp [AD]
@[simp] theorem bigC_g0 (z:Int) (h:0<(AD z).length):(AD z)[0]=.bool (decide (z<0)):=(rfl)
@[simp] theorem bigC_g1 (z:Int) (h:1<(AD z).length):(AD z)[1]=.sl (enL cU (A0 z.natAbs)) .no:=(rfl)
@[simp] theorem bigC_0 (z:Int):(AD z)[0]? = some (.bool (decide (z<0))):=(rfl)
@[simp] theorem bigC_1 (z:Int):(AD z)[1]? = some (.sl (enL cU (A0 z.natAbs)) .no):=(rfl)
@[simp] theorem OR (z:Int):(big z).acells=some (AD z):=Cj (W7 z)
theorem big_sgn (neg:Bool) (n:Nat):[Ab.bool (sgn neg n),.sl (enL cU (A0 n)) .no]=AD (if neg then -(n:Int)else n):=by
 unfold AD
 have e1:sgn neg n=decide ((if neg then -(n:Int)else (n:Int))<0):=by
  unfold sgn
  cases neg with
  | false=>simp
  | true=>
   by_cases h:n=0
   ·subst h;rfl
   ·have:(-(n:Int))<0:=by omega
    simp [h,this];omega
 have e2:(if neg then -(n:Int)else (n:Int)).natAbs=n:=by cases neg <;> simp
 rw [e1,e2]
theorem R3 (n:Nat):(decide (((A0 n).length:Int)>0))=decide (n≠0):=by
 by_cases h:n=0
 ·subst h;rw [CW];rfl
 ·have:=Xx.2 (Nv h)
  have h1:((A0 n).length:Int)>0:=by omega
  rw [decide_eq_true h1,decide_eq_true h]
@[simp] theorem fcells_big {H:Aa} {n d:Nat} {z:Int}:FB H n (d+2) (AD z)=some (AD z):=by simp [AD]
@[simp] theorem fall_big {H:Aa} {n d:Nat} {z:Int}:Gy H n (d+3) (big z)=some (big z):=by simp [big]
@[simp] theorem fpart_big {H:Aa} {n d:Nat} {z:Int}:EU H n (d+3) (big z)=some (big z):=by simp [big]
@[simp] theorem forget_big {z:Int}:forget (big z)=big z:=by simp [big,AD]
@[simp] theorem bigC_length (z:Int):(AD z).length=2:=(rfl)
@[simp] theorem UI (z:Int):Ab.agg (AD z)=big z:=(rfl)
@[simp] theorem putN_big (cs:List Ab) (z:Int) (h:cs.length=2):D9 cs 0 2 (AD z)=AD z:=FP h
theorem D6 (z:Int) (H:Aa):B2 true 2 (big z) H=some (.ptr H.length 0 0,H++[.cel 0 (AD z)]):=BQ (W7 z) rfl
theorem Po (neg:Bool) (l:List Nat) (tk:Tok) (H:Aa) (hl:l.length≤1099511627776) (hx:Lim l):Sh.f7 (.bool neg) (.sl (enL cU l) tk) H=some (.ret (big (if neg then -(val l:Int)else val l)),H):=by
 unfold Sh.f7 big
 rw [←big_sgn]
 have hp:=R3 (val l)
 cases neg with
 | false=>simp [q01_norm _ _ _ hl hx,AB,Gj,D9,sgn,Cj]
 | true=>
  simp only [Ih,Cg,Option.bind_some,Av,Dh,hp,sgn,X7,alloc_eq (cs:=[.bool false,.sl [] .tight]) rfl,Bm,q01_norm _ _ _ hl hx,Cs]
  simp [AB,Gj,D9,Cj]
theorem VN (neg:Bool) (l:List Nat) (tk:Tok) (H:Aa) (hl:l.length≤1099511627776) (hx:Lim l):Sh.fi (.agg [.bool neg,.sl (enL cU l) tk]) H=some (.ret (big (-(FM neg l))),H):=by
 have ez:(if neg=false then -(val l:Int)else (val l:Int)) = -(FM neg l):=by cases neg <;> simp [FM]
 unfold Sh.fi
 simp [BQ,Po _ l tk _ hl hx,ez]
theorem Kw (z:Int):FM (decide (z<0)) (A0 z.natAbs)=z:=by
 unfold FM
 rw [Bp]
 by_cases h:z<0
 ·simp [h];omega
 ·simp [h];omega
theorem PZ (neg:Bool) (l:List Nat):(FM neg l).natAbs=val l:=by cases neg <;> simp [FM]
theorem q02_add (n1 n2:Bool) (l1 l2:List Nat) (t1 t2:Tok) (H:Aa) (h1:l1.length≤549755813888) (h2:l2.length≤549755813888) (x1:Lim l1) (x2:Lim l2) :
  Sh.f1 (.agg [.bool n1,.sl (enL cU l1) t1]) (.agg [.bool n2,.sl (enL cU l2) t2]) H=some (.ret (big (FM n1 l1+FM n2 l2)),H):=by
 have v1:=SP l1 x1
 have v2:=SP l2 x2
 have p1:=Pr (show l1.length≤max l1.length l2.length by omega)
 have p2:=Pr (show l2.length≤max l1.length l2.length by omega)
 have p3:(4294967296:Nat)^(max l1.length l2.length+1)=4294967296^max l1.length l2.length*4294967296:=Nat.pow_succ _ _
 have sg:∀(neg:Bool) (m:Nat) (tk:Tok) (H:Aa),m<4294967296^(max l1.length l2.length+1)→Sh.f7 (.bool neg) (.sl (enL cU (A0 m)) tk) H=some (.ret (big (if neg then -(m:Int)else m)),H):=by
  intro neg m tk H hm
  have:=Po neg (A0 m) tk H (by have:=Ec hm;omega) (Bh m)
  rwa [Bp]at this
 unfold Sh.f1
 by_cases hn:n1=n2
 ·subst hn
  have ez:(if n1=true then -((val l1:Int)+(val l2:Int))else ((val l1:Int)+(val l2:Int)))=FM n1 l1+FM n1 l2:=by cases n1 <;> simp [FM] <;> omega
  simp [Xy,BQ,Jj,B9,q01_add _ _ _ _ _ (show l1.length≤1099511627776 by omega) (show l2.length≤1099511627776 by omega) x1 x2,sg n1 (val l1+val l2) _ _ (by omega),ez]
 ·have hb:(n1 == n2)=false:=by simpa using hn
  by_cases hv:val l2≤val l1
  ·have ez:(if n1=true then -((val l1-val l2:Nat):Int)else ((val l1-val l2:Nat):Int))=FM n1 l1+FM n2 l2:=by cases n1 <;> cases n2 <;> simp [FM]at hn ⊢ <;> omega
   simp [Xy,BQ,Jj,hb,q01_sub _ _ _ _ _ (show l1.length≤1099511627776 by omega) (show l2.length≤1099511627776 by omega) x1 x2,hv,sg n1 (val l1-val l2) _ _ (by omega),ez]
  ·have ez:(if n2=true then -((val l2-val l1:Nat):Int)else ((val l2-val l1:Nat):Int))=FM n1 l1+FM n2 l2:=by cases n1 <;> cases n2 <;> simp [FM]at hn ⊢ <;> omega
   have hv':val l1≤val l2:=by omega
   simp [Xy,BQ,Jj,hb,q01_sub _ _ _ _ _ (show l1.length≤1099511627776 by omega) (show l2.length≤1099511627776 by omega) x1 x2,q01_sub _ _ _ _ _ (show l2.length≤1099511627776 by omega) (show l1.length≤1099511627776 by omega) x2 x1,hv,hv',sg n2 (val l2-val l1) _ _ (by omega),ez]
theorem UD (z:Int):big z=.agg [.bool (decide (z<0)),.sl (enL cU (A0 z.natAbs)) .no]:=rfl
theorem Tt (a b:Int) (H:Aa) (ha:LB a) (hb:LB b):Sh.f1 (big a) (big b) H=some (.ret (big (a+b)),H):=by
 rw [UD a,UD b,q02_add _ _ _ _ _ _ _ ha hb (Bh _) (Bh _),Kw,Kw]
theorem OB (a:Int) (H:Aa) (ha:LB a):Sh.fi (big a) H=some (.ret (big (-a)),H):=by
 rw [UD a,VN _ _ _ _ (by unfold LB at ha;omega) (Bh _),Kw]
theorem LB.neg {a:Int} (h:LB a):LB (-a):=by unfold LB at *;rwa [Int.natAbs_neg]
theorem LB.of {a:Int} {k:Nat} (h:a.natAbs<4294967296^k) (hk:k≤549755813888):LB a:=Xh (Ec h) hk
theorem q02_subZ (a b:Int) (H:Aa) (ha:LB a) (hb:LB b):Sh.fm (big a) (big b) H=some (.ret (big (a-b)),H):=by
 unfold Sh.fm
 simp [Xy,D6,B9,OB _ _ hb,Tt _ _ _ ha hb.neg,Int.sub_eq_add_neg]
def Fa (a b:Int):Int:=if a<b then -1 else if a=b then 0 else 1
theorem LT (a b:Int) (H:Aa) (ha:LB a) (hb:LB b):Sh.f8 (big a) (big b) H=some (.ret (.int .i64 (Fa a b)),H):=by
 unfold Sh.f8
 simp only [D6,Bm,WG,List.singleton_append]
 simp [Xy,D6,q02_subZ _ _ _ ha hb]
 unfold Fa
 by_cases h0:a=b
 ·subst h0;simp [CW]
 ·have hne:A0 (a-b).natAbs≠[]:=Nv (by omega)
  have hp:=Xx.2 hne
  have hz:(((A0 (a-b).natAbs).length:Int) == 0)=false:=by rw [beq_eq_false_iff_ne];omega
  have hz2:¬((A0 (a-b).natAbs).length:Int)=0:=by omega
  have hz3:¬A0 (a-b).natAbs=[]:=hne
  by_cases hn:a<b
  ·have:a-b<0:=by omega
   simp [hz,hz2,hz3,hn,this]
  ·have:¬(a-b<0):=by omega
   simp [hz,hz2,hz3,hn,this,h0]
theorem repl1 (n:Nat) (v:Ab):LR n [v]=List.replicate n v:=by
 induction n with
 | zero=>rfl
 | succ n ih=>simp only [LR,List.replicate_succ,List.flatten_cons]at ih ⊢;rw [ih];rfl
theorem chunk1 (n:Nat) (v:Ab):FX 1 n (List.replicate n v)=List.replicate n [v]:=by
 induction n with
 | zero=>rfl
 | succ n ih=>simp only [FX,List.replicate_succ,List.take_succ_cons,List.take_zero,List.drop_succ_cons,Yd,ih]
theorem make_one {bytes n:Nat} {v:Ab} {H:Aa} (hv:v.isScal=true) (hb:n*bytes≤140737488355328) (hn:n≤140737488355328):Fh 1 bytes (some [v]) (.int .i64 (n:Int)) (.int .i64 (n:Int)) H=some (.ms H.length 0 0 n n 1 true,H++[.cel 0 (List.replicate n v)]):=by
 unfold Fh
 simp only [Option.bind_some]
 have h1:((n:Int)*(bytes:Int))≤140737488355328:=by
   have:((n*bytes:Nat):Int)≤140737488355328:=by omega
   simpa using this
 rw [if_pos ⟨by simp [hv],rfl,by omega,by omega,h1,by omega⟩,repl1]
 simp
theorem elems_ms {H:Aa} {n:Nat}:BK 1 (.ms H.length 0 0 n n 1 true) (H++[.cel 0 (List.replicate n (.bool false))])=some (enL cB (List.replicate n false)):=by
 have hm:(List.replicate n (Ab.bool false)).map Mw=List.replicate n (.bool false):=by simp [Mw]
 have hi:(List.replicate n (Ab.bool false)).all B4=true:=by simp [B4]
 simp only [BK,if_true,get_app0,IR,Option.bind_some,Yd,WE,WQ,YE,WN (show (List.replicate n (Ab.bool false)).length≤n by simp),hm,hi,WF,and_self,chunk1]
 simp [enL]
theorem q01_of_ms (B:Aa) (n:Nat) (hn:n≤140737488355328):Sh.fc (.ms B.length 0 0 n n 1 true) (B++[.cel 0 (List.replicate n (.bool false))])=some (.ret (.sl [] .no),B++[.cel 0 (List.replicate n (.bool false))]):=by
 unfold Sh.fc Sh.fw
 have hc:∀K:Aa,An (fun rec1 vs H1=>Sh.f5h K rec1 (ag vs 0) H1) AM [.ms B.length 0 0 n n 1 true] (B++[.cel 0 (List.replicate n (.bool false))])
   = some (.ret (.ms B.length 0 0 0 n 1 true),B++[.cel 0 (List.replicate n (.bool false))]):=by
  intro K
  refine Bl (σ:=Nat) (fun k=>k≤n) (fun k=>[.ms B.length 0 0 k n 1 true]) (fun _=>B++[.cel 0 (List.replicate n (.bool false))]) (fun k=>k) (fun _=>some (.ret (.ms B.length 0 0 0 n 1 true),B++[.cel 0 (List.replicate n (.bool false))])) (fun k rec hk hrec=>?_) n (WF _) (by omega)
  unfold Sh.f5h
  cases k with
  | zero=>simp [forget,DM,fgt]
  | succ k=>
   have hpos:((k+1:Nat):Int)>0:=by omega
   have hw:IntKind.i64.wrap (((k+1:Nat):Int)-1)=(k:Int):=by rw [Al] <;> omega
   have hidx:At 1 (.ms B.length 0 0 (k+1) n 1 true) (.int .i64 (k:Int))=some (.ptr B.length 0 k):=by
    unfold At
    simp only []
    rw [if_pos ⟨trivial,by omega,by omega⟩]
    simp
   have hload:Ac false 1 (.ptr B.length 0 k) (B++[.cel 0 (List.replicate n (.bool false))])=some (.bool false):=by
    rw [IM,Ns,Y5,if_pos (by omega)]
   have hsl:Bn 1 (.ms B.length 0 0 (k+1) n 1 true) none (some (.int .i64 (k:Int))) none=some (.ms B.length 0 0 k n 1 true):=by
    have:(0:Int)≤(k:Int):=by omega
    simp only [Bn,Bk,Option.bind_some,this,if_true,Int.toNat_natCast]
    rw [if_pos ⟨trivial,by omega,by omega,by omega⟩]
    simp
   simp only [Aj,len_ms,Option.bind_some,Dh,hpos,decide_true,Ih,DQ,hw,hidx,hload,Ip,Cg,XL,AN,hsl]
   exact hrec k (by omega) (by omega)
 rw [hc]
 simp only [Cs]
 rw [Dy Ez]
 unfold Sh.f5i
 simp
theorem q01_shl (l:List Nat) (tk:Tok) (m:Nat) (H:Aa) (hm:m≤10000) (hl:l.length≤549755813888) (hx:Lim l) :
  Sh.f3k (.sl (enL cU l) tk) (.int .i64 (m:Int)) H=some (.ret (.sl (enL cU (A0 (2^m*val l))) .no),H):=by
 unfold Sh.f3k
 have h0:¬(m:Int)<0:=by omega
 have h1:¬(m:Int)>10000:=by omega
 have hc:=Hl (AL l)
 rw [BP]at hc
 simp only [Bf,Option.bind_some,decide_eq_false h0,Mx,Dh,decide_eq_false h1,BW,AI,GJ l tk H (by omega) hx,Br,make_one (bytes:=1) (v:=.bool false) rfl (show m*1≤140737488355328 by omega) (by omega),Bm]
 by_cases hv:val l=0
 ·have e:CU (AL l)=[]:=cutL_nat0 (by rw [Es l hx];exact hv)
  rw [e,Fw,D7 (by rw [elems_ms];rfl)]
  simp [q01_of_ms H m (by omega),hv,CW,Fw]
 ·have hne:CU (AL l)≠[]:=fun e=>hv (by rw [←Es l hx,←DZ,e];rfl)
  have ha:AW BE 1 1 (.ms H.length 0 0 m m 1 true) (.sl (enL cB (CU (AL l))) .no) (H++[.cel 0 (List.replicate m (.bool false))])
    = some (.sl (enL cB (List.replicate m false++CU (AL l))) (.own (H.length+1)),H++[.cel 0 (List.replicate m (.bool false))]++[.tok (m+(CU (AL l)).length) BE 1]):=by
   have hl0:(enL cB (CU (AL l))).length≠0:=by simpa using hne
   unfold AW
   rw [show BK 1 (.sl (enL cB (CU (AL l))) .no) (H++[.cel 0 (List.replicate m (.bool false))])=some (enL cB (CU (AL l))) from by simp [BK,all_enL],elems_ms]
   simp only [Option.bind_some]
   rw [if_neg hl0,if_pos (by simp;omega),if_pos (by simp;exact Xx.2 hne)]
   simp [enL_append]
  rw [ha]
  simp only [CL,Br,WG]
  rw [Tu _ _ _ (by simp;omega)]
  simp only [Br,Ct,Fu,Option.map_some,nat1_repl,DZ,Es l hx]
theorem q02_shl (z:Int) (m:Nat) (H:Aa) (hm:m≤10000) (hz:LB z) (hz2:LB (z*2^m)) :
  Sh.f3l (big z) (.int .i64 (m:Int)) H=some (.ret (big (z*2^m)),H):=by
 have e:(z*2^m).natAbs=2^m*z.natAbs:=by rw [Int.natAbs_mul,Zs,XP];rfl
 have hp:(0:Int)<2^m:=Zr (by omega)
 have hs:∀tk H,Sh.f7 (.bool (decide (z<0))) (.sl (enL cU (A0 (2^m*z.natAbs))) tk) H=some (.ret (big (z*2^m)),H):=by
  intro tk H
  rw [Po _ _ _ _ (by rw [←e];unfold LB at hz2;omega) (Bh _),Bp]
  congr 3
  have:((2^m*z.natAbs:Nat):Int)=2^m*(z.natAbs:Int):=by simp
  by_cases h:z<0
  ·simp only [h,decide_true,if_true,this]
   rw [show ((z.natAbs:Nat):Int) = -z from by omega,Int.mul_neg,Int.neg_neg,Z5]
  ·simp only [h,decide_false,WL,if_false,this]
   rw [show ((z.natAbs:Nat):Int)=z from by omega,Z5]
 unfold Sh.f3l
 simp [D6,B9,q01_shl _ _ _ _ hm hz (Bh _),Bp,hs]
theorem MX {n:Int} (h0:-18446744073709551616≤n) (h:n<0):IntKind.u64.wrap n=n+18446744073709551616:=by
 have h1:IntKind.u64.bits=64:=rfl
 have h2:IntKind.u64.signed=false:=rfl
 unfold IntKind.wrap
 simp only [h1,h2,XE,WL,if_false]
 omega
theorem build_2U (x y:Nat):AQ 1 [.int .u32 (x:Int),.int .u32 (y:Int)]=some (.sl (enL cU [x,y]) .tight):=by simp [AQ,CK,Mw,B4,Ab.acells,enL]
theorem q02_of (n:Int) (H:Aa) (h0:-9223372036854775808≤n) (h1:n≤9223372036854775807):Sh.fd (.int .i64 n) H=some (.ret (big n),H):=by
 obtain ⟨u,hu⟩:∃u:Nat,u=n.natAbs:=⟨_,rfl⟩
 have hlim:Lim [u%4294967296,u / 4294967296]:=fun x hx=>by
  simp at hx
  rcases hx with rfl | rfl <;> omega
 have hval:val [u%4294967296,u / 4294967296]=u:=by simp [val];omega
 have ez:(if decide (n<0)=true then -(u:Int)else (u:Int))=n:=by
  by_cases h:n<0 <;> simp [h] <;> omega
 have a1:=fun H=>Po (decide (n<0)) [u%4294967296,u / 4294967296] .tight H (by simp) hlim
 simp only [hval,ez]at a1
 have e1:((u:Int).tmod 4294967296)=((u%4294967296:Nat):Int):=rfl
 have e2:IntKind.u64.wrap ((u:Int).tdiv 4294967296)=((u / 4294967296:Nat):Int):=by rw [show (u:Int).tdiv 4294967296=((u / 4294967296:Nat):Int) from rfl,Cu] <;> omega
 have e3:IntKind.u32.wrap ((u%4294967296:Nat):Int)=((u%4294967296:Nat):Int):=by rw [CJ] <;> omega
 have e4:IntKind.u32.wrap ((u / 4294967296:Nat):Int)=((u / 4294967296:Nat):Int):=by rw [CJ] <;> omega
 have j1:Sh.f6l H (.int .i64 n) (.ptr H.length 0 0) (.int .u64 (u:Int)) (H++[.cel 0 [.bool false,.sl [] .tight]])=some (.ret (big n),H):=by
  unfold Sh.f6l
  simp only [Bf,Option.bind_some,In (show (4294967296:Int)≠0 by decide),SL (show (4294967296:Int)≠0 by decide),e1,e2,By,e3,e4,build_2U,a1,Cs]
  simp
 unfold Sh.fd
 simp only [alloc_eq (cs:=[.bool false,.sl [] .tight]) rfl,Bm,By,Option.bind_some,AJ,Bf,Aj,AS,AY]
 by_cases h:n<0
 ·have w:IntKind.u64.wrap (0-IntKind.u64.wrap n)=(u:Int):=by
   rw [MX (n:=n) (by omega) h,MX (by omega) (by omega)];omega
  have un:unA .neg (.int .u64 (IntKind.u64.wrap n))=some (.int .u64 (u:Int)):=by
   rw [show unA .neg (.int .u64 (IntKind.u64.wrap n))=some (.int .u64 (IntKind.u64.wrap (0-IntKind.u64.wrap n))) from rfl,w]
  rw [decide_eq_true h]
  simp only [AN,un,Option.bind_some,Aj,AS,AY]
  exact j1
 ·have w:IntKind.u64.wrap n=(u:Int):=by rw [Cu (by omega) (by omega)];omega
  rw [decide_eq_false h]
  simp only [AI,w,Aj,AS,AY]
  exact j1
theorem LB_pow (m:Nat) (hm:m≤20000):LB (2^m):=by
 refine LB.of (k:=m+1) ?_ (by omega)
 rw [Zs]
 have:(2:Nat)^m<2^(32*(m+1)):=Zo (by omega) (by omega)
 rw [Y4]at this
 exact this
theorem LB_one:LB 1:=LB_pow 0 (by omega)
theorem Pp (m:Nat) (H:Aa) (hm:m≤10000):Sh.ff (.int .i64 (m:Int)) H=some (.ret (big (2^m)),H):=by
 have hs:=fun H=>q02_shl 1 m H hm LB_one (by rw [Int.one_mul];exact LB_pow m (by omega))
 simp only [Int.one_mul]at hs
 unfold Sh.ff
 simp [q02_of 1 _ (by omega) (by omega),hs]
def Fd (neg:Bool) (l:List Nat):Bool:=F5 l && !(neg&&l.isEmpty)
theorem VM (neg:Bool) (l:List Nat) (tk:Tok) (H:Aa) (hl:l.length≤549755813888):Sh.f12 (.agg [.bool neg,.sl (enL cU l) tk]) H=some (.ret (.bool (Fd neg l)),H):=by
 unfold Sh.f12 Fd
 have hq:=fun H=>q01_right l tk H (by omega)
 cases hr:F5 l with
 | false=>simp [BQ,hq,hr]
 | true=>
  cases neg with
  | false=>simp [BQ,hq,hr]
  | true=>cases l <;> simp [BQ,hq,hr] <;> omega
theorem bigC_ok {n:Bool} {l:List Nat} (h:Fd n l=true) (hx:Lim l):[Ab.bool n,.sl (enL cU l) .no]=AD (FM n l):=by
 simp only [Fd,WO,XB]at h
 obtain ⟨h1,h2⟩:=h
 have hn:Nrm l:=(O7 hx).1 h1
 unfold AD
 rw [PZ,←Ms hn]
 congr 2
 unfold FM
 cases n with
 | false=>simp
 | true=>
  have hl:l≠[]:=fun e=>by subst e;simp at h2
  have:val l≠0:=fun e=>hl (hn.zero e)
  simp;omega
theorem LB_zero:LB 0:=by unfold LB;simp [CW]
structure Cl where
 x:Int
 y:Int
 s:UInt8
deriving DecidableEq
def cCl (c:Cl):List Ab:=[.bool (decide (c.x<0)),.sl (enL cU (A0 c.x.natAbs)) .no,.bool (decide (c.y<0)),.sl (enL cU (A0 c.y.natAbs)) .no,.int .u8 (c.s.toNat:Int)]
instance:Sz cCl 5:=⟨fun _=>rfl⟩
instance:Pl cCl:=⟨fun _=>rfl⟩
def cBig (z:Int):List Ab:=AD z
instance:Sz cBig 2:=⟨fun _=>rfl⟩
instance:Pl cBig:=⟨fun _=>rfl⟩
def SB (k:Nat) (z:Int):Prop:=z.natAbs<4294967296^k
theorem SB.lb {k:Nat} {z:Int} (h:SB k z) (hk:k≤549755813888):LB z:=LB.of h hk
theorem SB.mono {k m:Nat} {z:Int} (h:SB k z) (hm:k≤m):SB m z:=X5 h (Pr hm)
def Cl.ok (c:Cl):Prop:=SB 100 c.x∧SB 100 c.y
def Iu (a b:Cl):Int:=if Fa a.y b.y=0 then Fa a.x b.x else Fa a.y b.y
theorem boxCl (c:Cl) (H:Aa):B2 true 5 (.agg (cCl c)) H=some (.ptr H.length 0 0,H++[.cel 0 (cCl c)]):=BQ rfl rfl
theorem NA (c:Cl):(Ab.agg (cCl c)).acells=some (cCl c):=Cj rfl
section
variable {H G:Aa} {p:Nat} {c:Cl} {z:Int}
theorem S5 (hg:H[p]? = some (.cel 0 (cCl c))):Ac true 2 (.ptr p 0 0) H=some (big c.x):=by
 simp only [Ac,A5 hg,Option.bind_some,if_true];rfl
theorem S4 (hg:H[p]? = some (.cel 0 (cCl c))):Ac true 2 (.ptr p 0 2) H=some (big c.y):=by
 simp only [Ac,A5 hg,Option.bind_some,if_true];rfl
theorem Cx (hg:H[p]? = some (.cel 0 (AD z))):Ac true 2 (.ptr p 0 0) H=some (big z):=by
 simp only [Ac,A5 hg,Option.bind_some,if_true];rfl
theorem Dk {cs:List Ab} (hg:H[p]? = some (.cel 0 cs)) (hl:cs.length=2):Ah 2 (.ptr p 0 0) (big z) H=some (H.set p (.cel 0 (AD z))):=by
 simp only [Ah,A5 hg,Option.bind_some,OR,BT hg,FP hl]
 rw [if_pos ⟨rfl,by omega⟩]
theorem load_xC:Ac true 2 (.cptr (cCl c) 0) H=some (big c.x):=(rfl)
theorem load_yC:Ac true 2 (.cptr (cCl c) 2) H=some (big c.y):=(rfl)
theorem load_sC:Ac false 1 (.cptr (cCl c) 4) H=some (.int .u8 (c.s.toNat:Int)):=(rfl)
theorem load_cl:Ac true 5 (.cptr (cCl c) 0) H=some (.agg (cCl c)):=(rfl)
theorem PY (c:Cl):AQ 5 [.agg (cCl c)]=some (.sl (enL cCl [c]) .tight):=by
 simp [AQ,CK,NA];simp [cCl,Mw,B4,enL]
theorem Cw (H:Aa):A3 (some [.bool false,.sl [] .tight]) H=some (.ptr H.length 0 0,H++[.cel 0 [.bool false,.sl [] .tight]]):=alloc_eq rfl
theorem AE {i:Nat} {x:Blk} (h:H[i]? = some x):(H++G)[i]? = some x:=by
 have:=(WC.1 h).1
 rw [WD this];exact h

end
theorem q07_order (a b:Cl) (H:Aa) (ha:a.ok) (hb:b.ok):Sh.f21 (.agg (cCl a)) (.agg (cCl b)) H=some (.ret (.int .i64 (Iu a b)),H):=by
 have e1:(H++[Blk.cel 0 (cCl a)]++[Blk.cel 0 (cCl b)])[H.length]? = some (.cel 0 (cCl a)):=by simp
 have e2:(H++[Blk.cel 0 (cCl a)]++[Blk.cel 0 (cCl b)])[(H++[Blk.cel 0 (cCl a)]).length]? = some (.cel 0 (cCl b)):=Ar
 unfold Sh.f21
 have hy:=fun H=>LT a.y b.y H (ha.2.lb (by decide)) (hb.2.lb (by decide))
 have hx:=fun H=>LT a.x b.x H (ha.1.lb (by decide)) (hb.1.lb (by decide))
 simp only [GMb,GMc,boxCl,Ag,WE,Nat.add_zero,S4 e1,S4 e2,hy]
 have fin:∀q:Int,rP H (.int .i64 q) (H++[Blk.cel 0 (cCl a)]++[Blk.cel 0 (cCl b)])=some (.ret (.int .i64 q),H):=fun q=>by simp only [WG];exact J3
 unfold Iu
 by_cases h:Fa a.y b.y=0
 ·simp only [GMb,GMc,h,S5 e1,S5 e2,hx,fin]
 ·simp only [GMb,GMc,h,fin]
def inZ (v:Nat) (z:Int):Bool:=decide (-(2^(v-1))≤z)&&decide (z<2^(v-1))
def FN (v:Nat) (c:Cl):Bool:=inZ v c.x&&inZ v c.y
theorem PN (a b:Int):decide (Fa a b<0)=decide (a<b):=by
 unfold Fa;rw [WW]
 split
 ·simp;omega
 ·split
  ·simp;omega
  ·simp;omega
def Ev (c:Cl) (out:List Cl):Nat:=(out.takeWhile fun d=>decide (Iu d c<0)).length
def LO (c:Cl) (out:List Cl):Bool:=match out[Ev c out]? with | some d=>decide (Iu d c=0) | none=>false
def IE (c:Cl) (out:List Cl):List Cl:=if LO c out then (out.drop (Ev c out)).drop 1 else out.drop (Ev c out)
def BH (out:List Cl) (c:Cl):List Cl:=out.take (Ev c out)++[c]++IE c out
def C0 (l:List Cl):List Cl:=l.foldl BH []
def CC (l:List Cl):List Cl:=(C0 l).filter fun c=>decide (c.s≠0)
theorem Oo {α:Type} (p:α→Bool):∀(l:List α) (n:Nat),n≤l.length→(∀(j:Nat) (a:α),j<n→l[j]? = some a→p a=true)→(∀a,l[n]? = some a→p a=false)→(l.takeWhile p).length=n
 | [],n,h,_,_=>by simp at h;simp [h]
 | a::l,0,_,_,h=>by
  have:=h a rfl
  simp [YM,this]
 | a::l,n+1,h,h1,h2=>by
  have h3:=h1 0 a (by omega) rfl
  have:=Oo p l n (by simpa using h) (fun j b hj hb=>h1 (j+1) b (by omega) (by simpa using hb)) (fun b hb=>h2 b (by simpa using hb))
  simp [YM,h3,this]
theorem posC_le (c:Cl) (out:List Cl):Ev c out≤out.length:=by
 unfold Ev
 exact (List.takeWhile_sublist _).length_le
theorem lastStep_len (out:List Cl) (c:Cl):(BH out c).length≤out.length+1:=by
 have:=posC_le c out
 unfold BH IE
 split <;> simp <;> omega
theorem lastStep_mem {out:List Cl} {c d:Cl} (h:d∈BH out c):d=c∨d∈out:=by
 unfold BH IE at h
 simp only [WX,WY]at h
 rcases h with (h | h) | h
 ·exact .inr (XK h)
 ·exact .inl h
 ·right
  split at h
  ·exact Yl (Yl h)
  ·exact Yl h
theorem P3 {l:List Cl} {i:Nat} (hi:i<l.length):C0 (l.take (i+1))=BH (C0 (l.take i)) l[i]:=by
 unfold C0
 rw [WM hi,YA];rfl
theorem FH {l:List Cl}:∀i,i≤l.length→(C0 (l.take i)).length≤i∧∀d∈C0 (l.take i),d∈l
 | 0,_=>by simp [C0]
 | i+1,h=>by
  obtain ⟨h1,h2⟩:=FH i (by omega:i≤l.length)
  rw [P3 h]
  refine ⟨Xh (lastStep_len _ _) (by omega),fun d hd=>?_⟩
  rcases lastStep_mem hd with rfl | hd
  ·exact WP h
  ·exact h2 d hd
theorem slice_cap {α:Type} {f:α→List Ab} {l:List α} {tk:Tok} {sz h:Nat} {K:IntKind} [hf:Sz f sz] (hh:h≤l.length) :
  Bn sz (.sl (enL f l) tk) none (some (.int K (h:Int))) (some (.int K (h:Int)))=some (.sl (enL f (l.take h)) .tight):=by
 simp [Bn,Bk,enL,hf.len,hh,List.map_take,Ff]
theorem M2 {α:Type} {f:α→List Ab} {l:List α} {tk:Tok} {sz:Nat} {H:Aa} [hf:Sz f sz]:BK sz (.sl (enL f l) tk) H=some (enL f l):=by
 simp [BK,all_enL]
theorem q07_last (l:List Cl) (tk0:Tok) (H:Aa) (hl:l.length<549755813888) (hok:∀c∈l,c.ok):Sh.f3u (.sl (enL cCl l) tk0) H=some (.ret (.sl (enL cCl (CC l)) .no),H):=by
 unfold Sh.f3u
 have loop:=HC (G:=fun rec1 vs H1=>Sh.f5t H rec1 (ag vs 0) (ag vs 1) (ag vs 2) H1) l.length (fun i vs Hc=>∃tk G,vs=[.sl (enL cCl l) tk0,.sl (enL cCl (C0 (l.take i))) tk,.int .i64 (i:Int)]∧Hc=H++G) (by omega) (fun i vs Hc hi hI=>?_)
  (vs:=[.sl (enL cCl l) tk0,.sl [] .tight,.int .i64 0]) (H:=H) ⟨.tight,[],rfl,by simp⟩
 ·obtain ⟨vs',Hc,⟨tk,G,rfl,rfl⟩,rec,hloop⟩:=loop
  rw [hloop]
  unfold Sh.f5t
  rw [WN (WF _)]
  simp only [GMb,GMc,Av,XA]
  generalize hB:H++G=B
  have hlen:(C0 l).length≤l.length:=by have:=(FH (l:=l) l.length (WF _)).1;rwa [WN (WF _)]at this
  unfold CC
  generalize C0 l=o at hlen
  refine Cf (G:=fun rec4 vs H1=>Sh.f5s H rec4 (ag vs 0) (ag vs 1) (ag vs 2) H1) o.length (fun i=>[.sl (enL cCl o) tk,EK cCl B ((o.take i).filter fun c=>decide (c.s≠0)),.int .i64 (i:Int)]) (fun i=>DW cCl A6 5 B ((o.take i).filter fun c=>decide (c.s≠0))) _ (by omega) (fun rec i hi=>?_) (fun rec=>?_)
  ·have hi':(i:Int)<(o.length:Int):=by omega
   have hws:=Aw (show i<9223372036854775807 by omega)
   unfold Sh.f5s
   rw [WM hi,Xw]
   have hfl:((o.take i).filter fun c=>decide (c.s≠0)).length≤i:=Xh (Yf _ _) (by simp;omega)
   generalize ((o.take i).filter fun c=>decide (c.s≠0))=fo at hfl
   have hs:decide ((o[i].s.toNat:Int)=0)=decide (o[i].s=0):=by
    rw [WW];simp only [decide_eq_true_eq]
    constructor
    ·intro h;exact YK.1 (by simpa using h)
    ·intro h;rw [h];rfl
   simp only [GMb,GMc,Av,hi',Ax hi,Ap,WE,load_sC,hs,hws,Sh.f5r]
   by_cases h0:o[i].s=0
   ·have:[o[i]].filter (fun c=>decide (c.s≠0))=[]:=by simp [h0]
    rw [this,Xl]
    simp only [GMb,GMc,h0,decide_true,Sh.f5r,hws]
   ·have:[o[i]].filter (fun c=>decide (c.s≠0))=[o[i]]:=by simp [h0]
    rw [this]
    have ha:=FC (f:=cCl) (ty:=A6) (bytes:=72) (tk:=.tight) (B:=B) (l:=fo) (m:=[o[i]]) (by simp) (by simp;omega) (by simp;omega)
    simp only [GMb,GMc,h0,decide_false,load_cl,PY,ha,Sh.f5r,hws]
  ·obtain ⟨G',hG'⟩:=HZ (f:=cCl) (ty:=A6) (sz:=5) B (o.filter fun c=>decide (c.s≠0))
   unfold Sh.f5s
   rw [WN (WF _)]
   simp only [GMb,GMc,Av,XA,GD,hG']
   rw [←hB,WG]
   simp only [Ct,Fu,Option.map_some]
 ·obtain ⟨tk,G,rfl,rfl⟩:=hI
  obtain ⟨m1,m2⟩:=FH (l:=l) i (by omega)
  have hi':(i:Int)<(l.length:Int):=by omega
  have hws:=Aw (show i<9223372036854775807 by omega)
  have hco:l[i].ok:=hok _ (WP hi)
  have hoo:∀d∈C0 (l.take i),d.ok:=fun d hd=>hok d (m2 d hd)
  rw [P3 hi]
  generalize C0 (l.take i)=o at m1 m2 hoo
  generalize hB:H++G=B
  have hp:=posC_le l[i] o
  obtain ⟨tkr,Gr,hrest⟩:∃tkr Gr,AW A6 5 72 (.sl (enL cCl []) .tight) (.sl (enL cCl (o.drop (Ev l[i] o))) (Ff tk (Ev l[i] o) o.length o.length false)) B=some (.sl (enL cCl (o.drop (Ev l[i] o))) tkr,B++Gr):=by
   by_cases he:o.drop (Ev l[i] o)=[]
   ·rw [he];exact ⟨.tight,[],by simp [D7,M2,Fw];exact D7 (by simp [BK])⟩
   ·have:=CA (f:=cCl) (l:=[]) (m:=o.drop (Ev l[i] o)) (ty:=A6) (bytes:=72) (tk:=Ff tk (Ev l[i] o) o.length o.length false) (H:=B) he (by simp;omega) (by simp;omega)
    exact ⟨_,_,this⟩
  obtain ⟨tks,hres⟩:∃tks,(if LO l[i] o then Bn 5 (.sl (enL cCl (o.drop (Ev l[i] o))) tkr) (some (.int .i64 1)) none none else some (.sl (enL cCl (o.drop (Ev l[i] o))) tkr))=some (.sl (enL cCl (IE l[i] o)) tks):=by
   unfold IE
   cases hs:LO l[i] o with
   | false=>exact ⟨_,rfl⟩
   | true=>
    have hlt:Ev l[i] o<o.length:=by
     unfold LO at hs
     cases hg:o[Ev l[i] o]? with
     | none=>rw [hg]at hs;cases hs
     | some d=>exact (WC.1 hg).1
    have:=O6 (f:=cCl) (l:=o.drop (Ev l[i] o)) (tk:=tkr) (K:=.i64) (b:=1) (by simp;omega)
    exact ⟨_,this⟩
  have ha1:=CA (f:=cCl) (l:=o.take (Ev l[i] o)) (m:=[l[i]]) (ty:=A6) (bytes:=72) (tk:=.tight) (H:=B++Gr) (by simp) (by simp;omega) (by simp;omega)
  obtain ⟨tkf,Gf,ha2⟩:∃tkf Gf,AW A6 5 72 (.sl (enL cCl (o.take (Ev l[i] o)++[l[i]])) (.own (B++Gr).length)) (.sl (enL cCl (IE l[i] o)) tks) (B++Gr++[Blk.tok ((o.take (Ev l[i] o)).length+[l[i]].length) A6 5])=some (.sl (enL cCl (BH o l[i])) tkf,B++Gf):=by
   by_cases he:IE l[i] o=[]
   ·unfold BH
    rw [he,Xl]
    exact ⟨_,Gr++[Blk.tok ((o.take (Ev l[i] o)).length+[l[i]].length) A6 5],by rw [Fw,D7 (by simp [M2]),WG]⟩
   ·have hrl:(IE l[i] o).length≤o.length:=by unfold IE;split <;> simp <;> omega
    have:=EC (f:=cCl) (l:=o.take (Ev l[i] o)++[l[i]]) (m:=IE l[i] o) (ty:=A6) (bytes:=72) (tk:=tks) (H:=B++Gr++[Blk.tok ((o.take (Ev l[i] o)).length+[l[i]].length) A6 5]) (t:=(B++Gr).length) he (by simp) (by simp;omega) (by simp;omega)
    exact ⟨.own (B++Gr).length,Gr++[Blk.tok ((o.take (Ev l[i] o)++[l[i]]).length+(IE l[i] o).length) A6 5],by rw [this];unfold BH;rw [Xg _ _ (WF _),Xn,List.set_cons_zero,WG,WG]⟩
  refine ⟨_,_,⟨tkf,G++Gf,rfl,rfl⟩,fun rec=>?_⟩
  unfold Sh.f5t
  simp only [GMb,GMc,Av,hi',Aj,Ai]
  refine Bl (G:=fun rec2 vs H1=>Sh.f6n H rec rec2 (ag vs 0) (ag vs 1) (ag vs 2) (ag vs 3) H1) (σ:=Nat) (fun k=>k≤o.length∧∀(j:Nat) (d:Cl),j<k→o[j]? = some d→decide (Iu d l[i]<0)=true) (fun k=>[.sl (enL cCl l) tk0,.sl (enL cCl o) tk,.int .i64 (i:Int),.int .i64 (k:Int)]) (fun _=>B) (fun k=>o.length-k) (fun _=>_) (fun k rec2 hk hrec=>?_) 0 ⟨Xd _,fun j d hj=>by omega⟩ (by omega)
  obtain ⟨hk1,hk2⟩:=hk
  have hwk:=Aw (show k<9223372036854775807 by omega)
  unfold Sh.f6n
  have stop:(∀d,o[k]? = some d→decide (Iu d l[i]<0)=false)→k=Ev l[i] o:=fun h=>(Oo _ o k hk1 hk2 h).symm
  have he5:AQ 5 []=some (.sl (enL cCl []) .tight):=rfl
  have tail:∀s:Bool,k=Ev l[i] o→s=LO l[i] o→(AJ (fun j3=>Ak (.bool s) ((Bn 5 (.sl (enL cCl (o.drop (Ev l[i] o))) tkr) (some (.int .i64 1)) none none).bind fun x61=>j3 [.sl (enL cCl l) tk0,.sl (enL cCl o) tk,.int .i64 (i:Int),.int .i64 (k:Int),x61] (B++Gr)) (j3 [.sl (enL cCl l) tk0,.sl (enL cCl o) tk,.int .i64 (i:Int),.int .i64 (k:Int),.sl (enL cCl (o.drop (Ev l[i] o))) tkr] (B++Gr))) (fun vs H1=>Sh.f5q H rec (ag vs 0) (ag vs 1) (ag vs 2) (ag vs 3) (ag vs 4) H1))=rec [.sl (enL cCl l) tk0,.sl (enL cCl (BH o l[i])) tkf,.int .i64 ((i+1:Nat):Int)] (H++(G++Gf)):=by
   intro s hkp hs
   have fin:Sh.f5q H rec (.sl (enL cCl l) tk0) (.sl (enL cCl o) tk) (.int .i64 (i:Int)) (.int .i64 (k:Int)) (.sl (enL cCl (IE l[i] o)) tks) (B++Gr)=rec [.sl (enL cCl l) tk0,.sl (enL cCl (BH o l[i])) tkf,.int .i64 ((i+1:Nat):Int)] (H++(G++Gf)):=by
    unfold Sh.f5q
    rw [hkp]
    simp only [GMb,GMc,slice_cap hp,Ax hi,load_cl,PY,ha1,ha2,hws]
    rw [←hB,WG]
   subst hs
   cases hsm:LO l[i] o with
   | false=>
    rw [hsm]at hres
    simp only [WL,if_false,WK]at hres
    simp only [GMb,GMc,hres];exact fin
   | true=>
    rw [hsm]at hres
    simp only [if_true]at hres
    simp only [GMb,GMc,hres];exact fin
  by_cases h:k<o.length
  ·have hkl:(k:Int)<(o.length:Int):=by omega
   have hord:=fun H=>q07_order o[k] l[i] H (hoo _ (WP h)) hco
   simp only [GMb,GMc,Av,hkl,Ax h,Ax hi,load_cl,hord,hwk]
   by_cases hlt:Iu o[k] l[i]<0
   ·have:=hrec (k+1) ⟨h,fun j d hj hd=>by
     by_cases e:j=k
     ·subst e;rw [WB h]at hd;injection hd with hd;rw [←hd];exact decide_eq_true hlt
     ·exact hk2 j d (by omega) hd⟩ (by omega)
    simp only [hlt,GMb,GMc]
    exact this
   ·have hkp:=stop (fun d hd=>by rw [WB h]at hd;injection hd with hd;rw [←hd];exact decide_eq_false hlt)
    have hsm:decide (Iu o[k] l[i]=0)=LO l[i] o:=by
     unfold LO;rw [←hkp,WB h]
    simp only [hlt,GMb,GMc,he5]
    have hsf:=O6 (f:=cCl) (l:=o) (tk:=tk) (K:=.i64) (b:=Ev l[i] o) hp
    rw [←hkp]at hsf hrest
    simp only [GMb,GMc,hsf,hrest]
    have ht:=tail _ hkp hsm
    rw [←hkp]at ht
    simp only [GMb,GMc]at ht
    exact ht
  ·have hk:k=o.length:=by omega
   have hkl:¬(k:Int)<(o.length:Int):=by omega
   have hkp:=stop (fun d hd=>by rw [WR (by omega)]at hd;cases hd)
   have hsm:false=LO l[i] o:=by
    unfold LO;rw [←hkp,WR (by omega)]
   have hsf:=O6 (f:=cCl) (l:=o) (tk:=tk) (K:=.i64) (b:=Ev l[i] o) hp
   rw [←hkp]at hsf hrest
   simp only [GMb,GMc,Av,hkl,he5,hsf,hrest]
   have ht:=tail _ hkp hsm
   rw [←hkp]at ht
   simp only [GMb,GMc]at ht
   exact ht
def ltC (a b:Cl):Bool:=decide (Iu a b<0)
theorem JU (a b:Int):(a<b∧Fa a b<0)∨(a=b∧Fa a b=0)∨(b<a∧0<Fa a b):=by
 unfold Fa
 rcases Int.lt_trichotomy a b with h | h | h
 ·exact .inl ⟨h,by rw [if_pos h];decide⟩
 ·exact .inr (.inl ⟨h,by rw [if_neg (by omega),if_pos h]⟩)
 ·exact .inr (.inr ⟨h,by rw [if_neg (by omega),if_neg (by omega)];decide⟩)
theorem Nr {a b:Cl}:ltC a b=true↔a.y<b.y∨(a.y=b.y∧a.x<b.x):=by
 unfold ltC Iu
 rw [decide_eq_true_eq]
 rcases JU a.y b.y with ⟨h1,h2⟩ | ⟨h1,h2⟩ | ⟨h1,h2⟩
 ·rw [if_neg (by omega)];omega
 ·rw [if_pos h2]
  rcases JU a.x b.x with ⟨h3,h4⟩ | ⟨h3,h4⟩ | ⟨h3,h4⟩ <;> omega
 ·rw [if_neg (by omega)];omega
theorem ltC_no {a b:Cl}:ltC a b=false↔¬(a.y<b.y∨(a.y=b.y∧a.x<b.x)):=by
 rw [←Nr,Bool.not_eq_true]
theorem IB:SW ltC:=⟨fun a b h=>by rw [Nr]at h;rw [ltC_no];omega,fun a b c h k=>by rw [ltC_no]at h k ⊢;omega⟩
theorem HF {a b:Cl}:Bw ltC a b=true↔a.x=b.x∧a.y=b.y:=by
 rw [Fv,ltC_no,ltC_no];omega
theorem VS {a b:Cl}:decide (Iu a b=0)=Bw ltC a b:=by
 rw [WW,HF,decide_eq_true_eq]
 unfold Iu
 rcases JU a.y b.y with ⟨h1,h2⟩ | ⟨h1,h2⟩ | ⟨h1,h2⟩
 ·rw [if_neg (by omega)];omega
 ·rw [if_pos h2]
  rcases JU a.x b.x with ⟨h3,h4⟩ | ⟨h3,h4⟩ | ⟨h3,h4⟩ <;> omega
 ·rw [if_neg (by omega)];omega
def StrC (l:List Cl):Prop:=l.Pairwise fun a b=>ltC a b=true
theorem mem_tw {p:Cl→Bool}:∀ {l:List Cl} {a:Cl},a∈l.takeWhile p→p a=true
 | [],a,h=>by cases h
 | c::l,a,h=>by
  rw [YM]at h
  split at h
  ·rename_i hc
   rcases Xk.1 h with e | e
   ·rw [e];exact hc
   ·exact mem_tw e
  ·cases h
theorem lastStep_dec {out:List Cl} (c:Cl) (h:StrC out):∃T D R,out=T++(D++R)∧BH out c=T++(c::R)∧(∀a∈T,ltC a c=true)∧(∀a∈R,ltC c a=true)∧∀a∈D,Bw ltC a c=true:=by
 obtain ⟨T,hT⟩:∃T,T=out.takeWhile fun d=>decide (Iu d c<0):=⟨_,rfl⟩
 obtain ⟨D,hD⟩:∃D,D=out.dropWhile fun d=>decide (Iu d c<0):=⟨_,rfl⟩
 have hTD:out=T++D:=by rw [hT,hD,List.takeWhile_append_dropWhile]
 have hp:Ev c out=T.length:=by unfold Ev;rw [hT]
 have h1:out.take (Ev c out)=T:=by rw [hp,hTD,Yy]
 have h2:out.drop (Ev c out)=D:=by rw [hp,hTD,YC]
 have hlt:∀a∈T,ltC a c=true:=fun a ha=>by
  rw [hT]at ha
  exact mem_tw (p:=fun d=>decide (Iu d c<0)) ha
 have hst:=h
 unfold StrC at hst
 rw [hTD]at hst
 have hstD:=(XJ.1 hst).2.1
 have hg:out[Ev c out]? = D.head? := by
  rw [←List.head?_drop,h2]
 unfold BH IE LO
 rw [h1,h2,hg]
 cases hDc:D with
 | nil=>
  refine ⟨T,[],[],by rw [hTD,hDc];simp,by simp,hlt,fun a (ha:a∈[])=>(by cases ha),fun a (ha:a∈[])=>(by cases ha)⟩
 | cons d D'=>
  rw [hDc]at hstD
  rw [Ys]at hstD
  have hd:ltC d c=false:=by
   have:=List.head?_dropWhile_not (fun d=>decide (Iu d c<0)) out
   rw [←hD,hDc]at this
   exact this
  have hdc:decide (Iu d c=0)=Bw ltC d c:=VS
  simp only [List.head?_cons,hdc]
  by_cases he:Bw ltC d c=true
  ·rw [if_pos he]
   refine ⟨T,[d],D',by rw [hTD,hDc];simp,by simp,hlt,fun a ha=>?_,fun a ha=>by rw [WY]at ha;rw [ha];exact he⟩
   have:=hstD.1 a ha
   rw [HF]at he
   rw [Nr]at this ⊢;omega
  ·rw [if_neg he]
   refine ⟨T,[],d::D',by rw [hTD,hDc];simp,by simp,hlt,fun a ha=>?_,fun a (ha:a∈[])=>(by cases ha)⟩
   have hcd:ltC c d=true:=by
    cases e:ltC c d with
    | true=>rfl
    | false=>exact absurd (Fv.2 ⟨hd,e⟩) he
   rcases Xk.1 ha with e | e
   ·rw [e];exact hcd
   ·have:=hstD.1 a e
    rw [Nr]at this hcd ⊢;omega
theorem lastStep_str {out:List Cl} (c:Cl) (h:StrC out):StrC (BH out c)∧∀z,(if Bw ltC z c=true then ((BH out c).filter (Bw ltC z)).head? = some c else (BH out c).filter (Bw ltC z)=out.filter (Bw ltC z)):=by
 obtain ⟨T,D,R,e1,e2,hT,hR,hD⟩:=lastStep_dec c h
 have h':=h
 unfold StrC at h' ⊢
 rw [e1]at h'
 rw [XJ]at h'
 obtain ⟨p1,p2,p3⟩:=h'
 rw [XJ]at p2
 rw [e2]
 refine ⟨XJ.2 ⟨p1,Ys.2 ⟨hR,p2.2.1⟩,fun a ha b hb=>?_⟩,fun z=>?_⟩
 ·rcases Xk.1 hb with e | e
  ·rw [e];exact hT a ha
  ·exact p3 a ha b (by simp [e])
 ·by_cases hz:Bw ltC z c=true
  ·rw [if_pos hz,Xw]
   have:T.filter (Bw ltC z)=[]:=GN fun a ha=>by
    cases e:Bw ltC z a with
    | false=>rfl
    | true=>
     have:=hT a ha
     rw [HF]at e hz
     rw [Nr]at this;omega
   rw [this,List.nil_append,X8,if_pos hz];rfl
  ·rw [if_neg hz,e1,Xw,Xw,Xw,X8,if_neg hz]
   have:D.filter (Bw ltC z)=[]:=GN fun a ha=>by
    cases e:Bw ltC z a with
    | false=>rfl
    | true=>
     have:=hD a ha
     rw [HF]at e this
     exact absurd (HF.2 (by omega)) hz
   rw [this,List.nil_append]
theorem strC_mem {l:List Cl} (h:StrC l) (z:Cl):z∈l↔(l.filter (Bw ltC z)).head? = some z:=by
 constructor
 ·intro hz
  obtain ⟨A,B,rfl⟩:=List.append_of_mem hz
  unfold StrC at h
  rw [XJ]at h
  have:A.filter (Bw ltC z)=[]:=GN fun a ha=>by
   cases e:Bw ltC z a with
   | false=>rfl
   | true=>
    have:=h.2.2 a ha z (by simp)
    rw [HF]at e
    rw [Nr]at this;omega
  rw [Xw,this,List.nil_append,X8,if_pos (M0 IB z)];rfl
 ·intro hz
  exact (XT.1 (List.mem_of_mem_head? hz)).1
theorem GL:∀(l out:List Cl),StrC out→StrC (l.foldl BH out)∧∀z,z∈l.foldl BH out↔((l.reverse++out).filter (Bw ltC z)).head? = some z
 | [],out,h=>⟨h,fun z=>strC_mem h z⟩
 | c::l,out,h=>by
  obtain ⟨s1,s2⟩:=lastStep_str c h
  obtain ⟨i1,i2⟩:=GL l (BH out c) s1
  refine ⟨i1,fun z=>?_⟩
  rw [List.foldl_cons,i2 z,Za,WG,Xw,Xw]
  have hz:=s2 z
  have key:((BH out c).filter (Bw ltC z)).head? = (([c]++out).filter (Bw ltC z)).head? := by
   by_cases hc:Bw ltC z c=true
   ·rw [if_pos hc]at hz
    rw [hz,List.singleton_append,X8,if_pos hc];rfl
   ·rw [if_neg hc]at hz
    rw [hz,List.singleton_append,X8,if_neg hc]
  rw [List.head?_append,List.head?_append,key]
theorem cp_last {l S:List Cl} (h:DS ltC S) (hst:ES ltC l.reverse S):cpL ltC S=C0 l:=by
 obtain ⟨c1,c2⟩:=cpL_ok IB h
 obtain ⟨f1,f2⟩:=GL l [] List.Pairwise.nil
 refine O5 IB _ _ c1 f1 fun z=>?_
 rw [c2 z,←hst z]
 show _↔z∈l.foldl BH []
 rw [f2 z,Xl]
section
variable {p g i j n:Nat} {l l':List Cl} {H:Aa}
def C6 (H:Aa) (p g:Nat) (l:List Cl):Prop:=H[p]? = some (.buf g (flat cCl l) A6 5)
def B5 (H:Aa) (p g:Nat) (l:List Cl):Aa:=H.set p (.buf g (flat cCl l) A6 5)
abbrev dV (p g n:Nat):Ab:=.ms p g 0 n n 5 false
theorem row_get (h:C6 H p g l):A1 H p g=some (flat cCl l):=by
 unfold C6 at h
 simp [A1,h]
theorem BY (h:C6 H p g l) (hi:i<l.length):Ac true 5 (.ptr p g (i*5)) H=some (.agg (cCl l[i])):=by
 simp only [Ac,row_get h,Option.bind_some,if_true,JO hi,S9 hi]
theorem row_st (h:C6 H p g l) (hi:i<l.length) (a:Cl):Ah 5 (.ptr p g (i*5)) (.agg (cCl a)) H=some (B5 H p g (l.set i a)):=by
 have hs:FJ H p g (flat cCl (l.set i a))=B5 H p g (l.set i a):=by
  have h':=h
  unfold C6 at h'
  unfold FJ B5
  rw [h']
 simp only [Ah,row_get h,Option.bind_some,NA,show (cCl a).length=5 from rfl,JO hi,and_self,if_true,Ui hi,hs]
theorem C9 (h:C6 H p g l):C6 (B5 H p g l') p g l':=by
 have:p<H.length:=(WC.1 h).1
 unfold C6 B5
 rw [WS this]
theorem Bq:B5 (B5 H p g l) p g l'=B5 H p g l':=by unfold B5;rw [List.set_set]
theorem Ck (h:C6 H p g l):B5 H p g l=H:=by
 unfold C6 at h
 unfold B5
 apply XZ
 intro i
 rw [Z4]
 split
 ·rename_i e
  subst e
  rw [h]
  rw [if_pos (WC.1 h).1]
 ·rfl
theorem BD (h:i<n):At 5 (dV p g n) (.int .i64 (i:Int))=some (.ptr p g (i*5)):=by
 rw [Cy h,WE]
theorem swp_eq (hi:i<l.length) (hj:j<l.length):swp l i j=(l.set i l[j]).set j l[i]:=by
 unfold swp
 rw [WB hi,WB hj]
theorem swp_mem {c:Cl} (h:c∈swp l i j):c∈l:=by
 unfold swp at h
 split at h
 ·rename_i a b ha hb
  rcases YX h with h | h
  ·rcases YX h with h | h
   ·exact h
   ·rw [h];exact Xj hb
  ·rw [h];exact Xj ha
 ·exact h
theorem Tl (h:C6 H p g l) (hi:i<l.length) (hj:j<l.length):Ah 5 (.ptr p g (i*5)) (.agg (cCl l[j])) H=some (B5 H p g (l.set i l[j]))∧Ah 5 (.ptr p g (j*5)) (.agg (cCl l[i])) (B5 H p g (l.set i l[j]))=some (B5 H p g (swp l i j)):=by
 refine ⟨row_st h hi _,?_⟩
 rw [row_st (C9 h) (by rw [Xo];exact hj),Bq,swp_eq hi hj]

end
def UO (orc:Orc) (f:Ab) (l:List Cl):Prop:=∀c∈l,∀d∈l,∀H,Dg orc f [.agg (cCl c),.agg (cCl d)] H=some (.ret (.int .i64 (Iu c d)),H)
theorem insJ_mem (a:Nat) {c:Cl}:∀(j:Nat) (l:List Cl),c∈JL ltC a j l→c∈l
 | 0,l,h=>h
 | j+1,l,h=>by
  unfold JL at h
  split at h
  ·exact swp_mem (insJ_mem a j _ h)
  ·exact h
theorem insN_mem (a:Nat) {c:Cl}:∀(k:Nat) (l:List Cl),c∈Sc ltC a k l→c∈l
 | 0,l,h=>h
 | k+1,l,h=>insN_mem a k l (insJ_mem a _ _ h)
theorem JS (c d:Cl):decide (Iu c d<0)=ltC c d:=rfl
section
variable {p g a b:Nat} {f:Ab}
theorem ins_l2 {l0:List Cl} {i:Nat} (hf:UO A4 f l0) (B:Aa) (rec1:LK) {l:List Cl} {H:Aa} (h:C6 H p g l) (hm:∀c∈l,c∈l0) (hi:i<l.length) (hl:l.length<1000000000) :
  An (fun rec2 vs H1=>Sh.f4t B rec1 rec2 (ag vs 0) (ag vs 1) (ag vs 2) (ag vs 3) (ag vs 4) (ag vs 5) H1) AM [dV p g l.length,.int .i64 (a:Int),.int .i64 (b:Int),f,.int .i64 (i:Int),.int .i64 (i:Int)] H =
   rec1 [dV p g l.length,.int .i64 (a:Int),.int .i64 (b:Int),f,.int .i64 ((i+1:Nat):Int)] (B5 H p g (JL ltC a i l)):=by
 have key:=Bl (G:=fun rec2 vs H1=>Sh.f4t B rec1 rec2 (ag vs 0) (ag vs 1) (ag vs 2) (ag vs 3) (ag vs 4) (ag vs 5) H1) (σ:=Nat×List Cl) (fun s=>s.1<l.length∧s.2.length=l.length∧∀c∈s.2,c∈l0)
  (fun s=>[dV p g l.length,.int .i64 (a:Int),.int .i64 (b:Int),f,.int .i64 (i:Int),.int .i64 (s.1:Int)]) (fun s=>B5 H p g s.2) (fun s=>s.1)
  (fun s=>rec1 [dV p g l.length,.int .i64 (a:Int),.int .i64 (b:Int),f,.int .i64 ((i+1:Nat):Int)] (B5 H p g (JL ltC a s.1 s.2))) (fun s rec2 hs hrec=>?_) (i,l) ⟨hi,rfl,hm⟩ (by dsimp only;omega)
 ·rw [Ck h]at key;exact key
 ·obtain ⟨j,L⟩:=s
  obtain ⟨h1,h2,h3⟩:=hs
  dsimp only at h1 h2 h3 hrec ⊢
  have hr:C6 (B5 H p g L) p g L:=C9 h
  have hwi:=Aw (show i<9223372036854775807 by omega)
  unfold Sh.f4t
  by_cases hja:a<j
  ·obtain ⟨k,rfl⟩:∃k,j=k+1:=⟨j-1,by omega⟩
   have hg:decide (((k+1:Nat):Int)>(a:Int))=true:=decide_eq_true (by omega)
   have hw:IntKind.i64.wrap (((k+1:Nat):Int)-1)=(k:Int):=by rw [Al] <;> omega
   have hk1:k+1<L.length:=by omega
   have hk:k<L.length:=by omega
   have c1:=hf L[k+1] (h3 _ (WP hk1)) L[k] (h3 _ (WP hk))
   obtain ⟨s1,s2⟩:=Tl hr hk1 hk
   rw [Bq]at s1 s2
   rw [Bq]at s2
   have hlt:HA ltC L (k+1) k=ltC L[k+1] L[k]:=S3 hk1 hk
   simp only [Aj,Ai,AS,AY,Bo,B6,Di,GMb,GMc,hg,BD h1,BD (show k<l.length by omega),BY hr hk1,BY hr hk,B9,c1,Br,hw,JS]
   cases hc:ltC L[k+1] L[k]with
   | true=>
    have hins:JL ltC a (k+1) L=JL ltC a k (swp L (k+1) k):=by
     conv=>lhs;unfold JL
     rw [hlt,hc,if_pos ⟨hja,rfl⟩]
    simp only [GMb,GMc,BY hr hk1,BY hr hk,B9,BD h1,BD (show k<l.length by omega),s1,s2,Bq,hw]
    have hr2:=hrec (k,swp L (k+1) k) ⟨by omega,by rw [Na];exact h2,fun c hc=>h3 c (swp_mem hc)⟩ (Nat.lt_succ_self _)
    dsimp only at hr2
    rw [hr2,hins]
   | false=>
    have hins:JL ltC a (k+1) L=L:=by
     unfold JL
     rw [hlt,hc,if_neg (fun h=>by cases h.2)]
    simp only [GMb,GMc,hwi]
    rw [hins]
  ·have hg:decide ((j:Int)>(a:Int))=false:=decide_eq_false (by omega)
   have hins:JL ltC a j L=L:=by
    cases j with
    | zero=>rfl
    | succ k=>unfold JL;rw [if_neg (fun h=>hja h.1)]
   simp only [Aj,Ai,AS,AY,Bo,B6,Di,GMb,GMc,hg,hwi]
   rw [hins]
theorem ins_sort {l0:List Cl} (hf:UO A4 f l0) {l:List Cl} {H:Aa} (h:C6 H p g l) (hm:∀c∈l,c∈l0) (hab:a≤b) (hb:b≤l.length) (hl:l.length<1000000000) :
  Sh.fp (dV p g l.length) (.int .i64 (a:Int)) (.int .i64 (b:Int)) f H=some (.ret (.tup []),B5 H p g (Sc ltC a (b-a-1) l)):=by
 have hwa:=Aw (show a<9223372036854775807 by omega)
 unfold Sh.fp
 simp only [GMb,GMc,hwa]
 have key:=Bl (G:=fun rec1 vs H1=>Sh.f4u H rec1 (ag vs 0) (ag vs 1) (ag vs 2) (ag vs 3) (ag vs 4) H1) (σ:=Nat) (fun k=>k≤b-a-1)
  (fun k=>[dV p g l.length,.int .i64 (a:Int),.int .i64 (b:Int),f,.int .i64 ((a+1+k:Nat):Int)]) (fun k=>B5 H p g (Sc ltC a k l)) (fun k=>b-a-1-k)
  (fun _=>some (.ret (.tup []),B5 H p g (Sc ltC a (b-a-1) l))) (fun k rec hk hrec=>?_) 0 (Xd _) (by omega)
 ·rw [show Sc ltC a 0 l=l from rfl,Ck h]at key;exact key
 ·unfold Sh.f4u
  have hr:C6 (B5 H p g (Sc ltC a k l)) p g (Sc ltC a k l):=C9 h
  have hln:=insN_len (lt:=ltC) a k l
  by_cases hlt:a+1+k<b
  ·have hd:decide (((a+1+k:Nat):Int)<(b:Int))=true:=decide_eq_true (by omega)
   have h2:=ins_l2 (a:=a) (b:=b) (i:=a+1+k) hf H rec hr (fun c hc=>hm c (insN_mem a k l hc)) (by omega) (by omega)
   rw [hln,Bq]at h2
   simp only [Aj,Ai,AS,AY,Bo,B6,GMb,GMc,hd]
   rw [h2]
   exact hrec (k+1) (by omega) (by omega)
  ·have hd:decide (((a+1+k:Nat):Int)<(b:Int))=false:=decide_eq_false (by omega)
   have e:k=b-a-1:=by omega
   simp only [Aj,Ai,AS,AY,Bo,B6,GMb,GMc,hd]
   rw [←e]
theorem swap_range {l:List Cl} {n:Nat} {H:Aa} (h:C6 H p g l) (ha:a+n≤l.length) (hb:b+n≤l.length) (hl:l.length<1000000000) :
  Sh.f17 (dV p g l.length) (.int .i64 (a:Int)) (.int .i64 (b:Int)) (.int .i64 (n:Int)) f H=some (.ret (.tup []),B5 H p g (swR a b n l)):=by
 unfold Sh.f17
 have key:=Cf (G:=fun rec1 vs H1=>Sh.f4v H rec1 (ag vs 0) (ag vs 1) (ag vs 2) (ag vs 3) (ag vs 4) H1) n
  (fun k=>[dV p g l.length,.int .i64 (a:Int),.int .i64 (b:Int),.int .i64 (n:Int),.int .i64 (k:Int)]) (fun k=>B5 H p g (swR a b k l)) (some (.ret (.tup []),B5 H p g (swR a b n l))) (by omega) (fun rec k hk=>?_) (fun rec=>?_)
 ·rw [show swR a b 0 l=l from rfl,Ck h]at key;exact key
 ·unfold Sh.f4v
  have hr:C6 (B5 H p g (swR a b k l)) p g (swR a b k l):=C9 h
  have hln:=Sw a b k l
  have hd:decide ((k:Int)<(n:Int))=true:=decide_eq_true (by omega)
  have hwk:=Aw (show k<9223372036854775807 by omega)
  have hw1:IntKind.i64.wrap ((a:Int)+(k:Int))=((a+k:Nat):Int):=by rw [Al] <;> omega
  have hw2:IntKind.i64.wrap ((b:Int)+(k:Int))=((b+k:Nat):Int):=by rw [Al] <;> omega
  have i1:a+k<(swR a b k l).length:=by omega
  have i2:b+k<(swR a b k l).length:=by omega
  obtain ⟨s1,s2⟩:=Tl hr i1 i2
  rw [Bq]at s1 s2
  rw [Bq]at s2
  simp only [Aj,Ai,AS,AY,Bo,B6,GMb,GMc,hd,hw1,hw2,BD (show a+k<l.length by omega),BD (show b+k<l.length by omega),BY hr i1,BY hr i2,B9,s1,s2,Br,AK,hwk]
  rfl
 ·unfold Sh.f4v
  have hd:decide ((n:Int)<(n:Int))=false:=decide_eq_false (by omega)
  simp only [Aj,Ai,AS,AY,Bo,B6,GMb,GMc,hd]
theorem rotate_ok {A B U V:List Cl} {m:Nat} {H:Aa} (h:C6 H p g (A++(U++(V++B)))) (ha:a=A.length) (hm:m=a+U.length) (hb:b=m+V.length) (hU:0<U.length) (hV:0<V.length) (hl:(A++(U++(V++B))).length<1000000000) :
  Sh.f2k (dV p g (A++(U++(V++B))).length) (.int .i64 (a:Int)) (.int .i64 (m:Int)) (.int .i64 (b:Int)) f H=some (.ret (.tup []),B5 H p g (A++((V++U)++B))):=by
 obtain ⟨l,hL⟩:∃l,l=A++(U++(V++B)):=⟨_,rfl⟩
 have hst:OT A B (V++U) m U.length V.length l:=by rw [hL,hm,ha];exact OT.start hU hV
 rw [←hL]at h hl ⊢
 have hlen:=hst.len
 have hw1:IntKind.i64.wrap ((m:Int)-(a:Int))=(U.length:Int):=by rw [Al] <;> omega
 have hw2:IntKind.i64.wrap ((b:Int)-(m:Int))=(V.length:Int):=by rw [Al] <;> omega
 unfold Sh.f2k
 simp only [GMb,GMc,hw1,hw2]
 have key:=Bl (G:=fun rec1 vs H1=>Sh.f64 H rec1 (ag vs 0) (ag vs 1) (ag vs 2) (ag vs 3) (ag vs 4) H1) (σ:=(Nat×Nat)×List Cl) (fun s=>OT A B (V++U) m s.1.1 s.1.2 s.2∧s.2.length=l.length)
  (fun s=>[dV p g l.length,.int .i64 (m:Int),f,.int .i64 (s.1.1:Int),.int .i64 (s.1.2:Int)]) (fun s=>B5 H p g s.2) (fun s=>s.1.1+s.1.2)
  (fun _=>some (.ret (.tup []),B5 H p g (A++((V++U)++B)))) (fun s rec hs hrec=>?_) ((U.length,V.length),l) ⟨hst,rfl⟩ (by dsimp only;omega)
 ·rw [Ck h]at key;exact key
 ·obtain ⟨⟨i,j⟩,L⟩:=s
  obtain ⟨h1,h2⟩:=hs
  dsimp only at h1 h2 hrec ⊢
  have hr:C6 (B5 H p g L) p g L:=C9 h
  obtain ⟨q1,q2⟩:=h1.len
  obtain ⟨p1,p2⟩:=h1.pos
  have hsw:=fun (x y n:Nat) (h3:x+n≤L.length) (h4:y+n≤L.length)=>swap_range (f:=f) (a:=x) (b:=y) (n:=n) hr h3 h4 (by omega)
  rw [h2]at hsw
  have hwm:IntKind.i64.wrap ((m:Int)-(i:Int))=((m-i:Nat):Int):=by rw [Al] <;> omega
  unfold Sh.f64
  by_cases hij:i=j
  ·subst hij
   have hd:((i:Int) != (i:Int))=false:=by simp
   simp only [Aj,Ai,AS,AY,Bo,B6,GMb,GMc,hd,hwm,hsw (m-i) m i (by omega) (by omega),Bq]
   rw [h1.eq]
  ·have hd:((i:Int) != (j:Int))=true:=by simp;omega
   by_cases hgt:j<i
   ·have hd2:decide ((i:Int)>(j:Int))=true:=decide_eq_true (by omega)
    have hwi:IntKind.i64.wrap ((i:Int)-(j:Int))=((i-j:Nat):Int):=by rw [Al] <;> omega
    simp only [Aj,Ai,AS,AY,Bo,B6,GMb,GMc,hd,hd2,hwm,hwi,hsw (m-i) m j (by omega) (by omega),Bq]
    exact hrec ((i-j,j),swR (m-i) m j L) ⟨h1.hi hgt,by rw [Sw];exact h2⟩ (by dsimp only;omega)
   ·have hd2:decide ((i:Int)>(j:Int))=false:=decide_eq_false (by omega)
    have hwi:IntKind.i64.wrap ((j:Int)-(i:Int))=((j-i:Nat):Int):=by rw [Al] <;> omega
    have hwj:IntKind.i64.wrap ((m:Int)+(j:Int))=((m+j:Nat):Int):=by rw [Al] <;> omega
    have hwk:IntKind.i64.wrap (((m+j:Nat):Int)-(i:Int))=((m+j-i:Nat):Int):=by rw [Al] <;> omega
    simp only [Aj,Ai,AS,AY,Bo,B6,GMb,GMc,hd,hd2,hwm,hwi,hwj,hwk,hsw (m-i) (m+j-i) i (by omega) (by omega),Bq]
    exact hrec ((i,j-i),swR (m-i) (m+j-i) i L) ⟨h1.lo (by omega),by rw [Sw];exact h2⟩ (by dsimp only;omega)

end
def Row1 (v:Ab) (H:Aa) (l:List Nat):Prop:=A2 v=some (.int .i64 (l.length:Int))∧∀(i:Nat) (h:i<l.length),∃p,At 1 v (.int .i64 (i:Int))=some p∧∀G,Ac false 1 p (H++G)=some (.int .u32 (l[i]:Int))
theorem row_ms {l:List Nat} {H:Aa} {id:Nat} (hg:H[id]? = some (.cel 0 (flat cU l))):Row1 (.ms id 0 0 l.length l.length 1 true) H l:=by
 refine ⟨rfl,fun i h=>?_⟩
 have hidx:=Cy (sz:=1) (id:=id) (n:=l.length) (K:=.i64) (g:=0) (off:=0) (cap:=l.length) (ex:=true) (i:=i) h
 simp only [WE,WQ]at hidx
 exact ⟨_,hidx,fun G=>Bz (Ib (f:=cU) (A5 hg) h)⟩
theorem q01_bitsR {v:Ab} {H:Aa} {l:List Nat} (hv:Row1 v H l) (hl:l.length≤2199023255552) (hx:Lim l):Sh.f2 v H=some (.ret (.sl (enL cB (CU (AL l))) .no),H):=by
 unfold Sh.f2
 refine Cf l.length (fun i=>[v,EK cB H (AL (l.take i)),.int .i64 (i:Int)]) (fun i=>DW cB BE 1 H (AL (l.take i))) _ (by omega) (fun rec i hi=>?_) (fun rec=>?_)
 ·have hi':(i:Int)<(l.length:Int):=by omega
  have hxi:l[i]<4294967296:=hx _ (WP hi)
  have htk:AL (l.take (i+1))=AL (l.take i)++CV 32 l[i]:=by
   rw [WM hi,AL,Ya];simp [AL]
  have hlen:(AL (l.take i)).length≤32*2199023255552:=by rw [BP];simp;omega
  obtain ⟨p,hp1,hp2⟩:=hv.2 i hi
  obtain ⟨G,hG⟩:=HZ (f:=cB) (ty:=BE) (sz:=1) H (AL (l.take i))
  have hld:Ac false 1 p (DW cB BE 1 H (AL (l.take i)))=some (.int .u32 (l[i]:Int)):=by rw [hG];exact hp2 G
  unfold Sh.f4g
  simp only [Aj,AS,AY,hv.1,BC,Bf,hi',decide_true,AN,hp1,hld,htk]
  generalize AL (l.take i)=o at hlen
  generalize l[i]=x at hxi
  refine Bl (σ:=Nat×Nat×List Bool) (fun s=>s.1≤32∧s.2.1<4294967296∧s.2.2.length≤o.length+s.1) (fun s=>[v,EK cB H s.2.2,.int .i64 (i:Int),.int .u32 (s.2.1:Int),.int .i64 (s.1:Int)]) (fun s=>DW cB BE 1 H s.2.2) (fun s=>32-s.1)
   (fun s=>rec [v,EK cB H (s.2.2++CV (32-s.1) s.2.1),.int .i64 ((i+1:Nat):Int)] (DW cB BE 1 H (s.2.2++CV (32-s.1) s.2.1))) (fun s rec2 hs hrec=>?_) (0,x,o) ⟨by dsimp only;omega,hxi,by dsimp only;omega⟩ (by dsimp only;omega)
  obtain ⟨k,y,p⟩:=s
  obtain ⟨hk,hy,hp⟩:=hs
  simp only at hk hy hp hrec ⊢
  unfold Sh.f6j
  by_cases h:k<32
  ·have h':(k:Int)<32:=by omega
   have e1:(y:Int).tmod 2=((y%2:Nat):Int):=rfl
   have e2:IntKind.u32.wrap ((y:Int).tdiv 2)=((y / 2:Nat):Int):=by rw [show (y:Int).tdiv 2=((y / 2:Nat):Int) from rfl,CJ] <;> omega
   have e3:decide (((y%2:Nat):Int)=1)=(y%2 == 1):=by rw [WW];simp only [beq_iff_eq,decide_eq_true_eq];omega
   have e4:IntKind.i64.wrap ((k:Int)+1)=((k+1:Nat):Int):=by rw [Al] <;> omega
   have:=hrec (k+1,y / 2,p++[y%2 == 1]) ⟨h,by dsimp only;omega,by simp;omega⟩ (by dsimp only;omega)
   simp only [Aj,AS,AY,Bo,B6,Bf,h',decide_true,BC,AN,In (show (2:Int)≠0 by decide),SL (show (2:Int)≠0 by decide),e1,e2,DR,GE,e3,SK]
   rw [FC (by simp) (by simp;omega) (by simp;omega)]
   simp only [CL,Cs,BX,BC,e4,this]
   rw [show 32-k=(32-(k+1))+1 from by omega,CV];simp
  ·have:k=32:=by omega
   subst this
   have e4:IntKind.i64.wrap ((i:Int)+1)=((i+1:Nat):Int):=by rw [Al] <;> omega
   simp [CV,e4]
 ·unfold Sh.f4g
  obtain ⟨G,hG⟩:=HZ (f:=cB) (ty:=BE) (sz:=1) H (AL l)
  rw [WN (WF _)]
  simp only [Aj,AS,AY,GD,hG,hv.1,BC,Bf,XA,decide_false,AI,q01_cut (AL l) _ _ (by rw [BP];omega),Cs,Ct,Fu,Option.map_some]
theorem q01_normR {v:Ab} {H:Aa} {l:List Nat} (hv:Row1 v H l) (hl:l.length≤1099511627776) (hx:Lim l):Sh.fr v H=some (.ret (.sl (enL cU (A0 (val l))) .no),H):=by
 have hc:=Hl (AL l)
 rw [BP]at hc
 unfold Sh.fr
 rw [q01_bitsR hv (by omega) hx]
 simp only [EA]
 rw [Tu _ _ _ (by omega)]
 simp only [EA,DE,Wn,DZ,Es l hx]
theorem SQ (a:Nat) (l:List Nat):val (a::l)=a+4294967296*val l:=rfl
theorem div_step {m a v:Nat} (hm:0<m):(a+4294967296*v) / m=(v%m*4294967296+a) / m+4294967296*(v / m)∧(a+4294967296*v)%m=(v%m*4294967296+a)%m:=by
 have h:=Yj v m
 have e:a+4294967296*v=(v%m*4294967296+a)+m*(4294967296*(v / m)):=by
  conv=>lhs;rw [←h]
  rw [XI,Nat.mul_left_comm]
  omega
 rw [e,Zp _ _ hm,YW]
 exact ⟨rfl,rfl⟩
theorem quo_lt {m a r:Nat} (hr:r<m) (ha:a<4294967296):(r*4294967296+a) / m<4294967296:=by
 rw [XV (by omega)]
 have:(r+1)*4294967296≤m*4294967296:=X0 _ hr
 omega
theorem q01_div (l:List Nat) (tk:Tok) (m:Nat) (H:Aa) (hl:l.length≤1099511627776) (hx:Lim l) (hm0:0<m) (hm:m<4294967296) :
  Sh.f3w (.sl (enL cU l) tk) (.int .u32 (m:Int)) H=some (.ret (.tup [.sl (enL cU (A0 (val l / m))) .no,.int .u32 ((val l%m:Nat):Int)]),H):=by
 unfold Sh.f3w
 have hm0':¬(m:Int)=0:=by omega
 have hmk:=FG (f:=cU) (a:=0) (n:=l.length) (bytes:=4) (H:=H) (by omega) (by omega)
 simp only [show cU 0=[Ab.int .u32 0] from rfl]at hmk
 have hcm:∀n:Int,A9 .u64 (.int .u32 (m:Int))=some (.int .u64 (m:Int)):=fun _=>by rw [By,Cu (by omega) (by omega)]
 simp only [GMb,GMc,hm0',Av,hmk]
 have hw0:IntKind.i64.wrap ((l.length:Int)-1)=(l.length:Int)-1:=Al (by omega) (by omega)
 rw [hw0]
 have key:=Bl (G:=fun rec1 vs H1=>Sh.f6o H rec1 (ag vs 0) (ag vs 1) (ag vs 2) (ag vs 3) (ag vs 4) H1) (σ:=Nat×List Nat) (fun s=>s.1≤l.length∧s.2.length=l.length∧Lim s.2∧val (s.2.drop s.1)=val (l.drop s.1) / m)
  (fun s=>[.sl (enL cU l) tk,.int .u32 (m:Int),.ms H.length 0 0 l.length l.length 1 true,.int .u64 ((val (l.drop s.1)%m:Nat):Int),.int .i64 ((s.1:Int)-1)]) (fun s=>H++[.cel 0 (flat cU s.2)]) (fun s=>s.1)
  (fun _=>some (.ret (.tup [.sl (enL cU (A0 (val l / m))) .no,.int .u32 ((val l%m:Nat):Int)]),H)) (fun s rec hs hrec=>?_) (l.length,List.replicate l.length 0) ⟨WF _,by simp,fun x hx=>by have:=(Zw.1 hx).2;omega,by simp [val]⟩ (by dsimp only;omega)
 ·simp only [Z8,show val []=0 from rfl,Nat.zero_mod]at key
  exact key
 ·obtain ⟨k,O⟩:=s
  obtain ⟨h1,h2,h3,h4⟩:=hs
  simp only at h1 h2 h3 h4 hrec ⊢
  unfold Sh.f6o
  cases k with
  | zero=>
   have hrow:=row_ms (l:=O) (H:=H++[Blk.cel 0 (flat cU O)]) (id:=H.length) Ar
   rw [h2]at hrow
   have hn:=q01_normR hrow (by omega) h3
   have hv:val O=val l / m:=by simpa using h4
   have hlt:val l%m<m:=XG _ hm0
   have hcv:A9 .u32 (.int .u64 ((val l%m:Nat):Int))=some (.int .u32 ((val l%m:Nat):Int)):=by rw [By,CJ (by omega) (by omega)]
   simp only [GMb,GMc,Ai,show ¬(((0:Nat):Int)-1≥0) from by decide,hn,Yd,hcv,hv,Ct,FW,Da,DK,P8,N0,Option.map_some]
  | succ j=>
   have hj:j<l.length:=h1
   have hi:((j+1:Nat):Int)-1=(j:Int):=by omega
   have ha:=hx _ (WP hj)
   have hd:l.drop j=l[j]::l.drop (j+1):=Xf hj
   have hr:val (l.drop (j+1))%m<m:=XG _ hm0
   obtain ⟨s1,s2⟩:=div_step (m:=m) (a:=l[j]) (v:=val (l.drop (j+1))) hm0
   have hq:=quo_lt (m:=m) (a:=l[j]) (r:=val (l.drop (j+1))%m) hr ha
   have hmul:val (l.drop (j+1))%m*4294967296≤4294967295*4294967296:=X0 _ (by omega)
   generalize hrr:val (l.drop (j+1))%m=r at *
   have w1:IntKind.u64.wrap ((r:Int)*4294967296)=((r*4294967296:Nat):Int):=by rw [Cu] <;> omega
   have w2:A9 .u64 (.int .u32 (l[j]:Int))=some (.int .u64 (l[j]:Int)):=by rw [By,Cu (by omega) (by omega)]
   have w3:IntKind.u64.wrap (((r*4294967296:Nat):Int)+(l[j]:Int))=((r*4294967296+l[j]:Nat):Int):=by rw [Cu] <;> omega
   have w4:IntKind.u64.wrap (((r*4294967296+l[j]:Nat):Int).tdiv (m:Int))=(((r*4294967296+l[j]) / m:Nat):Int):=by
    rw [show (((r*4294967296+l[j]:Nat):Int).tdiv (m:Int))=(((r*4294967296+l[j]) / m:Nat):Int) from rfl,Cu (Zx _) (Int.lt_of_lt_of_le (Int.ofNat_lt.2 hq) (by decide))]
   have w5:A9 .u32 (.int .u64 (((r*4294967296+l[j]) / m:Nat):Int))=some (.int .u32 (((r*4294967296+l[j]) / m:Nat):Int)):=by rw [By,CJ (Zx _) (Int.ofNat_lt.2 hq)]
   have w6:(((r*4294967296+l[j]:Nat):Int).tmod (m:Int))=(((r*4294967296+l[j])%m:Nat):Int):=rfl
   have w7:IntKind.i64.wrap ((j:Int)-1)=(j:Int)-1:=Al (by omega) (by omega)
   have hidx:=Cy (sz:=1) (id:=H.length) (n:=l.length) (K:=.i64) (g:=0) (off:=0) (cap:=l.length) (ex:=true) (i:=j) hj
   simp only [WE,WQ]at hidx
   have hst:=DV (f:=cU) (sz:=1) (l:=O) (i:=j) (a:=(r*4294967296+l[j]) / m) (v:=.int .u32 (((r*4294967296+l[j]) / m:Nat):Int)) (H:=H++[Blk.cel 0 (flat cU O)]) (id:=H.length) (A5 Ar) (by omega) rfl
   rw [WQ,BT Ar,Bv]at hst
   have hge:((j:Int)≥0):=by omega
   have hmz:(m:Int)≠0:=hm0'
   have:=hrec (j,O.set j ((r*4294967296+l[j]) / m)) ⟨by omega,by simp [h2],fun x hxx=>by
     rcases YX hxx with h | h
     ·exact h3 x h
     ·rw [h];exact hq,by
     dsimp only
     rw [hd,SQ,s1,List.drop_set,if_neg (by omega),Xn,Xf (by omega:j<O.length),List.set_cons_zero,SQ,h4]⟩ (by dsimp only;omega)
   dsimp only at this
   rw [hd,SQ,s2]at this
   rw [hi]
   simp only [GMb,GMc,Ai,hge,w1,Ax hj,A7,List.getElem?_cons_zero,w2,w3,hcm 0,SL hmz,w4,w5,hidx,hst,and_true,eq_self,In hmz,w6,w7]
   exact this
def BV (n:Nat):List UInt8:=if h:n<10 then [UInt8.ofNat (48+n)]else BV (n / 10)++[UInt8.ofNat (48+n%10)]
termination_by n
decreasing_by omega
def Do (z:Int):List UInt8:=if z<0 then 45::BV z.natAbs else BV z.natAbs
theorem decN_log:∀(k n:Nat),n<10^(k+1)→(BV n).length≤k+1:=by
 intro k
 induction k with
 | zero=>intro n h;unfold BV;rw [dif_pos (by omega)];simp
 | succ k ih=>
  intro n h
  unfold BV
  split
  ·simp
  ·have h2:n / 10<10^(k+1):=by
    rw [XV (by omega),←Nat.pow_succ];exact h
   have:=ih (n / 10) h2
   simp;omega
theorem QX (k n:Nat) (h:n<10^k):(BV n).length≤k+(if k=0 then 1 else 0):=by
 cases k with
 | zero=>have:=decN_log 0 n (by omega);simpa using this
 | succ k=>have:=decN_log k n h;simpa using this
theorem digit_u8 {d:Nat} (h:d<10):A9 .u8 (.int .u32 (IntKind.u32.wrap (48+(d:Int))))=some (.int .u8 ((UInt8.ofNat (48+d)).toNat:Int)):=by
 rw [By,CJ (by omega) (by omega),Sr (by omega) (by omega),Ym (show 48+d<256 by omega)]
 rfl
theorem pow10_32 (k:Nat):10^k≤4294967296^k:=Nat.pow_le_pow_left (by omega) k
theorem TW {n:Nat} (h:n<10^4096):(A0 n).length≤4096:=Ec (X5 h (pow10_32 4096))
theorem q03_text (z:Int) (H:Aa) (hz:z.natAbs<10^4096):Sh.f9 (big z) H=some (.ret (.str (Do z)),H):=by
 unfold Sh.f9
 have g0:Ac false 1 (.ptr H.length 0 0) (H++[Blk.cel 0 (AD z)])=some (.bool (decide (z<0))):=by simp only [Ac,A5 Ar,Option.bind_some];rfl
 have g1:Ac false 1 (.ptr H.length 0 1) (H++[Blk.cel 0 (AD z)])=some (.sl (enL cU (A0 z.natAbs)) .no):=by simp only [Ac,A5 Ar,Option.bind_some];rfl
 simp only [GMb,GMc,D6,Ag,WE,g1]
 have hmeas:∀n:Nat,n<10^4096→(BV n).length≤4096:=fun n h=>QX 4096 n h
 have key:=Bl (G:=fun rec1 vs H1=>Sh.f4m H rec1 (ag vs 0) (ag vs 1) (ag vs 2) H1) (σ:=Nat×List UInt8) (fun s=>s.1<10^4096∧s.2.length+(BV s.1).length≤5000)
  (fun s=>[.ptr H.length 0 0,.str s.2,.sl (enL cU (A0 s.1)) .no]) (fun _=>H++[.cel 0 (AD z)]) (fun s=>(BV s.1).length)
  (fun s=>some (.ret (.str ((if z<0 then [45]else [])++BV s.1++s.2)),H)) (fun s rec hs hrec=>?_) (z.natAbs,[]) ⟨hz,by have:=hmeas _ hz;simp;omega⟩ (by have:=hmeas _ hz;dsimp only;omega)
 ·refine key.trans ?_
  unfold Do
  dsimp only
  split <;> simp
 ·obtain ⟨n,s⟩:=s
  obtain ⟨h1,h2⟩:=hs
  simp only at h1 h2 hrec ⊢
  have hdiv:=fun H=>q01_div (A0 n) .no 10 H (by have:=TW h1;omega) (Bh n) (by omega) (by omega)
  simp only [Bp,show ((10:Nat):Int)=10 from rfl]at hdiv
  have hd:n%10<10:=XG _ (by omega)
  have hdig:=digit_u8 hd
  unfold Sh.f4m
  simp only [GMb,GMc,Ai,hdiv,Cn,Cz,hdig,build_Y,V5]
  rw [CQ (by simp;omega)]
  simp only [GMb,GMc,Av]
  by_cases hn:n<10
  ·have h0:n / 10=0:=by omega
   have hm:n%10=n:=by omega
   have hdn:BV n=[UInt8.ofNat (48+n)]:=by unfold BV;rw [dif_pos hn]
   rw [hdn,h0,CW,hm]
   simp only [GMb,GMc,List.length_nil,show ((0:Nat):Int)=0 from rfl,Ag,Nat.add_zero,g0]
   by_cases hz0:z<0
   ·simp only [hz0,GMb,GMc]
    rw [CQ (by simp;omega)]
    simp only [GMb,GMc,rP_str]
    simp
   ·simp only [hz0,GMb,GMc,rP_str]
    simp
  ·have h0:n / 10≠0:=by omega
   have hne:¬((A0 (n / 10)).length:Int)=0:=by
    have:=Xx.2 (Nv h0);omega
   have hdn:BV n=BV (n / 10)++[UInt8.ofNat (48+n%10)]:=by
    conv=>lhs;unfold BV
    rw [dif_neg hn]
   have hlen:(BV n).length=(BV (n / 10)).length+1:=by rw [hdn];simp
   have:=hrec (n / 10,[UInt8.ofNat (48+n%10)]++s) ⟨X6 (Nat.div_le_self _ _) h1,by simp;omega⟩ (by dsimp only;omega)
   simp only [hne,GMb,GMc]
   rw [this,hdn]
   simp
def qa (v:Nat) (x:Int) (k:Nat):Int:=if k%2=1 then x+2^(v-1)else x
def qb (v:Nat) (y:Int) (k:Nat):Int:=if 1<k then y+2^(v-1)else y
def inQ (v:Nat) (a b:Int) (c:Cl):Bool:=decide (a≤c.x)&&decide (c.x<a+2^(v-1))&&decide (b≤c.y)&&decide (c.y<b+2^(v-1))
def OA (v:Nat) (x y:Int) (k:Nat) (l:List Cl):List Cl:=l.filter (inQ v (qa v x k) (qb v y k))
def headS:List Cl→Int
 | []=>0
 | c::_=>(c.s.toNat:Int)
def plK (rec:List Nd→Int→Int→List Cl→List Nd×Nat) (v:Nat) (x y:Int) (l:List Cl):Nat→List Nd→List Nd×Nd
 | 0,out=>(out,⟨v,0,0,0,0⟩)
 | k+1,out=>
  if v=1 then ((plK rec v x y l k out).1,(plK rec v x y l k out).2.setKid k (headS (OA v x y k l)))
  else ((rec (plK rec v x y l k out).1 (qa v x k) (qb v y k) (OA v x y k l)).1,(plK rec v x y l k out).2.setKid k ((rec (plK rec v x y l k out).1 (qa v x k) (qb v y k) (OA v x y k l)).2:Int))
def EW:Nat→List Nd→Int→Int→List Cl→List Nd×Nat
 | 0,out,_,_,_=>(out,0)
 | v+1,out,x,y,l=>if l=[]then (out,0)else ((plK (EW v) (v+1) x y l 4 out).1++[(plK (EW v) (v+1) x y l 4 out).2],(plK (EW v) (v+1) x y l 4 out).1.length+1)
def PS (b:Nat) (out:List Nd) (v:Ab) (H:Aa):Prop:=(out=[]∧v=.sl [] .tight)∨∃t,b≤t∧v=.sl (enL cNd out) (.own t)∧H[t]? = some (.tok out.length Bg 5)
structure Kp (b:Nat) (H H':Aa):Prop where
 len:H.length≤H'.length
 cel:∀(i:Nat) (cs:List Ab),H[i]? = some (.cel 0 cs)→H'[i]? = some (.cel 0 cs)
 old:∀i,i<b→H'[i]? = H[i]?
theorem Kp.refl (b:Nat) (H:Aa):Kp b H H:=⟨WF _,fun _ _ h=>h,fun _ _=>rfl⟩
theorem Kp.trans {b:Nat} {H H1 H2:Aa} (h:Kp b H H1) (h':Kp b H1 H2):Kp b H H2:=
 ⟨Xh h.len h'.len,fun i cs hc=>h'.cel i cs (h.cel i cs hc),fun i hi=>(h'.old i hi).trans (h.old i hi)⟩
theorem Kp.app {b:Nat} {H:Aa} (hb:b≤H.length) (G:Aa):Kp b H (H++G):=
 ⟨by simp,fun i cs h=>AE h,fun i hi=>by rw [WD (by omega)]⟩
theorem PS.sl {b:Nat} {out:List Nd} {v:Ab} {H:Aa} (h:PS b out v H):∃tk,v=.sl (enL cNd out) tk:=by
 rcases h with ⟨rfl,rfl⟩ | ⟨t,_,rfl,_⟩
 ·exact ⟨_,rfl⟩
 ·exact ⟨_,rfl⟩
theorem PS.put {b p:Nat} {out:List Nd} {v:Ab} {H:Aa} {c c':List Ab} (h:PS b out v H) (hp:H[p]? = some (.cel 0 c)):PS b out v (H.set p (.cel 0 c')):=by
 rcases h with h1 | ⟨t,h1,h2,h3⟩
 ·exact .inl h1
 ·refine .inr ⟨t,h1,h2,?_⟩
  have:p≠t:=fun e=>by rw [←e,hp]at h3;cases h3
  rw [WI this];exact h3
theorem PS.snoc {b:Nat} {out:List Nd} {v:Ab} {H:Aa} (h:PS b out v H) (hb:b≤H.length) (x:Nd) (hl:out.length<3518437208883) :
  ∃v' H',AW Bg 5 40 v (.sl (enL cNd [x]) .tight) H=some (v',H')∧PS b (out++[x]) v' H'∧Kp b H H':=by
 rcases h with ⟨rfl,rfl⟩ | ⟨t,h1,rfl,h3⟩
 ·have:=CA (f:=cNd) (l:=[]) (m:=[x]) (ty:=Bg) (bytes:=40) (tk:=.tight) (H:=H) (by simp) (by simp) (by simp)
  exact ⟨_,_,this,.inr ⟨H.length,hb,rfl,by simp⟩,Kp.app hb _⟩
 ·have:=EC (f:=cNd) (l:=out) (m:=[x]) (ty:=Bg) (bytes:=40) (tk:=.tight) (H:=H) (t:=t) (by simp) h3 (by simp;omega) (by simp;omega)
  have htl:=(WC.1 h3).1
  refine ⟨_,_,this,.inr ⟨t,h1,rfl,by simp [htl]⟩,⟨by simp,fun i cs hc=>?_,fun i hi=>?_⟩⟩
  ·have:t≠i:=fun e=>by rw [←e,h3]at hc;cases hc
   rw [WI this];exact hc
  ·rw [WI (by omega)]
def TOPk (k:Nat):Nat:=2^k
def TOP:Nat:=TOPk 1400
theorem topk_lt {k m:Nat} (h:k<32*m):TOPk k<4294967296^m:=pow32_lt h
theorem topk_ge {v k:Nat} (h:v≤k):2^v≤TOPk k:=pow2_le h
theorem top_lt:TOP<4294967296^44:=topk_lt (by decide)
theorem top_ge {v:Nat} (h:v≤1400):2^v≤TOP:=topk_ge h
theorem UK (v:Nat):((2:Int)^v).natAbs=2^v:=by rw [Zs];rfl
theorem Nh {v:Nat} (h:v≤1400):SB 44 (2^v):=by
 unfold SB
 rw [UK]
 exact X6 (top_ge h) top_lt
section
variable {Hc:Aa} {a c:List Ab} {z:Int}
theorem st0 (ha:a.length=2):Ah 2 (.ptr Hc.length 0 0) (big z) (Hc++[Blk.cel 0 a]++[Blk.cel 0 c])=some (Hc++[Blk.cel 0 (AD z)]++[Blk.cel 0 c]):=by
 rw [Dk (cs:=a) (by simp) ha];simp
theorem st1 (hc:c.length=2):Ah 2 (.ptr (Hc.length+1) 0 0) (big z) (Hc++[Blk.cel 0 a]++[Blk.cel 0 c])=some (Hc++[Blk.cel 0 a]++[Blk.cel 0 (AD z)]):=by
 rw [Dk (cs:=c) (by simp) hc];simp

end
structure RC where
 n1:Bool
 l1:List Nat
 n2:Bool
 l2:List Nat
 s:UInt8
def cRC (r:RC):List Ab:=[.bool r.n1,.sl (enL cU r.l1) .no,.bool r.n2,.sl (enL cU r.l2) .no,.int .u8 (r.s.toNat:Int)]
instance:Sz cRC 5:=⟨fun _=>rfl⟩
def RC.fits (r:RC):Prop:=Lim r.l1∧Lim r.l2∧r.l1.length≤549755813888∧r.l2.length≤549755813888
def RC.right (r:RC):Bool:=Fd r.n1 r.l1&&Fd r.n2 r.l2
def RC.cl (r:RC):Cl:=⟨FM r.n1 r.l1,FM r.n2 r.l2,r.s⟩
theorem cRC_cl {r:RC} (h:r.right=true) (hf:r.fits):cRC r=cCl r.cl:=by
 simp only [RC.right,WO]at h
 have e1:=bigC_ok h.1 hf.1
 have e2:=bigC_ok h.2 hf.2.1
 show [Ab.bool r.n1,.sl (enL cU r.l1) .no]++([Ab.bool r.n2,.sl (enL cU r.l2) .no]++[.int .u8 (r.s.toNat:Int)])=_
 rw [e1,e2];rfl
theorem enL_RC {l:List RC} (h:∀r∈l,r.right=true) (hf:∀r∈l,r.fits):enL cRC l=enL cCl (l.map RC.cl):=by
 unfold enL
 rw [Z2]
 exact Zv fun r hr=>cRC_cl (h r hr) (hf r hr)
def Ue (most:Int) (l:List RC):Bool:=decide ((l.length:Int)>most) || !((List.range l.length).all fun i=>match l[i]? with | some r=>decide (r.l1.length≤50)&&decide (r.l2.length≤50) | none=>true)
theorem q07_great (l:List RC) (tk:Tok) (most:Int) (H:Aa) (hl:l.length<1152921504606846976):Sh.f14 (.sl (enL cRC l) tk) (.int .i64 most) H=some (.ret (.bool (Ue most l)),H):=by
 unfold Sh.f14 Ue
 simp only [GMb,GMc,Av]
 by_cases hm:(l.length:Int)>most
 ·simp only [hm,GMb,GMc]
 ·simp only [hm,GMb,GMc]
  have key:=Ew (G:=fun rec1 vs H1=>Sh.f5v H rec1 (ag vs 0) (ag vs 1) H1) l.length (fun i=>match l[i]? with | some r=>decide (r.l1.length≤50)&&decide (r.l2.length≤50) | none=>true) (fun i=>[.sl (enL cRC l) tk,.int .i64 (i:Int)]) H (some (.ret (.bool false),H)) (some (.ret (.bool true),H)) hl (fun rec i hi=>?_) (fun rec=>?_)
  ·refine key.trans ?_
   cases (List.range l.length).all fun i=>match l[i]? with | some r=>decide (r.l1.length≤50)&&decide (r.l2.length≤50) | none=>true <;> rfl
  ·have hi':(i:Int)<(l.length:Int):=by omega
   have hws:=Aw (show i<9223372036854775807 by omega)
   have g1:∀H,Ac false 1 (.cptr (cRC l[i]) 1) H=some (.sl (enL cU l[i].l1) .no):=fun H=>rfl
   have g2:∀H,Ac false 1 (.cptr (cRC l[i]) 3) H=some (.sl (enL cU l[i].l2) .no):=fun H=>rfl
   have d1:decide ((l[i].l1.length:Int)>50) = !decide (l[i].l1.length≤50):=by rw [WW];simp;omega
   have d2:decide ((l[i].l2.length:Int)>50) = !decide (l[i].l2.length≤50):=by rw [WW];simp;omega
   unfold Sh.f5v
   simp only [GMb,GMc,Av,hi',Ax hi,Ap,WE,g1,WB hi,d1]
   cases decide (l[i].l1.length≤50)with
   | false=>simp only [GMb,GMc]
   | true=>
    simp only [GMb,GMc,Ax hi,Ap,WE,show 2+1=3 from rfl,g2,Av,d2,hws]
    cases decide (l[i].l2.length≤50) <;> simp only [GMb,GMc]
  ·unfold Sh.f5v
   simp only [GMb,GMc,Av,XA]
def JG:Nat→Nat→Cl→Nat
 | 0,v,_=>v
 | f+1,v,c=>if FN v c then v else JG f (v+1) c
def Bt (l:List Cl):Nat:=l.foldl (fun v c=>JG (1330-v) v c) 1
theorem lvUp_ge:∀f v c,v≤JG f v c∧JG f v c≤v+f
 | 0,v,c=>⟨WF _,WF _⟩
 | f+1,v,c=>by
  unfold JG
  split
  ·omega
  ·have:=lvUp_ge f (v+1) c;omega
theorem levelFold (l:List Cl):∀v,1≤v→v≤1330→v≤l.foldl (fun v c=>JG (1330-v) v c) v∧l.foldl (fun v c=>JG (1330-v) v c) v≤1330:=by
 induction l with
 | nil=>intro v h1 h2;simp;omega
 | cons c l ih=>
  intro v h1 h2
  have h:=lvUp_ge (1330-v) v c
  have:=ih (JG (1330-v) v c) (by omega) (by omega)
  simp only [List.foldl_cons]
  omega
def OH (l:List Cl):List Nd×Int:=
 if Bt (CC l)>1329 then ([],4)
 else if ofOk (EW (Bt (CC l)) [] (-(2^(Bt (CC l)-1))) (-(2^(Bt (CC l)-1))) (CC l)).1 ((EW (Bt (CC l)) [] (-(2^(Bt (CC l)-1))) (-(2^(Bt (CC l)-1))) (CC l)).2:Int)
 then (canonL (EW (Bt (CC l)) [] (-(2^(Bt (CC l)-1))) (-(2^(Bt (CC l)-1))) (CC l)).1 (EW (Bt (CC l)) [] (-(2^(Bt (CC l)-1))) (-(2^(Bt (CC l)-1))) (CC l)).2,0)
 else ([],1)
theorem lastL_mem {l:List Cl} {c:Cl} (h:c∈CC l):c∈l:=by
 have h1:=(XT.1 h).1
 have:=(FH (l:=l) l.length (WF _)).2
 rw [WN (WF _)]at this
 exact this c h1
theorem lastL_len (l:List Cl):(CC l).length≤l.length:=by
 have h1:(CC l).length≤(C0 l).length:=Yf _ _
 have:=(FH (l:=l) l.length (WF _)).1
 rw [WN (WF _)]at this
 omega
theorem Nj {H Hq:Aa} {tk:Tok} {Q:List Nd} {e:Int} (hc:Hq[H.length]? = some (.cel 0 [.sl [] .tight])) (hold:∀i,i<H.length→Hq[i]? = H[i]?) :
  (bP H (AH (Ah 1 (.ptr H.length 0 0) (.agg [.sl (enL cNd Q) tk]) Hq)) fun _ H37=>(IF [Ac true 1 (.ptr H.length 0 0) H37,some (.int .i64 e)]).bind fun x38=>rPN H x38 H37)=some (.ret (.tup [Gg Q,.int .i64 e]),H):=by
 have hcl:=(WC.1 hc).1
 have hst:Ah 1 (.ptr H.length 0 0) (.agg [.sl (enL cNd Q) tk]) Hq=some (Hq.set H.length (.cel 0 [.sl (enL cNd Q) tk])):=by
  simp only [Ah,A5 hc,Option.bind_some,BT hc];rfl
 have hld:Ac true 1 (.ptr H.length 0 0) (Hq.set H.length (.cel 0 [.sl (enL cNd Q) tk]))=some (.agg [.sl (enL cNd Q) tk]):=by
  have:(Hq.set H.length (.cel 0 [.sl (enL cNd Q) tk]))[H.length]? = some (.cel 0 [.sl (enL cNd Q) tk]):=by rw [WS hcl]
  simp only [Ac,A5 this,Option.bind_some];rfl
 have htake:(Hq.set H.length (.cel 0 [.sl (enL cNd Q) tk])).take H.length=H:=CB fun i hi=>by
  rw [WI (by omega),hold i hi]
 simp only [GMb,GMc,hst,hld,Sy,Ng,Pc,Option.map_some,Hx htake,FW,Da,DK,N1,Ii,JQ,PC,N0]
 rfl
def of07S (S:List Cl):List Nd×Int:=
 if Bt S>1329 then ([],4)
 else if ofOk (EW (Bt S) [] (-(2^(Bt S-1))) (-(2^(Bt S-1))) S).1 ((EW (Bt S) [] (-(2^(Bt S-1))) (-(2^(Bt S-1))) S).2:Int)
 then (canonL (EW (Bt S) [] (-(2^(Bt S-1))) (-(2^(Bt S-1))) S).1 (EW (Bt S) [] (-(2^(Bt S-1))) (-(2^(Bt S-1))) S).2,0)
 else ([],1)
theorem of07_eq (l:List Cl):OH l=of07S (CC l):=rfl
theorem quad_bad {H:Aa} {e:Int}:((AB (some [(.sl [] .tight)]) []).bind fun x57=>bP H (AH (Ah 1 (.ptr H.length 0 0) x57 (H++[.cel 0 [.sl [] .tight]]))) fun _ H59=>(IF [Ac true 1 (.ptr H.length 0 0) H59,some (.int .i64 e)]).bind fun x60=>rPN H x60 H59)=some (.ret (.tup [Gg [],.int .i64 e]),H):=by
 rw [show AB (some [(.sl [] .tight)]) []=some (.agg [.sl (enL cNd []) .tight]) from rfl]
 rw [BC]
 exact Nj (by simp) fun i hi=>by rw [WD hi]
def Pb (c:UInt8):Bool:=decide (33≤c.toNat∧c.toNat≤126)
theorem q04_sign (c:UInt8) (H:Aa):Sh.f3e (.int .u8 (c.toNat:Int)) H=some (.ret (.bool (Pb c)),H):=by
 unfold Sh.f3e Pb
 by_cases h:(33:Int)≤c.toNat
 ·have:33≤c.toNat:=by omega
  simp [h,this];omega
 ·have:¬33≤c.toNat:=by omega
  simp [h,this]
def LP (s:List UInt8):Bool:=s.all Pb&&decide (1≤s.length∧s.length≤40)
theorem q04_rule (s:List UInt8) (H:Aa) (hs:s.length<1152921504606846976):Sh.f3f (.str s) H=some (.ret (.bool (LP s)),H):=by
 unfold Sh.f3f
 refine Bl (σ:=Nat) (fun i=>i≤s.length∧(s.take i).all Pb=true) (fun i=>[.str s,.int .i64 (i:Int)]) (fun _=>H) (fun i=>s.length-i) (fun _=>some (.ret (.bool (LP s)),H)) (fun i rec hi hrec=>?_) 0 ⟨by omega,by simp⟩ (by omega)
 obtain ⟨hi,hall⟩:=hi
 unfold Sh.f6w
 by_cases h:i<s.length
 ·have hx:(i:Int)<(s.length:Int):=by omega
  simp only [Aj,AS,Ic,Option.bind_some,Bf,hx,decide_true,AN,Ny h,q04_sign,EA,Ip]
  cases hc:Pb s[i]with
  | false=>
   have:LP s=false:=by
    simp only [LP,Yg];left
    rw [YD];exact ⟨s[i],WP h,by simp [hc]⟩
   simp [this]
  | true=>
   have:=hrec (i+1) ⟨h,by rw [WM h,Zm];simp [hall,hc]⟩ (by omega)
   simp (disch:=omega) [Al]
   simpa using this
 ·have hx:¬(i:Int)<(s.length:Int):=by omega
  have he:s.take i=s:=WN (by omega)
  rw [he]at hall
  by_cases h1:(1:Int)≤s.length
  ·simp [hx,h1,LP,hall]
   by_cases h2:s.length≤40
   ·have:(s.length:Int)≤40:=by omega
    simp [this,h2];omega
   ·have:¬(s.length:Int)≤40:=by omega
    simp [this,h2]
  ·have:s=[]:=WU (by omega)
   subst this
   have hz:i=0:=by simpa using hi
   subst hz;simp [LP]
def RC.lim (r:RC):Prop:=Lim r.l1∧Lim r.l2
def GK (rule:List UInt8) (L:List Nd):List Ab:=[.str rule,.sl (enL cNd L) .no]
def pat (rule:List UInt8) (L:List Nd):Ab:=.agg (GK rule L)
theorem boxPat (rule:List UInt8) (L:List Nd) (H:Aa):B2 true 2 (pat rule L) H=some (.ptr H.length 0 0,H++[.cel 0 (GK rule L)]):=BQ rfl rfl
section
variable {H:Aa} {p:Nat} {rule:List UInt8} {L:List Nd}
theorem TV (hg:H[p]? = some (.cel 0 (GK rule L))):Ac false 1 (.ptr p 0 0) H=some (.str rule):=by
 simp only [Ac,A5 hg,Option.bind_some];rfl
theorem JI (hg:H[p]? = some (.cel 0 (GK rule L))):Ac true 1 (.ptr p 0 1) H=some (Gg L):=by
 simp only [Ac,A5 hg,Option.bind_some];rfl
theorem Q3 (hg:H[p]? = some (.cel 0 (GK rule L))):Ac true 2 (.ptr p 0 0) H=some (pat rule L):=by
 simp only [Ac,A5 hg,Option.bind_some];rfl

end
theorem q11_right (rule:List UInt8) (L:List Nd) (H:Aa) (hr:rule.length<1152921504606846976) (hL:L.length<17592186044415):Sh.f3j (pat rule L) H=some (.ret (.bool (LP rule&&GC L)),H):=by
 unfold Sh.f3j
 have e1:(H++[Blk.cel 0 (GK rule L)])[H.length]? = some (.cel 0 (GK rule L)):=Ar
 simp only [GMb,GMc,boxPat,Ag,WE,Nat.add_zero,TV e1,q04_rule rule _ hr]
 cases LP rule with
 | false=>simp only [GMb,GMc,EI]
 | true=>simp only [GMb,GMc,Ag,WE,JI e1,Gg,Cq,q05_right L .no _ hL,EI]
def My (a b:Int):Bool:=decide (0≤a)&&decide (a≤1000)&&decide (0≤b)&&decide (b≤100000)
theorem q11_fine (a b:Int) (H:Aa):Sh.f1x (.agg [.int .i64 a,.int .i64 b]) H=some (.ret (.bool (My a b)),H):=by
 unfold Sh.f1x My
 have e1:(H++[Blk.cel 0 [.int .i64 a,.int .i64 b]])[H.length]? = some (.cel 0 [.int .i64 a,.int .i64 b]):=Ar
 have g1:Ac false 1 (.ptr H.length 0 0) (H++[Blk.cel 0 [.int .i64 a,.int .i64 b]])=some (.int .i64 a):=by simp only [Ac,A5 e1,Option.bind_some];rfl
 have g2:Ac false 1 (.ptr H.length 0 1) (H++[Blk.cel 0 [.int .i64 a,.int .i64 b]])=some (.int .i64 b):=by simp only [Ac,A5 e1,Option.bind_some];rfl
 simp only [GMb,GMc,BQ (sz:=2) (cs:=[Ab.int .i64 a,.int .i64 b]) rfl rfl,Ag,WE,Nat.add_zero,g1,ge_iff_le]
 cases decide (0≤a)with
 | false=>simp only [GMb,GMc,EI]
 | true=>
  simp only [GMb,GMc,Ag,WE,Nat.add_zero,g1]
  cases decide (a≤1000)with
  | false=>simp only [GMb,GMc,EI]
  | true=>
   simp only [GMb,GMc,Ag,WE,g2,ge_iff_le]
   cases decide (0≤b)with
   | false=>simp only [GMb,GMc,EI]
   | true=>simp only [GMb,GMc,Ag,WE,g2,EI]
theorem q11_format (n:Int) (H:Aa):Sh.f3d (.int .i64 n) H=some (.ret (.bool (decide (1≤n)&&decide (n≤5))),H):=by
 unfold Sh.f3d
 simp only [GMb,GMc,ge_iff_le]
 cases decide (1≤n) <;> simp only [GMb,GMc]
def St (a:Int):Prop:=0≤a∧a≤255
def Lv (L:List Nd) (v n:Nat):Prop:=n≤L.length∧(n=0∨(Bb L n).lv.toNat=v)
theorem Lv.kid {L:List Nd} (hl:AP L=true) {v n k:Nat} (h0:0<n) (h:Lv L (v+1) n) (h1:1<(Bb L n).lv) (hk:k<4):Lv L v ((Bb L n).kid k).toNat∧((Bb L n).kid k).toNat<n∧0≤(Bb L n).kid k:=by
 obtain ⟨m,rfl⟩:∃m,n=m+1:=⟨n-1,by omega⟩
 have hm:m<L.length:=h.1
 obtain ⟨l1,l2,l3⟩:=AO hl hm
 have hx:Bb L ((m+1:Nat):Int)=L[m]:=BN hm
 have hv:=h.2
 rw [hx]at h1 hv ⊢
 obtain ⟨q1,q2,q3⟩:=l3 k hk
 by_cases hc:0<L[m].kid k
 ·obtain ⟨r1,r2⟩:=q3 h1 hc
  obtain ⟨c,hcc⟩:∃c:Nat,L[m].kid k=((c+1:Nat):Int):=⟨(L[m].kid k-1).toNat,by omega⟩
  have hcl:c<L.length:=by omega
  have:=r2 L[c] (by rw [show (L[m].kid k-1).toNat=c from by omega];exact WB hcl)
  rw [hcc,show (((c+1:Nat):Int)).toNat=c+1 from by omega]
  refine ⟨⟨by omega,.inr ?_⟩,by omega,by omega⟩
  rw [BN hcl];omega
 ·rw [show (L[m].kid k).toNat=0 from by omega]
  exact ⟨⟨Xd _,.inl rfl⟩,by omega,q1⟩
theorem emp_iff {L:List Nd} (hl:AP L=true) {n:Nat} (h0:0<n) (hn:n≤L.length):(AC L).getD n true=(List.range 4).all fun k=>decide ((Bb L n).kid k=0)||(decide (1<(Bb L n).lv)&&(AC L).getD ((Bb L n).kid k).toNat true):=by
 obtain ⟨m,rfl⟩:∃m,n=m+1:=⟨n-1,by omega⟩
 have hm:m<L.length:=hn
 have hpre:∀(r l:List Nd),∃s,AC (l++r)=AC l++s:=by
  intro r
  induction r with
  | nil=>intro l;exact ⟨[],by simp⟩
  | cons x r ih=>
   intro l
   obtain ⟨s,hs⟩:=ih (l++[x])
   exact ⟨[PI (AC l) x]++s,by rw [show l++x::r=l++[x]++r from by simp,hs,N5];simp⟩
 have hL:L=L.take m++[L[m]]++L.drop (m+1):=by
  rw [←WM hm,Xr]
 obtain ⟨s,hs⟩:=hpre (L.drop (m+1)) (L.take m++[L[m]])
 rw [←hL,N5]at hs
 have hlen:(AC (L.take m)).length=m+1:=by rw [E5];simp;omega
 have hat:(AC L).getD (m+1) true=PI (AC (L.take m)) L[m]:=by
  rw [hs,WH,WD (by simp [hlen]),Xe (by omega),hlen];simp
 rw [hat,BN hm]
 obtain ⟨l1,l2,l3⟩:=AO hl hm
 unfold PI
 have hk:∀k,k<4→(decide (1<L[m].lv)&&(AC (L.take m)).getD (L[m].kid k).toNat true)=(decide (1<L[m].lv)&&(AC L).getD (L[m].kid k).toNat true):=by
  intro k hk
  obtain ⟨q1,q2,q3⟩:=l3 k hk
  by_cases h1:1<L[m].lv
  ·have hlt:(L[m].kid k).toNat<m+1:=by
    by_cases hc:0<L[m].kid k
    ·have:=(q3 h1 hc).1;omega
    ·omega
   congr 1
   rw [hs,WG,WH,WH,WD (by omega)]
  ·simp [h1]
 rw [O9,O9,hk 0 (by omega),hk 1 (by omega),hk 2 (by omega),hk 3 (by omega)]
section
variable {L:List Nd}
end
theorem Lv.num {L:List Nd} {v n:Nat} (h:Lv L v n) (h0:0<n) (hl:AP L=true):(Bb L (n:Int)).lv=(v:Int)∧1≤v:=by
 have hv:(Bb L (n:Int)).lv.toNat=v:=by rcases h.2 with h | h <;> omega
 obtain ⟨m,rfl⟩:∃m,n=m+1:=⟨n-1,by omega⟩
 rw [BN h.1]at hv ⊢
 have:=(AO hl h.1).1
 omega
def InSq (v:Nat) (x y:Int) (c:Cl):Prop:=x≤c.x∧c.x<x+2^v∧y≤c.y∧c.y<y+2^v
theorem inQ_sq {v:Nat} {a b:Int} {c:Cl}:inQ (v+1) a b c=true↔InSq v a b c:=by
 unfold inQ InSq
 simp only [WO,decide_eq_true_eq,Xi]
 constructor
 ·rintro ⟨⟨⟨h1,h2⟩,h3⟩,h4⟩;exact ⟨h1,h2,h3,h4⟩
 ·rintro ⟨h1,h2,h3,h4⟩;exact ⟨⟨⟨h1,h2⟩,h3⟩,h4⟩
theorem quart_in {v:Nat} {x y:Int} {k:Nat} {l:List Cl} {c:Cl} (h:c∈OA (v+1) x y k l):InSq v (qa (v+1) x k) (qb (v+1) y k) c:=inQ_sq.1 (XT.1 h).2
theorem lvUp_in:∀f v c,JG f v c<v+f→FN (JG f v c) c=true
 | 0,v,c,h=>by simp [JG]at h
 | f+1,v,c,h=>by
  unfold JG at h ⊢
  split
  ·rename_i hw;exact hw
  ·rename_i hw
   rw [if_neg hw]at h
   exact lvUp_in f (v+1) c (by omega)
theorem pow_le2 {v w:Nat} (h:v≤w):(2:Int)^v≤2^w:=by
 have h1:(2:Nat)^v≤2^w:=Xm (by omega) h
 have h2:((2^v:Nat):Int)≤((2^w:Nat):Int):=by omega
 simpa using h2
theorem within_mono {v w:Nat} {c:Cl} (h:FN v c=true) (hw:v≤w):FN w c=true:=by
 have h1:=pow_le2 (show v-1≤w-1 by omega)
 simp only [FN,inZ,WO,decide_eq_true_eq]at h ⊢
 generalize (2:Int)^(v-1)=p at *
 generalize (2:Int)^(w-1)=q at *
 omega
theorem P1:∀(l:List Cl) (v:Nat),1≤v→v≤1330→l.foldl (fun v c=>JG (1330-v) v c) v≤1329→∀c∈l,FN (l.foldl (fun v c=>JG (1330-v) v c) v) c=true
 | [],v,_,_,_,c,hc=>by cases hc
 | d::l,v,h1,h2,h3,c,hc=>by
  have hu:=lvUp_ge (1330-v) v d
  have hf:=levelFold l (JG (1330-v) v d) (by omega) (by omega)
  simp only [List.foldl_cons]at h3 ⊢
  rcases Xk.1 hc with rfl | hc
  ·exact within_mono (lvUp_in (1330-v) v c (by omega)) hf.1
  ·exact P1 l _ (by omega) (by omega) h3 c hc
theorem level_in {S:List Cl} (h:Bt S≤1329):∀c∈S,FN (Bt S) c=true:=P1 S 1 (by omega) (by omega) h
theorem within_sq {v:Nat} {c:Cl} (h1:1≤v) (h:FN v c=true):InSq v (-(2^(v-1))) (-(2^(v-1))) c:=by
 obtain ⟨w,rfl⟩:∃w,v=w+1:=⟨v-1,by omega⟩
 have e:(2:Int)^(w+1)=2^w*2:=Zi _ _
 simp only [FN,inZ,WO,decide_eq_true_eq,Xi]at h
 unfold InSq
 rw [Xi,e]
 generalize (2:Int)^w=p at *
 omega
def maxK (m:Int) (x:Nd):Nat→Int
 | 0=>m
 | k+1=>max (maxK m x k) (x.kid k)
def Oq (L:List Nd):Int:=L.foldl (fun m x=>if x.lv=1 then maxK m x 4 else m) 0
theorem quad_eq (L:List Nd):Gg L=.agg [.sl (enL cNd L) .no]:=rfl
theorem boxQ (L:List Nd) (H:Aa):B2 true 1 (Gg L) H=some (.ptr H.length 0 0,H++[.cel 0 (Cq L)]):=BQ rfl rfl
section
variable {H:Aa} {p:Nat} {L:List Nd}
theorem CZ (hg:H[p]? = some (.cel 0 (Cq L))):Ac false 1 (.ptr p 0 0) H=some (.sl (enL cNd L) .no):=by
 simp only [Ac,A5 hg,Option.bind_some];rfl
theorem S6 (hg:H[p]? = some (.cel 0 (Cq L))):Ac true 1 (.ptr p 0 0) H=some (Gg L):=by
 simp only [Ac,A5 hg,Option.bind_some];rfl

end
theorem q08_most (L:List Nd) (H:Aa) (hL:L.length<1152921504606846976):Sh.f20 (Gg L) H=some (.ret (.int .u8 (IntKind.u8.wrap (Oq L))),H):=by
 unfold Sh.f20
 have e1:(H++[Blk.cel 0 (Cq L)])[H.length]? = some (.cel 0 (Cq L)):=Ar
 simp only [GMb,GMc,boxQ]
 refine Cf (G:=fun rec1 vs H1=>Sh.f5m H rec1 (ag vs 0) (ag vs 1) (ag vs 2) H1) L.length (fun i=>[.ptr H.length 0 0,.int .i64 (Oq (L.take i)),.int .i64 (i:Int)]) (fun _=>H++[.cel 0 (Cq L)]) _ hL (fun rec i hi=>?_) (fun rec=>?_)
 ·have hi':(i:Int)<(L.length:Int):=by omega
  have hws:=Aw (show i<9223372036854775807 by omega)
  have hm:Oq (L.take (i+1))=if L[i].lv=1 then maxK (Oq (L.take i)) L[i] 4 else Oq (L.take i):=by
   unfold Oq
   rw [WM hi,YA];rfl
  rw [hm]
  generalize Oq (L.take i)=m
  unfold Sh.f5m
  simp only [GMb,GMc,Ag,WE,CZ e1,Av,hi']
  by_cases hlv:L[i].lv=1
  ·rw [if_pos hlv]
   refine Cf (G:=fun rec2 vs H1=>Sh.f4i H rec rec2 (ag vs 0) (ag vs 1) (ag vs 2) (ag vs 3) H1) 4 (fun k=>[.ptr H.length 0 0,.int .i64 (maxK m L[i] k),.int .i64 (i:Int),.int .i64 (k:Int)]) (fun _=>H++[.cel 0 (Cq L)]) _ (by decide) (fun rec2 k hk=>?_) (fun rec2=>?_)
   ·have hk':(k:Int)<4:=by omega
    unfold Sh.f4i
    simp only [GMb,GMc,Ap,Ag,A7,WE,Nat.add_zero,WQ,BI,hk',CZ e1,Ax hi,hlv,DJ hk,Dt hk,max_int,Aw (show k<9223372036854775807 by omega),maxK]
   ·have hf:¬(((4:Nat):Int)<4):=by decide
    unfold Sh.f4i
    simp only [GMb,GMc,hf,hws]
  ·rw [if_neg hlv,Dy Ez]
   have hf:((0:Int)<4):=by decide
   unfold Sh.f4i
   simp only [GMb,GMc,Ap,Ag,A7,WE,Nat.add_zero,WQ,BI,hf,CZ e1,Ax hi,hlv,hws]
 ·unfold Sh.f5m
  rw [WN (WF _)]
  simp only [GMb,GMc,Ag,WE,CZ e1,Av,XA,By,J3]
theorem maxK_st {m:Int} {x:Nd} (hm:St m) (hx:∀k,k<4→St (x.kid k)):∀k,k≤4→St (maxK m x k)
 | 0,_=>hm
 | k+1,h=>by
  have h1:=maxK_st hm hx k (by omega)
  have h2:=hx k (by omega)
  obtain ⟨a1,a2⟩:=h1
  obtain ⟨b1,b2⟩:=h2
  exact ⟨show (0:Int)≤max (maxK m x k) (x.kid k)by omega,show max (maxK m x k) (x.kid k)≤(255:Int)by omega⟩
theorem mostZ_st {L:List Nd} (hl:AP L=true):St (Oq L):=by
 have key:∀(l:List Nd) (m:Int),St m→(∀x∈l,x.lv=1→∀k,k<4→St (x.kid k))→St (l.foldl (fun m x=>if x.lv=1 then maxK m x 4 else m) m):=by
  intro l
  induction l with
  | nil=>intro m hm _;exact hm
  | cons a l ih=>
   intro m hm hx
   refine ih _ ?_ fun x h=>hx x (by simp [h])
   dsimp only
   split
   ·rename_i h;exact maxK_st hm (hx a (by simp) h) 4 (WF _)
   ·exact hm
 refine key L 0 ⟨Zt _,by decide⟩ fun x hx hlv k hk=>?_
 obtain ⟨i,hi,rfl⟩:=Xp hx
 have:=(AO hl hi).2.2 k hk
 exact ⟨this.1,this.2.1 hlv⟩
theorem q08_mostZ {L:List Nd} (H:Aa) (hL:L.length<1152921504606846976) (hl:AP L=true):Sh.f20 (Gg L) H=some (.ret (.int .u8 (Oq L)),H):=by
 have:=mostZ_st hl
 rw [q08_most L H hL,Sr this.1 (by have:=this.2;omega)]
def cBO:Option Int→List Ab
 | none=>[.bool false,.sl [] .tight]
 | some z=>AD z
instance:Sz cBO 2:=⟨fun a=>by cases a <;> rfl⟩
instance:Pl cBO:=⟨fun a=>by cases a <;> rfl⟩
def bo (a:Option Int):Int:=a.getD 0
theorem acells_BO (z:Int):(big z).acells=some (cBO (some z)):=OR z
theorem addO (a b:Option Int) (H:Aa) (ha:LB (bo a)) (hb:LB (bo b)):Sh.f1 (.agg (cBO a)) (.agg (cBO b)) H=some (.ret (big (bo a+bo b)),H):=by
 have e:∀a:Option Int,LB (bo a)→∃n l tk,cBO a=[.bool n,.sl (enL cU l) tk]∧l.length≤549755813888∧Lim l∧FM n l=bo a:=by
  intro a h
  cases a with
  | none=>exact ⟨false,[],.tight,rfl,by simp,(fun x hx=>by simp at hx),rfl⟩
  | some z=>exact ⟨decide (z<0),A0 z.natAbs,.no,rfl,h,Bh _,Kw z⟩
 obtain ⟨n1,l1,t1,e1,b1,x1,i1⟩:=e a ha
 obtain ⟨n2,l2,t2,e2,b2,x2,i2⟩:=e b hb
 rw [e1,e2,q02_add _ _ _ _ _ _ _ b1 b2 x1 x2,i1,i2]
def D3 (nf:Nat→Nat) (E:List (Option Int)) (x:Nd) (j:Nat):Int:=
 (if 1<j then 2^(x.lv.toNat-1)else 0)+(if 1<x.lv then bo (E.getD (x.kid (nf j)).toNat none)else 0)
def Db (nf:Nat→Nat) (E:List (Option Int)) (x:Nd) (j:Nat):Option Int:=
 if 1<x.lv then some (D3 nf E x j)else if 1<j then some (2^(x.lv.toNat-1))else none
theorem Ut (nf:Nat→Nat) (E:List (Option Int)) (x:Nd) (j:Nat):bo (Db nf E x j)=D3 nf E x j:=by
 unfold Db
 split
 ·rfl
 ·rename_i h
  unfold D3
  rw [if_neg h]
  split <;> simp [bo]
def E6 (nf:Nat→Nat) (E:List (Option Int)) (x:Nd):Nat→Bool×Option Int
 | 0=>(false,none)
 | j+1=>if x.kid (nf j)=0 then E6 nf E x j
  else if (E6 nf E x j).1=false∨D3 nf E x j<bo (E6 nf E x j).2 then (true,Db nf E x j)else E6 nf E x j
def C7 (nf:Nat→Nat) (L:List Nd):List (Option Int):=L.foldl (fun E x=>E++[(E6 nf E x 4).2]) [none]
theorem edgeL_snoc (nf:Nat→Nat) (L:List Nd) (x:Nd):C7 nf (L++[x])=C7 nf L++[(E6 nf (C7 nf L) x 4).2]:=by simp [C7]
theorem Ht (nf:Nat→Nat) (L:List Nd):(C7 nf L).length=L.length+1:=by
 have key:∀(l:List Nd) (E:List (Option Int)),(l.foldl (fun E x=>E++[(E6 nf E x 4).2]) E).length=l.length+E.length:=by
  intro l
  induction l with
  | nil=>intro E;simp
  | cons a l ih=>intro E;simp only [List.foldl_cons,ih];simp;omega
 unfold C7;rw [key];simp
theorem Us (nf:Nat→Nat) (L:List Nd) {i:Nat} (hi:i<L.length):C7 nf (L.take (i+1))=C7 nf (L.take i)++[(E6 nf (C7 nf (L.take i)) L[i] 4).2]:=by
 rw [WM hi,edgeL_snoc]
def EB (L:List Nd) (E:List (Option Int)):Prop:=∀(m:Nat) (x:Nd) (o:Option Int),L[m]? = some x→E[m+1]? = some o→0≤bo o∧bo o<2^x.lv.toNat
theorem edgeJ_b {nf:Nat→Nat} {E:List (Option Int)} {x:Nd} {j:Nat} (hx:1≤x.lv) (hE:1<x.lv→0≤bo (E.getD (x.kid (nf j)).toNat none)∧bo (E.getD (x.kid (nf j)).toNat none)<2^(x.lv.toNat-1)):0≤D3 nf E x j∧D3 nf E x j<2^x.lv.toNat:=by
 unfold D3
 have e:(2:Int)^x.lv.toNat=2^(x.lv.toNat-1)*2:=by rw [←Zi];congr 1;omega
 have hp:(0:Int)<2^(x.lv.toNat-1):=Zr (by omega)
 rw [e]
 by_cases h1:1<x.lv
 ·obtain ⟨h2,h3⟩:=hE h1
  rw [if_pos h1]
  generalize (2:Int)^(x.lv.toNat-1)=p at *
  split <;> omega
 ·rw [if_neg h1]
  generalize (2:Int)^(x.lv.toNat-1)=p at *
  split <;> omega
theorem SG {nf:Nat→Nat} {E:List (Option Int)} {x:Nd} (hb:∀j,j<4→0≤D3 nf E x j∧D3 nf E x j<2^x.lv.toNat):∀j,j≤4→0≤bo (E6 nf E x j).2∧bo (E6 nf E x j).2<2^x.lv.toNat
 | 0,_=>⟨Zt _,Zr (by omega)⟩
 | j+1,hj=>by
  unfold E6
  split
  ·exact SG hb j (by omega)
  ·split
   ·rw [Ut];exact hb j (by omega)
   ·exact SG hb j (by omega)
theorem Ur {nf:Nat→Nat} (hnf:∀j,nf j<4) {L:List Nd} (hl:AP L=true) {i:Nat} (hi:i<L.length) (hE:EB (L.take i) (C7 nf (L.take i))) (j:Nat) (h1:1<L[i].lv):0≤bo ((C7 nf (L.take i)).getD (L[i].kid (nf j)).toNat none)∧bo ((C7 nf (L.take i)).getD (L[i].kid (nf j)).toNat none)<2^(L[i].lv.toNat-1):=by
 obtain ⟨l1,l2,l3⟩:=AO hl hi
 obtain ⟨q1,q2,q3⟩:=l3 (nf j) (hnf j)
 have hp:(0:Int)<2^(L[i].lv.toNat-1):=Zr (by omega)
 by_cases hc:0<L[i].kid (nf j)
 ·obtain ⟨r1,r2⟩:=q3 h1 hc
  obtain ⟨m,hm⟩:∃m:Nat,(L[i].kid (nf j)).toNat=m+1:=⟨(L[i].kid (nf j)).toNat-1,by omega⟩
  have hmi:m<i:=by omega
  have hml:m<L.length:=by omega
  have hlen:=Ht nf (L.take i)
  rw [WT,X4 (by omega)]at hlen
  have hlt:m+1<(C7 nf (L.take i)).length:=by omega
  have:=hE m L[m] _ (by rw [X1 hmi,WB hml]) (WB hlt)
  have hlv:=r2 L[m] (by rw [show (L[i].kid (nf j)-1).toNat=m from by omega];exact WB hml)
  rw [hm,WH,WB hlt,show L[i].lv.toNat-1=L[m].lv.toNat from by omega]
  exact this
 ·rw [show (L[i].kid (nf j)).toNat=0 from by omega]
  have h0:(C7 nf (L.take i)).getD 0 none=none:=by
   have key:∀(l:List Nd) (E:List (Option Int)),E[0]? = some none→(l.foldl (fun E x=>E++[(E6 nf E x 4).2]) E)[0]? = some none:=by
    intro l
    induction l with
    | nil=>intro E h;exact h
    | cons a l ih=>intro E h;exact ih _ (by rw [WD (WC.1 h).1];exact h)
   rw [WH,show (C7 nf (L.take i))[0]? = some none from key _ [none] rfl];rfl
  rw [h0];exact ⟨Zt _,hp⟩
theorem edgeL_b {nf:Nat→Nat} (hnf:∀j,nf j<4) {L:List Nd} (hl:AP L=true):∀i,i≤L.length→EB (L.take i) (C7 nf (L.take i))
 | 0,_=>by intro m x o h;simp at h
 | i+1,h=>by
  have ih:=edgeL_b hnf hl i (by omega)
  rw [Us nf L h]
  intro m x o hx hz
  have hlen:=Ht nf (L.take i)
  rw [WT,X4 (by omega)]at hlen
  by_cases hn:m<i
  ·rw [WD (by omega)]at hz
   rw [X1 (by omega)]at hx
   exact ih m x o (by rw [X1 hn];exact hx) hz
  ·rw [Xe (by omega),hlen]at hz
   have hmi:m=i:=by
    have:=(WC.1 hz).1
    simp at this;omega
   subst hmi
   simp only [Xn,List.getElem?_cons_zero,WK]at hz
   rw [X1 (by omega),WB h]at hx
   injection hx with hx
   rw [←hx,←hz]
   exact SG (fun j _=>edgeJ_b (AO hl h).1 (Ur hnf hl h ih j)) 4 (WF _)
section
variable {len sz id g o m p:Nat} {K:IntKind} {Hc:Aa} {nf:Nat→Nat}
theorem idx_arr (h:m<len):BZ len sz (.ptr id g o) (.int K (m:Int))=some (.ptr id g (o+m*sz)):=by
 unfold BZ
 simp only []
 rw [if_pos ⟨by omega,by omega⟩];simp
def Fz (a b:Nat):List Ab:=[.int .i64 (a:Int),.int .i64 (b:Int)]
theorem load_two {a b:Nat} (hg:Hc[p]? = some (.cel 0 (Fz a b))) (h:m<2):Ac false 1 (.ptr p 0 m) Hc=some (.int .i64 ((if m=0 then a else b:Nat):Int)):=by
 simp only [Ac,A5 hg,Option.bind_some,WL,if_false]
 match m,h with
 | 0,_=>rfl
 | 1,_=>rfl
theorem Fi {a:Option Int} (hg:Hc[p]? = some (.cel 0 (cBO a))):Ac true 2 (.ptr p 0 0) Hc=some (.agg (cBO a)):=by
 simp only [Ac,A5 hg,Option.bind_some,if_true]
 cases a <;> rfl
theorem UJ (a:Option Int):(Ab.agg (cBO a)).acells=some (cBO a):=by cases a <;> rfl
theorem Nc {a:Option Int} {cs:List Ab} (hg:Hc[p]? = some (.cel 0 cs)) (hl:cs.length=2):Ah 2 (.ptr p 0 0) (.agg (cBO a)) Hc=some (Hc.set p (.cel 0 (cBO a))):=by
 simp only [Ah,A5 hg,Option.bind_some,UJ,BT hg,FP hl]
 rw [if_pos ⟨by cases a <;> rfl,by omega⟩]

end
theorem big_BO (z:Int):big z=.agg (cBO (some z)):=rfl
def Rep (z:Int) (cs:List Ab):Prop:=∃n l tk,cs=[.bool n,.sl (enL cU l) tk]∧l.length≤549755813888∧Lim l∧FM n l=z
theorem Rep.big {z:Int} (h:LB z):Rep z (AD z):=⟨decide (z<0),A0 z.natAbs,.no,rfl,h,Bh _,Kw z⟩
theorem Rep.bo {a:Option Int} (h:LB (bo a)):Rep (Go.Gm.bo a) (cBO a):=by
 cases a with
 | none=>exact ⟨false,[],.tight,rfl,by simp,(fun x hx=>by simp at hx),rfl⟩
 | some z=>exact Rep.big h
theorem Rep.lb {z:Int} {cs:List Ab} (h:Rep z cs):LB z:=by
 obtain ⟨n,l,tk,_,h2,h3,rfl⟩:=h
 unfold LB
 rw [PZ]
 exact Xh (Ec (SP l h3)) h2
theorem addR {a b:Int} {cs ds:List Ab} (ha:Rep a cs) (hb:Rep b ds) (H:Aa):Sh.f1 (.agg cs) (.agg ds) H=some (.ret (Go.Gm.big (a+b)),H):=by
 obtain ⟨n1,l1,t1,rfl,b1,x1,rfl⟩:=ha
 obtain ⟨n2,l2,t2,rfl,b2,x2,rfl⟩:=hb
 exact q02_add _ _ _ _ _ _ _ b1 b2 x1 x2
theorem minusR {a:Int} {cs:List Ab} (ha:Rep a cs) (H:Aa):Sh.fi (.agg cs) H=some (.ret (Go.Gm.big (-a)),H):=by
 obtain ⟨n1,l1,t1,rfl,b1,x1,rfl⟩:=ha
 exact VN _ _ _ _ (by omega) x1
theorem boxR {a:Int} {cs:List Ab} (ha:Rep a cs) (H:Aa):B2 true 2 (.agg cs) H=some (.ptr H.length 0 0,H++[.cel 0 cs]):=by
 obtain ⟨n1,l1,t1,rfl,b1,x1,rfl⟩:=ha
 exact BQ rfl rfl
theorem loadR {a:Int} {cs:List Ab} {H:Aa} {p:Nat} (ha:Rep a cs) (hg:H[p]? = some (.cel 0 cs)):Ac true 2 (.ptr p 0 0) H=some (.agg cs):=by
 obtain ⟨n1,l1,t1,rfl,b1,x1,rfl⟩:=ha
 simp only [Ac,A5 hg,Option.bind_some];rfl
theorem subR {a b:Int} {cs ds:List Ab} (ha:Rep a cs) (hb:Rep b ds) (H:Aa):Sh.fm (.agg cs) (.agg ds) H=some (.ret (Go.Gm.big (a-b)),H):=by
 unfold Sh.fm
 have e1:(H++[Blk.cel 0 cs]++[Blk.cel 0 ds]++[Blk.cel 0 [.bool false,.sl [] .tight]])[H.length]? = some (.cel 0 cs):=by simp
 have e2:(H++[Blk.cel 0 cs]++[Blk.cel 0 ds]++[Blk.cel 0 [.bool false,.sl [] .tight]])[(H++[Blk.cel 0 cs]).length]? = some (.cel 0 ds):=by simp
 have hz:=Rep.big hb.lb.neg
 simp only [GMb,GMc,boxR ha,boxR hb,Cw,loadR ha e1,loadR hb e2,minusR hb,and_true,eq_self]
 rw [←UI (-b)]
 simp only [GMb,GMc,addR ha hz,Dk (Ar (B:=H++[Blk.cel 0 cs]++[Blk.cel 0 ds]) (cs:=[.bool false,.sl [] .tight])) rfl,Bv,Cx Ar]
 rw [show a + -b=a-b from rfl]
 simp only [WG,Ct,fall_big,Option.map_some]
theorem cmpR {a b:Int} {cs ds:List Ab} (ha:Rep a cs) (hb:Rep b ds) (H:Aa):Sh.f8 (.agg cs) (.agg ds) H=some (.ret (.int .i64 (Fa a b)),H):=by
 unfold Sh.f8
 have e1:(H++[Blk.cel 0 cs]++[Blk.cel 0 ds])[H.length]? = some (.cel 0 cs):=by simp
 have e2:(H++[Blk.cel 0 cs]++[Blk.cel 0 ds])[(H++[Blk.cel 0 cs]).length]? = some (.cel 0 ds):=Ar
 simp only [GMb,GMc,boxR ha,boxR hb,loadR ha e1,loadR hb e2,subR ha hb,Cw]
 generalize hB:H++[Blk.cel 0 cs]++[Blk.cel 0 ds]=B
 have g0:Ac false 1 (.ptr B.length 0 0) (B++[Blk.cel 0 (AD (a-b))])=some (.bool (decide (a-b<0))):=by
  simp only [Ac,A5 Ar,Option.bind_some];rfl
 have g1:Ac false 1 (.ptr B.length 0 1) (B++[Blk.cel 0 (AD (a-b))])=some (.sl (enL cU (A0 (a-b).natAbs)) .no):=by
  simp only [Ac,A5 Ar,Option.bind_some];rfl
 have fin:∀q:Int,rP H (.int .i64 q) (B++[Blk.cel 0 (AD (a-b))])=some (.ret (.int .i64 q),H):=fun q=>by rw [←hB];simp only [WG];exact J3
 simp only [Dk (Ar (B:=B) (cs:=[.bool false,.sl [] .tight])) rfl,Bv,GMb,GMc,Ag,WE,Nat.add_zero,g0,g1,Av]
 unfold Fa
 by_cases h0:a=b
 ·subst h0
  have:((A0 (a-a).natAbs).length:Int)=0:=by rw [Int.sub_self];simp [CW]
  simp only [this,GMb,GMc,fin,XA]
 ·have hne:A0 (a-b).natAbs≠[]:=Nv (by omega)
  have hp:=Xx.2 hne
  have hz:¬((A0 (a-b).natAbs).length:Int)=0:=by omega
  by_cases hn:a<b
  ·have h1:a-b<0:=by omega
   simp only [hz,GMb,GMc,h1,hn,fin]
  ·have h1:¬a-b<0:=by omega
   simp only [hz,GMb,GMc,h1,hn,h0,fin]
def Hz (x:Nd) (j:Nat):Option Int:=if 1<j then some (2^(x.lv.toNat-1))else none
theorem boxTwo (a b:Nat) (H:Aa):B2 true 2 (.agg (Fz a b)) H=some (.ptr H.length 0 0,H++[.cel 0 (Fz a b)]):=BQ rfl rfl
theorem edge_turn {nf:Nat→Nat} (hnf:∀j,nf j<4) {L:List Nd} (tk:Tok) (H Hc:Aa) (E:List (Option Int)) (i j pN pF id ph:Nat) (hi:i<L.length) (hj:j<4) (hL:L.length<549755813888)
  (hE:E.length=L.length+1) (hlv:1≤L[i].lv∧L[i].lv≤1329) (hkid:0≤L[i].kid (nf j)) (hin:1<L[i].lv→(L[i].kid (nf j)).toNat<E.length∧(L[i].kid (nf j)).toNat≠i+1∧LB (bo (E.getD (L[i].kid (nf j)).toNat none)))
  (hJ:LB (D3 nf E L[i] j)) (q:Bool×Option Int) (hq:LB (bo q.2)) (hbase:H.length≤pN∧H.length≤pF∧H.length≤id∧H.length≤ph) (dN:pN≠id) (dF:pF≠id) (dH:ph≠id)
  (fN:Hc[pN]? = some (.cel 0 (Fz (nf 0) (nf 1)))) (fF:Hc[pF]? = some (.cel 0 (Fz (nf 2) (nf 3)))) (fR:Hc[id]? = some (.cel 0 (flat cBO (E.set (i+1) q.2)))) (fH:Hc[ph]? = some (.cel 0 (AD (2^(L[i].lv.toNat-1))))) (hold:∀k,k<H.length→Hc[k]? = H[k]?) (hlen:H.length≤Hc.length) :
  ∃Hd,(∀rec1 rec2:LK,Sh.f5k H rec1 rec2 (.sl (enL cNd L) tk) (.ptr pN 0 0) (.ptr pF 0 0) (.ms id 0 0 (L.length+1) (L.length+1) 2 true) (.int .i64 (i:Int)) (.ptr ph 0 0) (.bool q.1) (.int .i64 (j:Int)) Hc=rec2 [.sl (enL cNd L) tk,.ptr pN 0 0,.ptr pF 0 0,.ms id 0 0 (L.length+1) (L.length+1) 2 true,.int .i64 (i:Int),.ptr ph 0 0,.bool (if L[i].kid (nf j)=0 then q else if q.1=false∨D3 nf E L[i] j<bo q.2 then (true,Db nf E L[i] j)else q).1,.int .i64 ((j+1:Nat):Int)] Hd) ∧
   Hd[pN]? = some (.cel 0 (Fz (nf 0) (nf 1)))∧Hd[pF]? = some (.cel 0 (Fz (nf 2) (nf 3)))∧Hd[id]? = some (.cel 0 (flat cBO (E.set (i+1) (if L[i].kid (nf j)=0 then q else if q.1=false∨D3 nf E L[i] j<bo q.2 then (true,Db nf E L[i] j)else q).2)))∧Hd[ph]? = some (.cel 0 (AD (2^(L[i].lv.toNat-1))))∧(∀k,k<H.length→Hd[k]? = H[k]?)∧H.length≤Hd.length:=by
 have hj':(j:Int)<4:=by omega
 have hws:=Aw (show j<9223372036854775807 by omega)
 have hwi:=Aw (show i<9223372036854775807 by omega)
 have hm2:j%2<2:=XG _ (by omega)
 have hrem:(j:Int).tmod 2=((j%2:Nat):Int):=rfl
 have hgt:decide ((j:Int)>1)=decide (1<j):=by rw [WW];simp only [decide_eq_true_eq];omega
 have hnj:nf j=if 1<j then (if j%2=0 then nf 2 else nf 3)else (if j%2=0 then nf 0 else nf 1):=by
  match j,hj with
  | 0,_=>rfl
  | 1,_=>rfl
  | 2,_=>rfl
  | 3,_=>rfl
 have hz:AB (some [(.bool false),(.sl [] .tight)]) []=some (.agg (cBO none)):=rfl
 generalize hB:Hc++[Blk.cel 0 (cBO (Hz L[i] j))]=B
 have bN:B[pN]? = some (.cel 0 (Fz (nf 0) (nf 1))):=by rw [←hB];exact AE fN
 have bF:B[pF]? = some (.cel 0 (Fz (nf 2) (nf 3))):=by rw [←hB];exact AE fF
 have bR:B[id]? = some (.cel 0 (flat cBO (E.set (i+1) q.2))):=by rw [←hB];exact AE fR
 have bH:B[ph]? = some (.cel 0 (AD (2^(L[i].lv.toNat-1)))):=by rw [←hB];exact AE fH
 have bM:B[Hc.length]? = some (.cel 0 (cBO (Hz L[i] j))):=by rw [←hB];exact Ar
 have bold:∀k,k<H.length→B[k]? = H[k]? := fun k hk=>by rw [←hB,WD (by omega)];exact hold k hk
 have bl:B.length=Hc.length+1:=by rw [←hB];simp
 suffices hs:∃Hd,(∀rec2:LK,Sh.f5j H (fun vs H1=>Sh.f1z H rec2 (ag vs 0) (ag vs 1) (ag vs 2) (ag vs 3) (ag vs 4) (ag vs 5) (ag vs 6) (ag vs 7) H1) (.sl (enL cNd L) tk) (.ptr pN 0 0) (.ptr pF 0 0) (.ms id 0 0 (L.length+1) (L.length+1) 2 true) (.int .i64 (i:Int)) (.ptr ph 0 0) (.bool q.1) (.int .i64 (j:Int)) (.int .i64 (nf j:Int)) (.ptr Hc.length 0 0) B=rec2 [.sl (enL cNd L) tk,.ptr pN 0 0,.ptr pF 0 0,.ms id 0 0 (L.length+1) (L.length+1) 2 true,.int .i64 (i:Int),.ptr ph 0 0,.bool (if L[i].kid (nf j)=0 then q else if q.1=false∨D3 nf E L[i] j<bo q.2 then (true,Db nf E L[i] j)else q).1,.int .i64 ((j+1:Nat):Int)] Hd) ∧
   Hd[pN]? = some (.cel 0 (Fz (nf 0) (nf 1)))∧Hd[pF]? = some (.cel 0 (Fz (nf 2) (nf 3)))∧Hd[id]? = some (.cel 0 (flat cBO (E.set (i+1) (if L[i].kid (nf j)=0 then q else if q.1=false∨D3 nf E L[i] j<bo q.2 then (true,Db nf E L[i] j)else q).2)))∧Hd[ph]? = some (.cel 0 (AD (2^(L[i].lv.toNat-1))))∧(∀k,k<H.length→Hd[k]? = H[k]?)∧H.length≤Hd.length by
  obtain ⟨Hd,h1,h2⟩:=hs
  refine ⟨Hd,fun rec1 rec2=>?_,h2⟩
  have hst:∀a:Option Int,Ah 2 (.ptr Hc.length 0 0) (.agg (cBO a)) (Hc++[Blk.cel 0 (cBO none)])=some (Hc++[Blk.cel 0 (cBO a)]):=fun a=>by rw [Nc (Ar (B:=Hc)) rfl,Bv]
  have halloc:A3 (some [.bool false,.sl [] .tight]) Hc=some (.ptr Hc.length 0 0,Hc++[.cel 0 (cBO none)]):=Cw Hc
  unfold Sh.f5k
  simp only [GMb,GMc,hj',In (show (2:Int)≠0 by decide),hrem,idx_arr hm2,WE,WQ,load_two fN hm2,hz,halloc,hst,Ai,hgt]
  by_cases h1j:1<j
  ·have hF:(Hc++[Blk.cel 0 (cBO none)])[pF]? = some (.cel 0 (Fz (nf 2) (nf 3))):=AE fF
   have hH:(Hc++[Blk.cel 0 (cBO none)])[ph]? = some (.cel 0 (AD (2^(L[i].lv.toNat-1)))):=AE fH
   rw [if_pos h1j]at hnj
   have hmo:Hz L[i] j=some (2^(L[i].lv.toNat-1)):=by unfold Hz;rw [if_pos h1j]
   simp only [GMb,GMc,h1j,Ai,idx_arr hm2,WE,WQ,load_two hF hm2,Cx hH]
   rw [big_BO]
   simp only [GMb,GMc,hst]
   rw [←hmo,hB,←hnj]
   exact h1 rec2
  ·rw [if_neg h1j]at hnj
   have hmo:Hz L[i] j=none:=by unfold Hz;rw [if_neg h1j]
   simp only [GMb,GMc,h1j,Ai]
   rw [←hmo,hB,←hnj]
   exact h1 rec2
 have hnk:=hnf j
 have hEl:(E.set (i+1) q.2).length=L.length+1:=by simp [hE]
 by_cases hk0:L[i].kid (nf j)=0
 ·refine ⟨B,fun rec2=>?_,bN,bF,by rw [if_pos hk0];exact bR,bH,bold,by omega⟩
  unfold Sh.f5j
  simp only [GMb,GMc,Ap,Ag,A7,WE,Nat.add_zero,WQ,BI,Ax hi,DJ hnk,Dt hnk,hk0,Ai,Sh.f1z,hws]
 ·-- the distance
  obtain ⟨c,hc⟩:=X9 hkid
  have hct:(L[i].kid (nf j)).toNat=c:=by omega
  rw [hct]at hin
  generalize hD:B++[Blk.cel 0 (cBO (Db nf E L[i] j))]=D
  have dn:D[pN]? = some (.cel 0 (Fz (nf 0) (nf 1))):=by rw [←hD];exact AE bN
  have df:D[pF]? = some (.cel 0 (Fz (nf 2) (nf 3))):=by rw [←hD];exact AE bF
  have dr:D[id]? = some (.cel 0 (flat cBO (E.set (i+1) q.2))):=by rw [←hD];exact AE bR
  have dh:D[ph]? = some (.cel 0 (AD (2^(L[i].lv.toNat-1)))):=by rw [←hD];exact AE bH
  have dd:D[B.length]? = some (.cel 0 (cBO (Db nf E L[i] j))):=by rw [←hD];exact Ar
  have dold:∀k,k<H.length→D[k]? = H[k]? := fun k hk=>by rw [←hD,WD (by omega)];exact bold k hk
  have dl:D.length=B.length+1:=by rw [←hD];simp
  have hidl:=(WC.1 dr).1
  have hrowI:=Cy (sz:=2) (id:=id) (n:=L.length+1) (K:=.i64) (g:=0) (off:=0) (cap:=L.length+1) (ex:=true) (i:=i+1) (by omega)
  rw [WE]at hrowI
  have hldI:=P0 (f:=cBO) (sz:=2) (A5 dr) (i:=i+1) (by omega)
  rw [Zn]at hldI
  have hstI:=DV (f:=cBO) (sz:=2) (l:=E.set (i+1) q.2) (i:=i+1) (a:=Db nf E L[i] j) (v:=.agg (cBO (Db nf E L[i] j))) (A5 dr) (by omega) (UJ _)
  rw [BT dr,List.set_set]at hstI
  have hJ':LB (bo (Db nf E L[i] j)):=by rw [Ut];exact hJ
  have hcmp:=fun H=>cmpR (Rep.bo hJ') (Rep.bo hq) H
  simp only [Ut]at hcmp
  have h5:∃Hd,(∀rec2:LK,Sh.f4h H (fun vs H1=>Sh.f1z H rec2 (ag vs 0) (ag vs 1) (ag vs 2) (ag vs 3) (ag vs 4) (ag vs 5) (ag vs 6) (ag vs 7) H1) (.sl (enL cNd L) tk) (.ptr pN 0 0) (.ptr pF 0 0) (.ms id 0 0 (L.length+1) (L.length+1) 2 true) (.int .i64 (i:Int)) (.ptr ph 0 0) (.bool q.1) (.int .i64 (j:Int)) (.ptr B.length 0 0) D=rec2 [.sl (enL cNd L) tk,.ptr pN 0 0,.ptr pF 0 0,.ms id 0 0 (L.length+1) (L.length+1) 2 true,.int .i64 (i:Int),.ptr ph 0 0,.bool (if q.1=false∨D3 nf E L[i] j<bo q.2 then (true,Db nf E L[i] j)else q).1,.int .i64 ((j+1:Nat):Int)] Hd) ∧
    Hd[pN]? = some (.cel 0 (Fz (nf 0) (nf 1)))∧Hd[pF]? = some (.cel 0 (Fz (nf 2) (nf 3)))∧Hd[id]? = some (.cel 0 (flat cBO (E.set (i+1) (if q.1=false∨D3 nf E L[i] j<bo q.2 then (true,Db nf E L[i] j)else q).2)))∧Hd[ph]? = some (.cel 0 (AD (2^(L[i].lv.toNat-1))))∧(∀k,k<H.length→Hd[k]? = H[k]?)∧H.length≤Hd.length:=by
   have put:(D.set id (.cel 0 (flat cBO (E.set (i+1) (Db nf E L[i] j)))))[pN]? = some (.cel 0 (Fz (nf 0) (nf 1)))∧(D.set id (.cel 0 (flat cBO (E.set (i+1) (Db nf E L[i] j)))))[pF]? = some (.cel 0 (Fz (nf 2) (nf 3)))∧(D.set id (.cel 0 (flat cBO (E.set (i+1) (Db nf E L[i] j)))))[id]? = some (.cel 0 (flat cBO (E.set (i+1) (Db nf E L[i] j))))∧(D.set id (.cel 0 (flat cBO (E.set (i+1) (Db nf E L[i] j)))))[ph]? = some (.cel 0 (AD (2^(L[i].lv.toNat-1))))∧(∀k,k<H.length→(D.set id (.cel 0 (flat cBO (E.set (i+1) (Db nf E L[i] j)))))[k]? = H[k]?)∧H.length≤(D.set id (.cel 0 (flat cBO (E.set (i+1) (Db nf E L[i] j))))).length:=
    ⟨by rw [WI dN.symm];exact dn,by rw [WI dF.symm];exact df,by rw [WS hidl],by rw [WI dH.symm];exact dh,fun k hk=>by rw [WI (by omega)];exact dold k hk,by simp;omega⟩
   cases hq1:q.1 with
   | false=>
    rw [if_pos (Or.inl rfl)]
    refine ⟨_,fun rec2=>?_,put⟩
    unfold Sh.f4h
    simp only [GMb,GMc,Fi dd,hwi,hrowI,hstI,Ai,Sh.f1z,hws]
   | true=>
    by_cases hlt:D3 nf E L[i] j<bo q.2
    ·rw [if_pos (Or.inr hlt)]
     refine ⟨_,fun rec2=>?_,put⟩
     unfold Sh.f4h
     simp only [GMb,GMc,Fi dd,hwi,hrowI,hldI,hcmp,PN,hlt,hstI,Ai,Sh.f1z,hws]
    ·rw [if_neg (by intro h;rcases h with h | h;cases h;exact hlt h)]
     refine ⟨D,fun rec2=>?_,dn,df,dr,dh,dold,by omega⟩
     unfold Sh.f4h
     simp only [GMb,GMc,Fi dd,hwi,hrowI,hldI,hcmp,PN,hlt,Ai,Sh.f1z,hws,hq1]
  rw [if_neg hk0]
  obtain ⟨Hd,g1,g2⟩:=h5
  refine ⟨Hd,fun rec2=>?_,g2⟩
  have hk0':¬(c:Int)=0:=by rw [←hc];exact hk0
  have hst:∀a:Option Int,∀cs:Option Int,Ah 2 (.ptr B.length 0 0) (.agg (cBO a)) (B++[Blk.cel 0 (cBO cs)])=some (B++[Blk.cel 0 (cBO a)]):=fun a cs=>by rw [Nc (Ar (B:=B)) (by cases cs <;> rfl),Bv]
  have halloc:A3 (some [.bool false,.sl [] .tight]) B=some (.ptr B.length 0 0,B++[.cel 0 (cBO none)]):=Cw B
  unfold Sh.f5j
  simp only [GMb,GMc,Ap,Ag,A7,WE,Nat.add_zero,WQ,BI,Ax hi,DJ hnk,Dt hnk,hc,hk0',Fi bM,halloc,hst,Ai]
  by_cases h1:1<L[i].lv
  ·have h1':L[i].lv>1:=h1
   obtain ⟨i1,i2,i3⟩:=hin h1
   have hB1M:(B++[Blk.cel 0 (cBO (Hz L[i] j))])[Hc.length]? = some (.cel 0 (cBO (Hz L[i] j))):=AE bM
   have hB1R:(B++[Blk.cel 0 (cBO (Hz L[i] j))])[id]? = some (.cel 0 (flat cBO (E.set (i+1) q.2))):=AE bR
   have hrowC:=Cy (sz:=2) (id:=id) (n:=L.length+1) (K:=.i64) (g:=0) (off:=0) (cap:=L.length+1) (ex:=true) (i:=c) (by omega)
   rw [WE]at hrowC
   have hldC:=P0 (f:=cBO) (sz:=2) (A5 hB1R) (i:=c) (by omega)
   rw [List.getElem_set_ne (by omega)]at hldC
   have hgd:E.getD c none=E[c]:=by rw [WH,WB i1];rfl
   rw [hgd]at i3
   have hmb:LB (bo (Hz L[i] j)):=by
    unfold Hz
    split
    ·exact (Nh (by omega)).lb (by decide)
    ·exact LB_zero
   have hadd:=fun H=>addR (Rep.bo hmb) (Rep.bo i3) H
   have hsum:bo (Hz L[i] j)+bo E[c]=D3 nf E L[i] j:=by
    unfold D3 Hz
    rw [if_pos h1,hct,hgd]
    split <;> rfl
   have hDd:Db nf E L[i] j=some (D3 nf E L[i] j):=by unfold Db;rw [if_pos h1]
   simp only [GMb,GMc,h1',Fi hB1M,hrowC,hldC,hadd,hsum]
   rw [big_BO,←hDd]
   simp only [GMb,GMc,hst,hD,Ai]
   exact g1 rec2
  ·have h1':¬L[i].lv>1:=h1
   have hDd:Db nf E L[i] j=Hz L[i] j:=by unfold Db Hz;rw [if_neg h1]
   simp only [GMb,GMc,h1',Ai]
   rw [←hDd,hD]
   exact g1 rec2
end Go.Gm
