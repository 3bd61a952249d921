/- Texts of this proof, joined. -/
import Derived.Test.YtagddbecnkbcdaaGreatJ2
import Derived.Test.YtagddbecnkbcdaaGreatJ3
set_option linter.unusedVariables false
set_option linter.unusedSimpArgs false
namespace Go.Gm
section
variable {α:Type} {lt:α→α→Bool}
def In (lt:α→α→Bool) (l:List α) (i j:Nat):Bool:=match l[i]?,l[j]? with
 | some x,some y=>lt x y
 | _,_=>false
theorem QW {l:List α} {i j:Nat} (hi:i<l.length) (hj:j<l.length):In lt l i j=lt l[i] l[j]:=by
 unfold In;rw [UU hi,UU hj]
def Kn (lt:α→α→Bool) (a:Nat):Nat→List α→List α
 | 0,l=>l
 | j+1,l=>if a<j+1∧In lt l (j+1) j=true then Kn lt a j (swp l (j+1) j)else l
theorem insJ_len (a:Nat):∀(j:Nat) (l:List α),(Kn lt a j l).length=l.length
 | 0,l=>rfl
 | j+1,l=>by
  unfold Kn
  split
  ·rw [insJ_len a j,M3]
  ·rfl
theorem insJ_ok (hs:SW lt) (A:List α) (x:α):∀(n:Nat) (S R:List α),S.length=n→En lt S→∃P,Kn lt A.length (A.length+S.length) (A++(S++x::R))=A++(P++R)∧Srt lt (S++[x]) P
 | 0,S,R,hn,_=>by
  have:S=[]:=Vo hn
  subst this
  refine ⟨[x],?_,⟨Wj _ _,.refl _,rfl⟩⟩
  show Kn lt A.length (A.length+0) _=_
  rw [Nat.add_zero]
  cases hA:A.length with
  | zero=>rfl
  | succ k=>
   unfold Kn
   rw [if_neg (by omega)];rfl
 | n+1,S,R,hn,hS=>by
  have hne:S≠[]:=fun e=>by rw [e]at hn;cases hn
  obtain ⟨T,y,rfl⟩:∃T y,S=T++[y]:=⟨S.dropLast,S.getLast hne,(List.dropLast_concat_getLast hne).symm⟩
  have hT:T.length=n:=by simpa using hn
  have hS':=hS
  unfold En at hS'
  rw [Wl]at hS'
  obtain ⟨hT1,_,hT2⟩:=hS'
  have hl:A++((T++[y])++x::R)=(A++T)++y::([]++x::R):=by simp
  have hAT:(A++T).length=A.length+T.length:=Vc
  have g1:In lt (A++((T++[y])++x::R)) (A.length+T.length+1) (A.length+T.length)=lt x y:=by
   unfold In
   have e1:(A++((T++[y])++x::R))[A.length+T.length+1]? = some x:=by
    have:A++((T++[y])++x::R)=(A++T++[y])++x::R:=by simp
    rw [this,show A.length+T.length+1=(A++T++[y]).length by simp;omega]
    exact get_at _ _ _
   have e2:(A++((T++[y])++x::R))[A.length+T.length]? = some y:=by
    rw [hl,←hAT];exact get_at _ _ _
   rw [e1,e2]
  have hlen:A.length+(T++[y]).length=A.length+T.length+1:=by simp;omega
  rw [hlen]
  unfold Kn
  rw [g1]
  by_cases hxy:lt x y=true
  ·rw [if_pos ⟨by omega,hxy⟩,hl,(QO (A++T) [] R y x hAT.symm (by rw [hAT];rfl)).2]
   obtain ⟨P,p1,p2⟩:=insJ_ok hs A x n T (y::R) hT hT1
   refine ⟨P++[y],?_,⟨?_,?_,by rw [Vc,p2.len];simp⟩⟩
   ·have:(A++T)++x::([]++y::R)=A++(T++x::(y::R)):=by simp
    rw [this,p1];simp
   ·refine Ls p2.srt (Wj _ _) fun a ha b hb=>?_
    rw [Vs]at hb
    subst hb
    have:=(p2.st.mem hs).2 ha
    rcases Vt.1 this with h | h
    ·exact hT2 a h b (by simp)
    ·rw [Vs]at h;rw [h];exact hs.asy _ _ hxy
   ·refine Fh.trans ?_ (p2.st.app (.refl [y]))
    rw [Vb,Vb]
    exact (Fh.refl T).app (Fh.swap hs fun a ha b hb=>by
     rw [Vs]at ha hb;rw [ha,hb];exact hxy)
  ·have hxy':lt x y=false:=by simpa using hxy
   rw [if_neg (fun h=>hxy h.2)]
   refine ⟨T++[y]++[x],by simp,⟨Ls hS (Wj _ _) fun a ha b hb=>?_,.refl _,rfl⟩⟩
   rw [Vs]at hb
   subst hb
   rcases Vt.1 ha with h | h
   ·exact hs.neg _ _ _ hxy' (hT2 a h y (by simp))
   ·rw [Vs]at h;rw [h];exact hxy'
def Q9 (lt:α→α→Bool) (a:Nat):Nat→List α→List α
 | 0,l=>l
 | k+1,l=>Kn lt a (a+1+k) (Q9 lt a k l)
theorem insN_len (a:Nat):∀(k:Nat) (l:List α),(Q9 lt a k l).length=l.length
 | 0,l=>rfl
 | k+1,l=>by unfold Q9;rw [insJ_len,insN_len a k]
theorem insN_ok (hs:SW lt) (A:List α):∀(k:Nat) (S R:List α),S.length=k+1→∃P,Q9 lt A.length k (A++(S++R))=A++(P++R)∧Srt lt S P
 | 0,S,R,hn=>by
  obtain ⟨x,rfl⟩:=WR.1 hn
  exact ⟨[x],rfl,⟨Wj _ _,.refl _,rfl⟩⟩
 | k+1,S,R,hn=>by
  have hne:S≠[]:=fun e=>by rw [e]at hn;cases hn
  obtain ⟨T,y,rfl⟩:∃T y,S=T++[y]:=⟨S.dropLast,S.getLast hne,(List.dropLast_concat_getLast hne).symm⟩
  have hT:T.length=k+1:=by simpa using hn
  obtain ⟨P,p1,p2⟩:=insN_ok hs A k T (y::R) hT
  have hPl:P.length=k+1:=by rw [p2.len,hT]
  obtain ⟨P',q1,q2⟩:=insJ_ok hs A y P.length P R rfl p2.srt
  refine ⟨P',?_,⟨q2.srt,(p2.st.app (.refl [y])).trans q2.st,by rw [q2.len,Vc,Vc,p2.len]⟩⟩
  unfold Q9
  have:A++((T++[y])++R)=A++(T++y::R):=by simp
  rw [this,p1,show A.length+1+k=A.length+P.length by omega]
  exact q1

end
section
variable {α:Type} {lt:α→α→Bool}
def swR (a b:Nat):Nat→List α→List α
 | 0,l=>l
 | k+1,l=>swp (swR a b k l) (a+k) (b+k)
theorem QP (a b:Nat):∀(k:Nat) (l:List α),(swR a b k l).length=l.length
 | 0,l=>rfl
 | k+1,l=>by unfold swR;rw [M3,QP a b k]
theorem swR_up (A M B U V:List α) (h:U.length=V.length):∀k,k≤U.length→swR A.length (A.length+U.length+M.length) k (A++(U++(M++(V++B))))=A++((V.take k++U.drop k)++(M++((U.take k++V.drop k)++B)))
 | 0,_=>by simp [swR]
 | k+1,hk=>by
  unfold swR
  rw [swR_up A M B U V h k (by omega)]
  have hku:k<U.length:=by omega
  have hkv:k<V.length:=by omega
  rw [V4 hku,V4 hkv,Vf hku,Vf hkv]
  have e:A++((V.take k++U[k]::U.drop (k+1))++(M++((U.take k++V[k]::V.drop (k+1))++B)))=(A++V.take k)++U[k]::((U.drop (k+1)++(M++U.take k))++V[k]::(V.drop (k+1)++B)):=by simp only [Vb,List.cons_append,List.nil_append]
  have h1:(V.take k).length=k:=by rw [Vm];omega
  have h2:(U.take k).length=k:=by rw [Vm];omega
  rw [e,(QO (A++V.take k) (U.drop (k+1)++(M++U.take k)) (V.drop (k+1)++B) U[k] V[k] (by rw [Vc,h1]) (by simp only [Vc,h1,h2,Vx];omega)).1]
  simp only [Vb,List.cons_append,List.nil_append]
theorem swR_ok (A M B U V:List α) (h:U.length=V.length) {a b n:Nat} (ha:a=A.length) (hb:b=A.length+U.length+M.length) (hn:n=U.length):swR a b n (A++(U++(M++(V++B))))=A++(V++(M++(U++B))):=by
 subst ha;subst hb;subst hn
 rw [swR_up A M B U V h U.length (Va _),Vg (by omega),Vg (Va _),Ws (Va _),Ws (by omega)]
 simp
structure NI (A B W:List α) (m i j:Nat) (l:List α):Prop where
 ex:∃P u v S,l=A++(P++(u++(v++(S++B))))∧P++(v++(u++S))=W∧u.length=i∧v.length=j∧A.length+P.length+i=m
 pos:0<i∧0<j
theorem NI.start {A B U V:List α} (hU:0<U.length) (hV:0<V.length):NI A B (V++U) (A.length+U.length) U.length V.length (A++(U++(V++B))):=
 ⟨⟨[],U,V,[],by simp,by simp,rfl,rfl,by simp⟩,hU,hV⟩
theorem NI.hi {A B W l:List α} {m i j:Nat} (h:NI A B W m i j l) (hij:j<i):NI A B W m (i-j) j (swR (m-i) m j l):=by
 obtain ⟨⟨P,u,v,S,rfl,hW,hu,hv,hm⟩,h1,h2⟩:=h
 have hsp:u.take j++u.drop j=u:=VG j u
 have l1:(u.take j).length=j:=by rw [Vm];omega
 have l2:(u.drop j).length=i-j:=by rw [Vx,hu]
 have e:A++(P++(u++(v++(S++B))))=(A++P)++(u.take j++(u.drop j++(v++(S++B)))):=by
  conv=>lhs;rw [←hsp]
  simp only [Vb]
 rw [e,swR_ok (A++P) (u.drop j) (S++B) (u.take j) v (by rw [l1,hv]) (by rw [Vc];omega) (by rw [Vc,l1,l2];omega) l1.symm]
 refine ⟨⟨P++v,u.drop j,u.take j,S,by simp,?_,l2,l1,by rw [Vc];omega⟩,by omega,h2⟩
 rw [←hW]
 conv=>rhs;rw [←hsp]
 simp only [Vb]
theorem NI.lo {A B W l:List α} {m i j:Nat} (h:NI A B W m i j l) (hij:i<j):NI A B W m i (j-i) (swR (m-i) (m+j-i) i l):=by
 obtain ⟨⟨P,u,v,S,rfl,hW,hu,hv,hm⟩,h1,h2⟩:=h
 have hsp:v.take (j-i)++v.drop (j-i)=v:=VG (j-i) v
 have l1:(v.take (j-i)).length=j-i:=by rw [Vm];omega
 have l2:(v.drop (j-i)).length=i:=by rw [Vx,hv];omega
 have e:A++(P++(u++(v++(S++B))))=(A++P)++(u++(v.take (j-i)++(v.drop (j-i)++(S++B)))):=by
  conv=>lhs;rw [←hsp]
  simp only [Vb]
 rw [e,swR_ok (A++P) (v.take (j-i)) (S++B) u (v.drop (j-i)) (by rw [l2,hu]) (by rw [Vc];omega) (by rw [Vc,l1];omega) hu.symm]
 refine ⟨⟨P,v.drop (j-i),v.take (j-i),u++S,by simp,?_,l2,l1,hm⟩,h1,by omega⟩
 rw [←hW]
 conv=>rhs;rw [←hsp]
 simp only [Vb]
theorem NI.eq {A B W l:List α} {m i:Nat} (h:NI A B W m i i l):swR (m-i) m i l=A++(W++B):=by
 obtain ⟨⟨P,u,v,S,rfl,hW,hu,hv,hm⟩,h1,h2⟩:=h
 have e:A++(P++(u++(v++(S++B))))=(A++P)++(u++([]++(v++(S++B)))):=by simp
 rw [e,swR_ok (A++P) [] (S++B) u v (by omega) (by rw [Vc];omega) (by rw [Vc];simp;omega) hu.symm,←hW]
 simp
theorem NI.len {A B W l:List α} {m i j:Nat} (h:NI A B W m i j l):i≤m∧m+j≤l.length:=by
 obtain ⟨⟨P,u,v,S,rfl,hW,hu,hv,hm⟩,h1,h2⟩:=h
 simp only [Vc];omega
structure BsI (p:Nat→Bool) (s r i j:Nat):Prop where
 le:s≤i∧i≤j∧j≤r
 up:∀c,s≤c→c<i→p c=true
 dn:∀c,j≤c→c<r→p c=false
theorem BsI.start {p:Nat→Bool} {s r:Nat} (h:s≤r):BsI p s r s r:=⟨⟨Va _,h,Va _⟩,fun c _ _=>by omega,fun c _ _=>by omega⟩
theorem BsI.yes {p:Nat→Bool} {s r i j h:Nat} (k:BsI p s r i j) (hm:∀c d,s≤c→c≤d→d<r→p d=true→p c=true) (h1:i≤h) (h2:h<j) (hp:p h=true):BsI p s r (h+1) j:=by
 obtain ⟨⟨a,b,c⟩,d,e⟩:=k
 exact ⟨⟨by omega,by omega,c⟩,fun x hx hy=>hm x h hx (by omega) (by omega) hp,e⟩
theorem BsI.no {p:Nat→Bool} {s r i j h:Nat} (k:BsI p s r i j) (hm:∀c d,s≤c→c≤d→d<r→p d=true→p c=true) (h1:i≤h) (h2:h<j) (hp:p h=false):BsI p s r i h:=by
 obtain ⟨⟨a,b,c⟩,d,e⟩:=k
 refine ⟨⟨a,h1,by omega⟩,d,fun x hx hy=>?_⟩
 cases hq:p x with
 | false=>rfl
 | true=>have:=hm h x (by omega) hx hy hq;rw [hp]at this;cases this

end
section
variable {α:Type} {lt:α→α→Bool}
theorem Ha {l:List α} (h:En lt l) (hs:SW lt) {i j:Nat} (hij:i≤j) (hj:j<l.length):lt l[j] (l[i]'(by omega))=false:=by
 by_cases e:i=j
 ·subst e;exact hs.irr _
 ·exact WF.1 h i j (by omega) hj (by omega)
theorem HK {l:List α} {n:Nat} {x:α} (h:x∈l.take n):∃i,∃hi:i<l.length,i<n∧l[i]=x:=by
 obtain ⟨i,hi,e⟩:=V5 h
 rw [Vm]at hi
 exact ⟨i,by omega,by omega,by rw [←e,Yc]⟩
theorem HL {l:List α} {n:Nat} {x:α} (h:x∈l.drop n):∃i,∃hi:i<l.length,n≤i∧l[i]=x:=by
 obtain ⟨i,hi,e⟩:=V5 h
 rw [Vx]at hi
 exact ⟨n+i,by omega,by omega,by rw [←e,WX]⟩
theorem OV (hs:SW lt) {U V W1 W2:List α} {i k:Nat} (hU:En lt U) (hV:En lt V) (h1:∀x∈U.drop i,∀y∈V.take k,lt y x=true) (h2:∀x∈U.take i,∀y∈V.drop k,lt y x=false)
  (w1:Srt lt (U.take i++V.take k) W1) (w2:Srt lt (U.drop i++V.drop k) W2):Srt lt (U++V) (W1++W2):=by
 have eU:U.take i++U.drop i=U:=VG i U
 have eV:V.take k++V.drop k=V:=VG k V
 have hU':=hU
 have hV':=hV
 rw [←eU]at hU'
 rw [←eV]at hV'
 have pU:=(Wl.1 hU').2.2
 have pV:=(Wl.1 hV').2.2
 refine ⟨Ls w1.srt w2.srt fun a ha b hb=>?_,?_,?_⟩
 ·have ha':=(w1.st.mem hs).2 ha
  have hb':=(w2.st.mem hs).2 hb
  rcases Vt.1 ha' with x | x <;> rcases Vt.1 hb' with y | y
  ·exact pU a x b y
  ·exact h2 a x b y
  ·exact hs.asy _ _ (h1 b y a x)
  ·exact pV a x b y
 ·refine Fh.trans ?_ (w1.st.app w2.st)
  have e1:U++V=U.take i++((U.drop i++V.take k)++V.drop k):=by
   conv=>lhs;rw [←eU,←eV]
   simp only [Vb]
  have e2:U.take i++V.take k++(U.drop i++V.drop k)=U.take i++((V.take k++U.drop i)++V.drop k):=by simp only [Vb]
  rw [e1,e2]
  exact (Fh.refl _).app ((Fh.swap hs h1).app (.refl _))
 ·rw [Vc,w1.len,w2.len,Vc,Vc,Vc,Vm,Vm,Vx,Vx];omega
section
variable {U V A B:List α} {a m b mid s0 r0 s:Nat}
def Rv (lt:α→α→Bool) (l:List α) (P:Nat) (c:Nat):Bool:=!In lt l (P-c) c
theorem at_U (ha:A.length=a) {c:Nat} (h1:a≤c) (h2:c<a+U.length):(A++(U++(V++B)))[c]? = some (U[c-a]'(by omega)):=by
 rw [Vu (by omega),UW (by omega),ha,UU]
theorem at_V (ha:A.length=a) (hm:a+U.length=m) {c:Nat} (h1:m≤c) (h2:c<m+V.length):(A++(U++(V++B)))[c]? = some (V[c-m]'(by omega)):=by
 rw [Vu (by omega),Vu (by omega),UW (by omega),show c-A.length-U.length=c-m by omega,UU]
theorem QN (ha:A.length=a) (hm:a+U.length=m) {P c:Nat} (h1:a≤c) (h2:c<m) (h3:m≤P-c) (h4:P-c<m+V.length):Rv lt (A++(U++(V++B))) P c = !lt (V[P-c-m]'(by omega)) (U[c-a]'(by omega)):=by
 unfold Rv In
 rw [at_V ha hm h3 h4,at_U ha h1 (by omega)]
theorem symP_mono (hs:SW lt) (hU:En lt U) (hV:En lt V) (ha:A.length=a) (hm:a+U.length=m) {P c d:Nat} (h1:a≤c) (hcd:c≤d) (h2:d<m) (h3:m≤P-d) (h4:P-c<m+V.length)
  (h:Rv lt (A++(U++(V++B))) P d=true):Rv lt (A++(U++(V++B))) P c=true:=by
 rw [QN ha hm (by omega) h2 h3 (by omega)]at h
 rw [QN ha hm h1 (by omega) (by omega) h4]
 simp only [Wc]at h ⊢
 have u:=Ha hU hs (i:=c-a) (j:=d-a) (by omega) (by omega)
 have v:=Ha hV hs (i:=P-d-m) (j:=P-c-m) (by omega) (by omega)
 exact hs.neg _ _ _ v (hs.neg _ _ _ h u)
theorem sym_split (hs:SW lt) (hU:En lt U) (hV:En lt V) (ha:A.length=a) (hm:a+U.length=m) (hb:m+V.length=b) (hmid:mid=(a+b) / 2) (hUp:0<U.length) (hVp:0<V.length)
  (h0:s0=if mid<m then mid+m-b else a) (hr:r0=if mid<m then mid else m) (k:BsI (Rv lt (A++(U++(V++B))) (mid+m-1)) s0 r0 s s) :
  (∀x∈U.drop (s-a),∀y∈V.take (mid-s),lt y x=true)∧(∀x∈U.take (s-a),∀y∈V.drop (mid-s),lt y x=false)∧a≤s∧s≤m∧s≤mid∧m≤mid+m-s∧mid+m-s≤b:=by
 obtain ⟨⟨k1,_,k2⟩,k3,k4⟩:=k
 have hrange:a≤s∧s≤m∧s≤mid∧mid+m-s≤b:=by
  by_cases hc:mid<m
  ·rw [if_pos hc]at h0 hr;omega
  ·rw [if_neg hc]at h0 hr;omega
 refine ⟨fun x hx y hy=>?_,fun x hx y hy=>?_,by omega,by omega,by omega,by omega,by omega⟩
 ·obtain ⟨i,hi,hi2,rfl⟩:=HL hx
  obtain ⟨j,hj,hj2,rfl⟩:=HK hy
  have hlt:s<r0:=by
   by_cases hc:mid<m
   ·rw [if_pos hc]at hr;omega
   ·rw [if_neg hc]at hr;omega
  have:=k4 s (Va _) hlt
  rw [QN ha hm (by omega) (by omega) (by omega) (by omega)]at this
  simp only [XB]at this
  have u:=Ha hU hs (i:=s-a) (j:=i) hi2 hi
  have v:=Ha hV hs (i:=j) (j:=mid+m-1-s-m) (by omega) (by omega)
  cases e:lt V[j] U[i]with
  | true=>rfl
  | false=>
   have h9:=hs.neg _ _ _ v (hs.neg _ _ _ e u)
   rw [h9]at this;cases this
 ·obtain ⟨i,hi,hi2,rfl⟩:=HK hx
  obtain ⟨j,hj,hj2,rfl⟩:=HL hy
  have hlt:s0<s:=by
   by_cases hc:mid<m
   ·rw [if_pos hc]at h0;omega
   ·rw [if_neg hc]at h0;omega
  have:=k3 (s-1) (by omega) (by omega)
  rw [QN ha hm (by omega) (by omega) (by omega) (by omega)]at this
  simp only [Wc]at this
  have u:=Ha hU hs (i:=i) (j:=s-1-a) (by omega) (by omega)
  have v:=Ha hV hs (i:=mid+m-1-(s-1)-m) (j:=j) (by omega) hj
  exact hs.neg _ _ _ v (hs.neg _ _ _ this u)

end
theorem one_up (hs:SW lt) {x:α} {V:List α} {k:Nat} (hV:En lt V) (h1:∀y∈V.take k,lt y x=true) (h2:∀y∈V.drop k,lt y x=false):Srt lt ([x]++V) (V.take k++([x]++V.drop k)):=by
 have:=OV (U:=[x]) (V:=V) (i:=0) (k:=k) (W1:=V.take k) (W2:=[x]++V.drop k) hs (Wj _ _) hV (fun a ha y hy=>by
  have:a=x:=by simpa using ha
  rw [this];exact h1 y hy) (fun a ha=>by simp at ha) ⟨Wn (XE k V) hV,Fh.refl _,rfl⟩
  ⟨Ls (Wj _ _) (Wn (XG k V) hV) fun a ha y hy=>by rw [Vs]at ha;rw [ha];exact h2 y hy,.refl _,rfl⟩
 exact this
theorem one_dn (hs:SW lt) {y:α} {U:List α} {i:Nat} (hU:En lt U) (h1:∀x∈U.take i,lt y x=false) (h2:∀x∈U.drop i,lt y x=true):Srt lt (U++[y]) (U.take i++([y]++U.drop i)):=by
 have:=OV (U:=U) (V:=[y]) (i:=i) (k:=1) (W1:=U.take i++[y]) (W2:=U.drop i) hs hU (Wj _ _) (fun x hx a ha=>by
  have:a=y:=by simpa using ha
  rw [this];exact h2 x hx) (fun x hx a ha=>by simp at ha)
  ⟨Ls (Wn (XE i U) hU) (Wj _ _) fun a ha x hx=>by rw [Vs]at hx;rw [hx];exact h1 a ha,.refl _,rfl⟩
  ⟨Wn (XG i U) hU,by simpa using Fh.refl _,by simp⟩
 simpa using this
def upR (a:Nat):Nat→List α→List α
 | 0,l=>l
 | k+1,l=>swp (upR a k l) (a+k) (a+k+1)
def dnR (m:Nat):Nat→List α→List α
 | 0,l=>l
 | k+1,l=>swp (dnR m k l) (m-k) (m-k-1)
theorem upR_ok (A B:List α) (x:α) (V:List α):∀k,k≤V.length→upR A.length k (A++([x]++(V++B)))=A++((V.take k++([x]++V.drop k))++B)
 | 0,_=>by simp [upR]
 | k+1,hk=>by
  have hkv:k<V.length:=hk
  unfold upR
  rw [upR_ok A B x V k (by omega)]
  have e:A++((V.take k++([x]++V.drop k))++B)=(A++V.take k)++x::([]++V[k]::(V.drop (k+1)++B)):=by
   rw [V4 hkv];simp only [Vb,List.cons_append,List.nil_append]
  have h1:(V.take k).length=k:=by rw [Vm];omega
  rw [e,(QO (A++V.take k) [] (V.drop (k+1)++B) x V[k] (by rw [Vc,h1]) (by rw [Vc,h1];rfl)).1,Vf hkv]
  simp only [Vb,List.cons_append,List.nil_append]
theorem dnR_ok (A B:List α) (y:α) (U:List α):∀k,k≤U.length→dnR (A.length+U.length) k (A++(U++([y]++B)))=A++((U.take (U.length-k)++([y]++U.drop (U.length-k)))++B)
 | 0,_=>by simp [dnR]
 | k+1,hk=>by
  unfold dnR
  rw [dnR_ok A B y U k (by omega)]
  obtain ⟨i,hi⟩:∃i,U.length=i+(k+1):=⟨U.length-(k+1),by omega⟩
  have h2:U.length-k=i+1:=by omega
  have h3:U.length-(k+1)=i:=by omega
  have hiu:i<U.length:=by omega
  rw [h2,h3]
  have h1:(U.take i).length=i:=by rw [Vm];omega
  have e:A++((U.take (i+1)++([y]++U.drop (i+1)))++B)=(A++U.take i)++U[i]::([]++y::(U.drop (i+1)++B)):=by
   rw [Vf hiu];simp only [Vb,List.cons_append,List.nil_append]
  rw [e,(QO (A++U.take i) [] (U.drop (i+1)++B) U[i] y (i:=A.length+U.length-k-1) (j:=A.length+U.length-k) (by rw [Vc,h1];omega) (by rw [Vc,h1];simp;omega)).2,V4 hiu]
  simp only [Vb,List.cons_append,List.nil_append]

end
section
variable {α:Type} {lt:α→α→Bool}
def Nk (lt:α→α→Bool) (w:Nat) (l:List α):Prop:=∀(i j:Nat) (hj:j<l.length) (hi:i<j),i / w=j / w→lt l[j] (l[i]'(by omega))=false
structure Stg (lt:α→α→Bool) (w:Nat) (l:List α) (a:Nat) (l':List α):Prop where
 ex:∃P,l'=P++l.drop a∧P.length=a∧Fh lt (l.take a) P∧Nk lt w P
theorem Stg.start (w:Nat) (l:List α):Stg lt w l 0 l:=⟨⟨[],by simp,rfl,by simpa using Fh.refl _,fun i j hj=>by simp at hj⟩⟩
theorem Stg.len {w:Nat} {l l':List α} {a:Nat} (h:Stg lt w l a l') (ha:a≤l.length):l'.length=l.length:=by
 obtain ⟨P,rfl,hP,_,_⟩:=h.ex
 rw [Vc,hP,Vx];omega
theorem SC {w a i:Nat} (hw:0<w) (hd:w ∣ a) (hi:i<w):(a+i) / w=a / w:=by
 obtain ⟨q,rfl⟩:=hd
 rw [Nat.mul_add_div hw,Nat.mul_div_cancel_left _ hw,Wx hi];omega
theorem div_less {w a i:Nat} (hw:0<w) (hd:w ∣ a) (hi:i<a):i / w<a / w:=by
 obtain ⟨q,rfl⟩:=hd
 rw [Nat.mul_div_cancel_left _ hw]
 rw [Wv hw,Wr];exact hi
theorem Nk.app {w:Nat} {P S:List α} (hw:0<w) (hd:w ∣ P.length) (h:Nk lt w P) (hS:En lt S):S.length≤w→Nk lt w (P++S):=by
 intro hl i j hj hi he
 rw [Vc]at hj
 by_cases h1:j<P.length
 ·rw [XH h1,XH (by omega)]
  exact h i j h1 hi he
 ·by_cases h2:i<P.length
  ·have e1:=div_less hw hd h2
   have e2:=SC hw hd (show j-P.length<w by omega)
   rw [show P.length+(j-P.length)=j by omega]at e2
   omega
  ·rw [Wd (by omega),Wd (by omega)]
   exact WF.1 hS (i-P.length) (j-P.length) (by omega) (by omega) (by omega)
theorem Stg.all {w:Nat} {l l':List α} (h:Stg lt w l l.length l'):Fh lt l l'∧Nk lt w l'∧l'.length=l.length:=by
 obtain ⟨P,h1,hP,hst,hb⟩:=h.ex
 rw [Ws (Va _),V3]at h1
 rw [Vg (Va _)]at hst
 subst h1
 exact ⟨hst,hb,hP⟩
theorem Nk.block {w a:Nat} {l:List α} (hw:0<w) (hd:w ∣ a) (h:Nk lt w l) (n:Nat) (hn:n≤w):En lt ((l.drop a).take n):=by
 refine WF.2 fun i j hi hj hij=>?_
 rw [Vm,Vx]at hi hj
 rw [Yc,Yc,WX,WX]
 refine h (a+i) (a+j) (by omega) (by omega) ?_
 rw [SC hw hd (by omega),SC hw hd (by omega)]
theorem Nk.whole {w:Nat} {l:List α} (hw:l.length≤w) (h:Nk lt w l):En lt l:=by
 refine WF.2 fun i j hi hj hij=>h i j hj hij ?_
 rw [Wx (by omega),Wx (by omega)]
theorem Nz (hs:SW lt):∀l m:List α,(l.Pairwise fun a b=>lt a b=true)→(m.Pairwise fun a b=>lt a b=true)→(∀a,a∈l↔a∈m)→l=m
 | [],m,_,_,h=>by
  cases m with
  | nil=>rfl
  | cons y m=>have:=(h y).2 (by simp);cases this
 | x::l,m,hl,hm,h=>by
  cases m with
  | nil=>have:=(h x).1 (by simp);cases this
  | cons y m=>
   rw [WP]at hl hm
   have hxy:x=y:=by
    rcases V7.1 ((h x).1 (by simp))with e | e
    ·exact e
    ·rcases V7.1 ((h y).2 (by simp))with e' | e'
     ·exact e'.symm
     ·have a1:=hm.1 x e
      have a2:=hl.1 y e'
      rw [hs.asy _ _ a1]at a2;cases a2
   subst hxy
   congr 1
   refine Nz hs l m hl.2 hm.2 fun a=>?_
   have ne:∀ {k:List α},(∀a∈k,lt x a=true)→a∈k→a≠x:=fun hk ha e=>by
    have:=hk a ha
    rw [e,hs.irr]at this;cases this
   constructor
   ·intro ha
    rcases V7.1 ((h a).1 (by simp [ha]))with e | e
    ·exact absurd e (ne hl.1 ha)
    ·exact e
   ·intro ha
    rcases V7.1 ((h a).2 (by simp [ha]))with e | e
    ·exact absurd e (ne hm.1 ha)
    ·exact e
def cpF (lt:α→α→Bool):α→List α→List α
 | _,[]=>[]
 | x,y::t=>if B2 lt y x then cpF lt y t else y::cpF lt y t
def cpL (lt:α→α→Bool):List α→List α
 | []=>[]
 | x::t=>x::cpF lt x t
theorem cpF_ok (hs:SW lt):∀(t:List α) (x:α),En lt (x::t)→((cpF lt x t).Pairwise fun a b=>lt a b=true)∧(∀z∈cpF lt x t,lt x z=true)∧∀z,z∈cpF lt x t↔B2 lt z x=false∧(t.filter (B2 lt z)).head? = some z
 | [],x,h=>⟨List.Pairwise.nil,fun z (hz:z∈[])=>(by cases hz),fun z=>(by simp [cpF])⟩
 | y::t,x,h=>by
  have h':=h
  unfold En at h'
  rw [WP]at h'
  obtain ⟨hx,ht⟩:=h'
  obtain ⟨i1,i2,i3⟩:=cpF_ok hs t y ht
  have hyx:=hx y (by simp)
  unfold cpF
  by_cases he:B2 lt y x=true
  ·rw [if_pos he]
   have hey:=Sy hs he
   rw [FD]at he
   have hlt:∀z∈cpF lt y t,lt x z=true:=fun z hz=>by
    cases e:lt x z with
    | true=>rfl
    | false=>have:=hs.neg y x z he.1 e;rw [i2 z hz]at this;cases this
   refine ⟨i1,hlt,fun z=>?_⟩
   rw [i3 z]
   have e1:B2 lt z y=B2 lt z x:=by
    rw [Vr,FD,FD]
    exact ⟨fun ⟨p,q⟩=>⟨hs.neg _ _ _ p he.1,hs.neg _ _ _ he.2 q⟩,fun ⟨p,q⟩=>⟨hs.neg _ _ _ p he.2,hs.neg _ _ _ he.1 q⟩⟩
   rw [e1]
   constructor
   ·rintro ⟨a,b⟩
    refine ⟨a,?_⟩
    rw [VY,if_neg (by rw [e1,a];decide)];exact b
   ·rintro ⟨a,b⟩
    refine ⟨a,?_⟩
    rw [VY,if_neg (by rw [e1,a];decide)]at b;exact b
  ·rw [if_neg he]
   have hxy:lt x y=true:=by
    cases e:lt x y with
    | true=>rfl
    | false=>exact absurd (FD.2 ⟨hyx,e⟩) he
   have hlt:∀z∈cpF lt y t,lt x z=true:=fun z hz=>by
    cases e:lt x z with
    | true=>rfl
    | false=>have:=hs.neg x z y e (hs.asy _ _ (i2 z hz));rw [hxy]at this;cases this
   refine ⟨WP.2 ⟨i2,i1⟩,fun z hz=>?_,fun z=>?_⟩
   ·rcases V7.1 hz with e | e
    ·rw [e];exact hxy
    ·exact hlt z e
   ·rw [V7,i3 z,VY]
    by_cases hzy:B2 lt z y=true
    ·rw [if_pos hzy]
     have hzx:B2 lt z x=false:=by
      cases e:B2 lt z x with
      | false=>rfl
      | true=>
       rw [FD]at e hzy
       have:=hs.neg x z y e.2 hzy.1
       rw [hxy]at this;cases this
     rw [hzx,hzy]
     simp only [List.head?_cons,Ve,XX,false_and,or_false,true_and]
     exact ⟨fun h=>h.symm,fun h=>h.symm⟩
    ·rw [if_neg hzy]
     have hzy':B2 lt z y=false:=by simpa using hzy
     rw [hzy']
     have hne:z≠y:=fun e=>by rw [e,LQ hs]at hzy';cases hzy'
     simp only [hne,false_or,true_and]
     constructor
     ·intro hb
      refine ⟨?_,hb⟩
      have hz:z∈cpF lt y t:=(i3 z).2 ⟨hzy',hb⟩
      cases e:B2 lt z x with
      | false=>rfl
      | true=>rw [FD]at e;have:=hlt z hz;rw [e.2]at this;cases this
     ·exact fun h=>h.2
theorem cpL_ok (hs:SW lt) {l:List α} (h:En lt l):((cpL lt l).Pairwise fun a b=>lt a b=true)∧∀z,z∈cpL lt l↔(l.filter (B2 lt z)).head? = some z:=by
 cases l with
 | nil=>exact ⟨List.Pairwise.nil,fun z=>by simp [cpL]⟩
 | cons x t=>
  obtain ⟨i1,i2,i3⟩:=cpF_ok hs t x h
  refine ⟨WP.2 ⟨i2,i1⟩,fun z=>?_⟩
  show z∈x::cpF lt x t↔_
  rw [V7,i3 z,VY]
  by_cases hzx:B2 lt z x=true
  ·rw [if_pos hzx,hzx]
   simp only [List.head?_cons,Ve,XX,false_and,or_false]
   exact ⟨fun h=>h.symm,fun h=>h.symm⟩
  ·rw [if_neg hzx]
   have hne:z≠x:=fun e=>by rw [e,LQ hs]at hzx;exact hzx rfl
   simp only [hne,false_or]
   exact ⟨fun h=>h.2,fun h=>⟨by simpa using hzx,h⟩⟩

end
def CU (L:List Nd) (i:Nat) (x:Nd) (c:Int):Bool:=
 decide (0≤c)&&(decide (x.lv=1→c≤255))&&decide (1<x.lv→0<c→c≤i∧∀y,L[(c-1).toNat]? = some y→y.lv=x.lv-1)
def FZ (L:List Nd) (i:Nat):Bool:=
 match L[i]? with
 | some x=>decide (1≤x.lv∧x.lv≤1329)&&(List.range 4).all fun k=>CU L i x (x.kid k)
 | none=>true
def AE (L:List Nd):Bool:=(List.range L.length).all (FZ L)
theorem TZ (L:List Nd) (tk:Tok) (H:Aa) (hL:L.length<1152921504606846976):Sh.f2s (.sl (enL cNd L) tk) H=some (.ret (.bool (AE L)),H):=by
 unfold Sh.f2s
 rw [show AE L=(List.range L.length).all (FZ L) from rfl]
 have:=EF L.length (FZ L) (fun i=>[.sl (enL cNd L) tk,.int .i64 (i:Int)]) H (some (.ret (.bool true),H)) (some (.ret (.bool false),H)) hL (fun rec i hi=>?_) (fun rec=>?_)
  (G:=fun rec1 vs H1=>Sh.f4y H rec1 (ag vs 0) (ag vs 1) H1)
 ·refine this.trans ?_
  cases (List.range L.length).all (FZ L) <;> rfl
 ·have hx:(i:Int)<(L.length:Int):=by omega
  have hg:L[i]? = some L[i]:=UU hi
  unfold Sh.f4y
  simp only [Ak,Bc,Au,B5,Bm,hx,decide_true,AZ,Ay hi,Al,AC,Nat.add_zero,BS]
  by_cases h1:L[i].lv<1
  ·have:FZ L i=false:=by simp only [FZ,hg];simp;intro;omega
   simp [h1,this]
  ·by_cases h2:L[i].lv>1329
   ·have:FZ L i=false:=by simp only [FZ,hg];simp;intro;omega
    simp [h1,h2,this,Ay hi]
   ·have hd:FZ L i=(List.range 4).all fun k=>CU L i L[i] (L[i].kid k):=by
     simp only [FZ,hg];rw [decide_eq_true (by omega)];rfl
    simp only [h1,h2,decide_false,LP,B5,D4,Cr,AP,hd,AC,Nat.add_zero,BS,Al,Ay hi]
    have:=EF 4 (fun k=>CU L i L[i] (L[i].kid k)) (fun k=>[.sl (enL cNd L) tk,.int .i64 (i:Int),.int .i64 (k:Int)]) H (rec [.sl (enL cNd L) tk,.int .i64 ((i+1:Nat):Int)] H) (some (.ret (.bool false),H)) (by decide) (fun rec2 k hk=>?_) (fun rec2=>?_)
     (G:=fun rec2 vs H1=>Sh.f4x H rec rec2 (ag vs 0) (ag vs 1) (ag vs 2) H1)
    ·exact this
    ·have hk':(k:Int)<4:=by omega
     unfold Sh.f4x
     simp only [Ak,Bc,Bg,B5,Bm,hk',decide_true,AZ,Ay hi,Al,Dt hk,AC,UY,Vk,Dk hk,BS,Aw (show k<9223372036854775807 by omega),Cu,DF,D4]
     generalize L[i].kid k=c
     generalize hx':L[i]=x at h1 h2 ⊢
     by_cases hc:c<0
     ·have:CU L i x c=false:=by simp [CU];omega
      simp [hc,this,Ay hi,hx']
     ·obtain ⟨n,rfl⟩:=VP (show 0≤c by omega)
      by_cases hl:x.lv=1
      ·by_cases h255:255<n
       ·have:CU L i x n=false:=by simp [CU,hl];omega
        have h256:(255:Int)<n:=by omega
        simp [hc,hl,h255,h256,this,Ay hi,hx']
       ·have:CU L i x n=true:=by simp [CU,hl];omega
        have h256:¬(255:Int)<n:=by omega
        simp [hc,hl,h255,h256,this,Ay hi,hx']
      ·have hl1:1<x.lv:=by omega
       by_cases hn:0<n
       ·by_cases hni:i<n
        ·have:CU L i x n=false:=by
          unfold CU
          rw [WD];right
          rw [decide_eq_false_iff_not];intro h;have:=(h hl1 (by omega)).1;omega
         simp [hc,hl,hl1,hn,hni,this,Ay hi,hx']
        ·have hlt:n-1<L.length:=by omega
         have e1:((n:Int)-1).toNat=n-1:=by omega
         have hk2:CU L i x n=decide (L[n-1].lv=x.lv-1):=by
          unfold CU
          rw [e1,UU hlt,Vr]
          simp only [Vh,decide_eq_true_eq,Ve,forall_eq']
          constructor
          ·intro h;exact (h.2 hl1 (by omega)).2
          ·intro h;exact ⟨⟨by omega,by omega⟩,fun _ _=>⟨by omega,h⟩⟩
         have hw:IntKind.i64.wrap (x.lv-1)=x.lv-1:=An (by omega) (by omega)
         simp [hc,hl,hl1,hn,hni,hk2,HY (show 0<n by omega) (by omega),Ay hlt,Ay hi,hx',hw]
         by_cases he:L[n-1].lv=x.lv-1 <;> simp [he]
       ·have:CU L i x n=true:=by
         unfold CU
         simp only [Vh,decide_eq_true_eq]
         exact ⟨⟨by omega,by omega⟩,fun _ _=>by omega⟩
        simp [hc,hl,hl1,hn,this,Ay hi,hx']
    ·unfold Sh.f4x
     simp [Aw (show i<9223372036854775807 by omega)]
 ·unfold Sh.f4y
  simp
theorem AJ {L:List Nd} (h:AE L=true) {i:Nat} (hi:i<L.length):1≤L[i].lv∧L[i].lv≤1329∧∀k,k<4→0≤L[i].kid k∧(L[i].lv=1→L[i].kid k≤255)∧(1<L[i].lv→0<L[i].kid k→L[i].kid k≤i∧∀y,L[(L[i].kid k-1).toNat]? = some y→y.lv=L[i].lv-1):=by
 have h1:=Vn.1 h i (by simpa using hi)
 simp only [FZ,UU hi,Vh,decide_eq_true_eq,Vn]at h1
 refine ⟨h1.1.1,h1.1.2,fun k hk=>?_⟩
 have h2:=h1.2 k (by simpa using hk)
 simp only [CU,Vh,decide_eq_true_eq]at h2
 exact ⟨h2.1.1,h2.1.2,h2.2⟩
def LT (E:List Bool) (x:Nd):Bool:=(List.range 4).all fun k=>decide (x.kid k=0)||(decide (1<x.lv)&&E.getD (x.kid k).toNat true)
def A3 (L:List Nd):List Bool:=L.foldl (fun E x=>E++[LT E x]) [true]
theorem Id (L:List Nd) (x:Nd):A3 (L++[x])=A3 L++[LT (A3 L) x]:=by simp [A3]
theorem CK (L:List Nd):(A3 L).length=L.length+1:=by
 rcases FI L with rfl | ⟨l,a,rfl⟩
 ·rfl
 ·rw [Id];have:=CK l;simp [this]
termination_by L.length
decreasing_by (subst_vars;simp)
theorem UE (L:List Nd) {i:Nat} (hi:i<L.length):A3 (L.take (i+1))=A3 (L.take i)++[LT (A3 (L.take i)) L[i]]:=by
 rw [Vf hi,Id]
theorem IK (L:List Nd) (tk:Tok) (H:Aa) (hL:L.length<140737488355327) (hl:AE L=true):Sh.f18 (.sl (enL cNd L) tk) H=some (.ret (.sl (enL cB (A3 L)) .no),H):=by
 have hmk:=Fa (f:=cB) (a:=false) (n:=L.length+1) (bytes:=1) (H:=H) (by omega) (by omega)
 have hid:=CB (sz:=1) (id:=H.length) (n:=L.length+1) (K:=.i64) (g:=0) (off:=0) (cap:=L.length+1) (ex:=true) (i:=0) (by omega)
 have hst:=DG (f:=cB) (sz:=1) (l:=List.replicate (L.length+1) false) (i:=0) (a:=true) (v:=.bool true) (H:=H++[.cel 0 (flat cB (List.replicate (L.length+1) false))]) (id:=H.length) (by simp) (by simp) rfl
 unfold Sh.f18
 simp only [Au,B5,Cu,Aw (show L.length<9223372036854775807 by omega),hmk,Bu]
 simp only [X2,Nat.add_zero]at hid
 rw [show ((0:Nat):Int)=0 from rfl]at hid
 simp only [X2]at hst
 rw [hid]
 simp only [B5,hst,AV,CC,OY,OX]
 have key:=Cg (G:=fun rec1 vs H1=>Sh.f50 H rec1 (ag vs 0) (ag vs 1) (ag vs 2) H1) L.length (fun i=>[.sl (enL cNd L) tk,.ms H.length 0 0 (L.length+1) (L.length+1) 1 true,.int .i64 (i:Int)]) (fun i=>H++[.cel 0 (flat cB (A3 (L.take i)++List.replicate (L.length-i) false))]) (some (.ret (.sl (enL cB (A3 L)) .no),H)) (by omega) (fun rec i hi=>?_) (fun rec=>?_)
 ·have e:(List.replicate (L.length+1) false).set 0 true=A3 (L.take 0)++List.replicate (L.length-0) false:=by simp [List.replicate_succ,A3]
  rw [e];exact key
 ·have hi':(i:Int)<(L.length:Int):=by omega
  obtain ⟨l1,l2,l3⟩:=AJ hl hi
  have hEl:(A3 (L.take i)).length=i+1:=by rw [CK];simp;omega
  unfold Sh.f50
  simp only [Ak,Bc,Bg,Au,B5,Bm,hi',decide_true,AZ]
  have hs:∀k,k<4→1<L[i].lv→(A3 (L.take i)++List.replicate (L.length-i) false).getD (L[i].kid k).toNat true=(A3 (L.take i)).getD (L[i].kid k).toNat true:=by
   intro k hk h1
   obtain ⟨q1,q2,q3⟩:=l3 k hk
   have:(L[i].kid k).toNat<(A3 (L.take i)).length:=by
    rw [hEl]
    by_cases h0:0<L[i].kid k
    ·have:=(q3 h1 h0).1;omega
    ·omega
   simp only [UZ,UW this]
  have hb:∀k,k<4→1<L[i].lv→(L[i].kid k).toNat<L.length+1:=by
   intro k hk h1
   obtain ⟨q1,q2,q3⟩:=l3 k hk
   by_cases h0:0<L[i].kid k
   ·have:=(q3 h1 h0).1;omega
   ·omega
  have hEs:LT (A3 (L.take i)) L[i]=(List.range 4).all fun k=>decide (L[i].kid k=0)||(decide (1<L[i].lv)&&(A3 (L.take i)++List.replicate (L.length-i) false).getD (L[i].kid k).toNat true):=by
   unfold LT
   rw [Hy,Hy]
   by_cases h1:1<L[i].lv
   ·simp only [hs 0 (by omega) h1,hs 1 (by omega) h1,hs 2 (by omega) h1,hs 3 (by omega) h1]
   ·simp only [h1,decide_false,Wo]
  have hset:(A3 (L.take i)++List.replicate (L.length-i) false).set (i+1) (LT (A3 (L.take i)) L[i])=A3 (L.take (i+1))++List.replicate (L.length-(i+1)) false:=by
   rw [UE L hi,V8 _ _ (by omega),hEl,V9,show L.length-i=(L.length-(i+1))+1 from by omega,List.replicate_succ,List.set_cons_zero]
   simp
  have hlen:(A3 (L.take i)++List.replicate (L.length-i) false).length=L.length+1:=by simp [hEl];omega
  rw [←hset,hEs]
  generalize A3 (L.take i)++List.replicate (L.length-i) false=E at hlen
  generalize hx:L[i]=x at l1 l2 l3 hb
  have hgc:A8 (H++[.cel 0 (flat cB E)]) H.length 0=some (flat cB E):=by simp
  refine Cg (G:=fun rec2 vs H1=>Sh.f4z H rec rec2 (ag vs 0) (ag vs 1) (ag vs 2) (ag vs 3) (ag vs 4) H1) 4 (fun k=>[.sl (enL cNd L) tk,.ms H.length 0 0 (L.length+1) (L.length+1) 1 true,.int .i64 (i:Int),.bool ((List.range k).all fun k=>decide (x.kid k=0)||(decide (1<x.lv)&&E.getD (x.kid k).toNat true)),.int .i64 (k:Int)]) (fun _=>H++[.cel 0 (flat cB E)]) _ (by decide) (fun rec2 k hk=>?_) (fun rec2=>?_)
  ·have hk':(k:Int)<4:=by omega
   obtain ⟨q1,q2,q3⟩:=l3 k hk
   have hb':=hb k hk
   unfold Sh.f4z
   have hsucc:((List.range (k+1)).all fun k=>decide (x.kid k=0)||(decide (1<x.lv)&&E.getD (x.kid k).toNat true))=(((List.range k).all fun k=>decide (x.kid k=0)||(decide (1<x.lv)&&E.getD (x.kid k).toNat true))&&(decide (x.kid k=0)||(decide (1<x.lv)&&E.getD (x.kid k).toNat true))):=by
    rw [WV,XP];simp
   rw [hsucc]
   generalize ((List.range k).all fun k=>decide (x.kid k=0)||(decide (1<x.lv)&&E.getD (x.kid k).toNat true))=e
   simp only [Ak,Bc,Bg,Bw,BG,B5,Bm,hk',decide_true,AZ,Ay hi,hx,Al,Dt hk,AC,UY,Vk,Dk hk,BS,Aw (show k<9223372036854775807 by omega),Cu,DF,D4]
   obtain ⟨n,hn⟩:=VP q1
   rw [hn]at hb' ⊢
   simp only [Int.toNat_natCast]at hb' ⊢
   cases e with
   | false=>simp
   | true=>
    by_cases h0:n=0
    ·subst h0;simp
    ·by_cases h1:1<x.lv
     ·have hnE:n<E.length:=by rw [hlen];exact hb' h1
      have hid2:=CB (sz:=1) (id:=H.length) (n:=L.length+1) (K:=.i64) (g:=0) (off:=0) (cap:=L.length+1) (ex:=true) (i:=n) (hb' h1)
      simp only [UY,Vk]at hid2
      have hld:=HM (f:=cB) hgc hnE
      simp [h0,h1,hx,Ay hi,hid2,hld,UU hnE]
     ·simp [h0,h1,hx,Ay hi]
  ·have hid2:=CB (sz:=1) (id:=H.length) (n:=L.length+1) (K:=.i64) (g:=0) (off:=0) (cap:=L.length+1) (ex:=true) (i:=i+1) (by omega)
   simp only [UY,Vk]at hid2
   have hst2:=DG (f:=cB) (sz:=1) (l:=E) (i:=i+1) (a:=(List.range 4).all fun k=>decide (x.kid k=0)||(decide (1<x.lv)&&E.getD (x.kid k).toNat true)) (H:=H++[.cel 0 (flat cB E)]) (id:=H.length) hgc (by omega) (v:=.bool ((List.range 4).all fun k=>decide (x.kid k=0)||(decide (1<x.lv)&&E.getD (x.kid k).toNat true))) rfl
   simp only [Vk]at hst2
   unfold Sh.f4z
   have hf:¬(((4:Nat):Int)<4):=by decide
   simp only [Ak,Bc,Bg,Bw,BG,B5,Bm,hf,decide_false,AP,Cu,Aw (show i<9223372036854775807 by omega),hid2,hst2,AV,CC,OY,OX]
 ·unfold Sh.f50
  have hgc:A8 (H++[.cel 0 (flat cB (A3 L))]) H.length 0=some (flat cB (A3 L)):=by simp
  have hfa:=Re (f:=cB) (b:=H.length) (d:=5) (cap:=L.length+1) (ex:=true) hgc (Va _)
  rw [CK]at hfa
  have ht:L.take L.length=L:=Vg (Va _)
  simp only [Ak,Bc,Bg,Au,B5,Bm,VV,decide_false,AP,ht,V9,List.replicate_zero,V3,Cf,hfa,Option.map_some]
theorem Ub (L:List Nd) (tk:Tok) (n:Nat) (H:Aa) (hL:L.length<140737488355327) (hl:AE L=true) (hn:n≤L.length):Sh.f61 (.sl (enL cNd L) tk) (.int .i64 (n:Int)) H=some (.ret (.bool ((A3 L).getD n true)),H):=by
 have hlt:n<(A3 L).length:=by rw [CK];omega
 unfold Sh.f61
 simp [IK L tk H hL hl,Ay hlt,UZ,UU hlt]
def A0 (L:List Nd) (c:Int):Nd:=L.getD (c-1).toNat ⟨0,0,0,0,0⟩
def Ow (L:List Nd) (E:List Bool) (x:Nd) (k j:Nat):Bool:=
 decide (j=3-k)||(if x.lv=2 then decide ((A0 L (x.kid k)).kid j=0)else E.getD ((A0 L (x.kid k)).kid j).toNat true)
def hol (L:List Nd) (E:List Bool) (x:Nd):Bool:=
 (List.range 4).all fun k=>decide (x.kid k=0)||(List.range 4).all (Ow L E x k)
def Du (L:List Nd) (n:Nat):Bool:=
 decide (n≠0)&&decide (2≤(A0 L n).lv)&&hol L (A3 L) (A0 L n)
theorem Ec {L:List Nd} {c:Int} {n:Nat} (hc:c=((n+1:Nat):Int)) (h:n<L.length):A0 L c=L[n]:=by
 have:(c-1).toNat=n:=by omega
 unfold A0;rw [this,UZ,UU h];rfl
theorem RA (L:List Nd) (tk:Tok) (n:Nat) (H:Aa) (hL:L.length<140737488355327) (hl:AE L=true) (hn:n≤L.length):Sh.f2u (.sl (enL cNd L) tk) (.int .i64 (n:Int)) H=some (.ret (.bool (Du L n)),H):=by
 unfold Sh.f2u Du
 cases n with
 | zero=>simp
 | succ n=>
  have hi:n<L.length:=hn
  have e0:¬((n+1:Nat):Int)=0:=by omega
  obtain ⟨l1,l2,l3⟩:=AJ hl hi
  rw [Ec rfl hi]
  generalize hx:L[n]=x at l1 l2 l3
  have hw:IntKind.i64.wrap (((n+1:Nat):Int)-1)=(n:Int):=by rw [An] <;> omega
  simp only [DF,G3,e0,decide_false,B5,LP,DE,hw,Ay hi,hx,Al,AC,Nat.add_zero,BS,Bm,Cr]
  by_cases h2:x.lv<2
  ·have:¬2≤x.lv:=by omega
   simp [h2,this]
  ·have h2':2≤x.lv:=by omega
   simp only [h2,h2',decide_false,AP,IK L tk H hL hl,EU,decide_true,ne_eq,WN,not_false_eq_true,VW]
   have key:=EF (G:=fun rec1 vs H1=>Sh.f51 H rec1 (ag vs 0) (ag vs 1) (ag vs 2) (ag vs 3) H1) 4 (fun k=>decide (x.kid k=0)||(List.range 4).all (Ow L (A3 L) x k))
    (fun k=>[.sl (enL cNd L) tk,.int .i64 ((n+1:Nat):Int),.sl (enL cB (A3 L)) .no,.int .i64 (k:Int)]) H (some (.ret (.bool true),H)) (some (.ret (.bool false),H)) (by decide) (fun rec k hk=>?_) (fun rec=>?_)
   ·refine key.trans ?_
    rw [show hol L (A3 L) x=(List.range 4).all fun k=>decide (x.kid k=0)||(List.range 4).all (Ow L (A3 L) x k) from rfl]
    cases (List.range 4).all fun k=>decide (x.kid k=0)||(List.range 4).all (Ow L (A3 L) x k) <;> rfl
   ·have hk':(k:Int)<4:=by omega
    obtain ⟨q1,q2,q3⟩:=l3 k hk
    unfold Sh.f51
    simp only [Ak,Bc,Bg,Bw,B5,Bm,hk',decide_true,AZ,DE,hw,Ay hi,hx,Al,Dt hk,AC,UY,Vk,Dk hk]
    have hws:IntKind.i64.wrap ((k:Int)+1)=((k+1:Nat):Int):=Aw (by omega)
    by_cases hc:x.kid k=0
    ·rw [DI EK]
     unfold Sh.f2t
     simp only [hc,decide_true,WT,if_true,Ak,Bc,Bg,Bw,BG,D5,Bm,B5,show ((0:Int)<4) from by decide,IY,D4,show ¬((0:Int)>0) from by decide,decide_false,C0,AP,Cu,hws]
    ·obtain ⟨m,hm⟩:∃m:Nat,x.kid k=((m+1:Nat):Int):=⟨(x.kid k-1).toNat,by omega⟩
     have h1:1<x.lv:=by omega
     obtain ⟨r1,r2⟩:=q3 h1 (by omega)
     have hmn:m<n:=by omega
     have hml:m<L.length:=by omega
     have hy:=r2 L[m] (by rw [show (x.kid k-1).toNat=m from by omega];exact UU hml)
     obtain ⟨y1,y2,y3⟩:=AJ hl hml
     have hE:∀j,j<4→2<x.lv→(L[m].kid j).toNat<(A3 L).length:=by
      intro j hj h3
      obtain ⟨s1,s2,s3⟩:=y3 j hj
      rw [CK]
      by_cases h0:0<L[m].kid j
      ·have:=(s3 (by omega) h0).1;omega
      ·omega
     have hp:Ow L (A3 L) x k=fun j=>decide (j=3-k)||(if x.lv=2 then decide (L[m].kid j=0)else (A3 L).getD (L[m].kid j).toNat true):=by
      funext j;unfold Ow;rw [Ec hm hml]
     have hwm:IntKind.i64.wrap (((m+1:Nat):Int)-1)=(m:Int):=by rw [An] <;> omega
     have hc':¬((m+1:Nat):Int)=0:=by omega
     simp only [hp,hm,hc',decide_false,W4]
     generalize hyy:L[m]=y at y1 y2 y3 hy hE
     refine EF (G:=fun rec2 vs H1=>Sh.f2t H rec rec2 (ag vs 0) (ag vs 1) (ag vs 2) (ag vs 3) (ag vs 4) (ag vs 5) H1) 4 _
      (fun j=>[.sl (enL cNd L) tk,.int .i64 ((n+1:Nat):Int),.sl (enL cB (A3 L)) .no,.int .i64 (k:Int),.int .i64 ((m+1:Nat):Int),.int .i64 (j:Int)]) H _ _ (by decide) (fun rec2 j hj=>?_) (fun rec2=>?_)
     ·have hj':(j:Int)<4:=by omega
      have hm0:((m+1:Nat):Int)>0:=by omega
      have hw3:IntKind.i64.wrap (3-(k:Int))=3-(k:Int):=An (by omega) (by omega)
      have hjs:IntKind.i64.wrap ((j:Int)+1)=((j+1:Nat):Int):=Aw (by omega)
      obtain ⟨s1,s2,s3⟩:=y3 j hj
      have hE':=hE j hj
      unfold Sh.f2t
      simp only [Ak,Bc,Bg,Bw,BG,D5,Bm,B5,hj',decide_true,IY,D4,hm0,C0,AZ,DE,hw,hwm,hw3,Ay hml,hyy,Ay hi,hx,Al,Dt hj,AC,UY,Nat.add_zero,Vk,Dk hj,BS,HU,KK,DF,G3,Cu,hjs]
      obtain ⟨g,hg⟩:=VP s1
      rw [hg]at hE' ⊢
      simp only [Int.toNat_natCast]at hE' ⊢
      by_cases h3k:j=3-k
      ·have h3:(j:Int)=3-(k:Int):=by omega
       simp only [B5,Ak,Bc,Bg,Bw,BG,D5,Bm,D4,KL,KM,DF,HU,G3,KK,Cu,DE,Jd,AZ,AP,C0,Cr,IY,LP,Sq,Qs,gk_s,Ps,Pv,Pt,Pu,U0,PW,Hs,P5,P8,P6,P7,U5,Pw,Pz,Px,Py,U3,P0,P4,P1,P3,U4,By,AN,decide_true,decide_false,VX,Wg,EU,CC,No,DY,Je,if_true,Vd,if_false,Ia,AV,Da,Bu,W4,WT,Xt,XM,decide_eq_true h3,decide_eq_true h3k,WT]
      ·have h3:¬(j:Int)=3-(k:Int):=by omega
       simp only [h3k,h3,GMb,GMc,Al,Ah,AC,UY,Nat.add_zero,Vk,BS,W4]
       by_cases hx2:x.lv=2
       ·have hx3:¬(2:Int)>2:=by decide
        by_cases hg0:(g:Int)=0
        ·simp only [B5,Ak,Bc,Bg,Bw,BG,D5,Bm,D4,KL,KM,DF,HU,G3,KK,Cu,DE,Jd,AZ,AP,C0,Cr,IY,LP,Sq,Qs,gk_s,Ps,Pv,Pt,Pu,U0,PW,Hs,P5,P8,P6,P7,U5,Pw,Pz,Px,Py,U3,P0,P4,P1,P3,U4,By,AN,decide_true,decide_false,VX,Wg,EU,CC,No,DY,Je,if_true,Vd,if_false,Ia,AV,Da,Bu,W4,WT,Xt,XM,Al,Ah,AC,UY,Nat.add_zero,Vk,BS,hw,Ay hi,hx,hx2,hg0,hx3]
        ·simp only [B5,Ak,Bc,Bg,Bw,BG,D5,Bm,D4,KL,KM,DF,HU,G3,KK,Cu,DE,Jd,AZ,AP,C0,Cr,IY,LP,Sq,Qs,gk_s,Ps,Pv,Pt,Pu,U0,PW,Hs,P5,P8,P6,P7,U5,Pw,Pz,Px,Py,U3,P0,P4,P1,P3,U4,By,AN,decide_true,decide_false,VX,Wg,EU,CC,No,DY,Je,if_true,Vd,if_false,Ia,AV,Da,Bu,W4,WT,Xt,XM,Al,Ah,AC,UY,Nat.add_zero,Vk,BS,hw,Ay hi,hx,hx2,hg0,hx3]
       ·have hx3:x.lv>2:=by omega
        have hlt:=hE' hx3
        have hgd:(A3 L).getD g true=(A3 L)[g]:=by rw [UZ,UU hlt];rfl
        simp only [B5,Ak,Bc,Bg,Bw,BG,D5,Bm,D4,KL,KM,DF,HU,G3,KK,Cu,DE,Jd,AZ,AP,C0,Cr,IY,LP,Sq,Qs,gk_s,Ps,Pv,Pt,Pu,U0,PW,Hs,P5,P8,P6,P7,U5,Pw,Pz,Px,Py,U3,P0,P4,P1,P3,U4,By,AN,decide_true,decide_false,VX,Wg,EU,CC,No,DY,Je,if_true,Vd,if_false,Ia,AV,Da,Bu,W4,WT,Xt,XM,Al,Ah,AC,UY,Nat.add_zero,Vk,BS,hw,Ay hi,hx,hx2,hx3,Ay hlt,hgd,List.getElem?_cons_zero]
        cases (A3 L)[g] <;> simp only [B5,Ak,Bc,Bg,Bw,BG,D5,Bm,D4,KL,KM,DF,HU,G3,KK,Cu,DE,Jd,AZ,AP,C0,Cr,IY,LP,Sq,Qs,gk_s,Ps,Pv,Pt,Pu,U0,PW,Hs,P5,P8,P6,P7,U5,Pw,Pz,Px,Py,U3,P0,P4,P1,P3,U4,By,AN,decide_true,decide_false,VX,Wg,EU,CC,No,DY,Je,if_true,Vd,if_false,Ia,AV,Da,Bu,W4,WT,Xt,XM]
     ·have hf:¬(((4:Nat):Int)<4):=by decide
      unfold Sh.f2t
      simp only [Ak,Bc,Bg,Bw,BG,D5,Bm,B5,hf,decide_false,Qs,Sq,Cr,AP,Cu,hws]
   ·have hf:¬(((4:Nat):Int)<4):=by decide
    unfold Sh.f51
    simp only [Ak,Bc,Bg,Bw,Bm,B5,hf,decide_false,AP,No]
theorem q05_inner (L:List Nd) (tk:Tok) (n k:Nat) (H:Aa) (hL:L.length<140737488355327) (hl:AE L=true) (hn:n<L.length) (h2:2≤L[n].lv) (hk:k<4) :
  Sh.f62 (.sl (enL cNd L) tk) (.int .i64 ((n+1:Nat):Int)) (.int .i64 (k:Int)) H=some (.ret (.int .i64 (if L[n].kid k=0 then 0 else (A0 L (L[n].kid k)).kid (3-k))),H):=by
 obtain ⟨l1,l2,l3⟩:=AJ hl hn
 obtain ⟨q1,q2,q3⟩:=l3 k hk
 have hw:IntKind.i64.wrap (((n+1:Nat):Int)-1)=(n:Int):=by rw [An] <;> omega
 unfold Sh.f62
 simp only [DE,B5,hw,Ay hn,Al,Dt hk,AC,UY,Vk,Dk hk,DF,G3]
 by_cases hc:L[n].kid k=0
 ·simp [hc]
 ·obtain ⟨m,hm⟩:∃m:Nat,L[n].kid k=((m+1:Nat):Int):=⟨(L[n].kid k-1).toNat,by omega⟩
  obtain ⟨r1,r2⟩:=q3 (by omega) (by omega)
  have hml:m<L.length:=by omega
  have hwm:IntKind.i64.wrap (((m+1:Nat):Int)-1)=(m:Int):=by rw [An] <;> omega
  have hw3:IntKind.i64.wrap (3-(k:Int))=((3-k:Nat):Int):=by rw [An] <;> omega
  simp only [hc,decide_false,AP,if_false,Ec hm hml]
  rw [hm]
  simp only [hwm,hw3,B5,Ay hml,Al,UY,Dt (show 3-k<4 by omega),AC,Vk,Dk (show 3-k<4 by omega),No]
def LS (rec:Nat→List Nat→List Nat) (x:Nd) (k:Nat) (out:List Nat):List Nat:=
 (List.range k).foldl (fun o k=>if 1<x.lv∧0<x.kid k then rec (x.kid k).toNat o else o) out
def FO (L:List Nd):Nat→Nat→List Nat→List Nat
 | 0,_,out=>out
 | v+1,n,out=>if n∈out then out else LS (FO L v) (A0 L n) 4 out++[n]
def Nx (N:Nat) (out:List Nat):Prop:=out.Nodup∧∀x∈out,1≤x∧x≤N
theorem M9:∀(N:Nat) (out:List Nat),Nx N out→out.length≤N
 | 0,out,h=>by
  cases out with
  | nil=>simp
  | cons a l=>have:=h.2 a (by simp);omega
 | N+1,out,h=>by
  have h1:Nx N (out.erase (N+1)):=⟨h.1.erase _,fun x hx=>by
   have:=(h.1.mem_erase_iff).1 hx
   have:=h.2 x this.2
   omega⟩
  have:=M9 N _ h1
  rw [List.length_erase]at this
  split at this <;> omega
theorem PE (rec:Nat→List Nat→List Nat) (x:Nd) (k:Nat) (out:List Nat):LS rec x (k+1) out=if 1<x.lv∧0<x.kid k then rec (x.kid k).toNat (LS rec x k out)else LS rec x k out:=by
 simp [LS,WV]
theorem LR {rec:Nat→List Nat→List Nat} {x:Nd} {out:List Nat} (P:List Nat→Prop) (h0:P out) (hs:∀k o,k<4→1<x.lv→0<x.kid k→P o→P (rec (x.kid k).toNat o)):∀k,k≤4→P (LS rec x k out)
 | 0,_=>h0
 | k+1,h=>by
  rw [PE]
  split
  ·rename_i hc;exact hs k _ (by omega) hc.1 hc.2 (LR P h0 hs k (by omega))
  ·exact LR P h0 hs k (by omega)
theorem Ba {L:List Nd} {n:Nat} (h:n<L.length):A0 L ((n+1:Nat):Int)=L[n]:=Ec rfl h
theorem Rf {L:List Nd} (hl:AE L=true):∀(v n:Nat) (out:List Nat),1≤n→n≤L.length→Nx L.length out→Nx L.length (FO L v n out)∧(∀x∈out,x∈FO L v n out)∧∀x∈FO L v n out,x∈out∨x≤n
 | 0,n,out,h1,h2,ho=>⟨ho,fun x hx=>hx,fun x hx=>.inl hx⟩
 | v+1,n,out,h1,h2,ho=>by
  obtain ⟨m,rfl⟩:∃m,n=m+1:=⟨n-1,by omega⟩
  have hm:m<L.length:=by omega
  obtain ⟨l1,l2,l3⟩:=AJ hl hm
  simp only [FO]
  split
  ·exact ⟨ho,fun x hx=>hx,fun x hx=>.inl hx⟩
  ·rename_i hn
   rw [Ba hm]
   have key:=LR (rec:=FO L v) (x:=L[m]) (out:=out) (fun o=>Nx L.length o∧(∀x∈out,x∈o)∧∀x∈o,x∈out∨x≤m) ⟨ho,fun x hx=>hx,fun x hx=>.inl hx⟩ (fun k o hk hlv hkid hP=>by
    obtain ⟨q1,q2,q3⟩:=l3 k hk
    have:=(q3 hlv hkid).1
    obtain ⟨r1,r2,r3⟩:=Rf hl v (L[m].kid k).toNat o (by omega) (by omega) hP.1
    exact ⟨r1,fun x hx=>r2 x (hP.2.1 x hx),fun x hx=>by
     rcases r3 x hx with h | h
     ·exact hP.2.2 x h
     ·right;omega⟩) 4 (by omega)
   obtain ⟨⟨k1,k2⟩,k3,k4⟩:=key
   generalize LS (FO L v) L[m] 4 out=o at k1 k2 k3 k4
   have hno:m+1 ∉ o:=fun h=>by
    rcases k4 _ h with h | h
    ·exact hn h
    ·omega
   refine ⟨⟨?_,?_⟩,?_,?_⟩
   ·rw [WW]
    exact ⟨k1,by simp,fun a ha b hb e=>by simp at hb;subst hb;subst e;exact hno ha⟩
   ·intro x hx
    simp only [Vt,Vs]at hx
    rcases hx with hx | rfl
    ·exact k2 x hx
    ·omega
   ·intro x hx;simp [k3 x hx]
   ·intro x hx
    simp only [Vt,Vs]at hx
    rcases hx with hx | rfl
    ·rcases k4 x hx with h | h
     ·exact .inl h
     ·exact .inr (by omega)
    ·exact .inr (Va _)
theorem append_outN {B:Aa} {l:List Nat} {n:Nat} (h:l.length<17592186044415):AW Gb 1 8 (DZ cN B l) (.sl (enL cN [n]) .tight) (DR cN Gb 1 B l)=some (DZ cN B (l++[n]),DR cN Gb 1 B (l++[n])):=
 EV (by simp) (by simp;omega) (by simp;omega)
theorem q05_end {L:List Nd} (tk:Tok) (B:Aa) (hL:L.length<17592186044415) (hl:AE L=true):∀(v n d:Nat) (out:List Nat),1≤n→n≤L.length→(A0 L n).lv=v→v≤d→Nx L.length out →
  Sh.ff d (.sl (enL cNd L) tk) (.int .i64 (n:Int)) (DZ cN B out) (DR cN Gb 1 B out)=some (.ret (DZ cN B (FO L v n out)),DR cN Gb 1 B (FO L v n out)):=by
 intro v
 induction v with
 | zero=>
  intro n d out h1 h2 hv hd ho
  exfalso
  obtain ⟨m,rfl⟩:∃m,n=m+1:=⟨n-1,by omega⟩
  rw [Ba (by omega)]at hv
  have:=(AJ hl (show m<L.length by omega)).1
  omega
 | succ v ih=>
  intro n d out h1 h2 hv hd ho
  obtain ⟨d,rfl⟩:∃e,d=e+1:=⟨d-1,by omega⟩
  obtain ⟨m,rfl⟩:∃m,n=m+1:=⟨n-1,by omega⟩
  have hm:m<L.length:=by omega
  obtain ⟨l1,l2,l3⟩:=AJ hl hm
  have hln:=M9 _ _ ho
  rw [Ba hm]at hv
  show Sh.f74 (Sh.ff d) _ _ _ _=_
  unfold Sh.f74
  have key:=N9 (G:=fun rec1 vs H1=>Sh.f53 (DR cN Gb 1 B out) (Sh.ff d) rec1 (ag vs 0) (ag vs 1) (ag vs 2) (ag vs 3) H1) out.length (fun i=>decide (out.getD i 0=m+1))
   (fun i=>[.sl (enL cNd L) tk,.int .i64 ((m+1:Nat):Int),DZ cN B out,.int .i64 (i:Int)]) (DR cN Gb 1 B out) (some (.ret (DZ cN B (LS (FO L v) L[m] 4 out++[m+1])),DR cN Gb 1 B (LS (FO L v) L[m] 4 out++[m+1]))) (fun _=>some (.ret (DZ cN B out),DR cN Gb 1 B out)) (by omega) (fun rec i hi=>?_) (fun rec=>?_)
  ·refine key.trans ?_
   by_cases hmem:m+1∈out
   ·obtain ⟨i,hi,hx⟩:=V5 hmem
    have hf:∃j,(List.range out.length).find? (fun i=>decide (out.getD i 0=m+1))=some j:=by
     cases hq:(List.range out.length).find? (fun i=>decide (out.getD i 0=m+1))with
     | some j=>exact ⟨j,rfl⟩
     | none=>
      have:=Xe.1 hq i (by simpa using hi)
      simp [UZ,UU hi,hx]at this
    obtain ⟨j,hj⟩:=hf
    rw [hj];simp only [FO,if_pos hmem]
   ·have hf:(List.range out.length).find? (fun i=>decide (out.getD i 0=m+1))=none:=by
     rw [Xe]
     intro i hi
     have hi':i<out.length:=by simpa using hi
     rw [UZ,UU hi']
     simp only [Option.getD_some,decide_eq_true_eq]
     intro e;exact hmem (e ▸ Vi hi')
    rw [hf];simp only [FO,if_neg hmem,Ba hm]
  ·have hi':(i:Int)<(out.length:Int):=by omega
   have hd2:decide ((out[i]:Int)=((m+1:Nat):Int))=decide (out.getD i 0=m+1):=by
    rw [UZ,UU hi,Vr];simp;omega
   unfold Sh.f53
   simp only [GMb,GMc,Al,Ah,AC,UY,Nat.add_zero,Vk,BS,Gh,Au,hi',Ay hi,List.getElem?_cons_zero,Aw (show i<9223372036854775807 by omega),hd2]
   cases decide (out.getD i 0=m+1) <;> simp only [GMb,GMc]
  ·unfold Sh.f53
   rw [Gh]
   simp only [GMb,GMc,Au,VV]
   rw [←Gh]
   refine Cg (G:=fun rec2 vs H1=>Sh.f52 (DR cN Gb 1 B out) (Sh.ff d) rec2 (ag vs 0) (ag vs 1) (ag vs 2) (ag vs 3) H1) 4 (fun k=>[.sl (enL cNd L) tk,.int .i64 ((m+1:Nat):Int),DZ cN B (LS (FO L v) L[m] k out),.int .i64 (k:Int)]) (fun k=>DR cN Gb 1 B (LS (FO L v) L[m] k out)) _ (by decide) (fun rec2 k hk=>?_) (fun rec2=>?_)
   ·have hk':(k:Int)<4:=by omega
    have hws:IntKind.i64.wrap ((k:Int)+1)=((k+1:Nat):Int):=Aw (by omega)
    have hwm:IntKind.i64.wrap (((m+1:Nat):Int)-1)=(m:Int):=by rw [An] <;> omega
    obtain ⟨q1,q2,q3⟩:=l3 k hk
    have ho':Nx L.length (LS (FO L v) L[m] k out):=LR (fun o=>Nx L.length o) ho (fun k o hk hlv hkid hP=>by
     obtain ⟨q1,q2,q3⟩:=l3 k hk
     have:=(q3 hlv hkid).1
     exact (Rf hl v (L[m].kid k).toNat o (by omega) (by omega) hP).1) k (by omega)
    unfold Sh.f52
    rw [PE]
    generalize LS (FO L v) L[m] k out=o at ho'
    simp only [GMb,GMc,Al,Ah,AC,UY,Nat.add_zero,Vk,BS,hk',hwm,Ay hm,Sh.f2v,hws]
    by_cases hlv:1<L[m].lv
    ·by_cases hkid:0<L[m].kid k
     ·obtain ⟨r1,r2⟩:=q3 hlv hkid
      obtain ⟨c,hc⟩:∃c:Nat,L[m].kid k=((c+1:Nat):Int):=⟨(L[m].kid k-1).toNat,by omega⟩
      have hcl:c<L.length:=by omega
      have hy:=r2 L[c] (by rw [show (L[m].kid k-1).toNat=c from by omega];exact UU hcl)
      have hi2:=ih (c+1) d o (by omega) (by omega) (by rw [Ba hcl];omega) (by omega) ho'
      have hc0:((c+1:Nat):Int)>0:=by omega
      rw [if_pos ⟨hlv,hkid⟩]
      simp only [GMb,GMc,Al,Ah,AC,UY,Nat.add_zero,Vk,BS,hlv,hwm,Ay hm,Al,Dt hk,Dk hk,hc,hc0,hi2,gt_iff_lt,Int.toNat_natCast,Sh.f2v,hws]
     ·rw [if_neg (fun h=>hkid h.2)]
      simp only [GMb,GMc,Al,Ah,AC,UY,Nat.add_zero,Vk,BS,hlv,hwm,Ay hm,Al,Dt hk,Dk hk,hkid,gt_iff_lt,Sh.f2v,hws]
    ·rw [if_neg (fun h=>hlv h.1)]
     simp only [GMb,GMc,Al,Ah,AC,UY,Nat.add_zero,Vk,BS,hlv,gt_iff_lt,Sh.f2v,hws]
   ·have hf:¬(((4:Nat):Int)<4):=by decide
    have ho':Nx L.length (LS (FO L v) L[m] 4 out):=LR (fun o=>Nx L.length o) ho (fun k o hk hlv hkid hP=>by
     obtain ⟨q1,q2,q3⟩:=l3 k hk
     have:=(q3 hlv hkid).1
     exact (Rf hl v (L[m].kid k).toNat o (by omega) (by omega) hP).1) 4 (by omega)
    have hle:=M9 _ _ ho'
    unfold Sh.f52
    simp only [GMb,GMc,hf,build_N,append_outN (show (LS (FO L v) L[m] 4 out).length<17592186044415 by omega)]
def BD (L:List Nd):List Ab:=[.sl (enL cNd L) .no]
def CP (L:List Nd):Ab:=.agg (BD L)
def BM (L:List Nd):Int:=(A0 L (L.length:Int)).lv
def N4 (L:List Nd):List Nat:=FO L (BM L).toNat L.length []
def dupB (L:List Nd):Bool:=(List.range L.length).all fun i=>!((A3 L).getD (i+1) true)&&(List.range i).all fun k=>decide (L.getD i ⟨0,0,0,0,0⟩≠L.getD k ⟨0,0,0,0,0⟩)
def Pi (L:List Nd):Bool:=(List.range (N4 L).length).all (fun i=>decide ((N4 L).getD i 0=i+1))&&decide ((N4 L).length=L.length)
def Do (L:List Nd):Bool:=
 decide (L=[])||(AE L && !(Du L L.length)&&dupB L&&Pi L)
theorem boxQuad (L:List Nd) (tk:Tok) (H:Aa):B8 true 1 (.agg [.sl (enL cNd L) tk]) H=some (.ptr H.length 0 0,H++[.cel 0 [.sl (enL cNd L) tk]]):=Cm rfl rfl
theorem q05_right (L:List Nd) (tk:Tok) (H:Aa) (hL:L.length<17592186044415):Sh.f57 (.agg [.sl (enL cNd L) tk]) H=some (.ret (.bool (Do L)),H):=by
 unfold Sh.f57
 simp only [GMb,GMc,Al,Ah,AC,UY,Nat.add_zero,Vk,BS,boxQuad,Ic,ME,List.getElem?_cons_zero,Au]
 by_cases h0:L=[]
 ·subst h0;simp [Do]
 ·have hlen:L.length≠0:=fun h=>h0 (Vo h)
  have h0':¬((L.length:Int)=0):=by omega
  have hq:Do L=(AE L && !(Du L L.length)&&dupB L&&Pi L):=by simp [Do,h0]
  simp only [GMb,GMc,h0',TZ L tk _ (show L.length<1152921504606846976 by omega)]
  cases hl:AE L with
  | false=>simp [hq,hl]
  | true=>
   simp only [GMb,GMc,Au,RA L tk L.length _ (show L.length<140737488355327 by omega) hl (Va _)]
   cases hh:Du L L.length with
   | true=>simp [hq,hh]
   | false=>
    simp only [GMb,GMc,IK L tk _ (show L.length<140737488355327 by omega) hl]
    rw [hq,hl,hh]
    simp only [GMb,GMc]
    generalize hB:H++[.cel 0 [.sl (enL cNd L) tk]]=B
    have hfin:∀(v:Bool) (G:Aa),rP H (.bool v) (B++G)=some (.ret (.bool v),H):=fun v G=>by rw [←hB,Vb];exact FB
    have hfin0:∀(v:Bool),rP H (.bool v) B=some (.ret (.bool v),H):=fun v=>by rw [←hB];exact FB
    have key:=EF (G:=fun rec1 vs H1=>Sh.f56 H rec1 (ag vs 0) (ag vs 1) (ag vs 2) H1) L.length (fun i=>!((A3 L).getD (i+1) true)&&(List.range i).all fun k=>decide (L.getD i ⟨0,0,0,0,0⟩≠L.getD k ⟨0,0,0,0,0⟩))
     (fun i=>[.sl (enL cNd L) tk,.sl (enL cB (A3 L)) .no,.int .i64 (i:Int)]) B (some (.ret (.bool (Pi L)),H)) (some (.ret (.bool false),H)) (by omega) (fun rec i hi=>?_) (fun rec=>?_)
    ·refine key.trans ?_
     rw [show dupB L=(List.range L.length).all fun i=>!((A3 L).getD (i+1) true)&&(List.range i).all fun k=>decide (L.getD i ⟨0,0,0,0,0⟩≠L.getD k ⟨0,0,0,0,0⟩) from rfl]
     cases (List.range L.length).all fun i=>!((A3 L).getD (i+1) true)&&(List.range i).all fun k=>decide (L.getD i ⟨0,0,0,0,0⟩≠L.getD k ⟨0,0,0,0,0⟩) <;> simp only [GMb,GMc]
    ·have hi':(i:Int)<(L.length:Int):=by omega
     have hlt:i+1<(A3 L).length:=by rw [CK];omega
     have hws:IntKind.i64.wrap ((i:Int)+1)=((i+1:Nat):Int):=Aw (by omega)
     have hgd:(A3 L).getD (i+1) true=(A3 L)[i+1]:=by rw [UZ,UU hlt];rfl
     unfold Sh.f56
     simp only [GMb,GMc,Al,Ah,AC,UY,Nat.add_zero,Vk,BS,Au,hi',hws,Ay hlt,List.getElem?_cons_zero,hgd]
     cases (A3 L)[i+1]with
     | true=>simp only [GMb,GMc,hfin0]
     | false=>
      simp only [GMb,GMc]
      refine EF (G:=fun rec2 vs H1=>Sh.f54 H rec rec2 (ag vs 0) (ag vs 1) (ag vs 2) (ag vs 3) H1) i (fun k=>decide (L.getD i ⟨0,0,0,0,0⟩≠L.getD k ⟨0,0,0,0,0⟩))
       (fun k=>[.sl (enL cNd L) tk,.sl (enL cB (A3 L)) .no,.int .i64 (i:Int),.int .i64 (k:Int)]) B _ _ (by omega) (fun rec2 k hk=>?_) (fun rec2=>?_)
      ·have hk':(k:Int)<(i:Int):=by omega
       have hkl:k<L.length:=by omega
       unfold Sh.f54
       simp only [GMb,GMc,hk',Ay hi,Ay hkl,IR,eq_nd,hfin0,Aw (show k<9223372036854775807 by omega)]
       simp only [UZ,UU hi,UU hkl,Option.getD_some]
       by_cases he:L[i]=L[k]
       ·simp only [he,ne_eq,not_true_eq_false,GMb,GMc]
       ·simp only [he,ne_eq,not_false_eq_true,GMb,GMc]
      ·unfold Sh.f54
       simp only [GMb,GMc,VV,hws]
    ·unfold Sh.f56
     have hm:L.length-1<L.length:=by omega
     have hlm:L.length=L.length-1+1:=by omega
     have hlv:(A0 L (L.length:Int)).lv=((BM L).toNat:Int):=by
      have:=(AJ hl hm).1
      unfold BM
      rw [hlm,Ba hm];omega
     have hend:Sh.ff AQ (.sl (enL cNd L) tk) (.int .i64 (L.length:Int)) (.sl [] .tight) B=some (.ret (DZ cN B (FO L (BM L).toNat L.length [])),DR cN Gb 1 B (FO L (BM L).toNat L.length [])):=q05_end tk B hL hl (BM L).toNat L.length AQ [] (by omega) (Va _) hlv (by
      have:=(AJ hl hm).2.1
      rw [Dv]
      unfold BM
      rw [hlm,Ba hm];omega) ⟨by simp,by simp⟩
     have hok:=(Rf hl (BM L).toNat L.length [] (by omega) (Va _) ⟨by simp,by simp⟩).1
     have hol:=M9 _ _ hok
     obtain ⟨G,hG⟩:=GZ (f:=cN) (ty:=Gb) (sz:=1) B (FO L (BM L).toNat L.length [])
     simp only [GMb,GMc,Au,VV,hend,hG,Gh]
     have hsame:N4 L=FO L (BM L).toNat L.length []:=rfl
     rw [←hsame]at hol ⊢
     unfold Pi
     generalize N4 L=o at hol ⊢
     have key:=EF (G:=fun rec3 vs H1=>Sh.f55 H rec3 (ag vs 0) (ag vs 1) (ag vs 2) H1) o.length (fun i=>decide (o.getD i 0=i+1)) (fun i=>[.sl (enL cNd L) tk,.sl (enL cN o) (outK B o),.int .i64 (i:Int)]) (B++G) (some (.ret (.bool (decide (o.length=L.length))),H)) (some (.ret (.bool false),H)) (by omega) (fun rec i hi=>?_) (fun rec=>?_)
     ·refine key.trans ?_
      cases (List.range o.length).all (fun i=>decide (o.getD i 0=i+1)) <;> simp only [GMb,GMc]
     ·have hi':(i:Int)<(o.length:Int):=by omega
      unfold Sh.f55
      simp only [GMb,GMc,Al,Ah,AC,UY,Nat.add_zero,Vk,BS,Au,hi',Ay hi,List.getElem?_cons_zero,Aw (show i<9223372036854775807 by omega),hfin]
      simp only [UZ,UU hi,Option.getD_some]
      by_cases he:o[i]=i+1
      ·have:(o[i]:Int)=((i+1:Nat):Int):=by omega
       simp only [decide_eq_true this,decide_eq_true he,GMb,GMc]
      ·have:¬(o[i]:Int)=((i+1:Nat):Int):=by omega
       simp only [decide_eq_false this,decide_eq_false he,GMb,GMc]
     ·have hd:decide ((o.length:Int)=(L.length:Int))=decide (o.length=L.length):=by rw [Vr];simp;omega
      unfold Sh.f55
      simp only [GMb,GMc,Au,VV,hfin,hd]
theorem Ua (L:List Nd) (tk:Tok) (H:Aa) (hL:L.length<17592186044415):Sh.f1u (.agg [.sl (enL cNd L) tk]) H=some (.ret (.int .i64 (if L=[]then 0 else BM L)),H):=by
 unfold Sh.f1u
 simp only [GMb,GMc,Al,Ah,AC,UY,Nat.add_zero,Vk,BS,boxQuad,Ic,ME,List.getElem?_cons_zero,Au]
 by_cases h0:L=[]
 ·subst h0;simp
 ·have hlen:L.length≠0:=fun h=>h0 (Vo h)
  have h0':¬((L.length:Int)=0):=by omega
  have hm:L.length-1<L.length:=by omega
  have hw:IntKind.i64.wrap ((L.length:Int)-1)=((L.length-1:Nat):Int):=HY (by omega) (by omega)
  have ht:BM L=L[L.length-1].lv:=by
   unfold BM
   rw [Ec (n:=L.length-1) (by omega) hm]
  simp only [h0,h0',GMb,GMc,Al,Ah,AC,UY,Nat.add_zero,Vk,BS,hw,Ay hm,Ii,ht]
abbrev nd0:Nd:=⟨0,0,0,0,0⟩
def Nd.setKid (x:Nd) (k:Nat) (c:Int):Nd:=match k with | 0=>{ x with k0:=c } | 1=>{ x with k1:=c } | 2=>{ x with k2:=c } | _=>{ x with k3:=c }
theorem TQ (x:Nd) (k:Nat) (c:Int):(x.setKid k c).lv=x.lv:=by unfold Nd.setKid;split <;> rfl
theorem Qf (x:Nd) {k:Nat} (c:Int) (h:k<4):(x.setKid k c).kid k=c:=by
 match k,h with
 | 0,_=>rfl
 | 1,_=>rfl
 | 2,_=>rfl
 | 3,_=>rfl
theorem EY (x:Nd) {k j:Nat} (c:Int) (h:k<4) (hj:j<4) (hne:j≠k):(x.setKid k c).kid j=x.kid j:=by
 match k,j,h,hj with
 | 0,1,_,_=>rfl
 | 0,2,_,_=>rfl
 | 0,3,_,_=>rfl
 | 1,0,_,_=>rfl
 | 1,2,_,_=>rfl
 | 1,3,_,_=>rfl
 | 2,0,_,_=>rfl
 | 2,1,_,_=>rfl
 | 2,3,_,_=>rfl
 | 3,0,_,_=>rfl
 | 3,1,_,_=>rfl
 | 3,2,_,_=>rfl
 | 0,0,_,_=>exact absurd rfl hne
 | 1,1,_,_=>exact absurd rfl hne
 | 2,2,_,_=>exact absurd rfl hne
 | 3,3,_,_=>exact absurd rfl hne
section
variable {H:Aa} {p k:Nat} {x:Nd} {cs cs':List Ab}
theorem Hk (hg:H[p]? = some (.cel 0 (cNd x))):Ac true 5 (.ptr p 0 0) H=some (.agg (cNd x)):=by
 simp only [Ac,AA hg,Option.bind_some,if_true];rfl
theorem Sb (hg:H[p]? = some (.cel 0 (cNd x))):Ac false 1 (.ptr p 0 0) H=some (.int .i64 x.lv):=by
 simp only [Ac,AA hg,Option.bind_some,Vd,if_false];rfl
theorem Uo (hg:H[p]? = some (.cel 0 (cNd x))) (h:k<4):Ac false 1 (.ptr p 0 (1+k)) H=some (.int .i64 (x.kid k)):=by
 simp only [Ac,AA hg,Option.bind_some,Vd,if_false];exact Dk h
theorem EC {c:Int} (hg:H[p]? = some (.cel 0 (cNd x))) (h:k<4):Ag 1 (.ptr p 0 (1+k)) (.int .i64 c) H=some (H.set p (.cel 0 (cNd (x.setKid k c)))):=by
 simp only [Ag,AA hg,Option.bind_some,acells_int,B9 hg]
 match k,h with
 | 0,_=>rfl
 | 1,_=>rfl
 | 2,_=>rfl
 | 3,_=>rfl
theorem Ju (hg:H[p]? = some (.cel 0 cs)) (hl:cs.length=5):Ag 5 (.ptr p 0 0) (.agg (cNd x)) H=some (H.set p (.cel 0 (cNd x))):=by
 simp only [Ag,AA hg,Option.bind_some,US,B9 hg,Fz hl]
 rw [if_pos ⟨rfl,by omega⟩]
theorem Hl {K:IntKind} {id g o:Nat} (h:k<4):BP 4 1 (.ptr id g o) (.int K (k:Int))=some (.ptr id g (o+k)):=by
 unfold BP
 simp only []
 rw [if_pos ⟨by omega,by omega⟩];simp

end
theorem OQ (H:Aa):Az (some [.int .i64 0,.int .i64 0,.int .i64 0,.int .i64 0,.int .i64 0]) H=some (.ptr H.length 0 0,H++[.cel 0 (cNd nd0)]):=alloc_eq rfl
theorem DM (L:List Nd):(A3 L).getD 0 true=true:=by
 have key:∀(l:List Nd) (E:List Bool),E[0]? = some true→(l.foldl (fun E x=>E++[LT E x]) E)[0]? = some true:=by
  intro l
  induction l with
  | nil=>intro E h;exact h
  | cons a l ih=>intro E h;exact ih _ (by rw [UW (by cases E with | nil=>simp at h | cons e E=>simp)];exact h)
 rw [UZ,show (A3 L)[0]? = some true from key L [true] rfl];rfl
def Is (L:List Nd) (x:Nd) (k:Nat):Int:=if x.kid k=0 then 0 else (A0 L (x.kid k)).kid (3-k)
def BW (L:List Nd) (n:Nat):Nd:=⟨(A0 L n).lv-1,Is L (A0 L n) 0,Is L (A0 L n) 1,Is L (A0 L n) 2,Is L (A0 L n) 3⟩
def BI:Nat→List Nd→Nat→List Nd×Nat
 | 0,L,n=>(L,n)
 | f+1,L,n=>if Du L n then BI f (L++[BW L n]) (L.length+1)else (L,n)
def D6 (L:List Nd) (n:Nat):List Nd×Nat:=
 if (A3 L).getD n true then (L,0)else BI (A0 L n).lv.toNat L n
theorem Ux (L:List Nd) (n:Nat) {k:Nat} (h:k<4):(BW L n).kid k=Is L (A0 L n) k:=by
 match k,h with
 | 0,_=>rfl
 | 1,_=>rfl
 | 2,_=>rfl
 | 3,_=>rfl
theorem Kh {L:List Nd} {x:Nd} (hl:AE L=true) (hx:FZ (L++[x]) L.length=true):AE (L++[x])=true:=by
 unfold AE
 rw [Vn]
 intro i hi
 have hi':i<L.length+1:=by simpa using hi
 by_cases h:i=L.length
 ·rw [h];exact hx
 ·have hlt:i<L.length:=by omega
  have h1:=Vn.1 hl i (by simpa using hlt)
  simp only [FZ,UW hlt,UU hlt,Vh,Vn]at h1 ⊢
  refine ⟨h1.1,fun k hk=>?_⟩
  have h2:=h1.2 k hk
  simp only [CU,Vh,decide_eq_true_eq]at h2 ⊢
  refine ⟨h2.1,fun q1 q2=>?_⟩
  obtain ⟨r1,r2⟩:=h2.2 q1 q2
  refine ⟨r1,fun y hy=>?_⟩
  rw [UW (by omega)]at hy
  exact r2 y hy
theorem Ki {L:List Nd} {x:Nd} (h1:1≤x.lv) (h2:x.lv≤1329) (h3:∀k,k<4→0≤x.kid k∧(x.lv=1→x.kid k≤255)∧(1<x.lv→0<x.kid k→x.kid k≤L.length∧(A0 L (x.kid k)).lv=x.lv-1)):FZ (L++[x]) L.length=true:=by
 simp only [FZ,Vu (Va _),V9,List.getElem?_cons_zero,Vh,decide_eq_true_eq,Vn]
 refine ⟨⟨h1,h2⟩,fun k hk=>?_⟩
 obtain ⟨q1,q2,q3⟩:=h3 k (by simpa using hk)
 simp only [CU,Vh,decide_eq_true_eq]
 refine ⟨⟨q1,q2⟩,fun r1 r2=>?_⟩
 obtain ⟨s1,s2⟩:=q3 r1 r2
 refine ⟨s1,fun y hy=>?_⟩
 have hlt:(x.kid k-1).toNat<L.length:=by omega
 rw [UW hlt,UU hlt]at hy
 injection hy with hy
 rw [←hy,←s2,Ec (n:=(x.kid k-1).toNat) (by omega) hlt]
theorem MK {L:List Nd} (hl:AE L=true) {n:Nat} (hn:n<L.length) (h2:2≤L[n].lv):AE (L++[BW L (n+1)])=true:=by
 obtain ⟨l1,l2,l3⟩:=AJ hl hn
 have e:A0 L ((n+1:Nat):Int)=L[n]:=Ba hn
 have elv:(BW L (n+1)).lv=L[n].lv-1:=by show (A0 L ((n+1:Nat):Int)).lv-1=_;rw [e]
 refine Kh hl (Ki (by omega) (by omega) fun k hk=>?_)
 obtain ⟨q1,q2,q3⟩:=l3 k hk
 rw [Ux L (n+1) hk,elv,e]
 unfold Is
 by_cases hc:L[n].kid k=0
 ·rw [if_pos hc];exact ⟨by omega,fun _=>by omega,fun _ h=>by omega⟩
 ·rw [if_neg hc]
  obtain ⟨m,hm⟩:∃m:Nat,L[n].kid k=((m+1:Nat):Int):=⟨(L[n].kid k-1).toNat,by omega⟩
  obtain ⟨r1,r2⟩:=q3 (by omega) (by omega)
  have hml:m<L.length:=by omega
  have hy:=r2 L[m] (by rw [show (L[n].kid k-1).toNat=m from by omega];exact UU hml)
  obtain ⟨y1,y2,y3⟩:=AJ hl hml
  rw [Ec hm hml]
  obtain ⟨s1,s2,s3⟩:=y3 (3-k) (by omega)
  refine ⟨s1,fun h=>s2 (by omega),fun h h0=>?_⟩
  obtain ⟨t1,t2⟩:=s3 (by omega) h0
  refine ⟨by omega,?_⟩
  obtain ⟨c,hc'⟩:∃c:Nat,L[m].kid (3-k)=((c+1:Nat):Int):=⟨(L[m].kid (3-k)-1).toNat,by omega⟩
  have hcl:c<L.length:=by omega
  rw [Ec hc' hcl]
  have:=t2 L[c] (by rw [show (L[m].kid (3-k)-1).toNat=c from by omega];exact UU hcl)
  omega
theorem MM {L:List Nd} {n:Nat} (h:Du L n=true):n≠0∧2≤(A0 L n).lv:=by
 simp only [Du,Vh,decide_eq_true_eq]at h
 exact ⟨h.1.1,h.1.2⟩
theorem UQ {H G:Aa} {l:List Nd} {x:Nd} (h:l.length<3518437208883):AW AM 5 40 (.sl (enL cNd l) (.own H.length)) (.sl (enL cNd [x]) .tight) (H++.tok l.length AM 5::G)=some (.sl (enL cNd (l++[x])) (.own H.length),H++.tok (l.length+1) AM 5::G):=by
 have:=Em (f:=cNd) (l:=l) (m:=[x]) (ty:=AM) (bytes:=40) (tk:=.tight) (H:=H++.tok l.length AM 5::G) (t:=H.length) (by simp) (by simp) (by simp;omega) (by simp;omega)
 rw [this];simp
def TP (f:Nat→Int) (x:Nd):Nat→Nd
 | 0=>x
 | k+1=>(TP f x k).setKid k (f k)
theorem TO (f:Nat→Int) (x:Nd):TP f x 4=⟨x.lv,f 0,f 1,f 2,f 3⟩:=rfl
theorem SU (z:Int):AD (some [.int .i64 0,.int .i64 0,.int .i64 0,.int .i64 0,.int .i64 0]) [(0,1,.int .i64 z)]=some (.agg (cNd ⟨z,0,0,0,0⟩)):=by
 simp [AD,FV,Dp,cNd]
theorem q06_shrink (L:List Nd) (tk:Tok) (n:Nat) (H:Aa) (hL:L.length<3518437200000) (hl:AE L=true) (hn:n≤L.length) :
  Sh.f64 (.sl (enL cNd L) tk) (.int .i64 (n:Int)) H=some (.ret (.tup [.sl (enL cNd (D6 L n).1) .no,.int .i64 ((D6 L n).2:Int)]),H):=by
 unfold Sh.f64
 have hb:AY 5 []=some (.sl (enL cNd []) .tight):=rfl
 rw [hb]
 by_cases h0:L=[]
 ·subst h0
  have hn0:n=0:=by simpa using hn
  subst hn0
  have ha:AW AM 5 40 (.sl (enL cNd []) .tight) (.sl (enL cNd []) tk) H=some (.sl (enL cNd []) .tight,H):=Dg (by simp [BY,enL])
  have he:=Ub [] .tight 0 H (by simp) hl (Va _)
  simp only [GMb,GMc,ha,he,show (A3 []).getD 0 true=true from rfl,L5,CQ,BN,Cd,Iu,Fe,Option.map_some]
  rfl
 ·have ha:AW AM 5 40 (.sl (enL cNd []) .tight) (.sl (enL cNd L) tk) H=some (.sl (enL cNd L) (.own H.length),H++[.tok L.length AM 5]):=by
   have:=C4 (f:=cNd) (l:=[]) (m:=L) (ty:=AM) (bytes:=40) (tk:=tk) (H:=H) h0 (by simp;omega) (by simp;omega)
   simpa using this
  simp only [GMb,GMc,ha,Ub L _ n _ (show L.length<140737488355327 by omega) hl hn]
  unfold D6
  cases hem:(A3 L).getD n true with
  | true=>simp only [GMb,GMc,Cf,CQ,BN,Cd,Iu,Fe,Option.map_some];rfl
  | false=>
   simp only [GMb,GMc]
   have hlv:(A0 L n).lv≤1329:=by
    cases n with
    | zero=>exfalso;rw [DM]at hem;cases hem
    | succ m=>rw [Ba hn];exact (AJ hl hn).2.1
   have key:=Br (G:=fun rec1 vs H1=>Sh.f7d H rec1 (ag vs 0) (ag vs 1) H1) (σ:=List Nd×Nat×Aa) (fun s=>AE s.1=true∧s.2.1≤s.1.length∧s.1.length+(A0 s.1 s.2.1).lv.toNat<3518437208883∧s.1.length+(A0 s.1 s.2.1).lv.toNat<3518437208883)
    (fun s=>[.int .i64 (s.2.1:Int),.sl (enL cNd s.1) (.own H.length)]) (fun s=>H++.tok s.1.length AM 5::s.2.2) (fun s=>(A0 s.1 s.2.1).lv.toNat)
    (fun s=>some (.ret (.tup [.sl (enL cNd (BI (A0 s.1 s.2.1).lv.toNat s.1 s.2.1).1) .no,.int .i64 ((BI (A0 s.1 s.2.1).lv.toNat s.1 s.2.1).2:Int)]),H)) (fun s rec hs hrec=>?_) (L,n,[]) ⟨hl,hn,by dsimp only;omega,by dsimp only;omega⟩ (by dsimp only;omega)
   ·exact key
   ·obtain ⟨M,i,G⟩:=s
    obtain ⟨hs1,hs2,hs3,hs4⟩:=hs
    simp only at hs1 hs2 hs3 hs4 hrec ⊢
    unfold Sh.f7d
    simp only [GMb,GMc,RA M _ i _ (show M.length<140737488355327 by omega) hs1 hs2]
    cases hh:Du M i with
    | false=>
     have:BI (A0 M i).lv.toNat M i=(M,i):=by
      cases (A0 M i).lv.toNat with
      | zero=>rfl
      | succ f=>simp [BI,hh]
     simp only [GMb,GMc,this,Cf,CQ,BN,Cd,Iu,Fe,Option.map_some]
    | true=>
     obtain ⟨hi0,hlv2⟩:=MM hh
     obtain ⟨m,rfl⟩:∃m,i=m+1:=⟨i-1,by omega⟩
     have hm:m<M.length:=hs2
     obtain ⟨l1,l2,l3⟩:=AJ hs1 hm
     have hx:A0 M ((m+1:Nat):Int)=M[m]:=Ba hm
     rw [hx]at hlv2 hs3 hrec ⊢
     have hwm:IntKind.i64.wrap (((m+1:Nat):Int)-1)=(m:Int):=by rw [An] <;> omega
     have hwl:IntKind.i64.wrap (M[m].lv-1)=M[m].lv-1:=An (by omega) (by omega)
     have hsf:BI M[m].lv.toNat M (m+1)=BI (M[m].lv-1).toNat (M++[BW M (m+1)]) (M.length+1):=by
      rw [show M[m].lv.toNat=(M[m].lv-1).toNat+1 from by omega]
      simp only [BI,hh,if_true]
     generalize hB:H++.tok M.length AM 5::G=B
     simp only [GMb,GMc,Al,Ah,AC,UY,Nat.add_zero,Vk,BS,hwm,Ay hm,hwl,SU,OQ,Ju (Ap (B:=B) (cs:=cNd nd0)) rfl,Bh]
     refine Cg (G:=fun rec2 vs H1=>Sh.f63 H rec rec2 (ag vs 0) (ag vs 1) (ag vs 2) (ag vs 3) H1) 4 (fun k=>[.int .i64 ((m+1:Nat):Int),.sl (enL cNd M) (.own H.length),.ptr B.length 0 0,.int .i64 (k:Int)]) (fun k=>B++[.cel 0 (cNd (TP (Is M M[m]) ⟨M[m].lv-1,0,0,0,0⟩ k))]) _ (by decide) (fun rec2 k hk=>?_) (fun rec2=>?_)
     ·have hk':(k:Int)<4:=by omega
      unfold Sh.f63
      have hinn:=q05_inner M (.own H.length) m k (B++[.cel 0 (cNd (TP (Is M M[m]) ⟨M[m].lv-1,0,0,0,0⟩ k))]) (by omega) hs1 hm hlv2 hk
      simp only [GMb,GMc,hk',hinn,Ah,UY,Hl hk,EC (Ap (B:=B)) hk,Bh,Aw (show k<9223372036854775807 by omega)]
      rfl
     ·have hf:¬(((4:Nat):Int)<4):=by decide
      have hel:(⟨M[m].lv-1,Is M M[m] 0,Is M M[m] 1,Is M M[m] 2,Is M M[m] 3⟩:Nd)=BW M (m+1):=by unfold BW;rw [hx]
      unfold Sh.f63
      rw [TO]
      simp only [GMb,GMc,hf,Hk (Ap (B:=B)),JN]
      rw [←hB,Vb,List.cons_append,UQ (by omega)]
      simp only [GMb,GMc,Au,Vc,List.length_singleton,hel]
      have hlv':(A0 (M++[BW M (m+1)]) ((M.length+1:Nat):Int)).lv=M[m].lv-1:=by
       rw [Ba (by simp),show (M++[BW M (m+1)])[M.length]'(by simp)=BW M (m+1) from by simp]
       show (A0 M ((m+1:Nat):Int)).lv-1=_
       rw [hx]
      have:=hrec (M++[BW M (m+1)],M.length+1,G++[.cel 0 (cNd (BW M (m+1)))]) ⟨MK hs1 hm hlv2,by simp,by dsimp only;rw [hlv'];simp;omega,by dsimp only;rw [hlv'];simp;omega⟩ (by dsimp only;rw [hlv'];omega)
      simp only [Vc,List.length_singleton]at this
      rw [this,hlv',hsf]
def Ch (l:List Nd) (x:Nd):Nat:=match (List.range l.length).find? (fun i=>decide (l.getD i nd0=x))with | some i=>i+1 | none=>0
theorem Ef {l:List Nd} {x:Nd} {i:Nat}:Ch l x=i+1↔l[i]? = some x∧∀j,j<i→l[j]? ≠ some x:=by
 unfold Ch
 constructor
 ·intro h
  cases hf:(List.range l.length).find? (fun i=>decide (l.getD i nd0=x))with
  | none=>rw [hf]at h;dsimp only at h;omega
  | some k=>
   rw [hf]at h;dsimp only at h
   have hk:k=i:=by omega
   subst hk
   rw [XI]at hf
   obtain ⟨h1,h2,h3⟩:=hf
   have hlt:k<l.length:=by simpa using h2
   simp only [decide_eq_true_eq,UZ,UU hlt,Option.getD_some]at h1
   refine ⟨by rw [UU hlt,h1],fun j hj e=>?_⟩
   have:=h3 j hj
   simp only [UZ,e,Option.getD_some,decide_true,VX]at this
   cases this
 ·rintro ⟨h1,h2⟩
  have hlt:i<l.length:=(UV.1 h1).1
  have hf:(List.range l.length).find? (fun i=>decide (l.getD i nd0=x))=some i:=by
   rw [XI]
   refine ⟨by simp [UZ,h1],by simpa using hlt,fun j hj=>?_⟩
   have hjl:j<l.length:=by omega
   have:=h2 j hj
   rw [UU hjl]at this
   simp only [UZ,UU hjl,Option.getD_some,Wc,decide_eq_false_iff_not]
   exact fun e=>this (by rw [e])
  rw [hf]
theorem Iv {l:List Nd} {x:Nd}:Ch l x=0↔x ∉ l:=by
 constructor
 ·intro h hx
  obtain ⟨i,hi,hxi⟩:=V5 hx
  unfold Ch at h
  cases hf:(List.range l.length).find? (fun i=>decide (l.getD i nd0=x))with
  | none=>
   have:=Xe.1 hf i (by simpa using hi)
   simp [UZ,UU hi,hxi]at this
  | some k=>rw [hf]at h;dsimp only at h;omega
 ·intro h
  cases hf:Ch l x with
  | zero=>rfl
  | succ i=>
   rw [Ef]at hf
   exact absurd (Vz hf.1) h
theorem findN_le (l:List Nd) (x:Nd):Ch l x≤l.length:=by
 cases hf:Ch l x with
 | zero=>omega
 | succ i=>rw [Ef]at hf;exact (UV.1 hf.1).1
theorem O2 {l m:List Nd} {x:Nd} (h:Ch l x≠0):Ch (l++m) x=Ch l x:=by
 cases hf:Ch l x with
 | zero=>exact absurd hf h
 | succ i=>
  rw [Ef]at hf ⊢
  have hlt:i<l.length:=(UV.1 hf.1).1
  refine ⟨by rw [UW hlt];exact hf.1,fun j hj=>?_⟩
  rw [UW (by omega)];exact hf.2 j hj
theorem UA {l:List Nd} {x:Nd} (h:Ch l x=0):Ch (l++[x]) x=l.length+1:=by
 rw [Ef]
 refine ⟨by simp,fun j hj e=>?_⟩
 rw [UW hj]at e
 exact Iv.1 h (Vz e)
def B4 (out:List Nd) (x:Nd):List Nd×Nat:=if Ch out x=0 then (out++[x],out.length+1)else (out,Ch out x)
def BO (rec:Nat→List Nd→List Nd×Nat) (x:Nd):Nat→List Nd→List Nd×Nd
 | 0,out=>(out,x)
 | k+1,out=>((rec (x.kid k).toNat (BO rec x k out).1).1,(BO rec x k out).2.setKid k ((rec (x.kid k).toNat (BO rec x k out).1).2:Int))
def Bl (L:List Nd) (E:List Bool):Nat→Nat→List Nd→List Nd×Nat
 | 0,_,out=>(out,0)
 | v+1,n,out=>
  if E.getD n true then (out,0)
  else if 1<(A0 L n).lv then B4 (BO (Bl L E v) (A0 L n) 4 out).1 (BO (Bl L E v) (A0 L n) 4 out).2
  else B4 out (A0 L n)
theorem L7 (out:List Nd) (x:Nd):0<(B4 out x).2:=by
 unfold B4
 split
 ·simp
 ·dsimp only;omega
theorem RE (out:List Nd) (x:Nd):∃r,(B4 out x).1=out++r:=by
 unfold B4
 split
 ·exact ⟨_,rfl⟩
 ·exact ⟨[],by simp⟩
theorem RF (out:List Nd) (x:Nd) (r:List Nd):B4 ((B4 out x).1++r) x=((B4 out x).1++r,(B4 out x).2):=by
 by_cases h:Ch out x=0
 ·have h1:B4 out x=(out++[x],out.length+1):=by simp [B4,h]
  rw [h1]
  have h2:Ch (out++[x]++r) x=out.length+1:=by rw [O2 (by rw [UA h];omega),UA h]
  dsimp only
  unfold B4
  rw [h2,if_neg (by omega)]
 ·have h1:B4 out x=(out,Ch out x):=by simp [B4,h]
  rw [h1]
  dsimp only
  unfold B4
  rw [O2 h,if_neg h]
section
variable {L:List Nd} {E:List Bool}
theorem Si {rec:Nat→List Nd→List Nd×Nat} (hr:∀n out,∃r,(rec n out).1=out++r) (x:Nd):∀k out,∃r,(BO rec x k out).1=out++r
 | 0,out=>⟨[],by simp [BO]⟩
 | k+1,out=>by
  obtain ⟨r,h⟩:=Si hr x k out
  obtain ⟨r',h'⟩:=hr (x.kid k).toNat (BO rec x k out).1
  exact ⟨r++r',by simp only [BO];rw [h',h];simp⟩
theorem Sj:∀v n out,∃r,(Bl L E v n out).1=out++r
 | 0,n,out=>⟨[],by simp [Bl]⟩
 | v+1,n,out=>by
  simp only [Bl]
  split
  ·exact ⟨[],by simp⟩
  ·split
   ·obtain ⟨r,h⟩:=Si (Sj v) (A0 L n) 4 out
    obtain ⟨r',h'⟩:=RE (BO (Bl L E v) (A0 L n) 4 out).1 (BO (Bl L E v) (A0 L n) 4 out).2
    exact ⟨r++r',by rw [h',h];simp⟩
   ·exact RE _ _
theorem Ir:∀v n out r,Bl L E v n ((Bl L E v n out).1++r)=((Bl L E v n out).1++r,(Bl L E v n out).2)
 | 0,n,out,r=>by simp [Bl]
 | v+1,n,out,r=>by
  by_cases he:E.getD n true=true
  ·simp only [Bl,if_pos he]
  ·by_cases hl:1<(A0 L n).lv
   ·have e:∀o,Bl L E (v+1) n o=B4 (BO (Bl L E v) (A0 L n) 4 o).1 (BO (Bl L E v) (A0 L n) 4 o).2:=fun o=>by simp only [Bl,if_neg he,if_pos hl]
    have key:∀k,k≤4→∀s,BO (Bl L E v) (A0 L n) k ((BO (Bl L E v) (A0 L n) k out).1++s)=((BO (Bl L E v) (A0 L n) k out).1++s,(BO (Bl L E v) (A0 L n) k out).2):=by
     intro k
     induction k with
     | zero=>intro _ s;simp [BO]
     | succ k ih=>
      intro hk s
      simp only [BO]
      obtain ⟨r',h'⟩:=Sj (L:=L) (E:=E) v ((A0 L n).kid k).toNat (BO (Bl L E v) (A0 L n) k out).1
      have hi:=ih (by omega) (r'++s)
      have ha:=Ir v ((A0 L n).kid k).toNat (BO (Bl L E v) (A0 L n) k out).1 s
      rw [h']at ha ⊢
      rw [Vb,hi]
      rw [Vb]at ha
      dsimp only
      rw [ha]
    obtain ⟨r',h'⟩:=RE (BO (Bl L E v) (A0 L n) 4 out).1 (BO (Bl L E v) (A0 L n) 4 out).2
    have ha:=RF (BO (Bl L E v) (A0 L n) 4 out).1 (BO (Bl L E v) (A0 L n) 4 out).2 r
    rw [e,e]
    rw [h']at ha ⊢
    rw [Vb,key 4 (by omega)]
    dsimp only
    rw [Vb]at ha
    exact ha
   ·have e:∀o,Bl L E (v+1) n o=B4 o (A0 L n):=fun o=>by simp only [Bl,if_neg he,if_neg hl]
    rw [e,e];exact RF out (A0 L n) r

end
theorem q06_find (l:List Nd) (tk:Tok) (x:Nd) (H:Aa) (hl:l.length<1152921504606846975):Sh.f3b (.sl (enL cNd l) tk) (.agg (cNd x)) H=some (.ret (.int .i64 (Ch l x:Int)),H):=by
 unfold Sh.f3b
 rw [Cm (sz:=5) ET rfl]
 simp only [GMb,GMc]
 have hp:(H++[Blk.cel 0 (cNd x)])[H.length]? = some (.cel 0 (cNd x)):=Ap
 have key:=N9 (G:=fun rec1 vs H1=>Sh.f65 H rec1 (ag vs 0) (ag vs 1) (ag vs 2) H1) l.length (fun i=>decide (l.getD i nd0=x)) (fun i=>[.sl (enL cNd l) tk,.ptr H.length 0 0,.int .i64 (i:Int)]) (H++[.cel 0 (cNd x)])
  (some (.ret (.int .i64 0),H)) (fun i=>some (.ret (.int .i64 ((i+1:Nat):Int)),H)) (by omega) (fun rec i hi=>?_) (fun rec=>?_)
 ·refine key.trans ?_
  unfold Ch
  cases (List.range l.length).find? (fun i=>decide (l.getD i nd0=x)) <;> rfl
 ·have hi':(i:Int)<(l.length:Int):=by omega
  unfold Sh.f65
  simp only [GMb,GMc,Au,hi',Ay hi,IR,Hk hp,eq_nd,Aw (show i<9223372036854775807 by omega),Ii]
  simp only [UZ,UU hi,Option.getD_some]
  by_cases he:l[i]=x
  ·simp only [he,GMb,GMc]
  ·simp only [he,GMb,GMc]
 ·unfold Sh.f65
  simp only [GMb,GMc,Au,VV,Ii]
structure VS (b id:Nat) (out:List Nd) (D:List Nat) (v:Ab) (H:Aa):Prop where
 hv:(out=[]∧v=.sl [] .tight)∨∃t,b≤t∧v=.sl (enL cNd out) (.own t)∧H[t]? = some (.tok out.length AM 5)
 hd:H[id]? = some (.cel 0 (flat cN D))
structure Ext (b id:Nat) (H H':Aa):Prop where
 len:H.length≤H'.length
 cel:∀(i:Nat) (cs:List Ab),i≠id→H[i]? = some (.cel 0 cs)→H'[i]? = some (.cel 0 cs)
 old:∀i,i<b→H'[i]? = H[i]?
theorem Ext.refl (b id:Nat) (H:Aa):Ext b id H H:=⟨Va _,fun _ _ _ h=>h,fun _ _=>rfl⟩
theorem Ext.trans {b id:Nat} {H H1 H2:Aa} (h:Ext b id H H1) (h':Ext b id H1 H2):Ext b id H H2:=
 ⟨Vw h.len h'.len,fun i cs hi hc=>h'.cel i cs hi (h.cel i cs hi hc),fun i hi=>(h'.old i hi).trans (h.old i hi)⟩
theorem VS.sl {b id:Nat} {out:List Nd} {D:List Nat} {v:Ab} {H:Aa} (h:VS b id out D v H):∃tk,v=.sl (enL cNd out) tk:=by
 rcases h.hv with ⟨rfl,rfl⟩ | ⟨t,_,rfl,_⟩
 ·exact ⟨_,rfl⟩
 ·exact ⟨_,rfl⟩
theorem Oy {H:Aa} {i:Nat} {x:Blk} (B:Blk) (h:H[i]? = some x):(H++[B])[i]? = some x:=by
 have:=(UV.1 h).1
 rw [UW this];exact h
theorem VS.snoc {b id:Nat} {out:List Nd} {D:List Nat} {v:Ab} {H:Aa} (h:VS b id out D v H) (B:Blk):VS b id out D v (H++[B]):=by
 refine ⟨?_,Oy B h.hd⟩
 rcases h.hv with h1 | ⟨t,h1,h2,h3⟩
 ·exact .inl h1
 ·exact .inr ⟨t,h1,h2,Oy B h3⟩
theorem Ext.snoc {b id:Nat} {H:Aa} (hb:b≤H.length) (B:Blk):Ext b id H (H++[B]):=
 ⟨by simp,fun i cs _ h=>Oy B h,fun i hi=>by rw [UW (by omega)]⟩
theorem VS.put {b id p:Nat} {out:List Nd} {D:List Nat} {v:Ab} {H:Aa} {c c':List Ab} (h:VS b id out D v H) (hp:H[p]? = some (.cel 0 c)) (hne:p≠id):VS b id out D v (H.set p (.cel 0 c')):=by
 refine ⟨?_,by rw [UX hne];exact h.hd⟩
 rcases h.hv with h1 | ⟨t,h1,h2,h3⟩
 ·exact .inl h1
 ·refine .inr ⟨t,h1,h2,?_⟩
  have:p≠t:=fun e=>by rw [←e,hp]at h3;cases h3
  rw [UX this];exact h3
theorem VS.app {b id:Nat} {out:List Nd} {D:List Nat} {v:Ab} {H:Aa} (h:VS b id out D v H) (hb:b≤H.length) (x:Nd) (hl:out.length<3518437208883) :
  ∃v' H',AW AM 5 40 v (.sl (enL cNd [x]) .tight) H=some (v',H')∧VS b id (out++[x]) D v' H'∧Ext b id H H':=by
 rcases h.hv with ⟨rfl,rfl⟩ | ⟨t,h1,rfl,h3⟩
 ·have:=C4 (f:=cNd) (l:=[]) (m:=[x]) (ty:=AM) (bytes:=40) (tk:=.tight) (H:=H) (by simp) (by simp) (by simp)
  refine ⟨_,_,this,⟨.inr ⟨H.length,hb,rfl,by simp⟩,Oy _ h.hd⟩,Ext.snoc hb _⟩
 ·have:=Em (f:=cNd) (l:=out) (m:=[x]) (ty:=AM) (bytes:=40) (tk:=.tight) (H:=H) (t:=t) (by simp) h3 (by simp;omega) (by simp;omega)
  have htl:=(UV.1 h3).1
  refine ⟨_,_,this,⟨.inr ⟨t,h1,rfl,by simp [htl]⟩,?_⟩,⟨by simp,fun i cs hi hc=>?_,fun i hi=>?_⟩⟩
  ·have:t≠id:=fun e=>by have:=h.hd;rw [←e,h3]at this;cases this
   rw [UX this];exact h.hd
  ·have:t≠i:=fun e=>by rw [←e,h3]at hc;cases hc
   rw [UX this];exact hc
  ·rw [UX (by omega)]
structure VI (L out:List Nd) (D:List Nat):Prop where
 len:D.length=L.length+1
 cnt:out.length≤D.countP (fun d=>decide (0<d))
 val:∀(n d:Nat),D[n]? = some d→0<d→Bl L (A3 L) (A0 L n).lv.toNat n out=(out,d)
theorem VI.grow {L out r:List Nd} {D:List Nat} (h:∀(n d:Nat),D[n]? = some d→0<d→Bl L (A3 L) (A0 L n).lv.toNat n out=(out,d)):∀(n d:Nat),D[n]? = some d→0<d→Bl L (A3 L) (A0 L n).lv.toNat n (out++r)=(out++r,d):=by
 intro n d h1 h2
 have h3:=h n d h1 h2
 have:=Ir (L:=L) (E:=A3 L) (A0 L n).lv.toNat n out r
 rwa [h3]at this
theorem VI.le {L out:List Nd} {D:List Nat} (h:VI L out D):out.length≤L.length+1:=by
 have:=h.cnt
 have:=List.countP_le_length (p:=fun d:Nat=>decide (0<d)) (l:=D)
 have:=h.len
 omega
theorem insF_lv {L:List Nd} {E:List Bool} {v n:Nat} {out:List Nd} (he:E.getD n true=false) (hl:1<(A0 L n).lv):Bl L E (v+1) n out=B4 (BO (Bl L E v) (A0 L n) 4 out).1 (BO (Bl L E v) (A0 L n) 4 out).2:=by
 simp only [Bl,he,Vd,if_false,if_pos hl]
theorem insF_one {L:List Nd} {E:List Bool} {v n:Nat} {out:List Nd} (he:E.getD n true=false) (hl:¬1<(A0 L n).lv):Bl L E (v+1) n out=B4 out (A0 L n):=by
 simp only [Bl,he,Vd,if_false,if_neg hl]
theorem insK_lv (rec:Nat→List Nd→List Nd×Nat) (x:Nd):∀k out,(BO rec x k out).2.lv=x.lv
 | 0,out=>rfl
 | k+1,out=>by simp only [BO,TQ];exact insK_lv rec x k out
theorem insK_kid (rec:Nat→List Nd→List Nd×Nat) (x:Nd):∀k out j,k≤j→j<4→(BO rec x k out).2.kid j=x.kid j
 | 0,out,j,_,_=>rfl
 | k+1,out,j,h1,h2=>by
  simp only [BO]
  rw [EY _ _ (by omega) h2 (by omega)]
  exact insK_kid rec x k out j (by omega) h2
theorem TY {L:List Nd} (tk tk2:Tok) (b id:Nat) (hL:L.length<3518437208880) (hl:AE L=true):∀(v n d:Nat) (out:List Nd) (D:List Nat) (w:Ab) (H:Aa),n≤L.length→(n=0∨(A0 L n).lv.toNat=v)→v<d→b≤id→id<H.length→VS b id out D w H→VI L out D →
  ∃H' D' w',Sh.fo d (.sl (enL cNd L) tk) (.sl (enL cB (A3 L)) tk2) (.int .i64 (n:Int)) w (.ms id 0 0 (L.length+1) (L.length+1) 1 true) H=some (.ret (.tup [w',.ms id 0 0 (L.length+1) (L.length+1) 1 true,.int .i64 ((Bl L (A3 L) v n out).2:Int)]),H') ∧
   VS b id (Bl L (A3 L) v n out).1 D' w' H'∧Ext b id H H'∧VI L (Bl L (A3 L) v n out).1 D'∧∀j,n<j→D'[j]? = D[j]? := by
 intro v
 induction v with
 | zero=>
  intro n d out D w H hn hv hd hbi hid hVS hVI
  have hb:b≤H.length:=by omega
  obtain ⟨d,rfl⟩:∃e,d=e+1:=⟨d-1,by omega⟩
  have hn0:n=0:=by
   rcases hv with h | h
   ·exact h
   ·cases n with
    | zero=>rfl
    | succ m=>
     rw [Ba (show m<L.length from hn)]at h
     have:=(AJ hl (show m<L.length from hn)).1;omega
  subst hn0
  have hlt:0<(A3 L).length:=by rw [CK];omega
  have he:(A3 L)[0]=true:=by have:=DM L;rw [UZ,UU hlt]at this;exact this
  refine ⟨H,D,w,?_,hVS,Ext.refl _ _ _,hVI,fun _ _=>rfl⟩
  show Sh.f3c (Sh.fo d) _ _ _ _ _ _=_
  unfold Sh.f3c
  simp only [GMb,GMc,Al,Ah,AC,UY,Nat.add_zero,Vk,BS,Ay hlt,List.getElem?_cons_zero,he]
  rfl
 | succ v ih=>
  intro n d out D w H hn hv hd hbi hid hVS hVI
  have hb:b≤H.length:=by omega
  obtain ⟨d,rfl⟩:∃e,d=e+1:=⟨d-1,by omega⟩
  have hlt:n<(A3 L).length:=by rw [CK];omega
  have hgd:(A3 L).getD n true=(A3 L)[n]:=by rw [UZ,UU hlt];rfl
  have hDn:n<D.length:=by rw [hVI.len];omega
  have hidx:=CB (sz:=1) (id:=id) (n:=L.length+1) (K:=.i64) (g:=0) (off:=0) (cap:=L.length+1) (ex:=true) (i:=n) (by omega)
  simp only [UY,Vk]at hidx
  have hld:=HM (f:=cN) (AA hVS.hd) hDn
  show ∃H' D' w',Sh.f3c (Sh.fo d) _ _ _ _ _ _=_∧_
  unfold Sh.f3c
  simp only [GMb,GMc,Al,Ah,AC,UY,Nat.add_zero,Vk,BS,Ay hlt,List.getElem?_cons_zero]
  cases he:(A3 L)[n]with
  | true=>
   have e:Bl L (A3 L) (v+1) n out=(out,0):=by simp only [Bl,hgd,he,if_true]
   rw [e]
   exact ⟨H,D,w,by simp only [GMb,GMc];rfl,hVS,Ext.refl _ _ _,hVI,fun _ _=>rfl⟩
  | false=>
   rw [he]at hgd
   simp only [GMb,GMc,hidx,hld,List.getElem?_cons_zero]
   by_cases hpos:0<D[n]
   ·have hi:(D[n]:Int)>0:=by omega
    have hv':(A0 L n).lv.toNat=v+1:=by
     rcases hv with h | h
     ·exfalso;subst h;rw [DM]at hgd;cases hgd
     ·exact h
    have e:=hVI.val n D[n] (UU hDn) hpos
    rw [hv']at e
    rw [e]
    exact ⟨H,D,w,by simp only [GMb,GMc,hi],hVS,Ext.refl _ _ _,hVI,fun _ _=>rfl⟩
   ·have hi:¬(D[n]:Int)>0:=by omega
    have hD0:D[n]=0:=by omega
    obtain ⟨m,rfl⟩:∃m,n=m+1:=⟨n-1,by
     cases n with
     | zero=>rw [DM]at hgd;cases hgd
     | succ n=>rfl⟩
    have hm:m<L.length:=hn
    have hv':(A0 L ((m+1:Nat):Int)).lv.toNat=v+1:=by
     rcases hv with h | h
     ·omega
     ·exact h
    obtain ⟨l1,l2,l3⟩:=AJ hl hm
    have hx:A0 L ((m+1:Nat):Int)=L[m]:=Ba hm
    rw [hx]at hv'
    have hwm:IntKind.i64.wrap (((m+1:Nat):Int)-1)=(m:Int):=by rw [An] <;> omega
    simp only [GMb,GMc,hi,hwm,Ay hm,IR,OQ,Ju (Ap (B:=H) (cs:=cNd nd0)) rfl,Bh]
    generalize hX:L[m]=x at l1 l2 l3 hv' hx
    have hpid:H.length≠id:=by omega
    have loop:=Gi (G:=fun rec1 vs H1=>Sh.f66 H (Sh.fo d) rec1 (ag vs 0) (ag vs 1) (ag vs 2) (ag vs 3) (ag vs 4) (ag vs 5) (ag vs 6) H1) (if 1<x.lv then 4 else 0)
     (fun k vs Hc=>∃w' D',vs=[.sl (enL cNd L) tk,.sl (enL cB (A3 L)) tk2,.int .i64 ((m+1:Nat):Int),w',.ms id 0 0 (L.length+1) (L.length+1) 1 true,.ptr H.length 0 0,.int .i64 (k:Int)]∧VS b id (BO (Bl L (A3 L) v) x k out).1 D' w' Hc∧Hc[H.length]? = some (.cel 0 (cNd (BO (Bl L (A3 L) v) x k out).2))∧Ext b id H Hc∧VI L (BO (Bl L (A3 L) v) x k out).1 D'∧(∀j,m<j→D'[j]? = D[j]?))
     (by split <;> decide) (fun k vs Hc hk hI=>?_) (vs:=[.sl (enL cNd L) tk,.sl (enL cB (A3 L)) tk2,.int .i64 ((m+1:Nat):Int),w,.ms id 0 0 (L.length+1) (L.length+1) 1 true,.ptr H.length 0 0,.int .i64 0]) (H:=H++[.cel 0 (cNd x)]) ⟨w,D,rfl,hVS.snoc _,by simp [BO],Ext.snoc hb _,hVI,fun _ _=>rfl⟩
    ·obtain ⟨vs',Hc,⟨w',D',rfl,hVS',hcell,hExt,hVI',hDD⟩,rec,hloop⟩:=loop
     rw [hloop]
     unfold Sh.f66
     obtain ⟨tkk,rfl⟩:=hVS'.sl
     have hle:=hVI'.le
     have hstop:(AI (.bool (decide (((if 1<x.lv then 4 else 0:Nat):Int)<4))) (.bool (decide (x.lv>1))) (.bool false))=some (.bool false):=by
      by_cases h:1<x.lv <;> simp [h]
     have hlvI:(BO (Bl L (A3 L) v) x (if 1<x.lv then 4 else 0) out).2.lv=x.lv:=insK_lv _ _ _ _
     have hput:Bl L (A3 L) (v+1) (m+1) out=B4 (BO (Bl L (A3 L) v) x (if 1<x.lv then 4 else 0) out).1 (BO (Bl L (A3 L) v) x (if 1<x.lv then 4 else 0) out).2:=by
      by_cases h:1<x.lv
      ·rw [if_pos h,insF_lv hgd (by rw [hx];exact h),hx]
      ·rw [if_neg h,insF_one hgd (by rw [hx];exact h),hx];rfl
     have hpre:=Si (Sj (L:=L) (E:=A3 L) v) x (if 1<x.lv then 4 else 0) out
     rw [hput]
     have hagain:=Ir (L:=L) (E:=A3 L) (v+1) (m+1) out []
     rw [V3,hput]at hagain
     generalize (BO (Bl L (A3 L) v) x (if 1<x.lv then 4 else 0) out)=io at *
     obtain ⟨o,y⟩:=io
     dsimp only at hVS' hcell hVI' hlvI hpre hagain hle ⊢
     have hcond:∀(A B:Out),(gk (.bool (decide (((if 1<x.lv then 4 else 0:Nat):Int)<4))) true (Ad 0 (.ptr H.length 0 0)) fun x29=>gk (.bool (decide (((if 1<x.lv then 4 else 0:Nat):Int)<4))) true (Ac false 1 x29 Hc) fun x30=>gk (.bool (decide (((if 1<x.lv then 4 else 0:Nat):Int)<4))) true (Ae .none .gtr x30 (.int .i64 1)) fun x31=>(AI (.bool (decide (((if 1<x.lv then 4 else 0:Nat):Int)<4))) x31 (.bool false)).bind fun x32=>Aj x32 A B)=B:=by
      intro A B
      by_cases h:1<x.lv
      ·have hf:¬(((4:Nat):Int)<4):=by decide
       simp only [if_pos h,hf,GMb,GMc]
      ·have hf:(((0:Nat):Int)<4):=by decide
       have h':¬x.lv>1:=h
       simp only [if_neg h,hf,GMb,GMc,Ah,Nat.add_zero,Sb hcell,hlvI,h']
     simp only [Ak,Ai,Bm,B5]
     rw [hcond]
     have hidx':At 1 (.ms id 0 0 (L.length+1) (L.length+1) 1 true) (.int .i64 ((m+1:Nat):Int))=some (.ptr id 0 (m+1)):=hidx
     have hD'n:D'[m+1]? = some 0:=by rw [hDD (m+1) (by omega),UU hDn,hD0]
     have hDl:m+1<D'.length:=by rw [hVI'.len];omega
     have hD'e:D'[m+1]=0:=by rw [UU hDl]at hD'n;injection hD'n
     have fin:∀(o':List Nd) (i:Nat) (w2:Ab) (H2:Aa),B4 o y=(o',i)→VS b id o' D' w2 H2→Ext b id H H2→VI L o D'→o'.length≤o.length+1→(∃r,o'=o++r) →
       ∃H' D'' w'',Sh.f7e H (.int .i64 ((m+1:Nat):Int)) w2 (.ms id 0 0 (L.length+1) (L.length+1) 1 true) (.int .i64 (i:Int)) H2=some (.ret (.tup [w'',.ms id 0 0 (L.length+1) (L.length+1) 1 true,.int .i64 (i:Int)]),H')∧VS b id o' D'' w'' H'∧Ext b id H H'∧VI L o' D''∧∀j,m+1<j→D''[j]? = D[j]? := by
      intro o' i w2 H2 hp hV2 hE2 hI2 hlen ⟨r,hr⟩
      have hi0:0<i:=by have:=L7 o y;rw [hp]at this;exact this
      have hst:=DG (f:=cN) (sz:=1) (l:=D') (i:=m+1) (a:=i) (v:=.int .i64 (i:Int)) (AA hV2.hd) hDl rfl
      rw [B9 hV2.hd,Vk]at hst
      have hidl:=(UV.1 hV2.hd).1
      refine ⟨H2.set id (.cel 0 (flat cN (D'.set (m+1) i))),D'.set (m+1) i,w2,by unfold Sh.f7e;simp only [GMb,GMc,hidx',hst],⟨?_,by simp [hidl]⟩,⟨by simp;exact hE2.len,fun j cs hj hc=>?_,fun j hj=>?_⟩,⟨by simp [hI2.len],?_,?_⟩,fun j hj=>?_⟩
      ·rcases hV2.hv with h1 | ⟨t,h1,h2,h3⟩
       ·exact .inl h1
       ·refine .inr ⟨t,h1,h2,?_⟩
        have:id≠t:=fun e=>by have:=hV2.hd;rw [e,h3]at this;cases this
        rw [UX this];exact h3
      ·rw [UX (fun e=>hj e.symm)];exact hE2.cel j cs hj hc
      ·rw [UX (by omega)];exact hE2.old j hj
      ·rw [List.countP_set hDl]
       have:=hI2.cnt
       simp only [hD'e,hi0,decide_true,if_true,Nat.lt_irrefl,decide_false,Vd,if_false,Nat.sub_zero]
       omega
      ·intro j dd hj hdd
       by_cases hjm:j=m+1
       ·subst hjm
        rw [Vj hDl]at hj
        injection hj with hj
        subst hj
        rw [hx,hv']
        rw [hp]at hagain
        exact hagain
       ·rw [UX (fun e=>hjm e.symm)]at hj
        rw [hr]
        exact VI.grow hI2.val j dd hj hdd
      ·rw [UX (by omega)];exact hDD j (by omega)
     have hnd:=q06_find o tkk y Hc (by omega)
     simp only [GMb,GMc,Hk hcell,hnd]
     by_cases hf:Ch o y=0
     ·have hp:B4 o y=(o++[y],o.length+1):=by simp [B4,hf]
      obtain ⟨w2,H2,ha,hV2,hE2⟩:=hVS'.app (Vw hb hExt.len) y (by omega)
      obtain ⟨tk3,rfl⟩:=hV2.sl
      have h0:((Ch o y:Nat):Int)=0:=by omega
      obtain ⟨H',D'',w'',q1,q2,q3,q4,q5⟩:=fin (o++[y]) (o.length+1) _ H2 hp hV2 (hExt.trans hE2) hVI' (by simp) ⟨[y],rfl⟩
      refine ⟨H',D'',w'',?_,by rw [hp];exact q2,q3,by rw [hp];exact q4,q5⟩
      rw [hp,←q1]
      simp only [GMb,GMc,h0,JN,ha,Au,Vc,List.length_singleton]
     ·have hp:B4 o y=(o,Ch o y):=by simp [B4,hf]
      have h0:¬((Ch o y:Nat):Int)=0:=by omega
      obtain ⟨H',D'',w'',q1,q2,q3,q4,q5⟩:=fin o (Ch o y) _ Hc hp hVS' hExt hVI' (by omega) ⟨[],by simp⟩
      refine ⟨H',D'',w'',?_,by rw [hp];exact q2,q3,by rw [hp];exact q4,q5⟩
      rw [hp,←q1]
      simp only [GMb,GMc,h0]
    ·obtain ⟨w',D',rfl,hVS',hcell,hExt,hVI',hDD⟩:=hI
     have hlv:1<x.lv:=by
      by_cases h:1<x.lv
      ·exact h
      ·rw [if_neg h]at hk;omega
     rw [if_pos hlv]at hk
     obtain ⟨q1,q2,q3⟩:=l3 k hk
     have hk':(k:Int)<4:=by omega
     have hlvI:=insK_lv (Bl L (A3 L) v) x k out
     have hkid:=insK_kid (Bl L (A3 L) v) x k out k (Va _) hk
     obtain ⟨c,hc⟩:=VP q1
     have hcle:c≤m:=by
      by_cases h0:0<x.kid k
      ·have:=(q3 hlv h0).1;omega
      ·omega
     have hclv:c=0∨(A0 L (c:Int)).lv.toNat=v:=by
      by_cases h0:0<x.kid k
      ·right
       obtain ⟨c',rfl⟩:∃c',c=c'+1:=⟨c-1,by omega⟩
       have hcl:c'<L.length:=by omega
       have:=(q3 hlv h0).2 L[c'] (by rw [show (x.kid k-1).toNat=c' from by omega];exact UU hcl)
       rw [Ba hcl];omega
      ·left;omega
     obtain ⟨H1,D1,w1,r1,r2,r3,r4,r5⟩:=ih c d (BO (Bl L (A3 L) v) x k out).1 D' w' Hc (by omega) hclv (by omega) hbi (VR hid hExt.len) hVS' hVI'
     have hcell1:=r3.cel _ _ hpid hcell
     have hto:(x.kid k).toNat=c:=by omega
     refine ⟨[.sl (enL cNd L) tk,.sl (enL cB (A3 L)) tk2,.int .i64 ((m+1:Nat):Int),w1,.ms id 0 0 (L.length+1) (L.length+1) 1 true,.ptr H.length 0 0,.int .i64 ((k+1:Nat):Int)],H1.set H.length (.cel 0 (cNd ((BO (Bl L (A3 L) v) x k out).2.setKid k ((Bl L (A3 L) v c (BO (Bl L (A3 L) v) x k out).1).2:Int)))),⟨w1,D1,rfl,?_,?_,?_,?_,?_⟩,fun rec=>?_⟩
     rotate_left 5
     ·unfold Sh.f66
      simp only [Ak,Ai,GMb,GMc,hk',Ah,Nat.add_zero,UY,Sb hcell,hlvI,show x.lv>1 from hlv,Hl hk,Uo hcell hk,hkid,hc,r1,B3,BB,extract_2,EC hcell1 hk,Aw (show k<9223372036854775807 by omega)]
     ·simp only [BO,hto]
      exact r2.put hcell1 hpid
     ·have hl1:=(UV.1 hcell1).1
      simp only [BO,hto]
      rw [Vj hl1]
     ·refine ⟨by simp;exact (hExt.trans r3).len,fun i cs hi hcs=>?_,fun i hi=>?_⟩
      ·have:=(UV.1 hcs).1
       rw [UX (by omega)];exact (hExt.trans r3).cel i cs hi hcs
      ·rw [UX (by omega)];exact (hExt.trans r3).old i hi
     ·simp only [BO,hto];exact r4
     ·intro j hj;rw [r5 j (by omega)];exact hDD j hj
theorem C8 {H H0:Aa} (h:∀i,i<H0.length→H[i]? = H0[i]?):H.take H0.length=H0:=by
 apply W6
 intro i
 by_cases hi:i<H0.length
 ·rw [VU hi,h i hi]
 ·rw [Vl (by simp;omega),Vl (by omega)]
theorem R0:∀(f:Nat) (L:List Nd) (n:Nat),AE L=true→n≤L.length→AE (BI f L n).1=true∧(BI f L n).2≤(BI f L n).1.length∧(BI f L n).1.length≤L.length+f
 | 0,L,n,hl,hn=>⟨hl,hn,Va _⟩
 | f+1,L,n,hl,hn=>by
  unfold BI
  cases hh:Du L n with
  | false=>exact ⟨hl,hn,by show L.length≤_;omega⟩
  | true=>
   obtain ⟨h0,h2⟩:=MM hh
   obtain ⟨m,rfl⟩:∃m,n=m+1:=⟨n-1,by omega⟩
   rw [Ba hn]at h2
   obtain ⟨r1,r2,r3⟩:=R0 f (L++[BW L (m+1)]) (L.length+1) (MK hl hn h2) (by simp)
   simp only [if_true]
   refine ⟨r1,r2,?_⟩
   simp at r3;omega
theorem O8 {L:List Nd} {n:Nat} (h:(A3 L).getD n true=false):0<n:=by
 cases n with
 | zero=>rw [DM]at h;cases h
 | succ n=>omega
theorem Oh {L:List Nd} (hl:AE L=true) {n:Nat} (h0:0<n) (hn:n≤L.length):(A0 L (n:Int)).lv.toNat≤1329:=by
 obtain ⟨m,rfl⟩:∃m,n=m+1:=⟨n-1,by omega⟩
 rw [Ba hn]
 have:=(AJ hl hn).2.1;omega
theorem OW {L:List Nd} {n:Nat} (hl:AE L=true) (hn:n≤L.length):AE (D6 L n).1=true∧(D6 L n).2≤(D6 L n).1.length∧(D6 L n).1.length≤L.length+1329:=by
 unfold D6
 cases he:(A3 L).getD n true with
 | true=>exact ⟨hl,Vy _,by show L.length≤_;omega⟩
 | false=>
  obtain ⟨r1,r2,r3⟩:=R0 (A0 L n).lv.toNat L n hl hn
  have:=Oh hl (O8 he) hn
  simp only [Vd,if_false]
  exact ⟨r1,r2,by omega⟩
def I5 (L:List Nd) (n:Nat):List Nd:=(Bl (D6 L n).1 (A3 (D6 L n).1) (A0 (D6 L n).1 ((D6 L n).2:Int)).lv.toNat (D6 L n).2 []).1
def RO (L:List Nd) (n:Int):Bool:=AE L&&decide (0≤n)&&decide (n≤L.length)
theorem q06_of (L:List Nd) (tk:Tok) (n:Int) (H:Aa) (hL:L.length<3518437200000):Sh.f67 (.sl (enL cNd L) tk) (.int .i64 n) H =
  some (.ret (if RO L n then .tup [CP (I5 L n.toNat),.int .i64 0]else .tup [CP [],.int .i64 1]),H):=by
 unfold Sh.f67
 rw [alloc_eq (cs:=[.sl [] .tight]) rfl]
 have hcell:∀G:Aa,(H++[Blk.cel 0 [.sl [] .tight]]++G)[H.length]? = some (.cel 0 [.sl [] .tight]):=fun G=>by simp
 have bad:∀(k:Ab→Aa→Out),(∀v G,k v G=(Fy [Ac true 1 (.ptr H.length 0 0) G,some (.int .i64 1)]).bind fun x19=>rPN H x19 G) →
   ((AD (some [(.sl [] .tight)]) []).bind fun x16=>bP H (AF (Ag 1 (.ptr H.length 0 0) x16 (H++[.cel 0 [.sl [] .tight]]))) k)=some (.ret (.tup [CP [],.int .i64 1]),H):=by
  intro k hk
  have hb:AD (some [(.sl [] .tight)]) []=some (.agg [.sl [] .tight]):=rfl
  simp only [GMb,GMc,hb,JU,M4 (sz:=1) (cs:=[.sl [] .tight]) (vs:=[.sl [] .tight]) (v:=.agg [.sl [] .tight]) rfl rfl rfl,Option.map_some,hk,Ic,RZ,List.length_singleton,IJ,FS,Hf]
  simp only [Cf,CQ,BN,Cd,FU,DU,EN,Ho,Fe,GMb,GMc,Option.map_some]
  rfl
 simp only [GMb,GMc,TZ L tk _ (show L.length<1152921504606846976 by omega)]
 unfold RO
 cases hl:AE L with
 | false=>
  simp only [GMb,GMc]
  exact bad _ fun v G=>rfl
 | true=>
  simp only [GMb,GMc,Au]
  by_cases hn0:n<0
  ·have:¬0≤n:=by omega
   simp only [GMb,GMc,hn0,this]
   exact bad _ fun v G=>rfl
  ·have h0':0≤n:=by omega
   by_cases hn1:n>L.length
   ·have:¬n≤L.length:=by omega
    simp only [GMb,GMc,hn0,h0',hn1,this,Au]
    exact bad _ fun v G=>rfl
   ·obtain ⟨n,rfl⟩:=VP h0'
    have hle:n≤L.length:=by omega
    have hle':(n:Int)≤(L.length:Int):=by omega
    have hnn:¬(n:Int)>(L.length:Int):=hn1
    obtain ⟨s1,s2,s3⟩:=OW hl hle
    simp only [GMb,GMc,hn0,h0',hnn,hle',Au,q06_shrink L tk n _ (show L.length<3518437200000 by omega) hl hle,B3,BB]
    unfold I5
    simp only [Int.toNat_natCast]
    generalize D6 L n=s at s1 s2 s3
    obtain ⟨M,r⟩:=s
    dsimp only at s1 s2 s3 ⊢
    have hmk:=Fa (f:=cN) (a:=0) (n:=M.length+1) (bytes:=8) (H:=H++[.cel 0 [.sl [] .tight]]) (by omega) (by omega)
    simp only [show cN 0=[Ab.int .i64 0] from rfl]at hmk
    simp only [GMb,GMc,IK M .no _ (show M.length<140737488355327 by omega) s1,Au,Aw (show M.length<9223372036854775807 by omega),hmk]
    have hlvv:(A0 M (r:Int)).lv.toNat<AQ:=by
     rw [Dv]
     by_cases hr:0<r
     ·have:=Oh s1 hr s2;omega
     ·obtain rfl:r=0:=by omega
      unfold A0
      rw [UZ]
      by_cases hM:0<M.length
      ·rw [show (((0:Nat):Int)-1).toNat=0 from rfl,UU hM]
       have:=(AJ s1 hM).2.1
       simp only [Option.getD_some];omega
      ·rw [show (((0:Nat):Int)-1).toNat=0 from rfl,Vl (by omega)];simp
    obtain ⟨H',D',w',v1,v2,v3,v4,v5⟩:=TY (L:=M) .no .no (H++[Blk.cel 0 [.sl [] .tight]]).length (H++[Blk.cel 0 [.sl [] .tight]]).length (by omega) s1 (A0 M (r:Int)).lv.toNat r AQ [] (List.replicate (M.length+1) 0) (.sl [] .tight) (H++[.cel 0 [.sl [] .tight]]++[.cel 0 (flat cN (List.replicate (M.length+1) 0))])
     s2 (.inr rfl) hlvv (Va _) (by simp) ⟨.inl ⟨rfl,rfl⟩,Ap⟩ ⟨by simp,by simp,fun j dd hj hdd=>by
      have:=Vz hj
      rw [Xd]at this;omega⟩
    have hold:∀i,i<H.length+1→H'[i]? = (H++[Blk.cel 0 [.sl [] .tight]])[i]? := fun i hi=>by
     rw [v3.old i (by simpa using hi),UW (by simpa using hi)]
    have hc':H'[H.length]? = some (.cel 0 [.sl [] .tight]):=by rw [hold _ (by omega)];simp
    have hcl:=(UV.1 hc').1
    obtain ⟨tk3,rfl⟩:=v2.sl
    generalize (Bl M (A3 M) (A0 M (r:Int)).lv.toNat r []).1=Q at v1 v2 v4 ⊢
    have hb:AD (some [(.sl [] .tight)]) [(0,1,.sl (enL cNd Q) tk3)]=some (.agg [.sl (enL cNd Q) tk3]):=by simp [AD,FV,Dp]
    have hst:Ag 1 (.ptr H.length 0 0) (.agg [.sl (enL cNd Q) tk3]) H'=some (H'.set H.length (.cel 0 [.sl (enL cNd Q) tk3])):=by
     simp only [Ag,AA hc',Option.bind_some,B9 hc'];rfl
    have hld:Ac true 1 (.ptr H.length 0 0) (H'.set H.length (.cel 0 [.sl (enL cNd Q) tk3]))=some (.agg [.sl (enL cNd Q) tk3]):=by
     have:(H'.set H.length (.cel 0 [.sl (enL cNd Q) tk3]))[H.length]? = some (.cel 0 [.sl (enL cNd Q) tk3]):=by rw [Vj hcl]
     simp only [Ac,AA this,Option.bind_some];rfl
    have htake:(H'.set H.length (.cel 0 [.sl (enL cNd Q) tk3])).take H.length=H:=C8 fun i hi=>by
     rw [UX (by omega),hold i (by omega),UW hi]
    simp only [GMb,GMc,v1,B3,hb,hst,hld,IJ,FS,Hf,Option.map_some,GI htake,CQ,BN,Cd,FU,DU,EN,Ho,Fe]
    rfl
theorem q01_cut (l:List Bool) (tk:Tok) (H:Aa) (hb:l.length<1152921504606846976):Sh.f1t (.sl (enL cB l) tk) H=some (.ret (.sl (enL cB (Dl l)) .no),H):=by
 unfold Sh.f1t
 refine Br (σ:=List Bool×Tok) (fun s=>s.1.length<1152921504606846976) (fun s=>[.sl (enL cB s.1) s.2]) (fun _=>H) (fun s=>s.1.length) (fun s=>some (.ret (.sl (enL cB (Dl s.1)) .no),H)) (fun s rec hs hrec=>?_) (l,tk) hb hb
 obtain ⟨l,tk⟩:=s
 simp only at hs hrec ⊢
 unfold Sh.f59
 rcases FI l with rfl | ⟨l',b,rfl⟩
 ·simp [cutL_nil]
 ·simp only [Vc,List.length_singleton]at hs hrec
  have h1:l'.length<(l'++[b]).length:=by simp
  have h2:((((l'++[b]).length:Nat):Int)>0):=by simp
  have h3:IntKind.i64.wrap ((((l'++[b]).length:Nat):Int)-1)=(l'.length:Int):=by rw [An] <;> simp <;> omega
  simp only [Ak,Au,Option.bind_some,D4,h2,decide_true,IY,DE,h3,Ay h1,AC,List.getElem?_cons_zero,Je,C0,Wd (Va _),V9,List.getElem_cons_zero]
  cases b with
  | true=>simp [PK]
  | false=>
   have:=hrec (l',Fu tk 0 l'.length (l'++[false]).length false) (by dsimp only;omega) (by simp)
   simp only [Wg,AZ,slice_to (X4 h1),Option.bind_some,List.take_left',this,NE]
theorem q01_at (l:List Bool) (tk:Tok) (i:Int) (H:Aa):Sh.f6 (.sl (enL cB l) tk) (.int .i64 i) H=some (.ret (.bool (decide (0≤i)&&l.getD i.toNat false)),H):=by
 unfold Sh.f6
 by_cases h0:0≤i
 ·obtain ⟨n,rfl⟩:=VP h0
  by_cases h1:n<l.length
  ·have h2:(n:Int)<(l.length:Int):=by omega
   simp [h2,Ay h1,UZ,UU h1]
  ·have h2:¬(n:Int)<(l.length:Int):=by omega
   simp [h2,UZ,Vl (Nat.le_of_not_lt h1)]
 ·simp [h0]
theorem Hj (l:List Nat) (tk:Tok) (H:Aa) (hl:l.length≤2199023255552) (hx:Lim l):Sh.f4 (.sl (enL cU l) tk) H=some (.ret (.sl (enL cB (Dl (AS l))) .no),H):=by
 unfold Sh.f4
 refine Cg l.length (fun i=>[.sl (enL cU l) tk,DZ cB H (AS (l.take i)),.int .i64 (i:Int)]) (fun i=>DR cB BT 1 H (AS (l.take i))) _ (by omega) (fun rec i hi=>?_) (fun rec=>?_)
 ·have hi':(i:Int)<(l.length:Int):=by omega
  have hxi:l[i]<4294967296:=hx _ (Vi hi)
  have htk:AS (l.take (i+1))=AS (l.take i)++Dm 32 l[i]:=by
   rw [Vf hi,AS,WL];simp [AS]
  have hlen:(AS (l.take i)).length≤32*2199023255552:=by rw [Cj];simp;omega
  unfold Sh.f2x
  simp only [Ak,Bc,Bg,Au,Option.bind_some,Bm,hi',decide_true,AZ,Ay hi,AC,List.getElem?_cons_zero,htk]
  generalize AS (l.take i)=o at hlen
  generalize l[i]=x at hxi
  refine Br (σ:=Nat×Nat×List Bool) (fun s=>s.1≤32∧s.2.1<4294967296∧s.2.2.length≤o.length+s.1) (fun s=>[.sl (enL cU l) tk,DZ cB H s.2.2,.int .i64 (i:Int),.int .u32 (s.2.1:Int),.int .i64 (s.1:Int)]) (fun s=>DR cB BT 1 H s.2.2) (fun s=>32-s.1)
   (fun s=>rec [.sl (enL cU l) tk,DZ cB H (s.2.2++Dm (32-s.1) s.2.1),.int .i64 ((i+1:Nat):Int)] (DR cB BT 1 H (s.2.2++Dm (32-s.1) s.2.1))) (fun s rec2 hs hrec=>?_) (0,x,o) ⟨by dsimp only;omega,hxi,by dsimp only;omega⟩ (by dsimp only;omega)
  obtain ⟨k,y,p⟩:=s
  obtain ⟨hk,hy,hp⟩:=hs
  simp only at hk hy hp hrec ⊢
  unfold Sh.f75
  by_cases h:k<32
  ·have h':(k:Int)<32:=by omega
   have e1:(y:Int).tmod 2=((y%2:Nat):Int):=rfl
   have e2:IntKind.u32.wrap ((y:Int).tdiv 2)=((y / 2:Nat):Int):=by rw [show (y:Int).tdiv 2=((y / 2:Nat):Int) from rfl,CY] <;> omega
   have e3:(((y%2:Nat):Int) == 1)=(y%2 == 1):=by rw [Vr];simp only [beq_iff_eq];omega
   have e4:IntKind.i64.wrap ((k:Int)+1)=((k+1:Nat):Int):=by rw [An] <;> omega
   have:=hrec (k+1,y / 2,p++[y%2 == 1]) ⟨h,by dsimp only;omega,by simp;omega⟩ (by dsimp only;omega)
   simp only [Ak,Bc,Bg,Bw,BG,Bm,h',decide_true,Option.bind_some,AZ,HT (show (2:Int)≠0 by decide),Rn (show (2:Int)≠0 by decide),e1,e2,DF,e3,Rm]
   rw [EV (by simp) (by simp;omega) (by simp;omega)]
   simp only [Da,CC,Cu,Option.bind_some,e4,this]
   rw [show 32-k=(32-(k+1))+1 from by omega,Dm];simp
  ·have:k=32:=by omega
   subst this
   have e4:IntKind.i64.wrap ((i:Int)+1)=((i+1:Nat):Int):=by rw [An] <;> omega
   simp [Dm,e4]
 ·unfold Sh.f2x
  obtain ⟨G,hG⟩:=GZ (f:=cB) (ty:=BT) (sz:=1) H (AS l)
  rw [Vg (Va _)]
  simp only [Ak,Bc,Bg,Gh,hG,Au,Option.bind_some,Bm,VV,decide_false,AP,q01_cut (AS l) _ _ (by rw [Cj];omega),CC,Cf,FC,Option.map_some]
theorem RB (l:List Bool) (tk:Tok) (H:Aa) (hl:l.length≤70368744177664):Sh.fl (.sl (enL cB l) tk) H=some (.ret (.sl (enL cU (A7 (Bo l))) .no),H):=by
 unfold Sh.fl
 have hcl:=HR l
 rw [q01_cut l tk H (by omega),←limbsOf_eq,Km]
 simp only [CC]
 generalize Dl l=c at hcl
 obtain ⟨n,hn⟩:∃n,n=(c.length+31) / 32:=⟨_,rfl⟩
 rw [←hn]
 refine Cg n (fun q=>[.sl (enL cB c) .no,DZ cU H (Ee c q),.int .i64 ((32*q:Nat):Int)]) (fun q=>DR cU BX 1 H (Ee c q)) _ (by omega) (fun rec q hq=>?_) (fun rec=>?_)
 ·have hq':((32*q:Nat):Int)<(c.length:Int):=by omega
  unfold Sh.f5a
  simp only [Ak,Bc,Bg,Au,Option.bind_some,Bm,hq',decide_true,AZ]
  have hlo:(Ee c q).length=q:=LJ c q
  rw [Kl]
  generalize Ee c q=o at hlo
  refine Br (σ:=Nat) (fun j=>j≤min 32 (c.length-32*q)) (fun j=>[.sl (enL cB c) .no,DZ cU H o,.int .i64 ((32*q:Nat):Int),.int .u32 ((Bo ((c.drop (32*q)).take j):Nat):Int),.int .u32 (IntKind.u32.wrap ((2:Int)^j)),.int .i64 ((32*q+j:Nat):Int)]) (fun _=>DR cU BX 1 H o) (fun j=>32-j)
   (fun _=>rec [.sl (enL cB c) .no,DZ cU H (o++[Gl c q]),.int .i64 ((32*(q+1):Nat):Int)] (DR cU BX 1 H (o++[Gl c q]))) (fun j rec2 hj hrec=>?_) 0 (by omega) (by omega)
  unfold Sh.f7o
  have hw:IntKind.i64.wrap (((32*q:Nat):Int)+32)=((32*(q+1):Nat):Int):=by rw [An] <;> omega
  by_cases h:j<min 32 (c.length-32*q)
  ·have h1:((32*q+j:Nat):Int)<(c.length:Int):=by omega
   have h1':32*q+j<c.length:=by omega
   have h2:((32*q+j:Nat):Int)<((32*(q+1):Nat):Int):=by omega
   have hw2:IntKind.i64.wrap (((32*q+j:Nat):Int)+1)=((32*q+(j+1):Nat):Int):=by rw [An] <;> omega
   have htake:(c.drop (32*q)).take (j+1)=(c.drop (32*q)).take j++[c[32*q+j]]:=by
    rw [Vf (by simp;omega)];simp
   have hlen:((c.drop (32*q)).take j).length=j:=by simp;omega
   have hnat:Bo ((c.drop (32*q)).take (j+1))=Bo ((c.drop (32*q)).take j)+(if c[32*q+j]then 2^j else 0):=by
    rw [htake,Dr,hlen];simp only [Bo];split <;> simp
   have hlt1:=Kg ((c.drop (32*q)).take j)
   rw [hlen]at hlt1
   have hp:(2:Nat)^j*2≤2^32:=by rw [←Nat.pow_succ];exact V6 (by omega) (by omega)
   have hpw:IntKind.u32.wrap ((2:Int)^j)=((2^j:Nat):Int):=by
    rw [show ((2:Int)^j)=((2^j:Nat):Int) from by simp,CY] <;> omega
   have hadd:IntKind.u32.wrap (((Bo ((c.drop (32*q)).take j):Nat):Int)+((2^j:Nat):Int))=((Bo ((c.drop (32*q)).take j)+2^j:Nat):Int):=by rw [CY] <;> omega
   have hmul:IntKind.u32.wrap (((2^j:Nat):Int)*2)=IntKind.u32.wrap ((2:Int)^(j+1)):=by rw [WS];simp
   have:=hrec (j+1) (by omega) (by omega)
   rw [hnat]at this
   simp only [Ak,Bc,Bg,Bw,BG,D5,Au,Option.bind_some,Bm,h1,decide_true,IY,Cu,hw,h2,C0,AZ,AN,Ay h1',AC,List.getElem?_cons_zero,hpw]
   cases hb:c[32*q+j]with
   | true=>
    rw [hb]at this
    simp only [AZ,Cu,hadd,Option.bind_some,Ak,Bc,Bg,Bw,BG,D5,Sh.f76,Jd,hmul,hw2]
    simpa using this
   | false=>
    rw [hb]at this
    simp only [AP,Ak,Bc,Bg,Bw,BG,D5,Sh.f76,Jd,Cu,hmul,hw2,Option.bind_some]
    simpa using this
  ·have hj':j=min 32 (c.length-32*q):=by omega
   have hx:Bo ((c.drop (32*q)).take j)=Gl c q:=by
    unfold Gl
    by_cases h:j=32
    ·rw [h]
    ·rw [Vg (by simp;omega),Vg (by simp;omega)]
   have tail:((AY 1 [.int .u32 ((Gl c q:Nat):Int)]).bind fun x40=>bP H (BZ (AW BX 1 4 (DZ cU H o) x40 (DR cU BX 1 H o))) fun x41 H42=>(Ae .none .add (.int .i64 ((32*q:Nat):Int)) (.int .i64 32)).bind fun x43=>rec [.sl (enL cB c) .no,x41,x43] H42)
     = rec [.sl (enL cB c) .no,DZ cU H (o++[Gl c q]),.int .i64 ((32*(q+1):Nat):Int)] (DR cU BX 1 H (o++[Gl c q])):=by
    rw [build_U]
    simp only [Option.bind_some]
    rw [EV (by simp) (by simp;omega) (by simp;omega)]
    simp only [Da,CC,Cu,Option.bind_some,hw]
   rw [hx]
   by_cases h1:((32*q+j:Nat):Int)<(c.length:Int)
   ·have h2:¬((32*q+j:Nat):Int)<((32*(q+1):Nat):Int):=by omega
    simp only [Ak,Bc,Bg,Bw,BG,D5,Au,Option.bind_some,Bm,h1,decide_true,IY,Cu,hw,h2,decide_false,C0,AP]
    simpa only [Cu,hw,Option.bind_some]using tail
   ·simp only [Ak,Bc,Bg,Bw,BG,D5,Au,Option.bind_some,Bm,h1,decide_false,Qs,Cr,AP]
    exact tail
 ·have hq':¬((32*n:Nat):Int)<(c.length:Int):=by omega
  obtain ⟨G,hG⟩:=GZ (f:=cU) (ty:=BX) (sz:=1) H (Ee c n)
  unfold Sh.f5a
  simp only [Ak,Bc,Bg,Gh,hG,Au,Option.bind_some,Bm,hq',decide_false,AP,Cf,FC,Option.map_some]
theorem q01_norm (l:List Nat) (tk:Tok) (H:Aa) (hl:l.length≤1099511627776) (hx:Lim l):Sh.f19 (.sl (enL cU l) tk) H=some (.ret (.sl (enL cU (A7 (val l))) .no),H):=by
 have hc:=HR (AS l)
 rw [Cj]at hc
 unfold Sh.f19
 rw [Hj l tk H (by omega) hx]
 simp only [EU]
 rw [RB _ _ _ (by omega)]
 simp only [EU,DY,U7,Eu,E9 l hx]
theorem q01_right (l:List Nat) (tk:Tok) (H:Aa) (hl:l.length≤1099511627776):Sh.f5x (.sl (enL cU l) tk) H=some (.ret (.bool (FJ l)),H):=by
 unfold Sh.f5x
 rcases FI l with rfl | ⟨l',x,rfl⟩
 ·simp [FJ]
 ·simp only [Vc,List.length_singleton]at hl
  have h1:l'.length<(l'++[x]).length:=by simp
  have h3:IntKind.i64.wrap ((((l'++[x]).length:Nat):Int)-1)=(l'.length:Int):=by rw [An] <;> simp <;> omega
  have hne:((((l'++[x]).length:Nat):Int) == 0)=false:=by simp;omega
  have hb:((x:Int) != 0)=(x != 0):=by rw [Vr];simp
  simp only [Au,Option.bind_some,DF,hne,LP,DE,h3,Ay h1,AC,List.getElem?_cons_zero,Wd (Va _),V9,List.getElem_cons_zero,HU,Cr,No,hb]
  simp [FJ]
theorem q01_cmp (a b:List Nat) (ta tb:Tok) (H:Aa) (ha:a.length≤1099511627776) (hb:b.length≤1099511627776) (la:Lim a) (lb:Lim b) :
  Sh.f5e (.sl (enL cU a) ta) (.sl (enL cU b) tb) H=some (.ret (.int .i64 (cmpI (val a) (val b))),H):=by
 have c1:=HR (AS a)
 have c2:=HR (AS b)
 rw [Cj]at c1 c2
 unfold Sh.f5e
 rw [Hj a ta H (by omega) la]
 simp only [EU,Hj b tb H (by omega) lb,Au,Option.bind_some,max_int]
 have hx:Bo (Dl (AS a))=val a:=by rw [Eu,E9 a la]
 have hy:Bo (Dl (AS b))=val b:=by rw [Eu,E9 b lb]
 rw [←hx,←hy]
 generalize Dl (AS a)=x at c1 ⊢
 generalize Dl (AS b)=y at c2 ⊢
 have hw:IntKind.i64.wrap (max (x.length:Int) (y.length:Int)-1)=((max x.length y.length:Nat):Int)-1:=by rw [An] <;> omega
 simp only [DE,hw,Option.bind_some]
 have z:∀(c:List Bool) (m:Nat),c.length≤m→Bo c / 2^m=0:=fun c m h=>Wx (VR (Kg c) (V6 (by omega) h))
 refine Br (σ:=Nat) (fun i=>i<9223372036854775807∧(Bo x) / 2^i=(Bo y) / 2^i) (fun i=>[.sl (enL cB x) .no,.sl (enL cB y) .no,.int .i64 ((i:Int)-1)]) (fun _=>H) (fun i=>i) (fun _=>some (.ret (.int .i64 (cmpI (Bo x) (Bo y))),H)) (fun i rec hi hrec=>?_) (max x.length y.length) ⟨by omega,by rw [z _ _ (by omega),z _ _ (by omega)]⟩ (by omega)
 obtain ⟨hi,he⟩:=hi
 unfold Sh.f7t
 cases i with
 | zero=>
  have e:Bo x=Bo y:=by simpa using he
  simp [e,cmpI]
 | succ i=>
  have hi0:(((i+1:Nat):Int)-1)=(i:Int):=by omega
  have hge:(i:Int)≥0:=by omega
  have hw:IntKind.i64.wrap ((i:Int)-1)=(i:Int)-1:=by rw [An] <;> omega
  have ax:∀(c:List Bool) (H:Aa),Sh.f6 (.sl (enL cB c) .no) (.int .i64 (i:Int)) H=some (.ret (.bool ((Bo c).testBit i)),H):=fun c H=>by rw [q01_at,Int.toNat_natCast,nat1_bit];simp
  have tb:∀m:Nat,m.testBit i=decide (m / 2^i%2=1):=fun m=>WH
  have hs:∀m:Nat,m / 2^(i+1)=m / 2^i / 2:=fun m=>by rw [Nat.pow_succ,Nat.div_div_eq_div_mul]
  rw [hs,hs]at he
  have mono:∀p q:Nat,p≤q→p / 2^i≤q / 2^i:=fun p q h=>Nat.div_le_div_right h
  simp only [Ak,Bc,Bg,hi0,KM,hge,decide_true,Option.bind_some,AZ,ax,EU,bne_bool]
  by_cases heq:(Bo x) / 2^i=(Bo y) / 2^i
  ·have hbit:(Bo x).testBit i=(Bo y).testBit i:=by rw [tb,tb,heq]
   simp only [hbit,bne_self_eq_false,AP,DE,hw,Option.bind_some]
   exact hrec i ⟨by omega,heq⟩ (by omega)
  ·have m1:=mono (Bo x) (Bo y)
   have m2:=mono (Bo y) (Bo x)
   rcases X8 (Bo x / 2^i)with h1 | h1 <;> rcases X8 (Bo y / 2^i)with h2 | h2
   ·omega
   ·have hlt:Bo x<Bo y:=by
     rcases VH (Bo x) (Bo y)with h | h
     ·exact h
     ·have:=m2 h;omega
    simp [tb,h1,h2,cmpI,hlt]
   ·have hlt:Bo y<Bo x:=by
     rcases VH (Bo y) (Bo x)with h | h
     ·exact h
     ·have:=m1 h;omega
    have hn:¬Bo x<Bo y:=by omega
    simp [tb,h1,h2,cmpI,hlt,hn]
   ·omega
theorem Od (m:List Bool) (i:Nat):Bo m%2^(i+1)=Bo m%2^i+2^i*bn (m.getD i false):=by
 rw [nat1_bit,WH,Nat.pow_succ,Nat.mod_mul]
 congr 2
 rcases X8 (Bo m / 2^i)with h | h <;> simp [h,bn]
theorem q01_add (a b:List Nat) (ta tb:Tok) (H:Aa) (ha:a.length≤1099511627776) (hb:b.length≤1099511627776) (la:Lim a) (lb:Lim b) :
  Sh.f5d (.sl (enL cU a) ta) (.sl (enL cU b) tb) H=some (.ret (.sl (enL cU (A7 (val a+val b))) .no),H):=by
 have c1:=HR (AS a)
 have c2:=HR (AS b)
 rw [Cj]at c1 c2
 unfold Sh.f5d
 have hx:Bo (Dl (AS a))=val a:=by rw [Eu,E9 a la]
 have hy:Bo (Dl (AS b))=val b:=by rw [Eu,E9 b lb]
 simp only [Hj a ta H (by omega) la,CC,Hj b tb H (by omega) lb]
 rw [←hx,←hy]
 generalize Dl (AS a)=x at c1 ⊢
 generalize Dl (AS b)=y at c2 ⊢
 refine Br (σ:=List Bool×Bool) (fun s=>s.1.length≤max x.length y.length+1∧Bo s.1+2^s.1.length*bn s.2=Bo x%2^s.1.length+Bo y%2^s.1.length) (fun s=>[.sl (enL cB x) .no,.sl (enL cB y) .no,DZ cB H s.1,.bool s.2,.int .i64 (s.1.length:Int)]) (fun s=>DR cB BT 1 H s.1) (fun s=>max x.length y.length+1-s.1.length)
  (fun _=>some (.ret (.sl (enL cU (A7 (Bo x+Bo y))) .no),H)) (fun s rec hs hrec=>?_) ([],false) ⟨by simp,by simp [Bo,bn,Nat.mod_one]⟩ (by simp;omega)
 obtain ⟨o,c⟩:=s
 obtain ⟨ho,he⟩:=hs
 simp only at ho he hrec ⊢
 unfold Sh.f7s
 simp only [Ak,Bc,Bg,Bw,BG,Au,Option.bind_some,max_int,KL]
 by_cases h:o.length≤max x.length y.length
 ·have h':((o.length:Int)≤max (x.length:Int) (y.length:Int)):=by omega
  have hw:IntKind.i64.wrap ((o.length:Int)+1)=((o.length+1:Nat):Int):=by rw [An] <;> omega
  have ax:∀(m:List Bool) (H:Aa),Sh.f6 (.sl (enL cB m) .no) (.int .i64 (o.length:Int)) H=some (.ret (.bool (m.getD o.length false)),H):=fun m H=>by rw [q01_at,Int.toNat_natCast];simp
  have app:∀s:Bool,AW BT 1 1 (DZ cB H o) (.sl (enL cB [s]) .tight) (DR cB BT 1 H o)=some (DZ cB H (o++[s]),DR cB BT 1 H (o++[s])):=fun s=>EV (by simp) (by simp;omega) (by simp;omega)
  have w1:IntKind.i64.wrap (0+1)=1:=by decide
  have w2:IntKind.i64.wrap (1+1)=2:=by decide
  have w3:IntKind.i64.wrap (2+1)=3:=by decide
  have fin:rec [.sl (enL cB x) .no,.sl (enL cB y) .no,DZ cB H (o++[(bn (x.getD o.length false)+bn (y.getD o.length false)+bn c)%2 == 1]),.bool (decide (1<bn (x.getD o.length false)+bn (y.getD o.length false)+bn c)),.int .i64 ((o.length+1:Nat):Int)] (DR cB BT 1 H (o++[(bn (x.getD o.length false)+bn (y.getD o.length false)+bn c)%2 == 1]))=some (.ret (.sl (enL cU (A7 (Bo x+Bo y))) .no),H):=by
   have:=hrec (o++[(bn (x.getD o.length false)+bn (y.getD o.length false)+bn c)%2 == 1],decide (1<bn (x.getD o.length false)+bn (y.getD o.length false)+bn c)) ⟨by simp;omega,?_⟩ (by simp;omega)
   ·simpa using this
   ·simp only [Vc,List.length_singleton]
    rw [Od x,Od y,Dr,Nat.pow_succ]
    generalize x.getD o.length false=p
    generalize y.getD o.length false=q
    generalize 2^o.length=z at he ⊢
    cases p <;> cases q <;> cases c <;> simp [bn,Bo]at he ⊢ <;> omega
  simp only [h',decide_true,AZ,AN,ax,CC]
  revert fin
  generalize x.getD o.length false=p
  simp only [Sh.f7r,AN,Ak,Bc,Bg,Bw,BG,D5,ax,CC]
  generalize y.getD o.length false=q
  intro fin
  rw [←fin]
  cases p <;> cases q <;> cases c <;>
   simp only [AZ,AP,Cu,w1,w2,w3,Option.bind_some,Ak,Bc,Bg,Bw,BG,D5,Sh.f7q,Sh.f7p,AN,HT (show (2:Int)≠0 by decide),DF,Rm,D4,app,Da,CC,hw,bn] <;> rfl
 ·have h':¬((o.length:Int)≤max (x.length:Int) (y.length:Int)):=by omega
  obtain ⟨G,hG⟩:=GZ (f:=cB) (ty:=BT) (sz:=1) H o
  have bx:=Kg x
  have by':=Kg y
  have px:2^x.length*2≤2^o.length:=by rw [←Nat.pow_succ];exact V6 (by omega) (by omega)
  have py:2^y.length*2≤2^o.length:=by rw [←Nat.pow_succ];exact V6 (by omega) (by omega)
  rw [Wb (by omega),Wb (by omega)]at he
  have hc:c=false:=by
   cases c with
   | false=>rfl
   | true=>exfalso;simp only [bn,if_true,Vk]at he;omega
  subst hc
  have hsum:Bo o=Bo x+Bo y:=by simpa [bn]using he
  simp only [h',decide_false,AP,Gh,hG,RB o _ _ (by omega),CC,Cf,FC,Option.map_some,hsum]
theorem q01_sub (a b:List Nat) (ta tb:Tok) (H:Aa) (ha:a.length≤1099511627776) (hb:b.length≤1099511627776) (la:Lim a) (lb:Lim b) :
  Sh.f2y (.sl (enL cU a) ta) (.sl (enL cU b) tb) H=some (.ret (.tup [.sl (enL cU (if val b≤val a then A7 (val a-val b)else [])) .no,.bool (decide (val b≤val a))]),H):=by
 have c1:=HR (AS a)
 rw [Cj]at c1
 unfold Sh.f2y
 simp only [q01_cmp a b ta tb H ha hb la lb,CC,Bm,Option.bind_some]
 by_cases hv:val b≤val a
 ·have hc:¬(cmpI (val a) (val b)<0):=by unfold cmpI;split <;> (try split) <;> omega
  have hx:Bo (Dl (AS a))=val a:=by rw [Eu,E9 a la]
  have hy:Bo (Dl (AS b))=val b:=by rw [Eu,E9 b lb]
  simp only [hc,decide_false,AP,Hj a ta H (by omega) la,Hj b tb H (by omega) lb,CC,hv,if_true,decide_true]
  rw [←hx,←hy]at hv ⊢
  generalize Dl (AS a)=x at c1 hv ⊢
  generalize Dl (AS b)=y at hv ⊢
  refine Br (σ:=List Bool×Bool) (fun s=>s.1.length≤x.length∧Bo s.1+Bo y%2^s.1.length=Bo x%2^s.1.length+2^s.1.length*bn s.2) (fun s=>[.sl (enL cB x) .no,.sl (enL cB y) .no,DZ cB H s.1,.int .i64 (if s.2 then 1 else 0),.int .i64 (s.1.length:Int)]) (fun s=>DR cB BT 1 H s.1) (fun s=>x.length-s.1.length)
   (fun _=>some (.ret (.tup [.sl (enL cU (A7 (Bo x-Bo y))) .no,.bool true]),H)) (fun s rec hs hrec=>?_) ([],false) ⟨by simp,by simp [Bo,bn,Nat.mod_one]⟩ (by simp;omega)
  obtain ⟨o,c⟩:=s
  obtain ⟨ho,he⟩:=hs
  simp only at ho he hrec ⊢
  unfold Sh.f7x
  simp only [Ak,Bc,Bg,Bw,BG,Au,Option.bind_some,Bm]
  by_cases h:o.length<x.length
  ·have h':((o.length:Int)<(x.length:Int)):=by omega
   have hw:IntKind.i64.wrap ((o.length:Int)+1)=((o.length+1:Nat):Int):=by rw [An] <;> omega
   have ax:∀(m:List Bool) (H:Aa),Sh.f6 (.sl (enL cB m) .no) (.int .i64 (o.length:Int)) H=some (.ret (.bool (m.getD o.length false)),H):=fun m H=>by rw [q01_at,Int.toNat_natCast];simp
   have app:∀s:Bool,AW BT 1 1 (DZ cB H o) (.sl (enL cB [s]) .tight) (DR cB BT 1 H o)=some (DZ cB H (o++[s]),DR cB BT 1 H (o++[s])):=fun s=>EV (by simp) (by simp;omega) (by simp;omega)
   have n0:unA .neg (.int .i64 0)=some (.int .i64 0):=by rw [show unA .neg (.int .i64 0)=some (.int .i64 (IntKind.i64.wrap (0-0))) from rfl,show IntKind.i64.wrap (0-0)=0 from by decide]
   have n1:unA .neg (.int .i64 1)=some (.int .i64 (-1)):=by rw [show unA .neg (.int .i64 1)=some (.int .i64 (IntKind.i64.wrap (0-1))) from rfl,show IntKind.i64.wrap (0-1) = -1 from by decide]
   have w1:IntKind.i64.wrap (0+1)=1:=by decide
   have w2:IntKind.i64.wrap (-1+1)=0:=by decide
   have w3:IntKind.i64.wrap (0-1) = -1:=by decide
   have w4:IntKind.i64.wrap (1-1)=0:=by decide
   have w5:IntKind.i64.wrap (-1-1) = -2:=by decide
   have w6:IntKind.i64.wrap (-1+2)=1:=by decide
   have w7:IntKind.i64.wrap (-2+2)=0:=by decide
   have fin:rec [.sl (enL cB x) .no,.sl (enL cB y) .no,DZ cB H (o++[subS (x.getD o.length false) (y.getD o.length false) c]),.int .i64 (if subC (x.getD o.length false) (y.getD o.length false) c then 1 else 0),.int .i64 ((o.length+1:Nat):Int)] (DR cB BT 1 H (o++[subS (x.getD o.length false) (y.getD o.length false) c]))=some (.ret (.tup [.sl (enL cU (A7 (Bo x-Bo y))) .no,.bool true]),H):=by
    have:=hrec (o++[subS (x.getD o.length false) (y.getD o.length false) c],subC (x.getD o.length false) (y.getD o.length false) c) ⟨by simp;omega,?_⟩ (by simp;omega)
    ·simpa using this
    ·simp only [Vc,List.length_singleton]
     rw [Od x,Od y,Dr,Nat.pow_succ]
     generalize x.getD o.length false=p
     generalize y.getD o.length false=q
     generalize 2^o.length=z at he ⊢
     cases p <;> cases q <;> cases c <;> simp [bn,Bo,subS,subC,subN]at he ⊢ <;> omega
   simp only [h',decide_true,AZ,AN,ax,CC]
   revert fin
   generalize x.getD o.length false=p
   simp only [Sh.f7w,AN,Ak,Bc,Bg,Bw,BG,D5,ax,CC]
   generalize y.getD o.length false=q
   intro fin
   rw [←fin]
   cases p <;> cases q <;> cases c <;>
    simp [n0,n1,w1,w2,w3,w4,w5,w6,w7,Sh.f7v,Sh.f7u,AN,Rm,app,hw,subS,subC,subN]
  ·have h':¬((o.length:Int)<(x.length:Int)):=by omega
   obtain ⟨G,hG⟩:=GZ (f:=cB) (ty:=BT) (sz:=1) H o
   have bx:=Kg x
   have bo:=Kg o
   have hxi:x.length=o.length:=by omega
   rw [hxi]at bx
   rw [Wb bx,Wb (by omega)]at he
   have hc:c=false:=by
    cases c with
    | false=>rfl
    | true=>exfalso;simp only [bn,if_true,Vk]at he;omega
   subst hc
   have hsum:Bo o=Bo x-Bo y:=by simp [bn]at he;omega
   simp only [h',decide_false,AP,Gh,hG,RB o _ _ (by omega),CC,Cf,CQ,BN,Cd,Iu,EL,Option.bind_some,Option.map_some,hsum]
 ·have hc:cmpI (val a) (val b)<0:=by unfold cmpI;rw [if_pos (by omega)];decide
  simp [hc,hv,FE]
def A9 (z:Int):List Ab:=[.bool (decide (z<0)),.sl (enL cU (A7 z.natAbs)) .no]
def big (z:Int):Ab:=.agg (A9 z)
def LB (z:Int):Prop:=(A7 z.natAbs).length≤549755813888
theorem UP (z:Int):(A9 z).all Ab.isScal=true:=by simp [A9]
@[simp] theorem bigC_g0 (z:Int) (h:0<(A9 z).length):(A9 z)[0]=.bool (decide (z<0)):=(rfl)
@[simp] theorem bigC_g1 (z:Int) (h:1<(A9 z).length):(A9 z)[1]=.sl (enL cU (A7 z.natAbs)) .no:=(rfl)
@[simp] theorem bigC_0 (z:Int):(A9 z)[0]? = some (.bool (decide (z<0))):=(rfl)
@[simp] theorem bigC_1 (z:Int):(A9 z)[1]? = some (.sl (enL cU (A7 z.natAbs)) .no):=(rfl)
@[simp] theorem NG (z:Int):(big z).acells=some (A9 z):=C5 (UP z)
theorem big_sgn (neg:Bool) (n:Nat):[Ab.bool (sgn neg n),.sl (enL cU (A7 n)) .no]=A9 (if neg then -(n:Int)else n):=by
 unfold A9
 have e1:sgn neg n=decide ((if neg then -(n:Int)else (n:Int))<0):=by
  unfold sgn
  cases neg with
  | false=>simp
  | true=>
   by_cases h:n=0
   ·subst h;rfl
   ·have:(-(n:Int))<0:=by omega
    simp [h,this];omega
 have e2:(if neg then -(n:Int)else (n:Int)).natAbs=n:=by cases neg <;> simp
 rw [e1,e2]
theorem Qo (n:Nat):(decide (((A7 n).length:Int)>0))=decide (n≠0):=by
 by_cases h:n=0
 ·subst h;rw [DJ];rfl
 ·have:=VC.2 (On h)
  have h1:((A7 n).length:Int)>0:=by omega
  rw [decide_eq_true h1,decide_eq_true h]
@[simp] theorem fcells_big {H:Aa} {n d:Nat} {z:Int}:FN H n (d+2) (A9 z)=some (A9 z):=by simp [A9]
@[simp] theorem fall_big {H:Aa} {n d:Nat} {z:Int}:GL H n (d+3) (big z)=some (big z):=by simp [big]
@[simp] theorem fpart_big {H:Aa} {n d:Nat} {z:Int}:Fj H n (d+3) (big z)=some (big z):=by simp [big]
@[simp] theorem forget_big {z:Int}:forget (big z)=big z:=by simp [big,A9]
@[simp] theorem bigC_length (z:Int):(A9 z).length=2:=(rfl)
@[simp] theorem Td (z:Int):Ab.agg (A9 z)=big z:=(rfl)
@[simp] theorem putN_big (cs:List Ab) (z:Int) (h:cs.length=2):Dp cs 0 2 (A9 z)=A9 z:=Fz h
theorem D8 (z:Int) (H:Aa):B8 true 2 (big z) H=some (.ptr H.length 0 0,H++[.cel 0 (A9 z)]):=Cm (UP z) rfl
theorem NW (neg:Bool) (l:List Nat) (tk:Tok) (H:Aa) (hl:l.length≤1099511627776) (hx:Lim l):Sh.fc (.bool neg) (.sl (enL cU l) tk) H=some (.ret (big (if neg then -(val l:Int)else val l)),H):=by
 unfold Sh.fc big
 rw [←big_sgn]
 have hp:=Qo (val l)
 cases neg with
 | false=>simp [q01_norm _ _ _ hl hx,AD,FV,Dp,sgn,C5]
 | true=>
  simp only [IY,C0,Option.bind_some,Au,D4,hp,sgn,VW,alloc_eq (cs:=[.bool false,.sl [] .tight]) rfl,Bu,q01_norm _ _ _ hl hx,CC]
  simp [AD,FV,Dp,C5]
theorem Ud (neg:Bool) (l:List Nat) (tk:Tok) (H:Aa) (hl:l.length≤1099511627776) (hx:Lim l):Sh.fg (.agg [.bool neg,.sl (enL cU l) tk]) H=some (.ret (big (-(Hw neg l))),H):=by
 have ez:(if neg=false then -(val l:Int)else (val l:Int)) = -(Hw neg l):=by cases neg <;> simp [Hw]
 unfold Sh.fg
 simp [Cm,NW _ l tk _ hl hx,ez]
theorem KN (z:Int):Hw (decide (z<0)) (A7 z.natAbs)=z:=by
 unfold Hw
 rw [Bz]
 by_cases h:z<0
 ·simp [h];omega
 ·simp [h];omega
theorem OO (neg:Bool) (l:List Nat):(Hw neg l).natAbs=val l:=by cases neg <;> simp [Hw]
theorem q02_add (n1 n2:Bool) (l1 l2:List Nat) (t1 t2:Tok) (H:Aa) (h1:l1.length≤549755813888) (h2:l2.length≤549755813888) (x1:Lim l1) (x2:Lim l2) :
  Sh.f0 (.agg [.bool n1,.sl (enL cU l1) t1]) (.agg [.bool n2,.sl (enL cU l2) t2]) H=some (.ret (big (Hw n1 l1+Hw n2 l2)),H):=by
 have v1:=Rs l1 x1
 have v2:=Rs l2 x2
 have p1:=L8 (show l1.length≤max l1.length l2.length by omega)
 have p2:=L8 (show l2.length≤max l1.length l2.length by omega)
 have p3:(4294967296:Nat)^(max l1.length l2.length+1)=4294967296^max l1.length l2.length*4294967296:=Nat.pow_succ _ _
 have sg:∀(neg:Bool) (m:Nat) (tk:Tok) (H:Aa),m<4294967296^(max l1.length l2.length+1)→Sh.fc (.bool neg) (.sl (enL cU (A7 m)) tk) H=some (.ret (big (if neg then -(m:Int)else m)),H):=by
  intro neg m tk H hm
  have:=NW neg (A7 m) tk H (by have:=EG hm;omega) (Bt m)
  rwa [Bz]at this
 unfold Sh.f0
 by_cases hn:n1=n2
 ·subst hn
  have ez:(if n1=true then -((val l1:Int)+(val l2:Int))else ((val l1:Int)+(val l2:Int)))=Hw n1 l1+Hw n1 l2:=by cases n1 <;> simp [Hw] <;> omega
  simp [VL,Cm,JP,BR,q01_add _ _ _ _ _ (show l1.length≤1099511627776 by omega) (show l2.length≤1099511627776 by omega) x1 x2,sg n1 (val l1+val l2) _ _ (by omega),ez]
 ·have hb:(n1 == n2)=false:=by simpa using hn
  by_cases hv:val l2≤val l1
  ·have ez:(if n1=true then -((val l1-val l2:Nat):Int)else ((val l1-val l2:Nat):Int))=Hw n1 l1+Hw n2 l2:=by cases n1 <;> cases n2 <;> simp [Hw]at hn ⊢ <;> omega
   simp [VL,Cm,JP,hb,q01_sub _ _ _ _ _ (show l1.length≤1099511627776 by omega) (show l2.length≤1099511627776 by omega) x1 x2,hv,sg n1 (val l1-val l2) _ _ (by omega),ez]
  ·have ez:(if n2=true then -((val l2-val l1:Nat):Int)else ((val l2-val l1:Nat):Int))=Hw n1 l1+Hw n2 l2:=by cases n1 <;> cases n2 <;> simp [Hw]at hn ⊢ <;> omega
   have hv':val l1≤val l2:=by omega
   simp [VL,Cm,JP,hb,q01_sub _ _ _ _ _ (show l1.length≤1099511627776 by omega) (show l2.length≤1099511627776 by omega) x1 x2,q01_sub _ _ _ _ _ (show l2.length≤1099511627776 by omega) (show l1.length≤1099511627776 by omega) x2 x1,hv,hv',sg n2 (val l2-val l1) _ _ (by omega),ez]
theorem SX (z:Int):big z=.agg [.bool (decide (z<0)),.sl (enL cU (A7 z.natAbs)) .no]:=rfl
theorem Jz (a b:Int) (H:Aa) (ha:LB a) (hb:LB b):Sh.f0 (big a) (big b) H=some (.ret (big (a+b)),H):=by
 rw [SX a,SX b,q02_add _ _ _ _ _ _ _ ha hb (Bt _) (Bt _),KN,KN]
theorem Ij (a:Int) (H:Aa) (ha:LB a):Sh.fg (big a) H=some (.ret (big (-a)),H):=by
 rw [SX a,Ud _ _ _ _ (by unfold LB at ha;omega) (Bt _),KN]
theorem LB.neg {a:Int} (h:LB a):LB (-a):=by unfold LB at *;rwa [XU]
theorem LB.of {a:Int} {k:Nat} (h:a.natAbs<4294967296^k) (hk:k≤549755813888):LB a:=Vw (EG h) hk
theorem q02_subZ (a b:Int) (H:Aa) (ha:LB a) (hb:LB b):Sh.fu (big a) (big b) H=some (.ret (big (a-b)),H):=by
 unfold Sh.fu
 simp [VL,D8,BR,Ij _ _ hb,Jz _ _ _ ha hb.neg,Int.sub_eq_add_neg]
def EP (a b:Int):Int:=if a<b then -1 else if a=b then 0 else 1
theorem Ge (a b:Int) (H:Aa) (ha:LB a) (hb:LB b):Sh.f2 (big a) (big b) H=some (.ret (.int .i64 (EP a b)),H):=by
 unfold Sh.f2
 simp only [D8,Bu,Vb,List.singleton_append]
 simp [VL,D8,q02_subZ _ _ _ ha hb]
 unfold EP
 by_cases h0:a=b
 ·subst h0;simp [DJ]
 ·have hne:A7 (a-b).natAbs≠[]:=On (by omega)
  have hp:=VC.2 hne
  have hz:(((A7 (a-b).natAbs).length:Int) == 0)=false:=by rw [beq_eq_false_iff_ne];omega
  have hz2:¬((A7 (a-b).natAbs).length:Int)=0:=by omega
  have hz3:¬A7 (a-b).natAbs=[]:=hne
  by_cases hn:a<b
  ·have:a-b<0:=by omega
   simp [hz,hz2,hz3,hn,this]
  ·have:¬(a-b<0):=by omega
   simp [hz,hz2,hz3,hn,this,h0]
theorem repl1 (n:Nat) (v:Ab):L3 n [v]=List.replicate n v:=by
 induction n with
 | zero=>rfl
 | succ n ih=>simp only [L3,List.replicate_succ,List.flatten_cons]at ih ⊢;rw [ih];rfl
theorem chunk1 (n:Nat) (v:Ab):Gt 1 n (List.replicate n v)=List.replicate n [v]:=by
 induction n with
 | zero=>rfl
 | succ n ih=>simp only [Gt,List.replicate_succ,List.take_succ_cons,List.take_zero,List.drop_succ_cons,WB,ih]
theorem make_one {bytes n:Nat} {v:Ab} {H:Aa} (hv:v.isScal=true) (hb:n*bytes≤140737488355328) (hn:n≤140737488355328):Fi 1 bytes (some [v]) (.int .i64 (n:Int)) (.int .i64 (n:Int)) H=some (.ms H.length 0 0 n n 1 true,H++[.cel 0 (List.replicate n v)]):=by
 unfold Fi
 simp only [Option.bind_some]
 have h1:((n:Int)*(bytes:Int))≤140737488355328:=by
   have:((n*bytes:Nat):Int)≤140737488355328:=by omega
   simpa using this
 rw [if_pos ⟨by simp [hv],rfl,by omega,by omega,h1,by omega⟩,repl1]
 simp
theorem elems_ms {H:Aa} {n:Nat}:BY 1 (.ms H.length 0 0 n n 1 true) (H++[.cel 0 (List.replicate n (.bool false))])=some (enL cB (List.replicate n false)):=by
 have hm:(List.replicate n (Ab.bool false)).map LO=List.replicate n (.bool false):=by simp [LO]
 have hi:(List.replicate n (Ab.bool false)).all BE=true:=by simp [BE]
 simp only [BY,if_true,get_app0,J7,Option.bind_some,WB,UY,Vk,Xp,Vg (show (List.replicate n (Ab.bool false)).length≤n by simp),hm,hi,Va,and_self,chunk1]
 simp [enL]
theorem q01_of_ms (B:Aa) (n:Nat) (hn:n≤140737488355328):Sh.fl (.ms B.length 0 0 n n 1 true) (B++[.cel 0 (List.replicate n (.bool false))])=some (.ret (.sl [] .no),B++[.cel 0 (List.replicate n (.bool false))]):=by
 unfold Sh.fl Sh.f1t
 have hc:∀K:Aa,Ao (fun rec1 vs H1=>Sh.f59 K rec1 (ag vs 0) H1) AQ [.ms B.length 0 0 n n 1 true] (B++[.cel 0 (List.replicate n (.bool false))])
   = some (.ret (.ms B.length 0 0 0 n 1 true),B++[.cel 0 (List.replicate n (.bool false))]):=by
  intro K
  refine Br (σ:=Nat) (fun k=>k≤n) (fun k=>[.ms B.length 0 0 k n 1 true]) (fun _=>B++[.cel 0 (List.replicate n (.bool false))]) (fun k=>k) (fun _=>some (.ret (.ms B.length 0 0 0 n 1 true),B++[.cel 0 (List.replicate n (.bool false))])) (fun k rec hk hrec=>?_) n (Va _) (by omega)
  unfold Sh.f59
  cases k with
  | zero=>simp [forget,Eh,fgt]
  | succ k=>
   have hpos:((k+1:Nat):Int)>0:=by omega
   have hw:IntKind.i64.wrap (((k+1:Nat):Int)-1)=(k:Int):=by rw [An] <;> omega
   have hidx:At 1 (.ms B.length 0 0 (k+1) n 1 true) (.int .i64 (k:Int))=some (.ptr B.length 0 k):=by
    unfold At
    simp only []
    rw [if_pos ⟨trivial,by omega,by omega⟩]
    simp
   have hload:Ac false 1 (.ptr B.length 0 k) (B++[.cel 0 (List.replicate n (.bool false))])=some (.bool false):=by
    rw [Ic,ME,Xg,if_pos (by omega)]
   have hsl:Bv 1 (.ms B.length 0 0 (k+1) n 1 true) none (some (.int .i64 (k:Int))) none=some (.ms B.length 0 0 k n 1 true):=by
    have:(0:Int)≤(k:Int):=by omega
    simp only [Bv,Bq,Option.bind_some,this,if_true,Int.toNat_natCast]
    rw [if_pos ⟨trivial,by omega,by omega,by omega⟩]
    simp
   simp only [Ak,len_ms,Option.bind_some,D4,hpos,decide_true,IY,DE,hw,hidx,hload,Je,C0,Wg,AZ,hsl]
   exact hrec k (by omega) (by omega)
 rw [hc]
 simp only [CC]
 rw [DI EK]
 unfold Sh.f5a
 simp
theorem q01_shl (l:List Nat) (tk:Tok) (m:Nat) (H:Aa) (hm:m≤10000) (hl:l.length≤549755813888) (hx:Lim l) :
  Sh.f5b (.sl (enL cU l) tk) (.int .i64 (m:Int)) H=some (.ret (.sl (enL cU (A7 (2^m*val l))) .no),H):=by
 unfold Sh.f5b
 have h0:¬(m:Int)<0:=by omega
 have h1:¬(m:Int)>10000:=by omega
 have hc:=HR (AS l)
 rw [Cj]at hc
 simp only [Bm,Option.bind_some,decide_eq_false h0,LP,D4,decide_eq_false h1,Cr,AP,Hj l tk H (by omega) hx,By,make_one (bytes:=1) (v:=.bool false) rfl (show m*1≤140737488355328 by omega) (by omega),Bu]
 by_cases hv:val l=0
 ·have e:Dl (AS l)=[]:=cutL_nat0 (by rw [E9 l hx];exact hv)
  rw [e,FE,Dg (by rw [elems_ms];rfl)]
  simp [q01_of_ms H m (by omega),hv,DJ,FE]
 ·have hne:Dl (AS l)≠[]:=fun e=>hv (by rw [←E9 l hx,←Eu,e];rfl)
  have ha:AW BT 1 1 (.ms H.length 0 0 m m 1 true) (.sl (enL cB (Dl (AS l))) .no) (H++[.cel 0 (List.replicate m (.bool false))])
    = some (.sl (enL cB (List.replicate m false++Dl (AS l))) (.own (H.length+1)),H++[.cel 0 (List.replicate m (.bool false))]++[.tok (m+(Dl (AS l)).length) BT 1]):=by
   have hl0:(enL cB (Dl (AS l))).length≠0:=by simpa using hne
   unfold AW
   rw [show BY 1 (.sl (enL cB (Dl (AS l))) .no) (H++[.cel 0 (List.replicate m (.bool false))])=some (enL cB (Dl (AS l))) from by simp [BY,all_enL],elems_ms]
   simp only [Option.bind_some]
   rw [if_neg hl0,if_pos (by simp;omega),if_pos (by simp;exact VC.2 hne)]
   simp [enL_append]
  rw [ha]
  simp only [Da,By,Vb]
  rw [RB _ _ _ (by simp;omega)]
  simp only [By,Cf,FC,Option.map_some,nat1_repl,Eu,E9 l hx]
theorem q02_shl (z:Int) (m:Nat) (H:Aa) (hm:m≤10000) (hz:LB z) (hz2:LB (z*2^m)) :
  Sh.f5c (big z) (.int .i64 (m:Int)) H=some (.ret (big (z*2^m)),H):=by
 have e:(z*2^m).natAbs=2^m*z.natAbs:=by rw [Int.natAbs_mul,XA,Wr];rfl
 have hp:(0:Int)<2^m:=Xh (by omega)
 have hs:∀tk H,Sh.fc (.bool (decide (z<0))) (.sl (enL cU (A7 (2^m*z.natAbs))) tk) H=some (.ret (big (z*2^m)),H):=by
  intro tk H
  rw [NW _ _ _ _ (by rw [←e];unfold LB at hz2;omega) (Bt _),Bz]
  congr 3
  have:((2^m*z.natAbs:Nat):Int)=2^m*(z.natAbs:Int):=by simp
  by_cases h:z<0
  ·simp only [h,decide_true,if_true,this]
   rw [show ((z.natAbs:Nat):Int) = -z from by omega,Int.mul_neg,Int.neg_neg,Yf]
  ·simp only [h,decide_false,Vd,if_false,this]
   rw [show ((z.natAbs:Nat):Int)=z from by omega,Yf]
 unfold Sh.f5c
 simp [D8,BR,q01_shl _ _ _ _ hm hz (Bt _),Bz,hs]
theorem M0 {n:Int} (h0:-18446744073709551616≤n) (h:n<0):IntKind.u64.wrap n=n+18446744073709551616:=by
 have h1:IntKind.u64.bits=64:=rfl
 have h2:IntKind.u64.signed=false:=rfl
 unfold IntKind.wrap
 simp only [h1,h2,Wo,Vd,if_false]
 omega
theorem build_2U (x y:Nat):AY 1 [.int .u32 (x:Int),.int .u32 (y:Int)]=some (.sl (enL cU [x,y]) .tight):=by simp [AY,CZ,LO,BE,Ab.acells,enL]
theorem q02_of (n:Int) (H:Aa) (h0:-9223372036854775808≤n) (h1:n≤9223372036854775807):Sh.fm (.int .i64 n) H=some (.ret (big n),H):=by
 obtain ⟨u,hu⟩:∃u:Nat,u=n.natAbs:=⟨_,rfl⟩
 have hlim:Lim [u%4294967296,u / 4294967296]:=fun x hx=>by
  simp at hx
  rcases hx with rfl | rfl <;> omega
 have hval:val [u%4294967296,u / 4294967296]=u:=by simp [val];omega
 have ez:(if decide (n<0)=true then -(u:Int)else (u:Int))=n:=by
  by_cases h:n<0 <;> simp [h] <;> omega
 have a1:=fun H=>NW (decide (n<0)) [u%4294967296,u / 4294967296] .tight H (by simp) hlim
 simp only [hval,ez]at a1
 have e1:((u:Int).tmod 4294967296)=((u%4294967296:Nat):Int):=rfl
 have e2:IntKind.u64.wrap ((u:Int).tdiv 4294967296)=((u / 4294967296:Nat):Int):=by rw [show (u:Int).tdiv 4294967296=((u / 4294967296:Nat):Int) from rfl,CD] <;> omega
 have e3:IntKind.u32.wrap ((u%4294967296:Nat):Int)=((u%4294967296:Nat):Int):=by rw [CY] <;> omega
 have e4:IntKind.u32.wrap ((u / 4294967296:Nat):Int)=((u / 4294967296:Nat):Int):=by rw [CY] <;> omega
 have j1:Sh.f77 H (.int .i64 n) (.ptr H.length 0 0) (.int .u64 (u:Int)) (H++[.cel 0 [.bool false,.sl [] .tight]])=some (.ret (big n),H):=by
  unfold Sh.f77
  simp only [Bm,Option.bind_some,HT (show (4294967296:Int)≠0 by decide),Rn (show (4294967296:Int)≠0 by decide),e1,e2,B7,e3,e4,build_2U,a1,CC]
  simp
 unfold Sh.fm
 simp only [alloc_eq (cs:=[.bool false,.sl [] .tight]) rfl,Bu,B7,Option.bind_some,AN,Bm,Ak,Bc,Bg]
 by_cases h:n<0
 ·have w:IntKind.u64.wrap (0-IntKind.u64.wrap n)=(u:Int):=by
   rw [M0 (n:=n) (by omega) h,M0 (by omega) (by omega)];omega
  have un:unA .neg (.int .u64 (IntKind.u64.wrap n))=some (.int .u64 (u:Int)):=by
   rw [show unA .neg (.int .u64 (IntKind.u64.wrap n))=some (.int .u64 (IntKind.u64.wrap (0-IntKind.u64.wrap n))) from rfl,w]
  rw [decide_eq_true h]
  simp only [AZ,un,Option.bind_some,Ak,Bc,Bg]
  exact j1
 ·have w:IntKind.u64.wrap n=(u:Int):=by rw [CD (by omega) (by omega)];omega
  rw [decide_eq_false h]
  simp only [AP,w,Ak,Bc,Bg]
  exact j1
theorem LB_pow (m:Nat) (hm:m≤20000):LB (2^m):=by
 refine LB.of (k:=m+1) ?_ (by omega)
 rw [XA]
 have:(2:Nat)^m<2^(32*(m+1)):=XR (by omega) (by omega)
 rw [Xf]at this
 exact this
theorem LB_one:LB 1:=LB_pow 0 (by omega)
theorem IL (m:Nat) (H:Aa) (hm:m≤10000):Sh.f5 (.int .i64 (m:Int)) H=some (.ret (big (2^m)),H):=by
 have hs:=fun H=>q02_shl 1 m H hm LB_one (by rw [Int.one_mul];exact LB_pow m (by omega))
 simp only [Int.one_mul]at hs
 unfold Sh.f5
 simp [q02_of 1 _ (by omega) (by omega),hs]
def GS (neg:Bool) (l:List Nat):Bool:=FJ l && !(neg&&l.isEmpty)
theorem Uc (neg:Bool) (l:List Nat) (tk:Tok) (H:Aa) (hl:l.length≤549755813888):Sh.f38 (.agg [.bool neg,.sl (enL cU l) tk]) H=some (.ret (.bool (GS neg l)),H):=by
 unfold Sh.f38 GS
 have hq:=fun H=>q01_right l tk H (by omega)
 cases hr:FJ l with
 | false=>simp [Cm,hq,hr]
 | true=>
  cases neg with
  | false=>simp [Cm,hq,hr]
  | true=>cases l <;> simp [Cm,hq,hr] <;> omega
theorem bigC_ok {n:Bool} {l:List Nat} (h:GS n l=true) (hx:Lim l):[Ab.bool n,.sl (enL cU l) .no]=A9 (Hw n l):=by
 simp only [GS,Vh,Wc]at h
 obtain ⟨h1,h2⟩:=h
 have hn:Nrm l:=(N1 hx).1 h1
 unfold A9
 rw [OO,←LI hn]
 congr 2
 unfold Hw
 cases n with
 | false=>simp
 | true=>
  have hl:l≠[]:=fun e=>by subst e;simp at h2
  have:val l≠0:=fun e=>hl (hn.zero e)
  simp;omega
theorem LB_zero:LB 0:=by unfold LB;simp [DJ]
structure Cl where
 x:Int
 y:Int
 s:UInt8
deriving DecidableEq
def cCl (c:Cl):List Ab:=[.bool (decide (c.x<0)),.sl (enL cU (A7 c.x.natAbs)) .no,.bool (decide (c.y<0)),.sl (enL cU (A7 c.y.natAbs)) .no,.int .u8 (c.s.toNat:Int)]
instance:Sz cCl 5:=⟨fun _=>rfl⟩
instance:Pl cCl:=⟨fun _=>rfl⟩
def cBig (z:Int):List Ab:=A9 z
instance:Sz cBig 2:=⟨fun _=>rfl⟩
instance:Pl cBig:=⟨fun _=>rfl⟩
def SB (k:Nat) (z:Int):Prop:=z.natAbs<4294967296^k
theorem SB.lb {k:Nat} {z:Int} (h:SB k z) (hk:k≤549755813888):LB z:=LB.of h hk
theorem SB.mono {k m:Nat} {z:Int} (h:SB k z) (hm:k≤m):SB m z:=VR h (L8 hm)
theorem SB_powk {m k:Nat} (h:m<32*k):SB k (2^m):=by
 have e:((2:Int)^m).natAbs=2^m:=by rw [XA];rfl
 unfold SB
 rw [e]
 exact RG h
theorem SB_pow {m:Nat} (h:m≤10000):SB 313 (2^m):=SB_powk (VN h (by decide))
def Cl.ok (c:Cl):Prop:=SB 100 c.x∧SB 100 c.y
def Ji (a b:Cl):Int:=if EP a.y b.y=0 then EP a.x b.x else EP a.y b.y
theorem boxCl (c:Cl) (H:Aa):B8 true 5 (.agg (cCl c)) H=some (.ptr H.length 0 0,H++[.cel 0 (cCl c)]):=Cm rfl rfl
theorem MW (c:Cl):(Ab.agg (cCl c)).acells=some (cCl c):=C5 rfl
section
variable {H G:Aa} {p:Nat} {c:Cl} {z:Int}
theorem IQ (hg:H[p]? = some (.cel 0 (cCl c))):Ac true 2 (.ptr p 0 0) H=some (big c.x):=by
 simp only [Ac,AA hg,Option.bind_some,if_true];rfl
theorem IP (hg:H[p]? = some (.cel 0 (cCl c))):Ac true 2 (.ptr p 0 2) H=some (big c.y):=by
 simp only [Ac,AA hg,Option.bind_some,if_true];rfl
theorem Bb (hg:H[p]? = some (.cel 0 (A9 z))):Ac true 2 (.ptr p 0 0) H=some (big z):=by
 simp only [Ac,AA hg,Option.bind_some,if_true];rfl
theorem Cx {cs:List Ab} (hg:H[p]? = some (.cel 0 cs)) (hl:cs.length=2):Ag 2 (.ptr p 0 0) (big z) H=some (H.set p (.cel 0 (A9 z))):=by
 simp only [Ag,AA hg,Option.bind_some,NG,B9 hg,Fz hl]
 rw [if_pos ⟨rfl,by omega⟩]
theorem Oj:Ac true 2 (.cptr (cCl c) 0) H=some (big c.x):=(rfl)
theorem Oi:Ac true 2 (.cptr (cCl c) 2) H=some (big c.y):=(rfl)
theorem load_sC:Ac false 1 (.cptr (cCl c) 4) H=some (.int .u8 (c.s.toNat:Int)):=(rfl)
theorem Ol:Ac true 5 (.cptr (cCl c) 0) H=some (.agg (cCl c)):=(rfl)
theorem Mq (c:Cl):AY 5 [.agg (cCl c)]=some (.sl (enL cCl [c]) .tight):=by
 simp [AY,CZ,MW];simp [cCl,LO,BE,enL]
theorem Cb (H:Aa):Az (some [.bool false,.sl [] .tight]) H=some (.ptr H.length 0 0,H++[.cel 0 [.bool false,.sl [] .tight]]):=alloc_eq rfl
theorem A1 {i:Nat} {x:Blk} (h:H[i]? = some x):(H++G)[i]? = some x:=by
 have:=(UV.1 h).1
 rw [UW this];exact h

end
theorem q07_order (a b:Cl) (H:Aa) (ha:a.ok) (hb:b.ok):Sh.f35 (.agg (cCl a)) (.agg (cCl b)) H=some (.ret (.int .i64 (Ji a b)),H):=by
 have e1:(H++[Blk.cel 0 (cCl a)]++[Blk.cel 0 (cCl b)])[H.length]? = some (.cel 0 (cCl a)):=by simp
 have e2:(H++[Blk.cel 0 (cCl a)]++[Blk.cel 0 (cCl b)])[(H++[Blk.cel 0 (cCl a)]).length]? = some (.cel 0 (cCl b)):=Ap
 unfold Sh.f35
 have hy:=fun H=>Ge a.y b.y H (ha.2.lb (by decide)) (hb.2.lb (by decide))
 have hx:=fun H=>Ge a.x b.x H (ha.1.lb (by decide)) (hb.1.lb (by decide))
 simp only [GMb,GMc,boxCl,Ah,UY,Nat.add_zero,IP e1,IP e2,hy]
 have fin:∀q:Int,rP H (.int .i64 q) (H++[Blk.cel 0 (cCl a)]++[Blk.cel 0 (cCl b)])=some (.ret (.int .i64 q),H):=fun q=>by simp only [Vb];exact Ii
 unfold Ji
 by_cases h:EP a.y b.y=0
 ·simp only [GMb,GMc,h,IQ e1,IQ e2,hx,fin]
 ·simp only [GMb,GMc,h,fin]
def inZ (v:Nat) (z:Int):Bool:=decide (-(2^(v-1))≤z)&&decide (z<2^(v-1))
def DV (v:Nat) (c:Cl):Bool:=inZ v c.x&&inZ v c.y
theorem MS (a b:Int):decide (EP a b≥0)=decide (b≤a):=by
 unfold EP;rw [Vr]
 split
 ·simp;omega
 ·split
  ·simp;omega
  ·simp;omega
theorem Gq (a b:Int):decide (EP a b<0)=decide (a<b):=by
 unfold EP;rw [Vr]
 split
 ·simp;omega
 ·split
  ·simp;omega
  ·simp;omega
theorem q07_within (c:Cl) (v:Nat) (H:Aa) (hc:c.ok) (h1:1≤v) (h2:v≤10000):Sh.f5y (.agg (cCl c)) (.int .i64 (v:Int)) H=some (.ret (.bool (DV v c)),H):=by
 have hw:IntKind.i64.wrap ((v:Int)-1)=((v-1:Nat):Int):=HY (by omega) (by omega)
 have hp:=SB_pow (show v-1≤10000 by omega)
 have hpl:=hp.lb (by decide)
 unfold Sh.f5y
 have hpow:=fun H=>IL (v-1) H (by omega)
 have hmin:=fun H=>Ij (2^(v-1)) H hpl
 have hx:=fun H b (hb:LB b)=>Ge c.x b H (hc.1.lb (by decide)) hb
 have hy:=fun H b (hb:LB b)=>Ge c.y b H (hc.2.lb (by decide)) hb
 have s1:∀B:Aa,Ag 2 (.ptr B.length 0 0) (big (2^(v-1))) (B++[.cel 0 [.bool false,.sl [] .tight]])=some (B++[.cel 0 (A9 (2^(v-1)))]):=fun B=>by rw [Cx (Ap (B:=B)) rfl,Bh]
 have s2:∀B:Aa,Ag 2 (.ptr B.length 0 0) (big (-(2^(v-1)))) (B++[.cel 0 [.bool false,.sl [] .tight]])=some (B++[.cel 0 (A9 (-(2^(v-1))))]):=fun B=>by rw [Cx (Ap (B:=B)) rfl,Bh]
 simp only [GMb,GMc,boxCl,hw,hpow,Cb,s1,Bb Ap,hmin,s2]
 generalize hB:H++[Blk.cel 0 (cCl c)]=B
 have e1:(B++[Blk.cel 0 (A9 (2^(v-1)))]++[Blk.cel 0 (A9 (-(2^(v-1))))])[H.length]? = some (.cel 0 (cCl c)):=by rw [←hB];simp
 have e2:(B++[Blk.cel 0 (A9 (2^(v-1)))]++[Blk.cel 0 (A9 (-(2^(v-1))))])[B.length]? = some (.cel 0 (A9 (2^(v-1)))):=by simp
 have e3:(B++[Blk.cel 0 (A9 (2^(v-1)))]++[Blk.cel 0 (A9 (-(2^(v-1))))])[(B++[Blk.cel 0 (A9 (2^(v-1)))]).length]? = some (.cel 0 (A9 (-(2^(v-1))))):=Ap
 have fin:∀q:Bool,rP H (.bool q) (B++[Blk.cel 0 (A9 (2^(v-1)))]++[Blk.cel 0 (A9 (-(2^(v-1))))])=some (.ret (.bool q),H):=fun q=>by rw [←hB];simp only [Vb];exact FB
 unfold DV inZ
 simp only [GMb,GMc,Ah,UY,Nat.add_zero,IQ e1,IP e1,Bb e2,Bb e3,hx _ _ hpl,hx _ _ hpl.neg,hy _ _ hpl,hy _ _ hpl.neg,MS,Gq]
 cases decide (-(2^(v-1))≤c.x)with
 | false=>simp only [GMb,GMc,fin]
 | true=>
  simp only [GMb,GMc,Ah,UY,Nat.add_zero,IQ e1,IP e1,Bb e2,Bb e3,hx _ _ hpl,hx _ _ hpl.neg,hy _ _ hpl,hy _ _ hpl.neg,MS,Gq]
  cases decide (c.x<2^(v-1))with
  | false=>simp only [GMb,GMc,fin]
  | true=>
   simp only [GMb,GMc,Ah,UY,Nat.add_zero,IQ e1,IP e1,Bb e2,Bb e3,hx _ _ hpl,hx _ _ hpl.neg,hy _ _ hpl,hy _ _ hpl.neg,MS,Gq]
   cases decide (-(2^(v-1))≤c.y)with
   | false=>simp only [GMb,GMc,fin]
   | true=>
    simp only [GMb,GMc,Ah,UY,Nat.add_zero,IQ e1,IP e1,Bb e2,Bb e3,hx _ _ hpl,hx _ _ hpl.neg,hy _ _ hpl,hy _ _ hpl.neg,MS,Gq,fin]
def EE (c:Cl) (out:List Cl):Nat:=(out.takeWhile fun d=>decide (Ji d c<0)).length
def L0 (c:Cl) (out:List Cl):Bool:=match out[EE c out]? with | some d=>decide (Ji d c=0) | none=>false
def Jy (c:Cl) (out:List Cl):List Cl:=if L0 c out then (out.drop (EE c out)).drop 1 else out.drop (EE c out)
def Ca (out:List Cl) (c:Cl):List Cl:=out.take (EE c out)++[c]++Jy c out
def CH (l:List Cl):List Cl:=l.foldl Ca []
def AU (l:List Cl):List Cl:=(CH l).filter fun c=>decide (c.s≠0)
theorem Nm {α:Type} (p:α→Bool):∀(l:List α) (n:Nat),n≤l.length→(∀(j:Nat) (a:α),j<n→l[j]? = some a→p a=true)→(∀a,l[n]? = some a→p a=false)→(l.takeWhile p).length=n
 | [],n,h,_,_=>by simp at h;simp [h]
 | a::l,0,_,_,h=>by
  have:=h a rfl
  simp [Xz,this]
 | a::l,n+1,h,h1,h2=>by
  have h3:=h1 0 a (by omega) rfl
  have:=Nm p l n (by simpa using h) (fun j b hj hb=>h1 (j+1) b (by omega) (by simpa using hb)) (fun b hb=>h2 b (by simpa using hb))
  simp [Xz,h3,this]
theorem posC_le (c:Cl) (out:List Cl):EE c out≤out.length:=by
 unfold EE
 exact (List.takeWhile_sublist _).length_le
theorem lastStep_len (out:List Cl) (c:Cl):(Ca out c).length≤out.length+1:=by
 have:=posC_le c out
 unfold Ca Jy
 split <;> simp <;> omega
theorem lastStep_mem {out:List Cl} {c d:Cl} (h:d∈Ca out c):d=c∨d∈out:=by
 unfold Ca Jy at h
 simp only [Vt,Vs]at h
 rcases h with (h | h) | h
 ·exact .inr (Wm h)
 ·exact .inl h
 ·right
  split at h
  ·exact WI (WI h)
  ·exact WI h
theorem Oq {l:List Cl} {i:Nat} (hi:i<l.length):CH (l.take (i+1))=Ca (CH (l.take i)) l[i]:=by
 unfold CH
 rw [Vf hi,WY];rfl
theorem EH {l:List Cl}:∀i,i≤l.length→(CH (l.take i)).length≤i∧∀d∈CH (l.take i),d∈l
 | 0,_=>by simp [CH]
 | i+1,h=>by
  obtain ⟨h1,h2⟩:=EH i (by omega:i≤l.length)
  rw [Oq h]
  refine ⟨Vw (lastStep_len _ _) (by omega),fun d hd=>?_⟩
  rcases lastStep_mem hd with rfl | hd
  ·exact Vi h
  ·exact h2 d hd
theorem slice_cap {α:Type} {f:α→List Ab} {l:List α} {tk:Tok} {sz h:Nat} {K:IntKind} [hf:Sz f sz] (hh:h≤l.length) :
  Bv sz (.sl (enL f l) tk) none (some (.int K (h:Int))) (some (.int K (h:Int)))=some (.sl (enL f (l.take h)) .tight):=by
 simp [Bv,Bq,enL,hf.len,hh,List.map_take,Fu]
theorem LU {α:Type} {f:α→List Ab} {l:List α} {tk:Tok} {sz:Nat} {H:Aa} [hf:Sz f sz]:BY sz (.sl (enL f l) tk) H=some (enL f l):=by
 simp [BY,all_enL]
theorem q07_last (l:List Cl) (tk0:Tok) (H:Aa) (hl:l.length<549755813888) (hok:∀c∈l,c.ok):Sh.f36 (.sl (enL cCl l) tk0) H=some (.ret (.sl (enL cCl (AU l)) .no),H):=by
 unfold Sh.f36
 have loop:=Gi (G:=fun rec1 vs H1=>Sh.f5t H rec1 (ag vs 0) (ag vs 1) (ag vs 2) H1) l.length (fun i vs Hc=>∃tk G,vs=[.sl (enL cCl l) tk0,.sl (enL cCl (CH (l.take i))) tk,.int .i64 (i:Int)]∧Hc=H++G) (by omega) (fun i vs Hc hi hI=>?_)
  (vs:=[.sl (enL cCl l) tk0,.sl [] .tight,.int .i64 0]) (H:=H) ⟨.tight,[],rfl,by simp⟩
 ·obtain ⟨vs',Hc,⟨tk,G,rfl,rfl⟩,rec,hloop⟩:=loop
  rw [hloop]
  unfold Sh.f5t
  rw [Vg (Va _)]
  simp only [GMb,GMc,Au,VV]
  generalize hB:H++G=B
  have hlen:(CH l).length≤l.length:=by have:=(EH (l:=l) l.length (Va _)).1;rwa [Vg (Va _)]at this
  unfold AU
  generalize CH l=o at hlen
  refine Cg (G:=fun rec4 vs H1=>Sh.f5s H rec4 (ag vs 0) (ag vs 1) (ag vs 2) H1) o.length (fun i=>[.sl (enL cCl o) tk,DZ cCl B ((o.take i).filter fun c=>decide (c.s≠0)),.int .i64 (i:Int)]) (fun i=>DR cCl A6 5 B ((o.take i).filter fun c=>decide (c.s≠0))) _ (by omega) (fun rec i hi=>?_) (fun rec=>?_)
  ·have hi':(i:Int)<(o.length:Int):=by omega
   have hws:=Aw (show i<9223372036854775807 by omega)
   unfold Sh.f5s
   rw [Vf hi,VJ]
   have hfl:((o.take i).filter fun c=>decide (c.s≠0)).length≤i:=Vw (Wi _ _) (by simp;omega)
   generalize ((o.take i).filter fun c=>decide (c.s≠0))=fo at hfl
   have hs:decide ((o[i].s.toNat:Int)=0)=decide (o[i].s=0):=by
    rw [Vr];simp only [decide_eq_true_eq]
    constructor
    ·intro h;exact W8.1 (by simpa using h)
    ·intro h;rw [h];rfl
   simp only [GMb,GMc,Au,hi',Ay hi,Al,UY,load_sC,hs,hws,Sh.f5r]
   by_cases h0:o[i].s=0
   ·have:[o[i]].filter (fun c=>decide (c.s≠0))=[]:=by simp [h0]
    rw [this,V3]
    simp only [GMb,GMc,h0,decide_true,Sh.f5r,hws]
   ·have:[o[i]].filter (fun c=>decide (c.s≠0))=[o[i]]:=by simp [h0]
    rw [this]
    have ha:=EV (f:=cCl) (ty:=A6) (bytes:=72) (tk:=.tight) (B:=B) (l:=fo) (m:=[o[i]]) (by simp) (by simp;omega) (by simp;omega)
    simp only [GMb,GMc,h0,decide_false,Ol,Mq,ha,Sh.f5r,hws]
  ·obtain ⟨G',hG'⟩:=GZ (f:=cCl) (ty:=A6) (sz:=5) B (o.filter fun c=>decide (c.s≠0))
   unfold Sh.f5s
   rw [Vg (Va _)]
   simp only [GMb,GMc,Au,VV,Gh,hG']
   rw [←hB,Vb]
   simp only [Cf,FC,Option.map_some]
 ·obtain ⟨tk,G,rfl,rfl⟩:=hI
  obtain ⟨m1,m2⟩:=EH (l:=l) i (by omega)
  have hi':(i:Int)<(l.length:Int):=by omega
  have hws:=Aw (show i<9223372036854775807 by omega)
  have hco:l[i].ok:=hok _ (Vi hi)
  have hoo:∀d∈CH (l.take i),d.ok:=fun d hd=>hok d (m2 d hd)
  rw [Oq hi]
  generalize CH (l.take i)=o at m1 m2 hoo
  generalize hB:H++G=B
  have hp:=posC_le l[i] o
  obtain ⟨tkr,Gr,hrest⟩:∃tkr Gr,AW A6 5 72 (.sl (enL cCl []) .tight) (.sl (enL cCl (o.drop (EE l[i] o))) (Fu tk (EE l[i] o) o.length o.length false)) B=some (.sl (enL cCl (o.drop (EE l[i] o))) tkr,B++Gr):=by
   by_cases he:o.drop (EE l[i] o)=[]
   ·rw [he];exact ⟨.tight,[],by simp [Dg,LU,FE];exact Dg (by simp [BY])⟩
   ·have:=C4 (f:=cCl) (l:=[]) (m:=o.drop (EE l[i] o)) (ty:=A6) (bytes:=72) (tk:=Fu tk (EE l[i] o) o.length o.length false) (H:=B) he (by simp;omega) (by simp;omega)
    exact ⟨_,_,this⟩
  obtain ⟨tks,hres⟩:∃tks,(if L0 l[i] o then Bv 5 (.sl (enL cCl (o.drop (EE l[i] o))) tkr) (some (.int .i64 1)) none none else some (.sl (enL cCl (o.drop (EE l[i] o))) tkr))=some (.sl (enL cCl (Jy l[i] o)) tks):=by
   unfold Jy
   cases hs:L0 l[i] o with
   | false=>exact ⟨_,rfl⟩
   | true=>
    have hlt:EE l[i] o<o.length:=by
     unfold L0 at hs
     cases hg:o[EE l[i] o]? with
     | none=>rw [hg]at hs;cases hs
     | some d=>exact (UV.1 hg).1
    have:=N0 (f:=cCl) (l:=o.drop (EE l[i] o)) (tk:=tkr) (K:=.i64) (b:=1) (by simp;omega)
    exact ⟨_,this⟩
  have ha1:=C4 (f:=cCl) (l:=o.take (EE l[i] o)) (m:=[l[i]]) (ty:=A6) (bytes:=72) (tk:=.tight) (H:=B++Gr) (by simp) (by simp;omega) (by simp;omega)
  obtain ⟨tkf,Gf,ha2⟩:∃tkf Gf,AW A6 5 72 (.sl (enL cCl (o.take (EE l[i] o)++[l[i]])) (.own (B++Gr).length)) (.sl (enL cCl (Jy l[i] o)) tks) (B++Gr++[Blk.tok ((o.take (EE l[i] o)).length+[l[i]].length) A6 5])=some (.sl (enL cCl (Ca o l[i])) tkf,B++Gf):=by
   by_cases he:Jy l[i] o=[]
   ·unfold Ca
    rw [he,V3]
    exact ⟨_,Gr++[Blk.tok ((o.take (EE l[i] o)).length+[l[i]].length) A6 5],by rw [FE,Dg (by simp [LU]),Vb]⟩
   ·have hrl:(Jy l[i] o).length≤o.length:=by unfold Jy;split <;> simp <;> omega
    have:=Em (f:=cCl) (l:=o.take (EE l[i] o)++[l[i]]) (m:=Jy l[i] o) (ty:=A6) (bytes:=72) (tk:=tks) (H:=B++Gr++[Blk.tok ((o.take (EE l[i] o)).length+[l[i]].length) A6 5]) (t:=(B++Gr).length) he (by simp) (by simp;omega) (by simp;omega)
    exact ⟨.own (B++Gr).length,Gr++[Blk.tok ((o.take (EE l[i] o)++[l[i]]).length+(Jy l[i] o).length) A6 5],by rw [this];unfold Ca;rw [V8 _ _ (Va _),V9,List.set_cons_zero,Vb,Vb]⟩
  refine ⟨_,_,⟨tkf,G++Gf,rfl,rfl⟩,fun rec=>?_⟩
  unfold Sh.f5t
  simp only [GMb,GMc,Au,hi',Ak,Ai]
  refine Br (G:=fun rec2 vs H1=>Sh.f79 H rec rec2 (ag vs 0) (ag vs 1) (ag vs 2) (ag vs 3) H1) (σ:=Nat) (fun k=>k≤o.length∧∀(j:Nat) (d:Cl),j<k→o[j]? = some d→decide (Ji d l[i]<0)=true) (fun k=>[.sl (enL cCl l) tk0,.sl (enL cCl o) tk,.int .i64 (i:Int),.int .i64 (k:Int)]) (fun _=>B) (fun k=>o.length-k) (fun _=>_) (fun k rec2 hk hrec=>?_) 0 ⟨Vy _,fun j d hj=>by omega⟩ (by omega)
  obtain ⟨hk1,hk2⟩:=hk
  have hwk:=Aw (show k<9223372036854775807 by omega)
  unfold Sh.f79
  have stop:(∀d,o[k]? = some d→decide (Ji d l[i]<0)=false)→k=EE l[i] o:=fun h=>(Nm _ o k hk1 hk2 h).symm
  have he5:AY 5 []=some (.sl (enL cCl []) .tight):=rfl
  have tail:∀s:Bool,k=EE l[i] o→s=L0 l[i] o→(AN (fun j3=>Aj (.bool s) ((Bv 5 (.sl (enL cCl (o.drop (EE l[i] o))) tkr) (some (.int .i64 1)) none none).bind fun x61=>j3 [.sl (enL cCl l) tk0,.sl (enL cCl o) tk,.int .i64 (i:Int),.int .i64 (k:Int),x61] (B++Gr)) (j3 [.sl (enL cCl l) tk0,.sl (enL cCl o) tk,.int .i64 (i:Int),.int .i64 (k:Int),.sl (enL cCl (o.drop (EE l[i] o))) tkr] (B++Gr))) (fun vs H1=>Sh.f5q H rec (ag vs 0) (ag vs 1) (ag vs 2) (ag vs 3) (ag vs 4) H1))=rec [.sl (enL cCl l) tk0,.sl (enL cCl (Ca o l[i])) tkf,.int .i64 ((i+1:Nat):Int)] (H++(G++Gf)):=by
   intro s hkp hs
   have fin:Sh.f5q H rec (.sl (enL cCl l) tk0) (.sl (enL cCl o) tk) (.int .i64 (i:Int)) (.int .i64 (k:Int)) (.sl (enL cCl (Jy l[i] o)) tks) (B++Gr)=rec [.sl (enL cCl l) tk0,.sl (enL cCl (Ca o l[i])) tkf,.int .i64 ((i+1:Nat):Int)] (H++(G++Gf)):=by
    unfold Sh.f5q
    rw [hkp]
    simp only [GMb,GMc,slice_cap hp,Ay hi,Ol,Mq,ha1,ha2,hws]
    rw [←hB,Vb]
   subst hs
   cases hsm:L0 l[i] o with
   | false=>
    rw [hsm]at hres
    simp only [Vd,if_false,Ve]at hres
    simp only [GMb,GMc,hres];exact fin
   | true=>
    rw [hsm]at hres
    simp only [if_true]at hres
    simp only [GMb,GMc,hres];exact fin
  by_cases h:k<o.length
  ·have hkl:(k:Int)<(o.length:Int):=by omega
   have hord:=fun H=>q07_order o[k] l[i] H (hoo _ (Vi h)) hco
   simp only [GMb,GMc,Au,hkl,Ay h,Ay hi,Ol,hord,hwk]
   by_cases hlt:Ji o[k] l[i]<0
   ·have:=hrec (k+1) ⟨h,fun j d hj hd=>by
     by_cases e:j=k
     ·subst e;rw [UU h]at hd;injection hd with hd;rw [←hd];exact decide_eq_true hlt
     ·exact hk2 j d (by omega) hd⟩ (by omega)
    simp only [hlt,GMb,GMc]
    exact this
   ·have hkp:=stop (fun d hd=>by rw [UU h]at hd;injection hd with hd;rw [←hd];exact decide_eq_false hlt)
    have hsm:decide (Ji o[k] l[i]=0)=L0 l[i] o:=by
     unfold L0;rw [←hkp,UU h]
    simp only [hlt,GMb,GMc,he5]
    have hsf:=N0 (f:=cCl) (l:=o) (tk:=tk) (K:=.i64) (b:=EE l[i] o) hp
    rw [←hkp]at hsf hrest
    simp only [GMb,GMc,hsf,hrest]
    have ht:=tail _ hkp hsm
    rw [←hkp]at ht
    simp only [GMb,GMc]at ht
    exact ht
  ·have hk:k=o.length:=by omega
   have hkl:¬(k:Int)<(o.length:Int):=by omega
   have hkp:=stop (fun d hd=>by rw [Vl (by omega)]at hd;cases hd)
   have hsm:false=L0 l[i] o:=by
    unfold L0;rw [←hkp,Vl (by omega)]
   have hsf:=N0 (f:=cCl) (l:=o) (tk:=tk) (K:=.i64) (b:=EE l[i] o) hp
   rw [←hkp]at hsf hrest
   simp only [GMb,GMc,Au,hkl,he5,hsf,hrest]
   have ht:=tail _ hkp hsm
   rw [←hkp]at ht
   simp only [GMb,GMc]at ht
   exact ht
def ltC (a b:Cl):Bool:=decide (Ji a b<0)
theorem Kw (a b:Int):(a<b∧EP a b<0)∨(a=b∧EP a b=0)∨(b<a∧0<EP a b):=by
 unfold EP
 rcases Int.lt_trichotomy a b with h | h | h
 ·exact .inl ⟨h,by rw [if_pos h];decide⟩
 ·exact .inr (.inl ⟨h,by rw [if_neg (by omega),if_pos h]⟩)
 ·exact .inr (.inr ⟨h,by rw [if_neg (by omega),if_neg (by omega)];decide⟩)
theorem MD {a b:Cl}:ltC a b=true↔a.y<b.y∨(a.y=b.y∧a.x<b.x):=by
 unfold ltC Ji
 rw [decide_eq_true_eq]
 rcases Kw a.y b.y with ⟨h1,h2⟩ | ⟨h1,h2⟩ | ⟨h1,h2⟩
 ·rw [if_neg (by omega)];omega
 ·rw [if_pos h2]
  rcases Kw a.x b.x with ⟨h3,h4⟩ | ⟨h3,h4⟩ | ⟨h3,h4⟩ <;> omega
 ·rw [if_neg (by omega)];omega
theorem ltC_no {a b:Cl}:ltC a b=false↔¬(a.y<b.y∨(a.y=b.y∧a.x<b.x)):=by
 rw [←MD,Bool.not_eq_true]
theorem IA:SW ltC:=⟨fun a b h=>by rw [MD]at h;rw [ltC_no];omega,fun a b c h k=>by rw [ltC_no]at h k ⊢;omega⟩
theorem Hp {a b:Cl}:B2 ltC a b=true↔a.x=b.x∧a.y=b.y:=by
 rw [FD,ltC_no,ltC_no];omega
theorem Uh {a b:Cl}:decide (Ji a b=0)=B2 ltC a b:=by
 rw [Vr,Hp,decide_eq_true_eq]
 unfold Ji
 rcases Kw a.y b.y with ⟨h1,h2⟩ | ⟨h1,h2⟩ | ⟨h1,h2⟩
 ·rw [if_neg (by omega)];omega
 ·rw [if_pos h2]
  rcases Kw a.x b.x with ⟨h3,h4⟩ | ⟨h3,h4⟩ | ⟨h3,h4⟩ <;> omega
 ·rw [if_neg (by omega)];omega
def PX (l:List Cl):Prop:=l.Pairwise fun a b=>ltC a b=true
theorem mem_tw {p:Cl→Bool}:∀ {l:List Cl} {a:Cl},a∈l.takeWhile p→p a=true
 | [],a,h=>by cases h
 | c::l,a,h=>by
  rw [Xz]at h
  split at h
  ·rename_i hc
   rcases V7.1 h with e | e
   ·rw [e];exact hc
   ·exact mem_tw e
  ·cases h
theorem lastStep_dec {out:List Cl} (c:Cl) (h:PX out):∃T D R,out=T++(D++R)∧Ca out c=T++(c::R)∧(∀a∈T,ltC a c=true)∧(∀a∈R,ltC c a=true)∧∀a∈D,B2 ltC a c=true:=by
 obtain ⟨T,hT⟩:∃T,T=out.takeWhile fun d=>decide (Ji d c<0):=⟨_,rfl⟩
 obtain ⟨D,hD⟩:∃D,D=out.dropWhile fun d=>decide (Ji d c<0):=⟨_,rfl⟩
 have hTD:out=T++D:=by rw [hT,hD,List.takeWhile_append_dropWhile]
 have hp:EE c out=T.length:=by unfold EE;rw [hT]
 have h1:out.take (EE c out)=T:=by rw [hp,hTD,Xk]
 have h2:out.drop (EE c out)=D:=by rw [hp,hTD,Xo]
 have hlt:∀a∈T,ltC a c=true:=fun a ha=>by
  rw [hT]at ha
  exact mem_tw (p:=fun d=>decide (Ji d c<0)) ha
 have hst:=h
 unfold PX at hst
 rw [hTD]at hst
 have hstD:=(Wl.1 hst).2.1
 have hg:out[EE c out]? = D.head? := by
  rw [←List.head?_drop,h2]
 unfold Ca Jy L0
 rw [h1,h2,hg]
 cases hDc:D with
 | nil=>
  refine ⟨T,[],[],by rw [hTD,hDc];simp,by simp,hlt,fun a (ha:a∈[])=>(by cases ha),fun a (ha:a∈[])=>(by cases ha)⟩
 | cons d D'=>
  rw [hDc]at hstD
  rw [WP]at hstD
  have hd:ltC d c=false:=by
   have:=List.head?_dropWhile_not (fun d=>decide (Ji d c<0)) out
   rw [←hD,hDc]at this
   exact this
  have hdc:decide (Ji d c=0)=B2 ltC d c:=Uh
  simp only [List.head?_cons,hdc]
  by_cases he:B2 ltC d c=true
  ·rw [if_pos he]
   refine ⟨T,[d],D',by rw [hTD,hDc];simp,by simp,hlt,fun a ha=>?_,fun a ha=>by rw [Vs]at ha;rw [ha];exact he⟩
   have:=hstD.1 a ha
   rw [Hp]at he
   rw [MD]at this ⊢;omega
  ·rw [if_neg he]
   refine ⟨T,[],d::D',by rw [hTD,hDc];simp,by simp,hlt,fun a ha=>?_,fun a (ha:a∈[])=>(by cases ha)⟩
   have hcd:ltC c d=true:=by
    cases e:ltC c d with
    | true=>rfl
    | false=>exact absurd (FD.2 ⟨hd,e⟩) he
   rcases V7.1 ha with e | e
   ·rw [e];exact hcd
   ·have:=hstD.1 a e
    rw [MD]at this hcd ⊢;omega
theorem lastStep_str {out:List Cl} (c:Cl) (h:PX out):PX (Ca out c)∧∀z,(if B2 ltC z c=true then ((Ca out c).filter (B2 ltC z)).head? = some c else (Ca out c).filter (B2 ltC z)=out.filter (B2 ltC z)):=by
 obtain ⟨T,D,R,e1,e2,hT,hR,hD⟩:=lastStep_dec c h
 have h':=h
 unfold PX at h' ⊢
 rw [e1]at h'
 rw [Wl]at h'
 obtain ⟨p1,p2,p3⟩:=h'
 rw [Wl]at p2
 rw [e2]
 refine ⟨Wl.2 ⟨p1,WP.2 ⟨hR,p2.2.1⟩,fun a ha b hb=>?_⟩,fun z=>?_⟩
 ·rcases V7.1 hb with e | e
  ·rw [e];exact hT a ha
  ·exact p3 a ha b (by simp [e])
 ·by_cases hz:B2 ltC z c=true
  ·rw [if_pos hz,VJ]
   have:T.filter (B2 ltC z)=[]:=Hn fun a ha=>by
    cases e:B2 ltC z a with
    | false=>rfl
    | true=>
     have:=hT a ha
     rw [Hp]at e hz
     rw [MD]at this;omega
   rw [this,List.nil_append,VY,if_pos hz];rfl
  ·rw [if_neg hz,e1,VJ,VJ,VJ,VY,if_neg hz]
   have:D.filter (B2 ltC z)=[]:=Hn fun a ha=>by
    cases e:B2 ltC z a with
    | false=>rfl
    | true=>
     have:=hD a ha
     rw [Hp]at e this
     exact absurd (Hp.2 (by omega)) hz
   rw [this,List.nil_append]
theorem Rw {l:List Cl} (h:PX l) (z:Cl):z∈l↔(l.filter (B2 ltC z)).head? = some z:=by
 constructor
 ·intro hz
  obtain ⟨A,B,rfl⟩:=List.append_of_mem hz
  unfold PX at h
  rw [Wl]at h
  have:A.filter (B2 ltC z)=[]:=Hn fun a ha=>by
   cases e:B2 ltC z a with
   | false=>rfl
   | true=>
    have:=h.2.2 a ha z (by simp)
    rw [Hp]at e
    rw [MD]at this;omega
  rw [VJ,this,List.nil_append,VY,if_pos (LQ IA z)];rfl
 ·intro hz
  exact (VT.1 (List.mem_of_mem_head? hz)).1
theorem IT:∀(l out:List Cl),PX out→PX (l.foldl Ca out)∧∀z,z∈l.foldl Ca out↔((l.reverse++out).filter (B2 ltC z)).head? = some z
 | [],out,h=>⟨h,fun z=>Rw h z⟩
 | c::l,out,h=>by
  obtain ⟨s1,s2⟩:=lastStep_str c h
  obtain ⟨i1,i2⟩:=IT l (Ca out c) s1
  refine ⟨i1,fun z=>?_⟩
  rw [List.foldl_cons,i2 z,XF,Vb,VJ,VJ]
  have hz:=s2 z
  have key:((Ca out c).filter (B2 ltC z)).head? = (([c]++out).filter (B2 ltC z)).head? := by
   by_cases hc:B2 ltC z c=true
   ·rw [if_pos hc]at hz
    rw [hz,List.singleton_append,VY,if_pos hc];rfl
   ·rw [if_neg hc]at hz
    rw [hz,List.singleton_append,VY,if_neg hc]
  rw [List.head?_append,List.head?_append,key]
theorem cp_last {l S:List Cl} (h:En ltC S) (hst:Fh ltC l.reverse S):cpL ltC S=CH l:=by
 obtain ⟨c1,c2⟩:=cpL_ok IA h
 obtain ⟨f1,f2⟩:=IT l [] List.Pairwise.nil
 refine Nz IA _ _ c1 f1 fun z=>?_
 rw [c2 z,←hst z]
 show _↔z∈l.foldl Ca []
 rw [f2 z,V3]
section
variable {p g i j n:Nat} {l l':List Cl} {H:Aa}
def CO (H:Aa) (p g:Nat) (l:List Cl):Prop:=H[p]? = some (.buf g (flat cCl l) A6 5)
def BF (H:Aa) (p g:Nat) (l:List Cl):Aa:=H.set p (.buf g (flat cCl l) A6 5)
abbrev dV (p g n:Nat):Ab:=.ms p g 0 n n 5 false
theorem row_get (h:CO H p g l):A8 H p g=some (flat cCl l):=by
 unfold CO at h
 simp [A8,h]
theorem Cv (h:CO H p g l) (hi:i<l.length):Ac true 5 (.ptr p g (i*5)) H=some (.agg (cCl l[i])):=by
 simp only [Ac,row_get h,Option.bind_some,if_true,Ks hi,Rb hi]
theorem row_st (h:CO H p g l) (hi:i<l.length) (a:Cl):Ag 5 (.ptr p g (i*5)) (.agg (cCl a)) H=some (BF H p g (l.set i a)):=by
 have hs:Fv H p g (flat cCl (l.set i a))=BF H p g (l.set i a):=by
  have h':=h
  unfold CO at h'
  unfold Fv BF
  rw [h']
 simp only [Ag,row_get h,Option.bind_some,MW,show (cCl a).length=5 from rfl,Ks hi,and_self,if_true,Sv hi,hs]
theorem CT (h:CO H p g l):CO (BF H p g l') p g l':=by
 have:p<H.length:=(UV.1 h).1
 unfold CO BF
 rw [Vj this]
theorem Bx:BF (BF H p g l) p g l'=BF H p g l':=by unfold BF;rw [List.set_set]
theorem C6 (h:CO H p g l):BF H p g l=H:=by
 unfold CO at h
 unfold BF
 apply W6
 intro i
 rw [Yd]
 split
 ·rename_i e
  subst e
  rw [h]
  rw [if_pos (UV.1 h).1]
 ·rfl
theorem BQ (h:i<n):At 5 (dV p g n) (.int .i64 (i:Int))=some (.ptr p g (i*5)):=by
 rw [CB h,UY]
theorem swp_eq (hi:i<l.length) (hj:j<l.length):swp l i j=(l.set i l[j]).set j l[i]:=by
 unfold swp
 rw [UU hi,UU hj]
theorem swp_mem {c:Cl} (h:c∈swp l i j):c∈l:=by
 unfold swp at h
 split at h
 ·rename_i a b ha hb
  rcases XC h with h | h
  ·rcases XC h with h | h
   ·exact h
   ·rw [h];exact Vz hb
  ·rw [h];exact Vz ha
 ·exact h
theorem R4 (h:CO H p g l) (hi:i<l.length) (hj:j<l.length):Ag 5 (.ptr p g (i*5)) (.agg (cCl l[j])) H=some (BF H p g (l.set i l[j]))∧Ag 5 (.ptr p g (j*5)) (.agg (cCl l[i])) (BF H p g (l.set i l[j]))=some (BF H p g (swp l i j)):=by
 refine ⟨row_st h hi _,?_⟩
 rw [row_st (CT h) (by rw [VA];exact hj),Bx,swp_eq hi hj]

end
def Ti (orc:Orc) (f:Ab) (l:List Cl):Prop:=∀c∈l,∀d∈l,∀H,D3 orc f [.agg (cCl c),.agg (cCl d)] H=some (.ret (.int .i64 (Ji c d)),H)
theorem insJ_mem (a:Nat) {c:Cl}:∀(j:Nat) (l:List Cl),c∈Kn ltC a j l→c∈l
 | 0,l,h=>h
 | j+1,l,h=>by
  unfold Kn at h
  split at h
  ·exact swp_mem (insJ_mem a j _ h)
  ·exact h
theorem insN_mem (a:Nat) {c:Cl}:∀(k:Nat) (l:List Cl),c∈Q9 ltC a k l→c∈l
 | 0,l,h=>h
 | k+1,l,h=>insN_mem a k l (insJ_mem a _ _ h)
theorem Ku (c d:Cl):decide (Ji c d<0)=ltC c d:=rfl
section
variable {p g a b:Nat} {f:Ab}
theorem ins_l2 {l0:List Cl} {i:Nat} (hf:Ti AB f l0) (B:Aa) (rec1:LK) {l:List Cl} {H:Aa} (h:CO H p g l) (hm:∀c∈l,c∈l0) (hi:i<l.length) (hl:l.length<1000000000) :
  Ao (fun rec2 vs H1=>Sh.f3x B rec1 rec2 (ag vs 0) (ag vs 1) (ag vs 2) (ag vs 3) (ag vs 4) (ag vs 5) H1) AQ [dV p g l.length,.int .i64 (a:Int),.int .i64 (b:Int),f,.int .i64 (i:Int),.int .i64 (i:Int)] H =
   rec1 [dV p g l.length,.int .i64 (a:Int),.int .i64 (b:Int),f,.int .i64 ((i+1:Nat):Int)] (BF H p g (Kn ltC a i l)):=by
 have key:=Br (G:=fun rec2 vs H1=>Sh.f3x B rec1 rec2 (ag vs 0) (ag vs 1) (ag vs 2) (ag vs 3) (ag vs 4) (ag vs 5) H1) (σ:=Nat×List Cl) (fun s=>s.1<l.length∧s.2.length=l.length∧∀c∈s.2,c∈l0)
  (fun s=>[dV p g l.length,.int .i64 (a:Int),.int .i64 (b:Int),f,.int .i64 (i:Int),.int .i64 (s.1:Int)]) (fun s=>BF H p g s.2) (fun s=>s.1)
  (fun s=>rec1 [dV p g l.length,.int .i64 (a:Int),.int .i64 (b:Int),f,.int .i64 ((i+1:Nat):Int)] (BF H p g (Kn ltC a s.1 s.2))) (fun s rec2 hs hrec=>?_) (i,l) ⟨hi,rfl,hm⟩ (by dsimp only;omega)
 ·rw [C6 h]at key;exact key
 ·obtain ⟨j,L⟩:=s
  obtain ⟨h1,h2,h3⟩:=hs
  dsimp only at h1 h2 h3 hrec ⊢
  have hr:CO (BF H p g L) p g L:=CT h
  have hwi:=Aw (show i<9223372036854775807 by omega)
  unfold Sh.f3x
  by_cases hja:a<j
  ·obtain ⟨k,rfl⟩:∃k,j=k+1:=⟨j-1,by omega⟩
   have hg:decide (((k+1:Nat):Int)>(a:Int))=true:=decide_eq_true (by omega)
   have hw:IntKind.i64.wrap (((k+1:Nat):Int)-1)=(k:Int):=by rw [An] <;> omega
   have hk1:k+1<L.length:=by omega
   have hk:k<L.length:=by omega
   have c1:=hf L[k+1] (h3 _ (Vi hk1)) L[k] (h3 _ (Vi hk))
   obtain ⟨s1,s2⟩:=R4 hr hk1 hk
   rw [Bx]at s1 s2
   rw [Bx]at s2
   have hlt:In ltC L (k+1) k=ltC L[k+1] L[k]:=QW hk1 hk
   simp only [Ak,Ai,Bc,Bg,Bw,BG,D5,GMb,GMc,hg,BQ h1,BQ (show k<l.length by omega),Cv hr hk1,Cv hr hk,BR,c1,By,hw,Ku]
   cases hc:ltC L[k+1] L[k]with
   | true=>
    have hins:Kn ltC a (k+1) L=Kn ltC a k (swp L (k+1) k):=by
     conv=>lhs;unfold Kn
     rw [hlt,hc,if_pos ⟨hja,rfl⟩]
    simp only [GMb,GMc,Cv hr hk1,Cv hr hk,BR,BQ h1,BQ (show k<l.length by omega),s1,s2,Bx,hw]
    have hr2:=hrec (k,swp L (k+1) k) ⟨by omega,by rw [M3];exact h2,fun c hc=>h3 c (swp_mem hc)⟩ (Yh _)
    dsimp only at hr2
    rw [hr2,hins]
   | false=>
    have hins:Kn ltC a (k+1) L=L:=by
     unfold Kn
     rw [hlt,hc,if_neg (fun h=>by cases h.2)]
    simp only [GMb,GMc,hwi]
    rw [hins]
  ·have hg:decide ((j:Int)>(a:Int))=false:=decide_eq_false (by omega)
   have hins:Kn ltC a j L=L:=by
    cases j with
    | zero=>rfl
    | succ k=>unfold Kn;rw [if_neg (fun h=>hja h.1)]
   simp only [Ak,Ai,Bc,Bg,Bw,BG,D5,GMb,GMc,hg,hwi]
   rw [hins]
theorem ins_sort {l0:List Cl} (hf:Ti AB f l0) {l:List Cl} {H:Aa} (h:CO H p g l) (hm:∀c∈l,c∈l0) (hab:a≤b) (hb:b≤l.length) (hl:l.length<1000000000) :
  Sh.fk (dV p g l.length) (.int .i64 (a:Int)) (.int .i64 (b:Int)) f H=some (.ret (.tup []),BF H p g (Q9 ltC a (b-a-1) l)):=by
 have hwa:=Aw (show a<9223372036854775807 by omega)
 unfold Sh.fk
 simp only [GMb,GMc,hwa]
 have key:=Br (G:=fun rec1 vs H1=>Sh.f3y H rec1 (ag vs 0) (ag vs 1) (ag vs 2) (ag vs 3) (ag vs 4) H1) (σ:=Nat) (fun k=>k≤b-a-1)
  (fun k=>[dV p g l.length,.int .i64 (a:Int),.int .i64 (b:Int),f,.int .i64 ((a+1+k:Nat):Int)]) (fun k=>BF H p g (Q9 ltC a k l)) (fun k=>b-a-1-k)
  (fun _=>some (.ret (.tup []),BF H p g (Q9 ltC a (b-a-1) l))) (fun k rec hk hrec=>?_) 0 (Vy _) (by omega)
 ·rw [show Q9 ltC a 0 l=l from rfl,C6 h]at key;exact key
 ·unfold Sh.f3y
  have hr:CO (BF H p g (Q9 ltC a k l)) p g (Q9 ltC a k l):=CT h
  have hln:=insN_len (lt:=ltC) a k l
  by_cases hlt:a+1+k<b
  ·have hd:decide (((a+1+k:Nat):Int)<(b:Int))=true:=decide_eq_true (by omega)
   have h2:=ins_l2 (a:=a) (b:=b) (i:=a+1+k) hf H rec hr (fun c hc=>hm c (insN_mem a k l hc)) (by omega) (by omega)
   rw [hln,Bx]at h2
   simp only [Ak,Ai,Bc,Bg,Bw,BG,GMb,GMc,hd]
   rw [h2]
   exact hrec (k+1) (by omega) (by omega)
  ·have hd:decide (((a+1+k:Nat):Int)<(b:Int))=false:=decide_eq_false (by omega)
   have e:k=b-a-1:=by omega
   simp only [Ak,Ai,Bc,Bg,Bw,BG,GMb,GMc,hd]
   rw [←e]
theorem swap_range {l:List Cl} {n:Nat} {H:Aa} (h:CO H p g l) (ha:a+n≤l.length) (hb:b+n≤l.length) (hl:l.length<1000000000) :
  Sh.f1g (dV p g l.length) (.int .i64 (a:Int)) (.int .i64 (b:Int)) (.int .i64 (n:Int)) f H=some (.ret (.tup []),BF H p g (swR a b n l)):=by
 unfold Sh.f1g
 have key:=Cg (G:=fun rec1 vs H1=>Sh.f3z H rec1 (ag vs 0) (ag vs 1) (ag vs 2) (ag vs 3) (ag vs 4) H1) n
  (fun k=>[dV p g l.length,.int .i64 (a:Int),.int .i64 (b:Int),.int .i64 (n:Int),.int .i64 (k:Int)]) (fun k=>BF H p g (swR a b k l)) (some (.ret (.tup []),BF H p g (swR a b n l))) (by omega) (fun rec k hk=>?_) (fun rec=>?_)
 ·rw [show swR a b 0 l=l from rfl,C6 h]at key;exact key
 ·unfold Sh.f3z
  have hr:CO (BF H p g (swR a b k l)) p g (swR a b k l):=CT h
  have hln:=QP a b k l
  have hd:decide ((k:Int)<(n:Int))=true:=decide_eq_true (by omega)
  have hwk:=Aw (show k<9223372036854775807 by omega)
  have hw1:IntKind.i64.wrap ((a:Int)+(k:Int))=((a+k:Nat):Int):=by rw [An] <;> omega
  have hw2:IntKind.i64.wrap ((b:Int)+(k:Int))=((b+k:Nat):Int):=by rw [An] <;> omega
  have i1:a+k<(swR a b k l).length:=by omega
  have i2:b+k<(swR a b k l).length:=by omega
  obtain ⟨s1,s2⟩:=R4 hr i1 i2
  rw [Bx]at s1 s2
  rw [Bx]at s2
  simp only [Ak,Ai,Bc,Bg,Bw,BG,GMb,GMc,hd,hw1,hw2,BQ (show a+k<l.length by omega),BQ (show b+k<l.length by omega),Cv hr i1,Cv hr i2,BR,s1,s2,By,AV,hwk]
  rfl
 ·unfold Sh.f3z
  have hd:decide ((n:Int)<(n:Int))=false:=decide_eq_false (by omega)
  simp only [Ak,Ai,Bc,Bg,Bw,BG,GMb,GMc,hd]
theorem rotate_ok {A B U V:List Cl} {m:Nat} {H:Aa} (h:CO H p g (A++(U++(V++B)))) (ha:a=A.length) (hm:m=a+U.length) (hb:b=m+V.length) (hU:0<U.length) (hV:0<V.length) (hl:(A++(U++(V++B))).length<1000000000) :
  Sh.f28 (dV p g (A++(U++(V++B))).length) (.int .i64 (a:Int)) (.int .i64 (m:Int)) (.int .i64 (b:Int)) f H=some (.ret (.tup []),BF H p g (A++((V++U)++B))):=by
 obtain ⟨l,hL⟩:∃l,l=A++(U++(V++B)):=⟨_,rfl⟩
 have hst:NI A B (V++U) m U.length V.length l:=by rw [hL,hm,ha];exact NI.start hU hV
 rw [←hL]at h hl ⊢
 have hlen:=hst.len
 have hw1:IntKind.i64.wrap ((m:Int)-(a:Int))=(U.length:Int):=by rw [An] <;> omega
 have hw2:IntKind.i64.wrap ((b:Int)-(m:Int))=(V.length:Int):=by rw [An] <;> omega
 unfold Sh.f28
 simp only [GMb,GMc,hw1,hw2]
 have key:=Br (G:=fun rec1 vs H1=>Sh.f6q H rec1 (ag vs 0) (ag vs 1) (ag vs 2) (ag vs 3) (ag vs 4) H1) (σ:=(Nat×Nat)×List Cl) (fun s=>NI A B (V++U) m s.1.1 s.1.2 s.2∧s.2.length=l.length)
  (fun s=>[dV p g l.length,.int .i64 (m:Int),f,.int .i64 (s.1.1:Int),.int .i64 (s.1.2:Int)]) (fun s=>BF H p g s.2) (fun s=>s.1.1+s.1.2)
  (fun _=>some (.ret (.tup []),BF H p g (A++((V++U)++B)))) (fun s rec hs hrec=>?_) ((U.length,V.length),l) ⟨hst,rfl⟩ (by dsimp only;omega)
 ·rw [C6 h]at key;exact key
 ·obtain ⟨⟨i,j⟩,L⟩:=s
  obtain ⟨h1,h2⟩:=hs
  dsimp only at h1 h2 hrec ⊢
  have hr:CO (BF H p g L) p g L:=CT h
  obtain ⟨q1,q2⟩:=h1.len
  obtain ⟨p1,p2⟩:=h1.pos
  have hsw:=fun (x y n:Nat) (h3:x+n≤L.length) (h4:y+n≤L.length)=>swap_range (f:=f) (a:=x) (b:=y) (n:=n) hr h3 h4 (by omega)
  rw [h2]at hsw
  have hwm:IntKind.i64.wrap ((m:Int)-(i:Int))=((m-i:Nat):Int):=by rw [An] <;> omega
  unfold Sh.f6q
  by_cases hij:i=j
  ·subst hij
   have hd:((i:Int) != (i:Int))=false:=by simp
   simp only [Ak,Ai,Bc,Bg,Bw,BG,GMb,GMc,hd,hwm,hsw (m-i) m i (by omega) (by omega),Bx]
   rw [h1.eq]
  ·have hd:((i:Int) != (j:Int))=true:=by simp;omega
   by_cases hgt:j<i
   ·have hd2:decide ((i:Int)>(j:Int))=true:=decide_eq_true (by omega)
    have hwi:IntKind.i64.wrap ((i:Int)-(j:Int))=((i-j:Nat):Int):=by rw [An] <;> omega
    simp only [Ak,Ai,Bc,Bg,Bw,BG,GMb,GMc,hd,hd2,hwm,hwi,hsw (m-i) m j (by omega) (by omega),Bx]
    exact hrec ((i-j,j),swR (m-i) m j L) ⟨h1.hi hgt,by rw [QP];exact h2⟩ (by dsimp only;omega)
   ·have hd2:decide ((i:Int)>(j:Int))=false:=decide_eq_false (by omega)
    have hwi:IntKind.i64.wrap ((j:Int)-(i:Int))=((j-i:Nat):Int):=by rw [An] <;> omega
    have hwj:IntKind.i64.wrap ((m:Int)+(j:Int))=((m+j:Nat):Int):=by rw [An] <;> omega
    have hwk:IntKind.i64.wrap (((m+j:Nat):Int)-(i:Int))=((m+j-i:Nat):Int):=by rw [An] <;> omega
    simp only [Ak,Ai,Bc,Bg,Bw,BG,GMb,GMc,hd,hd2,hwm,hwi,hwj,hwk,hsw (m-i) (m+j-i) i (by omega) (by omega),Bx]
    exact hrec ((i,j-i),swR (m-i) (m+j-i) i L) ⟨h1.lo (by omega),by rw [QP];exact h2⟩ (by dsimp only;omega)

end
def Row1 (v:Ab) (H:Aa) (l:List Nat):Prop:=A5 v=some (.int .i64 (l.length:Int))∧∀(i:Nat) (h:i<l.length),∃p,At 1 v (.int .i64 (i:Int))=some p∧∀G,Ac false 1 p (H++G)=some (.int .u32 (l[i]:Int))
theorem row_ms {l:List Nat} {H:Aa} {id:Nat} (hg:H[id]? = some (.cel 0 (flat cU l))):Row1 (.ms id 0 0 l.length l.length 1 true) H l:=by
 refine ⟨rfl,fun i h=>?_⟩
 have hidx:=CB (sz:=1) (id:=id) (n:=l.length) (K:=.i64) (g:=0) (off:=0) (cap:=l.length) (ex:=true) (i:=i) h
 simp only [UY,Vk]at hidx
 exact ⟨_,hidx,fun G=>BA (HM (f:=cU) (AA hg) h)⟩
theorem q01_bitsR {v:Ab} {H:Aa} {l:List Nat} (hv:Row1 v H l) (hl:l.length≤2199023255552) (hx:Lim l):Sh.f4 v H=some (.ret (.sl (enL cB (Dl (AS l))) .no),H):=by
 unfold Sh.f4
 refine Cg l.length (fun i=>[v,DZ cB H (AS (l.take i)),.int .i64 (i:Int)]) (fun i=>DR cB BT 1 H (AS (l.take i))) _ (by omega) (fun rec i hi=>?_) (fun rec=>?_)
 ·have hi':(i:Int)<(l.length:Int):=by omega
  have hxi:l[i]<4294967296:=hx _ (Vi hi)
  have htk:AS (l.take (i+1))=AS (l.take i)++Dm 32 l[i]:=by
   rw [Vf hi,AS,WL];simp [AS]
  have hlen:(AS (l.take i)).length≤32*2199023255552:=by rw [Cj];simp;omega
  obtain ⟨p,hp1,hp2⟩:=hv.2 i hi
  obtain ⟨G,hG⟩:=GZ (f:=cB) (ty:=BT) (sz:=1) H (AS (l.take i))
  have hld:Ac false 1 p (DR cB BT 1 H (AS (l.take i)))=some (.int .u32 (l[i]:Int)):=by rw [hG];exact hp2 G
  unfold Sh.f2x
  simp only [Ak,Bc,Bg,hv.1,B5,Bm,hi',decide_true,AZ,hp1,hld,htk]
  generalize AS (l.take i)=o at hlen
  generalize l[i]=x at hxi
  refine Br (σ:=Nat×Nat×List Bool) (fun s=>s.1≤32∧s.2.1<4294967296∧s.2.2.length≤o.length+s.1) (fun s=>[v,DZ cB H s.2.2,.int .i64 (i:Int),.int .u32 (s.2.1:Int),.int .i64 (s.1:Int)]) (fun s=>DR cB BT 1 H s.2.2) (fun s=>32-s.1)
   (fun s=>rec [v,DZ cB H (s.2.2++Dm (32-s.1) s.2.1),.int .i64 ((i+1:Nat):Int)] (DR cB BT 1 H (s.2.2++Dm (32-s.1) s.2.1))) (fun s rec2 hs hrec=>?_) (0,x,o) ⟨by dsimp only;omega,hxi,by dsimp only;omega⟩ (by dsimp only;omega)
  obtain ⟨k,y,p⟩:=s
  obtain ⟨hk,hy,hp⟩:=hs
  simp only at hk hy hp hrec ⊢
  unfold Sh.f75
  by_cases h:k<32
  ·have h':(k:Int)<32:=by omega
   have e1:(y:Int).tmod 2=((y%2:Nat):Int):=rfl
   have e2:IntKind.u32.wrap ((y:Int).tdiv 2)=((y / 2:Nat):Int):=by rw [show (y:Int).tdiv 2=((y / 2:Nat):Int) from rfl,CY] <;> omega
   have e3:decide (((y%2:Nat):Int)=1)=(y%2 == 1):=by rw [Vr];simp only [beq_iff_eq,decide_eq_true_eq];omega
   have e4:IntKind.i64.wrap ((k:Int)+1)=((k+1:Nat):Int):=by rw [An] <;> omega
   have:=hrec (k+1,y / 2,p++[y%2 == 1]) ⟨h,by dsimp only;omega,by simp;omega⟩ (by dsimp only;omega)
   simp only [Ak,Bc,Bg,Bw,BG,Bm,h',decide_true,B5,AZ,HT (show (2:Int)≠0 by decide),Rn (show (2:Int)≠0 by decide),e1,e2,DF,G3,e3,Rm]
   rw [EV (by simp) (by simp;omega) (by simp;omega)]
   simp only [Da,CC,Cu,B5,e4,this]
   rw [show 32-k=(32-(k+1))+1 from by omega,Dm];simp
  ·have:k=32:=by omega
   subst this
   have e4:IntKind.i64.wrap ((i:Int)+1)=((i+1:Nat):Int):=by rw [An] <;> omega
   simp [Dm,e4]
 ·unfold Sh.f2x
  obtain ⟨G,hG⟩:=GZ (f:=cB) (ty:=BT) (sz:=1) H (AS l)
  rw [Vg (Va _)]
  simp only [Ak,Bc,Bg,Gh,hG,hv.1,B5,Bm,VV,decide_false,AP,q01_cut (AS l) _ _ (by rw [Cj];omega),CC,Cf,FC,Option.map_some]
theorem q01_normR {v:Ab} {H:Aa} {l:List Nat} (hv:Row1 v H l) (hl:l.length≤1099511627776) (hx:Lim l):Sh.f19 v H=some (.ret (.sl (enL cU (A7 (val l))) .no),H):=by
 have hc:=HR (AS l)
 rw [Cj]at hc
 unfold Sh.f19
 rw [q01_bitsR hv (by omega) hx]
 simp only [EU]
 rw [RB _ _ _ (by omega)]
 simp only [EU,DY,U7,Eu,E9 l hx]
theorem Rt (a:Nat) (l:List Nat):val (a::l)=a+4294967296*val l:=rfl
theorem div_step {m a v:Nat} (hm:0<m):(a+4294967296*v) / m=(v%m*4294967296+a) / m+4294967296*(v / m)∧(a+4294967296*v)%m=(v%m*4294967296+a)%m:=by
 have h:=WU v m
 have e:a+4294967296*v=(v%m*4294967296+a)+m*(4294967296*(v / m)):=by
  conv=>lhs;rw [←h]
  rw [Wk,Nat.mul_left_comm]
  omega
 rw [e,XS _ _ hm,Nat.add_mul_mod_self_left]
 exact ⟨rfl,rfl⟩
theorem quo_lt {m a r:Nat} (hr:r<m) (ha:a<4294967296):(r*4294967296+a) / m<4294967296:=by
 rw [Wv (by omega)]
 have:(r+1)*4294967296≤m*4294967296:=VE _ hr
 omega
theorem q01_div (l:List Nat) (tk:Tok) (m:Nat) (H:Aa) (hl:l.length≤1099511627776) (hx:Lim l) (hm0:0<m) (hm:m<4294967296) :
  Sh.f5v (.sl (enL cU l) tk) (.int .u32 (m:Int)) H=some (.ret (.tup [.sl (enL cU (A7 (val l / m))) .no,.int .u32 ((val l%m:Nat):Int)]),H):=by
 unfold Sh.f5v
 have hm0':¬(m:Int)=0:=by omega
 have hmk:=Fa (f:=cU) (a:=0) (n:=l.length) (bytes:=4) (H:=H) (by omega) (by omega)
 simp only [show cU 0=[Ab.int .u32 0] from rfl]at hmk
 have hcm:∀n:Int,AK .u64 (.int .u32 (m:Int))=some (.int .u64 (m:Int)):=fun _=>by rw [B7,CD (by omega) (by omega)]
 simp only [GMb,GMc,hm0',Au,hmk]
 have hw0:IntKind.i64.wrap ((l.length:Int)-1)=(l.length:Int)-1:=An (by omega) (by omega)
 rw [hw0]
 have key:=Br (G:=fun rec1 vs H1=>Sh.f7a H rec1 (ag vs 0) (ag vs 1) (ag vs 2) (ag vs 3) (ag vs 4) H1) (σ:=Nat×List Nat) (fun s=>s.1≤l.length∧s.2.length=l.length∧Lim s.2∧val (s.2.drop s.1)=val (l.drop s.1) / m)
  (fun s=>[.sl (enL cU l) tk,.int .u32 (m:Int),.ms H.length 0 0 l.length l.length 1 true,.int .u64 ((val (l.drop s.1)%m:Nat):Int),.int .i64 ((s.1:Int)-1)]) (fun s=>H++[.cel 0 (flat cU s.2)]) (fun s=>s.1)
  (fun _=>some (.ret (.tup [.sl (enL cU (A7 (val l / m))) .no,.int .u32 ((val l%m:Nat):Int)]),H)) (fun s rec hs hrec=>?_) (l.length,List.replicate l.length 0) ⟨Va _,by simp,fun x hx=>by have:=(Xd.1 hx).2;omega,by simp [val]⟩ (by dsimp only;omega)
 ·simp only [Yj,show val []=0 from rfl,Nat.zero_mod]at key
  exact key
 ·obtain ⟨k,O⟩:=s
  obtain ⟨h1,h2,h3,h4⟩:=hs
  simp only at h1 h2 h3 h4 hrec ⊢
  unfold Sh.f7a
  cases k with
  | zero=>
   have hrow:=row_ms (l:=O) (H:=H++[Blk.cel 0 (flat cU O)]) (id:=H.length) Ap
   rw [h2]at hrow
   have hn:=q01_normR hrow (by omega) h3
   have hv:val O=val l / m:=by simpa using h4
   have hlt:val l%m<m:=W9 _ hm0
   have hcv:AK .u32 (.int .u64 ((val l%m:Nat):Int))=some (.int .u32 ((val l%m:Nat):Int)):=by rw [B7,CY (by omega) (by omega)]
   simp only [GMb,GMc,Ai,show ¬(((0:Nat):Int)-1≥0) from by decide,hn,WB,hcv,hv,Cf,CQ,BN,Cd,Iu,Fe,Option.map_some]
  | succ j=>
   have hj:j<l.length:=h1
   have hi:((j+1:Nat):Int)-1=(j:Int):=by omega
   have ha:=hx _ (Vi hj)
   have hd:l.drop j=l[j]::l.drop (j+1):=V4 hj
   have hr:val (l.drop (j+1))%m<m:=W9 _ hm0
   obtain ⟨s1,s2⟩:=div_step (m:=m) (a:=l[j]) (v:=val (l.drop (j+1))) hm0
   have hq:=quo_lt (m:=m) (a:=l[j]) (r:=val (l.drop (j+1))%m) hr ha
   have hmul:val (l.drop (j+1))%m*4294967296≤4294967295*4294967296:=VE _ (by omega)
   generalize hrr:val (l.drop (j+1))%m=r at *
   have w1:IntKind.u64.wrap ((r:Int)*4294967296)=((r*4294967296:Nat):Int):=by rw [CD] <;> omega
   have w2:AK .u64 (.int .u32 (l[j]:Int))=some (.int .u64 (l[j]:Int)):=by rw [B7,CD (by omega) (by omega)]
   have w3:IntKind.u64.wrap (((r*4294967296:Nat):Int)+(l[j]:Int))=((r*4294967296+l[j]:Nat):Int):=by rw [CD] <;> omega
   have w4:IntKind.u64.wrap (((r*4294967296+l[j]:Nat):Int).tdiv (m:Int))=(((r*4294967296+l[j]) / m:Nat):Int):=by
    rw [show (((r*4294967296+l[j]:Nat):Int).tdiv (m:Int))=(((r*4294967296+l[j]) / m:Nat):Int) from rfl,CD (Wq _) (Int.lt_of_lt_of_le (Int.ofNat_lt.2 hq) (by decide))]
   have w5:AK .u32 (.int .u64 (((r*4294967296+l[j]) / m:Nat):Int))=some (.int .u32 (((r*4294967296+l[j]) / m:Nat):Int)):=by rw [B7,CY (Wq _) (Int.ofNat_lt.2 hq)]
   have w6:(((r*4294967296+l[j]:Nat):Int).tmod (m:Int))=(((r*4294967296+l[j])%m:Nat):Int):=rfl
   have w7:IntKind.i64.wrap ((j:Int)-1)=(j:Int)-1:=An (by omega) (by omega)
   have hidx:=CB (sz:=1) (id:=H.length) (n:=l.length) (K:=.i64) (g:=0) (off:=0) (cap:=l.length) (ex:=true) (i:=j) hj
   simp only [UY,Vk]at hidx
   have hst:=DG (f:=cU) (sz:=1) (l:=O) (i:=j) (a:=(r*4294967296+l[j]) / m) (v:=.int .u32 (((r*4294967296+l[j]) / m:Nat):Int)) (H:=H++[Blk.cel 0 (flat cU O)]) (id:=H.length) (AA Ap) (by omega) rfl
   rw [Vk,B9 Ap,Bh]at hst
   have hge:((j:Int)≥0):=by omega
   have hmz:(m:Int)≠0:=hm0'
   have:=hrec (j,O.set j ((r*4294967296+l[j]) / m)) ⟨by omega,by simp [h2],fun x hxx=>by
     rcases XC hxx with h | h
     ·exact h3 x h
     ·rw [h];exact hq,by
     dsimp only
     rw [hd,Rt,s1,List.drop_set,if_neg (by omega),V9,V4 (by omega:j<O.length),List.set_cons_zero,Rt,h4]⟩ (by dsimp only;omega)
   dsimp only at this
   rw [hd,Rt,s2]at this
   rw [hi]
   simp only [GMb,GMc,Ai,hge,w1,Ay hj,AC,List.getElem?_cons_zero,w2,w3,hcm 0,Rn hmz,w4,w5,hidx,hst,and_true,eq_self,HT hmz,w6,w7]
   exact this
def Dx (n:Nat):List UInt8:=if h:n<10 then [UInt8.ofNat (48+n)]else Dx (n / 10)++[UInt8.ofNat (48+n%10)]
termination_by n
decreasing_by omega
def DA (z:Int):List UInt8:=if z<0 then 45::Dx z.natAbs else Dx z.natAbs
theorem decN_log:∀(k n:Nat),n<10^(k+1)→(Dx n).length≤k+1:=by
 intro k
 induction k with
 | zero=>intro n h;unfold Dx;rw [dif_pos (by omega)];simp
 | succ k ih=>
  intro n h
  unfold Dx
  split
  ·simp
  ·have h2:n / 10<10^(k+1):=by
    rw [Wv (by omega),←Nat.pow_succ];exact h
   have:=ih (n / 10) h2
   simp;omega
theorem PI (k n:Nat) (h:n<10^k):(Dx n).length≤k+(if k=0 then 1 else 0):=by
 cases k with
 | zero=>have:=decN_log 0 n (by omega);simpa using this
 | succ k=>have:=decN_log k n h;simpa using this
theorem digit_u8 {d:Nat} (h:d<10):AK .u8 (.int .u32 (IntKind.u32.wrap (48+(d:Int))))=some (.int .u8 ((UInt8.ofNat (48+d)).toNat:Int)):=by
 rw [B7,CY (by omega) (by omega),QL (by omega) (by omega),Wy (show 48+d<256 by omega)]
 rfl
theorem pow10_32 (k:Nat):10^k≤4294967296^k:=Nat.pow_le_pow_left (by omega) k
theorem Sc {n:Nat} (h:n<10^4096):(A7 n).length≤4096:=EG (VR h (pow10_32 4096))
theorem q03_text (z:Int) (H:Aa) (hz:z.natAbs<10^4096):Sh.f37 (big z) H=some (.ret (.str (DA z)),H):=by
 unfold Sh.f37
 have g0:Ac false 1 (.ptr H.length 0 0) (H++[Blk.cel 0 (A9 z)])=some (.bool (decide (z<0))):=by simp only [Ac,AA Ap,Option.bind_some];rfl
 have g1:Ac false 1 (.ptr H.length 0 1) (H++[Blk.cel 0 (A9 z)])=some (.sl (enL cU (A7 z.natAbs)) .no):=by simp only [Ac,AA Ap,Option.bind_some];rfl
 simp only [GMb,GMc,D8,Ah,UY,g1]
 have hmeas:∀n:Nat,n<10^4096→(Dx n).length≤4096:=fun n h=>PI 4096 n h
 have key:=Br (G:=fun rec1 vs H1=>Sh.f7b H rec1 (ag vs 0) (ag vs 1) (ag vs 2) H1) (σ:=Nat×List UInt8) (fun s=>s.1<10^4096∧s.2.length+(Dx s.1).length≤5000)
  (fun s=>[.ptr H.length 0 0,.str s.2,.sl (enL cU (A7 s.1)) .no]) (fun _=>H++[.cel 0 (A9 z)]) (fun s=>(Dx s.1).length)
  (fun s=>some (.ret (.str ((if z<0 then [45]else [])++Dx s.1++s.2)),H)) (fun s rec hs hrec=>?_) (z.natAbs,[]) ⟨hz,by have:=hmeas _ hz;simp;omega⟩ (by have:=hmeas _ hz;dsimp only;omega)
 ·refine key.trans ?_
  unfold DA
  dsimp only
  split <;> simp
 ·obtain ⟨n,s⟩:=s
  obtain ⟨h1,h2⟩:=hs
  simp only at h1 h2 hrec ⊢
  have hdiv:=fun H=>q01_div (A7 n) .no 10 H (by have:=Sc h1;omega) (Bt n) (by omega) (by omega)
  simp only [Bz,show ((10:Nat):Int)=10 from rfl]at hdiv
  have hd:n%10<10:=W9 _ (by omega)
  have hdig:=digit_u8 hd
  unfold Sh.f7b
  simp only [GMb,GMc,Ai,hdiv,B3,BB,hdig,build_Y,toStr_enL]
  rw [FA (by simp;omega)]
  simp only [GMb,GMc,Au]
  by_cases hn:n<10
  ·have h0:n / 10=0:=by omega
   have hm:n%10=n:=by omega
   have hdn:Dx n=[UInt8.ofNat (48+n)]:=by unfold Dx;rw [dif_pos hn]
   rw [hdn,h0,DJ,hm]
   simp only [GMb,GMc,List.length_nil,show ((0:Nat):Int)=0 from rfl,Ah,Nat.add_zero,g0]
   by_cases hz0:z<0
   ·simp only [hz0,GMb,GMc]
    rw [FA (by simp;omega)]
    simp only [GMb,GMc,rP_str]
    simp
   ·simp only [hz0,GMb,GMc,rP_str]
    simp
  ·have h0:n / 10≠0:=by omega
   have hne:¬((A7 (n / 10)).length:Int)=0:=by
    have:=VC.2 (On h0);omega
   have hdn:Dx n=Dx (n / 10)++[UInt8.ofNat (48+n%10)]:=by
    conv=>lhs;unfold Dx
    rw [dif_neg hn]
   have hlen:(Dx n).length=(Dx (n / 10)).length+1:=by rw [hdn];simp
   have:=hrec (n / 10,[UInt8.ofNat (48+n%10)]++s) ⟨VN (Nat.div_le_self _ _) h1,by simp;omega⟩ (by dsimp only;omega)
   simp only [hne,GMb,GMc]
   rw [this,hdn]
   simp
def qa (v:Nat) (x:Int) (k:Nat):Int:=if k%2=1 then x+2^(v-1)else x
def qb (v:Nat) (y:Int) (k:Nat):Int:=if 1<k then y+2^(v-1)else y
def inQ (v:Nat) (a b:Int) (c:Cl):Bool:=decide (a≤c.x)&&decide (c.x<a+2^(v-1))&&decide (b≤c.y)&&decide (c.y<b+2^(v-1))
def Bn (v:Nat) (x y:Int) (k:Nat) (l:List Cl):List Cl:=l.filter (inQ v (qa v x k) (qb v y k))
def F2:List Cl→Int
 | []=>0
 | c::_=>(c.s.toNat:Int)
def plK (rec:List Nd→Int→Int→List Cl→List Nd×Nat) (v:Nat) (x y:Int) (l:List Cl):Nat→List Nd→List Nd×Nd
 | 0,out=>(out,⟨v,0,0,0,0⟩)
 | k+1,out=>
  if v=1 then ((plK rec v x y l k out).1,(plK rec v x y l k out).2.setKid k (F2 (Bn v x y k l)))
  else ((rec (plK rec v x y l k out).1 (qa v x k) (qb v y k) (Bn v x y k l)).1,(plK rec v x y l k out).2.setKid k ((rec (plK rec v x y l k out).1 (qa v x k) (qb v y k) (Bn v x y k l)).2:Int))
def AO:Nat→List Nd→Int→Int→List Cl→List Nd×Nat
 | 0,out,_,_,_=>(out,0)
 | v+1,out,x,y,l=>if l=[]then (out,0)else ((plK (AO v) (v+1) x y l 4 out).1++[(plK (AO v) (v+1) x y l 4 out).2],(plK (AO v) (v+1) x y l 4 out).1.length+1)
def Ma (v:Nat) (x y:Int) (l:List Cl):Nat→Nat
 | 0=>0
 | k+1=>Ma v x y l k+(Bn v x y k l).length
theorem pow_half (v:Nat):(0:Int)<2^(v-1):=Xh (by omega)
theorem Rj (v:Nat) (x y:Int):∀l:List Cl,Ma v x y l 4≤l.length
 | []=>by simp [Ma,Bn]
 | c::l=>by
  have ih:=Rj v x y l
  have hif:∀(p:Bool) (m:List Cl),(if p=true then c::m else m).length=(if p=true then 1 else 0)+m.length:=fun p m=>by cases p <;> simp <;> omega
  simp only [Ma,Bn,VY,qa,qb,hif]at ih ⊢
  simp only [show (0:Nat)%2=0 from rfl,show (1:Nat)%2=1 from rfl,show (2:Nat)%2=0 from rfl,show (3:Nat)%2=1 from rfl,show ¬(1:Nat)<0 from by omega,show ¬(1:Nat)<1 from by omega,show (1:Nat)<2 from by omega,show (1:Nat)<3 from by omega,if_true,if_false,show ¬(0:Nat)=1 from by omega]at ih ⊢
  have key:(if inQ v x y c then 1 else 0)+(if inQ v (x+2^(v-1)) y c then 1 else 0)+(if inQ v x (y+2^(v-1)) c then 1 else 0)+(if inQ v (x+2^(v-1)) (y+2^(v-1)) c then 1 else 0)≤1:=by
   unfold inQ
   have hp:=pow_half v
   generalize (2:Int)^(v-1)=h at hp
   simp only [Vh,decide_eq_true_eq]
   split <;> split <;> split <;> split <;> first | omega | (exfalso;omega)
  simp only [List.length_cons]
  omega
theorem cntQ_mono (v:Nat) (x y:Int) (l:List Cl) {k:Nat} (h:k≤4):Ma v x y l k≤l.length:=by
 have h4:=Rj v x y l
 match k,h with
 | 0,_=>simp [Ma]
 | 1,_=>simp only [Ma]at h4 ⊢;omega
 | 2,_=>simp only [Ma]at h4 ⊢;omega
 | 3,_=>simp only [Ma]at h4 ⊢;omega
 | 4,_=>exact h4

mutual
theorem Ph:∀(v:Nat) (out:List Nd) (x y:Int) (l:List Cl),(AO v out x y l).1.length≤out.length+l.length*v
 | 0,out,x,y,l=>by simp [AO]
 | v+1,out,x,y,l=>by
  unfold AO
  split
  ·simp
  ·rename_i hl
   have h:=QR v out x y l 4 (Va _)
   have hc:=Rj (v+1) x y l
   have hpos:0<l.length:=VC.2 hl
   have:Ma (v+1) x y l 4*v≤l.length*v:=VE _ hc
   have e:l.length*(v+1)=l.length*v+l.length:=Nat.mul_succ _ _
   simp only [Vc,List.length_singleton]
   omega
theorem QR:∀(v:Nat) (out:List Nd) (x y:Int) (l:List Cl) (k:Nat),k≤4→(plK (AO v) (v+1) x y l k out).1.length≤out.length+Ma (v+1) x y l k*v
 | v,out,x,y,l,0,_=>by simp [plK,Ma]
 | v,out,x,y,l,k+1,h=>by
  have ih:=QR v out x y l k (by omega)
  unfold plK Ma
  rw [VM]
  split
  ·dsimp only;omega
  ·have:=Ph v (plK (AO v) (v+1) x y l k out).1 (qa (v+1) x k) (qb (v+1) y k) (Bn (v+1) x y k l)
   dsimp only;omega

end
def PS (b:Nat) (out:List Nd) (v:Ab) (H:Aa):Prop:=(out=[]∧v=.sl [] .tight)∨∃t,b≤t∧v=.sl (enL cNd out) (.own t)∧H[t]? = some (.tok out.length AM 5)
structure Kp (b:Nat) (H H':Aa):Prop where
 len:H.length≤H'.length
 cel:∀(i:Nat) (cs:List Ab),H[i]? = some (.cel 0 cs)→H'[i]? = some (.cel 0 cs)
 old:∀i,i<b→H'[i]? = H[i]?
theorem Kp.refl (b:Nat) (H:Aa):Kp b H H:=⟨Va _,fun _ _ h=>h,fun _ _=>rfl⟩
theorem Kp.trans {b:Nat} {H H1 H2:Aa} (h:Kp b H H1) (h':Kp b H1 H2):Kp b H H2:=
 ⟨Vw h.len h'.len,fun i cs hc=>h'.cel i cs (h.cel i cs hc),fun i hi=>(h'.old i hi).trans (h.old i hi)⟩
theorem Kp.app {b:Nat} {H:Aa} (hb:b≤H.length) (G:Aa):Kp b H (H++G):=
 ⟨by simp,fun i cs h=>A1 h,fun i hi=>by rw [UW (by omega)]⟩
theorem PS.sl {b:Nat} {out:List Nd} {v:Ab} {H:Aa} (h:PS b out v H):∃tk,v=.sl (enL cNd out) tk:=by
 rcases h with ⟨rfl,rfl⟩ | ⟨t,_,rfl,_⟩
 ·exact ⟨_,rfl⟩
 ·exact ⟨_,rfl⟩
theorem PS.left {b:Nat} {out:List Nd} {v:Ab} {H:Aa} (h:PS b out v H) (G:Aa):PS b out v (H++G):=by
 rcases h with h1 | ⟨t,h1,h2,h3⟩
 ·exact .inl h1
 ·exact .inr ⟨t,h1,h2,A1 h3⟩
theorem PS.put {b p:Nat} {out:List Nd} {v:Ab} {H:Aa} {c c':List Ab} (h:PS b out v H) (hp:H[p]? = some (.cel 0 c)):PS b out v (H.set p (.cel 0 c')):=by
 rcases h with h1 | ⟨t,h1,h2,h3⟩
 ·exact .inl h1
 ·refine .inr ⟨t,h1,h2,?_⟩
  have:p≠t:=fun e=>by rw [←e,hp]at h3;cases h3
  rw [UX this];exact h3
theorem PS.snoc {b:Nat} {out:List Nd} {v:Ab} {H:Aa} (h:PS b out v H) (hb:b≤H.length) (x:Nd) (hl:out.length<3518437208883) :
  ∃v' H',AW AM 5 40 v (.sl (enL cNd [x]) .tight) H=some (v',H')∧PS b (out++[x]) v' H'∧Kp b H H':=by
 rcases h with ⟨rfl,rfl⟩ | ⟨t,h1,rfl,h3⟩
 ·have:=C4 (f:=cNd) (l:=[]) (m:=[x]) (ty:=AM) (bytes:=40) (tk:=.tight) (H:=H) (by simp) (by simp) (by simp)
  exact ⟨_,_,this,.inr ⟨H.length,hb,rfl,by simp⟩,Kp.app hb _⟩
 ·have:=Em (f:=cNd) (l:=out) (m:=[x]) (ty:=AM) (bytes:=40) (tk:=.tight) (H:=H) (t:=t) (by simp) h3 (by simp;omega) (by simp;omega)
  have htl:=(UV.1 h3).1
  refine ⟨_,_,this,.inr ⟨t,h1,rfl,by simp [htl]⟩,⟨by simp,fun i cs hc=>?_,fun i hi=>?_⟩⟩
  ·have:t≠i:=fun e=>by rw [←e,h3]at hc;cases hc
   rw [UX this];exact hc
  ·rw [UX (by omega)]
def TOPk (k:Nat):Nat:=2^k
def TOP:Nat:=TOPk 1400
theorem topk_lt {k m:Nat} (h:k<32*m):TOPk k<4294967296^m:=RG h
theorem topk_ge {v k:Nat} (h:v≤k):2^v≤TOPk k:=pow2_le h
theorem top_lt:TOP<4294967296^44:=topk_lt (by decide)
theorem top_ge {v:Nat} (h:v≤1400):2^v≤TOP:=topk_ge h
def Cn (v:Nat) (z:Int):Prop:=z.natAbs+2^v≤TOP
theorem JQ (v:Nat):((2:Int)^v).natAbs=2^v:=by rw [XA];rfl
theorem Cn.sb {v:Nat} {z:Int} (h:Cn v z):SB 44 z:=by
 exact VN (Vw (Xq _ _) h) top_lt
theorem Cn.add {v:Nat} {z:Int} (h:Cn (v+1) z):Cn v (z+2^v)∧Cn v z:=by
 unfold Cn at *
 have e:(2:Nat)^(v+1)=2^v*2:=Nat.pow_succ _ _
 have h1:=Ye z (2^v)
 rw [JQ]at h1
 omega
theorem GX {v:Nat} (h:v≤1400):SB 44 (2^v):=by
 unfold SB
 rw [JQ]
 exact VN (top_ge h) top_lt
theorem Cn.sb1 {v:Nat} {z:Int} (h:Cn (v+1) z):SB 44 (z+2^v)∧SB 44 (z+2^v+2^v):=by
 refine ⟨h.add.1.sb,?_⟩
 unfold Cn at h
 have e:(2:Nat)^(v+1)=2^v*2:=Nat.pow_succ _ _
 have h1:=Ye z (2^v)
 have h2:=Ye (z+2^v) (2^v)
 rw [JQ]at h1 h2
 exact VN (show (z+2^v+2^v).natAbs≤TOP by omega) top_lt
section
variable {Hc:Aa} {a c:List Ab} {z:Int}
theorem st0 (ha:a.length=2):Ag 2 (.ptr Hc.length 0 0) (big z) (Hc++[Blk.cel 0 a]++[Blk.cel 0 c])=some (Hc++[Blk.cel 0 (A9 z)]++[Blk.cel 0 c]):=by
 rw [Cx (cs:=a) (by simp) ha];simp
theorem st1 (hc:c.length=2):Ag 2 (.ptr (Hc.length+1) 0 0) (big z) (Hc++[Blk.cel 0 a]++[Blk.cel 0 c])=some (Hc++[Blk.cel 0 a]++[Blk.cel 0 (A9 z)]):=by
 rw [Cx (cs:=c) (by simp) hc];simp

end
theorem place_gather (H:Aa) (self:Ab→Ab→Ab→Ab→Ab→Aa→Out) (j2:LK) (v:Nat) (hv:v≤1329) (w:Ab) (l:List Cl) (tk:Tok) (p6 p8 p15 p20 p45 p47 k:Nat) (B:Aa) (qa qb:Int) (out:Out)
  (hl:l.length<549755813888) (hok:∀c∈l,c.ok) (h15:B[p15]? = some (.cel 0 (A9 (2^(v-1))))) (h45:B[p45]? = some (.cel 0 (A9 qa))) (h47:B[p47]? = some (.cel 0 (A9 qb)))
  (ca:SB 44 qa∧SB 44 (qa+2^(v-1))) (cb:SB 44 qb∧SB 44 (qb+2^(v-1)))
  (fin:∀rec5:LK,Sh.fy H self j2 rec5 w (.int .i64 (v:Int)) (.sl (enL cCl l) tk) (.ptr p6 0 0) (.ptr p8 0 0) (.ptr p15 0 0) (.ptr p20 0 0) (.int .i64 (k:Int)) (.ptr p45 0 0) (.ptr p47 0 0) (DZ cCl B (l.filter (inQ v qa qb))) (.int .i64 (l.length:Int)) (DR cCl A6 5 B (l.filter (inQ v qa qb)))=out) :
  Sh.f60 H self j2 w (.int .i64 (v:Int)) (.sl (enL cCl l) tk) (.ptr p6 0 0) (.ptr p8 0 0) (.ptr p15 0 0) (.ptr p20 0 0) (.int .i64 (k:Int)) (.ptr p45 0 0) (.ptr p47 0 0) B=out:=by
 unfold Sh.f60
 refine Cg (G:=fun rec5 vs H1=>Sh.fy H self j2 rec5 (ag vs 0) (ag vs 1) (ag vs 2) (ag vs 3) (ag vs 4) (ag vs 5) (ag vs 6) (ag vs 7) (ag vs 8) (ag vs 9) (ag vs 10) (ag vs 11) H1) l.length
  (fun i=>[w,.int .i64 (v:Int),.sl (enL cCl l) tk,.ptr p6 0 0,.ptr p8 0 0,.ptr p15 0 0,.ptr p20 0 0,.int .i64 (k:Int),.ptr p45 0 0,.ptr p47 0 0,DZ cCl B ((l.take i).filter (inQ v qa qb)),.int .i64 (i:Int)]) (fun i=>DR cCl A6 5 B ((l.take i).filter (inQ v qa qb))) _ (by omega) (fun rec i hi=>?_) (fun rec=>?_)
 ·have hi':(i:Int)<(l.length:Int):=by omega
  have hws:=Aw (show i<9223372036854775807 by omega)
  have hco:=hok _ (Vi hi)
  rw [Vf hi,VJ]
  have hfl:((l.take i).filter (inQ v qa qb)).length≤i:=Vw (Wi _ _) (by simp;omega)
  generalize ((l.take i).filter (inQ v qa qb))=fo at hfl
  obtain ⟨G,hG⟩:=GZ (f:=cCl) (ty:=A6) (sz:=5) B fo
  have t15:=Bb (A1 (G:=G) h15)
  have t45:=Bb (A1 (G:=G) h45)
  have t47:=Bb (A1 (G:=G) h47)
  have ha:=EV (f:=cCl) (ty:=A6) (bytes:=72) (tk:=.tight) (B:=B) (l:=fo) (m:=[l[i]]) (by simp) (by simp;omega) (by simp;omega)
  rw [hG]at ha ⊢
  have hp:SB 44 (2^(v-1)):=GX (by omega)
  have cx:=fun H z (hz:SB 44 z)=>Ge l[i].x z H (hco.1.lb (by decide)) (hz.lb (by decide))
  have cy:=fun H z (hz:SB 44 z)=>Ge l[i].y z H (hco.2.lb (by decide)) (hz.lb (by decide))
  have ad:=fun H z (hz:SB 44 z)=>Jz z (2^(v-1)) H (hz.lb (by decide)) (hp.lb (by decide))
  generalize hc:l[i]=cl at hco cx cy ha
  unfold Sh.fy
  have hidx:=Ay (f:=cCl) (tk:=tk) (K:=.i64) hi
  rw [hc]at hidx
  have e0:∀(s:Bool),inQ v qa qb cl=s→(if s then [cl]else [])=[cl].filter (inQ v qa qb):=fun s h=>by subst h;simp [VY]
  simp only [GMb,GMc,Ai,Au,hi',hidx,Al,UY,Oj,Oi,t15,t45,t47,cx _ _ ca.1,MS,Sh.f1c,hws]
  cases h1:decide (qa≤cl.x)with
  | false=>
   rw [←e0 false (by simp [inQ,h1])]
   simp only [GMb,GMc,Ai,Oz,and_true,eq_self,Sh.f1c,hws,V3,hG]
  | true=>
   simp only [GMb,GMc,Ai,Ra,and_true,eq_self,t15,t45,t47,ad _ _ ca.1,hidx,Al,UY,Oj,Oi,cx _ _ ca.2,Gq]
   cases h2:decide (cl.x<qa+2^(v-1))with
   | false=>
    rw [←e0 false (by simp [inQ,h2])]
    simp only [GMb,GMc,Ai,Oz,and_true,eq_self,Sh.f1c,hws,V3,hG]
   | true=>
    simp only [GMb,GMc,Ai,Ra,and_true,eq_self,t15,t45,t47,hidx,Al,UY,Oj,Oi,cy _ _ cb.1,MS]
    cases h3:decide (qb≤cl.y)with
    | false=>
     rw [←e0 false (by simp [inQ,h3])]
     simp only [GMb,GMc,Ai,Oz,and_true,eq_self,Sh.f1c,hws,V3,hG]
    | true=>
     simp only [GMb,GMc,Ai,Ra,and_true,eq_self,t15,t45,t47,ad _ _ cb.1,hidx,Al,UY,Oj,Oi,cy _ _ cb.2,Gq]
     cases h4:decide (cl.y<qb+2^(v-1))with
     | false=>
      rw [←e0 false (by simp [inQ,h4])]
      simp only [GMb,GMc,Ai,Sh.f1c,hws,V3,hG]
     | true=>
      rw [←e0 true (by unfold inQ;rw [h1,h2,h3,h4];rfl)]
      simp only [GMb,GMc,Ai,hidx,Ol,Mq,ha,Sh.f1c,hws]
 ·rw [Vg (Va _)]
  exact fin rec
end Go.Gm
