/- Texts of this proof, joined. -/
import Derived.Test.YtagddbecnkbcdaaGreatJ2
import Derived.Test.YtagddbecnkbcdaaGreatJ3
import Derived.Test.YtagddbecnkbcdaaGreatJ4
set_option linter.all false
namespace Go.Gm
section
variable {p g i j n:Nat}{l l':List Cl}{H:Aa}
def Dc (H:Aa)(p g:Nat)(l:List Cl):Prop:=H[p]? = some (.buf g (flat cCl l) AG 5)
def BL (H:Aa)(p g:Nat)(l:List Cl):Aa:=H.set p (.buf g (flat cCl l) AG 5)
abbrev dV (p g n:Nat):Ab:=.ms p g 0 n n 5 false
theorem row_get (h:Dc H p g l):AC H p g=some (flat cCl l):=by
 unfold Dc at h;simp[AC,h]
theorem C5 (h:Dc H p g l)(hi:i<l.length):Ac true 5 (.ptr p g (i*5)) H=some (.agg (cCl l[i])):=by
 simp only[Ac,row_get h,zXa,if_true,KO hi,RK hi]
theorem row_st (h:Dc H p g l)(hi:i<l.length)(a:Cl):Af 5 (.ptr p g (i*5)) (.agg (cCl a)) H=some (BL H p g (l.set i a)):=by
 have hs:FO H p g (flat cCl (l.set i a))=BL H p g (l.set i a):=by
  have h':=h;unfold Dc at h';unfold FO BL;rw[h']
 simp only[Af,row_get h,zXa,Ny,show (cCl a).length=5 from rfl,KO hi,and_self,if_true,Tm hi,hs]
theorem Di (h:Dc H p g l):Dc (BL H p g l') p g l':=by
 have:p<H.length:=(VP.1 h).1;unfold Dc BL;rw[Wf this]
theorem B7:BL (BL H p g l) p g l'=BL H p g l':=by unfold BL;rw[Y4]
theorem CE (h:Dc H p g l):BL H p g l=H:=by
 unfold Dc at h;unfold BL;apply Xx;intro i;rw[YN];split
 ·rename_i e;subst e;rw[h];rw[if_pos (VP.1 h).1]
 ·rfl
theorem BW (h:i<n):Av 5 (dV p g n) (.i6 (i:Int))=some (.ptr p g (i*5)):=by
 rw[CL h,VU]
theorem swp_eq (hi:i<l.length)(hj:j<l.length):swp l i j=(l.set i l[j]).set j l[i]:=by
 unfold swp;rw[VO hi,VO hj]
theorem swp_mem {c:Cl}(h:c∈swp l i j):c∈l:=by
 unfold swp at h;split at h
 ·rename_i a b ha hb;rcases Ys h with h | h
  ·rcases Ys h with h | h
   ·exact h
   ·rw[h];exact Wr hb
  ·rw[h];exact Wr ha
 ·exact h
theorem Sr (h:Dc H p g l)(hi:i<l.length)(hj:j<l.length):Af 5 (.ptr p g (i*5)) (.agg (cCl l[j])) H=some (BL H p g (l.set i l[j]))/\Af 5 (.ptr p g (j*5)) (.agg (cCl l[i])) (BL H p g (l.set i l[j]))=some (BL H p g (swp l i j)):=by
 refine⟨row_st h hi _,?_⟩;rw[row_st (Di h) (by rw[zYa];exact hj),B7,swp_eq hi hj]

end
def TW (orc:Orc)(f:Ab)(l:List Cl):Prop:=∀c∈l,∀d∈l,∀H,DF orc f [.agg (cCl c),.agg (cCl d)] H=some (.ret (.i6 (JD c d)),H)
theorem insJ_mem (a:Nat){c:Cl}:∀(j:Nat) (l:List Cl),c∈KJ ltC a j l->c∈l
 | 0,l,h=>h
 | j+1,l,h=>by
  unfold KJ at h;split at h
  ·exact swp_mem (insJ_mem a j _ h)
  ·exact h
theorem insN_mem (a:Nat){c:Cl}:∀(k:Nat) (l:List Cl),c∈Ro ltC a k l->c∈l
 | 0,l,h=>h
 | k+1,l,h=>insN_mem a k l (insJ_mem a _ _ h)
theorem KQ (c d:Cl):decide (JD c d<0)=ltC c d:=rfl
section
variable {p g a b:Nat}{f:Ab}
theorem ins_l2 {l0:List Cl}{i:Nat}(hf:TW AD f l0)(B:Aa)(rec1:LK){l:List Cl}{H:Aa}(h:Dc H p g l)(hm:∀c∈l,c∈l0)(hi:i<l.length)(hl:l.length<1000000000) :
  Ap (λaA vs H1=>Sh.f47 B rec1 aA (ag vs 0) (ag vs 1) (ag vs 2) (ag vs 3) (ag vs 4) (ag vs 5) H1) AU [dV p g l.length,.i6 (a:Int),.i6 (b:Int),f,.i6 (i:Int),.i6 (i:Int)] H =
   rec1 [dV p g l.length,.i6 (a:Int),.i6 (b:Int),f,.i6 ((i+1:Nat):Int)] (BL H p g (KJ ltC a i l)):=by
 have key:=Bq (G:=λaA vs H1=>Sh.f47 B rec1 aA (ag vs 0) (ag vs 1) (ag vs 2) (ag vs 3) (ag vs 4) (ag vs 5) H1) (σ:=Nat×List Cl) (λs=>s.1<l.length/\s.2.length=l.length/\∀c∈s.2,c∈l0)
  (λs=>[dV p g l.length,.i6 (a:Int),.i6 (b:Int),f,.i6 (i:Int),.i6 (s.1:Int)]) (λs=>BL H p g s.2) (λs=>s.1)
  (λs=>rec1 [dV p g l.length,.i6 (a:Int),.i6 (b:Int),f,.i6 ((i+1:Nat):Int)] (BL H p g (KJ ltC a s.1 s.2))) (λs aA hs hrec=>?_) (i,l) ⟨hi,rfl,hm⟩ (by dsimp only;omega)
 ·rw[CE h]at key;exact key
 ·obtain⟨j,L⟩:=s;obtain⟨h1,h2,h3⟩:=hs;dsimp only at h1 h2 h3 hrec ⊢;have hr:Dc (BL H p g L) p g L:=Di h;have cL:=Au (show i<9223372036854775807 by omega);unfold Sh.f47;by_cases xM:a<j
  ·obtain⟨k,rfl⟩:∃k,j=k+1:=⟨j-1,by omega⟩;have hg:decide (((k+1:Nat):Int)>(a:Int))=true:=zXc (by omega);have hw:IntKind.i64.wrap (((k+1:Nat):Int)-1)=(k:Int):=by rw[Ao] <;> omega
   have hk1:k+1<L.length:=by omega
   have hk:k<L.length:=by omega
   have c1:=hf L[k+1] (h3 _ (We hk1)) L[k] (h3 _ (We hk));obtain⟨s1,s2⟩:=Sr hr hk1 hk;rw[B7]at s1 s2;rw[B7]at s2;have hlt:IS ltC L (k+1) k=ltC L[k+1] L[k]:=RE hk1 hk;simp only[Am,Aj,Bg,Bk,B4,BS,DG,GMw,hg,BW h1,BW (show k<l.length by omega),C5 hr hk1,C5 hr hk,BP,c1,B9,hw,KQ];cases hc:ltC L[k+1] L[k]with
   | true=>
    have eJ:KJ ltC a (k+1) L=KJ ltC a k (swp L (k+1) k):=by
     conv=>lhs;unfold KJ
     rw[hlt,hc,if_pos ⟨xM,rfl⟩]
    simp only[GMw,C5 hr hk1,C5 hr hk,BP,BW h1,BW (show k<l.length by omega),s1,s2,B7,hw];have sO:=hrec (k,swp L (k+1) k) ⟨by omega,by rw[MW];exact h2,λc hc=>h3 c (swp_mem hc)⟩ (YR _);dsimp only at sO;rw[sO,eJ]
   | false=>
    have eJ:KJ ltC a (k+1) L=L:=by
     unfold KJ;rw[hlt,hc,if_neg (λh=>by cases h.2)]
    simp only[GMw,cL];rw[eJ]
  ·have hg:decide ((j:Int)>(a:Int))=false:=zXd (by omega);have eJ:KJ ltC a j L=L:=by
    cases j with
    | zero=>rfl
    | succ k=>unfold KJ;rw[if_neg (λh=>xM h.1)]
   simp only[Am,Aj,Bg,Bk,B4,BS,DG,GMw,hg,cL];rw[eJ]
theorem ins_sort {l0:List Cl}(hf:TW AD f l0){l:List Cl}{H:Aa}(h:Dc H p g l)(hm:∀c∈l,c∈l0)(hab:a<=b)(hb:b<=l.length)(hl:l.length<1000000000) :
  Sh.fm (dV p g l.length) (.i6 (a:Int)) (.i6 (b:Int)) f H=some (.ret (.tup []),BL H p g (Ro ltC a (b-a-1) l)):=by
 have yR:=Au (show a<9223372036854775807 by omega);unfold Sh.fm;simp only[GMw,yR];have key:=Bq (G:=λrec1 vs H1=>Sh.f48 H rec1 (ag vs 0) (ag vs 1) (ag vs 2) (ag vs 3) (ag vs 4) H1) (σ:=Nat) (λk=>k<=b-a-1)
  (λk=>[dV p g l.length,.i6 (a:Int),.i6 (b:Int),f,.i6 ((a+1+k:Nat):Int)]) (λk=>BL H p g (Ro ltC a k l)) (λk=>b-a-1-k)
  (λ_=>some (.ret (.tup []),BL H p g (Ro ltC a (b-a-1) l))) (λk rec hk hrec=>?_) 0 (Wv _) (by omega)
 ·rw[show Ro ltC a 0 l=l from rfl,CE h]at key;exact key
 ·unfold Sh.f48;have hr:Dc (BL H p g (Ro ltC a k l)) p g (Ro ltC a k l):=Di h;have bD:=insN_len (lt:=ltC) a k l;by_cases hlt:a+1+k<b
  ·have hd:decide (((a+1+k:Nat):Int)<(b:Int))=true:=zXc (by omega);have h2:=ins_l2 (a:=a) (b:=b) (i:=a+1+k) hf H rec hr (λc hc=>hm c (insN_mem a k l hc)) (by omega) (by omega);rw[bD,B7]at h2;simp only[Am,Aj,Bg,Bk,B4,BS,GMw,hd];rw[h2];exact hrec (k+1) (by omega) (by omega)
  ·have hd:decide (((a+1+k:Nat):Int)<(b:Int))=false:=zXd (by omega);have e:k=b-a-1:=by omega
   simp only[Am,Aj,Bg,Bk,B4,BS,GMw,hd];rw[<-e]
theorem swap_range {l:List Cl}{n:Nat}{H:Aa}(h:Dc H p g l)(ha:a+n<=l.length)(hb:b+n<=l.length)(hl:l.length<1000000000) :
  Sh.f1l (dV p g l.length) (.i6 (a:Int)) (.i6 (b:Int)) (.i6 (n:Int)) f H=some (.ret (.tup []),BL H p g (swR a b n l)):=by
 unfold Sh.f1l;have key:=Cm (G:=λrec1 vs H1=>Sh.f49 H rec1 (ag vs 0) (ag vs 1) (ag vs 2) (ag vs 3) (ag vs 4) H1) n
  (λk=>[dV p g l.length,.i6 (a:Int),.i6 (b:Int),.i6 (n:Int),.i6 (k:Int)]) (λk=>BL H p g (swR a b k l)) (some (.ret (.tup []),BL H p g (swR a b n l))) (by omega) (λrec k hk=>?_) (λrec=>?_)
 ·rw[show swR a b 0 l=l from rfl,CE h]at key;exact key
 ·unfold Sh.f49;have hr:Dc (BL H p g (swR a b k l)) p g (swR a b k l):=Di h;have bD:=R5 a b k l;have hd:decide ((k:Int)<(n:Int))=true:=zXc (by omega);have eY:=Au (show k<9223372036854775807 by omega);have cR:IntKind.i64.wrap ((a:Int)+(k:Int))=((a+k:Nat):Int):=by rw[Ao] <;> omega
  have cC:IntKind.i64.wrap ((b:Int)+(k:Int))=((b+k:Nat):Int):=by rw[Ao] <;> omega
  have i1:a+k<(swR a b k l).length:=by omega
  have i2:b+k<(swR a b k l).length:=by omega
  obtain⟨s1,s2⟩:=Sr hr i1 i2;rw[B7]at s1 s2;rw[B7]at s2;simp only[Am,Aj,Bg,Bk,B4,BS,GMw,hd,cR,cC,BW (show a+k<l.length by omega),BW (show b+k<l.length by omega),C5 hr i1,C5 hr i2,BP,s1,s2,B9,AL,eY]
  rfl
 ·unfold Sh.f49;have hd:decide ((n:Int)<(n:Int))=false:=zXd (by omega);simp only[Am,Aj,Bg,Bk,B4,BS,GMw,hd]
theorem rotate_ok {A B U V:List Cl}{m:Nat}{H:Aa}(h:Dc H p g (A++(U++(V++B))))(ha:a=A.length)(hm:m=a+U.length)(hb:b=m+V.length)(hU:0<U.length)(hV:0<V.length)(hl:(A++(U++(V++B))).length<1000000000) :
  Sh.f2d (dV p g (A++(U++(V++B))).length) (.i6 (a:Int)) (.i6 (m:Int)) (.i6 (b:Int)) f H=some (.ret (.tup []),BL H p g (A++((V++U)++B))):=by
 obtain⟨l,hL⟩:∃l,l=A++(U++(V++B)):=⟨_,rfl⟩;have hst:Oj A B (V++U) m U.length V.length l:=by rw[hL,hm,ha];exact Oj.start hU hV
 rw[<-hL]at h hl ⊢;have hlen:=hst.len;have cR:IntKind.i64.wrap ((m:Int)-(a:Int))=(U.length:Int):=by rw[Ao] <;> omega
 have cC:IntKind.i64.wrap ((b:Int)-(m:Int))=(V.length:Int):=by rw[Ao] <;> omega
 unfold Sh.f2d;simp only[GMw,cR,cC];have key:=Bq (G:=λrec1 vs H1=>Sh.f70 H rec1 (ag vs 0) (ag vs 1) (ag vs 2) (ag vs 3) (ag vs 4) H1) (σ:=(Nat×Nat)×List Cl) (λs=>Oj A B (V++U) m s.1.1 s.1.2 s.2/\s.2.length=l.length)
  (λs=>[dV p g l.length,.i6 (m:Int),f,.i6 (s.1.1:Int),.i6 (s.1.2:Int)]) (λs=>BL H p g s.2) (λs=>s.1.1+s.1.2)
  (λ_=>some (.ret (.tup []),BL H p g (A++((V++U)++B)))) (λs rec hs hrec=>?_) ((U.length,V.length),l) ⟨hst,rfl⟩ (by dsimp only;omega)
 ·rw[CE h]at key;exact key
 ·obtain⟨⟨i,j⟩,L⟩:=s;obtain⟨h1,h2⟩:=hs;dsimp only at h1 h2 hrec ⊢;have hr:Dc (BL H p g L) p g L:=Di h;obtain⟨q1,q2⟩:=h1.len;obtain⟨p1,p2⟩:=h1.pos;have sL:=λ(x y n:Nat) (h3:x+n<=L.length) (h4:y+n<=L.length)=>swap_range (f:=f) (a:=x) (b:=y) (n:=n) hr h3 h4 (by omega);rw[h2]at sL;have cQ:IntKind.i64.wrap ((m:Int)-(i:Int))=((m-i:Nat):Int):=by rw[Ao] <;> omega
  unfold Sh.f70;by_cases hij:i=j
  ·subst hij;have hd:((i:Int) != (i:Int))=false:=by simp
   simp only[Am,Aj,Bg,Bk,B4,BS,GMw,hd,cQ,sL (m-i) m i (by omega) (by omega),B7];rw[h1.eq]
  ·have hd:((i:Int) != (j:Int))=true:=by simp;omega
   by_cases hgt:j<i
   ·have bZ:decide ((i:Int)>(j:Int))=true:=zXc (by omega);have cL:IntKind.i64.wrap ((i:Int)-(j:Int))=((i-j:Nat):Int):=by rw[Ao] <;> omega
    simp only[Am,Aj,Bg,Bk,B4,BS,GMw,hd,bZ,cQ,cL,sL (m-i) m j (by omega) (by omega),B7];exact hrec ((i-j,j),swR (m-i) m j L) ⟨h1.hi hgt,by rw[R5];exact h2⟩ (by dsimp only;omega)
   ·have bZ:decide ((i:Int)>(j:Int))=false:=zXd (by omega);have cL:IntKind.i64.wrap ((j:Int)-(i:Int))=((j-i:Nat):Int):=by rw[Ao] <;> omega
    have sK:IntKind.i64.wrap ((m:Int)+(j:Int))=((m+j:Nat):Int):=by rw[Ao] <;> omega
    have eY:IntKind.i64.wrap (((m+j:Nat):Int)-(i:Int))=((m+j-i:Nat):Int):=by rw[Ao] <;> omega
    simp only[Am,Aj,Bg,Bk,B4,BS,GMw,hd,bZ,cQ,cL,sK,eY,sL (m-i) (m+j-i) i (by omega) (by omega),B7];exact hrec ((i,j-i),swR (m-i) (m+j-i) i L) ⟨h1.lo (by omega),by rw[R5];exact h2⟩ (by dsimp only;omega)

end
def Row1 (v:Ab)(H:Aa)(l:List Nat):Prop:=A7 v=some (.i6 (l.length:Int))/\∀(i:Nat) (h:i<l.length),∃p,Av 1 v (.i6 (i:Int))=some p/\∀G,Ac false 1 p (H++G)=some (.int .u32 (l[i]:Int))
theorem row_ms {l:List Nat}{H:Aa}{id:Nat}(hg:H[id]? = some (.cel 0 (flat cU l))):Row1 (.ms id 0 0 l.length l.length 1 true) H l:=by
 refine⟨rfl,λi h=>?_⟩;have hidx:=CL (sz:=1) (id:=id) (n:=l.length) (K:=.i64) (g:=0) (off:=0) (cap:=l.length) (ex:=true) (i:=i) h;simp only[VU,Wg]at hidx;exact⟨_,hidx,λG=>B2 (Iy (f:=cU) (Aw hg) h)⟩
theorem q01_bitsR {v:Ab}{H:Aa}{l:List Nat}(hv:Row1 v H l)(hl:l.length<=2199023255552)(hx:Lim l):Sh.f6 v H=some (.ret (.sl (enL cB (Dz (AV l))) .no),H):=by
 unfold Sh.f6;refine Cm l.length (λi=>[v,DJ cB H (AV (l.take i)),.i6 (i:Int)]) (λi=>DI cB BY 1 H (AV (l.take i))) _ (by omega) (λrec i hi=>?_) (λrec=>?_)
 ·have aD:(i:Int)<(l.length:Int):=by omega
  have aH:l[i]<4294967296:=hx _ (We hi);have htk:AV (l.take (i+1))=AV (l.take i)++D0 32 l[i]:=by
   rw[Wb hi,AV,List.flatMap_append];simp[AV]
  have hlen:(AV (l.take i)).length<=32*2199023255552:=by rw[Cv];simp;omega
  obtain⟨p,uK,zI⟩:=hv.2 i hi;obtain⟨G,hG⟩:=GF (f:=cB) (ty:=BY) (sz:=1) H (AV (l.take i));have hld:Ac false 1 p (DI cB BY 1 H (AV (l.take i)))=some (.int .u32 (l[i]:Int)):=by rw[hG];exact zI G
  unfold Sh.f2y;simp only[Am,Bg,Bk,hv.1,BH,Br,aD,decide_true,AZ,uK,hld,htk];generalize AV (l.take i)=o at hlen;generalize l[i]=x at aH;refine Bq (σ:=Nat×Nat×List Bool) (λs=>s.1<=32/\s.2.1<4294967296/\s.2.2.length<=o.length+s.1) (λs=>[v,DJ cB H s.2.2,.i6 (i:Int),.int .u32 (s.2.1:Int),.i6 (s.1:Int)]) (λs=>DI cB BY 1 H s.2.2) (λs=>32-s.1)
   (λs=>rec [v,DJ cB H (s.2.2++D0 (32-s.1) s.2.1),.i6 ((i+1:Nat):Int)] (DI cB BY 1 H (s.2.2++D0 (32-s.1) s.2.1))) (λs aA hs hrec=>?_) (0,x,o) ⟨by dsimp only;omega,aH,by dsimp only;omega⟩ (by dsimp only;omega)
  obtain⟨k,y,p⟩:=s;obtain⟨hk,hy,hp⟩:=hs;simp only at hk hy hp hrec ⊢;unfold Sh.f7c;by_cases h:k<32
  ·have h':(k:Int)<32:=by omega
   have e1:(y:Int).tmod 2=((y%2:Nat):Int):=rfl;have e2:IntKind.u32.wrap ((y:Int).tdiv 2)=((y / 2:Nat):Int):=by rw[show (y:Int).tdiv 2=((y / 2:Nat):Int) from rfl,Do] <;> omega
   have e3:decide (((y%2:Nat):Int)=1)=(y%2 == 1):=by rw[Wo];simp only[beq_iff_eq,zXe];omega
   have e4:IntKind.i64.wrap ((k:Int)+1)=((k+1:Nat):Int):=by rw[Ao] <;> omega
   have:=hrec (k+1,y / 2,p++[y%2 == 1]) ⟨h,by dsimp only;omega,by simp;omega⟩ (by dsimp only;omega);simp only[Am,Bg,Bk,B4,BS,Br,h',decide_true,BH,AZ,J6 (show (2:Int)≠0 by decide),RW (show (2:Int)≠0 by decide),e1,e2,DR,GX,e3,RV];rw[E5 (by simp) (by simp;omega) (by simp;omega)];simp only[Dp,CH,CC,BH,e4,this];rw[show 32-k=(32-(k+1))+1 from by omega,D0];simp
  ·have:k=32:=by omega
   subst this;have e4:IntKind.i64.wrap ((i:Int)+1)=((i+1:Nat):Int):=by rw[Ao] <;> omega
   simp[D0,e4]
 ·unfold Sh.f2y;obtain⟨G,hG⟩:=GF (f:=cB) (ty:=BY) (sz:=1) H (AV l);rw[Wd (VV _)];simp only[Am,Bg,Bk,Fy,hG,hv.1,BH,Br,WL,decide_false,AQ,q01_cut (AV l) _ _ (by rw[Cv];omega),CH,Cw,I4,zXb]
theorem q01_normR {v:Ab}{H:Aa}{l:List Nat}(hv:Row1 v H l)(hl:l.length<=1099511627776)(hx:Lim l):Sh.f1b v H=some (.ret (.sl (enL cU (AA (val l))) .no),H):=by
 have hc:=I8 (AV l);rw[Cv]at hc;unfold Sh.f1b;rw[q01_bitsR hv (by omega) hx];simp only[Fq];rw[S4 _ _ _ (by omega)];simp only[Fq,Ei,V0,EC,ER l hx]
theorem Sa (a:Nat)(l:List Nat):val (a::l)=a+4294967296*val l:=rfl
theorem div_step {m a v:Nat}(hm:0<m):(a+4294967296*v) / m=(v%m*4294967296+a) / m+4294967296*(v / m)/\(a+4294967296*v)%m=(v%m*4294967296+a)%m:=by
 have h:=XK v m;have e:a+4294967296*v=(v%m*4294967296+a)+m*(4294967296*(v / m)):=by
  conv=>lhs;rw[<-h]
  rw[Xd,Nat.mul_left_comm];omega
 rw[e,YB _ _ hm,Nat.add_mul_mod_self_left];exact⟨rfl,rfl⟩
theorem quo_lt {m a r:Nat}(hr:r<m)(ha:a<4294967296):(r*4294967296+a) / m<4294967296:=by
 rw[Xr (by omega)];have:(r+1)*4294967296<=m*4294967296:=W4 _ hr;omega
theorem q01_div (l:List Nat)(tk:Tok)(m:Nat)(H:Aa)(hl:l.length<=1099511627776)(hx:Lim l)(hm0:0<m)(hm:m<4294967296) :
  Sh.f5s (.sl (enL cU l) tk) (.int .u32 (m:Int)) H=some (.ret (.tup [.sl (enL cU (AA (val l / m))) .no,.int .u32 ((val l%m:Nat):Int)]),H):=by
 unfold Sh.f5s;have qP:¬(m:Int)=0:=by omega
 have cX:=Fz (f:=cU) (a:=0) (n:=l.length) (bytes:=4) (H:=H) (by omega) (by omega);simp only[show cU 0=[Ab.int .u32 0] from rfl]at cX;have pD:∀n:Int,AJ .u64 (.int .u32 (m:Int))=some (.int .u64 (m:Int)):=λ_=>by rw[B3,Cs (by omega) (by omega)]
 simp only[GMw,qP,Ax,cX];have hw0:IntKind.i64.wrap ((l.length:Int)-1)=(l.length:Int)-1:=Ao (by omega) (by omega);rw[hw0];have key:=Bq (G:=λrec1 vs H1=>Sh.f7g H rec1 (ag vs 0) (ag vs 1) (ag vs 2) (ag vs 3) (ag vs 4) H1) (σ:=Nat×List Nat) (λs=>s.1<=l.length/\s.2.length=l.length/\Lim s.2/\val (s.2.drop s.1)=val (l.drop s.1) / m)
  (λs=>[.sl (enL cU l) tk,.int .u32 (m:Int),.ms H.length 0 0 l.length l.length 1 true,.int .u64 ((val (l.drop s.1)%m:Nat):Int),.i6 ((s.1:Int)-1)]) (λs=>H++[.cel 0 (flat cU s.2)]) (λs=>s.1)
  (λ_=>some (.ret (.tup [.sl (enL cU (AA (val l / m))) .no,.int .u32 ((val l%m:Nat):Int)]),H)) (λs rec hs hrec=>?_) (l.length,List.replicate l.length 0) ⟨VV _,by simp,λx hx=>by have:=(XR.1 hx).2;omega,by simp[val]⟩ (by dsimp only;omega)
 ·simp only[YT,show val []=0 from rfl,Nat.zero_mod]at key;exact key
 ·obtain⟨k,O⟩:=s;obtain⟨h1,h2,h3,h4⟩:=hs;simp only at h1 h2 h3 h4 hrec ⊢;unfold Sh.f7g;cases k with
  | zero=>
   have hrow:=row_ms (l:=O) (H:=H++[Blk.cel 0 (flat cU O)]) (id:=H.length) Al;rw[h2]at hrow;have hn:=q01_normR hrow (by omega) h3;have hv:val O=val l / m:=by simpa using h4
   have hlt:val l%m<m:=Xz _ hm0;have hcv:AJ .u32 (.int .u64 ((val l%m:Nat):Int))=some (.int .u32 ((val l%m:Nat):Int)):=by rw[B3,Do (by omega) (by omega)]
   simp only[GMw,Aj,show ¬(((0:Nat):Int)-1>=0) from by decide,hn,Xm,hcv,hv,Cw,Ci,Bu,B6,Ja,CM,zXb]
  | succ j=>
   have hj:j<l.length:=h1;have hi:((j+1:Nat):Int)-1=(j:Int):=by omega
   have ha:=hx _ (We hj);have hd:l.drop j=l[j]::l.drop (j+1):=Ww hj;have hr:val (l.drop (j+1))%m<m:=Xz _ hm0;obtain⟨s1,s2⟩:=div_step (m:=m) (a:=l[j]) (v:=val (l.drop (j+1))) hm0;have hq:=quo_lt (m:=m) (a:=l[j]) (r:=val (l.drop (j+1))%m) hr ha;have dI:val (l.drop (j+1))%m*4294967296<=4294967295*4294967296:=W4 _ (by omega);generalize gB:val (l.drop (j+1))%m=r at *;have w1:IntKind.u64.wrap ((r:Int)*4294967296)=((r*4294967296:Nat):Int):=by rw[Cs] <;> omega
   have w2:AJ .u64 (.int .u32 (l[j]:Int))=some (.int .u64 (l[j]:Int)):=by rw[B3,Cs (by omega) (by omega)]
   have w3:IntKind.u64.wrap (((r*4294967296:Nat):Int)+(l[j]:Int))=((r*4294967296+l[j]:Nat):Int):=by rw[Cs] <;> omega
   have w4:IntKind.u64.wrap (((r*4294967296+l[j]:Nat):Int).tdiv (m:Int))=(((r*4294967296+l[j]) / m:Nat):Int):=by
    rw[show (((r*4294967296+l[j]:Nat):Int).tdiv (m:Int))=(((r*4294967296+l[j]) / m:Nat):Int) from rfl,Cs (Xl _) (Int.lt_of_lt_of_le (Int.ofNat_lt.2 hq) (by decide))]
   have w5:AJ .u32 (.int .u64 (((r*4294967296+l[j]) / m:Nat):Int))=some (.int .u32 (((r*4294967296+l[j]) / m:Nat):Int)):=by rw[B3,Do (Xl _) (Int.ofNat_lt.2 hq)]
   have w6:(((r*4294967296+l[j]:Nat):Int).tmod (m:Int))=(((r*4294967296+l[j])%m:Nat):Int):=rfl;have w7:IntKind.i64.wrap ((j:Int)-1)=(j:Int)-1:=Ao (by omega) (by omega);have hidx:=CL (sz:=1) (id:=H.length) (n:=l.length) (K:=.i64) (g:=0) (off:=0) (cap:=l.length) (ex:=true) (i:=j) hj;simp only[VU,Wg]at hidx;have hst:=DS (f:=cU) (sz:=1) (l:=O) (i:=j) (a:=(r*4294967296+l[j]) / m) (v:=.int .u32 (((r*4294967296+l[j]) / m:Nat):Int)) (H:=H++[Blk.cel 0 (flat cU O)]) (id:=H.length) (Aw Al) (by omega) rfl;rw[Wg,Bt Al,Be]at hst;have hge:((j:Int)>=0):=by omega
   have xD:(m:Int)≠0:=qP;have:=hrec (j,O.set j ((r*4294967296+l[j]) / m)) ⟨by omega,by simp[h2],λx kQ=>by
     rcases Ys kQ with h | h
     ·exact h3 x h
     ·rw[h];exact hq,by
     dsimp only;rw[hd,Sa,s1,List.drop_set,if_neg (by omega),WB,Ww (by omega:j<O.length),List.set_cons_zero,Sa,h4]⟩ (by dsimp only;omega)
   dsimp only at this;rw[hd,Sa,s2]at this;rw[hi];simp only[GMw,Aj,hge,w1,A1 hj,AE,zXh,w2,w3,pD 0,RW xD,w4,w5,hidx,hst,and_true,eq_self,J6 xD,w6,w7];exact this
def Dj (n:Nat):List UInt8:=if h:n<10 then [UInt8.ofNat (48+n)]else Dj (n / 10)++[UInt8.ofNat (48+n%10)]
termination_by n
decreasing_by omega
def G7 (z:Int):List UInt8:=if z<0 then 45::Dj z.natAbs else Dj z.natAbs
theorem decN_log:∀(k n:Nat),n<10^(k+1)->(Dj n).length<=k+1:=by
 intro k
 induction k with
 | zero=>intro n h;unfold Dj;rw[dif_pos (by omega)];simp
 | succ k ih=>
  intro n h;unfold Dj;split
  ·simp
  ·have h2:n / 10<10^(k+1):=by
    rw[Xr (by omega),<-Nat.pow_succ];exact h
   have:=ih (n / 10) h2;simp;omega
theorem Qv (k n:Nat)(h:n<10^k):(Dj n).length<=k+(if k=0 then 1 else 0):=by
 cases k with
 | zero=>have:=decN_log 0 n (by omega);simpa using this
 | succ k=>have:=decN_log k n h;simpa using this
theorem digit_u8 {d:Nat}(h:d<10):AJ .u8 (.int .u32 (IntKind.u32.wrap (48+(d:Int))))=some (.int .u8 ((UInt8.ofNat (48+d)).toNat:Int)):=by
 rw[B3,Do (by omega) (by omega),R1 (by omega) (by omega),Xu (show 48+d<256 by omega)]
 rfl
theorem pow10_32 (k:Nat):10^k<=4294967296^k:=Nat.pow_le_pow_left (by omega) k
theorem SV {n:Nat}(h:n<10^4096):(AA n).length<=4096:=Fb (WP h (pow10_32 4096))
theorem q03_text (z:Int)(H:Aa)(hz:z.natAbs<10^4096):Sh.f39 (big z) H=some (.ret (.str (G7 z)),H):=by
 unfold Sh.f39;have g0:Ac false 1 (.ptr H.length 0 0) (H++[Blk.cel 0 (A2 z)])=some (.bool (decide (z<0))):=by simp only[Ac,Aw Al,zXa];rfl
 have g1:Ac false 1 (.ptr H.length 0 1) (H++[Blk.cel 0 (A2 z)])=some (.sl (enL cU (AA z.natAbs)) .no):=by simp only[Ac,Aw Al,zXa];rfl
 simp only[GMw,DL,Ah,VU,g1];have mH:∀n:Nat,n<10^4096->(Dj n).length<=4096:=λn h=>Qv 4096 n h;have key:=Bq (G:=λrec1 vs H1=>Sh.f7h H rec1 (ag vs 0) (ag vs 1) (ag vs 2) H1) (σ:=Nat×List UInt8) (λs=>s.1<10^4096/\s.2.length+(Dj s.1).length<=5000)
  (λs=>[.ptr H.length 0 0,.str s.2,.sl (enL cU (AA s.1)) .no]) (λ_=>H++[.cel 0 (A2 z)]) (λs=>(Dj s.1).length)
  (λs=>some (.ret (.str ((if z<0 then [45]else [])++Dj s.1++s.2)),H)) (λs rec hs hrec=>?_) (z.natAbs,[]) ⟨hz,by have:=mH _ hz;simp;omega⟩ (by have:=mH _ hz;dsimp only;omega)
 ·refine key.trans ?_;unfold G7;dsimp only;split <;> simp
 ·obtain⟨n,s⟩:=s;obtain⟨h1,h2⟩:=hs;simp only at h1 h2 hrec ⊢;have rV:=λH=>q01_div (AA n) .no 10 H (by have:=SV h1;omega) (Bz n) (by omega) (by omega);simp only[BA,show ((10:Nat):Int)=10 from rfl]at rV;have hd:n%10<10:=Xz _ (by omega);have vS:=digit_u8 hd;unfold Sh.f7h;simp only[GMw,Aj,rV,B1,B8,vS,build_Y,U7];rw[CJ (by simp;omega)];simp only[GMw,Ax];by_cases hn:n<10
  ·have h0:n / 10=0:=by omega
   have hm:n%10=n:=by omega
   have iY:Dj n=[UInt8.ofNat (48+n)]:=by unfold Dj;rw[dif_pos hn]
   rw[iY,h0,EH,hm];simp only[GMw,zXk,show ((0:Nat):Int)=0 from rfl,Ah,Nat.add_zero,g0];by_cases lX:z<0
   ·simp only[lX,GMw];rw[CJ (by simp;omega)];simp only[GMw,rP_str];simp
   ·simp only[lX,GMw,rP_str];simp
  ·have h0:n / 10≠0:=by omega
   have hne:¬((AA (n / 10)).length:Int)=0:=by
    have:=Wy.2 (OD h0);omega
   have iY:Dj n=Dj (n / 10)++[UInt8.ofNat (48+n%10)]:=by
    conv=>lhs;unfold Dj
    rw[dif_neg hn]
   have hlen:(Dj n).length=(Dj (n / 10)).length+1:=by rw[iY];simp
   have:=hrec (n / 10,[UInt8.ofNat (48+n%10)]++s) ⟨WI (Nat.div_le_self _ _) h1,by simp;omega⟩ (by dsimp only;omega);simp only[hne,GMw];rw[this,iY];simp
def qa (v:Nat)(x:Int)(k:Nat):Int:=if k%2=1 then x+2^(v-1)else x
def qb (v:Nat)(y:Int)(k:Nat):Int:=if 1<k then y+2^(v-1)else y
def inQ (v:Nat)(a b:Int)(c:Cl):Bool:=decide (a<=c.x)&&decide (c.x<a+2^(v-1))&&decide (b<=c.y)&&decide (c.y<b+2^(v-1))
def Bo (v:Nat)(x y:Int)(k:Nat)(l:List Cl):List Cl:=l.filter (inQ v (qa v x k) (qb v y k))
def FS:List Cl->Int
 | []=>0
 | c::_=>(c.s.toNat:Int)
def plK (rec:List Nd->Int->Int->List Cl->List Nd×Nat)(v:Nat)(x y:Int)(l:List Cl):Nat->List Nd->List Nd×Nd
 | 0,out=>(out,⟨v,0,0,0,0⟩)
 | k+1,out=>
  if v=1 then ((plK rec v x y l k out).1,(plK rec v x y l k out).2.setKid k (FS (Bo v x y k l)))
  else ((rec (plK rec v x y l k out).1 (qa v x k) (qb v y k) (Bo v x y k l)).1,(plK rec v x y l k out).2.setKid k ((rec (plK rec v x y l k out).1 (qa v x k) (qb v y k) (Bo v x y k l)).2:Int))
def AP:Nat->List Nd->Int->Int->List Cl->List Nd×Nat
 | 0,out,_,_,_=>(out,0)
 | v+1,out,x,y,l=>if l=[]then (out,0)else ((plK (AP v) (v+1) x y l 4 out).1++[(plK (AP v) (v+1) x y l 4 out).2],(plK (AP v) (v+1) x y l 4 out).1.length+1)
def M3 (v:Nat)(x y:Int)(l:List Cl):Nat->Nat
 | 0=>0
 | k+1=>M3 v x y l k+(Bo v x y k l).length
theorem pow_half (v:Nat):(0:Int)<2^(v-1):=XA (by omega)
theorem RT (v:Nat)(x y:Int):∀l:List Cl,M3 v x y l 4<=l.length
 | []=>by simp[M3,Bo]
 | c::l=>by
  have ih:=RT v x y l;have vL:∀(p:Bool) (m:List Cl),(if p=true then c::m else m).length=(if p=true then 1 else 0)+m.length:=λp m=>by cases p <;> simp <;> omega
  simp only[M3,Bo,WN,qa,qb,vL]at ih ⊢;simp only[show (0:Nat)%2=0 from rfl,show (1:Nat)%2=1 from rfl,show (2:Nat)%2=0 from rfl,show (3:Nat)%2=1 from rfl,show ¬(1:Nat)<0 from by omega,show ¬(1:Nat)<1 from by omega,show (1:Nat)<2 from by omega,show (1:Nat)<3 from by omega,if_true,if_false,show ¬(0:Nat)=1 from by omega]at ih ⊢;have key:(if inQ v x y c then 1 else 0)+(if inQ v (x+2^(v-1)) y c then 1 else 0)+(if inQ v x (y+2^(v-1)) c then 1 else 0)+(if inQ v (x+2^(v-1)) (y+2^(v-1)) c then 1 else 0)<=1:=by
   unfold inQ;have hp:=pow_half v;generalize (2:Int)^(v-1)=h at hp;simp only[Wc,zXe];split <;> split <;> split <;> split <;> first | omega | (exfalso;omega)
  simp only[zXj];omega
theorem cntQ_mono (v:Nat)(x y:Int)(l:List Cl){k:Nat}(h:k<=4):M3 v x y l k<=l.length:=by
 have h4:=RT v x y l
 match k,h with
 | 0,_=>simp[M3]
 | 1,_=>simp only[M3]at h4 ⊢;omega
 | 2,_=>simp only[M3]at h4 ⊢;omega
 | 3,_=>simp only[M3]at h4 ⊢;omega
 | 4,_=>exact h4

mutual
theorem PF:∀(v:Nat) (out:List Nd) (x y:Int) (l:List Cl),(AP v out x y l).1.length<=out.length+l.length*v
 | 0,out,x,y,l=>by simp[AP]
 | v+1,out,x,y,l=>by
  unfold AP;split
  ·simp
  ·rename_i hl;have h:=R7 v out x y l 4 (VV _);have hc:=RT (v+1) x y l;have hpos:0<l.length:=Wy.2 hl;have:M3 (v+1) x y l 4*v<=l.length*v:=W4 _ hc;have e:l.length*(v+1)=l.length*v+l.length:=Nat.mul_succ _ _;simp only[VX,zXi];omega
theorem R7:∀(v:Nat) (out:List Nd) (x y:Int) (l:List Cl) (k:Nat),k<=4->(plK (AP v) (v+1) x y l k out).1.length<=out.length+M3 (v+1) x y l k*v
 | v,out,x,y,l,0,_=>by simp[plK,M3]
 | v,out,x,y,l,k+1,h=>by
  have ih:=R7 v out x y l k (by omega);unfold plK M3;rw[WF];split
  ·dsimp only;omega
  ·have:=PF v (plK (AP v) (v+1) x y l k out).1 (qa (v+1) x k) (qb (v+1) y k) (Bo (v+1) x y k l);dsimp only;omega

end
def PS (b:Nat)(out:List Nd)(v:Ab)(H:Aa):Prop:=(out=[]/\v=.sl [] .ti)\/∃t,b<=t/\v=.sl (enL cNd out) (.own t)/\H[t]? = some (.tok out.length AN 5)
structure Kp (b:Nat)(H H':Aa):Prop where
 len:H.length<=H'.length
 cel:∀(i:Nat) (cs:List Ab),H[i]? = some (.cel 0 cs)->H'[i]? = some (.cel 0 cs)
 old:∀i,i<b->H'[i]? = H[i]?
theorem Kp.refl (b:Nat)(H:Aa):Kp b H H:=⟨VV _,λ_ _ h=>h,λ_ _=>rfl⟩
theorem Kp.trans {b:Nat}{H H1 H2:Aa}(h:Kp b H H1)(h':Kp b H1 H2):Kp b H H2:=
 ⟨Wu h.len h'.len,λi cs hc=>h'.cel i cs (h.cel i cs hc),λi hi=>(h'.old i hi).trans (h.old i hi)⟩
theorem Kp.app {b:Nat}{H:Aa}(hb:b<=H.length)(G:Aa):Kp b H (H++G):=
 ⟨by simp,λi cs h=>A0 h,λi hi=>by rw[VR (by omega)]⟩
theorem PS.sl {b:Nat}{out:List Nd}{v:Ab}{H:Aa}(h:PS b out v H):∃tk,v=.sl (enL cNd out) tk:=by
 rcases h with ⟨rfl,rfl⟩ | ⟨t,_,rfl,_⟩
 ·exact⟨_,rfl⟩
 ·exact⟨_,rfl⟩
theorem PS.left {b:Nat}{out:List Nd}{v:Ab}{H:Aa}(h:PS b out v H)(G:Aa):PS b out v (H++G):=by
 rcases h with h1 | ⟨t,h1,h2,h3⟩
 ·exact .inl h1
 ·exact .inr ⟨t,h1,h2,A0 h3⟩
theorem PS.put {b p:Nat}{out:List Nd}{v:Ab}{H:Aa}{c c':List Ab}(h:PS b out v H)(hp:H[p]? = some (.cel 0 c)):PS b out v (H.set p (.cel 0 c')):=by
 rcases h with h1 | ⟨t,h1,h2,h3⟩
 ·exact .inl h1
 ·refine .inr ⟨t,h1,h2,?_⟩;have:p≠t:=λe=>by rw[<-e,hp]at h3;cases h3
  rw[VT this];exact h3
theorem PS.snoc {b:Nat}{out:List Nd}{v:Ab}{H:Aa}(h:PS b out v H)(hb:b<=H.length)(x:Nd)(hl:out.length<3518437208883) :
  ∃v' H',AW AN 5 40 v (.sl (enL cNd [x]) .ti) H=some (v',H')/\PS b (out++[x]) v' H'/\Kp b H H':=by
 rcases h with ⟨rfl,rfl⟩ | ⟨t,h1,rfl,h3⟩
 ·have:=CR (f:=cNd) (l:=[]) (m:=[x]) (ty:=AN) (bytes:=40) (tk:=.ti) (H:=H) (by simp) (by simp) (by simp);exact⟨_,_,this,.inr ⟨H.length,hb,rfl,by simp⟩,Kp.app hb _⟩
 ·have:=Fr (f:=cNd) (l:=out) (m:=[x]) (ty:=AN) (bytes:=40) (tk:=.ti) (H:=H) (t:=t) (by simp) h3 (by simp;omega) (by simp;omega);have jA:=(VP.1 h3).1;refine⟨_,_,this,.inr ⟨t,h1,rfl,by simp[jA]⟩,⟨by simp,λi cs hc=>?_,λi hi=>?_⟩⟩
  ·have:t≠i:=λe=>by rw[<-e,h3]at hc;cases hc
   rw[VT this];exact hc
  ·rw[VT (by omega)]
def TOPk (k:Nat):Nat:=2^k
def TOP:Nat:=TOPk 1400
theorem topk_lt {k m:Nat}(h:k<32*m):TOPk k<4294967296^m:=pow32_lt h
theorem topk_ge {v k:Nat}(h:v<=k):2^v<=TOPk k:=pow2_le h
theorem top_lt:TOP<4294967296^44:=topk_lt (by decide)
theorem top_ge {v:Nat}(h:v<=1400):2^v<=TOP:=topk_ge h
def Cn (v:Nat)(z:Int):Prop:=z.natAbs+2^v<=TOP
theorem Jl (v:Nat):((2:Int)^v).natAbs=2^v:=by rw[YD];rfl
theorem Cn.sb {v:Nat}{z:Int}(h:Cn v z):SB 44 z:=by
 exact WI (Wu (Nat.le_add_right _ _) h) top_lt
theorem Cn.add {v:Nat}{z:Int}(h:Cn (v+1) z):Cn v (z+2^v)/\Cn v z:=by
 unfold Cn at *;have e:(2:Nat)^(v+1)=2^v*2:=Nat.pow_succ _ _;have h1:=YO z (2^v);rw[Jl]at h1;omega
theorem EM {v:Nat}(h:v<=1400):SB 44 (2^v):=by
 unfold SB;rw[Jl];exact WI (top_ge h) top_lt
theorem Cn.sb1 {v:Nat}{z:Int}(h:Cn (v+1) z):SB 44 (z+2^v)/\SB 44 (z+2^v+2^v):=by
 refine⟨h.add.1.sb,?_⟩;unfold Cn at h;have e:(2:Nat)^(v+1)=2^v*2:=Nat.pow_succ _ _;have h1:=YO z (2^v);have h2:=YO (z+2^v) (2^v);rw[Jl]at h1 h2;exact WI (show (z+2^v+2^v).natAbs<=TOP by omega) top_lt
section
variable {Hc:Aa}{a c:List Ab}{z:Int}
theorem st0 (ha:a.length=2):Af 2 (.ptr Hc.length 0 0) (big z) (Hc++[Blk.cel 0 a]++[Blk.cel 0 c])=some (Hc++[Blk.cel 0 (A2 z)]++[Blk.cel 0 c]):=by
 rw[BK (cs:=a) (by simp) ha];simp
theorem st1 (hc:c.length=2):Af 2 (.ptr (Hc.length+1) 0 0) (big z) (Hc++[Blk.cel 0 a]++[Blk.cel 0 c])=some (Hc++[Blk.cel 0 a]++[Blk.cel 0 (A2 z)]):=by
 rw[BK (cs:=c) (by simp) hc];simp

end
theorem place_gather (H:Aa)(self:Ab->Ab->Ab->Ab->Ab->Aa->Out)(j2:LK)(v:Nat)(hv:v<=1329)(w:Ab)(l:List Cl)(tk:Tok)(p6 p8 p15 p20 p45 p47 k:Nat)(B:Aa)(qa qb:Int)(out:Out)
  (hl:l.length<549755813888)(hok:∀c∈l,c.ok)(h15:B[p15]? = some (.cel 0 (A2 (2^(v-1)))))(tF:B[p45]? = some (.cel 0 (A2 qa)))(Zh:B[p47]? = some (.cel 0 (A2 qb)))
  (ca:SB 44 qa/\SB 44 (qa+2^(v-1)))(cb:SB 44 qb/\SB 44 (qb+2^(v-1)))
  (fin:∀dO:LK,Sh.fz H self j2 dO w (.i6 (v:Int)) (.sl (enL cCl l) tk) (.ptr p6 0 0) (.ptr p8 0 0) (.ptr p15 0 0) (.ptr p20 0 0) (.i6 (k:Int)) (.ptr p45 0 0) (.ptr p47 0 0) (DJ cCl B (l.filter (inQ v qa qb))) (.i6 (l.length:Int)) (DI cCl AG 5 B (l.filter (inQ v qa qb)))=out) :
  Sh.f65 H self j2 w (.i6 (v:Int)) (.sl (enL cCl l) tk) (.ptr p6 0 0) (.ptr p8 0 0) (.ptr p15 0 0) (.ptr p20 0 0) (.i6 (k:Int)) (.ptr p45 0 0) (.ptr p47 0 0) B=out:=by
 unfold Sh.f65;refine Cm (G:=λdO vs H1=>Sh.fz H self j2 dO (ag vs 0) (ag vs 1) (ag vs 2) (ag vs 3) (ag vs 4) (ag vs 5) (ag vs 6) (ag vs 7) (ag vs 8) (ag vs 9) (ag vs 10) (ag vs 11) H1) l.length
  (λi=>[w,.i6 (v:Int),.sl (enL cCl l) tk,.ptr p6 0 0,.ptr p8 0 0,.ptr p15 0 0,.ptr p20 0 0,.i6 (k:Int),.ptr p45 0 0,.ptr p47 0 0,DJ cCl B ((l.take i).filter (inQ v qa qb)),.i6 (i:Int)]) (λi=>DI cCl AG 5 B ((l.take i).filter (inQ v qa qb))) _ (by omega) (λrec i hi=>?_) (λrec=>?_)
 ·have aD:(i:Int)<(l.length:Int):=by omega
  have aN:=Au (show i<9223372036854775807 by omega);have oC:=hok _ (We hi);rw[Wb hi,WE];have eK:((l.take i).filter (inQ v qa qb)).length<=i:=Wu (Xf _ _) (by simp;omega);generalize ((l.take i).filter (inQ v qa qb))=fo at eK;obtain⟨G,hG⟩:=GF (f:=cCl) (ty:=AG) (sz:=5) B fo;have t15:=AY (A0 (G:=G) h15);have t45:=AY (A0 (G:=G) tF);have t47:=AY (A0 (G:=G) Zh);have ha:=E5 (f:=cCl) (ty:=AG) (bytes:=72) (tk:=.ti) (B:=B) (l:=fo) (m:=[l[i]]) (by simp) (by simp;omega) (by simp;omega);rw[hG]at ha ⊢;have hp:SB 44 (2^(v-1)):=EM (by omega);have cx:=λH z (hz:SB 44 z)=>EX l[i].x z H (oC.1.lb (by decide)) (hz.lb (by decide));have cy:=λH z (hz:SB 44 z)=>EX l[i].y z H (oC.2.lb (by decide)) (hz.lb (by decide));have ad:=λH z (hz:SB 44 z)=>HT z (2^(v-1)) H (hz.lb (by decide)) (hp.lb (by decide));generalize hc:l[i]=cl at oC cx cy ha;unfold Sh.fz;have hidx:=A1 (f:=cCl) (tk:=tk) (K:=.i64) hi;rw[hc]at hidx;have e0:∀(s:Bool),inQ v qa qb cl=s->(if s then [cl]else [])=[cl].filter (inQ v qa qb):=λs h=>by subst h;simp[WN]
  simp only[GMw,Aj,Ax,aD,hidx,Ar,VU,RG,RF,t15,t45,t47,cx _ _ ca.1,Gb,Sh.f1f,aN];cases h1:decide (qa<=cl.x)with
  | false=>
   rw[<-e0 false (by simp[inQ,h1])];simp only[GMw,Aj,OP,and_true,eq_self,Sh.f1f,aN,Wx,hG]
  | true=>
   simp only[GMw,Aj,RJ,and_true,eq_self,t15,t45,t47,ad _ _ ca.1,hidx,Ar,VU,RG,RF,cx _ _ ca.2,Ga];cases h2:decide (cl.x<qa+2^(v-1))with
   | false=>
    rw[<-e0 false (by simp[inQ,h2])];simp only[GMw,Aj,OP,and_true,eq_self,Sh.f1f,aN,Wx,hG]
   | true=>
    simp only[GMw,Aj,RJ,and_true,eq_self,t15,t45,t47,hidx,Ar,VU,RG,RF,cy _ _ cb.1,Gb];cases h3:decide (qb<=cl.y)with
    | false=>
     rw[<-e0 false (by simp[inQ,h3])];simp only[GMw,Aj,OP,and_true,eq_self,Sh.f1f,aN,Wx,hG]
    | true=>
     simp only[GMw,Aj,RJ,and_true,eq_self,t15,t45,t47,ad _ _ cb.1,hidx,Ar,VU,RG,RF,cy _ _ cb.2,Ga];cases h4:decide (cl.y<qb+2^(v-1))with
     | false=>
      rw[<-e0 false (by simp[inQ,h4])];simp only[GMw,Aj,Sh.f1f,aN,Wx,hG]
     | true=>
      rw[<-e0 true (by unfold inQ;rw[h1,h2,h3,h4];rfl)];simp only[GMw,Aj,hidx,OC,Pr,ha,Sh.f1f,aN]
 ·rw[Wd (VV _)];exact fin rec
theorem quartL_mem {v:Nat}{x y:Int}{k:Nat}{l:List Cl}{c:Cl}(h:c∈Bo v x y k l):c∈l:=(WO.1 h).1
theorem quartL_len (v:Nat)(x y:Int)(k:Nat)(l:List Cl):(Bo v x y k l).length<=l.length:=Xf _ _
def PlOk (b n:Nat)(self:Ab->Ab->Ab->Ab->Ab->Aa->Out):Prop:=
 ∀(out:List Nd) (w:Ab) (x y:Int) (l:List Cl) (tk:Tok) (H:Aa),PS b out w H->b<=H.length->(∀c∈l,c.ok)->Cn n x->Cn n y->l.length<549755813888->out.length+l.length*n<3518437208883 ->
  ∃H' w',self w (.i6 (n:Int)) (big x) (big y) (.sl (enL cCl l) tk) H=some (.ret (.tup [w',.i6 ((AP n out x y l).2:Int)]),H')/\PS b (AP n out x y l).1 w' H'/\Kp b H H'
theorem qa_c {n:Nat}{x:Int}(h:Cn (n+1) x)(k:Nat):Cn n (qa (n+1) x k)/\SB 44 (qa (n+1) x k)/\SB 44 (qa (n+1) x k+2^(n+1-1)):=by
 unfold qa;rw[Wl];split
 ·exact⟨h.add.1,h.sb1.1,h.sb1.2⟩
 ·exact⟨h.add.2,h.sb,h.sb1.1⟩
theorem qb_c {n:Nat}{y:Int}(h:Cn (n+1) y)(k:Nat):Cn n (qb (n+1) y k)/\SB 44 (qb (n+1) y k)/\SB 44 (qb (n+1) y k+2^(n+1-1)):=by
 unfold qb;rw[Wl];split
 ·exact⟨h.add.1,h.sb1.1,h.sb1.2⟩
 ·exact⟨h.add.2,h.sb,h.sb1.1⟩
theorem place_turn {b n:Nat}{self:Ab->Ab->Ab->Ab->Ab->Aa->Out}(cE:n=0\/PlOk b n self)(hn:n+1<=1329)(H Hc:Aa)(out:List Nd)(w:Ab)(x y:Int)(l:List Cl)(tk:Tok)(p6 p8 p15 p20 k:Nat)(hk:k<4)(hb:b<=H.length)(h20:H.length<=p20)
  (hok:∀c∈l,c.ok)(cnx:Cn (n+1) x)(cny:Cn (n+1) y)(hl:l.length<549755813888)(hlen:out.length+l.length*(n+1)<3518437208883)
  (hPS:PS b (plK (AP n) (n+1) x y l k out).1 w Hc)(f6:Hc[p6]? = some (.cel 0 (A2 x)))(f8:Hc[p8]? = some (.cel 0 (A2 y)))(f15:Hc[p15]? = some (.cel 0 (A2 (2^(n+1-1)))))(f20:Hc[p20]? = some (.cel 0 (cNd (plK (AP n) (n+1) x y l k out).2)))(hKp:Kp b H Hc)(d6:p6≠p20)(d8:p8≠p20)(d15:p15≠p20) :
  ∃w' Hd,(∀rec:LK,Sh.f3d H self rec w (.i6 ((n+1:Nat):Int)) (.sl (enL cCl l) tk) (.ptr p6 0 0) (.ptr p8 0 0) (.ptr p15 0 0) (.ptr p20 0 0) (.i6 (k:Int)) Hc=rec [w',.i6 ((n+1:Nat):Int),.sl (enL cCl l) tk,.ptr p6 0 0,.ptr p8 0 0,.ptr p15 0 0,.ptr p20 0 0,.i6 ((k+1:Nat):Int)] Hd) /\
   PS b (plK (AP n) (n+1) x y l (k+1) out).1 w' Hd/\Hd[p6]? = some (.cel 0 (A2 x))/\Hd[p8]? = some (.cel 0 (A2 y))/\Hd[p15]? = some (.cel 0 (A2 (2^(n+1-1))))/\Hd[p20]? = some (.cel 0 (cNd (plK (AP n) (n+1) x y l (k+1) out).2))/\Kp b H Hd:=by
 have hk':(k:Int)<4:=by omega
 have aN:=Au (show k<9223372036854775807 by omega);have hp:SB 44 (2^(n+1-1)):=EM (by omega);have nF:(k:Int).tmod 2=((k%2:Nat):Int):=rfl;have hra:decide (((k%2:Nat):Int)=1)=decide (k%2=1):=by rw[Wo];simp;omega
 have sN:decide ((k:Int)>1)=decide (1<k):=by rw[Wo];simp only[zXe];omega
 have adx:=λH=>HT x (2^(n+1-1)) H (cnx.sb.lb (by decide)) (hp.lb (by decide));have ady:=λH=>HT y (2^(n+1-1)) H (cny.sb.lb (by decide)) (hp.lb (by decide));obtain⟨ca1,ca2⟩:=qa_c cnx k;obtain⟨cb1,cb2⟩:=qb_c cny k;have start:∀(j2:LK) (O:Out),Sh.f65 H self j2 w (.i6 ((n+1:Nat):Int)) (.sl (enL cCl l) tk) (.ptr p6 0 0) (.ptr p8 0 0) (.ptr p15 0 0) (.ptr p20 0 0) (.i6 (k:Int)) (.ptr Hc.length 0 0) (.ptr (Hc.length+1) 0 0) (Hc++[Blk.cel 0 (A2 (qa (n+1) x k))]++[Blk.cel 0 (A2 (qb (n+1) y k))])=O ->
   (bC (Ac true 2 (.ptr p6 0 0) Hc) (λ_=>True) λx44=>
    An (Az (some [(.bool false),(.sl [] .ti)]) Hc) λx45 H46=>
    An (Az (some [(.bool false),(.sl [] .ti)]) H46) λx47 H48=>
    Bc (A8 (Af 2 x45 x44 H48)) λ_ H50=>
    bC (Ac true 2 (.ptr p8 0 0) H50) (λx51=>Ac true 2 (.ptr p8 0 0) Hc=some x51/\True) λx51=>
    bK H (A8 (Af 2 x47 x51 H50)) λ_ H53=>
    AK (λj3=>
    (Ae .none .rem (.i6 (k:Int)) (.i6 2)).bind λx197=>
    (Ae .none .eql x197 (.i6 1)).bind λx198=>
    Ak x198 (
    (Ac true 2 (.ptr p6 0 0) H53).bind λx199=>
    (Ac true 2 (.ptr p15 0 0) H53).bind λx200=>
    bK H (Sh.f2 x199 x200 H53) λx201 H202=>
    bK H (A8 (Af 2 x45 x201 H202)) λ_ H204=>
    j3 [w,(.i6 ((n+1:Nat):Int)),(.sl (enL cCl l) tk),(.ptr p6 0 0),(.ptr p8 0 0),(.ptr p15 0 0),(.ptr p20 0 0),(.i6 (k:Int)),x45,x47] H204) (
    j3 [w,(.i6 ((n+1:Nat):Int)),(.sl (enL cCl l) tk),(.ptr p6 0 0),(.ptr p8 0 0),(.ptr p15 0 0),(.ptr p20 0 0),(.i6 (k:Int)),x45,x47] H53)) (λvs H1=>Sh.f1z H self j2 (ag vs 0) (ag vs 1) (ag vs 2) (ag vs 3) (ag vs 4) (ag vs 5) (ag vs 6) (ag vs 7) (ag vs 8) (ag vs 9) H1))=O:=by
  intro j2 O hO;have l1:(Hc++[Blk.cel 0 [Ab.bool false,.sl [] .ti]]).length=Hc.length+1:=by simp
  have g6:=λ(G G':Aa)=>AY (A0 (G:=G') (A0 (G:=G) f6));have g8:=λ(G G':Aa)=>AY (A0 (G:=G') (A0 (G:=G) f8));have g15:=λ(G G':Aa)=>AY (A0 (G:=G') (A0 (G:=G) f15));have s0:=λ(z:Int) (c:List Ab)=>st0 (Hc:=Hc) (a:=[.bool false,.sl [] .ti]) (c:=c) (z:=z) rfl;have s0':=λ(z z':Int) (c:List Ab)=>st0 (Hc:=Hc) (a:=A2 z') (c:=c) (z:=z) rfl;have s1:=λ(z:Int) (a:List Ab)=>st1 (Hc:=Hc) (a:=a) (c:=[.bool false,.sl [] .ti]) (z:=z) rfl;have s1':=λ(z z':Int) (a:List Ab)=>st1 (Hc:=Hc) (a:=a) (c:=A2 z') (z:=z) rfl;simp only[GMw,Aj,AY f6,CD,l1,s0,g8,AY f8,and_true,eq_self,s1,J6 (show (2:Int)≠0 by decide),nF,hra];unfold qa qb at hO;by_cases lK:k%2=1
  ·rw[if_pos lK]at hO;by_cases hkb:1<k
   ·rw[if_pos hkb]at hO;simp only[GMw,Aj,lK,g6,g15,adx,s0',Sh.f1z,sN,hkb,g8,ady,s1'];exact hO
   ·rw[if_neg hkb]at hO;simp only[GMw,Aj,lK,g6,g15,adx,s0',Sh.f1z,sN,hkb];exact hO
  ·rw[if_neg lK]at hO;by_cases hkb:1<k
   ·rw[if_pos hkb]at hO;simp only[GMw,Aj,lK,Sh.f1z,sN,hkb,g8,g15,ady,s1'];exact hO
   ·rw[if_neg hkb]at hO;simp only[GMw,Aj,lK,Sh.f1z,sN,hkb];exact hO
 generalize hB:Hc++[Blk.cel 0 (A2 (qa (n+1) x k))]++[Blk.cel 0 (A2 (qb (n+1) y k))]=B at start;have b6:B[p6]? = some (.cel 0 (A2 x)):=by rw[<-hB];exact A0 (A0 f6)
 have b8:B[p8]? = some (.cel 0 (A2 y)):=by rw[<-hB];exact A0 (A0 f8)
 have b15:B[p15]? = some (.cel 0 (A2 (2^(n+1-1)))):=by rw[<-hB];exact A0 (A0 f15)
 have b20:B[p20]? = some (.cel 0 (cNd (plK (AP n) (n+1) x y l k out).2)):=by rw[<-hB];exact A0 (A0 f20)
 have b45:B[Hc.length]? = some (.cel 0 (A2 (qa (n+1) x k))):=by rw[<-hB];simp
 have b47:B[Hc.length+1]? = some (.cel 0 (A2 (qb (n+1) y k))):=by rw[<-hB];simp
 have bPS:PS b (plK (AP n) (n+1) x y l k out).1 w B:=by rw[<-hB];exact (hPS.left _).left _
 have bKp:Kp b H B:=by rw[<-hB,VZ];exact hKp.trans (Kp.app (Wu hb hKp.len) _)
 have cT:=cntQ_mono (n+1) x y l (show k+1<=4 by omega);have bG:=R7 n out x y l k (by omega);have dI:M3 (n+1) x y l (k+1)*n<=l.length*n:=W4 _ cT;rw[show M3 (n+1) x y l (k+1)*n=M3 (n+1) x y l k*n+(Bo (n+1) x y k l).length*n from by rw[<-WF];rfl]at dI;have qM:l.length*(n+1)=l.length*n+l.length:=Nat.mul_succ _ _;obtain⟨G,hG⟩:=GF (f:=cCl) (ty:=AG) (sz:=5) B (Bo (n+1) x y k l);have cG:∀i,l.filter (inQ (n+1) (qa (n+1) x i) (qb (n+1) y i))=Bo (n+1) x y i l:=λi=>rfl;suffices hs:∃w' Hd,(∀(rec dO:LK),Sh.fz H self (λvs H1=>Sh.f3c H rec (ag vs 0) (ag vs 1) (ag vs 2) (ag vs 3) (ag vs 4) (ag vs 5) (ag vs 6) (ag vs 7) H1) dO w (.i6 ((n+1:Nat):Int)) (.sl (enL cCl l) tk) (.ptr p6 0 0) (.ptr p8 0 0) (.ptr p15 0 0) (.ptr p20 0 0) (.i6 (k:Int)) (.ptr Hc.length 0 0) (.ptr (Hc.length+1) 0 0) (DJ cCl B (Bo (n+1) x y k l)) (.i6 (l.length:Int)) (B++G)=rec [w',.i6 ((n+1:Nat):Int),.sl (enL cCl l) tk,.ptr p6 0 0,.ptr p8 0 0,.ptr p15 0 0,.ptr p20 0 0,.i6 ((k+1:Nat):Int)] Hd) /\
   PS b (plK (AP n) (n+1) x y l (k+1) out).1 w' Hd/\Hd[p6]? = some (.cel 0 (A2 x))/\Hd[p8]? = some (.cel 0 (A2 y))/\Hd[p15]? = some (.cel 0 (A2 (2^(n+1-1))))/\Hd[p20]? = some (.cel 0 (cNd (plK (AP n) (n+1) x y l (k+1) out).2))/\Kp b H Hd by
  obtain⟨w',Hd,q1,q2⟩:=hs;refine⟨w',Hd,λrec=>?_,q2⟩;unfold Sh.f3d;simp only[Br,BH,hk',decide_true,AZ];rw[show ∀(f:LK->Out) (j:LK),AK f j=f j from λ_ _=>rfl];refine start _ _ (place_gather H self _ (n+1) hn w l tk p6 p8 p15 p20 Hc.length (Hc.length+1) k B _ _ _ hl hok b15 b45 b47 ca2 cb2 λdO=>?_);rw[cG,hG];exact q1 rec dO
 generalize hq:Bo (n+1) x y k l=q at hG dI;have zD:∀c∈q,c.ok:=λc hc=>hok c (by rw[<-hq]at hc;exact quartL_mem hc);have hql:q.length<=l.length:=by rw[<-hq];exact quartL_len _ _ _ _ _
 have t6:=A0 (G:=G) b6;have t8:=A0 (G:=G) b8;have t15:=A0 (G:=G) b15;have t20:=A0 (G:=G) b20;have t45:=A0 (G:=G) b45;have t47:=A0 (G:=G) b47;have tPS:=bPS.left G;have tKp:Kp b H (B++G):=bKp.trans (Kp.app (Wu hb bKp.len) G);have hlast:¬((l.length:Int)<(l.length:Int)):=by omega
 generalize hT:B++G=T at t6 t8 t15 t20 t45 t47 tPS tKp;have wL:=(VP.1 t20).1;rcases Xk n with dZ | dZ
 ·subst dZ;have bU:¬(((0+1:Nat):Int)>1):=by decide
  have iG:(((0+1:Nat):Int)=1):=rfl;have mE:¬((1:Int)>1):=by decide
  have uI:plK (AP 0) (0+1) x y l (k+1) out=((plK (AP 0) (0+1) x y l k out).1,(plK (AP 0) (0+1) x y l k out).2.setKid k (FS q)):=by
   conv=>lhs;unfold plK
   rw[if_pos rfl,hq]
  rw[uI];cases q with
  | nil=>
   refine⟨w,T,λrec dO=>?_,tPS,t6,t8,t15,?_,tKp⟩
   ·unfold Sh.fz;simp only[GMw,Aj,Ax,hlast,Sh.f64,bU,iG,mE,show DJ cCl B []=.sl [] .ti from rfl,show A7 (.sl [] .ti)=some (.i6 0) from rfl,show ¬((0:Int)>0) from by decide,Sh.f3c,aN]
   ·rw[t20];have:(plK (AP 0) (0+1) x y l k out).2.setKid k (FS [])=(plK (AP 0) (0+1) x y l k out).2:=by
     have hz:(plK (AP 0) (0+1) x y l k out).2.kid k=0:=by
      have:∀j,j<=k->(plK (AP 0) (0+1) x y l j out).2.kid k=0:=by
       intro j
       induction j with
       | zero=>
        intro _;unfold plK Nd.kid;dsimp only;split <;> rfl
       | succ j ihj=>
        intro hj
        conv=>lhs;unfold plK
        rw[if_pos rfl];dsimp only;rw[Fu _ _ (by omega) hk (by omega)];exact ihj (by omega)
      exact this k (VV _)
     generalize (plK (AP 0) (0+1) x y l k out).2=nd at hz;obtain⟨lv,k0,k1,k2,k3⟩:=nd
     match k,hk,hz with
     | 0,_,hz=>simp only[Nd.kid]at hz;subst hz;rfl
     | 1,_,hz=>simp only[Nd.kid]at hz;subst hz;rfl
     | 2,_,hz=>simp only[Nd.kid]at hz;subst hz;rfl
     | 3,_,hz=>simp only[Nd.kid]at hz;subst hz;rfl
    rw[this]
  | cons c q=>
   have yQ:IntKind.i64.wrap (c.s.toNat:Int)=(c.s.toNat:Int):=wrap_nat (by have:=c.s.toNat_lt;omega);have hidx:Av 5 (.sl (enL cCl (c::q)) (.own B.length)) (.i6 0)=some (.cptr (cCl c) 0):=A1 (f:=cCl) (l:=c::q) (tk:=.own B.length) (K:=.i64) (i:=0) (by simp);have hpos:(((c::q).length:Int)>0):=by simp only[zXj];omega
   refine⟨w,T.set p20 (.cel 0 (cNd ((plK (AP 0) (0+1) x y l k out).2.setKid k (c.s.toNat:Int)))),λrec dO=>?_,tPS.put t20,by rw[VT d6.symm];exact t6,by rw[VT d8.symm];exact t8,by rw[VT d15.symm];exact t15,by rw[Wf wL];rfl,⟨by simp;exact tKp.len,λi cs hi=>?_,λi hi=>?_⟩⟩
   ·unfold Sh.fz;simp only[GMw,Aj,Ax,hlast,Sh.f64,bU,iG,mE,show DJ cCl B (c::q)=.sl (enL cCl (c::q)) (.own B.length) from rfl,hpos,hidx,Ar,Ah,VU,load_sC,B3,yQ,HZ hk,ET t20 hk,Sh.f3c,aN]
   ·have:=(VP.1 hi).1;rw[VT (by omega)];exact tKp.cel i cs hi
   ·rw[VT (by omega)];exact tKp.old i hi
 ·-- a level above: a node
  have jF:PlOk b n self:=by rcases cE with h | h;omega;exact h
  have bU:(((n+1:Nat):Int)>1):=by omega
  have iG:¬(((n+1:Nat):Int)=1):=by omega
  have lZ:IntKind.i64.wrap (((n+1:Nat):Int)-1)=(n:Int):=by rw[Ao] <;> omega
  have uI:plK (AP n) (n+1) x y l (k+1) out=((AP n (plK (AP n) (n+1) x y l k out).1 (qa (n+1) x k) (qb (n+1) y k) q).1,(plK (AP n) (n+1) x y l k out).2.setKid k ((AP n (plK (AP n) (n+1) x y l k out).1 (qa (n+1) x k) (qb (n+1) y k) q).2:Int)):=by
   conv=>lhs;unfold plK
   rw[if_neg (by omega),hq]
  rw[uI];obtain⟨H1,w1,r1,r2,r3⟩:=jF _ w (qa (n+1) x k) (qb (n+1) y k) q (outK B q) T tPS (Wu hb tKp.len) zD ca1 cb1 (by omega) (by omega);have u20:=r3.cel _ _ t20;have u20l:=(VP.1 u20).1;refine⟨w1,H1.set p20 (.cel 0 (cNd ((plK (AP n) (n+1) x y l k out).2.setKid k ((AP n (plK (AP n) (n+1) x y l k out).1 (qa (n+1) x k) (qb (n+1) y k) q).2:Int)))),λrec dO=>?_,r2.put u20,by rw[VT d6.symm];exact r3.cel _ _ t6,by rw[VT d8.symm];exact r3.cel _ _ t8,by rw[VT d15.symm];exact r3.cel _ _ t15,by rw[Wf u20l],⟨by simp;exact Wu tKp.len r3.len,λi cs hi=>?_,λi hi=>?_⟩⟩
  ·unfold Sh.fz;simp only[GMw,Aj,Ax,hlast,Sh.f64,bU,iG,Fy,lZ,AY t45,AY t47,r1,B1,B8,Ah,VU,HZ hk,ET u20 hk,Sh.f3c,aN]
  ·have:=(VP.1 hi).1;rw[VT (by omega)];exact r3.cel _ _ (tKp.cel i cs hi)
  ·rw[VT (by omega),r3.old i hi];exact tKp.old i hi
theorem S8 {b n d:Nat}(cE:n=0\/PlOk b n (Sh.fj d))(hn:n+1<=1329):PlOk b (n+1) (Sh.fj (d+1)):=by
 intro out w x y l tk H hPS hb hok cnx cny hl hlen;have aN:IntKind.i64.wrap (((n+1:Nat):Int)-1)=((n:Nat):Int):=by rw[Ao] <;> omega
 have hp:SB 44 (2^(n+1-1)):=EM (by omega);have bX:=λH=>Iv n H (by omega);show ∃H' w',Sh.f7l (Sh.fj d) _ _ _ _ _ _=_/\_;unfold Sh.f7l AP;have s1:∀B:Aa,Af 2 (.ptr B.length 0 0) (big (2^n)) (B++[.cel 0 [.bool false,.sl [] .ti]])=some (B++[.cel 0 (A2 (2^n))]):=λB=>by rw[BK (Al (B:=B)) rfl,Be]
 simp only[GMw,DL,Ax];by_cases h0:l=[]
 ·subst h0;simp only[GMw,zXk,show ((0:Nat):Int)=0 from rfl];exact⟨_,_,rfl,(hPS.left _).left _,(Kp.app hb _).trans (Kp.app (by simp;omega) _)⟩
 ·have hl0:¬((l.length:Int)=0):=by have:=Wy.2 h0;omega
  have uZ:=Wy.2 h0;simp only[if_neg h0,hl0,GMw,aN,bX,CD,s1,TI,Pv,JQ (Al (cs:=cNd nd0)) rfl,Be];generalize h1:H++[Blk.cel 0 (A2 x)]=H1;generalize h2:H1++[Blk.cel 0 (A2 y)]=H2;generalize h3:H2++[Blk.cel 0 (A2 (2^n))]=H3;have e1:H1.length=H.length+1:=by rw[<-h1];simp
  have e2:H2.length=H.length+2:=by rw[<-h2];simp;omega
  have e3:H3.length=H.length+3:=by rw[<-h3];simp;omega
  have f6:(H3++[Blk.cel 0 (cNd ⟨((n+1:Nat):Int),0,0,0,0⟩)])[H.length]? = some (.cel 0 (A2 x)):=by rw[<-h3,<-h2,<-h1];simp
  have f8:(H3++[Blk.cel 0 (cNd ⟨((n+1:Nat):Int),0,0,0,0⟩)])[H1.length]? = some (.cel 0 (A2 y)):=by rw[<-h3,<-h2];simp
  have f15:(H3++[Blk.cel 0 (cNd ⟨((n+1:Nat):Int),0,0,0,0⟩)])[H2.length]? = some (.cel 0 (A2 (2^n))):=by rw[<-h3];simp
  have hPS':PS b out w (H3++[Blk.cel 0 (cNd ⟨((n+1:Nat):Int),0,0,0,0⟩)]):=by rw[<-h3,<-h2,<-h1];exact (((hPS.left _).left _).left _).left _
  have hKp':Kp b H (H3++[Blk.cel 0 (cNd ⟨((n+1:Nat):Int),0,0,0,0⟩)]):=by
   rw[<-h3,<-h2,<-h1];simp only[VZ];exact Kp.app hb _
  have loop:=GG (G:=λrec1 vs Hc=>Sh.f3d H (Sh.fj d) rec1 (ag vs 0) (ag vs 1) (ag vs 2) (ag vs 3) (ag vs 4) (ag vs 5) (ag vs 6) (ag vs 7) Hc) 4
   (λk vs Hc=>∃w',vs=[w',.i6 ((n+1:Nat):Int),.sl (enL cCl l) tk,.ptr H.length 0 0,.ptr H1.length 0 0,.ptr H2.length 0 0,.ptr H3.length 0 0,.i6 (k:Int)]/\PS b (plK (AP n) (n+1) x y l k out).1 w' Hc/\Hc[H.length]? = some (.cel 0 (A2 x))/\Hc[H1.length]? = some (.cel 0 (A2 y))/\Hc[H2.length]? = some (.cel 0 (A2 (2^n)))/\Hc[H3.length]? = some (.cel 0 (cNd (plK (AP n) (n+1) x y l k out).2))/\Kp b H Hc)
   (by decide) (λk vs Hc hk hI=>?_) (vs:=[w,.i6 ((n+1:Nat):Int),.sl (enL cCl l) tk,.ptr H.length 0 0,.ptr H1.length 0 0,.ptr H2.length 0 0,.ptr H3.length 0 0,.i6 0]) (H:=H3++[Blk.cel 0 (cNd ⟨((n+1:Nat):Int),0,0,0,0⟩)])
   ⟨w,rfl,hPS',f6,f8,f15,by simp[plK],hKp'⟩
  ·obtain⟨vs',Hc,⟨w',rfl,g1,g2,g3,g4,g5,g6⟩,rec,aB⟩:=loop;have bG:=R7 n out x y l 4 (VV _);have cT:=RT (n+1) x y l;have dI:M3 (n+1) x y l 4*n<=l.length*n:=W4 _ cT;have qM:l.length*(n+1)=l.length*n+l.length:=Nat.mul_succ _ _;obtain⟨w2,H4,a1,a2,a3⟩:=g1.snoc (Wu hb g6.len) (plK (AP n) (n+1) x y l 4 out).2 (by omega);obtain⟨tk4,rfl⟩:=a2.sl;have hf:¬(((4:Nat):Int)<4):=by decide
   refine⟨H4,_,?_,a2,g6.trans a3⟩;rw[aB];unfold Sh.f3d;simp only[GMw,Aj,hf,HY g5,Ks,a1,Ax,VX,zXi]
  ·obtain⟨w',rfl,g1,g2,g3,g4,g5,g6⟩:=hI;obtain⟨w2,Hd,q1,q2,q3,q4,q5,q6,q7⟩:=place_turn cE hn H Hc out w' x y l tk H.length H1.length H2.length H3.length k hk hb (by omega) hok cnx cny hl hlen g1 g2 g3 g4 g5 g6 (by omega) (by omega) (by omega);exact⟨_,_,⟨w2,rfl,q2,q3,q4,q5,q6,q7⟩,q1⟩
theorem UT (b:Nat):∀n d,n+1<=1329->n+1<=d->PlOk b (n+1) (Sh.fj d)
 | 0,d,h1,h2=>by
  obtain⟨d,rfl⟩:∃e,d=e+1:=⟨d-1,by omega⟩;exact S8 (.inl rfl) h1
 | n+1,d,h1,h2=>by
  obtain⟨d,rfl⟩:∃e,d=e+1:=⟨d-1,by omega⟩;exact S8 (.inr (UT b n d (by omega) (by omega))) h1
structure RC where
 n1:Bool
 l1:List Nat
 n2:Bool
 l2:List Nat
 s:UInt8
def cRC (r:RC):List Ab:=[.bool r.n1,.sl (enL cU r.l1) .no,.bool r.n2,.sl (enL cU r.l2) .no,.int .u8 (r.s.toNat:Int)]
instance:Sz cRC 5:=⟨λ_=>rfl⟩
def RC.fits (r:RC):Prop:=Lim r.l1/\Lim r.l2/\r.l1.length<=549755813888/\r.l2.length<=549755813888
def RC.right (r:RC):Bool:=HH r.n1 r.l1&&HH r.n2 r.l2
def RC.cl (r:RC):Cl:=⟨DZ r.n1 r.l1,DZ r.n2 r.l2,r.s⟩
theorem cRC_cl {r:RC}(h:r.right=true)(hf:r.fits):cRC r=cCl r.cl:=by
 simp only[RC.right,Wc]at h;have e1:=bigC_ok h.1 hf.1;have e2:=bigC_ok h.2 hf.2.1;show [Ab.bool r.n1,.sl (enL cU r.l1) .no]++([Ab.bool r.n2,.sl (enL cU r.l2) .no]++[.int .u8 (r.s.toNat:Int)])=_;rw[e1,e2];rfl
theorem enL_RC {l:List RC}(h:∀r∈l,r.right=true)(hf:∀r∈l,r.fits):enL cRC l=enL cCl (l.map RC.cl):=by
 unfold enL;rw[List.map_map];exact YE λr hr=>cRC_cl (h r hr) (hf r hr)
def JH (most:Int)(l:List RC):Bool:=decide ((l.length:Int)>most) || !((List.range l.length).all λi=>match l[i]? with | some r=>decide (r.l1.length<=50)&&decide (r.l2.length<=50) | none=>true)
theorem q07_great (l:List RC)(tk:Tok)(most:Int)(H:Aa)(hl:l.length<1152921504606846976):Sh.f6k (.sl (enL cRC l) tk) (.i6 most) H=some (.ret (.bool (JH most l)),H):=by
 unfold Sh.f6k JH;simp only[GMw,Ax];by_cases hm:(l.length:Int)>most
 ·simp only[hm,GMw]
 ·simp only[hm,GMw];have key:=EZ (G:=λrec1 vs H1=>Sh.f6j H rec1 (ag vs 0) (ag vs 1) H1) l.length (λi=>match l[i]? with | some r=>decide (r.l1.length<=50)&&decide (r.l2.length<=50) | none=>true) (λi=>[.sl (enL cRC l) tk,.i6 (i:Int)]) H (some (.ret (.bool false),H)) (some (.ret (.bool true),H)) hl (λrec i hi=>?_) (λrec=>?_)
  ·refine key.trans ?_;cases (List.range l.length).all λi=>match l[i]? with | some r=>decide (r.l1.length<=50)&&decide (r.l2.length<=50) | none=>true <;> rfl
  ·have aD:(i:Int)<(l.length:Int):=by omega
   have aN:=Au (show i<9223372036854775807 by omega);have g1:∀H,Ac false 1 (.cptr (cRC l[i]) 1) H=some (.sl (enL cU l[i].l1) .no):=λH=>rfl;have g2:∀H,Ac false 1 (.cptr (cRC l[i]) 3) H=some (.sl (enL cU l[i].l2) .no):=λH=>rfl;have d1:decide ((l[i].l1.length:Int)>50) = !decide (l[i].l1.length<=50):=by rw[Wo];simp;omega
   have d2:decide ((l[i].l2.length:Int)>50) = !decide (l[i].l2.length<=50):=by rw[Wo];simp;omega
   unfold Sh.f6j;simp only[GMw,Ax,aD,A1 hi,Ar,VU,g1,VO hi,d1];cases decide (l[i].l1.length<=50)with
   | false=>simp only[GMw]
   | true=>
    simp only[GMw,A1 hi,Ar,VU,show 2+1=3 from rfl,g2,Ax,d2,aN];cases decide (l[i].l2.length<=50) <;> simp only[GMw]
  ·unfold Sh.f6j;simp only[GMw,Ax,WL]
def Il:Nat->Nat->Cl->Nat
 | 0,v,_=>v
 | f+1,v,c=>if DP v c then v else Il f (v+1) c
def A3 (l:List Cl):Nat:=l.foldl (λv c=>Il (1330-v) v c) 1
theorem lvUp_ge:∀f v c,v<=Il f v c/\Il f v c<=v+f
 | 0,v,c=>⟨VV _,VV _⟩
 | f+1,v,c=>by
  unfold Il;split
  ·omega
  ·have:=lvUp_ge f (v+1) c;omega
theorem Vn (l:List Cl):∀v,1<=v->v<=1330->v<=l.foldl (λv c=>Il (1330-v) v c) v/\l.foldl (λv c=>Il (1330-v) v c) v<=1330:=by
 induction l with
 | nil=>intro v h1 h2;simp;omega
 | cons c l ih=>
  intro v h1 h2;have h:=lvUp_ge (1330-v) v c;have:=ih (Il (1330-v) v c) (by omega) (by omega);simp only[List.foldl_cons];omega
theorem IV (l:List Cl):1<=A3 l/\A3 l<=1330:=Vn l 1 (by omega) (by omega)
def D8 (l:List Cl):List Nd×Int:=
 if A3 (Bb l)>1329 then ([],4)
 else if SG (AP (A3 (Bb l)) [] (-(2^(A3 (Bb l)-1))) (-(2^(A3 (Bb l)-1))) (Bb l)).1 ((AP (A3 (Bb l)) [] (-(2^(A3 (Bb l)-1))) (-(2^(A3 (Bb l)-1))) (Bb l)).2:Int)
 then (Jg (AP (A3 (Bb l)) [] (-(2^(A3 (Bb l)-1))) (-(2^(A3 (Bb l)-1))) (Bb l)).1 (AP (A3 (Bb l)) [] (-(2^(A3 (Bb l)-1))) (-(2^(A3 (Bb l)-1))) (Bb l)).2,0)
 else ([],1)
theorem PN {l:List Cl}{c:Cl}(h:c∈Bb l):c∈l:=by
 have h1:=(WO.1 h).1;have:=(Gx (l:=l) l.length (VV _)).2;rw[Wd (VV _)]at this;exact this c h1
theorem EI (l:List Cl):(Bb l).length<=l.length:=by
 have h1:(Bb l).length<=(CO l).length:=Xf _ _;have:=(Gx (l:=l) l.length (VV _)).1;rw[Wd (VV _)]at this;omega
theorem cn_corner {v:Nat}(h1:1<=v)(h:v<=1329):Cn v (-(2^(v-1))):=by
 unfold Cn;rw[Int.natAbs_neg,Jl];have e:(2:Nat)^(v+1)=2^v*2:=Nat.pow_succ _ _;have e1:(2:Nat)^(v-1)<=2^v:=W9 (by omega) (by omega);have:=top_ge (v:=v+1) (by omega);omega
theorem II {H Hq:Aa}{tk:Tok}{Q:List Nd}{e:Int}(hc:Hq[H.length]? = some (.cel 0 [.sl [] .ti]))(hold:∀i,i<H.length->Hq[i]? = H[i]?) :
  (bP H (A8 (Af 1 (.ptr H.length 0 0) (.agg [.sl (enL cNd Q) tk]) Hq)) λ_ H37=>(Eh [Ac true 1 (.ptr H.length 0 0) H37,some (.i6 e)]).bind λx38=>rPN H x38 H37)=some (.ret (.tup [CY Q,.i6 e]),H):=by
 have aG:=(VP.1 hc).1;have hst:Af 1 (.ptr H.length 0 0) (.agg [.sl (enL cNd Q) tk]) Hq=some (Hq.set H.length (.cel 0 [.sl (enL cNd Q) tk])):=by
  simp only[Af,Aw hc,zXa,Bt hc];rfl
 have hld:Ac true 1 (.ptr H.length 0 0) (Hq.set H.length (.cel 0 [.sl (enL cNd Q) tk]))=some (.agg [.sl (enL cNd Q) tk]):=by
  have:(Hq.set H.length (.cel 0 [.sl (enL cNd Q) tk]))[H.length]? = some (.cel 0 [.sl (enL cNd Q) tk]):=by rw[Wf aG]
  simp only[Ac,Aw this,zXa];rfl
 have aS:(Hq.set H.length (.cel 0 [.sl (enL cNd Q) tk])).take H.length=H:=C0 λi hi=>by
  rw[VT (by omega),hold i hi]
 simp only[GMw,hst,hld,EN,CU,D6,zXb,GD aS,Ci,Bu,B6,F5,DB,Ew,GL,CM]
 rfl
theorem loop_all2 {G:LK->LK}(N:Nat)(p:Nat->Bool)(st:Nat->List Ab)(H:Aa)(yes no:Out)(hN:N<1152921504606846976)
  (turn:∀(rec:LK) (i:Nat),i<N->G rec (st i) H=if p i then rec (st (i+1)) H else no)(last:(List.range N).all p=true->∀rec:LK,G rec (st N) H=yes):Ap G AU (st 0) H=if (List.range N).all p then yes else no:=by
 refine Bq (σ:=Nat) (λi=>i<=N/\∀j,j<i->p j=true) st (λ_=>H) (λi=>N-i) (λ_=>if (List.range N).all p then yes else no) (λi rec hi hrec=>?_) 0 ⟨Wv _,λj hj=>by omega⟩ (by omega);by_cases h:i<N
 ·rw[turn rec i h];cases hp:p i with
  | true=>exact hrec (i+1) ⟨h,λj hj=>by
    by_cases e:j=i
    ·rw[e];exact hp
    ·exact hi.2 j (by omega)⟩ (by omega)
  | false=>
   have:(List.range N).all p=false:=by rw[Xy];exact⟨i,by simpa using h,by simp[hp]⟩
   simp[this]
 ·have e:i=N:=by omega
  subst e;have:(List.range i).all p=true:=by rw[Wi];intro j hj;exact hi.2 j (by simpa using hj)
  rw[last this,this];rfl
def NH (S:List Cl):List Nd×Int:=
 if A3 S>1329 then ([],4)
 else if SG (AP (A3 S) [] (-(2^(A3 S-1))) (-(2^(A3 S-1))) S).1 ((AP (A3 S) [] (-(2^(A3 S-1))) (-(2^(A3 S-1))) S).2:Int)
 then (Jg (AP (A3 S) [] (-(2^(A3 S-1))) (-(2^(A3 S-1))) S).1 (AP (A3 S) [] (-(2^(A3 S-1))) (-(2^(A3 S-1))) S).2,0)
 else ([],1)
theorem R9 (l:List Cl):D8 l=NH (Bb l):=rfl
theorem level_run (H B:Aa)(aA:LK)(p:Ab)(l:List Cl)(tk:Tok)(i:Nat)(hi:i<l.length)(jB:l.length<2147483648)(hc:l[i].ok):∀(f v n:Nat),f+v=1330->1<=v->f<n ->
  Ap (λdB vs H1=>Sh.f6d H aA dB (ag vs 0) (ag vs 1) (ag vs 2) (ag vs 3) H1) n [p,.sl (enL cCl l) tk,.i6 (v:Int),.i6 (i:Int)] B=aA [p,.sl (enL cCl l) tk,.i6 (Il f v l[i]:Int),.i6 ((i+1:Nat):Int)] B:=by
 intro f
 induction f with
 | zero=>
  intro v n h1 h2 h3;obtain⟨n,rfl⟩:∃m,n=m+1:=⟨n-1,by omega⟩;have hv:¬(v:Int)<=1329:=by omega
  have aN:=Au (show i<9223372036854775807 by omega);rw[CF];unfold Sh.f6d;simp only[GMw,Aj,hv,aN]
  rfl
 | succ f ih=>
  intro v n h1 h2 h3;obtain⟨n,rfl⟩:∃m,n=m+1:=⟨n-1,by omega⟩;have hv:(v:Int)<=1329:=by omega
  have aN:=Au (show i<9223372036854775807 by omega);have tM:=Au (show v<9223372036854775807 by omega);have hw:=λH=>q07_within l[i] v H hc h2 (by omega);rw[CF];unfold Sh.f6d Il;simp only[GMw,Aj,hv,A1 hi,OC,hw];cases DP v l[i]with
  | true=>simp only[GMw,aN]
  | false=>
   simp only[GMw,tM];exact ih (v+1) n (by omega) (by omega) (by omega)
theorem Ow {H:Aa}{e:Int}:((A6 (some [(.sl [] .ti)]) []).bind λx57=>bP H (A8 (Af 1 (.ptr H.length 0 0) x57 (H++[.cel 0 [.sl [] .ti]]))) λ_ H59=>(Eh [Ac true 1 (.ptr H.length 0 0) H59,some (.i6 e)]).bind λx60=>rPN H x60 H59)=some (.ret (.tup [CY [],.i6 e]),H):=by
 rw[show A6 (some [(.sl [] .ti)]) []=some (.agg [.sl (enL cNd []) .ti]) from rfl];rw[BH];exact II (by simp) λi hi=>by rw[VR hi]
theorem q07_of (l:List RC)(tk:Tok)(H:Aa)(hl:l.length<2147483648)(hf:∀r∈l,r.fits)(hs:∀r∈l,r.right=true->r.cl.ok) :
  Sh.f6g (.sl (enL cRC l) tk) H=some (.ret (if l.all RC.right then .tup [CY (D8 (l.map RC.cl)).1,.i6 (D8 (l.map RC.cl)).2]else .tup [CY [],.i6 1]),H):=by
 unfold Sh.f6g;rw[alloc_eq (cs:=[.sl [] .ti]) rfl];simp only[GMw];have aE:l.all RC.right=(List.range l.length).all λi=>match l[i]? with | some r=>r.right | none=>true:=by
  rw[Wo,Wi,Wi];constructor
  ·intro h i hi;have aD:i<l.length:=by simpa using hi
   rw[VO aD];exact h _ (We aD)
  ·intro h r hr;obtain⟨i,hi,rfl⟩:=Wz hr;have:=h i (by simpa using hi)
   rwa [VO hi]at this
 have key:=loop_all2 (G:=λrec1 vs H1=>Sh.f6f H rec1 (ag vs 0) (ag vs 1) (ag vs 2) H1) l.length (λi=>match l[i]? with | some r=>r.right | none=>true) (λi=>[.sl (enL cRC l) tk,.ptr H.length 0 0,.i6 (i:Int)]) (H++[.cel 0 [.sl [] .ti]])
  (some (.ret (.tup [CY (D8 (l.map RC.cl)).1,.i6 (D8 (l.map RC.cl)).2]),H)) (some (.ret (.tup [CY [],.i6 1]),H)) (by omega) (λrec i hi=>?_) (λhr rec=>?_)
 ·refine key.trans ?_;rw[aE];cases (List.range l.length).all λi=>match l[i]? with | some r=>r.right | none=>true <;> rfl
 ·have aD:(i:Int)<(l.length:Int):=by omega
  have aN:=Au (show i<9223372036854775807 by omega);have eR:=hf _ (We hi);have g1:∀H,Ac true 2 (.cptr (cRC l[i]) 0) H=some (.agg [.bool l[i].n1,.sl (enL cU l[i].l1) .no]):=λH=>rfl;have g2:∀H,Ac true 2 (.cptr (cRC l[i]) 2) H=some (.agg [.bool l[i].n2,.sl (enL cU l[i].l2) .no]):=λH=>rfl;have r1:=λH=>UY l[i].n1 l[i].l1 .no H eR.2.2.1;have r2:=λH=>UY l[i].n2 l[i].l2 .no H eR.2.2.2;unfold Sh.f6f;simp only[GMw,Ax,aD,A1 hi,Ar,VU,g1,r1,VO hi,RC.right];cases HH l[i].n1 l[i].l1 with
  | false=>simp only[GMw,Ow]
  | true=>
   simp only[GMw,A1 hi,Ar,VU,g2,r2];cases HH l[i].n2 l[i].l2 with
   | false=>simp only[GMw,Ow]
   | true=>simp only[GMw,aN]
 ·rw[<-aE]at hr;have gB:∀r∈l,r.right=true:=Wi.1 hr;have aG:∀c∈l.map RC.cl,c.ok:=λc hc=>by
   obtain⟨r,h1,rfl⟩:=Xj.1 hc;exact hs r h1 (gB r h1)
  unfold Sh.f6f;simp only[GMw,Ax,WL];rw[enL_RC gB hf];generalize hL:l.map RC.cl=L at aG;have hLl:L.length<2147483648:=by rw[<-hL];simpa using hl
  simp only[GMw,q07_last L tk _ (by omega) aG,R9];have eD:∀c∈Bb L,c.ok:=λc hc=>aG c (PN hc);have hsl:=EI L;generalize Bb L=S at eD hsl;refine Cm (G:=λaA vs H1=>Sh.f6e H aA (ag vs 0) (ag vs 1) (ag vs 2) (ag vs 3) H1) S.length (λi=>[.ptr H.length 0 0,.sl (enL cCl S) .no,.i6 (A3 (S.take i):Int),.i6 (i:Int)]) (λ_=>H++[.cel 0 [.sl [] .ti]])
   (some (.ret (.tup [CY (NH S).1,.i6 (NH S).2]),H)) (by omega) (λaA i hi=>?_) (λaA=>?_)
  ·have aD:(i:Int)<(S.length:Int):=by omega
   obtain⟨v1,v2⟩:=IV (S.take i);have aC:=level_run H (H++[.cel 0 [.sl [] .ti]]) aA (.ptr H.length 0 0) S .no i hi (by omega) (eD _ (We hi)) (1330-A3 (S.take i)) (A3 (S.take i)) AU (by omega) v1 (by rw[Dr];omega);have aJ:A3 (S.take (i+1))=Il (1330-A3 (S.take i)) (A3 (S.take i)) S[i]:=by
    unfold A3;rw[Wb hi,XM];rfl
   unfold Sh.f6e;simp only[GMw,Aj,Ax,aD];rw[aJ];exact aC
  ·obtain⟨v1,v2⟩:=IV S;unfold Sh.f6e NH;rw[Wd (VV _)];generalize A3 S=v at v1 v2;simp only[GMw,Aj,Ax,WL];by_cases hv:v>1329
   ·have aO:(v:Int)>1329:=by omega
    simp only[GMw,aO,if_pos hv,Ow]
   ·have aO:¬(v:Int)>1329:=by omega
    obtain⟨n,rfl⟩:∃n,v=n+1:=⟨v-1,by omega⟩;have lZ:IntKind.i64.wrap (((n+1:Nat):Int)-1)=(n:Int):=by rw[Ao] <;> omega
    have hp:SB 44 (2^n):=EM (by omega);have bX:=λH=>Iv n H (by omega);have gP:=λH=>IP (2^n) H (hp.lb (by decide));have jX:=cn_corner (v:=n+1) (by omega) (by omega);rw[Wl]at jX;rw[if_neg hv];have s1:∀B:Aa,Af 2 (.ptr B.length 0 0) (big (-(2^n))) (B++[.cel 0 [.bool false,.sl [] .ti]])=some (B++[.cel 0 (A2 (-(2^n)))]):=λB=>by rw[BK (Al (B:=B)) rfl,Be]
    have dI:S.length*(n+1)<=2147483648*1329:=Ya (by omega) (by omega);have hlen:([]:List Nd).length+S.length*(n+1)<3518437208883:=by
     simp only[zXk];omega
    obtain⟨Hq,w',p1,p2,p3⟩:=UT (H++[Blk.cel 0 [.sl [] .ti]]).length n AU (by omega) (by rw[Dr];omega) [] (.sl [] .ti) (-(2^n)) (-(2^n)) S .no (H++[.cel 0 [.sl [] .ti]]++[.cel 0 (A2 (-(2^n)))]) (.inl ⟨rfl,rfl⟩) (by simp) eD jX jX (by omega) hlen;obtain⟨tk2,rfl⟩:=p2.sl;have bG:=Wu (PF (n+1) [] (-(2^n)) (-(2^n)) S) (Nat.add_le_add_left dI _);simp only[zXk]at bG;simp only[GMw,aO,lZ,bX,gP,CD,s1,AY Al,p1,B1,B8,Wl];generalize AP (n+1) [] (-(2^n)) (-(2^n)) S=P at p1 p2 bG;obtain⟨Q,r⟩:=P;dsimp only at p1 p2 bG ⊢;have uB:=λH=>q06_of Q tk2 (r:Int) H (by omega);have bT:Hq[H.length]? = some (.cel 0 [.sl [] .ti]):=p3.cel _ _ (by simp);have hold:∀i,i<H.length->Hq[i]? = H[i]? := λi hi=>by
     rw[p3.old i (by simp;omega),VZ,VR hi]
    simp only[GMw,uB];cases SG Q (r:Int)with
    | false=>
     simp only[GMw,B1,B8,CY,Bj];exact II bT hold
    | true=>
     simp only[GMw,B1,B8,CY,Bj,zXl];exact II bT hold
def LW (c:UInt8):Bool:=decide (33<=c.toNat/\c.toNat<=126)
theorem q04_sign (c:UInt8)(H:Aa):Sh.f51 (.int .u8 (c.toNat:Int)) H=some (.ret (.bool (LW c)),H):=by
 unfold Sh.f51 LW;by_cases h:(33:Int)<=c.toNat
 ·have:33<=c.toNat:=by omega
  simp[h,this];omega
 ·have:¬33<=c.toNat:=by omega
  simp[h,this]
def Hk (s:List UInt8):Bool:=s.all LW&&decide (1<=s.length/\s.length<=40)
theorem q04_rule (s:List UInt8)(H:Aa)(hs:s.length<1152921504606846976):Sh.f2s (.str s) H=some (.ret (.bool (Hk s)),H):=by
 unfold Sh.f2s;refine Bq (σ:=Nat) (λi=>i<=s.length/\(s.take i).all LW=true) (λi=>[.str s,.i6 (i:Int)]) (λ_=>H) (λi=>s.length-i) (λ_=>some (.ret (.bool (Hk s)),H)) (λi rec hi hrec=>?_) 0 ⟨by omega,by simp⟩ (by omega);obtain⟨hi,aE⟩:=hi;unfold Sh.f7x;by_cases h:i<s.length
 ·have hx:(i:Int)<(s.length:Int):=by omega
  simp only[Am,Bg,Iz,zXa,Br,hx,decide_true,AZ,KL h,q04_sign,Fq,J8];cases hc:LW s[i]with
  | false=>
   have:Hk s=false:=by
    simp only[Hk,X3];left;rw[Xy];exact⟨s[i],We h,by simp[hc]⟩
   simp[this]
  | true=>
   have:=hrec (i+1) ⟨h,by rw[Wb h,Y8];simp[aE,hc]⟩ (by omega);simp (disch:=omega) [Ao];simpa using this
 ·have hx:¬(i:Int)<(s.length:Int):=by omega
  have he:s.take i=s:=Wd (by omega);rw[he]at aE;by_cases h1:(1:Int)<=s.length
  ·simp[hx,h1,Hk,aE];by_cases h2:s.length<=40
   ·have:(s.length:Int)<=40:=by omega
    simp[this,h2];omega
   ·have:¬(s.length:Int)<=40:=by omega
    simp[this,h2]
  ·have:s=[]:=Wk (by omega);subst this;have hz:i=0:=by simpa using hi
   subst hz;simp[Hk]
def EW (most:Int)(l:List RC):List Nd×Bool:=
 if JH most l then ([],false)
 else if l.all RC.right then ((D8 (l.map RC.cl)).1,decide ((D8 (l.map RC.cl)).2=0))else ([],false)
def RC.lim (r:RC):Prop:=Lim r.l1/\Lim r.l2
theorem great_no {most:Int}{l:List RC}(h:JH most l=false)(hl:∀r∈l,r.lim):(l.length:Int)<=most/\(∀r∈l,r.fits)/\∀r∈l,r.cl.ok:=by
 simp only[JH,Yh,decide_eq_false_iff_not,Yr,Wi]at h;obtain⟨h1,h2⟩:=h;have hs:∀r∈l,r.l1.length<=50/\r.l2.length<=50:=λr hr=>by
  obtain⟨i,hi,rfl⟩:=Wz hr;have:=h2 i (by simpa using hi);rw[VO hi]at this;simpa using this
 refine⟨by omega,λr hr=>⟨(hl r hr).1,(hl r hr).2,by have:=(hs r hr).1;omega,by have:=(hs r hr).2;omega⟩,λr hr=>⟨?_,?_⟩⟩
 ·have h3:=RZ r.l1 (hl r hr).1;have h4:=JU (show r.l1.length<=100 by have:=(hs r hr).1;omega);show (DZ r.n1 r.l1).natAbs<_;rw[Pt];exact WP h3 h4
 ·have h3:=RZ r.l2 (hl r hr).2;have h4:=JU (show r.l2.length<=100 by have:=(hs r hr).2;omega);show (DZ r.n2 r.l2).natAbs<_;rw[Pt];exact WP h3 h4
theorem q07_quad (l:List RC)(tk:Tok)(most:Int)(H:Aa)(hm:most<2147483648)(jB:l.length<1152921504606846976)(hl:∀r∈l,r.lim) :
  Sh.f6l (.sl (enL cRC l) tk) (.i6 most) H=some (.ret (.tup [CY (EW most l).1,.bool (EW most l).2]),H):=by
 unfold Sh.f6l EW;rw[alloc_eq (cs:=[.sl [] .ti]) rfl];simp only[GMw,q07_great l tk most _ jB];have tail:∀(Q:List Nd) (q:Bool) (Hq:Aa) (tk:Tok),Hq[H.length]? = some (.cel 0 [.sl [] .ti])->(∀i,i<H.length->Hq[i]? = H[i]?) ->
   (bP H (A8 (Af 1 (.ptr H.length 0 0) (.agg [.sl (enL cNd Q) tk]) Hq)) λ_ H37=>(Eh [Ac true 1 (.ptr H.length 0 0) H37,some (.bool q)]).bind λx38=>rPN H x38 H37)=some (.ret (.tup [CY Q,.bool q]),H):=by
  intro Q q Hq tk hc hold;have aG:=(VP.1 hc).1;have hst:Af 1 (.ptr H.length 0 0) (.agg [.sl (enL cNd Q) tk]) Hq=some (Hq.set H.length (.cel 0 [.sl (enL cNd Q) tk])):=by
   simp only[Af,Aw hc,zXa,Bt hc];rfl
  have hld:Ac true 1 (.ptr H.length 0 0) (Hq.set H.length (.cel 0 [.sl (enL cNd Q) tk]))=some (.agg [.sl (enL cNd Q) tk]):=by
   have:(Hq.set H.length (.cel 0 [.sl (enL cNd Q) tk]))[H.length]? = some (.cel 0 [.sl (enL cNd Q) tk]):=by rw[Wf aG]
   simp only[Ac,Aw this,zXa];rfl
  have aS:(Hq.set H.length (.cel 0 [.sl (enL cNd Q) tk])).take H.length=H:=C0 λi hi=>by
   rw[VT (by omega),hold i hi]
  simp only[GMw,hst,hld,EN,CU,D6,zXb,GD aS,Ci,Bu,B6,F5,DB,Ew,GL,Ff]
  rfl
 cases hg:JH most l with
 | true=>
  simp only[GMw];rw[show A6 (some [(.sl [] .ti)]) []=some (.agg [.sl (enL cNd []) .ti]) from rfl,BH];exact tail [] false _ _ (by simp) λi hi=>by rw[VR hi]
 | false=>
  obtain⟨g1,g2,g3⟩:=great_no hg hl;simp only[GMw,q07_of l tk _ (by omega) g2 (λr hr _=>g3 r hr)];have mid:∀(Q:List Nd) (e:Int),((Aq 0 (.tup [CY Q,.i6 e])).bind λx13=>(Aq 1 (.tup [CY Q,.i6 e])).bind λx14=>
    An (Az (some [(.sl [] .ti)]) (H++[Blk.cel 0 [.sl [] .ti]])) λq_15 H16=>bP H (A8 (Af 1 q_15 x13 H16)) λ_ H18=>(Ac true 1 q_15 H18).bind λx19=>
    (Ae .none .eql x14 (.i6 0)).bind λx20=>bP H (A8 (Af 1 (.ptr H.length 0 0) x19 H18)) λ_ H22=>(Eh [Ac true 1 (.ptr H.length 0 0) H22,some x20]).bind λx23=>rPN H x23 H22)=some (.ret (.tup [CY Q,.bool (decide (e=0))]),H):=by
   intro Q e;rw[alloc_eq (cs:=[.sl [] .ti]) rfl];have hB:∀B:Aa,Af 1 (.ptr B.length 0 0) (.agg [.sl (enL cNd Q) .no]) (B++[.cel 0 [.sl [] .ti]])=some (B++[.cel 0 [.sl (enL cNd Q) .no]]):=λB=>by
    simp only[Af,Aw (Al (B:=B) (cs:=[.sl [] .ti])),zXa,Bt (Al (B:=B) (cs:=[.sl [] .ti])),Be];rfl
   have hL:∀B:Aa,Ac true 1 (.ptr B.length 0 0) (B++[.cel 0 [.sl (enL cNd Q) .no]])=some (.agg [.sl (enL cNd Q) .no]):=λB=>by
    simp only[Ac,Aw (Al (B:=B)),zXa];rfl
   simp only[B1,B8,GMw,CY,Bj,hB,hL];exact tail Q _ _ _ (by simp) λi hi=>by rw[VZ,VR hi]
  cases hr:l.all RC.right with
  | true=>simp only[GMw];exact mid _ _
  | false=>simp only[GMw];exact mid [] 1
def EJ (rule:List UInt8)(L:List Nd):List Ab:=[.str rule,.sl (enL cNd L) .no]
def pat (rule:List UInt8)(L:List Nd):Ab:=.agg (EJ rule L)
theorem boxPat (rule:List UInt8)(L:List Nd)(H:Aa):BD true 2 (pat rule L) H=some (.ptr H.length 0 0,H++[.cel 0 (EJ rule L)]):=Cp rfl rfl
section
variable {H:Aa}{p:Nat}{rule:List UInt8}{L:List Nd}
theorem SS (hg:H[p]? = some (.cel 0 (EJ rule L))):Ac false 1 (.ptr p 0 0) H=some (.str rule):=by
 simp only[Ac,Aw hg,zXa];rfl
theorem KG (hg:H[p]? = some (.cel 0 (EJ rule L))):Ac true 1 (.ptr p 0 1) H=some (CY L):=by
 simp only[Ac,Aw hg,zXa];rfl
theorem Nj (hg:H[p]? = some (.cel 0 (EJ rule L))):Ac true 2 (.ptr p 0 0) H=some (pat rule L):=by
 simp only[Ac,Aw hg,zXa];rfl

end
theorem q11_right (rule:List UInt8)(L:List Nd)(H:Aa)(hr:rule.length<1152921504606846976)(hL:L.length<17592186044415):Sh.f5d (pat rule L) H=some (.ret (.bool (Hk rule&&D7 L)),H):=by
 unfold Sh.f5d;have e1:(H++[Blk.cel 0 (EJ rule L)])[H.length]? = some (.cel 0 (EJ rule L)):=Al;simp only[GMw,boxPat,Ah,VU,Nat.add_zero,SS e1,q04_rule rule _ hr];cases Hk rule with
 | false=>simp only[GMw,Fw]
 | true=>simp only[GMw,Ah,VU,KG e1,CY,Bj,q05_right L .no _ hL,Fw]
theorem q11_of (rule:List UInt8)(l:List RC)(tk:Tok)(most:Int)(H:Aa)(hr:rule.length<1152921504606846976)(hm:most<2147483648)(jB:l.length<1152921504606846976)(hl:∀r∈l,r.lim) :
  Sh.f11 (.str rule) (.sl (enL cRC l) tk) (.i6 most) H=some (.ret (.tup [pat rule (EW most l).1,.bool ((EW most l).2&&Hk rule)]),H):=by
 unfold Sh.f11;rw[alloc_eq (cs:=[.str [],.sl [] .ti]) rfl];simp only[GMw,q07_quad l tk most _ hm jB hl,B1,B8,alloc_eq (cs:=[Ab.sl [] .ti]) rfl];generalize EW most l=Q;obtain⟨Q,ok⟩:=Q;dsimp only;have hB:∀B:Aa,Af 1 (.ptr B.length 0 0) (CY Q) (B++[.cel 0 [.sl [] .ti]])=some (B++[.cel 0 (Bj Q)]):=λB=>by
  unfold CY Bj;simp only[Af,Aw (Al (B:=B) (cs:=[.sl [] .ti])),zXa,Bt (Al (B:=B) (cs:=[.sl [] .ti])),Be];rfl
 have hL:∀B:Aa,Ac true 1 (.ptr B.length 0 0) (B++[.cel 0 (Bj Q)])=some (CY Q):=λB=>by
  unfold CY Bj;simp only[Ac,Aw (Al (B:=B)),zXa];rfl
 have hb:A6 (some [.str [],.sl [] .ti]) [(0,1,.str rule),(1,1,CY Q)]=some (pat rule Q):=by
  unfold CY Bj pat EJ;simp[A6,Gy,CZ,Ab.acells]
 have hst:Af 2 (.ptr H.length 0 0) (pat rule Q) (H++[Blk.cel 0 [.str [],.sl [] .ti]]++[.cel 0 (Bj Q)])=some (H++[Blk.cel 0 (EJ rule Q)]++[.cel 0 (Bj Q)]):=by
  have hc:(H++[Blk.cel 0 [.str [],.sl [] .ti]]++[.cel 0 (Bj Q)])[H.length]? = some (.cel 0 [.str [],.sl [] .ti]):=by simp
  unfold pat EJ;simp only[Af,Aw hc,zXa,Bt hc,BV (cs:=[Ab.str rule,.sl (enL cNd Q) .no]) rfl,Dq (cs:=[Ab.str [],.sl [] .ti]) (sz:=2) rfl];simp
 have hld:Ac true 2 (.ptr H.length 0 0) (H++[Blk.cel 0 (EJ rule Q)]++[.cel 0 (Bj Q)])=some (pat rule Q):=Nj (by simp);have fin:∀q:Bool,((Eh [Ac true 2 (.ptr H.length 0 0) (H++[Blk.cel 0 (EJ rule Q)]++[.cel 0 (Bj Q)]),some (.bool q)]).bind λx22=>rPN H x22 (H++[Blk.cel 0 (EJ rule Q)]++[.cel 0 (Bj Q)]))=some (.ret (.tup [pat rule Q,.bool q]),H):=λq=>by
  rw[hld,VZ];unfold pat EJ;simp only[EN,CU,D6,zXb,BH,Cw,Ci,Bu,B6,F5,DB,Ew,GL,V5,Ff]
 simp only[hB,GMw];cases ok with
 | false=>simp only[GMw,hL,and_true,eq_self,hb,hst,fin]
 | true=>simp only[GMw,q04_rule rule _ hr,hL,and_true,eq_self,hb,hst,fin]
def Mu (a b:Int):Bool:=decide (0<=a)&&decide (a<=1000)&&decide (0<=b)&&decide (b<=100000)
theorem q11_fine (a b:Int)(H:Aa):Sh.f2x (.agg [.i6 a,.i6 b]) H=some (.ret (.bool (Mu a b)),H):=by
 unfold Sh.f2x Mu;have e1:(H++[Blk.cel 0 [.i6 a,.i6 b]])[H.length]? = some (.cel 0 [.i6 a,.i6 b]):=Al;have g1:Ac false 1 (.ptr H.length 0 0) (H++[Blk.cel 0 [.i6 a,.i6 b]])=some (.i6 a):=by simp only[Ac,Aw e1,zXa];rfl
 have g2:Ac false 1 (.ptr H.length 0 1) (H++[Blk.cel 0 [.i6 a,.i6 b]])=some (.i6 b):=by simp only[Ac,Aw e1,zXa];rfl
 simp only[GMw,Cp (sz:=2) (cs:=[Ab.i6 a,.i6 b]) rfl rfl,Ah,VU,Nat.add_zero,g1,ge_iff_le];cases decide (0<=a)with
 | false=>simp only[GMw,Fw]
 | true=>
  simp only[GMw,Ah,VU,Nat.add_zero,g1];cases decide (a<=1000)with
  | false=>simp only[GMw,Fw]
  | true=>
   simp only[GMw,Ah,VU,g2,ge_iff_le];cases decide (0<=b)with
   | false=>simp only[GMw,Fw]
   | true=>simp only[GMw,Ah,VU,g2,Fw]
theorem q11_format (n:Int)(H:Aa):Sh.f50 (.i6 n) H=some (.ret (.bool (decide (1<=n)&&decide (n<=5))),H):=by
 unfold Sh.f50;simp only[GMw,ge_iff_le];cases decide (1<=n) <;> simp only[GMw]
inductive QT where
 | nil
 | lf (a b c d:Int)
 | node (a b c d:QT)
deriving DecidableEq
def L4 (L:List Nd)(E:List Bool):Nat->Nat->QT
 | 0,_=>.nil
 | v+1,n=>
  if E.getD n true then .nil
  else if 1<(A9 L n).lv then .node (L4 L E v (A9 L n).k0.toNat) (L4 L E v (A9 L n).k1.toNat) (L4 L E v (A9 L n).k2.toNat) (L4 L E v (A9 L n).k3.toNat)
  else .lf (A9 L n).k0 (A9 L n).k1 (A9 L n).k2 (A9 L n).k3
abbrev sem (L:List Nd)(v n:Nat):QT:=L4 L (A4 L) v n
def St (a:Int):Prop:=0<=a/\a<=255
def G8:Nat->QT->Prop
 | _,.nil=>True
 | v,.lf a b c d=>v=1/\(St a/\St b/\St c/\St d)/\¬(a=0/\b=0/\c=0/\d=0)
 | v,.node a b c d=>2<=v/\v<=1329/\(G8 (v-1) a/\G8 (v-1) b/\G8 (v-1) c/\G8 (v-1) d)/\¬(a=.nil/\b=.nil/\c=.nil/\d=.nil)
def Bf:Nat->QT->List Nd->List Nd×Nat
 | _,.nil,out=>(out,0)
 | _,.lf a b c d,out=>BF out ⟨1,a,b,c,d⟩
 | v,.node a b c d,out=>
  BF (Bf (v-1) d (Bf (v-1) c (Bf (v-1) b (Bf (v-1) a out).1).1).1).1
   ⟨v,(Bf (v-1) a out).2,(Bf (v-1) b (Bf (v-1) a out).1).2,(Bf (v-1) c (Bf (v-1) b (Bf (v-1) a out).1).1).2,(Bf (v-1) d (Bf (v-1) c (Bf (v-1) b (Bf (v-1) a out).1).1).1).2⟩
theorem insK_4 (rec:Nat->List Nd->List Nd×Nat)(x:Nd)(out:List Nd):BU rec x 4 out =
  ((rec x.k3.toNat (rec x.k2.toNat (rec x.k1.toNat (rec x.k0.toNat out).1).1).1).1,
   ⟨x.lv,(rec x.k0.toNat out).2,(rec x.k1.toNat (rec x.k0.toNat out).1).2,(rec x.k2.toNat (rec x.k1.toNat (rec x.k0.toNat out).1).1).2,(rec x.k3.toNat (rec x.k2.toNat (rec x.k1.toNat (rec x.k0.toNat out).1).1).1).2⟩):=rfl
def Lv (L:List Nd)(v n:Nat):Prop:=n<=L.length/\(n=0\/(A9 L n).lv.toNat=v)
theorem Lv.kid {L:List Nd}(hl:AB L=true){v n k:Nat}(h0:0<n)(h:Lv L (v+1) n)(h1:1<(A9 L n).lv)(hk:k<4):Lv L v ((A9 L n).kid k).toNat/\((A9 L n).kid k).toNat<n/\0<=(A9 L n).kid k:=by
 obtain⟨m,rfl⟩:∃m,n=m+1:=⟨n-1,by omega⟩;have hm:m<L.length:=h.1;obtain⟨l1,l2,l3⟩:=AO hl hm;have hx:A9 L ((m+1:Nat):Int)=L[m]:=Ba hm;have hv:=h.2;rw[hx]at h1 hv ⊢;obtain⟨q1,q2,q3⟩:=l3 k hk;by_cases hc:0<L[m].kid k
 ·obtain⟨r1,r2⟩:=q3 h1 hc;obtain⟨c,hcc⟩:∃c:Nat,L[m].kid k=((c+1:Nat):Int):=⟨(L[m].kid k-1).toNat,by omega⟩;have aG:c<L.length:=by omega
  have:=r2 L[c] (by rw[show (L[m].kid k-1).toNat=c from by omega];exact VO aG);rw[hcc,show (((c+1:Nat):Int)).toNat=c+1 from by omega];refine⟨⟨by omega,.inr ?_⟩,by omega,by omega⟩;rw[Ba aG];omega
 ·rw[show (L[m].kid k).toNat=0 from by omega];exact⟨⟨Wv _,.inl rfl⟩,by omega,q1⟩
theorem insF_sem {L:List Nd}(hl:AB L=true):∀v n out,Lv L v n->Bm L (A4 L) v n out=Bf v (sem L v n) out
 | 0,n,out,h=>rfl
 | v+1,n,out,h=>by
  unfold sem;simp only[Bm,L4];split
  ·rfl
  ·rename_i he;have h0:0<n:=OZ (by simpa using he);have aJ:(A9 L (n:Int)).lv.toNat=v+1:=by rcases h.2 with h | h <;> omega
   split
   ·rename_i h1;rw[insK_4];have e:∀k,k<4->∀o,Bm L (A4 L) v ((A9 L n).kid k).toNat o=Bf v (sem L v ((A9 L n).kid k).toNat) o:=λk hk o=>insF_sem hl v _ o (Lv.kid hl h0 h h1 hk).1;have e0:=e 0 (by omega);have e1:=e 1 (by omega);have e2:=e 2 (by omega);have e3:=e 3 (by omega);simp only[Nd.kid]at e0 e1 e2 e3;simp only[Bf,Wl,e0,e1,e2,e3];have:(A9 L (n:Int)).lv=((v+1:Nat):Int):=by omega
    rw[this]
   ·rename_i h1;have:(A9 L (n:Int)).lv=1:=by omega
    simp only[Bf]
    congr 1
    cases hx:A9 L (n:Int)with
    | mk a b c d e=>rw[hx]at this;simp only at this;rw[this]
theorem Pa {L:List Nd}(hl:AB L=true){n:Nat}(h0:0<n)(hn:n<=L.length):(A4 L).getD n true=(List.range 4).all λk=>decide ((A9 L n).kid k=0)||(decide (1<(A9 L n).lv)&&(A4 L).getD ((A9 L n).kid k).toNat true):=by
 obtain⟨m,rfl⟩:∃m,n=m+1:=⟨n-1,by omega⟩;have hm:m<L.length:=hn;have hpre:∀(r l:List Nd),∃s,A4 (l++r)=A4 l++s:=by
  intro r
  induction r with
  | nil=>intro l;exact⟨[],by simp⟩
  | cons x r ih=>
   intro l;obtain⟨s,hs⟩:=ih (l++[x]);exact⟨[My (A4 l) x]++s,by rw[show l++x::r=l++[x]++r from by simp,hs,IK];simp⟩
 have hL:L=L.take m++[L[m]]++L.drop (m+1):=by
  rw[<-Wb hm,WC]
 obtain⟨s,hs⟩:=hpre (L.drop (m+1)) (L.take m++[L[m]]);rw[<-hL,IK]at hs;have hlen:(A4 (L.take m)).length=m+1:=by rw[CT];simp;omega
 have iB:(A4 L).getD (m+1) true=My (A4 (L.take m)) L[m]:=by
  rw[hs,VW,VR (by simp[hlen]),Wt (by omega),hlen];simp
 rw[iB,Ba hm];obtain⟨l1,l2,l3⟩:=AO hl hm;unfold My;have hk:∀k,k<4->(decide (1<L[m].lv)&&(A4 (L.take m)).getD (L[m].kid k).toNat true)=(decide (1<L[m].lv)&&(A4 L).getD (L[m].kid k).toNat true):=by
  intro k hk;obtain⟨q1,q2,q3⟩:=l3 k hk;by_cases h1:1<L[m].lv
  ·have hlt:(L[m].kid k).toNat<m+1:=by
    by_cases hc:0<L[m].kid k
    ·have:=(q3 h1 hc).1;omega
    ·omega
   congr 1
   rw[hs,VZ,VW,VW,VR (by omega)]
  ·simp[h1]
 rw[Ii,Ii,hk 0 (by omega),hk 1 (by omega),hk 2 (by omega),hk 3 (by omega)]
theorem FP (L:List Nd)(v:Nat):sem L v 0=.nil:=by
 unfold sem;cases v with
 | zero=>rfl
 | succ v=>simp only[L4,DW,if_true]
theorem K2 {L:List Nd}(hl:AB L=true){v n:Nat}(h:Lv L v n):sem L v n=.nil↔(A4 L).getD n true=true:=by
 unfold sem;cases v with
 | zero=>
  refine⟨λ_=>?_,λ_=>rfl⟩;rcases h.2 with h0 | h0
  ·rw[h0];exact DW L
  ·by_cases hn:0<n
   ·obtain⟨m,rfl⟩:∃m,n=m+1:=⟨n-1,by omega⟩;have hm:m<L.length:=h.1;rw[Ba hm]at h0;have:=(AO hl hm).1;omega
   ·obtain rfl:n=0:=by omega
    exact DW L
 | succ v=>
  simp only[L4];split
  ·rename_i he;exact⟨λ_=>he,λ_=>rfl⟩
  ·rename_i he;split
   ·exact⟨λh=>by (cases h),λh=>absurd h he⟩
   ·exact⟨λh=>by (cases h),λh=>absurd h he⟩
theorem LZ {L:List Nd}(hl:AB L=true):∀v n,Lv L v n->G8 v (sem L v n)
 | 0,n,h=>trivial
 | v+1,n,h=>by
  unfold sem;simp only[L4];split
  ·trivial
  ·rename_i he;have dR:(A4 L).getD n true=false:=by simpa using he
   have h0:0<n:=OZ dR;have aJ:(A9 L (n:Int)).lv.toNat=v+1:=by rcases h.2 with h | h <;> omega
   have hle:=OB hl h0 h.1;have eT:=Pa hl h0 h.1;rw[dR,Ii]at eT;split
   ·rename_i h1;have e:∀k,k<4->G8 v (sem L v ((A9 L n).kid k).toNat):=λk hk=>LZ hl v _ (Lv.kid hl h0 h h1 hk).1;have e0:=e 0 (by omega);have e1:=e 1 (by omega);have e2:=e 2 (by omega);have e3:=e 3 (by omega);have f:∀k,k<4->sem L v ((A9 L n).kid k).toNat=.nil->(decide ((A9 L n).kid k=0)||(decide (1<(A9 L n).lv)&&(A4 L).getD ((A9 L n).kid k).toNat true))=true:=λk hk hs=>by
     rw[K2 hl (Lv.kid hl h0 h h1 hk).1]at hs;rw[hs];simp[h1]
    refine⟨by omega,by omega,⟨e0,e1,e2,e3⟩,λ⟨n0,n1,n2,n3⟩=>?_⟩;rw[f 0 (by omega) n0,f 1 (by omega) n1,f 2 (by omega) n2,f 3 (by omega) n3]at eT;cases eT
   ·rename_i h1;have jM:(A9 L (n:Int)).lv=1:=by omega
    obtain⟨m,rfl⟩:∃m,n=m+1:=⟨n-1,by omega⟩;have hm:m<L.length:=h.1;obtain⟨l1,l2,l3⟩:=AO hl hm;have hx:A9 L ((m+1:Nat):Int)=L[m]:=Ba hm;rw[hx]at jM eT h1 ⊢;have s:∀k,k<4->St (L[m].kid k):=λk hk=>⟨(l3 k hk).1,(l3 k hk).2.1 jM⟩;refine⟨by rw[hx]at aJ;omega,⟨s 0 (by omega),s 1 (by omega),s 2 (by omega),s 3 (by omega)⟩,λ⟨n0,n1,n2,n3⟩=>?_⟩;simp only[Nd.kid,n0,n1,n2,n3,decide_true,XB,Bool.and_self]at eT;cases eT
structure Ha (out:List Nd):Prop where
 lo:AB out=true
 nd:out.Nodup
 ne:∀n,0<n->n<=out.length->(A4 out).getD n true=false
theorem Ha.nil:Ha []:=⟨rfl,List.nodup_nil,λn h1 h2=>by simp at h2;omega⟩
theorem empL_pre:∀(r l:List Nd),∃s,A4 (l++r)=A4 l++s:=by
 intro r
 induction r with
 | nil=>intro l;exact⟨[],by simp⟩
 | cons x r ih=>
  intro l;obtain⟨s,hs⟩:=ih (l++[x]);exact⟨[My (A4 l) x]++s,by rw[show l++x::r=l++[x]++r from by simp,hs,IK];simp⟩
theorem Tw {l r:List Nd}{n:Nat}(h:n<=l.length):(A4 (l++r)).getD n true=(A4 l).getD n true:=by
 obtain⟨s,hs⟩:=empL_pre r l;rw[hs,VW,VW,VR (by rw[CT];omega)]
theorem Mn {l r:List Nd}{n:Nat}(h0:0<n)(h:n<=l.length):A9 (l++r) (n:Int)=A9 l (n:Int):=by
 obtain⟨m,rfl⟩:∃m,n=m+1:=⟨n-1,by omega⟩;rw[Ba (show m<(l++r).length by simp;omega),Ba (show m<l.length by omega),Yz (by omega)]
theorem GC {l r:List Nd}(hl:AB l=true):∀v n,Lv l v n->sem (l++r) v n=sem l v n
 | 0,n,h=>rfl
 | v+1,n,h=>by
  unfold sem;simp only[L4,Tw h.1];split
  ·rfl
  ·rename_i he;have h0:0<n:=OZ (by simpa using he);rw[Mn h0 h.1];split
   ·rename_i h1;have e:∀k,k<4->sem (l++r) v ((A9 l n).kid k).toNat=sem l v ((A9 l n).kid k).toNat:=λk hk=>GC hl v _ (Lv.kid hl h0 h h1 hk).1;have e0:=e 0 (by omega);have e1:=e 1 (by omega);have e2:=e 2 (by omega);have e3:=e 3 (by omega);simp only[Nd.kid,sem]at e0 e1 e2 e3;rw[e0,e1,e2,e3]
   ·rfl
theorem Lv.old {l r:List Nd}{v n:Nat}(h:Lv l v n):Lv (l++r) v n:=by
 refine⟨by have:=h.1;simp;omega,?_⟩;rcases h.2 with h0 | h0
 ·exact .inl h0
 ·by_cases hn:0<n
  ·exact .inr (by rw[Mn hn h.1];exact h0)
  ·exact .inl (by omega)
structure Fit (o:List Nd)(x:Nd)(v:Nat)(t:QT):Prop where
 lv:x.lv=(v:Int)
 v1:1<=v/\v<=1329
 kid:(1<v/\t=.node (sem o (v-1) x.k0.toNat) (sem o (v-1) x.k1.toNat) (sem o (v-1) x.k2.toNat) (sem o (v-1) x.k3.toNat)/\∀k,k<4->0<=x.kid k/\Lv o (v-1) (x.kid k).toNat)\/(v=1/\t=.lf x.k0 x.k1 x.k2 x.k3/\∀k,k<4->St (x.kid k))
 ne:∃k,k<4/\x.kid k≠0
structure Ins (v:Nat)(t:QT)(out o':List Nd)(i:Nat):Prop where
 pre:∃r,o'=out++r/\∀x∈r,x.lv<=(v:Int)
 cl:Ha o'
 lv:Lv o' v i
 sm:sem o' v i=t
 old:i<=out.length->o'=out
 new:out.length<i->i=o'.length
theorem fit_loose {o:List Nd}(hc:Ha o){x:Nd}{v:Nat}{t:QT}(h:Fit o x v t):AB (o++[x])=true:=by
 refine KE hc.lo (KF (by rw[h.lv];have:=h.v1;omega) (by rw[h.lv];have:=h.v1;omega) λk hk=>?_);rcases h.kid with ⟨h1,_,h2⟩ | ⟨h1,_,h2⟩
 ·obtain⟨q1,q2⟩:=h2 k hk;refine⟨q1,λe=>by rw[h.lv]at e;omega,λ_ hp=>?_⟩;have hn:=q2.1;refine⟨by omega,?_⟩;rcases q2.2 with q | q
  ·omega
  ·have e:x.kid k=(((x.kid k).toNat:Nat):Int):=by omega
   obtain⟨m,hm⟩:∃m,(x.kid k).toNat=m+1:=⟨(x.kid k).toNat-1,by omega⟩;rw[e,hm] ;rw[hm]at q;have hml:m<o.length:=by omega
   rw[Ba hml]at q ⊢;have:=(AO hc.lo hml).1;rw[h.lv];omega
 ·obtain⟨q1,q2⟩:=h2 k hk;exact⟨q1,λ_=>q2,λe=>by rw[h.lv]at e;omega⟩
theorem fit_ne {o:List Nd}(hc:Ha o){x:Nd}{v:Nat}{t:QT}(h:Fit o x v t):My (A4 o) x=false:=by
 obtain⟨k,hk,nT⟩:=h.ne;unfold My;rw[Xy];refine⟨k,by simpa using hk,?_⟩;rcases h.kid with ⟨h1,_,h2⟩ | ⟨h1,_,h2⟩
 ·obtain⟨q1,q2⟩:=h2 k hk;rw[hc.ne (x.kid k).toNat (by omega) q2.1];simp[nT]
 ·have:¬1<x.lv:=by rw[h.lv];omega
  simp[nT,this]
theorem fit_sem {o:List Nd}(hc:Ha o){x:Nd}{v:Nat}{t:QT}(h:Fit o x v t){i:Nat}(hi:o[i]? = some x):sem o v (i+1)=t:=by
 have hlt:i<o.length:=(VP.1 hi).1;have hx:A9 o ((i+1:Nat):Int)=x:=by rw[Ba hlt];rw[VO hlt]at hi;injection hi
 obtain⟨w,rfl⟩:∃w,v=w+1:=⟨v-1,by have:=h.v1;omega⟩;unfold sem;simp only[L4,hc.ne (i+1) (by omega) (by omega),hx,h.lv,VY,if_false];rcases h.kid with ⟨h1,h3,h2⟩ | ⟨h1,h3,h2⟩
 ·rw[if_pos (by omega),h3];rfl
 ·rw[if_neg (by omega),h3]
theorem Fit.old {o r:List Nd}(hc:Ha o){x:Nd}{v:Nat}{t:QT}(h:Fit o x v t):Fit (o++r) x v t:=by
 refine⟨h.lv,h.v1,?_,h.ne⟩;rcases h.kid with ⟨h1,h3,h2⟩ | ⟨h1,h3,h2⟩
 ·left;refine⟨h1,?_,λk hk=>⟨(h2 k hk).1,(h2 k hk).2.old⟩⟩;have e0:=GC (r:=r) hc.lo _ _ (h2 0 (by omega)).2;have e1:=GC (r:=r) hc.lo _ _ (h2 1 (by omega)).2;have e2:=GC (r:=r) hc.lo _ _ (h2 2 (by omega)).2;have e3:=GC (r:=r) hc.lo _ _ (h2 3 (by omega)).2;simp only[Nd.kid]at e0 e1 e2 e3;rw[e0,e1,e2,e3];exact h3
 ·exact .inr ⟨h1,h3,h2⟩
theorem fit_clean {o:List Nd}(hc:Ha o){x:Nd}{v:Nat}{t:QT}(h:Fit o x v t)(hn:x ∉ o):Ha (o++[x]):=by
 refine⟨fit_loose hc h,?_,λn h0 hle=>?_⟩
 ·rw[YM];exact⟨hc.nd,by simp,λa ha b hb e=>by simp at hb;subst hb;subst e;exact hn ha⟩
 ·by_cases cM:n<=o.length
  ·rw[Tw cM];exact hc.ne n h0 cM
  ·have e:n=o.length+1:=by simp at hle;omega
   rw[e,IK,VW,Wt (by rw[CT];omega),CT];simp[fit_ne hc h]
theorem put_ins {o:List Nd}(hc:Ha o){x:Nd}{v:Nat}{t:QT}(h:Fit o x v t):(∃r,(BF o x).1=o++r/\∀y∈r,y=x)/\Ha (BF o x).1/\Lv (BF o x).1 v (BF o x).2/\sem (BF o x).1 v (BF o x).2=t/\((BF o x).1[(BF o x).2-1]? = some x/\0<(BF o x).2)/\(((BF o x).1=o/\(BF o x).2<=o.length)\/((BF o x).2=o.length+1/\(BF o x).2=(BF o x).1.length)):=by
 have aJ:x.lv.toNat=v:=by rw[h.lv];omega
 cases hf:Ct o x with
 | zero=>
  have hp:BF o x=(o++[x],o.length+1):=by simp[BF,hf]
  have hn:=Jb.1 hf;have hg:(o++[x])[o.length]? = some x:=by simp
  rw[hp];have bT:=fit_clean hc h hn;refine⟨⟨[x],rfl,by simp⟩,bT,⟨by simp,.inr ?_⟩,fit_sem bT (h.old hc) hg,⟨by simp,by simp⟩,.inr ⟨rfl,by simp⟩⟩;rw[Ba (by simp)];simp[aJ]
 | succ i=>
  have hp:BF o x=(o,i+1):=by simp[BF,hf]
  rw[Et]at hf;have hlt:i<o.length:=(VP.1 hf.1).1;rw[hp];refine⟨⟨[],by simp,by simp⟩,hc,⟨hlt,.inr ?_⟩,fit_sem hc h hf.1,⟨by simpa using hf.1,by simp⟩,.inl ⟨rfl,hlt⟩⟩;rw[Ba hlt];have:=hf.1;rw[VO hlt]at this;injection this with this;rw[this,aJ]
theorem Fd:∀(t:QT) (v:Nat) (out:List Nd),G8 v t->Ha out->Ins v t out (Bf v t out).1 (Bf v t out).2
 | .nil,v,out,hg,hc=>⟨⟨[],by simp[Bf],by simp⟩,hc,⟨Wv _,.inl rfl⟩,FP _ _,λ_=>rfl,λh=>by simp[Bf]at h⟩
 | .lf a b c d,v,out,hg,hc=>by
  obtain⟨rfl,⟨ha,hb,hcc,hd⟩,hne⟩:=hg;have bI:Fit out ⟨1,a,b,c,d⟩ 1 (.lf a b c d):=by
   refine⟨rfl,⟨by omega,by omega⟩,.inr ⟨rfl,rfl,λk hk=>?_⟩,?_⟩
   ·match k,hk with
    | 0,_=>exact ha
    | 1,_=>exact hb
    | 2,_=>exact hcc
    | 3,_=>exact hd
   ·by_cases h0:a=0
    ·by_cases h1:b=0
     ·by_cases h2:c=0
      ·exact⟨3,by omega,λh3=>hne ⟨h0,h1,h2,h3⟩⟩
      ·exact⟨2,by omega,h2⟩
     ·exact⟨1,by omega,h1⟩
    ·exact⟨0,by omega,h0⟩
  obtain⟨⟨r,p1,p2⟩,p3,p4,p5,p6,p7⟩:=put_ins hc bI;refine⟨⟨r,p1,λx hx=>by rw[p2 x hx];simp⟩,p3,p4,p5,λhi=>?_,λhi=>?_⟩
  ·rcases p7 with ⟨q,_⟩ | ⟨q,_⟩
   ·exact q
   ·have:(Bf 1 (.lf a b c d) out).2=out.length+1:=q;omega
  ·rcases p7 with ⟨_,q⟩ | ⟨_,q⟩
   ·have:(Bf 1 (.lf a b c d) out).2<=out.length:=q;omega
   ·exact q
 | .node a b c d,v,out,hg,hc=>by
  obtain⟨h2,hv,⟨ga,gb,gc,gd⟩,hne⟩:=hg;have ia:=Fd a (v-1) out ga hc;have ib:=Fd b (v-1) _ gb ia.cl;have ic:=Fd c (v-1) _ gc ib.cl;have id:=Fd d (v-1) _ gd ic.cl;simp only[Bf];generalize Bf (v-1) a out=A at ia ib ic id ⊢;obtain⟨o1,n0⟩:=A;dsimp only at ia ib ic id ⊢;generalize Bf (v-1) b o1=B at ib ic id ⊢;obtain⟨o2,n1⟩:=B;dsimp only at ib ic id ⊢;generalize Bf (v-1) c o2=C at ic id ⊢;obtain⟨o3,n2⟩:=C;dsimp only at ic id ⊢;generalize Bf (v-1) d o3=D at id ⊢;obtain⟨o4,n3⟩:=D;dsimp only at id ⊢;obtain⟨r1,e1,w1⟩:=ia.pre;obtain⟨r2,e2,w2⟩:=ib.pre;obtain⟨r3,e3,w3⟩:=ic.pre;obtain⟨r4,e4,w4⟩:=id.pre;have la:Lv o4 (v-1) n0/\sem o4 (v-1) n0=a:=by
   have:o4=o1++(r2++r3++r4):=by rw[e4,e3,e2];simp
   rw[this];exact⟨ia.lv.old,(GC ia.cl.lo _ _ ia.lv).trans ia.sm⟩
  have lb:Lv o4 (v-1) n1/\sem o4 (v-1) n1=b:=by
   have:o4=o2++(r3++r4):=by rw[e4,e3];simp
   rw[this];exact⟨ib.lv.old,(GC ib.cl.lo _ _ ib.lv).trans ib.sm⟩
  have lc:Lv o4 (v-1) n2/\sem o4 (v-1) n2=c:=by
   rw[e4];exact⟨ic.lv.old,(GC ic.cl.lo _ _ ic.lv).trans ic.sm⟩
  have ld:Lv o4 (v-1) n3/\sem o4 (v-1) n3=d:=⟨id.lv,id.sm⟩;have nz:∀ {n:Nat} {t:QT},sem o4 (v-1) n=t->t≠.nil->n≠0:=λh ht h0=>ht (by rw[<-h,h0,FP]);have bI:Fit o4 ⟨v,n0,n1,n2,n3⟩ v (.node a b c d):=by
   refine⟨rfl,⟨by omega,hv⟩,.inl ⟨by omega,?_,λk hk=>?_⟩,?_⟩
   ·simp only[zXl,la.2,lb.2,lc.2,ld.2]
   ·match k,hk with
    | 0,_=>exact⟨Xl _,by simpa[Nd.kid]using la.1⟩
    | 1,_=>exact⟨Xl _,by simpa[Nd.kid]using lb.1⟩
    | 2,_=>exact⟨Xl _,by simpa[Nd.kid]using lc.1⟩
    | 3,_=>exact⟨Xl _,by simpa[Nd.kid]using ld.1⟩
   ·by_cases h0:a=.nil
    ·by_cases h1:b=.nil
     ·by_cases h2:c=.nil
      ·exact⟨3,by omega,by have:=nz ld.2 (λh3=>hne ⟨h0,h1,h2,h3⟩);simp[Nd.kid];omega⟩
      ·exact⟨2,by omega,by have:=nz lc.2 h2;simp[Nd.kid];omega⟩
     ·exact⟨1,by omega,by have:=nz lb.2 h1;simp[Nd.kid];omega⟩
    ·exact⟨0,by omega,by have:=nz la.2 h0;simp[Nd.kid];omega⟩
  obtain⟨⟨r,p1,p2⟩,p3,p4,p5,⟨p6,p6'⟩,p7⟩:=put_ins id.cl bI;have hout:o4=out++(r1++r2++r3++r4):=by rw[e4,e3,e2,e1];simp
  have hlen:out.length<=o4.length:=by rw[hout];simp
  generalize hP:BF o4 ⟨v,n0,n1,n2,n3⟩=P at p1 p3 p4 p5 p6 p6' p7 ⊢;obtain⟨o',i⟩:=P;dsimp only at p1 p3 p4 p5 p6 p6' p7 ⊢;have lvs:∀x∈r1++r2++r3++r4,x.lv<=((v-1:Nat):Int):=by
   intro x hx;simp only[Wn]at hx;rcases hx with ((hx | hx) | hx) | hx
   ·exact w1 x hx
   ·exact w2 x hx
   ·exact w3 x hx
   ·exact w4 x hx
  refine⟨⟨r1++r2++r3++r4++r,by rw[p1,hout];simp,λx hx=>?_⟩,p3,p4,p5,λhi=>?_,λhi=>?_⟩
  ·rw[Wn]at hx;rcases hx with hx | hx
   ·have:=lvs x hx;omega
   ·rw[p2 x hx];exact Xq _
  ·rcases p7 with ⟨q,_⟩ | ⟨q,_⟩
   ·-- found among the old ones: its kids are old,too
    rw[q]at p6;have hlt:i-1<out.length:=by omega
    have hx:out[i-1]=⟨v,n0,n1,n2,n3⟩:=by
     rw[hout,VR hlt,VO hlt]at p6;injection p6
    obtain⟨l1,l2,l3⟩:=AO hc.lo hlt;have hk:∀k,k<4->out[i-1].kid k<=out.length:=λk hk=>by
     obtain⟨q1,q2,q3⟩:=l3 k hk;by_cases hp:0<out[i-1].kid k
     ·have:=(q3 (by rw[hx];show (1:Int)<(v:Int);omega) hp).1;omega
     ·omega
    rw[hx]at hk;have k0:(n0:Int)<=out.length:=hk 0 (by omega);have k1:(n1:Int)<=out.length:=hk 1 (by omega);have k2:(n2:Int)<=out.length:=hk 2 (by omega);have k3:(n3:Int)<=out.length:=hk 3 (by omega);have f1:=ia.old (by omega);have f2:=ib.old (by rw[f1];omega);have f3:=ic.old (by rw[f2,f1];omega);have f4:=id.old (by rw[f3,f2,f1];omega);rw[q,f4,f3,f2,f1]
   ·omega
  ·rcases p7 with ⟨q,q'⟩ | ⟨_,q⟩
   ·exfalso;rw[q]at p6;have cG:(⟨v,n0,n1,n2,n3⟩:Nd)∈r1++r2++r3++r4:=by
     rw[hout,Wt (by omega)]at p6;exact Wr p6
    have:=lvs _ cG;have h3:(v:Int)<=((v-1:Nat):Int):=this;omega
   ·exact q
def QT.q:QT->Nat->QT
 | .node a b c d,k=>match k with | 0=>a | 1=>b | 2=>c | _=>d
 | _,_=>.nil
def QT.s:QT->Nat->Int
 | .lf a b c d,k=>match k with | 0=>a | 1=>b | 2=>c | _=>d
 | _,_=>0
def QT.isNode:QT->Bool
 | .node _ _ _ _=>true
 | _=>false
def OJ (t:QT):Bool:=t.isNode&&(List.range 4).all λk=>(List.range 4).all λj=>decide (j=3-k)||(decide ((t.q k).q j=.nil)&&decide ((t.q k).s j=0))
def In (v:Nat)(t:QT):QT:=
 if v=2 then .lf ((t.q 0).s 3) ((t.q 1).s 2) ((t.q 2).s 1) ((t.q 3).s 0)else .node ((t.q 0).q 3) ((t.q 1).q 2) ((t.q 2).q 1) ((t.q 3).q 0)
def Ig:Nat->QT->Nat×QT
 | 0,t=>(0,t)
 | v+1,t=>if OJ t then Ig v (In (v+1) t)else (v+1,t)
theorem G8.q {v:Nat}{t:QT}(h:G8 v t)(k:Nat):G8 (v-1) (t.q k):=by
 cases t with
 | nil=>trivial
 | lf a b c d=>trivial
 | node a b c d=>
  obtain⟨h1,h2,⟨ga,gb,gc,gd⟩,_⟩:=h;unfold QT.q;dsimp only;split <;> assumption
theorem G8.st {v:Nat}{t:QT}(h:G8 v t)(k:Nat):St (t.s k):=by
 cases t with
 | nil=>exact⟨Xq _,by show (0:Int)<=255;decide⟩
 | node a b c d=>exact⟨Xq _,by show (0:Int)<=255;decide⟩
 | lf a b c d=>
  obtain⟨h1,⟨ga,gb,gc,gd⟩,_⟩:=h;unfold QT.s;dsimp only;split <;> assumption
theorem G8.kind {v:Nat}{t:QT}(h:G8 v t):t=.nil\/(v=1/\t.isNode=false/\∃a b c d,t=.lf a b c d)\/(2<=v/\v<=1329/\t.isNode=true):=by
 cases t with
 | nil=>exact .inl rfl
 | lf a b c d=>exact .inr (.inl ⟨h.1,rfl,a,b,c,d,rfl⟩)
 | node a b c d=>exact .inr (.inr ⟨h.1,h.2.1,rfl⟩)
theorem QT.eta {t:QT}(h:t.isNode=true):t=.node (t.q 0) (t.q 1) (t.q 2) (t.q 3):=by
 cases t with
 | nil=>cases h
 | lf a b c d=>cases h
 | node a b c d=>rfl
theorem G8.some {v:Nat}{t:QT}(h:G8 v t)(hn:t≠.nil):∃j,j<4/\((v=1/\t.s j≠0)\/(1<v/\t.q j≠.nil)):=by
 cases t with
 | nil=>exact absurd rfl hn
 | lf a b c d=>
  obtain⟨h1,_,h2⟩:=h;by_cases h0:a=0
  ·by_cases h3:b=0
   ·by_cases h4:c=0
    ·exact⟨3,by omega,.inl ⟨h1,λh5=>h2 ⟨h0,h3,h4,h5⟩⟩⟩
    ·exact⟨2,by omega,.inl ⟨h1,h4⟩⟩
   ·exact⟨1,by omega,.inl ⟨h1,h3⟩⟩
  ·exact⟨0,by omega,.inl ⟨h1,h0⟩⟩
 | node a b c d=>
  obtain⟨h1,_,_,h2⟩:=h;by_cases h0:a=.nil
  ·by_cases h3:b=.nil
   ·by_cases h4:c=.nil
    ·exact⟨3,by omega,.inr ⟨by omega,λh5=>h2 ⟨h0,h3,h4,h5⟩⟩⟩
    ·exact⟨2,by omega,.inr ⟨by omega,h4⟩⟩
   ·exact⟨1,by omega,.inr ⟨by omega,h3⟩⟩
  ·exact⟨0,by omega,.inr ⟨by omega,h0⟩⟩
theorem holT_at {t:QT}(h:OJ t=true){k j:Nat}(hk:k<4)(hj:j<4)(hne:j≠3-k):(t.q k).q j=.nil/\(t.q k).s j=0:=by
 simp only[OJ,Wc,Wi]at h;have:=h.2 k (by simpa using hk) j (by simpa using hj);simpa[hne]using this
theorem Ms {v:Nat}{t:QT}(h:G8 (v+1) t)(hh:OJ t=true):G8 v (In (v+1) t)/\In (v+1) t≠.nil:=by
 have dG:t.isNode=true:=by simp only[OJ,Wc]at hh;exact hh.1
 have oT:t≠.nil:=λe=>by subst e;cases dG
 obtain⟨k,hk,gS⟩:=h.some oT;rcases h.kind with rfl | ⟨h1,h2,_⟩ | ⟨h1,h2,_⟩
 ·exact absurd rfl oT
 ·rw[h2]at dG;cases dG
 have hq:t.q k≠.nil:=by rcases gS with ⟨e,_⟩ | ⟨_,e⟩;omega;exact e
 obtain⟨j,hj,oX⟩:=(h.q k).some hq;simp only[Wl]at oX;have tB:j=3-k:=by
  by_cases e:j=3-k
  ·exact e
  ·exfalso;obtain⟨e1,e2⟩:=holT_at hh hk hj e;rcases oX with ⟨_,e3⟩ | ⟨_,e3⟩
   ·exact e3 e2
   ·exact e3 e1
 unfold In;by_cases hv:v+1=2
 ·rw[if_pos hv];refine⟨⟨by omega,⟨(h.q 0).st 3,(h.q 1).st 2,(h.q 2).st 1,(h.q 3).st 0⟩,λ⟨e0,e1,e2,e3⟩=>?_⟩,by simp⟩;rcases oX with ⟨_,e⟩ | ⟨e,_⟩
  ·rw[tB]at e
   match k,hk with
   | 0,_=>exact e e0
   | 1,_=>exact e e1
   | 2,_=>exact e e2
   | 3,_=>exact e e3
  ·omega
 ·rw[if_neg hv];refine⟨⟨by omega,by omega,⟨(h.q 0).q 3,(h.q 1).q 2,(h.q 2).q 1,(h.q 3).q 0⟩,λ⟨e0,e1,e2,e3⟩=>?_⟩,by simp⟩;rcases oX with ⟨e,_⟩ | ⟨_,e⟩
  ·omega
  ·rw[tB]at e
   match k,hk with
   | 0,_=>exact e e0
   | 1,_=>exact e e1
   | 2,_=>exact e e2
   | 3,_=>exact e e3
theorem shrT_ok:∀(v:Nat) (t:QT),G8 v t->t≠.nil->G8 (Ig v t).1 (Ig v t).2/\(Ig v t).2≠.nil/\OJ (Ig v t).2=false
 | 0,t,hg,hn=>by
  rcases hg.kind with h | ⟨h,_⟩ | ⟨h,_⟩
  ·exact absurd h hn
  ·omega
  ·omega
 | v+1,t,hg,hn=>by
  unfold Ig;cases hh:OJ t with
  | true=>
   obtain⟨r1,r2⟩:=Ms hg hh;simp only[if_true];exact shrT_ok v _ r1 r2
  | false=>simp only[VY,if_false];exact⟨hg,hn,hh⟩
section
variable {L:List Nd}
theorem So (hl:AB L=true){v n k:Nat}(h0:0<n)(h:Lv L (v+1) n)(h1:1<(A9 L n).lv)(hk:k<4):(sem L (v+1) n).q k=sem L v ((A9 L n).kid k).toNat:=by
 unfold sem;simp only[L4,if_pos h1];split
 ·rename_i he;have eT:=Pa hl h0 h.1;rw[he]at eT;have:=Wi.1 eT.symm k (by simpa using hk);simp only[WS,zXe,Wc]at this;show QT.nil=_;rcases this with e | ⟨_,e⟩
  ·rw[e];exact (FP L v).symm
  ·exact ((K2 hl (Lv.kid hl h0 h h1 hk).1).2 e).symm
 ·match k,hk with
  | 0,_=>rfl
  | 1,_=>rfl
  | 2,_=>rfl
  | 3,_=>rfl
theorem sem_s1 (hl:AB L=true){v n k:Nat}(h0:0<n)(h:Lv L (v+1) n)(h1:¬1<(A9 L n).lv)(hk:k<4):(sem L (v+1) n).s k=(A9 L n).kid k:=by
 unfold sem;simp only[L4,if_neg h1];split
 ·rename_i he;have eT:=Pa hl h0 h.1;rw[he]at eT;have:=Wi.1 eT.symm k (by simpa using hk);simp only[WS,zXe,Wc]at this;rcases this with e | ⟨e,_⟩
  ·rw[e];rfl
  ·exact absurd e h1
 ·match k,hk with
  | 0,_=>rfl
  | 1,_=>rfl
  | 2,_=>rfl
  | 3,_=>rfl
theorem hol_sem (hl:AB L=true){v n:Nat}(h0:0<n)(h:Lv L v n)(he:(A4 L).getD n true=false):DA L n=OJ (sem L v n):=by
 have hv0:(A9 L (n:Int)).lv.toNat=v:=by rcases h.2 with h | h <;> omega
 have hv1:1<=(A9 L (n:Int)).lv:=by
  obtain⟨m,rfl⟩:∃m,n=m+1:=⟨n-1,by omega⟩;rw[Ba h.1];exact (AO hl h.1).1
 obtain⟨w,rfl⟩:∃w,v=w+1:=⟨v-1,by omega⟩;unfold DA OJ;by_cases h1:1<(A9 L (n:Int)).lv
 ·have dG:(sem L (w+1) n).isNode=true:=by
   unfold sem;simp only[L4,he,VY,if_false,if_pos h1];rfl
  have e2:(2:Int)<=(A9 L (n:Int)).lv:=by omega
  rw[dG,zXc (show n≠0 by omega),zXc e2,zXn,zXn,zXn];unfold hol;have hk:∀k,k<4->(decide ((A9 L n).kid k=0)||(List.range 4).all (OK L (A4 L) (A9 L n) k))=(List.range 4).all λj=>decide (j=3-k)||(decide (((sem L (w+1) n).q k).q j=.nil)&&decide (((sem L (w+1) n).q k).s j=0)):=by
   intro k hk;rw[So hl h0 h h1 hk];obtain⟨g1,g2,g3⟩:=Lv.kid hl h0 h h1 hk;by_cases hc:(A9 L n).kid k=0
   ·rw[hc];have:(List.range 4).all (λj=>decide (j=3-k)||(decide ((sem L w ((0:Int)).toNat).q j=.nil)&&decide ((sem L w ((0:Int)).toNat).s j=0)))=true:=by
     rw[show ((0:Int)).toNat=0 from rfl,FP,Wi];intro j _;simp[QT.q,QT.s]
    rw[this];rfl
   ·rw[zXd hc,zXo];have cJ:0<((A9 L n).kid k).toNat:=by omega
    have ec:(((A9 L n).kid k).toNat:Int)=(A9 L n).kid k:=by omega
    have hcv:(A9 L (((A9 L n).kid k).toNat:Int)).lv.toNat=w:=by rcases g1.2 with g | g <;> omega
    have mP:1<=(A9 L (((A9 L n).kid k).toNat:Int)).lv:=by
     obtain⟨m,hm⟩:∃m,((A9 L n).kid k).toNat=m+1:=⟨((A9 L n).kid k).toNat-1,by omega⟩;rw[hm];have hml:m<L.length:=by have:=g1.1;omega
     rw[Ba hml];exact (AO hl hml).1
    obtain⟨u,rfl⟩:∃u,w=u+1:=⟨w-1,by omega⟩;have pt:∀j,j<4->OK L (A4 L) (A9 L n) k j=(decide (j=3-k)||(decide ((sem L (u+1) ((A9 L n).kid k).toNat).q j=.nil)&&decide ((sem L (u+1) ((A9 L n).kid k).toNat).s j=0))):=by
     intro j hj;unfold OK
     congr 1
     by_cases h2:(A9 L n).lv=2
     ·rw[if_pos h2];have dL:¬1<(A9 L (((A9 L n).kid k).toNat:Int)).lv:=by omega
      rw[sem_s1 hl cJ g1 dL hj,ec];have hq:(sem L (u+1) ((A9 L n).kid k).toNat).q j=.nil:=by
       unfold sem;simp only[L4,if_neg dL];split <;> rfl
      rw[hq];simp
     ·rw[if_neg h2];have dL:1<(A9 L (((A9 L n).kid k).toNat:Int)).lv:=by omega
      obtain⟨f1,f2,f3⟩:=Lv.kid hl cJ g1 dL hj;rw[So hl cJ g1 dL hj,ec];rw[ec]at f1;have hs:(sem L (u+1) ((A9 L n).kid k).toNat).s j=0:=by
       unfold sem;simp only[L4,if_pos dL];split <;> rfl
      rw[hs];have:=K2 hl f1;rw[Wo];simp only[decide_true,YG,zXe];exact this.symm
    rw[Ii,Ii,pt 0 (by omega),pt 1 (by omega),pt 2 (by omega),pt 3 (by omega)]
  rw[Ii,Ii (λk=>(List.range 4).all λj=>decide (j=3-k)||(decide (((sem L (w+1) n).q k).q j=.nil)&&decide (((sem L (w+1) n).q k).s j=0))),hk 0 (by omega),hk 1 (by omega),hk 2 (by omega),hk 3 (by omega)]
 ·have dG:(sem L (w+1) n).isNode=false:=by
   unfold sem;simp only[L4,he,VY,if_false,if_neg h1];rfl
  have e2:¬(2:Int)<=(A9 L (n:Int)).lv:=by omega
  rw[dG,zXd e2];simp

end
theorem Lv.num {L:List Nd}{v n:Nat}(h:Lv L v n)(h0:0<n)(hl:AB L=true):(A9 L (n:Int)).lv=(v:Int)/\1<=v:=by
 have hv:(A9 L (n:Int)).lv.toNat=v:=by rcases h.2 with h | h <;> omega
 obtain⟨m,rfl⟩:∃m,n=m+1:=⟨n-1,by omega⟩;rw[Ba h.1]at hv ⊢;have:=(AO hl h.1).1;omega
theorem inn_sem {L:List Nd}(hl:AB L=true){w n:Nat}(h0:0<n)(h:Lv L (w+1) n)(he:(A4 L).getD n true=false)(hh:DA L n=true) :
  AB (L++[Cd L n])=true/\Lv (L++[Cd L n]) w (L.length+1)/\sem (L++[Cd L n]) w (L.length+1)=In (w+1) (sem L (w+1) n)/\(A4 (L++[Cd L n])).getD (L.length+1) true=false:=by
 obtain⟨dL,hn2⟩:=Nm hh;obtain⟨aJ,_⟩:=h.num h0 hl;obtain⟨u,rfl⟩:∃u,w=u+1:=⟨w-1,by omega⟩;have h1:1<(A9 L (n:Int)).lv:=by omega
 have dM:AB (L++[Cd L n])=true:=by
  obtain⟨m,rfl⟩:∃m,n=m+1:=⟨n-1,by omega⟩;exact Nl hl h.1 (by rw[Ba h.1]at hn2;exact hn2)
 have hx:A9 (L++[Cd L n]) ((L.length+1:Nat):Int)=Cd L n:=by rw[Ba (by simp)];simp
 have iD:(Cd L n).lv=(u+1:Nat):=by show (A9 L (n:Int)).lv-1=_;omega
 have hLv:Lv (L++[Cd L n]) (u+1) (L.length+1):=⟨by simp,.inr (by rw[hx,iD];omega)⟩;rw[hol_sem hl h0 h he]at hh;obtain⟨ig,inn⟩:=Ms (LZ hl _ _ h) hh;have aV:∀k,k<4->(Cd L n).kid k=IX L (A9 L n) k:=λk hk=>Vt L n hk;have hne:sem (L++[Cd L n]) (u+1) (L.length+1)=In (u+1+1) (sem L (u+1+1) n):=by
  by_cases hu:u=0
  ·subst hu;have hx1:¬1<(A9 (L++[Cd L n]) ((L.length+1:Nat):Int)).lv:=by rw[hx,iD];decide
   have hs:∀k,k<4->(sem (L++[Cd L n]) 1 (L.length+1)).s k=((sem L 2 n).q k).s (3-k):=by
    intro k hk;rw[sem_s1 dM (by omega) hLv hx1 hk,hx,aV k hk,So hl h0 h h1 hk];unfold IX;obtain⟨g1,g2,g3⟩:=Lv.kid hl h0 h h1 hk;by_cases hc:(A9 L n).kid k=0
    ·rw[if_pos hc,hc,show ((0:Int)).toNat=0 from rfl,FP];rfl
    ·rw[if_neg hc];have cJ:0<((A9 L n).kid k).toNat:=by omega
     obtain⟨cl,_⟩:=g1.num cJ hl;rw[sem_s1 hl cJ g1 (by omega) (by omega)];rw[show (((A9 L n).kid k).toNat:Int)=(A9 L n).kid k from by omega]
   have e:In 2 (sem L 2 n)=.lf ((sem (L++[Cd L n]) 1 (L.length+1)).s 0) ((sem (L++[Cd L n]) 1 (L.length+1)).s 1) ((sem (L++[Cd L n]) 1 (L.length+1)).s 2) ((sem (L++[Cd L n]) 1 (L.length+1)).s 3):=by
    rw[hs 0 (by omega),hs 1 (by omega),hs 2 (by omega),hs 3 (by omega)];rfl
   have hg:=LZ dM 1 _ hLv;rcases hg.kind with hk | ⟨_,_,a,b,c,d,hk⟩ | ⟨hk,_⟩
   ·exfalso;rw[hk]at e;rw[e]at ig;exact ig.2.2 ⟨rfl,rfl,rfl,rfl⟩
   ·show sem (L++[Cd L n]) 1 (L.length+1)=In 2 (sem L 2 n);rw[e,hk];rfl
   ·omega
  ·have hx1:1<(A9 (L++[Cd L n]) ((L.length+1:Nat):Int)).lv:=by rw[hx,iD];omega
   have hs:∀k,k<4->(sem (L++[Cd L n]) (u+1) (L.length+1)).q k=((sem L (u+1+1) n).q k).q (3-k):=by
    intro k hk;rw[So dM (by omega) hLv hx1 hk,hx,aV k hk,So hl h0 h h1 hk];unfold IX;obtain⟨g1,g2,g3⟩:=Lv.kid hl h0 h h1 hk;by_cases hc:(A9 L n).kid k=0
    ·rw[if_pos hc,hc,show ((0:Int)).toNat=0 from rfl,FP,FP];rfl
    ·rw[if_neg hc];have cJ:0<((A9 L n).kid k).toNat:=by omega
     obtain⟨cl,_⟩:=g1.num cJ hl;have c1:1<(A9 L (((A9 L n).kid k).toNat:Int)).lv:=by omega
     have hk3:=(Lv.kid hl cJ g1 c1 (show 3-k<4 by omega)).1;rw[So hl cJ g1 c1 (by omega)];rw[show (((A9 L n).kid k).toNat:Int)=(A9 L n).kid k from by omega]at hk3 ⊢;exact GC hl _ _ hk3
   have e:In (u+1+1) (sem L (u+1+1) n)=.node ((sem (L++[Cd L n]) (u+1) (L.length+1)).q 0) ((sem (L++[Cd L n]) (u+1) (L.length+1)).q 1) ((sem (L++[Cd L n]) (u+1) (L.length+1)).q 2) ((sem (L++[Cd L n]) (u+1) (L.length+1)).q 3):=by
    rw[hs 0 (by omega),hs 1 (by omega),hs 2 (by omega),hs 3 (by omega)];unfold In;rw[if_neg (by omega)]
   have hg:=LZ dM (u+1) _ hLv;rcases hg.kind with hk | ⟨hk,_⟩ | ⟨_,_,hk⟩
   ·exfalso;rw[hk]at e;rw[e]at ig;exact ig.2.2.2 ⟨rfl,rfl,rfl,rfl⟩
   ·omega
   ·rw[e];exact QT.eta hk
 refine⟨dM,hLv,hne,?_⟩;cases hq:(A4 (L++[Cd L n])).getD (L.length+1) true with
 | false=>rfl
 | true=>
  have:=(K2 dM hLv).2 hq;rw[hne]at this;exact absurd this inn
theorem QL:∀(v:Nat) (L:List Nd) (n:Nat),AB L=true->0<n->Lv L v n->(A4 L).getD n true=false ->
  AB (BN v L n).1=true/\Lv (BN v L n).1 (Ig v (sem L v n)).1 (BN v L n).2/\0<(BN v L n).2/\sem (BN v L n).1 (Ig v (sem L v n)).1 (BN v L n).2=(Ig v (sem L v n)).2
 | 0,L,n,hl,h0,hLv,he=>by have:=(hLv.num h0 hl).2;omega
 | v+1,L,n,hl,h0,hLv,he=>by
  have hs:=hol_sem hl h0 hLv he;unfold BN Ig;cases hh:DA L n with
  | false=>
   rw[hh]at hs;rw[<-hs];exact⟨hl,hLv,h0,rfl⟩
  | true=>
   rw[hh]at hs;rw[<-hs];obtain⟨r1,r2,r3,r4⟩:=inn_sem hl h0 hLv he hh;simp only[if_true];rw[<-r3];exact QL v _ _ r1 (by omega) r2 r4
def Ex (v:Nat)(t:QT):List Nd:=if t=.nil then []else (Bf (Ig v t).1 (Ig v t).2 []).1
theorem canon_sem {L:List Nd}(hl:AB L=true){v n:Nat}(h:Lv L v n):Jg L n=Ex v (sem L v n):=by
 unfold Jg Ex DH;cases he:(A4 L).getD n true with
 | true=>
  rw[(K2 hl h).2 he];simp only[if_true];cases (A9 L ((0:Nat):Int)).lv.toNat with
  | zero=>rfl
  | succ w=>simp only[Bm,DW,if_true]
 | false=>
  have h0:=OZ he;have hn:sem L v n≠.nil:=λe=>by rw[(K2 hl h).1 e]at he;cases he
  obtain⟨aJ,hv1⟩:=h.num h0 hl;obtain⟨r1,r2,r3,r4⟩:=QL v L n hl h0 h he;rw[if_neg hn];have hv:(A9 L (n:Int)).lv.toNat=v:=by omega
  simp only[VY,if_false,hv];have gD:=(r2.num r3 r1).1;rw[show (A9 (BN v L n).1 ((BN v L n).2:Int)).lv.toNat=(Ig v (sem L v n)).1 from by omega,insF_sem r1 _ _ _ r2,r4]
theorem nodup_dup {L:List Nd}(h:Ha L):dupB L=true:=by
 unfold dupB;rw[Wi];intro i hi;have aD:i<L.length:=by simpa using hi
 rw[h.ne (i+1) (by omega) (by omega)];simp only[WT,zXn,Wi,zXe];intro k hk;have hk':k<i:=by simpa using hk
 simp only[VW,VO aD,VO (show k<L.length by omega),Option.getD_some];intro e;exact (X5.1 h.nd) k i (by omega) aD hk' e.symm
def Nz (n:Nat):List Nat:=(List.range n).map (· + 1)
theorem U0 (n:Nat):Nz (n+1)=Nz n++[n+1]:=by simp[Nz,XQ]
theorem O7 {n i:Nat}:i∈Nz n↔1<=i/\i<=n:=by
 simp only[Nz,Xj,X1];constructor
 ·rintro⟨j,h1,h2⟩;omega
 ·intro h;exact⟨i-1,by omega,by omega⟩
theorem endK_4 (rec:Nat->List Nat->List Nat)(x:Nd)(out:List Nat):Mx rec x 4 out =
  (if 1<x.lv/\0<x.k3 then rec x.k3.toNat (if 1<x.lv/\0<x.k2 then rec x.k2.toNat (if 1<x.lv/\0<x.k1 then rec x.k1.toNat (if 1<x.lv/\0<x.k0 then rec x.k0.toNat out else out)else (if 1<x.lv/\0<x.k0 then rec x.k0.toNat out else out))else (if 1<x.lv/\0<x.k1 then rec x.k1.toNat (if 1<x.lv/\0<x.k0 then rec x.k0.toNat out else out)else (if 1<x.lv/\0<x.k0 then rec x.k0.toNat out else out)))else (if 1<x.lv/\0<x.k2 then rec x.k2.toNat (if 1<x.lv/\0<x.k1 then rec x.k1.toNat (if 1<x.lv/\0<x.k0 then rec x.k0.toNat out else out)else (if 1<x.lv/\0<x.k0 then rec x.k0.toNat out else out))else (if 1<x.lv/\0<x.k1 then rec x.k1.toNat (if 1<x.lv/\0<x.k0 then rec x.k0.toNat out else out)else (if 1<x.lv/\0<x.k0 then rec x.k0.toNat out else out)))):=by
 simp only[Qr,Nd.kid,show Mx rec x 0 out=out from rfl]
theorem OI {v:Nat}{t:QT}{out:List Nd}(h:t≠.nil):0<(Bf v t out).2:=by
 cases t with
 | nil=>exact absurd rfl h
 | lf a b c d=>exact Mi _ _
 | node a b c d=>exact Mi _ _
theorem OY:∀(t:QT) (v:Nat) (out s L:List Nd),G8 v t->t≠.nil->Ha out->L=(Bf v t out).1++s->Gk L v (Bf v t out).2 (Nz out.length)=Nz (Bf v t out).1.length
 | .nil,v,out,s,L,hg,hn,hc,hL=>absurd rfl hn
 | .lf a b c d,v,out,s,L,hg,hn,hc,hL=>by
  have hi:=Fd (.lf a b c d) v out hg hc;have hp:=OI (v:=v) (out:=out) hn;obtain⟨rfl,_,_⟩:=hg;by_cases hle:(Bf 1 (.lf a b c d) out).2<=out.length
  ·have:=hi.old hle;simp only[Gk];rw[if_pos (O7.2 ⟨hp,hle⟩),this]
  ·have aR:=hi.new (by omega);have iI:(Bf 1 (.lf a b c d) out).1.length=out.length+1:=by
    have h1:Bf 1 (.lf a b c d) out=BF out ⟨1,a,b,c,d⟩:=rfl;rw[h1]at hle ⊢;unfold BF at hle ⊢;split
    ·simp
    ·rename_i hf;rw[if_neg hf]at hle;exact absurd (findN_le _ _) hle
   have hx:¬1<(A9 L ((Bf 1 (.lf a b c d) out).2:Int)).lv:=by
    rw[hL,Mn hp (by omega)];intro h;have:=hi.lv.num hp hi.cl.lo;omega
   simp only[Gk];rw[if_neg (λh=>by have:=O7.1 h;omega),endK_4];simp only[hx,false_and,if_false];rw[iI,U0,aR,iI]
 | .node a b c d,v,out,s,L,hg,hn,hc,hL=>by
  have hi:=Fd (.node a b c d) v out hg hc;have hp:=OI (v:=v) (out:=out) hn;obtain⟨h2,hv,⟨ga,gb,gc,gd⟩,hne⟩:=hg;obtain⟨w,rfl⟩:∃w,v=w+1:=⟨v-1,by omega⟩;by_cases hle:(Bf (w+1) (.node a b c d) out).2<=out.length
  ·have:=hi.old hle;simp only[Gk];rw[if_pos (O7.2 ⟨hp,hle⟩),this]
  ·have aR:=hi.new (by omega);have ga:G8 w a:=ga;have gb:G8 w b:=gb;have gc:G8 w c:=gc;have gd:G8 w d:=gd;have ia:=Fd a w out ga hc;have ib:=Fd b w _ gb ia.cl;have ic:=Fd c w _ gc ib.cl;have id:=Fd d w _ gd ic.cl;have iI:Bf (w+1) (.node a b c d) out=BF (Bf w d (Bf w c (Bf w b (Bf w a out).1).1).1).1 ⟨(w+1:Nat),(Bf w a out).2,(Bf w b (Bf w a out).1).2,(Bf w c (Bf w b (Bf w a out).1).1).2,(Bf w d (Bf w c (Bf w b (Bf w a out).1).1).1).2⟩:=rfl;obtain⟨ra,ea,_⟩:=ia.pre;obtain⟨rb,eb,_⟩:=ib.pre;obtain⟨rc,ec,_⟩:=ic.pre;obtain⟨rd,ed,_⟩:=id.pre;have dP:(Bf (w+1) (.node a b c d) out).1=(Bf w d (Bf w c (Bf w b (Bf w a out).1).1).1).1++[⟨(w+1:Nat),(Bf w a out).2,(Bf w b (Bf w a out).1).2,(Bf w c (Bf w b (Bf w a out).1).1).2,(Bf w d (Bf w c (Bf w b (Bf w a out).1).1).1).2⟩]:=by
    rw[iI]at hle aR ⊢;unfold BF at hle aR ⊢;split
    ·rfl
    ·rename_i hf;exfalso;rw[if_neg hf]at hle aR;dsimp only at hle aR;cases vO:Ct (Bf w d (Bf w c (Bf w b (Bf w a out).1).1).1).1 ⟨(w+1:Nat),(Bf w a out).2,(Bf w b (Bf w a out).1).2,(Bf w c (Bf w b (Bf w a out).1).1).2,(Bf w d (Bf w c (Bf w b (Bf w a out).1).1).1).2⟩with
     | zero=>exact hf vO
     | succ i=>
      rw[vO]at hle;have h3:=(Et.1 vO).1;obtain⟨r1,e1,w1⟩:=ia.pre;obtain⟨r2,e2,w2⟩:=ib.pre;obtain⟨r3,e3,w3⟩:=ic.pre;obtain⟨r4,e4,w4⟩:=id.pre;have hout:(Bf w d (Bf w c (Bf w b (Bf w a out).1).1).1).1=out++(r1++r2++r3++r4):=by
       conv=>lhs;rw[e4]
       conv=>lhs;arg 1;rw[e3]
       conv=>lhs;arg 1;arg 1;rw[e2]
       conv=>lhs;arg 1;arg 1;arg 1;rw[e1]
       simp
      rw[hout,Wt (by omega)]at h3;have hm:=Wr h3;have:((w+1:Nat):Int)<=(w:Int):=by
       simp only[Wn]at hm;rcases hm with ((hm | hm) | hm) | hm
       ·exact w1 _ hm
       ·exact w2 _ hm
       ·exact w3 _ hm
       ·exact w4 _ hm
      omega
   have hlast:A9 L ((Bf (w+1) (.node a b c d) out).2:Int)=⟨(w+1:Nat),(Bf w a out).2,(Bf w b (Bf w a out).1).2,(Bf w c (Bf w b (Bf w a out).1).1).2,(Bf w d (Bf w c (Bf w b (Bf w a out).1).1).1).2⟩:=by
    rw[hL,Mn hp (by omega),aR,dP];simp only[VX,zXi];rw[Ba (by simp)];simp
   have step:∀(t:QT) (o:List Nd) (s':List Nd),G8 w t->Ha o->L=(Bf w t o).1++s'->(∀(out s L:List Nd),G8 w t->t≠.nil->Ha out->L=(Bf w t out).1++s->Gk L w (Bf w t out).2 (Nz out.length)=Nz (Bf w t out).1.length) ->
     (if 1<((w+1:Nat):Int)/\0<((Bf w t o).2:Int)then Gk L w ((Bf w t o).2:Int).toNat (Nz o.length)else Nz o.length)=Nz (Bf w t o).1.length:=by
    intro t o s' gt oC hLo ih;by_cases ht:t=.nil
    ·subst ht;simp[Bf]
    ·have hp':=OI (v:=w) (out:=o) ht;rw[if_pos ⟨by omega,by omega⟩,zXl];exact ih o s' L gt ht oC hLo
   have hLd:L=(Bf w d (Bf w c (Bf w b (Bf w a out).1).1).1).1++([⟨(w+1:Nat),(Bf w a out).2,(Bf w b (Bf w a out).1).2,(Bf w c (Bf w b (Bf w a out).1).1).2,(Bf w d (Bf w c (Bf w b (Bf w a out).1).1).1).2⟩]++s):=by rw[hL,dP];simp
   have hLc:=hLd
   conv at hLc=>rhs;arg 1;rw[ed]
   rw[VZ]at hLc;have hLb:=hLc
   conv at hLb=>rhs;arg 1;rw[ec]
   rw[VZ]at hLb;have hLa:=hLb
   conv at hLa=>rhs;arg 1;rw[eb]
   rw[VZ]at hLa;have sa:=step a out _ ga hc hLa (λo s L=>OY a w o s L);have sb:=step b _ _ gb ia.cl hLb (λo s L=>OY b w o s L);have sc:=step c _ _ gc ib.cl hLc (λo s L=>OY c w o s L);have sd:=step d _ _ gd ic.cl hLd (λo s L=>OY d w o s L);simp only[Gk];rw[if_neg (λh=>by have:=O7.1 h;omega),hlast,endK_4];dsimp only;rw[sa,sb,sc,sd,aR,dP];simp only[VX,zXi,U0]
theorem Pm {v:Nat}{t:QT}(hg:G8 v t):D7 (Ex v t)=true/\(t≠.nil->Ha (Ex v t)/\0<(Ex v t).length/\Lv (Ex v t) (Ig v t).1 (Ex v t).length/\sem (Ex v t) (Ig v t).1 (Ex v t).length=(Ig v t).2):=by
 by_cases hn:t=.nil
 ·subst hn;exact⟨by simp[Ex,D7],λh=>absurd rfl h⟩
 ·obtain⟨s1,s2,s3⟩:=shrT_ok v t hg hn;have e:Ex v t=(Bf (Ig v t).1 (Ig v t).2 []).1:=by unfold Ex;rw[if_neg hn]
  rw[e];generalize Ig v t=vt at s1 s2 s3;obtain⟨w,u⟩:=vt;dsimp only at s1 s2 s3 ⊢;have hi:=Fd u w [] s1 Ha.nil;have hp:=OI (v:=w) (out:=[]) s2;have aR:=hi.new (by simpa using hp);have eL:=OY u w [] [] _ s1 s2 Ha.nil (Wx _).symm;have aJ:=hi.lv;have eD:=hi.sm;rw[aR]at aJ eD hp eL;generalize (Bf w u []).1=Q at *;have aG:=hi.cl;obtain⟨q1,q2⟩:=aJ.num hp aG.lo;refine⟨?_,λ_=>⟨aG,hp,aJ,eD⟩⟩;have hne:Q≠[]:=λh=>by rw[h]at hp;simp at hp
  have eZ:(Bn Q).toNat=w:=by unfold Bn;omega
  have nJ:NW Q=Nz Q.length:=by unfold NW;rw[eZ];exact eL
  unfold D7;rw[aG.lo,hol_sem aG.lo hp aJ (aG.ne _ hp (VV _)),eD,s3,nodup_dup aG];have:PG Q=true:=by
   unfold PG;rw[nJ];have hlen:(Nz Q.length).length=Q.length:=by simp[Nz]
   simp only[hlen,decide_true,YG,Wi,zXe];intro i hi;have aD:i<Q.length:=by simpa using hi
   simp[Nz,VW,aD]
  rw[this];simp[hne]
def Gp:Nat->Int->Int->List Cl->QT
 | 0,_,_,_=>.nil
 | v+1,x,y,l=>
  if l=[]then .nil
  else if v=0 then .lf (FS (Bo 1 x y 0 l)) (FS (Bo 1 x y 1 l)) (FS (Bo 1 x y 2 l)) (FS (Bo 1 x y 3 l))
  else .node (Gp v (qa (v+1) x 0) (qb (v+1) y 0) (Bo (v+1) x y 0 l)) (Gp v (qa (v+1) x 1) (qb (v+1) y 1) (Bo (v+1) x y 1 l)) (Gp v (qa (v+1) x 2) (qb (v+1) y 2) (Bo (v+1) x y 2 l)) (Gp v (qa (v+1) x 3) (qb (v+1) y 3) (Bo (v+1) x y 3 l))
def Fs (v:Nat)(x y:Int)(c:Cl):Prop:=x<=c.x/\c.x<x+2^v/\y<=c.y/\c.y<y+2^v
theorem inQ_sq {v:Nat}{a b:Int}{c:Cl}:inQ (v+1) a b c=true↔Fs v a b c:=by
 unfold inQ Fs;simp only[Wc,zXe,Wl];constructor
 ·rintro⟨⟨⟨h1,h2⟩,h3⟩,h4⟩;exact⟨h1,h2,h3,h4⟩
 ·rintro⟨h1,h2,h3,h4⟩;exact⟨⟨⟨h1,h2⟩,h3⟩,h4⟩
theorem KK {v:Nat}{x y:Int}{c:Cl}(h:Fs (v+1) x y c):∃k,k<4/\Fs v (qa (v+1) x k) (qb (v+1) y k) c:=by
 obtain⟨h1,h2,h3,h4⟩:=h;have e:(2:Int)^(v+1)=2^v*2:=Xv _ _;unfold Fs qa qb;simp only[Wl];have hp:(0:Int)<2^v:=XA (by omega);rw[e]at h2 h4;generalize (2:Int)^v=p at *;by_cases hx:c.x<x+p
 ·by_cases hy:c.y<y+p
  ·exact⟨0,by omega,by simp;omega⟩
  ·exact⟨2,by omega,by simp;omega⟩
 ·by_cases hy:c.y<y+p
  ·exact⟨1,by omega,by simp;omega⟩
  ·exact⟨3,by omega,by simp;omega⟩
theorem Mg {v:Nat}{x y:Int}{k:Nat}{l:List Cl}{c:Cl}(h:c∈Bo (v+1) x y k l):Fs v (qa (v+1) x k) (qb (v+1) y k) c:=inQ_sq.1 (WO.1 h).2
theorem last_sem {o:List Nd}{x:Nd}{v:Nat}(hl:AB o=true)(dM:AB (o++[x])=true)(hv:x.lv=(v:Int))(hne:(1<v/\∃k,k<4/\sem o (v-1) (x.kid k).toNat≠.nil)\/(v=1/\∃k,k<4/\x.kid k≠0)) :
  Lv (o++[x]) v (o.length+1)/\sem (o++[x]) v (o.length+1)=(if 1<v then .node (sem o (v-1) x.k0.toNat) (sem o (v-1) x.k1.toNat) (sem o (v-1) x.k2.toNat) (sem o (v-1) x.k3.toNat)else .lf x.k0 x.k1 x.k2 x.k3):=by
 have hx:A9 (o++[x]) ((o.length+1:Nat):Int)=x:=by rw[Ba (by simp)];simp
 have hLv:Lv (o++[x]) v (o.length+1):=⟨by simp,.inr (by rw[hx,hv];omega)⟩;have hv1:1<=v:=by rcases hne with ⟨h,_⟩ | ⟨h,_⟩ <;> omega
 obtain⟨w,rfl⟩:∃w,v=w+1:=⟨v-1,by omega⟩;have hk:1<(A9 (o++[x]) ((o.length+1:Nat):Int)).lv->∀k,k<4->Lv o w (x.kid k).toNat:=by
  intro h1 k hk;obtain⟨q1,q2,q3⟩:=Lv.kid dM (by omega) hLv h1 hk;rw[hx]at q1 q2 q3;refine⟨by omega,?_⟩;rcases q1.2 with h | h
  ·exact .inl h
  ·by_cases h0:0<(x.kid k).toNat
   ·right;rw[<-h,Mn h0 (by omega)]
   ·exact .inl (by omega)
 have hE:(A4 (o++[x])).getD (o.length+1) true=false:=by
  rw[Pa dM (by omega) (by simp),hx,Xy];rcases hne with ⟨h1,k,bQ,hs⟩ | ⟨h1,k,bQ,hs⟩
  ·have dA:1<(A9 (o++[x]) ((o.length+1:Nat):Int)).lv:=by rw[hx,hv];omega
   have gS:=hk dA k bQ;refine⟨k,by simpa using bQ,?_⟩;have hn:(A4 o).getD (x.kid k).toNat true=false:=by
    cases hq:(A4 o).getD (x.kid k).toNat true with
    | false=>rfl
    | true=>exact absurd ((K2 hl gS).2 hq) hs
   rw[Tw gS.1,hn];have:x.kid k≠0:=λe=>by rw[e]at hn;rw[show ((0:Int)).toNat=0 from rfl,DW]at hn;cases hn
   simp[this]
  ·refine⟨k,by simpa using bQ,?_⟩;have:¬1<x.lv:=by rw[hv];omega
   simp[hs,this]
 refine⟨hLv,?_⟩;unfold sem;simp only[L4,hE,VY,if_false,hx];by_cases h1:1<w+1
 ·have dA:1<(A9 (o++[x]) ((o.length+1:Nat):Int)).lv:=by rw[hx,hv];omega
  rw[if_pos (by rw[hv];omega),if_pos h1];have e:=λk bQ=>GC (r:=[x]) hl _ _ (hk dA k bQ);have e0:=e 0 (by omega);have e1:=e 1 (by omega);have e2:=e 2 (by omega);have e3:=e 3 (by omega);simp only[Nd.kid,sem]at e0 e1 e2 e3;simp only[Wl,e0,e1,e2,e3]
 ·rw[if_neg (by rw[hv];omega),if_neg h1]
structure Plc (v:Nat)(t:QT)(out o':List Nd)(i:Nat):Prop where
 pre:∃r,o'=out++r
 lo:AB o'=true
 lv:Lv o' v i
 sm:sem o' v i=t
theorem plK_0 (v:Nat)(x y:Int)(l:List Cl)(out:List Nd):plK (AP 0) 1 x y l 4 out=(out,⟨((1:Nat):Int),FS (Bo 1 x y 0 l),FS (Bo 1 x y 1 l),FS (Bo 1 x y 2 l),FS (Bo 1 x y 3 l)⟩):=rfl
theorem headS_st (l:List Cl):St (FS l):=by
 cases l with
 | nil=>exact⟨Xq _,by show (0:Int)<=255;decide⟩
 | cons c l=>
  have:=c.s.toNat_lt;exact⟨Xl _,by show (c.s.toNat:Int)<=255;omega⟩
theorem headS_ne {l:List Cl}(h:l≠[])(hs:∀c∈l,c.s≠0):FS l≠0:=by
 cases l with
 | nil=>exact absurd rfl h
 | cons c l=>
  intro e;have h1:(c.s.toNat:Int)=0:=e;exact hs c (by simp) (Xp.1 (by simpa using h1))
theorem U5 {v:Nat}{x y:Int}:Gp v x y []=.nil:=by cases v <;> simp[Gp]
theorem treeC_ne {v:Nat}{x y:Int}{l:List Cl}(h:l≠[]):Gp (v+1) x y l≠.nil:=by
 unfold Gp;rw[if_neg h];split <;> simp
theorem PE:∀(v:Nat) (out:List Nd) (x y:Int) (l:List Cl),v<=1329->AB out=true->(∀c∈l,Fs v x y c)->(∀c∈l,c.s≠0)->(l≠[]->1<=v)->Plc v (Gp v x y l) out (AP v out x y l).1 (AP v out x y l).2
 | 0,out,x,y,l,hv,ho,hl,hs,h1=>⟨⟨[],by simp[AP]⟩,ho,⟨Wv _,.inl rfl⟩,FP _ _⟩
 | v+1,out,x,y,l,hv,ho,hl,hs,h1=>by
  unfold AP Gp;by_cases h0:l=[]
  ·rw[if_pos h0,if_pos h0];exact⟨⟨[],by simp⟩,ho,⟨Wv _,.inl rfl⟩,FP _ _⟩
  ·rw[if_neg h0,if_neg h0];obtain⟨c,hc⟩:=List.exists_mem_of_ne_nil l h0;obtain⟨k0,eI,jY⟩:=KK (hl c hc);have oR:Bo (v+1) x y k0 l≠[]:=λe=>by
    have:c∈Bo (v+1) x y k0 l:=WO.2 ⟨hc,inQ_sq.2 jY⟩;rw[e]at this;cases this
   have wW:∀k,∀c∈Bo (v+1) x y k l,c.s≠0:=λk c hc=>hs c (WO.1 hc).1;by_cases hv0:v=0
   ·subst hv0;rw[if_pos rfl,plK_0 0];dsimp only;generalize hX:(⟨((1:Nat):Int),FS (Bo 1 x y 0 l),FS (Bo 1 x y 1 l),FS (Bo 1 x y 2 l),FS (Bo 1 x y 3 l)⟩:Nd)=X;have aV:∀k,k<4->X.kid k=FS (Bo 1 x y k l):=by
     intro k hk;subst hX
     match k,hk with
     | 0,_=>rfl
     | 1,_=>rfl
     | 2,_=>rfl
     | 3,_=>rfl
    have hXl:X.lv=((1:Nat):Int):=by subst hX;rfl
    have hlo:AB (out++[X])=true:=KE ho (KF (by rw[hXl];decide) (by rw[hXl];decide) λk hk=>by
     rw[aV k hk];have:=headS_st (Bo 1 x y k l);exact⟨this.1,λ_=>this.2,λe=>by rw[hXl]at e;exact absurd e (by decide)⟩)
    obtain⟨q1,q2⟩:=last_sem ho hlo hXl (.inr ⟨rfl,k0,eI,by rw[aV k0 eI];exact headS_ne oR (wW k0)⟩);refine⟨⟨[X],rfl⟩,hlo,q1,?_⟩;rw[q2,if_neg (by omega)];subst hX;rfl
   ·rw[if_neg hv0];have step:∀k,k<=4->AB (plK (AP v) (v+1) x y l k out).1=true/\(∃r,(plK (AP v) (v+1) x y l k out).1=out++r)/\(plK (AP v) (v+1) x y l k out).2.lv=((v+1:Nat):Int) /\
      ∀j,j<k->0<=(plK (AP v) (v+1) x y l k out).2.kid j/\Lv (plK (AP v) (v+1) x y l k out).1 v ((plK (AP v) (v+1) x y l k out).2.kid j).toNat/\sem (plK (AP v) (v+1) x y l k out).1 v ((plK (AP v) (v+1) x y l k out).2.kid j).toNat=Gp v (qa (v+1) x j) (qb (v+1) y j) (Bo (v+1) x y j l):=by
     intro k
     induction k with
     | zero=>intro _;exact⟨ho,⟨[],by simp[plK]⟩,rfl,λj hj=>by omega⟩
     | succ k ih=>
      intro hk;obtain⟨i1,⟨r,i2⟩,i3,i4⟩:=ih (by omega);have hp:=PE v (plK (AP v) (v+1) x y l k out).1 (qa (v+1) x k) (qb (v+1) y k) (Bo (v+1) x y k l) (by omega) i1 (λc hc=>Mg hc) (wW k) (λ_=>by omega);have e:plK (AP v) (v+1) x y l (k+1) out=((AP v (plK (AP v) (v+1) x y l k out).1 (qa (v+1) x k) (qb (v+1) y k) (Bo (v+1) x y k l)).1,(plK (AP v) (v+1) x y l k out).2.setKid k ((AP v (plK (AP v) (v+1) x y l k out).1 (qa (v+1) x k) (qb (v+1) y k) (Bo (v+1) x y k l)).2:Int)):=by
       conv=>lhs;unfold plK
       rw[if_neg (by omega)]
      rw[e];generalize plK (AP v) (v+1) x y l k out=P at *;generalize AP v P.1 (qa (v+1) x k) (qb (v+1) y k) (Bo (v+1) x y k l)=Q at *;obtain⟨s,jG⟩:=hp.pre;dsimp only;refine⟨hp.lo,⟨r++s,by rw[jG,i2];simp⟩,by rw[UJ];exact i3,λj hj=>?_⟩;by_cases jN:j=k
      ·subst jN;rw[QM _ _ (by omega),zXl];exact⟨Xl _,hp.lv,hp.sm⟩
      ·rw[Fu _ _ (by omega) (by omega) jN];obtain⟨j1,j2,j3⟩:=i4 j (by omega);rw[jG];exact⟨j1,j2.old,(GC i1 _ _ j2).trans j3⟩
    obtain⟨t1,⟨r,t2⟩,t3,t4⟩:=step 4 (by omega);generalize plK (AP v) (v+1) x y l 4 out=P at t1 t2 t3 t4;obtain⟨o,X⟩:=P;dsimp only at t1 t2 t3 t4 ⊢;have hlo:AB (o++[X])=true:=KE t1 (KF (by rw[t3];omega) (by rw[t3];omega) λk hk=>by
     obtain⟨j1,j2,j3⟩:=t4 k hk;refine⟨j1,λe=>by rw[t3]at e;omega,λ_ hpos=>?_⟩;have:=j2.1;refine⟨by omega,?_⟩;have qF:=(j2.num (by omega) t1).1;rw[show ((X.kid k).toNat:Int)=X.kid k from by omega]at qF;rw[qF,t3];omega)
    obtain⟨q1,q2⟩:=last_sem t1 hlo t3 (.inl ⟨by omega,k0,eI,by
     rw[Wl,(t4 k0 eI).2.2];obtain⟨w,rfl⟩:∃w,v=w+1:=⟨v-1,by omega⟩;exact treeC_ne oR⟩)
    refine⟨⟨r++[X],by rw[t2];simp⟩,hlo,q1,?_⟩;rw[q2,if_pos (by omega),Wl];have f0:=(t4 0 (by omega)).2.2;have f1:=(t4 1 (by omega)).2.2;have f2:=(t4 2 (by omega)).2.2;have f3:=(t4 3 (by omega)).2.2;simp only[Nd.kid]at f0 f1 f2 f3;rw[f0,f1,f2,f3]
theorem lvUp_in:∀f v c,Il f v c<v+f->DP (Il f v c) c=true
 | 0,v,c,h=>by simp[Il]at h
 | f+1,v,c,h=>by
  unfold Il at h ⊢;split
  ·rename_i hw;exact hw
  ·rename_i hw;rw[if_neg hw]at h;exact lvUp_in f (v+1) c (by omega)
theorem pow_le2 {v w:Nat}(h:v<=w):(2:Int)^v<=2^w:=by
 have h1:(2:Nat)^v<=2^w:=W9 (by omega) h;have h2:((2^v:Nat):Int)<=((2^w:Nat):Int):=by omega
 simpa using h2
theorem LR {v w:Nat}{c:Cl}(h:DP v c=true)(hw:v<=w):DP w c=true:=by
 have h1:=pow_le2 (show v-1<=w-1 by omega);simp only[DP,inZ,Wc,zXe]at h ⊢;generalize (2:Int)^(v-1)=p at *;generalize (2:Int)^(w-1)=q at *;omega
theorem OE:∀(l:List Cl) (v:Nat),1<=v->v<=1330->l.foldl (λv c=>Il (1330-v) v c) v<=1329->∀c∈l,DP (l.foldl (λv c=>Il (1330-v) v c) v) c=true
 | [],v,_,_,_,c,hc=>by cases hc
 | d::l,v,h1,h2,h3,c,hc=>by
  have hu:=lvUp_ge (1330-v) v d;have hf:=Vn l (Il (1330-v) v d) (by omega) (by omega);simp only[List.foldl_cons]at h3 ⊢;rcases WG.1 hc with rfl | hc
  ·exact LR (lvUp_in (1330-v) v c (by omega)) hf.1
  ·exact OE l _ (by omega) (by omega) h3 c hc
theorem JZ {S:List Cl}(h:A3 S<=1329):∀c∈S,DP (A3 S) c=true:=OE S 1 (by omega) (by omega) h
theorem MU {v:Nat}{c:Cl}(h1:1<=v)(h:DP v c=true):Fs v (-(2^(v-1))) (-(2^(v-1))) c:=by
 obtain⟨w,rfl⟩:∃w,v=w+1:=⟨v-1,by omega⟩;have e:(2:Int)^(w+1)=2^w*2:=Xv _ _;simp only[DP,inZ,Wc,zXe,Wl]at h;unfold Fs;rw[Wl,e];generalize (2:Int)^w=p at *;omega
def Kh (S:List Cl):QT:=Gp (A3 S) (-(2^(A3 S-1))) (-(2^(A3 S-1))) S
theorem of07S_eq {S:List Cl}(hs:∀c∈S,c.s≠0):NH S=if A3 S>1329 then ([],4)else (Ex (A3 S) (Kh S),0):=by
 unfold NH Kh;obtain⟨v1,v2⟩:=IV S;by_cases hv:A3 S>1329
 ·rw[if_pos hv,if_pos hv]
 ·rw[if_neg hv,if_neg hv];have cG:∀c∈S,Fs (A3 S) (-(2^(A3 S-1))) (-(2^(A3 S-1))) c:=λc hc=>MU v1 (JZ (by omega) c hc);generalize A3 S=v at v1 v2 hv cG;have hp:=PE v [] (-(2^(v-1))) (-(2^(v-1))) S (by omega) rfl cG hs (λ_=>v1);have hok:SG (AP v [] (-(2^(v-1))) (-(2^(v-1))) S).1 ((AP v [] (-(2^(v-1))) (-(2^(v-1))) S).2:Int)=true:=by
   unfold SG;have:=hp.lv.1;simp only[hp.lo,zXn,Wc,zXe];omega
  rw[if_pos hok,canon_sem hp.lo hp.lv,hp.sm]
theorem OF {l:List Cl}{c:Cl}(h:c∈Bb l):c.s≠0:=by
 have:=(WO.1 h).2;simpa using this
theorem TB {S:List Cl}(hs:∀c∈S,c.s≠0)(hv:A3 S<=1329):G8 (A3 S) (Kh S):=by
 obtain⟨v1,v2⟩:=IV S;have hp:=PE (A3 S) [] (-(2^(A3 S-1))) (-(2^(A3 S-1))) S hv rfl (λc hc=>MU v1 (JZ hv c hc)) hs (λ_=>v1);have:=LZ hp.lo _ _ hp.lv;rw[hp.sm]at this;exact this
theorem SI (l:List Cl):D8 l=if A3 (Bb l)>1329 then ([],4)else (Ex (A3 (Bb l)) (Kh (Bb l)),0):=by
 rw[R9,of07S_eq λc hc=>OF hc]
theorem quad07_right {most:Int}{l:List Cl}:D7 (D8 l).1=true:=by
 rw[SI];split
 ·simp[D7]
 ·exact (Pm (TB (λc hc=>OF hc) (by omega))).1
def NZ (m:Int)(x:Nd):Nat->Int
 | 0=>m
 | k+1=>max (NZ m x k) (x.kid k)
def Gv (L:List Nd):Int:=L.foldl (λm x=>if x.lv=1 then NZ m x 4 else m) 0
theorem quad_eq (L:List Nd):CY L=.agg [.sl (enL cNd L) .no]:=rfl
theorem boxQ (L:List Nd)(H:Aa):BD true 1 (CY L) H=some (.ptr H.length 0 0,H++[.cel 0 (Bj L)]):=Cp rfl rfl
section
variable {H:Aa}{p:Nat}{L:List Nd}
theorem Fa (hg:H[p]? = some (.cel 0 (Bj L))):Ac false 1 (.ptr p 0 0) H=some (.sl (enL cNd L) .no):=by
 simp only[Ac,Aw hg,zXa];rfl
theorem Ni (hg:H[p]? = some (.cel 0 (Bj L))):Ac true 1 (.ptr p 0 0) H=some (CY L):=by
 simp only[Ac,Aw hg,zXa];rfl

end
theorem q08_most (L:List Nd)(H:Aa)(hL:L.length<1152921504606846976):Sh.f34 (CY L) H=some (.ret (.int .u8 (IntKind.u8.wrap (Gv L))),H):=by
 unfold Sh.f34;have e1:(H++[Blk.cel 0 (Bj L)])[H.length]? = some (.cel 0 (Bj L)):=Al;simp only[GMw,boxQ];refine Cm (G:=λrec1 vs H1=>Sh.f5n H rec1 (ag vs 0) (ag vs 1) (ag vs 2) H1) L.length (λi=>[.ptr H.length 0 0,.i6 (Gv (L.take i)),.i6 (i:Int)]) (λ_=>H++[.cel 0 (Bj L)]) _ hL (λrec i hi=>?_) (λrec=>?_)
 ·have aD:(i:Int)<(L.length:Int):=by omega
  have aN:=Au (show i<9223372036854775807 by omega);have hm:Gv (L.take (i+1))=if L[i].lv=1 then NZ (Gv (L.take i)) L[i] 4 else Gv (L.take i):=by
   unfold Gv;rw[Wb hi,XM];rfl
  rw[hm];generalize Gv (L.take i)=m;unfold Sh.f5n;simp only[GMw,Ah,VU,Fa e1,Ax,aD];by_cases aJ:L[i].lv=1
  ·rw[if_pos aJ];refine Cm (G:=λaA vs H1=>Sh.f33 H rec aA (ag vs 0) (ag vs 1) (ag vs 2) (ag vs 3) H1) 4 (λk=>[.ptr H.length 0 0,.i6 (NZ m L[i] k),.i6 (i:Int),.i6 (k:Int)]) (λ_=>H++[.cel 0 (Bj L)]) _ (by decide) (λaA k hk=>?_) (λaA=>?_)
   ·have hk':(k:Int)<4:=by omega
    unfold Sh.f33;simp only[GMw,Ar,Ah,AE,VU,Nat.add_zero,Wg,Co,hk',Fa e1,A1 hi,aJ,EP hk,Ez hk,max_int,Au (show k<9223372036854775807 by omega),NZ]
   ·have hf:¬(((4:Nat):Int)<4):=by decide
    unfold Sh.f33;simp only[GMw,hf,aN]
  ·rw[if_neg aJ,DU Fe];have hf:((0:Int)<4):=by decide
   unfold Sh.f33;simp only[GMw,Ar,Ah,AE,VU,Nat.add_zero,Wg,Co,hf,Fa e1,A1 hi,aJ,aN]
 ·unfold Sh.f5n;rw[Wd (VV _)];simp only[GMw,Ah,VU,Fa e1,Ax,WL,B3,Ij]
theorem maxK_st {m:Int}{x:Nd}(hm:St m)(hx:∀k,k<4->St (x.kid k)):∀k,k<=4->St (NZ m x k)
 | 0,_=>hm
 | k+1,h=>by
  have h1:=maxK_st hm hx k (by omega);have h2:=hx k (by omega);obtain⟨a1,a2⟩:=h1;obtain⟨b1,b2⟩:=h2;exact⟨show (0:Int)<=max (NZ m x k) (x.kid k)by omega,show max (NZ m x k) (x.kid k)<=(255:Int)by omega⟩
theorem mostZ_st {L:List Nd}(hl:AB L=true):St (Gv L):=by
 have key:∀(l:List Nd) (m:Int),St m->(∀x∈l,x.lv=1->∀k,k<4->St (x.kid k))->St (l.foldl (λm x=>if x.lv=1 then NZ m x 4 else m) m):=by
  intro l
  induction l with
  | nil=>intro m hm _;exact hm
  | cons a l ih=>
   intro m hm hx;refine ih _ ?_ λx h=>hx x (by simp[h]);dsimp only;split
   ·rename_i h;exact maxK_st hm (hx a (by simp) h) 4 (VV _)
   ·exact hm
 refine key L 0 ⟨Xq _,by decide⟩ λx hx aJ k hk=>?_;obtain⟨i,hi,rfl⟩:=Wz hx;have:=(AO hl hi).2.2 k hk;exact⟨this.1,this.2.1 aJ⟩
theorem q08_mostZ {L:List Nd}(H:Aa)(hL:L.length<1152921504606846976)(hl:AB L=true):Sh.f34 (CY L) H=some (.ret (.int .u8 (Gv L)),H):=by
 have:=mostZ_st hl;rw[q08_most L H hL,R1 this.1 (by have:=this.2;omega)]
theorem q08_in (z:Int)(v:Nat)(H:Aa)(hz:SB 100 z)(h1:1<=v)(h2:v<=1400):Sh.f35 (big z) (.i6 (v:Int)) H=some (.ret (.bool (inZ v z)),H):=by
 have hw:IntKind.i64.wrap ((v:Int)-1)=((v-1:Nat):Int):=Hp (by omega) (by omega);have hp:=(EM (show v-1<=1400 by omega)).lb (by decide);have bX:=λH=>Iv (v-1) H (by omega);have gP:=λH=>IP (2^(v-1)) H hp;have hx:=λH b (hb:LB b)=>EX z b H (hz.lb (by decide)) hb;have s1:∀B:Aa,Af 2 (.ptr B.length 0 0) (big (2^(v-1))) (B++[.cel 0 [.bool false,.sl [] .ti]])=some (B++[.cel 0 (A2 (2^(v-1)))]):=λB=>by rw[BK (Al (B:=B)) rfl,Be]
 have e1:(H++[Blk.cel 0 (A2 z)]++[Blk.cel 0 (A2 (2^(v-1)))])[H.length]? = some (.cel 0 (A2 z)):=by simp
 have e2:(H++[Blk.cel 0 (A2 z)]++[Blk.cel 0 (A2 (2^(v-1)))])[(H++[Blk.cel 0 (A2 z)]).length]? = some (.cel 0 (A2 (2^(v-1)))):=Al;have fin:∀q:Bool,rP H (.bool q) (H++[Blk.cel 0 (A2 z)]++[Blk.cel 0 (A2 (2^(v-1)))])=some (.ret (.bool q),H):=λq=>by simp only[VZ];exact Fw
 unfold Sh.f35 inZ;simp only[GMw,DL,hw,bX,CD,s1,AY e1,AY e2,gP,and_true,eq_self,hx _ _ hp.neg,Gb];cases decide (-(2^(v-1))<=z)with
 | false=>simp only[GMw,fin]
 | true=>simp only[GMw,AY e1,AY e2,hx _ _ hp,Ga,fin]
def qk (v:Nat)(x y:Int):Nat:=(if 2^(v-1)<=x then 1 else 0)+(if 2^(v-1)<=y then 2 else 0)
def qd (v:Nat)(x:Int):Int:=if 2^(v-1)<=x then x-2^(v-1)else x
theorem qk_lt (v:Nat)(x y:Int):qk v x y<4:=by unfold qk;split <;> split <;> omega
theorem q08_quarter (v:Nat)(x y:Int)(H:Aa)(h1:1<=v)(h2:v<=1400)(hx:SB 100 x)(hy:SB 100 y) :
  Sh.f5p (.i6 (v:Int)) (big x) (big y) H=some (.ret (.tup [.i6 (qk v x y:Int),big (qd v x),big (qd v y)]),H):=by
 have hw:IntKind.i64.wrap ((v:Int)-1)=((v-1:Nat):Int):=Hp (by omega) (by omega);have hp:=(EM (show v-1<=1400 by omega)).lb (by decide);have bX:=λH=>Iv (v-1) H (by omega);have cx:=λH=>EX x (2^(v-1)) H (hx.lb (by decide)) hp;have cy:=λH=>EX y (2^(v-1)) H (hy.lb (by decide)) hp;have sx:=λH=>S3 x (2^(v-1)) H (hx.lb (by decide)) hp;have sy:=λH=>S3 y (2^(v-1)) H (hy.lb (by decide)) hp;unfold Sh.f5p;have s1:∀B:Aa,Af 2 (.ptr B.length 0 0) (big (2^(v-1))) (B++[.cel 0 [.bool false,.sl [] .ti]])=some (B++[.cel 0 (A2 (2^(v-1)))]):=λB=>by rw[BK (Al (B:=B)) rfl,Be]
 simp only[GMw,DL,CD,hw,bX,s1];have l1:(H++[Blk.cel 0 (A2 x)]).length=H.length+1:=by simp
 have l2:(H++[Blk.cel 0 (A2 x)]++[Blk.cel 0 (A2 y)]).length=H.length+2:=by simp
 have l3:(H++[Blk.cel 0 (A2 x)]++[Blk.cel 0 (A2 y)]++[Blk.cel 0 [Ab.bool false,.sl [] .ti]]).length=H.length+3:=by simp
 have l4:(H++[Blk.cel 0 (A2 x)]++[Blk.cel 0 (A2 y)]++[Blk.cel 0 [Ab.bool false,.sl [] .ti]]++[Blk.cel 0 [Ab.bool false,.sl [] .ti]]).length=H.length+4:=by simp
 simp only[l1,l2,l3,l4];have five:∀a b c d e:List Ab,(H++[Blk.cel 0 a]++[Blk.cel 0 b]++[Blk.cel 0 c]++[Blk.cel 0 d]++[Blk.cel 0 e])=H++[Blk.cel 0 a,.cel 0 b,.cel 0 c,.cel 0 d,.cel 0 e]:=λa b c d e=>by simp
 rw[five];have g0:∀(z:Int) (b c d e:List Ab),Ac true 2 (.ptr H.length 0 0) (H++[Blk.cel 0 (A2 z),.cel 0 b,.cel 0 c,.cel 0 d,.cel 0 e])=some (big z):=λz b c d e=>AY (by simp);have g1:∀(z:Int) (a c d e:List Ab),Ac true 2 (.ptr (H.length+1) 0 0) (H++[Blk.cel 0 a,.cel 0 (A2 z),.cel 0 c,.cel 0 d,.cel 0 e])=some (big z):=λz a c d e=>AY (by simp);have g2:∀(z:Int) (a b d e:List Ab),Ac true 2 (.ptr (H.length+2) 0 0) (H++[Blk.cel 0 a,.cel 0 b,.cel 0 (A2 z),.cel 0 d,.cel 0 e])=some (big z):=λz a b d e=>AY (by simp);have g3:∀(z:Int) (a b c e:List Ab),Ac true 2 (.ptr (H.length+3) 0 0) (H++[Blk.cel 0 a,.cel 0 b,.cel 0 c,.cel 0 (A2 z),.cel 0 e])=some (big z):=λz a b c e=>AY (by simp);have g4:∀(z:Int) (a b c d:List Ab),Ac true 2 (.ptr (H.length+4) 0 0) (H++[Blk.cel 0 a,.cel 0 b,.cel 0 c,.cel 0 d,.cel 0 (A2 z)])=some (big z):=λz a b c d=>AY (by simp);have p0:∀(z z':Int) (b c d e:List Ab),Af 2 (.ptr H.length 0 0) (big z) (H++[Blk.cel 0 (A2 z'),.cel 0 b,.cel 0 c,.cel 0 d,.cel 0 e])=some (H++[Blk.cel 0 (A2 z),.cel 0 b,.cel 0 c,.cel 0 d,.cel 0 e]):=λz z' b c d e=>by rw[BK (cs:=A2 z') (by simp) rfl];simp
 have p1:∀(z z':Int) (a c d e:List Ab),Af 2 (.ptr (H.length+1) 0 0) (big z) (H++[Blk.cel 0 a,.cel 0 (A2 z'),.cel 0 c,.cel 0 d,.cel 0 e])=some (H++[Blk.cel 0 a,.cel 0 (A2 z),.cel 0 c,.cel 0 d,.cel 0 e]):=λz z' a c d e=>by rw[BK (cs:=A2 z') (by simp) rfl];simp
 have p2:∀(z:Int) (a b d e:List Ab),Af 2 (.ptr (H.length+2) 0 0) (big z) (H++[Blk.cel 0 a,.cel 0 b,.cel 0 [.bool false,.sl [] .ti],.cel 0 d,.cel 0 e])=some (H++[Blk.cel 0 a,.cel 0 b,.cel 0 (A2 z),.cel 0 d,.cel 0 e]):=λz a b d e=>by rw[BK (cs:=[.bool false,.sl [] .ti]) (by simp) rfl];simp
 have p3:∀(z:Int) (a b c e:List Ab),Af 2 (.ptr (H.length+3) 0 0) (big z) (H++[Blk.cel 0 a,.cel 0 b,.cel 0 c,.cel 0 [.bool false,.sl [] .ti],.cel 0 e])=some (H++[Blk.cel 0 a,.cel 0 b,.cel 0 c,.cel 0 (A2 z),.cel 0 e]):=λz a b c e=>by rw[BK (cs:=[.bool false,.sl [] .ti]) (by simp) rfl];simp
 have w1:IntKind.i64.wrap (0+1)=1:=by decide
 have w2:IntKind.i64.wrap (0+2)=2:=by decide
 have w3:IntKind.i64.wrap (1+2)=3:=by decide
 unfold qk qd;simp only[GMw,g0,g4,cx,Gb];by_cases ha:(2:Int)^(v-1)<=x
 ·by_cases hb:(2:Int)^(v-1)<=y
  ·simp only[GMw,ha,hb,w1,w3,g0,g1,g2,g3,g4,sx,sy,cx,cy,Gb,p0,p1,p2,p3,Aj,Sh.f37,Sh.f36,and_true,eq_self,EN,CU,D6,zXb,Cw,Ci,Bu,B6,CM,Np]
   rfl
  ·simp only[GMw,ha,hb,w1,w3,g0,g1,g2,g3,g4,sx,sy,cx,cy,Gb,p0,p1,p2,p3,Aj,Sh.f37,Sh.f36,and_true,eq_self,EN,CU,D6,zXb,Cw,Ci,Bu,B6,CM,Np]
   rfl
 ·by_cases hb:(2:Int)^(v-1)<=y
  ·simp only[GMw,ha,hb,w1,w2,w3,g0,g1,g2,g3,g4,sx,sy,cx,cy,Gb,p0,p1,p2,p3,Aj,Sh.f37,Sh.f36,and_true,eq_self,EN,CU,D6,zXb,Cw,Ci,Bu,B6,CM,Np]
   rfl
  ·simp only[GMw,ha,hb,w1,w2,w3,g0,g1,g2,g3,g4,sx,sy,cx,cy,Gb,p0,p1,p2,p3,Aj,Sh.f37,Sh.f36,and_true,eq_self,EN,CU,D6,zXb,Cw,Ci,Bu,B6,CM,Np]
   rfl
def OO (L:List Nd):Nat->Nat->Int->Int->Int
 | 0,_,_,_=>0
 | v+1,n,x,y=>
  if n=0 then 0
  else if (A9 L n).lv=1 then (A9 L n).kid (qk (v+1) x y)
  else OO L v ((A9 L n).kid (qk (v+1) x y)).toNat (qd (v+1) x) (qd (v+1) y)
def PX (L:List Nd)(x y:Int):Int:=
 if L=[]then 0
 else if inZ (Bn L).toNat x&&inZ (Bn L).toNat y then OO L (Bn L).toNat L.length (x+2^((Bn L).toNat-1)) (y+2^((Bn L).toNat-1))else 0
theorem qd_sb {v k:Nat}{x:Int}(h:SB k x):SB k (qd v x):=by
 unfold qd;have hp:(0:Int)<2^(v-1):=XA (by omega);unfold SB at *;generalize (2:Int)^(v-1)=p at *;generalize (4294967296:Nat)^k=q at *;split <;> omega
theorem getF_st {L:List Nd}(hl:AB L=true):∀v n x y,Lv L v n->St (OO L v n x y)
 | 0,n,x,y,h=>⟨Xq _,by show (0:Int)<=255;decide⟩
 | v+1,n,x,y,h=>by
  unfold OO;split
  ·exact⟨Xq _,by show (0:Int)<=255;decide⟩
  ·rename_i h0;have eX:0<n:=by omega
   split
   ·rename_i h1;obtain⟨m,rfl⟩:∃m,n=m+1:=⟨n-1,by omega⟩;rw[Ba h.1]at h1 ⊢;have:=(AO hl h.1).2.2 (qk (v+1) x y) (qk_lt _ _ _);exact⟨this.1,this.2.1 h1⟩
   ·rename_i h1;have:=h.num eX hl;exact getF_st hl v _ _ _ (Lv.kid hl eX h (by omega) (qk_lt _ _ _)).1
theorem q08_get (L:List Nd)(x y:Int)(H:Aa)(hL:L.length<17592186044415)(hl:AB L=true)(hx:SB 99 x)(hy:SB 99 y) :
  Sh.f5q (CY L) (big x) (big y) H=some (.ret (.int .u8 (PX L x y)),H):=by
 unfold Sh.f5q;simp only[GMw,boxQ,DL];have l1:(H++[Blk.cel 0 (Bj L)]).length=H.length+1:=by simp
 have l2:(H++[Blk.cel 0 (Bj L)]++[Blk.cel 0 (A2 x)]).length=H.length+2:=by simp
 have l3:(H++[Blk.cel 0 (Bj L)]++[Blk.cel 0 (A2 x)]++[Blk.cel 0 (A2 y)]).length=H.length+3:=by simp
 have three:∀(x y:Int),H++[Blk.cel 0 (Bj L)]++[Blk.cel 0 (A2 x)]++[Blk.cel 0 (A2 y)]=H++Blk.cel 0 (Bj L)::.cel 0 (A2 x)::.cel 0 (A2 y)::[]:=λx y=>by simp
 have gq:∀(x y:Int) (G:Aa),Ac true 1 (.ptr H.length 0 0) (H++Blk.cel 0 (Bj L)::.cel 0 (A2 x)::.cel 0 (A2 y)::G)=some (CY L):=λx y G=>Ni (by simp);have gn:∀(x y:Int) (G:Aa),Ac false 1 (.ptr H.length 0 0) (H++Blk.cel 0 (Bj L)::.cel 0 (A2 x)::.cel 0 (A2 y)::G)=some (.sl (enL cNd L) .no):=λx y G=>Fa (by simp);have gx:∀(x y:Int) (G:Aa),Ac true 2 (.ptr (H.length+1) 0 0) (H++Blk.cel 0 (Bj L)::.cel 0 (A2 x)::.cel 0 (A2 y)::G)=some (big x):=λx y G=>AY (by simp);have gy:∀(x y:Int) (G:Aa),Ac true 2 (.ptr (H.length+2) 0 0) (H++Blk.cel 0 (Bj L)::.cel 0 (A2 x)::.cel 0 (A2 y)::G)=some (big y):=λx y G=>AY (by simp);have px:∀(z x y:Int) (G:Aa),Af 2 (.ptr (H.length+1) 0 0) (big z) (H++Blk.cel 0 (Bj L)::.cel 0 (A2 x)::.cel 0 (A2 y)::G)=some (H++Blk.cel 0 (Bj L)::.cel 0 (A2 z)::.cel 0 (A2 y)::G):=λz x y G=>by rw[BK (cs:=A2 x) (by simp) rfl];simp
 have py:∀(z x y:Int) (G:Aa),Af 2 (.ptr (H.length+2) 0 0) (big z) (H++Blk.cel 0 (Bj L)::.cel 0 (A2 x)::.cel 0 (A2 y)::G)=some (H++Blk.cel 0 (Bj L)::.cel 0 (A2 x)::.cel 0 (A2 z)::G):=λz x y G=>by rw[BK (cs:=A2 y) (by simp) rfl];simp
 have fin:∀(q:Int) (G:Aa),rP H (.int .u8 q) (H++G)=some (.ret (.int .u8 q),H):=λq G=>Ij;have lvl:=λH=>UW L .no H hL;rw[<-quad_eq]at lvl;rw[l1,l2,three];simp only[GMw,gq,lvl];unfold PX;by_cases h0:L=[]
 ·simp only[if_pos h0,GMw,fin]
 ·rw[if_neg h0];have hlen:0<L.length:=Wy.2 h0;have hm:L.length-1<L.length:=by omega
  have hLv:Lv L (Bn L).toNat L.length:=⟨VV _,.inr rfl⟩;obtain⟨dL,hn2⟩:=hLv.num hlen hl;have eZ:Bn L=((Bn L).toNat:Int):=dL;have hle:=OB hl hlen (VV _);have iQ:(Bn L).toNat<=1329:=hle;rw[if_neg h0];generalize (Bn L).toNat=v at hLv dL hn2 eZ iQ;rw[eZ];have hv0:¬((v:Int)=0):=by omega
  have vK:=λH=>q08_in x v H (hx.mono (by omega)) hn2 (by omega);have vJ:=λH=>q08_in y v H (hy.mono (by omega)) hn2 (by omega);simp only[GMw,hv0,gx,vK];cases inZ v x with
  | false=>simp only[GMw,fin]
  | true=>
   simp only[GMw,gy,vJ];cases inZ v y with
   | false=>simp only[GMw,fin]
   | true=>
    have hw:IntKind.i64.wrap ((v:Int)-1)=((v-1:Nat):Int):=Hp (by omega) (by omega);have uJ:=EM (show v-1<=1400 by omega);have hp:=uJ.lb (show 44<=549755813888 by decide);have bX:=λH=>Iv (v-1) H (by omega);have ax:=λH=>HT x (2^(v-1)) H (hx.lb (by decide)) hp;have ay:=λH=>HT y (2^(v-1)) H (hy.lb (by decide)) hp;have oN:SB 100 (x+2^(v-1)):=hx.add (uJ.mono (by omega));have kG:SB 100 (y+2^(v-1)):=hy.add (uJ.mono (by omega));have l4:∀x y:Int,(H++Blk.cel 0 (Bj L)::.cel 0 (A2 x)::.cel 0 (A2 y)::[]).length=H.length+3:=λx y=>by simp
    have four:∀(x y:Int) (c:Blk),(H++Blk.cel 0 (Bj L)::.cel 0 (A2 x)::.cel 0 (A2 y)::[])++[c]=H++Blk.cel 0 (Bj L)::.cel 0 (A2 x)::.cel 0 (A2 y)::[c]:=λx y c=>by simp
    have ph:∀(x y:Int),Af 2 (.ptr (H.length+3) 0 0) (big (2^(v-1))) (H++Blk.cel 0 (Bj L)::.cel 0 (A2 x)::.cel 0 (A2 y)::[.cel 0 [.bool false,.sl [] .ti]])=some (H++Blk.cel 0 (Bj L)::.cel 0 (A2 x)::.cel 0 (A2 y)::[.cel 0 (A2 (2^(v-1)))]):=λx y=>by rw[BK (cs:=[.bool false,.sl [] .ti]) (by simp) rfl];simp
    have gh:∀(x y:Int) (z:Int),Ac true 2 (.ptr (H.length+3) 0 0) (H++Blk.cel 0 (Bj L)::.cel 0 (A2 x)::.cel 0 (A2 y)::[.cel 0 (A2 z)])=some (big z):=λx y z=>AY (by simp);simp only[GMw,hw,bX,CD,l4,four,ph,gx,gh,and_true,eq_self,ax,gy,ay,px,py,Ah,VU,gn,Ax];refine Bq (G:=λrec1 vs H1=>Sh.f7f H rec1 (ag vs 0) (ag vs 1) (ag vs 2) (ag vs 3) H1) (σ:=Nat×Nat×Int×Int×Aa) (λs=>Lv L s.1 s.2.1/\s.1<=1329/\SB 100 s.2.2.1/\SB 100 s.2.2.2.1)
     (λs=>[.ptr H.length 0 0,.ptr (H.length+1) 0 0,.ptr (H.length+2) 0 0,.i6 (s.2.1:Int)]) (λs=>H++Blk.cel 0 (Bj L)::.cel 0 (A2 s.2.2.1)::.cel 0 (A2 s.2.2.2.1)::s.2.2.2.2) (λs=>s.1)
     (λs=>some (.ret (.int .u8 (OO L s.1 s.2.1 s.2.2.1 s.2.2.2.1)),H)) (λs rec hs hrec=>?_) (v,L.length,x+2^(v-1),y+2^(v-1),[.cel 0 (A2 (2^(v-1)))]) ⟨hLv,iQ,oN,kG⟩ (by dsimp only;omega)
    obtain⟨u,n,a,b,G⟩:=s;obtain⟨s1,s2,s3,s4⟩:=hs;simp only at s1 s2 s3 s4 hrec ⊢;unfold Sh.f7f;by_cases hn:n=0
    ·subst hn;have:OO L u 0 a b=0:=by cases u <;> simp[OO]
     rw[this];simp only[GMw,show ((0:Nat):Int)=0 from rfl,show ¬((0:Int)>0) from by decide,fin]
    ·obtain⟨m,rfl⟩:∃m,n=m+1:=⟨n-1,by omega⟩;have hml:m<L.length:=s1.1;obtain⟨c1,c2⟩:=s1.num (by omega) hl;obtain⟨w,rfl⟩:∃w,u=w+1:=⟨u-1,by omega⟩;have cQ:IntKind.i64.wrap (((m+1:Nat):Int)-1)=(m:Int):=by rw[Ao] <;> omega
     have hpos:((m+1:Nat):Int)>0:=by omega
     have hx:A9 L ((m+1:Nat):Int)=L[m]:=Ba hml;have aJ:L[m].lv=((w+1:Nat):Int):=by rw[<-hx];exact c1
     have oQ:=λH=>q08_quarter (w+1) a b H (by omega) (by omega) s3 s4;have bQ:=qk_lt (w+1) a b;have zR:OO L (w+1) (m+1) a b=if L[m].lv=1 then L[m].kid (qk (w+1) a b)else OO L w (L[m].kid (qk (w+1) a b)).toNat (qd (w+1) a) (qd (w+1) b):=by
      conv=>lhs;unfold OO
      rw[if_neg (by omega),hx]
     rw[zR];generalize hB:H++Blk.cel 0 (Bj L)::.cel 0 (A2 a)::.cel 0 (A2 b)::G=B;have n1:Ac false 1 (.ptr H.length 0 0) B=some (.sl (enL cNd L) .no):=by rw[<-hB];exact gn _ _ _
     have n2:Ac true 2 (.ptr (H.length+1) 0 0) B=some (big a):=by rw[<-hB];exact gx _ _ _
     have n3:Ac true 2 (.ptr (H.length+2) 0 0) B=some (big b):=by rw[<-hB];exact gy _ _ _
     have lB:(B++[Blk.cel 0 [Ab.bool false,.sl [] .ti]]).length=B.length+1:=by simp
     have t0:=λ(z:Int) (c:List Ab)=>st0 (Hc:=B) (a:=[.bool false,.sl [] .ti]) (c:=c) (z:=z) rfl;have t1:=λ(z:Int) (a:List Ab)=>st1 (Hc:=B) (a:=a) (c:=[.bool false,.sl [] .ti]) (z:=z) rfl;have shape:∀(a b:Int) (c d:Blk),H++Blk.cel 0 (Bj L)::.cel 0 (A2 a)::.cel 0 (A2 b)::G++[c]++[d]=H++Blk.cel 0 (Bj L)::.cel 0 (A2 a)::.cel 0 (A2 b)::(G++[c,d]):=λa b c d=>by simp
     have m1:∀c d:Blk,Ac false 1 (.ptr H.length 0 0) (B++[c]++[d])=some (.sl (enL cNd L) .no):=λc d=>by rw[<-hB,shape];exact gn _ _ _
     simp only[GMw,Aj,hpos,Ah,VU,n1,cQ,A1 hml,Ar,AE,Nat.add_zero,Co,aJ,n2,n3,oQ,B1,B8,V6,CD,lB,t0,t1,m1,EP bQ,Wg,Ez bQ];by_cases h1:((w+1:Nat):Int)=1
     ·have hst:=(AO hl hml).2.2 (qk (w+1) a b) bQ;have yN:IntKind.u8.wrap (L[m].kid (qk (w+1) a b))=L[m].kid (qk (w+1) a b):=R1 hst.1 (by have:=hst.2.1 (by rw[aJ];exact h1);omega);have:(H++Blk.cel 0 (Bj L)::.cel 0 (A2 a)::.cel 0 (A2 b)::G++[Blk.cel 0 (A2 (qd (w+1) a))]++[Blk.cel 0 (A2 (qd (w+1) b))])=H++(Blk.cel 0 (Bj L)::.cel 0 (A2 a)::.cel 0 (A2 b)::(G++[Blk.cel 0 (A2 (qd (w+1) a)),.cel 0 (A2 (qd (w+1) b))])):=shape _ _ _ _;rw[<-hB,this];simp only[h1,GMw,B3,yN,fin]
     ·have e66:Ac true 2 (.ptr B.length 0 0) (B++[Blk.cel 0 (A2 (qd (w+1) a))]++[Blk.cel 0 (A2 (qd (w+1) b))])=some (big (qd (w+1) a)):=AY (by simp);have e68:∀a',Ac true 2 (.ptr (B.length+1) 0 0) (H++Blk.cel 0 (Bj L)::.cel 0 (A2 a')::.cel 0 (A2 b)::(G++[Blk.cel 0 (A2 (qd (w+1) a)),.cel 0 (A2 (qd (w+1) b))]))=some (big (qd (w+1) b)):=λa'=>by
       rw[<-shape];have:B.length+1=(H++Blk.cel 0 (Bj L)::.cel 0 (A2 a')::.cel 0 (A2 b)::G++[Blk.cel 0 (A2 (qd (w+1) a))]).length:=by rw[<-hB];simp;omega
       rw[this];exact AY Al
      have kZ:B++[Blk.cel 0 (A2 (qd (w+1) a))]++[Blk.cel 0 (A2 (qd (w+1) b))]=H++Blk.cel 0 (Bj L)::.cel 0 (A2 a)::.cel 0 (A2 b)::(G++[Blk.cel 0 (A2 (qd (w+1) a)),.cel 0 (A2 (qd (w+1) b))]):=by rw[<-hB];exact shape _ _ _ _
      simp only[h1,GMw,e66];rw[kZ];simp only[GMw,px,e68,and_true,eq_self,py,if_false];obtain⟨k1,k2,k3⟩:=Lv.kid hl (by omega) s1 (by rw[hx,aJ];omega) bQ;rw[hx]at k1 k2 k3;have:=hrec (w,(L[m].kid (qk (w+1) a b)).toNat,qd (w+1) a,qd (w+1) b,G++[Blk.cel 0 (A2 (qd (w+1) a)),.cel 0 (A2 (qd (w+1) b))]) ⟨k1,by dsimp only;omega,qd_sb s3,qd_sb s4⟩ (by dsimp only;omega);rw[show (((L[m].kid (qk (w+1) a b)).toNat:Nat):Int)=L[m].kid (qk (w+1) a b) from by omega]at this;exact this
def cBO:Option Int->List Ab
 | none=>[.bool false,.sl [] .ti]
 | some z=>A2 z
instance:Sz cBO 2:=⟨λa=>by cases a <;> rfl⟩
instance:Pl cBO:=⟨λa=>by cases a <;> rfl⟩
def bo (a:Option Int):Int:=a.getD 0
def Df (nf:Nat->Nat)(E:List (Option Int))(x:Nd)(j:Nat):Int:=
 (if 1<j then 2^(x.lv.toNat-1)else 0)+(if 1<x.lv then bo (E.getD (x.kid (nf j)).toNat none)else 0)
def DC (nf:Nat->Nat)(E:List (Option Int))(x:Nd)(j:Nat):Option Int:=
 if 1<x.lv then some (Df nf E x j)else if 1<j then some (2^(x.lv.toNat-1))else none
theorem Mz (nf:Nat->Nat)(E:List (Option Int))(x:Nd)(j:Nat):bo (DC nf E x j)=Df nf E x j:=by
 unfold DC;split
 ·rfl
 ·rename_i h;unfold Df;rw[if_neg h];split <;> simp[bo]
def CN (nf:Nat->Nat)(E:List (Option Int))(x:Nd):Nat->Bool×Option Int
 | 0=>(false,none)
 | j+1=>if x.kid (nf j)=0 then CN nf E x j
  else if (CN nf E x j).1=false\/Df nf E x j<bo (CN nf E x j).2 then (true,DC nf E x j)else CN nf E x j
def BX (nf:Nat->Nat)(L:List Nd):List (Option Int):=L.foldl (λE x=>E++[(CN nf E x 4).2]) [none]
theorem edgeL_snoc (nf:Nat->Nat)(L:List Nd)(x:Nd):BX nf (L++[x])=BX nf L++[(CN nf (BX nf L) x 4).2]:=by simp[BX]
theorem F7 (nf:Nat->Nat)(L:List Nd):(BX nf L).length=L.length+1:=by
 have key:∀(l:List Nd) (E:List (Option Int)),(l.foldl (λE x=>E++[(CN nf E x 4).2]) E).length=l.length+E.length:=by
  intro l
  induction l with
  | nil=>intro E;simp
  | cons a l ih=>intro E;simp only[List.foldl_cons,ih];simp;omega
 unfold BX;rw[key];simp
theorem HC (nf:Nat->Nat)(L:List Nd){i:Nat}(hi:i<L.length):BX nf (L.take (i+1))=BX nf (L.take i)++[(CN nf (BX nf (L.take i)) L[i] 4).2]:=by
 rw[Wb hi,edgeL_snoc]
def EB (L:List Nd)(E:List (Option Int)):Prop:=∀(m:Nat) (x:Nd) (o:Option Int),L[m]? = some x->E[m+1]? = some o->0<=bo o/\bo o<2^x.lv.toNat
theorem edgeJ_b {nf:Nat->Nat}{E:List (Option Int)}{x:Nd}{j:Nat}(hx:1<=x.lv)(hE:1<x.lv->0<=bo (E.getD (x.kid (nf j)).toNat none)/\bo (E.getD (x.kid (nf j)).toNat none)<2^(x.lv.toNat-1)):0<=Df nf E x j/\Df nf E x j<2^x.lv.toNat:=by
 unfold Df;have e:(2:Int)^x.lv.toNat=2^(x.lv.toNat-1)*2:=by rw[<-Xv];congr 1;omega
 have hp:(0:Int)<2^(x.lv.toNat-1):=XA (by omega);rw[e];by_cases h1:1<x.lv
 ·obtain⟨h2,h3⟩:=hE h1;rw[if_pos h1];generalize (2:Int)^(x.lv.toNat-1)=p at *;split <;> omega
 ·rw[if_neg h1];generalize (2:Int)^(x.lv.toNat-1)=p at *;split <;> omega
theorem RQ {nf:Nat->Nat}{E:List (Option Int)}{x:Nd}(hb:∀j,j<4->0<=Df nf E x j/\Df nf E x j<2^x.lv.toNat):∀j,j<=4->0<=bo (CN nf E x j).2/\bo (CN nf E x j).2<2^x.lv.toNat
 | 0,_=>⟨Xq _,XA (by omega)⟩
 | j+1,hj=>by
  unfold CN;split
  ·exact RQ hb j (by omega)
  ·split
   ·rw[Mz];exact hb j (by omega)
   ·exact RQ hb j (by omega)
theorem Ty {nf:Nat->Nat}(gC:∀j,nf j<4){L:List Nd}(hl:AB L=true){i:Nat}(hi:i<L.length)(hE:EB (L.take i) (BX nf (L.take i)))(j:Nat)(h1:1<L[i].lv):0<=bo ((BX nf (L.take i)).getD (L[i].kid (nf j)).toNat none)/\bo ((BX nf (L.take i)).getD (L[i].kid (nf j)).toNat none)<2^(L[i].lv.toNat-1):=by
 obtain⟨l1,l2,l3⟩:=AO hl hi;obtain⟨q1,q2,q3⟩:=l3 (nf j) (gC j);have hp:(0:Int)<2^(L[i].lv.toNat-1):=XA (by omega);by_cases hc:0<L[i].kid (nf j)
 ·obtain⟨r1,r2⟩:=q3 h1 hc;obtain⟨m,hm⟩:∃m:Nat,(L[i].kid (nf j)).toNat=m+1:=⟨(L[i].kid (nf j)).toNat-1,by omega⟩;have qO:m<i:=by omega
  have hml:m<L.length:=by omega
  have hlen:=F7 nf (L.take i);rw[Wj,WR (by omega)]at hlen;have hlt:m+1<(BX nf (L.take i)).length:=by omega
  have:=hE m L[m] _ (by rw[WM qO,VO hml]) (VO hlt);have aJ:=r2 L[m] (by rw[show (L[i].kid (nf j)-1).toNat=m from by omega];exact VO hml);rw[hm,VW,VO hlt,show L[i].lv.toNat-1=L[m].lv.toNat from by omega];exact this
 ·rw[show (L[i].kid (nf j)).toNat=0 from by omega];have h0:(BX nf (L.take i)).getD 0 none=none:=by
   have key:∀(l:List Nd) (E:List (Option Int)),E[0]? = some none->(l.foldl (λE x=>E++[(CN nf E x 4).2]) E)[0]? = some none:=by
    intro l
    induction l with
    | nil=>intro E h;exact h
    | cons a l ih=>intro E h;exact ih _ (by rw[VR (VP.1 h).1];exact h)
   rw[VW,show (BX nf (L.take i))[0]? = some none from key _ [none] rfl];rfl
  rw[h0];exact⟨Xq _,hp⟩
theorem edgeL_b {nf:Nat->Nat}(gC:∀j,nf j<4){L:List Nd}(hl:AB L=true):∀i,i<=L.length->EB (L.take i) (BX nf (L.take i))
 | 0,_=>by intro m x o h;simp at h
 | i+1,h=>by
  have ih:=edgeL_b gC hl i (by omega);rw[HC nf L h];intro m x o hx hz;have hlen:=F7 nf (L.take i);rw[Wj,WR (by omega)]at hlen;by_cases hn:m<i
  ·rw[VR (by omega)]at hz;rw[WM (by omega)]at hx;exact ih m x o (by rw[WM hn];exact hx) hz
  ·rw[Wt (by omega),hlen]at hz;have qO:m=i:=by
    have:=(VP.1 hz).1;simp at this;omega
   subst qO;simp only[WB,zXh,Wa]at hz;rw[WM (by omega),VO h]at hx;injection hx with hx;rw[<-hx,<-hz];exact RQ (λj _=>edgeJ_b (AO hl h).1 (Ty gC hl h ih j)) 4 (VV _)
section
variable {len sz id g o m p:Nat}{K:IntKind}{Hc:Aa}{nf:Nat->Nat}
theorem idx_arr (h:m<len):B5 len sz (.ptr id g o) (.int K (m:Int))=some (.ptr id g (o+m*sz)):=by
 unfold B5;simp only[];rw[if_pos ⟨by omega,by omega⟩];simp
def Ge (a b:Nat):List Ab:=[.i6 (a:Int),.i6 (b:Int)]
theorem load_two {a b:Nat}(hg:Hc[p]? = some (.cel 0 (Ge a b)))(h:m<2):Ac false 1 (.ptr p 0 m) Hc=some (.i6 ((if m=0 then a else b:Nat):Int)):=by
 simp only[Ac,Aw hg,zXa,VY,if_false]
 match m,h with
 | 0,_=>rfl
 | 1,_=>rfl
theorem GH {a:Option Int}(hg:Hc[p]? = some (.cel 0 (cBO a))):Ac true 2 (.ptr p 0 0) Hc=some (.agg (cBO a)):=by
 simp only[Ac,Aw hg,zXa,if_true];cases a <;> rfl
theorem TS (a:Option Int):(Ab.agg (cBO a)).acells=some (cBO a):=by cases a <;> rfl
theorem P3 {a:Option Int}{cs:List Ab}(hg:Hc[p]? = some (.cel 0 cs))(hl:cs.length=2):Af 2 (.ptr p 0 0) (.agg (cBO a)) Hc=some (Hc.set p (.cel 0 (cBO a))):=by
 simp only[Af,Aw hg,zXa,TS,Bt hg,Dq hl];rw[if_pos ⟨by cases a <;> rfl,by omega⟩]

end
theorem big_BO (z:Int):big z=.agg (cBO (some z)):=rfl
def Rep (z:Int)(cs:List Ab):Prop:=∃n l tk,cs=[.bool n,.sl (enL cU l) tk]/\l.length<=549755813888/\Lim l/\DZ n l=z
theorem Rep.big {z:Int}(h:LB z):Rep z (A2 z):=⟨decide (z<0),AA z.natAbs,.no,rfl,h,Bz _,Lr z⟩
theorem Rep.bo {a:Option Int}(h:LB (bo a)):Rep (Go.Gm.bo a) (cBO a):=by
 cases a with
 | none=>exact⟨false,[],.ti,rfl,by simp,(λx hx=>by simp at hx),rfl⟩
 | some z=>exact Rep.big h
theorem Rep.lb {z:Int}{cs:List Ab}(h:Rep z cs):LB z:=by
 obtain⟨n,l,tk,_,h2,h3,rfl⟩:=h;unfold LB;rw[Pt];exact Wu (Fb (RZ l h3)) h2
theorem addR {a b:Int}{cs ds:List Ab}(ha:Rep a cs)(hb:Rep b ds)(H:Aa):Sh.f2 (.agg cs) (.agg ds) H=some (.ret (Go.Gm.big (a+b)),H):=by
 obtain⟨n1,l1,t1,rfl,b1,x1,rfl⟩:=ha;obtain⟨n2,l2,t2,rfl,b2,x2,rfl⟩:=hb;exact q02_add _ _ _ _ _ _ _ b1 b2 x1 x2
theorem minusR {a:Int}{cs:List Ab}(ha:Rep a cs)(H:Aa):Sh.fh (.agg cs) H=some (.ret (Go.Gm.big (-a)),H):=by
 obtain⟨n1,l1,t1,rfl,b1,x1,rfl⟩:=ha;exact UZ _ _ _ _ (by omega) x1
theorem boxR {a:Int}{cs:List Ab}(ha:Rep a cs)(H:Aa):BD true 2 (.agg cs) H=some (.ptr H.length 0 0,H++[.cel 0 cs]):=by
 obtain⟨n1,l1,t1,rfl,b1,x1,rfl⟩:=ha;exact Cp rfl rfl
theorem loadR {a:Int}{cs:List Ab}{H:Aa}{p:Nat}(ha:Rep a cs)(hg:H[p]? = some (.cel 0 cs)):Ac true 2 (.ptr p 0 0) H=some (.agg cs):=by
 obtain⟨n1,l1,t1,rfl,b1,x1,rfl⟩:=ha;simp only[Ac,Aw hg,zXa];rfl
theorem subR {a b:Int}{cs ds:List Ab}(ha:Rep a cs)(hb:Rep b ds)(H:Aa):Sh.fi (.agg cs) (.agg ds) H=some (.ret (Go.Gm.big (a-b)),H):=by
 unfold Sh.fi;have e1:(H++[Blk.cel 0 cs]++[Blk.cel 0 ds]++[Blk.cel 0 [.bool false,.sl [] .ti]])[H.length]? = some (.cel 0 cs):=by simp
 have e2:(H++[Blk.cel 0 cs]++[Blk.cel 0 ds]++[Blk.cel 0 [.bool false,.sl [] .ti]])[(H++[Blk.cel 0 cs]).length]? = some (.cel 0 ds):=by simp
 have hz:=Rep.big hb.lb.neg;simp only[GMw,boxR ha,boxR hb,CD,loadR ha e1,loadR hb e2,minusR hb,and_true,eq_self];rw[<-TR (-b)];simp only[GMw,addR ha hz,BK (Al (B:=H++[Blk.cel 0 cs]++[Blk.cel 0 ds]) (cs:=[.bool false,.sl [] .ti])) rfl,Be,AY Al];rw[show a + -b=a-b from rfl];simp only[VZ,Cw,fall_big,zXb]
theorem cmpR {a b:Int}{cs ds:List Ab}(ha:Rep a cs)(hb:Rep b ds)(H:Aa):Sh.f0 (.agg cs) (.agg ds) H=some (.ret (.i6 (FH a b)),H):=by
 unfold Sh.f0;have e1:(H++[Blk.cel 0 cs]++[Blk.cel 0 ds])[H.length]? = some (.cel 0 cs):=by simp
 have e2:(H++[Blk.cel 0 cs]++[Blk.cel 0 ds])[(H++[Blk.cel 0 cs]).length]? = some (.cel 0 ds):=Al;simp only[GMw,boxR ha,boxR hb,loadR ha e1,loadR hb e2,subR ha hb,CD];generalize hB:H++[Blk.cel 0 cs]++[Blk.cel 0 ds]=B;have g0:Ac false 1 (.ptr B.length 0 0) (B++[Blk.cel 0 (A2 (a-b))])=some (.bool (decide (a-b<0))):=by
  simp only[Ac,Aw Al,zXa];rfl
 have g1:Ac false 1 (.ptr B.length 0 1) (B++[Blk.cel 0 (A2 (a-b))])=some (.sl (enL cU (AA (a-b).natAbs)) .no):=by
  simp only[Ac,Aw Al,zXa];rfl
 have fin:∀q:Int,rP H (.i6 q) (B++[Blk.cel 0 (A2 (a-b))])=some (.ret (.i6 q),H):=λq=>by rw[<-hB];simp only[VZ];exact Ij
 simp only[BK (Al (B:=B) (cs:=[.bool false,.sl [] .ti])) rfl,Be,GMw,Ah,VU,Nat.add_zero,g0,g1,Ax];unfold FH;by_cases h0:a=b
 ·subst h0;have:((AA (a-a).natAbs).length:Int)=0:=by rw[Int.sub_self];simp[EH]
  simp only[this,GMw,fin,WL]
 ·have hne:AA (a-b).natAbs≠[]:=OD (by omega);have hp:=Wy.2 hne;have hz:¬((AA (a-b).natAbs).length:Int)=0:=by omega
  by_cases hn:a<b
  ·have h1:a-b<0:=by omega
   simp only[hz,GMw,h1,hn,fin]
  ·have h1:¬a-b<0:=by omega
   simp only[hz,GMw,h1,hn,h0,fin]
def IR (x:Nd)(j:Nat):Option Int:=if 1<j then some (2^(x.lv.toNat-1))else none
theorem boxTwo (a b:Nat)(H:Aa):BD true 2 (.agg (Ge a b)) H=some (.ptr H.length 0 0,H++[.cel 0 (Ge a b)]):=Cp rfl rfl
theorem edge_turn {nf:Nat->Nat}(gC:∀j,nf j<4){L:List Nd}(tk:Tok)(H Hc:Aa)(E:List (Option Int))(i j pN pF id ph:Nat)(hi:i<L.length)(hj:j<4)(hL:L.length<549755813888)
  (hE:E.length=L.length+1)(aJ:1<=L[i].lv/\L[i].lv<=1329)(aV:0<=L[i].kid (nf j))(cG:1<L[i].lv->(L[i].kid (nf j)).toNat<E.length/\(L[i].kid (nf j)).toNat≠i+1/\LB (bo (E.getD (L[i].kid (nf j)).toNat none)))
  (hJ:LB (Df nf E L[i] j))(q:Bool×Option Int)(hq:LB (bo q.2))(yD:H.length<=pN/\H.length<=pF/\H.length<=id/\H.length<=ph)(dN:pN≠id)(dF:pF≠id)(dH:ph≠id)
  (fN:Hc[pN]? = some (.cel 0 (Ge (nf 0) (nf 1))))(fF:Hc[pF]? = some (.cel 0 (Ge (nf 2) (nf 3))))(fR:Hc[id]? = some (.cel 0 (flat cBO (E.set (i+1) q.2))))(fH:Hc[ph]? = some (.cel 0 (A2 (2^(L[i].lv.toNat-1)))))(hold:∀k,k<H.length->Hc[k]? = H[k]?)(hlen:H.length<=Hc.length) :
  ∃Hd,(∀rec1 aA:LK,Sh.f5l H rec1 aA (.sl (enL cNd L) tk) (.ptr pN 0 0) (.ptr pF 0 0) (.ms id 0 0 (L.length+1) (L.length+1) 2 true) (.i6 (i:Int)) (.ptr ph 0 0) (.bool q.1) (.i6 (j:Int)) Hc=aA [.sl (enL cNd L) tk,.ptr pN 0 0,.ptr pF 0 0,.ms id 0 0 (L.length+1) (L.length+1) 2 true,.i6 (i:Int),.ptr ph 0 0,.bool (if L[i].kid (nf j)=0 then q else if q.1=false\/Df nf E L[i] j<bo q.2 then (true,DC nf E L[i] j)else q).1,.i6 ((j+1:Nat):Int)] Hd) /\
   Hd[pN]? = some (.cel 0 (Ge (nf 0) (nf 1)))/\Hd[pF]? = some (.cel 0 (Ge (nf 2) (nf 3)))/\Hd[id]? = some (.cel 0 (flat cBO (E.set (i+1) (if L[i].kid (nf j)=0 then q else if q.1=false\/Df nf E L[i] j<bo q.2 then (true,DC nf E L[i] j)else q).2)))/\Hd[ph]? = some (.cel 0 (A2 (2^(L[i].lv.toNat-1))))/\(∀k,k<H.length->Hd[k]? = H[k]?)/\H.length<=Hd.length:=by
 have hj':(j:Int)<4:=by omega
 have aN:=Au (show j<9223372036854775807 by omega);have cL:=Au (show i<9223372036854775807 by omega);have hm2:j%2<2:=Xz _ (by omega);have nF:(j:Int).tmod 2=((j%2:Nat):Int):=rfl;have hgt:decide ((j:Int)>1)=decide (1<j):=by rw[Wo];simp only[zXe];omega
 have sW:nf j=if 1<j then (if j%2=0 then nf 2 else nf 3)else (if j%2=0 then nf 0 else nf 1):=by
  match j,hj with
  | 0,_=>rfl
  | 1,_=>rfl
  | 2,_=>rfl
  | 3,_=>rfl
 have hz:A6 (some [(.bool false),(.sl [] .ti)]) []=some (.agg (cBO none)):=rfl;generalize hB:Hc++[Blk.cel 0 (cBO (IR L[i] j))]=B;have bN:B[pN]? = some (.cel 0 (Ge (nf 0) (nf 1))):=by rw[<-hB];exact A0 fN
 have bF:B[pF]? = some (.cel 0 (Ge (nf 2) (nf 3))):=by rw[<-hB];exact A0 fF
 have bR:B[id]? = some (.cel 0 (flat cBO (E.set (i+1) q.2))):=by rw[<-hB];exact A0 fR
 have bH:B[ph]? = some (.cel 0 (A2 (2^(L[i].lv.toNat-1)))):=by rw[<-hB];exact A0 fH
 have bM:B[Hc.length]? = some (.cel 0 (cBO (IR L[i] j))):=by rw[<-hB];exact Al
 have bold:∀k,k<H.length->B[k]? = H[k]? := λk hk=>by rw[<-hB,VR (by omega)];exact hold k hk
 have bl:B.length=Hc.length+1:=by rw[<-hB];simp
 suffices hs:∃Hd,(∀aA:LK,Sh.f5k H (λvs H1=>Sh.f1c H aA (ag vs 0) (ag vs 1) (ag vs 2) (ag vs 3) (ag vs 4) (ag vs 5) (ag vs 6) (ag vs 7) H1) (.sl (enL cNd L) tk) (.ptr pN 0 0) (.ptr pF 0 0) (.ms id 0 0 (L.length+1) (L.length+1) 2 true) (.i6 (i:Int)) (.ptr ph 0 0) (.bool q.1) (.i6 (j:Int)) (.i6 (nf j:Int)) (.ptr Hc.length 0 0) B=aA [.sl (enL cNd L) tk,.ptr pN 0 0,.ptr pF 0 0,.ms id 0 0 (L.length+1) (L.length+1) 2 true,.i6 (i:Int),.ptr ph 0 0,.bool (if L[i].kid (nf j)=0 then q else if q.1=false\/Df nf E L[i] j<bo q.2 then (true,DC nf E L[i] j)else q).1,.i6 ((j+1:Nat):Int)] Hd) /\
   Hd[pN]? = some (.cel 0 (Ge (nf 0) (nf 1)))/\Hd[pF]? = some (.cel 0 (Ge (nf 2) (nf 3)))/\Hd[id]? = some (.cel 0 (flat cBO (E.set (i+1) (if L[i].kid (nf j)=0 then q else if q.1=false\/Df nf E L[i] j<bo q.2 then (true,DC nf E L[i] j)else q).2)))/\Hd[ph]? = some (.cel 0 (A2 (2^(L[i].lv.toNat-1))))/\(∀k,k<H.length->Hd[k]? = H[k]?)/\H.length<=Hd.length by
  obtain⟨Hd,h1,h2⟩:=hs;refine⟨Hd,λrec1 aA=>?_,h2⟩;have hst:∀a:Option Int,Af 2 (.ptr Hc.length 0 0) (.agg (cBO a)) (Hc++[Blk.cel 0 (cBO none)])=some (Hc++[Blk.cel 0 (cBO a)]):=λa=>by rw[P3 (Al (B:=Hc)) rfl,Be]
  have iC:Az (some [.bool false,.sl [] .ti]) Hc=some (.ptr Hc.length 0 0,Hc++[.cel 0 (cBO none)]):=CD Hc;unfold Sh.f5l;simp only[GMw,hj',J6 (show (2:Int)≠0 by decide),nF,idx_arr hm2,VU,Wg,load_two fN hm2,hz,iC,hst,Aj,hgt];by_cases pG:1<j
  ·have hF:(Hc++[Blk.cel 0 (cBO none)])[pF]? = some (.cel 0 (Ge (nf 2) (nf 3))):=A0 fF;have hH:(Hc++[Blk.cel 0 (cBO none)])[ph]? = some (.cel 0 (A2 (2^(L[i].lv.toNat-1)))):=A0 fH;rw[if_pos pG]at sW;have mG:IR L[i] j=some (2^(L[i].lv.toNat-1)):=by unfold IR;rw[if_pos pG]
   simp only[GMw,pG,Aj,idx_arr hm2,VU,Wg,load_two hF hm2,AY hH];rw[big_BO];simp only[GMw,hst];rw[<-mG,hB,<-sW];exact h1 aA
  ·rw[if_neg pG]at sW;have mG:IR L[i] j=none:=by unfold IR;rw[if_neg pG]
   simp only[GMw,pG,Aj];rw[<-mG,hB,<-sW];exact h1 aA
 have sT:=gC j;have hEl:(E.set (i+1) q.2).length=L.length+1:=by simp[hE]
 by_cases eI:L[i].kid (nf j)=0
 ·refine⟨B,λaA=>?_,bN,bF,by rw[if_pos eI];exact bR,bH,bold,by omega⟩;unfold Sh.f5k;simp only[GMw,Ar,Ah,AE,VU,Nat.add_zero,Wg,Co,A1 hi,EP sT,Ez sT,eI,Aj,Sh.f1c,aN]
 ·-- the distance
  obtain⟨c,hc⟩:=WQ aV;have eM:(L[i].kid (nf j)).toNat=c:=by omega
  rw[eM]at cG;generalize hD:B++[Blk.cel 0 (cBO (DC nf E L[i] j))]=D;have dn:D[pN]? = some (.cel 0 (Ge (nf 0) (nf 1))):=by rw[<-hD];exact A0 bN
  have df:D[pF]? = some (.cel 0 (Ge (nf 2) (nf 3))):=by rw[<-hD];exact A0 bF
  have dr:D[id]? = some (.cel 0 (flat cBO (E.set (i+1) q.2))):=by rw[<-hD];exact A0 bR
  have dh:D[ph]? = some (.cel 0 (A2 (2^(L[i].lv.toNat-1)))):=by rw[<-hD];exact A0 bH
  have dd:D[B.length]? = some (.cel 0 (cBO (DC nf E L[i] j))):=by rw[<-hD];exact Al
  have dold:∀k,k<H.length->D[k]? = H[k]? := λk hk=>by rw[<-hD,VR (by omega)];exact bold k hk
  have dl:D.length=B.length+1:=by rw[<-hD];simp
  have lM:=(VP.1 dr).1;have iF:=CL (sz:=2) (id:=id) (n:=L.length+1) (K:=.i64) (g:=0) (off:=0) (cap:=L.length+1) (ex:=true) (i:=i+1) (by omega);rw[VU]at iF;have nQ:=load_elA (f:=cBO) (sz:=2) (Aw dr) (i:=i+1) (by omega);rw[Y9]at nQ;have mW:=DS (f:=cBO) (sz:=2) (l:=E.set (i+1) q.2) (i:=i+1) (a:=DC nf E L[i] j) (v:=.agg (cBO (DC nf E L[i] j))) (Aw dr) (by omega) (TS _);rw[Bt dr,Y4]at mW;have hJ':LB (bo (DC nf E L[i] j)):=by rw[Mz];exact hJ
  have dS:=λH=>cmpR (Rep.bo hJ') (Rep.bo hq) H;simp only[Mz]at dS;have h5:∃Hd,(∀aA:LK,Sh.f30 H (λvs H1=>Sh.f1c H aA (ag vs 0) (ag vs 1) (ag vs 2) (ag vs 3) (ag vs 4) (ag vs 5) (ag vs 6) (ag vs 7) H1) (.sl (enL cNd L) tk) (.ptr pN 0 0) (.ptr pF 0 0) (.ms id 0 0 (L.length+1) (L.length+1) 2 true) (.i6 (i:Int)) (.ptr ph 0 0) (.bool q.1) (.i6 (j:Int)) (.ptr B.length 0 0) D=aA [.sl (enL cNd L) tk,.ptr pN 0 0,.ptr pF 0 0,.ms id 0 0 (L.length+1) (L.length+1) 2 true,.i6 (i:Int),.ptr ph 0 0,.bool (if q.1=false\/Df nf E L[i] j<bo q.2 then (true,DC nf E L[i] j)else q).1,.i6 ((j+1:Nat):Int)] Hd) /\
    Hd[pN]? = some (.cel 0 (Ge (nf 0) (nf 1)))/\Hd[pF]? = some (.cel 0 (Ge (nf 2) (nf 3)))/\Hd[id]? = some (.cel 0 (flat cBO (E.set (i+1) (if q.1=false\/Df nf E L[i] j<bo q.2 then (true,DC nf E L[i] j)else q).2)))/\Hd[ph]? = some (.cel 0 (A2 (2^(L[i].lv.toNat-1))))/\(∀k,k<H.length->Hd[k]? = H[k]?)/\H.length<=Hd.length:=by
   have put:(D.set id (.cel 0 (flat cBO (E.set (i+1) (DC nf E L[i] j)))))[pN]? = some (.cel 0 (Ge (nf 0) (nf 1)))/\(D.set id (.cel 0 (flat cBO (E.set (i+1) (DC nf E L[i] j)))))[pF]? = some (.cel 0 (Ge (nf 2) (nf 3)))/\(D.set id (.cel 0 (flat cBO (E.set (i+1) (DC nf E L[i] j)))))[id]? = some (.cel 0 (flat cBO (E.set (i+1) (DC nf E L[i] j))))/\(D.set id (.cel 0 (flat cBO (E.set (i+1) (DC nf E L[i] j)))))[ph]? = some (.cel 0 (A2 (2^(L[i].lv.toNat-1))))/\(∀k,k<H.length->(D.set id (.cel 0 (flat cBO (E.set (i+1) (DC nf E L[i] j)))))[k]? = H[k]?)/\H.length<=(D.set id (.cel 0 (flat cBO (E.set (i+1) (DC nf E L[i] j))))).length:=
    ⟨by rw[VT dN.symm];exact dn,by rw[VT dF.symm];exact df,by rw[Wf lM],by rw[VT dH.symm];exact dh,λk hk=>by rw[VT (by omega)];exact dold k hk,by simp;omega⟩
   cases jJ:q.1 with
   | false=>
    rw[if_pos (Or.inl rfl)];refine⟨_,λaA=>?_,put⟩;unfold Sh.f30;simp only[GMw,GH dd,cL,iF,mW,Aj,Sh.f1c,aN]
   | true=>
    by_cases hlt:Df nf E L[i] j<bo q.2
    ·rw[if_pos (Or.inr hlt)];refine⟨_,λaA=>?_,put⟩;unfold Sh.f30;simp only[GMw,GH dd,cL,iF,nQ,dS,Ga,hlt,mW,Aj,Sh.f1c,aN]
    ·rw[if_neg (by intro h;rcases h with h | h;cases h;exact hlt h)];refine⟨D,λaA=>?_,dn,df,dr,dh,dold,by omega⟩;unfold Sh.f30;simp only[GMw,GH dd,cL,iF,nQ,dS,Ga,hlt,Aj,Sh.f1c,aN,jJ]
  rw[if_neg eI];obtain⟨Hd,g1,g2⟩:=h5;refine⟨Hd,λaA=>?_,g2⟩;have iT:¬(c:Int)=0:=by rw[<-hc];exact eI
  have hst:∀a:Option Int,∀cs:Option Int,Af 2 (.ptr B.length 0 0) (.agg (cBO a)) (B++[Blk.cel 0 (cBO cs)])=some (B++[Blk.cel 0 (cBO a)]):=λa cs=>by rw[P3 (Al (B:=B)) (by cases cs <;> rfl),Be]
  have iC:Az (some [.bool false,.sl [] .ti]) B=some (.ptr B.length 0 0,B++[.cel 0 (cBO none)]):=CD B;unfold Sh.f5k;simp only[GMw,Ar,Ah,AE,VU,Nat.add_zero,Wg,Co,A1 hi,EP sT,Ez sT,hc,iT,GH bM,iC,hst,Aj];by_cases h1:1<L[i].lv
  ·have dA:L[i].lv>1:=h1;obtain⟨i1,i2,i3⟩:=cG h1;have hB1M:(B++[Blk.cel 0 (cBO (IR L[i] j))])[Hc.length]? = some (.cel 0 (cBO (IR L[i] j))):=A0 bM;have hB1R:(B++[Blk.cel 0 (cBO (IR L[i] j))])[id]? = some (.cel 0 (flat cBO (E.set (i+1) q.2))):=A0 bR;have mC:=CL (sz:=2) (id:=id) (n:=L.length+1) (K:=.i64) (g:=0) (off:=0) (cap:=L.length+1) (ex:=true) (i:=c) (by omega);rw[VU]at mC;have qX:=load_elA (f:=cBO) (sz:=2) (Aw hB1R) (i:=c) (by omega);rw[List.getElem_set_ne (by omega)]at qX;have eQ:E.getD c none=E[c]:=by rw[VW,VO i1];rfl
   rw[eQ]at i3;have uU:LB (bo (IR L[i] j)):=by
    unfold IR;split
    ·exact (EM (by omega)).lb (by decide)
    ·exact LB_zero
   have dK:=λH=>addR (Rep.bo uU) (Rep.bo i3) H;have gM:bo (IR L[i] j)+bo E[c]=Df nf E L[i] j:=by
    unfold Df IR;rw[if_pos h1,eM,eQ];split <;> rfl
   have hDd:DC nf E L[i] j=some (Df nf E L[i] j):=by unfold DC;rw[if_pos h1]
   simp only[GMw,dA,GH hB1M,mC,qX,dK,gM];rw[big_BO,<-hDd];simp only[GMw,hst,hD,Aj];exact g1 aA
  ·have dA:¬L[i].lv>1:=h1;have hDd:DC nf E L[i] j=IR L[i] j:=by unfold DC IR;rw[if_neg h1]
   simp only[GMw,dA,Aj];rw[<-hDd,hD];exact g1 aA
theorem Mr {z:Int}{v:Nat}(h0:0<=z)(h:z<2^v)(hv:v<=1400):LB z:=by
 have h1:=EM hv;have h2:=Jl v;unfold SB at h1;refine LB.of (k:=44) (WI ?_ h1) (by decide);generalize (2:Int)^v=p at *;omega
theorem MZ {nf:Nat->Nat}(gC:∀j,nf j<4)(L:List Nd)(tk:Tok)(H:Aa)(hL:L.length<549755813888)(hl:AB L=true) :
  Sh.f1d (.sl (enL cNd L) tk) (.agg (Ge (nf 0) (nf 1))) (.agg (Ge (nf 2) (nf 3))) H=some (.ret (.sl (enL cBO (BX nf L)) .no),H):=by
 unfold Sh.f1d;have cX:=Fz (f:=cBO) (a:=none) (n:=L.length+1) (bytes:=32) (H:=H++[Blk.cel 0 (Ge (nf 0) (nf 1))]++[Blk.cel 0 (Ge (nf 2) (nf 3))]) (by omega) (by omega);simp only[show cBO none=[Ab.bool false,.sl [] .ti] from rfl]at cX;simp only[GMw,boxTwo,Ax,Au (show L.length<9223372036854775807 by omega),cX];have l1:(H++[Blk.cel 0 (Ge (nf 0) (nf 1))]).length=H.length+1:=by simp
 have l2:(H++[Blk.cel 0 (Ge (nf 0) (nf 1))]++[Blk.cel 0 (Ge (nf 2) (nf 3))]).length=H.length+2:=by simp
 rw[l1,l2];have loop:=GG (G:=λrec1 vs Hc=>Sh.f5m H rec1 (ag vs 0) (ag vs 1) (ag vs 2) (ag vs 3) (ag vs 4) Hc) L.length
  (λi vs Hc=>vs=[.sl (enL cNd L) tk,.ptr H.length 0 0,.ptr (H.length+1) 0 0,.ms (H.length+2) 0 0 (L.length+1) (L.length+1) 2 true,.i6 (i:Int)]/\Hc[H.length]? = some (.cel 0 (Ge (nf 0) (nf 1)))/\Hc[H.length+1]? = some (.cel 0 (Ge (nf 2) (nf 3)))/\Hc[H.length+2]? = some (.cel 0 (flat cBO (BX nf (L.take i)++List.replicate (L.length-i) none)))/\(∀k,k<H.length->Hc[k]? = H[k]?)/\H.length+3<=Hc.length)
  (by omega) (λi vs Hc hi hI=>?_) (vs:=[.sl (enL cNd L) tk,.ptr H.length 0 0,.ptr (H.length+1) 0 0,.ms (H.length+2) 0 0 (L.length+1) (L.length+1) 2 true,.i6 0])
  (H:=H++[Blk.cel 0 (Ge (nf 0) (nf 1))]++[Blk.cel 0 (Ge (nf 2) (nf 3))]++[Blk.cel 0 (flat cBO (List.replicate (L.length+1) none))])
  ⟨rfl,by simp,by simp,by simp[BX,zXm],λk hk=>by rw[VZ,VZ,VR hk],by simp⟩
 ·obtain⟨vs',Hc,⟨rfl,f1,f2,f3,f4,f5⟩,rec,aB⟩:=loop;rw[aB];unfold Sh.f5m;rw[Wd (VV _),WB,List.replicate_zero,Wx]at f3;have eA:=fall_ms (f:=cBO) (b:=H.length) (d:=5) (cap:=L.length+1) (ex:=true) (Aw f3) (by omega);rw[F7]at eA;simp only[GMw,Aj,Ax,WL,GD (C0 f4),eA,zXb]
 ·obtain⟨rfl,f1,f2,f3,f4,f5⟩:=hI;have aD:(i:Int)<(L.length:Int):=by omega
  have cL:=Au (show i<9223372036854775807 by omega);obtain⟨v1,v2,v3⟩:=AO hl hi;have hw:IntKind.i64.wrap (L[i].lv-1)=((L[i].lv.toNat-1:Nat):Int):=by rw[Ao] <;> omega
  have bX:=λH=>Iv (L[i].lv.toNat-1) H (by omega);have hEB:=edgeL_b gC hl i (by omega);have hlen:(BX nf (L.take i)).length=i+1:=by rw[F7];simp;omega
  have s1:Af 2 (.ptr Hc.length 0 0) (big (2^(L[i].lv.toNat-1))) (Hc++[.cel 0 [.bool false,.sl [] .ti]])=some (Hc++[.cel 0 (A2 (2^(L[i].lv.toNat-1)))]):=by rw[BK (Al (B:=Hc)) rfl,Be]
  generalize hE:BX nf (L.take i)++List.replicate (L.length-i) none=E at f3;have hEl:E.length=L.length+1:=by rw[<-hE];simp[hlen];omega
  have mK:∀c,c<=i->E.getD c none=(BX nf (L.take i)).getD c none:=λc hc=>by
   rw[<-hE,VW,VW,VR (by omega)]
  have eH:∀j,1<L[i].lv->(L[i].kid (nf j)).toNat<=i:=λj h1=>by
   obtain⟨q1,q2,q3⟩:=v3 (nf j) (gC j);by_cases hc:0<L[i].kid (nf j)
   ·have:=(q3 h1 hc).1;omega
   ·omega
  have hJeq:∀j,Df nf E L[i] j=Df nf (BX nf (L.take i)) L[i] j:=λj=>by
   unfold Df;by_cases h1:1<L[i].lv
   ·rw[if_pos h1,if_pos h1,mK _ (eH j h1)]
   ·rw[if_neg h1,if_neg h1]
  have hDeq:∀j,DC nf E L[i] j=DC nf (BX nf (L.take i)) L[i] j:=λj=>by unfold DC;rw[hJeq]
  have hKeq:∀j,CN nf E L[i] j=CN nf (BX nf (L.take i)) L[i] j:=λj=>by
   induction j with
   | zero=>rfl
   | succ j ih=>unfold CN;rw[ih,hJeq,hDeq]
  have hJb:∀j,0<=Df nf E L[i] j/\Df nf E L[i] j<2^L[i].lv.toNat:=λj=>by rw[hJeq];exact edgeJ_b v1 (Ty gC hl hi hEB j)
  have hJl:∀j,LB (Df nf E L[i] j):=λj=>Mr (hJb j).1 (hJb j).2 (by omega);have hKl:∀j,j<=4->LB (bo (CN nf E L[i] j).2):=λj hj=>by
   have:=RQ (λj _=>hJb j) j hj;exact Mr this.1 this.2 (by omega)
  have pW:List.replicate (L.length-i) (none:Option Int)=none::List.replicate (L.length-(i+1)) none:=by rw[show L.length-i=(L.length-(i+1))+1 from by omega,zXm]
  have aI:∀o:Option Int,E.set (i+1) o=BX nf (L.take i)++o::List.replicate (L.length-(i+1)) none:=λo=>by
   rw[<-hE,pW,W5 _ _ (by omega),hlen,WB,List.set_cons_zero]
  have pQ:E.set (i+1) (CN nf E L[i] 0).2=E:=by rw[aI];show BX nf (L.take i)++none::_=E;rw[<-pW,hE]
  have turn:=λ(j:Nat) (hj:j<4) (Hd:Aa)=>edge_turn gC tk H Hd E i j H.length (H.length+1) (H.length+2) Hc.length hi hj hL hEl ⟨v1,v2⟩ (v3 (nf j) (gC j)).1 (λh1=>⟨by have:=eH j h1;omega,by have:=eH j h1;omega,by
    rw[mK _ (eH j h1)];have:=Ty gC hl hi hEB j h1;exact Mr this.1 this.2 (by omega)⟩) (hJl j) (CN nf E L[i] j) (hKl j (by omega)) ⟨by omega,by omega,by omega,by omega⟩ (by omega) (by omega) (by omega)
  have next:∀j,(if L[i].kid (nf j)=0 then CN nf E L[i] j else if (CN nf E L[i] j).1=false\/Df nf E L[i] j<bo (CN nf E L[i] j).2 then (true,DC nf E L[i] j)else CN nf E L[i] j)=CN nf E L[i] (j+1):=λj=>rfl
  simp only[next]at turn;obtain⟨H1,t1,a1,b1,c1,d1,e1,g1⟩:=turn 0 (by omega) (Hc++[Blk.cel 0 (A2 (2^(L[i].lv.toNat-1)))]) (A0 f1) (A0 f2) (by rw[pQ];exact A0 f3) Al (λk hk=>by rw[VR (by omega)];exact f4 k hk) (by simp;omega);obtain⟨H2,t2,a2,b2,c2,d2,e2,g2⟩:=turn 1 (by omega) H1 a1 b1 c1 d1 e1 g1;obtain⟨H3,t3,a3,b3,c3,d3,e3,g3⟩:=turn 2 (by omega) H2 a2 b2 c2 d2 e2 g2;obtain⟨H4,t4,a4,b4,c4,d4,e4,g4⟩:=turn 3 (by omega) H3 a3 b3 c3 d3 e3 g3;have lM:=(VP.1 c4).1;refine⟨[.sl (enL cNd L) tk,.ptr H.length 0 0,.ptr (H.length+1) 0 0,.ms (H.length+2) 0 0 (L.length+1) (L.length+1) 2 true,.i6 ((i+1:Nat):Int)],H4,⟨rfl,a4,b4,?_,e4,by omega⟩,λrec=>?_⟩
  ·rw[c4,HC nf L hi,aI,<-hKeq];simp
  ·unfold Sh.f5m;simp only[GMw,Ar,Ah,AE,VU,Nat.add_zero,Wg,Co,Aj,Ax,aD,A1 hi,hw,bX,CD,s1];obtain⟨n,hn⟩:=fuel_succ 5 (by decide);have hf:¬(((3+1:Nat):Int)<4):=by decide
   rw[hn,show n+5=(((n+1)+1)+1+1)+1 from rfl,CF];simp only[Am,Aj];refine (t1 rec _).trans ?_;rw[CF];simp only[Am,Aj];refine (t2 rec _).trans ?_;rw[CF];simp only[Am,Aj];refine (t3 rec _).trans ?_;rw[CF];simp only[Am,Aj];refine (t4 rec _).trans ?_;rw[CF];unfold Sh.f5l;simp only[GMw,Aj,hf,cL]
def I9 (x y w h:Int):List Ab:=A2 x++A2 y++A2 w++A2 h
def Q9 (x y w h:Int):Ab:=.agg (I9 x y w h)
def Hb:List Ab:=[.bool false,.sl [] .ti,.bool false,.sl [] .ti,.bool false,.sl [] .ti,.bool false,.sl [] .ti]
def nfW (j:Nat):Nat:=match j with | 0=>0 | 1=>2 | 2=>1 | _=>3
def nfE (j:Nat):Nat:=match j with | 0=>1 | 1=>3 | 2=>0 | _=>2
def nfN (j:Nat):Nat:=match j with | 0=>0 | 1=>1 | 2=>2 | _=>3
def nfS (j:Nat):Nat:=match j with | 0=>2 | 1=>3 | 2=>0 | _=>1
def G6 (nf:Nat->Nat)(L:List Nd):Option Int:=(BX nf L).getD L.length none
def bxX (L:List Nd):Int:=-(2^((Bn L).toNat-1))+bo (G6 nfW L)
def bxY (L:List Nd):Int:=-(2^((Bn L).toNat-1))+bo (G6 nfN L)
def bxW (L:List Nd):Int:=2^(Bn L).toNat-(bo (G6 nfW L)+bo (G6 nfE L))
def bxH (L:List Nd):Int:=2^(Bn L).toNat-(bo (G6 nfN L)+bo (G6 nfS L))
theorem Ml (j:Nat):nfW j<4:=by unfold nfW;split <;> omega
theorem PI (j:Nat):nfE j<4:=by unfold nfE;split <;> omega
theorem Mm (j:Nat):nfN j<4:=by unfold nfN;split <;> omega
theorem PH (j:Nat):nfS j<4:=by unfold nfS;split <;> omega
theorem build_two (a b:Nat):A6 (some [.i6 0,.i6 0]) [(0,1,.i6 (a:Int)),(1,1,.i6 (b:Int))]=some (.agg (Ge a b)):=by
 simp[A6,Gy,CZ,Ge]
theorem HA {nf:Nat->Nat}(gC:∀j,nf j<4){L:List Nd}(hl:AB L=true)(h0:0<L.length):0<=bo (G6 nf L)/\bo (G6 nf L)<2^(Bn L).toNat:=by
 have hb:=edgeL_b gC hl L.length (VV _);rw[Wd (VV _)]at hb;have hm:L.length-1<L.length:=by omega
 have hlt:L.length<(BX nf L).length:=by rw[F7];omega
 have:=hb (L.length-1) L[L.length-1] (BX nf L)[L.length] (VO hm) (by rw[show L.length-1+1=L.length from by omega];exact VO hlt);have ht:Bn L=L[L.length-1].lv:=by unfold Bn;rw[Em (n:=L.length-1) (by omega) hm]
 unfold G6;rw[VW,VO hlt,ht];exact this
theorem Jq (B:Aa)(o:Option Int):Af 2 (.ptr B.length 0 0) (.agg (cBO o)) (B++[Blk.cel 0 [.bool false,.sl [] .ti]])=some (B++[Blk.cel 0 (cBO o)]):=by
 rw[P3 (Al (B:=B) (cs:=[.bool false,.sl [] .ti])) rfl,Be]
theorem Nh {nf:Nat->Nat}(L:List Nd)(H:Aa)(k:Ab->Out):((Av 2 (.sl (enL cBO (BX nf L)) .no) (.i6 (L.length:Int))).bind λx20=>(Ac true 2 x20 H).bind k)=k (.agg (cBO (G6 nf L))):=by
 have hlt:L.length<(BX nf L).length:=by rw[F7];omega
 rw[A1 hlt];unfold G6;rw[VW,VO hlt];cases (BX nf L)[L.length] <;> rfl
theorem RP {nf:Nat->Nat}(gC:∀j,nf j<4){L:List Nd}(hl:AB L=true)(h0:0<L.length):LB (bo (G6 nf L)):=by
 have:=HA gC hl h0;have hle:=OB hl h0 (VV _);exact Mr this.1 this.2 (Wu hle (by omega))
theorem q09_of (L:List Nd)(H:Aa)(hL:L.length<549755813888)(hl:AB L=true)(h0:L≠[]) :
  Sh.f1e (CY L) H=some (.ret (.tup [Q9 (bxX L) (bxY L) (bxW L) (bxH L),.bool true]),H):=by
 have hlen:0<L.length:=Wy.2 h0;have hl0:¬((L.length:Int)=0):=by omega
 have hLv:Lv L (Bn L).toNat L.length:=⟨VV _,.inr rfl⟩;obtain⟨dL,hn2⟩:=hLv.num hlen hl;have eZ:Bn L=((Bn L).toNat:Int):=dL;have hle:(Bn L).toNat<=1329:=OB hl hlen (VV _);have bW:=RP Ml hl hlen;have bE:=RP PI hl hlen;have bN:=RP Mm hl hlen;have bS:=RP PH hl hlen;have kW:=λH=>MZ Ml L .no H hL hl;have kE:=λH=>MZ PI L .no H hL hl;have kN:=λH=>MZ Mm L .no H hL hl;have kS:=λH=>MZ PH L .no H hL hl;simp only[nfW,nfE,nfN,nfS]at kW kE kN kS;have lvl:=λH=>UW L .no H (show L.length<17592186044415 by omega);rw[<-quad_eq]at lvl;simp only[if_neg h0]at lvl;unfold Sh.f1e;have yI:Az (some [(.bool false),(.sl [] .ti),(.bool false),(.sl [] .ti),(.bool false),(.sl [] .ti),(.bool false),(.sl [] .ti)]) (H++[Blk.cel 0 (Bj L)])=some (.ptr (H++[Blk.cel 0 (Bj L)]).length 0 0,H++[Blk.cel 0 (Bj L)]++[.cel 0 Hb]):=alloc_eq rfl;simp only[GMw,boxQ,yI];generalize h2:H++[Blk.cel 0 (Bj L)]++[Blk.cel 0 Hb]=H2;generalize h1:(H++[Blk.cel 0 (Bj L)]).length=p1;have n2:Ac false 1 (.ptr H.length 0 0) H2=some (.sl (enL cNd L) .no):=Fa (by rw[<-h2];simp);have q2:Ac true 1 (.ptr H.length 0 0) H2=some (CY L):=Ni (by rw[<-h2];simp);have z2:H2[p1]? = some (.cel 0 Hb):=by rw[<-h2,<-h1];exact Al
 have o2:∀k,k<H.length->H2[k]? = H[k]? := λk hk=>by rw[<-h2,VZ,VR hk]
 have p1l:H.length<p1:=by rw[<-h1];simp
 have tw:=λ(a b:Nat)=>build_two a b;have t02:=tw 0 2;have t13:=tw 1 3;have t01:=tw 0 1;have t23:=tw 2 3;simp only[show ((0:Nat):Int)=0 from rfl,show ((1:Nat):Int)=1 from rfl,show ((2:Nat):Int)=2 from rfl,show ((3:Nat):Int)=3 from rfl]at t02 t13 t01 t23;simp only[GMw,Ah,VU,Nat.add_zero,n2,Ax,hl0,t02,t13,t01,t23,kW];rw[Nh];simp only[GMw,CD,Jq];generalize h3:H2++[Blk.cel 0 (cBO (G6 nfW L))]=H3;have n3:Ac false 1 (.ptr H.length 0 0) H3=some (.sl (enL cNd L) .no):=by rw[<-h3];exact B2 n2
 have w3:Ac true 2 (.ptr H2.length 0 0) H3=some (.agg (cBO (G6 nfW L))):=by rw[<-h3];exact GH Al
 simp only[GMw,Ah,VU,Nat.add_zero,n3,t02,t13,t01,t23,kE];rw[Nh];simp only[GMw,CD,Jq];generalize h4:H3++[Blk.cel 0 (cBO (G6 nfE L))]=H4;have n4:Ac false 1 (.ptr H.length 0 0) H4=some (.sl (enL cNd L) .no):=by rw[<-h4];exact B2 n3
 have e4:Ac true 2 (.ptr H3.length 0 0) H4=some (.agg (cBO (G6 nfE L))):=by rw[<-h4];exact GH Al
 simp only[GMw,Ah,VU,Nat.add_zero,n4,t02,t13,t01,t23,kN];rw[Nh];simp only[GMw,CD,Jq];generalize h5:H4++[Blk.cel 0 (cBO (G6 nfN L))]=H5;have n5:Ac false 1 (.ptr H.length 0 0) H5=some (.sl (enL cNd L) .no):=by rw[<-h5];exact B2 n4
 have d5:Ac true 2 (.ptr H4.length 0 0) H5=some (.agg (cBO (G6 nfN L))):=by rw[<-h5];exact GH Al
 simp only[GMw,Ah,VU,Nat.add_zero,n5,t02,t13,t01,t23,kS];rw[Nh];simp only[GMw,CD,Jq];generalize h6:H5++[Blk.cel 0 (cBO (G6 nfS L))]=H6;have q6:Ac true 1 (.ptr H.length 0 0) H6=some (CY L):=by rw[<-h6,<-h5,<-h4,<-h3];exact B2 (B2 (B2 (B2 q2)))
 have s6:Ac true 2 (.ptr H5.length 0 0) H6=some (.agg (cBO (G6 nfS L))):=by rw[<-h6];exact GH Al
 have w6:Ac true 2 (.ptr H2.length 0 0) H6=some (.agg (cBO (G6 nfW L))):=by rw[<-h6,<-h5,<-h4];exact B2 (B2 (B2 w3))
 have e6:Ac true 2 (.ptr H3.length 0 0) H6=some (.agg (cBO (G6 nfE L))):=by rw[<-h6,<-h5];exact B2 (B2 e4)
 have d6:Ac true 2 (.ptr H4.length 0 0) H6=some (.agg (cBO (G6 nfN L))):=by rw[<-h6];exact B2 d5
 have z6:H6[p1]? = some (.cel 0 Hb):=by rw[<-h6,<-h5,<-h4,<-h3];exact A0 (A0 (A0 (A0 z2)))
 have o6:∀k,k<H.length->H6[k]? = H[k]? := λk hk=>by
  have hk2:k<H2.length:=by rw[<-h2];simp;omega
  rw[<-h6,<-h5,<-h4,<-h3,VZ,VZ,VZ,VR hk2];exact o2 k hk
 unfold bxX bxY bxW bxH;generalize hv:(Bn L).toNat=v at *;have uF:=λH=>Iv v H (by omega);have uE:=λH=>Iv (v-1) H (by omega);have hw:IntKind.i64.wrap ((v:Int)-1)=((v-1:Nat):Int):=Hp (by omega) (by omega);have sb1:=(EM (show v<=1400 by omega)).lb (show 44<=549755813888 by decide);have sb2:=(EM (show v-1<=1400 by omega)).lb (show 44<=549755813888 by decide);have gP:=λH=>IP (2^(v-1)) H sb2;have lB:(H6++[Blk.cel 0 [Ab.bool false,.sl [] .ti]]).length=H6.length+1:=by simp
 have s0:=λ(z:Int) (c:List Ab)=>st0 (Hc:=H6) (a:=[.bool false,.sl [] .ti]) (c:=c) (z:=z) rfl;have s1:=λ(z:Int) (a:List Ab)=>st1 (Hc:=H6) (a:=a) (c:=[.bool false,.sl [] .ti]) (z:=z) rfl;rw[eZ]at lvl;simp only[GMw,q6,lvl,uF,hw,uE,gP,CD,lB,s0,s1];generalize h8:H6++[Blk.cel 0 (A2 (2^v))]++[Blk.cel 0 (A2 (-(2^(v-1))))]=H8;have c8:Ac true 2 (.ptr (H6.length+1) 0 0) H8=some (big (-(2^(v-1)))):=AY (by rw[<-h8];simp);have g8:Ac true 2 (.ptr H6.length 0 0) H8=some (big (2^v)):=AY (by rw[<-h8];simp);have w8:Ac true 2 (.ptr H2.length 0 0) H8=some (.agg (cBO (G6 nfW L))):=by rw[<-h8];exact B2 (B2 w6)
 have e8:Ac true 2 (.ptr H3.length 0 0) H8=some (.agg (cBO (G6 nfE L))):=by rw[<-h8];exact B2 (B2 e6)
 have d8:Ac true 2 (.ptr H4.length 0 0) H8=some (.agg (cBO (G6 nfN L))):=by rw[<-h8];exact B2 (B2 d6)
 have s8:Ac true 2 (.ptr H5.length 0 0) H8=some (.agg (cBO (G6 nfS L))):=by rw[<-h8];exact B2 (B2 s6)
 have z8:H8[p1]? = some (.cel 0 Hb):=by rw[<-h8];exact A0 (A0 z6)
 have o8:∀k,k<H.length->H8[k]? = H[k]? := λk hk=>by
  have zO:k<H6.length:=by
   have:=(VP.1 z6).1;omega
  rw[<-h8,VZ,VR zO];exact o6 k hk
 have rW:=Rep.bo bW;have rE:=Rep.bo bE;have rN:=Rep.bo bN;have rS:=Rep.bo bS;have rC:=Rep.big sb2.neg;have rG:=Rep.big sb1;have aX:=λH=>addR rC rW H;have aY:=λH=>addR rC rN H;have aWE:=λH=>addR rW rE H;have aNS:=λH=>addR rN rS H;simp only[TR]at aX aY;have sumlb:∀a b:Int,0<=a->a<2^v->0<=b->b<2^v->LB (a+b):=λa b yF yE gK gJ=>Mr (v:=v+1) (by omega) (by rw[Xv];omega) (by omega);have eW:=HA Ml hl hlen;have eE:=HA PI hl hlen;have eN:=HA Mm hl hlen;have eS:=HA PH hl hlen;rw[hv]at eW eE eN eS;have bW':=λH=>subR rG (Rep.big (sumlb _ _ eW.1 eW.2 eE.1 eE.2)) H;have bH':=λH=>subR rG (Rep.big (sumlb _ _ eN.1 eN.2 eS.1 eS.2)) H;simp only[TR]at bW' bH';simp only[GMw,c8,g8,w8,e8,d8,s8,and_true,eq_self,aX,aY,aWE,aNS,bW',bH'];have iK:∀x y w h:Int,A6 (some [(.bool false),(.sl [] .ti),(.bool false),(.sl [] .ti),(.bool false),(.sl [] .ti),(.bool false),(.sl [] .ti)]) [(0,2,big x),(2,2,big y),(4,2,big w),(6,2,big h)]=some (Q9 x y w h):=λx y w h=>by
  unfold Q9 I9;simp[A6,Gy,CZ,A2]
 have wI:∀x y w h:Int,(Q9 x y w h).acells=some (I9 x y w h):=λx y w h=>BV (by simp[I9,A2]);have uK:=(VP.1 z8).1;have hst:∀x y w h:Int,Af 8 (.ptr p1 0 0) (Q9 x y w h) H8=some (H8.set p1 (.cel 0 (I9 x y w h))):=λx y w h=>by
  simp only[Af,Aw z8,zXa,wI,Bt z8,Dq (cs:=Hb) (sz:=8) rfl];rw[if_pos ⟨rfl,by decide⟩]
 have hld:∀x y w h:Int,Ac true 8 (.ptr p1 0 0) (H8.set p1 (.cel 0 (I9 x y w h)))=some (Q9 x y w h):=λx y w h=>by
  have:(H8.set p1 (.cel 0 (I9 x y w h)))[p1]? = some (.cel 0 (I9 x y w h)):=by rw[Wf uK]
  simp only[Ac,Aw this,zXa];rfl
 have htk:∀x y w h:Int,(H8.set p1 (.cel 0 (I9 x y w h))).take H.length=H:=λx y w h=>C0 λk hk=>by
  rw[VT (by omega)];exact o8 k hk
 have zT:∀(x y w h:Int) (H':Aa) (n d:Nat),Fg H' n (d+3) (Q9 x y w h)=some (Q9 x y w h):=λx y w h H' n d=>by
  unfold Q9 I9 A2;simp
 simp only[iK,GMw,hst,hld,EN,CU,D6,zXb,GD (htk _ _ _ _),Ci,Bu,B6,zT,Ff]
def bx (L:List Nd)(f:List Nd->Int):Int:=if L=[]then 0 else f L
theorem TK (x y w h:Int):(Q9 x y w h).acells=some (I9 x y w h):=BV (by simp[I9,A2])
theorem Oi (H:Aa):Az (some [(.bool false),(.sl [] .ti),(.bool false),(.sl [] .ti),(.bool false),(.sl [] .ti),(.bool false),(.sl [] .ti)]) H=some (.ptr H.length 0 0,H++[.cel 0 Hb]):=alloc_eq rfl
theorem q09_ofB (L:List Nd)(H:Aa)(hL:L.length<549755813888)(hl:AB L=true) :
  Sh.f1e (CY L) H=some (.ret (.tup [Q9 (bx L bxX) (bx L bxY) (bx L bxW) (bx L bxH),.bool (decide (L≠[]))]),H):=by
 unfold bx;by_cases h0:L=[]
 ·subst h0;unfold Sh.f1e;have n2:Ac false 1 (.ptr H.length 0 0) (H++[Blk.cel 0 (Bj [])]++[Blk.cel 0 Hb])=some (.sl (enL cNd []) .no):=Fa (by simp);have hb:A6 (some [(.bool false),(.sl [] .ti),(.bool false),(.sl [] .ti),(.bool false),(.sl [] .ti),(.bool false),(.sl [] .ti)]) []=some (.agg Hb):=rfl;have hst:Af 8 (.ptr (H++[Blk.cel 0 (Bj [])]).length 0 0) (.agg Hb) (H++[Blk.cel 0 (Bj [])]++[Blk.cel 0 Hb])=some (H++[Blk.cel 0 (Bj [])]++[Blk.cel 0 Hb]):=by
   have hz:(H++[Blk.cel 0 (Bj [])]++[Blk.cel 0 Hb])[(H++[Blk.cel 0 (Bj [])]).length]? = some (.cel 0 Hb):=Al;simp only[Af,Aw hz,zXa,Bt hz,BV (cs:=Hb) rfl,Dq (cs:=Hb) (sz:=8) rfl,Be]
   rfl
  have hld:Ac true 8 (.ptr (H++[Blk.cel 0 (Bj [])]).length 0 0) (H++[Blk.cel 0 (Bj [])]++[Blk.cel 0 Hb])=some (.agg Hb):=by
   simp only[Ac,Aw (Al (cs:=Hb)),zXa];rfl
  simp only[GMw,boxQ,Oi,Ah,VU,n2,Ax,zXk,show ((0:Nat):Int)=0 from rfl,hb,hst,hld,EN,CU,D6,zXb];rw[VZ];simp only[Cw,Ci,Bu,B6,F5,Hb,DB,Ew,KP,GL,Ff,BH,zXb]
  rfl
 ·rw[q09_of L H hL hl h0];simp only[if_false,ne_eq,h0,not_false_eq_true,decide_true]
theorem bx_lb {L:List Nd}(hl:AB L=true):LB (bx L bxW)/\LB (bx L bxH):=by
 unfold bx;by_cases h0:L=[]
 ·rw[if_pos h0,if_pos h0];exact⟨LB_zero,LB_zero⟩
 ·rw[if_neg h0,if_neg h0];have hlen:0<L.length:=Wy.2 h0;have eW:=HA Ml hl hlen;have eE:=HA PI hl hlen;have eN:=HA Mm hl hlen;have eS:=HA PH hl hlen;have hle:(Bn L).toNat<=1329:=OB hl hlen (VV _);have key:∀a b:Int,0<=a->a<2^(Bn L).toNat->0<=b->b<2^(Bn L).toNat->LB (2^(Bn L).toNat-(a+b)):=λa b h1 h2 h3 h4=>by
   have hs:=EM (show (Bn L).toNat<=1400 by omega);have ha:=Jl (Bn L).toNat;unfold SB at hs;refine LB.of (k:=44) (WI ?_ hs) (by decide);generalize (2:Int)^(Bn L).toNat=p at *;omega
  exact⟨key _ _ eW.1 eW.2 eE.1 eE.2,key _ _ eN.1 eN.2 eS.1 eS.2⟩
def Ee (L:List Nd)(m:Int):Bool:=decide (bx L bxW<=m)&&decide (bx L bxH<=m)
theorem cmp_leq (a b:Int):decide (FH a b<=0)=decide (a<=b):=by
 unfold FH;rw[Wo];split
 ·simp;omega
 ·split
  ·simp;omega
  ·simp;omega
theorem LB_i64 {m:Int}(h0:-9223372036854775808<=m)(h1:m<=9223372036854775807):LB m:=LB.of (k:=3) (show m.natAbs<4294967296^3 by rw[show (4294967296:Nat)^3=79228162514264337593543950336 from by decide];omega) (by decide)
theorem S1 (L:List Nd)(m:Int)(H:Aa)(hL:L.length<549755813888)(hl:AB L=true)(h0:-9223372036854775808<=m)(h1:m<=9223372036854775807) :
  Sh.f32 (CY L) (.i6 m) H=some (.ret (.bool (Ee L m)),H):=by
 unfold Sh.f32 Ee;have q1:Ac true 1 (.ptr H.length 0 0) (H++[Blk.cel 0 (Bj L)])=some (CY L):=Ni Al;obtain⟨b1,b2⟩:=bx_lb hl;have lD:=λH=>q02_of m H h0 h1;have cW:=λH=>EX (bx L bxW) m H b1 (LB_i64 h0 h1);have cH:=λH=>EX (bx L bxH) m H b2 (LB_i64 h0 h1);simp only[GMw,boxQ,q1,q09_ofB L _ hL hl,B1,B8,Oi];generalize bx L bxX=x;generalize bx L bxY=y;generalize bx L bxW=w at *;generalize bx L bxH=h at *;generalize hB:H++[Blk.cel 0 (Bj L)]=B;have hst:Af 8 (.ptr B.length 0 0) (Q9 x y w h) (B++[Blk.cel 0 Hb])=some (B++[Blk.cel 0 (I9 x y w h)]):=by
  simp only[Af,Aw (Al (B:=B) (cs:=Hb)),zXa,TK,Bt (Al (B:=B) (cs:=Hb)),Dq (cs:=Hb) (sz:=8) rfl,Be]
  rfl
 have g4:Ac true 2 (.ptr B.length 0 4) (B++[Blk.cel 0 (I9 x y w h)])=some (big w):=by
  simp only[Ac,Aw (Al (B:=B)),zXa];rfl
 have g6:Ac true 2 (.ptr B.length 0 6) (B++[Blk.cel 0 (I9 x y w h)])=some (big h):=by
  simp only[Ac,Aw (Al (B:=B)),zXa];rfl
 have fin:∀q:Bool,rP H (.bool q) (B++[Blk.cel 0 (I9 x y w h)])=some (.ret (.bool q),H):=λq=>by rw[<-hB,VZ];exact Fw
 simp only[hst,GMw,lD,Ah,VU,g4,g6,and_true,eq_self,cW,cmp_leq];cases decide (w<=m)with
 | false=>simp only[GMw,OP,and_true,eq_self,fin]
 | true=>simp only[GMw,lD,Ah,VU,g6,RJ,and_true,eq_self,cH,cmp_leq,fin]
theorem Pc {nf:Nat->Nat}{E:List (Option Int)}{x:Nd}:∀(n:Nat),n<=4->∀j,j<n->x.kid (nf j)≠0->(CN nf E x n).1=true/\bo (CN nf E x n).2<=Df nf E x j
 | 0,_,j,h,_=>by omega
 | n+1,hn,j,h,hk=>by
  unfold CN;by_cases hj:j=n
  ·subst hj;rw[if_neg hk];by_cases hc:(CN nf E x j).1=false\/Df nf E x j<bo (CN nf E x j).2
   ·rw[if_pos hc];exact⟨rfl,by rw[Mz];exact Xq _⟩
   ·rw[if_neg hc];have h1:(CN nf E x j).1=true:=by
     cases hq:(CN nf E x j).1 with
     | true=>rfl
     | false=>exact absurd (.inl hq) hc
    have h2:¬Df nf E x j<bo (CN nf E x j).2:=λh=>hc (.inr h);exact⟨h1,by omega⟩
  ·obtain⟨i1,i2⟩:=Pc (nf:=nf) (E:=E) (x:=x) n (by omega) j (by omega) hk;by_cases h0:x.kid (nf n)=0
   ·rw[if_pos h0];exact⟨i1,i2⟩
   ·rw[if_neg h0];by_cases hc:(CN nf E x n).1=false\/Df nf E x n<bo (CN nf E x n).2
    ·rw[if_pos hc];refine⟨rfl,?_⟩;rw[Mz];rcases hc with hc | hc
     ·rw[i1]at hc;cases hc
     ·omega
    ·rw[if_neg hc];exact⟨i1,i2⟩
theorem Of {nf:Nat->Nat}{E:List (Option Int)}{x:Nd}:∀(n:Nat),(∀j,j<n->x.kid (nf j)=0)->CN nf E x n=(false,none)
 | 0,_=>rfl
 | n+1,h=>by
  unfold CN;rw[if_pos (h n (by omega))];exact Of n λj hj=>h j (by omega)
def Opp (nf nf':Nat->Nat):Prop:=(∀j,nf j<4)/\(∀j,nf' j<4)/\∀k,k<4->∃j1 j2,j1<4/\j2<4/\nf j1=k/\nf' j2=k/\(1<j1↔¬1<j2)
theorem oppWE:Opp nfW nfE:=⟨Ml,PI,λk hk=>by
 match k,hk with
 | 0,_=>exact⟨0,2,by decide,by decide,rfl,rfl,by decide⟩
 | 1,_=>exact⟨2,0,by decide,by decide,rfl,rfl,by decide⟩
 | 2,_=>exact⟨1,3,by decide,by decide,rfl,rfl,by decide⟩
 | 3,_=>exact⟨3,1,by decide,by decide,rfl,rfl,by decide⟩⟩
theorem oppNS:Opp nfN nfS:=⟨Mm,PH,λk hk=>by
 match k,hk with
 | 0,_=>exact⟨0,2,by decide,by decide,rfl,rfl,by decide⟩
 | 1,_=>exact⟨1,3,by decide,by decide,rfl,rfl,by decide⟩
 | 2,_=>exact⟨2,0,by decide,by decide,rfl,rfl,by decide⟩
 | 3,_=>exact⟨3,1,by decide,by decide,rfl,rfl,by decide⟩⟩
theorem edge_sum {nf nf':Nat->Nat}(ho:Opp nf nf'){L:List Nd}(hl:AB L=true):∀i,i<=L.length->∀m x,m<i->L[m]? = some x->bo ((BX nf (L.take i)).getD (m+1) none)+bo ((BX nf' (L.take i)).getD (m+1) none)<2^x.lv.toNat
 | 0,_,m,x,h,_=>by omega
 | i+1,h,m,x,hm,hx=>by
  have ih:=edge_sum ho hl i (by omega);have len:∀nf:Nat->Nat,(BX nf (L.take i)).length=i+1:=λnf=>by rw[F7];simp;omega
  rw[HC nf L h,HC nf' L h];by_cases qO:m<i
  ·rw[VW,VW,VR (by rw[len];omega),VR (by rw[len];omega),<-VW,<-VW];exact ih m x qO hx
  ·have e:m=i:=by omega
   subst e;rw[VO h]at hx;injection hx with hx;rw[VW,VW,Wt (by rw[len];omega),Wt (by rw[len];omega),len,len,WB];simp only[zXh,Option.getD_some];obtain⟨v1,v2,v3⟩:=AO hl h;rw[hx]at v1 v2 v3 ⊢;have hp:(0:Int)<2^(x.lv.toNat-1):=XA (by omega);have e2:(2:Int)^x.lv.toNat=2^(x.lv.toNat-1)*2:=by rw[<-Xv];congr 1;omega
   by_cases aE:∀k,k<4->x.kid k=0
   ·rw[Of 4 λj _=>aE _ (ho.1 j),Of 4 λj _=>aE _ (ho.2.1 j),e2];show (0:Int)+0<_;omega
   ·obtain⟨k,hk⟩:=Classical.not_forall.1 aE;obtain⟨bQ,nT⟩:=Classical.not_imp.1 hk;obtain⟨j1,j2,l1,l2,n1,n2,aF⟩:=ho.2.2 k bQ;have a1:=(Pc (nf:=nf) (E:=BX nf (L.take m)) (x:=x) 4 (VV _) j1 l1 (by rw[n1];exact nT)).2;have a2:=(Pc (nf:=nf') (E:=BX nf' (L.take m)) (x:=x) 4 (VV _) j2 l2 (by rw[n2];exact nT)).2;refine Int.lt_of_le_of_lt (Int.add_le_add a1 a2) ?_;unfold Df;rw[n1,n2,e2];have gM:(1<x.lv->bo ((BX nf (L.take m)).getD (x.kid k).toNat none)+bo ((BX nf' (L.take m)).getD (x.kid k).toNat none)<2^(x.lv.toNat-1)):=by
     intro h1;obtain⟨q1,q2,q3⟩:=v3 k bQ;obtain⟨r1,r2⟩:=q3 h1 (by omega);obtain⟨c,hc⟩:∃c:Nat,(x.kid k).toNat=c+1:=⟨(x.kid k).toNat-1,by omega⟩;have aG:c<L.length:=by omega
     have aJ:=r2 L[c] (by rw[show (x.kid k-1).toNat=c from by omega];exact VO aG);have:=ih c L[c] (by omega) (VO aG);rw[hc,show x.lv.toNat-1=L[c].lv.toNat from by omega];exact this
    by_cases h1:1<x.lv
    ·have hs:=gM h1;rw[if_pos h1,if_pos h1];generalize (2:Int)^(x.lv.toNat-1)=p at *;by_cases hj:1<j1
     ·rw[if_pos hj,if_neg (aF.1 hj)];omega
     ·have rH:1<j2:=Classical.byContradiction λh=>hj (aF.2 h);rw[if_neg hj,if_pos rH];omega
    ·rw[if_neg h1,if_neg h1];generalize (2:Int)^(x.lv.toNat-1)=p at *;by_cases hj:1<j1
     ·rw[if_pos hj,if_neg (aF.1 hj)];omega
     ·have rH:1<j2:=Classical.byContradiction λh=>hj (aF.2 h);rw[if_neg hj,if_pos rH];omega
theorem bx_pos {L:List Nd}(hl:AB L=true)(h0:L≠[]):1<=bxW L/\1<=bxH L:=by
 have hlen:0<L.length:=Wy.2 h0;have hm:L.length-1<L.length:=by omega
 have ht:Bn L=L[L.length-1].lv:=by unfold Bn;rw[Em (n:=L.length-1) (by omega) hm]
 have key:∀nf nf':Nat->Nat,Opp nf nf'->bo (G6 nf L)+bo (G6 nf' L)<2^(Bn L).toNat:=λnf nf' ho=>by
  have:=edge_sum ho hl L.length (VV _) (L.length-1) L[L.length-1] hm (VO hm);rw[Wd (VV _),show L.length-1+1=L.length from by omega]at this;rw[ht];exact this
 have k1:=key _ _ oppWE;have k2:=key _ _ oppNS;unfold bxW bxH;generalize (2:Int)^(Bn L).toNat=p at *;omega
end Go.Gm
