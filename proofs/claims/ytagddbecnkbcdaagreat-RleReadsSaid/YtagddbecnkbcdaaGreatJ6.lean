/- Texts of this proof, joined. -/
import Derived.Test.YtagddbecnkbcdaaGreatJ2
import Derived.Test.YtagddbecnkbcdaaGreatJ4
import Derived.Test.YtagddbecnkbcdaaGreatJ5
set_option linter.all false
noncomputable section
namespace Go.Gm
def Fo (c:Cl)(out:List Cl):Nat:=(out.takeWhile λd=>decide (JD d c<0)).length
def Mt (c:Cl)(out:List Cl):Bool:=match out[Fo c out]? with | some d=>decide (JD d c=0) | none=>false
def JY (c:Cl)(out:List Cl):List Cl:=if Mt c out then (out.drop (Fo c out)).drop 1 else out.drop (Fo c out)
def CA (out:List Cl)(c:Cl):List Cl:=out.take (Fo c out)++[c]++JY c out
def DX (l:List Cl):List Cl:=l.foldl CA []
def DB (l:List Cl):List Cl:=(DX l).filter λc=>decide (c.s≠0)
theorem Og {α:Type}(p:α->Bool):∀(l:List α)(n:Nat),n<=l.length->(∀(j:Nat)(a:α),j<n->l[j]? = some a->p a=true)->(∀a,l[n]? = some a->p a=false)->(l.takeWhile p).length=n
 |[],n,h,_,_=>by simp at h;simp[h]
 |a::l,0,_,_,h=>by have:=h a rfl;simp[this]
 |a::l,n+1,h,h1,h2=>by have h3:=h1 0 a (by omega) rfl;have:=Og p l n (by simpa using h) (λj b hj hb=>h1 (j+1) b (by omega) (by simpa using hb)) (λb hb=>h2 b (by simpa using hb));simp[h3,this]
def Vfp (c:Cl)(out:List Cl):Fo c out<=out.length:=by unfold Fo;exact(XM _).length_le
def Vao (out:List Cl)(c:Cl):(CA out c).length<=out.length+1:=by have:=Vfp c out;unfold CA JY;split<;>simp<;>omega
def Van {out:List Cl}{c d:Cl}(h:d∈CA out c):d=c\/d∈out:=by
 unfold CA JY at h;simp only[Wk,Wj]at h;rcases h with (h | h) | h;exact .inr (WV h);exact .inl h
 ·right;split at h
  exact Xv (Xv h);exact Xv h
def Po {l:List Cl}{i:Nat}(hi:i<l.length):DX (l.take (i+1))=CA (DX (l.take i)) l[i]:=by unfold DX;rw[VU hi,X6];rfl
theorem HW {l:List Cl}:∀i,i<=l.length->(DX (l.take i)).length<=i/\∀d∈DX (l.take i),d∈l
 |0,_=>by simp[DX]
 |i+1,h=>by obtain⟨h1,h2⟩:=HW i (by omega:i<=l.length);rw[Po h];refine⟨Wg (Vao _ _) (by omega),λd hd=>?_⟩;rcases Van hd with rfl | hd;exact VY h;exact h2 d hd
def Veu {α:Type}{f:α->List Ab}{l:List α}{tk:Tok}{sz h:Nat}{K:IntKind}[hf:Sz f sz](hh:h<=l.length):B7 sz (.sl (enL f l) tk) none (some (.int K (h:Int))) (some (.int K (h:Int)))=some (.sl (enL f (l.take h)) .ti):=by
 simp[B7,B5,enL,hf.len,hh,List.map_take,FQ]
def Tx {α:Type}{f:α->List Ab}{l:List α}{tk:Tok}{sz:Nat}{H:Aa}[hf:Sz f sz]:C8 sz (.sl (enL f l) tk) H=some (enL f l):=by simp[C8,Vhg]
def Via (l:List Cl)(tk0:Tok)(H:Aa)(hl:l.length<549755813888)(hok:∀c∈l,c.ok):UdJ (.sl (enL cCl l) tk0) H=some (.ret (.sl (enL cCl (DB l)) .no),H):=by
 unfold UdJ;have loop:=Fp (G:=λrec1 vs H1=>UdI H rec1 (ag vs 0) (ag vs 1) (ag vs 2) H1) l.length (λi vs Hc=>∃tk G,vs=[.sl (enL cCl l) tk0,.sl (enL cCl (DX (l.take i))) tk,.i6 (i:Int)]/\Hc=H++G) (by omega) (λi vs Hc hi hI=>?_)
  (vs:=[.sl (enL cCl l) tk0,.sl [] .ti,.i6 0]) (H:=H) ⟨.ti,[],rfl,by simp⟩
 ·obtain⟨vs',Hc,⟨tk,G,rfl,rfl⟩,rec,aB⟩:=loop;rw[aB];unfold UdI;rw[VW (VM _)];simp only[GMw,Ax,Wv];generalize hB:H++G=B;have hlen:(DX l).length<=l.length:=by have:=(HW (l:=l) l.length (VM _)).1;rwa [VW (VM _)]at this
  unfold DB;generalize DX l=o at hlen;refine Ct (G:=λbB vs H1=>UdH H bB (ag vs 0) (ag vs 1) (ag vs 2) H1) o.length (λi=>[.sl (enL cCl o) tk,Eo cCl B ((o.take i).filter λc=>decide (c.s≠0)),.i6 (i:Int)]) (λi=>Ee cCl A6 5 B ((o.take i).filter λc=>decide (c.s≠0))) _ (by omega) (λrec i hi=>?_) (λrec=>?_);have aE:(i:Int)<(o.length:Int):=(by omega);have aP:=Ar (show i<9223372036854775807 by omega);unfold UdH;rw[VU hi,W9];have dI:((o.take i).filter λc=>decide (c.s≠0)).length<=i:=Wg (Xh _ _) (by simp;omega);generalize ((o.take i).filter λc=>decide (c.s≠0))=fo at dI;have hs:decide ((o[i].s.toNat:Int)=0)=decide (o[i].s=0):=(by rw[VZ];simp only[zXe];constructor;intro h;exact Xt.1 (by simpa using h);intro h;rw[h];rfl);simp only[GMw,Ax,aE,A4 hi,A2,VK,VfG,hs,aP,Ufl];by_cases h0:o[i].s=0;have:[o[i]].filter (λc=>decide (c.s≠0))=[]:=(by simp[h0]);rw[this,Wm];simp only[GMw,h0,decide_true];have:[o[i]].filter (λc=>decide (c.s≠0))=[o[i]]:=(by simp[h0]);rw[this];have ha:=DR (f:=cCl) (ty:=A6) (bytes:=72) (tk:=.ti) (B:=B) (l:=fo) (m:=[o[i]]) (by simp) (by simp;omega) (by simp;omega);simp only[GMw,h0,zYh,Pj,Np,ha];obtain⟨G',hG'⟩:=GD (f:=cCl) (ty:=A6) (sz:=5) B (o.filter λc=>decide (c.s≠0));unfold UdH;rw[VW (VM _)];simp only[GMw,Ax,Wv,Gc,hG'];rw[<-hB,VP];simp only[CD,GI,zXb]
 ·obtain⟨tk,G,rfl,rfl⟩:=hI;obtain⟨m1,m2⟩:=HW (l:=l) i (by omega);have aE:(i:Int)<(l.length:Int):=by omega
  have aP:=Ar (show i<9223372036854775807 by omega);have nM:l[i].ok:=hok _ (VY hi);have yG:∀d∈DX (l.take i),d.ok:=λd hd=>hok d (m2 d hd);rw[Po hi];generalize DX (l.take i)=o at m1 m2 yG;generalize hB:H++G=B;have hp:=Vfp l[i] o;obtain⟨tkr,Gr,eD⟩:∃tkr Gr,AS A6 5 72 (.sl (enL cCl []) .ti) (.sl (enL cCl (o.drop (Fo l[i] o))) (FQ tk (Fo l[i] o) o.length o.length false)) B=some (.sl (enL cCl (o.drop (Fo l[i] o))) tkr,B++Gr):=by by_cases he:o.drop (Fo l[i] o)=[];rw[he];exact⟨.ti,[],by simp[HI];exact F6 (by simp[C8])⟩;have:=De (f:=cCl) (l:=[]) (m:=o.drop (Fo l[i] o)) (ty:=A6) (bytes:=72) (tk:=FQ tk (Fo l[i] o) o.length o.length false) (H:=B) he (by simp;omega) (by simp;omega);exact⟨_,_,this⟩
  obtain⟨tks,hres⟩:∃tks,(if Mt l[i] o then B7 5 (.sl (enL cCl (o.drop (Fo l[i] o))) tkr) (some (.i6 1)) none none else some (.sl (enL cCl (o.drop (Fo l[i] o))) tkr))=some (.sl (enL cCl (JY l[i] o)) tks):=by
   unfold JY;cases hs:Mt l[i] o with
   |false=>exact⟨_,rfl⟩
   |true=>have hlt:Fo l[i] o<o.length:=(by unfold Mt at hs;cases hg:o[Fo l[i] o]? with|none=>rw[hg]at hs;cases hs|some d=>exact(VJ.1 hg).1);have:=Ow (f:=cCl) (l:=o.drop (Fo l[i] o)) (tk:=tkr) (K:=.i64) (b:=1) (by simp;omega);exact⟨_,this⟩
  have tI:=De (f:=cCl) (l:=o.take (Fo l[i] o)) (m:=[l[i]]) (ty:=A6) (bytes:=72) (tk:=.ti) (H:=B++Gr) (by simp) (by simp;omega) (by simp;omega);obtain⟨tkf,Gf,zD⟩:∃tkf Gf,AS A6 5 72 (.sl (enL cCl (o.take (Fo l[i] o)++[l[i]])) (.own (B++Gr).length)) (.sl (enL cCl (JY l[i] o)) tks) (B++Gr++[Blk.tok ((o.take (Fo l[i] o)).length+[l[i]].length) A6 5])=some (.sl (enL cCl (CA o l[i])) tkf,B++Gf):=by by_cases he:JY l[i] o=[];unfold CA;rw[he,Wm];exact⟨_,Gr++[Blk.tok ((o.take (Fo l[i] o)).length+[l[i]].length) A6 5],by rw[HI,F6 (by simp[Tx]),VP]⟩;have lM:(JY l[i] o).length<=o.length:=(by unfold JY;split<;>simp<;>omega);have:=F5 (f:=cCl) (l:=o.take (Fo l[i] o)++[l[i]]) (m:=JY l[i] o) (ty:=A6) (bytes:=72) (tk:=tks) (H:=B++Gr++[Blk.tok ((o.take (Fo l[i] o)).length+[l[i]].length) A6 5]) (t:=(B++Gr).length) he (by simp) (by simp;omega) (by simp;omega);exact⟨.own (B++Gr).length,Gr++[Blk.tok ((o.take (Fo l[i] o)++[l[i]]).length+(JY l[i] o).length) A6 5],by rw[this];unfold CA;rw[Wy _ _ (VM _),Wu,List.set_cons_zero,VP,VP]⟩
  refine⟨_,_,⟨tkf,G++Gf,rfl,rfl⟩,λrec=>?_⟩;unfold UdI;simp only[GMw,Ax,aE,Ak];refine Bf (G:=λaA vs H1=>UeH H rec aA (ag vs 0) (ag vs 1) (ag vs 2) (ag vs 3) H1) (σ:=Nat) (λk=>k<=o.length/\∀(j:Nat)(d:Cl),j<k->o[j]? = some d->decide (JD d l[i]<0)=true) (λk=>[.sl (enL cCl l) tk0,.sl (enL cCl o) tk,.i6 (i:Int),.i6 (k:Int)]) (λ_=>B) (λk=>o.length-k) (λ_=>_) (λk aA hk hrec=>?_) 0 ⟨Wi _,λj d hj=>by omega⟩ (by omega);obtain⟨hk1,hk2⟩:=hk;have eZ:=Ar (show k<9223372036854775807 by omega);unfold UeH;have stop:(∀d,o[k]? = some d->decide (JD d l[i]<0)=false)->k=Fo l[i] o:=λh=>(Og _ o k hk1 hk2 h).symm;have yY:AK 5 []=some (.sl (enL cCl []) .ti):=rfl;have tail:∀s:Bool,k=Fo l[i] o->s=Mt l[i] o->(AL (λj3=>Ai (.bool s) ((B7 5 (.sl (enL cCl (o.drop (Fo l[i] o))) tkr) (some (.i6 1)) none none).bind λx61=>j3 [.sl (enL cCl l) tk0,.sl (enL cCl o) tk,.i6 (i:Int),.i6 (k:Int),x61] (B++Gr)) (j3 [.sl (enL cCl l) tk0,.sl (enL cCl o) tk,.i6 (i:Int),.i6 (k:Int),.sl (enL cCl (o.drop (Fo l[i] o))) tkr] (B++Gr))) (λvs H1=>UdG H rec (ag vs 0) (ag vs 1) (ag vs 2) (ag vs 3) (ag vs 4) H1))=rec [.sl (enL cCl l) tk0,.sl (enL cCl (CA o l[i])) tkf,.i6 ((i+1:Nat):Int)] (H++(G++Gf)):=by intro s cV hs;have fin:UdG H rec (.sl (enL cCl l) tk0) (.sl (enL cCl o) tk) (.i6 (i:Int)) (.i6 (k:Int)) (.sl (enL cCl (JY l[i] o)) tks) (B++Gr)=rec [.sl (enL cCl l) tk0,.sl (enL cCl (CA o l[i])) tkf,.i6 ((i+1:Nat):Int)] (H++(G++Gf)):=(by unfold UdG;rw[cV];simp only[GMw,Veu hp,A4 hi,Pj,Np,tI,zD,aP];rw[<-hB,VP]);subst hs;cases gY:Mt l[i] o with|false=>rw[gY]at hres;simp only[VL,zYe,VT]at hres;simp only[GMw,hres];exact fin|true=>rw[gY]at hres;simp only[zYd]at hres;simp only[GMw,hres];exact fin
  by_cases h:k<o.length
  ·have cX:(k:Int)<(o.length:Int):=(by omega);have vK:=λH=>Vfa o[k] l[i] H (yG _ (VY h)) nM;simp only[GMw,Ax,cX,A4 h,A4 hi,Pj,vK,eZ];by_cases hlt:JD o[k] l[i]<0
   ·have:=hrec (k+1) ⟨h,λj d hj hd=>by
     by_cases e:j=k;subst e;rw[VG h]at hd;injection hd with hd;rw[<-hd];exact zXc hlt
     ·exact hk2 j d (by omega) hd⟩ (by omega)
    simp only[hlt,GMw];exact this
   have cV:=stop (λd hd=>by rw[VG h]at hd;injection hd with hd;rw[<-hd];exact zXd hlt);have gY:decide (JD o[k] l[i]=0)=Mt l[i] o:=(by unfold Mt;rw[<-cV,VG h]);simp only[hlt,GMw,yY];have jY:=Ow (f:=cCl) (l:=o) (tk:=tk) (K:=.i64) (b:=Fo l[i] o) hp;rw[<-cV]at jY eD;simp only[GMw,jY,eD];have ht:=tail _ cV gY;rw[<-cV]at ht;simp only[GMw]at ht;exact ht
  have hk:k=o.length:=(by omega);have cX:¬(k:Int)<(o.length:Int):=(by omega);have cV:=stop (λd hd=>by rw[zYa (by omega)]at hd;cases hd);have gY:false=Mt l[i] o:=(by unfold Mt;rw[<-cV,zYa (by omega)]);have jY:=Ow (f:=cCl) (l:=o) (tk:=tk) (K:=.i64) (b:=Fo l[i] o) hp;rw[<-cV]at jY eD;simp only[GMw,Ax,cX,yY,jY,eD];have ht:=tail _ cV gY;rw[<-cV]at ht;simp only[GMw]at ht;exact ht
def ltC (a b:Cl):Bool:=decide (JD a b<0)
def KY (a b:Int):(a<b/\FM a b<0)\/(a=b/\FM a b=0)\/(b<a/\0<FM a b):=by unfold FM;rcases Int.lt_trichotomy a b with h | h | h;exact .inl ⟨h,by rw[zYc h];decide⟩;exact .inr (.inl ⟨h,by rw[zYb (by omega),zYc h]⟩);exact .inr (.inr ⟨h,by rw[zYb (by omega),zYb (by omega)];decide⟩)
def N8 {a b:Cl}:ltC a b=true↔a.y<b.y\/(a.y=b.y/\a.x<b.x):=by
 unfold ltC JD;rw[zXe];rcases KY a.y b.y with ⟨h1,h2⟩ | ⟨h1,h2⟩ | ⟨h1,h2⟩;rw[zYb (by omega)];omega;rw[zYc h2];rcases KY a.x b.x with ⟨h3,h4⟩ | ⟨h3,h4⟩ | ⟨h3,h4⟩ <;> omega
 rw[zYb (by omega)];omega
def Vcj {a b:Cl}:ltC a b=false↔¬(a.y<b.y\/(a.y=b.y/\a.x<b.x)):=by rw[<-N8,YG]
theorem LI:SW ltC:=⟨λa b h=>by rw[N8]at h;rw[Vcj];omega,λa b c h k=>by rw[Vcj]at h k⊢;omega⟩
def Ki {a b:Cl}:BZ ltC a b=true↔a.x=b.x/\a.y=b.y:=by rw[Gd,Vcj,Vcj];omega
def Vh {a b:Cl}:decide (JD a b=0)=BZ ltC a b:=by
 rw[VZ,Ki,zXe];unfold JD;rcases KY a.y b.y with ⟨h1,h2⟩ | ⟨h1,h2⟩ | ⟨h1,h2⟩;rw[zYb (by omega)];omega;rw[zYc h2];rcases KY a.x b.x with ⟨h3,h4⟩ | ⟨h3,h4⟩ | ⟨h3,h4⟩ <;> omega
 rw[zYb (by omega)];omega
def Vju (l:List Cl):Prop:=l.Pairwise λa b=>ltC a b=true
theorem VjH {p:Cl->Bool}:∀ {l:List Cl} {a:Cl},a∈l.takeWhile p->p a=true
 |[],a,h=>by cases h
 |c::l,a,h=>by
  rw[Xx]at h;split at h
  rename_i hc;rcases WF.1 h with e | e;rw[e];exact hc;exact VjH e;cases h
def Vap {out:List Cl}(c:Cl)(h:Vju out):∃T D R,out=T++(D++R)/\CA out c=T++(c::R)/\(∀a∈T,ltC a c=true)/\(∀a∈R,ltC c a=true)/\∀a∈D,BZ ltC a c=true:=by
 obtain⟨T,hT⟩:∃T,T=out.takeWhile λd=>decide (JD d c<0):=⟨_,rfl⟩;obtain⟨D,hD⟩:∃D,D=out.dropWhile λd=>decide (JD d c<0):=⟨_,rfl⟩;have hTD:out=T++D:=by rw[hT,hD,List.takeWhile_append_dropWhile]
 have hp:Fo c out=T.length:=by unfold Fo;rw[hT]
 have h1:out.take (Fo c out)=T:=by rw[hp,hTD,Yb]
 have h2:out.drop (Fo c out)=D:=by rw[hp,hTD,Yd]
 have hlt:∀a∈T,ltC a c=true:=λa ha=>by rw[hT]at ha;exact VjH (p:=λd=>decide (JD d c<0)) ha
 have hst:=h;unfold Vju at hst;rw[hTD]at hst;have lZ:=(WU.1 hst).2.1;have hg:out[Fo c out]? = D.head? := by rw[<-List.head?_drop,h2]
 unfold CA JY Mt;rw[h1,h2,hg];cases hDc:D with
 |nil=>refine⟨T,[],[],by rw[hTD,hDc];simp,by simp,hlt,λa (ha:a∈[])=>(by cases ha),λa (ha:a∈[])=>(by cases ha)⟩
 |cons d D'=>
  rw[hDc]at lZ;rw[X1]at lZ;have hd:ltC d c=false:=by have:=List.head?_dropWhile_not (λd=>decide (JD d c<0)) out;rw[<-hD,hDc]at this;exact this
  have Z5:decide (JD d c=0)=BZ ltC d c:=Vh;simp only[List.head?_cons,Z5];by_cases he:BZ ltC d c=true;rw[zYc he];refine⟨T,[d],D',by rw[hTD,hDc];simp,by simp,hlt,λa ha=>?_,λa ha=>by rw[Wj]at ha;rw[ha];exact he⟩;have:=lZ.1 a ha;rw[Ki]at he;rw[N8]at this⊢;omega;rw[zYb he];refine⟨T,[],d::D',by rw[hTD,hDc];simp,by simp,hlt,λa ha=>?_,λa (ha:a∈[])=>(by cases ha)⟩;have xA:ltC c d=true:=(by cases e:ltC c d with|true=>rfl|false=>exact zYf (Gd.2 ⟨hd,e⟩) he);rcases WF.1 ha with e | e;rw[e];exact xA;have:=lZ.1 a e;rw[N8]at this xA⊢;omega
def Vam {out:List Cl}(c:Cl)(h:Vju out):Vju (CA out c)/\∀z,(if BZ ltC z c=true then ((CA out c).filter (BZ ltC z)).head? = some c else (CA out c).filter (BZ ltC z)=out.filter (BZ ltC z)):=by
 obtain⟨T,D,R,e1,e2,hT,hR,hD⟩:=Vap c h;have h':=h;unfold Vju at h'⊢;rw[e1]at h';rw[WU]at h';obtain⟨p1,p2,p3⟩:=h';rw[WU]at p2;rw[e2];refine⟨WU.2 ⟨p1,X1.2 ⟨hR,p2.2.1⟩,λa ha b hb=>?_⟩,λz=>?_⟩;rcases WF.1 hb with e | e;rw[e];exact hT a ha;exact p3 a ha b (by simp[e])
 ·by_cases hz:BZ ltC z c=true;rw[zYc hz,W9];have:T.filter (BZ ltC z)=[]:=HZ λa ha=>(by cases e:BZ ltC z a with|false=>rfl|true=>have:=hT a ha;rw[Ki]at e hz;rw[N8]at this;omega);rw[this,List.nil_append,WH,zYc hz];rfl
  rw[zYb hz,e1,W9,W9,W9,WH,zYb hz];have:D.filter (BZ ltC z)=[]:=HZ λa ha=>(by cases e:BZ ltC z a with|false=>rfl|true=>have:=hD a ha;rw[Ki]at e this;exact zYf (Ki.2 (by omega)) hz);rw[this,List.nil_append]
def Vh0 {l:List Cl}(h:Vju l)(z:Cl):z∈l↔(l.filter (BZ ltC z)).head? = some z:=by
 constructor
 ·intro hz;obtain⟨A,B,rfl⟩:=List.append_of_mem hz;unfold Vju at h;rw[WU]at h;have:A.filter (BZ ltC z)=[]:=HZ λa ha=>by cases e:BZ ltC z a with|false=>rfl|true=>have:=h.2.2 a ha z (by simp);rw[Ki]at e;rw[N8]at this;omega
  rw[W9,this,List.nil_append,WH,zYc (P0 LI z)];rfl
 intro hz;exact(X4.1 (List.mem_of_mem_head? hz)).1
def QQ:∀(l out:List Cl),Vju out->Vju (l.foldl CA out)/\∀z,z∈l.foldl CA out↔((l.reverse++out).filter (BZ ltC z)).head? = some z
 |[],out,h=>⟨h,λz=>Vh0 h z⟩
 |c::l,out,h=>by
  obtain⟨s1,s2⟩:=Vam c h;obtain⟨i1,i2⟩:=QQ l (CA out c) s1;refine⟨i1,λz=>?_⟩;rw[List.foldl_cons,i2 z,Yj,VP,W9,W9];have hz:=s2 z;have key:((CA out c).filter (BZ ltC z)).head? = (([c]++out).filter (BZ ltC z)).head? := by
   by_cases hc:BZ ltC z c=true;rw[zYc hc]at hz;rw[hz,List.singleton_append,WH,zYc hc];rfl
   rw[zYb hc]at hz;rw[hz,List.singleton_append,WH,zYb hc]
  rw[List.head?_append,List.head?_append,key]
def VlT {l S:List Cl}(h:EG ltC S)(hst:FF ltC l.reverse S):cpL ltC S=DX l:=by obtain⟨c1,c2⟩:=Voi LI h;obtain⟨f1,f2⟩:=QQ l [] List.Pairwise.nil;refine Sf LI _ _ c1 f1 λz=>?_;rw[c2 z,<-hst z];show _↔z∈l.foldl CA [];rw[f2 z,Wm]
section
variable {p g i j n:Nat}{l l':List Cl}{H:Aa}
def Dn (H:Aa)(p g:Nat)(l:List Cl):Prop:=H[p]? = some (.buf g (flat cCl l) A6 5)
def Ce (H:Aa)(p g:Nat)(l:List Cl):Aa:=H.set p (.buf g (flat cCl l) A6 5)
abbrev dV (p g n:Nat):Ab:=.ms p g 0 n n 5 false
theorem VeA (h:Dn H p g l):AD H p g=some (flat cCl l):=by unfold Dn at h;simp[AD,h]
theorem CU (h:Dn H p g l)(hi:i<l.length):Ad true 5 (.ptr p g (i*5)) H=some (.agg (cCl l[i])):=by simp only[Ad,VeA h,zXa,zYd,KS hi,RG hi]
theorem Ve9 (h:Dn H p g l)(hi:i<l.length)(a:Cl):Ae 5 (.ptr p g (i*5)) (.agg (cCl a)) H=some (Ce H p g (l.set i a)):=by
 have hs:FR H p g (flat cCl (l.set i a))=Ce H p g (l.set i a):=by have h':=h;unfold Dn at h';unfold FR Ce;rw[h']
 simp only[Ae,VeA h,zXa,NS,show(cCl a).length=5 from rfl,KS hi,zYi,zYd,Tm hi,hs]
theorem Dq (h:Dn H p g l):Dn (Ce H p g l') p g l':=by have:p<H.length:=(VJ.1 h).1;unfold Dn Ce;rw[VX this]
theorem BN:Ce (Ce H p g l) p g l'=Ce H p g l':=by unfold Ce;rw[Yr]
theorem CQ (h:Dn H p g l):Ce H p g l=H:=by
 unfold Dn at h;unfold Ce;apply Xm;intro i;rw[Y9];split;rename_i e;subst e;rw[h];rw[zYc (VJ.1 h).1]
 ·rfl
theorem C1 (h:i<n):Aw 5 (dV p g n) (.i6 (i:Int))=some (.ptr p g (i*5)):=by rw[CZ h,VK]
theorem Vj2 (hi:i<l.length)(hj:j<l.length):swp l i j=(l.set i l[j]).set j l[i]:=by unfold swp;rw[VG hi,VG hj]
theorem Vem {c:Cl}(h:c∈swp l i j):c∈l:=by
 unfold swp at h;split at h
 rename_i a b ha hb;rcases Yf h with h | h;rcases Yf h with h | h;exact h;rw[h];exact Wo hb;rw[h];exact Wo ha;exact h
theorem Sq (h:Dn H p g l)(hi:i<l.length)(hj:j<l.length):Ae 5 (.ptr p g (i*5)) (.agg (cCl l[j])) H=some (Ce H p g (l.set i l[j]))/\Ae 5 (.ptr p g (j*5)) (.agg (cCl l[i])) (Ce H p g (l.set i l[j]))=some (Ce H p g (swp l i j)):=by refine⟨Ve9 h hi _,?_⟩;rw[Ve9 (Dq h) (by rw[zXp];exact hj),BN,Vj2 hi hj]

end
def TY (orc:Orc)(f:Ab)(l:List Cl):Prop:=∀c∈l,∀d∈l,∀H,DP orc f [.agg (cCl c),.agg (cCl d)] H=some (.ret (.i6 (JD c d)),H)
theorem Vcz (a:Nat){c:Cl}:∀(j:Nat)(l:List Cl),c∈KO ltC a j l->c∈l
 |0,l,h=>h
 |j+1,l,h=>by
  unfold KO at h;split at h
  exact Vem (Vcz a j _ h);exact h
theorem Vcw (a:Nat){c:Cl}:∀(k:Nat)(l:List Cl),c∈Rk ltC a k l->c∈l
 |0,l,h=>h
 |k+1,l,h=>Vcw a k l (Vcz a _ _ h)
theorem KW (c d:Cl):decide (JD c d<0)=ltC c d:=rfl
section
variable {p g a b:Nat}{f:Ab}
theorem VnF {l0:List Cl}{i:Nat}(hf:TY AF f l0)(B:Aa)(rec1:LK){l:List Cl}{H:Aa}(h:Dn H p g l)(hm:∀c∈l,c∈l0)(hi:i<l.length)(hl:l.length<1000000000):An (λaA vs H1=>Ucy B rec1 aA (ag vs 0) (ag vs 1) (ag vs 2) (ag vs 3) (ag vs 4) (ag vs 5) H1) AI [dV p g l.length,.i6 (a:Int),.i6 (b:Int),f,.i6 (i:Int),.i6 (i:Int)] H =
   rec1 [dV p g l.length,.i6 (a:Int),.i6 (b:Int),f,.i6 ((i+1:Nat):Int)] (Ce H p g (KO ltC a i l)):=by
 have key:=Bf (G:=λaA vs H1=>Ucy B rec1 aA (ag vs 0) (ag vs 1) (ag vs 2) (ag vs 3) (ag vs 4) (ag vs 5) H1) (σ:=Nat×List Cl) (λs=>s.1<l.length/\s.2.length=l.length/\∀c∈s.2,c∈l0)
  (λs=>[dV p g l.length,.i6 (a:Int),.i6 (b:Int),f,.i6 (i:Int),.i6 (s.1:Int)]) (λs=>Ce H p g s.2) (λs=>s.1)
  (λs=>rec1 [dV p g l.length,.i6 (a:Int),.i6 (b:Int),f,.i6 ((i+1:Nat):Int)] (Ce H p g (KO ltC a s.1 s.2))) (λs aA hs hrec=>?_) (i,l) ⟨hi,rfl,hm⟩ (by dsimp only;omega)
 rw[CQ h]at key;exact key
 ·obtain⟨j,L⟩:=s;obtain⟨h1,h2,h3⟩:=hs;dsimp only at h1 h2 h3 hrec⊢;have hr:Dn (Ce H p g L) p g L:=Dq h;have cP:=Ar (show i<9223372036854775807 by omega);unfold Ucy;by_cases yQ:a<j
  ·obtain⟨k,rfl⟩:∃k,j=k+1:=⟨j-1,by omega⟩;have hg:decide (((k+1:Nat):Int)>(a:Int))=true:=zXc (by omega);have hw:I_.wrap (((k+1:Nat):Int)-1)=(k:Int):=(by rw[Am]<;>omega);have hk1:k+1<L.length:=(by omega);have hk:k<L.length:=(by omega);have c1:=hf L[k+1] (h3 _ (VY hk1)) L[k] (h3 _ (VY hk));obtain⟨s1,s2⟩:=Sq hr hk1 hk;rw[BN]at s1 s2;rw[BN]at s2;have hlt:IU ltC L (k+1) k=ltC L[k+1] L[k]:=RD hk1 hk;simp only[At,Ak,GMw,hg,C1 h1,C1 (show k<l.length by omega),CU hr hk1,CU hr hk,c1,hw,KW];cases hc:ltC L[k+1] L[k]with
   |true=>
    have eK:KO ltC a (k+1) L=KO ltC a k (swp L (k+1) k):=by
     conv=>lhs;unfold KO
     rw[hlt,hc,zYc ⟨yQ,rfl⟩]
    simp only[GMw,s1,s2];have yA:=hrec (k,swp L (k+1) k) ⟨by omega,by rw[Nz];exact h2,λc hc=>h3 c (Vem hc)⟩ (Nat.lt_succ_self _);dsimp only at yA;rw[yA,eK]
   |false=>have eK:KO ltC a (k+1) L=L:=(by unfold KO;rw[hlt,hc,zYb (λh=>by cases h.2)]);simp only[GMw,cP];rw[eK]
  have hg:decide ((j:Int)>(a:Int))=false:=zXd (by omega);have eK:KO ltC a j L=L:=(by cases j with|zero=>rfl|succ k=>unfold KO;rw[zYb (λh=>yQ h.1)]);simp only[At,Ak,GMw,hg,cP];rw[eK]
theorem ViD {l0:List Cl}(hf:TY AF f l0){l:List Cl}{H:Aa}(h:Dn H p g l)(hm:∀c∈l,c∈l0)(hab:a<=b)(hb:b<=l.length)(hl:l.length<1000000000):UfA (dV p g l.length) (.i6 (a:Int)) (.i6 (b:Int)) f H=some (.ret (.tup []),Ce H p g (Rk ltC a (b-a-1) l)):=by
 have zS:=Ar (show a<9223372036854775807 by omega);unfold UfA;simp only[GMw,zS];have key:=Bf (G:=λrec1 vs H1=>Uc0 H rec1 (ag vs 0) (ag vs 1) (ag vs 2) (ag vs 3) (ag vs 4) H1) (σ:=Nat) (λk=>k<=b-a-1)
  (λk=>[dV p g l.length,.i6 (a:Int),.i6 (b:Int),f,.i6 ((a+1+k:Nat):Int)]) (λk=>Ce H p g (Rk ltC a k l)) (λk=>b-a-1-k)
  (λ_=>some (.ret (.tup []),Ce H p g (Rk ltC a (b-a-1) l))) (λk rec hk hrec=>?_) 0 (Wi _) (by omega)
 rw[show Rk ltC a 0 l=l from rfl,CQ h]at key;exact key;unfold Uc0;have hr:Dn (Ce H p g (Rk ltC a k l)) p g (Rk ltC a k l):=Dq h;have aZ:=Vcx (lt:=ltC) a k l;by_cases hlt:a+1+k<b;have hd:decide (((a+1+k:Nat):Int)<(b:Int))=true:=zXc (by omega);have h2:=VnF (a:=a) (b:=b) (i:=a+1+k) hf H rec hr (λc hc=>hm c (Vcw a k l hc)) (by omega) (by omega);rw[aZ,BN]at h2;simp only[At,Ak,GMw,hd];rw[h2];exact hrec (k+1) (by omega) (by omega);have hd:decide (((a+1+k:Nat):Int)<(b:Int))=false:=zXd (by omega);have e:k=b-a-1:=(by omega);simp only[At,Ak,GMw,hd];rw[<-e]
theorem Vdf {l:List Cl}{n:Nat}{H:Aa}(h:Dn H p g l)(ha:a+n<=l.length)(hb:b+n<=l.length)(hl:l.length<1000000000):UaE (dV p g l.length) (.i6 (a:Int)) (.i6 (b:Int)) (.i6 (n:Int)) f H=some (.ret (.tup []),Ce H p g (swR a b n l)):=by
 unfold UaE;have key:=Ct (G:=λrec1 vs H1=>Uc1 H rec1 (ag vs 0) (ag vs 1) (ag vs 2) (ag vs 3) (ag vs 4) H1) n
  (λk=>[dV p g l.length,.i6 (a:Int),.i6 (b:Int),.i6 (n:Int),.i6 (k:Int)]) (λk=>Ce H p g (swR a b k l)) (some (.ret (.tup []),Ce H p g (swR a b n l))) (by omega) (λrec k hk=>?_) (λrec=>?_)
 rw[show swR a b 0 l=l from rfl,CQ h]at key;exact key
 ·unfold Uc1;have hr:Dn (Ce H p g (swR a b k l)) p g (swR a b k l):=Dq h;have aZ:=Rz a b k l;have hd:decide ((k:Int)<(n:Int))=true:=zXc (by omega);have eZ:=Ar (show k<9223372036854775807 by omega);have cQ:I_.wrap ((a:Int)+(k:Int))=((a+k:Nat):Int):=by rw[Am]<;>omega
  have cA:I_.wrap ((b:Int)+(k:Int))=((b+k:Nat):Int):=by rw[Am]<;>omega
  have i1:a+k<(swR a b k l).length:=by omega
  have i2:b+k<(swR a b k l).length:=by omega
  obtain⟨s1,s2⟩:=Sq hr i1 i2;rw[BN]at s1 s2;rw[BN]at s2;simp only[At,Ak,GMw,hd,cQ,cA,C1 (show a+k<l.length by omega),C1 (show b+k<l.length by omega),CU hr i1,CU hr i2,s1,s2,eZ]
  rfl
 unfold Uc1;have hd:decide ((n:Int)<(n:Int))=false:=zXd (by omega);simp only[At,Ak,GMw,hd]
theorem VeB {A B U V:List Cl}{m:Nat}{H:Aa}(h:Dn H p g (A++(U++(V++B))))(ha:a=A.length)(hm:m=a+U.length)(hb:b=m+V.length)(hU:0<U.length)(hV:0<V.length)(hl:(A++(U++(V++B))).length<1000000000):Ubk (dV p g (A++(U++(V++B))).length) (.i6 (a:Int)) (.i6 (m:Int)) (.i6 (b:Int)) f H=some (.ret (.tup []),Ce H p g (A++((V++U)++B))):=by
 obtain⟨l,hL⟩:∃l,l=A++(U++(V++B)):=⟨_,rfl⟩;have hst:OI A B (V++U) m U.length V.length l:=by rw[hL,hm,ha];exact OI.start hU hV
 rw[<-hL]at h hl⊢;have hlen:=hst.len;have cQ:I_.wrap ((m:Int)-(a:Int))=(U.length:Int):=by rw[Am]<;>omega
 have cA:I_.wrap ((b:Int)-(m:Int))=(V.length:Int):=by rw[Am]<;>omega
 unfold Ubk;simp only[GMw,cQ,cA];have key:=Bf (G:=λrec1 vs H1=>Ueq H rec1 (ag vs 0) (ag vs 1) (ag vs 2) (ag vs 3) (ag vs 4) H1) (σ:=(Nat×Nat)×List Cl) (λs=>OI A B (V++U) m s.1.1 s.1.2 s.2/\s.2.length=l.length)
  (λs=>[dV p g l.length,.i6 (m:Int),f,.i6 (s.1.1:Int),.i6 (s.1.2:Int)]) (λs=>Ce H p g s.2) (λs=>s.1.1+s.1.2)
  (λ_=>some (.ret (.tup []),Ce H p g (A++((V++U)++B)))) (λs rec hs hrec=>?_) ((U.length,V.length),l) ⟨hst,rfl⟩ (by dsimp only;omega)
 rw[CQ h]at key;exact key
 ·obtain⟨⟨i,j⟩,L⟩:=s;obtain⟨h1,h2⟩:=hs;dsimp only at h1 h2 hrec⊢;have hr:Dn (Ce H p g L) p g L:=Dq h;obtain⟨q1,q2⟩:=h1.len;obtain⟨p1,p2⟩:=h1.pos;have tP:=λ(x y n:Nat) (h3:x+n<=L.length) (h4:y+n<=L.length)=>Vdf (f:=f) (a:=x) (b:=y) (n:=n) hr h3 h4 (by omega);rw[h2]at tP;have cZ:I_.wrap ((m:Int)-(i:Int))=((m-i:Nat):Int):=by rw[Am]<;>omega
  unfold Ueq;by_cases hij:i=j;subst hij;have hd:((i:Int) != (i:Int))=false:=(by simp);simp only[At,Ak,GMw,hd,cZ,tP (m-i) m i (by omega) (by omega),BN];rw[h1.eq];have hd:((i:Int) != (j:Int))=true:=(by simp;omega);by_cases hgt:j<i;have cC:decide ((i:Int)>(j:Int))=true:=zXc (by omega);have cP:I_.wrap ((i:Int)-(j:Int))=((i-j:Nat):Int):=(by rw[Am]<;>omega);simp only[At,Ak,GMw,hd,cC,cZ,cP,tP (m-i) m j (by omega) (by omega),BN];exact hrec ((i-j,j),swR (m-i) m j L) ⟨h1.hi hgt,by rw[Rz];exact h2⟩ (by dsimp only;omega);have cC:decide ((i:Int)>(j:Int))=false:=zXd (by omega);have cP:I_.wrap ((j:Int)-(i:Int))=((j-i:Nat):Int):=(by rw[Am]<;>omega);have tO:I_.wrap ((m:Int)+(j:Int))=((m+j:Nat):Int):=(by rw[Am]<;>omega);have eZ:I_.wrap (((m+j:Nat):Int)-(i:Int))=((m+j-i:Nat):Int):=(by rw[Am]<;>omega);simp only[At,Ak,GMw,hd,cC,cZ,cP,tO,eZ,tP (m-i) (m+j-i) i (by omega) (by omega),BN];exact hrec ((i,j-i),swR (m-i) (m+j-i) i L) ⟨h1.lo (by omega),by rw[Rz];exact h2⟩ (by dsimp only;omega)

end
def VpZ (v:Ab)(H:Aa)(l:zAb):Prop:=A9 v=some (.i6 (l.length:Int))/\∀(i:Nat)(h:i<l.length),∃p,Aw 1 v (.i6 (i:Int))=some p/\∀G,Ad false 1 p (H++G)=some (.int .u32 (l[i]:Int))
def Vnb {l:zAb}{H:Aa}{id:Nat}(hg:H[id]? = some (.c0 (flat cU l))):VpZ (.ms id 0 0 l.length l.length 1 true) H l:=by refine⟨rfl,λi h=>?_⟩;have hidx:=CZ (sz:=1) (id:=id) (n:=l.length) (K:=.i64) (g:=0) (off:=0) (cap:=l.length) (ex:=true) (i:=i) h;simp only[VK,Wa]at hidx;exact⟨_,hidx,λG=>BB (I3 (f:=cU) (A0 hg) h)⟩
def Vfj {v:Ab}{H:Aa}{l:zAb}(hv:VpZ v H l)(hl:l.length<=2199023255552)(hx:Lim l):Uem v H=some (.ret (.sl (enL cB (DC (AU l))) .no),H):=by
 unfold Uem;refine Ct l.length (λi=>[v,Eo cB H (AU (l.take i)),.i6 (i:Int)]) (λi=>Ee cB Cs 1 H (AU (l.take i))) _ (by omega) (λrec i hi=>?_) (λrec=>?_)
 ·have aE:(i:Int)<(l.length:Int):=by omega
  have aI:l[i]<4294967296:=hx _ (VY hi);have htk:AU (l.take (i+1))=AU (l.take i)++DD 32 l[i]:=by rw[VU hi,AU,List.flatMap_append];simp[AU]
  have hlen:(AU (l.take i)).length<=32*2199023255552:=by rw[CC];simp;omega
  obtain⟨p,rA,Zn⟩:=hv.2 i hi;obtain⟨G,hG⟩:=GD (f:=cB) (ty:=Cs) (sz:=1) H (AU (l.take i));have hld:Ad false 1 p (Ee cB Cs 1 H (AU (l.take i)))=some (.int .u32 (l[i]:Int)):=by rw[hG];exact Zn G
  unfold Ub4;simp only[At,FE,Gb,hv.1,BI,Bz,aE,decide_true,Bb,rA,hld,htk];generalize AU (l.take i)=o at hlen;generalize l[i]=x at aI;refine Bf (σ:=Nat×Nat×List Bool) (λs=>s.1<=32/\s.2.1<4294967296/\s.2.2.length<=o.length+s.1) (λs=>[v,Eo cB H s.2.2,.i6 (i:Int),.int .u32 (s.2.1:Int),.i6 (s.1:Int)]) (λs=>Ee cB Cs 1 H s.2.2) (λs=>32-s.1)
   (λs=>rec [v,Eo cB H (s.2.2++DD (32-s.1) s.2.1),.i6 ((i+1:Nat):Int)] (Ee cB Cs 1 H (s.2.2++DD (32-s.1) s.2.1))) (λs aA hs hrec=>?_) (0,x,o) ⟨by dsimp only;omega,aI,by dsimp only;omega⟩ (by dsimp only;omega)
  obtain⟨k,y,p⟩:=s;obtain⟨hk,hy,hp⟩:=hs;simp only at hk hy hp hrec⊢;unfold Ue2;by_cases h:k<32;have h':(k:Int)<32:=(by omega);have e1:(y:Int).tmod 2=((y%2:Nat):Int):=rfl;have e2:K_.wrap ((y:Int).tdiv 2)=((y / 2:Nat):Int):=(by rw[show(y:Int).tdiv 2=((y / 2:Nat):Int) from rfl,CX]<;>omega);have e3:decide (((y%2:Nat):Int)=1)=(y%2==1):=(by rw[VZ];simp only[beq_iff_eq,zXe];omega);have e4:I_.wrap ((k:Int)+1)=((k+1:Nat):Int):=(by rw[Am]<;>omega);have:=hrec (k+1,y / 2,p++[y%2==1]) ⟨h,by dsimp only;omega,by simp;omega⟩ (by dsimp only;omega);simp only[At,FE,Gb,Mj,Od,Bz,h',decide_true,BI,Bb,HL (show(2:Int)≠0 by decide),NP (show(2:Int)≠0 by decide),e1,e2,Fc,GS,e3,RT];rw[DR (by simp) (by simp;omega) (by simp;omega)];simp only[Hn,Ds,D9,BI,e4,this];rw[show 32-k=(32-(k+1))+1 from by omega,DD];simp;have:k=32:=(by omega);subst this;have e4:I_.wrap ((i:Int)+1)=((i+1:Nat):Int):=(by rw[Am]<;>omega);simp[DD,e4]
 unfold Ub4;obtain⟨G,hG⟩:=GD (f:=cB) (ty:=Cs) (sz:=1) H (AU l);rw[VW (VM _)];simp only[At,FE,Gb,Gc,hG,hv.1,BI,Bz,Wv,zYh,AM,VaQ (AU l) _ _ (by rw[CC];omega),Ds,CD,GI,zXb]
def Vfi {v:Ab}{H:Aa}{l:zAb}(hv:VpZ v H l)(hl:l.length<=1099511627776)(hx:Lim l):Uaf v H=some (.ret (.sl (enL cU (A8 (val l))) .no),H):=by have hc:=I8 (AU l);rw[CC]at hc;unfold Uaf;rw[Vfj hv (by omega) hx];simp only[Il];rw[S7 _ _ _ (by omega)];simp only[Il,VeM,Vx,EL,Fg l hx]
theorem RZ (a:Nat)(l:zAb):val (a::l)=a+4294967296*val l:=rfl
def ViY {m a v:Nat}(hm:0<m):(a+4294967296*v) / m=(v%m*4294967296+a) / m+4294967296*(v / m)/\(a+4294967296*v)%m=(v%m*4294967296+a)%m:=by
 have h:=X3 v m;have e:a+4294967296*v=(v%m*4294967296+a)+m*(4294967296*(v / m)):=by
  conv=>lhs;rw[<-h]
  rw[WT,Nat.mul_left_comm];omega
 rw[e,Yy _ _ hm,Nat.add_mul_mod_self_left];exact⟨rfl,rfl⟩
def Vnh {m a r:Nat}(hr:r<m)(ha:a<4294967296):(r*4294967296+a) / m<4294967296:=by rw[Xg (by omega)];have:(r+1)*4294967296<=m*4294967296:=Ww _ hr;omega
def VkT (l:zAb)(tk:Tok)(m:Nat)(H:Aa)(hl:l.length<=1099511627776)(hx:Lim l)(hm0:0<m)(hm:m<4294967296):Udw (.sl (enL cU l) tk) (.int .u32 (m:Int)) H=some (.ret (.tup [.sl (enL cU (A8 (val l / m))) .no,.int .u32 ((val l%m:Nat):Int)]),H):=by
 unfold Udw;have rO:¬(m:Int)=0:=by omega
 have dE:=F9 (f:=cU) (a:=0) (n:=l.length) (bytes:=4) (H:=H) (by omega) (by omega);simp only[show cU 0=[Ab.int .u32 0] from rfl]at dE;have jV:∀n:Int,A5 .u64 (.int .u32 (m:Int))=some (.int .u64 (m:Int)):=λ_=>by rw[AV,BT (by omega) (by omega)]
 simp only[GMw,rO,Ax,dE];have hw0:I_.wrap ((l.length:Int)-1)=(l.length:Int)-1:=Am (by omega) (by omega);rw[hw0];have key:=Bf (G:=λrec1 vs H1=>Ue6 H rec1 (ag vs 0) (ag vs 1) (ag vs 2) (ag vs 3) (ag vs 4) H1) (σ:=Nat×zAb) (λs=>s.1<=l.length/\s.2.length=l.length/\Lim s.2/\val (s.2.drop s.1)=val (l.drop s.1) / m)
  (λs=>[.sl (enL cU l) tk,.int .u32 (m:Int),.ms H.length 0 0 l.length l.length 1 true,.int .u64 ((val (l.drop s.1)%m:Nat):Int),.i6 ((s.1:Int)-1)]) (λs=>H++[.c0 (flat cU s.2)]) (λs=>s.1)
  (λ_=>some (.ret (.tup [.sl (enL cU (A8 (val l / m))) .no,.int .u32 ((val l%m:Nat):Int)]),H)) (λs rec hs hrec=>?_) (l.length,List.replicate l.length 0) ⟨VM _,by simp,λx hx=>by have:=(Yc.1 hx).2;omega,by simp[val]⟩ (by dsimp only;omega)
 simp only[YF,show val []=0 from rfl,Nat.zero_mod]at key;exact key
 ·obtain⟨k,O⟩:=s;obtain⟨h1,h2,h3,h4⟩:=hs;simp only at h1 h2 h3 h4 hrec⊢;unfold Ue6;cases k with
  |zero=>have hrow:=Vnb (l:=O) (H:=H++[Blk.c0 (flat cU O)]) (id:=H.length) Ap;rw[h2]at hrow;have hn:=Vfi hrow (by omega) h3;have hv:val O=val l / m:=(by simpa using h4);have hlt:val l%m<m:=Xw _ hm0;have hcv:A5 .u32 (.int .u64 ((val l%m:Nat):Int))=some (.int .u32 ((val l%m:Nat):Int)):=(by rw[AV,CX (by omega) (by omega)]);simp only[GMw,Ak,show ¬(((0:Nat):Int)-1>=0) from by decide,hn,Xa,hcv,hv,CD,CH,BC,BY,Ja,Da,zXb]
  |succ j=>
   have hj:j<l.length:=h1;have hi:((j+1:Nat):Int)-1=(j:Int):=(by omega);have ha:=hx _ (VY hj);have hd:l.drop j=l[j]::l.drop (j+1):=Wl hj;have hr:val (l.drop (j+1))%m<m:=Xw _ hm0;obtain⟨s1,s2⟩:=ViY (m:=m) (a:=l[j]) (v:=val (l.drop (j+1))) hm0;have hq:=Vnh (m:=m) (a:=l[j]) (r:=val (l.drop (j+1))%m) hr ha;have bU:val (l.drop (j+1))%m*4294967296<=4294967295*4294967296:=Ww _ (by omega);generalize gD:val (l.drop (j+1))%m=r at *;have w1:IntKind.u64.wrap ((r:Int)*4294967296)=((r*4294967296:Nat):Int):=(by rw[BT]<;>omega);have w2:A5 .u64 (.int .u32 (l[j]:Int))=some (.int .u64 (l[j]:Int)):=(by rw[AV,BT (by omega) (by omega)]);have w3:IntKind.u64.wrap (((r*4294967296:Nat):Int)+(l[j]:Int))=((r*4294967296+l[j]:Nat):Int):=(by rw[BT]<;>omega);have w4:IntKind.u64.wrap (((r*4294967296+l[j]:Nat):Int).tdiv (m:Int))=(((r*4294967296+l[j]) / m:Nat):Int):=(by rw[show(((r*4294967296+l[j]:Nat):Int).tdiv (m:Int))=(((r*4294967296+l[j]) / m:Nat):Int) from rfl,BT (Y3 _) (Int.lt_of_lt_of_le (Int.ofNat_lt.2 hq) (by decide))]);have w5:A5 .u32 (.int .u64 (((r*4294967296+l[j]) / m:Nat):Int))=some (.int .u32 (((r*4294967296+l[j]) / m:Nat):Int)):=(by rw[AV,CX (Y3 _) (Int.ofNat_lt.2 hq)]);have w6:(((r*4294967296+l[j]:Nat):Int).tmod (m:Int))=(((r*4294967296+l[j])%m:Nat):Int):=rfl;have w7:I_.wrap ((j:Int)-1)=(j:Int)-1:=Am (by omega) (by omega);have hidx:=CZ (sz:=1) (id:=H.length) (n:=l.length) (K:=.i64) (g:=0) (off:=0) (cap:=l.length) (ex:=true) (i:=j) hj;simp only[VK,Wa]at hidx;have hst:=Eb (f:=cU) (sz:=1) (l:=O) (i:=j) (a:=(r*4294967296+l[j]) / m) (v:=.int .u32 (((r*4294967296+l[j]) / m:Nat):Int)) (H:=H++[Blk.c0 (flat cU O)]) (id:=H.length) (A0 Ap) (by omega) rfl;rw[Wa,BE Ap,Bg]at hst;have hge:((j:Int)>=0):=(by omega);have yI:(m:Int)≠0:=rO;have:=hrec (j,O.set j ((r*4294967296+l[j]) / m)) ⟨by omega,by simp[h2],λx jP=>by
     rcases Yf jP with h | h;exact h3 x h
     ·rw[h];exact hq,by
     dsimp only;rw[hd,RZ,s1,List.drop_set,zYb (by omega),Wu,Wl (by omega:j<O.length),List.set_cons_zero,RZ,h4]⟩ (by dsimp only;omega)
   dsimp only at this;rw[hd,RZ,s2]at this;rw[hi];simp only[GMw,Ak,hge,w1,A4 hj,AA,zXh,w2,w3,jV 0,NP yI,w4,w5,hidx,hst,and_true,eq_self,HL yI,w6,w7];exact this
def LO (n:Nat):zAa:=if h:n<10 then [UInt8.ofNat (48+n)]else LO (n / 10)++[UInt8.ofNat (48+n%10)]
termination_by n
decreasing_by omega
def Vjc (z:Int):zAa:=if z<0 then 45::LO z.natAbs else LO z.natAbs
def VcI:∀(k n:Nat),n<10^(k+1)->(LO n).length<=k+1:=by
 intro k
 induction k with
 |zero=>intro n h;unfold LO;rw[dif_pos (by omega)];simp
 |succ k ih=>intro n h;unfold LO;split;simp;have h2:n / 10<10^(k+1):=(by rw[Xg (by omega),<-Nat.pow_succ];exact h);have:=ih (n / 10) h2;simp;omega
def V5 (k n:Nat)(h:n<10^k):(LO n).length<=k+(if k=0 then 1 else 0):=by cases k with|zero=>have:=VcI 0 n (by omega);simpa using this|succ k=>have:=VcI k n h;simpa using this
def Vjb {d:Nat}(h:d<10):A5 .u8 (.int .u32 (K_.wrap (48+(d:Int))))=some (.int .u8 ((UInt8.ofNat (48+d)).toNat:Int)):=by
 rw[AV,CX (by omega) (by omega),DW (by omega) (by omega),Ym (show 48+d<256 by omega)]
 rfl
theorem Vik (k:Nat):10^k<=4294967296^k:=Nat.pow_le_pow_left (by omega) k
theorem SV {n:Nat}(h:n<10^4096):(A8 n).length<=4096:=Fr (WO h (Vik 4096))
def MB (z:Int)(H:Aa)(hz:z.natAbs<10^4096):Uah (big z) H=some (.ret (.str (Vjc z)),H):=by
 unfold Uah;have g0:Ad false 1 (.ptr H.length 0 0) (H++[Blk.c0 (A7 z)])=some (.bool (decide (z<0))):=by simp only[Ad,A0 Ap,zXa];rfl
 have g1:Ad false 1 (.ptr H.length 0 1) (H++[Blk.c0 (A7 z)])=some (.sl (enL cU (A8 z.natAbs)) .no):=by simp only[Ad,A0 Ap,zXa];rfl
 simp only[GMw,F4,Aj,VK,g1];have nC:∀n:Nat,n<10^4096->(LO n).length<=4096:=λn h=>V5 4096 n h;have key:=Bf (G:=λrec1 vs H1=>Ue7 H rec1 (ag vs 0) (ag vs 1) (ag vs 2) H1) (σ:=Nat×zAa) (λs=>s.1<10^4096/\s.2.length+(LO s.1).length<=5000)
  (λs=>[.ptr H.length 0 0,.str s.2,.sl (enL cU (A8 s.1)) .no]) (λ_=>H++[.c0 (A7 z)]) (λs=>(LO s.1).length)
  (λs=>some (.ret (.str ((if z<0 then [45]else [])++LO s.1++s.2)),H)) (λs rec hs hrec=>?_) (z.natAbs,[]) ⟨hz,by have:=nC _ hz;simp;omega⟩ (by have:=nC _ hz;dsimp only;omega)
 refine key.trans ?_;unfold Vjc;dsimp only;split<;>simp
 ·obtain⟨n,s⟩:=s;obtain⟨h1,h2⟩:=hs;simp only at h1 h2 hrec⊢;have sW:=λH=>VkT (A8 n) .no 10 H (by have:=SV h1;omega) (Bw n) (by omega) (by omega);simp only[B6,show((10:Nat):Int)=10 from rfl]at sW;have hd:n%10<10:=Xw _ (by omega);have wV:=Vjb hd;unfold Ue7;simp only[GMw,Ak,sW,Ba,Bd,wV,VgU,PN];rw[Dj (by simp;omega)];simp only[GMw,Ax];by_cases hn:n<10;have h0:n / 10=0:=(by omega);have hm:n%10=n:=(by omega);have jN:LO n=[UInt8.ofNat (48+n)]:=(by unfold LO;rw[dif_pos hn]);rw[jN,h0,Ef,hm];simp only[GMw,zXk,show((0:Nat):Int)=0 from rfl,Aj,Nat.add_zero,g0];by_cases mS:z<0;simp only[mS,GMw];rw[Dj (by simp;omega)];simp only[GMw,VeL];simp;simp only[mS,GMw,VeL];simp
  ·have h0:n / 10≠0:=(by omega);have hne:¬((A8 (n / 10)).length:Int)=0:=(by have:=W6.2 (Pk h0);omega);have jN:LO n=LO (n / 10)++[UInt8.ofNat (48+n%10)]:=by
    conv=>lhs;unfold LO
    rw[dif_neg hn]
   have hlen:(LO n).length=(LO (n / 10)).length+1:=(by rw[jN];simp);have:=hrec (n / 10,[UInt8.ofNat (48+n%10)]++s) ⟨WE (Nat.div_le_self _ _) h1,by simp;omega⟩ (by dsimp only;omega);simp only[hne,GMw];rw[this,jN];simp
def qa (v:Nat)(x:Int)(k:Nat):Int:=if k%2=1 then x+2^(v-1)else x
def qb (v:Nat)(y:Int)(k:Nat):Int:=if 1<k then y+2^(v-1)else y
def inQ (v:Nat)(a b:Int)(c:Cl):Bool:=decide (a<=c.x)&&decide (c.x<a+2^(v-1))&&decide (b<=c.y)&&decide (c.y<b+2^(v-1))
def ER (v:Nat)(x y:Int)(k:Nat)(l:List Cl):List Cl:=l.filter (inQ v (qa v x k) (qb v y k))
def ViJ:List Cl->Int
 |[]=>0
 |c::_=>(c.s.toNat:Int)
def plK (rec:List Nd->Int->Int->List Cl->List Nd×Nat)(v:Nat)(x y:Int)(l:List Cl):Nat->List Nd->List Nd×Nd
 |0,out=>(out,⟨v,0,0,0,0⟩)
 |k+1,out=>
  if v=1 then ((plK rec v x y l k out).1,(plK rec v x y l k out).2.setKid k (ViJ (ER v x y k l)))
  else ((rec (plK rec v x y l k out).1 (qa v x k) (qb v y k) (ER v x y k l)).1,(plK rec v x y l k out).2.setKid k ((rec (plK rec v x y l k out).1 (qa v x k) (qb v y k) (ER v x y k l)).2:Int))
def Br:Nat->List Nd->Int->Int->List Cl->List Nd×Nat
 |0,out,_,_,_=>(out,0)
 |v+1,out,x,y,l=>if l=[]then (out,0)else ((plK (Br v) (v+1) x y l 4 out).1++[(plK (Br v) (v+1) x y l 4 out).2],(plK (Br v) (v+1) x y l 4 out).1.length+1)
def MS (v:Nat)(x y:Int)(l:List Cl):Nat->Nat
 |0=>0
 |k+1=>MS v x y l k+(ER v x y k l).length
theorem Vig (v:Nat):(0:Int)<2^(v-1):=XG (by omega)
def RP (v:Nat)(x y:Int):∀l:List Cl,MS v x y l 4<=l.length
 |[]=>by simp[MS,ER]
 |c::l=>by
  have ih:=RP v x y l;have gG:∀(p:Bool)(m:List Cl),(if p=true then c::m else m).length=(if p=true then 1 else 0)+m.length:=λp m=>by cases p<;>simp<;>omega
  simp only[MS,ER,WH,qa,qb,gG]at ih⊢;simp only[show(0:Nat)%2=0 from rfl,show ¬(1:Nat)<0 from by omega,show ¬(1:Nat)<1 from by omega,show(1:Nat)<2 from by omega,show(1:Nat)<3 from by omega,zYd,zYe,show ¬(0:Nat)=1 from by omega]at ih⊢;have key:(if inQ v x y c then 1 else 0)+(if inQ v (x+2^(v-1)) y c then 1 else 0)+(if inQ v x (y+2^(v-1)) c then 1 else 0)+(if inQ v (x+2^(v-1)) (y+2^(v-1)) c then 1 else 0)<=1:=by unfold inQ;have hp:=Vig v;generalize (2:Int)^(v-1)=h at hp;simp only[VV,zXe];split<;>split<;>split<;>split<;>first | omega | (exfalso;omega)
  simp only[zXj];omega
def VgG (v:Nat)(x y:Int)(l:List Cl){k:Nat}(h:k<=4):MS v x y l k<=l.length:=by
 have h4:=RP v x y l
 match k,h with
 |0,_=>simp[MS]
 |1,_=>simp only[MS]at h4⊢;omega
 |2,_=>simp only[MS]at h4⊢;omega
 |3,_=>simp only[MS]at h4⊢;omega
 |4,_=>exact h4

mutual
theorem Vg:∀(v:Nat)(out:List Nd)(x y:Int)(l:List Cl),(Br v out x y l).1.length<=out.length+l.length*v
 |0,out,x,y,l=>by simp[Br]
 |v+1,out,x,y,l=>by unfold Br;split;simp;rename_i hl;have h:=R8 v out x y l 4 (VM _);have hc:=RP (v+1) x y l;have hpos:0<l.length:=W6.2 hl;have:MS (v+1) x y l 4*v<=l.length*v:=Ww _ hc;have e:l.length*(v+1)=l.length*v+l.length:=Nat.mul_succ _ _;simp only[VR,zXi];omega
theorem R8:∀(v:Nat)(out:List Nd)(x y:Int)(l:List Cl)(k:Nat),k<=4->(plK (Br v) (v+1) x y l k out).1.length<=out.length+MS (v+1) x y l k*v
 |v,out,x,y,l,0,_=>by simp[plK,MS]
 |v,out,x,y,l,k+1,h=>by have ih:=R8 v out x y l k (by omega);unfold plK MS;rw[WB];split;dsimp only;omega;have:=Vg v (plK (Br v) (v+1) x y l k out).1 (qa (v+1) x k) (qb (v+1) y k) (ER (v+1) x y k l);dsimp only;omega

end
def PS (b:Nat)(out:List Nd)(v:Ab)(H:Aa):Prop:=(out=[]/\v=.sl [] .ti)\/∃t,b<=t/\v=.sl (enL cNd out) (.own t)/\H[t]? = some (.tok out.length AO 5)
structure Kp (b:Nat)(H H':Aa):Prop where
 len:H.length<=H'.length
 cel:∀(i:Nat)(cs:List Ab),H[i]? = some (.c0 cs)->H'[i]? = some (.c0 cs)
 old:∀i,i<b->H'[i]? = H[i]?
theorem Kp.refl (b:Nat)(H:Aa):Kp b H H:=⟨VM _,λ_ _ h=>h,λ_ _=>rfl⟩
theorem Kp.trans {b:Nat}{H H1 H2:Aa}(h:Kp b H H1)(h':Kp b H1 H2):Kp b H H2:=
 ⟨Wg h.len h'.len,λi cs hc=>h'.cel i cs (h.cel i cs hc),λi hi=>(h'.old i hi).trans (h.old i hi)⟩
theorem Kp.app {b:Nat}{H:Aa}(hb:b<=H.length)(G:Aa):Kp b H (H++G):=
 ⟨by simp,λi cs h=>A1 h,λi hi=>by rw[VN (by omega)]⟩
theorem PS.sl {b:Nat}{out:List Nd}{v:Ab}{H:Aa}(h:PS b out v H):∃tk,v=.sl (enL cNd out) tk:=by rcases h with ⟨rfl,rfl⟩ | ⟨t,_,rfl,_⟩;exact⟨_,rfl⟩;exact⟨_,rfl⟩
theorem PS.left {b:Nat}{out:List Nd}{v:Ab}{H:Aa}(h:PS b out v H)(G:Aa):PS b out v (H++G):=by rcases h with h1 | ⟨t,h1,h2,h3⟩;exact .inl h1;exact .inr ⟨t,h1,h2,A1 h3⟩
theorem PS.put {b p:Nat}{out:List Nd}{v:Ab}{H:Aa}{c c':List Ab}(h:PS b out v H)(hp:H[p]? = some (.c0 c)):PS b out v (H.set p (.c0 c')):=by
 rcases h with h1 | ⟨t,h1,h2,h3⟩;exact .inl h1
 ·refine .inr ⟨t,h1,h2,?_⟩;have:p≠t:=λe=>by rw[<-e,hp]at h3;cases h3
  rw[VH this];exact h3
theorem PS.snoc {b:Nat}{out:List Nd}{v:Ab}{H:Aa}(h:PS b out v H)(hb:b<=H.length)(x:Nd)(hl:out.length<3518437208883):∃v' H',AS AO 5 40 v (.sl (enL cNd [x]) .ti) H=some (v',H')/\PS b (out++[x]) v' H'/\Kp b H H':=by
 rcases h with ⟨rfl,rfl⟩ | ⟨t,h1,rfl,h3⟩;have:=De (f:=cNd) (l:=[]) (m:=[x]) (ty:=AO) (bytes:=40) (tk:=.ti) (H:=H) (by simp) (by simp) (by simp);exact⟨_,_,this,.inr ⟨H.length,hb,rfl,by simp⟩,Kp.app hb _⟩;have:=F5 (f:=cNd) (l:=out) (m:=[x]) (ty:=AO) (bytes:=40) (tk:=.ti) (H:=H) (t:=t) (by simp) h3 (by simp;omega) (by simp;omega);have jC:=(VJ.1 h3).1;refine⟨_,_,this,.inr ⟨t,h1,rfl,by simp[jC]⟩,⟨by simp,λi cs hc=>?_,λi hi=>?_⟩⟩;have:t≠i:=λe=>(by rw[<-e,h3]at hc;cases hc);rw[VH this];exact hc;rw[VH (by omega)]
def VpY (k:Nat):Nat:=2^k
def TOP:Nat:=VpY 1400
theorem Vkv {k m:Nat}(h:k<32*m):VpY k<4294967296^m:=VbY h
theorem Vkw {v k:Nat}(h:v<=k):2^v<=VpY k:=VkY h
theorem Vee:TOP<4294967296^44:=Vkv (by decide)
theorem Vj1 {v:Nat}(h:v<=1400):2^v<=TOP:=Vkw h
def Cn (v:Nat)(z:Int):Prop:=z.natAbs+2^v<=TOP
def Jj (v:Nat):((2:Int)^v).natAbs=2^v:=by rw[Y0];rfl
theorem Cn.sb {v:Nat}{z:Int}(h:Cn v z):SB 44 z:=by exact WE (Wg (Nat.le_add_right _ _) h) Vee
theorem Cn.add {v:Nat}{z:Int}(h:Cn (v+1) z):Cn v (z+2^v)/\Cn v z:=by unfold Cn at *;have e:(2:Nat)^(v+1)=2^v*2:=Nat.pow_succ _ _;have h1:=YA z (2^v);rw[Jj]at h1;omega
def EY {v:Nat}(h:v<=1400):SB 44 (2^v):=by unfold SB;rw[Jj];exact WE (Vj1 h) Vee
theorem Cn.sb1 {v:Nat}{z:Int}(h:Cn (v+1) z):SB 44 (z+2^v)/\SB 44 (z+2^v+2^v):=by refine⟨h.add.1.sb,?_⟩;unfold Cn at h;have e:(2:Nat)^(v+1)=2^v*2:=Nat.pow_succ _ _;have h1:=YA z (2^v);have h2:=YA (z+2^v) (2^v);rw[Jj]at h1 h2;exact WE (show(z+2^v+2^v).natAbs<=TOP by omega) Vee
section
variable {Hc:Aa}{a c:List Ab}{z:Int}
theorem st0 (ha:a.length=2):Ae 2 (.ptr Hc.length 0 0) (big z) (Hc++[Blk.c0 a]++[Blk.c0 c])=some (Hc++[Blk.c0 (A7 z)]++[Blk.c0 c]):=by rw[Cc (cs:=a) (by simp) ha];simp
theorem st1 (hc:c.length=2):Ae 2 (.ptr (Hc.length+1) 0 0) (big z) (Hc++[Blk.c0 a]++[Blk.c0 c])=some (Hc++[Blk.c0 a]++[Blk.c0 (A7 z)]):=by rw[Cc (cs:=c) (by simp) hc];simp

end
def Vag (H:Aa)(self:Ab->Ab->Ab->Ab->Ab->Aa->Out)(j2:LK)(v:Nat)(hv:v<=1329)(w:Ab)(l:List Cl)(tk:Tok)(p6 p8 p15 p20 p45 p47 k:Nat)(B:Aa)(qa qb:Int)(out:Out)
  (hl:l.length<549755813888)(hok:∀c∈l,c.ok)(h15:B[p15]? = some (.c0 (A7 (2^(v-1)))))(qC:B[p45]? = some (.c0 (A7 qa)))(h47:B[p47]? = some (.c0 (A7 qb)))
  (ca:SB 44 qa/\SB 44 (qa+2^(v-1)))(cb:SB 44 qb/\SB 44 (qb+2^(v-1)))
  (fin:∀bQ:LK,Ual H self j2 bQ w (.i6 (v:Int)) (.sl (enL cCl l) tk) (.ptr p6 0 0) (.ptr p8 0 0) (.ptr p15 0 0) (.ptr p20 0 0) (.i6 (k:Int)) (.ptr p45 0 0) (.ptr p47 0 0) (Eo cCl B (l.filter (inQ v qa qb))) (.i6 (l.length:Int)) (Ee cCl A6 5 B (l.filter (inQ v qa qb)))=out):UdM H self j2 w (.i6 (v:Int)) (.sl (enL cCl l) tk) (.ptr p6 0 0) (.ptr p8 0 0) (.ptr p15 0 0) (.ptr p20 0 0) (.i6 (k:Int)) (.ptr p45 0 0) (.ptr p47 0 0) B=out:=by
 unfold UdM;refine Ct (G:=λbQ vs H1=>Ual H self j2 bQ (ag vs 0) (ag vs 1) (ag vs 2) (ag vs 3) (ag vs 4) (ag vs 5) (ag vs 6) (ag vs 7) (ag vs 8) (ag vs 9) (ag vs 10) (ag vs 11) H1) l.length
  (λi=>[w,.i6 (v:Int),.sl (enL cCl l) tk,.ptr p6 0 0,.ptr p8 0 0,.ptr p15 0 0,.ptr p20 0 0,.i6 (k:Int),.ptr p45 0 0,.ptr p47 0 0,Eo cCl B ((l.take i).filter (inQ v qa qb)),.i6 (i:Int)]) (λi=>Ee cCl A6 5 B ((l.take i).filter (inQ v qa qb))) _ (by omega) (λrec i hi=>?_) (λrec=>?_)
 ·have aE:(i:Int)<(l.length:Int):=by omega
  have aP:=Ar (show i<9223372036854775807 by omega);have nM:=hok _ (VY hi);rw[VU hi,W9];have dI:((l.take i).filter (inQ v qa qb)).length<=i:=Wg (Xh _ _) (by simp;omega);generalize ((l.take i).filter (inQ v qa qb))=fo at dI;obtain⟨G,hG⟩:=GD (f:=cCl) (ty:=A6) (sz:=5) B fo;have t15:=Bn (A1 (G:=G) h15);have t45:=Bn (A1 (G:=G) qC);have t47:=Bn (A1 (G:=G) h47);have ha:=DR (f:=cCl) (ty:=A6) (bytes:=72) (tk:=.ti) (B:=B) (l:=fo) (m:=[l[i]]) (by simp) (by simp;omega) (by simp;omega);rw[hG]at ha⊢;have hp:SB 44 (2^(v-1)):=EY (by omega);have cx:=λH z (hz:SB 44 z)=>Fm l[i].x z H (nM.1.lb (by decide)) (hz.lb (by decide));have cy:=λH z (hz:SB 44 z)=>Fm l[i].y z H (nM.2.lb (by decide)) (hz.lb (by decide));have ad:=λH z (hz:SB 44 z)=>HS z (2^(v-1)) H (hz.lb (by decide)) (hp.lb (by decide));generalize hc:l[i]=cl at nM cx cy ha;unfold Ual;have hidx:=A4 (f:=cCl) (tk:=tk) (K:=.i64) hi;rw[hc]at hidx;have e0:∀(s:Bool),inQ v qa qb cl=s->(if s then [cl]else [])=[cl].filter (inQ v qa qb):=λs h=>by subst h;simp[WH]
  simp only[GMw,Ak,Ax,aE,hidx,A2,VK,VfE,t15,t45,cx _ _ ca.1,HK,Ufm,aP];cases h1:decide (qa<=cl.x)with
  |false=>rw[<-e0 false (by simp[inQ,h1])];simp only[GMw,Pu,and_true,eq_self,Wm,hG]
  |true=>
   simp only[GMw,Vbf,and_true,eq_self,t47,ad _ _ ca.1,hidx,A2,VK,VfE,cx _ _ ca.2,HJ];cases h2:decide (cl.x<qa+2^(v-1))with
   |false=>rw[<-e0 false (by simp[inQ,h2])];simp only[GMw,Pu,eq_self,Wm,hG]
   |true=>
    simp only[GMw,t15,t47,hidx,A2,VK,VfD,cy _ _ cb.1,HK];cases h3:decide (qb<=cl.y)with
    |false=>rw[<-e0 false (by simp[inQ,h3])];simp only[GMw,Pu,eq_self,Wm,hG]
    |true=>simp only[GMw,Vbf,eq_self,ad _ _ cb.1,hidx,A2,VK,VfD,cy _ _ cb.2,HJ];cases h4:decide (cl.y<qb+2^(v-1))with|false=>rw[<-e0 false (by simp[inQ,h4])];simp only[GMw,Wm,hG]|true=>rw[<-e0 true (by unfold inQ;rw[h1,h2,h3,h4];rfl)];simp only[GMw,Pj,Np,ha]
 rw[VW (VM _)];exact fin rec
theorem Vdo {v:Nat}{x y:Int}{k:Nat}{l:List Cl}{c:Cl}(h:c∈ER v x y k l):c∈l:=(X4.1 h).1
theorem Vdp (v:Nat)(x y:Int)(k:Nat)(l:List Cl):(ER v x y k l).length<=l.length:=Xh _ _
def Vo6 (b n:Nat)(self:Ab->Ab->Ab->Ab->Ab->Aa->Out):Prop:=
 ∀(out:List Nd)(w:Ab)(x y:Int)(l:List Cl)(tk:Tok)(H:Aa),PS b out w H->b<=H.length->(∀c∈l,c.ok)->Cn n x->Cn n y->l.length<549755813888->out.length+l.length*n<3518437208883 ->
  ∃H' w',self w (.i6 (n:Int)) (big x) (big y) (.sl (enL cCl l) tk) H=some (.ret (.tup [w',.i6 ((Br n out x y l).2:Int)]),H')/\PS b (Br n out x y l).1 w' H'/\Kp b H H'
def Vq1 {n:Nat}{x:Int}(h:Cn (n+1) x)(k:Nat):Cn n (qa (n+1) x k)/\SB 44 (qa (n+1) x k)/\SB 44 (qa (n+1) x k+2^(n+1-1)):=by unfold qa;rw[Wr];split;exact⟨h.add.1,h.sb1.1,h.sb1.2⟩;exact⟨h.add.2,h.sb,h.sb1.1⟩
def Vq0 {n:Nat}{y:Int}(h:Cn (n+1) y)(k:Nat):Cn n (qb (n+1) y k)/\SB 44 (qb (n+1) y k)/\SB 44 (qb (n+1) y k+2^(n+1-1)):=by unfold qb;rw[Wr];split;exact⟨h.add.1,h.sb1.1,h.sb1.2⟩;exact⟨h.add.2,h.sb,h.sb1.1⟩
def Vdx {b n:Nat}{self:Ab->Ab->Ab->Ab->Ab->Aa->Out}(cK:n=0\/Vo6 b n self)(hn:n+1<=1329)(H Hc:Aa)(out:List Nd)(w:Ab)(x y:Int)(l:List Cl)(tk:Tok)(p6 p8 p15 p20 k:Nat)(hk:k<4)(hb:b<=H.length)(h20:H.length<=p20)
  (hok:∀c∈l,c.ok)(cnx:Cn (n+1) x)(cny:Cn (n+1) y)(hl:l.length<549755813888)(hlen:out.length+l.length*(n+1)<3518437208883)
  (hPS:PS b (plK (Br n) (n+1) x y l k out).1 w Hc)(f6:Hc[p6]? = some (.c0 (A7 x)))(f8:Hc[p8]? = some (.c0 (A7 y)))(f15:Hc[p15]? = some (.c0 (A7 (2^(n+1-1)))))(f20:Hc[p20]? = some (.c0 (cNd (plK (Br n) (n+1) x y l k out).2)))(hKp:Kp b H Hc)(d6:p6≠p20)(d8:p8≠p20)(d15:p15≠p20):∃w' Hd,(∀rec:LK,UbQ H self rec w (.i6 ((n+1:Nat):Int)) (.sl (enL cCl l) tk) (.ptr p6 0 0) (.ptr p8 0 0) (.ptr p15 0 0) (.ptr p20 0 0) (.i6 (k:Int)) Hc=rec [w',.i6 ((n+1:Nat):Int),.sl (enL cCl l) tk,.ptr p6 0 0,.ptr p8 0 0,.ptr p15 0 0,.ptr p20 0 0,.i6 ((k+1:Nat):Int)] Hd) /\
   PS b (plK (Br n) (n+1) x y l (k+1) out).1 w' Hd/\Hd[p6]? = some (.c0 (A7 x))/\Hd[p8]? = some (.c0 (A7 y))/\Hd[p15]? = some (.c0 (A7 (2^(n+1-1))))/\Hd[p20]? = some (.c0 (cNd (plK (Br n) (n+1) x y l (k+1) out).2))/\Kp b H Hd:=by
 have hk':(k:Int)<4:=by omega
 have aP:=Ar (show k<9223372036854775807 by omega);have hp:SB 44 (2^(n+1-1)):=EY (by omega);have oC:(k:Int).tmod 2=((k%2:Nat):Int):=rfl;have hra:decide (((k%2:Nat):Int)=1)=decide (k%2=1):=by rw[VZ];simp;omega
 have pK:decide ((k:Int)>1)=decide (1<k):=by rw[VZ];simp only[zXe];omega
 have adx:=λH=>HS x (2^(n+1-1)) H (cnx.sb.lb (by decide)) (hp.lb (by decide));have ady:=λH=>HS y (2^(n+1-1)) H (cny.sb.lb (by decide)) (hp.lb (by decide));obtain⟨ca1,ca2⟩:=Vq1 cnx k;obtain⟨cb1,cb2⟩:=Vq0 cny k;have start:∀(j2:LK)(O:Out),UdM H self j2 w (.i6 ((n+1:Nat):Int)) (.sl (enL cCl l) tk) (.ptr p6 0 0) (.ptr p8 0 0) (.ptr p15 0 0) (.ptr p20 0 0) (.i6 (k:Int)) (.ptr Hc.length 0 0) (.ptr (Hc.length+1) 0 0) (Hc++[Blk.c0 (A7 (qa (n+1) x k))]++[Blk.c0 (A7 (qb (n+1) y k))])=O ->
   (bC (Ad true 2 (.ptr p6 0 0) Hc) (λ_=>True) λx44=>
    Al (Av (some [(.bool false),(.sl [] .ti)]) Hc) λx45 H46=>
    Al (Av (some [(.bool false),(.sl [] .ti)]) H46) λx47 H48=>
    AH (As (Ae 2 x45 x44 H48)) λ_ H50=>
    bC (Ad true 2 (.ptr p8 0 0) H50) (λx51=>Ad true 2 (.ptr p8 0 0) Hc=some x51/\True) λx51=>
    bK H (As (Ae 2 x47 x51 H50)) λ_ H53=>
    AL (λj3=>
    (Af .n .rem (.i6 (k:Int)) (.i6 2)).bind λx197=>
    (Af .n .eql x197 (.i6 1)).bind λx198=>
    Ai x198 (
    (Ad true 2 (.ptr p6 0 0) H53).bind λx199=>
    (Ad true 2 (.ptr p15 0 0) H53).bind λx200=>
    bK H (Uaa x199 x200 H53) λx201 H202=>
    bK H (As (Ae 2 x45 x201 H202)) λ_ H204=>
    j3 [w,(.i6 ((n+1:Nat):Int)),(.sl (enL cCl l) tk),(.ptr p6 0 0),(.ptr p8 0 0),(.ptr p15 0 0),(.ptr p20 0 0),(.i6 (k:Int)),x45,x47] H204) (
    j3 [w,(.i6 ((n+1:Nat):Int)),(.sl (enL cCl l) tk),(.ptr p6 0 0),(.ptr p8 0 0),(.ptr p15 0 0),(.ptr p20 0 0),(.i6 (k:Int)),x45,x47] H53)) (λvs H1=>UaV H self j2 (ag vs 0) (ag vs 1) (ag vs 2) (ag vs 3) (ag vs 4) (ag vs 5) (ag vs 6) (ag vs 7) (ag vs 8) (ag vs 9) H1))=O:=by
  intro j2 O hO;have l1:(Hc++[Blk.c0 [Ab.bool false,.sl [] .ti]]).length=Hc.length+1:=by simp
  have g6:=λ(G G':Aa)=>Bn (A1 (G:=G') (A1 (G:=G) f6));have g8:=λ(G G':Aa)=>Bn (A1 (G:=G') (A1 (G:=G) f8));have g15:=λ(G G':Aa)=>Bn (A1 (G:=G') (A1 (G:=G) f15));have s0:=λ(z:Int) (c:List Ab)=>st0 (Hc:=Hc) (a:=[.bool false,.sl [] .ti]) (c:=c) (z:=z) rfl;have s0':=λ(z z':Int) (c:List Ab)=>st0 (Hc:=Hc) (a:=A7 z') (c:=c) (z:=z) rfl;have s1:=λ(z:Int) (a:List Ab)=>st1 (Hc:=Hc) (a:=a) (c:=[.bool false,.sl [] .ti]) (z:=z) rfl;have s1':=λ(z z':Int) (a:List Ab)=>st1 (Hc:=Hc) (a:=a) (c:=A7 z') (z:=z) rfl;simp only[GMw,Ak,Bn f6,D6,l1,s0,g8,Bn f8,and_true,eq_self,s1,HL (show(2:Int)≠0 by decide),oC,hra];unfold qa qb at hO;by_cases mJ:k%2=1;rw[zYc mJ]at hO;by_cases hkb:1<k;rw[zYc hkb]at hO;simp only[GMw,Ak,mJ,g6,g15,adx,s0',UaV,pK,hkb,g8,ady,s1'];exact hO;rw[zYb hkb]at hO;simp only[GMw,Ak,mJ,g6,g15,adx,s0',UaV,pK,hkb];exact hO;rw[zYb mJ]at hO;by_cases hkb:1<k;rw[zYc hkb]at hO;simp only[GMw,Ak,mJ,UaV,pK,hkb,g8,g15,ady,s1'];exact hO;rw[zYb hkb]at hO;simp only[GMw,Ak,mJ,UaV,pK,hkb];exact hO
 generalize hB:Hc++[Blk.c0 (A7 (qa (n+1) x k))]++[Blk.c0 (A7 (qb (n+1) y k))]=B at start;have b6:B[p6]? = some (.c0 (A7 x)):=by rw[<-hB];exact A1 (A1 f6)
 have b8:B[p8]? = some (.c0 (A7 y)):=by rw[<-hB];exact A1 (A1 f8)
 have b15:B[p15]? = some (.c0 (A7 (2^(n+1-1)))):=by rw[<-hB];exact A1 (A1 f15)
 have b20:B[p20]? = some (.c0 (cNd (plK (Br n) (n+1) x y l k out).2)):=by rw[<-hB];exact A1 (A1 f20)
 have b45:B[Hc.length]? = some (.c0 (A7 (qa (n+1) x k))):=by rw[<-hB];simp
 have b47:B[Hc.length+1]? = some (.c0 (A7 (qb (n+1) y k))):=by rw[<-hB];simp
 have bPS:PS b (plK (Br n) (n+1) x y l k out).1 w B:=by rw[<-hB];exact(hPS.left _).left _
 have bKp:Kp b H B:=by rw[<-hB,VP];exact hKp.trans (Kp.app (Wg hb hKp.len) _)
 have bX:=VgG (n+1) x y l (show k+1<=4 by omega);have bO:=R8 n out x y l k (by omega);have bU:MS (n+1) x y l (k+1)*n<=l.length*n:=Ww _ bX;rw[show MS (n+1) x y l (k+1)*n=MS (n+1) x y l k*n+(ER (n+1) x y k l).length*n from by rw[<-WB];rfl]at bU;have rJ:l.length*(n+1)=l.length*n+l.length:=Nat.mul_succ _ _;obtain⟨G,hG⟩:=GD (f:=cCl) (ty:=A6) (sz:=5) B (ER (n+1) x y k l);have iV:∀i,l.filter (inQ (n+1) (qa (n+1) x i) (qb (n+1) y i))=ER (n+1) x y i l:=λi=>rfl;suffices hs:∃w' Hd,(∀(rec bQ:LK),Ual H self (λvs H1=>UbP H rec (ag vs 0) (ag vs 1) (ag vs 2) (ag vs 3) (ag vs 4) (ag vs 5) (ag vs 6) (ag vs 7) H1) bQ w (.i6 ((n+1:Nat):Int)) (.sl (enL cCl l) tk) (.ptr p6 0 0) (.ptr p8 0 0) (.ptr p15 0 0) (.ptr p20 0 0) (.i6 (k:Int)) (.ptr Hc.length 0 0) (.ptr (Hc.length+1) 0 0) (Eo cCl B (ER (n+1) x y k l)) (.i6 (l.length:Int)) (B++G)=rec [w',.i6 ((n+1:Nat):Int),.sl (enL cCl l) tk,.ptr p6 0 0,.ptr p8 0 0,.ptr p15 0 0,.ptr p20 0 0,.i6 ((k+1:Nat):Int)] Hd) /\
   PS b (plK (Br n) (n+1) x y l (k+1) out).1 w' Hd/\Hd[p6]? = some (.c0 (A7 x))/\Hd[p8]? = some (.c0 (A7 y))/\Hd[p15]? = some (.c0 (A7 (2^(n+1-1))))/\Hd[p20]? = some (.c0 (cNd (plK (Br n) (n+1) x y l (k+1) out).2))/\Kp b H Hd by
  obtain⟨w',Hd,q1,q2⟩:=hs;refine⟨w',Hd,λrec=>?_,q2⟩;unfold UbQ;simp only[Bz,BI,hk',decide_true,Bb];rw[show ∀(f:LK->Out)(j:LK),AL f j=f j from λ_ _=>rfl];refine start _ _ (Vag H self _ (n+1) hn w l tk p6 p8 p15 p20 Hc.length (Hc.length+1) k B _ _ _ hl hok b15 b45 b47 ca2 cb2 λbQ=>?_);rw[iV,hG];exact q1 rec bQ
 generalize hq:ER (n+1) x y k l=q at hG bU;have Zi:∀c∈q,c.ok:=λc hc=>hok c (by rw[<-hq]at hc;exact Vdo hc);have hql:q.length<=l.length:=by rw[<-hq];exact Vdp _ _ _ _ _
 have t6:=A1 (G:=G) b6;have t8:=A1 (G:=G) b8;have t15:=A1 (G:=G) b15;have t20:=A1 (G:=G) b20;have t45:=A1 (G:=G) b45;have t47:=A1 (G:=G) b47;have tPS:=bPS.left G;have tKp:Kp b H (B++G):=bKp.trans (Kp.app (Wg hb bKp.len) G);have hlast:¬((l.length:Int)<(l.length:Int)):=by omega
 generalize hT:B++G=T at t6 t8 t15 t20 t45 t47 tPS tKp;have xR:=(VJ.1 t20).1;rcases XC n with dQ | dQ
 ·subst dQ;have dW:¬(((0+1:Nat):Int)>1):=by decide
  have iT:(((0+1:Nat):Int)=1):=rfl;have nB:¬((1:Int)>1):=by decide
  have vI:plK (Br 0) (0+1) x y l (k+1) out=((plK (Br 0) (0+1) x y l k out).1,(plK (Br 0) (0+1) x y l k out).2.setKid k (ViJ q)):=by
   conv=>lhs;unfold plK
   rw[zYc rfl,hq]
  rw[vI];cases q with
  |nil=>
   refine⟨w,T,λrec bQ=>?_,tPS,t6,t8,t15,?_,tKp⟩;unfold Ual;simp only[GMw,Ak,Ax,hlast,UdL,iT,nB,show Eo cCl B []=.sl [] .ti from rfl,show A9 (.sl [] .ti)=some (.i6 0) from rfl,show ¬((0:Int)>0) from by decide,UbP,aP]
   ·rw[t20];have:(plK (Br 0) (0+1) x y l k out).2.setKid k (ViJ [])=(plK (Br 0) (0+1) x y l k out).2:=by
     have hz:(plK (Br 0) (0+1) x y l k out).2.kid k=0:=by
      have:∀j,j<=k->(plK (Br 0) (0+1) x y l j out).2.kid k=0:=by
       intro j
       induction j with
       |zero=>intro _;unfold plK Nd.kid;dsimp only;split<;>rfl
       |succ j ihj=>
        intro hj
        conv=>lhs;unfold plK
        rw[zYc rfl];dsimp only;rw[GB _ _ (by omega) hk (by omega)];exact ihj (by omega)
      exact this k (VM _)
     generalize (plK (Br 0) (0+1) x y l k out).2=nd at hz;obtain⟨lv,k0,k1,k2,k3⟩:=nd
     match k,hk,hz with
     |0,_,hz=>simp only[Nd.kid]at hz;subst hz;rfl
     |1,_,hz=>simp only[Nd.kid]at hz;subst hz;rfl
     |2,_,hz=>simp only[Nd.kid]at hz;subst hz;rfl
     |3,_,hz=>simp only[Nd.kid]at hz;subst hz;rfl
    rw[this]
  |cons c q=>have zR:I_.wrap (c.s.toNat:Int)=(c.s.toNat:Int):=OK (by have:=c.s.toNat_lt;omega);have hidx:Aw 5 (.sl (enL cCl (c::q)) (.own B.length)) (.i6 0)=some (.cptr (cCl c) 0):=A4 (f:=cCl) (l:=c::q) (tk:=.own B.length) (K:=.i64) (i:=0) (by simp);have hpos:(((c::q).length:Int)>0):=(by simp only[zXj];omega);refine⟨w,T.set p20 (.c0 (cNd ((plK (Br 0) (0+1) x y l k out).2.setKid k (c.s.toNat:Int)))),λrec bQ=>?_,tPS.put t20,by rw[VH d6.symm];exact t6,by rw[VH d8.symm];exact t8,by rw[VH d15.symm];exact t15,by rw[VX xR];rfl,⟨by simp;exact tKp.len,λi cs hi=>?_,λi hi=>?_⟩⟩;unfold Ual;simp only[GMw,Ak,Ax,hlast,UdL,iT,nB,show Eo cCl B (c::q)=.sl (enL cCl (c::q)) (.own B.length) from rfl,hpos,hidx,A2,Aj,VK,VfG,AV,zR,HY hk,Fj t20 hk,UbP,aP];have:=(VJ.1 hi).1;rw[VH (by omega)];exact tKp.cel i cs hi;rw[VH (by omega)];exact tKp.old i hi
 ·-- a level above: a node
  have jY:Vo6 b n self:=by rcases cK with h | h;omega;exact h
  have dW:(((n+1:Nat):Int)>1):=by omega
  have iT:¬(((n+1:Nat):Int)=1):=by omega
  have mU:I_.wrap (((n+1:Nat):Int)-1)=(n:Int):=by rw[Am]<;>omega
  have vI:plK (Br n) (n+1) x y l (k+1) out=((Br n (plK (Br n) (n+1) x y l k out).1 (qa (n+1) x k) (qb (n+1) y k) q).1,(plK (Br n) (n+1) x y l k out).2.setKid k ((Br n (plK (Br n) (n+1) x y l k out).1 (qa (n+1) x k) (qb (n+1) y k) q).2:Int)):=by
   conv=>lhs;unfold plK
   rw[zYb (by omega),hq]
  rw[vI];obtain⟨H1,w1,r1,r2,r3⟩:=jY _ w (qa (n+1) x k) (qb (n+1) y k) q (VoJ B q) T tPS (Wg hb tKp.len) Zi ca1 cb1 (by omega) (by omega);have u20:=r3.cel _ _ t20;have u20l:=(VJ.1 u20).1;refine⟨w1,H1.set p20 (.c0 (cNd ((plK (Br n) (n+1) x y l k out).2.setKid k ((Br n (plK (Br n) (n+1) x y l k out).1 (qa (n+1) x k) (qb (n+1) y k) q).2:Int)))),λrec bQ=>?_,r2.put u20,by rw[VH d6.symm];exact r3.cel _ _ t6,by rw[VH d8.symm];exact r3.cel _ _ t8,by rw[VH d15.symm];exact r3.cel _ _ t15,by rw[VX u20l],⟨by simp;exact Wg tKp.len r3.len,λi cs hi=>?_,λi hi=>?_⟩⟩;unfold Ual;simp only[GMw,Ak,Ax,hlast,UdL,dW,iT,Gc,mU,Bn t45,Bn t47,r1,Ba,Bd,Aj,VK,HY hk,Fj u20 hk,UbP,aP];have:=(VJ.1 hi).1;rw[VH (by omega)];exact r3.cel _ _ (tKp.cel i cs hi);rw[VH (by omega),r3.old i hi];exact tKp.old i hi
def SE {b n d:Nat}(cK:n=0\/Vo6 b n (Uf6 d))(hn:n+1<=1329):Vo6 b (n+1) (Uf6 (d+1)):=by
 intro out w x y l tk H hPS hb hok cnx cny hl hlen;have aP:I_.wrap (((n+1:Nat):Int)-1)=((n:Nat):Int):=by rw[Am]<;>omega
 have hp:SB 44 (2^(n+1-1)):=EY (by omega);have cD:=λH=>Iw n H (by omega);show ∃H' w',UeI (Uf6 d) _ _ _ _ _ _=_/\_;unfold UeI Br;have s1:∀B:Aa,Ae 2 (.ptr B.length 0 0) (big (2^n)) (B++[.c0 [.bool false,.sl [] .ti]])=some (B++[.c0 (A7 (2^n))]):=λB=>by rw[Cc (Ap (B:=B)) rfl,Bg]
 simp only[GMw,F4,Ax];by_cases h0:l=[];subst h0;simp only[GMw,zXk,show((0:Nat):Int)=0 from rfl];exact⟨_,_,rfl,(hPS.left _).left _,(Kp.app hb _).trans (Kp.app (by simp;omega) _)⟩
 ·have hl0:¬((l.length:Int)=0):=by have:=W6.2 h0;omega
  have wB:=W6.2 h0;simp only[zYb h0,hl0,GMw,aP,cD,D6,s1,TK,PI,JR (Ap (cs:=cNd nd0)) rfl,Bg];generalize h1:H++[Blk.c0 (A7 x)]=H1;generalize h2:H1++[Blk.c0 (A7 y)]=H2;generalize h3:H2++[Blk.c0 (A7 (2^n))]=H3;have e1:H1.length=H.length+1:=by rw[<-h1];simp
  have e2:H2.length=H.length+2:=by rw[<-h2];simp;omega
  have e3:H3.length=H.length+3:=by rw[<-h3];simp;omega
  have f6:(H3++[Blk.c0 (cNd ⟨((n+1:Nat):Int),0,0,0,0⟩)])[H.length]? = some (.c0 (A7 x)):=by rw[<-h3,<-h2,<-h1];simp
  have f8:(H3++[Blk.c0 (cNd ⟨((n+1:Nat):Int),0,0,0,0⟩)])[H1.length]? = some (.c0 (A7 y)):=by rw[<-h3,<-h2];simp
  have f15:(H3++[Blk.c0 (cNd ⟨((n+1:Nat):Int),0,0,0,0⟩)])[H2.length]? = some (.c0 (A7 (2^n))):=by rw[<-h3];simp
  have hPS':PS b out w (H3++[Blk.c0 (cNd ⟨((n+1:Nat):Int),0,0,0,0⟩)]):=by rw[<-h3,<-h2,<-h1];exact(((hPS.left _).left _).left _).left _
  have hKp':Kp b H (H3++[Blk.c0 (cNd ⟨((n+1:Nat):Int),0,0,0,0⟩)]):=by rw[<-h3,<-h2,<-h1];simp only[VP];exact Kp.app hb _
  have loop:=Fp (G:=λrec1 vs Hc=>UbQ H (Uf6 d) rec1 (ag vs 0) (ag vs 1) (ag vs 2) (ag vs 3) (ag vs 4) (ag vs 5) (ag vs 6) (ag vs 7) Hc) 4
   (λk vs Hc=>∃w',vs=[w',.i6 ((n+1:Nat):Int),.sl (enL cCl l) tk,.ptr H.length 0 0,.ptr H1.length 0 0,.ptr H2.length 0 0,.ptr H3.length 0 0,.i6 (k:Int)]/\PS b (plK (Br n) (n+1) x y l k out).1 w' Hc/\Hc[H.length]? = some (.c0 (A7 x))/\Hc[H1.length]? = some (.c0 (A7 y))/\Hc[H2.length]? = some (.c0 (A7 (2^n)))/\Hc[H3.length]? = some (.c0 (cNd (plK (Br n) (n+1) x y l k out).2))/\Kp b H Hc)
   (by decide) (λk vs Hc hk hI=>?_) (vs:=[w,.i6 ((n+1:Nat):Int),.sl (enL cCl l) tk,.ptr H.length 0 0,.ptr H1.length 0 0,.ptr H2.length 0 0,.ptr H3.length 0 0,.i6 0]) (H:=H3++[Blk.c0 (cNd ⟨((n+1:Nat):Int),0,0,0,0⟩)])
   ⟨w,rfl,hPS',f6,f8,f15,by simp[plK],hKp'⟩
  obtain⟨vs',Hc,⟨w',rfl,g1,g2,g3,g4,g5,g6⟩,rec,aB⟩:=loop;have bO:=R8 n out x y l 4 (VM _);have bX:=RP (n+1) x y l;have bU:MS (n+1) x y l 4*n<=l.length*n:=Ww _ bX;have rJ:l.length*(n+1)=l.length*n+l.length:=Nat.mul_succ _ _;obtain⟨w2,H4,a1,a2,a3⟩:=g1.snoc (Wg hb g6.len) (plK (Br n) (n+1) x y l 4 out).2 (by omega);obtain⟨tk4,rfl⟩:=a2.sl;have hf:¬(((4:Nat):Int)<4):=(by decide);refine⟨H4,_,?_,a2,g6.trans a3⟩;rw[aB];unfold UbQ;simp only[GMw,Ak,hf,HV g5,Kx,a1,Ax,VR,zXi];obtain⟨w',rfl,g1,g2,g3,g4,g5,g6⟩:=hI;obtain⟨w2,Hd,q1,q2,q3,q4,q5,q6,q7⟩:=Vdx cK hn H Hc out w' x y l tk H.length H1.length H2.length H3.length k hk hb (by omega) hok cnx cny hl hlen g1 g2 g3 g4 g5 g6 (by omega) (by omega) (by omega);exact⟨_,_,⟨w2,rfl,q2,q3,q4,q5,q6,q7⟩,q1⟩
theorem UZ (b:Nat):∀n d,n+1<=1329->n+1<=d->Vo6 b (n+1) (Uf6 d)
 |0,d,h1,h2=>by obtain⟨d,rfl⟩:∃e,d=e+1:=⟨d-1,by omega⟩;exact SE (.inl rfl) h1
 |n+1,d,h1,h2=>by obtain⟨d,rfl⟩:∃e,d=e+1:=⟨d-1,by omega⟩;exact SE (.inr (UZ b n d (by omega) (by omega))) h1
structure RC where
 n1:Bool
 l1:zAb
 n2:Bool
 l2:zAb
 s:UInt8
def cRC (r:RC):List Ab:=[.bool r.n1,.sl (enL cU r.l1) .no,.bool r.n2,.sl (enL cU r.l2) .no,.int .u8 (r.s.toNat:Int)]
instance:Sz cRC 5:=⟨λ_=>rfl⟩
def RC.fits (r:RC):Prop:=Lim r.l1/\Lim r.l2/\r.l1.length<=549755813888/\r.l2.length<=549755813888
def RC.right (r:RC):Bool:=HD r.n1 r.l1&&HD r.n2 r.l2
def RC.cl (r:RC):Cl:=⟨El r.n1 r.l1,El r.n2 r.l2,r.s⟩
def Voq {r:RC}(h:r.right=true)(hf:r.fits):cRC r=cCl r.cl:=by simp only[RC.right,VV]at h;have e1:=VgZ h.1 hf.1;have e2:=VgZ h.2 hf.2.1;show [Ab.bool r.n1,.sl (enL cU r.l1) .no]++([Ab.bool r.n2,.sl (enL cU r.l2) .no]++[.int .u8 (r.s.toNat:Int)])=_;rw[e1,e2];rfl
def VjX {l:List RC}(h:∀r∈l,r.right=true)(hf:∀r∈l,r.fits):enL cRC l=enL cCl (l.map RC.cl):=by unfold enL;rw[List.map_map];exact Y2 λr hr=>Voq (h r hr) (hf r hr)
def Jn:Nat->Nat->Cl->Nat
 |0,v,_=>v
 |f+1,v,c=>if EX v c then v else Jn f (v+1) c
def Bp (l:List Cl):Nat:=l.foldl (λv c=>Jn (1330-v) v c) 1
theorem VaY:∀f v c,v<=Jn f v c/\Jn f v c<=v+f
 |0,v,c=>⟨VM _,VM _⟩
 |f+1,v,c=>by unfold Jn;split;omega;have:=VaY f (v+1) c;omega
def Vn (l:List Cl):∀v,1<=v->v<=1330->v<=l.foldl (λv c=>Jn (1330-v) v c) v/\l.foldl (λv c=>Jn (1330-v) v c) v<=1330:=by
 induction l with
 |nil=>intro v h1 h2;simp;omega
 |cons c l ih=>intro v h1 h2;have h:=VaY (1330-v) v c;have:=ih (Jn (1330-v) v c) (by omega) (by omega);simp only[List.foldl_cons];omega
theorem SX (l:List Cl):1<=Bp l/\Bp l<=1330:=Vn l 1 (by omega) (by omega)
def Iy (l:List Cl):List Nd×Int:=
 if Bp (DB l)>1329 then ([],4)
 else if VjF (Br (Bp (DB l)) [] (-(2^(Bp (DB l)-1))) (-(2^(Bp (DB l)-1))) (DB l)).1 ((Br (Bp (DB l)) [] (-(2^(Bp (DB l)-1))) (-(2^(Bp (DB l)-1))) (DB l)).2:Int)
 then (Q2 (Br (Bp (DB l)) [] (-(2^(Bp (DB l)-1))) (-(2^(Bp (DB l)-1))) (DB l)).1 (Br (Bp (DB l)) [] (-(2^(Bp (DB l)-1))) (-(2^(Bp (DB l)-1))) (DB l)).2,0)
 else ([],1)
def Vq {l:List Cl}{c:Cl}(h:c∈DB l):c∈l:=by have h1:=(X4.1 h).1;have:=(HW (l:=l) l.length (VM _)).2;rw[VW (VM _)]at this;exact this c h1
def Vr (l:List Cl):(DB l).length<=l.length:=by have h1:(DB l).length<=(DX l).length:=Xh _ _;have:=(HW (l:=l) l.length (VM _)).1;rw[VW (VM _)]at this;omega
def VgH {v:Nat}(h1:1<=v)(h:v<=1329):Cn v (-(2^(v-1))):=by unfold Cn;rw[Int.natAbs_neg,Jj];have e:(2:Nat)^(v+1)=2^v*2:=Nat.pow_succ _ _;have e1:(2:Nat)^(v-1)<=2^v:=Wn (by omega) (by omega);have:=Vj1 (v:=v+1) (by omega);omega
def IH {H Hq:Aa}{tk:Tok}{Q:List Nd}{e:Int}(hc:Hq[H.length]? = some (.c0 [.sl [] .ti]))(hold:∀i,i<H.length->Hq[i]? = H[i]?):(bP H (As (Ae 1 (.ptr H.length 0 0) (.agg [.sl (enL cNd Q) tk]) Hq)) λ_ H37=>(BV [Ad true 1 (.ptr H.length 0 0) H37,some (.i6 e)]).bind λx38=>rPN H x38 H37)=some (.ret (.tup [En Q,.i6 e]),H):=by
 have aG:=(VJ.1 hc).1;have hst:Ae 1 (.ptr H.length 0 0) (.agg [.sl (enL cNd Q) tk]) Hq=some (Hq.set H.length (.c0 [.sl (enL cNd Q) tk])):=by simp only[Ae,A0 hc,zXa,BE hc];rfl
 have hld:Ad true 1 (.ptr H.length 0 0) (Hq.set H.length (.c0 [.sl (enL cNd Q) tk]))=some (.agg [.sl (enL cNd Q) tk]):=by
  have:(Hq.set H.length (.c0 [.sl (enL cNd Q) tk]))[H.length]? = some (.c0 [.sl (enL cNd Q) tk]):=by rw[VX aG]
  simp only[Ad,A0 this,zXa];rfl
 have bD:(Hq.set H.length (.c0 [.sl (enL cNd Q) tk])).take H.length=H:=Cu λi hi=>by rw[VH (by omega),hold i hi]
 simp only[GMw,hst,hld,B2,AW,Bl,zXb,Fl bD,CH,BC,BY,Ht,Fw,Gp,Jb,Da]
 rfl
def VfC {G:LK->LK}(N:Nat)(p:Nat->Bool)(st:Nat->List Ab)(H:Aa)(yes no:Out)(hN:N<1152921504606846976)
  (turn:∀(rec:LK)(i:Nat),i<N->G rec (st i) H=if p i then rec (st (i+1)) H else no)(last:(List.range N).all p=true->∀rec:LK,G rec (st N) H=yes):An G AI (st 0) H=if (List.range N).all p then yes else no:=by
 refine Bf (σ:=Nat) (λi=>i<=N/\∀j,j<i->p j=true) st (λ_=>H) (λi=>N-i) (λ_=>if (List.range N).all p then yes else no) (λi rec hi hrec=>?_) 0 ⟨Wi _,λj hj=>by omega⟩ (by omega);by_cases h:i<N
 ·rw[turn rec i h];cases hp:p i with
  |true=>exact hrec (i+1) ⟨h,λj hj=>by
    by_cases e:j=i;rw[e];exact hp
    ·exact hi.2 j (by omega)⟩ (by omega)
  |false=>have:(List.range N).all p=false:=(by rw[X7];exact⟨i,by simpa using h,by simp[hp]⟩);simp[this]
 ·have e:i=N:=by omega
  subst e;have:(List.range i).all p=true:=by rw[Wf];intro j hj;exact hi.2 j (by simpa using hj)
  rw[last this,this];rfl
def SJ (S:List Cl):List Nd×Int:=
 if Bp S>1329 then ([],4)
 else if VjF (Br (Bp S) [] (-(2^(Bp S-1))) (-(2^(Bp S-1))) S).1 ((Br (Bp S) [] (-(2^(Bp S-1))) (-(2^(Bp S-1))) S).2:Int)
 then (Q2 (Br (Bp S) [] (-(2^(Bp S-1))) (-(2^(Bp S-1))) S).1 (Br (Bp S) [] (-(2^(Bp S-1))) (-(2^(Bp S-1))) S).2,0)
 else ([],1)
theorem Vfz (l:List Cl):Iy l=SJ (DB l):=rfl
def VfK (H B:Aa)(aA:LK)(p:Ab)(l:List Cl)(tk:Tok)(i:Nat)(hi:i<l.length)(rT:l.length<2147483648)(hc:l[i].ok):∀(f v n:Nat),f+v=1330->1<=v->f<n ->
  An (λdL vs H1=>UdU H aA dL (ag vs 0) (ag vs 1) (ag vs 2) (ag vs 3) H1) n [p,.sl (enL cCl l) tk,.i6 (v:Int),.i6 (i:Int)] B=aA [p,.sl (enL cCl l) tk,.i6 (Jn f v l[i]:Int),.i6 ((i+1:Nat):Int)] B:=by
 intro f
 induction f with
 |zero=>
  intro v n h1 h2 h3;obtain⟨n,rfl⟩:∃m,n=m+1:=⟨n-1,by omega⟩;have hv:¬(v:Int)<=1329:=by omega
  have aP:=Ar (show i<9223372036854775807 by omega);rw[Bx];unfold UdU;simp only[GMw,Ak,hv,aP]
  rfl
 |succ f ih=>
  intro v n h1 h2 h3;obtain⟨n,rfl⟩:∃m,n=m+1:=⟨n-1,by omega⟩;have hv:(v:Int)<=1329:=by omega
  have aP:=Ar (show i<9223372036854775807 by omega);have uN:=Ar (show v<9223372036854775807 by omega);have hw:=λH=>Vds l[i] v H hc h2 (by omega);rw[Bx];unfold UdU Jn;simp only[GMw,Ak,hv,A4 hi,Pj,hw];cases EX v l[i]with|true=>simp only[GMw,aP]|false=>simp only[GMw,uN];exact ih (v+1) n (by omega) (by omega) (by omega)
def OW {H:Aa}{e:Int}:((Az (some [(.sl [] .ti)]) []).bind λx57=>bP H (As (Ae 1 (.ptr H.length 0 0) x57 (H++[.c0 [.sl [] .ti]]))) λ_ H59=>(BV [Ad true 1 (.ptr H.length 0 0) H59,some (.i6 e)]).bind λx60=>rPN H x60 H59)=some (.ret (.tup [En [],.i6 e]),H):=by rw[show Az (some [(.sl [] .ti)]) []=some (.agg [.sl (enL cNd []) .ti]) from rfl];rw[BI];exact IH (by simp) λi hi=>by rw[VN hi]
def Vnm (l:List RC)(tk:Tok)(H:Aa)(hl:l.length<2147483648)(hf:∀r∈l,r.fits)(hs:∀r∈l,r.right=true->r.cl.ok):UbT (.sl (enL cRC l) tk) H=some (.ret (if l.all RC.right then .tup [En (Iy (l.map RC.cl)).1,.i6 (Iy (l.map RC.cl)).2]else .tup [En [],.i6 1]),H):=by
 unfold UbT;rw[alloc_eq (cs:=[.sl [] .ti]) rfl];simp only[GMw];have aD:l.all RC.right=(List.range l.length).all λi=>match l[i]? with | some r=>r.right | none=>true:=by
  rw[VZ,Wf,Wf];constructor;intro h i hi;have aE:i<l.length:=(by simpa using hi);rw[VG aE];exact h _ (VY aE)
  ·intro h r hr;obtain⟨i,hi,rfl⟩:=Ws hr;have:=h i (by simpa using hi)
   rwa [VG hi]at this
 have key:=VfC (G:=λrec1 vs H1=>UdW H rec1 (ag vs 0) (ag vs 1) (ag vs 2) H1) l.length (λi=>match l[i]? with | some r=>r.right | none=>true) (λi=>[.sl (enL cRC l) tk,.ptr H.length 0 0,.i6 (i:Int)]) (H++[.c0 [.sl [] .ti]])
  (some (.ret (.tup [En (Iy (l.map RC.cl)).1,.i6 (Iy (l.map RC.cl)).2]),H)) (some (.ret (.tup [En [],.i6 1]),H)) (by omega) (λrec i hi=>?_) (λhr rec=>?_)
 ·refine key.trans ?_;rw[aD];cases(List.range l.length).all λi=>match l[i]? with | some r=>r.right | none=>true<;>rfl
 ·have aE:(i:Int)<(l.length:Int):=by omega
  have aP:=Ar (show i<9223372036854775807 by omega);have dZ:=hf _ (VY hi);have g1:∀H,Ad true 2 (.cptr (cRC l[i]) 0) H=some (.agg [.bool l[i].n1,.sl (enL cU l[i].l1) .no]):=λH=>rfl;have g2:∀H,Ad true 2 (.cptr (cRC l[i]) 2) H=some (.agg [.bool l[i].n2,.sl (enL cU l[i].l2) .no]):=λH=>rfl;have r1:=λH=>Vd l[i].n1 l[i].l1 .no H dZ.2.2.1;have r2:=λH=>Vd l[i].n2 l[i].l2 .no H dZ.2.2.2;unfold UdW;simp only[GMw,Ax,aE,A4 hi,A2,VK,g1,r1,VG hi,RC.right];cases HD l[i].n1 l[i].l1 with
  |false=>simp only[GMw,OW]
  |true=>simp only[GMw,A4 hi,A2,VK,g2,r2];cases HD l[i].n2 l[i].l2 with|false=>simp only[GMw,OW]|true=>simp only[GMw,aP]
 ·rw[<-aD]at hr;have gD:∀r∈l,r.right=true:=Wf.1 hr;have aG:∀c∈l.map RC.cl,c.ok:=λc hc=>by obtain⟨r,h1,rfl⟩:=WZ.1 hc;exact hs r h1 (gD r h1)
  unfold UdW;simp only[GMw,Ax,Wv];rw[VjX gD hf];generalize hL:l.map RC.cl=L at aG;have hLl:L.length<2147483648:=by rw[<-hL];simpa using hl
  simp only[GMw,Via L tk _ (by omega) aG,Vfz];have gY:∀c∈DB L,c.ok:=λc hc=>aG c (Vq hc);have hsl:=Vr L;generalize DB L=S at gY hsl;refine Ct (G:=λaA vs H1=>UdV H aA (ag vs 0) (ag vs 1) (ag vs 2) (ag vs 3) H1) S.length (λi=>[.ptr H.length 0 0,.sl (enL cCl S) .no,.i6 (Bp (S.take i):Int),.i6 (i:Int)]) (λ_=>H++[.c0 [.sl [] .ti]])
   (some (.ret (.tup [En (SJ S).1,.i6 (SJ S).2]),H)) (by omega) (λaA i hi=>?_) (λaA=>?_)
  have aE:(i:Int)<(S.length:Int):=(by omega);obtain⟨v1,v2⟩:=SX (S.take i);have aC:=VfK H (H++[.c0 [.sl [] .ti]]) aA (.ptr H.length 0 0) S .no i hi (by omega) (gY _ (VY hi)) (1330-Bp (S.take i)) (Bp (S.take i)) AI (by omega) v1 (by rw[Cw];omega);have aV:Bp (S.take (i+1))=Jn (1330-Bp (S.take i)) (Bp (S.take i)) S[i]:=(by unfold Bp;rw[VU hi,X6];rfl);unfold UdV;simp only[GMw,Ak,Ax,aE];rw[aV];exact aC;obtain⟨v1,v2⟩:=SX S;unfold UdV SJ;rw[VW (VM _)];generalize Bp S=v at v1 v2;simp only[GMw,Ak,Ax,Wv];by_cases hv:v>1329;have aQ:(v:Int)>1329:=(by omega);simp only[GMw,aQ,zYc hv,OW];have aQ:¬(v:Int)>1329:=(by omega);obtain⟨n,rfl⟩:∃n,v=n+1:=⟨v-1,by omega⟩;have mU:I_.wrap (((n+1:Nat):Int)-1)=(n:Int):=(by rw[Am]<;>omega);have hp:SB 44 (2^n):=EY (by omega);have cD:=λH=>Iw n H (by omega);have gZ:=λH=>IM (2^n) H (hp.lb (by decide));have kU:=VgH (v:=n+1) (by omega) (by omega);rw[Wr]at kU;rw[zYb hv];have s1:∀B:Aa,Ae 2 (.ptr B.length 0 0) (big (-(2^n))) (B++[.c0 [.bool false,.sl [] .ti]])=some (B++[.c0 (A7 (-(2^n)))]):=λB=>(by rw[Cc (Ap (B:=B)) rfl,Bg]);have bU:S.length*(n+1)<=2147483648*1329:=XK (by omega) (by omega);have hlen:([]:List Nd).length+S.length*(n+1)<3518437208883:=(by simp only[zXk];omega);obtain⟨Hq,w',p1,p2,p3⟩:=UZ (H++[Blk.c0 [.sl [] .ti]]).length n AI (by omega) (by rw[Cw];omega) [] (.sl [] .ti) (-(2^n)) (-(2^n)) S .no (H++[.c0 [.sl [] .ti]]++[.c0 (A7 (-(2^n)))]) (.inl ⟨rfl,rfl⟩) (by simp) gY kU kU (by omega) hlen;obtain⟨tk2,rfl⟩:=p2.sl;have bO:=Wg (Vg (n+1) [] (-(2^n)) (-(2^n)) S) (Nat.add_le_add_left bU _);simp only[zXk]at bO;simp only[GMw,aQ,mU,cD,gZ,D6,s1,Bn Ap,p1,Ba,Bd,Wr];generalize Br (n+1) [] (-(2^n)) (-(2^n)) S=P at p1 p2 bO;obtain⟨Q,r⟩:=P;dsimp only at p1 p2 bO⊢;have vA:=λH=>Vnn Q tk2 (r:Int) H (by omega);have cE:Hq[H.length]? = some (.c0 [.sl [] .ti]):=p3.cel _ _ (by simp);have hold:∀i,i<H.length->Hq[i]? = H[i]? := λi hi=>(by rw[p3.old i (by simp;omega),VP,VN hi]);simp only[GMw,vA];cases VjF Q (r:Int)with|false=>simp only[GMw,Ba,Bd,En,By];exact IH cE hold|true=>simp only[GMw,Ba,Bd,En,By,zXl];exact IH cE hold
def Oh (c:UInt8):Bool:=decide (33<=c.toNat/\c.toNat<=126)
def S5 (c:UInt8)(H:Aa):Ub0 (.int .u8 (c.toNat:Int)) H=some (.ret (.bool (Oh c)),H):=by
 unfold Ub0 Oh;by_cases h:(33:Int)<=c.toNat
 ·have:33<=c.toNat:=by omega
  simp[h,this];omega
 ·have:¬33<=c.toNat:=by omega
  simp[h,this]
def Mv (s:zAa):Bool:=s.all Oh&&decide (1<=s.length/\s.length<=40)
def Vid (s:zAa)(H:Aa)(hs:s.length<1152921504606846976):UcT (.str s) H=some (.ret (.bool (Mv s)),H):=by
 unfold UcT;refine Bf (σ:=Nat) (λi=>i<=s.length/\(s.take i).all Oh=true) (λi=>[.str s,.i6 (i:Int)]) (λ_=>H) (λi=>s.length-i) (λ_=>some (.ret (.bool (Mv s)),H)) (λi rec hi hrec=>?_) 0 ⟨by omega,by simp⟩ (by omega);obtain⟨hi,aD⟩:=hi;unfold UeW;by_cases h:i<s.length
 ·have hx:(i:Int)<(s.length:Int):=by omega
  simp only[At,FE,CW,zXa,Bz,hx,decide_true,Bb,AQ h,S5,Il,Sa];cases hc:Oh s[i]with|false=>have:Mv s=false:=(by simp only[Mv,Xq];left;rw[X7];exact⟨s[i],VY h,by simp[hc]⟩);simp[this]|true=>have:=hrec (i+1) ⟨h,by rw[VU h,Yv];simp[aD,hc]⟩ (by omega);simp (disch:=omega) [Am];simpa using this
 ·have hx:¬(i:Int)<(s.length:Int):=by omega
  have he:s.take i=s:=VW (by omega);rw[he]at aD;by_cases h1:(1:Int)<=s.length;simp[hx,h1,Mv,aD];by_cases h2:s.length<=40;have:(s.length:Int)<=40:=(by omega);simp[this,h2];omega;have:¬(s.length:Int)<=40:=(by omega);simp[this,h2];have:s=[]:=We (by omega);subst this;have hz:i=0:=(by simpa using hi);subst hz;simp[Mv]
def GC (rule:zAa)(L:List Nd):List Ab:=[.str rule,.sl (enL cNd L) .no]
def pat (rule:zAa)(L:List Nd):Ab:=.agg (GC rule L)
theorem VcS (rule:zAa)(L:List Nd)(H:Aa):Bj true 2 (pat rule L) H=some (.ptr H.length 0 0,H++[.c0 (GC rule L)]):=BF rfl rfl
section
variable {H:Aa}{p:Nat}{rule:zAa}{L:List Nd}
theorem SS (hg:H[p]? = some (.c0 (GC rule L))):Ad false 1 (.ptr p 0 0) H=some (.str rule):=by simp only[Ad,A0 hg,zXa];rfl
theorem KL (hg:H[p]? = some (.c0 (GC rule L))):Ad true 1 (.ptr p 0 1) H=some (En L):=by simp only[Ad,A0 hg,zXa];rfl
theorem Qh (hg:H[p]? = some (.c0 (GC rule L))):Ad true 2 (.ptr p 0 0) H=some (pat rule L):=by simp only[Ad,A0 hg,zXa];rfl

end
def VeV (rule:zAa)(L:List Nd)(H:Aa)(hr:rule.length<1152921504606846976)(hL:L.length<17592186044415):Udg (pat rule L) H=some (.ret (.bool (Mv rule&&HG L)),H):=by unfold Udg;have e1:(H++[Blk.c0 (GC rule L)])[H.length]? = some (.c0 (GC rule L)):=Ap;simp only[GMw,VcS,Aj,VK,Nat.add_zero,SS e1,Vid rule _ hr];cases Mv rule with|false=>simp only[GMw,Ey]|true=>simp only[GMw,KL e1,En,By,Vfc L .no _ hL,Ey]
def Iq (a b:Int):Bool:=decide (0<=a)&&decide (a<=1000)&&decide (0<=b)&&decide (b<=100000)
def MA (a b:Int)(H:Aa):Ufv (.agg [.i6 a,.i6 b]) H=some (.ret (.bool (Iq a b)),H):=by
 unfold Ufv Iq;have e1:(H++[Blk.c0 [.i6 a,.i6 b]])[H.length]? = some (.c0 [.i6 a,.i6 b]):=Ap;have g1:Ad false 1 (.ptr H.length 0 0) (H++[Blk.c0 [.i6 a,.i6 b]])=some (.i6 a):=by simp only[Ad,A0 e1,zXa];rfl
 have g2:Ad false 1 (.ptr H.length 0 1) (H++[Blk.c0 [.i6 a,.i6 b]])=some (.i6 b):=by simp only[Ad,A0 e1,zXa];rfl
 simp only[GMw,BF (sz:=2) (cs:=[Ab.i6 a,.i6 b]) rfl rfl,Aj,VK,Nat.add_zero,g1,ge_iff_le];cases decide (0<=a)with
 |false=>simp only[GMw,Ey]
 |true=>
  simp only[GMw,g1];cases decide (a<=1000)with
  |false=>simp only[GMw,Ey]
  |true=>simp only[GMw,g2,ge_iff_le];cases decide (0<=b)with|false=>simp only[GMw,Ey]|true=>simp only[GMw,g2,Ey]
def Vdr (n:Int)(H:Aa):UcS (.i6 n) H=some (.ret (.bool (decide (1<=n)&&decide (n<=5))),H):=by unfold UcS;simp only[GMw,ge_iff_le];cases decide (1<=n)<;>simp only[GMw]
def St (a:Int):Prop:=0<=a/\a<=255
def Lv (L:List Nd)(v n:Nat):Prop:=n<=L.length/\(n=0\/(Bm L n).lv.toNat=v)
theorem Lv.kid {L:List Nd}(hl:AY L=true){v n k:Nat}(h0:0<n)(h:Lv L (v+1) n)(h1:1<(Bm L n).lv)(hk:k<4):Lv L v ((Bm L n).kid k).toNat/\((Bm L n).kid k).toNat<n/\0<=(Bm L n).kid k:=by
 obtain⟨m,rfl⟩:∃m,n=m+1:=⟨n-1,by omega⟩;have hm:m<L.length:=h.1;obtain⟨l1,l2,l3⟩:=AZ hl hm;have hx:Bm L ((m+1:Nat):Int)=L[m]:=BK hm;have hv:=h.2;rw[hx]at h1 hv⊢;obtain⟨q1,q2,q3⟩:=l3 k hk;by_cases hc:0<L[m].kid k
 ·obtain⟨r1,r2⟩:=q3 h1 hc;obtain⟨c,hcc⟩:∃c:Nat,L[m].kid k=((c+1:Nat):Int):=⟨(L[m].kid k-1).toNat,by omega⟩;have aG:c<L.length:=by omega
  have:=r2 L[c] (by rw[show(L[m].kid k-1).toNat=c from by omega];exact VG aG);rw[hcc,show(((c+1:Nat):Int)).toNat=c+1 from by omega];refine⟨⟨by omega,.inr ?_⟩,by omega,by omega⟩;rw[BK aG];omega
 rw[show(L[m].kid k).toNat=0 from by omega];exact⟨⟨Wi _,.inl rfl⟩,by omega,q1⟩
def VlL {L:List Nd}(hl:AY L=true){n:Nat}(h0:0<n)(hn:n<=L.length):(AG L).getD n true=(List.range 4).all λk=>decide ((Bm L n).kid k=0)||(decide (1<(Bm L n).lv)&&(AG L).getD ((Bm L n).kid k).toNat true):=by
 obtain⟨m,rfl⟩:∃m,n=m+1:=⟨n-1,by omega⟩;have hm:m<L.length:=hn;have hpre:∀(r l:List Nd),∃s,AG (l++r)=AG l++s:=by
  intro r
  induction r with
  |nil=>intro l;exact⟨[],by simp⟩
  |cons x r ih=>intro l;obtain⟨s,hs⟩:=ih (l++[x]);exact⟨[P5 (AG l) x]++s,by rw[show l++x::r=l++[x]++r from by simp,hs,NM];simp⟩
 have hL:L=L.take m++[L[m]]++L.drop (m+1):=by rw[<-VU hm,WD]
 obtain⟨s,hs⟩:=hpre (L.drop (m+1)) (L.take m++[L[m]]);rw[<-hL,NM]at hs;have hlen:(AG (L.take m)).length=m+1:=by rw[DL];simp;omega
 have iY:(AG L).getD (m+1) true=P5 (AG (L.take m)) L[m]:=by rw[hs,VO,VN (by simp[hlen]),Wt (by omega),hlen];simp
 rw[iY,BK hm];obtain⟨l1,l2,l3⟩:=AZ hl hm;unfold P5;have hk:∀k,k<4->(decide (1<L[m].lv)&&(AG (L.take m)).getD (L[m].kid k).toNat true)=(decide (1<L[m].lv)&&(AG L).getD (L[m].kid k).toNat true):=by
  intro k hk;obtain⟨q1,q2,q3⟩:=l3 k hk;by_cases h1:1<L[m].lv
  ·have hlt:(L[m].kid k).toNat<m+1:=by by_cases hc:0<L[m].kid k;have:=(q3 h1 hc).1;omega;omega
   congr 1
   rw[hs,VP,VO,VO,VN (by omega)]
  simp[h1]
 rw[O2,O2,hk 0 (by omega),hk 1 (by omega),hk 2 (by omega),hk 3 (by omega)]
section
variable {L:List Nd}

end
theorem Lv.num {L:List Nd}{v n:Nat}(h:Lv L v n)(h0:0<n)(hl:AY L=true):(Bm L (n:Int)).lv=(v:Int)/\1<=v:=by
 have hv:(Bm L (n:Int)).lv.toNat=v:=by rcases h.2 with h | h<;>omega
 obtain⟨m,rfl⟩:∃m,n=m+1:=⟨n-1,by omega⟩;rw[BK h.1]at hv⊢;have:=(AZ hl h.1).1;omega
def Vjx (v:Nat)(x y:Int)(c:Cl):Prop:=x<=c.x/\c.x<x+2^v/\y<=c.y/\c.y<y+2^v
def VnG {v:Nat}{a b:Int}{c:Cl}:inQ (v+1) a b c=true↔Vjx v a b c:=by unfold inQ Vjx;simp only[VV,zXe,Wr];constructor;rintro⟨⟨⟨h1,h2⟩,h3⟩,h4⟩;exact⟨h1,h2,h3,h4⟩;rintro⟨h1,h2,h3,h4⟩;exact⟨⟨⟨h1,h2⟩,h3⟩,h4⟩
theorem VhN {v:Nat}{x y:Int}{k:Nat}{l:List Cl}{c:Cl}(h:c∈ER (v+1) x y k l):Vjx v (qa (v+1) x k) (qb (v+1) y k) c:=VnG.1 (X4.1 h).2
theorem VfB:∀f v c,Jn f v c<v+f->EX (Jn f v c) c=true
 |0,v,c,h=>by simp[Jn]at h
 |f+1,v,c,h=>by unfold Jn at h⊢;split;rename_i hw;exact hw;rename_i hw;rw[zYb hw]at h;exact VfB f (v+1) c (by omega)
def VkX {v w:Nat}(h:v<=w):(2:Int)^v<=2^w:=by
 have h1:(2:Nat)^v<=2^w:=Wn (by omega) h;have h2:((2^v:Nat):Int)<=((2^w:Nat):Int):=by omega
 simpa using h2
def Va1 {v w:Nat}{c:Cl}(h:EX v c=true)(hw:v<=w):EX w c=true:=by have h1:=VkX (show v-1<=w-1 by omega);simp only[EX,inZ,VV,zXe]at h⊢;generalize (2:Int)^(v-1)=p at *;generalize (2:Int)^(w-1)=q at *;omega
theorem Pm:∀(l:List Cl)(v:Nat),1<=v->v<=1330->l.foldl (λv c=>Jn (1330-v) v c) v<=1329->∀c∈l,EX (l.foldl (λv c=>Jn (1330-v) v c) v) c=true
 |[],v,_,_,_,c,hc=>by cases hc
 |d::l,v,h1,h2,h3,c,hc=>by have hu:=VaY (1330-v) v d;have hf:=Vn l (Jn (1330-v) v d) (by omega) (by omega);simp only[List.foldl_cons]at h3⊢;rcases WF.1 hc with rfl | hc;exact Va1 (VfB (1330-v) v c (by omega)) hf.1;exact Pm l _ (by omega) (by omega) h3 c hc
theorem Vi7 {S:List Cl}(h:Bp S<=1329):∀c∈S,EX (Bp S) c=true:=Pm S 1 (by omega) (by omega) h
def VdW {v:Nat}{c:Cl}(h1:1<=v)(h:EX v c=true):Vjx v (-(2^(v-1))) (-(2^(v-1))) c:=by obtain⟨w,rfl⟩:∃w,v=w+1:=⟨v-1,by omega⟩;have e:(2:Int)^(w+1)=2^w*2:=XY _ _;simp only[EX,inZ,VV,zXe,Wr]at h;unfold Vjx;rw[Wr,e];generalize (2:Int)^w=p at *;omega
def Vix (m:Int)(x:Nd):Nat->Int
 |0=>m
 |k+1=>max (Vix m x k) (x.kid k)
def Oi (L:List Nd):Int:=L.foldl (λm x=>if x.lv=1 then Vix m x 4 else m) 0
theorem VeT (L:List Nd):En L=.agg [.sl (enL cNd L) .no]:=rfl
theorem VmE (L:List Nd)(H:Aa):Bj true 1 (En L) H=some (.ptr H.length 0 0,H++[.c0 (By L)]):=BF rfl rfl
section
variable {H:Aa}{p:Nat}{L:List Nd}
theorem Fq (hg:H[p]? = some (.c0 (By L))):Ad false 1 (.ptr p 0 0) H=some (.sl (enL cNd L) .no):=by simp only[Ad,A0 hg,zXa];rfl
theorem Pi (hg:H[p]? = some (.c0 (By L))):Ad true 1 (.ptr p 0 0) H=some (En L):=by simp only[Ad,A0 hg,zXa];rfl

end
def VhZ (L:List Nd)(H:Aa)(hL:L.length<1152921504606846976):UbA (En L) H=some (.ret (.int .u8 (J_.wrap (Oi L))),H):=by
 unfold UbA;have e1:(H++[Blk.c0 (By L)])[H.length]? = some (.c0 (By L)):=Ap;simp only[GMw,VmE];refine Ct (G:=λrec1 vs H1=>Udq H rec1 (ag vs 0) (ag vs 1) (ag vs 2) H1) L.length (λi=>[.ptr H.length 0 0,.i6 (Oi (L.take i)),.i6 (i:Int)]) (λ_=>H++[.c0 (By L)]) _ hL (λrec i hi=>?_) (λrec=>?_)
 ·have aE:(i:Int)<(L.length:Int):=by omega
  have aP:=Ar (show i<9223372036854775807 by omega);have hm:Oi (L.take (i+1))=if L[i].lv=1 then Vix (Oi (L.take i)) L[i] 4 else Oi (L.take i):=by unfold Oi;rw[VU hi,X6];rfl
  rw[hm];generalize Oi (L.take i)=m;unfold Udq;simp only[GMw,Aj,VK,Fq e1,Ax,aE];by_cases aV:L[i].lv=1;rw[zYc aV];refine Ct (G:=λaA vs H1=>Ub9 H rec aA (ag vs 0) (ag vs 1) (ag vs 2) (ag vs 3) H1) 4 (λk=>[.ptr H.length 0 0,.i6 (Vix m L[i] k),.i6 (i:Int),.i6 (k:Int)]) (λ_=>H++[.c0 (By L)]) _ (by decide) (λaA k hk=>?_) (λaA=>?_);have hk':(k:Int)<4:=(by omega);unfold Ub9;simp only[GMw,A2,Aj,AA,VK,Nat.add_zero,Wa,Eu,hk',Fq e1,A4 hi,aV,Fb hk,EE hk,RA,Ar (show k<9223372036854775807 by omega),Vix];have hf:¬(((4:Nat):Int)<4):=(by decide);unfold Ub9;simp only[GMw,hf,aP];rw[zYb aV,Dx Eh];have hf:((0:Int)<4):=(by decide);unfold Ub9;simp only[GMw,A2,Aj,AA,VK,Nat.add_zero,Eu,hf,Fq e1,A4 hi,aV,aP]
 unfold Udq;rw[VW (VM _)];simp only[GMw,Aj,VK,Fq e1,Ax,Wv,AV,Ih]
theorem Vf8 {m:Int}{x:Nd}(hm:St m)(hx:∀k,k<4->St (x.kid k)):∀k,k<=4->St (Vix m x k)
 |0,_=>hm
 |k+1,h=>by have h1:=Vf8 hm hx k (by omega);have h2:=hx k (by omega);obtain⟨a1,a2⟩:=h1;obtain⟨b1,b2⟩:=h2;exact⟨show(0:Int)<=max (Vix m x k) (x.kid k)by omega,show max (Vix m x k) (x.kid k)<=(255:Int)by omega⟩
def Viw {L:List Nd}(hl:AY L=true):St (Oi L):=by
 have key:∀(l:List Nd)(m:Int),St m->(∀x∈l,x.lv=1->∀k,k<4->St (x.kid k))->St (l.foldl (λm x=>if x.lv=1 then Vix m x 4 else m) m):=by
  intro l
  induction l with
  |nil=>intro m hm _;exact hm
  |cons a l ih=>intro m hm hx;refine ih _ ?_ λx h=>hx x (by simp[h]);dsimp only;split;rename_i h;exact Vf8 hm (hx a (by simp) h) 4 (VM _);exact hm
 refine key L 0 ⟨XH _,by decide⟩ λx hx aV k hk=>?_;obtain⟨i,hi,rfl⟩:=Ws hx;have:=(AZ hl hi).2.2 k hk;exact⟨this.1,this.2.1 aV⟩
def VeZ {L:List Nd}(H:Aa)(hL:L.length<1152921504606846976)(hl:AY L=true):UbA (En L) H=some (.ret (.int .u8 (Oi L)),H):=by have:=Viw hl;rw[VhZ L H hL,DW this.1 (by have:=this.2;omega)]
def Vj8 (z:Int)(v:Nat)(H:Aa)(hz:SB 100 z)(h1:1<=v)(h2:v<=1400):UbB (big z) (.i6 (v:Int)) H=some (.ret (.bool (inZ v z)),H):=by
 have hw:I_.wrap ((v:Int)-1)=((v-1:Nat):Int):=Hk (by omega) (by omega);have hp:=(EY (show v-1<=1400 by omega)).lb (by decide);have cD:=λH=>Iw (v-1) H (by omega);have gZ:=λH=>IM (2^(v-1)) H hp;have hx:=λH b (hb:LB b)=>Fm z b H (hz.lb (by decide)) hb;have s1:∀B:Aa,Ae 2 (.ptr B.length 0 0) (big (2^(v-1))) (B++[.c0 [.bool false,.sl [] .ti]])=some (B++[.c0 (A7 (2^(v-1)))]):=λB=>by rw[Cc (Ap (B:=B)) rfl,Bg]
 have e1:(H++[Blk.c0 (A7 z)]++[Blk.c0 (A7 (2^(v-1)))])[H.length]? = some (.c0 (A7 z)):=by simp
 have e2:(H++[Blk.c0 (A7 z)]++[Blk.c0 (A7 (2^(v-1)))])[(H++[Blk.c0 (A7 z)]).length]? = some (.c0 (A7 (2^(v-1)))):=Ap;have fin:∀q:Bool,rP H (.bool q) (H++[Blk.c0 (A7 z)]++[Blk.c0 (A7 (2^(v-1)))])=some (.ret (.bool q),H):=λq=>by simp only[VP];exact Ey
 unfold UbB inZ;simp only[GMw,F4,hw,cD,D6,s1,Bn e1,Bn e2,gZ,and_true,eq_self,hx _ _ hp.neg,HK];cases decide (-(2^(v-1))<=z)with|false=>simp only[GMw,fin]|true=>simp only[GMw,hx _ _ hp,HJ,fin]
def qk (v:Nat)(x y:Int):Nat:=(if 2^(v-1)<=x then 1 else 0)+(if 2^(v-1)<=y then 2 else 0)
def qd (v:Nat)(x:Int):Int:=if 2^(v-1)<=x then x-2^(v-1)else x
def VkI (v:Nat)(x y:Int):qk v x y<4:=by unfold qk;split<;>split<;>omega
def VaO (v:Nat)(x y:Int)(H:Aa)(h1:1<=v)(h2:v<=1400)(hx:SB 100 x)(hy:SB 100 y):Udt (.i6 (v:Int)) (big x) (big y) H=some (.ret (.tup [.i6 (qk v x y:Int),big (qd v x),big (qd v y)]),H):=by
 have hw:I_.wrap ((v:Int)-1)=((v-1:Nat):Int):=Hk (by omega) (by omega);have hp:=(EY (show v-1<=1400 by omega)).lb (by decide);have cD:=λH=>Iw (v-1) H (by omega);have cx:=λH=>Fm x (2^(v-1)) H (hx.lb (by decide)) hp;have cy:=λH=>Fm y (2^(v-1)) H (hy.lb (by decide)) hp;have sx:=λH=>S6 x (2^(v-1)) H (hx.lb (by decide)) hp;have sy:=λH=>S6 y (2^(v-1)) H (hy.lb (by decide)) hp;unfold Udt;have s1:∀B:Aa,Ae 2 (.ptr B.length 0 0) (big (2^(v-1))) (B++[.c0 [.bool false,.sl [] .ti]])=some (B++[.c0 (A7 (2^(v-1)))]):=λB=>by rw[Cc (Ap (B:=B)) rfl,Bg]
 simp only[GMw,F4,D6,hw,cD,s1];have l1:(H++[Blk.c0 (A7 x)]).length=H.length+1:=by simp
 have l2:(H++[Blk.c0 (A7 x)]++[Blk.c0 (A7 y)]).length=H.length+2:=by simp
 have l3:(H++[Blk.c0 (A7 x)]++[Blk.c0 (A7 y)]++[Blk.c0 [Ab.bool false,.sl [] .ti]]).length=H.length+3:=by simp
 have l4:(H++[Blk.c0 (A7 x)]++[Blk.c0 (A7 y)]++[Blk.c0 [Ab.bool false,.sl [] .ti]]++[Blk.c0 [Ab.bool false,.sl [] .ti]]).length=H.length+4:=by simp
 simp only[l1,l2,l3,l4];have five:∀a b c d e:List Ab,(H++[Blk.c0 a]++[Blk.c0 b]++[Blk.c0 c]++[Blk.c0 d]++[Blk.c0 e])=H++[Blk.c0 a,.c0 b,.c0 c,.c0 d,.c0 e]:=λa b c d e=>by simp
 rw[five];have g0:∀(z:Int)(b c d e:List Ab),Ad true 2 (.ptr H.length 0 0) (H++[Blk.c0 (A7 z),.c0 b,.c0 c,.c0 d,.c0 e])=some (big z):=λz b c d e=>Bn (by simp);have g1:∀(z:Int)(a c d e:List Ab),Ad true 2 (.ptr (H.length+1) 0 0) (H++[Blk.c0 a,.c0 (A7 z),.c0 c,.c0 d,.c0 e])=some (big z):=λz a c d e=>Bn (by simp);have g2:∀(z:Int)(a b d e:List Ab),Ad true 2 (.ptr (H.length+2) 0 0) (H++[Blk.c0 a,.c0 b,.c0 (A7 z),.c0 d,.c0 e])=some (big z):=λz a b d e=>Bn (by simp);have g3:∀(z:Int)(a b c e:List Ab),Ad true 2 (.ptr (H.length+3) 0 0) (H++[Blk.c0 a,.c0 b,.c0 c,.c0 (A7 z),.c0 e])=some (big z):=λz a b c e=>Bn (by simp);have g4:∀(z:Int)(a b c d:List Ab),Ad true 2 (.ptr (H.length+4) 0 0) (H++[Blk.c0 a,.c0 b,.c0 c,.c0 d,.c0 (A7 z)])=some (big z):=λz a b c d=>Bn (by simp);have p0:∀(z z':Int)(b c d e:List Ab),Ae 2 (.ptr H.length 0 0) (big z) (H++[Blk.c0 (A7 z'),.c0 b,.c0 c,.c0 d,.c0 e])=some (H++[Blk.c0 (A7 z),.c0 b,.c0 c,.c0 d,.c0 e]):=λz z' b c d e=>by rw[Cc (cs:=A7 z') (by simp) rfl];simp
 have p1:∀(z z':Int)(a c d e:List Ab),Ae 2 (.ptr (H.length+1) 0 0) (big z) (H++[Blk.c0 a,.c0 (A7 z'),.c0 c,.c0 d,.c0 e])=some (H++[Blk.c0 a,.c0 (A7 z),.c0 c,.c0 d,.c0 e]):=λz z' a c d e=>by rw[Cc (cs:=A7 z') (by simp) rfl];simp
 have p2:∀(z:Int)(a b d e:List Ab),Ae 2 (.ptr (H.length+2) 0 0) (big z) (H++[Blk.c0 a,.c0 b,.c0 [.bool false,.sl [] .ti],.c0 d,.c0 e])=some (H++[Blk.c0 a,.c0 b,.c0 (A7 z),.c0 d,.c0 e]):=λz a b d e=>by rw[Cc (cs:=[.bool false,.sl [] .ti]) (by simp) rfl];simp
 have p3:∀(z:Int)(a b c e:List Ab),Ae 2 (.ptr (H.length+3) 0 0) (big z) (H++[Blk.c0 a,.c0 b,.c0 c,.c0 [.bool false,.sl [] .ti],.c0 e])=some (H++[Blk.c0 a,.c0 b,.c0 c,.c0 (A7 z),.c0 e]):=λz a b c e=>by rw[Cc (cs:=[.bool false,.sl [] .ti]) (by simp) rfl];simp
 have w1:I_.wrap (0+1)=1:=by decide
 have w2:I_.wrap (0+2)=2:=by decide
 have w3:I_.wrap (1+2)=3:=by decide
 unfold qk qd;simp only[GMw,g0,g4,cx,HK];by_cases ha:(2:Int)^(v-1)<=x
 ·by_cases hb:(2:Int)^(v-1)<=y
  ·simp only[GMw,ha,hb,w1,w3,g0,g1,g2,g3,g4,sx,sy,cy,HK,p0,p1,p2,p3,Ak,UbD,UbC,and_true,eq_self,B2,AW,Bl,zXb,CD,CH,BC,BY,Da,NF]
   rfl
  ·simp only[GMw,ha,hb,w1,w3,g0,g1,g2,g3,g4,sx,sy,cy,HK,p0,p1,p2,p3,Ak,UbD,UbC,and_true,eq_self,B2,AW,Bl,zXb,CD,CH,BC,BY,Da,NF]
   rfl
 ·by_cases hb:(2:Int)^(v-1)<=y
  ·simp only[GMw,ha,hb,w1,w2,w3,g0,g1,g2,g3,g4,sx,sy,cy,HK,p0,p1,p2,p3,Ak,UbD,UbC,and_true,eq_self,B2,AW,Bl,zXb,CD,CH,BC,BY,Da,NF]
   rfl
  ·simp only[GMw,ha,hb,w1,w2,w3,g0,g1,g2,g3,g4,sx,sy,cy,HK,p0,p1,p2,p3,Ak,UbD,UbC,and_true,eq_self,B2,AW,Bl,zXb,CD,CH,BC,BY,Da,NF]
   rfl
def Uf (L:List Nd):Nat->Nat->Int->Int->Int
 |0,_,_,_=>0
 |v+1,n,x,y=>
  if n=0 then 0
  else if (Bm L n).lv=1 then (Bm L n).kid (qk (v+1) x y)
  else Uf L v ((Bm L n).kid (qk (v+1) x y)).toNat (qd (v+1) x) (qd (v+1) y)
def VjS (L:List Nd)(x y:Int):Int:=
 if L=[]then 0
 else if inZ (Cm L).toNat x&&inZ (Cm L).toNat y then Uf L (Cm L).toNat L.length (x+2^((Cm L).toNat-1)) (y+2^((Cm L).toNat-1))else 0
def Vni {v k:Nat}{x:Int}(h:SB k x):SB k (qd v x):=by unfold qd;have hp:(0:Int)<2^(v-1):=XG (by omega);unfold SB at *;generalize (2:Int)^(v-1)=p at *;generalize (4294967296:Nat)^k=q at *;split<;>omega
def Vgj {L:List Nd}(hl:AY L=true):∀v n x y,Lv L v n->St (Uf L v n x y)
 |0,n,x,y,h=>⟨XH _,by show(0:Int)<=255;decide⟩
 |v+1,n,x,y,h=>by unfold Uf;split;exact⟨XH _,by show(0:Int)<=255;decide⟩;rename_i h0;have dT:0<n:=(by omega);split;rename_i h1;obtain⟨m,rfl⟩:∃m,n=m+1:=⟨n-1,by omega⟩;rw[BK h.1]at h1⊢;have:=(AZ hl h.1).2.2 (qk (v+1) x y) (VkI _ _ _);exact⟨this.1,this.2.1 h1⟩;rename_i h1;have:=h.num dT hl;exact Vgj hl v _ _ _ (Lv.kid hl dT h (by omega) (VkI _ _ _)).1
def VkM (L:List Nd)(x y:Int)(H:Aa)(hL:L.length<17592186044415)(hl:AY L=true)(hx:SB 99 x)(hy:SB 99 y):Udu (En L) (big x) (big y) H=some (.ret (.int .u8 (VjS L x y)),H):=by
 unfold Udu;simp only[GMw,VmE,F4];have l1:(H++[Blk.c0 (By L)]).length=H.length+1:=by simp
 have l2:(H++[Blk.c0 (By L)]++[Blk.c0 (A7 x)]).length=H.length+2:=by simp
 have l3:(H++[Blk.c0 (By L)]++[Blk.c0 (A7 x)]++[Blk.c0 (A7 y)]).length=H.length+3:=by simp
 have three:∀(x y:Int),H++[Blk.c0 (By L)]++[Blk.c0 (A7 x)]++[Blk.c0 (A7 y)]=H++Blk.c0 (By L)::.c0 (A7 x)::.c0 (A7 y)::[]:=λx y=>by simp
 have gq:∀(x y:Int)(G:Aa),Ad true 1 (.ptr H.length 0 0) (H++Blk.c0 (By L)::.c0 (A7 x)::.c0 (A7 y)::G)=some (En L):=λx y G=>Pi (by simp);have gn:∀(x y:Int)(G:Aa),Ad false 1 (.ptr H.length 0 0) (H++Blk.c0 (By L)::.c0 (A7 x)::.c0 (A7 y)::G)=some (.sl (enL cNd L) .no):=λx y G=>Fq (by simp);have gx:∀(x y:Int)(G:Aa),Ad true 2 (.ptr (H.length+1) 0 0) (H++Blk.c0 (By L)::.c0 (A7 x)::.c0 (A7 y)::G)=some (big x):=λx y G=>Bn (by simp);have gy:∀(x y:Int)(G:Aa),Ad true 2 (.ptr (H.length+2) 0 0) (H++Blk.c0 (By L)::.c0 (A7 x)::.c0 (A7 y)::G)=some (big y):=λx y G=>Bn (by simp);have px:∀(z x y:Int)(G:Aa),Ae 2 (.ptr (H.length+1) 0 0) (big z) (H++Blk.c0 (By L)::.c0 (A7 x)::.c0 (A7 y)::G)=some (H++Blk.c0 (By L)::.c0 (A7 z)::.c0 (A7 y)::G):=λz x y G=>by rw[Cc (cs:=A7 x) (by simp) rfl];simp
 have py:∀(z x y:Int)(G:Aa),Ae 2 (.ptr (H.length+2) 0 0) (big z) (H++Blk.c0 (By L)::.c0 (A7 x)::.c0 (A7 y)::G)=some (H++Blk.c0 (By L)::.c0 (A7 x)::.c0 (A7 z)::G):=λz x y G=>by rw[Cc (cs:=A7 y) (by simp) rfl];simp
 have fin:∀(q:Int)(G:Aa),rP H (.int .u8 q) (H++G)=some (.ret (.int .u8 q),H):=λq G=>Ih;have lvl:=λH=>Vb L .no H hL;rw[<-VeT]at lvl;rw[l1,l2,three];simp only[GMw,gq,lvl];unfold VjS;by_cases h0:L=[];simp only[zYc h0,GMw,fin]
 ·rw[zYb h0];have hlen:0<L.length:=W6.2 h0;have hm:L.length-1<L.length:=by omega
  have hLv:Lv L (Cm L).toNat L.length:=⟨VM _,.inr rfl⟩;obtain⟨eR,hn2⟩:=hLv.num hlen hl;have lX:Cm L=((Cm L).toNat:Int):=eR;have hle:=QO hl hlen (VM _);have jF:(Cm L).toNat<=1329:=hle;rw[zYb h0];generalize (Cm L).toNat=v at hLv eR hn2 lX jF;rw[lX];have hv0:¬((v:Int)=0):=by omega
  have wM:=λH=>Vj8 x v H (hx.mono (by omega)) hn2 (by omega);have wL:=λH=>Vj8 y v H (hy.mono (by omega)) hn2 (by omega);simp only[GMw,hv0,gx,wM];cases inZ v x with
  |false=>simp only[GMw,fin]
  |true=>
   simp only[GMw,gy,wL];cases inZ v y with
   |false=>simp only[GMw,fin]
   |true=>
    have hw:I_.wrap ((v:Int)-1)=((v-1:Nat):Int):=Hk (by omega) (by omega);have vJ:=EY (show v-1<=1400 by omega);have hp:=vJ.lb (show 44<=549755813888 by decide);have cD:=λH=>Iw (v-1) H (by omega);have ax:=λH=>HS x (2^(v-1)) H (hx.lb (by decide)) hp;have ay:=λH=>HS y (2^(v-1)) H (hy.lb (by decide)) hp;have pI:SB 100 (x+2^(v-1)):=hx.add (vJ.mono (by omega));have lF:SB 100 (y+2^(v-1)):=hy.add (vJ.mono (by omega));have l4:∀x y:Int,(H++Blk.c0 (By L)::.c0 (A7 x)::.c0 (A7 y)::[]).length=H.length+3:=λx y=>(by simp);have four:∀(x y:Int)(c:Blk),(H++Blk.c0 (By L)::.c0 (A7 x)::.c0 (A7 y)::[])++[c]=H++Blk.c0 (By L)::.c0 (A7 x)::.c0 (A7 y)::[c]:=λx y c=>(by simp);have ph:∀(x y:Int),Ae 2 (.ptr (H.length+3) 0 0) (big (2^(v-1))) (H++Blk.c0 (By L)::.c0 (A7 x)::.c0 (A7 y)::[.c0 [.bool false,.sl [] .ti]])=some (H++Blk.c0 (By L)::.c0 (A7 x)::.c0 (A7 y)::[.c0 (A7 (2^(v-1)))]):=λx y=>(by rw[Cc (cs:=[.bool false,.sl [] .ti]) (by simp) rfl];simp);have gh:∀(x y:Int)(z:Int),Ad true 2 (.ptr (H.length+3) 0 0) (H++Blk.c0 (By L)::.c0 (A7 x)::.c0 (A7 y)::[.c0 (A7 z)])=some (big z):=λx y z=>Bn (by simp);simp only[GMw,hw,cD,D6,l4,four,ph,gx,gh,and_true,eq_self,ax,gy,ay,px,py,Aj,VK,gn,Ax];refine Bf (G:=λrec1 vs H1=>Ue5 H rec1 (ag vs 0) (ag vs 1) (ag vs 2) (ag vs 3) H1) (σ:=Nat×Nat×Int×Int×Aa) (λs=>Lv L s.1 s.2.1/\s.1<=1329/\SB 100 s.2.2.1/\SB 100 s.2.2.2.1)
     (λs=>[.ptr H.length 0 0,.ptr (H.length+1) 0 0,.ptr (H.length+2) 0 0,.i6 (s.2.1:Int)]) (λs=>H++Blk.c0 (By L)::.c0 (A7 s.2.2.1)::.c0 (A7 s.2.2.2.1)::s.2.2.2.2) (λs=>s.1)
     (λs=>some (.ret (.int .u8 (Uf L s.1 s.2.1 s.2.2.1 s.2.2.2.1)),H)) (λs rec hs hrec=>?_) (v,L.length,x+2^(v-1),y+2^(v-1),[.c0 (A7 (2^(v-1)))]) ⟨hLv,jF,pI,lF⟩ (by dsimp only;omega)
    obtain⟨u,n,a,b,G⟩:=s;obtain⟨s1,s2,s3,s4⟩:=hs;simp only at s1 s2 s3 s4 hrec⊢;unfold Ue5;by_cases hn:n=0;subst hn;have:Uf L u 0 a b=0:=(by cases u<;>simp[Uf]);rw[this];simp only[GMw,show((0:Nat):Int)=0 from rfl,show ¬((0:Int)>0) from by decide,fin]
    ·obtain⟨m,rfl⟩:∃m,n=m+1:=⟨n-1,by omega⟩;have hml:m<L.length:=s1.1;obtain⟨c1,c2⟩:=s1.num (by omega) hl;obtain⟨w,rfl⟩:∃w,u=w+1:=⟨u-1,by omega⟩;have cZ:I_.wrap (((m+1:Nat):Int)-1)=(m:Int):=(by rw[Am]<;>omega);have hpos:((m+1:Nat):Int)>0:=(by omega);have hx:Bm L ((m+1:Nat):Int)=L[m]:=BK hml;have aV:L[m].lv=((w+1:Nat):Int):=(by rw[<-hx];exact c1);have Zg:=λH=>VaO (w+1) a b H (by omega) (by omega) s3 s4;have jH:=VkI (w+1) a b;have uB:Uf L (w+1) (m+1) a b=if L[m].lv=1 then L[m].kid (qk (w+1) a b)else Uf L w (L[m].kid (qk (w+1) a b)).toNat (qd (w+1) a) (qd (w+1) b):=by
      conv=>lhs;unfold Uf
      rw[zYb (by omega),hx]
     rw[uB];generalize hB:H++Blk.c0 (By L)::.c0 (A7 a)::.c0 (A7 b)::G=B;have n1:Ad false 1 (.ptr H.length 0 0) B=some (.sl (enL cNd L) .no):=(by rw[<-hB];exact gn _ _ _);have n2:Ad true 2 (.ptr (H.length+1) 0 0) B=some (big a):=(by rw[<-hB];exact gx _ _ _);have n3:Ad true 2 (.ptr (H.length+2) 0 0) B=some (big b):=(by rw[<-hB];exact gy _ _ _);have lB:(B++[Blk.c0 [Ab.bool false,.sl [] .ti]]).length=B.length+1:=(by simp);have t0:=λ(z:Int) (c:List Ab)=>st0 (Hc:=B) (a:=[.bool false,.sl [] .ti]) (c:=c) (z:=z) rfl;have t1:=λ(z:Int) (a:List Ab)=>st1 (Hc:=B) (a:=a) (c:=[.bool false,.sl [] .ti]) (z:=z) rfl;have shape:∀(a b:Int)(c d:Blk),H++Blk.c0 (By L)::.c0 (A7 a)::.c0 (A7 b)::G++[c]++[d]=H++Blk.c0 (By L)::.c0 (A7 a)::.c0 (A7 b)::(G++[c,d]):=λa b c d=>(by simp);have m1:∀c d:Blk,Ad false 1 (.ptr H.length 0 0) (B++[c]++[d])=some (.sl (enL cNd L) .no):=λc d=>(by rw[<-hB,shape];exact gn _ _ _);simp only[GMw,Ak,hpos,Aj,VK,n1,cZ,A4 hml,A2,AA,Nat.add_zero,Eu,aV,n2,n3,Zg,Ba,Bd,NK,D6,lB,t0,t1,m1,Fb jH,Wa,EE jH];by_cases h1:((w+1:Nat):Int)=1;have hst:=(AZ hl hml).2.2 (qk (w+1) a b) jH;have zO:J_.wrap (L[m].kid (qk (w+1) a b))=L[m].kid (qk (w+1) a b):=DW hst.1 (by have:=hst.2.1 (by rw[aV];exact h1);omega);have:(H++Blk.c0 (By L)::.c0 (A7 a)::.c0 (A7 b)::G++[Blk.c0 (A7 (qd (w+1) a))]++[Blk.c0 (A7 (qd (w+1) b))])=H++(Blk.c0 (By L)::.c0 (A7 a)::.c0 (A7 b)::(G++[Blk.c0 (A7 (qd (w+1) a)),.c0 (A7 (qd (w+1) b))])):=shape _ _ _ _;rw[<-hB,this];simp only[h1,GMw,AV,zO,fin];have e66:Ad true 2 (.ptr B.length 0 0) (B++[Blk.c0 (A7 (qd (w+1) a))]++[Blk.c0 (A7 (qd (w+1) b))])=some (big (qd (w+1) a)):=Bn (by simp);have e68:∀a',Ad true 2 (.ptr (B.length+1) 0 0) (H++Blk.c0 (By L)::.c0 (A7 a')::.c0 (A7 b)::(G++[Blk.c0 (A7 (qd (w+1) a)),.c0 (A7 (qd (w+1) b))]))=some (big (qd (w+1) b)):=λa'=>(by rw[<-shape];have:B.length+1=(H++Blk.c0 (By L)::.c0 (A7 a')::.c0 (A7 b)::G++[Blk.c0 (A7 (qd (w+1) a))]).length:=(by rw[<-hB];simp;omega);rw[this];exact Bn Ap);have lJ:B++[Blk.c0 (A7 (qd (w+1) a))]++[Blk.c0 (A7 (qd (w+1) b))]=H++Blk.c0 (By L)::.c0 (A7 a)::.c0 (A7 b)::(G++[Blk.c0 (A7 (qd (w+1) a)),.c0 (A7 (qd (w+1) b))]):=(by rw[<-hB];exact shape _ _ _ _);simp only[h1,GMw,e66];rw[lJ];simp only[GMw,px,e68,and_true,eq_self,py];obtain⟨k1,k2,k3⟩:=Lv.kid hl (by omega) s1 (by rw[hx,aV];omega) jH;rw[hx]at k1 k2 k3;have:=hrec (w,(L[m].kid (qk (w+1) a b)).toNat,qd (w+1) a,qd (w+1) b,G++[Blk.c0 (A7 (qd (w+1) a)),.c0 (A7 (qd (w+1) b))]) ⟨k1,by dsimp only;omega,Vni s3,Vni s4⟩ (by dsimp only;omega);rw[show(((L[m].kid (qk (w+1) a b)).toNat:Nat):Int)=L[m].kid (qk (w+1) a b) from by omega]at this;exact this
def cBO:Option Int->List Ab
 |none=>[.bool false,.sl [] .ti]
 |some z=>A7 z
instance:Sz cBO 2:=⟨λa=>by cases a<;>rfl⟩
instance:Pl cBO:=⟨λa=>by cases a<;>rfl⟩
def bo (a:Option Int):Int:=a.getD 0
def Dw (nf:Nat->Nat)(E:List (Option Int))(x:Nd)(j:Nat):Int:=
 (if 1<j then 2^(x.lv.toNat-1)else 0)+(if 1<x.lv then bo (E.getD (x.kid (nf j)).toNat none)else 0)
def DM (nf:Nat->Nat)(E:List (Option Int))(x:Nd)(j:Nat):Option Int:=
 if 1<x.lv then some (Dw nf E x j)else if 1<j then some (2^(x.lv.toNat-1))else none
def MP (nf:Nat->Nat)(E:List (Option Int))(x:Nd)(j:Nat):bo (DM nf E x j)=Dw nf E x j:=by
 unfold DM;split
 ·rfl
 rename_i h;unfold Dw;rw[zYb h];split<;>simp[bo]
def Di (nf:Nat->Nat)(E:List (Option Int))(x:Nd):Nat->Bool×Option Int
 |0=>(false,none)
 |j+1=>if x.kid (nf j)=0 then Di nf E x j
  else if (Di nf E x j).1=false\/Dw nf E x j<bo (Di nf E x j).2 then (true,DM nf E x j)else Di nf E x j
def CK (nf:Nat->Nat)(L:List Nd):List (Option Int):=L.foldl (λE x=>E++[(Di nf E x 4).2]) [none]
def VdH (nf:Nat->Nat)(L:List Nd)(x:Nd):CK nf (L++[x])=CK nf L++[(Di nf (CK nf L) x 4).2]:=by simp[CK]
def Hy (nf:Nat->Nat)(L:List Nd):(CK nf L).length=L.length+1:=by
 have key:∀(l:List Nd)(E:List (Option Int)),(l.foldl (λE x=>E++[(Di nf E x 4).2]) E).length=l.length+E.length:=by
  intro l
  induction l with
  |nil=>intro E;simp
  |cons a l ih=>intro E;simp only[List.foldl_cons,ih];simp;omega
 unfold CK;rw[key];simp
def KV (nf:Nat->Nat)(L:List Nd){i:Nat}(hi:i<L.length):CK nf (L.take (i+1))=CK nf (L.take i)++[(Di nf (CK nf (L.take i)) L[i] 4).2]:=by rw[VU hi,VdH]
def EB (L:List Nd)(E:List (Option Int)):Prop:=∀(m:Nat)(x:Nd)(o:Option Int),L[m]? = some x->E[m+1]? = some o->0<=bo o/\bo o<2^x.lv.toNat
def Vg4 {nf:Nat->Nat}{E:List (Option Int)}{x:Nd}{j:Nat}(hx:1<=x.lv)(hE:1<x.lv->0<=bo (E.getD (x.kid (nf j)).toNat none)/\bo (E.getD (x.kid (nf j)).toNat none)<2^(x.lv.toNat-1)):0<=Dw nf E x j/\Dw nf E x j<2^x.lv.toNat:=by
 unfold Dw;have e:(2:Int)^x.lv.toNat=2^(x.lv.toNat-1)*2:=by rw[<-XY];congr 1;omega
 have hp:(0:Int)<2^(x.lv.toNat-1):=XG (by omega);rw[e];by_cases h1:1<x.lv;obtain⟨h2,h3⟩:=hE h1;rw[zYc h1];generalize (2:Int)^(x.lv.toNat-1)=p at *;split<;>omega
 rw[zYb h1];generalize (2:Int)^(x.lv.toNat-1)=p at *;split<;>omega
theorem RK {nf:Nat->Nat}{E:List (Option Int)}{x:Nd}(hb:∀j,j<4->0<=Dw nf E x j/\Dw nf E x j<2^x.lv.toNat):∀j,j<=4->0<=bo (Di nf E x j).2/\bo (Di nf E x j).2<2^x.lv.toNat
 |0,_=>⟨XH _,XG (by omega)⟩
 |j+1,hj=>by unfold Di;split;exact RK hb j (by omega);split;rw[MP];exact hb j (by omega);exact RK hb j (by omega)
def Tz {nf:Nat->Nat}(gF:∀j,nf j<4){L:List Nd}(hl:AY L=true){i:Nat}(hi:i<L.length)(hE:EB (L.take i) (CK nf (L.take i)))(j:Nat)(h1:1<L[i].lv):0<=bo ((CK nf (L.take i)).getD (L[i].kid (nf j)).toNat none)/\bo ((CK nf (L.take i)).getD (L[i].kid (nf j)).toNat none)<2^(L[i].lv.toNat-1):=by
 obtain⟨l1,l2,l3⟩:=AZ hl hi;obtain⟨q1,q2,q3⟩:=l3 (nf j) (gF j);have hp:(0:Int)<2^(L[i].lv.toNat-1):=XG (by omega);by_cases hc:0<L[i].kid (nf j)
 ·obtain⟨r1,r2⟩:=q3 h1 hc;obtain⟨m,hm⟩:∃m:Nat,(L[i].kid (nf j)).toNat=m+1:=⟨(L[i].kid (nf j)).toNat-1,by omega⟩;have rM:m<i:=by omega
  have hml:m<L.length:=by omega
  have hlen:=Hy nf (L.take i);rw[Wc,WK (by omega)]at hlen;have hlt:m+1<(CK nf (L.take i)).length:=by omega
  have:=hE m L[m] _ (by rw[WG rM,VG hml]) (VG hlt);have aV:=r2 L[m] (by rw[show(L[i].kid (nf j)-1).toNat=m from by omega];exact VG hml);rw[hm,VO,VG hlt,show L[i].lv.toNat-1=L[m].lv.toNat from by omega];exact this
 ·rw[show(L[i].kid (nf j)).toNat=0 from by omega];have h0:(CK nf (L.take i)).getD 0 none=none:=by
   have key:∀(l:List Nd)(E:List (Option Int)),E[0]? = some none->(l.foldl (λE x=>E++[(Di nf E x 4).2]) E)[0]? = some none:=by
    intro l
    induction l with
    |nil=>intro E h;exact h
    |cons a l ih=>intro E h;exact ih _ (by rw[VN (VJ.1 h).1];exact h)
   rw[VO,show(CK nf (L.take i))[0]? = some none from key _ [none] rfl];rfl
  rw[h0];exact⟨XH _,hp⟩
def Vbm {nf:Nat->Nat}(gF:∀j,nf j<4){L:List Nd}(hl:AY L=true):∀i,i<=L.length->EB (L.take i) (CK nf (L.take i))
 |0,_=>by intro m x o h;simp at h
 |i+1,h=>by have ih:=Vbm gF hl i (by omega);rw[KV nf L h];intro m x o hx hz;have hlen:=Hy nf (L.take i);rw[Wc,WK (by omega)]at hlen;by_cases hn:m<i;rw[VN (by omega)]at hz;rw[WG (by omega)]at hx;exact ih m x o (by rw[WG hn];exact hx) hz;rw[Wt (by omega),hlen]at hz;have rM:m=i:=(by have:=(VJ.1 hz).1;simp at this;omega);subst rM;simp only[Wu,zXh,VT]at hz;rw[WG (by omega),VG h]at hx;injection hx with hx;rw[<-hx,<-hz];exact RK (λj _=>Vg4 (AZ hl h).1 (Tz gF hl h ih j)) 4 (VM _)
section
variable {len sz id g o m p:Nat}{K:IntKind}{Hc:Aa}{nf:Nat->Nat}
theorem VfY (h:m<len):BM len sz (.ptr id g o) (.int K (m:Int))=some (.ptr id g (o+m*sz)):=by unfold BM;simp only[];rw[zYc ⟨by omega,by omega⟩];simp
def Gh (a b:Nat):List Ab:=[.i6 (a:Int),.i6 (b:Int)]
theorem Vcl {a b:Nat}(hg:Hc[p]? = some (.c0 (Gh a b)))(h:m<2):Ad false 1 (.ptr p 0 m) Hc=some (.i6 ((if m=0 then a else b:Nat):Int)):=by
 simp only[Ad,A0 hg,zXa,VL,zYe]
 match m,h with
 |0,_=>rfl
 |1,_=>rfl
theorem GE {a:Option Int}(hg:Hc[p]? = some (.c0 (cBO a))):Ad true 2 (.ptr p 0 0) Hc=some (.agg (cBO a)):=by simp only[Ad,A0 hg,zXa,zYd];cases a<;>rfl
theorem TT (a:Option Int):(Ab.agg (cBO a)).acells=some (cBO a):=by cases a<;>rfl
theorem PP {a:Option Int}{cs:List Ab}(hg:Hc[p]? = some (.c0 cs))(hl:cs.length=2):Ae 2 (.ptr p 0 0) (.agg (cBO a)) Hc=some (Hc.set p (.c0 (cBO a))):=by simp only[Ae,A0 hg,zXa,TT,BE hg,DJ hl];rw[zYc ⟨by cases a<;>rfl,by omega⟩]

end
theorem Vkh (z:Int):big z=.agg (cBO (some z)):=rfl
def Rep (z:Int)(cs:List Ab):Prop:=∃n l tk,cs=[.bool n,.sl (enL cU l) tk]/\l.length<=549755813888/\Lim l/\El n l=z
theorem Rep.big {z:Int}(h:LB z):Rep z (A7 z):=⟨decide (z<0),A8 z.natAbs,.no,rfl,h,Bw _,L3 z⟩
theorem Rep.bo {a:Option Int}(h:LB (bo a)):Rep (Go.Gm.bo a) (cBO a):=by cases a with|none=>exact⟨false,[],.ti,rfl,by simp,(λx hx=>by simp at hx),rfl⟩|some z=>exact Rep.big h
theorem Rep.lb {z:Int}{cs:List Ab}(h:Rep z cs):LB z:=by obtain⟨n,l,tk,_,h2,h3,rfl⟩:=h;unfold LB;rw[VcT];exact Wg (Fr (Vea l h3)) h2
def Vkl {a b:Int}{cs ds:List Ab}(ha:Rep a cs)(hb:Rep b ds)(H:Aa):Uaa (.agg cs) (.agg ds) H=some (.ret (Go.Gm.big (a+b)),H):=by obtain⟨n1,l1,t1,rfl,b1,x1,rfl⟩:=ha;obtain⟨n2,l2,t2,rfl,b2,x2,rfl⟩:=hb;exact Vff _ _ _ _ _ _ _ b1 b2 x1 x2
def Vn7 {a:Int}{cs:List Ab}(ha:Rep a cs)(H:Aa):Ufx (.agg cs) H=some (.ret (Go.Gm.big (-a)),H):=by obtain⟨n1,l1,t1,rfl,b1,x1,rfl⟩:=ha;exact PZ _ _ _ _ (by omega) x1
def VoX {a:Int}{cs:List Ab}(ha:Rep a cs)(H:Aa):Bj true 2 (.agg cs) H=some (.ptr H.length 0 0,H++[.c0 cs]):=by obtain⟨n1,l1,t1,rfl,b1,x1,rfl⟩:=ha;exact BF rfl rfl
def Vi6 {a:Int}{cs:List Ab}{H:Aa}{p:Nat}(ha:Rep a cs)(hg:H[p]? = some (.c0 cs)):Ad true 2 (.ptr p 0 0) H=some (.agg cs):=by obtain⟨n1,l1,t1,rfl,b1,x1,rfl⟩:=ha;simp only[Ad,A0 hg,zXa];rfl
def Vpe {a b:Int}{cs ds:List Ab}(ha:Rep a cs)(hb:Rep b ds)(H:Aa):Uf3 (.agg cs) (.agg ds) H=some (.ret (Go.Gm.big (a-b)),H):=by
 unfold Uf3;have e1:(H++[Blk.c0 cs]++[Blk.c0 ds]++[Blk.c0 [.bool false,.sl [] .ti]])[H.length]? = some (.c0 cs):=by simp
 have e2:(H++[Blk.c0 cs]++[Blk.c0 ds]++[Blk.c0 [.bool false,.sl [] .ti]])[(H++[Blk.c0 cs]).length]? = some (.c0 ds):=by simp
 have hz:=Rep.big hb.lb.neg;simp only[GMw,VoX ha,VoX hb,D6,Vi6 ha e1,Vi6 hb e2,Vn7 hb,and_true,eq_self];rw[<-TS (-b)];simp only[GMw,Vkl ha hz,Cc (Ap (B:=H++[Blk.c0 cs]++[Blk.c0 ds]) (cs:=[.bool false,.sl [] .ti])) rfl,Bg,Bn Ap];rw[show a + -b=a-b from rfl];simp only[VP,CD,ViT,zXb]
def Vq4 {a b:Int}{cs ds:List Ab}(ha:Rep a cs)(hb:Rep b ds)(H:Aa):Uab (.agg cs) (.agg ds) H=some (.ret (.i6 (FM a b)),H):=by
 unfold Uab;have e1:(H++[Blk.c0 cs]++[Blk.c0 ds])[H.length]? = some (.c0 cs):=by simp
 have e2:(H++[Blk.c0 cs]++[Blk.c0 ds])[(H++[Blk.c0 cs]).length]? = some (.c0 ds):=Ap;simp only[GMw,VoX ha,VoX hb,Vi6 ha e1,Vi6 hb e2,Vpe ha hb,D6];generalize hB:H++[Blk.c0 cs]++[Blk.c0 ds]=B;have g0:Ad false 1 (.ptr B.length 0 0) (B++[Blk.c0 (A7 (a-b))])=some (.bool (decide (a-b<0))):=by simp only[Ad,A0 Ap,zXa];rfl
 have g1:Ad false 1 (.ptr B.length 0 1) (B++[Blk.c0 (A7 (a-b))])=some (.sl (enL cU (A8 (a-b).natAbs)) .no):=by simp only[Ad,A0 Ap,zXa];rfl
 have fin:∀q:Int,rP H (.i6 q) (B++[Blk.c0 (A7 (a-b))])=some (.ret (.i6 q),H):=λq=>by rw[<-hB];simp only[VP];exact Ih
 simp only[Cc (Ap (B:=B) (cs:=[.bool false,.sl [] .ti])) rfl,Bg,GMw,Aj,VK,Nat.add_zero,g0,g1,Ax];unfold FM;by_cases h0:a=b
 ·subst h0;have:((A8 (a-a).natAbs).length:Int)=0:=by rw[Int.sub_self];simp[Ef]
  simp only[this,GMw,fin,Wv]
 ·have hne:A8 (a-b).natAbs≠[]:=Pk (by omega);have hp:=W6.2 hne;have hz:¬((A8 (a-b).natAbs).length:Int)=0:=by omega
  by_cases hn:a<b;have h1:a-b<0:=(by omega);simp only[hz,GMw,h1,hn,fin];have h1:¬a-b<0:=(by omega);simp only[hz,GMw,h1,hn,h0,fin]
def IR (x:Nd)(j:Nat):Option Int:=if 1<j then some (2^(x.lv.toNat-1))else none
theorem Vos (a b:Nat)(H:Aa):Bj true 2 (.agg (Gh a b)) H=some (.ptr H.length 0 0,H++[.c0 (Gh a b)]):=BF rfl rfl
def Vg3 {nf:Nat->Nat}(gF:∀j,nf j<4){L:List Nd}(tk:Tok)(H Hc:Aa)(E:List (Option Int))(i j pN pF id ph:Nat)(hi:i<L.length)(hj:j<4)(hL:L.length<549755813888)
  (hE:E.length=L.length+1)(aV:1<=L[i].lv/\L[i].lv<=1329)(cO:0<=L[i].kid (nf j))(iV:1<L[i].lv->(L[i].kid (nf j)).toNat<E.length/\(L[i].kid (nf j)).toNat≠i+1/\LB (bo (E.getD (L[i].kid (nf j)).toNat none)))
  (hJ:LB (Dw nf E L[i] j))(q:Bool×Option Int)(hq:LB (bo q.2))(zC:H.length<=pN/\H.length<=pF/\H.length<=id/\H.length<=ph)(dN:pN≠id)(dF:pF≠id)(dH:ph≠id)
  (fN:Hc[pN]? = some (.c0 (Gh (nf 0) (nf 1))))(fF:Hc[pF]? = some (.c0 (Gh (nf 2) (nf 3))))(fR:Hc[id]? = some (.c0 (flat cBO (E.set (i+1) q.2))))(fH:Hc[ph]? = some (.c0 (A7 (2^(L[i].lv.toNat-1)))))(hold:∀k,k<H.length->Hc[k]? = H[k]?)(hlen:H.length<=Hc.length):∃Hd,(∀rec1 aA:LK,Udo H rec1 aA (.sl (enL cNd L) tk) (.ptr pN 0 0) (.ptr pF 0 0) (.ms id 0 0 (L.length+1) (L.length+1) 2 true) (.i6 (i:Int)) (.ptr ph 0 0) (.bool q.1) (.i6 (j:Int)) Hc=aA [.sl (enL cNd L) tk,.ptr pN 0 0,.ptr pF 0 0,.ms id 0 0 (L.length+1) (L.length+1) 2 true,.i6 (i:Int),.ptr ph 0 0,.bool (if L[i].kid (nf j)=0 then q else if q.1=false\/Dw nf E L[i] j<bo q.2 then (true,DM nf E L[i] j)else q).1,.i6 ((j+1:Nat):Int)] Hd) /\
   Hd[pN]? = some (.c0 (Gh (nf 0) (nf 1)))/\Hd[pF]? = some (.c0 (Gh (nf 2) (nf 3)))/\Hd[id]? = some (.c0 (flat cBO (E.set (i+1) (if L[i].kid (nf j)=0 then q else if q.1=false\/Dw nf E L[i] j<bo q.2 then (true,DM nf E L[i] j)else q).2)))/\Hd[ph]? = some (.c0 (A7 (2^(L[i].lv.toNat-1))))/\(∀k,k<H.length->Hd[k]? = H[k]?)/\H.length<=Hd.length:=by
 have hj':(j:Int)<4:=by omega
 have aP:=Ar (show j<9223372036854775807 by omega);have cP:=Ar (show i<9223372036854775807 by omega);have hm2:j%2<2:=Xw _ (by omega);have oC:(j:Int).tmod 2=((j%2:Nat):Int):=rfl;have hgt:decide ((j:Int)>1)=decide (1<j):=by rw[VZ];simp only[zXe];omega
 have tV:nf j=if 1<j then (if j%2=0 then nf 2 else nf 3)else (if j%2=0 then nf 0 else nf 1):=by
  match j,hj with
  |0,_=>rfl
  |1,_=>rfl
  |2,_=>rfl
  |3,_=>rfl
 have hz:Az (some [(.bool false),(.sl [] .ti)]) []=some (.agg (cBO none)):=rfl;generalize hB:Hc++[Blk.c0 (cBO (IR L[i] j))]=B;have bN:B[pN]? = some (.c0 (Gh (nf 0) (nf 1))):=by rw[<-hB];exact A1 fN
 have bF:B[pF]? = some (.c0 (Gh (nf 2) (nf 3))):=by rw[<-hB];exact A1 fF
 have bR:B[id]? = some (.c0 (flat cBO (E.set (i+1) q.2))):=by rw[<-hB];exact A1 fR
 have bH:B[ph]? = some (.c0 (A7 (2^(L[i].lv.toNat-1)))):=by rw[<-hB];exact A1 fH
 have bM:B[Hc.length]? = some (.c0 (cBO (IR L[i] j))):=by rw[<-hB];exact Ap
 have bold:∀k,k<H.length->B[k]? = H[k]? := λk hk=>by rw[<-hB,VN (by omega)];exact hold k hk
 have bl:B.length=Hc.length+1:=by rw[<-hB];simp
 suffices hs:∃Hd,(∀aA:LK,Udn H (λvs H1=>Uax H aA (ag vs 0) (ag vs 1) (ag vs 2) (ag vs 3) (ag vs 4) (ag vs 5) (ag vs 6) (ag vs 7) H1) (.sl (enL cNd L) tk) (.ptr pN 0 0) (.ptr pF 0 0) (.ms id 0 0 (L.length+1) (L.length+1) 2 true) (.i6 (i:Int)) (.ptr ph 0 0) (.bool q.1) (.i6 (j:Int)) (.i6 (nf j:Int)) (.ptr Hc.length 0 0) B=aA [.sl (enL cNd L) tk,.ptr pN 0 0,.ptr pF 0 0,.ms id 0 0 (L.length+1) (L.length+1) 2 true,.i6 (i:Int),.ptr ph 0 0,.bool (if L[i].kid (nf j)=0 then q else if q.1=false\/Dw nf E L[i] j<bo q.2 then (true,DM nf E L[i] j)else q).1,.i6 ((j+1:Nat):Int)] Hd) /\
   Hd[pN]? = some (.c0 (Gh (nf 0) (nf 1)))/\Hd[pF]? = some (.c0 (Gh (nf 2) (nf 3)))/\Hd[id]? = some (.c0 (flat cBO (E.set (i+1) (if L[i].kid (nf j)=0 then q else if q.1=false\/Dw nf E L[i] j<bo q.2 then (true,DM nf E L[i] j)else q).2)))/\Hd[ph]? = some (.c0 (A7 (2^(L[i].lv.toNat-1))))/\(∀k,k<H.length->Hd[k]? = H[k]?)/\H.length<=Hd.length by
  obtain⟨Hd,h1,h2⟩:=hs;refine⟨Hd,λrec1 aA=>?_,h2⟩;have hst:∀a:Option Int,Ae 2 (.ptr Hc.length 0 0) (.agg (cBO a)) (Hc++[Blk.c0 (cBO none)])=some (Hc++[Blk.c0 (cBO a)]):=λa=>by rw[PP (Ap (B:=Hc)) rfl,Bg]
  have iN:Av (some [.bool false,.sl [] .ti]) Hc=some (.ptr Hc.length 0 0,Hc++[.c0 (cBO none)]):=D6 Hc;unfold Udo;simp only[GMw,hj',HL (show(2:Int)≠0 by decide),oC,VfY hm2,VK,Wa,Vcl fN hm2,hz,iN,hst,Ak,hgt];by_cases qD:1<j;have hF:(Hc++[Blk.c0 (cBO none)])[pF]? = some (.c0 (Gh (nf 2) (nf 3))):=A1 fF;have hH:(Hc++[Blk.c0 (cBO none)])[ph]? = some (.c0 (A7 (2^(L[i].lv.toNat-1)))):=A1 fH;rw[zYc qD]at tV;have rL:IR L[i] j=some (2^(L[i].lv.toNat-1)):=(by unfold IR;rw[zYc qD]);simp only[GMw,qD,Vcl hF hm2,Bn hH];rw[Vkh];simp only[GMw,hst];rw[<-rL,hB,<-tV];exact h1 aA;rw[zYb qD]at tV;have rL:IR L[i] j=none:=(by unfold IR;rw[zYb qD]);simp only[GMw,qD];rw[<-rL,hB,<-tV];exact h1 aA
 have tU:=gF j;have hEl:(E.set (i+1) q.2).length=L.length+1:=by simp[hE]
 by_cases iU:L[i].kid (nf j)=0;refine⟨B,λaA=>?_,bN,bF,by rw[zYc iU];exact bR,bH,bold,by omega⟩;unfold Udn;simp only[GMw,A2,AA,VK,Nat.add_zero,Wa,Eu,A4 hi,Fb tU,EE tU,iU,Ak,Uax,aP]
 ·-- the distance
  obtain⟨c,hc⟩:=WI cO;have eL:(L[i].kid (nf j)).toNat=c:=by omega
  rw[eL]at iV;generalize hD:B++[Blk.c0 (cBO (DM nf E L[i] j))]=D;have dn:D[pN]? = some (.c0 (Gh (nf 0) (nf 1))):=by rw[<-hD];exact A1 bN
  have df:D[pF]? = some (.c0 (Gh (nf 2) (nf 3))):=by rw[<-hD];exact A1 bF
  have dr:D[id]? = some (.c0 (flat cBO (E.set (i+1) q.2))):=by rw[<-hD];exact A1 bR
  have dh:D[ph]? = some (.c0 (A7 (2^(L[i].lv.toNat-1)))):=by rw[<-hD];exact A1 bH
  have dd:D[B.length]? = some (.c0 (cBO (DM nf E L[i] j))):=by rw[<-hD];exact Ap
  have dold:∀k,k<H.length->D[k]? = H[k]? := λk hk=>by rw[<-hD,VN (by omega)];exact bold k hk
  have dl:D.length=B.length+1:=by rw[<-hD];simp
  have mL:=(VJ.1 dr).1;have iR:=CZ (sz:=2) (id:=id) (n:=L.length+1) (K:=.i64) (g:=0) (off:=0) (cap:=L.length+1) (ex:=true) (i:=i+1) (by omega);rw[VK]at iR;have oO:=Vcm (f:=cBO) (sz:=2) (A0 dr) (i:=i+1) (by omega);rw[Yw]at oO;have nW:=Eb (f:=cBO) (sz:=2) (l:=E.set (i+1) q.2) (i:=i+1) (a:=DM nf E L[i] j) (v:=.agg (cBO (DM nf E L[i] j))) (A0 dr) (by omega) (TT _);rw[BE dr,Yr]at nW;have hJ':LB (bo (DM nf E L[i] j)):=by rw[MP];exact hJ
  have eA:=λH=>Vq4 (Rep.bo hJ') (Rep.bo hq) H;simp only[MP]at eA;have h5:∃Hd,(∀aA:LK,Ub6 H (λvs H1=>Uax H aA (ag vs 0) (ag vs 1) (ag vs 2) (ag vs 3) (ag vs 4) (ag vs 5) (ag vs 6) (ag vs 7) H1) (.sl (enL cNd L) tk) (.ptr pN 0 0) (.ptr pF 0 0) (.ms id 0 0 (L.length+1) (L.length+1) 2 true) (.i6 (i:Int)) (.ptr ph 0 0) (.bool q.1) (.i6 (j:Int)) (.ptr B.length 0 0) D=aA [.sl (enL cNd L) tk,.ptr pN 0 0,.ptr pF 0 0,.ms id 0 0 (L.length+1) (L.length+1) 2 true,.i6 (i:Int),.ptr ph 0 0,.bool (if q.1=false\/Dw nf E L[i] j<bo q.2 then (true,DM nf E L[i] j)else q).1,.i6 ((j+1:Nat):Int)] Hd) /\
    Hd[pN]? = some (.c0 (Gh (nf 0) (nf 1)))/\Hd[pF]? = some (.c0 (Gh (nf 2) (nf 3)))/\Hd[id]? = some (.c0 (flat cBO (E.set (i+1) (if q.1=false\/Dw nf E L[i] j<bo q.2 then (true,DM nf E L[i] j)else q).2)))/\Hd[ph]? = some (.c0 (A7 (2^(L[i].lv.toNat-1))))/\(∀k,k<H.length->Hd[k]? = H[k]?)/\H.length<=Hd.length:=by
   have put:(D.set id (.c0 (flat cBO (E.set (i+1) (DM nf E L[i] j)))))[pN]? = some (.c0 (Gh (nf 0) (nf 1)))/\(D.set id (.c0 (flat cBO (E.set (i+1) (DM nf E L[i] j)))))[pF]? = some (.c0 (Gh (nf 2) (nf 3)))/\(D.set id (.c0 (flat cBO (E.set (i+1) (DM nf E L[i] j)))))[id]? = some (.c0 (flat cBO (E.set (i+1) (DM nf E L[i] j))))/\(D.set id (.c0 (flat cBO (E.set (i+1) (DM nf E L[i] j)))))[ph]? = some (.c0 (A7 (2^(L[i].lv.toNat-1))))/\(∀k,k<H.length->(D.set id (.c0 (flat cBO (E.set (i+1) (DM nf E L[i] j)))))[k]? = H[k]?)/\H.length<=(D.set id (.c0 (flat cBO (E.set (i+1) (DM nf E L[i] j))))).length:=
    ⟨by rw[VH dN.symm];exact dn,by rw[VH dF.symm];exact df,by rw[VX mL],by rw[VH dH.symm];exact dh,λk hk=>by rw[VH (by omega)];exact dold k hk,by simp;omega⟩
   cases nA:q.1 with
   |false=>rw[zYc (Or.inl rfl)];refine⟨_,λaA=>?_,put⟩;unfold Ub6;simp only[GMw,GE dd,cP,iR,nW,Ak,Uax,aP]
   |true=>by_cases hlt:Dw nf E L[i] j<bo q.2;rw[zYc (Or.inr hlt)];refine⟨_,λaA=>?_,put⟩;unfold Ub6;simp only[GMw,GE dd,cP,iR,oO,eA,HJ,hlt,nW,Ak,Uax,aP];rw[zYb (by intro h;rcases h with h | h;cases h;exact hlt h)];refine⟨D,λaA=>?_,dn,df,dr,dh,dold,by omega⟩;unfold Ub6;simp only[GMw,GE dd,cP,iR,oO,eA,HJ,hlt,Ak,Uax,aP,nA]
  rw[zYb iU];obtain⟨Hd,g1,g2⟩:=h5;refine⟨Hd,λaA=>?_,g2⟩;have jI:¬(c:Int)=0:=by rw[<-hc];exact iU
  have hst:∀a:Option Int,∀cs:Option Int,Ae 2 (.ptr B.length 0 0) (.agg (cBO a)) (B++[Blk.c0 (cBO cs)])=some (B++[Blk.c0 (cBO a)]):=λa cs=>by rw[PP (Ap (B:=B)) (by cases cs<;>rfl),Bg]
  have iN:Av (some [.bool false,.sl [] .ti]) B=some (.ptr B.length 0 0,B++[.c0 (cBO none)]):=D6 B;unfold Udn;simp only[GMw,A2,AA,VK,Nat.add_zero,Wa,Eu,A4 hi,Fb tU,EE tU,hc,jI,GE bM,iN,hst,Ak];by_cases h1:1<L[i].lv;have eO:L[i].lv>1:=h1;obtain⟨i1,i2,i3⟩:=iV h1;have hB1M:(B++[Blk.c0 (cBO (IR L[i] j))])[Hc.length]? = some (.c0 (cBO (IR L[i] j))):=A1 bM;have hB1R:(B++[Blk.c0 (cBO (IR L[i] j))])[id]? = some (.c0 (flat cBO (E.set (i+1) q.2))):=A1 bR;have mX:=CZ (sz:=2) (id:=id) (n:=L.length+1) (K:=.i64) (g:=0) (off:=0) (cap:=L.length+1) (ex:=true) (i:=c) (by omega);rw[VK]at mX;have sA:=Vcm (f:=cBO) (sz:=2) (A0 hB1R) (i:=c) (by omega);rw[List.getElem_set_ne (by omega)]at sA;have eX:E.getD c none=E[c]:=(by rw[VO,VG i1];rfl);rw[eX]at i3;have vY:LB (bo (IR L[i] j)):=(by unfold IR;split;exact(EY (by omega)).lb (by decide);exact VbB);have aU:=λH=>Vkl (Rep.bo vY) (Rep.bo i3) H;have gW:bo (IR L[i] j)+bo E[c]=Dw nf E L[i] j:=(by unfold Dw IR;rw[zYc h1,eL,eX];split<;>rfl);have hDd:DM nf E L[i] j=some (Dw nf E L[i] j):=(by unfold DM;rw[zYc h1]);simp only[GMw,eO,GE hB1M,mX,sA,aU,gW];rw[Vkh,<-hDd];simp only[GMw,hst,hD];exact g1 aA;have eO:¬L[i].lv>1:=h1;have hDd:DM nf E L[i] j=IR L[i] j:=(by unfold DM IR;rw[zYb h1]);simp only[GMw,eO];rw[<-hDd,hD];exact g1 aA
def ML {z:Int}{v:Nat}(h0:0<=z)(h:z<2^v)(hv:v<=1400):LB z:=by have h1:=EY hv;have h2:=Jj v;unfold SB at h1;refine LB.of (k:=44) (WE ?_ h1) (by decide);generalize (2:Int)^v=p at *;omega
def N3 {nf:Nat->Nat}(gF:∀j,nf j<4)(L:List Nd)(tk:Tok)(H:Aa)(hL:L.length<549755813888)(hl:AY L=true):Uay (.sl (enL cNd L) tk) (.agg (Gh (nf 0) (nf 1))) (.agg (Gh (nf 2) (nf 3))) H=some (.ret (.sl (enL cBO (CK nf L)) .no),H):=by
 unfold Uay;have dE:=F9 (f:=cBO) (a:=none) (n:=L.length+1) (bytes:=32) (H:=H++[Blk.c0 (Gh (nf 0) (nf 1))]++[Blk.c0 (Gh (nf 2) (nf 3))]) (by omega) (by omega);simp only[show cBO none=[Ab.bool false,.sl [] .ti] from rfl]at dE;simp only[GMw,Vos,Ax,Ar (show L.length<9223372036854775807 by omega),dE];have l1:(H++[Blk.c0 (Gh (nf 0) (nf 1))]).length=H.length+1:=by simp
 have l2:(H++[Blk.c0 (Gh (nf 0) (nf 1))]++[Blk.c0 (Gh (nf 2) (nf 3))]).length=H.length+2:=by simp
 rw[l1,l2];have loop:=Fp (G:=λrec1 vs Hc=>Udp H rec1 (ag vs 0) (ag vs 1) (ag vs 2) (ag vs 3) (ag vs 4) Hc) L.length
  (λi vs Hc=>vs=[.sl (enL cNd L) tk,.ptr H.length 0 0,.ptr (H.length+1) 0 0,.ms (H.length+2) 0 0 (L.length+1) (L.length+1) 2 true,.i6 (i:Int)]/\Hc[H.length]? = some (.c0 (Gh (nf 0) (nf 1)))/\Hc[H.length+1]? = some (.c0 (Gh (nf 2) (nf 3)))/\Hc[H.length+2]? = some (.c0 (flat cBO (CK nf (L.take i)++List.replicate (L.length-i) none)))/\(∀k,k<H.length->Hc[k]? = H[k]?)/\H.length+3<=Hc.length)
  (by omega) (λi vs Hc hi hI=>?_) (vs:=[.sl (enL cNd L) tk,.ptr H.length 0 0,.ptr (H.length+1) 0 0,.ms (H.length+2) 0 0 (L.length+1) (L.length+1) 2 true,.i6 0])
  (H:=H++[Blk.c0 (Gh (nf 0) (nf 1))]++[Blk.c0 (Gh (nf 2) (nf 3))]++[Blk.c0 (flat cBO (List.replicate (L.length+1) none))])
  ⟨rfl,by simp,by simp,by simp[CK,zXm],λk hk=>by rw[VP,VP,VN hk],by simp⟩
 obtain⟨vs',Hc,⟨rfl,f1,f2,f3,f4,f5⟩,rec,aB⟩:=loop;rw[aB];unfold Udp;rw[VW (VM _),Wu,List.replicate_zero,Wm]at f3;have eF:=Vbh (f:=cBO) (b:=H.length) (d:=5) (cap:=L.length+1) (ex:=true) (A0 f3) (by omega);rw[Hy]at eF;simp only[GMw,Ak,Ax,Wv,Fl (Cu f4),eF,zXb]
 ·obtain⟨rfl,f1,f2,f3,f4,f5⟩:=hI;have aE:(i:Int)<(L.length:Int):=by omega
  have cP:=Ar (show i<9223372036854775807 by omega);obtain⟨v1,v2,v3⟩:=AZ hl hi;have hw:I_.wrap (L[i].lv-1)=((L[i].lv.toNat-1:Nat):Int):=by rw[Am]<;>omega
  have cD:=λH=>Iw (L[i].lv.toNat-1) H (by omega);have hEB:=Vbm gF hl i (by omega);have hlen:(CK nf (L.take i)).length=i+1:=by rw[Hy];simp;omega
  have s1:Ae 2 (.ptr Hc.length 0 0) (big (2^(L[i].lv.toNat-1))) (Hc++[.c0 [.bool false,.sl [] .ti]])=some (Hc++[.c0 (A7 (2^(L[i].lv.toNat-1)))]):=by rw[Cc (Ap (B:=Hc)) rfl,Bg]
  generalize hE:CK nf (L.take i)++List.replicate (L.length-i) none=E at f3;have hEl:E.length=L.length+1:=by rw[<-hE];simp[hlen];omega
  have nH:∀c,c<=i->E.getD c none=(CK nf (L.take i)).getD c none:=λc hc=>by rw[<-hE,VO,VO,VN (by omega)]
  have eJ:∀j,1<L[i].lv->(L[i].kid (nf j)).toNat<=i:=λj h1=>by obtain⟨q1,q2,q3⟩:=v3 (nf j) (gF j);by_cases hc:0<L[i].kid (nf j);have:=(q3 h1 hc).1;omega;omega
  have hJeq:∀j,Dw nf E L[i] j=Dw nf (CK nf (L.take i)) L[i] j:=λj=>by unfold Dw;by_cases h1:1<L[i].lv;rw[zYc h1,zYc h1,nH _ (eJ j h1)];rw[zYb h1,zYb h1]
  have hDeq:∀j,DM nf E L[i] j=DM nf (CK nf (L.take i)) L[i] j:=λj=>by unfold DM;rw[hJeq]
  have hKeq:∀j,Di nf E L[i] j=Di nf (CK nf (L.take i)) L[i] j:=λj=>by
   induction j with
   |zero=>rfl
   |succ j ih=>unfold Di;rw[ih,hJeq,hDeq]
  have hJb:∀j,0<=Dw nf E L[i] j/\Dw nf E L[i] j<2^L[i].lv.toNat:=λj=>by rw[hJeq];exact Vg4 v1 (Tz gF hl hi hEB j)
  have hJl:∀j,LB (Dw nf E L[i] j):=λj=>ML (hJb j).1 (hJb j).2 (by omega);have hKl:∀j,j<=4->LB (bo (Di nf E L[i] j).2):=λj hj=>by have:=RK (λj _=>hJb j) j hj;exact ML this.1 this.2 (by omega)
  have qT:List.replicate (L.length-i) (none:Option Int)=none::List.replicate (L.length-(i+1)) none:=by rw[show L.length-i=(L.length-(i+1))+1 from by omega,zXm]
  have aH:∀o:Option Int,E.set (i+1) o=CK nf (L.take i)++o::List.replicate (L.length-(i+1)) none:=λo=>by rw[<-hE,qT,Wy _ _ (by omega),hlen,Wu,List.set_cons_zero]
  have qQ:E.set (i+1) (Di nf E L[i] 0).2=E:=by rw[aH];show CK nf (L.take i)++none::_=E;rw[<-qT,hE]
  have turn:=λ(j:Nat) (hj:j<4) (Hd:Aa)=>Vg3 gF tk H Hd E i j H.length (H.length+1) (H.length+2) Hc.length hi hj hL hEl ⟨v1,v2⟩ (v3 (nf j) (gF j)).1 (λh1=>⟨by have:=eJ j h1;omega,by have:=eJ j h1;omega,by rw[nH _ (eJ j h1)];have:=Tz gF hl hi hEB j h1;exact ML this.1 this.2 (by omega)⟩) (hJl j) (Di nf E L[i] j) (hKl j (by omega)) ⟨by omega,by omega,by omega,by omega⟩ (by omega) (by omega) (by omega);have next:∀j,(if L[i].kid (nf j)=0 then Di nf E L[i] j else if (Di nf E L[i] j).1=false\/Dw nf E L[i] j<bo (Di nf E L[i] j).2 then (true,DM nf E L[i] j)else Di nf E L[i] j)=Di nf E L[i] (j+1):=λj=>rfl
  simp only[next]at turn;obtain⟨H1,t1,a1,b1,c1,d1,e1,g1⟩:=turn 0 (by omega) (Hc++[Blk.c0 (A7 (2^(L[i].lv.toNat-1)))]) (A1 f1) (A1 f2) (by rw[qQ];exact A1 f3) Ap (λk hk=>by rw[VN (by omega)];exact f4 k hk) (by simp;omega);obtain⟨H2,t2,a2,b2,c2,d2,e2,g2⟩:=turn 1 (by omega) H1 a1 b1 c1 d1 e1 g1;obtain⟨H3,t3,a3,b3,c3,d3,e3,g3⟩:=turn 2 (by omega) H2 a2 b2 c2 d2 e2 g2;obtain⟨H4,t4,a4,b4,c4,d4,e4,g4⟩:=turn 3 (by omega) H3 a3 b3 c3 d3 e3 g3;have mL:=(VJ.1 c4).1;refine⟨[.sl (enL cNd L) tk,.ptr H.length 0 0,.ptr (H.length+1) 0 0,.ms (H.length+2) 0 0 (L.length+1) (L.length+1) 2 true,.i6 ((i+1:Nat):Int)],H4,⟨rfl,a4,b4,?_,e4,by omega⟩,λrec=>?_⟩;rw[c4,KV nf L hi,aH,<-hKeq];simp;unfold Udp;simp only[GMw,A2,AA,Nat.add_zero,Eu,Ak,Ax,aE,A4 hi,hw,cD,D6,s1];obtain⟨n,hn⟩:=Vgl 5 (by decide);have hf:¬(((3+1:Nat):Int)<4):=(by decide);rw[hn,show n+5=(((n+1)+1)+1+1)+1 from rfl,Bx];simp only[At,Ak];refine(t1 rec _).trans ?_;rw[Bx];simp only[At,Ak];refine(t2 rec _).trans ?_;rw[Bx];simp only[At,Ak];refine(t3 rec _).trans ?_;rw[Bx];simp only[At,Ak];refine(t4 rec _).trans ?_;rw[Bx];unfold Udo;simp only[GMw,Ak,hf,cP]
def IA (x y w h:Int):List Ab:=A7 x++A7 y++A7 w++A7 h
def Q9 (x y w h:Int):Ab:=.agg (IA x y w h)
def GU:List Ab:=[.bool false,.sl [] .ti,.bool false,.sl [] .ti,.bool false,.sl [] .ti,.bool false,.sl [] .ti]
def nfW (j:Nat):Nat:=match j with | 0=>0 | 1=>2 | 2=>1 | _=>3
def nfE (j:Nat):Nat:=match j with | 0=>1 | 1=>3 | 2=>0 | _=>2
def nfN (j:Nat):Nat:=match j with | 0=>0 | 1=>1 | 2=>2 | _=>3
def nfS (j:Nat):Nat:=match j with | 0=>2 | 1=>3 | 2=>0 | _=>1
def GK (nf:Nat->Nat)(L:List Nd):Option Int:=(CK nf L).getD L.length none
def bxX (L:List Nd):Int:=-(2^((Cm L).toNat-1))+bo (GK nfW L)
def bxY (L:List Nd):Int:=-(2^((Cm L).toNat-1))+bo (GK nfN L)
def bxW (L:List Nd):Int:=2^(Cm L).toNat-(bo (GK nfW L)+bo (GK nfE L))
def bxH (L:List Nd):Int:=2^(Cm L).toNat-(bo (GK nfN L)+bo (GK nfS L))
def Qc (j:Nat):nfW j<4:=by unfold nfW;split<;>omega
def SM (j:Nat):nfE j<4:=by unfold nfE;split<;>omega
def Qd (j:Nat):nfN j<4:=by unfold nfN;split<;>omega
def SL (j:Nat):nfS j<4:=by unfold nfS;split<;>omega
def VgS (a b:Nat):Az (some [.i6 0,.i6 0]) [(0,1,.i6 (a:Int)),(1,1,.i6 (b:Int))]=some (.agg (Gh a b)):=by simp[Az,Gy,D3,Gh]
def Jd {nf:Nat->Nat}(gF:∀j,nf j<4){L:List Nd}(hl:AY L=true)(h0:0<L.length):0<=bo (GK nf L)/\bo (GK nf L)<2^(Cm L).toNat:=by
 have hb:=Vbm gF hl L.length (VM _);rw[VW (VM _)]at hb;have hm:L.length-1<L.length:=by omega
 have hlt:L.length<(CK nf L).length:=by rw[Hy];omega
 have:=hb (L.length-1) L[L.length-1] (CK nf L)[L.length] (VG hm) (by rw[show L.length-1+1=L.length from by omega];exact VG hlt);have ht:Cm L=L[L.length-1].lv:=by unfold Cm;rw[F8 (n:=L.length-1) (by omega) hm]
 unfold GK;rw[VO,VG hlt,ht];exact this
def Js (B:Aa)(o:Option Int):Ae 2 (.ptr B.length 0 0) (.agg (cBO o)) (B++[Blk.c0 [.bool false,.sl [] .ti]])=some (B++[Blk.c0 (cBO o)]):=by rw[PP (Ap (B:=B) (cs:=[.bool false,.sl [] .ti])) rfl,Bg]
def NB {nf:Nat->Nat}(L:List Nd)(H:Aa)(k:Ab->Out):((Aw 2 (.sl (enL cBO (CK nf L)) .no) (.i6 (L.length:Int))).bind λx20=>(Ad true 2 x20 H).bind k)=k (.agg (cBO (GK nf L))):=by
 have hlt:L.length<(CK nf L).length:=by rw[Hy];omega
 rw[A4 hlt];unfold GK;rw[VO,VG hlt];cases(CK nf L)[L.length]<;>rfl
def RJ {nf:Nat->Nat}(gF:∀j,nf j<4){L:List Nd}(hl:AY L=true)(h0:0<L.length):LB (bo (GK nf L)):=by have:=Jd gF hl h0;have hle:=QO hl h0 (VM _);exact ML this.1 this.2 (Wg hle (by omega))
def Vnl (L:List Nd)(H:Aa)(hL:L.length<549755813888)(hl:AY L=true)(h0:L≠[]):Uaz (En L) H=some (.ret (.tup [Q9 (bxX L) (bxY L) (bxW L) (bxH L),.bool true]),H):=by
 have hlen:0<L.length:=W6.2 h0;have hl0:¬((L.length:Int)=0):=by omega
 have hLv:Lv L (Cm L).toNat L.length:=⟨VM _,.inr rfl⟩;obtain⟨eR,hn2⟩:=hLv.num hlen hl;have lX:Cm L=((Cm L).toNat:Int):=eR;have hle:(Cm L).toNat<=1329:=QO hl hlen (VM _);have bW:=RJ Qc hl hlen;have bE:=RJ SM hl hlen;have bN:=RJ Qd hl hlen;have bS:=RJ SL hl hlen;have kW:=λH=>N3 Qc L .no H hL hl;have kE:=λH=>N3 SM L .no H hL hl;have kN:=λH=>N3 Qd L .no H hL hl;have kS:=λH=>N3 SL L .no H hL hl;simp only[nfW,nfE,nfN,nfS]at kW kE kN kS;have lvl:=λH=>Vb L .no H (show L.length<17592186044415 by omega);rw[<-VeT]at lvl;simp only[zYb h0]at lvl;unfold Uaz;have zH:Av (some [(.bool false),(.sl [] .ti),(.bool false),(.sl [] .ti),(.bool false),(.sl [] .ti),(.bool false),(.sl [] .ti)]) (H++[Blk.c0 (By L)])=some (.ptr (H++[Blk.c0 (By L)]).length 0 0,H++[Blk.c0 (By L)]++[.c0 GU]):=alloc_eq rfl;simp only[GMw,VmE,zH];generalize h2:H++[Blk.c0 (By L)]++[Blk.c0 GU]=H2;generalize h1:(H++[Blk.c0 (By L)]).length=p1;have n2:Ad false 1 (.ptr H.length 0 0) H2=some (.sl (enL cNd L) .no):=Fq (by rw[<-h2];simp);have q2:Ad true 1 (.ptr H.length 0 0) H2=some (En L):=Pi (by rw[<-h2];simp);have z2:H2[p1]? = some (.c0 GU):=by rw[<-h2,<-h1];exact Ap
 have o2:∀k,k<H.length->H2[k]? = H[k]? := λk hk=>by rw[<-h2,VP,VN hk]
 have p1l:H.length<p1:=by rw[<-h1];simp
 have tw:=λ(a b:Nat)=>VgS a b;have t02:=tw 0 2;have t13:=tw 1 3;have t01:=tw 0 1;have t23:=tw 2 3;simp only[show((0:Nat):Int)=0 from rfl,show((1:Nat):Int)=1 from rfl,show((2:Nat):Int)=2 from rfl,show((3:Nat):Int)=3 from rfl]at t02 t13 t01 t23;simp only[GMw,Aj,Nat.add_zero,n2,Ax,hl0,t02,t13,t01,t23,kW];rw[NB];simp only[GMw,D6,Js];generalize h3:H2++[Blk.c0 (cBO (GK nfW L))]=H3;have n3:Ad false 1 (.ptr H.length 0 0) H3=some (.sl (enL cNd L) .no):=by rw[<-h3];exact BB n2
 have w3:Ad true 2 (.ptr H2.length 0 0) H3=some (.agg (cBO (GK nfW L))):=by rw[<-h3];exact GE Ap
 simp only[GMw,n3,kE];rw[NB];simp only[GMw,Js];generalize h4:H3++[Blk.c0 (cBO (GK nfE L))]=H4;have n4:Ad false 1 (.ptr H.length 0 0) H4=some (.sl (enL cNd L) .no):=by rw[<-h4];exact BB n3
 have e4:Ad true 2 (.ptr H3.length 0 0) H4=some (.agg (cBO (GK nfE L))):=by rw[<-h4];exact GE Ap
 simp only[GMw,n4,kN];rw[NB];simp only[GMw,Js];generalize h5:H4++[Blk.c0 (cBO (GK nfN L))]=H5;have n5:Ad false 1 (.ptr H.length 0 0) H5=some (.sl (enL cNd L) .no):=by rw[<-h5];exact BB n4
 have d5:Ad true 2 (.ptr H4.length 0 0) H5=some (.agg (cBO (GK nfN L))):=by rw[<-h5];exact GE Ap
 simp only[GMw,n5,kS];rw[NB];simp only[GMw,Js];generalize h6:H5++[Blk.c0 (cBO (GK nfS L))]=H6;have q6:Ad true 1 (.ptr H.length 0 0) H6=some (En L):=by rw[<-h6,<-h5,<-h4,<-h3];exact BB (BB (BB (BB q2)))
 have s6:Ad true 2 (.ptr H5.length 0 0) H6=some (.agg (cBO (GK nfS L))):=by rw[<-h6];exact GE Ap
 have w6:Ad true 2 (.ptr H2.length 0 0) H6=some (.agg (cBO (GK nfW L))):=by rw[<-h6,<-h5,<-h4];exact BB (BB (BB w3))
 have e6:Ad true 2 (.ptr H3.length 0 0) H6=some (.agg (cBO (GK nfE L))):=by rw[<-h6,<-h5];exact BB (BB e4)
 have d6:Ad true 2 (.ptr H4.length 0 0) H6=some (.agg (cBO (GK nfN L))):=by rw[<-h6];exact BB d5
 have z6:H6[p1]? = some (.c0 GU):=by rw[<-h6,<-h5,<-h4,<-h3];exact A1 (A1 (A1 (A1 z2)))
 have o6:∀k,k<H.length->H6[k]? = H[k]? := λk hk=>by
  have hk2:k<H2.length:=by rw[<-h2];simp;omega
  rw[<-h6,<-h5,<-h4,<-h3,VP,VP,VP,VN hk2];exact o2 k hk
 unfold bxX bxY bxW bxH;generalize hv:(Cm L).toNat=v at *;have vF:=λH=>Iw v H (by omega);have vE:=λH=>Iw (v-1) H (by omega);have hw:I_.wrap ((v:Int)-1)=((v-1:Nat):Int):=Hk (by omega) (by omega);have sb1:=(EY (show v<=1400 by omega)).lb (show 44<=549755813888 by decide);have sb2:=(EY (show v-1<=1400 by omega)).lb (show 44<=549755813888 by decide);have gZ:=λH=>IM (2^(v-1)) H sb2;have lB:(H6++[Blk.c0 [Ab.bool false,.sl [] .ti]]).length=H6.length+1:=by simp
 have s0:=λ(z:Int) (c:List Ab)=>st0 (Hc:=H6) (a:=[.bool false,.sl [] .ti]) (c:=c) (z:=z) rfl;have s1:=λ(z:Int) (a:List Ab)=>st1 (Hc:=H6) (a:=a) (c:=[.bool false,.sl [] .ti]) (z:=z) rfl;rw[lX]at lvl;simp only[GMw,q6,lvl,vF,hw,vE,gZ,lB,s0,s1];generalize h8:H6++[Blk.c0 (A7 (2^v))]++[Blk.c0 (A7 (-(2^(v-1))))]=H8;have c8:Ad true 2 (.ptr (H6.length+1) 0 0) H8=some (big (-(2^(v-1)))):=Bn (by rw[<-h8];simp);have g8:Ad true 2 (.ptr H6.length 0 0) H8=some (big (2^v)):=Bn (by rw[<-h8];simp);have w8:Ad true 2 (.ptr H2.length 0 0) H8=some (.agg (cBO (GK nfW L))):=by rw[<-h8];exact BB (BB w6)
 have e8:Ad true 2 (.ptr H3.length 0 0) H8=some (.agg (cBO (GK nfE L))):=by rw[<-h8];exact BB (BB e6)
 have d8:Ad true 2 (.ptr H4.length 0 0) H8=some (.agg (cBO (GK nfN L))):=by rw[<-h8];exact BB (BB d6)
 have s8:Ad true 2 (.ptr H5.length 0 0) H8=some (.agg (cBO (GK nfS L))):=by rw[<-h8];exact BB (BB s6)
 have z8:H8[p1]? = some (.c0 GU):=by rw[<-h8];exact A1 (A1 z6)
 have o8:∀k,k<H.length->H8[k]? = H[k]? := λk hk=>by
  have Zw:k<H6.length:=by have:=(VJ.1 z6).1;omega
  rw[<-h8,VP,VN Zw];exact o6 k hk
 have rW:=Rep.bo bW;have rE:=Rep.bo bE;have rN:=Rep.bo bN;have rS:=Rep.bo bS;have rC:=Rep.big sb2.neg;have rG:=Rep.big sb1;have aX:=λH=>Vkl rC rW H;have aY:=λH=>Vkl rC rN H;have aWE:=λH=>Vkl rW rE H;have aNS:=λH=>Vkl rN rS H;simp only[TS]at aX aY;have sumlb:∀a b:Int,0<=a->a<2^v->0<=b->b<2^v->LB (a+b):=λa b tI zD gT gS=>ML (v:=v+1) (by omega) (by rw[XY];omega) (by omega);have eW:=Jd Qc hl hlen;have eE:=Jd SM hl hlen;have eN:=Jd Qd hl hlen;have eS:=Jd SL hl hlen;rw[hv]at eW eE eN eS;have bW':=λH=>Vpe rG (Rep.big (sumlb _ _ eW.1 eW.2 eE.1 eE.2)) H;have bH':=λH=>Vpe rG (Rep.big (sumlb _ _ eN.1 eN.2 eS.1 eS.2)) H;simp only[TS]at bW' bH';simp only[GMw,c8,g8,w8,e8,d8,s8,and_true,eq_self,aX,aY,aWE,aNS,bW',bH'];have gI:∀x y w h:Int,Az (some [(.bool false),(.sl [] .ti),(.bool false),(.sl [] .ti),(.bool false),(.sl [] .ti),(.bool false),(.sl [] .ti)]) [(0,2,big x),(2,2,big y),(4,2,big w),(6,2,big h)]=some (Q9 x y w h):=λx y w h=>by unfold Q9 IA;simp[Az,Gy,D3,A7]
 have xN:∀x y w h:Int,(Q9 x y w h).acells=some (IA x y w h):=λx y w h=>C0 (by simp[IA,A7]);have rA:=(VJ.1 z8).1;have hst:∀x y w h:Int,Ae 8 (.ptr p1 0 0) (Q9 x y w h) H8=some (H8.set p1 (.c0 (IA x y w h))):=λx y w h=>by simp only[Ae,A0 z8,zXa,xN,BE z8,DJ (cs:=GU) (sz:=8) rfl];rw[zYc ⟨rfl,by decide⟩]
 have hld:∀x y w h:Int,Ad true 8 (.ptr p1 0 0) (H8.set p1 (.c0 (IA x y w h)))=some (Q9 x y w h):=λx y w h=>by
  have:(H8.set p1 (.c0 (IA x y w h)))[p1]? = some (.c0 (IA x y w h)):=by rw[VX rA]
  simp only[Ad,A0 this,zXa];rfl
 have htk:∀x y w h:Int,(H8.set p1 (.c0 (IA x y w h))).take H.length=H:=λx y w h=>Cu λk hk=>by rw[VH (by omega)];exact o8 k hk
 have Z3:∀(x y w h:Int)(H':Aa)(n d:Nat),Ft H' n (d+3) (Q9 x y w h)=some (Q9 x y w h):=λx y w h H' n d=>by unfold Q9 IA A7;simp
 simp only[gI,GMw,hst,hld,B2,AW,Bl,zXb,Fl (htk _ _ _ _),CH,BC,BY,Z3,Hs]
def bx (L:List Nd)(f:List Nd->Int):Int:=if L=[]then 0 else f L
theorem TM (x y w h:Int):(Q9 x y w h).acells=some (IA x y w h):=C0 (by simp[IA,A7])
theorem OH (H:Aa):Av (some [(.bool false),(.sl [] .ti),(.bool false),(.sl [] .ti),(.bool false),(.sl [] .ti),(.bool false),(.sl [] .ti)]) H=some (.ptr H.length 0 0,H++[.c0 GU]):=alloc_eq rfl
def VeY (L:List Nd)(H:Aa)(hL:L.length<549755813888)(hl:AY L=true):Uaz (En L) H=some (.ret (.tup [Q9 (bx L bxX) (bx L bxY) (bx L bxW) (bx L bxH),.bool (decide (L≠[]))]),H):=by
 unfold bx;by_cases h0:L=[]
 ·subst h0;unfold Uaz;have n2:Ad false 1 (.ptr H.length 0 0) (H++[Blk.c0 (By [])]++[Blk.c0 GU])=some (.sl (enL cNd []) .no):=Fq (by simp);have hb:Az (some [(.bool false),(.sl [] .ti),(.bool false),(.sl [] .ti),(.bool false),(.sl [] .ti),(.bool false),(.sl [] .ti)]) []=some (.agg GU):=rfl;have hst:Ae 8 (.ptr (H++[Blk.c0 (By [])]).length 0 0) (.agg GU) (H++[Blk.c0 (By [])]++[Blk.c0 GU])=some (H++[Blk.c0 (By [])]++[Blk.c0 GU]):=by
   have hz:(H++[Blk.c0 (By [])]++[Blk.c0 GU])[(H++[Blk.c0 (By [])]).length]? = some (.c0 GU):=Ap;simp only[Ae,A0 hz,zXa,BE hz,C0 (cs:=GU) rfl,DJ (cs:=GU) (sz:=8) rfl,Bg]
   rfl
  have hld:Ad true 8 (.ptr (H++[Blk.c0 (By [])]).length 0 0) (H++[Blk.c0 (By [])]++[Blk.c0 GU])=some (.agg GU):=by simp only[Ad,A0 (Ap (cs:=GU)),zXa];rfl
  simp only[GMw,VmE,OH,Aj,VK,n2,Ax,zXk,show((0:Nat):Int)=0 from rfl,hb,hst,hld,B2,AW,Bl,zXb];rw[VP];simp only[CD,CH,BC,BY,Ht,GU,Fw,Gp,KU,Jb,Hs,BI,zXb]
  rfl
 rw[Vnl L H hL hl h0];simp only[zYe,ne_eq,h0,zYk,decide_true]
def VpS {L:List Nd}(hl:AY L=true):LB (bx L bxW)/\LB (bx L bxH):=by
 unfold bx;by_cases h0:L=[];rw[zYc h0,zYc h0];exact⟨VbB,VbB⟩
 ·rw[zYb h0,zYb h0];have hlen:0<L.length:=W6.2 h0;have eW:=Jd Qc hl hlen;have eE:=Jd SM hl hlen;have eN:=Jd Qd hl hlen;have eS:=Jd SL hl hlen;have hle:(Cm L).toNat<=1329:=QO hl hlen (VM _);have key:∀a b:Int,0<=a->a<2^(Cm L).toNat->0<=b->b<2^(Cm L).toNat->LB (2^(Cm L).toNat-(a+b)):=λa b h1 h2 h3 h4=>by have hs:=EY (show(Cm L).toNat<=1400 by omega);have ha:=Jj (Cm L).toNat;unfold SB at hs;refine LB.of (k:=44) (WE ?_ hs) (by decide);generalize (2:Int)^(Cm L).toNat=p at *;omega
  exact⟨key _ _ eW.1 eW.2 eE.1 eE.2,key _ _ eN.1 eN.2 eS.1 eS.2⟩
def G7 (L:List Nd)(m:Int):Bool:=decide (bx L bxW<=m)&&decide (bx L bxH<=m)
def VgI (a b:Int):decide (FM a b<=0)=decide (a<=b):=by unfold FM;rw[VZ];split;simp;omega;split;simp;omega;simp;omega
theorem Vdb {m:Int}(h0:-9223372036854775808<=m)(h1:m<=9223372036854775807):LB m:=LB.of (k:=3) (show m.natAbs<4294967296^3 by rw[show(4294967296:Nat)^3=79228162514264337593543950336 from by decide];omega) (by decide)
def S3 (L:List Nd)(m:Int)(H:Aa)(hL:L.length<549755813888)(hl:AY L=true)(h0:-9223372036854775808<=m)(h1:m<=9223372036854775807):Ub8 (En L) (.i6 m) H=some (.ret (.bool (G7 L m)),H):=by
 unfold Ub8 G7;have q1:Ad true 1 (.ptr H.length 0 0) (H++[Blk.c0 (By L)])=some (En L):=Pi Ap;obtain⟨b1,b2⟩:=VpS hl;have kD:=λH=>KE m H h0 h1;have cW:=λH=>Fm (bx L bxW) m H b1 (Vdb h0 h1);have cH:=λH=>Fm (bx L bxH) m H b2 (Vdb h0 h1);simp only[GMw,VmE,q1,VeY L _ hL hl,Ba,Bd,OH];generalize bx L bxX=x;generalize bx L bxY=y;generalize bx L bxW=w at *;generalize bx L bxH=h at *;generalize hB:H++[Blk.c0 (By L)]=B;have hst:Ae 8 (.ptr B.length 0 0) (Q9 x y w h) (B++[Blk.c0 GU])=some (B++[Blk.c0 (IA x y w h)]):=by
  simp only[Ae,A0 (Ap (B:=B) (cs:=GU)),zXa,TM,BE (Ap (B:=B) (cs:=GU)),DJ (cs:=GU) (sz:=8) rfl,Bg]
  rfl
 have g4:Ad true 2 (.ptr B.length 0 4) (B++[Blk.c0 (IA x y w h)])=some (big w):=by simp only[Ad,A0 (Ap (B:=B)),zXa];rfl
 have g6:Ad true 2 (.ptr B.length 0 6) (B++[Blk.c0 (IA x y w h)])=some (big h):=by simp only[Ad,A0 (Ap (B:=B)),zXa];rfl
 have fin:∀q:Bool,rP H (.bool q) (B++[Blk.c0 (IA x y w h)])=some (.ret (.bool q),H):=λq=>by rw[<-hB,VP];exact Ey
 simp only[hst,GMw,kD,Aj,VK,g4,and_true,eq_self,cW,VgI];cases decide (w<=m)with|false=>simp only[GMw,Pu,eq_self,fin]|true=>simp only[GMw,kD,g6,Vbf,eq_self,cH,VgI,fin]
def T6 {nf:Nat->Nat}{E:List (Option Int)}{x:Nd}:∀(n:Nat),n<=4->∀j,j<n->x.kid (nf j)≠0->(Di nf E x n).1=true/\bo (Di nf E x n).2<=Dw nf E x j
 |0,_,j,h,_=>by omega
 |n+1,hn,j,h,hk=>by
  unfold Di;by_cases hj:j=n;subst hj;rw[zYb hk];by_cases hc:(Di nf E x j).1=false\/Dw nf E x j<bo (Di nf E x j).2;rw[zYc hc];exact⟨rfl,by rw[MP];exact XH _⟩;rw[zYb hc];have h1:(Di nf E x j).1=true:=(by cases hq:(Di nf E x j).1 with|true=>rfl|false=>exact zYf (.inl hq) hc);have h2:¬Dw nf E x j<bo (Di nf E x j).2:=λh=>hc (.inr h);exact⟨h1,by omega⟩;obtain⟨i1,i2⟩:=T6 (nf:=nf) (E:=E) (x:=x) n (by omega) j (by omega) hk;by_cases h0:x.kid (nf n)=0;rw[zYc h0];exact⟨i1,i2⟩;rw[zYb h0];by_cases hc:(Di nf E x n).1=false\/Dw nf E x n<bo (Di nf E x n).2;rw[zYc hc];refine⟨rfl,?_⟩;rw[MP];rcases hc with hc | hc;rw[i1]at hc;cases hc;omega;rw[zYb hc];exact⟨i1,i2⟩
theorem OB {nf:Nat->Nat}{E:List (Option Int)}{x:Nd}:∀(n:Nat),(∀j,j<n->x.kid (nf j)=0)->Di nf E x n=(false,none)
 |0,_=>rfl
 |n+1,h=>by unfold Di;rw[zYc (h n (by omega))];exact OB n λj hj=>h j (by omega)
def Opp (nf nf':Nat->Nat):Prop:=(∀j,nf j<4)/\(∀j,nf' j<4)/\∀k,k<4->∃j1 j2,j1<4/\j2<4/\nf j1=k/\nf' j2=k/\(1<j1↔¬1<j2)
theorem Vp0:Opp nfW nfE:=⟨Qc,SM,λk hk=>by
 match k,hk with
 |0,_=>exact⟨0,2,by decide,by decide,rfl,rfl,by decide⟩
 |1,_=>exact⟨2,0,by decide,by decide,rfl,rfl,by decide⟩
 |2,_=>exact⟨1,3,by decide,by decide,rfl,rfl,by decide⟩
 |3,_=>exact⟨3,1,by decide,by decide,rfl,rfl,by decide⟩⟩
theorem Vp1:Opp nfN nfS:=⟨Qd,SL,λk hk=>by
 match k,hk with
 |0,_=>exact⟨0,2,by decide,by decide,rfl,rfl,by decide⟩
 |1,_=>exact⟨1,3,by decide,by decide,rfl,rfl,by decide⟩
 |2,_=>exact⟨2,0,by decide,by decide,rfl,rfl,by decide⟩
 |3,_=>exact⟨3,1,by decide,by decide,rfl,rfl,by decide⟩⟩
def VcF {nf nf':Nat->Nat}(ho:Opp nf nf'){L:List Nd}(hl:AY L=true):∀i,i<=L.length->∀m x,m<i->L[m]? = some x->bo ((CK nf (L.take i)).getD (m+1) none)+bo ((CK nf' (L.take i)).getD (m+1) none)<2^x.lv.toNat
 |0,_,m,x,h,_=>by omega
 |i+1,h,m,x,hm,hx=>by
  have ih:=VcF ho hl i (by omega);have len:∀nf:Nat->Nat,(CK nf (L.take i)).length=i+1:=λnf=>by rw[Hy];simp;omega
  rw[KV nf L h,KV nf' L h];by_cases rM:m<i;rw[VO,VO,VN (by rw[len];omega),VN (by rw[len];omega),<-VO,<-VO];exact ih m x rM hx;have e:m=i:=(by omega);subst e;rw[VG h]at hx;injection hx with hx;rw[VO,VO,Wt (by rw[len];omega),Wt (by rw[len];omega),len,len,Wu];simp only[zXh,Option.getD_some];obtain⟨v1,v2,v3⟩:=AZ hl h;rw[hx]at v1 v2 v3⊢;have hp:(0:Int)<2^(x.lv.toNat-1):=XG (by omega);have e2:(2:Int)^x.lv.toNat=2^(x.lv.toNat-1)*2:=(by rw[<-XY];congr 1;omega);by_cases aD:∀k,k<4->x.kid k=0;rw[OB 4 λj _=>aD _ (ho.1 j),OB 4 λj _=>aD _ (ho.2.1 j),e2];show(0:Int)+0<_;omega;obtain⟨k,hk⟩:=Classical.not_forall.1 aD;obtain⟨jH,pQ⟩:=Classical.not_imp.1 hk;obtain⟨j1,j2,l1,l2,n1,n2,aF⟩:=ho.2.2 k jH;have a1:=(T6 (nf:=nf) (E:=CK nf (L.take m)) (x:=x) 4 (VM _) j1 l1 (by rw[n1];exact pQ)).2;have a2:=(T6 (nf:=nf') (E:=CK nf' (L.take m)) (x:=x) 4 (VM _) j2 l2 (by rw[n2];exact pQ)).2;refine Int.lt_of_le_of_lt (Int.add_le_add a1 a2) ?_;unfold Dw;rw[n1,n2,e2];have gW:(1<x.lv->bo ((CK nf (L.take m)).getD (x.kid k).toNat none)+bo ((CK nf' (L.take m)).getD (x.kid k).toNat none)<2^(x.lv.toNat-1)):=(by intro h1;obtain⟨q1,q2,q3⟩:=v3 k jH;obtain⟨r1,r2⟩:=q3 h1 (by omega);obtain⟨c,hc⟩:∃c:Nat,(x.kid k).toNat=c+1:=⟨(x.kid k).toNat-1,by omega⟩;have aG:c<L.length:=(by omega);have aV:=r2 L[c] (by rw[show(x.kid k-1).toNat=c from by omega];exact VG aG);have:=ih c L[c] (by omega) (VG aG);rw[hc,show x.lv.toNat-1=L[c].lv.toNat from by omega];exact this);by_cases h1:1<x.lv;have hs:=gW h1;rw[zYc h1,zYc h1];generalize (2:Int)^(x.lv.toNat-1)=p at *;by_cases hj:1<j1;rw[zYc hj,zYb (aF.1 hj)];omega;have nF:1<j2:=Classical.byContradiction λh=>hj (aF.2 h);rw[zYb hj,zYc nF];omega;rw[zYb h1,zYb h1];generalize (2:Int)^(x.lv.toNat-1)=p at *;by_cases hj:1<j1;rw[zYc hj,zYb (aF.1 hj)];omega;have nF:1<j2:=Classical.byContradiction λh=>hj (aF.2 h);rw[zYb hj,zYc nF];omega
def Vkd {L:List Nd}(hl:AY L=true)(h0:L≠[]):1<=bxW L/\1<=bxH L:=by
 have hlen:0<L.length:=W6.2 h0;have hm:L.length-1<L.length:=by omega
 have ht:Cm L=L[L.length-1].lv:=by unfold Cm;rw[F8 (n:=L.length-1) (by omega) hm]
 have key:∀nf nf':Nat->Nat,Opp nf nf'->bo (GK nf L)+bo (GK nf' L)<2^(Cm L).toNat:=λnf nf' ho=>by have:=VcF ho hl L.length (VM _) (L.length-1) L[L.length-1] hm (VG hm);rw[VW (VM _),show L.length-1+1=L.length from by omega]at this;rw[ht];exact this
 have k1:=key _ _ Vp0;have k2:=key _ _ Vp1;unfold bxW bxH;generalize (2:Int)^(Cm L).toNat=p at *;omega
section
variable {α:Type}{f:α->List Ab}{ty:TypeId}{sz:Nat}
def RS (f:α->List Ab)(ty:TypeId)(sz b:Nat)(out:List α)(v:Ab)(H:Aa):Prop:=(out=[]/\v=.sl [] .ti)\/∃t,b<=t/\v=.sl (enL f out) (.own t)/\H[t]? = some (.tok out.length ty sz)
theorem RS.sl {b:Nat}{out:List α}{v:Ab}{H:Aa}(h:RS f ty sz b out v H):∃tk,v=.sl (enL f out) tk:=by rcases h with ⟨rfl,rfl⟩ | ⟨t,_,rfl,_⟩;exact⟨_,rfl⟩;exact⟨_,rfl⟩
theorem RS.left {b:Nat}{out:List α}{v:Ab}{H:Aa}(h:RS f ty sz b out v H)(G:Aa):RS f ty sz b out v (H++G):=by rcases h with h1 | ⟨t,h1,h2,h3⟩;exact .inl h1;exact .inr ⟨t,h1,h2,A1 h3⟩
theorem RS.put {b p:Nat}{out:List α}{v:Ab}{H:Aa}{c c':List Ab}(h:RS f ty sz b out v H)(hp:H[p]? = some (.c0 c)):RS f ty sz b out v (H.set p (.c0 c')):=by
 rcases h with h1 | ⟨t,h1,h2,h3⟩;exact .inl h1
 ·refine .inr ⟨t,h1,h2,?_⟩;have:p≠t:=λe=>by rw[<-e,hp]at h3;cases h3
  rw[VH this];exact h3
theorem RS.snoc [hf:Sz f sz]{bytes b:Nat}{out:List α}{v:Ab}{H:Aa}(h:RS f ty sz b out v H)(hb:b<=H.length)(x:α)(tk:Tok)(hl:(out.length+1)*bytes<=140737488355328)(gO:out.length+1<=140737488355328):∃v' H',AS ty sz bytes v (.sl (enL f [x]) tk) H=some (v',H')/\RS f ty sz b (out++[x]) v' H'/\Kp b H H':=by
 rcases h with ⟨rfl,rfl⟩ | ⟨t,h1,rfl,h3⟩;have:=De (f:=f) (l:=[]) (m:=[x]) (ty:=ty) (bytes:=bytes) (tk:=tk) (H:=H) (by simp) (by simpa using hl) (by simp);exact⟨_,_,this,.inr ⟨H.length,hb,rfl,by simp⟩,Kp.app hb _⟩;have:=F5 (f:=f) (l:=out) (m:=[x]) (ty:=ty) (bytes:=bytes) (tk:=tk) (H:=H) (t:=t) (by simp) h3 (by simpa using hl) (by simpa using gO);have jC:=(VJ.1 h3).1;refine⟨_,_,this,.inr ⟨t,h1,rfl,by simp[jC]⟩,⟨by simp,λi cs hc=>?_,λi hi=>?_⟩⟩;have:t≠i:=λe=>(by rw[<-e,h3]at hc;cases hc);rw[VH this];exact hc;rw[VH (by omega)]

end
def QW (L:List Nd)(X Y:Int)(y x:Nat):UInt8:=UInt8.ofNat (VjS L (X+(x:Int)) (Y+(y:Int))).toNat
def Su (L:List Nd)(X Y:Int)(w y:Nat):zAa:=(List.range w).map (QW L X Y y)
def VlE {L:List Nd}(hl:AY L=true)(x y:Int):St (VjS L x y):=by unfold VjS;split;exact⟨XH _,by show(0:Int)<=255;decide⟩;split;exact Vgj hl _ _ _ _ ⟨VM _,.inr rfl⟩;exact⟨XH _,by show(0:Int)<=255;decide⟩
def VgL {L:List Nd}(hl:AY L=true)(X Y:Int)(y x:Nat):((QW L X Y y x).toNat:Int)=VjS L (X+(x:Int)) (Y+(y:Int)):=by have h:=VlE hl (X+(x:Int)) (Y+(y:Int));unfold QW;have h1:=h.1;have h2:=h.2;rw[Ym (show(VjS L (X+(x:Int)) (Y+(y:Int))).toNat<256 by omega)];omega
def QD {n:Nat}(h:n<=1000):SB 44 (n:Int):=by unfold SB;have h1:(4294967296:Nat)^1<=4294967296^44:=HU (by omega);omega
def ViL (H:Aa)(rec1:LK)(L:List Nd)(X Y:Int)(w h y p3 p5 p28 p54:Nat)(Hc:Aa)(out:Out)(hL:L.length<549755813888)(hl:AY L=true)(hw:w<=1000)(hy:y<=1000)(sX:SB 44 X)(sY:SB 44 Y)
  (hq:Ad true 1 (.ptr p3 0 0) Hc=some (En L))(hX:Ad true 2 (.ptr p28 0 0) Hc=some (big X))(hY:Ad true 2 (.ptr p28 0 2) Hc=some (big Y))
  (fin:∀aA:LK,UaR H rec1 aA (.ptr p3 0 0) (.ptr p5 0 0) (.ptr p28 0 0) (.i6 (w:Int)) (.i6 (h:Int)) (.ptr p54 0 0) (.i6 (y:Int)) (.ms Hc.length 0 0 w w 1 true) (.i6 (w:Int)) (Hc++[.c0 (flat cY (Su L X Y w y))])=out):An (λaA vs H1=>UaR H rec1 aA (ag vs 0) (ag vs 1) (ag vs 2) (ag vs 3) (ag vs 4) (ag vs 5) (ag vs 6) (ag vs 7) (ag vs 8) H1) AI [.ptr p3 0 0,.ptr p5 0 0,.ptr p28 0 0,.i6 (w:Int),.i6 (h:Int),.ptr p54 0 0,.i6 (y:Int),.ms Hc.length 0 0 w w 1 true,.i6 0] (Hc++[.c0 (flat cY (List.replicate w 0))])=out:=by
 have key:=Ct (G:=λaA vs H1=>UaR H rec1 aA (ag vs 0) (ag vs 1) (ag vs 2) (ag vs 3) (ag vs 4) (ag vs 5) (ag vs 6) (ag vs 7) (ag vs 8) H1) w
  (λx=>[.ptr p3 0 0,.ptr p5 0 0,.ptr p28 0 0,.i6 (w:Int),.i6 (h:Int),.ptr p54 0 0,.i6 (y:Int),.ms Hc.length 0 0 w w 1 true,.i6 (x:Int)]) (λx=>Hc++[.c0 (flat cY ((List.range x).map (QW L X Y y)++List.replicate (w-x) 0))]) out (by omega) (λaA x hx=>?_) (λaA=>?_)
 simpa using key
 ·have hx':(x:Int)<(w:Int):=by omega
  have aP:=Ar (show x<9223372036854775807 by omega);generalize hR:(List.range x).map (QW L X Y y)++List.replicate (w-x) 0=R;have hRl:R.length=w:=by rw[<-hR];simp;omega
  have aH:R.set x (QW L X Y y x)=(List.range (x+1)).map (QW L X Y y)++List.replicate (w-(x+1)) 0:=by rw[<-hR,Wy _ _ (by simp),show w-x=(w-(x+1))+1 from by omega,zXm];simp[XB]
  rw[<-aH];have ox:=λH=>KE (x:Int) H (by omega) (by omega);have oy:=λH=>KE (y:Int) H (by omega) (by omega);have sx:=QD (show x<=1000 by omega);have sy:=QD hy;have ax:=λH=>HS X (x:Int) H (sX.lb (by decide)) (sx.lb (by decide));have ay:=λH=>HS Y (y:Int) H (sY.lb (by decide)) (sy.lb (by decide));have bJ:=λH=>VkM L (X+(x:Int)) (Y+(y:Int)) H (by omega) hl ((sX.add sx).mono (by omega)) ((sY.add sy).mono (by omega));have g1:=BB (G:=[Blk.c0 (flat cY R)]) hq;have g2:=BB (G:=[Blk.c0 (flat cY R)]) hX;have g3:=BB (G:=[Blk.c0 (flat cY R)]) hY;have hidx:=CZ (sz:=1) (id:=Hc.length) (n:=w) (K:=.i64) (g:=0) (off:=0) (cap:=w) (ex:=true) (i:=x) hx;simp only[VK,Wa]at hidx;have hst:=Eb (f:=cY) (sz:=1) (l:=R) (i:=x) (a:=QW L X Y y x) (v:=.int .u8 (VjS L (X+(x:Int)) (Y+(y:Int)))) (H:=Hc++[Blk.c0 (flat cY R)]) (id:=Hc.length) (A0 Ap) (by omega) (by rw[<-VgL hl];rfl);rw[Wa,BE Ap,Bg]at hst;unfold UaR;simp only[GMw,Ak,hx',ox,Aj,VK,g1,g2,g3,and_true,eq_self,ax,oy,ay,bJ,hidx,hst,aP]
 rw[Wu,List.replicate_zero,Wm];exact fin aA
def C4 (X Y:Int)(v:Ab):List Ab:=A7 X++A7 Y++[v]
def Ps (X Y:Int)(rows:List (zAa)):Ab:=.agg (C4 X Y (.sl (enL cS rows) .no))
def DT:List Ab:=[.bool false,.sl [] .ti,.bool false,.sl [] .ti,.sl [] .ti]
def Ip (L:List Nd)(X Y:Int)(w n:Nat):List (zAa):=(List.range n).map (Su L X Y w)
def VdA (X Y:Int)(es:List (List Ab))(tk:Tok)(H':Aa)(n d:Nat):Ft H' n (d+3) (.agg (C4 X Y (.sl es tk)))=some (.agg (C4 X Y (.sl es .no))):=by unfold C4 A7;simp
def IY (X Y:Int)(es:List (List Ab))(tk:Tok):(C4 X Y (.sl es tk)).all Ab.isScal=true:=by unfold C4 A7;simp
theorem Rb (H:Aa):Av (some [(.bool false),(.sl [] .ti),(.bool false),(.sl [] .ti),(.sl [] .ti)]) H=some (.ptr H.length 0 0,H++[.c0 DT]):=alloc_eq rfl
def Vgf {H Hq:Aa}{p5:Nat}{X Y:Int}{es:List (List Ab)}{tk:Tok}{e:Int}{c:List Ab}(hp:H.length<=p5)(hc:Hq[p5]? = some (.c0 c))(hl:c.length=5)(hold:∀i,i<H.length->Hq[i]? = H[i]?):(bP H (As (Ae 5 (.ptr p5 0 0) (.agg (C4 X Y (.sl es tk))) Hq)) λ_ H37=>(BV [Ad true 5 (.ptr p5 0 0) H37,some (.i6 e)]).bind λx38=>rPN H x38 H37)=some (.ret (.tup [.agg (C4 X Y (.sl es .no)),.i6 e]),H):=by
 have aG:=(VJ.1 hc).1;have hst:Ae 5 (.ptr p5 0 0) (.agg (C4 X Y (.sl es tk))) Hq=some (Hq.set p5 (.c0 (C4 X Y (.sl es tk)))):=by simp only[Ae,A0 hc,zXa,C0 (IY X Y es tk),BE hc,DJ (sz:=5) hl];rw[zYc ⟨rfl,by omega⟩]
 have hld:Ad true 5 (.ptr p5 0 0) (Hq.set p5 (.c0 (C4 X Y (.sl es tk))))=some (.agg (C4 X Y (.sl es tk))):=by
  have:(Hq.set p5 (.c0 (C4 X Y (.sl es tk))))[p5]? = some (.c0 (C4 X Y (.sl es tk))):=by rw[VX aG]
  simp only[Ad,A0 this,zXa];rfl
 have bD:(Hq.set p5 (.c0 (C4 X Y (.sl es tk)))).take H.length=H:=Cu λi hi=>by rw[VH (by omega),hold i hi]
 simp only[GMw,hst,hld,B2,AW,Bl,zXb,Fl bD,CH,BC,BY,VdA,Da]
def ND {H Hq:Aa}{p5:Nat}{e:Int}(hp:H.length<=p5)(hc:Hq[p5]? = some (.c0 DT))(hold:∀i,i<H.length->Hq[i]? = H[i]?):((Az (some [(.bool false),(.sl [] .ti),(.bool false),(.sl [] .ti),(.sl [] .ti)]) []).bind λx11=>bP H (As (Ae 5 (.ptr p5 0 0) x11 Hq)) λ_ H37=>(BV [Ad true 5 (.ptr p5 0 0) H37,some (.i6 e)]).bind λx38=>rPN H x38 H37)=some (.ret (.tup [Ps 0 0 [],.i6 e]),H):=by
 have hb:Az (some [(.bool false),(.sl [] .ti),(.bool false),(.sl [] .ti),(.sl [] .ti)]) []=some (.agg DT):=rfl;have aG:=(VJ.1 hc).1;have hst:Ae 5 (.ptr p5 0 0) (.agg DT) Hq=some (Hq.set p5 (.c0 DT)):=by
  simp only[Ae,A0 hc,zXa,C0 (cs:=DT) rfl,BE hc,DJ (cs:=DT) (sz:=5) rfl]
  rfl
 have hld:Ad true 5 (.ptr p5 0 0) (Hq.set p5 (.c0 DT))=some (.agg DT):=by
  have:(Hq.set p5 (.c0 DT))[p5]? = some (.c0 DT):=by rw[VX aG]
  simp only[Ad,A0 this,zXa];rfl
 have bD:(Hq.set p5 (.c0 DT)).take H.length=H:=Cu λi hi=>by rw[VH (by omega),hold i hi]
 simp only[hb,GMw,hst,hld,B2,AW,Bl,zXb,Fl bD,CH,BC,BY,Ht];simp only[DT,BI,zXb,Fw,Gp,KU,Jb,Da]
 rfl
def Vgg (H:Aa)(L:List Nd)(X Y:Int)(W Hh:Int)(w h p3 p5 p28 p54:Nat)(hL:L.length<549755813888)(hl:AY L=true)(hw:w<=1000)(hh:h<=1000)(sX:SB 44 X)(sY:SB 44 Y)
  (q3:H.length<=p3)(q5:H.length<=p5)(q28:H.length<=p28)(q54:H.length<=p54)(d3:p3≠p54)(d5:p5≠p54)(d28:p28≠p54)(Hc:Aa)
  (f3:Hc[p3]? = some (.c0 (By L)))(f5:Hc[p5]? = some (.c0 DT))(f28:Hc[p28]? = some (.c0 (IA X Y W Hh)))(f54:Hc[p54]? = some (.c0 (C4 X Y (.sl [] .ti))))(hold:∀i,i<H.length->Hc[i]? = H[i]?):An (λrec1 vs H1=>UbE H rec1 (ag vs 0) (ag vs 1) (ag vs 2) (ag vs 3) (ag vs 4) (ag vs 5) (ag vs 6) H1) AI [.ptr p3 0 0,.ptr p5 0 0,.ptr p28 0 0,.i6 (w:Int),.i6 (h:Int),.ptr p54 0 0,.i6 0] Hc=some (.ret (.tup [Ps X Y (Ip L X Y w h),.i6 0]),H):=by
 have rY:H.length<=Hc.length:=by have:=(VJ.1 f3).1;omega
 have loop:=Fp (G:=λrec1 vs H1=>UbE H rec1 (ag vs 0) (ag vs 1) (ag vs 2) (ag vs 3) (ag vs 4) (ag vs 5) (ag vs 6) H1) h
  (λy vs Hd=>∃v,vs=[.ptr p3 0 0,.ptr p5 0 0,.ptr p28 0 0,.i6 (w:Int),.i6 (h:Int),.ptr p54 0 0,.i6 (y:Int)]/\Hd[p3]? = some (.c0 (By L))/\Hd[p5]? = some (.c0 DT)/\Hd[p28]? = some (.c0 (IA X Y W Hh))/\Hd[p54]? = some (.c0 (C4 X Y v))/\RS cS DE 1 H.length (Ip L X Y w y) v Hd/\(∀i,i<H.length->Hd[i]? = H[i]?)/\H.length<=Hd.length)
  (by omega) (λy vs Hd hy hI=>?_) (vs:=[.ptr p3 0 0,.ptr p5 0 0,.ptr p28 0 0,.i6 (w:Int),.i6 (h:Int),.ptr p54 0 0,.i6 0]) (H:=Hc) ⟨_,rfl,f3,f5,f28,f54,.inl ⟨rfl,rfl⟩,hold,rY⟩
 ·obtain⟨vs',Hd,⟨v,rfl,g3,g5,g28,g54,gR,go,gl⟩,rec,aB⟩:=loop;rw[aB];obtain⟨tk,rfl⟩:=gR.sl;have hld:Ad true 5 (.ptr p54 0 0) Hd=some (.agg (C4 X Y (.sl (enL cS (Ip L X Y w h)) tk))):=by simp only[Ad,A0 g54,zXa];rfl
  unfold UbE;simp only[At,Ak,Bz,BI,Wv,zYh,AM,hld];exact Vgf q5 g5 rfl go
 ·obtain⟨v,rfl,g3,g5,g28,g54,gR,go,gl⟩:=hI;have lG:(y:Int)<(h:Int):=by omega
  have aP:=Ar (show y<9223372036854775807 by omega);have dE:=F9 (f:=cY) (a:=0) (n:=w) (bytes:=1) (H:=Hd) (by omega) (by omega);simp only[show cY 0=[Ab.int .u8 0] from rfl]at dE;have hX:Ad true 2 (.ptr p28 0 0) Hd=some (big X):=by simp only[Ad,A0 g28,zXa];rfl
  have hY:Ad true 2 (.ptr p28 0 2) Hd=some (big Y):=by simp only[Ad,A0 g28,zXa];rfl
  have lM:(Su L X Y w y).length=w:=by simp[Su]
  have gR':=gR.left [Blk.c0 (flat cY (Su L X Y w y))];have hrn:(Ip L X Y w y).length=y:=by simp[Ip]
  obtain⟨v2,He,a1,a2,a3⟩:=gR'.snoc (bytes:=16) (by simp;omega) (Su L X Y w y) .ti (by omega) (by omega);obtain⟨tk0,rfl⟩:=gR.sl;obtain⟨tk2,rfl⟩:=a2.sl;have e54:=a3.cel p54 _ (A1 g54);have e54l:=(VJ.1 e54).1;have eC:Ip L X Y w y++[Su L X Y w y]=Ip L X Y w (y+1):=by simp[Ip,XB]
  rw[eC]at a1 a2;have wF:Ad false 1 (.ptr p54 0 4) (Hd++[Blk.c0 (flat cY (Su L X Y w y))])=some (.sl (enL cS (Ip L X Y w y)) tk0):=BB (by simp only[Ad,A0 g54,zXa];rfl);have uU:Ae 1 (.ptr p54 0 4) (.sl (enL cS (Ip L X Y w (y+1))) tk2) He=some (He.set p54 (.c0 (C4 X Y (.sl (enL cS (Ip L X Y w (y+1))) tk2)))):=by simp only[Ae,A0 e54,zXa,QC,BE e54];rfl
  have lY:=Vhy (l:=Su L X Y w y) (H:=Hd++[Blk.c0 (flat cY (Su L X Y w y))]) (id:=Hd.length) (A0 Ap);rw[lM]at lY;refine⟨[.ptr p3 0 0,.ptr p5 0 0,.ptr p28 0 0,.i6 (w:Int),.i6 (h:Int),.ptr p54 0 0,.i6 ((y+1:Nat):Int)],He.set p54 (.c0 (C4 X Y (.sl (enL cS (Ip L X Y w (y+1))) tk2))),⟨_,rfl,by rw[VH d3.symm];exact a3.cel _ _ (A1 g3),by rw[VH d5.symm];exact a3.cel _ _ (A1 g5),by rw[VH d28.symm];exact a3.cel _ _ (A1 g28),by rw[VX e54l],a2.put e54,λi hi=>?_,?_⟩,λrec=>?_⟩;rw[VH (by omega),a3.old i hi,VN (by omega)];exact go i hi;have:=a3.len;simp at this;simp;omega;unfold UbE;simp only[At,Ak,Bz,BI,lG,decide_true,Bb,dE,BD];refine ViL H rec L X Y w h y p3 p5 p28 p54 Hd _ hL hl hw (by omega) sX sY (Pi g3) hX hY λaA=>?_;unfold UaR;simp only[GMw,Wv,Aj,VK,wF,lY,RR,a1,uU,aP]
def Vgh (L:List Nd)(m:Int):Ab×Int:=
 if m<0\/m>1000 then (Ps 0 0 [],1)
 else if G7 L m=false then (Ps 0 0 [],4)
 else if L=[]then (Ps 0 0 [],0)
 else (Ps (bxX L) (bxY L) (Ip L (bxX L) (bxY L) (bxW L).toNat (bxH L).toNat),0)
def Vke {L:List Nd}(hl:AY L=true)(h0:L≠[]):SB 44 (bxX L)/\SB 44 (bxY L):=by
 have hlen:0<L.length:=W6.2 h0;have eW:=Jd Qc hl hlen;have eN:=Jd Qd hl hlen;have hLv:Lv L (Cm L).toNat L.length:=⟨VM _,.inr rfl⟩;obtain⟨_,hn2⟩:=hLv.num hlen hl;have hle:(Cm L).toNat<=1329:=QO hl hlen (VM _);unfold bxX bxY;generalize (Cm L).toNat=v at *;obtain⟨u,rfl⟩:∃u,v=u+1:=⟨v-1,by omega⟩;rw[Wr];have e:(2:Int)^(u+1)=2^u*2:=XY _ _;have hs:=EY (show u<=1400 by omega);have ha:=Jj u;have key:∀a:Int,0<=a->a<2^(u+1)->SB 44 (-(2^u)+a):=λa h1 h2=>by unfold SB at hs⊢;refine WE ?_ hs;rw[e]at h2;generalize (2:Int)^u=p at *;omega
 exact⟨key _ eW.1 eW.2,key _ eN.1 eN.2⟩
def Vnk (L:List Nd)(m:Int)(H:Aa)(hL:L.length<549755813888)(hl:AY L=true)(h0:-9223372036854775808<=m)(h1:m<=9223372036854775807):Udv (En L) (.i6 m) H=some (.ret (.tup [(Vgh L m).1,.i6 (Vgh L m).2]),H):=by
 unfold Udv Vgh;have e3:(H++[Blk.c0 (By L)]++[Blk.c0 DT])[H.length]? = some (.c0 (By L)):=by simp
 have e5:(H++[Blk.c0 (By L)]++[Blk.c0 DT])[(H++[Blk.c0 (By L)]).length]? = some (.c0 DT):=Ap;have eo:∀i,i<H.length->(H++[Blk.c0 (By L)]++[Blk.c0 DT])[i]? = H[i]? := λi hi=>by rw[VP,VN hi]
 have l5:H.length<=(H++[Blk.c0 (By L)]).length:=by simp
 simp only[GMw,VmE,Rb];by_cases hm0:m<0;rw[zYc (.inl hm0)];simp only[hm0,GMw];exact ND l5 e5 eo
 ·by_cases kG:m>1000;rw[zYc (.inr kG)];simp only[hm0,kG,GMw];exact ND l5 e5 eo
  ·rw[zYb (by omega)];have cP:=λH=>S3 L m H hL hl h0 h1;simp only[hm0,kG,GMw,Pi e3,cP];cases xW:G7 L m with
   |false=>simp only[GMw];exact ND l5 e5 eo
   |true=>
    have vO:=λH=>VeY L H hL hl;simp only[GMw,vO,Ba,Bd,OH];generalize hB:H++[Blk.c0 (By L)]++[Blk.c0 DT]=B at e3 e5 eo;generalize yF:(H++[Blk.c0 (By L)]).length=p5 at e5 l5;have d35:H.length≠p5:=(by rw[<-yF];simp);have hbl:B.length=H.length+2:=(by rw[<-hB];simp);have p5e:p5=H.length+1:=(by rw[<-yF];simp);have uT:∀x y w h:Int,Ae 8 (.ptr B.length 0 0) (Q9 x y w h) (B++[Blk.c0 GU])=some (B++[Blk.c0 (IA x y w h)]):=λx y w h=>by
     simp only[Ae,A0 (Ap (B:=B) (cs:=GU)),zXa,TM,BE (Ap (B:=B) (cs:=GU)),DJ (cs:=GU) (sz:=8) rfl,Bg]
     rfl
    simp only[uT,GMw];by_cases hn:L=[];simp only[hn,ne_eq,not_true_eq_false,GMw];exact ND l5 (A1 e5) λi hi=>by rw[VN (by omega)];exact eo i hi
    ·rw[zYb hn];simp only[hn,ne_eq,zYk,GMw];obtain⟨w1,w2⟩:=Vkd hl hn;obtain⟨sx,sy⟩:=Vke hl hn;have lI:bxW L<=m/\bxH L<=m:=(by simp only[G7,bx,zYb hn,VV,zXe]at xW;exact xW);simp only[bx,zYb hn];obtain⟨w,hw⟩:=WI (show 0<=bxW L by omega);obtain⟨h,hh⟩:=WI (show 0<=bxH L by omega);rw[hw]at lI w1⊢;rw[hh]at lI w2⊢;have zP:=lI.1;have uO:=lI.2;generalize bxX L=X at *;generalize bxY L=Y at *;have g0:Ad true 2 (.ptr B.length 0 0) (B++[Blk.c0 (IA X Y w h)])=some (big X):=(by simp only[Ad,A0 (Ap (B:=B)),zXa];rfl);have g2:Ad true 2 (.ptr B.length 0 2) (B++[Blk.c0 (IA X Y w h)])=some (big Y):=(by simp only[Ad,A0 (Ap (B:=B)),zXa];rfl);have g4:Ad true 2 (.ptr B.length 0 4) (B++[Blk.c0 (IA X Y w h)])=some (big w):=(by simp only[Ad,A0 (Ap (B:=B)),zXa];rfl);have g6:Ad true 2 (.ptr B.length 0 6) (B++[Blk.c0 (IA X Y w h)])=some (big h):=(by simp only[Ad,A0 (Ap (B:=B)),zXa];rfl);have iw:∀H,Uag (big (w:Int)) H=some (.ret (.tup [.i6 (w:Int),.bool true]),H):=λH=>(by rw[VbV _ _ (Vdb (by omega) (by omega))];have:Hb (w:Int)=true:=(by unfold Hb;rw[zXe];omega);unfold Ue;rw[this];rfl);have ih:∀H,Uag (big (h:Int)) H=some (.ret (.tup [.i6 (h:Int),.bool true]),H):=λH=>(by rw[VbV _ _ (Vdb (by omega) (by omega))];have:Hb (h:Int)=true:=(by unfold Hb;rw[zXe];omega);unfold Ue;rw[this];rfl);have gI:Az (some [(.bool false),(.sl [] .ti),(.bool false),(.sl [] .ti),(.sl [] .ti)]) [(0,2,big X),(2,2,big Y)]=some (.agg (C4 X Y (.sl [] .ti))):=(by unfold C4;simp[Az,Gy,D3,A7]);simp only[GMw,Aj,VK,g0,g2,g4,g6,iw,ih,Ba,Bd,gI];generalize hC:B++[Blk.c0 (IA X Y w h)]=C;have aG:C.length=H.length+3:=(by rw[<-hC];simp;omega);have nV:Ae 5 (.ptr C.length 0 0) (.agg (C4 X Y (.sl [] .ti))) (C++[Blk.c0 DT])=some (C++[Blk.c0 (C4 X Y (.sl [] .ti))]):=by
      simp only[Ae,A0 (Ap (B:=C) (cs:=DT)),zXa,C0 (IY X Y [] .ti),BE (Ap (B:=C) (cs:=DT)),DJ (cs:=DT) (sz:=5) rfl,Bg]
      rfl
     simp only[GMw,nV,zXl];exact Vgg H L X Y w h w h H.length p5 B.length C.length hL hl (by omega) (by omega) sx sy (VM _) l5 (by omega) (by omega) (by omega) (by omega) (by omega) _ (by rw[<-hC];exact A1 (A1 e3)) (by rw[<-hC];exact A1 (A1 e5)) (by rw[<-hC];exact A1 Ap) Ap (λi hi=>by rw[<-hC,VP,VN (by omega)];exact eo i hi)
def IW (b n:Int):List Ab:=[.i6 b,.i6 n]
def MM (f:Int)(L:List Nd)(b:Int):Bool:=decide (f=5)||(G7 L b&&(decide (f=4)||decide (Oi L<=1)))
def JG (f:Int)(rule:zAa)(L:List Nd)(b n:Int):Int:=
 if (decide (1<=f)&&decide (f<=5)&&(Mv rule&&HG L)&&Iq b n)=false then 1 else if MM f L b=false then 5 else 0
def OX {L:List Nd}(h:HG L=true):AY L=true:=by
 simp only[HG,WQ,zXe,VV]at h;rcases h with h | h;subst h;rfl
 exact h.1.1.1
def VaN (f:Int)(rule:zAa)(L:List Nd)(b n:Int)(H:Aa)(hL:L.length<549755813888)(hl:AY L=true)(h0:-9223372036854775808<=b)(h1:b<=9223372036854775807):Udr (.i6 f) (pat rule L) (.agg (IW b n)) H=some (.ret (.bool (MM f L b)),H):=by
 unfold Udr MM;have hbx:∀H,Bj true 2 (.agg (IW b n)) H=some (.ptr H.length 0 0,H++[.c0 (IW b n)]):=λH=>BF rfl rfl;have e4:(H++[Blk.c0 (GC rule L)]++[Blk.c0 (IW b n)])[H.length]? = some (.c0 (GC rule L)):=by simp
 have g6:Ad false 1 (.ptr (H++[Blk.c0 (GC rule L)]).length 0 0) (H++[Blk.c0 (GC rule L)]++[Blk.c0 (IW b n)])=some (.i6 b):=by simp only[Ad,A0 (Ap (B:=H++[Blk.c0 (GC rule L)])),zXa];rfl
 have fin:∀q:Bool,rP H (.bool q) (H++[Blk.c0 (GC rule L)]++[Blk.c0 (IW b n)])=some (.ret (.bool q),H):=λq=>by rw[VP];exact Ey
 have cP:=λH=>S3 L b H hL hl h0 h1;have rL:=λH=>VeZ H (show L.length<1152921504606846976 by omega) hl;simp only[GMw,VcS,hbx];by_cases h5:f=5;simp only[h5,GMw,fin];simp only[h5,GMw,Aj,VK,KL e4,g6,cP];cases G7 L b with|false=>simp only[GMw,fin]|true=>by_cases h4:f=4;simp only[h4,GMw,fin];simp only[h4,GMw,KL e4,rL,fin]
def VeW (f:Int)(rule:zAa)(L:List Nd)(b n:Int)(H:Aa)(hr:rule.length<1152921504606846976)(hL:L.length<549755813888)(h0:-9223372036854775808<=b)(h1:b<=9223372036854775807):Uds (.i6 f) (pat rule L) (.agg (IW b n)) H=some (.ret (.i6 (JG f rule L b n)),H):=by
 unfold Uds JG;have hbx:∀H,Bj true 2 (.agg (IW b n)) H=some (.ptr H.length 0 0,H++[.c0 (IW b n)]):=λH=>BF rfl rfl;have e4:(H++[Blk.c0 (GC rule L)]++[Blk.c0 (IW b n)])[H.length]? = some (.c0 (GC rule L)):=by simp
 have g6:Ad true 2 (.ptr (H++[Blk.c0 (GC rule L)]).length 0 0) (H++[Blk.c0 (GC rule L)]++[Blk.c0 (IW b n)])=some (.agg (IW b n)):=by simp only[Ad,A0 (Ap (B:=H++[Blk.c0 (GC rule L)])),zXa];rfl
 have fin:∀q:Int,rP H (.i6 q) (H++[Blk.c0 (GC rule L)]++[Blk.c0 (IW b n)])=some (.ret (.i6 q),H):=λq=>by rw[VP];exact Ih
 have uC:=λH=>Vdr f H;have tQ:=λH=>VeV rule L H hr (by omega);have dZ:=λH=>MA b n H;simp only[GMw,VcS,hbx,uC];cases hf:(decide (1<=f)&&decide (f<=5))with
 |false=>simp only[GMw,fin]
 |true=>
  simp only[GMw,Qh e4,tQ];cases hq:(Mv rule&&HG L)with
  |false=>simp only[GMw,fin]
  |true=>
   have hl:AY L=true:=(by simp only[VV]at hq;exact OX hq.2);have hex:=λH=>VaN f rule L b n H hL hl h0 h1;have kO:∀H,Ufv (.agg (IW b n)) H=some (.ret (.bool (Iq b n)),H):=dZ;simp only[GMw,g6,kO];cases Iq b n with
   |false=>simp only[GMw,fin]
   |true=>simp only[GMw,Qh e4,hex];cases MM f L b with|false=>simp only[GMw,fin];rfl|true=>simp only[GMw,fin];rfl
def HM (s:zAa):Nat:=(s.reverse.dropWhile λb=>decide (b=0)).length
def Vdd (s:zAa)(b:UInt8):HM (s++[b])=if b=0 then HM s else s.length+1:=by unfold HM;rw[List.reverse_append];by_cases h:b=0<;>simp[h]
def Vht (s:zAa):HM s<=s.length:=by unfold HM;have:=(Ys (λb:UInt8=>decide (b=0)) (l:=s.reverse)).length_le;simpa using this
def GZ (L:List Nd):List (zAa):=if L=[]then []else Ip L (bxX L) (bxY L) (bxW L).toNat (bxH L).toNat
def Vd8 {L:List Nd}{b:Int}(h1:0<=b)(h2:b<=1000)(hw:G7 L b=true):Vgh L b=(Ps (bx L bxX) (bx L bxY) (GZ L),0):=by unfold Vgh GZ bx;rw[zYb (by omega),zYb (by rw[hw];simp)];by_cases h0:L=[];rw[zYc h0,zYc h0,zYc h0,zYc h0];rw[zYb h0,zYb h0,zYb h0,zYb h0]
def Ve8 {L:List Nd}{b:Int}(hl:AY L=true)(h1:0<=b)(h2:b<=1000)(hw:G7 L b=true):(GZ L).length<=1000/\∀r∈GZ L,r.length<=1000:=by unfold GZ;by_cases h0:L=[];rw[zYc h0];exact⟨by simp,λr hr=>by simp at hr⟩;rw[zYb h0];simp only[G7,bx,zYb h0,VV,zXe]at hw;have hp:=Vkd hl h0;refine⟨by simp[Ip];omega,λr hr=>?_⟩;simp only[Ip,WZ]at hr;obtain⟨y,_,rfl⟩:=hr;simp[Su];omega
def Vjl {f:Int}{rule:zAa}{L:List Nd}{b n:Int}(h:JG f rule L b n=0)(hf:f≠5):AY L=true/\0<=b/\b<=1000/\G7 L b=true/\Mv rule=true/\HG L=true:=by
 unfold JG at h;split at h
 cases h
 ·rename_i h1;split at h
  cases h;rename_i h2;simp only[Bool.not_eq_false,VV,Iq,MM,zXe,WQ]at h1 h2;obtain⟨⟨_,h3,h4⟩,h5⟩:=h1;refine⟨OX h4,h5.1.1.1,h5.1.1.2,?_,h3,h4⟩;rcases h2 with h2 | h2;exact zYf h2 hf;exact h2.1
theorem Vk3 {z:Int}{k m:Nat}(h:SB k z)(hk:10*k<=m):z.natAbs<10^m:=WO h (Vij hk)
def PR {z:Int}(h:SB 44 z):z.natAbs<10^4096/\(Vjc z).length<=5000:=by have h1:z.natAbs<10^4096:=Vk3 (m:=4096) h (by decide);refine⟨h1,?_⟩;have:=V5 4096 z.natAbs h1;simp only[show ¬((4096:Nat)=0)by decide,zYe]at this;unfold Vjc;split;simp;omega;omega
def OS (n:Nat)(two:Bool):zAa:=
 if two&&decide (n=0)then [98]else if two&&decide (n=1)then [111]else if n=0 then [46]
 else if n<=24 then [UInt8.ofNat (64+n)]else [UInt8.ofNat (112+(n-25) / 24),UInt8.ofNat (65+(n-25)%24)]
def Vec {n:Nat}(h:n<256):((UInt8.ofNat n).toNat:Int)=(n:Int):=by rw[Ym (show n<256 from h)]
def Vjq (a b:UInt8):AK 1 [.int .u8 (a.toNat:Int),.int .u8 (b.toNat:Int)]=some (.sl (enL cY [a,b]) .ti):=by simp[AK,Df,KP,Cq,Ab.acells,enL]
def VhX (n:Nat)(two:Bool)(H:Aa)(hn:n<256):UbF (.int .u8 (n:Int)) (.bool two) H=some (.ret (.str (OS n two)),H):=by
 unfold UbF OS;have d0:decide ((n:Int)=0)=decide (n=0):=by rw[VZ];simp only[zXe];omega
 have d1:decide ((n:Int)=1)=decide (n=1):=by rw[VZ];simp only[zXe];omega
 have rest:((Af .n .eql (.int .u8 (n:Int)) (.int .u8 0)).bind λx9=>Ai x9 (rK H (.str [46]) H) (
   (Af .n .leq (.int .u8 (n:Int)) (.int .u8 24)).bind λx10=>Ai x10 (
   (Af .n .add (.int .u8 65) (.int .u8 (n:Int))).bind λx11=>(Af .n .sub x11 (.int .u8 1)).bind λx12=>(AK 1 [x12]).bind λx13=>(CR x13 H).bind λx14=>rK H x14 H) (
   (Af .n .sub (.int .u8 (n:Int)) (.int .u8 25)).bind λx15=>(Af .n .quo x15 (.int .u8 24)).bind λx16=>(Af .n .add (.int .u8 112) x16).bind λx17=>
   (Af .n .sub (.int .u8 (n:Int)) (.int .u8 25)).bind λx18=>(Af .n .rem x18 (.int .u8 24)).bind λx19=>(Af .n .add (.int .u8 65) x19).bind λx20=>
   (AK 1 [x17,x20]).bind λx21=>(CR x21 H).bind λx22=>rK H x22 H)))=some (.ret (.str (if n=0 then [46]else if n<=24 then [UInt8.ofNat (64+n)]else [UInt8.ofNat (112+(n-25) / 24),UInt8.ofNat (65+(n-25)%24)])),H):=by
  by_cases h0:n=0;subst h0;rfl
  have dT:¬(n:Int)=0:=(by omega);by_cases h24:n<=24;have pD:(n:Int)<=24:=(by omega);have w1:J_.wrap (65+(n:Int))=65+(n:Int):=DW (by omega) (by omega);have w2:J_.wrap (65+(n:Int)-1)=((UInt8.ofNat (64+n)).toNat:Int):=(by rw[DW (by omega) (by omega),Vec (by omega)];omega);simp only[GMw,h0,dT,h24,pD,w1,w2,VgU,PN];have pD:¬(n:Int)<=24:=(by omega);have w1:J_.wrap ((n:Int)-25)=((n-25:Nat):Int):=(by rw[DW]<;>omega);have w2:J_.wrap (((n-25:Nat):Int).tdiv 24)=(((n-25) / 24:Nat):Int):=(by rw[show(((n-25:Nat):Int).tdiv 24)=(((n-25) / 24:Nat):Int) from rfl,DW]<;>omega);have w3:J_.wrap (112+(((n-25) / 24:Nat):Int))=((UInt8.ofNat (112+(n-25) / 24)).toNat:Int):=(by rw[DW (by omega) (by omega),Vec (by omega)];omega);have w4:((n-25:Nat):Int).tmod 24=(((n-25)%24:Nat):Int):=rfl;have w5:J_.wrap (65+(((n-25)%24:Nat):Int))=((UInt8.ofNat (65+(n-25)%24)).toNat:Int):=(by rw[DW (by omega) (by omega),Vec (by omega)];omega);simp only[GMw,h0,dT,h24,pD,w1,NP (show(24:Int)≠0 by decide),w2,w3,HL (show(24:Int)≠0 by decide),w4,w5,Vjq,PN]
 cases two with
 |false=>simp only[QR,CI,BI,AM,WL,VL,zYe];exact rest
 |true=>
  simp only[J3,BI,Fc,GS,d0,CN,d1];by_cases h0:n=0;subst h0;rfl
  ·by_cases h1:n=1;subst h1;rfl
   simp only[h0,h1,zYh,AM,Ye,VL,zYe];simp only[BI,Fc,GS,d0]at rest;simp only[h0,zYh,AM,zYe]at rest;exact rest
def J8 (n:Int)(sign:zAa):zAa:=if n=1 then sign else Vjc n++sign
def UY (n:Int)(sign:zAa)(H:Aa)(h0:-1000000000<=n)(h1:n<=1000000000)(hs:sign.length<=1000):UaS (.i6 n) (.str sign) H=some (.ret (.str (J8 n sign)),H):=by
 unfold UaS J8;have kD:=λH=>KE n H (by omega) (by omega);have uW:SB 44 n:=by unfold SB;have:(4294967296:Nat)^1<=4294967296^44:=HU (by omega);omega
 obtain⟨d1,d2⟩:=PR uW;have zX:=λH=>MB n H d1;by_cases hn:n=1;simp only[hn,GMw];simp only[hn,GMw,kD,zX];rw[Dj (by omega)];simp only[GMw]
def Vkp (b:UInt8):decide ((b.toNat:Int)=0)=decide (b=0):=by rw[VZ];simp only[zXe];constructor;intro h;exact Xt.1 (by simpa using h);intro h;rw[h];rfl
def VhW (s:zAa)(H:Aa)(hs:s.length<70368744177664):Ud1 (.str s) H=some (.ret (.i6 (HM s:Int)),H):=by
 unfold Ud1;refine Ct (G:=λrec1 vs H1=>Ud0 H rec1 (ag vs 0) (ag vs 1) (ag vs 2) H1) s.length (λi=>[.str s,.i6 (HM (s.take i):Int),.i6 (i:Int)]) (λ_=>H) _ (by omega) (λrec i hi=>?_) (λrec=>?_)
 ·have aE:(i:Int)<(s.length:Int):=by omega
  have aP:=Ar (show i<9223372036854775807 by omega);have jC:(s.take i).length=i:=by simp;omega
  have zW:HM (s.take (i+1))=if s[i]=0 then HM (s.take i)else i+1:=by rw[VU hi,Vdd,jC]
  rw[zW];unfold Ud0;simp only[GMw,CW,aE,AQ hi,Vkp,Ak];by_cases h0:s[i]=0;simp only[h0,GMw,Ue8,aP];simp only[h0,GMw,Ue8,aP]
 unfold Ud0;rw[VW (VM _)];simp only[GMw,CW,Wv]
def VmM (rows:List (zAa)):Bool:=(List.range rows.length).all λy=>(List.range (rows.getD y []).length).all λx=>decide (((rows.getD y []).getD x 0).toNat<=1)
def VkL (X Y:Int)(rows:List (zAa))(tk:Tok)(H:Aa)(hn:rows.length<70368744177664)(h:∀r∈rows,r.length<70368744177664):Udz (.agg (C4 X Y (.sl (enL cS rows) tk))) H=some (.ret (.bool (VmM rows)),H):=by
 unfold Udz;have hbx:Bj true 5 (.agg (C4 X Y (.sl (enL cS rows) tk))) H=some (.ptr H.length 0 0,H++[.c0 (C4 X Y (.sl (enL cS rows) tk))]):=BF (IY _ _ _ _) rfl;have hld:Ad false 1 (.ptr H.length 0 4) (H++[Blk.c0 (C4 X Y (.sl (enL cS rows) tk))])=some (.sl (enL cS rows) tk):=by simp only[Ad,A0 Ap,zXa];rfl
 simp only[hbx,GMw];have key:=EN (G:=λrec1 vs H1=>Udy H rec1 (ag vs 0) (ag vs 1) H1) rows.length (λy=>(List.range (rows.getD y []).length).all λx=>decide (((rows.getD y []).getD x 0).toNat<=1)) (λy=>[.ptr H.length 0 0,.i6 (y:Int)]) (H++[.c0 (C4 X Y (.sl (enL cS rows) tk))])
  (some (.ret (.bool true),H)) (some (.ret (.bool false),H)) (by omega) (λrec y hy=>?_) (λrec=>?_)
 refine key.trans ?_;unfold VmM;cases(List.range rows.length).all λy=>(List.range (rows.getD y []).length).all λx=>decide (((rows.getD y []).getD x 0).toNat<=1)<;>rfl
 ·have lG:(y:Int)<(rows.length:Int):=by omega
  have aP:=Ar (show y<9223372036854775807 by omega);have hrow:rows.getD y []=rows[y]:=by rw[VO,VG hy];rfl
  have lM:=h rows[y] (VY hy);rw[hrow];unfold Udy;simp only[GMw,Aj,VK,hld,Ax,lG];refine EN (G:=λaA vs H1=>Udx H rec aA (ag vs 0) (ag vs 1) (ag vs 2) H1) rows[y].length (λx=>decide ((rows[y].getD x 0).toNat<=1)) (λx=>[.ptr H.length 0 0,.i6 (y:Int),.i6 (x:Int)]) (H++[.c0 (C4 X Y (.sl (enL cS rows) tk))]) _ _ (by omega) (λaA x hx=>?_) (λaA=>?_);have hx':(x:Int)<(rows[y].length:Int):=(by omega);have zN:=Ar (show x<9223372036854775807 by omega);have hd:decide ((rows[y][x].toNat:Int)>1) = !decide ((rows[y].getD x 0).toNat<=1):=(by rw[VO,VG hx,VZ];simp;omega);unfold Udx;simp only[GMw,Ak,Aj,VK,hld,A4 hy,AA,zXh,CW,hx',AQ hx,hd,Ey,zN];cases decide ((rows[y].getD x 0).toNat<=1)<;>simp only[GMw]
  unfold Udx;simp only[GMw,Ak,Aj,VK,hld,A4 hy,AA,zXh,CW,Wv,aP]
 unfold Udy;simp only[GMw,Aj,VK,hld,Ax,Wv,Ey]
def OL (p:zAa×zAa)(t:zAa):zAa×zAa:=
 if p.2.length+t.length>70 then (p.1++p.2++[10],t)else (p.1,p.2++t)
def G6 (l:List (zAa)):zAa×zAa:=l.foldl OL ([],[])
def VdV (l:List (zAa)):zAa:=(G6 l).1++(G6 l).2++[10]
def OM (l:List (zAa)){i:Nat}(hi:i<l.length):G6 (l.take (i+1))=OL (G6 (l.take i)) l[i]:=by unfold G6;rw[VU hi,X6];rfl
theorem Jq (l:List (zAa))(h:∀t∈l,t.length<=10000):∀i,i<=l.length->(G6 (l.take i)).1.length+(G6 (l.take i)).2.length<=i*10001
 |0,_=>by simp[G6]
 |i+1,hi=>by have ih:=Jq l h i (by omega);have h2:=h l[i] (VY hi);rw[OM l hi];unfold OL;split;simp only[VR,zXi];omega;simp only[VR];omega
def VhV (l:List (zAa))(tk:Tok)(H:Aa)(hn:l.length<1099511627776)(h:∀t∈l,t.length<=10000):Ud5 (.sl (enL cS l) tk) H=some (.ret (.str (VdV l)),H):=by
 unfold Ud5;refine Ct (G:=λrec1 vs H1=>Ud4 H rec1 (ag vs 0) (ag vs 1) (ag vs 2) (ag vs 3) H1) l.length (λi=>[.sl (enL cS l) tk,.str (G6 (l.take i)).1,.str (G6 (l.take i)).2,.i6 (i:Int)]) (λ_=>H) _ (by omega) (λrec i hi=>?_) (λrec=>?_)
 ·have aE:(i:Int)<(l.length:Int):=by omega
  have aP:=Ar (show i<9223372036854775807 by omega);have hb:=Jq l h i (by omega);have h2:=h l[i] (VY hi);rw[OM l hi];generalize G6 (l.take i)=p at hb;obtain⟨s,line⟩:=p;dsimp only at hb⊢;have hw:I_.wrap ((line.length:Int)+(l[i].length:Int))=((line.length+l[i].length:Nat):Int):=by rw[Am]<;>omega
  unfold Ud4 OL;simp only[GMw,Ax,aE,CW,A4 hi,AA,zXh,hw,Ak];by_cases hg:line.length+l[i].length>70;have hg':(((line.length+l[i].length:Nat):Int)>70):=(by omega);rw[zYc hg];simp only[hg',GMw];rw[Dj (by omega)];simp only[GMw];rw[Dj (by simp only[VR,zXi];omega)];simp only[GMw,UeA,A4 hi,AA,zXh];rw[Dj (by simp;omega)];simp only[GMw,aP,List.nil_append];have hg':¬(((line.length+l[i].length:Nat):Int)>70):=(by omega);rw[zYb hg];simp only[hg',GMw,UeA,A4 hi,AA,zXh];rw[Dj (by omega)];simp only[GMw,aP]
 have hb:=Jq l h l.length (VM _);unfold Ud4 VdV;rw[VW (VM _)]at *;simp only[GMw,Ax,Wv];rw[Dj (by omega)];simp only[GMw];rw[Dj (by simp only[VR,zXi];omega)];simp only[GMw]
end Go.Gm
