/- Texts of this proof, joined. -/
import Derived.Test.YtagddbecnkbcdaaGreatJ2
import Derived.Test.YtagddbecnkbcdaaGreatJ4
import Derived.Test.YtagddbecnkbcdaaGreatJ5
set_option linter.all false
namespace Go.Gm
def Fc (c:Cl)(out:List Cl):Nat:=(out.takeWhile λd=>decide (Jr d c<0)).length
def LH (c:Cl)(out:List Cl):Bool:=match out[Fc c out]? with | some d=>decide (Jr d c=0) | none=>false
def J9 (c:Cl)(out:List Cl):List Cl:=if LH c out then (out.drop (Fc c out)).drop 1 else out.drop (Fc c out)
def C3 (out:List Cl)(c:Cl):List Cl:=out.take (Fc c out)++[c]++J9 c out
def DS (l:List Cl):List Cl:=l.foldl C3 []
def D3 (l:List Cl):List Cl:=(DS l).filter λc=>decide (c.s≠0)
theorem Nl {α:Type}(p:α->Bool):∀(l:List α) (n:Nat),n<=l.length->(∀(j:Nat) (a:α),j<n->l[j]? = some a->p a=true)->(∀a,l[n]? = some a->p a=false)->(l.takeWhile p).length=n
 | [],n,h,_,_=>by simp at h;simp[h]
 | a::l,0,_,_,h=>by
  have:=h a rfl;simp[WA,this]
 | a::l,n+1,h,h1,h2=>by
  have h3:=h1 0 a (by omega) rfl;have:=Nl p l n (by simpa using h) (λj b hj hb=>h1 (j+1) b (by omega) (by simpa using hb)) (λb hb=>h2 b (by simpa using hb));simp[WA,h3,this]
theorem posC_le (c:Cl)(out:List Cl):Fc c out<=out.length:=by
 unfold Fc;exact (Xp _).length_le
theorem lastStep_len (out:List Cl)(c:Cl):(C3 out c).length<=out.length+1:=by
 have:=posC_le c out;unfold C3 J9;split <;> simp <;> omega
theorem lastStep_mem {out:List Cl}{c d:Cl}(h:d∈C3 out c):d=c\/d∈out:=by
 unfold C3 J9 at h;simp only[Vi,Vg]at h;rcases h with (h | h) | h
 ·exact .inr (VR h)
 ·exact .inl h
 ·right;split at h
  ·exact Wr (Wr h)
  ·exact Wr h
theorem Ol {l:List Cl}{i:Nat}(hi:i<l.length):DS (l.take (i+1))=C3 (DS (l.take i)) l[i]:=by
 unfold DS;rw[UR hi,W5];rfl
theorem HH {l:List Cl}:∀i,i<=l.length->(DS (l.take i)).length<=i/\∀d∈DS (l.take i),d∈l
 | 0,_=>by simp[DS]
 | i+1,h=>by
  obtain⟨h1,h2⟩:=HH i (by omega:i<=l.length);rw[Ol h];refine⟨Vf (lastStep_len _ _) (by omega),λd hd=>?_⟩;rcases lastStep_mem hd with rfl | hd
  ·exact UV h
  ·exact h2 d hd
theorem slice_cap {α:Type}{f:α->List Ab}{l:List α}{tk:Tok}{sz h:Nat}{K:IntKind}[hf:Sz f sz](hh:h<=l.length) :
  Bw sz (.sl (enL f l) tk) none (some (.int K (h:Int))) (some (.int K (h:Int)))=some (.sl (enL f (l.take h)) .ti):=by
 simp[Bw,By,enL,hf.len,hh,List.map_take,FG]
theorem O6 {α:Type}{f:α->List Ab}{l:List α}{tk:Tok}{sz:Nat}{H:Aa}[hf:Sz f sz]:Cw sz (.sl (enL f l) tk) H=some (enL f l):=by
 simp[Cw,all_enL]
theorem q07_last (l:List Cl)(tk0:Tok)(H:Aa)(hl:l.length<549755813888)(hok:∀c∈l,c.ok):Sh.f6o (.sl (enL cCl l) tk0) H=some (.ret (.sl (enL cCl (D3 l)) .no),H):=by
 unfold Sh.f6o;have loop:=G5 (G:=λrec1 vs H1=>Sh.f6n H rec1 (ag vs 0) (ag vs 1) (ag vs 2) H1) l.length (λi vs Hc=>∃tk G,vs=[.sl (enL cCl l) tk0,.sl (enL cCl (DS (l.take i))) tk,.i6 (i:Int)]/\Hc=H++G) (by omega) (λi vs Hc hi hI=>?_)
  (vs:=[.sl (enL cCl l) tk0,.sl [] .ti,.i6 0]) (H:=H) ⟨.ti,[],rfl,by simp⟩
 ·obtain⟨vs',Hc,⟨tk,G,rfl,rfl⟩,rec,aB⟩:=loop;rw[aB];unfold Sh.f6n;rw[US (UK _)];simp only[GMw,Ay,V3];generalize hB:H++G=B;have hlen:(DS l).length<=l.length:=by have:=(HH (l:=l) l.length (UK _)).1;rwa [US (UK _)]at this
  unfold D3;generalize DS l=o at hlen;refine Cj (G:=λeG vs H1=>Sh.f6m H eG (ag vs 0) (ag vs 1) (ag vs 2) H1) o.length (λi=>[.sl (enL cCl o) tk,DD cCl B ((o.take i).filter λc=>decide (c.s≠0)),.i6 (i:Int)]) (λi=>DC cCl A8 5 B ((o.take i).filter λc=>decide (c.s≠0))) _ (by omega) (λrec i hi=>?_) (λrec=>?_)
  ·have aF:(i:Int)<(o.length:Int):=by omega
   have aM:=As (show i<9223372036854775807 by omega);unfold Sh.f6m;rw[UR hi,Vz];have dG:((o.take i).filter λc=>decide (c.s≠0)).length<=i:=Vf (We _ _) (by simp;omega);generalize ((o.take i).filter λc=>decide (c.s≠0))=fo at dG;have hs:decide ((o[i].s.toNat:Int)=0)=decide (o[i].s=0):=by
    rw[Va];simp only[zXe];constructor
    ·intro h;exact WB.1 (by simpa using h)
    ·intro h;rw[h];rfl
   simp only[GMw,Ay,aF,A4 hi,Au,UJ,load_sC,hs,aM,Sh.f6l];by_cases h0:o[i].s=0
   ·have:[o[i]].filter (λc=>decide (c.s≠0))=[]:=by simp[h0]
    rw[this,Vl];simp only[GMw,h0,decide_true,Sh.f6l,aM]
   ·have:[o[i]].filter (λc=>decide (c.s≠0))=[o[i]]:=by simp[h0]
    rw[this];have ha:=Du (f:=cCl) (ty:=A8) (bytes:=72) (tk:=.ti) (B:=B) (l:=fo) (m:=[o[i]]) (by simp) (by simp;omega) (by simp;omega);simp only[GMw,h0,decide_false,Oh,My,ha,Sh.f6l,aM]
  ·obtain⟨G',hG'⟩:=FV (f:=cCl) (ty:=A8) (sz:=5) B (o.filter λc=>decide (c.s≠0));unfold Sh.f6m;rw[US (UK _)];simp only[GMw,Ay,V3,EP,hG'];rw[<-hB,UP];simp only[C6,Hx,zXb]
 ·obtain⟨tk,G,rfl,rfl⟩:=hI;obtain⟨m1,m2⟩:=HH (l:=l) i (by omega);have aF:(i:Int)<(l.length:Int):=by omega
  have aM:=As (show i<9223372036854775807 by omega);have sI:l[i].ok:=hok _ (UV hi);have xJ:∀d∈DS (l.take i),d.ok:=λd hd=>hok d (m2 d hd);rw[Ol hi];generalize DS (l.take i)=o at m1 m2 xJ;generalize hB:H++G=B;have hp:=posC_le l[i] o;obtain⟨tkr,Gr,eA⟩:∃tkr Gr,AP A8 5 72 (.sl (enL cCl []) .ti) (.sl (enL cCl (o.drop (Fc l[i] o))) (FG tk (Fc l[i] o) o.length o.length false)) B=some (.sl (enL cCl (o.drop (Fc l[i] o))) tkr,B++Gr):=by
   by_cases he:o.drop (Fc l[i] o)=[]
   ·rw[he];exact⟨.ti,[],by simp[Ed,O6,Hy];exact Ed (by simp[Cw])⟩
   ·have:=CX (f:=cCl) (l:=[]) (m:=o.drop (Fc l[i] o)) (ty:=A8) (bytes:=72) (tk:=FG tk (Fc l[i] o) o.length o.length false) (H:=B) he (by simp;omega) (by simp;omega);exact⟨_,_,this⟩
  obtain⟨tks,hres⟩:∃tks,(if LH l[i] o then Bw 5 (.sl (enL cCl (o.drop (Fc l[i] o))) tkr) (some (.i6 1)) none none else some (.sl (enL cCl (o.drop (Fc l[i] o))) tkr))=some (.sl (enL cCl (J9 l[i] o)) tks):=by
   unfold J9;cases hs:LH l[i] o with
   | false=>exact⟨_,rfl⟩
   | true=>
    have hlt:Fc l[i] o<o.length:=by
     unfold LH at hs;cases hg:o[Fc l[i] o]? with
     | none=>rw[hg]at hs;cases hs
     | some d=>exact (UH.1 hg).1
    have:=Nx (f:=cCl) (l:=o.drop (Fc l[i] o)) (tk:=tkr) (K:=.i64) (b:=1) (by simp;omega);exact⟨_,this⟩
  have yF:=CX (f:=cCl) (l:=o.take (Fc l[i] o)) (m:=[l[i]]) (ty:=A8) (bytes:=72) (tk:=.ti) (H:=B++Gr) (by simp) (by simp;omega) (by simp;omega);obtain⟨tkf,Gf,yE⟩:∃tkf Gf,AP A8 5 72 (.sl (enL cCl (o.take (Fc l[i] o)++[l[i]])) (.own (B++Gr).length)) (.sl (enL cCl (J9 l[i] o)) tks) (B++Gr++[Blk.tok ((o.take (Fc l[i] o)).length+[l[i]].length) A8 5])=some (.sl (enL cCl (C3 o l[i])) tkf,B++Gf):=by
   by_cases he:J9 l[i] o=[]
   ·unfold C3;rw[he,Vl];exact⟨_,Gr++[Blk.tok ((o.take (Fc l[i] o)).length+[l[i]].length) A8 5],by rw[Hy,Ed (by simp[O6]),UP]⟩
   ·have mN:(J9 l[i] o).length<=o.length:=by unfold J9;split <;> simp <;> omega
    have:=Fs (f:=cCl) (l:=o.take (Fc l[i] o)++[l[i]]) (m:=J9 l[i] o) (ty:=A8) (bytes:=72) (tk:=tks) (H:=B++Gr++[Blk.tok ((o.take (Fc l[i] o)).length+[l[i]].length) A8 5]) (t:=(B++Gr).length) he (by simp) (by simp;omega) (by simp;omega);exact⟨.own (B++Gr).length,Gr++[Blk.tok ((o.take (Fc l[i] o)++[l[i]]).length+(J9 l[i] o).length) A8 5],by rw[this];unfold C3;rw[Vt _ _ (UK _),Vr,List.set_cons_zero,UP,UP]⟩
  refine⟨_,_,⟨tkf,G++Gf,rfl,rfl⟩,λrec=>?_⟩;unfold Sh.f6n;simp only[GMw,Ay,aF,An,Ai];refine AZ (G:=λaA vs H1=>Sh.f88 H rec aA (ag vs 0) (ag vs 1) (ag vs 2) (ag vs 3) H1) (σ:=Nat) (λk=>k<=o.length/\∀(j:Nat) (d:Cl),j<k->o[j]? = some d->decide (Jr d l[i]<0)=true) (λk=>[.sl (enL cCl l) tk0,.sl (enL cCl o) tk,.i6 (i:Int),.i6 (k:Int)]) (λ_=>B) (λk=>o.length-k) (λ_=>_) (λk aA hk hrec=>?_) 0 ⟨Ve _,λj d hj=>by omega⟩ (by omega);obtain⟨hk1,hk2⟩:=hk;have eX:=As (show k<9223372036854775807 by omega);unfold Sh.f88;have stop:(∀d,o[k]? = some d->decide (Jr d l[i]<0)=false)->k=Fc l[i] o:=λh=>(Nl _ o k hk1 hk2 h).symm;have yA:AL 5 []=some (.sl (enL cCl []) .ti):=rfl;have tail:∀s:Bool,k=Fc l[i] o->s=LH l[i] o->(AI (λj3=>Ak (.bool s) ((Bw 5 (.sl (enL cCl (o.drop (Fc l[i] o))) tkr) (some (.i6 1)) none none).bind λx61=>j3 [.sl (enL cCl l) tk0,.sl (enL cCl o) tk,.i6 (i:Int),.i6 (k:Int),x61] (B++Gr)) (j3 [.sl (enL cCl l) tk0,.sl (enL cCl o) tk,.i6 (i:Int),.i6 (k:Int),.sl (enL cCl (o.drop (Fc l[i] o))) tkr] (B++Gr))) (λvs H1=>Sh.f6k H rec (ag vs 0) (ag vs 1) (ag vs 2) (ag vs 3) (ag vs 4) H1))=rec [.sl (enL cCl l) tk0,.sl (enL cCl (C3 o l[i])) tkf,.i6 ((i+1:Nat):Int)] (H++(G++Gf)):=by
   intro s cO hs;have fin:Sh.f6k H rec (.sl (enL cCl l) tk0) (.sl (enL cCl o) tk) (.i6 (i:Int)) (.i6 (k:Int)) (.sl (enL cCl (J9 l[i] o)) tks) (B++Gr)=rec [.sl (enL cCl l) tk0,.sl (enL cCl (C3 o l[i])) tkf,.i6 ((i+1:Nat):Int)] (H++(G++Gf)):=by
    unfold Sh.f6k;rw[cO];simp only[GMw,slice_cap hp,A4 hi,Oh,My,yF,yE,aM];rw[<-hB,UP]
   subst hs;cases gT:LH l[i] o with
   | false=>
    rw[gT]at hres;simp only[UM,if_false,UQ]at hres;simp only[GMw,hres];exact fin
   | true=>
    rw[gT]at hres;simp only[if_true]at hres;simp only[GMw,hres];exact fin
  by_cases h:k<o.length
  ·have bV:(k:Int)<(o.length:Int):=by omega
   have uV:=λH=>q07_order o[k] l[i] H (xJ _ (UV h)) sI;simp only[GMw,Ay,bV,A4 h,A4 hi,Oh,uV,eX];by_cases hlt:Jr o[k] l[i]<0
   ·have:=hrec (k+1) ⟨h,λj d hj hd=>by
     by_cases e:j=k
     ·subst e;rw[UG h]at hd;injection hd with hd;rw[<-hd];exact zXc hlt
     ·exact hk2 j d (by omega) hd⟩ (by omega)
    simp only[hlt,GMw];exact this
   ·have cO:=stop (λd hd=>by rw[UG h]at hd;injection hd with hd;rw[<-hd];exact zXd hlt);have gT:decide (Jr o[k] l[i]=0)=LH l[i] o:=by
     unfold LH;rw[<-cO,UG h]
    simp only[hlt,GMw,yA];have jO:=Nx (f:=cCl) (l:=o) (tk:=tk) (K:=.i64) (b:=Fc l[i] o) hp;rw[<-cO]at jO eA;simp only[GMw,jO,eA];have ht:=tail _ cO gT;rw[<-cO]at ht;simp only[GMw]at ht;exact ht
  ·have hk:k=o.length:=by omega
   have bV:¬(k:Int)<(o.length:Int):=by omega
   have cO:=stop (λd hd=>by rw[zYb (by omega)]at hd;cases hd);have gT:false=LH l[i] o:=by
    unfold LH;rw[<-cO,zYb (by omega)]
   have jO:=Nx (f:=cCl) (l:=o) (tk:=tk) (K:=.i64) (b:=Fc l[i] o) hp;rw[<-cO]at jO eA;simp only[GMw,Ay,bV,yA,jO,eA];have ht:=tail _ cO gT;rw[<-cO]at ht;simp only[GMw]at ht;exact ht
def ltC (a b:Cl):Bool:=decide (Jr a b<0)
theorem K7 (a b:Int):(a<b/\FC a b<0)\/(a=b/\FC a b=0)\/(b<a/\0<FC a b):=by
 unfold FC;rcases Int.lt_trichotomy a b with h | h | h
 ·exact .inl ⟨h,by rw[if_pos h];decide⟩
 ·exact .inr (.inl ⟨h,by rw[if_neg (by omega),if_pos h]⟩)
 ·exact .inr (.inr ⟨h,by rw[if_neg (by omega),if_neg (by omega)];decide⟩)
theorem MJ {a b:Cl}:ltC a b=true↔a.y<b.y\/(a.y=b.y/\a.x<b.x):=by
 unfold ltC Jr;rw[zXe];rcases K7 a.y b.y with ⟨h1,h2⟩ | ⟨h1,h2⟩ | ⟨h1,h2⟩
 ·rw[if_neg (by omega)];omega
 ·rw[if_pos h2];rcases K7 a.x b.x with ⟨h3,h4⟩ | ⟨h3,h4⟩ | ⟨h3,h4⟩ <;> omega
 ·rw[if_neg (by omega)];omega
theorem ltC_no {a b:Cl}:ltC a b=false↔¬(a.y<b.y\/(a.y=b.y/\a.x<b.x)):=by
 rw[<-MJ,Bool.not_eq_true]
theorem Lk:SW ltC:=⟨λa b h=>by rw[MJ]at h;rw[ltC_no];omega,λa b c h k=>by rw[ltC_no]at h k ⊢;omega⟩
theorem JM {a b:Cl}:BP ltC a b=true↔a.x=b.x/\a.y=b.y:=by
 rw[FW,ltC_no,ltC_no];omega
theorem Ua {a b:Cl}:decide (Jr a b=0)=BP ltC a b:=by
 rw[Va,JM,zXe];unfold Jr;rcases K7 a.y b.y with ⟨h1,h2⟩ | ⟨h1,h2⟩ | ⟨h1,h2⟩
 ·rw[if_neg (by omega)];omega
 ·rw[if_pos h2];rcases K7 a.x b.x with ⟨h3,h4⟩ | ⟨h3,h4⟩ | ⟨h3,h4⟩ <;> omega
 ·rw[if_neg (by omega)];omega
def StrC (l:List Cl):Prop:=l.Pairwise λa b=>ltC a b=true
theorem mem_tw {p:Cl->Bool}:∀ {l:List Cl} {a:Cl},a∈l.takeWhile p->p a=true
 | [],a,h=>by cases h
 | c::l,a,h=>by
  rw[WA]at h;split at h
  ·rename_i hc;rcases VC.1 h with e | e
   ·rw[e];exact hc
   ·exact mem_tw e
  ·cases h
theorem lastStep_dec {out:List Cl}(c:Cl)(h:StrC out):∃T D R,out=T++(D++R)/\C3 out c=T++(c::R)/\(∀a∈T,ltC a c=true)/\(∀a∈R,ltC c a=true)/\∀a∈D,BP ltC a c=true:=by
 obtain⟨T,hT⟩:∃T,T=out.takeWhile λd=>decide (Jr d c<0):=⟨_,rfl⟩;obtain⟨D,hD⟩:∃D,D=out.dropWhile λd=>decide (Jr d c<0):=⟨_,rfl⟩;have hTD:out=T++D:=by rw[hT,hD,List.takeWhile_append_dropWhile]
 have hp:Fc c out=T.length:=by unfold Fc;rw[hT]
 have h1:out.take (Fc c out)=T:=by rw[hp,hTD,Xa]
 have h2:out.drop (Fc c out)=D:=by rw[hp,hTD,Xd]
 have hlt:∀a∈T,ltC a c=true:=λa ha=>by
  rw[hT]at ha;exact mem_tw (p:=λd=>decide (Jr d c<0)) ha
 have hst:=h;unfold StrC at hst;rw[hTD]at hst;have lH:=(VP.1 hst).2.1;have hg:out[Fc c out]? = D.head? := by
  rw[<-List.head?_drop,h2]
 unfold C3 J9 LH;rw[h1,h2,hg];cases hDc:D with
 | nil=>
  refine⟨T,[],[],by rw[hTD,hDc];simp,by simp,hlt,λa (ha:a∈[])=>(by cases ha),λa (ha:a∈[])=>(by cases ha)⟩
 | cons d D'=>
  rw[hDc]at lH;rw[Ww]at lH;have hd:ltC d c=false:=by
   have:=List.head?_dropWhile_not (λd=>decide (Jr d c<0)) out;rw[<-hD,hDc]at this;exact this
  have zZ:decide (Jr d c=0)=BP ltC d c:=Ua;simp only[List.head?_cons,zZ];by_cases he:BP ltC d c=true
  ·rw[if_pos he];refine⟨T,[d],D',by rw[hTD,hDc];simp,by simp,hlt,λa ha=>?_,λa ha=>by rw[Vg]at ha;rw[ha];exact he⟩;have:=lH.1 a ha;rw[JM]at he;rw[MJ]at this ⊢;omega
  ·rw[if_neg he];refine⟨T,[],d::D',by rw[hTD,hDc];simp,by simp,hlt,λa ha=>?_,λa (ha:a∈[])=>(by cases ha)⟩;have wD:ltC c d=true:=by
    cases e:ltC c d with
    | true=>rfl
    | false=>exact absurd (FW.2 ⟨hd,e⟩) he
   rcases VC.1 ha with e | e
   ·rw[e];exact wD
   ·have:=lH.1 a e;rw[MJ]at this wD ⊢;omega
theorem lastStep_str {out:List Cl}(c:Cl)(h:StrC out):StrC (C3 out c)/\∀z,(if BP ltC z c=true then ((C3 out c).filter (BP ltC z)).head? = some c else (C3 out c).filter (BP ltC z)=out.filter (BP ltC z)):=by
 obtain⟨T,D,R,e1,e2,hT,hR,hD⟩:=lastStep_dec c h;have h':=h;unfold StrC at h' ⊢;rw[e1]at h';rw[VP]at h';obtain⟨p1,p2,p3⟩:=h';rw[VP]at p2;rw[e2];refine⟨VP.2 ⟨p1,Ww.2 ⟨hR,p2.2.1⟩,λa ha b hb=>?_⟩,λz=>?_⟩
 ·rcases VC.1 hb with e | e
  ·rw[e];exact hT a ha
  ·exact p3 a ha b (by simp[e])
 ·by_cases hz:BP ltC z c=true
  ·rw[if_pos hz,Vz];have:T.filter (BP ltC z)=[]:=HK λa ha=>by
    cases e:BP ltC z a with
    | false=>rfl
    | true=>
     have:=hT a ha;rw[JM]at e hz;rw[MJ]at this;omega
   rw[this,List.nil_append,VA,if_pos hz];rfl
  ·rw[if_neg hz,e1,Vz,Vz,Vz,VA,if_neg hz];have:D.filter (BP ltC z)=[]:=HK λa ha=>by
    cases e:BP ltC z a with
    | false=>rfl
    | true=>
     have:=hD a ha;rw[JM]at e this;exact absurd (JM.2 (by omega)) hz
   rw[this,List.nil_append]
theorem strC_mem {l:List Cl}(h:StrC l)(z:Cl):z∈l↔(l.filter (BP ltC z)).head? = some z:=by
 constructor
 ·intro hz;obtain⟨A,B,rfl⟩:=List.append_of_mem hz;unfold StrC at h;rw[VP]at h;have:A.filter (BP ltC z)=[]:=HK λa ha=>by
   cases e:BP ltC z a with
   | false=>rfl
   | true=>
    have:=h.2.2 a ha z (by simp);rw[JM]at e;rw[MJ]at this;omega
  rw[Vz,this,List.nil_append,VA,if_pos (O0 Lk z)];rfl
 ·intro hz;exact (Wz.1 (List.mem_of_mem_head? hz)).1
theorem Qk:∀(l out:List Cl),StrC out->StrC (l.foldl C3 out)/\∀z,z∈l.foldl C3 out↔((l.reverse++out).filter (BP ltC z)).head? = some z
 | [],out,h=>⟨h,λz=>strC_mem h z⟩
 | c::l,out,h=>by
  obtain⟨s1,s2⟩:=lastStep_str c h;obtain⟨i1,i2⟩:=Qk l (C3 out c) s1;refine⟨i1,λz=>?_⟩;rw[List.foldl_cons,i2 z,Xi,UP,Vz,Vz];have hz:=s2 z;have key:((C3 out c).filter (BP ltC z)).head? = (([c]++out).filter (BP ltC z)).head? := by
   by_cases hc:BP ltC z c=true
   ·rw[if_pos hc]at hz;rw[hz,List.singleton_append,VA,if_pos hc];rfl
   ·rw[if_neg hc]at hz;rw[hz,List.singleton_append,VA,if_neg hc]
  rw[List.head?_append,List.head?_append,key]
theorem cp_last {l S:List Cl}(h:E4 ltC S)(hst:F3 ltC l.reverse S):cpL ltC S=DS l:=by
 obtain⟨c1,c2⟩:=cpL_ok Lk h;obtain⟨f1,f2⟩:=Qk l [] List.Pairwise.nil;refine Rk Lk _ _ c1 f1 λz=>?_;rw[c2 z,<-hst z];show _↔z∈l.foldl C3 [];rw[f2 z,Vl]
section
variable {p g i j n:Nat}{l l':List Cl}{H:Aa}
def De (H:Aa)(p g:Nat)(l:List Cl):Prop:=H[p]? = some (.buf g (flat cCl l) A8 5)
def BW (H:Aa)(p g:Nat)(l:List Cl):Aa:=H.set p (.buf g (flat cCl l) A8 5)
abbrev dV (p g n:Nat):Ab:=.ms p g 0 n n 5 false
theorem row_get (h:De H p g l):AB H p g=some (flat cCl l):=by
 unfold De at h;simp[AB,h]
theorem CB (h:De H p g l)(hi:i<l.length):Ad true 5 (.ptr p g (i*5)) H=some (.agg (cCl l[i])):=by
 simp only[Ad,row_get h,zXa,if_true,Kz hi,QS hi]
theorem row_st (h:De H p g l)(hi:i<l.length)(a:Cl):Ae 5 (.ptr p g (i*5)) (.agg (cCl a)) H=some (BW H p g (l.set i a)):=by
 have hs:FH H p g (flat cCl (l.set i a))=BW H p g (l.set i a):=by
  have h':=h;unfold De at h';unfold FH BW;rw[h']
 simp only[Ae,row_get h,zXa,MY,show (cCl a).length=5 from rfl,Kz hi,and_self,if_true,Sw hi,hs]
theorem Dj (h:De H p g l):De (BW H p g l') p g l':=by
 have:p<H.length:=(UH.1 h).1;unfold De BW;rw[UT this]
theorem BB:BW (BW H p g l) p g l'=BW H p g l':=by unfold BW;rw[Xq]
theorem CM (h:De H p g l):BW H p g l=H:=by
 unfold De at h;unfold BW;apply VW;intro i;rw[X9];split
 ·rename_i e;subst e;rw[h];rw[if_pos (UH.1 h).1]
 ·rfl
theorem Ce (h:i<n):Aw 5 (dV p g n) (.i6 (i:Int))=some (.ptr p g (i*5)):=by
 rw[CS h,UJ]
theorem swp_eq (hi:i<l.length)(hj:j<l.length):swp l i j=(l.set i l[j]).set j l[i]:=by
 unfold swp;rw[UG hi,UG hj]
theorem swp_mem {c:Cl}(h:c∈swp l i j):c∈l:=by
 unfold swp at h;split at h
 ·rename_i a b ha hb;rcases Xe h with h | h
  ·rcases Xe h with h | h
   ·exact h
   ·rw[h];exact Vj hb
  ·rw[h];exact Vj ha
 ·exact h
theorem Rt (h:De H p g l)(hi:i<l.length)(hj:j<l.length):Ae 5 (.ptr p g (i*5)) (.agg (cCl l[j])) H=some (BW H p g (l.set i l[j]))/\Ae 5 (.ptr p g (j*5)) (.agg (cCl l[i])) (BW H p g (l.set i l[j]))=some (BW H p g (swp l i j)):=by
 refine⟨row_st h hi _,?_⟩;rw[row_st (Dj h) (by rw[zYa];exact hj),BB,swp_eq hi hj]

end
def Ta (orc:Orc)(f:Ab)(l:List Cl):Prop:=∀c∈l,∀d∈l,∀H,DK orc f [.agg (cCl c),.agg (cCl d)] H=some (.ret (.i6 (Jr c d)),H)
theorem insJ_mem (a:Nat){c:Cl}:∀(j:Nat) (l:List Cl),c∈Kw ltC a j l->c∈l
 | 0,l,h=>h
 | j+1,l,h=>by
  unfold Kw at h;split at h
  ·exact swp_mem (insJ_mem a j _ h)
  ·exact h
theorem insN_mem (a:Nat){c:Cl}:∀(k:Nat) (l:List Cl),c∈Q1 ltC a k l->c∈l
 | 0,l,h=>h
 | k+1,l,h=>insN_mem a k l (insJ_mem a _ _ h)
theorem K5 (c d:Cl):decide (Jr c d<0)=ltC c d:=rfl
section
variable {p g a b:Nat}{f:Ab}
theorem ins_l2 {l0:List Cl}{i:Nat}(hf:Ta AD f l0)(B:Aa)(rec1:LK){l:List Cl}{H:Aa}(h:De H p g l)(hm:∀c∈l,c∈l0)(hi:i<l.length)(hl:l.length<1000000000) :
  Am (λaA vs H1=>Sh.f4k B rec1 aA (ag vs 0) (ag vs 1) (ag vs 2) (ag vs 3) (ag vs 4) (ag vs 5) H1) AM [dV p g l.length,.i6 (a:Int),.i6 (b:Int),f,.i6 (i:Int),.i6 (i:Int)] H =
   rec1 [dV p g l.length,.i6 (a:Int),.i6 (b:Int),f,.i6 ((i+1:Nat):Int)] (BW H p g (Kw ltC a i l)):=by
 have key:=AZ (G:=λaA vs H1=>Sh.f4k B rec1 aA (ag vs 0) (ag vs 1) (ag vs 2) (ag vs 3) (ag vs 4) (ag vs 5) H1) (σ:=Nat×List Cl) (λs=>s.1<l.length/\s.2.length=l.length/\∀c∈s.2,c∈l0)
  (λs=>[dV p g l.length,.i6 (a:Int),.i6 (b:Int),f,.i6 (i:Int),.i6 (s.1:Int)]) (λs=>BW H p g s.2) (λs=>s.1)
  (λs=>rec1 [dV p g l.length,.i6 (a:Int),.i6 (b:Int),f,.i6 ((i+1:Nat):Int)] (BW H p g (Kw ltC a s.1 s.2))) (λs aA hs hrec=>?_) (i,l) ⟨hi,rfl,hm⟩ (by dsimp only;omega)
 ·rw[CM h]at key;exact key
 ·obtain⟨j,L⟩:=s;obtain⟨h1,h2,h3⟩:=hs;dsimp only at h1 h2 h3 hrec ⊢;have hr:De (BW H p g L) p g L:=Dj h;have cM:=As (show i<9223372036854775807 by omega);unfold Sh.f4k;by_cases xS:a<j
  ·obtain⟨k,rfl⟩:∃k,j=k+1:=⟨j-1,by omega⟩;have hg:decide (((k+1:Nat):Int)>(a:Int))=true:=zXc (by omega);have hw:IntKind.i64.wrap (((k+1:Nat):Int)-1)=(k:Int):=by rw[Ao] <;> omega
   have hk1:k+1<L.length:=by omega
   have hk:k<L.length:=by omega
   have c1:=hf L[k+1] (h3 _ (UV hk1)) L[k] (h3 _ (UV hk));obtain⟨s1,s2⟩:=Rt hr hk1 hk;rw[BB]at s1 s2;rw[BB]at s2;have hlt:IE ltC L (k+1) k=ltC L[k+1] L[k]:=QN hk1 hk;simp only[An,Ai,Bb,Bd,B7,Cb,DL,GMw,hg,Ce h1,Ce (show k<l.length by omega),CB hr hk1,CB hr hk,BQ,c1,BC,hw,K5];cases hc:ltC L[k+1] L[k]with
   | true=>
    have eK:Kw ltC a (k+1) L=Kw ltC a k (swp L (k+1) k):=by
     conv=>lhs;unfold Kw
     rw[hlt,hc,if_pos ⟨xS,rfl⟩]
    simp only[GMw,CB hr hk1,CB hr hk,BQ,Ce h1,Ce (show k<l.length by omega),s1,s2,BB,hw];have xD:=hrec (k,swp L (k+1) k) ⟨by omega,by rw[MD];exact h2,λc hc=>h3 c (swp_mem hc)⟩ (Nat.lt_succ_self _);dsimp only at xD;rw[xD,eK]
   | false=>
    have eK:Kw ltC a (k+1) L=L:=by
     unfold Kw;rw[hlt,hc,if_neg (λh=>by cases h.2)]
    simp only[GMw,cM];rw[eK]
  ·have hg:decide ((j:Int)>(a:Int))=false:=zXd (by omega);have eK:Kw ltC a j L=L:=by
    cases j with
    | zero=>rfl
    | succ k=>unfold Kw;rw[if_neg (λh=>xS h.1)]
   simp only[An,Ai,Bb,Bd,B7,Cb,DL,GMw,hg,cM];rw[eK]
theorem ins_sort {l0:List Cl}(hf:Ta AD f l0){l:List Cl}{H:Aa}(h:De H p g l)(hm:∀c∈l,c∈l0)(hab:a<=b)(hb:b<=l.length)(hl:l.length<1000000000) :
  Sh.fr (dV p g l.length) (.i6 (a:Int)) (.i6 (b:Int)) f H=some (.ret (.tup []),BW H p g (Q1 ltC a (b-a-1) l)):=by
 have yT:=As (show a<9223372036854775807 by omega);unfold Sh.fr;simp only[GMw,yT];have key:=AZ (G:=λrec1 vs H1=>Sh.f4l H rec1 (ag vs 0) (ag vs 1) (ag vs 2) (ag vs 3) (ag vs 4) H1) (σ:=Nat) (λk=>k<=b-a-1)
  (λk=>[dV p g l.length,.i6 (a:Int),.i6 (b:Int),f,.i6 ((a+1+k:Nat):Int)]) (λk=>BW H p g (Q1 ltC a k l)) (λk=>b-a-1-k)
  (λ_=>some (.ret (.tup []),BW H p g (Q1 ltC a (b-a-1) l))) (λk rec hk hrec=>?_) 0 (Ve _) (by omega)
 ·rw[show Q1 ltC a 0 l=l from rfl,CM h]at key;exact key
 ·unfold Sh.f4l;have hr:De (BW H p g (Q1 ltC a k l)) p g (Q1 ltC a k l):=Dj h;have aZ:=insN_len (lt:=ltC) a k l;by_cases hlt:a+1+k<b
  ·have hd:decide (((a+1+k:Nat):Int)<(b:Int))=true:=zXc (by omega);have h2:=ins_l2 (a:=a) (b:=b) (i:=a+1+k) hf H rec hr (λc hc=>hm c (insN_mem a k l hc)) (by omega) (by omega);rw[aZ,BB]at h2;simp only[An,Ai,Bb,Bd,B7,Cb,GMw,hd];rw[h2];exact hrec (k+1) (by omega) (by omega)
  ·have hd:decide (((a+1+k:Nat):Int)<(b:Int))=false:=zXd (by omega);have e:k=b-a-1:=by omega
   simp only[An,Ai,Bb,Bd,B7,Cb,GMw,hd];rw[<-e]
theorem swap_range {l:List Cl}{n:Nat}{H:Aa}(h:De H p g l)(ha:a+n<=l.length)(hb:b+n<=l.length)(hl:l.length<1000000000) :
  Sh.f1u (dV p g l.length) (.i6 (a:Int)) (.i6 (b:Int)) (.i6 (n:Int)) f H=some (.ret (.tup []),BW H p g (swR a b n l)):=by
 unfold Sh.f1u;have key:=Cj (G:=λrec1 vs H1=>Sh.f4m H rec1 (ag vs 0) (ag vs 1) (ag vs 2) (ag vs 3) (ag vs 4) H1) n
  (λk=>[dV p g l.length,.i6 (a:Int),.i6 (b:Int),.i6 (n:Int),.i6 (k:Int)]) (λk=>BW H p g (swR a b k l)) (some (.ret (.tup []),BW H p g (swR a b n l))) (by omega) (λrec k hk=>?_) (λrec=>?_)
 ·rw[show swR a b 0 l=l from rfl,CM h]at key;exact key
 ·unfold Sh.f4m;have hr:De (BW H p g (swR a b k l)) p g (swR a b k l):=Dj h;have aZ:=QH a b k l;have hd:decide ((k:Int)<(n:Int))=true:=zXc (by omega);have eX:=As (show k<9223372036854775807 by omega);have cQ:IntKind.i64.wrap ((a:Int)+(k:Int))=((a+k:Nat):Int):=by rw[Ao] <;> omega
  have cA:IntKind.i64.wrap ((b:Int)+(k:Int))=((b+k:Nat):Int):=by rw[Ao] <;> omega
  have i1:a+k<(swR a b k l).length:=by omega
  have i2:b+k<(swR a b k l).length:=by omega
  obtain⟨s1,s2⟩:=Rt hr i1 i2;rw[BB]at s1 s2;rw[BB]at s2;simp only[An,Ai,Bb,Bd,B7,Cb,GMw,hd,cQ,cA,Ce (show a+k<l.length by omega),Ce (show b+k<l.length by omega),CB hr i1,CB hr i2,BQ,s1,s2,BC,AC,eX]
  rfl
 ·unfold Sh.f4m;have hd:decide ((n:Int)<(n:Int))=false:=zXd (by omega);simp only[An,Ai,Bb,Bd,B7,Cb,GMw,hd]
theorem rotate_ok {A B U V:List Cl}{m:Nat}{H:Aa}(h:De H p g (A++(U++(V++B))))(ha:a=A.length)(hm:m=a+U.length)(hb:b=m+V.length)(hU:0<U.length)(hV:0<V.length)(hl:(A++(U++(V++B))).length<1000000000) :
  Sh.f2n (dV p g (A++(U++(V++B))).length) (.i6 (a:Int)) (.i6 (m:Int)) (.i6 (b:Int)) f H=some (.ret (.tup []),BW H p g (A++((V++U)++B))):=by
 obtain⟨l,hL⟩:∃l,l=A++(U++(V++B)):=⟨_,rfl⟩;have hst:NI A B (V++U) m U.length V.length l:=by rw[hL,hm,ha];exact NI.start hU hV
 rw[<-hL]at h hl ⊢;have hlen:=hst.len;have cQ:IntKind.i64.wrap ((m:Int)-(a:Int))=(U.length:Int):=by rw[Ao] <;> omega
 have cA:IntKind.i64.wrap ((b:Int)-(m:Int))=(V.length:Int):=by rw[Ao] <;> omega
 unfold Sh.f2n;simp only[GMw,cQ,cA];have key:=AZ (G:=λrec1 vs H1=>Sh.f7i H rec1 (ag vs 0) (ag vs 1) (ag vs 2) (ag vs 3) (ag vs 4) H1) (σ:=(Nat×Nat)×List Cl) (λs=>NI A B (V++U) m s.1.1 s.1.2 s.2/\s.2.length=l.length)
  (λs=>[dV p g l.length,.i6 (m:Int),f,.i6 (s.1.1:Int),.i6 (s.1.2:Int)]) (λs=>BW H p g s.2) (λs=>s.1.1+s.1.2)
  (λ_=>some (.ret (.tup []),BW H p g (A++((V++U)++B)))) (λs rec hs hrec=>?_) ((U.length,V.length),l) ⟨hst,rfl⟩ (by dsimp only;omega)
 ·rw[CM h]at key;exact key
 ·obtain⟨⟨i,j⟩,L⟩:=s;obtain⟨h1,h2⟩:=hs;dsimp only at h1 h2 hrec ⊢;have hr:De (BW H p g L) p g L:=Dj h;obtain⟨q1,q2⟩:=h1.len;obtain⟨p1,p2⟩:=h1.pos;have tB:=λ(x y n:Nat) (h3:x+n<=L.length) (h4:y+n<=L.length)=>swap_range (f:=f) (a:=x) (b:=y) (n:=n) hr h3 h4 (by omega);rw[h2]at tB;have cP:IntKind.i64.wrap ((m:Int)-(i:Int))=((m-i:Nat):Int):=by rw[Ao] <;> omega
  unfold Sh.f7i;by_cases hij:i=j
  ·subst hij;have hd:((i:Int) != (i:Int))=false:=by simp
   simp only[An,Ai,Bb,Bd,B7,Cb,GMw,hd,cP,tB (m-i) m i (by omega) (by omega),BB];rw[h1.eq]
  ·have hd:((i:Int) != (j:Int))=true:=by simp;omega
   by_cases hgt:j<i
   ·have bQ:decide ((i:Int)>(j:Int))=true:=zXc (by omega);have cM:IntKind.i64.wrap ((i:Int)-(j:Int))=((i-j:Nat):Int):=by rw[Ao] <;> omega
    simp only[An,Ai,Bb,Bd,B7,Cb,GMw,hd,bQ,cP,cM,tB (m-i) m j (by omega) (by omega),BB];exact hrec ((i-j,j),swR (m-i) m j L) ⟨h1.hi hgt,by rw[QH];exact h2⟩ (by dsimp only;omega)
   ·have bQ:decide ((i:Int)>(j:Int))=false:=zXd (by omega);have cM:IntKind.i64.wrap ((j:Int)-(i:Int))=((j-i:Nat):Int):=by rw[Ao] <;> omega
    have tA:IntKind.i64.wrap ((m:Int)+(j:Int))=((m+j:Nat):Int):=by rw[Ao] <;> omega
    have eX:IntKind.i64.wrap (((m+j:Nat):Int)-(i:Int))=((m+j-i:Nat):Int):=by rw[Ao] <;> omega
    simp only[An,Ai,Bb,Bd,B7,Cb,GMw,hd,bQ,cP,cM,tA,eX,tB (m-i) (m+j-i) i (by omega) (by omega),BB];exact hrec ((i,j-i),swR (m-i) (m+j-i) i L) ⟨h1.lo (by omega),by rw[QH];exact h2⟩ (by dsimp only;omega)

end
def Row1 (v:Ab)(H:Aa)(l:List Nat):Prop:=A7 v=some (.i6 (l.length:Int))/\∀(i:Nat) (h:i<l.length),∃p,Aw 1 v (.i6 (i:Int))=some p/\∀G,Ad false 1 p (H++G)=some (.int .u32 (l[i]:Int))
theorem row_ms {l:List Nat}{H:Aa}{id:Nat}(hg:H[id]? = some (.cel 0 (flat cU l))):Row1 (.ms id 0 0 l.length l.length 1 true) H l:=by
 refine⟨rfl,λi h=>?_⟩;have hidx:=CS (sz:=1) (id:=id) (n:=l.length) (K:=.i64) (g:=0) (off:=0) (cap:=l.length) (ex:=true) (i:=i) h;simp only[UJ,UW]at hidx;exact⟨_,hidx,λG=>B3 (Ih (f:=cU) (A1 hg) h)⟩
theorem q01_bitsR {v:Ab}{H:Aa}{l:List Nat}(hv:Row1 v H l)(hl:l.length<=2199023255552)(hx:Lim l):Sh.f6 v H=some (.ret (.sl (enL cB (D4 (AQ l))) .no),H):=by
 unfold Sh.f6;refine Cj l.length (λi=>[v,DD cB H (AQ (l.take i)),.i6 (i:Int)]) (λi=>DC cB Ci 1 H (AQ (l.take i))) _ (by omega) (λrec i hi=>?_) (λrec=>?_)
 ·have aF:(i:Int)<(l.length:Int):=by omega
  have aI:l[i]<4294967296:=hx _ (UV hi);have htk:AQ (l.take (i+1))=AQ (l.take i)++D5 32 l[i]:=by
   rw[UR hi,AQ,List.flatMap_append];simp[AQ]
  have hlen:(AQ (l.take i)).length<=32*2199023255552:=by rw[C5];simp;omega
  obtain⟨p,uU,zL⟩:=hv.2 i hi;obtain⟨G,hG⟩:=FV (f:=cB) (ty:=Ci) (sz:=1) H (AQ (l.take i));have hld:Ad false 1 p (DC cB Ci 1 H (AQ (l.take i)))=some (.int .u32 (l[i]:Int)):=by rw[hG];exact zL G
  unfold Sh.f37;simp only[An,Bb,Bd,hv.1,BL,Bq,aF,decide_true,AU,uU,hld,htk];generalize AQ (l.take i)=o at hlen;generalize l[i]=x at aI;refine AZ (σ:=Nat×Nat×List Bool) (λs=>s.1<=32/\s.2.1<4294967296/\s.2.2.length<=o.length+s.1) (λs=>[v,DD cB H s.2.2,.i6 (i:Int),.int .u32 (s.2.1:Int),.i6 (s.1:Int)]) (λs=>DC cB Ci 1 H s.2.2) (λs=>32-s.1)
   (λs=>rec [v,DD cB H (s.2.2++D5 (32-s.1) s.2.1),.i6 ((i+1:Nat):Int)] (DC cB Ci 1 H (s.2.2++D5 (32-s.1) s.2.1))) (λs aA hs hrec=>?_) (0,x,o) ⟨by dsimp only;omega,aI,by dsimp only;omega⟩ (by dsimp only;omega)
  obtain⟨k,y,p⟩:=s;obtain⟨hk,hy,hp⟩:=hs;simp only at hk hy hp hrec ⊢;unfold Sh.f7u;by_cases h:k<32
  ·have h':(k:Int)<32:=by omega
   have e1:(y:Int).tmod 2=((y%2:Nat):Int):=rfl;have e2:IntKind.u32.wrap ((y:Int).tdiv 2)=((y / 2:Nat):Int):=by rw[show (y:Int).tdiv 2=((y / 2:Nat):Int) from rfl,CP] <;> omega
   have e3:decide (((y%2:Nat):Int)=1)=(y%2 == 1):=by rw[Va];simp only[beq_iff_eq,zXe];omega
   have e4:IntKind.i64.wrap ((k:Int)+1)=((k+1:Nat):Int):=by rw[Ao] <;> omega
   have:=hrec (k+1,y / 2,p++[y%2 == 1]) ⟨h,by dsimp only;omega,by simp;omega⟩ (by dsimp only;omega);simp only[An,Bb,Bd,B7,Cb,Bq,h',decide_true,BL,AU,Is (show (2:Int)≠0 by decide),OI (show (2:Int)≠0 by decide),e1,e2,DV,GL,e3,Rc];rw[Du (by simp) (by simp;omega) (by simp;omega)];simp only[Dr,CC,CK,BL,e4,this];rw[show 32-k=(32-(k+1))+1 from by omega,D5];simp
  ·have:k=32:=by omega
   subst this;have e4:IntKind.i64.wrap ((i:Int)+1)=((i+1:Nat):Int):=by rw[Ao] <;> omega
   simp[D5,e4]
 ·unfold Sh.f37;obtain⟨G,hG⟩:=FV (f:=cB) (ty:=Ci) (sz:=1) H (AQ l);rw[US (UK _)];simp only[An,Bb,Bd,EP,hG,hv.1,BL,Bq,V3,decide_false,AO,q01_cut (AQ l) _ _ (by rw[C5];omega),CC,C6,Hx,zXb]
theorem q01_normR {v:Ab}{H:Aa}{l:List Nat}(hv:Row1 v H l)(hl:l.length<=1099511627776)(hx:Lim l):Sh.f10 v H=some (.ret (.sl (enL cU (A6 (val l))) .no),H):=by
 have hc:=In (AQ l);rw[C5]at hc;unfold Sh.f10;rw[q01_bitsR hv (by omega) hx];simp only[Fr];rw[R8 _ _ _ (by omega)];simp only[Fr,Em,Uw,EA,ET l hx]
theorem Rf (a:Nat)(l:List Nat):val (a::l)=a+4294967296*val l:=rfl
theorem div_step {m a v:Nat}(hm:0<m):(a+4294967296*v) / m=(v%m*4294967296+a) / m+4294967296*(v / m)/\(a+4294967296*v)%m=(v%m*4294967296+a)%m:=by
 have h:=Wy v m;have e:a+4294967296*v=(v%m*4294967296+a)+m*(4294967296*(v / m)):=by
  conv=>lhs;rw[<-h]
  rw[VO,Nat.mul_left_comm];omega
 rw[e,Xy _ _ hm,Nat.add_mul_mod_self_left];exact⟨rfl,rfl⟩
theorem quo_lt {m a r:Nat}(hr:r<m)(ha:a<4294967296):(r*4294967296+a) / m<4294967296:=by
 rw[Wd (by omega)];have:(r+1)*4294967296<=m*4294967296:=Vw _ hr;omega
theorem q01_div (l:List Nat)(tk:Tok)(m:Nat)(H:Aa)(hl:l.length<=1099511627776)(hx:Lim l)(hm0:0<m)(hm:m<4294967296) :
  Sh.f66 (.sl (enL cU l) tk) (.int .u32 (m:Int)) H=some (.ret (.tup [.sl (enL cU (A6 (val l / m))) .no,.int .u32 ((val l%m:Nat):Int)]),H):=by
 unfold Sh.f66;have qU:¬(m:Int)=0:=by omega
 have dA:=Fx (f:=cU) (a:=0) (n:=l.length) (bytes:=4) (H:=H) (by omega) (by omega);simp only[show cU 0=[Ab.int .u32 0] from rfl]at dA;have nB:∀n:Int,AA .u64 (.int .u32 (m:Int))=some (.int .u64 (m:Int)):=λ_=>by rw[Bl,BK (by omega) (by omega)]
 simp only[GMw,qU,Ay,dA];have hw0:IntKind.i64.wrap ((l.length:Int)-1)=(l.length:Int)-1:=Ao (by omega) (by omega);rw[hw0];have key:=AZ (G:=λrec1 vs H1=>Sh.f7y H rec1 (ag vs 0) (ag vs 1) (ag vs 2) (ag vs 3) (ag vs 4) H1) (σ:=Nat×List Nat) (λs=>s.1<=l.length/\s.2.length=l.length/\Lim s.2/\val (s.2.drop s.1)=val (l.drop s.1) / m)
  (λs=>[.sl (enL cU l) tk,.int .u32 (m:Int),.ms H.length 0 0 l.length l.length 1 true,.int .u64 ((val (l.drop s.1)%m:Nat):Int),.i6 ((s.1:Int)-1)]) (λs=>H++[.cel 0 (flat cU s.2)]) (λs=>s.1)
  (λ_=>some (.ret (.tup [.sl (enL cU (A6 (val l / m))) .no,.int .u32 ((val l%m:Nat):Int)]),H)) (λs rec hs hrec=>?_) (l.length,List.replicate l.length 0) ⟨UK _,by simp,λx hx=>by have:=(Xb.1 hx).2;omega,by simp[val]⟩ (by dsimp only;omega)
 ·simp only[XE,show val []=0 from rfl,Nat.zero_mod]at key;exact key
 ·obtain⟨k,O⟩:=s;obtain⟨h1,h2,h3,h4⟩:=hs;simp only at h1 h2 h3 h4 hrec ⊢;unfold Sh.f7y;cases k with
  | zero=>
   have hrow:=row_ms (l:=O) (H:=H++[Blk.cel 0 (flat cU O)]) (id:=H.length) Ap;rw[h2]at hrow;have hn:=q01_normR hrow (by omega) h3;have hv:val O=val l / m:=by simpa using h4
   have hlt:val l%m<m:=Ws _ hm0;have hcv:AA .u32 (.int .u64 ((val l%m:Nat):Int))=some (.int .u32 ((val l%m:Nat):Int)):=by rw[Bl,CP (by omega) (by omega)]
   simp only[GMw,Ai,show ¬(((0:Nat):Int)-1>=0) from by decide,hn,VX,hcv,hv,C6,C9,B4,BO,II,CT,zXb]
  | succ j=>
   have hj:j<l.length:=h1;have hi:((j+1:Nat):Int)-1=(j:Int):=by omega
   have ha:=hx _ (UV hj);have hd:l.drop j=l[j]::l.drop (j+1):=Vh hj;have hr:val (l.drop (j+1))%m<m:=Ws _ hm0;obtain⟨s1,s2⟩:=div_step (m:=m) (a:=l[j]) (v:=val (l.drop (j+1))) hm0;have hq:=quo_lt (m:=m) (a:=l[j]) (r:=val (l.drop (j+1))%m) hr ha;have dM:val (l.drop (j+1))%m*4294967296<=4294967295*4294967296:=Vw _ (by omega);generalize eZ:val (l.drop (j+1))%m=r at *;have w1:IntKind.u64.wrap ((r:Int)*4294967296)=((r*4294967296:Nat):Int):=by rw[BK] <;> omega
   have w2:AA .u64 (.int .u32 (l[j]:Int))=some (.int .u64 (l[j]:Int)):=by rw[Bl,BK (by omega) (by omega)]
   have w3:IntKind.u64.wrap (((r*4294967296:Nat):Int)+(l[j]:Int))=((r*4294967296+l[j]:Nat):Int):=by rw[BK] <;> omega
   have w4:IntKind.u64.wrap (((r*4294967296+l[j]:Nat):Int).tdiv (m:Int))=(((r*4294967296+l[j]) / m:Nat):Int):=by
    rw[show (((r*4294967296+l[j]:Nat):Int).tdiv (m:Int))=(((r*4294967296+l[j]) / m:Nat):Int) from rfl,BK (X2 _) (Int.lt_of_lt_of_le (Int.ofNat_lt.2 hq) (by decide))]
   have w5:AA .u32 (.int .u64 (((r*4294967296+l[j]) / m:Nat):Int))=some (.int .u32 (((r*4294967296+l[j]) / m:Nat):Int)):=by rw[Bl,CP (X2 _) (Int.ofNat_lt.2 hq)]
   have w6:(((r*4294967296+l[j]:Nat):Int).tmod (m:Int))=(((r*4294967296+l[j])%m:Nat):Int):=rfl;have w7:IntKind.i64.wrap ((j:Int)-1)=(j:Int)-1:=Ao (by omega) (by omega);have hidx:=CS (sz:=1) (id:=H.length) (n:=l.length) (K:=.i64) (g:=0) (off:=0) (cap:=l.length) (ex:=true) (i:=j) hj;simp only[UJ,UW]at hidx;have hst:=DW (f:=cU) (sz:=1) (l:=O) (i:=j) (a:=(r*4294967296+l[j]) / m) (v:=.int .u32 (((r*4294967296+l[j]) / m:Nat):Int)) (H:=H++[Blk.cel 0 (flat cU O)]) (id:=H.length) (A1 Ap) (by omega) rfl;rw[UW,B5 Ap,Ba]at hst;have hge:((j:Int)>=0):=by omega
   have xM:(m:Int)≠0:=qU;have:=hrec (j,O.set j ((r*4294967296+l[j]) / m)) ⟨by omega,by simp[h2],λx jI=>by
     rcases Xe jI with h | h
     ·exact h3 x h
     ·rw[h];exact hq,by
     dsimp only;rw[hd,Rf,s1,List.drop_set,if_neg (by omega),Vr,Vh (by omega:j<O.length),List.set_cons_zero,Rf,h4]⟩ (by dsimp only;omega)
   dsimp only at this;rw[hd,Rf,s2]at this;rw[hi];simp only[GMw,Ai,hge,w1,A4 hj,AF,zXh,w2,w3,nB 0,OI xM,w4,w5,hidx,hst,and_true,eq_self,Is xM,w6,w7];exact this
def Lr (n:Nat):List UInt8:=if h:n<10 then [UInt8.ofNat (48+n)]else Lr (n / 10)++[UInt8.ofNat (48+n%10)]
termination_by n
decreasing_by omega
def decZ (z:Int):List UInt8:=if z<0 then 45::Lr z.natAbs else Lr z.natAbs
theorem decN_log:∀(k n:Nat),n<10^(k+1)->(Lr n).length<=k+1:=by
 intro k
 induction k with
 | zero=>intro n h;unfold Lr;rw[dif_pos (by omega)];simp
 | succ k ih=>
  intro n h;unfold Lr;split
  ·simp
  ·have h2:n / 10<10^(k+1):=by
    rw[Wd (by omega),<-Nat.pow_succ];exact h
   have:=ih (n / 10) h2;simp;omega
theorem U6 (k n:Nat)(h:n<10^k):(Lr n).length<=k+(if k=0 then 1 else 0):=by
 cases k with
 | zero=>have:=decN_log 0 n (by omega);simpa using this
 | succ k=>have:=decN_log k n h;simpa using this
theorem digit_u8 {d:Nat}(h:d<10):AA .u8 (.int .u32 (IntKind.u32.wrap (48+(d:Int))))=some (.int .u8 ((UInt8.ofNat (48+d)).toNat:Int)):=by
 rw[Bl,CP (by omega) (by omega),NK (by omega) (by omega),UInt8.toNat_ofNat_of_lt' (show 48+d<256 by omega)]
 rfl
theorem pow10_32 (k:Nat):10^k<=4294967296^k:=Nat.pow_le_pow_left (by omega) k
theorem Sc {n:Nat}(h:n<10^4096):(A6 n).length<=4096:=Fe (VL h (pow10_32 4096))
theorem q03_text (z:Int)(H:Aa)(hz:z.natAbs<10^4096):Sh.f3i (big z) H=some (.ret (.str (decZ z)),H):=by
 unfold Sh.f3i;have g0:Ad false 1 (.ptr H.length 0 0) (H++[Blk.cel 0 (A3 z)])=some (.bool (decide (z<0))):=by simp only[Ad,A1 Ap,zXa];rfl
 have g1:Ad false 1 (.ptr H.length 0 1) (H++[Blk.cel 0 (A3 z)])=some (.sl (enL cU (A6 z.natAbs)) .no):=by simp only[Ad,A1 Ap,zXa];rfl
 simp only[GMw,DO,Ah,UJ,g1];have mR:∀n:Nat,n<10^4096->(Lr n).length<=4096:=λn h=>U6 4096 n h;have key:=AZ (G:=λrec1 vs H1=>Sh.f7z H rec1 (ag vs 0) (ag vs 1) (ag vs 2) H1) (σ:=Nat×List UInt8) (λs=>s.1<10^4096/\s.2.length+(Lr s.1).length<=5000)
  (λs=>[.ptr H.length 0 0,.str s.2,.sl (enL cU (A6 s.1)) .no]) (λ_=>H++[.cel 0 (A3 z)]) (λs=>(Lr s.1).length)
  (λs=>some (.ret (.str ((if z<0 then [45]else [])++Lr s.1++s.2)),H)) (λs rec hs hrec=>?_) (z.natAbs,[]) ⟨hz,by have:=mR _ hz;simp;omega⟩ (by have:=mR _ hz;dsimp only;omega)
 ·refine key.trans ?_;unfold decZ;dsimp only;split <;> simp
 ·obtain⟨n,s⟩:=s;obtain⟨h1,h2⟩:=hs;simp only at h1 h2 hrec ⊢;have sE:=λH=>q01_div (A6 n) .no 10 H (by have:=Sc h1;omega) (Br n) (by omega) (by omega);simp only[B2,show ((10:Nat):Int)=10 from rfl]at sE;have hd:n%10<10:=Ws _ (by omega);have vZ:=digit_u8 hd;unfold Sh.f7z;simp only[GMw,Ai,sE,Bt,Bz,vZ,build_Y,TC];rw[Dh (by simp;omega)];simp only[GMw,Ay];by_cases hn:n<10
  ·have h0:n / 10=0:=by omega
   have hm:n%10=n:=by omega
   have jG:Lr n=[UInt8.ofNat (48+n)]:=by unfold Lr;rw[dif_pos hn]
   rw[jG,h0,DX,hm];simp only[GMw,zXk,show ((0:Nat):Int)=0 from rfl,Ah,Nat.add_zero,g0];by_cases mG:z<0
   ·simp only[mG,GMw];rw[Dh (by simp;omega)];simp only[GMw,rP_str];simp
   ·simp only[mG,GMw,rP_str];simp
  ·have h0:n / 10≠0:=by omega
   have hne:¬((A6 (n / 10)).length:Int)=0:=by
    have:=Vq.2 (Oj h0);omega
   have jG:Lr n=Lr (n / 10)++[UInt8.ofNat (48+n%10)]:=by
    conv=>lhs;unfold Lr
    rw[dif_neg hn]
   have hlen:(Lr n).length=(Lr (n / 10)).length+1:=by rw[jG];simp
   have:=hrec (n / 10,[UInt8.ofNat (48+n%10)]++s) ⟨V8 (Nat.div_le_self _ _) h1,by simp;omega⟩ (by dsimp only;omega);simp only[hne,GMw];rw[this,jG];simp
def qa (v:Nat)(x:Int)(k:Nat):Int:=if k%2=1 then x+2^(v-1)else x
def qb (v:Nat)(y:Int)(k:Nat):Int:=if 1<k then y+2^(v-1)else y
def inQ (v:Nat)(a b:Int)(c:Cl):Bool:=decide (a<=c.x)&&decide (c.x<a+2^(v-1))&&decide (b<=c.y)&&decide (c.y<b+2^(v-1))
def EI (v:Nat)(x y:Int)(k:Nat)(l:List Cl):List Cl:=l.filter (inQ v (qa v x k) (qb v y k))
def headS:List Cl->Int
 | []=>0
 | c::_=>(c.s.toNat:Int)
def plK (rec:List Nd->Int->Int->List Cl->List Nd×Nat)(v:Nat)(x y:Int)(l:List Cl):Nat->List Nd->List Nd×Nd
 | 0,out=>(out,⟨v,0,0,0,0⟩)
 | k+1,out=>
  if v=1 then ((plK rec v x y l k out).1,(plK rec v x y l k out).2.setKid k (headS (EI v x y k l)))
  else ((rec (plK rec v x y l k out).1 (qa v x k) (qb v y k) (EI v x y k l)).1,(plK rec v x y l k out).2.setKid k ((rec (plK rec v x y l k out).1 (qa v x k) (qb v y k) (EI v x y k l)).2:Int))
def Bm:Nat->List Nd->Int->Int->List Cl->List Nd×Nat
 | 0,out,_,_,_=>(out,0)
 | v+1,out,x,y,l=>if l=[]then (out,0)else ((plK (Bm v) (v+1) x y l 4 out).1++[(plK (Bm v) (v+1) x y l 4 out).2],(plK (Bm v) (v+1) x y l 4 out).1.length+1)
def Ma (v:Nat)(x y:Int)(l:List Cl):Nat->Nat
 | 0=>0
 | k+1=>Ma v x y l k+(EI v x y k l).length
theorem pow_half (v:Nat):(0:Int)<2^(v-1):=WG (by omega)
theorem Ra (v:Nat)(x y:Int):∀l:List Cl,Ma v x y l 4<=l.length
 | []=>by simp[Ma,EI]
 | c::l=>by
  have ih:=Ra v x y l;have gF:∀(p:Bool) (m:List Cl),(if p=true then c::m else m).length=(if p=true then 1 else 0)+m.length:=λp m=>by cases p <;> simp <;> omega
  simp only[Ma,EI,VA,qa,qb,gF]at ih ⊢;simp only[show (0:Nat)%2=0 from rfl,show (1:Nat)%2=1 from rfl,show (2:Nat)%2=0 from rfl,show (3:Nat)%2=1 from rfl,show ¬(1:Nat)<0 from by omega,show ¬(1:Nat)<1 from by omega,show (1:Nat)<2 from by omega,show (1:Nat)<3 from by omega,if_true,if_false,show ¬(0:Nat)=1 from by omega]at ih ⊢;have key:(if inQ v x y c then 1 else 0)+(if inQ v (x+2^(v-1)) y c then 1 else 0)+(if inQ v x (y+2^(v-1)) c then 1 else 0)+(if inQ v (x+2^(v-1)) (y+2^(v-1)) c then 1 else 0)<=1:=by
   unfold inQ;have hp:=pow_half v;generalize (2:Int)^(v-1)=h at hp;simp only[UU,zXe];split <;> split <;> split <;> split <;> first | omega | (exfalso;omega)
  simp only[zXj];omega
theorem cntQ_mono (v:Nat)(x y:Int)(l:List Cl){k:Nat}(h:k<=4):Ma v x y l k<=l.length:=by
 have h4:=Ra v x y l
 match k,h with
 | 0,_=>simp[Ma]
 | 1,_=>simp only[Ma]at h4 ⊢;omega
 | 2,_=>simp only[Ma]at h4 ⊢;omega
 | 3,_=>simp only[Ma]at h4 ⊢;omega
 | 4,_=>exact h4

mutual
theorem TZ:∀(v:Nat) (out:List Nd) (x y:Int) (l:List Cl),(Bm v out x y l).1.length<=out.length+l.length*v
 | 0,out,x,y,l=>by simp[Bm]
 | v+1,out,x,y,l=>by
  unfold Bm;split
  ·simp
  ·rename_i hl;have h:=QJ v out x y l 4 (UK _);have hc:=Ra (v+1) x y l;have hpos:0<l.length:=Vq.2 hl;have:Ma (v+1) x y l 4*v<=l.length*v:=Vw _ hc;have e:l.length*(v+1)=l.length*v+l.length:=Nat.mul_succ _ _;simp only[UO,zXi];omega
theorem QJ:∀(v:Nat) (out:List Nd) (x y:Int) (l:List Cl) (k:Nat),k<=4->(plK (Bm v) (v+1) x y l k out).1.length<=out.length+Ma (v+1) x y l k*v
 | v,out,x,y,l,0,_=>by simp[plK,Ma]
 | v,out,x,y,l,k+1,h=>by
  have ih:=QJ v out x y l k (by omega);unfold plK Ma;rw[V4];split
  ·dsimp only;omega
  ·have:=TZ v (plK (Bm v) (v+1) x y l k out).1 (qa (v+1) x k) (qb (v+1) y k) (EI (v+1) x y k l);dsimp only;omega

end
def PS (b:Nat)(out:List Nd)(v:Ab)(H:Aa):Prop:=(out=[]/\v=.sl [] .ti)\/∃t,b<=t/\v=.sl (enL cNd out) (.own t)/\H[t]? = some (.tok out.length AK 5)
structure Kp (b:Nat)(H H':Aa):Prop where
 len:H.length<=H'.length
 cel:∀(i:Nat) (cs:List Ab),H[i]? = some (.cel 0 cs)->H'[i]? = some (.cel 0 cs)
 old:∀i,i<b->H'[i]? = H[i]?
theorem Kp.refl (b:Nat)(H:Aa):Kp b H H:=⟨UK _,λ_ _ h=>h,λ_ _=>rfl⟩
theorem Kp.trans {b:Nat}{H H1 H2:Aa}(h:Kp b H H1)(h':Kp b H1 H2):Kp b H H2:=
 ⟨Vf h.len h'.len,λi cs hc=>h'.cel i cs (h.cel i cs hc),λi hi=>(h'.old i hi).trans (h.old i hi)⟩
theorem Kp.app {b:Nat}{H:Aa}(hb:b<=H.length)(G:Aa):Kp b H (H++G):=
 ⟨by simp,λi cs h=>A0 h,λi hi=>by rw[UL (by omega)]⟩
theorem PS.sl {b:Nat}{out:List Nd}{v:Ab}{H:Aa}(h:PS b out v H):∃tk,v=.sl (enL cNd out) tk:=by
 rcases h with ⟨rfl,rfl⟩ | ⟨t,_,rfl,_⟩
 ·exact⟨_,rfl⟩
 ·exact⟨_,rfl⟩
theorem PS.left {b:Nat}{out:List Nd}{v:Ab}{H:Aa}(h:PS b out v H)(G:Aa):PS b out v (H++G):=by
 rcases h with h1 | ⟨t,h1,h2,h3⟩
 ·exact .inl h1
 ·exact .inr ⟨t,h1,h2,A0 h3⟩
theorem PS.put {b p:Nat}{out:List Nd}{v:Ab}{H:Aa}{c c':List Ab}(h:PS b out v H)(hp:H[p]? = some (.cel 0 c)):PS b out v (H.set p (.cel 0 c')):=by
 rcases h with h1 | ⟨t,h1,h2,h3⟩
 ·exact .inl h1
 ·refine .inr ⟨t,h1,h2,?_⟩;have:p≠t:=λe=>by rw[<-e,hp]at h3;cases h3
  rw[UI this];exact h3
theorem PS.snoc {b:Nat}{out:List Nd}{v:Ab}{H:Aa}(h:PS b out v H)(hb:b<=H.length)(x:Nd)(hl:out.length<3518437208883) :
  ∃v' H',AP AK 5 40 v (.sl (enL cNd [x]) .ti) H=some (v',H')/\PS b (out++[x]) v' H'/\Kp b H H':=by
 rcases h with ⟨rfl,rfl⟩ | ⟨t,h1,rfl,h3⟩
 ·have:=CX (f:=cNd) (l:=[]) (m:=[x]) (ty:=AK) (bytes:=40) (tk:=.ti) (H:=H) (by simp) (by simp) (by simp);exact⟨_,_,this,.inr ⟨H.length,hb,rfl,by simp⟩,Kp.app hb _⟩
 ·have:=Fs (f:=cNd) (l:=out) (m:=[x]) (ty:=AK) (bytes:=40) (tk:=.ti) (H:=H) (t:=t) (by simp) h3 (by simp;omega) (by simp;omega);have iT:=(UH.1 h3).1;refine⟨_,_,this,.inr ⟨t,h1,rfl,by simp[iT]⟩,⟨by simp,λi cs hc=>?_,λi hi=>?_⟩⟩
  ·have:t≠i:=λe=>by rw[<-e,h3]at hc;cases hc
   rw[UI this];exact hc
  ·rw[UI (by omega)]
def TOPk (k:Nat):Nat:=2^k
def TOP:Nat:=TOPk 1400
theorem topk_lt {k m:Nat}(h:k<32*m):TOPk k<4294967296^m:=pow32_lt h
theorem topk_ge {v k:Nat}(h:v<=k):2^v<=TOPk k:=pow2_le h
theorem top_lt:TOP<4294967296^44:=topk_lt (by decide)
theorem top_ge {v:Nat}(h:v<=1400):2^v<=TOP:=topk_ge h
def Cn (v:Nat)(z:Int):Prop:=z.natAbs+2^v<=TOP
theorem IR (v:Nat):((2:Int)^v).natAbs=2^v:=by rw[Xz];rfl
theorem Cn.sb {v:Nat}{z:Int}(h:Cn v z):SB 44 z:=by
 exact V8 (Vf (Nat.le_add_right _ _) h) top_lt
theorem Cn.add {v:Nat}{z:Int}(h:Cn (v+1) z):Cn v (z+2^v)/\Cn v z:=by
 unfold Cn at *;have e:(2:Nat)^(v+1)=2^v*2:=Nat.pow_succ _ _;have h1:=XA z (2^v);rw[IR]at h1;omega
theorem EO {v:Nat}(h:v<=1400):SB 44 (2^v):=by
 unfold SB;rw[IR];exact V8 (top_ge h) top_lt
theorem Cn.sb1 {v:Nat}{z:Int}(h:Cn (v+1) z):SB 44 (z+2^v)/\SB 44 (z+2^v+2^v):=by
 refine⟨h.add.1.sb,?_⟩;unfold Cn at h;have e:(2:Nat)^(v+1)=2^v*2:=Nat.pow_succ _ _;have h1:=XA z (2^v);have h2:=XA (z+2^v) (2^v);rw[IR]at h1 h2;exact V8 (show (z+2^v+2^v).natAbs<=TOP by omega) top_lt
section
variable {Hc:Aa}{a c:List Ab}{z:Int}
theorem st0 (ha:a.length=2):Ae 2 (.ptr Hc.length 0 0) (big z) (Hc++[Blk.cel 0 a]++[Blk.cel 0 c])=some (Hc++[Blk.cel 0 (A3 z)]++[Blk.cel 0 c]):=by
 rw[BU (cs:=a) (by simp) ha];simp
theorem st1 (hc:c.length=2):Ae 2 (.ptr (Hc.length+1) 0 0) (big z) (Hc++[Blk.cel 0 a]++[Blk.cel 0 c])=some (Hc++[Blk.cel 0 a]++[Blk.cel 0 (A3 z)]):=by
 rw[BU (cs:=c) (by simp) hc];simp

end
theorem place_gather (H:Aa)(self:Ab->Ab->Ab->Ab->Ab->Aa->Out)(j2:LK)(v:Nat)(hv:v<=1329)(w:Ab)(l:List Cl)(tk:Tok)(p6 p8 p15 p20 p45 p47 k:Nat)(B:Aa)(qa qb:Int)(out:Out)
  (hl:l.length<549755813888)(hok:∀c∈l,c.ok)(h15:B[p15]? = some (.cel 0 (A3 (2^(v-1)))))(pO:B[p45]? = some (.cel 0 (A3 qa)))(Ym:B[p47]? = some (.cel 0 (A3 qb)))
  (ca:SB 44 qa/\SB 44 (qa+2^(v-1)))(cb:SB 44 qb/\SB 44 (qb+2^(v-1)))
  (fin:∀dQ:LK,Sh.f17 H self j2 dQ w (.i6 (v:Int)) (.sl (enL cCl l) tk) (.ptr p6 0 0) (.ptr p8 0 0) (.ptr p15 0 0) (.ptr p20 0 0) (.i6 (k:Int)) (.ptr p45 0 0) (.ptr p47 0 0) (DD cCl B (l.filter (inQ v qa qb))) (.i6 (l.length:Int)) (DC cCl A8 5 B (l.filter (inQ v qa qb)))=out) :
  Sh.f6r H self j2 w (.i6 (v:Int)) (.sl (enL cCl l) tk) (.ptr p6 0 0) (.ptr p8 0 0) (.ptr p15 0 0) (.ptr p20 0 0) (.i6 (k:Int)) (.ptr p45 0 0) (.ptr p47 0 0) B=out:=by
 unfold Sh.f6r;refine Cj (G:=λdQ vs H1=>Sh.f17 H self j2 dQ (ag vs 0) (ag vs 1) (ag vs 2) (ag vs 3) (ag vs 4) (ag vs 5) (ag vs 6) (ag vs 7) (ag vs 8) (ag vs 9) (ag vs 10) (ag vs 11) H1) l.length
  (λi=>[w,.i6 (v:Int),.sl (enL cCl l) tk,.ptr p6 0 0,.ptr p8 0 0,.ptr p15 0 0,.ptr p20 0 0,.i6 (k:Int),.ptr p45 0 0,.ptr p47 0 0,DD cCl B ((l.take i).filter (inQ v qa qb)),.i6 (i:Int)]) (λi=>DC cCl A8 5 B ((l.take i).filter (inQ v qa qb))) _ (by omega) (λrec i hi=>?_) (λrec=>?_)
 ·have aF:(i:Int)<(l.length:Int):=by omega
  have aM:=As (show i<9223372036854775807 by omega);have sI:=hok _ (UV hi);rw[UR hi,Vz];have dG:((l.take i).filter (inQ v qa qb)).length<=i:=Vf (We _ _) (by simp;omega);generalize ((l.take i).filter (inQ v qa qb))=fo at dG;obtain⟨G,hG⟩:=FV (f:=cCl) (ty:=A8) (sz:=5) B fo;have t15:=AS (A0 (G:=G) h15);have t45:=AS (A0 (G:=G) pO);have t47:=AS (A0 (G:=G) Ym);have ha:=Du (f:=cCl) (ty:=A8) (bytes:=72) (tk:=.ti) (B:=B) (l:=fo) (m:=[l[i]]) (by simp) (by simp;omega) (by simp;omega);rw[hG]at ha ⊢;have hp:SB 44 (2^(v-1)):=EO (by omega);have cx:=λH z (hz:SB 44 z)=>Fb l[i].x z H (sI.1.lb (by decide)) (hz.lb (by decide));have cy:=λH z (hz:SB 44 z)=>Fb l[i].y z H (sI.2.lb (by decide)) (hz.lb (by decide));have ad:=λH z (hz:SB 44 z)=>FJ z (2^(v-1)) H (hz.lb (by decide)) (hp.lb (by decide));generalize hc:l[i]=cl at sI cx cy ha;unfold Sh.f17;have hidx:=A4 (f:=cCl) (tk:=tk) (K:=.i64) hi;rw[hc]at hidx;have e0:∀(s:Bool),inQ v qa qb cl=s->(if s then [cl]else [])=[cl].filter (inQ v qa qb):=λs h=>by subst h;simp[VA]
  simp only[GMw,Ai,Ay,aF,hidx,Au,UJ,QP,QO,t15,t45,t47,cx _ _ ca.1,FY,Sh.f1o,aM];cases h1:decide (qa<=cl.x)with
  | false=>
   rw[<-e0 false (by simp[inQ,h1])];simp only[GMw,Ai,Ou,and_true,eq_self,Sh.f1o,aM,Vl,hG]
  | true=>
   simp only[GMw,Ai,QR,and_true,eq_self,t15,t45,t47,ad _ _ ca.1,hidx,Au,UJ,QP,QO,cx _ _ ca.2,FX];cases h2:decide (cl.x<qa+2^(v-1))with
   | false=>
    rw[<-e0 false (by simp[inQ,h2])];simp only[GMw,Ai,Ou,and_true,eq_self,Sh.f1o,aM,Vl,hG]
   | true=>
    simp only[GMw,Ai,QR,and_true,eq_self,t15,t45,t47,hidx,Au,UJ,QP,QO,cy _ _ cb.1,FY];cases h3:decide (qb<=cl.y)with
    | false=>
     rw[<-e0 false (by simp[inQ,h3])];simp only[GMw,Ai,Ou,and_true,eq_self,Sh.f1o,aM,Vl,hG]
    | true=>
     simp only[GMw,Ai,QR,and_true,eq_self,t15,t45,t47,ad _ _ cb.1,hidx,Au,UJ,QP,QO,cy _ _ cb.2,FX];cases h4:decide (cl.y<qb+2^(v-1))with
     | false=>
      rw[<-e0 false (by simp[inQ,h4])];simp only[GMw,Ai,Sh.f1o,aM,Vl,hG]
     | true=>
      rw[<-e0 true (by unfold inQ;rw[h1,h2,h3,h4];rfl)];simp only[GMw,Ai,hidx,Oh,My,ha,Sh.f1o,aM]
 ·rw[US (UK _)];exact fin rec
theorem quartL_mem {v:Nat}{x y:Int}{k:Nat}{l:List Cl}{c:Cl}(h:c∈EI v x y k l):c∈l:=(Wz.1 h).1
theorem quartL_len (v:Nat)(x y:Int)(k:Nat)(l:List Cl):(EI v x y k l).length<=l.length:=We _ _
def PlOk (b n:Nat)(self:Ab->Ab->Ab->Ab->Ab->Aa->Out):Prop:=
 ∀(out:List Nd) (w:Ab) (x y:Int) (l:List Cl) (tk:Tok) (H:Aa),PS b out w H->b<=H.length->(∀c∈l,c.ok)->Cn n x->Cn n y->l.length<549755813888->out.length+l.length*n<3518437208883 ->
  ∃H' w',self w (.i6 (n:Int)) (big x) (big y) (.sl (enL cCl l) tk) H=some (.ret (.tup [w',.i6 ((Bm n out x y l).2:Int)]),H')/\PS b (Bm n out x y l).1 w' H'/\Kp b H H'
theorem qa_c {n:Nat}{x:Int}(h:Cn (n+1) x)(k:Nat):Cn n (qa (n+1) x k)/\SB 44 (qa (n+1) x k)/\SB 44 (qa (n+1) x k+2^(n+1-1)):=by
 unfold qa;rw[Vm];split
 ·exact⟨h.add.1,h.sb1.1,h.sb1.2⟩
 ·exact⟨h.add.2,h.sb,h.sb1.1⟩
theorem qb_c {n:Nat}{y:Int}(h:Cn (n+1) y)(k:Nat):Cn n (qb (n+1) y k)/\SB 44 (qb (n+1) y k)/\SB 44 (qb (n+1) y k+2^(n+1-1)):=by
 unfold qb;rw[Vm];split
 ·exact⟨h.add.1,h.sb1.1,h.sb1.2⟩
 ·exact⟨h.add.2,h.sb,h.sb1.1⟩
theorem place_turn {b n:Nat}{self:Ab->Ab->Ab->Ab->Ab->Aa->Out}(cD:n=0\/PlOk b n self)(hn:n+1<=1329)(H Hc:Aa)(out:List Nd)(w:Ab)(x y:Int)(l:List Cl)(tk:Tok)(p6 p8 p15 p20 k:Nat)(hk:k<4)(hb:b<=H.length)(h20:H.length<=p20)
  (hok:∀c∈l,c.ok)(cnx:Cn (n+1) x)(cny:Cn (n+1) y)(hl:l.length<549755813888)(hlen:out.length+l.length*(n+1)<3518437208883)
  (hPS:PS b (plK (Bm n) (n+1) x y l k out).1 w Hc)(f6:Hc[p6]? = some (.cel 0 (A3 x)))(f8:Hc[p8]? = some (.cel 0 (A3 y)))(f15:Hc[p15]? = some (.cel 0 (A3 (2^(n+1-1)))))(f20:Hc[p20]? = some (.cel 0 (cNd (plK (Bm n) (n+1) x y l k out).2)))(hKp:Kp b H Hc)(d6:p6≠p20)(d8:p8≠p20)(d15:p15≠p20) :
  ∃w' Hd,(∀rec:LK,Sh.f3o H self rec w (.i6 ((n+1:Nat):Int)) (.sl (enL cCl l) tk) (.ptr p6 0 0) (.ptr p8 0 0) (.ptr p15 0 0) (.ptr p20 0 0) (.i6 (k:Int)) Hc=rec [w',.i6 ((n+1:Nat):Int),.sl (enL cCl l) tk,.ptr p6 0 0,.ptr p8 0 0,.ptr p15 0 0,.ptr p20 0 0,.i6 ((k+1:Nat):Int)] Hd) /\
   PS b (plK (Bm n) (n+1) x y l (k+1) out).1 w' Hd/\Hd[p6]? = some (.cel 0 (A3 x))/\Hd[p8]? = some (.cel 0 (A3 y))/\Hd[p15]? = some (.cel 0 (A3 (2^(n+1-1))))/\Hd[p20]? = some (.cel 0 (cNd (plK (Bm n) (n+1) x y l (k+1) out).2))/\Kp b H Hd:=by
 have hk':(k:Int)<4:=by omega
 have aM:=As (show k<9223372036854775807 by omega);have hp:SB 44 (2^(n+1-1)):=EO (by omega);have nQ:(k:Int).tmod 2=((k%2:Nat):Int):=rfl;have hra:decide (((k%2:Nat):Int)=1)=decide (k%2=1):=by rw[Va];simp;omega
 have tD:decide ((k:Int)>1)=decide (1<k):=by rw[Va];simp only[zXe];omega
 have adx:=λH=>FJ x (2^(n+1-1)) H (cnx.sb.lb (by decide)) (hp.lb (by decide));have ady:=λH=>FJ y (2^(n+1-1)) H (cny.sb.lb (by decide)) (hp.lb (by decide));obtain⟨ca1,ca2⟩:=qa_c cnx k;obtain⟨cb1,cb2⟩:=qb_c cny k;have start:∀(j2:LK) (O:Out),Sh.f6r H self j2 w (.i6 ((n+1:Nat):Int)) (.sl (enL cCl l) tk) (.ptr p6 0 0) (.ptr p8 0 0) (.ptr p15 0 0) (.ptr p20 0 0) (.i6 (k:Int)) (.ptr Hc.length 0 0) (.ptr (Hc.length+1) 0 0) (Hc++[Blk.cel 0 (A3 (qa (n+1) x k))]++[Blk.cel 0 (A3 (qb (n+1) y k))])=O ->
   (bC (Ad true 2 (.ptr p6 0 0) Hc) (λ_=>True) λx44=>
    Al (Ax (some [(.bool false),(.sl [] .ti)]) Hc) λx45 H46=>
    Al (Ax (some [(.bool false),(.sl [] .ti)]) H46) λx47 H48=>
    AN (Av (Ae 2 x45 x44 H48)) λ_ H50=>
    bC (Ad true 2 (.ptr p8 0 0) H50) (λx51=>Ad true 2 (.ptr p8 0 0) Hc=some x51/\True) λx51=>
    bK H (Av (Ae 2 x47 x51 H50)) λ_ H53=>
    AI (λj3=>
    (Af .none .rem (.i6 (k:Int)) (.i6 2)).bind λx197=>
    (Af .none .eql x197 (.i6 1)).bind λx198=>
    Ak x198 (
    (Ad true 2 (.ptr p6 0 0) H53).bind λx199=>
    (Ad true 2 (.ptr p15 0 0) H53).bind λx200=>
    bK H (Sh.f0 x199 x200 H53) λx201 H202=>
    bK H (Av (Ae 2 x45 x201 H202)) λ_ H204=>
    j3 [w,(.i6 ((n+1:Nat):Int)),(.sl (enL cCl l) tk),(.ptr p6 0 0),(.ptr p8 0 0),(.ptr p15 0 0),(.ptr p20 0 0),(.i6 (k:Int)),x45,x47] H204) (
    j3 [w,(.i6 ((n+1:Nat):Int)),(.sl (enL cCl l) tk),(.ptr p6 0 0),(.ptr p8 0 0),(.ptr p15 0 0),(.ptr p20 0 0),(.i6 (k:Int)),x45,x47] H53)) (λvs H1=>Sh.f29 H self j2 (ag vs 0) (ag vs 1) (ag vs 2) (ag vs 3) (ag vs 4) (ag vs 5) (ag vs 6) (ag vs 7) (ag vs 8) (ag vs 9) H1))=O:=by
  intro j2 O hO;have l1:(Hc++[Blk.cel 0 [Ab.bool false,.sl [] .ti]]).length=Hc.length+1:=by simp
  have g6:=λ(G G':Aa)=>AS (A0 (G:=G') (A0 (G:=G) f6));have g8:=λ(G G':Aa)=>AS (A0 (G:=G') (A0 (G:=G) f8));have g15:=λ(G G':Aa)=>AS (A0 (G:=G') (A0 (G:=G) f15));have s0:=λ(z:Int) (c:List Ab)=>st0 (Hc:=Hc) (a:=[.bool false,.sl [] .ti]) (c:=c) (z:=z) rfl;have s0':=λ(z z':Int) (c:List Ab)=>st0 (Hc:=Hc) (a:=A3 z') (c:=c) (z:=z) rfl;have s1:=λ(z:Int) (a:List Ab)=>st1 (Hc:=Hc) (a:=a) (c:=[.bool false,.sl [] .ti]) (z:=z) rfl;have s1':=λ(z z':Int) (a:List Ab)=>st1 (Hc:=Hc) (a:=a) (c:=A3 z') (z:=z) rfl;simp only[GMw,Ai,AS f6,CL,l1,s0,g8,AS f8,and_true,eq_self,s1,Is (show (2:Int)≠0 by decide),nQ,hra];unfold qa qb at hO;by_cases lW:k%2=1
  ·rw[if_pos lW]at hO;by_cases hkb:1<k
   ·rw[if_pos hkb]at hO;simp only[GMw,Ai,lW,g6,g15,adx,s0',Sh.f29,tD,hkb,g8,ady,s1'];exact hO
   ·rw[if_neg hkb]at hO;simp only[GMw,Ai,lW,g6,g15,adx,s0',Sh.f29,tD,hkb];exact hO
  ·rw[if_neg lW]at hO;by_cases hkb:1<k
   ·rw[if_pos hkb]at hO;simp only[GMw,Ai,lW,Sh.f29,tD,hkb,g8,g15,ady,s1'];exact hO
   ·rw[if_neg hkb]at hO;simp only[GMw,Ai,lW,Sh.f29,tD,hkb];exact hO
 generalize hB:Hc++[Blk.cel 0 (A3 (qa (n+1) x k))]++[Blk.cel 0 (A3 (qb (n+1) y k))]=B at start;have b6:B[p6]? = some (.cel 0 (A3 x)):=by rw[<-hB];exact A0 (A0 f6)
 have b8:B[p8]? = some (.cel 0 (A3 y)):=by rw[<-hB];exact A0 (A0 f8)
 have b15:B[p15]? = some (.cel 0 (A3 (2^(n+1-1)))):=by rw[<-hB];exact A0 (A0 f15)
 have b20:B[p20]? = some (.cel 0 (cNd (plK (Bm n) (n+1) x y l k out).2)):=by rw[<-hB];exact A0 (A0 f20)
 have b45:B[Hc.length]? = some (.cel 0 (A3 (qa (n+1) x k))):=by rw[<-hB];simp
 have b47:B[Hc.length+1]? = some (.cel 0 (A3 (qb (n+1) y k))):=by rw[<-hB];simp
 have bPS:PS b (plK (Bm n) (n+1) x y l k out).1 w B:=by rw[<-hB];exact (hPS.left _).left _
 have bKp:Kp b H B:=by rw[<-hB,UP];exact hKp.trans (Kp.app (Vf hb hKp.len) _)
 have cX:=cntQ_mono (n+1) x y l (show k+1<=4 by omega);have aW:=QJ n out x y l k (by omega);have dM:Ma (n+1) x y l (k+1)*n<=l.length*n:=Vw _ cX;rw[show Ma (n+1) x y l (k+1)*n=Ma (n+1) x y l k*n+(EI (n+1) x y k l).length*n from by rw[<-V4];rfl]at dM;have qR:l.length*(n+1)=l.length*n+l.length:=Nat.mul_succ _ _;obtain⟨G,hG⟩:=FV (f:=cCl) (ty:=A8) (sz:=5) B (EI (n+1) x y k l);have iP:∀i,l.filter (inQ (n+1) (qa (n+1) x i) (qb (n+1) y i))=EI (n+1) x y i l:=λi=>rfl;suffices hs:∃w' Hd,(∀(rec dQ:LK),Sh.f17 H self (λvs H1=>Sh.f3n H rec (ag vs 0) (ag vs 1) (ag vs 2) (ag vs 3) (ag vs 4) (ag vs 5) (ag vs 6) (ag vs 7) H1) dQ w (.i6 ((n+1:Nat):Int)) (.sl (enL cCl l) tk) (.ptr p6 0 0) (.ptr p8 0 0) (.ptr p15 0 0) (.ptr p20 0 0) (.i6 (k:Int)) (.ptr Hc.length 0 0) (.ptr (Hc.length+1) 0 0) (DD cCl B (EI (n+1) x y k l)) (.i6 (l.length:Int)) (B++G)=rec [w',.i6 ((n+1:Nat):Int),.sl (enL cCl l) tk,.ptr p6 0 0,.ptr p8 0 0,.ptr p15 0 0,.ptr p20 0 0,.i6 ((k+1:Nat):Int)] Hd) /\
   PS b (plK (Bm n) (n+1) x y l (k+1) out).1 w' Hd/\Hd[p6]? = some (.cel 0 (A3 x))/\Hd[p8]? = some (.cel 0 (A3 y))/\Hd[p15]? = some (.cel 0 (A3 (2^(n+1-1))))/\Hd[p20]? = some (.cel 0 (cNd (plK (Bm n) (n+1) x y l (k+1) out).2))/\Kp b H Hd by
  obtain⟨w',Hd,q1,q2⟩:=hs;refine⟨w',Hd,λrec=>?_,q2⟩;unfold Sh.f3o;simp only[Bq,BL,hk',decide_true,AU];rw[show ∀(f:LK->Out) (j:LK),AI f j=f j from λ_ _=>rfl];refine start _ _ (place_gather H self _ (n+1) hn w l tk p6 p8 p15 p20 Hc.length (Hc.length+1) k B _ _ _ hl hok b15 b45 b47 ca2 cb2 λdQ=>?_);rw[iP,hG];exact q1 rec dQ
 generalize hq:EI (n+1) x y k l=q at hG dM;have zG:∀c∈q,c.ok:=λc hc=>hok c (by rw[<-hq]at hc;exact quartL_mem hc);have hql:q.length<=l.length:=by rw[<-hq];exact quartL_len _ _ _ _ _
 have t6:=A0 (G:=G) b6;have t8:=A0 (G:=G) b8;have t15:=A0 (G:=G) b15;have t20:=A0 (G:=G) b20;have t45:=A0 (G:=G) b45;have t47:=A0 (G:=G) b47;have tPS:=bPS.left G;have tKp:Kp b H (B++G):=bKp.trans (Kp.app (Vf hb bKp.len) G);have hlast:¬((l.length:Int)<(l.length:Int)):=by omega
 generalize hT:B++G=T at t6 t8 t15 t20 t45 t47 tPS tKp;have wT:=(UH.1 t20).1;rcases WC n with eB | eB
 ·subst eB;have cE:¬(((0+1:Nat):Int)>1):=by decide
  have iL:(((0+1:Nat):Int)=1):=rfl;have mQ:¬((1:Int)>1):=by decide
  have uS:plK (Bm 0) (0+1) x y l (k+1) out=((plK (Bm 0) (0+1) x y l k out).1,(plK (Bm 0) (0+1) x y l k out).2.setKid k (headS q)):=by
   conv=>lhs;unfold plK
   rw[if_pos rfl,hq]
  rw[uS];cases q with
  | nil=>
   refine⟨w,T,λrec dQ=>?_,tPS,t6,t8,t15,?_,tKp⟩
   ·unfold Sh.f17;simp only[GMw,Ai,Ay,hlast,Sh.f6q,cE,iL,mQ,show DD cCl B []=.sl [] .ti from rfl,show A7 (.sl [] .ti)=some (.i6 0) from rfl,show ¬((0:Int)>0) from by decide,Sh.f3n,aM]
   ·rw[t20];have:(plK (Bm 0) (0+1) x y l k out).2.setKid k (headS [])=(plK (Bm 0) (0+1) x y l k out).2:=by
     have hz:(plK (Bm 0) (0+1) x y l k out).2.kid k=0:=by
      have:∀j,j<=k->(plK (Bm 0) (0+1) x y l j out).2.kid k=0:=by
       intro j
       induction j with
       | zero=>
        intro _;unfold plK Nd.kid;dsimp only;split <;> rfl
       | succ j ihj=>
        intro hj
        conv=>lhs;unfold plK
        rw[if_pos rfl];dsimp only;rw[G0 _ _ (by omega) hk (by omega)];exact ihj (by omega)
      exact this k (UK _)
     generalize (plK (Bm 0) (0+1) x y l k out).2=nd at hz;obtain⟨lv,k0,k1,k2,k3⟩:=nd
     match k,hk,hz with
     | 0,_,hz=>simp only[Nd.kid]at hz;subst hz;rfl
     | 1,_,hz=>simp only[Nd.kid]at hz;subst hz;rfl
     | 2,_,hz=>simp only[Nd.kid]at hz;subst hz;rfl
     | 3,_,hz=>simp only[Nd.kid]at hz;subst hz;rfl
    rw[this]
  | cons c q=>
   have yS:IntKind.i64.wrap (c.s.toNat:Int)=(c.s.toNat:Int):=wrap_nat (by have:=c.s.toNat_lt;omega);have hidx:Aw 5 (.sl (enL cCl (c::q)) (.own B.length)) (.i6 0)=some (.cptr (cCl c) 0):=A4 (f:=cCl) (l:=c::q) (tk:=.own B.length) (K:=.i64) (i:=0) (by simp);have hpos:(((c::q).length:Int)>0):=by simp only[zXj];omega
   refine⟨w,T.set p20 (.cel 0 (cNd ((plK (Bm 0) (0+1) x y l k out).2.setKid k (c.s.toNat:Int)))),λrec dQ=>?_,tPS.put t20,by rw[UI d6.symm];exact t6,by rw[UI d8.symm];exact t8,by rw[UI d15.symm];exact t15,by rw[UT wT];rfl,⟨by simp;exact tKp.len,λi cs hi=>?_,λi hi=>?_⟩⟩
   ·unfold Sh.f17;simp only[GMw,Ai,Ay,hlast,Sh.f6q,cE,iL,mQ,show DD cCl B (c::q)=.sl (enL cCl (c::q)) (.own B.length) from rfl,hpos,hidx,Au,Ah,UJ,load_sC,Bl,yS,HI hk,EW t20 hk,Sh.f3n,aM]
   ·have:=(UH.1 hi).1;rw[UI (by omega)];exact tKp.cel i cs hi
   ·rw[UI (by omega)];exact tKp.old i hi
 ·-- a level above: a node
  have jO:PlOk b n self:=by rcases cD with h | h;omega;exact h
  have cE:(((n+1:Nat):Int)>1):=by omega
  have iL:¬(((n+1:Nat):Int)=1):=by omega
  have mJ:IntKind.i64.wrap (((n+1:Nat):Int)-1)=(n:Int):=by rw[Ao] <;> omega
  have uS:plK (Bm n) (n+1) x y l (k+1) out=((Bm n (plK (Bm n) (n+1) x y l k out).1 (qa (n+1) x k) (qb (n+1) y k) q).1,(plK (Bm n) (n+1) x y l k out).2.setKid k ((Bm n (plK (Bm n) (n+1) x y l k out).1 (qa (n+1) x k) (qb (n+1) y k) q).2:Int)):=by
   conv=>lhs;unfold plK
   rw[if_neg (by omega),hq]
  rw[uS];obtain⟨H1,w1,r1,r2,r3⟩:=jO _ w (qa (n+1) x k) (qb (n+1) y k) q (outK B q) T tPS (Vf hb tKp.len) zG ca1 cb1 (by omega) (by omega);have u20:=r3.cel _ _ t20;have u20l:=(UH.1 u20).1;refine⟨w1,H1.set p20 (.cel 0 (cNd ((plK (Bm n) (n+1) x y l k out).2.setKid k ((Bm n (plK (Bm n) (n+1) x y l k out).1 (qa (n+1) x k) (qb (n+1) y k) q).2:Int)))),λrec dQ=>?_,r2.put u20,by rw[UI d6.symm];exact r3.cel _ _ t6,by rw[UI d8.symm];exact r3.cel _ _ t8,by rw[UI d15.symm];exact r3.cel _ _ t15,by rw[UT u20l],⟨by simp;exact Vf tKp.len r3.len,λi cs hi=>?_,λi hi=>?_⟩⟩
  ·unfold Sh.f17;simp only[GMw,Ai,Ay,hlast,Sh.f6q,cE,iL,EP,mJ,AS t45,AS t47,r1,Bt,Bz,Ah,UJ,HI hk,EW u20 hk,Sh.f3n,aM]
  ·have:=(UH.1 hi).1;rw[UI (by omega)];exact r3.cel _ _ (tKp.cel i cs hi)
  ·rw[UI (by omega),r3.old i hi];exact tKp.old i hi
theorem RG {b n d:Nat}(cD:n=0\/PlOk b n (Sh.fo d))(hn:n+1<=1329):PlOk b (n+1) (Sh.fo (d+1)):=by
 intro out w x y l tk H hPS hb hok cnx cny hl hlen;have aM:IntKind.i64.wrap (((n+1:Nat):Int)-1)=((n:Nat):Int):=by rw[Ao] <;> omega
 have hp:SB 44 (2^(n+1-1)):=EO (by omega);have bU:=λH=>Id n H (by omega);show ∃H' w',Sh.f89 (Sh.fo d) _ _ _ _ _ _=_/\_;unfold Sh.f89 Bm;have s1:∀B:Aa,Ae 2 (.ptr B.length 0 0) (big (2^n)) (B++[.cel 0 [.bool false,.sl [] .ti]])=some (B++[.cel 0 (A3 (2^n))]):=λB=>by rw[BU (Ap (B:=B)) rfl,Ba]
 simp only[GMw,DO,Ay];by_cases h0:l=[]
 ·subst h0;simp only[GMw,zXk,show ((0:Nat):Int)=0 from rfl];exact⟨_,_,rfl,(hPS.left _).left _,(Kp.app hb _).trans (Kp.app (by simp;omega) _)⟩
 ·have hl0:¬((l.length:Int)=0):=by have:=Vq.2 h0;omega
  have vI:=Vq.2 h0;simp only[if_neg h0,hl0,GMw,aM,bU,CL,s1,SK,OK,J5 (Ap (cs:=cNd nd0)) rfl,Ba];generalize h1:H++[Blk.cel 0 (A3 x)]=H1;generalize h2:H1++[Blk.cel 0 (A3 y)]=H2;generalize h3:H2++[Blk.cel 0 (A3 (2^n))]=H3;have e1:H1.length=H.length+1:=by rw[<-h1];simp
  have e2:H2.length=H.length+2:=by rw[<-h2];simp;omega
  have e3:H3.length=H.length+3:=by rw[<-h3];simp;omega
  have f6:(H3++[Blk.cel 0 (cNd ⟨((n+1:Nat):Int),0,0,0,0⟩)])[H.length]? = some (.cel 0 (A3 x)):=by rw[<-h3,<-h2,<-h1];simp
  have f8:(H3++[Blk.cel 0 (cNd ⟨((n+1:Nat):Int),0,0,0,0⟩)])[H1.length]? = some (.cel 0 (A3 y)):=by rw[<-h3,<-h2];simp
  have f15:(H3++[Blk.cel 0 (cNd ⟨((n+1:Nat):Int),0,0,0,0⟩)])[H2.length]? = some (.cel 0 (A3 (2^n))):=by rw[<-h3];simp
  have hPS':PS b out w (H3++[Blk.cel 0 (cNd ⟨((n+1:Nat):Int),0,0,0,0⟩)]):=by rw[<-h3,<-h2,<-h1];exact (((hPS.left _).left _).left _).left _
  have hKp':Kp b H (H3++[Blk.cel 0 (cNd ⟨((n+1:Nat):Int),0,0,0,0⟩)]):=by
   rw[<-h3,<-h2,<-h1];simp only[UP];exact Kp.app hb _
  have loop:=G5 (G:=λrec1 vs Hc=>Sh.f3o H (Sh.fo d) rec1 (ag vs 0) (ag vs 1) (ag vs 2) (ag vs 3) (ag vs 4) (ag vs 5) (ag vs 6) (ag vs 7) Hc) 4
   (λk vs Hc=>∃w',vs=[w',.i6 ((n+1:Nat):Int),.sl (enL cCl l) tk,.ptr H.length 0 0,.ptr H1.length 0 0,.ptr H2.length 0 0,.ptr H3.length 0 0,.i6 (k:Int)]/\PS b (plK (Bm n) (n+1) x y l k out).1 w' Hc/\Hc[H.length]? = some (.cel 0 (A3 x))/\Hc[H1.length]? = some (.cel 0 (A3 y))/\Hc[H2.length]? = some (.cel 0 (A3 (2^n)))/\Hc[H3.length]? = some (.cel 0 (cNd (plK (Bm n) (n+1) x y l k out).2))/\Kp b H Hc)
   (by decide) (λk vs Hc hk hI=>?_) (vs:=[w,.i6 ((n+1:Nat):Int),.sl (enL cCl l) tk,.ptr H.length 0 0,.ptr H1.length 0 0,.ptr H2.length 0 0,.ptr H3.length 0 0,.i6 0]) (H:=H3++[Blk.cel 0 (cNd ⟨((n+1:Nat):Int),0,0,0,0⟩)])
   ⟨w,rfl,hPS',f6,f8,f15,by simp[plK],hKp'⟩
  ·obtain⟨vs',Hc,⟨w',rfl,g1,g2,g3,g4,g5,g6⟩,rec,aB⟩:=loop;have aW:=QJ n out x y l 4 (UK _);have cX:=Ra (n+1) x y l;have dM:Ma (n+1) x y l 4*n<=l.length*n:=Vw _ cX;have qR:l.length*(n+1)=l.length*n+l.length:=Nat.mul_succ _ _;obtain⟨w2,H4,a1,a2,a3⟩:=g1.snoc (Vf hb g6.len) (plK (Bm n) (n+1) x y l 4 out).2 (by omega);obtain⟨tk4,rfl⟩:=a2.sl;have hf:¬(((4:Nat):Int)<4):=by decide
   refine⟨H4,_,?_,a2,g6.trans a3⟩;rw[aB];unfold Sh.f3o;simp only[GMw,Ai,hf,HG g5,Kb,a1,Ay,UO,zXi]
  ·obtain⟨w',rfl,g1,g2,g3,g4,g5,g6⟩:=hI;obtain⟨w2,Hd,q1,q2,q3,q4,q5,q6,q7⟩:=place_turn cD hn H Hc out w' x y l tk H.length H1.length H2.length H3.length k hk hb (by omega) hok cnx cny hl hlen g1 g2 g3 g4 g5 g6 (by omega) (by omega) (by omega);exact⟨_,_,⟨w2,rfl,q2,q3,q4,q5,q6,q7⟩,q1⟩
theorem TS (b:Nat):∀n d,n+1<=1329->n+1<=d->PlOk b (n+1) (Sh.fo d)
 | 0,d,h1,h2=>by
  obtain⟨d,rfl⟩:∃e,d=e+1:=⟨d-1,by omega⟩;exact RG (.inl rfl) h1
 | n+1,d,h1,h2=>by
  obtain⟨d,rfl⟩:∃e,d=e+1:=⟨d-1,by omega⟩;exact RG (.inr (TS b n d (by omega) (by omega))) h1
structure RC where
 n1:Bool
 l1:List Nat
 n2:Bool
 l2:List Nat
 s:UInt8
def cRC (r:RC):List Ab:=[.bool r.n1,.sl (enL cU r.l1) .no,.bool r.n2,.sl (enL cU r.l2) .no,.int .u8 (r.s.toNat:Int)]
instance:Sz cRC 5:=⟨λ_=>rfl⟩
def RC.fits (r:RC):Prop:=Lim r.l1/\Lim r.l2/\r.l1.length<=549755813888/\r.l2.length<=549755813888
def RC.right (r:RC):Bool:=Hs r.n1 r.l1&&Hs r.n2 r.l2
def RC.cl (r:RC):Cl:=⟨Ec r.n1 r.l1,Ec r.n2 r.l2,r.s⟩
theorem cRC_cl {r:RC}(h:r.right=true)(hf:r.fits):cRC r=cCl r.cl:=by
 simp only[RC.right,UU]at h;have e1:=bigC_ok h.1 hf.1;have e2:=bigC_ok h.2 hf.2.1;show [Ab.bool r.n1,.sl (enL cU r.l1) .no]++([Ab.bool r.n2,.sl (enL cU r.l2) .no]++[.int .u8 (r.s.toNat:Int)])=_;rw[e1,e2];rfl
theorem enL_RC {l:List RC}(h:∀r∈l,r.right=true)(hf:∀r∈l,r.fits):enL cRC l=enL cCl (l.map RC.cl):=by
 unfold enL;rw[List.map_map];exact X0 λr hr=>cRC_cl (h r hr) (hf r hr)
def IW:Nat->Nat->Cl->Nat
 | 0,v,_=>v
 | f+1,v,c=>if EN v c then v else IW f (v+1) c
def Bh (l:List Cl):Nat:=l.foldl (λv c=>IW (1330-v) v c) 1
theorem lvUp_ge:∀f v c,v<=IW f v c/\IW f v c<=v+f
 | 0,v,c=>⟨UK _,UK _⟩
 | f+1,v,c=>by
  unfold IW;split
  ·omega
  ·have:=lvUp_ge f (v+1) c;omega
theorem Uj (l:List Cl):∀v,1<=v->v<=1330->v<=l.foldl (λv c=>IW (1330-v) v c) v/\l.foldl (λv c=>IW (1330-v) v c) v<=1330:=by
 induction l with
 | nil=>intro v h1 h2;simp;omega
 | cons c l ih=>
  intro v h1 h2;have h:=lvUp_ge (1330-v) v c;have:=ih (IW (1330-v) v c) (by omega) (by omega);simp only[List.foldl_cons];omega
theorem Se (l:List Cl):1<=Bh l/\Bh l<=1330:=Uj l 1 (by omega) (by omega)
def Ie (l:List Cl):List Nd×Int:=
 if Bh (D3 l)>1329 then ([],4)
 else if ofOk (Bm (Bh (D3 l)) [] (-(2^(Bh (D3 l)-1))) (-(2^(Bh (D3 l)-1))) (D3 l)).1 ((Bm (Bh (D3 l)) [] (-(2^(Bh (D3 l)-1))) (-(2^(Bh (D3 l)-1))) (D3 l)).2:Int)
 then (PI (Bm (Bh (D3 l)) [] (-(2^(Bh (D3 l)-1))) (-(2^(Bh (D3 l)-1))) (D3 l)).1 (Bm (Bh (D3 l)) [] (-(2^(Bh (D3 l)-1))) (-(2^(Bh (D3 l)-1))) (D3 l)).2,0)
 else ([],1)
theorem Ul {l:List Cl}{c:Cl}(h:c∈D3 l):c∈l:=by
 have h1:=(Wz.1 h).1;have:=(HH (l:=l) l.length (UK _)).2;rw[US (UK _)]at this;exact this c h1
theorem Um (l:List Cl):(D3 l).length<=l.length:=by
 have h1:(D3 l).length<=(DS l).length:=We _ _;have:=(HH (l:=l) l.length (UK _)).1;rw[US (UK _)]at this;omega
theorem cn_corner {v:Nat}(h1:1<=v)(h:v<=1329):Cn v (-(2^(v-1))):=by
 unfold Cn;rw[Int.natAbs_neg,IR];have e:(2:Nat)^(v+1)=2^v*2:=Nat.pow_succ _ _;have e1:(2:Nat)^(v-1)<=2^v:=Vv (by omega) (by omega);have:=top_ge (v:=v+1) (by omega);omega
theorem I3 {H Hq:Aa}{tk:Tok}{Q:List Nd}{e:Int}(hc:Hq[H.length]? = some (.cel 0 [.sl [] .ti]))(hold:∀i,i<H.length->Hq[i]? = H[i]?) :
  (bP H (Av (Ae 1 (.ptr H.length 0 0) (.agg [.sl (enL cNd Q) tk]) Hq)) λ_ H37=>(Cv [Ad true 1 (.ptr H.length 0 0) H37,some (.i6 e)]).bind λx38=>rPN H x38 H37)=some (.ret (.tup [Ef Q,.i6 e]),H):=by
 have aG:=(UH.1 hc).1;have hst:Ae 1 (.ptr H.length 0 0) (.agg [.sl (enL cNd Q) tk]) Hq=some (Hq.set H.length (.cel 0 [.sl (enL cNd Q) tk])):=by
  simp only[Ae,A1 hc,zXa,B5 hc];rfl
 have hld:Ad true 1 (.ptr H.length 0 0) (Hq.set H.length (.cel 0 [.sl (enL cNd Q) tk]))=some (.agg [.sl (enL cNd Q) tk]):=by
  have:(Hq.set H.length (.cel 0 [.sl (enL cNd Q) tk]))[H.length]? = some (.cel 0 [.sl (enL cNd Q) tk]):=by rw[UT aG]
  simp only[Ad,A1 this,zXa];rfl
 have bB:(Hq.set H.length (.cel 0 [.sl (enL cNd Q) tk])).take H.length=H:=Cm λi hi=>by
  rw[UI (by omega),hold i hi]
 simp only[GMw,hst,hld,FU,D6,E7,zXb,Fa bB,C9,B4,BO,Hj,Fk,Gg,IJ,CT]
 rfl
theorem loop_all2 {G:LK->LK}(N:Nat)(p:Nat->Bool)(st:Nat->List Ab)(H:Aa)(yes no:Out)(hN:N<1152921504606846976)
  (turn:∀(rec:LK) (i:Nat),i<N->G rec (st i) H=if p i then rec (st (i+1)) H else no)(last:(List.range N).all p=true->∀rec:LK,G rec (st N) H=yes):Am G AM (st 0) H=if (List.range N).all p then yes else no:=by
 refine AZ (σ:=Nat) (λi=>i<=N/\∀j,j<i->p j=true) st (λ_=>H) (λi=>N-i) (λ_=>if (List.range N).all p then yes else no) (λi rec hi hrec=>?_) 0 ⟨Ve _,λj hj=>by omega⟩ (by omega);by_cases h:i<N
 ·rw[turn rec i h];cases hp:p i with
  | true=>exact hrec (i+1) ⟨h,λj hj=>by
    by_cases e:j=i
    ·rw[e];exact hp
    ·exact hi.2 j (by omega)⟩ (by omega)
  | false=>
   have:(List.range N).all p=false:=by rw[W6];exact⟨i,by simpa using h,by simp[hp]⟩
   simp[this]
 ·have e:i=N:=by omega
  subst e;have:(List.range i).all p=true:=by rw[Vb];intro j hj;exact hi.2 j (by simpa using hj)
  rw[last this,this];rfl
def RO (S:List Cl):List Nd×Int:=
 if Bh S>1329 then ([],4)
 else if ofOk (Bm (Bh S) [] (-(2^(Bh S-1))) (-(2^(Bh S-1))) S).1 ((Bm (Bh S) [] (-(2^(Bh S-1))) (-(2^(Bh S-1))) S).2:Int)
 then (PI (Bm (Bh S) [] (-(2^(Bh S-1))) (-(2^(Bh S-1))) S).1 (Bm (Bh S) [] (-(2^(Bh S-1))) (-(2^(Bh S-1))) S).2,0)
 else ([],1)
theorem of07_eq (l:List Cl):Ie l=RO (D3 l):=rfl
theorem level_run (H B:Aa)(aA:LK)(p:Ab)(l:List Cl)(tk:Tok)(i:Nat)(hi:i<l.length)(qW:l.length<2147483648)(hc:l[i].ok):∀(f v n:Nat),f+v=1330->1<=v->f<n ->
  Am (λdJ vs H1=>Sh.f6z H aA dJ (ag vs 0) (ag vs 1) (ag vs 2) (ag vs 3) H1) n [p,.sl (enL cCl l) tk,.i6 (v:Int),.i6 (i:Int)] B=aA [p,.sl (enL cCl l) tk,.i6 (IW f v l[i]:Int),.i6 ((i+1:Nat):Int)] B:=by
 intro f
 induction f with
 | zero=>
  intro v n h1 h2 h3;obtain⟨n,rfl⟩:∃m,n=m+1:=⟨n-1,by omega⟩;have hv:¬(v:Int)<=1329:=by omega
  have aM:=As (show i<9223372036854775807 by omega);rw[Ca];unfold Sh.f6z;simp only[GMw,Ai,hv,aM]
  rfl
 | succ f ih=>
  intro v n h1 h2 h3;obtain⟨n,rfl⟩:∃m,n=m+1:=⟨n-1,by omega⟩;have hv:(v:Int)<=1329:=by omega
  have aM:=As (show i<9223372036854775807 by omega);have pW:=As (show v<9223372036854775807 by omega);have hw:=λH=>q07_within l[i] v H hc h2 (by omega);rw[Ca];unfold Sh.f6z IW;simp only[GMw,Ai,hv,A4 hi,Oh,hw];cases EN v l[i]with
  | true=>simp only[GMw,aM]
  | false=>
   simp only[GMw,pW];exact ih (v+1) n (by omega) (by omega) (by omega)
theorem NS {H:Aa}{e:Int}:((Az (some [(.sl [] .ti)]) []).bind λx57=>bP H (Av (Ae 1 (.ptr H.length 0 0) x57 (H++[.cel 0 [.sl [] .ti]]))) λ_ H59=>(Cv [Ad true 1 (.ptr H.length 0 0) H59,some (.i6 e)]).bind λx60=>rPN H x60 H59)=some (.ret (.tup [Ef [],.i6 e]),H):=by
 rw[show Az (some [(.sl [] .ti)]) []=some (.agg [.sl (enL cNd []) .ti]) from rfl];rw[BL];exact I3 (by simp) λi hi=>by rw[UL hi]
theorem q07_of (l:List RC)(tk:Tok)(H:Aa)(hl:l.length<2147483648)(hf:∀r∈l,r.fits)(hs:∀r∈l,r.right=true->r.cl.ok) :
  Sh.f3r (.sl (enL cRC l) tk) H=some (.ret (if l.all RC.right then .tup [Ef (Ie (l.map RC.cl)).1,.i6 (Ie (l.map RC.cl)).2]else .tup [Ef [],.i6 1]),H):=by
 unfold Sh.f3r;rw[alloc_eq (cs:=[.sl [] .ti]) rfl];simp only[GMw];have aD:l.all RC.right=(List.range l.length).all λi=>match l[i]? with | some r=>r.right | none=>true:=by
  rw[Va,Vb,Vb];constructor
  ·intro h i hi;have aF:i<l.length:=by simpa using hi
   rw[UG aF];exact h _ (UV aF)
  ·intro h r hr;obtain⟨i,hi,rfl⟩:=Vn hr;have:=h i (by simpa using hi)
   rwa [UG hi]at this
 have key:=loop_all2 (G:=λrec1 vs H1=>Sh.f71 H rec1 (ag vs 0) (ag vs 1) (ag vs 2) H1) l.length (λi=>match l[i]? with | some r=>r.right | none=>true) (λi=>[.sl (enL cRC l) tk,.ptr H.length 0 0,.i6 (i:Int)]) (H++[.cel 0 [.sl [] .ti]])
  (some (.ret (.tup [Ef (Ie (l.map RC.cl)).1,.i6 (Ie (l.map RC.cl)).2]),H)) (some (.ret (.tup [Ef [],.i6 1]),H)) (by omega) (λrec i hi=>?_) (λhr rec=>?_)
 ·refine key.trans ?_;rw[aD];cases (List.range l.length).all λi=>match l[i]? with | some r=>r.right | none=>true <;> rfl
 ·have aF:(i:Int)<(l.length:Int):=by omega
  have aM:=As (show i<9223372036854775807 by omega);have dT:=hf _ (UV hi);have g1:∀H,Ad true 2 (.cptr (cRC l[i]) 0) H=some (.agg [.bool l[i].n1,.sl (enL cU l[i].l1) .no]):=λH=>rfl;have g2:∀H,Ad true 2 (.cptr (cRC l[i]) 2) H=some (.agg [.bool l[i].n2,.sl (enL cU l[i].l2) .no]):=λH=>rfl;have r1:=λH=>TW l[i].n1 l[i].l1 .no H dT.2.2.1;have r2:=λH=>TW l[i].n2 l[i].l2 .no H dT.2.2.2;unfold Sh.f71;simp only[GMw,Ay,aF,A4 hi,Au,UJ,g1,r1,UG hi,RC.right];cases Hs l[i].n1 l[i].l1 with
  | false=>simp only[GMw,NS]
  | true=>
   simp only[GMw,A4 hi,Au,UJ,g2,r2];cases Hs l[i].n2 l[i].l2 with
   | false=>simp only[GMw,NS]
   | true=>simp only[GMw,aM]
 ·rw[<-aD]at hr;have eZ:∀r∈l,r.right=true:=Vb.1 hr;have aG:∀c∈l.map RC.cl,c.ok:=λc hc=>by
   obtain⟨r,h1,rfl⟩:=Wh.1 hc;exact hs r h1 (eZ r h1)
  unfold Sh.f71;simp only[GMw,Ay,V3];rw[enL_RC eZ hf];generalize hL:l.map RC.cl=L at aG;have hLl:L.length<2147483648:=by rw[<-hL];simpa using hl
  simp only[GMw,q07_last L tk _ (by omega) aG,of07_eq];have gT:∀c∈D3 L,c.ok:=λc hc=>aG c (Ul hc);have hsl:=Um L;generalize D3 L=S at gT hsl;refine Cj (G:=λaA vs H1=>Sh.f70 H aA (ag vs 0) (ag vs 1) (ag vs 2) (ag vs 3) H1) S.length (λi=>[.ptr H.length 0 0,.sl (enL cCl S) .no,.i6 (Bh (S.take i):Int),.i6 (i:Int)]) (λ_=>H++[.cel 0 [.sl [] .ti]])
   (some (.ret (.tup [Ef (RO S).1,.i6 (RO S).2]),H)) (by omega) (λaA i hi=>?_) (λaA=>?_)
  ·have aF:(i:Int)<(S.length:Int):=by omega
   obtain⟨v1,v2⟩:=Se (S.take i);have aC:=level_run H (H++[.cel 0 [.sl [] .ti]]) aA (.ptr H.length 0 0) S .no i hi (by omega) (gT _ (UV hi)) (1330-Bh (S.take i)) (Bh (S.take i)) AM (by omega) v1 (by rw[CQ];omega);have aT:Bh (S.take (i+1))=IW (1330-Bh (S.take i)) (Bh (S.take i)) S[i]:=by
    unfold Bh;rw[UR hi,W5];rfl
   unfold Sh.f70;simp only[GMw,Ai,Ay,aF];rw[aT];exact aC
  ·obtain⟨v1,v2⟩:=Se S;unfold Sh.f70 RO;rw[US (UK _)];generalize Bh S=v at v1 v2;simp only[GMw,Ai,Ay,V3];by_cases hv:v>1329
   ·have aP:(v:Int)>1329:=by omega
    simp only[GMw,aP,if_pos hv,NS]
   ·have aP:¬(v:Int)>1329:=by omega
    obtain⟨n,rfl⟩:∃n,v=n+1:=⟨v-1,by omega⟩;have mJ:IntKind.i64.wrap (((n+1:Nat):Int)-1)=(n:Int):=by rw[Ao] <;> omega
    have hp:SB 44 (2^n):=EO (by omega);have bU:=λH=>Id n H (by omega);have gU:=λH=>IB (2^n) H (hp.lb (by decide));have kD:=cn_corner (v:=n+1) (by omega) (by omega);rw[Vm]at kD;rw[if_neg hv];have s1:∀B:Aa,Ae 2 (.ptr B.length 0 0) (big (-(2^n))) (B++[.cel 0 [.bool false,.sl [] .ti]])=some (B++[.cel 0 (A3 (-(2^n)))]):=λB=>by rw[BU (Ap (B:=B)) rfl,Ba]
    have dM:S.length*(n+1)<=2147483648*1329:=WK (by omega) (by omega);have hlen:([]:List Nd).length+S.length*(n+1)<3518437208883:=by
     simp only[zXk];omega
    obtain⟨Hq,w',p1,p2,p3⟩:=TS (H++[Blk.cel 0 [.sl [] .ti]]).length n AM (by omega) (by rw[CQ];omega) [] (.sl [] .ti) (-(2^n)) (-(2^n)) S .no (H++[.cel 0 [.sl [] .ti]]++[.cel 0 (A3 (-(2^n)))]) (.inl ⟨rfl,rfl⟩) (by simp) gT kD kD (by omega) hlen;obtain⟨tk2,rfl⟩:=p2.sl;have aW:=Vf (TZ (n+1) [] (-(2^n)) (-(2^n)) S) (Nat.add_le_add_left dM _);simp only[zXk]at aW;simp only[GMw,aP,mJ,bU,gU,CL,s1,AS Ap,p1,Bt,Bz,Vm];generalize Bm (n+1) [] (-(2^n)) (-(2^n)) S=P at p1 p2 aW;obtain⟨Q,r⟩:=P;dsimp only at p1 p2 aW ⊢;have uK:=λH=>q06_of Q tk2 (r:Int) H (by omega);have bX:Hq[H.length]? = some (.cel 0 [.sl [] .ti]):=p3.cel _ _ (by simp);have hold:∀i,i<H.length->Hq[i]? = H[i]? := λi hi=>by
     rw[p3.old i (by simp;omega),UP,UL hi]
    simp only[GMw,uK];cases ofOk Q (r:Int)with
    | false=>
     simp only[GMw,Bt,Bz,Ef,Bv];exact I3 bX hold
    | true=>
     simp only[GMw,Bt,Bz,Ef,Bv,zXl];exact I3 bX hold
def Nm (c:UInt8):Bool:=decide (33<=c.toNat/\c.toNat<=126)
theorem R6 (c:UInt8)(H:Aa):Sh.f32 (.int .u8 (c.toNat:Int)) H=some (.ret (.bool (Nm c)),H):=by
 unfold Sh.f32 Nm;by_cases h:(33:Int)<=c.toNat
 ·have:33<=c.toNat:=by omega
  simp[h,this];omega
 ·have:¬33<=c.toNat:=by omega
  simp[h,this]
def LJ (s:List UInt8):Bool:=s.all Nm&&decide (1<=s.length/\s.length<=40)
theorem q04_rule (s:List UInt8)(H:Aa)(hs:s.length<1152921504606846976):Sh.f5e (.str s) H=some (.ret (.bool (LJ s)),H):=by
 unfold Sh.f5e;refine AZ (σ:=Nat) (λi=>i<=s.length/\(s.take i).all Nm=true) (λi=>[.str s,.i6 (i:Int)]) (λ_=>H) (λi=>s.length-i) (λ_=>some (.ret (.bool (LJ s)),H)) (λi rec hi hrec=>?_) 0 ⟨by omega,by simp⟩ (by omega);obtain⟨hi,aD⟩:=hi;unfold Sh.f8l;by_cases h:i<s.length
 ·have hx:(i:Int)<(s.length:Int):=by omega
  simp only[An,Bb,Dv,zXa,Bq,hx,decide_true,AU,B1 h,R6,Fr,Jn];cases hc:Nm s[i]with
  | false=>
   have:LJ s=false:=by
    simp only[LJ,Wn];left;rw[W6];exact⟨s[i],UV h,by simp[hc]⟩
   simp[this]
  | true=>
   have:=hrec (i+1) ⟨h,by rw[UR h,Xv];simp[aD,hc]⟩ (by omega);simp (disch:=omega) [Ao];simpa using this
 ·have hx:¬(i:Int)<(s.length:Int):=by omega
  have he:s.take i=s:=US (by omega);rw[he]at aD;by_cases h1:(1:Int)<=s.length
  ·simp[hx,h1,LJ,aD];by_cases h2:s.length<=40
   ·have:(s.length:Int)<=40:=by omega
    simp[this,h2];omega
   ·have:¬(s.length:Int)<=40:=by omega
    simp[this,h2]
  ·have:s=[]:=UZ (by omega);subst this;have hz:i=0:=by simpa using hi
   subst hz;simp[LJ]
def Gv (rule:List UInt8)(L:List Nd):List Ab:=[.str rule,.sl (enL cNd L) .no]
def pat (rule:List UInt8)(L:List Nd):Ab:=.agg (Gv rule L)
theorem boxPat (rule:List UInt8)(L:List Nd)(H:Aa):Bu true 2 (pat rule L) H=some (.ptr H.length 0 0,H++[.cel 0 (Gv rule L)]):=Cz rfl rfl
section
variable {H:Aa}{p:Nat}{rule:List UInt8}{L:List Nd}
theorem Sa (hg:H[p]? = some (.cel 0 (Gv rule L))):Ad false 1 (.ptr p 0 0) H=some (.str rule):=by
 simp only[Ad,A1 hg,zXa];rfl
theorem Kt (hg:H[p]? = some (.cel 0 (Gv rule L))):Ad true 1 (.ptr p 0 1) H=some (Ef L):=by
 simp only[Ad,A1 hg,zXa];rfl
theorem Pf (hg:H[p]? = some (.cel 0 (Gv rule L))):Ad true 2 (.ptr p 0 0) H=some (pat rule L):=by
 simp only[Ad,A1 hg,zXa];rfl

end
theorem q11_right (rule:List UInt8)(L:List Nd)(H:Aa)(hr:rule.length<1152921504606846976)(hL:L.length<17592186044415):Sh.f5q (pat rule L) H=some (.ret (.bool (LJ rule&&Hv L)),H):=by
 unfold Sh.f5q;have e1:(H++[Blk.cel 0 (Gv rule L)])[H.length]? = some (.cel 0 (Gv rule L)):=Ap;simp only[GMw,boxPat,Ah,UJ,Nat.add_zero,Sa e1,q04_rule rule _ hr];cases LJ rule with
 | false=>simp only[GMw,Fv]
 | true=>simp only[GMw,Ah,UJ,Kt e1,Ef,Bv,q05_right L .no _ hL,Fv]
def JL (a b:Int):Bool:=decide (0<=a)&&decide (a<=1000)&&decide (0<=b)&&decide (b<=100000)
theorem q11_fine (a b:Int)(H:Aa):Sh.f26 (.agg [.i6 a,.i6 b]) H=some (.ret (.bool (JL a b)),H):=by
 unfold Sh.f26 JL;have e1:(H++[Blk.cel 0 [.i6 a,.i6 b]])[H.length]? = some (.cel 0 [.i6 a,.i6 b]):=Ap;have g1:Ad false 1 (.ptr H.length 0 0) (H++[Blk.cel 0 [.i6 a,.i6 b]])=some (.i6 a):=by simp only[Ad,A1 e1,zXa];rfl
 have g2:Ad false 1 (.ptr H.length 0 1) (H++[Blk.cel 0 [.i6 a,.i6 b]])=some (.i6 b):=by simp only[Ad,A1 e1,zXa];rfl
 simp only[GMw,Cz (sz:=2) (cs:=[Ab.i6 a,.i6 b]) rfl rfl,Ah,UJ,Nat.add_zero,g1,ge_iff_le];cases decide (0<=a)with
 | false=>simp only[GMw,Fv]
 | true=>
  simp only[GMw,Ah,UJ,Nat.add_zero,g1];cases decide (a<=1000)with
  | false=>simp only[GMw,Fv]
  | true=>
   simp only[GMw,Ah,UJ,g2,ge_iff_le];cases decide (0<=b)with
   | false=>simp only[GMw,Fv]
   | true=>simp only[GMw,Ah,UJ,g2,Fv]
theorem q11_format (n:Int)(H:Aa):Sh.f5d (.i6 n) H=some (.ret (.bool (decide (1<=n)&&decide (n<=5))),H):=by
 unfold Sh.f5d;simp only[GMw,ge_iff_le];cases decide (1<=n) <;> simp only[GMw]
def St (a:Int):Prop:=0<=a/\a<=255
def Lv (L:List Nd)(v n:Nat):Prop:=n<=L.length/\(n=0\/(Bf L n).lv.toNat=v)
theorem Lv.kid {L:List Nd}(hl:AV L=true){v n k:Nat}(h0:0<n)(h:Lv L (v+1) n)(h1:1<(Bf L n).lv)(hk:k<4):Lv L v ((Bf L n).kid k).toNat/\((Bf L n).kid k).toNat<n/\0<=(Bf L n).kid k:=by
 obtain⟨m,rfl⟩:∃m,n=m+1:=⟨n-1,by omega⟩;have hm:m<L.length:=h.1;obtain⟨l1,l2,l3⟩:=AW hl hm;have hx:Bf L ((m+1:Nat):Int)=L[m]:=BD hm;have hv:=h.2;rw[hx]at h1 hv ⊢;obtain⟨q1,q2,q3⟩:=l3 k hk;by_cases hc:0<L[m].kid k
 ·obtain⟨r1,r2⟩:=q3 h1 hc;obtain⟨c,hcc⟩:∃c:Nat,L[m].kid k=((c+1:Nat):Int):=⟨(L[m].kid k-1).toNat,by omega⟩;have aG:c<L.length:=by omega
  have:=r2 L[c] (by rw[show (L[m].kid k-1).toNat=c from by omega];exact UG aG);rw[hcc,show (((c+1:Nat):Int)).toNat=c+1 from by omega];refine⟨⟨by omega,.inr ?_⟩,by omega,by omega⟩;rw[BD aG];omega
 ·rw[show (L[m].kid k).toNat=0 from by omega];exact⟨⟨Ve _,.inl rfl⟩,by omega,q1⟩
theorem emp_iff {L:List Nd}(hl:AV L=true){n:Nat}(h0:0<n)(hn:n<=L.length):(AE L).getD n true=(List.range 4).all λk=>decide ((Bf L n).kid k=0)||(decide (1<(Bf L n).lv)&&(AE L).getD ((Bf L n).kid k).toNat true):=by
 obtain⟨m,rfl⟩:∃m,n=m+1:=⟨n-1,by omega⟩;have hm:m<L.length:=hn;have hpre:∀(r l:List Nd),∃s,AE (l++r)=AE l++s:=by
  intro r
  induction r with
  | nil=>intro l;exact⟨[],by simp⟩
  | cons x r ih=>
   intro l;obtain⟨s,hs⟩:=ih (l++[x]);exact⟨[O5 (AE l) x]++s,by rw[show l++x::r=l++[x]++r from by simp,hs,MV];simp⟩
 have hL:L=L.take m++[L[m]]++L.drop (m+1):=by
  rw[<-UR hm,V7]
 obtain⟨s,hs⟩:=hpre (L.drop (m+1)) (L.take m++[L[m]]);rw[<-hL,MV]at hs;have hlen:(AE (L.take m)).length=m+1:=by rw[DF];simp;omega
 have nE:(AE L).getD (m+1) true=O5 (AE (L.take m)) L[m]:=by
  rw[hs,UN,UL (by simp[hlen]),Vo (by omega),hlen];simp
 rw[nE,BD hm];obtain⟨l1,l2,l3⟩:=AW hl hm;unfold O5;have hk:∀k,k<4->(decide (1<L[m].lv)&&(AE (L.take m)).getD (L[m].kid k).toNat true)=(decide (1<L[m].lv)&&(AE L).getD (L[m].kid k).toNat true):=by
  intro k hk;obtain⟨q1,q2,q3⟩:=l3 k hk;by_cases h1:1<L[m].lv
  ·have hlt:(L[m].kid k).toNat<m+1:=by
    by_cases hc:0<L[m].kid k
    ·have:=(q3 h1 hc).1;omega
    ·omega
   congr 1
   rw[hs,UP,UN,UN,UL (by omega)]
  ·simp[h1]
 rw[N0,N0,hk 0 (by omega),hk 1 (by omega),hk 2 (by omega),hk 3 (by omega)]
section
variable {L:List Nd}
end
theorem Lv.num {L:List Nd}{v n:Nat}(h:Lv L v n)(h0:0<n)(hl:AV L=true):(Bf L (n:Int)).lv=(v:Int)/\1<=v:=by
 have hv:(Bf L (n:Int)).lv.toNat=v:=by rcases h.2 with h | h <;> omega
 obtain⟨m,rfl⟩:∃m,n=m+1:=⟨n-1,by omega⟩;rw[BD h.1]at hv ⊢;have:=(AW hl h.1).1;omega
def InSq (v:Nat)(x y:Int)(c:Cl):Prop:=x<=c.x/\c.x<x+2^v/\y<=c.y/\c.y<y+2^v
theorem inQ_sq {v:Nat}{a b:Int}{c:Cl}:inQ (v+1) a b c=true↔InSq v a b c:=by
 unfold inQ InSq;simp only[UU,zXe,Vm];constructor
 ·rintro⟨⟨⟨h1,h2⟩,h3⟩,h4⟩;exact⟨h1,h2,h3,h4⟩
 ·rintro⟨h1,h2,h3,h4⟩;exact⟨⟨⟨h1,h2⟩,h3⟩,h4⟩
theorem quart_in {v:Nat}{x y:Int}{k:Nat}{l:List Cl}{c:Cl}(h:c∈EI (v+1) x y k l):InSq v (qa (v+1) x k) (qb (v+1) y k) c:=inQ_sq.1 (Wz.1 h).2
theorem lvUp_in:∀f v c,IW f v c<v+f->EN (IW f v c) c=true
 | 0,v,c,h=>by simp[IW]at h
 | f+1,v,c,h=>by
  unfold IW at h ⊢;split
  ·rename_i hw;exact hw
  ·rename_i hw;rw[if_neg hw]at h;exact lvUp_in f (v+1) c (by omega)
theorem pow_le2 {v w:Nat}(h:v<=w):(2:Int)^v<=2^w:=by
 have h1:(2:Nat)^v<=2^w:=Vv (by omega) h;have h2:((2^v:Nat):Int)<=((2^w:Nat):Int):=by omega
 simpa using h2
theorem within_mono {v w:Nat}{c:Cl}(h:EN v c=true)(hw:v<=w):EN w c=true:=by
 have h1:=pow_le2 (show v-1<=w-1 by omega);simp only[EN,inZ,UU,zXe]at h ⊢;generalize (2:Int)^(v-1)=p at *;generalize (2:Int)^(w-1)=q at *;omega
theorem Ok:∀(l:List Cl) (v:Nat),1<=v->v<=1330->l.foldl (λv c=>IW (1330-v) v c) v<=1329->∀c∈l,EN (l.foldl (λv c=>IW (1330-v) v c) v) c=true
 | [],v,_,_,_,c,hc=>by cases hc
 | d::l,v,h1,h2,h3,c,hc=>by
  have hu:=lvUp_ge (1330-v) v d;have hf:=Uj l (IW (1330-v) v d) (by omega) (by omega);simp only[List.foldl_cons]at h3 ⊢;rcases VC.1 hc with rfl | hc
  ·exact within_mono (lvUp_in (1330-v) v c (by omega)) hf.1
  ·exact Ok l _ (by omega) (by omega) h3 c hc
theorem level_in {S:List Cl}(h:Bh S<=1329):∀c∈S,EN (Bh S) c=true:=Ok S 1 (by omega) (by omega) h
theorem within_sq {v:Nat}{c:Cl}(h1:1<=v)(h:EN v c=true):InSq v (-(2^(v-1))) (-(2^(v-1))) c:=by
 obtain⟨w,rfl⟩:∃w,v=w+1:=⟨v-1,by omega⟩;have e:(2:Int)^(w+1)=2^w*2:=WX _ _;simp only[EN,inZ,UU,zXe,Vm]at h;unfold InSq;rw[Vm,e];generalize (2:Int)^w=p at *;omega
def maxK (m:Int)(x:Nd):Nat->Int
 | 0=>m
 | k+1=>max (maxK m x k) (x.kid k)
def No (L:List Nd):Int:=L.foldl (λm x=>if x.lv=1 then maxK m x 4 else m) 0
theorem quad_eq (L:List Nd):Ef L=.agg [.sl (enL cNd L) .no]:=rfl
theorem boxQ (L:List Nd)(H:Aa):Bu true 1 (Ef L) H=some (.ptr H.length 0 0,H++[.cel 0 (Bv L)]):=Cz rfl rfl
section
variable {H:Aa}{p:Nat}{L:List Nd}
theorem Fd (hg:H[p]? = some (.cel 0 (Bv L))):Ad false 1 (.ptr p 0 0) H=some (.sl (enL cNd L) .no):=by
 simp only[Ad,A1 hg,zXa];rfl
theorem ML (hg:H[p]? = some (.cel 0 (Bv L))):Ad true 1 (.ptr p 0 0) H=some (Ef L):=by
 simp only[Ad,A1 hg,zXa];rfl

end
theorem q08_most (L:List Nd)(H:Aa)(hL:L.length<1152921504606846976):Sh.f3d (Ef L) H=some (.ret (.int .u8 (IntKind.u8.wrap (No L))),H):=by
 unfold Sh.f3d;have e1:(H++[Blk.cel 0 (Bv L)])[H.length]? = some (.cel 0 (Bv L)):=Ap;simp only[GMw,boxQ];refine Cj (G:=λrec1 vs H1=>Sh.f60 H rec1 (ag vs 0) (ag vs 1) (ag vs 2) H1) L.length (λi=>[.ptr H.length 0 0,.i6 (No (L.take i)),.i6 (i:Int)]) (λ_=>H++[.cel 0 (Bv L)]) _ hL (λrec i hi=>?_) (λrec=>?_)
 ·have aF:(i:Int)<(L.length:Int):=by omega
  have aM:=As (show i<9223372036854775807 by omega);have hm:No (L.take (i+1))=if L[i].lv=1 then maxK (No (L.take i)) L[i] 4 else No (L.take i):=by
   unfold No;rw[UR hi,W5];rfl
  rw[hm];generalize No (L.take i)=m;unfold Sh.f60;simp only[GMw,Ah,UJ,Fd e1,Ay,aF];by_cases aT:L[i].lv=1
  ·rw[if_pos aT];refine Cj (G:=λaA vs H1=>Sh.f3c H rec aA (ag vs 0) (ag vs 1) (ag vs 2) (ag vs 3) H1) 4 (λk=>[.ptr H.length 0 0,.i6 (maxK m L[i] k),.i6 (i:Int),.i6 (k:Int)]) (λ_=>H++[.cel 0 (Bv L)]) _ (by decide) (λaA k hk=>?_) (λaA=>?_)
   ·have hk':(k:Int)<4:=by omega
    unfold Sh.f3c;simp only[GMw,Au,Ah,AF,UJ,Nat.add_zero,UW,Cy,hk',Fd e1,A4 hi,aT,ER hk,Ez hk,max_int,As (show k<9223372036854775807 by omega),maxK]
   ·have hf:¬(((4:Nat):Int)<4):=by decide
    unfold Sh.f3c;simp only[GMw,hf,aM]
  ·rw[if_neg aT,Dp DZ];have hf:((0:Int)<4):=by decide
   unfold Sh.f3c;simp only[GMw,Au,Ah,AF,UJ,Nat.add_zero,UW,Cy,hf,Fd e1,A4 hi,aT,aM]
 ·unfold Sh.f60;rw[US (UK _)];simp only[GMw,Ah,UJ,Fd e1,Ay,V3,Bl,HS]
theorem maxK_st {m:Int}{x:Nd}(hm:St m)(hx:∀k,k<4->St (x.kid k)):∀k,k<=4->St (maxK m x k)
 | 0,_=>hm
 | k+1,h=>by
  have h1:=maxK_st hm hx k (by omega);have h2:=hx k (by omega);obtain⟨a1,a2⟩:=h1;obtain⟨b1,b2⟩:=h2;exact⟨show (0:Int)<=max (maxK m x k) (x.kid k)by omega,show max (maxK m x k) (x.kid k)<=(255:Int)by omega⟩
theorem mostZ_st {L:List Nd}(hl:AV L=true):St (No L):=by
 have key:∀(l:List Nd) (m:Int),St m->(∀x∈l,x.lv=1->∀k,k<4->St (x.kid k))->St (l.foldl (λm x=>if x.lv=1 then maxK m x 4 else m) m):=by
  intro l
  induction l with
  | nil=>intro m hm _;exact hm
  | cons a l ih=>
   intro m hm hx;refine ih _ ?_ λx h=>hx x (by simp[h]);dsimp only;split
   ·rename_i h;exact maxK_st hm (hx a (by simp) h) 4 (UK _)
   ·exact hm
 refine key L 0 ⟨WH _,by decide⟩ λx hx aT k hk=>?_;obtain⟨i,hi,rfl⟩:=Vn hx;have:=(AW hl hi).2.2 k hk;exact⟨this.1,this.2.1 aT⟩
theorem q08_mostZ {L:List Nd}(H:Aa)(hL:L.length<1152921504606846976)(hl:AV L=true):Sh.f3d (Ef L) H=some (.ret (.int .u8 (No L)),H):=by
 have:=mostZ_st hl;rw[q08_most L H hL,NK this.1 (by have:=this.2;omega)]
theorem q08_in (z:Int)(v:Nat)(H:Aa)(hz:SB 100 z)(h1:1<=v)(h2:v<=1400):Sh.f3e (big z) (.i6 (v:Int)) H=some (.ret (.bool (inZ v z)),H):=by
 have hw:IntKind.i64.wrap ((v:Int)-1)=((v-1:Nat):Int):=GX (by omega) (by omega);have hp:=(EO (show v-1<=1400 by omega)).lb (by decide);have bU:=λH=>Id (v-1) H (by omega);have gU:=λH=>IB (2^(v-1)) H hp;have hx:=λH b (hb:LB b)=>Fb z b H (hz.lb (by decide)) hb;have s1:∀B:Aa,Ae 2 (.ptr B.length 0 0) (big (2^(v-1))) (B++[.cel 0 [.bool false,.sl [] .ti]])=some (B++[.cel 0 (A3 (2^(v-1)))]):=λB=>by rw[BU (Ap (B:=B)) rfl,Ba]
 have e1:(H++[Blk.cel 0 (A3 z)]++[Blk.cel 0 (A3 (2^(v-1)))])[H.length]? = some (.cel 0 (A3 z)):=by simp
 have e2:(H++[Blk.cel 0 (A3 z)]++[Blk.cel 0 (A3 (2^(v-1)))])[(H++[Blk.cel 0 (A3 z)]).length]? = some (.cel 0 (A3 (2^(v-1)))):=Ap;have fin:∀q:Bool,rP H (.bool q) (H++[Blk.cel 0 (A3 z)]++[Blk.cel 0 (A3 (2^(v-1)))])=some (.ret (.bool q),H):=λq=>by simp only[UP];exact Fv
 unfold Sh.f3e inZ;simp only[GMw,DO,hw,bU,CL,s1,AS e1,AS e2,gU,and_true,eq_self,hx _ _ hp.neg,FY];cases decide (-(2^(v-1))<=z)with
 | false=>simp only[GMw,fin]
 | true=>simp only[GMw,AS e1,AS e2,hx _ _ hp,FX,fin]
def qk (v:Nat)(x y:Int):Nat:=(if 2^(v-1)<=x then 1 else 0)+(if 2^(v-1)<=y then 2 else 0)
def qd (v:Nat)(x:Int):Int:=if 2^(v-1)<=x then x-2^(v-1)else x
theorem qk_lt (v:Nat)(x y:Int):qk v x y<4:=by unfold qk;split <;> split <;> omega
theorem q08_quarter (v:Nat)(x y:Int)(H:Aa)(h1:1<=v)(h2:v<=1400)(hx:SB 100 x)(hy:SB 100 y) :
  Sh.f63 (.i6 (v:Int)) (big x) (big y) H=some (.ret (.tup [.i6 (qk v x y:Int),big (qd v x),big (qd v y)]),H):=by
 have hw:IntKind.i64.wrap ((v:Int)-1)=((v-1:Nat):Int):=GX (by omega) (by omega);have hp:=(EO (show v-1<=1400 by omega)).lb (by decide);have bU:=λH=>Id (v-1) H (by omega);have cx:=λH=>Fb x (2^(v-1)) H (hx.lb (by decide)) hp;have cy:=λH=>Fb y (2^(v-1)) H (hy.lb (by decide)) hp;have sx:=λH=>R7 x (2^(v-1)) H (hx.lb (by decide)) hp;have sy:=λH=>R7 y (2^(v-1)) H (hy.lb (by decide)) hp;unfold Sh.f63;have s1:∀B:Aa,Ae 2 (.ptr B.length 0 0) (big (2^(v-1))) (B++[.cel 0 [.bool false,.sl [] .ti]])=some (B++[.cel 0 (A3 (2^(v-1)))]):=λB=>by rw[BU (Ap (B:=B)) rfl,Ba]
 simp only[GMw,DO,CL,hw,bU,s1];have l1:(H++[Blk.cel 0 (A3 x)]).length=H.length+1:=by simp
 have l2:(H++[Blk.cel 0 (A3 x)]++[Blk.cel 0 (A3 y)]).length=H.length+2:=by simp
 have l3:(H++[Blk.cel 0 (A3 x)]++[Blk.cel 0 (A3 y)]++[Blk.cel 0 [Ab.bool false,.sl [] .ti]]).length=H.length+3:=by simp
 have l4:(H++[Blk.cel 0 (A3 x)]++[Blk.cel 0 (A3 y)]++[Blk.cel 0 [Ab.bool false,.sl [] .ti]]++[Blk.cel 0 [Ab.bool false,.sl [] .ti]]).length=H.length+4:=by simp
 simp only[l1,l2,l3,l4];have five:∀a b c d e:List Ab,(H++[Blk.cel 0 a]++[Blk.cel 0 b]++[Blk.cel 0 c]++[Blk.cel 0 d]++[Blk.cel 0 e])=H++[Blk.cel 0 a,.cel 0 b,.cel 0 c,.cel 0 d,.cel 0 e]:=λa b c d e=>by simp
 rw[five];have g0:∀(z:Int) (b c d e:List Ab),Ad true 2 (.ptr H.length 0 0) (H++[Blk.cel 0 (A3 z),.cel 0 b,.cel 0 c,.cel 0 d,.cel 0 e])=some (big z):=λz b c d e=>AS (by simp);have g1:∀(z:Int) (a c d e:List Ab),Ad true 2 (.ptr (H.length+1) 0 0) (H++[Blk.cel 0 a,.cel 0 (A3 z),.cel 0 c,.cel 0 d,.cel 0 e])=some (big z):=λz a c d e=>AS (by simp);have g2:∀(z:Int) (a b d e:List Ab),Ad true 2 (.ptr (H.length+2) 0 0) (H++[Blk.cel 0 a,.cel 0 b,.cel 0 (A3 z),.cel 0 d,.cel 0 e])=some (big z):=λz a b d e=>AS (by simp);have g3:∀(z:Int) (a b c e:List Ab),Ad true 2 (.ptr (H.length+3) 0 0) (H++[Blk.cel 0 a,.cel 0 b,.cel 0 c,.cel 0 (A3 z),.cel 0 e])=some (big z):=λz a b c e=>AS (by simp);have g4:∀(z:Int) (a b c d:List Ab),Ad true 2 (.ptr (H.length+4) 0 0) (H++[Blk.cel 0 a,.cel 0 b,.cel 0 c,.cel 0 d,.cel 0 (A3 z)])=some (big z):=λz a b c d=>AS (by simp);have p0:∀(z z':Int) (b c d e:List Ab),Ae 2 (.ptr H.length 0 0) (big z) (H++[Blk.cel 0 (A3 z'),.cel 0 b,.cel 0 c,.cel 0 d,.cel 0 e])=some (H++[Blk.cel 0 (A3 z),.cel 0 b,.cel 0 c,.cel 0 d,.cel 0 e]):=λz z' b c d e=>by rw[BU (cs:=A3 z') (by simp) rfl];simp
 have p1:∀(z z':Int) (a c d e:List Ab),Ae 2 (.ptr (H.length+1) 0 0) (big z) (H++[Blk.cel 0 a,.cel 0 (A3 z'),.cel 0 c,.cel 0 d,.cel 0 e])=some (H++[Blk.cel 0 a,.cel 0 (A3 z),.cel 0 c,.cel 0 d,.cel 0 e]):=λz z' a c d e=>by rw[BU (cs:=A3 z') (by simp) rfl];simp
 have p2:∀(z:Int) (a b d e:List Ab),Ae 2 (.ptr (H.length+2) 0 0) (big z) (H++[Blk.cel 0 a,.cel 0 b,.cel 0 [.bool false,.sl [] .ti],.cel 0 d,.cel 0 e])=some (H++[Blk.cel 0 a,.cel 0 b,.cel 0 (A3 z),.cel 0 d,.cel 0 e]):=λz a b d e=>by rw[BU (cs:=[.bool false,.sl [] .ti]) (by simp) rfl];simp
 have p3:∀(z:Int) (a b c e:List Ab),Ae 2 (.ptr (H.length+3) 0 0) (big z) (H++[Blk.cel 0 a,.cel 0 b,.cel 0 c,.cel 0 [.bool false,.sl [] .ti],.cel 0 e])=some (H++[Blk.cel 0 a,.cel 0 b,.cel 0 c,.cel 0 (A3 z),.cel 0 e]):=λz a b c e=>by rw[BU (cs:=[.bool false,.sl [] .ti]) (by simp) rfl];simp
 have w1:IntKind.i64.wrap (0+1)=1:=by decide
 have w2:IntKind.i64.wrap (0+2)=2:=by decide
 have w3:IntKind.i64.wrap (1+2)=3:=by decide
 unfold qk qd;simp only[GMw,g0,g4,cx,FY];by_cases ha:(2:Int)^(v-1)<=x
 ·by_cases hb:(2:Int)^(v-1)<=y
  ·simp only[GMw,ha,hb,w1,w3,g0,g1,g2,g3,g4,sx,sy,cx,cy,FY,p0,p1,p2,p3,Ai,Sh.f3g,Sh.f3f,and_true,eq_self,FU,D6,E7,zXb,C6,C9,B4,BO,CT,MQ]
   rfl
  ·simp only[GMw,ha,hb,w1,w3,g0,g1,g2,g3,g4,sx,sy,cx,cy,FY,p0,p1,p2,p3,Ai,Sh.f3g,Sh.f3f,and_true,eq_self,FU,D6,E7,zXb,C6,C9,B4,BO,CT,MQ]
   rfl
 ·by_cases hb:(2:Int)^(v-1)<=y
  ·simp only[GMw,ha,hb,w1,w2,w3,g0,g1,g2,g3,g4,sx,sy,cx,cy,FY,p0,p1,p2,p3,Ai,Sh.f3g,Sh.f3f,and_true,eq_self,FU,D6,E7,zXb,C6,C9,B4,BO,CT,MQ]
   rfl
  ·simp only[GMw,ha,hb,w1,w2,w3,g0,g1,g2,g3,g4,sx,sy,cx,cy,FY,p0,p1,p2,p3,Ai,Sh.f3g,Sh.f3f,and_true,eq_self,FU,D6,E7,zXb,C6,C9,B4,BO,CT,MQ]
   rfl
def Tg (L:List Nd):Nat->Nat->Int->Int->Int
 | 0,_,_,_=>0
 | v+1,n,x,y=>
  if n=0 then 0
  else if (Bf L n).lv=1 then (Bf L n).kid (qk (v+1) x y)
  else Tg L v ((Bf L n).kid (qk (v+1) x y)).toNat (qd (v+1) x) (qd (v+1) y)
def getZ (L:List Nd)(x y:Int):Int:=
 if L=[]then 0
 else if inZ (Cd L).toNat x&&inZ (Cd L).toNat y then Tg L (Cd L).toNat L.length (x+2^((Cd L).toNat-1)) (y+2^((Cd L).toNat-1))else 0
theorem qd_sb {v k:Nat}{x:Int}(h:SB k x):SB k (qd v x):=by
 unfold qd;have hp:(0:Int)<2^(v-1):=WG (by omega);unfold SB at *;generalize (2:Int)^(v-1)=p at *;generalize (4294967296:Nat)^k=q at *;split <;> omega
theorem getF_st {L:List Nd}(hl:AV L=true):∀v n x y,Lv L v n->St (Tg L v n x y)
 | 0,n,x,y,h=>⟨WH _,by show (0:Int)<=255;decide⟩
 | v+1,n,x,y,h=>by
  unfold Tg;split
  ·exact⟨WH _,by show (0:Int)<=255;decide⟩
  ·rename_i h0;have eF:0<n:=by omega
   split
   ·rename_i h1;obtain⟨m,rfl⟩:∃m,n=m+1:=⟨n-1,by omega⟩;rw[BD h.1]at h1 ⊢;have:=(AW hl h.1).2.2 (qk (v+1) x y) (qk_lt _ _ _);exact⟨this.1,this.2.1 h1⟩
   ·rename_i h1;have:=h.num eF hl;exact getF_st hl v _ _ _ (Lv.kid hl eF h (by omega) (qk_lt _ _ _)).1
theorem q08_get (L:List Nd)(x y:Int)(H:Aa)(hL:L.length<17592186044415)(hl:AV L=true)(hx:SB 99 x)(hy:SB 99 y) :
  Sh.f64 (Ef L) (big x) (big y) H=some (.ret (.int .u8 (getZ L x y)),H):=by
 unfold Sh.f64;simp only[GMw,boxQ,DO];have l1:(H++[Blk.cel 0 (Bv L)]).length=H.length+1:=by simp
 have l2:(H++[Blk.cel 0 (Bv L)]++[Blk.cel 0 (A3 x)]).length=H.length+2:=by simp
 have l3:(H++[Blk.cel 0 (Bv L)]++[Blk.cel 0 (A3 x)]++[Blk.cel 0 (A3 y)]).length=H.length+3:=by simp
 have three:∀(x y:Int),H++[Blk.cel 0 (Bv L)]++[Blk.cel 0 (A3 x)]++[Blk.cel 0 (A3 y)]=H++Blk.cel 0 (Bv L)::.cel 0 (A3 x)::.cel 0 (A3 y)::[]:=λx y=>by simp
 have gq:∀(x y:Int) (G:Aa),Ad true 1 (.ptr H.length 0 0) (H++Blk.cel 0 (Bv L)::.cel 0 (A3 x)::.cel 0 (A3 y)::G)=some (Ef L):=λx y G=>ML (by simp);have gn:∀(x y:Int) (G:Aa),Ad false 1 (.ptr H.length 0 0) (H++Blk.cel 0 (Bv L)::.cel 0 (A3 x)::.cel 0 (A3 y)::G)=some (.sl (enL cNd L) .no):=λx y G=>Fd (by simp);have gx:∀(x y:Int) (G:Aa),Ad true 2 (.ptr (H.length+1) 0 0) (H++Blk.cel 0 (Bv L)::.cel 0 (A3 x)::.cel 0 (A3 y)::G)=some (big x):=λx y G=>AS (by simp);have gy:∀(x y:Int) (G:Aa),Ad true 2 (.ptr (H.length+2) 0 0) (H++Blk.cel 0 (Bv L)::.cel 0 (A3 x)::.cel 0 (A3 y)::G)=some (big y):=λx y G=>AS (by simp);have px:∀(z x y:Int) (G:Aa),Ae 2 (.ptr (H.length+1) 0 0) (big z) (H++Blk.cel 0 (Bv L)::.cel 0 (A3 x)::.cel 0 (A3 y)::G)=some (H++Blk.cel 0 (Bv L)::.cel 0 (A3 z)::.cel 0 (A3 y)::G):=λz x y G=>by rw[BU (cs:=A3 x) (by simp) rfl];simp
 have py:∀(z x y:Int) (G:Aa),Ae 2 (.ptr (H.length+2) 0 0) (big z) (H++Blk.cel 0 (Bv L)::.cel 0 (A3 x)::.cel 0 (A3 y)::G)=some (H++Blk.cel 0 (Bv L)::.cel 0 (A3 x)::.cel 0 (A3 z)::G):=λz x y G=>by rw[BU (cs:=A3 y) (by simp) rfl];simp
 have fin:∀(q:Int) (G:Aa),rP H (.int .u8 q) (H++G)=some (.ret (.int .u8 q),H):=λq G=>HS;have lvl:=λH=>TU L .no H hL;rw[<-quad_eq]at lvl;rw[l1,l2,three];simp only[GMw,gq,lvl];unfold getZ;by_cases h0:L=[]
 ·simp only[if_pos h0,GMw,fin]
 ·rw[if_neg h0];have hlen:0<L.length:=Vq.2 h0;have hm:L.length-1<L.length:=by omega
  have hLv:Lv L (Cd L).toNat L.length:=⟨UK _,.inr rfl⟩;obtain⟨iN,hn2⟩:=hLv.num hlen hl;have lF:Cd L=((Cd L).toNat:Int):=iN;have hle:=Qg hl hlen (UK _);have iX:(Cd L).toNat<=1329:=hle;rw[if_neg h0];generalize (Cd L).toNat=v at hLv iN hn2 lF iX;rw[lF];have hv0:¬((v:Int)=0):=by omega
  have vS:=λH=>q08_in x v H (hx.mono (by omega)) hn2 (by omega);have vR:=λH=>q08_in y v H (hy.mono (by omega)) hn2 (by omega);simp only[GMw,hv0,gx,vS];cases inZ v x with
  | false=>simp only[GMw,fin]
  | true=>
   simp only[GMw,gy,vR];cases inZ v y with
   | false=>simp only[GMw,fin]
   | true=>
    have hw:IntKind.i64.wrap ((v:Int)-1)=((v-1:Nat):Int):=GX (by omega) (by omega);have uT:=EO (show v-1<=1400 by omega);have hp:=uT.lb (show 44<=549755813888 by decide);have bU:=λH=>Id (v-1) H (by omega);have ax:=λH=>FJ x (2^(v-1)) H (hx.lb (by decide)) hp;have ay:=λH=>FJ y (2^(v-1)) H (hy.lb (by decide)) hp;have mI:SB 100 (x+2^(v-1)):=hx.add (uT.mono (by omega));have kP:SB 100 (y+2^(v-1)):=hy.add (uT.mono (by omega));have l4:∀x y:Int,(H++Blk.cel 0 (Bv L)::.cel 0 (A3 x)::.cel 0 (A3 y)::[]).length=H.length+3:=λx y=>by simp
    have four:∀(x y:Int) (c:Blk),(H++Blk.cel 0 (Bv L)::.cel 0 (A3 x)::.cel 0 (A3 y)::[])++[c]=H++Blk.cel 0 (Bv L)::.cel 0 (A3 x)::.cel 0 (A3 y)::[c]:=λx y c=>by simp
    have ph:∀(x y:Int),Ae 2 (.ptr (H.length+3) 0 0) (big (2^(v-1))) (H++Blk.cel 0 (Bv L)::.cel 0 (A3 x)::.cel 0 (A3 y)::[.cel 0 [.bool false,.sl [] .ti]])=some (H++Blk.cel 0 (Bv L)::.cel 0 (A3 x)::.cel 0 (A3 y)::[.cel 0 (A3 (2^(v-1)))]):=λx y=>by rw[BU (cs:=[.bool false,.sl [] .ti]) (by simp) rfl];simp
    have gh:∀(x y:Int) (z:Int),Ad true 2 (.ptr (H.length+3) 0 0) (H++Blk.cel 0 (Bv L)::.cel 0 (A3 x)::.cel 0 (A3 y)::[.cel 0 (A3 z)])=some (big z):=λx y z=>AS (by simp);simp only[GMw,hw,bU,CL,l4,four,ph,gx,gh,and_true,eq_self,ax,gy,ay,px,py,Ah,UJ,gn,Ay];refine AZ (G:=λrec1 vs H1=>Sh.f7x H rec1 (ag vs 0) (ag vs 1) (ag vs 2) (ag vs 3) H1) (σ:=Nat×Nat×Int×Int×Aa) (λs=>Lv L s.1 s.2.1/\s.1<=1329/\SB 100 s.2.2.1/\SB 100 s.2.2.2.1)
     (λs=>[.ptr H.length 0 0,.ptr (H.length+1) 0 0,.ptr (H.length+2) 0 0,.i6 (s.2.1:Int)]) (λs=>H++Blk.cel 0 (Bv L)::.cel 0 (A3 s.2.2.1)::.cel 0 (A3 s.2.2.2.1)::s.2.2.2.2) (λs=>s.1)
     (λs=>some (.ret (.int .u8 (Tg L s.1 s.2.1 s.2.2.1 s.2.2.2.1)),H)) (λs rec hs hrec=>?_) (v,L.length,x+2^(v-1),y+2^(v-1),[.cel 0 (A3 (2^(v-1)))]) ⟨hLv,iX,mI,kP⟩ (by dsimp only;omega)
    obtain⟨u,n,a,b,G⟩:=s;obtain⟨s1,s2,s3,s4⟩:=hs;simp only at s1 s2 s3 s4 hrec ⊢;unfold Sh.f7x;by_cases hn:n=0
    ·subst hn;have:Tg L u 0 a b=0:=by cases u <;> simp[Tg]
     rw[this];simp only[GMw,show ((0:Nat):Int)=0 from rfl,show ¬((0:Int)>0) from by decide,fin]
    ·obtain⟨m,rfl⟩:∃m,n=m+1:=⟨n-1,by omega⟩;have hml:m<L.length:=s1.1;obtain⟨c1,c2⟩:=s1.num (by omega) hl;obtain⟨w,rfl⟩:∃w,u=w+1:=⟨u-1,by omega⟩;have cP:IntKind.i64.wrap (((m+1:Nat):Int)-1)=(m:Int):=by rw[Ao] <;> omega
     have hpos:((m+1:Nat):Int)>0:=by omega
     have hx:Bf L ((m+1:Nat):Int)=L[m]:=BD hml;have aT:L[m].lv=((w+1:Nat):Int):=by rw[<-hx];exact c1
     have zE:=λH=>q08_quarter (w+1) a b H (by omega) (by omega) s3 s4;have iZ:=qk_lt (w+1) a b;have tN:Tg L (w+1) (m+1) a b=if L[m].lv=1 then L[m].kid (qk (w+1) a b)else Tg L w (L[m].kid (qk (w+1) a b)).toNat (qd (w+1) a) (qd (w+1) b):=by
      conv=>lhs;unfold Tg
      rw[if_neg (by omega),hx]
     rw[tN];generalize hB:H++Blk.cel 0 (Bv L)::.cel 0 (A3 a)::.cel 0 (A3 b)::G=B;have n1:Ad false 1 (.ptr H.length 0 0) B=some (.sl (enL cNd L) .no):=by rw[<-hB];exact gn _ _ _
     have n2:Ad true 2 (.ptr (H.length+1) 0 0) B=some (big a):=by rw[<-hB];exact gx _ _ _
     have n3:Ad true 2 (.ptr (H.length+2) 0 0) B=some (big b):=by rw[<-hB];exact gy _ _ _
     have lB:(B++[Blk.cel 0 [Ab.bool false,.sl [] .ti]]).length=B.length+1:=by simp
     have t0:=λ(z:Int) (c:List Ab)=>st0 (Hc:=B) (a:=[.bool false,.sl [] .ti]) (c:=c) (z:=z) rfl;have t1:=λ(z:Int) (a:List Ab)=>st1 (Hc:=B) (a:=a) (c:=[.bool false,.sl [] .ti]) (z:=z) rfl;have shape:∀(a b:Int) (c d:Blk),H++Blk.cel 0 (Bv L)::.cel 0 (A3 a)::.cel 0 (A3 b)::G++[c]++[d]=H++Blk.cel 0 (Bv L)::.cel 0 (A3 a)::.cel 0 (A3 b)::(G++[c,d]):=λa b c d=>by simp
     have m1:∀c d:Blk,Ad false 1 (.ptr H.length 0 0) (B++[c]++[d])=some (.sl (enL cNd L) .no):=λc d=>by rw[<-hB,shape];exact gn _ _ _
     simp only[GMw,Ai,hpos,Ah,UJ,n1,cP,A4 hml,Au,AF,Nat.add_zero,Cy,aT,n2,n3,zE,Bt,Bz,Uz,CL,lB,t0,t1,m1,ER iZ,UW,Ez iZ];by_cases h1:((w+1:Nat):Int)=1
     ·have hst:=(AW hl hml).2.2 (qk (w+1) a b) iZ;have yP:IntKind.u8.wrap (L[m].kid (qk (w+1) a b))=L[m].kid (qk (w+1) a b):=NK hst.1 (by have:=hst.2.1 (by rw[aT];exact h1);omega);have:(H++Blk.cel 0 (Bv L)::.cel 0 (A3 a)::.cel 0 (A3 b)::G++[Blk.cel 0 (A3 (qd (w+1) a))]++[Blk.cel 0 (A3 (qd (w+1) b))])=H++(Blk.cel 0 (Bv L)::.cel 0 (A3 a)::.cel 0 (A3 b)::(G++[Blk.cel 0 (A3 (qd (w+1) a)),.cel 0 (A3 (qd (w+1) b))])):=shape _ _ _ _;rw[<-hB,this];simp only[h1,GMw,Bl,yP,fin]
     ·have e66:Ad true 2 (.ptr B.length 0 0) (B++[Blk.cel 0 (A3 (qd (w+1) a))]++[Blk.cel 0 (A3 (qd (w+1) b))])=some (big (qd (w+1) a)):=AS (by simp);have e68:∀a',Ad true 2 (.ptr (B.length+1) 0 0) (H++Blk.cel 0 (Bv L)::.cel 0 (A3 a')::.cel 0 (A3 b)::(G++[Blk.cel 0 (A3 (qd (w+1) a)),.cel 0 (A3 (qd (w+1) b))]))=some (big (qd (w+1) b)):=λa'=>by
       rw[<-shape];have:B.length+1=(H++Blk.cel 0 (Bv L)::.cel 0 (A3 a')::.cel 0 (A3 b)::G++[Blk.cel 0 (A3 (qd (w+1) a))]).length:=by rw[<-hB];simp;omega
       rw[this];exact AS Ap
      have kT:B++[Blk.cel 0 (A3 (qd (w+1) a))]++[Blk.cel 0 (A3 (qd (w+1) b))]=H++Blk.cel 0 (Bv L)::.cel 0 (A3 a)::.cel 0 (A3 b)::(G++[Blk.cel 0 (A3 (qd (w+1) a)),.cel 0 (A3 (qd (w+1) b))]):=by rw[<-hB];exact shape _ _ _ _
      simp only[h1,GMw,e66];rw[kT];simp only[GMw,px,e68,and_true,eq_self,py,if_false];obtain⟨k1,k2,k3⟩:=Lv.kid hl (by omega) s1 (by rw[hx,aT];omega) iZ;rw[hx]at k1 k2 k3;have:=hrec (w,(L[m].kid (qk (w+1) a b)).toNat,qd (w+1) a,qd (w+1) b,G++[Blk.cel 0 (A3 (qd (w+1) a)),.cel 0 (A3 (qd (w+1) b))]) ⟨k1,by dsimp only;omega,qd_sb s3,qd_sb s4⟩ (by dsimp only;omega);rw[show (((L[m].kid (qk (w+1) a b)).toNat:Nat):Int)=L[m].kid (qk (w+1) a b) from by omega]at this;exact this
def cBO:Option Int->List Ab
 | none=>[.bool false,.sl [] .ti]
 | some z=>A3 z
instance:Sz cBO 2:=⟨λa=>by cases a <;> rfl⟩
instance:Pl cBO:=⟨λa=>by cases a <;> rfl⟩
def bo (a:Option Int):Int:=a.getD 0
def Do (nf:Nat->Nat)(E:List (Option Int))(x:Nd)(j:Nat):Int:=
 (if 1<j then 2^(x.lv.toNat-1)else 0)+(if 1<x.lv then bo (E.getD (x.kid (nf j)).toNat none)else 0)
def DG (nf:Nat->Nat)(E:List (Option Int))(x:Nd)(j:Nat):Option Int:=
 if 1<x.lv then some (Do nf E x j)else if 1<j then some (2^(x.lv.toNat-1))else none
theorem LX (nf:Nat->Nat)(E:List (Option Int))(x:Nd)(j:Nat):bo (DG nf E x j)=Do nf E x j:=by
 unfold DG;split
 ·rfl
 ·rename_i h;unfold Do;rw[if_neg h];split <;> simp[bo]
def CZ (nf:Nat->Nat)(E:List (Option Int))(x:Nd):Nat->Bool×Option Int
 | 0=>(false,none)
 | j+1=>if x.kid (nf j)=0 then CZ nf E x j
  else if (CZ nf E x j).1=false\/Do nf E x j<bo (CZ nf E x j).2 then (true,DG nf E x j)else CZ nf E x j
def CE (nf:Nat->Nat)(L:List Nd):List (Option Int):=L.foldl (λE x=>E++[(CZ nf E x 4).2]) [none]
theorem edgeL_snoc (nf:Nat->Nat)(L:List Nd)(x:Nd):CE nf (L++[x])=CE nf L++[(CZ nf (CE nf L) x 4).2]:=by simp[CE]
theorem Ho (nf:Nat->Nat)(L:List Nd):(CE nf L).length=L.length+1:=by
 have key:∀(l:List Nd) (E:List (Option Int)),(l.foldl (λE x=>E++[(CZ nf E x 4).2]) E).length=l.length+E.length:=by
  intro l
  induction l with
  | nil=>intro E;simp
  | cons a l ih=>intro E;simp only[List.foldl_cons,ih];simp;omega
 unfold CE;rw[key];simp
theorem K4 (nf:Nat->Nat)(L:List Nd){i:Nat}(hi:i<L.length):CE nf (L.take (i+1))=CE nf (L.take i)++[(CZ nf (CE nf (L.take i)) L[i] 4).2]:=by
 rw[UR hi,edgeL_snoc]
def EB (L:List Nd)(E:List (Option Int)):Prop:=∀(m:Nat) (x:Nd) (o:Option Int),L[m]? = some x->E[m+1]? = some o->0<=bo o/\bo o<2^x.lv.toNat
theorem edgeJ_b {nf:Nat->Nat}{E:List (Option Int)}{x:Nd}{j:Nat}(hx:1<=x.lv)(hE:1<x.lv->0<=bo (E.getD (x.kid (nf j)).toNat none)/\bo (E.getD (x.kid (nf j)).toNat none)<2^(x.lv.toNat-1)):0<=Do nf E x j/\Do nf E x j<2^x.lv.toNat:=by
 unfold Do;have e:(2:Int)^x.lv.toNat=2^(x.lv.toNat-1)*2:=by rw[<-WX];congr 1;omega
 have hp:(0:Int)<2^(x.lv.toNat-1):=WG (by omega);rw[e];by_cases h1:1<x.lv
 ·obtain⟨h2,h3⟩:=hE h1;rw[if_pos h1];generalize (2:Int)^(x.lv.toNat-1)=p at *;split <;> omega
 ·rw[if_neg h1];generalize (2:Int)^(x.lv.toNat-1)=p at *;split <;> omega
theorem QW {nf:Nat->Nat}{E:List (Option Int)}{x:Nd}(hb:∀j,j<4->0<=Do nf E x j/\Do nf E x j<2^x.lv.toNat):∀j,j<=4->0<=bo (CZ nf E x j).2/\bo (CZ nf E x j).2<2^x.lv.toNat
 | 0,_=>⟨WH _,WG (by omega)⟩
 | j+1,hj=>by
  unfold CZ;split
  ·exact QW hb j (by omega)
  ·split
   ·rw[LX];exact hb j (by omega)
   ·exact QW hb j (by omega)
theorem S7 {nf:Nat->Nat}(gB:∀j,nf j<4){L:List Nd}(hl:AV L=true){i:Nat}(hi:i<L.length)(hE:EB (L.take i) (CE nf (L.take i)))(j:Nat)(h1:1<L[i].lv):0<=bo ((CE nf (L.take i)).getD (L[i].kid (nf j)).toNat none)/\bo ((CE nf (L.take i)).getD (L[i].kid (nf j)).toNat none)<2^(L[i].lv.toNat-1):=by
 obtain⟨l1,l2,l3⟩:=AW hl hi;obtain⟨q1,q2,q3⟩:=l3 (nf j) (gB j);have hp:(0:Int)<2^(L[i].lv.toNat-1):=WG (by omega);by_cases hc:0<L[i].kid (nf j)
 ·obtain⟨r1,r2⟩:=q3 h1 hc;obtain⟨m,hm⟩:∃m:Nat,(L[i].kid (nf j)).toNat=m+1:=⟨(L[i].kid (nf j)).toNat-1,by omega⟩;have qT:m<i:=by omega
  have hml:m<L.length:=by omega
  have hlen:=Ho nf (L.take i);rw[UY,VF (by omega)]at hlen;have hlt:m+1<(CE nf (L.take i)).length:=by omega
  have:=hE m L[m] _ (by rw[V9 qT,UG hml]) (UG hlt);have aT:=r2 L[m] (by rw[show (L[i].kid (nf j)-1).toNat=m from by omega];exact UG hml);rw[hm,UN,UG hlt,show L[i].lv.toNat-1=L[m].lv.toNat from by omega];exact this
 ·rw[show (L[i].kid (nf j)).toNat=0 from by omega];have h0:(CE nf (L.take i)).getD 0 none=none:=by
   have key:∀(l:List Nd) (E:List (Option Int)),E[0]? = some none->(l.foldl (λE x=>E++[(CZ nf E x 4).2]) E)[0]? = some none:=by
    intro l
    induction l with
    | nil=>intro E h;exact h
    | cons a l ih=>intro E h;exact ih _ (by rw[UL (UH.1 h).1];exact h)
   rw[UN,show (CE nf (L.take i))[0]? = some none from key _ [none] rfl];rfl
  rw[h0];exact⟨WH _,hp⟩
theorem edgeL_b {nf:Nat->Nat}(gB:∀j,nf j<4){L:List Nd}(hl:AV L=true):∀i,i<=L.length->EB (L.take i) (CE nf (L.take i))
 | 0,_=>by intro m x o h;simp at h
 | i+1,h=>by
  have ih:=edgeL_b gB hl i (by omega);rw[K4 nf L h];intro m x o hx hz;have hlen:=Ho nf (L.take i);rw[UY,VF (by omega)]at hlen;by_cases hn:m<i
  ·rw[UL (by omega)]at hz;rw[V9 (by omega)]at hx;exact ih m x o (by rw[V9 hn];exact hx) hz
  ·rw[Vo (by omega),hlen]at hz;have qT:m=i:=by
    have:=(UH.1 hz).1;simp at this;omega
   subst qT;simp only[Vr,zXh,UQ]at hz;rw[V9 (by omega),UG h]at hx;injection hx with hx;rw[<-hx,<-hz];exact QW (λj _=>edgeJ_b (AW hl h).1 (S7 gB hl h ih j)) 4 (UK _)
section
variable {len sz id g o m p:Nat}{K:IntKind}{Hc:Aa}{nf:Nat->Nat}
theorem idx_arr (h:m<len):B8 len sz (.ptr id g o) (.int K (m:Int))=some (.ptr id g (o+m*sz)):=by
 unfold B8;simp only[];rw[if_pos ⟨by omega,by omega⟩];simp
def Gb (a b:Nat):List Ab:=[.i6 (a:Int),.i6 (b:Int)]
theorem load_two {a b:Nat}(hg:Hc[p]? = some (.cel 0 (Gb a b)))(h:m<2):Ad false 1 (.ptr p 0 m) Hc=some (.i6 ((if m=0 then a else b:Nat):Int)):=by
 simp only[Ad,A1 hg,zXa,UM,if_false]
 match m,h with
 | 0,_=>rfl
 | 1,_=>rfl
theorem G6 {a:Option Int}(hg:Hc[p]? = some (.cel 0 (cBO a))):Ad true 2 (.ptr p 0 0) Hc=some (.agg (cBO a)):=by
 simp only[Ad,A1 hg,zXa,if_true];cases a <;> rfl
theorem SV (a:Option Int):(Ab.agg (cBO a)).acells=some (cBO a):=by cases a <;> rfl
theorem OQ {a:Option Int}{cs:List Ab}(hg:Hc[p]? = some (.cel 0 cs))(hl:cs.length=2):Ae 2 (.ptr p 0 0) (.agg (cBO a)) Hc=some (Hc.set p (.cel 0 (cBO a))):=by
 simp only[Ae,A1 hg,zXa,SV,B5 hg,DB hl];rw[if_pos ⟨by cases a <;> rfl,by omega⟩]

end
theorem big_BO (z:Int):big z=.agg (cBO (some z)):=rfl
def Rep (z:Int)(cs:List Ab):Prop:=∃n l tk,cs=[.bool n,.sl (enL cU l) tk]/\l.length<=549755813888/\Lim l/\Ec n l=z
theorem Rep.big {z:Int}(h:LB z):Rep z (A3 z):=⟨decide (z<0),A6 z.natAbs,.no,rfl,h,Br _,KZ z⟩
theorem Rep.bo {a:Option Int}(h:LB (bo a)):Rep (Go.Gm.bo a) (cBO a):=by
 cases a with
 | none=>exact⟨false,[],.ti,rfl,by simp,(λx hx=>by simp at hx),rfl⟩
 | some z=>exact Rep.big h
theorem Rep.lb {z:Int}{cs:List Ab}(h:Rep z cs):LB z:=by
 obtain⟨n,l,tk,_,h2,h3,rfl⟩:=h;unfold LB;rw[bigI_abs];exact Vf (Fe (val_lt l h3)) h2
theorem addR {a b:Int}{cs ds:List Ab}(ha:Rep a cs)(hb:Rep b ds)(H:Aa):Sh.f0 (.agg cs) (.agg ds) H=some (.ret (Go.Gm.big (a+b)),H):=by
 obtain⟨n1,l1,t1,rfl,b1,x1,rfl⟩:=ha;obtain⟨n2,l2,t2,rfl,b2,x2,rfl⟩:=hb;exact q02_add _ _ _ _ _ _ _ b1 b2 x1 x2
theorem minusR {a:Int}{cs:List Ab}(ha:Rep a cs)(H:Aa):Sh.fh (.agg cs) H=some (.ret (Go.Gm.big (-a)),H):=by
 obtain⟨n1,l1,t1,rfl,b1,x1,rfl⟩:=ha;exact OZ _ _ _ _ (by omega) x1
theorem boxR {a:Int}{cs:List Ab}(ha:Rep a cs)(H:Aa):Bu true 2 (.agg cs) H=some (.ptr H.length 0 0,H++[.cel 0 cs]):=by
 obtain⟨n1,l1,t1,rfl,b1,x1,rfl⟩:=ha;exact Cz rfl rfl
theorem loadR {a:Int}{cs:List Ab}{H:Aa}{p:Nat}(ha:Rep a cs)(hg:H[p]? = some (.cel 0 cs)):Ad true 2 (.ptr p 0 0) H=some (.agg cs):=by
 obtain⟨n1,l1,t1,rfl,b1,x1,rfl⟩:=ha;simp only[Ad,A1 hg,zXa];rfl
theorem subR {a b:Int}{cs ds:List Ab}(ha:Rep a cs)(hb:Rep b ds)(H:Aa):Sh.fl (.agg cs) (.agg ds) H=some (.ret (Go.Gm.big (a-b)),H):=by
 unfold Sh.fl;have e1:(H++[Blk.cel 0 cs]++[Blk.cel 0 ds]++[Blk.cel 0 [.bool false,.sl [] .ti]])[H.length]? = some (.cel 0 cs):=by simp
 have e2:(H++[Blk.cel 0 cs]++[Blk.cel 0 ds]++[Blk.cel 0 [.bool false,.sl [] .ti]])[(H++[Blk.cel 0 cs]).length]? = some (.cel 0 ds):=by simp
 have hz:=Rep.big hb.lb.neg;simp only[GMw,boxR ha,boxR hb,CL,loadR ha e1,loadR hb e2,minusR hb,and_true,eq_self];rw[<-SU (-b)];simp only[GMw,addR ha hz,BU (Ap (B:=H++[Blk.cel 0 cs]++[Blk.cel 0 ds]) (cs:=[.bool false,.sl [] .ti])) rfl,Ba,AS Ap];rw[show a + -b=a-b from rfl];simp only[UP,C6,fall_big,zXb]
theorem cmpR {a b:Int}{cs ds:List Ab}(ha:Rep a cs)(hb:Rep b ds)(H:Aa):Sh.f1 (.agg cs) (.agg ds) H=some (.ret (.i6 (FC a b)),H):=by
 unfold Sh.f1;have e1:(H++[Blk.cel 0 cs]++[Blk.cel 0 ds])[H.length]? = some (.cel 0 cs):=by simp
 have e2:(H++[Blk.cel 0 cs]++[Blk.cel 0 ds])[(H++[Blk.cel 0 cs]).length]? = some (.cel 0 ds):=Ap;simp only[GMw,boxR ha,boxR hb,loadR ha e1,loadR hb e2,subR ha hb,CL];generalize hB:H++[Blk.cel 0 cs]++[Blk.cel 0 ds]=B;have g0:Ad false 1 (.ptr B.length 0 0) (B++[Blk.cel 0 (A3 (a-b))])=some (.bool (decide (a-b<0))):=by
  simp only[Ad,A1 Ap,zXa];rfl
 have g1:Ad false 1 (.ptr B.length 0 1) (B++[Blk.cel 0 (A3 (a-b))])=some (.sl (enL cU (A6 (a-b).natAbs)) .no):=by
  simp only[Ad,A1 Ap,zXa];rfl
 have fin:∀q:Int,rP H (.i6 q) (B++[Blk.cel 0 (A3 (a-b))])=some (.ret (.i6 q),H):=λq=>by rw[<-hB];simp only[UP];exact HS
 simp only[BU (Ap (B:=B) (cs:=[.bool false,.sl [] .ti])) rfl,Ba,GMw,Ah,UJ,Nat.add_zero,g0,g1,Ay];unfold FC;by_cases h0:a=b
 ·subst h0;have:((A6 (a-a).natAbs).length:Int)=0:=by rw[Int.sub_self];simp[DX]
  simp only[this,GMw,fin,V3]
 ·have hne:A6 (a-b).natAbs≠[]:=Oj (by omega);have hp:=Vq.2 hne;have hz:¬((A6 (a-b).natAbs).length:Int)=0:=by omega
  by_cases hn:a<b
  ·have h1:a-b<0:=by omega
   simp only[hz,GMw,h1,hn,fin]
  ·have h1:¬a-b<0:=by omega
   simp only[hz,GMw,h1,hn,h0,fin]
def ID (x:Nd)(j:Nat):Option Int:=if 1<j then some (2^(x.lv.toNat-1))else none
theorem boxTwo (a b:Nat)(H:Aa):Bu true 2 (.agg (Gb a b)) H=some (.ptr H.length 0 0,H++[.cel 0 (Gb a b)]):=Cz rfl rfl
theorem edge_turn {nf:Nat->Nat}(gB:∀j,nf j<4){L:List Nd}(tk:Tok)(H Hc:Aa)(E:List (Option Int))(i j pN pF id ph:Nat)(hi:i<L.length)(hj:j<4)(hL:L.length<549755813888)
  (hE:E.length=L.length+1)(aT:1<=L[i].lv/\L[i].lv<=1329)(cJ:0<=L[i].kid (nf j))(iP:1<L[i].lv->(L[i].kid (nf j)).toNat<E.length/\(L[i].kid (nf j)).toNat≠i+1/\LB (bo (E.getD (L[i].kid (nf j)).toNat none)))
  (hJ:LB (Do nf E L[i] j))(q:Bool×Option Int)(hq:LB (bo q.2))(yD:H.length<=pN/\H.length<=pF/\H.length<=id/\H.length<=ph)(dN:pN≠id)(dF:pF≠id)(dH:ph≠id)
  (fN:Hc[pN]? = some (.cel 0 (Gb (nf 0) (nf 1))))(fF:Hc[pF]? = some (.cel 0 (Gb (nf 2) (nf 3))))(fR:Hc[id]? = some (.cel 0 (flat cBO (E.set (i+1) q.2))))(fH:Hc[ph]? = some (.cel 0 (A3 (2^(L[i].lv.toNat-1)))))(hold:∀k,k<H.length->Hc[k]? = H[k]?)(hlen:H.length<=Hc.length) :
  ∃Hd,(∀rec1 aA:LK,Sh.f5y H rec1 aA (.sl (enL cNd L) tk) (.ptr pN 0 0) (.ptr pF 0 0) (.ms id 0 0 (L.length+1) (L.length+1) 2 true) (.i6 (i:Int)) (.ptr ph 0 0) (.bool q.1) (.i6 (j:Int)) Hc=aA [.sl (enL cNd L) tk,.ptr pN 0 0,.ptr pF 0 0,.ms id 0 0 (L.length+1) (L.length+1) 2 true,.i6 (i:Int),.ptr ph 0 0,.bool (if L[i].kid (nf j)=0 then q else if q.1=false\/Do nf E L[i] j<bo q.2 then (true,DG nf E L[i] j)else q).1,.i6 ((j+1:Nat):Int)] Hd) /\
   Hd[pN]? = some (.cel 0 (Gb (nf 0) (nf 1)))/\Hd[pF]? = some (.cel 0 (Gb (nf 2) (nf 3)))/\Hd[id]? = some (.cel 0 (flat cBO (E.set (i+1) (if L[i].kid (nf j)=0 then q else if q.1=false\/Do nf E L[i] j<bo q.2 then (true,DG nf E L[i] j)else q).2)))/\Hd[ph]? = some (.cel 0 (A3 (2^(L[i].lv.toNat-1))))/\(∀k,k<H.length->Hd[k]? = H[k]?)/\H.length<=Hd.length:=by
 have hj':(j:Int)<4:=by omega
 have aM:=As (show j<9223372036854775807 by omega);have cM:=As (show i<9223372036854775807 by omega);have hm2:j%2<2:=Ws _ (by omega);have nQ:(j:Int).tmod 2=((j%2:Nat):Int):=rfl;have hgt:decide ((j:Int)>1)=decide (1<j):=by rw[Va];simp only[zXe];omega
 have tJ:nf j=if 1<j then (if j%2=0 then nf 2 else nf 3)else (if j%2=0 then nf 0 else nf 1):=by
  match j,hj with
  | 0,_=>rfl
  | 1,_=>rfl
  | 2,_=>rfl
  | 3,_=>rfl
 have hz:Az (some [(.bool false),(.sl [] .ti)]) []=some (.agg (cBO none)):=rfl;generalize hB:Hc++[Blk.cel 0 (cBO (ID L[i] j))]=B;have bN:B[pN]? = some (.cel 0 (Gb (nf 0) (nf 1))):=by rw[<-hB];exact A0 fN
 have bF:B[pF]? = some (.cel 0 (Gb (nf 2) (nf 3))):=by rw[<-hB];exact A0 fF
 have bR:B[id]? = some (.cel 0 (flat cBO (E.set (i+1) q.2))):=by rw[<-hB];exact A0 fR
 have bH:B[ph]? = some (.cel 0 (A3 (2^(L[i].lv.toNat-1)))):=by rw[<-hB];exact A0 fH
 have bM:B[Hc.length]? = some (.cel 0 (cBO (ID L[i] j))):=by rw[<-hB];exact Ap
 have bold:∀k,k<H.length->B[k]? = H[k]? := λk hk=>by rw[<-hB,UL (by omega)];exact hold k hk
 have bl:B.length=Hc.length+1:=by rw[<-hB];simp
 suffices hs:∃Hd,(∀aA:LK,Sh.f5x H (λvs H1=>Sh.f1j H aA (ag vs 0) (ag vs 1) (ag vs 2) (ag vs 3) (ag vs 4) (ag vs 5) (ag vs 6) (ag vs 7) H1) (.sl (enL cNd L) tk) (.ptr pN 0 0) (.ptr pF 0 0) (.ms id 0 0 (L.length+1) (L.length+1) 2 true) (.i6 (i:Int)) (.ptr ph 0 0) (.bool q.1) (.i6 (j:Int)) (.i6 (nf j:Int)) (.ptr Hc.length 0 0) B=aA [.sl (enL cNd L) tk,.ptr pN 0 0,.ptr pF 0 0,.ms id 0 0 (L.length+1) (L.length+1) 2 true,.i6 (i:Int),.ptr ph 0 0,.bool (if L[i].kid (nf j)=0 then q else if q.1=false\/Do nf E L[i] j<bo q.2 then (true,DG nf E L[i] j)else q).1,.i6 ((j+1:Nat):Int)] Hd) /\
   Hd[pN]? = some (.cel 0 (Gb (nf 0) (nf 1)))/\Hd[pF]? = some (.cel 0 (Gb (nf 2) (nf 3)))/\Hd[id]? = some (.cel 0 (flat cBO (E.set (i+1) (if L[i].kid (nf j)=0 then q else if q.1=false\/Do nf E L[i] j<bo q.2 then (true,DG nf E L[i] j)else q).2)))/\Hd[ph]? = some (.cel 0 (A3 (2^(L[i].lv.toNat-1))))/\(∀k,k<H.length->Hd[k]? = H[k]?)/\H.length<=Hd.length by
  obtain⟨Hd,h1,h2⟩:=hs;refine⟨Hd,λrec1 aA=>?_,h2⟩;have hst:∀a:Option Int,Ae 2 (.ptr Hc.length 0 0) (.agg (cBO a)) (Hc++[Blk.cel 0 (cBO none)])=some (Hc++[Blk.cel 0 (cBO a)]):=λa=>by rw[OQ (Ap (B:=Hc)) rfl,Ba]
  have iG:Ax (some [.bool false,.sl [] .ti]) Hc=some (.ptr Hc.length 0 0,Hc++[.cel 0 (cBO none)]):=CL Hc;unfold Sh.f5y;simp only[GMw,hj',Is (show (2:Int)≠0 by decide),nQ,idx_arr hm2,UJ,UW,load_two fN hm2,hz,iG,hst,Ai,hgt];by_cases pP:1<j
  ·have hF:(Hc++[Blk.cel 0 (cBO none)])[pF]? = some (.cel 0 (Gb (nf 2) (nf 3))):=A0 fF;have hH:(Hc++[Blk.cel 0 (cBO none)])[ph]? = some (.cel 0 (A3 (2^(L[i].lv.toNat-1)))):=A0 fH;rw[if_pos pP]at tJ;have qS:ID L[i] j=some (2^(L[i].lv.toNat-1)):=by unfold ID;rw[if_pos pP]
   simp only[GMw,pP,Ai,idx_arr hm2,UJ,UW,load_two hF hm2,AS hH];rw[big_BO];simp only[GMw,hst];rw[<-qS,hB,<-tJ];exact h1 aA
  ·rw[if_neg pP]at tJ;have qS:ID L[i] j=none:=by unfold ID;rw[if_neg pP]
   simp only[GMw,pP,Ai];rw[<-qS,hB,<-tJ];exact h1 aA
 have tI:=gB j;have hEl:(E.set (i+1) q.2).length=L.length+1:=by simp[hE]
 by_cases iO:L[i].kid (nf j)=0
 ·refine⟨B,λaA=>?_,bN,bF,by rw[if_pos iO];exact bR,bH,bold,by omega⟩;unfold Sh.f5x;simp only[GMw,Au,Ah,AF,UJ,Nat.add_zero,UW,Cy,A4 hi,ER tI,Ez tI,iO,Ai,Sh.f1j,aM]
 ·-- the distance
  obtain⟨c,hc⟩:=VB cJ;have eL:(L[i].kid (nf j)).toNat=c:=by omega
  rw[eL]at iP;generalize hD:B++[Blk.cel 0 (cBO (DG nf E L[i] j))]=D;have dn:D[pN]? = some (.cel 0 (Gb (nf 0) (nf 1))):=by rw[<-hD];exact A0 bN
  have df:D[pF]? = some (.cel 0 (Gb (nf 2) (nf 3))):=by rw[<-hD];exact A0 bF
  have dr:D[id]? = some (.cel 0 (flat cBO (E.set (i+1) q.2))):=by rw[<-hD];exact A0 bR
  have dh:D[ph]? = some (.cel 0 (A3 (2^(L[i].lv.toNat-1)))):=by rw[<-hD];exact A0 bH
  have dd:D[B.length]? = some (.cel 0 (cBO (DG nf E L[i] j))):=by rw[<-hD];exact Ap
  have dold:∀k,k<H.length->D[k]? = H[k]? := λk hk=>by rw[<-hD,UL (by omega)];exact bold k hk
  have dl:D.length=B.length+1:=by rw[<-hD];simp
  have lY:=(UH.1 dr).1;have iJ:=CS (sz:=2) (id:=id) (n:=L.length+1) (K:=.i64) (g:=0) (off:=0) (cap:=L.length+1) (ex:=true) (i:=i+1) (by omega);rw[UJ]at iJ;have oC:=load_elA (f:=cBO) (sz:=2) (A1 dr) (i:=i+1) (by omega);rw[Xw]at oC;have nK:=DW (f:=cBO) (sz:=2) (l:=E.set (i+1) q.2) (i:=i+1) (a:=DG nf E L[i] j) (v:=.agg (cBO (DG nf E L[i] j))) (A1 dr) (by omega) (SV _);rw[B5 dr,Xq]at nK;have hJ':LB (bo (DG nf E L[i] j)):=by rw[LX];exact hJ
  have dU:=λH=>cmpR (Rep.bo hJ') (Rep.bo hq) H;simp only[LX]at dU;have h5:∃Hd,(∀aA:LK,Sh.f39 H (λvs H1=>Sh.f1j H aA (ag vs 0) (ag vs 1) (ag vs 2) (ag vs 3) (ag vs 4) (ag vs 5) (ag vs 6) (ag vs 7) H1) (.sl (enL cNd L) tk) (.ptr pN 0 0) (.ptr pF 0 0) (.ms id 0 0 (L.length+1) (L.length+1) 2 true) (.i6 (i:Int)) (.ptr ph 0 0) (.bool q.1) (.i6 (j:Int)) (.ptr B.length 0 0) D=aA [.sl (enL cNd L) tk,.ptr pN 0 0,.ptr pF 0 0,.ms id 0 0 (L.length+1) (L.length+1) 2 true,.i6 (i:Int),.ptr ph 0 0,.bool (if q.1=false\/Do nf E L[i] j<bo q.2 then (true,DG nf E L[i] j)else q).1,.i6 ((j+1:Nat):Int)] Hd) /\
    Hd[pN]? = some (.cel 0 (Gb (nf 0) (nf 1)))/\Hd[pF]? = some (.cel 0 (Gb (nf 2) (nf 3)))/\Hd[id]? = some (.cel 0 (flat cBO (E.set (i+1) (if q.1=false\/Do nf E L[i] j<bo q.2 then (true,DG nf E L[i] j)else q).2)))/\Hd[ph]? = some (.cel 0 (A3 (2^(L[i].lv.toNat-1))))/\(∀k,k<H.length->Hd[k]? = H[k]?)/\H.length<=Hd.length:=by
   have put:(D.set id (.cel 0 (flat cBO (E.set (i+1) (DG nf E L[i] j)))))[pN]? = some (.cel 0 (Gb (nf 0) (nf 1)))/\(D.set id (.cel 0 (flat cBO (E.set (i+1) (DG nf E L[i] j)))))[pF]? = some (.cel 0 (Gb (nf 2) (nf 3)))/\(D.set id (.cel 0 (flat cBO (E.set (i+1) (DG nf E L[i] j)))))[id]? = some (.cel 0 (flat cBO (E.set (i+1) (DG nf E L[i] j))))/\(D.set id (.cel 0 (flat cBO (E.set (i+1) (DG nf E L[i] j)))))[ph]? = some (.cel 0 (A3 (2^(L[i].lv.toNat-1))))/\(∀k,k<H.length->(D.set id (.cel 0 (flat cBO (E.set (i+1) (DG nf E L[i] j)))))[k]? = H[k]?)/\H.length<=(D.set id (.cel 0 (flat cBO (E.set (i+1) (DG nf E L[i] j))))).length:=
    ⟨by rw[UI dN.symm];exact dn,by rw[UI dF.symm];exact df,by rw[UT lY],by rw[UI dH.symm];exact dh,λk hk=>by rw[UI (by omega)];exact dold k hk,by simp;omega⟩
   cases mP:q.1 with
   | false=>
    rw[if_pos (Or.inl rfl)];refine⟨_,λaA=>?_,put⟩;unfold Sh.f39;simp only[GMw,G6 dd,cM,iJ,nK,Ai,Sh.f1j,aM]
   | true=>
    by_cases hlt:Do nf E L[i] j<bo q.2
    ·rw[if_pos (Or.inr hlt)];refine⟨_,λaA=>?_,put⟩;unfold Sh.f39;simp only[GMw,G6 dd,cM,iJ,oC,dU,FX,hlt,nK,Ai,Sh.f1j,aM]
    ·rw[if_neg (by intro h;rcases h with h | h;cases h;exact hlt h)];refine⟨D,λaA=>?_,dn,df,dr,dh,dold,by omega⟩;unfold Sh.f39;simp only[GMw,G6 dd,cM,iJ,oC,dU,FX,hlt,Ai,Sh.f1j,aM,mP]
  rw[if_neg iO];obtain⟨Hd,g1,g2⟩:=h5;refine⟨Hd,λaA=>?_,g2⟩;have jA:¬(c:Int)=0:=by rw[<-hc];exact iO
  have hst:∀a:Option Int,∀cs:Option Int,Ae 2 (.ptr B.length 0 0) (.agg (cBO a)) (B++[Blk.cel 0 (cBO cs)])=some (B++[Blk.cel 0 (cBO a)]):=λa cs=>by rw[OQ (Ap (B:=B)) (by cases cs <;> rfl),Ba]
  have iG:Ax (some [.bool false,.sl [] .ti]) B=some (.ptr B.length 0 0,B++[.cel 0 (cBO none)]):=CL B;unfold Sh.f5x;simp only[GMw,Au,Ah,AF,UJ,Nat.add_zero,UW,Cy,A4 hi,ER tI,Ez tI,hc,jA,G6 bM,iG,hst,Ai];by_cases h1:1<L[i].lv
  ·have eO:L[i].lv>1:=h1;obtain⟨i1,i2,i3⟩:=iP h1;have hB1M:(B++[Blk.cel 0 (cBO (ID L[i] j))])[Hc.length]? = some (.cel 0 (cBO (ID L[i] j))):=A0 bM;have hB1R:(B++[Blk.cel 0 (cBO (ID L[i] j))])[id]? = some (.cel 0 (flat cBO (E.set (i+1) q.2))):=A0 bR;have mM:=CS (sz:=2) (id:=id) (n:=L.length+1) (K:=.i64) (g:=0) (off:=0) (cap:=L.length+1) (ex:=true) (i:=c) (by omega);rw[UJ]at mM;have rD:=load_elA (f:=cBO) (sz:=2) (A1 hB1R) (i:=c) (by omega);rw[List.getElem_set_ne (by omega)]at rD;have eQ:E.getD c none=E[c]:=by rw[UN,UG i1];rfl
   rw[eQ]at i3;have vG:LB (bo (ID L[i] j)):=by
    unfold ID;split
    ·exact (EO (by omega)).lb (by decide)
    ·exact LB_zero
   have gK:=λH=>addR (Rep.bo vG) (Rep.bo i3) H;have gQ:bo (ID L[i] j)+bo E[c]=Do nf E L[i] j:=by
    unfold Do ID;rw[if_pos h1,eL,eQ];split <;> rfl
   have hDd:DG nf E L[i] j=some (Do nf E L[i] j):=by unfold DG;rw[if_pos h1]
   simp only[GMw,eO,G6 hB1M,mM,rD,gK,gQ];rw[big_BO,<-hDd];simp only[GMw,hst,hD,Ai];exact g1 aA
  ·have eO:¬L[i].lv>1:=h1;have hDd:DG nf E L[i] j=ID L[i] j:=by unfold DG ID;rw[if_neg h1]
   simp only[GMw,eO,Ai];rw[<-hDd,hD];exact g1 aA
theorem LT {z:Int}{v:Nat}(h0:0<=z)(h:z<2^v)(hv:v<=1400):LB z:=by
 have h1:=EO hv;have h2:=IR v;unfold SB at h1;refine LB.of (k:=44) (V8 ?_ h1) (by decide);generalize (2:Int)^v=p at *;omega
theorem MG {nf:Nat->Nat}(gB:∀j,nf j<4)(L:List Nd)(tk:Tok)(H:Aa)(hL:L.length<549755813888)(hl:AV L=true) :
  Sh.f1k (.sl (enL cNd L) tk) (.agg (Gb (nf 0) (nf 1))) (.agg (Gb (nf 2) (nf 3))) H=some (.ret (.sl (enL cBO (CE nf L)) .no),H):=by
 unfold Sh.f1k;have dA:=Fx (f:=cBO) (a:=none) (n:=L.length+1) (bytes:=32) (H:=H++[Blk.cel 0 (Gb (nf 0) (nf 1))]++[Blk.cel 0 (Gb (nf 2) (nf 3))]) (by omega) (by omega);simp only[show cBO none=[Ab.bool false,.sl [] .ti] from rfl]at dA;simp only[GMw,boxTwo,Ay,As (show L.length<9223372036854775807 by omega),dA];have l1:(H++[Blk.cel 0 (Gb (nf 0) (nf 1))]).length=H.length+1:=by simp
 have l2:(H++[Blk.cel 0 (Gb (nf 0) (nf 1))]++[Blk.cel 0 (Gb (nf 2) (nf 3))]).length=H.length+2:=by simp
 rw[l1,l2];have loop:=G5 (G:=λrec1 vs Hc=>Sh.f5z H rec1 (ag vs 0) (ag vs 1) (ag vs 2) (ag vs 3) (ag vs 4) Hc) L.length
  (λi vs Hc=>vs=[.sl (enL cNd L) tk,.ptr H.length 0 0,.ptr (H.length+1) 0 0,.ms (H.length+2) 0 0 (L.length+1) (L.length+1) 2 true,.i6 (i:Int)]/\Hc[H.length]? = some (.cel 0 (Gb (nf 0) (nf 1)))/\Hc[H.length+1]? = some (.cel 0 (Gb (nf 2) (nf 3)))/\Hc[H.length+2]? = some (.cel 0 (flat cBO (CE nf (L.take i)++List.replicate (L.length-i) none)))/\(∀k,k<H.length->Hc[k]? = H[k]?)/\H.length+3<=Hc.length)
  (by omega) (λi vs Hc hi hI=>?_) (vs:=[.sl (enL cNd L) tk,.ptr H.length 0 0,.ptr (H.length+1) 0 0,.ms (H.length+2) 0 0 (L.length+1) (L.length+1) 2 true,.i6 0])
  (H:=H++[Blk.cel 0 (Gb (nf 0) (nf 1))]++[Blk.cel 0 (Gb (nf 2) (nf 3))]++[Blk.cel 0 (flat cBO (List.replicate (L.length+1) none))])
  ⟨rfl,by simp,by simp,by simp[CE,zXm],λk hk=>by rw[UP,UP,UL hk],by simp⟩
 ·obtain⟨vs',Hc,⟨rfl,f1,f2,f3,f4,f5⟩,rec,aB⟩:=loop;rw[aB];unfold Sh.f5z;rw[US (UK _),Vr,List.replicate_zero,Vl]at f3;have eC:=fall_ms (f:=cBO) (b:=H.length) (d:=5) (cap:=L.length+1) (ex:=true) (A1 f3) (by omega);rw[Ho]at eC;simp only[GMw,Ai,Ay,V3,Fa (Cm f4),eC,zXb]
 ·obtain⟨rfl,f1,f2,f3,f4,f5⟩:=hI;have aF:(i:Int)<(L.length:Int):=by omega
  have cM:=As (show i<9223372036854775807 by omega);obtain⟨v1,v2,v3⟩:=AW hl hi;have hw:IntKind.i64.wrap (L[i].lv-1)=((L[i].lv.toNat-1:Nat):Int):=by rw[Ao] <;> omega
  have bU:=λH=>Id (L[i].lv.toNat-1) H (by omega);have hEB:=edgeL_b gB hl i (by omega);have hlen:(CE nf (L.take i)).length=i+1:=by rw[Ho];simp;omega
  have s1:Ae 2 (.ptr Hc.length 0 0) (big (2^(L[i].lv.toNat-1))) (Hc++[.cel 0 [.bool false,.sl [] .ti]])=some (Hc++[.cel 0 (A3 (2^(L[i].lv.toNat-1)))]):=by rw[BU (Ap (B:=Hc)) rfl,Ba]
  generalize hE:CE nf (L.take i)++List.replicate (L.length-i) none=E at f3;have hEl:E.length=L.length+1:=by rw[<-hE];simp[hlen];omega
  have mV:∀c,c<=i->E.getD c none=(CE nf (L.take i)).getD c none:=λc hc=>by
   rw[<-hE,UN,UN,UL (by omega)]
  have eJ:∀j,1<L[i].lv->(L[i].kid (nf j)).toNat<=i:=λj h1=>by
   obtain⟨q1,q2,q3⟩:=v3 (nf j) (gB j);by_cases hc:0<L[i].kid (nf j)
   ·have:=(q3 h1 hc).1;omega
   ·omega
  have hJeq:∀j,Do nf E L[i] j=Do nf (CE nf (L.take i)) L[i] j:=λj=>by
   unfold Do;by_cases h1:1<L[i].lv
   ·rw[if_pos h1,if_pos h1,mV _ (eJ j h1)]
   ·rw[if_neg h1,if_neg h1]
  have hDeq:∀j,DG nf E L[i] j=DG nf (CE nf (L.take i)) L[i] j:=λj=>by unfold DG;rw[hJeq]
  have hKeq:∀j,CZ nf E L[i] j=CZ nf (CE nf (L.take i)) L[i] j:=λj=>by
   induction j with
   | zero=>rfl
   | succ j ih=>unfold CZ;rw[ih,hJeq,hDeq]
  have hJb:∀j,0<=Do nf E L[i] j/\Do nf E L[i] j<2^L[i].lv.toNat:=λj=>by rw[hJeq];exact edgeJ_b v1 (S7 gB hl hi hEB j)
  have hJl:∀j,LB (Do nf E L[i] j):=λj=>LT (hJb j).1 (hJb j).2 (by omega);have hKl:∀j,j<=4->LB (bo (CZ nf E L[i] j).2):=λj hj=>by
   have:=QW (λj _=>hJb j) j hj;exact LT this.1 this.2 (by omega)
  have qG:List.replicate (L.length-i) (none:Option Int)=none::List.replicate (L.length-(i+1)) none:=by rw[show L.length-i=(L.length-(i+1))+1 from by omega,zXm]
  have aH:∀o:Option Int,E.set (i+1) o=CE nf (L.take i)++o::List.replicate (L.length-(i+1)) none:=λo=>by
   rw[<-hE,qG,Vt _ _ (by omega),hlen,Vr,List.set_cons_zero]
  have qC:E.set (i+1) (CZ nf E L[i] 0).2=E:=by rw[aH];show CE nf (L.take i)++none::_=E;rw[<-qG,hE]
  have turn:=λ(j:Nat) (hj:j<4) (Hd:Aa)=>edge_turn gB tk H Hd E i j H.length (H.length+1) (H.length+2) Hc.length hi hj hL hEl ⟨v1,v2⟩ (v3 (nf j) (gB j)).1 (λh1=>⟨by have:=eJ j h1;omega,by have:=eJ j h1;omega,by
    rw[mV _ (eJ j h1)];have:=S7 gB hl hi hEB j h1;exact LT this.1 this.2 (by omega)⟩) (hJl j) (CZ nf E L[i] j) (hKl j (by omega)) ⟨by omega,by omega,by omega,by omega⟩ (by omega) (by omega) (by omega)
  have next:∀j,(if L[i].kid (nf j)=0 then CZ nf E L[i] j else if (CZ nf E L[i] j).1=false\/Do nf E L[i] j<bo (CZ nf E L[i] j).2 then (true,DG nf E L[i] j)else CZ nf E L[i] j)=CZ nf E L[i] (j+1):=λj=>rfl
  simp only[next]at turn;obtain⟨H1,t1,a1,b1,c1,d1,e1,g1⟩:=turn 0 (by omega) (Hc++[Blk.cel 0 (A3 (2^(L[i].lv.toNat-1)))]) (A0 f1) (A0 f2) (by rw[qC];exact A0 f3) Ap (λk hk=>by rw[UL (by omega)];exact f4 k hk) (by simp;omega);obtain⟨H2,t2,a2,b2,c2,d2,e2,g2⟩:=turn 1 (by omega) H1 a1 b1 c1 d1 e1 g1;obtain⟨H3,t3,a3,b3,c3,d3,e3,g3⟩:=turn 2 (by omega) H2 a2 b2 c2 d2 e2 g2;obtain⟨H4,t4,a4,b4,c4,d4,e4,g4⟩:=turn 3 (by omega) H3 a3 b3 c3 d3 e3 g3;have lY:=(UH.1 c4).1;refine⟨[.sl (enL cNd L) tk,.ptr H.length 0 0,.ptr (H.length+1) 0 0,.ms (H.length+2) 0 0 (L.length+1) (L.length+1) 2 true,.i6 ((i+1:Nat):Int)],H4,⟨rfl,a4,b4,?_,e4,by omega⟩,λrec=>?_⟩
  ·rw[c4,K4 nf L hi,aH,<-hKeq];simp
  ·unfold Sh.f5z;simp only[GMw,Au,Ah,AF,UJ,Nat.add_zero,UW,Cy,Ai,Ay,aF,A4 hi,hw,bU,CL,s1];obtain⟨n,hn⟩:=fuel_succ 5 (by decide);have hf:¬(((3+1:Nat):Int)<4):=by decide
   rw[hn,show n+5=(((n+1)+1)+1+1)+1 from rfl,Ca];simp only[An,Ai];refine (t1 rec _).trans ?_;rw[Ca];simp only[An,Ai];refine (t2 rec _).trans ?_;rw[Ca];simp only[An,Ai];refine (t3 rec _).trans ?_;rw[Ca];simp only[An,Ai];refine (t4 rec _).trans ?_;rw[Ca];unfold Sh.f5y;simp only[GMw,Ai,hf,cM]
def Iq (x y w h:Int):List Ab:=A3 x++A3 y++A3 w++A3 h
def PP (x y w h:Int):Ab:=.agg (Iq x y w h)
def GN:List Ab:=[.bool false,.sl [] .ti,.bool false,.sl [] .ti,.bool false,.sl [] .ti,.bool false,.sl [] .ti]
def nfW (j:Nat):Nat:=match j with | 0=>0 | 1=>2 | 2=>1 | _=>3
def nfE (j:Nat):Nat:=match j with | 0=>1 | 1=>3 | 2=>0 | _=>2
def nfN (j:Nat):Nat:=match j with | 0=>0 | 1=>1 | 2=>2 | _=>3
def nfS (j:Nat):Nat:=match j with | 0=>2 | 1=>3 | 2=>0 | _=>1
def GC (nf:Nat->Nat)(L:List Nd):Option Int:=(CE nf L).getD L.length none
def bxX (L:List Nd):Int:=-(2^((Cd L).toNat-1))+bo (GC nfW L)
def bxY (L:List Nd):Int:=-(2^((Cd L).toNat-1))+bo (GC nfN L)
def bxW (L:List Nd):Int:=2^(Cd L).toNat-(bo (GC nfW L)+bo (GC nfE L))
def bxH (L:List Nd):Int:=2^(Cd L).toNat-(bo (GC nfN L)+bo (GC nfS L))
theorem Pa (j:Nat):nfW j<4:=by unfold nfW;split <;> omega
theorem RR (j:Nat):nfE j<4:=by unfold nfE;split <;> omega
theorem Pb (j:Nat):nfN j<4:=by unfold nfN;split <;> omega
theorem RQ (j:Nat):nfS j<4:=by unfold nfS;split <;> omega
theorem build_two (a b:Nat):Az (some [.i6 0,.i6 0]) [(0,1,.i6 (a:Int)),(1,1,.i6 (b:Int))]=some (.agg (Gb a b)):=by
 simp[Az,Gp,Dc,Gb]
theorem IL {nf:Nat->Nat}(gB:∀j,nf j<4){L:List Nd}(hl:AV L=true)(h0:0<L.length):0<=bo (GC nf L)/\bo (GC nf L)<2^(Cd L).toNat:=by
 have hb:=edgeL_b gB hl L.length (UK _);rw[US (UK _)]at hb;have hm:L.length-1<L.length:=by omega
 have hlt:L.length<(CE nf L).length:=by rw[Ho];omega
 have:=hb (L.length-1) L[L.length-1] (CE nf L)[L.length] (UG hm) (by rw[show L.length-1+1=L.length from by omega];exact UG hlt);have ht:Cd L=L[L.length-1].lv:=by unfold Cd;rw[Fw (n:=L.length-1) (by omega) hm]
 unfold GC;rw[UN,UG hlt,ht];exact this
theorem IX (B:Aa)(o:Option Int):Ae 2 (.ptr B.length 0 0) (.agg (cBO o)) (B++[Blk.cel 0 [.bool false,.sl [] .ti]])=some (B++[Blk.cel 0 (cBO o)]):=by
 rw[OQ (Ap (B:=B) (cs:=[.bool false,.sl [] .ti])) rfl,Ba]
theorem MK {nf:Nat->Nat}(L:List Nd)(H:Aa)(k:Ab->Out):((Aw 2 (.sl (enL cBO (CE nf L)) .no) (.i6 (L.length:Int))).bind λx20=>(Ad true 2 x20 H).bind k)=k (.agg (cBO (GC nf L))):=by
 have hlt:L.length<(CE nf L).length:=by rw[Ho];omega
 rw[A4 hlt];unfold GC;rw[UN,UG hlt];cases (CE nf L)[L.length] <;> rfl
theorem QV {nf:Nat->Nat}(gB:∀j,nf j<4){L:List Nd}(hl:AV L=true)(h0:0<L.length):LB (bo (GC nf L)):=by
 have:=IL gB hl h0;have hle:=Qg hl h0 (UK _);exact LT this.1 this.2 (Vf hle (by omega))
theorem q09_of (L:List Nd)(H:Aa)(hL:L.length<549755813888)(hl:AV L=true)(h0:L≠[]) :
  Sh.f1l (Ef L) H=some (.ret (.tup [PP (bxX L) (bxY L) (bxW L) (bxH L),.bool true]),H):=by
 have hlen:0<L.length:=Vq.2 h0;have hl0:¬((L.length:Int)=0):=by omega
 have hLv:Lv L (Cd L).toNat L.length:=⟨UK _,.inr rfl⟩;obtain⟨iN,hn2⟩:=hLv.num hlen hl;have lF:Cd L=((Cd L).toNat:Int):=iN;have hle:(Cd L).toNat<=1329:=Qg hl hlen (UK _);have bW:=QV Pa hl hlen;have bE:=QV RR hl hlen;have bN:=QV Pb hl hlen;have bS:=QV RQ hl hlen;have kW:=λH=>MG Pa L .no H hL hl;have kE:=λH=>MG RR L .no H hL hl;have kN:=λH=>MG Pb L .no H hL hl;have kS:=λH=>MG RQ L .no H hL hl;simp only[nfW,nfE,nfN,nfS]at kW kE kN kS;have lvl:=λH=>TU L .no H (show L.length<17592186044415 by omega);rw[<-quad_eq]at lvl;simp only[if_neg h0]at lvl;unfold Sh.f1l;have yK:Ax (some [(.bool false),(.sl [] .ti),(.bool false),(.sl [] .ti),(.bool false),(.sl [] .ti),(.bool false),(.sl [] .ti)]) (H++[Blk.cel 0 (Bv L)])=some (.ptr (H++[Blk.cel 0 (Bv L)]).length 0 0,H++[Blk.cel 0 (Bv L)]++[.cel 0 GN]):=alloc_eq rfl;simp only[GMw,boxQ,yK];generalize h2:H++[Blk.cel 0 (Bv L)]++[Blk.cel 0 GN]=H2;generalize h1:(H++[Blk.cel 0 (Bv L)]).length=p1;have n2:Ad false 1 (.ptr H.length 0 0) H2=some (.sl (enL cNd L) .no):=Fd (by rw[<-h2];simp);have q2:Ad true 1 (.ptr H.length 0 0) H2=some (Ef L):=ML (by rw[<-h2];simp);have z2:H2[p1]? = some (.cel 0 GN):=by rw[<-h2,<-h1];exact Ap
 have o2:∀k,k<H.length->H2[k]? = H[k]? := λk hk=>by rw[<-h2,UP,UL hk]
 have p1l:H.length<p1:=by rw[<-h1];simp
 have tw:=λ(a b:Nat)=>build_two a b;have t02:=tw 0 2;have t13:=tw 1 3;have t01:=tw 0 1;have t23:=tw 2 3;simp only[show ((0:Nat):Int)=0 from rfl,show ((1:Nat):Int)=1 from rfl,show ((2:Nat):Int)=2 from rfl,show ((3:Nat):Int)=3 from rfl]at t02 t13 t01 t23;simp only[GMw,Ah,UJ,Nat.add_zero,n2,Ay,hl0,t02,t13,t01,t23,kW];rw[MK];simp only[GMw,CL,IX];generalize h3:H2++[Blk.cel 0 (cBO (GC nfW L))]=H3;have n3:Ad false 1 (.ptr H.length 0 0) H3=some (.sl (enL cNd L) .no):=by rw[<-h3];exact B3 n2
 have w3:Ad true 2 (.ptr H2.length 0 0) H3=some (.agg (cBO (GC nfW L))):=by rw[<-h3];exact G6 Ap
 simp only[GMw,Ah,UJ,Nat.add_zero,n3,t02,t13,t01,t23,kE];rw[MK];simp only[GMw,CL,IX];generalize h4:H3++[Blk.cel 0 (cBO (GC nfE L))]=H4;have n4:Ad false 1 (.ptr H.length 0 0) H4=some (.sl (enL cNd L) .no):=by rw[<-h4];exact B3 n3
 have e4:Ad true 2 (.ptr H3.length 0 0) H4=some (.agg (cBO (GC nfE L))):=by rw[<-h4];exact G6 Ap
 simp only[GMw,Ah,UJ,Nat.add_zero,n4,t02,t13,t01,t23,kN];rw[MK];simp only[GMw,CL,IX];generalize h5:H4++[Blk.cel 0 (cBO (GC nfN L))]=H5;have n5:Ad false 1 (.ptr H.length 0 0) H5=some (.sl (enL cNd L) .no):=by rw[<-h5];exact B3 n4
 have d5:Ad true 2 (.ptr H4.length 0 0) H5=some (.agg (cBO (GC nfN L))):=by rw[<-h5];exact G6 Ap
 simp only[GMw,Ah,UJ,Nat.add_zero,n5,t02,t13,t01,t23,kS];rw[MK];simp only[GMw,CL,IX];generalize h6:H5++[Blk.cel 0 (cBO (GC nfS L))]=H6;have q6:Ad true 1 (.ptr H.length 0 0) H6=some (Ef L):=by rw[<-h6,<-h5,<-h4,<-h3];exact B3 (B3 (B3 (B3 q2)))
 have s6:Ad true 2 (.ptr H5.length 0 0) H6=some (.agg (cBO (GC nfS L))):=by rw[<-h6];exact G6 Ap
 have w6:Ad true 2 (.ptr H2.length 0 0) H6=some (.agg (cBO (GC nfW L))):=by rw[<-h6,<-h5,<-h4];exact B3 (B3 (B3 w3))
 have e6:Ad true 2 (.ptr H3.length 0 0) H6=some (.agg (cBO (GC nfE L))):=by rw[<-h6,<-h5];exact B3 (B3 e4)
 have d6:Ad true 2 (.ptr H4.length 0 0) H6=some (.agg (cBO (GC nfN L))):=by rw[<-h6];exact B3 d5
 have z6:H6[p1]? = some (.cel 0 GN):=by rw[<-h6,<-h5,<-h4,<-h3];exact A0 (A0 (A0 (A0 z2)))
 have o6:∀k,k<H.length->H6[k]? = H[k]? := λk hk=>by
  have hk2:k<H2.length:=by rw[<-h2];simp;omega
  rw[<-h6,<-h5,<-h4,<-h3,UP,UP,UP,UL hk2];exact o2 k hk
 unfold bxX bxY bxW bxH;generalize hv:(Cd L).toNat=v at *;have uP:=λH=>Id v H (by omega);have uO:=λH=>Id (v-1) H (by omega);have hw:IntKind.i64.wrap ((v:Int)-1)=((v-1:Nat):Int):=GX (by omega) (by omega);have sb1:=(EO (show v<=1400 by omega)).lb (show 44<=549755813888 by decide);have sb2:=(EO (show v-1<=1400 by omega)).lb (show 44<=549755813888 by decide);have gU:=λH=>IB (2^(v-1)) H sb2;have lB:(H6++[Blk.cel 0 [Ab.bool false,.sl [] .ti]]).length=H6.length+1:=by simp
 have s0:=λ(z:Int) (c:List Ab)=>st0 (Hc:=H6) (a:=[.bool false,.sl [] .ti]) (c:=c) (z:=z) rfl;have s1:=λ(z:Int) (a:List Ab)=>st1 (Hc:=H6) (a:=a) (c:=[.bool false,.sl [] .ti]) (z:=z) rfl;rw[lF]at lvl;simp only[GMw,q6,lvl,uP,hw,uO,gU,CL,lB,s0,s1];generalize h8:H6++[Blk.cel 0 (A3 (2^v))]++[Blk.cel 0 (A3 (-(2^(v-1))))]=H8;have c8:Ad true 2 (.ptr (H6.length+1) 0 0) H8=some (big (-(2^(v-1)))):=AS (by rw[<-h8];simp);have g8:Ad true 2 (.ptr H6.length 0 0) H8=some (big (2^v)):=AS (by rw[<-h8];simp);have w8:Ad true 2 (.ptr H2.length 0 0) H8=some (.agg (cBO (GC nfW L))):=by rw[<-h8];exact B3 (B3 w6)
 have e8:Ad true 2 (.ptr H3.length 0 0) H8=some (.agg (cBO (GC nfE L))):=by rw[<-h8];exact B3 (B3 e6)
 have d8:Ad true 2 (.ptr H4.length 0 0) H8=some (.agg (cBO (GC nfN L))):=by rw[<-h8];exact B3 (B3 d6)
 have s8:Ad true 2 (.ptr H5.length 0 0) H8=some (.agg (cBO (GC nfS L))):=by rw[<-h8];exact B3 (B3 s6)
 have z8:H8[p1]? = some (.cel 0 GN):=by rw[<-h8];exact A0 (A0 z6)
 have o8:∀k,k<H.length->H8[k]? = H[k]? := λk hk=>by
  have zR:k<H6.length:=by
   have:=(UH.1 z6).1;omega
  rw[<-h8,UP,UL zR];exact o6 k hk
 have rW:=Rep.bo bW;have rE:=Rep.bo bE;have rN:=Rep.bo bN;have rS:=Rep.bo bS;have rC:=Rep.big sb2.neg;have rG:=Rep.big sb1;have aX:=λH=>addR rC rW H;have aY:=λH=>addR rC rN H;have aWE:=λH=>addR rW rE H;have aNS:=λH=>addR rN rS H;simp only[SU]at aX aY;have sumlb:∀a b:Int,0<=a->a<2^v->0<=b->b<2^v->LB (a+b):=λa b yF yE gO gN=>LT (v:=v+1) (by omega) (by rw[WX];omega) (by omega);have eW:=IL Pa hl hlen;have eE:=IL RR hl hlen;have eN:=IL Pb hl hlen;have eS:=IL RQ hl hlen;rw[hv]at eW eE eN eS;have bW':=λH=>subR rG (Rep.big (sumlb _ _ eW.1 eW.2 eE.1 eE.2)) H;have bH':=λH=>subR rG (Rep.big (sumlb _ _ eN.1 eN.2 eS.1 eS.2)) H;simp only[SU]at bW' bH';simp only[GMw,c8,g8,w8,e8,d8,s8,and_true,eq_self,aX,aY,aWE,aNS,bW',bH'];have gG:∀x y w h:Int,Az (some [(.bool false),(.sl [] .ti),(.bool false),(.sl [] .ti),(.bool false),(.sl [] .ti),(.bool false),(.sl [] .ti)]) [(0,2,big x),(2,2,big y),(4,2,big w),(6,2,big h)]=some (PP x y w h):=λx y w h=>by
  unfold PP Iq;simp[Az,Gp,Dc,A3]
 have wP:∀x y w h:Int,(PP x y w h).acells=some (Iq x y w h):=λx y w h=>Cc (by simp[Iq,A3]);have uU:=(UH.1 z8).1;have hst:∀x y w h:Int,Ae 8 (.ptr p1 0 0) (PP x y w h) H8=some (H8.set p1 (.cel 0 (Iq x y w h))):=λx y w h=>by
  simp only[Ae,A1 z8,zXa,wP,B5 z8,DB (cs:=GN) (sz:=8) rfl];rw[if_pos ⟨rfl,by decide⟩]
 have hld:∀x y w h:Int,Ad true 8 (.ptr p1 0 0) (H8.set p1 (.cel 0 (Iq x y w h)))=some (PP x y w h):=λx y w h=>by
  have:(H8.set p1 (.cel 0 (Iq x y w h)))[p1]? = some (.cel 0 (Iq x y w h)):=by rw[UT uU]
  simp only[Ad,A1 this,zXa];rfl
 have htk:∀x y w h:Int,(H8.set p1 (.cel 0 (Iq x y w h))).take H.length=H:=λx y w h=>Cm λk hk=>by
  rw[UI (by omega)];exact o8 k hk
 have zX:∀(x y w h:Int) (H':Aa) (n d:Nat),Fh H' n (d+3) (PP x y w h)=some (PP x y w h):=λx y w h H' n d=>by
  unfold PP Iq A3;simp
 simp only[gG,GMw,hst,hld,FU,D6,E7,zXb,Fa (htk _ _ _ _),C9,B4,BO,zX,Hi]
def bx (L:List Nd)(f:List Nd->Int):Int:=if L=[]then 0 else f L
theorem SM (x y w h:Int):(PP x y w h).acells=some (Iq x y w h):=Cc (by simp[Iq,A3])
theorem NH (H:Aa):Ax (some [(.bool false),(.sl [] .ti),(.bool false),(.sl [] .ti),(.bool false),(.sl [] .ti),(.bool false),(.sl [] .ti)]) H=some (.ptr H.length 0 0,H++[.cel 0 GN]):=alloc_eq rfl
theorem q09_ofB (L:List Nd)(H:Aa)(hL:L.length<549755813888)(hl:AV L=true) :
  Sh.f1l (Ef L) H=some (.ret (.tup [PP (bx L bxX) (bx L bxY) (bx L bxW) (bx L bxH),.bool (decide (L≠[]))]),H):=by
 unfold bx;by_cases h0:L=[]
 ·subst h0;unfold Sh.f1l;have n2:Ad false 1 (.ptr H.length 0 0) (H++[Blk.cel 0 (Bv [])]++[Blk.cel 0 GN])=some (.sl (enL cNd []) .no):=Fd (by simp);have hb:Az (some [(.bool false),(.sl [] .ti),(.bool false),(.sl [] .ti),(.bool false),(.sl [] .ti),(.bool false),(.sl [] .ti)]) []=some (.agg GN):=rfl;have hst:Ae 8 (.ptr (H++[Blk.cel 0 (Bv [])]).length 0 0) (.agg GN) (H++[Blk.cel 0 (Bv [])]++[Blk.cel 0 GN])=some (H++[Blk.cel 0 (Bv [])]++[Blk.cel 0 GN]):=by
   have hz:(H++[Blk.cel 0 (Bv [])]++[Blk.cel 0 GN])[(H++[Blk.cel 0 (Bv [])]).length]? = some (.cel 0 GN):=Ap;simp only[Ae,A1 hz,zXa,B5 hz,Cc (cs:=GN) rfl,DB (cs:=GN) (sz:=8) rfl,Ba]
   rfl
  have hld:Ad true 8 (.ptr (H++[Blk.cel 0 (Bv [])]).length 0 0) (H++[Blk.cel 0 (Bv [])]++[Blk.cel 0 GN])=some (.agg GN):=by
   simp only[Ad,A1 (Ap (cs:=GN)),zXa];rfl
  simp only[GMw,boxQ,NH,Ah,UJ,n2,Ay,zXk,show ((0:Nat):Int)=0 from rfl,hb,hst,hld,FU,D6,E7,zXb];rw[UP];simp only[C6,C9,B4,BO,Hj,GN,Fk,Gg,K3,IJ,Hi,BL,zXb]
  rfl
 ·rw[q09_of L H hL hl h0];simp only[if_false,ne_eq,h0,not_false_eq_true,decide_true]
theorem bx_lb {L:List Nd}(hl:AV L=true):LB (bx L bxW)/\LB (bx L bxH):=by
 unfold bx;by_cases h0:L=[]
 ·rw[if_pos h0,if_pos h0];exact⟨LB_zero,LB_zero⟩
 ·rw[if_neg h0,if_neg h0];have hlen:0<L.length:=Vq.2 h0;have eW:=IL Pa hl hlen;have eE:=IL RR hl hlen;have eN:=IL Pb hl hlen;have eS:=IL RQ hl hlen;have hle:(Cd L).toNat<=1329:=Qg hl hlen (UK _);have key:∀a b:Int,0<=a->a<2^(Cd L).toNat->0<=b->b<2^(Cd L).toNat->LB (2^(Cd L).toNat-(a+b)):=λa b h1 h2 h3 h4=>by
   have hs:=EO (show (Cd L).toNat<=1400 by omega);have ha:=IR (Cd L).toNat;unfold SB at hs;refine LB.of (k:=44) (V8 ?_ hs) (by decide);generalize (2:Int)^(Cd L).toNat=p at *;omega
  exact⟨key _ _ eW.1 eW.2 eE.1 eE.2,key _ _ eN.1 eN.2 eS.1 eS.2⟩
def Gx (L:List Nd)(m:Int):Bool:=decide (bx L bxW<=m)&&decide (bx L bxH<=m)
theorem cmp_leq (a b:Int):decide (FC a b<=0)=decide (a<=b):=by
 unfold FC;rw[Va];split
 ·simp;omega
 ·split
  ·simp;omega
  ·simp;omega
theorem LB_i64 {m:Int}(h0:-9223372036854775808<=m)(h1:m<=9223372036854775807):LB m:=LB.of (k:=3) (show m.natAbs<4294967296^3 by rw[show (4294967296:Nat)^3=79228162514264337593543950336 from by decide];omega) (by decide)
theorem R4 (L:List Nd)(m:Int)(H:Aa)(hL:L.length<549755813888)(hl:AV L=true)(h0:-9223372036854775808<=m)(h1:m<=9223372036854775807) :
  Sh.f3b (Ef L) (.i6 m) H=some (.ret (.bool (Gx L m)),H):=by
 unfold Sh.f3b Gx;have q1:Ad true 1 (.ptr H.length 0 0) (H++[Blk.cel 0 (Bv L)])=some (Ef L):=ML Ap;obtain⟨b1,b2⟩:=bx_lb hl;have lL:=λH=>OY m H h0 h1;have cW:=λH=>Fb (bx L bxW) m H b1 (LB_i64 h0 h1);have cH:=λH=>Fb (bx L bxH) m H b2 (LB_i64 h0 h1);simp only[GMw,boxQ,q1,q09_ofB L _ hL hl,Bt,Bz,NH];generalize bx L bxX=x;generalize bx L bxY=y;generalize bx L bxW=w at *;generalize bx L bxH=h at *;generalize hB:H++[Blk.cel 0 (Bv L)]=B;have hst:Ae 8 (.ptr B.length 0 0) (PP x y w h) (B++[Blk.cel 0 GN])=some (B++[Blk.cel 0 (Iq x y w h)]):=by
  simp only[Ae,A1 (Ap (B:=B) (cs:=GN)),zXa,SM,B5 (Ap (B:=B) (cs:=GN)),DB (cs:=GN) (sz:=8) rfl,Ba]
  rfl
 have g4:Ad true 2 (.ptr B.length 0 4) (B++[Blk.cel 0 (Iq x y w h)])=some (big w):=by
  simp only[Ad,A1 (Ap (B:=B)),zXa];rfl
 have g6:Ad true 2 (.ptr B.length 0 6) (B++[Blk.cel 0 (Iq x y w h)])=some (big h):=by
  simp only[Ad,A1 (Ap (B:=B)),zXa];rfl
 have fin:∀q:Bool,rP H (.bool q) (B++[Blk.cel 0 (Iq x y w h)])=some (.ret (.bool q),H):=λq=>by rw[<-hB,UP];exact Fv
 simp only[hst,GMw,lL,Ah,UJ,g4,g6,and_true,eq_self,cW,cmp_leq];cases decide (w<=m)with
 | false=>simp only[GMw,Ou,and_true,eq_self,fin]
 | true=>simp only[GMw,lL,Ah,UJ,g6,QR,and_true,eq_self,cH,cmp_leq,fin]
theorem S8 {nf:Nat->Nat}{E:List (Option Int)}{x:Nd}:∀(n:Nat),n<=4->∀j,j<n->x.kid (nf j)≠0->(CZ nf E x n).1=true/\bo (CZ nf E x n).2<=Do nf E x j
 | 0,_,j,h,_=>by omega
 | n+1,hn,j,h,hk=>by
  unfold CZ;by_cases hj:j=n
  ·subst hj;rw[if_neg hk];by_cases hc:(CZ nf E x j).1=false\/Do nf E x j<bo (CZ nf E x j).2
   ·rw[if_pos hc];exact⟨rfl,by rw[LX];exact WH _⟩
   ·rw[if_neg hc];have h1:(CZ nf E x j).1=true:=by
     cases hq:(CZ nf E x j).1 with
     | true=>rfl
     | false=>exact absurd (.inl hq) hc
    have h2:¬Do nf E x j<bo (CZ nf E x j).2:=λh=>hc (.inr h);exact⟨h1,by omega⟩
  ·obtain⟨i1,i2⟩:=S8 (nf:=nf) (E:=E) (x:=x) n (by omega) j (by omega) hk;by_cases h0:x.kid (nf n)=0
   ·rw[if_pos h0];exact⟨i1,i2⟩
   ·rw[if_neg h0];by_cases hc:(CZ nf E x n).1=false\/Do nf E x n<bo (CZ nf E x n).2
    ·rw[if_pos hc];refine⟨rfl,?_⟩;rw[LX];rcases hc with hc | hc
     ·rw[i1]at hc;cases hc
     ·omega
    ·rw[if_neg hc];exact⟨i1,i2⟩
theorem NC {nf:Nat->Nat}{E:List (Option Int)}{x:Nd}:∀(n:Nat),(∀j,j<n->x.kid (nf j)=0)->CZ nf E x n=(false,none)
 | 0,_=>rfl
 | n+1,h=>by
  unfold CZ;rw[if_pos (h n (by omega))];exact NC n λj hj=>h j (by omega)
def Opp (nf nf':Nat->Nat):Prop:=(∀j,nf j<4)/\(∀j,nf' j<4)/\∀k,k<4->∃j1 j2,j1<4/\j2<4/\nf j1=k/\nf' j2=k/\(1<j1↔¬1<j2)
theorem oppWE:Opp nfW nfE:=⟨Pa,RR,λk hk=>by
 match k,hk with
 | 0,_=>exact⟨0,2,by decide,by decide,rfl,rfl,by decide⟩
 | 1,_=>exact⟨2,0,by decide,by decide,rfl,rfl,by decide⟩
 | 2,_=>exact⟨1,3,by decide,by decide,rfl,rfl,by decide⟩
 | 3,_=>exact⟨3,1,by decide,by decide,rfl,rfl,by decide⟩⟩
theorem oppNS:Opp nfN nfS:=⟨Pb,RQ,λk hk=>by
 match k,hk with
 | 0,_=>exact⟨0,2,by decide,by decide,rfl,rfl,by decide⟩
 | 1,_=>exact⟨1,3,by decide,by decide,rfl,rfl,by decide⟩
 | 2,_=>exact⟨2,0,by decide,by decide,rfl,rfl,by decide⟩
 | 3,_=>exact⟨3,1,by decide,by decide,rfl,rfl,by decide⟩⟩
theorem edge_sum {nf nf':Nat->Nat}(ho:Opp nf nf'){L:List Nd}(hl:AV L=true):∀i,i<=L.length->∀m x,m<i->L[m]? = some x->bo ((CE nf (L.take i)).getD (m+1) none)+bo ((CE nf' (L.take i)).getD (m+1) none)<2^x.lv.toNat
 | 0,_,m,x,h,_=>by omega
 | i+1,h,m,x,hm,hx=>by
  have ih:=edge_sum ho hl i (by omega);have len:∀nf:Nat->Nat,(CE nf (L.take i)).length=i+1:=λnf=>by rw[Ho];simp;omega
  rw[K4 nf L h,K4 nf' L h];by_cases qT:m<i
  ·rw[UN,UN,UL (by rw[len];omega),UL (by rw[len];omega),<-UN,<-UN];exact ih m x qT hx
  ·have e:m=i:=by omega
   subst e;rw[UG h]at hx;injection hx with hx;rw[UN,UN,Vo (by rw[len];omega),Vo (by rw[len];omega),len,len,Vr];simp only[zXh,Option.getD_some];obtain⟨v1,v2,v3⟩:=AW hl h;rw[hx]at v1 v2 v3 ⊢;have hp:(0:Int)<2^(x.lv.toNat-1):=WG (by omega);have e2:(2:Int)^x.lv.toNat=2^(x.lv.toNat-1)*2:=by rw[<-WX];congr 1;omega
   by_cases aD:∀k,k<4->x.kid k=0
   ·rw[NC 4 λj _=>aD _ (ho.1 j),NC 4 λj _=>aD _ (ho.2.1 j),e2];show (0:Int)+0<_;omega
   ·obtain⟨k,hk⟩:=Classical.not_forall.1 aD;obtain⟨iZ,tM⟩:=Classical.not_imp.1 hk;obtain⟨j1,j2,l1,l2,n1,n2,aE⟩:=ho.2.2 k iZ;have a1:=(S8 (nf:=nf) (E:=CE nf (L.take m)) (x:=x) 4 (UK _) j1 l1 (by rw[n1];exact tM)).2;have a2:=(S8 (nf:=nf') (E:=CE nf' (L.take m)) (x:=x) 4 (UK _) j2 l2 (by rw[n2];exact tM)).2;refine Int.lt_of_le_of_lt (Int.add_le_add a1 a2) ?_;unfold Do;rw[n1,n2,e2];have gQ:(1<x.lv->bo ((CE nf (L.take m)).getD (x.kid k).toNat none)+bo ((CE nf' (L.take m)).getD (x.kid k).toNat none)<2^(x.lv.toNat-1)):=by
     intro h1;obtain⟨q1,q2,q3⟩:=v3 k iZ;obtain⟨r1,r2⟩:=q3 h1 (by omega);obtain⟨c,hc⟩:∃c:Nat,(x.kid k).toNat=c+1:=⟨(x.kid k).toNat-1,by omega⟩;have aG:c<L.length:=by omega
     have aT:=r2 L[c] (by rw[show (x.kid k-1).toNat=c from by omega];exact UG aG);have:=ih c L[c] (by omega) (UG aG);rw[hc,show x.lv.toNat-1=L[c].lv.toNat from by omega];exact this
    by_cases h1:1<x.lv
    ·have hs:=gQ h1;rw[if_pos h1,if_pos h1];generalize (2:Int)^(x.lv.toNat-1)=p at *;by_cases hj:1<j1
     ·rw[if_pos hj,if_neg (aE.1 hj)];omega
     ·have rQ:1<j2:=Classical.byContradiction λh=>hj (aE.2 h);rw[if_neg hj,if_pos rQ];omega
    ·rw[if_neg h1,if_neg h1];generalize (2:Int)^(x.lv.toNat-1)=p at *;by_cases hj:1<j1
     ·rw[if_pos hj,if_neg (aE.1 hj)];omega
     ·have rQ:1<j2:=Classical.byContradiction λh=>hj (aE.2 h);rw[if_neg hj,if_pos rQ];omega
theorem bx_pos {L:List Nd}(hl:AV L=true)(h0:L≠[]):1<=bxW L/\1<=bxH L:=by
 have hlen:0<L.length:=Vq.2 h0;have hm:L.length-1<L.length:=by omega
 have ht:Cd L=L[L.length-1].lv:=by unfold Cd;rw[Fw (n:=L.length-1) (by omega) hm]
 have key:∀nf nf':Nat->Nat,Opp nf nf'->bo (GC nf L)+bo (GC nf' L)<2^(Cd L).toNat:=λnf nf' ho=>by
  have:=edge_sum ho hl L.length (UK _) (L.length-1) L[L.length-1] hm (UG hm);rw[US (UK _),show L.length-1+1=L.length from by omega]at this;rw[ht];exact this
 have k1:=key _ _ oppWE;have k2:=key _ _ oppNS;unfold bxW bxH;generalize (2:Int)^(Cd L).toNat=p at *;omega
section
variable {α:Type}{f:α->List Ab}{ty:TypeId}{sz:Nat}
def RS (f:α->List Ab)(ty:TypeId)(sz b:Nat)(out:List α)(v:Ab)(H:Aa):Prop:=(out=[]/\v=.sl [] .ti)\/∃t,b<=t/\v=.sl (enL f out) (.own t)/\H[t]? = some (.tok out.length ty sz)
theorem RS.sl {b:Nat}{out:List α}{v:Ab}{H:Aa}(h:RS f ty sz b out v H):∃tk,v=.sl (enL f out) tk:=by
 rcases h with ⟨rfl,rfl⟩ | ⟨t,_,rfl,_⟩
 ·exact⟨_,rfl⟩
 ·exact⟨_,rfl⟩
theorem RS.left {b:Nat}{out:List α}{v:Ab}{H:Aa}(h:RS f ty sz b out v H)(G:Aa):RS f ty sz b out v (H++G):=by
 rcases h with h1 | ⟨t,h1,h2,h3⟩
 ·exact .inl h1
 ·exact .inr ⟨t,h1,h2,A0 h3⟩
theorem RS.put {b p:Nat}{out:List α}{v:Ab}{H:Aa}{c c':List Ab}(h:RS f ty sz b out v H)(hp:H[p]? = some (.cel 0 c)):RS f ty sz b out v (H.set p (.cel 0 c')):=by
 rcases h with h1 | ⟨t,h1,h2,h3⟩
 ·exact .inl h1
 ·refine .inr ⟨t,h1,h2,?_⟩;have:p≠t:=λe=>by rw[<-e,hp]at h3;cases h3
  rw[UI this];exact h3
theorem RS.snoc [hf:Sz f sz]{bytes b:Nat}{out:List α}{v:Ab}{H:Aa}(h:RS f ty sz b out v H)(hb:b<=H.length)(x:α)(tk:Tok)(hl:(out.length+1)*bytes<=140737488355328)(gW:out.length+1<=140737488355328) :
  ∃v' H',AP ty sz bytes v (.sl (enL f [x]) tk) H=some (v',H')/\RS f ty sz b (out++[x]) v' H'/\Kp b H H':=by
 rcases h with ⟨rfl,rfl⟩ | ⟨t,h1,rfl,h3⟩
 ·have:=CX (f:=f) (l:=[]) (m:=[x]) (ty:=ty) (bytes:=bytes) (tk:=tk) (H:=H) (by simp) (by simpa using hl) (by simp);exact⟨_,_,this,.inr ⟨H.length,hb,rfl,by simp⟩,Kp.app hb _⟩
 ·have:=Fs (f:=f) (l:=out) (m:=[x]) (ty:=ty) (bytes:=bytes) (tk:=tk) (H:=H) (t:=t) (by simp) h3 (by simpa using hl) (by simpa using gW);have iT:=(UH.1 h3).1;refine⟨_,_,this,.inr ⟨t,h1,rfl,by simp[iT]⟩,⟨by simp,λi cs hc=>?_,λi hi=>?_⟩⟩
  ·have:t≠i:=λe=>by rw[<-e,h3]at hc;cases hc
   rw[UI this];exact hc
  ·rw[UI (by omega)]

end
def Qp (L:List Nd)(X Y:Int)(y x:Nat):UInt8:=UInt8.ofNat (getZ L (X+(x:Int)) (Y+(y:Int))).toNat
def Rw (L:List Nd)(X Y:Int)(w y:Nat):List UInt8:=(List.range w).map (Qp L X Y y)
theorem getZ_st {L:List Nd}(hl:AV L=true)(x y:Int):St (getZ L x y):=by
 unfold getZ;split
 ·exact⟨WH _,by show (0:Int)<=255;decide⟩
 ·split
  ·exact getF_st hl _ _ _ _ ⟨UK _,.inr rfl⟩
  ·exact⟨WH _,by show (0:Int)<=255;decide⟩
theorem cellB_nat {L:List Nd}(hl:AV L=true)(X Y:Int)(y x:Nat):((Qp L X Y y x).toNat:Int)=getZ L (X+(x:Int)) (Y+(y:Int)):=by
 have h:=getZ_st hl (X+(x:Int)) (Y+(y:Int));unfold Qp;have h1:=h.1;have h2:=h.2;rw[UInt8.toNat_ofNat_of_lt' (show (getZ L (X+(x:Int)) (Y+(y:Int))).toNat<256 by omega)];omega
theorem SB_nat {n:Nat}(h:n<=1000):SB 44 (n:Int):=by
 unfold SB;have h1:(4294967296:Nat)^1<=4294967296^44:=NX (by omega);omega
theorem grid_row (H:Aa)(rec1:LK)(L:List Nd)(X Y:Int)(w h y p3 p5 p28 p54:Nat)(Hc:Aa)(out:Out)(hL:L.length<549755813888)(hl:AV L=true)(hw:w<=1000)(hy:y<=1000)(sX:SB 44 X)(sY:SB 44 Y)
  (hq:Ad true 1 (.ptr p3 0 0) Hc=some (Ef L))(hX:Ad true 2 (.ptr p28 0 0) Hc=some (big X))(hY:Ad true 2 (.ptr p28 0 2) Hc=some (big Y))
  (fin:∀aA:LK,Sh.f28 H rec1 aA (.ptr p3 0 0) (.ptr p5 0 0) (.ptr p28 0 0) (.i6 (w:Int)) (.i6 (h:Int)) (.ptr p54 0 0) (.i6 (y:Int)) (.ms Hc.length 0 0 w w 1 true) (.i6 (w:Int)) (Hc++[.cel 0 (flat cY (Rw L X Y w y))])=out) :
  Am (λaA vs H1=>Sh.f28 H rec1 aA (ag vs 0) (ag vs 1) (ag vs 2) (ag vs 3) (ag vs 4) (ag vs 5) (ag vs 6) (ag vs 7) (ag vs 8) H1) AM [.ptr p3 0 0,.ptr p5 0 0,.ptr p28 0 0,.i6 (w:Int),.i6 (h:Int),.ptr p54 0 0,.i6 (y:Int),.ms Hc.length 0 0 w w 1 true,.i6 0] (Hc++[.cel 0 (flat cY (List.replicate w 0))])=out:=by
 have key:=Cj (G:=λaA vs H1=>Sh.f28 H rec1 aA (ag vs 0) (ag vs 1) (ag vs 2) (ag vs 3) (ag vs 4) (ag vs 5) (ag vs 6) (ag vs 7) (ag vs 8) H1) w
  (λx=>[.ptr p3 0 0,.ptr p5 0 0,.ptr p28 0 0,.i6 (w:Int),.i6 (h:Int),.ptr p54 0 0,.i6 (y:Int),.ms Hc.length 0 0 w w 1 true,.i6 (x:Int)]) (λx=>Hc++[.cel 0 (flat cY ((List.range x).map (Qp L X Y y)++List.replicate (w-x) 0))]) out (by omega) (λaA x hx=>?_) (λaA=>?_)
 ·simpa using key
 ·have hx':(x:Int)<(w:Int):=by omega
  have aM:=As (show x<9223372036854775807 by omega);generalize hR:(List.range x).map (Qp L X Y y)++List.replicate (w-x) 0=R;have hRl:R.length=w:=by rw[<-hR];simp;omega
  have aH:R.set x (Qp L X Y y x)=(List.range (x+1)).map (Qp L X Y y)++List.replicate (w-(x+1)) 0:=by
   rw[<-hR,Vt _ _ (by simp),show w-x=(w-(x+1))+1 from by omega,zXm];simp[WT]
  rw[<-aH];have ox:=λH=>OY (x:Int) H (by omega) (by omega);have oy:=λH=>OY (y:Int) H (by omega) (by omega);have sx:=SB_nat (show x<=1000 by omega);have sy:=SB_nat hy;have ax:=λH=>FJ X (x:Int) H (sX.lb (by decide)) (sx.lb (by decide));have ay:=λH=>FJ Y (y:Int) H (sY.lb (by decide)) (sy.lb (by decide));have bG:=λH=>q08_get L (X+(x:Int)) (Y+(y:Int)) H (by omega) hl ((sX.add sx).mono (by omega)) ((sY.add sy).mono (by omega));have g1:=B3 (G:=[Blk.cel 0 (flat cY R)]) hq;have g2:=B3 (G:=[Blk.cel 0 (flat cY R)]) hX;have g3:=B3 (G:=[Blk.cel 0 (flat cY R)]) hY;have hidx:=CS (sz:=1) (id:=Hc.length) (n:=w) (K:=.i64) (g:=0) (off:=0) (cap:=w) (ex:=true) (i:=x) hx;simp only[UJ,UW]at hidx;have hst:=DW (f:=cY) (sz:=1) (l:=R) (i:=x) (a:=Qp L X Y y x) (v:=.int .u8 (getZ L (X+(x:Int)) (Y+(y:Int)))) (H:=Hc++[Blk.cel 0 (flat cY R)]) (id:=Hc.length) (A1 Ap) (by omega) (by rw[<-cellB_nat hl];rfl);rw[UW,B5 Ap,Ba]at hst;unfold Sh.f28;simp only[GMw,Ai,hx',ox,Ah,UJ,g1,g2,g3,and_true,eq_self,ax,oy,ay,bG,hidx,hst,aM]
 ·rw[Vr,List.replicate_zero,Vl];exact fin aA
def Dm (X Y:Int)(v:Ab):List Ab:=A3 X++A3 Y++[v]
def Oq (X Y:Int)(rows:List (List UInt8)):Ab:=.agg (Dm X Y (.sl (enL cS rows) .no))
def DQ:List Ab:=[.bool false,.sl [] .ti,.bool false,.sl [] .ti,.sl [] .ti]
def HZ (L:List Nd)(X Y:Int)(w n:Nat):List (List UInt8):=(List.range n).map (Rw L X Y w)
theorem fpart_grid (X Y:Int)(es:List (List Ab))(tk:Tok)(H':Aa)(n d:Nat):Fh H' n (d+3) (.agg (Dm X Y (.sl es tk)))=some (.agg (Dm X Y (.sl es .no))):=by
 unfold Dm A3;simp
theorem N8 (X Y:Int)(es:List (List Ab))(tk:Tok):(Dm X Y (.sl es tk)).all Ab.isScal=true:=by unfold Dm A3;simp
theorem M8 (H:Aa):Ax (some [(.bool false),(.sl [] .ti),(.bool false),(.sl [] .ti),(.sl [] .ti)]) H=some (.ptr H.length 0 0,H++[.cel 0 DQ]):=alloc_eq rfl
theorem grid_tail {H Hq:Aa}{p5:Nat}{X Y:Int}{es:List (List Ab)}{tk:Tok}{e:Int}{c:List Ab}(hp:H.length<=p5)(hc:Hq[p5]? = some (.cel 0 c))(hl:c.length=5)(hold:∀i,i<H.length->Hq[i]? = H[i]?) :
  (bP H (Av (Ae 5 (.ptr p5 0 0) (.agg (Dm X Y (.sl es tk))) Hq)) λ_ H37=>(Cv [Ad true 5 (.ptr p5 0 0) H37,some (.i6 e)]).bind λx38=>rPN H x38 H37)=some (.ret (.tup [.agg (Dm X Y (.sl es .no)),.i6 e]),H):=by
 have aG:=(UH.1 hc).1;have hst:Ae 5 (.ptr p5 0 0) (.agg (Dm X Y (.sl es tk))) Hq=some (Hq.set p5 (.cel 0 (Dm X Y (.sl es tk)))):=by
  simp only[Ae,A1 hc,zXa,Cc (N8 X Y es tk),B5 hc,DB (sz:=5) hl];rw[if_pos ⟨rfl,by omega⟩]
 have hld:Ad true 5 (.ptr p5 0 0) (Hq.set p5 (.cel 0 (Dm X Y (.sl es tk))))=some (.agg (Dm X Y (.sl es tk))):=by
  have:(Hq.set p5 (.cel 0 (Dm X Y (.sl es tk))))[p5]? = some (.cel 0 (Dm X Y (.sl es tk))):=by rw[UT aG]
  simp only[Ad,A1 this,zXa];rfl
 have bB:(Hq.set p5 (.cel 0 (Dm X Y (.sl es tk)))).take H.length=H:=Cm λi hi=>by
  rw[UI (by omega),hold i hi]
 simp only[GMw,hst,hld,FU,D6,E7,zXb,Fa bB,C9,B4,BO,fpart_grid,CT]
theorem MO {H Hq:Aa}{p5:Nat}{e:Int}(hp:H.length<=p5)(hc:Hq[p5]? = some (.cel 0 DQ))(hold:∀i,i<H.length->Hq[i]? = H[i]?) :
  ((Az (some [(.bool false),(.sl [] .ti),(.bool false),(.sl [] .ti),(.sl [] .ti)]) []).bind λx11=>bP H (Av (Ae 5 (.ptr p5 0 0) x11 Hq)) λ_ H37=>(Cv [Ad true 5 (.ptr p5 0 0) H37,some (.i6 e)]).bind λx38=>rPN H x38 H37)=some (.ret (.tup [Oq 0 0 [],.i6 e]),H):=by
 have hb:Az (some [(.bool false),(.sl [] .ti),(.bool false),(.sl [] .ti),(.sl [] .ti)]) []=some (.agg DQ):=rfl;have aG:=(UH.1 hc).1;have hst:Ae 5 (.ptr p5 0 0) (.agg DQ) Hq=some (Hq.set p5 (.cel 0 DQ)):=by
  simp only[Ae,A1 hc,zXa,Cc (cs:=DQ) rfl,B5 hc,DB (cs:=DQ) (sz:=5) rfl]
  rfl
 have hld:Ad true 5 (.ptr p5 0 0) (Hq.set p5 (.cel 0 DQ))=some (.agg DQ):=by
  have:(Hq.set p5 (.cel 0 DQ))[p5]? = some (.cel 0 DQ):=by rw[UT aG]
  simp only[Ad,A1 this,zXa];rfl
 have bB:(Hq.set p5 (.cel 0 DQ)).take H.length=H:=Cm λi hi=>by
  rw[UI (by omega),hold i hi]
 simp only[hb,GMw,hst,hld,FU,D6,E7,zXb,Fa bB,C9,B4,BO,Hj];simp only[DQ,BL,zXb,Fk,Gg,K3,IJ,CT]
 rfl
theorem grid_rows (H:Aa)(L:List Nd)(X Y:Int)(W Hh:Int)(w h p3 p5 p28 p54:Nat)(hL:L.length<549755813888)(hl:AV L=true)(hw:w<=1000)(hh:h<=1000)(sX:SB 44 X)(sY:SB 44 Y)
  (q3:H.length<=p3)(q5:H.length<=p5)(q28:H.length<=p28)(q54:H.length<=p54)(d3:p3≠p54)(d5:p5≠p54)(d28:p28≠p54)(Hc:Aa)
  (f3:Hc[p3]? = some (.cel 0 (Bv L)))(f5:Hc[p5]? = some (.cel 0 DQ))(f28:Hc[p28]? = some (.cel 0 (Iq X Y W Hh)))(f54:Hc[p54]? = some (.cel 0 (Dm X Y (.sl [] .ti))))(hold:∀i,i<H.length->Hc[i]? = H[i]?) :
  Am (λrec1 vs H1=>Sh.f3h H rec1 (ag vs 0) (ag vs 1) (ag vs 2) (ag vs 3) (ag vs 4) (ag vs 5) (ag vs 6) H1) AM [.ptr p3 0 0,.ptr p5 0 0,.ptr p28 0 0,.i6 (w:Int),.i6 (h:Int),.ptr p54 0 0,.i6 0] Hc=some (.ret (.tup [Oq X Y (HZ L X Y w h),.i6 0]),H):=by
 have rA:H.length<=Hc.length:=by have:=(UH.1 f3).1;omega
 have loop:=G5 (G:=λrec1 vs H1=>Sh.f3h H rec1 (ag vs 0) (ag vs 1) (ag vs 2) (ag vs 3) (ag vs 4) (ag vs 5) (ag vs 6) H1) h
  (λy vs Hd=>∃v,vs=[.ptr p3 0 0,.ptr p5 0 0,.ptr p28 0 0,.i6 (w:Int),.i6 (h:Int),.ptr p54 0 0,.i6 (y:Int)]/\Hd[p3]? = some (.cel 0 (Bv L))/\Hd[p5]? = some (.cel 0 DQ)/\Hd[p28]? = some (.cel 0 (Iq X Y W Hh))/\Hd[p54]? = some (.cel 0 (Dm X Y v))/\RS cS TB 1 H.length (HZ L X Y w y) v Hd/\(∀i,i<H.length->Hd[i]? = H[i]?)/\H.length<=Hd.length)
  (by omega) (λy vs Hd hy hI=>?_) (vs:=[.ptr p3 0 0,.ptr p5 0 0,.ptr p28 0 0,.i6 (w:Int),.i6 (h:Int),.ptr p54 0 0,.i6 0]) (H:=Hc) ⟨_,rfl,f3,f5,f28,f54,.inl ⟨rfl,rfl⟩,hold,rA⟩
 ·obtain⟨vs',Hd,⟨v,rfl,g3,g5,g28,g54,gR,go,gl⟩,rec,aB⟩:=loop;rw[aB];obtain⟨tk,rfl⟩:=gR.sl;have hld:Ad true 5 (.ptr p54 0 0) Hd=some (.agg (Dm X Y (.sl (enL cS (HZ L X Y w h)) tk))):=by
   simp only[Ad,A1 g54,zXa];rfl
  unfold Sh.f3h;simp only[An,Ai,Bq,BL,V3,decide_false,AO,hld];exact grid_tail q5 g5 rfl go
 ·obtain⟨v,rfl,g3,g5,g28,g54,gR,go,gl⟩:=hI;have sT:(y:Int)<(h:Int):=by omega
  have aM:=As (show y<9223372036854775807 by omega);have dA:=Fx (f:=cY) (a:=0) (n:=w) (bytes:=1) (H:=Hd) (by omega) (by omega);simp only[show cY 0=[Ab.int .u8 0] from rfl]at dA;have hX:Ad true 2 (.ptr p28 0 0) Hd=some (big X):=by simp only[Ad,A1 g28,zXa];rfl
  have hY:Ad true 2 (.ptr p28 0 2) Hd=some (big Y):=by simp only[Ad,A1 g28,zXa];rfl
  have mN:(Rw L X Y w y).length=w:=by simp[Rw]
  have gR':=gR.left [Blk.cel 0 (flat cY (Rw L X Y w y))];have Yq:(HZ L X Y w y).length=y:=by simp[HZ]
  obtain⟨v2,He,a1,a2,a3⟩:=gR'.snoc (bytes:=16) (by simp;omega) (Rw L X Y w y) .ti (by omega) (by omega);obtain⟨tk0,rfl⟩:=gR.sl;obtain⟨tk2,rfl⟩:=a2.sl;have e54:=a3.cel p54 _ (A0 g54);have e54l:=(UH.1 e54).1;have dY:HZ L X Y w y++[Rw L X Y w y]=HZ L X Y w (y+1):=by simp[HZ,WT]
  rw[dY]at a1 a2;have vM:Ad false 1 (.ptr p54 0 4) (Hd++[Blk.cel 0 (flat cY (Rw L X Y w y))])=some (.sl (enL cS (HZ L X Y w y)) tk0):=B3 (by simp only[Ad,A1 g54,zXa];rfl);have uE:Ae 1 (.ptr p54 0 4) (.sl (enL cS (HZ L X Y w (y+1))) tk2) He=some (He.set p54 (.cel 0 (Dm X Y (.sl (enL cS (HZ L X Y w (y+1))) tk2)))):=by
   simp only[Ae,A1 e54,zXa,PV,B5 e54];rfl
  have lG:=toStr_ms (l:=Rw L X Y w y) (H:=Hd++[Blk.cel 0 (flat cY (Rw L X Y w y))]) (id:=Hd.length) (A1 Ap);rw[mN]at lG;refine⟨[.ptr p3 0 0,.ptr p5 0 0,.ptr p28 0 0,.i6 (w:Int),.i6 (h:Int),.ptr p54 0 0,.i6 ((y+1:Nat):Int)],He.set p54 (.cel 0 (Dm X Y (.sl (enL cS (HZ L X Y w (y+1))) tk2))),⟨_,rfl,by rw[UI d3.symm];exact a3.cel _ _ (A0 g3),by rw[UI d5.symm];exact a3.cel _ _ (A0 g5),by rw[UI d28.symm];exact a3.cel _ _ (A0 g28),by rw[UT e54l],a2.put e54,λi hi=>?_,?_⟩,λrec=>?_⟩
  ·rw[UI (by omega),a3.old i hi,UL (by omega)];exact go i hi
  ·have:=a3.len;simp at this;simp;omega
  ·unfold Sh.f3h;simp only[An,Ai,Bq,BL,sT,decide_true,AU,dA,Bj];refine grid_row H rec L X Y w h y p3 p5 p28 p54 Hd _ hL hl hw (by omega) sX sY (ML g3) hX hY λaA=>?_;unfold Sh.f28;simp only[GMw,V3,Ah,UJ,vM,lG,build_S,a1,uE,aM]
def gridO (L:List Nd)(m:Int):Ab×Int:=
 if m<0\/m>1000 then (Oq 0 0 [],1)
 else if Gx L m=false then (Oq 0 0 [],4)
 else if L=[]then (Oq 0 0 [],0)
 else (Oq (bxX L) (bxY L) (HZ L (bxX L) (bxY L) (bxW L).toNat (bxH L).toNat),0)
theorem bxX_sb {L:List Nd}(hl:AV L=true)(h0:L≠[]):SB 44 (bxX L)/\SB 44 (bxY L):=by
 have hlen:0<L.length:=Vq.2 h0;have eW:=IL Pa hl hlen;have eN:=IL Pb hl hlen;have hLv:Lv L (Cd L).toNat L.length:=⟨UK _,.inr rfl⟩;obtain⟨_,hn2⟩:=hLv.num hlen hl;have hle:(Cd L).toNat<=1329:=Qg hl hlen (UK _);unfold bxX bxY;generalize (Cd L).toNat=v at *;obtain⟨u,rfl⟩:∃u,v=u+1:=⟨v-1,by omega⟩;rw[Vm];have e:(2:Int)^(u+1)=2^u*2:=WX _ _;have hs:=EO (show u<=1400 by omega);have ha:=IR u;have key:∀a:Int,0<=a->a<2^(u+1)->SB 44 (-(2^u)+a):=λa h1 h2=>by
  unfold SB at hs ⊢;refine V8 ?_ hs;rw[e]at h2;generalize (2:Int)^u=p at *;omega
 exact⟨key _ eW.1 eW.2,key _ eN.1 eN.2⟩
theorem q10_of (L:List Nd)(m:Int)(H:Aa)(hL:L.length<549755813888)(hl:AV L=true)(h0:-9223372036854775808<=m)(h1:m<=9223372036854775807) :
  Sh.f65 (Ef L) (.i6 m) H=some (.ret (.tup [(gridO L m).1,.i6 (gridO L m).2]),H):=by
 unfold Sh.f65 gridO;have e3:(H++[Blk.cel 0 (Bv L)]++[Blk.cel 0 DQ])[H.length]? = some (.cel 0 (Bv L)):=by simp
 have e5:(H++[Blk.cel 0 (Bv L)]++[Blk.cel 0 DQ])[(H++[Blk.cel 0 (Bv L)]).length]? = some (.cel 0 DQ):=Ap;have eo:∀i,i<H.length->(H++[Blk.cel 0 (Bv L)]++[Blk.cel 0 DQ])[i]? = H[i]? := λi hi=>by rw[UP,UL hi]
 have l5:H.length<=(H++[Blk.cel 0 (Bv L)]).length:=by simp
 simp only[GMw,boxQ,M8];by_cases hm0:m<0
 ·rw[if_pos (.inl hm0)];simp only[hm0,GMw];exact MO l5 e5 eo
 ·by_cases nY:m>1000
  ·rw[if_pos (.inr nY)];simp only[hm0,nY,GMw];exact MO l5 e5 eo
  ·rw[if_neg (by omega)];have cM:=λH=>R4 L m H hL hl h0 h1;simp only[hm0,nY,GMw,ML e3,cM];cases wY:Gx L m with
   | false=>
    simp only[GMw];exact MO l5 e5 eo
   | true=>
    have uX:=λH=>q09_ofB L H hL hl;simp only[GMw,ML e3,uX,Bt,Bz,NH];generalize hB:H++[Blk.cel 0 (Bv L)]++[Blk.cel 0 DQ]=B at e3 e5 eo;generalize xI:(H++[Blk.cel 0 (Bv L)]).length=p5 at e5 l5;have d35:H.length≠p5:=by rw[<-xI];simp
    have hbl:B.length=H.length+2:=by rw[<-hB];simp
    have p5e:p5=H.length+1:=by rw[<-xI];simp
    have uD:∀x y w h:Int,Ae 8 (.ptr B.length 0 0) (PP x y w h) (B++[Blk.cel 0 GN])=some (B++[Blk.cel 0 (Iq x y w h)]):=λx y w h=>by
     simp only[Ae,A1 (Ap (B:=B) (cs:=GN)),zXa,SM,B5 (Ap (B:=B) (cs:=GN)),DB (cs:=GN) (sz:=8) rfl,Ba]
     rfl
    simp only[uD,GMw];by_cases hn:L=[]
    ·simp only[hn,ne_eq,not_true_eq_false,GMw];exact MO l5 (A0 e5) λi hi=>by rw[UL (by omega)];exact eo i hi
    ·rw[if_neg hn];simp only[hn,ne_eq,not_false_eq_true,GMw];obtain⟨w1,w2⟩:=bx_pos hl hn;obtain⟨sx,sy⟩:=bxX_sb hl hn;have mK:bxW L<=m/\bxH L<=m:=by
      simp only[Gx,bx,if_neg hn,UU,zXe]at wY;exact wY
     simp only[bx,if_neg hn];obtain⟨w,hw⟩:=VB (show 0<=bxW L by omega);obtain⟨h,hh⟩:=VB (show 0<=bxH L by omega);rw[hw]at mK w1 ⊢;rw[hh]at mK w2 ⊢;have yR:=mK.1;have yQ:=mK.2;generalize bxX L=X at *;generalize bxY L=Y at *;have g0:Ad true 2 (.ptr B.length 0 0) (B++[Blk.cel 0 (Iq X Y w h)])=some (big X):=by simp only[Ad,A1 (Ap (B:=B)),zXa];rfl
     have g2:Ad true 2 (.ptr B.length 0 2) (B++[Blk.cel 0 (Iq X Y w h)])=some (big Y):=by simp only[Ad,A1 (Ap (B:=B)),zXa];rfl
     have g4:Ad true 2 (.ptr B.length 0 4) (B++[Blk.cel 0 (Iq X Y w h)])=some (big w):=by simp only[Ad,A1 (Ap (B:=B)),zXa];rfl
     have g6:Ad true 2 (.ptr B.length 0 6) (B++[Blk.cel 0 (Iq X Y w h)])=some (big h):=by simp only[Ad,A1 (Ap (B:=B)),zXa];rfl
     have iw:∀H,Sh.f11 (big (w:Int)) H=some (.ret (.tup [.i6 (w:Int),.bool true]),H):=λH=>by
      rw[q02_intZ _ _ (LB_i64 (by omega) (by omega))];have:GT (w:Int)=true:=by unfold GT;rw[zXe];omega
      unfold Tf;rw[this];rfl
     have ih:∀H,Sh.f11 (big (h:Int)) H=some (.ret (.tup [.i6 (h:Int),.bool true]),H):=λH=>by
      rw[q02_intZ _ _ (LB_i64 (by omega) (by omega))];have:GT (h:Int)=true:=by unfold GT;rw[zXe];omega
      unfold Tf;rw[this];rfl
     have gG:Az (some [(.bool false),(.sl [] .ti),(.bool false),(.sl [] .ti),(.sl [] .ti)]) [(0,2,big X),(2,2,big Y)]=some (.agg (Dm X Y (.sl [] .ti))):=by
      unfold Dm;simp[Az,Gp,Dc,A3]
     simp only[GMw,Ah,UJ,g0,g2,g4,g6,iw,ih,Bt,Bz,gG,M8];generalize hC:B++[Blk.cel 0 (Iq X Y w h)]=C;have aG:C.length=H.length+3:=by rw[<-hC];simp;omega
     have nJ:Ae 5 (.ptr C.length 0 0) (.agg (Dm X Y (.sl [] .ti))) (C++[Blk.cel 0 DQ])=some (C++[Blk.cel 0 (Dm X Y (.sl [] .ti))]):=by
      simp only[Ae,A1 (Ap (B:=C) (cs:=DQ)),zXa,Cc (N8 X Y [] .ti),B5 (Ap (B:=C) (cs:=DQ)),DB (cs:=DQ) (sz:=5) rfl,Ba]
      rfl
     simp only[GMw,nJ,zXl];exact grid_rows H L X Y w h w h H.length p5 B.length C.length hL hl (by omega) (by omega) sx sy (UK _) l5 (by omega) (by omega) (by omega) (by omega) (by omega) _ (by rw[<-hC];exact A0 (A0 e3)) (by rw[<-hC];exact A0 (A0 e5)) (by rw[<-hC];exact A0 Ap) Ap (λi hi=>by rw[<-hC,UP,UL (by omega)];exact eo i hi)
def Ii (b n:Int):List Ab:=[.i6 b,.i6 n]
def LV (f:Int)(L:List Nd)(b:Int):Bool:=decide (f=5)||(Gx L b&&(decide (f=4)||decide (No L<=1)))
def KA (f:Int)(rule:List UInt8)(L:List Nd)(b n:Int):Int:=
 if (decide (1<=f)&&decide (f<=5)&&(LJ rule&&Hv L)&&JL b n)=false then 1 else if LV f L b=false then 5 else 0
theorem NT {L:List Nd}(h:Hv L=true):AV L=true:=by
 simp only[Hv,VT,zXe,UU]at h;rcases h with h | h
 ·subst h;rfl
 ·exact h.1.1.1
theorem q11_express (f:Int)(rule:List UInt8)(L:List Nd)(b n:Int)(H:Aa)(hL:L.length<549755813888)(hl:AV L=true)(h0:-9223372036854775808<=b)(h1:b<=9223372036854775807) :
  Sh.f61 (.i6 f) (pat rule L) (.agg (Ii b n)) H=some (.ret (.bool (LV f L b)),H):=by
 unfold Sh.f61 LV;have hbx:∀H,Bu true 2 (.agg (Ii b n)) H=some (.ptr H.length 0 0,H++[.cel 0 (Ii b n)]):=λH=>Cz rfl rfl;have e4:(H++[Blk.cel 0 (Gv rule L)]++[Blk.cel 0 (Ii b n)])[H.length]? = some (.cel 0 (Gv rule L)):=by simp
 have g6:Ad false 1 (.ptr (H++[Blk.cel 0 (Gv rule L)]).length 0 0) (H++[Blk.cel 0 (Gv rule L)]++[Blk.cel 0 (Ii b n)])=some (.i6 b):=by
  simp only[Ad,A1 (Ap (B:=H++[Blk.cel 0 (Gv rule L)])),zXa];rfl
 have fin:∀q:Bool,rP H (.bool q) (H++[Blk.cel 0 (Gv rule L)]++[Blk.cel 0 (Ii b n)])=some (.ret (.bool q),H):=λq=>by rw[UP];exact Fv
 have cM:=λH=>R4 L b H hL hl h0 h1;have qS:=λH=>q08_mostZ H (show L.length<1152921504606846976 by omega) hl;simp only[GMw,boxPat,hbx];by_cases h5:f=5
 ·simp only[h5,GMw,fin]
 ·simp only[h5,GMw,Ah,UJ,Kt e4,g6,cM];cases Gx L b with
  | false=>simp only[GMw,fin]
  | true=>
   by_cases h4:f=4
   ·simp only[h4,GMw,fin]
   ·simp only[h4,GMw,Ah,UJ,Kt e4,qS,fin]
theorem q11_check (f:Int)(rule:List UInt8)(L:List Nd)(b n:Int)(H:Aa)(hr:rule.length<1152921504606846976)(hL:L.length<549755813888)(h0:-9223372036854775808<=b)(h1:b<=9223372036854775807) :
  Sh.f62 (.i6 f) (pat rule L) (.agg (Ii b n)) H=some (.ret (.i6 (KA f rule L b n)),H):=by
 unfold Sh.f62 KA;have hbx:∀H,Bu true 2 (.agg (Ii b n)) H=some (.ptr H.length 0 0,H++[.cel 0 (Ii b n)]):=λH=>Cz rfl rfl;have e4:(H++[Blk.cel 0 (Gv rule L)]++[Blk.cel 0 (Ii b n)])[H.length]? = some (.cel 0 (Gv rule L)):=by simp
 have g6:Ad true 2 (.ptr (H++[Blk.cel 0 (Gv rule L)]).length 0 0) (H++[Blk.cel 0 (Gv rule L)]++[Blk.cel 0 (Ii b n)])=some (.agg (Ii b n)):=by
  simp only[Ad,A1 (Ap (B:=H++[Blk.cel 0 (Gv rule L)])),zXa];rfl
 have fin:∀q:Int,rP H (.i6 q) (H++[Blk.cel 0 (Gv rule L)]++[Blk.cel 0 (Ii b n)])=some (.ret (.i6 q),H):=λq=>by rw[UP];exact HS
 have tO:=λH=>q11_format f H;have tC:=λH=>q11_right rule L H hr (by omega);have dT:=λH=>q11_fine b n H;simp only[GMw,boxPat,hbx,tO];cases hf:(decide (1<=f)&&decide (f<=5))with
 | false=>simp only[GMw,fin]
 | true=>
  simp only[GMw,Pf e4,tC];cases hq:(LJ rule&&Hv L)with
  | false=>simp only[GMw,fin]
  | true=>
   have hl:AV L=true:=by
    simp only[UU]at hq;exact NT hq.2
   have hex:=λH=>q11_express f rule L b n H hL hl h0 h1;have jZ:∀H,Sh.f26 (.agg (Ii b n)) H=some (.ret (.bool (JL b n)),H):=dT;simp only[GMw,g6,jZ];cases JL b n with
   | false=>simp only[GMw,fin]
   | true=>
    simp only[GMw,Pf e4,g6,hex];cases LV f L b with
    | false=>simp only[GMw,fin];rfl
    | true=>simp only[GMw,fin];rfl
def Gy (one:UInt8)(s:List UInt8):List UInt8:=s.map λb=>if b=0 then 46 else one
def Nj (s:List UInt8):Nat:=(s.reverse.dropWhile λb=>decide (b=0)).length
def rowT (one:UInt8)(s:List UInt8):List UInt8:=(Gy one s).take (Nj s)
theorem usedN_snoc (s:List UInt8)(b:UInt8):Nj (s++[b])=if b=0 then Nj s else s.length+1:=by
 unfold Nj;rw[List.reverse_append];by_cases h:b=0 <;> simp[h,List.dropWhile_cons]
theorem usedN_le (s:List UInt8):Nj s<=s.length:=by
 unfold Nj;have:=(List.dropWhile_sublist (λb:UInt8=>decide (b=0)) (l:=s.reverse)).length_le;simpa using this
theorem q12_row (s:List UInt8)(one:UInt8)(H:Aa)(hs:s.length<70368744177664):Sh.f68 (.str s) (.int .u8 (one.toNat:Int)) H=some (.ret (.str (rowT one s)),H):=by
 unfold Sh.f68;refine Cj (G:=λrec1 vs H1=>Sh.f67 H rec1 (ag vs 0) (ag vs 1) (ag vs 2) (ag vs 3) (ag vs 4) H1) s.length (λi=>[.str s,.int .u8 (one.toNat:Int),DD cY H (Gy one (s.take i)),.i6 (Nj (s.take i):Int),.i6 (i:Int)]) (λi=>DC cY I7 1 H (Gy one (s.take i))) _ (by omega) (λrec i hi=>?_) (λrec=>?_)
 ·have aF:(i:Int)<(s.length:Int):=by omega
  have aM:=As (show i<9223372036854775807 by omega);have hsl:(Gy one (s.take i)).length=i:=by simp[Gy];omega
  have iT:(s.take i).length=i:=by simp;omega
  have oO:decide ((s[i].toNat:Int)=0)=decide (s[i]=0):=by
   rw[Va];simp only[zXe];constructor
   ·intro h;exact WB.1 (by simpa using h)
   ·intro h;rw[h];rfl
  have dZ:Gy one (s.take (i+1))=Gy one (s.take i)++[if s[i]=0 then 46 else one]:=by
   unfold Gy;rw[UR hi,Xu];rfl
  have yW:Nj (s.take (i+1))=if s[i]=0 then Nj (s.take i)else i+1:=by
   rw[UR hi,usedN_snoc,iT]
  have app:∀b:UInt8,AP I7 1 1 (DD cY H (Gy one (s.take i))) (.sl (enL cY [b]) .ti) (DC cY I7 1 H (Gy one (s.take i)))=some (DD cY H (Gy one (s.take i)++[b]),DC cY I7 1 H (Gy one (s.take i)++[b])):=λb=>Du (by simp) (by simp;omega) (by simp;omega);have wI:AL 1 [.int .u8 46]=some (.sl (enL cY [46]) .ti):=build_Y 46;have hlen:∀b:UInt8,A7 (DD cY H (Gy one (s.take i)++[b]))=some (.i6 ((i+1:Nat):Int)):=λb=>by
   rw[EP,Ay,UO,hsl];rfl
  rw[dZ,yW];unfold Sh.f67;simp only[GMw,Dv,aF,B1 hi,oO,Ai];by_cases h0:s[i]=0
  ·simp only[h0,GMw,wI,app,Ai,Sh.f80,aM]
  ·simp only[h0,GMw,build_Y,app,hlen,Ai,Sh.f80,aM]
 ·obtain⟨G,hG⟩:=FV (f:=cY) (ty:=I7) (sz:=1) H (Gy one s);have hu:=usedN_le s;have hsl:(Gy one s).length=s.length:=by simp[Gy]
  unfold Sh.f67;rw[US (UK _)];simp only[GMw,Dv,V3,EP,hG,Ro (f:=cY) (l:=Gy one s) (show Nj s<=(Gy one s).length by omega),TC,rP_str]
  rfl
theorem rowT_len (one:UInt8)(s:List UInt8):(rowT one s).length<=s.length:=by
 unfold rowT Gy;simp only[UY,VJ];omega
def F4 (L:List Nd):List (List UInt8):=if L=[]then []else HZ L (bxX L) (bxY L) (bxW L).toNat (bxH L).toNat
theorem gridO_fits {L:List Nd}{b:Int}(h1:0<=b)(h2:b<=1000)(hw:Gx L b=true):gridO L b=(Oq (bx L bxX) (bx L bxY) (F4 L),0):=by
 unfold gridO F4 bx;rw[if_neg (by omega),if_neg (by rw[hw];simp)];by_cases h0:L=[]
 ·rw[if_pos h0,if_pos h0,if_pos h0,if_pos h0]
 ·rw[if_neg h0,if_neg h0,if_neg h0,if_neg h0]
theorem rowsO_len {L:List Nd}{b:Int}(hl:AV L=true)(h1:0<=b)(h2:b<=1000)(hw:Gx L b=true):(F4 L).length<=1000/\∀r∈F4 L,r.length<=1000:=by
 unfold F4;by_cases h0:L=[]
 ·rw[if_pos h0];exact⟨by simp,λr hr=>by simp at hr⟩
 ·rw[if_neg h0];simp only[Gx,bx,if_neg h0,UU,zXe]at hw;have hp:=bx_pos hl h0;refine⟨by simp[HZ];omega,λr hr=>?_⟩;simp only[HZ,Wh]at hr;obtain⟨y,_,rfl⟩:=hr;simp[Rw];omega
theorem check_ok {f:Int}{rule:List UInt8}{L:List Nd}{b n:Int}(h:KA f rule L b n=0)(hf:f≠5):AV L=true/\0<=b/\b<=1000/\Gx L b=true/\LJ rule=true/\Hv L=true:=by
 unfold KA at h;split at h
 ·cases h
 ·rename_i h1;split at h
  ·cases h
  ·rename_i h2;simp only[Bool.not_eq_false,UU,JL,LV,zXe,VT]at h1 h2;obtain⟨⟨_,h3,h4⟩,h5⟩:=h1;refine⟨NT h4,h5.1.1.1,h5.1.1.2,?_,h3,h4⟩;rcases h2 with h2 | h2
   ·exact absurd h2 hf
   ·exact h2.1
def row5 (r:List UInt8):List UInt8:=if rowT 42 r=[]then [46]else rowT 42 r
def Hg (s0:List UInt8)(rows:List (List UInt8)):List UInt8:=rows.foldl (λs r=>s++row5 r++[10]) s0
theorem Qj (s0:List UInt8)(rows:List (List UInt8)){i:Nat}(hi:i<rows.length):Hg s0 (rows.take (i+1))=Hg s0 (rows.take i)++row5 rows[i]++[10]:=by
 unfold Hg;rw[UR hi,W5];rfl
theorem row5_len (r:List UInt8):(row5 r).length<=r.length+1:=by
 have:=rowT_len 42 r;unfold row5;split
 ·simp
 ·omega
theorem Sd (s0:List UInt8)(rows:List (List UInt8))(h:∀r∈rows,r.length<=1000):∀i,i<=rows.length->(Hg s0 (rows.take i)).length<=s0.length+i*1002
 | 0,_=>by simp[Hg]
 | i+1,hi=>by
  have ih:=Sd s0 rows h i (by omega);have h1:=row5_len rows[i];have h2:=h rows[i] (UV hi);rw[Qj s0 rows hi];simp only[UO,zXi];omega
theorem life5_loop (H Hc:Aa)(G:Aa)(s0:List UInt8)(X Y:Int)(rows:List (List UInt8))(p:Nat)(hr:s0.length<70368744177664)(hn:rows.length<=1000)(h:∀r∈rows,r.length<=1000)
  (hp:Hc[p]? = some (.cel 0 (Dm X Y (.sl (enL cS rows) .no))))(hH:Hc=H++G) :
  Sh.f6a H (.ptr p 0 0) (.str s0) Hc=some (.ret (.tup [.str (Hg s0 rows),.i6 0]),H):=by
 have hld:Ad false 1 (.ptr p 0 4) Hc=some (.sl (enL cS rows) .no):=by simp only[Ad,A1 hp,zXa];rfl
 unfold Sh.f6a;refine Cj (G:=λaA vs H1=>Sh.f69 H aA (ag vs 0) (ag vs 1) (ag vs 2) H1) rows.length (λi=>[.ptr p 0 0,.str (Hg s0 (rows.take i)),.i6 (i:Int)]) (λ_=>Hc) _ (by omega) (λrec i hi=>?_) (λrec=>?_)
 ·have aF:(i:Int)<(rows.length:Int):=by omega
  have aM:=As (show i<9223372036854775807 by omega);have hb:=Sd s0 rows h i (by omega);have h1:=row5_len rows[i];have h2:=h rows[i] (UV hi);have hrow:=λH=>q12_row rows[i] 42 H (by omega);simp only[show ((42:UInt8).toNat:Int)=42 from rfl]at hrow;have j3:∀t:List UInt8,t=row5 rows[i]->Sh.f81 H rec (.ptr p 0 0) (.str (Hg s0 (rows.take i))) (.i6 (i:Int)) (.str t) Hc=rec [.ptr p 0 0,.str (Hg s0 (rows.take i)++row5 rows[i]++[10]),.i6 ((i+1:Nat):Int)] Hc:=by
   intro t ht;subst ht;unfold Sh.f81;rw[Dh (by omega)];simp only[GMw];rw[Dh (by simp only[UO,zXi];omega)];simp only[GMw,aM]
  rw[Qj s0 rows hi];unfold Sh.f69;simp only[GMw,Ah,UJ,hld,Ay,aF,A4 hi,AF,zXh,hrow,Ai,Kd];by_cases he:rowT 42 rows[i]=[]
  ·have:(rowT 42 rows[i] == [])=true:=by rw[he];rfl
   rw[this];simp only[GMw];exact j3 [46] (by unfold row5;rw[if_pos he])
  ·have:(rowT 42 rows[i] == [])=false:=by
    cases hq:rowT 42 rows[i]with
    | nil=>exact absurd hq he
    | cons a l=>rfl
   rw[this];simp only[GMw];exact j3 _ (by unfold row5;rw[if_neg he])
 ·unfold Sh.f69;rw[US (UK _)];simp only[GMw,Ah,UJ,hld,Ay,V3];rw[hH];exact rP_plain (v:=.tup [.str (Hg s0 rows),.i6 0]) rfl
def MN (rule:List UInt8):List UInt8:=[35,76,105,102,101,32,49,46,48,53,10,35,82,32]++rule++[10]
def life5S (rule:List UInt8)(L:List Nd):List UInt8:=
 if F4 L=[]then MN rule else MN rule++[35,80,32]++decZ (bx L bxX)++[32]++decZ (bx L bxY)++[10]
theorem sb_lt10 {z:Int}{k m:Nat}(h:SB k z)(hk:10*k<=m):z.natAbs<10^m:=VL h (pow10_le hk)
theorem sb_dec {z:Int}(h:SB 44 z):z.natAbs<10^4096/\(decZ z).length<=5000:=by
 have h1:z.natAbs<10^4096:=sb_lt10 (m:=4096) h (by decide);refine⟨h1,?_⟩;have:=U6 4096 z.natAbs h1;simp only[show ¬((4096:Nat)=0)by decide,if_false]at this;unfold decZ;split
 ·simp;omega
 ·omega
theorem q12_life5 (rule:List UInt8)(L:List Nd)(b n:Int)(H:Aa)(hr:rule.length<35184372088832)(hL:L.length<549755813888)(h0:-9223372036854775808<=b)(h1:b<=9223372036854775807) :
  Sh.f12 (pat rule L) (.agg (Ii b n)) H=some (.ret (if KA 2 rule L b n=0 then .tup [.str (Hg (life5S rule L) (F4 L)),.i6 0]else .tup [.str [],.i6 (KA 2 rule L b n)]),H):=by
 unfold Sh.f12;have hbx:∀H,Bu true 2 (.agg (Ii b n)) H=some (.ptr H.length 0 0,H++[.cel 0 (Ii b n)]):=λH=>Cz rfl rfl;have e3:(H++[Blk.cel 0 (Gv rule L)]++[Blk.cel 0 (Ii b n)])[H.length]? = some (.cel 0 (Gv rule L)):=by simp
 have g5:Ad true 2 (.ptr (H++[Blk.cel 0 (Gv rule L)]).length 0 0) (H++[Blk.cel 0 (Gv rule L)]++[Blk.cel 0 (Ii b n)])=some (.agg (Ii b n)):=by
  simp only[Ad,A1 (Ap (B:=H++[Blk.cel 0 (Gv rule L)])),zXa];rfl
 have g6:Ad false 1 (.ptr (H++[Blk.cel 0 (Gv rule L)]).length 0 0) (H++[Blk.cel 0 (Gv rule L)]++[Blk.cel 0 (Ii b n)])=some (.i6 b):=by
  simp only[Ad,A1 (Ap (B:=H++[Blk.cel 0 (Gv rule L)])),zXa];rfl
 have oP:=λH=>q11_check 2 rule L b n H (by omega) hL h0 h1;simp only[GMw,boxPat,hbx,Pf e3,g5,oP];by_cases he:KA 2 rule L b n=0
 ·obtain⟨hl,b0,b1,hw,_,_⟩:=check_ok he (by decide);obtain⟨r1,r2⟩:=rowsO_len hl b0 b1 hw;have jX:=λH=>q10_of L b H hL hl h0 h1;simp only[gridO_fits b0 b1 hw]at jX;rw[if_pos he];simp only[he,GMw,Ah,UJ,Nat.add_zero,Kt e3,g6,jX,Bt,Bz,M8];generalize hB:H++[Blk.cel 0 (Gv rule L)]++[Blk.cel 0 (Ii b n)]=B at e3;have xA:SB 44 (bx L bxX)/\SB 44 (bx L bxY):=by
   unfold bx;by_cases hn:L=[]
   ·rw[if_pos hn,if_pos hn];exact⟨SB_nat (n:=0) (by omega),SB_nat (n:=0) (by omega)⟩
   ·rw[if_neg hn,if_neg hn];exact bxX_sb hl hn
  obtain⟨x1,x2⟩:=sb_dec xA.1;obtain⟨y1,y2⟩:=sb_dec xA.2;have nJ:Ae 5 (.ptr B.length 0 0) (Oq (bx L bxX) (bx L bxY) (F4 L)) (B++[Blk.cel 0 DQ])=some (B++[Blk.cel 0 (Dm (bx L bxX) (bx L bxY) (.sl (enL cS (F4 L)) .no))]):=by
   unfold Oq;simp only[Ae,A1 (Ap (B:=B) (cs:=DQ)),zXa,Cc (N8 _ _ _ _),B5 (Ap (B:=B) (cs:=DQ)),DB (cs:=DQ) (sz:=5) rfl,Ba]
   rfl
  have mN:=Sa (A0 (G:=[Blk.cel 0 (Dm (bx L bxX) (bx L bxY) (.sl (enL cS (F4 L)) .no))]) e3);have gx:Ad true 2 (.ptr B.length 0 0) (B++[Blk.cel 0 (Dm (bx L bxX) (bx L bxY) (.sl (enL cS (F4 L)) .no))])=some (big (bx L bxX)):=by simp only[Ad,A1 (Ap (B:=B)),zXa];rfl
  have gy:Ad true 2 (.ptr B.length 0 2) (B++[Blk.cel 0 (Dm (bx L bxX) (bx L bxY) (.sl (enL cS (F4 L)) .no))])=some (big (bx L bxY)):=by simp only[Ad,A1 (Ap (B:=B)),zXa];rfl
  have gr:Ad false 1 (.ptr B.length 0 4) (B++[Blk.cel 0 (Dm (bx L bxX) (bx L bxY) (.sl (enL cS (F4 L)) .no))])=some (.sl (enL cS (F4 L)) .no):=by simp only[Ad,A1 (Ap (B:=B)),zXa];rfl
  have tx:=λH=>q03_text (bx L bxX) H x1;have ty':=λH=>q03_text (bx L bxY) H y1;have fin:∀s0:List UInt8,s0.length<70368744177664->Sh.f6a H (.ptr B.length 0 0) (.str s0) (B++[Blk.cel 0 (Dm (bx L bxX) (bx L bxY) (.sl (enL cS (F4 L)) .no))])=some (.ret (.tup [.str (Hg s0 (F4 L)),.i6 0]),H):=λs0 hs0=>
   life5_loop H _ ([Blk.cel 0 (Gv rule L)]++([Blk.cel 0 (Ii b n)]++[Blk.cel 0 (Dm (bx L bxX) (bx L bxY) (.sl (enL cS (F4 L)) .no))])) s0 (bx L bxX) (bx L bxY) (F4 L) B.length hs0 r1 r2 Ap (by rw[<-hB];simp)
  simp only[GMw,nJ,Ah,Nat.add_zero,mN];rw[Dh (by simp;omega)];simp only[GMw];rw[Dh (by simp;omega)];simp only[GMw,Ah,UJ,gr,Ay,Ai];unfold life5S;by_cases hro:F4 L=[]
  ·rw[if_pos hro];have:¬(((F4 L).length:Int)>0):=by rw[hro];simp
   simp only[this,GMw,Ai];exact fin (MN rule) (by unfold MN;simp;omega)
  ·rw[if_neg hro];have hpos:=Vq.2 hro;have:(((F4 L).length:Int)>0):=by omega
   simp only[this,GMw,Ai,Ah,UJ,Nat.add_zero,gx,gy,tx,ty',and_true,eq_self];rw[Dh (by simp;omega)];simp only[GMw];rw[Dh (by simp;omega)];simp only[GMw];rw[Dh (by simp;omega)];simp only[GMw];rw[Dh (by simp;omega)];simp only[GMw];rw[Dh (by simp;omega)];simp only[GMw,Ai];exact fin _ (by simp;omega)
 ·rw[if_neg he];simp only[he,GMw];rw[UP];exact rP_plain (v:=.tup [.str [],.i6 (KA 2 rule L b n)]) rfl
theorem Qh {ι:Type}{G:ι->LK->LK}{σ:Type}(I:σ->List Ab->Aa->Prop)(μ:σ->Nat)(done:σ->Prop)
  (turn:∀(s:σ) (vs:List Ab) (H:Aa),I s vs H->¬done s->∃s' vs' H',μ s'<μ s/\I s' vs' H'/\∀(i:ι) (rec:LK),G i rec vs H=rec vs' H')
  {s:σ}{vs:List Ab}{H:Aa}(h0:I s vs H)(hm:μ s<1152921504606846976):∃s' vs' H',done s'/\I s' vs' H'/\∀i,∃rec,Am (G i) AM vs H=G i rec vs' H':=by
 have key:∀(n:Nat) (s:σ) (vs:List Ab) (H:Aa),μ s<n->I s vs H->∃s' vs' H',done s'/\I s' vs' H'/\∀i,∃rec,Am (G i) n vs H=G i rec vs' H':=by
  intro n
  induction n with
  | zero=>intro s vs H hn _;omega
  | succ n ih=>
   intro s vs H hn hI;by_cases hd:done s
   ·exact⟨s,vs,H,hd,hI,λi=>⟨Am (G i) n,Ca n vs H⟩⟩
   ·obtain⟨s1,vs1,H1,h1,h2,h3⟩:=turn s vs H hI hd;obtain⟨s2,vs2,H2,h4,h5,h6⟩:=ih s1 vs1 H1 (by omega) h2;exact⟨s2,vs2,H2,h4,h5,λi=>(h6 i).imp λrec h7=>by rw[Ca,h3,h7]⟩
 exact key AM s vs H (by rw[CQ];exact hm) h0
theorem Ep {G:LK->LK}{σ:Type}(I:σ->List Ab->Aa->Prop)(μ:σ->Nat)(done:σ->Prop)
  (turn:∀(s:σ) (vs:List Ab) (H:Aa),I s vs H->¬done s->∃s' vs' H',μ s'<μ s/\I s' vs' H'/\∀rec:LK,G rec vs H=rec vs' H')
  {s:σ}{vs:List Ab}{H:Aa}(h0:I s vs H)(hm:μ s<1152921504606846976):∃s' vs' H',done s'/\I s' vs' H'/\∃rec,Am G AM vs H=G rec vs' H':=by
 obtain⟨s',vs',H',h1,h2,h3⟩:=Qh (G:=λ(_:Unit)=>G) I μ done (λs vs H hI hd=>by
  obtain⟨s1,vs1,H1,h1,h2,h3⟩:=turn s vs H hI hd;exact⟨s1,vs1,H1,h1,h2,λ_=>h3⟩) h0 hm
 exact⟨s',vs',H',h1,h2,h3 ()⟩
end Go.Gm
