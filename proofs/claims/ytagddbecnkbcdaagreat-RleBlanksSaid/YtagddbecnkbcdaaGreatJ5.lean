/- Texts of this proof, joined. -/
import Derived.Test.YtagddbecnkbcdaaGreatJ2
import Derived.Test.YtagddbecnkbcdaaGreatJ3
import Derived.Test.YtagddbecnkbcdaaGreatJ4
set_option linter.all false
namespace Go.Gm
def Su (S:List Cl):List Nd×Int:=
 if A8 S>1329 then ([],4)
 else if VjP (Bv (A8 S) [] (-(2^(A8 S-1))) (-(2^(A8 S-1))) S).1 ((Bv (A8 S) [] (-(2^(A8 S-1))) (-(2^(A8 S-1))) S).2:Int)
 then (K0 (Bv (A8 S) [] (-(2^(A8 S-1))) (-(2^(A8 S-1))) S).1 (Bv (A8 S) [] (-(2^(A8 S-1))) (-(2^(A8 S-1))) S).2,0)
 else ([],1)
theorem VaQ (l:List Cl):HA l=Su (B1 l):=rfl
theorem VhJ {H:Aa}{e:Int}:((AD (some [(.sl [] .ti)]) []).bind λx57=>bP H (AE (Ai 1 (.ptr H.length 0 0) x57 (H++[.cel 0 [.sl [] .ti]]))) λ_ H59=>(GP [Ad true 1 (.ptr H.length 0 0) H59,some (.i6 e)]).bind λx60=>rPN H x60 H59)=some (.ret (.tup [Gn [],.i6 e]),H):=by rw[show AD (some [(.sl [] .ti)]) []=some (.agg [.sl (enL cNd []) .ti]) from rfl];rw[BB];exact MJ (by simp) λi hi=>by rw[Vp hi]
def KS (c:UInt8):Bool:=decide (33<=c.toNat/\c.toNat<=126)
theorem VhY (c:UInt8)(H:Aa):Uc5 (.int .u8 (c.toNat:Int)) H=some (.ret (.bool (KS c)),H):=by
 unfold Uc5 KS;by_cases h:(33:Int)<=c.toNat
 ·have:33<=c.toNat:=by omega
  simp[h,this];omega
 ·have:¬33<=c.toNat:=by omega
  simp[h,this]
def HH (s:zAa):Bool:=s.all KS&&decide (1<=s.length/\s.length<=40)
theorem VhZ (s:zAa)(H:Aa)(hs:s.length<1152921504606846976):Uc6 (.str s) H=some (.ret (.bool (HH s)),H):=by
 unfold Uc6;refine Br (σ:=Nat) (λi=>i<=s.length/\(s.take i).all KS=true) (λi=>[.str s,.i6 (i:Int)]) (λ_=>H) (λi=>s.length-i) (λ_=>some (.ret (.bool (HH s)),H)) (λi rec hi hrec=>?_) 0 ⟨by omega,by simp⟩ (by omega);obtain⟨hi,aF⟩:=hi;unfold Ueg;by_cases h:i<s.length
 ·have hx:(i:Int)<(s.length:Int):=by omega
  simp only[Al,AZ,CU,zXa,Bh,hx,decide_true,AU,Ds h,VhY,Fd,Je];cases hc:KS s[i]with
  |false=>
   have:HH s=false:=by simp only[HH,WX];left;rw[Xd];exact⟨s[i],Vz h,by simp[hc]⟩
   simp[this]
  |true=>have:=hrec (i+1) ⟨h,by rw[Vw h,XY];simp[aF,hc]⟩ (by omega);simp (disch:=omega) [An];simpa using this
 ·have hx:¬(i:Int)<(s.length:Int):=by omega
  have he:s.take i=s:=Vy (by omega);rw[he]at aF;by_cases h1:(1:Int)<=s.length
  ·simp[hx,h1,HH,aF];by_cases h2:s.length<=40
   ·have:(s.length:Int)<=40:=by omega
    simp[this,h2];omega
   ·have:¬(s.length:Int)<=40:=by omega
    simp[this,h2]
  ·have:s=[]:=V6 (by omega);subst this;have hz:i=0:=by simpa using hi
   subst hz;simp[HH]
def Gp (rule:zAa)(L:List Nd):List Ab:=[.str rule,.sl (enL cNd L) .no]
def pat (rule:zAa)(L:List Nd):Ab:=.agg (Gp rule L)
theorem Vdk (rule:zAa)(L:List Nd)(H:Aa):B3 true 2 (pat rule L) H=some (.ptr H.length 0 0,H++[.cel 0 (Gp rule L)]):=BH rfl rfl
section
variable {H:Aa}{p:Nat}{rule:zAa}{L:List Nd}
theorem S5 (hg:H[p]? = some (.cel 0 (Gp rule L))):Ad false 1 (.ptr p 0 0) H=some (.str rule):=by simp only[Ad,As hg,zXa];rfl
theorem Kg (hg:H[p]? = some (.cel 0 (Gp rule L))):Ad true 1 (.ptr p 0 1) H=some (Gn L):=by simp only[Ad,As hg,zXa];rfl
theorem P9 (hg:H[p]? = some (.cel 0 (Gp rule L))):Ad true 2 (.ptr p 0 0) H=some (pat rule L):=by simp only[Ad,As hg,zXa];rfl

end
theorem VeW (rule:zAa)(L:List Nd)(H:Aa)(hr:rule.length<1152921504606846976)(hL:L.length<17592186044415):UcK (pat rule L) H=some (.ret (.bool (HH rule&&EG L)),H):=by
 unfold UcK;have e1:(H++[Blk.cel 0 (Gp rule L)])[H.length]? = some (.cel 0 (Gp rule L)):=Ap;simp only[GMw,Vdk,Ae,Vr,Nat.add_zero,S5 e1,VhZ rule _ hr];cases HH rule with
 |false=>simp only[GMw,Dq]
 |true=>simp only[GMw,Ae,Vr,Kg e1,Gn,Bp,Vfd L .no _ hL,Dq]
def J9 (a b:Int):Bool:=decide (0<=a)&&decide (a<=1000)&&decide (0<=b)&&decide (b<=100000)
theorem VhU (a b:Int)(H:Aa):Ubm (.agg [.i6 a,.i6 b]) H=some (.ret (.bool (J9 a b)),H):=by
 unfold Ubm J9;have e1:(H++[Blk.cel 0 [.i6 a,.i6 b]])[H.length]? = some (.cel 0 [.i6 a,.i6 b]):=Ap;have g1:Ad false 1 (.ptr H.length 0 0) (H++[Blk.cel 0 [.i6 a,.i6 b]])=some (.i6 a):=by simp only[Ad,As e1,zXa];rfl
 have g2:Ad false 1 (.ptr H.length 0 1) (H++[Blk.cel 0 [.i6 a,.i6 b]])=some (.i6 b):=by simp only[Ad,As e1,zXa];rfl
 simp only[GMw,BH (sz:=2) (cs:=[Ab.i6 a,.i6 b]) rfl rfl,Ae,Vr,Nat.add_zero,g1,ge_iff_le];cases decide (0<=a)with
 |false=>simp only[GMw,Dq]
 |true=>
  simp only[GMw,Ae,Vr,Nat.add_zero,g1];cases decide (a<=1000)with
  |false=>simp only[GMw,Dq]
  |true=>
   simp only[GMw,Ae,Vr,g2,ge_iff_le];cases decide (0<=b)with
   |false=>simp only[GMw,Dq]
   |true=>simp only[GMw,Ae,Vr,g2,Dq]
theorem Vd7 (n:Int)(H:Aa):Uc4 (.i6 n) H=some (.ret (.bool (decide (1<=n)&&decide (n<=5))),H):=by unfold Uc4;simp only[GMw,ge_iff_le];cases decide (1<=n) <;> simp only[GMw]
inductive QT where
 |nil
 |lf (a b c d:Int)
 |node (a b c d:QT)
deriving DecidableEq
def Lc (L:List Nd)(E:List Bool):Nat->Nat->QT
 |0,_=>.nil
 |v+1,n=>
  if E.getD n true then .nil
  else if 1<(A9 L n).lv then .node (Lc L E v (A9 L n).k0.toNat) (Lc L E v (A9 L n).k1.toNat) (Lc L E v (A9 L n).k2.toNat) (Lc L E v (A9 L n).k3.toNat)
  else .lf (A9 L n).k0 (A9 L n).k1 (A9 L n).k2 (A9 L n).k3
abbrev sem (L:List Nd)(v n:Nat):QT:=Lc L (A2 L) v n
def St (a:Int):Prop:=0<=a/\a<=255
def Ge:Nat->QT->Prop
 |_,.nil=>True
 |v,.lf a b c d=>v=1/\(St a/\St b/\St c/\St d)/\¬(a=0/\b=0/\c=0/\d=0)
 |v,.node a b c d=>2<=v/\v<=1329/\(Ge (v-1) a/\Ge (v-1) b/\Ge (v-1) c/\Ge (v-1) d)/\¬(a=.nil/\b=.nil/\c=.nil/\d=.nil)
def Bc:Nat->QT->List Nd->List Nd×Nat
 |_,.nil,out=>(out,0)
 |_,.lf a b c d,out=>BE out ⟨1,a,b,c,d⟩
 |v,.node a b c d,out=>
  BE (Bc (v-1) d (Bc (v-1) c (Bc (v-1) b (Bc (v-1) a out).1).1).1).1
   ⟨v,(Bc (v-1) a out).2,(Bc (v-1) b (Bc (v-1) a out).1).2,(Bc (v-1) c (Bc (v-1) b (Bc (v-1) a out).1).1).2,(Bc (v-1) d (Bc (v-1) c (Bc (v-1) b (Bc (v-1) a out).1).1).1).2⟩
theorem VnT (rec:Nat->List Nd->List Nd×Nat)(x:Nd)(out:List Nd):BR rec x 4 out =
  ((rec x.k3.toNat (rec x.k2.toNat (rec x.k1.toNat (rec x.k0.toNat out).1).1).1).1,
   ⟨x.lv,(rec x.k0.toNat out).2,(rec x.k1.toNat (rec x.k0.toNat out).1).2,(rec x.k2.toNat (rec x.k1.toNat (rec x.k0.toNat out).1).1).2,(rec x.k3.toNat (rec x.k2.toNat (rec x.k1.toNat (rec x.k0.toNat out).1).1).1).2⟩):=rfl
def Lv (L:List Nd)(v n:Nat):Prop:=n<=L.length/\(n=0\/(A9 L n).lv.toNat=v)
theorem Lv.kid {L:List Nd}(hl:AH L=true){v n k:Nat}(h0:0<n)(h:Lv L (v+1) n)(h1:1<(A9 L n).lv)(hk:k<4):Lv L v ((A9 L n).kid k).toNat/\((A9 L n).kid k).toNat<n/\0<=(A9 L n).kid k:=by
 obtain⟨m,rfl⟩:∃m,n=m+1:=⟨n-1,by omega⟩;have hm:m<L.length:=h.1;obtain⟨l1,l2,l3⟩:=AS hl hm;have hx:A9 L ((m+1:Nat):Int)=L[m]:=Bb hm;have hv:=h.2;rw[hx]at h1 hv ⊢;obtain⟨q1,q2,q3⟩:=l3 k hk;by_cases hc:0<L[m].kid k
 ·obtain⟨r1,r2⟩:=q3 h1 hc;obtain⟨c,hcc⟩:∃c:Nat,L[m].kid k=((c+1:Nat):Int):=⟨(L[m].kid k-1).toNat,by omega⟩;have aG:c<L.length:=by omega
  have:=r2 L[c] (by rw[show (L[m].kid k-1).toNat=c from by omega];exact Vl aG);rw[hcc,show (((c+1:Nat):Int)).toNat=c+1 from by omega];refine⟨⟨by omega,.inr ?_⟩,by omega,by omega⟩;rw[Bb aG];omega
 ·rw[show (L[m].kid k).toNat=0 from by omega];exact⟨⟨VL _,.inl rfl⟩,by omega,q1⟩
theorem VcA {L:List Nd}(hl:AH L=true):∀v n out,Lv L v n->Bk L (A2 L) v n out=Bc v (sem L v n) out
 |0,n,out,h=>rfl
 |v+1,n,out,h=>by
  unfold sem;simp only[Bk,Lc];split
  ·rfl
  ·rename_i he;have h0:0<n:=OK (by simpa using he);have aN:(A9 L (n:Int)).lv.toNat=v+1:=by rcases h.2 with h | h <;> omega
   split
   ·rename_i h1;rw[VnT];have e:∀k,k<4->∀o,Bk L (A2 L) v ((A9 L n).kid k).toNat o=Bc v (sem L v ((A9 L n).kid k).toNat) o:=λk hk o=>VcA hl v _ o (Lv.kid hl h0 h h1 hk).1;have e0:=e 0 (by omega);have e1:=e 1 (by omega);have e2:=e 2 (by omega);have e3:=e 3 (by omega);simp only[Nd.kid]at e0 e1 e2 e3;simp only[Bc,VH,e0,e1,e2,e3];have:(A9 L (n:Int)).lv=((v+1:Nat):Int):=by omega
    rw[this]
   ·rename_i h1;have:(A9 L (n:Int)).lv=1:=by omega
    simp only[Bc]
    congr 1
    cases hx:A9 L (n:Int)with
    |mk a b c d e=>rw[hx]at this;simp only at this;rw[this]
theorem OL {L:List Nd}(hl:AH L=true){n:Nat}(h0:0<n)(hn:n<=L.length):(A2 L).getD n true=(List.range 4).all λk=>decide ((A9 L n).kid k=0)||(decide (1<(A9 L n).lv)&&(A2 L).getD ((A9 L n).kid k).toNat true):=by
 obtain⟨m,rfl⟩:∃m,n=m+1:=⟨n-1,by omega⟩;have hm:m<L.length:=hn;have hpre:∀(r l:List Nd),∃s,A2 (l++r)=A2 l++s:=by
  intro r
  induction r with
  |nil=>intro l;exact⟨[],by simp⟩
  |cons x r ih=>intro l;obtain⟨s,hs⟩:=ih (l++[x]);exact⟨[Me (A2 l) x]++s,by rw[show l++x::r=l++[x]++r from by simp,hs,Ik];simp⟩
 have hL:L=L.take m++[L[m]]++L.drop (m+1):=by rw[<-Vw hm,VW]
 obtain⟨s,hs⟩:=hpre (L.drop (m+1)) (L.take m++[L[m]]);rw[<-hL,Ik]at hs;have hlen:(A2 (L.take m)).length=m+1:=by rw[Da];simp;omega
 have dE:(A2 L).getD (m+1) true=Me (A2 (L.take m)) L[m]:=by rw[hs,Vm,Vp (by simp[hlen]),VG (by omega),hlen];simp
 rw[dE,Bb hm];obtain⟨l1,l2,l3⟩:=AS hl hm;unfold Me;have hk:∀k,k<4->(decide (1<L[m].lv)&&(A2 (L.take m)).getD (L[m].kid k).toNat true)=(decide (1<L[m].lv)&&(A2 L).getD (L[m].kid k).toNat true):=by
  intro k hk;obtain⟨q1,q2,q3⟩:=l3 k hk;by_cases h1:1<L[m].lv
  ·have hlt:(L[m].kid k).toNat<m+1:=by
    by_cases hc:0<L[m].kid k
    ·have:=(q3 h1 hc).1;omega
    ·omega
   congr 1
   rw[hs,Vu,Vm,Vm,Vp (by omega)]
  ·simp[h1]
 rw[Hy,Hy,hk 0 (by omega),hk 1 (by omega),hk 2 (by omega),hk 3 (by omega)]
theorem F2 (L:List Nd)(v:Nat):sem L v 0=.nil:=by
 unfold sem;cases v with
 |zero=>rfl
 |succ v=>simp only[Lc,E7,if_true]
theorem JT {L:List Nd}(hl:AH L=true){v n:Nat}(h:Lv L v n):sem L v n=.nil↔(A2 L).getD n true=true:=by
 unfold sem;cases v with
 |zero=>
  refine⟨λ_=>?_,λ_=>rfl⟩;rcases h.2 with h0 | h0
  ·rw[h0];exact E7 L
  ·by_cases hn:0<n
   ·obtain⟨m,rfl⟩:∃m,n=m+1:=⟨n-1,by omega⟩;have hm:m<L.length:=h.1;rw[Bb hm]at h0;have:=(AS hl hm).1;omega
   ·obtain rfl:n=0:=by omega
    exact E7 L
 |succ v=>
  simp only[Lc];split
  ·rename_i he;exact⟨λ_=>he,λ_=>rfl⟩
  ·rename_i he;split
   ·exact⟨λh=>by (cases h),λh=>absurd h he⟩
   ·exact⟨λh=>by (cases h),λh=>absurd h he⟩
theorem L4 {L:List Nd}(hl:AH L=true):∀v n,Lv L v n->Ge v (sem L v n)
 |0,n,h=>trivial
 |v+1,n,h=>by
  unfold sem;simp only[Lc];split
  ·trivial
  ·rename_i he;have cQ:(A2 L).getD n true=false:=by simpa using he
   have h0:0<n:=OK cQ;have aN:(A9 L (n:Int)).lv.toNat=v+1:=by rcases h.2 with h | h <;> omega
   have hle:=QC hl h0 h.1;have gO:=OL hl h0 h.1;rw[cQ,Hy]at gO;split
   ·rename_i h1;have e:∀k,k<4->Ge v (sem L v ((A9 L n).kid k).toNat):=λk hk=>L4 hl v _ (Lv.kid hl h0 h h1 hk).1;have e0:=e 0 (by omega);have e1:=e 1 (by omega);have e2:=e 2 (by omega);have e3:=e 3 (by omega);have f:∀k,k<4->sem L v ((A9 L n).kid k).toNat=.nil->(decide ((A9 L n).kid k=0)||(decide (1<(A9 L n).lv)&&(A2 L).getD ((A9 L n).kid k).toNat true))=true:=λk hk hs=>by rw[JT hl (Lv.kid hl h0 h h1 hk).1]at hs;rw[hs];simp[h1]
    refine⟨by omega,by omega,⟨e0,e1,e2,e3⟩,λ⟨n0,n1,n2,n3⟩=>?_⟩;rw[f 0 (by omega) n0,f 1 (by omega) n1,f 2 (by omega) n2,f 3 (by omega) n3]at gO;cases gO
   ·rename_i h1;have qH:(A9 L (n:Int)).lv=1:=by omega
    obtain⟨m,rfl⟩:∃m,n=m+1:=⟨n-1,by omega⟩;have hm:m<L.length:=h.1;obtain⟨l1,l2,l3⟩:=AS hl hm;have hx:A9 L ((m+1:Nat):Int)=L[m]:=Bb hm;rw[hx]at qH gO h1 ⊢;have s:∀k,k<4->St (L[m].kid k):=λk hk=>⟨(l3 k hk).1,(l3 k hk).2.1 qH⟩;refine⟨by rw[hx]at aN;omega,⟨s 0 (by omega),s 1 (by omega),s 2 (by omega),s 3 (by omega)⟩,λ⟨n0,n1,n2,n3⟩=>?_⟩;simp only[Nd.kid,n0,n1,n2,n3,decide_true,Xe,Bool.and_self]at gO;cases gO
structure G7 (out:List Nd):Prop where
 lo:AH out=true
 nd:out.Nodup
 ne:∀n,0<n->n<=out.length->(A2 out).getD n true=false
theorem G7.nil:G7 []:=⟨rfl,List.nodup_nil,λn h1 h2=>by simp at h2;omega⟩
theorem Vjb:∀(r l:List Nd),∃s,A2 (l++r)=A2 l++s:=by
 intro r
 induction r with
 |nil=>intro l;exact⟨[],by simp⟩
 |cons x r ih=>intro l;obtain⟨s,hs⟩:=ih (l++[x]);exact⟨[Me (A2 l) x]++s,by rw[show l++x::r=l++[x]++r from by simp,hs,Ik];simp⟩
theorem SU {l r:List Nd}{n:Nat}(h:n<=l.length):(A2 (l++r)).getD n true=(A2 l).getD n true:=by obtain⟨s,hs⟩:=Vjb r l;rw[hs,Vm,Vm,Vp (by rw[Da];omega)]
theorem LL {l r:List Nd}{n:Nat}(h0:0<n)(h:n<=l.length):A9 (l++r) (n:Int)=A9 l (n:Int):=by obtain⟨m,rfl⟩:∃m,n=m+1:=⟨n-1,by omega⟩;rw[Bb (show m<(l++r).length by simp;omega),Bb (show m<l.length by omega),XP (by omega)]
theorem Gl {l r:List Nd}(hl:AH l=true):∀v n,Lv l v n->sem (l++r) v n=sem l v n
 |0,n,h=>rfl
 |v+1,n,h=>by
  unfold sem;simp only[Lc,SU h.1];split
  ·rfl
  ·rename_i he;have h0:0<n:=OK (by simpa using he);rw[LL h0 h.1];split
   ·rename_i h1;have e:∀k,k<4->sem (l++r) v ((A9 l n).kid k).toNat=sem l v ((A9 l n).kid k).toNat:=λk hk=>Gl hl v _ (Lv.kid hl h0 h h1 hk).1;have e0:=e 0 (by omega);have e1:=e 1 (by omega);have e2:=e 2 (by omega);have e3:=e 3 (by omega);simp only[Nd.kid,sem]at e0 e1 e2 e3;rw[e0,e1,e2,e3]
   ·rfl
theorem Lv.old {l r:List Nd}{v n:Nat}(h:Lv l v n):Lv (l++r) v n:=by
 refine⟨by have:=h.1;simp;omega,?_⟩;rcases h.2 with h0 | h0
 ·exact .inl h0
 ·by_cases hn:0<n
  ·exact .inr (by rw[LL hn h.1];exact h0)
  ·exact .inl (by omega)
structure Fit (o:List Nd)(x:Nd)(v:Nat)(t:QT):Prop where
 lv:x.lv=(v:Int)
 v1:1<=v/\v<=1329
 kid:(1<v/\t=.node (sem o (v-1) x.k0.toNat) (sem o (v-1) x.k1.toNat) (sem o (v-1) x.k2.toNat) (sem o (v-1) x.k3.toNat)/\∀k,k<4->0<=x.kid k/\Lv o (v-1) (x.kid k).toNat)\/(v=1/\t=.lf x.k0 x.k1 x.k2 x.k3/\∀k,k<4->St (x.kid k))
 ne:∃k,k<4/\x.kid k≠0
structure Ins (v:Nat)(t:QT)(out o':List Nd)(i:Nat):Prop where
 pre:∃r,o'=out++r/\∀x∈r,x.lv<=(v:Int)
 cl:G7 o'
 lv:Lv o' v i
 sm:sem o' v i=t
 old:i<=out.length->o'=out
 new:out.length<i->i=o'.length
theorem Vgs {o:List Nd}(hc:G7 o){x:Nd}{v:Nat}{t:QT}(h:Fit o x v t):AH (o++[x])=true:=by
 refine Ke hc.lo (Kf (by rw[h.lv];have:=h.v1;omega) (by rw[h.lv];have:=h.v1;omega) λk hk=>?_);rcases h.kid with ⟨h1,_,h2⟩ | ⟨h1,_,h2⟩
 ·obtain⟨q1,q2⟩:=h2 k hk;refine⟨q1,λe=>by rw[h.lv]at e;omega,λ_ hp=>?_⟩;have hn:=q2.1;refine⟨by omega,?_⟩;rcases q2.2 with q | q
  ·omega
  ·have e:x.kid k=(((x.kid k).toNat:Nat):Int):=by omega
   obtain⟨m,hm⟩:∃m,(x.kid k).toNat=m+1:=⟨(x.kid k).toNat-1,by omega⟩;rw[e,hm] ;rw[hm]at q;have hml:m<o.length:=by omega
   rw[Bb hml]at q ⊢;have:=(AS hc.lo hml).1;rw[h.lv];omega
 ·obtain⟨q1,q2⟩:=h2 k hk;exact⟨q1,λ_=>q2,λe=>by rw[h.lv]at e;omega⟩
theorem VnX {o:List Nd}(hc:G7 o){x:Nd}{v:Nat}{t:QT}(h:Fit o x v t):Me (A2 o) x=false:=by
 obtain⟨k,hk,kY⟩:=h.ne;unfold Me;rw[Xd];refine⟨k,by simpa using hk,?_⟩;rcases h.kid with ⟨h1,_,h2⟩ | ⟨h1,_,h2⟩
 ·obtain⟨q1,q2⟩:=h2 k hk;rw[hc.ne (x.kid k).toNat (by omega) q2.1];simp[kY]
 ·have:¬1<x.lv:=by rw[h.lv];omega
  simp[kY,this]
theorem Vgr {o:List Nd}(hc:G7 o){x:Nd}{v:Nat}{t:QT}(h:Fit o x v t){i:Nat}(hi:o[i]? = some x):sem o v (i+1)=t:=by
 have hlt:i<o.length:=(Vn.1 hi).1;have hx:A9 o ((i+1:Nat):Int)=x:=by rw[Bb hlt];rw[Vl hlt]at hi;injection hi
 obtain⟨w,rfl⟩:∃w,v=w+1:=⟨v-1,by have:=h.v1;omega⟩;unfold sem;simp only[Lc,hc.ne (i+1) (by omega) (by omega),hx,h.lv,Vq,if_false];rcases h.kid with ⟨h1,h3,h2⟩ | ⟨h1,h3,h2⟩
 ·rw[if_pos (by omega),h3];rfl
 ·rw[if_neg (by omega),h3]
theorem Fit.old {o r:List Nd}(hc:G7 o){x:Nd}{v:Nat}{t:QT}(h:Fit o x v t):Fit (o++r) x v t:=by
 refine⟨h.lv,h.v1,?_,h.ne⟩;rcases h.kid with ⟨h1,h3,h2⟩ | ⟨h1,h3,h2⟩
 ·left;refine⟨h1,?_,λk hk=>⟨(h2 k hk).1,(h2 k hk).2.old⟩⟩;have e0:=Gl (r:=r) hc.lo _ _ (h2 0 (by omega)).2;have e1:=Gl (r:=r) hc.lo _ _ (h2 1 (by omega)).2;have e2:=Gl (r:=r) hc.lo _ _ (h2 2 (by omega)).2;have e3:=Gl (r:=r) hc.lo _ _ (h2 3 (by omega)).2;simp only[Nd.kid]at e0 e1 e2 e3;rw[e0,e1,e2,e3];exact h3
 ·exact .inr ⟨h1,h3,h2⟩
theorem Vgt {o:List Nd}(hc:G7 o){x:Nd}{v:Nat}{t:QT}(h:Fit o x v t)(hn:x ∉ o):G7 (o++[x]):=by
 refine⟨Vgs hc h,?_,λn h0 hle=>?_⟩
 ·rw[Yj];exact⟨hc.nd,by simp,λa ha b hb e=>by simp at hb;subst hb;subst e;exact hn ha⟩
 ·by_cases cJ:n<=o.length
  ·rw[SU cJ];exact hc.ne n h0 cJ
  ·have e:n=o.length+1:=by simp at hle;omega
   rw[e,Ik,Vm,VG (by rw[Da];omega),Da];simp[VnX hc h]
theorem Vfm {o:List Nd}(hc:G7 o){x:Nd}{v:Nat}{t:QT}(h:Fit o x v t):(∃r,(BE o x).1=o++r/\∀y∈r,y=x)/\G7 (BE o x).1/\Lv (BE o x).1 v (BE o x).2/\sem (BE o x).1 v (BE o x).2=t/\((BE o x).1[(BE o x).2-1]? = some x/\0<(BE o x).2)/\(((BE o x).1=o/\(BE o x).2<=o.length)\/((BE o x).2=o.length+1/\(BE o x).2=(BE o x).1.length)):=by
 have aN:x.lv.toNat=v:=by rw[h.lv];omega
 cases hf:Cm o x with
 |zero=>
  have hp:BE o x=(o++[x],o.length+1):=by simp[BE,hf]
  have hn:=I4.1 hf;have hg:(o++[x])[o.length]? = some x:=by simp
  rw[hp];have cF:=Vgt hc h hn;refine⟨⟨[x],rfl,by simp⟩,cF,⟨by simp,.inr ?_⟩,Vgr cF (h.old hc) hg,⟨by simp,by simp⟩,.inr ⟨rfl,by simp⟩⟩;rw[Bb (by simp)];simp[aN]
 |succ i=>
  have hp:BE o x=(o,i+1):=by simp[BE,hf]
  rw[Ek]at hf;have hlt:i<o.length:=(Vn.1 hf.1).1;rw[hp];refine⟨⟨[],by simp,by simp⟩,hc,⟨hlt,.inr ?_⟩,Vgr hc h hf.1,⟨by simpa using hf.1,by simp⟩,.inl ⟨rfl,hlt⟩⟩;rw[Bb hlt];have:=hf.1;rw[Vl hlt]at this;injection this with this;rw[this,aN]
theorem ER:∀(t:QT) (v:Nat) (out:List Nd),Ge v t->G7 out->Ins v t out (Bc v t out).1 (Bc v t out).2
 |.nil,v,out,hg,hc=>⟨⟨[],by simp[Bc],by simp⟩,hc,⟨VL _,.inl rfl⟩,F2 _ _,λ_=>rfl,λh=>by simp[Bc]at h⟩
 |.lf a b c d,v,out,hg,hc=>by
  obtain⟨rfl,⟨ha,hb,hcc,hd⟩,hne⟩:=hg;have bI:Fit out ⟨1,a,b,c,d⟩ 1 (.lf a b c d):=by
   refine⟨rfl,⟨by omega,by omega⟩,.inr ⟨rfl,rfl,λk hk=>?_⟩,?_⟩
   ·match k,hk with
    |0,_=>exact ha
    |1,_=>exact hb
    |2,_=>exact hcc
    |3,_=>exact hd
   ·by_cases h0:a=0
    ·by_cases h1:b=0
     ·by_cases h2:c=0
      ·exact⟨3,by omega,λh3=>hne ⟨h0,h1,h2,h3⟩⟩
      ·exact⟨2,by omega,h2⟩
     ·exact⟨1,by omega,h1⟩
    ·exact⟨0,by omega,h0⟩
  obtain⟨⟨r,p1,p2⟩,p3,p4,p5,p6,p7⟩:=Vfm hc bI;refine⟨⟨r,p1,λx hx=>by rw[p2 x hx];simp⟩,p3,p4,p5,λhi=>?_,λhi=>?_⟩
  ·rcases p7 with ⟨q,_⟩ | ⟨q,_⟩
   ·exact q
   ·have:(Bc 1 (.lf a b c d) out).2=out.length+1:=q;omega
  ·rcases p7 with ⟨_,q⟩ | ⟨_,q⟩
   ·have:(Bc 1 (.lf a b c d) out).2<=out.length:=q;omega
   ·exact q
 |.node a b c d,v,out,hg,hc=>by
  obtain⟨h2,hv,⟨ga,gb,gc,gd⟩,hne⟩:=hg;have ia:=ER a (v-1) out ga hc;have ib:=ER b (v-1) _ gb ia.cl;have ic:=ER c (v-1) _ gc ib.cl;have id:=ER d (v-1) _ gd ic.cl;simp only[Bc];generalize Bc (v-1) a out=A at ia ib ic id ⊢;obtain⟨o1,n0⟩:=A;dsimp only at ia ib ic id ⊢;generalize Bc (v-1) b o1=B at ib ic id ⊢;obtain⟨o2,n1⟩:=B;dsimp only at ib ic id ⊢;generalize Bc (v-1) c o2=C at ic id ⊢;obtain⟨o3,n2⟩:=C;dsimp only at ic id ⊢;generalize Bc (v-1) d o3=D at id ⊢;obtain⟨o4,n3⟩:=D;dsimp only at id ⊢;obtain⟨r1,e1,w1⟩:=ia.pre;obtain⟨r2,e2,w2⟩:=ib.pre;obtain⟨r3,e3,w3⟩:=ic.pre;obtain⟨r4,e4,w4⟩:=id.pre;have la:Lv o4 (v-1) n0/\sem o4 (v-1) n0=a:=by
   have:o4=o1++(r2++r3++r4):=by rw[e4,e3,e2];simp
   rw[this];exact⟨ia.lv.old,(Gl ia.cl.lo _ _ ia.lv).trans ia.sm⟩
  have lb:Lv o4 (v-1) n1/\sem o4 (v-1) n1=b:=by
   have:o4=o2++(r3++r4):=by rw[e4,e3];simp
   rw[this];exact⟨ib.lv.old,(Gl ib.cl.lo _ _ ib.lv).trans ib.sm⟩
  have lc:Lv o4 (v-1) n2/\sem o4 (v-1) n2=c:=by rw[e4];exact⟨ic.lv.old,(Gl ic.cl.lo _ _ ic.lv).trans ic.sm⟩
  have ld:Lv o4 (v-1) n3/\sem o4 (v-1) n3=d:=⟨id.lv,id.sm⟩;have nz:∀ {n:Nat} {t:QT},sem o4 (v-1) n=t->t≠.nil->n≠0:=λh ht h0=>ht (by rw[<-h,h0,F2]);have bI:Fit o4 ⟨v,n0,n1,n2,n3⟩ v (.node a b c d):=by
   refine⟨rfl,⟨by omega,hv⟩,.inl ⟨by omega,?_,λk hk=>?_⟩,?_⟩
   ·simp only[zXl,la.2,lb.2,lc.2,ld.2]
   ·match k,hk with
    |0,_=>exact⟨WB _,by simpa[Nd.kid]using la.1⟩
    |1,_=>exact⟨WB _,by simpa[Nd.kid]using lb.1⟩
    |2,_=>exact⟨WB _,by simpa[Nd.kid]using lc.1⟩
    |3,_=>exact⟨WB _,by simpa[Nd.kid]using ld.1⟩
   ·by_cases h0:a=.nil
    ·by_cases h1:b=.nil
     ·by_cases h2:c=.nil
      ·exact⟨3,by omega,by have:=nz ld.2 (λh3=>hne ⟨h0,h1,h2,h3⟩);simp[Nd.kid];omega⟩
      ·exact⟨2,by omega,by have:=nz lc.2 h2;simp[Nd.kid];omega⟩
     ·exact⟨1,by omega,by have:=nz lb.2 h1;simp[Nd.kid];omega⟩
    ·exact⟨0,by omega,by have:=nz la.2 h0;simp[Nd.kid];omega⟩
  obtain⟨⟨r,p1,p2⟩,p3,p4,p5,⟨p6,p6'⟩,p7⟩:=Vfm id.cl bI;have hout:o4=out++(r1++r2++r3++r4):=by rw[e4,e3,e2,e1];simp
  have hlen:out.length<=o4.length:=by rw[hout];simp
  generalize hP:BE o4 ⟨v,n0,n1,n2,n3⟩=P at p1 p3 p4 p5 p6 p6' p7 ⊢;obtain⟨o',i⟩:=P;dsimp only at p1 p3 p4 p5 p6 p6' p7 ⊢;have lvs:∀x∈r1++r2++r3++r4,x.lv<=((v-1:Nat):Int):=by
   intro x hx;simp only[VA]at hx;rcases hx with ((hx | hx) | hx) | hx
   ·exact w1 x hx
   ·exact w2 x hx
   ·exact w3 x hx
   ·exact w4 x hx
  refine⟨⟨r1++r2++r3++r4++r,by rw[p1,hout];simp,λx hx=>?_⟩,p3,p4,p5,λhi=>?_,λhi=>?_⟩
  ·rw[VA]at hx;rcases hx with hx | hx
   ·have:=lvs x hx;omega
   ·rw[p2 x hx];exact WU _
  ·rcases p7 with ⟨q,_⟩ | ⟨q,_⟩
   ·-- found among the old ones: its kids are old,too
    rw[q]at p6;have hlt:i-1<out.length:=by omega
    have hx:out[i-1]=⟨v,n0,n1,n2,n3⟩:=by rw[hout,Vp hlt,Vl hlt]at p6;injection p6
    obtain⟨l1,l2,l3⟩:=AS hc.lo hlt;have hk:∀k,k<4->out[i-1].kid k<=out.length:=λk hk=>by
     obtain⟨q1,q2,q3⟩:=l3 k hk;by_cases hp:0<out[i-1].kid k
     ·have:=(q3 (by rw[hx];show (1:Int)<(v:Int);omega) hp).1;omega
     ·omega
    rw[hx]at hk;have k0:(n0:Int)<=out.length:=hk 0 (by omega);have k1:(n1:Int)<=out.length:=hk 1 (by omega);have k2:(n2:Int)<=out.length:=hk 2 (by omega);have k3:(n3:Int)<=out.length:=hk 3 (by omega);have f1:=ia.old (by omega);have f2:=ib.old (by rw[f1];omega);have f3:=ic.old (by rw[f2,f1];omega);have f4:=id.old (by rw[f3,f2,f1];omega);rw[q,f4,f3,f2,f1]
   ·omega
  ·rcases p7 with ⟨q,q'⟩ | ⟨_,q⟩
   ·exfalso;rw[q]at p6;have dI:(⟨v,n0,n1,n2,n3⟩:Nd)∈r1++r2++r3++r4:=by rw[hout,VG (by omega)]at p6;exact VE p6
    have:=lvs _ dI;have h3:(v:Int)<=((v-1:Nat):Int):=this;omega
   ·exact q
def QT.q:QT->Nat->QT
 |.node a b c d,k=>match k with | 0=>a | 1=>b | 2=>c | _=>d
 |_,_=>.nil
def QT.s:QT->Nat->Int
 |.lf a b c d,k=>match k with | 0=>a | 1=>b | 2=>c | _=>d
 |_,_=>0
def QT.isNode:QT->Bool
 |.node _ _ _ _=>true
 |_=>false
def O4 (t:QT):Bool:=t.isNode&&(List.range 4).all λk=>(List.range 4).all λj=>decide (j=3-k)||(decide ((t.q k).q j=.nil)&&decide ((t.q k).s j=0))
def HC (v:Nat)(t:QT):QT:=
 if v=2 then .lf ((t.q 0).s 3) ((t.q 1).s 2) ((t.q 2).s 1) ((t.q 3).s 0)else .node ((t.q 0).q 3) ((t.q 1).q 2) ((t.q 2).q 1) ((t.q 3).q 0)
def Hx:Nat->QT->Nat×QT
 |0,t=>(0,t)
 |v+1,t=>if O4 t then Hx v (HC (v+1) t)else (v+1,t)
theorem Ge.q {v:Nat}{t:QT}(h:Ge v t)(k:Nat):Ge (v-1) (t.q k):=by
 cases t with
 |nil=>trivial
 |lf a b c d=>trivial
 |node a b c d=>obtain⟨h1,h2,⟨ga,gb,gc,gd⟩,_⟩:=h;unfold QT.q;dsimp only;split <;> assumption
theorem Ge.st {v:Nat}{t:QT}(h:Ge v t)(k:Nat):St (t.s k):=by
 cases t with
 |nil=>exact⟨WU _,by show (0:Int)<=255;decide⟩
 |node a b c d=>exact⟨WU _,by show (0:Int)<=255;decide⟩
 |lf a b c d=>obtain⟨h1,⟨ga,gb,gc,gd⟩,_⟩:=h;unfold QT.s;dsimp only;split <;> assumption
theorem Ge.kind {v:Nat}{t:QT}(h:Ge v t):t=.nil\/(v=1/\t.isNode=false/\∃a b c d,t=.lf a b c d)\/(2<=v/\v<=1329/\t.isNode=true):=by
 cases t with
 |nil=>exact .inl rfl
 |lf a b c d=>exact .inr (.inl ⟨h.1,rfl,a,b,c,d,rfl⟩)
 |node a b c d=>exact .inr (.inr ⟨h.1,h.2.1,rfl⟩)
theorem QT.eta {t:QT}(h:t.isNode=true):t=.node (t.q 0) (t.q 1) (t.q 2) (t.q 3):=by
 cases t with
 |nil=>cases h
 |lf a b c d=>cases h
 |node a b c d=>rfl
theorem Ge.some {v:Nat}{t:QT}(h:Ge v t)(hn:t≠.nil):∃j,j<4/\((v=1/\t.s j≠0)\/(1<v/\t.q j≠.nil)):=by
 cases t with
 |nil=>exact absurd rfl hn
 |lf a b c d=>
  obtain⟨h1,_,h2⟩:=h;by_cases h0:a=0
  ·by_cases h3:b=0
   ·by_cases h4:c=0
    ·exact⟨3,by omega,.inl ⟨h1,λh5=>h2 ⟨h0,h3,h4,h5⟩⟩⟩
    ·exact⟨2,by omega,.inl ⟨h1,h4⟩⟩
   ·exact⟨1,by omega,.inl ⟨h1,h3⟩⟩
  ·exact⟨0,by omega,.inl ⟨h1,h0⟩⟩
 |node a b c d=>
  obtain⟨h1,_,_,h2⟩:=h;by_cases h0:a=.nil
  ·by_cases h3:b=.nil
   ·by_cases h4:c=.nil
    ·exact⟨3,by omega,.inr ⟨by omega,λh5=>h2 ⟨h0,h3,h4,h5⟩⟩⟩
    ·exact⟨2,by omega,.inr ⟨by omega,h4⟩⟩
   ·exact⟨1,by omega,.inr ⟨by omega,h3⟩⟩
  ·exact⟨0,by omega,.inr ⟨by omega,h0⟩⟩
theorem Vbg {t:QT}(h:O4 t=true){k j:Nat}(hk:k<4)(hj:j<4)(hne:j≠3-k):(t.q k).q j=.nil/\(t.q k).s j=0:=by simp only[O4,Vx,V7]at h;have:=h.2 k (by simpa using hk) j (by simpa using hj);simpa[hne]using this
theorem LW {v:Nat}{t:QT}(h:Ge (v+1) t)(hh:O4 t=true):Ge v (HC (v+1) t)/\HC (v+1) t≠.nil:=by
 have dA:t.isNode=true:=by simp only[O4,Vx]at hh;exact hh.1
 have sM:t≠.nil:=λe=>by subst e;cases dA
 obtain⟨k,hk,iU⟩:=h.some sM;rcases h.kind with rfl | ⟨h1,h2,_⟩ | ⟨h1,h2,_⟩
 ·exact absurd rfl sM
 ·rw[h2]at dA;cases dA
 have hq:t.q k≠.nil:=by rcases iU with ⟨e,_⟩ | ⟨_,e⟩;omega;exact e
 obtain⟨j,hj,oL⟩:=(h.q k).some hq;simp only[VH]at oL;have sS:j=3-k:=by
  by_cases e:j=3-k
  ·exact e
  ·exfalso;obtain⟨e1,e2⟩:=Vbg hh hk hj e;rcases oL with ⟨_,e3⟩ | ⟨_,e3⟩
   ·exact e3 e2
   ·exact e3 e1
 unfold HC;by_cases hv:v+1=2
 ·rw[if_pos hv];refine⟨⟨by omega,⟨(h.q 0).st 3,(h.q 1).st 2,(h.q 2).st 1,(h.q 3).st 0⟩,λ⟨e0,e1,e2,e3⟩=>?_⟩,by simp⟩;rcases oL with ⟨_,e⟩ | ⟨e,_⟩
  ·rw[sS]at e
   match k,hk with
   |0,_=>exact e e0
   |1,_=>exact e e1
   |2,_=>exact e e2
   |3,_=>exact e e3
  ·omega
 ·rw[if_neg hv];refine⟨⟨by omega,by omega,⟨(h.q 0).q 3,(h.q 1).q 2,(h.q 2).q 1,(h.q 3).q 0⟩,λ⟨e0,e1,e2,e3⟩=>?_⟩,by simp⟩;rcases oL with ⟨e,_⟩ | ⟨_,e⟩
  ·omega
  ·rw[sS]at e
   match k,hk with
   |0,_=>exact e e0
   |1,_=>exact e e1
   |2,_=>exact e e2
   |3,_=>exact e e3
theorem Ve7:∀(v:Nat) (t:QT),Ge v t->t≠.nil->Ge (Hx v t).1 (Hx v t).2/\(Hx v t).2≠.nil/\O4 (Hx v t).2=false
 |0,t,hg,hn=>by
  rcases hg.kind with h | ⟨h,_⟩ | ⟨h,_⟩
  ·exact absurd h hn
  ·omega
  ·omega
 |v+1,t,hg,hn=>by
  unfold Hx;cases hh:O4 t with
  |true=>obtain⟨r1,r2⟩:=LW hg hh;simp only[if_true];exact Ve7 v _ r1 r2
  |false=>simp only[Vq,if_false];exact⟨hg,hn,hh⟩
section
variable {L:List Nd}
theorem RP (hl:AH L=true){v n k:Nat}(h0:0<n)(h:Lv L (v+1) n)(h1:1<(A9 L n).lv)(hk:k<4):(sem L (v+1) n).q k=sem L v ((A9 L n).kid k).toNat:=by
 unfold sem;simp only[Lc,if_pos h1];split
 ·rename_i he;have gO:=OL hl h0 h.1;rw[he]at gO;have:=V7.1 gO.symm k (by simpa using hk);simp only[Wn,zXe,Vx]at this;show QT.nil=_;rcases this with e | ⟨_,e⟩
  ·rw[e];exact (F2 L v).symm
  ·exact ((JT hl (Lv.kid hl h0 h h1 hk).1).2 e).symm
 ·match k,hk with
  |0,_=>rfl
  |1,_=>rfl
  |2,_=>rfl
  |3,_=>rfl
theorem VbV (hl:AH L=true){v n k:Nat}(h0:0<n)(h:Lv L (v+1) n)(h1:¬1<(A9 L n).lv)(hk:k<4):(sem L (v+1) n).s k=(A9 L n).kid k:=by
 unfold sem;simp only[Lc,if_neg h1];split
 ·rename_i he;have gO:=OL hl h0 h.1;rw[he]at gO;have:=V7.1 gO.symm k (by simpa using hk);simp only[Wn,zXe,Vx]at this;rcases this with e | ⟨e,_⟩
  ·rw[e];rfl
  ·exact absurd e h1
 ·match k,hk with
  |0,_=>rfl
  |1,_=>rfl
  |2,_=>rfl
  |3,_=>rfl
theorem Vbf (hl:AH L=true){v n:Nat}(h0:0<n)(h:Lv L v n)(he:(A2 L).getD n true=false):DP L n=O4 (sem L v n):=by
 have hv0:(A9 L (n:Int)).lv.toNat=v:=by rcases h.2 with h | h <;> omega
 have hv1:1<=(A9 L (n:Int)).lv:=by obtain⟨m,rfl⟩:∃m,n=m+1:=⟨n-1,by omega⟩;rw[Bb h.1];exact (AS hl h.1).1
 obtain⟨w,rfl⟩:∃w,v=w+1:=⟨v-1,by omega⟩;unfold DP O4;by_cases h1:1<(A9 L (n:Int)).lv
 ·have dA:(sem L (w+1) n).isNode=true:=by unfold sem;simp only[Lc,he,Vq,if_false,if_pos h1];rfl
  have e2:(2:Int)<=(A9 L (n:Int)).lv:=by omega
  rw[dA,zXc (show n≠0 by omega),zXc e2,zXn,zXn,zXn];unfold hol;have hk:∀k,k<4->(decide ((A9 L n).kid k=0)||(List.range 4).all (O5 L (A2 L) (A9 L n) k))=(List.range 4).all λj=>decide (j=3-k)||(decide (((sem L (w+1) n).q k).q j=.nil)&&decide (((sem L (w+1) n).q k).s j=0)):=by
   intro k hk;rw[RP hl h0 h h1 hk];obtain⟨g1,g2,g3⟩:=Lv.kid hl h0 h h1 hk;by_cases hc:(A9 L n).kid k=0
   ·rw[hc];have:(List.range 4).all (λj=>decide (j=3-k)||(decide ((sem L w ((0:Int)).toNat).q j=.nil)&&decide ((sem L w ((0:Int)).toNat).s j=0)))=true:=by rw[show ((0:Int)).toNat=0 from rfl,F2,V7];intro j _;simp[QT.q,QT.s]
    rw[this];rfl
   ·rw[zXd hc,zXo];have cO:0<((A9 L n).kid k).toNat:=by omega
    have ec:(((A9 L n).kid k).toNat:Int)=(A9 L n).kid k:=by omega
    have hcv:(A9 L (((A9 L n).kid k).toNat:Int)).lv.toNat=w:=by rcases g1.2 with g | g <;> omega
    have mL:1<=(A9 L (((A9 L n).kid k).toNat:Int)).lv:=by
     obtain⟨m,hm⟩:∃m,((A9 L n).kid k).toNat=m+1:=⟨((A9 L n).kid k).toNat-1,by omega⟩;rw[hm];have hml:m<L.length:=by have:=g1.1;omega
     rw[Bb hml];exact (AS hl hml).1
    obtain⟨u,rfl⟩:∃u,w=u+1:=⟨w-1,by omega⟩;have pt:∀j,j<4->O5 L (A2 L) (A9 L n) k j=(decide (j=3-k)||(decide ((sem L (u+1) ((A9 L n).kid k).toNat).q j=.nil)&&decide ((sem L (u+1) ((A9 L n).kid k).toNat).s j=0))):=by
     intro j hj;unfold O5
     congr 1
     by_cases h2:(A9 L n).lv=2
     ·rw[if_pos h2];have cL:¬1<(A9 L (((A9 L n).kid k).toNat:Int)).lv:=by omega
      rw[VbV hl cO g1 cL hj,ec];have hq:(sem L (u+1) ((A9 L n).kid k).toNat).q j=.nil:=by unfold sem;simp only[Lc,if_neg cL];split <;> rfl
      rw[hq];simp
     ·rw[if_neg h2];have cL:1<(A9 L (((A9 L n).kid k).toNat:Int)).lv:=by omega
      obtain⟨f1,f2,f3⟩:=Lv.kid hl cO g1 cL hj;rw[RP hl cO g1 cL hj,ec];rw[ec]at f1;have hs:(sem L (u+1) ((A9 L n).kid k).toNat).s j=0:=by unfold sem;simp only[Lc,if_pos cL];split <;> rfl
      rw[hs];have:=JT hl f1;rw[V8];simp only[decide_true,Bool.and_true,zXe];exact this.symm
    rw[Hy,Hy,pt 0 (by omega),pt 1 (by omega),pt 2 (by omega),pt 3 (by omega)]
  rw[Hy,Hy (λk=>(List.range 4).all λj=>decide (j=3-k)||(decide (((sem L (w+1) n).q k).q j=.nil)&&decide (((sem L (w+1) n).q k).s j=0))),hk 0 (by omega),hk 1 (by omega),hk 2 (by omega),hk 3 (by omega)]
 ·have dA:(sem L (w+1) n).isNode=false:=by unfold sem;simp only[Lc,he,Vq,if_false,if_neg h1];rfl
  have e2:¬(2:Int)<=(A9 L (n:Int)).lv:=by omega
  rw[dA,zXd e2];simp

end
theorem Lv.num {L:List Nd}{v n:Nat}(h:Lv L v n)(h0:0<n)(hl:AH L=true):(A9 L (n:Int)).lv=(v:Int)/\1<=v:=by
 have hv:(A9 L (n:Int)).lv.toNat=v:=by rcases h.2 with h | h <;> omega
 obtain⟨m,rfl⟩:∃m,n=m+1:=⟨n-1,by omega⟩;rw[Bb h.1]at hv ⊢;have:=(AS hl h.1).1;omega
theorem VlE {L:List Nd}(hl:AH L=true){w n:Nat}(h0:0<n)(h:Lv L (w+1) n)(he:(A2 L).getD n true=false)(hh:DP L n=true) :
  AH (L++[CI L n])=true/\Lv (L++[CI L n]) w (L.length+1)/\sem (L++[CI L n]) w (L.length+1)=HC (w+1) (sem L (w+1) n)/\(A2 (L++[CI L n])).getD (L.length+1) true=false:=by
 obtain⟨cL,hn2⟩:=PF hh;obtain⟨aN,_⟩:=h.num h0 hl;obtain⟨u,rfl⟩:∃u,w=u+1:=⟨w-1,by omega⟩;have h1:1<(A9 L (n:Int)).lv:=by omega
 have dG:AH (L++[CI L n])=true:=by obtain⟨m,rfl⟩:∃m,n=m+1:=⟨n-1,by omega⟩;exact PE hl h.1 (by rw[Bb h.1]at hn2;exact hn2)
 have hx:A9 (L++[CI L n]) ((L.length+1:Nat):Int)=CI L n:=by rw[Bb (by simp)];simp
 have gW:(CI L n).lv=(u+1:Nat):=by show (A9 L (n:Int)).lv-1=_;omega
 have hLv:Lv (L++[CI L n]) (u+1) (L.length+1):=⟨by simp,.inr (by rw[hx,gW];omega)⟩;rw[Vbf hl h0 h he]at hh;obtain⟨ig,inn⟩:=LW (L4 hl _ _ h) hh;have bG:∀k,k<4->(CI L n).kid k=LX L (A9 L n) k:=λk hk=>UL L n hk;have hne:sem (L++[CI L n]) (u+1) (L.length+1)=HC (u+1+1) (sem L (u+1+1) n):=by
  by_cases hu:u=0
  ·subst hu;have hx1:¬1<(A9 (L++[CI L n]) ((L.length+1:Nat):Int)).lv:=by rw[hx,gW];decide
   have hs:∀k,k<4->(sem (L++[CI L n]) 1 (L.length+1)).s k=((sem L 2 n).q k).s (3-k):=by
    intro k hk;rw[VbV dG (by omega) hLv hx1 hk,hx,bG k hk,RP hl h0 h h1 hk];unfold LX;obtain⟨g1,g2,g3⟩:=Lv.kid hl h0 h h1 hk;by_cases hc:(A9 L n).kid k=0
    ·rw[if_pos hc,hc,show ((0:Int)).toNat=0 from rfl,F2];rfl
    ·rw[if_neg hc];have cO:0<((A9 L n).kid k).toNat:=by omega
     obtain⟨cl,_⟩:=g1.num cO hl;rw[VbV hl cO g1 (by omega) (by omega)];rw[show (((A9 L n).kid k).toNat:Int)=(A9 L n).kid k from by omega]
   have e:HC 2 (sem L 2 n)=.lf ((sem (L++[CI L n]) 1 (L.length+1)).s 0) ((sem (L++[CI L n]) 1 (L.length+1)).s 1) ((sem (L++[CI L n]) 1 (L.length+1)).s 2) ((sem (L++[CI L n]) 1 (L.length+1)).s 3):=by rw[hs 0 (by omega),hs 1 (by omega),hs 2 (by omega),hs 3 (by omega)];rfl
   have hg:=L4 dG 1 _ hLv;rcases hg.kind with hk | ⟨_,_,a,b,c,d,hk⟩ | ⟨hk,_⟩
   ·exfalso;rw[hk]at e;rw[e]at ig;exact ig.2.2 ⟨rfl,rfl,rfl,rfl⟩
   ·show sem (L++[CI L n]) 1 (L.length+1)=HC 2 (sem L 2 n);rw[e,hk];rfl
   ·omega
  ·have hx1:1<(A9 (L++[CI L n]) ((L.length+1:Nat):Int)).lv:=by rw[hx,gW];omega
   have hs:∀k,k<4->(sem (L++[CI L n]) (u+1) (L.length+1)).q k=((sem L (u+1+1) n).q k).q (3-k):=by
    intro k hk;rw[RP dG (by omega) hLv hx1 hk,hx,bG k hk,RP hl h0 h h1 hk];unfold LX;obtain⟨g1,g2,g3⟩:=Lv.kid hl h0 h h1 hk;by_cases hc:(A9 L n).kid k=0
    ·rw[if_pos hc,hc,show ((0:Int)).toNat=0 from rfl,F2,F2];rfl
    ·rw[if_neg hc];have cO:0<((A9 L n).kid k).toNat:=by omega
     obtain⟨cl,_⟩:=g1.num cO hl;have c1:1<(A9 L (((A9 L n).kid k).toNat:Int)).lv:=by omega
     have hk3:=(Lv.kid hl cO g1 c1 (show 3-k<4 by omega)).1;rw[RP hl cO g1 c1 (by omega)];rw[show (((A9 L n).kid k).toNat:Int)=(A9 L n).kid k from by omega]at hk3 ⊢;exact Gl hl _ _ hk3
   have e:HC (u+1+1) (sem L (u+1+1) n)=.node ((sem (L++[CI L n]) (u+1) (L.length+1)).q 0) ((sem (L++[CI L n]) (u+1) (L.length+1)).q 1) ((sem (L++[CI L n]) (u+1) (L.length+1)).q 2) ((sem (L++[CI L n]) (u+1) (L.length+1)).q 3):=by rw[hs 0 (by omega),hs 1 (by omega),hs 2 (by omega),hs 3 (by omega)];unfold HC;rw[if_neg (by omega)]
   have hg:=L4 dG (u+1) _ hLv;rcases hg.kind with hk | ⟨hk,_⟩ | ⟨_,_,hk⟩
   ·exfalso;rw[hk]at e;rw[e]at ig;exact ig.2.2.2 ⟨rfl,rfl,rfl,rfl⟩
   ·omega
   ·rw[e];exact QT.eta hk
 refine⟨dG,hLv,hne,?_⟩;cases hq:(A2 (L++[CI L n])).getD (L.length+1) true with
 |false=>rfl
 |true=>have:=(JT dG hLv).2 hq;rw[hne]at this;exact absurd this inn
theorem Q3:∀(v:Nat) (L:List Nd) (n:Nat),AH L=true->0<n->Lv L v n->(A2 L).getD n true=false ->
  AH (C8 v L n).1=true/\Lv (C8 v L n).1 (Hx v (sem L v n)).1 (C8 v L n).2/\0<(C8 v L n).2/\sem (C8 v L n).1 (Hx v (sem L v n)).1 (C8 v L n).2=(Hx v (sem L v n)).2
 |0,L,n,hl,h0,hLv,he=>by have:=(hLv.num h0 hl).2;omega
 |v+1,L,n,hl,h0,hLv,he=>by
  have hs:=Vbf hl h0 hLv he;unfold C8 Hx;cases hh:DP L n with
  |false=>rw[hh]at hs;rw[<-hs];exact⟨hl,hLv,h0,rfl⟩
  |true=>rw[hh]at hs;rw[<-hs];obtain⟨r1,r2,r3,r4⟩:=VlE hl h0 hLv he hh;simp only[if_true];rw[<-r3];exact Q3 v _ _ r1 (by omega) r2 r4
def En (v:Nat)(t:QT):List Nd:=if t=.nil then []else (Bc (Hx v t).1 (Hx v t).2 []).1
theorem VgQ {L:List Nd}(hl:AH L=true){v n:Nat}(h:Lv L v n):K0 L n=En v (sem L v n):=by
 unfold K0 En EM;cases he:(A2 L).getD n true with
 |true=>
  rw[(JT hl h).2 he];simp only[if_true];cases (A9 L ((0:Nat):Int)).lv.toNat with
  |zero=>rfl
  |succ w=>simp only[Bk,E7,if_true]
 |false=>
  have h0:=OK he;have hn:sem L v n≠.nil:=λe=>by rw[(JT hl h).1 e]at he;cases he
  obtain⟨aN,hv1⟩:=h.num h0 hl;obtain⟨r1,r2,r3,r4⟩:=Q3 v L n hl h0 h he;rw[if_neg hn];have hv:(A9 L (n:Int)).lv.toNat=v:=by omega
  simp only[Vq,if_false,hv];have kR:=(r2.num r3 r1).1;rw[show (A9 (C8 v L n).1 ((C8 v L n).2:Int)).lv.toNat=(Hx v (sem L v n)).1 from by omega,VcA r1 _ _ _ r2,r4]
theorem Vf5 {L:List Nd}(h:G7 L):Voc L=true:=by
 unfold Voc;rw[V7];intro i hi;have aE:i<L.length:=by simpa using hi
 rw[h.ne (i+1) (by omega) (by omega)];simp only[Wg,zXn,V7,zXe];intro k hk;have hk':k<i:=by simpa using hk
 simp only[Vm,Vl aE,Vl (show k<L.length by omega),Option.getD_some];intro e;exact (WZ.1 h.nd) k i (by omega) aE hk' e.symm
def Nm (n:Nat):zAb:=(List.range n).map (· + 1)
theorem Ud (n:Nat):Nm (n+1)=Nm n++[n+1]:=by simp[Nm,Xm]
theorem Ov {n i:Nat}:i∈Nm n↔1<=i/\i<=n:=by
 simp only[Nm,WM,WV];constructor
 ·rintro⟨j,h1,h2⟩;omega
 ·intro h;exact⟨i-1,by omega,by omega⟩
theorem Vki (rec:Nat->zAb->zAb)(x:Nd)(out:zAb):Md rec x 4 out =
  (if 1<x.lv/\0<x.k3 then rec x.k3.toNat (if 1<x.lv/\0<x.k2 then rec x.k2.toNat (if 1<x.lv/\0<x.k1 then rec x.k1.toNat (if 1<x.lv/\0<x.k0 then rec x.k0.toNat out else out)else (if 1<x.lv/\0<x.k0 then rec x.k0.toNat out else out))else (if 1<x.lv/\0<x.k1 then rec x.k1.toNat (if 1<x.lv/\0<x.k0 then rec x.k0.toNat out else out)else (if 1<x.lv/\0<x.k0 then rec x.k0.toNat out else out)))else (if 1<x.lv/\0<x.k2 then rec x.k2.toNat (if 1<x.lv/\0<x.k1 then rec x.k1.toNat (if 1<x.lv/\0<x.k0 then rec x.k0.toNat out else out)else (if 1<x.lv/\0<x.k0 then rec x.k0.toNat out else out))else (if 1<x.lv/\0<x.k1 then rec x.k1.toNat (if 1<x.lv/\0<x.k0 then rec x.k0.toNat out else out)else (if 1<x.lv/\0<x.k0 then rec x.k0.toNat out else out)))):=by
 simp only[Qf,Nd.kid,show Md rec x 0 out=out from rfl]
theorem O3 {v:Nat}{t:QT}{out:List Nd}(h:t≠.nil):0<(Bc v t out).2:=by
 cases t with
 |nil=>exact absurd rfl h
 |lf a b c d=>exact LG _ _
 |node a b c d=>exact LG _ _
theorem OJ:∀(t:QT) (v:Nat) (out s L:List Nd),Ge v t->t≠.nil->G7 out->L=(Bc v t out).1++s->FR L v (Bc v t out).2 (Nm out.length)=Nm (Bc v t out).1.length
 |.nil,v,out,s,L,hg,hn,hc,hL=>absurd rfl hn
 |.lf a b c d,v,out,s,L,hg,hn,hc,hL=>by
  have hi:=ER (.lf a b c d) v out hg hc;have hp:=O3 (v:=v) (out:=out) hn;obtain⟨rfl,_,_⟩:=hg;by_cases hle:(Bc 1 (.lf a b c d) out).2<=out.length
  ·have:=hi.old hle;simp only[FR];rw[if_pos (Ov.2 ⟨hp,hle⟩),this]
  ·have aT:=hi.new (by omega);have iB:(Bc 1 (.lf a b c d) out).1.length=out.length+1:=by
    have h1:Bc 1 (.lf a b c d) out=BE out ⟨1,a,b,c,d⟩:=rfl;rw[h1]at hle ⊢;unfold BE at hle ⊢;split
    ·simp
    ·rename_i hf;rw[if_neg hf]at hle;exact absurd (ViT _ _) hle
   have hx:¬1<(A9 L ((Bc 1 (.lf a b c d) out).2:Int)).lv:=by rw[hL,LL hp (by omega)];intro h;have:=hi.lv.num hp hi.cl.lo;omega
   simp only[FR];rw[if_neg (λh=>by have:=Ov.1 h;omega),Vki];simp only[hx,false_and,if_false];rw[iB,Ud,aT,iB]
 |.node a b c d,v,out,s,L,hg,hn,hc,hL=>by
  have hi:=ER (.node a b c d) v out hg hc;have hp:=O3 (v:=v) (out:=out) hn;obtain⟨h2,hv,⟨ga,gb,gc,gd⟩,hne⟩:=hg;obtain⟨w,rfl⟩:∃w,v=w+1:=⟨v-1,by omega⟩;by_cases hle:(Bc (w+1) (.node a b c d) out).2<=out.length
  ·have:=hi.old hle;simp only[FR];rw[if_pos (Ov.2 ⟨hp,hle⟩),this]
  ·have aT:=hi.new (by omega);have ga:Ge w a:=ga;have gb:Ge w b:=gb;have gc:Ge w c:=gc;have gd:Ge w d:=gd;have ia:=ER a w out ga hc;have ib:=ER b w _ gb ia.cl;have ic:=ER c w _ gc ib.cl;have id:=ER d w _ gd ic.cl;have iB:Bc (w+1) (.node a b c d) out=BE (Bc w d (Bc w c (Bc w b (Bc w a out).1).1).1).1 ⟨(w+1:Nat),(Bc w a out).2,(Bc w b (Bc w a out).1).2,(Bc w c (Bc w b (Bc w a out).1).1).2,(Bc w d (Bc w c (Bc w b (Bc w a out).1).1).1).2⟩:=rfl;obtain⟨ra,ea,_⟩:=ia.pre;obtain⟨rb,eb,_⟩:=ib.pre;obtain⟨rc,ec,_⟩:=ic.pre;obtain⟨rd,ed,_⟩:=id.pre;have dJ:(Bc (w+1) (.node a b c d) out).1=(Bc w d (Bc w c (Bc w b (Bc w a out).1).1).1).1++[⟨(w+1:Nat),(Bc w a out).2,(Bc w b (Bc w a out).1).2,(Bc w c (Bc w b (Bc w a out).1).1).2,(Bc w d (Bc w c (Bc w b (Bc w a out).1).1).1).2⟩]:=by
    rw[iB]at hle aT ⊢;unfold BE at hle aT ⊢;split
    ·rfl
    ·rename_i hf;exfalso;rw[if_neg hf]at hle aT;dsimp only at hle aT;cases vL:Cm (Bc w d (Bc w c (Bc w b (Bc w a out).1).1).1).1 ⟨(w+1:Nat),(Bc w a out).2,(Bc w b (Bc w a out).1).2,(Bc w c (Bc w b (Bc w a out).1).1).2,(Bc w d (Bc w c (Bc w b (Bc w a out).1).1).1).2⟩with
     |zero=>exact hf vL
     |succ i=>
      rw[vL]at hle;have h3:=(Ek.1 vL).1;obtain⟨r1,e1,w1⟩:=ia.pre;obtain⟨r2,e2,w2⟩:=ib.pre;obtain⟨r3,e3,w3⟩:=ic.pre;obtain⟨r4,e4,w4⟩:=id.pre;have hout:(Bc w d (Bc w c (Bc w b (Bc w a out).1).1).1).1=out++(r1++r2++r3++r4):=by
       conv=>lhs;rw[e4]
       conv=>lhs;arg 1;rw[e3]
       conv=>lhs;arg 1;arg 1;rw[e2]
       conv=>lhs;arg 1;arg 1;arg 1;rw[e1]
       simp
      rw[hout,VG (by omega)]at h3;have hm:=VE h3;have:((w+1:Nat):Int)<=(w:Int):=by
       simp only[VA]at hm;rcases hm with ((hm | hm) | hm) | hm
       ·exact w1 _ hm
       ·exact w2 _ hm
       ·exact w3 _ hm
       ·exact w4 _ hm
      omega
   have hlast:A9 L ((Bc (w+1) (.node a b c d) out).2:Int)=⟨(w+1:Nat),(Bc w a out).2,(Bc w b (Bc w a out).1).2,(Bc w c (Bc w b (Bc w a out).1).1).2,(Bc w d (Bc w c (Bc w b (Bc w a out).1).1).1).2⟩:=by rw[hL,LL hp (by omega),aT,dJ];simp only[Vs,zXi];rw[Bb (by simp)];simp
   have step:∀(t:QT) (o:List Nd) (s':List Nd),Ge w t->G7 o->L=(Bc w t o).1++s'->(∀(out s L:List Nd),Ge w t->t≠.nil->G7 out->L=(Bc w t out).1++s->FR L w (Bc w t out).2 (Nm out.length)=Nm (Bc w t out).1.length) ->
     (if 1<((w+1:Nat):Int)/\0<((Bc w t o).2:Int)then FR L w ((Bc w t o).2:Int).toNat (Nm o.length)else Nm o.length)=Nm (Bc w t o).1.length:=by
    intro t o s' gt Y2 hLo ih;by_cases ht:t=.nil
    ·subst ht;simp[Bc]
    ·have hp':=O3 (v:=w) (out:=o) ht;rw[if_pos ⟨by omega,by omega⟩,zXl];exact ih o s' L gt ht Y2 hLo
   have hLd:L=(Bc w d (Bc w c (Bc w b (Bc w a out).1).1).1).1++([⟨(w+1:Nat),(Bc w a out).2,(Bc w b (Bc w a out).1).2,(Bc w c (Bc w b (Bc w a out).1).1).2,(Bc w d (Bc w c (Bc w b (Bc w a out).1).1).1).2⟩]++s):=by rw[hL,dJ];simp
   have hLc:=hLd
   conv at hLc=>rhs;arg 1;rw[ed]
   rw[Vu]at hLc;have hLb:=hLc
   conv at hLb=>rhs;arg 1;rw[ec]
   rw[Vu]at hLb;have hLa:=hLb
   conv at hLa=>rhs;arg 1;rw[eb]
   rw[Vu]at hLa;have sa:=step a out _ ga hc hLa (λo s L=>OJ a w o s L);have sb:=step b _ _ gb ia.cl hLb (λo s L=>OJ b w o s L);have sc:=step c _ _ gc ib.cl hLc (λo s L=>OJ c w o s L);have sd:=step d _ _ gd ic.cl hLd (λo s L=>OJ d w o s L);simp only[FR];rw[if_neg (λh=>by have:=Ov.1 h;omega),hlast,Vki];dsimp only;rw[sa,sb,sc,sd,aT,dJ];simp only[Vs,zXi,Ud]
theorem Vav {v:Nat}{t:QT}(hg:Ge v t):EG (En v t)=true/\(t≠.nil->G7 (En v t)/\0<(En v t).length/\Lv (En v t) (Hx v t).1 (En v t).length/\sem (En v t) (Hx v t).1 (En v t).length=(Hx v t).2):=by
 by_cases hn:t=.nil
 ·subst hn;exact⟨by simp[En,EG],λh=>absurd rfl h⟩
 ·obtain⟨s1,s2,s3⟩:=Ve7 v t hg hn;have e:En v t=(Bc (Hx v t).1 (Hx v t).2 []).1:=by unfold En;rw[if_neg hn]
  rw[e];generalize Hx v t=vt at s1 s2 s3;obtain⟨w,u⟩:=vt;dsimp only at s1 s2 s3 ⊢;have hi:=ER u w [] s1 G7.nil;have hp:=O3 (v:=w) (out:=[]) s2;have aT:=hi.new (by simpa using hp);have aM:=OJ u w [] [] _ s1 s2 G7.nil (VF _).symm;have aN:=hi.lv;have lQ:=hi.sm;rw[aT]at aN lQ hp aM;generalize (Bc w u []).1=Q at *;have aG:=hi.cl;obtain⟨q1,q2⟩:=aN.num hp aG.lo;refine⟨?_,λ_=>⟨aG,hp,aN,lQ⟩⟩;have hne:Q≠[]:=λh=>by rw[h]at hp;simp at hp
  have eI:(BD Q).toNat=w:=by unfold BD;omega
  have uD:NC Q=Nm Q.length:=by unfold NC;rw[eI];exact aM
  unfold EG;rw[aG.lo,Vbf aG.lo hp aN (aG.ne _ hp (Vo _)),lQ,s3,Vf5 aG];have:P1 Q=true:=by
   unfold P1;rw[uD];have hlen:(Nm Q.length).length=Q.length:=by simp[Nm]
   simp only[hlen,decide_true,Bool.and_true,V7,zXe];intro i hi;have aE:i<Q.length:=by simpa using hi
   simp[Nm,Vm,aE]
  rw[this];simp[hne]
def FV:Nat->Int->Int->List Cl->QT
 |0,_,_,_=>.nil
 |v+1,x,y,l=>
  if l=[]then .nil
  else if v=0 then .lf (Gu (Bu 1 x y 0 l)) (Gu (Bu 1 x y 1 l)) (Gu (Bu 1 x y 2 l)) (Gu (Bu 1 x y 3 l))
  else .node (FV v (qa (v+1) x 0) (qb (v+1) y 0) (Bu (v+1) x y 0 l)) (FV v (qa (v+1) x 1) (qb (v+1) y 1) (Bu (v+1) x y 1 l)) (FV v (qa (v+1) x 2) (qb (v+1) y 2) (Bu (v+1) x y 2 l)) (FV v (qa (v+1) x 3) (qb (v+1) y 3) (Bu (v+1) x y 3 l))
def M9 (v:Nat)(x y:Int)(c:Cl):Prop:=x<=c.x/\c.x<x+2^v/\y<=c.y/\c.y<y+2^v
theorem VcC {v:Nat}{a b:Int}{c:Cl}:inQ (v+1) a b c=true↔M9 v a b c:=by
 unfold inQ M9;simp only[Vx,zXe,VH];constructor
 ·rintro⟨⟨⟨h1,h2⟩,h3⟩,h4⟩;exact⟨h1,h2,h3,h4⟩
 ·rintro⟨h1,h2,h3,h4⟩;exact⟨⟨⟨h1,h2⟩,h3⟩,h4⟩
theorem Kk {v:Nat}{x y:Int}{c:Cl}(h:M9 (v+1) x y c):∃k,k<4/\M9 v (qa (v+1) x k) (qb (v+1) y k) c:=by
 obtain⟨h1,h2,h3,h4⟩:=h;have e:(2:Int)^(v+1)=2^v*2:=Xl _ _;unfold M9 qa qb;simp only[VH];have hp:(0:Int)<2^v:=Xo (by omega);rw[e]at h2 h4;generalize (2:Int)^v=p at *;by_cases hx:c.x<x+p
 ·by_cases hy:c.y<y+p
  ·exact⟨0,by omega,by simp;omega⟩
  ·exact⟨2,by omega,by simp;omega⟩
 ·by_cases hy:c.y<y+p
  ·exact⟨1,by omega,by simp;omega⟩
  ·exact⟨3,by omega,by simp;omega⟩
theorem LC {v:Nat}{x y:Int}{k:Nat}{l:List Cl}{c:Cl}(h:c∈Bu (v+1) x y k l):M9 v (qa (v+1) x k) (qb (v+1) y k) c:=VcC.1 (W6.1 h).2
theorem Vcz {o:List Nd}{x:Nd}{v:Nat}(hl:AH o=true)(dG:AH (o++[x])=true)(hv:x.lv=(v:Int))(hne:(1<v/\∃k,k<4/\sem o (v-1) (x.kid k).toNat≠.nil)\/(v=1/\∃k,k<4/\x.kid k≠0)) :
  Lv (o++[x]) v (o.length+1)/\sem (o++[x]) v (o.length+1)=(if 1<v then .node (sem o (v-1) x.k0.toNat) (sem o (v-1) x.k1.toNat) (sem o (v-1) x.k2.toNat) (sem o (v-1) x.k3.toNat)else .lf x.k0 x.k1 x.k2 x.k3):=by
 have hx:A9 (o++[x]) ((o.length+1:Nat):Int)=x:=by rw[Bb (by simp)];simp
 have hLv:Lv (o++[x]) v (o.length+1):=⟨by simp,.inr (by rw[hx,hv];omega)⟩;have hv1:1<=v:=by rcases hne with ⟨h,_⟩ | ⟨h,_⟩ <;> omega
 obtain⟨w,rfl⟩:∃w,v=w+1:=⟨v-1,by omega⟩;have hk:1<(A9 (o++[x]) ((o.length+1:Nat):Int)).lv->∀k,k<4->Lv o w (x.kid k).toNat:=by
  intro h1 k hk;obtain⟨q1,q2,q3⟩:=Lv.kid dG (by omega) hLv h1 hk;rw[hx]at q1 q2 q3;refine⟨by omega,?_⟩;rcases q1.2 with h | h
  ·exact .inl h
  ·by_cases h0:0<(x.kid k).toNat
   ·right;rw[<-h,LL h0 (by omega)]
   ·exact .inl (by omega)
 have hE:(A2 (o++[x])).getD (o.length+1) true=false:=by
  rw[OL dG (by omega) (by simp),hx,Xd];rcases hne with ⟨h1,k,cK,hs⟩ | ⟨h1,k,cK,hs⟩
  ·have eB:1<(A9 (o++[x]) ((o.length+1:Nat):Int)).lv:=by rw[hx,hv];omega
   have iU:=hk eB k cK;refine⟨k,by simpa using cK,?_⟩;have hn:(A2 o).getD (x.kid k).toNat true=false:=by
    cases hq:(A2 o).getD (x.kid k).toNat true with
    |false=>rfl
    |true=>exact absurd ((JT hl iU).2 hq) hs
   rw[SU iU.1,hn];have:x.kid k≠0:=λe=>by rw[e]at hn;rw[show ((0:Int)).toNat=0 from rfl,E7]at hn;cases hn
   simp[this]
  ·refine⟨k,by simpa using cK,?_⟩;have:¬1<x.lv:=by rw[hv];omega
   simp[hs,this]
 refine⟨hLv,?_⟩;unfold sem;simp only[Lc,hE,Vq,if_false,hx];by_cases h1:1<w+1
 ·have eB:1<(A9 (o++[x]) ((o.length+1:Nat):Int)).lv:=by rw[hx,hv];omega
  rw[if_pos (by rw[hv];omega),if_pos h1];have e:=λk cK=>Gl (r:=[x]) hl _ _ (hk eB k cK);have e0:=e 0 (by omega);have e1:=e 1 (by omega);have e2:=e 2 (by omega);have e3:=e 3 (by omega);simp only[Nd.kid,sem]at e0 e1 e2 e3;simp only[VH,e0,e1,e2,e3]
 ·rw[if_neg (by rw[hv];omega),if_neg h1]
structure Plc (v:Nat)(t:QT)(out o':List Nd)(i:Nat):Prop where
 pre:∃r,o'=out++r
 lo:AH o'=true
 lv:Lv o' v i
 sm:sem o' v i=t
theorem Vpk (v:Nat)(x y:Int)(l:List Cl)(out:List Nd):plK (Bv 0) 1 x y l 4 out=(out,⟨((1:Nat):Int),Gu (Bu 1 x y 0 l),Gu (Bu 1 x y 1 l),Gu (Bu 1 x y 2 l),Gu (Bu 1 x y 3 l)⟩):=rfl
theorem ViJ (l:List Cl):St (Gu l):=by
 cases l with
 |nil=>exact⟨WU _,by show (0:Int)<=255;decide⟩
 |cons c l=>have:=c.s.toNat_lt;exact⟨WB _,by show (c.s.toNat:Int)<=255;omega⟩
theorem ViK {l:List Cl}(h:l≠[])(hs:∀c∈l,c.s≠0):Gu l≠0:=by
 cases l with
 |nil=>exact absurd rfl h
 |cons c l=>intro e;have h1:(c.s.toNat:Int)=0:=e;exact hs c (by simp) (WF.1 (by simpa using h1))
theorem Ue {v:Nat}{x y:Int}:FV v x y []=.nil:=by cases v <;> simp[FV]
theorem VbK {v:Nat}{x y:Int}{l:List Cl}(h:l≠[]):FV (v+1) x y l≠.nil:=by unfold FV;rw[if_neg h];split <;> simp
theorem P0:∀(v:Nat) (out:List Nd) (x y:Int) (l:List Cl),v<=1329->AH out=true->(∀c∈l,M9 v x y c)->(∀c∈l,c.s≠0)->(l≠[]->1<=v)->Plc v (FV v x y l) out (Bv v out x y l).1 (Bv v out x y l).2
 |0,out,x,y,l,hv,ho,hl,hs,h1=>⟨⟨[],by simp[Bv]⟩,ho,⟨VL _,.inl rfl⟩,F2 _ _⟩
 |v+1,out,x,y,l,hv,ho,hl,hs,h1=>by
  unfold Bv FV;by_cases h0:l=[]
  ·rw[if_pos h0,if_pos h0];exact⟨⟨[],by simp⟩,ho,⟨VL _,.inl rfl⟩,F2 _ _⟩
  ·rw[if_neg h0,if_neg h0];obtain⟨c,hc⟩:=List.exists_mem_of_ne_nil l h0;obtain⟨k0,dX,lG⟩:=Kk (hl c hc);have oF:Bu (v+1) x y k0 l≠[]:=λe=>by have:c∈Bu (v+1) x y k0 l:=W6.2 ⟨hc,VcC.2 lG⟩;rw[e]at this;cases this
   have wY:∀k,∀c∈Bu (v+1) x y k l,c.s≠0:=λk c hc=>hs c (W6.1 hc).1;by_cases hv0:v=0
   ·subst hv0;rw[if_pos rfl,Vpk 0];dsimp only;generalize hX:(⟨((1:Nat):Int),Gu (Bu 1 x y 0 l),Gu (Bu 1 x y 1 l),Gu (Bu 1 x y 2 l),Gu (Bu 1 x y 3 l)⟩:Nd)=X;have bG:∀k,k<4->X.kid k=Gu (Bu 1 x y k l):=by
     intro k hk;subst hX
     match k,hk with
     |0,_=>rfl
     |1,_=>rfl
     |2,_=>rfl
     |3,_=>rfl
    have hXl:X.lv=((1:Nat):Int):=by subst hX;rfl
    have hlo:AH (out++[X])=true:=Ke ho (Kf (by rw[hXl];decide) (by rw[hXl];decide) λk hk=>by rw[bG k hk];have:=ViJ (Bu 1 x y k l);exact⟨this.1,λ_=>this.2,λe=>by rw[hXl]at e;exact absurd e (by decide)⟩);obtain⟨q1,q2⟩:=Vcz ho hlo hXl (.inr ⟨rfl,k0,dX,by rw[bG k0 dX];exact ViK oF (wY k0)⟩);refine⟨⟨[X],rfl⟩,hlo,q1,?_⟩;rw[q2,if_neg (by omega)];subst hX;rfl
   ·rw[if_neg hv0];have step:∀k,k<=4->AH (plK (Bv v) (v+1) x y l k out).1=true/\(∃r,(plK (Bv v) (v+1) x y l k out).1=out++r)/\(plK (Bv v) (v+1) x y l k out).2.lv=((v+1:Nat):Int) /\
      ∀j,j<k->0<=(plK (Bv v) (v+1) x y l k out).2.kid j/\Lv (plK (Bv v) (v+1) x y l k out).1 v ((plK (Bv v) (v+1) x y l k out).2.kid j).toNat/\sem (plK (Bv v) (v+1) x y l k out).1 v ((plK (Bv v) (v+1) x y l k out).2.kid j).toNat=FV v (qa (v+1) x j) (qb (v+1) y j) (Bu (v+1) x y j l):=by
     intro k
     induction k with
     |zero=>intro _;exact⟨ho,⟨[],by simp[plK]⟩,rfl,λj hj=>by omega⟩
     |succ k ih=>
      intro hk;obtain⟨i1,⟨r,i2⟩,i3,i4⟩:=ih (by omega);have hp:=P0 v (plK (Bv v) (v+1) x y l k out).1 (qa (v+1) x k) (qb (v+1) y k) (Bu (v+1) x y k l) (by omega) i1 (λc hc=>LC hc) (wY k) (λ_=>by omega);have e:plK (Bv v) (v+1) x y l (k+1) out=((Bv v (plK (Bv v) (v+1) x y l k out).1 (qa (v+1) x k) (qb (v+1) y k) (Bu (v+1) x y k l)).1,(plK (Bv v) (v+1) x y l k out).2.setKid k ((Bv v (plK (Bv v) (v+1) x y l k out).1 (qa (v+1) x k) (qb (v+1) y k) (Bu (v+1) x y k l)).2:Int)):=by
       conv=>lhs;unfold plK
       rw[if_neg (by omega)]
      rw[e];generalize plK (Bv v) (v+1) x y l k out=P at *;generalize Bv v P.1 (qa (v+1) x k) (qb (v+1) y k) (Bu (v+1) x y k l)=Q at *;obtain⟨s,lR⟩:=hp.pre;dsimp only;refine⟨hp.lo,⟨r++s,by rw[lR,i2];simp⟩,by rw[Uq];exact i3,λj hj=>?_⟩;by_cases mC:j=k
      ·subst mC;rw[Q5 _ _ (by omega),zXl];exact⟨WB _,hp.lv,hp.sm⟩
      ·rw[Gk _ _ (by omega) (by omega) mC];obtain⟨j1,j2,j3⟩:=i4 j (by omega);rw[lR];exact⟨j1,j2.old,(Gl i1 _ _ j2).trans j3⟩
    obtain⟨t1,⟨r,t2⟩,t3,t4⟩:=step 4 (by omega);generalize plK (Bv v) (v+1) x y l 4 out=P at t1 t2 t3 t4;obtain⟨o,X⟩:=P;dsimp only at t1 t2 t3 t4 ⊢;have hlo:AH (o++[X])=true:=Ke t1 (Kf (by rw[t3];omega) (by rw[t3];omega) λk hk=>by obtain⟨j1,j2,j3⟩:=t4 k hk;refine⟨j1,λe=>by rw[t3]at e;omega,λ_ hpos=>?_⟩;have:=j2.1;refine⟨by omega,?_⟩;have pX:=(j2.num (by omega) t1).1;rw[show ((X.kid k).toNat:Int)=X.kid k from by omega]at pX;rw[pX,t3];omega);obtain⟨q1,q2⟩:=Vcz t1 hlo t3 (.inl ⟨by omega,k0,dX,by rw[VH,(t4 k0 dX).2.2];obtain⟨w,rfl⟩:∃w,v=w+1:=⟨v-1,by omega⟩;exact VbK oF⟩);refine⟨⟨r++[X],by rw[t2];simp⟩,hlo,q1,?_⟩;rw[q2,if_pos (by omega),VH];have f0:=(t4 0 (by omega)).2.2;have f1:=(t4 1 (by omega)).2.2;have f2:=(t4 2 (by omega)).2.2;have f3:=(t4 3 (by omega)).2.2;simp only[Nd.kid]at f0 f1 f2 f3;rw[f0,f1,f2,f3]
theorem VfD:∀f v c,IK f v c<v+f->Eb (IK f v c) c=true
 |0,v,c,h=>by simp[IK]at h
 |f+1,v,c,h=>by
  unfold IK at h ⊢;split
  ·rename_i hw;exact hw
  ·rename_i hw;rw[if_neg hw]at h;exact VfD f (v+1) c (by omega)
theorem Vla {v w:Nat}(h:v<=w):(2:Int)^v<=2^w:=by
 have h1:(2:Nat)^v<=2^w:=VO (by omega) h;have h2:((2^v:Nat):Int)<=((2^w:Nat):Int):=by omega
 simpa using h2
theorem Va1 {v w:Nat}{c:Cl}(h:Eb v c=true)(hw:v<=w):Eb w c=true:=by have h1:=Vla (show v-1<=w-1 by omega);simp only[Eb,inZ,Vx,zXe]at h ⊢;generalize (2:Int)^(v-1)=p at *;generalize (2:Int)^(w-1)=q at *;omega
theorem O1:∀(l:List Cl) (v:Nat),1<=v->v<=1330->l.foldl (λv c=>IK (1330-v) v c) v<=1329->∀c∈l,Eb (l.foldl (λv c=>IK (1330-v) v c) v) c=true
 |[],v,_,_,_,c,hc=>by cases hc
 |d::l,v,h1,h2,h3,c,hc=>by
  have hu:=VaX (1330-v) v d;have hf:=UE l (IK (1330-v) v d) (by omega) (by omega);simp only[List.foldl_cons]at h3 ⊢;rcases Wf.1 hc with rfl | hc
  ·exact Va1 (VfD (1330-v) v c (by omega)) hf.1
  ·exact O1 l _ (by omega) (by omega) h3 c hc
theorem O0 {S:List Cl}(h:A8 S<=1329):∀c∈S,Eb (A8 S) c=true:=O1 S 1 (by omega) (by omega) h
theorem MD {v:Nat}{c:Cl}(h1:1<=v)(h:Eb v c=true):M9 v (-(2^(v-1))) (-(2^(v-1))) c:=by obtain⟨w,rfl⟩:∃w,v=w+1:=⟨v-1,by omega⟩;have e:(2:Int)^(w+1)=2^w*2:=Xl _ _;simp only[Eb,inZ,Vx,zXe,VH]at h;unfold M9;rw[VH,e];generalize (2:Int)^w=p at *;omega
def JB (S:List Cl):QT:=FV (A8 S) (-(2^(A8 S-1))) (-(2^(A8 S-1))) S
theorem Vis {S:List Cl}(hs:∀c∈S,c.s≠0):Su S=if A8 S>1329 then ([],4)else (En (A8 S) (JB S),0):=by
 unfold Su JB;obtain⟨v1,v2⟩:=NH S;by_cases hv:A8 S>1329
 ·rw[if_pos hv,if_pos hv]
 ·rw[if_neg hv,if_neg hv];have dI:∀c∈S,M9 (A8 S) (-(2^(A8 S-1))) (-(2^(A8 S-1))) c:=λc hc=>MD v1 (O0 (by omega) c hc);generalize A8 S=v at v1 v2 hv dI;have hp:=P0 v [] (-(2^(v-1))) (-(2^(v-1))) S (by omega) rfl dI hs (λ_=>v1);have hok:VjP (Bv v [] (-(2^(v-1))) (-(2^(v-1))) S).1 ((Bv v [] (-(2^(v-1))) (-(2^(v-1))) S).2:Int)=true:=by unfold VjP;have:=hp.lv.1;simp only[hp.lo,zXn,Vx,zXe];omega
  rw[if_pos hok,VgQ hp.lo hp.lv,hp.sm]
theorem Vc0 {l:List Cl}{c:Cl}(h:c∈B1 l):c.s≠0:=by have:=(W6.1 h).2;simpa using this
theorem VdU {S:List Cl}(hs:∀c∈S,c.s≠0)(hv:A8 S<=1329):Ge (A8 S) (JB S):=by obtain⟨v1,v2⟩:=NH S;have hp:=P0 (A8 S) [] (-(2^(A8 S-1))) (-(2^(A8 S-1))) S hv rfl (λc hc=>MD v1 (O0 hv c hc)) hs (λ_=>v1);have:=L4 hp.lo _ _ hp.lv;rw[hp.sm]at this;exact this
theorem Vir (l:List Cl):HA l=if A8 (B1 l)>1329 then ([],4)else (En (A8 (B1 l)) (JB (B1 l)),0):=by rw[VaQ,Vis λc hc=>Vc0 hc]
def Vix (m:Int)(x:Nd):Nat->Int
 |0=>m
 |k+1=>max (Vix m x k) (x.kid k)
def Nw (L:List Nd):Int:=L.foldl (λm x=>if x.lv=1 then Vix m x 4 else m) 0
theorem VeU (L:List Nd):Gn L=.agg [.sl (enL cNd L) .no]:=rfl
theorem VmT (L:List Nd)(H:Aa):B3 true 1 (Gn L) H=some (.ptr H.length 0 0,H++[.cel 0 (Bp L)]):=BH rfl rfl
section
variable {H:Aa}{p:Nat}{L:List Nd}
theorem EO (hg:H[p]? = some (.cel 0 (Bp L))):Ad false 1 (.ptr p 0 0) H=some (.sl (enL cNd L) .no):=by simp only[Ad,As hg,zXa];rfl
theorem MU (hg:H[p]? = some (.cel 0 (Bp L))):Ad true 1 (.ptr p 0 0) H=some (Gn L):=by simp only[Ad,As hg,zXa];rfl

end
theorem VhV (L:List Nd)(H:Aa)(hL:L.length<1152921504606846976):Ubu (Gn L) H=some (.ret (.int .u8 (IntKind.u8.wrap (Nw L))),H):=by
 unfold Ubu;have e1:(H++[Blk.cel 0 (Bp L)])[H.length]? = some (.cel 0 (Bp L)):=Ap;simp only[GMw,VmT];refine CA (G:=λrec1 vs H1=>UcU H rec1 (ag vs 0) (ag vs 1) (ag vs 2) H1) L.length (λi=>[.ptr H.length 0 0,.i6 (Nw (L.take i)),.i6 (i:Int)]) (λ_=>H++[.cel 0 (Bp L)]) _ hL (λrec i hi=>?_) (λrec=>?_)
 ·have aE:(i:Int)<(L.length:Int):=by omega
  have bD:=Av (show i<9223372036854775807 by omega);have hm:Nw (L.take (i+1))=if L[i].lv=1 then Vix (Nw (L.take i)) L[i] 4 else Nw (L.take i):=by unfold Nw;rw[Vw hi,X1];rfl
  rw[hm];generalize Nw (L.take i)=m;unfold UcU;simp only[GMw,Ae,Vr,EO e1,Ax,aE];by_cases aN:L[i].lv=1
  ·rw[if_pos aN];refine CA (G:=λaA vs H1=>Ubt H rec aA (ag vs 0) (ag vs 1) (ag vs 2) (ag vs 3) H1) 4 (λk=>[.ptr H.length 0 0,.i6 (Vix m L[i] k),.i6 (i:Int),.i6 (k:Int)]) (λ_=>H++[.cel 0 (Bp L)]) _ (by decide) (λaA k hk=>?_) (λaA=>?_)
   ·have hk':(k:Int)<4:=by omega
    unfold Ubt;simp only[GMw,Ay,Ae,A0,Vr,Nat.add_zero,V4,Co,hk',EO e1,Az hi,aN,FH hk,Fl hk,Ro,Av (show k<9223372036854775807 by omega),Vix]
   ·have hf:¬(((4:Nat):Int)<4):=by decide
    unfold Ubt;simp only[GMw,hf,bD]
  ·rw[if_neg aN,DT ES];have hf:((0:Int)<4):=by decide
   unfold Ubt;simp only[GMw,Ay,Ae,A0,Vr,Nat.add_zero,V4,Co,hf,EO e1,Az hi,aN,bD]
 ·unfold UcU;rw[Vy (Vo _)];simp only[GMw,Ae,Vr,EO e1,Ax,Wb,Bo,Io]
theorem VfA {m:Int}{x:Nd}(hm:St m)(hx:∀k,k<4->St (x.kid k)):∀k,k<=4->St (Vix m x k)
 |0,_=>hm
 |k+1,h=>by have h1:=VfA hm hx k (by omega);have h2:=hx k (by omega);obtain⟨a1,a2⟩:=h1;obtain⟨b1,b2⟩:=h2;exact⟨show (0:Int)<=max (Vix m x k) (x.kid k)by omega,show max (Vix m x k) (x.kid k)<=(255:Int)by omega⟩
theorem Viw {L:List Nd}(hl:AH L=true):St (Nw L):=by
 have key:∀(l:List Nd) (m:Int),St m->(∀x∈l,x.lv=1->∀k,k<4->St (x.kid k))->St (l.foldl (λm x=>if x.lv=1 then Vix m x 4 else m) m):=by
  intro l
  induction l with
  |nil=>intro m hm _;exact hm
  |cons a l ih=>
   intro m hm hx;refine ih _ ?_ λx h=>hx x (by simp[h]);dsimp only;split
   ·rename_i h;exact VfA hm (hx a (by simp) h) 4 (Vo _)
   ·exact hm
 refine key L 0 ⟨WU _,by decide⟩ λx hx aN k hk=>?_;obtain⟨i,hi,rfl⟩:=VU hx;have:=(AS hl hi).2.2 k hk;exact⟨this.1,this.2.1 aN⟩
theorem Vfb {L:List Nd}(H:Aa)(hL:L.length<1152921504606846976)(hl:AH L=true):Ubu (Gn L) H=some (.ret (.int .u8 (Nw L)),H):=by have:=Viw hl;rw[VhV L H hL,FE this.1 (by have:=this.2;omega)]
theorem VjI (z:Int)(v:Nat)(H:Aa)(hz:SB 100 z)(h1:1<=v)(h2:v<=1400):Ubv (big z) (.i6 (v:Int)) H=some (.ret (.bool (inZ v z)),H):=by
 have hw:IntKind.i64.wrap ((v:Int)-1)=((v-1:Nat):Int):=Ih (by omega) (by omega);have hp:=(Hi (show v-1<=1400 by omega)).lb (by decide);have dS:=λH=>ML (v-1) H (by omega);have nH:=λH=>N9 (2^(v-1)) H hp;have hx:=λH b (hb:LB b)=>LE z b H (hz.lb (by decide)) hb;have s1:∀B:Aa,Ai 2 (.ptr B.length 0 0) (big (2^(v-1))) (B++[.cel 0 [.bool false,.sl [] .ti]])=some (B++[.cel 0 (AA (2^(v-1)))]):=λB=>by rw[Ct (Ap (B:=B)) rfl,Bt]
 have e1:(H++[Blk.cel 0 (AA z)]++[Blk.cel 0 (AA (2^(v-1)))])[H.length]? = some (.cel 0 (AA z)):=by simp
 have e2:(H++[Blk.cel 0 (AA z)]++[Blk.cel 0 (AA (2^(v-1)))])[(H++[Blk.cel 0 (AA z)]).length]? = some (.cel 0 (AA (2^(v-1)))):=Ap;have fin:∀q:Bool,rP H (.bool q) (H++[Blk.cel 0 (AA z)]++[Blk.cel 0 (AA (2^(v-1)))])=some (.ret (.bool q),H):=λq=>by simp only[Vu];exact Dq
 unfold Ubv inZ;simp only[GMw,D0,hw,dS,Dp,s1,BV e1,BV e2,nH,and_true,eq_self,hx _ _ hp.neg,Nh];cases decide (-(2^(v-1))<=z)with
 |false=>simp only[GMw,fin]
 |true=>simp only[GMw,BV e1,BV e2,hx _ _ hp,Ng,fin]
def qk (v:Nat)(x y:Int):Nat:=(if 2^(v-1)<=x then 1 else 0)+(if 2^(v-1)<=y then 2 else 0)
def qd (v:Nat)(x:Int):Int:=if 2^(v-1)<=x then x-2^(v-1)else x
theorem VkN (v:Nat)(x y:Int):qk v x y<4:=by unfold qk;split <;> split <;> omega
theorem VaL (v:Nat)(x y:Int)(H:Aa)(h1:1<=v)(h2:v<=1400)(hx:SB 100 x)(hy:SB 100 y) :
  UcX (.i6 (v:Int)) (big x) (big y) H=some (.ret (.tup [.i6 (qk v x y:Int),big (qd v x),big (qd v y)]),H):=by
 have hw:IntKind.i64.wrap ((v:Int)-1)=((v-1:Nat):Int):=Ih (by omega) (by omega);have hp:=(Hi (show v-1<=1400 by omega)).lb (by decide);have dS:=λH=>ML (v-1) H (by omega);have cx:=λH=>LE x (2^(v-1)) H (hx.lb (by decide)) hp;have cy:=λH=>LE y (2^(v-1)) H (hy.lb (by decide)) hp;have sx:=λH=>Sf x (2^(v-1)) H (hx.lb (by decide)) hp;have sy:=λH=>Sf y (2^(v-1)) H (hy.lb (by decide)) hp;unfold UcX;have s1:∀B:Aa,Ai 2 (.ptr B.length 0 0) (big (2^(v-1))) (B++[.cel 0 [.bool false,.sl [] .ti]])=some (B++[.cel 0 (AA (2^(v-1)))]):=λB=>by rw[Ct (Ap (B:=B)) rfl,Bt]
 simp only[GMw,D0,Dp,hw,dS,s1];have l1:(H++[Blk.cel 0 (AA x)]).length=H.length+1:=by simp
 have l2:(H++[Blk.cel 0 (AA x)]++[Blk.cel 0 (AA y)]).length=H.length+2:=by simp
 have l3:(H++[Blk.cel 0 (AA x)]++[Blk.cel 0 (AA y)]++[Blk.cel 0 [Ab.bool false,.sl [] .ti]]).length=H.length+3:=by simp
 have l4:(H++[Blk.cel 0 (AA x)]++[Blk.cel 0 (AA y)]++[Blk.cel 0 [Ab.bool false,.sl [] .ti]]++[Blk.cel 0 [Ab.bool false,.sl [] .ti]]).length=H.length+4:=by simp
 simp only[l1,l2,l3,l4];have five:∀a b c d e:List Ab,(H++[Blk.cel 0 a]++[Blk.cel 0 b]++[Blk.cel 0 c]++[Blk.cel 0 d]++[Blk.cel 0 e])=H++[Blk.cel 0 a,.cel 0 b,.cel 0 c,.cel 0 d,.cel 0 e]:=λa b c d e=>by simp
 rw[five];have g0:∀(z:Int) (b c d e:List Ab),Ad true 2 (.ptr H.length 0 0) (H++[Blk.cel 0 (AA z),.cel 0 b,.cel 0 c,.cel 0 d,.cel 0 e])=some (big z):=λz b c d e=>BV (by simp);have g1:∀(z:Int) (a c d e:List Ab),Ad true 2 (.ptr (H.length+1) 0 0) (H++[Blk.cel 0 a,.cel 0 (AA z),.cel 0 c,.cel 0 d,.cel 0 e])=some (big z):=λz a c d e=>BV (by simp);have g2:∀(z:Int) (a b d e:List Ab),Ad true 2 (.ptr (H.length+2) 0 0) (H++[Blk.cel 0 a,.cel 0 b,.cel 0 (AA z),.cel 0 d,.cel 0 e])=some (big z):=λz a b d e=>BV (by simp);have g3:∀(z:Int) (a b c e:List Ab),Ad true 2 (.ptr (H.length+3) 0 0) (H++[Blk.cel 0 a,.cel 0 b,.cel 0 c,.cel 0 (AA z),.cel 0 e])=some (big z):=λz a b c e=>BV (by simp);have g4:∀(z:Int) (a b c d:List Ab),Ad true 2 (.ptr (H.length+4) 0 0) (H++[Blk.cel 0 a,.cel 0 b,.cel 0 c,.cel 0 d,.cel 0 (AA z)])=some (big z):=λz a b c d=>BV (by simp);have p0:∀(z z':Int) (b c d e:List Ab),Ai 2 (.ptr H.length 0 0) (big z) (H++[Blk.cel 0 (AA z'),.cel 0 b,.cel 0 c,.cel 0 d,.cel 0 e])=some (H++[Blk.cel 0 (AA z),.cel 0 b,.cel 0 c,.cel 0 d,.cel 0 e]):=λz z' b c d e=>by rw[Ct (cs:=AA z') (by simp) rfl];simp
 have p1:∀(z z':Int) (a c d e:List Ab),Ai 2 (.ptr (H.length+1) 0 0) (big z) (H++[Blk.cel 0 a,.cel 0 (AA z'),.cel 0 c,.cel 0 d,.cel 0 e])=some (H++[Blk.cel 0 a,.cel 0 (AA z),.cel 0 c,.cel 0 d,.cel 0 e]):=λz z' a c d e=>by rw[Ct (cs:=AA z') (by simp) rfl];simp
 have p2:∀(z:Int) (a b d e:List Ab),Ai 2 (.ptr (H.length+2) 0 0) (big z) (H++[Blk.cel 0 a,.cel 0 b,.cel 0 [.bool false,.sl [] .ti],.cel 0 d,.cel 0 e])=some (H++[Blk.cel 0 a,.cel 0 b,.cel 0 (AA z),.cel 0 d,.cel 0 e]):=λz a b d e=>by rw[Ct (cs:=[.bool false,.sl [] .ti]) (by simp) rfl];simp
 have p3:∀(z:Int) (a b c e:List Ab),Ai 2 (.ptr (H.length+3) 0 0) (big z) (H++[Blk.cel 0 a,.cel 0 b,.cel 0 c,.cel 0 [.bool false,.sl [] .ti],.cel 0 e])=some (H++[Blk.cel 0 a,.cel 0 b,.cel 0 c,.cel 0 (AA z),.cel 0 e]):=λz a b c e=>by rw[Ct (cs:=[.bool false,.sl [] .ti]) (by simp) rfl];simp
 have w1:IntKind.i64.wrap (0+1)=1:=by decide
 have w2:IntKind.i64.wrap (0+2)=2:=by decide
 have w3:IntKind.i64.wrap (1+2)=3:=by decide
 unfold qk qd;simp only[GMw,g0,g4,cx,Nh];by_cases ha:(2:Int)^(v-1)<=x
 ·by_cases hb:(2:Int)^(v-1)<=y
  ·simp only[GMw,ha,hb,w1,w3,g0,g1,g2,g3,g4,sx,sy,cx,cy,Nh,p0,p1,p2,p3,Aj,Ubx,Ubw,and_true,eq_self,Hj,E8,F1,zXb,CT,Dn,BY,Cv,EC,MY]
   rfl
  ·simp only[GMw,ha,hb,w1,w3,g0,g1,g2,g3,g4,sx,sy,cx,cy,Nh,p0,p1,p2,p3,Aj,Ubx,Ubw,and_true,eq_self,Hj,E8,F1,zXb,CT,Dn,BY,Cv,EC,MY]
   rfl
 ·by_cases hb:(2:Int)^(v-1)<=y
  ·simp only[GMw,ha,hb,w1,w2,w3,g0,g1,g2,g3,g4,sx,sy,cx,cy,Nh,p0,p1,p2,p3,Aj,Ubx,Ubw,and_true,eq_self,Hj,E8,F1,zXb,CT,Dn,BY,Cv,EC,MY]
   rfl
  ·simp only[GMw,ha,hb,w1,w2,w3,g0,g1,g2,g3,g4,sx,sy,cx,cy,Nh,p0,p1,p2,p3,Aj,Ubx,Ubw,and_true,eq_self,Hj,E8,F1,zXb,CT,Dn,BY,Cv,EC,MY]
   rfl
def TF (L:List Nd):Nat->Nat->Int->Int->Int
 |0,_,_,_=>0
 |v+1,n,x,y=>
  if n=0 then 0
  else if (A9 L n).lv=1 then (A9 L n).kid (qk (v+1) x y)
  else TF L v ((A9 L n).kid (qk (v+1) x y)).toNat (qd (v+1) x) (qd (v+1) y)
def Vke (L:List Nd)(x y:Int):Int:=
 if L=[]then 0
 else if inZ (BD L).toNat x&&inZ (BD L).toNat y then TF L (BD L).toNat L.length (x+2^((BD L).toNat-1)) (y+2^((BD L).toNat-1))else 0
theorem Vnx {v k:Nat}{x:Int}(h:SB k x):SB k (qd v x):=by unfold qd;have hp:(0:Int)<2^(v-1):=Xo (by omega);unfold SB at *;generalize (2:Int)^(v-1)=p at *;generalize (4294967296:Nat)^k=q at *;split <;> omega
theorem Vgg {L:List Nd}(hl:AH L=true):∀v n x y,Lv L v n->St (TF L v n x y)
 |0,n,x,y,h=>⟨WU _,by show (0:Int)<=255;decide⟩
 |v+1,n,x,y,h=>by
  unfold TF;split
  ·exact⟨WU _,by show (0:Int)<=255;decide⟩
  ·rename_i h0;have eT:0<n:=by omega
   split
   ·rename_i h1;obtain⟨m,rfl⟩:∃m,n=m+1:=⟨n-1,by omega⟩;rw[Bb h.1]at h1 ⊢;have:=(AS hl h.1).2.2 (qk (v+1) x y) (VkN _ _ _);exact⟨this.1,this.2.1 h1⟩
   ·rename_i h1;have:=h.num eT hl;exact Vgg hl v _ _ _ (Lv.kid hl eT h (by omega) (VkN _ _ _)).1
theorem VkR (L:List Nd)(x y:Int)(H:Aa)(hL:L.length<17592186044415)(hl:AH L=true)(hx:SB 99 x)(hy:SB 99 y) :
  UcY (Gn L) (big x) (big y) H=some (.ret (.int .u8 (Vke L x y)),H):=by
 unfold UcY;simp only[GMw,VmT,D0];have l1:(H++[Blk.cel 0 (Bp L)]).length=H.length+1:=by simp
 have l2:(H++[Blk.cel 0 (Bp L)]++[Blk.cel 0 (AA x)]).length=H.length+2:=by simp
 have l3:(H++[Blk.cel 0 (Bp L)]++[Blk.cel 0 (AA x)]++[Blk.cel 0 (AA y)]).length=H.length+3:=by simp
 have three:∀(x y:Int),H++[Blk.cel 0 (Bp L)]++[Blk.cel 0 (AA x)]++[Blk.cel 0 (AA y)]=H++Blk.cel 0 (Bp L)::.cel 0 (AA x)::.cel 0 (AA y)::[]:=λx y=>by simp
 have gq:∀(x y:Int) (G:Aa),Ad true 1 (.ptr H.length 0 0) (H++Blk.cel 0 (Bp L)::.cel 0 (AA x)::.cel 0 (AA y)::G)=some (Gn L):=λx y G=>MU (by simp);have gn:∀(x y:Int) (G:Aa),Ad false 1 (.ptr H.length 0 0) (H++Blk.cel 0 (Bp L)::.cel 0 (AA x)::.cel 0 (AA y)::G)=some (.sl (enL cNd L) .no):=λx y G=>EO (by simp);have gx:∀(x y:Int) (G:Aa),Ad true 2 (.ptr (H.length+1) 0 0) (H++Blk.cel 0 (Bp L)::.cel 0 (AA x)::.cel 0 (AA y)::G)=some (big x):=λx y G=>BV (by simp);have gy:∀(x y:Int) (G:Aa),Ad true 2 (.ptr (H.length+2) 0 0) (H++Blk.cel 0 (Bp L)::.cel 0 (AA x)::.cel 0 (AA y)::G)=some (big y):=λx y G=>BV (by simp);have px:∀(z x y:Int) (G:Aa),Ai 2 (.ptr (H.length+1) 0 0) (big z) (H++Blk.cel 0 (Bp L)::.cel 0 (AA x)::.cel 0 (AA y)::G)=some (H++Blk.cel 0 (Bp L)::.cel 0 (AA z)::.cel 0 (AA y)::G):=λz x y G=>by rw[Ct (cs:=AA x) (by simp) rfl];simp
 have py:∀(z x y:Int) (G:Aa),Ai 2 (.ptr (H.length+2) 0 0) (big z) (H++Blk.cel 0 (Bp L)::.cel 0 (AA x)::.cel 0 (AA y)::G)=some (H++Blk.cel 0 (Bp L)::.cel 0 (AA x)::.cel 0 (AA z)::G):=λz x y G=>by rw[Ct (cs:=AA y) (by simp) rfl];simp
 have fin:∀(q:Int) (G:Aa),rP H (.int .u8 q) (H++G)=some (.ret (.int .u8 q),H):=λq G=>Io;have lvl:=λH=>U0 L .no H hL;rw[<-VeU]at lvl;rw[l1,l2,three];simp only[GMw,gq,lvl];unfold Vke;by_cases h0:L=[]
 ·simp only[if_pos h0,GMw,fin]
 ·rw[if_neg h0];have hlen:0<L.length:=Wd.2 h0;have hm:L.length-1<L.length:=by omega
  have hLv:Lv L (BD L).toNat L.length:=⟨Vo _,.inr rfl⟩;obtain⟨cL,hn2⟩:=hLv.num hlen hl;have eI:BD L=((BD L).toNat:Int):=cL;have hle:=QC hl hlen (Vo _);have kV:(BD L).toNat<=1329:=hle;rw[if_neg h0];generalize (BD L).toNat=v at hLv cL hn2 eI kV;rw[eI];have hv0:¬((v:Int)=0):=by omega
  have vH:=λH=>VjI x v H (hx.mono (by omega)) hn2 (by omega);have vG:=λH=>VjI y v H (hy.mono (by omega)) hn2 (by omega);simp only[GMw,hv0,gx,vH];cases inZ v x with
  |false=>simp only[GMw,fin]
  |true=>
   simp only[GMw,gy,vG];cases inZ v y with
   |false=>simp only[GMw,fin]
   |true=>
    have hw:IntKind.i64.wrap ((v:Int)-1)=((v-1:Nat):Int):=Ih (by omega) (by omega);have uC:=Hi (show v-1<=1400 by omega);have hp:=uC.lb (show 44<=549755813888 by decide);have dS:=λH=>ML (v-1) H (by omega);have ax:=λH=>LF x (2^(v-1)) H (hx.lb (by decide)) hp;have ay:=λH=>LF y (2^(v-1)) H (hy.lb (by decide)) hp;have oC:SB 100 (x+2^(v-1)):=hx.add (uC.mono (by omega));have jR:SB 100 (y+2^(v-1)):=hy.add (uC.mono (by omega));have l4:∀x y:Int,(H++Blk.cel 0 (Bp L)::.cel 0 (AA x)::.cel 0 (AA y)::[]).length=H.length+3:=λx y=>by simp
    have four:∀(x y:Int) (c:Blk),(H++Blk.cel 0 (Bp L)::.cel 0 (AA x)::.cel 0 (AA y)::[])++[c]=H++Blk.cel 0 (Bp L)::.cel 0 (AA x)::.cel 0 (AA y)::[c]:=λx y c=>by simp
    have ph:∀(x y:Int),Ai 2 (.ptr (H.length+3) 0 0) (big (2^(v-1))) (H++Blk.cel 0 (Bp L)::.cel 0 (AA x)::.cel 0 (AA y)::[.cel 0 [.bool false,.sl [] .ti]])=some (H++Blk.cel 0 (Bp L)::.cel 0 (AA x)::.cel 0 (AA y)::[.cel 0 (AA (2^(v-1)))]):=λx y=>by rw[Ct (cs:=[.bool false,.sl [] .ti]) (by simp) rfl];simp
    have gh:∀(x y:Int) (z:Int),Ad true 2 (.ptr (H.length+3) 0 0) (H++Blk.cel 0 (Bp L)::.cel 0 (AA x)::.cel 0 (AA y)::[.cel 0 (AA z)])=some (big z):=λx y z=>BV (by simp);simp only[GMw,hw,dS,Dp,l4,four,ph,gx,gh,and_true,eq_self,ax,gy,ay,px,py,Ae,Vr,gn,Ax];refine Br (G:=λrec1 vs H1=>UdN H rec1 (ag vs 0) (ag vs 1) (ag vs 2) (ag vs 3) H1) (σ:=Nat×Nat×Int×Int×Aa) (λs=>Lv L s.1 s.2.1/\s.1<=1329/\SB 100 s.2.2.1/\SB 100 s.2.2.2.1)
     (λs=>[.ptr H.length 0 0,.ptr (H.length+1) 0 0,.ptr (H.length+2) 0 0,.i6 (s.2.1:Int)]) (λs=>H++Blk.cel 0 (Bp L)::.cel 0 (AA s.2.2.1)::.cel 0 (AA s.2.2.2.1)::s.2.2.2.2) (λs=>s.1)
     (λs=>some (.ret (.int .u8 (TF L s.1 s.2.1 s.2.2.1 s.2.2.2.1)),H)) (λs rec hs hrec=>?_) (v,L.length,x+2^(v-1),y+2^(v-1),[.cel 0 (AA (2^(v-1)))]) ⟨hLv,kV,oC,jR⟩ (by dsimp only;omega)
    obtain⟨u,n,a,b,G⟩:=s;obtain⟨s1,s2,s3,s4⟩:=hs;simp only at s1 s2 s3 s4 hrec ⊢;unfold UdN;by_cases hn:n=0
    ·subst hn;have:TF L u 0 a b=0:=by cases u <;> simp[TF]
     rw[this];simp only[GMw,show ((0:Nat):Int)=0 from rfl,show ¬((0:Int)>0) from by decide,fin]
    ·obtain⟨m,rfl⟩:∃m,n=m+1:=⟨n-1,by omega⟩;have hml:m<L.length:=s1.1;obtain⟨c1,c2⟩:=s1.num (by omega) hl;obtain⟨w,rfl⟩:∃w,u=w+1:=⟨u-1,by omega⟩;have cT:IntKind.i64.wrap (((m+1:Nat):Int)-1)=(m:Int):=by rw[An] <;> omega
     have hpos:((m+1:Nat):Int)>0:=by omega
     have hx:A9 L ((m+1:Nat):Int)=L[m]:=Bb hml;have aN:L[m].lv=((w+1:Nat):Int):=by rw[<-hx];exact c1
     have zK:=λH=>VaL (w+1) a b H (by omega) (by omega) s3 s4;have cK:=VkN (w+1) a b;have Yv:TF L (w+1) (m+1) a b=if L[m].lv=1 then L[m].kid (qk (w+1) a b)else TF L w (L[m].kid (qk (w+1) a b)).toNat (qd (w+1) a) (qd (w+1) b):=by
      conv=>lhs;unfold TF
      rw[if_neg (by omega),hx]
     rw[Yv];generalize hB:H++Blk.cel 0 (Bp L)::.cel 0 (AA a)::.cel 0 (AA b)::G=B;have n1:Ad false 1 (.ptr H.length 0 0) B=some (.sl (enL cNd L) .no):=by rw[<-hB];exact gn _ _ _
     have n2:Ad true 2 (.ptr (H.length+1) 0 0) B=some (big a):=by rw[<-hB];exact gx _ _ _
     have n3:Ad true 2 (.ptr (H.length+2) 0 0) B=some (big b):=by rw[<-hB];exact gy _ _ _
     have lB:(B++[Blk.cel 0 [Ab.bool false,.sl [] .ti]]).length=B.length+1:=by simp
     have t0:=λ(z:Int) (c:List Ab)=>st0 (Hc:=B) (a:=[.bool false,.sl [] .ti]) (c:=c) (z:=z) rfl;have t1:=λ(z:Int) (a:List Ab)=>st1 (Hc:=B) (a:=a) (c:=[.bool false,.sl [] .ti]) (z:=z) rfl;have shape:∀(a b:Int) (c d:Blk),H++Blk.cel 0 (Bp L)::.cel 0 (AA a)::.cel 0 (AA b)::G++[c]++[d]=H++Blk.cel 0 (Bp L)::.cel 0 (AA a)::.cel 0 (AA b)::(G++[c,d]):=λa b c d=>by simp
     have m1:∀c d:Blk,Ad false 1 (.ptr H.length 0 0) (B++[c]++[d])=some (.sl (enL cNd L) .no):=λc d=>by rw[<-hB,shape];exact gn _ _ _
     simp only[GMw,Aj,hpos,Ae,Vr,n1,cT,Az hml,Ay,A0,Nat.add_zero,Co,aN,n2,n3,zK,Ce,Cg,UX,Dp,lB,t0,t1,m1,FH cK,V4,Fl cK];by_cases h1:((w+1:Nat):Int)=1
     ·have hst:=(AS hl hml).2.2 (qk (w+1) a b) cK;have yQ:IntKind.u8.wrap (L[m].kid (qk (w+1) a b))=L[m].kid (qk (w+1) a b):=FE hst.1 (by have:=hst.2.1 (by rw[aN];exact h1);omega);have:(H++Blk.cel 0 (Bp L)::.cel 0 (AA a)::.cel 0 (AA b)::G++[Blk.cel 0 (AA (qd (w+1) a))]++[Blk.cel 0 (AA (qd (w+1) b))])=H++(Blk.cel 0 (Bp L)::.cel 0 (AA a)::.cel 0 (AA b)::(G++[Blk.cel 0 (AA (qd (w+1) a)),.cel 0 (AA (qd (w+1) b))])):=shape _ _ _ _;rw[<-hB,this];simp only[h1,GMw,Bo,yQ,fin]
     ·have e66:Ad true 2 (.ptr B.length 0 0) (B++[Blk.cel 0 (AA (qd (w+1) a))]++[Blk.cel 0 (AA (qd (w+1) b))])=some (big (qd (w+1) a)):=BV (by simp);have e68:∀a',Ad true 2 (.ptr (B.length+1) 0 0) (H++Blk.cel 0 (Bp L)::.cel 0 (AA a')::.cel 0 (AA b)::(G++[Blk.cel 0 (AA (qd (w+1) a)),.cel 0 (AA (qd (w+1) b))]))=some (big (qd (w+1) b)):=λa'=>by
       rw[<-shape];have:B.length+1=(H++Blk.cel 0 (Bp L)::.cel 0 (AA a')::.cel 0 (AA b)::G++[Blk.cel 0 (AA (qd (w+1) a))]).length:=by rw[<-hB];simp;omega
       rw[this];exact BV Ap
      have kI:B++[Blk.cel 0 (AA (qd (w+1) a))]++[Blk.cel 0 (AA (qd (w+1) b))]=H++Blk.cel 0 (Bp L)::.cel 0 (AA a)::.cel 0 (AA b)::(G++[Blk.cel 0 (AA (qd (w+1) a)),.cel 0 (AA (qd (w+1) b))]):=by rw[<-hB];exact shape _ _ _ _
      simp only[h1,GMw,e66];rw[kI];simp only[GMw,px,e68,and_true,eq_self,py,if_false];obtain⟨k1,k2,k3⟩:=Lv.kid hl (by omega) s1 (by rw[hx,aN];omega) cK;rw[hx]at k1 k2 k3;have:=hrec (w,(L[m].kid (qk (w+1) a b)).toNat,qd (w+1) a,qd (w+1) b,G++[Blk.cel 0 (AA (qd (w+1) a)),.cel 0 (AA (qd (w+1) b))]) ⟨k1,by dsimp only;omega,Vnx s3,Vnx s4⟩ (by dsimp only;omega);rw[show (((L[m].kid (qk (w+1) a b)).toNat:Nat):Int)=L[m].kid (qk (w+1) a b) from by omega]at this;exact this
def cBO:Option Int->List Ab
 |none=>[.bool false,.sl [] .ti]
 |some z=>AA z
instance:Sz cBO 2:=⟨λa=>by cases a <;> rfl⟩
instance:Pl cBO:=⟨λa=>by cases a <;> rfl⟩
def bo (a:Option Int):Int:=a.getD 0
def Dh (nf:Nat->Nat)(E:List (Option Int))(x:Nd)(j:Nat):Int:=
 (if 1<j then 2^(x.lv.toNat-1)else 0)+(if 1<x.lv then bo (E.getD (x.kid (nf j)).toNat none)else 0)
def DC (nf:Nat->Nat)(E:List (Option Int))(x:Nd)(j:Nat):Option Int:=
 if 1<x.lv then some (Dh nf E x j)else if 1<j then some (2^(x.lv.toNat-1))else none
theorem Mf (nf:Nat->Nat)(E:List (Option Int))(x:Nd)(j:Nat):bo (DC nf E x j)=Dh nf E x j:=by
 unfold DC;split
 ·rfl
 ·rename_i h;unfold Dh;rw[if_neg h];split <;> simp[bo]
def CQ (nf:Nat->Nat)(E:List (Option Int))(x:Nd):Nat->Bool×Option Int
 |0=>(false,none)
 |j+1=>if x.kid (nf j)=0 then CQ nf E x j
  else if (CQ nf E x j).1=false\/Dh nf E x j<bo (CQ nf E x j).2 then (true,DC nf E x j)else CQ nf E x j
def C6 (nf:Nat->Nat)(L:List Nd):List (Option Int):=L.foldl (λE x=>E++[(CQ nf E x 4).2]) [none]
theorem VdS (nf:Nat->Nat)(L:List Nd)(x:Nd):C6 nf (L++[x])=C6 nf L++[(CQ nf (C6 nf L) x 4).2]:=by simp[C6]
theorem GY (nf:Nat->Nat)(L:List Nd):(C6 nf L).length=L.length+1:=by
 have key:∀(l:List Nd) (E:List (Option Int)),(l.foldl (λE x=>E++[(CQ nf E x 4).2]) E).length=l.length+E.length:=by
  intro l
  induction l with
  |nil=>intro E;simp
  |cons a l ih=>intro E;simp only[List.foldl_cons,ih];simp;omega
 unfold C6;rw[key];simp
theorem Kt (nf:Nat->Nat)(L:List Nd){i:Nat}(hi:i<L.length):C6 nf (L.take (i+1))=C6 nf (L.take i)++[(CQ nf (C6 nf (L.take i)) L[i] 4).2]:=by rw[Vw hi,VdS]
def EB (L:List Nd)(E:List (Option Int)):Prop:=∀(m:Nat) (x:Nd) (o:Option Int),L[m]? = some x->E[m+1]? = some o->0<=bo o/\bo o<2^x.lv.toNat
theorem Vg5 {nf:Nat->Nat}{E:List (Option Int)}{x:Nd}{j:Nat}(hx:1<=x.lv)(hE:1<x.lv->0<=bo (E.getD (x.kid (nf j)).toNat none)/\bo (E.getD (x.kid (nf j)).toNat none)<2^(x.lv.toNat-1)):0<=Dh nf E x j/\Dh nf E x j<2^x.lv.toNat:=by
 unfold Dh;have e:(2:Int)^x.lv.toNat=2^(x.lv.toNat-1)*2:=by rw[<-Xl];congr 1;omega
 have hp:(0:Int)<2^(x.lv.toNat-1):=Xo (by omega);rw[e];by_cases h1:1<x.lv
 ·obtain⟨h2,h3⟩:=hE h1;rw[if_pos h1];generalize (2:Int)^(x.lv.toNat-1)=p at *;split <;> omega
 ·rw[if_neg h1];generalize (2:Int)^(x.lv.toNat-1)=p at *;split <;> omega
theorem Ry {nf:Nat->Nat}{E:List (Option Int)}{x:Nd}(hb:∀j,j<4->0<=Dh nf E x j/\Dh nf E x j<2^x.lv.toNat):∀j,j<=4->0<=bo (CQ nf E x j).2/\bo (CQ nf E x j).2<2^x.lv.toNat
 |0,_=>⟨WU _,Xo (by omega)⟩
 |j+1,hj=>by
  unfold CQ;split
  ·exact Ry hb j (by omega)
  ·split
   ·rw[Mf];exact hb j (by omega)
   ·exact Ry hb j (by omega)
theorem SX {nf:Nat->Nat}(eM:∀j,nf j<4){L:List Nd}(hl:AH L=true){i:Nat}(hi:i<L.length)(hE:EB (L.take i) (C6 nf (L.take i)))(j:Nat)(h1:1<L[i].lv):0<=bo ((C6 nf (L.take i)).getD (L[i].kid (nf j)).toNat none)/\bo ((C6 nf (L.take i)).getD (L[i].kid (nf j)).toNat none)<2^(L[i].lv.toNat-1):=by
 obtain⟨l1,l2,l3⟩:=AS hl hi;obtain⟨q1,q2,q3⟩:=l3 (nf j) (eM j);have hp:(0:Int)<2^(L[i].lv.toNat-1):=Xo (by omega);by_cases hc:0<L[i].kid (nf j)
 ·obtain⟨r1,r2⟩:=q3 h1 hc;obtain⟨m,hm⟩:∃m:Nat,(L[i].kid (nf j)).toNat=m+1:=⟨(L[i].kid (nf j)).toNat-1,by omega⟩;have qE:m<i:=by omega
  have hml:m<L.length:=by omega
  have hlen:=GY nf (L.take i);rw[V5,Wl (by omega)]at hlen;have hlt:m+1<(C6 nf (L.take i)).length:=by omega
  have:=hE m L[m] _ (by rw[Wj qE,Vl hml]) (Vl hlt);have aN:=r2 L[m] (by rw[show (L[i].kid (nf j)-1).toNat=m from by omega];exact Vl hml);rw[hm,Vm,Vl hlt,show L[i].lv.toNat-1=L[m].lv.toNat from by omega];exact this
 ·rw[show (L[i].kid (nf j)).toNat=0 from by omega];have h0:(C6 nf (L.take i)).getD 0 none=none:=by
   have key:∀(l:List Nd) (E:List (Option Int)),E[0]? = some none->(l.foldl (λE x=>E++[(CQ nf E x 4).2]) E)[0]? = some none:=by
    intro l
    induction l with
    |nil=>intro E h;exact h
    |cons a l ih=>intro E h;exact ih _ (by rw[Vp (Vn.1 h).1];exact h)
   rw[Vm,show (C6 nf (L.take i))[0]? = some none from key _ [none] rfl];rfl
  rw[h0];exact⟨WU _,hp⟩
theorem Vbq {nf:Nat->Nat}(eM:∀j,nf j<4){L:List Nd}(hl:AH L=true):∀i,i<=L.length->EB (L.take i) (C6 nf (L.take i))
 |0,_=>by intro m x o h;simp at h
 |i+1,h=>by
  have ih:=Vbq eM hl i (by omega);rw[Kt nf L h];intro m x o hx hz;have hlen:=GY nf (L.take i);rw[V5,Wl (by omega)]at hlen;by_cases hn:m<i
  ·rw[Vp (by omega)]at hz;rw[Wj (by omega)]at hx;exact ih m x o (by rw[Wj hn];exact hx) hz
  ·rw[VG (by omega),hlen]at hz;have qE:m=i:=by have:=(Vn.1 hz).1;simp at this;omega
   subst qE;simp only[VZ,zXh,Vv]at hz;rw[Wj (by omega),Vl h]at hx;injection hx with hx;rw[<-hx,<-hz];exact Ry (λj _=>Vg5 (AS hl h).1 (SX eM hl h ih j)) 4 (Vo _)
section
variable {len sz id g o m p:Nat}{K:IntKind}{Hc:Aa}{nf:Nat->Nat}
theorem Vbe (h:m<len):BK len sz (.ptr id g o) (.int K (m:Int))=some (.ptr id g (o+m*sz)):=by unfold BK;simp only[];rw[if_pos ⟨by omega,by omega⟩];simp
def FL (a b:Nat):List Ab:=[.i6 (a:Int),.i6 (b:Int)]
theorem Vcu {a b:Nat}(hg:Hc[p]? = some (.cel 0 (FL a b)))(h:m<2):Ad false 1 (.ptr p 0 m) Hc=some (.i6 ((if m=0 then a else b:Nat):Int)):=by
 simp only[Ad,As hg,zXa,Vq,if_false]
 match m,h with
 |0,_=>rfl
 |1,_=>rfl
theorem Gr {a:Option Int}(hg:Hc[p]? = some (.cel 0 (cBO a))):Ad true 2 (.ptr p 0 0) Hc=some (.agg (cBO a)):=by simp only[Ad,As hg,zXa,if_true];cases a <;> rfl
theorem Tv (a:Option Int):(Ab.agg (cBO a)).acells=some (cBO a):=by cases a <;> rfl
theorem Pk {a:Option Int}{cs:List Ab}(hg:Hc[p]? = some (.cel 0 cs))(hl:cs.length=2):Ai 2 (.ptr p 0 0) (.agg (cBO a)) Hc=some (Hc.set p (.cel 0 (cBO a))):=by simp only[Ai,As hg,zXa,Tv,B6 hg,D8 hl];rw[if_pos ⟨by cases a <;> rfl,by omega⟩]

end
theorem Vkr (z:Int):big z=.agg (cBO (some z)):=rfl
def Rep (z:Int)(cs:List Ab):Prop:=∃n l tk,cs=[.bool n,.sl (enL cU l) tk]/\l.length<=549755813888/\Lim l/\DL n l=z
theorem Rep.big {z:Int}(h:LB z):Rep z (AA z):=⟨decide (z<0),A4 z.natAbs,.no,rfl,h,Bn _,KP z⟩
theorem Rep.bo {a:Option Int}(h:LB (bo a)):Rep (Go.Gm.bo a) (cBO a):=by
 cases a with
 |none=>exact⟨false,[],.ti,rfl,by simp,(λx hx=>by simp at hx),rfl⟩
 |some z=>exact Rep.big h
theorem Rep.lb {z:Int}{cs:List Ab}(h:Rep z cs):LB z:=by obtain⟨n,l,tk,_,h2,h3,rfl⟩:=h;unfold LB;rw[Vdm];exact VM (EP (Vek l h3)) h2
theorem VmW {a b:Int}{cs ds:List Ab}(ha:Rep a cs)(hb:Rep b ds)(H:Aa):UbO (.agg cs) (.agg ds) H=some (.ret (Go.Gm.big (a+b)),H):=by obtain⟨n1,l1,t1,rfl,b1,x1,rfl⟩:=ha;obtain⟨n2,l2,t2,rfl,b2,x2,rfl⟩:=hb;exact Vfg _ _ _ _ _ _ _ b1 b2 x1 x2
theorem VnK {a:Int}{cs:List Ab}(ha:Rep a cs)(H:Aa):UeF (.agg cs) H=some (.ret (Go.Gm.big (-a)),H):=by obtain⟨n1,l1,t1,rfl,b1,x1,rfl⟩:=ha;exact U4 _ _ _ _ (by omega) x1
theorem VoR {a:Int}{cs:List Ab}(ha:Rep a cs)(H:Aa):B3 true 2 (.agg cs) H=some (.ptr H.length 0 0,H++[.cel 0 cs]):=by obtain⟨n1,l1,t1,rfl,b1,x1,rfl⟩:=ha;exact BH rfl rfl
theorem Vi5 {a:Int}{cs:List Ab}{H:Aa}{p:Nat}(ha:Rep a cs)(hg:H[p]? = some (.cel 0 cs)):Ad true 2 (.ptr p 0 0) H=some (.agg cs):=by obtain⟨n1,l1,t1,rfl,b1,x1,rfl⟩:=ha;simp only[Ad,As hg,zXa];rfl
theorem VoX {a b:Int}{cs ds:List Ab}(ha:Rep a cs)(hb:Rep b ds)(H:Aa):Ue4 (.agg cs) (.agg ds) H=some (.ret (Go.Gm.big (a-b)),H):=by
 unfold Ue4;have e1:(H++[Blk.cel 0 cs]++[Blk.cel 0 ds]++[Blk.cel 0 [.bool false,.sl [] .ti]])[H.length]? = some (.cel 0 cs):=by simp
 have e2:(H++[Blk.cel 0 cs]++[Blk.cel 0 ds]++[Blk.cel 0 [.bool false,.sl [] .ti]])[(H++[Blk.cel 0 cs]).length]? = some (.cel 0 ds):=by simp
 have hz:=Rep.big hb.lb.neg;simp only[GMw,VoR ha,VoR hb,Dp,Vi5 ha e1,Vi5 hb e2,VnK hb,and_true,eq_self];rw[<-Tu (-b)];simp only[GMw,VmW ha hz,Ct (Ap (B:=H++[Blk.cel 0 cs]++[Blk.cel 0 ds]) (cs:=[.bool false,.sl [] .ti])) rfl,Bt,BV Ap];rw[show a + -b=a-b from rfl];simp only[Vu,CT,ViW,zXb]
theorem Vqf {a b:Int}{cs ds:List Ab}(ha:Rep a cs)(hb:Rep b ds)(H:Aa):Uev (.agg cs) (.agg ds) H=some (.ret (.i6 (F7 a b)),H):=by
 unfold Uev;have e1:(H++[Blk.cel 0 cs]++[Blk.cel 0 ds])[H.length]? = some (.cel 0 cs):=by simp
 have e2:(H++[Blk.cel 0 cs]++[Blk.cel 0 ds])[(H++[Blk.cel 0 cs]).length]? = some (.cel 0 ds):=Ap;simp only[GMw,VoR ha,VoR hb,Vi5 ha e1,Vi5 hb e2,VoX ha hb,Dp];generalize hB:H++[Blk.cel 0 cs]++[Blk.cel 0 ds]=B;have g0:Ad false 1 (.ptr B.length 0 0) (B++[Blk.cel 0 (AA (a-b))])=some (.bool (decide (a-b<0))):=by simp only[Ad,As Ap,zXa];rfl
 have g1:Ad false 1 (.ptr B.length 0 1) (B++[Blk.cel 0 (AA (a-b))])=some (.sl (enL cU (A4 (a-b).natAbs)) .no):=by simp only[Ad,As Ap,zXa];rfl
 have fin:∀q:Int,rP H (.i6 q) (B++[Blk.cel 0 (AA (a-b))])=some (.ret (.i6 q),H):=λq=>by rw[<-hB];simp only[Vu];exact Io
 simp only[Ct (Ap (B:=B) (cs:=[.bool false,.sl [] .ti])) rfl,Bt,GMw,Ae,Vr,Nat.add_zero,g0,g1,Ax];unfold F7;by_cases h0:a=b
 ·subst h0;have:((A4 (a-a).natAbs).length:Int)=0:=by rw[Int.sub_self];simp[EA]
  simp only[this,GMw,fin,Wb]
 ·have hne:A4 (a-b).natAbs≠[]:=Oz (by omega);have hp:=Wd.2 hne;have hz:¬((A4 (a-b).natAbs).length:Int)=0:=by omega
  by_cases hn:a<b
  ·have h1:a-b<0:=by omega
   simp only[hz,GMw,h1,hn,fin]
  ·have h1:¬a-b<0:=by omega
   simp only[hz,GMw,h1,hn,h0,fin]
def Is (x:Nd)(j:Nat):Option Int:=if 1<j then some (2^(x.lv.toNat-1))else none
theorem Vop (a b:Nat)(H:Aa):B3 true 2 (.agg (FL a b)) H=some (.ptr H.length 0 0,H++[.cel 0 (FL a b)]):=BH rfl rfl
theorem Vg4 {nf:Nat->Nat}(eM:∀j,nf j<4){L:List Nd}(tk:Tok)(H Hc:Aa)(E:List (Option Int))(i j pN pF id ph:Nat)(hi:i<L.length)(hj:j<4)(hL:L.length<549755813888)
  (hE:E.length=L.length+1)(aN:1<=L[i].lv/\L[i].lv<=1329)(bG:0<=L[i].kid (nf j))(dI:1<L[i].lv->(L[i].kid (nf j)).toNat<E.length/\(L[i].kid (nf j)).toNat≠i+1/\LB (bo (E.getD (L[i].kid (nf j)).toNat none)))
  (hJ:LB (Dh nf E L[i] j))(q:Bool×Option Int)(hq:LB (bo q.2))(yE:H.length<=pN/\H.length<=pF/\H.length<=id/\H.length<=ph)(dN:pN≠id)(dF:pF≠id)(dH:ph≠id)
  (fN:Hc[pN]? = some (.cel 0 (FL (nf 0) (nf 1))))(fF:Hc[pF]? = some (.cel 0 (FL (nf 2) (nf 3))))(fR:Hc[id]? = some (.cel 0 (flat cBO (E.set (i+1) q.2))))(fH:Hc[ph]? = some (.cel 0 (AA (2^(L[i].lv.toNat-1)))))(hold:∀k,k<H.length->Hc[k]? = H[k]?)(hlen:H.length<=Hc.length) :
  ∃Hd,(∀rec1 aA:LK,UcS H rec1 aA (.sl (enL cNd L) tk) (.ptr pN 0 0) (.ptr pF 0 0) (.ms id 0 0 (L.length+1) (L.length+1) 2 true) (.i6 (i:Int)) (.ptr ph 0 0) (.bool q.1) (.i6 (j:Int)) Hc=aA [.sl (enL cNd L) tk,.ptr pN 0 0,.ptr pF 0 0,.ms id 0 0 (L.length+1) (L.length+1) 2 true,.i6 (i:Int),.ptr ph 0 0,.bool (if L[i].kid (nf j)=0 then q else if q.1=false\/Dh nf E L[i] j<bo q.2 then (true,DC nf E L[i] j)else q).1,.i6 ((j+1:Nat):Int)] Hd) /\
   Hd[pN]? = some (.cel 0 (FL (nf 0) (nf 1)))/\Hd[pF]? = some (.cel 0 (FL (nf 2) (nf 3)))/\Hd[id]? = some (.cel 0 (flat cBO (E.set (i+1) (if L[i].kid (nf j)=0 then q else if q.1=false\/Dh nf E L[i] j<bo q.2 then (true,DC nf E L[i] j)else q).2)))/\Hd[ph]? = some (.cel 0 (AA (2^(L[i].lv.toNat-1))))/\(∀k,k<H.length->Hd[k]? = H[k]?)/\H.length<=Hd.length:=by
 have hj':(j:Int)<4:=by omega
 have bD:=Av (show j<9223372036854775807 by omega);have bV:=Av (show i<9223372036854775807 by omega);have hm2:j%2<2:=WJ _ (by omega);have tV:(j:Int).tmod 2=((j%2:Nat):Int):=rfl;have hgt:decide ((j:Int)>1)=decide (1<j):=by rw[V8];simp only[zXe];omega
 have sO:nf j=if 1<j then (if j%2=0 then nf 2 else nf 3)else (if j%2=0 then nf 0 else nf 1):=by
  match j,hj with
  |0,_=>rfl
  |1,_=>rfl
  |2,_=>rfl
  |3,_=>rfl
 have hz:AD (some [(.bool false),(.sl [] .ti)]) []=some (.agg (cBO none)):=rfl;generalize hB:Hc++[Blk.cel 0 (cBO (Is L[i] j))]=B;have bN:B[pN]? = some (.cel 0 (FL (nf 0) (nf 1))):=by rw[<-hB];exact AK fN
 have bF:B[pF]? = some (.cel 0 (FL (nf 2) (nf 3))):=by rw[<-hB];exact AK fF
 have bR:B[id]? = some (.cel 0 (flat cBO (E.set (i+1) q.2))):=by rw[<-hB];exact AK fR
 have bH:B[ph]? = some (.cel 0 (AA (2^(L[i].lv.toNat-1)))):=by rw[<-hB];exact AK fH
 have bM:B[Hc.length]? = some (.cel 0 (cBO (Is L[i] j))):=by rw[<-hB];exact Ap
 have bold:∀k,k<H.length->B[k]? = H[k]? := λk hk=>by rw[<-hB,Vp (by omega)];exact hold k hk
 have bl:B.length=Hc.length+1:=by rw[<-hB];simp
 suffices hs:∃Hd,(∀aA:LK,UcR H (λvs H1=>Uam H aA (ag vs 0) (ag vs 1) (ag vs 2) (ag vs 3) (ag vs 4) (ag vs 5) (ag vs 6) (ag vs 7) H1) (.sl (enL cNd L) tk) (.ptr pN 0 0) (.ptr pF 0 0) (.ms id 0 0 (L.length+1) (L.length+1) 2 true) (.i6 (i:Int)) (.ptr ph 0 0) (.bool q.1) (.i6 (j:Int)) (.i6 (nf j:Int)) (.ptr Hc.length 0 0) B=aA [.sl (enL cNd L) tk,.ptr pN 0 0,.ptr pF 0 0,.ms id 0 0 (L.length+1) (L.length+1) 2 true,.i6 (i:Int),.ptr ph 0 0,.bool (if L[i].kid (nf j)=0 then q else if q.1=false\/Dh nf E L[i] j<bo q.2 then (true,DC nf E L[i] j)else q).1,.i6 ((j+1:Nat):Int)] Hd) /\
   Hd[pN]? = some (.cel 0 (FL (nf 0) (nf 1)))/\Hd[pF]? = some (.cel 0 (FL (nf 2) (nf 3)))/\Hd[id]? = some (.cel 0 (flat cBO (E.set (i+1) (if L[i].kid (nf j)=0 then q else if q.1=false\/Dh nf E L[i] j<bo q.2 then (true,DC nf E L[i] j)else q).2)))/\Hd[ph]? = some (.cel 0 (AA (2^(L[i].lv.toNat-1))))/\(∀k,k<H.length->Hd[k]? = H[k]?)/\H.length<=Hd.length by
  obtain⟨Hd,h1,h2⟩:=hs;refine⟨Hd,λrec1 aA=>?_,h2⟩;have hst:∀a:Option Int,Ai 2 (.ptr Hc.length 0 0) (.agg (cBO a)) (Hc++[Blk.cel 0 (cBO none)])=some (Hc++[Blk.cel 0 (cBO a)]):=λa=>by rw[Pk (Ap (B:=Hc)) rfl,Bt]
  have gV:A3 (some [.bool false,.sl [] .ti]) Hc=some (.ptr Hc.length 0 0,Hc++[.cel 0 (cBO none)]):=Dp Hc;unfold UcS;simp only[GMw,hj',Jc (show (2:Int)≠0 by decide),tV,Vbe hm2,Vr,V4,Vcu fN hm2,hz,gV,hst,Aj,hgt];by_cases oV:1<j
  ·have hF:(Hc++[Blk.cel 0 (cBO none)])[pF]? = some (.cel 0 (FL (nf 2) (nf 3))):=AK fF;have hH:(Hc++[Blk.cel 0 (cBO none)])[ph]? = some (.cel 0 (AA (2^(L[i].lv.toNat-1)))):=AK fH;rw[if_pos oV]at sO;have qD:Is L[i] j=some (2^(L[i].lv.toNat-1)):=by unfold Is;rw[if_pos oV]
   simp only[GMw,oV,Aj,Vbe hm2,Vr,V4,Vcu hF hm2,BV hH];rw[Vkr];simp only[GMw,hst];rw[<-qD,hB,<-sO];exact h1 aA
  ·rw[if_neg oV]at sO;have qD:Is L[i] j=none:=by unfold Is;rw[if_neg oV]
   simp only[GMw,oV,Aj];rw[<-qD,hB,<-sO];exact h1 aA
 have sN:=eM j;have hEl:(E.set (i+1) q.2).length=L.length+1:=by simp[hE]
 by_cases dX:L[i].kid (nf j)=0
 ·refine⟨B,λaA=>?_,bN,bF,by rw[if_pos dX];exact bR,bH,bold,by omega⟩;unfold UcR;simp only[GMw,Ay,Ae,A0,Vr,Nat.add_zero,V4,Co,Az hi,FH sN,Fl sN,dX,Aj,Uam,bD]
 ·-- the distance
  obtain⟨c,hc⟩:=Ws bG;have dZ:(L[i].kid (nf j)).toNat=c:=by omega
  rw[dZ]at dI;generalize hD:B++[Blk.cel 0 (cBO (DC nf E L[i] j))]=D;have dn:D[pN]? = some (.cel 0 (FL (nf 0) (nf 1))):=by rw[<-hD];exact AK bN
  have df:D[pF]? = some (.cel 0 (FL (nf 2) (nf 3))):=by rw[<-hD];exact AK bF
  have dr:D[id]? = some (.cel 0 (flat cBO (E.set (i+1) q.2))):=by rw[<-hD];exact AK bR
  have dh:D[ph]? = some (.cel 0 (AA (2^(L[i].lv.toNat-1)))):=by rw[<-hD];exact AK bH
  have dd:D[B.length]? = some (.cel 0 (cBO (DC nf E L[i] j))):=by rw[<-hD];exact Ap
  have dold:∀k,k<H.length->D[k]? = H[k]? := λk hk=>by rw[<-hD,Vp (by omega)];exact bold k hk
  have dl:D.length=B.length+1:=by rw[<-hD];simp
  have lA:=(Vn.1 dr).1;have hO:=CK (sz:=2) (id:=id) (n:=L.length+1) (K:=.i64) (g:=0) (off:=0) (cap:=L.length+1) (ex:=true) (i:=i+1) (by omega);rw[Vr]at hO;have nK:=Vcv (f:=cBO) (sz:=2) (As dr) (i:=i+1) (by omega);rw[XZ]at nK;have mT:=DR (f:=cBO) (sz:=2) (l:=E.set (i+1) q.2) (i:=i+1) (a:=DC nf E L[i] j) (v:=.agg (cBO (DC nf E L[i] j))) (As dr) (by omega) (Tv _);rw[B6 dr,XT]at mT;have hJ':LB (bo (DC nf E L[i] j)):=by rw[Mf];exact hJ
  have dL:=λH=>Vqf (Rep.bo hJ') (Rep.bo hq) H;simp only[Mf]at dL;have h5:∃Hd,(∀aA:LK,Ubq H (λvs H1=>Uam H aA (ag vs 0) (ag vs 1) (ag vs 2) (ag vs 3) (ag vs 4) (ag vs 5) (ag vs 6) (ag vs 7) H1) (.sl (enL cNd L) tk) (.ptr pN 0 0) (.ptr pF 0 0) (.ms id 0 0 (L.length+1) (L.length+1) 2 true) (.i6 (i:Int)) (.ptr ph 0 0) (.bool q.1) (.i6 (j:Int)) (.ptr B.length 0 0) D=aA [.sl (enL cNd L) tk,.ptr pN 0 0,.ptr pF 0 0,.ms id 0 0 (L.length+1) (L.length+1) 2 true,.i6 (i:Int),.ptr ph 0 0,.bool (if q.1=false\/Dh nf E L[i] j<bo q.2 then (true,DC nf E L[i] j)else q).1,.i6 ((j+1:Nat):Int)] Hd) /\
    Hd[pN]? = some (.cel 0 (FL (nf 0) (nf 1)))/\Hd[pF]? = some (.cel 0 (FL (nf 2) (nf 3)))/\Hd[id]? = some (.cel 0 (flat cBO (E.set (i+1) (if q.1=false\/Dh nf E L[i] j<bo q.2 then (true,DC nf E L[i] j)else q).2)))/\Hd[ph]? = some (.cel 0 (AA (2^(L[i].lv.toNat-1))))/\(∀k,k<H.length->Hd[k]? = H[k]?)/\H.length<=Hd.length:=by
   have put:(D.set id (.cel 0 (flat cBO (E.set (i+1) (DC nf E L[i] j)))))[pN]? = some (.cel 0 (FL (nf 0) (nf 1)))/\(D.set id (.cel 0 (flat cBO (E.set (i+1) (DC nf E L[i] j)))))[pF]? = some (.cel 0 (FL (nf 2) (nf 3)))/\(D.set id (.cel 0 (flat cBO (E.set (i+1) (DC nf E L[i] j)))))[id]? = some (.cel 0 (flat cBO (E.set (i+1) (DC nf E L[i] j))))/\(D.set id (.cel 0 (flat cBO (E.set (i+1) (DC nf E L[i] j)))))[ph]? = some (.cel 0 (AA (2^(L[i].lv.toNat-1))))/\(∀k,k<H.length->(D.set id (.cel 0 (flat cBO (E.set (i+1) (DC nf E L[i] j)))))[k]? = H[k]?)/\H.length<=(D.set id (.cel 0 (flat cBO (E.set (i+1) (DC nf E L[i] j))))).length:=
    ⟨by rw[Vt dN.symm];exact dn,by rw[Vt dF.symm];exact df,by rw[V0 lA],by rw[Vt dH.symm];exact dh,λk hk=>by rw[Vt (by omega)];exact dold k hk,by simp;omega⟩
   cases lY:q.1 with
   |false=>rw[if_pos (Or.inl rfl)];refine⟨_,λaA=>?_,put⟩;unfold Ubq;simp only[GMw,Gr dd,bV,hO,mT,Aj,Uam,bD]
   |true=>
    by_cases hlt:Dh nf E L[i] j<bo q.2
    ·rw[if_pos (Or.inr hlt)];refine⟨_,λaA=>?_,put⟩;unfold Ubq;simp only[GMw,Gr dd,bV,hO,nK,dL,Ng,hlt,mT,Aj,Uam,bD]
    ·rw[if_neg (by intro h;rcases h with h | h;cases h;exact hlt h)];refine⟨D,λaA=>?_,dn,df,dr,dh,dold,by omega⟩;unfold Ubq;simp only[GMw,Gr dd,bV,hO,nK,dL,Ng,hlt,Aj,Uam,bD,lY]
  rw[if_neg dX];obtain⟨Hd,g1,g2⟩:=h5;refine⟨Hd,λaA=>?_,g2⟩;have iL:¬(c:Int)=0:=by rw[<-hc];exact dX
  have hst:∀a:Option Int,∀cs:Option Int,Ai 2 (.ptr B.length 0 0) (.agg (cBO a)) (B++[Blk.cel 0 (cBO cs)])=some (B++[Blk.cel 0 (cBO a)]):=λa cs=>by rw[Pk (Ap (B:=B)) (by cases cs <;> rfl),Bt]
  have gV:A3 (some [.bool false,.sl [] .ti]) B=some (.ptr B.length 0 0,B++[.cel 0 (cBO none)]):=Dp B;unfold UcR;simp only[GMw,Ay,Ae,A0,Vr,Nat.add_zero,V4,Co,Az hi,FH sN,Fl sN,hc,iL,Gr bM,gV,hst,Aj];by_cases h1:1<L[i].lv
  ·have eB:L[i].lv>1:=h1;obtain⟨i1,i2,i3⟩:=dI h1;have hB1M:(B++[Blk.cel 0 (cBO (Is L[i] j))])[Hc.length]? = some (.cel 0 (cBO (Is L[i] j))):=AK bM;have hB1R:(B++[Blk.cel 0 (cBO (Is L[i] j))])[id]? = some (.cel 0 (flat cBO (E.set (i+1) q.2))):=AK bR;have lS:=CK (sz:=2) (id:=id) (n:=L.length+1) (K:=.i64) (g:=0) (off:=0) (cap:=L.length+1) (ex:=true) (i:=c) (by omega);rw[Vr]at lS;have qO:=Vcv (f:=cBO) (sz:=2) (As hB1R) (i:=c) (by omega);rw[List.getElem_set_ne (by omega)]at qO;have eF:E.getD c none=E[c]:=by rw[Vm,Vl i1];rfl
   rw[eF]at i3;have uQ:LB (bo (Is L[i] j)):=by
    unfold Is;split
    ·exact (Hi (by omega)).lb (by decide)
    ·exact VbI
   have aQ:=λH=>VmW (Rep.bo uQ) (Rep.bo i3) H;have gG:bo (Is L[i] j)+bo E[c]=Dh nf E L[i] j:=by unfold Dh Is;rw[if_pos h1,dZ,eF];split <;> rfl
   have hDd:DC nf E L[i] j=some (Dh nf E L[i] j):=by unfold DC;rw[if_pos h1]
   simp only[GMw,eB,Gr hB1M,lS,qO,aQ,gG];rw[Vkr,<-hDd];simp only[GMw,hst,hD,Aj];exact g1 aA
  ·have eB:¬L[i].lv>1:=h1;have hDd:DC nf E L[i] j=Is L[i] j:=by unfold DC Is;rw[if_neg h1]
   simp only[GMw,eB,Aj];rw[<-hDd,hD];exact g1 aA
theorem LT {z:Int}{v:Nat}(h0:0<=z)(h:z<2^v)(hv:v<=1400):LB z:=by have h1:=Hi hv;have h2:=Pb v;unfold SB at h1;refine LB.of (k:=44) (Wv ?_ h1) (by decide);generalize (2:Int)^v=p at *;omega
theorem MK {nf:Nat->Nat}(eM:∀j,nf j<4)(L:List Nd)(tk:Tok)(H:Aa)(hL:L.length<549755813888)(hl:AH L=true) :
  Uan (.sl (enL cNd L) tk) (.agg (FL (nf 0) (nf 1))) (.agg (FL (nf 2) (nf 3))) H=some (.ret (.sl (enL cBO (C6 nf L)) .no),H):=by
 unfold Uan;have dB:=FZ (f:=cBO) (a:=none) (n:=L.length+1) (bytes:=32) (H:=H++[Blk.cel 0 (FL (nf 0) (nf 1))]++[Blk.cel 0 (FL (nf 2) (nf 3))]) (by omega) (by omega);simp only[show cBO none=[Ab.bool false,.sl [] .ti] from rfl]at dB;simp only[GMw,Vop,Ax,Av (show L.length<9223372036854775807 by omega),dB];have l1:(H++[Blk.cel 0 (FL (nf 0) (nf 1))]).length=H.length+1:=by simp
 have l2:(H++[Blk.cel 0 (FL (nf 0) (nf 1))]++[Blk.cel 0 (FL (nf 2) (nf 3))]).length=H.length+2:=by simp
 rw[l1,l2];have loop:=Gq (G:=λrec1 vs Hc=>UcT H rec1 (ag vs 0) (ag vs 1) (ag vs 2) (ag vs 3) (ag vs 4) Hc) L.length
  (λi vs Hc=>vs=[.sl (enL cNd L) tk,.ptr H.length 0 0,.ptr (H.length+1) 0 0,.ms (H.length+2) 0 0 (L.length+1) (L.length+1) 2 true,.i6 (i:Int)]/\Hc[H.length]? = some (.cel 0 (FL (nf 0) (nf 1)))/\Hc[H.length+1]? = some (.cel 0 (FL (nf 2) (nf 3)))/\Hc[H.length+2]? = some (.cel 0 (flat cBO (C6 nf (L.take i)++List.replicate (L.length-i) none)))/\(∀k,k<H.length->Hc[k]? = H[k]?)/\H.length+3<=Hc.length)
  (by omega) (λi vs Hc hi hI=>?_) (vs:=[.sl (enL cNd L) tk,.ptr H.length 0 0,.ptr (H.length+1) 0 0,.ms (H.length+2) 0 0 (L.length+1) (L.length+1) 2 true,.i6 0])
  (H:=H++[Blk.cel 0 (FL (nf 0) (nf 1))]++[Blk.cel 0 (FL (nf 2) (nf 3))]++[Blk.cel 0 (flat cBO (List.replicate (L.length+1) none))])
  ⟨rfl,by simp,by simp,by simp[C6,zXm],λk hk=>by rw[Vu,Vu,Vp hk],by simp⟩
 ·obtain⟨vs',Hc,⟨rfl,f1,f2,f3,f4,f5⟩,rec,aB⟩:=loop;rw[aB];unfold UcT;rw[Vy (Vo _),VZ,List.replicate_zero,VF]at f3;have dP:=Vbk (f:=cBO) (b:=H.length) (d:=5) (cap:=L.length+1) (ex:=true) (As f3) (by omega);rw[GY]at dP;simp only[GMw,Aj,Ax,Wb,GQ (CG f4),dP,zXb]
 ·obtain⟨rfl,f1,f2,f3,f4,f5⟩:=hI;have aE:(i:Int)<(L.length:Int):=by omega
  have bV:=Av (show i<9223372036854775807 by omega);obtain⟨v1,v2,v3⟩:=AS hl hi;have hw:IntKind.i64.wrap (L[i].lv-1)=((L[i].lv.toNat-1:Nat):Int):=by rw[An] <;> omega
  have dS:=λH=>ML (L[i].lv.toNat-1) H (by omega);have hEB:=Vbq eM hl i (by omega);have hlen:(C6 nf (L.take i)).length=i+1:=by rw[GY];simp;omega
  have s1:Ai 2 (.ptr Hc.length 0 0) (big (2^(L[i].lv.toNat-1))) (Hc++[.cel 0 [.bool false,.sl [] .ti]])=some (Hc++[.cel 0 (AA (2^(L[i].lv.toNat-1)))]):=by rw[Ct (Ap (B:=Hc)) rfl,Bt]
  generalize hE:C6 nf (L.take i)++List.replicate (L.length-i) none=E at f3;have hEl:E.length=L.length+1:=by rw[<-hE];simp[hlen];omega
  have mF:∀c,c<=i->E.getD c none=(C6 nf (L.take i)).getD c none:=λc hc=>by rw[<-hE,Vm,Vm,Vp (by omega)]
  have dW:∀j,1<L[i].lv->(L[i].kid (nf j)).toNat<=i:=λj h1=>by
   obtain⟨q1,q2,q3⟩:=v3 (nf j) (eM j);by_cases hc:0<L[i].kid (nf j)
   ·have:=(q3 h1 hc).1;omega
   ·omega
  have hJeq:∀j,Dh nf E L[i] j=Dh nf (C6 nf (L.take i)) L[i] j:=λj=>by
   unfold Dh;by_cases h1:1<L[i].lv
   ·rw[if_pos h1,if_pos h1,mF _ (dW j h1)]
   ·rw[if_neg h1,if_neg h1]
  have hDeq:∀j,DC nf E L[i] j=DC nf (C6 nf (L.take i)) L[i] j:=λj=>by unfold DC;rw[hJeq]
  have hKeq:∀j,CQ nf E L[i] j=CQ nf (C6 nf (L.take i)) L[i] j:=λj=>by
   induction j with
   |zero=>rfl
   |succ j ih=>unfold CQ;rw[ih,hJeq,hDeq]
  have hJb:∀j,0<=Dh nf E L[i] j/\Dh nf E L[i] j<2^L[i].lv.toNat:=λj=>by rw[hJeq];exact Vg5 v1 (SX eM hl hi hEB j)
  have hJl:∀j,LB (Dh nf E L[i] j):=λj=>LT (hJb j).1 (hJb j).2 (by omega);have hKl:∀j,j<=4->LB (bo (CQ nf E L[i] j).2):=λj hj=>by have:=Ry (λj _=>hJb j) j hj;exact LT this.1 this.2 (by omega)
  have pL:List.replicate (L.length-i) (none:Option Int)=none::List.replicate (L.length-(i+1)) none:=by rw[show L.length-i=(L.length-(i+1))+1 from by omega,zXm]
  have aI:∀o:Option Int,E.set (i+1) o=C6 nf (L.take i)++o::List.replicate (L.length-(i+1)) none:=λo=>by rw[<-hE,pL,Wa _ _ (by omega),hlen,VZ,List.set_cons_zero]
  have pG:E.set (i+1) (CQ nf E L[i] 0).2=E:=by rw[aI];show C6 nf (L.take i)++none::_=E;rw[<-pL,hE]
  have turn:=λ(j:Nat) (hj:j<4) (Hd:Aa)=>Vg4 eM tk H Hd E i j H.length (H.length+1) (H.length+2) Hc.length hi hj hL hEl ⟨v1,v2⟩ (v3 (nf j) (eM j)).1 (λh1=>⟨by have:=dW j h1;omega,by have:=dW j h1;omega,by rw[mF _ (dW j h1)];have:=SX eM hl hi hEB j h1;exact LT this.1 this.2 (by omega)⟩) (hJl j) (CQ nf E L[i] j) (hKl j (by omega)) ⟨by omega,by omega,by omega,by omega⟩ (by omega) (by omega) (by omega);have next:∀j,(if L[i].kid (nf j)=0 then CQ nf E L[i] j else if (CQ nf E L[i] j).1=false\/Dh nf E L[i] j<bo (CQ nf E L[i] j).2 then (true,DC nf E L[i] j)else CQ nf E L[i] j)=CQ nf E L[i] (j+1):=λj=>rfl
  simp only[next]at turn;obtain⟨H1,t1,a1,b1,c1,d1,e1,g1⟩:=turn 0 (by omega) (Hc++[Blk.cel 0 (AA (2^(L[i].lv.toNat-1)))]) (AK f1) (AK f2) (by rw[pG];exact AK f3) Ap (λk hk=>by rw[Vp (by omega)];exact f4 k hk) (by simp;omega);obtain⟨H2,t2,a2,b2,c2,d2,e2,g2⟩:=turn 1 (by omega) H1 a1 b1 c1 d1 e1 g1;obtain⟨H3,t3,a3,b3,c3,d3,e3,g3⟩:=turn 2 (by omega) H2 a2 b2 c2 d2 e2 g2;obtain⟨H4,t4,a4,b4,c4,d4,e4,g4⟩:=turn 3 (by omega) H3 a3 b3 c3 d3 e3 g3;have lA:=(Vn.1 c4).1;refine⟨[.sl (enL cNd L) tk,.ptr H.length 0 0,.ptr (H.length+1) 0 0,.ms (H.length+2) 0 0 (L.length+1) (L.length+1) 2 true,.i6 ((i+1:Nat):Int)],H4,⟨rfl,a4,b4,?_,e4,by omega⟩,λrec=>?_⟩
  ·rw[c4,Kt nf L hi,aI,<-hKeq];simp
  ·unfold UcT;simp only[GMw,Ay,Ae,A0,Vr,Nat.add_zero,V4,Co,Aj,Ax,aE,Az hi,hw,dS,Dp,s1];obtain⟨n,hn⟩:=Vgi 5 (by decide);have hf:¬(((3+1:Nat):Int)<4):=by decide
   rw[hn,show n+5=(((n+1)+1)+1+1)+1 from rfl,C0];simp only[Al,Aj];refine (t1 rec _).trans ?_;rw[C0];simp only[Al,Aj];refine (t2 rec _).trans ?_;rw[C0];simp only[Al,Aj];refine (t3 rec _).trans ?_;rw[C0];simp only[Al,Aj];refine (t4 rec _).trans ?_;rw[C0];unfold UcS;simp only[GMw,Aj,hf,bV]
def Ia (x y w h:Int):List Ab:=AA x++AA y++AA w++AA h
def Qr (x y w h:Int):Ab:=.agg (Ia x y w h)
def G8:List Ab:=[.bool false,.sl [] .ti,.bool false,.sl [] .ti,.bool false,.sl [] .ti,.bool false,.sl [] .ti]
def nfW (j:Nat):Nat:=match j with | 0=>0 | 1=>2 | 2=>1 | _=>3
def nfE (j:Nat):Nat:=match j with | 0=>1 | 1=>3 | 2=>0 | _=>2
def nfN (j:Nat):Nat:=match j with | 0=>0 | 1=>1 | 2=>2 | _=>3
def nfS (j:Nat):Nat:=match j with | 0=>2 | 1=>3 | 2=>0 | _=>1
def Gy (nf:Nat->Nat)(L:List Nd):Option Int:=(C6 nf L).getD L.length none
def bxX (L:List Nd):Int:=-(2^((BD L).toNat-1))+bo (Gy nfW L)
def bxY (L:List Nd):Int:=-(2^((BD L).toNat-1))+bo (Gy nfN L)
def bxW (L:List Nd):Int:=2^(BD L).toNat-(bo (Gy nfW L)+bo (Gy nfE L))
def bxH (L:List Nd):Int:=2^(BD L).toNat-(bo (Gy nfN L)+bo (Gy nfS L))
theorem P3 (j:Nat):nfW j<4:=by unfold nfW;split <;> omega
theorem Sw (j:Nat):nfE j<4:=by unfold nfE;split <;> omega
theorem P4 (j:Nat):nfN j<4:=by unfold nfN;split <;> omega
theorem Sv (j:Nat):nfS j<4:=by unfold nfS;split <;> omega
theorem VgX (a b:Nat):AD (some [.i6 0,.i6 0]) [(0,1,.i6 (a:Int)),(1,1,.i6 (b:Int))]=some (.agg (FL a b)):=by simp[AD,GH,Dx,FL]
theorem I8 {nf:Nat->Nat}(eM:∀j,nf j<4){L:List Nd}(hl:AH L=true)(h0:0<L.length):0<=bo (Gy nf L)/\bo (Gy nf L)<2^(BD L).toNat:=by
 have hb:=Vbq eM hl L.length (Vo _);rw[Vy (Vo _)]at hb;have hm:L.length-1<L.length:=by omega
 have hlt:L.length<(C6 nf L).length:=by rw[GY];omega
 have:=hb (L.length-1) L[L.length-1] (C6 nf L)[L.length] (Vl hm) (by rw[show L.length-1+1=L.length from by omega];exact Vl hlt);have ht:BD L=L[L.length-1].lv:=by unfold BD;rw[FF (n:=L.length-1) (by omega) hm]
 unfold Gy;rw[Vm,Vl hlt,ht];exact this
theorem IQ (B:Aa)(o:Option Int):Ai 2 (.ptr B.length 0 0) (.agg (cBO o)) (B++[Blk.cel 0 [.bool false,.sl [] .ti]])=some (B++[Blk.cel 0 (cBO o)]):=by rw[Pk (Ap (B:=B) (cs:=[.bool false,.sl [] .ti])) rfl,Bt]
theorem MT {nf:Nat->Nat}(L:List Nd)(H:Aa)(k:Ab->Out):((Aw 2 (.sl (enL cBO (C6 nf L)) .no) (.i6 (L.length:Int))).bind λx20=>(Ad true 2 x20 H).bind k)=k (.agg (cBO (Gy nf L))):=by
 have hlt:L.length<(C6 nf L).length:=by rw[GY];omega
 rw[Az hlt];unfold Gy;rw[Vm,Vl hlt];cases (C6 nf L)[L.length] <;> rfl
theorem Rx {nf:Nat->Nat}(eM:∀j,nf j<4){L:List Nd}(hl:AH L=true)(h0:0<L.length):LB (bo (Gy nf L)):=by have:=I8 eM hl h0;have hle:=QC hl h0 (Vo _);exact LT this.1 this.2 (VM hle (by omega))
theorem Vn0 (L:List Nd)(H:Aa)(hL:L.length<549755813888)(hl:AH L=true)(h0:L≠[]) :
  Uao (Gn L) H=some (.ret (.tup [Qr (bxX L) (bxY L) (bxW L) (bxH L),.bool true]),H):=by
 have hlen:0<L.length:=Wd.2 h0;have hl0:¬((L.length:Int)=0):=by omega
 have hLv:Lv L (BD L).toNat L.length:=⟨Vo _,.inr rfl⟩;obtain⟨cL,hn2⟩:=hLv.num hlen hl;have eI:BD L=((BD L).toNat:Int):=cL;have hle:(BD L).toNat<=1329:=QC hl hlen (Vo _);have bW:=Rx P3 hl hlen;have bE:=Rx Sw hl hlen;have bN:=Rx P4 hl hlen;have bS:=Rx Sv hl hlen;have kW:=λH=>MK P3 L .no H hL hl;have kE:=λH=>MK Sw L .no H hL hl;have kN:=λH=>MK P4 L .no H hL hl;have kS:=λH=>MK Sv L .no H hL hl;simp only[nfW,nfE,nfN,nfS]at kW kE kN kS;have lvl:=λH=>U0 L .no H (show L.length<17592186044415 by omega);rw[<-VeU]at lvl;simp only[if_neg h0]at lvl;unfold Uao;have yI:A3 (some [(.bool false),(.sl [] .ti),(.bool false),(.sl [] .ti),(.bool false),(.sl [] .ti),(.bool false),(.sl [] .ti)]) (H++[Blk.cel 0 (Bp L)])=some (.ptr (H++[Blk.cel 0 (Bp L)]).length 0 0,H++[Blk.cel 0 (Bp L)]++[.cel 0 G8]):=alloc_eq rfl;simp only[GMw,VmT,yI];generalize h2:H++[Blk.cel 0 (Bp L)]++[Blk.cel 0 G8]=H2;generalize h1:(H++[Blk.cel 0 (Bp L)]).length=p1;have n2:Ad false 1 (.ptr H.length 0 0) H2=some (.sl (enL cNd L) .no):=EO (by rw[<-h2];simp);have q2:Ad true 1 (.ptr H.length 0 0) H2=some (Gn L):=MU (by rw[<-h2];simp);have z2:H2[p1]? = some (.cel 0 G8):=by rw[<-h2,<-h1];exact Ap
 have o2:∀k,k<H.length->H2[k]? = H[k]? := λk hk=>by rw[<-h2,Vu,Vp hk]
 have p1l:H.length<p1:=by rw[<-h1];simp
 have tw:=λ(a b:Nat)=>VgX a b;have t02:=tw 0 2;have t13:=tw 1 3;have t01:=tw 0 1;have t23:=tw 2 3;simp only[show ((0:Nat):Int)=0 from rfl,show ((1:Nat):Int)=1 from rfl,show ((2:Nat):Int)=2 from rfl,show ((3:Nat):Int)=3 from rfl]at t02 t13 t01 t23;simp only[GMw,Ae,Vr,Nat.add_zero,n2,Ax,hl0,t02,t13,t01,t23,kW];rw[MT];simp only[GMw,Dp,IQ];generalize h3:H2++[Blk.cel 0 (cBO (Gy nfW L))]=H3;have n3:Ad false 1 (.ptr H.length 0 0) H3=some (.sl (enL cNd L) .no):=by rw[<-h3];exact Bz n2
 have w3:Ad true 2 (.ptr H2.length 0 0) H3=some (.agg (cBO (Gy nfW L))):=by rw[<-h3];exact Gr Ap
 simp only[GMw,Ae,Vr,Nat.add_zero,n3,t02,t13,t01,t23,kE];rw[MT];simp only[GMw,Dp,IQ];generalize h4:H3++[Blk.cel 0 (cBO (Gy nfE L))]=H4;have n4:Ad false 1 (.ptr H.length 0 0) H4=some (.sl (enL cNd L) .no):=by rw[<-h4];exact Bz n3
 have e4:Ad true 2 (.ptr H3.length 0 0) H4=some (.agg (cBO (Gy nfE L))):=by rw[<-h4];exact Gr Ap
 simp only[GMw,Ae,Vr,Nat.add_zero,n4,t02,t13,t01,t23,kN];rw[MT];simp only[GMw,Dp,IQ];generalize h5:H4++[Blk.cel 0 (cBO (Gy nfN L))]=H5;have n5:Ad false 1 (.ptr H.length 0 0) H5=some (.sl (enL cNd L) .no):=by rw[<-h5];exact Bz n4
 have d5:Ad true 2 (.ptr H4.length 0 0) H5=some (.agg (cBO (Gy nfN L))):=by rw[<-h5];exact Gr Ap
 simp only[GMw,Ae,Vr,Nat.add_zero,n5,t02,t13,t01,t23,kS];rw[MT];simp only[GMw,Dp,IQ];generalize h6:H5++[Blk.cel 0 (cBO (Gy nfS L))]=H6;have q6:Ad true 1 (.ptr H.length 0 0) H6=some (Gn L):=by rw[<-h6,<-h5,<-h4,<-h3];exact Bz (Bz (Bz (Bz q2)))
 have s6:Ad true 2 (.ptr H5.length 0 0) H6=some (.agg (cBO (Gy nfS L))):=by rw[<-h6];exact Gr Ap
 have w6:Ad true 2 (.ptr H2.length 0 0) H6=some (.agg (cBO (Gy nfW L))):=by rw[<-h6,<-h5,<-h4];exact Bz (Bz (Bz w3))
 have e6:Ad true 2 (.ptr H3.length 0 0) H6=some (.agg (cBO (Gy nfE L))):=by rw[<-h6,<-h5];exact Bz (Bz e4)
 have d6:Ad true 2 (.ptr H4.length 0 0) H6=some (.agg (cBO (Gy nfN L))):=by rw[<-h6];exact Bz d5
 have z6:H6[p1]? = some (.cel 0 G8):=by rw[<-h6,<-h5,<-h4,<-h3];exact AK (AK (AK (AK z2)))
 have o6:∀k,k<H.length->H6[k]? = H[k]? := λk hk=>by
  have hk2:k<H2.length:=by rw[<-h2];simp;omega
  rw[<-h6,<-h5,<-h4,<-h3,Vu,Vu,Vu,Vp hk2];exact o2 k hk
 unfold bxX bxY bxW bxH;generalize hv:(BD L).toNat=v at *;have tZ:=λH=>ML v H (by omega);have tY:=λH=>ML (v-1) H (by omega);have hw:IntKind.i64.wrap ((v:Int)-1)=((v-1:Nat):Int):=Ih (by omega) (by omega);have sb1:=(Hi (show v<=1400 by omega)).lb (show 44<=549755813888 by decide);have sb2:=(Hi (show v-1<=1400 by omega)).lb (show 44<=549755813888 by decide);have nH:=λH=>N9 (2^(v-1)) H sb2;have lB:(H6++[Blk.cel 0 [Ab.bool false,.sl [] .ti]]).length=H6.length+1:=by simp
 have s0:=λ(z:Int) (c:List Ab)=>st0 (Hc:=H6) (a:=[.bool false,.sl [] .ti]) (c:=c) (z:=z) rfl;have s1:=λ(z:Int) (a:List Ab)=>st1 (Hc:=H6) (a:=a) (c:=[.bool false,.sl [] .ti]) (z:=z) rfl;rw[eI]at lvl;simp only[GMw,q6,lvl,tZ,hw,tY,nH,Dp,lB,s0,s1];generalize h8:H6++[Blk.cel 0 (AA (2^v))]++[Blk.cel 0 (AA (-(2^(v-1))))]=H8;have c8:Ad true 2 (.ptr (H6.length+1) 0 0) H8=some (big (-(2^(v-1)))):=BV (by rw[<-h8];simp);have g8:Ad true 2 (.ptr H6.length 0 0) H8=some (big (2^v)):=BV (by rw[<-h8];simp);have w8:Ad true 2 (.ptr H2.length 0 0) H8=some (.agg (cBO (Gy nfW L))):=by rw[<-h8];exact Bz (Bz w6)
 have e8:Ad true 2 (.ptr H3.length 0 0) H8=some (.agg (cBO (Gy nfE L))):=by rw[<-h8];exact Bz (Bz e6)
 have d8:Ad true 2 (.ptr H4.length 0 0) H8=some (.agg (cBO (Gy nfN L))):=by rw[<-h8];exact Bz (Bz d6)
 have s8:Ad true 2 (.ptr H5.length 0 0) H8=some (.agg (cBO (Gy nfS L))):=by rw[<-h8];exact Bz (Bz s6)
 have z8:H8[p1]? = some (.cel 0 G8):=by rw[<-h8];exact AK (AK z6)
 have o8:∀k,k<H.length->H8[k]? = H[k]? := λk hk=>by
  have zY:k<H6.length:=by have:=(Vn.1 z6).1;omega
  rw[<-h8,Vu,Vp zY];exact o6 k hk
 have rW:=Rep.bo bW;have rE:=Rep.bo bE;have rN:=Rep.bo bN;have rS:=Rep.bo bS;have rC:=Rep.big sb2.neg;have rG:=Rep.big sb1;have aX:=λH=>VmW rC rW H;have aY:=λH=>VmW rC rN H;have aWE:=λH=>VmW rW rE H;have aNS:=λH=>VmW rN rS H;simp only[Tu]at aX aY;have sumlb:∀a b:Int,0<=a->a<2^v->0<=b->b<2^v->LB (a+b):=λa b tC Zv gC gB=>LT (v:=v+1) (by omega) (by rw[Xl];omega) (by omega);have eW:=I8 P3 hl hlen;have eE:=I8 Sw hl hlen;have eN:=I8 P4 hl hlen;have eS:=I8 Sv hl hlen;rw[hv]at eW eE eN eS;have bW':=λH=>VoX rG (Rep.big (sumlb _ _ eW.1 eW.2 eE.1 eE.2)) H;have bH':=λH=>VoX rG (Rep.big (sumlb _ _ eN.1 eN.2 eS.1 eS.2)) H;simp only[Tu]at bW' bH';simp only[GMw,c8,g8,w8,e8,d8,s8,and_true,eq_self,aX,aY,aWE,aNS,bW',bH'];have iD:∀x y w h:Int,AD (some [(.bool false),(.sl [] .ti),(.bool false),(.sl [] .ti),(.bool false),(.sl [] .ti),(.bool false),(.sl [] .ti)]) [(0,2,big x),(2,2,big y),(4,2,big w),(6,2,big h)]=some (Qr x y w h):=λx y w h=>by unfold Qr Ia;simp[AD,GH,Dx,AA]
 have wI:∀x y w h:Int,(Qr x y w h).acells=some (Ia x y w h):=λx y w h=>Cc (by simp[Ia,AA]);have pT:=(Vn.1 z8).1;have hst:∀x y w h:Int,Ai 8 (.ptr p1 0 0) (Qr x y w h) H8=some (H8.set p1 (.cel 0 (Ia x y w h))):=λx y w h=>by simp only[Ai,As z8,zXa,wI,B6 z8,D8 (cs:=G8) (sz:=8) rfl];rw[if_pos ⟨rfl,by decide⟩]
 have hld:∀x y w h:Int,Ad true 8 (.ptr p1 0 0) (H8.set p1 (.cel 0 (Ia x y w h)))=some (Qr x y w h):=λx y w h=>by
  have:(H8.set p1 (.cel 0 (Ia x y w h)))[p1]? = some (.cel 0 (Ia x y w h)):=by rw[V0 pT]
  simp only[Ad,As this,zXa];rfl
 have htk:∀x y w h:Int,(H8.set p1 (.cel 0 (Ia x y w h))).take H.length=H:=λx y w h=>CG λk hk=>by rw[Vt (by omega)];exact o8 k hk
 have Yx:∀(x y w h:Int) (H':Aa) (n d:Nat),ET H' n (d+3) (Qr x y w h)=some (Qr x y w h):=λx y w h H' n d=>by unfold Qr Ia AA;simp
 simp only[iD,GMw,hst,hld,Hj,E8,F1,zXb,GQ (htk _ _ _ _),Dn,BY,Cv,Yx,GU]
def bx (L:List Nd)(f:List Nd->Int):Int:=if L=[]then 0 else f L
theorem Tn (x y w h:Int):(Qr x y w h).acells=some (Ia x y w h):=Cc (by simp[Ia,AA])
theorem NQ (H:Aa):A3 (some [(.bool false),(.sl [] .ti),(.bool false),(.sl [] .ti),(.bool false),(.sl [] .ti),(.bool false),(.sl [] .ti)]) H=some (.ptr H.length 0 0,H++[.cel 0 G8]):=alloc_eq rfl
theorem Vfa (L:List Nd)(H:Aa)(hL:L.length<549755813888)(hl:AH L=true) :
  Uao (Gn L) H=some (.ret (.tup [Qr (bx L bxX) (bx L bxY) (bx L bxW) (bx L bxH),.bool (decide (L≠[]))]),H):=by
 unfold bx;by_cases h0:L=[]
 ·subst h0;unfold Uao;have n2:Ad false 1 (.ptr H.length 0 0) (H++[Blk.cel 0 (Bp [])]++[Blk.cel 0 G8])=some (.sl (enL cNd []) .no):=EO (by simp);have hb:AD (some [(.bool false),(.sl [] .ti),(.bool false),(.sl [] .ti),(.bool false),(.sl [] .ti),(.bool false),(.sl [] .ti)]) []=some (.agg G8):=rfl;have hst:Ai 8 (.ptr (H++[Blk.cel 0 (Bp [])]).length 0 0) (.agg G8) (H++[Blk.cel 0 (Bp [])]++[Blk.cel 0 G8])=some (H++[Blk.cel 0 (Bp [])]++[Blk.cel 0 G8]):=by
   have hz:(H++[Blk.cel 0 (Bp [])]++[Blk.cel 0 G8])[(H++[Blk.cel 0 (Bp [])]).length]? = some (.cel 0 G8):=Ap;simp only[Ai,As hz,zXa,B6 hz,Cc (cs:=G8) rfl,D8 (cs:=G8) (sz:=8) rfl,Bt]
   rfl
  have hld:Ad true 8 (.ptr (H++[Blk.cel 0 (Bp [])]).length 0 0) (H++[Blk.cel 0 (Bp [])]++[Blk.cel 0 G8])=some (.agg G8):=by simp only[Ad,As (Ap (cs:=G8)),zXa];rfl
  simp only[GMw,VmT,NQ,Ae,Vr,n2,Ax,zXk,show ((0:Nat):Int)=0 from rfl,hb,hst,hld,Hj,E8,F1,zXb];rw[Vu];simp only[CT,Dn,BY,Cv,J8,G8,Hs,I5,Kr,Ma,GU,BB,zXb]
  rfl
 ·rw[Vn0 L H hL hl h0];simp only[if_false,ne_eq,h0,not_false_eq_true,decide_true]
theorem Vp7 {L:List Nd}(hl:AH L=true):LB (bx L bxW)/\LB (bx L bxH):=by
 unfold bx;by_cases h0:L=[]
 ·rw[if_pos h0,if_pos h0];exact⟨VbI,VbI⟩
 ·rw[if_neg h0,if_neg h0];have hlen:0<L.length:=Wd.2 h0;have eW:=I8 P3 hl hlen;have eE:=I8 Sw hl hlen;have eN:=I8 P4 hl hlen;have eS:=I8 Sv hl hlen;have hle:(BD L).toNat<=1329:=QC hl hlen (Vo _);have key:∀a b:Int,0<=a->a<2^(BD L).toNat->0<=b->b<2^(BD L).toNat->LB (2^(BD L).toNat-(a+b)):=λa b h1 h2 h3 h4=>by have hs:=Hi (show (BD L).toNat<=1400 by omega);have ha:=Pb (BD L).toNat;unfold SB at hs;refine LB.of (k:=44) (Wv ?_ hs) (by decide);generalize (2:Int)^(BD L).toNat=p at *;omega
  exact⟨key _ _ eW.1 eW.2 eE.1 eE.2,key _ _ eN.1 eN.2 eS.1 eS.2⟩
def Gg (L:List Nd)(m:Int):Bool:=decide (bx L bxW<=m)&&decide (bx L bxH<=m)
theorem VgL (a b:Int):decide (F7 a b<=0)=decide (a<=b):=by
 unfold F7;rw[V8];split
 ·simp;omega
 ·split
  ·simp;omega
  ·simp;omega
theorem Vdv {m:Int}(h0:-9223372036854775808<=m)(h1:m<=9223372036854775807):LB m:=LB.of (k:=3) (show m.natAbs<4294967296^3 by rw[show (4294967296:Nat)^3=79228162514264337593543950336 from by decide];omega) (by decide)
theorem Se (L:List Nd)(m:Int)(H:Aa)(hL:L.length<549755813888)(hl:AH L=true)(h0:-9223372036854775808<=m)(h1:m<=9223372036854775807) :
  Ubs (Gn L) (.i6 m) H=some (.ret (.bool (Gg L m)),H):=by
 unfold Ubs Gg;have q1:Ad true 1 (.ptr H.length 0 0) (H++[Blk.cel 0 (Bp L)])=some (Gn L):=MU Ap;obtain⟨b1,b2⟩:=Vp7 hl;have oG:=λH=>N8 m H h0 h1;have cW:=λH=>LE (bx L bxW) m H b1 (Vdv h0 h1);have cH:=λH=>LE (bx L bxH) m H b2 (Vdv h0 h1);simp only[GMw,VmT,q1,Vfa L _ hL hl,Ce,Cg,NQ];generalize bx L bxX=x;generalize bx L bxY=y;generalize bx L bxW=w at *;generalize bx L bxH=h at *;generalize hB:H++[Blk.cel 0 (Bp L)]=B;have hst:Ai 8 (.ptr B.length 0 0) (Qr x y w h) (B++[Blk.cel 0 G8])=some (B++[Blk.cel 0 (Ia x y w h)]):=by
  simp only[Ai,As (Ap (B:=B) (cs:=G8)),zXa,Tn,B6 (Ap (B:=B) (cs:=G8)),D8 (cs:=G8) (sz:=8) rfl,Bt]
  rfl
 have g4:Ad true 2 (.ptr B.length 0 4) (B++[Blk.cel 0 (Ia x y w h)])=some (big w):=by simp only[Ad,As (Ap (B:=B)),zXa];rfl
 have g6:Ad true 2 (.ptr B.length 0 6) (B++[Blk.cel 0 (Ia x y w h)])=some (big h):=by simp only[Ad,As (Ap (B:=B)),zXa];rfl
 have fin:∀q:Bool,rP H (.bool q) (B++[Blk.cel 0 (Ia x y w h)])=some (.ret (.bool q),H):=λq=>by rw[<-hB,Vu];exact Dq
 simp only[hst,GMw,oG,Ae,Vr,g4,g6,and_true,eq_self,cW,VgL];cases decide (w<=m)with
 |false=>simp only[GMw,ViP,and_true,eq_self,fin]
 |true=>simp only[GMw,oG,Ae,Vr,g6,VlM,and_true,eq_self,cH,VgL,fin]
theorem SY {nf:Nat->Nat}{E:List (Option Int)}{x:Nd}:∀(n:Nat),n<=4->∀j,j<n->x.kid (nf j)≠0->(CQ nf E x n).1=true/\bo (CQ nf E x n).2<=Dh nf E x j
 |0,_,j,h,_=>by omega
 |n+1,hn,j,h,hk=>by
  unfold CQ;by_cases hj:j=n
  ·subst hj;rw[if_neg hk];by_cases hc:(CQ nf E x j).1=false\/Dh nf E x j<bo (CQ nf E x j).2
   ·rw[if_pos hc];exact⟨rfl,by rw[Mf];exact WU _⟩
   ·rw[if_neg hc];have h1:(CQ nf E x j).1=true:=by
     cases hq:(CQ nf E x j).1 with
     |true=>rfl
     |false=>exact absurd (.inl hq) hc
    have h2:¬Dh nf E x j<bo (CQ nf E x j).2:=λh=>hc (.inr h);exact⟨h1,by omega⟩
  ·obtain⟨i1,i2⟩:=SY (nf:=nf) (E:=E) (x:=x) n (by omega) j (by omega) hk;by_cases h0:x.kid (nf n)=0
   ·rw[if_pos h0];exact⟨i1,i2⟩
   ·rw[if_neg h0];by_cases hc:(CQ nf E x n).1=false\/Dh nf E x n<bo (CQ nf E x n).2
    ·rw[if_pos hc];refine⟨rfl,?_⟩;rw[Mf];rcases hc with hc | hc
     ·rw[i1]at hc;cases hc
     ·omega
    ·rw[if_neg hc];exact⟨i1,i2⟩
theorem NL {nf:Nat->Nat}{E:List (Option Int)}{x:Nd}:∀(n:Nat),(∀j,j<n->x.kid (nf j)=0)->CQ nf E x n=(false,none)
 |0,_=>rfl
 |n+1,h=>by unfold CQ;rw[if_pos (h n (by omega))];exact NL n λj hj=>h j (by omega)
def Opp (nf nf':Nat->Nat):Prop:=(∀j,nf j<4)/\(∀j,nf' j<4)/\∀k,k<4->∃j1 j2,j1<4/\j2<4/\nf j1=k/\nf' j2=k/\(1<j1↔¬1<j2)
theorem Vpp:Opp nfW nfE:=⟨P3,Sw,λk hk=>by
 match k,hk with
 |0,_=>exact⟨0,2,by decide,by decide,rfl,rfl,by decide⟩
 |1,_=>exact⟨2,0,by decide,by decide,rfl,rfl,by decide⟩
 |2,_=>exact⟨1,3,by decide,by decide,rfl,rfl,by decide⟩
 |3,_=>exact⟨3,1,by decide,by decide,rfl,rfl,by decide⟩⟩
theorem Vpq:Opp nfN nfS:=⟨P4,Sv,λk hk=>by
 match k,hk with
 |0,_=>exact⟨0,2,by decide,by decide,rfl,rfl,by decide⟩
 |1,_=>exact⟨1,3,by decide,by decide,rfl,rfl,by decide⟩
 |2,_=>exact⟨2,0,by decide,by decide,rfl,rfl,by decide⟩
 |3,_=>exact⟨3,1,by decide,by decide,rfl,rfl,by decide⟩⟩
theorem VcT {nf nf':Nat->Nat}(ho:Opp nf nf'){L:List Nd}(hl:AH L=true):∀i,i<=L.length->∀m x,m<i->L[m]? = some x->bo ((C6 nf (L.take i)).getD (m+1) none)+bo ((C6 nf' (L.take i)).getD (m+1) none)<2^x.lv.toNat
 |0,_,m,x,h,_=>by omega
 |i+1,h,m,x,hm,hx=>by
  have ih:=VcT ho hl i (by omega);have len:∀nf:Nat->Nat,(C6 nf (L.take i)).length=i+1:=λnf=>by rw[GY];simp;omega
  rw[Kt nf L h,Kt nf' L h];by_cases qE:m<i
  ·rw[Vm,Vm,Vp (by rw[len];omega),Vp (by rw[len];omega),<-Vm,<-Vm];exact ih m x qE hx
  ·have e:m=i:=by omega
   subst e;rw[Vl h]at hx;injection hx with hx;rw[Vm,Vm,VG (by rw[len];omega),VG (by rw[len];omega),len,len,VZ];simp only[zXh,Option.getD_some];obtain⟨v1,v2,v3⟩:=AS hl h;rw[hx]at v1 v2 v3 ⊢;have hp:(0:Int)<2^(x.lv.toNat-1):=Xo (by omega);have e2:(2:Int)^x.lv.toNat=2^(x.lv.toNat-1)*2:=by rw[<-Xl];congr 1;omega
   by_cases aF:∀k,k<4->x.kid k=0
   ·rw[NL 4 λj _=>aF _ (ho.1 j),NL 4 λj _=>aF _ (ho.2.1 j),e2];show (0:Int)+0<_;omega
   ·obtain⟨k,hk⟩:=Classical.not_forall.1 aF;obtain⟨cK,kY⟩:=Classical.not_imp.1 hk;obtain⟨j1,j2,l1,l2,n1,n2,aD⟩:=ho.2.2 k cK;have a1:=(SY (nf:=nf) (E:=C6 nf (L.take m)) (x:=x) 4 (Vo _) j1 l1 (by rw[n1];exact kY)).2;have a2:=(SY (nf:=nf') (E:=C6 nf' (L.take m)) (x:=x) 4 (Vo _) j2 l2 (by rw[n2];exact kY)).2;refine Int.lt_of_le_of_lt (Int.add_le_add a1 a2) ?_;unfold Dh;rw[n1,n2,e2];have gG:(1<x.lv->bo ((C6 nf (L.take m)).getD (x.kid k).toNat none)+bo ((C6 nf' (L.take m)).getD (x.kid k).toNat none)<2^(x.lv.toNat-1)):=by
     intro h1;obtain⟨q1,q2,q3⟩:=v3 k cK;obtain⟨r1,r2⟩:=q3 h1 (by omega);obtain⟨c,hc⟩:∃c:Nat,(x.kid k).toNat=c+1:=⟨(x.kid k).toNat-1,by omega⟩;have aG:c<L.length:=by omega
     have aN:=r2 L[c] (by rw[show (x.kid k-1).toNat=c from by omega];exact Vl aG);have:=ih c L[c] (by omega) (Vl aG);rw[hc,show x.lv.toNat-1=L[c].lv.toNat from by omega];exact this
    by_cases h1:1<x.lv
    ·have hs:=gG h1;rw[if_pos h1,if_pos h1];generalize (2:Int)^(x.lv.toNat-1)=p at *;by_cases hj:1<j1
     ·rw[if_pos hj,if_neg (aD.1 hj)];omega
     ·have mD:1<j2:=Classical.byContradiction λh=>hj (aD.2 h);rw[if_neg hj,if_pos mD];omega
    ·rw[if_neg h1,if_neg h1];generalize (2:Int)^(x.lv.toNat-1)=p at *;by_cases hj:1<j1
     ·rw[if_pos hj,if_neg (aD.1 hj)];omega
     ·have mD:1<j2:=Classical.byContradiction λh=>hj (aD.2 h);rw[if_neg hj,if_pos mD];omega
theorem Vko {L:List Nd}(hl:AH L=true)(h0:L≠[]):1<=bxW L/\1<=bxH L:=by
 have hlen:0<L.length:=Wd.2 h0;have hm:L.length-1<L.length:=by omega
 have ht:BD L=L[L.length-1].lv:=by unfold BD;rw[FF (n:=L.length-1) (by omega) hm]
 have key:∀nf nf':Nat->Nat,Opp nf nf'->bo (Gy nf L)+bo (Gy nf' L)<2^(BD L).toNat:=λnf nf' ho=>by have:=VcT ho hl L.length (Vo _) (L.length-1) L[L.length-1] hm (Vl hm);rw[Vy (Vo _),show L.length-1+1=L.length from by omega]at this;rw[ht];exact this
 have k1:=key _ _ Vpp;have k2:=key _ _ Vpq;unfold bxW bxH;generalize (2:Int)^(BD L).toNat=p at *;omega
section
variable {α:Type}{f:α->List Ab}{ty:TypeId}{sz:Nat}
def RS (f:α->List Ab)(ty:TypeId)(sz b:Nat)(out:List α)(v:Ab)(H:Aa):Prop:=(out=[]/\v=.sl [] .ti)\/∃t,b<=t/\v=.sl (enL f out) (.own t)/\H[t]? = some (.tok out.length ty sz)
theorem RS.sl {b:Nat}{out:List α}{v:Ab}{H:Aa}(h:RS f ty sz b out v H):∃tk,v=.sl (enL f out) tk:=by
 rcases h with ⟨rfl,rfl⟩ | ⟨t,_,rfl,_⟩
 ·exact⟨_,rfl⟩
 ·exact⟨_,rfl⟩
theorem RS.left {b:Nat}{out:List α}{v:Ab}{H:Aa}(h:RS f ty sz b out v H)(G:Aa):RS f ty sz b out v (H++G):=by
 rcases h with h1 | ⟨t,h1,h2,h3⟩
 ·exact .inl h1
 ·exact .inr ⟨t,h1,h2,AK h3⟩
theorem RS.put {b p:Nat}{out:List α}{v:Ab}{H:Aa}{c c':List Ab}(h:RS f ty sz b out v H)(hp:H[p]? = some (.cel 0 c)):RS f ty sz b out v (H.set p (.cel 0 c')):=by
 rcases h with h1 | ⟨t,h1,h2,h3⟩
 ·exact .inl h1
 ·refine .inr ⟨t,h1,h2,?_⟩;have:p≠t:=λe=>by rw[<-e,hp]at h3;cases h3
  rw[Vt this];exact h3
theorem RS.snoc [hf:Sz f sz]{bytes b:Nat}{out:List α}{v:Ab}{H:Aa}(h:RS f ty sz b out v H)(hb:b<=H.length)(x:α)(tk:Tok)(hl:(out.length+1)*bytes<=140737488355328)(eO:out.length+1<=140737488355328) :
  ∃v' H',Bf ty sz bytes v (.sl (enL f [x]) tk) H=some (v',H')/\RS f ty sz b (out++[x]) v' H'/\Kp b H H':=by
 rcases h with ⟨rfl,rfl⟩ | ⟨t,h1,rfl,h3⟩
 ·have:=Eu (f:=f) (l:=[]) (m:=[x]) (ty:=ty) (bytes:=bytes) (tk:=tk) (H:=H) (by simp) (by simpa using hl) (by simp);exact⟨_,_,this,.inr ⟨H.length,hb,rfl,by simp⟩,Kp.app hb _⟩
 ·have:=FS (f:=f) (l:=out) (m:=[x]) (ty:=ty) (bytes:=bytes) (tk:=tk) (H:=H) (t:=t) (by simp) h3 (by simpa using hl) (by simpa using eO);have gY:=(Vn.1 h3).1;refine⟨_,_,this,.inr ⟨t,h1,rfl,by simp[gY]⟩,⟨by simp,λi cs hc=>?_,λi hi=>?_⟩⟩
  ·have:t≠i:=λe=>by rw[<-e,h3]at hc;cases hc
   rw[Vt this];exact hc
  ·rw[Vt (by omega)]

end
def QJ (L:List Nd)(X Y:Int)(y x:Nat):UInt8:=UInt8.ofNat (Vke L (X+(x:Int)) (Y+(y:Int))).toNat
def RW (L:List Nd)(X Y:Int)(w y:Nat):zAa:=(List.range w).map (QJ L X Y y)
theorem VlL {L:List Nd}(hl:AH L=true)(x y:Int):St (Vke L x y):=by
 unfold Vke;split
 ·exact⟨WU _,by show (0:Int)<=255;decide⟩
 ·split
  ·exact Vgg hl _ _ _ _ ⟨Vo _,.inr rfl⟩
  ·exact⟨WU _,by show (0:Int)<=255;decide⟩
theorem VgP {L:List Nd}(hl:AH L=true)(X Y:Int)(y x:Nat):((QJ L X Y y x).toNat:Int)=Vke L (X+(x:Int)) (Y+(y:Int)):=by have h:=VlL hl (X+(x:Int)) (Y+(y:Int));unfold QJ;have h1:=h.1;have h2:=h.2;rw[Xf (show (Vke L (X+(x:Int)) (Y+(y:Int))).toNat<256 by omega)];omega
theorem Qw {n:Nat}(h:n<=1000):SB 44 (n:Int):=by unfold SB;have h1:(4294967296:Nat)^1<=4294967296^44:=Hp (by omega);omega
theorem ViN (H:Aa)(rec1:LK)(L:List Nd)(X Y:Int)(w h y p3 p5 p28 p54:Nat)(Hc:Aa)(out:Out)(hL:L.length<549755813888)(hl:AH L=true)(hw:w<=1000)(hy:y<=1000)(sX:SB 44 X)(sY:SB 44 Y)
  (hq:Ad true 1 (.ptr p3 0 0) Hc=some (Gn L))(hX:Ad true 2 (.ptr p28 0 0) Hc=some (big X))(hY:Ad true 2 (.ptr p28 0 2) Hc=some (big Y))
  (fin:∀aA:LK,UaB H rec1 aA (.ptr p3 0 0) (.ptr p5 0 0) (.ptr p28 0 0) (.i6 (w:Int)) (.i6 (h:Int)) (.ptr p54 0 0) (.i6 (y:Int)) (.ms Hc.length 0 0 w w 1 true) (.i6 (w:Int)) (Hc++[.cel 0 (flat cY (RW L X Y w y))])=out) :
  Am (λaA vs H1=>UaB H rec1 aA (ag vs 0) (ag vs 1) (ag vs 2) (ag vs 3) (ag vs 4) (ag vs 5) (ag vs 6) (ag vs 7) (ag vs 8) H1) AP [.ptr p3 0 0,.ptr p5 0 0,.ptr p28 0 0,.i6 (w:Int),.i6 (h:Int),.ptr p54 0 0,.i6 (y:Int),.ms Hc.length 0 0 w w 1 true,.i6 0] (Hc++[.cel 0 (flat cY (List.replicate w 0))])=out:=by
 have key:=CA (G:=λaA vs H1=>UaB H rec1 aA (ag vs 0) (ag vs 1) (ag vs 2) (ag vs 3) (ag vs 4) (ag vs 5) (ag vs 6) (ag vs 7) (ag vs 8) H1) w
  (λx=>[.ptr p3 0 0,.ptr p5 0 0,.ptr p28 0 0,.i6 (w:Int),.i6 (h:Int),.ptr p54 0 0,.i6 (y:Int),.ms Hc.length 0 0 w w 1 true,.i6 (x:Int)]) (λx=>Hc++[.cel 0 (flat cY ((List.range x).map (QJ L X Y y)++List.replicate (w-x) 0))]) out (by omega) (λaA x hx=>?_) (λaA=>?_)
 ·simpa using key
 ·have hx':(x:Int)<(w:Int):=by omega
  have bD:=Av (show x<9223372036854775807 by omega);generalize hR:(List.range x).map (QJ L X Y y)++List.replicate (w-x) 0=R;have hRl:R.length=w:=by rw[<-hR];simp;omega
  have aI:R.set x (QJ L X Y y x)=(List.range (x+1)).map (QJ L X Y y)++List.replicate (w-(x+1)) 0:=by rw[<-hR,Wa _ _ (by simp),show w-x=(w-(x+1))+1 from by omega,zXm];simp[Xm]
  rw[<-aI];have ox:=λH=>N8 (x:Int) H (by omega) (by omega);have oy:=λH=>N8 (y:Int) H (by omega) (by omega);have sx:=Qw (show x<=1000 by omega);have sy:=Qw hy;have ax:=λH=>LF X (x:Int) H (sX.lb (by decide)) (sx.lb (by decide));have ay:=λH=>LF Y (y:Int) H (sY.lb (by decide)) (sy.lb (by decide));have bL:=λH=>VkR L (X+(x:Int)) (Y+(y:Int)) H (by omega) hl ((sX.add sx).mono (by omega)) ((sY.add sy).mono (by omega));have g1:=Bz (G:=[Blk.cel 0 (flat cY R)]) hq;have g2:=Bz (G:=[Blk.cel 0 (flat cY R)]) hX;have g3:=Bz (G:=[Blk.cel 0 (flat cY R)]) hY;have hidx:=CK (sz:=1) (id:=Hc.length) (n:=w) (K:=.i64) (g:=0) (off:=0) (cap:=w) (ex:=true) (i:=x) hx;simp only[Vr,V4]at hidx;have hst:=DR (f:=cY) (sz:=1) (l:=R) (i:=x) (a:=QJ L X Y y x) (v:=.int .u8 (Vke L (X+(x:Int)) (Y+(y:Int)))) (H:=Hc++[Blk.cel 0 (flat cY R)]) (id:=Hc.length) (As Ap) (by omega) (by rw[<-VgP hl];rfl);rw[V4,B6 Ap,Bt]at hst;unfold UaB;simp only[GMw,Aj,hx',ox,Ae,Vr,g1,g2,g3,and_true,eq_self,ax,oy,ay,bL,hidx,hst,bD]
 ·rw[VZ,List.replicate_zero,VF];exact fin aA
def BX (X Y:Int)(v:Ab):List Ab:=AA X++AA Y++[v]
def O7 (X Y:Int)(rows:List (zAa)):Ab:=.agg (BX X Y (.sl (enL cS rows) .no))
def DN:List Ab:=[.bool false,.sl [] .ti,.bool false,.sl [] .ti,.sl [] .ti]
def HI (L:List Nd)(X Y:Int)(w n:Nat):List (zAa):=(List.range n).map (RW L X Y w)
theorem VdM (X Y:Int)(es:List (List Ab))(tk:Tok)(H':Aa)(n d:Nat):ET H' n (d+3) (.agg (BX X Y (.sl es tk)))=some (.agg (BX X Y (.sl es .no))):=by unfold BX AA;simp
theorem I0 (X Y:Int)(es:List (List Ab))(tk:Tok):(BX X Y (.sl es tk)).all Ab.isScal=true:=by unfold BX AA;simp
theorem M7 (H:Aa):A3 (some [(.bool false),(.sl [] .ti),(.bool false),(.sl [] .ti),(.sl [] .ti)]) H=some (.ptr H.length 0 0,H++[.cel 0 DN]):=alloc_eq rfl
theorem Vgc {H Hq:Aa}{p5:Nat}{X Y:Int}{es:List (List Ab)}{tk:Tok}{e:Int}{c:List Ab}(hp:H.length<=p5)(hc:Hq[p5]? = some (.cel 0 c))(hl:c.length=5)(hold:∀i,i<H.length->Hq[i]? = H[i]?) :
  (bP H (AE (Ai 5 (.ptr p5 0 0) (.agg (BX X Y (.sl es tk))) Hq)) λ_ H37=>(GP [Ad true 5 (.ptr p5 0 0) H37,some (.i6 e)]).bind λx38=>rPN H x38 H37)=some (.ret (.tup [.agg (BX X Y (.sl es .no)),.i6 e]),H):=by
 have aG:=(Vn.1 hc).1;have hst:Ai 5 (.ptr p5 0 0) (.agg (BX X Y (.sl es tk))) Hq=some (Hq.set p5 (.cel 0 (BX X Y (.sl es tk)))):=by simp only[Ai,As hc,zXa,Cc (I0 X Y es tk),B6 hc,D8 (sz:=5) hl];rw[if_pos ⟨rfl,by omega⟩]
 have hld:Ad true 5 (.ptr p5 0 0) (Hq.set p5 (.cel 0 (BX X Y (.sl es tk))))=some (.agg (BX X Y (.sl es tk))):=by
  have:(Hq.set p5 (.cel 0 (BX X Y (.sl es tk))))[p5]? = some (.cel 0 (BX X Y (.sl es tk))):=by rw[V0 aG]
  simp only[Ad,As this,zXa];rfl
 have bQ:(Hq.set p5 (.cel 0 (BX X Y (.sl es tk)))).take H.length=H:=CG λi hi=>by rw[Vt (by omega),hold i hi]
 simp only[GMw,hst,hld,Hj,E8,F1,zXb,GQ bQ,Dn,BY,Cv,VdM,EC]
theorem MW {H Hq:Aa}{p5:Nat}{e:Int}(hp:H.length<=p5)(hc:Hq[p5]? = some (.cel 0 DN))(hold:∀i,i<H.length->Hq[i]? = H[i]?) :
  ((AD (some [(.bool false),(.sl [] .ti),(.bool false),(.sl [] .ti),(.sl [] .ti)]) []).bind λx11=>bP H (AE (Ai 5 (.ptr p5 0 0) x11 Hq)) λ_ H37=>(GP [Ad true 5 (.ptr p5 0 0) H37,some (.i6 e)]).bind λx38=>rPN H x38 H37)=some (.ret (.tup [O7 0 0 [],.i6 e]),H):=by
 have hb:AD (some [(.bool false),(.sl [] .ti),(.bool false),(.sl [] .ti),(.sl [] .ti)]) []=some (.agg DN):=rfl;have aG:=(Vn.1 hc).1;have hst:Ai 5 (.ptr p5 0 0) (.agg DN) Hq=some (Hq.set p5 (.cel 0 DN)):=by
  simp only[Ai,As hc,zXa,Cc (cs:=DN) rfl,B6 hc,D8 (cs:=DN) (sz:=5) rfl]
  rfl
 have hld:Ad true 5 (.ptr p5 0 0) (Hq.set p5 (.cel 0 DN))=some (.agg DN):=by
  have:(Hq.set p5 (.cel 0 DN))[p5]? = some (.cel 0 DN):=by rw[V0 aG]
  simp only[Ad,As this,zXa];rfl
 have bQ:(Hq.set p5 (.cel 0 DN)).take H.length=H:=CG λi hi=>by rw[Vt (by omega),hold i hi]
 simp only[hb,GMw,hst,hld,Hj,E8,F1,zXb,GQ bQ,Dn,BY,Cv,J8];simp only[DN,BB,zXb,Hs,I5,Kr,Ma,EC]
 rfl
theorem Vgd (H:Aa)(L:List Nd)(X Y:Int)(W Hh:Int)(w h p3 p5 p28 p54:Nat)(hL:L.length<549755813888)(hl:AH L=true)(hw:w<=1000)(hh:h<=1000)(sX:SB 44 X)(sY:SB 44 Y)
  (q3:H.length<=p3)(q5:H.length<=p5)(q28:H.length<=p28)(q54:H.length<=p54)(d3:p3≠p54)(d5:p5≠p54)(d28:p28≠p54)(Hc:Aa)
  (f3:Hc[p3]? = some (.cel 0 (Bp L)))(f5:Hc[p5]? = some (.cel 0 DN))(f28:Hc[p28]? = some (.cel 0 (Ia X Y W Hh)))(f54:Hc[p54]? = some (.cel 0 (BX X Y (.sl [] .ti))))(hold:∀i,i<H.length->Hc[i]? = H[i]?) :
  Am (λrec1 vs H1=>Uby H rec1 (ag vs 0) (ag vs 1) (ag vs 2) (ag vs 3) (ag vs 4) (ag vs 5) (ag vs 6) H1) AP [.ptr p3 0 0,.ptr p5 0 0,.ptr p28 0 0,.i6 (w:Int),.i6 (h:Int),.ptr p54 0 0,.i6 0] Hc=some (.ret (.tup [O7 X Y (HI L X Y w h),.i6 0]),H):=by
 have qM:H.length<=Hc.length:=by have:=(Vn.1 f3).1;omega
 have loop:=Gq (G:=λrec1 vs H1=>Uby H rec1 (ag vs 0) (ag vs 1) (ag vs 2) (ag vs 3) (ag vs 4) (ag vs 5) (ag vs 6) H1) h
  (λy vs Hd=>∃v,vs=[.ptr p3 0 0,.ptr p5 0 0,.ptr p28 0 0,.i6 (w:Int),.i6 (h:Int),.ptr p54 0 0,.i6 (y:Int)]/\Hd[p3]? = some (.cel 0 (Bp L))/\Hd[p5]? = some (.cel 0 DN)/\Hd[p28]? = some (.cel 0 (Ia X Y W Hh))/\Hd[p54]? = some (.cel 0 (BX X Y v))/\RS cS D5 1 H.length (HI L X Y w y) v Hd/\(∀i,i<H.length->Hd[i]? = H[i]?)/\H.length<=Hd.length)
  (by omega) (λy vs Hd hy hI=>?_) (vs:=[.ptr p3 0 0,.ptr p5 0 0,.ptr p28 0 0,.i6 (w:Int),.i6 (h:Int),.ptr p54 0 0,.i6 0]) (H:=Hc) ⟨_,rfl,f3,f5,f28,f54,.inl ⟨rfl,rfl⟩,hold,qM⟩
 ·obtain⟨vs',Hd,⟨v,rfl,g3,g5,g28,g54,gR,go,gl⟩,rec,aB⟩:=loop;rw[aB];obtain⟨tk,rfl⟩:=gR.sl;have hld:Ad true 5 (.ptr p54 0 0) Hd=some (.agg (BX X Y (.sl (enL cS (HI L X Y w h)) tk))):=by simp only[Ad,As g54,zXa];rfl
  unfold Uby;simp only[Al,Aj,Bh,BB,Wb,decide_false,AI,hld];exact Vgc q5 g5 rfl go
 ·obtain⟨v,rfl,g3,g5,g28,g54,gR,go,gl⟩:=hI;have jS:(y:Int)<(h:Int):=by omega
  have bD:=Av (show y<9223372036854775807 by omega);have dB:=FZ (f:=cY) (a:=0) (n:=w) (bytes:=1) (H:=Hd) (by omega) (by omega);simp only[show cY 0=[Ab.int .u8 0] from rfl]at dB;have hX:Ad true 2 (.ptr p28 0 0) Hd=some (big X):=by simp only[Ad,As g28,zXa];rfl
  have hY:Ad true 2 (.ptr p28 0 2) Hd=some (big Y):=by simp only[Ad,As g28,zXa];rfl
  have kJ:(RW L X Y w y).length=w:=by simp[RW]
  have gR':=gR.left [Blk.cel 0 (flat cY (RW L X Y w y))];have Zk:(HI L X Y w y).length=y:=by simp[HI]
  obtain⟨v2,He,a1,a2,a3⟩:=gR'.snoc (bytes:=16) (by simp;omega) (RW L X Y w y) .ti (by omega) (by omega);obtain⟨tk0,rfl⟩:=gR.sl;obtain⟨tk2,rfl⟩:=a2.sl;have e54:=a3.cel p54 _ (AK g54);have e54l:=(Vn.1 e54).1;have dO:HI L X Y w y++[RW L X Y w y]=HI L X Y w (y+1):=by simp[HI,Xm]
  rw[dO]at a1 a2;have uZ:Ad false 1 (.ptr p54 0 4) (Hd++[Blk.cel 0 (flat cY (RW L X Y w y))])=some (.sl (enL cS (HI L X Y w y)) tk0):=Bz (by simp only[Ad,As g54,zXa];rfl);have tP:Ai 1 (.ptr p54 0 4) (.sl (enL cS (HI L X Y w (y+1))) tk2) He=some (He.set p54 (.cel 0 (BX X Y (.sl (enL cS (HI L X Y w (y+1))) tk2)))):=by simp only[Ai,As e54,zXa,Qv,B6 e54];rfl
  have kD:=Vhv (l:=RW L X Y w y) (H:=Hd++[Blk.cel 0 (flat cY (RW L X Y w y))]) (id:=Hd.length) (As Ap);rw[kJ]at kD;refine⟨[.ptr p3 0 0,.ptr p5 0 0,.ptr p28 0 0,.i6 (w:Int),.i6 (h:Int),.ptr p54 0 0,.i6 ((y+1:Nat):Int)],He.set p54 (.cel 0 (BX X Y (.sl (enL cS (HI L X Y w (y+1))) tk2))),⟨_,rfl,by rw[Vt d3.symm];exact a3.cel _ _ (AK g3),by rw[Vt d5.symm];exact a3.cel _ _ (AK g5),by rw[Vt d28.symm];exact a3.cel _ _ (AK g28),by rw[V0 e54l],a2.put e54,λi hi=>?_,?_⟩,λrec=>?_⟩
  ·rw[Vt (by omega),a3.old i hi,Vp (by omega)];exact go i hi
  ·have:=a3.len;simp at this;simp;omega
  ·unfold Uby;simp only[Al,Aj,Bh,BB,jS,decide_true,AU,dB,Bj];refine ViN H rec L X Y w h y p3 p5 p28 p54 Hd _ hL hl hw (by omega) sX sY (MU g3) hX hY λaA=>?_;unfold UaB;simp only[GMw,Wb,Ae,Vr,uZ,kD,R1,a1,tP,bD]
def Vge (L:List Nd)(m:Int):Ab×Int:=
 if m<0\/m>1000 then (O7 0 0 [],1)
 else if Gg L m=false then (O7 0 0 [],4)
 else if L=[]then (O7 0 0 [],0)
 else (O7 (bxX L) (bxY L) (HI L (bxX L) (bxY L) (bxW L).toNat (bxH L).toNat),0)
theorem Vkp {L:List Nd}(hl:AH L=true)(h0:L≠[]):SB 44 (bxX L)/\SB 44 (bxY L):=by
 have hlen:0<L.length:=Wd.2 h0;have eW:=I8 P3 hl hlen;have eN:=I8 P4 hl hlen;have hLv:Lv L (BD L).toNat L.length:=⟨Vo _,.inr rfl⟩;obtain⟨_,hn2⟩:=hLv.num hlen hl;have hle:(BD L).toNat<=1329:=QC hl hlen (Vo _);unfold bxX bxY;generalize (BD L).toNat=v at *;obtain⟨u,rfl⟩:∃u,v=u+1:=⟨v-1,by omega⟩;rw[VH];have e:(2:Int)^(u+1)=2^u*2:=Xl _ _;have hs:=Hi (show u<=1400 by omega);have ha:=Pb u;have key:∀a:Int,0<=a->a<2^(u+1)->SB 44 (-(2^u)+a):=λa h1 h2=>by unfold SB at hs ⊢;refine Wv ?_ hs;rw[e]at h2;generalize (2:Int)^u=p at *;omega
 exact⟨key _ eW.1 eW.2,key _ eN.1 eN.2⟩
theorem Vnz (L:List Nd)(m:Int)(H:Aa)(hL:L.length<549755813888)(hl:AH L=true)(h0:-9223372036854775808<=m)(h1:m<=9223372036854775807) :
  UcZ (Gn L) (.i6 m) H=some (.ret (.tup [(Vge L m).1,.i6 (Vge L m).2]),H):=by
 unfold UcZ Vge;have e3:(H++[Blk.cel 0 (Bp L)]++[Blk.cel 0 DN])[H.length]? = some (.cel 0 (Bp L)):=by simp
 have e5:(H++[Blk.cel 0 (Bp L)]++[Blk.cel 0 DN])[(H++[Blk.cel 0 (Bp L)]).length]? = some (.cel 0 DN):=Ap;have eo:∀i,i<H.length->(H++[Blk.cel 0 (Bp L)]++[Blk.cel 0 DN])[i]? = H[i]? := λi hi=>by rw[Vu,Vp hi]
 have l5:H.length<=(H++[Blk.cel 0 (Bp L)]).length:=by simp
 simp only[GMw,VmT,M7];by_cases hm0:m<0
 ·rw[if_pos (.inl hm0)];simp only[hm0,GMw];exact MW l5 e5 eo
 ·by_cases nI:m>1000
  ·rw[if_pos (.inr nI)];simp only[hm0,nI,GMw];exact MW l5 e5 eo
  ·rw[if_neg (by omega)];have bV:=λH=>Se L m H hL hl h0 h1;simp only[hm0,nI,GMw,MU e3,bV];cases wQ:Gg L m with
   |false=>simp only[GMw];exact MW l5 e5 eo
   |true=>
    have uH:=λH=>Vfa L H hL hl;simp only[GMw,MU e3,uH,Ce,Cg,NQ];generalize hB:H++[Blk.cel 0 (Bp L)]++[Blk.cel 0 DN]=B at e3 e5 eo;generalize xC:(H++[Blk.cel 0 (Bp L)]).length=p5 at e5 l5;have d35:H.length≠p5:=by rw[<-xC];simp
    have hbl:B.length=H.length+2:=by rw[<-hB];simp
    have p5e:p5=H.length+1:=by rw[<-xC];simp
    have tO:∀x y w h:Int,Ai 8 (.ptr B.length 0 0) (Qr x y w h) (B++[Blk.cel 0 G8])=some (B++[Blk.cel 0 (Ia x y w h)]):=λx y w h=>by
     simp only[Ai,As (Ap (B:=B) (cs:=G8)),zXa,Tn,B6 (Ap (B:=B) (cs:=G8)),D8 (cs:=G8) (sz:=8) rfl,Bt]
     rfl
    simp only[tO,GMw];by_cases hn:L=[]
    ·simp only[hn,ne_eq,not_true_eq_false,GMw];exact MW l5 (AK e5) λi hi=>by rw[Vp (by omega)];exact eo i hi
    ·rw[if_neg hn];simp only[hn,ne_eq,not_false_eq_true,GMw];obtain⟨w1,w2⟩:=Vko hl hn;obtain⟨sx,sy⟩:=Vkp hl hn;have lN:bxW L<=m/\bxH L<=m:=by simp only[Gg,bx,if_neg hn,Vx,zXe]at wQ;exact wQ
     simp only[bx,if_neg hn];obtain⟨w,hw⟩:=Ws (show 0<=bxW L by omega);obtain⟨h,hh⟩:=Ws (show 0<=bxH L by omega);rw[hw]at lN w1 ⊢;rw[hh]at lN w2 ⊢;have yR:=lN.1;have tI:=lN.2;generalize bxX L=X at *;generalize bxY L=Y at *;have g0:Ad true 2 (.ptr B.length 0 0) (B++[Blk.cel 0 (Ia X Y w h)])=some (big X):=by simp only[Ad,As (Ap (B:=B)),zXa];rfl
     have g2:Ad true 2 (.ptr B.length 0 2) (B++[Blk.cel 0 (Ia X Y w h)])=some (big Y):=by simp only[Ad,As (Ap (B:=B)),zXa];rfl
     have g4:Ad true 2 (.ptr B.length 0 4) (B++[Blk.cel 0 (Ia X Y w h)])=some (big w):=by simp only[Ad,As (Ap (B:=B)),zXa];rfl
     have g6:Ad true 2 (.ptr B.length 0 6) (B++[Blk.cel 0 (Ia X Y w h)])=some (big h):=by simp only[Ad,As (Ap (B:=B)),zXa];rfl
     have iw:∀H,UeG (big (w:Int)) H=some (.ret (.tup [.i6 (w:Int),.bool true]),H):=λH=>by
      rw[Vcc _ _ (Vdv (by omega) (by omega))];have:GE (w:Int)=true:=by unfold GE;rw[zXe];omega
      unfold TE;rw[this];rfl
     have ih:∀H,UeG (big (h:Int)) H=some (.ret (.tup [.i6 (h:Int),.bool true]),H):=λH=>by
      rw[Vcc _ _ (Vdv (by omega) (by omega))];have:GE (h:Int)=true:=by unfold GE;rw[zXe];omega
      unfold TE;rw[this];rfl
     have iD:AD (some [(.bool false),(.sl [] .ti),(.bool false),(.sl [] .ti),(.sl [] .ti)]) [(0,2,big X),(2,2,big Y)]=some (.agg (BX X Y (.sl [] .ti))):=by unfold BX;simp[AD,GH,Dx,AA]
     simp only[GMw,Ae,Vr,g0,g2,g4,g6,iw,ih,Ce,Cg,iD,M7];generalize hC:B++[Blk.cel 0 (Ia X Y w h)]=C;have aG:C.length=H.length+3:=by rw[<-hC];simp;omega
     have mS:Ai 5 (.ptr C.length 0 0) (.agg (BX X Y (.sl [] .ti))) (C++[Blk.cel 0 DN])=some (C++[Blk.cel 0 (BX X Y (.sl [] .ti))]):=by
      simp only[Ai,As (Ap (B:=C) (cs:=DN)),zXa,Cc (I0 X Y [] .ti),B6 (Ap (B:=C) (cs:=DN)),D8 (cs:=DN) (sz:=5) rfl,Bt]
      rfl
     simp only[GMw,mS,zXl];exact Vgd H L X Y w h w h H.length p5 B.length C.length hL hl (by omega) (by omega) sx sy (Vo _) l5 (by omega) (by omega) (by omega) (by omega) (by omega) _ (by rw[<-hC];exact AK (AK e3)) (by rw[<-hC];exact AK (AK e5)) (by rw[<-hC];exact AK Ap) Ap (λi hi=>by rw[<-hC,Vu,Vp (by omega)];exact eo i hi)
def Ix (b n:Int):List Ab:=[.i6 b,.i6 n]
def Mb (f:Int)(L:List Nd)(b:Int):Bool:=decide (f=5)||(Gg L b&&(decide (f=4)||decide (Nw L<=1)))
def Jm (f:Int)(rule:zAa)(L:List Nd)(b n:Int):Int:=
 if (decide (1<=f)&&decide (f<=5)&&(HH rule&&EG L)&&J9 b n)=false then 1 else if Mb f L b=false then 5 else 0
theorem Ok {L:List Nd}(h:EG L=true):AH L=true:=by
 simp only[EG,Wn,zXe,Vx]at h;rcases h with h | h
 ·subst h;rfl
 ·exact h.1.1.1
theorem VaK (f:Int)(rule:zAa)(L:List Nd)(b n:Int)(H:Aa)(hL:L.length<549755813888)(hl:AH L=true)(h0:-9223372036854775808<=b)(h1:b<=9223372036854775807) :
  UcV (.i6 f) (pat rule L) (.agg (Ix b n)) H=some (.ret (.bool (Mb f L b)),H):=by
 unfold UcV Mb;have hbx:∀H,B3 true 2 (.agg (Ix b n)) H=some (.ptr H.length 0 0,H++[.cel 0 (Ix b n)]):=λH=>BH rfl rfl;have e4:(H++[Blk.cel 0 (Gp rule L)]++[Blk.cel 0 (Ix b n)])[H.length]? = some (.cel 0 (Gp rule L)):=by simp
 have g6:Ad false 1 (.ptr (H++[Blk.cel 0 (Gp rule L)]).length 0 0) (H++[Blk.cel 0 (Gp rule L)]++[Blk.cel 0 (Ix b n)])=some (.i6 b):=by simp only[Ad,As (Ap (B:=H++[Blk.cel 0 (Gp rule L)])),zXa];rfl
 have fin:∀q:Bool,rP H (.bool q) (H++[Blk.cel 0 (Gp rule L)]++[Blk.cel 0 (Ix b n)])=some (.ret (.bool q),H):=λq=>by rw[Vu];exact Dq
 have bV:=λH=>Se L b H hL hl h0 h1;have qD:=λH=>Vfb H (show L.length<1152921504606846976 by omega) hl;simp only[GMw,Vdk,hbx];by_cases h5:f=5
 ·simp only[h5,GMw,fin]
 ·simp only[h5,GMw,Ae,Vr,Kg e4,g6,bV];cases Gg L b with
  |false=>simp only[GMw,fin]
  |true=>
   by_cases h4:f=4
   ·simp only[h4,GMw,fin]
   ·simp only[h4,GMw,Ae,Vr,Kg e4,qD,fin]
theorem VeX (f:Int)(rule:zAa)(L:List Nd)(b n:Int)(H:Aa)(hr:rule.length<1152921504606846976)(hL:L.length<549755813888)(h0:-9223372036854775808<=b)(h1:b<=9223372036854775807) :
  UcW (.i6 f) (pat rule L) (.agg (Ix b n)) H=some (.ret (.i6 (Jm f rule L b n)),H):=by
 unfold UcW Jm;have hbx:∀H,B3 true 2 (.agg (Ix b n)) H=some (.ptr H.length 0 0,H++[.cel 0 (Ix b n)]):=λH=>BH rfl rfl;have e4:(H++[Blk.cel 0 (Gp rule L)]++[Blk.cel 0 (Ix b n)])[H.length]? = some (.cel 0 (Gp rule L)):=by simp
 have g6:Ad true 2 (.ptr (H++[Blk.cel 0 (Gp rule L)]).length 0 0) (H++[Blk.cel 0 (Gp rule L)]++[Blk.cel 0 (Ix b n)])=some (.agg (Ix b n)):=by simp only[Ad,As (Ap (B:=H++[Blk.cel 0 (Gp rule L)])),zXa];rfl
 have fin:∀q:Int,rP H (.i6 q) (H++[Blk.cel 0 (Gp rule L)]++[Blk.cel 0 (Ix b n)])=some (.ret (.i6 q),H):=λq=>by rw[Vu];exact Io
 have sZ:=λH=>Vd7 f H;have sH:=λH=>VeW rule L H hr (by omega);have eG:=λH=>VhU b n H;simp only[GMw,Vdk,hbx,sZ];cases hf:(decide (1<=f)&&decide (f<=5))with
 |false=>simp only[GMw,fin]
 |true=>
  simp only[GMw,P9 e4,sH];cases hq:(HH rule&&EG L)with
  |false=>simp only[GMw,fin]
  |true=>
   have hl:AH L=true:=by simp only[Vx]at hq;exact Ok hq.2
   have hex:=λH=>VaK f rule L b n H hL hl h0 h1;have jG:∀H,Ubm (.agg (Ix b n)) H=some (.ret (.bool (J9 b n)),H):=eG;simp only[GMw,g6,jG];cases J9 b n with
   |false=>simp only[GMw,fin]
   |true=>
    simp only[GMw,P9 e4,g6,hex];cases Mb f L b with
    |false=>simp only[GMw,fin];rfl
    |true=>simp only[GMw,fin];rfl
def Dw (s:zAa):Nat:=(s.reverse.dropWhile λb=>decide (b=0)).length
theorem R8 (s:zAa)(b:UInt8):Dw (s++[b])=if b=0 then Dw s else s.length+1:=by unfold Dw;rw[List.reverse_append];by_cases h:b=0 <;> simp[h,List.dropWhile_cons]
theorem R9 (s:zAa):Dw s<=s.length:=by unfold Dw;have:=(XU (λb:UInt8=>decide (b=0)) (l:=s.reverse)).length_le;simpa using this
def GD (L:List Nd):List (zAa):=if L=[]then []else HI L (bxX L) (bxY L) (bxW L).toNat (bxH L).toNat
theorem VdK {L:List Nd}{b:Int}(h1:0<=b)(h2:b<=1000)(hw:Gg L b=true):Vge L b=(O7 (bx L bxX) (bx L bxY) (GD L),0):=by
 unfold Vge GD bx;rw[if_neg (by omega),if_neg (by rw[hw];simp)];by_cases h0:L=[]
 ·rw[if_pos h0,if_pos h0,if_pos h0,if_pos h0]
 ·rw[if_neg h0,if_neg h0,if_neg h0,if_neg h0]
theorem VeI {L:List Nd}{b:Int}(hl:AH L=true)(h1:0<=b)(h2:b<=1000)(hw:Gg L b=true):(GD L).length<=1000/\∀r∈GD L,r.length<=1000:=by
 unfold GD;by_cases h0:L=[]
 ·rw[if_pos h0];exact⟨by simp,λr hr=>by simp at hr⟩
 ·rw[if_neg h0];simp only[Gg,bx,if_neg h0,Vx,zXe]at hw;have hp:=Vko hl h0;refine⟨by simp[HI];omega,λr hr=>?_⟩;simp only[HI,WM]at hr;obtain⟨y,_,rfl⟩:=hr;simp[RW];omega
theorem Vjq {f:Int}{rule:zAa}{L:List Nd}{b n:Int}(h:Jm f rule L b n=0)(hf:f≠5):AH L=true/\0<=b/\b<=1000/\Gg L b=true/\HH rule=true/\EG L=true:=by
 unfold Jm at h;split at h
 ·cases h
 ·rename_i h1;split at h
  ·cases h
  ·rename_i h2;simp only[Bool.not_eq_false,Vx,J9,Mb,zXe,Wn]at h1 h2;obtain⟨⟨_,h3,h4⟩,h5⟩:=h1;refine⟨Ok h4,h5.1.1.1,h5.1.1.2,?_,h3,h4⟩;rcases h2 with h2 | h2
   ·exact absurd h2 hf
   ·exact h2.1
theorem Vk9 {z:Int}{k m:Nat}(h:SB k z)(hk:10*k<=m):z.natAbs<10^m:=Wu h (Vig hk)
theorem Pr {z:Int}(h:SB 44 z):z.natAbs<10^4096/\(DE z).length<=5000:=by
 have h1:z.natAbs<10^4096:=Vk9 (m:=4096) h (by decide);refine⟨h1,?_⟩;have:=Nf 4096 z.natAbs h1;simp only[show ¬((4096:Nat)=0)by decide,if_false]at this;unfold DE;split
 ·simp;omega
 ·omega
def Fz (n:Nat)(two:Bool):zAa:=
 if two&&decide (n=0)then [98]else if two&&decide (n=1)then [111]else if n=0 then [46]
 else if n<=24 then [UInt8.ofNat (64+n)]else [UInt8.ofNat (112+(n-25) / 24),UInt8.ofNat (65+(n-25)%24)]
theorem Vem {n:Nat}(h:n<256):((UInt8.ofNat n).toNat:Int)=(n:Int):=by rw[Xf (show n<256 from h)]
theorem Vjy (a b:UInt8):AN 1 [.int .u8 (a.toNat:Int),.int .u8 (b.toNat:Int)]=some (.sl (enL cY [a,b]) .ti):=by simp[AN,CP,Kl,BG,Ab.acells,enL]
theorem VhS (n:Nat)(two:Bool)(H:Aa)(hn:n<256):Ubz (.int .u8 (n:Int)) (.bool two) H=some (.ret (.str (Fz n two)),H):=by
 unfold Ubz Fz;have d0:decide ((n:Int)=0)=decide (n=0):=by rw[V8];simp only[zXe];omega
 have d1:decide ((n:Int)=1)=decide (n=1):=by rw[V8];simp only[zXe];omega
 have rest:((Af .none .eql (.int .u8 (n:Int)) (.int .u8 0)).bind λx9=>Ak x9 (rK H (.str [46]) H) (
   (Af .none .leq (.int .u8 (n:Int)) (.int .u8 24)).bind λx10=>Ak x10 (
   (Af .none .add (.int .u8 65) (.int .u8 (n:Int))).bind λx11=>(Af .none .sub x11 (.int .u8 1)).bind λx12=>(AN 1 [x12]).bind λx13=>(CF x13 H).bind λx14=>rK H x14 H) (
   (Af .none .sub (.int .u8 (n:Int)) (.int .u8 25)).bind λx15=>(Af .none .quo x15 (.int .u8 24)).bind λx16=>(Af .none .add (.int .u8 112) x16).bind λx17=>
   (Af .none .sub (.int .u8 (n:Int)) (.int .u8 25)).bind λx18=>(Af .none .rem x18 (.int .u8 24)).bind λx19=>(Af .none .add (.int .u8 65) x19).bind λx20=>
   (AN 1 [x17,x20]).bind λx21=>(CF x21 H).bind λx22=>rK H x22 H)))=some (.ret (.str (if n=0 then [46]else if n<=24 then [UInt8.ofNat (64+n)]else [UInt8.ofNat (112+(n-25) / 24),UInt8.ofNat (65+(n-25)%24)])),H):=by
  by_cases h0:n=0
  ·subst h0;rfl
  ·have eT:¬(n:Int)=0:=by omega
   by_cases h24:n<=24
   ·have nY:(n:Int)<=24:=by omega
    have w1:IntKind.u8.wrap (65+(n:Int))=65+(n:Int):=FE (by omega) (by omega);have w2:IntKind.u8.wrap (65+(n:Int)-1)=((UInt8.ofNat (64+n)).toNat:Int):=by rw[FE (by omega) (by omega),Vem (by omega)];omega
    simp only[GMw,h0,eT,h24,nY,w1,w2,VgY,Ph]
   ·have nY:¬(n:Int)<=24:=by omega
    have w1:IntKind.u8.wrap ((n:Int)-25)=((n-25:Nat):Int):=by rw[FE] <;> omega
    have w2:IntKind.u8.wrap (((n-25:Nat):Int).tdiv 24)=(((n-25) / 24:Nat):Int):=by rw[show (((n-25:Nat):Int).tdiv 24)=(((n-25) / 24:Nat):Int) from rfl,FE] <;> omega
    have w3:IntKind.u8.wrap (112+(((n-25) / 24:Nat):Int))=((UInt8.ofNat (112+(n-25) / 24)).toNat:Int):=by rw[FE (by omega) (by omega),Vem (by omega)];omega
    have w4:((n-25:Nat):Int).tmod 24=(((n-25)%24:Nat):Int):=rfl;have w5:IntKind.u8.wrap (65+(((n-25)%24:Nat):Int))=((UInt8.ofNat (65+(n-25)%24)).toNat:Int):=by rw[FE (by omega) (by omega),Vem (by omega)];omega
    simp only[GMw,h0,eT,h24,nY,w1,OX (show (24:Int)≠0 by decide),w2,w3,Jc (show (24:Int)≠0 by decide),w4,w5,Vjy,Ph]
 cases two with
 |false=>simp only[QE,N0,Vkd,KX,GF,Ca,BB,AI,Wh,Vq,if_false];exact rest
 |true=>
  simp only[GF,BB,Dv,Fm,d0,BZ,d1];by_cases h0:n=0
  ·subst h0;rfl
  ·by_cases h1:n=1
   ·subst h1;rfl
   ·simp only[h0,h1,decide_false,AI,Ye,Vq,if_false];simp only[GF,BB,Dv,Fm,d0,BZ,d1]at rest;simp only[h0,h1,decide_false,AI,Ye,Vq,if_false]at rest;exact rest
def EL (n:Int)(sign:zAa):zAa:=if n=1 then sign else DE n++sign
theorem Uz (n:Int)(sign:zAa)(H:Aa)(h0:-1000000000<=n)(h1:n<=1000000000)(hs:sign.length<=1000):UaD (.i6 n) (.str sign) H=some (.ret (.str (EL n sign)),H):=by
 unfold UaD EL;have oG:=λH=>N8 n H (by omega) (by omega);have tT:SB 44 n:=by unfold SB;have:(4294967296:Nat)^1<=4294967296^44:=Hp (by omega);omega
 obtain⟨d1,d2⟩:=Pr tT;have yY:=λH=>LD n H d1;by_cases hn:n=1
 ·simp only[hn,GMw]
 ·simp only[hn,GMw,oG,yY];rw[Cq (by omega)];simp only[GMw]
theorem Vkw (b:UInt8):decide ((b.toNat:Int)=0)=decide (b=0):=by
 rw[V8];simp only[zXe];constructor
 ·intro h;exact WF.1 (by simpa using h)
 ·intro h;rw[h];rfl
theorem VhR (s:zAa)(H:Aa)(hs:s.length<70368744177664):Udg (.str s) H=some (.ret (.i6 (Dw s:Int)),H):=by
 unfold Udg;refine CA (G:=λrec1 vs H1=>Udf H rec1 (ag vs 0) (ag vs 1) (ag vs 2) H1) s.length (λi=>[.str s,.i6 (Dw (s.take i):Int),.i6 (i:Int)]) (λ_=>H) _ (by omega) (λrec i hi=>?_) (λrec=>?_)
 ·have aE:(i:Int)<(s.length:Int):=by omega
  have bD:=Av (show i<9223372036854775807 by omega);have gY:(s.take i).length=i:=by simp;omega
  have yX:Dw (s.take (i+1))=if s[i]=0 then Dw (s.take i)else i+1:=by rw[Vw hi,R8,gY]
  rw[yX];unfold Udf;simp only[GMw,CU,aE,Ds hi,Vkw,Aj];by_cases h0:s[i]=0
  ·simp only[h0,GMw,Aj,UdQ,bD]
  ·simp only[h0,GMw,Aj,UdQ,bD]
 ·unfold Udf;rw[Vy (Vo _)];simp only[GMw,CU,Wb]
def RA (rows:List (zAa)):Bool:=(List.range rows.length).all λy=>(List.range (rows.getD y []).length).all λx=>decide (((rows.getD y []).getD x 0).toNat<=1)
theorem VkQ (X Y:Int)(rows:List (zAa))(tk:Tok)(H:Aa)(hn:rows.length<70368744177664)(h:∀r∈rows,r.length<70368744177664) :
  Ude (.agg (BX X Y (.sl (enL cS rows) tk))) H=some (.ret (.bool (RA rows)),H):=by
 unfold Ude;have hbx:B3 true 5 (.agg (BX X Y (.sl (enL cS rows) tk))) H=some (.ptr H.length 0 0,H++[.cel 0 (BX X Y (.sl (enL cS rows) tk))]):=BH (I0 _ _ _ _) rfl;have hld:Ad false 1 (.ptr H.length 0 4) (H++[Blk.cel 0 (BX X Y (.sl (enL cS rows) tk))])=some (.sl (enL cS rows) tk):=by simp only[Ad,As Ap,zXa];rfl
 simp only[hbx,GMw];have key:=DA (G:=λrec1 vs H1=>Udd H rec1 (ag vs 0) (ag vs 1) H1) rows.length (λy=>(List.range (rows.getD y []).length).all λx=>decide (((rows.getD y []).getD x 0).toNat<=1)) (λy=>[.ptr H.length 0 0,.i6 (y:Int)]) (H++[.cel 0 (BX X Y (.sl (enL cS rows) tk))])
  (some (.ret (.bool true),H)) (some (.ret (.bool false),H)) (by omega) (λrec y hy=>?_) (λrec=>?_)
 ·refine key.trans ?_;unfold RA;cases (List.range rows.length).all λy=>(List.range (rows.getD y []).length).all λx=>decide (((rows.getD y []).getD x 0).toNat<=1) <;> rfl
 ·have jS:(y:Int)<(rows.length:Int):=by omega
  have bD:=Av (show y<9223372036854775807 by omega);have hrow:rows.getD y []=rows[y]:=by rw[Vm,Vl hy];rfl
  have kJ:=h rows[y] (Vz hy);rw[hrow];unfold Udd;simp only[GMw,Ae,Vr,hld,Ax,jS];refine DA (G:=λaA vs H1=>Udc H rec aA (ag vs 0) (ag vs 1) (ag vs 2) H1) rows[y].length (λx=>decide ((rows[y].getD x 0).toNat<=1)) (λx=>[.ptr H.length 0 0,.i6 (y:Int),.i6 (x:Int)]) (H++[.cel 0 (BX X Y (.sl (enL cS rows) tk))]) _ _ (by omega) (λaA x hx=>?_) (λaA=>?_)
  ·have hx':(x:Int)<(rows[y].length:Int):=by omega
   have yO:=Av (show x<9223372036854775807 by omega);have hd:decide ((rows[y][x].toNat:Int)>1) = !decide ((rows[y].getD x 0).toNat<=1):=by rw[Vm,Vl hx,V8];simp;omega
   unfold Udc;simp only[GMw,Aj,Ae,Vr,hld,Az hy,A0,zXh,CU,hx',Ds hx,hd,Dq,yO];cases decide ((rows[y].getD x 0).toNat<=1) <;> simp only[GMw]
  ·unfold Udc;simp only[GMw,Aj,Ae,Vr,hld,Az hy,A0,zXh,CU,Wb,bD]
 ·unfold Udd;simp only[GMw,Ae,Vr,hld,Ax,Wb,Dq]
def NU (p:zAa×zAa)(t:zAa):zAa×zAa:=
 if p.2.length+t.length>70 then (p.1++p.2++[10],t)else (p.1,p.2++t)
def Gf (l:List (zAa)):zAa×zAa:=l.foldl NU ([],[])
def Veg (l:List (zAa)):zAa:=(Gf l).1++(Gf l).2++[10]
theorem NV (l:List (zAa)){i:Nat}(hi:i<l.length):Gf (l.take (i+1))=NU (Gf (l.take i)) l[i]:=by unfold Gf;rw[Vw hi,X1];rfl
theorem IM (l:List (zAa))(h:∀t∈l,t.length<=10000):∀i,i<=l.length->(Gf (l.take i)).1.length+(Gf (l.take i)).2.length<=i*10001
 |0,_=>by simp[Gf]
 |i+1,hi=>by
  have ih:=IM l h i (by omega);have h2:=h l[i] (Vz hi);rw[NV l hi];unfold NU;split
  ·simp only[Vs,zXi];omega
  ·simp only[Vs];omega
theorem VhQ (l:List (zAa))(tk:Tok)(H:Aa)(hn:l.length<1099511627776)(h:∀t∈l,t.length<=10000):Udj (.sl (enL cS l) tk) H=some (.ret (.str (Veg l)),H):=by
 unfold Udj;refine CA (G:=λrec1 vs H1=>Udi H rec1 (ag vs 0) (ag vs 1) (ag vs 2) (ag vs 3) H1) l.length (λi=>[.sl (enL cS l) tk,.str (Gf (l.take i)).1,.str (Gf (l.take i)).2,.i6 (i:Int)]) (λ_=>H) _ (by omega) (λrec i hi=>?_) (λrec=>?_)
 ·have aE:(i:Int)<(l.length:Int):=by omega
  have bD:=Av (show i<9223372036854775807 by omega);have hb:=IM l h i (by omega);have h2:=h l[i] (Vz hi);rw[NV l hi];generalize Gf (l.take i)=p at hb;obtain⟨s,line⟩:=p;dsimp only at hb ⊢;have hw:IntKind.i64.wrap ((line.length:Int)+(l[i].length:Int))=((line.length+l[i].length:Nat):Int):=by rw[An] <;> omega
  unfold Udi NU;simp only[GMw,Ax,aE,CU,Az hi,A0,zXh,hw,Aj];by_cases hg:line.length+l[i].length>70
  ·have hg':(((line.length+l[i].length:Nat):Int)>70):=by omega
   rw[if_pos hg];simp only[hg',GMw];rw[Cq (by omega)];simp only[GMw];rw[Cq (by simp only[Vs,zXi];omega)];simp only[GMw,Aj,UdS,Az hi,A0,zXh];rw[Cq (by simp;omega)];simp only[GMw,bD,List.nil_append]
  ·have hg':¬(((line.length+l[i].length:Nat):Int)>70):=by omega
   rw[if_neg hg];simp only[hg',GMw,Aj,UdS,Az hi,A0,zXh];rw[Cq (by omega)];simp only[GMw,bD]
 ·have hb:=IM l h l.length (Vo _);unfold Udi Veg;rw[Vy (Vo _)]at *;simp only[GMw,Ax,Wb];rw[Cq (by omega)];simp only[GMw];rw[Cq (by simp only[Vs,zXi];omega)];simp only[GMw]
theorem LP {ι:Type}{G:ι->LK->LK}{σ:Type}(I:σ->List Ab->Aa->Prop)(μ:σ->Nat)(done:σ->Prop)
  (turn:∀(s:σ) (vs:List Ab) (H:Aa),I s vs H->¬done s->∃s' vs' H',μ s'<μ s/\I s' vs' H'/\∀(i:ι) (rec:LK),G i rec vs H=rec vs' H')
  {s:σ}{vs:List Ab}{H:Aa}(h0:I s vs H)(hm:μ s<1152921504606846976):∃s' vs' H',done s'/\I s' vs' H'/\∀i,∃rec,Am (G i) AP vs H=G i rec vs' H':=by
 have key:∀(n:Nat) (s:σ) (vs:List Ab) (H:Aa),μ s<n->I s vs H->∃s' vs' H',done s'/\I s' vs' H'/\∀i,∃rec,Am (G i) n vs H=G i rec vs' H':=by
  intro n
  induction n with
  |zero=>intro s vs H hn _;omega
  |succ n ih=>
   intro s vs H hn hI;by_cases hd:done s
   ·exact⟨s,vs,H,hd,hI,λi=>⟨Am (G i) n,C0 n vs H⟩⟩
   ·obtain⟨s1,vs1,H1,h1,h2,h3⟩:=turn s vs H hI hd;obtain⟨s2,vs2,H2,h4,h5,h6⟩:=ih s1 vs1 H1 (by omega) h2;exact⟨s2,vs2,H2,h4,h5,λi=>(h6 i).imp λrec h7=>by rw[C0,h3,h7]⟩
 exact key AP s vs H (by rw[DB];exact hm) h0
theorem Ei {G:LK->LK}{σ:Type}(I:σ->List Ab->Aa->Prop)(μ:σ->Nat)(done:σ->Prop)
  (turn:∀(s:σ) (vs:List Ab) (H:Aa),I s vs H->¬done s->∃s' vs' H',μ s'<μ s/\I s' vs' H'/\∀rec:LK,G rec vs H=rec vs' H')
  {s:σ}{vs:List Ab}{H:Aa}(h0:I s vs H)(hm:μ s<1152921504606846976):∃s' vs' H',done s'/\I s' vs' H'/\∃rec,Am G AP vs H=G rec vs' H':=by
 obtain⟨s',vs',H',h1,h2,h3⟩:=LP (G:=λ(_:Unit)=>G) I μ done (λs vs H hI hd=>by obtain⟨s1,vs1,H1,h1,h2,h3⟩:=turn s vs H hI hd;exact⟨s1,vs1,H1,h1,h2,λ_=>h3⟩) h0 hm;exact⟨s',vs',H',h1,h2,h3 ()⟩
theorem Va3 {b c:UInt8}{l:zAa}:(c::l).takeWhile (· == b)=if c=b then c::l.takeWhile (· == b)else []:=by
 rw[Xq];by_cases h:c=b
 ·simp[h]
 ·simp[h]
theorem VlU {b c:UInt8}{l:zAa}:(c::l).dropWhile (· == b)=if c=b then l.dropWhile (· == b)else c::l:=by
 rw[List.dropWhile_cons];by_cases h:c=b
 ·simp[h]
 ·simp[h]
theorem Vnc {b:UInt8}:∀ {l:zAa} {i:Nat},i<(l.takeWhile (· == b)).length->l[i]? = some b
 |[],i,h=>by simp at h
 |c::l,i,h=>by
  rw[Va3]at h;by_cases hc:c=b
  ·rw[if_pos hc]at h;cases i with
   |zero=>simp[hc]
   |succ i=>simp only[zXj]at h;rw[List.getElem?_cons_succ];exact Vnc (by omega)
  ·rw[if_neg hc]at h;simp at h
theorem Vj8 {b:UInt8}:∀(l:zAa),l[(l.takeWhile (· == b)).length]? ≠ some b
 |[]=>by simp
 |c::l=>by
  rw[Va3];by_cases hc:c=b
  ·rw[if_pos hc,zXj,List.getElem?_cons_succ];exact Vj8 l
  ·rw[if_neg hc];intro h;simp at h;exact hc h
theorem Vky {b:UInt8}(l:zAa):(l.takeWhile (· == b)).length<=l.length:=(WR _).length_le
theorem Vg6 {b:UInt8}:∀(l:zAa),l.dropWhile (· == b)=l.drop (l.takeWhile (· == b)).length
 |[]=>rfl
 |c::l=>by
  rw[Va3,VlU];by_cases hc:c=b
  ·rw[if_pos hc,if_pos hc,zXj,Xs];exact Vg6 l
  ·rw[if_neg hc,if_neg hc];rfl
theorem Kp.get {b p:Nat}{H H':Aa}{cs:List Ab}(h:Kp b H H')(hp:H[p]? = some (.cel 0 cs)):H'[p]? = some (.cel 0 cs):=h.cel p cs hp
section
variable {p g:Nat}{f:Ab}{self:Ab->Ab->Ab->Ab->Ab->Aa->Out}
theorem O6 {i j:Nat}(hi:i<1000000000)(hj:j<1000000000):AC .u64 (.i6 ((i:Int)+(j:Int)))=some (.int .u64 ((i+j:Nat):Int))/\IntKind.i64.wrap ((i:Int)+(j:Int))=(i:Int)+(j:Int) /\
  Af .none .shr (.int .u64 ((i+j:Nat):Int)) (.int .u64 1)=some (.int .u64 (((i+j) / 2:Nat):Int))/\AC .i64 (.int .u64 (((i+j) / 2:Nat):Int))=some (.i6 (((i+j) / 2:Nat):Int)):=by
 refine⟨?_,by rw[An] <;> omega,?_,?_⟩
 ·rw[Bo];have:IntKind.u64.wrap ((i:Int)+(j:Int))=((i+j:Nat):Int):=by rw[show (i:Int)+(j:Int)=((i+j:Nat):Int)by omega];exact Ch (by omega) (by omega)
  rw[this]
 ·have hs:Af .none .shr (.int .u64 ((i+j:Nat):Int)) (.int .u64 1)=some (.int .u64 (Int.fdiv ((i+j:Nat):Int) (2^(min (1:Int).toNat IntKind.u64.bits)))):=rfl;rw[hs,show (2:Int)^(min (1:Int).toNat IntKind.u64.bits)=2 from by decide,Xp _ (by omega)]
  congr 2
 ·rw[Bo,R5 (by omega)]
theorem Vnf {l:List Cl}{i a:Nat}{H0 H:Aa}(h:CX H p g l)(hi:i<=l.length)(ha:a<i)(hl:l.length<1000000000) :
  Am (λaA vs H1=>Uaz H0 aA (ag vs 0) (ag vs 1) (ag vs 2) H1) AP [dV p g l.length,.i6 (i:Int),.i6 (a:Int)] H=some (.ret (.tup []),BJ H p g (upR a (i-1-a) l)):=by
 have hlen:∀k,(upR a k l).length=l.length:=λk=>by
  induction k with
  |zero=>rfl
  |succ k ih=>unfold upR;rw[MH,ih]
 have key:=CA (G:=λaA vs H1=>Uaz H0 aA (ag vs 0) (ag vs 1) (ag vs 2) H1) (i-1-a)
  (λk=>[dV p g l.length,.i6 (i:Int),.i6 ((a+k:Nat):Int)]) (λk=>BJ H p g (upR a k l)) (some (.ret (.tup []),BJ H p g (upR a (i-1-a) l))) (by omega) (λrec k hk=>?_) (λrec=>?_)
 ·rw[show upR a 0 l=l from rfl,CE h]at key;exact key
 ·unfold Uaz;have hr:CX (BJ H p g (upR a k l)) p g (upR a k l):=De h;have bB:=hlen k;have hw:IntKind.i64.wrap ((i:Int)-1)=((i-1:Nat):Int):=by rw[An] <;> omega
  have hd:decide (((a+k:Nat):Int)<((i-1:Nat):Int))=true:=zXc (by omega);have gF:=Av (show a+k<9223372036854775807 by omega);have i1:a+k<(upR a k l).length:=by omega
  have i2:a+k+1<(upR a k l).length:=by omega
  obtain⟨s1,s2⟩:=RT hr i1 i2;rw[B4]at s1 s2;rw[B4]at s2;simp only[Al,Aj,AZ,Bd,GMw,hw,hd,gF,BT (show a+k<l.length by omega),BT (show a+k+1<l.length by omega),C3 hr i1,C3 hr i2,Bm,s1,s2,B5,AJ]
  rfl
 ·unfold Uaz;have hw:IntKind.i64.wrap ((i:Int)-1)=((i-1:Nat):Int):=by rw[An] <;> omega
  have hd:decide (((a+(i-1-a):Nat):Int)<((i-1:Nat):Int))=false:=zXd (by omega);simp only[Al,Aj,AZ,Bd,GMw,hw,hd]
theorem Vnl {l:List Cl}{i m:Nat}{H0 H:Aa}(h:CX H p g l)(hi:i<=m)(hm:m<l.length)(hl:l.length<1000000000) :
  Am (λbJ vs H1=>Ua1 H0 bJ (ag vs 0) (ag vs 1) (ag vs 2) H1) AP [dV p g l.length,.i6 (i:Int),.i6 (m:Int)] H=some (.ret (.tup []),BJ H p g (dnR m (m-i) l)):=by
 have hlen:∀k,(dnR m k l).length=l.length:=λk=>by
  induction k with
  |zero=>rfl
  |succ k ih=>unfold dnR;rw[MH,ih]
 have key:=CA (G:=λbJ vs H1=>Ua1 H0 bJ (ag vs 0) (ag vs 1) (ag vs 2) H1) (m-i)
  (λk=>[dV p g l.length,.i6 (i:Int),.i6 ((m:Int)-(k:Int))]) (λk=>BJ H p g (dnR m k l)) (some (.ret (.tup []),BJ H p g (dnR m (m-i) l))) (by omega) (λrec k hk=>?_) (λrec=>?_)
 ·rw[show dnR m 0 l=l from rfl,CE h,show (m:Int)-((0:Nat):Int)=(m:Int)by omega]at key;exact key
 ·unfold Ua1;have hr:CX (BJ H p g (dnR m k l)) p g (dnR m k l):=De h;have bB:=hlen k;have e:(m:Int)-(k:Int)=((m-k:Nat):Int):=by omega
  have e2:(m:Int)-((k+1:Nat):Int)=((m-k-1:Nat):Int):=by omega
  have hd:decide (((m-k:Nat):Int)>(i:Int))=true:=zXc (by omega);have gF:IntKind.i64.wrap (((m-k:Nat):Int)-1)=((m-k-1:Nat):Int):=by rw[An] <;> omega
  have i1:m-k<(dnR m k l).length:=by omega
  have i2:m-k-1<(dnR m k l).length:=by omega
  obtain⟨s1,s2⟩:=RT hr i1 i2;rw[B4]at s1 s2;rw[B4]at s2;simp only[Al,Aj,AZ,Bd,GMw,e,e2,hd,gF,BT (show m-k<l.length by omega),BT (show m-k-1<l.length by omega),C3 hr i1,C3 hr i2,Bm,s1,s2,B5,AJ]
  rfl
 ·unfold Ua1;have e:(m:Int)-((m-i:Nat):Int)=(i:Int):=by omega
  have hd:decide ((i:Int)>(i:Int))=false:=zXd (by omega);simp only[Al,Aj,AZ,Bd,GMw,e,hd]

end
section
variable {p g:Nat}{f:Ab}{self:Ab->Ab->Ab->Ab->Ab->Aa->Out}{l0:List Cl}
abbrev TY (f:Ab)(l0:List Cl):Prop:=∀self,Tz (Be self) f l0
theorem Vni (hf:TY f l0){l:List Cl}{a m b:Nat}{H0 H:Aa}(h:CX H p g l)(hm:∀c∈l,c∈l0)(ha:a<l.length)(uQ:m<=b)(hb:b<=l.length)(hl:l.length<1000000000)
  (mono:∀c d,m<=c->c<=d->d<b->Iv ltC l d a=true->Iv ltC l c a=true) :
  ∃s,BsI (λc=>Iv ltC l c a) m b s s/\Am (λrec1 vs H1=>Ua0 H0 self rec1 (ag vs 0) (ag vs 1) (ag vs 2) (ag vs 3) (ag vs 4) H1) AP [dV p g l.length,.i6 (a:Int),f,.i6 (m:Int),.i6 (b:Int)] H =
   Am (λaA vs H1=>Uaz H0 aA (ag vs 0) (ag vs 1) (ag vs 2) H1) AP [dV p g l.length,.i6 (s:Int),.i6 (a:Int)] H:=by
 have key:=Ei (G:=λrec1 vs H1=>Ua0 H0 self rec1 (ag vs 0) (ag vs 1) (ag vs 2) (ag vs 3) (ag vs 4) H1) (σ:=Nat×Nat)
  (λs vs H1=>BsI (λc=>Iv ltC l c a) m b s.1 s.2/\vs=[dV p g l.length,.i6 (a:Int),f,.i6 (s.1:Int),.i6 (s.2:Int)]/\H1=H) (λs=>s.2-s.1) (λs=>¬s.1<s.2) (λs vs H1 hI hd=>?_)
  (s:=(m,b)) (vs:=[dV p g l.length,.i6 (a:Int),f,.i6 (m:Int),.i6 (b:Int)]) (H:=H) ⟨.start uQ,rfl,rfl⟩ (by dsimp only;omega)
 ·obtain⟨⟨i,j⟩,vs,H1,hd,⟨hI,rfl,rfl⟩,rec,aB⟩:=key;dsimp only at hI hd aB;obtain⟨q1,q2,q3⟩:=hI.le;have e:j=i:=by omega
  subst e;refine⟨j,hI,?_⟩;rw[aB];have bU:decide ((j:Int)<(j:Int))=false:=zXd (by omega)
  conv=>lhs;unfold Ua0
  simp only[Al,Aj,AZ,Bd,Bx,BI,GMw,bU]
 ·obtain⟨i,j⟩:=s;obtain⟨hI,rfl,rfl⟩:=hI;dsimp only at hI hd ⊢;obtain⟨q1,q2,q3⟩:=hI.le;have hij:i<j:=by omega
  obtain⟨k,hk⟩:∃k,k=(i+j) / 2:=⟨_,rfl⟩;obtain⟨w1,w2,w3,w4⟩:=O6 (i:=i) (j:=j) (by omega) (by omega);rw[<-hk]at w3 w4;have cR:k<l.length:=by omega
  have c1:=hf self l[k] (hm _ (Vz cR)) l[a] (hm _ (Vz ha));have bU:decide ((i:Int)<(j:Int))=true:=zXc (by omega);have gF:=Av (show k<9223372036854775807 by omega);have hlt:Iv ltC l k a=ltC l[k] l[a]:=Rq cR ha;cases hc:ltC l[k] l[a]with
  |true=>refine⟨(k+1,j),_,_,by dsimp only;omega,⟨hI.yes mono (by omega) (by omega) (by rw[hlt,hc]),rfl,rfl⟩,λrec=>?_⟩;unfold Ua0;simp only[Al,Aj,AZ,Bd,Bx,BI,GMw,bU,w1,w2,w3,w4,BT cR,BT ha,C3 h cR,C3 h ha,Bm,c1,B5,Ku,hc,gF]
  |false=>refine⟨(i,k),_,_,by dsimp only;omega,⟨hI.no mono (by omega) (by omega) (by rw[hlt,hc]),rfl,rfl⟩,λrec=>?_⟩;unfold Ua0;simp only[Al,Aj,AZ,Bd,Bx,BI,GMw,bU,w1,w2,w3,w4,BT cR,BT ha,C3 h cR,C3 h ha,Bm,c1,B5,Ku,hc]
theorem Vnh (hf:TY f l0){l:List Cl}{a m:Nat}{H0 H:Aa}(h:CX H p g l)(hm:∀c∈l,c∈l0)(Ze:a<=m)(hml:m<l.length)(hl:l.length<1000000000)
  (mono:∀c d,a<=c->c<=d->d<m->(!Iv ltC l m d)=true->(!Iv ltC l m c)=true) :
  ∃s,BsI (λc=>!Iv ltC l m c) a m s s/\Am (λdR vs H1=>Ua2 H0 self dR (ag vs 0) (ag vs 1) (ag vs 2) (ag vs 3) (ag vs 4) H1) AP [dV p g l.length,.i6 (m:Int),f,.i6 (a:Int),.i6 (m:Int)] H =
   Am (λbJ vs H1=>Ua1 H0 bJ (ag vs 0) (ag vs 1) (ag vs 2) H1) AP [dV p g l.length,.i6 (s:Int),.i6 (m:Int)] H:=by
 have key:=Ei (G:=λdR vs H1=>Ua2 H0 self dR (ag vs 0) (ag vs 1) (ag vs 2) (ag vs 3) (ag vs 4) H1) (σ:=Nat×Nat)
  (λs vs H1=>BsI (λc=>!Iv ltC l m c) a m s.1 s.2/\vs=[dV p g l.length,.i6 (m:Int),f,.i6 (s.1:Int),.i6 (s.2:Int)]/\H1=H) (λs=>s.2-s.1) (λs=>¬s.1<s.2) (λs vs H1 hI hd=>?_)
  (s:=(a,m)) (vs:=[dV p g l.length,.i6 (m:Int),f,.i6 (a:Int),.i6 (m:Int)]) (H:=H) ⟨.start Ze,rfl,rfl⟩ (by dsimp only;omega)
 ·obtain⟨⟨i,j⟩,vs,H1,hd,⟨hI,rfl,rfl⟩,rec,aB⟩:=key;dsimp only at hI hd aB;obtain⟨q1,q2,q3⟩:=hI.le;have e:j=i:=by omega
  subst e;refine⟨j,hI,?_⟩;rw[aB];have bU:decide ((j:Int)<(j:Int))=false:=zXd (by omega)
  conv=>lhs;unfold Ua2
  simp only[Al,Aj,AZ,Bd,Bx,BI,GMw,bU]
 ·obtain⟨i,j⟩:=s;obtain⟨hI,rfl,rfl⟩:=hI;dsimp only at hI hd ⊢;obtain⟨q1,q2,q3⟩:=hI.le;have hij:i<j:=by omega
  obtain⟨k,hk⟩:∃k,k=(i+j) / 2:=⟨_,rfl⟩;obtain⟨w1,w2,w3,w4⟩:=O6 (i:=i) (j:=j) (by omega) (by omega);rw[<-hk]at w3 w4;have cR:k<l.length:=by omega
  have c1:=hf self l[m] (hm _ (Vz hml)) l[k] (hm _ (Vz cR));have bU:decide ((i:Int)<(j:Int))=true:=zXc (by omega);have gF:=Av (show k<9223372036854775807 by omega);have hlt:Iv ltC l m k=ltC l[m] l[k]:=Rq hml cR;cases hc:ltC l[m] l[k]with
  |false=>refine⟨(k+1,j),_,_,by dsimp only;omega,⟨hI.yes mono (by omega) (by omega) (by rw[hlt,hc];rfl),rfl,rfl⟩,λrec=>?_⟩;unfold Ua2;simp only[Al,Aj,AZ,Bd,Bx,BI,GMw,bU,w1,w2,w3,w4,BT cR,BT hml,C3 h cR,C3 h hml,Bm,c1,B5,Ku,hc,gF]
  |true=>refine⟨(i,k),_,_,by dsimp only;omega,⟨hI.no mono (by omega) (by omega) (by rw[hlt,hc];rfl),rfl,rfl⟩,λrec=>?_⟩;unfold Ua2;simp only[Al,Aj,AZ,Bd,Bx,BI,GMw,bU,w1,w2,w3,w4,BT cR,BT hml,C3 h cR,C3 h hml,Bm,c1,B5,Ku,hc]
def Vhk (p g:Nat)(f:Ab)(l0:List Cl)(self:Ab->Ab->Ab->Ab->Ab->Aa->Out)(n:Nat):Prop:=
 ∀(A U V B:List Cl) (H:Aa),U.length+V.length=n->CX H p g (A++(U++(V++B)))->0<U.length->0<V.length->Ev ltC U->Ev ltC V->(∀c∈A++(U++(V++B)),c∈l0)->(A++(U++(V++B))).length<1000000000 ->
  ∃W,Srt ltC (U++V) W/\self (dV p g (A++(U++(V++B))).length) (.i6 (A.length:Int)) (.i6 ((A.length+U.length:Nat):Int)) (.i6 ((A.length+U.length+V.length:Nat):Int)) f H=some (.ret (.tup []),BJ H p g (A++(W++B)))
theorem Rl {U V:List Cl}(hU:Ev ltC U)(hV:Ev ltC V)(h:U=[]\/V=[]):Srt ltC (U++V) (U++V):=by
 refine⟨?_,.refl _,rfl⟩;rcases h with rfl | rfl
 ·exact hV
 ·rw[VF];exact hU
theorem Vnj {H0 H:Aa}{A U V B:List Cl}{n:Nat}(hs:∀n',n'<n->Vhk p g f l0 self n')(hn:U.length+V.length<n)(h:CX H p g (A++(U++(V++B))))(hU:Ev ltC U)(hV:Ev ltC V)(hm:∀c∈A++(U++(V++B)),c∈l0)(hl:(A++(U++(V++B))).length<1000000000) :
  ∃W,Srt ltC (U++V) W/\Ucd H0 self (dV p g (A++(U++(V++B))).length) (.i6 ((A.length+U.length+V.length:Nat):Int)) f (.i6 (A.length:Int)) (.i6 ((A.length+U.length:Nat):Int)) H=some (.ret (.tup []),BJ H p g (A++(W++B))):=by
 unfold Ucd;by_cases h1:0<U.length
 ·have d1:decide ((A.length:Int)<((A.length+U.length:Nat):Int))=true:=zXc (by omega);by_cases h2:0<V.length
  ·have d2:decide (((A.length+U.length:Nat):Int)<((A.length+U.length+V.length:Nat):Int))=true:=zXc (by omega);obtain⟨W,w1,w2⟩:=hs _ hn A U V B H rfl h h1 h2 hU hV hm hl;refine⟨W,w1,?_⟩;simp only[GMw,d1,d2,w2]
  ·have d2:decide (((A.length+U.length:Nat):Int)<((A.length+U.length+V.length:Nat):Int))=false:=zXd (by omega);have hv:V=[]:=V6 (by omega);refine⟨U++V,Rl hU hV (.inr hv),?_⟩;simp only[GMw,d1,d2];rw[Vu,CE h]
 ·have d1:decide ((A.length:Int)<((A.length+U.length:Nat):Int))=false:=zXd (by omega);have hu:U=[]:=V6 (by omega);refine⟨U++V,Rl hU hV (.inl hu),?_⟩;simp only[GMw,d1];rw[Vu,CE h]
theorem Vnk {H0 H:Aa}{A U V U2 V2 B:List Cl}{n:Nat}(hs:∀n',n'<n->Vhk p g f l0 self n')(hn:U.length+V.length<n)(hn2:U2.length+V2.length<n)(h:CX H p g (A++(U++(V++(U2++(V2++B))))))(hU:Ev ltC U)(hV:Ev ltC V)(hU2:Ev ltC U2)(hV2:Ev ltC V2)
  (hm:∀c∈A++(U++(V++(U2++(V2++B)))),c∈l0)(hl:(A++(U++(V++(U2++(V2++B))))).length<1000000000) :
  ∃W W2,Srt ltC (U++V) W/\Srt ltC (U2++V2) W2/\Uce H0 self (dV p g (A++(U++(V++(U2++(V2++B))))).length) (.i6 (A.length:Int)) (.i6 ((A.length+U.length+V.length+U2.length+V2.length:Nat):Int)) f (.i6 ((A.length+U.length+V.length:Nat):Int)) (.i6 ((A.length+U.length:Nat):Int)) (.i6 ((A.length+U.length+V.length+U2.length:Nat):Int)) H =
   some (.ret (.tup []),BJ H p g (A++(W++(W2++B)))):=by
 have second:∀(W:List Cl) (G:Aa),Srt ltC (U++V) W->G=BJ H p g (A++(W++(U2++(V2++B))))->∃W2,Srt ltC (U2++V2) W2/\Ucd H0 self (dV p g (A++(U++(V++(U2++(V2++B))))).length) (.i6 ((A.length+U.length+V.length+U2.length+V2.length:Nat):Int)) f (.i6 ((A.length+U.length+V.length:Nat):Int)) (.i6 ((A.length+U.length+V.length+U2.length:Nat):Int)) G =
   some (.ret (.tup []),BJ H p g (A++(W++(W2++B)))):=λW G hW hG=>by
  have hWl:=hW.len;rw[Vs]at hWl;have e1:A++(W++(U2++(V2++B)))=(A++W)++(U2++(V2++B)):=by rw[Vu]
  have hlen:((A++W)++(U2++(V2++B))).length=(A++(U++(V++(U2++(V2++B))))).length:=by simp only[Vs];omega
  have hAW:(A++W).length=A.length+U.length+V.length:=by rw[Vs];omega
  have hr:CX G p g ((A++W)++(U2++(V2++B))):=by rw[hG,e1];exact De h
  obtain⟨W2,w1,w2⟩:=Vnj (H0:=H0) hs hn2 hr hU2 hV2 (λc hc=>hm c (by
   rw[<-e1]at hc;simp only[VA]at hc ⊢;rcases hc with hc | hc | hc | hc | hc
   ·exact .inl hc
   ·have:=(hW.st.mem JQ).2 hc;rcases VA.1 this with q | q
    ·exact .inr (.inl q)
    ·exact .inr (.inr (.inl q))
   ·exact .inr (.inr (.inr (.inl hc)))
   ·exact .inr (.inr (.inr (.inr (.inl hc))))
   ·exact .inr (.inr (.inr (.inr (.inr hc)))))) (by rw[hlen];exact hl)
  refine⟨W2,w1,?_⟩;rw[hlen,hAW]at w2;rw[w2,hG,B4,Vu]
 have d:∀t:Bool,True:=λ_=>trivial;unfold Uce;by_cases h1:0<U.length
 ·have d1:decide ((A.length:Int)<((A.length+U.length:Nat):Int))=true:=zXc (by omega);by_cases h2:0<V.length
  ·have d2:decide (((A.length+U.length:Nat):Int)<((A.length+U.length+V.length:Nat):Int))=true:=zXc (by omega);obtain⟨W,w1,w2⟩:=hs _ hn A U V (U2++(V2++B)) H rfl h h1 h2 hU hV hm hl;obtain⟨W2,w3,w4⟩:=second W _ w1 rfl;refine⟨W,W2,w1,w3,?_⟩;simp only[Al,Aj,AZ,Bd,Bx,BI,GMw,d1,d2,w2];exact w4
  ·have d2:decide (((A.length+U.length:Nat):Int)<((A.length+U.length+V.length:Nat):Int))=false:=zXd (by omega);have hv:V=[]:=V6 (by omega);have w1:=Rl hU hV (.inr hv);obtain⟨W2,w3,w4⟩:=second (U++V) H w1 (by rw[Vu,CE h]);refine⟨_,W2,w1,w3,?_⟩;simp only[Al,Aj,AZ,Bd,Bx,BI,GMw,d1,d2];exact w4
 ·have d1:decide ((A.length:Int)<((A.length+U.length:Nat):Int))=false:=zXd (by omega);have hu:U=[]:=V6 (by omega);have w1:=Rl hU hV (.inl hu);obtain⟨W2,w3,w4⟩:=second (U++V) H w1 (by rw[Vu,CE h]);refine⟨_,W2,w1,w3,?_⟩;simp only[Al,Aj,AZ,Bd,Bx,BI,GMw,d1];exact w4

end
section
variable {p g:Nat}{f:Ab}{l0:List Cl}{A B:List Cl}
theorem Vng {self:Ab->Ab->Ab->Ab->Ab->Aa->Out}(hf:TY f l0){l:List Cl}{a m b mid n s0 r0 P:Nat}{H0 H:Aa}(h:CX H p g l)(hm:∀c∈l,c∈l0)(tQ:s0<=r0)(hr:r0<=l.length)(hP:∀c,s0<=c->c<r0->P-c<l.length/\c<=P)(hPl:P<2000000000)(hl:l.length<1000000000)
  (mono:∀c d,s0<=c->c<=d->d<r0->RF ltC l P d=true->RF ltC l P c=true) :
  ∃s,BsI (RF ltC l P) s0 r0 s s/\∃rec,Am (λmO vs H1=>Ue2 H0 self mO (ag vs 0) (ag vs 1) (ag vs 2) (ag vs 3) (ag vs 4) (ag vs 5) (ag vs 6) (ag vs 7) (ag vs 8) (ag vs 9) H1) AP
    [dV p g l.length,.i6 (a:Int),.i6 (m:Int),.i6 (b:Int),f,.i6 (mid:Int),.i6 (n:Int),.i6 (s0:Int),.i6 (r0:Int),.i6 (P:Int)] H =
   Ue2 H0 self rec (dV p g l.length) (.i6 (a:Int)) (.i6 (m:Int)) (.i6 (b:Int)) f (.i6 (mid:Int)) (.i6 (n:Int)) (.i6 (s:Int)) (.i6 (s:Int)) (.i6 (P:Int)) H:=by
 have key:=Ei (G:=λmO vs H1=>Ue2 H0 self mO (ag vs 0) (ag vs 1) (ag vs 2) (ag vs 3) (ag vs 4) (ag vs 5) (ag vs 6) (ag vs 7) (ag vs 8) (ag vs 9) H1) (σ:=Nat×Nat)
  (λs vs H1=>BsI (RF ltC l P) s0 r0 s.1 s.2/\vs=[dV p g l.length,.i6 (a:Int),.i6 (m:Int),.i6 (b:Int),f,.i6 (mid:Int),.i6 (n:Int),.i6 (s.1:Int),.i6 (s.2:Int),.i6 (P:Int)]/\H1=H) (λs=>s.2-s.1) (λs=>¬s.1<s.2) (λs vs H1 hI hd=>?_)
  (s:=(s0,r0)) (vs:=[dV p g l.length,.i6 (a:Int),.i6 (m:Int),.i6 (b:Int),f,.i6 (mid:Int),.i6 (n:Int),.i6 (s0:Int),.i6 (r0:Int),.i6 (P:Int)]) (H:=H) ⟨.start tQ,rfl,rfl⟩ (by dsimp only;omega)
 ·obtain⟨⟨i,j⟩,vs,H1,hd,⟨hI,rfl,rfl⟩,rec,aB⟩:=key;dsimp only at hI hd aB;obtain⟨q1,q2,q3⟩:=hI.le;have e:j=i:=by omega
  subst e;exact⟨j,hI,rec,aB⟩
 ·obtain⟨i,j⟩:=s;obtain⟨hI,rfl,rfl⟩:=hI;dsimp only at hI hd ⊢;obtain⟨q1,q2,q3⟩:=hI.le;have hij:i<j:=by omega
  obtain⟨k,hk⟩:∃k,k=(i+j) / 2:=⟨_,rfl⟩;obtain⟨w1,w2,w3,w4⟩:=O6 (i:=i) (j:=j) (by omega) (by omega);rw[<-hk]at w3 w4;have cR:k<l.length:=by omega
  obtain⟨hPk,Zo⟩:=hP k (by omega) (by omega);have c1:=hf self l[P-k] (hm _ (Vz hPk)) l[k] (hm _ (Vz cR));have bU:decide ((i:Int)<(j:Int))=true:=zXc (by omega);have gF:=Av (show k<9223372036854775807 by omega);have sD:IntKind.i64.wrap ((P:Int)-(k:Int))=((P-k:Nat):Int):=by rw[An] <;> omega
  have hlt:Iv ltC l (P-k) k=ltC l[P-k] l[k]:=Rq hPk cR;have hp:RF ltC l P k = !ltC l[P-k] l[k]:=by unfold RF;rw[hlt]
  cases hc:ltC l[P-k] l[k]with
  |false=>refine⟨(k+1,j),_,_,by dsimp only;omega,⟨hI.yes mono (by omega) (by omega) (by rw[hp,hc];rfl),rfl,rfl⟩,λrec=>?_⟩;unfold Ue2;simp only[Al,Aj,AZ,Bd,Bx,BI,GMw,bU,w1,w2,w3,w4,sD,BT cR,BT hPk,C3 h cR,C3 h hPk,Bm,c1,B5,Ku,hc,gF]
  |true=>refine⟨(i,k),_,_,by dsimp only;omega,⟨hI.no mono (by omega) (by omega) (by rw[hp,hc];rfl),rfl,rfl⟩,λrec=>?_⟩;unfold Ue2;simp only[Al,Aj,AZ,Bd,Bx,BI,GMw,bU,w1,w2,w3,w4,sD,BT cR,BT hPk,C3 h cR,C3 h hPk,Bm,c1,B5,Ku,hc]
theorem Vhw (hf:TY f l0){d n:Nat}(hs:∀n',n'<n->Vhk p g f l0 (UaC d) n'):Vhk p g f l0 (UaC (d+1)) n:=by
 intro A U V B H hn h hUp hVp hU hV hm hl;obtain⟨l,hL⟩:∃l,l=A++(U++(V++B)):=⟨_,rfl⟩;have hlen:l.length=A.length+(U.length+(V.length+B.length)):=by rw[hL];simp only[Vs]
 have eO:l.length<1000000000:=by rw[hL];exact hl
 show ∃W,_/\Ud9 (UaC d) _ _ _ _ _ H=_;unfold Ud9;have cD:IntKind.i64.wrap (((A.length+U.length:Nat):Int)-(A.length:Int))=(U.length:Int):=by rw[An] <;> omega
 by_cases h1:U.length=1
 ·obtain⟨x,rfl⟩:=Xj.1 h1;have rL:((([x]:List Cl).length:Int) == 1)=true:=by simp
  have dE:l[A.length]? = some x:=by rw[hL];simp
  have dU:∀c,A.length+1<=c->c<A.length+1+V.length->∃hc:c-(A.length+1)<V.length,Iv ltC l c A.length=ltC V[c-(A.length+1)] x:=λc h3 h4=>by
   have hc:c-(A.length+1)<V.length:=by omega
   refine⟨hc,?_⟩;have e:l[c]? = some V[c-(A.length+1)]:=by rw[hL,VpB rfl rfl (by simpa using h3) (by simpa using h4)];rfl
   unfold Iv;rw[dE,e]
  obtain⟨s,b1,b2⟩:=Vni (self:=UaC d) (H0:=H) (a:=A.length) (m:=A.length+1) (b:=A.length+1+V.length) hf (l:=l) (by rw[hL];exact h) (by rw[hL];exact hm) (by rw[hlen];simp only[zXj,zXk];omega) (by omega) (by rw[hlen];simp only[zXj,zXk];omega) eO (λc d mL eZ mK lH=>by
   obtain⟨e1,e2⟩:=dU c mL (by omega);obtain⟨e3,e4⟩:=dU d (by omega) mK;rw[e2];rw[e4]at lH;cases e:ltC V[c-(A.length+1)] x with
   |true=>rfl
   |false=>have:=Hl hV JQ (i:=c-(A.length+1)) (j:=d-(A.length+1)) (by omega) e3;have:=JQ.neg _ _ _ this e;rw[lH]at this;cases this)
  obtain⟨⟨g1,_,g2⟩,g3,g4⟩:=b1;have aR:=Vnf (H0:=H) (p:=p) (g:=g) (l:=l) (i:=s) (a:=A.length) (H:=H) (by rw[hL];exact h) (by rw[hlen];simp only[zXj,zXk]at *;omega) (by omega) eO;have hres:=Vj7 A B x V (s-1-A.length) (by omega);refine⟨V.take (s-1-A.length)++([x]++V.drop (s-1-A.length)),VnE JQ hV (λy hy=>?_) (λy hy=>?_),?_⟩
  ·obtain⟨i,hi,hi2,rfl⟩:=HP hy;have:=g3 (A.length+1+i) (by omega) (by omega);obtain⟨e1,e2⟩:=dU (A.length+1+i) (by omega) (by omega);rw[e2]at this;have e3:A.length+1+i-(A.length+1)=i:=by omega
   simp only[e3]at this;exact this
  ·obtain⟨i,hi,hi2,rfl⟩:=HQ hy;have:=g4 (A.length+1+i) (by omega) (by omega);obtain⟨e1,e2⟩:=dU (A.length+1+i) (by omega) (by omega);rw[e2]at this;have e3:A.length+1+i-(A.length+1)=i:=by omega
   simp only[e3]at this;exact this
  ·rw[<-hL];simp only[GMw,cD,rL];have eb:A.length+([x]:List Cl).length=A.length+1:=rfl;rw[eb,b2,aR,hL,hres]
 ·have rL:((U.length:Int) == 1)=false:=by simp;omega
  have bZ:IntKind.i64.wrap (((A.length+U.length+V.length:Nat):Int)-((A.length+U.length:Nat):Int))=(V.length:Int):=by rw[An] <;> omega
  by_cases h2:V.length=1
  ·obtain⟨y,rfl⟩:=Xj.1 h2;have bU:((([y]:List Cl).length:Int) == 1)=true:=by simp
   have dE:l[A.length+U.length]? = some y:=by rw[hL,VpB rfl rfl (Vo _) (by simp)];simp
   have dU:∀c,A.length<=c->c<A.length+U.length->∃hc:c-A.length<U.length,Iv ltC l (A.length+U.length) c=ltC y U[c-A.length]:=λc h3 h4=>by
    have hc:c-A.length<U.length:=by omega
    refine⟨hc,?_⟩;have e:l[c]? = some U[c-A.length]:=by rw[hL,VpR rfl h3 h4]
    unfold Iv;rw[dE,e]
   obtain⟨s,b1,b2⟩:=Vnh (self:=UaC d) (H0:=H) (a:=A.length) (m:=A.length+U.length) hf (l:=l) (by rw[hL];exact h) (by rw[hL];exact hm) (by omega) (by rw[hlen];simp only[zXj,zXk];omega) eO (λc d mL eZ mK lH=>by obtain⟨e1,e2⟩:=dU c mL (by omega);obtain⟨e3,e4⟩:=dU d (by omega) mK;rw[e2];rw[e4]at lH;simp only[Wk]at lH ⊢;have:=Hl hU JQ (i:=c-A.length) (j:=d-A.length) (by omega) e3;exact JQ.neg _ _ _ lH this);obtain⟨⟨g1,_,g2⟩,g3,g4⟩:=b1;have iQ:=Vnl (H0:=H) (p:=p) (g:=g) (l:=l) (i:=s) (m:=A.length+U.length) (H:=H) (by rw[hL];exact h) g2 (by rw[hlen];simp only[zXj,zXk];omega) eO;have hres:=Vkj A B y U (A.length+U.length-s) (by omega);have ek:U.length-(A.length+U.length-s)=s-A.length:=by omega
   rw[ek]at hres;refine⟨U.take (s-A.length)++([y]++U.drop (s-A.length)),VnF JQ hU (λx hx=>?_) (λx hx=>?_),?_⟩
   ·obtain⟨i,hi,hi2,rfl⟩:=HP hx;have:=g3 (A.length+i) (by omega) (by omega);obtain⟨e1,e2⟩:=dU (A.length+i) (by omega) (by omega);rw[e2]at this;have e3:A.length+i-A.length=i:=by omega
    simp only[e3,Wk]at this;exact this
   ·obtain⟨i,hi,hi2,rfl⟩:=HQ hx;have:=g4 (A.length+i) (by omega) (by omega);obtain⟨e1,e2⟩:=dU (A.length+i) (by omega) (by omega);rw[e2]at this;have e3:A.length+i-A.length=i:=by omega
    simp only[e3,XG]at this;exact this
   ·rw[<-hL];simp only[GMw,cD,bZ,rL,bU];rw[b2,iQ,hL,hres]
  ·have bU:((V.length:Int) == 1)=false:=by simp;omega
   obtain⟨a,ha⟩:∃a,a=A.length:=⟨_,rfl⟩;obtain⟨m,hmm⟩:∃m,m=A.length+U.length:=⟨_,rfl⟩;obtain⟨b,hb⟩:∃b,b=A.length+U.length+V.length:=⟨_,rfl⟩;obtain⟨mid,iZ⟩:∃mid,mid=(a+b) / 2:=⟨_,rfl⟩;obtain⟨w1,w2,w3,w4⟩:=O6 (i:=a) (j:=b) (by omega) (by omega);rw[<-iZ]at w3 w4;have wR:IntKind.i64.wrap ((mid:Int)+(m:Int))=((mid+m:Nat):Int):=by rw[An] <;> omega
   obtain⟨s0,hs0⟩:∃s0,s0=if mid<m then mid+m-b else a:=⟨_,rfl⟩
   obtain⟨r0,hr0⟩:∃r0,r0=if mid<m then mid else m:=⟨_,rfl⟩
   have tQ:s0<=r0/\r0<=m/\a<=s0/\mid+m<=s0+b/\r0<=mid:=by
    by_cases hc:mid<m
    ·rw[if_pos hc]at hs0 hr0;omega
    ·rw[if_neg hc]at hs0 hr0;omega
   obtain⟨z1,z2,z3,z4,z5⟩:=tQ;obtain⟨s,b1,rec,b2⟩:=Vng (self:=UaC d) (H0:=H) (a:=a) (m:=m) (b:=b) (mid:=mid) (n:=mid+m) (s0:=s0) (r0:=r0) (P:=mid+m-1) hf (l:=l) (H:=H) (by rw[hL];exact h) (by rw[hL];exact hm) z1 (by omega) (λc h3 h4=>by omega) (by omega) (by rw[hL];exact hl)
    (λc e h3 h4 h5 h6=>by rw[hL]at h6 ⊢;exact Vev JQ hU hV ha.symm (show a+U.length=m by omega) (by omega) h4 (by omega) (by omega) (by omega) h6)
   have b1':=b1;rw[hL]at b1';obtain⟨p1,p2,p3,p4,p5,p6,p7⟩:=Ves JQ hU hV ha.symm (show a+U.length=m by omega) (show m+V.length=b by omega) iZ hUp hVp hs0 hr0 b1';have l1:(U.take (s-a)).length=s-a:=by rw[V5];omega
   have l2:(V.take (mid-s)).length=mid-s:=by rw[V5];omega
   have l3:(U.drop (s-a)).length=m-s:=by rw[V9];omega
   have l4:(V.drop (mid-s)).length=b-(mid+m-s):=by rw[V9];omega
   have sU1:Ev ltC (U.take (s-a)):=WA (XK _ _) hU;have sU2:Ev ltC (U.drop (s-a)):=WA (XO _ _) hU;have sV1:Ev ltC (V.take (mid-s)):=WA (XK _ _) hV;have sV2:Ev ltC (V.drop (mid-s)):=WA (XO _ _) hV;have eU:U.take (s-a)++U.drop (s-a)=U:=VW _ _;have eV:V.take (mid-s)++V.drop (mid-s)=V:=VW _ _;have bT:∀c,c∈A++(U.take (s-a)++(V.take (mid-s)++(U.drop (s-a)++(V.drop (mid-s)++B))))->c∈l0:=λc hc=>hm c (by
    simp only[VA]at hc ⊢;rcases hc with q | q | q | q | q | q
    ·exact .inl q
    ·exact .inr (.inl (Wo q))
    ·exact .inr (.inr (.inl (Wo q)))
    ·exact .inr (.inl (WN q))
    ·exact .inr (.inr (.inl (WN q)))
    ·exact .inr (.inr (.inr q)))
   have hlen2:(A++(U.take (s-a)++(V.take (mid-s)++(U.drop (s-a)++(V.drop (mid-s)++B))))).length=l.length:=by rw[hlen];simp only[Vs,l1,l2,l3,l4];omega
   generalize U.take (s-a)=U1 at *;generalize U.drop (s-a)=U2 at *;generalize V.take (mid-s)=V1 at *;generalize V.drop (mid-s)=V2 at *;have rest:∀G,G=BJ H p g (A++(U1++(V1++(U2++(V2++B)))))->∃W W2,Srt ltC (U1++V1) W/\Srt ltC (U2++V2) W2/\Uce H (UaC d) (dV p g l.length) (.i6 (a:Int)) (.i6 (b:Int)) f (.i6 (mid:Int)) (.i6 (s:Int)) (.i6 ((mid+m-s:Nat):Int)) G =
     some (.ret (.tup []),BJ H p g (A++(W++(W2++B)))):=λG hG=>by
    obtain⟨W,W2,k1,k2,k3⟩:=Vnk (H0:=H) (H:=G) (p:=p) (g:=g) (f:=f) (l0:=l0) (A:=A) (U:=U1) (V:=V1) (U2:=U2) (V2:=V2) (B:=B) (n:=n) hs (by omega) (by omega) (by rw[hG];exact De h) sU1 sV1 sU2 sV2 bT (by rw[hlen2,hL];exact hl);refine⟨W,W2,k1,k2,?_⟩;rw[hlen2,<-ha,show a+U1.length=s by omega,show s+V1.length=mid by omega,show mid+U2.length=mid+m-s by omega,show mid+m-s+V2.length=b by omega]at k3;rw[k3,hG,B4]
   have tJ:IntKind.i64.wrap (((mid+m:Nat):Int)-(s:Int))=((mid+m-s:Nat):Int):=by rw[An] <;> omega
   have hds:decide ((s:Int)<(s:Int))=false:=zXd (by omega);have sD:IntKind.i64.wrap (((mid+m:Nat):Int)-1)=((mid+m-1:Nat):Int):=by rw[An] <;> omega
   have after:∃W W2,Srt ltC (U1++V1) W/\Srt ltC (U2++V2) W2/\Ue2 H (UaC d) rec (dV p g l.length) (.i6 (a:Int)) (.i6 (m:Int)) (.i6 (b:Int)) f (.i6 (mid:Int)) (.i6 ((mid+m:Nat):Int)) (.i6 (s:Int)) (.i6 (s:Int)) (.i6 ((mid+m-1:Nat):Int)) H =
     some (.ret (.tup []),BJ H p g (A++(W++(W2++B)))):=by
    by_cases t1:s<m
    ·have c1:decide ((s:Int)<(m:Int))=true:=zXc (by omega);by_cases t2:m<mid+m-s
     ·have c2:decide ((m:Int)<((mid+m-s:Nat):Int))=true:=zXc (by omega);have e1:l=(A++U1)++(U2++(V1++(V2++B))):=by rw[hL,<-eU,<-eV];simp only[Vu]
      have mX:=VeL (p:=p) (g:=g) (f:=f) (a:=s) (b:=mid+m-s) (m:=m) (A:=A++U1) (U:=U2) (V:=V1) (B:=V2++B) (H:=H) (by rw[<-e1,hL];exact h) (by rw[Vs];omega) (by omega) (by omega) (by omega) (by omega) (by rw[<-e1,hL];exact hl);rw[<-e1]at mX;obtain⟨W,W2,k1,k2,k3⟩:=rest _ rfl;refine⟨W,W2,k1,k2,?_⟩;have e2:(A++U1)++((V1++U2)++(V2++B))=A++(U1++(V1++(U2++(V2++B)))):=by simp only[Vu]
      rw[e2]at mX;unfold Ue2;simp only[Al,Aj,AZ,Bd,Bx,BI,D4,GMw,hds,tJ,c1,c2,mX];exact k3
     ·have c2:decide ((m:Int)<((mid+m-s:Nat):Int))=false:=zXd (by omega);have hv1:V1=[]:=V6 (by omega);obtain⟨W,W2,k1,k2,k3⟩:=rest H (by rw[show A++(U1++(V1++(U2++(V2++B))))=A++(U++(V++B))by rw[<-eU,<-eV,hv1];simp only[Vu,List.nil_append],CE h]);refine⟨W,W2,k1,k2,?_⟩;unfold Ue2;simp only[Al,Aj,AZ,Bd,Bx,BI,D4,GMw,hds,tJ,c1,c2];exact k3
    ·have c1:decide ((s:Int)<(m:Int))=false:=zXd (by omega);have tK:U2=[]:=V6 (by omega);obtain⟨W,W2,k1,k2,k3⟩:=rest H (by rw[show A++(U1++(V1++(U2++(V2++B))))=A++(U++(V++B))by rw[<-eU,<-eV,tK];simp only[Vu,List.nil_append,VF],CE h]);refine⟨W,W2,k1,k2,?_⟩;unfold Ue2;simp only[Al,Aj,AZ,Bd,Bx,BI,D4,GMw,hds,tJ,c1];exact k3
   obtain⟨W,W2,k1,k2,k3⟩:=after;have gH:Srt ltC (U++V) (W++W2):=by
    have l5:U.take U1.length=U1/\U.drop U1.length=U2:=by rw[<-eU];exact⟨X0,X2⟩
    have l6:V.take V1.length=V1/\V.drop V1.length=V2:=by rw[<-eV];exact⟨X0,X2⟩
    exact Pn (i:=U1.length) (k:=V1.length) JQ hU hV (by rw[l5.2,l6.1];exact p1) (by rw[l5.1,l6.2];exact p2) (by rw[l5.1,l6.1];exact k1) (by rw[l5.2,l6.2];exact k2)
   refine⟨W++W2,gH,?_⟩;rw[<-hL,<-hb,<-hmm,<-ha];rw[<-hmm,show m+V.length=b by omega]at bZ;rw[<-hmm,<-ha]at cD;have j5:∀x y:Nat,x=s0->y=r0->Ud8 H (UaC d) (dV p g l.length) (.i6 (a:Int)) (.i6 (m:Int)) (.i6 (b:Int)) f (.i6 (mid:Int)) (.i6 ((mid+m:Nat):Int)) (.i6 (x:Int)) (.i6 (y:Int)) H=some (.ret (.tup []),BJ H p g (A++((W++W2)++B))):=λx y hx hy=>by subst hx;subst hy;unfold Ud8;simp only[GMw,sD];rw[b2,k3,Vu]
   by_cases hc:mid<m
   ·have c3:decide ((m:Int)>(mid:Int))=true:=zXc (by omega);have yV:IntKind.i64.wrap (((mid+m:Nat):Int)-(b:Int))=((mid+m-b:Nat):Int):=by rw[if_pos hc]at hs0;rw[An] <;> omega
    simp only[Al,Aj,AZ,Bd,Bx,BI,D4,GMw,cD,bZ,rL,bU,w1,w2,w3,w4,wR,c3,yV];exact j5 _ _ (by rw[hs0,if_pos hc]) (by rw[hr0,if_pos hc])
   ·have c3:decide ((m:Int)>(mid:Int))=false:=zXd (by omega);simp only[Al,Aj,AZ,Bd,Bx,BI,D4,GMw,cD,bZ,rL,bU,w1,w2,w3,w4,wR,c3];exact j5 _ _ (by rw[hs0,if_neg hc]) (by rw[hr0,if_neg hc])
theorem Veu (hf:TY f l0):∀d n,n<d->Vhk p g f l0 (UaC d) n
 |0,n,h=>absurd h (by omega)
 |d+1,n,h=>Vhw hf λn' oI=>Veu hf d n' (by omega)

end
end Go.Gm
