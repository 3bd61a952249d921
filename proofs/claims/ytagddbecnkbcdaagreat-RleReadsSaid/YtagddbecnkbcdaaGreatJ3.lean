/- Texts of this proof, joined. -/
import Derived.Test.YtagddbecnkbcdaaGreatJ1
import Derived.Test.YtagddbecnkbcdaaGreatJ2
import Derived.Lib.Bytealg
import Derived.Shelf.GgClosure.StringsIndexFunc
set_option linter.all false
noncomputable section
namespace Go.Gm
def DC (l:List Bool):List Bool:=(l.reverse.dropWhile λb=>!b).reverse
theorem Vjf:DC []=[]:=rfl
def Qx (l:List Bool):DC (l++[true])=l++[true]:=by simp[DC]
def OC (l:List Bool):DC (l++[false])=DC l:=by simp[DC]
def Hm {α:Type}(l:List α):l=[]\/∃l' a,l=l'++[a]:=by cases h:l.reverse with|nil=>left;simpa using h|cons a r=>right;exact⟨r.reverse,a,by have:=zYg List.reverse h;simpa using this⟩
def DD:Nat->Nat->List Bool
 |0,_=>[]
 |n+1,x=>(x%2==1)::DD n (x / 2)
theorem JK:∀(n x:Nat),(DD n x).length=n
 |0,_=>rfl
 |n+1,x=>by simp[DD,JK n]
def AU (l:zAb):List Bool:=l.flatMap (DD 32)
def CC (l:zAb):(AU l).length=32*l.length:=by
 induction l with
 |nil=>rfl
 |cons a l ih=>simp only[AU,List.flatMap_cons,VR,JK,zXj]at ih⊢;omega
def Bv:List Bool->Nat
 |[]=>0
 |b::l=>(if b then 1 else 0)+2*Bv l
def DK (l m:List Bool):Bv (l++m)=Bv l+2^l.length*Bv m:=by
 induction l with
 |nil=>simp[Bv]
 |cons b l ih=>simp only[List.cons_append,Bv,ih,zXj,Nat.pow_succ];rw[WT,<-WA,WY (2^l.length) 2,Xn]
def KJ (l:List Bool):Bv l<2^l.length:=by
 induction l with
 |nil=>simp[Bv]
 |cons b l ih=>simp only[Bv,zXj,Nat.pow_succ];split<;>omega
def GF (c:List Bool)(q:Nat):Nat:=Bv ((c.drop (32*q)).take 32)
def E7 (c:List Bool)(q:Nat):zAb:=(List.range q).map (GF c)
def KM (c:List Bool)(q:Nat):E7 c (q+1)=E7 c q++[GF c q]:=by simp[E7,XB]
def MK (c:List Bool)(q:Nat):(E7 c q).length=q:=by simp[E7]
def KN (l:List Bool):zAb:=E7 (DC l) (((DC l).length+31) / 32)
def I8 (l:List Bool):(DC l).length<=l.length:=by unfold DC;rw[List.length_reverse];have:=(Ys (p:=λb=>!b) (l:=l.reverse)).length_le;simpa using this
def val:zAb->Nat
 |[]=>0
 |a::l=>a+4294967296*val l
structure Nrm (l:zAb):Prop where
 lt:∀x∈l,x<4294967296
 last:∀x,l.getLast? = some x->x≠0
def C5 (l m:zAb):val (l++m)=val l+4294967296^l.length*val m:=by
 induction l with
 |nil=>simp[val]
 |cons b l ih=>simp only[List.cons_append,val,ih,zXj,Nat.pow_succ];rw[WT,<-WA,WY (4294967296^l.length) 4294967296,Xn]
theorem Nrm.tail {a:Nat}{l:zAb}(h:Nrm (a::l)):Nrm l:=
 ⟨λx hx=>h.lt x (by simp[hx]),λx hx=>h.last x (by cases l with | nil=>simp at hx | cons b l=>simpa[List.getLast?_cons_cons]using hx)⟩
theorem Nrm.zero:∀ {l:zAb},Nrm l->val l=0->l=[]
 |[],_,_=>rfl
 |a::l,h,hv=>by
  exfalso;simp only[val]at hv;have h1:a=0:=by omega
  have h2:l=[]:=h.tail.zero (by omega);subst h2;exact h.last a (by simp) h1
theorem Nrm.inj:∀ {l m:zAb},Nrm l->Nrm m->val l=val m->l=m
 |[],m,_,hm,h=>(hm.zero (by simpa[val]using h.symm)).symm
 |a::l,[],hl,_,h=>hl.zero (by simpa[val]using h)
 |a::l,b::m,hl,hm,h=>by
  have h1:=hl.lt a (by simp);have h2:=hm.lt b (by simp);simp only[val]at h;have e1:a=b:=by omega
  have e2:val l=val m:=by omega
  rw[e1,Nrm.inj hl.tail hm.tail e2]
def Fg (l:zAb)(hx:∀x∈l,x<4294967296):Bv (AU l)=val l:=by
 have key:∀(n x:Nat),Bv (DD n x)=x%2^n:=by
  intro n
  induction n with
  |zero=>intro x;simp[DD,Bv,Nat.mod_one]
  |succ n ih=>
   intro x;simp only[DD,Bv,ih];rw[Nat.pow_succ,WY (2^n) 2,Nat.mod_mul]
   congr 1
   have:x%2<2:=Xw _ (by omega);split;rename_i h;have:=of_decide_eq_true (p:=x%2=1) (by simpa using h);omega;rename_i h;have:¬x%2=1:=(by simpa using h);omega
 induction l with
 |nil=>rfl
 |cons a l ih=>have e:AU (a::l)=DD 32 a++AU l:=rfl;rw[e,DK,key,JK,ih λx h=>hx x (by simp[h])];have:=hx a (by simp);simp only[val];rw[WJ (by omega)]
def EL (l:List Bool):Bv (DC l)=Bv l:=by
 suffices h:∀r:List Bool,Bv (DC r.reverse)=Bv r.reverse by have:=h l.reverse;simpa using this
 intro r
 induction r with
 |nil=>rfl
 |cons b r ih=>rw[Yj];cases b with|true=>rw[Qx]|false=>rw[OC,ih,DK];simp[Bv]
def VfJ (c:List Bool)(q:Nat):GF c q<4294967296:=by
 have h:=KJ ((c.drop (32*q)).take 32);have h2:((c.drop (32*q)).take 32).length<=32:=by simp;omega
 have:2^((c.drop (32*q)).take 32).length<=2^32:=Wn (by omega) h2;unfold GF;omega
def QF (c:List Bool):∀q,val (E7 c q)=Bv (c.take (32*q))
 |0=>by simp[E7,val,Bv]
 |q+1=>by
  rw[KM,C5,QF c q,MK];have e:c.take (32*(q+1))=c.take (32*q)++(c.drop (32*q)).take 32:=by rw[WT,List.take_add]
  rw[e,DK];by_cases h:32*q<=c.length;have:(c.take (32*q)).length=32*q:=(by simp;omega);rw[this,show(4294967296:Nat)=2^32 from rfl,<-Yh];simp[val,GF];have:c.drop (32*q)=[]:=XO (by omega);simp[val,GF,this,Bv]
def VcJ (l:List Bool):DC l=[]\/∃m,DC l=m++[true]:=by
 suffices h:∀r:List Bool,DC r.reverse=[]\/∃m,DC r.reverse=m++[true]by have:=h l.reverse;simpa using this
 intro r
 induction r with
 |nil=>exact .inl rfl
 |cons b r ih=>rw[Yj];cases b with|true=>rw[Qx];exact .inr ⟨_,rfl⟩|false=>rw[OC];exact ih
def QG (l:List Bool):val (KN l)=Bv l:=by unfold KN;rw[QF,VW (by omega),EL]
def QL (l:List Bool):Nrm (KN l):=by unfold KN;refine⟨λx hx=>?_,λx hx=>?_⟩;simp only[E7,WZ]at hx;obtain⟨q,_,rfl⟩:=hx;exact VfJ _ _;rcases VcJ l with h | ⟨m,h⟩;rw[h]at hx;simp[E7]at hx;obtain⟨Q,hQ⟩:∃Q,((DC l).length+31) / 32=Q+1:=⟨((DC l).length+31) / 32-1,by rw[h];simp;omega⟩;have hlen:(DC l).length=m.length+1:=(by rw[h];simp);rw[hQ,KM]at hx;simp at hx;subst hx;unfold GF;rw[VW (by simp;omega),h,XS (by omega),DK];have:0<2^(m.drop (32*Q)).length:=Nat.two_pow_pos _;simp[Bv]
def A8 (n:Nat):zAb:=KN (DD n n)
theorem Qg (n:Nat):n<2^n:=Nat.lt_two_pow_self
def VaU (n x:Nat):Bv (DD n x)=x%2^n:=by
 induction n generalizing x with
 |zero=>simp[DD,Bv,Nat.mod_one]
 |succ n ih=>
  simp only[DD,Bv,ih];rw[Nat.pow_succ,WY (2^n) 2,Nat.mod_mul]
  congr 1
  split;rename_i h;have:=of_decide_eq_true (p:=x%2=1) (by simpa using h);omega;rename_i h;have:¬x%2=1:=(by simpa using h);omega
def B6 (n:Nat):val (A8 n)=n:=by unfold A8;rw[QG,VaU,WJ (Qg n)]
theorem Kc (n:Nat):Nrm (A8 n):=QL _
theorem MI {l:zAb}(h:Nrm l):l=A8 (val l):=h.inj (Kc _) (B6 _).symm
def Vd6 (l:List Bool):KN l=A8 (Bv l):=by rw[MI (QL l),QG]
theorem VkY {v w:Nat}(h:v<=w):2^v<=2^w:=Wn (by omega) h
def VbY {m k:Nat}(h:m<32*k):2^m<4294967296^k:=by rw[show(4294967296:Nat)=2^32 from rfl,<-Yh];exact Yx (by omega) h
def Vij {k m:Nat}(h:10*k<=m):4294967296^k<=10^m:=by refine Wg (Nat.pow_le_pow_left (show 4294967296<=10^10 by decide) k) ?_;rw[<-Yh];exact Wn (by omega) h
def Lim (l:zAb):Prop:=∀x∈l,x<4294967296
def Gj (l:zAb):Bool:=
 match l.getLast? with
 |none=>true
 |some x=>x != 0
def O0 {l:zAb}(hx:Lim l):Gj l=true↔Nrm l:=by unfold Gj;constructor;intro h;refine⟨hx,λx lH=>?_⟩;rw[lH]at h;simpa using h;intro h;cases hl:l.getLast? with|none=>rfl|some x=>have:=h.last x hl;simpa using this
def Vji (a b:Nat):Int:=if a<b then -1 else if b<a then 1 else 0
def Vci (c:List Bool)(i:Nat):c.getD i false=(Bv c).testBit i:=by
 induction c generalizing i with
 |nil=>simp[Bv]
 |cons b c ih=>
  cases i with
  |zero=>simp only[Bv,List.getD_cons_zero,Nat.testBit_zero];cases b<;>simp<;>omega
  |succ i=>
   simp only[Bv,List.getD_cons_succ,ih,Nat.testBit_succ]
   congr 1
   cases b<;>simp<;>omega
def bn (b:Bool):Nat:=if b then 1 else 0
def Vpf (p q c:Bool):Int:=(if p then 1 else 0)-(if q then 1 else 0)-(if c then 1 else 0)
def VmV (p q c:Bool):Bool:=(p != q) != c
def VoC (p q c:Bool):Bool:=decide (Vpf p q c<0)
def sgn (neg:Bool)(n:Nat):Bool:=neg&&decide (n≠0)
theorem Ef:A8 0=[]:=(Kc 0).zero (B6 0)
theorem Pk {n:Nat}(h:n≠0):A8 n≠[]:=λe=>h (by have:=B6 n;rw[e]at this;simpa[val]using this.symm)
def El (neg:Bool)(l:zAb):Int:=if neg then -(val l:Int)else val l
theorem Bw (n:Nat):Lim (A8 n):=(Kc n).lt
def Fr {n k:Nat}(h:n<4294967296^k):(A8 n).length<=k:=by rcases W4 k (A8 n).length with h1 | h1;exfalso;rcases Hm (A8 n)with e | ⟨m,a,e⟩;rw[e]at h1;simp at h1;have hv:=B6 n;rw[e,C5]at hv;have ha:a≠0:=(Kc n).last a (by rw[e];simp);rw[e]at h1;have hk:k<=m.length:=(by simp at h1;omega);have:4294967296^k<=4294967296^m.length:=Wn (by omega) hk;have h2:4294967296^m.length*1<=4294967296^m.length*val [a]:=Xd _ (by simp[val];omega);omega;exact h1
def Vea (l:zAb)(hx:Lim l):val l<4294967296^l.length:=by
 induction l with
 |nil=>simp[val]
 |cons a l ih=>have h1:=ih λx h=>hx x (by simp[h]);have h2:=hx a (by simp);simp only[val,zXj,Nat.pow_succ];omega
def VgE {l:List Bool}(h:Bv l=0):DC l=[]:=by
 rcases VcJ l with e | ⟨m,e⟩;exact e
 ·exfalso;have:=EL l;rw[e,DK,h]at this;have:0<2^m.length:=Nat.two_pow_pos _;simp[Bv]at *
def Vf6 (n:Nat)(b:List Bool):Bv (List.replicate n false++b)=2^n*Bv b:=by
 have e:Bv (List.replicate n false)=0:=by
  induction n with
  |zero=>rfl
  |succ n ih=>simp[zXm,Bv,ih]
 rw[DK,e,XQ];simp
theorem HU {i j:Nat}(h:i<=j):(4294967296:Nat)^i<=4294967296^j:=Wn (by omega) h
open Go.Proofs
def RQ:Res->Option Ab
 |.ret _=>some (.agg [.i6 0,.str []])
 |.pan (.iface 127 (.agg [.i6 n,.str s]))=>some (.agg [.i6 n,.str s])
 |_=>none
def PC (orc:Orc)(job:Ab)(H:Aa):Out:=
 match job with
 |.bfn 69 caps=>(orc 69 caps H).bind λr=>(RQ r.1).map λv=>(.ret v,r.2)
 |_=>none
def L9 (r:Nat):Bool:=decide (r<48)||decide (57<r)
def UaW (a f:Ab)(H:Aa):Out:=match a,f with | .str s,.fn 235 []=>some (.ret (.i6 (Lib.idxFunc L9 true ⟨s.toArray⟩)),H) | _,_=>none
def UaX (a b:Ab)(H:Aa):Out:=match a,b with | .str s,.int .u8 c=>some (.ret (.i6 (Lib.indexByte s c.toNat.toUInt8)),H) | _,_=>none
def Uac (a b:Ab)(H:Aa):Out:=match a,b with | .sl es _,.sl fs _=>open Classical in if h:∃p:zAb×zAb,es=enL cU p.1/\fs=enL cU p.2/\Lim p.1/\Lim p.2/\p.1.length<=1099511627776/\p.2.length<=1099511627776 then some (.ret (.i6 (if val h.choose.1<val h.choose.2 then -1 else if val h.choose.1=val h.choose.2 then 0 else 1)),H) else none | _,_=>none
end Go.Gm
