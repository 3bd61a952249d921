/- Texts of this proof, joined. -/
import Derived.Test.YtagddbecnkbcdaaGreatJ1
import Derived.Test.YtagddbecnkbcdaaGreatJ2
import Derived.Lib.Bytealg
import Derived.Shelf.GgClosure.StringsIndexFunc
set_option linter.all false
namespace Go.Gm
def D4 (l:List Bool):List Bool:=(l.reverse.dropWhile λb=>!b).reverse
theorem cutL_nil:D4 []=[]:=rfl
theorem PE (l:List Bool):D4 (l++[true])=l++[true]:=by simp[D4]
theorem ND (l:List Bool):D4 (l++[false])=D4 l:=by simp[D4]
theorem Ha {α:Type}(l:List α):l=[]\/∃l' a,l=l'++[a]:=by
 cases h:l.reverse with
 | nil=>left;simpa using h
 | cons a r=>right;exact⟨r.reverse,a,by have:=congrArg List.reverse h;simpa using this⟩
def D5:Nat->Nat->List Bool
 | 0,_=>[]
 | n+1,x=>(x%2 == 1)::D5 n (x / 2)
theorem Jz:∀(n x:Nat),(D5 n x).length=n
 | 0,_=>rfl
 | n+1,x=>by simp[D5,Jz n]
def AQ (l:List Nat):List Bool:=l.flatMap (D5 32)
theorem C5 (l:List Nat):(AQ l).length=32*l.length:=by
 induction l with
 | nil=>rfl
 | cons a l ih=>simp only[AQ,List.flatMap_cons,UO,Jz,zXj]at ih ⊢;omega
def Bp:List Bool->Nat
 | []=>0
 | b::l=>(if b then 1 else 0)+2*Bp l
theorem DE (l m:List Bool):Bp (l++m)=Bp l+2^l.length*Bp m:=by
 induction l with
 | nil=>simp[Bp]
 | cons b l ih=>
  simp only[List.cons_append,Bp,ih,zXj,Nat.pow_succ];rw[VO,<-V6,VV (2^l.length) 2,Wk]
theorem Kr (l:List Bool):Bp l<2^l.length:=by
 induction l with
 | nil=>simp[Bp]
 | cons b l ih=>simp only[Bp,zXj,Nat.pow_succ];split <;> omega
def G8 (c:List Bool)(q:Nat):Nat:=Bp ((c.drop (32*q)).take 32)
def Es (c:List Bool)(q:Nat):List Nat:=(List.range q).map (G8 c)
theorem Ku (c:List Bool)(q:Nat):Es c (q+1)=Es c q++[G8 c q]:=by simp[Es,WT]
theorem LS (c:List Bool)(q:Nat):(Es c q).length=q:=by simp[Es]
def Kv (l:List Bool):List Nat:=Es (D4 l) (((D4 l).length+31) / 32)
theorem In (l:List Bool):(D4 l).length<=l.length:=by
 unfold D4;rw[List.length_reverse];have:=(List.dropWhile_sublist (p:=λb=>!b) (l:=l.reverse)).length_le;simpa using this
def val:List Nat->Nat
 | []=>0
 | a::l=>a+4294967296*val l
structure Nrm (l:List Nat):Prop where
 lt:∀x∈l,x<4294967296
 last:∀x,l.getLast? = some x->x≠0
theorem Cu (l m:List Nat):val (l++m)=val l+4294967296^l.length*val m:=by
 induction l with
 | nil=>simp[val]
 | cons b l ih=>
  simp only[List.cons_append,val,ih,zXj,Nat.pow_succ];rw[VO,<-V6,VV (4294967296^l.length) 4294967296,Wk]
theorem Nrm.tail {a:Nat}{l:List Nat}(h:Nrm (a::l)):Nrm l:=
 ⟨λx hx=>h.lt x (by simp[hx]),λx hx=>h.last x (by cases l with | nil=>simp at hx | cons b l=>simpa[List.getLast?_cons_cons]using hx)⟩
theorem Nrm.zero:∀ {l:List Nat},Nrm l->val l=0->l=[]
 | [],_,_=>rfl
 | a::l,h,hv=>by
  exfalso;simp only[val]at hv;have h1:a=0:=by omega
  have h2:l=[]:=h.tail.zero (by omega);subst h2;exact h.last a (by simp) h1
theorem Nrm.inj:∀ {l m:List Nat},Nrm l->Nrm m->val l=val m->l=m
 | [],m,_,hm,h=>(hm.zero (by simpa[val]using h.symm)).symm
 | a::l,[],hl,_,h=>hl.zero (by simpa[val]using h)
 | a::l,b::m,hl,hm,h=>by
  have h1:=hl.lt a (by simp);have h2:=hm.lt b (by simp);simp only[val]at h;have e1:a=b:=by omega
  have e2:val l=val m:=by omega
  rw[e1,Nrm.inj hl.tail hm.tail e2]
theorem ET (l:List Nat)(hx:∀x∈l,x<4294967296):Bp (AQ l)=val l:=by
 have key:∀(n x:Nat),Bp (D5 n x)=x%2^n:=by
  intro n
  induction n with
  | zero=>intro x;simp[D5,Bp,Nat.mod_one]
  | succ n ih=>
   intro x;simp only[D5,Bp,ih];rw[Nat.pow_succ,VV (2^n) 2,Nat.mod_mul]
   congr 1
   have:x%2<2:=Ws _ (by omega);split
   ·rename_i h;have:=of_decide_eq_true (p:=x%2=1) (by simpa using h);omega
   ·rename_i h;have:¬x%2=1:=by simpa using h
    omega
 induction l with
 | nil=>rfl
 | cons a l ih=>
  have e:AQ (a::l)=D5 32 a++AQ l:=rfl;rw[e,DE,key,Jz,ih λx h=>hx x (by simp[h])];have:=hx a (by simp);simp only[val];rw[VE (by omega)]
theorem EA (l:List Bool):Bp (D4 l)=Bp l:=by
 suffices h:∀r:List Bool,Bp (D4 r.reverse)=Bp r.reverse by have:=h l.reverse;simpa using this
 intro r
 induction r with
 | nil=>rfl
 | cons b r ih=>
  rw[Xi];cases b with
  | true=>rw[PE]
  | false=>rw[ND,ih,DE];simp[Bp]
theorem limbAt_lt (c:List Bool)(q:Nat):G8 c q<4294967296:=by
 have h:=Kr ((c.drop (32*q)).take 32);have h2:((c.drop (32*q)).take 32).length<=32:=by simp;omega
 have:2^((c.drop (32*q)).take 32).length<=2^32:=Vv (by omega) h2;unfold G8;omega
theorem PX (c:List Bool):∀q,val (Es c q)=Bp (c.take (32*q))
 | 0=>by simp[Es,val,Bp]
 | q+1=>by
  rw[Ku,Cu,PX c q,LS];have e:c.take (32*(q+1))=c.take (32*q)++(c.drop (32*q)).take 32:=by rw[VO,List.take_add]
  rw[e,DE];by_cases h:32*q<=c.length
  ·have:(c.take (32*q)).length=32*q:=by simp;omega
   rw[this,show (4294967296:Nat)=2^32 from rfl,<-Xg];simp[val,G8]
  ·have:c.drop (32*q)=[]:=Xr (by omega);simp[val,G8,this,Bp]
theorem cutL_end (l:List Bool):D4 l=[]\/∃m,D4 l=m++[true]:=by
 suffices h:∀r:List Bool,D4 r.reverse=[]\/∃m,D4 r.reverse=m++[true]by have:=h l.reverse;simpa using this
 intro r
 induction r with
 | nil=>exact .inl rfl
 | cons b r ih=>
  rw[Xi];cases b with
  | true=>rw[PE];exact .inr ⟨_,rfl⟩
  | false=>rw[ND];exact ih
theorem PY (l:List Bool):val (Kv l)=Bp l:=by
 unfold Kv;rw[PX,US (by omega),EA]
theorem Qd (l:List Bool):Nrm (Kv l):=by
 unfold Kv;refine⟨λx hx=>?_,λx hx=>?_⟩
 ·simp only[Es,Wh]at hx;obtain⟨q,_,rfl⟩:=hx;exact limbAt_lt _ _
 ·rcases cutL_end l with h | ⟨m,h⟩
  ·rw[h]at hx;simp[Es]at hx
  ·obtain⟨Q,hQ⟩:∃Q,((D4 l).length+31) / 32=Q+1:=⟨((D4 l).length+31) / 32-1,by rw[h];simp;omega⟩;have hlen:(D4 l).length=m.length+1:=by rw[h];simp
   rw[hQ,Ku]at hx;simp at hx;subst hx;unfold G8;rw[US (by simp;omega),h,WP (by omega),DE];have:0<2^(m.drop (32*Q)).length:=Nat.two_pow_pos _;simp[Bp]
def A6 (n:Nat):List Nat:=Kv (D5 n n)
theorem Pe (n:Nat):n<2^n:=Nat.lt_two_pow_self
theorem nat1_bitsOf (n x:Nat):Bp (D5 n x)=x%2^n:=by
 induction n generalizing x with
 | zero=>simp[D5,Bp,Nat.mod_one]
 | succ n ih=>
  simp only[D5,Bp,ih];rw[Nat.pow_succ,VV (2^n) 2,Nat.mod_mul]
  congr 1
  split
  ·rename_i h;have:=of_decide_eq_true (p:=x%2=1) (by simpa using h);omega
  ·rename_i h;have:¬x%2=1:=by simpa using h
   omega
theorem B2 (n:Nat):val (A6 n)=n:=by
 unfold A6;rw[PY,nat1_bitsOf,VE (Pe n)]
theorem JB (n:Nat):Nrm (A6 n):=Qd _
theorem LQ {l:List Nat}(h:Nrm l):l=A6 (val l):=h.inj (JB _) (B2 _).symm
theorem limbsOf_eq (l:List Bool):Kv l=A6 (Bp l):=by rw[LQ (Qd l),PY]
theorem pow2_le {v w:Nat}(h:v<=w):2^v<=2^w:=Vv (by omega) h
theorem pow32_lt {m k:Nat}(h:m<32*k):2^m<4294967296^k:=by
 rw[show (4294967296:Nat)=2^32 from rfl,<-Xg];exact Xx (by omega) h
theorem pow10_le {k m:Nat}(h:10*k<=m):4294967296^k<=10^m:=by
 refine Vf (Nat.pow_le_pow_left (show 4294967296<=10^10 by decide) k) ?_;rw[<-Xg];exact Vv (by omega) h
def Lim (l:List Nat):Prop:=∀x∈l,x<4294967296
def Gd (l:List Nat):Bool:=
 match l.getLast? with
 | none=>true
 | some x=>x != 0
theorem Ny {l:List Nat}(hx:Lim l):Gd l=true↔Nrm l:=by
 unfold Gd;constructor
 ·intro h;refine⟨hx,λx jL=>?_⟩;rw[jL]at h;simpa using h
 ·intro h;cases hl:l.getLast? with
  | none=>rfl
  | some x=>have:=h.last x hl;simpa using this
def cmpI (a b:Nat):Int:=if a<b then -1 else if b<a then 1 else 0
theorem nat1_bit (c:List Bool)(i:Nat):c.getD i false=(Bp c).testBit i:=by
 induction c generalizing i with
 | nil=>simp[Bp]
 | cons b c ih=>
  cases i with
  | zero=>simp only[Bp,List.getD_cons_zero,Nat.testBit_zero];cases b <;> simp <;> omega
  | succ i=>
   simp only[Bp,List.getD_cons_succ,ih,Nat.testBit_succ]
   congr 1
   cases b <;> simp <;> omega
def bn (b:Bool):Nat:=if b then 1 else 0
def subN (p q c:Bool):Int:=(if p then 1 else 0)-(if q then 1 else 0)-(if c then 1 else 0)
def subS (p q c:Bool):Bool:=(p != q) != c
def subC (p q c:Bool):Bool:=decide (subN p q c<0)
def sgn (neg:Bool)(n:Nat):Bool:=neg&&decide (n≠0)
theorem DX:A6 0=[]:=(JB 0).zero (B2 0)
theorem Oj {n:Nat}(h:n≠0):A6 n≠[]:=λe=>h (by have:=B2 n;rw[e]at this;simpa[val]using this.symm)
def Ec (neg:Bool)(l:List Nat):Int:=if neg then -(val l:Int)else val l
theorem Br (n:Nat):Lim (A6 n):=(JB n).lt
theorem Fe {n k:Nat}(h:n<4294967296^k):(A6 n).length<=k:=by
 rcases Vy k (A6 n).length with h1 | h1
 ·exfalso;rcases Ha (A6 n)with e | ⟨m,a,e⟩
  ·rw[e]at h1;simp at h1
  ·have hv:=B2 n;rw[e,Cu]at hv;have ha:a≠0:=(JB n).last a (by rw[e];simp);rw[e]at h1;have hk:k<=m.length:=by simp at h1;omega
   have:4294967296^k<=4294967296^m.length:=Vv (by omega) hk;have h2:4294967296^m.length*1<=4294967296^m.length*val [a]:=WU _ (by simp[val];omega);omega
 ·exact h1
theorem val_lt (l:List Nat)(hx:Lim l):val l<4294967296^l.length:=by
 induction l with
 | nil=>simp[val]
 | cons a l ih=>
  have h1:=ih λx h=>hx x (by simp[h]);have h2:=hx a (by simp);simp only[val,zXj,Nat.pow_succ];omega
theorem cutL_nat0 {l:List Bool}(h:Bp l=0):D4 l=[]:=by
 rcases cutL_end l with e | ⟨m,e⟩
 ·exact e
 ·exfalso;have:=EA l;rw[e,DE,h]at this;have:0<2^m.length:=Nat.two_pow_pos _;simp[Bp]at *
theorem nat1_repl (n:Nat)(b:List Bool):Bp (List.replicate n false++b)=2^n*Bp b:=by
 have e:Bp (List.replicate n false)=0:=by
  induction n with
  | zero=>rfl
  | succ n ih=>simp[zXm,Bp,ih]
 rw[DE,e,WN];simp
theorem NX {i j:Nat}(h:i<=j):(4294967296:Nat)^i<=4294967296^j:=Vv (by omega) h
open Go.Proofs
def Rb:Res->Option Ab
 | .ret _=>some (.agg [.i6 0,.str []])
 | .pan (.iface 107 (.agg [.i6 n,.str s]))=>some (.agg [.i6 n,.str s])
 | _=>none
def OD (orc:Orc)(job:Ab)(H:Aa):Out:=
 match job with
 | .bfn 59 caps=>(orc 59 caps H).bind λr=>(Rb r.1).map λv=>(.ret v,r.2)
 | _=>none
def Le (r:Nat):Bool:=decide (r<48)||decide (57<r)
def Sh.f2a (a f:Ab)(H:Aa):Out:=match a,f with
 | .str s,.fn 235 []=>some (.ret (.i6 (Lib.idxFunc Le true ⟨s.toArray⟩)),H)
 | _,_=>none
def Sh.f2b (a b:Ab)(H:Aa):Out:=match a,b with
 | .str s,.int .u8 c=>some (.ret (.i6 (Lib.indexByte s c.toNat.toUInt8)),H)
 | _,_=>none
noncomputable def Sh.fw (a b:Ab)(H:Aa):Out:=match a,b with
 | .sl es _,.sl fs _=>
  open Classical in
  if h:∃p:List Nat×List Nat,es=enL cU p.1/\fs=enL cU p.2/\Lim p.1/\Lim p.2/\p.1.length<=1099511627776/\p.2.length<=1099511627776 then
   some (.ret (.i6 (if val h.choose.1<val h.choose.2 then -1 else if val h.choose.1=val h.choose.2 then 0 else 1)),H)
  else none
 | _,_=>none
end Go.Gm
