/- Texts of this proof, joined. -/
import Derived.Test.YtagddbecnkbcdaaGreatJ1
import Derived.Test.YtagddbecnkbcdaaGreatJ2
import Derived.Lib.Bytealg
import Derived.Shelf.GgClosure.StringsIndexFunc
import Derived.Test.YtagddbecnkbcdaaGreatChecked
import Derived.KernelRfl
import Derived.ProofKit
import Derived.OpenShut
import Derived.JoinedCond
import Derived.Carry
import Derived.Shelf.Small.Strs
import Derived.Shelf.Small.Wraps
import Derived.Shelf.Strings.Search1
import Derived.Ground.GgwProg
import Derived.Shelf.GgClosure.StringsIndexFuncTop
import Derived.Shelf.Strings.Prefix
import Derived.Shelf.Strings.FuncGrows
import Derived.Test.YtagddbecnkbcdaaGreatProg
set_option linter.all false
namespace Go.Gm
def Dz (l:List Bool):List Bool:=(l.reverse.dropWhile λb=>!b).reverse
theorem cutL_nil:Dz []=[]:=rfl
theorem Qx (l:List Bool):Dz (l++[true])=l++[true]:=by simp[Dz]
theorem Og (l:List Bool):Dz (l++[false])=Dz l:=by simp[Dz]
theorem Ht {α:Type}(l:List α):l=[]\/∃l' a,l=l'++[a]:=by
 cases h:l.reverse with
 | nil=>left;simpa using h
 | cons a r=>right;exact⟨r.reverse,a,by have:=congrArg List.reverse h;simpa using this⟩
def D0:Nat->Nat->List Bool
 | 0,_=>[]
 | n+1,x=>(x%2 == 1)::D0 n (x / 2)
theorem JL:∀(n x:Nat),(D0 n x).length=n
 | 0,_=>rfl
 | n+1,x=>by simp[D0,JL n]
def AV (l:List Nat):List Bool:=l.flatMap (D0 32)
theorem Cv (l:List Nat):(AV l).length=32*l.length:=by
 induction l with
 | nil=>rfl
 | cons a l ih=>simp only[AV,XN,VX,JL,zXj]at ih ⊢;omega
def Bp:List Bool->Nat
 | []=>0
 | b::l=>(if b then 1 else 0)+2*Bp l
theorem D9 (l m:List Bool):Bp (l++m)=Bp l+2^l.length*Bp m:=by
 induction l with
 | nil=>simp[Bp]
 | cons b l ih=>
  simp only[List.cons_append,Bp,ih,zXj,Nat.pow_succ];rw[Xd,<-WD,Xi (2^l.length) 2,X0]
theorem KC (l:List Bool):Bp l<2^l.length:=by
 induction l with
 | nil=>simp[Bp]
 | cons b l ih=>simp only[Bp,zXj,Nat.pow_succ];split <;> omega
def GI (c:List Bool)(q:Nat):Nat:=Bp ((c.drop (32*q)).take 32)
def Ep (c:List Bool)(q:Nat):List Nat:=(List.range q).map (GI c)
theorem KH (c:List Bool)(q:Nat):Ep c (q+1)=Ep c q++[GI c q]:=by simp[Ep,XQ]
theorem Mq (c:List Bool)(q:Nat):(Ep c q).length=q:=by simp[Ep]
def KI (l:List Bool):List Nat:=Ep (Dz l) (((Dz l).length+31) / 32)
theorem I8 (l:List Bool):(Dz l).length<=l.length:=by
 unfold Dz;rw[List.length_reverse];have:=(List.dropWhile_sublist (p:=λb=>!b) (l:=l.reverse)).length_le;simpa using this
def val:List Nat->Nat
 | []=>0
 | a::l=>a+4294967296*val l
structure Nrm (l:List Nat):Prop where
 lt:∀x∈l,x<4294967296
 last:∀x,l.getLast? = some x->x≠0
theorem Cz (l m:List Nat):val (l++m)=val l+4294967296^l.length*val m:=by
 induction l with
 | nil=>simp[val]
 | cons b l ih=>
  simp only[List.cons_append,val,ih,zXj,Nat.pow_succ];rw[Xd,<-WD,Xi (4294967296^l.length) 4294967296,X0]
theorem Nrm.tail {a:Nat}{l:List Nat}(h:Nrm (a::l)):Nrm l:=
 ⟨λx hx=>h.lt x (by simp[hx]),λx hx=>h.last x (by cases l with | nil=>simp at hx | cons b l=>simpa[List.getLast?_cons_cons]using hx)⟩
theorem Nrm.zero:∀ {l:List Nat},Nrm l->val l=0->l=[]
 | [],_,_=>rfl
 | a::l,h,hv=>by
  exfalso;simp only[val]at hv;have h1:a=0:=by omega
  have h2:l=[]:=h.tail.zero (by omega);subst h2;exact h.last a (by simp) h1
theorem Nrm.inj:∀ {l m:List Nat},Nrm l->Nrm m->val l=val m->l=m
 | [],m,_,hm,h=>(hm.zero (by simpa[val]using h.symm)).symm
 | a::l,[],hl,_,h=>hl.zero (by simpa[val]using h)
 | a::l,b::m,hl,hm,h=>by
  have h1:=hl.lt a (by simp);have h2:=hm.lt b (by simp);simp only[val]at h;have e1:a=b:=by omega
  have e2:val l=val m:=by omega
  rw[e1,Nrm.inj hl.tail hm.tail e2]
theorem ER (l:List Nat)(hx:∀x∈l,x<4294967296):Bp (AV l)=val l:=by
 have key:∀(n x:Nat),Bp (D0 n x)=x%2^n:=by
  intro n
  induction n with
  | zero=>intro x;simp[D0,Bp,Nat.mod_one]
  | succ n ih=>
   intro x;simp only[D0,Bp,ih];rw[Nat.pow_succ,Xi (2^n) 2,Nat.mod_mul]
   congr 1
   have:x%2<2:=Xz _ (by omega);split
   ·rename_i h;have:=of_decide_eq_true (p:=x%2=1) (by simpa using h);omega
   ·rename_i h;have:¬x%2=1:=by simpa using h
    omega
 induction l with
 | nil=>rfl
 | cons a l ih=>
  have e:AV (a::l)=D0 32 a++AV l:=rfl;rw[e,D9,key,JL,ih λx h=>hx x (by simp[h])];have:=hx a (by simp);simp only[val];rw[WX (by omega)]
theorem EC (l:List Bool):Bp (Dz l)=Bp l:=by
 suffices h:∀r:List Bool,Bp (Dz r.reverse)=Bp r.reverse by have:=h l.reverse;simpa using this
 intro r
 induction r with
 | nil=>rfl
 | cons b r ih=>
  rw[Yw];cases b with
  | true=>rw[Qx]
  | false=>rw[Og,ih,D9];simp[Bp]
theorem limbAt_lt (c:List Bool)(q:Nat):GI c q<4294967296:=by
 have h:=KC ((c.drop (32*q)).take 32);have h2:((c.drop (32*q)).take 32).length<=32:=by simp;omega
 have:2^((c.drop (32*q)).take 32).length<=2^32:=W9 (by omega) h2;unfold GI;omega
theorem QG (c:List Bool):∀q,val (Ep c q)=Bp (c.take (32*q))
 | 0=>by simp[Ep,val,Bp]
 | q+1=>by
  rw[KH,Cz,QG c q,Mq];have e:c.take (32*(q+1))=c.take (32*q)++(c.drop (32*q)).take 32:=by rw[Xd,List.take_add]
  rw[e,D9];by_cases h:32*q<=c.length
  ·have:(c.take (32*q)).length=32*q:=by simp;omega
   rw[this,show (4294967296:Nat)=2^32 from rfl,<-Yu];simp[val,GI]
  ·have:c.drop (32*q)=[]:=Yd (by omega);simp[val,GI,this,Bp]
theorem cutL_end (l:List Bool):Dz l=[]\/∃m,Dz l=m++[true]:=by
 suffices h:∀r:List Bool,Dz r.reverse=[]\/∃m,Dz r.reverse=m++[true]by have:=h l.reverse;simpa using this
 intro r
 induction r with
 | nil=>exact .inl rfl
 | cons b r ih=>
  rw[Yw];cases b with
  | true=>rw[Qx];exact .inr ⟨_,rfl⟩
  | false=>rw[Og];exact ih
theorem QH (l:List Bool):val (KI l)=Bp l:=by
 unfold KI;rw[QG,Wd (by omega),EC]
theorem QP (l:List Bool):Nrm (KI l):=by
 unfold KI;refine⟨λx hx=>?_,λx hx=>?_⟩
 ·simp only[Ep,Xj]at hx;obtain⟨q,_,rfl⟩:=hx;exact limbAt_lt _ _
 ·rcases cutL_end l with h | ⟨m,h⟩
  ·rw[h]at hx;simp[Ep]at hx
  ·obtain⟨Q,hQ⟩:∃Q,((Dz l).length+31) / 32=Q+1:=⟨((Dz l).length+31) / 32-1,by rw[h];simp;omega⟩;have hlen:(Dz l).length=m.length+1:=by rw[h];simp
   rw[hQ,KH]at hx;simp at hx;subst hx;unfold GI;rw[Wd (by simp;omega),h,XH (by omega),D9];have:0<2^(m.drop (32*Q)).length:=Nat.two_pow_pos _;simp[Bp]
def AA (n:Nat):List Nat:=KI (D0 n n)
theorem PL (n:Nat):n<2^n:=Nat.lt_two_pow_self
theorem nat1_bitsOf (n x:Nat):Bp (D0 n x)=x%2^n:=by
 induction n generalizing x with
 | zero=>simp[D0,Bp,Nat.mod_one]
 | succ n ih=>
  simp only[D0,Bp,ih];rw[Nat.pow_succ,Xi (2^n) 2,Nat.mod_mul]
  congr 1
  split
  ·rename_i h;have:=of_decide_eq_true (p:=x%2=1) (by simpa using h);omega
  ·rename_i h;have:¬x%2=1:=by simpa using h
   omega
theorem BA (n:Nat):val (AA n)=n:=by
 unfold AA;rw[QH,nat1_bitsOf,WX (PL n)]
theorem JW (n:Nat):Nrm (AA n):=QP _
theorem Mp {l:List Nat}(h:Nrm l):l=AA (val l):=h.inj (JW _) (BA _).symm
theorem limbsOf_eq (l:List Bool):KI l=AA (Bp l):=by rw[Mp (QP l),QH]
theorem pow2_le {v w:Nat}(h:v<=w):2^v<=2^w:=W9 (by omega) h
theorem pow32_lt {m k:Nat}(h:m<32*k):2^m<4294967296^k:=by
 rw[show (4294967296:Nat)=2^32 from rfl,<-Yu];exact YA (by omega) h
theorem pow10_le {k m:Nat}(h:10*k<=m):4294967296^k<=10^m:=by
 refine Wu (Nat.pow_le_pow_left (show 4294967296<=10^10 by decide) k) ?_;rw[<-Yu];exact W9 (by omega) h
def Lim (l:List Nat):Prop:=∀x∈l,x<4294967296
def Gg (l:List Nat):Bool:=
 match l.getLast? with
 | none=>true
 | some x=>x != 0
theorem NT {l:List Nat}(hx:Lim l):Gg l=true↔Nrm l:=by
 unfold Gg;constructor
 ·intro h;refine⟨hx,λx iD=>?_⟩;rw[iD]at h;simpa using h
 ·intro h;cases hl:l.getLast? with
  | none=>rfl
  | some x=>have:=h.last x hl;simpa using this
def cmpI (a b:Nat):Int:=if a<b then -1 else if b<a then 1 else 0
theorem nat1_bit (c:List Bool)(i:Nat):c.getD i false=(Bp c).testBit i:=by
 induction c generalizing i with
 | nil=>simp[Bp]
 | cons b c ih=>
  cases i with
  | zero=>simp only[Bp,List.getD_cons_zero,Nat.testBit_zero];cases b <;> simp <;> omega
  | succ i=>
   simp only[Bp,List.getD_cons_succ,ih,Nat.testBit_succ]
   congr 1
   cases b <;> simp <;> omega
def bn (b:Bool):Nat:=if b then 1 else 0
def subN (p q c:Bool):Int:=(if p then 1 else 0)-(if q then 1 else 0)-(if c then 1 else 0)
def subS (p q c:Bool):Bool:=(p != q) != c
def subC (p q c:Bool):Bool:=decide (subN p q c<0)
def sgn (neg:Bool)(n:Nat):Bool:=neg&&decide (n≠0)
theorem EH:AA 0=[]:=(JW 0).zero (BA 0)
theorem OD {n:Nat}(h:n≠0):AA n≠[]:=λe=>h (by have:=BA n;rw[e]at this;simpa[val]using this.symm)
def DZ (neg:Bool)(l:List Nat):Int:=if neg then -(val l:Int)else val l
theorem Bz (n:Nat):Lim (AA n):=(JW n).lt
theorem Fb {n k:Nat}(h:n<4294967296^k):(AA n).length<=k:=by
 rcases W7 k (AA n).length with h1 | h1
 ·exfalso;rcases Ht (AA n)with e | ⟨m,a,e⟩
  ·rw[e]at h1;simp at h1
  ·have hv:=BA n;rw[e,Cz]at hv;have ha:a≠0:=(JW n).last a (by rw[e];simp);rw[e]at h1;have hk:k<=m.length:=by simp at h1;omega
   have:4294967296^k<=4294967296^m.length:=W9 (by omega) hk;have h2:4294967296^m.length*1<=4294967296^m.length*val [a]:=Yk _ (by simp[val];omega);omega
 ·exact h1
theorem RZ (l:List Nat)(hx:Lim l):val l<4294967296^l.length:=by
 induction l with
 | nil=>simp[val]
 | cons a l ih=>
  have h1:=ih λx h=>hx x (by simp[h]);have h2:=hx a (by simp);simp only[val,zXj,Nat.pow_succ];omega
theorem cutL_nat0 {l:List Bool}(h:Bp l=0):Dz l=[]:=by
 rcases cutL_end l with e | ⟨m,e⟩
 ·exact e
 ·exfalso;have:=EC l;rw[e,D9,h]at this;have:0<2^m.length:=Nat.two_pow_pos _;simp[Bp]at *
theorem nat1_repl (n:Nat)(b:List Bool):Bp (List.replicate n false++b)=2^n*Bp b:=by
 have e:Bp (List.replicate n false)=0:=by
  induction n with
  | zero=>rfl
  | succ n ih=>simp[zXm,Bp,ih]
 rw[D9,e,Yf];simp
theorem JU {i j:Nat}(h:i<=j):(4294967296:Nat)^i<=4294967296^j:=W9 (by omega) h
open Go.Proofs
def RU:Res->Option Ab
 | .ret _=>some (.agg [.i6 0,.str []])
 | .pan (.iface 107 (.agg [.i6 n,.str s]))=>some (.agg [.i6 n,.str s])
 | _=>none
def Pk (orc:Orc)(job:Ab)(H:Aa):Out:=
 match job with
 | .bfn 59 caps=>(orc 59 caps H).bind λr=>(RU r.1).map λv=>(.ret v,r.2)
 | _=>none
def Ly (r:Nat):Bool:=decide (r<48)||decide (57<r)
def Sh.f20 (a f:Ab)(H:Aa):Out:=match a,f with
 | .str s,.fn 235 []=>some (.ret (.i6 (Lib.idxFunc Ly true ⟨s.toArray⟩)),H)
 | _,_=>none
def Sh.f21 (a b:Ab)(H:Aa):Out:=match a,b with
 | .str s,.int .u8 c=>some (.ret (.i6 (Lib.indexByte s c.toNat.toUInt8)),H)
 | _,_=>none
noncomputable def Sh.fq (a b:Ab)(H:Aa):Out:=match a,b with
 | .sl es _,.sl fs _=>
  open Classical in
  if h:∃p:List Nat×List Nat,es=enL cU p.1/\fs=enL cU p.2/\Lim p.1/\Lim p.2/\p.1.length<=1099511627776/\p.2.length<=1099511627776 then
   some (.ret (.i6 (if val h.choose.1<val h.choose.2 then -1 else if val h.choose.1=val h.choose.2 then 0 else 1)),H)
  else none
 | _,_=>none
noncomputable def Sh.f6m (b:Ab)(c:Aa):Out:=
 (Ae .none .lss b (.int .i32 48)).bind λa=>
 gk a false (some b) λd=>
 gk a false (Ae .none .gtr d (.int .i32 57)) λe=>
 (AF a (.bool true) e).bind λf=>
 rK c f c
noncomputable def Sh.fa (b:Ab)(c:Aa):Out:=
 (A7 b).bind λd=>
 (Ae .none .eql d (.i6 0)).bind λa=>
 gk a false (some b) λe=>
 gk a false (some b) λf=>
 gk a false (A7 f) λg=>
 gk a false (Ae .none .sub g (.i6 1)) λh=>
 gk a false (Av 1 e h) λi=>
 gk a false (Ac false 1 i c) λj=>
 gk a false (Ae .none .neq j (.int .u32 0)) λk=>
 (AF a (.bool true) k).bind λl=>
 rK c l c
noncomputable def Sh.f12 (b:Aa)(d:LK)(a:Ab)(e:Aa):Out:=
 bK b (Sh.fa a e) λf c=>
 (unA .not f).bind λg=>
 Ak g (
 (A7 a).bind λh=>
 (Ae .none .sub h (.i6 1)).bind λi=>
 (Bw 1 a none (some i) none).bind λj=>
 d [j] c) (
 rKN b a c)
noncomputable def Sh.f1 (b:Ab)(a:Aa):Out:=
 Ap (λc vs H=>Sh.f12 a c (ag vs 0) H) AU [b] a
noncomputable def Sh.fr (a:Aa):Out:=
 An (Az (some [(.i6 0),(.i6 0)]) a) λb d=>
 (A6 (some [(.i6 0),(.i6 0)]) [(0,1,(.i6 1000)),(1,1,(.i6 100000))]).bind λe=>
 bP a (A8 (Af 2 b e d)) λ_ c=>
 (Ac true 2 b c).bind λf=>rP a f c
noncomputable def Sh.f3g (b d:Ab)(c:Aa):Out:=
 (Ae .none .geq b (.i6 0)).bind λa=>
 gk a true (some b) λe=>
 gk a true (some d) λf=>
 gk a true (Ae .none .leq e f) λg=>
 (AF a g (.bool false)).bind λh=>
 rK c h c
noncomputable def Sh.f3h (f:Ab)(a:Aa):Out:=
 An (BD true 2 f a) λd e=>
 (Ad 0 d).bind λg=>
 (Ac false 1 g e).bind λh=>
 bP a (Sh.f3g h (.i6 1000) e) λb c=>
 gk b true (Ad 1 d) λi=>
 gk b true (Ac false 1 i c) λj=>
 gbP a b true c (Sh.f3g j (.i6 100000) c) λk l=>
 (AF b k (.bool false)).bind λm=>
 rP a m l
noncomputable def Sh.f6n (c:Aa)(h:LK)(d e f g a:Ab)(b:Aa):Out:=
 (Ae .none .lss a g).bind λi=>
 Ak i (
 (Es d a).bind λj=>
 (Es e a).bind λk=>
 (Ae .none .neq j k).bind λl=>
 Ak l (
 rK c a b) (
 (Ae .none .add a (.i6 1)).bind λm=>
 h [d,e,f,g,m] b)) (
 rK c f b)
noncomputable def Sh.f3i (a b:Ab)(c:Aa):Out:=
 (CK a).bind λe=>
 (CK b).bind λf=>
 (Ia SL e [f]).bind λd=>
 Ap (λg vs H=>Sh.f6n c g (ag vs 0) (ag vs 1) (ag vs 2) (ag vs 3) (ag vs 4) H) AU [a,b,d,d,(.i6 0)] c
noncomputable def Sh.fk (b:Ab)(a:Aa):Out:=
 (Ai b).bind λc=>
 (Ad 1 c).bind λd=>
 bC (Ac false 1 d a) (λ_=>True) λe=>
 (Ai b).bind λf=>
 (Ad 0 f).bind λg=>
 bC (Ac false 1 g a) (λ_=>True) λh=>
 (CK h).bind λi=>
 (Ae .none .eql e i).bind λj=>
 rK a j a
noncomputable def Sh.f89 (a:Aa)(b:Aa):Out:=
 (A6 (some [(.i6 0),(.str [])]) [(0,1,(.i6 2)),(1,1,(.str []))]).bind λc=>
 (Te HI c).bind λd=>
 bK a (panA d b) λ_ e=>
 rK a (.tup []) e
noncomputable def Sh.f5 (c d:Ab)(a:Aa):Out:=
 AK (λj1=>
 bK a (Sh.fk c a) λe b=>
 Ak e (
 (A6 (some [(.i6 0),(.str [])]) [(0,1,(.i6 3)),(1,1,d)]).bind λf=>
 (Te HI f).bind λg=>
 bK a (panA g b) λ_ h=>
 j1 [] h) (
 j1 [] b)) (λvs H=>Sh.f89 a H)
noncomputable def Sh.fb (b c g:Ab)(a:Aa):Out:=
 (Ai b).bind λh=>
 (Ad 0 h).bind λi=>
 bC (Ac false 1 i a) (λ_=>True) λj=>
 (Ai b).bind λk=>
 (Ad 1 k).bind λl=>
 bC (Ac false 1 l a) (λ_=>True) λm=>
 (BZ j (some m) none).bind λn=>
 Bc (Sh.f3i n c a) λd e=>
 (Ai b).bind λo=>
 (Ad 1 o).bind λp=>
 (Ac false 1 p e).bind λq=>
 (Ae .none .add q d).bind λr=>
 (Ai b).bind λs=>
 (Ad 1 s).bind λt=>
 bK a (A8 (Af 1 t r e)) λ_ f=>
 (CK c).bind λu=>
 (Ae .none .lss d u).bind λv=>
 Ak v (
 (BZ c (some d) none).bind λw=>
 (Ae .none .add w g).bind λx=>
 bK a (Sh.f5 b x f) λz y=>
 rK a (.tup []) y) (
 rK a (.tup []) f)
noncomputable def Sh.f4 (c e:Ab)(d:Aa):Out:=
 Bc (Sh.fk c d) λf b=>
 (unA .not f).bind λa=>
 gk a true (some e) λg=>
 gk a true (some c) λh=>
 gk a true (Ai h) λi=>
 gk a true (Ad 0 i) λj=>
 gkc a true (Ac false 1 j b) (λ_ _=>True) λk=>
 gk a true (some c) λl=>
 gk a true (Ai l) λm=>
 gk a true (Ad 1 m) λn=>
 gkc a true (Ac false 1 n b) (λ_ _=>True) λo=>
 gk a true (Es k o) λp=>
 gbN a true b (Sh.f21 g p b) λq r=>
 gk a true (Ae .none .geq q (.i6 0)) λs=>
 (AF a s (.bool false)).bind λt=>
 rK d t r
noncomputable def Sh.f7q (a:Aa)(b:Ab)(c:Aa):Out:=
 (Ai b).bind λd=>
 (Ad 1 d).bind λe=>
 (Ac false 1 e c).bind λf=>
 (Ae .none .add f (.i6 1)).bind λg=>
 (Ai b).bind λh=>
 (Ad 1 h).bind λi=>
 bK a (A8 (Af 1 i g c)) λ_ j=>
 rK a (.tup []) j
noncomputable def Sh.f6o (b:Aa)(a d:Ab)(e:Aa):Out:=
 AK (λj2=>
 bK b (Sh.f4 a (.str [10]) e) λf c=>
 (unA .not f).bind λg=>
 Ak g (
 (Ae .none .add (.str [10]) d).bind λh=>
 bK b (Sh.f5 a h c) λj i=>
 j2 [a] i) (
 j2 [a] c)) (λvs H=>Sh.f7q b (ag vs 0) H)
noncomputable def Sh.f1g (a d:Ab)(b:Aa):Out:=
 bK b (Sh.fk a b) λf e=>
 Ak f (
 rK b (.tup []) e) (
 AK (λj1=>
 bK b (Sh.f4 a (.str [13]) e) λg c=>
 Ak g (
 (Ai a).bind λh=>
 (Ad 1 h).bind λi=>
 (Ac false 1 i c).bind λj=>
 (Ae .none .add j (.i6 1)).bind λk=>
 (Ai a).bind λl=>
 (Ad 1 l).bind λm=>
 bK b (A8 (Af 1 m k c)) λ_ n=>
 j1 [a,d] n) (
 j1 [a,d] c)) (λvs H=>Sh.f6o b (ag vs 0) (ag vs 1) H))
noncomputable def Sh.f6p (b:Aa)(f:LK)(a:Ab)(g:Aa):Out:=
 bK b (Sh.fk a g) λh e=>
 (unA .not h).bind λc=>
 gk c true (some a) λi=>
 gbK b c true e (Sh.f4 i (.str [13,10]) e) λj d=>
 gk c true (unA .not j) λk=>
 (AF c k (.bool false)).bind λl=>
 Ak l (
 (Ai a).bind λm=>
 (Ad 1 m).bind λn=>
 (Ac false 1 n d).bind λo=>
 (Ae .none .add o (.i6 1)).bind λp=>
 (Ai a).bind λq=>
 (Ad 1 q).bind λr=>
 bK b (A8 (Af 1 r p d)) λ_ s=>
 f [a] s) (
 rK b (.tup []) d)
noncomputable def Sh.f3j (b:Ab)(a:Aa):Out:=
 Ap (λc vs H=>Sh.f6p a c (ag vs 0) H) AU [b] a
noncomputable def Sh.f3k (b:Ab)(c:Aa):Out:=
 (Ae .none .gtr b (.int .u8 32)).bind λa=>
 gk a true (some b) λd=>
 gk a true (Ae .none .lss d (.int .u8 127)) λe=>
 (AF a e (.bool false)).bind λf=>
 rK c f c
noncomputable def Sh.f6q (c:Aa)(b d:Ab)(a:Aa):Out:=
 (Ai b).bind λe=>
 (Ad 0 e).bind λf=>
 bC (Ac false 1 f a) (λ_=>True) λg=>
 (Ai b).bind λh=>
 (Ad 1 h).bind λi=>
 bC (Ac false 1 i a) (λ_=>True) λj=>
 (BZ g (some d) (some j)).bind λk=>
 rK c k a
noncomputable def Sh.f6r (g:Aa)(i:LK)(a h d:Ab)(j:Aa):Out:=
 Bc (Sh.fk a j) λk e=>
 (unA .not k).bind λc=>
 gk c true (some a) λl=>
 gk c true (Ai l) λm=>
 gk c true (Ad 1 m) λn=>
 gkc c true (Ac false 1 n e) (λ_ _=>True) λo=>
 gk c true (some d) λp=>
 gk c true (Ae .none .sub o p) λq=>
 gk c true (Ae .none .lss q (.i6 40)) λr=>
 (AF c r (.bool false)).bind λb=>
 gk b true (some a) λs=>
 gk b true (Ai s) λt=>
 gk b true (Ad 0 t) λu=>
 gkc b true (Ac false 1 u e) (λ_ _=>True) λv=>
 gk b true (some a) λw=>
 gk b true (Ai w) λx=>
 gk b true (Ad 1 x) λy=>
 gkc b true (Ac false 1 y e) (λ_ _=>True) λz=>
 gk b true (Es v z) λaa=>
 gbN b true e (Sh.f3k aa e) λab f=>
 (AF b ab (.bool false)).bind λac=>
 Ak ac (
 (Ai a).bind λad=>
 (Ad 1 ad).bind λae=>
 (Ac false 1 ae f).bind λaj=>
 (Ae .none .add aj (.i6 1)).bind λak=>
 (Ai a).bind λal=>
 (Ad 1 al).bind λam=>
 bK g (A8 (Af 1 am ak f)) λ_ an=>
 i [a,h,d] an) (
 AK (λj2=>
 (Ai a).bind λap=>
 (Ad 1 ap).bind λaq=>
 (Ac false 1 aq f).bind λar=>
 (Ae .none .eql ar d).bind λau=>
 Ak au (
 (Ae .none .add (.str [97]) h).bind λav=>
 bK g (Sh.f5 a av f) λax aw=>
 j2 [a,d] aw) (
 j2 [a,d] f)) (λvs H=>Sh.f6q g (ag vs 0) (ag vs 1) H))
noncomputable def Sh.f1h (b c:Ab)(a:Aa):Out:=
 (Ai b).bind λd=>
 (Ad 1 d).bind λe=>
 (Ac false 1 e a).bind λf=>
 Ap (λg vs H=>Sh.f6r a g (ag vs 0) (ag vs 1) (ag vs 2) H) AU [b,c,f] a
noncomputable def Sh.f22 (e:Ab)(a:Aa):Out:=
 (A6 (some [(.i6 0),(.str [])]) [(0,1,(.i6 4)),(1,1,(.str []))]).bind λb=>
 (Te HI b).bind λc=>
 bK a (panA c a) λ_ d=>
 rK a (.tup []) d
noncomputable def Sh.f3l (c b:Ab)(d:Aa):Out:=
 (CK c).bind λe=>
 (CK b).bind λf=>
 (Ae .none .geq e f).bind λa=>
 gk a true (some c) λg=>
 gk a true (some b) λh=>
 gk a true (CK h) λi=>
 gk a true (BZ g none (some i)) λj=>
 gk a true (some b) λk=>
 gk a true (Ae .none .eql j k) λl=>
 (AF a l (.bool false)).bind λm=>
 rK d m d
noncomputable def Sh.f6s (b c:Ab)(a:Aa):Out:=
 bK a (Sh.f3l b c a) λe d=>
 (unA .not e).bind λf=>
 Ak f (
 rK a (.tup [b,(.bool false)]) d) (
 (CK c).bind λg=>
 (BZ b (some g) none).bind λh=>
 rK a (.tup [h,(.bool true)]) d)
noncomputable def Sh.f3m (c d:Ab)(a:Aa):Out:=
 bK a (Sh.f6s c d a) λb e=>
 (Aq 0 b).bind λf=>
 (Aq 1 b).bind λg=>
 rK a (.tup [f,g]) e
noncomputable def Sh.f3n (d c:Ab)(a:Aa):Out:=
 (Ae .none .lss c (.i6 0)).bind λb=>
 gk b false (some c) λh=>
 gk b false (some d) λi=>
 gk b false (CK i) λj=>
 gk b false (Ae .none .gtr h j) λk=>
 (AF b (.bool true) k).bind λl=>
 Ak l (
 rK a (.i6 0) a) (
 (BZ d (some c) none).bind λe=>
 bK a (Sh.f20 e (.fn 235 []) a) λf g=>
 (Ae .none .lss f (.i6 0)).bind λm=>
 Ak m (
 (CK e).bind λn=>
 rK a n g) (
 rK a f g))
noncomputable def Sh.f6t (a:Aa)(k:LK)(e f b g h i c:Ab)(d:Aa):Out:=
 (Ae .none .lss c i).bind λl=>
 Ak l (
 (Av 1 h c).bind λm=>
 (Ac false 1 m d).bind λn=>
 (AJ .u64 n).bind λo=>
 (AJ .u64 f).bind λp=>
 (Ae .none .mul o p).bind λq=>
 (Ae .none .add g q).bind λj=>
 (AJ .u32 j).bind λr=>
 (Av 1 b c).bind λs=>
 bP a (A8 (Af 1 s r d)) λ_ t=>
 (Ae .none .shr j (.int .u64 32)).bind λu=>
 (Ae .none .add c (.i6 1)).bind λv=>
 k [e,f,b,u,h,i,v] t) (
 (A7 e).bind λw=>
 (AJ .u32 g).bind λx=>
 (Av 1 b w).bind λy=>
 bP a (A8 (Af 1 y x d)) λ_ z=>
 bP a (Sh.f1 b z) λaa ab=>
 rPN a aa ab)
noncomputable def Sh.f3o (a d e:Ab)(b:Aa):Out:=
 (A7 a).bind λf=>
 (Ae .none .add f (.i6 1)).bind λc=>
 An (FA 1 4 (some [(.int .u32 0)]) c c b) λg h=>
 (AJ .u64 e).bind λi=>
 (A7 a).bind λj=>
 Ap (λk vs H=>Sh.f6t b k (ag vs 0) (ag vs 1) (ag vs 2) (ag vs 3) (ag vs 4) (ag vs 5) (ag vs 6) H) AU [a,d,g,i,a,j,(.i6 0)] h
noncomputable def Sh.f3p (a:Aa)(i:LK)(b c d e:Ab)(j:Aa):Out:=
 bP a (Cb (O3 e j)) λf g=>
 (Aq 0 f).bind λk=>
 Ak k (
 (Aq 2 f).bind λl=>
 (Ae .none .sub l (.int .i32 48)).bind λm=>
 (AJ .u32 m).bind λn=>
 bP a (Sh.f3o d (.int .u32 10) n g) λo p=>
 i [b,c,o,e] p) (
 (A6 (some [(.bool false),(.sl [] .ti)]) [(0,1,c),(1,1,d)]).bind λq=>
 bP a (A8 (Af 2 b q g)) λ_ h=>
 (Eh [Ac true 2 b h,some (.i6 0)]).bind λr=>rPN a r h)
noncomputable def Sh.f6u (a:Aa)(b d g h:Ab)(c:Aa):Out:=
 Ak h (
 (A6 (some [(.bool false),(.sl [] .ti)]) []).bind λi=>
 bP a (A8 (Af 2 b i c)) λ_ e=>
 (Eh [Ac true 2 b e,some (.i6 2)]).bind λj=>rPN a j e) (
 (CK d).bind λk=>
 (Ae .none .gtr k (.i6 400)).bind λl=>
 Ak l (
 (A6 (some [(.bool false),(.sl [] .ti)]) []).bind λm=>
 bP a (A8 (Af 2 b m c)) λ_ f=>
 (Eh [Ac true 2 b f,some (.i6 4)]).bind λn=>rPN a n f) (
 bP a (Cb (NU d c)) λo p=>
 Ap (λq vs H=>Sh.f3p a q (ag vs 0) (ag vs 1) (ag vs 2) (ag vs 3) H) AU [b,g,(.sl [] .ti),o] p))
noncomputable def Sh.f3q (f:Ab)(b:Aa):Out:=
 An (Az (some [(.bool false),(.sl [] .ti)]) b) λc l=>
 bP b (Sh.f3m f (.str [45]) l) λg h=>
 (Aq 0 g).bind λa=>
 (Aq 1 g).bind λd=>
 AK (λj1=>
 (Ae .none .eql a (.str [])).bind λi=>
 Ak i (
 j1 [c,a,d,i] h) (
 bP b (Sh.f3n a (.i6 0) h) λm j=>
 (CK a).bind λn=>
 (Ae .none .lss m n).bind λk=>
 Ak k (
 j1 [c,a,d,k] j) (
 (Es a (.i6 0)).bind λo=>
 (Ae .none .eql o (.int .u8 48)).bind λe=>
 gk e true (some f) λp=>
 gk e true (Ae .none .neq p (.str [48])) λq=>
 (AF e q (.bool false)).bind λr=>
 j1 [c,a,d,r] j))) (λvs H=>Sh.f6u b (ag vs 0) (ag vs 1) (ag vs 2) (ag vs 3) H)
noncomputable def Sh.f3r (c:Aa)(d:LK)(a e f g h:Ab)(b:Aa):Out:=
 (Ai a).bind λi=>
 (Ad 1 i).bind λj=>
 (Ac false 1 j b).bind λk=>
 (Ae .none .add k (.i6 1)).bind λl=>
 (Ai a).bind λm=>
 (Ad 1 m).bind λn=>
 bK c (A8 (Af 1 n l b)) λ_ o=>
 d [a,e,f,g,h] o
noncomputable def Sh.f23 (b:Aa)(c d i:Ab)(a:Aa):Out:=
 (Ai c).bind λj=>
 (Ad 0 j).bind λk=>
 bC (Ac false 1 k a) (λ_=>True) λl=>
 (Ai c).bind λm=>
 (Ad 1 m).bind λn=>
 bC (Ac false 1 n a) (λ_=>True) λo=>
 (BZ l (some i) (some o)).bind λp=>
 Bc (Sh.f3q p a) λe q=>
 (Aq 0 e).bind λr=>
 An (Az (some [(.bool false),(.sl [] .ti)]) q) λf s=>
 Bc (A8 (Af 2 f r s)) λ_ g=>
 (Aq 1 e).bind λv=>
 (Ac true 2 f g).bind λt=>
 bK b (A8 (Af 2 d t g)) λ_ h=>
 (Ac true 2 d h).bind λu=>rKN b u h
noncomputable def Sh.f3s (e:Aa)(i:LK)(a h f g d:Ab)(j:Aa):Out:=
 bK e (Sh.f4 a (.str [48,49,50,51,52,53,54,55,56,57]) j) λk b=>
 Ak k (
 AK (λj3=>
 (Ai a).bind λl=>
 (Ad 1 l).bind λm=>
 (Ac false 1 m b).bind λn=>
 (Ae .none .gtr n d).bind λc=>
 gk c true (some a) λo=>
 gk c true (Ai o) λp=>
 gk c true (Ad 0 p) λq=>
 gk c true (Ac false 1 q b) λr=>
 gk c true (some d) λs=>
 gk c true (Es r s) λt=>
 gk c true (Ae .none .eql t (.int .u8 48)) λu=>
 (AF c u (.bool false)).bind λv=>
 Ak v (
 bK e (Sh.f5 a (.str []) b) λan w=>
 j3 [a,h,f,g,d] w) (
 (Ai a).bind λx=>
 (Ad 1 x).bind λy=>
 (Ac false 1 y b).bind λz=>
 (Ae .none .sub z d).bind λaa=>
 (Ae .none .eql aa (.i6 400)).bind λab=>
 Ak ab (
 bK e (Sh.f22 a b) λap ac=>
 j3 [a,h,f,g,d] ac) (
 j3 [a,h,f,g,d] b))) (λvs H=>Sh.f3r e i (ag vs 0) (ag vs 1) (ag vs 2) (ag vs 3) (ag vs 4) H)) (
 AK (λj4=>
 (Ai a).bind λad=>
 (Ad 1 ad).bind λae=>
 (Ac false 1 ae b).bind λaj=>
 (Ae .none .eql aj d).bind λak=>
 Ak ak (
 (Ae .none .add (.str [49]) h).bind λal=>
 bK e (Sh.f5 a al b) λaq am=>
 j4 [a,f,g] am) (
 j4 [a,f,g] b)) (λvs H=>Sh.f23 e (ag vs 0) (ag vs 1) (ag vs 2) H))
noncomputable def Sh.f3t (c:Aa)(a d e f:Ab)(b:Aa):Out:=
 (Ai a).bind λg=>
 (Ad 1 g).bind λh=>
 (Ac false 1 h b).bind λi=>
 Ap (λj vs H=>Sh.f3s c j (ag vs 0) (ag vs 1) (ag vs 2) (ag vs 3) (ag vs 4) H) AU [a,d,e,f,i] b
noncomputable def Sh.f13 (a c d:Ab)(b:Aa):Out:=
 An (Az (some [(.bool false),(.sl [] .ti)]) b) λe f=>
 (Ai a).bind λj=>
 (Ad 1 j).bind λk=>
 (Ac false 1 k f).bind λg=>
 AK (λj1=>
 gk c true (some a) λl=>
 gbK b c true f (Sh.f4 l (.str [45]) f) λm h=>
 (AF c m (.bool false)).bind λn=>
 Ak n (
 (Ai a).bind λo=>
 (Ad 1 o).bind λp=>
 (Ac false 1 p h).bind λq=>
 (Ae .none .add q (.i6 1)).bind λr=>
 (Ai a).bind λs=>
 (Ad 1 s).bind λt=>
 bK b (A8 (Af 1 t r h)) λ_ u=>
 bK b (Sh.f4 a (.str [48]) u) λv i=>
 Ak v (
 bK b (Sh.f5 a (.str []) i) λx w=>
 j1 [a,d,e,g] w) (
 j1 [a,d,e,g] i)) (
 j1 [a,d,e,g] h)) (λvs H=>Sh.f3t b (ag vs 0) (ag vs 1) (ag vs 2) (ag vs 3) H)
noncomputable def Sh.f3u (b:Ab)(a:Aa):Out:=
 (Ai b).bind λg=>
 (Ad 0 g).bind λh=>
 (Ad 1 h).bind λi=>
 (Ac false 1 i a).bind λj=>
 (Ae .none .add j (.i6 1)).bind λk=>
 (Ai b).bind λl=>
 (Ad 0 l).bind λm=>
 (Ad 1 m).bind λn=>
 bK a (A8 (Af 1 n k a)) λ_ o=>
 (Ai b).bind λp=>
 (Ad 0 p).bind λq=>
 bK a (Sh.f4 q (.str [68]) o) λr d=>
 Ak r (
 (Ai b).bind λs=>
 (Ad 0 s).bind λt=>
 bK a (Sh.f3j t d) λca u=>
 rK a (.tup []) u) (
 (Ai b).bind λv=>
 (Ad 0 v).bind λw=>
 bK a (Sh.f4 w (.str [78]) d) λx c=>
 Ak x (
 (Ai b).bind λy=>
 (Ad 0 y).bind λz=>
 (Ad 1 z).bind λaa=>
 (Ac false 1 aa c).bind λab=>
 (Ae .none .add ab (.i6 1)).bind λac=>
 (Ai b).bind λad=>
 (Ad 0 ad).bind λae=>
 (Ad 1 ae).bind λaj=>
 bK a (A8 (Af 1 aj ac c)) λ_ ak=>
 (Ai b).bind λal=>
 (Ad 4 al).bind λam=>
 bK a (A8 (Af 1 am (.str [66,51,47,83,50,51]) ak)) λ_ an=>
 rK a (.tup []) an) (
 (Ai b).bind λap=>
 (Ad 0 ap).bind λaq=>
 bK a (Sh.f4 aq (.str [82]) c) λar e=>
 Ak ar (
 (Ai b).bind λau=>
 (Ad 0 au).bind λav=>
 bK a (Sh.fb av (.str [82,32]) (.str [97]) e) λcb aw=>
 (Ai b).bind λax=>
 (Ad 0 ax).bind λay=>
 bK a (Sh.f1h ay (.str []) aw) λaz a0=>
 (Ai b).bind λa1=>
 (Ad 4 a1).bind λa2=>
 bK a (A8 (Af 1 a2 az a0)) λ_ a3=>
 rK a (.tup []) a3) (
 (Ai b).bind λa4=>
 (Ad 0 a4).bind λa5=>
 bK a (Sh.f4 a5 (.str [80]) e) λa6 f=>
 Ak a6 (
 (Ai b).bind λa7=>
 (Ad 0 a7).bind λa8=>
 bK a (Sh.fb a8 (.str [80,32]) (.str [49,32,49]) f) λcc a9=>
 (Ai b).bind λba=>
 (Ad 0 ba).bind λbb=>
 (Ai b).bind λbc=>
 (Ad 6 bc).bind λbd=>
 bK a (Sh.f13 bb (.bool true) (.str [32,49]) a9) λbe bg=>
 (B5 2 2 bd (.i6 0)).bind λbj=>
 bK a (A8 (Af 2 bj be bg)) λ_ bk=>
 (Ai b).bind λbl=>
 (Ad 0 bl).bind λbm=>
 bK a (Sh.fb bm (.str [32]) (.str [49]) bk) λcd bp=>
 (Ai b).bind λbq=>
 (Ad 0 bq).bind λbr=>
 (Ai b).bind λbt=>
 (Ad 6 bt).bind λbu=>
 bK a (Sh.f13 br (.bool true) (.str []) bp) λbv bw=>
 (B5 2 2 bu (.i6 1)).bind λbz=>
 bK a (A8 (Af 2 bz bv bw)) λ_ b0=>
 (Ai b).bind λb1=>
 (Ad 5 b1).bind λb2=>
 bK a (A8 (Af 1 b2 (.bool true) b0)) λ_ b3=>
 (Ai b).bind λb4=>
 (Ad 10 b4).bind λb5=>
 bK a (A8 (Af 1 b5 (.i6 0) b3)) λ_ b6=>
 rK a (.tup []) b6) (
 (Ai b).bind λb7=>
 (Ad 0 b7).bind λb8=>
 bK a (Sh.f5 b8 (.str [78]) f) λce b9=>
 rK a (.tup []) b9))))
noncomputable def Sh.f24 (b:Ab)(a:Aa):Out:=
 (Rn .eql b).bind λc=>
 Ak c (
 rK a (.sl [] .ti) a) (
 (AS 1 []).bind λd=>
 bK a (Cb (Gd Ce 1 4 d b a)) λe f=>
 rK a e f)
noncomputable def Sh.f3v (b:Ab)(a:Aa):Out:=
 bP a (Sh.f24 b a) λc d=>
 bP a (Sh.f1 c d) λe f=>
 rPN a e f
noncomputable def Sh.fc (a c:Ab)(b:Aa):Out:=
 An (Az (some [(.bool false),(.sl [] .ti)]) b) λd f=>
 gk a true (some c) λg=>
 gk a true (A7 g) λh=>
 gk a true (Ae .none .gtr h (.i6 0)) λi=>
 (AF a i (.bool false)).bind λj=>
 (A6 (some [(.bool false),(.sl [] .ti)]) [(0,1,j),(1,1,c)]).bind λk=>
 bP b (A8 (Af 2 d k f)) λ_ e=>
 (Ac true 2 d e).bind λl=>rPN b l e
noncomputable def Sh.f6v (a:Aa)(e b c:Ab)(f:Aa):Out:=
 (Ae .none .lss e (.i6 0)).bind λg=>
 (AJ .u32 c).bind λh=>
 (Ae .none .shr c (.int .u64 32)).bind λi=>
 (AJ .u32 i).bind λj=>
 (AS 1 [h,j]).bind λk=>
 bP a (Sh.f3v k f) λl m=>
 bP a (Sh.fc g l m) λn o=>
 bP a (A8 (Af 2 b n o)) λ_ d=>
 (Ac true 2 b d).bind λp=>rPN a p d
noncomputable def Sh.f14 (a:Ab)(b:Aa):Out:=
 An (Az (some [(.bool false),(.sl [] .ti)]) b) λc d=>
 (AJ .u64 a).bind λe=>
 AK (λj1=>
 (Ae .none .lss a (.i6 0)).bind λf=>
 Ak f (
 (unA .neg e).bind λg=>
 j1 [a,c,g] d) (
 j1 [a,c,e] d)) (λvs H=>Sh.f6v b (ag vs 0) (ag vs 1) (ag vs 2) H)
noncomputable def Sh.f3w (c d e:Ab)(a:Aa):Out:=
 (AJ .u64 c).bind λf=>
 (AJ .u64 d).bind λg=>
 (Ae .none .add f g).bind λh=>
 (AJ .u64 e).bind λi=>
 (Ae .none .add h i).bind λb=>
 (AJ .u32 b).bind λj=>
 (Ae .none .shr b (.int .u64 32)).bind λk=>
 (AJ .u32 k).bind λl=>
 rK a (.tup [j,l]) a
noncomputable def Sh.f7r (a:Aa)(d:LK)(e f b g h i j k l m:Ab)(n:Aa):Out:=
 bP a (Sh.f3w i j g n) λc o=>
 (Aq 0 c).bind λp=>
 (Aq 1 c).bind λq=>
 (Av 1 b h).bind λr=>
 bP a (A8 (Af 1 r p o)) λ_ s=>
 (Ae .none .add m (.i6 1)).bind λt=>
 d [e,f,b,q,k,l,t] s
noncomputable def Sh.f3x (c:Aa)(k:LK)(f d e g h i a:Ab)(b:Aa):Out:=
 (Ae .none .lss a i).bind λl=>
 Ak l (
 (Av 1 h a).bind λm=>
 (Ac false 1 m b).bind λj=>
 AK (λj3=>
 (A7 d).bind λn=>
 (Ae .none .lss a n).bind λo=>
 Ak o (
 (Av 1 d a).bind λp=>
 (Ac false 1 p b).bind λq=>
 j3 [f,d,e,g,a,j,q,h,i,a] b) (
 j3 [f,d,e,g,a,j,(.int .u32 0),h,i,a] b)) (λvs H=>Sh.f7r c k (ag vs 0) (ag vs 1) (ag vs 2) (ag vs 3) (ag vs 4) (ag vs 5) (ag vs 6) (ag vs 7) (ag vs 8) (ag vs 9) H)) (
 (A7 f).bind λr=>
 (Av 1 e r).bind λs=>
 bP c (A8 (Af 1 s g b)) λ_ t=>
 bP c (Sh.f1 e t) λu v=>
 rPN c u v)
noncomputable def Sh.f6w (c:Aa)(a d:Ab)(e:Aa):Out:=
 (A7 a).bind λf=>
 (Ae .none .add f (.i6 1)).bind λb=>
 An (FA 1 4 (some [(.int .u32 0)]) b b e) λg h=>
 (A7 a).bind λi=>
 Ap (λj vs H=>Sh.f3x c j (ag vs 0) (ag vs 1) (ag vs 2) (ag vs 3) (ag vs 4) (ag vs 5) (ag vs 6) H) AU [a,d,g,(.int .u32 0),a,i,(.i6 0)] h
noncomputable def Sh.f3y (a b:Ab)(c:Aa):Out:=
 AK (λj1=>
 (A7 a).bind λd=>
 (A7 b).bind λe=>
 (Ae .none .lss d e).bind λf=>
 Ak f (
 j1 [b,a] c) (
 j1 [a,b] c)) (λvs H=>Sh.f6w c (ag vs 0) (ag vs 1) H)
noncomputable def Sh.f25 (a b e:Ab)(c:Aa):Out:=
 (Ae .none .sub a b).bind λf=>
 (Ae .none .sub f e).bind λd=>
 (unA .xor a).bind λg=>
 (Ae .none .and g b).bind λh=>
 (Ae .none .xor a b).bind λi=>
 (unA .xor i).bind λj=>
 (Ae .none .and j d).bind λk=>
 (Ae .none .or h k).bind λl=>
 (Ae .none .shr l (.int .u64 31)).bind λm=>
 rK c (.tup [d,m]) c
noncomputable def Sh.f7s (b:Aa)(f:LK)(g a h c i j k:Ab)(d:Aa):Out:=
 (Av 1 a c).bind λl=>
 (Ac false 1 l d).bind λm=>
 bP b (Sh.f25 m i h d) λe n=>
 (Aq 0 e).bind λo=>
 (Aq 1 e).bind λp=>
 (Av 1 a c).bind λq=>
 bP b (A8 (Af 1 q o n)) λ_ r=>
 (Ae .none .add k (.i6 1)).bind λs=>
 f [g,a,p,j,s] r
noncomputable def Sh.f26 (d:Aa)(h:LK)(b e g f a:Ab)(c:Aa):Out:=
 (Ae .none .lss a f).bind λi=>
 Ak i (
 AK (λj2=>
 (A7 b).bind λj=>
 (Ae .none .lss a j).bind λk=>
 Ak k (
 (Av 1 b a).bind λl=>
 (Ac false 1 l c).bind λm=>
 j2 [b,e,g,a,m,f,a] c) (
 j2 [b,e,g,a,(.int .u32 0),f,a] c)) (λvs H=>Sh.f7s d h (ag vs 0) (ag vs 1) (ag vs 2) (ag vs 3) (ag vs 4) (ag vs 5) (ag vs 6) H)) (
 bP d (Sh.f1 e c) λn o=>
 rPN d (.tup [n,(.bool true)]) o)
noncomputable def Sh.f3z (b c:Ab)(a:Aa):Out:=
 bP a (Sh.fq b c a) λf d=>
 (Ae .none .lss f (.i6 0)).bind λg=>
 Ak g (
 rPN a (.tup [(.sl [] .ti),(.bool false)]) d) (
 bP a (Sh.f24 b d) λe h=>
 (A7 e).bind λi=>
 Ap (λj vs H=>Sh.f26 a j (ag vs 0) (ag vs 1) (ag vs 2) (ag vs 3) (ag vs 4) H) AU [c,e,(.int .u32 0),i,(.i6 0)] h)
noncomputable def Sh.f6x (a:Aa)(c h d:Ab)(b:Aa):Out:=
 (Ad 1 c).bind λi=>
 (Ac false 1 i b).bind λj=>
 (Ad 1 h).bind λk=>
 (Ac false 1 k b).bind λl=>
 bP a (Sh.f3z j l b) λe f=>
 (Aq 0 e).bind λm=>
 (Aq 1 e).bind λs=>
 (Ad 0 c).bind λn=>
 (Ac false 1 n f).bind λo=>
 bP a (Sh.fc o m f) λp q=>
 bP a (A8 (Af 2 d p q)) λ_ g=>
 (Ac true 2 d g).bind λr=>rPN a r g
noncomputable def Sh.fs (k l:Ab)(c:Aa):Out:=
 An (BD true 2 k c) λb m=>
 An (BD true 2 l m) λd n=>
 An (Az (some [(.bool false),(.sl [] .ti)]) n) λe a=>
 (Ad 0 b).bind λo=>
 (Ac false 1 o a).bind λp=>
 (Ad 0 d).bind λq=>
 (Ac false 1 q a).bind λr=>
 (Ae .bool .eql p r).bind λs=>
 Ak s (
 (Ad 1 b).bind λt=>
 bC (Ac false 1 t a) (λ_=>True) λu=>
 (Ad 1 d).bind λv=>
 bC (Ac false 1 v a) (λ_=>True) λw=>
 Bc (Sh.f3y u w a) λx h=>
 (Ad 0 b).bind λi=>
 bC (Ac false 1 i h) (λg=>Ac false 1 i a=some g/\True) λg=>
 Bc (Sh.fc g x h) λy z=>
 bP c (A8 (Af 2 e y z)) λ_ j=>
 (Ac true 2 e j).bind λaa=>rPN c aa j) (
 AK (λj1=>
 (Ad 1 b).bind λab=>
 (Ac false 1 ab a).bind λac=>
 (Ad 1 d).bind λad=>
 (Ac false 1 ad a).bind λae=>
 bP c (Sh.fq ac ae a) λaj f=>
 (Ae .none .lss aj (.i6 0)).bind λak=>
 Ak ak (
 (Ac true 2 d f).bind λal=>
 (Ac true 2 b f).bind λam=>
 bP c (A8 (Af 2 b al f)) λ_ an=>
 bP c (A8 (Af 2 d am an)) λ_ ap=>
 j1 [b,d,e] ap) (
 j1 [b,d,e] f)) (λvs H=>Sh.f6x c (ag vs 0) (ag vs 1) (ag vs 2) H))
noncomputable def Sh.f40 (c:Aa)(d:LK)(a e:Ab)(b:Aa):Out:=
 (Ai a).bind λf=>
 (Ad 0 f).bind λg=>
 (Ad 1 g).bind λh=>
 (Ac false 1 h b).bind λi=>
 (Ae .none .add i (.i6 1)).bind λj=>
 (Ai a).bind λk=>
 (Ad 0 k).bind λl=>
 (Ad 1 l).bind λm=>
 bK c (A8 (Af 1 m j b)) λ_ n=>
 (Ae .none .add e (.i6 1)).bind λo=>
 d [a,o] n
noncomputable def Sh.f6y (p:Aa)(j2:LK)(a m:Ab)(c:Aa):Out:=
 Bc (Sh.f14 m c) λq d=>
 (Ai a).bind λr=>
 (Ad 6 r).bind λs=>
 (B5 2 2 s (.i6 0)).bind λn=>
 bC (Ac true 2 n d) (λj=>Ac true 2 n c=some j/\True) λj=>
 Bc (Sh.fs j q d) λt g=>
 (Ai a).bind λu=>
 (Ad 10 u).bind λk=>
 bC (Ac false 1 k g) (λh=>Ac false 1 k d=some h/\Ac false 1 k c=some h/\True) λh=>
 Bc (Sh.f14 h g) λv l=>
 (Ai a).bind λw=>
 (Ad 6 w).bind λx=>
 (B5 2 2 x (.i6 1)).bind λi=>
 bC (Ac true 2 i l) (λe=>Ac true 2 i g=some e/\Ac true 2 i d=some e/\Ac true 2 i c=some e/\True) λe=>
 Bc (Sh.fs e v l) λy o=>
 (Ai a).bind λz=>
 (Ad 11 z).bind λf=>
 bC (Ac false 1 f o) (λb=>Ac false 1 f l=some b/\Ac false 1 f g=some b/\Ac false 1 f d=some b/\Ac false 1 f c=some b/\True) λb=>
 (A6 (some [(.bool false),(.sl [] .ti),(.bool false),(.sl [] .ti),(.int .u8 0)]) [(0,2,t),(2,2,y),(4,1,(.int .u8 1))]).bind λaa=>
 (AS 5 [aa]).bind λab=>
 Bc (Cb (AW AG 5 72 b ab o)) λac ad=>
 (Ai a).bind λae=>
 (Ad 11 ae).bind λaj=>
 bK p (A8 (Af 1 aj ac ad)) λ_ ak=>
 j2 [a,m] ak
noncomputable def Sh.f41 (c:Aa)(g:LK)(a e:Ab)(h:Aa):Out:=
 (Ai a).bind λi=>
 (Ad 0 i).bind λj=>
 bK c (Sh.f4 j (.str [46,42]) h) λk f=>
 Ak k (
 AK (λj2=>
 (Ai a).bind λl=>
 (Ad 0 l).bind λm=>
 bK c (Sh.f4 m (.str [42]) f) λn d=>
 Ak n (
 AK (λj3=>
 (Ai a).bind λo=>
 (Ad 2 o).bind λp=>
 (Ad 0 p).bind λq=>
 bC (Ac false 1 q d) (λ_=>True) λr=>
 (Ae .none .geq e r).bind λb=>
 gk b false (some a) λs=>
 gk b false (Ai s) λt=>
 gk b false (Ad 10 t) λu=>
 gkc b false (Ac false 1 u d) (λ_ _=>True) λv=>
 gk b false (some a) λw=>
 gk b false (Ai w) λx=>
 gk b false (Ad 2 x) λy=>
 gk b false (Ad 0 y) λz=>
 gkc b false (Ac false 1 z d) (λ_ _=>True) λaa=>
 gk b false (Ae .none .geq v aa) λab=>
 (AF b (.bool true) ab).bind λac=>
 Ak ac (
 (Ai a).bind λad=>
 (Ad 0 ad).bind λae=>
 bK c (Sh.f22 ae d) λau aj=>
 j3 [a,e] aj) (
 j3 [a,e] d)) (λvs H=>Sh.f6y c j2 (ag vs 0) (ag vs 1) H)) (
 j2 [a,e] d)) (λvs H=>Sh.f40 c g (ag vs 0) (ag vs 1) H)) (
 (Ai a).bind λak=>
 (Ad 10 ak).bind λal=>
 (Ac false 1 al f).bind λam=>
 (Ae .none .add am (.i6 1)).bind λan=>
 (Ai a).bind λap=>
 (Ad 10 ap).bind λaq=>
 bK c (A8 (Af 1 aq an f)) λ_ ar=>
 rK c (.tup []) ar)
noncomputable def Sh.f7t (b:Ab)(a:Aa):Out:=
 Ap (λc vs H=>Sh.f41 a c (ag vs 0) (ag vs 1) H) AU [b,(.i6 0)] a
noncomputable def Sh.f27 (b:Aa)(c:LK)(a:Ab)(d:Aa):Out:=
 (Ai a).bind λe=>
 (Ad 0 e).bind λf=>
 bK b (Sh.f1g f (.str []) d) λh g=>
 c [a] g
noncomputable def Sh.f42 (b:Aa)(e:LK)(a:Ab)(f:Aa):Out:=
 (Ai a).bind λg=>
 (Ad 0 g).bind λh=>
 bK b (Sh.fk h f) λi d=>
 (unA .not i).bind λj=>
 Ak j (
 AK (λj2=>
 (Ai a).bind λk=>
 (Ad 0 k).bind λl=>
 bK b (Sh.f4 l (.str [35]) d) λm c=>
 Ak m (
 bK b (Sh.f3u a c) λv n=>
 j2 [a] n) (
 (Ai a).bind λo=>
 (Ad 5 o).bind λp=>
 (Ac false 1 p c).bind λq=>
 Ak q (
 bK b (Sh.f7t a c) λw r=>
 j2 [a] r) (
 (Ai a).bind λs=>
 (Ad 0 s).bind λt=>
 bK b (Sh.f5 t (.str []) c) λx u=>
 j2 [a] u))) (λvs H=>Sh.f27 b e (ag vs 0) H)) (
 rK b (.tup []) d)
noncomputable def Sh.f1i (b:Ab)(a:Aa):Out:=
 (Ai b).bind λc=>
 (Ad 0 c).bind λd=>
 bK a (Sh.fb d (.str [35,76,105,102,101,32,49,46,48,53]) (.str []) a) λj e=>
 (Ai b).bind λf=>
 (Ad 0 f).bind λg=>
 bK a (Sh.f1g g (.str []) e) λk h=>
 Ap (λi vs H=>Sh.f42 a i (ag vs 0) H) AU [b] h
noncomputable def Sh.f28:Ab->Aa->Out:=Pk (ent 59 (ap1 Sh.f1i) noO)
noncomputable def Sh.f29 (c:Ab)(a:Aa):Out:=
 An (BD true 5 c a) λd b=>
 (Ad 4 d).bind λe=>
 (Ac false 1 e b).bind λf=>
 (Ae .none .eql f (.int .u8 0)).bind λg=>
 rP a g b
noncomputable def Sh.f2a (g:Ab)(c:Aa):Out:=
 An (BD true 2 g c) λd f=>
 (Ad 1 d).bind λh=>
 (Ac false 1 h f).bind λi=>
 bP c (Sh.fa i f) λa e=>
 gk a true (Ad 0 d) λj=>
 gk a true (Ac false 1 j e) λk=>
 gk a true (unA .not k) λl=>
 gk a true (some l) λb=>
 gk b false (Ad 1 d) λm=>
 gk b false (Ac false 1 m e) λn=>
 gk b false (A7 n) λo=>
 gk b false (Ae .none .gtr o (.i6 0)) λp=>
 gk a true (AF b (.bool true) p) λq=>
 (AF a q (.bool false)).bind λr=>
 rP c r e
noncomputable def Sh.f43 (f:Ab)(b:Aa):Out:=
 An (BD true 5 f b) λd e=>
 (Ad 0 d).bind λg=>
 (Ac true 2 g e).bind λh=>
 bP b (Sh.f2a h e) λi c=>
 (unA .not i).bind λa=>
 gk a false (Ad 2 d) λj=>
 gk a false (Ac true 2 j c) λk=>
 gbP b a false c (Sh.f2a k c) λl m=>
 gk a false (unA .not l) λn=>
 (AF a (.bool true) n).bind λo=>
 rP b o m
noncomputable def AH:Orc:=(ent 148 (ap1 Sh.f29) (ent 84 (ap1 Sh.f43) noO))
noncomputable def Sh.fl (b:Aa)(h:LK)(d e f a:Ab)(c:Aa):Out:=
 (Ae .none .lss a f).bind λi=>
 Ak i (
 (Av 5 d a).bind λj=>
 (Ac true 5 j c).bind λk=>
 bK b (DF AH e [k] c) λl g=>
 Ak l (
 rK b a g) (
 (Ae .none .add a (.i6 1)).bind λm=>
 h [d,e,f,m] g)) (
 rK b (.i6 (-1)) c)
noncomputable def Sh.fd (a c:Ab)(b:Aa):Out:=
 (A7 a).bind λd=>
 Ap (λe vs H=>Sh.fl b e (ag vs 0) (ag vs 1) (ag vs 2) (ag vs 3) H) AU [a,c,d,(.i6 0)] b
noncomputable def Sh.f44 (b c:Ab)(a:Aa):Out:=
 bK a (Sh.fd b c a) λd e=>
 (Ae .none .geq d (.i6 0)).bind λf=>
 rK a f e
noncomputable def Sh.f45 (b:Ab)(a:Aa):Out:=
 (Rn .eql b).bind λc=>
 Ak c (
 rK a (.sl [] .ti) a) (
 (AS 5 []).bind λd=>
 bK a (Cb (Gd AG 5 72 d b a)) λe f=>
 rK a e f)
noncomputable def Sh.f2b (e:Aa)(f:LK)(a b c:Ab)(d:Aa):Out:=
 (Ae .none .lss b c).bind λg=>
 Ak g (
 (Av 5 a c).bind λh=>
 bC (Ac true 5 h d) (λ_=>True) λi=>
 (Av 5 a b).bind λj=>
 bC (Ac true 5 j d) (λ_=>True) λk=>
 (Av 5 a b).bind λl=>
 Bc (A8 (Af 5 l i d)) λ_ m=>
 (Av 5 a c).bind λn=>
 bK e (A8 (Af 5 n k m)) λ_ o=>
 (Ae .none .add b (.i6 1)).bind λp=>
 (Ae .none .sub c (.i6 1)).bind λq=>
 f [a,p,q] o) (
 rK e (.tup []) d)
noncomputable def Sh.f1j (a:Ab)(b:Aa):Out:=
 (A7 a).bind λc=>
 (Ae .none .sub c (.i6 1)).bind λd=>
 Ap (λe vs H=>Sh.f2b b e (ag vs 0) (ag vs 1) (ag vs 2) H) AU [a,(.i6 0),d] b
noncomputable def Sh.f2c (f g:Ab)(b:Aa):Out:=
 An (BD true 2 f b) λc h=>
 An (BD true 2 g h) λd a=>
 (Ad 0 c).bind λi=>
 (Ac false 1 i a).bind λe=>
 gk e true (Ad 0 d) λj=>
 gk e true (Ac false 1 j a) λk=>
 (AF e k (.bool false)).bind λl=>
 Ak l (
 (Ad 1 d).bind λm=>
 (Ac false 1 m a).bind λn=>
 (Ad 1 c).bind λo=>
 (Ac false 1 o a).bind λp=>
 bP b (Sh.fq n p a) λq r=>
 rP b q r) (
 (Ad 0 c).bind λs=>
 (Ac false 1 s a).bind λt=>
 Ak t (
 rP b (.i6 (-1)) a) (
 (Ad 0 d).bind λu=>
 (Ac false 1 u a).bind λv=>
 Ak v (
 rP b (.i6 1) a) (
 (Ad 1 c).bind λw=>
 (Ac false 1 w a).bind λx=>
 (Ad 1 d).bind λy=>
 (Ac false 1 y a).bind λz=>
 bP b (Sh.fq x z a) λaa ab=>
 rP b aa ab)))
noncomputable def Sh.f6z (d:Aa)(h:LK)(b e f c:Ab)(a:Aa):Out:=
 (Ae .none .lss c f).bind λi=>
 Ak i (
 (Av 1 e c).bind λj=>
 (Ac false 1 j a).bind λg=>
 (Ae .none .neq g b).bind λk=>
 Ak k (
 rK d g a) (
 (Ae .none .add c (.i6 1)).bind λl=>
 h [b,e,f,l] a)) (
 rK d b a)
noncomputable def Sh.f46 (a:Ab)(b:Aa):Out:=
 (A7 a).bind λc=>
 Ap (λd vs H=>Sh.f6z b d (ag vs 0) (ag vs 1) (ag vs 2) (ag vs 3) H) AU [(.i6 0),a,c,(.i6 0)] b
noncomputable def Sh.f1k (j k:Ab)(e:Aa):Out:=
 An (BD true 5 j e) λf l=>
 An (BD true 5 k l) λg a=>
 (Ad 2 f).bind λm=>
 bC (Ac true 2 m a) (λ_=>True) λn=>
 (Ad 2 g).bind λo=>
 bC (Ac true 2 o a) (λ_=>True) λp=>
 Bc (Sh.f2c n p a) λq b=>
 (Ad 0 f).bind λh=>
 bC (Ac true 2 h b) (λc=>Ac true 2 h a=some c/\True) λc=>
 (Ad 0 g).bind λi=>
 bC (Ac true 2 i b) (λd=>Ac true 2 i a=some d/\True) λd=>
 Bc (Sh.f2c c d b) λr s=>
 (AS 1 [q,r]).bind λt=>
 Bc (Sh.f46 t s) λu v=>
 rP e u v
noncomputable def AD:Orc:=(ent 144 (ap2 Sh.f1k) noO)
noncomputable def Sh.f47 (j:Aa)(k:LK)(l:LK)(b f h g i c:Ab)(d:Aa):Out:=
 (Ae .none .gtr c f).bind λa=>
 gk a true (some g) λm=>
 gk a true (some b) λn=>
 gk a true (some c) λo=>
 gk a true (Av 5 n o) λp=>
 gkc a true (Ac true 5 p d) (λ_ _=>True) λq=>
 gk a true (some b) λr=>
 gk a true (some c) λs=>
 gk a true (Ae .none .sub s (.i6 1)) λt=>
 gk a true (Av 5 r t) λu=>
 gkc a true (Ac true 5 u d) (λ_ _=>True) λv=>
 gbN a true d (DF AD m [q,v] d) λw e=>
 gk a true (Ae .none .lss w (.i6 0)) λx=>
 (AF a x (.bool false)).bind λy=>
 Ak y (
 (Ae .none .sub c (.i6 1)).bind λz=>
 (Av 5 b z).bind λaa=>
 bC (Ac true 5 aa e) (λ_=>True) λab=>
 (Av 5 b c).bind λac=>
 bC (Ac true 5 ac e) (λ_=>True) λad=>
 (Av 5 b c).bind λae=>
 Bc (A8 (Af 5 ae ab e)) λ_ aj=>
 (Ae .none .sub c (.i6 1)).bind λak=>
 (Av 5 b ak).bind λal=>
 bK j (A8 (Af 5 al ad aj)) λ_ am=>
 (Ae .none .sub c (.i6 1)).bind λan=>
 l [b,f,h,g,i,an] am) (
 (Ae .none .add i (.i6 1)).bind λap=>
 k [b,f,h,g,ap] e)
noncomputable def Sh.f48 (b:Aa)(e:LK)(f g c h a:Ab)(d:Aa):Out:=
 (Ae .none .lss a c).bind λi=>
 Ak i (
 Ap (λj vs H=>Sh.f47 b e j (ag vs 0) (ag vs 1) (ag vs 2) (ag vs 3) (ag vs 4) (ag vs 5) H) AU [f,g,c,h,a,a] d) (
 rK b (.tup []) d)
noncomputable def Sh.fm (c a d e:Ab)(b:Aa):Out:=
 (Ae .none .add a (.i6 1)).bind λf=>
 Ap (λg vs H=>Sh.f48 b g (ag vs 0) (ag vs 1) (ag vs 2) (ag vs 3) (ag vs 4) H) AU [c,a,d,e,f] b
noncomputable def Sh.f49 (f:Aa)(h:LK)(b d e g a:Ab)(c:Aa):Out:=
 (Ae .none .lss a g).bind λi=>
 Ak i (
 (Ae .none .add d a).bind λj=>
 (Ae .none .add e a).bind λk=>
 (Av 5 b k).bind λl=>
 bC (Ac true 5 l c) (λ_=>True) λm=>
 (Ae .none .add d a).bind λn=>
 (Av 5 b n).bind λo=>
 bC (Ac true 5 o c) (λ_=>True) λp=>
 (Av 5 b j).bind λq=>
 Bc (A8 (Af 5 q m c)) λ_ r=>
 (Ae .none .add e a).bind λs=>
 (Av 5 b s).bind λt=>
 bK f (A8 (Af 5 t p r)) λ_ u=>
 (Ae .none .add a (.i6 1)).bind λv=>
 h [b,d,e,g,v] u) (
 rK f (.tup []) c)
noncomputable def Sh.f1l (b c d e g:Ab)(a:Aa):Out:=
 Ap (λf vs H=>Sh.f49 a f (ag vs 0) (ag vs 1) (ag vs 2) (ag vs 3) (ag vs 4) H) AU [b,c,d,e,(.i6 0)] a
noncomputable def Sh.f70 (f:Aa)(h:LK)(d b e a c:Ab)(g:Aa):Out:=
 (Ae .none .neq a c).bind λi=>
 Ak i (
 (Ae .none .gtr a c).bind λj=>
 Ak j (
 (Ae .none .sub b a).bind λk=>
 bK f (Sh.f1l d k b c e g) λu l=>
 (Ae .none .sub a c).bind λm=>
 h [d,b,e,m,c] l) (
 (Ae .none .sub b a).bind λn=>
 (Ae .none .add b c).bind λo=>
 (Ae .none .sub o a).bind λp=>
 bK f (Sh.f1l d n p a e g) λv q=>
 (Ae .none .sub c a).bind λr=>
 h [d,b,e,a,r] q)) (
 (Ae .none .sub b a).bind λs=>
 bK f (Sh.f1l d s b a e g) λw t=>
 rK f (.tup []) t)
noncomputable def Sh.f2d (c d a e f:Ab)(b:Aa):Out:=
 (Ae .none .sub a d).bind λg=>
 (Ae .none .sub e a).bind λh=>
 Ap (λi vs H=>Sh.f70 b i (ag vs 0) (ag vs 1) (ag vs 2) (ag vs 3) (ag vs 4) H) AU [c,a,f,g,h] b
noncomputable def Bh (self:Ab->Ab->Ab->Ab->Ab->Aa->Out):Orc:=ent 228 (ap5 self) (ent 144 (ap2 Sh.f1k) (ent 236 (ap5 Sh.f2d) noO))
noncomputable def Sh.f1m (d:Aa)(f:LK)(b e a:Ab)(c:Aa):Out:=
 (Ae .none .sub e (.i6 1)).bind λg=>
 (Ae .none .lss a g).bind λh=>
 Ak h (
 (Ae .none .add a (.i6 1)).bind λi=>
 (Av 5 b i).bind λj=>
 bC (Ac true 5 j c) (λ_=>True) λk=>
 (Av 5 b a).bind λl=>
 bC (Ac true 5 l c) (λ_=>True) λm=>
 (Av 5 b a).bind λn=>
 Bc (A8 (Af 5 n k c)) λ_ o=>
 (Ae .none .add a (.i6 1)).bind λp=>
 (Av 5 b p).bind λq=>
 bK d (A8 (Af 5 q m o)) λ_ r=>
 (Ae .none .add a (.i6 1)).bind λs=>
 f [b,e,s] r) (
 rK d (.tup []) c)
noncomputable def Sh.f1n (j:Aa)(self:Ab->Ab->Ab->Ab->Ab->Aa->Out)(h:LK)(a b e c f:Ab)(d:Aa):Out:=
 (Ae .none .lss c f).bind λk=>
 Ak k (
 (Ae .none .add c f).bind λl=>
 (AJ .u64 l).bind λm=>
 (Ae .none .shr m (.int .u64 1)).bind λn=>
 (AJ .i64 n).bind λg=>
 (Av 5 a g).bind λo=>
 bC (Ac true 5 o d) (λ_=>True) λp=>
 (Av 5 a b).bind λq=>
 bC (Ac true 5 q d) (λ_=>True) λr=>
 Bc (DF (Bh self) e [p,r] d) λs i=>
 (Ae .none .lss s (.i6 0)).bind λt=>
 Ak t (
 (Ae .none .add g (.i6 1)).bind λu=>
 h [a,b,e,u,f] i) (
 h [a,b,e,c,g] i)) (
 Ap (λv vs H=>Sh.f1m j v (ag vs 0) (ag vs 1) (ag vs 2) H) AU [a,c,b] d)
noncomputable def Sh.f1o (d:Aa)(f:LK)(b e a:Ab)(c:Aa):Out:=
 (Ae .none .gtr a e).bind λg=>
 Ak g (
 (Ae .none .sub a (.i6 1)).bind λh=>
 (Av 5 b h).bind λi=>
 bC (Ac true 5 i c) (λ_=>True) λj=>
 (Av 5 b a).bind λk=>
 bC (Ac true 5 k c) (λ_=>True) λl=>
 (Av 5 b a).bind λm=>
 Bc (A8 (Af 5 m j c)) λ_ n=>
 (Ae .none .sub a (.i6 1)).bind λo=>
 (Av 5 b o).bind λp=>
 bK d (A8 (Af 5 p l n)) λ_ q=>
 (Ae .none .sub a (.i6 1)).bind λr=>
 f [b,e,r] q) (
 rK d (.tup []) c)
noncomputable def Sh.f1p (j:Aa)(self:Ab->Ab->Ab->Ab->Ab->Aa->Out)(h:LK)(a b e c f:Ab)(d:Aa):Out:=
 (Ae .none .lss c f).bind λk=>
 Ak k (
 (Ae .none .add c f).bind λl=>
 (AJ .u64 l).bind λm=>
 (Ae .none .shr m (.int .u64 1)).bind λn=>
 (AJ .i64 n).bind λg=>
 (Av 5 a b).bind λo=>
 bC (Ac true 5 o d) (λ_=>True) λp=>
 (Av 5 a g).bind λq=>
 bC (Ac true 5 q d) (λ_=>True) λr=>
 Bc (DF (Bh self) e [p,r] d) λs i=>
 (Ae .none .lss s (.i6 0)).bind λt=>
 (unA .not t).bind λu=>
 Ak u (
 (Ae .none .add g (.i6 1)).bind λv=>
 h [a,b,e,v,f] i) (
 h [a,b,e,c,g] i)) (
 Ap (λw vs H=>Sh.f1o j w (ag vs 0) (ag vs 1) (ag vs 2) H) AU [a,c,b] d)
noncomputable def Sh.f4a (b:Aa)(self:Ab->Ab->Ab->Ab->Ab->Aa->Out)(g d h e c:Ab)(f:Aa):Out:=
 (Ae .none .lss e c).bind λa=>
 gk a true (some c) λi=>
 gk a true (some d) λj=>
 gk a true (Ae .none .lss i j) λk=>
 (AF a k (.bool false)).bind λl=>
 Ak l (
 bK b (self g e c d h f) λn m=>
 rK b (.tup []) m) (
 rK b (.tup []) f)
noncomputable def Sh.f4b (f:Aa)(self:Ab->Ab->Ab->Ab->Ab->Aa->Out)(c g h d a e i:Ab)(j:Aa):Out:=
 AK (λj8=>
 (Ae .none .lss g e).bind λb=>
 gk b true (some e) λk=>
 gk b true (some a) λl=>
 gk b true (Ae .none .lss k l) λm=>
 (AF b m (.bool false)).bind λn=>
 Ak n (
 bK f (self c g e a d j) λp o=>
 j8 [c,h,d,a,i] o) (
 j8 [c,h,d,a,i] j)) (λvs H=>Sh.f4a f self (ag vs 0) (ag vs 1) (ag vs 2) (ag vs 3) (ag vs 4) H)
noncomputable def Sh.ff (o:Aa)(self:Ab->Ab->Ab->Ab->Ab->Aa->Out)(p:LK)(b f d g c h l a m n:Ab)(e:Aa):Out:=
 (Ae .none .lss a m).bind λr=>
 Ak r (
 (Ae .none .add a m).bind λs=>
 (AJ .u64 s).bind λt=>
 (Ae .none .shr t (.int .u64 1)).bind λu=>
 (AJ .i64 u).bind λi=>
 (Ae .none .sub n i).bind λv=>
 (Av 5 b v).bind λw=>
 bC (Ac true 5 w e) (λ_=>True) λx=>
 (Av 5 b i).bind λy=>
 bC (Ac true 5 y e) (λ_=>True) λz=>
 Bc (DF (Bh self) c [x,z] e) λaa q=>
 (Ae .none .lss aa (.i6 0)).bind λab=>
 (unA .not ab).bind λac=>
 Ak ac (
 (Ae .none .add i (.i6 1)).bind λad=>
 p [b,f,d,g,c,h,l,ad,m,n] q) (
 p [b,f,d,g,c,h,l,a,i,n] q)) (
 (Ae .none .sub l a).bind λj=>
 AK (λj7=>
 (Ae .none .lss a d).bind λk=>
 gk k true (some d) λae=>
 gk k true (some j) λaj=>
 gk k true (Ae .none .lss ae aj) λak=>
 (AF k ak (.bool false)).bind λal=>
 Ak al (
 bK o (Sh.f2d b a d j c e) λan am=>
 j7 [b,f,g,c,h,a,j] am) (
 j7 [b,f,g,c,h,a,j] e)) (λvs H=>Sh.f4b o self (ag vs 0) (ag vs 1) (ag vs 2) (ag vs 3) (ag vs 4) (ag vs 5) (ag vs 6) H))
noncomputable def Sh.f71 (b:Aa)(self:Ab->Ab->Ab->Ab->Ab->Aa->Out)(c d e f g h a i j:Ab)(k:Aa):Out:=
 (Ae .none .sub a (.i6 1)).bind λl=>
 Ap (λm vs H=>Sh.ff b self m (ag vs 0) (ag vs 1) (ag vs 2) (ag vs 3) (ag vs 4) (ag vs 5) (ag vs 6) (ag vs 7) (ag vs 8) (ag vs 9) H) AU [c,d,e,f,g,h,a,i,j,l] k
noncomputable def Sh.f72 (self:Ab->Ab->Ab->Ab->Ab->Aa->Out)(f b a d g:Ab)(c:Aa):Out:=
 (Ae .none .sub a b).bind λi=>
 (Ae .none .eql i (.i6 1)).bind λj=>
 Ak j (
 Ap (λk vs H=>Sh.f1n c self k (ag vs 0) (ag vs 1) (ag vs 2) (ag vs 3) (ag vs 4) H) AU [f,b,g,a,d] c) (
 (Ae .none .sub d a).bind λl=>
 (Ae .none .eql l (.i6 1)).bind λm=>
 Ak m (
 Ap (λn vs H=>Sh.f1p c self n (ag vs 0) (ag vs 1) (ag vs 2) (ag vs 3) (ag vs 4) H) AU [f,a,g,b,a] c) (
 (Ae .none .add b d).bind λo=>
 (AJ .u64 o).bind λp=>
 (Ae .none .shr p (.int .u64 1)).bind λq=>
 (AJ .i64 q).bind λe=>
 (Ae .none .add e a).bind λh=>
 AK (λj5=>
 (Ae .none .gtr a e).bind λr=>
 Ak r (
 (Ae .none .sub h d).bind λs=>
 j5 [f,b,a,d,g,e,h,s,e] c) (
 j5 [f,b,a,d,g,e,h,b,a] c)) (λvs H=>Sh.f71 c self (ag vs 0) (ag vs 1) (ag vs 2) (ag vs 3) (ag vs 4) (ag vs 5) (ag vs 6) (ag vs 7) (ag vs 8) H)))
noncomputable def Sh.f3:Nat->Ab->Ab->Ab->Ab->Ab->Aa->Out
 | 0=>λ_ _ _ _ _ _=>none
 | d+1=>Sh.f72 (Sh.f3 d)
noncomputable def Sh.f73 (h:Aa)(a:LK)(b c d e:Ab)(f:Aa):Out:=
 (Ae .none .mul e (.i6 2)).bind λg=>
 a [b,c,d,g] f
noncomputable def Sh.f1q (g:Aa)(j:LK)(k:LK)(c a d b e f:Ab)(h:Aa):Out:=
 (Ae .none .leq f a).bind λl=>
 Ak l (
 (Ae .none .add e b).bind λm=>
 bK g (Sh.f3 AU c e m f d h) λs n=>
 (Ae .none .mul (.i6 2) b).bind λo=>
 (Ae .none .add f o).bind λp=>
 k [c,a,d,b,f,p] n) (
 AK (λj4=>
 (Ae .none .add e b).bind λi=>
 (Ae .none .lss i a).bind λq=>
 Ak q (
 bK g (Sh.f3 AU c e i a d h) λt r=>
 j4 [c,a,d,b] r) (
 j4 [c,a,d,b] h)) (λvs H=>Sh.f73 g j (ag vs 0) (ag vs 1) (ag vs 2) (ag vs 3) H))
noncomputable def Sh.f15 (b:Aa)(e:LK)(f c g a:Ab)(d:Aa):Out:=
 (Ae .none .lss a c).bind λh=>
 Ak h (
 (Ae .none .mul (.i6 2) a).bind λi=>
 Ap (λj vs H=>Sh.f1q b e j (ag vs 0) (ag vs 1) (ag vs 2) (ag vs 3) (ag vs 4) (ag vs 5) H) AU [f,c,g,a,(.i6 0),i] d) (
 rK b (.tup []) d)
noncomputable def Sh.f2e (e:Aa)(i:LK)(a b c f g d:Ab)(h:Aa):Out:=
 (Ae .none .leq d b).bind λj=>
 Ak j (
 bK e (Sh.fm a g d c h) λo k=>
 (Ae .none .add d f).bind λl=>
 i [a,b,c,f,d,l] k) (
 bK e (Sh.fm a g b c h) λp m=>
 Ap (λn vs H=>Sh.f15 e n (ag vs 0) (ag vs 1) (ag vs 2) (ag vs 3) H) AU [a,b,c,f] m)
noncomputable def Sh.f1r (b c d:Ab)(a:Aa):Out:=
 Ap (λe vs H=>Sh.f2e a e (ag vs 0) (ag vs 1) (ag vs 2) (ag vs 3) (ag vs 4) (ag vs 5) H) AU [b,c,d,(.i6 20),(.i6 0),(.i6 20)] a
noncomputable def Sh.f1s (b c:Ab)(a:Aa):Out:=
 (A7 b).bind λd=>
 bK a (Sh.f1r b d c a) λf e=>
 rK a (.tup []) e
noncomputable def Sh.f4c (c d:Ab)(a:Aa):Out:=
 An (BD true 5 c a) λe f=>
 An (BD true 5 d f) λg b=>
 (Ac true 5 e b).bind λh=>
 (Ac true 5 g b).bind λi=>
 bP a (Sh.f1k h i b) λj k=>
 (Ae .none .eql j (.i6 0)).bind λl=>
 rP a l k
noncomputable def AM:Orc:=(ent 146 (ap2 Sh.f4c) noO)
noncomputable def Sh.f74 (i:Aa)(a:LK)(b c d e f:Ab)(g:Aa):Out:=
 (Ae .none .add f (.i6 1)).bind λh=>
 a [b,c,d,e,h] g
noncomputable def Sh.f1t (e:Aa)(i:LK)(c g d a b:Ab)(f:Aa):Out:=
 (A7 a).bind λj=>
 (Ae .none .lss b j).bind λk=>
 Ak k (
 AK (λj3=>
 (Av 5 a b).bind λl=>
 bC (Ac true 5 l f) (λ_=>True) λm=>
 (Ae .none .sub b (.i6 1)).bind λn=>
 (Av 5 a n).bind λo=>
 bC (Ac true 5 o f) (λ_=>True) λp=>
 Bc (DF AM g [m,p] f) λq h=>
 (unA .not q).bind λr=>
 Ak r (
 (Av 5 a b).bind λs=>
 (Ac true 5 s h).bind λt=>
 (Av 5 c d).bind λu=>
 bK e (A8 (Af 5 u t h)) λ_ v=>
 (Ae .none .add d (.i6 1)).bind λw=>
 j3 [c,g,w,a,b] v) (
 j3 [c,g,d,a,b] h)) (λvs H=>Sh.f74 e i (ag vs 0) (ag vs 1) (ag vs 2) (ag vs 3) (ag vs 4) H)) (
 (Bw 5 c (some d) none none).bind λx=>
 bK e (A8 (KT 5 (some [(.bool false),(.sl [] .ti),(.bool false),(.sl [] .ti),(.int .u8 0)]) x f)) λ_ y=>
 (Bw 5 c none (some d) none).bind λz=>
 rKN e z y)
noncomputable def Sh.f2f (d:Aa)(g:LK)(a e b:Ab)(c:Aa):Out:=
 (A7 a).bind λh=>
 (Ae .none .lss b h).bind λi=>
 Ak i (
 (Av 5 a b).bind λj=>
 bC (Ac true 5 j c) (λ_=>True) λk=>
 (Ae .none .sub b (.i6 1)).bind λl=>
 (Av 5 a l).bind λm=>
 bC (Ac true 5 m c) (λ_=>True) λn=>
 bK d (DF AM e [k,n] c) λo f=>
 Ak o (
 (Bw 5 a (some b) none none).bind λp=>
 Ap (λq vs H=>Sh.f1t d q (ag vs 0) (ag vs 1) (ag vs 2) (ag vs 3) (ag vs 4) H) AU [a,e,b,p,(.i6 1)] f) (
 (Ae .none .add b (.i6 1)).bind λr=>
 g [a,e,r] f)) (
 rKN d a c)
noncomputable def Sh.f16 (b c:Ab)(a:Aa):Out:=
 (A7 b).bind λd=>
 (Ae .none .lss d (.i6 2)).bind λe=>
 Ak e (
 rKN a b a) (
 Ap (λf vs H=>Sh.f2f a f (ag vs 0) (ag vs 1) (ag vs 2) H) AU [b,c,(.i6 1)] a)
noncomputable def Bd:Orc:=(ent 139 (ap2 Sh.fd) (ent 148 (ap1 Sh.f29) noO))
noncomputable def Sh.f75 (h:Aa)(a:LK)(b c d e:Ab)(f:Aa):Out:=
 (Ae .none .add e (.i6 1)).bind λg=>
 a [b,c,d,g] f
noncomputable def Sh.f2g (b:Aa)(j:LK)(a e c d:Ab)(f:Aa):Out:=
 (A7 a).bind λk=>
 (Ae .none .lss d k).bind λl=>
 Ak l (
 AK (λj2=>
 (Av 5 a d).bind λm=>
 (Ac true 5 m f).bind λn=>
 An (Az (some [(.bool false),(.sl [] .ti),(.bool false),(.sl [] .ti),(.int .u8 0)]) f) λg o=>
 bK b (A8 (Af 5 g n o)) λ_ i=>
 (Ac true 5 g i).bind λp=>
 bK b (DF Bd e [p] i) λq h=>
 (unA .not q).bind λr=>
 Ak r (
 (Ac true 5 g h).bind λs=>
 (Av 5 a c).bind λt=>
 bK b (A8 (Af 5 t s h)) λ_ u=>
 (Ae .none .add c (.i6 1)).bind λv=>
 j2 [a,e,v,d] u) (
 j2 [a,e,c,d] h)) (λvs H=>Sh.f75 b j (ag vs 0) (ag vs 1) (ag vs 2) (ag vs 3) H)) (
 (Bw 5 a (some c) none none).bind λw=>
 bK b (A8 (KT 5 (some [(.bool false),(.sl [] .ti),(.bool false),(.sl [] .ti),(.int .u8 0)]) w f)) λ_ x=>
 (Bw 5 a none (some c) none).bind λy=>
 rKN b y x)
noncomputable def Sh.f17 (b d:Ab)(a:Aa):Out:=
 bK a (Sh.fd b d a) λc e=>
 (Ae .none .eql c (.i6 (-1))).bind λf=>
 Ak f (
 rKN a b e) (
 (Ae .none .add c (.i6 1)).bind λg=>
 Ap (λh vs H=>Sh.f2g a h (ag vs 0) (ag vs 1) (ag vs 2) (ag vs 3) H) AU [b,d,c,g] e)
noncomputable def Sh.f4d (c:Ab)(a:Aa):Out:=
 bP a (Sh.f45 c a) λb d=>
 bP a (Sh.f1j b d) λk e=>
 bP a (Sh.f1s b (.fn 144 []) e) λl f=>
 bP a (Sh.f16 b (.fn 146 []) f) λg h=>
 bP a (Sh.f17 g (.fn 148 []) h) λi j=>
 rPN a i j
noncomputable def Sh.f2h (f:Ab)(a:Aa):Out:=
 An (BD true 2 f a) λc g=>
 An (Az (some [(.bool false),(.sl [] .ti)]) g) λd b=>
 (Ad 0 c).bind λh=>
 (Ac false 1 h b).bind λi=>
 (unA .not i).bind λj=>
 (Ad 1 c).bind λk=>
 (Ac false 1 k b).bind λl=>
 bP a (Sh.fc j l b) λm n=>
 bP a (A8 (Af 2 d m n)) λ_ e=>
 (Ac true 2 d e).bind λo=>rPN a o e
noncomputable def Sh.f4e (h i:Ab)(a:Aa):Out:=
 An (BD true 2 h a) λd j=>
 An (BD true 2 i j) λk l=>
 An (Az (some [(.bool false),(.sl [] .ti)]) l) λe b=>
 bC (Ac true 2 k b) (λ_=>True) λm=>
 Bc (Sh.f2h m b) λn f=>
 bC (Ac true 2 d f) (λc=>Ac true 2 d b=some c/\True) λc=>
 Bc (Sh.fs c n f) λo p=>
 bP a (A8 (Af 2 e o p)) λ_ g=>
 (Ac true 2 e g).bind λq=>rPN a q g
noncomputable def Sh.f76 (a:Aa)(b c:Ab)(d:Aa):Out:=
 (AJ .u8 b).bind λe=>
 (Es (.str [0,1,2,2,3,3,3,3,4,4,4,4,4,4,4,4,5,5,5,5,5,5,5,5,5,5,5,5,5,5,5,5,6,6,6,6,6,6,6,6,6,6,6,6,6,6,6,6,6,6,6,6,6,6,6,6,6,6,6,6,6,6,6,6,7,7,7,7,7,7,7,7,7,7,7,7,7,7,7,7,7,7,7,7,7,7,7,7,7,7,7,7,7,7,7,7,7,7,7,7,7,7,7,7,7,7,7,7,7,7,7,7,7,7,7,7,7,7,7,7,7,7,7,7,7,7,7,7,8,8,8,8,8,8,8,8,8,8,8,8,8,8,8,8,8,8,8,8,8,8,8,8,8,8,8,8,8,8,8,8,8,8,8,8,8,8,8,8,8,8,8,8,8,8,8,8,8,8,8,8,8,8,8,8,8,8,8,8,8,8,8,8,8,8,8,8,8,8,8,8,8,8,8,8,8,8,8,8,8,8,8,8,8,8,8,8,8,8,8,8,8,8,8,8,8,8,8,8,8,8,8,8,8,8,8,8,8,8,8,8,8,8,8,8,8,8,8,8,8,8,8,8,8,8,8,8]) e).bind λf=>
 (AJ .i64 f).bind λg=>
 (Ae .none .add c g).bind λh=>
 rK a h d
noncomputable def Sh.f77 (d:Aa)(a b:Ab)(c:Aa):Out:=
 AK (λj2=>
 (Ae .none .geq a (.int .u32 256)).bind λe=>
 Ak e (
 (Ae .none .shr a (.int .u64 8)).bind λf=>
 (Ae .none .add b (.i6 8)).bind λg=>
 j2 [f,g] c) (
 j2 [a,b] c)) (λvs H=>Sh.f76 d (ag vs 0) (ag vs 1) H)
noncomputable def Sh.f4f (a:Ab)(b:Aa):Out:=
 AK (λj1=>
 (Ae .none .geq a (.int .u32 65536)).bind λc=>
 Ak c (
 (Ae .none .shr a (.int .u64 16)).bind λd=>
 j1 [d,(.i6 16)] b) (
 j1 [a,(.i6 0)] b)) (λvs H=>Sh.f77 b (ag vs 0) (ag vs 1) H)
noncomputable def Sh.f4g (d:Ab)(a:Aa):Out:=
 bK a (Sh.f1 d a) λb c=>
 (A7 b).bind λe=>
 (Ae .none .eql e (.i6 0)).bind λf=>
 Ak f (
 rK a (.i6 0) c) (
 (A7 b).bind λg=>
 (Ae .none .sub g (.i6 1)).bind λh=>
 (Ae .none .mul h (.i6 32)).bind λi=>
 (A7 b).bind λj=>
 (Ae .none .sub j (.i6 1)).bind λk=>
 (Av 1 b k).bind λl=>
 (Ac false 1 l c).bind λm=>
 bK a (Sh.f4f m c) λn o=>
 (Ae .none .add i n).bind λp=>
 rK a p o)
noncomputable def Sh.f7u (a:Aa)(c:Ab)(b:Aa):Out:=
 (Ad 1 c).bind λd=>
 (Ac false 1 d b).bind λe=>
 bP a (Sh.f4g e b) λf g=>
 (Ae .none .add (.i6 1) f).bind λh=>
 rP a h g
noncomputable def Sh.f2i (d:Ab)(a:Aa):Out:=
 An (BD true 2 d a) λb c=>
 AK (λj1=>
 (Ad 0 b).bind λe=>
 (Ac false 1 e c).bind λf=>
 Ak f (
 (Ac true 2 b c).bind λg=>
 bP a (Sh.f2h g c) λh i=>
 bP a (Sh.f14 (.i6 1) i) λj k=>
 bP a (Sh.f4e h j k) λl m=>
 bP a (A8 (Af 2 b l m)) λ_ n=>
 j1 [b] n) (
 j1 [b] c)) (λvs H=>Sh.f7u a (ag vs 0) H)
noncomputable def Sh.f4h (b:Ab)(c:Aa):Out:=
 (Ae .none .geq b (.i6 0)).bind λa=>
 gk a true (some b) λd=>
 gk a true (Ae .none .leq d (.i6 10000)) λe=>
 (AF a e (.bool false)).bind λf=>
 rK c f c
noncomputable def Sh.f4i (b:Aa)(l:LK)(c a g h d:Ab)(e:Aa):Out:=
 (Ae .none .lss d h).bind λm=>
 Ak m (
 (Av 1 g d).bind λn=>
 (Ac false 1 n e).bind λi=>
 (Ae .none .quo c (.i6 32)).bind λo=>
 (Ae .none .add d o).bind λf=>
 (Av 1 a f).bind λp=>
 bC (Ac false 1 p e) (λ_=>True) λq=>
 (Ae .none .rem c (.i6 32)).bind λr=>
 (Ae .none .shl i r).bind λs=>
 (Ae .none .or q s).bind λt=>
 (Av 1 a f).bind λu=>
 bP b (A8 (Af 1 u t e)) λ_ j=>
 (Ae .none .add f (.i6 1)).bind λk=>
 (Av 1 a k).bind λv=>
 bC (Ac false 1 v j) (λ_=>True) λw=>
 bC (AJ .u64 i) (λ_=>True) λx=>
 (Ae .none .rem c (.i6 32)).bind λy=>
 (Ae .none .shl x y).bind λz=>
 (Ae .none .shr z (.int .u64 32)).bind λaa=>
 bC (AJ .u32 aa) (λ_=>True) λab=>
 (Ae .none .or w ab).bind λac=>
 (Av 1 a k).bind λad=>
 bP b (A8 (Af 1 ad ac j)) λ_ ae=>
 (Ae .none .add d (.i6 1)).bind λaj=>
 l [c,a,g,h,aj] ae) (
 bP b (Sh.f1 a e) λak al=>
 rPN b ak al)
noncomputable def Sh.f4j (b c:Ab)(a:Aa):Out:=
 bP a (Sh.f4h c a) λf d=>
 (unA .not f).bind λg=>
 Ak g (
 rPN a (.sl [] .ti) d) (
 (A7 b).bind λh=>
 (Ae .none .quo c (.i6 32)).bind λi=>
 (Ae .none .add h i).bind λj=>
 (Ae .none .add j (.i6 1)).bind λe=>
 An (FA 1 4 (some [(.int .u32 0)]) e e d) λk l=>
 (A7 b).bind λm=>
 Ap (λn vs H=>Sh.f4i a n (ag vs 0) (ag vs 1) (ag vs 2) (ag vs 3) (ag vs 4) H) AU [c,k,b,m,(.i6 0)] l)
noncomputable def Sh.f4k (d:Ab)(a:Aa):Out:=
 An (Az (some [(.bool false),(.sl [] .ti)]) a) λb e=>
 (AS 1 [(.int .u32 1)]).bind λf=>
 bP a (Sh.f4j f d e) λg h=>
 bP a (Sh.fc (.bool false) g h) λi j=>
 bP a (A8 (Af 2 b i j)) λ_ c=>
 (Ac true 2 b c).bind λk=>rPN a k c
noncomputable def Sh.f1u (e c:Ab)(d:Aa):Out:=
 (Ae .none .geq c (.i6 0)).bind λb=>
 gk b true (some c) λf=>
 gk b true (Ae .none .quo f (.i6 32)) λg=>
 gk b true (some e) λh=>
 gk b true (A7 h) λi=>
 gk b true (Ae .none .lss g i) λj=>
 (AF b j (.bool false)).bind λa=>
 gk a true (some e) λk=>
 gk a true (some c) λl=>
 gk a true (Ae .none .quo l (.i6 32)) λm=>
 gk a true (Av 1 k m) λn=>
 gk a true (Ac false 1 n d) λo=>
 gk a true (some c) λp=>
 gk a true (Ae .none .rem p (.i6 32)) λq=>
 gk a true (Ae .none .shr o q) λr=>
 gk a true (Ae .none .and r (.int .u32 1)) λs=>
 gk a true (Ae .none .eql s (.int .u32 1)) λt=>
 (AF a t (.bool false)).bind λu=>
 rK d u d
noncomputable def Sh.f7v (d:Aa)(e:LK)(f g a h c i j k:Ab)(b:Aa):Out:=
 (B5 4 1 a c).bind λl=>
 bC (Ac false 1 l b) (λ_=>True) λm=>
 bC (Ac true 3 h b) (λ_=>True) λn=>
 (AS 3 [n]).bind λo=>
 Bc (Cb (AW BQ 3 56 m o b)) λp q=>
 (B5 4 1 a c).bind λr=>
 bK d (A8 (Af 1 r p q)) λ_ s=>
 (Ae .none .add k (.i6 1)).bind λt=>
 e [f,g,a,i,j,t] s
noncomputable def Sh.f7w (c:Aa)(l:LK)(d a e b f g h i:Ab)(j:Aa):Out:=
 AK (λj3=>
 (Ad 1 b).bind λm=>
 (Ac false 1 m j).bind λn=>
 (Ae .none .sub a (.i6 1)).bind λo=>
 bK c (Sh.f1u n o j) λp k=>
 Ak p (
 (Ae .none .add f (.i6 2)).bind λq=>
 j3 [d,a,e,b,q,g,h,i] k) (
 j3 [d,a,e,b,f,g,h,i] k)) (λvs H=>Sh.f7v c l (ag vs 0) (ag vs 1) (ag vs 2) (ag vs 3) (ag vs 4) (ag vs 5) (ag vs 6) (ag vs 7) H)
noncomputable def Sh.f18 (e:Aa)(self:Ab->Ab->Ab->Aa->Out)(h:LK)(a f d g b:Ab)(c:Aa):Out:=
 (Ae .none .lss b (.i6 4)).bind λk=>
 Ak k (
 (JG false 4 1 g b).bind λi=>
 (Ae .none .gtr f (.i6 1)).bind λl=>
 Ak l (
 (Ae .none .sub f (.i6 1)).bind λm=>
 bK e (self a m i c) λn o=>
 (Ad 1 d).bind λp=>
 (B5 4 1 p b).bind λq=>
 bK e (A8 (Af 1 q n o)) λ_ r=>
 (Ae .none .add b (.i6 1)).bind λs=>
 h [a,f,d,g,s] r) (
 (A7 i).bind λt=>
 (Ae .none .gtr t (.i6 0)).bind λu=>
 Ak u (
 (Av 3 i (.i6 0)).bind λv=>
 (Ad 2 v).bind λw=>
 (Ac false 1 w c).bind λx=>
 (AJ .i64 x).bind λy=>
 (Ad 1 d).bind λz=>
 (B5 4 1 z b).bind λaa=>
 bK e (A8 (Af 1 aa y c)) λ_ ab=>
 (Ae .none .add b (.i6 1)).bind λac=>
 h [a,f,d,g,ac] ab) (
 (Ae .none .add b (.i6 1)).bind λad=>
 h [a,f,d,g,ad] c))) (
 (Ai a).bind λae=>
 (Ad 0 ae).bind λaj=>
 bC (Ac false 1 aj c) (λ_=>True) λak=>
 bC (Ac true 5 d c) (λ_=>True) λal=>
 (AS 5 [al]).bind λam=>
 Bc (Cb (AW AN 5 40 ak am c)) λan ap=>
 (Ai a).bind λaq=>
 (Ad 0 aq).bind λar=>
 bK e (A8 (Af 1 ar an ap)) λ_ j=>
 (Ai a).bind λau=>
 (Ad 0 au).bind λav=>
 (Ac false 1 av j).bind λaw=>
 (A7 aw).bind λax=>
 rK e ax j)
noncomputable def Sh.f2j (a:Aa)(self:Ab->Ab->Ab->Aa->Out)(n:LK)(e b f g h c:Ab)(i:Aa):Out:=
 (Ae .none .lss c h).bind λo=>
 Ak o (
 (Av 3 g c).bind λp=>
 (Ac true 3 p i).bind λq=>
 An (Az (some [(.sl [] .ti),(.sl [] .ti),(.int .u8 0)]) i) λd r=>
 bK a (A8 (Af 3 d q r)) λ_ j=>
 AK (λj2=>
 (Ad 0 d).bind λs=>
 (Ac false 1 s j).bind λt=>
 (Ae .none .sub b (.i6 1)).bind λu=>
 bK a (Sh.f1u t u j) λv k=>
 Ak v (
 (Ae .none .add (.i6 0) (.i6 1)).bind λw=>
 j2 [e,b,f,d,w,g,h,c] k) (
 j2 [e,b,f,d,(.i6 0),g,h,c] k)) (λvs H=>Sh.f7w a n (ag vs 0) (ag vs 1) (ag vs 2) (ag vs 3) (ag vs 4) (ag vs 5) (ag vs 6) (ag vs 7) H)) (
 (A6 (some [(.i6 0),(.i6 0),(.i6 0),(.i6 0),(.i6 0)]) [(0,1,b)]).bind λx=>
 An (Az (some [(.i6 0),(.i6 0),(.i6 0),(.i6 0),(.i6 0)]) i) λl y=>
 bK a (A8 (Af 5 l x y)) λ_ m=>
 (Ac true 4 f m).bind λz=>
 Ap (λaa vs H=>Sh.f18 a self aa (ag vs 0) (ag vs 1) (ag vs 2) (ag vs 3) (ag vs 4) H) AU [e,b,l,z,(.i6 0)] m)
noncomputable def Sh.f78 (self:Ab->Ab->Ab->Aa->Out)(c d b:Ab)(a:Aa):Out:=
 (A7 b).bind λe=>
 (Ae .none .eql e (.i6 0)).bind λf=>
 Ak f (
 rK a (.i6 0) a) (
 An (Az (some [(.sl [] .ti),(.sl [] .ti),(.sl [] .ti),(.sl [] .ti)]) a) λg h=>
 (A7 b).bind λi=>
 Ap (λj vs H=>Sh.f2j a self j (ag vs 0) (ag vs 1) (ag vs 2) (ag vs 3) (ag vs 4) (ag vs 5) H) AU [c,d,g,b,i,(.i6 0)] h)
noncomputable def Sh.f1v:Nat->Ab->Ab->Ab->Aa->Out
 | 0=>λ_ _ _ _=>none
 | d+1=>Sh.f78 (Sh.f1v d)
noncomputable def Sh.f4l (h i b:Ab)(c:Aa):Out:=
 (Av 5 h i).bind λj=>
 (Ac true 5 j c).bind λk=>
 An (Az (some [(.i6 0),(.i6 0),(.i6 0),(.i6 0),(.i6 0)]) c) λf l=>
 bP c (A8 (Af 5 f k l)) λ_ d=>
 (Ae .none .eql b (.i6 0)).bind λm=>
 Ak m (
 rP c (.bool true) d) (
 (Ad 0 f).bind λn=>
 (Ac false 1 n d).bind λo=>
 (Ae .none .eql o (.i6 1)).bind λp=>
 Ak p (
 (Ae .none .gtr b (.i6 0)).bind λg=>
 gk g true (some b) λq=>
 gk g true (Ae .none .leq q (.i6 255)) λr=>
 (AF g r (.bool false)).bind λs=>
 rP c s d) (
 (Ae .none .gtr b (.i6 0)).bind λe=>
 gk e true (some b) λt=>
 gk e true (some i) λu=>
 gk e true (Ae .none .leq t u) λv=>
 (AF e v (.bool false)).bind λa=>
 gk a true (some h) λw=>
 gk a true (some b) λx=>
 gk a true (Ae .none .sub x (.i6 1)) λy=>
 gk a true (Av 5 w y) λz=>
 gk a true (Ad 0 z) λaa=>
 gkc a true (Ac false 1 aa d) (λ_ _=>True) λab=>
 gk a true (Ad 0 f) λac=>
 gkc a true (Ac false 1 ac d) (λ_ _=>True) λad=>
 gk a true (Ae .none .sub ad (.i6 1)) λae=>
 gk a true (Ae .none .eql ab ae) λaj=>
 (AF a aj (.bool false)).bind λak=>
 rP c ak d))
noncomputable def Sh.f4m (c:Aa)(k:LK)(l:LK)(a d e f g h b:Ab)(i:Aa):Out:=
 (Ae .none .lss b (.i6 4)).bind λm=>
 Ak m (
 (JG false 4 1 h b).bind λn=>
 bP c (Sh.f4l a d n i) λo j=>
 (unA .not o).bind λp=>
 Ak p (
 rP c (.bool false) j) (
 (Ae .none .add b (.i6 1)).bind λq=>
 l [a,d,e,f,g,h,q] j)) (
 (Ae .none .add g (.i6 1)).bind λr=>
 k [a,e,f,r] i)
noncomputable def Sh.f19 (b:Aa)(i:LK)(j g h c:Ab)(f:Aa):Out:=
 (Ae .none .lss c h).bind λk=>
 Ak k (
 (Av 5 g c).bind λl=>
 (Ac true 5 l f).bind λm=>
 An (Az (some [(.i6 0),(.i6 0),(.i6 0),(.i6 0),(.i6 0)]) f) λd n=>
 bP b (A8 (Af 5 d m n)) λ_ a=>
 (Ad 0 d).bind λo=>
 (Ac false 1 o a).bind λp=>
 (Ae .none .lss p (.i6 1)).bind λe=>
 gk e false (Ad 0 d) λq=>
 gk e false (Ac false 1 q a) λr=>
 gk e false (Ae .none .gtr r (.i6 1329)) λs=>
 (AF e (.bool true) s).bind λt=>
 Ak t (
 rP b (.bool false) a) (
 (Ad 1 d).bind λu=>
 (Ac true 4 u a).bind λv=>
 Ap (λw vs H=>Sh.f4m b i w (ag vs 0) (ag vs 1) (ag vs 2) (ag vs 3) (ag vs 4) (ag vs 5) (ag vs 6) H) AU [j,c,g,h,c,v,(.i6 0)] a)) (
 rP b (.bool true) f)
noncomputable def Sh.f2k (a:Ab)(b:Aa):Out:=
 (A7 a).bind λc=>
 Ap (λd vs H=>Sh.f19 b d (ag vs 0) (ag vs 1) (ag vs 2) (ag vs 3) H) AU [a,a,c,(.i6 0)] b
noncomputable def Sh.f4n (b:Ab)(a:Aa):Out:=
 (Rn .eql b).bind λc=>
 Ak c (
 rK a (.sl [] .ti) a) (
 (AS 5 []).bind λd=>
 bK a (Cb (AW AN 5 40 d b a)) λe f=>
 rK a e f)
noncomputable def Sh.f4o (d e f:Ab)(b:Aa):Out:=
 (Ae .none .neq d (.i6 0)).bind λa=>
 gk a true (Ad 0 e) λg=>
 gk a true (Ac false 1 g b) λh=>
 gk a true (Ae .none .eql h (.i6 1)) λi=>
 gk a true (some i) λc=>
 gk c false (Ac false 1 f b) λj=>
 gk c false (some d) λk=>
 gk c false (Av 1 j k) λl=>
 gk c false (Ac false 1 l b) λm=>
 gk a true (AF c (.bool true) m) λn=>
 (AF a n (.bool false)).bind λo=>
 rK b o b
noncomputable def C7:Orc:=(ent 238 (ap3 Sh.f4o) noO)
noncomputable def Sh.f4p (b:Aa)(h:LK)(d e f a:Ab)(c:Aa):Out:=
 (Ae .none .lss a f).bind λi=>
 Ak i (
 (Av 1 d a).bind λj=>
 (Ac false 1 j c).bind λk=>
 bK b (DF C7 e [k] c) λl g=>
 Ak l (
 rK b a g) (
 (Ae .none .add a (.i6 1)).bind λm=>
 h [d,e,f,m] g)) (
 rK b (.i6 (-1)) c)
noncomputable def Sh.f4q (a c:Ab)(b:Aa):Out:=
 (A7 a).bind λd=>
 Ap (λe vs H=>Sh.f4p b e (ag vs 0) (ag vs 1) (ag vs 2) (ag vs 3) H) AU [a,c,d,(.i6 0)] b
noncomputable def Sh.f4r (b c:Ab)(a:Aa):Out:=
 bK a (Sh.f4q b c a) λd e=>
 (Ae .none .geq d (.i6 0)).bind λf=>
 rK a f e
noncomputable def Sh.f79 (d:Aa)(k:LK)(a g h b:Ab)(c:Aa):Out:=
 (Ae .none .lss b h).bind λl=>
 Ak l (
 (Av 5 g b).bind λm=>
 (Ac true 5 m c).bind λn=>
 An (Az (some [(.i6 0),(.i6 0),(.i6 0),(.i6 0),(.i6 0)]) c) λe o=>
 bP d (A8 (Af 5 e n o)) λ_ i=>
 (Ad 1 e).bind λp=>
 (JS 4 1 p none none).bind λq=>
 Bc (Sh.f4r q (.fn 238 [e,a]) i) λr j=>
 bC (Ac false 1 a j) (λf=>Ac false 1 a i=some f/\True) λf=>
 (Ae .none .add b (.i6 1)).bind λs=>
 (Av 1 f s).bind λt=>
 bP d (A8 (Af 1 t r j)) λ_ u=>
 (Ae .none .add b (.i6 1)).bind λv=>
 k [a,g,h,v] u) (
 (Ac false 1 a c).bind λw=>
 rPN d w c)
noncomputable def Sh.f2l (a:Ab)(b:Aa):Out:=
 (A7 a).bind λe=>
 (Ae .none .add e (.i6 1)).bind λc=>
 An (FA 1 1 (some [(.bool false)]) c c b) λf g=>
 An (Az (some [(.sl [] .ti)]) g) λd h=>
 bP b (A8 (Af 1 d f h)) λ_ i=>
 (A7 a).bind λj=>
 Ap (λk vs H=>Sh.f79 b k (ag vs 0) (ag vs 1) (ag vs 2) (ag vs 3) H) AU [d,a,j,(.i6 0)] i
noncomputable def Sh.f4s (c d:Ab)(a:Aa):Out:=
 bK a (Sh.f2l c a) λe b=>
 (Av 1 e d).bind λf=>
 (Ac false 1 f b).bind λg=>
 (unA .not g).bind λh=>
 rK a h b
noncomputable def Sh.f4t (n:Aa)(o:LK)(p:LK)(e f h i j k l d:Ab)(b:Aa):Out:=
 (Ae .none .lss d (.i6 4)).bind λq=>
 Ak q (
 (JG false 4 1 l d).bind λm=>
 (Ae .none .sub (.i6 3) h).bind λr=>
 (Ae .none .neq d r).bind λg=>
 gk g true (some m) λs=>
 gk g true (Ae .none .neq s (.i6 0)) λt=>
 (AF g t (.bool false)).bind λa=>
 gk a true (some e) λu=>
 gk a true (some i) λv=>
 gk a true (Ae .none .sub v (.i6 1)) λw=>
 gk a true (Av 5 u w) λx=>
 gk a true (Ad 0 x) λy=>
 gk a true (Ac false 1 y b) λz=>
 gk a true (Ae .none .eql z (.i6 1)) λaa=>
 gk a true (some aa) λc=>
 gk c false (some f) λab=>
 gk c false (some m) λac=>
 gk c false (Av 1 ab ac) λad=>
 gk c false (Ac false 1 ad b) λae=>
 gk a true (AF c (.bool true) ae) λaj=>
 (AF a aj (.bool false)).bind λak=>
 Ak ak (
 rK n (.bool false) b) (
 (Ae .none .add d (.i6 1)).bind λal=>
 p [e,f,h,i,j,k,l,al] b)) (
 (Ae .none .add k (.i6 1)).bind λam=>
 o [e,f,j,am] b)
noncomputable def Sh.f4u (f:Aa)(g:LK)(c h d a:Ab)(b:Aa):Out:=
 (Ae .none .lss a (.i6 4)).bind λi=>
 Ak i (
 (JG false 4 1 d a).bind λe=>
 (Ae .none .eql e (.i6 0)).bind λj=>
 Ak j (
 (Ae .none .add a (.i6 1)).bind λk=>
 g [c,h,d,k] b) (
 (Ae .none .sub e (.i6 1)).bind λl=>
 (Av 5 c l).bind λm=>
 (Ad 1 m).bind λn=>
 (Ac true 4 n b).bind λo=>
 Ap (λp vs H=>Sh.f4t f g p (ag vs 0) (ag vs 1) (ag vs 2) (ag vs 3) (ag vs 4) (ag vs 5) (ag vs 6) (ag vs 7) H) AU [c,h,a,e,d,a,o,(.i6 0)] b)) (
 rK f (.bool true) b)
noncomputable def Sh.f4v (c d:Ab)(b:Aa):Out:=
 (Ae .none .eql d (.i6 0)).bind λa=>
 gk a false (some c) λf=>
 gk a false (some d) λg=>
 gk a false (Ae .none .sub g (.i6 1)) λh=>
 gk a false (Av 5 f h) λi=>
 gk a false (Ad 0 i) λj=>
 gk a false (Ac false 1 j b) λk=>
 gk a false (Ae .none .eql k (.i6 1)) λl=>
 (AF a (.bool true) l).bind λm=>
 Ak m (
 rK b (.bool false) b) (
 bK b (Sh.f2l c b) λn e=>
 (Ae .none .sub d (.i6 1)).bind λo=>
 (Av 5 c o).bind λp=>
 (Ad 1 p).bind λq=>
 (Ac true 4 q e).bind λr=>
 Ap (λs vs H=>Sh.f4u b s (ag vs 0) (ag vs 1) (ag vs 2) (ag vs 3) H) AU [c,n,r,(.i6 0)] e)
noncomputable def Sh.f4w (b e c:Ab)(a:Aa):Out:=
 (Ae .none .sub e (.i6 1)).bind λf=>
 (Av 5 b f).bind λg=>
 (Ad 1 g).bind λh=>
 (B5 4 1 h c).bind λi=>
 (Ac false 1 i a).bind λd=>
 (Ae .none .gtr d (.i6 0)).bind λj=>
 Ak j (
 (Ae .none .sub d (.i6 1)).bind λk=>
 (Ae .none .sub (.i6 3) c).bind λl=>
 (Av 5 b k).bind λm=>
 (Ad 1 m).bind λn=>
 (B5 4 1 n l).bind λo=>
 (Ac false 1 o a).bind λp=>
 rK a p a) (
 rK a (.i6 0) a)
noncomputable def Sh.f4x (b:Aa)(h:LK)(i:LK)(c f d a:Ab)(e:Aa):Out:=
 (Ae .none .lss a (.i6 4)).bind λj=>
 Ak j (
 bP b (Sh.f4w c f a e) λk l=>
 (Ad 1 d).bind λm=>
 (B5 4 1 m a).bind λn=>
 bP b (A8 (Af 1 n k l)) λ_ o=>
 (Ae .none .add a (.i6 1)).bind λp=>
 i [c,f,d,p] o) (
 (Ac true 5 d e).bind λq=>
 (AS 5 [q]).bind λr=>
 bP b (Cb (AW AN 5 40 c r e)) λg s=>
 (A7 g).bind λt=>
 h [g,t] s)
noncomputable def Sh.f7a (a:Aa)(f:LK)(b c:Ab)(g:Aa):Out:=
 bP a (Sh.f4v b c g) λh d=>
 Ak h (
 (Ae .none .sub c (.i6 1)).bind λi=>
 (Av 5 b i).bind λj=>
 (Ad 0 j).bind λk=>
 (Ac false 1 k d).bind λl=>
 (Ae .none .sub l (.i6 1)).bind λm=>
 (A6 (some [(.i6 0),(.i6 0),(.i6 0),(.i6 0),(.i6 0)]) [(0,1,m)]).bind λn=>
 An (Az (some [(.i6 0),(.i6 0),(.i6 0),(.i6 0),(.i6 0)]) d) λe o=>
 bP a (A8 (Af 5 e n o)) λ_ p=>
 Ap (λq vs H=>Sh.f4x a f q (ag vs 0) (ag vs 1) (ag vs 2) (ag vs 3) H) AU [b,c,e,(.i6 0)] p) (
 rPN a (.tup [b,c]) d)
noncomputable def Sh.f2m (e c:Ab)(a:Aa):Out:=
 bP a (Sh.f4n e a) λb f=>
 bP a (Sh.f4s b c f) λg d=>
 Ak g (
 rPN a (.tup [b,(.i6 0)]) d) (
 Ap (λh vs H=>Sh.f7a a h (ag vs 0) (ag vs 1) H) AU [b,c] d)
noncomputable def Sh.f2n (b h:Ab)(c:Aa):Out:=
 An (BD true 5 h c) λd a=>
 (Ad 1 d).bind λi=>
 (Ac true 4 i a).bind λj=>
 (A6 (some [(.i6 0),(.i6 0),(.i6 0),(.i6 0)]) []).bind λk=>
 (Ae (.flat 4) .eql j k).bind λl=>
 Ak l (
 rK c (.i6 0) a) (
 (Ai b).bind λm=>
 (Ad 1 m).bind λn=>
 bC (Ac false 1 n a) (λ_=>True) λo=>
 bC (Ac true 5 d a) (λ_=>True) λp=>
 bC (F1 true 5 (some (.i6 0)) true o p a) (λ_=>True) λf=>
 (Aq 0 f).bind λq=>
 (Aq 1 f).bind λr=>
 Ak r (
 rK c q a) (
 (Ai b).bind λs=>
 (Ad 0 s).bind λt=>
 bC (Ac false 1 t a) (λ_=>True) λu=>
 bC (Ac true 5 d a) (λ_=>True) λv=>
 (AS 5 [v]).bind λw=>
 Bc (Cb (AW AN 5 40 u w a)) λx y=>
 (Ai b).bind λz=>
 (Ad 0 z).bind λaa=>
 bK c (A8 (Af 1 aa x y)) λ_ e=>
 (Ai b).bind λab=>
 (Ad 1 ab).bind λac=>
 bC (Ac false 1 ac e) (λ_=>True) λad=>
 bC (Ac true 5 d e) (λ_=>True) λae=>
 (Ai b).bind λaj=>
 (Ad 0 aj).bind λak=>
 bC (Ac false 1 ak e) (λ_=>True) λal=>
 (A7 al).bind λam=>
 bK c (A8 (Ef true 5 ad ae am e)) λ_ g=>
 (Ai b).bind λan=>
 (Ad 0 an).bind λap=>
 (Ac false 1 ap g).bind λaq=>
 (A7 aq).bind λar=>
 rK c ar g))
noncomputable def Ik (self:Ab->Ab->Ab->Ab->Ab->Aa->Out):Orc:=ent 161 (ap5 self) (ent 162 (ap2 Sh.f2n) noO)
noncomputable def Sh.f4y (a:Aa)(e f g h:Ab)(b:Aa):Out:=
 (Ac false 1 g b).bind λi=>
 (Ac true 5 h b).bind λj=>
 bK a (Sh.f2n i j b) λc d=>
 (Ac false 1 f d).bind λk=>
 bK a (A8 (Ef false 1 k e c d)) λ_ l=>
 rK a c l
noncomputable def Sh.f4z (d:Aa)(self:Ab->Ab->Ab->Ab->Ab->Aa->Out)(j1:LK)(j:LK)(e f g h b i a:Ab)(c:Aa):Out:=
 (Ae .none .lss a (.i6 4)).bind λk=>
 Ak k (
 (JG false 4 1 i a).bind λl=>
 (Ac false 1 g c).bind λm=>
 bK d (DF (Ik self) m [l] c) λn o=>
 (Ad 1 b).bind λp=>
 (B5 4 1 p a).bind λq=>
 bK d (A8 (Af 1 q n o)) λ_ r=>
 (Ae .none .add a (.i6 1)).bind λs=>
 j [e,f,g,h,b,i,s] r) (
 j1 [e,f,h,b] c)
noncomputable def Sh.f2o (self:Ab->Ab->Ab->Ab->Ab->Aa->Out)(c e h i f:Ab)(a:Aa):Out:=
 (Ac false 1 e a).bind λj=>
 (F1 false 1 (some (.i6 0)) true j c a).bind λg=>
 (Aq 0 g).bind λk=>
 (Aq 1 g).bind λl=>
 Ak l (
 rK a k a) (
 (Ac false 1 h a).bind λm=>
 (Ae .none .sub c (.i6 1)).bind λn=>
 (Av 5 m n).bind λo=>
 (Ac true 5 o a).bind λp=>
 An (Az (some [(.i6 0),(.i6 0),(.i6 0),(.i6 0),(.i6 0)]) a) λb q=>
 bK a (A8 (Af 5 b p q)) λ_ d=>
 AK (λj1=>
 (Ad 0 b).bind λr=>
 (Ac false 1 r d).bind λs=>
 (Ae .none .gtr s (.i6 1)).bind λt=>
 Ak t (
 (Ad 1 b).bind λu=>
 (Ac true 4 u d).bind λv=>
 Ap (λw vs H=>Sh.f4z a self j1 w (ag vs 0) (ag vs 1) (ag vs 2) (ag vs 3) (ag vs 4) (ag vs 5) (ag vs 6) H) AU [c,e,i,f,b,v,(.i6 0)] d) (
 j1 [c,e,f,b] d)) (λvs H=>Sh.f4y a (ag vs 0) (ag vs 1) (ag vs 2) (ag vs 3) H))
noncomputable def Sh.f9:Nat->Ab->Ab->Ab->Ab->Ab->Aa->Out
 | 0=>λ_ _ _ _ _ _=>none
 | d+1=>Sh.f2o (Sh.f9 d)
noncomputable def JE:Orc:=(ent 159 (ap1 Sh.f2k) (ent 160 (ap2 Sh.f2m) (ent 161 (ap5 (Sh.f9 AU)) noO)))
noncomputable def Sh.f2p (r f:Ab)(a:Aa):Out:=
 An (BD true 1 r a) λb s=>
 An (Az (some [(.sl [] .ti)]) s) λd k=>
 (Ac false 1 b k).bind λt=>
 bP a (Sh.f2k t k) λu e=>
 (unA .not u).bind λg=>
 gk g false (some f) λv=>
 gk g false (Ae .none .lss v (.i6 0)) λw=>
 (AF g (.bool true) w).bind λc=>
 gk c false (some f) λx=>
 gk c false (Ac false 1 b e) λy=>
 gk c false (A7 y) λz=>
 gk c false (Ae .none .gtr x z) λaa=>
 (AF c (.bool true) aa).bind λab=>
 Ak ab (
 (A6 (some [(.sl [] .ti)]) []).bind λac=>
 bP a (A8 (Af 1 d ac e)) λ_ l=>
 (Eh [Ac true 1 d l,some (.i6 1)]).bind λad=>rPN a ad l) (
 (Ac false 1 b e).bind λae=>
 bP a (Sh.f2m ae f e) λm aj=>
 (Aq 0 m).bind λak=>
 (Aq 1 m).bind λal=>
 bP a (A8 (Af 1 b ak aj)) λ_ am=>
 An (ED am) λan ap=>
 (A6 (some [(.sl [] .ti),.nilmap]) [(1,1,an)]).bind λaq=>
 An (BD true 2 aq ap) λar au=>
 An (Az (some [.nilp]) au) λh av=>
 bP a (A8 (Af 1 h ar av)) λ_ aw=>
 An (ED aw) λn ax=>
 bP a (A8 (Ef false 1 n (.i6 0) (.i6 0) ax)) λ_ ay=>
 An (Az (some [.nilmap]) ay) λo az=>
 bP a (A8 (Af 1 o n az)) λ_ a0=>
 An (Az (some [.nilfn]) a0) λi a1=>
 bP a (A8 (Af 1 i (.fn 161 [o,b,i,h]) a1)) λ_ p=>
 (Ac false 1 i p).bind λa2=>
 bP a (DF JE a2 [al] p) λa9 j=>
 (Ac false 1 h j).bind λa3=>
 (Ai a3).bind λa4=>
 (Ad 0 a4).bind λa5=>
 (Ac false 1 a5 j).bind λa6=>
 (A6 (some [(.sl [] .ti)]) [(0,1,a6)]).bind λa7=>
 bP a (A8 (Af 1 d a7 j)) λ_ q=>
 (Eh [Ac true 1 d q,some (.i6 0)]).bind λa8=>rPN a a8 q)
noncomputable def Sh.f2q (b:Aa)(w:LK)(g m c n o p h:Ab)(i:Aa):Out:=
 (Ae .none .lss h p).bind λx=>
 Ak x (
 (Av 5 o h).bind λy=>
 (Ac true 5 y i).bind λz=>
 An (Az (some [(.bool false),(.sl [] .ti),(.bool false),(.sl [] .ti),(.int .u8 0)]) i) λd aa=>
 bP b (A8 (Af 5 d z aa)) λ_ a=>
 (Ad 0 d).bind λab=>
 bC (Ac true 2 ab a) (λ_=>True) λac=>
 bC (Ac true 2 c a) (λ_=>True) λad=>
 Bc (Sh.fs ac ad a) λae e=>
 (Ad 2 d).bind λq=>
 bC (Ac true 2 q e) (λj=>Ac true 2 q a=some j/\True) λj=>
 bC (Ac true 2 c e) (λk=>Ac true 2 c a=some k/\True) λk=>
 Bc (Sh.fs j k e) λaj r=>
 (Qp false 1 1 ae).bind λak=>
 (Qp false 1 1 aj).bind λal=>
 (Ad 4 d).bind λl=>
 bC (Ac false 1 l r) (λf=>Ac false 1 l e=some f/\Ac false 1 l a=some f/\True) λf=>
 (A6 (some [(.sl [] .ti),(.sl [] .ti),(.int .u8 0)]) [(0,1,ak),(1,1,al),(2,1,f)]).bind λam=>
 (AS 3 [am]).bind λan=>
 Bc (Cb (AW BQ 3 56 n an r)) λap aq=>
 (Ae .none .add h (.i6 1)).bind λar=>
 w [g,m,c,ap,o,p,ar] aq) (
 (A6 (some [(.sl [] .ti)]) []).bind λau=>
 An (BD true 1 au i) λs av=>
 bP b (Sh.f1v AU s m n av) λaw t=>
 (Ai s).bind λax=>
 (Ad 0 ax).bind λay=>
 (Ac false 1 ay t).bind λaz=>
 bP b (Sh.f2p az aw t) λu a0=>
 (Aq 0 u).bind λa1=>
 (Aq 1 u).bind λa2=>
 bP b (A8 (Af 1 g a1 a0)) λ_ v=>
 (Eh [Ac true 1 g v,some a2]).bind λa3=>rPN b a3 v)
noncomputable def Sh.f1w (a:Aa)(p:LK)(b e c j k f:Ab)(d:Aa):Out:=
 (Ae .none .lss f k).bind λq=>
 Ak q (
 (Av 5 j f).bind λr=>
 (Ac true 5 r d).bind λs=>
 An (Az (some [(.bool false),(.sl [] .ti),(.bool false),(.sl [] .ti),(.int .u8 0)]) d) λg t=>
 bP a (A8 (Af 5 g s t)) λ_ h=>
 (Ad 0 g).bind λu=>
 bC (Ac true 2 u h) (λ_=>True) λv=>
 Bc (Sh.f2i v h) λw l=>
 (Ad 2 g).bind λm=>
 bC (Ac true 2 m l) (λi=>Ac true 2 m h=some i/\True) λi=>
 Bc (Sh.f2i i l) λx y=>
 (Ia JX c [w,x]).bind λz=>
 (Ae .none .add f (.i6 1)).bind λaa=>
 p [b,e,z,j,k,aa] y) (
 (Ae .none .gtr c (.i6 1329)).bind λab=>
 Ak ab (
 (A6 (some [(.sl [] .ti)]) []).bind λac=>
 bP a (A8 (Af 1 b ac d)) λ_ n=>
 (Eh [Ac true 1 b n,some (.i6 4)]).bind λad=>rPN a ad n) (
 (Ae .none .sub c (.i6 1)).bind λae=>
 bP a (Sh.f4k ae d) λaj ak=>
 An (Az (some [(.bool false),(.sl [] .ti)]) ak) λo al=>
 bP a (A8 (Af 2 o aj al)) λ_ am=>
 (A7 e).bind λan=>
 Ap (λap vs H=>Sh.f2q a ap (ag vs 0) (ag vs 1) (ag vs 2) (ag vs 3) (ag vs 4) (ag vs 5) (ag vs 6) H) AU [b,c,o,(.sl [] .ti),e,an,(.i6 0)] am))
noncomputable def Sh.f2r (d:Ab)(a:Aa):Out:=
 An (Az (some [(.sl [] .ti)]) a) λb g=>
 bP a (Sh.f44 d (.fn 84 []) g) λh e=>
 Ak h (
 (A6 (some [(.sl [] .ti)]) []).bind λi=>
 bP a (A8 (Af 1 b i e)) λ_ f=>
 (Eh [Ac true 1 b f,some (.i6 1)]).bind λj=>rPN a j f) (
 bP a (Sh.f4d d e) λc k=>
 (A7 c).bind λl=>
 Ap (λm vs H=>Sh.f1w a m (ag vs 0) (ag vs 1) (ag vs 2) (ag vs 3) (ag vs 4) (ag vs 5) H) AU [b,c,(.i6 1),c,l,(.i6 0)] k)
noncomputable def Sh.ft (n v:Ab)(a:Aa):Out:=
 An (BD true 2 v a) λh w=>
 An (Az (some [(.str []),(.sl [] .ti)]) w) λb o=>
 (Ac true 2 h o).bind λx=>
 bP a (Sh.f3h x o) λy i=>
 (unA .not y).bind λz=>
 Ak z (
 (A6 (some [(.str []),(.sl [] .ti)]) []).bind λaa=>
 bP a (A8 (Af 2 b aa i)) λ_ p=>
 (Eh [Ac true 2 b p,some (.i6 0),some (.i6 1)]).bind λab=>rPN a ab p) (
 (A6 (some [(.str []),(.i6 0)]) [(0,1,n)]).bind λac=>
 (Ac true 2 h i).bind λad=>
 (A6 (some [(.str []),(.i6 0),(.i6 0),(.i6 0),(.str []),(.bool false),(.bool false),(.sl [] .ti),(.bool false),(.sl [] .ti),(.i6 0),(.sl [] .ti)]) [(0,2,ac),(2,2,ad),(4,1,(.str [66,51,47,83,50,51]))]).bind λae=>
 An (BD true 12 ae i) λf aj=>
 bP a (Sh.f28 (.bfn 59 [f]) aj) λak al=>
 An (Az (some [(.i6 0),(.str [])]) al) λj am=>
 bP a (A8 (Af 2 j ak am)) λ_ d=>
 (Ad 0 j).bind λan=>
 (Ac false 1 an d).bind λap=>
 (Ae .none .neq ap (.i6 0)).bind λaq=>
 Ak aq (
 (A6 (some [(.str []),(.sl [] .ti)]) []).bind λar=>
 Bc (A8 (Af 2 b ar d)) λ_ g=>
 (Ai f).bind λau=>
 (Ad 0 au).bind λav=>
 (Ad 1 av).bind λq=>
 bC (Ac false 1 q g) (λk=>Ac false 1 q d=some k/\True) λk=>
 (Ad 0 j).bind λr=>
 bC (Ac false 1 r g) (λl=>Ac false 1 r d=some l/\True) λl=>
 (Eh [Ac true 2 b g,some k,some l]).bind λaw=>rPN a aw g) (
 (Ai f).bind λax=>
 (Ad 11 ax).bind λay=>
 (Ac false 1 ay d).bind λaz=>
 bP a (Sh.f2r az d) λs a0=>
 (Aq 0 s).bind λa1=>
 (Aq 1 s).bind λa2=>
 An (Az (some [(.sl [] .ti)]) a0) λm a3=>
 bP a (A8 (Af 1 m a1 a3)) λ_ e=>
 (Ae .none .neq a2 (.i6 0)).bind λc=>
 gk c false (Ad 0 m) λa4=>
 gk c false (Ac false 1 a4 e) λa5=>
 gk c false (A7 a5) λa6=>
 gk c false (Ad 1 h) λa7=>
 gk c false (Ac false 1 a7 e) λa8=>
 gk c false (Ae .none .gtr a6 a8) λa9=>
 (AF c (.bool true) a9).bind λba=>
 Ak ba (
 (A6 (some [(.str []),(.sl [] .ti)]) []).bind λbb=>
 (CK n).bind λbc=>
 bP a (A8 (Af 2 b bb e)) λ_ t=>
 (Eh [Ac true 2 b t,some bc,some (.i6 4)]).bind λbd=>rPN a bd t) (
 (Ai f).bind λbe=>
 (Ad 4 be).bind λbg=>
 bC (Ac false 1 bg e) (λ_=>True) λbj=>
 bC (Ac true 1 m e) (λ_=>True) λbk=>
 (A6 (some [(.str []),(.sl [] .ti)]) [(0,1,bj),(1,1,bk)]).bind λbl=>
 Bc (A8 (Af 2 b bl e)) λ_ u=>
 (Eh [Ac true 2 b u,some (.i6 0),some (.i6 0)]).bind λbm=>rPN a bm u)))
noncomputable def Sh.f50 (b:Ab)(c:Aa):Out:=
 (Ae .none .geq b (.i6 1)).bind λa=>
 gk a true (some b) λd=>
 gk a true (Ae .none .leq d (.i6 5)) λe=>
 (AF a e (.bool false)).bind λf=>
 rK c f c
noncomputable def Sh.f51 (b:Ab)(c:Aa):Out:=
 (Ae .none .geq b (.int .u8 33)).bind λa=>
 gk a true (some b) λd=>
 gk a true (Ae .none .leq d (.int .u8 126)) λe=>
 (AF a e (.bool false)).bind λf=>
 rK c f c
noncomputable def Sh.f7x (c:Aa)(g:LK)(a d:Ab)(e:Aa):Out:=
 (CK a).bind λh=>
 (Ae .none .lss d h).bind λi=>
 Ak i (
 (Es a d).bind λj=>
 bK c (Sh.f51 j e) λk f=>
 (unA .not k).bind λl=>
 Ak l (
 rK c (.bool false) f) (
 (Ae .none .add d (.i6 1)).bind λm=>
 g [a,m] f)) (
 (CK a).bind λn=>
 (Ae .none .geq n (.i6 1)).bind λb=>
 gk b true (some a) λo=>
 gk b true (CK o) λp=>
 gk b true (Ae .none .leq p (.i6 40)) λq=>
 (AF b q (.bool false)).bind λr=>
 rK c r e)
noncomputable def Sh.f2s (b:Ab)(a:Aa):Out:=
 Ap (λc vs H=>Sh.f7x a c (ag vs 0) (ag vs 1) H) AU [b,(.i6 0)] a
noncomputable def Sh.f52 (k:Aa)(l:LK)(m:LK)(d e h:Ab)(b:Aa):Out:=
 (Ae .none .lss h (.i6 4)).bind λn=>
 Ak n (
 (Av 5 d e).bind λo=>
 (Ad 1 o).bind λp=>
 (B5 4 1 p h).bind λq=>
 (Ac false 1 q b).bind λg=>
 (Ae .none .lss g (.i6 0)).bind λc=>
 gk c false (some d) λr=>
 gk c false (some e) λs=>
 gk c false (Av 5 r s) λt=>
 gk c false (Ad 0 t) λu=>
 gk c false (Ac false 1 u b) λv=>
 gk c false (Ae .none .eql v (.i6 1)) λw=>
 gk c false (some w) λi=>
 gk i true (some g) λx=>
 gk i true (Ae .none .gtr x (.i6 255)) λy=>
 gk c false (AF i y (.bool false)) λz=>
 (AF c (.bool true) z).bind λaa=>
 Ak aa (
 rK k (.bool false) b) (
 (Av 5 d e).bind λab=>
 (Ad 0 ab).bind λac=>
 bC (Ac false 1 ac b) (λ_=>True) λad=>
 (Ae .none .gtr ad (.i6 1)).bind λj=>
 gk j true (some g) λae=>
 gk j true (Ae .none .gtr ae (.i6 0)) λaj=>
 (AF j aj (.bool false)).bind λf=>
 gk f true (some g) λak=>
 gk f true (some e) λal=>
 gk f true (Ae .none .gtr ak al) λam=>
 gk f true (some am) λa=>
 gk a false (some d) λan=>
 gk a false (some g) λap=>
 gk a false (Ae .none .sub ap (.i6 1)) λaq=>
 gk a false (Av 5 an aq) λar=>
 gk a false (Ad 0 ar) λau=>
 gkc a false (Ac false 1 au b) (λ_ _=>True) λav=>
 gk a false (some d) λaw=>
 gk a false (some e) λax=>
 gk a false (Av 5 aw ax) λay=>
 gk a false (Ad 0 ay) λaz=>
 gkc a false (Ac false 1 az b) (λ_ _=>True) λa0=>
 gk a false (Ae .none .sub a0 (.i6 1)) λa1=>
 gk a false (Ae .none .neq av a1) λa2=>
 gk f true (AF a (.bool true) a2) λa3=>
 (AF f a3 (.bool false)).bind λa4=>
 Ak a4 (
 rK k (.bool false) b) (
 (Ae .none .add h (.i6 1)).bind λa5=>
 m [d,e,a5] b))) (
 (Ae .none .add e (.i6 1)).bind λa6=>
 l [d,a6] b)
noncomputable def Sh.f53 (e:Aa)(f:LK)(c d:Ab)(b:Aa):Out:=
 (A7 c).bind λg=>
 (Ae .none .lss d g).bind λh=>
 Ak h (
 (Av 5 c d).bind λi=>
 (Ad 0 i).bind λj=>
 (Ac false 1 j b).bind λk=>
 (Ae .none .lss k (.i6 1)).bind λa=>
 gk a false (some c) λl=>
 gk a false (some d) λm=>
 gk a false (Av 5 l m) λn=>
 gk a false (Ad 0 n) λo=>
 gk a false (Ac false 1 o b) λp=>
 gk a false (Ae .none .gtr p (.i6 1329)) λq=>
 (AF a (.bool true) q).bind λr=>
 Ak r (
 rK e (.bool false) b) (
 Ap (λs vs H=>Sh.f52 e f s (ag vs 0) (ag vs 1) (ag vs 2) H) AU [c,d,(.i6 0)] b)) (
 rK e (.bool true) b)
noncomputable def Sh.f2t (b:Ab)(a:Aa):Out:=
 Ap (λc vs H=>Sh.f53 a c (ag vs 0) (ag vs 1) H) AU [b,(.i6 0)] a
noncomputable def Sh.f54 (j:Aa)(k:LK)(l:LK)(f g c b h:Ab)(d:Aa):Out:=
 (Ae .none .lss h (.i6 4)).bind λm=>
 Ak m (
 (Av 5 f c).bind λn=>
 (Ad 1 n).bind λo=>
 (B5 4 1 o h).bind λp=>
 (Ac false 1 p d).bind λi=>
 gk b true (some i) λq=>
 gk b true (Ae .none .eql q (.i6 0)) λr=>
 gk b true (some r) λa=>
 gk a false (some f) λs=>
 gk a false (some c) λt=>
 gk a false (Av 5 s t) λu=>
 gk a false (Ad 0 u) λv=>
 gk a false (Ac false 1 v d) λw=>
 gk a false (Ae .none .gtr w (.i6 1)) λx=>
 gk a false (some x) λe=>
 gk e true (some g) λy=>
 gk e true (some i) λz=>
 gk e true (Av 1 y z) λaa=>
 gk e true (Ac false 1 aa d) λab=>
 gk a false (AF e ab (.bool false)) λac=>
 gk b true (AF a (.bool true) ac) λad=>
 (AF b ad (.bool false)).bind λae=>
 (Ae .none .add h (.i6 1)).bind λaj=>
 l [f,g,c,ae,aj] d) (
 (Ae .none .add c (.i6 1)).bind λak=>
 (Av 1 g ak).bind λal=>
 bP j (A8 (Af 1 al b d)) λ_ am=>
 (Ae .none .add c (.i6 1)).bind λan=>
 k [f,g,an] am)
noncomputable def Sh.f55 (a:Aa)(f:LK)(b c d:Ab)(e:Aa):Out:=
 (A7 b).bind λg=>
 (Ae .none .lss d g).bind λh=>
 Ak h (
 Ap (λi vs H=>Sh.f54 a f i (ag vs 0) (ag vs 1) (ag vs 2) (ag vs 3) (ag vs 4) H) AU [b,c,d,(.bool true),(.i6 0)] e) (
 rPN a c e)
noncomputable def Sh.f1a (b:Ab)(a:Aa):Out:=
 (A7 b).bind λe=>
 (Ae .none .add e (.i6 1)).bind λc=>
 An (FA 1 1 (some [(.bool false)]) c c a) λd f=>
 (Av 1 d (.i6 0)).bind λg=>
 bP a (A8 (Af 1 g (.bool true) f)) λ_ h=>
 Ap (λi vs H=>Sh.f55 a i (ag vs 0) (ag vs 1) (ag vs 2) H) AU [b,d,(.i6 0)] h
noncomputable def Sh.f2u (n:Aa)(o:LK)(p:LK)(e f h i j g:Ab)(c:Aa):Out:=
 (Ae .none .lss g (.i6 4)).bind λk=>
 gk k true (some j) λq=>
 gk k true (Ae .none .gtr q (.i6 0)) λr=>
 (AF k r (.bool false)).bind λs=>
 Ak s (
 (Ae .none .sub j (.i6 1)).bind λt=>
 (Av 5 e t).bind λu=>
 (Ad 1 u).bind λv=>
 (B5 4 1 v g).bind λw=>
 (Ac false 1 w c).bind λm=>
 (Ae .none .sub (.i6 3) i).bind λx=>
 (Ae .none .neq g x).bind λa=>
 gk a true (some e) λy=>
 gk a true (some f) λz=>
 gk a true (Ae .none .sub z (.i6 1)) λaa=>
 gk a true (Av 5 y aa) λab=>
 gk a true (Ad 0 ab) λac=>
 gk a true (Ac false 1 ac c) λad=>
 gk a true (Ae .none .eql ad (.i6 2)) λae=>
 gk a true (some ae) λl=>
 gk l true (some m) λaj=>
 gk l true (Ae .none .neq aj (.i6 0)) λak=>
 gk a true (AF l ak (.bool false)) λal=>
 gk a true (some al) λb=>
 gk b false (some e) λam=>
 gk b false (some f) λan=>
 gk b false (Ae .none .sub an (.i6 1)) λap=>
 gk b false (Av 5 am ap) λaq=>
 gk b false (Ad 0 aq) λar=>
 gk b false (Ac false 1 ar c) λau=>
 gk b false (Ae .none .gtr au (.i6 2)) λav=>
 gk b false (some av) λd=>
 gk d true (some h) λaw=>
 gk d true (some m) λax=>
 gk d true (Av 1 aw ax) λay=>
 gk d true (Ac false 1 ay c) λaz=>
 gk d true (unA .not az) λa0=>
 gk b false (AF d a0 (.bool false)) λa1=>
 gk a true (AF b (.bool true) a1) λa2=>
 (AF a a2 (.bool false)).bind λa3=>
 Ak a3 (
 rK n (.bool false) c) (
 (Ae .none .add g (.i6 1)).bind λa4=>
 p [e,f,h,i,j,a4] c)) (
 (Ae .none .add i (.i6 1)).bind λa5=>
 o [e,f,h,a5] c)
noncomputable def Sh.f56 (c:Aa)(f:LK)(d e g a:Ab)(b:Aa):Out:=
 (Ae .none .lss a (.i6 4)).bind λh=>
 Ak h (
 (Ae .none .sub e (.i6 1)).bind λi=>
 (Av 5 d i).bind λj=>
 (Ad 1 j).bind λk=>
 (B5 4 1 k a).bind λl=>
 (Ac false 1 l b).bind λm=>
 Ap (λn vs H=>Sh.f2u c f n (ag vs 0) (ag vs 1) (ag vs 2) (ag vs 3) (ag vs 4) (ag vs 5) H) AU [d,e,g,a,m,(.i6 0)] b) (
 rK c (.bool true) b)
noncomputable def Sh.f2v (c d:Ab)(b:Aa):Out:=
 (Ae .none .eql d (.i6 0)).bind λa=>
 gk a false (some c) λe=>
 gk a false (some d) λf=>
 gk a false (Ae .none .sub f (.i6 1)) λg=>
 gk a false (Av 5 e g) λh=>
 gk a false (Ad 0 h) λi=>
 gk a false (Ac false 1 i b) λj=>
 gk a false (Ae .none .lss j (.i6 2)) λk=>
 (AF a (.bool true) k).bind λl=>
 Ak l (
 rK b (.bool false) b) (
 bK b (Sh.f1a c b) λm n=>
 Ap (λo vs H=>Sh.f56 b o (ag vs 0) (ag vs 1) (ag vs 2) (ag vs 3) H) AU [c,d,m,(.i6 0)] n)
noncomputable def Sh.f2w (h:Aa)(a:LK)(b c d e:Ab)(f:Aa):Out:=
 (Ae .none .add e (.i6 1)).bind λg=>
 a [b,c,d,g] f
noncomputable def Sh.f57 (f:Aa)(self:Ab->Ab->Ab->Aa->Out)(h:LK)(b c g e:Ab)(d:Aa):Out:=
 (Ae .none .lss e (.i6 4)).bind λi=>
 Ak i (
 AK (λj3=>
 (Ae .none .sub c (.i6 1)).bind λj=>
 (Av 5 b j).bind λk=>
 (Ad 0 k).bind λl=>
 (Ac false 1 l d).bind λm=>
 (Ae .none .gtr m (.i6 1)).bind λa=>
 gk a true (some b) λn=>
 gk a true (some c) λo=>
 gk a true (Ae .none .sub o (.i6 1)) λp=>
 gk a true (some e) λq=>
 gk a true (Av 5 n p) λr=>
 gk a true (Ad 1 r) λs=>
 gk a true (B5 4 1 s q) λt=>
 gk a true (Ac false 1 t d) λu=>
 gk a true (Ae .none .gtr u (.i6 0)) λv=>
 (AF a v (.bool false)).bind λw=>
 Ak w (
 (Ae .none .sub c (.i6 1)).bind λx=>
 (Av 5 b x).bind λy=>
 (Ad 1 y).bind λz=>
 (B5 4 1 z e).bind λaa=>
 (Ac false 1 aa d).bind λab=>
 bK f (self b ab g d) λac ad=>
 j3 [b,c,ac,e] ad) (
 j3 [b,c,g,e] d)) (λvs H=>Sh.f2w f h (ag vs 0) (ag vs 1) (ag vs 2) (ag vs 3) H)) (
 (AS 1 [c]).bind λae=>
 bK f (Cb (AW G9 1 8 g ae d)) λaj ak=>
 rK f aj ak)
noncomputable def Sh.f58 (e:Aa)(self:Ab->Ab->Ab->Aa->Out)(g:LK)(f c a d:Ab)(b:Aa):Out:=
 (A7 a).bind λh=>
 (Ae .none .lss d h).bind λi=>
 Ak i (
 (Av 1 a d).bind λj=>
 (Ac false 1 j b).bind λk=>
 (Ae .none .eql k c).bind λl=>
 Ak l (
 rK e a b) (
 (Ae .none .add d (.i6 1)).bind λm=>
 g [f,c,a,m] b)) (
 Ap (λn vs H=>Sh.f57 e self n (ag vs 0) (ag vs 1) (ag vs 2) (ag vs 3) H) AU [f,c,a,(.i6 0)] b)
noncomputable def Sh.f7b (self:Ab->Ab->Ab->Aa->Out)(b c d:Ab)(a:Aa):Out:=
 Ap (λe vs H=>Sh.f58 a self e (ag vs 0) (ag vs 1) (ag vs 2) (ag vs 3) H) AU [b,c,d,(.i6 0)] a
noncomputable def Sh.fg:Nat->Ab->Ab->Ab->Aa->Out
 | 0=>λ_ _ _ _=>none
 | d+1=>Sh.f7b (Sh.fg d)
noncomputable def Sh.f59 (f:Aa)(g:LK)(h:LK)(b e c d:Ab)(a:Aa):Out:=
 (Ae .none .lss d c).bind λi=>
 Ak i (
 (Av 5 b c).bind λj=>
 bC (Ac true 5 j a) (λ_=>True) λk=>
 (Av 5 b d).bind λl=>
 bC (Ac true 5 l a) (λ_=>True) λm=>
 (Ae (.flat 5) .eql k m).bind λn=>
 Ak n (
 rP f (.bool false) a) (
 (Ae .none .add d (.i6 1)).bind λo=>
 h [b,e,c,o] a)) (
 (Ae .none .add c (.i6 1)).bind λp=>
 g [b,e,p] a)
noncomputable def Sh.f5a (d:Aa)(f:LK)(e a b:Ab)(c:Aa):Out:=
 (A7 a).bind λg=>
 (Ae .none .lss b g).bind λh=>
 Ak h (
 (Av 1 a b).bind λi=>
 (Ac false 1 i c).bind λj=>
 (Ae .none .add b (.i6 1)).bind λk=>
 (Ae .none .neq j k).bind λl=>
 Ak l (
 rP d (.bool false) c) (
 (Ae .none .add b (.i6 1)).bind λm=>
 f [e,a,m] c)) (
 (A7 a).bind λn=>
 (A7 e).bind λo=>
 (Ae .none .eql n o).bind λp=>
 rP d p c)
noncomputable def Sh.f5b (b:Aa)(f:LK)(a e d:Ab)(c:Aa):Out:=
 (A7 a).bind λg=>
 (Ae .none .lss d g).bind λh=>
 Ak h (
 (Ae .none .add d (.i6 1)).bind λi=>
 (Av 1 e i).bind λj=>
 (Ac false 1 j c).bind λk=>
 Ak k (
 rP b (.bool false) c) (
 Ap (λl vs H=>Sh.f59 b f l (ag vs 0) (ag vs 1) (ag vs 2) (ag vs 3) H) AU [a,e,d,(.i6 0)] c)) (
 (A7 a).bind λm=>
 bP b (Sh.fg AU a m (.sl [] .ti) c) λn o=>
 Ap (λp vs H=>Sh.f5a b p (ag vs 0) (ag vs 1) (ag vs 2) H) AU [a,n,(.i6 0)] o)
noncomputable def Sh.f5c (g:Ab)(a:Aa):Out:=
 An (BD true 1 g a) λh d=>
 (Ad 0 h).bind λi=>
 (Ac false 1 i d).bind λb=>
 (A7 b).bind λj=>
 (Ae .none .eql j (.i6 0)).bind λk=>
 Ak k (
 rP a (.bool true) d) (
 bP a (Sh.f2t b d) λl e=>
 (unA .not l).bind λc=>
 gk c false (some b) λm=>
 gk c false (some b) λn=>
 gk c false (A7 n) λo=>
 gbP a c false e (Sh.f2v m o e) λp f=>
 (AF c (.bool true) p).bind λq=>
 Ak q (
 rP a (.bool false) f) (
 bP a (Sh.f1a b f) λr s=>
 Ap (λt vs H=>Sh.f5b a t (ag vs 0) (ag vs 1) (ag vs 2) H) AU [b,r,(.i6 0)] s))
noncomputable def Sh.f5d (f:Ab)(a:Aa):Out:=
 An (BD true 2 f a) λd e=>
 (Ad 0 d).bind λg=>
 (Ac false 1 g e).bind λh=>
 bP a (Sh.f2s h e) λb c=>
 gk b true (Ad 1 d) λi=>
 gk b true (Ac true 1 i c) λj=>
 gbP a b true c (Sh.f5c j c) λk l=>
 (AF b k (.bool false)).bind λm=>
 rP a m l
noncomputable def Sh.f2x (g:Ab)(f:Aa):Out:=
 An (BD true 2 g f) λb a=>
 (Ad 0 b).bind λh=>
 (Ac false 1 h a).bind λi=>
 (Ae .none .geq i (.i6 0)).bind λc=>
 gk c true (Ad 0 b) λj=>
 gk c true (Ac false 1 j a) λk=>
 gk c true (Ae .none .leq k (.i6 1000)) λl=>
 (AF c l (.bool false)).bind λd=>
 gk d true (Ad 1 b) λm=>
 gk d true (Ac false 1 m a) λn=>
 gk d true (Ae .none .geq n (.i6 0)) λo=>
 (AF d o (.bool false)).bind λe=>
 gk e true (Ad 1 b) λp=>
 gk e true (Ac false 1 p a) λq=>
 gk e true (Ae .none .leq q (.i6 100000)) λr=>
 (AF e r (.bool false)).bind λs=>
 rP f s a
noncomputable def Sh.f5e (d:Aa)(e:LK)(b:Ab)(c:Aa):Out:=
 (A7 b).bind λf=>
 (Ae .none .gtr f (.i6 0)).bind λa=>
 gk a true (some b) λg=>
 gk a true (some b) λh=>
 gk a true (A7 h) λi=>
 gk a true (Ae .none .sub i (.i6 1)) λj=>
 gk a true (Av 1 g j) λk=>
 gk a true (Ac false 1 k c) λl=>
 gk a true (unA .not l) λm=>
 (AF a m (.bool false)).bind λn=>
 Ak n (
 (A7 b).bind λo=>
 (Ae .none .sub o (.i6 1)).bind λp=>
 (Bw 1 b none (some p) none).bind λq=>
 e [q] c) (
 rKN d b c)
noncomputable def Sh.f1x (b:Ab)(a:Aa):Out:=
 Ap (λc vs H=>Sh.f5e a c (ag vs 0) H) AU [b] a
noncomputable def Sh.f7c (g:Aa)(h:LK)(i:LK)(a b c d e:Ab)(f:Aa):Out:=
 (Ae .none .lss e (.i6 32)).bind λj=>
 Ak j (
 (Ae .none .rem d (.int .u32 2)).bind λk=>
 (Ae .none .eql k (.int .u32 1)).bind λl=>
 (AS 1 [l]).bind λm=>
 bP g (Cb (AW BY 1 1 b m f)) λn o=>
 (Ae .none .quo d (.int .u32 2)).bind λp=>
 (Ae .none .add e (.i6 1)).bind λq=>
 i [a,n,c,p,q] o) (
 (Ae .none .add c (.i6 1)).bind λr=>
 h [a,b,r] f)
noncomputable def Sh.f2y (a:Aa)(f:LK)(b e c:Ab)(d:Aa):Out:=
 (A7 b).bind λg=>
 (Ae .none .lss c g).bind λh=>
 Ak h (
 (Av 1 b c).bind λi=>
 (Ac false 1 i d).bind λj=>
 Ap (λk vs H=>Sh.f7c a f k (ag vs 0) (ag vs 1) (ag vs 2) (ag vs 3) (ag vs 4) H) AU [b,e,c,j,(.i6 0)] d) (
 bP a (Sh.f1x e d) λl m=>
 rPN a l m)
noncomputable def Sh.f6 (b:Ab)(a:Aa):Out:=
 Ap (λc vs H=>Sh.f2y a c (ag vs 0) (ag vs 1) (ag vs 2) H) AU [b,(.sl [] .ti),(.i6 0)] a
noncomputable def Sh.f7d (k:Aa)(a:LK)(b c d e f g:Ab)(h:Aa):Out:=
 (Ae .none .mul f (.int .u32 2)).bind λi=>
 (Ae .none .add g (.i6 1)).bind λj=>
 a [b,c,d,e,i,j] h
noncomputable def Sh.f7y (i:Aa)(j:LK)(k:LK)(a f d g h b:Ab)(e:Aa):Out:=
 (A7 a).bind λl=>
 (Ae .none .lss b l).bind λc=>
 gk c true (some b) λm=>
 gk c true (some d) λn=>
 gk c true (Ae .none .add n (.i6 32)) λo=>
 gk c true (Ae .none .lss m o) λp=>
 (AF c p (.bool false)).bind λq=>
 Ak q (
 AK (λj3=>
 (Av 1 a b).bind λr=>
 (Ac false 1 r e).bind λs=>
 Ak s (
 (Ae .none .add g h).bind λt=>
 j3 [a,f,d,t,h,b] e) (
 j3 [a,f,d,g,h,b] e)) (λvs H=>Sh.f7d i k (ag vs 0) (ag vs 1) (ag vs 2) (ag vs 3) (ag vs 4) (ag vs 5) H)) (
 (AS 1 [g]).bind λu=>
 bP i (Cb (AW Ce 1 4 f u e)) λv w=>
 (Ae .none .add d (.i6 32)).bind λx=>
 j [a,v,x] w)
noncomputable def Sh.f5f (b:Aa)(f:LK)(c d a:Ab)(e:Aa):Out:=
 (A7 c).bind λg=>
 (Ae .none .lss a g).bind λh=>
 Ak h (
 Ap (λi vs H=>Sh.f7y b f i (ag vs 0) (ag vs 1) (ag vs 2) (ag vs 3) (ag vs 4) (ag vs 5) H) AU [c,d,a,(.int .u32 0),(.int .u32 1),a] e) (
 rPN b d e)
noncomputable def Sh.fn (b:Ab)(a:Aa):Out:=
 bP a (Sh.f1x b a) λc d=>
 Ap (λe vs H=>Sh.f5f a e (ag vs 0) (ag vs 1) (ag vs 2) H) AU [c,(.sl [] .ti),(.i6 0)] d
noncomputable def Sh.f1b (b:Ab)(a:Aa):Out:=
 bK a (Sh.f6 b a) λc d=>
 bK a (Sh.fn c d) λe f=>
 rKN a e f
noncomputable def Sh.fe (a f:Ab)(b:Aa):Out:=
 An (Az (some [(.bool false),(.sl [] .ti)]) b) λc g=>
 bP b (Sh.f1b f g) λd h=>
 gk a true (some d) λi=>
 gk a true (A7 i) λj=>
 gk a true (Ae .none .gtr j (.i6 0)) λk=>
 (AF a k (.bool false)).bind λl=>
 (A6 (some [(.bool false),(.sl [] .ti)]) [(0,1,l),(1,1,d)]).bind λm=>
 bP b (A8 (Af 2 c m h)) λ_ e=>
 (Ac true 2 c e).bind λn=>rPN b n e
noncomputable def Sh.f7e (a:Aa)(e b c:Ab)(f:Aa):Out:=
 (Ae .none .lss e (.i6 0)).bind λg=>
 (Ae .none .rem c (.int .u64 4294967296)).bind λh=>
 (AJ .u32 h).bind λi=>
 (Ae .none .quo c (.int .u64 4294967296)).bind λj=>
 (AJ .u32 j).bind λk=>
 (AS 1 [i,k]).bind λl=>
 bP a (Sh.fe g l f) λm n=>
 bP a (A8 (Af 2 b m n)) λ_ d=>
 (Ac true 2 b d).bind λo=>rPN a o d
noncomputable def Sh.fu (a:Ab)(b:Aa):Out:=
 An (Az (some [(.bool false),(.sl [] .ti)]) b) λc d=>
 (AJ .u64 a).bind λe=>
 AK (λj1=>
 (Ae .none .lss a (.i6 0)).bind λf=>
 Ak f (
 (unA .neg e).bind λg=>
 j1 [a,c,g] d) (
 j1 [a,c,e] d)) (λvs H=>Sh.f7e b (ag vs 0) (ag vs 1) (ag vs 2) H)
noncomputable def Sh.f5g (d a:Ab)(b:Aa):Out:=
 (Ae .none .lss a (.i6 0)).bind λc=>
 gk c false (some a) λe=>
 gk c false (Ae .none .gtr e (.i6 10000)) λf=>
 (AF c (.bool true) f).bind λg=>
 Ak g (
 rPN b (.sl [] .ti) b) (
 Bc (Sh.f6 d b) λh i=>
 An (FA 1 1 (some [(.bool false)]) a a i) λj k=>
 Bc (Cb (AW BY 1 1 j h k)) λl m=>
 Bc (Sh.fn l m) λn o=>
 rPN b n o)
noncomputable def Sh.f5h (i j:Ab)(a:Aa):Out:=
 An (BD true 2 i a) λd k=>
 An (Az (some [(.bool false),(.sl [] .ti)]) k) λe b=>
 (Ad 1 d).bind λl=>
 bC (Ac false 1 l b) (λ_=>True) λm=>
 Bc (Sh.f5g m j b) λn f=>
 (Ad 0 d).bind λg=>
 bC (Ac false 1 g f) (λc=>Ac false 1 g b=some c/\True) λc=>
 Bc (Sh.fe c n f) λo p=>
 bP a (A8 (Af 2 e o p)) λ_ h=>
 (Ac true 2 e h).bind λq=>rPN a q h
noncomputable def Sh.f7 (d:Ab)(a:Aa):Out:=
 An (Az (some [(.bool false),(.sl [] .ti)]) a) λb e=>
 bP a (Sh.fu (.i6 1) e) λf g=>
 bP a (Sh.f5h f d g) λh i=>
 bP a (A8 (Af 2 b h i)) λ_ c=>
 (Ac true 2 b c).bind λj=>rPN a j c
noncomputable def Sh.f8 (e c:Ab)(d:Aa):Out:=
 (Ae .none .geq c (.i6 0)).bind λa=>
 gk a true (some c) λf=>
 gk a true (some e) λg=>
 gk a true (A7 g) λh=>
 gk a true (Ae .none .lss f h) λi=>
 (AF a i (.bool false)).bind λb=>
 gk b true (some e) λj=>
 gk b true (some c) λk=>
 gk b true (Av 1 j k) λl=>
 gk b true (Ac false 1 l d) λm=>
 (AF b m (.bool false)).bind λn=>
 rK d n d
noncomputable def Sh.f7z (b:Aa)(c:LK)(d e f g a:Ab)(h:Aa):Out:=
 (Ae .none .rem a (.i6 2)).bind λi=>
 (Ae .none .eql i (.i6 1)).bind λj=>
 (AS 1 [j]).bind λk=>
 bP b (Cb (AW BY 1 1 f k h)) λl m=>
 (Ae .none .gtr a (.i6 1)).bind λn=>
 (Ae .none .add g (.i6 1)).bind λo=>
 c [d,e,l,n,o] m
noncomputable def Sh.f80 (g:Aa)(h:LK)(a b c i d e:Ab)(f:Aa):Out:=
 AK (λj4=>
 Ak i (
 (Ae .none .add e (.i6 1)).bind λj=>
 j4 [a,b,c,d,j] f) (
 j4 [a,b,c,d,e] f)) (λvs H=>Sh.f7z g h (ag vs 0) (ag vs 1) (ag vs 2) (ag vs 3) (ag vs 4) H)
noncomputable def Sh.f81 (c:Aa)(i:LK)(d a e f b g:Ab)(j:Aa):Out:=
 AK (λj3=>
 bP c (Sh.f8 a b j) λk h=>
 Ak k (
 (Ae .none .add g (.i6 1)).bind λl=>
 j3 [d,a,e,f,b,l] h) (
 j3 [d,a,e,f,b,g] h)) (λvs H=>Sh.f80 c i (ag vs 0) (ag vs 1) (ag vs 2) (ag vs 3) (ag vs 4) (ag vs 5) H)
noncomputable def Sh.f82 (a:Aa)(i:LK)(b d e f c:Ab)(g:Aa):Out:=
 (A7 b).bind λj=>
 (A7 d).bind λk=>
 (Ia JX j [k]).bind λl=>
 (Ae .none .leq c l).bind λm=>
 Ak m (
 AK (λj2=>
 bP a (Sh.f8 b c g) λn h=>
 Ak n (
 (Ae .none .add (.i6 0) (.i6 1)).bind λo=>
 j2 [b,d,e,f,c,o] h) (
 j2 [b,d,e,f,c,(.i6 0)] h)) (λvs H=>Sh.f81 a i (ag vs 0) (ag vs 1) (ag vs 2) (ag vs 3) (ag vs 4) (ag vs 5) H)) (
 bP a (Sh.fn e g) λp q=>
 rPN a p q)
noncomputable def Sh.f5i (b c:Ab)(a:Aa):Out:=
 bP a (Sh.f6 b a) λd e=>
 bP a (Sh.f6 c e) λf g=>
 Ap (λh vs H=>Sh.f82 a h (ag vs 0) (ag vs 1) (ag vs 2) (ag vs 3) (ag vs 4) H) AU [d,f,(.sl [] .ti),(.bool false),(.i6 0)] g
noncomputable def Sh.f83 (a:Aa)(h:LK)(c d b:Ab)(e:Aa):Out:=
 (Ae .none .geq b (.i6 0)).bind λi=>
 Ak i (
 bK a (Sh.f8 c b e) λj k=>
 bK a (Sh.f8 d b k) λl f=>
 (Ae .bool .neq j l).bind λm=>
 Ak m (
 bK a (Sh.f8 c b f) λn g=>
 Ak n (
 rK a (.i6 1) g) (
 rK a (.i6 (-1)) g)) (
 (Ae .none .sub b (.i6 1)).bind λo=>
 h [c,d,o] f)) (
 rK a (.i6 0) e)
noncomputable def Sh.f5j (d e:Ab)(a:Aa):Out:=
 bK a (Sh.f6 d a) λb f=>
 bK a (Sh.f6 e f) λc g=>
 (A7 b).bind λh=>
 (A7 c).bind λi=>
 (Ia JX h [i]).bind λj=>
 (Ae .none .sub j (.i6 1)).bind λk=>
 Ap (λl vs H=>Sh.f83 a l (ag vs 0) (ag vs 1) (ag vs 2) H) AU [b,c,k] g
noncomputable def Sh.f84 (a:Aa)(b:LK)(c d e f g h:Ab)(i:Aa):Out:=
 (Ae .none .eql h (.i6 1)).bind λj=>
 (AS 1 [j]).bind λk=>
 bP a (Cb (AW BY 1 1 e k i)) λl m=>
 (Ae .none .add g (.i6 1)).bind λn=>
 b [c,d,l,f,n] m
noncomputable def Sh.f85 (g:Aa)(h:LK)(b c d e a:Ab)(f:Aa):Out:=
 AK (λj4=>
 (Ae .none .lss a (.i6 0)).bind λi=>
 Ak i (
 (Ae .none .add a (.i6 2)).bind λj=>
 j4 [b,c,d,(.i6 1),e,j] f) (
 j4 [b,c,d,(.i6 0),e,a] f)) (λvs H=>Sh.f84 g h (ag vs 0) (ag vs 1) (ag vs 2) (ag vs 3) (ag vs 4) (ag vs 5) H)
noncomputable def Sh.f86 (c:Aa)(h:LK)(d a e b f:Ab)(i:Aa):Out:=
 AK (λj3=>
 bP c (Sh.f8 a b i) λj g=>
 Ak j (
 (Ae .none .sub f (.i6 1)).bind λk=>
 j3 [d,a,e,b,k] g) (
 j3 [d,a,e,b,f] g)) (λvs H=>Sh.f85 c h (ag vs 0) (ag vs 1) (ag vs 2) (ag vs 3) (ag vs 4) H)
noncomputable def Sh.f87 (a:Aa)(i:LK)(b e d j c:Ab)(f:Aa):Out:=
 (A7 b).bind λk=>
 (Ae .none .lss c k).bind λl=>
 Ak l (
 (unA .neg j).bind λg=>
 AK (λj2=>
 bP a (Sh.f8 b c f) λm h=>
 Ak m (
 (Ae .none .add g (.i6 1)).bind λn=>
 j2 [b,e,d,c,n] h) (
 j2 [b,e,d,c,g] h)) (λvs H=>Sh.f86 a i (ag vs 0) (ag vs 1) (ag vs 2) (ag vs 3) (ag vs 4) H)) (
 bP a (Sh.fn d f) λo p=>
 rPN a (.tup [o,(.bool true)]) p)
noncomputable def Sh.f2z (b c:Ab)(a:Aa):Out:=
 bP a (Sh.f5j b c a) λe d=>
 (Ae .none .lss e (.i6 0)).bind λf=>
 Ak f (
 rPN a (.tup [(.sl [] .ti),(.bool false)]) d) (
 bP a (Sh.f6 b d) λg h=>
 bP a (Sh.f6 c h) λi j=>
 Ap (λk vs H=>Sh.f87 a k (ag vs 0) (ag vs 1) (ag vs 2) (ag vs 3) (ag vs 4) H) AU [g,i,(.sl [] .ti),(.i6 0),(.i6 0)] j)
noncomputable def Sh.f2 (p q:Ab)(a:Aa):Out:=
 An (BD true 2 p a) λc r=>
 An (BD true 2 q r) λe s=>
 An (Az (some [(.bool false),(.sl [] .ti)]) s) λd b=>
 (Ad 0 c).bind λt=>
 (Ac false 1 t b).bind λu=>
 (Ad 0 e).bind λv=>
 (Ac false 1 v b).bind λw=>
 (Ae .bool .eql u w).bind λx=>
 Ak x (
 (Ad 1 c).bind λy=>
 bC (Ac false 1 y b) (λ_=>True) λz=>
 (Ad 1 e).bind λaa=>
 bC (Ac false 1 aa b) (λ_=>True) λab=>
 Bc (Sh.f5i z ab b) λac h=>
 (Ad 0 c).bind λi=>
 bC (Ac false 1 i h) (λg=>Ac false 1 i b=some g/\True) λg=>
 Bc (Sh.fe g ac h) λad ae=>
 bP a (A8 (Af 2 d ad ae)) λ_ j=>
 (Ac true 2 d j).bind λaj=>rPN a aj j) (
 (Ad 1 c).bind λak=>
 (Ac false 1 ak b).bind λal=>
 (Ad 1 e).bind λam=>
 (Ac false 1 am b).bind λan=>
 bP a (Sh.f2z al an b) λk f=>
 (Aq 0 k).bind λap=>
 (Aq 1 k).bind λaq=>
 Ak aq (
 (Ad 0 c).bind λar=>
 (Ac false 1 ar f).bind λau=>
 bP a (Sh.fe au ap f) λav aw=>
 bP a (A8 (Af 2 d av aw)) λ_ l=>
 (Ac true 2 d l).bind λax=>rPN a ax l) (
 (Ad 1 e).bind λay=>
 (Ac false 1 ay f).bind λaz=>
 (Ad 1 c).bind λa0=>
 (Ac false 1 a0 f).bind λa1=>
 bP a (Sh.f2z az a1 f) λm n=>
 (Aq 0 m).bind λa2=>
 (Aq 1 m).bind λa8=>
 (Ad 0 e).bind λa3=>
 (Ac false 1 a3 n).bind λa4=>
 bP a (Sh.fe a4 a2 n) λa5 a6=>
 bP a (A8 (Af 2 d a5 a6)) λ_ o=>
 (Ac true 2 d o).bind λa7=>rPN a a7 o))
noncomputable def Sh.fh (f:Ab)(a:Aa):Out:=
 An (BD true 2 f a) λc g=>
 An (Az (some [(.bool false),(.sl [] .ti)]) g) λd b=>
 (Ad 0 c).bind λh=>
 (Ac false 1 h b).bind λi=>
 (unA .not i).bind λj=>
 (Ad 1 c).bind λk=>
 (Ac false 1 k b).bind λl=>
 bP a (Sh.fe j l b) λm n=>
 bP a (A8 (Af 2 d m n)) λ_ e=>
 (Ac true 2 d e).bind λo=>rPN a o e
noncomputable def Sh.fi (h i:Ab)(a:Aa):Out:=
 An (BD true 2 h a) λd j=>
 An (BD true 2 i j) λk l=>
 An (Az (some [(.bool false),(.sl [] .ti)]) l) λe b=>
 bC (Ac true 2 k b) (λ_=>True) λm=>
 Bc (Sh.fh m b) λn f=>
 bC (Ac true 2 d f) (λc=>Ac true 2 d b=some c/\True) λc=>
 Bc (Sh.f2 c n f) λo p=>
 bP a (A8 (Af 2 e o p)) λ_ g=>
 (Ac true 2 e g).bind λq=>rPN a q g
noncomputable def Sh.f0 (e f:Ab)(a:Aa):Out:=
 An (BD true 2 e a) λg h=>
 An (BD true 2 f h) λi c=>
 (Ac true 2 g c).bind λj=>
 (Ac true 2 i c).bind λk=>
 bP a (Sh.fi j k c) λl m=>
 An (Az (some [(.bool false),(.sl [] .ti)]) m) λd n=>
 bP a (A8 (Af 2 d l n)) λ_ b=>
 (Ad 1 d).bind λo=>
 (Ac false 1 o b).bind λp=>
 (A7 p).bind λq=>
 (Ae .none .eql q (.i6 0)).bind λr=>
 Ak r (
 rP a (.i6 0) b) (
 (Ad 0 d).bind λs=>
 (Ac false 1 s b).bind λt=>
 Ak t (
 rP a (.i6 (-1)) b) (
 rP a (.i6 1) b))
noncomputable def Sh.f1c (l:Aa)(a:LK)(b c d e f g h i:Ab)(j:Aa):Out:=
 (Ae .none .add i (.i6 1)).bind λk=>
 a [b,c,d,e,f,g,h,k] j
noncomputable def Sh.f30 (m:Aa)(j3:LK)(f g h b c i j k l:Ab)(d:Aa):Out:=
 (unA .not j).bind λa=>
 gkc a false (Ac true 2 l d) (λ_ _=>True) λn=>
 gk a false (some b) λo=>
 gk a false (some c) λp=>
 gk a false (Ae .none .add p (.i6 1)) λq=>
 gk a false (Av 2 o q) λr=>
 gkc a false (Ac true 2 r d) (λ_ _=>True) λs=>
 gbN a false d (Sh.f0 n s d) λt e=>
 gk a false (Ae .none .lss t (.i6 0)) λu=>
 (AF a (.bool true) u).bind λv=>
 Ak v (
 (Ae .none .add c (.i6 1)).bind λw=>
 bC (Ac true 2 l e) (λ_=>True) λx=>
 (Av 2 b w).bind λy=>
 bP m (A8 (Af 2 y x e)) λ_ z=>
 j3 [f,g,h,b,c,i,(.bool true),k] z) (
 j3 [f,g,h,b,c,i,j,k] e)
noncomputable def Sh.f5k (g:Aa)(j3:LK)(a h i d b j k l o m:Ab)(e:Aa):Out:=
 (Av 5 a b).bind λp=>
 (Ad 1 p).bind λq=>
 (B5 4 1 q o).bind λr=>
 (Ac false 1 r e).bind λn=>
 (Ae .none .eql n (.i6 0)).bind λs=>
 Ak s (
 j3 [a,h,i,d,b,j,k,l] e) (
 (Ac true 2 m e).bind λt=>
 An (Az (some [(.bool false),(.sl [] .ti)]) e) λf u=>
 bP g (A8 (Af 2 f t u)) λ_ c=>
 AK (λj5=>
 (Av 5 a b).bind λv=>
 (Ad 0 v).bind λw=>
 (Ac false 1 w c).bind λx=>
 (Ae .none .gtr x (.i6 1)).bind λy=>
 Ak y (
 bC (Ac true 2 m c) (λ_=>True) λz=>
 (Av 2 d n).bind λaa=>
 bC (Ac true 2 aa c) (λ_=>True) λab=>
 Bc (Sh.f2 z ab c) λac ad=>
 bP g (A8 (Af 2 f ac ad)) λ_ ae=>
 j5 [a,h,i,d,b,j,k,l,f] ae) (
 j5 [a,h,i,d,b,j,k,l,f] c)) (λvs H=>Sh.f30 g j3 (ag vs 0) (ag vs 1) (ag vs 2) (ag vs 3) (ag vs 4) (ag vs 5) (ag vs 6) (ag vs 7) (ag vs 8) H))
noncomputable def Sh.f5l (b:Aa)(m:LK)(n:LK)(g c d h i j l a:Ab)(k:Aa):Out:=
 (Ae .none .lss a (.i6 4)).bind λo=>
 Ak o (
 AK (λj3=>
 (Ae .none .rem a (.i6 2)).bind λp=>
 (B5 2 1 c p).bind λq=>
 (Ac false 1 q k).bind λr=>
 (A6 (some [(.bool false),(.sl [] .ti)]) []).bind λs=>
 An (Az (some [(.bool false),(.sl [] .ti)]) k) λe t=>
 bP b (A8 (Af 2 e s t)) λ_ f=>
 AK (λj4=>
 (Ae .none .gtr a (.i6 1)).bind λu=>
 Ak u (
 (Ae .none .rem a (.i6 2)).bind λv=>
 (B5 2 1 d v).bind λw=>
 bC (Ac false 1 w f) (λ_=>True) λx=>
 bC (Ac true 2 j f) (λ_=>True) λy=>
 bP b (A8 (Af 2 e y f)) λ_ z=>
 j4 [g,c,d,h,i,j,l,a,x,e] z) (
 j4 [g,c,d,h,i,j,l,a,r,e] f)) (λvs H=>Sh.f5k b j3 (ag vs 0) (ag vs 1) (ag vs 2) (ag vs 3) (ag vs 4) (ag vs 5) (ag vs 6) (ag vs 7) (ag vs 8) (ag vs 9) H)) (λvs H=>Sh.f1c b n (ag vs 0) (ag vs 1) (ag vs 2) (ag vs 3) (ag vs 4) (ag vs 5) (ag vs 6) (ag vs 7) H)) (
 (Ae .none .add i (.i6 1)).bind λaa=>
 m [g,c,d,h,aa] k)
noncomputable def Sh.f5m (a:Aa)(g:LK)(b h i e c:Ab)(d:Aa):Out:=
 (A7 b).bind λj=>
 (Ae .none .lss c j).bind λk=>
 Ak k (
 (Av 5 b c).bind λl=>
 (Ad 0 l).bind λm=>
 (Ac false 1 m d).bind λn=>
 (Ae .none .sub n (.i6 1)).bind λo=>
 bP a (Sh.f7 o d) λp q=>
 An (Az (some [(.bool false),(.sl [] .ti)]) q) λf r=>
 bP a (A8 (Af 2 f p r)) λ_ s=>
 Ap (λt vs H=>Sh.f5l a g t (ag vs 0) (ag vs 1) (ag vs 2) (ag vs 3) (ag vs 4) (ag vs 5) (ag vs 6) (ag vs 7) H) AU [b,h,i,e,c,f,(.bool false),(.i6 0)] s) (
 rPN a e d)
noncomputable def Sh.f1d (a d e:Ab)(b:Aa):Out:=
 An (BD true 2 d b) λf g=>
 An (BD true 2 e g) λh i=>
 (A7 a).bind λj=>
 (Ae .none .add j (.i6 1)).bind λc=>
 An (FA 2 32 (some [(.bool false),(.sl [] .ti)]) c c i) λk l=>
 Ap (λm vs H=>Sh.f5m b m (ag vs 0) (ag vs 1) (ag vs 2) (ag vs 3) (ag vs 4) H) AU [a,f,h,k,(.i6 0)] l
noncomputable def Sh.f31 (d:Ab)(b:Aa):Out:=
 An (BD true 1 d b) λc a=>
 (Ad 0 c).bind λe=>
 (Ac false 1 e a).bind λf=>
 (A7 f).bind λg=>
 (Ae .none .eql g (.i6 0)).bind λh=>
 Ak h (
 rP b (.i6 0) a) (
 (Ad 0 c).bind λi=>
 (Ac false 1 i a).bind λj=>
 (Ad 0 c).bind λk=>
 (Ac false 1 k a).bind λl=>
 (A7 l).bind λm=>
 (Ae .none .sub m (.i6 1)).bind λn=>
 (Av 5 j n).bind λo=>
 (Ad 0 o).bind λp=>
 (Ac false 1 p a).bind λq=>
 rP b q a)
noncomputable def Sh.f1e (ap:Ab)(a:Aa):Out:=
 An (BD true 1 ap a) λh aq=>
 An (Az (some [(.bool false),(.sl [] .ti),(.bool false),(.sl [] .ti),(.bool false),(.sl [] .ti),(.bool false),(.sl [] .ti)]) aq) λp q=>
 (Ad 0 h).bind λar=>
 (Ac false 1 ar q).bind λau=>
 (A7 au).bind λl=>
 (Ae .none .eql l (.i6 0)).bind λav=>
 Ak av (
 (A6 (some [(.bool false),(.sl [] .ti),(.bool false),(.sl [] .ti),(.bool false),(.sl [] .ti),(.bool false),(.sl [] .ti)]) []).bind λaw=>
 bP a (A8 (Af 8 p aw q)) λ_ y=>
 (Eh [Ac true 8 p y,some (.bool false)]).bind λax=>rPN a ax y) (
 (Ad 0 h).bind λay=>
 (Ac false 1 ay q).bind λaz=>
 (A6 (some [(.i6 0),(.i6 0)]) [(0,1,(.i6 0)),(1,1,(.i6 2))]).bind λa0=>
 (A6 (some [(.i6 0),(.i6 0)]) [(0,1,(.i6 1)),(1,1,(.i6 3))]).bind λa1=>
 bP a (Sh.f1d az a0 a1 q) λa2 z=>
 (Av 2 a2 l).bind λa3=>
 (Ac true 2 a3 z).bind λa4=>
 An (Az (some [(.bool false),(.sl [] .ti)]) z) λm a5=>
 bP a (A8 (Af 2 m a4 a5)) λ_ aa=>
 (Ad 0 h).bind λa6=>
 (Ac false 1 a6 aa).bind λa7=>
 (A6 (some [(.i6 0),(.i6 0)]) [(0,1,(.i6 1)),(1,1,(.i6 3))]).bind λa8=>
 (A6 (some [(.i6 0),(.i6 0)]) [(0,1,(.i6 0)),(1,1,(.i6 2))]).bind λa9=>
 bP a (Sh.f1d a7 a8 a9 aa) λba ab=>
 (Av 2 ba l).bind λbb=>
 (Ac true 2 bb ab).bind λbc=>
 An (Az (some [(.bool false),(.sl [] .ti)]) ab) λr bd=>
 bP a (A8 (Af 2 r bc bd)) λ_ ac=>
 (Ad 0 h).bind λbe=>
 (Ac false 1 be ac).bind λbg=>
 (A6 (some [(.i6 0),(.i6 0)]) [(0,1,(.i6 0)),(1,1,(.i6 1))]).bind λbj=>
 (A6 (some [(.i6 0),(.i6 0)]) [(0,1,(.i6 2)),(1,1,(.i6 3))]).bind λbk=>
 bP a (Sh.f1d bg bj bk ac) λbl ad=>
 (Av 2 bl l).bind λbm=>
 (Ac true 2 bm ad).bind λbp=>
 An (Az (some [(.bool false),(.sl [] .ti)]) ad) λe bq=>
 bP a (A8 (Af 2 e bp bq)) λ_ ae=>
 (Ad 0 h).bind λbr=>
 (Ac false 1 br ae).bind λbt=>
 (A6 (some [(.i6 0),(.i6 0)]) [(0,1,(.i6 2)),(1,1,(.i6 3))]).bind λbu=>
 (A6 (some [(.i6 0),(.i6 0)]) [(0,1,(.i6 0)),(1,1,(.i6 1))]).bind λbv=>
 bP a (Sh.f1d bt bu bv ae) λbw aj=>
 (Av 2 bw l).bind λbz=>
 (Ac true 2 bz aj).bind λb0=>
 An (Az (some [(.bool false),(.sl [] .ti)]) aj) λi b1=>
 bP a (A8 (Af 2 i b0 b1)) λ_ ak=>
 (Ac true 1 h ak).bind λb2=>
 bP a (Sh.f31 b2 ak) λal b3=>
 bP a (Sh.f7 al b3) λb4 b5=>
 (Ae .none .sub al (.i6 1)).bind λb6=>
 bP a (Sh.f7 b6 b5) λb7 b8=>
 bP a (Sh.fh b7 b8) λb9 ca=>
 An (Az (some [(.bool false),(.sl [] .ti)]) ca) λb cb=>
 An (Az (some [(.bool false),(.sl [] .ti)]) cb) λs cc=>
 bP a (A8 (Af 2 b b4 cc)) λ_ cd=>
 bP a (A8 (Af 2 s b9 cd)) λ_ c=>
 bC (Ac true 2 s c) (λ_=>True) λce=>
 bC (Ac true 2 m c) (λ_=>True) λcg=>
 Bc (Sh.f2 ce cg c) λcj d=>
 bC (Ac true 2 s d) (λw=>Ac true 2 s c=some w/\True) λw=>
 bC (Ac true 2 e d) (λx=>Ac true 2 e c=some x/\True) λx=>
 Bc (Sh.f2 w x d) λck f=>
 bC (Ac true 2 m f) (λt=>Ac true 2 m d=some t/\Ac true 2 m c=some t/\True) λt=>
 bC (Ac true 2 r f) (λu=>Ac true 2 r d=some u/\Ac true 2 r c=some u/\True) λu=>
 Bc (Sh.f2 t u f) λcl n=>
 bC (Ac true 2 b n) (λo=>Ac true 2 b f=some o/\Ac true 2 b d=some o/\Ac true 2 b c=some o/\True) λo=>
 Bc (Sh.fi o cl n) λcm v=>
 bC (Ac true 2 e v) (λj=>Ac true 2 e n=some j/\Ac true 2 e f=some j/\Ac true 2 e d=some j/\Ac true 2 e c=some j/\True) λj=>
 bC (Ac true 2 i v) (λk=>Ac true 2 i n=some k/\Ac true 2 i f=some k/\Ac true 2 i d=some k/\Ac true 2 i c=some k/\True) λk=>
 Bc (Sh.f2 j k v) λcn am=>
 bC (Ac true 2 b am) (λg=>Ac true 2 b v=some g/\Ac true 2 b n=some g/\Ac true 2 b f=some g/\Ac true 2 b d=some g/\Ac true 2 b c=some g/\True) λg=>
 Bc (Sh.fi g cn am) λcp cq=>
 (A6 (some [(.bool false),(.sl [] .ti),(.bool false),(.sl [] .ti),(.bool false),(.sl [] .ti),(.bool false),(.sl [] .ti)]) [(0,2,cj),(2,2,ck),(4,2,cm),(6,2,cp)]).bind λcr=>
 Bc (A8 (Af 8 p cr cq)) λ_ an=>
 (Eh [Ac true 8 p an,some (.bool true)]).bind λct=>rPN a ct an)
noncomputable def Sh.f32 (p i:Ab)(c:Aa):Out:=
 An (BD true 1 p c) λq j=>
 (Ac true 1 q j).bind λr=>
 bP c (Sh.f1e r j) λk s=>
 (Aq 0 k).bind λt=>
 (Aq 1 k).bind λad=>
 An (Az (some [(.bool false),(.sl [] .ti),(.bool false),(.sl [] .ti),(.bool false),(.sl [] .ti),(.bool false),(.sl [] .ti)]) s) λd u=>
 bP c (A8 (Af 8 d t u)) λ_ l=>
 Bc (Sh.fu i l) λv m=>
 (Ad 4 d).bind λn=>
 bC (Ac true 2 n m) (λe=>Ac true 2 n l=some e/\True) λe=>
 Bc (Sh.f0 e v m) λw f=>
 (Ae .none .leq w (.i6 0)).bind λa=>
 gk a true (some i) λx=>
 gbN a true f (Sh.fu x f) λy g=>
 gk a true (Ad 6 d) λo=>
 gkc a true (Ac true 2 o g) (λb h=>gR b (Ac true 2 o f)=some h/\True) λh=>
 gbN a true g (Sh.f0 h y g) λz aa=>
 gk a true (Ae .none .leq z (.i6 0)) λab=>
 (AF a ab (.bool false)).bind λac=>
 rP c ac aa
noncomputable def Sh.f33 (z:Aa)(g:LK)(h:LK)(c f d e:Ab)(b:Aa):Out:=
 (Ae .none .lss e (.i6 4)).bind λa=>
 gk a true (Ad 0 c) λi=>
 gk a true (Ac false 1 i b) λj=>
 gk a true (some d) λk=>
 gk a true (Av 5 j k) λl=>
 gk a true (Ad 0 l) λm=>
 gk a true (Ac false 1 m b) λn=>
 gk a true (Ae .none .eql n (.i6 1)) λo=>
 (AF a o (.bool false)).bind λp=>
 Ak p (
 (Ad 0 c).bind λq=>
 (Ac false 1 q b).bind λr=>
 (Av 5 r d).bind λs=>
 (Ad 1 s).bind λt=>
 (B5 4 1 t e).bind λu=>
 (Ac false 1 u b).bind λv=>
 (Ia JX f [v]).bind λw=>
 (Ae .none .add e (.i6 1)).bind λx=>
 h [c,w,d,x] b) (
 (Ae .none .add d (.i6 1)).bind λy=>
 g [c,f,y] b)
noncomputable def Sh.f5n (b:Aa)(f:LK)(c d e:Ab)(a:Aa):Out:=
 (Ad 0 c).bind λg=>
 (Ac false 1 g a).bind λh=>
 (A7 h).bind λi=>
 (Ae .none .lss e i).bind λj=>
 Ak j (
 Ap (λk vs H=>Sh.f33 b f k (ag vs 0) (ag vs 1) (ag vs 2) (ag vs 3) H) AU [c,d,e,(.i6 0)] a) (
 (AJ .u8 d).bind λl=>
 rP b l a)
noncomputable def Sh.f34 (b:Ab)(a:Aa):Out:=
 An (BD true 1 b a) λc d=>
 Ap (λe vs H=>Sh.f5n a e (ag vs 0) (ag vs 1) (ag vs 2) H) AU [c,(.i6 0),(.i6 0)] d
noncomputable def Sh.fo (e g h:Ab)(a:Aa):Out:=
 An (BD true 2 g a) λf i=>
 An (BD true 2 h i) λj c=>
 (Ae .none .eql e (.i6 5)).bind λk=>
 Ak k (
 rP a (.bool true) c) (
 (Ad 1 f).bind λl=>
 (Ac true 1 l c).bind λm=>
 (Ad 0 j).bind λn=>
 (Ac false 1 n c).bind λo=>
 bP a (Sh.f32 m o c) λp d=>
 (unA .not p).bind λq=>
 Ak q (
 rP a (.bool false) d) (
 (Ae .none .eql e (.i6 4)).bind λb=>
 gk b false (Ad 1 f) λr=>
 gk b false (Ac true 1 r d) λs=>
 gbP a b false d (Sh.f34 s d) λt u=>
 gk b false (Ae .none .leq t (.int .u8 1)) λv=>
 (AF b (.bool true) v).bind λw=>
 rP a w u))
noncomputable def Sh.f5o (g k l:Ab)(a:Aa):Out:=
 An (BD true 2 k a) λh m=>
 An (BD true 2 l m) λi n=>
 bP a (Sh.f50 g n) λo e=>
 (unA .not o).bind λb=>
 gk b false (Ac true 2 h e) λp=>
 gbP a b false e (Sh.f5d p e) λq f=>
 gk b false (unA .not q) λr=>
 (AF b (.bool true) r).bind λc=>
 gk c false (Ac true 2 i f) λs=>
 gbP a c false f (Sh.f2x s f) λt d=>
 gk c false (unA .not t) λu=>
 (AF c (.bool true) u).bind λv=>
 Ak v (
 rP a (.i6 1) d) (
 (Ac true 2 h d).bind λw=>
 (Ac true 2 i d).bind λx=>
 bP a (Sh.fo g w x d) λy j=>
 (unA .not y).bind λz=>
 Ak z (
 rP a (.i6 5) j) (
 rP a (.i6 0) j))
noncomputable def Sh.f88 (c:Aa)(h:LK)(d b e:Ab)(a:Aa):Out:=
 (Ae .none .geq e (.i6 0)).bind λi=>
 Ak i (
 (Ae .none .gtr b (.int .u64 4294967295)).bind λj=>
 Ak j (
 rP c (.tup [(.i6 0),(.bool false)]) a) (
 (Ae .none .mul b (.int .u64 4294967296)).bind λk=>
 (Ad 1 d).bind λl=>
 (Ac false 1 l a).bind λm=>
 (Av 1 m e).bind λn=>
 (Ac false 1 n a).bind λo=>
 (AJ .u64 o).bind λp=>
 (Ae .none .add k p).bind λq=>
 (Ae .none .sub e (.i6 1)).bind λr=>
 h [d,q,r] a)) (
 (Ad 0 d).bind λs=>
 (Ac false 1 s a).bind λf=>
 gk f true (some b) λt=>
 gk f true (Ae .none .leq t (.int .u64 9223372036854775808)) λu=>
 (AF f u (.bool false)).bind λv=>
 Ak v (
 (unA .neg b).bind λw=>
 (AJ .i64 w).bind λx=>
 rP c (.tup [x,(.bool true)]) a) (
 (Ad 0 d).bind λy=>
 (Ac false 1 y a).bind λg=>
 gk g false (some b) λz=>
 gk g false (Ae .none .gtr z (.int .u64 9223372036854775807)) λaa=>
 (AF g (.bool true) aa).bind λab=>
 Ak ab (
 rP c (.tup [(.i6 0),(.bool false)]) a) (
 (AJ .i64 b).bind λac=>
 rP c (.tup [ac,(.bool true)]) a)))
noncomputable def Sh.fv (d:Ab)(a:Aa):Out:=
 An (BD true 2 d a) λb c=>
 (Ad 1 b).bind λe=>
 (Ac false 1 e c).bind λf=>
 (A7 f).bind λg=>
 (Ae .none .sub g (.i6 1)).bind λh=>
 Ap (λi vs H=>Sh.f88 a i (ag vs 0) (ag vs 1) (ag vs 2) H) AU [b,(.int .u64 0),h] c
noncomputable def Sh.f35 (i j:Ab)(b:Aa):Out:=
 An (BD true 2 i b) λd k=>
 (Ae .none .sub j (.i6 1)).bind λl=>
 bP b (Sh.f7 l k) λm n=>
 An (Az (some [(.bool false),(.sl [] .ti)]) n) λe o=>
 bP b (A8 (Af 2 e m o)) λ_ f=>
 bC (Ac true 2 e f) (λ_=>True) λp=>
 Bc (Sh.fh p f) λq h=>
 bC (Ac true 2 d h) (λg=>Ac true 2 d f=some g/\True) λg=>
 Bc (Sh.f0 g q h) λr c=>
 (Ae .none .geq r (.i6 0)).bind λa=>
 gkc a true (Ac true 2 d c) (λ_ _=>True) λs=>
 gkc a true (Ac true 2 e c) (λ_ _=>True) λt=>
 gbN a true c (Sh.f0 s t c) λu v=>
 gk a true (Ae .none .lss u (.i6 0)) λw=>
 (AF a w (.bool false)).bind λx=>
 rP b x v
noncomputable def Sh.f36 (d:Aa)(i e f g j:Ab)(a:Aa):Out:=
 bC (Ac true 2 i a) (λ_=>True) λk=>
 Bc (A8 (Af 2 f k a)) λ_ h=>
 bC (Ac true 2 e h) (λb=>Ac true 2 e a=some b/\True) λb=>
 bP d (A8 (Af 2 g b h)) λ_ c=>
 (Eh [some j,Ac true 2 f c,Ac true 2 g c]).bind λl=>rPN d l c
noncomputable def Sh.f37 (b:Aa)(e a f g h i:Ab)(d:Aa):Out:=
 AK (λj2=>
 (Ac true 2 a d).bind λj=>
 (Ac true 2 h d).bind λk=>
 bP b (Sh.f0 j k d) λl c=>
 (Ae .none .geq l (.i6 0)).bind λm=>
 Ak m (
 (Ae .none .add i (.i6 2)).bind λn=>
 (Ac true 2 a c).bind λo=>
 (Ac true 2 h c).bind λp=>
 bP b (Sh.fi o p c) λq r=>
 bP b (A8 (Af 2 a q r)) λ_ s=>
 j2 [e,a,f,g,n] s) (
 j2 [e,a,f,g,i] c)) (λvs H=>Sh.f36 b (ag vs 0) (ag vs 1) (ag vs 2) (ag vs 3) (ag vs 4) H)
noncomputable def Sh.f5p (i j k:Ab)(a:Aa):Out:=
 An (BD true 2 j a) λb l=>
 An (BD true 2 k l) λf m=>
 An (Az (some [(.bool false),(.sl [] .ti)]) m) λg n=>
 An (Az (some [(.bool false),(.sl [] .ti)]) n) λh o=>
 (Ae .none .sub i (.i6 1)).bind λp=>
 bP a (Sh.f7 p o) λq r=>
 An (Az (some [(.bool false),(.sl [] .ti)]) r) λc s=>
 bP a (A8 (Af 2 c q s)) λ_ e=>
 AK (λj1=>
 (Ac true 2 b e).bind λt=>
 (Ac true 2 c e).bind λu=>
 bP a (Sh.f0 t u e) λv d=>
 (Ae .none .geq v (.i6 0)).bind λw=>
 Ak w (
 (Ae .none .add (.i6 0) (.i6 1)).bind λx=>
 (Ac true 2 b d).bind λy=>
 (Ac true 2 c d).bind λz=>
 bP a (Sh.fi y z d) λaa ab=>
 bP a (A8 (Af 2 b aa ab)) λ_ ac=>
 j1 [b,f,g,h,c,x] ac) (
 j1 [b,f,g,h,c,(.i6 0)] d)) (λvs H=>Sh.f37 a (ag vs 0) (ag vs 1) (ag vs 2) (ag vs 3) (ag vs 4) (ag vs 5) H)
noncomputable def Sh.f7f (c:Aa)(n:LK)(d f g e:Ab)(b:Aa):Out:=
 (Ae .none .gtr e (.i6 0)).bind λo=>
 Ak o (
 (Ad 0 d).bind λp=>
 bC (Ac false 1 p b) (λ_=>True) λq=>
 (Ae .none .sub e (.i6 1)).bind λr=>
 (Av 5 q r).bind λs=>
 (Ad 0 s).bind λt=>
 bC (Ac false 1 t b) (λ_=>True) λu=>
 bC (Ac true 2 f b) (λ_=>True) λv=>
 bC (Ac true 2 g b) (λ_=>True) λw=>
 Bc (Sh.f5p u v w b) λh x=>
 (Aq 0 h).bind λy=>
 (Aq 1 h).bind λz=>
 An (Az (some [(.bool false),(.sl [] .ti)]) x) λk aa=>
 An (Az (some [(.bool false),(.sl [] .ti)]) aa) λi ab=>
 Bc (A8 (Af 2 k z ab)) λ_ ac=>
 (Aq 2 h).bind λad=>
 bP c (A8 (Af 2 i ad ac)) λ_ a=>
 (Ad 0 d).bind λae=>
 (Ac false 1 ae a).bind λaj=>
 (Ae .none .sub e (.i6 1)).bind λak=>
 (Av 5 aj ak).bind λal=>
 (Ad 1 al).bind λam=>
 (B5 4 1 am y).bind λan=>
 (Ac false 1 an a).bind λl=>
 (Ad 0 d).bind λap=>
 (Ac false 1 ap a).bind λaq=>
 (Ae .none .sub e (.i6 1)).bind λar=>
 (Av 5 aq ar).bind λau=>
 (Ad 0 au).bind λav=>
 (Ac false 1 av a).bind λaw=>
 (Ae .none .eql aw (.i6 1)).bind λax=>
 Ak ax (
 (AJ .u8 l).bind λay=>
 rP c ay a) (
 bC (Ac true 2 k a) (λ_=>True) λaz=>
 Bc (A8 (Af 2 f az a)) λ_ m=>
 bC (Ac true 2 i m) (λj=>Ac true 2 i a=some j/\True) λj=>
 bP c (A8 (Af 2 g j m)) λ_ a0=>
 n [d,f,g,l] a0)) (
 rP c (.int .u8 0) b)
noncomputable def Sh.f5q (r s t:Ab)(a:Aa):Out:=
 An (BD true 1 r a) λi u=>
 An (BD true 2 s u) λf v=>
 An (BD true 2 t v) λb o=>
 (Ac true 1 i o).bind λw=>
 bP a (Sh.f31 w o) λg j=>
 (Ae .none .eql g (.i6 0)).bind λc=>
 gk c false (Ac true 2 f j) λx=>
 gk c false (some g) λy=>
 gbP a c false j (Sh.f35 x y j) λz k=>
 gk c false (unA .not z) λaa=>
 (AF c (.bool true) aa).bind λd=>
 gk d false (Ac true 2 b k) λab=>
 gk d false (some g) λac=>
 gbP a d false k (Sh.f35 ab ac k) λad p=>
 gk d false (unA .not ad) λae=>
 (AF d (.bool true) ae).bind λaj=>
 Ak aj (
 rP a (.int .u8 0) p) (
 (Ae .none .sub g (.i6 1)).bind λak=>
 bP a (Sh.f7 ak p) λal am=>
 An (Az (some [(.bool false),(.sl [] .ti)]) am) λh an=>
 bP a (A8 (Af 2 h al an)) λ_ e=>
 bC (Ac true 2 f e) (λ_=>True) λap=>
 bC (Ac true 2 h e) (λ_=>True) λaq=>
 Bc (Sh.f2 ap aq e) λar l=>
 bC (Ac true 2 b l) (λm=>Ac true 2 b e=some m/\True) λm=>
 bC (Ac true 2 h l) (λn=>Ac true 2 h e=some n/\True) λn=>
 Bc (Sh.f2 m n l) λau av=>
 Bc (A8 (Af 2 f ar av)) λ_ aw=>
 bP a (A8 (Af 2 b au aw)) λ_ q=>
 (Ad 0 i).bind λax=>
 (Ac false 1 ax q).bind λay=>
 (A7 ay).bind λaz=>
 Ap (λa0 vs H=>Sh.f7f a a0 (ag vs 0) (ag vs 1) (ag vs 2) (ag vs 3) H) AU [i,f,b,az] q)
noncomputable def Sh.f1y (j:Aa)(u:LK)(v:LK)(a q e k r f l m g:Ab)(b:Aa):Out:=
 (Ae .none .lss g k).bind λw=>
 Ak w (
 Bc (Sh.fu g b) λx h=>
 (Ad 0 e).bind λs=>
 bC (Ac true 2 s h) (λn=>Ac true 2 s b=some n/\True) λn=>
 Bc (Sh.f2 n x h) λy o=>
 Bc (Sh.fu l o) λz p=>
 (Ad 2 e).bind λi=>
 bC (Ac true 2 i p) (λd=>Ac true 2 i o=some d/\Ac true 2 i h=some d/\Ac true 2 i b=some d/\True) λd=>
 Bc (Sh.f2 d z p) λaa t=>
 bC (Ac true 1 a t) (λc=>Ac true 1 a p=some c/\Ac true 1 a o=some c/\Ac true 1 a h=some c/\Ac true 1 a b=some c/\True) λc=>
 Bc (Sh.f5q c y aa t) λab ac=>
 (Av 1 m g).bind λad=>
 bP j (A8 (Af 1 ad ab ac)) λ_ ae=>
 (Ae .none .add g (.i6 1)).bind λaj=>
 v [a,q,e,k,r,f,l,m,aj] ae) (
 (Ad 4 f).bind λak=>
 (Ac false 1 ak b).bind λal=>
 (Dn m b).bind λam=>
 (AS 1 [am]).bind λan=>
 bP j (Cb (AW U3 1 16 al an b)) λap aq=>
 (Ad 4 f).bind λar=>
 bP j (A8 (Af 1 ar ap aq)) λ_ au=>
 (Ae .none .add l (.i6 1)).bind λav=>
 u [a,q,e,k,r,f,av] au)
noncomputable def Sh.f38 (a:Aa)(i:LK)(j b k c e f g:Ab)(d:Aa):Out:=
 (Ae .none .lss g e).bind λl=>
 Ak l (
 An (FA 1 1 (some [(.int .u8 0)]) c c d) λm n=>
 Ap (λo vs H=>Sh.f1y a i o (ag vs 0) (ag vs 1) (ag vs 2) (ag vs 3) (ag vs 4) (ag vs 5) (ag vs 6) (ag vs 7) (ag vs 8) H) AU [j,b,k,c,e,f,g,m,(.i6 0)] n) (
 (Ac true 5 f d).bind λp=>
 bP a (A8 (Af 5 b p d)) λ_ h=>
 (Eh [Ac true 5 b h,some (.i6 0)]).bind λq=>rPN a q h)
noncomputable def Sh.f5r (s d:Ab)(a:Aa):Out:=
 An (BD true 1 s a) λe t=>
 An (Az (some [(.bool false),(.sl [] .ti),(.bool false),(.sl [] .ti),(.sl [] .ti)]) t) λb f=>
 (Ae .none .lss d (.i6 0)).bind λg=>
 gk g false (some d) λu=>
 gk g false (Ae .none .gtr u (.i6 1000)) λv=>
 (AF g (.bool true) v).bind λw=>
 Ak w (
 (A6 (some [(.bool false),(.sl [] .ti),(.bool false),(.sl [] .ti),(.sl [] .ti)]) []).bind λx=>
 bP a (A8 (Af 5 b x f)) λ_ k=>
 (Eh [Ac true 5 b k,some (.i6 1)]).bind λy=>rPN a y k) (
 (Ac true 1 e f).bind λz=>
 bP a (Sh.f32 z d f) λaa h=>
 (unA .not aa).bind λab=>
 Ak ab (
 (A6 (some [(.bool false),(.sl [] .ti),(.bool false),(.sl [] .ti),(.sl [] .ti)]) []).bind λac=>
 bP a (A8 (Af 5 b ac h)) λ_ l=>
 (Eh [Ac true 5 b l,some (.i6 4)]).bind λad=>rPN a ad l) (
 (Ac true 1 e h).bind λae=>
 bP a (Sh.f1e ae h) λm aj=>
 (Aq 0 m).bind λak=>
 (Aq 1 m).bind λal=>
 An (Az (some [(.bool false),(.sl [] .ti),(.bool false),(.sl [] .ti),(.bool false),(.sl [] .ti),(.bool false),(.sl [] .ti)]) aj) λc am=>
 bP a (A8 (Af 8 c ak am)) λ_ i=>
 (unA .not al).bind λan=>
 Ak an (
 (A6 (some [(.bool false),(.sl [] .ti),(.bool false),(.sl [] .ti),(.sl [] .ti)]) []).bind λap=>
 bP a (A8 (Af 5 b ap i)) λ_ n=>
 (Eh [Ac true 5 b n,some (.i6 0)]).bind λaq=>rPN a aq n) (
 (Ad 4 c).bind λar=>
 (Ac true 2 ar i).bind λau=>
 bP a (Sh.fv au i) λo p=>
 (Aq 0 o).bind λav=>
 (Aq 1 o).bind λa7=>
 (Ad 6 c).bind λaw=>
 (Ac true 2 aw p).bind λax=>
 bP a (Sh.fv ax p) λq j=>
 (Aq 0 q).bind λay=>
 (Aq 1 q).bind λa8=>
 (Ad 0 c).bind λaz=>
 (Ac true 2 az j).bind λa0=>
 (Ad 2 c).bind λa1=>
 (Ac true 2 a1 j).bind λa2=>
 (A6 (some [(.bool false),(.sl [] .ti),(.bool false),(.sl [] .ti),(.sl [] .ti)]) [(0,2,a0),(2,2,a2)]).bind λa3=>
 An (Az (some [(.bool false),(.sl [] .ti),(.bool false),(.sl [] .ti),(.sl [] .ti)]) j) λr a4=>
 bP a (A8 (Af 5 r a3 a4)) λ_ a5=>
 Ap (λa6 vs H=>Sh.f38 a a6 (ag vs 0) (ag vs 1) (ag vs 2) (ag vs 3) (ag vs 4) (ag vs 5) (ag vs 6) H) AU [e,b,c,av,ay,r,(.i6 0)] a5)))
noncomputable def Sh.f7g (f:Aa)(j:LK)(g a c h b:Ab)(d:Aa):Out:=
 (Ae .none .geq b (.i6 0)).bind λk=>
 Ak k (
 (Ae .none .mul h (.int .u64 4294967296)).bind λl=>
 (Av 1 g b).bind λm=>
 (Ac false 1 m d).bind λn=>
 (AJ .u64 n).bind λo=>
 (Ae .none .add l o).bind λi=>
 bC (AJ .u64 a) (λ_=>True) λp=>
 (Ae .none .quo i p).bind λq=>
 bC (AJ .u32 q) (λ_=>True) λr=>
 (Av 1 c b).bind λs=>
 Bc (A8 (Af 1 s r d)) λ_ t=>
 bC (AJ .u64 a) (λe=>AJ .u64 a=some e/\True) λe=>
 (Ae .none .rem i e).bind λu=>
 (Ae .none .sub b (.i6 1)).bind λv=>
 j [g,a,c,u,v] t) (
 bP f (Sh.f1b c d) λw x=>
 (AJ .u32 h).bind λy=>
 rPN f (.tup [w,y]) x)
noncomputable def Sh.f5s (b c:Ab)(a:Aa):Out:=
 (Ae .none .eql c (.int .u32 0)).bind λe=>
 Ak e (
 rPN a (.tup [(.sl [] .ti),(.int .u32 0)]) a) (
 (A7 b).bind λd=>
 An (FA 1 4 (some [(.int .u32 0)]) d d a) λf g=>
 (A7 b).bind λh=>
 (Ae .none .sub h (.i6 1)).bind λi=>
 Ap (λj vs H=>Sh.f7g a j (ag vs 0) (ag vs 1) (ag vs 2) (ag vs 3) (ag vs 4) H) AU [b,c,f,(.int .u64 0),i] g)
noncomputable def Sh.f7h (b:Aa)(g:LK)(d h i:Ab)(j:Aa):Out:=
 bP b (Sh.f5s i (.int .u32 10) j) λe a=>
 (Aq 0 e).bind λf=>
 (Aq 1 e).bind λk=>
 (Ae .none .add (.int .u32 48) k).bind λl=>
 (AJ .u8 l).bind λm=>
 (AS 1 [m]).bind λn=>
 (Dn n a).bind λo=>
 (Ae .none .add o h).bind λc=>
 (A7 f).bind λp=>
 (Ae .none .eql p (.i6 0)).bind λq=>
 Ak q (
 (Ad 0 d).bind λr=>
 (Ac false 1 r a).bind λs=>
 Ak s (
 (Ae .none .add (.str [45]) c).bind λt=>
 rP b t a) (
 rP b c a)) (
 g [d,c,f] a)
noncomputable def Sh.f39 (d:Ab)(a:Aa):Out:=
 An (BD true 2 d a) λb c=>
 (Ad 1 b).bind λe=>
 (Ac false 1 e c).bind λf=>
 Ap (λg vs H=>Sh.f7h a g (ag vs 0) (ag vs 1) (ag vs 2) H) AU [b,(.str []),f] c
noncomputable def Sh.f7i (i:Aa)(a:LK)(b c d e f:Ab)(g:Aa):Out:=
 (Ae .none .add f (.i6 1)).bind λh=>
 a [b,c,d,e,h] g
noncomputable def Sh.f5t (a:Aa)(i:LK)(b e f g c:Ab)(d:Aa):Out:=
 (CK b).bind λj=>
 (Ae .none .lss c j).bind λk=>
 Ak k (
 AK (λj2=>
 (Es b c).bind λl=>
 (Ae .none .eql l (.int .u8 0)).bind λm=>
 Ak m (
 (AS 1 [(.int .u8 46)]).bind λn=>
 bP a (Cb (AW IL 1 1 f n d)) λo p=>
 j2 [b,e,o,g,c] p) (
 (AS 1 [e]).bind λq=>
 bP a (Cb (AW IL 1 1 f q d)) λh r=>
 (A7 h).bind λs=>
 j2 [b,e,h,s,c] r)) (λvs H=>Sh.f7i a i (ag vs 0) (ag vs 1) (ag vs 2) (ag vs 3) (ag vs 4) H)) (
 (Bw 1 f none (some g) none).bind λt=>
 (Dn t d).bind λu=>
 rP a u d)
noncomputable def Sh.f5u (b c:Ab)(a:Aa):Out:=
 Ap (λd vs H=>Sh.f5t a d (ag vs 0) (ag vs 1) (ag vs 2) (ag vs 3) (ag vs 4) H) AU [b,c,(.sl [] .ti),(.i6 0),(.i6 0)] a
noncomputable def Sh.f7j (j:Aa)(a:LK)(b c d e:Ab)(f:Aa):Out:=
 (Ae .none .add c e).bind λg=>
 (Ae .none .add g (.str [10])).bind λh=>
 (Ae .none .add d (.i6 1)).bind λi=>
 a [b,h,i] f
noncomputable def Sh.f5v (d:Aa)(h:LK)(b e c:Ab)(a:Aa):Out:=
 (Ad 4 b).bind λi=>
 (Ac false 1 i a).bind λj=>
 (A7 j).bind λk=>
 (Ae .none .lss c k).bind λl=>
 Ak l (
 (Ad 4 b).bind λm=>
 (Ac false 1 m a).bind λn=>
 (Av 1 n c).bind λo=>
 (Ac false 1 o a).bind λp=>
 bP d (Sh.f5u p (.int .u8 42) a) λf g=>
 AK (λj3=>
 (Ae .none .eql f (.str [])).bind λq=>
 Ak q (
 j3 [b,e,c,(.str [46])] g) (
 j3 [b,e,c,f] g)) (λvs H=>Sh.f7j d h (ag vs 0) (ag vs 1) (ag vs 2) (ag vs 3) H)) (
 rP d (.tup [e,(.i6 0)]) a)
noncomputable def Sh.f5w (a:Aa)(b c:Ab)(d:Aa):Out:=
 Ap (λe vs H=>Sh.f5v a e (ag vs 0) (ag vs 1) (ag vs 2) H) AU [b,c,(.i6 0)] d
noncomputable def Sh.fw (n o:Ab)(a:Aa):Out:=
 An (BD true 2 n a) λe p=>
 An (BD true 2 o p) λh f=>
 (Ac true 2 e f).bind λq=>
 (Ac true 2 h f).bind λr=>
 bP a (Sh.f5o (.i6 2) q r f) λi d=>
 (Ae .none .neq i (.i6 0)).bind λs=>
 Ak s (
 rP a (.tup [(.str []),i]) d) (
 (Ad 1 e).bind λt=>
 (Ac true 1 t d).bind λu=>
 (Ad 0 h).bind λv=>
 (Ac false 1 v d).bind λw=>
 bP a (Sh.f5r u w d) λj x=>
 (Aq 0 j).bind λy=>
 (Aq 1 j).bind λay=>
 An (Az (some [(.bool false),(.sl [] .ti),(.bool false),(.sl [] .ti),(.sl [] .ti)]) x) λb z=>
 bP a (A8 (Af 5 b y z)) λ_ c=>
 (Ad 0 e).bind λaa=>
 (Ac false 1 aa c).bind λab=>
 (Ae .none .add (.str [35,76,105,102,101,32,49,46,48,53,10,35,82,32]) ab).bind λac=>
 (Ae .none .add ac (.str [10])).bind λk=>
 AK (λj1=>
 (Ad 4 b).bind λad=>
 (Ac false 1 ad c).bind λae=>
 (A7 ae).bind λaj=>
 (Ae .none .gtr aj (.i6 0)).bind λak=>
 Ak ak (
 (Ad 0 b).bind λal=>
 bC (Ac true 2 al c) (λ_=>True) λam=>
 Bc (Sh.f39 am c) λan l=>
 (Ad 2 b).bind λm=>
 bC (Ac true 2 m l) (λg=>Ac true 2 m c=some g/\True) λg=>
 Bc (Sh.f39 g l) λap aq=>
 (Ae .none .add k (.str [35,80,32])).bind λar=>
 (Ae .none .add ar an).bind λau=>
 (Ae .none .add au (.str [32])).bind λav=>
 (Ae .none .add av ap).bind λaw=>
 (Ae .none .add aw (.str [10])).bind λax=>
 j1 [b,ax] aq) (
 j1 [b,k] c)) (λvs H=>Sh.f5w a (ag vs 0) (ag vs 1) H))
noncomputable def Sh.fx (e:Ab)(a:Aa):Out:=
 (A6 (some [(.str []),(.i6 0)]) [(0,1,e)]).bind λf=>
 (A6 (some [(.i6 0),(.i6 0)]) [(0,1,(.i6 1000)),(1,1,(.i6 100000))]).bind λg=>
 (A6 (some [(.str []),(.i6 0),(.i6 0),(.i6 0),(.str []),(.bool false),(.bool false),(.sl [] .ti),(.bool false),(.sl [] .ti),(.i6 0),(.sl [] .ti)]) [(0,2,f),(2,2,g)]).bind λh=>
 An (BD true 12 h a) λi j=>
 bP a (Sh.f28 (.bfn 59 [i]) j) λk l=>
 An (Az (some [(.i6 0),(.str [])]) l) λb m=>
 bP a (A8 (Af 2 b k m)) λ_ c=>
 (Ad 1 b).bind λn=>
 bC (Ac false 1 n c) (λ_=>True) λo=>
 (Ad 0 b).bind λp=>
 bC (Ac false 1 p c) (λ_=>True) λq=>
 (Ae .none .eql q (.i6 0)).bind λd=>
 gk d false (Ad 0 b) λr=>
 gkc d false (Ac false 1 r c) (λ_ _=>True) λs=>
 gk d false (Ae .none .eql s (.i6 3)) λt=>
 (AF d (.bool true) t).bind λu=>
 rP a (.tup [o,u]) c
noncomputable def Sl.gliderref11_Wide:Aa->Out:=Classical.choose (⟨Sh.fr,rfl⟩:∃f:Aa->Out,f=Sh.fr)
theorem Sl.gliderref11_Wide_eq:Sl.gliderref11_Wide=Sh.fr:=Classical.choose_spec (⟨Sh.fr,rfl⟩:∃f:Aa->Out,f=Sh.fr)
noncomputable def Sl.life5_Read:Ab->Ab->Aa->Out:=Classical.choose (⟨Sh.ft,rfl⟩:∃f:Ab->Ab->Aa->Out,f=Sh.ft)
theorem Sl.life5_Read_eq:Sl.life5_Read=Sh.ft:=Classical.choose_spec (⟨Sh.ft,rfl⟩:∃f:Ab->Ab->Aa->Out,f=Sh.ft)
noncomputable def Sl.gliderref12_Life5:Ab->Ab->Aa->Out:=Classical.choose (⟨Sh.fw,rfl⟩:∃f:Ab->Ab->Aa->Out,f=Sh.fw)
theorem Sl.gliderref12_Life5_eq:Sl.gliderref12_Life5=Sh.fw:=Classical.choose_spec (⟨Sh.fw,rfl⟩:∃f:Ab->Ab->Aa->Out,f=Sh.fw)
noncomputable def Sl.life5_Hint:Ab->Aa->Out:=Classical.choose (⟨Sh.fx,rfl⟩:∃f:Ab->Aa->Out,f=Sh.fx)
theorem Sl.life5_Hint_eq:Sl.life5_Hint=Sh.fx:=Classical.choose_spec (⟨Sh.fx,rfl⟩:∃f:Ab->Aa->Out,f=Sh.fx)
noncomputable def Sh.fy (a:Aa):Out:=
 bP a (Sl.gliderref11_Wide a) λw x=>
 An (Az (some [(.i6 0),(.i6 0)]) x) λb y=>
 bP a (A8 (Af 2 b w y)) λ_ o=>
 (Ac true 2 b o).bind λz=>
 bP a (Sl.life5_Read (.str [35,76,105,102,101,32,49,46,48,53,10,42]) z o) λc aa=>
 (Aq 0 c).bind λab=>
 (Aq 1 c).bind λac=>
 (Aq 2 c).bind λad=>
 An (Az (some [(.str []),(.sl [] .ti)]) aa) λae aj=>
 bP a (A8 (Af 2 ae ab aj)) λ_ p=>
 (Ac true 2 b p).bind λak=>
 bP a (Sl.life5_Read (.str [35,76,105,102,101,32,49,46,48,53,13,10,35,68,120,10,35,82,32,97,98,99,10,35,80,32,45,49,32,50,10,46,42,10,10,42,10,35,80,32,53,32,53,10,42]) ak p) λd al=>
 (Aq 0 d).bind λam=>
 (Aq 1 d).bind λb4=>
 (Aq 2 d).bind λan=>
 An (Az (some [(.str []),(.sl [] .ti)]) al) λq ap=>
 bP a (A8 (Af 2 q am ap)) λ_ e=>
 (Ac true 2 q e).bind λaq=>
 (Ac true 2 b e).bind λar=>
 bP a (Sl.gliderref12_Life5 aq ar e) λr au=>
 (Aq 0 r).bind λav=>
 (Aq 1 r).bind λaw=>
 bP a (Sl.life5_Hint (.str [35,76,105,102,101,32,49,46,48,53,10,35,80,32,45]) au) λs t=>
 (Aq 0 s).bind λax=>
 (Aq 1 s).bind λay=>
 (Ae .none .add (.str [35,76,105,102,101,32,49,46,48,53,10,35,80,32,45]) ax).bind λaz=>
 (Ac true 2 b t).bind λa0=>
 bP a (Sl.life5_Read az a0 t) λf a1=>
 (Aq 0 f).bind λa2=>
 (Aq 1 f).bind λb5=>
 (Aq 2 f).bind λa3=>
 An (Az (some [(.str []),(.sl [] .ti)]) a1) λa4 a5=>
 bP a (A8 (Af 2 a4 a2 a5)) λ_ a6=>
 bP a (Sl.life5_Hint (.str [35,76,105,102,101,32,50]) a6) λu a7=>
 (Aq 0 u).bind λb6=>
 (Aq 1 u).bind λa8=>
 (A6 (some [(.i6 0),(.i6 0)]) [(0,1,(.i6 2)),(1,1,(.i6 9))]).bind λa9=>
 bP a (Sl.life5_Read (.str [35,76,105,102,101,32,49,46,48,53,10,35,80,32,48,32,48,10,46,46,42]) a9 a7) λg ba=>
 (Aq 0 g).bind λbb=>
 (Aq 1 g).bind λb7=>
 (Aq 2 g).bind λbc=>
 An (Az (some [(.str []),(.sl [] .ti)]) ba) λbd be=>
 bP a (A8 (Af 2 bd bb be)) λ_ bg=>
 (Ae .none .eql ac (.i6 11)).bind λh=>
 gk h true (some ad) λbj=>
 gk h true (Ae .none .eql bj (.i6 2)) λbk=>
 (AF h bk (.bool false)).bind λi=>
 gk i true (some an) λbl=>
 gk i true (Ae .none .eql bl (.i6 0)) λbm=>
 (AF i bm (.bool false)).bind λj=>
 gk j true (some aw) λbp=>
 gk j true (Ae .none .eql bp (.i6 0)) λbq=>
 (AF j bq (.bool false)).bind λk=>
 gk k true (some av) λbr=>
 gk k true (Ae .none .eql br (.str [35,76,105,102,101,32,49,46,48,53,10,35,82,32,97,98,99,10,35,80,32,45,49,32,50,10,46,42,10,46,10,42,10,46,46,46,46,46,46,42,10])) λbt=>
 (AF k bt (.bool false)).bind λv=>
 gk v true (some ay) λbu=>
 (AF v bu (.bool false)).bind λl=>
 gk l true (some a3) λbv=>
 gk l true (Ae .none .eql bv (.i6 0)) λbw=>
 (AF l bw (.bool false)).bind λm=>
 gk m true (some a8) λbz=>
 gk m true (unA .not bz) λb0=>
 (AF m b0 (.bool false)).bind λn=>
 gk n true (some bc) λb1=>
 gk n true (Ae .none .eql b1 (.i6 4)) λb2=>
 (AF n b2 (.bool false)).bind λb3=>
 rP a b3 bg
noncomputable def Sh.f5x (b:Ab)(c:Aa):Out:=
 (A7 b).bind λd=>
 (Ae .none .eql d (.i6 0)).bind λa=>
 gk a false (some b) λe=>
 gk a false (some b) λf=>
 gk a false (A7 f) λg=>
 gk a false (Ae .none .sub g (.i6 1)) λh=>
 gk a false (Av 1 e h) λi=>
 gk a false (Ac false 1 i c) λj=>
 gk a false (Ae .none .neq j (.int .u32 0)) λk=>
 (AF a (.bool true) k).bind λl=>
 rK c l c
noncomputable def Sh.f3a (g:Ab)(c:Aa):Out:=
 An (BD true 2 g c) λd f=>
 (Ad 1 d).bind λh=>
 (Ac false 1 h f).bind λi=>
 bP c (Sh.f5x i f) λa e=>
 gk a true (Ad 0 d) λj=>
 gk a true (Ac false 1 j e) λk=>
 gk a true (some k) λb=>
 gk b true (Ad 1 d) λl=>
 gk b true (Ac false 1 l e) λm=>
 gk b true (A7 m) λn=>
 gk b true (Ae .none .eql n (.i6 0)) λo=>
 gk a true (AF b o (.bool false)) λp=>
 gk a true (unA .not p) λq=>
 (AF a q (.bool false)).bind λr=>
 rP c r e
noncomputable def Sh.f3b (g h:Ab)(a:Aa):Out:=
 An (BD true 5 g a) λd i=>
 An (BD true 5 h i) λe c=>
 (Ad 2 d).bind λj=>
 (Ac true 2 j c).bind λk=>
 (Ad 2 e).bind λl=>
 (Ac true 2 l c).bind λm=>
 bP a (Sh.f0 k m c) λf b=>
 (Ae .none .neq f (.i6 0)).bind λn=>
 Ak n (
 rP a f b) (
 (Ad 0 d).bind λo=>
 (Ac true 2 o b).bind λp=>
 (Ad 0 e).bind λq=>
 (Ac true 2 q b).bind λr=>
 bP a (Sh.f0 p r b) λs t=>
 rP a s t)
noncomputable def Sh.f5y (q:Aa)(e:LK)(a f b c g:Ab)(d:Aa):Out:=
 (Bw 5 f none (some c) (some c)).bind λh=>
 (Av 5 a b).bind λi=>
 bC (Ac true 5 i d) (λ_=>True) λj=>
 (AS 5 [j]).bind λk=>
 Bc (Cb (AW AG 5 72 h k d)) λl m=>
 Bc (Cb (AW AG 5 72 l g m)) λn o=>
 (Ae .none .add b (.i6 1)).bind λp=>
 e [a,n,p] o
noncomputable def Sh.f7k (i:Aa)(l:LK)(m:LK)(e c f d:Ab)(h:Aa):Out:=
 (A7 c).bind λn=>
 (Ae .none .lss d n).bind λa=>
 gk a true (some c) λo=>
 gk a true (some d) λp=>
 gk a true (Av 5 o p) λq=>
 gkc a true (Ac true 5 q h) (λ_ _=>True) λr=>
 gk a true (some e) λs=>
 gk a true (some f) λt=>
 gk a true (Av 5 s t) λu=>
 gkc a true (Ac true 5 u h) (λ_ _=>True) λv=>
 gbN a true h (Sh.f3b r v h) λw g=>
 gk a true (Ae .none .lss w (.i6 0)) λx=>
 (AF a x (.bool false)).bind λy=>
 Ak y (
 (Ae .none .add d (.i6 1)).bind λz=>
 m [e,c,f,z] g) (
 (A7 c).bind λaa=>
 (Ae .none .lss d aa).bind λb=>
 gk b true (some c) λab=>
 gk b true (some d) λac=>
 gk b true (Av 5 ab ac) λad=>
 gkc b true (Ac true 5 ad g) (λ_ _=>True) λae=>
 gk b true (some e) λaj=>
 gk b true (some f) λak=>
 gk b true (Av 5 aj ak) λal=>
 gkc b true (Ac true 5 al g) (λ_ _=>True) λam=>
 gbN b true g (Sh.f3b ae am g) λan ap=>
 gk b true (Ae .none .eql an (.i6 0)) λaq=>
 (AF b aq (.bool false)).bind λar=>
 (AS 5 []).bind λau=>
 (Bw 5 c (some d) none none).bind λav=>
 bP i (Cb (AW AG 5 72 au av ap)) λj k=>
 AK (λj3=>
 Ak ar (
 (Bw 5 j (some (.i6 1)) none none).bind λaw=>
 j3 [e,c,f,d,aw] k) (
 j3 [e,c,f,d,j] k)) (λvs H=>Sh.f5y i l (ag vs 0) (ag vs 1) (ag vs 2) (ag vs 3) (ag vs 4) H))
noncomputable def Sh.f5z (g:Aa)(a:LK)(b c d:Ab)(e:Aa):Out:=
 (Ae .none .add d (.i6 1)).bind λf=>
 a [b,c,f] e
noncomputable def Sh.f60 (d:Aa)(f:LK)(a e b:Ab)(c:Aa):Out:=
 (A7 a).bind λg=>
 (Ae .none .lss b g).bind λh=>
 Ak h (
 AK (λj5=>
 (Av 5 a b).bind λi=>
 (Ad 4 i).bind λj=>
 (Ac false 1 j c).bind λk=>
 (Ae .none .neq k (.int .u8 0)).bind λl=>
 Ak l (
 (Av 5 a b).bind λm=>
 (Ac true 5 m c).bind λn=>
 (AS 5 [n]).bind λo=>
 bP d (Cb (AW AG 5 72 e o c)) λp q=>
 j5 [a,p,b] q) (
 j5 [a,e,b] c)) (λvs H=>Sh.f5z d f (ag vs 0) (ag vs 1) (ag vs 2) H)) (
 rPN d e c)
noncomputable def Sh.f61 (a:Aa)(f:LK)(b c d:Ab)(e:Aa):Out:=
 (A7 b).bind λg=>
 (Ae .none .lss d g).bind λh=>
 Ak h (
 Ap (λi vs H=>Sh.f7k a f i (ag vs 0) (ag vs 1) (ag vs 2) (ag vs 3) H) AU [b,c,d,(.i6 0)] e) (
 Ap (λj vs H=>Sh.f60 a j (ag vs 0) (ag vs 1) (ag vs 2) H) AU [c,(.sl [] .ti),(.i6 0)] e)
noncomputable def Sh.f62 (b:Ab)(a:Aa):Out:=
 Ap (λc vs H=>Sh.f61 a c (ag vs 0) (ag vs 1) (ag vs 2) H) AU [b,(.sl [] .ti),(.i6 0)] a
noncomputable def Sh.f63 (m n:Ab)(a:Aa):Out:=
 An (BD true 5 m a) λe o=>
 (Ae .none .sub n (.i6 1)).bind λp=>
 bP a (Sh.f7 p o) λq r=>
 An (Az (some [(.bool false),(.sl [] .ti)]) r) λf s=>
 bP a (A8 (Af 2 f q s)) λ_ l=>
 (Ac true 2 f l).bind λt=>
 bP a (Sh.fh t l) λu v=>
 An (Az (some [(.bool false),(.sl [] .ti)]) v) λj w=>
 bP a (A8 (Af 2 j u w)) λ_ k=>
 (Ad 0 e).bind λx=>
 (Ac true 2 x k).bind λy=>
 (Ac true 2 j k).bind λz=>
 bP a (Sh.f0 y z k) λaa g=>
 (Ae .none .geq aa (.i6 0)).bind λb=>
 gk b true (Ad 0 e) λab=>
 gk b true (Ac true 2 ab g) λac=>
 gk b true (Ac true 2 f g) λad=>
 gbP a b true g (Sh.f0 ac ad g) λae h=>
 gk b true (Ae .none .lss ae (.i6 0)) λaj=>
 (AF b aj (.bool false)).bind λc=>
 gk c true (Ad 2 e) λak=>
 gk c true (Ac true 2 ak h) λal=>
 gk c true (Ac true 2 j h) λam=>
 gbP a c true h (Sh.f0 al am h) λan i=>
 gk c true (Ae .none .geq an (.i6 0)) λap=>
 (AF c ap (.bool false)).bind λd=>
 gk d true (Ad 2 e) λaq=>
 gk d true (Ac true 2 aq i) λar=>
 gk d true (Ac true 2 f i) λau=>
 gbP a d true i (Sh.f0 ar au i) λav aw=>
 gk d true (Ae .none .lss av (.i6 0)) λax=>
 (AF d ax (.bool false)).bind λay=>
 rP a ay aw
noncomputable def Sh.f3c (l:Aa)(a:LK)(b c d e f g h i:Ab)(j:Aa):Out:=
 (Ae .none .add i (.i6 1)).bind λk=>
 a [b,c,d,e,f,g,h,k] j
noncomputable def Sh.f1f (p:Aa)(a:LK)(b c d e f g h i j k l m:Ab)(n:Aa):Out:=
 (Ae .none .add m (.i6 1)).bind λo=>
 a [b,c,d,e,f,g,h,i,j,k,l,o] n
noncomputable def Sh.f64 (e:Aa)(self:Ab->Ab->Ab->Ab->Ab->Aa->Out)(j2:LK)(f a g h i j c d l m n:Ab)(b:Aa):Out:=
 (Ae .none .gtr a (.i6 1)).bind λo=>
 Ak o (
 (Ae .none .sub a (.i6 1)).bind λp=>
 (Ac true 2 l b).bind λq=>
 (Ac true 2 m b).bind λr=>
 bK e (self f p q r n b) λk s=>
 (Aq 0 k).bind λt=>
 (Aq 1 k).bind λu=>
 (Ad 1 c).bind λv=>
 (B5 4 1 v d).bind λw=>
 bK e (A8 (Af 1 w u s)) λ_ x=>
 j2 [t,a,g,h,i,j,c,d] x) (
 j2 [f,a,g,h,i,j,c,d] b)
noncomputable def Sh.fz (q:Aa)(self:Ab->Ab->Ab->Ab->Ab->Aa->Out)(j2:LK)(ad:LK)(r l d s t g m n h i j f:Ab)(k:Aa):Out:=
 (A7 d).bind λae=>
 (Ae .none .lss f ae).bind λaj=>
 Ak aj (
 AK (λj6=>
 (Av 5 d f).bind λak=>
 (Ad 0 ak).bind λal=>
 bC (Ac true 2 al k) (λ_=>True) λam=>
 bC (Ac true 2 h k) (λ_=>True) λan=>
 Bc (Sh.f0 am an k) λap o=>
 (Ae .none .geq ap (.i6 0)).bind λa=>
 gkc a true (Ac true 2 h o) (λ_ _=>True) λaq=>
 gkc a true (Ac true 2 g o) (λ_ _=>True) λar=>
 gbN a true o (Sh.f2 aq ar o) λau w=>
 gk a true (some d) λav=>
 gk a true (some f) λaw=>
 gk a true (Av 5 av aw) λax=>
 gk a true (Ad 0 ax) λab=>
 gkc a true (Ac true 2 ab w) (λb x=>gR b (Ac true 2 ab o)=some x/\True) λx=>
 gbN a true w (Sh.f0 x au w) λay u=>
 gk a true (Ae .none .lss ay (.i6 0)) λaz=>
 (AF a az (.bool false)).bind λe=>
 gk e true (some d) λa0=>
 gk e true (some f) λa1=>
 gk e true (Av 5 a0 a1) λa2=>
 gk e true (Ad 2 a2) λa3=>
 gkc e true (Ac true 2 a3 u) (λ_ _=>True) λa4=>
 gkc e true (Ac true 2 i u) (λ_ _=>True) λa5=>
 gbN e true u (Sh.f0 a4 a5 u) λa6 p=>
 gk e true (Ae .none .geq a6 (.i6 0)) λa7=>
 (AF e a7 (.bool false)).bind λc=>
 gkc c true (Ac true 2 i p) (λ_ _=>True) λa8=>
 gkc c true (Ac true 2 g p) (λ_ _=>True) λa9=>
 gbN c true p (Sh.f2 a8 a9 p) λba y=>
 gk c true (some d) λbb=>
 gk c true (some f) λbc=>
 gk c true (Av 5 bb bc) λbd=>
 gk c true (Ad 2 bd) λac=>
 gkc c true (Ac true 2 ac y) (λb z=>gR b (Ac true 2 ac p)=some z/\True) λz=>
 gbN c true y (Sh.f0 z ba y) λbe aa=>
 gk c true (Ae .none .lss be (.i6 0)) λbg=>
 (AF c bg (.bool false)).bind λbj=>
 Ak bj (
 (Av 5 d f).bind λbk=>
 (Ac true 5 bk aa).bind λbl=>
 (AS 5 [bl]).bind λbm=>
 bK q (Cb (AW AG 5 72 j bm aa)) λbp bq=>
 j6 [r,l,d,s,t,g,m,n,h,i,bp,f] bq) (
 j6 [r,l,d,s,t,g,m,n,h,i,j,f] aa)) (λvs H=>Sh.f1f q ad (ag vs 0) (ag vs 1) (ag vs 2) (ag vs 3) (ag vs 4) (ag vs 5) (ag vs 6) (ag vs 7) (ag vs 8) (ag vs 9) (ag vs 10) (ag vs 11) H)) (
 AK (λj7=>
 (Ae .none .eql l (.i6 1)).bind λv=>
 gk v true (some j) λbr=>
 gk v true (A7 br) λbt=>
 gk v true (Ae .none .gtr bt (.i6 0)) λbu=>
 (AF v bu (.bool false)).bind λbv=>
 Ak bv (
 (Av 5 j (.i6 0)).bind λbw=>
 (Ad 4 bw).bind λbz=>
 (Ac false 1 bz k).bind λb0=>
 (AJ .i64 b0).bind λb1=>
 (Ad 1 m).bind λb2=>
 (B5 4 1 b2 n).bind λb3=>
 bK q (A8 (Af 1 b3 b1 k)) λ_ b4=>
 j7 [r,l,d,s,t,g,m,n,h,i,j] b4) (
 j7 [r,l,d,s,t,g,m,n,h,i,j] k)) (λvs H=>Sh.f64 q self j2 (ag vs 0) (ag vs 1) (ag vs 2) (ag vs 3) (ag vs 4) (ag vs 5) (ag vs 6) (ag vs 7) (ag vs 8) (ag vs 9) (ag vs 10) H))
noncomputable def Sh.f65 (a:Aa)(self:Ab->Ab->Ab->Ab->Ab->Aa->Out)(j2:LK)(b c d e f g h i j k:Ab)(l:Aa):Out:=
 Ap (λm vs H=>Sh.fz a self j2 m (ag vs 0) (ag vs 1) (ag vs 2) (ag vs 3) (ag vs 4) (ag vs 5) (ag vs 6) (ag vs 7) (ag vs 8) (ag vs 9) (ag vs 10) (ag vs 11) H) AU [b,c,d,e,f,g,h,i,j,k,(.sl [] .ti),(.i6 0)] l
noncomputable def Sh.f1z (b:Aa)(self:Ab->Ab->Ab->Ab->Ab->Aa->Out)(j2:LK)(g h i j c d k e l f:Ab)(a:Aa):Out:=
 AK (λj4=>
 (Ae .none .gtr e (.i6 1)).bind λm=>
 Ak m (
 (Ac true 2 c a).bind λn=>
 (Ac true 2 d a).bind λo=>
 bK b (Sh.f2 n o a) λp q=>
 bK b (A8 (Af 2 f p q)) λ_ r=>
 j4 [g,h,i,j,c,d,k,e,l,f] r) (
 j4 [g,h,i,j,c,d,k,e,l,f] a)) (λvs H=>Sh.f65 b self j2 (ag vs 0) (ag vs 1) (ag vs 2) (ag vs 3) (ag vs 4) (ag vs 5) (ag vs 6) (ag vs 7) (ag vs 8) (ag vs 9) H)
noncomputable def Sh.f3d (a:Aa)(self:Ab->Ab->Ab->Ab->Ab->Aa->Out)(q:LK)(h m n c d i j e:Ab)(b:Aa):Out:=
 (Ae .none .lss e (.i6 4)).bind λr=>
 Ak r (
 AK (λj2=>
 bC (Ac true 2 c b) (λ_=>True) λs=>
 An (Az (some [(.bool false),(.sl [] .ti)]) b) λf t=>
 An (Az (some [(.bool false),(.sl [] .ti)]) t) λk u=>
 Bc (A8 (Af 2 f s u)) λ_ o=>
 bC (Ac true 2 d o) (λl=>Ac true 2 d b=some l/\True) λl=>
 bK a (A8 (Af 2 k l o)) λ_ g=>
 AK (λj3=>
 (Ae .none .rem e (.i6 2)).bind λv=>
 (Ae .none .eql v (.i6 1)).bind λw=>
 Ak w (
 (Ac true 2 c g).bind λx=>
 (Ac true 2 i g).bind λy=>
 bK a (Sh.f2 x y g) λz aa=>
 bK a (A8 (Af 2 f z aa)) λ_ ab=>
 j3 [h,m,n,c,d,i,j,e,f,k] ab) (
 j3 [h,m,n,c,d,i,j,e,f,k] g)) (λvs H=>Sh.f1z a self j2 (ag vs 0) (ag vs 1) (ag vs 2) (ag vs 3) (ag vs 4) (ag vs 5) (ag vs 6) (ag vs 7) (ag vs 8) (ag vs 9) H)) (λvs H=>Sh.f3c a q (ag vs 0) (ag vs 1) (ag vs 2) (ag vs 3) (ag vs 4) (ag vs 5) (ag vs 6) (ag vs 7) H)) (
 (Ac true 5 j b).bind λac=>
 (AS 5 [ac]).bind λad=>
 bK a (Cb (AW AN 5 40 h ad b)) λp ae=>
 (A7 p).bind λaj=>
 rK a (.tup [p,aj]) ae)
noncomputable def Sh.f7l (self:Ab->Ab->Ab->Ab->Ab->Aa->Out)(c b h i d:Ab)(a:Aa):Out:=
 An (BD true 2 h a) λj k=>
 An (BD true 2 i k) λl e=>
 (A7 d).bind λm=>
 (Ae .none .eql m (.i6 0)).bind λn=>
 Ak n (
 rK a (.tup [c,(.i6 0)]) e) (
 (Ae .none .sub b (.i6 1)).bind λo=>
 bK a (Sh.f7 o e) λp q=>
 An (Az (some [(.bool false),(.sl [] .ti)]) q) λf r=>
 bK a (A8 (Af 2 f p r)) λ_ s=>
 (A6 (some [(.i6 0),(.i6 0),(.i6 0),(.i6 0),(.i6 0)]) [(0,1,b)]).bind λt=>
 An (Az (some [(.i6 0),(.i6 0),(.i6 0),(.i6 0),(.i6 0)]) s) λg u=>
 bK a (A8 (Af 5 g t u)) λ_ v=>
 Ap (λw vs H=>Sh.f3d a self w (ag vs 0) (ag vs 1) (ag vs 2) (ag vs 3) (ag vs 4) (ag vs 5) (ag vs 6) (ag vs 7) H) AU [c,b,d,j,l,f,g,(.i6 0)] v)
noncomputable def Sh.fj:Nat->Ab->Ab->Ab->Ab->Ab->Aa->Out
 | 0=>λ_ _ _ _ _ _=>none
 | d+1=>Sh.f7l (Sh.fj d)
noncomputable def Sh.f66 (c d:Ab)(a:Aa):Out:=
 bK a (Sh.f1a c a) λe b=>
 (Av 1 e d).bind λf=>
 (Ac false 1 f b).bind λg=>
 rK a g b
noncomputable def Sh.f67 (b e c:Ab)(a:Aa):Out:=
 (Ae .none .sub e (.i6 1)).bind λf=>
 (Av 5 b f).bind λg=>
 (Ad 1 g).bind λh=>
 (B5 4 1 h c).bind λi=>
 (Ac false 1 i a).bind λd=>
 (Ae .none .eql d (.i6 0)).bind λj=>
 Ak j (
 rK a (.i6 0) a) (
 (Ae .none .sub d (.i6 1)).bind λk=>
 (Ae .none .sub (.i6 3) c).bind λl=>
 (Av 5 b k).bind λm=>
 (Ad 1 m).bind λn=>
 (B5 4 1 n l).bind λo=>
 (Ac false 1 o a).bind λp=>
 rK a p a)
noncomputable def Sh.f68 (b:Aa)(h:LK)(i:LK)(f c d a:Ab)(e:Aa):Out:=
 (Ae .none .lss a (.i6 4)).bind λj=>
 Ak j (
 bP b (Sh.f67 c f a e) λk l=>
 (Ad 1 d).bind λm=>
 (B5 4 1 m a).bind λn=>
 bP b (A8 (Af 1 n k l)) λ_ o=>
 (Ae .none .add a (.i6 1)).bind λp=>
 i [f,c,d,p] o) (
 (Ac true 5 d e).bind λq=>
 (AS 5 [q]).bind λr=>
 bP b (Cb (AW AN 5 40 c r e)) λg s=>
 (A7 g).bind λt=>
 h [t,g] s)
noncomputable def Sh.f7m (a:Aa)(f:LK)(b c:Ab)(g:Aa):Out:=
 bP a (Sh.f2v c b g) λh d=>
 Ak h (
 (Ae .none .sub b (.i6 1)).bind λi=>
 (Av 5 c i).bind λj=>
 (Ad 0 j).bind λk=>
 (Ac false 1 k d).bind λl=>
 (Ae .none .sub l (.i6 1)).bind λm=>
 (A6 (some [(.i6 0),(.i6 0),(.i6 0),(.i6 0),(.i6 0)]) [(0,1,m)]).bind λn=>
 An (Az (some [(.i6 0),(.i6 0),(.i6 0),(.i6 0),(.i6 0)]) d) λe o=>
 bP a (A8 (Af 5 e n o)) λ_ p=>
 Ap (λq vs H=>Sh.f68 a f q (ag vs 0) (ag vs 1) (ag vs 2) (ag vs 3) H) AU [b,c,e,(.i6 0)] p) (
 rPN a (.tup [c,b]) d)
noncomputable def Sh.f69 (e c:Ab)(a:Aa):Out:=
 (AS 5 []).bind λf=>
 bP a (Cb (AW AN 5 40 f e a)) λb g=>
 bP a (Sh.f66 b c g) λh d=>
 Ak h (
 rPN a (.tup [b,(.i6 0)]) d) (
 Ap (λi vs H=>Sh.f7m a i (ag vs 0) (ag vs 1) H) AU [c,b] d)
noncomputable def Sh.f6a (d:Aa)(f:LK)(c e b:Ab)(a:Aa):Out:=
 (A7 c).bind λg=>
 (Ae .none .lss b g).bind λh=>
 Ak h (
 (Av 5 c b).bind λi=>
 bC (Ac true 5 i a) (λ_=>True) λj=>
 bC (Ac true 5 e a) (λ_=>True) λk=>
 (Ae (.flat 5) .eql j k).bind λl=>
 Ak l (
 (Ae .none .add b (.i6 1)).bind λm=>
 rP d m a) (
 (Ae .none .add b (.i6 1)).bind λn=>
 f [c,e,n] a)) (
 rP d (.i6 0) a)
noncomputable def Sh.f3e (b c:Ab)(a:Aa):Out:=
 An (BD true 5 c a) λd e=>
 Ap (λf vs H=>Sh.f6a a f (ag vs 0) (ag vs 1) (ag vs 2) H) AU [b,d,(.i6 0)] e
noncomputable def Sh.f7n (a:Aa)(d e b c:Ab)(f:Aa):Out:=
 (Av 1 b d).bind λg=>
 bK a (A8 (Af 1 g c f)) λ_ h=>
 rK a (.tup [e,b,c]) h
noncomputable def Sh.f6b (b:Aa)(self:Ab->Ab->Ab->Ab->Ab->Aa->Out)(o:LK)(k l g d h a e:Ab)(c:Aa):Out:=
 (Ae .none .lss e (.i6 4)).bind λf=>
 gk f true (Ad 0 a) λp=>
 gk f true (Ac false 1 p c) λq=>
 gk f true (Ae .none .gtr q (.i6 1)) λr=>
 (AF f r (.bool false)).bind λs=>
 Ak s (
 (Ad 1 a).bind λt=>
 (B5 4 1 t e).bind λu=>
 (Ac false 1 u c).bind λv=>
 bK b (self k l v d h c) λi w=>
 (Aq 0 i).bind λx=>
 (Aq 1 i).bind λy=>
 (Aq 2 i).bind λz=>
 (Ad 1 a).bind λaa=>
 (B5 4 1 aa e).bind λab=>
 bK b (A8 (Af 1 ab z w)) λ_ ac=>
 (Ae .none .add e (.i6 1)).bind λad=>
 o [k,l,g,x,y,a,ad] ac) (
 (Ac true 5 a c).bind λae=>
 bK b (Sh.f3e d ae c) λm j=>
 AK (λj2=>
 (Ae .none .eql m (.i6 0)).bind λaj=>
 Ak aj (
 (Ac true 5 a j).bind λak=>
 (AS 5 [ak]).bind λal=>
 bK b (Cb (AW AN 5 40 d al j)) λn am=>
 (A7 n).bind λan=>
 j2 [g,n,h,an] am) (
 j2 [g,d,h,m] j)) (λvs H=>Sh.f7n b (ag vs 0) (ag vs 1) (ag vs 2) (ag vs 3) H))
noncomputable def Sh.f3f (self:Ab->Ab->Ab->Ab->Ab->Aa->Out)(e f b d c:Ab)(a:Aa):Out:=
 (Av 1 f b).bind λh=>
 (Ac false 1 h a).bind λi=>
 Ak i (
 rK a (.tup [d,c,(.i6 0)]) a) (
 (Av 1 c b).bind λj=>
 (Ac false 1 j a).bind λk=>
 (Ae .none .gtr k (.i6 0)).bind λl=>
 Ak l (
 (Av 1 c b).bind λm=>
 bC (Ac false 1 m a) (λ_=>True) λn=>
 rK a (.tup [d,c,n]) a) (
 (Ae .none .sub b (.i6 1)).bind λo=>
 (Av 5 e o).bind λp=>
 (Ac true 5 p a).bind λq=>
 An (Az (some [(.i6 0),(.i6 0),(.i6 0),(.i6 0),(.i6 0)]) a) λg r=>
 bK a (A8 (Af 5 g q r)) λ_ s=>
 Ap (λt vs H=>Sh.f6b a self t (ag vs 0) (ag vs 1) (ag vs 2) (ag vs 3) (ag vs 4) (ag vs 5) (ag vs 6) H) AU [e,f,b,d,c,g,(.i6 0)] s))
noncomputable def Sh.fp:Nat->Ab->Ab->Ab->Ab->Ab->Aa->Out
 | 0=>λ_ _ _ _ _ _=>none
 | d+1=>Sh.f3f (Sh.fp d)
noncomputable def Sh.f6c (d e:Ab)(a:Aa):Out:=
 An (Az (some [(.sl [] .ti)]) a) λc n=>
 bP a (Sh.f2t d n) λo i=>
 (unA .not o).bind λf=>
 gk f false (some e) λp=>
 gk f false (Ae .none .lss p (.i6 0)) λq=>
 (AF f (.bool true) q).bind λb=>
 gk b false (some e) λr=>
 gk b false (some d) λs=>
 gk b false (A7 s) λt=>
 gk b false (Ae .none .gtr r t) λu=>
 (AF b (.bool true) u).bind λv=>
 Ak v (
 (A6 (some [(.sl [] .ti)]) []).bind λw=>
 bP a (A8 (Af 1 c w i)) λ_ j=>
 (Eh [Ac true 1 c j,some (.i6 1)]).bind λx=>rPN a x j) (
 bP a (Sh.f69 d e i) λk y=>
 (Aq 0 k).bind λg=>
 (Aq 1 k).bind λz=>
 Bc (Sh.f1a g y) λaa ab=>
 (A7 g).bind λac=>
 (Ae .none .add ac (.i6 1)).bind λl=>
 An (FA 1 8 (some [(.i6 0)]) l l ab) λad ae=>
 Bc (Sh.fp AU g aa z (.sl [] .ti) ad ae) λh aj=>
 (Aq 0 h).bind λak=>
 (Aq 1 h).bind λan=>
 (Aq 2 h).bind λap=>
 (A6 (some [(.sl [] .ti)]) [(0,1,ak)]).bind λal=>
 bP a (A8 (Af 1 c al aj)) λ_ m=>
 (Eh [Ac true 1 c m,some (.i6 0)]).bind λam=>rPN a am m)
noncomputable def Sh.f6d (h:Aa)(i:LK)(j:LK)(f c b d:Ab)(e:Aa):Out:=
 (Ae .none .leq b (.i6 1329)).bind λa=>
 gk a true (some c) λk=>
 gk a true (some d) λl=>
 gk a true (Av 5 k l) λm=>
 gk a true (Ac true 5 m e) λn=>
 gk a true (some b) λo=>
 gbP h a true e (Sh.f63 n o e) λp g=>
 gk a true (unA .not p) λq=>
 (AF a q (.bool false)).bind λr=>
 Ak r (
 (Ae .none .add b (.i6 1)).bind λs=>
 j [f,c,s,d] g) (
 (Ae .none .add d (.i6 1)).bind λt=>
 i [f,c,b,t] g)
noncomputable def Sh.f6e (a:Aa)(m:LK)(b d c h:Ab)(e:Aa):Out:=
 (A7 d).bind λn=>
 (Ae .none .lss h n).bind λo=>
 Ak o (
 Ap (λp vs H=>Sh.f6d a m p (ag vs 0) (ag vs 1) (ag vs 2) (ag vs 3) H) AU [b,d,c,h] e) (
 (Ae .none .gtr c (.i6 1329)).bind λq=>
 Ak q (
 (A6 (some [(.sl [] .ti)]) []).bind λr=>
 bP a (A8 (Af 1 b r e)) λ_ i=>
 (Eh [Ac true 1 b i,some (.i6 4)]).bind λs=>rPN a s i) (
 (Ae .none .sub c (.i6 1)).bind λt=>
 bP a (Sh.f7 t e) λu v=>
 bP a (Sh.fh u v) λw x=>
 An (Az (some [(.bool false),(.sl [] .ti)]) x) λf y=>
 bP a (A8 (Af 2 f w y)) λ_ g=>
 (Ac true 2 f g).bind λz=>
 (Ac true 2 f g).bind λaa=>
 bP a (Sh.fj AU (.sl [] .ti) c z aa d g) λj ab=>
 (Aq 0 j).bind λac=>
 (Aq 1 j).bind λad=>
 bP a (Sh.f6c ac ad ab) λk ae=>
 (Aq 0 k).bind λaj=>
 (Aq 1 k).bind λak=>
 bP a (A8 (Af 1 b aj ae)) λ_ l=>
 (Eh [Ac true 1 b l,some ak]).bind λal=>rPN a al l))
noncomputable def Sh.f6f (b:Aa)(j:LK)(c d e:Ab)(f:Aa):Out:=
 (A7 c).bind λk=>
 (Ae .none .lss e k).bind λl=>
 Ak l (
 (Av 5 c e).bind λm=>
 (Ad 0 m).bind λn=>
 (Ac true 2 n f).bind λo=>
 bP b (Sh.f3a o f) λp g=>
 (unA .not p).bind λa=>
 gk a false (some c) λq=>
 gk a false (some e) λr=>
 gk a false (Av 5 q r) λs=>
 gk a false (Ad 2 s) λt=>
 gk a false (Ac true 2 t g) λu=>
 gbP b a false g (Sh.f3a u g) λv h=>
 gk a false (unA .not v) λw=>
 (AF a (.bool true) w).bind λx=>
 Ak x (
 (A6 (some [(.sl [] .ti)]) []).bind λy=>
 bP b (A8 (Af 1 d y h)) λ_ i=>
 (Eh [Ac true 1 d i,some (.i6 1)]).bind λz=>rPN b z i) (
 (Ae .none .add e (.i6 1)).bind λaa=>
 j [c,d,aa] h)) (
 bP b (Sh.f62 c f) λab ac=>
 Ap (λad vs H=>Sh.f6e b ad (ag vs 0) (ag vs 1) (ag vs 2) (ag vs 3) H) AU [d,ab,(.i6 1),(.i6 0)] ac)
noncomputable def Sh.f6g (b:Ab)(a:Aa):Out:=
 An (Az (some [(.sl [] .ti)]) a) λc d=>
 Ap (λe vs H=>Sh.f6f a e (ag vs 0) (ag vs 1) (ag vs 2) H) AU [b,c,(.i6 0)] d
noncomputable def Sh.f7o (d:Aa)(f:LK)(c e b:Ab)(a:Aa):Out:=
 (A7 c).bind λg=>
 (Ae .none .lss b g).bind λh=>
 Ak h (
 (Av 5 c b).bind λi=>
 bC (Ac true 5 i a) (λ_=>True) λj=>
 (Av 5 e b).bind λk=>
 bC (Ac true 5 k a) (λ_=>True) λl=>
 (Ae (.flat 5) .neq j l).bind λm=>
 Ak m (
 rK d (.bool false) a) (
 (Ae .none .add b (.i6 1)).bind λn=>
 f [c,e,n] a)) (
 rK d (.bool true) a)
noncomputable def Sh.f6h (b c:Ab)(a:Aa):Out:=
 (A7 b).bind λd=>
 (A7 c).bind λe=>
 (Ae .none .neq d e).bind λf=>
 Ak f (
 rK a (.bool false) a) (
 Ap (λg vs H=>Sh.f7o a g (ag vs 0) (ag vs 1) (ag vs 2) H) AU [b,c,(.i6 0)] a)
noncomputable def Sh.f6i (c d:Ab)(a:Aa):Out:=
 An (BD true 1 c a) λe f=>
 An (BD true 1 d f) λg b=>
 (Ad 0 e).bind λh=>
 (Ac false 1 h b).bind λi=>
 (Ad 0 g).bind λj=>
 (Ac false 1 j b).bind λk=>
 bP a (Sh.f6h i k b) λl m=>
 rP a l m
noncomputable def Sh.f10 (f g:Ab)(c:Aa):Out:=
 An (BD true 2 f c) λd h=>
 An (BD true 2 g h) λe a=>
 (Ad 0 d).bind λi=>
 (Ac false 1 i a).bind λj=>
 (Ad 0 e).bind λk=>
 (Ac false 1 k a).bind λl=>
 (Ae .none .eql j l).bind λb=>
 gk b true (Ad 1 d) λm=>
 gk b true (Ac true 1 m a) λn=>
 gk b true (Ad 1 e) λo=>
 gk b true (Ac true 1 o a) λp=>
 gbP c b true a (Sh.f6i n p a) λq r=>
 (AF b q (.bool false)).bind λs=>
 rP c s r
noncomputable def Sl.gliderlaw16_alive:Aa->Out:=Classical.choose (⟨Sh.fy,rfl⟩:∃f:Aa->Out,f=Sh.fy)
theorem Sl.gliderlaw16_alive_eq:Sl.gliderlaw16_alive=Sh.fy:=Classical.choose_spec (⟨Sh.fy,rfl⟩:∃f:Aa->Out,f=Sh.fy)
noncomputable def Sl.gliderref11_Same:Ab->Ab->Aa->Out:=Classical.choose (⟨Sh.f10,rfl⟩:∃f:Ab->Ab->Aa->Out,f=Sh.f10)
theorem Sl.gliderref11_Same_eq:Sl.gliderref11_Same=Sh.f10:=Classical.choose_spec (⟨Sh.f10,rfl⟩:∃f:Ab->Ab->Aa->Out,f=Sh.f10)
noncomputable def Sh.f6j (e:Aa)(f:LK)(c d:Ab)(b:Aa):Out:=
 (A7 c).bind λg=>
 (Ae .none .lss d g).bind λh=>
 Ak h (
 (Av 5 c d).bind λi=>
 (Ad 0 i).bind λj=>
 (Ad 1 j).bind λk=>
 (Ac false 1 k b).bind λl=>
 (A7 l).bind λm=>
 (Ae .none .gtr m (.i6 50)).bind λa=>
 gk a false (some c) λn=>
 gk a false (some d) λo=>
 gk a false (Av 5 n o) λp=>
 gk a false (Ad 2 p) λq=>
 gk a false (Ad 1 q) λr=>
 gk a false (Ac false 1 r b) λs=>
 gk a false (A7 s) λt=>
 gk a false (Ae .none .gtr t (.i6 50)) λu=>
 (AF a (.bool true) u).bind λv=>
 Ak v (
 rK e (.bool true) b) (
 (Ae .none .add d (.i6 1)).bind λw=>
 f [c,w] b)) (
 rK e (.bool false) b)
noncomputable def Sh.f6k (b c:Ab)(a:Aa):Out:=
 (A7 b).bind λd=>
 (Ae .none .gtr d c).bind λe=>
 Ak e (
 rK a (.bool true) a) (
 Ap (λf vs H=>Sh.f6j a f (ag vs 0) (ag vs 1) H) AU [b,(.i6 0)] a)
noncomputable def Sh.f6l (c j:Ab)(a:Aa):Out:=
 An (Az (some [(.sl [] .ti)]) a) λb k=>
 bP a (Sh.f6k c j k) λl d=>
 Ak l (
 (A6 (some [(.sl [] .ti)]) []).bind λm=>
 bP a (A8 (Af 1 b m d)) λ_ e=>
 (Eh [Ac true 1 b e,some (.bool false)]).bind λn=>rPN a n e) (
 bP a (Sh.f6g c d) λf o=>
 (Aq 0 f).bind λp=>
 (Aq 1 f).bind λq=>
 An (Az (some [(.sl [] .ti)]) o) λg r=>
 bP a (A8 (Af 1 g p r)) λ_ h=>
 (Ac true 1 g h).bind λs=>
 (Ae .none .eql q (.i6 0)).bind λt=>
 bP a (A8 (Af 1 b s h)) λ_ i=>
 (Eh [Ac true 1 b i,some t]).bind λu=>rPN a u i)
noncomputable def Sh.f11 (f k l:Ab)(a:Aa):Out:=
 An (Az (some [(.str []),(.sl [] .ti)]) a) λg m=>
 bP a (Sh.f6l k l m) λh n=>
 (Aq 0 h).bind λo=>
 (Aq 1 h).bind λb=>
 An (Az (some [(.sl [] .ti)]) n) λc p=>
 bP a (A8 (Af 1 c o p)) λ_ d=>
 gk b true (some f) λq=>
 gbN b true d (Sh.f2s q d) λr i=>
 bC (Ac true 1 c i) (λe=>Ac true 1 c d=some e/\True) λe=>
 (A6 (some [(.str []),(.sl [] .ti)]) [(0,1,f),(1,1,e)]).bind λs=>
 Bc (A8 (Af 2 g s i)) λ_ j=>
 (AF b r (.bool false)).bind λt=>
 (Eh [Ac true 2 g j,some t]).bind λu=>rPN a u j
noncomputable def Sl.gliderref11_Of:Ab->Ab->Ab->Aa->Out:=Classical.choose (⟨Sh.f11,rfl⟩:∃f:Ab->Ab->Ab->Aa->Out,f=Sh.f11)
theorem Sl.gliderref11_Of_eq:Sl.gliderref11_Of=Sh.f11:=Classical.choose_spec (⟨Sh.f11,rfl⟩:∃f:Ab->Ab->Ab->Aa->Out,f=Sh.f11)
noncomputable def Sl.gliderref11_Express:Ab->Ab->Ab->Aa->Out:=Classical.choose (⟨Sh.fo,rfl⟩:∃f:Ab->Ab->Ab->Aa->Out,f=Sh.fo)
theorem Sl.gliderref11_Express_eq:Sl.gliderref11_Express=Sh.fo:=Classical.choose_spec (⟨Sh.fo,rfl⟩:∃f:Ab->Ab->Ab->Aa->Out,f=Sh.fo)
noncomputable def Sh.f7p (al am:Ab)(a:Aa):Out:=
 bP a (Sl.gliderlaw16_alive a) λan x=>
 (unA .not an).bind λap=>
 Ak ap (
 rP a (.bool false) x) (
 (A6 (some [(.i6 0),(.i6 0)]) [(0,1,(.i6 60)),(1,1,(.i6 100000))]).bind λaq=>
 An (Az (some [(.i6 0),(.i6 0)]) x) λb ar=>
 bP a (A8 (Af 2 b aq ar)) λ_ au=>
 bP a (Sl.gliderref11_Of (.str [66,51,47,83,50,51]) al (.i6 20) au) λy av=>
 (Aq 0 y).bind λaw=>
 (Aq 1 y).bind λax=>
 An (Az (some [(.str []),(.sl [] .ti)]) av) λn ay=>
 bP a (A8 (Af 2 n aw ay)) λ_ az=>
 bP a (Sl.gliderref11_Of (.str [66,51,47,83,50,51]) am (.i6 20) az) λz a0=>
 (Aq 0 z).bind λa1=>
 (Aq 1 z).bind λa2=>
 An (Az (some [(.str []),(.sl [] .ti)]) a0) λo a3=>
 bP a (A8 (Af 2 o a1 a3)) λ_ e=>
 (unA .not ax).bind λp=>
 gk p false (some a2) λa4=>
 gk p false (unA .not a4) λa5=>
 (AF p (.bool true) a5).bind λc=>
 gk c false (Ac true 2 n e) λa6=>
 gk c false (Ac true 2 b e) λa7=>
 gbP a c false e (Sl.gliderref11_Express (.i6 2) a6 a7 e) λa8 f=>
 gk c false (unA .not a8) λa9=>
 (AF c (.bool true) a9).bind λd=>
 gk d false (Ac true 2 o f) λba=>
 gk d false (Ac true 2 b f) λbb=>
 gbP a d false f (Sl.gliderref11_Express (.i6 2) ba bb f) λbc g=>
 gk d false (unA .not bc) λbd=>
 (AF d (.bool true) bd).bind λbe=>
 Ak be (
 rP a (.bool true) g) (
 (Ac true 2 n g).bind λbg=>
 (Ac true 2 b g).bind λbj=>
 bP a (Sl.gliderref12_Life5 bg bj g) λaa q=>
 (Aq 0 aa).bind λbk=>
 (Aq 1 aa).bind λcx=>
 (Ac true 2 o q).bind λbl=>
 (Ac true 2 b q).bind λbm=>
 bP a (Sl.gliderref12_Life5 bl bm q) λab ac=>
 (Aq 0 ab).bind λbp=>
 (Aq 1 ab).bind λcy=>
 (BZ bk (some (.i6 11)) none).bind λh=>
 (BZ bp (some (.i6 11)) none).bind λi=>
 (Ae .none .add (.str [35,76,105,102,101,32,49,46,48,53,10]) h).bind λbq=>
 (Ae .none .add bq i).bind λbr=>
 (Ac true 2 b ac).bind λbt=>
 bP a (Sl.life5_Read br bt ac) λr bu=>
 (Aq 0 r).bind λbv=>
 (Aq 1 r).bind λcz=>
 (Aq 2 r).bind λbw=>
 An (Az (some [(.str []),(.sl [] .ti)]) bu) λs bz=>
 bP a (A8 (Af 2 s bv bz)) λ_ ad=>
 (Ae .none .add (.str [35,76,105,102,101,32,49,46,48,53,10]) i).bind λb0=>
 (Ae .none .add b0 h).bind λb1=>
 (Ac true 2 b ad).bind λb2=>
 bP a (Sl.life5_Read b1 b2 ad) λt b3=>
 (Aq 0 t).bind λb4=>
 (Aq 1 t).bind λc0=>
 (Aq 2 t).bind λb5=>
 An (Az (some [(.str []),(.sl [] .ti)]) b3) λae b6=>
 bP a (A8 (Af 2 ae b4 b6)) λ_ aj=>
 (Ae .none .add (.str [35,76,105,102,101,32,49,46,48,53,10]) h).bind λb7=>
 (Ae .none .add b7 i).bind λb8=>
 (Ae .none .add b8 h).bind λb9=>
 (Ae .none .add b9 i).bind λca=>
 (Ac true 2 b aj).bind λcb=>
 bP a (Sl.life5_Read ca cb aj) λu cc=>
 (Aq 0 u).bind λcd=>
 (Aq 1 u).bind λc1=>
 (Aq 2 u).bind λce=>
 An (Az (some [(.str []),(.sl [] .ti)]) cc) λak cg=>
 bP a (A8 (Af 2 ak cd cg)) λ_ j=>
 (Ae .none .eql bw (.i6 0)).bind λv=>
 gk v true (some b5) λcj=>
 gk v true (Ae .none .eql cj (.i6 0)) λck=>
 (AF v ck (.bool false)).bind λw=>
 gk w true (some ce) λcl=>
 gk w true (Ae .none .eql cl (.i6 0)) λcm=>
 (AF w cm (.bool false)).bind λk=>
 gk k true (Ac true 2 s j) λcn=>
 gk k true (Ac true 2 ae j) λcp=>
 gbP a k true j (Sl.gliderref11_Same cn cp j) λcq l=>
 (AF k cq (.bool false)).bind λm=>
 gk m true (Ac true 2 s l) λcr=>
 gk m true (Ac true 2 ak l) λct=>
 gbP a m true l (Sl.gliderref11_Same cr ct l) λcu cv=>
 (AF m cu (.bool false)).bind λcw=>
 rP a cw cv))
open Go.Proofs
set_option maxRecDepth 100000
theorem mixed:Tryz.prog.follows .mixedOrders=true:=by kernel_rfl
theorem Po:AI Tryz.prog Gs 235 (ap1 Sh.f6m):=mk1 .keep (At _ _) [] Tryz.func235
theorem Lz:AI Tryz.prog Gs 140 (ap1 Sh.fa):=mk1 .keep (At _ _) [] Tryz.func140
theorem DK:AI Tryz.prog Gs 201 (ap1 Sh.f1):=mk1 .keepN ((Ag Lz (At _ _))) [[0]] Tryz.func201
open Go.ChangeShapes Go.WideShapes Go.ChangeAt Go.RowKit
def NB (W:World):Env:=⟨λ_ _=>none,λ_ _=>none,λb o=>W.cell? ⟨b,o,none⟩⟩
theorem sim0 (W:World)(hf:∀b cs,FixT b=some cs->0<cs.size/\∃t fr,W.heap[b]? = some (.cells cs t fr)):Sim (NB W) [] W:=
 ⟨λid B h=>(by simp at h),λid g b h=>(by cases h),λid g b h=>(by cases h),λid B n h=>(by simp at h),λid id' b h=>(by simp[loc]at h),λb o v h=>h,λb cs h=>by
  obtain⟨h0,t,fr,h1⟩:=hf b cs h;exact⟨⟨t,fr,h1⟩,⟨cs[0],by rw[show (NB W).I b 0=W.cell? ⟨b,0,none⟩ from rfl,Bl h1];simp[h0]⟩,λid=>by simp[loc]⟩⟩
theorem Sg {E0:Env}{w0:World}{E:Env}{H:Aa}{w:World}(h:BM E0 [] w0 E H w):Below w0.heap.size w0 w:=
 ⟨h.os,h.tape,h.output,h.size,λk hk=>h.frame k hk (λ⟨i,hi⟩=>by simp[loc]at hi)⟩
theorem calls_law {P:Program}{G:IF}{g:FuncId}{F:List Ab->Aa->Out}(hF:AI P G g F){fn:Func}(hf:P.funcs[g]? = some fn)(hb:fn.body.isNone=false)(hn:(fn.name == "runtime.NumGoroutine")=false)
  {W:World}(zS:∀b cs,FixT b=some cs->0<cs.size/\∃t fr,W.heap[b]? = some (.cells cs t fr))(hG:DM G (NB W)){args:List Ab}{vs:Array Value}(hv:A5 (NB W) args vs.toList)(h:F args []=some (.ret (.bool true),[])) :
  Calls P g vs W λe W'=>e=.returned (.bool true)/\Below W.heap.size W W':=by
 rcases hF args [] _ _ h (NB W) W vs hG (sim0 W zS) hv with ⟨_,h1⟩ | ⟨v,w',h1,_⟩
 ·refine h1.mono λe W' ⟨E',h2,_,h3⟩=>⟨?_,Sg h3⟩;cases e with
  | returned v=>rw[Ay.bool_inv h2]
  | panicked c=>exact h2.elim
  | outgrown=>exact h2.elim
 ·rw[F6 hf hb hn]at h1;cases h1
section
variable {H:Type}{enc:TypeId×Value->H}{P:Program}
theorem ND (hl:laidOutB P=true){W W':World}(hb:Below W.heap.size W W'){sp:Nat->Bool}:∀ {ts:List TypeId} {vs:List Value} {ds:List (DataW H)} {ps:List MemPlace},
  (ts.all λt=>P.readableRec t&&decide (t<P.types.size))=true->DataW.TrodAll enc P W 0 (λ_=>true) true ts vs ds ps->(∀x∈ps,x.block<W.heap.size)->(∀x∈ps,sp x.block=true)->DataW.TrodAll enc P W' 0 sp true ts vs ds ps
 | [],_,_,_,_,h,_,_=>by
  obtain⟨rfl,rfl,rfl⟩:=trodAll_nil h;exact trodAll_mk0
 | t::ts,_,_,_,ht,h,hlt,hsp=>by
  obtain⟨v,vs1,d,ds1,a,b,rfl,rfl,rfl,h1,h2⟩:=trodAll_cons h;simp only[List.all_cons,Wc,zXe]at ht;exact trodAll_cons_mk (WideElems.Trod_stays hl ht.1.1 ht.1.2 h1 (λx hx=>hb.same (hlt x (by simp[hx]))) (λx hx=>hsp x (by simp[hx])))
   (ND hl hb (by simpa using ht.2) h2 (λx hx=>hlt x (by simp[hx])) (λx hx=>hsp x (by simp[hx])))
theorem post_law {f:Func}{s:ChangeSpec}{W W':World}{args:Array Value}{ds gs:List (DataW H)}{before:List MemPlace}(hW:DataW.Whole enc P f.params.toList s.vars false W args.toList ds gs before)
  (hl:laidOutB P=true)(hr:(f.params.toList.all λt=>P.readableRec t&&decide (t<P.types.size))=true)(hB:Below W.heap.size W W')(mB:s.vars=[]){tb:TypeId}(sM:f.resultTypes = #[tb])(mR:P.underlying tb=some .bool)
  (hres:(s.fn H (ds++gs)).results=[.lit (.bool true)])(eB:(s.fn H (ds++gs)).args=ds)(oO:(s.fn H (ds++gs)).vars=[]):s.post enc P f false true false false W args (.bool true) W':=by
 have hold:∀p∈before,(λb=>decide (b<W.heap.size)) p.block=true:=λp hp=>by simpa using hW.lt p hp
 have hlt:=hW.lt;have hW':=hW;obtain⟨p,q,hA,hV,zG,hz,hn⟩:=hW;rw[mB]at hV;obtain⟨rfl,rfl⟩:=trodVars_none hV;have uH:before=p:=by rw[zG];simp
 subst uH;have ha:∀sp:Nat->Bool,(∀x∈before,sp x.block=true)->DataW.TrodAll enc P W' 0 sp true f.params.toList args.toList (s.fn H (ds++[])).args before:=λsp hsp=>by
  rw[eB];exact ND hl hB hr hA hlt hsp
 have dY:∀(b:Nat) (sp:Nat->Bool) (hd:Bool),DataW.TrodAll enc P W' b sp hd f.resultTypes.toList ((Value.bool true).resultList f.resultTypes.size) (s.fn H (ds++[])).results []:=λb sp hd=>by
  rw[hres,sM];exact trodAll_cons_mk (shut_bool mR _) trodAll_mk0
 have aO:∀sp:Nat->Bool,DataW.TrodVars enc P W' sp s.vars (s.fn H (ds++[])).vars []:=λsp=>by rw[mB,oO];rfl
 refine⟨ds,[],before,[],before,[],hW',dY _ _ _,ha _ hold,aO _,World.keptBut_mono (λp hp=>hp) (hB.frame _),λ_=>?_⟩;refine⟨ok_one sM rfl (okWide_bool_mk mR _),_,_,([]++before)++[],⟨[]++before,[],trodAll_append (ha _ (λ_ _=>rfl)) (dY _ _ _),aO _,rfl,?_,?_⟩,?_⟩
 ·intro b off hp;have hp':MemPlace.cell b off∈before:=by simpa using hp
  rw[hB.frozen (hlt _ hp')];exact hz b off hp'
 ·intro h;cases h
 ·intro p hp _;simpa using hp

end
open Go.RowKit
theorem UC {E:Env}{H:Aa}{w w':World}(h:Sim E H w)(hb:Below w.heap.size w w'):Sim E H w'/\BM E H w E H w':=
 h.ext (.refl E) (λ_ _ _ h=>h) (λ_ _ _ h=>h) hb.block (λ_ _=>rfl) (λb o v hv hlt=>by have:=h.imm_lt hv;omega) hb.os hb.tape hb.output hb.size
def Env.bare (E:Env):Env:=⟨λ_ _=>none,λ_ _=>none,E.I⟩
theorem sim_bare {E:Env}{H:Aa}{w:World}(h:Sim E H w):Sim E.bare [] w:=
 ⟨λid B h=>(by simp at h),λid g b h=>(by cases h),λid g b h=>(by cases h),λid B n h=>(by simp at h),λid id' b h=>(by simp[loc]at h),λb o v hv=>h.imm b o v hv,λb cs hf=>⟨(h.fix b cs hf).1,(h.fix b cs hf).2.1,λid=>by simp[loc]⟩⟩
theorem fn_calls {P:Program}{G:IF}{g:FuncId}{F:List Ab->Aa->Out}(hF:AI P G g F){fn:Func}(hf:P.funcs[g]? = some fn)(hB:fnB 0 fn=true)
  {E:Env}{H:Aa}{w:World}(hG:DM G E.bare)(hs:Sim E H w){args:List Ab}{vs:Array Value}(hv:A5 E.bare args vs.toList){res:Res}(h:F args []=some (res,[])) :
  Calls P g vs w λe w'=>(∃E',Jn E' res e)/\Below w.heap.size w w':=by
 obtain⟨b1,b2,b3⟩:=FT hB;rcases hF args [] _ _ h E.bare w vs hG (sim_bare hs) hv with ⟨_,h1⟩ | ⟨v,w',h1,_⟩
 ·exact h1.mono λe w' ⟨E',h2,_,h3⟩=>⟨⟨E',h2⟩,Sg h3⟩
 ·rw[F6 hf b1 b2]at h1;cases h1
theorem lib_ok {P:Program}{G:IF}{g:FuncId}{fn:Func}(hf:P.funcs[g]? = some fn)(hB:fnB 0 fn=true){args:List Ab}{H:Aa}{x:Ab}
  (h:∀(E:Env) (w:World) (vs:Array Value),DM G E->Sim E H w->A5 E args vs.toList->∃v,Ay E x v/\Calls P g vs w λe w'=>e=.returned v/\Below w.heap.size w w'):CallA P G g args H (.ret x) H:=by
 intro E w vs hG hs hv;obtain⟨v,h1,h2⟩:=h E w vs hG hs hv;obtain⟨b1,b2,b3⟩:=FT hB;refine .inl ⟨F6 hf b1 b2 vs w,h2.mono λe w' ⟨he,hb⟩=>?_⟩;subst he;obtain⟨k1,k2⟩:=UC hs hb;exact⟨E,h1,k1,k2⟩
theorem args1 {E:Env}{a:Ab}{vs:Array Value}(h:A5 E [a] vs.toList):∃v,vs = #[v]/\Ay E a v:=by
 obtain⟨l⟩:=vs
 match l,h with
 | [v],h=>exact⟨v,rfl,h.head⟩
 | [],h=>exact absurd h.1 (by simp)
 | _::_::_,h=>exact absurd h.1 (by simp)
theorem args2 {E:Env}{a b:Ab}{vs:Array Value}(h:A5 E [a,b] vs.toList):∃v u,vs = #[v,u]/\Ay E a v/\Ay E b u:=by
 obtain⟨l⟩:=vs
 match l,h with
 | [v,u],h=>exact⟨v,u,rfl,h.head,h.tail.head⟩
 | [],h=>exact absurd h.1 (by simp)
 | [_],h=>exact absurd h.1 (by simp)
 | _::_::_::_,h=>exact absurd h.1 (by simp)
theorem val_str {E:Env}{s:List UInt8}{v:Value}(h:Ay E (.str s) v):v=.string ⟨s.toArray⟩:=by cases h;rfl
theorem R2 {E:Env}{k:IntKind}{n:Int}{v:Value}(h:Ay E (.int k n) v):v=.int k n:=by cases h;rfl
end Go.Gm
/-
 DERIVED: THE SHELF's CONTRACTS AT THIS DUMP,IN PLAIN WORDS (tools/lay-plain.mjs out of 'TryzShelf.lean',which tools/lay-shelf.mjs wrote): THE SAME DECLARATIONS UNDER THE SAME NAMES: 'import','namespace','open','def','theorem' AND NOTHING ELSE: no command of the shelf's: FOR A HAND-IN. Each laying: the table of numbers ('.._ren') and one theorem,a field a fact of the dump's own or the kernel's comparison;each contract: ONE APPLICATION.
-/
namespace Go.Proofs
open Go.Shelf
def Tryz.lays137_ren:Go.Shelf.Ren:=⟨fun | 137=>177 | 217=>220 | 266=>231 | n=>n,fun | 9=>9 | 5=>5 | 3=>3 | n=>n,fun | n=>n⟩
theorem Tryz.lays137:Go.Proofs.Lays.n137 Tryz.prog Tryz.lays137_ren:={
 mixed:=by kernel_rfl
 f137:=Tryz.func177.trans (congrArg some (by kernel_rfl))
 f217:=Tryz.func220.trans (congrArg some (by kernel_rfl))
 f266:=Tryz.func231.trans (congrArg some (by kernel_rfl))
 t3:=Tryz.underlying3
 a3:=Tryz.isAgg3
 z3:=Tryz.sizeOf3
 v3:=Tryz.zeroValue3
 t5:=Tryz.underlying5
 a5:=Tryz.isAgg5
 z5:=Tryz.sizeOf5
 v5:=Tryz.zeroValue5
 t9:=Tryz.underlying9
 a9:=Tryz.isAgg9
 z9:=Tryz.sizeOf9
 v9:=Tryz.zeroValue9 }
open Go.RowKit in
theorem Tryz.strings_IndexByte (s:ByteArray)(c:Int)(w:World) :
  Calls Tryz.prog 177 #[.string s,.int .u8 c] w λe w'=>e=.returned (.i6 (Lib.indexByte s.data.toList c.toNat.toUInt8))/\w'=w:=Any.strings_IndexByte Tryz.lays137 s c w
def Tryz.laysGw15_ren:Go.Shelf.Ren:=⟨fun | 15=>234 | 20=>239 | n=>n,fun | 9=>9 | 23=>256 | 3=>3 | 4=>4 | 0=>0 | 21=>21 | n=>n,fun | n=>n⟩
theorem Tryz.laysGw15:Go.Proofs.LaysGw.n15 Tryz.prog Tryz.laysGw15_ren:={
 mixed:=by kernel_rfl
 f15:=Tryz.func234.trans (congrArg some (by kernel_rfl))
 f20:=Tryz.func239.trans (congrArg some (by kernel_rfl))
 t0:=Tryz.underlying0
 a0:=Tryz.isAgg0
 z0:=Tryz.sizeOf0
 v0:=Tryz.zeroValue0
 i0:=by kernel_rfl
 t3:=Tryz.underlying3
 a3:=Tryz.isAgg3
 z3:=Tryz.sizeOf3
 v3:=Tryz.zeroValue3
 i3:=by kernel_rfl
 t4:=Tryz.underlying4
 a4:=Tryz.isAgg4
 z4:=Tryz.sizeOf4
 v4:=Tryz.zeroValue4
 i4:=by kernel_rfl
 t9:=Tryz.underlying9
 a9:=Tryz.isAgg9
 z9:=Tryz.sizeOf9
 v9:=Tryz.zeroValue9
 i9:=by kernel_rfl
 t21:=Tryz.underlying21
 a21:=Tryz.isAgg21
 z21:=Tryz.sizeOf21
 v21:=Tryz.zeroValue21
 i21:=by kernel_rfl
 t23:=Tryz.underlying256
 a23:=Tryz.isAgg256
 z23:=Tryz.sizeOf256
 v23:=Tryz.zeroValue256
 i23:=by kernel_rfl }
open Go.RowKit Go.Lib in
theorem Tryz.strings_IndexFunc_grows (g:Nat)(lb:Array Value)(eg:∀args w,(callFunc g args).run Tryz.prog w=.ok (.enter g args) w)(p:Nat->Bool)(s:ByteArray)(w:World)(hp:PredGrows Tryz.prog g lb p w) :
  Calls Tryz.prog 234 #[.string s,.func (.func g) #[] lb] w λe w'=>e=.returned (.i6 (Lib.idxFunc p true s))/\Below w.heap.size w w':=Any.strings_IndexFunc_grows Tryz.laysGw15 g lb eg p s w hp
end Go.Proofs
namespace Go.Gm
@[simp 2000] theorem BH {α β:Type}(a:α)(f:α->Option β):(some a).bind f=f a:=(rfl)
theorem EZ {G:LK->LK}(N:Nat)(p:Nat->Bool)(st:Nat->List Ab)(H:Aa)(yes no:Out)(hN:N<1152921504606846976)
  (turn:∀(rec:LK) (i:Nat),i<N->G rec (st i) H=if p i then rec (st (i+1)) H else no)(last:∀rec:LK,G rec (st N) H=yes):Ap G AU (st 0) H=if (List.range N).all p then yes else no:=by
 refine Bq (σ:=Nat) (λi=>i<=N/\∀j,j<i->p j=true) st (λ_=>H) (λi=>N-i) (λ_=>if (List.range N).all p then yes else no) (λi rec hi hrec=>?_) 0 ⟨Wv _,λj hj=>by omega⟩ (by omega);by_cases h:i<N
 ·rw[turn rec i h];cases hp:p i with
  | true=>exact hrec (i+1) ⟨h,λj hj=>by
    by_cases e:j=i
    ·rw[e];exact hp
    ·exact hi.2 j (by omega)⟩ (by omega)
  | false=>
   have:(List.range N).all p=false:=by rw[Xy];exact⟨i,by simpa using h,by simp[hp]⟩
   simp[this]
 ·have e:i=N:=by omega
  subst e;have:(List.range i).all p=true:=by rw[Wi];intro j hj;exact hi.2 j (by simpa using hj)
  rw[last,this];rfl
theorem Oa {G:LK->LK}(N:Nat)(p:Nat->Bool)(st:Nat->List Ab)(H:Aa)(none':Out)(found:Nat->Out)(hN:N<1152921504606846976)
  (turn:∀(rec:LK) (i:Nat),i<N->G rec (st i) H=if p i then found i else rec (st (i+1)) H)(last:∀rec:LK,G rec (st N) H=none') :
  Ap G AU (st 0) H=match (List.range N).find? p with | some i=>found i | none=>none':=by
 refine Bq (σ:=Nat) (λi=>i<=N/\∀j,j<i->p j=false) st (λ_=>H) (λi=>N-i) (λ_=>match (List.range N).find? p with | some i=>found i | none=>none') (λi rec hi hrec=>?_) 0 ⟨Wv _,λj hj=>by omega⟩ (by omega);by_cases h:i<N
 ·rw[turn rec i h];cases hp:p i with
  | false=>exact hrec (i+1) ⟨h,λj hj=>by
    by_cases e:j=i
    ·rw[e];exact hp
    ·exact hi.2 j (by omega)⟩ (by omega)
  | true=>
   have:(List.range N).find? p=some i:=by
    rw[Y0];exact⟨hp,by simpa using h,λj hj=>by simp[hi.2 j hj]⟩
   rw[this];rfl
 ·have e:i=N:=by omega
  subst e;have:(List.range i).find? p=none:=by
   rw[XU];intro j hj;simp[hi.2 j (by simpa using hj)]
  rw[last,this]
theorem Cp {sz:Nat}{cs:List Ab}{H:Aa}(h:cs.all Ab.isScal=true)(hl:cs.length=sz):BD true sz (.agg cs) H=some (.ptr H.length 0 0,H++[.cel 0 cs]):=by
 unfold BD;rw[BV h];simp[hl,alloc_eq h]
theorem BP {v:Ab}{p:Ab->Prop}{k:Ab->Out}(hp:p v):bC (some v) p k=k v:=by
 simp only[bC,zXa,chk_pos hp]
theorem Dq {cs vs:List Ab}{sz:Nat}(h:cs.length=sz):CZ cs 0 sz vs=vs:=by simp[CZ,Yd (Yb h)]
theorem P1 {cs vs:List Ab}{sz g:Nat}{v:Ab}{G:Aa}(hv:v.acells=some vs)(h:cs.length=sz)(h2:vs.length=sz):Af sz (.ptr 0 g 0) v (.cel g cs::G)=some (.cel g vs::G):=by
 rw[Sf,hv];simp only[zXa,h2,h,VU,VV,and_self,if_true,Dq h]
@[simp] theorem Id {x:Out}:chk True x=x:=chk_pos trivial x
@[simp] theorem QC {v:Ab}{p:Ab->Prop}{k:Ab->Out}:bC (some v) p k=chk (p v) (k v):=(rfl)
section
variable {x:Option Ab}{p:Bool->Ab->Prop}{k:Ab->Out}{w:Bool}
@[simp] theorem PT:gkc (.bool true) true x p k=bC x (p true) k:=(rfl)
@[simp] theorem PW:gkc (.bool false) false x p k=bC x (p true) k:=(rfl)
@[simp] theorem PU:gkc (.bool true) false x p k=chk (p false Ck) (k Ck):=(rfl)
@[simp] theorem PV:gkc (.bool false) true x p k=chk (p false Ck) (k Ck):=(rfl)
@[simp] theorem Vw:gkc (.tup []) w x p k=chk (p false Ck) (k Ck):=(rfl)

end
theorem Ii (p:Nat->Bool):(List.range 4).all p=(p 0&&p 1&&p 2&&p 3):=by
 show (p 0&&(p 1&&(p 2&&(p 3&&true))))=_;cases p 0 <;> cases p 1 <;> cases p 2 <;> cases p 3 <;> rfl
theorem wrap_nat {n:Nat}(h:n<9223372036854775808):IntKind.i64.wrap (n:Int)=(n:Int):=Ao (by omega) (by omega)
theorem Au {n:Nat}(h:n<9223372036854775807):IntKind.i64.wrap ((n:Int)+1)=((n+1:Nat):Int):=by rw[Ao] <;> omega
theorem Hp {n:Nat}(h:0<n)(h2:n<9223372036854775807):IntKind.i64.wrap ((n:Int)-1)=((n-1:Nat):Int):=by rw[Ao] <;> omega
@[simp] theorem GX {a b:Int}:(a == b)=decide (a=b):=by rw[Wo];simp
@[simp] theorem Lp {a b:Int}:(a != b) = !decide (a=b):=by rw[Wo];simp
structure Nd where
 lv:Int
 k0:Int
 k1:Int
 k2:Int
 k3:Int
deriving DecidableEq
def Nd.kid (x:Nd)(k:Nat):Int:=match k with | 0=>x.k0 | 1=>x.k1 | 2=>x.k2 | _=>x.k3
def cNd (x:Nd):List Ab:=[.i6 x.lv,.i6 x.k0,.i6 x.k1,.i6 x.k2,.i6 x.k3]
instance:Sz cNd 5:=⟨λ_=>rfl⟩
section
variable {x y:Nd}{H:Aa}{k:Nat}
@[simp] theorem Co:(cNd x)[0]? = some (.i6 x.lv):=(rfl)
theorem Ez (h:k<4):(cNd x)[1+k]? = some (.i6 (x.kid k)):=by
 match k,h with
 | 0,_=>rfl
 | 1,_=>rfl
 | 2,_=>rfl
 | 3,_=>rfl
theorem EP {K:IntKind}{cs:List Ab}{o:Nat}(h:k<4):B5 4 1 (.cptr cs o) (.int K (k:Int))=some (.cptr cs (o+k*1)):=by
 unfold B5;simp only[];rw[if_pos ⟨by omega,by omega⟩];simp
theorem Jy:Ac true 5 (.cptr (cNd x) 0) H=some (.agg (cNd x)):=(rfl)
theorem Fp:(cNd x).all Ab.isScal=true:=(rfl)
theorem VM:(Ab.agg (cNd x)).acells=some (cNd x):=(rfl)
theorem Ph:BO (cNd x) (cNd y)=some (decide (x=y)):=by
 obtain⟨a,b,c,d,e⟩:=x;obtain⟨a',b',c',d',e'⟩:=y;simp only[cNd,BO,HF,if_true,zXa,Wa];rw[Wo];simp
theorem eq_nd:Ae (.flat 5) .eql (.agg (cNd x)) (.agg (cNd y))=some (.bool (decide (x=y))):=by
 show (eqA (.flat 5) (.agg (cNd x)) (.agg (cNd y))).map Ab.bool=_;have h:eqA (.flat 5) (.agg (cNd x)) (.agg (cNd y))=some (decide (x=y)):=by unfold eqA;simp only[];rw[if_pos (show (cNd x).length=5 from rfl),Ph]
 rw[h];rfl
theorem neq_nd:Ae (.flat 5) .neq (.agg (cNd x)) (.agg (cNd y))=some (.bool (!decide (x=y))):=by
 show (eqA (.flat 5) (.agg (cNd x)) (.agg (cNd y))).map (λb=>Ab.bool (!b))=_;have h:eqA (.flat 5) (.agg (cNd x)) (.agg (cNd y))=some (decide (x=y)):=by unfold eqA;simp only[];rw[if_pos (show (cNd x).length=5 from rfl),Ph]
 rw[h];rfl

end
theorem Ks (x:Nd):AS 5 [.agg (cNd x)]=some (.sl (enL cNd [x]) .ti):=by
 simp[AS,Dd,VM];simp[cNd,L9,BI,enL]
end Go.Gm
