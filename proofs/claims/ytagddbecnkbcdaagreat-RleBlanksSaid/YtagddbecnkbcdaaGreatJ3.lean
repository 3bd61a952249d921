/- Texts of this proof, joined. -/
import Derived.Test.YtagddbecnkbcdaaGreatJ1
import Derived.Test.YtagddbecnkbcdaaGreatJ2
import Derived.Lib.Bytealg
import Derived.Shelf.GgClosure.StringsIndexFunc
import Derived.Test.YtagddbecnkbcdaaGreatChecked
import Derived.KernelRfl
import Derived.ProofKit
import Derived.OpenShut
import Derived.JoinedCond
import Derived.Carry
import Derived.Shelf.Small.Strs
import Derived.Shelf.Small.Wraps
import Derived.Shelf.Strings.Search1
import Derived.Ground.GgwProg
import Derived.Shelf.GgClosure.StringsIndexFuncTop
import Derived.Shelf.Strings.Prefix
import Derived.Shelf.Strings.FuncGrows
import Derived.Test.YtagddbecnkbcdaaGreatProg
set_option linter.all false
namespace Go.Gm
def Dy (l:List Bool):List Bool:=(l.reverse.dropWhile λb=>!b).reverse
theorem Vjl:Dy []=[]:=rfl
theorem Qi (l:List Bool):Dy (l++[true])=l++[true]:=by simp[Dy]
theorem NM (l:List Bool):Dy (l++[false])=Dy l:=by simp[Dy]
theorem GN {α:Type}(l:List α):l=[]\/∃l' a,l=l'++[a]:=by
 cases h:l.reverse with
 |nil=>left;simpa using h
 |cons a r=>right;exact⟨r.reverse,a,by have:=congrArg List.reverse h;simpa using this⟩
def D3:Nat->Nat->List Bool
 |0,_=>[]
 |n+1,x=>(x%2 == 1)::D3 n (x / 2)
theorem Jr:∀(n x:Nat),(D3 n x).length=n
 |0,_=>rfl
 |n+1,x=>by simp[D3,Jr n]
def AO (l:zAb):List Bool:=l.flatMap (D3 32)
theorem Cp (l:zAb):(AO l).length=32*l.length:=by
 induction l with
 |nil=>rfl
 |cons a l ih=>simp only[AO,XN,Vs,Jr,zXj]at ih ⊢;omega
def Bl:List Bool->Nat
 |[]=>0
 |b::l=>(if b then 1 else 0)+2*Bl l
theorem D9 (l m:List Bool):Bl (l++m)=Bl l+2^l.length*Bl m:=by
 induction l with
 |nil=>simp[Bl]
 |cons b l ih=>simp only[List.cons_append,Bl,ih,zXj,Nat.pow_succ];rw[W4,<-VN,W8 (2^l.length) 2,WS]
theorem Kb (l:List Bool):Bl l<2^l.length:=by
 induction l with
 |nil=>simp[Bl]
 |cons b l ih=>simp only[Bl,zXj,Nat.pow_succ];split <;> omega
def Gt (c:List Bool)(q:Nat):Nat:=Bl ((c.drop (32*q)).take 32)
def Ej (c:List Bool)(q:Nat):zAb:=(List.range q).map (Gt c)
theorem Kh (c:List Bool)(q:Nat):Ej c (q+1)=Ej c q++[Gt c q]:=by simp[Ej,Xm]
theorem LS (c:List Bool)(q:Nat):(Ej c q).length=q:=by simp[Ej]
def Ki (l:List Bool):zAb:=Ej (Dy l) (((Dy l).length+31) / 32)
theorem HY (l:List Bool):(Dy l).length<=l.length:=by unfold Dy;rw[List.length_reverse];have:=(XU (p:=λb=>!b) (l:=l.reverse)).length_le;simpa using this
def val:zAb->Nat
 |[]=>0
 |a::l=>a+4294967296*val l
structure Nrm (l:zAb):Prop where
 lt:∀x∈l,x<4294967296
 last:∀x,l.getLast? = some x->x≠0
theorem Cs (l m:zAb):val (l++m)=val l+4294967296^l.length*val m:=by
 induction l with
 |nil=>simp[val]
 |cons b l ih=>simp only[List.cons_append,val,ih,zXj,Nat.pow_succ];rw[W4,<-VN,W8 (4294967296^l.length) 4294967296,WS]
theorem Nrm.tail {a:Nat}{l:zAb}(h:Nrm (a::l)):Nrm l:=
 ⟨λx hx=>h.lt x (by simp[hx]),λx hx=>h.last x (by cases l with | nil=>simp at hx | cons b l=>simpa[List.getLast?_cons_cons]using hx)⟩
theorem Nrm.zero:∀ {l:zAb},Nrm l->val l=0->l=[]
 |[],_,_=>rfl
 |a::l,h,hv=>by
  exfalso;simp only[val]at hv;have h1:a=0:=by omega
  have h2:l=[]:=h.tail.zero (by omega);subst h2;exact h.last a (by simp) h1
theorem Nrm.inj:∀ {l m:zAb},Nrm l->Nrm m->val l=val m->l=m
 |[],m,_,hm,h=>(hm.zero (by simpa[val]using h.symm)).symm
 |a::l,[],hl,_,h=>hl.zero (by simpa[val]using h)
 |a::l,b::m,hl,hm,h=>by
  have h1:=hl.lt a (by simp);have h2:=hm.lt b (by simp);simp only[val]at h;have e1:a=b:=by omega
  have e2:val l=val m:=by omega
  rw[e1,Nrm.inj hl.tail hm.tail e2]
theorem EJ (l:zAb)(hx:∀x∈l,x<4294967296):Bl (AO l)=val l:=by
 have key:∀(n x:Nat),Bl (D3 n x)=x%2^n:=by
  intro n
  induction n with
  |zero=>intro x;simp[D3,Bl,Nat.mod_one]
  |succ n ih=>
   intro x;simp only[D3,Bl,ih];rw[Nat.pow_succ,W8 (2^n) 2,Nat.mod_mul]
   congr 1
   have:x%2<2:=WJ _ (by omega);split
   ·rename_i h;have:=of_decide_eq_true (p:=x%2=1) (by simpa using h);omega
   ·rename_i h;have:¬x%2=1:=by simpa using h
    omega
 induction l with
 |nil=>rfl
 |cons a l ih=>have e:AO (a::l)=D3 32 a++AO l:=rfl;rw[e,D9,key,Jr,ih λx h=>hx x (by simp[h])];have:=hx a (by simp);simp only[val];rw[Wr (by omega)]
theorem E4 (l:List Bool):Bl (Dy l)=Bl l:=by
 suffices h:∀r:List Bool,Bl (Dy r.reverse)=Bl r.reverse by have:=h l.reverse;simpa using this
 intro r
 induction r with
 |nil=>rfl
 |cons b r ih=>
  rw[XL];cases b with
  |true=>rw[Qi]
  |false=>rw[NM,ih,D9];simp[Bl]
theorem VfJ (c:List Bool)(q:Nat):Gt c q<4294967296:=by
 have h:=Kb ((c.drop (32*q)).take 32);have h2:((c.drop (32*q)).take 32).length<=32:=by simp;omega
 have:2^((c.drop (32*q)).take 32).length<=2^32:=VO (by omega) h2;unfold Gt;omega
theorem Qy (c:List Bool):∀q,val (Ej c q)=Bl (c.take (32*q))
 |0=>by simp[Ej,val,Bl]
 |q+1=>by
  rw[Kh,Cs,Qy c q,LS];have e:c.take (32*(q+1))=c.take (32*q)++(c.drop (32*q)).take 32:=by rw[W4,List.take_add]
  rw[e,D9];by_cases h:32*q<=c.length
  ·have:(c.take (32*q)).length=32*q:=by simp;omega
   rw[this,show (4294967296:Nat)=2^32 from rfl,<-XJ];simp[val,Gt]
  ·have:c.drop (32*q)=[]:=Xk (by omega);simp[val,Gt,this,Bl]
theorem VcZ (l:List Bool):Dy l=[]\/∃m,Dy l=m++[true]:=by
 suffices h:∀r:List Bool,Dy r.reverse=[]\/∃m,Dy r.reverse=m++[true]by have:=h l.reverse;simpa using this
 intro r
 induction r with
 |nil=>exact .inl rfl
 |cons b r ih=>
  rw[XL];cases b with
  |true=>rw[Qi];exact .inr ⟨_,rfl⟩
  |false=>rw[NM];exact ih
theorem Qz (l:List Bool):val (Ki l)=Bl l:=by unfold Ki;rw[Qy,Vy (by omega),E4]
theorem Q9 (l:List Bool):Nrm (Ki l):=by
 unfold Ki;refine⟨λx hx=>?_,λx hx=>?_⟩
 ·simp only[Ej,WM]at hx;obtain⟨q,_,rfl⟩:=hx;exact VfJ _ _
 ·rcases VcZ l with h | ⟨m,h⟩
  ·rw[h]at hx;simp[Ej]at hx
  ·obtain⟨Q,hQ⟩:∃Q,((Dy l).length+31) / 32=Q+1:=⟨((Dy l).length+31) / 32-1,by rw[h];simp;omega⟩;have hlen:(Dy l).length=m.length+1:=by rw[h];simp
   rw[hQ,Kh]at hx;simp at hx;subst hx;unfold Gt;rw[Vy (by simp;omega),h,WO (by omega),D9];have:0<2^(m.drop (32*Q)).length:=Nat.two_pow_pos _;simp[Bl]
def A4 (n:Nat):zAb:=Ki (D3 n n)
theorem P8 (n:Nat):n<2^n:=Nat.lt_two_pow_self
theorem VaS (n x:Nat):Bl (D3 n x)=x%2^n:=by
 induction n generalizing x with
 |zero=>simp[D3,Bl,Nat.mod_one]
 |succ n ih=>
  simp only[D3,Bl,ih];rw[Nat.pow_succ,W8 (2^n) 2,Nat.mod_mul]
  congr 1
  split
  ·rename_i h;have:=of_decide_eq_true (p:=x%2=1) (by simpa using h);omega
  ·rename_i h;have:¬x%2=1:=by simpa using h
   omega
theorem B2 (n:Nat):val (A4 n)=n:=by unfold A4;rw[Qz,VaS,Wr (P8 n)]
theorem J1 (n:Nat):Nrm (A4 n):=Q9 _
theorem LR {l:zAb}(h:Nrm l):l=A4 (val l):=h.inj (J1 _) (B2 _).symm
theorem VdI (l:List Bool):Ki l=A4 (Bl l):=by rw[LR (Q9 l),Qz]
theorem Vlb {v w:Nat}(h:v<=w):2^v<=2^w:=VO (by omega) h
theorem Vif {m k:Nat}(h:m<32*k):2^m<4294967296^k:=by rw[show (4294967296:Nat)=2^32 from rfl,<-XJ];exact Ya (by omega) h
theorem Vig {k m:Nat}(h:10*k<=m):4294967296^k<=10^m:=by refine VM (Nat.pow_le_pow_left (show 4294967296<=10^10 by decide) k) ?_;rw[<-XJ];exact VO (by omega) h
def Lim (l:zAb):Prop:=∀x∈l,x<4294967296
def FM (l:zAb):Bool:=
 match l.getLast? with
 |none=>true
 |some x=>x != 0
theorem N6 {l:zAb}(hx:Lim l):FM l=true↔Nrm l:=by
 unfold FM;constructor
 ·intro h;refine⟨hx,λx gW=>?_⟩;rw[gW]at h;simpa using h
 ·intro h;cases hl:l.getLast? with
  |none=>rfl
  |some x=>have:=h.last x hl;simpa using this
def Vjo (a b:Nat):Int:=if a<b then -1 else if b<a then 1 else 0
theorem Vcq (c:List Bool)(i:Nat):c.getD i false=(Bl c).testBit i:=by
 induction c generalizing i with
 |nil=>simp[Bl]
 |cons b c ih=>
  cases i with
  |zero=>simp only[Bl,List.getD_cons_zero,Nat.testBit_zero];cases b <;> simp <;> omega
  |succ i=>
   simp only[Bl,List.getD_cons_succ,ih,Nat.testBit_succ]
   congr 1
   cases b <;> simp <;> omega
def bn (b:Bool):Nat:=if b then 1 else 0
def VoY (p q c:Bool):Int:=(if p then 1 else 0)-(if q then 1 else 0)-(if c then 1 else 0)
def Vnm (p q c:Bool):Bool:=(p != q) != c
def Vo7 (p q c:Bool):Bool:=decide (VoY p q c<0)
def sgn (neg:Bool)(n:Nat):Bool:=neg&&decide (n≠0)
theorem EA:A4 0=[]:=(J1 0).zero (B2 0)
theorem Oz {n:Nat}(h:n≠0):A4 n≠[]:=λe=>h (by have:=B2 n;rw[e]at this;simpa[val]using this.symm)
def DL (neg:Bool)(l:zAb):Int:=if neg then -(val l:Int)else val l
theorem Bn (n:Nat):Lim (A4 n):=(J1 n).lt
theorem EP {n k:Nat}(h:n<4294967296^k):(A4 n).length<=k:=by
 rcases VT k (A4 n).length with h1 | h1
 ·exfalso;rcases GN (A4 n)with e | ⟨m,a,e⟩
  ·rw[e]at h1;simp at h1
  ·have hv:=B2 n;rw[e,Cs]at hv;have ha:a≠0:=(J1 n).last a (by rw[e];simp);rw[e]at h1;have hk:k<=m.length:=by simp at h1;omega
   have:4294967296^k<=4294967296^m.length:=VO (by omega) hk;have h2:4294967296^m.length*1<=4294967296^m.length*val [a]:=Ww _ (by simp[val];omega);omega
 ·exact h1
theorem Vek (l:zAb)(hx:Lim l):val l<4294967296^l.length:=by
 induction l with
 |nil=>simp[val]
 |cons a l ih=>have h1:=ih λx h=>hx x (by simp[h]);have h2:=hx a (by simp);simp only[val,zXj,Nat.pow_succ];omega
theorem VgE {l:List Bool}(h:Bl l=0):Dy l=[]:=by
 rcases VcZ l with e | ⟨m,e⟩
 ·exact e
 ·exfalso;have:=E4 l;rw[e,D9,h]at this;have:0<2^m.length:=Nat.two_pow_pos _;simp[Bl]at *
theorem Vf8 (n:Nat)(b:List Bool):Bl (List.replicate n false++b)=2^n*Bl b:=by
 have e:Bl (List.replicate n false)=0:=by
  induction n with
  |zero=>rfl
  |succ n ih=>simp[zXm,Bl,ih]
 rw[D9,e,WH];simp
theorem Hp {i j:Nat}(h:i<=j):(4294967296:Nat)^i<=4294967296^j:=VO (by omega) h
open Go.Proofs
def R0:Res->Option Ab
 |.ret _=>some (.agg [.i6 0,.str []])
 |.pan (.iface 127 (.agg [.i6 n,.str s]))=>some (.agg [.i6 n,.str s])
 |_=>none
def OR (orc:Orc)(job:Ab)(H:Aa):Out:=
 match job with
 |.bfn 69 caps=>(orc 69 caps H).bind λr=>(R0 r.1).map λv=>(.ret v,r.2)
 |_=>none
def KV (r:Nat):Bool:=decide (r<48)||decide (57<r)
def UaG (a f:Ab)(H:Aa):Out:=match a,f with | .str s,.fn 235 []=>some (.ret (.i6 (Lib.idxFunc KV true ⟨s.toArray⟩)),H) | _,_=>none
def UaH (a b:Ab)(H:Aa):Out:=match a,b with | .str s,.int .u8 c=>some (.ret (.i6 (Lib.indexByte s c.toNat.toUInt8)),H) | _,_=>none
noncomputable def UeC (a b:Ab)(H:Aa):Out:=match a,b with | .sl es _,.sl fs _=>open Classical in if h:∃p:zAb×zAb,es=enL cU p.1/\fs=enL cU p.2/\Lim p.1/\Lim p.2/\p.1.length<=1099511627776/\p.2.length<=1099511627776 then some (.ret (.i6 (if val h.choose.1<val h.choose.2 then -1 else if val h.choose.1=val h.choose.2 then 0 else 1)),H) else none | _,_=>none
noncomputable def Udr (b:Ab)(c:Aa):Out:=(Af .none .lss b (.int .i32 48)).bind λa=>gk a false (some b) λd=>gk a false (Af .none .gtr d (.int .i32 57)) λe=>(AB a (.bool true) e).bind λf=>rK c f c
noncomputable def Uew (b:Ab)(c:Aa):Out:=(A5 b).bind λd=>(Af .none .eql d (.i6 0)).bind λa=>gk a false (some b) λe=>gk a false (some b) λf=>gk a false (A5 f) λg=>gk a false (Af .none .sub g (.i6 1)) λh=>gk a false (Aw 1 e h) λi=>gk a false (Ad false 1 i c) λj=>gk a false (Af .none .neq j (.int .u32 0)) λk=>(AB a (.bool true) k).bind λl=>rK c l c
noncomputable def Uad (b:Aa)(d:LK)(a:Ab)(e:Aa):Out:=bK b (Uew a e) λf c=>(unA .not f).bind λg=>Ak g ((A5 a).bind λh=>(Af .none .sub h (.i6 1)).bind λi=>(BS 1 a none (some i) none).bind λj=>d [j] c) (rKN b a c)
noncomputable def Uab (b:Ab)(a:Aa):Out:=Am (λc vs H=>Uad a c (ag vs 0) H) AP [b] a
noncomputable def UeD (a:Aa):Out:=Ao (A3 (some [(.i6 0),(.i6 0)]) a) λb d=>(AD (some [(.i6 0),(.i6 0)]) [(0,1,(.i6 1000)),(1,1,(.i6 100000))]).bind λe=>bP a (AE (Ai 2 b e d)) λ_ c=>(Ad true 2 b c).bind λf=>rP a f c
noncomputable def Ub5 (b d:Ab)(c:Aa):Out:=(Af .none .geq b (.i6 0)).bind λa=>gk a true (some b) λe=>gk a true (some d) λf=>gk a true (Af .none .leq e f) λg=>(AB a g (.bool false)).bind λh=>rK c h c
noncomputable def Ub6 (f:Ab)(a:Aa):Out:=Ao (B3 true 2 f a) λd e=>(Ac 0 d).bind λg=>(Ad false 1 g e).bind λh=>bP a (Ub5 h (.i6 1000) e) λb c=>gk b true (Ac 1 d) λi=>gk b true (Ad false 1 i c) λj=>gbP a b true c (Ub5 j (.i6 100000) c) λk l=>(AB b k (.bool false)).bind λm=>rP a m l
noncomputable def Ue1 (b:Ab)(a:Aa):Out:=(Ag b).bind λc=>(Ac 1 c).bind λd=>bC (Ad false 1 d a) (λ_=>True) λe=>(Ag b).bind λf=>(Ac 0 f).bind λg=>bC (Ad false 1 g a) (λ_=>True) λh=>(BU h).bind λi=>(Af .none .eql e i).bind λj=>rK a j a
noncomputable def Uaa (c e:Ab)(d:Aa):Out:=AW (Ue1 c d) λf b=>(unA .not f).bind λa=>gk a true (some e) λg=>gk a true (some c) λh=>gk a true (Ag h) λi=>gk a true (Ac 0 i) λj=>gkc a true (Ad false 1 j b) (λ_ _=>True) λk=>gk a true (some c) λl=>gk a true (Ag l) λm=>gk a true (Ac 1 m) λn=>gkc a true (Ad false 1 n b) (λ_ _=>True) λo=>gk a true (Cj k o) λp=>gbN a true b (UaH g p b) λq r=>gk a true (Af .none .geq q (.i6 0)) λs=>(AB a s (.bool false)).bind λt=>rK d t r
noncomputable def Uap (c b:Ab)(d:Aa):Out:=(BU c).bind λe=>(BU b).bind λf=>(Af .none .geq e f).bind λa=>gk a true (some c) λg=>gk a true (some b) λh=>gk a true (BU h) λi=>gk a true (Ci g none (some i)) λj=>gk a true (some b) λk=>gk a true (Af .none .eql j k) λl=>(AB a l (.bool false)).bind λm=>rK d m d
noncomputable def Ub7 (b c:Ab)(a:Aa):Out:=bK a (Uap b c a) λd e=>rK a d e
noncomputable def Uds (b:Aa)(f:LK)(a:Ab)(g:Aa):Out:=bK b (Ue1 a g) λh e=>(unA .not h).bind λc=>gk c true (some a) λi=>gbK b c true e (Uaa i (.str [13,10]) e) λj d=>gk c true (unA .not j) λk=>(AB c k (.bool false)).bind λl=>Ak l ((Ag a).bind λm=>(Ac 1 m).bind λn=>(Ad false 1 n d).bind λo=>(Af .none .add o (.i6 1)).bind λp=>(Ag a).bind λq=>(Ac 1 q).bind λr=>bK b (AE (Ai 1 r p d)) λ_ s=>f [a] s) (rK b (.tup []) d)
noncomputable def Ub8 (b:Ab)(a:Aa):Out:=Am (λc vs H=>Uds a c (ag vs 0) H) AP [b] a
noncomputable def Ueu (a:Aa)(b:Aa):Out:=(AD (some [(.i6 0),(.str [])]) [(0,1,(.i6 2)),(1,1,(.str []))]).bind λc=>(SE IP c).bind λd=>bK a (Vpl d b) λ_ e=>rK a (.tup []) e
noncomputable def Ubn (c d:Ab)(a:Aa):Out:=AM (λj1=>bK a (Ue1 c a) λe b=>Ak e ((AD (some [(.i6 0),(.str [])]) [(0,1,(.i6 3)),(1,1,d)]).bind λf=>(SE IP f).bind λg=>bK a (Vpl g b) λ_ h=>j1 [] h) (j1 [] b)) (λvs H=>Ueu a H)
noncomputable def UdY (a:Aa)(b:Ab)(c:Aa):Out:=(Ag b).bind λd=>(Ac 1 d).bind λe=>(Ad false 1 e c).bind λf=>(Af .none .add f (.i6 1)).bind λg=>(Ag b).bind λh=>(Ac 1 h).bind λi=>bK a (AE (Ai 1 i g c)) λ_ j=>rK a (.tup []) j
noncomputable def Udt (b:Aa)(a d:Ab)(e:Aa):Out:=AM (λj2=>bK b (Uaa a (.str [10]) e) λf c=>(unA .not f).bind λg=>Ak g ((Af .none .add (.str [10]) d).bind λh=>bK b (Ubn a h c) λj i=>j2 [a] i) (j2 [a] c)) (λvs H=>UdY b (ag vs 0) H)
noncomputable def Uaq (a d:Ab)(b:Aa):Out:=bK b (Ue1 a b) λf e=>Ak f (rK b (.tup []) e) (AM (λj1=>bK b (Uaa a (.str [13]) e) λg c=>Ak g ((Ag a).bind λh=>(Ac 1 h).bind λi=>(Ad false 1 i c).bind λj=>(Af .none .add j (.i6 1)).bind λk=>(Ag a).bind λl=>(Ac 1 l).bind λm=>bK b (AE (Ai 1 m k c)) λ_ n=>j1 [a,d] n) (j1 [a,d] c)) (λvs H=>Udt b (ag vs 0) (ag vs 1) H))
noncomputable def UdZ (a:Aa)(b c:Ab)(d:Aa):Out:=bK a (Uaq b c d) λf e=>rK a (.tup []) e
noncomputable def Uar (a c:Ab)(b:Aa):Out:=AM (λj1=>bK b (Ue1 a b) λe d=>Ak e ((Af .none .add (.str [10]) c).bind λf=>bK b (Ubn a f d) λh g=>j1 [a,c] g) (j1 [a,c] d)) (λvs H=>UdZ b (ag vs 0) (ag vs 1) H)
noncomputable def Udu (c:Aa)(h:LK)(d e f g a:Ab)(b:Aa):Out:=(Af .none .lss a g).bind λi=>Ak i ((Cj d a).bind λj=>(Cj e a).bind λk=>(Af .none .neq j k).bind λl=>Ak l (rK c a b) ((Af .none .add a (.i6 1)).bind λm=>h [d,e,f,g,m] b)) (rK c f b)
noncomputable def Ub9 (a b:Ab)(c:Aa):Out:=(BU a).bind λe=>(BU b).bind λf=>(GG Sy e [f]).bind λd=>Am (λg vs H=>Udu c g (ag vs 0) (ag vs 1) (ag vs 2) (ag vs 3) (ag vs 4) H) AP [a,b,d,d,(.i6 0)] c
noncomputable def Ue5 (b c g:Ab)(a:Aa):Out:=(Ag b).bind λh=>(Ac 0 h).bind λi=>bC (Ad false 1 i a) (λ_=>True) λj=>(Ag b).bind λk=>(Ac 1 k).bind λl=>bC (Ad false 1 l a) (λ_=>True) λm=>(Ci j (some m) none).bind λn=>AW (Ub9 n c a) λd e=>(Ag b).bind λo=>(Ac 1 o).bind λp=>(Ad false 1 p e).bind λq=>(Af .none .add q d).bind λr=>(Ag b).bind λs=>(Ac 1 s).bind λt=>bK a (AE (Ai 1 t r e)) λ_ f=>(BU c).bind λu=>(Af .none .lss d u).bind λv=>Ak v ((Ci c (some d) none).bind λw=>(Af .none .add w g).bind λx=>bK a (Ubn b x f) λz y=>rK a (.tup []) y) (rK a (.tup []) f)
noncomputable def Uas (e:Ab)(a:Aa):Out:=(AD (some [(.i6 0),(.str [])]) [(0,1,(.i6 4)),(1,1,(.str []))]).bind λb=>(SE IP b).bind λc=>bK a (Vpl c a) λ_ d=>rK a (.tup []) d
noncomputable def Udv (b c:Ab)(a:Aa):Out:=bK a (Uap b c a) λe d=>(unA .not e).bind λf=>Ak f (rK a (.tup [b,(.bool false)]) d) ((BU c).bind λg=>(Ci b (some g) none).bind λh=>rK a (.tup [h,(.bool true)]) d)
noncomputable def UbA (c d:Ab)(a:Aa):Out:=bK a (Udv c d a) λb e=>(At 0 b).bind λf=>(At 1 b).bind λg=>rK a (.tup [f,g]) e
noncomputable def UbB (d c:Ab)(a:Aa):Out:=(Af .none .lss c (.i6 0)).bind λb=>gk b false (some c) λh=>gk b false (some d) λi=>gk b false (BU i) λj=>gk b false (Af .none .gtr h j) λk=>(AB b (.bool true) k).bind λl=>Ak l (rK a (.i6 0) a) ((Ci d (some c) none).bind λe=>bK a (UaG e (.fn 235 []) a) λf g=>(Af .none .lss f (.i6 0)).bind λm=>Ak m ((BU e).bind λn=>rK a n g) (rK a f g))
noncomputable def Udw (a:Aa)(k:LK)(e f b g h i c:Ab)(d:Aa):Out:=(Af .none .lss c i).bind λl=>Ak l ((Aw 1 h c).bind λm=>(Ad false 1 m d).bind λn=>(AC .u64 n).bind λo=>(AC .u64 f).bind λp=>(Af .none .mul o p).bind λq=>(Af .none .add g q).bind λj=>(AC .u32 j).bind λr=>(Aw 1 b c).bind λs=>bP a (AE (Ai 1 s r d)) λ_ t=>(Af .none .shr j (.int .u64 32)).bind λu=>(Af .none .add c (.i6 1)).bind λv=>k [e,f,b,u,h,i,v] t) ((A5 e).bind λw=>(AC .u32 g).bind λx=>(Aw 1 b w).bind λy=>bP a (AE (Ai 1 y x d)) λ_ z=>bP a (Uab b z) λaa ab=>rPN a aa ab)
noncomputable def UbC (a d e:Ab)(b:Aa):Out:=(A5 a).bind λf=>(Af .none .add f (.i6 1)).bind λc=>Ao (F4 1 4 (some [(.int .u32 0)]) c c b) λg h=>(AC .u64 e).bind λi=>(A5 a).bind λj=>Am (λk vs H=>Udw b k (ag vs 0) (ag vs 1) (ag vs 2) (ag vs 3) (ag vs 4) (ag vs 5) (ag vs 6) H) AP [a,d,g,i,a,j,(.i6 0)] h
noncomputable def UbD (a:Aa)(i:LK)(b c d e:Ab)(j:Aa):Out:=bP a (Cy (Oq e j)) λf g=>(At 0 f).bind λk=>Ak k ((At 2 f).bind λl=>(Af .none .sub l (.int .i32 48)).bind λm=>(AC .u32 m).bind λn=>bP a (UbC d (.int .u32 10) n g) λo p=>i [b,c,o,e] p) ((AD (some [(.bool false),(.sl [] .ti)]) [(0,1,c),(1,1,d)]).bind λq=>bP a (AE (Ai 2 b q g)) λ_ h=>(GP [Ad true 2 b h,some (.i6 0)]).bind λr=>rPN a r h)
noncomputable def Udx (a:Aa)(b d g h:Ab)(c:Aa):Out:=Ak h ((AD (some [(.bool false),(.sl [] .ti)]) []).bind λi=>bP a (AE (Ai 2 b i c)) λ_ e=>(GP [Ad true 2 b e,some (.i6 2)]).bind λj=>rPN a j e) ((BU d).bind λk=>(Af .none .gtr k (.i6 400)).bind λl=>Ak l ((AD (some [(.bool false),(.sl [] .ti)]) []).bind λm=>bP a (AE (Ai 2 b m c)) λ_ f=>(GP [Ad true 2 b f,some (.i6 4)]).bind λn=>rPN a n f) (bP a (Cy (N7 d c)) λo p=>Am (λq vs H=>UbD a q (ag vs 0) (ag vs 1) (ag vs 2) (ag vs 3) H) AP [b,g,(.sl [] .ti),o] p))
noncomputable def UbE (f:Ab)(b:Aa):Out:=Ao (A3 (some [(.bool false),(.sl [] .ti)]) b) λc l=>bP b (UbA f (.str [45]) l) λg h=>(At 0 g).bind λa=>(At 1 g).bind λd=>AM (λj1=>(Af .none .eql a (.str [])).bind λi=>Ak i (j1 [c,a,d,i] h) (bP b (UbB a (.i6 0) h) λm j=>(BU a).bind λn=>(Af .none .lss m n).bind λk=>Ak k (j1 [c,a,d,k] j) ((Cj a (.i6 0)).bind λo=>(Af .none .eql o (.int .u8 48)).bind λe=>gk e true (some f) λp=>gk e true (Af .none .neq p (.str [48])) λq=>(AB e q (.bool false)).bind λr=>j1 [c,a,d,r] j))) (λvs H=>Udx b (ag vs 0) (ag vs 1) (ag vs 2) (ag vs 3) H)
noncomputable def UbF (c:Aa)(d:LK)(a e f g h:Ab)(b:Aa):Out:=(Ag a).bind λi=>(Ac 1 i).bind λj=>(Ad false 1 j b).bind λk=>(Af .none .add k (.i6 1)).bind λl=>(Ag a).bind λm=>(Ac 1 m).bind λn=>bK c (AE (Ai 1 n l b)) λ_ o=>d [a,e,f,g,h] o
noncomputable def UaI (b:Aa)(c d i:Ab)(a:Aa):Out:=(Ag c).bind λj=>(Ac 0 j).bind λk=>bC (Ad false 1 k a) (λ_=>True) λl=>(Ag c).bind λm=>(Ac 1 m).bind λn=>bC (Ad false 1 n a) (λ_=>True) λo=>(Ci l (some i) (some o)).bind λp=>AW (UbE p a) λe q=>(At 0 e).bind λr=>Ao (A3 (some [(.bool false),(.sl [] .ti)]) q) λf s=>AW (AE (Ai 2 f r s)) λ_ g=>(At 1 e).bind λv=>(Ad true 2 f g).bind λt=>bK b (AE (Ai 2 d t g)) λ_ h=>(Ad true 2 d h).bind λu=>rKN b u h
noncomputable def UbG (e:Aa)(i:LK)(a h f g d:Ab)(j:Aa):Out:=bK e (Uaa a (.str [48,49,50,51,52,53,54,55,56,57]) j) λk b=>Ak k (AM (λj3=>(Ag a).bind λl=>(Ac 1 l).bind λm=>(Ad false 1 m b).bind λn=>(Af .none .gtr n d).bind λc=>gk c true (some a) λo=>gk c true (Ag o) λp=>gk c true (Ac 0 p) λq=>gk c true (Ad false 1 q b) λr=>gk c true (some d) λs=>gk c true (Cj r s) λt=>gk c true (Af .none .eql t (.int .u8 48)) λu=>(AB c u (.bool false)).bind λv=>Ak v (bK e (Ubn a (.str []) b) λan w=>j3 [a,h,f,g,d] w) ((Ag a).bind λx=>(Ac 1 x).bind λy=>(Ad false 1 y b).bind λz=>(Af .none .sub z d).bind λaa=>(Af .none .eql aa (.i6 400)).bind λab=>Ak ab (bK e (Uas a b) λap ac=>j3 [a,h,f,g,d] ac) (j3 [a,h,f,g,d] b))) (λvs H=>UbF e i (ag vs 0) (ag vs 1) (ag vs 2) (ag vs 3) (ag vs 4) H)) (AM (λj4=>(Ag a).bind λad=>(Ac 1 ad).bind λae=>(Ad false 1 ae b).bind λaj=>(Af .none .eql aj d).bind λak=>Ak ak ((Af .none .add (.str [49]) h).bind λal=>bK e (Ubn a al b) λaq am=>j4 [a,f,g] am) (j4 [a,f,g] b)) (λvs H=>UaI e (ag vs 0) (ag vs 1) (ag vs 2) H))
noncomputable def UbH (c:Aa)(a d e f:Ab)(b:Aa):Out:=(Ag a).bind λg=>(Ac 1 g).bind λh=>(Ad false 1 h b).bind λi=>Am (λj vs H=>UbG c j (ag vs 0) (ag vs 1) (ag vs 2) (ag vs 3) (ag vs 4) H) AP [a,d,e,f,i] b
noncomputable def Uae (a c d:Ab)(b:Aa):Out:=Ao (A3 (some [(.bool false),(.sl [] .ti)]) b) λe f=>(Ag a).bind λj=>(Ac 1 j).bind λk=>(Ad false 1 k f).bind λg=>AM (λj1=>gk c true (some a) λl=>gbK b c true f (Uaa l (.str [45]) f) λm h=>(AB c m (.bool false)).bind λn=>Ak n ((Ag a).bind λo=>(Ac 1 o).bind λp=>(Ad false 1 p h).bind λq=>(Af .none .add q (.i6 1)).bind λr=>(Ag a).bind λs=>(Ac 1 s).bind λt=>bK b (AE (Ai 1 t r h)) λ_ u=>bK b (Uaa a (.str [48]) u) λv i=>Ak v (bK b (Ubn a (.str []) i) λx w=>j1 [a,d,e,g] w) (j1 [a,d,e,g] i)) (j1 [a,d,e,g] h)) (λvs H=>UbH b (ag vs 0) (ag vs 1) (ag vs 2) (ag vs 3) H)
noncomputable def UbI (b:Ab)(a:Aa):Out:=(Ag b).bind λd=>(Ac 0 d).bind λe=>(Ac 0 e).bind λf=>(Ag b).bind λg=>(Ac 0 g).bind λh=>(Ac 1 h).bind λi=>bC (Ad false 1 f a) (λ_=>True) λj=>bC (Ad false 1 i a) (λ_=>True) λk=>(Ci j (some k) none).bind λl=>bK a (Ub7 l (.str [35,67,88,82,76,69,32]) a) λm c=>(unA .not m).bind λn=>Ak n ((Ag b).bind λo=>(Ac 0 o).bind λp=>bK a (Ub8 p c) λa9 q=>(Ag b).bind λr=>(Ac 0 r).bind λs=>bK a (Uar s (.str [120,32,61,32,48,44,32,121,32,61,32,48,44,32,114,117,108,101,32,61,32,97,10,33]) q) λba t=>rK a (.tup []) t) ((Ag b).bind λu=>(Ac 0 u).bind λv=>(Ac 1 v).bind λw=>(Ad false 1 w c).bind λx=>(Af .none .add x (.i6 7)).bind λy=>(Ag b).bind λz=>(Ac 0 z).bind λaa=>(Ac 1 aa).bind λab=>bK a (AE (Ai 1 ab y c)) λ_ ac=>(Ag b).bind λad=>(Ac 0 ad).bind λae=>bK a (Ue5 ae (.str [80,111,115,61]) (.str [48,44,48,10,120,32,61,32,48,44,32,121,32,61,32,48,44,32,114,117,108,101,32,61,32,97,10,33]) ac) λbb aj=>(Ag b).bind λak=>(Ac 0 ak).bind λal=>(Ag b).bind λam=>(Ac 5 am).bind λan=>bK a (Uae al (.bool true) (.str [44,48,10,120,32,61,32,48,44,32,121,32,61,32,48,44,32,114,117,108,101,32,61,32,97,10,33]) aj) λap aq=>(BK 2 2 an (.i6 0)).bind λar=>bK a (AE (Ai 2 ar ap aq)) λ_ au=>(Ag b).bind λav=>(Ac 0 av).bind λaw=>bK a (Ue5 aw (.str [44]) (.str [48,10,120,32,61,32,48,44,32,121,32,61,32,48,44,32,114,117,108,101,32,61,32,97,10,33]) au) λbc ax=>(Ag b).bind λay=>(Ac 0 ay).bind λaz=>(Ag b).bind λa0=>(Ac 5 a0).bind λa1=>bK a (Uae az (.bool true) (.str [10,120,32,61,32,48,44,32,121,32,61,32,48,44,32,114,117,108,101,32,61,32,97,10,33]) ax) λa2 a3=>(BK 2 2 a1 (.i6 1)).bind λa4=>bK a (AE (Ai 2 a4 a2 a3)) λ_ a5=>(Ag b).bind λa6=>(Ac 0 a6).bind λa7=>bK a (Uar a7 (.str [120,32,61,32,48,44,32,121,32,61,32,48,44,32,114,117,108,101,32,61,32,97,10,33]) a5) λbd a8=>rK a (.tup []) a8)
noncomputable def UbJ (b:Ab)(c:Aa):Out:=(Af .none .gtr b (.int .u8 32)).bind λa=>gk a true (some b) λd=>gk a true (Af .none .lss d (.int .u8 127)) λe=>(AB a e (.bool false)).bind λf=>rK c f c
noncomputable def Udy (c:Aa)(b d:Ab)(a:Aa):Out:=(Ag b).bind λe=>(Ac 0 e).bind λf=>bC (Ad false 1 f a) (λ_=>True) λg=>(Ag b).bind λh=>(Ac 1 h).bind λi=>bC (Ad false 1 i a) (λ_=>True) λj=>(Ci g (some d) (some j)).bind λk=>rK c k a
noncomputable def Udz (g:Aa)(i:LK)(a h d:Ab)(j:Aa):Out:=AW (Ue1 a j) λk e=>(unA .not k).bind λc=>gk c true (some a) λl=>gk c true (Ag l) λm=>gk c true (Ac 1 m) λn=>gkc c true (Ad false 1 n e) (λ_ _=>True) λo=>gk c true (some d) λp=>gk c true (Af .none .sub o p) λq=>gk c true (Af .none .lss q (.i6 40)) λr=>(AB c r (.bool false)).bind λb=>gk b true (some a) λs=>gk b true (Ag s) λt=>gk b true (Ac 0 t) λu=>gkc b true (Ad false 1 u e) (λ_ _=>True) λv=>gk b true (some a) λw=>gk b true (Ag w) λx=>gk b true (Ac 1 x) λy=>gkc b true (Ad false 1 y e) (λ_ _=>True) λz=>gk b true (Cj v z) λaa=>gbN b true e (UbJ aa e) λab f=>(AB b ab (.bool false)).bind λac=>Ak ac ((Ag a).bind λad=>(Ac 1 ad).bind λae=>(Ad false 1 ae f).bind λaj=>(Af .none .add aj (.i6 1)).bind λak=>(Ag a).bind λal=>(Ac 1 al).bind λam=>bK g (AE (Ai 1 am ak f)) λ_ an=>i [a,h,d] an) (AM (λj2=>(Ag a).bind λap=>(Ac 1 ap).bind λaq=>(Ad false 1 aq f).bind λar=>(Af .none .eql ar d).bind λau=>Ak au ((Af .none .add (.str [97]) h).bind λav=>bK g (Ubn a av f) λax aw=>j2 [a,d] aw) (j2 [a,d] f)) (λvs H=>Udy g (ag vs 0) (ag vs 1) H))
noncomputable def UaJ (b c:Ab)(a:Aa):Out:=(Ag b).bind λd=>(Ac 1 d).bind λe=>(Ad false 1 e a).bind λf=>Am (λg vs H=>Udz a g (ag vs 0) (ag vs 1) (ag vs 2) H) AP [b,c,f] a
noncomputable def Uat (a:Aa)(d:LK)(b:Ab)(e:Aa):Out:=(Ag b).bind λf=>(Ac 0 f).bind λg=>bK a (Uaa g (.str [35]) e) λh c=>Ak h (bK a (UbI b c) λam i=>d [b] i) ((Ag b).bind λj=>(Ac 0 j).bind λk=>bK a (Ue5 k (.str [120,32,61,32]) (.str [48,44,32,121,32,61,32,48,44,32,114,117,108,101,32,61,32,97,10,33]) c) λan l=>(Ag b).bind λm=>(Ac 0 m).bind λn=>bK a (Uae n (.bool false) (.str [44,32,121,32,61,32,48,44,32,114,117,108,101,32,61,32,97,10,33]) l) λap o=>(Ag b).bind λp=>(Ac 0 p).bind λq=>bK a (Ue5 q (.str [44,32,121,32,61,32]) (.str [48,44,32,114,117,108,101,32,61,32,97,10,33]) o) λaq r=>(Ag b).bind λs=>(Ac 0 s).bind λt=>bK a (Uae t (.bool false) (.str [44,32,114,117,108,101,32,61,32,97,10,33]) r) λar u=>(Ag b).bind λv=>(Ac 0 v).bind λw=>bK a (Ue5 w (.str [44,32,114,117,108,101,32,61,32]) (.str [97,10,33]) u) λau x=>(Ag b).bind λy=>(Ac 0 y).bind λz=>bK a (UaJ z (.str [10,33]) x) λaa ab=>(Ag b).bind λac=>(Ac 4 ac).bind λad=>bK a (AE (Ai 1 ad aa ab)) λ_ ae=>(Ag b).bind λaj=>(Ac 0 aj).bind λak=>bK a (Uar ak (.str [33]) ae) λav al=>rK a (.tup []) al)
noncomputable def UbK (b:Ab)(a:Aa):Out:=Am (λc vs H=>Uat a c (ag vs 0) H) AP [b] a
noncomputable def Ud0 (c:Aa)(d:LK)(a e f:Ab)(b:Aa):Out:=(Af .none .mul (.i6 10) e).bind λg=>(Ag a).bind λh=>(Ac 0 h).bind λi=>(Ac 0 i).bind λj=>bC (Ad false 1 j b) (λ_=>True) λk=>(Ag a).bind λl=>(Ac 0 l).bind λm=>(Ac 1 m).bind λn=>bC (Ad false 1 n b) (λ_=>True) λo=>(Cj k o).bind λp=>(Af .none .sub p (.int .u8 48)).bind λq=>bC (AC .i64 q) (λ_=>True) λr=>(Af .none .add g r).bind λs=>(Ag a).bind λt=>(Ac 0 t).bind λu=>(Ac 1 u).bind λv=>(Ad false 1 v b).bind λw=>(Af .none .add w (.i6 1)).bind λx=>(Ag a).bind λy=>(Ac 0 y).bind λz=>(Ac 1 z).bind λaa=>bK c (AE (Ai 1 aa x b)) λ_ ab=>d [a,s,f] ab
noncomputable def UbL (b:Aa)(h:LK)(a c e:Ab)(i:Aa):Out:=(Ag a).bind λj=>(Ac 0 j).bind λk=>bK b (Uaa k (.str [48,49,50,51,52,53,54,55,56,57]) i) λl g=>Ak l (AM (λj2=>(Af .none .eql c (.i6 0)).bind λd=>gk d true (some a) λm=>gk d true (Ag m) λn=>gk d true (Ac 0 n) λo=>gbK b d true g (Uaa o (.str [48]) g) λp f=>(AB d p (.bool false)).bind λq=>Ak q ((Ag a).bind λr=>(Ac 0 r).bind λs=>bK b (Ubn s (.str []) f) λad t=>j2 [a,c,e] t) ((Ag a).bind λu=>(Ac 0 u).bind λv=>(Ac 1 v).bind λw=>(Ad false 1 w f).bind λx=>(Af .none .sub x e).bind λy=>(Af .none .eql y (.i6 9)).bind λz=>Ak z ((Ag a).bind λaa=>(Ac 0 aa).bind λab=>bK b (Uas ab f) λae ac=>j2 [a,c,e] ac) (j2 [a,c,e] f))) (λvs H=>Ud0 b h (ag vs 0) (ag vs 1) (ag vs 2) H)) (rK b c g)
noncomputable def UbM (b:Ab)(a:Aa):Out:=(Ag b).bind λc=>(Ac 0 c).bind λd=>(Ac 1 d).bind λe=>bC (Ad false 1 e a) (λ_=>True) λf=>Am (λg vs H=>UbL a g (ag vs 0) (ag vs 1) (ag vs 2) H) AP [b,(.i6 0),f] a
noncomputable def Ud1 (c:Aa)(b d:Ab)(a:Aa):Out:=(Af .none .sub d (.int .u8 112)).bind λe=>bC (AC .i64 e) (λ_=>True) λf=>(Af .none .mul (.i6 24) f).bind λg=>(Ag b).bind λh=>(Ac 0 h).bind λi=>(Ac 0 i).bind λj=>bC (Ad false 1 j a) (λ_=>True) λk=>(Ag b).bind λl=>(Ac 0 l).bind λm=>(Ac 1 m).bind λn=>bC (Ad false 1 n a) (λ_=>True) λo=>(Cj k o).bind λp=>(Af .none .sub p (.int .u8 65)).bind λq=>bC (AC .i64 q) (λ_=>True) λr=>(Af .none .add g r).bind λs=>(Af .none .add s (.i6 24)).bind λt=>(Af .none .add t (.i6 1)).bind λu=>rK c u a
noncomputable def Uea (b:Aa)(a:Ab)(e:Aa):Out:=(Ag a).bind λi=>(Ac 0 i).bind λj=>(Ac 0 j).bind λk=>bC (Ad false 1 k e) (λ_=>True) λl=>(Ag a).bind λm=>(Ac 0 m).bind λn=>(Ac 1 n).bind λo=>bC (Ad false 1 o e) (λ_=>True) λp=>(Cj l p).bind λf=>(Ag a).bind λq=>(Ac 0 q).bind λr=>(Ac 1 r).bind λs=>(Ad false 1 s e).bind λt=>(Af .none .add t (.i6 1)).bind λu=>(Ag a).bind λv=>(Ac 0 v).bind λw=>(Ac 1 w).bind λx=>bK b (AE (Ai 1 x u e)) λ_ y=>AM (λj2=>(Ag a).bind λz=>(Ac 0 z).bind λaa=>bK b (Uaa aa (.str [65,66,67,68,69,70,71,72,73,74,75,76,77,78,79,80,81,82,83,84,85,86,87,88]) y) λab g=>(unA .not ab).bind λc=>gk c false (some f) λac=>gk c false (Af .none .eql ac (.int .u8 121)) λad=>gk c false (some ad) λd=>gk d true (some a) λae=>gk d true (Ag ae) λaj=>gk d true (Ac 0 aj) λak=>gbK b d true g (Uaa ak (.str [80,81,82,83,84,85,86,87,88]) g) λal h=>gk c false (AB d al (.bool false)) λam=>(AB c (.bool true) am).bind λan=>Ak an ((Ag a).bind λap=>(Ac 0 ap).bind λaq=>bK b (Ubn aq (.str [65,33]) h) λau ar=>j2 [a,f] ar) (j2 [a,f] h)) (λvs H=>Ud1 b (ag vs 0) (ag vs 1) H)
noncomputable def UaK (b:Ab)(a:Aa):Out:=AM (λj1=>(Ag b).bind λg=>(Ac 0 g).bind λh=>bK a (Uaa h (.str [46,98]) a) λi d=>Ak i (rK a (.i6 0) d) ((Ag b).bind λj=>(Ac 0 j).bind λk=>bK a (Uaa k (.str [111]) d) λl e=>Ak l (rK a (.i6 1) e) ((Ag b).bind λm=>(Ac 0 m).bind λn=>bK a (Uaa n (.str [65,66,67,68,69,70,71,72,73,74,75,76,77,78,79,80,81,82,83,84,85,86,87,88]) e) λo c=>Ak o ((Ag b).bind λp=>(Ac 0 p).bind λq=>(Ac 0 q).bind λr=>bC (Ad false 1 r c) (λ_=>True) λs=>(Ag b).bind λt=>(Ac 0 t).bind λu=>(Ac 1 u).bind λv=>bC (Ad false 1 v c) (λ_=>True) λw=>(Cj s w).bind λx=>(Af .none .sub x (.int .u8 65)).bind λy=>bC (AC .i64 y) (λ_=>True) λz=>(Af .none .add z (.i6 1)).bind λaa=>rK a aa c) ((Ag b).bind λab=>(Ac 0 ab).bind λac=>bK a (Uaa ac (.str [112,113,114,115,116,117,118,119,120,121]) c) λad f=>(unA .not ad).bind λae=>Ak ae ((Ag b).bind λaj=>(Ac 0 aj).bind λak=>bK a (Ubn ak (.str [98,33]) f) λam al=>j1 [b] al) (j1 [b] f))))) (λvs H=>Uea a (ag vs 0) H)
noncomputable def UaL (b:Ab)(a:Aa):Out:=(QV .eql b).bind λc=>Ak c (rK a (.sl [] .ti) a) ((AN 1 []).bind λd=>bK a (Cy (FK Cd 1 4 d b a)) λe f=>rK a e f)
noncomputable def UbN (b:Ab)(a:Aa):Out:=bP a (UaL b a) λc d=>bP a (Uab c d) λe f=>rPN a e f
noncomputable def UdB (a c:Ab)(b:Aa):Out:=Ao (A3 (some [(.bool false),(.sl [] .ti)]) b) λd f=>gk a true (some c) λg=>gk a true (A5 g) λh=>gk a true (Af .none .gtr h (.i6 0)) λi=>(AB a i (.bool false)).bind λj=>(AD (some [(.bool false),(.sl [] .ti)]) [(0,1,j),(1,1,c)]).bind λk=>bP b (AE (Ai 2 d k f)) λ_ e=>(Ad true 2 d e).bind λl=>rPN b l e
noncomputable def Ud2 (a:Aa)(e b c:Ab)(f:Aa):Out:=(Af .none .lss e (.i6 0)).bind λg=>(AC .u32 c).bind λh=>(Af .none .shr c (.int .u64 32)).bind λi=>(AC .u32 i).bind λj=>(AN 1 [h,j]).bind λk=>bP a (UbN k f) λl m=>bP a (UdB g l m) λn o=>bP a (AE (Ai 2 b n o)) λ_ d=>(Ad true 2 b d).bind λp=>rPN a p d
noncomputable def Uaf (a:Ab)(b:Aa):Out:=Ao (A3 (some [(.bool false),(.sl [] .ti)]) b) λc d=>(AC .u64 a).bind λe=>AM (λj1=>(Af .none .lss a (.i6 0)).bind λf=>Ak f ((unA .neg e).bind λg=>j1 [a,c,g] d) (j1 [a,c,e] d)) (λvs H=>Ud2 b (ag vs 0) (ag vs 1) (ag vs 2) H)
noncomputable def UbP (c d e:Ab)(a:Aa):Out:=(AC .u64 c).bind λf=>(AC .u64 d).bind λg=>(Af .none .add f g).bind λh=>(AC .u64 e).bind λi=>(Af .none .add h i).bind λb=>(AC .u32 b).bind λj=>(Af .none .shr b (.int .u64 32)).bind λk=>(AC .u32 k).bind λl=>rK a (.tup [j,l]) a
noncomputable def Ueb (a:Aa)(d:LK)(e f b g h i j k l m:Ab)(n:Aa):Out:=bP a (UbP i j g n) λc o=>(At 0 c).bind λp=>(At 1 c).bind λq=>(Aw 1 b h).bind λr=>bP a (AE (Ai 1 r p o)) λ_ s=>(Af .none .add m (.i6 1)).bind λt=>d [e,f,b,q,k,l,t] s
noncomputable def UbQ (c:Aa)(k:LK)(f d e g h i a:Ab)(b:Aa):Out:=(Af .none .lss a i).bind λl=>Ak l ((Aw 1 h a).bind λm=>(Ad false 1 m b).bind λj=>AM (λj3=>(A5 d).bind λn=>(Af .none .lss a n).bind λo=>Ak o ((Aw 1 d a).bind λp=>(Ad false 1 p b).bind λq=>j3 [f,d,e,g,a,j,q,h,i,a] b) (j3 [f,d,e,g,a,j,(.int .u32 0),h,i,a] b)) (λvs H=>Ueb c k (ag vs 0) (ag vs 1) (ag vs 2) (ag vs 3) (ag vs 4) (ag vs 5) (ag vs 6) (ag vs 7) (ag vs 8) (ag vs 9) H)) ((A5 f).bind λr=>(Aw 1 e r).bind λs=>bP c (AE (Ai 1 s g b)) λ_ t=>bP c (Uab e t) λu v=>rPN c u v)
noncomputable def Ud3 (c:Aa)(a d:Ab)(e:Aa):Out:=(A5 a).bind λf=>(Af .none .add f (.i6 1)).bind λb=>Ao (F4 1 4 (some [(.int .u32 0)]) b b e) λg h=>(A5 a).bind λi=>Am (λj vs H=>UbQ c j (ag vs 0) (ag vs 1) (ag vs 2) (ag vs 3) (ag vs 4) (ag vs 5) (ag vs 6) H) AP [a,d,g,(.int .u32 0),a,i,(.i6 0)] h
noncomputable def UbR (a b:Ab)(c:Aa):Out:=AM (λj1=>(A5 a).bind λd=>(A5 b).bind λe=>(Af .none .lss d e).bind λf=>Ak f (j1 [b,a] c) (j1 [a,b] c)) (λvs H=>Ud3 c (ag vs 0) (ag vs 1) H)
noncomputable def UaM (a b e:Ab)(c:Aa):Out:=(Af .none .sub a b).bind λf=>(Af .none .sub f e).bind λd=>(unA .xor a).bind λg=>(Af .none .and g b).bind λh=>(Af .none .xor a b).bind λi=>(unA .xor i).bind λj=>(Af .none .and j d).bind λk=>(Af .none .or h k).bind λl=>(Af .none .shr l (.int .u64 31)).bind λm=>rK c (.tup [d,m]) c
noncomputable def Uec (b:Aa)(f:LK)(g a h c i j k:Ab)(d:Aa):Out:=(Aw 1 a c).bind λl=>(Ad false 1 l d).bind λm=>bP b (UaM m i h d) λe n=>(At 0 e).bind λo=>(At 1 e).bind λp=>(Aw 1 a c).bind λq=>bP b (AE (Ai 1 q o n)) λ_ r=>(Af .none .add k (.i6 1)).bind λs=>f [g,a,p,j,s] r
noncomputable def UaN (d:Aa)(h:LK)(b e g f a:Ab)(c:Aa):Out:=(Af .none .lss a f).bind λi=>Ak i (AM (λj2=>(A5 b).bind λj=>(Af .none .lss a j).bind λk=>Ak k ((Aw 1 b a).bind λl=>(Ad false 1 l c).bind λm=>j2 [b,e,g,a,m,f,a] c) (j2 [b,e,g,a,(.int .u32 0),f,a] c)) (λvs H=>Uec d h (ag vs 0) (ag vs 1) (ag vs 2) (ag vs 3) (ag vs 4) (ag vs 5) (ag vs 6) H)) (bP d (Uab e c) λn o=>rPN d (.tup [n,(.bool true)]) o)
noncomputable def UbS (b c:Ab)(a:Aa):Out:=bP a (UeC b c a) λf d=>(Af .none .lss f (.i6 0)).bind λg=>Ak g (rPN a (.tup [(.sl [] .ti),(.bool false)]) d) (bP a (UaL b d) λe h=>(A5 e).bind λi=>Am (λj vs H=>UaN a j (ag vs 0) (ag vs 1) (ag vs 2) (ag vs 3) (ag vs 4) H) AP [c,e,(.int .u32 0),i,(.i6 0)] h)
noncomputable def Ud4 (a:Aa)(c h d:Ab)(b:Aa):Out:=(Ac 1 c).bind λi=>(Ad false 1 i b).bind λj=>(Ac 1 h).bind λk=>(Ad false 1 k b).bind λl=>bP a (UbS j l b) λe f=>(At 0 e).bind λm=>(At 1 e).bind λs=>(Ac 0 c).bind λn=>(Ad false 1 n f).bind λo=>bP a (UdB o m f) λp q=>bP a (AE (Ai 2 d p q)) λ_ g=>(Ad true 2 d g).bind λr=>rPN a r g
noncomputable def Uex (k l:Ab)(c:Aa):Out:=Ao (B3 true 2 k c) λb m=>Ao (B3 true 2 l m) λd n=>Ao (A3 (some [(.bool false),(.sl [] .ti)]) n) λe a=>(Ac 0 b).bind λo=>(Ad false 1 o a).bind λp=>(Ac 0 d).bind λq=>(Ad false 1 q a).bind λr=>(Af .bool .eql p r).bind λs=>Ak s ((Ac 1 b).bind λt=>bC (Ad false 1 t a) (λ_=>True) λu=>(Ac 1 d).bind λv=>bC (Ad false 1 v a) (λ_=>True) λw=>AW (UbR u w a) λx h=>(Ac 0 b).bind λi=>bC (Ad false 1 i h) (λg=>Ad false 1 i a=some g/\True) λg=>AW (UdB g x h) λy z=>bP c (AE (Ai 2 e y z)) λ_ j=>(Ad true 2 e j).bind λaa=>rPN c aa j) (AM (λj1=>(Ac 1 b).bind λab=>(Ad false 1 ab a).bind λac=>(Ac 1 d).bind λad=>(Ad false 1 ad a).bind λae=>bP c (UeC ac ae a) λaj f=>(Af .none .lss aj (.i6 0)).bind λak=>Ak ak ((Ad true 2 d f).bind λal=>(Ad true 2 b f).bind λam=>bP c (AE (Ai 2 b al f)) λ_ an=>bP c (AE (Ai 2 d am an)) λ_ ap=>j1 [b,d,e] ap) (j1 [b,d,e] f)) (λvs H=>Ud4 c (ag vs 0) (ag vs 1) (ag vs 2) H))
noncomputable def Uau (i:Aa)(q:LK)(a c d m n:Ab)(b:Aa):Out:=(Af .none .lss n m).bind λr=>Ak r ((Ag a).bind λs=>(Ac 9 s).bind λt=>bC (Ad false 1 t b) (λ_=>True) λu=>AW (Uaf u b) λv e=>(Ag a).bind λw=>(Ac 5 w).bind λx=>(BK 2 2 x (.i6 0)).bind λo=>bC (Ad true 2 o e) (λj=>Ad true 2 o b=some j/\True) λj=>AW (Uex j v e) λy k=>(Ag a).bind λz=>(Ac 11 z).bind λl=>bC (Ad false 1 l k) (λf=>Ad false 1 l e=some f/\Ad false 1 l b=some f/\True) λf=>bC (Ad true 2 d k) (λg=>Ad true 2 d e=some g/\Ad true 2 d b=some g/\True) λg=>bC (AC .u8 c) (λh=>AC .u8 c=some h/\AC .u8 c=some h/\True) λh=>(AD (some [(.bool false),(.sl [] .ti),(.bool false),(.sl [] .ti),(.int .u8 0)]) [(0,2,y),(2,2,g),(4,1,h)]).bind λaa=>(AN 5 [aa]).bind λab=>AW (Cy (Bf B9 5 72 f ab k)) λac ad=>(Ag a).bind λae=>(Ac 11 ae).bind λaj=>bK i (AE (Ai 1 aj ac ad)) λ_ p=>(Ag a).bind λak=>(Ac 9 ak).bind λal=>(Ad false 1 al p).bind λam=>(Af .none .add am (.i6 1)).bind λan=>(Ag a).bind λap=>(Ac 9 ap).bind λaq=>bK i (AE (Ai 1 aq an p)) λ_ ar=>(Af .none .add n (.i6 1)).bind λau=>q [a,c,d,m,au] ar) (rK i (.tup []) b)
noncomputable def Ud5 (d:Aa)(a h i:Ab)(b:Aa):Out:=(Ag a).bind λj=>(Ac 10 j).bind λk=>bC (Ad false 1 k b) (λ_=>True) λl=>AW (Uaf l b) λm e=>(Ag a).bind λn=>(Ac 5 n).bind λo=>(BK 2 2 o (.i6 1)).bind λf=>bC (Ad true 2 f e) (λc=>Ad true 2 f b=some c/\True) λc=>AW (Uex c m e) λp q=>Ao (A3 (some [(.bool false),(.sl [] .ti)]) q) λg r=>bK d (AE (Ai 2 g p r)) λ_ s=>Am (λt vs H=>Uau d t (ag vs 0) (ag vs 1) (ag vs 2) (ag vs 3) (ag vs 4) H) AP [a,i,g,h,(.i6 0)] s
noncomputable def UaO (c d e:Ab)(b:Aa):Out:=(Af .none .eql e (.i6 0)).bind λf=>Ak f ((Ag c).bind λg=>(Ac 9 g).bind λh=>(Ad false 1 h b).bind λi=>(Af .none .add i d).bind λj=>(Ag c).bind λk=>(Ac 9 k).bind λl=>bK b (AE (Ai 1 l j b)) λ_ m=>rK b (.tup []) m) (AM (λj1=>(Ag c).bind λn=>(Ac 10 n).bind λo=>bC (Ad false 1 o b) (λ_=>True) λp=>(Ag c).bind λq=>(Ac 2 q).bind λr=>(Ac 0 r).bind λs=>bC (Ad false 1 s b) (λ_=>True) λt=>(Af .none .geq p t).bind λa=>gk a false (some c) λu=>gk a false (Ag u) λv=>gk a false (Ac 9 v) λw=>gkc a false (Ad false 1 w b) (λ_ _=>True) λx=>gk a false (some d) λy=>gk a false (Af .none .add x y) λz=>gk a false (some c) λaa=>gk a false (Ag aa) λab=>gk a false (Ac 2 ab) λac=>gk a false (Ac 0 ac) λad=>gkc a false (Ad false 1 ad b) (λ_ _=>True) λae=>gk a false (Af .none .gtr z ae) λaj=>(AB a (.bool true) aj).bind λak=>Ak ak ((Ag c).bind λal=>(Ac 0 al).bind λam=>bK b (Uas am b) λap an=>j1 [c,d,e] an) (j1 [c,d,e] b)) (λvs H=>Ud5 b (ag vs 0) (ag vs 1) (ag vs 2) H))
noncomputable def UbT (a:Aa)(b:Ab)(c:Aa):Out:=(Ag b).bind λd=>(Ac 0 d).bind λe=>(Ac 1 e).bind λf=>(Ad false 1 f c).bind λg=>(Af .none .add g (.i6 1)).bind λh=>(Ag b).bind λi=>(Ac 0 i).bind λj=>(Ac 1 j).bind λk=>bK a (AE (Ai 1 k h c)) λ_ l=>rK a (.bool false) l
noncomputable def UbU (a:Ab)(b:Aa):Out:=bK b (UbM a b) λe h=>(GG IS e [(.i6 1)]).bind λf=>AM (λj1=>(Ag a).bind λi=>(Ac 0 i).bind λj=>bK b (Uaa j (.str [36]) h) λk c=>Ak k ((Ag a).bind λl=>(Ac 10 l).bind λm=>(Ad false 1 m c).bind λn=>(Af .none .add n f).bind λo=>(Ag a).bind λp=>(Ac 10 p).bind λq=>bK b (AE (Ai 1 q o c)) λ_ r=>(Ag a).bind λs=>(Ac 9 s).bind λt=>bK b (AE (Ai 1 t (.i6 0) r)) λ_ u=>j1 [a] u) ((Ag a).bind λv=>(Ac 0 v).bind λw=>bK b (Uaa w (.str [33]) c) λd g=>gk d true (some e) λx=>gk d true (Af .none .eql x (.i6 0)) λy=>(AB d y (.bool false)).bind λz=>Ak z (rK b (.bool true) g) (bK b (UaK a g) λaa ab=>bK b (UaO a f aa ab) λad ac=>j1 [a] ac))) (λvs H=>UbT b (ag vs 0) H)
noncomputable def UbV (b:Aa)(c:LK)(a:Ab)(h:Aa):Out:=(Ag a).bind λi=>(Ac 0 i).bind λj=>bK b (Ue1 j h) λk e=>Ak k ((Ag a).bind λl=>(Ac 0 l).bind λm=>bK b (Ubn m (.str [33]) e) λal n=>c [a] n) ((Ag a).bind λo=>(Ac 0 o).bind λp=>bK b (Uaa p (.str [32]) e) λq d=>Ak q ((Ag a).bind λr=>(Ac 0 r).bind λs=>(Ac 1 s).bind λt=>(Ad false 1 t d).bind λu=>(Af .none .add u (.i6 1)).bind λv=>(Ag a).bind λw=>(Ac 0 w).bind λx=>(Ac 1 x).bind λy=>bK b (AE (Ai 1 y v d)) λ_ z=>c [a] z) ((Ag a).bind λaa=>(Ac 0 aa).bind λab=>bK b (Uaa ab (.str [13,10]) d) λac f=>Ak ac ((Ag a).bind λad=>(Ac 0 ad).bind λae=>bK b (Uaq ae (.str [33]) f) λam aj=>c [a] aj) (bK b (UbU a f) λak g=>Ak ak (rK b (.tup []) g) (c [a] g))))
noncomputable def Uav (b:Ab)(a:Aa):Out:=bK a (UbK b a) λe c=>Am (λd vs H=>UbV a d (ag vs 0) H) AP [b] c
noncomputable def UaP:Ab->Aa->Out:=OR (ent 69 (ap1 Uav) noO)
noncomputable def UaQ (c:Ab)(a:Aa):Out:=Ao (B3 true 5 c a) λd b=>(Ac 4 d).bind λe=>(Ad false 1 e b).bind λf=>(Af .none .eql f (.int .u8 0)).bind λg=>rP a g b
noncomputable def UaR (g:Ab)(c:Aa):Out:=Ao (B3 true 2 g c) λd f=>(Ac 1 d).bind λh=>(Ad false 1 h f).bind λi=>bP c (Uew i f) λa e=>gk a true (Ac 0 d) λj=>gk a true (Ad false 1 j e) λk=>gk a true (unA .not k) λl=>gk a true (some l) λb=>gk b false (Ac 1 d) λm=>gk b false (Ad false 1 m e) λn=>gk b false (A5 n) λo=>gk b false (Af .none .gtr o (.i6 0)) λp=>gk a true (AB b (.bool true) p) λq=>(AB a q (.bool false)).bind λr=>rP c r e
noncomputable def UbW (f:Ab)(b:Aa):Out:=Ao (B3 true 5 f b) λd e=>(Ac 0 d).bind λg=>(Ad true 2 g e).bind λh=>bP b (UaR h e) λi c=>(unA .not i).bind λa=>gk a false (Ac 2 d) λj=>gk a false (Ad true 2 j c) λk=>gbP b a false c (UaR k c) λl m=>gk a false (unA .not l) λn=>(AB a (.bool true) n).bind λo=>rP b o m
noncomputable def AF:Orc:=(ent 148 (ap1 UaQ) (ent 84 (ap1 UbW) noO))
noncomputable def Ue6 (b:Aa)(h:LK)(d e f a:Ab)(c:Aa):Out:=(Af .none .lss a f).bind λi=>Ak i ((Aw 5 d a).bind λj=>(Ad true 5 j c).bind λk=>bK b (DI AF e [k] c) λl g=>Ak l (rK b a g) ((Af .none .add a (.i6 1)).bind λm=>h [d,e,f,m] g)) (rK b (.i6 (-1)) c)
noncomputable def Uey (a c:Ab)(b:Aa):Out:=(A5 a).bind λd=>Am (λe vs H=>Ue6 b e (ag vs 0) (ag vs 1) (ag vs 2) (ag vs 3) H) AP [a,c,d,(.i6 0)] b
noncomputable def UbX (b c:Ab)(a:Aa):Out:=bK a (Uey b c a) λd e=>(Af .none .geq d (.i6 0)).bind λf=>rK a f e
noncomputable def UbY (b:Ab)(a:Aa):Out:=(QV .eql b).bind λc=>Ak c (rK a (.sl [] .ti) a) ((AN 5 []).bind λd=>bK a (Cy (FK B9 5 72 d b a)) λe f=>rK a e f)
noncomputable def UaS (e:Aa)(f:LK)(a b c:Ab)(d:Aa):Out:=(Af .none .lss b c).bind λg=>Ak g ((Aw 5 a c).bind λh=>bC (Ad true 5 h d) (λ_=>True) λi=>(Aw 5 a b).bind λj=>bC (Ad true 5 j d) (λ_=>True) λk=>(Aw 5 a b).bind λl=>AW (AE (Ai 5 l i d)) λ_ m=>(Aw 5 a c).bind λn=>bK e (AE (Ai 5 n k m)) λ_ o=>(Af .none .add b (.i6 1)).bind λp=>(Af .none .sub c (.i6 1)).bind λq=>f [a,p,q] o) (rK e (.tup []) d)
noncomputable def Uaw (a:Ab)(b:Aa):Out:=(A5 a).bind λc=>(Af .none .sub c (.i6 1)).bind λd=>Am (λe vs H=>UaS b e (ag vs 0) (ag vs 1) (ag vs 2) H) AP [a,(.i6 0),d] b
noncomputable def UaT (f g:Ab)(b:Aa):Out:=Ao (B3 true 2 f b) λc h=>Ao (B3 true 2 g h) λd a=>(Ac 0 c).bind λi=>(Ad false 1 i a).bind λe=>gk e true (Ac 0 d) λj=>gk e true (Ad false 1 j a) λk=>(AB e k (.bool false)).bind λl=>Ak l ((Ac 1 d).bind λm=>(Ad false 1 m a).bind λn=>(Ac 1 c).bind λo=>(Ad false 1 o a).bind λp=>bP b (UeC n p a) λq r=>rP b q r) ((Ac 0 c).bind λs=>(Ad false 1 s a).bind λt=>Ak t (rP b (.i6 (-1)) a) ((Ac 0 d).bind λu=>(Ad false 1 u a).bind λv=>Ak v (rP b (.i6 1) a) ((Ac 1 c).bind λw=>(Ad false 1 w a).bind λx=>(Ac 1 d).bind λy=>(Ad false 1 y a).bind λz=>bP b (UeC x z a) λaa ab=>rP b aa ab)))
noncomputable def Ud6 (d:Aa)(h:LK)(b e f c:Ab)(a:Aa):Out:=(Af .none .lss c f).bind λi=>Ak i ((Aw 1 e c).bind λj=>(Ad false 1 j a).bind λg=>(Af .none .neq g b).bind λk=>Ak k (rK d g a) ((Af .none .add c (.i6 1)).bind λl=>h [b,e,f,l] a)) (rK d b a)
noncomputable def UbZ (a:Ab)(b:Aa):Out:=(A5 a).bind λc=>Am (λd vs H=>Ud6 b d (ag vs 0) (ag vs 1) (ag vs 2) (ag vs 3) H) AP [(.i6 0),a,c,(.i6 0)] b
noncomputable def Uax (j k:Ab)(e:Aa):Out:=Ao (B3 true 5 j e) λf l=>Ao (B3 true 5 k l) λg a=>(Ac 2 f).bind λm=>bC (Ad true 2 m a) (λ_=>True) λn=>(Ac 2 g).bind λo=>bC (Ad true 2 o a) (λ_=>True) λp=>AW (UaT n p a) λq b=>(Ac 0 f).bind λh=>bC (Ad true 2 h b) (λc=>Ad true 2 h a=some c/\True) λc=>(Ac 0 g).bind λi=>bC (Ad true 2 i b) (λd=>Ad true 2 i a=some d/\True) λd=>AW (UaT c d b) λr s=>(AN 1 [q,r]).bind λt=>AW (UbZ t s) λu v=>rP e u v
noncomputable def A7:Orc:=(ent 144 (ap2 Uax) noO)
noncomputable def Uca (j:Aa)(k:LK)(l:LK)(b f h g i c:Ab)(d:Aa):Out:=(Af .none .gtr c f).bind λa=>gk a true (some g) λm=>gk a true (some b) λn=>gk a true (some c) λo=>gk a true (Aw 5 n o) λp=>gkc a true (Ad true 5 p d) (λ_ _=>True) λq=>gk a true (some b) λr=>gk a true (some c) λs=>gk a true (Af .none .sub s (.i6 1)) λt=>gk a true (Aw 5 r t) λu=>gkc a true (Ad true 5 u d) (λ_ _=>True) λv=>gbN a true d (DI A7 m [q,v] d) λw e=>gk a true (Af .none .lss w (.i6 0)) λx=>(AB a x (.bool false)).bind λy=>Ak y ((Af .none .sub c (.i6 1)).bind λz=>(Aw 5 b z).bind λaa=>bC (Ad true 5 aa e) (λ_=>True) λab=>(Aw 5 b c).bind λac=>bC (Ad true 5 ac e) (λ_=>True) λad=>(Aw 5 b c).bind λae=>AW (AE (Ai 5 ae ab e)) λ_ aj=>(Af .none .sub c (.i6 1)).bind λak=>(Aw 5 b ak).bind λal=>bK j (AE (Ai 5 al ad aj)) λ_ am=>(Af .none .sub c (.i6 1)).bind λan=>l [b,f,h,g,i,an] am) ((Af .none .add i (.i6 1)).bind λap=>k [b,f,h,g,ap] e)
noncomputable def Ucb (b:Aa)(e:LK)(f g c h a:Ab)(d:Aa):Out:=(Af .none .lss a c).bind λi=>Ak i (Am (λj vs H=>Uca b e j (ag vs 0) (ag vs 1) (ag vs 2) (ag vs 3) (ag vs 4) (ag vs 5) H) AP [f,g,c,h,a,a] d) (rK b (.tup []) d)
noncomputable def Ue7 (c a d e:Ab)(b:Aa):Out:=(Af .none .add a (.i6 1)).bind λf=>Am (λg vs H=>Ucb b g (ag vs 0) (ag vs 1) (ag vs 2) (ag vs 3) (ag vs 4) H) AP [c,a,d,e,f] b
noncomputable def Ucc (f:Aa)(h:LK)(b d e g a:Ab)(c:Aa):Out:=(Af .none .lss a g).bind λi=>Ak i ((Af .none .add d a).bind λj=>(Af .none .add e a).bind λk=>(Aw 5 b k).bind λl=>bC (Ad true 5 l c) (λ_=>True) λm=>(Af .none .add d a).bind λn=>(Aw 5 b n).bind λo=>bC (Ad true 5 o c) (λ_=>True) λp=>(Aw 5 b j).bind λq=>AW (AE (Ai 5 q m c)) λ_ r=>(Af .none .add e a).bind λs=>(Aw 5 b s).bind λt=>bK f (AE (Ai 5 t p r)) λ_ u=>(Af .none .add a (.i6 1)).bind λv=>h [b,d,e,g,v] u) (rK f (.tup []) c)
noncomputable def Uay (b c d e g:Ab)(a:Aa):Out:=Am (λf vs H=>Ucc a f (ag vs 0) (ag vs 1) (ag vs 2) (ag vs 3) (ag vs 4) H) AP [b,c,d,e,(.i6 0)] a
noncomputable def Ud7 (f:Aa)(h:LK)(d b e a c:Ab)(g:Aa):Out:=(Af .none .neq a c).bind λi=>Ak i ((Af .none .gtr a c).bind λj=>Ak j ((Af .none .sub b a).bind λk=>bK f (Uay d k b c e g) λu l=>(Af .none .sub a c).bind λm=>h [d,b,e,m,c] l) ((Af .none .sub b a).bind λn=>(Af .none .add b c).bind λo=>(Af .none .sub o a).bind λp=>bK f (Uay d n p a e g) λv q=>(Af .none .sub c a).bind λr=>h [d,b,e,a,r] q)) ((Af .none .sub b a).bind λs=>bK f (Uay d s b a e g) λw t=>rK f (.tup []) t)
noncomputable def UaU (c d a e f:Ab)(b:Aa):Out:=(Af .none .sub a d).bind λg=>(Af .none .sub e a).bind λh=>Am (λi vs H=>Ud7 b i (ag vs 0) (ag vs 1) (ag vs 2) (ag vs 3) (ag vs 4) H) AP [c,a,f,g,h] b
noncomputable def Be (self:Ab->Ab->Ab->Ab->Ab->Aa->Out):Orc:=ent 228 (ap5 self) (ent 144 (ap2 Uax) (ent 236 (ap5 UaU) noO))
noncomputable def Uaz (d:Aa)(f:LK)(b e a:Ab)(c:Aa):Out:=(Af .none .sub e (.i6 1)).bind λg=>(Af .none .lss a g).bind λh=>Ak h ((Af .none .add a (.i6 1)).bind λi=>(Aw 5 b i).bind λj=>bC (Ad true 5 j c) (λ_=>True) λk=>(Aw 5 b a).bind λl=>bC (Ad true 5 l c) (λ_=>True) λm=>(Aw 5 b a).bind λn=>AW (AE (Ai 5 n k c)) λ_ o=>(Af .none .add a (.i6 1)).bind λp=>(Aw 5 b p).bind λq=>bK d (AE (Ai 5 q m o)) λ_ r=>(Af .none .add a (.i6 1)).bind λs=>f [b,e,s] r) (rK d (.tup []) c)
noncomputable def Ua0 (j:Aa)(self:Ab->Ab->Ab->Ab->Ab->Aa->Out)(h:LK)(a b e c f:Ab)(d:Aa):Out:=(Af .none .lss c f).bind λk=>Ak k ((Af .none .add c f).bind λl=>(AC .u64 l).bind λm=>(Af .none .shr m (.int .u64 1)).bind λn=>(AC .i64 n).bind λg=>(Aw 5 a g).bind λo=>bC (Ad true 5 o d) (λ_=>True) λp=>(Aw 5 a b).bind λq=>bC (Ad true 5 q d) (λ_=>True) λr=>AW (DI (Be self) e [p,r] d) λs i=>(Af .none .lss s (.i6 0)).bind λt=>Ak t ((Af .none .add g (.i6 1)).bind λu=>h [a,b,e,u,f] i) (h [a,b,e,c,g] i)) (Am (λv vs H=>Uaz j v (ag vs 0) (ag vs 1) (ag vs 2) H) AP [a,c,b] d)
noncomputable def Ua1 (d:Aa)(f:LK)(b e a:Ab)(c:Aa):Out:=(Af .none .gtr a e).bind λg=>Ak g ((Af .none .sub a (.i6 1)).bind λh=>(Aw 5 b h).bind λi=>bC (Ad true 5 i c) (λ_=>True) λj=>(Aw 5 b a).bind λk=>bC (Ad true 5 k c) (λ_=>True) λl=>(Aw 5 b a).bind λm=>AW (AE (Ai 5 m j c)) λ_ n=>(Af .none .sub a (.i6 1)).bind λo=>(Aw 5 b o).bind λp=>bK d (AE (Ai 5 p l n)) λ_ q=>(Af .none .sub a (.i6 1)).bind λr=>f [b,e,r] q) (rK d (.tup []) c)
noncomputable def Ua2 (j:Aa)(self:Ab->Ab->Ab->Ab->Ab->Aa->Out)(h:LK)(a b e c f:Ab)(d:Aa):Out:=(Af .none .lss c f).bind λk=>Ak k ((Af .none .add c f).bind λl=>(AC .u64 l).bind λm=>(Af .none .shr m (.int .u64 1)).bind λn=>(AC .i64 n).bind λg=>(Aw 5 a b).bind λo=>bC (Ad true 5 o d) (λ_=>True) λp=>(Aw 5 a g).bind λq=>bC (Ad true 5 q d) (λ_=>True) λr=>AW (DI (Be self) e [p,r] d) λs i=>(Af .none .lss s (.i6 0)).bind λt=>(unA .not t).bind λu=>Ak u ((Af .none .add g (.i6 1)).bind λv=>h [a,b,e,v,f] i) (h [a,b,e,c,g] i)) (Am (λw vs H=>Ua1 j w (ag vs 0) (ag vs 1) (ag vs 2) H) AP [a,c,b] d)
noncomputable def Ucd (b:Aa)(self:Ab->Ab->Ab->Ab->Ab->Aa->Out)(g d h e c:Ab)(f:Aa):Out:=(Af .none .lss e c).bind λa=>gk a true (some c) λi=>gk a true (some d) λj=>gk a true (Af .none .lss i j) λk=>(AB a k (.bool false)).bind λl=>Ak l (bK b (self g e c d h f) λn m=>rK b (.tup []) m) (rK b (.tup []) f)
noncomputable def Uce (f:Aa)(self:Ab->Ab->Ab->Ab->Ab->Aa->Out)(c g h d a e i:Ab)(j:Aa):Out:=AM (λj8=>(Af .none .lss g e).bind λb=>gk b true (some e) λk=>gk b true (some a) λl=>gk b true (Af .none .lss k l) λm=>(AB b m (.bool false)).bind λn=>Ak n (bK f (self c g e a d j) λp o=>j8 [c,h,d,a,i] o) (j8 [c,h,d,a,i] j)) (λvs H=>Ucd f self (ag vs 0) (ag vs 1) (ag vs 2) (ag vs 3) (ag vs 4) H)
noncomputable def Ue2 (o:Aa)(self:Ab->Ab->Ab->Ab->Ab->Aa->Out)(p:LK)(b f d g c h l a m n:Ab)(e:Aa):Out:=(Af .none .lss a m).bind λr=>Ak r ((Af .none .add a m).bind λs=>(AC .u64 s).bind λt=>(Af .none .shr t (.int .u64 1)).bind λu=>(AC .i64 u).bind λi=>(Af .none .sub n i).bind λv=>(Aw 5 b v).bind λw=>bC (Ad true 5 w e) (λ_=>True) λx=>(Aw 5 b i).bind λy=>bC (Ad true 5 y e) (λ_=>True) λz=>AW (DI (Be self) c [x,z] e) λaa q=>(Af .none .lss aa (.i6 0)).bind λab=>(unA .not ab).bind λac=>Ak ac ((Af .none .add i (.i6 1)).bind λad=>p [b,f,d,g,c,h,l,ad,m,n] q) (p [b,f,d,g,c,h,l,a,i,n] q)) ((Af .none .sub l a).bind λj=>AM (λj7=>(Af .none .lss a d).bind λk=>gk k true (some d) λae=>gk k true (some j) λaj=>gk k true (Af .none .lss ae aj) λak=>(AB k ak (.bool false)).bind λal=>Ak al (bK o (UaU b a d j c e) λan am=>j7 [b,f,g,c,h,a,j] am) (j7 [b,f,g,c,h,a,j] e)) (λvs H=>Uce o self (ag vs 0) (ag vs 1) (ag vs 2) (ag vs 3) (ag vs 4) (ag vs 5) (ag vs 6) H))
noncomputable def Ud8 (b:Aa)(self:Ab->Ab->Ab->Ab->Ab->Aa->Out)(c d e f g h a i j:Ab)(k:Aa):Out:=(Af .none .sub a (.i6 1)).bind λl=>Am (λm vs H=>Ue2 b self m (ag vs 0) (ag vs 1) (ag vs 2) (ag vs 3) (ag vs 4) (ag vs 5) (ag vs 6) (ag vs 7) (ag vs 8) (ag vs 9) H) AP [c,d,e,f,g,h,a,i,j,l] k
noncomputable def Ud9 (self:Ab->Ab->Ab->Ab->Ab->Aa->Out)(f b a d g:Ab)(c:Aa):Out:=(Af .none .sub a b).bind λi=>(Af .none .eql i (.i6 1)).bind λj=>Ak j (Am (λk vs H=>Ua0 c self k (ag vs 0) (ag vs 1) (ag vs 2) (ag vs 3) (ag vs 4) H) AP [f,b,g,a,d] c) ((Af .none .sub d a).bind λl=>(Af .none .eql l (.i6 1)).bind λm=>Ak m (Am (λn vs H=>Ua2 c self n (ag vs 0) (ag vs 1) (ag vs 2) (ag vs 3) (ag vs 4) H) AP [f,a,g,b,a] c) ((Af .none .add b d).bind λo=>(AC .u64 o).bind λp=>(Af .none .shr p (.int .u64 1)).bind λq=>(AC .i64 q).bind λe=>(Af .none .add e a).bind λh=>AM (λj5=>(Af .none .gtr a e).bind λr=>Ak r ((Af .none .sub h d).bind λs=>j5 [f,b,a,d,g,e,h,s,e] c) (j5 [f,b,a,d,g,e,h,b,a] c)) (λvs H=>Ud8 c self (ag vs 0) (ag vs 1) (ag vs 2) (ag vs 3) (ag vs 4) (ag vs 5) (ag vs 6) (ag vs 7) (ag vs 8) H)))
noncomputable def UaC:Nat->Ab->Ab->Ab->Ab->Ab->Aa->Out | 0=>λ_ _ _ _ _ _=>none | d+1=>Ud9 (UaC d)
noncomputable def UdA (h:Aa)(a:LK)(b c d e:Ab)(f:Aa):Out:=(Af .none .mul e (.i6 2)).bind λg=>a [b,c,d,g] f
noncomputable def Ua3 (g:Aa)(j:LK)(k:LK)(c a d b e f:Ab)(h:Aa):Out:=(Af .none .leq f a).bind λl=>Ak l ((Af .none .add e b).bind λm=>bK g (UaC AP c e m f d h) λs n=>(Af .none .mul (.i6 2) b).bind λo=>(Af .none .add f o).bind λp=>k [c,a,d,b,f,p] n) (AM (λj4=>(Af .none .add e b).bind λi=>(Af .none .lss i a).bind λq=>Ak q (bK g (UaC AP c e i a d h) λt r=>j4 [c,a,d,b] r) (j4 [c,a,d,b] h)) (λvs H=>UdA g j (ag vs 0) (ag vs 1) (ag vs 2) (ag vs 3) H))
noncomputable def Uag (b:Aa)(e:LK)(f c g a:Ab)(d:Aa):Out:=(Af .none .lss a c).bind λh=>Ak h ((Af .none .mul (.i6 2) a).bind λi=>Am (λj vs H=>Ua3 b e j (ag vs 0) (ag vs 1) (ag vs 2) (ag vs 3) (ag vs 4) (ag vs 5) H) AP [f,c,g,a,(.i6 0),i] d) (rK b (.tup []) d)
noncomputable def UaV (e:Aa)(i:LK)(a b c f g d:Ab)(h:Aa):Out:=(Af .none .leq d b).bind λj=>Ak j (bK e (Ue7 a g d c h) λo k=>(Af .none .add d f).bind λl=>i [a,b,c,f,d,l] k) (bK e (Ue7 a g b c h) λp m=>Am (λn vs H=>Uag e n (ag vs 0) (ag vs 1) (ag vs 2) (ag vs 3) H) AP [a,b,c,f] m)
noncomputable def Ua4 (b c d:Ab)(a:Aa):Out:=Am (λe vs H=>UaV a e (ag vs 0) (ag vs 1) (ag vs 2) (ag vs 3) (ag vs 4) (ag vs 5) H) AP [b,c,d,(.i6 20),(.i6 0),(.i6 20)] a
noncomputable def Ua5 (b c:Ab)(a:Aa):Out:=(A5 b).bind λd=>bK a (Ua4 b d c a) λf e=>rK a (.tup []) e
noncomputable def Ucf (c d:Ab)(a:Aa):Out:=Ao (B3 true 5 c a) λe f=>Ao (B3 true 5 d f) λg b=>(Ad true 5 e b).bind λh=>(Ad true 5 g b).bind λi=>bP a (Uax h i b) λj k=>(Af .none .eql j (.i6 0)).bind λl=>rP a l k
noncomputable def AL:Orc:=(ent 146 (ap2 Ucf) noO)
noncomputable def UdC (i:Aa)(a:LK)(b c d e f:Ab)(g:Aa):Out:=(Af .none .add f (.i6 1)).bind λh=>a [b,c,d,e,h] g
noncomputable def Ua6 (e:Aa)(i:LK)(c g d a b:Ab)(f:Aa):Out:=(A5 a).bind λj=>(Af .none .lss b j).bind λk=>Ak k (AM (λj3=>(Aw 5 a b).bind λl=>bC (Ad true 5 l f) (λ_=>True) λm=>(Af .none .sub b (.i6 1)).bind λn=>(Aw 5 a n).bind λo=>bC (Ad true 5 o f) (λ_=>True) λp=>AW (DI AL g [m,p] f) λq h=>(unA .not q).bind λr=>Ak r ((Aw 5 a b).bind λs=>(Ad true 5 s h).bind λt=>(Aw 5 c d).bind λu=>bK e (AE (Ai 5 u t h)) λ_ v=>(Af .none .add d (.i6 1)).bind λw=>j3 [c,g,w,a,b] v) (j3 [c,g,d,a,b] h)) (λvs H=>UdC e i (ag vs 0) (ag vs 1) (ag vs 2) (ag vs 3) (ag vs 4) H)) ((BS 5 c (some d) none none).bind λx=>bK e (AE (Ky 5 (some [(.bool false),(.sl [] .ti),(.bool false),(.sl [] .ti),(.int .u8 0)]) x f)) λ_ y=>(BS 5 c none (some d) none).bind λz=>rKN e z y)
noncomputable def UaW (d:Aa)(g:LK)(a e b:Ab)(c:Aa):Out:=(A5 a).bind λh=>(Af .none .lss b h).bind λi=>Ak i ((Aw 5 a b).bind λj=>bC (Ad true 5 j c) (λ_=>True) λk=>(Af .none .sub b (.i6 1)).bind λl=>(Aw 5 a l).bind λm=>bC (Ad true 5 m c) (λ_=>True) λn=>bK d (DI AL e [k,n] c) λo f=>Ak o ((BS 5 a (some b) none none).bind λp=>Am (λq vs H=>Ua6 d q (ag vs 0) (ag vs 1) (ag vs 2) (ag vs 3) (ag vs 4) H) AP [a,e,b,p,(.i6 1)] f) ((Af .none .add b (.i6 1)).bind λr=>g [a,e,r] f)) (rKN d a c)
noncomputable def Uah (b c:Ab)(a:Aa):Out:=(A5 b).bind λd=>(Af .none .lss d (.i6 2)).bind λe=>Ak e (rKN a b a) (Am (λf vs H=>UaW a f (ag vs 0) (ag vs 1) (ag vs 2) H) AP [b,c,(.i6 1)] a)
noncomputable def Ba:Orc:=(ent 139 (ap2 Uey) (ent 148 (ap1 UaQ) noO))
noncomputable def UdD (h:Aa)(a:LK)(b c d e:Ab)(f:Aa):Out:=(Af .none .add e (.i6 1)).bind λg=>a [b,c,d,g] f
noncomputable def UaX (b:Aa)(j:LK)(a e c d:Ab)(f:Aa):Out:=(A5 a).bind λk=>(Af .none .lss d k).bind λl=>Ak l (AM (λj2=>(Aw 5 a d).bind λm=>(Ad true 5 m f).bind λn=>Ao (A3 (some [(.bool false),(.sl [] .ti),(.bool false),(.sl [] .ti),(.int .u8 0)]) f) λg o=>bK b (AE (Ai 5 g n o)) λ_ i=>(Ad true 5 g i).bind λp=>bK b (DI Ba e [p] i) λq h=>(unA .not q).bind λr=>Ak r ((Ad true 5 g h).bind λs=>(Aw 5 a c).bind λt=>bK b (AE (Ai 5 t s h)) λ_ u=>(Af .none .add c (.i6 1)).bind λv=>j2 [a,e,v,d] u) (j2 [a,e,c,d] h)) (λvs H=>UdD b j (ag vs 0) (ag vs 1) (ag vs 2) (ag vs 3) H)) ((BS 5 a (some c) none none).bind λw=>bK b (AE (Ky 5 (some [(.bool false),(.sl [] .ti),(.bool false),(.sl [] .ti),(.int .u8 0)]) w f)) λ_ x=>(BS 5 a none (some c) none).bind λy=>rKN b y x)
noncomputable def Uai (b d:Ab)(a:Aa):Out:=bK a (Uey b d a) λc e=>(Af .none .eql c (.i6 (-1))).bind λf=>Ak f (rKN a b e) ((Af .none .add c (.i6 1)).bind λg=>Am (λh vs H=>UaX a h (ag vs 0) (ag vs 1) (ag vs 2) (ag vs 3) H) AP [b,d,c,g] e)
noncomputable def Ucg (c:Ab)(a:Aa):Out:=bP a (UbY c a) λb d=>bP a (Uaw b d) λk e=>bP a (Ua5 b (.fn 144 []) e) λl f=>bP a (Uah b (.fn 146 []) f) λg h=>bP a (Uai g (.fn 148 []) h) λi j=>rPN a i j
noncomputable def UaY (f:Ab)(a:Aa):Out:=Ao (B3 true 2 f a) λc g=>Ao (A3 (some [(.bool false),(.sl [] .ti)]) g) λd b=>(Ac 0 c).bind λh=>(Ad false 1 h b).bind λi=>(unA .not i).bind λj=>(Ac 1 c).bind λk=>(Ad false 1 k b).bind λl=>bP a (UdB j l b) λm n=>bP a (AE (Ai 2 d m n)) λ_ e=>(Ad true 2 d e).bind λo=>rPN a o e
noncomputable def Uch (h i:Ab)(a:Aa):Out:=Ao (B3 true 2 h a) λd j=>Ao (B3 true 2 i j) λk l=>Ao (A3 (some [(.bool false),(.sl [] .ti)]) l) λe b=>bC (Ad true 2 k b) (λ_=>True) λm=>AW (UaY m b) λn f=>bC (Ad true 2 d f) (λc=>Ad true 2 d b=some c/\True) λc=>AW (Uex c n f) λo p=>bP a (AE (Ai 2 e o p)) λ_ g=>(Ad true 2 e g).bind λq=>rPN a q g
noncomputable def UdE (a:Aa)(b c:Ab)(d:Aa):Out:=(AC .u8 b).bind λe=>(Cj (.str [0,1,2,2,3,3,3,3,4,4,4,4,4,4,4,4,5,5,5,5,5,5,5,5,5,5,5,5,5,5,5,5,6,6,6,6,6,6,6,6,6,6,6,6,6,6,6,6,6,6,6,6,6,6,6,6,6,6,6,6,6,6,6,6,7,7,7,7,7,7,7,7,7,7,7,7,7,7,7,7,7,7,7,7,7,7,7,7,7,7,7,7,7,7,7,7,7,7,7,7,7,7,7,7,7,7,7,7,7,7,7,7,7,7,7,7,7,7,7,7,7,7,7,7,7,7,7,7,8,8,8,8,8,8,8,8,8,8,8,8,8,8,8,8,8,8,8,8,8,8,8,8,8,8,8,8,8,8,8,8,8,8,8,8,8,8,8,8,8,8,8,8,8,8,8,8,8,8,8,8,8,8,8,8,8,8,8,8,8,8,8,8,8,8,8,8,8,8,8,8,8,8,8,8,8,8,8,8,8,8,8,8,8,8,8,8,8,8,8,8,8,8,8,8,8,8,8,8,8,8,8,8,8,8,8,8,8,8,8,8,8,8,8,8,8,8,8,8,8,8,8,8,8,8,8,8]) e).bind λf=>(AC .i64 f).bind λg=>(Af .none .add c g).bind λh=>rK a h d
noncomputable def UdF (d:Aa)(a b:Ab)(c:Aa):Out:=AM (λj2=>(Af .none .geq a (.int .u32 256)).bind λe=>Ak e ((Af .none .shr a (.int .u64 8)).bind λf=>(Af .none .add b (.i6 8)).bind λg=>j2 [f,g] c) (j2 [a,b] c)) (λvs H=>UdE d (ag vs 0) (ag vs 1) H)
noncomputable def Uci (a:Ab)(b:Aa):Out:=AM (λj1=>(Af .none .geq a (.int .u32 65536)).bind λc=>Ak c ((Af .none .shr a (.int .u64 16)).bind λd=>j1 [d,(.i6 16)] b) (j1 [a,(.i6 0)] b)) (λvs H=>UdF b (ag vs 0) (ag vs 1) H)
noncomputable def Ucj (d:Ab)(a:Aa):Out:=bK a (Uab d a) λb c=>(A5 b).bind λe=>(Af .none .eql e (.i6 0)).bind λf=>Ak f (rK a (.i6 0) c) ((A5 b).bind λg=>(Af .none .sub g (.i6 1)).bind λh=>(Af .none .mul h (.i6 32)).bind λi=>(A5 b).bind λj=>(Af .none .sub j (.i6 1)).bind λk=>(Aw 1 b k).bind λl=>(Ad false 1 l c).bind λm=>bK a (Uci m c) λn o=>(Af .none .add i n).bind λp=>rK a p o)
noncomputable def Ued (a:Aa)(c:Ab)(b:Aa):Out:=(Ac 1 c).bind λd=>(Ad false 1 d b).bind λe=>bP a (Ucj e b) λf g=>(Af .none .add (.i6 1) f).bind λh=>rP a h g
noncomputable def UaZ (d:Ab)(a:Aa):Out:=Ao (B3 true 2 d a) λb c=>AM (λj1=>(Ac 0 b).bind λe=>(Ad false 1 e c).bind λf=>Ak f ((Ad true 2 b c).bind λg=>bP a (UaY g c) λh i=>bP a (Uaf (.i6 1) i) λj k=>bP a (Uch h j k) λl m=>bP a (AE (Ai 2 b l m)) λ_ n=>j1 [b] n) (j1 [b] c)) (λvs H=>Ued a (ag vs 0) H)
noncomputable def Uck (b:Ab)(c:Aa):Out:=(Af .none .geq b (.i6 0)).bind λa=>gk a true (some b) λd=>gk a true (Af .none .leq d (.i6 10000)) λe=>(AB a e (.bool false)).bind λf=>rK c f c
noncomputable def Ucl (b:Aa)(l:LK)(c a g h d:Ab)(e:Aa):Out:=(Af .none .lss d h).bind λm=>Ak m ((Aw 1 g d).bind λn=>(Ad false 1 n e).bind λi=>(Af .none .quo c (.i6 32)).bind λo=>(Af .none .add d o).bind λf=>(Aw 1 a f).bind λp=>bC (Ad false 1 p e) (λ_=>True) λq=>(Af .none .rem c (.i6 32)).bind λr=>(Af .none .shl i r).bind λs=>(Af .none .or q s).bind λt=>(Aw 1 a f).bind λu=>bP b (AE (Ai 1 u t e)) λ_ j=>(Af .none .add f (.i6 1)).bind λk=>(Aw 1 a k).bind λv=>bC (Ad false 1 v j) (λ_=>True) λw=>bC (AC .u64 i) (λ_=>True) λx=>(Af .none .rem c (.i6 32)).bind λy=>(Af .none .shl x y).bind λz=>(Af .none .shr z (.int .u64 32)).bind λaa=>bC (AC .u32 aa) (λ_=>True) λab=>(Af .none .or w ab).bind λac=>(Aw 1 a k).bind λad=>bP b (AE (Ai 1 ad ac j)) λ_ ae=>(Af .none .add d (.i6 1)).bind λaj=>l [c,a,g,h,aj] ae) (bP b (Uab a e) λak al=>rPN b ak al)
noncomputable def Ucm (b c:Ab)(a:Aa):Out:=bP a (Uck c a) λf d=>(unA .not f).bind λg=>Ak g (rPN a (.sl [] .ti) d) ((A5 b).bind λh=>(Af .none .quo c (.i6 32)).bind λi=>(Af .none .add h i).bind λj=>(Af .none .add j (.i6 1)).bind λe=>Ao (F4 1 4 (some [(.int .u32 0)]) e e d) λk l=>(A5 b).bind λm=>Am (λn vs H=>Ucl a n (ag vs 0) (ag vs 1) (ag vs 2) (ag vs 3) (ag vs 4) H) AP [c,k,b,m,(.i6 0)] l)
noncomputable def Ucn (d:Ab)(a:Aa):Out:=Ao (A3 (some [(.bool false),(.sl [] .ti)]) a) λb e=>(AN 1 [(.int .u32 1)]).bind λf=>bP a (Ucm f d e) λg h=>bP a (UdB (.bool false) g h) λi j=>bP a (AE (Ai 2 b i j)) λ_ c=>(Ad true 2 b c).bind λk=>rPN a k c
noncomputable def Ua7 (e c:Ab)(d:Aa):Out:=(Af .none .geq c (.i6 0)).bind λb=>gk b true (some c) λf=>gk b true (Af .none .quo f (.i6 32)) λg=>gk b true (some e) λh=>gk b true (A5 h) λi=>gk b true (Af .none .lss g i) λj=>(AB b j (.bool false)).bind λa=>gk a true (some e) λk=>gk a true (some c) λl=>gk a true (Af .none .quo l (.i6 32)) λm=>gk a true (Aw 1 k m) λn=>gk a true (Ad false 1 n d) λo=>gk a true (some c) λp=>gk a true (Af .none .rem p (.i6 32)) λq=>gk a true (Af .none .shr o q) λr=>gk a true (Af .none .and r (.int .u32 1)) λs=>gk a true (Af .none .eql s (.int .u32 1)) λt=>(AB a t (.bool false)).bind λu=>rK d u d
noncomputable def Uee (d:Aa)(e:LK)(f g a h c i j k:Ab)(b:Aa):Out:=(BK 4 1 a c).bind λl=>bC (Ad false 1 l b) (λ_=>True) λm=>bC (Ad true 3 h b) (λ_=>True) λn=>(AN 3 [n]).bind λo=>AW (Cy (Bf BN 3 56 m o b)) λp q=>(BK 4 1 a c).bind λr=>bK d (AE (Ai 1 r p q)) λ_ s=>(Af .none .add k (.i6 1)).bind λt=>e [f,g,a,i,j,t] s
noncomputable def Uef (c:Aa)(l:LK)(d a e b f g h i:Ab)(j:Aa):Out:=AM (λj3=>(Ac 1 b).bind λm=>(Ad false 1 m j).bind λn=>(Af .none .sub a (.i6 1)).bind λo=>bK c (Ua7 n o j) λp k=>Ak p ((Af .none .add f (.i6 2)).bind λq=>j3 [d,a,e,b,q,g,h,i] k) (j3 [d,a,e,b,f,g,h,i] k)) (λvs H=>Uee c l (ag vs 0) (ag vs 1) (ag vs 2) (ag vs 3) (ag vs 4) (ag vs 5) (ag vs 6) (ag vs 7) H)
noncomputable def Uaj (e:Aa)(self:Ab->Ab->Ab->Aa->Out)(h:LK)(a f d g b:Ab)(c:Aa):Out:=(Af .none .lss b (.i6 4)).bind λk=>Ak k ((Jl false 4 1 g b).bind λi=>(Af .none .gtr f (.i6 1)).bind λl=>Ak l ((Af .none .sub f (.i6 1)).bind λm=>bK e (self a m i c) λn o=>(Ac 1 d).bind λp=>(BK 4 1 p b).bind λq=>bK e (AE (Ai 1 q n o)) λ_ r=>(Af .none .add b (.i6 1)).bind λs=>h [a,f,d,g,s] r) ((A5 i).bind λt=>(Af .none .gtr t (.i6 0)).bind λu=>Ak u ((Aw 3 i (.i6 0)).bind λv=>(Ac 2 v).bind λw=>(Ad false 1 w c).bind λx=>(AC .i64 x).bind λy=>(Ac 1 d).bind λz=>(BK 4 1 z b).bind λaa=>bK e (AE (Ai 1 aa y c)) λ_ ab=>(Af .none .add b (.i6 1)).bind λac=>h [a,f,d,g,ac] ab) ((Af .none .add b (.i6 1)).bind λad=>h [a,f,d,g,ad] c))) ((Ag a).bind λae=>(Ac 0 ae).bind λaj=>bC (Ad false 1 aj c) (λ_=>True) λak=>bC (Ad true 5 d c) (λ_=>True) λal=>(AN 5 [al]).bind λam=>AW (Cy (Bf AY 5 40 ak am c)) λan ap=>(Ag a).bind λaq=>(Ac 0 aq).bind λar=>bK e (AE (Ai 1 ar an ap)) λ_ j=>(Ag a).bind λau=>(Ac 0 au).bind λav=>(Ad false 1 av j).bind λaw=>(A5 aw).bind λax=>rK e ax j)
noncomputable def Uba (a:Aa)(self:Ab->Ab->Ab->Aa->Out)(n:LK)(e b f g h c:Ab)(i:Aa):Out:=(Af .none .lss c h).bind λo=>Ak o ((Aw 3 g c).bind λp=>(Ad true 3 p i).bind λq=>Ao (A3 (some [(.sl [] .ti),(.sl [] .ti),(.int .u8 0)]) i) λd r=>bK a (AE (Ai 3 d q r)) λ_ j=>AM (λj2=>(Ac 0 d).bind λs=>(Ad false 1 s j).bind λt=>(Af .none .sub b (.i6 1)).bind λu=>bK a (Ua7 t u j) λv k=>Ak v ((Af .none .add (.i6 0) (.i6 1)).bind λw=>j2 [e,b,f,d,w,g,h,c] k) (j2 [e,b,f,d,(.i6 0),g,h,c] k)) (λvs H=>Uef a n (ag vs 0) (ag vs 1) (ag vs 2) (ag vs 3) (ag vs 4) (ag vs 5) (ag vs 6) (ag vs 7) H)) ((AD (some [(.i6 0),(.i6 0),(.i6 0),(.i6 0),(.i6 0)]) [(0,1,b)]).bind λx=>Ao (A3 (some [(.i6 0),(.i6 0),(.i6 0),(.i6 0),(.i6 0)]) i) λl y=>bK a (AE (Ai 5 l x y)) λ_ m=>(Ad true 4 f m).bind λz=>Am (λaa vs H=>Uaj a self aa (ag vs 0) (ag vs 1) (ag vs 2) (ag vs 3) (ag vs 4) H) AP [e,b,l,z,(.i6 0)] m)
noncomputable def UdG (self:Ab->Ab->Ab->Aa->Out)(c d b:Ab)(a:Aa):Out:=(A5 b).bind λe=>(Af .none .eql e (.i6 0)).bind λf=>Ak f (rK a (.i6 0) a) (Ao (A3 (some [(.sl [] .ti),(.sl [] .ti),(.sl [] .ti),(.sl [] .ti)]) a) λg h=>(A5 b).bind λi=>Am (λj vs H=>Uba a self j (ag vs 0) (ag vs 1) (ag vs 2) (ag vs 3) (ag vs 4) (ag vs 5) H) AP [c,d,g,b,i,(.i6 0)] h)
noncomputable def Ua8:Nat->Ab->Ab->Ab->Aa->Out | 0=>λ_ _ _ _=>none | d+1=>UdG (Ua8 d)
noncomputable def Uco (h i b:Ab)(c:Aa):Out:=(Aw 5 h i).bind λj=>(Ad true 5 j c).bind λk=>Ao (A3 (some [(.i6 0),(.i6 0),(.i6 0),(.i6 0),(.i6 0)]) c) λf l=>bP c (AE (Ai 5 f k l)) λ_ d=>(Af .none .eql b (.i6 0)).bind λm=>Ak m (rP c (.bool true) d) ((Ac 0 f).bind λn=>(Ad false 1 n d).bind λo=>(Af .none .eql o (.i6 1)).bind λp=>Ak p ((Af .none .gtr b (.i6 0)).bind λg=>gk g true (some b) λq=>gk g true (Af .none .leq q (.i6 255)) λr=>(AB g r (.bool false)).bind λs=>rP c s d) ((Af .none .gtr b (.i6 0)).bind λe=>gk e true (some b) λt=>gk e true (some i) λu=>gk e true (Af .none .leq t u) λv=>(AB e v (.bool false)).bind λa=>gk a true (some h) λw=>gk a true (some b) λx=>gk a true (Af .none .sub x (.i6 1)) λy=>gk a true (Aw 5 w y) λz=>gk a true (Ac 0 z) λaa=>gkc a true (Ad false 1 aa d) (λ_ _=>True) λab=>gk a true (Ac 0 f) λac=>gkc a true (Ad false 1 ac d) (λ_ _=>True) λad=>gk a true (Af .none .sub ad (.i6 1)) λae=>gk a true (Af .none .eql ab ae) λaj=>(AB a aj (.bool false)).bind λak=>rP c ak d))
noncomputable def Ucp (c:Aa)(k:LK)(l:LK)(a d e f g h b:Ab)(i:Aa):Out:=(Af .none .lss b (.i6 4)).bind λm=>Ak m ((Jl false 4 1 h b).bind λn=>bP c (Uco a d n i) λo j=>(unA .not o).bind λp=>Ak p (rP c (.bool false) j) ((Af .none .add b (.i6 1)).bind λq=>l [a,d,e,f,g,h,q] j)) ((Af .none .add g (.i6 1)).bind λr=>k [a,e,f,r] i)
noncomputable def Uak (b:Aa)(i:LK)(j g h c:Ab)(f:Aa):Out:=(Af .none .lss c h).bind λk=>Ak k ((Aw 5 g c).bind λl=>(Ad true 5 l f).bind λm=>Ao (A3 (some [(.i6 0),(.i6 0),(.i6 0),(.i6 0),(.i6 0)]) f) λd n=>bP b (AE (Ai 5 d m n)) λ_ a=>(Ac 0 d).bind λo=>(Ad false 1 o a).bind λp=>(Af .none .lss p (.i6 1)).bind λe=>gk e false (Ac 0 d) λq=>gk e false (Ad false 1 q a) λr=>gk e false (Af .none .gtr r (.i6 1329)) λs=>(AB e (.bool true) s).bind λt=>Ak t (rP b (.bool false) a) ((Ac 1 d).bind λu=>(Ad true 4 u a).bind λv=>Am (λw vs H=>Ucp b i w (ag vs 0) (ag vs 1) (ag vs 2) (ag vs 3) (ag vs 4) (ag vs 5) (ag vs 6) H) AP [j,c,g,h,c,v,(.i6 0)] a)) (rP b (.bool true) f)
noncomputable def Ubb (a:Ab)(b:Aa):Out:=(A5 a).bind λc=>Am (λd vs H=>Uak b d (ag vs 0) (ag vs 1) (ag vs 2) (ag vs 3) H) AP [a,a,c,(.i6 0)] b
noncomputable def Ucq (b:Ab)(a:Aa):Out:=(QV .eql b).bind λc=>Ak c (rK a (.sl [] .ti) a) ((AN 5 []).bind λd=>bK a (Cy (Bf AY 5 40 d b a)) λe f=>rK a e f)
noncomputable def Ucr (d e f:Ab)(b:Aa):Out:=(Af .none .neq d (.i6 0)).bind λa=>gk a true (Ac 0 e) λg=>gk a true (Ad false 1 g b) λh=>gk a true (Af .none .eql h (.i6 1)) λi=>gk a true (some i) λc=>gk c false (Ad false 1 f b) λj=>gk c false (some d) λk=>gk c false (Aw 1 j k) λl=>gk c false (Ad false 1 l b) λm=>gk a true (AB c (.bool true) m) λn=>(AB a n (.bool false)).bind λo=>rK b o b
noncomputable def C9:Orc:=(ent 238 (ap3 Ucr) noO)
noncomputable def Ucs (b:Aa)(h:LK)(d e f a:Ab)(c:Aa):Out:=(Af .none .lss a f).bind λi=>Ak i ((Aw 1 d a).bind λj=>(Ad false 1 j c).bind λk=>bK b (DI C9 e [k] c) λl g=>Ak l (rK b a g) ((Af .none .add a (.i6 1)).bind λm=>h [d,e,f,m] g)) (rK b (.i6 (-1)) c)
noncomputable def Uct (a c:Ab)(b:Aa):Out:=(A5 a).bind λd=>Am (λe vs H=>Ucs b e (ag vs 0) (ag vs 1) (ag vs 2) (ag vs 3) H) AP [a,c,d,(.i6 0)] b
noncomputable def Ucu (b c:Ab)(a:Aa):Out:=bK a (Uct b c a) λd e=>(Af .none .geq d (.i6 0)).bind λf=>rK a f e
noncomputable def UdH (d:Aa)(k:LK)(a g h b:Ab)(c:Aa):Out:=(Af .none .lss b h).bind λl=>Ak l ((Aw 5 g b).bind λm=>(Ad true 5 m c).bind λn=>Ao (A3 (some [(.i6 0),(.i6 0),(.i6 0),(.i6 0),(.i6 0)]) c) λe o=>bP d (AE (Ai 5 e n o)) λ_ i=>(Ac 1 e).bind λp=>(Jz 4 1 p none none).bind λq=>AW (Ucu q (.fn 238 [e,a]) i) λr j=>bC (Ad false 1 a j) (λf=>Ad false 1 a i=some f/\True) λf=>(Af .none .add b (.i6 1)).bind λs=>(Aw 1 f s).bind λt=>bP d (AE (Ai 1 t r j)) λ_ u=>(Af .none .add b (.i6 1)).bind λv=>k [a,g,h,v] u) ((Ad false 1 a c).bind λw=>rPN d w c)
noncomputable def Ubc (a:Ab)(b:Aa):Out:=(A5 a).bind λe=>(Af .none .add e (.i6 1)).bind λc=>Ao (F4 1 1 (some [(.bool false)]) c c b) λf g=>Ao (A3 (some [(.sl [] .ti)]) g) λd h=>bP b (AE (Ai 1 d f h)) λ_ i=>(A5 a).bind λj=>Am (λk vs H=>UdH b k (ag vs 0) (ag vs 1) (ag vs 2) (ag vs 3) H) AP [d,a,j,(.i6 0)] i
noncomputable def Ucv (c d:Ab)(a:Aa):Out:=bK a (Ubc c a) λe b=>(Aw 1 e d).bind λf=>(Ad false 1 f b).bind λg=>(unA .not g).bind λh=>rK a h b
noncomputable def Ucw (n:Aa)(o:LK)(p:LK)(e f h i j k l d:Ab)(b:Aa):Out:=(Af .none .lss d (.i6 4)).bind λq=>Ak q ((Jl false 4 1 l d).bind λm=>(Af .none .sub (.i6 3) h).bind λr=>(Af .none .neq d r).bind λg=>gk g true (some m) λs=>gk g true (Af .none .neq s (.i6 0)) λt=>(AB g t (.bool false)).bind λa=>gk a true (some e) λu=>gk a true (some i) λv=>gk a true (Af .none .sub v (.i6 1)) λw=>gk a true (Aw 5 u w) λx=>gk a true (Ac 0 x) λy=>gk a true (Ad false 1 y b) λz=>gk a true (Af .none .eql z (.i6 1)) λaa=>gk a true (some aa) λc=>gk c false (some f) λab=>gk c false (some m) λac=>gk c false (Aw 1 ab ac) λad=>gk c false (Ad false 1 ad b) λae=>gk a true (AB c (.bool true) ae) λaj=>(AB a aj (.bool false)).bind λak=>Ak ak (rK n (.bool false) b) ((Af .none .add d (.i6 1)).bind λal=>p [e,f,h,i,j,k,l,al] b)) ((Af .none .add k (.i6 1)).bind λam=>o [e,f,j,am] b)
noncomputable def Ucx (f:Aa)(g:LK)(c h d a:Ab)(b:Aa):Out:=(Af .none .lss a (.i6 4)).bind λi=>Ak i ((Jl false 4 1 d a).bind λe=>(Af .none .eql e (.i6 0)).bind λj=>Ak j ((Af .none .add a (.i6 1)).bind λk=>g [c,h,d,k] b) ((Af .none .sub e (.i6 1)).bind λl=>(Aw 5 c l).bind λm=>(Ac 1 m).bind λn=>(Ad true 4 n b).bind λo=>Am (λp vs H=>Ucw f g p (ag vs 0) (ag vs 1) (ag vs 2) (ag vs 3) (ag vs 4) (ag vs 5) (ag vs 6) (ag vs 7) H) AP [c,h,a,e,d,a,o,(.i6 0)] b)) (rK f (.bool true) b)
noncomputable def Ucy (c d:Ab)(b:Aa):Out:=(Af .none .eql d (.i6 0)).bind λa=>gk a false (some c) λf=>gk a false (some d) λg=>gk a false (Af .none .sub g (.i6 1)) λh=>gk a false (Aw 5 f h) λi=>gk a false (Ac 0 i) λj=>gk a false (Ad false 1 j b) λk=>gk a false (Af .none .eql k (.i6 1)) λl=>(AB a (.bool true) l).bind λm=>Ak m (rK b (.bool false) b) (bK b (Ubc c b) λn e=>(Af .none .sub d (.i6 1)).bind λo=>(Aw 5 c o).bind λp=>(Ac 1 p).bind λq=>(Ad true 4 q e).bind λr=>Am (λs vs H=>Ucx b s (ag vs 0) (ag vs 1) (ag vs 2) (ag vs 3) H) AP [c,n,r,(.i6 0)] e)
noncomputable def Uc0 (b e c:Ab)(a:Aa):Out:=(Af .none .sub e (.i6 1)).bind λf=>(Aw 5 b f).bind λg=>(Ac 1 g).bind λh=>(BK 4 1 h c).bind λi=>(Ad false 1 i a).bind λd=>(Af .none .gtr d (.i6 0)).bind λj=>Ak j ((Af .none .sub d (.i6 1)).bind λk=>(Af .none .sub (.i6 3) c).bind λl=>(Aw 5 b k).bind λm=>(Ac 1 m).bind λn=>(BK 4 1 n l).bind λo=>(Ad false 1 o a).bind λp=>rK a p a) (rK a (.i6 0) a)
noncomputable def Uc1 (b:Aa)(h:LK)(i:LK)(c f d a:Ab)(e:Aa):Out:=(Af .none .lss a (.i6 4)).bind λj=>Ak j (bP b (Uc0 c f a e) λk l=>(Ac 1 d).bind λm=>(BK 4 1 m a).bind λn=>bP b (AE (Ai 1 n k l)) λ_ o=>(Af .none .add a (.i6 1)).bind λp=>i [c,f,d,p] o) ((Ad true 5 d e).bind λq=>(AN 5 [q]).bind λr=>bP b (Cy (Bf AY 5 40 c r e)) λg s=>(A5 g).bind λt=>h [g,t] s)
noncomputable def UdI (a:Aa)(f:LK)(b c:Ab)(g:Aa):Out:=bP a (Ucy b c g) λh d=>Ak h ((Af .none .sub c (.i6 1)).bind λi=>(Aw 5 b i).bind λj=>(Ac 0 j).bind λk=>(Ad false 1 k d).bind λl=>(Af .none .sub l (.i6 1)).bind λm=>(AD (some [(.i6 0),(.i6 0),(.i6 0),(.i6 0),(.i6 0)]) [(0,1,m)]).bind λn=>Ao (A3 (some [(.i6 0),(.i6 0),(.i6 0),(.i6 0),(.i6 0)]) d) λe o=>bP a (AE (Ai 5 e n o)) λ_ p=>Am (λq vs H=>Uc1 a f q (ag vs 0) (ag vs 1) (ag vs 2) (ag vs 3) H) AP [b,c,e,(.i6 0)] p) (rPN a (.tup [b,c]) d)
noncomputable def Ubd (e c:Ab)(a:Aa):Out:=bP a (Ucq e a) λb f=>bP a (Ucv b c f) λg d=>Ak g (rPN a (.tup [b,(.i6 0)]) d) (Am (λh vs H=>UdI a h (ag vs 0) (ag vs 1) H) AP [b,c] d)
noncomputable def Ube (b h:Ab)(c:Aa):Out:=Ao (B3 true 5 h c) λd a=>(Ac 1 d).bind λi=>(Ad true 4 i a).bind λj=>(AD (some [(.i6 0),(.i6 0),(.i6 0),(.i6 0)]) []).bind λk=>(Af (.flat 4) .eql j k).bind λl=>Ak l (rK c (.i6 0) a) ((Ag b).bind λm=>(Ac 1 m).bind λn=>bC (Ad false 1 n a) (λ_=>True) λo=>bC (Ad true 5 d a) (λ_=>True) λp=>bC (Fi true 5 (some (.i6 0)) true o p a) (λ_=>True) λf=>(At 0 f).bind λq=>(At 1 f).bind λr=>Ak r (rK c q a) ((Ag b).bind λs=>(Ac 0 s).bind λt=>bC (Ad false 1 t a) (λ_=>True) λu=>bC (Ad true 5 d a) (λ_=>True) λv=>(AN 5 [v]).bind λw=>AW (Cy (Bf AY 5 40 u w a)) λx y=>(Ag b).bind λz=>(Ac 0 z).bind λaa=>bK c (AE (Ai 1 aa x y)) λ_ e=>(Ag b).bind λab=>(Ac 1 ab).bind λac=>bC (Ad false 1 ac e) (λ_=>True) λad=>bC (Ad true 5 d e) (λ_=>True) λae=>(Ag b).bind λaj=>(Ac 0 aj).bind λak=>bC (Ad false 1 ak e) (λ_=>True) λal=>(A5 al).bind λam=>bK c (AE (Ec true 5 ad ae am e)) λ_ g=>(Ag b).bind λan=>(Ac 0 an).bind λap=>(Ad false 1 ap g).bind λaq=>(A5 aq).bind λar=>rK c ar g))
noncomputable def Hz (self:Ab->Ab->Ab->Ab->Ab->Aa->Out):Orc:=ent 161 (ap5 self) (ent 162 (ap2 Ube) noO)
noncomputable def Uc2 (a:Aa)(e f g h:Ab)(b:Aa):Out:=(Ad false 1 g b).bind λi=>(Ad true 5 h b).bind λj=>bK a (Ube i j b) λc d=>(Ad false 1 f d).bind λk=>bK a (AE (Ec false 1 k e c d)) λ_ l=>rK a c l
noncomputable def Uc3 (d:Aa)(self:Ab->Ab->Ab->Ab->Ab->Aa->Out)(j1:LK)(j:LK)(e f g h b i a:Ab)(c:Aa):Out:=(Af .none .lss a (.i6 4)).bind λk=>Ak k ((Jl false 4 1 i a).bind λl=>(Ad false 1 g c).bind λm=>bK d (DI (Hz self) m [l] c) λn o=>(Ac 1 b).bind λp=>(BK 4 1 p a).bind λq=>bK d (AE (Ai 1 q n o)) λ_ r=>(Af .none .add a (.i6 1)).bind λs=>j [e,f,g,h,b,i,s] r) (j1 [e,f,h,b] c)
noncomputable def Ubf (self:Ab->Ab->Ab->Ab->Ab->Aa->Out)(c e h i f:Ab)(a:Aa):Out:=(Ad false 1 e a).bind λj=>(Fi false 1 (some (.i6 0)) true j c a).bind λg=>(At 0 g).bind λk=>(At 1 g).bind λl=>Ak l (rK a k a) ((Ad false 1 h a).bind λm=>(Af .none .sub c (.i6 1)).bind λn=>(Aw 5 m n).bind λo=>(Ad true 5 o a).bind λp=>Ao (A3 (some [(.i6 0),(.i6 0),(.i6 0),(.i6 0),(.i6 0)]) a) λb q=>bK a (AE (Ai 5 b p q)) λ_ d=>AM (λj1=>(Ac 0 b).bind λr=>(Ad false 1 r d).bind λs=>(Af .none .gtr s (.i6 1)).bind λt=>Ak t ((Ac 1 b).bind λu=>(Ad true 4 u d).bind λv=>Am (λw vs H=>Uc3 a self j1 w (ag vs 0) (ag vs 1) (ag vs 2) (ag vs 3) (ag vs 4) (ag vs 5) (ag vs 6) H) AP [c,e,i,f,b,v,(.i6 0)] d) (j1 [c,e,f,b] d)) (λvs H=>Uc2 a (ag vs 0) (ag vs 1) (ag vs 2) (ag vs 3) H))
noncomputable def Uem:Nat->Ab->Ab->Ab->Ab->Ab->Aa->Out | 0=>λ_ _ _ _ _ _=>none | d+1=>Ubf (Uem d)
noncomputable def Jj:Orc:=(ent 159 (ap1 Ubb) (ent 160 (ap2 Ubd) (ent 161 (ap5 (Uem AP)) noO)))
noncomputable def Ubg (r f:Ab)(a:Aa):Out:=Ao (B3 true 1 r a) λb s=>Ao (A3 (some [(.sl [] .ti)]) s) λd k=>(Ad false 1 b k).bind λt=>bP a (Ubb t k) λu e=>(unA .not u).bind λg=>gk g false (some f) λv=>gk g false (Af .none .lss v (.i6 0)) λw=>(AB g (.bool true) w).bind λc=>gk c false (some f) λx=>gk c false (Ad false 1 b e) λy=>gk c false (A5 y) λz=>gk c false (Af .none .gtr x z) λaa=>(AB c (.bool true) aa).bind λab=>Ak ab ((AD (some [(.sl [] .ti)]) []).bind λac=>bP a (AE (Ai 1 d ac e)) λ_ l=>(GP [Ad true 1 d l,some (.i6 1)]).bind λad=>rPN a ad l) ((Ad false 1 b e).bind λae=>bP a (Ubd ae f e) λm aj=>(At 0 m).bind λak=>(At 1 m).bind λal=>bP a (AE (Ai 1 b ak aj)) λ_ am=>Ao (E6 am) λan ap=>(AD (some [(.sl [] .ti),.nilmap]) [(1,1,an)]).bind λaq=>Ao (B3 true 2 aq ap) λar au=>Ao (A3 (some [.nilp]) au) λh av=>bP a (AE (Ai 1 h ar av)) λ_ aw=>Ao (E6 aw) λn ax=>bP a (AE (Ec false 1 n (.i6 0) (.i6 0) ax)) λ_ ay=>Ao (A3 (some [.nilmap]) ay) λo az=>bP a (AE (Ai 1 o n az)) λ_ a0=>Ao (A3 (some [.nilfn]) a0) λi a1=>bP a (AE (Ai 1 i (.fn 161 [o,b,i,h]) a1)) λ_ p=>(Ad false 1 i p).bind λa2=>bP a (DI Jj a2 [al] p) λa9 j=>(Ad false 1 h j).bind λa3=>(Ag a3).bind λa4=>(Ac 0 a4).bind λa5=>(Ad false 1 a5 j).bind λa6=>(AD (some [(.sl [] .ti)]) [(0,1,a6)]).bind λa7=>bP a (AE (Ai 1 d a7 j)) λ_ q=>(GP [Ad true 1 d q,some (.i6 0)]).bind λa8=>rPN a a8 q)
noncomputable def Ubh (b:Aa)(w:LK)(g m c n o p h:Ab)(i:Aa):Out:=(Af .none .lss h p).bind λx=>Ak x ((Aw 5 o h).bind λy=>(Ad true 5 y i).bind λz=>Ao (A3 (some [(.bool false),(.sl [] .ti),(.bool false),(.sl [] .ti),(.int .u8 0)]) i) λd aa=>bP b (AE (Ai 5 d z aa)) λ_ a=>(Ac 0 d).bind λab=>bC (Ad true 2 ab a) (λ_=>True) λac=>bC (Ad true 2 c a) (λ_=>True) λad=>AW (Uex ac ad a) λae e=>(Ac 2 d).bind λq=>bC (Ad true 2 q e) (λj=>Ad true 2 q a=some j/\True) λj=>bC (Ad true 2 c e) (λk=>Ad true 2 c a=some k/\True) λk=>AW (Uex j k e) λaj r=>(Qd false 1 1 ae).bind λak=>(Qd false 1 1 aj).bind λal=>(Ac 4 d).bind λl=>bC (Ad false 1 l r) (λf=>Ad false 1 l e=some f/\Ad false 1 l a=some f/\True) λf=>(AD (some [(.sl [] .ti),(.sl [] .ti),(.int .u8 0)]) [(0,1,ak),(1,1,al),(2,1,f)]).bind λam=>(AN 3 [am]).bind λan=>AW (Cy (Bf BN 3 56 n an r)) λap aq=>(Af .none .add h (.i6 1)).bind λar=>w [g,m,c,ap,o,p,ar] aq) ((AD (some [(.sl [] .ti)]) []).bind λau=>Ao (B3 true 1 au i) λs av=>bP b (Ua8 AP s m n av) λaw t=>(Ag s).bind λax=>(Ac 0 ax).bind λay=>(Ad false 1 ay t).bind λaz=>bP b (Ubg az aw t) λu a0=>(At 0 u).bind λa1=>(At 1 u).bind λa2=>bP b (AE (Ai 1 g a1 a0)) λ_ v=>(GP [Ad true 1 g v,some a2]).bind λa3=>rPN b a3 v)
noncomputable def Ua9 (a:Aa)(p:LK)(b e c j k f:Ab)(d:Aa):Out:=(Af .none .lss f k).bind λq=>Ak q ((Aw 5 j f).bind λr=>(Ad true 5 r d).bind λs=>Ao (A3 (some [(.bool false),(.sl [] .ti),(.bool false),(.sl [] .ti),(.int .u8 0)]) d) λg t=>bP a (AE (Ai 5 g s t)) λ_ h=>(Ac 0 g).bind λu=>bC (Ad true 2 u h) (λ_=>True) λv=>AW (UaZ v h) λw l=>(Ac 2 g).bind λm=>bC (Ad true 2 m l) (λi=>Ad true 2 m h=some i/\True) λi=>AW (UaZ i l) λx y=>(GG IS c [w,x]).bind λz=>(Af .none .add f (.i6 1)).bind λaa=>p [b,e,z,j,k,aa] y) ((Af .none .gtr c (.i6 1329)).bind λab=>Ak ab ((AD (some [(.sl [] .ti)]) []).bind λac=>bP a (AE (Ai 1 b ac d)) λ_ n=>(GP [Ad true 1 b n,some (.i6 4)]).bind λad=>rPN a ad n) ((Af .none .sub c (.i6 1)).bind λae=>bP a (Ucn ae d) λaj ak=>Ao (A3 (some [(.bool false),(.sl [] .ti)]) ak) λo al=>bP a (AE (Ai 2 o aj al)) λ_ am=>(A5 e).bind λan=>Am (λap vs H=>Ubh a ap (ag vs 0) (ag vs 1) (ag vs 2) (ag vs 3) (ag vs 4) (ag vs 5) (ag vs 6) H) AP [b,c,o,(.sl [] .ti),e,an,(.i6 0)] am))
noncomputable def Ubi (d:Ab)(a:Aa):Out:=Ao (A3 (some [(.sl [] .ti)]) a) λb g=>bP a (UbX d (.fn 84 []) g) λh e=>Ak h ((AD (some [(.sl [] .ti)]) []).bind λi=>bP a (AE (Ai 1 b i e)) λ_ f=>(GP [Ad true 1 b f,some (.i6 1)]).bind λj=>rPN a j f) (bP a (Ucg d e) λc k=>(A5 c).bind λl=>Am (λm vs H=>Ua9 a m (ag vs 0) (ag vs 1) (ag vs 2) (ag vs 3) (ag vs 4) (ag vs 5) H) AP [b,c,(.i6 1),c,l,(.i6 0)] k)
noncomputable def UeE (n v:Ab)(a:Aa):Out:=Ao (B3 true 2 v a) λh w=>Ao (A3 (some [(.str []),(.sl [] .ti)]) w) λb o=>(Ad true 2 h o).bind λx=>bP a (Ub6 x o) λy i=>(unA .not y).bind λz=>Ak z ((AD (some [(.str []),(.sl [] .ti)]) []).bind λaa=>bP a (AE (Ai 2 b aa i)) λ_ p=>(GP [Ad true 2 b p,some (.i6 0),some (.i6 1)]).bind λab=>rPN a ab p) ((AD (some [(.str []),(.i6 0)]) [(0,1,n)]).bind λac=>(Ad true 2 h i).bind λad=>(AD (some [(.str []),(.i6 0),(.i6 0),(.i6 0),(.str []),(.bool false),(.sl [] .ti),(.bool false),(.sl [] .ti),(.i6 0),(.i6 0),(.sl [] .ti)]) [(0,2,ac),(2,2,ad)]).bind λae=>Ao (B3 true 12 ae i) λf aj=>bP a (UaP (.bfn 69 [f]) aj) λak al=>Ao (A3 (some [(.i6 0),(.str [])]) al) λj am=>bP a (AE (Ai 2 j ak am)) λ_ d=>(Ac 0 j).bind λan=>(Ad false 1 an d).bind λap=>(Af .none .neq ap (.i6 0)).bind λaq=>Ak aq ((AD (some [(.str []),(.sl [] .ti)]) []).bind λar=>AW (AE (Ai 2 b ar d)) λ_ g=>(Ag f).bind λau=>(Ac 0 au).bind λav=>(Ac 1 av).bind λq=>bC (Ad false 1 q g) (λk=>Ad false 1 q d=some k/\True) λk=>(Ac 0 j).bind λr=>bC (Ad false 1 r g) (λl=>Ad false 1 r d=some l/\True) λl=>(GP [Ad true 2 b g,some k,some l]).bind λaw=>rPN a aw g) ((Ag f).bind λax=>(Ac 11 ax).bind λay=>(Ad false 1 ay d).bind λaz=>bP a (Ubi az d) λs a0=>(At 0 s).bind λa1=>(At 1 s).bind λa2=>Ao (A3 (some [(.sl [] .ti)]) a0) λm a3=>bP a (AE (Ai 1 m a1 a3)) λ_ e=>(Af .none .neq a2 (.i6 0)).bind λc=>gk c false (Ac 0 m) λa4=>gk c false (Ad false 1 a4 e) λa5=>gk c false (A5 a5) λa6=>gk c false (Ac 1 h) λa7=>gk c false (Ad false 1 a7 e) λa8=>gk c false (Af .none .gtr a6 a8) λa9=>(AB c (.bool true) a9).bind λba=>Ak ba ((AD (some [(.str []),(.sl [] .ti)]) []).bind λbb=>(BU n).bind λbc=>bP a (AE (Ai 2 b bb e)) λ_ t=>(GP [Ad true 2 b t,some bc,some (.i6 4)]).bind λbd=>rPN a bd t) ((Ag f).bind λbe=>(Ac 4 be).bind λbg=>bC (Ad false 1 bg e) (λ_=>True) λbj=>bC (Ad true 1 m e) (λ_=>True) λbk=>(AD (some [(.str []),(.sl [] .ti)]) [(0,1,bj),(1,1,bk)]).bind λbl=>AW (AE (Ai 2 b bl e)) λ_ u=>(GP [Ad true 2 b u,some (.i6 0),some (.i6 0)]).bind λbm=>rPN a bm u)))
noncomputable def Uc4 (b:Ab)(c:Aa):Out:=(Af .none .geq b (.i6 1)).bind λa=>gk a true (some b) λd=>gk a true (Af .none .leq d (.i6 5)) λe=>(AB a e (.bool false)).bind λf=>rK c f c
noncomputable def Uc5 (b:Ab)(c:Aa):Out:=(Af .none .geq b (.int .u8 33)).bind λa=>gk a true (some b) λd=>gk a true (Af .none .leq d (.int .u8 126)) λe=>(AB a e (.bool false)).bind λf=>rK c f c
noncomputable def Ueg (c:Aa)(g:LK)(a d:Ab)(e:Aa):Out:=(BU a).bind λh=>(Af .none .lss d h).bind λi=>Ak i ((Cj a d).bind λj=>bK c (Uc5 j e) λk f=>(unA .not k).bind λl=>Ak l (rK c (.bool false) f) ((Af .none .add d (.i6 1)).bind λm=>g [a,m] f)) ((BU a).bind λn=>(Af .none .geq n (.i6 1)).bind λb=>gk b true (some a) λo=>gk b true (BU o) λp=>gk b true (Af .none .leq p (.i6 40)) λq=>(AB b q (.bool false)).bind λr=>rK c r e)
noncomputable def Uc6 (b:Ab)(a:Aa):Out:=Am (λc vs H=>Ueg a c (ag vs 0) (ag vs 1) H) AP [b,(.i6 0)] a
noncomputable def Uc7 (k:Aa)(l:LK)(m:LK)(d e h:Ab)(b:Aa):Out:=(Af .none .lss h (.i6 4)).bind λn=>Ak n ((Aw 5 d e).bind λo=>(Ac 1 o).bind λp=>(BK 4 1 p h).bind λq=>(Ad false 1 q b).bind λg=>(Af .none .lss g (.i6 0)).bind λc=>gk c false (some d) λr=>gk c false (some e) λs=>gk c false (Aw 5 r s) λt=>gk c false (Ac 0 t) λu=>gk c false (Ad false 1 u b) λv=>gk c false (Af .none .eql v (.i6 1)) λw=>gk c false (some w) λi=>gk i true (some g) λx=>gk i true (Af .none .gtr x (.i6 255)) λy=>gk c false (AB i y (.bool false)) λz=>(AB c (.bool true) z).bind λaa=>Ak aa (rK k (.bool false) b) ((Aw 5 d e).bind λab=>(Ac 0 ab).bind λac=>bC (Ad false 1 ac b) (λ_=>True) λad=>(Af .none .gtr ad (.i6 1)).bind λj=>gk j true (some g) λae=>gk j true (Af .none .gtr ae (.i6 0)) λaj=>(AB j aj (.bool false)).bind λf=>gk f true (some g) λak=>gk f true (some e) λal=>gk f true (Af .none .gtr ak al) λam=>gk f true (some am) λa=>gk a false (some d) λan=>gk a false (some g) λap=>gk a false (Af .none .sub ap (.i6 1)) λaq=>gk a false (Aw 5 an aq) λar=>gk a false (Ac 0 ar) λau=>gkc a false (Ad false 1 au b) (λ_ _=>True) λav=>gk a false (some d) λaw=>gk a false (some e) λax=>gk a false (Aw 5 aw ax) λay=>gk a false (Ac 0 ay) λaz=>gkc a false (Ad false 1 az b) (λ_ _=>True) λa0=>gk a false (Af .none .sub a0 (.i6 1)) λa1=>gk a false (Af .none .neq av a1) λa2=>gk f true (AB a (.bool true) a2) λa3=>(AB f a3 (.bool false)).bind λa4=>Ak a4 (rK k (.bool false) b) ((Af .none .add h (.i6 1)).bind λa5=>m [d,e,a5] b))) ((Af .none .add e (.i6 1)).bind λa6=>l [d,a6] b)
noncomputable def Uc8 (e:Aa)(f:LK)(c d:Ab)(b:Aa):Out:=(A5 c).bind λg=>(Af .none .lss d g).bind λh=>Ak h ((Aw 5 c d).bind λi=>(Ac 0 i).bind λj=>(Ad false 1 j b).bind λk=>(Af .none .lss k (.i6 1)).bind λa=>gk a false (some c) λl=>gk a false (some d) λm=>gk a false (Aw 5 l m) λn=>gk a false (Ac 0 n) λo=>gk a false (Ad false 1 o b) λp=>gk a false (Af .none .gtr p (.i6 1329)) λq=>(AB a (.bool true) q).bind λr=>Ak r (rK e (.bool false) b) (Am (λs vs H=>Uc7 e f s (ag vs 0) (ag vs 1) (ag vs 2) H) AP [c,d,(.i6 0)] b)) (rK e (.bool true) b)
noncomputable def Uc9 (b:Ab)(a:Aa):Out:=Am (λc vs H=>Uc8 a c (ag vs 0) (ag vs 1) H) AP [b,(.i6 0)] a
noncomputable def UcA (j:Aa)(k:LK)(l:LK)(f g c b h:Ab)(d:Aa):Out:=(Af .none .lss h (.i6 4)).bind λm=>Ak m ((Aw 5 f c).bind λn=>(Ac 1 n).bind λo=>(BK 4 1 o h).bind λp=>(Ad false 1 p d).bind λi=>gk b true (some i) λq=>gk b true (Af .none .eql q (.i6 0)) λr=>gk b true (some r) λa=>gk a false (some f) λs=>gk a false (some c) λt=>gk a false (Aw 5 s t) λu=>gk a false (Ac 0 u) λv=>gk a false (Ad false 1 v d) λw=>gk a false (Af .none .gtr w (.i6 1)) λx=>gk a false (some x) λe=>gk e true (some g) λy=>gk e true (some i) λz=>gk e true (Aw 1 y z) λaa=>gk e true (Ad false 1 aa d) λab=>gk a false (AB e ab (.bool false)) λac=>gk b true (AB a (.bool true) ac) λad=>(AB b ad (.bool false)).bind λae=>(Af .none .add h (.i6 1)).bind λaj=>l [f,g,c,ae,aj] d) ((Af .none .add c (.i6 1)).bind λak=>(Aw 1 g ak).bind λal=>bP j (AE (Ai 1 al b d)) λ_ am=>(Af .none .add c (.i6 1)).bind λan=>k [f,g,an] am)
noncomputable def UcB (a:Aa)(f:LK)(b c d:Ab)(e:Aa):Out:=(A5 b).bind λg=>(Af .none .lss d g).bind λh=>Ak h (Am (λi vs H=>UcA a f i (ag vs 0) (ag vs 1) (ag vs 2) (ag vs 3) (ag vs 4) H) AP [b,c,d,(.bool true),(.i6 0)] e) (rPN a c e)
noncomputable def Ubj (b:Ab)(a:Aa):Out:=(A5 b).bind λe=>(Af .none .add e (.i6 1)).bind λc=>Ao (F4 1 1 (some [(.bool false)]) c c a) λd f=>(Aw 1 d (.i6 0)).bind λg=>bP a (AE (Ai 1 g (.bool true) f)) λ_ h=>Am (λi vs H=>UcB a i (ag vs 0) (ag vs 1) (ag vs 2) H) AP [b,d,(.i6 0)] h
noncomputable def Ubk (n:Aa)(o:LK)(p:LK)(e f h i j g:Ab)(c:Aa):Out:=(Af .none .lss g (.i6 4)).bind λk=>gk k true (some j) λq=>gk k true (Af .none .gtr q (.i6 0)) λr=>(AB k r (.bool false)).bind λs=>Ak s ((Af .none .sub j (.i6 1)).bind λt=>(Aw 5 e t).bind λu=>(Ac 1 u).bind λv=>(BK 4 1 v g).bind λw=>(Ad false 1 w c).bind λm=>(Af .none .sub (.i6 3) i).bind λx=>(Af .none .neq g x).bind λa=>gk a true (some e) λy=>gk a true (some f) λz=>gk a true (Af .none .sub z (.i6 1)) λaa=>gk a true (Aw 5 y aa) λab=>gk a true (Ac 0 ab) λac=>gk a true (Ad false 1 ac c) λad=>gk a true (Af .none .eql ad (.i6 2)) λae=>gk a true (some ae) λl=>gk l true (some m) λaj=>gk l true (Af .none .neq aj (.i6 0)) λak=>gk a true (AB l ak (.bool false)) λal=>gk a true (some al) λb=>gk b false (some e) λam=>gk b false (some f) λan=>gk b false (Af .none .sub an (.i6 1)) λap=>gk b false (Aw 5 am ap) λaq=>gk b false (Ac 0 aq) λar=>gk b false (Ad false 1 ar c) λau=>gk b false (Af .none .gtr au (.i6 2)) λav=>gk b false (some av) λd=>gk d true (some h) λaw=>gk d true (some m) λax=>gk d true (Aw 1 aw ax) λay=>gk d true (Ad false 1 ay c) λaz=>gk d true (unA .not az) λa0=>gk b false (AB d a0 (.bool false)) λa1=>gk a true (AB b (.bool true) a1) λa2=>(AB a a2 (.bool false)).bind λa3=>Ak a3 (rK n (.bool false) c) ((Af .none .add g (.i6 1)).bind λa4=>p [e,f,h,i,j,a4] c)) ((Af .none .add i (.i6 1)).bind λa5=>o [e,f,h,a5] c)
noncomputable def UcC (c:Aa)(f:LK)(d e g a:Ab)(b:Aa):Out:=(Af .none .lss a (.i6 4)).bind λh=>Ak h ((Af .none .sub e (.i6 1)).bind λi=>(Aw 5 d i).bind λj=>(Ac 1 j).bind λk=>(BK 4 1 k a).bind λl=>(Ad false 1 l b).bind λm=>Am (λn vs H=>Ubk c f n (ag vs 0) (ag vs 1) (ag vs 2) (ag vs 3) (ag vs 4) (ag vs 5) H) AP [d,e,g,a,m,(.i6 0)] b) (rK c (.bool true) b)
noncomputable def UcD (c d:Ab)(b:Aa):Out:=(Af .none .eql d (.i6 0)).bind λa=>gk a false (some c) λe=>gk a false (some d) λf=>gk a false (Af .none .sub f (.i6 1)) λg=>gk a false (Aw 5 e g) λh=>gk a false (Ac 0 h) λi=>gk a false (Ad false 1 i b) λj=>gk a false (Af .none .lss j (.i6 2)) λk=>(AB a (.bool true) k).bind λl=>Ak l (rK b (.bool false) b) (bK b (Ubj c b) λm n=>Am (λo vs H=>UcC b o (ag vs 0) (ag vs 1) (ag vs 2) (ag vs 3) H) AP [c,d,m,(.i6 0)] n)
noncomputable def Ubl (h:Aa)(a:LK)(b c d e:Ab)(f:Aa):Out:=(Af .none .add e (.i6 1)).bind λg=>a [b,c,d,g] f
noncomputable def UcE (f:Aa)(self:Ab->Ab->Ab->Aa->Out)(h:LK)(b c g e:Ab)(d:Aa):Out:=(Af .none .lss e (.i6 4)).bind λi=>Ak i (AM (λj3=>(Af .none .sub c (.i6 1)).bind λj=>(Aw 5 b j).bind λk=>(Ac 0 k).bind λl=>(Ad false 1 l d).bind λm=>(Af .none .gtr m (.i6 1)).bind λa=>gk a true (some b) λn=>gk a true (some c) λo=>gk a true (Af .none .sub o (.i6 1)) λp=>gk a true (some e) λq=>gk a true (Aw 5 n p) λr=>gk a true (Ac 1 r) λs=>gk a true (BK 4 1 s q) λt=>gk a true (Ad false 1 t d) λu=>gk a true (Af .none .gtr u (.i6 0)) λv=>(AB a v (.bool false)).bind λw=>Ak w ((Af .none .sub c (.i6 1)).bind λx=>(Aw 5 b x).bind λy=>(Ac 1 y).bind λz=>(BK 4 1 z e).bind λaa=>(Ad false 1 aa d).bind λab=>bK f (self b ab g d) λac ad=>j3 [b,c,ac,e] ad) (j3 [b,c,g,e] d)) (λvs H=>Ubl f h (ag vs 0) (ag vs 1) (ag vs 2) (ag vs 3) H)) ((AN 1 [c]).bind λae=>bK f (Cy (Bf Gh 1 8 g ae d)) λaj ak=>rK f aj ak)
noncomputable def UcF (e:Aa)(self:Ab->Ab->Ab->Aa->Out)(g:LK)(f c a d:Ab)(b:Aa):Out:=(A5 a).bind λh=>(Af .none .lss d h).bind λi=>Ak i ((Aw 1 a d).bind λj=>(Ad false 1 j b).bind λk=>(Af .none .eql k c).bind λl=>Ak l (rK e a b) ((Af .none .add d (.i6 1)).bind λm=>g [f,c,a,m] b)) (Am (λn vs H=>UcE e self n (ag vs 0) (ag vs 1) (ag vs 2) (ag vs 3) H) AP [f,c,a,(.i6 0)] b)
noncomputable def UdJ (self:Ab->Ab->Ab->Aa->Out)(b c d:Ab)(a:Aa):Out:=Am (λe vs H=>UcF a self e (ag vs 0) (ag vs 1) (ag vs 2) (ag vs 3) H) AP [b,c,d,(.i6 0)] a
noncomputable def Ue3:Nat->Ab->Ab->Ab->Aa->Out | 0=>λ_ _ _ _=>none | d+1=>UdJ (Ue3 d)
noncomputable def UcG (f:Aa)(g:LK)(h:LK)(b e c d:Ab)(a:Aa):Out:=(Af .none .lss d c).bind λi=>Ak i ((Aw 5 b c).bind λj=>bC (Ad true 5 j a) (λ_=>True) λk=>(Aw 5 b d).bind λl=>bC (Ad true 5 l a) (λ_=>True) λm=>(Af (.flat 5) .eql k m).bind λn=>Ak n (rP f (.bool false) a) ((Af .none .add d (.i6 1)).bind λo=>h [b,e,c,o] a)) ((Af .none .add c (.i6 1)).bind λp=>g [b,e,p] a)
noncomputable def UcH (d:Aa)(f:LK)(e a b:Ab)(c:Aa):Out:=(A5 a).bind λg=>(Af .none .lss b g).bind λh=>Ak h ((Aw 1 a b).bind λi=>(Ad false 1 i c).bind λj=>(Af .none .add b (.i6 1)).bind λk=>(Af .none .neq j k).bind λl=>Ak l (rP d (.bool false) c) ((Af .none .add b (.i6 1)).bind λm=>f [e,a,m] c)) ((A5 a).bind λn=>(A5 e).bind λo=>(Af .none .eql n o).bind λp=>rP d p c)
noncomputable def UcI (b:Aa)(f:LK)(a e d:Ab)(c:Aa):Out:=(A5 a).bind λg=>(Af .none .lss d g).bind λh=>Ak h ((Af .none .add d (.i6 1)).bind λi=>(Aw 1 e i).bind λj=>(Ad false 1 j c).bind λk=>Ak k (rP b (.bool false) c) (Am (λl vs H=>UcG b f l (ag vs 0) (ag vs 1) (ag vs 2) (ag vs 3) H) AP [a,e,d,(.i6 0)] c)) ((A5 a).bind λm=>bP b (Ue3 AP a m (.sl [] .ti) c) λn o=>Am (λp vs H=>UcH b p (ag vs 0) (ag vs 1) (ag vs 2) H) AP [a,n,(.i6 0)] o)
noncomputable def UcJ (g:Ab)(a:Aa):Out:=Ao (B3 true 1 g a) λh d=>(Ac 0 h).bind λi=>(Ad false 1 i d).bind λb=>(A5 b).bind λj=>(Af .none .eql j (.i6 0)).bind λk=>Ak k (rP a (.bool true) d) (bP a (Uc9 b d) λl e=>(unA .not l).bind λc=>gk c false (some b) λm=>gk c false (some b) λn=>gk c false (A5 n) λo=>gbP a c false e (UcD m o e) λp f=>(AB c (.bool true) p).bind λq=>Ak q (rP a (.bool false) f) (bP a (Ubj b f) λr s=>Am (λt vs H=>UcI a t (ag vs 0) (ag vs 1) (ag vs 2) H) AP [b,r,(.i6 0)] s))
noncomputable def UcK (f:Ab)(a:Aa):Out:=Ao (B3 true 2 f a) λd e=>(Ac 0 d).bind λg=>(Ad false 1 g e).bind λh=>bP a (Uc6 h e) λb c=>gk b true (Ac 1 d) λi=>gk b true (Ad true 1 i c) λj=>gbP a b true c (UcJ j c) λk l=>(AB b k (.bool false)).bind λm=>rP a m l
noncomputable def Ubm (g:Ab)(f:Aa):Out:=Ao (B3 true 2 g f) λb a=>(Ac 0 b).bind λh=>(Ad false 1 h a).bind λi=>(Af .none .geq i (.i6 0)).bind λc=>gk c true (Ac 0 b) λj=>gk c true (Ad false 1 j a) λk=>gk c true (Af .none .leq k (.i6 1000)) λl=>(AB c l (.bool false)).bind λd=>gk d true (Ac 1 b) λm=>gk d true (Ad false 1 m a) λn=>gk d true (Af .none .geq n (.i6 0)) λo=>(AB d o (.bool false)).bind λe=>gk e true (Ac 1 b) λp=>gk e true (Ad false 1 p a) λq=>gk e true (Af .none .leq q (.i6 100000)) λr=>(AB e r (.bool false)).bind λs=>rP f s a
noncomputable def UcL (d:Aa)(e:LK)(b:Ab)(c:Aa):Out:=(A5 b).bind λf=>(Af .none .gtr f (.i6 0)).bind λa=>gk a true (some b) λg=>gk a true (some b) λh=>gk a true (A5 h) λi=>gk a true (Af .none .sub i (.i6 1)) λj=>gk a true (Aw 1 g j) λk=>gk a true (Ad false 1 k c) λl=>gk a true (unA .not l) λm=>(AB a m (.bool false)).bind λn=>Ak n ((A5 b).bind λo=>(Af .none .sub o (.i6 1)).bind λp=>(BS 1 b none (some p) none).bind λq=>e [q] c) (rKN d b c)
noncomputable def UaA (b:Ab)(a:Aa):Out:=Am (λc vs H=>UcL a c (ag vs 0) H) AP [b] a
noncomputable def UdK (g:Aa)(h:LK)(i:LK)(a b c d e:Ab)(f:Aa):Out:=(Af .none .lss e (.i6 32)).bind λj=>Ak j ((Af .none .rem d (.int .u32 2)).bind λk=>(Af .none .eql k (.int .u32 1)).bind λl=>(AN 1 [l]).bind λm=>bP g (Cy (Bf BW 1 1 b m f)) λn o=>(Af .none .quo d (.int .u32 2)).bind λp=>(Af .none .add e (.i6 1)).bind λq=>i [a,n,c,p,q] o) ((Af .none .add c (.i6 1)).bind λr=>h [a,b,r] f)
noncomputable def Ubo (a:Aa)(f:LK)(b e c:Ab)(d:Aa):Out:=(A5 b).bind λg=>(Af .none .lss c g).bind λh=>Ak h ((Aw 1 b c).bind λi=>(Ad false 1 i d).bind λj=>Am (λk vs H=>UdK a f k (ag vs 0) (ag vs 1) (ag vs 2) (ag vs 3) (ag vs 4) H) AP [b,e,c,j,(.i6 0)] d) (bP a (UaA e d) λl m=>rPN a l m)
noncomputable def Ucz (b:Ab)(a:Aa):Out:=Am (λc vs H=>Ubo a c (ag vs 0) (ag vs 1) (ag vs 2) H) AP [b,(.sl [] .ti),(.i6 0)] a
noncomputable def UdL (k:Aa)(a:LK)(b c d e f g:Ab)(h:Aa):Out:=(Af .none .mul f (.int .u32 2)).bind λi=>(Af .none .add g (.i6 1)).bind λj=>a [b,c,d,e,i,j] h
noncomputable def Ueh (i:Aa)(j:LK)(k:LK)(a f d g h b:Ab)(e:Aa):Out:=(A5 a).bind λl=>(Af .none .lss b l).bind λc=>gk c true (some b) λm=>gk c true (some d) λn=>gk c true (Af .none .add n (.i6 32)) λo=>gk c true (Af .none .lss m o) λp=>(AB c p (.bool false)).bind λq=>Ak q (AM (λj3=>(Aw 1 a b).bind λr=>(Ad false 1 r e).bind λs=>Ak s ((Af .none .add g h).bind λt=>j3 [a,f,d,t,h,b] e) (j3 [a,f,d,g,h,b] e)) (λvs H=>UdL i k (ag vs 0) (ag vs 1) (ag vs 2) (ag vs 3) (ag vs 4) (ag vs 5) H)) ((AN 1 [g]).bind λu=>bP i (Cy (Bf Cd 1 4 f u e)) λv w=>(Af .none .add d (.i6 32)).bind λx=>j [a,v,x] w)
noncomputable def UcM (b:Aa)(f:LK)(c d a:Ab)(e:Aa):Out:=(A5 c).bind λg=>(Af .none .lss a g).bind λh=>Ak h (Am (λi vs H=>Ueh b f i (ag vs 0) (ag vs 1) (ag vs 2) (ag vs 3) (ag vs 4) (ag vs 5) H) AP [c,d,a,(.int .u32 0),(.int .u32 1),a] e) (rPN b d e)
noncomputable def Ue8 (b:Ab)(a:Aa):Out:=bP a (UaA b a) λc d=>Am (λe vs H=>UcM a e (ag vs 0) (ag vs 1) (ag vs 2) H) AP [c,(.sl [] .ti),(.i6 0)] d
noncomputable def Ual (b:Ab)(a:Aa):Out:=bK a (Ucz b a) λc d=>bK a (Ue8 c d) λe f=>rKN a e f
noncomputable def Uez (a f:Ab)(b:Aa):Out:=Ao (A3 (some [(.bool false),(.sl [] .ti)]) b) λc g=>bP b (Ual f g) λd h=>gk a true (some d) λi=>gk a true (A5 i) λj=>gk a true (Af .none .gtr j (.i6 0)) λk=>(AB a k (.bool false)).bind λl=>(AD (some [(.bool false),(.sl [] .ti)]) [(0,1,l),(1,1,d)]).bind λm=>bP b (AE (Ai 2 c m h)) λ_ e=>(Ad true 2 c e).bind λn=>rPN b n e
noncomputable def UdM (a:Aa)(e b c:Ab)(f:Aa):Out:=(Af .none .lss e (.i6 0)).bind λg=>(Af .none .rem c (.int .u64 4294967296)).bind λh=>(AC .u32 h).bind λi=>(Af .none .quo c (.int .u64 4294967296)).bind λj=>(AC .u32 j).bind λk=>(AN 1 [i,k]).bind λl=>bP a (Uez g l f) λm n=>bP a (AE (Ai 2 b m n)) λ_ d=>(Ad true 2 b d).bind λo=>rPN a o d
noncomputable def Ue0 (a:Ab)(b:Aa):Out:=Ao (A3 (some [(.bool false),(.sl [] .ti)]) b) λc d=>(AC .u64 a).bind λe=>AM (λj1=>(Af .none .lss a (.i6 0)).bind λf=>Ak f ((unA .neg e).bind λg=>j1 [a,c,g] d) (j1 [a,c,e] d)) (λvs H=>UdM b (ag vs 0) (ag vs 1) (ag vs 2) H)
noncomputable def UcN (d a:Ab)(b:Aa):Out:=(Af .none .lss a (.i6 0)).bind λc=>gk c false (some a) λe=>gk c false (Af .none .gtr e (.i6 10000)) λf=>(AB c (.bool true) f).bind λg=>Ak g (rPN b (.sl [] .ti) b) (AW (Ucz d b) λh i=>Ao (F4 1 1 (some [(.bool false)]) a a i) λj k=>AW (Cy (Bf BW 1 1 j h k)) λl m=>AW (Ue8 l m) λn o=>rPN b n o)
noncomputable def UcO (i j:Ab)(a:Aa):Out:=Ao (B3 true 2 i a) λd k=>Ao (A3 (some [(.bool false),(.sl [] .ti)]) k) λe b=>(Ac 1 d).bind λl=>bC (Ad false 1 l b) (λ_=>True) λm=>AW (UcN m j b) λn f=>(Ac 0 d).bind λg=>bC (Ad false 1 g f) (λc=>Ad false 1 g b=some c/\True) λc=>AW (Uez c n f) λo p=>bP a (AE (Ai 2 e o p)) λ_ h=>(Ad true 2 e h).bind λq=>rPN a q h
noncomputable def Ue9 (d:Ab)(a:Aa):Out:=Ao (A3 (some [(.bool false),(.sl [] .ti)]) a) λb e=>bP a (Ue0 (.i6 1) e) λf g=>bP a (UcO f d g) λh i=>bP a (AE (Ai 2 b h i)) λ_ c=>(Ad true 2 b c).bind λj=>rPN a j c
noncomputable def Uda (e c:Ab)(d:Aa):Out:=(Af .none .geq c (.i6 0)).bind λa=>gk a true (some c) λf=>gk a true (some e) λg=>gk a true (A5 g) λh=>gk a true (Af .none .lss f h) λi=>(AB a i (.bool false)).bind λb=>gk b true (some e) λj=>gk b true (some c) λk=>gk b true (Aw 1 j k) λl=>gk b true (Ad false 1 l d) λm=>(AB b m (.bool false)).bind λn=>rK d n d
noncomputable def Uei (b:Aa)(c:LK)(d e f g a:Ab)(h:Aa):Out:=(Af .none .rem a (.i6 2)).bind λi=>(Af .none .eql i (.i6 1)).bind λj=>(AN 1 [j]).bind λk=>bP b (Cy (Bf BW 1 1 f k h)) λl m=>(Af .none .gtr a (.i6 1)).bind λn=>(Af .none .add g (.i6 1)).bind λo=>c [d,e,l,n,o] m
noncomputable def Uej (g:Aa)(h:LK)(a b c i d e:Ab)(f:Aa):Out:=AM (λj4=>Ak i ((Af .none .add e (.i6 1)).bind λj=>j4 [a,b,c,d,j] f) (j4 [a,b,c,d,e] f)) (λvs H=>Uei g h (ag vs 0) (ag vs 1) (ag vs 2) (ag vs 3) (ag vs 4) H)
noncomputable def Uek (c:Aa)(i:LK)(d a e f b g:Ab)(j:Aa):Out:=AM (λj3=>bP c (Uda a b j) λk h=>Ak k ((Af .none .add g (.i6 1)).bind λl=>j3 [d,a,e,f,b,l] h) (j3 [d,a,e,f,b,g] h)) (λvs H=>Uej c i (ag vs 0) (ag vs 1) (ag vs 2) (ag vs 3) (ag vs 4) (ag vs 5) H)
noncomputable def Uel (a:Aa)(i:LK)(b d e f c:Ab)(g:Aa):Out:=(A5 b).bind λj=>(A5 d).bind λk=>(GG IS j [k]).bind λl=>(Af .none .leq c l).bind λm=>Ak m (AM (λj2=>bP a (Uda b c g) λn h=>Ak n ((Af .none .add (.i6 0) (.i6 1)).bind λo=>j2 [b,d,e,f,c,o] h) (j2 [b,d,e,f,c,(.i6 0)] h)) (λvs H=>Uek a i (ag vs 0) (ag vs 1) (ag vs 2) (ag vs 3) (ag vs 4) (ag vs 5) H)) (bP a (Ue8 e g) λp q=>rPN a p q)
noncomputable def UcP (b c:Ab)(a:Aa):Out:=bP a (Ucz b a) λd e=>bP a (Ucz c e) λf g=>Am (λh vs H=>Uel a h (ag vs 0) (ag vs 1) (ag vs 2) (ag vs 3) (ag vs 4) H) AP [d,f,(.sl [] .ti),(.bool false),(.i6 0)] g
noncomputable def Uen (a:Aa)(h:LK)(c d b:Ab)(e:Aa):Out:=(Af .none .geq b (.i6 0)).bind λi=>Ak i (bK a (Uda c b e) λj k=>bK a (Uda d b k) λl f=>(Af .bool .neq j l).bind λm=>Ak m (bK a (Uda c b f) λn g=>Ak n (rK a (.i6 1) g) (rK a (.i6 (-1)) g)) ((Af .none .sub b (.i6 1)).bind λo=>h [c,d,o] f)) (rK a (.i6 0) e)
noncomputable def UcQ (d e:Ab)(a:Aa):Out:=bK a (Ucz d a) λb f=>bK a (Ucz e f) λc g=>(A5 b).bind λh=>(A5 c).bind λi=>(GG IS h [i]).bind λj=>(Af .none .sub j (.i6 1)).bind λk=>Am (λl vs H=>Uen a l (ag vs 0) (ag vs 1) (ag vs 2) H) AP [b,c,k] g
noncomputable def Ueo (a:Aa)(b:LK)(c d e f g h:Ab)(i:Aa):Out:=(Af .none .eql h (.i6 1)).bind λj=>(AN 1 [j]).bind λk=>bP a (Cy (Bf BW 1 1 e k i)) λl m=>(Af .none .add g (.i6 1)).bind λn=>b [c,d,l,f,n] m
noncomputable def Uep (g:Aa)(h:LK)(b c d e a:Ab)(f:Aa):Out:=AM (λj4=>(Af .none .lss a (.i6 0)).bind λi=>Ak i ((Af .none .add a (.i6 2)).bind λj=>j4 [b,c,d,(.i6 1),e,j] f) (j4 [b,c,d,(.i6 0),e,a] f)) (λvs H=>Ueo g h (ag vs 0) (ag vs 1) (ag vs 2) (ag vs 3) (ag vs 4) (ag vs 5) H)
noncomputable def Ueq (c:Aa)(h:LK)(d a e b f:Ab)(i:Aa):Out:=AM (λj3=>bP c (Uda a b i) λj g=>Ak j ((Af .none .sub f (.i6 1)).bind λk=>j3 [d,a,e,b,k] g) (j3 [d,a,e,b,f] g)) (λvs H=>Uep c h (ag vs 0) (ag vs 1) (ag vs 2) (ag vs 3) (ag vs 4) H)
noncomputable def Uer (a:Aa)(i:LK)(b e d j c:Ab)(f:Aa):Out:=(A5 b).bind λk=>(Af .none .lss c k).bind λl=>Ak l ((unA .neg j).bind λg=>AM (λj2=>bP a (Uda b c f) λm h=>Ak m ((Af .none .add g (.i6 1)).bind λn=>j2 [b,e,d,c,n] h) (j2 [b,e,d,c,g] h)) (λvs H=>Ueq a i (ag vs 0) (ag vs 1) (ag vs 2) (ag vs 3) (ag vs 4) H)) (bP a (Ue8 d f) λo p=>rPN a (.tup [o,(.bool true)]) p)
noncomputable def Ubp (b c:Ab)(a:Aa):Out:=bP a (UcQ b c a) λe d=>(Af .none .lss e (.i6 0)).bind λf=>Ak f (rPN a (.tup [(.sl [] .ti),(.bool false)]) d) (bP a (Ucz b d) λg h=>bP a (Ucz c h) λi j=>Am (λk vs H=>Uer a k (ag vs 0) (ag vs 1) (ag vs 2) (ag vs 3) (ag vs 4) H) AP [g,i,(.sl [] .ti),(.i6 0),(.i6 0)] j)
noncomputable def UbO (p q:Ab)(a:Aa):Out:=Ao (B3 true 2 p a) λc r=>Ao (B3 true 2 q r) λe s=>Ao (A3 (some [(.bool false),(.sl [] .ti)]) s) λd b=>(Ac 0 c).bind λt=>(Ad false 1 t b).bind λu=>(Ac 0 e).bind λv=>(Ad false 1 v b).bind λw=>(Af .bool .eql u w).bind λx=>Ak x ((Ac 1 c).bind λy=>bC (Ad false 1 y b) (λ_=>True) λz=>(Ac 1 e).bind λaa=>bC (Ad false 1 aa b) (λ_=>True) λab=>AW (UcP z ab b) λac h=>(Ac 0 c).bind λi=>bC (Ad false 1 i h) (λg=>Ad false 1 i b=some g/\True) λg=>AW (Uez g ac h) λad ae=>bP a (AE (Ai 2 d ad ae)) λ_ j=>(Ad true 2 d j).bind λaj=>rPN a aj j) ((Ac 1 c).bind λak=>(Ad false 1 ak b).bind λal=>(Ac 1 e).bind λam=>(Ad false 1 am b).bind λan=>bP a (Ubp al an b) λk f=>(At 0 k).bind λap=>(At 1 k).bind λaq=>Ak aq ((Ac 0 c).bind λar=>(Ad false 1 ar f).bind λau=>bP a (Uez au ap f) λav aw=>bP a (AE (Ai 2 d av aw)) λ_ l=>(Ad true 2 d l).bind λax=>rPN a ax l) ((Ac 1 e).bind λay=>(Ad false 1 ay f).bind λaz=>(Ac 1 c).bind λa0=>(Ad false 1 a0 f).bind λa1=>bP a (Ubp az a1 f) λm n=>(At 0 m).bind λa2=>(At 1 m).bind λa8=>(Ac 0 e).bind λa3=>(Ad false 1 a3 n).bind λa4=>bP a (Uez a4 a2 n) λa5 a6=>bP a (AE (Ai 2 d a5 a6)) λ_ o=>(Ad true 2 d o).bind λa7=>rPN a a7 o))
noncomputable def UeF (f:Ab)(a:Aa):Out:=Ao (B3 true 2 f a) λc g=>Ao (A3 (some [(.bool false),(.sl [] .ti)]) g) λd b=>(Ac 0 c).bind λh=>(Ad false 1 h b).bind λi=>(unA .not i).bind λj=>(Ac 1 c).bind λk=>(Ad false 1 k b).bind λl=>bP a (Uez j l b) λm n=>bP a (AE (Ai 2 d m n)) λ_ e=>(Ad true 2 d e).bind λo=>rPN a o e
noncomputable def Ue4 (h i:Ab)(a:Aa):Out:=Ao (B3 true 2 h a) λd j=>Ao (B3 true 2 i j) λk l=>Ao (A3 (some [(.bool false),(.sl [] .ti)]) l) λe b=>bC (Ad true 2 k b) (λ_=>True) λm=>AW (UeF m b) λn f=>bC (Ad true 2 d f) (λc=>Ad true 2 d b=some c/\True) λc=>AW (UbO c n f) λo p=>bP a (AE (Ai 2 e o p)) λ_ g=>(Ad true 2 e g).bind λq=>rPN a q g
noncomputable def Uev (e f:Ab)(a:Aa):Out:=Ao (B3 true 2 e a) λg h=>Ao (B3 true 2 f h) λi c=>(Ad true 2 g c).bind λj=>(Ad true 2 i c).bind λk=>bP a (Ue4 j k c) λl m=>Ao (A3 (some [(.bool false),(.sl [] .ti)]) m) λd n=>bP a (AE (Ai 2 d l n)) λ_ b=>(Ac 1 d).bind λo=>(Ad false 1 o b).bind λp=>(A5 p).bind λq=>(Af .none .eql q (.i6 0)).bind λr=>Ak r (rP a (.i6 0) b) ((Ac 0 d).bind λs=>(Ad false 1 s b).bind λt=>Ak t (rP a (.i6 (-1)) b) (rP a (.i6 1) b))
noncomputable def Uam (l:Aa)(a:LK)(b c d e f g h i:Ab)(j:Aa):Out:=(Af .none .add i (.i6 1)).bind λk=>a [b,c,d,e,f,g,h,k] j
noncomputable def Ubq (m:Aa)(j3:LK)(f g h b c i j k l:Ab)(d:Aa):Out:=(unA .not j).bind λa=>gkc a false (Ad true 2 l d) (λ_ _=>True) λn=>gk a false (some b) λo=>gk a false (some c) λp=>gk a false (Af .none .add p (.i6 1)) λq=>gk a false (Aw 2 o q) λr=>gkc a false (Ad true 2 r d) (λ_ _=>True) λs=>gbN a false d (Uev n s d) λt e=>gk a false (Af .none .lss t (.i6 0)) λu=>(AB a (.bool true) u).bind λv=>Ak v ((Af .none .add c (.i6 1)).bind λw=>bC (Ad true 2 l e) (λ_=>True) λx=>(Aw 2 b w).bind λy=>bP m (AE (Ai 2 y x e)) λ_ z=>j3 [f,g,h,b,c,i,(.bool true),k] z) (j3 [f,g,h,b,c,i,j,k] e)
noncomputable def UcR (g:Aa)(j3:LK)(a h i d b j k l o m:Ab)(e:Aa):Out:=(Aw 5 a b).bind λp=>(Ac 1 p).bind λq=>(BK 4 1 q o).bind λr=>(Ad false 1 r e).bind λn=>(Af .none .eql n (.i6 0)).bind λs=>Ak s (j3 [a,h,i,d,b,j,k,l] e) ((Ad true 2 m e).bind λt=>Ao (A3 (some [(.bool false),(.sl [] .ti)]) e) λf u=>bP g (AE (Ai 2 f t u)) λ_ c=>AM (λj5=>(Aw 5 a b).bind λv=>(Ac 0 v).bind λw=>(Ad false 1 w c).bind λx=>(Af .none .gtr x (.i6 1)).bind λy=>Ak y (bC (Ad true 2 m c) (λ_=>True) λz=>(Aw 2 d n).bind λaa=>bC (Ad true 2 aa c) (λ_=>True) λab=>AW (UbO z ab c) λac ad=>bP g (AE (Ai 2 f ac ad)) λ_ ae=>j5 [a,h,i,d,b,j,k,l,f] ae) (j5 [a,h,i,d,b,j,k,l,f] c)) (λvs H=>Ubq g j3 (ag vs 0) (ag vs 1) (ag vs 2) (ag vs 3) (ag vs 4) (ag vs 5) (ag vs 6) (ag vs 7) (ag vs 8) H))
noncomputable def UcS (b:Aa)(m:LK)(n:LK)(g c d h i j l a:Ab)(k:Aa):Out:=(Af .none .lss a (.i6 4)).bind λo=>Ak o (AM (λj3=>(Af .none .rem a (.i6 2)).bind λp=>(BK 2 1 c p).bind λq=>(Ad false 1 q k).bind λr=>(AD (some [(.bool false),(.sl [] .ti)]) []).bind λs=>Ao (A3 (some [(.bool false),(.sl [] .ti)]) k) λe t=>bP b (AE (Ai 2 e s t)) λ_ f=>AM (λj4=>(Af .none .gtr a (.i6 1)).bind λu=>Ak u ((Af .none .rem a (.i6 2)).bind λv=>(BK 2 1 d v).bind λw=>bC (Ad false 1 w f) (λ_=>True) λx=>bC (Ad true 2 j f) (λ_=>True) λy=>bP b (AE (Ai 2 e y f)) λ_ z=>j4 [g,c,d,h,i,j,l,a,x,e] z) (j4 [g,c,d,h,i,j,l,a,r,e] f)) (λvs H=>UcR b j3 (ag vs 0) (ag vs 1) (ag vs 2) (ag vs 3) (ag vs 4) (ag vs 5) (ag vs 6) (ag vs 7) (ag vs 8) (ag vs 9) H)) (λvs H=>Uam b n (ag vs 0) (ag vs 1) (ag vs 2) (ag vs 3) (ag vs 4) (ag vs 5) (ag vs 6) (ag vs 7) H)) ((Af .none .add i (.i6 1)).bind λaa=>m [g,c,d,h,aa] k)
noncomputable def UcT (a:Aa)(g:LK)(b h i e c:Ab)(d:Aa):Out:=(A5 b).bind λj=>(Af .none .lss c j).bind λk=>Ak k ((Aw 5 b c).bind λl=>(Ac 0 l).bind λm=>(Ad false 1 m d).bind λn=>(Af .none .sub n (.i6 1)).bind λo=>bP a (Ue9 o d) λp q=>Ao (A3 (some [(.bool false),(.sl [] .ti)]) q) λf r=>bP a (AE (Ai 2 f p r)) λ_ s=>Am (λt vs H=>UcS a g t (ag vs 0) (ag vs 1) (ag vs 2) (ag vs 3) (ag vs 4) (ag vs 5) (ag vs 6) (ag vs 7) H) AP [b,h,i,e,c,f,(.bool false),(.i6 0)] s) (rPN a e d)
noncomputable def Uan (a d e:Ab)(b:Aa):Out:=Ao (B3 true 2 d b) λf g=>Ao (B3 true 2 e g) λh i=>(A5 a).bind λj=>(Af .none .add j (.i6 1)).bind λc=>Ao (F4 2 32 (some [(.bool false),(.sl [] .ti)]) c c i) λk l=>Am (λm vs H=>UcT b m (ag vs 0) (ag vs 1) (ag vs 2) (ag vs 3) (ag vs 4) H) AP [a,f,h,k,(.i6 0)] l
noncomputable def Ubr (d:Ab)(b:Aa):Out:=Ao (B3 true 1 d b) λc a=>(Ac 0 c).bind λe=>(Ad false 1 e a).bind λf=>(A5 f).bind λg=>(Af .none .eql g (.i6 0)).bind λh=>Ak h (rP b (.i6 0) a) ((Ac 0 c).bind λi=>(Ad false 1 i a).bind λj=>(Ac 0 c).bind λk=>(Ad false 1 k a).bind λl=>(A5 l).bind λm=>(Af .none .sub m (.i6 1)).bind λn=>(Aw 5 j n).bind λo=>(Ac 0 o).bind λp=>(Ad false 1 p a).bind λq=>rP b q a)
noncomputable def Uao (ap:Ab)(a:Aa):Out:=Ao (B3 true 1 ap a) λh aq=>Ao (A3 (some [(.bool false),(.sl [] .ti),(.bool false),(.sl [] .ti),(.bool false),(.sl [] .ti),(.bool false),(.sl [] .ti)]) aq) λp q=>(Ac 0 h).bind λar=>(Ad false 1 ar q).bind λau=>(A5 au).bind λl=>(Af .none .eql l (.i6 0)).bind λav=>Ak av ((AD (some [(.bool false),(.sl [] .ti),(.bool false),(.sl [] .ti),(.bool false),(.sl [] .ti),(.bool false),(.sl [] .ti)]) []).bind λaw=>bP a (AE (Ai 8 p aw q)) λ_ y=>(GP [Ad true 8 p y,some (.bool false)]).bind λax=>rPN a ax y) ((Ac 0 h).bind λay=>(Ad false 1 ay q).bind λaz=>(AD (some [(.i6 0),(.i6 0)]) [(0,1,(.i6 0)),(1,1,(.i6 2))]).bind λa0=>(AD (some [(.i6 0),(.i6 0)]) [(0,1,(.i6 1)),(1,1,(.i6 3))]).bind λa1=>bP a (Uan az a0 a1 q) λa2 z=>(Aw 2 a2 l).bind λa3=>(Ad true 2 a3 z).bind λa4=>Ao (A3 (some [(.bool false),(.sl [] .ti)]) z) λm a5=>bP a (AE (Ai 2 m a4 a5)) λ_ aa=>(Ac 0 h).bind λa6=>(Ad false 1 a6 aa).bind λa7=>(AD (some [(.i6 0),(.i6 0)]) [(0,1,(.i6 1)),(1,1,(.i6 3))]).bind λa8=>(AD (some [(.i6 0),(.i6 0)]) [(0,1,(.i6 0)),(1,1,(.i6 2))]).bind λa9=>bP a (Uan a7 a8 a9 aa) λba ab=>(Aw 2 ba l).bind λbb=>(Ad true 2 bb ab).bind λbc=>Ao (A3 (some [(.bool false),(.sl [] .ti)]) ab) λr bd=>bP a (AE (Ai 2 r bc bd)) λ_ ac=>(Ac 0 h).bind λbe=>(Ad false 1 be ac).bind λbg=>(AD (some [(.i6 0),(.i6 0)]) [(0,1,(.i6 0)),(1,1,(.i6 1))]).bind λbj=>(AD (some [(.i6 0),(.i6 0)]) [(0,1,(.i6 2)),(1,1,(.i6 3))]).bind λbk=>bP a (Uan bg bj bk ac) λbl ad=>(Aw 2 bl l).bind λbm=>(Ad true 2 bm ad).bind λbp=>Ao (A3 (some [(.bool false),(.sl [] .ti)]) ad) λe bq=>bP a (AE (Ai 2 e bp bq)) λ_ ae=>(Ac 0 h).bind λbr=>(Ad false 1 br ae).bind λbt=>(AD (some [(.i6 0),(.i6 0)]) [(0,1,(.i6 2)),(1,1,(.i6 3))]).bind λbu=>(AD (some [(.i6 0),(.i6 0)]) [(0,1,(.i6 0)),(1,1,(.i6 1))]).bind λbv=>bP a (Uan bt bu bv ae) λbw aj=>(Aw 2 bw l).bind λbz=>(Ad true 2 bz aj).bind λb0=>Ao (A3 (some [(.bool false),(.sl [] .ti)]) aj) λi b1=>bP a (AE (Ai 2 i b0 b1)) λ_ ak=>(Ad true 1 h ak).bind λb2=>bP a (Ubr b2 ak) λal b3=>bP a (Ue9 al b3) λb4 b5=>(Af .none .sub al (.i6 1)).bind λb6=>bP a (Ue9 b6 b5) λb7 b8=>bP a (UeF b7 b8) λb9 ca=>Ao (A3 (some [(.bool false),(.sl [] .ti)]) ca) λb cb=>Ao (A3 (some [(.bool false),(.sl [] .ti)]) cb) λs cc=>bP a (AE (Ai 2 b b4 cc)) λ_ cd=>bP a (AE (Ai 2 s b9 cd)) λ_ c=>bC (Ad true 2 s c) (λ_=>True) λce=>bC (Ad true 2 m c) (λ_=>True) λcg=>AW (UbO ce cg c) λcj d=>bC (Ad true 2 s d) (λw=>Ad true 2 s c=some w/\True) λw=>bC (Ad true 2 e d) (λx=>Ad true 2 e c=some x/\True) λx=>AW (UbO w x d) λck f=>bC (Ad true 2 m f) (λt=>Ad true 2 m d=some t/\Ad true 2 m c=some t/\True) λt=>bC (Ad true 2 r f) (λu=>Ad true 2 r d=some u/\Ad true 2 r c=some u/\True) λu=>AW (UbO t u f) λcl n=>bC (Ad true 2 b n) (λo=>Ad true 2 b f=some o/\Ad true 2 b d=some o/\Ad true 2 b c=some o/\True) λo=>AW (Ue4 o cl n) λcm v=>bC (Ad true 2 e v) (λj=>Ad true 2 e n=some j/\Ad true 2 e f=some j/\Ad true 2 e d=some j/\Ad true 2 e c=some j/\True) λj=>bC (Ad true 2 i v) (λk=>Ad true 2 i n=some k/\Ad true 2 i f=some k/\Ad true 2 i d=some k/\Ad true 2 i c=some k/\True) λk=>AW (UbO j k v) λcn am=>bC (Ad true 2 b am) (λg=>Ad true 2 b v=some g/\Ad true 2 b n=some g/\Ad true 2 b f=some g/\Ad true 2 b d=some g/\Ad true 2 b c=some g/\True) λg=>AW (Ue4 g cn am) λcp cq=>(AD (some [(.bool false),(.sl [] .ti),(.bool false),(.sl [] .ti),(.bool false),(.sl [] .ti),(.bool false),(.sl [] .ti)]) [(0,2,cj),(2,2,ck),(4,2,cm),(6,2,cp)]).bind λcr=>AW (AE (Ai 8 p cr cq)) λ_ an=>(GP [Ad true 8 p an,some (.bool true)]).bind λct=>rPN a ct an)
noncomputable def Ubs (p i:Ab)(c:Aa):Out:=Ao (B3 true 1 p c) λq j=>(Ad true 1 q j).bind λr=>bP c (Uao r j) λk s=>(At 0 k).bind λt=>(At 1 k).bind λad=>Ao (A3 (some [(.bool false),(.sl [] .ti),(.bool false),(.sl [] .ti),(.bool false),(.sl [] .ti),(.bool false),(.sl [] .ti)]) s) λd u=>bP c (AE (Ai 8 d t u)) λ_ l=>AW (Ue0 i l) λv m=>(Ac 4 d).bind λn=>bC (Ad true 2 n m) (λe=>Ad true 2 n l=some e/\True) λe=>AW (Uev e v m) λw f=>(Af .none .leq w (.i6 0)).bind λa=>gk a true (some i) λx=>gbN a true f (Ue0 x f) λy g=>gk a true (Ac 6 d) λo=>gkc a true (Ad true 2 o g) (λb h=>gR b (Ad true 2 o f)=some h/\True) λh=>gbN a true g (Uev h y g) λz aa=>gk a true (Af .none .leq z (.i6 0)) λab=>(AB a ab (.bool false)).bind λac=>rP c ac aa
noncomputable def Ubt (z:Aa)(g:LK)(h:LK)(c f d e:Ab)(b:Aa):Out:=(Af .none .lss e (.i6 4)).bind λa=>gk a true (Ac 0 c) λi=>gk a true (Ad false 1 i b) λj=>gk a true (some d) λk=>gk a true (Aw 5 j k) λl=>gk a true (Ac 0 l) λm=>gk a true (Ad false 1 m b) λn=>gk a true (Af .none .eql n (.i6 1)) λo=>(AB a o (.bool false)).bind λp=>Ak p ((Ac 0 c).bind λq=>(Ad false 1 q b).bind λr=>(Aw 5 r d).bind λs=>(Ac 1 s).bind λt=>(BK 4 1 t e).bind λu=>(Ad false 1 u b).bind λv=>(GG IS f [v]).bind λw=>(Af .none .add e (.i6 1)).bind λx=>h [c,w,d,x] b) ((Af .none .add d (.i6 1)).bind λy=>g [c,f,y] b)
noncomputable def UcU (b:Aa)(f:LK)(c d e:Ab)(a:Aa):Out:=(Ac 0 c).bind λg=>(Ad false 1 g a).bind λh=>(A5 h).bind λi=>(Af .none .lss e i).bind λj=>Ak j (Am (λk vs H=>Ubt b f k (ag vs 0) (ag vs 1) (ag vs 2) (ag vs 3) H) AP [c,d,e,(.i6 0)] a) ((AC .u8 d).bind λl=>rP b l a)
noncomputable def Ubu (b:Ab)(a:Aa):Out:=Ao (B3 true 1 b a) λc d=>Am (λe vs H=>UcU a e (ag vs 0) (ag vs 1) (ag vs 2) H) AP [c,(.i6 0),(.i6 0)] d
noncomputable def UcV (e g h:Ab)(a:Aa):Out:=Ao (B3 true 2 g a) λf i=>Ao (B3 true 2 h i) λj c=>(Af .none .eql e (.i6 5)).bind λk=>Ak k (rP a (.bool true) c) ((Ac 1 f).bind λl=>(Ad true 1 l c).bind λm=>(Ac 0 j).bind λn=>(Ad false 1 n c).bind λo=>bP a (Ubs m o c) λp d=>(unA .not p).bind λq=>Ak q (rP a (.bool false) d) ((Af .none .eql e (.i6 4)).bind λb=>gk b false (Ac 1 f) λr=>gk b false (Ad true 1 r d) λs=>gbP a b false d (Ubu s d) λt u=>gk b false (Af .none .leq t (.int .u8 1)) λv=>(AB b (.bool true) v).bind λw=>rP a w u))
noncomputable def UcW (g k l:Ab)(a:Aa):Out:=Ao (B3 true 2 k a) λh m=>Ao (B3 true 2 l m) λi n=>bP a (Uc4 g n) λo e=>(unA .not o).bind λb=>gk b false (Ad true 2 h e) λp=>gbP a b false e (UcK p e) λq f=>gk b false (unA .not q) λr=>(AB b (.bool true) r).bind λc=>gk c false (Ad true 2 i f) λs=>gbP a c false f (Ubm s f) λt d=>gk c false (unA .not t) λu=>(AB c (.bool true) u).bind λv=>Ak v (rP a (.i6 1) d) ((Ad true 2 h d).bind λw=>(Ad true 2 i d).bind λx=>bP a (UcV g w x d) λy j=>(unA .not y).bind λz=>Ak z (rP a (.i6 5) j) (rP a (.i6 0) j))
noncomputable def Ues (c:Aa)(h:LK)(d b e:Ab)(a:Aa):Out:=(Af .none .geq e (.i6 0)).bind λi=>Ak i ((Af .none .gtr b (.int .u64 4294967295)).bind λj=>Ak j (rP c (.tup [(.i6 0),(.bool false)]) a) ((Af .none .mul b (.int .u64 4294967296)).bind λk=>(Ac 1 d).bind λl=>(Ad false 1 l a).bind λm=>(Aw 1 m e).bind λn=>(Ad false 1 n a).bind λo=>(AC .u64 o).bind λp=>(Af .none .add k p).bind λq=>(Af .none .sub e (.i6 1)).bind λr=>h [d,q,r] a)) ((Ac 0 d).bind λs=>(Ad false 1 s a).bind λf=>gk f true (some b) λt=>gk f true (Af .none .leq t (.int .u64 9223372036854775808)) λu=>(AB f u (.bool false)).bind λv=>Ak v ((unA .neg b).bind λw=>(AC .i64 w).bind λx=>rP c (.tup [x,(.bool true)]) a) ((Ac 0 d).bind λy=>(Ad false 1 y a).bind λg=>gk g false (some b) λz=>gk g false (Af .none .gtr z (.int .u64 9223372036854775807)) λaa=>(AB g (.bool true) aa).bind λab=>Ak ab (rP c (.tup [(.i6 0),(.bool false)]) a) ((AC .i64 b).bind λac=>rP c (.tup [ac,(.bool true)]) a)))
noncomputable def UeG (d:Ab)(a:Aa):Out:=Ao (B3 true 2 d a) λb c=>(Ac 1 b).bind λe=>(Ad false 1 e c).bind λf=>(A5 f).bind λg=>(Af .none .sub g (.i6 1)).bind λh=>Am (λi vs H=>Ues a i (ag vs 0) (ag vs 1) (ag vs 2) H) AP [b,(.int .u64 0),h] c
noncomputable def Ubv (i j:Ab)(b:Aa):Out:=Ao (B3 true 2 i b) λd k=>(Af .none .sub j (.i6 1)).bind λl=>bP b (Ue9 l k) λm n=>Ao (A3 (some [(.bool false),(.sl [] .ti)]) n) λe o=>bP b (AE (Ai 2 e m o)) λ_ f=>bC (Ad true 2 e f) (λ_=>True) λp=>AW (UeF p f) λq h=>bC (Ad true 2 d h) (λg=>Ad true 2 d f=some g/\True) λg=>AW (Uev g q h) λr c=>(Af .none .geq r (.i6 0)).bind λa=>gkc a true (Ad true 2 d c) (λ_ _=>True) λs=>gkc a true (Ad true 2 e c) (λ_ _=>True) λt=>gbN a true c (Uev s t c) λu v=>gk a true (Af .none .lss u (.i6 0)) λw=>(AB a w (.bool false)).bind λx=>rP b x v
noncomputable def Ubw (d:Aa)(i e f g j:Ab)(a:Aa):Out:=bC (Ad true 2 i a) (λ_=>True) λk=>AW (AE (Ai 2 f k a)) λ_ h=>bC (Ad true 2 e h) (λb=>Ad true 2 e a=some b/\True) λb=>bP d (AE (Ai 2 g b h)) λ_ c=>(GP [some j,Ad true 2 f c,Ad true 2 g c]).bind λl=>rPN d l c
noncomputable def Ubx (b:Aa)(e a f g h i:Ab)(d:Aa):Out:=AM (λj2=>(Ad true 2 a d).bind λj=>(Ad true 2 h d).bind λk=>bP b (Uev j k d) λl c=>(Af .none .geq l (.i6 0)).bind λm=>Ak m ((Af .none .add i (.i6 2)).bind λn=>(Ad true 2 a c).bind λo=>(Ad true 2 h c).bind λp=>bP b (Ue4 o p c) λq r=>bP b (AE (Ai 2 a q r)) λ_ s=>j2 [e,a,f,g,n] s) (j2 [e,a,f,g,i] c)) (λvs H=>Ubw b (ag vs 0) (ag vs 1) (ag vs 2) (ag vs 3) (ag vs 4) H)
noncomputable def UcX (i j k:Ab)(a:Aa):Out:=Ao (B3 true 2 j a) λb l=>Ao (B3 true 2 k l) λf m=>Ao (A3 (some [(.bool false),(.sl [] .ti)]) m) λg n=>Ao (A3 (some [(.bool false),(.sl [] .ti)]) n) λh o=>(Af .none .sub i (.i6 1)).bind λp=>bP a (Ue9 p o) λq r=>Ao (A3 (some [(.bool false),(.sl [] .ti)]) r) λc s=>bP a (AE (Ai 2 c q s)) λ_ e=>AM (λj1=>(Ad true 2 b e).bind λt=>(Ad true 2 c e).bind λu=>bP a (Uev t u e) λv d=>(Af .none .geq v (.i6 0)).bind λw=>Ak w ((Af .none .add (.i6 0) (.i6 1)).bind λx=>(Ad true 2 b d).bind λy=>(Ad true 2 c d).bind λz=>bP a (Ue4 y z d) λaa ab=>bP a (AE (Ai 2 b aa ab)) λ_ ac=>j1 [b,f,g,h,c,x] ac) (j1 [b,f,g,h,c,(.i6 0)] d)) (λvs H=>Ubx a (ag vs 0) (ag vs 1) (ag vs 2) (ag vs 3) (ag vs 4) (ag vs 5) H)
noncomputable def UdN (c:Aa)(n:LK)(d f g e:Ab)(b:Aa):Out:=(Af .none .gtr e (.i6 0)).bind λo=>Ak o ((Ac 0 d).bind λp=>bC (Ad false 1 p b) (λ_=>True) λq=>(Af .none .sub e (.i6 1)).bind λr=>(Aw 5 q r).bind λs=>(Ac 0 s).bind λt=>bC (Ad false 1 t b) (λ_=>True) λu=>bC (Ad true 2 f b) (λ_=>True) λv=>bC (Ad true 2 g b) (λ_=>True) λw=>AW (UcX u v w b) λh x=>(At 0 h).bind λy=>(At 1 h).bind λz=>Ao (A3 (some [(.bool false),(.sl [] .ti)]) x) λk aa=>Ao (A3 (some [(.bool false),(.sl [] .ti)]) aa) λi ab=>AW (AE (Ai 2 k z ab)) λ_ ac=>(At 2 h).bind λad=>bP c (AE (Ai 2 i ad ac)) λ_ a=>(Ac 0 d).bind λae=>(Ad false 1 ae a).bind λaj=>(Af .none .sub e (.i6 1)).bind λak=>(Aw 5 aj ak).bind λal=>(Ac 1 al).bind λam=>(BK 4 1 am y).bind λan=>(Ad false 1 an a).bind λl=>(Ac 0 d).bind λap=>(Ad false 1 ap a).bind λaq=>(Af .none .sub e (.i6 1)).bind λar=>(Aw 5 aq ar).bind λau=>(Ac 0 au).bind λav=>(Ad false 1 av a).bind λaw=>(Af .none .eql aw (.i6 1)).bind λax=>Ak ax ((AC .u8 l).bind λay=>rP c ay a) (bC (Ad true 2 k a) (λ_=>True) λaz=>AW (AE (Ai 2 f az a)) λ_ m=>bC (Ad true 2 i m) (λj=>Ad true 2 i a=some j/\True) λj=>bP c (AE (Ai 2 g j m)) λ_ a0=>n [d,f,g,l] a0)) (rP c (.int .u8 0) b)
noncomputable def UcY (r s t:Ab)(a:Aa):Out:=Ao (B3 true 1 r a) λi u=>Ao (B3 true 2 s u) λf v=>Ao (B3 true 2 t v) λb o=>(Ad true 1 i o).bind λw=>bP a (Ubr w o) λg j=>(Af .none .eql g (.i6 0)).bind λc=>gk c false (Ad true 2 f j) λx=>gk c false (some g) λy=>gbP a c false j (Ubv x y j) λz k=>gk c false (unA .not z) λaa=>(AB c (.bool true) aa).bind λd=>gk d false (Ad true 2 b k) λab=>gk d false (some g) λac=>gbP a d false k (Ubv ab ac k) λad p=>gk d false (unA .not ad) λae=>(AB d (.bool true) ae).bind λaj=>Ak aj (rP a (.int .u8 0) p) ((Af .none .sub g (.i6 1)).bind λak=>bP a (Ue9 ak p) λal am=>Ao (A3 (some [(.bool false),(.sl [] .ti)]) am) λh an=>bP a (AE (Ai 2 h al an)) λ_ e=>bC (Ad true 2 f e) (λ_=>True) λap=>bC (Ad true 2 h e) (λ_=>True) λaq=>AW (UbO ap aq e) λar l=>bC (Ad true 2 b l) (λm=>Ad true 2 b e=some m/\True) λm=>bC (Ad true 2 h l) (λn=>Ad true 2 h e=some n/\True) λn=>AW (UbO m n l) λau av=>AW (AE (Ai 2 f ar av)) λ_ aw=>bP a (AE (Ai 2 b au aw)) λ_ q=>(Ac 0 i).bind λax=>(Ad false 1 ax q).bind λay=>(A5 ay).bind λaz=>Am (λa0 vs H=>UdN a a0 (ag vs 0) (ag vs 1) (ag vs 2) (ag vs 3) H) AP [i,f,b,az] q)
noncomputable def UaB (j:Aa)(u:LK)(v:LK)(a q e k r f l m g:Ab)(b:Aa):Out:=(Af .none .lss g k).bind λw=>Ak w (AW (Ue0 g b) λx h=>(Ac 0 e).bind λs=>bC (Ad true 2 s h) (λn=>Ad true 2 s b=some n/\True) λn=>AW (UbO n x h) λy o=>AW (Ue0 l o) λz p=>(Ac 2 e).bind λi=>bC (Ad true 2 i p) (λd=>Ad true 2 i o=some d/\Ad true 2 i h=some d/\Ad true 2 i b=some d/\True) λd=>AW (UbO d z p) λaa t=>bC (Ad true 1 a t) (λc=>Ad true 1 a p=some c/\Ad true 1 a o=some c/\Ad true 1 a h=some c/\Ad true 1 a b=some c/\True) λc=>AW (UcY c y aa t) λab ac=>(Aw 1 m g).bind λad=>bP j (AE (Ai 1 ad ab ac)) λ_ ae=>(Af .none .add g (.i6 1)).bind λaj=>v [a,q,e,k,r,f,l,m,aj] ae) ((Ac 4 f).bind λak=>(Ad false 1 ak b).bind λal=>(CF m b).bind λam=>(AN 1 [am]).bind λan=>bP j (Cy (Bf D5 1 16 al an b)) λap aq=>(Ac 4 f).bind λar=>bP j (AE (Ai 1 ar ap aq)) λ_ au=>(Af .none .add l (.i6 1)).bind λav=>u [a,q,e,k,r,f,av] au)
noncomputable def Uby (a:Aa)(i:LK)(j b k c e f g:Ab)(d:Aa):Out:=(Af .none .lss g e).bind λl=>Ak l (Ao (F4 1 1 (some [(.int .u8 0)]) c c d) λm n=>Am (λo vs H=>UaB a i o (ag vs 0) (ag vs 1) (ag vs 2) (ag vs 3) (ag vs 4) (ag vs 5) (ag vs 6) (ag vs 7) (ag vs 8) H) AP [j,b,k,c,e,f,g,m,(.i6 0)] n) ((Ad true 5 f d).bind λp=>bP a (AE (Ai 5 b p d)) λ_ h=>(GP [Ad true 5 b h,some (.i6 0)]).bind λq=>rPN a q h)
noncomputable def UcZ (s d:Ab)(a:Aa):Out:=Ao (B3 true 1 s a) λe t=>Ao (A3 (some [(.bool false),(.sl [] .ti),(.bool false),(.sl [] .ti),(.sl [] .ti)]) t) λb f=>(Af .none .lss d (.i6 0)).bind λg=>gk g false (some d) λu=>gk g false (Af .none .gtr u (.i6 1000)) λv=>(AB g (.bool true) v).bind λw=>Ak w ((AD (some [(.bool false),(.sl [] .ti),(.bool false),(.sl [] .ti),(.sl [] .ti)]) []).bind λx=>bP a (AE (Ai 5 b x f)) λ_ k=>(GP [Ad true 5 b k,some (.i6 1)]).bind λy=>rPN a y k) ((Ad true 1 e f).bind λz=>bP a (Ubs z d f) λaa h=>(unA .not aa).bind λab=>Ak ab ((AD (some [(.bool false),(.sl [] .ti),(.bool false),(.sl [] .ti),(.sl [] .ti)]) []).bind λac=>bP a (AE (Ai 5 b ac h)) λ_ l=>(GP [Ad true 5 b l,some (.i6 4)]).bind λad=>rPN a ad l) ((Ad true 1 e h).bind λae=>bP a (Uao ae h) λm aj=>(At 0 m).bind λak=>(At 1 m).bind λal=>Ao (A3 (some [(.bool false),(.sl [] .ti),(.bool false),(.sl [] .ti),(.bool false),(.sl [] .ti),(.bool false),(.sl [] .ti)]) aj) λc am=>bP a (AE (Ai 8 c ak am)) λ_ i=>(unA .not al).bind λan=>Ak an ((AD (some [(.bool false),(.sl [] .ti),(.bool false),(.sl [] .ti),(.sl [] .ti)]) []).bind λap=>bP a (AE (Ai 5 b ap i)) λ_ n=>(GP [Ad true 5 b n,some (.i6 0)]).bind λaq=>rPN a aq n) ((Ac 4 c).bind λar=>(Ad true 2 ar i).bind λau=>bP a (UeG au i) λo p=>(At 0 o).bind λav=>(At 1 o).bind λa7=>(Ac 6 c).bind λaw=>(Ad true 2 aw p).bind λax=>bP a (UeG ax p) λq j=>(At 0 q).bind λay=>(At 1 q).bind λa8=>(Ac 0 c).bind λaz=>(Ad true 2 az j).bind λa0=>(Ac 2 c).bind λa1=>(Ad true 2 a1 j).bind λa2=>(AD (some [(.bool false),(.sl [] .ti),(.bool false),(.sl [] .ti),(.sl [] .ti)]) [(0,2,a0),(2,2,a2)]).bind λa3=>Ao (A3 (some [(.bool false),(.sl [] .ti),(.bool false),(.sl [] .ti),(.sl [] .ti)]) j) λr a4=>bP a (AE (Ai 5 r a3 a4)) λ_ a5=>Am (λa6 vs H=>Uby a a6 (ag vs 0) (ag vs 1) (ag vs 2) (ag vs 3) (ag vs 4) (ag vs 5) (ag vs 6) H) AP [e,b,c,av,ay,r,(.i6 0)] a5)))
noncomputable def UdO (f:Aa)(j:LK)(g a c h b:Ab)(d:Aa):Out:=(Af .none .geq b (.i6 0)).bind λk=>Ak k ((Af .none .mul h (.int .u64 4294967296)).bind λl=>(Aw 1 g b).bind λm=>(Ad false 1 m d).bind λn=>(AC .u64 n).bind λo=>(Af .none .add l o).bind λi=>bC (AC .u64 a) (λ_=>True) λp=>(Af .none .quo i p).bind λq=>bC (AC .u32 q) (λ_=>True) λr=>(Aw 1 c b).bind λs=>AW (AE (Ai 1 s r d)) λ_ t=>bC (AC .u64 a) (λe=>AC .u64 a=some e/\True) λe=>(Af .none .rem i e).bind λu=>(Af .none .sub b (.i6 1)).bind λv=>j [g,a,c,u,v] t) (bP f (Ual c d) λw x=>(AC .u32 h).bind λy=>rPN f (.tup [w,y]) x)
noncomputable def Udb (b c:Ab)(a:Aa):Out:=(Af .none .eql c (.int .u32 0)).bind λe=>Ak e (rPN a (.tup [(.sl [] .ti),(.int .u32 0)]) a) ((A5 b).bind λd=>Ao (F4 1 4 (some [(.int .u32 0)]) d d a) λf g=>(A5 b).bind λh=>(Af .none .sub h (.i6 1)).bind λi=>Am (λj vs H=>UdO a j (ag vs 0) (ag vs 1) (ag vs 2) (ag vs 3) (ag vs 4) H) AP [b,c,f,(.int .u64 0),i] g)
noncomputable def UdP (b:Aa)(g:LK)(d h i:Ab)(j:Aa):Out:=bP b (Udb i (.int .u32 10) j) λe a=>(At 0 e).bind λf=>(At 1 e).bind λk=>(Af .none .add (.int .u32 48) k).bind λl=>(AC .u8 l).bind λm=>(AN 1 [m]).bind λn=>(CF n a).bind λo=>(Af .none .add o h).bind λc=>(A5 f).bind λp=>(Af .none .eql p (.i6 0)).bind λq=>Ak q ((Ac 0 d).bind λr=>(Ad false 1 r a).bind λs=>Ak s ((Af .none .add (.str [45]) c).bind λt=>rP b t a) (rP b c a)) (g [d,c,f] a)
noncomputable def UeH (d:Ab)(a:Aa):Out:=Ao (B3 true 2 d a) λb c=>(Ac 1 b).bind λe=>(Ad false 1 e c).bind λf=>Am (λg vs H=>UdP a g (ag vs 0) (ag vs 1) (ag vs 2) H) AP [b,(.str []),f] c
noncomputable def Udc (e:Aa)(f:LK)(g:LK)(b c d:Ab)(a:Aa):Out:=(Ac 4 b).bind λh=>(Ad false 1 h a).bind λi=>(Aw 1 i c).bind λj=>(Ad false 1 j a).bind λk=>(BU k).bind λl=>(Af .none .lss d l).bind λm=>Ak m ((Ac 4 b).bind λn=>(Ad false 1 n a).bind λo=>(Aw 1 o c).bind λp=>(Ad false 1 p a).bind λq=>(Cj q d).bind λr=>(Af .none .gtr r (.int .u8 1)).bind λs=>Ak s (rP e (.bool false) a) ((Af .none .add d (.i6 1)).bind λt=>g [b,c,t] a)) ((Af .none .add c (.i6 1)).bind λu=>f [b,u] a)
noncomputable def Udd (b:Aa)(e:LK)(c d:Ab)(a:Aa):Out:=(Ac 4 c).bind λf=>(Ad false 1 f a).bind λg=>(A5 g).bind λh=>(Af .none .lss d h).bind λi=>Ak i (Am (λj vs H=>Udc b e j (ag vs 0) (ag vs 1) (ag vs 2) H) AP [c,d,(.i6 0)] a) (rP b (.bool true) a)
noncomputable def Ude (b:Ab)(a:Aa):Out:=Ao (B3 true 5 b a) λc d=>Am (λe vs H=>Udd a e (ag vs 0) (ag vs 1) H) AP [c,(.i6 0)] d
noncomputable def UdQ (g:Aa)(a:LK)(b c d:Ab)(e:Aa):Out:=(Af .none .add d (.i6 1)).bind λf=>a [b,c,f] e
noncomputable def Udf (d:Aa)(f:LK)(b e a:Ab)(c:Aa):Out:=(BU b).bind λg=>(Af .none .lss a g).bind λh=>Ak h (AM (λj2=>(Cj b a).bind λi=>(Af .none .neq i (.int .u8 0)).bind λj=>Ak j ((Af .none .add a (.i6 1)).bind λk=>j2 [b,k,a] c) (j2 [b,e,a] c)) (λvs H=>UdQ d f (ag vs 0) (ag vs 1) (ag vs 2) H)) (rK d e c)
noncomputable def Udg (b:Ab)(a:Aa):Out:=Am (λc vs H=>Udf a c (ag vs 0) (ag vs 1) (ag vs 2) H) AP [b,(.i6 0),(.i6 0)] a
noncomputable def UaD (b c:Ab)(a:Aa):Out:=(Af .none .eql b (.i6 1)).bind λd=>Ak d (rK a c a) (bK a (Ue0 b a) λe f=>bK a (UeH e f) λg h=>(Af .none .add g c).bind λi=>rK a i h)
noncomputable def Ubz (b c:Ab)(a:Aa):Out:=gk c true (some b) λd=>gk c true (Af .none .eql d (.int .u8 0)) λe=>(AB c e (.bool false)).bind λf=>Ak f (rK a (.str [98]) a) (gk c true (some b) λg=>gk c true (Af .none .eql g (.int .u8 1)) λh=>(AB c h (.bool false)).bind λi=>Ak i (rK a (.str [111]) a) ((Af .none .eql b (.int .u8 0)).bind λj=>Ak j (rK a (.str [46]) a) ((Af .none .leq b (.int .u8 24)).bind λk=>Ak k ((Af .none .add (.int .u8 65) b).bind λl=>(Af .none .sub l (.int .u8 1)).bind λm=>(AN 1 [m]).bind λn=>(CF n a).bind λo=>rK a o a) ((Af .none .sub b (.int .u8 25)).bind λp=>(Af .none .quo p (.int .u8 24)).bind λq=>(Af .none .add (.int .u8 112) q).bind λr=>(Af .none .sub b (.int .u8 25)).bind λs=>(Af .none .rem s (.int .u8 24)).bind λt=>(Af .none .add (.int .u8 65) t).bind λu=>(AN 1 [r,u]).bind λv=>(CF v a).bind λw=>rK a w a))))
noncomputable def Udh (i:Aa)(a:LK)(b c d e f:Ab)(g:Aa):Out:=(Af .none .add f (.i6 1)).bind λh=>a [b,c,d,e,h] g
noncomputable def UaE (e:Aa)(m:LK)(n:LK)(h i j f k b g d c:Ab)(l:Aa):Out:=(Af .none .lss c g).bind λa=>gk a true (some b) λo=>gk a true (some c) λp=>gk a true (Cj o p) λq=>gk a true (some b) λr=>gk a true (some d) λs=>gk a true (Cj r s) λt=>gk a true (Af .none .eql q t) λu=>(AB a u (.bool false)).bind λv=>Ak v ((Af .none .add c (.i6 1)).bind λw=>n [h,i,j,f,k,b,g,d,w] l) ((Af .none .sub c d).bind λx=>(Cj b d).bind λy=>bP e (Ubz y f l) λz aa=>bP e (UaD x z aa) λab ac=>(AN 1 [ab]).bind λad=>bP e (Cy (Bf D5 1 16 i ad ac)) λae aj=>m [h,ae,j,f,k,b,g,c] aj)
noncomputable def Ub0 (i:Aa)(j2:LK)(j:LK)(b c d e f k g a:Ab)(h:Aa):Out:=(Af .none .lss a g).bind λl=>Ak l (Am (λm vs H=>UaE i j m (ag vs 0) (ag vs 1) (ag vs 2) (ag vs 3) (ag vs 4) (ag vs 5) (ag vs 6) (ag vs 7) (ag vs 8) H) AP [b,c,d,e,f,k,g,a,a] h) (j2 [b,c,d,e,f] h)
noncomputable def UdR (b:Aa)(j2:LK)(c d e a f g:Ab)(h:Aa):Out:=Am (λi vs H=>Ub0 b j2 i (ag vs 0) (ag vs 1) (ag vs 2) (ag vs 3) (ag vs 4) (ag vs 5) (ag vs 6) (ag vs 7) H) AP [c,d,a,e,a,f,g,(.i6 0)] h
noncomputable def UaF (a:Aa)(k:LK)(c e f g b:Ab)(d:Aa):Out:=(Ac 4 c).bind λl=>(Ad false 1 l d).bind λm=>(A5 m).bind λn=>(Af .none .lss b n).bind λo=>Ak o (AM (λj2=>(Ac 4 c).bind λp=>(Ad false 1 p d).bind λq=>(Aw 1 q b).bind λr=>(Ad false 1 r d).bind λh=>bP a (Udg h d) λi j=>(Af .none .eql i (.i6 0)).bind λs=>Ak s (j2 [c,e,f,g,b] j) (AM (λj3=>(Af .none .geq f (.i6 0)).bind λt=>Ak t ((Af .none .sub b f).bind λu=>bP a (UaD u (.str [36]) j) λv w=>(AN 1 [v]).bind λx=>bP a (Cy (Bf D5 1 16 e x w)) λy z=>j3 [c,y,g,b,h,i] z) (j3 [c,e,g,b,h,i] j)) (λvs H=>UdR a j2 (ag vs 0) (ag vs 1) (ag vs 2) (ag vs 3) (ag vs 4) (ag vs 5) H))) (λvs H=>Udh a k (ag vs 0) (ag vs 1) (ag vs 2) (ag vs 3) (ag vs 4) H)) ((AN 1 [(.str [33])]).bind λaa=>bP a (Cy (Bf D5 1 16 e aa d)) λab ac=>rPN a ab ac)
noncomputable def UeA (d:Ab)(a:Aa):Out:=Ao (B3 true 5 d a) λb c=>(Ad true 5 b c).bind λe=>bP a (Ude e c) λf g=>Am (λh vs H=>UaF a h (ag vs 0) (ag vs 1) (ag vs 2) (ag vs 3) (ag vs 4) H) AP [b,(.sl [] .ti),(.i6 (-1)),f,(.i6 0)] g
noncomputable def UdS (k:Aa)(d:LK)(a e f b:Ab)(c:Aa):Out:=(Aw 1 a b).bind λg=>(Ad false 1 g c).bind λh=>(Af .none .add f h).bind λi=>(Af .none .add b (.i6 1)).bind λj=>d [a,e,i,j] c
noncomputable def Udi (f:Aa)(g:LK)(a e b c:Ab)(d:Aa):Out:=(A5 a).bind λh=>(Af .none .lss c h).bind λi=>Ak i (AM (λj2=>(BU b).bind λj=>(Aw 1 a c).bind λk=>(Ad false 1 k d).bind λl=>(BU l).bind λm=>(Af .none .add j m).bind λn=>(Af .none .gtr n (.i6 70)).bind λo=>Ak o ((Af .none .add e b).bind λp=>(Af .none .add p (.str [10])).bind λq=>j2 [a,q,(.str []),c] d) (j2 [a,e,b,c] d)) (λvs H=>UdS f g (ag vs 0) (ag vs 1) (ag vs 2) (ag vs 3) H)) ((Af .none .add e b).bind λr=>(Af .none .add r (.str [10])).bind λs=>rK f s d)
noncomputable def Udj (b:Ab)(a:Aa):Out:=Am (λc vs H=>Udi a c (ag vs 0) (ag vs 1) (ag vs 2) (ag vs 3) H) AP [b,(.str []),(.str []),(.i6 0)] a
noncomputable def UdT (e:Aa)(p c q:Ab)(f:Aa):Out:=(Ac 0 c).bind λr=>bC (Ad true 2 r f) (λ_=>True) λs=>AW (UeH s f) λt m=>(Ac 2 c).bind λn=>bC (Ad true 2 n m) (λg=>Ad true 2 n f=some g/\True) λg=>AW (UeH g m) λu h=>(Af .none .add (.str [35,67,88,82,76,69,32,80,111,115,61]) t).bind λv=>(Af .none .add v (.str [44])).bind λw=>(Af .none .add w u).bind λx=>(Af .none .add x (.str [10])).bind λy=>AW (Ue0 q h) λz i=>AW (UeH z i) λaa j=>(Ac 4 c).bind λk=>bC (Ad false 1 k j) (λd=>Ad false 1 k i=some d/\Ad false 1 k h=some d/\True) λd=>(A5 d).bind λab=>AW (Ue0 ab j) λac o=>AW (UeH ac o) λad l=>(Af .none .add y (.str [120,32,61,32])).bind λae=>(Af .none .add ae aa).bind λaj=>(Af .none .add aj (.str [44,32,121,32,61,32])).bind λak=>(Af .none .add ak ad).bind λal=>(Af .none .add al (.str [44,32,114,117,108,101,32,61,32])).bind λam=>(Ac 0 p).bind λb=>bC (Ad false 1 b l) (λa=>Ad false 1 b o=some a/\Ad false 1 b j=some a/\Ad false 1 b i=some a/\Ad false 1 b h=some a/\True) λa=>(Af .none .add am a).bind λan=>(Af .none .add an (.str [10])).bind λap=>(Ad true 5 c l).bind λaq=>bP e (UeA aq l) λar au=>bP e (Udj ar au) λav aw=>(Af .none .add ap av).bind λax=>rP e (.tup [ax,(.i6 0)]) aw
noncomputable def UeI (j k:Ab)(a:Aa):Out:=Ao (B3 true 2 j a) λd l=>Ao (B3 true 2 k l) λg f=>(Ad true 2 d f).bind λm=>(Ad true 2 g f).bind λn=>bP a (UcW (.i6 4) m n f) λh e=>(Af .none .neq h (.i6 0)).bind λo=>Ak o (rP a (.tup [(.str []),h]) e) ((Ac 1 d).bind λp=>(Ad true 1 p e).bind λq=>(Ac 0 g).bind λr=>(Ad false 1 r e).bind λs=>bP a (UcZ q s e) λi t=>(At 0 i).bind λu=>(At 1 i).bind λaj=>Ao (A3 (some [(.bool false),(.sl [] .ti),(.bool false),(.sl [] .ti),(.sl [] .ti)]) t) λb v=>bP a (AE (Ai 5 b u v)) λ_ c=>AM (λj1=>(Ac 4 b).bind λw=>(Ad false 1 w c).bind λx=>(A5 x).bind λy=>(Af .none .gtr y (.i6 0)).bind λz=>Ak z ((Ac 4 b).bind λaa=>(Ad false 1 aa c).bind λab=>(Aw 1 ab (.i6 0)).bind λac=>(Ad false 1 ac c).bind λad=>(BU ad).bind λae=>j1 [d,b,ae] c) (j1 [d,b,(.i6 0)] c)) (λvs H=>UdT a (ag vs 0) (ag vs 1) (ag vs 2) H))
noncomputable def UeJ (e:Ab)(a:Aa):Out:=(AD (some [(.str []),(.i6 0)]) [(0,1,e)]).bind λf=>(AD (some [(.i6 0),(.i6 0)]) [(0,1,(.i6 1000)),(1,1,(.i6 100000))]).bind λg=>(AD (some [(.str []),(.i6 0),(.i6 0),(.i6 0),(.str []),(.bool false),(.sl [] .ti),(.bool false),(.sl [] .ti),(.i6 0),(.i6 0),(.sl [] .ti)]) [(0,2,f),(2,2,g)]).bind λh=>Ao (B3 true 12 h a) λi j=>bP a (UaP (.bfn 69 [i]) j) λk l=>Ao (A3 (some [(.i6 0),(.str [])]) l) λb m=>bP a (AE (Ai 2 b k m)) λ_ c=>(Ac 1 b).bind λn=>bC (Ad false 1 n c) (λ_=>True) λo=>(Ac 0 b).bind λp=>bC (Ad false 1 p c) (λ_=>True) λq=>(Af .none .eql q (.i6 0)).bind λd=>gk d false (Ac 0 b) λr=>gkc d false (Ad false 1 r c) (λ_ _=>True) λs=>gk d false (Af .none .eql s (.i6 3)) λt=>(AB d (.bool true) t).bind λu=>rP a (.tup [o,u]) c
noncomputable def Sl.gliderref11_Wide:Aa->Out:=Classical.choose (⟨UeD,rfl⟩:∃f:Aa->Out,f=UeD)
theorem Sl.gliderref11_Wide_eq:Sl.gliderref11_Wide=UeD:=Classical.choose_spec (⟨UeD,rfl⟩:∃f:Aa->Out,f=UeD)
noncomputable def Sl.rle_Read:Ab->Ab->Aa->Out:=Classical.choose (⟨UeE,rfl⟩:∃f:Ab->Ab->Aa->Out,f=UeE)
theorem Sl.rle_Read_eq:Sl.rle_Read=UeE:=Classical.choose_spec (⟨UeE,rfl⟩:∃f:Ab->Ab->Aa->Out,f=UeE)
noncomputable def Sl.gliderref13_Text:Ab->Ab->Aa->Out:=Classical.choose (⟨UeI,rfl⟩:∃f:Ab->Ab->Aa->Out,f=UeI)
theorem Sl.gliderref13_Text_eq:Sl.gliderref13_Text=UeI:=Classical.choose_spec (⟨UeI,rfl⟩:∃f:Ab->Ab->Aa->Out,f=UeI)
noncomputable def Sl.rle_Hint:Ab->Aa->Out:=Classical.choose (⟨UeJ,rfl⟩:∃f:Ab->Aa->Out,f=UeJ)
theorem Sl.rle_Hint_eq:Sl.rle_Hint=UeJ:=Classical.choose_spec (⟨UeJ,rfl⟩:∃f:Ab->Aa->Out,f=UeJ)
noncomputable def UeK (a:Aa):Out:=bP a (Sl.gliderref11_Wide a) λae aj=>Ao (A3 (some [(.i6 0),(.i6 0)]) aj) λb ak=>bP a (AE (Ai 2 b ae ak)) λ_ t=>(Ad true 2 b t).bind λal=>bP a (Sl.rle_Read (.str [120,32,61,32,48,44,32,121,32,61,32,48,44,32,114,117,108,101,32,61,32,97,10,50,98,50,111,36,33]) al t) λc am=>(At 0 c).bind λan=>(At 1 c).bind λcw=>(At 2 c).bind λap=>Ao (A3 (some [(.str []),(.sl [] .ti)]) am) λu aq=>bP a (AE (Ai 2 u an aq)) λ_ v=>(Ad true 2 b v).bind λar=>bP a (Sl.rle_Read (.str [35,67,32,97,110,121,13,10,35,67,88,82,76,69,32,80,111,115,61,45,49,44,53,10,120,32,61,32,57,44,32,121,32,61,32,57,44,32,114,117,108,101,32,61,32,97,13,10,32,112,65,32,50,36,10,46,66,33,120]) ar v) λd au=>(At 0 d).bind λav=>(At 1 d).bind λcx=>(At 2 d).bind λaw=>Ao (A3 (some [(.str []),(.sl [] .ti)]) au) λw ax=>bP a (AE (Ai 2 w av ax)) λ_ e=>(Ad true 2 u e).bind λay=>(Ad true 2 b e).bind λaz=>bP a (Sl.gliderref13_Text ay az e) λx f=>(At 0 x).bind λa0=>(At 1 x).bind λa1=>(Ad true 2 w f).bind λa2=>(Ad true 2 b f).bind λa3=>bP a (Sl.gliderref13_Text a2 a3 f) λy z=>(At 0 y).bind λa4=>(At 1 y).bind λa5=>(Ad true 2 b z).bind λa6=>bP a (Sl.rle_Read (.str [120,32,61,32,48,44,32,121,32,61,32,48,44,32,114,117,108,101,32,61,32,97,10,121,80,33]) a6 z) λg a7=>(At 0 g).bind λa8=>(At 1 g).bind λa9=>(At 2 g).bind λba=>Ao (A3 (some [(.str []),(.sl [] .ti)]) a7) λbb bc=>bP a (AE (Ai 2 bb a8 bc)) λ_ bd=>bP a (Sl.rle_Hint (.str [35,97,98,99]) bd) λaa ab=>(At 0 aa).bind λbe=>(At 1 aa).bind λbg=>(Af .none .add (.str [35,97,98,99]) be).bind λbj=>(Ad true 2 b ab).bind λbk=>bP a (Sl.rle_Read bj bk ab) λh bl=>(At 0 h).bind λbm=>(At 1 h).bind λcy=>(At 2 h).bind λbp=>Ao (A3 (some [(.str []),(.sl [] .ti)]) bl) λbq br=>bP a (AE (Ai 2 bq bm br)) λ_ bt=>bP a (Sl.rle_Hint (.str [120,61]) bt) λac bu=>(At 0 ac).bind λcz=>(At 1 ac).bind λbv=>(AD (some [(.i6 0),(.i6 0)]) [(0,1,(.i6 2)),(1,1,(.i6 9))]).bind λbw=>bP a (Sl.rle_Read (.str [120,32,61,32,48,44,32,121,32,61,32,48,44,32,114,117,108,101,32,61,32,97,10,98,50,111,33]) bw bu) λi bz=>(At 0 i).bind λb0=>(At 1 i).bind λc0=>(At 2 i).bind λb1=>Ao (A3 (some [(.str []),(.sl [] .ti)]) bz) λb2 b3=>bP a (AE (Ai 2 b2 b0 b3)) λ_ b4=>(Af .none .eql ap (.i6 0)).bind λj=>gk j true (some aw) λb5=>gk j true (Af .none .eql b5 (.i6 0)) λb6=>(AB j b6 (.bool false)).bind λk=>gk k true (some a1) λb7=>gk k true (Af .none .eql b7 (.i6 0)) λb8=>(AB k b8 (.bool false)).bind λl=>gk l true (some a5) λb9=>gk l true (Af .none .eql b9 (.i6 0)) λca=>(AB l ca (.bool false)).bind λm=>gk m true (some a0) λcb=>gk m true (Af .none .eql cb (.str [35,67,88,82,76,69,32,80,111,115,61,50,44,48,10,120,32,61,32,50,44,32,121,32,61,32,49,44,32,114,117,108,101,32,61,32,97,10,50,111,33,10])) λcc=>(AB m cc (.bool false)).bind λn=>gk n true (some a4) λcd=>gk n true (Af .none .eql cd (.str [35,67,88,82,76,69,32,80,111,115,61,45,49,44,53,10,120,32,61,32,50,44,32,121,32,61,32,51,44,32,114,117,108,101,32,61,32,97,10,112,65,50,36,46,66,33,10])) λce=>(AB n ce (.bool false)).bind λo=>gk o true (some a9) λcg=>gk o true (Af .none .eql cg (.i6 24)) λcj=>(AB o cj (.bool false)).bind λp=>gk p true (some ba) λck=>gk p true (Af .none .eql ck (.i6 2)) λcl=>(AB p cl (.bool false)).bind λad=>gk ad true (some bg) λcm=>(AB ad cm (.bool false)).bind λq=>gk q true (some bp) λcn=>gk q true (Af .none .eql cn (.i6 0)) λcp=>(AB q cp (.bool false)).bind λr=>gk r true (some bv) λcq=>gk r true (unA .not cq) λcr=>(AB r cr (.bool false)).bind λs=>gk s true (some b1) λct=>gk s true (Af .none .eql ct (.i6 4)) λcu=>(AB s cu (.bool false)).bind λcv=>rP a cv b4
noncomputable def Udk (b:Ab)(c:Aa):Out:=(A5 b).bind λd=>(Af .none .eql d (.i6 0)).bind λa=>gk a false (some b) λe=>gk a false (some b) λf=>gk a false (A5 f) λg=>gk a false (Af .none .sub g (.i6 1)) λh=>gk a false (Aw 1 e h) λi=>gk a false (Ad false 1 i c) λj=>gk a false (Af .none .neq j (.int .u32 0)) λk=>(AB a (.bool true) k).bind λl=>rK c l c
noncomputable def Ub1 (g:Ab)(c:Aa):Out:=Ao (B3 true 2 g c) λd f=>(Ac 1 d).bind λh=>(Ad false 1 h f).bind λi=>bP c (Udk i f) λa e=>gk a true (Ac 0 d) λj=>gk a true (Ad false 1 j e) λk=>gk a true (some k) λb=>gk b true (Ac 1 d) λl=>gk b true (Ad false 1 l e) λm=>gk b true (A5 m) λn=>gk b true (Af .none .eql n (.i6 0)) λo=>gk a true (AB b o (.bool false)) λp=>gk a true (unA .not p) λq=>(AB a q (.bool false)).bind λr=>rP c r e
noncomputable def Udl (d:Aa)(f:LK)(c e b:Ab)(a:Aa):Out:=(A5 c).bind λg=>(Af .none .lss b g).bind λh=>Ak h ((Aw 5 c b).bind λi=>bC (Ad true 5 i a) (λ_=>True) λj=>bC (Ad true 5 e a) (λ_=>True) λk=>(Af (.flat 5) .eql j k).bind λl=>Ak l ((Af .none .add b (.i6 1)).bind λm=>rP d m a) ((Af .none .add b (.i6 1)).bind λn=>f [c,e,n] a)) (rP d (.i6 0) a)
noncomputable def UdU (b c:Ab)(a:Aa):Out:=Ao (B3 true 5 c a) λd e=>Am (λf vs H=>Udl a f (ag vs 0) (ag vs 1) (ag vs 2) H) AP [b,d,(.i6 0)] e
noncomputable def UdV (a:Aa)(d e b c:Ab)(f:Aa):Out:=(Aw 1 b d).bind λg=>bK a (AE (Ai 1 g c f)) λ_ h=>rK a (.tup [e,b,c]) h
noncomputable def Udm (b:Aa)(self:Ab->Ab->Ab->Ab->Ab->Aa->Out)(o:LK)(k l g d h a e:Ab)(c:Aa):Out:=(Af .none .lss e (.i6 4)).bind λf=>gk f true (Ac 0 a) λp=>gk f true (Ad false 1 p c) λq=>gk f true (Af .none .gtr q (.i6 1)) λr=>(AB f r (.bool false)).bind λs=>Ak s ((Ac 1 a).bind λt=>(BK 4 1 t e).bind λu=>(Ad false 1 u c).bind λv=>bK b (self k l v d h c) λi w=>(At 0 i).bind λx=>(At 1 i).bind λy=>(At 2 i).bind λz=>(Ac 1 a).bind λaa=>(BK 4 1 aa e).bind λab=>bK b (AE (Ai 1 ab z w)) λ_ ac=>(Af .none .add e (.i6 1)).bind λad=>o [k,l,g,x,y,a,ad] ac) ((Ad true 5 a c).bind λae=>bK b (UdU d ae c) λm j=>AM (λj2=>(Af .none .eql m (.i6 0)).bind λaj=>Ak aj ((Ad true 5 a j).bind λak=>(AN 5 [ak]).bind λal=>bK b (Cy (Bf AY 5 40 d al j)) λn am=>(A5 n).bind λan=>j2 [g,n,h,an] am) (j2 [g,d,h,m] j)) (λvs H=>UdV b (ag vs 0) (ag vs 1) (ag vs 2) (ag vs 3) H))
noncomputable def Ub2 (self:Ab->Ab->Ab->Ab->Ab->Aa->Out)(e f b d c:Ab)(a:Aa):Out:=(Aw 1 f b).bind λh=>(Ad false 1 h a).bind λi=>Ak i (rK a (.tup [d,c,(.i6 0)]) a) ((Aw 1 c b).bind λj=>(Ad false 1 j a).bind λk=>(Af .none .gtr k (.i6 0)).bind λl=>Ak l ((Aw 1 c b).bind λm=>bC (Ad false 1 m a) (λ_=>True) λn=>rK a (.tup [d,c,n]) a) ((Af .none .sub b (.i6 1)).bind λo=>(Aw 5 e o).bind λp=>(Ad true 5 p a).bind λq=>Ao (A3 (some [(.i6 0),(.i6 0),(.i6 0),(.i6 0),(.i6 0)]) a) λg r=>bK a (AE (Ai 5 g q r)) λ_ s=>Am (λt vs H=>Udm a self t (ag vs 0) (ag vs 1) (ag vs 2) (ag vs 3) (ag vs 4) (ag vs 5) (ag vs 6) H) AP [e,f,b,d,c,g,(.i6 0)] s))
noncomputable def Ub3:Nat->Ab->Ab->Ab->Ab->Ab->Aa->Out | 0=>λ_ _ _ _ _ _=>none | d+1=>Ub2 (Ub3 d)
noncomputable def UdW (d:Aa)(f:LK)(c e b:Ab)(a:Aa):Out:=(A5 c).bind λg=>(Af .none .lss b g).bind λh=>Ak h ((Aw 5 c b).bind λi=>bC (Ad true 5 i a) (λ_=>True) λj=>(Aw 5 e b).bind λk=>bC (Ad true 5 k a) (λ_=>True) λl=>(Af (.flat 5) .neq j l).bind λm=>Ak m (rK d (.bool false) a) ((Af .none .add b (.i6 1)).bind λn=>f [c,e,n] a)) (rK d (.bool true) a)
noncomputable def Udn (b c:Ab)(a:Aa):Out:=(A5 b).bind λd=>(A5 c).bind λe=>(Af .none .neq d e).bind λf=>Ak f (rK a (.bool false) a) (Am (λg vs H=>UdW a g (ag vs 0) (ag vs 1) (ag vs 2) H) AP [b,c,(.i6 0)] a)
noncomputable def Udo (c d:Ab)(a:Aa):Out:=Ao (B3 true 1 c a) λe f=>Ao (B3 true 1 d f) λg b=>(Ac 0 e).bind λh=>(Ad false 1 h b).bind λi=>(Ac 0 g).bind λj=>(Ad false 1 j b).bind λk=>bP a (Udn i k b) λl m=>rP a l m
noncomputable def UeL (f g:Ab)(c:Aa):Out:=Ao (B3 true 2 f c) λd h=>Ao (B3 true 2 g h) λe a=>(Ac 0 d).bind λi=>(Ad false 1 i a).bind λj=>(Ac 0 e).bind λk=>(Ad false 1 k a).bind λl=>(Af .none .eql j l).bind λb=>gk b true (Ac 1 d) λm=>gk b true (Ad true 1 m a) λn=>gk b true (Ac 1 e) λo=>gk b true (Ad true 1 o a) λp=>gbP c b true a (Udo n p a) λq r=>(AB b q (.bool false)).bind λs=>rP c s r
noncomputable def Sl.gliderlaw18_alive:Aa->Out:=Classical.choose (⟨UeK,rfl⟩:∃f:Aa->Out,f=UeK)
theorem Sl.gliderlaw18_alive_eq:Sl.gliderlaw18_alive=UeK:=Classical.choose_spec (⟨UeK,rfl⟩:∃f:Aa->Out,f=UeK)
noncomputable def Sl.gliderref11_Same:Ab->Ab->Aa->Out:=Classical.choose (⟨UeL,rfl⟩:∃f:Ab->Ab->Aa->Out,f=UeL)
theorem Sl.gliderref11_Same_eq:Sl.gliderref11_Same=UeL:=Classical.choose_spec (⟨UeL,rfl⟩:∃f:Ab->Ab->Aa->Out,f=UeL)
noncomputable def Udp (d:Aa)(f:LK)(e b c:Ab)(a:Aa):Out:=(Ac 4 b).bind λg=>(Ad false 1 g a).bind λh=>(A5 h).bind λi=>(Af .none .lss c i).bind λj=>Ak j ((Ac 4 b).bind λk=>(Ad false 1 k a).bind λl=>(Aw 1 l c).bind λm=>(Ad false 1 m a).bind λn=>(BU n).bind λo=>(Af .none .gtr o e).bind λp=>Ak p (rP d (.bool true) a) ((Af .none .add c (.i6 1)).bind λq=>f [e,b,q] a)) (rP d (.bool false) a)
noncomputable def Uac (g f:Ab)(e:Aa):Out:=Ao (B3 true 5 g e) λd c=>(Ac 4 d).bind λh=>(Ad false 1 h c).bind λi=>(A5 i).bind λj=>(Af .none .gtr j f).bind λa=>gk a false (Ac 0 d) λk=>gk a false (Ac 1 k) λl=>gk a false (Ad false 1 l c) λm=>gk a false (A5 m) λn=>gk a false (Af .none .gtr n (.i6 50)) λo=>(AB a (.bool true) o).bind λb=>gk b false (Ac 2 d) λp=>gk b false (Ac 1 p) λq=>gk b false (Ad false 1 q c) λr=>gk b false (A5 r) λs=>gk b false (Af .none .gtr s (.i6 50)) λt=>(AB b (.bool true) t).bind λu=>Ak u (rP e (.bool true) c) (Am (λv vs H=>Udp e v (ag vs 0) (ag vs 1) (ag vs 2) H) AP [f,d,(.i6 0)] c)
noncomputable def Udq (e:Aa)(j:LK)(b f:Ab)(a:Aa):Out:=(Ac 4 b).bind λk=>(Ad false 1 k a).bind λl=>(A5 l).bind λm=>(Af .none .lss f m).bind λn=>Ak n ((Ac 4 b).bind λo=>bC (Ad false 1 o a) (λ_=>True) λp=>(Aw 1 p f).bind λq=>bC (Ad false 1 q a) (λ_=>True) λr=>(BU r).bind λs=>(Ac 4 b).bind λt=>bC (Ad false 1 t a) (λ_=>True) λu=>(Aw 1 u (.i6 0)).bind λv=>bC (Ad false 1 v a) (λ_=>True) λw=>(BU w).bind λx=>(Af .none .neq s x).bind λc=>gk c false (Ac 4 b) λy=>gkc c false (Ad false 1 y a) (λ_ _=>True) λz=>gk c false (some f) λaa=>gk c false (Aw 1 z aa) λab=>gkc c false (Ad false 1 ab a) (λ_ _=>True) λac=>gk c false (BU ac) λad=>gk c false (Af .none .gtr ad (.i6 1000)) λae=>(AB c (.bool true) ae).bind λaj=>Ak aj (rP e (.bool false) a) ((Af .none .add f (.i6 1)).bind λak=>j [b,ak] a)) ((Ac 0 b).bind λal=>(Ad true 2 al a).bind λam=>bP e (Ub1 am a) λg h=>gk g true (Ac 2 b) λan=>gk g true (Ad true 2 an h) λap=>gbP e g true h (Ub1 ap h) λaq i=>(AB g aq (.bool false)).bind λd=>gk d true (Ac 4 b) λar=>gk d true (Ad false 1 ar i) λau=>gk d true (A5 au) λav=>gk d true (Af .none .leq av (.i6 1000)) λaw=>(AB d aw (.bool false)).bind λax=>rP e ax i)
noncomputable def UeB (b:Ab)(a:Aa):Out:=Ao (B3 true 5 b a) λc d=>Am (λe vs H=>Udq a e (ag vs 0) (ag vs 1) H) AP [c,(.i6 0)] d
noncomputable def Sl.gliderref10_Great:Ab->Ab->Aa->Out:=Classical.choose (⟨Uac,rfl⟩:∃f:Ab->Ab->Aa->Out,f=Uac)
theorem Sl.gliderref10_Great_eq:Sl.gliderref10_Great=Uac:=Classical.choose_spec (⟨Uac,rfl⟩:∃f:Ab->Ab->Aa->Out,f=Uac)
noncomputable def Sl.gliderref10_Right:Ab->Aa->Out:=Classical.choose (⟨UeB,rfl⟩:∃f:Ab->Aa->Out,f=UeB)
theorem Sl.gliderref10_Right_eq:Sl.gliderref10_Right=UeB:=Classical.choose_spec (⟨UeB,rfl⟩:∃f:Ab->Aa->Out,f=UeB)
noncomputable def Sl.gliderref13_Tokens:Ab->Aa->Out:=Classical.choose (⟨UeA,rfl⟩:∃f:Ab->Aa->Out,f=UeA)
theorem Sl.gliderref13_Tokens_eq:Sl.gliderref13_Tokens=UeA:=Classical.choose_spec (⟨UeA,rfl⟩:∃f:Ab->Aa->Out,f=UeA)
noncomputable def Uet (j:Aa)(a:LK)(b c d e f g:Ab)(h:Aa):Out:=(Af .none .add g (.i6 1)).bind λi=>a [b,c,d,e,f,i] h
noncomputable def Ub4 (b:Aa)(v:LK)(f g c p q a:Ab)(d:Aa):Out:=(A5 c).bind λw=>(Af .none .lss a w).bind λx=>Ak x (AM (λj2=>(Aw 1 c a).bind λy=>bC (Ad false 1 y d) (λ_=>True) λz=>(Af .none .add p z).bind λj=>(Aw 1 c a).bind λaa=>bC (Ad false 1 aa d) (λ_=>True) λab=>(Af .none .add q ab).bind λk=>(A5 f).bind λac=>(Af .none .lss a ac).bind λe=>gk e true (some a) λad=>gk e true (Af .none .add ad (.i6 1)) λae=>gk e true (some c) λaj=>gk e true (A5 aj) λak=>gk e true (Af .none .lss ae ak) λal=>(AB e al (.bool false)).bind λam=>Ak am ((Aw 1 f a).bind λan=>(Ad false 1 an d).bind λap=>Ak ap ((Af .none .add k (.str [32,13,10])).bind λaq=>j2 [f,g,c,j,aq,a] d) ((Af .none .add k (.str [10,32,32])).bind λar=>j2 [f,g,c,j,ar,a] d)) (j2 [f,g,c,j,k,a] d)) (λvs H=>Uet b v (ag vs 0) (ag vs 1) (ag vs 2) (ag vs 3) (ag vs 4) (ag vs 5) H)) ((AD (some [(.i6 0),(.i6 0)]) [(0,1,(.i6 60)),(1,1,(.i6 100000))]).bind λau=>Ao (A3 (some [(.i6 0),(.i6 0)]) d) λl av=>bP b (AE (Ai 2 l au av)) λ_ r=>(Ad true 2 l r).bind λaw=>bP b (Sl.rle_Read p aw r) λm ax=>(At 0 m).bind λay=>(At 1 m).bind λbe=>(At 2 m).bind λaz=>Ao (A3 (some [(.str []),(.sl [] .ti)]) ax) λs a0=>bP b (AE (Ai 2 s ay a0)) λ_ t=>(Af .none .add q g).bind λa1=>(Ad true 2 l t).bind λa2=>bP b (Sl.rle_Read a1 a2 t) λn a3=>(At 0 n).bind λa4=>(At 1 n).bind λbg=>(At 2 n).bind λa5=>Ao (A3 (some [(.str []),(.sl [] .ti)]) a3) λu a6=>bP b (AE (Ai 2 u a4 a6)) λ_ h=>(Af .none .eql az (.i6 0)).bind λo=>gk o true (some a5) λa7=>gk o true (Af .none .eql a7 (.i6 0)) λa8=>(AB o a8 (.bool false)).bind λi=>gk i true (Ad true 2 s h) λa9=>gk i true (Ad true 2 u h) λba=>gbP b i true h (Sl.gliderref11_Same a9 ba h) λbb bc=>(AB i bb (.bool false)).bind λbd=>rP b bd bc)
noncomputable def UdX (k i j:Ab)(a:Aa):Out:=Ao (B3 true 5 k a) λe l=>bP a (Sl.gliderlaw18_alive l) λm f=>(unA .not m).bind λn=>Ak n (rP a (.bool false) f) ((Ad true 5 e f).bind λo=>bP a (Sl.gliderref10_Great o (.i6 30) f) λb g=>gk b false (Ad true 5 e g) λp=>gbP a b false g (Sl.gliderref10_Right p g) λq h=>gk b false (unA .not q) λr=>(AB b (.bool true) r).bind λc=>gk c false (some i) λs=>gk c false (A5 s) λt=>gk c false (Af .none .gtr t (.i6 1000)) λu=>(AB c (.bool true) u).bind λd=>gk d false (some j) λv=>gk d false (BU v) λw=>gk d false (Af .none .gtr w (.i6 100)) λx=>(AB d (.bool true) x).bind λy=>Ak y (rP a (.bool true) h) ((Ad true 5 e h).bind λz=>bP a (Sl.gliderref13_Tokens z h) λaa ab=>Am (λac vs H=>Ub4 a ac (ag vs 0) (ag vs 1) (ag vs 2) (ag vs 3) (ag vs 4) (ag vs 5) H) AP [i,j,aa,(.str [120,32,61,32,48,44,32,121,32,61,32,48,44,32,114,117,108,101,32,61,32,97,10]),(.str [35,120,10,120,32,61,32,48,44,32,121,32,61,32,48,44,32,114,117,108,101,32,61,32,97,13,10]),(.i6 0)] ab))
open Go.Proofs
set_option maxRecDepth 100000
theorem mixed:Tryz.prog.follows .mixedOrders=true:=by kernel_rfl
theorem OT:AG Tryz.prog Gs 235 (ap1 Udr):=mk1 .keep (Ar _ _) [] Tryz.func235
theorem KZ:AG Tryz.prog Gs 140 (ap1 Uew):=mk1 .keep (Ar _ _) [] Tryz.func140
theorem DK:AG Tryz.prog Gs 201 (ap1 Uab):=mk1 .keepN ((Ah KZ (Ar _ _))) [[0]] Tryz.func201
open Go.ChangeShapes Go.WideShapes Go.ChangeAt Go.RowKit
def MA (W:World):Env:=⟨λ_ _=>none,λ_ _=>none,λb o=>W.cell? ⟨b,o,none⟩⟩
theorem Vqd (W:World)(hf:∀b cs,VpG b=some cs->0<cs.size/\∃t fr,W.heap[b]? = some (.cells cs t fr)):Sim (MA W) [] W:=
 ⟨λid B h=>(by simp at h),λid g b h=>(by cases h),λid g b h=>(by cases h),λid B n h=>(by simp at h),λid id' b h=>(by simp[loc]at h),λb o v h=>h,λb cs h=>by obtain⟨h0,t,fr,h1⟩:=hf b cs h;exact⟨⟨t,fr,h1⟩,⟨cs[0],by rw[show (MA W).I b 0=W.cell? ⟨b,0,none⟩ from rfl,Bg h1];simp[h0]⟩,λid=>by simp[loc]⟩⟩
theorem RJ {E0:Env}{w0:World}{E:Env}{H:Aa}{w:World}(h:BL E0 [] w0 E H w):Below w0.heap.size w0 w:=
 ⟨h.os,h.tape,h.output,h.size,λk hk=>h.frame k hk (λ⟨i,hi⟩=>by simp[loc]at hi)⟩
theorem VgR {P:Program}{G:Ig}{g:FuncId}{F:List Ab->Aa->Out}(hF:AG P G g F){fn:Func}(hf:P.funcs[g]? = some fn)(hb:fn.body.isNone=false)(hn:(fn.name == "runtime.NumGoroutine")=false)
  {W:World}(Yw:∀b cs,VpG b=some cs->0<cs.size/\∃t fr,W.heap[b]? = some (.cells cs t fr))(hG:DM G (MA W)){args:List Ab}{vs:Array Value}(hv:A1 (MA W) args vs.toList)(h:F args []=some (.ret (.bool true),[])) :
  Calls P g vs W λe W'=>e=.returned (.bool true)/\Below W.heap.size W W':=by
 rcases hF args [] _ _ h (MA W) W vs hG (Vqd W Yw) hv with ⟨_,h1⟩ | ⟨v,w',h1,_⟩
 ·refine h1.mono λe W' ⟨E',h2,_,h3⟩=>⟨?_,RJ h3⟩;cases e with
  |returned v=>rw[Au.bool_inv h2]
  |panicked c=>exact h2.elim
  |outgrown=>exact h2.elim
 ·rw[Fk hf hb hn]at h1;cases h1
section
variable {H:Type}{enc:TypeId×Value->H}{P:Program}
theorem Nv (hl:laidOutB P=true){W W':World}(hb:Below W.heap.size W W'){sp:Nat->Bool}:∀ {ts:List TypeId} {vs:List Value} {ds:List (DataW H)} {ps:List MemPlace},
  (ts.all λt=>P.readableRec t&&decide (t<P.types.size))=true->DataW.TrodAll enc P W 0 (λ_=>true) true ts vs ds ps->(∀x∈ps,x.block<W.heap.size)->(∀x∈ps,sp x.block=true)->DataW.TrodAll enc P W' 0 sp true ts vs ds ps
 |[],_,_,_,_,h,_,_=>by obtain⟨rfl,rfl,rfl⟩:=trodAll_nil h;exact trodAll_mk0
 |t::ts,_,_,_,ht,h,hlt,hsp=>by
  obtain⟨v,vs1,d,ds1,a,b,rfl,rfl,rfl,h1,h2⟩:=trodAll_cons h;simp only[List.all_cons,Vx,zXe]at ht;exact trodAll_cons_mk (WideElems.Trod_stays hl ht.1.1 ht.1.2 h1 (λx hx=>hb.same (hlt x (by simp[hx]))) (λx hx=>hsp x (by simp[hx])))
   (Nv hl hb (by simpa using ht.2) h2 (λx hx=>hlt x (by simp[hx])) (λx hx=>hsp x (by simp[hx])))
theorem Vii {f:Func}{s:ChangeSpec}{W W':World}{args:Array Value}{ds gs:List (DataW H)}{before:List MemPlace}(hW:DataW.Whole enc P f.params.toList s.vars false W args.toList ds gs before)
  (hl:laidOutB P=true)(hr:(f.params.toList.all λt=>P.readableRec t&&decide (t<P.types.size))=true)(hB:Below W.heap.size W W')(lO:s.vars=[]){tb:TypeId}(sH:f.resultTypes = #[tb])(mN:P.underlying tb=some .bool)
  (hres:(s.fn H (ds++gs)).results=[.lit (.bool true)])(dQ:(s.fn H (ds++gs)).args=ds)(oD:(s.fn H (ds++gs)).vars=[]):s.post enc P f false true false false W args (.bool true) W':=by
 have hold:∀p∈before,(λb=>decide (b<W.heap.size)) p.block=true:=λp hp=>by simpa using hW.lt p hp
 have hlt:=hW.lt;have hW':=hW;obtain⟨p,q,hA,hV,zP,hz,hn⟩:=hW;rw[lO]at hV;obtain⟨rfl,rfl⟩:=trodVars_none hV;have uB:before=p:=by rw[zP];simp
 subst uB;have ha:∀sp:Nat->Bool,(∀x∈before,sp x.block=true)->DataW.TrodAll enc P W' 0 sp true f.params.toList args.toList (s.fn H (ds++[])).args before:=λsp hsp=>by rw[dQ];exact Nv hl hB hr hA hlt hsp
 have eD:∀(b:Nat) (sp:Nat->Bool) (hd:Bool),DataW.TrodAll enc P W' b sp hd f.resultTypes.toList ((Value.bool true).resultList f.resultTypes.size) (s.fn H (ds++[])).results []:=λb sp hd=>by rw[hres,sH];exact trodAll_cons_mk (shut_bool mN _) trodAll_mk0
 have aU:∀sp:Nat->Bool,DataW.TrodVars enc P W' sp s.vars (s.fn H (ds++[])).vars []:=λsp=>by rw[lO,oD];rfl
 refine⟨ds,[],before,[],before,[],hW',eD _ _ _,ha _ hold,aU _,World.keptBut_mono (λp hp=>hp) (hB.frame _),λ_=>?_⟩;refine⟨ok_one sH rfl (okWide_bool_mk mN _),_,_,([]++before)++[],⟨[]++before,[],trodAll_append (ha _ (λ_ _=>rfl)) (eD _ _ _),aU _,rfl,?_,?_⟩,?_⟩
 ·intro b off hp;have hp':MemPlace.cell b off∈before:=by simpa using hp
  rw[hB.frozen (hlt _ hp')];exact hz b off hp'
 ·intro h;cases h
 ·intro p hp _;simpa using hp

end
open Go.RowKit
theorem Ul {E:Env}{H:Aa}{w w':World}(h:Sim E H w)(hb:Below w.heap.size w w'):Sim E H w'/\BL E H w E H w':=
 h.ext (.refl E) (λ_ _ _ h=>h) (λ_ _ _ h=>h) hb.block (λ_ _=>rfl) (λb o v hv hlt=>by have:=h.imm_lt hv;omega) hb.os hb.tape hb.output hb.size
def Env.bare (E:Env):Env:=⟨λ_ _=>none,λ_ _=>none,E.I⟩
theorem Vh1 {E:Env}{H:Aa}{w:World}(h:Sim E H w):Sim E.bare [] w:=
 ⟨λid B h=>(by simp at h),λid g b h=>(by cases h),λid g b h=>(by cases h),λid B n h=>(by simp at h),λid id' b h=>(by simp[loc]at h),λb o v hv=>h.imm b o v hv,λb cs hf=>⟨(h.fix b cs hf).1,(h.fix b cs hf).2.1,λid=>by simp[loc]⟩⟩
theorem ViS {P:Program}{G:Ig}{g:FuncId}{F:List Ab->Aa->Out}(hF:AG P G g F){fn:Func}(hf:P.funcs[g]? = some fn)(hB:fnB 0 fn=true)
  {E:Env}{H:Aa}{w:World}(hG:DM G E.bare)(hs:Sim E H w){args:List Ab}{vs:Array Value}(hv:A1 E.bare args vs.toList){res:Res}(h:F args []=some (res,[])) :
  Calls P g vs w λe w'=>(∃E',IH E' res e)/\Below w.heap.size w w':=by
 obtain⟨b1,b2,b3⟩:=F6 hB;rcases hF args [] _ _ h E.bare w vs hG (Vh1 hs) hv with ⟨_,h1⟩ | ⟨v,w',h1,_⟩
 ·exact h1.mono λe w' ⟨E',h2,_,h3⟩=>⟨⟨E',h2⟩,RJ h3⟩
 ·rw[Fk hf b1 b2]at h1;cases h1
theorem VjS {P:Program}{G:Ig}{g:FuncId}{fn:Func}(hf:P.funcs[g]? = some fn)(hB:fnB 0 fn=true){args:List Ab}{H:Aa}{x:Ab}
  (h:∀(E:Env) (w:World) (vs:Array Value),DM G E->Sim E H w->A1 E args vs.toList->∃v,Au E x v/\Calls P g vs w λe w'=>e=.returned v/\Below w.heap.size w w'):Vhm P G g args H (.ret x) H:=by
 intro E w vs hG hs hv;obtain⟨v,h1,h2⟩:=h E w vs hG hs hv;obtain⟨b1,b2,b3⟩:=F6 hB;refine .inl ⟨Fk hf b1 b2 vs w,h2.mono λe w' ⟨he,hb⟩=>?_⟩;subst he;obtain⟨k1,k2⟩:=Ul hs hb;exact⟨E,h1,k1,k2⟩
theorem Vow {E:Env}{a:Ab}{vs:Array Value}(h:A1 E [a] vs.toList):∃v,vs = #[v]/\Au E a v:=by
 obtain⟨l⟩:=vs
 match l,h with
 |[v],h=>exact⟨v,rfl,h.head⟩
 |[],h=>exact absurd h.1 (by simp)
 |_::_::_,h=>exact absurd h.1 (by simp)
theorem Vmv {E:Env}{a b:Ab}{vs:Array Value}(h:A1 E [a,b] vs.toList):∃v u,vs = #[v,u]/\Au E a v/\Au E b u:=by
 obtain⟨l⟩:=vs
 match l,h with
 |[v,u],h=>exact⟨v,u,rfl,h.head,h.tail.head⟩
 |[],h=>exact absurd h.1 (by simp)
 |[_],h=>exact absurd h.1 (by simp)
 |_::_::_::_,h=>exact absurd h.1 (by simp)
theorem Vei {E:Env}{s:zAa}{v:Value}(h:Au E (.str s) v):v=.string ⟨s.toArray⟩:=by cases h;rfl
theorem Rg {E:Env}{k:IntKind}{n:Int}{v:Value}(h:Au E (.int k n) v):v=.int k n:=by cases h;rfl
end Go.Gm
/-
 DERIVED: THE SHELF's CONTRACTS AT THIS DUMP,IN PLAIN WORDS (tools/lay-plain.mjs out of 'TryzShelf.lean',which tools/lay-shelf.mjs wrote): THE SAME DECLARATIONS UNDER THE SAME NAMES: 'import','namespace','open','def','theorem' AND NOTHING ELSE: no command of the shelf's: FOR A HAND-IN. Each laying: the table of numbers ('.._ren') and one theorem,a field a fact of the dump's own or the kernel's comparison;each contract: ONE APPLICATION.
-/
namespace Go.Proofs
open Go.Shelf
def Tryz.lays137_ren:Go.Shelf.Ren:=⟨fun | 137=>177 | 217=>220 | 266=>231 | n=>n,fun | 9=>9 | 5=>5 | 3=>3 | n=>n,fun | n=>n⟩
theorem Tryz.lays137:Go.Proofs.Lays.n137 Tryz.prog Tryz.lays137_ren:={
 mixed:=by kernel_rfl
 f137:=Tryz.func177.trans (congrArg some (by kernel_rfl))
 f217:=Tryz.func220.trans (congrArg some (by kernel_rfl))
 f266:=Tryz.func231.trans (congrArg some (by kernel_rfl))
 t3:=Tryz.underlying3
 a3:=Tryz.isAgg3
 z3:=Tryz.sizeOf3
 v3:=Tryz.zeroValue3
 t5:=Tryz.underlying5
 a5:=Tryz.isAgg5
 z5:=Tryz.sizeOf5
 v5:=Tryz.zeroValue5
 t9:=Tryz.underlying9
 a9:=Tryz.isAgg9
 z9:=Tryz.sizeOf9
 v9:=Tryz.zeroValue9 }
open Go.RowKit in
theorem Tryz.strings_IndexByte (s:ByteArray)(c:Int)(w:World) :
  Calls Tryz.prog 177 #[.string s,.int .u8 c] w λe w'=>e=.returned (.i6 (Lib.indexByte s.data.toList c.toNat.toUInt8))/\w'=w:=Any.strings_IndexByte Tryz.lays137 s c w
def Tryz.laysGw15_ren:Go.Shelf.Ren:=⟨fun | 15=>234 | 20=>239 | n=>n,fun | 9=>9 | 23=>256 | 3=>3 | 4=>4 | 0=>0 | 21=>21 | n=>n,fun | n=>n⟩
theorem Tryz.laysGw15:Go.Proofs.LaysGw.n15 Tryz.prog Tryz.laysGw15_ren:={
 mixed:=by kernel_rfl
 f15:=Tryz.func234.trans (congrArg some (by kernel_rfl))
 f20:=Tryz.func239.trans (congrArg some (by kernel_rfl))
 t0:=Tryz.underlying0
 a0:=Tryz.isAgg0
 z0:=Tryz.sizeOf0
 v0:=Tryz.zeroValue0
 i0:=by kernel_rfl
 t3:=Tryz.underlying3
 a3:=Tryz.isAgg3
 z3:=Tryz.sizeOf3
 v3:=Tryz.zeroValue3
 i3:=by kernel_rfl
 t4:=Tryz.underlying4
 a4:=Tryz.isAgg4
 z4:=Tryz.sizeOf4
 v4:=Tryz.zeroValue4
 i4:=by kernel_rfl
 t9:=Tryz.underlying9
 a9:=Tryz.isAgg9
 z9:=Tryz.sizeOf9
 v9:=Tryz.zeroValue9
 i9:=by kernel_rfl
 t21:=Tryz.underlying21
 a21:=Tryz.isAgg21
 z21:=Tryz.sizeOf21
 v21:=Tryz.zeroValue21
 i21:=by kernel_rfl
 t23:=Tryz.underlying256
 a23:=Tryz.isAgg256
 z23:=Tryz.sizeOf256
 v23:=Tryz.zeroValue256
 i23:=by kernel_rfl }
open Go.RowKit Go.Lib in
theorem Tryz.strings_IndexFunc_grows (g:Nat)(lb:Array Value)(eg:∀args w,(callFunc g args).run Tryz.prog w=.ok (.enter g args) w)(p:Nat->Bool)(s:ByteArray)(w:World)(hp:PredGrows Tryz.prog g lb p w) :
  Calls Tryz.prog 234 #[.string s,.func (.func g) #[] lb] w λe w'=>e=.returned (.i6 (Lib.idxFunc p true s))/\Below w.heap.size w w':=Any.strings_IndexFunc_grows Tryz.laysGw15 g lb eg p s w hp
end Go.Proofs
namespace Go.Gm
@[simp 2000] theorem BB {α β:Type}(a:α)(f:α->Option β):(some a).bind f=f a:=(rfl)
theorem DA {G:LK->LK}(N:Nat)(p:Nat->Bool)(st:Nat->List Ab)(H:Aa)(yes no:Out)(hN:N<1152921504606846976)
  (turn:∀(rec:LK) (i:Nat),i<N->G rec (st i) H=if p i then rec (st (i+1)) H else no)(last:∀rec:LK,G rec (st N) H=yes):Am G AP (st 0) H=if (List.range N).all p then yes else no:=by
 refine Br (σ:=Nat) (λi=>i<=N/\∀j,j<i->p j=true) st (λ_=>H) (λi=>N-i) (λ_=>if (List.range N).all p then yes else no) (λi rec hi hrec=>?_) 0 ⟨VL _,λj hj=>by omega⟩ (by omega);by_cases h:i<N
 ·rw[turn rec i h];cases hp:p i with
  |true=>exact hrec (i+1) ⟨h,λj hj=>by
    by_cases e:j=i
    ·rw[e];exact hp
    ·exact hi.2 j (by omega)⟩ (by omega)
  |false=>
   have:(List.range N).all p=false:=by rw[Xd];exact⟨i,by simpa using h,by simp[hp]⟩
   simp[this]
 ·have e:i=N:=by omega
  subst e;have:(List.range i).all p=true:=by rw[V7];intro j hj;exact hi.2 j (by simpa using hj)
  rw[last,this];rfl
theorem NG {G:LK->LK}(N:Nat)(p:Nat->Bool)(st:Nat->List Ab)(H:Aa)(none':Out)(found:Nat->Out)(hN:N<1152921504606846976)
  (turn:∀(rec:LK) (i:Nat),i<N->G rec (st i) H=if p i then found i else rec (st (i+1)) H)(last:∀rec:LK,G rec (st N) H=none') :
  Am G AP (st 0) H=match (List.range N).find? p with | some i=>found i | none=>none':=by
 refine Br (σ:=Nat) (λi=>i<=N/\∀j,j<i->p j=false) st (λ_=>H) (λi=>N-i) (λ_=>match (List.range N).find? p with | some i=>found i | none=>none') (λi rec hi hrec=>?_) 0 ⟨VL _,λj hj=>by omega⟩ (by omega);by_cases h:i<N
 ·rw[turn rec i h];cases hp:p i with
  |false=>exact hrec (i+1) ⟨h,λj hj=>by
    by_cases e:j=i
    ·rw[e];exact hp
    ·exact hi.2 j (by omega)⟩ (by omega)
  |true=>
   have:(List.range N).find? p=some i:=by rw[XQ];exact⟨hp,by simpa using h,λj hj=>by simp[hi.2 j hj]⟩
   rw[this];rfl
 ·have e:i=N:=by omega
  subst e;have:(List.range i).find? p=none:=by rw[Xu];intro j hj;simp[hi.2 j (by simpa using hj)]
  rw[last,this]
theorem BH {sz:Nat}{cs:List Ab}{H:Aa}(h:cs.all Ab.isScal=true)(hl:cs.length=sz):B3 true sz (.agg cs) H=some (.ptr H.length 0 0,H++[.cel 0 cs]):=by unfold B3;rw[Cc h];simp[hl,alloc_eq h]
theorem Bm {v:Ab}{p:Ab->Prop}{k:Ab->Out}(hp:p v):bC (some v) p k=k v:=by simp only[bC,zXa,Vby hp]
theorem D8 {cs vs:List Ab}{sz:Nat}(h:cs.length=sz):Dx cs 0 sz vs=vs:=by simp[Dx,Xk (Xz h)]
theorem Ui {cs vs:List Ab}{sz g:Nat}{v:Ab}{G:Aa}(hv:v.acells=some vs)(h:cs.length=sz)(h2:vs.length=sz):Ai sz (.ptr 0 g 0) v (.cel g cs::G)=some (.cel g vs::G):=by rw[RI,hv];simp only[zXa,h2,h,Vr,Vo,and_self,if_true,D8 h]
@[simp] theorem Ht {x:Out}:chk True x=x:=Vby trivial x
@[simp] theorem Qu {v:Ab}{p:Ab->Prop}{k:Ab->Out}:bC (some v) p k=chk (p v) (k v):=(rfl)
section
variable {x:Option Ab}{p:Bool->Ab->Prop}{k:Ab->Out}{w:Bool}
@[simp] theorem PH:gkc (.bool true) true x p k=bC x (p true) k:=(rfl)
@[simp] theorem PK:gkc (.bool false) false x p k=bC x (p true) k:=(rfl)
@[simp] theorem PI:gkc (.bool true) false x p k=chk (p false Cf) (k Cf):=(rfl)
@[simp] theorem PJ:gkc (.bool false) true x p k=chk (p false Cf) (k Cf):=(rfl)
@[simp] theorem UQ:gkc (.tup []) w x p k=chk (p false Cf) (k Cf):=(rfl)

end
theorem Hy (p:Nat->Bool):(List.range 4).all p=(p 0&&p 1&&p 2&&p 3):=by show (p 0&&(p 1&&(p 2&&(p 3&&true))))=_;cases p 0 <;> cases p 1 <;> cases p 2 <;> cases p 3 <;> rfl
theorem R5 {n:Nat}(h:n<9223372036854775808):IntKind.i64.wrap (n:Int)=(n:Int):=An (by omega) (by omega)
theorem Av {n:Nat}(h:n<9223372036854775807):IntKind.i64.wrap ((n:Int)+1)=((n+1:Nat):Int):=by rw[An] <;> omega
theorem Ih {n:Nat}(h:0<n)(h2:n<9223372036854775807):IntKind.i64.wrap ((n:Int)-1)=((n-1:Nat):Int):=by rw[An] <;> omega
@[simp] theorem Fm {a b:Int}:(a == b)=decide (a=b):=by rw[V8];simp
@[simp] theorem KN {a b:Int}:(a != b) = !decide (a=b):=by rw[V8];simp
structure Nd where
 lv:Int
 k0:Int
 k1:Int
 k2:Int
 k3:Int
deriving DecidableEq
def Nd.kid (x:Nd)(k:Nat):Int:=match k with | 0=>x.k0 | 1=>x.k1 | 2=>x.k2 | _=>x.k3
def cNd (x:Nd):List Ab:=[.i6 x.lv,.i6 x.k0,.i6 x.k1,.i6 x.k2,.i6 x.k3]
instance:Sz cNd 5:=⟨λ_=>rfl⟩
section
variable {x y:Nd}{H:Aa}{k:Nat}
@[simp] theorem Co:(cNd x)[0]? = some (.i6 x.lv):=(rfl)
theorem Fl (h:k<4):(cNd x)[1+k]? = some (.i6 (x.kid k)):=by
 match k,h with
 |0,_=>rfl
 |1,_=>rfl
 |2,_=>rfl
 |3,_=>rfl
theorem FH {K:IntKind}{cs:List Ab}{o:Nat}(h:k<4):BK 4 1 (.cptr cs o) (.int K (k:Int))=some (.cptr cs (o+k*1)):=by unfold BK;simp only[];rw[if_pos ⟨by omega,by omega⟩];simp
theorem IU:Ad true 5 (.cptr (cNd x) 0) H=some (.agg (cNd x)):=(rfl)
theorem Fc:(cNd x).all Ab.isScal=true:=(rfl)
theorem Vj:(Ab.agg (cNd x)).acells=some (cNd x):=(rfl)
theorem OP:BM (cNd x) (cNd y)=some (decide (x=y)):=by obtain⟨a,b,c,d,e⟩:=x;obtain⟨a',b',c',d',e'⟩:=y;simp only[cNd,BM,GZ,if_true,zXa,Vv];rw[V8];simp
theorem Voa:Af (.flat 5) .eql (.agg (cNd x)) (.agg (cNd y))=some (.bool (decide (x=y))):=by
 show (eqA (.flat 5) (.agg (cNd x)) (.agg (cNd y))).map Ab.bool=_;have h:eqA (.flat 5) (.agg (cNd x)) (.agg (cNd y))=some (decide (x=y)):=by unfold eqA;simp only[];rw[if_pos (show (cNd x).length=5 from rfl),OP]
 rw[h];rfl
theorem VnI:Af (.flat 5) .neq (.agg (cNd x)) (.agg (cNd y))=some (.bool (!decide (x=y))):=by
 show (eqA (.flat 5) (.agg (cNd x)) (.agg (cNd y))).map (λb=>Ab.bool (!b))=_;have h:eqA (.flat 5) (.agg (cNd x)) (.agg (cNd y))=some (decide (x=y)):=by unfold eqA;simp only[];rw[if_pos (show (cNd x).length=5 from rfl),OP]
 rw[h];rfl

end
theorem OW (x:Nd):AN 5 [.agg (cNd x)]=some (.sl (enL cNd [x]) .ti):=by simp[AN,CP,Vj];simp[cNd,Kl,BG,enL]
def IJ:Ab->Bool
 |.bool _=>true
 |.int _ _=>true
 |.str _=>true
 |.sl _ .no=>true
 |.sl _ .ti=>true
 |_=>false
class Pl {α:Type} (f:α->List Ab):Prop where
 pl:∀a,(f a).all IJ=true
instance:Pl cB:=⟨λ_=>rfl⟩
instance:Pl cU:=⟨λ_=>rfl⟩
instance:Pl cI:=⟨λ_=>rfl⟩
instance:Pl cN:=⟨λ_=>rfl⟩
instance:Pl cY:=⟨λ_=>rfl⟩
instance:Pl cS:=⟨λ_=>rfl⟩
instance:Pl cNd:=⟨λ_=>rfl⟩
theorem Vft {c:Ab}(h:IJ c=true):c.isScal=true:=by cases c <;> first | rfl | (simp[IJ]at h)
theorem Vik {c:Ab}(h:IJ c=true):BG c=true:=by
 cases c <;> first | rfl | (simp[IJ]at h)
 rename_i es tk;cases tk <;> first | rfl | (simp[IJ]at h)
theorem Vcj {c:Ab}{H:Aa}{n d:Nat}(h:IJ c=true):frz H n (d+1) c=some c:=by
 cases c <;> first | (simp[frz];done) | (simp[IJ]at h)
 rename_i es tk;cases tk <;> first | (simp[frz];done) | (simp[IJ]at h)
theorem GR {H:Aa}{n d:Nat}:∀ {cs:List Ab},cs.all IJ=true->FP H n (d+2) cs=some cs
 |[],_=>by simp[FP]
 |c::cs,h=>by simp only[List.all_cons,Vx]at h;simp[FP,Vcj h.1,GR h.2]
section
variable {α:Type}{f:α->List Ab}{l:List α}{sz i n:Nat}{a:α}{H:Aa}{id:Nat}{K:IntKind}
def flat (f:α->List Ab)(l:List α):List Ab:=l.flatMap f
@[simp] theorem VoI:flat f []=[]:=(rfl)
theorem D6:flat f (a::l)=f a++flat f l:=by simp[flat]
theorem QF {m:List α}:flat f (l++m)=flat f l++flat f m:=by simp[flat]
theorem EV [hf:Sz f sz]:∀(l:List α),(flat f l).length=l.length*sz
 |[]=>by simp
 |a::l=>by have:=EV l;simp only[D6,Vs,hf.len,zXj,XA];omega
theorem Nb [hp:Pl f]:∀(l:List α),(flat f l).all IJ=true
 |[]=>rfl
 |a::l=>by simp only[D6,XY,Vx];exact⟨hp.pl a,Nb l⟩
theorem OB [hp:Pl f](l:List α):(flat f l).all BG=true:=by rw[V7];intro c hc;exact Vik (V7.1 (Nb (f:=f) l) c hc)
theorem Qb [hf:Sz f sz]:∀(l:List α) (i:Nat),(flat f l).drop (i*sz)=flat f (l.drop i)
 |[],i=>by simp
 |a::l,0=>by simp
 |a::l,i+1=>by
  have:=Qb l i;rw[Xs,<-this,D6,XA,XS,List.drop_append,hf.len,Xk (by rw[hf.len];omega),List.nil_append]
  congr 1;omega
theorem Na [hf:Sz f sz]:∀(l:List α) (i:Nat),(flat f l).take (i*sz)=flat f (l.take i)
 |[],i=>by simp
 |a::l,0=>by simp
 |a::l,i+1=>by
  have:=Na l i;rw[List.take_succ_cons,D6,D6,<-this,XA,XS,List.take_append,hf.len,Vy (by rw[hf.len];omega)]
  congr 2;omega
theorem Ru [hf:Sz f sz](h:i<l.length):((flat f l).drop (i*sz)).take sz=f l[i]:=by rw[Qb,VJ h,D6,W9 (by rw[hf.len];omega),Vy (by rw[hf.len];omega)]
theorem SL [hf:Sz f sz](h:i<l.length):Dx (flat f l) (i*sz) sz (f a)=flat f (l.set i a):=by
 have e:l.set i a=l.take i++a::l.drop (i+1):=by rw[Xx,if_pos h]
 have e2:i*sz+sz=(i+1)*sz:=by rw[XA]
 unfold Dx;rw[e,e2,Na,Qb,QF,D6];simp
theorem Kq [hf:Sz f sz](h:i<l.length):i*sz+sz<=(flat f l).length:=by rw[EV,<-XA];exact VV _ h
theorem CK {g off cap:Nat}{ex:Bool}(h:i<n):Aw sz (.ms id g off n cap sz ex) (.int K (i:Int))=some (.ptr id g (off+i*sz)):=by unfold Aw;simp only[];rw[if_pos ⟨trivial,by omega,by omega⟩];simp
theorem HR [hf:Sz f 1](hg:A6 H id 0=some (flat f l))(h:i<l.length):Ad false 1 (.ptr id 0 i) H=(f l[i])[0]? := by have h1:=Ru (f:=f) (sz:=1) h;have h2:=Kq (f:=f) (sz:=1) h;simp only[V4]at h1 h2;simp only[Ad,hg,zXa,Vq,if_false];rw[<-h1];simp
theorem Vcv [hf:Sz f sz](hg:A6 H id 0=some (flat f l))(h:i<l.length):Ad true sz (.ptr id 0 (i*sz)) H=some (.agg (f l[i])):=by simp only[Ad,hg,zXa,if_true,Kq h,Ru h]
theorem DR [hf:Sz f sz]{v:Ab}(hg:A6 H id 0=some (flat f l))(h:i<l.length)(hv:v.acells=some (f a)):Ai sz (.ptr id 0 (i*sz)) v H=some (F0 H id 0 (flat f (l.set i a))):=by simp only[Ai,hg,zXa,hv,hf.len,Kq h,and_self,if_true,SL h]
theorem Uy:∀(n:Nat),L7 n (f a)=flat f (List.replicate n a)
 |0=>rfl
 |n+1=>by have:=Uy n;simp only[L7,zXm,List.flatten_cons,D6]at this ⊢;rw[this]
theorem FZ [hf:Sz f sz][hp:Pl f]{bytes:Nat}(hb:n*bytes<=140737488355328)(hn:n<=140737488355328):F4 sz bytes (some (f a)) (.i6 (n:Int)) (.i6 (n:Int)) H=some (.ms H.length 0 0 n n sz true,H++[.cel 0 (flat f (List.replicate n a))]):=by
 have h1:((n:Int)*(bytes:Int))<=140737488355328:=by
   have:((n*bytes:Nat):Int)<=140737488355328:=by omega
   simpa using this
 have h2:(f a).all Ab.isScal=true:=by rw[V7];intro c hc;exact Vft (V7.1 (hp.pl a) c hc)
 unfold F4;simp only[zXa];rw[if_pos ⟨h2,hf.len a,by omega,by omega,h1,by omega⟩];simp only[zXl,Uy]
theorem Mk [hf:Sz f sz]:∀(l:List α),Gz sz l.length (flat f l)=enL f l
 |[]=>rfl
 |a::l=>by have:=Mk l;simp only[zXj,Gz,D6,enL,WT,W9 (Xz (hf.len a).symm),Vy (Xz (hf.len a)),List.drop_left' (hf.len a)];rw[this];rfl
theorem Vbk [hf:Sz f sz][hp:Pl f]{b d cap:Nat}{ex:Bool}(hg:A6 H id 0=some (flat f l))(hi:b<=id):GV H b (d+3) (.ms id 0 0 l.length cap sz ex)=some (.sl (enL f l) .no):=by
 have h1:¬id<b:=by omega
 unfold GV;simp only[frz,h1,if_false,hg,zXa,WC,Vr,EV,Vo,if_true,Vy (Xz (EV (f:=f) l)),GR (Nb (f:=f) l),OB (f:=f) l,Mk,zXb,forget,Em,fgt]
@[simp] theorem Ut {G:Aa}{g:Nat}{cs:List Ab}:F0 (H++G) H.length g cs=H++F0 G 0 g cs:=RO (k:=0)
@[simp] theorem Vno {G:Aa}{g k:Nat}{cs:List Ab}:F0 (H++G) (H.length+k) g cs=H++F0 G k g cs:=RO
@[simp] theorem Ur {G:Aa}{g g':Nat}{c cs:List Ab}:F0 (.cel g' c::G) 0 g cs=.cel g cs::G:=(rfl)
@[simp] theorem Vo8 {G:Aa}{g k:Nat}{b:Blk}{cs:List Ab}:F0 (b::G) (k+1) g cs=b::F0 G k g cs:=Us

end
theorem As {H:Aa}{p:Nat}{cs:List Ab}(hg:H[p]? = some (.cel 0 cs)):A6 H p 0=some cs:=by simp[A6,hg]
theorem Bz {a:Bool}{sz p g o:Nat}{H G:Aa}{v:Ab}(h:Ad a sz (.ptr p g o) H=some v):Ad a sz (.ptr p g o) (H++G)=some v:=by
 unfold Ad at h ⊢;simp only at h ⊢;cases hg:A6 H p g with
 |none=>rw[hg]at h;cases h
 |some cs=>
  have:A6 (H++G) p g=some cs:=by
   have hlt:p<H.length:=by
    by_cases hl:p<H.length
    ·exact hl
    ·unfold A6 at hg;rw[zYb (by omega)]at hg;cases hg
   rw[VlK hlt];exact hg
  rw[this];rw[hg]at h;exact h
theorem B6 {H:Aa}{p:Nat}{cs cs':List Ab}(hg:H[p]? = some (.cel 0 cs)):F0 H p 0 cs'=H.set p (.cel 0 cs'):=by simp[F0,hg]
theorem Ap {cs:List Ab}{B:Aa}:(B++[Blk.cel 0 cs])[B.length]? = some (.cel 0 cs):=by simp
theorem Bt {B:Aa}{b b':Blk}:(B++[b]).set B.length b'=B++[b']:=by simp
theorem QM:∀l:zAa,CN (flat cY l)=some l
 |[]=>rfl
 |b::l=>by have:=QM l;rw[D6];show CN (.int .u8 (b.toNat:Int)::flat cY l)=_;simp only[CN,this,zXb];simp
theorem Vhv {l:zAa}{H:Aa}{id:Nat}(hg:A6 H id 0=some (flat cY l)):CF (.ms id 0 0 l.length l.length 1 true) H=some (.str l):=by have hl:=EV (f:=cY) l;rw[V4]at hl;simp only[CF,if_true,hg,zXa,Vr,hl,Vo,WC,Vy (Xz hl),QM,zXb]
end Go.Gm
