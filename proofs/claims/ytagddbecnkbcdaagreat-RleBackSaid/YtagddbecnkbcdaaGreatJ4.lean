/- Texts of this proof, joined. -/
import Derived.Test.YtagddbecnkbcdaaGreatJ2
import Derived.Test.YtagddbecnkbcdaaGreatJ3
import Derived.Shelf.Small.Strs
import Derived.Shelf.Small.Wraps
import Derived.Shelf.Strings.Search1
import Derived.Shelf.GgClosure.StringsIndexFunc
import Derived.Ground.GgwProg
import Derived.Shelf.GgClosure.StringsIndexFuncTop
import Derived.Shelf.Strings.Prefix
import Derived.Shelf.Strings.FuncGrows
import Derived.Test.YtagddbecnkbcdaaGreatProg
import Derived.RangeFuncBox
import Derived.RangeFuncLeaves
import Derived.Shelf.Abstract
import Derived.WalkKit
import Derived.OwnWalkIn
import Derived.TacticsInMore
import Derived.LoopNIn
import Derived.LoopIn
import Derived.KernelRfl
import Derived.Calls
set_option linter.all false
/-
 DERIVED: THE SHELF's CONTRACTS AT THIS DUMP,IN PLAIN WORDS (tools/lay-plain.mjs out of 'TryzShelf.lean',which tools/lay-shelf.mjs wrote): THE SAME DECLARATIONS UNDER THE SAME NAMES: 'import','namespace','open','def','theorem' AND NOTHING ELSE: no command of the shelf's: FOR A HAND-IN. Each laying: the table of numbers ('.._ren') and one theorem,a field a fact of the dump's own or the kernel's comparison;each contract: ONE APPLICATION.
-/
namespace Go.Proofs
open Go.Shelf
def Tryz.lays137_ren:Go.Shelf.Ren:=⟨fun | 137=>177 | 217=>220 | 266=>231 | n=>n,fun | 9=>9 | 5=>5 | 3=>3 | n=>n,fun | n=>n⟩
theorem Tryz.lays137:Go.Proofs.Lays.n137 Tryz.prog Tryz.lays137_ren:={
 mixed:=by kernel_rfl
 f137:=Tryz.func177.trans (congrArg some (by kernel_rfl))
 f217:=Tryz.func220.trans (congrArg some (by kernel_rfl))
 f266:=Tryz.func231.trans (congrArg some (by kernel_rfl))
 t3:=Tryz.underlying3
 a3:=Tryz.isAgg3
 z3:=Tryz.sizeOf3
 v3:=Tryz.zeroValue3
 t5:=Tryz.underlying5
 a5:=Tryz.isAgg5
 z5:=Tryz.sizeOf5
 v5:=Tryz.zeroValue5
 t9:=Tryz.underlying9
 a9:=Tryz.isAgg9
 z9:=Tryz.sizeOf9
 v9:=Tryz.zeroValue9}
open Go.RowKit in
theorem Tryz.strings_IndexByte (s:ByteArray)(c:Int)(w:World):Calls Tryz.prog 177 #[.string s,.int .u8 c] w λe w'=>e=.returned (.i6 (Lib.indexByte s.data.toList c.toNat.toUInt8))/\w'=w:=Any.strings_IndexByte Tryz.lays137 s c w
def Tryz.laysGw15_ren:Go.Shelf.Ren:=⟨fun | 15=>234 | 20=>239 | n=>n,fun | 9=>9 | 23=>256 | 3=>3 | 4=>4 | 0=>0 | 21=>21 | n=>n,fun | n=>n⟩
theorem Tryz.laysGw15:Go.Proofs.LaysGw.n15 Tryz.prog Tryz.laysGw15_ren:={
 mixed:=by kernel_rfl
 f15:=Tryz.func234.trans (congrArg some (by kernel_rfl))
 f20:=Tryz.func239.trans (congrArg some (by kernel_rfl))
 t0:=Tryz.underlying0
 a0:=Tryz.isAgg0
 z0:=Tryz.sizeOf0
 v0:=Tryz.zeroValue0
 i0:=by kernel_rfl
 t3:=Tryz.underlying3
 a3:=Tryz.isAgg3
 z3:=Tryz.sizeOf3
 v3:=Tryz.zeroValue3
 i3:=by kernel_rfl
 t4:=Tryz.underlying4
 a4:=Tryz.isAgg4
 z4:=Tryz.sizeOf4
 v4:=Tryz.zeroValue4
 i4:=by kernel_rfl
 t9:=Tryz.underlying9
 a9:=Tryz.isAgg9
 z9:=Tryz.sizeOf9
 v9:=Tryz.zeroValue9
 i9:=by kernel_rfl
 t21:=Tryz.underlying21
 a21:=Tryz.isAgg21
 z21:=Tryz.sizeOf21
 v21:=Tryz.zeroValue21
 i21:=by kernel_rfl
 t23:=Tryz.underlying256
 a23:=Tryz.isAgg256
 z23:=Tryz.sizeOf256
 v23:=Tryz.zeroValue256
 i23:=by kernel_rfl}
open Go.RowKit Go.Lib in
theorem Tryz.strings_IndexFunc_grows (g:Nat)(lb:Array Value)(eg:∀args w,(callFunc g args).run Tryz.prog w=.ok (.enter g args) w)(p:Nat->Bool)(s:ByteArray)(w:World)(hp:PredGrows Tryz.prog g lb p w):Calls Tryz.prog 234 #[.string s,.func (.func g) #[] lb] w λe w'=>e=.returned (.i6 (Lib.idxFunc p true s))/\Below w.heap.size w w':=Any.strings_IndexFunc_grows Tryz.laysGw15 g lb eg p s w hp
end Go.Proofs
namespace Go.Gm
@[simp 2000] theorem BA {α β:Type}(a:α)(f:α->Option β):(some a).bind f=f a:=(rfl)
theorem Eh {G:LK->LK}(N:Nat)(p:Nat->Bool)(st:Nat->List Ab)(H:Aa)(yes no:Out)(hN:N<1152921504606846976)
  (turn:∀(rec:LK)(i:Nat),i<N->G rec (st i) H=if p i then rec (st (i+1)) H else no)(last:∀rec:LK,G rec (st N) H=yes):Al G AU (st 0) H=if (List.range N).all p then yes else no:=by
 refine Bv (σ:=Nat) (λi=>i<=N/\∀j,j<i->p j=true) st (λ_=>H) (λi=>N-i) (λ_=>if (List.range N).all p then yes else no) (λi rec hi hrec=>?_) 0 ⟨WZ _,λj hj=>by omega⟩ (by omega);by_cases h:i<N
 ·rw[turn rec i h];cases hp:p i with
  |true=>exact hrec (i+1) ⟨h,λj hj=>by
    by_cases e:j=i;rw[e];exact hp
    ·exact hi.2 j (by omega)⟩ (by omega)
  |false=>have:(List.range N).all p=false:=(by rw[XR];exact⟨i,by simpa using h,by simp[hp]⟩);simp[this]
 ·have e:i=N:=by omega
  subst e;have:(List.range i).all p=true:=by rw[WO];intro j hj;exact hi.2 j (by simpa using hj)
  rw[last,this];rfl
theorem OG {G:LK->LK}(N:Nat)(p:Nat->Bool)(st:Nat->List Ab)(H:Aa)(none':Out)(found:Nat->Out)(hN:N<1152921504606846976)
  (turn:∀(rec:LK)(i:Nat),i<N->G rec (st i) H=if p i then found i else rec (st (i+1)) H)(last:∀rec:LK,G rec (st N) H=none'):Al G AU (st 0) H=match (List.range N).find? p with | some i=>found i | none=>none':=by
 refine Bv (σ:=Nat) (λi=>i<=N/\∀j,j<i->p j=false) st (λ_=>H) (λi=>N-i) (λ_=>match (List.range N).find? p with | some i=>found i | none=>none') (λi rec hi hrec=>?_) 0 ⟨WZ _,λj hj=>by omega⟩ (by omega);by_cases h:i<N
 ·rw[turn rec i h];cases hp:p i with
  |false=>exact hrec (i+1) ⟨h,λj hj=>by
    by_cases e:j=i;rw[e];exact hp
    ·exact hi.2 j (by omega)⟩ (by omega)
  |true=>have:(List.range N).find? p=some i:=(by rw[Zc];exact⟨hp,by simpa using h,λj hj=>by simp[hi.2 j hj]⟩);rw[this];rfl
 ·have e:i=N:=by omega
  subst e;have:(List.range i).find? p=none:=by rw[Y9];intro j hj;simp[hi.2 j (by simpa using hj)]
  rw[last,this]
theorem Ce {sz:Nat}{cs:List Ab}{H:Aa}(h:cs.all Ab.isScal=true)(hl:cs.length=sz):BC true sz (.agg cs) H=some (.ptr H.length 0 0,H++[.c0 cs]):=by unfold BC;rw[Cb h];simp[hl,alloc_eq h]
theorem B3 {v:Ab}{p:Ab->Prop}{k:Ab->Out}(hp:p v):bC (some v) p k=k v:=by simp only[bC,zXa,Vbz hp]
theorem D6 {cs vs:List Ab}{sz:Nat}(h:cs.length=sz):D7 cs 0 sz vs=vs:=by simp[D7,Y1 (YG h)]
theorem Qn {cs vs:List Ab}{sz g:Nat}{v:Ab}{G:Aa}(hv:v.acells=some vs)(h:cs.length=sz)(h2:vs.length=sz):Ai sz (.ptr 0 g 0) v (.cel g cs::G)=some (.cel g vs::G):=by rw[ST,hv];simp only[zXa,h2,h,W9,W7,and_self,if_true,D6 h]
@[simp] theorem Il {x:Out}:chk True x=x:=Vbz trivial x
@[simp] theorem Ry {v:Ab}{p:Ab->Prop}{k:Ab->Out}:bC (some v) p k=chk (p v) (k v):=(rfl)
section
variable {x:Option Ab}{p:Bool->Ab->Prop}{k:Ab->Out}{w:Bool}
@[simp] theorem QJ:gkc (.bool true) true x p k=bC x (p true) k:=(rfl)
@[simp] theorem QM:gkc (.bool false) false x p k=bC x (p true) k:=(rfl)
@[simp] theorem QK:gkc (.bool true) false x p k=chk (p false Cw) (k Cw):=(rfl)
@[simp] theorem QL:gkc (.bool false) true x p k=chk (p false Cw) (k Cw):=(rfl)
@[simp] theorem Wc:gkc (.tup []) w x p k=chk (p false Cw) (k Cw):=(rfl)

end
theorem Is (p:Nat->Bool):(List.range 4).all p=(p 0&&p 1&&p 2&&p 3):=by show(p 0&&(p 1&&(p 2&&(p 3&&true))))=_;cases p 0<;>cases p 1<;>cases p 2<;>cases p 3<;>rfl
theorem OT {n:Nat}(h:n<9223372036854775808):IntKind.i64.wrap (n:Int)=(n:Int):=Am (by omega) (by omega)
theorem Au {n:Nat}(h:n<9223372036854775807):IntKind.i64.wrap ((n:Int)+1)=((n+1:Nat):Int):=by rw[Am]<;>omega
theorem HA {n:Nat}(h:0<n)(h2:n<9223372036854775807):IntKind.i64.wrap ((n:Int)-1)=((n-1:Nat):Int):=by rw[Am]<;>omega
@[simp] theorem Fa {a b:Int}:(a==b)=decide (a=b):=by rw[WP];simp
@[simp] theorem LG {a b:Int}:(a != b) = !decide (a=b):=by rw[WP];simp
structure Nd where
 lv:Int
 k0:Int
 k1:Int
 k2:Int
 k3:Int
deriving DecidableEq
def Nd.kid (x:Nd)(k:Nat):Int:=match k with | 0=>x.k0 | 1=>x.k1 | 2=>x.k2 | _=>x.k3
def cNd (x:Nd):List Ab:=[.i6 x.lv,.i6 x.k0,.i6 x.k1,.i6 x.k2,.i6 x.k3]
instance:Sz cNd 5:=⟨λ_=>rfl⟩
section
variable {x y:Nd}{H:Aa}{k:Nat}
@[simp] theorem Cy:(cNd x)[0]? = some (.i6 x.lv):=(rfl)
theorem EG (h:k<4):(cNd x)[1+k]? = some (.i6 (x.kid k)):=by
 match k,h with
 |0,_=>rfl
 |1,_=>rfl
 |2,_=>rfl
 |3,_=>rfl
theorem EZ {K:IntKind}{cs:List Ab}{o:Nat}(h:k<4):BH 4 1 (.cptr cs o) (.int K (k:Int))=some (.cptr cs (o+k*1)):=by unfold BH;simp only[];rw[if_pos ⟨by omega,by omega⟩];simp
theorem JH:Ad true 5 (.cptr (cNd x) 0) H=some (.agg (cNd x)):=(rfl)
theorem F2:(cNd x).all Ab.isScal=true:=(rfl)
theorem Wy:(Ab.agg (cNd x)).acells=some (cNd x):=(rfl)
theorem PU:BU (cNd x) (cNd y)=some (decide (x=y)):=by obtain⟨a,b,c,d,e⟩:=x;obtain⟨a',b',c',d',e'⟩:=y;simp only[cNd,BU,HQ,if_true,zXa,WE];rw[WP];simp
theorem Vod:Af (.flat 5) .eql (.agg (cNd x)) (.agg (cNd y))=some (.bool (decide (x=y))):=by
 show(eqA (.flat 5) (.agg (cNd x)) (.agg (cNd y))).map Ab.bool=_;have h:eqA (.flat 5) (.agg (cNd x)) (.agg (cNd y))=some (decide (x=y)):=by unfold eqA;simp only[];rw[if_pos (show(cNd x).length=5 from rfl),PU]
 rw[h];rfl
theorem VnL:Af (.flat 5) .neq (.agg (cNd x)) (.agg (cNd y))=some (.bool (!decide (x=y))):=by
 show(eqA (.flat 5) (.agg (cNd x)) (.agg (cNd y))).map (λb=>Ab.bool (!b))=_;have h:eqA (.flat 5) (.agg (cNd x)) (.agg (cNd y))=some (decide (x=y)):=by unfold eqA;simp only[];rw[if_pos (show(cNd x).length=5 from rfl),PU]
 rw[h];rfl

end
theorem KC (x:Nd):AN 5 [.agg (cNd x)]=some (.sl (enL cNd [x]) .ti):=by simp[AN,Di,Wy];simp[cNd,Ld,BN,enL]
def J4:Ab->Bool
 |.bool _=>true
 |.int _ _=>true
 |.str _=>true
 |.sl _ .no=>true
 |.sl _ .ti=>true
 |_=>false
class Pl {α:Type} (f:α->List Ab):Prop where
 pl:∀a,(f a).all J4=true
instance:Pl cB:=⟨λ_=>rfl⟩
instance:Pl cU:=⟨λ_=>rfl⟩
instance:Pl cI:=⟨λ_=>rfl⟩
instance:Pl cN:=⟨λ_=>rfl⟩
instance:Pl cY:=⟨λ_=>rfl⟩
instance:Pl cS:=⟨λ_=>rfl⟩
instance:Pl cNd:=⟨λ_=>rfl⟩
theorem Vfx {c:Ab}(h:J4 c=true):c.isScal=true:=by cases c<;>first | rfl | (simp[J4]at h)
theorem Vis {c:Ab}(h:J4 c=true):BN c=true:=by
 cases c<;>first | rfl | (simp[J4]at h)
 rename_i es tk;cases tk<;>first | rfl | (simp[J4]at h)
theorem Vcj {c:Ab}{H:Aa}{n d:Nat}(h:J4 c=true):frz H n (d+1) c=some c:=by
 cases c<;>first | (simp[frz];done) | (simp[J4]at h)
 rename_i es tk;cases tk<;>first | (simp[frz];done) | (simp[J4]at h)
theorem HG {H:Aa}{n d:Nat}:∀ {cs:List Ab},cs.all J4=true->G3 H n (d+2) cs=some cs
 |[],_=>by simp[G3]
 |c::cs,h=>by simp only[List.all_cons,WG]at h;simp[G3,Vcj h.1,HG h.2]
section
variable {α:Type}{f:α->List Ab}{l:List α}{sz i n:Nat}{a:α}{H:Aa}{id:Nat}{K:IntKind}
def flat (f:α->List Ab)(l:List α):List Ab:=l.flatMap f
@[simp] theorem VoL:flat f []=[]:=(rfl)
theorem DK:flat f (a::l)=f a++flat f l:=by simp[flat]
theorem RM {m:List α}:flat f (l++m)=flat f l++flat f m:=by simp[flat]
theorem Fv [hf:Sz f sz]:∀(l:List α),(flat f l).length=l.length*sz
 |[]=>by simp
 |a::l=>by have:=Fv l;simp only[DK,WC,hf.len,zXj,YP];omega
theorem NR [hp:Pl f]:∀(l:List α),(flat f l).all J4=true
 |[]=>rfl
 |a::l=>by simp only[DK,Zl,WG];exact⟨hp.pl a,NR l⟩
theorem PC [hp:Pl f](l:List α):(flat f l).all BN=true:=by rw[WO];intro c hc;exact Vis (WO.1 (NR (f:=f) l) c hc)
theorem Rd [hf:Sz f sz]:∀(l:List α)(i:Nat),(flat f l).drop (i*sz)=flat f (l.drop i)
 |[],i=>by simp
 |a::l,0=>by simp
 |a::l,i+1=>by
  have:=Rd l i;rw[Y7,<-this,DK,YP,Zf,List.drop_append,hf.len,Y1 (by rw[hf.len];omega),List.nil_append]
  congr 1;omega
theorem NQ [hf:Sz f sz]:∀(l:List α)(i:Nat),(flat f l).take (i*sz)=flat f (l.take i)
 |[],i=>by simp
 |a::l,0=>by simp
 |a::l,i+1=>by
  have:=NQ l i;rw[List.take_succ_cons,DK,DK,<-this,YP,Zf,List.take_append,hf.len,WH (by rw[hf.len];omega)]
  congr 2;omega
theorem S7 [hf:Sz f sz](h:i<l.length):((flat f l).drop (i*sz)).take sz=f l[i]:=by rw[Rd,Xb h,DK,XI (by rw[hf.len];omega),WH (by rw[hf.len];omega)]
theorem TV [hf:Sz f sz](h:i<l.length):D7 (flat f l) (i*sz) sz (f a)=flat f (l.set i a):=by
 have e:l.set i a=l.take i++a::l.drop (i+1):=by rw[YC,if_pos h]
 have e2:i*sz+sz=(i+1)*sz:=by rw[YP]
 unfold D7;rw[e,e2,NQ,Rd,RM,DK];simp
theorem Lg [hf:Sz f sz](h:i<l.length):i*sz+sz<=(flat f l).length:=by rw[Fv,<-YP];exact Xg _ h
theorem Db {g off cap:Nat}{ex:Bool}(h:i<n):Av sz (.ms id g off n cap sz ex) (.int K (i:Int))=some (.ptr id g (off+i*sz)):=by unfold Av;simp only[];rw[if_pos ⟨trivial,by omega,by omega⟩];simp
theorem ID [hf:Sz f 1](hg:AC H id 0=some (flat f l))(h:i<l.length):Ad false 1 (.ptr id 0 i) H=(f l[i])[0]? := by have h1:=S7 (f:=f) (sz:=1) h;have h2:=Lg (f:=f) (sz:=1) h;simp only[WK]at h1 h2;simp only[Ad,hg,zXa,WB,if_false];rw[<-h1];simp
theorem Vcw [hf:Sz f sz](hg:AC H id 0=some (flat f l))(h:i<l.length):Ad true sz (.ptr id 0 (i*sz)) H=some (.agg (f l[i])):=by simp only[Ad,hg,zXa,if_true,Lg h,S7 h]
theorem Ee [hf:Sz f sz]{v:Ab}(hg:AC H id 0=some (flat f l))(h:i<l.length)(hv:v.acells=some (f a)):Ai sz (.ptr id 0 (i*sz)) v H=some (Ga H id 0 (flat f (l.set i a))):=by simp only[Ai,hg,zXa,hv,hf.len,Lg h,and_self,if_true,TV h]
theorem V6:∀(n:Nat),M7 n (f a)=flat f (List.replicate n a)
 |0=>rfl
 |n+1=>by have:=V6 n;simp only[M7,zXm,List.flatten_cons,DK]at this⊢;rw[this]
theorem FB [hf:Sz f sz][hp:Pl f]{bytes:Nat}(hb:n*bytes<=140737488355328)(hn:n<=140737488355328):FM sz bytes (some (f a)) (.i6 (n:Int)) (.i6 (n:Int)) H=some (.ms H.length 0 0 n n sz true,H++[.c0 (flat f (List.replicate n a))]):=by
 have h1:((n:Int)*(bytes:Int))<=140737488355328:=by have:((n*bytes:Nat):Int)<=140737488355328:=(by omega);simpa using this
 have h2:(f a).all Ab.isScal=true:=by rw[WO];intro c hc;exact Vfx (WO.1 (hp.pl a) c hc)
 unfold FM;simp only[zXa];rw[if_pos ⟨h2,hf.len a,by omega,by omega,h1,by omega⟩];simp only[zXl,V6]
theorem MZ [hf:Sz f sz]:∀(l:List α),GY sz l.length (flat f l)=enL f l
 |[]=>rfl
 |a::l=>by have:=MZ l;simp only[zXj,GY,DK,enL,Yk,XI (YG (hf.len a).symm),WH (YG (hf.len a)),List.drop_left' (hf.len a)];rw[this];rfl
theorem Vbl [hf:Sz f sz][hp:Pl f]{b d cap:Nat}{ex:Bool}(hg:AC H id 0=some (flat f l))(hi:b<=id):HI H b (d+3) (.ms id 0 0 l.length cap sz ex)=some (.sl (enL f l) .no):=by
 have h1:¬id<b:=by omega
 unfold HI;simp only[frz,h1,if_false,hg,zXa,XP,W9,Fv,W7,if_true,WH (YG (Fv (f:=f) l)),HG (NR (f:=f) l),PC (f:=f) l,MZ,zXb,forget,ED,fgt]
@[simp] theorem Vy {G:Aa}{g:Nat}{cs:List Ab}:Ga (H++G) H.length g cs=H++Ga G 0 g cs:=SZ (k:=0)
@[simp] theorem Vnq {G:Aa}{g k:Nat}{cs:List Ab}:Ga (H++G) (H.length+k) g cs=H++Ga G k g cs:=SZ
@[simp] theorem Vw {G:Aa}{g g':Nat}{c cs:List Ab}:Ga (.cel g' c::G) 0 g cs=.cel g cs::G:=(rfl)
@[simp] theorem VoB {G:Aa}{g k:Nat}{b:Blk}{cs:List Ab}:Ga (b::G) (k+1) g cs=b::Ga G k g cs:=Vx

end
theorem Ax {H:Aa}{p:Nat}{cs:List Ab}(hg:H[p]? = some (.c0 cs)):AC H p 0=some cs:=by simp[AC,hg]
theorem B8 {a:Bool}{sz p g o:Nat}{H G:Aa}{v:Ab}(h:Ad a sz (.ptr p g o) H=some v):Ad a sz (.ptr p g o) (H++G)=some v:=by
 unfold Ad at h⊢;simp only at h⊢;cases hg:AC H p g with
 |none=>rw[hg]at h;cases h
 |some cs=>
  have:AC (H++G) p g=some cs:=by have hlt:p<H.length:=(by by_cases hl:p<H.length;exact hl;unfold AC at hg;rw[zYb (by omega)]at hg;cases hg);rw[VlP hlt];exact hg
  rw[this];rw[hg]at h;exact h
theorem Bw {H:Aa}{p:Nat}{cs cs':List Ab}(hg:H[p]? = some (.c0 cs)):Ga H p 0 cs'=H.set p (.c0 cs'):=by simp[Ga,hg]
theorem An {cs:List Ab}{B:Aa}:(B++[Blk.c0 cs])[B.length]? = some (.c0 cs):=by simp
theorem Be {B:Aa}{b b':Blk}:(B++[b]).set B.length b'=B++[b']:=by simp
theorem RR:∀l:zAa,Dg (flat cY l)=some l
 |[]=>rfl
 |b::l=>by have:=RR l;rw[DK];show Dg (.int .u8 (b.toNat:Int)::flat cY l)=_;simp only[Dg,this,zXb];simp
theorem Vh0 {l:zAa}{H:Aa}{id:Nat}(hg:AC H id 0=some (flat cY l)):CT (.ms id 0 0 l.length l.length 1 true) H=some (.str l):=by have hl:=Fv (f:=cY) l;rw[WK]at hl;simp only[CT,if_true,hg,zXa,W9,hl,W7,XP,WH (YG hl),RR,zXb]
theorem GMb:(((((((∀ {α β:Type} (a:α) (f:α->Option β),Option.bind (Option.some a) f=f a) /\
 (∀(v:Ab)(l:List Ab),ag (v::l) 0=v)) /\
 ((∀(a v:Ab)(l:List Ab),ag (a::v::l) 1=v) /\
 (∀(a b v:Ab)(l:List Ab),ag (a::b::v::l) 2=v))) /\
 (((∀(a b c v:Ab)(l:List Ab),ag (a::b::c::v::l) 3=v) /\
 (∀(a b c d v:Ab)(l:List Ab),ag (a::b::c::d::v::l) 4=v)) /\
 ((∀(a b c d e v:Ab)(l:List Ab),ag (a::b::c::d::e::v::l) 5=v) /\
 (∀ {ek:EqK} {k:IntKind} {a b:Int},Af ek BinOp.lss (Ab.int k a) (Ab.int k b)=Option.some (Ab.bool (Decidable.decide (a<b))))))) /\
 ((((∀ {ek:EqK} {k:IntKind} {a b:Int},Af ek BinOp.gtr (Ab.int k a) (Ab.int k b)=Option.some (Ab.bool (Decidable.decide (a>b)))) /\
 (∀ {ek:EqK} {k:IntKind} {a b:Int},Af ek BinOp.leq (Ab.int k a) (Ab.int k b)=Option.some (Ab.bool (Decidable.decide (a<=b))))) /\
 ((∀ {ek:EqK} {k:IntKind} {a b:Int},Af ek BinOp.geq (Ab.int k a) (Ab.int k b)=Option.some (Ab.bool (Decidable.decide (a>=b)))) /\
 (∀ {ek:EqK} {k:IntKind} {a b:Int},Af ek BinOp.eql (Ab.int k a) (Ab.int k b)=Option.some (Ab.bool (a==b))))) /\
 (((∀ {ek:EqK} {k:IntKind} {a b:Int},Af ek BinOp.neq (Ab.int k a) (Ab.int k b)=Option.some (Ab.bool (a != b))) /\
 (∀ {ek:EqK} {k:IntKind} {a b:Int},Af ek BinOp.add (Ab.int k a) (Ab.int k b)=Option.some (Ab.int k (IntKind.wrap k (a+b))))) /\
 ((∀ {ek:EqK} {k:IntKind} {a b:Int},Af ek BinOp.sub (Ab.int k a) (Ab.int k b)=Option.some (Ab.int k (IntKind.wrap k (a-b)))) /\
 ((∀ {ek:EqK} {k:IntKind} {a b:Int},Af ek BinOp.mul (Ab.int k a) (Ab.int k b)=Option.some (Ab.int k (IntKind.wrap k (a*b)))) /\
 (∀(a b:Out),Ak (Ab.bool Bool.true) a b=a)))))) /\
 (((((∀(a b:Out),Ak (Ab.bool Bool.false) a b=b) /\
 (∀(a b:Ab),AD (Ab.bool Bool.true) a b=Option.some a)) /\
 ((∀(a b:Ab),AD (Ab.bool Bool.false) a b=Option.some b) /\
 (∀ {kv:Ab->Out} (x:Option Ab),gk (Ab.bool Bool.true) Bool.true x kv=Option.bind x kv))) /\
 (((∀ {kv:Ab->Out} (x:Option Ab),gk (Ab.bool Bool.false) Bool.false x kv=Option.bind x kv) /\
 (∀ {kv:Ab->Out} (x:Option Ab),gk (Ab.bool Bool.true) Bool.false x kv=kv Cw)) /\
 ((∀ {kv:Ab->Out} (x:Option Ab),gk (Ab.bool Bool.false) Bool.true x kv=kv Cw) /\
 ((∀ {kv:Ab->Out} (w:Bool) (x:Option Ab),gk (Ab.tup []) w x kv=kv Cw) /\
 (∀ {x:Option Ab} {p:Bool->Ab->Prop} {k:Ab->Out},gkc (Ab.bool Bool.true) Bool.true x p k=bC x (p Bool.true) k))))) /\
 ((((∀ {x:Option Ab} {p:Bool->Ab->Prop} {k:Ab->Out},gkc (Ab.bool Bool.false) Bool.false x p k=bC x (p Bool.true) k) /\
 (∀ {x:Option Ab} {p:Bool->Ab->Prop} {k:Ab->Out},gkc (Ab.bool Bool.true) Bool.false x p k=chk (p Bool.false Cw) (k Cw))) /\
 ((∀ {x:Option Ab} {p:Bool->Ab->Prop} {k:Ab->Out},gkc (Ab.bool Bool.false) Bool.true x p k=chk (p Bool.false Cw) (k Cw)) /\
 (∀ {x:Option Ab} {p:Bool->Ab->Prop} {k:Ab->Out} {w:Bool},gkc (Ab.tup []) w x p k=chk (p Bool.false Cw) (k Cw)))) /\
 (((∀ {v:Ab} {p:Ab->Prop} {k:Ab->Out},bC (Option.some v) p k=chk (p v) (k v)) /\
 (∀ {x:Out},chk True x=x)) /\
 ((∀ {H0 H:Aa} {k:Ab->Aa->Out} (x:Out),gbK H0 (Ab.bool Bool.true) Bool.true H x k=bK H0 x k) /\
 ((∀ {H0 H:Aa} {k:Ab->Aa->Out} (x:Out),gbK H0 (Ab.bool Bool.false) Bool.false H x k=bK H0 x k) /\
 (∀ {H0 H:Aa} {k:Ab->Aa->Out} (x:Out),gbK H0 (Ab.bool Bool.true) Bool.false H x k=k Cw H))))))) /\
 ((((((∀ {H0 H:Aa} {k:Ab->Aa->Out} (x:Out),gbK H0 (Ab.bool Bool.false) Bool.true H x k=k Cw H) /\
 (∀ {H0 H:Aa} {k:Ab->Aa->Out} (w:Bool) (x:Out),gbK H0 (Ab.tup []) w H x k=k Cw H)) /\
 ((∀ {H0 H:Aa} {k:Ab->Aa->Out} (x:Out),gbP H0 (Ab.bool Bool.true) Bool.true H x k=bP H0 x k) /\
 (∀ {H0 H:Aa} {k:Ab->Aa->Out} (x:Out),gbP H0 (Ab.bool Bool.false) Bool.false H x k=bP H0 x k))) /\
 (((∀ {H0 H:Aa} {k:Ab->Aa->Out} (x:Out),gbP H0 (Ab.bool Bool.true) Bool.false H x k=k Cw H) /\
 (∀ {H0 H:Aa} {k:Ab->Aa->Out} (x:Out),gbP H0 (Ab.bool Bool.false) Bool.true H x k=k Cw H)) /\
 ((∀ {H0 H:Aa} {k:Ab->Aa->Out} (w:Bool) (x:Out),gbP H0 (Ab.tup []) w H x k=k Cw H) /\
 (∀ {H:Aa} {k:Ab->Aa->Out} (x:Out),gbN (Ab.bool Bool.true) Bool.true H x k=Bb x k)))) /\
 ((((∀ {H:Aa} {k:Ab->Aa->Out} (x:Out),gbN (Ab.bool Bool.false) Bool.false H x k=Bb x k) /\
 (∀ {H:Aa} {k:Ab->Aa->Out} (x:Out),gbN (Ab.bool Bool.true) Bool.false H x k=k Cw H)) /\
 ((∀ {H:Aa} {k:Ab->Aa->Out} (x:Out),gbN (Ab.bool Bool.false) Bool.true H x k=k Cw H) /\
 (∀ {H:Aa} {k:Ab->Aa->Out} (w:Bool) (x:Out),gbN (Ab.tup []) w H x k=k Cw H))) /\
 (((∀ {H:Aa} {k:Ab->Aa->Out} (v:Ab),Bb (Option.some (Res.ret v,H)) k=k v H) /\
 (∀ {H0 H:Aa} {k:Ab->Aa->Out} (v:Ab),bK H0 (Option.some (Res.ret v,H)) k=k v H)) /\
 ((∀ {H0 H:Aa} {k:Ab->Aa->Out} (v:Ab),bP H0 (Option.some (Res.ret v,H)) k=k v H) /\
 ((∀ {H0 H:Aa} (v:Ab),rK H0 v H=Option.some (Res.ret v,H)) /\
 (∀ {H H0:Aa} {v:Ab},rKN H0 v H=Option.some (Res.ret (forget v),H))))))) /\
 (((((∀ {c:Bool},unA UnOp.not (Ab.bool c)=Option.some (Ab.bool !c)) /\
 (∀ {H:Aa} (v:Ab),VpT (Option.some v) H=Option.some (Res.ret v,H))) /\
 ((∀ {H:Aa},AA (Option.some H)=Option.some (Res.ret Ab.undef,H)) /\
 (∀ {H:Aa} (v:Ab),Cd (Option.some (v,H))=Option.some (Res.ret v,H)))) /\
 (((∀ {H:Aa} {k:Ab->Aa->Out} (v:Ab),Ap (Option.some (v,H)) k=k v H) /\
 (∀ {a b:Int},(a==b)=decide (a=b))) /\
 ((∀ {a b:Int},(a != b) = !decide (a=b)) /\
 (((!true)=false) /\
 ((!false)=true))))) /\
 (((((false=true)=False) /\
 (∀(b:Bool),(false||b)=b)) /\
 ((∀(b:Bool),(true||b)=true) /\
 (∀(b:Bool),(b||false)=b))) /\
 (((∀(b:Bool),(b||true)=true) /\
 (∀(b:Bool),(b&&true)=b)) /\
 ((∀(b:Bool),(true&&b)=b) /\
 ((∀(b:Bool),(b&&false)=false) /\
 (∀(b:Bool),(false&&b)=false)))))))):=
 ⟨⟨⟨⟨⟨⟨@BA,@Ao⟩,⟨@Bf,@Bj⟩⟩,⟨⟨@B6,@BQ⟩,⟨@DI,@Bn⟩⟩⟩,⟨⟨⟨@DF,@LH⟩,⟨@IS,@Dy⟩⟩,⟨⟨@IQ,@CP⟩,⟨@DE,⟨@IR,@AZ⟩⟩⟩⟩⟩,⟨⟨⟨⟨@AL,@Cg⟩,⟨@Ch,@Hu⟩⟩,⟨⟨@LQ,@RK⟩,⟨@O0,⟨@Vkn,@QJ⟩⟩⟩⟩,⟨⟨⟨@QM,@QK⟩,⟨@QL,@Wc⟩⟩,⟨⟨@Ry,@Il⟩,⟨@QW,⟨@QZ,@QX⟩⟩⟩⟩⟩⟩,⟨⟨⟨⟨⟨@QY,@Wf⟩,⟨@QN,@QQ⟩⟩,⟨⟨@QO,@QP⟩,⟨@Wd,@QR⟩⟩⟩,⟨⟨⟨@QV,@QS⟩,⟨@QU,@We⟩⟩,⟨⟨@BF,@F3⟩,⟨@CQ,⟨@Ou,@Ez⟩⟩⟩⟩⟩,⟨⟨⟨⟨@JS,@IW⟩,⟨@AM,@D5⟩⟩,⟨⟨@Br,@Fa⟩,⟨@LG,⟨Xo,X2⟩⟩⟩⟩,⟨⟨⟨@Bool.false_eq_true,@Bool.false_or⟩,⟨@Bool.true_or,@Bool.or_false⟩⟩,⟨⟨@Bool.or_true,@Bool.and_true⟩,⟨@Bool.true_and,⟨@Bool.and_false,@Bool.false_and⟩⟩⟩⟩⟩⟩⟩
theorem GMc:((∀(f:(List Ab->Aa->Out)->Out) (j:List Ab->Aa->Out),AJ f j=f j)/\(∀h:Decidable True,@decide True h=true)/\(∀h:Decidable False,@decide False h=false)/\(∀(α:Type)(h:Decidable True)(t e:α),@ite α True h t e=t)/\(∀(α:Type)(h:Decidable False)(t e:α),@ite α False h t e=e)):=
 ⟨λ_ _=>rfl,λ_=>decide_true _,λ_=>decide_false _,λ_ _ _ _=>if_true _ _,λ_ _ _ _=>if_false _ _⟩
def GMw:=And.intro GMb GMc
end Go.Gm
namespace Go.Proofs
open Go.RowKit Go.Shelf
attribute [local go_sem] Oper.semAt_some
def KB (n₀ Bs:Nat)(W W':World):Prop:=Below n₀ W W'/\W'.cell? ⟨Bs,0,none⟩=W.cell? ⟨Bs,0,none⟩
theorem KB.refl (n₀ Bs:Nat)(W:World):KB n₀ Bs W W:=⟨Below.refl _ _,rfl⟩
theorem KB.trans {n₀ Bs:Nat}{A B C:World}(h:KB n₀ Bs A B)(k:KB n₀ Bs B C):KB n₀ Bs A C:=⟨h.1.trans k.1,k.2.trans h.2⟩
def Nw (n k:Nat):List (Fin n):=(List.finRange n).reverse.take k
theorem ON {n k:Nat}(h:k<n):Nw n (k+1)=Nw n k++[⟨n-1-k,by omega⟩]:=by unfold Nw;rw[List.take_add_one,List.getElem?_reverse (by simpa using h)];simp;rw[List.getElem?_eq_getElem (by simp;omega)];simp
theorem Vaz {n k:Nat}(h:k<=n):(Nw n k).length=k:=by simp[Nw,h]
theorem Rx {n:Nat}:∀(k:Nat)(j:Fin n),k<=n->n-k<=j.1->j∈Nw n k
 |0,j,_,h=>by have:=j.2;omega
 |k+1,j,hk,h=>by rw[ON (by omega)];by_cases e:j.1=n-1-k;exact List.mem_append_right _ (by simp;exact Fin.ext e);exact List.mem_append_left _ (Rx k j (by omega) (by omega))
set_option maxRecDepth 100000 in
set_option maxHeartbeats 2000000 in
theorem Tryz.back1_in (F:Fence)(n:Nat)(h229:F.fn 229)(hro:F.round=none)(hn:1<=n)(l Bs n₀ b off len cap:Nat)(ao:Option Addr)(hao:0<len->ao=some ⟨b,off,none⟩)(zf:Nat->Nat)(hreach:len<=1099511627776)(hb:b<n₀)(J Jx:List (Fin len)->World->Prop)
  (hY:∀pre (x:Fin len) W,J pre W->pre.length<len->YieldAt F (n-1) Tryz.prog l #[.i6 (x.1:Int),.int .u32 ((zf x.1:Nat):Int)] W λe W'=>(e=.returned (.bool true)/\J (pre++[x]) W'/\KB n₀ Bs W W')\/(e=.returned (.bool false)/\Jx (pre++[x]) W'))
  (W:World)(hBs:W.cell? ⟨Bs,0,none⟩=some (.slice ao len cap))(hc:∀j,j<len->W.cell? ⟨b,off+j,none⟩=some (.int .u32 ((zf j:Nat):Int)))(h0:J [] W):CallsIn F n Tryz.prog 229 #[.func (.yield l) #[] #[],.pointer (some ⟨Bs,0,none⟩)] W λe W'=>(∃v,e=.returned v) /\
   ((∃ys,ys=Nw len len/\J ys W')\/(∃pre,(∃k,k<len/\pre=Nw len (k+1))/\Jx pre W')):=by
 refine callsIn_of_wp Tryz.func229 rfl h229 ?_ hro;simp only[Tryz.ntmps229,List.size_toArray,List.length_cons,List.length_nil,Nat.reduceAdd,Nat.reduceSub,Array.replicate_succ,Array.replicate_zero,List.push_toArray,List.append_toArray,List.nil_append,List.cons_append]
 gi_wp2
 gi_loopw [3] (λi wr=>∃k:Nat,k<=len/\i=.i6 ((len:Int)-1-k)/\J (Nw len k) wr/\KB n₀ Bs W wr)
  (λi _=>((intOf i)+1).toNat)
 case atStart=>exact⟨0,Nat.zero_le _,by simp,h0,KB.refl _ _ _⟩
 case round=>
  obtain⟨k,hk,rfl,hJs,hkb⟩:=hrel;have hnx:=hkb.1;have hBs':=hkb.2.trans hBs;by_cases hlt:k<len
  ·have hao':=hao (by omega);subst hao';have hcx:=(hnx.cell (p:=⟨b,off+(len-1-k),none⟩) hb).trans (hc (len-1-k) (by omega));obtain⟨fn,tmps,assign,body,hy,hR⟩:=hY _ ⟨len-1-k,by omega⟩ wr hJs (by rw[Vaz hk];exact hlt);dsimp only at hy;have hlast:=ON hlt;obtain⟨i,hi⟩:∃i:Nat,i=len-1-k:=⟨_,rfl⟩;have hil:i<len:=(by omega);obtain⟨x,hx⟩:∃x:Fin len,x=⟨len-1-k,by omega⟩:=⟨_,rfl⟩;rw[<-hx]at hR hlast;clear hx;have hii:(len:Int)-1-(k:Int)=(i:Int):=(by omega);rw[<-hi]at hcx hy;have hstep:(i:Int)-1=(len:Int)-1-((k+1:Nat):Int):=(by omega);rw[hii];clear hi hii;obtain⟨z,hzz⟩:∃z:Nat,z=zf i:=⟨_,rfl⟩;rw[<-hzz]at hcx hy;clear hzz;clear hkb;have hkb:Hid (KB n₀ Bs W wr):=⟨hnx,hBs'.trans hBs.symm⟩
   gi_wp2
   refine hR.mono ?_;rintro e W3 (⟨rfl,hJ3,hk3⟩ | ⟨rfl,hJx3⟩)
   ·gi_wp2
    go_roundw
    case rel=>exact⟨k+1,by omega,by simp,by rw[hlast];exact hJ3,hkb.out.trans hk3⟩
    case measure=>simp[intOf];omega
   ·gi_wp2
    refine bodyPost_ret (results_none rfl _ _ _) rfl ?_;exact⟨⟨_,rfl⟩,.inr ⟨_,⟨k,hlt,hlast.symm⟩,hJx3⟩⟩
  ·obtain rfl:k=len:=by omega
   gi_wp2
   go_end0
   exact⟨⟨_,rfl⟩,.inl ⟨_,rfl,hJs⟩⟩
set_option maxHeartbeats 1000000 in
theorem Tryz.back_in (F:Fence)(n:Nat)(h205:F.fn 205)(hro:F.round=none)(a:Option Addr)(len cap:Nat)(w:World):CallsIn F n Tryz.prog 205 #[.slice a len cap] w λe w'=>e=.returned (.func (.func 229) #[] #[.pointer (some ⟨w.heap.size,0,none⟩)])/\w'=w.alloc (.cells #[.slice a len cap] 44):=by
 refine callsIn_of_wp Tryz.func205 rfl h205 ?_ hro;simp only[Tryz.ntmps205,List.size_toArray,List.length_cons,List.length_nil,Nat.reduceAdd,Nat.reduceSub,Array.replicate_succ,Array.replicate_zero,List.push_toArray,List.append_toArray,List.nil_append,List.cons_append]
 gi_wp2
 go_ret
 exact⟨rfl,rfl⟩
theorem Tryz.back_stops (F:Fence)(n:Nat)(h229:F.fn 229)(hro:F.round=none)(hn:1<=n)(Bs n₀ b off len cap:Nat)(ao:Option Addr)(hao:0<len->ao=some ⟨b,off,none⟩)(zf:Nat->Nat)(hreach:len<=1099511627776)(w:World)(hBs:Bs<w.heap.size)(hb:b<n₀)(hn₀:n₀<=w.heap.size)
  (hc:w.cell? ⟨Bs,0,none⟩=some (.slice ao len cap))(hI:∀j,j<len->w.cell? ⟨b,off+j,none⟩=some (.int .u32 ((zf j:Nat):Int))):SeqStopsK F n Tryz.prog 229 #[.pointer (some ⟨Bs,0,none⟩)] (λx:Fin len=>#[Value.i6 (x.1:Int),Value.int .u32 ((zf x.1:Nat):Int)]) (KB n₀ Bs) (λys=>ys=Nw len len)
   (λpre=>∃k,k<len/\pre=Nw len (k+1)) len w:=λl J Jx W hW _ _ hY h0=>
 Tryz.back1_in F n h229 hro hn l Bs n₀ b off len cap ao hao zf hreach hb J Jx hY W ((hW.cell (p:=⟨Bs,0,none⟩) hBs).trans hc) (λj hj=>(hW.cell (p:=⟨b,off+j,none⟩) (by show b<_;omega)).trans (hI j hj)) h0
end Go.Proofs
namespace Go.Gm
def HC (l:zAb):Nat->Nat
 |0=>0
 |k+1=>if l[k]?.getD 0=0 then HC l k else k+1
theorem OY (l:zAb):∀k,HC l k<=k
 |0=>W7 _
 |k+1=>by have:=OY l k;unfold HC;split<;>omega
theorem Kj {l:zAb}(hx:Lim l):∀k,k<=l.length->l.take (HC l k)=AB (val (l.take k))
 |0,_=>by have:AB (val ([]:zAb))=[]:=(MO (l:=[]) ⟨λx h=>(by cases h),λx h=>(by cases h)⟩).symm;simpa[HC]using this.symm
 |k+1,hk=>by have hg:l[k]? = some l[k]:=W4 (by omega);have ht:l.take (k+1)=l.take k++[l[k]]:=WF (by omega);unfold HC;split;rename_i h;rw[Kj hx k (by omega),ht,CC];rw[hg,Option.getD_some]at h;rw[h];simp[val];rename_i h;rw[hg,Option.getD_some]at h;refine MO ⟨λx iG=>hx x (X5 iG),λx iG=>?_⟩;rw[ht,List.getLast?_concat]at iG;cases iG;exact h
theorem VkT {l:zAb}{H:Aa}{id k:Nat}(hg:H[id]? = some (.c0 (flat cU l)))(hk:k<=l.length)(hl:l.length<9223372036854775807):UeM (.ms id 0 0 k l.length 1 true) H=some (.ret (.bool (decide (k=0)||decide (l[k-1]?.getD 0≠0))),H):=by
 unfold UeM;cases k with
 |zero=>simp[A7]
 |succ k=>
  have hidx:=Db (sz:=1) (id:=id) (n:=k+1) (K:=.i64) (g:=0) (off:=0) (cap:=l.length) (ex:=true) (i:=k) (by omega);simp only[W9,WK]at hidx;have hld:=ID (f:=cU) (id:=id) (l:=l) (H:=H) (show AC H id 0=some (flat cU l)by simp[AC,hg]) (i:=k) (by omega);have h0:¬((k+1:Nat):Int)=0:=by omega
  have hw:IntKind.i64.wrap (((k+1:Nat):Int)-1)=(k:Int):=by rw[Am]<;>omega
  have wE:l[k]? = some l[k]:=W4 (by omega);simp only[show A7 (.ms id 0 0 (k+1) l.length 1 true)=some (.i6 ((k+1:Nat):Int)) from rfl,GMw,h0,hw,hidx,hld,WQ,wE,Option.getD_some,Yy];by_cases h:l[k]=0;simp[h];have:¬(l[k]:Int)=0:=(by omega);simp[h,this]
theorem VhU {l:zAb}{H:Aa}{id:Nat}(hg:H[id]? = some (.c0 (flat cU l)))(hl:l.length<1152921504606846976):UaC (.ms id 0 0 l.length l.length 1 true) H=some (.ret (.ms id 0 0 (HC l l.length) l.length 1 true),H):=by
 unfold UaC;refine Bv (σ:=Nat) (λk=>k<=l.length/\HC l k=HC l l.length) (λk=>[.ms id 0 0 k l.length 1 true]) (λ_=>H) (λk=>k) (λ_=>some (.ret (.ms id 0 0 (HC l l.length) l.length 1 true),H)) (λk rec hi hrec=>?_) l.length ⟨W7 _,rfl⟩ (by omega);obtain⟨hk,ht⟩:=hi;unfold Uaf;simp only[Ao,VkT hg hk (by omega),GMw];cases k with
 |zero=>simp[<-ht,HC,rKN,fin,forget,ED,fgt]
 |succ k=>by_cases h:l[k]?.getD 0=0;have hw:IntKind.i64.wrap (((k+1:Nat):Int)-1)=(k:Int):=(by rw[Am]<;>omega);have hsl:B5 1 (.ms id 0 0 (k+1) l.length 1 true) none (some (.i6 (k:Int))) none=some (.ms id 0 0 k l.length 1 true):=(by have:(0:Int)<=(k:Int):=(by omega);simp only[B5,B2,zXa,this,if_true,zXl];rw[if_pos ⟨trivial,by omega,by omega,by omega⟩];simp);have dZ:HC l k=HC l l.length:=(by rw[<-ht];simp[HC,h]);have hr:=hrec k ⟨by omega,dZ⟩ (by omega);simp only[h,show A7 (.ms id 0 0 (k+1) l.length 1 true)=some (.i6 ((k+1:Nat):Int)) from rfl,GMw,hw,hsl,WQ,ne_eq,not_true_eq_false,Yy];exact hr;have dZ:HC l (k+1)=k+1:=(by simp[HC,h]);rw[<-ht,dZ];simp only[h,GMw,WQ,ne_eq,not_false_eq_true,Yy];simp[rKN,fin,forget,ED,fgt]
open Go.Proofs
set_option maxRecDepth 100000
noncomputable def kK (kn kr:List Ab->Aa->Out):Sm
 |.normal,tm,H=>kn tm H
 |.ret,tm,H=>kr tm H
 |.pan v,_,H=>some (.pan v,H)
 |.exit _,_,_=>none
noncomputable def Vpi:Code->Code
 |.seq a _=>a
 |c=>c
noncomputable def VmG:Code->Code
 |.seq _ b=>b
 |c=>c
noncomputable def cmO:Orc:=ent 201 (ap1 UaC) noO
noncomputable def UO:Cfg:=mkC Tryz.prog Gs false cmO
noncomputable def cdA:Code:=Vpi (EH Tryz.f156)
noncomputable def cdB:Code:=Vpi (VmG (EH Tryz.f156))
noncomputable def cdC:Code:=Vpi (VmG (VmG (EH Tryz.f156)))
noncomputable def cdD:Code:=VmG (VmG (VmG (EH Tryz.f156)))
theorem Vj6:Tryz.f156.body=some (.seq cdA (.seq cdB (.seq cdC cdD))):=by kernel_rfl
noncomputable def cmA (kn:List Ab->Aa->Out)(x0 x1:Ab)(H0:Aa):Out:=
 Ap (BC true 1 x1 H0) λb_41 H42=>
 Ap (A0 (some [(.i6 0)]) H42) λx43 H44=>
 kn [x0,x1,.undef,b_41,x43,.undef,.undef,.undef,.undef,.undef,.undef,.undef,.undef,.undef,.undef,.undef,.undef,.undef,.undef,.undef,.undef,.undef,.undef,.undef,.undef,.undef,.undef,.undef,.undef,.undef,.undef,.undef,.undef,.undef,.undef,.undef,.undef,.undef,.undef] H44
noncomputable def cmB (kn:List Ab->Aa->Out)(x0 x1 x3 x4:Ab)(H0:Aa):Out:=
 Bb (UaC x0 H0) λx41 H42=>
 bC (Ad false 1 x3 H42) (λx43=>Ad false 1 x3 H0=some x43/\True) λx43=>
 Bb (UaC x43 H42) λx44 H45=>
 bK H0 (AA (Ai 1 x3 x44 H45)) λ_ H47=>
 kn [x41,x1,.undef,x3,x4,.undef,.undef,x0,x41,x43,x44,.undef,.undef,.undef,.undef,.undef,.undef,.undef,.undef,.undef,.undef,.undef,.undef,.undef,.undef,.undef,.undef,.undef,.undef,.undef,.undef,.undef,.undef,.undef,.undef,.undef,.undef,.undef,.undef] H47
noncomputable def cmC (kn kr:List Ab->Aa->Out)(x0 x3 x4:Ab)(H0:Aa):Out:=
 (A7 x0).bind λx41=>
 (Ad false 1 x3 H0).bind λx42=>
 (A7 x42).bind λx43=>
 (Af .none .neq x41 x43).bind λx44=>
 Ak x44 (
 (A7 x0).bind λx45=>
 (Ad false 1 x3 H0).bind λx46=>
 (A7 x46).bind λx47=>
 (Af .none .lss x45 x47).bind λx48=>
 Ak x48 (
 bK H0 (AA (Ai 1 x4 (.i6 (-1)) H0)) λ_ H50=>
 kr [x0,.undef,.undef,x3,x4,.undef,.undef,.undef,.undef,.undef,.undef,x0,x41,x42,x43,x44,x0,x45,x46,x47,x48,.undef,.undef,.undef,.undef,.undef,.undef,.undef,.undef,.undef,.undef,.undef,.undef,.undef,.undef,.undef,.undef,.undef,.undef] H50) (
 bK H0 (AA (Ai 1 x4 (.i6 1) H0)) λ_ H52=>
 kr [x0,.undef,.undef,x3,x4,.undef,.undef,.undef,.undef,.undef,.undef,x0,x41,x42,x43,x44,x0,x45,x46,x47,x48,.undef,.undef,.undef,.undef,.undef,.undef,.undef,.undef,.undef,.undef,.undef,.undef,.undef,.undef,.undef,.undef,.undef,.undef] H52)) (
 kn [x0,.undef,.undef,x3,x4,.undef,.undef,.undef,.undef,.undef,.undef,x0,x41,x42,x43,x44,.undef,.undef,.undef,.undef,.undef,.undef,.undef,.undef,.undef,.undef,.undef,.undef,.undef,.undef,.undef,.undef,.undef,.undef,.undef,.undef,.undef,.undef,.undef] H0)
theorem Vok (kn kr:List Ab->Aa->Out)(x0 x1:Ab)(H:Aa):ev2 UO 39 cdA .lf (kK kn kr) [x0,x1,.undef,.undef,.undef,.undef,.undef,.undef,.undef,.undef,.undef,.undef,.undef,.undef,.undef,.undef,.undef,.undef,.undef,.undef,.undef,.undef,.undef,.undef,.undef,.undef,.undef,.undef,.undef,.undef,.undef,.undef,.undef,.undef,.undef,.undef,.undef,.undef,.undef] H=cmA kn x0 x1 H:=by kernel_rfl
theorem Voj (kn kr:List Ab->Aa->Out)(x0 x1 x3 x4:Ab)(H:Aa):ev2 UO 39 cdB (.reg [0,1,2,3,4,5]) (kK kn kr) [x0,x1,.undef,x3,x4,.undef,.undef,.undef,.undef,.undef,.undef,.undef,.undef,.undef,.undef,.undef,.undef,.undef,.undef,.undef,.undef,.undef,.undef,.undef,.undef,.undef,.undef,.undef,.undef,.undef,.undef,.undef,.undef,.undef,.undef,.undef,.undef,.undef,.undef] H=cmB kn x0 x1 x3 x4 H:=by kernel_rfl
theorem Voi (kn kr:List Ab->Aa->Out)(x0 x3 x4:Ab)(H:Aa):ev2 UO 39 cdC (.tw .lf (.tw (.tw (.tw .lf (.tw (.tw .lf .lf) .lf)) (.tw .lf .lf)) .lf)) (kK kn kr) [x0,.undef,.undef,x3,x4,.undef,.undef,.undef,.undef,.undef,.undef,.undef,.undef,.undef,.undef,.undef,.undef,.undef,.undef,.undef,.undef,.undef,.undef,.undef,.undef,.undef,.undef,.undef,.undef,.undef,.undef,.undef,.undef,.undef,.undef,.undef,.undef,.undef,.undef] H=cmC kn kr x0 x3 x4 H:=by kernel_rfl
structure SW {α:Type}(lt:α->α->Bool):Prop where
 asy:∀a b,lt a b=true->lt b a=false
 neg:∀a b c,lt a b=false->lt b c=false->lt a c=false
section
variable {α:Type}{lt:α->α->Bool}
def BI (lt:α->α->Bool)(a b:α):Bool:=!lt a b && !lt b a
def FL (lt:α->α->Bool)(l m:List α):Prop:=∀a,l.filter (BI lt a)=m.filter (BI lt a)
def EI (lt:α->α->Bool)(l:List α):Prop:=l.Pairwise λa b=>lt b a=false
theorem SW.irr (h:SW lt)(a:α):lt a a=false:=by cases e:lt a a with|false=>rfl|true=>have:=h.asy a a e;rw[e]at this;cases this
theorem MS (h:SW lt)(a:α):BI lt a a=true:=by unfold BI;rw[h.irr];rfl
theorem Gq {a b:α}:BI lt a b=true↔lt a b=false/\lt b a=false:=by unfold BI;simp
theorem FL.refl (l:List α):FL lt l l:=λ_=>rfl
theorem FL.trans {l m n:List α}(h:FL lt l m)(k:FL lt m n):FL lt l n:=λa=>(h a).trans (k a)
theorem FL.app {l m l' m':List α}(h:FL lt l m)(k:FL lt l' m'):FL lt (l++l') (m++m'):=λa=>by rw[Xq,Xq,h a,k a]
theorem FL.mem (hs:SW lt){l m:List α}(h:FL lt l m){a:α}:a∈l↔a∈m:=by
 have e:∀l:List α,a∈l↔a∈l.filter (BI lt a):=λl=>by rw[Xz];exact⟨λh=>⟨h,MS hs a⟩,λh=>h.1⟩
 rw[e l,e m,h a]
theorem Ii {l:List α}{p:α->Bool}(h:∀a∈l,p a=false):l.filter p=[]:=by rw[List.filter_eq_nil_iff];intro a ha e;rw[h a ha]at e;cases e
theorem FL.swap (hs:SW lt){u v:List α}(h:∀x∈u,∀y∈v,lt y x=true):FL lt (u++v) (v++u):=λa=>by
 rw[Xq,Xq];by_cases hu:∃x∈u,BI lt a x=true
 ·obtain⟨x,hx,xK⟩:=hu;have hv:v.filter (BI lt a)=[]:=Ii λy hy=>by cases e:BI lt a y with|false=>rfl|true=>rw[Gq]at e xK;have:=hs.neg y a x e.2 xK.1;rw[h x hx y hy]at this;cases this
  rw[hv,WU,List.nil_append]
 ·have:u.filter (BI lt a)=[]:=Ii λx hx=>by cases e:BI lt a x with|false=>rfl|true=>exact absurd ⟨x,hx,e⟩ hu
  rw[this,WU,List.nil_append]
theorem TY (hs:SW lt){x y:α}(h:BI lt x y=true):BI lt x=BI lt y:=by
 rw[Gq]at h
 funext a
 rw[WP,Gq,Gq];exact⟨λ⟨p,q⟩=>⟨hs.neg _ _ _ h.2 p,hs.neg _ _ _ q h.1⟩,λ⟨p,q⟩=>⟨hs.neg _ _ _ h.1 p,hs.neg _ _ _ q h.2⟩⟩
structure Srt (lt:α->α->Bool)(l m:List α):Prop where
 srt:EI lt m
 st:FL lt l m
 len:m.length=l.length
theorem Mz {l m:List α}(h1:EI lt l)(h2:EI lt m)(h:∀a∈l,∀b∈m,lt b a=false):EI lt (l++m):=XF.2 ⟨h1,h2,h⟩
def swp (l:List α)(i j:Nat):List α:=match l[i]?,l[j]? with
 |some a,some b=>(l.set i b).set j a
 |_,_=>l
theorem VbR:∀(A:List α)(x y:α)(R:List α),(A++x::R).set A.length y=A++y::R
 |[],_,_,_=>rfl
 |a::A,x,y,R=>by show a::(A++x::R).set A.length y=_;rw[VbR A x y R];rfl
theorem N5 (l:List α)(i j:Nat):(swp l i j).length=l.length:=by
 unfold swp;split;rw[zYa,zYa]
 ·rfl
theorem VcG (A:List α)(x:α)(R:List α):(A++x::R)[A.length]? = some x:=by simp
theorem Sr (A M B:List α)(x y:α){i j:Nat}(hi:i=A.length)(hj:j=A.length+1+M.length):swp (A++x::(M++y::B)) i j=A++y::(M++x::B)/\swp (A++x::(M++y::B)) j i=A++y::(M++x::B):=by
 subst hi;have e:∀z:α,A++z::(M++y::B)=(A++z::M)++y::B:=λz=>by simp
 have hlen:∀z:α,(A++z::M).length=j:=λz=>by simp;omega
 have g1:(A++x::(M++y::B))[A.length]? = some x:=VcG _ _ _;have g2:(A++x::(M++y::B))[j]? = some y:=by rw[e,<-hlen x];exact VcG _ _ _
 have s1:∀z w:α,(A++z::(M++y::B)).set j w=A++z::(M++w::B):=λz w=>by rw[e,<-hlen z,VbR];simp
 constructor;unfold swp;rw[g1,g2];dsimp only;rw[VbR,s1];unfold swp;rw[g1,g2];dsimp only;rw[s1,VbR]

end
section
variable {α:Type}{lt:α->α->Bool}
def Ji (lt:α->α->Bool)(l:List α)(i j:Nat):Bool:=match l[i]?,l[j]? with
 |some x,some y=>lt x y
 |_,_=>false
theorem S1 {l:List α}{i j:Nat}(hi:i<l.length)(hj:j<l.length):Ji lt l i j=lt l[i] l[j]:=by unfold Ji;rw[W4 hi,W4 hj]
def Lb (lt:α->α->Bool)(a:Nat):Nat->List α->List α
 |0,l=>l
 |j+1,l=>if a<j+1/\Ji lt l (j+1) j=true then Lb lt a j (swp l (j+1) j)else l
theorem Vc8 (a:Nat):∀(j:Nat)(l:List α),(Lb lt a j l).length=l.length
 |0,l=>rfl
 |j+1,l=>by
  unfold Lb;split;rw[Vc8 a j,N5]
  ·rfl
theorem VfY (hs:SW lt)(A:List α)(x:α):∀(n:Nat)(S R:List α),S.length=n->EI lt S->∃P,Lb lt A.length (A.length+S.length) (A++(S++x::R))=A++(P++R)/\Srt lt (S++[x]) P
 |0,S,R,hn,_=>by have:S=[]:=WM hn;subst this;refine⟨[x],?_,⟨XD _ _,.refl _,rfl⟩⟩;show Lb lt A.length (A.length+0) _=_;rw[Nat.add_zero];cases hA:A.length with|zero=>rfl|succ k=>unfold Lb;rw[if_neg (by omega)];rfl
 |n+1,S,R,hn,hS=>by
  have hne:S≠[]:=λe=>by rw[e]at hn;cases hn
  obtain⟨T,y,rfl⟩:∃T y,S=T++[y]:=⟨S.dropLast,S.getLast hne,(List.dropLast_concat_getLast hne).symm⟩;have hT:T.length=n:=by simpa using hn
  have hS':=hS;unfold EI at hS';rw[XF]at hS';obtain⟨hT1,_,hT2⟩:=hS';have hl:A++((T++[y])++x::R)=(A++T)++y::([]++x::R):=by simp
  have hAT:(A++T).length=A.length+T.length:=WC;have g1:Ji lt (A++((T++[y])++x::R)) (A.length+T.length+1) (A.length+T.length)=lt x y:=by unfold Ji;have e1:(A++((T++[y])++x::R))[A.length+T.length+1]? = some x:=(by have:A++((T++[y])++x::R)=(A++T++[y])++x::R:=(by simp);rw[this,show A.length+T.length+1=(A++T++[y]).length by simp;omega];exact VcG _ _ _);have e2:(A++((T++[y])++x::R))[A.length+T.length]? = some y:=(by rw[hl,<-hAT];exact VcG _ _ _);rw[e1,e2]
  have hlen:A.length+(T++[y]).length=A.length+T.length+1:=by simp;omega
  rw[hlen];unfold Lb;rw[g1];by_cases hxy:lt x y=true;rw[if_pos ⟨by omega,hxy⟩,hl,(Sr (A++T) [] R y x hAT.symm (by rw[hAT];rfl)).2];obtain⟨P,p1,p2⟩:=VfY hs A x n T (y::R) hT hT1;refine⟨P++[y],?_,⟨?_,?_,by rw[WC,p2.len];simp⟩⟩;have:(A++T)++x::([]++y::R)=A++(T++x::(y::R)):=(by simp);rw[this,p1];simp;refine Mz p2.srt (XD _ _) λa ha b hb=>?_;rw[WR]at hb;subst hb;have:=(p2.st.mem hs).2 ha;rcases WT.1 this with h | h;exact hT2 a h b (by simp);rw[WR]at h;rw[h];exact hs.asy _ _ hxy;refine FL.trans ?_ (p2.st.app (.refl [y]));rw[WD,WD];exact(FL.refl T).app (FL.swap hs λa ha b hb=>by rw[WR]at ha hb;rw[ha,hb];exact hxy);have pY:lt x y=false:=(by simpa using hxy);rw[if_neg (λh=>hxy h.2)];refine⟨T++[y]++[x],by simp,⟨Mz hS (XD _ _) λa ha b hb=>?_,.refl _,rfl⟩⟩;rw[WR]at hb;subst hb;rcases WT.1 ha with h | h;exact hs.neg _ _ _ pY (hT2 a h y (by simp));rw[WR]at h;rw[h];exact pY
def Sb (lt:α->α->Bool)(a:Nat):Nat->List α->List α
 |0,l=>l
 |k+1,l=>Lb lt a (a+1+k) (Sb lt a k l)
theorem Vc5 (a:Nat):∀(k:Nat)(l:List α),(Sb lt a k l).length=l.length
 |0,l=>rfl
 |k+1,l=>by unfold Sb;rw[Vc8,Vc5 a k]
theorem VfX (hs:SW lt)(A:List α):∀(k:Nat)(S R:List α),S.length=k+1->∃P,Sb lt A.length k (A++(S++R))=A++(P++R)/\Srt lt S P
 |0,S,R,hn=>by obtain⟨x,rfl⟩:=Y0.1 hn;exact⟨[x],rfl,⟨XD _ _,.refl _,rfl⟩⟩
 |k+1,S,R,hn=>by
  have hne:S≠[]:=λe=>by rw[e]at hn;cases hn
  obtain⟨T,y,rfl⟩:∃T y,S=T++[y]:=⟨S.dropLast,S.getLast hne,(List.dropLast_concat_getLast hne).symm⟩;have hT:T.length=k+1:=by simpa using hn
  obtain⟨P,p1,p2⟩:=VfX hs A k T (y::R) hT;have hPl:P.length=k+1:=by rw[p2.len,hT]
  obtain⟨P',q1,q2⟩:=VfY hs A y P.length P R rfl p2.srt;refine⟨P',?_,⟨q2.srt,(p2.st.app (.refl [y])).trans q2.st,by rw[q2.len,WC,WC,p2.len]⟩⟩;unfold Sb;have:A++((T++[y])++R)=A++(T++y::R):=by simp
  rw[this,p1,show A.length+1+k=A.length+P.length by omega];exact q1

end
section
variable {α:Type}{lt:α->α->Bool}
def swR (a b:Nat):Nat->List α->List α
 |0,l=>l
 |k+1,l=>swp (swR a b k l) (a+k) (b+k)
theorem Ss (a b:Nat):∀(k:Nat)(l:List α),(swR a b k l).length=l.length
 |0,l=>rfl
 |k+1,l=>by unfold swR;rw[N5,Ss a b k]
theorem VjL (A M B U V:List α)(h:U.length=V.length):∀k,k<=U.length->swR A.length (A.length+U.length+M.length) k (A++(U++(M++(V++B))))=A++((V.take k++U.drop k)++(M++((U.take k++V.drop k)++B)))
 |0,_=>by simp[swR]
 |k+1,hk=>by
  unfold swR;rw[VjL A M B U V h k (by omega)];have yE:k<U.length:=by omega
  have rY:k<V.length:=by omega
  rw[Xb yE,Xb rY,WF yE,WF rY];have e:A++((V.take k++U[k]::U.drop (k+1))++(M++((U.take k++V[k]::V.drop (k+1))++B)))=(A++V.take k)++U[k]::((U.drop (k+1)++(M++U.take k))++V[k]::(V.drop (k+1)++B)):=by simp only[WD,List.cons_append,List.nil_append]
  have h1:(V.take k).length=k:=by rw[WN];omega
  have h2:(U.take k).length=k:=by rw[WN];omega
  rw[e,(Sr (A++V.take k) (U.drop (k+1)++(M++U.take k)) (V.drop (k+1)++B) U[k] V[k] (by rw[WC,h1]) (by simp only[WC,h1,h2,WS];omega)).1];simp only[WD,List.cons_append,List.nil_append]
theorem Vex (A M B U V:List α)(h:U.length=V.length){a b n:Nat}(ha:a=A.length)(hb:b=A.length+U.length+M.length)(hn:n=U.length):swR a b n (A++(U++(M++(V++B))))=A++(V++(M++(U++B))):=by subst ha;subst hb;subst hn;rw[VjL A M B U V h U.length (W7 _),WH (by omega),WH (W7 _),XQ (W7 _),XQ (by omega)];simp
structure OR (A B W:List α)(m i j:Nat)(l:List α):Prop where
 ex:∃P u v S,l=A++(P++(u++(v++(S++B))))/\P++(v++(u++S))=W/\u.length=i/\v.length=j/\A.length+P.length+i=m
 pos:0<i/\0<j
theorem OR.start {A B U V:List α}(hU:0<U.length)(hV:0<V.length):OR A B (V++U) (A.length+U.length) U.length V.length (A++(U++(V++B))):=
 ⟨⟨[],U,V,[],by simp,by simp,rfl,rfl,by simp⟩,hU,hV⟩
theorem OR.hi {A B W l:List α}{m i j:Nat}(h:OR A B W m i j l)(hij:j<i):OR A B W m (i-j) j (swR (m-i) m j l):=by
 obtain⟨⟨P,u,v,S,rfl,hW,hu,hv,hm⟩,h1,h2⟩:=h;have hsp:u.take j++u.drop j=u:=Xk j u;have l1:(u.take j).length=j:=by rw[WN];omega
 have l2:(u.drop j).length=i-j:=by rw[WS,hu]
 have e:A++(P++(u++(v++(S++B))))=(A++P)++(u.take j++(u.drop j++(v++(S++B)))):=by
  conv=>lhs;rw[<-hsp]
  simp only[WD]
 rw[e,Vex (A++P) (u.drop j) (S++B) (u.take j) v (by rw[l1,hv]) (by rw[WC];omega) (by rw[WC,l1,l2];omega) l1.symm];refine⟨⟨P++v,u.drop j,u.take j,S,by simp,?_,l2,l1,by rw[WC];omega⟩,by omega,h2⟩;rw[<-hW]
 conv=>rhs;rw[<-hsp]
 simp only[WD]
theorem OR.lo {A B W l:List α}{m i j:Nat}(h:OR A B W m i j l)(hij:i<j):OR A B W m i (j-i) (swR (m-i) (m+j-i) i l):=by
 obtain⟨⟨P,u,v,S,rfl,hW,hu,hv,hm⟩,h1,h2⟩:=h;have hsp:v.take (j-i)++v.drop (j-i)=v:=Xk (j-i) v;have l1:(v.take (j-i)).length=j-i:=by rw[WN];omega
 have l2:(v.drop (j-i)).length=i:=by rw[WS,hv];omega
 have e:A++(P++(u++(v++(S++B))))=(A++P)++(u++(v.take (j-i)++(v.drop (j-i)++(S++B)))):=by
  conv=>lhs;rw[<-hsp]
  simp only[WD]
 rw[e,Vex (A++P) (v.take (j-i)) (S++B) u (v.drop (j-i)) (by rw[l2,hu]) (by rw[WC];omega) (by rw[WC,l1];omega) hu.symm];refine⟨⟨P,v.drop (j-i),v.take (j-i),u++S,by simp,?_,l2,l1,hm⟩,h1,by omega⟩;rw[<-hW]
 conv=>rhs;rw[<-hsp]
 simp only[WD]
theorem OR.eq {A B W l:List α}{m i:Nat}(h:OR A B W m i i l):swR (m-i) m i l=A++(W++B):=by
 obtain⟨⟨P,u,v,S,rfl,hW,hu,hv,hm⟩,h1,h2⟩:=h;have e:A++(P++(u++(v++(S++B))))=(A++P)++(u++([]++(v++(S++B)))):=by simp
 rw[e,Vex (A++P) [] (S++B) u v (by omega) (by rw[WC];omega) (by rw[WC];simp;omega) hu.symm,<-hW];simp
theorem OR.len {A B W l:List α}{m i j:Nat}(h:OR A B W m i j l):i<=m/\m+j<=l.length:=by obtain⟨⟨P,u,v,S,rfl,hW,hu,hv,hm⟩,h1,h2⟩:=h;simp only[WC];omega
structure BsI (p:Nat->Bool)(s r i j:Nat):Prop where
 le:s<=i/\i<=j/\j<=r
 up:∀c,s<=c->c<i->p c=true
 dn:∀c,j<=c->c<r->p c=false
theorem BsI.start {p:Nat->Bool}{s r:Nat}(h:s<=r):BsI p s r s r:=⟨⟨W7 _,h,W7 _⟩,λc _ _=>by omega,λc _ _=>by omega⟩
theorem BsI.yes {p:Nat->Bool}{s r i j h:Nat}(k:BsI p s r i j)(hm:∀c d,s<=c->c<=d->d<r->p d=true->p c=true)(h1:i<=h)(h2:h<j)(hp:p h=true):BsI p s r (h+1) j:=by obtain⟨⟨a,b,c⟩,d,e⟩:=k;exact⟨⟨by omega,by omega,c⟩,λx hx hy=>hm x h hx (by omega) (by omega) hp,e⟩
theorem BsI.no {p:Nat->Bool}{s r i j h:Nat}(k:BsI p s r i j)(hm:∀c d,s<=c->c<=d->d<r->p d=true->p c=true)(h1:i<=h)(h2:h<j)(hp:p h=false):BsI p s r i h:=by obtain⟨⟨a,b,c⟩,d,e⟩:=k;refine⟨⟨a,h1,by omega⟩,d,λx hx hy=>?_⟩;cases hq:p x with|false=>rfl|true=>have:=hm h x (by omega) hx hy hq;rw[hp]at this;cases this

end
section
variable {α:Type}{lt:α->α->Bool}
theorem Ib {l:List α}(h:EI lt l)(hs:SW lt){i j:Nat}(hij:i<=j)(hj:j<l.length):lt l[j] (l[i]'(by omega))=false:=by by_cases e:i=j;subst e;exact hs.irr _;exact Yr.1 h i j (by omega) hj (by omega)
theorem IB {l:List α}{n:Nat}{x:α}(h:x∈l.take n):∃i,∃hi:i<l.length,i<n/\l[i]=x:=by obtain⟨i,hi,e⟩:=Xf h;rw[WN]at hi;exact⟨i,by omega,by omega,by rw[<-e,YY]⟩
theorem IC {l:List α}{n:Nat}{x:α}(h:x∈l.drop n):∃i,∃hi:i<l.length,n<=i/\l[i]=x:=by obtain⟨i,hi,e⟩:=Xf h;rw[WS]at hi;exact⟨n+i,by omega,by omega,by rw[<-e,Y3]⟩
theorem Qq (hs:SW lt){U V W1 W2:List α}{i k:Nat}(hU:EI lt U)(hV:EI lt V)(h1:∀x∈U.drop i,∀y∈V.take k,lt y x=true)(h2:∀x∈U.take i,∀y∈V.drop k,lt y x=false)
  (w1:Srt lt (U.take i++V.take k) W1)(w2:Srt lt (U.drop i++V.drop k) W2):Srt lt (U++V) (W1++W2):=by
 have eU:U.take i++U.drop i=U:=Xk i U;have eV:V.take k++V.drop k=V:=Xk k V;have hU':=hU;have hV':=hV;rw[<-eU]at hU';rw[<-eV]at hV';have pU:=(XF.1 hU').2.2;have pV:=(XF.1 hV').2.2;refine⟨Mz w1.srt w2.srt λa ha b hb=>?_,?_,?_⟩
 ·have kP:=(w1.st.mem hs).2 ha;have hb':=(w2.st.mem hs).2 hb;rcases WT.1 kP with x | x<;>rcases WT.1 hb' with y | y
  exact pU a x b y;exact h2 a x b y;exact hs.asy _ _ (h1 b y a x);exact pV a x b y
 ·refine FL.trans ?_ (w1.st.app w2.st);have e1:U++V=U.take i++((U.drop i++V.take k)++V.drop k):=by
   conv=>lhs;rw[<-eU,<-eV]
   simp only[WD]
  have e2:U.take i++V.take k++(U.drop i++V.drop k)=U.take i++((V.take k++U.drop i)++V.drop k):=by simp only[WD]
  rw[e1,e2];exact(FL.refl _).app ((FL.swap hs h1).app (.refl _))
 rw[WC,w1.len,w2.len,WC,WC,WC,WN,WN,WS,WS];omega
section
variable {U V A B:List α}{a m b mid s0 r0 s:Nat}
def SR (lt:α->α->Bool)(l:List α)(P:Nat)(c:Nat):Bool:=!Ji lt l (P-c) c
theorem Vqa (ha:A.length=a){c:Nat}(h1:a<=c)(h2:c<a+U.length):(A++(U++(V++B)))[c]? = some (U[c-a]'(by omega)):=by rw[WX (by omega),W8 (by omega),ha,W4]
theorem VpL (ha:A.length=a)(hm:a+U.length=m){c:Nat}(h1:m<=c)(h2:c<m+V.length):(A++(U++(V++B)))[c]? = some (V[c-m]'(by omega)):=by rw[WX (by omega),WX (by omega),W8 (by omega),show c-A.length-U.length=c-m by omega,W4]
theorem Sq (ha:A.length=a)(hm:a+U.length=m){P c:Nat}(h1:a<=c)(h2:c<m)(h3:m<=P-c)(h4:P-c<m+V.length):SR lt (A++(U++(V++B))) P c = !lt (V[P-c-m]'(by omega)) (U[c-a]'(by omega)):=by unfold SR Ji;rw[VpL ha hm h3 h4,Vqa ha h1 (by omega)]
theorem Vev (hs:SW lt)(hU:EI lt U)(hV:EI lt V)(ha:A.length=a)(hm:a+U.length=m){P c d:Nat}(h1:a<=c)(wP:c<=d)(h2:d<m)(h3:m<=P-d)(h4:P-c<m+V.length)
  (h:SR lt (A++(U++(V++B))) P d=true):SR lt (A++(U++(V++B))) P c=true:=by
 rw[Sq ha hm (by omega) h2 h3 (by omega)]at h;rw[Sq ha hm h1 (by omega) (by omega) h4];simp only[X7]at h⊢;have u:=Ib hU hs (i:=c-a) (j:=d-a) (by omega) (by omega);have v:=Ib hV hs (i:=P-d-m) (j:=P-c-m) (by omega) (by omega);exact hs.neg _ _ _ v (hs.neg _ _ _ h u)
theorem Ves (hs:SW lt)(hU:EI lt U)(hV:EI lt V)(ha:A.length=a)(hm:a+U.length=m)(hb:m+V.length=b)(jQ:mid=(a+b) / 2)(hUp:0<U.length)(hVp:0<V.length)
  (h0:s0=if mid<m then mid+m-b else a)(hr:r0=if mid<m then mid else m)(k:BsI (SR lt (A++(U++(V++B))) (mid+m-1)) s0 r0 s s):(∀x∈U.drop (s-a),∀y∈V.take (mid-s),lt y x=true)/\(∀x∈U.take (s-a),∀y∈V.drop (mid-s),lt y x=false)/\a<=s/\s<=m/\s<=mid/\m<=mid+m-s/\mid+m-s<=b:=by
 obtain⟨⟨k1,_,k2⟩,k3,k4⟩:=k;have jN:a<=s/\s<=m/\s<=mid/\mid+m-s<=b:=by by_cases hc:mid<m;rw[if_pos hc]at h0 hr;omega;rw[if_neg hc]at h0 hr;omega
 refine⟨λx hx y hy=>?_,λx hx y hy=>?_,by omega,by omega,by omega,by omega,by omega⟩
 ·obtain⟨i,hi,hi2,rfl⟩:=IC hx;obtain⟨j,hj,mR,rfl⟩:=IB hy;have hlt:s<r0:=by by_cases hc:mid<m;rw[if_pos hc]at hr;omega;rw[if_neg hc]at hr;omega
  have:=k4 s (W7 _) hlt;rw[Sq ha hm (by omega) (by omega) (by omega) (by omega)]at this;simp only[YS]at this;have u:=Ib hU hs (i:=s-a) (j:=i) hi2 hi;have v:=Ib hV hs (i:=j) (j:=mid+m-1-s-m) (by omega) (by omega);cases e:lt V[j] U[i]with|true=>rfl|false=>have h9:=hs.neg _ _ _ v (hs.neg _ _ _ e u);rw[h9]at this;cases this
 ·obtain⟨i,hi,hi2,rfl⟩:=IB hx;obtain⟨j,hj,mR,rfl⟩:=IC hy;have hlt:s0<s:=by by_cases hc:mid<m;rw[if_pos hc]at h0;omega;rw[if_neg hc]at h0;omega
  have:=k3 (s-1) (by omega) (by omega);rw[Sq ha hm (by omega) (by omega) (by omega) (by omega)]at this;simp only[X7]at this;have u:=Ib hU hs (i:=i) (j:=s-1-a) (by omega) (by omega);have v:=Ib hV hs (i:=mid+m-1-(s-1)-m) (j:=j) (by omega) hj;exact hs.neg _ _ _ v (hs.neg _ _ _ this u)

end
theorem VnH (hs:SW lt){x:α}{V:List α}{k:Nat}(hV:EI lt V)(h1:∀y∈V.take k,lt y x=true)(h2:∀y∈V.drop k,lt y x=false):Srt lt ([x]++V) (V.take k++([x]++V.drop k)):=by
 have:=Qq (U:=[x]) (V:=V) (i:=0) (k:=k) (W1:=V.take k) (W2:=[x]++V.drop k) hs (XD _ _) hV (λa ha y hy=>by
  have:a=x:=by simpa using ha
  rw[this];exact h1 y hy) (λa ha=>by simp at ha) ⟨XK (YW k V) hV,FL.refl _,rfl⟩
  ⟨Mz (XD _ _) (XK (Za k V) hV) λa ha y hy=>by rw[WR]at ha;rw[ha];exact h2 y hy,.refl _,rfl⟩
 exact this
theorem VnI (hs:SW lt){y:α}{U:List α}{i:Nat}(hU:EI lt U)(h1:∀x∈U.take i,lt y x=false)(h2:∀x∈U.drop i,lt y x=true):Srt lt (U++[y]) (U.take i++([y]++U.drop i)):=by
 have:=Qq (U:=U) (V:=[y]) (i:=i) (k:=1) (W1:=U.take i++[y]) (W2:=U.drop i) hs hU (XD _ _) (λx hx a ha=>by
  have:a=y:=by simpa using ha
  rw[this];exact h2 x hx) (λx hx a ha=>by simp at ha)
  ⟨Mz (XK (YW i U) hU) (XD _ _) λa ha x hx=>by rw[WR]at hx;rw[hx];exact h1 a ha,.refl _,rfl⟩
  ⟨XK (Za i U) hU,by simpa using FL.refl _,by simp⟩
 simpa using this
def upR (a:Nat):Nat->List α->List α
 |0,l=>l
 |k+1,l=>swp (upR a k l) (a+k) (a+k+1)
def dnR (m:Nat):Nat->List α->List α
 |0,l=>l
 |k+1,l=>swp (dnR m k l) (m-k) (m-k-1)
theorem VjG (A B:List α)(x:α)(V:List α):∀k,k<=V.length->upR A.length k (A++([x]++(V++B)))=A++((V.take k++([x]++V.drop k))++B)
 |0,_=>by simp[upR]
 |k+1,hk=>by
  have rY:k<V.length:=hk;unfold upR;rw[VjG A B x V k (by omega)];have e:A++((V.take k++([x]++V.drop k))++B)=(A++V.take k)++x::([]++V[k]::(V.drop (k+1)++B)):=by rw[Xb rY];simp only[WD,List.cons_append,List.nil_append]
  have h1:(V.take k).length=k:=by rw[WN];omega
  rw[e,(Sr (A++V.take k) [] (V.drop (k+1)++B) x V[k] (by rw[WC,h1]) (by rw[WC,h1];rfl)).1,WF rY];simp only[WD,List.cons_append,List.nil_append]
theorem Vkt (A B:List α)(y:α)(U:List α):∀k,k<=U.length->dnR (A.length+U.length) k (A++(U++([y]++B)))=A++((U.take (U.length-k)++([y]++U.drop (U.length-k)))++B)
 |0,_=>by simp[dnR]
 |k+1,hk=>by
  unfold dnR;rw[Vkt A B y U k (by omega)];obtain⟨i,hi⟩:∃i,U.length=i+(k+1):=⟨U.length-(k+1),by omega⟩;have h2:U.length-k=i+1:=by omega
  have h3:U.length-(k+1)=i:=by omega
  have yI:i<U.length:=by omega
  rw[h2,h3];have h1:(U.take i).length=i:=by rw[WN];omega
  have e:A++((U.take (i+1)++([y]++U.drop (i+1)))++B)=(A++U.take i)++U[i]::([]++y::(U.drop (i+1)++B)):=by rw[WF yI];simp only[WD,List.cons_append,List.nil_append]
  rw[e,(Sr (A++U.take i) [] (U.drop (i+1)++B) U[i] y (i:=A.length+U.length-k-1) (j:=A.length+U.length-k) (by rw[WC,h1];omega) (by rw[WC,h1];simp;omega)).2,Xb yI];simp only[WD,List.cons_append,List.nil_append]

end
section
variable {α:Type}{lt:α->α->Bool}
def Om (lt:α->α->Bool)(w:Nat)(l:List α):Prop:=∀(i j:Nat)(hj:j<l.length)(hi:i<j),i / w=j / w->lt l[j] (l[i]'(by omega))=false
structure Stg (lt:α->α->Bool)(w:Nat)(l:List α)(a:Nat)(l':List α):Prop where
 ex:∃P,l'=P++l.drop a/\P.length=a/\FL lt (l.take a) P/\Om lt w P
theorem Stg.start (w:Nat)(l:List α):Stg lt w l 0 l:=⟨⟨[],by simp,rfl,by simpa using FL.refl _,λi j hj=>by simp at hj⟩⟩
theorem Stg.len {w:Nat}{l l':List α}{a:Nat}(h:Stg lt w l a l')(ha:a<=l.length):l'.length=l.length:=by obtain⟨P,rfl,hP,_,_⟩:=h.ex;rw[WC,hP,WS];omega
theorem Uj {w a i:Nat}(hw:0<w)(hd:w ∣ a)(hi:i<w):(a+i) / w=a / w:=by obtain⟨q,rfl⟩:=hd;rw[Nat.mul_add_div hw,Nat.mul_div_cancel_left _ hw,XX hi];omega
theorem Vjq {w a i:Nat}(hw:0<w)(hd:w ∣ a)(hi:i<a):i / w<a / w:=by obtain⟨q,rfl⟩:=hd;rw[Nat.mul_div_cancel_left _ hw];rw[XT hw,XG];exact hi
theorem Om.app {w:Nat}{P S:List α}(hw:0<w)(hd:w ∣ P.length)(h:Om lt w P)(hS:EI lt S):S.length<=w->Om lt w (P++S):=by intro hl i j hj hi he;rw[WC]at hj;by_cases h1:j<P.length;rw[Zb h1,Zb (by omega)];exact h i j h1 hi he;by_cases h2:i<P.length;have e1:=Vjq hw hd h2;have e2:=Uj hw hd (show j-P.length<w by omega);rw[show P.length+(j-P.length)=j by omega]at e2;omega;rw[XA (by omega),XA (by omega)];exact Yr.1 hS (i-P.length) (j-P.length) (by omega) (by omega) (by omega)
theorem Stg.all {w:Nat}{l l':List α}(h:Stg lt w l l.length l'):FL lt l l'/\Om lt w l'/\l'.length=l.length:=by obtain⟨P,h1,hP,hst,hb⟩:=h.ex;rw[XQ (W7 _),WU]at h1;rw[WH (W7 _)]at hst;subst h1;exact⟨hst,hb,hP⟩
theorem Om.block {w a:Nat}{l:List α}(hw:0<w)(hd:w ∣ a)(h:Om lt w l)(n:Nat)(hn:n<=w):EI lt ((l.drop a).take n):=by refine Yr.2 λi j hi hj hij=>?_;rw[WN,WS]at hi hj;rw[YY,YY,Y3,Y3];refine h (a+i) (a+j) (by omega) (by omega) ?_;rw[Uj hw hd (by omega),Uj hw hd (by omega)]
theorem Om.whole {w:Nat}{l:List α}(hw:l.length<=w)(h:Om lt w l):EI lt l:=by refine Yr.2 λi j hi hj hij=>h i j hj hij ?_;rw[XX (by omega),XX (by omega)]
theorem O6 (hs:SW lt):∀l m:List α,(l.Pairwise λa b=>lt a b=true)->(m.Pairwise λa b=>lt a b=true)->(∀a,a∈l↔a∈m)->l=m
 |[],m,_,_,h=>by cases m with|nil=>rfl|cons y m=>have:=(h y).2 (by simp);cases this
 |x::l,m,hl,hm,h=>by
  cases m with
  |nil=>have:=(h x).1 (by simp);cases this
  |cons y m=>
   rw[Yz]at hl hm;have hxy:x=y:=(by rcases Xs.1 ((h x).1 (by simp))with e | e;exact e;rcases Xs.1 ((h y).2 (by simp))with e' | e';exact e'.symm;have a1:=hm.1 x e;have a2:=hl.1 y e';rw[hs.asy _ _ a1]at a2;cases a2);subst hxy
   congr 1
   refine O6 hs l m hl.2 hm.2 λa=>?_;have ne:∀ {k:List α},(∀a∈k,lt x a=true)->a∈k->a≠x:=λhk ha e=>(by have:=hk a ha;rw[e,hs.irr]at this;cases this);constructor;intro ha;rcases Xs.1 ((h a).1 (by simp[ha]))with e | e;exact absurd e (ne hl.1 ha);exact e;intro ha;rcases Xs.1 ((h a).2 (by simp[ha]))with e | e;exact absurd e (ne hm.1 ha);exact e
def cpF (lt:α->α->Bool):α->List α->List α
 |_,[]=>[]
 |x,y::t=>if BI lt y x then cpF lt y t else y::cpF lt y t
def cpL (lt:α->α->Bool):List α->List α
 |[]=>[]
 |x::t=>x::cpF lt x t
theorem Vkv (hs:SW lt):∀(t:List α)(x:α),EI lt (x::t)->((cpF lt x t).Pairwise λa b=>lt a b=true)/\(∀z∈cpF lt x t,lt x z=true)/\∀z,z∈cpF lt x t↔BI lt z x=false/\(t.filter (BI lt z)).head? = some z
 |[],x,h=>⟨List.Pairwise.nil,λz (hz:z∈[])=>(by cases hz),λz=>(by simp[cpF])⟩
 |y::t,x,h=>by
  have h':=h;unfold EI at h';rw[Yz]at h';obtain⟨hx,ht⟩:=h';obtain⟨i1,i2,i3⟩:=Vkv hs t y ht;have zD:=hx y (by simp);unfold cpF;by_cases he:BI lt y x=true;rw[if_pos he];have gO:=TY hs he;rw[Gq]at he;have hlt:∀z∈cpF lt y t,lt x z=true:=λz hz=>(by cases e:lt x z with|true=>rfl|false=>have:=hs.neg y x z he.1 e;rw[i2 z hz]at this;cases this);refine⟨i1,hlt,λz=>?_⟩;rw[i3 z];have e1:BI lt z y=BI lt z x:=(by rw[WP,Gq,Gq];exact⟨λ⟨p,q⟩=>⟨hs.neg _ _ _ p he.1,hs.neg _ _ _ he.2 q⟩,λ⟨p,q⟩=>⟨hs.neg _ _ _ p he.2,hs.neg _ _ _ he.1 q⟩⟩);rw[e1];constructor;rintro⟨a,b⟩;refine⟨a,?_⟩;rw[Xy,if_neg (by rw[e1,a];decide)];exact b;rintro⟨a,b⟩;refine⟨a,?_⟩;rw[Xy,if_neg (by rw[e1,a];decide)]at b;exact b
  ·rw[if_neg he];have hxy:lt x y=true:=(by cases e:lt x y with|true=>rfl|false=>exact absurd (Gq.2 ⟨zD,e⟩) he);have hlt:∀z∈cpF lt y t,lt x z=true:=λz hz=>(by cases e:lt x z with|true=>rfl|false=>have:=hs.neg x z y e (hs.asy _ _ (i2 z hz));rw[hxy]at this;cases this);refine⟨Yz.2 ⟨i2,i1⟩,λz hz=>?_,λz=>?_⟩;rcases Xs.1 hz with e | e;rw[e];exact hxy;exact hlt z e
   ·rw[Xs,i3 z,Xy];by_cases oV:BI lt z y=true;rw[if_pos oV];have mC:BI lt z x=false:=(by cases e:BI lt z x with|false=>rfl|true=>rw[Gq]at e oV;have:=hs.neg x z y e.2 oV.1;rw[hxy]at this;cases this);rw[mC,oV];simp only[List.head?_cons,WE,Zu,false_and,or_false,true_and];exact⟨λh=>h.symm,λh=>h.symm⟩
    ·rw[if_neg oV];have kZ:BI lt z y=false:=(by simpa using oV);rw[kZ];have hne:z≠y:=λe=>(by rw[e,MS hs]at kZ;cases kZ);simp only[hne,false_or,true_and];constructor;intro hb;refine⟨?_,hb⟩;have hz:z∈cpF lt y t:=(i3 z).2 ⟨kZ,hb⟩;cases e:BI lt z x with|false=>rfl|true=>rw[Gq]at e;have:=hlt z hz;rw[e.2]at this;cases this
     exact λh=>h.2
theorem Vog (hs:SW lt){l:List α}(h:EI lt l):((cpL lt l).Pairwise λa b=>lt a b=true)/\∀z,z∈cpL lt l↔(l.filter (BI lt z)).head? = some z:=by
 cases l with
 |nil=>exact⟨List.Pairwise.nil,λz=>by simp[cpL]⟩
 |cons x t=>obtain⟨i1,i2,i3⟩:=Vkv hs t x h;refine⟨Yz.2 ⟨i2,i1⟩,λz=>?_⟩;show z∈x::cpF lt x t↔_;rw[Xs,i3 z,Xy];by_cases mC:BI lt z x=true;rw[if_pos mC,mC];simp only[List.head?_cons,WE,Zu,false_and,or_false];exact⟨λh=>h.symm,λh=>h.symm⟩;rw[if_neg mC];have hne:z≠x:=λe=>(by rw[e,MS hs]at mC;exact mC rfl);simp only[hne,false_or];exact⟨λh=>h.2,λh=>⟨by simpa using mC,h⟩⟩

end
def Dz (L:List Nd)(i:Nat)(x:Nd)(c:Int):Bool:=
 decide (0<=c)&&(decide (x.lv=1->c<=255))&&decide (1<x.lv->0<c->c<=i/\∀y,L[(c-1).toNat]? = some y->y.lv=x.lv-1)
def GI (L:List Nd)(i:Nat):Bool:=
 match L[i]? with
 |some x=>decide (1<=x.lv/\x.lv<=1329)&&(List.range 4).all λk=>Dz L i x (x.kid k)
 |none=>true
def AF (L:List Nd):Bool:=(List.range L.length).all (GI L)
theorem VA (L:List Nd)(tk:Tok)(H:Aa)(hL:L.length<1152921504606846976):Ubq (.sl (enL cNd L) tk) H=some (.ret (.bool (AF L)),H):=by
 unfold Ubq;rw[show AF L=(List.range L.length).all (GI L) from rfl];have:=Eh L.length (GI L) (λi=>[.sl (enL cNd L) tk,.i6 (i:Int)]) H (some (.ret (.bool true),H)) (some (.ret (.bool false),H)) hL (λrec i hi=>?_) (λrec=>?_)
  (G:=λrec1 vs H1=>UcG H rec1 (ag vs 0) (ag vs 1) H1)
 refine this.trans ?_;cases(List.range L.length).all (GI L)<;>rfl
 ·have hx:(i:Int)<(L.length:Int):=by omega
  have hg:L[i]? = some L[i]:=W4 hi;unfold UcG;simp only[Ao,Bf,Aw,BA,Bn,hx,decide_true,AZ,Ay hi,Aq,A5,Nat.add_zero,Cy];by_cases h1:L[i].lv<1;have:GI L i=false:=(by simp only[GI,hg];simp;intro;omega);simp[h1,this]
  ·by_cases h2:L[i].lv>1329;have:GI L i=false:=(by simp only[GI,hg];simp;intro;omega);simp[h1,h2,this,Ay hi]
   ·have hd:GI L i=(List.range 4).all λk=>Dz L i L[i] (L[i].kid k):=(by simp only[GI,hg];rw[zXc (by omega)];rfl);simp only[h1,h2,decide_false,LQ,BA,DF,Ch,AL,hd,A5,Nat.add_zero,Cy,Aq,Ay hi];have:=Eh 4 (λk=>Dz L i L[i] (L[i].kid k)) (λk=>[.sl (enL cNd L) tk,.i6 (i:Int),.i6 (k:Int)]) H (rec [.sl (enL cNd L) tk,.i6 ((i+1:Nat):Int)] H) (some (.ret (.bool false),H)) (by decide) (λaA k hk=>?_) (λaA=>?_)
     (G:=λaA vs H1=>UcF H rec aA (ag vs 0) (ag vs 1) (ag vs 2) H1)
    exact this
    ·have hk':(k:Int)<4:=(by omega);unfold UcF;simp only[Ao,Bf,Bj,BA,Bn,hk',decide_true,AZ,Ay hi,Aq,EZ hk,A5,W9,WK,EG hk,Cy,Au (show k<9223372036854775807 by omega),CP,Dy,DF];generalize L[i].kid k=c;generalize hx':L[i]=x at h1 h2⊢;by_cases hc:c<0;have:Dz L i x c=false:=(by simp[Dz];omega);simp[hc,this,Ay hi,hx']
     ·obtain⟨n,rfl⟩:=X3 (show 0<=c by omega);by_cases hl:x.lv=1;by_cases sT:255<n;have:Dz L i x n=false:=(by simp[Dz,hl];omega);have oR:(255:Int)<n:=(by omega);simp[hc,hl,sT,oR,this,Ay hi,hx'];have:Dz L i x n=true:=(by simp[Dz,hl];omega);have oR:¬(255:Int)<n:=(by omega);simp[hc,hl,sT,oR,this,Ay hi,hx']
      ·have cM:1<x.lv:=(by omega);by_cases hn:0<n;by_cases qY:i<n;have:Dz L i x n=false:=(by unfold Dz;rw[Yp];right;rw[decide_eq_false_iff_not];intro h;have:=(h cM (by omega)).1;omega);simp[hc,hl,cM,hn,qY,this,Ay hi,hx'];have hlt:n-1<L.length:=(by omega);have e1:((n:Int)-1).toNat=n-1:=(by omega);have hk2:Dz L i x n=decide (L[n-1].lv=x.lv-1):=(by unfold Dz;rw[e1,W4 hlt,WP];simp only[WG,zXe,WE,forall_eq'];constructor;intro h;exact(h.2 cM (by omega)).2;intro h;exact⟨⟨by omega,by omega⟩,λ_ _=>⟨by omega,h⟩⟩);have hw:IntKind.i64.wrap (x.lv-1)=x.lv-1:=Am (by omega) (by omega);simp[hc,hl,cM,hn,qY,hk2,HA (show 0<n by omega) (by omega),Ay hlt,Ay hi,hx',hw];by_cases he:L[n-1].lv=x.lv-1<;>simp[he]
       have:Dz L i x n=true:=(by unfold Dz;simp only[WG,zXe];exact⟨⟨by omega,by omega⟩,λ_ _=>by omega⟩);simp[hc,hl,cM,hn,this,Ay hi,hx']
    unfold UcF;simp[Au (show i<9223372036854775807 by omega)]
 unfold UcG;simp
theorem AQ {L:List Nd}(h:AF L=true){i:Nat}(hi:i<L.length):1<=L[i].lv/\L[i].lv<=1329/\∀k,k<4->0<=L[i].kid k/\(L[i].lv=1->L[i].kid k<=255)/\(1<L[i].lv->0<L[i].kid k->L[i].kid k<=i/\∀y,L[(L[i].kid k-1).toNat]? = some y->y.lv=L[i].lv-1):=by have h1:=WO.1 h i (by simpa using hi);simp only[GI,W4 hi,WG,zXe,WO]at h1;refine⟨h1.1.1,h1.1.2,λk hk=>?_⟩;have h2:=h1.2 k (by simpa using hk);simp only[Dz,WG,zXe]at h2;exact⟨h2.1.1,h2.1.2,h2.2⟩
def Md (E:List Bool)(x:Nd):Bool:=(List.range 4).all λk=>decide (x.kid k=0)||(decide (1<x.lv)&&E.getD (x.kid k).toNat true)
def A3 (L:List Nd):List Bool:=L.foldl (λE x=>E++[Md E x]) [true]
theorem HL (L:List Nd)(x:Nd):A3 (L++[x])=A3 L++[Md (A3 L) x]:=by simp[A3]
theorem CY (L:List Nd):(A3 L).length=L.length+1:=by
 rcases HE L with rfl | ⟨l,a,rfl⟩
 ·rfl
 rw[HL];have:=CY l;simp[this]
termination_by L.length
decreasing_by (subst_vars;simp)
theorem Wm (L:List Nd){i:Nat}(hi:i<L.length):A3 (L.take (i+1))=A3 (L.take i)++[Md (A3 (L.take i)) L[i]]:=by rw[WF hi,HL]
theorem JC (L:List Nd)(tk:Tok)(H:Aa)(hL:L.length<140737488355327)(hl:AF L=true):Uan (.sl (enL cNd L) tk) H=some (.ret (.sl (enL cB (A3 L)) .no),H):=by
 have dC:=FB (f:=cB) (a:=false) (n:=L.length+1) (bytes:=1) (H:=H) (by omega) (by omega);have hid:=Db (sz:=1) (id:=H.length) (n:=L.length+1) (K:=.i64) (g:=0) (off:=0) (cap:=L.length+1) (ex:=true) (i:=0) (by omega);have hst:=Ee (f:=cB) (sz:=1) (l:=List.replicate (L.length+1) false) (i:=0) (a:=true) (v:=.bool true) (H:=H++[.c0 (flat cB (List.replicate (L.length+1) false))]) (id:=H.length) (by simp) (by simp) rfl;unfold Uan;simp only[Aw,BA,CP,Au (show L.length<9223372036854775807 by omega),dC,Br];simp only[YO,Nat.add_zero]at hid;rw[show((0:Nat):Int)=0 from rfl]at hid;simp only[YO]at hst;rw[hid];simp only[BA,hst,AM,CQ,Vy,Vw];have key:=Cx (G:=λrec1 vs H1=>UcI H rec1 (ag vs 0) (ag vs 1) (ag vs 2) H1) L.length (λi=>[.sl (enL cNd L) tk,.ms H.length 0 0 (L.length+1) (L.length+1) 1 true,.i6 (i:Int)]) (λi=>H++[.c0 (flat cB (A3 (L.take i)++List.replicate (L.length-i) false))]) (some (.ret (.sl (enL cB (A3 L)) .no),H)) (by omega) (λrec i hi=>?_) (λrec=>?_)
 ·have e:(List.replicate (L.length+1) false).set 0 true=A3 (L.take 0)++List.replicate (L.length-0) false:=by simp[zXm,A3]
  rw[e];exact key
 ·have aE:(i:Int)<(L.length:Int):=by omega
  obtain⟨l1,l2,l3⟩:=AQ hl hi;have hEl:(A3 (L.take i)).length=i+1:=by rw[CY];simp;omega
  unfold UcI;simp only[Ao,Bf,Bj,Aw,BA,Bn,aE,decide_true,AZ];have hs:∀k,k<4->1<L[i].lv->(A3 (L.take i)++List.replicate (L.length-i) false).getD (L[i].kid k).toNat true=(A3 (L.take i)).getD (L[i].kid k).toNat true:=by intro k hk h1;obtain⟨q1,q2,q3⟩:=l3 k hk;have:(L[i].kid k).toNat<(A3 (L.take i)).length:=(by rw[hEl];by_cases h0:0<L[i].kid k;have:=(q3 h1 h0).1;omega;omega);simp only[W6,W8 this]
  have hb:∀k,k<4->1<L[i].lv->(L[i].kid k).toNat<L.length+1:=by intro k hk h1;obtain⟨q1,q2,q3⟩:=l3 k hk;by_cases h0:0<L[i].kid k;have:=(q3 h1 h0).1;omega;omega
  have hEs:Md (A3 (L.take i)) L[i]=(List.range 4).all λk=>decide (L[i].kid k=0)||(decide (1<L[i].lv)&&(A3 (L.take i)++List.replicate (L.length-i) false).getD (L[i].kid k).toNat true):=by unfold Md;rw[Is,Is];by_cases h1:1<L[i].lv;simp only[hs 0 (by omega) h1,hs 1 (by omega) h1,hs 2 (by omega) h1,hs 3 (by omega) h1];simp only[h1,decide_false,Xw]
  have aI:(A3 (L.take i)++List.replicate (L.length-i) false).set (i+1) (Md (A3 (L.take i)) L[i])=A3 (L.take (i+1))++List.replicate (L.length-(i+1)) false:=by rw[Wm L hi,Xl _ _ (by omega),hEl,Xi,show L.length-i=(L.length-(i+1))+1 from by omega,zXm,List.set_cons_zero];simp
  have hlen:(A3 (L.take i)++List.replicate (L.length-i) false).length=L.length+1:=by simp[hEl];omega
  rw[<-aI,hEs];generalize A3 (L.take i)++List.replicate (L.length-i) false=E at hlen;generalize hx:L[i]=x at l1 l2 l3 hb;have iZ:AC (H++[.c0 (flat cB E)]) H.length 0=some (flat cB E):=by simp
  refine Cx (G:=λaA vs H1=>UcH H rec aA (ag vs 0) (ag vs 1) (ag vs 2) (ag vs 3) (ag vs 4) H1) 4 (λk=>[.sl (enL cNd L) tk,.ms H.length 0 0 (L.length+1) (L.length+1) 1 true,.i6 (i:Int),.bool ((List.range k).all λk=>decide (x.kid k=0)||(decide (1<x.lv)&&E.getD (x.kid k).toNat true)),.i6 (k:Int)]) (λ_=>H++[.c0 (flat cB E)]) _ (by decide) (λaA k hk=>?_) (λaA=>?_)
  ·have hk':(k:Int)<4:=(by omega);obtain⟨q1,q2,q3⟩:=l3 k hk;have hb':=hb k hk;unfold UcH;have qC:((List.range (k+1)).all λk=>decide (x.kid k=0)||(decide (1<x.lv)&&E.getD (x.kid k).toNat true))=(((List.range k).all λk=>decide (x.kid k=0)||(decide (1<x.lv)&&E.getD (x.kid k).toNat true))&&(decide (x.kid k=0)||(decide (1<x.lv)&&E.getD (x.kid k).toNat true))):=(by rw[Y2,Zl];simp);rw[qC];generalize ((List.range k).all λk=>decide (x.kid k=0)||(decide (1<x.lv)&&E.getD (x.kid k).toNat true))=e;simp only[Ao,Bf,Bj,B6,BQ,BA,Bn,hk',decide_true,AZ,Ay hi,hx,Aq,EZ hk,A5,W9,WK,EG hk,Cy,Au (show k<9223372036854775807 by omega),CP,Dy,DF];obtain⟨n,hn⟩:=X3 q1;rw[hn]at hb'⊢;simp only[zXl]at hb'⊢;cases e with
   |false=>simp
   |true=>by_cases h0:n=0;subst h0;simp;by_cases h1:1<x.lv;have lM:n<E.length:=(by rw[hlen];exact hb' h1);have jW:=Db (sz:=1) (id:=H.length) (n:=L.length+1) (K:=.i64) (g:=0) (off:=0) (cap:=L.length+1) (ex:=true) (i:=n) (hb' h1);simp only[W9,WK]at jW;have hld:=ID (f:=cB) iZ lM;simp[h0,h1,hx,Ay hi,jW,hld,W4 lM];simp[h0,h1,hx,Ay hi]
  have jW:=Db (sz:=1) (id:=H.length) (n:=L.length+1) (K:=.i64) (g:=0) (off:=0) (cap:=L.length+1) (ex:=true) (i:=i+1) (by omega);simp only[W9,WK]at jW;have gG:=Ee (f:=cB) (sz:=1) (l:=E) (i:=i+1) (a:=(List.range 4).all λk=>decide (x.kid k=0)||(decide (1<x.lv)&&E.getD (x.kid k).toNat true)) (H:=H++[.c0 (flat cB E)]) (id:=H.length) iZ (by omega) (v:=.bool ((List.range 4).all λk=>decide (x.kid k=0)||(decide (1<x.lv)&&E.getD (x.kid k).toNat true))) rfl;simp only[WK]at gG;unfold UcH;have hf:¬(((4:Nat):Int)<4):=(by decide);simp only[Ao,Bf,Bj,B6,BQ,BA,Bn,hf,decide_false,AL,CP,Au (show i<9223372036854775807 by omega),jW,gG,AM,CQ,Vy,Vw]
 ·unfold UcI;have iZ:AC (H++[.c0 (flat cB (A3 L))]) H.length 0=some (flat cB (A3 L)):=by simp
  have eC:=Vbl (f:=cB) (b:=H.length) (d:=5) (cap:=L.length+1) (ex:=true) iZ (W7 _);rw[CY]at eC;have ht:L.take L.length=L:=WH (W7 _);simp only[Ao,Bf,Bj,Aw,BA,Bn,Xm,decide_false,AL,ht,Xi,List.replicate_zero,WU,C8,eC,zXb]
theorem VC (L:List Nd)(tk:Tok)(n:Nat)(H:Aa)(hL:L.length<140737488355327)(hl:AF L=true)(hn:n<=L.length):Udz (.sl (enL cNd L) tk) (.i6 (n:Int)) H=some (.ret (.bool ((A3 L).getD n true)),H):=by
 have hlt:n<(A3 L).length:=by rw[CY];omega
 unfold Udz;simp[JC L tk H hL hl,Ay hlt,W6,W4 hlt]
def A8 (L:List Nd)(c:Int):Nd:=L.getD (c-1).toNat ⟨0,0,0,0,0⟩
def P4 (L:List Nd)(E:List Bool)(x:Nd)(k j:Nat):Bool:=
 decide (j=3-k)||(if x.lv=2 then decide ((A8 L (x.kid k)).kid j=0)else E.getD ((A8 L (x.kid k)).kid j).toNat true)
def hol (L:List Nd)(E:List Bool)(x:Nd):Bool:=
 (List.range 4).all λk=>decide (x.kid k=0)||(List.range 4).all (P4 L E x k)
def DQ (L:List Nd)(n:Nat):Bool:=
 decide (n≠0)&&decide (2<=(A8 L n).lv)&&hol L (A3 L) (A8 L n)
theorem E7 {L:List Nd}{c:Int}{n:Nat}(hc:c=((n+1:Nat):Int))(h:n<L.length):A8 L c=L[n]:=by
 have:(c-1).toNat=n:=by omega
 unfold A8;rw[this,W6,W4 h];rfl
theorem To (L:List Nd)(tk:Tok)(n:Nat)(H:Aa)(hL:L.length<140737488355327)(hl:AF L=true)(hn:n<=L.length):Ubs (.sl (enL cNd L) tk) (.i6 (n:Int)) H=some (.ret (.bool (DQ L n)),H):=by
 unfold Ubs DQ;cases n with
 |zero=>simp
 |succ n=>
  have hi:n<L.length:=hn;have e0:¬((n+1:Nat):Int)=0:=by omega
  obtain⟨l1,l2,l3⟩:=AQ hl hi;rw[E7 rfl hi];generalize hx:L[n]=x at l1 l2 l3;have hw:IntKind.i64.wrap (((n+1:Nat):Int)-1)=(n:Int):=by rw[Am]<;>omega
  simp only[Dy,Fa,e0,decide_false,BA,LQ,DE,hw,Ay hi,hx,Aq,A5,Nat.add_zero,Cy,Bn,Ch];by_cases h2:x.lv<2;have:¬2<=x.lv:=(by omega);simp[h2,this]
  ·have oT:2<=x.lv:=(by omega);simp only[h2,oT,decide_false,AL,JC L tk H hL hl,F3,decide_true,ne_eq,Yy,not_false_eq_true,zXn];have key:=Eh (G:=λrec1 vs H1=>UcJ H rec1 (ag vs 0) (ag vs 1) (ag vs 2) (ag vs 3) H1) 4 (λk=>decide (x.kid k=0)||(List.range 4).all (P4 L (A3 L) x k))
    (λk=>[.sl (enL cNd L) tk,.i6 ((n+1:Nat):Int),.sl (enL cB (A3 L)) .no,.i6 (k:Int)]) H (some (.ret (.bool true),H)) (some (.ret (.bool false),H)) (by decide) (λrec k hk=>?_) (λrec=>?_)
   refine key.trans ?_;rw[show hol L (A3 L) x=(List.range 4).all λk=>decide (x.kid k=0)||(List.range 4).all (P4 L (A3 L) x k) from rfl];cases(List.range 4).all λk=>decide (x.kid k=0)||(List.range 4).all (P4 L (A3 L) x k)<;>rfl
   ·have hk':(k:Int)<4:=(by omega);obtain⟨q1,q2,q3⟩:=l3 k hk;unfold UcJ;simp only[Ao,Bf,Bj,B6,BA,Bn,hk',decide_true,AZ,DE,hw,Ay hi,hx,Aq,EZ hk,A5,W9,WK,EG hk];have aK:IntKind.i64.wrap ((k:Int)+1)=((k+1:Nat):Int):=Au (by omega);by_cases hc:x.kid k=0;rw[Eg Fr];unfold Ubr;simp only[hc,decide_true,Yi,if_true,Ao,Bf,Bj,B6,BQ,DI,Bn,BA,show((0:Int)<4) from by decide,Hu,DF,show ¬((0:Int)>0) from by decide,decide_false,Cg,AL,CP,aK]
    ·obtain⟨m,hm⟩:∃m:Nat,x.kid k=((m+1:Nat):Int):=⟨(x.kid k-1).toNat,by omega⟩;have h1:1<x.lv:=(by omega);obtain⟨r1,r2⟩:=q3 h1 (by omega);have vH:m<n:=(by omega);have hml:m<L.length:=(by omega);have hy:=r2 L[m] (by rw[show(x.kid k-1).toNat=m from by omega];exact W4 hml);obtain⟨y1,y2,y3⟩:=AQ hl hml;have hE:∀j,j<4->2<x.lv->(L[m].kid j).toNat<(A3 L).length:=(by intro j hj h3;obtain⟨s1,s2,s3⟩:=y3 j hj;rw[CY];by_cases h0:0<L[m].kid j;have:=(s3 (by omega) h0).1;omega;omega);have hp:P4 L (A3 L) x k=λj=>decide (j=3-k)||(if x.lv=2 then decide (L[m].kid j=0)else (A3 L).getD (L[m].kid j).toNat true):=(by funext j;unfold P4;rw[E7 hm hml]);have dA:IntKind.i64.wrap (((m+1:Nat):Int)-1)=(m:Int):=(by rw[Am]<;>omega);have bU:¬((m+1:Nat):Int)=0:=(by omega);simp only[hp,hm,bU,decide_false,zXo];generalize zC:L[m]=y at y1 y2 y3 hy hE;refine Eh (G:=λaA vs H1=>Ubr H rec aA (ag vs 0) (ag vs 1) (ag vs 2) (ag vs 3) (ag vs 4) (ag vs 5) H1) 4 _
      (λj=>[.sl (enL cNd L) tk,.i6 ((n+1:Nat):Int),.sl (enL cB (A3 L)) .no,.i6 (k:Int),.i6 ((m+1:Nat):Int),.i6 (j:Int)]) H _ _ (by decide) (λaA j hj=>?_) (λaA=>?_)
     have hj':(j:Int)<4:=(by omega);have hm0:((m+1:Nat):Int)>0:=(by omega);have jJ:IntKind.i64.wrap (3-(k:Int))=3-(k:Int):=Am (by omega) (by omega);have sA:IntKind.i64.wrap ((j:Int)+1)=((j+1:Nat):Int):=Au (by omega);obtain⟨s1,s2,s3⟩:=y3 j hj;have hE':=hE j hj;unfold Ubr;simp only[Ao,Bf,Bj,B6,BQ,DI,Bn,BA,hj',decide_true,Hu,DF,hm0,Cg,AZ,DE,hw,dA,jJ,Ay hml,zC,Ay hi,hx,Aq,EZ hj,A5,W9,Nat.add_zero,WK,EG hj,Cy,IQ,LG,Dy,Fa,CP,sA];obtain⟨g,hg⟩:=X3 s1;rw[hg]at hE'⊢;simp only[zXl]at hE'⊢;by_cases yZ:j=3-k;have h3:(j:Int)=3-(k:Int):=(by omega);simp only[BA,Ao,Bf,Bj,B6,BQ,DI,Bn,DF,LH,IS,Dy,IQ,Fa,LG,CP,DE,IR,AZ,AL,Cg,Ch,Hu,LQ,RK,O0,Vkn,QJ,QM,QK,QL,Wc,Ry,Il,QW,QZ,QX,QY,Wf,QN,QQ,QO,QP,Wd,QR,QV,QS,QU,We,BF,AJ,decide_true,decide_false,Xo,X2,F3,CQ,Ou,Ez,JS,if_true,WB,if_false,IW,AM,D5,Br,zXo,Yi,zXp,Zi,zXc h3,zXc yZ,Yi];have h3:¬(j:Int)=3-(k:Int):=(by omega);simp only[yZ,h3,GMw,Aq,Ae,A5,W9,Nat.add_zero,WK,Cy,zXo];by_cases hx2:x.lv=2;have hx3:¬(2:Int)>2:=(by decide);by_cases yL:(g:Int)=0;simp only[BA,Ao,Bf,Bj,B6,BQ,DI,Bn,DF,LH,IS,Dy,IQ,Fa,LG,CP,DE,IR,AZ,AL,Cg,Ch,Hu,LQ,RK,O0,Vkn,QJ,QM,QK,QL,Wc,Ry,Il,QW,QZ,QX,QY,Wf,QN,QQ,QO,QP,Wd,QR,QV,QS,QU,We,BF,AJ,decide_true,decide_false,Xo,X2,F3,CQ,Ou,Ez,JS,if_true,WB,if_false,IW,AM,D5,Br,zXo,Yi,zXp,Zi,Aq,Ae,A5,W9,Nat.add_zero,WK,Cy,hw,Ay hi,hx,hx2,yL,hx3];simp only[BA,Ao,Bf,Bj,B6,BQ,DI,Bn,DF,LH,IS,Dy,IQ,Fa,LG,CP,DE,IR,AZ,AL,Cg,Ch,Hu,LQ,RK,O0,Vkn,QJ,QM,QK,QL,Wc,Ry,Il,QW,QZ,QX,QY,Wf,QN,QQ,QO,QP,Wd,QR,QV,QS,QU,We,BF,AJ,decide_true,decide_false,Xo,X2,F3,CQ,Ou,Ez,JS,if_true,WB,if_false,IW,AM,D5,Br,zXo,Yi,zXp,Zi,Aq,Ae,A5,W9,Nat.add_zero,WK,Cy,hw,Ay hi,hx,hx2,yL,hx3];have hx3:x.lv>2:=(by omega);have hlt:=hE' hx3;have eX:(A3 L).getD g true=(A3 L)[g]:=(by rw[W6,W4 hlt];rfl);simp only[BA,Ao,Bf,Bj,B6,BQ,DI,Bn,DF,LH,IS,Dy,IQ,Fa,LG,CP,DE,IR,AZ,AL,Cg,Ch,Hu,LQ,RK,O0,Vkn,QJ,QM,QK,QL,Wc,Ry,Il,QW,QZ,QX,QY,Wf,QN,QQ,QO,QP,Wd,QR,QV,QS,QU,We,BF,AJ,decide_true,decide_false,Xo,X2,F3,CQ,Ou,Ez,JS,if_true,WB,if_false,IW,AM,D5,Br,zXo,Yi,zXp,Zi,Aq,Ae,A5,W9,Nat.add_zero,WK,Cy,hw,Ay hi,hx,hx2,hx3,Ay hlt,eX,zXh];cases(A3 L)[g]<;>simp only[BA,Ao,Bf,Bj,B6,BQ,DI,Bn,DF,LH,IS,Dy,IQ,Fa,LG,CP,DE,IR,AZ,AL,Cg,Ch,Hu,LQ,RK,O0,Vkn,QJ,QM,QK,QL,Wc,Ry,Il,QW,QZ,QX,QY,Wf,QN,QQ,QO,QP,Wd,QR,QV,QS,QU,We,BF,AJ,decide_true,decide_false,Xo,X2,F3,CQ,Ou,Ez,JS,if_true,WB,if_false,IW,AM,D5,Br,zXo,Yi,zXp,Zi]
     have hf:¬(((4:Nat):Int)<4):=(by decide);unfold Ubr;simp only[Ao,Bf,Bj,B6,BQ,DI,Bn,BA,hf,decide_false,O0,RK,Ch,AL,CP,aK]
   have hf:¬(((4:Nat):Int)<4):=(by decide);unfold UcJ;simp only[Ao,Bf,Bj,B6,Bn,BA,hf,decide_false,AL,Ou]
theorem Vfh (L:List Nd)(tk:Tok)(n k:Nat)(H:Aa)(hL:L.length<140737488355327)(hl:AF L=true)(hn:n<L.length)(h2:2<=L[n].lv)(hk:k<4):Ud0 (.sl (enL cNd L) tk) (.i6 ((n+1:Nat):Int)) (.i6 (k:Int)) H=some (.ret (.i6 (if L[n].kid k=0 then 0 else (A8 L (L[n].kid k)).kid (3-k))),H):=by
 obtain⟨l1,l2,l3⟩:=AQ hl hn;obtain⟨q1,q2,q3⟩:=l3 k hk;have hw:IntKind.i64.wrap (((n+1:Nat):Int)-1)=(n:Int):=by rw[Am]<;>omega
 unfold Ud0;simp only[DE,BA,hw,Ay hn,Aq,EZ hk,A5,W9,WK,EG hk,Dy,Fa];by_cases hc:L[n].kid k=0;simp[hc]
 ·obtain⟨m,hm⟩:∃m:Nat,L[n].kid k=((m+1:Nat):Int):=⟨(L[n].kid k-1).toNat,by omega⟩;obtain⟨r1,r2⟩:=q3 (by omega) (by omega);have hml:m<L.length:=by omega
  have dA:IntKind.i64.wrap (((m+1:Nat):Int)-1)=(m:Int):=by rw[Am]<;>omega
  have jJ:IntKind.i64.wrap (3-(k:Int))=((3-k:Nat):Int):=by rw[Am]<;>omega
  simp only[hc,decide_false,AL,if_false,E7 hm hml];rw[hm];simp only[dA,jJ,BA,Ay hml,Aq,W9,EZ (show 3-k<4 by omega),A5,WK,EG (show 3-k<4 by omega),Ou]
def MU (rec:Nat->zAb->zAb)(x:Nd)(k:Nat)(out:zAb):zAb:=
 (List.range k).foldl (λo k=>if 1<x.lv/\0<x.kid k then rec (x.kid k).toNat o else o) out
def G5 (L:List Nd):Nat->Nat->zAb->zAb
 |0,_,out=>out
 |v+1,n,out=>if n∈out then out else MU (G5 L v) (A8 L n) 4 out++[n]
def O4 (N:Nat)(out:zAb):Prop:=out.Nodup/\∀x∈out,1<=x/\x<=N
theorem NB:∀(N:Nat)(out:zAb),O4 N out->out.length<=N
 |0,out,h=>by cases out with|nil=>simp|cons a l=>have:=h.2 a (by simp);omega
 |N+1,out,h=>by have h1:O4 N (out.erase (N+1)):=⟨h.1.erase _,λx hx=>by have:=(h.1.mem_erase_iff).1 hx;have:=h.2 x this.2;omega⟩;have:=NB N _ h1;rw[List.length_erase]at this;split at this<;>omega
theorem Rh (rec:Nat->zAb->zAb)(x:Nd)(k:Nat)(out:zAb):MU rec x (k+1) out=if 1<x.lv/\0<x.kid k then rec (x.kid k).toNat (MU rec x k out)else MU rec x k out:=by simp[MU,Y2]
theorem MT {rec:Nat->zAb->zAb}{x:Nd}{out:zAb}(P:zAb->Prop)(h0:P out)(hs:∀k o,k<4->1<x.lv->0<x.kid k->P o->P (rec (x.kid k).toNat o)):∀k,k<=4->P (MU rec x k out)
 |0,_=>h0
 |k+1,h=>by rw[Rh];split;rename_i hc;exact hs k _ (by omega) hc.1 hc.2 (MT P h0 hs k (by omega));exact MT P h0 hs k (by omega)
theorem Bd {L:List Nd}{n:Nat}(h:n<L.length):A8 L ((n+1:Nat):Int)=L[n]:=E7 rfl h
theorem S9 {L:List Nd}(hl:AF L=true):∀(v n:Nat)(out:zAb),1<=n->n<=L.length->O4 L.length out->O4 L.length (G5 L v n out)/\(∀x∈out,x∈G5 L v n out)/\∀x∈G5 L v n out,x∈out\/x<=n
 |0,n,out,h1,h2,ho=>⟨ho,λx hx=>hx,λx hx=>.inl hx⟩
 |v+1,n,out,h1,h2,ho=>by
  obtain⟨m,rfl⟩:∃m,n=m+1:=⟨n-1,by omega⟩;have hm:m<L.length:=by omega
  obtain⟨l1,l2,l3⟩:=AQ hl hm;simp only[G5];split;exact⟨ho,λx hx=>hx,λx hx=>.inl hx⟩
  ·rename_i hn;rw[Bd hm];have key:=MT (rec:=G5 L v) (x:=L[m]) (out:=out) (λo=>O4 L.length o/\(∀x∈out,x∈o)/\∀x∈o,x∈out\/x<=m) ⟨ho,λx hx=>hx,λx hx=>.inl hx⟩ (λk o hk aJ aZ hP=>by
    obtain⟨q1,q2,q3⟩:=l3 k hk;have:=(q3 aJ aZ).1;obtain⟨r1,r2,r3⟩:=S9 hl v (L[m].kid k).toNat o (by omega) (by omega) hP.1;exact⟨r1,λx hx=>r2 x (hP.2.1 x hx),λx hx=>by
     rcases r3 x hx with h | h;exact hP.2.2 x h
     ·right;omega⟩) 4 (by omega)
   obtain⟨⟨k1,k2⟩,k3,k4⟩:=key;generalize MU (G5 L v) L[m] 4 out=o at k1 k2 k3 k4;have cV:m+1 ∉ o:=λh=>(by rcases k4 _ h with h | h;exact hn h;omega);refine⟨⟨?_,?_⟩,?_,?_⟩;rw[Zy];exact⟨k1,by simp,λa ha b hb e=>by simp at hb;subst hb;subst e;exact cV ha⟩;intro x hx;simp only[WT,WR]at hx;rcases hx with hx | rfl;exact k2 x hx;omega;intro x hx;simp[k3 x hx];intro x hx;simp only[WT,WR]at hx;rcases hx with hx | rfl;rcases k4 x hx with h | h;exact .inl h;exact .inr (by omega);exact .inr (W7 _)
theorem Vb7 {B:Aa}{l:zAb}{n:Nat}(h:l.length<17592186044415):AW GK 1 8 (E4 cN B l) (.sl (enL cN [n]) .ti) (Ep cN GK 1 B l)=some (E4 cN B (l++[n]),Ep cN GK 1 B (l++[n])):=
 F5 (by simp) (by simp;omega) (by simp;omega)
theorem VkX {L:List Nd}(tk:Tok)(B:Aa)(hL:L.length<17592186044415)(hl:AF L=true):∀(v n d:Nat)(out:zAb),1<=n->n<=L.length->(A8 L n).lv=v->v<=d->O4 L.length out ->
  UeT d (.sl (enL cNd L) tk) (.i6 (n:Int)) (E4 cN B out) (Ep cN GK 1 B out)=some (.ret (E4 cN B (G5 L v n out)),Ep cN GK 1 B (G5 L v n out)):=by
 intro v
 induction v with
 |zero=>intro n d out h1 h2 hv hd ho;exfalso;obtain⟨m,rfl⟩:∃m,n=m+1:=⟨n-1,by omega⟩;rw[Bd (by omega)]at hv;have:=(AQ hl (show m<L.length by omega)).1;omega
 |succ v ih=>
  intro n d out h1 h2 hv hd ho;obtain⟨d,rfl⟩:∃e,d=e+1:=⟨d-1,by omega⟩;obtain⟨m,rfl⟩:∃m,n=m+1:=⟨n-1,by omega⟩;have hm:m<L.length:=by omega
  obtain⟨l1,l2,l3⟩:=AQ hl hm;have bG:=NB _ _ ho;rw[Bd hm]at hv;show Ueh (UeT d) _ _ _ _=_;unfold Ueh;have key:=OG (G:=λrec1 vs H1=>UcL (Ep cN GK 1 B out) (UeT d) rec1 (ag vs 0) (ag vs 1) (ag vs 2) (ag vs 3) H1) out.length (λi=>decide (out.getD i 0=m+1))
   (λi=>[.sl (enL cNd L) tk,.i6 ((m+1:Nat):Int),E4 cN B out,.i6 (i:Int)]) (Ep cN GK 1 B out) (some (.ret (E4 cN B (MU (G5 L v) L[m] 4 out++[m+1])),Ep cN GK 1 B (MU (G5 L v) L[m] 4 out++[m+1]))) (λ_=>some (.ret (E4 cN B out),Ep cN GK 1 B out)) (by omega) (λrec i hi=>?_) (λrec=>?_)
  refine key.trans ?_;by_cases bQ:m+1∈out;obtain⟨i,hi,hx⟩:=Xf bQ;have hf:∃j,(List.range out.length).find? (λi=>decide (out.getD i 0=m+1))=some j:=(by cases hq:(List.range out.length).find? (λi=>decide (out.getD i 0=m+1))with|some j=>exact⟨j,rfl⟩|none=>have:=Y9.1 hq i (by simpa using hi);simp[W6,W4 hi,hx]at this);obtain⟨j,hj⟩:=hf;rw[hj];simp only[G5,if_pos bQ];have hf:(List.range out.length).find? (λi=>decide (out.getD i 0=m+1))=none:=(by rw[Y9];intro i hi;have aE:i<out.length:=(by simpa using hi);rw[W6,W4 aE];simp only[Option.getD_some,zXe];intro e;exact bQ (e ▸ WI aE));rw[hf];simp only[G5,if_neg bQ,Bd hm];have aE:(i:Int)<(out.length:Int):=(by omega);have cF:decide ((out[i]:Int)=((m+1:Nat):Int))=decide (out.getD i 0=m+1):=(by rw[W6,W4 hi,WP];simp;omega);unfold UcL;simp only[GMw,Aq,Ae,A5,W9,Nat.add_zero,WK,Cy,GQ,Aw,aE,Ay hi,zXh,Au (show i<9223372036854775807 by omega),cF];cases decide (out.getD i 0=m+1)<;>simp only[GMw]
  ·unfold UcL;rw[GQ];simp only[GMw,Aw,Xm];rw[<-GQ];refine Cx (G:=λaA vs H1=>UcK (Ep cN GK 1 B out) (UeT d) aA (ag vs 0) (ag vs 1) (ag vs 2) (ag vs 3) H1) 4 (λk=>[.sl (enL cNd L) tk,.i6 ((m+1:Nat):Int),E4 cN B (MU (G5 L v) L[m] k out),.i6 (k:Int)]) (λk=>Ep cN GK 1 B (MU (G5 L v) L[m] k out)) _ (by decide) (λaA k hk=>?_) (λaA=>?_);have hk':(k:Int)<4:=(by omega);have aK:IntKind.i64.wrap ((k:Int)+1)=((k+1:Nat):Int):=Au (by omega);have dA:IntKind.i64.wrap (((m+1:Nat):Int)-1)=(m:Int):=(by rw[Am]<;>omega);obtain⟨q1,q2,q3⟩:=l3 k hk;have dK:O4 L.length (MU (G5 L v) L[m] k out):=MT (λo=>O4 L.length o) ho (λk o hk aJ aZ hP=>by obtain⟨q1,q2,q3⟩:=l3 k hk;have:=(q3 aJ aZ).1;exact(S9 hl v (L[m].kid k).toNat o (by omega) (by omega) hP).1) k (by omega);unfold UcK;rw[Rh];generalize MU (G5 L v) L[m] k out=o at dK;simp only[GMw,Aq,Ae,A5,W9,Nat.add_zero,WK,Cy,hk',dA,Ay hm,Ubt,aK];by_cases aJ:1<L[m].lv;by_cases aZ:0<L[m].kid k;obtain⟨r1,r2⟩:=q3 aJ aZ;obtain⟨c,hc⟩:∃c:Nat,L[m].kid k=((c+1:Nat):Int):=⟨(L[m].kid k-1).toNat,by omega⟩;have aG:c<L.length:=(by omega);have hy:=r2 L[c] (by rw[show(L[m].kid k-1).toNat=c from by omega];exact W4 aG);have hi2:=ih (c+1) d o (by omega) (by omega) (by rw[Bd aG];omega) (by omega) dK;have cT:((c+1:Nat):Int)>0:=(by omega);rw[if_pos ⟨aJ,aZ⟩];simp only[GMw,Aq,Ae,A5,W9,Nat.add_zero,WK,Cy,aJ,dA,Ay hm,Aq,EZ hk,EG hk,hc,cT,hi2,gt_iff_lt,zXl,Ubt,aK];rw[if_neg (λh=>aZ h.2)];simp only[GMw,Aq,Ae,A5,W9,Nat.add_zero,WK,Cy,aJ,dA,Ay hm,Aq,EZ hk,EG hk,aZ,gt_iff_lt,Ubt,aK];rw[if_neg (λh=>aJ h.1)];simp only[GMw,Aq,Ae,A5,W9,Nat.add_zero,WK,Cy,aJ,gt_iff_lt,Ubt,aK];have hf:¬(((4:Nat):Int)<4):=(by decide);have dK:O4 L.length (MU (G5 L v) L[m] 4 out):=MT (λo=>O4 L.length o) ho (λk o hk aJ aZ hP=>by obtain⟨q1,q2,q3⟩:=l3 k hk;have:=(q3 aJ aZ).1;exact(S9 hl v (L[m].kid k).toNat o (by omega) (by omega) hP).1) 4 (by omega);have hle:=NB _ _ dK;unfold UcK;simp only[GMw,hf,Vmv,Vb7 (show(MU (G5 L v) L[m] 4 out).length<17592186044415 by omega)]
def Bl (L:List Nd):List Ab:=[.sl (enL cNd L) .no]
def Dp (L:List Nd):Ab:=.agg (Bl L)
def Bq (L:List Nd):Int:=(A8 L (L.length:Int)).lv
def OD (L:List Nd):zAb:=G5 L (Bq L).toNat L.length []
def Voe (L:List Nd):Bool:=(List.range L.length).all λi=>!((A3 L).getD (i+1) true)&&(List.range i).all λk=>decide (L.getD i ⟨0,0,0,0,0⟩≠L.getD k ⟨0,0,0,0,0⟩)
def Q6 (L:List Nd):Bool:=(List.range (OD L).length).all (λi=>decide ((OD L).getD i 0=i+1))&&decide ((OD L).length=L.length)
def DO (L:List Nd):Bool:=
 decide (L=[])||(AF L && !(DQ L L.length)&&Voe L&&Q6 L)
theorem Vhb (L:List Nd)(tk:Tok)(H:Aa):BC true 1 (.agg [.sl (enL cNd L) tk]) H=some (.ptr H.length 0 0,H++[.c0 [.sl (enL cNd L) tk]]):=Ce rfl rfl
theorem Vff (L:List Nd)(tk:Tok)(H:Aa)(hL:L.length<17592186044415):UcP (.agg [.sl (enL cNd L) tk]) H=some (.ret (.bool (DO L)),H):=by
 unfold UcP;simp only[GMw,Aq,Ae,A5,W9,Nat.add_zero,WK,Cy,Vhb,FE,HH,zXh,Aw];by_cases h0:L=[];subst h0;simp[DO]
 ·have hlen:L.length≠0:=λh=>h0 (WM h);have dY:¬((L.length:Int)=0):=by omega
  have hq:DO L=(AF L && !(DQ L L.length)&&Voe L&&Q6 L):=by simp[DO,h0]
  simp only[GMw,dY,VA L tk _ (show L.length<1152921504606846976 by omega)];cases hl:AF L with
  |false=>simp[hq,hl]
  |true=>
   simp only[GMw,Aw,To L tk L.length _ (show L.length<140737488355327 by omega) hl (W7 _)];cases hh:DQ L L.length with
   |true=>simp[hq,hh]
   |false=>
    simp only[GMw,JC L tk _ (show L.length<140737488355327 by omega) hl];rw[hq,hl,hh];simp only[GMw];generalize hB:H++[.c0 [.sl (enL cNd L) tk]]=B;have hfin:∀(v:Bool)(G:Aa),rP H (.bool v) (B++G)=some (.ret (.bool v),H):=λv G=>(by rw[<-hB,WD];exact Ey);have mV:∀(v:Bool),rP H (.bool v) B=some (.ret (.bool v),H):=λv=>(by rw[<-hB];exact Ey);have key:=Eh (G:=λrec1 vs H1=>UcO H rec1 (ag vs 0) (ag vs 1) (ag vs 2) H1) L.length (λi=>!((A3 L).getD (i+1) true)&&(List.range i).all λk=>decide (L.getD i ⟨0,0,0,0,0⟩≠L.getD k ⟨0,0,0,0,0⟩))
     (λi=>[.sl (enL cNd L) tk,.sl (enL cB (A3 L)) .no,.i6 (i:Int)]) B (some (.ret (.bool (Q6 L)),H)) (some (.ret (.bool false),H)) (by omega) (λrec i hi=>?_) (λrec=>?_)
    refine key.trans ?_;rw[show Voe L=(List.range L.length).all λi=>!((A3 L).getD (i+1) true)&&(List.range i).all λk=>decide (L.getD i ⟨0,0,0,0,0⟩≠L.getD k ⟨0,0,0,0,0⟩) from rfl];cases(List.range L.length).all λi=>!((A3 L).getD (i+1) true)&&(List.range i).all λk=>decide (L.getD i ⟨0,0,0,0,0⟩≠L.getD k ⟨0,0,0,0,0⟩)<;>simp only[GMw]
    ·have aE:(i:Int)<(L.length:Int):=(by omega);have hlt:i+1<(A3 L).length:=(by rw[CY];omega);have aK:IntKind.i64.wrap ((i:Int)+1)=((i+1:Nat):Int):=Au (by omega);have eX:(A3 L).getD (i+1) true=(A3 L)[i+1]:=(by rw[W6,W4 hlt];rfl);unfold UcO;simp only[GMw,Aq,Ae,A5,W9,Nat.add_zero,WK,Cy,Aw,aE,aK,Ay hlt,zXh,eX];cases(A3 L)[i+1]with
     |true=>simp only[GMw,mV]
     |false=>
      simp only[GMw];refine Eh (G:=λaA vs H1=>UcM H rec aA (ag vs 0) (ag vs 1) (ag vs 2) (ag vs 3) H1) i (λk=>decide (L.getD i ⟨0,0,0,0,0⟩≠L.getD k ⟨0,0,0,0,0⟩))
       (λk=>[.sl (enL cNd L) tk,.sl (enL cB (A3 L)) .no,.i6 (i:Int),.i6 (k:Int)]) B _ _ (by omega) (λaA k hk=>?_) (λaA=>?_)
      have hk':(k:Int)<(i:Int):=(by omega);have cZ:k<L.length:=(by omega);unfold UcM;simp only[GMw,hk',Ay hi,Ay cZ,JH,Vod,mV,Au (show k<9223372036854775807 by omega)];simp only[W6,W4 hi,W4 cZ,Option.getD_some];by_cases he:L[i]=L[k];simp only[he,ne_eq,not_true_eq_false,GMw];simp only[he,ne_eq,not_false_eq_true,GMw];unfold UcM;simp only[GMw,Xm,aK]
    ·unfold UcO;have hm:L.length-1<L.length:=(by omega);have yC:L.length=L.length-1+1:=(by omega);have aJ:(A8 L (L.length:Int)).lv=((Bq L).toNat:Int):=(by have:=(AQ hl hm).1;unfold Bq;rw[yC,Bd hm];omega);have eM:UeT AU (.sl (enL cNd L) tk) (.i6 (L.length:Int)) (.sl [] .ti) B=some (.ret (E4 cN B (G5 L (Bq L).toNat L.length [])),Ep cN GK 1 B (G5 L (Bq L).toNat L.length [])):=VkX tk B hL hl (Bq L).toNat L.length AU [] (by omega) (W7 _) aJ (by have:=(AQ hl hm).2.1;rw[Dj];unfold Bq;rw[yC,Bd hm];omega) ⟨by simp,by simp⟩;have hok:=(S9 hl (Bq L).toNat L.length [] (by omega) (W7 _) ⟨by simp,by simp⟩).1;have hol:=NB _ _ hok;obtain⟨G,hG⟩:=HW (f:=cN) (ty:=GK) (sz:=1) B (G5 L (Bq L).toNat L.length []);simp only[GMw,Aw,Xm,eM,hG,GQ];have qH:OD L=G5 L (Bq L).toNat L.length []:=rfl;rw[<-qH]at hol⊢;unfold Q6;generalize OD L=o at hol⊢;have key:=Eh (G:=λdG vs H1=>UcN H dG (ag vs 0) (ag vs 1) (ag vs 2) H1) o.length (λi=>decide (o.getD i 0=i+1)) (λi=>[.sl (enL cNd L) tk,.sl (enL cN o) (Vpy B o),.i6 (i:Int)]) (B++G) (some (.ret (.bool (decide (o.length=L.length))),H)) (some (.ret (.bool false),H)) (by omega) (λrec i hi=>?_) (λrec=>?_);refine key.trans ?_;cases(List.range o.length).all (λi=>decide (o.getD i 0=i+1))<;>simp only[GMw]
     have aE:(i:Int)<(o.length:Int):=(by omega);unfold UcN;simp only[GMw,Aq,Ae,A5,W9,Nat.add_zero,WK,Cy,Aw,aE,Ay hi,zXh,Au (show i<9223372036854775807 by omega),hfin];simp only[W6,W4 hi,Option.getD_some];by_cases he:o[i]=i+1;have:(o[i]:Int)=((i+1:Nat):Int):=(by omega);simp only[zXc this,zXc he,GMw];have:¬(o[i]:Int)=((i+1:Nat):Int):=(by omega);simp only[zXd this,zXd he,GMw];have hd:decide ((o.length:Int)=(L.length:Int))=decide (o.length=L.length):=(by rw[WP];simp;omega);unfold UcN;simp only[GMw,Aw,Xm,hfin,hd]
theorem VB (L:List Nd)(tk:Tok)(H:Aa)(hL:L.length<17592186044415):Uby (.agg [.sl (enL cNd L) tk]) H=some (.ret (.i6 (if L=[]then 0 else Bq L)),H):=by
 unfold Uby;simp only[GMw,Aq,Ae,A5,W9,Nat.add_zero,WK,Cy,Vhb,FE,HH,zXh,Aw];by_cases h0:L=[];subst h0;simp
 ·have hlen:L.length≠0:=λh=>h0 (WM h);have dY:¬((L.length:Int)=0):=by omega
  have hm:L.length-1<L.length:=by omega
  have hw:IntKind.i64.wrap ((L.length:Int)-1)=((L.length-1:Nat):Int):=HA (by omega) (by omega);have ht:Bq L=L[L.length-1].lv:=by unfold Bq;rw[E7 (n:=L.length-1) (by omega) hm]
  simp only[h0,dY,GMw,Aq,Ae,A5,W9,Nat.add_zero,WK,Cy,hw,Ay hm,It,ht]
abbrev nd0:Nd:=⟨0,0,0,0,0⟩
def Nd.setKid (x:Nd)(k:Nat)(c:Int):Nd:=match k with | 0=>{x with k0:=c} | 1=>{x with k1:=c} | 2=>{x with k2:=c} | _=>{x with k3:=c}
theorem Vv (x:Nd)(k:Nat)(c:Int):(x.setKid k c).lv=x.lv:=by unfold Nd.setKid;split<;>rfl
theorem RA (x:Nd){k:Nat}(c:Int)(h:k<4):(x.setKid k c).kid k=c:=by
 match k,h with
 |0,_=>rfl
 |1,_=>rfl
 |2,_=>rfl
 |3,_=>rfl
theorem F9 (x:Nd){k j:Nat}(c:Int)(h:k<4)(hj:j<4)(hne:j≠k):(x.setKid k c).kid j=x.kid j:=by
 match k,j,h,hj with
 |0,1,_,_=>rfl
 |0,2,_,_=>rfl
 |0,3,_,_=>rfl
 |1,0,_,_=>rfl
 |1,2,_,_=>rfl
 |1,3,_,_=>rfl
 |2,0,_,_=>rfl
 |2,1,_,_=>rfl
 |2,3,_,_=>rfl
 |3,0,_,_=>rfl
 |3,1,_,_=>rfl
 |3,2,_,_=>rfl
 |0,0,_,_=>exact absurd rfl hne
 |1,1,_,_=>exact absurd rfl hne
 |2,2,_,_=>exact absurd rfl hne
 |3,3,_,_=>exact absurd rfl hne
section
variable {H:Aa}{p k:Nat}{x:Nd}{cs cs':List Ab}
theorem Ig (hg:H[p]? = some (.c0 (cNd x))):Ad true 5 (.ptr p 0 0) H=some (.agg (cNd x)):=by simp only[Ad,Ax hg,zXa,if_true];rfl
theorem TI (hg:H[p]? = some (.c0 (cNd x))):Ad false 1 (.ptr p 0 0) H=some (.i6 x.lv):=by simp only[Ad,Ax hg,zXa,WB,if_false];rfl
theorem VO (hg:H[p]? = some (.c0 (cNd x)))(h:k<4):Ad false 1 (.ptr p 0 (1+k)) H=some (.i6 (x.kid k)):=by simp only[Ad,Ax hg,zXa,WB,if_false];exact EG h
theorem Fg {c:Int}(hg:H[p]? = some (.c0 (cNd x)))(h:k<4):Ai 1 (.ptr p 0 (1+k)) (.i6 c) H=some (H.set p (.c0 (cNd (x.setKid k c)))):=by
 simp only[Ai,Ax hg,zXa,Vec,Bw hg]
 match k,h with
 |0,_=>rfl
 |1,_=>rfl
 |2,_=>rfl
 |3,_=>rfl
theorem Kl (hg:H[p]? = some (.c0 cs))(hl:cs.length=5):Ai 5 (.ptr p 0 0) (.agg (cNd x)) H=some (H.set p (.c0 (cNd x))):=by simp only[Ai,Ax hg,zXa,Wy,Bw hg,D6 hl];rw[if_pos ⟨rfl,by omega⟩]
theorem Ih {K:IntKind}{id g o:Nat}(h:k<4):BH 4 1 (.ptr id g o) (.int K (k:Int))=some (.ptr id g (o+k)):=by unfold BH;simp only[];rw[if_pos ⟨by omega,by omega⟩];simp

end
theorem Qg (H:Aa):A0 (some [.i6 0,.i6 0,.i6 0,.i6 0,.i6 0]) H=some (.ptr H.length 0 0,H++[.c0 (cNd nd0)]):=alloc_eq rfl
theorem Ej (L:List Nd):(A3 L).getD 0 true=true:=by
 have key:∀(l:List Nd)(E:List Bool),E[0]? = some true->(l.foldl (λE x=>E++[Md E x]) E)[0]? = some true:=by
  intro l
  induction l with
  |nil=>intro E h;exact h
  |cons a l ih=>intro E h;exact ih _ (by rw[W8 (by cases E with | nil=>simp at h | cons e E=>simp)];exact h)
 rw[W6,show(A3 L)[0]? = some true from key L [true] rfl];rfl
def Jm (L:List Nd)(x:Nd)(k:Nat):Int:=if x.kid k=0 then 0 else (A8 L (x.kid k)).kid (3-k)
def Cm (L:List Nd)(n:Nat):Nd:=⟨(A8 L n).lv-1,Jm L (A8 L n) 0,Jm L (A8 L n) 1,Jm L (A8 L n) 2,Jm L (A8 L n) 3⟩
def BT:Nat->List Nd->Nat->List Nd×Nat
 |0,L,n=>(L,n)
 |f+1,L,n=>if DQ L n then BT f (L++[Cm L n]) (L.length+1)else (L,n)
def DW (L:List Nd)(n:Nat):List Nd×Nat:=
 if (A3 L).getD n true then (L,0)else BT (A8 L n).lv.toNat L n
theorem VZ (L:List Nd)(n:Nat){k:Nat}(h:k<4):(Cm L n).kid k=Jm L (A8 L n) k:=by
 match k,h with
 |0,_=>rfl
 |1,_=>rfl
 |2,_=>rfl
 |3,_=>rfl
theorem KW {L:List Nd}{x:Nd}(hl:AF L=true)(hx:GI (L++[x]) L.length=true):AF (L++[x])=true:=by
 unfold AF;rw[WO];intro i hi;have aE:i<L.length+1:=by simpa using hi
 by_cases h:i=L.length;rw[h];exact hx
 ·have hlt:i<L.length:=by omega
  have h1:=WO.1 hl i (by simpa using hlt);simp only[GI,W8 hlt,W4 hlt,WG,WO]at h1⊢;refine⟨h1.1,λk hk=>?_⟩;have h2:=h1.2 k hk;simp only[Dz,WG,zXe]at h2⊢;refine⟨h2.1,λq1 q2=>?_⟩;obtain⟨r1,r2⟩:=h2.2 q1 q2;refine⟨r1,λy hy=>?_⟩;rw[W8 (by omega)]at hy;exact r2 y hy
theorem KX {L:List Nd}{x:Nd}(h1:1<=x.lv)(h2:x.lv<=1329)(h3:∀k,k<4->0<=x.kid k/\(x.lv=1->x.kid k<=255)/\(1<x.lv->0<x.kid k->x.kid k<=L.length/\(A8 L (x.kid k)).lv=x.lv-1)):GI (L++[x]) L.length=true:=by
 simp only[GI,WX (W7 _),Xi,zXh,WG,zXe,WO];refine⟨⟨h1,h2⟩,λk hk=>?_⟩;obtain⟨q1,q2,q3⟩:=h3 k (by simpa using hk);simp only[Dz,WG,zXe];refine⟨⟨q1,q2⟩,λr1 r2=>?_⟩;obtain⟨s1,s2⟩:=q3 r1 r2;refine⟨s1,λy hy=>?_⟩;have hlt:(x.kid k-1).toNat<L.length:=by omega
 rw[W8 hlt,W4 hlt]at hy;injection hy with hy;rw[<-hy,<-s2,E7 (n:=(x.kid k-1).toNat) (by omega) hlt]
theorem NK {L:List Nd}(hl:AF L=true){n:Nat}(hn:n<L.length)(h2:2<=L[n].lv):AF (L++[Cm L (n+1)])=true:=by
 obtain⟨l1,l2,l3⟩:=AQ hl hn;have e:A8 L ((n+1:Nat):Int)=L[n]:=Bd hn;have elv:(Cm L (n+1)).lv=L[n].lv-1:=by show(A8 L ((n+1:Nat):Int)).lv-1=_;rw[e]
 refine KW hl (KX (by omega) (by omega) λk hk=>?_);obtain⟨q1,q2,q3⟩:=l3 k hk;rw[VZ L (n+1) hk,elv,e];unfold Jm;by_cases hc:L[n].kid k=0;rw[if_pos hc];exact⟨by omega,λ_=>by omega,λ_ h=>by omega⟩
 ·rw[if_neg hc];obtain⟨m,hm⟩:∃m:Nat,L[n].kid k=((m+1:Nat):Int):=⟨(L[n].kid k-1).toNat,by omega⟩;obtain⟨r1,r2⟩:=q3 (by omega) (by omega);have hml:m<L.length:=by omega
  have hy:=r2 L[m] (by rw[show(L[n].kid k-1).toNat=m from by omega];exact W4 hml);obtain⟨y1,y2,y3⟩:=AQ hl hml;rw[E7 hm hml];obtain⟨s1,s2,s3⟩:=y3 (3-k) (by omega);refine⟨s1,λh=>s2 (by omega),λh h0=>?_⟩;obtain⟨t1,t2⟩:=s3 (by omega) h0;refine⟨by omega,?_⟩;obtain⟨c,bU⟩:∃c:Nat,L[m].kid (3-k)=((c+1:Nat):Int):=⟨(L[m].kid (3-k)-1).toNat,by omega⟩;have aG:c<L.length:=by omega
  rw[E7 bU aG];have:=t2 L[c] (by rw[show(L[m].kid (3-k)-1).toNat=c from by omega];exact W4 aG);omega
theorem NL {L:List Nd}{n:Nat}(h:DQ L n=true):n≠0/\2<=(A8 L n).lv:=by simp only[DQ,WG,zXe]at h;exact⟨h.1.1,h.1.2⟩
theorem Wx {H G:Aa}{l:List Nd}{x:Nd}(h:l.length<3518437208883):AW AP 5 40 (.sl (enL cNd l) (.own H.length)) (.sl (enL cNd [x]) .ti) (H++.tok l.length AP 5::G)=some (.sl (enL cNd (l++[x])) (.own H.length),H++.tok (l.length+1) AP 5::G):=by have:=F4 (f:=cNd) (l:=l) (m:=[x]) (ty:=AP) (bytes:=40) (tk:=.ti) (H:=H++.tok l.length AP 5::G) (t:=H.length) (by simp) (by simp) (by simp;omega) (by simp;omega);rw[this];simp
def Vu (f:Nat->Int)(x:Nd):Nat->Nd
 |0=>x
 |k+1=>(Vu f x k).setKid k (f k)
theorem Vt (f:Nat->Int)(x:Nd):Vu f x 4=⟨x.lv,f 0,f 1,f 2,f 3⟩:=rfl
theorem Uw (z:Int):A6 (some [.i6 0,.i6 0,.i6 0,.i6 0,.i6 0]) [(0,1,.i6 z)]=some (.agg (cNd ⟨z,0,0,0,0⟩)):=by simp[A6,GF,D7,cNd]
theorem Vd8 (L:List Nd)(tk:Tok)(n:Nat)(H:Aa)(hL:L.length<3518437200000)(hl:AF L=true)(hn:n<=L.length):Ud2 (.sl (enL cNd L) tk) (.i6 (n:Int)) H=some (.ret (.tup [.sl (enL cNd (DW L n).1) .no,.i6 ((DW L n).2:Int)]),H):=by
 unfold Ud2;have hb:AN 5 []=some (.sl (enL cNd []) .ti):=rfl;rw[hb];by_cases h0:L=[]
 ·subst h0;have dT:n=0:=by simpa using hn
  subst dT;have ha:AW AP 5 40 (.sl (enL cNd []) .ti) (.sl (enL cNd []) tk) H=some (.sl (enL cNd []) .ti,H):=En (by simp[Cu,enL]);have he:=VC [] .ti 0 H (by simp) hl (W7 _);simp only[GMw,ha,he,show(A3 []).getD 0 true=true from rfl,M9,Cs,By,BB,Jp,Dc,zXb]
  rfl
 ·have ha:AW AP 5 40 (.sl (enL cNd []) .ti) (.sl (enL cNd L) tk) H=some (.sl (enL cNd L) (.own H.length),H++[.tok L.length AP 5]):=by have:=Dh (f:=cNd) (l:=[]) (m:=L) (ty:=AP) (bytes:=40) (tk:=tk) (H:=H) h0 (by simp;omega) (by simp;omega);simpa using this
  simp only[GMw,ha,VC L _ n _ (show L.length<140737488355327 by omega) hl hn];unfold DW;cases eY:(A3 L).getD n true with
  |true=>simp only[GMw,C8,Cs,By,BB,Jp,Dc,zXb];rfl
  |false=>
   simp only[GMw];have aJ:(A8 L n).lv<=1329:=(by cases n with|zero=>exfalso;rw[Ej]at eY;cases eY|succ m=>rw[Bd hn];exact(AQ hl hn).2.1);have key:=Bv (G:=λrec1 vs H1=>Uev H rec1 (ag vs 0) (ag vs 1) H1) (σ:=List Nd×Nat×Aa) (λs=>AF s.1=true/\s.2.1<=s.1.length/\s.1.length+(A8 s.1 s.2.1).lv.toNat<3518437208883/\s.1.length+(A8 s.1 s.2.1).lv.toNat<3518437208883)
    (λs=>[.i6 (s.2.1:Int),.sl (enL cNd s.1) (.own H.length)]) (λs=>H++.tok s.1.length AP 5::s.2.2) (λs=>(A8 s.1 s.2.1).lv.toNat)
    (λs=>some (.ret (.tup [.sl (enL cNd (BT (A8 s.1 s.2.1).lv.toNat s.1 s.2.1).1) .no,.i6 ((BT (A8 s.1 s.2.1).lv.toNat s.1 s.2.1).2:Int)]),H)) (λs rec hs hrec=>?_) (L,n,[]) ⟨hl,hn,by dsimp only;omega,by dsimp only;omega⟩ (by dsimp only;omega)
   exact key
   ·obtain⟨M,i,G⟩:=s;obtain⟨hs1,lK,qI,uO⟩:=hs;simp only at hs1 lK qI uO hrec⊢;unfold Uev;simp only[GMw,To M _ i _ (show M.length<140737488355327 by omega) hs1 lK];cases hh:DQ M i with
    |false=>have:BT (A8 M i).lv.toNat M i=(M,i):=(by cases(A8 M i).lv.toNat with|zero=>rfl|succ f=>simp[BT,hh]);simp only[GMw,this,C8,Cs,By,BB,Jp,Dc,zXb]
    |true=>
     obtain⟨jH,gJ⟩:=NL hh;obtain⟨m,rfl⟩:∃m,i=m+1:=⟨i-1,by omega⟩;have hm:m<M.length:=lK;obtain⟨l1,l2,l3⟩:=AQ hs1 hm;have hx:A8 M ((m+1:Nat):Int)=M[m]:=Bd hm;rw[hx]at gJ qI hrec⊢;have dA:IntKind.i64.wrap (((m+1:Nat):Int)-1)=(m:Int):=(by rw[Am]<;>omega);have jE:IntKind.i64.wrap (M[m].lv-1)=M[m].lv-1:=Am (by omega) (by omega);have jK:BT M[m].lv.toNat M (m+1)=BT (M[m].lv-1).toNat (M++[Cm M (m+1)]) (M.length+1):=(by rw[show M[m].lv.toNat=(M[m].lv-1).toNat+1 from by omega];simp only[BT,hh,if_true]);generalize hB:H++.tok M.length AP 5::G=B;simp only[GMw,Aq,Ae,A5,W9,Nat.add_zero,WK,Cy,dA,Ay hm,jE,Uw,Qg,Kl (An (B:=B) (cs:=cNd nd0)) rfl,Be];refine Cx (G:=λaA vs H1=>Ud1 H rec aA (ag vs 0) (ag vs 1) (ag vs 2) (ag vs 3) H1) 4 (λk=>[.i6 ((m+1:Nat):Int),.sl (enL cNd M) (.own H.length),.ptr B.length 0 0,.i6 (k:Int)]) (λk=>B++[.c0 (cNd (Vu (Jm M M[m]) ⟨M[m].lv-1,0,0,0,0⟩ k))]) _ (by decide) (λaA k hk=>?_) (λaA=>?_)
     ·have hk':(k:Int)<4:=(by omega);unfold Ud1;have oF:=Vfh M (.own H.length) m k (B++[.c0 (cNd (Vu (Jm M M[m]) ⟨M[m].lv-1,0,0,0,0⟩ k))]) (by omega) hs1 hm gJ hk;simp only[GMw,hk',oF,Ae,W9,Ih hk,Fg (An (B:=B)) hk,Be,Au (show k<9223372036854775807 by omega)]
      rfl
     have hf:¬(((4:Nat):Int)<4):=(by decide);have oJ:(⟨M[m].lv-1,Jm M M[m] 0,Jm M M[m] 1,Jm M M[m] 2,Jm M M[m] 3⟩:Nd)=Cm M (m+1):=(by unfold Cm;rw[hx]);unfold Ud1;rw[Vt];simp only[GMw,hf,Ig (An (B:=B)),KC];rw[<-hB,WD,List.cons_append,Wx (by omega)];simp only[GMw,Aw,WC,zXi,oJ];have eG:(A8 (M++[Cm M (m+1)]) ((M.length+1:Nat):Int)).lv=M[m].lv-1:=(by rw[Bd (by simp),show(M++[Cm M (m+1)])[M.length]'(by simp)=Cm M (m+1) from by simp];show(A8 M ((m+1:Nat):Int)).lv-1=_;rw[hx]);have:=hrec (M++[Cm M (m+1)],M.length+1,G++[.c0 (cNd (Cm M (m+1)))]) ⟨NK hs1 hm gJ,by simp,by dsimp only;rw[eG];simp;omega,by dsimp only;rw[eG];simp;omega⟩ (by dsimp only;rw[eG];omega);simp only[WC,zXi]at this;rw[this,eG,jK]
def C4 (l:List Nd)(x:Nd):Nat:=match (List.range l.length).find? (λi=>decide (l.getD i nd0=x))with | some i=>i+1 | none=>0
theorem EA {l:List Nd}{x:Nd}{i:Nat}:C4 l x=i+1↔l[i]? = some x/\∀j,j<i->l[j]? ≠ some x:=by
 unfold C4;constructor
 ·intro h;cases hf:(List.range l.length).find? (λi=>decide (l.getD i nd0=x))with
  |none=>rw[hf]at h;dsimp only at h;omega
  |some k=>rw[hf]at h;dsimp only at h;have hk:k=i:=(by omega);subst hk;rw[Zc]at hf;obtain⟨h1,h2,h3⟩:=hf;have hlt:k<l.length:=(by simpa using h2);simp only[zXe,W6,W4 hlt,Option.getD_some]at h1;refine⟨by rw[W4 hlt,h1],λj hj e=>?_⟩;have:=h3 j hj;simp only[W6,e,Option.getD_some,decide_true,Xo]at this;cases this
 ·rintro⟨h1,h2⟩;have hlt:i<l.length:=(W5.1 h1).1;have hf:(List.range l.length).find? (λi=>decide (l.getD i nd0=x))=some i:=by rw[Zc];refine⟨by simp[W6,h1],by simpa using hlt,λj hj=>?_⟩;have tO:j<l.length:=(by omega);have:=h2 j hj;rw[W4 tO]at this;simp only[W6,W4 tO,Option.getD_some,X7,decide_eq_false_iff_not];exact λe=>this (by rw[e])
  rw[hf]
theorem Jq {l:List Nd}{x:Nd}:C4 l x=0↔x ∉ l:=by
 constructor;intro h hx;obtain⟨i,hi,aH⟩:=Xf hx;unfold C4 at h;cases hf:(List.range l.length).find? (λi=>decide (l.getD i nd0=x))with|none=>have:=Y9.1 hf i (by simpa using hi);simp[W6,W4 hi,aH]at this|some k=>rw[hf]at h;dsimp only at h;omega
 intro h;cases hf:C4 l x with|zero=>rfl|succ i=>rw[EA]at hf;exact absurd (Xa hf.1) h
theorem Vje (l:List Nd)(x:Nd):C4 l x<=l.length:=by cases hf:C4 l x with|zero=>omega|succ i=>rw[EA]at hf;exact(W5.1 hf.1).1
theorem PD {l m:List Nd}{x:Nd}(h:C4 l x≠0):C4 (l++m) x=C4 l x:=by cases hf:C4 l x with|zero=>exact absurd hf h|succ i=>rw[EA]at hf⊢;have hlt:i<l.length:=(W5.1 hf.1).1;refine⟨by rw[W8 hlt];exact hf.1,λj hj=>?_⟩;rw[W8 (by omega)];exact hf.2 j hj
theorem Wi {l:List Nd}{x:Nd}(h:C4 l x=0):C4 (l++[x]) x=l.length+1:=by rw[EA];refine⟨by simp,λj hj e=>?_⟩;rw[W8 hj]at e;exact Jq.1 h (Xa e)
def BL (out:List Nd)(x:Nd):List Nd×Nat:=if C4 out x=0 then (out++[x],out.length+1)else (out,C4 out x)
def Ca (rec:Nat->List Nd->List Nd×Nat)(x:Nd):Nat->List Nd->List Nd×Nd
 |0,out=>(out,x)
 |k+1,out=>((rec (x.kid k).toNat (Ca rec x k out).1).1,(Ca rec x k out).2.setKid k ((rec (x.kid k).toNat (Ca rec x k out).1).2:Int))
def Bp (L:List Nd)(E:List Bool):Nat->Nat->List Nd->List Nd×Nat
 |0,_,out=>(out,0)
 |v+1,n,out=>
  if E.getD n true then (out,0)
  else if 1<(A8 L n).lv then BL (Ca (Bp L E v) (A8 L n) 4 out).1 (Ca (Bp L E v) (A8 L n) 4 out).2
  else BL out (A8 L n)
theorem MC (out:List Nd)(x:Nd):0<(BL out x).2:=by unfold BL;split;simp;dsimp only;omega
theorem Ts (out:List Nd)(x:Nd):∃r,(BL out x).1=out++r:=by unfold BL;split;exact⟨_,rfl⟩;exact⟨[],by simp⟩
theorem Tt (out:List Nd)(x:Nd)(r:List Nd):BL ((BL out x).1++r) x=((BL out x).1++r,(BL out x).2):=by
 by_cases h:C4 out x=0
 ·have h1:BL out x=(out++[x],out.length+1):=by simp[BL,h]
  rw[h1];have h2:C4 (out++[x]++r) x=out.length+1:=by rw[PD (by rw[Wi h];omega),Wi h]
  dsimp only;unfold BL;rw[h2,if_neg (by omega)]
 ·have h1:BL out x=(out,C4 out x):=by simp[BL,h]
  rw[h1];dsimp only;unfold BL;rw[PD h,if_neg h]
section
variable {L:List Nd}{E:List Bool}
theorem TM {rec:Nat->List Nd->List Nd×Nat}(hr:∀n out,∃r,(rec n out).1=out++r)(x:Nd):∀k out,∃r,(Ca rec x k out).1=out++r
 |0,out=>⟨[],by simp[Ca]⟩
 |k+1,out=>by obtain⟨r,h⟩:=TM hr x k out;obtain⟨r',h'⟩:=hr (x.kid k).toNat (Ca rec x k out).1;exact⟨r++r',by simp only[Ca];rw[h',h];simp⟩
theorem TN:∀v n out,∃r,(Bp L E v n out).1=out++r
 |0,n,out=>⟨[],by simp[Bp]⟩
 |v+1,n,out=>by simp only[Bp];split;exact⟨[],by simp⟩;split;obtain⟨r,h⟩:=TM (TN v) (A8 L n) 4 out;obtain⟨r',h'⟩:=Ts (Ca (Bp L E v) (A8 L n) 4 out).1 (Ca (Bp L E v) (A8 L n) 4 out).2;exact⟨r++r',by rw[h',h];simp⟩;exact Ts _ _
theorem Jl:∀v n out r,Bp L E v n ((Bp L E v n out).1++r)=((Bp L E v n out).1++r,(Bp L E v n out).2)
 |0,n,out,r=>by simp[Bp]
 |v+1,n,out,r=>by
  by_cases he:E.getD n true=true;simp only[Bp,if_pos he]
  ·by_cases hl:1<(A8 L n).lv
   ·have e:∀o,Bp L E (v+1) n o=BL (Ca (Bp L E v) (A8 L n) 4 o).1 (Ca (Bp L E v) (A8 L n) 4 o).2:=λo=>(by simp only[Bp,if_neg he,if_pos hl]);have key:∀k,k<=4->∀s,Ca (Bp L E v) (A8 L n) k ((Ca (Bp L E v) (A8 L n) k out).1++s)=((Ca (Bp L E v) (A8 L n) k out).1++s,(Ca (Bp L E v) (A8 L n) k out).2):=by
     intro k
     induction k with
     |zero=>intro _ s;simp[Ca]
     |succ k ih=>intro hk s;simp only[Ca];obtain⟨r',h'⟩:=TN (L:=L) (E:=E) v ((A8 L n).kid k).toNat (Ca (Bp L E v) (A8 L n) k out).1;have hi:=ih (by omega) (r'++s);have ha:=Jl v ((A8 L n).kid k).toNat (Ca (Bp L E v) (A8 L n) k out).1 s;rw[h']at ha⊢;rw[WD,hi];rw[WD]at ha;dsimp only;rw[ha]
    obtain⟨r',h'⟩:=Ts (Ca (Bp L E v) (A8 L n) 4 out).1 (Ca (Bp L E v) (A8 L n) 4 out).2;have ha:=Tt (Ca (Bp L E v) (A8 L n) 4 out).1 (Ca (Bp L E v) (A8 L n) 4 out).2 r;rw[e,e];rw[h']at ha⊢;rw[WD,key 4 (by omega)];dsimp only;rw[WD]at ha;exact ha
   have e:∀o,Bp L E (v+1) n o=BL o (A8 L n):=λo=>(by simp only[Bp,if_neg he,if_neg hl]);rw[e,e];exact Tt out (A8 L n) r

end
theorem Vig (l:List Nd)(tk:Tok)(x:Nd)(H:Aa)(hl:l.length<1152921504606846975):UbC (.sl (enL cNd l) tk) (.agg (cNd x)) H=some (.ret (.i6 (C4 l x:Int)),H):=by
 unfold UbC;rw[Ce (sz:=5) F2 rfl];simp only[GMw];have hp:(H++[Blk.c0 (cNd x)])[H.length]? = some (.c0 (cNd x)):=An;have key:=OG (G:=λrec1 vs H1=>Ud3 H rec1 (ag vs 0) (ag vs 1) (ag vs 2) H1) l.length (λi=>decide (l.getD i nd0=x)) (λi=>[.sl (enL cNd l) tk,.ptr H.length 0 0,.i6 (i:Int)]) (H++[.c0 (cNd x)])
  (some (.ret (.i6 0),H)) (λi=>some (.ret (.i6 ((i+1:Nat):Int)),H)) (by omega) (λrec i hi=>?_) (λrec=>?_)
 refine key.trans ?_;unfold C4;cases(List.range l.length).find? (λi=>decide (l.getD i nd0=x))<;>rfl
 ·have aE:(i:Int)<(l.length:Int):=by omega
  unfold Ud3;simp only[GMw,Aw,aE,Ay hi,JH,Ig hp,Vod,Au (show i<9223372036854775807 by omega),It];simp only[W6,W4 hi,Option.getD_some];by_cases he:l[i]=x;simp only[he,GMw];simp only[he,GMw]
 unfold Ud3;simp only[GMw,Aw,Xm,It]
structure VS (b id:Nat)(out:List Nd)(D:zAb)(v:Ab)(H:Aa):Prop where
 hv:(out=[]/\v=.sl [] .ti)\/∃t,b<=t/\v=.sl (enL cNd out) (.own t)/\H[t]? = some (.tok out.length AP 5)
 hd:H[id]? = some (.c0 (flat cN D))
structure Ext (b id:Nat)(H H':Aa):Prop where
 len:H.length<=H'.length
 cel:∀(i:Nat)(cs:List Ab),i≠id->H[i]? = some (.c0 cs)->H'[i]? = some (.c0 cs)
 old:∀i,i<b->H'[i]? = H[i]?
theorem Ext.refl (b id:Nat)(H:Aa):Ext b id H H:=⟨W7 _,λ_ _ _ h=>h,λ_ _=>rfl⟩
theorem Ext.trans {b id:Nat}{H H1 H2:Aa}(h:Ext b id H H1)(h':Ext b id H1 H2):Ext b id H H2:=
 ⟨WV h.len h'.len,λi cs hi hc=>h'.cel i cs hi (h.cel i cs hi hc),λi hi=>(h'.old i hi).trans (h.old i hi)⟩
theorem VS.sl {b id:Nat}{out:List Nd}{D:zAb}{v:Ab}{H:Aa}(h:VS b id out D v H):∃tk,v=.sl (enL cNd out) tk:=by rcases h.hv with ⟨rfl,rfl⟩ | ⟨t,_,rfl,_⟩;exact⟨_,rfl⟩;exact⟨_,rfl⟩
theorem P8 {H:Aa}{i:Nat}{x:Blk}(B:Blk)(h:H[i]? = some x):(H++[B])[i]? = some x:=by have:=(W5.1 h).1;rw[W8 this];exact h
theorem VS.snoc {b id:Nat}{out:List Nd}{D:zAb}{v:Ab}{H:Aa}(h:VS b id out D v H)(B:Blk):VS b id out D v (H++[B]):=by refine⟨?_,P8 B h.hd⟩;rcases h.hv with h1 | ⟨t,h1,h2,h3⟩;exact .inl h1;exact .inr ⟨t,h1,h2,P8 B h3⟩
theorem Ext.snoc {b id:Nat}{H:Aa}(hb:b<=H.length)(B:Blk):Ext b id H (H++[B]):=
 ⟨by simp,λi cs _ h=>P8 B h,λi hi=>by rw[W8 (by omega)]⟩
theorem VS.put {b id p:Nat}{out:List Nd}{D:zAb}{v:Ab}{H:Aa}{c c':List Ab}(h:VS b id out D v H)(hp:H[p]? = some (.c0 c))(hne:p≠id):VS b id out D v (H.set p (.c0 c')):=by
 refine⟨?_,by rw[WA hne];exact h.hd⟩;rcases h.hv with h1 | ⟨t,h1,h2,h3⟩;exact .inl h1
 ·refine .inr ⟨t,h1,h2,?_⟩;have:p≠t:=λe=>by rw[<-e,hp]at h3;cases h3
  rw[WA this];exact h3
theorem VS.app {b id:Nat}{out:List Nd}{D:zAb}{v:Ab}{H:Aa}(h:VS b id out D v H)(hb:b<=H.length)(x:Nd)(hl:out.length<3518437208883):∃v' H',AW AP 5 40 v (.sl (enL cNd [x]) .ti) H=some (v',H')/\VS b id (out++[x]) D v' H'/\Ext b id H H':=by
 rcases h.hv with ⟨rfl,rfl⟩ | ⟨t,h1,rfl,h3⟩;have:=Dh (f:=cNd) (l:=[]) (m:=[x]) (ty:=AP) (bytes:=40) (tk:=.ti) (H:=H) (by simp) (by simp) (by simp);refine⟨_,_,this,⟨.inr ⟨H.length,hb,rfl,by simp⟩,P8 _ h.hd⟩,Ext.snoc hb _⟩;have:=F4 (f:=cNd) (l:=out) (m:=[x]) (ty:=AP) (bytes:=40) (tk:=.ti) (H:=H) (t:=t) (by simp) h3 (by simp;omega) (by simp;omega);have iI:=(W5.1 h3).1;refine⟨_,_,this,⟨.inr ⟨t,h1,rfl,by simp[iI]⟩,?_⟩,⟨by simp,λi cs hi hc=>?_,λi hi=>?_⟩⟩;have:t≠id:=λe=>(by have:=h.hd;rw[<-e,h3]at this;cases this);rw[WA this];exact h.hd;have:t≠i:=λe=>(by rw[<-e,h3]at hc;cases hc);rw[WA this];exact hc;rw[WA (by omega)]
structure VI (L out:List Nd)(D:zAb):Prop where
 len:D.length=L.length+1
 cnt:out.length<=D.countP (λd=>decide (0<d))
 val:∀(n d:Nat),D[n]? = some d->0<d->Bp L (A3 L) (A8 L n).lv.toNat n out=(out,d)
theorem VI.grow {L out r:List Nd}{D:zAb}(h:∀(n d:Nat),D[n]? = some d->0<d->Bp L (A3 L) (A8 L n).lv.toNat n out=(out,d)):∀(n d:Nat),D[n]? = some d->0<d->Bp L (A3 L) (A8 L n).lv.toNat n (out++r)=(out++r,d):=by
 intro n d h1 h2;have h3:=h n d h1 h2;have:=Jl (L:=L) (E:=A3 L) (A8 L n).lv.toNat n out r
 rwa [h3]at this
theorem VI.le {L out:List Nd}{D:zAb}(h:VI L out D):out.length<=L.length+1:=by have:=h.cnt;have:=List.countP_le_length (p:=λd:Nat=>decide (0<d)) (l:=D);have:=h.len;omega
theorem VlI {L:List Nd}{E:List Bool}{v n:Nat}{out:List Nd}(he:E.getD n true=false)(hl:1<(A8 L n).lv):Bp L E (v+1) n out=BL (Ca (Bp L E v) (A8 L n) 4 out).1 (Ca (Bp L E v) (A8 L n) 4 out).2:=by simp only[Bp,he,WB,if_false,if_pos hl]
theorem ViN {L:List Nd}{E:List Bool}{v n:Nat}{out:List Nd}(he:E.getD n true=false)(hl:¬1<(A8 L n).lv):Bp L E (v+1) n out=BL out (A8 L n):=by simp only[Bp,he,WB,if_false,if_neg hl]
theorem Vbe (rec:Nat->List Nd->List Nd×Nat)(x:Nd):∀k out,(Ca rec x k out).2.lv=x.lv
 |0,out=>rfl
 |k+1,out=>by simp only[Ca,Vv];exact Vbe rec x k out
theorem Vc6 (rec:Nat->List Nd->List Nd×Nat)(x:Nd):∀k out j,k<=j->j<4->(Ca rec x k out).2.kid j=x.kid j
 |0,out,j,_,_=>rfl
 |k+1,out,j,h1,h2=>by simp only[Ca];rw[F9 _ _ (by omega) h2 (by omega)];exact Vc6 rec x k out j (by omega) h2
theorem V9 {L:List Nd}(tk tk2:Tok)(b id:Nat)(hL:L.length<3518437208880)(hl:AF L=true):∀(v n d:Nat)(out:List Nd)(D:zAb)(w:Ab)(H:Aa),n<=L.length->(n=0\/(A8 L n).lv.toNat=v)->v<d->b<=id->id<H.length->VS b id out D w H->VI L out D ->
  ∃H' D' w',Ufc d (.sl (enL cNd L) tk) (.sl (enL cB (A3 L)) tk2) (.i6 (n:Int)) w (.ms id 0 0 (L.length+1) (L.length+1) 1 true) H=some (.ret (.tup [w',.ms id 0 0 (L.length+1) (L.length+1) 1 true,.i6 ((Bp L (A3 L) v n out).2:Int)]),H') /\
   VS b id (Bp L (A3 L) v n out).1 D' w' H'/\Ext b id H H'/\VI L (Bp L (A3 L) v n out).1 D'/\∀j,n<j->D'[j]? = D[j]? := by
 intro v
 induction v with
 |zero=>
  intro n d out D w H hn hv hd tT hid hVS hVI;have hb:b<=H.length:=by omega
  obtain⟨d,rfl⟩:∃e,d=e+1:=⟨d-1,by omega⟩;have dT:n=0:=by rcases hv with h | h;exact h;cases n with|zero=>rfl|succ m=>rw[Bd (show m<L.length from hn)]at h;have:=(AQ hl (show m<L.length from hn)).1;omega
  subst dT;have hlt:0<(A3 L).length:=by rw[CY];omega
  have he:(A3 L)[0]=true:=by have:=Ej L;rw[W6,W4 hlt]at this;exact this
  refine⟨H,D,w,?_,hVS,Ext.refl _ _ _,hVI,λ_ _=>rfl⟩;show UbD (Ufc d) _ _ _ _ _ _=_;unfold UbD;simp only[GMw,Aq,Ae,A5,W9,Nat.add_zero,WK,Cy,Ay hlt,zXh,he]
  rfl
 |succ v ih=>
  intro n d out D w H hn hv hd tT hid hVS hVI;have hb:b<=H.length:=by omega
  obtain⟨d,rfl⟩:∃e,d=e+1:=⟨d-1,by omega⟩;have hlt:n<(A3 L).length:=by rw[CY];omega
  have eX:(A3 L).getD n true=(A3 L)[n]:=by rw[W6,W4 hlt];rfl
  have hDn:n<D.length:=by rw[hVI.len];omega
  have hidx:=Db (sz:=1) (id:=id) (n:=L.length+1) (K:=.i64) (g:=0) (off:=0) (cap:=L.length+1) (ex:=true) (i:=n) (by omega);simp only[W9,WK]at hidx;have hld:=ID (f:=cN) (Ax hVS.hd) hDn;show ∃H' D' w',UbD (Ufc d) _ _ _ _ _ _=_/\_;unfold UbD;simp only[GMw,Aq,Ae,A5,W9,Nat.add_zero,WK,Cy,Ay hlt,zXh];cases he:(A3 L)[n]with
  |true=>have e:Bp L (A3 L) (v+1) n out=(out,0):=(by simp only[Bp,eX,he,if_true]);rw[e];exact⟨H,D,w,by simp only[GMw];rfl,hVS,Ext.refl _ _ _,hVI,λ_ _=>rfl⟩
  |false=>
   rw[he]at eX;simp only[GMw,hidx,hld,zXh];by_cases hpos:0<D[n];have hi:(D[n]:Int)>0:=(by omega);have aP:(A8 L n).lv.toNat=v+1:=(by rcases hv with h | h;exfalso;subst h;rw[Ej]at eX;cases eX;exact h);have e:=hVI.val n D[n] (W4 hDn) hpos;rw[aP]at e;rw[e];exact⟨H,D,w,by simp only[GMw,hi],hVS,Ext.refl _ _ _,hVI,λ_ _=>rfl⟩
   ·have hi:¬(D[n]:Int)>0:=(by omega);have hD0:D[n]=0:=(by omega);obtain⟨m,rfl⟩:∃m,n=m+1:=⟨n-1,by
     cases n with
     |zero=>rw[Ej]at eX;cases eX
     |succ n=>rfl⟩
    have hm:m<L.length:=hn;have aP:(A8 L ((m+1:Nat):Int)).lv.toNat=v+1:=(by rcases hv with h | h;omega;exact h);obtain⟨l1,l2,l3⟩:=AQ hl hm;have hx:A8 L ((m+1:Nat):Int)=L[m]:=Bd hm;rw[hx]at aP;have dA:IntKind.i64.wrap (((m+1:Nat):Int)-1)=(m:Int):=(by rw[Am]<;>omega);simp only[GMw,hi,dA,Ay hm,JH,Qg,Kl (An (B:=H) (cs:=cNd nd0)) rfl,Be];generalize hX:L[m]=x at l1 l2 l3 aP hx;have qP:H.length≠id:=(by omega);have loop:=Fk (G:=λrec1 vs H1=>Ud4 H (Ufc d) rec1 (ag vs 0) (ag vs 1) (ag vs 2) (ag vs 3) (ag vs 4) (ag vs 5) (ag vs 6) H1) (if 1<x.lv then 4 else 0)
     (λk vs Hc=>∃w' D',vs=[.sl (enL cNd L) tk,.sl (enL cB (A3 L)) tk2,.i6 ((m+1:Nat):Int),w',.ms id 0 0 (L.length+1) (L.length+1) 1 true,.ptr H.length 0 0,.i6 (k:Int)]/\VS b id (Ca (Bp L (A3 L) v) x k out).1 D' w' Hc/\Hc[H.length]? = some (.c0 (cNd (Ca (Bp L (A3 L) v) x k out).2))/\Ext b id H Hc/\VI L (Ca (Bp L (A3 L) v) x k out).1 D'/\(∀j,m<j->D'[j]? = D[j]?))
     (by split<;>decide) (λk vs Hc hk hI=>?_) (vs:=[.sl (enL cNd L) tk,.sl (enL cB (A3 L)) tk2,.i6 ((m+1:Nat):Int),w,.ms id 0 0 (L.length+1) (L.length+1) 1 true,.ptr H.length 0 0,.i6 0]) (H:=H++[.c0 (cNd x)]) ⟨w,D,rfl,hVS.snoc _,by simp[Ca],Ext.snoc hb _,hVI,λ_ _=>rfl⟩
    ·obtain⟨vs',Hc,⟨w',D',rfl,hVS',hcell,hExt,hVI',hDD⟩,rec,aB⟩:=loop;rw[aB];unfold Ud4;obtain⟨tkk,rfl⟩:=hVS'.sl;have hle:=hVI'.le;have xO:(AD (.bool (decide (((if 1<x.lv then 4 else 0:Nat):Int)<4))) (.bool (decide (x.lv>1))) (.bool false))=some (.bool false):=(by by_cases h:1<x.lv<;>simp[h]);have lO:(Ca (Bp L (A3 L) v) x (if 1<x.lv then 4 else 0) out).2.lv=x.lv:=Vbe _ _ _ _;have dR:Bp L (A3 L) (v+1) (m+1) out=BL (Ca (Bp L (A3 L) v) x (if 1<x.lv then 4 else 0) out).1 (Ca (Bp L (A3 L) v) x (if 1<x.lv then 4 else 0) out).2:=(by by_cases h:1<x.lv;rw[if_pos h,VlI eX (by rw[hx];exact h),hx];rw[if_neg h,ViN eX (by rw[hx];exact h),hx];rfl);have hpre:=TM (TN (L:=L) (E:=A3 L) v) x (if 1<x.lv then 4 else 0) out;rw[dR];have cG:=Jl (L:=L) (E:=A3 L) (v+1) (m+1) out [];rw[WU,dR]at cG;generalize (Ca (Bp L (A3 L) v) x (if 1<x.lv then 4 else 0) out)=io at *;obtain⟨o,y⟩:=io;dsimp only at hVS' hcell hVI' lO hpre cG hle⊢;have bT:∀(A B:Out),(gk (.bool (decide (((if 1<x.lv then 4 else 0:Nat):Int)<4))) true (Ac 0 (.ptr H.length 0 0)) λx29=>gk (.bool (decide (((if 1<x.lv then 4 else 0:Nat):Int)<4))) true (Ad false 1 x29 Hc) λx30=>gk (.bool (decide (((if 1<x.lv then 4 else 0:Nat):Int)<4))) true (Af .none .gtr x30 (.i6 1)) λx31=>(AD (.bool (decide (((if 1<x.lv then 4 else 0:Nat):Int)<4))) x31 (.bool false)).bind λx32=>Ak x32 A B)=B:=(by intro A B;by_cases h:1<x.lv;have hf:¬(((4:Nat):Int)<4):=(by decide);simp only[if_pos h,hf,GMw];have hf:(((0:Nat):Int)<4):=(by decide);have h':¬x.lv>1:=h;simp only[if_neg h,hf,GMw,Ae,Nat.add_zero,TI hcell,lO,h']);simp only[Ao,Aj,Bn,BA];rw[bT];have sC:Av 1 (.ms id 0 0 (L.length+1) (L.length+1) 1 true) (.i6 ((m+1:Nat):Int))=some (.ptr id 0 (m+1)):=hidx;have hD'n:D'[m+1]? = some 0:=(by rw[hDD (m+1) (by omega),W4 hDn,hD0]);have hDl:m+1<D'.length:=(by rw[hVI'.len];omega);have hD'e:D'[m+1]=0:=(by rw[W4 hDl]at hD'n;injection hD'n);have fin:∀(o':List Nd)(i:Nat)(w2:Ab)(H2:Aa),BL o y=(o',i)->VS b id o' D' w2 H2->Ext b id H H2->VI L o D'->o'.length<=o.length+1->(∃r,o'=o++r) ->
       ∃H' D'' w'',Uew H (.i6 ((m+1:Nat):Int)) w2 (.ms id 0 0 (L.length+1) (L.length+1) 1 true) (.i6 (i:Int)) H2=some (.ret (.tup [w'',.ms id 0 0 (L.length+1) (L.length+1) 1 true,.i6 (i:Int)]),H')/\VS b id o' D'' w'' H'/\Ext b id H H'/\VI L o' D''/\∀j,m+1<j->D''[j]? = D[j]? := by
      intro o' i w2 H2 hp hV2 hE2 hI2 hlen ⟨r,hr⟩;have jH:0<i:=(by have:=MC o y;rw[hp]at this;exact this);have hst:=Ee (f:=cN) (sz:=1) (l:=D') (i:=m+1) (a:=i) (v:=.i6 (i:Int)) (Ax hV2.hd) hDl rfl;rw[Bw hV2.hd,WK]at hst;have lT:=(W5.1 hV2.hd).1;refine⟨H2.set id (.c0 (flat cN (D'.set (m+1) i))),D'.set (m+1) i,w2,by unfold Uew;simp only[GMw,sC,hst],⟨?_,by simp[lT]⟩,⟨by simp;exact hE2.len,λj cs hj hc=>?_,λj hj=>?_⟩,⟨by simp[hI2.len],?_,?_⟩,λj hj=>?_⟩;rcases hV2.hv with h1 | ⟨t,h1,h2,h3⟩;exact .inl h1;refine .inr ⟨t,h1,h2,?_⟩;have:id≠t:=λe=>(by have:=hV2.hd;rw[e,h3]at this;cases this);rw[WA this];exact h3;rw[WA (λe=>hj e.symm)];exact hE2.cel j cs hj hc;rw[WA (by omega)];exact hE2.old j hj;rw[List.countP_set hDl];have:=hI2.cnt;simp only[hD'e,jH,decide_true,if_true,Nat.lt_irrefl,decide_false,WB,if_false,Nat.sub_zero];omega;intro j dd hj jI;by_cases yG:j=m+1;subst yG;rw[WJ hDl]at hj;injection hj with hj;subst hj;rw[hx,aP];rw[hp]at cG;exact cG;rw[WA (λe=>yG e.symm)]at hj;rw[hr];exact VI.grow hI2.val j dd hj jI;rw[WA (by omega)];exact hDD j (by omega)
     have dS:=Vig o tkk y Hc (by omega);simp only[GMw,Ig hcell,dS];by_cases hf:C4 o y=0;have hp:BL o y=(o++[y],o.length+1):=(by simp[BL,hf]);obtain⟨w2,H2,ha,hV2,hE2⟩:=hVS'.app (WV hb hExt.len) y (by omega);obtain⟨tk3,rfl⟩:=hV2.sl;have h0:((C4 o y:Nat):Int)=0:=(by omega);obtain⟨H',D'',w'',q1,q2,q3,q4,q5⟩:=fin (o++[y]) (o.length+1) _ H2 hp hV2 (hExt.trans hE2) hVI' (by simp) ⟨[y],rfl⟩;refine⟨H',D'',w'',?_,by rw[hp];exact q2,q3,by rw[hp];exact q4,q5⟩;rw[hp,<-q1];simp only[GMw,h0,KC,ha,Aw,WC,zXi];have hp:BL o y=(o,C4 o y):=(by simp[BL,hf]);have h0:¬((C4 o y:Nat):Int)=0:=(by omega);obtain⟨H',D'',w'',q1,q2,q3,q4,q5⟩:=fin o (C4 o y) _ Hc hp hVS' hExt hVI' (by omega) ⟨[],by simp⟩;refine⟨H',D'',w'',?_,by rw[hp];exact q2,q3,by rw[hp];exact q4,q5⟩;rw[hp,<-q1];simp only[GMw,h0]
    ·obtain⟨w',D',rfl,hVS',hcell,hExt,hVI',hDD⟩:=hI;have aJ:1<x.lv:=(by by_cases h:1<x.lv;exact h;rw[if_neg h]at hk;omega);rw[if_pos aJ]at hk;obtain⟨q1,q2,q3⟩:=l3 k hk;have hk':(k:Int)<4:=(by omega);have lO:=Vbe (Bp L (A3 L) v) x k out;have aZ:=Vc6 (Bp L (A3 L) v) x k out k (W7 _) hk;obtain⟨c,hc⟩:=X3 q1;have hcle:c<=m:=(by by_cases h0:0<x.kid k;have:=(q3 aJ h0).1;omega;omega);have wO:c=0\/(A8 L (c:Int)).lv.toNat=v:=(by by_cases h0:0<x.kid k;right;obtain⟨c',rfl⟩:∃c',c=c'+1:=⟨c-1,by omega⟩;have aG:c'<L.length:=(by omega);have:=(q3 aJ h0).2 L[c'] (by rw[show(x.kid k-1).toNat=c' from by omega];exact W4 aG);rw[Bd aG];omega;left;omega);obtain⟨H1,D1,w1,r1,r2,r3,r4,r5⟩:=ih c d (Ca (Bp L (A3 L) v) x k out).1 D' w' Hc (by omega) wO (by omega) tT (X1 hid hExt.len) hVS' hVI';have iC:=r3.cel _ _ qP hcell;have kT:(x.kid k).toNat=c:=(by omega);refine⟨[.sl (enL cNd L) tk,.sl (enL cB (A3 L)) tk2,.i6 ((m+1:Nat):Int),w1,.ms id 0 0 (L.length+1) (L.length+1) 1 true,.ptr H.length 0 0,.i6 ((k+1:Nat):Int)],H1.set H.length (.c0 (cNd ((Ca (Bp L (A3 L) v) x k out).2.setKid k ((Bp L (A3 L) v c (Ca (Bp L (A3 L) v) x k out).1).2:Int)))),⟨w1,D1,rfl,?_,?_,?_,?_,?_⟩,λrec=>?_⟩
     rotate_left 5
     unfold Ud4;simp only[Ao,Aj,GMw,hk',Ae,Nat.add_zero,W9,TI hcell,lO,show x.lv>1 from aJ,Ih hk,VO hcell hk,aZ,hc,r1,B4,BE,Wk,Fg iC hk,Au (show k<9223372036854775807 by omega)];simp only[Ca,kT];exact r2.put iC qP;have cM:=(W5.1 iC).1;simp only[Ca,kT];rw[WJ cM];refine⟨by simp;exact(hExt.trans r3).len,λi cs hi hcs=>?_,λi hi=>?_⟩;have:=(W5.1 hcs).1;rw[WA (by omega)];exact(hExt.trans r3).cel i cs hi hcs;rw[WA (by omega)];exact(hExt.trans r3).old i hi;simp only[Ca,kT];exact r4;intro j hj;rw[r5 j (by omega)];exact hDD j hj
theorem Cv {H H0:Aa}(h:∀i,i<H0.length->H[i]? = H0[i]?):H.take H0.length=H0:=by apply Ye;intro i;by_cases hi:i<H0.length;rw[Xx hi,h i hi];rw[zYb (by simp;omega),zYb (by omega)]
theorem SX:∀(f:Nat)(L:List Nd)(n:Nat),AF L=true->n<=L.length->AF (BT f L n).1=true/\(BT f L n).2<=(BT f L n).1.length/\(BT f L n).1.length<=L.length+f
 |0,L,n,hl,hn=>⟨hl,hn,W7 _⟩
 |f+1,L,n,hl,hn=>by
  unfold BT;cases hh:DQ L n with
  |false=>exact⟨hl,hn,by show L.length<=_;omega⟩
  |true=>obtain⟨h0,h2⟩:=NL hh;obtain⟨m,rfl⟩:∃m,n=m+1:=⟨n-1,by omega⟩;rw[Bd hn]at h2;obtain⟨r1,r2,r3⟩:=SX f (L++[Cm L (m+1)]) (L.length+1) (NK hl hn h2) (by simp);simp only[if_true];refine⟨r1,r2,?_⟩;simp at r3;omega
theorem PK {L:List Nd}{n:Nat}(h:(A3 L).getD n true=false):0<n:=by cases n with|zero=>rw[Ej]at h;cases h|succ n=>omega
theorem Pt {L:List Nd}(hl:AF L=true){n:Nat}(h0:0<n)(hn:n<=L.length):(A8 L (n:Int)).lv.toNat<=1329:=by obtain⟨m,rfl⟩:∃m,n=m+1:=⟨n-1,by omega⟩;rw[Bd hn];have:=(AQ hl hn).2.1;omega
theorem Qs {L:List Nd}{n:Nat}(hl:AF L=true)(hn:n<=L.length):AF (DW L n).1=true/\(DW L n).2<=(DW L n).1.length/\(DW L n).1.length<=L.length+1329:=by
 unfold DW;cases he:(A3 L).getD n true with
 |true=>exact⟨hl,WZ _,by show L.length<=_;omega⟩
 |false=>obtain⟨r1,r2,r3⟩:=SX (A8 L n).lv.toNat L n hl hn;have:=Pt hl (PK he) hn;simp only[WB,if_false];exact⟨r1,r2,by omega⟩
def Jv (L:List Nd)(n:Nat):List Nd:=(Bp (DW L n).1 (A3 (DW L n).1) (A8 (DW L n).1 ((DW L n).2:Int)).lv.toNat (DW L n).2 []).1
def T9 (L:List Nd)(n:Int):Bool:=AF L&&decide (0<=n)&&decide (n<=L.length)
theorem Vn3 (L:List Nd)(tk:Tok)(n:Int)(H:Aa)(hL:L.length<3518437200000):Ud5 (.sl (enL cNd L) tk) (.i6 n) H =
  some (.ret (if T9 L n then .tup [Dp (Jv L n.toNat),.i6 0]else .tup [Dp [],.i6 1]),H):=by
 unfold Ud5;rw[alloc_eq (cs:=[.sl [] .ti]) rfl];have hcell:∀G:Aa,(H++[Blk.c0 [.sl [] .ti]]++G)[H.length]? = some (.c0 [.sl [] .ti]):=λG=>by simp
 have bad:∀(k:Ab->Aa->Out),(∀v G,k v G=(Ex [Ad true 1 (.ptr H.length 0 0) G,some (.i6 1)]).bind λx19=>rPN H x19 G) ->
   ((A6 (some [(.sl [] .ti)]) []).bind λx16=>bP H (AA (Ai 1 (.ptr H.length 0 0) x16 (H++[.c0 [.sl [] .ti]]))) k)=some (.ret (.tup [Dp [],.i6 1]),H):=by
  intro k hk;have hb:A6 (some [(.sl [] .ti)]) []=some (.agg [.sl [] .ti]):=rfl;simp only[GMw,hb,KK,Qn (sz:=1) (cs:=[.sl [] .ti]) (vs:=[.sl [] .ti]) (v:=.agg [.sl [] .ti]) rfl rfl rfl,zXb,hk,FE,TG,zXi,EX,Dl,DN];simp only[C8,Cs,By,BB,FH,DR,EE,GV,Dc,GMw,zXb]
  rfl
 simp only[GMw,VA L tk _ (show L.length<1152921504606846976 by omega)];unfold T9;cases hl:AF L with
 |false=>simp only[GMw];exact bad _ λv G=>rfl
 |true=>
  simp only[GMw,Aw];by_cases dT:n<0;have:¬0<=n:=(by omega);simp only[GMw,dT,this];exact bad _ λv G=>rfl
  ·have dY:0<=n:=(by omega);by_cases cL:n>L.length;have:¬n<=L.length:=(by omega);simp only[GMw,dT,dY,cL,this,Aw];exact bad _ λv G=>rfl
   ·obtain⟨n,rfl⟩:=X3 dY;have hle:n<=L.length:=(by omega);have iV:(n:Int)<=(L.length:Int):=(by omega);have pD:¬(n:Int)>(L.length:Int):=cL;obtain⟨s1,s2,s3⟩:=Qs hl hle;simp only[GMw,dT,dY,pD,iV,Aw,Vd8 L tk n _ (show L.length<3518437200000 by omega) hl hle,B4,BE];unfold Jv;simp only[zXl];generalize DW L n=s at s1 s2 s3;obtain⟨M,r⟩:=s;dsimp only at s1 s2 s3⊢;have dC:=FB (f:=cN) (a:=0) (n:=M.length+1) (bytes:=8) (H:=H++[.c0 [.sl [] .ti]]) (by omega) (by omega);simp only[show cN 0=[Ab.i6 0] from rfl]at dC;simp only[GMw,JC M .no _ (show M.length<140737488355327 by omega) s1,Aw,Au (show M.length<9223372036854775807 by omega),dC];have nY:(A8 M (r:Int)).lv.toNat<AU:=(by rw[Dj];by_cases hr:0<r;have:=Pt s1 hr s2;omega;obtain rfl:r=0:=(by omega);unfold A8;rw[W6];by_cases hM:0<M.length;rw[show(((0:Nat):Int)-1).toNat=0 from rfl,W4 hM];have:=(AQ s1 hM).2.1;simp only[Option.getD_some];omega;rw[show(((0:Nat):Int)-1).toNat=0 from rfl,zYb (by omega)];simp);obtain⟨H',D',w',v1,v2,v3,v4,v5⟩:=V9 (L:=M) .no .no (H++[Blk.c0 [.sl [] .ti]]).length (H++[Blk.c0 [.sl [] .ti]]).length (by omega) s1 (A8 M (r:Int)).lv.toNat r AU [] (List.replicate (M.length+1) 0) (.sl [] .ti) (H++[.c0 [.sl [] .ti]]++[.c0 (flat cN (List.replicate (M.length+1) 0))])
     s2 (.inr rfl) nY (W7 _) (by simp) ⟨.inl ⟨rfl,rfl⟩,An⟩ ⟨by simp,by simp,λj dd hj jI=>by have:=Xa hj;rw[Y8]at this;omega⟩
    have hold:∀i,i<H.length+1->H'[i]? = (H++[Blk.c0 [.sl [] .ti]])[i]? := λi hi=>(by rw[v3.old i (by simpa using hi),W8 (by simpa using hi)]);have bU:H'[H.length]? = some (.c0 [.sl [] .ti]):=(by rw[hold _ (by omega)];simp);have aG:=(W5.1 bU).1;obtain⟨tk3,rfl⟩:=v2.sl;generalize (Bp M (A3 M) (A8 M (r:Int)).lv.toNat r []).1=Q at v1 v2 v4⊢;have hb:A6 (some [(.sl [] .ti)]) [(0,1,.sl (enL cNd Q) tk3)]=some (.agg [.sl (enL cNd Q) tk3]):=(by simp[A6,GF,D7]);have hst:Ai 1 (.ptr H.length 0 0) (.agg [.sl (enL cNd Q) tk3]) H'=some (H'.set H.length (.c0 [.sl (enL cNd Q) tk3])):=(by simp only[Ai,Ax bU,zXa,Bw bU];rfl);have hld:Ad true 1 (.ptr H.length 0 0) (H'.set H.length (.c0 [.sl (enL cNd Q) tk3]))=some (.agg [.sl (enL cNd Q) tk3]):=(by have:(H'.set H.length (.c0 [.sl (enL cNd Q) tk3]))[H.length]? = some (.c0 [.sl (enL cNd Q) tk3]):=(by rw[WJ aG]);simp only[Ad,Ax this,zXa];rfl);have aT:(H'.set H.length (.c0 [.sl (enL cNd Q) tk3])).take H.length=H:=Cv λi hi=>(by rw[WA (by omega),hold i (by omega),W8 hi]);simp only[GMw,v1,B4,hb,hst,hld,EX,Dl,DN,zXb,Gz aT,Cs,By,BB,FH,DR,EE,GV,Dc]
    rfl
theorem VaP (l:List Bool)(tk:Tok)(H:Aa)(hb:l.length<1152921504606846976):UaF (.sl (enL cB l) tk) H=some (.ret (.sl (enL cB (DG l)) .no),H):=by
 unfold UaF;refine Bv (σ:=List Bool×Tok) (λs=>s.1.length<1152921504606846976) (λs=>[.sl (enL cB s.1) s.2]) (λ_=>H) (λs=>s.1.length) (λs=>some (.ret (.sl (enL cB (DG s.1)) .no),H)) (λs rec hs hrec=>?_) (l,tk) hb hb;obtain⟨l,tk⟩:=s;simp only at hs hrec⊢;unfold UcR;rcases HE l with rfl | ⟨l',b,rfl⟩;simp[Vju]
 ·simp only[WC,zXi]at hs hrec;have h1:l'.length<(l'++[b]).length:=by simp
  have h2:((((l'++[b]).length:Nat):Int)>0):=by simp
  have h3:IntKind.i64.wrap ((((l'++[b]).length:Nat):Int)-1)=(l'.length:Int):=by rw[Am]<;>simp<;>omega
  simp only[Ao,Aw,zXa,DF,h2,decide_true,Hu,DE,h3,Ay h1,A5,zXh,JS,Cg,XA (W7 _),Xi,List.getElem_cons_zero];cases b with|true=>simp[Rk]|false=>have:=hrec (l',FY tk 0 l'.length (l'++[false]).length false) (by dsimp only;omega) (by simp);simp only[X2,AZ,VbQ (Nat.le_of_lt h1),zXa,List.take_left',this,OK]
theorem Vfn (l:List Bool)(tk:Tok)(i:Int)(H:Aa):Uem (.sl (enL cB l) tk) (.i6 i) H=some (.ret (.bool (decide (0<=i)&&l.getD i.toNat false)),H):=by unfold Uem;by_cases h0:0<=i;obtain⟨n,rfl⟩:=X3 h0;by_cases h1:n<l.length;have h2:(n:Int)<(l.length:Int):=(by omega);simp[h2,Ay h1,W6,W4 h1];have h2:¬(n:Int)<(l.length:Int):=(by omega);simp[h2,W6,zYb (Nat.le_of_not_lt h1)];simp[h0]
theorem If (l:zAb)(tk:Tok)(H:Aa)(hl:l.length<=2199023255552)(hx:Lim l):Uda (.sl (enL cU l) tk) H=some (.ret (.sl (enL cB (DG (AY l))) .no),H):=by
 unfold Uda;refine Cx l.length (λi=>[.sl (enL cU l) tk,E4 cB H (AY (l.take i)),.i6 (i:Int)]) (λi=>Ep cB Cf 1 H (AY (l.take i))) _ (by omega) (λrec i hi=>?_) (λrec=>?_)
 ·have aE:(i:Int)<(l.length:Int):=by omega
  have aH:l[i]<4294967296:=hx _ (WI hi);have htk:AY (l.take (i+1))=AY (l.take i)++DH 32 l[i]:=by rw[WF hi,AY,List.flatMap_append];simp[AY]
  have hlen:(AY (l.take i)).length<=32*2199023255552:=by rw[C6];simp;omega
  unfold Ubv;simp only[Ao,Bf,Bj,Aw,zXa,Bn,aE,decide_true,AZ,Ay hi,A5,zXh,htk];generalize AY (l.take i)=o at hlen;generalize l[i]=x at aH;refine Bv (σ:=Nat×Nat×List Bool) (λs=>s.1<=32/\s.2.1<4294967296/\s.2.2.length<=o.length+s.1) (λs=>[.sl (enL cU l) tk,E4 cB H s.2.2,.i6 (i:Int),.int .u32 (s.2.1:Int),.i6 (s.1:Int)]) (λs=>Ep cB Cf 1 H s.2.2) (λs=>32-s.1)
   (λs=>rec [.sl (enL cU l) tk,E4 cB H (s.2.2++DH (32-s.1) s.2.1),.i6 ((i+1:Nat):Int)] (Ep cB Cf 1 H (s.2.2++DH (32-s.1) s.2.1))) (λs aA hs hrec=>?_) (0,x,o) ⟨by dsimp only;omega,aH,by dsimp only;omega⟩ (by dsimp only;omega)
  obtain⟨k,y,p⟩:=s;obtain⟨hk,hy,hp⟩:=hs;simp only at hk hy hp hrec⊢;unfold Uei;by_cases h:k<32;have h':(k:Int)<32:=(by omega);have e1:(y:Int).tmod 2=((y%2:Nat):Int):=rfl;have e2:IntKind.u32.wrap ((y:Int).tdiv 2)=((y / 2:Nat):Int):=(by rw[show(y:Int).tdiv 2=((y / 2:Nat):Int) from rfl,D3]<;>omega);have e3:(((y%2:Nat):Int)==1)=(y%2==1):=(by rw[WP];simp only[beq_iff_eq];omega);have e4:IntKind.i64.wrap ((k:Int)+1)=((k+1:Nat):Int):=(by rw[Am]<;>omega);have:=hrec (k+1,y / 2,p++[y%2==1]) ⟨h,by dsimp only;omega,by simp;omega⟩ (by dsimp only;omega);simp only[Ao,Bf,Bj,B6,BQ,Bn,h',decide_true,zXa,AZ,IP (show(2:Int)≠0 by decide),Qd (show(2:Int)≠0 by decide),e1,e2,Dy,e3,SI];rw[F5 (by simp) (by simp;omega) (by simp;omega)];simp only[D5,CQ,CP,zXa,e4,this];rw[show 32-k=(32-(k+1))+1 from by omega,DH];simp;have:k=32:=(by omega);subst this;have e4:IntKind.i64.wrap ((i:Int)+1)=((i+1:Nat):Int):=(by rw[Am]<;>omega);simp[DH,e4]
 unfold Ubv;obtain⟨G,hG⟩:=HW (f:=cB) (ty:=Cf) (sz:=1) H (AY l);rw[WH (W7 _)];simp only[Ao,Bf,Bj,GQ,hG,Aw,zXa,Bn,Xm,decide_false,AL,VaP (AY l) _ _ (by rw[C6];omega),CQ,C8,HZ,zXb]
theorem Tq (l:List Bool)(tk:Tok)(H:Aa)(hl:l.length<=70368744177664):Ufa (.sl (enL cB l) tk) H=some (.ret (.sl (enL cU (AB (Bu l))) .no),H):=by
 unfold Ufa;have aG:=IK l;rw[VaP l tk H (by omega),<-VdI,La];simp only[CQ];generalize DG l=c at aG;obtain⟨n,hn⟩:∃n,n=(c.length+31) / 32:=⟨_,rfl⟩;rw[<-hn];refine Cx n (λq=>[.sl (enL cB c) .no,E4 cU H (E9 c q),.i6 ((32*q:Nat):Int)]) (λq=>Ep cU Co 1 H (E9 c q)) _ (by omega) (λrec q hq=>?_) (λrec=>?_)
 ·have iK:((32*q:Nat):Int)<(c.length:Int):=by omega
  unfold UcS;simp only[Ao,Bf,Bj,Aw,zXa,Bn,iK,decide_true,AZ];have hlo:(E9 c q).length=q:=MP c q;rw[KZ];generalize E9 c q=o at hlo;refine Bv (σ:=Nat) (λj=>j<=min 32 (c.length-32*q)) (λj=>[.sl (enL cB c) .no,E4 cU H o,.i6 ((32*q:Nat):Int),.int .u32 ((Bu ((c.drop (32*q)).take j):Nat):Int),.int .u32 (IntKind.u32.wrap ((2:Int)^j)),.i6 ((32*q+j:Nat):Int)]) (λ_=>Ep cU Co 1 H o) (λj=>32-j)
   (λ_=>rec [.sl (enL cB c) .no,E4 cU H (o++[GS c q]),.i6 ((32*(q+1):Nat):Int)] (Ep cU Co 1 H (o++[GS c q]))) (λj aA hj hrec=>?_) 0 (by omega) (by omega)
  unfold Ue8;have hw:IntKind.i64.wrap (((32*q:Nat):Int)+32)=((32*(q+1):Nat):Int):=by rw[Am]<;>omega
  by_cases h:j<min 32 (c.length-32*q);have h1:((32*q+j:Nat):Int)<(c.length:Int):=(by omega);have eQ:32*q+j<c.length:=(by omega);have h2:((32*q+j:Nat):Int)<((32*(q+1):Nat):Int):=(by omega);have bZ:IntKind.i64.wrap (((32*q+j:Nat):Int)+1)=((32*q+(j+1):Nat):Int):=(by rw[Am]<;>omega);have aT:(c.drop (32*q)).take (j+1)=(c.drop (32*q)).take j++[c[32*q+j]]:=(by rw[WF (by simp;omega)];simp);have hlen:((c.drop (32*q)).take j).length=j:=(by simp;omega);have vF:Bu ((c.drop (32*q)).take (j+1))=Bu ((c.drop (32*q)).take j)+(if c[32*q+j]then 2^j else 0):=(by rw[aT,DP,hlen];simp only[Bu];split<;>simp);have vP:=KU ((c.drop (32*q)).take j);rw[hlen]at vP;have hp:(2:Nat)^j*2<=2^32:=(by rw[<-Nat.pow_succ];exact Xe (by omega) (by omega));have uV:IntKind.u32.wrap ((2:Int)^j)=((2^j:Nat):Int):=(by rw[show((2:Int)^j)=((2^j:Nat):Int) from by simp,D3]<;>omega);have aW:IntKind.u32.wrap (((Bu ((c.drop (32*q)).take j):Nat):Int)+((2^j:Nat):Int))=((Bu ((c.drop (32*q)).take j)+2^j:Nat):Int):=(by rw[D3]<;>omega);have dB:IntKind.u32.wrap (((2^j:Nat):Int)*2)=IntKind.u32.wrap ((2:Int)^(j+1)):=(by rw[Ya];simp);have:=hrec (j+1) (by omega) (by omega);rw[vF]at this;simp only[Ao,Bf,Bj,B6,BQ,DI,Aw,zXa,Bn,h1,decide_true,Hu,CP,hw,h2,Cg,AZ,AJ,Ay eQ,A5,zXh,uV];cases hb:c[32*q+j]with|true=>rw[hb]at this;simp only[AZ,CP,aW,zXa,Ao,Bf,Bj,B6,BQ,DI,Uej,IR,dB,bZ];simpa using this|false=>rw[hb]at this;simp only[AL,Ao,Bf,Bj,B6,BQ,DI,Uej,IR,CP,dB,bZ,zXa];simpa using this
  ·have hj':j=min 32 (c.length-32*q):=(by omega);have hx:Bu ((c.drop (32*q)).take j)=GS c q:=(by unfold GS;by_cases h:j=32;rw[h];rw[WH (by simp;omega),WH (by simp;omega)]);have tail:((AN 1 [.int .u32 ((GS c q:Nat):Int)]).bind λx40=>bP H (Cd (AW Co 1 4 (E4 cU H o) x40 (Ep cU Co 1 H o))) λx41 H42=>(Af .none .add (.i6 ((32*q:Nat):Int)) (.i6 32)).bind λx43=>rec [.sl (enL cB c) .no,x41,x43] H42)
     = rec [.sl (enL cB c) .no,E4 cU H (o++[GS c q]),.i6 ((32*(q+1):Nat):Int)] (Ep cU Co 1 H (o++[GS c q])):=by
    rw[Vmu];simp only[zXa];rw[F5 (by simp) (by simp;omega) (by simp;omega)];simp only[D5,CQ,CP,zXa,hw]
   rw[hx];by_cases h1:((32*q+j:Nat):Int)<(c.length:Int);have h2:¬((32*q+j:Nat):Int)<((32*(q+1):Nat):Int):=(by omega);simp only[Ao,Bf,Bj,B6,BQ,DI,Aw,zXa,Bn,h1,decide_true,Hu,CP,hw,h2,decide_false,Cg,AL];simpa only[CP,hw,zXa]using tail;simp only[Ao,Bf,Bj,B6,BQ,DI,Aw,zXa,Bn,h1,decide_false,O0,Ch,AL];exact tail
 ·have iK:¬((32*n:Nat):Int)<(c.length:Int):=by omega
  obtain⟨G,hG⟩:=HW (f:=cU) (ty:=Co) (sz:=1) H (E9 c n);unfold UcS;simp only[Ao,Bf,Bj,GQ,hG,Aw,zXa,Bn,iK,decide_false,AL,C8,HZ,zXb]
theorem Vcc (l:zAb)(tk:Tok)(H:Aa)(hl:l.length<=1099511627776)(hx:Lim l):Uao (.sl (enL cU l) tk) H=some (.ret (.sl (enL cU (AB (val l))) .no),H):=by have hc:=IK (AY l);rw[C6]at hc;unfold Uao;rw[If l tk H (by omega) hx];simp only[F3];rw[Tq _ _ _ (by omega)];simp only[F3,Ez,Wg,EN,Fd l hx]
theorem Vfj (l:zAb)(tk:Tok)(H:Aa)(hl:l.length<=1099511627776):Udq (.sl (enL cU l) tk) H=some (.ret (.bool (Gy l)),H):=by
 unfold Udq;rcases HE l with rfl | ⟨l',x,rfl⟩;simp[Gy]
 ·simp only[WC,zXi]at hl;have h1:l'.length<(l'++[x]).length:=by simp
  have h3:IntKind.i64.wrap ((((l'++[x]).length:Nat):Int)-1)=(l'.length:Int):=by rw[Am]<;>simp<;>omega
  have hne:((((l'++[x]).length:Nat):Int)==0)=false:=by simp;omega
  have hb:((x:Int) != 0)=(x != 0):=by rw[WP];simp
  simp only[Aw,zXa,Dy,hne,LQ,DE,h3,Ay h1,A5,zXh,XA (W7 _),Xi,List.getElem_cons_zero,IQ,Ch,Ou,hb];simp[Gy]
theorem Vlc (a b:zAb)(ta tb:Tok)(H:Aa)(ha:a.length<=1099511627776)(hb:b.length<=1099511627776)(la:Lim a)(lb:Lim b):UcW (.sl (enL cU a) ta) (.sl (enL cU b) tb) H=some (.ret (.i6 (Vjx (val a) (val b))),H):=by
 have c1:=IK (AY a);have c2:=IK (AY b);rw[C6]at c1 c2;unfold UcW;rw[If a ta H (by omega) la];simp only[F3,If b tb H (by omega) lb,Aw,zXa,Sy];have hx:Bu (DG (AY a))=val a:=by rw[EN,Fd a la]
 have hy:Bu (DG (AY b))=val b:=by rw[EN,Fd b lb]
 rw[<-hx,<-hy];generalize DG (AY a)=x at c1⊢;generalize DG (AY b)=y at c2⊢;have hw:IntKind.i64.wrap (max (x.length:Int) (y.length:Int)-1)=((max x.length y.length:Nat):Int)-1:=by rw[Am]<;>omega
 simp only[DE,hw,zXa];have z:∀(c:List Bool)(m:Nat),c.length<=m->Bu c / 2^m=0:=λc m h=>XX (X1 (KU c) (Xe (by omega) h));refine Bv (σ:=Nat) (λi=>i<9223372036854775807/\(Bu x) / 2^i=(Bu y) / 2^i) (λi=>[.sl (enL cB x) .no,.sl (enL cB y) .no,.i6 ((i:Int)-1)]) (λ_=>H) (λi=>i) (λ_=>some (.ret (.i6 (Vjx (Bu x) (Bu y))),H)) (λi rec hi hrec=>?_) (max x.length y.length) ⟨by omega,by rw[z _ _ (by omega),z _ _ (by omega)]⟩ (by omega);obtain⟨hi,he⟩:=hi;unfold UeD;cases i with
 |zero=>
  have e:Bu x=Bu y:=by simpa using he
  simp[e,Vjx]
 |succ i=>
  have jH:(((i+1:Nat):Int)-1)=(i:Int):=by omega
  have hge:(i:Int)>=0:=by omega
  have hw:IntKind.i64.wrap ((i:Int)-1)=(i:Int)-1:=by rw[Am]<;>omega
  have ax:∀(c:List Bool)(H:Aa),Uem (.sl (enL cB c) .no) (.i6 (i:Int)) H=some (.ret (.bool ((Bu c).testBit i)),H):=λc H=>by rw[Vfn,zXl,Vcr];simp
  have tb:∀m:Nat,m.testBit i=decide (m / 2^i%2=1):=λm=>Yu;have hs:∀m:Nat,m / 2^(i+1)=m / 2^i / 2:=λm=>by rw[Nat.pow_succ,Nat.div_div_eq_div_mul]
  rw[hs,hs]at he;have mono:∀p q:Nat,p<=q->p / 2^i<=q / 2^i:=λp q h=>Nat.div_le_div_right h;simp only[Ao,Bf,Bj,jH,IS,hge,decide_true,zXa,AZ,ax,F3,Vj7];by_cases heq:(Bu x) / 2^i=(Bu y) / 2^i;have mB:(Bu x).testBit i=(Bu y).testBit i:=(by rw[tb,tb,heq]);simp only[mB,bne_self_eq_false,AL,DE,hw,zXa];exact hrec i ⟨by omega,heq⟩ (by omega)
  ·have m1:=mono (Bu x) (Bu y);have m2:=mono (Bu y) (Bu x);rcases YR (Bu x / 2^i)with h1 | h1<;>rcases YR (Bu y / 2^i)with h2 | h2
   omega;have hlt:Bu x<Bu y:=(by rcases Xj (Bu x) (Bu y)with h | h;exact h;have:=m2 h;omega);simp[tb,h1,h2,Vjx,hlt];have hlt:Bu y<Bu x:=(by rcases Xj (Bu y) (Bu x)with h | h;exact h;have:=m1 h;omega);have hn:¬Bu x<Bu y:=(by omega);simp[tb,h1,h2,Vjx,hlt,hn];omega
theorem Pp (m:List Bool)(i:Nat):Bu m%2^(i+1)=Bu m%2^i+2^i*bn (m.getD i false):=by
 rw[Vcr,Yu,Nat.pow_succ,Nat.mod_mul]
 congr 2
 rcases YR (Bu m / 2^i)with h | h<;>simp[h,bn]
theorem Vld (a b:zAb)(ta tb:Tok)(H:Aa)(ha:a.length<=1099511627776)(hb:b.length<=1099511627776)(la:Lim a)(lb:Lim b):UcV (.sl (enL cU a) ta) (.sl (enL cU b) tb) H=some (.ret (.sl (enL cU (AB (val a+val b))) .no),H):=by
 have c1:=IK (AY a);have c2:=IK (AY b);rw[C6]at c1 c2;unfold UcV;have hx:Bu (DG (AY a))=val a:=by rw[EN,Fd a la]
 have hy:Bu (DG (AY b))=val b:=by rw[EN,Fd b lb]
 simp only[If a ta H (by omega) la,CQ,If b tb H (by omega) lb];rw[<-hx,<-hy];generalize DG (AY a)=x at c1⊢;generalize DG (AY b)=y at c2⊢;refine Bv (σ:=List Bool×Bool) (λs=>s.1.length<=max x.length y.length+1/\Bu s.1+2^s.1.length*bn s.2=Bu x%2^s.1.length+Bu y%2^s.1.length) (λs=>[.sl (enL cB x) .no,.sl (enL cB y) .no,E4 cB H s.1,.bool s.2,.i6 (s.1.length:Int)]) (λs=>Ep cB Cf 1 H s.1) (λs=>max x.length y.length+1-s.1.length)
  (λ_=>some (.ret (.sl (enL cU (AB (Bu x+Bu y))) .no),H)) (λs rec hs hrec=>?_) ([],false) ⟨by simp,by simp[Bu,bn,Nat.mod_one]⟩ (by simp;omega)
 obtain⟨o,c⟩:=s;obtain⟨ho,he⟩:=hs;simp only at ho he hrec⊢;unfold UeC;simp only[Ao,Bf,Bj,B6,BQ,Aw,zXa,Sy,LH];by_cases h:o.length<=max x.length y.length
 ·have h':((o.length:Int)<=max (x.length:Int) (y.length:Int)):=by omega
  have hw:IntKind.i64.wrap ((o.length:Int)+1)=((o.length+1:Nat):Int):=by rw[Am]<;>omega
  have ax:∀(m:List Bool)(H:Aa),Uem (.sl (enL cB m) .no) (.i6 (o.length:Int)) H=some (.ret (.bool (m.getD o.length false)),H):=λm H=>by rw[Vfn,zXl];simp
  have app:∀s:Bool,AW Cf 1 1 (E4 cB H o) (.sl (enL cB [s]) .ti) (Ep cB Cf 1 H o)=some (E4 cB H (o++[s]),Ep cB Cf 1 H (o++[s])):=λs=>F5 (by simp) (by simp;omega) (by simp;omega);have w1:IntKind.i64.wrap (0+1)=1:=by decide
  have w2:IntKind.i64.wrap (1+1)=2:=by decide
  have w3:IntKind.i64.wrap (2+1)=3:=by decide
  have fin:rec [.sl (enL cB x) .no,.sl (enL cB y) .no,E4 cB H (o++[(bn (x.getD o.length false)+bn (y.getD o.length false)+bn c)%2==1]),.bool (decide (1<bn (x.getD o.length false)+bn (y.getD o.length false)+bn c)),.i6 ((o.length+1:Nat):Int)] (Ep cB Cf 1 H (o++[(bn (x.getD o.length false)+bn (y.getD o.length false)+bn c)%2==1]))=some (.ret (.sl (enL cU (AB (Bu x+Bu y))) .no),H):=by have:=hrec (o++[(bn (x.getD o.length false)+bn (y.getD o.length false)+bn c)%2==1],decide (1<bn (x.getD o.length false)+bn (y.getD o.length false)+bn c)) ⟨by simp;omega,?_⟩ (by simp;omega);simpa using this;simp only[WC,zXi];rw[Pp x,Pp y,DP,Nat.pow_succ];generalize x.getD o.length false=p;generalize y.getD o.length false=q;generalize 2^o.length=z at he⊢;cases p<;>cases q<;>cases c<;>simp[bn,Bu]at he⊢ <;> omega
  simp only[h',decide_true,AZ,AJ,ax,CQ];revert fin;generalize x.getD o.length false=p;simp only[UeB,AJ,Ao,Bf,Bj,B6,BQ,DI,ax,CQ];generalize y.getD o.length false=q;intro fin;rw[<-fin];cases p<;>cases q<;>cases c <;>
   simp only[AZ,AL,CP,w1,w2,w3,zXa,Ao,Bf,Bj,B6,BQ,DI,UeA,Ue9,AJ,IP (show(2:Int)≠0 by decide),Dy,SI,DF,app,D5,CQ,hw,bn]<;>rfl
 ·have h':¬((o.length:Int)<=max (x.length:Int) (y.length:Int)):=by omega
  obtain⟨G,hG⟩:=HW (f:=cB) (ty:=Cf) (sz:=1) H o;have bx:=KU x;have by':=KU y;have px:2^x.length*2<=2^o.length:=by rw[<-Nat.pow_succ];exact Xe (by omega) (by omega)
  have py:2^y.length*2<=2^o.length:=by rw[<-Nat.pow_succ];exact Xe (by omega) (by omega)
  rw[X9 (by omega),X9 (by omega)]at he;have hc:c=false:=by cases c with|false=>rfl|true=>exfalso;simp only[bn,if_true,WK]at he;omega
  subst hc;have gT:Bu o=Bu x+Bu y:=by simpa[bn]using he
  simp only[h',decide_false,AL,GQ,hG,Tq o _ _ (by omega),CQ,C8,HZ,zXb,gT]
theorem VaO (a b:zAb)(ta tb:Tok)(H:Aa)(ha:a.length<=1099511627776)(hb:b.length<=1099511627776)(la:Lim a)(lb:Lim b):Ubw (.sl (enL cU a) ta) (.sl (enL cU b) tb) H=some (.ret (.tup [.sl (enL cU (if val b<=val a then AB (val a-val b)else [])) .no,.bool (decide (val b<=val a))]),H):=by
 have c1:=IK (AY a);rw[C6]at c1;unfold Ubw;simp only[Vlc a b ta tb H ha hb la lb,CQ,Bn,zXa];by_cases hv:val b<=val a
 ·have hc:¬(Vjx (val a) (val b)<0):=by unfold Vjx;split<;>(try split)<;>omega
  have hx:Bu (DG (AY a))=val a:=by rw[EN,Fd a la]
  have hy:Bu (DG (AY b))=val b:=by rw[EN,Fd b lb]
  simp only[hc,decide_false,AL,If a ta H (by omega) la,If b tb H (by omega) lb,CQ,hv,if_true,decide_true];rw[<-hx,<-hy]at hv⊢;generalize DG (AY a)=x at c1 hv⊢;generalize DG (AY b)=y at hv⊢;refine Bv (σ:=List Bool×Bool) (λs=>s.1.length<=x.length/\Bu s.1+Bu y%2^s.1.length=Bu x%2^s.1.length+2^s.1.length*bn s.2) (λs=>[.sl (enL cB x) .no,.sl (enL cB y) .no,E4 cB H s.1,.i6 (if s.2 then 1 else 0),.i6 (s.1.length:Int)]) (λs=>Ep cB Cf 1 H s.1) (λs=>x.length-s.1.length)
   (λ_=>some (.ret (.tup [.sl (enL cU (AB (Bu x-Bu y))) .no,.bool true]),H)) (λs rec hs hrec=>?_) ([],false) ⟨by simp,by simp[Bu,bn,Nat.mod_one]⟩ (by simp;omega)
  obtain⟨o,c⟩:=s;obtain⟨ho,he⟩:=hs;simp only at ho he hrec⊢;unfold UeH;simp only[Ao,Bf,Bj,B6,BQ,Aw,zXa,Bn];by_cases h:o.length<x.length
  ·have h':((o.length:Int)<(x.length:Int)):=(by omega);have hw:IntKind.i64.wrap ((o.length:Int)+1)=((o.length+1:Nat):Int):=(by rw[Am]<;>omega);have ax:∀(m:List Bool)(H:Aa),Uem (.sl (enL cB m) .no) (.i6 (o.length:Int)) H=some (.ret (.bool (m.getD o.length false)),H):=λm H=>(by rw[Vfn,zXl];simp);have app:∀s:Bool,AW Cf 1 1 (E4 cB H o) (.sl (enL cB [s]) .ti) (Ep cB Cf 1 H o)=some (E4 cB H (o++[s]),Ep cB Cf 1 H (o++[s])):=λs=>F5 (by simp) (by simp;omega) (by simp;omega);have n0:unA .neg (.i6 0)=some (.i6 0):=(by rw[show unA .neg (.i6 0)=some (.i6 (IntKind.i64.wrap (0-0))) from rfl,show IntKind.i64.wrap (0-0)=0 from by decide]);have n1:unA .neg (.i6 1)=some (.i6 (-1)):=(by rw[show unA .neg (.i6 1)=some (.i6 (IntKind.i64.wrap (0-1))) from rfl,show IntKind.i64.wrap (0-1) = -1 from by decide]);have w1:IntKind.i64.wrap (0+1)=1:=(by decide);have w2:IntKind.i64.wrap (-1+1)=0:=(by decide);have w3:IntKind.i64.wrap (0-1) = -1:=(by decide);have w4:IntKind.i64.wrap (1-1)=0:=(by decide);have w5:IntKind.i64.wrap (-1-1) = -2:=(by decide);have w6:IntKind.i64.wrap (-1+2)=1:=(by decide);have w7:IntKind.i64.wrap (-2+2)=0:=(by decide);have fin:rec [.sl (enL cB x) .no,.sl (enL cB y) .no,E4 cB H (o++[Vnn (x.getD o.length false) (y.getD o.length false) c]),.i6 (if VoA (x.getD o.length false) (y.getD o.length false) c then 1 else 0),.i6 ((o.length+1:Nat):Int)] (Ep cB Cf 1 H (o++[Vnn (x.getD o.length false) (y.getD o.length false) c]))=some (.ret (.tup [.sl (enL cU (AB (Bu x-Bu y))) .no,.bool true]),H):=(by have:=hrec (o++[Vnn (x.getD o.length false) (y.getD o.length false) c],VoA (x.getD o.length false) (y.getD o.length false) c) ⟨by simp;omega,?_⟩ (by simp;omega);simpa using this;simp only[WC,zXi];rw[Pp x,Pp y,DP,Nat.pow_succ];generalize x.getD o.length false=p;generalize y.getD o.length false=q;generalize 2^o.length=z at he⊢;cases p<;>cases q<;>cases c<;>simp[bn,Bu,Vnn,VoA,Vpc]at he⊢ <;> omega);simp only[h',decide_true,AZ,AJ,ax,CQ];revert fin;generalize x.getD o.length false=p;simp only[UeG,AJ,Ao,Bf,Bj,B6,BQ,DI,ax,CQ];generalize y.getD o.length false=q;intro fin;rw[<-fin];cases p<;>cases q<;>cases c <;>
    simp[n0,n1,w1,w2,w3,w4,w5,w6,w7,UeF,UeE,AJ,SI,app,hw,Vnn,VoA,Vpc]
  have h':¬((o.length:Int)<(x.length:Int)):=(by omega);obtain⟨G,hG⟩:=HW (f:=cB) (ty:=Cf) (sz:=1) H o;have bx:=KU x;have bo:=KU o;have aH:x.length=o.length:=(by omega);rw[aH]at bx;rw[X9 bx,X9 (by omega)]at he;have hc:c=false:=(by cases c with|false=>rfl|true=>exfalso;simp only[bn,if_true,WK]at he;omega);subst hc;have gT:Bu o=Bu x-Bu y:=(by simp[bn]at he;omega);simp only[h',decide_false,AL,GQ,hG,Tq o _ _ (by omega),CQ,C8,Cs,By,BB,Jp,Fs,zXa,zXb,gT]
 ·have hc:Vjx (val a) (val b)<0:=by unfold Vjx;rw[if_pos (by omega)];decide
  simp[hc,hv,Ia]
def A2 (z:Int):List Ab:=[.bool (decide (z<0)),.sl (enL cU (AB z.natAbs)) .no]
def big (z:Int):Ab:=.agg (A2 z)
def LB (z:Int):Prop:=(AB z.natAbs).length<=549755813888
theorem Ww (z:Int):(A2 z).all Ab.isScal=true:=by simp[A2]
@[simp] theorem VpK (z:Int)(h:0<(A2 z).length):(A2 z)[0]=.bool (decide (z<0)):=(rfl)
@[simp] theorem VpJ (z:Int)(h:1<(A2 z).length):(A2 z)[1]=.sl (enL cU (AB z.natAbs)) .no:=(rfl)
@[simp] theorem VpZ (z:Int):(A2 z)[0]? = some (.bool (decide (z<0))):=(rfl)
@[simp] theorem VpY (z:Int):(A2 z)[1]? = some (.sl (enL cU (AB z.natAbs)) .no):=(rfl)
@[simp] theorem Uz (z:Int):(big z).acells=some (A2 z):=Cb (Ww z)
theorem Vb3 (neg:Bool)(n:Nat):[Ab.bool (sgn neg n),.sl (enL cU (AB n)) .no]=A2 (if neg then -(n:Int)else n):=by
 unfold A2;have e1:sgn neg n=decide ((if neg then -(n:Int)else (n:Int))<0):=by
  unfold sgn;cases neg with
  |false=>simp
  |true=>
   by_cases h:n=0;subst h;rfl
   have:(-(n:Int))<0:=(by omega);simp[h,this];omega
 have e2:(if neg then -(n:Int)else (n:Int)).natAbs=n:=by cases neg<;>simp
 rw[e1,e2]
theorem RI (n:Nat):(decide (((AB n).length:Int)>0))=decide (n≠0):=by
 by_cases h:n=0;subst h;rw[ER];rfl
 ·have:=Xd.2 (Pv h);have h1:((AB n).length:Int)>0:=by omega
  rw[zXc h1,zXc h]
@[simp] theorem VmS {H:Aa}{n d:Nat}{z:Int}:G4 H n (d+2) (A2 z)=some (A2 z):=by simp[A2]
@[simp] theorem Vjh {H:Aa}{n d:Nat}{z:Int}:HI H n (d+3) (big z)=some (big z):=by simp[big]
@[simp] theorem NO {H:Aa}{n d:Nat}{z:Int}:Ft H n (d+3) (big z)=some (big z):=by simp[big]
@[simp] theorem VmQ {z:Int}:forget (big z)=big z:=by simp[big,A2]
@[simp] theorem Vmx (z:Int):(A2 z).length=2:=(rfl)
@[simp] theorem U6 (z:Int):Ab.agg (A2 z)=big z:=(rfl)
@[simp] theorem VoG (cs:List Ab)(z:Int)(h:cs.length=2):D7 cs 0 2 (A2 z)=A2 z:=D6 h
theorem DA (z:Int)(H:Aa):BC true 2 (big z) H=some (.ptr H.length 0 0,H++[.c0 (A2 z)]):=Ce (Ww z) rfl
theorem Pg (neg:Bool)(l:zAb)(tk:Tok)(H:Aa)(hl:l.length<=1099511627776)(hx:Lim l):UeP (.bool neg) (.sl (enL cU l) tk) H=some (.ret (big (if neg then -(val l:Int)else val l)),H):=by unfold UeP big;rw[<-Vb3];have hp:=RI (val l);cases neg with|false=>simp[Vcc _ _ _ hl hx,A6,GF,D7,sgn,Cb]|true=>simp only[Hu,Cg,zXa,Aw,DF,hp,sgn,zXn,alloc_eq (cs:=[.bool false,.sl [] .ti]) rfl,Br,Vcc _ _ _ hl hx,CQ];simp[A6,GF,D7,Cb]
theorem VF (neg:Bool)(l:zAb)(tk:Tok)(H:Aa)(hl:l.length<=1099511627776)(hx:Lim l):UeU (.agg [.bool neg,.sl (enL cU l) tk]) H=some (.ret (big (-(Em neg l))),H):=by
 have ez:(if neg=false then -(val l:Int)else (val l:Int)) = -(Em neg l):=by cases neg<;>simp[Em]
 unfold UeU;simp[Ce,Pg _ l tk _ hl hx,ez]
theorem LI (z:Int):Em (decide (z<0)) (AB z.natAbs)=z:=by unfold Em;rw[B9];by_cases h:z<0;simp[h];omega;simp[h];omega
theorem Qe (neg:Bool)(l:zAb):(Em neg l).natAbs=val l:=by cases neg<;>simp[Em]
theorem Vfi (n1 n2:Bool)(l1 l2:zAb)(t1 t2:Tok)(H:Aa)(h1:l1.length<=549755813888)(h2:l2.length<=549755813888)(x1:Lim l1)(x2:Lim l2):Ubn (.agg [.bool n1,.sl (enL cU l1) t1]) (.agg [.bool n2,.sl (enL cU l2) t2]) H=some (.ret (big (Em n1 l1+Em n2 l2)),H):=by
 have v1:=SL l1 x1;have v2:=SL l2 x2;have p1:=Gd (show l1.length<=max l1.length l2.length by omega);have p2:=Gd (show l2.length<=max l1.length l2.length by omega);have p3:(4294967296:Nat)^(max l1.length l2.length+1)=4294967296^max l1.length l2.length*4294967296:=Nat.pow_succ _ _;have sg:∀(neg:Bool)(m:Nat)(tk:Tok)(H:Aa),m<4294967296^(max l1.length l2.length+1)->UeP (.bool neg) (.sl (enL cU (AB m)) tk) H=some (.ret (big (if neg then -(m:Int)else m)),H):=by
  intro neg m tk H hm;have:=Pg neg (AB m) tk H (by have:=Fm hm;omega) (Bz m)
  rwa [B9]at this
 unfold Ubn;by_cases hn:n1=n2
 ·subst hn;have ez:(if n1=true then -((val l1:Int)+(val l2:Int))else ((val l1:Int)+(val l2:Int)))=Em n1 l1+Em n1 l2:=by cases n1<;>simp[Em]<;>omega
  simp[Xc,Ce,Jz,B3,Vld _ _ _ _ _ (show l1.length<=1099511627776 by omega) (show l2.length<=1099511627776 by omega) x1 x2,sg n1 (val l1+val l2) _ _ (by omega),ez]
 ·have hb:(n1==n2)=false:=by simpa using hn
  by_cases hv:val l2<=val l1;have ez:(if n1=true then -((val l1-val l2:Nat):Int)else ((val l1-val l2:Nat):Int))=Em n1 l1+Em n2 l2:=(by cases n1<;>cases n2<;>simp[Em]at hn⊢ <;> omega);simp[Xc,Ce,Jz,hb,VaO _ _ _ _ _ (show l1.length<=1099511627776 by omega) (show l2.length<=1099511627776 by omega) x1 x2,hv,sg n1 (val l1-val l2) _ _ (by omega),ez];have ez:(if n2=true then -((val l2-val l1:Nat):Int)else ((val l2-val l1:Nat):Int))=Em n1 l1+Em n2 l2:=(by cases n1<;>cases n2<;>simp[Em]at hn⊢ <;> omega);have aP:val l1<=val l2:=(by omega);simp[Xc,Ce,Jz,hb,VaO _ _ _ _ _ (show l1.length<=1099511627776 by omega) (show l2.length<=1099511627776 by omega) x1 x2,VaO _ _ _ _ _ (show l2.length<=1099511627776 by omega) (show l1.length<=1099511627776 by omega) x2 x1,hv,aP,sg n2 (val l2-val l1) _ _ (by omega),ez]
theorem Rw (z:Int):big z=.agg [.bool (decide (z<0)),.sl (enL cU (AB z.natAbs)) .no]:=rfl
theorem Ie (a b:Int)(H:Aa)(ha:LB a)(hb:LB b):Ubn (big a) (big b) H=some (.ret (big (a+b)),H):=by rw[Rw a,Rw b,Vfi _ _ _ _ _ _ _ ha hb (Bz _) (Bz _),LI,LI]
theorem Jc (a:Int)(H:Aa)(ha:LB a):UeU (big a) H=some (.ret (big (-a)),H):=by rw[Rw a,VF _ _ _ _ (by unfold LB at ha;omega) (Bz _),LI]
theorem LB.neg {a:Int}(h:LB a):LB (-a):=by unfold LB at *;rwa [Int.natAbs_neg]
theorem LB.of {a:Int}{k:Nat}(h:a.natAbs<4294967296^k)(hk:k<=549755813888):LB a:=WV (Fm h) hk
theorem Tp (a b:Int)(H:Aa)(ha:LB a)(hb:LB b):UeV (big a) (big b) H=some (.ret (big (a-b)),H):=by unfold UeV;simp[Xc,DA,B3,Jc _ _ hb,Ie _ _ _ ha hb.neg,Int.sub_eq_add_neg]
def FT (a b:Int):Int:=if a<b then -1 else if a=b then 0 else 1
theorem Fi (a b:Int)(H:Aa)(ha:LB a)(hb:LB b):Uaa (big a) (big b) H=some (.ret (.i6 (FT a b)),H):=by
 unfold Uaa;simp only[DA,Br,WD,List.singleton_append];simp[Xc,DA,Tp _ _ _ ha hb];unfold FT;by_cases h0:a=b;subst h0;simp[ER]
 ·have hne:AB (a-b).natAbs≠[]:=Pv (by omega);have hp:=Xd.2 hne;have hz:(((AB (a-b).natAbs).length:Int)==0)=false:=by rw[beq_eq_false_iff_ne];omega
  have mD:¬((AB (a-b).natAbs).length:Int)=0:=by omega
  have xI:¬AB (a-b).natAbs=[]:=hne;by_cases hn:a<b;have:a-b<0:=(by omega);simp[hz,mD,xI,hn,this];have:¬(a-b<0):=(by omega);simp[hz,mD,xI,hn,this,h0]
theorem Vpn (n:Nat)(v:Ab):M7 n [v]=List.replicate n v:=by
 induction n with
 |zero=>rfl
 |succ n ih=>simp only[M7,zXm,List.flatten_cons]at ih⊢;rw[ih];rfl
theorem Vol (n:Nat)(v:Ab):GY 1 n (List.replicate n v)=List.replicate n [v]:=by
 induction n with
 |zero=>rfl
 |succ n ih=>simp only[GY,zXm,List.take_succ_cons,List.take_zero,Y7,XP,ih]
theorem Vi8 {bytes n:Nat}{v:Ab}{H:Aa}(hv:v.isScal=true)(hb:n*bytes<=140737488355328)(hn:n<=140737488355328):FM 1 bytes (some [v]) (.i6 (n:Int)) (.i6 (n:Int)) H=some (.ms H.length 0 0 n n 1 true,H++[.c0 (List.replicate n v)]):=by
 unfold FM;simp only[zXa];have h1:((n:Int)*(bytes:Int))<=140737488355328:=by have:((n*bytes:Nat):Int)<=140737488355328:=(by omega);simpa using this
 rw[if_pos ⟨by simp[hv],rfl,by omega,by omega,h1,by omega⟩,Vpn];simp
theorem VcQ {H:Aa}{n:Nat}:Cu 1 (.ms H.length 0 0 n n 1 true) (H++[.c0 (List.replicate n (.bool false))])=some (enL cB (List.replicate n false)):=by
 have hm:(List.replicate n (Ab.bool false)).map Ld=List.replicate n (.bool false):=by simp[Ld]
 have hi:(List.replicate n (Ab.bool false)).all BN=true:=by simp[BN]
 simp only[Cu,if_true,VcH,Kw,zXa,XP,W9,WK,XU,WH (show(List.replicate n (Ab.bool false)).length<=n by simp),hm,hi,W7,and_self,Vol];simp[enL]
theorem Vfk (B:Aa)(n:Nat)(hn:n<=140737488355328):Ufa (.ms B.length 0 0 n n 1 true) (B++[.c0 (List.replicate n (.bool false))])=some (.ret (.sl [] .no),B++[.c0 (List.replicate n (.bool false))]):=by
 unfold Ufa UaF;have hc:∀K:Aa,Al (λrec1 vs H1=>UcR K rec1 (ag vs 0) H1) AU [.ms B.length 0 0 n n 1 true] (B++[.c0 (List.replicate n (.bool false))])
   = some (.ret (.ms B.length 0 0 0 n 1 true),B++[.c0 (List.replicate n (.bool false))]):=by
  intro K;refine Bv (σ:=Nat) (λk=>k<=n) (λk=>[.ms B.length 0 0 k n 1 true]) (λ_=>B++[.c0 (List.replicate n (.bool false))]) (λk=>k) (λ_=>some (.ret (.ms B.length 0 0 0 n 1 true),B++[.c0 (List.replicate n (.bool false))])) (λk rec hk hrec=>?_) n (W7 _) (by omega);unfold UcR;cases k with|zero=>simp[forget,ED,fgt]|succ k=>have hpos:((k+1:Nat):Int)>0:=(by omega);have hw:IntKind.i64.wrap (((k+1:Nat):Int)-1)=(k:Int):=(by rw[Am]<;>omega);have hidx:Av 1 (.ms B.length 0 0 (k+1) n 1 true) (.i6 (k:Int))=some (.ptr B.length 0 k):=(by unfold Av;simp only[];rw[if_pos ⟨trivial,by omega,by omega⟩];simp);have rJ:Ad false 1 (.ptr B.length 0 k) (B++[.c0 (List.replicate n (.bool false))])=some (.bool false):=(by rw[FE,HH,YB,if_pos (by omega)]);have hsl:B5 1 (.ms B.length 0 0 (k+1) n 1 true) none (some (.i6 (k:Int))) none=some (.ms B.length 0 0 k n 1 true):=(by have:(0:Int)<=(k:Int):=(by omega);simp only[B5,B2,zXa,this,if_true,zXl];rw[if_pos ⟨trivial,by omega,by omega,by omega⟩];simp);simp only[Ao,Vkd,zXa,DF,hpos,decide_true,Hu,DE,hw,hidx,rJ,JS,Cg,X2,AZ,hsl];exact hrec k (by omega) (by omega)
 rw[hc];simp only[CQ];rw[Eg Fr];unfold UcS;simp
theorem Vla (l:zAb)(tk:Tok)(m:Nat)(H:Aa)(hm:m<=10000)(hl:l.length<=549755813888)(hx:Lim l):UcT (.sl (enL cU l) tk) (.i6 (m:Int)) H=some (.ret (.sl (enL cU (AB (2^m*val l))) .no),H):=by
 unfold UcT;have h0:¬(m:Int)<0:=by omega
 have h1:¬(m:Int)>10000:=by omega
 have hc:=IK (AY l);rw[C6]at hc;simp only[Bn,zXa,zXd h0,LQ,DF,zXd h1,Ch,AL,If l tk H (by omega) hx,BF,Vi8 (bytes:=1) (v:=.bool false) rfl (show m*1<=140737488355328 by omega) (by omega),Br];by_cases hv:val l=0;have e:DG (AY l)=[]:=VgF (by rw[Fd l hx];exact hv);rw[e,Ia,En (by rw[VcQ];rfl)];simp[Vfk H m (by omega),hv,ER,Ia]
 ·have hne:DG (AY l)≠[]:=λe=>hv (by rw[<-Fd l hx,<-EN,e];rfl);have ha:AW Cf 1 1 (.ms H.length 0 0 m m 1 true) (.sl (enL cB (DG (AY l))) .no) (H++[.c0 (List.replicate m (.bool false))])
    = some (.sl (enL cB (List.replicate m false++DG (AY l))) (.own (H.length+1)),H++[.c0 (List.replicate m (.bool false))]++[.tok (m+(DG (AY l)).length) Cf 1]):=by
   have hl0:(enL cB (DG (AY l))).length≠0:=(by simpa using hne);unfold AW;rw[show Cu 1 (.sl (enL cB (DG (AY l))) .no) (H++[.c0 (List.replicate m (.bool false))])=some (enL cB (DG (AY l))) from by simp[Cu,Vhm],VcQ];simp only[zXa];rw[if_neg hl0,if_pos (by simp;omega),if_pos (by simp;exact Xd.2 hne)];simp[VdS]
  rw[ha];simp only[D5,BF,WD];rw[Tq _ _ _ (by simp;omega)];simp only[BF,C8,HZ,zXb,VfB,EN,Fd l hx]
theorem VkY (z:Int)(m:Nat)(H:Aa)(hm:m<=10000)(hz:LB z)(mD:LB (z*2^m)):UcU (big z) (.i6 (m:Int)) H=some (.ret (big (z*2^m)),H):=by
 have e:(z*2^m).natAbs=2^m*z.natAbs:=by rw[Int.natAbs_mul,Zs,XG];rfl
 have hp:(0:Int)<2^m:=Yv (by omega);have hs:∀tk H,UeP (.bool (decide (z<0))) (.sl (enL cU (AB (2^m*z.natAbs))) tk) H=some (.ret (big (z*2^m)),H):=by
  intro tk H;rw[Pg _ _ _ _ (by rw[<-e];unfold LB at mD;omega) (Bz _),B9]
  congr 3
  have:((2^m*z.natAbs:Nat):Int)=2^m*(z.natAbs:Int):=by simp
  by_cases h:z<0;simp only[h,decide_true,if_true,this];rw[show((z.natAbs:Nat):Int) = -z from by omega,Int.mul_neg,Int.neg_neg,Int.mul_comm];simp only[h,decide_false,WB,if_false,this];rw[show((z.natAbs:Nat):Int)=z from by omega,Int.mul_comm]
 unfold UcU;simp[DA,B3,Vla _ _ _ _ hm hz (Bz _),B9,hs]
theorem Ki {n:Int}(h0:-18446744073709551616<=n)(h:n<0):IntKind.u64.wrap n=n+18446744073709551616:=by have h1:IntKind.u64.bits=64:=rfl;have h2:IntKind.u64.signed=false:=rfl;unfold IntKind.wrap;simp only[h1,h2,Xw,WB,if_false];omega
theorem Vdf (x y:Nat):AN 1 [.int .u32 (x:Int),.int .u32 (y:Int)]=some (.sl (enL cU [x,y]) .ti):=by simp[AN,Di,Ld,BN,Ab.acells,enL]
theorem OA (n:Int)(H:Aa)(h0:-9223372036854775808<=n)(h1:n<=9223372036854775807):UeQ (.i6 n) H=some (.ret (big n),H):=by
 obtain⟨u,hu⟩:∃u:Nat,u=n.natAbs:=⟨_,rfl⟩;have hlim:Lim [u%4294967296,u / 4294967296]:=λx hx=>by simp at hx;rcases hx with rfl | rfl<;>omega
 have bJ:val [u%4294967296,u / 4294967296]=u:=by simp[val];omega
 have ez:(if decide (n<0)=true then -(u:Int)else (u:Int))=n:=by by_cases h:n<0<;>simp[h]<;>omega
 have a1:=λH=>Pg (decide (n<0)) [u%4294967296,u / 4294967296] .ti H (by simp) hlim;simp only[bJ,ez]at a1;have e1:((u:Int).tmod 4294967296)=((u%4294967296:Nat):Int):=rfl;have e2:IntKind.u64.wrap ((u:Int).tdiv 4294967296)=((u / 4294967296:Nat):Int):=by rw[show(u:Int).tdiv 4294967296=((u / 4294967296:Nat):Int) from rfl,Cz]<;>omega
 have e3:IntKind.u32.wrap ((u%4294967296:Nat):Int)=((u%4294967296:Nat):Int):=by rw[D3]<;>omega
 have e4:IntKind.u32.wrap ((u / 4294967296:Nat):Int)=((u / 4294967296:Nat):Int):=by rw[D3]<;>omega
 have j1:Uek H (.i6 n) (.ptr H.length 0 0) (.int .u64 (u:Int)) (H++[.c0 [.bool false,.sl [] .ti]])=some (.ret (big n),H):=by unfold Uek;simp only[Bn,zXa,IP (show(4294967296:Int)≠0 by decide),Qd (show(4294967296:Int)≠0 by decide),e1,e2,Bx,e3,e4,Vdf,a1,CQ];simp
 unfold UeQ;simp only[alloc_eq (cs:=[.bool false,.sl [] .ti]) rfl,Br,Bx,zXa,AJ,Bn,Ao,Bf,Bj];by_cases h:n<0
 ·have w:IntKind.u64.wrap (0-IntKind.u64.wrap n)=(u:Int):=by rw[Ki (n:=n) (by omega) h,Ki (by omega) (by omega)];omega
  have un:unA .neg (.int .u64 (IntKind.u64.wrap n))=some (.int .u64 (u:Int)):=by rw[show unA .neg (.int .u64 (IntKind.u64.wrap n))=some (.int .u64 (IntKind.u64.wrap (0-IntKind.u64.wrap n))) from rfl,w]
  rw[zXc h];simp only[AZ,un,zXa,Ao,Bf,Bj];exact j1
 ·have w:IntKind.u64.wrap n=(u:Int):=by rw[Cz (by omega) (by omega)];omega
  rw[zXd h];simp only[AL,w,Ao,Bf,Bj];exact j1
theorem Vk3 (m:Nat)(hm:m<=20000):LB (2^m):=by refine LB.of (k:=m+1) ?_ (by omega);rw[Zs];have:(2:Nat)^m<2^(32*(m+1)):=Zp (by omega) (by omega);rw[YV]at this;exact this
theorem Vo7:LB 1:=Vk3 0 (by omega)
theorem IA (m:Nat)(H:Aa)(hm:m<=10000):UdB (.i6 (m:Int)) H=some (.ret (big (2^m)),H):=by have hs:=λH=>VkY 1 m H hm Vo7 (by rw[Int.one_mul];exact Vk3 m (by omega));simp only[Int.one_mul]at hs;unfold UdB;simp[OA 1 _ (by omega) (by omega),hs]
def Ht (z:Int):Bool:=decide (-9223372036854775808<=z/\z<=9223372036854775807)
def UJ (z:Int):Int:=if Ht z then z else 0
theorem Vhw (l:zAb)(i:Nat)(h:i<l.length):val (l.drop i)=l[i]+4294967296*val (l.drop (i+1)):=by rw[Xb h,val]
theorem Va2 (l:zAb)(i:Nat):4294967296^i*val (l.drop i)<=val l:=by
 induction l generalizing i with
 |nil=>simp[val]
 |cons a l ih=>cases i with|zero=>simp|succ i=>have:=ih i;simp only[Y7,val,Nat.pow_succ];rw[XG (4294967296^i) 4294967296,Yj];omega
theorem Vht {u:Nat}(h:u<=9223372036854775808):IntKind.i64.wrap (IntKind.u64.wrap (0-(u:Int))) = -(u:Int):=by
 have h1:IntKind.i64.bits=64:=rfl;have h2:IntKind.i64.signed=true:=rfl;by_cases h0:u=0;subst h0;decide
 rw[Ki (by omega) (by omega)];unfold IntKind.wrap;simp only[h1,h2,zXn,zXe];split<;>omega
theorem VkZ (neg:Bool)(l:zAb)(tk:Tok)(H:Aa)(hl:l.length<=549755813888)(hx:Lim l):Ufg (.agg [.bool neg,.sl (enL cU l) tk]) H=some (.ret (.tup [.i6 (UJ (Em neg l)),.bool (Ht (Em neg l))]),H):=by
 unfold Ufg;have hw:IntKind.i64.wrap ((l.length:Int)-1)=(l.length:Int)-1:=by rw[Am]<;>omega
 simp only[Ce (cs:=[.bool neg,.sl (enL cU l) tk]) (sz:=2) rfl rfl,Br,Ae,zXa,FE,HH,W9,List.getElem?_cons_succ,zXh,Aw,DE,hw];refine Bv (σ:=Nat) (λi=>i<=l.length/\val (l.drop i)<18446744073709551616) (λi=>[.ptr H.length 0 0,.int .u64 ((val (l.drop i):Nat):Int),.i6 ((i:Int)-1)]) (λ_=>H++[.c0 [.bool neg,.sl (enL cU l) tk]]) (λi=>i)
  (λ_=>some (.ret (.tup [.i6 (UJ (Em neg l)),.bool (Ht (Em neg l))]),H)) (λi rec hi hrec=>?_) l.length ⟨W7 _,by simp[val]⟩ (by omega) |> λh=>by simpa[val]using h
 obtain⟨hi,hv⟩:=hi;unfold UeI;cases i with
 |zero=>
  simp only[XP]at hv⊢;have lL:¬(((0:Nat):Int)-1>=0):=by omega
  have un:unA .neg (.int .u64 ((val l:Nat):Int))=some (.int .u64 (IntKind.u64.wrap (0-((val l:Nat):Int)))):=rfl;simp only[Ao,Bf,Bj,IS,lL,decide_false,zXa,AL,Ae,FE,HH,W9,zXh];cases neg with|true=>by_cases h:val l<=9223372036854775808;have h':((val l:Nat):Int)<=9223372036854775808:=(by omega);have hok:Ht (Em true l)=true:=(by simp[Ht,Em];omega);have mG:=Vht h;rw[Int.zero_sub]at mG;simp[h',un,Bx,mG,UJ,hok];simp[Em];have h':¬((val l:Nat):Int)<=9223372036854775808:=(by omega);have hok:Ht (Em true l)=false:=(by simp[Ht,Em];omega);simp[h',UJ,hok]|false=>by_cases h:val l<=9223372036854775807;have h':¬((val l:Nat):Int)>9223372036854775807:=(by omega);have hok:Ht (Em false l)=true:=(by simp[Ht,Em];omega);have hw:IntKind.i64.wrap ((val l:Nat):Int)=((val l:Nat):Int):=(by rw[Am]<;>omega);simp[h',Bx,hw,UJ,hok];simp[Em];have h':((val l:Nat):Int)>9223372036854775807:=(by omega);have hok:Ht (Em false l)=false:=(by simp[Ht,Em];omega);simp[h',UJ,hok]
 |succ i=>
  have e:((i+1:Nat):Int)-1=(i:Int):=by omega
  have hge:(i:Int)>=0:=by omega
  have hil:i<l.length:=by omega
  have aH:l[i]<4294967296:=hx _ (WI hil);have hd:=Vhw l i hil;have hle:=Va2 l (i+1);simp only[Ao,Bf,Bj,e,IS,hge,decide_true,zXa,AZ,DF];by_cases h:val (l.drop (i+1))<=4294967295;have h':¬((val (l.drop (i+1)):Nat):Int)>4294967295:=(by omega);have w1:IntKind.u64.wrap (((val (l.drop (i+1)):Nat):Int)*4294967296)=((val (l.drop (i+1)):Nat):Int)*4294967296:=(by rw[Cz]<;>omega);have w2:IntKind.u64.wrap (((l[i]:Nat):Int))=((l[i]:Nat):Int):=(by rw[Cz]<;>omega);have w3:IntKind.u64.wrap (((val (l.drop (i+1)):Nat):Int)*4294967296+((l[i]:Nat):Int))=((val (l.drop i):Nat):Int):=(by rw[Cz,hd]<;>omega);have w4:IntKind.i64.wrap ((i:Int)-1)=(i:Int)-1:=(by rw[Am]<;>omega);simp only[h',decide_false,AL,IR,w1,Ae,zXa,FE,HH,W9,List.getElem?_cons_succ,zXh,Ay hil,A5,Bx,w2,CP,w3,DE,w4];exact hrec i ⟨by omega,by omega⟩ (by omega);have h':((val (l.drop (i+1)):Nat):Int)>4294967295:=(by omega);have sO:18446744073709551616<=val l:=(by have:4294967296^1*4294967296<=4294967296^(i+1)*val (l.drop (i+1)):=YF (Xe (by omega) (by omega)) (by omega);omega);have hok:Ht (Em neg l)=false:=(by cases neg<;>simp[Ht,Em]<;>omega);simp[h',UJ,hok]
theorem Vcb (z:Int)(H:Aa)(h:LB z):Ufg (big z) H=some (.ret (.tup [.i6 (UJ z),.bool (Ht z)]),H):=by rw[Rw,VkZ _ _ _ _ h (Bz _),LI]
def HS (neg:Bool)(l:zAb):Bool:=Gy l && !(neg&&l.isEmpty)
theorem VE (neg:Bool)(l:zAb)(tk:Tok)(H:Aa)(hl:l.length<=549755813888):Ub8 (.agg [.bool neg,.sl (enL cU l) tk]) H=some (.ret (.bool (HS neg l)),H):=by
 unfold Ub8 HS;have hq:=λH=>Vfj l tk H (by omega);cases hr:Gy l with
 |false=>simp[Ce,hq,hr]
 |true=>cases neg with|false=>simp[Ce,hq,hr]|true=>cases l<;>simp[Ce,hq,hr]<;>omega
theorem Vhf {n:Bool}{l:zAb}(h:HS n l=true)(hx:Lim l):[Ab.bool n,.sl (enL cU l) .no]=A2 (Em n l):=by
 simp only[HS,WG,X7]at h;obtain⟨h1,h2⟩:=h;have hn:Nrm l:=(O8 hx).1 h1;unfold A2;rw[Qe,<-MO hn]
 congr 2
 unfold Em;cases n with
 |false=>simp
 |true=>
  have hl:l≠[]:=λe=>by subst e;simp at h2
  have:val l≠0:=λe=>hl (hn.zero e);simp;omega
theorem VbH:LB 0:=by unfold LB;simp[ER]
structure Cl where
 x:Int
 y:Int
 s:UInt8
deriving DecidableEq
def cCl (c:Cl):List Ab:=[.bool (decide (c.x<0)),.sl (enL cU (AB c.x.natAbs)) .no,.bool (decide (c.y<0)),.sl (enL cU (AB c.y.natAbs)) .no,.int .u8 (c.s.toNat:Int)]
instance:Sz cCl 5:=⟨λ_=>rfl⟩
instance:Pl cCl:=⟨λ_=>rfl⟩
def VpW (z:Int):List Ab:=A2 z
instance:Sz VpW 2:=⟨λ_=>rfl⟩
instance:Pl VpW:=⟨λ_=>rfl⟩
def SB (k:Nat)(z:Int):Prop:=z.natAbs<4294967296^k
theorem SB.lb {k:Nat}{z:Int}(h:SB k z)(hk:k<=549755813888):LB z:=LB.of h hk
theorem SB.mono {k m:Nat}{z:Int}(h:SB k z)(hm:k<=m):SB m z:=X1 h (Gd hm)
theorem SB.add {k:Nat}{a b:Int}(ha:SB k a)(hb:SB k b):SB (k+1) (a+b):=by unfold SB at *;have:4294967296^(k+1)=4294967296^k*4294967296:=Nat.pow_succ _ _;omega
theorem VmA {m k:Nat}(h:m<32*k):SB k (2^m):=by
 have e:((2:Int)^m).natAbs=2^m:=by rw[Zs];rfl
 unfold SB;rw[e];exact Vcf h
theorem Vo3 {m:Nat}(h:m<=10000):SB 313 (2^m):=VmA (Xt h (by decide))
def Cl.ok (c:Cl):Prop:=SB 100 c.x/\SB 100 c.y
def JY (a b:Cl):Int:=if FT a.y b.y=0 then FT a.x b.x else FT a.y b.y
theorem Vhc (c:Cl)(H:Aa):BC true 5 (.agg (cCl c)) H=some (.ptr H.length 0 0,H++[.c0 (cCl c)]):=Ce rfl rfl
theorem NY (c:Cl):(Ab.agg (cCl c)).acells=some (cCl c):=Cb rfl
section
variable {H G:Aa}{p:Nat}{c:Cl}{z:Int}
theorem JG (hg:H[p]? = some (.c0 (cCl c))):Ad true 2 (.ptr p 0 0) H=some (big c.x):=by simp only[Ad,Ax hg,zXa,if_true];rfl
theorem JF (hg:H[p]? = some (.c0 (cCl c))):Ad true 2 (.ptr p 0 2) H=some (big c.y):=by simp only[Ad,Ax hg,zXa,if_true];rfl
theorem Ba (hg:H[p]? = some (.c0 (A2 z))):Ad true 2 (.ptr p 0 0) H=some (big z):=by simp only[Ad,Ax hg,zXa,if_true];rfl
theorem BP {cs:List Ab}(hg:H[p]? = some (.c0 cs))(hl:cs.length=2):Ai 2 (.ptr p 0 0) (big z) H=some (H.set p (.c0 (A2 z))):=by simp only[Ai,Ax hg,zXa,Uz,Bw hg,D6 hl];rw[if_pos ⟨rfl,by omega⟩]
theorem S3:Ad true 2 (.cptr (cCl c) 0) H=some (big c.x):=(rfl)
theorem S2:Ad true 2 (.cptr (cCl c) 2) H=some (big c.y):=(rfl)
theorem VfI:Ad false 1 (.cptr (cCl c) 4) H=some (.int .u8 (c.s.toNat:Int)):=(rfl)
theorem Pu:Ad true 5 (.cptr (cCl c) 0) H=some (.agg (cCl c)):=(rfl)
theorem Qc (c:Cl):AN 5 [.agg (cCl c)]=some (.sl (enL cCl [c]) .ti):=by simp[AN,Di,NY];simp[cCl,Ld,BN,enL]
theorem CR (H:Aa):A0 (some [.bool false,.sl [] .ti]) H=some (.ptr H.length 0 0,H++[.c0 [.bool false,.sl [] .ti]]):=alloc_eq rfl
theorem A1 {i:Nat}{x:Blk}(h:H[i]? = some x):(H++G)[i]? = some x:=by have:=(W5.1 h).1;rw[W8 this];exact h

end
theorem Vfd (a b:Cl)(H:Aa)(ha:a.ok)(hb:b.ok):Ub9 (.agg (cCl a)) (.agg (cCl b)) H=some (.ret (.i6 (JY a b)),H):=by
 have e1:(H++[Blk.c0 (cCl a)]++[Blk.c0 (cCl b)])[H.length]? = some (.c0 (cCl a)):=by simp
 have e2:(H++[Blk.c0 (cCl a)]++[Blk.c0 (cCl b)])[(H++[Blk.c0 (cCl a)]).length]? = some (.c0 (cCl b)):=An;unfold Ub9;have hy:=λH=>Fi a.y b.y H (ha.2.lb (by decide)) (hb.2.lb (by decide));have hx:=λH=>Fi a.x b.x H (ha.1.lb (by decide)) (hb.1.lb (by decide));simp only[GMw,Vhc,Ae,W9,Nat.add_zero,JF e1,JF e2,hy];have fin:∀q:Int,rP H (.i6 q) (H++[Blk.c0 (cCl a)]++[Blk.c0 (cCl b)])=some (.ret (.i6 q),H):=λq=>by simp only[WD];exact It
 unfold JY;by_cases h:FT a.y b.y=0;simp only[GMw,h,JG e1,JG e2,hx,fin];simp only[GMw,h,fin]
def inZ (v:Nat)(z:Int):Bool:=decide (-(2^(v-1))<=z)&&decide (z<2^(v-1))
def EV (v:Nat)(c:Cl):Bool:=inZ v c.x&&inZ v c.y
theorem Gu (a b:Int):decide (FT a b>=0)=decide (b<=a):=by unfold FT;rw[WP];split;simp;omega;split;simp;omega;simp;omega
theorem Gt (a b:Int):decide (FT a b<0)=decide (a<b):=by unfold FT;rw[WP];split;simp;omega;split;simp;omega;simp;omega
theorem Vd7 (c:Cl)(v:Nat)(H:Aa)(hc:c.ok)(h1:1<=v)(h2:v<=10000):Udw (.agg (cCl c)) (.i6 (v:Int)) H=some (.ret (.bool (EV v c)),H):=by
 have hw:IntKind.i64.wrap ((v:Int)-1)=((v-1:Nat):Int):=HA (by omega) (by omega);have hp:=Vo3 (show v-1<=10000 by omega);have bL:=hp.lb (by decide);unfold Udw;have cE:=λH=>IA (v-1) H (by omega);have gW:=λH=>Jc (2^(v-1)) H bL;have hx:=λH b (hb:LB b)=>Fi c.x b H (hc.1.lb (by decide)) hb;have hy:=λH b (hb:LB b)=>Fi c.y b H (hc.2.lb (by decide)) hb;have s1:∀B:Aa,Ai 2 (.ptr B.length 0 0) (big (2^(v-1))) (B++[.c0 [.bool false,.sl [] .ti]])=some (B++[.c0 (A2 (2^(v-1)))]):=λB=>by rw[BP (An (B:=B)) rfl,Be]
 have s2:∀B:Aa,Ai 2 (.ptr B.length 0 0) (big (-(2^(v-1)))) (B++[.c0 [.bool false,.sl [] .ti]])=some (B++[.c0 (A2 (-(2^(v-1))))]):=λB=>by rw[BP (An (B:=B)) rfl,Be]
 simp only[GMw,Vhc,hw,cE,CR,s1,Ba An,gW,s2];generalize hB:H++[Blk.c0 (cCl c)]=B;have e1:(B++[Blk.c0 (A2 (2^(v-1)))]++[Blk.c0 (A2 (-(2^(v-1))))])[H.length]? = some (.c0 (cCl c)):=by rw[<-hB];simp
 have e2:(B++[Blk.c0 (A2 (2^(v-1)))]++[Blk.c0 (A2 (-(2^(v-1))))])[B.length]? = some (.c0 (A2 (2^(v-1)))):=by simp
 have e3:(B++[Blk.c0 (A2 (2^(v-1)))]++[Blk.c0 (A2 (-(2^(v-1))))])[(B++[Blk.c0 (A2 (2^(v-1)))]).length]? = some (.c0 (A2 (-(2^(v-1))))):=An;have fin:∀q:Bool,rP H (.bool q) (B++[Blk.c0 (A2 (2^(v-1)))]++[Blk.c0 (A2 (-(2^(v-1))))])=some (.ret (.bool q),H):=λq=>by rw[<-hB];simp only[WD];exact Ey
 unfold EV inZ;simp only[GMw,Ae,W9,Nat.add_zero,JG e1,JF e1,Ba e2,Ba e3,hx _ _ bL,hx _ _ bL.neg,hy _ _ bL,hy _ _ bL.neg,Gu,Gt];cases decide (-(2^(v-1))<=c.x)with
 |false=>simp only[GMw,fin]
 |true=>
  simp only[GMw,Ae,W9,Nat.add_zero,JG e1,JF e1,Ba e2,Ba e3,hx _ _ bL,hx _ _ bL.neg,hy _ _ bL,hy _ _ bL.neg,Gu,Gt];cases decide (c.x<2^(v-1))with
  |false=>simp only[GMw,fin]
  |true=>simp only[GMw,Ae,W9,Nat.add_zero,JG e1,JF e1,Ba e2,Ba e3,hx _ _ bL,hx _ _ bL.neg,hy _ _ bL,hy _ _ bL.neg,Gu,Gt];cases decide (-(2^(v-1))<=c.y)with|false=>simp only[GMw,fin]|true=>simp only[GMw,Ae,W9,Nat.add_zero,JG e1,JF e1,Ba e2,Ba e3,hx _ _ bL,hx _ _ bL.neg,hy _ _ bL,hy _ _ bL.neg,Gu,Gt,fin]
def Fj (c:Cl)(out:List Cl):Nat:=(out.takeWhile λd=>decide (JY d c<0)).length
def M4 (c:Cl)(out:List Cl):Bool:=match out[Fj c out]? with | some d=>decide (JY d c=0) | none=>false
def Ko (c:Cl)(out:List Cl):List Cl:=if M4 c out then (out.drop (Fj c out)).drop 1 else out.drop (Fj c out)
def Cq (out:List Cl)(c:Cl):List Cl:=out.take (Fj c out)++[c]++Ko c out
def Dx (l:List Cl):List Cl:=l.foldl Cq []
def Bo (l:List Cl):List Cl:=(Dx l).filter λc=>decide (c.s≠0)
theorem Oq {α:Type}(p:α->Bool):∀(l:List α)(n:Nat),n<=l.length->(∀(j:Nat)(a:α),j<n->l[j]? = some a->p a=true)->(∀a,l[n]? = some a->p a=false)->(l.takeWhile p).length=n
 |[],n,h,_,_=>by simp at h;simp[h]
 |a::l,0,_,_,h=>by have:=h a rfl;simp[Yg,this]
 |a::l,n+1,h,h1,h2=>by have h3:=h1 0 a (by omega) rfl;have:=Oq p l n (by simpa using h) (λj b hj hb=>h1 (j+1) b (by omega) (by simpa using hb)) (λb hb=>h2 b (by simpa using hb));simp[Yg,h3,this]
theorem Vfu (c:Cl)(out:List Cl):Fj c out<=out.length:=by unfold Fj;exact(Yh _).length_le
theorem Van (out:List Cl)(c:Cl):(Cq out c).length<=out.length+1:=by have:=Vfu c out;unfold Cq Ko;split<;>simp<;>omega
theorem Vam {out:List Cl}{c d:Cl}(h:d∈Cq out c):d=c\/d∈out:=by
 unfold Cq Ko at h;simp only[WT,WR]at h;rcases h with (h | h) | h;exact .inr (X5 h);exact .inl h
 ·right;split at h
  exact Yb (Yb h);exact Yb h
theorem Py {l:List Cl}{i:Nat}(hi:i<l.length):Dx (l.take (i+1))=Cq (Dx (l.take i)) l[i]:=by unfold Dx;rw[WF hi,Yd];rfl
theorem GE {l:List Cl}:∀i,i<=l.length->(Dx (l.take i)).length<=i/\∀d∈Dx (l.take i),d∈l
 |0,_=>by simp[Dx]
 |i+1,h=>by obtain⟨h1,h2⟩:=GE i (by omega:i<=l.length);rw[Py h];refine⟨WV (Van _ _) (by omega),λd hd=>?_⟩;rcases Vam hd with rfl | hd;exact WI h;exact h2 d hd
theorem Ve5 {α:Type}{f:α->List Ab}{l:List α}{tk:Tok}{sz h:Nat}{K:IntKind}[hf:Sz f sz](hh:h<=l.length):B5 sz (.sl (enL f l) tk) none (some (.int K (h:Int))) (some (.int K (h:Int)))=some (.sl (enL f (l.take h)) .ti):=by
 simp[B5,B2,enL,hf.len,hh,List.map_take,FY]
theorem PM {α:Type}{f:α->List Ab}{l:List α}{tk:Tok}{sz:Nat}{H:Aa}[hf:Sz f sz]:Cu sz (.sl (enL f l) tk) H=some (enL f l):=by simp[Cu,Vhm]
theorem Vif (l:List Cl)(tk0:Tok)(H:Aa)(hl:l.length<549755813888)(hok:∀c∈l,c.ok):Udv (.sl (enL cCl l) tk0) H=some (.ret (.sl (enL cCl (Bo l)) .no),H):=by
 unfold Udv;have loop:=Fk (G:=λrec1 vs H1=>Udu H rec1 (ag vs 0) (ag vs 1) (ag vs 2) H1) l.length (λi vs Hc=>∃tk G,vs=[.sl (enL cCl l) tk0,.sl (enL cCl (Dx (l.take i))) tk,.i6 (i:Int)]/\Hc=H++G) (by omega) (λi vs Hc hi hI=>?_)
  (vs:=[.sl (enL cCl l) tk0,.sl [] .ti,.i6 0]) (H:=H) ⟨.ti,[],rfl,by simp⟩
 ·obtain⟨vs',Hc,⟨tk,G,rfl,rfl⟩,rec,aB⟩:=loop;rw[aB];unfold Udu;rw[WH (W7 _)];simp only[GMw,Aw,Xm];generalize hB:H++G=B;have hlen:(Dx l).length<=l.length:=by have:=(GE (l:=l) l.length (W7 _)).1;rwa [WH (W7 _)]at this
  unfold Bo;generalize Dx l=o at hlen;refine Cx (G:=λbI vs H1=>Udt H bI (ag vs 0) (ag vs 1) (ag vs 2) H1) o.length (λi=>[.sl (enL cCl o) tk,E4 cCl B ((o.take i).filter λc=>decide (c.s≠0)),.i6 (i:Int)]) (λi=>Ep cCl AI 5 B ((o.take i).filter λc=>decide (c.s≠0))) _ (by omega) (λrec i hi=>?_) (λrec=>?_);have aE:(i:Int)<(o.length:Int):=(by omega);have aK:=Au (show i<9223372036854775807 by omega);unfold Udt;rw[WF hi,Xq];have eL:((o.take i).filter λc=>decide (c.s≠0)).length<=i:=WV (XJ _ _) (by simp;omega);generalize ((o.take i).filter λc=>decide (c.s≠0))=fo at eL;have hs:decide ((o[i].s.toNat:Int)=0)=decide (o[i].s=0):=(by rw[WP];simp only[zXe];constructor;intro h;exact XL.1 (by simpa using h);intro h;rw[h];rfl);simp only[GMw,Aw,aE,Ay hi,Aq,W9,VfI,hs,aK,Uds];by_cases h0:o[i].s=0;have:[o[i]].filter (λc=>decide (c.s≠0))=[]:=(by simp[h0]);rw[this,WU];simp only[GMw,h0,decide_true,Uds,aK];have:[o[i]].filter (λc=>decide (c.s≠0))=[o[i]]:=(by simp[h0]);rw[this];have ha:=F5 (f:=cCl) (ty:=AI) (bytes:=72) (tk:=.ti) (B:=B) (l:=fo) (m:=[o[i]]) (by simp) (by simp;omega) (by simp;omega);simp only[GMw,h0,decide_false,Pu,Qc,ha,Uds,aK];obtain⟨G',hG'⟩:=HW (f:=cCl) (ty:=AI) (sz:=5) B (o.filter λc=>decide (c.s≠0));unfold Udt;rw[WH (W7 _)];simp only[GMw,Aw,Xm,GQ,hG'];rw[<-hB,WD];simp only[C8,HZ,zXb]
 ·obtain⟨tk,G,rfl,rfl⟩:=hI;obtain⟨m1,m2⟩:=GE (l:=l) i (by omega);have aE:(i:Int)<(l.length:Int):=by omega
  have aK:=Au (show i<9223372036854775807 by omega);have oL:l[i].ok:=hok _ (WI hi);have xX:∀d∈Dx (l.take i),d.ok:=λd hd=>hok d (m2 d hd);rw[Py hi];generalize Dx (l.take i)=o at m1 m2 xX;generalize hB:H++G=B;have hp:=Vfu l[i] o;obtain⟨tkr,Gr,eB⟩:∃tkr Gr,AW AI 5 72 (.sl (enL cCl []) .ti) (.sl (enL cCl (o.drop (Fj l[i] o))) (FY tk (Fj l[i] o) o.length o.length false)) B=some (.sl (enL cCl (o.drop (Fj l[i] o))) tkr,B++Gr):=by by_cases he:o.drop (Fj l[i] o)=[];rw[he];exact⟨.ti,[],by simp[En,PM,Ia];exact En (by simp[Cu])⟩;have:=Dh (f:=cCl) (l:=[]) (m:=o.drop (Fj l[i] o)) (ty:=AI) (bytes:=72) (tk:=FY tk (Fj l[i] o) o.length o.length false) (H:=B) he (by simp;omega) (by simp;omega);exact⟨_,_,this⟩
  obtain⟨tks,hres⟩:∃tks,(if M4 l[i] o then B5 5 (.sl (enL cCl (o.drop (Fj l[i] o))) tkr) (some (.i6 1)) none none else some (.sl (enL cCl (o.drop (Fj l[i] o))) tkr))=some (.sl (enL cCl (Ko l[i] o)) tks):=by
   unfold Ko;cases hs:M4 l[i] o with
   |false=>exact⟨_,rfl⟩
   |true=>have hlt:Fj l[i] o<o.length:=(by unfold M4 at hs;cases hg:o[Fj l[i] o]? with|none=>rw[hg]at hs;cases hs|some d=>exact(W5.1 hg).1);have:=O7 (f:=cCl) (l:=o.drop (Fj l[i] o)) (tk:=tkr) (K:=.i64) (b:=1) (by simp;omega);exact⟨_,this⟩
  have pR:=Dh (f:=cCl) (l:=o.take (Fj l[i] o)) (m:=[l[i]]) (ty:=AI) (bytes:=72) (tk:=.ti) (H:=B++Gr) (by simp) (by simp;omega) (by simp;omega);obtain⟨tkf,Gf,yX⟩:∃tkf Gf,AW AI 5 72 (.sl (enL cCl (o.take (Fj l[i] o)++[l[i]])) (.own (B++Gr).length)) (.sl (enL cCl (Ko l[i] o)) tks) (B++Gr++[Blk.tok ((o.take (Fj l[i] o)).length+[l[i]].length) AI 5])=some (.sl (enL cCl (Cq o l[i])) tkf,B++Gf):=by by_cases he:Ko l[i] o=[];unfold Cq;rw[he,WU];exact⟨_,Gr++[Blk.tok ((o.take (Fj l[i] o)).length+[l[i]].length) AI 5],by rw[Ia,En (by simp[PM]),WD]⟩;have kU:(Ko l[i] o).length<=o.length:=(by unfold Ko;split<;>simp<;>omega);have:=F4 (f:=cCl) (l:=o.take (Fj l[i] o)++[l[i]]) (m:=Ko l[i] o) (ty:=AI) (bytes:=72) (tk:=tks) (H:=B++Gr++[Blk.tok ((o.take (Fj l[i] o)).length+[l[i]].length) AI 5]) (t:=(B++Gr).length) he (by simp) (by simp;omega) (by simp;omega);exact⟨.own (B++Gr).length,Gr++[Blk.tok ((o.take (Fj l[i] o)++[l[i]]).length+(Ko l[i] o).length) AI 5],by rw[this];unfold Cq;rw[Xl _ _ (W7 _),Xi,List.set_cons_zero,WD,WD]⟩
  refine⟨_,_,⟨tkf,G++Gf,rfl,rfl⟩,λrec=>?_⟩;unfold Udu;simp only[GMw,Aw,aE,Ao,Aj];refine Bv (G:=λaA vs H1=>Uet H rec aA (ag vs 0) (ag vs 1) (ag vs 2) (ag vs 3) H1) (σ:=Nat) (λk=>k<=o.length/\∀(j:Nat)(d:Cl),j<k->o[j]? = some d->decide (JY d l[i]<0)=true) (λk=>[.sl (enL cCl l) tk0,.sl (enL cCl o) tk,.i6 (i:Int),.i6 (k:Int)]) (λ_=>B) (λk=>o.length-k) (λ_=>_) (λk aA hk hrec=>?_) 0 ⟨WZ _,λj d hj=>by omega⟩ (by omega);obtain⟨hk1,hk2⟩:=hk;have gB:=Au (show k<9223372036854775807 by omega);unfold Uet;have stop:(∀d,o[k]? = some d->decide (JY d l[i]<0)=false)->k=Fj l[i] o:=λh=>(Oq _ o k hk1 hk2 h).symm;have yQ:AN 5 []=some (.sl (enL cCl []) .ti):=rfl;have tail:∀s:Bool,k=Fj l[i] o->s=M4 l[i] o->(AJ (λj3=>Ak (.bool s) ((B5 5 (.sl (enL cCl (o.drop (Fj l[i] o))) tkr) (some (.i6 1)) none none).bind λx61=>j3 [.sl (enL cCl l) tk0,.sl (enL cCl o) tk,.i6 (i:Int),.i6 (k:Int),x61] (B++Gr)) (j3 [.sl (enL cCl l) tk0,.sl (enL cCl o) tk,.i6 (i:Int),.i6 (k:Int),.sl (enL cCl (o.drop (Fj l[i] o))) tkr] (B++Gr))) (λvs H1=>Udr H rec (ag vs 0) (ag vs 1) (ag vs 2) (ag vs 3) (ag vs 4) H1))=rec [.sl (enL cCl l) tk0,.sl (enL cCl (Cq o l[i])) tkf,.i6 ((i+1:Nat):Int)] (H++(G++Gf)):=by intro s cX hs;have fin:Udr H rec (.sl (enL cCl l) tk0) (.sl (enL cCl o) tk) (.i6 (i:Int)) (.i6 (k:Int)) (.sl (enL cCl (Ko l[i] o)) tks) (B++Gr)=rec [.sl (enL cCl l) tk0,.sl (enL cCl (Cq o l[i])) tkf,.i6 ((i+1:Nat):Int)] (H++(G++Gf)):=(by unfold Udr;rw[cX];simp only[GMw,Ve5 hp,Ay hi,Pu,Qc,pR,yX,aK];rw[<-hB,WD]);subst hs;cases eF:M4 l[i] o with|false=>rw[eF]at hres;simp only[WB,if_false,WE]at hres;simp only[GMw,hres];exact fin|true=>rw[eF]at hres;simp only[if_true]at hres;simp only[GMw,hres];exact fin
  by_cases h:k<o.length
  ·have cZ:(k:Int)<(o.length:Int):=(by omega);have nR:=λH=>Vfd o[k] l[i] H (xX _ (WI h)) oL;simp only[GMw,Aw,cZ,Ay h,Ay hi,Pu,nR,gB];by_cases hlt:JY o[k] l[i]<0
   ·have:=hrec (k+1) ⟨h,λj d hj hd=>by
     by_cases e:j=k;subst e;rw[W4 h]at hd;injection hd with hd;rw[<-hd];exact zXc hlt
     ·exact hk2 j d (by omega) hd⟩ (by omega)
    simp only[hlt,GMw];exact this
   have cX:=stop (λd hd=>by rw[W4 h]at hd;injection hd with hd;rw[<-hd];exact zXd hlt);have eF:decide (JY o[k] l[i]=0)=M4 l[i] o:=(by unfold M4;rw[<-cX,W4 h]);simp only[hlt,GMw,yQ];have jK:=O7 (f:=cCl) (l:=o) (tk:=tk) (K:=.i64) (b:=Fj l[i] o) hp;rw[<-cX]at jK eB;simp only[GMw,jK,eB];have ht:=tail _ cX eF;rw[<-cX]at ht;simp only[GMw]at ht;exact ht
  have hk:k=o.length:=(by omega);have cZ:¬(k:Int)<(o.length:Int):=(by omega);have cX:=stop (λd hd=>by rw[zYb (by omega)]at hd;cases hd);have eF:false=M4 l[i] o:=(by unfold M4;rw[<-cX,zYb (by omega)]);have jK:=O7 (f:=cCl) (l:=o) (tk:=tk) (K:=.i64) (b:=Fj l[i] o) hp;rw[<-cX]at jK eB;simp only[GMw,Aw,cZ,yQ,jK,eB];have ht:=tail _ cX eF;rw[<-cX]at ht;simp only[GMw]at ht;exact ht
end Go.Gm
