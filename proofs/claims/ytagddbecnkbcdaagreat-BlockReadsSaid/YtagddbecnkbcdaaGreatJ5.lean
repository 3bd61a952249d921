/- Texts of this proof, joined. -/
import Derived.Test.YtagddbecnkbcdaaGreatJ2
import Derived.Test.YtagddbecnkbcdaaGreatJ3
import Derived.Test.YtagddbecnkbcdaaGreatJ4
import Derived.Shelf.Small.Strs
import Derived.Shelf.Small.Wraps
import Derived.Shelf.Strings.Search1
import Derived.Shelf.GgClosure.StringsIndexFunc
import Derived.Ground.GgwProg
import Derived.Shelf.GgClosure.StringsIndexFuncTop
import Derived.Shelf.Strings.Prefix
import Derived.Shelf.Strings.FuncGrows
import Derived.Test.YtagddbecnkbcdaaGreatProg
import Derived.RangeFuncBox
import Derived.RangeFuncLeaves
import Derived.Shelf.Abstract
import Derived.WalkKit
import Derived.OwnWalkIn
import Derived.TacticsInMore
import Derived.LoopNIn
import Derived.LoopIn
import Derived.KernelRfl
import Derived.Calls
set_option linter.all false
namespace Go.Gm
open Go.RowKit
theorem TF {E:Env}{H:Aa}{w w':World}(h:Sim E H w)(hb:Below w.heap.size w w'):Sim E H w'/\BX E H w E H w':=
 h.ext (.refl E) (λ_ _ _ h=>h) (λ_ _ _ h=>h) hb.block (λ_ _=>rfl) (λb o v hv hlt=>by have:=h.imm_lt hv;omega) hb.os hb.tape hb.output hb.size
def Env.bare (E:Env):Env:=⟨λ_ _=>none,λ_ _=>none,E.I⟩
theorem sim_bare {E:Env}{H:Aa}{w:World}(h:Sim E H w):Sim E.bare [] w:=
 ⟨λid B h=>(by simp at h),λid g b h=>(by cases h),λid g b h=>(by cases h),λid B n h=>(by simp at h),λid id' b h=>(by simp[loc]at h),λb o v hv=>h.imm b o v hv,λb cs hf=>⟨(h.fix b cs hf).1,(h.fix b cs hf).2.1,λid=>by simp[loc]⟩⟩
theorem fn_calls {P:Program}{G:Ix}{g:FuncId}{F:List Ab->Aa->Out}(hF:AG P G g F){fn:Func}(hf:P.funcs[g]? = some fn)(hB:fnB 0 fn=true)
  {E:Env}{H:Aa}{w:World}(hG:DP G E.bare)(hs:Sim E H w){args:List Ab}{vs:Array Value}(hv:A9 E.bare args vs.toList){res:Res}(h:F args []=some (res,[])) :
  Calls P g vs w λe w'=>(∃E',IT E' res e)/\Below w.heap.size w w':=by
 obtain⟨b1,b2,b3⟩:=FO hB;rcases hF args [] _ _ h E.bare w vs hG (sim_bare hs) hv with ⟨_,h1⟩ | ⟨v,w',h1,_⟩
 ·exact h1.mono λe w' ⟨E',h2,_,h3⟩=>⟨⟨E',h2⟩,Rm h3⟩
 ·rw[F2 hf b1 b2]at h1;cases h1
theorem lib_ok {P:Program}{G:Ix}{g:FuncId}{fn:Func}(hf:P.funcs[g]? = some fn)(hB:fnB 0 fn=true){args:List Ab}{H:Aa}{x:Ab}
  (h:∀(E:Env) (w:World) (vs:Array Value),DP G E->Sim E H w->A9 E args vs.toList->∃v,A2 E x v/\Calls P g vs w λe w'=>e=.returned v/\Below w.heap.size w w'):CallA P G g args H (.ret x) H:=by
 intro E w vs hG hs hv;obtain⟨v,h1,h2⟩:=h E w vs hG hs hv;obtain⟨b1,b2,b3⟩:=FO hB;refine .inl ⟨F2 hf b1 b2 vs w,h2.mono λe w' ⟨he,hb⟩=>?_⟩;subst he;obtain⟨k1,k2⟩:=TF hs hb;exact⟨E,h1,k1,k2⟩
theorem args1 {E:Env}{a:Ab}{vs:Array Value}(h:A9 E [a] vs.toList):∃v,vs = #[v]/\A2 E a v:=by
 obtain⟨l⟩:=vs
 match l,h with
 | [v],h=>exact⟨v,rfl,h.head⟩
 | [],h=>exact absurd h.1 (by simp)
 | _::_::_,h=>exact absurd h.1 (by simp)
theorem args2 {E:Env}{a b:Ab}{vs:Array Value}(h:A9 E [a,b] vs.toList):∃v u,vs = #[v,u]/\A2 E a v/\A2 E b u:=by
 obtain⟨l⟩:=vs
 match l,h with
 | [v,u],h=>exact⟨v,u,rfl,h.head,h.tail.head⟩
 | [],h=>exact absurd h.1 (by simp)
 | [_],h=>exact absurd h.1 (by simp)
 | _::_::_::_,h=>exact absurd h.1 (by simp)
theorem val_str {E:Env}{s:List UInt8}{v:Value}(h:A2 E (.str s) v):v=.string ⟨s.toArray⟩:=by cases h;rfl
theorem QD {E:Env}{k:IntKind}{n:Int}{v:Value}(h:A2 E (.int k n) v):v=.int k n:=by cases h;rfl
end Go.Gm
/-
 DERIVED: THE SHELF's CONTRACTS AT THIS DUMP,IN PLAIN WORDS (tools/lay-plain.mjs out of 'TryzShelf.lean',which tools/lay-shelf.mjs wrote): THE SAME DECLARATIONS UNDER THE SAME NAMES: 'import','namespace','open','def','theorem' AND NOTHING ELSE: no command of the shelf's: FOR A HAND-IN. Each laying: the table of numbers ('.._ren') and one theorem,a field a fact of the dump's own or the kernel's comparison;each contract: ONE APPLICATION.
-/
namespace Go.Proofs
open Go.Shelf
def Tryz.lays137_ren:Go.Shelf.Ren:=⟨fun | 137=>177 | 217=>220 | 266=>231 | n=>n,fun | 9=>9 | 5=>5 | 3=>3 | n=>n,fun | n=>n⟩
theorem Tryz.lays137:Go.Proofs.Lays.n137 Tryz.prog Tryz.lays137_ren:={
 mixed:=by kernel_rfl
 f137:=Tryz.func177.trans (congrArg some (by kernel_rfl))
 f217:=Tryz.func220.trans (congrArg some (by kernel_rfl))
 f266:=Tryz.func231.trans (congrArg some (by kernel_rfl))
 t3:=Tryz.underlying3
 a3:=Tryz.isAgg3
 z3:=Tryz.sizeOf3
 v3:=Tryz.zeroValue3
 t5:=Tryz.underlying5
 a5:=Tryz.isAgg5
 z5:=Tryz.sizeOf5
 v5:=Tryz.zeroValue5
 t9:=Tryz.underlying9
 a9:=Tryz.isAgg9
 z9:=Tryz.sizeOf9
 v9:=Tryz.zeroValue9 }
open Go.RowKit in
theorem Tryz.strings_IndexByte (s:ByteArray)(c:Int)(w:World) :
  Calls Tryz.prog 177 #[.string s,.int .u8 c] w λe w'=>e=.returned (.i6 (Lib.indexByte s.data.toList c.toNat.toUInt8))/\w'=w:=Any.strings_IndexByte Tryz.lays137 s c w
def Tryz.laysGw15_ren:Go.Shelf.Ren:=⟨fun | 15=>234 | 20=>239 | n=>n,fun | 9=>9 | 23=>256 | 3=>3 | 4=>4 | 0=>0 | 21=>21 | n=>n,fun | n=>n⟩
theorem Tryz.laysGw15:Go.Proofs.LaysGw.n15 Tryz.prog Tryz.laysGw15_ren:={
 mixed:=by kernel_rfl
 f15:=Tryz.func234.trans (congrArg some (by kernel_rfl))
 f20:=Tryz.func239.trans (congrArg some (by kernel_rfl))
 t0:=Tryz.underlying0
 a0:=Tryz.isAgg0
 z0:=Tryz.sizeOf0
 v0:=Tryz.zeroValue0
 i0:=by kernel_rfl
 t3:=Tryz.underlying3
 a3:=Tryz.isAgg3
 z3:=Tryz.sizeOf3
 v3:=Tryz.zeroValue3
 i3:=by kernel_rfl
 t4:=Tryz.underlying4
 a4:=Tryz.isAgg4
 z4:=Tryz.sizeOf4
 v4:=Tryz.zeroValue4
 i4:=by kernel_rfl
 t9:=Tryz.underlying9
 a9:=Tryz.isAgg9
 z9:=Tryz.sizeOf9
 v9:=Tryz.zeroValue9
 i9:=by kernel_rfl
 t21:=Tryz.underlying21
 a21:=Tryz.isAgg21
 z21:=Tryz.sizeOf21
 v21:=Tryz.zeroValue21
 i21:=by kernel_rfl
 t23:=Tryz.underlying256
 a23:=Tryz.isAgg256
 z23:=Tryz.sizeOf256
 v23:=Tryz.zeroValue256
 i23:=by kernel_rfl }
open Go.RowKit Go.Lib in
theorem Tryz.strings_IndexFunc_grows (g:Nat)(lb:Array Value)(eg:∀args w,(callFunc g args).run Tryz.prog w=.ok (.enter g args) w)(p:Nat->Bool)(s:ByteArray)(w:World)(hp:PredGrows Tryz.prog g lb p w) :
  Calls Tryz.prog 234 #[.string s,.func (.func g) #[] lb] w λe w'=>e=.returned (.i6 (Lib.idxFunc p true s))/\Below w.heap.size w w':=Any.strings_IndexFunc_grows Tryz.laysGw15 g lb eg p s w hp
end Go.Proofs
namespace Go.Gm
@[simp 2000] theorem BL {α β:Type}(a:α)(f:α->Option β):(some a).bind f=f a:=(rfl)
theorem FL {G:LK->LK}(N:Nat)(p:Nat->Bool)(st:Nat->List Ab)(H:Aa)(yes no:Out)(hN:N<1152921504606846976)
  (turn:∀(rec:LK) (i:Nat),i<N->G rec (st i) H=if p i then rec (st (i+1)) H else no)(last:∀rec:LK,G rec (st N) H=yes):Am G AM (st 0) H=if (List.range N).all p then yes else no:=by
 refine AZ (σ:=Nat) (λi=>i<=N/\∀j,j<i->p j=true) st (λ_=>H) (λi=>N-i) (λ_=>if (List.range N).all p then yes else no) (λi rec hi hrec=>?_) 0 ⟨Ve _,λj hj=>by omega⟩ (by omega);by_cases h:i<N
 ·rw[turn rec i h];cases hp:p i with
  | true=>exact hrec (i+1) ⟨h,λj hj=>by
    by_cases e:j=i
    ·rw[e];exact hp
    ·exact hi.2 j (by omega)⟩ (by omega)
  | false=>
   have:(List.range N).all p=false:=by rw[W6];exact⟨i,by simpa using h,by simp[hp]⟩
   simp[this]
 ·have e:i=N:=by omega
  subst e;have:(List.range i).all p=true:=by rw[Vb];intro j hj;exact hi.2 j (by simpa using hj)
  rw[last,this];rfl
theorem N5 {G:LK->LK}(N:Nat)(p:Nat->Bool)(st:Nat->List Ab)(H:Aa)(none':Out)(found:Nat->Out)(hN:N<1152921504606846976)
  (turn:∀(rec:LK) (i:Nat),i<N->G rec (st i) H=if p i then found i else rec (st (i+1)) H)(last:∀rec:LK,G rec (st N) H=none') :
  Am G AM (st 0) H=match (List.range N).find? p with | some i=>found i | none=>none':=by
 refine AZ (σ:=Nat) (λi=>i<=N/\∀j,j<i->p j=false) st (λ_=>H) (λi=>N-i) (λ_=>match (List.range N).find? p with | some i=>found i | none=>none') (λi rec hi hrec=>?_) 0 ⟨Ve _,λj hj=>by omega⟩ (by omega);by_cases h:i<N
 ·rw[turn rec i h];cases hp:p i with
  | false=>exact hrec (i+1) ⟨h,λj hj=>by
    by_cases e:j=i
    ·rw[e];exact hp
    ·exact hi.2 j (by omega)⟩ (by omega)
  | true=>
   have:(List.range N).find? p=some i:=by
    rw[Xl];exact⟨hp,by simpa using h,λj hj=>by simp[hi.2 j hj]⟩
   rw[this];rfl
 ·have e:i=N:=by omega
  subst e;have:(List.range i).find? p=none:=by
   rw[WD];intro j hj;simp[hi.2 j (by simpa using hj)]
  rw[last,this]
theorem Cz {sz:Nat}{cs:List Ab}{H:Aa}(h:cs.all Ab.isScal=true)(hl:cs.length=sz):Bu true sz (.agg cs) H=some (.ptr H.length 0 0,H++[.cel 0 cs]):=by
 unfold Bu;rw[Cc h];simp[hl,alloc_eq h]
theorem BQ {v:Ab}{p:Ab->Prop}{k:Ab->Out}(hp:p v):bC (some v) p k=k v:=by
 simp only[bC,zXa,chk_pos hp]
theorem DB {cs vs:List Ab}{sz:Nat}(h:cs.length=sz):Dc cs 0 sz vs=vs:=by simp[Dc,Xr (WL h)]
theorem J6 {cs vs:List Ab}{sz g:Nat}{v:Ab}{G:Aa}(hv:v.acells=some vs)(h:cs.length=sz)(h2:vs.length=sz):Ae sz (.ptr 0 g 0) v (.cel g cs::G)=some (.cel g vs::G):=by
 rw[Rl,hv];simp only[zXa,h2,h,UJ,UK,and_self,if_true,DB h]
@[simp] theorem HM {x:Out}:chk True x=x:=chk_pos trivial x
@[simp] theorem PT {v:Ab}{p:Ab->Prop}{k:Ab->Out}:bC (some v) p k=chk (p v) (k v):=(rfl)
section
variable {x:Option Ab}{p:Bool->Ab->Prop}{k:Ab->Out}{w:Bool}
@[simp] theorem Pn:gkc (.bool true) true x p k=bC x (p true) k:=(rfl)
@[simp] theorem Pq:gkc (.bool false) false x p k=bC x (p true) k:=(rfl)
@[simp] theorem Po:gkc (.bool true) false x p k=chk (p false Cx) (k Cx):=(rfl)
@[simp] theorem Pp:gkc (.bool false) true x p k=chk (p false Cx) (k Cx):=(rfl)
@[simp] theorem Us:gkc (.tup []) w x p k=chk (p false Cx) (k Cx):=(rfl)

end
theorem N0 (p:Nat->Bool):(List.range 4).all p=(p 0&&p 1&&p 2&&p 3):=by
 show (p 0&&(p 1&&(p 2&&(p 3&&true))))=_;cases p 0 <;> cases p 1 <;> cases p 2 <;> cases p 3 <;> rfl
theorem wrap_nat {n:Nat}(h:n<9223372036854775808):IntKind.i64.wrap (n:Int)=(n:Int):=Ao (by omega) (by omega)
theorem As {n:Nat}(h:n<9223372036854775807):IntKind.i64.wrap ((n:Int)+1)=((n+1:Nat):Int):=by rw[Ao] <;> omega
theorem GX {n:Nat}(h:0<n)(h2:n<9223372036854775807):IntKind.i64.wrap ((n:Int)-1)=((n-1:Nat):Int):=by rw[Ao] <;> omega
@[simp] theorem GL {a b:Int}:(a == b)=decide (a=b):=by rw[Va];simp
@[simp] theorem KX {a b:Int}:(a != b) = !decide (a=b):=by rw[Va];simp
structure Nd where
 lv:Int
 k0:Int
 k1:Int
 k2:Int
 k3:Int
deriving DecidableEq
def Nd.kid (x:Nd)(k:Nat):Int:=match k with | 0=>x.k0 | 1=>x.k1 | 2=>x.k2 | _=>x.k3
def cNd (x:Nd):List Ab:=[.i6 x.lv,.i6 x.k0,.i6 x.k1,.i6 x.k2,.i6 x.k3]
instance:Sz cNd 5:=⟨λ_=>rfl⟩
section
variable {x y:Nd}{H:Aa}{k:Nat}
@[simp] theorem Cy:(cNd x)[0]? = some (.i6 x.lv):=(rfl)
theorem Ez (h:k<4):(cNd x)[1+k]? = some (.i6 (x.kid k)):=by
 match k,h with
 | 0,_=>rfl
 | 1,_=>rfl
 | 2,_=>rfl
 | 3,_=>rfl
theorem ER {K:IntKind}{cs:List Ab}{o:Nat}(h:k<4):B8 4 1 (.cptr cs o) (.int K (k:Int))=some (.cptr cs (o+k*1)):=by
 unfold B8;simp only[];rw[if_pos ⟨by omega,by omega⟩];simp
theorem Je:Ad true 5 (.cptr (cNd x) 0) H=some (.agg (cNd x)):=(rfl)
theorem Fq:(cNd x).all Ab.isScal=true:=(rfl)
theorem UE:(Ab.agg (cNd x)).acells=some (cNd x):=(rfl)
theorem OB:BY (cNd x) (cNd y)=some (decide (x=y)):=by
 obtain⟨a,b,c,d,e⟩:=x;obtain⟨a',b',c',d',e'⟩:=y;simp only[cNd,BY,Hp,if_true,zXa,UQ];rw[Va];simp
theorem eq_nd:Af (.flat 5) .eql (.agg (cNd x)) (.agg (cNd y))=some (.bool (decide (x=y))):=by
 show (eqA (.flat 5) (.agg (cNd x)) (.agg (cNd y))).map Ab.bool=_;have h:eqA (.flat 5) (.agg (cNd x)) (.agg (cNd y))=some (decide (x=y)):=by unfold eqA;simp only[];rw[if_pos (show (cNd x).length=5 from rfl),OB]
 rw[h];rfl
theorem neq_nd:Af (.flat 5) .neq (.agg (cNd x)) (.agg (cNd y))=some (.bool (!decide (x=y))):=by
 show (eqA (.flat 5) (.agg (cNd x)) (.agg (cNd y))).map (λb=>Ab.bool (!b))=_;have h:eqA (.flat 5) (.agg (cNd x)) (.agg (cNd y))=some (decide (x=y)):=by unfold eqA;simp only[];rw[if_pos (show (cNd x).length=5 from rfl),OB]
 rw[h];rfl

end
theorem Kb (x:Nd):AL 5 [.agg (cNd x)]=some (.sl (enL cNd [x]) .ti):=by
 simp[AL,Df,UE];simp[cNd,Lq,Ch,enL]
def IV:Ab->Bool
 | .bool _=>true
 | .int _ _=>true
 | .str _=>true
 | .sl _ .no=>true
 | .sl _ .ti=>true
 | _=>false
class Pl {α:Type} (f:α->List Ab):Prop where
 pl:∀a,(f a).all IV=true
instance:Pl cB:=⟨λ_=>rfl⟩
instance:Pl cU:=⟨λ_=>rfl⟩
instance:Pl cI:=⟨λ_=>rfl⟩
instance:Pl cN:=⟨λ_=>rfl⟩
instance:Pl cY:=⟨λ_=>rfl⟩
instance:Pl cS:=⟨λ_=>rfl⟩
instance:Pl cNd:=⟨λ_=>rfl⟩
theorem plnC_scal {c:Ab}(h:IV c=true):c.isScal=true:=by cases c <;> first | rfl | (simp[IV]at h)
theorem plnC_imm {c:Ab}(h:IV c=true):Ch c=true:=by
 cases c <;> first | rfl | (simp[IV]at h)
 rename_i es tk;cases tk <;> first | rfl | (simp[IV]at h)
theorem plnC_frz {c:Ab}{H:Aa}{n d:Nat}(h:IV c=true):frz H n (d+1) c=some c:=by
 cases c <;> first | (simp[frz];done) | (simp[IV]at h)
 rename_i es tk;cases tk <;> first | (simp[frz];done) | (simp[IV]at h)
theorem Hb {H:Aa}{n d:Nat}:∀ {cs:List Ab},cs.all IV=true->Eu H n (d+2) cs=some cs
 | [],_=>by simp[Eu]
 | c::cs,h=>by
  simp only[List.all_cons,UU]at h;simp[Eu,plnC_frz h.1,Hb h.2]
section
variable {α:Type}{f:α->List Ab}{l:List α}{sz i n:Nat}{a:α}{H:Aa}{id:Nat}{K:IntKind}
def flat (f:α->List Ab)(l:List α):List Ab:=l.flatMap f
@[simp] theorem flat_nil:flat f []=[]:=(rfl)
theorem D8:flat f (a::l)=f a++flat f l:=by simp[flat]
theorem Qm {m:List α}:flat f (l++m)=flat f l++flat f m:=by simp[flat]
theorem Fj [hf:Sz f sz]:∀(l:List α),(flat f l).length=l.length*sz
 | []=>by simp
 | a::l=>by
  have:=Fj l;simp only[D8,UO,hf.len,zXj,Xn];omega
theorem MT [hp:Pl f]:∀(l:List α),(flat f l).all IV=true
 | []=>rfl
 | a::l=>by simp only[D8,Xv,UU];exact⟨hp.pl a,MT l⟩
theorem Ow [hp:Pl f](l:List α):(flat f l).all Ch=true:=by
 rw[Vb];intro c hc;exact plnC_imm (Vb.1 (MT (f:=f) l) c hc)
theorem P7 [hf:Sz f sz]:∀(l:List α) (i:Nat),(flat f l).drop (i*sz)=flat f (l.drop i)
 | [],i=>by simp
 | a::l,0=>by simp
 | a::l,i+1=>by
  have:=P7 l i;rw[X1,<-this,D8,Xn,Xo,List.drop_append,hf.len,Xr (by rw[hf.len];omega),List.nil_append]
  congr 1;omega
theorem MS [hf:Sz f sz]:∀(l:List α) (i:Nat),(flat f l).take (i*sz)=flat f (l.take i)
 | [],i=>by simp
 | a::l,0=>by simp
 | a::l,i+1=>by
  have:=MS l i;rw[List.take_succ_cons,D8,D8,<-this,Xn,Xo,List.take_append,hf.len,US (by rw[hf.len];omega)]
  congr 2;omega
theorem QS [hf:Sz f sz](h:i<l.length):((flat f l).drop (i*sz)).take sz=f l[i]:=by
 rw[P7,Vh h,D8,Wj (by rw[hf.len];omega),US (by rw[hf.len];omega)]
theorem Sw [hf:Sz f sz](h:i<l.length):Dc (flat f l) (i*sz) sz (f a)=flat f (l.set i a):=by
 have e:l.set i a=l.take i++a::l.drop (i+1):=by rw[WI,if_pos h]
 have e2:i*sz+sz=(i+1)*sz:=by rw[Xn]
 unfold Dc;rw[e,e2,MS,P7,Qm,D8];simp
theorem Kz [hf:Sz f sz](h:i<l.length):i*sz+sz<=(flat f l).length:=by
 rw[Fj,<-Xn];exact Vw _ h
theorem CS {g off cap:Nat}{ex:Bool}(h:i<n):Aw sz (.ms id g off n cap sz ex) (.int K (i:Int))=some (.ptr id g (off+i*sz)):=by
 unfold Aw;simp only[];rw[if_pos ⟨trivial,by omega,by omega⟩];simp
theorem Ih [hf:Sz f 1](hg:AB H id 0=some (flat f l))(h:i<l.length):Ad false 1 (.ptr id 0 i) H=(f l[i])[0]? := by
 have h1:=QS (f:=f) (sz:=1) h;have h2:=Kz (f:=f) (sz:=1) h;simp only[UW]at h1 h2;simp only[Ad,hg,zXa,UM,if_false];rw[<-h1];simp
theorem load_elA [hf:Sz f sz](hg:AB H id 0=some (flat f l))(h:i<l.length):Ad true sz (.ptr id 0 (i*sz)) H=some (.agg (f l[i])):=by
 simp only[Ad,hg,zXa,if_true,Kz h,QS h]
theorem DW [hf:Sz f sz]{v:Ab}(hg:AB H id 0=some (flat f l))(h:i<l.length)(hv:v.acells=some (f a)):Ae sz (.ptr id 0 (i*sz)) v H=some (FH H id 0 (flat f (l.set i a))):=by
 simp only[Ae,hg,zXa,hv,hf.len,Kz h,and_self,if_true,Sw h]
theorem TQ:∀(n:Nat),LM n (f a)=flat f (List.replicate n a)
 | 0=>rfl
 | n+1=>by
  have:=TQ n;simp only[LM,zXm,List.flatten_cons,D8]at this ⊢;rw[this]
theorem Fx [hf:Sz f sz][hp:Pl f]{bytes:Nat}(hb:n*bytes<=140737488355328)(hn:n<=140737488355328):F5 sz bytes (some (f a)) (.i6 (n:Int)) (.i6 (n:Int)) H=some (.ms H.length 0 0 n n sz true,H++[.cel 0 (flat f (List.replicate n a))]):=by
 have h1:((n:Int)*(bytes:Int))<=140737488355328:=by
   have:((n*bytes:Nat):Int)<=140737488355328:=by omega
   simpa using this
 have h2:(f a).all Ab.isScal=true:=by rw[Vb];intro c hc;exact plnC_scal (Vb.1 (hp.pl a) c hc)
 unfold F5;simp only[zXa];rw[if_pos ⟨h2,hf.len a,by omega,by omega,h1,by omega⟩];simp only[zXl,TQ]
theorem Mb [hf:Sz f sz]:∀(l:List α),GD sz l.length (flat f l)=enL f l
 | []=>rfl
 | a::l=>by
  have:=Mb l;simp only[zXj,GD,D8,enL,Wl,Wj (WL (hf.len a).symm),US (WL (hf.len a)),List.drop_left' (hf.len a)];rw[this];rfl
theorem fall_ms [hf:Sz f sz][hp:Pl f]{b d cap:Nat}{ex:Bool}(hg:AB H id 0=some (flat f l))(hi:b<=id):Hl H b (d+3) (.ms id 0 0 l.length cap sz ex)=some (.sl (enL f l) .no):=by
 have h1:¬id<b:=by omega
 unfold Hl;simp only[frz,h1,if_false,hg,zXa,VX,UJ,Fj,UK,if_true,US (WL (Fj (f:=f) l)),Hb (MT (f:=f) l),Ow (f:=f) l,Mb,zXb,forget,Ew,fgt]
@[simp] theorem TO {G:Aa}{g:Nat}{cs:List Ab}:FH (H++G) H.length g cs=H++FH G 0 g cs:=Rs (k:=0)
@[simp] theorem setC_appK {G:Aa}{g k:Nat}{cs:List Ab}:FH (H++G) (H.length+k) g cs=H++FH G k g cs:=Rs
@[simp] theorem TM {G:Aa}{g g':Nat}{c cs:List Ab}:FH (.cel g' c::G) 0 g cs=.cel g cs::G:=(rfl)
@[simp] theorem setC_suc {G:Aa}{g k:Nat}{b:Blk}{cs:List Ab}:FH (b::G) (k+1) g cs=b::FH G k g cs:=TN

end
theorem A1 {H:Aa}{p:Nat}{cs:List Ab}(hg:H[p]? = some (.cel 0 cs)):AB H p 0=some cs:=by simp[AB,hg]
theorem B3 {a:Bool}{sz p g o:Nat}{H G:Aa}{v:Ab}(h:Ad a sz (.ptr p g o) H=some v):Ad a sz (.ptr p g o) (H++G)=some v:=by
 unfold Ad at h ⊢;simp only at h ⊢;cases hg:AB H p g with
 | none=>rw[hg]at h;cases h
 | some cs=>
  have:AB (H++G) p g=some cs:=by
   have hlt:p<H.length:=by
    by_cases hl:p<H.length
    ·exact hl
    ·unfold AB at hg;rw[zYb (by omega)]at hg;cases hg
   rw[get_old hlt];exact hg
  rw[this];rw[hg]at h;exact h
theorem B5 {H:Aa}{p:Nat}{cs cs':List Ab}(hg:H[p]? = some (.cel 0 cs)):FH H p 0 cs'=H.set p (.cel 0 cs'):=by simp[FH,hg]
theorem Ap {cs:List Ab}{B:Aa}:(B++[Blk.cel 0 cs])[B.length]? = some (.cel 0 cs):=by simp
theorem Ba {B:Aa}{b b':Blk}:(B++[b]).set B.length b'=B++[b']:=by simp
theorem Qs:∀l:List UInt8,CW (flat cY l)=some l
 | []=>rfl
 | b::l=>by
  have:=Qs l;rw[D8];show CW (.int .u8 (b.toNat:Int)::flat cY l)=_;simp only[CW,this,zXb];simp
theorem toStr_ms {l:List UInt8}{H:Aa}{id:Nat}(hg:AB H id 0=some (flat cY l)):Dq (.ms id 0 0 l.length l.length 1 true) H=some (.str l):=by
 have hl:=Fj (f:=cY) l;rw[UW]at hl;simp only[Dq,if_true,hg,zXa,UJ,hl,UK,VX,US (WL hl),Qs,zXb]
theorem GMb:(((((((∀ {α β:Type} (a:α) (f:α->Option β),Option.bind (Option.some a) f=f a) /\
 (∀(v:Ab) (l:List Ab),ag (v::l) 0=v)) /\
 ((∀(a v:Ab) (l:List Ab),ag (a::v::l) 1=v) /\
 (∀(a b v:Ab) (l:List Ab),ag (a::b::v::l) 2=v))) /\
 (((∀(a b c v:Ab) (l:List Ab),ag (a::b::c::v::l) 3=v) /\
 (∀(a b c d v:Ab) (l:List Ab),ag (a::b::c::d::v::l) 4=v)) /\
 ((∀(a b c d e v:Ab) (l:List Ab),ag (a::b::c::d::e::v::l) 5=v) /\
 (∀ {ek:EqK} {k:IntKind} {a b:Int},Af ek BinOp.lss (Ab.int k a) (Ab.int k b)=Option.some (Ab.bool (Decidable.decide (a<b))))))) /\
 ((((∀ {ek:EqK} {k:IntKind} {a b:Int},Af ek BinOp.gtr (Ab.int k a) (Ab.int k b)=Option.some (Ab.bool (Decidable.decide (a>b)))) /\
 (∀ {ek:EqK} {k:IntKind} {a b:Int},Af ek BinOp.leq (Ab.int k a) (Ab.int k b)=Option.some (Ab.bool (Decidable.decide (a<=b))))) /\
 ((∀ {ek:EqK} {k:IntKind} {a b:Int},Af ek BinOp.geq (Ab.int k a) (Ab.int k b)=Option.some (Ab.bool (Decidable.decide (a>=b)))) /\
 (∀ {ek:EqK} {k:IntKind} {a b:Int},Af ek BinOp.eql (Ab.int k a) (Ab.int k b)=Option.some (Ab.bool (a == b))))) /\
 (((∀ {ek:EqK} {k:IntKind} {a b:Int},Af ek BinOp.neq (Ab.int k a) (Ab.int k b)=Option.some (Ab.bool (a != b))) /\
 (∀ {ek:EqK} {k:IntKind} {a b:Int},Af ek BinOp.add (Ab.int k a) (Ab.int k b)=Option.some (Ab.int k (IntKind.wrap k (a+b))))) /\
 ((∀ {ek:EqK} {k:IntKind} {a b:Int},Af ek BinOp.sub (Ab.int k a) (Ab.int k b)=Option.some (Ab.int k (IntKind.wrap k (a-b)))) /\
 ((∀ {ek:EqK} {k:IntKind} {a b:Int},Af ek BinOp.mul (Ab.int k a) (Ab.int k b)=Option.some (Ab.int k (IntKind.wrap k (a*b)))) /\
 (∀(a b:Out),Ak (Ab.bool Bool.true) a b=a)))))) /\
 (((((∀(a b:Out),Ak (Ab.bool Bool.false) a b=b) /\
 (∀(a b:Ab),A5 (Ab.bool Bool.true) a b=Option.some a)) /\
 ((∀(a b:Ab),A5 (Ab.bool Bool.false) a b=Option.some b) /\
 (∀ {kv:Ab->Out} (x:Option Ab),gk (Ab.bool Bool.true) Bool.true x kv=Option.bind x kv))) /\
 (((∀ {kv:Ab->Out} (x:Option Ab),gk (Ab.bool Bool.false) Bool.false x kv=Option.bind x kv) /\
 (∀ {kv:Ab->Out} (x:Option Ab),gk (Ab.bool Bool.true) Bool.false x kv=kv Cx)) /\
 ((∀ {kv:Ab->Out} (x:Option Ab),gk (Ab.bool Bool.false) Bool.true x kv=kv Cx) /\
 ((∀ {kv:Ab->Out} (w:Bool) (x:Option Ab),gk (Ab.tup []) w x kv=kv Cx) /\
 (∀ {x:Option Ab} {p:Bool->Ab->Prop} {k:Ab->Out},gkc (Ab.bool Bool.true) Bool.true x p k=bC x (p Bool.true) k))))) /\
 ((((∀ {x:Option Ab} {p:Bool->Ab->Prop} {k:Ab->Out},gkc (Ab.bool Bool.false) Bool.false x p k=bC x (p Bool.true) k) /\
 (∀ {x:Option Ab} {p:Bool->Ab->Prop} {k:Ab->Out},gkc (Ab.bool Bool.true) Bool.false x p k=chk (p Bool.false Cx) (k Cx))) /\
 ((∀ {x:Option Ab} {p:Bool->Ab->Prop} {k:Ab->Out},gkc (Ab.bool Bool.false) Bool.true x p k=chk (p Bool.false Cx) (k Cx)) /\
 (∀ {x:Option Ab} {p:Bool->Ab->Prop} {k:Ab->Out} {w:Bool},gkc (Ab.tup []) w x p k=chk (p Bool.false Cx) (k Cx)))) /\
 (((∀ {v:Ab} {p:Ab->Prop} {k:Ab->Out},bC (Option.some v) p k=chk (p v) (k v)) /\
 (∀ {x:Out},chk True x=x)) /\
 ((∀ {H0 H:Aa} {k:Ab->Aa->Out} (x:Out),gbK H0 (Ab.bool Bool.true) Bool.true H x k=bK H0 x k) /\
 ((∀ {H0 H:Aa} {k:Ab->Aa->Out} (x:Out),gbK H0 (Ab.bool Bool.false) Bool.false H x k=bK H0 x k) /\
 (∀ {H0 H:Aa} {k:Ab->Aa->Out} (x:Out),gbK H0 (Ab.bool Bool.true) Bool.false H x k=k Cx H))))))) /\
 ((((((∀ {H0 H:Aa} {k:Ab->Aa->Out} (x:Out),gbK H0 (Ab.bool Bool.false) Bool.true H x k=k Cx H) /\
 (∀ {H0 H:Aa} {k:Ab->Aa->Out} (w:Bool) (x:Out),gbK H0 (Ab.tup []) w H x k=k Cx H)) /\
 ((∀ {H0 H:Aa} {k:Ab->Aa->Out} (x:Out),gbP H0 (Ab.bool Bool.true) Bool.true H x k=bP H0 x k) /\
 (∀ {H0 H:Aa} {k:Ab->Aa->Out} (x:Out),gbP H0 (Ab.bool Bool.false) Bool.false H x k=bP H0 x k))) /\
 (((∀ {H0 H:Aa} {k:Ab->Aa->Out} (x:Out),gbP H0 (Ab.bool Bool.true) Bool.false H x k=k Cx H) /\
 (∀ {H0 H:Aa} {k:Ab->Aa->Out} (x:Out),gbP H0 (Ab.bool Bool.false) Bool.true H x k=k Cx H)) /\
 ((∀ {H0 H:Aa} {k:Ab->Aa->Out} (w:Bool) (x:Out),gbP H0 (Ab.tup []) w H x k=k Cx H) /\
 (∀ {H:Aa} {k:Ab->Aa->Out} (x:Out),gbN (Ab.bool Bool.true) Bool.true H x k=AN x k)))) /\
 ((((∀ {H:Aa} {k:Ab->Aa->Out} (x:Out),gbN (Ab.bool Bool.false) Bool.false H x k=AN x k) /\
 (∀ {H:Aa} {k:Ab->Aa->Out} (x:Out),gbN (Ab.bool Bool.true) Bool.false H x k=k Cx H)) /\
 ((∀ {H:Aa} {k:Ab->Aa->Out} (x:Out),gbN (Ab.bool Bool.false) Bool.true H x k=k Cx H) /\
 (∀ {H:Aa} {k:Ab->Aa->Out} (w:Bool) (x:Out),gbN (Ab.tup []) w H x k=k Cx H))) /\
 (((∀ {H:Aa} {k:Ab->Aa->Out} (v:Ab),AN (Option.some (Res.ret v,H)) k=k v H) /\
 (∀ {H0 H:Aa} {k:Ab->Aa->Out} (v:Ab),bK H0 (Option.some (Res.ret v,H)) k=k v H)) /\
 ((∀ {H0 H:Aa} {k:Ab->Aa->Out} (v:Ab),bP H0 (Option.some (Res.ret v,H)) k=k v H) /\
 ((∀ {H0 H:Aa} (v:Ab),rK H0 v H=Option.some (Res.ret v,H)) /\
 (∀ {H H0:Aa} {v:Ab},rKN H0 v H=Option.some (Res.ret (forget v),H))))))) /\
 (((((∀ {c:Bool},unA UnOp.not (Ab.bool c)=Option.some (Ab.bool !c)) /\
 (∀ {H:Aa} (v:Ab),retV (Option.some v) H=Option.some (Res.ret v,H))) /\
 ((∀ {H:Aa},Av (Option.some H)=Option.some (Res.ret Ab.undef,H)) /\
 (∀ {H:Aa} (v:Ab),BV (Option.some (v,H))=Option.some (Res.ret v,H)))) /\
 (((∀ {H:Aa} {k:Ab->Aa->Out} (v:Ab),Al (Option.some (v,H)) k=k v H) /\
 (∀ {a b:Int},(a == b)=decide (a=b))) /\
 ((∀ {a b:Int},(a != b) = !decide (a=b)) /\
 (((!true)=false) /\
 ((!false)=true))))) /\
 (((((false=true)=False) /\
 (∀(b:Bool),(false||b)=b)) /\
 ((∀(b:Bool),(true||b)=true) /\
 (∀(b:Bool),(b||false)=b))) /\
 (((∀(b:Bool),(b||true)=true) /\
 (∀(b:Bool),(b&&true)=b)) /\
 ((∀(b:Bool),(true&&b)=b) /\
 ((∀(b:Bool),(b&&false)=false) /\
 (∀(b:Bool),(false&&b)=false)))))))):=
 ⟨⟨⟨⟨⟨⟨@BL,@An⟩,⟨@Bb,@Bd⟩⟩,⟨⟨@B7,@Cb⟩,⟨@DL,@Bq⟩⟩⟩,⟨⟨⟨@Dz,@KY⟩,⟨@Iv,@DV⟩⟩,⟨⟨@It,@CK⟩,⟨@Dy,⟨@Iu,@AU⟩⟩⟩⟩⟩,⟨⟨⟨⟨@AO,@CI⟩,⟨@CA,@Ji⟩⟩,⟨⟨@LU,@Sr⟩,⟨@Ql,⟨@gk_s,@Pn⟩⟩⟩⟩,⟨⟨⟨@Pq,@Po⟩,⟨@Pp,@Us⟩⟩,⟨⟨@PT,@HM⟩,⟨@Pz,⟨@P3,@P0⟩⟩⟩⟩⟩⟩,⟨⟨⟨⟨⟨@P1,@Uv⟩,⟨@Pr,@Pu⟩⟩,⟨⟨@Ps,@Pt⟩,⟨@Ut,@Pv⟩⟩⟩,⟨⟨⟨@Py,@Pw⟩,⟨@Px,@Uu⟩⟩,⟨⟨@BC,@Fr⟩,⟨@CC,⟨@Nn,@Em⟩⟩⟩⟩⟩,⟨⟨⟨⟨@Jn,@I0⟩,⟨@AC,@Dr⟩⟩,⟨⟨@Bj,@GL⟩,⟨@KX,⟨Vp,V0⟩⟩⟩⟩,⟨⟨⟨@Bool.false_eq_true,@Bool.false_or⟩,⟨@Bool.true_or,@Bool.or_false⟩⟩,⟨⟨@Bool.or_true,@Bool.and_true⟩,⟨@Bool.true_and,⟨@Bool.and_false,@Bool.false_and⟩⟩⟩⟩⟩⟩⟩
theorem GMc:((∀(f:(List Ab->Aa->Out)->Out) (j:List Ab->Aa->Out),AI f j=f j)/\(∀h:Decidable True,@decide True h=true)/\(∀h:Decidable False,@decide False h=false)/\(∀(α:Type) (h:Decidable True) (t e:α),@ite α True h t e=t)/\(∀(α:Type) (h:Decidable False) (t e:α),@ite α False h t e=e)):=
 ⟨λ_ _=>rfl,λ_=>decide_true _,λ_=>decide_false _,λ_ _ _ _=>if_true _ _,λ_ _ _ _=>if_false _ _⟩
def GMw:=And.intro GMb GMc
end Go.Gm
namespace Go.Proofs
open Go.RowKit Go.Shelf
attribute [local go_sem] Oper.semAt_some
def KB (n₀ Bs:Nat)(W W':World):Prop:=Below n₀ W W'/\W'.cell? ⟨Bs,0,none⟩=W.cell? ⟨Bs,0,none⟩
theorem KB.refl (n₀ Bs:Nat)(W:World):KB n₀ Bs W W:=⟨Below.refl _ _,rfl⟩
theorem KB.trans {n₀ Bs:Nat}{A B C:World}(h:KB n₀ Bs A B)(k:KB n₀ Bs B C):KB n₀ Bs A C:=⟨h.1.trans k.1,k.2.trans h.2⟩
def M6 (n k:Nat):List (Fin n):=(List.finRange n).reverse.take k
theorem NG {n k:Nat}(h:k<n):M6 n (k+1)=M6 n k++[⟨n-1-k,by omega⟩]:=by
 unfold M6;rw[List.take_add_one,List.getElem?_reverse (by simpa using h)];simp;rw[List.getElem?_eq_getElem (by simp;omega)];simp
theorem backF_length {n k:Nat}(h:k<=n):(M6 n k).length=k:=by simp[M6,h]
theorem PR {n:Nat}:∀(k:Nat) (j:Fin n),k<=n->n-k<=j.1->j∈M6 n k
 | 0,j,_,h=>by have:=j.2;omega
 | k+1,j,hk,h=>by
  rw[NG (by omega)];by_cases e:j.1=n-1-k
  ·exact List.mem_append_right _ (by simp;exact Fin.ext e)
  ·exact List.mem_append_left _ (PR k j (by omega) (by omega))
set_option maxRecDepth 100000 in
set_option maxHeartbeats 2000000 in
theorem Tryz.back1_in (F:Fence)(n:Nat)(h229:F.fn 229)(hro:F.round=none)(hn:1<=n)(l Bs n₀ b off len cap:Nat)(ao:Option Addr)(hao:0<len->ao=some ⟨b,off,none⟩)(zf:Nat->Nat)(hreach:len<=1099511627776)(hb:b<n₀)(J Jx:List (Fin len)->World->Prop)
  (hY:∀pre (x:Fin len) W,J pre W->pre.length<len->YieldAt F (n-1) Tryz.prog l #[.i6 (x.1:Int),.int .u32 ((zf x.1:Nat):Int)] W λe W'=>
   (e=.returned (.bool true)/\J (pre++[x]) W'/\KB n₀ Bs W W')\/(e=.returned (.bool false)/\Jx (pre++[x]) W'))
  (W:World)(hBs:W.cell? ⟨Bs,0,none⟩=some (.slice ao len cap))(hc:∀j,j<len->W.cell? ⟨b,off+j,none⟩=some (.int .u32 ((zf j:Nat):Int)))(h0:J [] W) :
  CallsIn F n Tryz.prog 229 #[.func (.yield l) #[] #[],.pointer (some ⟨Bs,0,none⟩)] W λe W'=>(∃v,e=.returned v) /\
   ((∃ys,ys=M6 len len/\J ys W')\/(∃pre,(∃k,k<len/\pre=M6 len (k+1))/\Jx pre W')):=by
 refine callsIn_of_wp Tryz.func229 rfl h229 ?_ hro;simp only[Tryz.ntmps229,List.size_toArray,List.length_cons,List.length_nil,Nat.reduceAdd,Nat.reduceSub,Array.replicate_succ,Array.replicate_zero,List.push_toArray,List.append_toArray,List.nil_append,List.cons_append]
 gi_wp2
 gi_loopw [3] (λi wr=>∃k:Nat,k<=len/\i=.i6 ((len:Int)-1-k)/\J (M6 len k) wr/\KB n₀ Bs W wr)
  (λi _=>((intOf i)+1).toNat)
 case atStart=>exact⟨0,Nat.zero_le _,by simp,h0,KB.refl _ _ _⟩
 case round=>
  obtain⟨k,hk,rfl,hJs,hkb⟩:=hrel;have hnx:=hkb.1;have hBs':=hkb.2.trans hBs;by_cases hlt:k<len
  ·have hao':=hao (by omega);subst hao';have hcx:=(hnx.cell (p:=⟨b,off+(len-1-k),none⟩) hb).trans (hc (len-1-k) (by omega));obtain⟨fn,tmps,assign,body,hy,hR⟩:=hY _ ⟨len-1-k,by omega⟩ wr hJs (by rw[backF_length hk];exact hlt);dsimp only at hy;have hlast:=NG hlt;obtain⟨i,hi⟩:∃i:Nat,i=len-1-k:=⟨_,rfl⟩;have hil:i<len:=by omega
   obtain⟨x,hx⟩:∃x:Fin len,x=⟨len-1-k,by omega⟩:=⟨_,rfl⟩;rw[<-hx]at hR hlast;clear hx;have hii:(len:Int)-1-(k:Int)=(i:Int):=by omega
   rw[<-hi]at hcx hy;have hstep:(i:Int)-1=(len:Int)-1-((k+1:Nat):Int):=by omega
   rw[hii];clear hi hii;obtain⟨z,hzz⟩:∃z:Nat,z=zf i:=⟨_,rfl⟩;rw[<-hzz]at hcx hy;clear hzz;clear hkb;have hkb:Hid (KB n₀ Bs W wr):=⟨hnx,hBs'.trans hBs.symm⟩
   gi_wp2
   refine hR.mono ?_;rintro e W3 (⟨rfl,hJ3,hk3⟩ | ⟨rfl,hJx3⟩)
   ·gi_wp2
    go_roundw
    case rel=>exact⟨k+1,by omega,by simp,by rw[hlast];exact hJ3,hkb.out.trans hk3⟩
    case measure=>simp[intOf];omega
   ·gi_wp2
    refine bodyPost_ret (results_none rfl _ _ _) rfl ?_;exact⟨⟨_,rfl⟩,.inr ⟨_,⟨k,hlt,hlast.symm⟩,hJx3⟩⟩
  ·obtain rfl:k=len:=by omega
   gi_wp2
   go_end0
   exact⟨⟨_,rfl⟩,.inl ⟨_,rfl,hJs⟩⟩
set_option maxHeartbeats 1000000 in
theorem Tryz.back_in (F:Fence)(n:Nat)(h205:F.fn 205)(hro:F.round=none)(a:Option Addr)(len cap:Nat)(w:World) :
  CallsIn F n Tryz.prog 205 #[.slice a len cap] w λe w'=>e=.returned (.func (.func 229) #[] #[.pointer (some ⟨w.heap.size,0,none⟩)])/\w'=w.alloc (.cells #[.slice a len cap] 44):=by
 refine callsIn_of_wp Tryz.func205 rfl h205 ?_ hro;simp only[Tryz.ntmps205,List.size_toArray,List.length_cons,List.length_nil,Nat.reduceAdd,Nat.reduceSub,Array.replicate_succ,Array.replicate_zero,List.push_toArray,List.append_toArray,List.nil_append,List.cons_append]
 gi_wp2
 go_ret
 exact⟨rfl,rfl⟩
theorem Tryz.back_stops (F:Fence)(n:Nat)(h229:F.fn 229)(hro:F.round=none)(hn:1<=n)(Bs n₀ b off len cap:Nat)(ao:Option Addr)(hao:0<len->ao=some ⟨b,off,none⟩)(zf:Nat->Nat)(hreach:len<=1099511627776)(w:World)(hBs:Bs<w.heap.size)(hb:b<n₀)(hn₀:n₀<=w.heap.size)
  (hc:w.cell? ⟨Bs,0,none⟩=some (.slice ao len cap))(hI:∀j,j<len->w.cell? ⟨b,off+j,none⟩=some (.int .u32 ((zf j:Nat):Int))) :
  SeqStopsK F n Tryz.prog 229 #[.pointer (some ⟨Bs,0,none⟩)] (λx:Fin len=>#[Value.i6 (x.1:Int),Value.int .u32 ((zf x.1:Nat):Int)]) (KB n₀ Bs) (λys=>ys=M6 len len)
   (λpre=>∃k,k<len/\pre=M6 len (k+1)) len w:=λl J Jx W hW _ _ hY h0=>
 Tryz.back1_in F n h229 hro hn l Bs n₀ b off len cap ao hao zf hreach hb J Jx hY W ((hW.cell (p:=⟨Bs,0,none⟩) hBs).trans hc) (λj hj=>(hW.cell (p:=⟨b,off+j,none⟩) (by show b<_;omega)).trans (hI j hj)) h0
end Go.Proofs
namespace Go.Gm
def GY (l:List Nat):Nat->Nat
 | 0=>0
 | k+1=>if l[k]?.getD 0=0 then GY l k else k+1
theorem NN (l:List Nat):∀k,GY l k<=k
 | 0=>UK _
 | k+1=>by
  have:=NN l k;unfold GY;split <;> omega
theorem J3 {l:List Nat}(hx:Lim l):∀k,k<=l.length->l.take (GY l k)=A6 (val (l.take k))
 | 0,_=>by
  have:A6 (val ([]:List Nat))=[]:=(LQ (l:=[]) ⟨λx h=>(by cases h),λx h=>(by cases h)⟩).symm;simpa[GY]using this.symm
 | k+1,hk=>by
  have hg:l[k]? = some l[k]:=UG (by omega);have ht:l.take (k+1)=l.take k++[l[k]]:=UR (by omega);unfold GY;split
  ·rename_i h;rw[J3 hx k (by omega),ht,Cu];rw[hg,Option.getD_some]at h;rw[h];simp[val]
  ·rename_i h;rw[hg,Option.getD_some]at h;refine LQ ⟨λx jL=>hx x (VR jL),λx jL=>?_⟩;rw[ht,List.getLast?_concat]at jL;cases jL;exact h
theorem q_right {l:List Nat}{H:Aa}{id k:Nat}(hg:H[id]? = some (.cel 0 (flat cU l)))(hk:k<=l.length)(hl:l.length<9223372036854775807):Sh.fc (.ms id 0 0 k l.length 1 true) H=some (.ret (.bool (decide (k=0)||decide (l[k-1]?.getD 0≠0))),H):=by
 unfold Sh.fc;cases k with
 | zero=>simp[A7]
 | succ k=>
  have hidx:=CS (sz:=1) (id:=id) (n:=k+1) (K:=.i64) (g:=0) (off:=0) (cap:=l.length) (ex:=true) (i:=k) (by omega);simp only[UJ,UW]at hidx;have hld:=Ih (f:=cU) (id:=id) (l:=l) (H:=H) (show AB H id 0=some (flat cU l)by simp[AB,hg]) (i:=k) (by omega);have h0:¬((k+1:Nat):Int)=0:=by omega
  have hw:IntKind.i64.wrap (((k+1:Nat):Int)-1)=(k:Int):=by rw[Ao] <;> omega
  have vU:l[k]? = some l[k]:=UG (by omega);simp only[show A7 (.ms id 0 0 (k+1) l.length 1 true)=some (.i6 ((k+1:Nat):Int)) from rfl,GMw,h0,hw,hidx,hld,Vm,vU,Option.getD_some,Wv];by_cases h:l[k]=0
  ·simp[h]
  ·have:¬(l[k]:Int)=0:=by omega
   simp[h,this]
theorem q_cut {l:List Nat}{H:Aa}{id:Nat}(hg:H[id]? = some (.cel 0 (flat cU l)))(hl:l.length<1152921504606846976):Sh.f2 (.ms id 0 0 l.length l.length 1 true) H=some (.ret (.ms id 0 0 (GY l l.length) l.length 1 true),H):=by
 unfold Sh.f2;refine AZ (σ:=Nat) (λk=>k<=l.length/\GY l k=GY l l.length) (λk=>[.ms id 0 0 k l.length 1 true]) (λ_=>H) (λk=>k) (λ_=>some (.ret (.ms id 0 0 (GY l l.length) l.length 1 true),H)) (λk rec hi hrec=>?_) l.length ⟨UK _,rfl⟩ (by omega);obtain⟨hk,ht⟩:=hi;unfold Sh.f1a;simp only[An,q_right hg hk (by omega),GMw];cases k with
 | zero=>simp[<-ht,GY,rKN,fin,forget,Ew,fgt]
 | succ k=>
  by_cases h:l[k]?.getD 0=0
  ·have hw:IntKind.i64.wrap (((k+1:Nat):Int)-1)=(k:Int):=by rw[Ao] <;> omega
   have hsl:Bw 1 (.ms id 0 0 (k+1) l.length 1 true) none (some (.i6 (k:Int))) none=some (.ms id 0 0 k l.length 1 true):=by
    have:(0:Int)<=(k:Int):=by omega
    simp only[Bw,By,zXa,this,if_true,zXl];rw[if_pos ⟨trivial,by omega,by omega,by omega⟩];simp
   have dX:GY l k=GY l l.length:=by rw[<-ht];simp[GY,h]
   have hr:=hrec k ⟨by omega,dX⟩ (by omega);simp only[h,show A7 (.ms id 0 0 (k+1) l.length 1 true)=some (.i6 ((k+1:Nat):Int)) from rfl,GMw,hw,hsl,Vm,ne_eq,not_true_eq_false,Wv];exact hr
  ·have dX:GY l (k+1)=k+1:=by simp[GY,h]
   rw[<-ht,dX];simp only[h,GMw,Vm,ne_eq,not_false_eq_true,Wv];simp[rKN,fin,forget,Ew,fgt]
open Go.Proofs
set_option maxRecDepth 100000
noncomputable def kK (kn kr:List Ab->Aa->Out):QC
 | .normal,tm,H=>kn tm H
 | .ret,tm,H=>kr tm H
 | .pan v,_,H=>some (.pan v,H)
 | .exit _,_,_=>none
noncomputable def sfst:Code->Code
 | .seq a _=>a
 | c=>c
noncomputable def ssnd:Code->Code
 | .seq _ b=>b
 | c=>c
noncomputable def cmO:Orc:=ent 201 (ap1 Sh.f2) noO
noncomputable def Tm:Cfg:=mkC Tryz.prog Gs false cmO
noncomputable def cdA:Code:=sfst (Eb Tryz.f156)
noncomputable def cdB:Code:=sfst (ssnd (Eb Tryz.f156))
noncomputable def cdC:Code:=sfst (ssnd (ssnd (Eb Tryz.f156)))
noncomputable def cdD:Code:=ssnd (ssnd (ssnd (Eb Tryz.f156)))
theorem body_156:Tryz.f156.body=some (.seq cdA (.seq cdB (.seq cdC cdD))):=by kernel_rfl
noncomputable def cmA (kn:List Ab->Aa->Out)(x0 x1:Ab)(H0:Aa):Out:=
 Al (Bu true 1 x1 H0) λb_41 H42=>
 Al (Ax (some [(.i6 0)]) H42) λx43 H44=>
 kn [x0,x1,.undef,b_41,x43,.undef,.undef,.undef,.undef,.undef,.undef,.undef,.undef,.undef,.undef,.undef,.undef,.undef,.undef,.undef,.undef,.undef,.undef,.undef,.undef,.undef,.undef,.undef,.undef,.undef,.undef,.undef,.undef,.undef,.undef,.undef,.undef,.undef,.undef] H44
noncomputable def cmB (kn:List Ab->Aa->Out)(x0 x1 x3 x4:Ab)(H0:Aa):Out:=
 AN (Sh.f2 x0 H0) λx41 H42=>
 bC (Ad false 1 x3 H42) (λx43=>Ad false 1 x3 H0=some x43/\True) λx43=>
 AN (Sh.f2 x43 H42) λx44 H45=>
 bK H0 (Av (Ae 1 x3 x44 H45)) λ_ H47=>
 kn [x41,x1,.undef,x3,x4,.undef,.undef,x0,x41,x43,x44,.undef,.undef,.undef,.undef,.undef,.undef,.undef,.undef,.undef,.undef,.undef,.undef,.undef,.undef,.undef,.undef,.undef,.undef,.undef,.undef,.undef,.undef,.undef,.undef,.undef,.undef,.undef,.undef] H47
noncomputable def cmC (kn kr:List Ab->Aa->Out)(x0 x3 x4:Ab)(H0:Aa):Out:=
 (A7 x0).bind λx41=>
 (Ad false 1 x3 H0).bind λx42=>
 (A7 x42).bind λx43=>
 (Af .none .neq x41 x43).bind λx44=>
 Ak x44 (
 (A7 x0).bind λx45=>
 (Ad false 1 x3 H0).bind λx46=>
 (A7 x46).bind λx47=>
 (Af .none .lss x45 x47).bind λx48=>
 Ak x48 (
 bK H0 (Av (Ae 1 x4 (.i6 (-1)) H0)) λ_ H50=>
 kr [x0,.undef,.undef,x3,x4,.undef,.undef,.undef,.undef,.undef,.undef,x0,x41,x42,x43,x44,x0,x45,x46,x47,x48,.undef,.undef,.undef,.undef,.undef,.undef,.undef,.undef,.undef,.undef,.undef,.undef,.undef,.undef,.undef,.undef,.undef,.undef] H50) (
 bK H0 (Av (Ae 1 x4 (.i6 1) H0)) λ_ H52=>
 kr [x0,.undef,.undef,x3,x4,.undef,.undef,.undef,.undef,.undef,.undef,x0,x41,x42,x43,x44,x0,x45,x46,x47,x48,.undef,.undef,.undef,.undef,.undef,.undef,.undef,.undef,.undef,.undef,.undef,.undef,.undef,.undef,.undef,.undef,.undef,.undef] H52)) (
 kn [x0,.undef,.undef,x3,x4,.undef,.undef,.undef,.undef,.undef,.undef,x0,x41,x42,x43,x44,.undef,.undef,.undef,.undef,.undef,.undef,.undef,.undef,.undef,.undef,.undef,.undef,.undef,.undef,.undef,.undef,.undef,.undef,.undef,.undef,.undef,.undef,.undef] H0)
theorem cmA_eq (kn kr:List Ab->Aa->Out)(x0 x1:Ab)(H:Aa):ev2 Tm 39 cdA .lf (kK kn kr) [x0,x1,.undef,.undef,.undef,.undef,.undef,.undef,.undef,.undef,.undef,.undef,.undef,.undef,.undef,.undef,.undef,.undef,.undef,.undef,.undef,.undef,.undef,.undef,.undef,.undef,.undef,.undef,.undef,.undef,.undef,.undef,.undef,.undef,.undef,.undef,.undef,.undef,.undef] H=cmA kn x0 x1 H:=by kernel_rfl
theorem cmB_eq (kn kr:List Ab->Aa->Out)(x0 x1 x3 x4:Ab)(H:Aa):ev2 Tm 39 cdB (.reg [0,1,2,3,4,5]) (kK kn kr) [x0,x1,.undef,x3,x4,.undef,.undef,.undef,.undef,.undef,.undef,.undef,.undef,.undef,.undef,.undef,.undef,.undef,.undef,.undef,.undef,.undef,.undef,.undef,.undef,.undef,.undef,.undef,.undef,.undef,.undef,.undef,.undef,.undef,.undef,.undef,.undef,.undef,.undef] H=cmB kn x0 x1 x3 x4 H:=by kernel_rfl
theorem cmC_eq (kn kr:List Ab->Aa->Out)(x0 x3 x4:Ab)(H:Aa):ev2 Tm 39 cdC (.tw .lf (.tw (.tw (.tw .lf (.tw (.tw .lf .lf) .lf)) (.tw .lf .lf)) .lf)) (kK kn kr) [x0,.undef,.undef,x3,x4,.undef,.undef,.undef,.undef,.undef,.undef,.undef,.undef,.undef,.undef,.undef,.undef,.undef,.undef,.undef,.undef,.undef,.undef,.undef,.undef,.undef,.undef,.undef,.undef,.undef,.undef,.undef,.undef,.undef,.undef,.undef,.undef,.undef,.undef] H=cmC kn kr x0 x3 x4 H:=by kernel_rfl
structure SW {α:Type}(lt:α->α->Bool):Prop where
 asy:∀a b,lt a b=true->lt b a=false
 neg:∀a b c,lt a b=false->lt b c=false->lt a c=false
section
variable {α:Type}{lt:α->α->Bool}
def BP (lt:α->α->Bool)(a b:α):Bool:=!lt a b && !lt b a
def F3 (lt:α->α->Bool)(l m:List α):Prop:=∀a,l.filter (BP lt a)=m.filter (BP lt a)
def E4 (lt:α->α->Bool)(l:List α):Prop:=l.Pairwise λa b=>lt b a=false
theorem SW.irr (h:SW lt)(a:α):lt a a=false:=by
 cases e:lt a a with
 | false=>rfl
 | true=>have:=h.asy a a e;rw[e]at this;cases this
theorem O0 (h:SW lt)(a:α):BP lt a a=true:=by unfold BP;rw[h.irr];rfl
theorem FW {a b:α}:BP lt a b=true↔lt a b=false/\lt b a=false:=by unfold BP;simp
theorem F3.refl (l:List α):F3 lt l l:=λ_=>rfl
theorem F3.trans {l m n:List α}(h:F3 lt l m)(k:F3 lt m n):F3 lt l n:=λa=>(h a).trans (k a)
theorem F3.app {l m l' m':List α}(h:F3 lt l m)(k:F3 lt l' m'):F3 lt (l++l') (m++m'):=λa=>by
 rw[Vz,Vz,h a,k a]
theorem F3.mem (hs:SW lt){l m:List α}(h:F3 lt l m){a:α}:a∈l↔a∈m:=by
 have e:∀l:List α,a∈l↔a∈l.filter (BP lt a):=λl=>by rw[Wz];exact⟨λh=>⟨h,O0 hs a⟩,λh=>h.1⟩
 rw[e l,e m,h a]
theorem HK {l:List α}{p:α->Bool}(h:∀a∈l,p a=false):l.filter p=[]:=by
 rw[List.filter_eq_nil_iff];intro a ha e;rw[h a ha]at e;cases e
theorem F3.swap (hs:SW lt){u v:List α}(h:∀x∈u,∀y∈v,lt y x=true):F3 lt (u++v) (v++u):=λa=>by
 rw[Vz,Vz];by_cases hu:∃x∈u,BP lt a x=true
 ·obtain⟨x,hx,tW⟩:=hu;have hv:v.filter (BP lt a)=[]:=HK λy hy=>by
   cases e:BP lt a y with
   | false=>rfl
   | true=>
    rw[FW]at e tW;have:=hs.neg y a x e.2 tW.1;rw[h x hx y hy]at this;cases this
  rw[hv,Vl,List.nil_append]
 ·have:u.filter (BP lt a)=[]:=HK λx hx=>by
   cases e:BP lt a x with
   | false=>rfl
   | true=>exact absurd ⟨x,hx,e⟩ hu
  rw[this,Vl,List.nil_append]
theorem filter_eqv (hs:SW lt){x y:α}(h:BP lt x y=true):BP lt x=BP lt y:=by
 rw[FW]at h
 funext a
 rw[Va,FW,FW];exact⟨λ⟨p,q⟩=>⟨hs.neg _ _ _ h.2 p,hs.neg _ _ _ q h.1⟩,λ⟨p,q⟩=>⟨hs.neg _ _ _ h.1 p,hs.neg _ _ _ q h.2⟩⟩
structure Srt (lt:α->α->Bool)(l m:List α):Prop where
 srt:E4 lt m
 st:F3 lt l m
 len:m.length=l.length
theorem LD {l m:List α}(h1:E4 lt l)(h2:E4 lt m)(h:∀a∈l,∀b∈m,lt b a=false):E4 lt (l++m):=VP.2 ⟨h1,h2,h⟩
def swp (l:List α)(i j:Nat):List α:=match l[i]?,l[j]? with
 | some a,some b=>(l.set i b).set j a
 | _,_=>l
theorem set_at:∀(A:List α) (x y:α) (R:List α),(A++x::R).set A.length y=A++y::R
 | [],_,_,_=>rfl
 | a::A,x,y,R=>by
  show a::(A++x::R).set A.length y=_;rw[set_at A x y R];rfl
theorem MD (l:List α)(i j:Nat):(swp l i j).length=l.length:=by
 unfold swp;split
 ·rw[zYa,zYa]
 ·rfl
theorem get_at (A:List α)(x:α)(R:List α):(A++x::R)[A.length]? = some x:=by simp
theorem QG (A M B:List α)(x y:α){i j:Nat}(hi:i=A.length)(hj:j=A.length+1+M.length):swp (A++x::(M++y::B)) i j=A++y::(M++x::B)/\swp (A++x::(M++y::B)) j i=A++y::(M++x::B):=by
 subst hi;have e:∀z:α,A++z::(M++y::B)=(A++z::M)++y::B:=λz=>by simp
 have hlen:∀z:α,(A++z::M).length=j:=λz=>by simp;omega
 have g1:(A++x::(M++y::B))[A.length]? = some x:=get_at _ _ _;have g2:(A++x::(M++y::B))[j]? = some y:=by rw[e,<-hlen x];exact get_at _ _ _
 have s1:∀z w:α,(A++z::(M++y::B)).set j w=A++z::(M++w::B):=λz w=>by rw[e,<-hlen z,set_at];simp
 constructor
 ·unfold swp;rw[g1,g2];dsimp only;rw[set_at,s1]
 ·unfold swp;rw[g1,g2];dsimp only;rw[s1,set_at]

end
section
variable {α:Type}{lt:α->α->Bool}
def IE (lt:α->α->Bool)(l:List α)(i j:Nat):Bool:=match l[i]?,l[j]? with
 | some x,some y=>lt x y
 | _,_=>false
theorem QN {l:List α}{i j:Nat}(hi:i<l.length)(hj:j<l.length):IE lt l i j=lt l[i] l[j]:=by
 unfold IE;rw[UG hi,UG hj]
def Kw (lt:α->α->Bool)(a:Nat):Nat->List α->List α
 | 0,l=>l
 | j+1,l=>if a<j+1/\IE lt l (j+1) j=true then Kw lt a j (swp l (j+1) j)else l
theorem insJ_len (a:Nat):∀(j:Nat) (l:List α),(Kw lt a j l).length=l.length
 | 0,l=>rfl
 | j+1,l=>by
  unfold Kw;split
  ·rw[insJ_len a j,MD]
  ·rfl
theorem insJ_ok (hs:SW lt)(A:List α)(x:α):∀(n:Nat) (S R:List α),S.length=n->E4 lt S->∃P,Kw lt A.length (A.length+S.length) (A++(S++x::R))=A++(P++R)/\Srt lt (S++[x]) P
 | 0,S,R,hn,_=>by
  have:S=[]:=UZ hn;subst this;refine⟨[x],?_,⟨VN _ _,.refl _,rfl⟩⟩;show Kw lt A.length (A.length+0) _=_;rw[Nat.add_zero];cases hA:A.length with
  | zero=>rfl
  | succ k=>
   unfold Kw;rw[if_neg (by omega)];rfl
 | n+1,S,R,hn,hS=>by
  have hne:S≠[]:=λe=>by rw[e]at hn;cases hn
  obtain⟨T,y,rfl⟩:∃T y,S=T++[y]:=⟨S.dropLast,S.getLast hne,(List.dropLast_concat_getLast hne).symm⟩;have hT:T.length=n:=by simpa using hn
  have hS':=hS;unfold E4 at hS';rw[VP]at hS';obtain⟨hT1,_,hT2⟩:=hS';have hl:A++((T++[y])++x::R)=(A++T)++y::([]++x::R):=by simp
  have hAT:(A++T).length=A.length+T.length:=UO;have g1:IE lt (A++((T++[y])++x::R)) (A.length+T.length+1) (A.length+T.length)=lt x y:=by
   unfold IE;have e1:(A++((T++[y])++x::R))[A.length+T.length+1]? = some x:=by
    have:A++((T++[y])++x::R)=(A++T++[y])++x::R:=by simp
    rw[this,show A.length+T.length+1=(A++T++[y]).length by simp;omega];exact get_at _ _ _
   have e2:(A++((T++[y])++x::R))[A.length+T.length]? = some y:=by
    rw[hl,<-hAT];exact get_at _ _ _
   rw[e1,e2]
  have hlen:A.length+(T++[y]).length=A.length+T.length+1:=by simp;omega
  rw[hlen];unfold Kw;rw[g1];by_cases hxy:lt x y=true
  ·rw[if_pos ⟨by omega,hxy⟩,hl,(QG (A++T) [] R y x hAT.symm (by rw[hAT];rfl)).2];obtain⟨P,p1,p2⟩:=insJ_ok hs A x n T (y::R) hT hT1;refine⟨P++[y],?_,⟨?_,?_,by rw[UO,p2.len];simp⟩⟩
   ·have:(A++T)++x::([]++y::R)=A++(T++x::(y::R)):=by simp
    rw[this,p1];simp
   ·refine LD p2.srt (VN _ _) λa ha b hb=>?_;rw[Vg]at hb;subst hb;have:=(p2.st.mem hs).2 ha;rcases Vi.1 this with h | h
    ·exact hT2 a h b (by simp)
    ·rw[Vg]at h;rw[h];exact hs.asy _ _ hxy
   ·refine F3.trans ?_ (p2.st.app (.refl [y]));rw[UP,UP];exact (F3.refl T).app (F3.swap hs λa ha b hb=>by
     rw[Vg]at ha hb;rw[ha,hb];exact hxy)
  ·have pS:lt x y=false:=by simpa using hxy
   rw[if_neg (λh=>hxy h.2)];refine⟨T++[y]++[x],by simp,⟨LD hS (VN _ _) λa ha b hb=>?_,.refl _,rfl⟩⟩;rw[Vg]at hb;subst hb;rcases Vi.1 ha with h | h
   ·exact hs.neg _ _ _ pS (hT2 a h y (by simp))
   ·rw[Vg]at h;rw[h];exact pS
def Q1 (lt:α->α->Bool)(a:Nat):Nat->List α->List α
 | 0,l=>l
 | k+1,l=>Kw lt a (a+1+k) (Q1 lt a k l)
theorem insN_len (a:Nat):∀(k:Nat) (l:List α),(Q1 lt a k l).length=l.length
 | 0,l=>rfl
 | k+1,l=>by unfold Q1;rw[insJ_len,insN_len a k]
theorem insN_ok (hs:SW lt)(A:List α):∀(k:Nat) (S R:List α),S.length=k+1->∃P,Q1 lt A.length k (A++(S++R))=A++(P++R)/\Srt lt S P
 | 0,S,R,hn=>by
  obtain⟨x,rfl⟩:=Wx.1 hn;exact⟨[x],rfl,⟨VN _ _,.refl _,rfl⟩⟩
 | k+1,S,R,hn=>by
  have hne:S≠[]:=λe=>by rw[e]at hn;cases hn
  obtain⟨T,y,rfl⟩:∃T y,S=T++[y]:=⟨S.dropLast,S.getLast hne,(List.dropLast_concat_getLast hne).symm⟩;have hT:T.length=k+1:=by simpa using hn
  obtain⟨P,p1,p2⟩:=insN_ok hs A k T (y::R) hT;have hPl:P.length=k+1:=by rw[p2.len,hT]
  obtain⟨P',q1,q2⟩:=insJ_ok hs A y P.length P R rfl p2.srt;refine⟨P',?_,⟨q2.srt,(p2.st.app (.refl [y])).trans q2.st,by rw[q2.len,UO,UO,p2.len]⟩⟩;unfold Q1;have:A++((T++[y])++R)=A++(T++y::R):=by simp
  rw[this,p1,show A.length+1+k=A.length+P.length by omega];exact q1

end
section
variable {α:Type}{lt:α->α->Bool}
def swR (a b:Nat):Nat->List α->List α
 | 0,l=>l
 | k+1,l=>swp (swR a b k l) (a+k) (b+k)
theorem QH (a b:Nat):∀(k:Nat) (l:List α),(swR a b k l).length=l.length
 | 0,l=>rfl
 | k+1,l=>by unfold swR;rw[MD,QH a b k]
theorem swR_up (A M B U V:List α)(h:U.length=V.length):∀k,k<=U.length->swR A.length (A.length+U.length+M.length) k (A++(U++(M++(V++B))))=A++((V.take k++U.drop k)++(M++((U.take k++V.drop k)++B)))
 | 0,_=>by simp[swR]
 | k+1,hk=>by
  unfold swR;rw[swR_up A M B U V h k (by omega)];have xQ:k<U.length:=by omega
  have rJ:k<V.length:=by omega
  rw[Vh xQ,Vh rJ,UR xQ,UR rJ];have e:A++((V.take k++U[k]::U.drop (k+1))++(M++((U.take k++V[k]::V.drop (k+1))++B)))=(A++V.take k)++U[k]::((U.drop (k+1)++(M++U.take k))++V[k]::(V.drop (k+1)++B)):=by simp only[UP,List.cons_append,List.nil_append]
  have h1:(V.take k).length=k:=by rw[UY];omega
  have h2:(U.take k).length=k:=by rw[UY];omega
  rw[e,(QG (A++V.take k) (U.drop (k+1)++(M++U.take k)) (V.drop (k+1)++B) U[k] V[k] (by rw[UO,h1]) (by simp only[UO,h1,h2,Vc];omega)).1];simp only[UP,List.cons_append,List.nil_append]
theorem swR_ok (A M B U V:List α)(h:U.length=V.length){a b n:Nat}(ha:a=A.length)(hb:b=A.length+U.length+M.length)(hn:n=U.length):swR a b n (A++(U++(M++(V++B))))=A++(V++(M++(U++B))):=by
 subst ha;subst hb;subst hn;rw[swR_up A M B U V h U.length (UK _),US (by omega),US (UK _),VY (UK _),VY (by omega)];simp
structure NI (A B W:List α)(m i j:Nat)(l:List α):Prop where
 ex:∃P u v S,l=A++(P++(u++(v++(S++B))))/\P++(v++(u++S))=W/\u.length=i/\v.length=j/\A.length+P.length+i=m
 pos:0<i/\0<j
theorem NI.start {A B U V:List α}(hU:0<U.length)(hV:0<V.length):NI A B (V++U) (A.length+U.length) U.length V.length (A++(U++(V++B))):=
 ⟨⟨[],U,V,[],by simp,by simp,rfl,rfl,by simp⟩,hU,hV⟩
theorem NI.hi {A B W l:List α}{m i j:Nat}(h:NI A B W m i j l)(hij:j<i):NI A B W m (i-j) j (swR (m-i) m j l):=by
 obtain⟨⟨P,u,v,S,rfl,hW,hu,hv,hm⟩,h1,h2⟩:=h;have hsp:u.take j++u.drop j=u:=V7 j u;have l1:(u.take j).length=j:=by rw[UY];omega
 have l2:(u.drop j).length=i-j:=by rw[Vc,hu]
 have e:A++(P++(u++(v++(S++B))))=(A++P)++(u.take j++(u.drop j++(v++(S++B)))):=by
  conv=>lhs;rw[<-hsp]
  simp only[UP]
 rw[e,swR_ok (A++P) (u.drop j) (S++B) (u.take j) v (by rw[l1,hv]) (by rw[UO];omega) (by rw[UO,l1,l2];omega) l1.symm];refine⟨⟨P++v,u.drop j,u.take j,S,by simp,?_,l2,l1,by rw[UO];omega⟩,by omega,h2⟩;rw[<-hW]
 conv=>rhs;rw[<-hsp]
 simp only[UP]
theorem NI.lo {A B W l:List α}{m i j:Nat}(h:NI A B W m i j l)(hij:i<j):NI A B W m i (j-i) (swR (m-i) (m+j-i) i l):=by
 obtain⟨⟨P,u,v,S,rfl,hW,hu,hv,hm⟩,h1,h2⟩:=h;have hsp:v.take (j-i)++v.drop (j-i)=v:=V7 (j-i) v;have l1:(v.take (j-i)).length=j-i:=by rw[UY];omega
 have l2:(v.drop (j-i)).length=i:=by rw[Vc,hv];omega
 have e:A++(P++(u++(v++(S++B))))=(A++P)++(u++(v.take (j-i)++(v.drop (j-i)++(S++B)))):=by
  conv=>lhs;rw[<-hsp]
  simp only[UP]
 rw[e,swR_ok (A++P) (v.take (j-i)) (S++B) u (v.drop (j-i)) (by rw[l2,hu]) (by rw[UO];omega) (by rw[UO,l1];omega) hu.symm];refine⟨⟨P,v.drop (j-i),v.take (j-i),u++S,by simp,?_,l2,l1,hm⟩,h1,by omega⟩;rw[<-hW]
 conv=>rhs;rw[<-hsp]
 simp only[UP]
theorem NI.eq {A B W l:List α}{m i:Nat}(h:NI A B W m i i l):swR (m-i) m i l=A++(W++B):=by
 obtain⟨⟨P,u,v,S,rfl,hW,hu,hv,hm⟩,h1,h2⟩:=h;have e:A++(P++(u++(v++(S++B))))=(A++P)++(u++([]++(v++(S++B)))):=by simp
 rw[e,swR_ok (A++P) [] (S++B) u v (by omega) (by rw[UO];omega) (by rw[UO];simp;omega) hu.symm,<-hW];simp
theorem NI.len {A B W l:List α}{m i j:Nat}(h:NI A B W m i j l):i<=m/\m+j<=l.length:=by
 obtain⟨⟨P,u,v,S,rfl,hW,hu,hv,hm⟩,h1,h2⟩:=h;simp only[UO];omega
structure BsI (p:Nat->Bool)(s r i j:Nat):Prop where
 le:s<=i/\i<=j/\j<=r
 up:∀c,s<=c->c<i->p c=true
 dn:∀c,j<=c->c<r->p c=false
theorem BsI.start {p:Nat->Bool}{s r:Nat}(h:s<=r):BsI p s r s r:=⟨⟨UK _,h,UK _⟩,λc _ _=>by omega,λc _ _=>by omega⟩
theorem BsI.yes {p:Nat->Bool}{s r i j h:Nat}(k:BsI p s r i j)(hm:∀c d,s<=c->c<=d->d<r->p d=true->p c=true)(h1:i<=h)(h2:h<j)(hp:p h=true):BsI p s r (h+1) j:=by
 obtain⟨⟨a,b,c⟩,d,e⟩:=k;exact⟨⟨by omega,by omega,c⟩,λx hx hy=>hm x h hx (by omega) (by omega) hp,e⟩
theorem BsI.no {p:Nat->Bool}{s r i j h:Nat}(k:BsI p s r i j)(hm:∀c d,s<=c->c<=d->d<r->p d=true->p c=true)(h1:i<=h)(h2:h<j)(hp:p h=false):BsI p s r i h:=by
 obtain⟨⟨a,b,c⟩,d,e⟩:=k;refine⟨⟨a,h1,by omega⟩,d,λx hx hy=>?_⟩;cases hq:p x with
 | false=>rfl
 | true=>have:=hm h x (by omega) hx hy hq;rw[hp]at this;cases this

end
section
variable {α:Type}{lt:α->α->Bool}
theorem Hz {l:List α}(h:E4 lt l)(hs:SW lt){i j:Nat}(hij:i<=j)(hj:j<l.length):lt l[j] (l[i]'(by omega))=false:=by
 by_cases e:i=j
 ·subst e;exact hs.irr _
 ·exact W9.1 h i j (by omega) hj (by omega)
theorem If {l:List α}{n:Nat}{x:α}(h:x∈l.take n):∃i,∃hi:i<l.length,i<n/\l[i]=x:=by
 obtain⟨i,hi,e⟩:=Vn h;rw[UY]at hi;exact⟨i,by omega,by omega,by rw[<-e,Xj]⟩
theorem Ig {l:List α}{n:Nat}{x:α}(h:x∈l.drop n):∃i,∃hi:i<l.length,n<=i/\l[i]=x:=by
 obtain⟨i,hi,e⟩:=Vn h;rw[Vc]at hi;exact⟨n+i,by omega,by omega,by rw[<-e,W4]⟩
theorem OR (hs:SW lt){U V W1 W2:List α}{i k:Nat}(hU:E4 lt U)(hV:E4 lt V)(h1:∀x∈U.drop i,∀y∈V.take k,lt y x=true)(h2:∀x∈U.take i,∀y∈V.drop k,lt y x=false)
  (w1:Srt lt (U.take i++V.take k) W1)(w2:Srt lt (U.drop i++V.drop k) W2):Srt lt (U++V) (W1++W2):=by
 have eU:U.take i++U.drop i=U:=V7 i U;have eV:V.take k++V.drop k=V:=V7 k V;have hU':=hU;have hV':=hV;rw[<-eU]at hU';rw[<-eV]at hV';have pU:=(VP.1 hU').2.2;have pV:=(VP.1 hV').2.2;refine⟨LD w1.srt w2.srt λa ha b hb=>?_,?_,?_⟩
 ·have kM:=(w1.st.mem hs).2 ha;have hb':=(w2.st.mem hs).2 hb;rcases Vi.1 kM with x | x <;> rcases Vi.1 hb' with y | y
  ·exact pU a x b y
  ·exact h2 a x b y
  ·exact hs.asy _ _ (h1 b y a x)
  ·exact pV a x b y
 ·refine F3.trans ?_ (w1.st.app w2.st);have e1:U++V=U.take i++((U.drop i++V.take k)++V.drop k):=by
   conv=>lhs;rw[<-eU,<-eV]
   simp only[UP]
  have e2:U.take i++V.take k++(U.drop i++V.drop k)=U.take i++((V.take k++U.drop i)++V.drop k):=by simp only[UP]
  rw[e1,e2];exact (F3.refl _).app ((F3.swap hs h1).app (.refl _))
 ·rw[UO,w1.len,w2.len,UO,UO,UO,UY,UY,Vc,Vc];omega
section
variable {U V A B:List α}{a m b mid s0 r0 s:Nat}
def Rj (lt:α->α->Bool)(l:List α)(P:Nat)(c:Nat):Bool:=!IE lt l (P-c) c
theorem at_U (ha:A.length=a){c:Nat}(h1:a<=c)(h2:c<a+U.length):(A++(U++(V++B)))[c]? = some (U[c-a]'(by omega)):=by
 rw[Vo (by omega),UL (by omega),ha,UG]
theorem at_V (ha:A.length=a)(hm:a+U.length=m){c:Nat}(h1:m<=c)(h2:c<m+V.length):(A++(U++(V++B)))[c]? = some (V[c-m]'(by omega)):=by
 rw[Vo (by omega),Vo (by omega),UL (by omega),show c-A.length-U.length=c-m by omega,UG]
theorem QF (ha:A.length=a)(hm:a+U.length=m){P c:Nat}(h1:a<=c)(h2:c<m)(h3:m<=P-c)(h4:P-c<m+V.length):Rj lt (A++(U++(V++B))) P c = !lt (V[P-c-m]'(by omega)) (U[c-a]'(by omega)):=by
 unfold Rj IE;rw[at_V ha hm h3 h4,at_U ha h1 (by omega)]
theorem symP_mono (hs:SW lt)(hU:E4 lt U)(hV:E4 lt V)(ha:A.length=a)(hm:a+U.length=m){P c d:Nat}(h1:a<=c)(wD:c<=d)(h2:d<m)(h3:m<=P-d)(h4:P-c<m+V.length)
  (h:Rj lt (A++(U++(V++B))) P d=true):Rj lt (A++(U++(V++B))) P c=true:=by
 rw[QF ha hm (by omega) h2 h3 (by omega)]at h;rw[QF ha hm h1 (by omega) (by omega) h4];simp only[VG]at h ⊢;have u:=Hz hU hs (i:=c-a) (j:=d-a) (by omega) (by omega);have v:=Hz hV hs (i:=P-d-m) (j:=P-c-m) (by omega) (by omega);exact hs.neg _ _ _ v (hs.neg _ _ _ h u)
theorem sym_split (hs:SW lt)(hU:E4 lt U)(hV:E4 lt V)(ha:A.length=a)(hm:a+U.length=m)(hb:m+V.length=b)(jT:mid=(a+b) / 2)(hUp:0<U.length)(hVp:0<V.length)
  (h0:s0=if mid<m then mid+m-b else a)(hr:r0=if mid<m then mid else m)(k:BsI (Rj lt (A++(U++(V++B))) (mid+m-1)) s0 r0 s s) :
  (∀x∈U.drop (s-a),∀y∈V.take (mid-s),lt y x=true)/\(∀x∈U.take (s-a),∀y∈V.drop (mid-s),lt y x=false)/\a<=s/\s<=m/\s<=mid/\m<=mid+m-s/\mid+m-s<=b:=by
 obtain⟨⟨k1,_,k2⟩,k3,k4⟩:=k;have jQ:a<=s/\s<=m/\s<=mid/\mid+m-s<=b:=by
  by_cases hc:mid<m
  ·rw[if_pos hc]at h0 hr;omega
  ·rw[if_neg hc]at h0 hr;omega
 refine⟨λx hx y hy=>?_,λx hx y hy=>?_,by omega,by omega,by omega,by omega,by omega⟩
 ·obtain⟨i,hi,hi2,rfl⟩:=Ig hx;obtain⟨j,hj,rQ,rfl⟩:=If hy;have hlt:s<r0:=by
   by_cases hc:mid<m
   ·rw[if_pos hc]at hr;omega
   ·rw[if_neg hc]at hr;omega
  have:=k4 s (UK _) hlt;rw[QF ha hm (by omega) (by omega) (by omega) (by omega)]at this;simp only[X4]at this;have u:=Hz hU hs (i:=s-a) (j:=i) hi2 hi;have v:=Hz hV hs (i:=j) (j:=mid+m-1-s-m) (by omega) (by omega);cases e:lt V[j] U[i]with
  | true=>rfl
  | false=>
   have h9:=hs.neg _ _ _ v (hs.neg _ _ _ e u);rw[h9]at this;cases this
 ·obtain⟨i,hi,hi2,rfl⟩:=If hx;obtain⟨j,hj,rQ,rfl⟩:=Ig hy;have hlt:s0<s:=by
   by_cases hc:mid<m
   ·rw[if_pos hc]at h0;omega
   ·rw[if_neg hc]at h0;omega
  have:=k3 (s-1) (by omega) (by omega);rw[QF ha hm (by omega) (by omega) (by omega) (by omega)]at this;simp only[VG]at this;have u:=Hz hU hs (i:=i) (j:=s-1-a) (by omega) (by omega);have v:=Hz hV hs (i:=mid+m-1-(s-1)-m) (j:=j) (by omega) hj;exact hs.neg _ _ _ v (hs.neg _ _ _ this u)

end
theorem one_up (hs:SW lt){x:α}{V:List α}{k:Nat}(hV:E4 lt V)(h1:∀y∈V.take k,lt y x=true)(h2:∀y∈V.drop k,lt y x=false):Srt lt ([x]++V) (V.take k++([x]++V.drop k)):=by
 have:=OR (U:=[x]) (V:=V) (i:=0) (k:=k) (W1:=V.take k) (W2:=[x]++V.drop k) hs (VN _ _) hV (λa ha y hy=>by
  have:a=x:=by simpa using ha
  rw[this];exact h1 y hy) (λa ha=>by simp at ha) ⟨VU (Xh k V) hV,F3.refl _,rfl⟩
  ⟨LD (VN _ _) (VU (Xk k V) hV) λa ha y hy=>by rw[Vg]at ha;rw[ha];exact h2 y hy,.refl _,rfl⟩
 exact this
theorem one_dn (hs:SW lt){y:α}{U:List α}{i:Nat}(hU:E4 lt U)(h1:∀x∈U.take i,lt y x=false)(h2:∀x∈U.drop i,lt y x=true):Srt lt (U++[y]) (U.take i++([y]++U.drop i)):=by
 have:=OR (U:=U) (V:=[y]) (i:=i) (k:=1) (W1:=U.take i++[y]) (W2:=U.drop i) hs hU (VN _ _) (λx hx a ha=>by
  have:a=y:=by simpa using ha
  rw[this];exact h2 x hx) (λx hx a ha=>by simp at ha)
  ⟨LD (VU (Xh i U) hU) (VN _ _) λa ha x hx=>by rw[Vg]at hx;rw[hx];exact h1 a ha,.refl _,rfl⟩
  ⟨VU (Xk i U) hU,by simpa using F3.refl _,by simp⟩
 simpa using this
def upR (a:Nat):Nat->List α->List α
 | 0,l=>l
 | k+1,l=>swp (upR a k l) (a+k) (a+k+1)
def dnR (m:Nat):Nat->List α->List α
 | 0,l=>l
 | k+1,l=>swp (dnR m k l) (m-k) (m-k-1)
theorem upR_ok (A B:List α)(x:α)(V:List α):∀k,k<=V.length->upR A.length k (A++([x]++(V++B)))=A++((V.take k++([x]++V.drop k))++B)
 | 0,_=>by simp[upR]
 | k+1,hk=>by
  have rJ:k<V.length:=hk;unfold upR;rw[upR_ok A B x V k (by omega)];have e:A++((V.take k++([x]++V.drop k))++B)=(A++V.take k)++x::([]++V[k]::(V.drop (k+1)++B)):=by
   rw[Vh rJ];simp only[UP,List.cons_append,List.nil_append]
  have h1:(V.take k).length=k:=by rw[UY];omega
  rw[e,(QG (A++V.take k) [] (V.drop (k+1)++B) x V[k] (by rw[UO,h1]) (by rw[UO,h1];rfl)).1,UR rJ];simp only[UP,List.cons_append,List.nil_append]
theorem dnR_ok (A B:List α)(y:α)(U:List α):∀k,k<=U.length->dnR (A.length+U.length) k (A++(U++([y]++B)))=A++((U.take (U.length-k)++([y]++U.drop (U.length-k)))++B)
 | 0,_=>by simp[dnR]
 | k+1,hk=>by
  unfold dnR;rw[dnR_ok A B y U k (by omega)];obtain⟨i,hi⟩:∃i,U.length=i+(k+1):=⟨U.length-(k+1),by omega⟩;have h2:U.length-k=i+1:=by omega
  have h3:U.length-(k+1)=i:=by omega
  have xT:i<U.length:=by omega
  rw[h2,h3];have h1:(U.take i).length=i:=by rw[UY];omega
  have e:A++((U.take (i+1)++([y]++U.drop (i+1)))++B)=(A++U.take i)++U[i]::([]++y::(U.drop (i+1)++B)):=by
   rw[UR xT];simp only[UP,List.cons_append,List.nil_append]
  rw[e,(QG (A++U.take i) [] (U.drop (i+1)++B) U[i] y (i:=A.length+U.length-k-1) (j:=A.length+U.length-k) (by rw[UO,h1];omega) (by rw[UO,h1];simp;omega)).2,Vh xT];simp only[UP,List.cons_append,List.nil_append]

end
section
variable {α:Type}{lt:α->α->Bool}
def Ni (lt:α->α->Bool)(w:Nat)(l:List α):Prop:=∀(i j:Nat) (hj:j<l.length) (hi:i<j),i / w=j / w->lt l[j] (l[i]'(by omega))=false
structure Stg (lt:α->α->Bool)(w:Nat)(l:List α)(a:Nat)(l':List α):Prop where
 ex:∃P,l'=P++l.drop a/\P.length=a/\F3 lt (l.take a) P/\Ni lt w P
theorem Stg.start (w:Nat)(l:List α):Stg lt w l 0 l:=⟨⟨[],by simp,rfl,by simpa using F3.refl _,λi j hj=>by simp at hj⟩⟩
theorem Stg.len {w:Nat}{l l':List α}{a:Nat}(h:Stg lt w l a l')(ha:a<=l.length):l'.length=l.length:=by
 obtain⟨P,rfl,hP,_,_⟩:=h.ex;rw[UO,hP,Vc];omega
theorem S9 {w a i:Nat}(hw:0<w)(hd:w ∣ a)(hi:i<w):(a+i) / w=a / w:=by
 obtain⟨q,rfl⟩:=hd;rw[Nat.mul_add_div hw,Nat.mul_div_cancel_left _ hw,Wg hi];omega
theorem div_less {w a i:Nat}(hw:0<w)(hd:w ∣ a)(hi:i<a):i / w<a / w:=by
 obtain⟨q,rfl⟩:=hd;rw[Nat.mul_div_cancel_left _ hw];rw[Wd hw,VV];exact hi
theorem Ni.app {w:Nat}{P S:List α}(hw:0<w)(hd:w ∣ P.length)(h:Ni lt w P)(hS:E4 lt S):S.length<=w->Ni lt w (P++S):=by
 intro hl i j hj hi he;rw[UO]at hj;by_cases h1:j<P.length
 ·rw[List.getElem_append_left h1,List.getElem_append_left (by omega)];exact h i j h1 hi he
 ·by_cases h2:i<P.length
  ·have e1:=div_less hw hd h2;have e2:=S9 hw hd (show j-P.length<w by omega);rw[show P.length+(j-P.length)=j by omega]at e2;omega
  ·rw[VK (by omega),VK (by omega)];exact W9.1 hS (i-P.length) (j-P.length) (by omega) (by omega) (by omega)
theorem Stg.all {w:Nat}{l l':List α}(h:Stg lt w l l.length l'):F3 lt l l'/\Ni lt w l'/\l'.length=l.length:=by
 obtain⟨P,h1,hP,hst,hb⟩:=h.ex;rw[VY (UK _),Vl]at h1;rw[US (UK _)]at hst;subst h1;exact⟨hst,hb,hP⟩
theorem Ni.block {w a:Nat}{l:List α}(hw:0<w)(hd:w ∣ a)(h:Ni lt w l)(n:Nat)(hn:n<=w):E4 lt ((l.drop a).take n):=by
 refine W9.2 λi j hi hj hij=>?_;rw[UY,Vc]at hi hj;rw[Xj,Xj,W4,W4];refine h (a+i) (a+j) (by omega) (by omega) ?_;rw[S9 hw hd (by omega),S9 hw hd (by omega)]
theorem Ni.whole {w:Nat}{l:List α}(hw:l.length<=w)(h:Ni lt w l):E4 lt l:=by
 refine W9.2 λi j hi hj hij=>h i j hj hij ?_;rw[Wg (by omega),Wg (by omega)]
theorem Rk (hs:SW lt):∀l m:List α,(l.Pairwise λa b=>lt a b=true)->(m.Pairwise λa b=>lt a b=true)->(∀a,a∈l↔a∈m)->l=m
 | [],m,_,_,h=>by
  cases m with
  | nil=>rfl
  | cons y m=>have:=(h y).2 (by simp);cases this
 | x::l,m,hl,hm,h=>by
  cases m with
  | nil=>have:=(h x).1 (by simp);cases this
  | cons y m=>
   rw[Ww]at hl hm;have hxy:x=y:=by
    rcases VC.1 ((h x).1 (by simp))with e | e
    ·exact e
    ·rcases VC.1 ((h y).2 (by simp))with e' | e'
     ·exact e'.symm
     ·have a1:=hm.1 x e;have a2:=hl.1 y e';rw[hs.asy _ _ a1]at a2;cases a2
   subst hxy
   congr 1
   refine Rk hs l m hl.2 hm.2 λa=>?_;have ne:∀ {k:List α},(∀a∈k,lt x a=true)->a∈k->a≠x:=λhk ha e=>by
    have:=hk a ha;rw[e,hs.irr]at this;cases this
   constructor
   ·intro ha;rcases VC.1 ((h a).1 (by simp[ha]))with e | e
    ·exact absurd e (ne hl.1 ha)
    ·exact e
   ·intro ha;rcases VC.1 ((h a).2 (by simp[ha]))with e | e
    ·exact absurd e (ne hm.1 ha)
    ·exact e
def cpF (lt:α->α->Bool):α->List α->List α
 | _,[]=>[]
 | x,y::t=>if BP lt y x then cpF lt y t else y::cpF lt y t
def cpL (lt:α->α->Bool):List α->List α
 | []=>[]
 | x::t=>x::cpF lt x t
theorem cpF_ok (hs:SW lt):∀(t:List α) (x:α),E4 lt (x::t)->((cpF lt x t).Pairwise λa b=>lt a b=true)/\(∀z∈cpF lt x t,lt x z=true)/\∀z,z∈cpF lt x t↔BP lt z x=false/\(t.filter (BP lt z)).head? = some z
 | [],x,h=>⟨List.Pairwise.nil,λz (hz:z∈[])=>(by cases hz),λz=>(by simp[cpF])⟩
 | y::t,x,h=>by
  have h':=h;unfold E4 at h';rw[Ww]at h';obtain⟨hx,ht⟩:=h';obtain⟨i1,i2,i3⟩:=cpF_ok hs t y ht;have yM:=hx y (by simp);unfold cpF;by_cases he:BP lt y x=true
  ·rw[if_pos he];have gM:=filter_eqv hs he;rw[FW]at he;have hlt:∀z∈cpF lt y t,lt x z=true:=λz hz=>by
    cases e:lt x z with
    | true=>rfl
    | false=>have:=hs.neg y x z he.1 e;rw[i2 z hz]at this;cases this
   refine⟨i1,hlt,λz=>?_⟩;rw[i3 z];have e1:BP lt z y=BP lt z x:=by
    rw[Va,FW,FW];exact⟨λ⟨p,q⟩=>⟨hs.neg _ _ _ p he.1,hs.neg _ _ _ he.2 q⟩,λ⟨p,q⟩=>⟨hs.neg _ _ _ p he.2,hs.neg _ _ _ he.1 q⟩⟩
   rw[e1];constructor
   ·rintro⟨a,b⟩;refine⟨a,?_⟩;rw[VA,if_neg (by rw[e1,a];decide)];exact b
   ·rintro⟨a,b⟩;refine⟨a,?_⟩;rw[VA,if_neg (by rw[e1,a];decide)]at b;exact b
  ·rw[if_neg he];have hxy:lt x y=true:=by
    cases e:lt x y with
    | true=>rfl
    | false=>exact absurd (FW.2 ⟨yM,e⟩) he
   have hlt:∀z∈cpF lt y t,lt x z=true:=λz hz=>by
    cases e:lt x z with
    | true=>rfl
    | false=>have:=hs.neg x z y e (hs.asy _ _ (i2 z hz));rw[hxy]at this;cases this
   refine⟨Ww.2 ⟨i2,i1⟩,λz hz=>?_,λz=>?_⟩
   ·rcases VC.1 hz with e | e
    ·rw[e];exact hxy
    ·exact hlt z e
   ·rw[VC,i3 z,VA];by_cases oW:BP lt z y=true
    ·rw[if_pos oW];have mE:BP lt z x=false:=by
      cases e:BP lt z x with
      | false=>rfl
      | true=>
       rw[FW]at e oW;have:=hs.neg x z y e.2 oW.1;rw[hxy]at this;cases this
     rw[mE,oW];simp only[List.head?_cons,UQ,X3,false_and,or_false,true_and];exact⟨λh=>h.symm,λh=>h.symm⟩
    ·rw[if_neg oW];have kZ:BP lt z y=false:=by simpa using oW
     rw[kZ];have hne:z≠y:=λe=>by rw[e,O0 hs]at kZ;cases kZ
     simp only[hne,false_or,true_and];constructor
     ·intro hb;refine⟨?_,hb⟩;have hz:z∈cpF lt y t:=(i3 z).2 ⟨kZ,hb⟩;cases e:BP lt z x with
      | false=>rfl
      | true=>rw[FW]at e;have:=hlt z hz;rw[e.2]at this;cases this
     ·exact λh=>h.2
theorem cpL_ok (hs:SW lt){l:List α}(h:E4 lt l):((cpL lt l).Pairwise λa b=>lt a b=true)/\∀z,z∈cpL lt l↔(l.filter (BP lt z)).head? = some z:=by
 cases l with
 | nil=>exact⟨List.Pairwise.nil,λz=>by simp[cpL]⟩
 | cons x t=>
  obtain⟨i1,i2,i3⟩:=cpF_ok hs t x h;refine⟨Ww.2 ⟨i2,i1⟩,λz=>?_⟩;show z∈x::cpF lt x t↔_;rw[VC,i3 z,VA];by_cases mE:BP lt z x=true
  ·rw[if_pos mE,mE];simp only[List.head?_cons,UQ,X3,false_and,or_false];exact⟨λh=>h.symm,λh=>h.symm⟩
  ·rw[if_neg mE];have hne:z≠x:=λe=>by rw[e,O0 hs]at mE;exact mE rfl
   simp only[hne,false_or];exact⟨λh=>h.2,λh=>⟨by simpa using mE,h⟩⟩

end
def Dl (L:List Nd)(i:Nat)(x:Nd)(c:Int):Bool:=
 decide (0<=c)&&(decide (x.lv=1->c<=255))&&decide (1<x.lv->0<c->c<=i/\∀y,L[(c-1).toNat]? = some y->y.lv=x.lv-1)
def Gw (L:List Nd)(i:Nat):Bool:=
 match L[i]? with
 | some x=>decide (1<=x.lv/\x.lv<=1329)&&(List.range 4).all λk=>Dl L i x (x.kid k)
 | none=>true
def AV (L:List Nd):Bool:=(List.range L.length).all (Gw L)
theorem TT (L:List Nd)(tk:Tok)(H:Aa)(hL:L.length<1152921504606846976):Sh.f33 (.sl (enL cNd L) tk) H=some (.ret (.bool (AV L)),H):=by
 unfold Sh.f33;rw[show AV L=(List.range L.length).all (Gw L) from rfl];have:=FL L.length (Gw L) (λi=>[.sl (enL cNd L) tk,.i6 (i:Int)]) H (some (.ret (.bool true),H)) (some (.ret (.bool false),H)) hL (λrec i hi=>?_) (λrec=>?_)
  (G:=λrec1 vs H1=>Sh.f5g H rec1 (ag vs 0) (ag vs 1) H1)
 ·refine this.trans ?_;cases (List.range L.length).all (Gw L) <;> rfl
 ·have hx:(i:Int)<(L.length:Int):=by omega
  have hg:L[i]? = some L[i]:=UG hi;unfold Sh.f5g;simp only[An,Bb,Ay,BL,Bq,hx,decide_true,AU,A4 hi,Au,AF,Nat.add_zero,Cy];by_cases h1:L[i].lv<1
  ·have:Gw L i=false:=by simp only[Gw,hg];simp;intro;omega
   simp[h1,this]
  ·by_cases h2:L[i].lv>1329
   ·have:Gw L i=false:=by simp only[Gw,hg];simp;intro;omega
    simp[h1,h2,this,A4 hi]
   ·have hd:Gw L i=(List.range 4).all λk=>Dl L i L[i] (L[i].kid k):=by
     simp only[Gw,hg];rw[zXc (by omega)];rfl
    simp only[h1,h2,decide_false,LU,BL,Dz,CA,AO,hd,AF,Nat.add_zero,Cy,Au,A4 hi];have:=FL 4 (λk=>Dl L i L[i] (L[i].kid k)) (λk=>[.sl (enL cNd L) tk,.i6 (i:Int),.i6 (k:Int)]) H (rec [.sl (enL cNd L) tk,.i6 ((i+1:Nat):Int)] H) (some (.ret (.bool false),H)) (by decide) (λaA k hk=>?_) (λaA=>?_)
     (G:=λaA vs H1=>Sh.f5f H rec aA (ag vs 0) (ag vs 1) (ag vs 2) H1)
    ·exact this
    ·have hk':(k:Int)<4:=by omega
     unfold Sh.f5f;simp only[An,Bb,Bd,BL,Bq,hk',decide_true,AU,A4 hi,Au,ER hk,AF,UJ,UW,Ez hk,Cy,As (show k<9223372036854775807 by omega),CK,DV,Dz];generalize L[i].kid k=c;generalize hx':L[i]=x at h1 h2 ⊢;by_cases hc:c<0
     ·have:Dl L i x c=false:=by simp[Dl];omega
      simp[hc,this,A4 hi,hx']
     ·obtain⟨n,rfl⟩:=VB (show 0<=c by omega);by_cases hl:x.lv=1
      ·by_cases sR:255<n
       ·have:Dl L i x n=false:=by simp[Dl,hl];omega
        have oU:(255:Int)<n:=by omega
        simp[hc,hl,sR,oU,this,A4 hi,hx']
       ·have:Dl L i x n=true:=by simp[Dl,hl];omega
        have oU:¬(255:Int)<n:=by omega
        simp[hc,hl,sR,oU,this,A4 hi,hx']
      ·have cT:1<x.lv:=by omega
       by_cases hn:0<n
       ·by_cases qO:i<n
        ·have:Dl L i x n=false:=by
          unfold Dl;rw[Wn];right;rw[decide_eq_false_iff_not];intro h;have:=(h cT (by omega)).1;omega
         simp[hc,hl,cT,hn,qO,this,A4 hi,hx']
        ·have hlt:n-1<L.length:=by omega
         have e1:((n:Int)-1).toNat=n-1:=by omega
         have hk2:Dl L i x n=decide (L[n-1].lv=x.lv-1):=by
          unfold Dl;rw[e1,UG hlt,Va];simp only[UU,zXe,UQ,forall_eq'];constructor
          ·intro h;exact (h.2 cT (by omega)).2
          ·intro h;exact⟨⟨by omega,by omega⟩,λ_ _=>⟨by omega,h⟩⟩
         have hw:IntKind.i64.wrap (x.lv-1)=x.lv-1:=Ao (by omega) (by omega);simp[hc,hl,cT,hn,qO,hk2,GX (show 0<n by omega) (by omega),A4 hlt,A4 hi,hx',hw];by_cases he:L[n-1].lv=x.lv-1 <;> simp[he]
       ·have:Dl L i x n=true:=by
         unfold Dl;simp only[UU,zXe];exact⟨⟨by omega,by omega⟩,λ_ _=>by omega⟩
        simp[hc,hl,cT,hn,this,A4 hi,hx']
    ·unfold Sh.f5f;simp[As (show i<9223372036854775807 by omega)]
 ·unfold Sh.f5g;simp
theorem AW {L:List Nd}(h:AV L=true){i:Nat}(hi:i<L.length):1<=L[i].lv/\L[i].lv<=1329/\∀k,k<4->0<=L[i].kid k/\(L[i].lv=1->L[i].kid k<=255)/\(1<L[i].lv->0<L[i].kid k->L[i].kid k<=i/\∀y,L[(L[i].kid k-1).toNat]? = some y->y.lv=L[i].lv-1):=by
 have h1:=Vb.1 h i (by simpa using hi);simp only[Gw,UG hi,UU,zXe,Vb]at h1;refine⟨h1.1.1,h1.1.2,λk hk=>?_⟩;have h2:=h1.2 k (by simpa using hk);simp only[Dl,UU,zXe]at h2;exact⟨h2.1.1,h2.1.2,h2.2⟩
def O5 (E:List Bool)(x:Nd):Bool:=(List.range 4).all λk=>decide (x.kid k=0)||(decide (1<x.lv)&&E.getD (x.kid k).toNat true)
def AE (L:List Nd):List Bool:=L.foldl (λE x=>E++[O5 E x]) [true]
theorem MV (L:List Nd)(x:Nd):AE (L++[x])=AE L++[O5 (AE L) x]:=by simp[AE]
theorem DF (L:List Nd):(AE L).length=L.length+1:=by
 rcases Ha L with rfl | ⟨l,a,rfl⟩
 ·rfl
 ·rw[MV];have:=DF l;simp[this]
termination_by L.length
decreasing_by (subst_vars;simp)
theorem U5 (L:List Nd){i:Nat}(hi:i<L.length):AE (L.take (i+1))=AE (L.take i)++[O5 (AE (L.take i)) L[i]]:=by
 rw[UR hi,MV]
theorem Ja (L:List Nd)(tk:Tok)(H:Aa)(hL:L.length<140737488355327)(hl:AV L=true):Sh.f1i (.sl (enL cNd L) tk) H=some (.ret (.sl (enL cB (AE L)) .no),H):=by
 have dA:=Fx (f:=cB) (a:=false) (n:=L.length+1) (bytes:=1) (H:=H) (by omega) (by omega);have hid:=CS (sz:=1) (id:=H.length) (n:=L.length+1) (K:=.i64) (g:=0) (off:=0) (cap:=L.length+1) (ex:=true) (i:=0) (by omega);have hst:=DW (f:=cB) (sz:=1) (l:=List.replicate (L.length+1) false) (i:=0) (a:=true) (v:=.bool true) (H:=H++[.cel 0 (flat cB (List.replicate (L.length+1) false))]) (id:=H.length) (by simp) (by simp) rfl;unfold Sh.f1i;simp only[Ay,BL,CK,As (show L.length<9223372036854775807 by omega),dA,Bj];simp only[WW,Nat.add_zero]at hid;rw[show ((0:Nat):Int)=0 from rfl]at hid;simp only[WW]at hst;rw[hid];simp only[BL,hst,AC,CC,TO,TM];have key:=Cj (G:=λrec1 vs H1=>Sh.f5i H rec1 (ag vs 0) (ag vs 1) (ag vs 2) H1) L.length (λi=>[.sl (enL cNd L) tk,.ms H.length 0 0 (L.length+1) (L.length+1) 1 true,.i6 (i:Int)]) (λi=>H++[.cel 0 (flat cB (AE (L.take i)++List.replicate (L.length-i) false))]) (some (.ret (.sl (enL cB (AE L)) .no),H)) (by omega) (λrec i hi=>?_) (λrec=>?_)
 ·have e:(List.replicate (L.length+1) false).set 0 true=AE (L.take 0)++List.replicate (L.length-0) false:=by simp[zXm,AE]
  rw[e];exact key
 ·have aF:(i:Int)<(L.length:Int):=by omega
  obtain⟨l1,l2,l3⟩:=AW hl hi;have hEl:(AE (L.take i)).length=i+1:=by rw[DF];simp;omega
  unfold Sh.f5i;simp only[An,Bb,Bd,Ay,BL,Bq,aF,decide_true,AU];have hs:∀k,k<4->1<L[i].lv->(AE (L.take i)++List.replicate (L.length-i) false).getD (L[i].kid k).toNat true=(AE (L.take i)).getD (L[i].kid k).toNat true:=by
   intro k hk h1;obtain⟨q1,q2,q3⟩:=l3 k hk;have:(L[i].kid k).toNat<(AE (L.take i)).length:=by
    rw[hEl];by_cases h0:0<L[i].kid k
    ·have:=(q3 h1 h0).1;omega
    ·omega
   simp only[UN,UL this]
  have hb:∀k,k<4->1<L[i].lv->(L[i].kid k).toNat<L.length+1:=by
   intro k hk h1;obtain⟨q1,q2,q3⟩:=l3 k hk;by_cases h0:0<L[i].kid k
   ·have:=(q3 h1 h0).1;omega
   ·omega
  have hEs:O5 (AE (L.take i)) L[i]=(List.range 4).all λk=>decide (L[i].kid k=0)||(decide (1<L[i].lv)&&(AE (L.take i)++List.replicate (L.length-i) false).getD (L[i].kid k).toNat true):=by
   unfold O5;rw[N0,N0];by_cases h1:1<L[i].lv
   ·simp only[hs 0 (by omega) h1,hs 1 (by omega) h1,hs 2 (by omega) h1,hs 3 (by omega) h1]
   ·simp only[h1,decide_false,Wa]
  have aH:(AE (L.take i)++List.replicate (L.length-i) false).set (i+1) (O5 (AE (L.take i)) L[i])=AE (L.take (i+1))++List.replicate (L.length-(i+1)) false:=by
   rw[U5 L hi,Vt _ _ (by omega),hEl,Vr,show L.length-i=(L.length-(i+1))+1 from by omega,zXm,List.set_cons_zero];simp
  have hlen:(AE (L.take i)++List.replicate (L.length-i) false).length=L.length+1:=by simp[hEl];omega
  rw[<-aH,hEs];generalize AE (L.take i)++List.replicate (L.length-i) false=E at hlen;generalize hx:L[i]=x at l1 l2 l3 hb;have jC:AB (H++[.cel 0 (flat cB E)]) H.length 0=some (flat cB E):=by simp
  refine Cj (G:=λaA vs H1=>Sh.f5h H rec aA (ag vs 0) (ag vs 1) (ag vs 2) (ag vs 3) (ag vs 4) H1) 4 (λk=>[.sl (enL cNd L) tk,.ms H.length 0 0 (L.length+1) (L.length+1) 1 true,.i6 (i:Int),.bool ((List.range k).all λk=>decide (x.kid k=0)||(decide (1<x.lv)&&E.getD (x.kid k).toNat true)),.i6 (k:Int)]) (λ_=>H++[.cel 0 (flat cB E)]) _ (by decide) (λaA k hk=>?_) (λaA=>?_)
  ·have hk':(k:Int)<4:=by omega
   obtain⟨q1,q2,q3⟩:=l3 k hk;have hb':=hb k hk;unfold Sh.f5h;have pY:((List.range (k+1)).all λk=>decide (x.kid k=0)||(decide (1<x.lv)&&E.getD (x.kid k).toNat true))=(((List.range k).all λk=>decide (x.kid k=0)||(decide (1<x.lv)&&E.getD (x.kid k).toNat true))&&(decide (x.kid k=0)||(decide (1<x.lv)&&E.getD (x.kid k).toNat true))):=by
    rw[WT,Xv];simp
   rw[pY];generalize ((List.range k).all λk=>decide (x.kid k=0)||(decide (1<x.lv)&&E.getD (x.kid k).toNat true))=e;simp only[An,Bb,Bd,B7,Cb,BL,Bq,hk',decide_true,AU,A4 hi,hx,Au,ER hk,AF,UJ,UW,Ez hk,Cy,As (show k<9223372036854775807 by omega),CK,DV,Dz];obtain⟨n,hn⟩:=VB q1;rw[hn]at hb' ⊢;simp only[zXl]at hb' ⊢;cases e with
   | false=>simp
   | true=>
    by_cases h0:n=0
    ·subst h0;simp
    ·by_cases h1:1<x.lv
     ·have lO:n<E.length:=by rw[hlen];exact hb' h1
      have jW:=CS (sz:=1) (id:=H.length) (n:=L.length+1) (K:=.i64) (g:=0) (off:=0) (cap:=L.length+1) (ex:=true) (i:=n) (hb' h1);simp only[UJ,UW]at jW;have hld:=Ih (f:=cB) jC lO;simp[h0,h1,hx,A4 hi,jW,hld,UG lO]
     ·simp[h0,h1,hx,A4 hi]
  ·have jW:=CS (sz:=1) (id:=H.length) (n:=L.length+1) (K:=.i64) (g:=0) (off:=0) (cap:=L.length+1) (ex:=true) (i:=i+1) (by omega);simp only[UJ,UW]at jW;have dD:=DW (f:=cB) (sz:=1) (l:=E) (i:=i+1) (a:=(List.range 4).all λk=>decide (x.kid k=0)||(decide (1<x.lv)&&E.getD (x.kid k).toNat true)) (H:=H++[.cel 0 (flat cB E)]) (id:=H.length) jC (by omega) (v:=.bool ((List.range 4).all λk=>decide (x.kid k=0)||(decide (1<x.lv)&&E.getD (x.kid k).toNat true))) rfl;simp only[UW]at dD;unfold Sh.f5h;have hf:¬(((4:Nat):Int)<4):=by decide
   simp only[An,Bb,Bd,B7,Cb,BL,Bq,hf,decide_false,AO,CK,As (show i<9223372036854775807 by omega),jW,dD,AC,CC,TO,TM]
 ·unfold Sh.f5i;have jC:AB (H++[.cel 0 (flat cB (AE L))]) H.length 0=some (flat cB (AE L)):=by simp
  have eC:=fall_ms (f:=cB) (b:=H.length) (d:=5) (cap:=L.length+1) (ex:=true) jC (UK _);rw[DF]at eC;have ht:L.take L.length=L:=US (UK _);simp only[An,Bb,Bd,Ay,BL,Bq,V3,decide_false,AO,ht,Vr,List.replicate_zero,Vl,C6,eC,zXb]
theorem TV (L:List Nd)(tk:Tok)(n:Nat)(H:Aa)(hL:L.length<140737488355327)(hl:AV L=true)(hn:n<=L.length):Sh.f6s (.sl (enL cNd L) tk) (.i6 (n:Int)) H=some (.ret (.bool ((AE L).getD n true)),H):=by
 have hlt:n<(AE L).length:=by rw[DF];omega
 unfold Sh.f6s;simp[Ja L tk H hL hl,A4 hlt,UN,UG hlt]
def Bf (L:List Nd)(c:Int):Nd:=L.getD (c-1).toNat ⟨0,0,0,0,0⟩
def So (L:List Nd)(E:List Bool)(x:Nd)(k j:Nat):Bool:=
 decide (j=3-k)||(if x.lv=2 then decide ((Bf L (x.kid k)).kid j=0)else E.getD ((Bf L (x.kid k)).kid j).toNat true)
def hol (L:List Nd)(E:List Bool)(x:Nd):Bool:=
 (List.range 4).all λk=>decide (x.kid k=0)||(List.range 4).all (So L E x k)
def F0 (L:List Nd)(n:Nat):Bool:=
 decide (n≠0)&&decide (2<=(Bf L n).lv)&&hol L (AE L) (Bf L n)
theorem Fw {L:List Nd}{c:Int}{n:Nat}(hc:c=((n+1:Nat):Int))(h:n<L.length):Bf L c=L[n]:=by
 have:(c-1).toNat=n:=by omega
 unfold Bf;rw[this,UN,UG h];rfl
theorem R5 (L:List Nd)(tk:Tok)(n:Nat)(H:Aa)(hL:L.length<140737488355327)(hl:AV L=true)(hn:n<=L.length):Sh.f35 (.sl (enL cNd L) tk) (.i6 (n:Int)) H=some (.ret (.bool (F0 L n)),H):=by
 unfold Sh.f35 F0;cases n with
 | zero=>simp
 | succ n=>
  have hi:n<L.length:=hn;have e0:¬((n+1:Nat):Int)=0:=by omega
  obtain⟨l1,l2,l3⟩:=AW hl hi;rw[Fw rfl hi];generalize hx:L[n]=x at l1 l2 l3;have hw:IntKind.i64.wrap (((n+1:Nat):Int)-1)=(n:Int):=by rw[Ao] <;> omega
  simp only[DV,GL,e0,decide_false,BL,LU,Dy,hw,A4 hi,hx,Au,AF,Nat.add_zero,Cy,Bq,CA];by_cases h2:x.lv<2
  ·have:¬2<=x.lv:=by omega
   simp[h2,this]
  ·have kO:2<=x.lv:=by omega
   simp only[h2,kO,decide_false,AO,Ja L tk H hL hl,Fr,decide_true,ne_eq,Wv,not_false_eq_true,zXn];have key:=FL (G:=λrec1 vs H1=>Sh.f5j H rec1 (ag vs 0) (ag vs 1) (ag vs 2) (ag vs 3) H1) 4 (λk=>decide (x.kid k=0)||(List.range 4).all (So L (AE L) x k))
    (λk=>[.sl (enL cNd L) tk,.i6 ((n+1:Nat):Int),.sl (enL cB (AE L)) .no,.i6 (k:Int)]) H (some (.ret (.bool true),H)) (some (.ret (.bool false),H)) (by decide) (λrec k hk=>?_) (λrec=>?_)
   ·refine key.trans ?_;rw[show hol L (AE L) x=(List.range 4).all λk=>decide (x.kid k=0)||(List.range 4).all (So L (AE L) x k) from rfl];cases (List.range 4).all λk=>decide (x.kid k=0)||(List.range 4).all (So L (AE L) x k) <;> rfl
   ·have hk':(k:Int)<4:=by omega
    obtain⟨q1,q2,q3⟩:=l3 k hk;unfold Sh.f5j;simp only[An,Bb,Bd,B7,BL,Bq,hk',decide_true,AU,Dy,hw,A4 hi,hx,Au,ER hk,AF,UJ,UW,Ez hk];have aM:IntKind.i64.wrap ((k:Int)+1)=((k+1:Nat):Int):=As (by omega);by_cases hc:x.kid k=0
    ·rw[Dp DZ];unfold Sh.f34;simp only[hc,decide_true,Wi,if_true,An,Bb,Bd,B7,Cb,DL,Bq,BL,show ((0:Int)<4) from by decide,Ji,Dz,show ¬((0:Int)>0) from by decide,decide_false,CI,AO,CK,aM]
    ·obtain⟨m,hm⟩:∃m:Nat,x.kid k=((m+1:Nat):Int):=⟨(x.kid k-1).toNat,by omega⟩;have h1:1<x.lv:=by omega
     obtain⟨r1,r2⟩:=q3 h1 (by omega);have pC:m<n:=by omega
     have hml:m<L.length:=by omega
     have hy:=r2 L[m] (by rw[show (x.kid k-1).toNat=m from by omega];exact UG hml);obtain⟨y1,y2,y3⟩:=AW hl hml;have hE:∀j,j<4->2<x.lv->(L[m].kid j).toNat<(AE L).length:=by
      intro j hj h3;obtain⟨s1,s2,s3⟩:=y3 j hj;rw[DF];by_cases h0:0<L[m].kid j
      ·have:=(s3 (by omega) h0).1;omega
      ·omega
     have hp:So L (AE L) x k=λj=>decide (j=3-k)||(if x.lv=2 then decide (L[m].kid j=0)else (AE L).getD (L[m].kid j).toNat true):=by
      funext j;unfold So;rw[Fw hm hml]
     have cP:IntKind.i64.wrap (((m+1:Nat):Int)-1)=(m:Int):=by rw[Ao] <;> omega
     have bX:¬((m+1:Nat):Int)=0:=by omega
     simp only[hp,hm,bX,decide_false,zXo];generalize yL:L[m]=y at y1 y2 y3 hy hE;refine FL (G:=λaA vs H1=>Sh.f34 H rec aA (ag vs 0) (ag vs 1) (ag vs 2) (ag vs 3) (ag vs 4) (ag vs 5) H1) 4 _
      (λj=>[.sl (enL cNd L) tk,.i6 ((n+1:Nat):Int),.sl (enL cB (AE L)) .no,.i6 (k:Int),.i6 ((m+1:Nat):Int),.i6 (j:Int)]) H _ _ (by decide) (λaA j hj=>?_) (λaA=>?_)
     ·have hj':(j:Int)<4:=by omega
      have hm0:((m+1:Nat):Int)>0:=by omega
      have jM:IntKind.i64.wrap (3-(k:Int))=3-(k:Int):=Ao (by omega) (by omega);have rM:IntKind.i64.wrap ((j:Int)+1)=((j+1:Nat):Int):=As (by omega);obtain⟨s1,s2,s3⟩:=y3 j hj;have hE':=hE j hj;unfold Sh.f34;simp only[An,Bb,Bd,B7,Cb,DL,Bq,BL,hj',decide_true,Ji,Dz,hm0,CI,AU,Dy,hw,cP,jM,A4 hml,yL,A4 hi,hx,Au,ER hj,AF,UJ,Nat.add_zero,UW,Ez hj,Cy,It,KX,DV,GL,CK,rM];obtain⟨g,hg⟩:=VB s1;rw[hg]at hE' ⊢;simp only[zXl]at hE' ⊢;by_cases yI:j=3-k
      ·have h3:(j:Int)=3-(k:Int):=by omega
       simp only[BL,An,Bb,Bd,B7,Cb,DL,Bq,Dz,KY,Iv,DV,It,GL,KX,CK,Dy,Iu,AU,AO,CI,CA,Ji,LU,Sr,Ql,gk_s,Pn,Pq,Po,Pp,Us,PT,HM,Pz,P3,P0,P1,Uv,Pr,Pu,Ps,Pt,Ut,Pv,Py,Pw,Px,Uu,BC,AI,decide_true,decide_false,Vp,V0,Fr,CC,Nn,Em,Jn,if_true,UM,if_false,I0,AC,Dr,Bj,zXo,Wi,zXp,W8,zXc h3,zXc yI,Wi]
      ·have h3:¬(j:Int)=3-(k:Int):=by omega
       simp only[yI,h3,GMw,Au,Ah,AF,UJ,Nat.add_zero,UW,Cy,zXo];by_cases hx2:x.lv=2
       ·have hx3:¬(2:Int)>2:=by decide
        by_cases xV:(g:Int)=0
        ·simp only[BL,An,Bb,Bd,B7,Cb,DL,Bq,Dz,KY,Iv,DV,It,GL,KX,CK,Dy,Iu,AU,AO,CI,CA,Ji,LU,Sr,Ql,gk_s,Pn,Pq,Po,Pp,Us,PT,HM,Pz,P3,P0,P1,Uv,Pr,Pu,Ps,Pt,Ut,Pv,Py,Pw,Px,Uu,BC,AI,decide_true,decide_false,Vp,V0,Fr,CC,Nn,Em,Jn,if_true,UM,if_false,I0,AC,Dr,Bj,zXo,Wi,zXp,W8,Au,Ah,AF,UJ,Nat.add_zero,UW,Cy,hw,A4 hi,hx,hx2,xV,hx3]
        ·simp only[BL,An,Bb,Bd,B7,Cb,DL,Bq,Dz,KY,Iv,DV,It,GL,KX,CK,Dy,Iu,AU,AO,CI,CA,Ji,LU,Sr,Ql,gk_s,Pn,Pq,Po,Pp,Us,PT,HM,Pz,P3,P0,P1,Uv,Pr,Pu,Ps,Pt,Ut,Pv,Py,Pw,Px,Uu,BC,AI,decide_true,decide_false,Vp,V0,Fr,CC,Nn,Em,Jn,if_true,UM,if_false,I0,AC,Dr,Bj,zXo,Wi,zXp,W8,Au,Ah,AF,UJ,Nat.add_zero,UW,Cy,hw,A4 hi,hx,hx2,xV,hx3]
       ·have hx3:x.lv>2:=by omega
        have hlt:=hE' hx3;have eQ:(AE L).getD g true=(AE L)[g]:=by rw[UN,UG hlt];rfl
        simp only[BL,An,Bb,Bd,B7,Cb,DL,Bq,Dz,KY,Iv,DV,It,GL,KX,CK,Dy,Iu,AU,AO,CI,CA,Ji,LU,Sr,Ql,gk_s,Pn,Pq,Po,Pp,Us,PT,HM,Pz,P3,P0,P1,Uv,Pr,Pu,Ps,Pt,Ut,Pv,Py,Pw,Px,Uu,BC,AI,decide_true,decide_false,Vp,V0,Fr,CC,Nn,Em,Jn,if_true,UM,if_false,I0,AC,Dr,Bj,zXo,Wi,zXp,W8,Au,Ah,AF,UJ,Nat.add_zero,UW,Cy,hw,A4 hi,hx,hx2,hx3,A4 hlt,eQ,zXh];cases (AE L)[g] <;> simp only[BL,An,Bb,Bd,B7,Cb,DL,Bq,Dz,KY,Iv,DV,It,GL,KX,CK,Dy,Iu,AU,AO,CI,CA,Ji,LU,Sr,Ql,gk_s,Pn,Pq,Po,Pp,Us,PT,HM,Pz,P3,P0,P1,Uv,Pr,Pu,Ps,Pt,Ut,Pv,Py,Pw,Px,Uu,BC,AI,decide_true,decide_false,Vp,V0,Fr,CC,Nn,Em,Jn,if_true,UM,if_false,I0,AC,Dr,Bj,zXo,Wi,zXp,W8]
     ·have hf:¬(((4:Nat):Int)<4):=by decide
      unfold Sh.f34;simp only[An,Bb,Bd,B7,Cb,DL,Bq,BL,hf,decide_false,Ql,Sr,CA,AO,CK,aM]
   ·have hf:¬(((4:Nat):Int)<4):=by decide
    unfold Sh.f5j;simp only[An,Bb,Bd,B7,Bq,BL,hf,decide_false,AO,Nn]
theorem q05_inner (L:List Nd)(tk:Tok)(n k:Nat)(H:Aa)(hL:L.length<140737488355327)(hl:AV L=true)(hn:n<L.length)(h2:2<=L[n].lv)(hk:k<4) :
  Sh.f6t (.sl (enL cNd L) tk) (.i6 ((n+1:Nat):Int)) (.i6 (k:Int)) H=some (.ret (.i6 (if L[n].kid k=0 then 0 else (Bf L (L[n].kid k)).kid (3-k))),H):=by
 obtain⟨l1,l2,l3⟩:=AW hl hn;obtain⟨q1,q2,q3⟩:=l3 k hk;have hw:IntKind.i64.wrap (((n+1:Nat):Int)-1)=(n:Int):=by rw[Ao] <;> omega
 unfold Sh.f6t;simp only[Dy,BL,hw,A4 hn,Au,ER hk,AF,UJ,UW,Ez hk,DV,GL];by_cases hc:L[n].kid k=0
 ·simp[hc]
 ·obtain⟨m,hm⟩:∃m:Nat,L[n].kid k=((m+1:Nat):Int):=⟨(L[n].kid k-1).toNat,by omega⟩;obtain⟨r1,r2⟩:=q3 (by omega) (by omega);have hml:m<L.length:=by omega
  have cP:IntKind.i64.wrap (((m+1:Nat):Int)-1)=(m:Int):=by rw[Ao] <;> omega
  have jM:IntKind.i64.wrap (3-(k:Int))=((3-k:Nat):Int):=by rw[Ao] <;> omega
  simp only[hc,decide_false,AO,if_false,Fw hm hml];rw[hm];simp only[cP,jM,BL,A4 hml,Au,UJ,ER (show 3-k<4 by omega),AF,UW,Ez (show 3-k<4 by omega),Nn]
def NB (rec:Nat->List Nat->List Nat)(x:Nd)(k:Nat)(out:List Nat):List Nat:=
 (List.range k).foldl (λo k=>if 1<x.lv/\0<x.kid k then rec (x.kid k).toNat o else o) out
def Im (L:List Nd):Nat->Nat->List Nat->List Nat
 | 0,_,out=>out
 | v+1,n,out=>if n∈out then out else NB (Im L v) (Bf L n) 4 out++[n]
def Nv (N:Nat)(out:List Nat):Prop:=out.Nodup/\∀x∈out,1<=x/\x<=N
theorem MH:∀(N:Nat) (out:List Nat),Nv N out->out.length<=N
 | 0,out,h=>by
  cases out with
  | nil=>simp
  | cons a l=>have:=h.2 a (by simp);omega
 | N+1,out,h=>by
  have h1:Nv N (out.erase (N+1)):=⟨h.1.erase _,λx hx=>by
   have:=(h.1.mem_erase_iff).1 hx;have:=h.2 x this.2;omega⟩
  have:=MH N _ h1;rw[List.length_erase]at this;split at this <;> omega
theorem U4 (rec:Nat->List Nat->List Nat)(x:Nd)(k:Nat)(out:List Nat):NB rec x (k+1) out=if 1<x.lv/\0<x.kid k then rec (x.kid k).toNat (NB rec x k out)else NB rec x k out:=by
 simp[NB,WT]
theorem LW {rec:Nat->List Nat->List Nat}{x:Nd}{out:List Nat}(P:List Nat->Prop)(h0:P out)(hs:∀k o,k<4->1<x.lv->0<x.kid k->P o->P (rec (x.kid k).toNat o)):∀k,k<=4->P (NB rec x k out)
 | 0,_=>h0
 | k+1,h=>by
  rw[U4];split
  ·rename_i hc;exact hs k _ (by omega) hc.1 hc.2 (LW P h0 hs k (by omega))
  ·exact LW P h0 hs k (by omega)
theorem BD {L:List Nd}{n:Nat}(h:n<L.length):Bf L ((n+1:Nat):Int)=L[n]:=Fw rfl h
theorem QU {L:List Nd}(hl:AV L=true):∀(v n:Nat) (out:List Nat),1<=n->n<=L.length->Nv L.length out->Nv L.length (Im L v n out)/\(∀x∈out,x∈Im L v n out)/\∀x∈Im L v n out,x∈out\/x<=n
 | 0,n,out,h1,h2,ho=>⟨ho,λx hx=>hx,λx hx=>.inl hx⟩
 | v+1,n,out,h1,h2,ho=>by
  obtain⟨m,rfl⟩:∃m,n=m+1:=⟨n-1,by omega⟩;have hm:m<L.length:=by omega
  obtain⟨l1,l2,l3⟩:=AW hl hm;simp only[Im];split
  ·exact⟨ho,λx hx=>hx,λx hx=>.inl hx⟩
  ·rename_i hn;rw[BD hm];have key:=LW (rec:=Im L v) (x:=L[m]) (out:=out) (λo=>Nv L.length o/\(∀x∈out,x∈o)/\∀x∈o,x∈out\/x<=m) ⟨ho,λx hx=>hx,λx hx=>.inl hx⟩ (λk o hk aT cJ hP=>by
    obtain⟨q1,q2,q3⟩:=l3 k hk;have:=(q3 aT cJ).1;obtain⟨r1,r2,r3⟩:=QU hl v (L[m].kid k).toNat o (by omega) (by omega) hP.1;exact⟨r1,λx hx=>r2 x (hP.2.1 x hx),λx hx=>by
     rcases r3 x hx with h | h
     ·exact hP.2.2 x h
     ·right;omega⟩) 4 (by omega)
   obtain⟨⟨k1,k2⟩,k3,k4⟩:=key;generalize NB (Im L v) L[m] 4 out=o at k1 k2 k3 k4;have bJ:m+1 ∉ o:=λh=>by
    rcases k4 _ h with h | h
    ·exact hn h
    ·omega
   refine⟨⟨?_,?_⟩,?_,?_⟩
   ·rw[List.nodup_append];exact⟨k1,by simp,λa ha b hb e=>by simp at hb;subst hb;subst e;exact bJ ha⟩
   ·intro x hx;simp only[Vi,Vg]at hx;rcases hx with hx | rfl
    ·exact k2 x hx
    ·omega
   ·intro x hx;simp[k3 x hx]
   ·intro x hx;simp only[Vi,Vg]at hx;rcases hx with hx | rfl
    ·rcases k4 x hx with h | h
     ·exact .inl h
     ·exact .inr (by omega)
    ·exact .inr (UK _)
theorem append_outN {B:Aa}{l:List Nat}{n:Nat}(h:l.length<17592186044415):AP EV 1 8 (DD cN B l) (.sl (enL cN [n]) .ti) (DC cN EV 1 B l)=some (DD cN B (l++[n]),DC cN EV 1 B (l++[n])):=
 Du (by simp) (by simp;omega) (by simp;omega)
theorem q05_end {L:List Nd}(tk:Tok)(B:Aa)(hL:L.length<17592186044415)(hl:AV L=true):∀(v n d:Nat) (out:List Nat),1<=n->n<=L.length->(Bf L n).lv=v->v<=d->Nv L.length out ->
  Sh.fj d (.sl (enL cNd L) tk) (.i6 (n:Int)) (DD cN B out) (DC cN EV 1 B out)=some (.ret (DD cN B (Im L v n out)),DC cN EV 1 B (Im L v n out)):=by
 intro v
 induction v with
 | zero=>
  intro n d out h1 h2 hv hd ho;exfalso;obtain⟨m,rfl⟩:∃m,n=m+1:=⟨n-1,by omega⟩;rw[BD (by omega)]at hv;have:=(AW hl (show m<L.length by omega)).1;omega
 | succ v ih=>
  intro n d out h1 h2 hv hd ho;obtain⟨d,rfl⟩:∃e,d=e+1:=⟨d-1,by omega⟩;obtain⟨m,rfl⟩:∃m,n=m+1:=⟨n-1,by omega⟩;have hm:m<L.length:=by omega
  obtain⟨l1,l2,l3⟩:=AW hl hm;have aZ:=MH _ _ ho;rw[BD hm]at hv;show Sh.f7t (Sh.fj d) _ _ _ _=_;unfold Sh.f7t;have key:=N5 (G:=λrec1 vs H1=>Sh.f5l (DC cN EV 1 B out) (Sh.fj d) rec1 (ag vs 0) (ag vs 1) (ag vs 2) (ag vs 3) H1) out.length (λi=>decide (out.getD i 0=m+1))
   (λi=>[.sl (enL cNd L) tk,.i6 ((m+1:Nat):Int),DD cN B out,.i6 (i:Int)]) (DC cN EV 1 B out) (some (.ret (DD cN B (NB (Im L v) L[m] 4 out++[m+1])),DC cN EV 1 B (NB (Im L v) L[m] 4 out++[m+1]))) (λ_=>some (.ret (DD cN B out),DC cN EV 1 B out)) (by omega) (λrec i hi=>?_) (λrec=>?_)
  ·refine key.trans ?_;by_cases cG:m+1∈out
   ·obtain⟨i,hi,hx⟩:=Vn cG;have hf:∃j,(List.range out.length).find? (λi=>decide (out.getD i 0=m+1))=some j:=by
     cases hq:(List.range out.length).find? (λi=>decide (out.getD i 0=m+1))with
     | some j=>exact⟨j,rfl⟩
     | none=>
      have:=WD.1 hq i (by simpa using hi);simp[UN,UG hi,hx]at this
    obtain⟨j,hj⟩:=hf;rw[hj];simp only[Im,if_pos cG]
   ·have hf:(List.range out.length).find? (λi=>decide (out.getD i 0=m+1))=none:=by
     rw[WD];intro i hi;have aF:i<out.length:=by simpa using hi
     rw[UN,UG aF];simp only[Option.getD_some,zXe];intro e;exact cG (e ▸ UV aF)
    rw[hf];simp only[Im,if_neg cG,BD hm]
  ·have aF:(i:Int)<(out.length:Int):=by omega
   have bQ:decide ((out[i]:Int)=((m+1:Nat):Int))=decide (out.getD i 0=m+1):=by
    rw[UN,UG hi,Va];simp;omega
   unfold Sh.f5l;simp only[GMw,Au,Ah,AF,UJ,Nat.add_zero,UW,Cy,EP,Ay,aF,A4 hi,zXh,As (show i<9223372036854775807 by omega),bQ];cases decide (out.getD i 0=m+1) <;> simp only[GMw]
  ·unfold Sh.f5l;rw[EP];simp only[GMw,Ay,V3];rw[<-EP];refine Cj (G:=λaA vs H1=>Sh.f5k (DC cN EV 1 B out) (Sh.fj d) aA (ag vs 0) (ag vs 1) (ag vs 2) (ag vs 3) H1) 4 (λk=>[.sl (enL cNd L) tk,.i6 ((m+1:Nat):Int),DD cN B (NB (Im L v) L[m] k out),.i6 (k:Int)]) (λk=>DC cN EV 1 B (NB (Im L v) L[m] k out)) _ (by decide) (λaA k hk=>?_) (λaA=>?_)
   ·have hk':(k:Int)<4:=by omega
    have aM:IntKind.i64.wrap ((k:Int)+1)=((k+1:Nat):Int):=As (by omega);have cP:IntKind.i64.wrap (((m+1:Nat):Int)-1)=(m:Int):=by rw[Ao] <;> omega
    obtain⟨q1,q2,q3⟩:=l3 k hk;have dL:Nv L.length (NB (Im L v) L[m] k out):=LW (λo=>Nv L.length o) ho (λk o hk aT cJ hP=>by
     obtain⟨q1,q2,q3⟩:=l3 k hk;have:=(q3 aT cJ).1;exact (QU hl v (L[m].kid k).toNat o (by omega) (by omega) hP).1) k (by omega)
    unfold Sh.f5k;rw[U4];generalize NB (Im L v) L[m] k out=o at dL;simp only[GMw,Au,Ah,AF,UJ,Nat.add_zero,UW,Cy,hk',cP,A4 hm,Sh.f36,aM];by_cases aT:1<L[m].lv
    ·by_cases cJ:0<L[m].kid k
     ·obtain⟨r1,r2⟩:=q3 aT cJ;obtain⟨c,hc⟩:∃c:Nat,L[m].kid k=((c+1:Nat):Int):=⟨(L[m].kid k-1).toNat,by omega⟩;have aG:c<L.length:=by omega
      have hy:=r2 L[c] (by rw[show (L[m].kid k-1).toNat=c from by omega];exact UG aG);have hi2:=ih (c+1) d o (by omega) (by omega) (by rw[BD aG];omega) (by omega) dL;have eT:((c+1:Nat):Int)>0:=by omega
      rw[if_pos ⟨aT,cJ⟩];simp only[GMw,Au,Ah,AF,UJ,Nat.add_zero,UW,Cy,aT,cP,A4 hm,Au,ER hk,Ez hk,hc,eT,hi2,gt_iff_lt,zXl,Sh.f36,aM]
     ·rw[if_neg (λh=>cJ h.2)];simp only[GMw,Au,Ah,AF,UJ,Nat.add_zero,UW,Cy,aT,cP,A4 hm,Au,ER hk,Ez hk,cJ,gt_iff_lt,Sh.f36,aM]
    ·rw[if_neg (λh=>aT h.1)];simp only[GMw,Au,Ah,AF,UJ,Nat.add_zero,UW,Cy,aT,gt_iff_lt,Sh.f36,aM]
   ·have hf:¬(((4:Nat):Int)<4):=by decide
    have dL:Nv L.length (NB (Im L v) L[m] 4 out):=LW (λo=>Nv L.length o) ho (λk o hk aT cJ hP=>by
     obtain⟨q1,q2,q3⟩:=l3 k hk;have:=(q3 aT cJ).1;exact (QU hl v (L[m].kid k).toNat o (by omega) (by omega) hP).1) 4 (by omega)
    have hle:=MH _ _ dL;unfold Sh.f5k;simp only[GMw,hf,build_N,append_outN (show (NB (Im L v) L[m] 4 out).length<17592186044415 by omega)]
def Bv (L:List Nd):List Ab:=[.sl (enL cNd L) .no]
def Ef (L:List Nd):Ab:=.agg (Bv L)
def Cd (L:List Nd):Int:=(Bf L (L.length:Int)).lv
def RM (L:List Nd):List Nat:=Im L (Cd L).toNat L.length []
def dupB (L:List Nd):Bool:=(List.range L.length).all λi=>!((AE L).getD (i+1) true)&&(List.range i).all λk=>decide (L.getD i ⟨0,0,0,0,0⟩≠L.getD k ⟨0,0,0,0,0⟩)
def orderB (L:List Nd):Bool:=(List.range (RM L).length).all (λi=>decide ((RM L).getD i 0=i+1))&&decide ((RM L).length=L.length)
def Hv (L:List Nd):Bool:=
 decide (L=[])||(AV L && !(F0 L L.length)&&dupB L&&orderB L)
theorem boxQuad (L:List Nd)(tk:Tok)(H:Aa):Bu true 1 (.agg [.sl (enL cNd L) tk]) H=some (.ptr H.length 0 0,H++[.cel 0 [.sl (enL cNd L) tk]]):=Cz rfl rfl
theorem q05_right (L:List Nd)(tk:Tok)(H:Aa)(hL:L.length<17592186044415):Sh.f5p (.agg [.sl (enL cNd L) tk]) H=some (.ret (.bool (Hv L)),H):=by
 unfold Sh.f5p;simp only[GMw,Au,Ah,AF,UJ,Nat.add_zero,UW,Cy,boxQuad,EH,Hf,zXh,Ay];by_cases h0:L=[]
 ·subst h0;simp[Hv]
 ·have hlen:L.length≠0:=λh=>h0 (UZ h);have eF:¬((L.length:Int)=0):=by omega
  have hq:Hv L=(AV L && !(F0 L L.length)&&dupB L&&orderB L):=by simp[Hv,h0]
  simp only[GMw,eF,TT L tk _ (show L.length<1152921504606846976 by omega)];cases hl:AV L with
  | false=>simp[hq,hl]
  | true=>
   simp only[GMw,Ay,R5 L tk L.length _ (show L.length<140737488355327 by omega) hl (UK _)];cases hh:F0 L L.length with
   | true=>simp[hq,hh]
   | false=>
    simp only[GMw,Ja L tk _ (show L.length<140737488355327 by omega) hl];rw[hq,hl,hh];simp only[GMw];generalize hB:H++[.cel 0 [.sl (enL cNd L) tk]]=B;have hfin:∀(v:Bool) (G:Aa),rP H (.bool v) (B++G)=some (.ret (.bool v),H):=λv G=>by rw[<-hB,UP];exact Fv
    have mX:∀(v:Bool),rP H (.bool v) B=some (.ret (.bool v),H):=λv=>by rw[<-hB];exact Fv
    have key:=FL (G:=λrec1 vs H1=>Sh.f5o H rec1 (ag vs 0) (ag vs 1) (ag vs 2) H1) L.length (λi=>!((AE L).getD (i+1) true)&&(List.range i).all λk=>decide (L.getD i ⟨0,0,0,0,0⟩≠L.getD k ⟨0,0,0,0,0⟩))
     (λi=>[.sl (enL cNd L) tk,.sl (enL cB (AE L)) .no,.i6 (i:Int)]) B (some (.ret (.bool (orderB L)),H)) (some (.ret (.bool false),H)) (by omega) (λrec i hi=>?_) (λrec=>?_)
    ·refine key.trans ?_;rw[show dupB L=(List.range L.length).all λi=>!((AE L).getD (i+1) true)&&(List.range i).all λk=>decide (L.getD i ⟨0,0,0,0,0⟩≠L.getD k ⟨0,0,0,0,0⟩) from rfl];cases (List.range L.length).all λi=>!((AE L).getD (i+1) true)&&(List.range i).all λk=>decide (L.getD i ⟨0,0,0,0,0⟩≠L.getD k ⟨0,0,0,0,0⟩) <;> simp only[GMw]
    ·have aF:(i:Int)<(L.length:Int):=by omega
     have hlt:i+1<(AE L).length:=by rw[DF];omega
     have aM:IntKind.i64.wrap ((i:Int)+1)=((i+1:Nat):Int):=As (by omega);have eQ:(AE L).getD (i+1) true=(AE L)[i+1]:=by rw[UN,UG hlt];rfl
     unfold Sh.f5o;simp only[GMw,Au,Ah,AF,UJ,Nat.add_zero,UW,Cy,Ay,aF,aM,A4 hlt,zXh,eQ];cases (AE L)[i+1]with
     | true=>simp only[GMw,mX]
     | false=>
      simp only[GMw];refine FL (G:=λaA vs H1=>Sh.f5m H rec aA (ag vs 0) (ag vs 1) (ag vs 2) (ag vs 3) H1) i (λk=>decide (L.getD i ⟨0,0,0,0,0⟩≠L.getD k ⟨0,0,0,0,0⟩))
       (λk=>[.sl (enL cNd L) tk,.sl (enL cB (AE L)) .no,.i6 (i:Int),.i6 (k:Int)]) B _ _ (by omega) (λaA k hk=>?_) (λaA=>?_)
      ·have hk':(k:Int)<(i:Int):=by omega
       have bV:k<L.length:=by omega
       unfold Sh.f5m;simp only[GMw,hk',A4 hi,A4 bV,Je,eq_nd,mX,As (show k<9223372036854775807 by omega)];simp only[UN,UG hi,UG bV,Option.getD_some];by_cases he:L[i]=L[k]
       ·simp only[he,ne_eq,not_true_eq_false,GMw]
       ·simp only[he,ne_eq,not_false_eq_true,GMw]
      ·unfold Sh.f5m;simp only[GMw,V3,aM]
    ·unfold Sh.f5o;have hm:L.length-1<L.length:=by omega
     have tL:L.length=L.length-1+1:=by omega
     have aT:(Bf L (L.length:Int)).lv=((Cd L).toNat:Int):=by
      have:=(AW hl hm).1;unfold Cd;rw[tL,BD hm];omega
     have aO:Sh.fj AM (.sl (enL cNd L) tk) (.i6 (L.length:Int)) (.sl [] .ti) B=some (.ret (DD cN B (Im L (Cd L).toNat L.length [])),DC cN EV 1 B (Im L (Cd L).toNat L.length [])):=q05_end tk B hL hl (Cd L).toNat L.length AM [] (by omega) (UK _) aT (by
      have:=(AW hl hm).2.1;rw[CQ];unfold Cd;rw[tL,BD hm];omega) ⟨by simp,by simp⟩
     have hok:=(QU hl (Cd L).toNat L.length [] (by omega) (UK _) ⟨by simp,by simp⟩).1;have hol:=MH _ _ hok;obtain⟨G,hG⟩:=FV (f:=cN) (ty:=EV) (sz:=1) B (Im L (Cd L).toNat L.length []);simp only[GMw,Ay,V3,aO,hG,EP];have qD:RM L=Im L (Cd L).toNat L.length []:=rfl;rw[<-qD]at hol ⊢;unfold orderB;generalize RM L=o at hol ⊢;have key:=FL (G:=λdJ vs H1=>Sh.f5n H dJ (ag vs 0) (ag vs 1) (ag vs 2) H1) o.length (λi=>decide (o.getD i 0=i+1)) (λi=>[.sl (enL cNd L) tk,.sl (enL cN o) (outK B o),.i6 (i:Int)]) (B++G) (some (.ret (.bool (decide (o.length=L.length))),H)) (some (.ret (.bool false),H)) (by omega) (λrec i hi=>?_) (λrec=>?_)
     ·refine key.trans ?_;cases (List.range o.length).all (λi=>decide (o.getD i 0=i+1)) <;> simp only[GMw]
     ·have aF:(i:Int)<(o.length:Int):=by omega
      unfold Sh.f5n;simp only[GMw,Au,Ah,AF,UJ,Nat.add_zero,UW,Cy,Ay,aF,A4 hi,zXh,As (show i<9223372036854775807 by omega),hfin];simp only[UN,UG hi,Option.getD_some];by_cases he:o[i]=i+1
      ·have:(o[i]:Int)=((i+1:Nat):Int):=by omega
       simp only[zXc this,zXc he,GMw]
      ·have:¬(o[i]:Int)=((i+1:Nat):Int):=by omega
       simp only[zXd this,zXd he,GMw]
     ·have hd:decide ((o.length:Int)=(L.length:Int))=decide (o.length=L.length):=by rw[Va];simp;omega
      unfold Sh.f5n;simp only[GMw,Ay,V3,hfin,hd]
theorem TU (L:List Nd)(tk:Tok)(H:Aa)(hL:L.length<17592186044415):Sh.f3a (.agg [.sl (enL cNd L) tk]) H=some (.ret (.i6 (if L=[]then 0 else Cd L)),H):=by
 unfold Sh.f3a;simp only[GMw,Au,Ah,AF,UJ,Nat.add_zero,UW,Cy,boxQuad,EH,Hf,zXh,Ay];by_cases h0:L=[]
 ·subst h0;simp
 ·have hlen:L.length≠0:=λh=>h0 (UZ h);have eF:¬((L.length:Int)=0):=by omega
  have hm:L.length-1<L.length:=by omega
  have hw:IntKind.i64.wrap ((L.length:Int)-1)=((L.length-1:Nat):Int):=GX (by omega) (by omega);have ht:Cd L=L[L.length-1].lv:=by
   unfold Cd;rw[Fw (n:=L.length-1) (by omega) hm]
  simp only[h0,eF,GMw,Au,Ah,AF,UJ,Nat.add_zero,UW,Cy,hw,A4 hm,HS,ht]
abbrev nd0:Nd:=⟨0,0,0,0,0⟩
def Nd.setKid (x:Nd)(k:Nat)(c:Int):Nd:=match k with | 0=>{ x with k0:=c } | 1=>{ x with k1:=c } | 2=>{ x with k2:=c } | _=>{ x with k3:=c }
theorem setKid_lv (x:Nd)(k:Nat)(c:Int):(x.setKid k c).lv=x.lv:=by unfold Nd.setKid;split <;> rfl
theorem setKid_same (x:Nd){k:Nat}(c:Int)(h:k<4):(x.setKid k c).kid k=c:=by
 match k,h with
 | 0,_=>rfl
 | 1,_=>rfl
 | 2,_=>rfl
 | 3,_=>rfl
theorem G0 (x:Nd){k j:Nat}(c:Int)(h:k<4)(hj:j<4)(hne:j≠k):(x.setKid k c).kid j=x.kid j:=by
 match k,j,h,hj with
 | 0,1,_,_=>rfl
 | 0,2,_,_=>rfl
 | 0,3,_,_=>rfl
 | 1,0,_,_=>rfl
 | 1,2,_,_=>rfl
 | 1,3,_,_=>rfl
 | 2,0,_,_=>rfl
 | 2,1,_,_=>rfl
 | 2,3,_,_=>rfl
 | 3,0,_,_=>rfl
 | 3,1,_,_=>rfl
 | 3,2,_,_=>rfl
 | 0,0,_,_=>exact absurd rfl hne
 | 1,1,_,_=>exact absurd rfl hne
 | 2,2,_,_=>exact absurd rfl hne
 | 3,3,_,_=>exact absurd rfl hne
section
variable {H:Aa}{p k:Nat}{x:Nd}{cs cs':List Ab}
theorem HG (hg:H[p]? = some (.cel 0 (cNd x))):Ad true 5 (.ptr p 0 0) H=some (.agg (cNd x)):=by
 simp only[Ad,A1 hg,zXa,if_true];rfl
theorem Sb (hg:H[p]? = some (.cel 0 (cNd x))):Ad false 1 (.ptr p 0 0) H=some (.i6 x.lv):=by
 simp only[Ad,A1 hg,zXa,UM,if_false];rfl
theorem Ug (hg:H[p]? = some (.cel 0 (cNd x)))(h:k<4):Ad false 1 (.ptr p 0 (1+k)) H=some (.i6 (x.kid k)):=by
 simp only[Ad,A1 hg,zXa,UM,if_false];exact Ez h
theorem EW {c:Int}(hg:H[p]? = some (.cel 0 (cNd x)))(h:k<4):Ae 1 (.ptr p 0 (1+k)) (.i6 c) H=some (H.set p (.cel 0 (cNd (x.setKid k c)))):=by
 simp only[Ae,A1 hg,zXa,acells_int,B5 hg]
 match k,h with
 | 0,_=>rfl
 | 1,_=>rfl
 | 2,_=>rfl
 | 3,_=>rfl
theorem J5 (hg:H[p]? = some (.cel 0 cs))(hl:cs.length=5):Ae 5 (.ptr p 0 0) (.agg (cNd x)) H=some (H.set p (.cel 0 (cNd x))):=by
 simp only[Ae,A1 hg,zXa,UE,B5 hg,DB hl];rw[if_pos ⟨rfl,by omega⟩]
theorem HI {K:IntKind}{id g o:Nat}(h:k<4):B8 4 1 (.ptr id g o) (.int K (k:Int))=some (.ptr id g (o+k)):=by
 unfold B8;simp only[];rw[if_pos ⟨by omega,by omega⟩];simp

end
theorem OK (H:Aa):Ax (some [.i6 0,.i6 0,.i6 0,.i6 0,.i6 0]) H=some (.ptr H.length 0 0,H++[.cel 0 (cNd nd0)]):=alloc_eq rfl
theorem HL (L:List Nd):(AE L).getD 0 true=true:=by
 have key:∀(l:List Nd) (E:List Bool),E[0]? = some true->(l.foldl (λE x=>E++[O5 E x]) E)[0]? = some true:=by
  intro l
  induction l with
  | nil=>intro E h;exact h
  | cons a l ih=>intro E h;exact ih _ (by rw[UL (by cases E with | nil=>simp at h | cons e E=>simp)];exact h)
 rw[UN,show (AE L)[0]? = some true from key L [true] rfl];rfl
def JF (L:List Nd)(x:Nd)(k:Nat):Int:=if x.kid k=0 then 0 else (Bf L (x.kid k)).kid (3-k)
def FN (L:List Nd)(n:Nat):Nd:=⟨(Bf L n).lv-1,JF L (Bf L n) 0,JF L (Bf L n) 1,JF L (Bf L n) 2,JF L (Bf L n) 3⟩
def CU:Nat->List Nd->Nat->List Nd×Nat
 | 0,L,n=>(L,n)
 | f+1,L,n=>if F0 L n then CU f (L++[FN L n]) (L.length+1)else (L,n)
def El (L:List Nd)(n:Nat):List Nd×Nat:=
 if (AE L).getD n true then (L,0)else CU (Bf L n).lv.toNat L n
theorem innNd_kid (L:List Nd)(n:Nat){k:Nat}(h:k<4):(FN L n).kid k=JF L (Bf L n) k:=by
 match k,h with
 | 0,_=>rfl
 | 1,_=>rfl
 | 2,_=>rfl
 | 3,_=>rfl
theorem loose_snoc {L:List Nd}{x:Nd}(hl:AV L=true)(hx:Gw (L++[x]) L.length=true):AV (L++[x])=true:=by
 unfold AV;rw[Vb];intro i hi;have aF:i<L.length+1:=by simpa using hi
 by_cases h:i=L.length
 ·rw[h];exact hx
 ·have hlt:i<L.length:=by omega
  have h1:=Vb.1 hl i (by simpa using hlt);simp only[Gw,UL hlt,UG hlt,UU,Vb]at h1 ⊢;refine⟨h1.1,λk hk=>?_⟩;have h2:=h1.2 k hk;simp only[Dl,UU,zXe]at h2 ⊢;refine⟨h2.1,λq1 q2=>?_⟩;obtain⟨r1,r2⟩:=h2.2 q1 q2;refine⟨r1,λy hy=>?_⟩;rw[UL (by omega)]at hy;exact r2 y hy
theorem loose_ndOk {L:List Nd}{x:Nd}(h1:1<=x.lv)(h2:x.lv<=1329)(h3:∀k,k<4->0<=x.kid k/\(x.lv=1->x.kid k<=255)/\(1<x.lv->0<x.kid k->x.kid k<=L.length/\(Bf L (x.kid k)).lv=x.lv-1)):Gw (L++[x]) L.length=true:=by
 simp only[Gw,Vo (UK _),Vr,zXh,UU,zXe,Vb];refine⟨⟨h1,h2⟩,λk hk=>?_⟩;obtain⟨q1,q2,q3⟩:=h3 k (by simpa using hk);simp only[Dl,UU,zXe];refine⟨⟨q1,q2⟩,λr1 r2=>?_⟩;obtain⟨s1,s2⟩:=q3 r1 r2;refine⟨s1,λy hy=>?_⟩;have hlt:(x.kid k-1).toNat<L.length:=by omega
 rw[UL hlt,UG hlt]at hy;injection hy with hy;rw[<-hy,<-s2,Fw (n:=(x.kid k-1).toNat) (by omega) hlt]
theorem Pj {L:List Nd}(hl:AV L=true){n:Nat}(hn:n<L.length)(h2:2<=L[n].lv):AV (L++[FN L (n+1)])=true:=by
 obtain⟨l1,l2,l3⟩:=AW hl hn;have e:Bf L ((n+1:Nat):Int)=L[n]:=BD hn;have elv:(FN L (n+1)).lv=L[n].lv-1:=by show (Bf L ((n+1:Nat):Int)).lv-1=_;rw[e]
 refine loose_snoc hl (loose_ndOk (by omega) (by omega) λk hk=>?_);obtain⟨q1,q2,q3⟩:=l3 k hk;rw[innNd_kid L (n+1) hk,elv,e];unfold JF;by_cases hc:L[n].kid k=0
 ·rw[if_pos hc];exact⟨by omega,λ_=>by omega,λ_ h=>by omega⟩
 ·rw[if_neg hc];obtain⟨m,hm⟩:∃m:Nat,L[n].kid k=((m+1:Nat):Int):=⟨(L[n].kid k-1).toNat,by omega⟩;obtain⟨r1,r2⟩:=q3 (by omega) (by omega);have hml:m<L.length:=by omega
  have hy:=r2 L[m] (by rw[show (L[n].kid k-1).toNat=m from by omega];exact UG hml);obtain⟨y1,y2,y3⟩:=AW hl hml;rw[Fw hm hml];obtain⟨s1,s2,s3⟩:=y3 (3-k) (by omega);refine⟨s1,λh=>s2 (by omega),λh h0=>?_⟩;obtain⟨t1,t2⟩:=s3 (by omega) h0;refine⟨by omega,?_⟩;obtain⟨c,bX⟩:∃c:Nat,L[m].kid (3-k)=((c+1:Nat):Int):=⟨(L[m].kid (3-k)-1).toNat,by omega⟩;have aG:c<L.length:=by omega
  rw[Fw bX aG];have:=t2 L[c] (by rw[show (L[m].kid (3-k)-1).toNat=c from by omega];exact UG aG);omega
theorem Pk {L:List Nd}{n:Nat}(h:F0 L n=true):n≠0/\2<=(Bf L n).lv:=by
 simp only[F0,UU,zXe]at h;exact⟨h.1.1,h.1.2⟩
theorem UC {H G:Aa}{l:List Nd}{x:Nd}(h:l.length<3518437208883):AP AK 5 40 (.sl (enL cNd l) (.own H.length)) (.sl (enL cNd [x]) .ti) (H++.tok l.length AK 5::G)=some (.sl (enL cNd (l++[x])) (.own H.length),H++.tok (l.length+1) AK 5::G):=by
 have:=Fs (f:=cNd) (l:=l) (m:=[x]) (ty:=AK) (bytes:=40) (tk:=.ti) (H:=H++.tok l.length AK 5::G) (t:=H.length) (by simp) (by simp) (by simp;omega) (by simp;omega);rw[this];simp
def TL (f:Nat->Int)(x:Nd):Nat->Nd
 | 0=>x
 | k+1=>(TL f x k).setKid k (f k)
theorem TK (f:Nat->Int)(x:Nd):TL f x 4=⟨x.lv,f 0,f 1,f 2,f 3⟩:=rfl
theorem SK (z:Int):Az (some [.i6 0,.i6 0,.i6 0,.i6 0,.i6 0]) [(0,1,.i6 z)]=some (.agg (cNd ⟨z,0,0,0,0⟩)):=by
 simp[Az,Gp,Dc,cNd]
theorem q06_shrink (L:List Nd)(tk:Tok)(n:Nat)(H:Aa)(hL:L.length<3518437200000)(hl:AV L=true)(hn:n<=L.length) :
  Sh.f6v (.sl (enL cNd L) tk) (.i6 (n:Int)) H=some (.ret (.tup [.sl (enL cNd (El L n).1) .no,.i6 ((El L n).2:Int)]),H):=by
 unfold Sh.f6v;have hb:AL 5 []=some (.sl (enL cNd []) .ti):=rfl;rw[hb];by_cases h0:L=[]
 ·subst h0;have eB:n=0:=by simpa using hn
  subst eB;have ha:AP AK 5 40 (.sl (enL cNd []) .ti) (.sl (enL cNd []) tk) H=some (.sl (enL cNd []) .ti,H):=Ed (by simp[Cw,enL]);have he:=TV [] .ti 0 H (by simp) hl (UK _);simp only[GMw,ha,he,show (AE []).getD 0 true=true from rfl,LN,C9,B4,BO,II,CT,zXb]
  rfl
 ·have ha:AP AK 5 40 (.sl (enL cNd []) .ti) (.sl (enL cNd L) tk) H=some (.sl (enL cNd L) (.own H.length),H++[.tok L.length AK 5]):=by
   have:=CX (f:=cNd) (l:=[]) (m:=L) (ty:=AK) (bytes:=40) (tk:=tk) (H:=H) h0 (by simp;omega) (by simp;omega);simpa using this
  simp only[GMw,ha,TV L _ n _ (show L.length<140737488355327 by omega) hl hn];unfold El;cases sC:(AE L).getD n true with
  | true=>simp only[GMw,C6,C9,B4,BO,II,CT,zXb];rfl
  | false=>
   simp only[GMw];have aT:(Bf L n).lv<=1329:=by
    cases n with
    | zero=>exfalso;rw[HL]at sC;cases sC
    | succ m=>rw[BD hn];exact (AW hl hn).2.1
   have key:=AZ (G:=λrec1 vs H1=>Sh.f8a H rec1 (ag vs 0) (ag vs 1) H1) (σ:=List Nd×Nat×Aa) (λs=>AV s.1=true/\s.2.1<=s.1.length/\s.1.length+(Bf s.1 s.2.1).lv.toNat<3518437208883/\s.1.length+(Bf s.1 s.2.1).lv.toNat<3518437208883)
    (λs=>[.i6 (s.2.1:Int),.sl (enL cNd s.1) (.own H.length)]) (λs=>H++.tok s.1.length AK 5::s.2.2) (λs=>(Bf s.1 s.2.1).lv.toNat)
    (λs=>some (.ret (.tup [.sl (enL cNd (CU (Bf s.1 s.2.1).lv.toNat s.1 s.2.1).1) .no,.i6 ((CU (Bf s.1 s.2.1).lv.toNat s.1 s.2.1).2:Int)]),H)) (λs rec hs hrec=>?_) (L,n,[]) ⟨hl,hn,by dsimp only;omega,by dsimp only;omega⟩ (by dsimp only;omega)
   ·exact key
   ·obtain⟨M,i,G⟩:=s;obtain⟨hs1,lK,qE,uH⟩:=hs;simp only at hs1 lK qE uH hrec ⊢;unfold Sh.f8a;simp only[GMw,R5 M _ i _ (show M.length<140737488355327 by omega) hs1 lK];cases hh:F0 M i with
    | false=>
     have:CU (Bf M i).lv.toNat M i=(M,i):=by
      cases (Bf M i).lv.toNat with
      | zero=>rfl
      | succ f=>simp[CU,hh]
     simp only[GMw,this,C6,C9,B4,BO,II,CT,zXb]
    | true=>
     obtain⟨jJ,gV⟩:=Pk hh;obtain⟨m,rfl⟩:∃m,i=m+1:=⟨i-1,by omega⟩;have hm:m<M.length:=lK;obtain⟨l1,l2,l3⟩:=AW hs1 hm;have hx:Bf M ((m+1:Nat):Int)=M[m]:=BD hm;rw[hx]at gV qE hrec ⊢;have cP:IntKind.i64.wrap (((m+1:Nat):Int)-1)=(m:Int):=by rw[Ao] <;> omega
     have mK:IntKind.i64.wrap (M[m].lv-1)=M[m].lv-1:=Ao (by omega) (by omega);have jO:CU M[m].lv.toNat M (m+1)=CU (M[m].lv-1).toNat (M++[FN M (m+1)]) (M.length+1):=by
      rw[show M[m].lv.toNat=(M[m].lv-1).toNat+1 from by omega];simp only[CU,hh,if_true]
     generalize hB:H++.tok M.length AK 5::G=B;simp only[GMw,Au,Ah,AF,UJ,Nat.add_zero,UW,Cy,cP,A4 hm,mK,SK,OK,J5 (Ap (B:=B) (cs:=cNd nd0)) rfl,Ba];refine Cj (G:=λaA vs H1=>Sh.f6u H rec aA (ag vs 0) (ag vs 1) (ag vs 2) (ag vs 3) H1) 4 (λk=>[.i6 ((m+1:Nat):Int),.sl (enL cNd M) (.own H.length),.ptr B.length 0 0,.i6 (k:Int)]) (λk=>B++[.cel 0 (cNd (TL (JF M M[m]) ⟨M[m].lv-1,0,0,0,0⟩ k))]) _ (by decide) (λaA k hk=>?_) (λaA=>?_)
     ·have hk':(k:Int)<4:=by omega
      unfold Sh.f6u;have oI:=q05_inner M (.own H.length) m k (B++[.cel 0 (cNd (TL (JF M M[m]) ⟨M[m].lv-1,0,0,0,0⟩ k))]) (by omega) hs1 hm gV hk;simp only[GMw,hk',oI,Ah,UJ,HI hk,EW (Ap (B:=B)) hk,Ba,As (show k<9223372036854775807 by omega)]
      rfl
     ·have hf:¬(((4:Nat):Int)<4):=by decide
      have oN:(⟨M[m].lv-1,JF M M[m] 0,JF M M[m] 1,JF M M[m] 2,JF M M[m] 3⟩:Nd)=FN M (m+1):=by unfold FN;rw[hx]
      unfold Sh.f6u;rw[TK];simp only[GMw,hf,HG (Ap (B:=B)),Kb];rw[<-hB,UP,List.cons_append,UC (by omega)];simp only[GMw,Ay,UO,zXi,oN];have eH:(Bf (M++[FN M (m+1)]) ((M.length+1:Nat):Int)).lv=M[m].lv-1:=by
       rw[BD (by simp),show (M++[FN M (m+1)])[M.length]'(by simp)=FN M (m+1) from by simp];show (Bf M ((m+1:Nat):Int)).lv-1=_;rw[hx]
      have:=hrec (M++[FN M (m+1)],M.length+1,G++[.cel 0 (cNd (FN M (m+1)))]) ⟨Pj hs1 hm gV,by simp,by dsimp only;rw[eH];simp;omega,by dsimp only;rw[eH];simp;omega⟩ (by dsimp only;rw[eH];omega);simp only[UO,zXi]at this;rw[this,eH,jO]
def CH (l:List Nd)(x:Nd):Nat:=match (List.range l.length).find? (λi=>decide (l.getD i nd0=x))with | some i=>i+1 | none=>0
theorem Hk {l:List Nd}{x:Nd}{i:Nat}:CH l x=i+1↔l[i]? = some x/\∀j,j<i->l[j]? ≠ some x:=by
 unfold CH;constructor
 ·intro h;cases hf:(List.range l.length).find? (λi=>decide (l.getD i nd0=x))with
  | none=>rw[hf]at h;dsimp only at h;omega
  | some k=>
   rw[hf]at h;dsimp only at h;have hk:k=i:=by omega
   subst hk;rw[Xl]at hf;obtain⟨h1,h2,h3⟩:=hf;have hlt:k<l.length:=by simpa using h2
   simp only[zXe,UN,UG hlt,Option.getD_some]at h1;refine⟨by rw[UG hlt,h1],λj hj e=>?_⟩;have:=h3 j hj;simp only[UN,e,Option.getD_some,decide_true,Vp]at this;cases this
 ·rintro⟨h1,h2⟩;have hlt:i<l.length:=(UH.1 h1).1;have hf:(List.range l.length).find? (λi=>decide (l.getD i nd0=x))=some i:=by
   rw[Xl];refine⟨by simp[UN,h1],by simpa using hlt,λj hj=>?_⟩;have kU:j<l.length:=by omega
   have:=h2 j hj;rw[UG kU]at this;simp only[UN,UG kU,Option.getD_some,VG,decide_eq_false_iff_not];exact λe=>this (by rw[e])
  rw[hf]
theorem K0 {l:List Nd}{x:Nd}:CH l x=0↔x ∉ l:=by
 constructor
 ·intro h hx;obtain⟨i,hi,aI⟩:=Vn hx;unfold CH at h;cases hf:(List.range l.length).find? (λi=>decide (l.getD i nd0=x))with
  | none=>
   have:=WD.1 hf i (by simpa using hi);simp[UN,UG hi,aI]at this
  | some k=>rw[hf]at h;dsimp only at h;omega
 ·intro h;cases hf:CH l x with
  | zero=>rfl
  | succ i=>
   rw[Hk]at hf;exact absurd (Vj hf.1) h
theorem Ox {l m:List Nd}{x:Nd}(h:CH l x≠0):CH (l++m) x=CH l x:=by
 cases hf:CH l x with
 | zero=>exact absurd hf h
 | succ i=>
  rw[Hk]at hf ⊢;have hlt:i<l.length:=(UH.1 hf.1).1;refine⟨by rw[UL hlt];exact hf.1,λj hj=>?_⟩;rw[UL (by omega)];exact hf.2 j hj
theorem Uy {l:List Nd}{x:Nd}(h:CH l x=0):CH (l++[x]) x=l.length+1:=by
 rw[Hk];refine⟨by simp,λj hj e=>?_⟩;rw[UL hj]at e;exact K0.1 h (Vj e)
def D0 (out:List Nd)(x:Nd):List Nd×Nat:=if CH out x=0 then (out++[x],out.length+1)else (out,CH out x)
def Cf (rec:Nat->List Nd->List Nd×Nat)(x:Nd):Nat->List Nd->List Nd×Nd
 | 0,out=>(out,x)
 | k+1,out=>((rec (x.kid k).toNat (Cf rec x k out).1).1,(Cf rec x k out).2.setKid k ((rec (x.kid k).toNat (Cf rec x k out).1).2:Int))
def Bn (L:List Nd)(E:List Bool):Nat->Nat->List Nd->List Nd×Nat
 | 0,_,out=>(out,0)
 | v+1,n,out=>
  if E.getD n true then (out,0)
  else if 1<(Bf L n).lv then D0 (Cf (Bn L E v) (Bf L n) 4 out).1 (Cf (Bn L E v) (Bf L n) 4 out).2
  else D0 out (Bf L n)
theorem RD (out:List Nd)(x:Nd):0<(D0 out x).2:=by
 unfold D0;split
 ·simp
 ·dsimp only;omega
theorem RA (out:List Nd)(x:Nd):∃r,(D0 out x).1=out++r:=by
 unfold D0;split
 ·exact⟨_,rfl⟩
 ·exact⟨[],by simp⟩
theorem RE (out:List Nd)(x:Nd)(r:List Nd):D0 ((D0 out x).1++r) x=((D0 out x).1++r,(D0 out x).2):=by
 by_cases h:CH out x=0
 ·have h1:D0 out x=(out++[x],out.length+1):=by simp[D0,h]
  rw[h1];have h2:CH (out++[x]++r) x=out.length+1:=by rw[Ox (by rw[Uy h];omega),Uy h]
  dsimp only;unfold D0;rw[h2,if_neg (by omega)]
 ·have h1:D0 out x=(out,CH out x):=by simp[D0,h]
  rw[h1];dsimp only;unfold D0;rw[Ox h,if_neg h]
section
variable {L:List Nd}{E:List Bool}
theorem Si {rec:Nat->List Nd->List Nd×Nat}(hr:∀n out,∃r,(rec n out).1=out++r)(x:Nd):∀k out,∃r,(Cf rec x k out).1=out++r
 | 0,out=>⟨[],by simp[Cf]⟩
 | k+1,out=>by
  obtain⟨r,h⟩:=Si hr x k out;obtain⟨r',h'⟩:=hr (x.kid k).toNat (Cf rec x k out).1;exact⟨r++r',by simp only[Cf];rw[h',h];simp⟩
theorem Sj:∀v n out,∃r,(Bn L E v n out).1=out++r
 | 0,n,out=>⟨[],by simp[Bn]⟩
 | v+1,n,out=>by
  simp only[Bn];split
  ·exact⟨[],by simp⟩
  ·split
   ·obtain⟨r,h⟩:=Si (Sj v) (Bf L n) 4 out;obtain⟨r',h'⟩:=RA (Cf (Bn L E v) (Bf L n) 4 out).1 (Cf (Bn L E v) (Bf L n) 4 out).2;exact⟨r++r',by rw[h',h];simp⟩
   ·exact RA _ _
theorem IG:∀v n out r,Bn L E v n ((Bn L E v n out).1++r)=((Bn L E v n out).1++r,(Bn L E v n out).2)
 | 0,n,out,r=>by simp[Bn]
 | v+1,n,out,r=>by
  by_cases he:E.getD n true=true
  ·simp only[Bn,if_pos he]
  ·by_cases hl:1<(Bf L n).lv
   ·have e:∀o,Bn L E (v+1) n o=D0 (Cf (Bn L E v) (Bf L n) 4 o).1 (Cf (Bn L E v) (Bf L n) 4 o).2:=λo=>by simp only[Bn,if_neg he,if_pos hl]
    have key:∀k,k<=4->∀s,Cf (Bn L E v) (Bf L n) k ((Cf (Bn L E v) (Bf L n) k out).1++s)=((Cf (Bn L E v) (Bf L n) k out).1++s,(Cf (Bn L E v) (Bf L n) k out).2):=by
     intro k
     induction k with
     | zero=>intro _ s;simp[Cf]
     | succ k ih=>
      intro hk s;simp only[Cf];obtain⟨r',h'⟩:=Sj (L:=L) (E:=E) v ((Bf L n).kid k).toNat (Cf (Bn L E v) (Bf L n) k out).1;have hi:=ih (by omega) (r'++s);have ha:=IG v ((Bf L n).kid k).toNat (Cf (Bn L E v) (Bf L n) k out).1 s;rw[h']at ha ⊢;rw[UP,hi];rw[UP]at ha;dsimp only;rw[ha]
    obtain⟨r',h'⟩:=RA (Cf (Bn L E v) (Bf L n) 4 out).1 (Cf (Bn L E v) (Bf L n) 4 out).2;have ha:=RE (Cf (Bn L E v) (Bf L n) 4 out).1 (Cf (Bn L E v) (Bf L n) 4 out).2 r;rw[e,e];rw[h']at ha ⊢;rw[UP,key 4 (by omega)];dsimp only;rw[UP]at ha;exact ha
   ·have e:∀o,Bn L E (v+1) n o=D0 o (Bf L n):=λo=>by simp only[Bn,if_neg he,if_neg hl]
    rw[e,e];exact RE out (Bf L n) r

end
theorem q06_find (l:List Nd)(tk:Tok)(x:Nd)(H:Aa)(hl:l.length<1152921504606846975):Sh.f3p (.sl (enL cNd l) tk) (.agg (cNd x)) H=some (.ret (.i6 (CH l x:Int)),H):=by
 unfold Sh.f3p;rw[Cz (sz:=5) Fq rfl];simp only[GMw];have hp:(H++[Blk.cel 0 (cNd x)])[H.length]? = some (.cel 0 (cNd x)):=Ap;have key:=N5 (G:=λrec1 vs H1=>Sh.f6w H rec1 (ag vs 0) (ag vs 1) (ag vs 2) H1) l.length (λi=>decide (l.getD i nd0=x)) (λi=>[.sl (enL cNd l) tk,.ptr H.length 0 0,.i6 (i:Int)]) (H++[.cel 0 (cNd x)])
  (some (.ret (.i6 0),H)) (λi=>some (.ret (.i6 ((i+1:Nat):Int)),H)) (by omega) (λrec i hi=>?_) (λrec=>?_)
 ·refine key.trans ?_;unfold CH;cases (List.range l.length).find? (λi=>decide (l.getD i nd0=x)) <;> rfl
 ·have aF:(i:Int)<(l.length:Int):=by omega
  unfold Sh.f6w;simp only[GMw,Ay,aF,A4 hi,Je,HG hp,eq_nd,As (show i<9223372036854775807 by omega),HS];simp only[UN,UG hi,Option.getD_some];by_cases he:l[i]=x
  ·simp only[he,GMw]
  ·simp only[he,GMw]
 ·unfold Sh.f6w;simp only[GMw,Ay,V3,HS]
structure VS (b id:Nat)(out:List Nd)(D:List Nat)(v:Ab)(H:Aa):Prop where
 hv:(out=[]/\v=.sl [] .ti)\/∃t,b<=t/\v=.sl (enL cNd out) (.own t)/\H[t]? = some (.tok out.length AK 5)
 hd:H[id]? = some (.cel 0 (flat cN D))
structure Ext (b id:Nat)(H H':Aa):Prop where
 len:H.length<=H'.length
 cel:∀(i:Nat) (cs:List Ab),i≠id->H[i]? = some (.cel 0 cs)->H'[i]? = some (.cel 0 cs)
 old:∀i,i<b->H'[i]? = H[i]?
theorem Ext.refl (b id:Nat)(H:Aa):Ext b id H H:=⟨UK _,λ_ _ _ h=>h,λ_ _=>rfl⟩
theorem Ext.trans {b id:Nat}{H H1 H2:Aa}(h:Ext b id H H1)(h':Ext b id H1 H2):Ext b id H H2:=
 ⟨Vf h.len h'.len,λi cs hi hc=>h'.cel i cs hi (h.cel i cs hi hc),λi hi=>(h'.old i hi).trans (h.old i hi)⟩
theorem VS.sl {b id:Nat}{out:List Nd}{D:List Nat}{v:Ab}{H:Aa}(h:VS b id out D v H):∃tk,v=.sl (enL cNd out) tk:=by
 rcases h.hv with ⟨rfl,rfl⟩ | ⟨t,_,rfl,_⟩
 ·exact⟨_,rfl⟩
 ·exact⟨_,rfl⟩
theorem Ot {H:Aa}{i:Nat}{x:Blk}(B:Blk)(h:H[i]? = some x):(H++[B])[i]? = some x:=by
 have:=(UH.1 h).1;rw[UL this];exact h
theorem VS.snoc {b id:Nat}{out:List Nd}{D:List Nat}{v:Ab}{H:Aa}(h:VS b id out D v H)(B:Blk):VS b id out D v (H++[B]):=by
 refine⟨?_,Ot B h.hd⟩;rcases h.hv with h1 | ⟨t,h1,h2,h3⟩
 ·exact .inl h1
 ·exact .inr ⟨t,h1,h2,Ot B h3⟩
theorem Ext.snoc {b id:Nat}{H:Aa}(hb:b<=H.length)(B:Blk):Ext b id H (H++[B]):=
 ⟨by simp,λi cs _ h=>Ot B h,λi hi=>by rw[UL (by omega)]⟩
theorem VS.put {b id p:Nat}{out:List Nd}{D:List Nat}{v:Ab}{H:Aa}{c c':List Ab}(h:VS b id out D v H)(hp:H[p]? = some (.cel 0 c))(hne:p≠id):VS b id out D v (H.set p (.cel 0 c')):=by
 refine⟨?_,by rw[UI hne];exact h.hd⟩;rcases h.hv with h1 | ⟨t,h1,h2,h3⟩
 ·exact .inl h1
 ·refine .inr ⟨t,h1,h2,?_⟩;have:p≠t:=λe=>by rw[<-e,hp]at h3;cases h3
  rw[UI this];exact h3
theorem VS.app {b id:Nat}{out:List Nd}{D:List Nat}{v:Ab}{H:Aa}(h:VS b id out D v H)(hb:b<=H.length)(x:Nd)(hl:out.length<3518437208883) :
  ∃v' H',AP AK 5 40 v (.sl (enL cNd [x]) .ti) H=some (v',H')/\VS b id (out++[x]) D v' H'/\Ext b id H H':=by
 rcases h.hv with ⟨rfl,rfl⟩ | ⟨t,h1,rfl,h3⟩
 ·have:=CX (f:=cNd) (l:=[]) (m:=[x]) (ty:=AK) (bytes:=40) (tk:=.ti) (H:=H) (by simp) (by simp) (by simp);refine⟨_,_,this,⟨.inr ⟨H.length,hb,rfl,by simp⟩,Ot _ h.hd⟩,Ext.snoc hb _⟩
 ·have:=Fs (f:=cNd) (l:=out) (m:=[x]) (ty:=AK) (bytes:=40) (tk:=.ti) (H:=H) (t:=t) (by simp) h3 (by simp;omega) (by simp;omega);have iT:=(UH.1 h3).1;refine⟨_,_,this,⟨.inr ⟨t,h1,rfl,by simp[iT]⟩,?_⟩,⟨by simp,λi cs hi hc=>?_,λi hi=>?_⟩⟩
  ·have:t≠id:=λe=>by have:=h.hd;rw[<-e,h3]at this;cases this
   rw[UI this];exact h.hd
  ·have:t≠i:=λe=>by rw[<-e,h3]at hc;cases hc
   rw[UI this];exact hc
  ·rw[UI (by omega)]
structure VI (L out:List Nd)(D:List Nat):Prop where
 len:D.length=L.length+1
 cnt:out.length<=D.countP (λd=>decide (0<d))
 val:∀(n d:Nat),D[n]? = some d->0<d->Bn L (AE L) (Bf L n).lv.toNat n out=(out,d)
theorem VI.grow {L out r:List Nd}{D:List Nat}(h:∀(n d:Nat),D[n]? = some d->0<d->Bn L (AE L) (Bf L n).lv.toNat n out=(out,d)):∀(n d:Nat),D[n]? = some d->0<d->Bn L (AE L) (Bf L n).lv.toNat n (out++r)=(out++r,d):=by
 intro n d h1 h2;have h3:=h n d h1 h2;have:=IG (L:=L) (E:=AE L) (Bf L n).lv.toNat n out r
 rwa [h3]at this
theorem VI.le {L out:List Nd}{D:List Nat}(h:VI L out D):out.length<=L.length+1:=by
 have:=h.cnt;have:=List.countP_le_length (p:=λd:Nat=>decide (0<d)) (l:=D);have:=h.len;omega
theorem insF_lv {L:List Nd}{E:List Bool}{v n:Nat}{out:List Nd}(he:E.getD n true=false)(hl:1<(Bf L n).lv):Bn L E (v+1) n out=D0 (Cf (Bn L E v) (Bf L n) 4 out).1 (Cf (Bn L E v) (Bf L n) 4 out).2:=by
 simp only[Bn,he,UM,if_false,if_pos hl]
theorem insF_one {L:List Nd}{E:List Bool}{v n:Nat}{out:List Nd}(he:E.getD n true=false)(hl:¬1<(Bf L n).lv):Bn L E (v+1) n out=D0 out (Bf L n):=by
 simp only[Bn,he,UM,if_false,if_neg hl]
theorem insK_lv (rec:Nat->List Nd->List Nd×Nat)(x:Nd):∀k out,(Cf rec x k out).2.lv=x.lv
 | 0,out=>rfl
 | k+1,out=>by simp only[Cf,setKid_lv];exact insK_lv rec x k out
theorem insK_kid (rec:Nat->List Nd->List Nd×Nat)(x:Nd):∀k out j,k<=j->j<4->(Cf rec x k out).2.kid j=x.kid j
 | 0,out,j,_,_=>rfl
 | k+1,out,j,h1,h2=>by
  simp only[Cf];rw[G0 _ _ (by omega) h2 (by omega)];exact insK_kid rec x k out j (by omega) h2
theorem q06_visit {L:List Nd}(tk tk2:Tok)(b id:Nat)(hL:L.length<3518437208880)(hl:AV L=true):∀(v n d:Nat) (out:List Nd) (D:List Nat) (w:Ab) (H:Aa),n<=L.length->(n=0\/(Bf L n).lv.toNat=v)->v<d->b<=id->id<H.length->VS b id out D w H->VI L out D ->
  ∃H' D' w',Sh.fu d (.sl (enL cNd L) tk) (.sl (enL cB (AE L)) tk2) (.i6 (n:Int)) w (.ms id 0 0 (L.length+1) (L.length+1) 1 true) H=some (.ret (.tup [w',.ms id 0 0 (L.length+1) (L.length+1) 1 true,.i6 ((Bn L (AE L) v n out).2:Int)]),H') /\
   VS b id (Bn L (AE L) v n out).1 D' w' H'/\Ext b id H H'/\VI L (Bn L (AE L) v n out).1 D'/\∀j,n<j->D'[j]? = D[j]? := by
 intro v
 induction v with
 | zero=>
  intro n d out D w H hn hv hd tQ hid hVS hVI;have hb:b<=H.length:=by omega
  obtain⟨d,rfl⟩:∃e,d=e+1:=⟨d-1,by omega⟩;have eB:n=0:=by
   rcases hv with h | h
   ·exact h
   ·cases n with
    | zero=>rfl
    | succ m=>
     rw[BD (show m<L.length from hn)]at h;have:=(AW hl (show m<L.length from hn)).1;omega
  subst eB;have hlt:0<(AE L).length:=by rw[DF];omega
  have he:(AE L)[0]=true:=by have:=HL L;rw[UN,UG hlt]at this;exact this
  refine⟨H,D,w,?_,hVS,Ext.refl _ _ _,hVI,λ_ _=>rfl⟩;show Sh.f3q (Sh.fu d) _ _ _ _ _ _=_;unfold Sh.f3q;simp only[GMw,Au,Ah,AF,UJ,Nat.add_zero,UW,Cy,A4 hlt,zXh,he]
  rfl
 | succ v ih=>
  intro n d out D w H hn hv hd tQ hid hVS hVI;have hb:b<=H.length:=by omega
  obtain⟨d,rfl⟩:∃e,d=e+1:=⟨d-1,by omega⟩;have hlt:n<(AE L).length:=by rw[DF];omega
  have eQ:(AE L).getD n true=(AE L)[n]:=by rw[UN,UG hlt];rfl
  have hDn:n<D.length:=by rw[hVI.len];omega
  have hidx:=CS (sz:=1) (id:=id) (n:=L.length+1) (K:=.i64) (g:=0) (off:=0) (cap:=L.length+1) (ex:=true) (i:=n) (by omega);simp only[UJ,UW]at hidx;have hld:=Ih (f:=cN) (A1 hVS.hd) hDn;show ∃H' D' w',Sh.f3q (Sh.fu d) _ _ _ _ _ _=_/\_;unfold Sh.f3q;simp only[GMw,Au,Ah,AF,UJ,Nat.add_zero,UW,Cy,A4 hlt,zXh];cases he:(AE L)[n]with
  | true=>
   have e:Bn L (AE L) (v+1) n out=(out,0):=by simp only[Bn,eQ,he,if_true]
   rw[e];exact⟨H,D,w,by simp only[GMw];rfl,hVS,Ext.refl _ _ _,hVI,λ_ _=>rfl⟩
  | false=>
   rw[he]at eQ;simp only[GMw,hidx,hld,zXh];by_cases hpos:0<D[n]
   ·have hi:(D[n]:Int)>0:=by omega
    have aP:(Bf L n).lv.toNat=v+1:=by
     rcases hv with h | h
     ·exfalso;subst h;rw[HL]at eQ;cases eQ
     ·exact h
    have e:=hVI.val n D[n] (UG hDn) hpos;rw[aP]at e;rw[e];exact⟨H,D,w,by simp only[GMw,hi],hVS,Ext.refl _ _ _,hVI,λ_ _=>rfl⟩
   ·have hi:¬(D[n]:Int)>0:=by omega
    have hD0:D[n]=0:=by omega
    obtain⟨m,rfl⟩:∃m,n=m+1:=⟨n-1,by
     cases n with
     | zero=>rw[HL]at eQ;cases eQ
     | succ n=>rfl⟩
    have hm:m<L.length:=hn;have aP:(Bf L ((m+1:Nat):Int)).lv.toNat=v+1:=by
     rcases hv with h | h
     ·omega
     ·exact h
    obtain⟨l1,l2,l3⟩:=AW hl hm;have hx:Bf L ((m+1:Nat):Int)=L[m]:=BD hm;rw[hx]at aP;have cP:IntKind.i64.wrap (((m+1:Nat):Int)-1)=(m:Int):=by rw[Ao] <;> omega
    simp only[GMw,hi,cP,A4 hm,Je,OK,J5 (Ap (B:=H) (cs:=cNd nd0)) rfl,Ba];generalize hX:L[m]=x at l1 l2 l3 aP hx;have qK:H.length≠id:=by omega
    have loop:=G5 (G:=λrec1 vs H1=>Sh.f6x H (Sh.fu d) rec1 (ag vs 0) (ag vs 1) (ag vs 2) (ag vs 3) (ag vs 4) (ag vs 5) (ag vs 6) H1) (if 1<x.lv then 4 else 0)
     (λk vs Hc=>∃w' D',vs=[.sl (enL cNd L) tk,.sl (enL cB (AE L)) tk2,.i6 ((m+1:Nat):Int),w',.ms id 0 0 (L.length+1) (L.length+1) 1 true,.ptr H.length 0 0,.i6 (k:Int)]/\VS b id (Cf (Bn L (AE L) v) x k out).1 D' w' Hc/\Hc[H.length]? = some (.cel 0 (cNd (Cf (Bn L (AE L) v) x k out).2))/\Ext b id H Hc/\VI L (Cf (Bn L (AE L) v) x k out).1 D'/\(∀j,m<j->D'[j]? = D[j]?))
     (by split <;> decide) (λk vs Hc hk hI=>?_) (vs:=[.sl (enL cNd L) tk,.sl (enL cB (AE L)) tk2,.i6 ((m+1:Nat):Int),w,.ms id 0 0 (L.length+1) (L.length+1) 1 true,.ptr H.length 0 0,.i6 0]) (H:=H++[.cel 0 (cNd x)]) ⟨w,D,rfl,hVS.snoc _,by simp[Cf],Ext.snoc hb _,hVI,λ_ _=>rfl⟩
    ·obtain⟨vs',Hc,⟨w',D',rfl,hVS',hcell,hExt,hVI',hDD⟩,rec,aB⟩:=loop;rw[aB];unfold Sh.f6x;obtain⟨tkk,rfl⟩:=hVS'.sl;have hle:=hVI'.le;have xB:(A5 (.bool (decide (((if 1<x.lv then 4 else 0:Nat):Int)<4))) (.bool (decide (x.lv>1))) (.bool false))=some (.bool false):=by
      by_cases h:1<x.lv <;> simp[h]
     have lQ:(Cf (Bn L (AE L) v) x (if 1<x.lv then 4 else 0) out).2.lv=x.lv:=insK_lv _ _ _ _;have iV:Bn L (AE L) (v+1) (m+1) out=D0 (Cf (Bn L (AE L) v) x (if 1<x.lv then 4 else 0) out).1 (Cf (Bn L (AE L) v) x (if 1<x.lv then 4 else 0) out).2:=by
      by_cases h:1<x.lv
      ·rw[if_pos h,insF_lv eQ (by rw[hx];exact h),hx]
      ·rw[if_neg h,insF_one eQ (by rw[hx];exact h),hx];rfl
     have hpre:=Si (Sj (L:=L) (E:=AE L) v) x (if 1<x.lv then 4 else 0) out;rw[iV];have bZ:=IG (L:=L) (E:=AE L) (v+1) (m+1) out [];rw[Vl,iV]at bZ;generalize (Cf (Bn L (AE L) v) x (if 1<x.lv then 4 else 0) out)=io at *;obtain⟨o,y⟩:=io;dsimp only at hVS' hcell hVI' lQ hpre bZ hle ⊢;have bI:∀(A B:Out),(gk (.bool (decide (((if 1<x.lv then 4 else 0:Nat):Int)<4))) true (Ac 0 (.ptr H.length 0 0)) λx29=>gk (.bool (decide (((if 1<x.lv then 4 else 0:Nat):Int)<4))) true (Ad false 1 x29 Hc) λx30=>gk (.bool (decide (((if 1<x.lv then 4 else 0:Nat):Int)<4))) true (Af .none .gtr x30 (.i6 1)) λx31=>(A5 (.bool (decide (((if 1<x.lv then 4 else 0:Nat):Int)<4))) x31 (.bool false)).bind λx32=>Ak x32 A B)=B:=by
      intro A B;by_cases h:1<x.lv
      ·have hf:¬(((4:Nat):Int)<4):=by decide
       simp only[if_pos h,hf,GMw]
      ·have hf:(((0:Nat):Int)<4):=by decide
       have h':¬x.lv>1:=h;simp only[if_neg h,hf,GMw,Ah,Nat.add_zero,Sb hcell,lQ,h']
     simp only[An,Ai,Bq,BL];rw[bI];have rR:Aw 1 (.ms id 0 0 (L.length+1) (L.length+1) 1 true) (.i6 ((m+1:Nat):Int))=some (.ptr id 0 (m+1)):=hidx;have hD'n:D'[m+1]? = some 0:=by rw[hDD (m+1) (by omega),UG hDn,hD0]
     have hDl:m+1<D'.length:=by rw[hVI'.len];omega
     have hD'e:D'[m+1]=0:=by rw[UG hDl]at hD'n;injection hD'n
     have fin:∀(o':List Nd) (i:Nat) (w2:Ab) (H2:Aa),D0 o y=(o',i)->VS b id o' D' w2 H2->Ext b id H H2->VI L o D'->o'.length<=o.length+1->(∃r,o'=o++r) ->
       ∃H' D'' w'',Sh.f8b H (.i6 ((m+1:Nat):Int)) w2 (.ms id 0 0 (L.length+1) (L.length+1) 1 true) (.i6 (i:Int)) H2=some (.ret (.tup [w'',.ms id 0 0 (L.length+1) (L.length+1) 1 true,.i6 (i:Int)]),H')/\VS b id o' D'' w'' H'/\Ext b id H H'/\VI L o' D''/\∀j,m+1<j->D''[j]? = D[j]? := by
      intro o' i w2 H2 hp hV2 hE2 hI2 hlen ⟨r,hr⟩;have jJ:0<i:=by have:=RD o y;rw[hp]at this;exact this
      have hst:=DW (f:=cN) (sz:=1) (l:=D') (i:=m+1) (a:=i) (v:=.i6 (i:Int)) (A1 hV2.hd) hDl rfl;rw[B5 hV2.hd,UW]at hst;have lY:=(UH.1 hV2.hd).1;refine⟨H2.set id (.cel 0 (flat cN (D'.set (m+1) i))),D'.set (m+1) i,w2,by unfold Sh.f8b;simp only[GMw,rR,hst],⟨?_,by simp[lY]⟩,⟨by simp;exact hE2.len,λj cs hj hc=>?_,λj hj=>?_⟩,⟨by simp[hI2.len],?_,?_⟩,λj hj=>?_⟩
      ·rcases hV2.hv with h1 | ⟨t,h1,h2,h3⟩
       ·exact .inl h1
       ·refine .inr ⟨t,h1,h2,?_⟩;have:id≠t:=λe=>by have:=hV2.hd;rw[e,h3]at this;cases this
        rw[UI this];exact h3
      ·rw[UI (λe=>hj e.symm)];exact hE2.cel j cs hj hc
      ·rw[UI (by omega)];exact hE2.old j hj
      ·rw[List.countP_set hDl];have:=hI2.cnt;simp only[hD'e,jJ,decide_true,if_true,Nat.lt_irrefl,decide_false,UM,if_false,Nat.sub_zero];omega
      ·intro j dd hj mZ;by_cases xR:j=m+1
       ·subst xR;rw[UT hDl]at hj;injection hj with hj;subst hj;rw[hx,aP];rw[hp]at bZ;exact bZ
       ·rw[UI (λe=>xR e.symm)]at hj;rw[hr];exact VI.grow hI2.val j dd hj mZ
      ·rw[UI (by omega)];exact hDD j (by omega)
     have lN:=q06_find o tkk y Hc (by omega);simp only[GMw,HG hcell,lN];by_cases hf:CH o y=0
     ·have hp:D0 o y=(o++[y],o.length+1):=by simp[D0,hf]
      obtain⟨w2,H2,ha,hV2,hE2⟩:=hVS'.app (Vf hb hExt.len) y (by omega);obtain⟨tk3,rfl⟩:=hV2.sl;have h0:((CH o y:Nat):Int)=0:=by omega
      obtain⟨H',D'',w'',q1,q2,q3,q4,q5⟩:=fin (o++[y]) (o.length+1) _ H2 hp hV2 (hExt.trans hE2) hVI' (by simp) ⟨[y],rfl⟩;refine⟨H',D'',w'',?_,by rw[hp];exact q2,q3,by rw[hp];exact q4,q5⟩;rw[hp,<-q1];simp only[GMw,h0,Kb,ha,Ay,UO,zXi]
     ·have hp:D0 o y=(o,CH o y):=by simp[D0,hf]
      have h0:¬((CH o y:Nat):Int)=0:=by omega
      obtain⟨H',D'',w'',q1,q2,q3,q4,q5⟩:=fin o (CH o y) _ Hc hp hVS' hExt hVI' (by omega) ⟨[],by simp⟩;refine⟨H',D'',w'',?_,by rw[hp];exact q2,q3,by rw[hp];exact q4,q5⟩;rw[hp,<-q1];simp only[GMw,h0]
    ·obtain⟨w',D',rfl,hVS',hcell,hExt,hVI',hDD⟩:=hI;have aT:1<x.lv:=by
      by_cases h:1<x.lv
      ·exact h
      ·rw[if_neg h]at hk;omega
     rw[if_pos aT]at hk;obtain⟨q1,q2,q3⟩:=l3 k hk;have hk':(k:Int)<4:=by omega
     have lQ:=insK_lv (Bn L (AE L) v) x k out;have cJ:=insK_kid (Bn L (AE L) v) x k out k (UK _) hk;obtain⟨c,hc⟩:=VB q1;have Yc:c<=m:=by
      by_cases h0:0<x.kid k
      ·have:=(q3 aT h0).1;omega
      ·omega
     have wC:c=0\/(Bf L (c:Int)).lv.toNat=v:=by
      by_cases h0:0<x.kid k
      ·right;obtain⟨c',rfl⟩:∃c',c=c'+1:=⟨c-1,by omega⟩;have aG:c'<L.length:=by omega
       have:=(q3 aT h0).2 L[c'] (by rw[show (x.kid k-1).toNat=c' from by omega];exact UG aG);rw[BD aG];omega
      ·left;omega
     obtain⟨H1,D1,w1,r1,r2,r3,r4,r5⟩:=ih c d (Cf (Bn L (AE L) v) x k out).1 D' w' Hc (by omega) wC (by omega) tQ (VL hid hExt.len) hVS' hVI';have iD:=r3.cel _ _ qK hcell;have kR:(x.kid k).toNat=c:=by omega
     refine⟨[.sl (enL cNd L) tk,.sl (enL cB (AE L)) tk2,.i6 ((m+1:Nat):Int),w1,.ms id 0 0 (L.length+1) (L.length+1) 1 true,.ptr H.length 0 0,.i6 ((k+1:Nat):Int)],H1.set H.length (.cel 0 (cNd ((Cf (Bn L (AE L) v) x k out).2.setKid k ((Bn L (AE L) v c (Cf (Bn L (AE L) v) x k out).1).2:Int)))),⟨w1,D1,rfl,?_,?_,?_,?_,?_⟩,λrec=>?_⟩
     rotate_left 5
     ·unfold Sh.f6x;simp only[An,Ai,GMw,hk',Ah,Nat.add_zero,UJ,Sb hcell,lQ,show x.lv>1 from aT,HI hk,Ug hcell hk,cJ,hc,r1,Bt,Bz,Uz,EW iD hk,As (show k<9223372036854775807 by omega)]
     ·simp only[Cf,kR];exact r2.put iD qK
     ·have cT:=(UH.1 iD).1;simp only[Cf,kR];rw[UT cT]
     ·refine⟨by simp;exact (hExt.trans r3).len,λi cs hi hcs=>?_,λi hi=>?_⟩
      ·have:=(UH.1 hcs).1;rw[UI (by omega)];exact (hExt.trans r3).cel i cs hi hcs
      ·rw[UI (by omega)];exact (hExt.trans r3).old i hi
     ·simp only[Cf,kR];exact r4
     ·intro j hj;rw[r5 j (by omega)];exact hDD j hj
theorem Cm {H H0:Aa}(h:∀i,i<H0.length->H[i]? = H0[i]?):H.take H0.length=H0:=by
 apply VW;intro i;by_cases hi:i<H0.length
 ·rw[V9 hi,h i hi]
 ·rw[zYb (by simp;omega),zYb (by omega)]
theorem Rp:∀(f:Nat) (L:List Nd) (n:Nat),AV L=true->n<=L.length->AV (CU f L n).1=true/\(CU f L n).2<=(CU f L n).1.length/\(CU f L n).1.length<=L.length+f
 | 0,L,n,hl,hn=>⟨hl,hn,UK _⟩
 | f+1,L,n,hl,hn=>by
  unfold CU;cases hh:F0 L n with
  | false=>exact⟨hl,hn,by show L.length<=_;omega⟩
  | true=>
   obtain⟨h0,h2⟩:=Pk hh;obtain⟨m,rfl⟩:∃m,n=m+1:=⟨n-1,by omega⟩;rw[BD hn]at h2;obtain⟨r1,r2,r3⟩:=Rp f (L++[FN L (m+1)]) (L.length+1) (Pj hl hn h2) (by simp);simp only[if_true];refine⟨r1,r2,?_⟩;simp at r3;omega
theorem emp_pos {L:List Nd}{n:Nat}(h:(AE L).getD n true=false):0<n:=by
 cases n with
 | zero=>rw[HL]at h;cases h
 | succ n=>omega
theorem Qg {L:List Nd}(hl:AV L=true){n:Nat}(h0:0<n)(hn:n<=L.length):(Bf L (n:Int)).lv.toNat<=1329:=by
 obtain⟨m,rfl⟩:∃m,n=m+1:=⟨n-1,by omega⟩;rw[BD hn];have:=(AW hl hn).2.1;omega
theorem TG {L:List Nd}{n:Nat}(hl:AV L=true)(hn:n<=L.length):AV (El L n).1=true/\(El L n).2<=(El L n).1.length/\(El L n).1.length<=L.length+1329:=by
 unfold El;cases he:(AE L).getD n true with
 | true=>exact⟨hl,Ve _,by show L.length<=_;omega⟩
 | false=>
  obtain⟨r1,r2,r3⟩:=Rp (Bf L n).lv.toNat L n hl hn;have:=Qg hl (emp_pos he) hn;simp only[UM,if_false];exact⟨r1,r2,by omega⟩
def PI (L:List Nd)(n:Nat):List Nd:=(Bn (El L n).1 (AE (El L n).1) (Bf (El L n).1 ((El L n).2:Int)).lv.toNat (El L n).2 []).1
def ofOk (L:List Nd)(n:Int):Bool:=AV L&&decide (0<=n)&&decide (n<=L.length)
theorem q06_of (L:List Nd)(tk:Tok)(n:Int)(H:Aa)(hL:L.length<3518437200000):Sh.f6y (.sl (enL cNd L) tk) (.i6 n) H =
  some (.ret (if ofOk L n then .tup [Ef (PI L n.toNat),.i6 0]else .tup [Ef [],.i6 1]),H):=by
 unfold Sh.f6y;rw[alloc_eq (cs:=[.sl [] .ti]) rfl];have hcell:∀G:Aa,(H++[Blk.cel 0 [.sl [] .ti]]++G)[H.length]? = some (.cel 0 [.sl [] .ti]):=λG=>by simp
 have bad:∀(k:Ab->Aa->Out),(∀v G,k v G=(Cv [Ad true 1 (.ptr H.length 0 0) G,some (.i6 1)]).bind λx19=>rPN H x19 G) ->
   ((Az (some [(.sl [] .ti)]) []).bind λx16=>bP H (Av (Ae 1 (.ptr H.length 0 0) x16 (H++[.cel 0 [.sl [] .ti]]))) k)=some (.ret (.tup [Ef [],.i6 1]),H):=by
  intro k hk;have hb:Az (some [(.sl [] .ti)]) []=some (.agg [.sl [] .ti]):=rfl;simp only[GMw,hb,I8,J6 (sz:=1) (cs:=[.sl [] .ti]) (vs:=[.sl [] .ti]) (v:=.agg [.sl [] .ti]) rfl rfl rfl,zXb,hk,EH,RZ,zXi,FU,D6,E7];simp only[C6,C9,B4,BO,Hj,Fk,Gg,IJ,CT,GMw,zXb]
  rfl
 simp only[GMw,TT L tk _ (show L.length<1152921504606846976 by omega)];unfold ofOk;cases hl:AV L with
 | false=>
  simp only[GMw];exact bad _ λv G=>rfl
 | true=>
  simp only[GMw,Ay];by_cases eB:n<0
  ·have:¬0<=n:=by omega
   simp only[GMw,eB,this];exact bad _ λv G=>rfl
  ·have eF:0<=n:=by omega
   by_cases iN:n>L.length
   ·have:¬n<=L.length:=by omega
    simp only[GMw,eB,eF,iN,this,Ay];exact bad _ λv G=>rfl
   ·obtain⟨n,rfl⟩:=VB eF;have hle:n<=L.length:=by omega
    have iX:(n:Int)<=(L.length:Int):=by omega
    have vA:¬(n:Int)>(L.length:Int):=iN;obtain⟨s1,s2,s3⟩:=TG hl hle;simp only[GMw,eB,eF,vA,iX,Ay,q06_shrink L tk n _ (show L.length<3518437200000 by omega) hl hle,Bt,Bz];unfold PI;simp only[zXl];generalize El L n=s at s1 s2 s3;obtain⟨M,r⟩:=s;dsimp only at s1 s2 s3 ⊢;have dA:=Fx (f:=cN) (a:=0) (n:=M.length+1) (bytes:=8) (H:=H++[.cel 0 [.sl [] .ti]]) (by omega) (by omega);simp only[show cN 0=[Ab.i6 0] from rfl]at dA;simp only[GMw,Ja M .no _ (show M.length<140737488355327 by omega) s1,Ay,As (show M.length<9223372036854775807 by omega),dA];have oA:(Bf M (r:Int)).lv.toNat<AM:=by
     rw[CQ];by_cases hr:0<r
     ·have:=Qg s1 hr s2;omega
     ·obtain rfl:r=0:=by omega
      unfold Bf;rw[UN];by_cases hM:0<M.length
      ·rw[show (((0:Nat):Int)-1).toNat=0 from rfl,UG hM];have:=(AW s1 hM).2.1;simp only[Option.getD_some];omega
      ·rw[show (((0:Nat):Int)-1).toNat=0 from rfl,zYb (by omega)];simp
    obtain⟨H',D',w',v1,v2,v3,v4,v5⟩:=q06_visit (L:=M) .no .no (H++[Blk.cel 0 [.sl [] .ti]]).length (H++[Blk.cel 0 [.sl [] .ti]]).length (by omega) s1 (Bf M (r:Int)).lv.toNat r AM [] (List.replicate (M.length+1) 0) (.sl [] .ti) (H++[.cel 0 [.sl [] .ti]]++[.cel 0 (flat cN (List.replicate (M.length+1) 0))])
     s2 (.inr rfl) oA (UK _) (by simp) ⟨.inl ⟨rfl,rfl⟩,Ap⟩ ⟨by simp,by simp,λj dd hj mZ=>by
      have:=Vj hj;rw[Xb]at this;omega⟩
    have hold:∀i,i<H.length+1->H'[i]? = (H++[Blk.cel 0 [.sl [] .ti]])[i]? := λi hi=>by
     rw[v3.old i (by simpa using hi),UL (by simpa using hi)]
    have bX:H'[H.length]? = some (.cel 0 [.sl [] .ti]):=by rw[hold _ (by omega)];simp
    have aG:=(UH.1 bX).1;obtain⟨tk3,rfl⟩:=v2.sl;generalize (Bn M (AE M) (Bf M (r:Int)).lv.toNat r []).1=Q at v1 v2 v4 ⊢;have hb:Az (some [(.sl [] .ti)]) [(0,1,.sl (enL cNd Q) tk3)]=some (.agg [.sl (enL cNd Q) tk3]):=by simp[Az,Gp,Dc]
    have hst:Ae 1 (.ptr H.length 0 0) (.agg [.sl (enL cNd Q) tk3]) H'=some (H'.set H.length (.cel 0 [.sl (enL cNd Q) tk3])):=by
     simp only[Ae,A1 bX,zXa,B5 bX];rfl
    have hld:Ad true 1 (.ptr H.length 0 0) (H'.set H.length (.cel 0 [.sl (enL cNd Q) tk3]))=some (.agg [.sl (enL cNd Q) tk3]):=by
     have:(H'.set H.length (.cel 0 [.sl (enL cNd Q) tk3]))[H.length]? = some (.cel 0 [.sl (enL cNd Q) tk3]):=by rw[UT aG]
     simp only[Ad,A1 this,zXa];rfl
    have bB:(H'.set H.length (.cel 0 [.sl (enL cNd Q) tk3])).take H.length=H:=Cm λi hi=>by
     rw[UI (by omega),hold i (by omega),UL hi]
    simp only[GMw,v1,Bt,hb,hst,hld,FU,D6,E7,zXb,Fa bB,C9,B4,BO,Hj,Fk,Gg,IJ,CT]
    rfl
theorem q01_cut (l:List Bool)(tk:Tok)(H:Aa)(hb:l.length<1152921504606846976):Sh.f27 (.sl (enL cB l) tk) H=some (.ret (.sl (enL cB (D4 l)) .no),H):=by
 unfold Sh.f27;refine AZ (σ:=List Bool×Tok) (λs=>s.1.length<1152921504606846976) (λs=>[.sl (enL cB s.1) s.2]) (λ_=>H) (λs=>s.1.length) (λs=>some (.ret (.sl (enL cB (D4 s.1)) .no),H)) (λs rec hs hrec=>?_) (l,tk) hb hb;obtain⟨l,tk⟩:=s;simp only at hs hrec ⊢;unfold Sh.f5r;rcases Ha l with rfl | ⟨l',b,rfl⟩
 ·simp[cutL_nil]
 ·simp only[UO,zXi]at hs hrec;have h1:l'.length<(l'++[b]).length:=by simp
  have h2:((((l'++[b]).length:Nat):Int)>0):=by simp
  have h3:IntKind.i64.wrap ((((l'++[b]).length:Nat):Int)-1)=(l'.length:Int):=by rw[Ao] <;> simp <;> omega
  simp only[An,Ay,zXa,Dz,h2,decide_true,Ji,Dy,h3,A4 h1,AF,zXh,Jn,CI,VK (UK _),Vr,List.getElem_cons_zero];cases b with
  | true=>simp[PE]
  | false=>
   have:=hrec (l',FG tk 0 l'.length (l'++[false]).length false) (by dsimp only;omega) (by simp);simp only[V0,AU,Ro (X6 h1),zXa,List.take_left',this,ND]
theorem q01_at (l:List Bool)(tk:Tok)(i:Int)(H:Aa):Sh.f8 (.sl (enL cB l) tk) (.i6 i) H=some (.ret (.bool (decide (0<=i)&&l.getD i.toNat false)),H):=by
 unfold Sh.f8;by_cases h0:0<=i
 ·obtain⟨n,rfl⟩:=VB h0;by_cases h1:n<l.length
  ·have h2:(n:Int)<(l.length:Int):=by omega
   simp[h2,A4 h1,UN,UG h1]
  ·have h2:¬(n:Int)<(l.length:Int):=by omega
   simp[h2,UN,zYb (Nat.le_of_not_lt h1)]
 ·simp[h0]
theorem HD (l:List Nat)(tk:Tok)(H:Aa)(hl:l.length<=2199023255552)(hx:Lim l):Sh.f6 (.sl (enL cU l) tk) H=some (.ret (.sl (enL cB (D4 (AQ l))) .no),H):=by
 unfold Sh.f6;refine Cj l.length (λi=>[.sl (enL cU l) tk,DD cB H (AQ (l.take i)),.i6 (i:Int)]) (λi=>DC cB Ci 1 H (AQ (l.take i))) _ (by omega) (λrec i hi=>?_) (λrec=>?_)
 ·have aF:(i:Int)<(l.length:Int):=by omega
  have aI:l[i]<4294967296:=hx _ (UV hi);have htk:AQ (l.take (i+1))=AQ (l.take i)++D5 32 l[i]:=by
   rw[UR hi,AQ,List.flatMap_append];simp[AQ]
  have hlen:(AQ (l.take i)).length<=32*2199023255552:=by rw[C5];simp;omega
  unfold Sh.f37;simp only[An,Bb,Bd,Ay,zXa,Bq,aF,decide_true,AU,A4 hi,AF,zXh,htk];generalize AQ (l.take i)=o at hlen;generalize l[i]=x at aI;refine AZ (σ:=Nat×Nat×List Bool) (λs=>s.1<=32/\s.2.1<4294967296/\s.2.2.length<=o.length+s.1) (λs=>[.sl (enL cU l) tk,DD cB H s.2.2,.i6 (i:Int),.int .u32 (s.2.1:Int),.i6 (s.1:Int)]) (λs=>DC cB Ci 1 H s.2.2) (λs=>32-s.1)
   (λs=>rec [.sl (enL cU l) tk,DD cB H (s.2.2++D5 (32-s.1) s.2.1),.i6 ((i+1:Nat):Int)] (DC cB Ci 1 H (s.2.2++D5 (32-s.1) s.2.1))) (λs aA hs hrec=>?_) (0,x,o) ⟨by dsimp only;omega,aI,by dsimp only;omega⟩ (by dsimp only;omega)
  obtain⟨k,y,p⟩:=s;obtain⟨hk,hy,hp⟩:=hs;simp only at hk hy hp hrec ⊢;unfold Sh.f7u;by_cases h:k<32
  ·have h':(k:Int)<32:=by omega
   have e1:(y:Int).tmod 2=((y%2:Nat):Int):=rfl;have e2:IntKind.u32.wrap ((y:Int).tdiv 2)=((y / 2:Nat):Int):=by rw[show (y:Int).tdiv 2=((y / 2:Nat):Int) from rfl,CP] <;> omega
   have e3:(((y%2:Nat):Int) == 1)=(y%2 == 1):=by rw[Va];simp only[beq_iff_eq];omega
   have e4:IntKind.i64.wrap ((k:Int)+1)=((k+1:Nat):Int):=by rw[Ao] <;> omega
   have:=hrec (k+1,y / 2,p++[y%2 == 1]) ⟨h,by dsimp only;omega,by simp;omega⟩ (by dsimp only;omega);simp only[An,Bb,Bd,B7,Cb,Bq,h',decide_true,zXa,AU,Is (show (2:Int)≠0 by decide),OI (show (2:Int)≠0 by decide),e1,e2,DV,e3,Rc];rw[Du (by simp) (by simp;omega) (by simp;omega)];simp only[Dr,CC,CK,zXa,e4,this];rw[show 32-k=(32-(k+1))+1 from by omega,D5];simp
  ·have:k=32:=by omega
   subst this;have e4:IntKind.i64.wrap ((i:Int)+1)=((i+1:Nat):Int):=by rw[Ao] <;> omega
   simp[D5,e4]
 ·unfold Sh.f37;obtain⟨G,hG⟩:=FV (f:=cB) (ty:=Ci) (sz:=1) H (AQ l);rw[US (UK _)];simp only[An,Bb,Bd,EP,hG,Ay,zXa,Bq,V3,decide_false,AO,q01_cut (AQ l) _ _ (by rw[C5];omega),CC,C6,Hx,zXb]
theorem R8 (l:List Bool)(tk:Tok)(H:Aa)(hl:l.length<=70368744177664):Sh.fs (.sl (enL cB l) tk) H=some (.ret (.sl (enL cU (A6 (Bp l))) .no),H):=by
 unfold Sh.fs;have aG:=In l;rw[q01_cut l tk H (by omega),<-limbsOf_eq,Kv];simp only[CC];generalize D4 l=c at aG;obtain⟨n,hn⟩:∃n,n=(c.length+31) / 32:=⟨_,rfl⟩;rw[<-hn];refine Cj n (λq=>[.sl (enL cB c) .no,DD cU H (Es c q),.i6 ((32*q:Nat):Int)]) (λq=>DC cU BA 1 H (Es c q)) _ (by omega) (λrec q hq=>?_) (λrec=>?_)
 ·have iK:((32*q:Nat):Int)<(c.length:Int):=by omega
  unfold Sh.f5s;simp only[An,Bb,Bd,Ay,zXa,Bq,iK,decide_true,AU];have hlo:(Es c q).length=q:=LS c q;rw[Ku];generalize Es c q=o at hlo;refine AZ (σ:=Nat) (λj=>j<=min 32 (c.length-32*q)) (λj=>[.sl (enL cB c) .no,DD cU H o,.i6 ((32*q:Nat):Int),.int .u32 ((Bp ((c.drop (32*q)).take j):Nat):Int),.int .u32 (IntKind.u32.wrap ((2:Int)^j)),.i6 ((32*q+j:Nat):Int)]) (λ_=>DC cU BA 1 H o) (λj=>32-j)
   (λ_=>rec [.sl (enL cB c) .no,DD cU H (o++[G8 c q]),.i6 ((32*(q+1):Nat):Int)] (DC cU BA 1 H (o++[G8 c q]))) (λj aA hj hrec=>?_) 0 (by omega) (by omega)
  unfold Sh.f8m;have hw:IntKind.i64.wrap (((32*q:Nat):Int)+32)=((32*(q+1):Nat):Int):=by rw[Ao] <;> omega
  by_cases h:j<min 32 (c.length-32*q)
  ·have h1:((32*q+j:Nat):Int)<(c.length:Int):=by omega
   have eO:32*q+j<c.length:=by omega
   have h2:((32*q+j:Nat):Int)<((32*(q+1):Nat):Int):=by omega
   have cA:IntKind.i64.wrap (((32*q+j:Nat):Int)+1)=((32*q+(j+1):Nat):Int):=by rw[Ao] <;> omega
   have bB:(c.drop (32*q)).take (j+1)=(c.drop (32*q)).take j++[c[32*q+j]]:=by
    rw[UR (by simp;omega)];simp
   have hlen:((c.drop (32*q)).take j).length=j:=by simp;omega
   have vD:Bp ((c.drop (32*q)).take (j+1))=Bp ((c.drop (32*q)).take j)+(if c[32*q+j]then 2^j else 0):=by
    rw[bB,DE,hlen];simp only[Bp];split <;> simp
   have lR:=Kr ((c.drop (32*q)).take j);rw[hlen]at lR;have hp:(2:Nat)^j*2<=2^32:=by rw[<-Nat.pow_succ];exact Vv (by omega) (by omega)
   have uQ:IntKind.u32.wrap ((2:Int)^j)=((2^j:Nat):Int):=by
    rw[show ((2:Int)^j)=((2^j:Nat):Int) from by simp,CP] <;> omega
   have gK:IntKind.u32.wrap (((Bp ((c.drop (32*q)).take j):Nat):Int)+((2^j:Nat):Int))=((Bp ((c.drop (32*q)).take j)+2^j:Nat):Int):=by rw[CP] <;> omega
   have dM:IntKind.u32.wrap (((2^j:Nat):Int)*2)=IntKind.u32.wrap ((2:Int)^(j+1)):=by rw[WX];simp
   have:=hrec (j+1) (by omega) (by omega);rw[vD]at this;simp only[An,Bb,Bd,B7,Cb,DL,Ay,zXa,Bq,h1,decide_true,Ji,CK,hw,h2,CI,AU,AI,A4 eO,AF,zXh,uQ];cases hb:c[32*q+j]with
   | true=>
    rw[hb]at this;simp only[AU,CK,gK,zXa,An,Bb,Bd,B7,Cb,DL,Sh.f7v,Iu,dM,cA];simpa using this
   | false=>
    rw[hb]at this;simp only[AO,An,Bb,Bd,B7,Cb,DL,Sh.f7v,Iu,CK,dM,cA,zXa];simpa using this
  ·have hj':j=min 32 (c.length-32*q):=by omega
   have hx:Bp ((c.drop (32*q)).take j)=G8 c q:=by
    unfold G8;by_cases h:j=32
    ·rw[h]
    ·rw[US (by simp;omega),US (by simp;omega)]
   have tail:((AL 1 [.int .u32 ((G8 c q:Nat):Int)]).bind λx40=>bP H (BV (AP BA 1 4 (DD cU H o) x40 (DC cU BA 1 H o))) λx41 H42=>(Af .none .add (.i6 ((32*q:Nat):Int)) (.i6 32)).bind λx43=>rec [.sl (enL cB c) .no,x41,x43] H42)
     = rec [.sl (enL cB c) .no,DD cU H (o++[G8 c q]),.i6 ((32*(q+1):Nat):Int)] (DC cU BA 1 H (o++[G8 c q])):=by
    rw[build_U];simp only[zXa];rw[Du (by simp) (by simp;omega) (by simp;omega)];simp only[Dr,CC,CK,zXa,hw]
   rw[hx];by_cases h1:((32*q+j:Nat):Int)<(c.length:Int)
   ·have h2:¬((32*q+j:Nat):Int)<((32*(q+1):Nat):Int):=by omega
    simp only[An,Bb,Bd,B7,Cb,DL,Ay,zXa,Bq,h1,decide_true,Ji,CK,hw,h2,decide_false,CI,AO];simpa only[CK,hw,zXa]using tail
   ·simp only[An,Bb,Bd,B7,Cb,DL,Ay,zXa,Bq,h1,decide_false,Ql,CA,AO];exact tail
 ·have iK:¬((32*n:Nat):Int)<(c.length:Int):=by omega
  obtain⟨G,hG⟩:=FV (f:=cU) (ty:=BA) (sz:=1) H (Es c n);unfold Sh.f5s;simp only[An,Bb,Bd,EP,hG,Ay,zXa,Bq,iK,decide_false,AO,C6,Hx,zXb]
theorem R9 (l:List Nat)(tk:Tok)(H:Aa)(hl:l.length<=1099511627776)(hx:Lim l):Sh.f10 (.sl (enL cU l) tk) H=some (.ret (.sl (enL cU (A6 (val l))) .no),H):=by
 have hc:=In (AQ l);rw[C5]at hc;unfold Sh.f10;rw[HD l tk H (by omega) hx];simp only[Fr];rw[R8 _ _ _ (by omega)];simp only[Fr,Em,Uw,EA,ET l hx]
theorem q01_right (l:List Nat)(tk:Tok)(H:Aa)(hl:l.length<=1099511627776):Sh.f6j (.sl (enL cU l) tk) H=some (.ret (.bool (Gd l)),H):=by
 unfold Sh.f6j;rcases Ha l with rfl | ⟨l',x,rfl⟩
 ·simp[Gd]
 ·simp only[UO,zXi]at hl;have h1:l'.length<(l'++[x]).length:=by simp
  have h3:IntKind.i64.wrap ((((l'++[x]).length:Nat):Int)-1)=(l'.length:Int):=by rw[Ao] <;> simp <;> omega
  have hne:((((l'++[x]).length:Nat):Int) == 0)=false:=by simp;omega
  have hb:((x:Int) != 0)=(x != 0):=by rw[Va];simp
  simp only[Ay,zXa,DV,hne,LU,Dy,h3,A4 h1,AF,zXh,VK (UK _),Vr,List.getElem_cons_zero,It,CA,Nn,hb];simp[Gd]
theorem q01_cmp (a b:List Nat)(ta tb:Tok)(H:Aa)(ha:a.length<=1099511627776)(hb:b.length<=1099511627776)(la:Lim a)(lb:Lim b) :
  Sh.f5w (.sl (enL cU a) ta) (.sl (enL cU b) tb) H=some (.ret (.i6 (cmpI (val a) (val b))),H):=by
 have c1:=In (AQ a);have c2:=In (AQ b);rw[C5]at c1 c2;unfold Sh.f5w;rw[HD a ta H (by omega) la];simp only[Fr,HD b tb H (by omega) lb,Ay,zXa,max_int];have hx:Bp (D4 (AQ a))=val a:=by rw[EA,ET a la]
 have hy:Bp (D4 (AQ b))=val b:=by rw[EA,ET b lb]
 rw[<-hx,<-hy];generalize D4 (AQ a)=x at c1 ⊢;generalize D4 (AQ b)=y at c2 ⊢;have hw:IntKind.i64.wrap (max (x.length:Int) (y.length:Int)-1)=((max x.length y.length:Nat):Int)-1:=by rw[Ao] <;> omega
 simp only[Dy,hw,zXa];have z:∀(c:List Bool) (m:Nat),c.length<=m->Bp c / 2^m=0:=λc m h=>Wg (VL (Kr c) (Vv (by omega) h));refine AZ (σ:=Nat) (λi=>i<9223372036854775807/\(Bp x) / 2^i=(Bp y) / 2^i) (λi=>[.sl (enL cB x) .no,.sl (enL cB y) .no,.i6 ((i:Int)-1)]) (λ_=>H) (λi=>i) (λ_=>some (.ret (.i6 (cmpI (Bp x) (Bp y))),H)) (λi rec hi hrec=>?_) (max x.length y.length) ⟨by omega,by rw[z _ _ (by omega),z _ _ (by omega)]⟩ (by omega);obtain⟨hi,he⟩:=hi;unfold Sh.f8r;cases i with
 | zero=>
  have e:Bp x=Bp y:=by simpa using he
  simp[e,cmpI]
 | succ i=>
  have jJ:(((i+1:Nat):Int)-1)=(i:Int):=by omega
  have hge:(i:Int)>=0:=by omega
  have hw:IntKind.i64.wrap ((i:Int)-1)=(i:Int)-1:=by rw[Ao] <;> omega
  have ax:∀(c:List Bool) (H:Aa),Sh.f8 (.sl (enL cB c) .no) (.i6 (i:Int)) H=some (.ret (.bool ((Bp c).testBit i)),H):=λc H=>by rw[q01_at,zXl,nat1_bit];simp
  have tb:∀m:Nat,m.testBit i=decide (m / 2^i%2=1):=λm=>Wq;have hs:∀m:Nat,m / 2^(i+1)=m / 2^i / 2:=λm=>by rw[Nat.pow_succ,Nat.div_div_eq_div_mul]
  rw[hs,hs]at he;have mono:∀p q:Nat,p<=q->p / 2^i<=q / 2^i:=λp q h=>Nat.div_le_div_right h;simp only[An,Bb,Bd,jJ,Iv,hge,decide_true,zXa,AU,ax,Fr,bne_bool];by_cases heq:(Bp x) / 2^i=(Bp y) / 2^i
  ·have mD:(Bp x).testBit i=(Bp y).testBit i:=by rw[tb,tb,heq]
   simp only[mD,bne_self_eq_false,AO,Dy,hw,zXa];exact hrec i ⟨by omega,heq⟩ (by omega)
  ·have m1:=mono (Bp x) (Bp y);have m2:=mono (Bp y) (Bp x);rcases WZ (Bp x / 2^i)with h1 | h1 <;> rcases WZ (Bp y / 2^i)with h2 | h2
   ·omega
   ·have hlt:Bp x<Bp y:=by
     rcases Vy (Bp x) (Bp y)with h | h
     ·exact h
     ·have:=m2 h;omega
    simp[tb,h1,h2,cmpI,hlt]
   ·have hlt:Bp y<Bp x:=by
     rcases Vy (Bp y) (Bp x)with h | h
     ·exact h
     ·have:=m1 h;omega
    have hn:¬Bp x<Bp y:=by omega
    simp[tb,h1,h2,cmpI,hlt,hn]
   ·omega
theorem Od (m:List Bool)(i:Nat):Bp m%2^(i+1)=Bp m%2^i+2^i*bn (m.getD i false):=by
 rw[nat1_bit,Wq,Nat.pow_succ,Nat.mod_mul]
 congr 2
 rcases WZ (Bp m / 2^i)with h | h <;> simp[h,bn]
theorem q01_add (a b:List Nat)(ta tb:Tok)(H:Aa)(ha:a.length<=1099511627776)(hb:b.length<=1099511627776)(la:Lim a)(lb:Lim b) :
  Sh.f5v (.sl (enL cU a) ta) (.sl (enL cU b) tb) H=some (.ret (.sl (enL cU (A6 (val a+val b))) .no),H):=by
 have c1:=In (AQ a);have c2:=In (AQ b);rw[C5]at c1 c2;unfold Sh.f5v;have hx:Bp (D4 (AQ a))=val a:=by rw[EA,ET a la]
 have hy:Bp (D4 (AQ b))=val b:=by rw[EA,ET b lb]
 simp only[HD a ta H (by omega) la,CC,HD b tb H (by omega) lb];rw[<-hx,<-hy];generalize D4 (AQ a)=x at c1 ⊢;generalize D4 (AQ b)=y at c2 ⊢;refine AZ (σ:=List Bool×Bool) (λs=>s.1.length<=max x.length y.length+1/\Bp s.1+2^s.1.length*bn s.2=Bp x%2^s.1.length+Bp y%2^s.1.length) (λs=>[.sl (enL cB x) .no,.sl (enL cB y) .no,DD cB H s.1,.bool s.2,.i6 (s.1.length:Int)]) (λs=>DC cB Ci 1 H s.1) (λs=>max x.length y.length+1-s.1.length)
  (λ_=>some (.ret (.sl (enL cU (A6 (Bp x+Bp y))) .no),H)) (λs rec hs hrec=>?_) ([],false) ⟨by simp,by simp[Bp,bn,Nat.mod_one]⟩ (by simp;omega)
 obtain⟨o,c⟩:=s;obtain⟨ho,he⟩:=hs;simp only at ho he hrec ⊢;unfold Sh.f8q;simp only[An,Bb,Bd,B7,Cb,Ay,zXa,max_int,KY];by_cases h:o.length<=max x.length y.length
 ·have h':((o.length:Int)<=max (x.length:Int) (y.length:Int)):=by omega
  have hw:IntKind.i64.wrap ((o.length:Int)+1)=((o.length+1:Nat):Int):=by rw[Ao] <;> omega
  have ax:∀(m:List Bool) (H:Aa),Sh.f8 (.sl (enL cB m) .no) (.i6 (o.length:Int)) H=some (.ret (.bool (m.getD o.length false)),H):=λm H=>by rw[q01_at,zXl];simp
  have app:∀s:Bool,AP Ci 1 1 (DD cB H o) (.sl (enL cB [s]) .ti) (DC cB Ci 1 H o)=some (DD cB H (o++[s]),DC cB Ci 1 H (o++[s])):=λs=>Du (by simp) (by simp;omega) (by simp;omega);have w1:IntKind.i64.wrap (0+1)=1:=by decide
  have w2:IntKind.i64.wrap (1+1)=2:=by decide
  have w3:IntKind.i64.wrap (2+1)=3:=by decide
  have fin:rec [.sl (enL cB x) .no,.sl (enL cB y) .no,DD cB H (o++[(bn (x.getD o.length false)+bn (y.getD o.length false)+bn c)%2 == 1]),.bool (decide (1<bn (x.getD o.length false)+bn (y.getD o.length false)+bn c)),.i6 ((o.length+1:Nat):Int)] (DC cB Ci 1 H (o++[(bn (x.getD o.length false)+bn (y.getD o.length false)+bn c)%2 == 1]))=some (.ret (.sl (enL cU (A6 (Bp x+Bp y))) .no),H):=by
   have:=hrec (o++[(bn (x.getD o.length false)+bn (y.getD o.length false)+bn c)%2 == 1],decide (1<bn (x.getD o.length false)+bn (y.getD o.length false)+bn c)) ⟨by simp;omega,?_⟩ (by simp;omega)
   ·simpa using this
   ·simp only[UO,zXi];rw[Od x,Od y,DE,Nat.pow_succ];generalize x.getD o.length false=p;generalize y.getD o.length false=q;generalize 2^o.length=z at he ⊢;cases p <;> cases q <;> cases c <;> simp[bn,Bp]at he ⊢ <;> omega
  simp only[h',decide_true,AU,AI,ax,CC];revert fin;generalize x.getD o.length false=p;simp only[Sh.f8p,AI,An,Bb,Bd,B7,Cb,DL,ax,CC];generalize y.getD o.length false=q;intro fin;rw[<-fin];cases p <;> cases q <;> cases c <;>
   simp only[AU,AO,CK,w1,w2,w3,zXa,An,Bb,Bd,B7,Cb,DL,Sh.f8o,Sh.f8n,AI,Is (show (2:Int)≠0 by decide),DV,Rc,Dz,app,Dr,CC,hw,bn] <;> rfl
 ·have h':¬((o.length:Int)<=max (x.length:Int) (y.length:Int)):=by omega
  obtain⟨G,hG⟩:=FV (f:=cB) (ty:=Ci) (sz:=1) H o;have bx:=Kr x;have by':=Kr y;have px:2^x.length*2<=2^o.length:=by rw[<-Nat.pow_succ];exact Vv (by omega) (by omega)
  have py:2^y.length*2<=2^o.length:=by rw[<-Nat.pow_succ];exact Vv (by omega) (by omega)
  rw[VE (by omega),VE (by omega)]at he;have hc:c=false:=by
   cases c with
   | false=>rfl
   | true=>exfalso;simp only[bn,if_true,UW]at he;omega
  subst hc;have gQ:Bp o=Bp x+Bp y:=by simpa[bn]using he
  simp only[h',decide_false,AO,EP,hG,R8 o _ _ (by omega),CC,C6,Hx,zXb,gQ]
theorem q01_sub (a b:List Nat)(ta tb:Tok)(H:Aa)(ha:a.length<=1099511627776)(hb:b.length<=1099511627776)(la:Lim a)(lb:Lim b) :
  Sh.f38 (.sl (enL cU a) ta) (.sl (enL cU b) tb) H=some (.ret (.tup [.sl (enL cU (if val b<=val a then A6 (val a-val b)else [])) .no,.bool (decide (val b<=val a))]),H):=by
 have c1:=In (AQ a);rw[C5]at c1;unfold Sh.f38;simp only[q01_cmp a b ta tb H ha hb la lb,CC,Bq,zXa];by_cases hv:val b<=val a
 ·have hc:¬(cmpI (val a) (val b)<0):=by unfold cmpI;split <;> (try split) <;> omega
  have hx:Bp (D4 (AQ a))=val a:=by rw[EA,ET a la]
  have hy:Bp (D4 (AQ b))=val b:=by rw[EA,ET b lb]
  simp only[hc,decide_false,AO,HD a ta H (by omega) la,HD b tb H (by omega) lb,CC,hv,if_true,decide_true];rw[<-hx,<-hy]at hv ⊢;generalize D4 (AQ a)=x at c1 hv ⊢;generalize D4 (AQ b)=y at hv ⊢;refine AZ (σ:=List Bool×Bool) (λs=>s.1.length<=x.length/\Bp s.1+Bp y%2^s.1.length=Bp x%2^s.1.length+2^s.1.length*bn s.2) (λs=>[.sl (enL cB x) .no,.sl (enL cB y) .no,DD cB H s.1,.i6 (if s.2 then 1 else 0),.i6 (s.1.length:Int)]) (λs=>DC cB Ci 1 H s.1) (λs=>x.length-s.1.length)
   (λ_=>some (.ret (.tup [.sl (enL cU (A6 (Bp x-Bp y))) .no,.bool true]),H)) (λs rec hs hrec=>?_) ([],false) ⟨by simp,by simp[Bp,bn,Nat.mod_one]⟩ (by simp;omega)
  obtain⟨o,c⟩:=s;obtain⟨ho,he⟩:=hs;simp only at ho he hrec ⊢;unfold Sh.f8v;simp only[An,Bb,Bd,B7,Cb,Ay,zXa,Bq];by_cases h:o.length<x.length
  ·have h':((o.length:Int)<(x.length:Int)):=by omega
   have hw:IntKind.i64.wrap ((o.length:Int)+1)=((o.length+1:Nat):Int):=by rw[Ao] <;> omega
   have ax:∀(m:List Bool) (H:Aa),Sh.f8 (.sl (enL cB m) .no) (.i6 (o.length:Int)) H=some (.ret (.bool (m.getD o.length false)),H):=λm H=>by rw[q01_at,zXl];simp
   have app:∀s:Bool,AP Ci 1 1 (DD cB H o) (.sl (enL cB [s]) .ti) (DC cB Ci 1 H o)=some (DD cB H (o++[s]),DC cB Ci 1 H (o++[s])):=λs=>Du (by simp) (by simp;omega) (by simp;omega);have n0:unA .neg (.i6 0)=some (.i6 0):=by rw[show unA .neg (.i6 0)=some (.i6 (IntKind.i64.wrap (0-0))) from rfl,show IntKind.i64.wrap (0-0)=0 from by decide]
   have n1:unA .neg (.i6 1)=some (.i6 (-1)):=by rw[show unA .neg (.i6 1)=some (.i6 (IntKind.i64.wrap (0-1))) from rfl,show IntKind.i64.wrap (0-1) = -1 from by decide]
   have w1:IntKind.i64.wrap (0+1)=1:=by decide
   have w2:IntKind.i64.wrap (-1+1)=0:=by decide
   have w3:IntKind.i64.wrap (0-1) = -1:=by decide
   have w4:IntKind.i64.wrap (1-1)=0:=by decide
   have w5:IntKind.i64.wrap (-1-1) = -2:=by decide
   have w6:IntKind.i64.wrap (-1+2)=1:=by decide
   have w7:IntKind.i64.wrap (-2+2)=0:=by decide
   have fin:rec [.sl (enL cB x) .no,.sl (enL cB y) .no,DD cB H (o++[subS (x.getD o.length false) (y.getD o.length false) c]),.i6 (if subC (x.getD o.length false) (y.getD o.length false) c then 1 else 0),.i6 ((o.length+1:Nat):Int)] (DC cB Ci 1 H (o++[subS (x.getD o.length false) (y.getD o.length false) c]))=some (.ret (.tup [.sl (enL cU (A6 (Bp x-Bp y))) .no,.bool true]),H):=by
    have:=hrec (o++[subS (x.getD o.length false) (y.getD o.length false) c],subC (x.getD o.length false) (y.getD o.length false) c) ⟨by simp;omega,?_⟩ (by simp;omega)
    ·simpa using this
    ·simp only[UO,zXi];rw[Od x,Od y,DE,Nat.pow_succ];generalize x.getD o.length false=p;generalize y.getD o.length false=q;generalize 2^o.length=z at he ⊢;cases p <;> cases q <;> cases c <;> simp[bn,Bp,subS,subC,subN]at he ⊢ <;> omega
   simp only[h',decide_true,AU,AI,ax,CC];revert fin;generalize x.getD o.length false=p;simp only[Sh.f8u,AI,An,Bb,Bd,B7,Cb,DL,ax,CC];generalize y.getD o.length false=q;intro fin;rw[<-fin];cases p <;> cases q <;> cases c <;>
    simp[n0,n1,w1,w2,w3,w4,w5,w6,w7,Sh.f8t,Sh.f8s,AI,Rc,app,hw,subS,subC,subN]
  ·have h':¬((o.length:Int)<(x.length:Int)):=by omega
   obtain⟨G,hG⟩:=FV (f:=cB) (ty:=Ci) (sz:=1) H o;have bx:=Kr x;have bo:=Kr o;have aI:x.length=o.length:=by omega
   rw[aI]at bx;rw[VE bx,VE (by omega)]at he;have hc:c=false:=by
    cases c with
    | false=>rfl
    | true=>exfalso;simp only[bn,if_true,UW]at he;omega
   subst hc;have gQ:Bp o=Bp x-Bp y:=by simp[bn]at he;omega
   simp only[h',decide_false,AO,EP,hG,R8 o _ _ (by omega),CC,C6,C9,B4,BO,II,Hi,zXa,zXb,gQ]
 ·have hc:cmpI (val a) (val b)<0:=by unfold cmpI;rw[if_pos (by omega)];decide
  simp[hc,hv,Hy]
def A3 (z:Int):List Ab:=[.bool (decide (z<0)),.sl (enL cU (A6 z.natAbs)) .no]
def big (z:Int):Ab:=.agg (A3 z)
def LB (z:Int):Prop:=(A6 z.natAbs).length<=549755813888
theorem UB (z:Int):(A3 z).all Ab.isScal=true:=by simp[A3]
@[simp] theorem bigC_g0 (z:Int)(h:0<(A3 z).length):(A3 z)[0]=.bool (decide (z<0)):=(rfl)
@[simp] theorem bigC_g1 (z:Int)(h:1<(A3 z).length):(A3 z)[1]=.sl (enL cU (A6 z.natAbs)) .no:=(rfl)
@[simp] theorem bigC_0 (z:Int):(A3 z)[0]? = some (.bool (decide (z<0))):=(rfl)
@[simp] theorem bigC_1 (z:Int):(A3 z)[1]? = some (.sl (enL cU (A6 z.natAbs)) .no):=(rfl)
@[simp] theorem SP (z:Int):(big z).acells=some (A3 z):=Cc (UB z)
theorem big_sgn (neg:Bool)(n:Nat):[Ab.bool (sgn neg n),.sl (enL cU (A6 n)) .no]=A3 (if neg then -(n:Int)else n):=by
 unfold A3;have e1:sgn neg n=decide ((if neg then -(n:Int)else (n:Int))<0):=by
  unfold sgn;cases neg with
  | false=>simp
  | true=>
   by_cases h:n=0
   ·subst h;rfl
   ·have:(-(n:Int))<0:=by omega
    simp[h,this];omega
 have e2:(if neg then -(n:Int)else (n:Int)).natAbs=n:=by cases neg <;> simp
 rw[e1,e2]
theorem Qi (n:Nat):(decide (((A6 n).length:Int)>0))=decide (n≠0):=by
 by_cases h:n=0
 ·subst h;rw[DX];rfl
 ·have:=Vq.2 (Oj h);have h1:((A6 n).length:Int)>0:=by omega
  rw[zXc h1,zXc h]
@[simp] theorem fcells_big {H:Aa}{n d:Nat}{z:Int}:Gh H n (d+2) (A3 z)=some (A3 z):=by simp[A3]
@[simp] theorem fall_big {H:Aa}{n d:Nat}{z:Int}:Hl H n (d+3) (big z)=some (big z):=by simp[big]
@[simp] theorem MQ {H:Aa}{n d:Nat}{z:Int}:Fh H n (d+3) (big z)=some (big z):=by simp[big]
@[simp] theorem forget_big {z:Int}:forget (big z)=big z:=by simp[big,A3]
@[simp] theorem bigC_length (z:Int):(A3 z).length=2:=(rfl)
@[simp] theorem SU (z:Int):Ab.agg (A3 z)=big z:=(rfl)
@[simp] theorem putN_big (cs:List Ab)(z:Int)(h:cs.length=2):Dc cs 0 2 (A3 z)=A3 z:=DB h
theorem DO (z:Int)(H:Aa):Bu true 2 (big z) H=some (.ptr H.length 0 0,H++[.cel 0 (A3 z)]):=Cz (UB z) rfl
theorem NV (neg:Bool)(l:List Nat)(tk:Tok)(H:Aa)(hl:l.length<=1099511627776)(hx:Lim l):Sh.fg (.bool neg) (.sl (enL cU l) tk) H=some (.ret (big (if neg then -(val l:Int)else val l)),H):=by
 unfold Sh.fg big;rw[<-big_sgn];have hp:=Qi (val l);cases neg with
 | false=>simp[R9 _ _ _ hl hx,Az,Gp,Dc,sgn,Cc]
 | true=>
  simp only[Ji,CI,zXa,Ay,Dz,hp,sgn,zXn,alloc_eq (cs:=[.bool false,.sl [] .ti]) rfl,Bj,R9 _ _ _ hl hx,CC];simp[Az,Gp,Dc,Cc]
theorem OZ (neg:Bool)(l:List Nat)(tk:Tok)(H:Aa)(hl:l.length<=1099511627776)(hx:Lim l):Sh.fh (.agg [.bool neg,.sl (enL cU l) tk]) H=some (.ret (big (-(Ec neg l))),H):=by
 have ez:(if neg=false then -(val l:Int)else (val l:Int)) = -(Ec neg l):=by cases neg <;> simp[Ec]
 unfold Sh.fh;simp[Cz,NV _ l tk _ hl hx,ez]
theorem KZ (z:Int):Ec (decide (z<0)) (A6 z.natAbs)=z:=by
 unfold Ec;rw[B2];by_cases h:z<0
 ·simp[h];omega
 ·simp[h];omega
theorem bigI_abs (neg:Bool)(l:List Nat):(Ec neg l).natAbs=val l:=by cases neg <;> simp[Ec]
theorem q02_add (n1 n2:Bool)(l1 l2:List Nat)(t1 t2:Tok)(H:Aa)(h1:l1.length<=549755813888)(h2:l2.length<=549755813888)(x1:Lim l1)(x2:Lim l2) :
  Sh.f0 (.agg [.bool n1,.sl (enL cU l1) t1]) (.agg [.bool n2,.sl (enL cU l2) t2]) H=some (.ret (big (Ec n1 l1+Ec n2 l2)),H):=by
 have v1:=val_lt l1 x1;have v2:=val_lt l2 x2;have p1:=NX (show l1.length<=max l1.length l2.length by omega);have p2:=NX (show l2.length<=max l1.length l2.length by omega);have p3:(4294967296:Nat)^(max l1.length l2.length+1)=4294967296^max l1.length l2.length*4294967296:=Nat.pow_succ _ _;have sg:∀(neg:Bool) (m:Nat) (tk:Tok) (H:Aa),m<4294967296^(max l1.length l2.length+1)->Sh.fg (.bool neg) (.sl (enL cU (A6 m)) tk) H=some (.ret (big (if neg then -(m:Int)else m)),H):=by
  intro neg m tk H hm;have:=NV neg (A6 m) tk H (by have:=Fe hm;omega) (Br m)
  rwa [B2]at this
 unfold Sh.f0;by_cases hn:n1=n2
 ·subst hn;have ez:(if n1=true then -((val l1:Int)+(val l2:Int))else ((val l1:Int)+(val l2:Int)))=Ec n1 l1+Ec n1 l2:=by cases n1 <;> simp[Ec] <;> omega
  simp[V6,Cz,Ke,BQ,q01_add _ _ _ _ _ (show l1.length<=1099511627776 by omega) (show l2.length<=1099511627776 by omega) x1 x2,sg n1 (val l1+val l2) _ _ (by omega),ez]
 ·have hb:(n1 == n2)=false:=by simpa using hn
  by_cases hv:val l2<=val l1
  ·have ez:(if n1=true then -((val l1-val l2:Nat):Int)else ((val l1-val l2:Nat):Int))=Ec n1 l1+Ec n2 l2:=by cases n1 <;> cases n2 <;> simp[Ec]at hn ⊢ <;> omega
   simp[V6,Cz,Ke,hb,q01_sub _ _ _ _ _ (show l1.length<=1099511627776 by omega) (show l2.length<=1099511627776 by omega) x1 x2,hv,sg n1 (val l1-val l2) _ _ (by omega),ez]
  ·have ez:(if n2=true then -((val l2-val l1:Nat):Int)else ((val l2-val l1:Nat):Int))=Ec n1 l1+Ec n2 l2:=by cases n1 <;> cases n2 <;> simp[Ec]at hn ⊢ <;> omega
   have aP:val l1<=val l2:=by omega
   simp[V6,Cz,Ke,hb,q01_sub _ _ _ _ _ (show l1.length<=1099511627776 by omega) (show l2.length<=1099511627776 by omega) x1 x2,q01_sub _ _ _ _ _ (show l2.length<=1099511627776 by omega) (show l1.length<=1099511627776 by omega) x2 x1,hv,aP,sg n2 (val l2-val l1) _ _ (by omega),ez]
theorem J0 (z:Int):big z=.agg [.bool (decide (z<0)),.sl (enL cU (A6 z.natAbs)) .no]:=rfl
theorem FJ (a b:Int)(H:Aa)(ha:LB a)(hb:LB b):Sh.f0 (big a) (big b) H=some (.ret (big (a+b)),H):=by
 rw[J0 a,J0 b,q02_add _ _ _ _ _ _ _ ha hb (Br _) (Br _),KZ,KZ]
theorem IB (a:Int)(H:Aa)(ha:LB a):Sh.fh (big a) H=some (.ret (big (-a)),H):=by
 rw[J0 a,OZ _ _ _ _ (by unfold LB at ha;omega) (Br _),KZ]
theorem LB.neg {a:Int}(h:LB a):LB (-a):=by unfold LB at *;rwa [Int.natAbs_neg]
theorem LB.of {a:Int}{k:Nat}(h:a.natAbs<4294967296^k)(hk:k<=549755813888):LB a:=Vf (Fe h) hk
theorem R7 (a b:Int)(H:Aa)(ha:LB a)(hb:LB b):Sh.fl (big a) (big b) H=some (.ret (big (a-b)),H):=by
 unfold Sh.fl;simp[V6,DO,BQ,IB _ _ hb,FJ _ _ _ ha hb.neg,Int.sub_eq_add_neg]
def FC (a b:Int):Int:=if a<b then -1 else if a=b then 0 else 1
theorem Fb (a b:Int)(H:Aa)(ha:LB a)(hb:LB b):Sh.f1 (big a) (big b) H=some (.ret (.i6 (FC a b)),H):=by
 unfold Sh.f1;simp only[DO,Bj,UP,List.singleton_append];simp[V6,DO,R7 _ _ _ ha hb];unfold FC;by_cases h0:a=b
 ·subst h0;simp[DX]
 ·have hne:A6 (a-b).natAbs≠[]:=Oj (by omega);have hp:=Vq.2 hne;have hz:(((A6 (a-b).natAbs).length:Int) == 0)=false:=by rw[beq_eq_false_iff_ne];omega
  have mF:¬((A6 (a-b).natAbs).length:Int)=0:=by omega
  have wU:¬A6 (a-b).natAbs=[]:=hne;by_cases hn:a<b
  ·have:a-b<0:=by omega
   simp[hz,mF,wU,hn,this]
  ·have:¬(a-b<0):=by omega
   simp[hz,mF,wU,hn,this,h0]
theorem repl1 (n:Nat)(v:Ab):LM n [v]=List.replicate n v:=by
 induction n with
 | zero=>rfl
 | succ n ih=>simp only[LM,zXm,List.flatten_cons]at ih ⊢;rw[ih];rfl
theorem chunk1 (n:Nat)(v:Ab):GD 1 n (List.replicate n v)=List.replicate n [v]:=by
 induction n with
 | zero=>rfl
 | succ n ih=>simp only[GD,zXm,List.take_succ_cons,List.take_zero,X1,VX,ih]
theorem make_one {bytes n:Nat}{v:Ab}{H:Aa}(hv:v.isScal=true)(hb:n*bytes<=140737488355328)(hn:n<=140737488355328):F5 1 bytes (some [v]) (.i6 (n:Int)) (.i6 (n:Int)) H=some (.ms H.length 0 0 n n 1 true,H++[.cel 0 (List.replicate n v)]):=by
 unfold F5;simp only[zXa];have h1:((n:Int)*(bytes:Int))<=140737488355328:=by
   have:((n*bytes:Nat):Int)<=140737488355328:=by omega
   simpa using this
 rw[if_pos ⟨by simp[hv],rfl,by omega,by omega,h1,by omega⟩,repl1];simp
theorem elems_ms {H:Aa}{n:Nat}:Cw 1 (.ms H.length 0 0 n n 1 true) (H++[.cel 0 (List.replicate n (.bool false))])=some (enL cB (List.replicate n false)):=by
 have hm:(List.replicate n (Ab.bool false)).map Lq=List.replicate n (.bool false):=by simp[Lq]
 have hi:(List.replicate n (Ab.bool false)).all Ch=true:=by simp[Ch]
 simp only[Cw,if_true,get_app0,JG,zXa,VX,UJ,UW,WN,US (show (List.replicate n (Ab.bool false)).length<=n by simp),hm,hi,UK,and_self,chunk1];simp[enL]
theorem q01_of_ms (B:Aa)(n:Nat)(hn:n<=140737488355328):Sh.fs (.ms B.length 0 0 n n 1 true) (B++[.cel 0 (List.replicate n (.bool false))])=some (.ret (.sl [] .no),B++[.cel 0 (List.replicate n (.bool false))]):=by
 unfold Sh.fs Sh.f27;have hc:∀K:Aa,Am (λrec1 vs H1=>Sh.f5r K rec1 (ag vs 0) H1) AM [.ms B.length 0 0 n n 1 true] (B++[.cel 0 (List.replicate n (.bool false))])
   = some (.ret (.ms B.length 0 0 0 n 1 true),B++[.cel 0 (List.replicate n (.bool false))]):=by
  intro K;refine AZ (σ:=Nat) (λk=>k<=n) (λk=>[.ms B.length 0 0 k n 1 true]) (λ_=>B++[.cel 0 (List.replicate n (.bool false))]) (λk=>k) (λ_=>some (.ret (.ms B.length 0 0 0 n 1 true),B++[.cel 0 (List.replicate n (.bool false))])) (λk rec hk hrec=>?_) n (UK _) (by omega);unfold Sh.f5r;cases k with
  | zero=>simp[forget,Ew,fgt]
  | succ k=>
   have hpos:((k+1:Nat):Int)>0:=by omega
   have hw:IntKind.i64.wrap (((k+1:Nat):Int)-1)=(k:Int):=by rw[Ao] <;> omega
   have hidx:Aw 1 (.ms B.length 0 0 (k+1) n 1 true) (.i6 (k:Int))=some (.ptr B.length 0 k):=by
    unfold Aw;simp only[];rw[if_pos ⟨trivial,by omega,by omega⟩];simp
   have qV:Ad false 1 (.ptr B.length 0 k) (B++[.cel 0 (List.replicate n (.bool false))])=some (.bool false):=by
    rw[EH,Hf,WF,if_pos (by omega)]
   have hsl:Bw 1 (.ms B.length 0 0 (k+1) n 1 true) none (some (.i6 (k:Int))) none=some (.ms B.length 0 0 k n 1 true):=by
    have:(0:Int)<=(k:Int):=by omega
    simp only[Bw,By,zXa,this,if_true,zXl];rw[if_pos ⟨trivial,by omega,by omega,by omega⟩];simp
   simp only[An,len_ms,zXa,Dz,hpos,decide_true,Ji,Dy,hw,hidx,qV,Jn,CI,V0,AU,hsl];exact hrec k (by omega) (by omega)
 rw[hc];simp only[CC];rw[Dp DZ];unfold Sh.f5s;simp
theorem q01_shl (l:List Nat)(tk:Tok)(m:Nat)(H:Aa)(hm:m<=10000)(hl:l.length<=549755813888)(hx:Lim l) :
  Sh.f5t (.sl (enL cU l) tk) (.i6 (m:Int)) H=some (.ret (.sl (enL cU (A6 (2^m*val l))) .no),H):=by
 unfold Sh.f5t;have h0:¬(m:Int)<0:=by omega
 have h1:¬(m:Int)>10000:=by omega
 have hc:=In (AQ l);rw[C5]at hc;simp only[Bq,zXa,zXd h0,LU,Dz,zXd h1,CA,AO,HD l tk H (by omega) hx,BC,make_one (bytes:=1) (v:=.bool false) rfl (show m*1<=140737488355328 by omega) (by omega),Bj];by_cases hv:val l=0
 ·have e:D4 (AQ l)=[]:=cutL_nat0 (by rw[ET l hx];exact hv);rw[e,Hy,Ed (by rw[elems_ms];rfl)];simp[q01_of_ms H m (by omega),hv,DX,Hy]
 ·have hne:D4 (AQ l)≠[]:=λe=>hv (by rw[<-ET l hx,<-EA,e];rfl);have ha:AP Ci 1 1 (.ms H.length 0 0 m m 1 true) (.sl (enL cB (D4 (AQ l))) .no) (H++[.cel 0 (List.replicate m (.bool false))])
    = some (.sl (enL cB (List.replicate m false++D4 (AQ l))) (.own (H.length+1)),H++[.cel 0 (List.replicate m (.bool false))]++[.tok (m+(D4 (AQ l)).length) Ci 1]):=by
   have hl0:(enL cB (D4 (AQ l))).length≠0:=by simpa using hne
   unfold AP;rw[show Cw 1 (.sl (enL cB (D4 (AQ l))) .no) (H++[.cel 0 (List.replicate m (.bool false))])=some (enL cB (D4 (AQ l))) from by simp[Cw,all_enL],elems_ms];simp only[zXa];rw[if_neg hl0,if_pos (by simp;omega),if_pos (by simp;exact Vq.2 hne)];simp[enL_append]
  rw[ha];simp only[Dr,BC,UP];rw[R8 _ _ _ (by simp;omega)];simp only[BC,C6,Hx,zXb,nat1_repl,EA,ET l hx]
theorem q02_shl (z:Int)(m:Nat)(H:Aa)(hm:m<=10000)(hz:LB z)(mF:LB (z*2^m)) :
  Sh.f5u (big z) (.i6 (m:Int)) H=some (.ret (big (z*2^m)),H):=by
 have e:(z*2^m).natAbs=2^m*z.natAbs:=by rw[Int.natAbs_mul,Xz,VV];rfl
 have hp:(0:Int)<2^m:=WG (by omega);have hs:∀tk H,Sh.fg (.bool (decide (z<0))) (.sl (enL cU (A6 (2^m*z.natAbs))) tk) H=some (.ret (big (z*2^m)),H):=by
  intro tk H;rw[NV _ _ _ _ (by rw[<-e];unfold LB at mF;omega) (Br _),B2]
  congr 3
  have:((2^m*z.natAbs:Nat):Int)=2^m*(z.natAbs:Int):=by simp
  by_cases h:z<0
  ·simp only[h,decide_true,if_true,this];rw[show ((z.natAbs:Nat):Int) = -z from by omega,Int.mul_neg,Int.neg_neg,Int.mul_comm]
  ·simp only[h,decide_false,UM,if_false,this];rw[show ((z.natAbs:Nat):Int)=z from by omega,Int.mul_comm]
 unfold Sh.f5u;simp[DO,BQ,q01_shl _ _ _ _ hm hz (Br _),B2,hs]
theorem J2 {n:Int}(h0:-18446744073709551616<=n)(h:n<0):IntKind.u64.wrap n=n+18446744073709551616:=by
 have h1:IntKind.u64.bits=64:=rfl;have h2:IntKind.u64.signed=false:=rfl;unfold IntKind.wrap;simp only[h1,h2,Wa,UM,if_false];omega
theorem build_2U (x y:Nat):AL 1 [.int .u32 (x:Int),.int .u32 (y:Int)]=some (.sl (enL cU [x,y]) .ti):=by simp[AL,Df,Lq,Ch,Ab.acells,enL]
theorem OY (n:Int)(H:Aa)(h0:-9223372036854775808<=n)(h1:n<=9223372036854775807):Sh.fk (.i6 n) H=some (.ret (big n),H):=by
 obtain⟨u,hu⟩:∃u:Nat,u=n.natAbs:=⟨_,rfl⟩;have hlim:Lim [u%4294967296,u / 4294967296]:=λx hx=>by
  simp at hx;rcases hx with rfl | rfl <;> omega
 have cC:val [u%4294967296,u / 4294967296]=u:=by simp[val];omega
 have ez:(if decide (n<0)=true then -(u:Int)else (u:Int))=n:=by
  by_cases h:n<0 <;> simp[h] <;> omega
 have a1:=λH=>NV (decide (n<0)) [u%4294967296,u / 4294967296] .ti H (by simp) hlim;simp only[cC,ez]at a1;have e1:((u:Int).tmod 4294967296)=((u%4294967296:Nat):Int):=rfl;have e2:IntKind.u64.wrap ((u:Int).tdiv 4294967296)=((u / 4294967296:Nat):Int):=by rw[show (u:Int).tdiv 4294967296=((u / 4294967296:Nat):Int) from rfl,BK] <;> omega
 have e3:IntKind.u32.wrap ((u%4294967296:Nat):Int)=((u%4294967296:Nat):Int):=by rw[CP] <;> omega
 have e4:IntKind.u32.wrap ((u / 4294967296:Nat):Int)=((u / 4294967296:Nat):Int):=by rw[CP] <;> omega
 have j1:Sh.f7w H (.i6 n) (.ptr H.length 0 0) (.int .u64 (u:Int)) (H++[.cel 0 [.bool false,.sl [] .ti]])=some (.ret (big n),H):=by
  unfold Sh.f7w;simp only[Bq,zXa,Is (show (4294967296:Int)≠0 by decide),OI (show (4294967296:Int)≠0 by decide),e1,e2,Bl,e3,e4,build_2U,a1,CC];simp
 unfold Sh.fk;simp only[alloc_eq (cs:=[.bool false,.sl [] .ti]) rfl,Bj,Bl,zXa,AI,Bq,An,Bb,Bd];by_cases h:n<0
 ·have w:IntKind.u64.wrap (0-IntKind.u64.wrap n)=(u:Int):=by
   rw[J2 (n:=n) (by omega) h,J2 (by omega) (by omega)];omega
  have un:unA .neg (.int .u64 (IntKind.u64.wrap n))=some (.int .u64 (u:Int)):=by
   rw[show unA .neg (.int .u64 (IntKind.u64.wrap n))=some (.int .u64 (IntKind.u64.wrap (0-IntKind.u64.wrap n))) from rfl,w]
  rw[zXc h];simp only[AU,un,zXa,An,Bb,Bd];exact j1
 ·have w:IntKind.u64.wrap n=(u:Int):=by rw[BK (by omega) (by omega)];omega
  rw[zXd h];simp only[AO,w,An,Bb,Bd];exact j1
theorem LB_pow (m:Nat)(hm:m<=20000):LB (2^m):=by
 refine LB.of (k:=m+1) ?_ (by omega);rw[Xz];have:(2:Nat)^m<2^(32*(m+1)):=Xx (by omega) (by omega);rw[Xg]at this;exact this
theorem LB_one:LB 1:=LB_pow 0 (by omega)
theorem Id (m:Nat)(H:Aa)(hm:m<=10000):Sh.f7 (.i6 (m:Int)) H=some (.ret (big (2^m)),H):=by
 have hs:=λH=>q02_shl 1 m H hm LB_one (by rw[Int.one_mul];exact LB_pow m (by omega));simp only[Int.one_mul]at hs;unfold Sh.f7;simp[OY 1 _ (by omega) (by omega),hs]
def GT (z:Int):Bool:=decide (-9223372036854775808<=z/\z<=9223372036854775807)
def Tf (z:Int):Int:=if GT z then z else 0
theorem val_drop (l:List Nat)(i:Nat)(h:i<l.length):val (l.drop i)=l[i]+4294967296*val (l.drop (i+1)):=by
 rw[Vh h,val]
theorem val_drop_le (l:List Nat)(i:Nat):4294967296^i*val (l.drop i)<=val l:=by
 induction l generalizing i with
 | nil=>simp[val]
 | cons a l ih=>
  cases i with
  | zero=>simp
  | succ i=>have:=ih i;simp only[X1,val,Nat.pow_succ];rw[VV (4294967296^i) 4294967296,Wk];omega
theorem wrap_neg {u:Nat}(h:u<=9223372036854775808):IntKind.i64.wrap (IntKind.u64.wrap (0-(u:Int))) = -(u:Int):=by
 have h1:IntKind.i64.bits=64:=rfl;have h2:IntKind.i64.signed=true:=rfl;by_cases h0:u=0
 ·subst h0;decide
 ·rw[J2 (by omega) (by omega)];unfold IntKind.wrap;simp only[h1,h2,zXn,zXe];split <;> omega
theorem q02_int (neg:Bool)(l:List Nat)(tk:Tok)(H:Aa)(hl:l.length<=549755813888)(hx:Lim l):Sh.f11 (.agg [.bool neg,.sl (enL cU l) tk]) H=some (.ret (.tup [.i6 (Tf (Ec neg l)),.bool (GT (Ec neg l))]),H):=by
 unfold Sh.f11;have hw:IntKind.i64.wrap ((l.length:Int)-1)=(l.length:Int)-1:=by rw[Ao] <;> omega
 simp only[Cz (cs:=[.bool neg,.sl (enL cU l) tk]) (sz:=2) rfl rfl,Bj,Ah,zXa,EH,Hf,UJ,List.getElem?_cons_succ,zXh,Ay,Dy,hw];refine AZ (σ:=Nat) (λi=>i<=l.length/\val (l.drop i)<18446744073709551616) (λi=>[.ptr H.length 0 0,.int .u64 ((val (l.drop i):Nat):Int),.i6 ((i:Int)-1)]) (λ_=>H++[.cel 0 [.bool neg,.sl (enL cU l) tk]]) (λi=>i)
  (λ_=>some (.ret (.tup [.i6 (Tf (Ec neg l)),.bool (GT (Ec neg l))]),H)) (λi rec hi hrec=>?_) l.length ⟨UK _,by simp[val]⟩ (by omega) |> λh=>by simpa[val]using h
 obtain⟨hi,hv⟩:=hi;unfold Sh.f8w;cases i with
 | zero=>
  simp only[VX]at hv ⊢;have lM:¬(((0:Nat):Int)-1>=0):=by omega
  have un:unA .neg (.int .u64 ((val l:Nat):Int))=some (.int .u64 (IntKind.u64.wrap (0-((val l:Nat):Int)))):=rfl;simp only[An,Bb,Bd,Iv,lM,decide_false,zXa,AO,Ah,EH,Hf,UJ,zXh];cases neg with
  | true=>
   by_cases h:val l<=9223372036854775808
   ·have h':((val l:Nat):Int)<=9223372036854775808:=by omega
    have hok:GT (Ec true l)=true:=by simp[GT,Ec];omega
    have mJ:=wrap_neg h;rw[Int.zero_sub]at mJ;simp[h',un,Bl,mJ,Tf,hok];simp[Ec]
   ·have h':¬((val l:Nat):Int)<=9223372036854775808:=by omega
    have hok:GT (Ec true l)=false:=by simp[GT,Ec];omega
    simp[h',Tf,hok]
  | false=>
   by_cases h:val l<=9223372036854775807
   ·have h':¬((val l:Nat):Int)>9223372036854775807:=by omega
    have hok:GT (Ec false l)=true:=by simp[GT,Ec];omega
    have hw:IntKind.i64.wrap ((val l:Nat):Int)=((val l:Nat):Int):=by rw[Ao] <;> omega
    simp[h',Bl,hw,Tf,hok];simp[Ec]
   ·have h':((val l:Nat):Int)>9223372036854775807:=by omega
    have hok:GT (Ec false l)=false:=by simp[GT,Ec];omega
    simp[h',Tf,hok]
 | succ i=>
  have e:((i+1:Nat):Int)-1=(i:Int):=by omega
  have hge:(i:Int)>=0:=by omega
  have hil:i<l.length:=by omega
  have aI:l[i]<4294967296:=hx _ (UV hil);have hd:=val_drop l i hil;have hle:=val_drop_le l (i+1);simp only[An,Bb,Bd,e,Iv,hge,decide_true,zXa,AU,Dz];by_cases h:val (l.drop (i+1))<=4294967295
  ·have h':¬((val (l.drop (i+1)):Nat):Int)>4294967295:=by omega
   have w1:IntKind.u64.wrap (((val (l.drop (i+1)):Nat):Int)*4294967296)=((val (l.drop (i+1)):Nat):Int)*4294967296:=by rw[BK] <;> omega
   have w2:IntKind.u64.wrap (((l[i]:Nat):Int))=((l[i]:Nat):Int):=by rw[BK] <;> omega
   have w3:IntKind.u64.wrap (((val (l.drop (i+1)):Nat):Int)*4294967296+((l[i]:Nat):Int))=((val (l.drop i):Nat):Int):=by rw[BK,hd] <;> omega
   have w4:IntKind.i64.wrap ((i:Int)-1)=(i:Int)-1:=by rw[Ao] <;> omega
   simp only[h',decide_false,AO,Iu,w1,Ah,zXa,EH,Hf,UJ,List.getElem?_cons_succ,zXh,A4 hil,AF,Bl,w2,CK,w3,Dy,w4];exact hrec i ⟨by omega,by omega⟩ (by omega)
  ·have h':((val (l.drop (i+1)):Nat):Int)>4294967295:=by omega
   have dP:18446744073709551616<=val l:=by
    have:4294967296^1*4294967296<=4294967296^(i+1)*val (l.drop (i+1)):=WK (Vv (by omega) (by omega)) (by omega);omega
   have hok:GT (Ec neg l)=false:=by cases neg <;> simp[GT,Ec] <;> omega
   simp[h',Tf,hok]
theorem q02_intZ (z:Int)(H:Aa)(h:LB z):Sh.f11 (big z) H=some (.ret (.tup [.i6 (Tf z),.bool (GT z)]),H):=by
 rw[J0,q02_int _ _ _ _ h (Br _),KZ]
def Hs (neg:Bool)(l:List Nat):Bool:=Gd l && !(neg&&l.isEmpty)
theorem TW (neg:Bool)(l:List Nat)(tk:Tok)(H:Aa)(hl:l.length<=549755813888):Sh.f3l (.agg [.bool neg,.sl (enL cU l) tk]) H=some (.ret (.bool (Hs neg l)),H):=by
 unfold Sh.f3l Hs;have hq:=λH=>q01_right l tk H (by omega);cases hr:Gd l with
 | false=>simp[Cz,hq,hr]
 | true=>
  cases neg with
  | false=>simp[Cz,hq,hr]
  | true=>cases l <;> simp[Cz,hq,hr] <;> omega
theorem bigC_ok {n:Bool}{l:List Nat}(h:Hs n l=true)(hx:Lim l):[Ab.bool n,.sl (enL cU l) .no]=A3 (Ec n l):=by
 simp only[Hs,UU,VG]at h;obtain⟨h1,h2⟩:=h;have hn:Nrm l:=(Ny hx).1 h1;unfold A3;rw[bigI_abs,<-LQ hn]
 congr 2
 unfold Ec;cases n with
 | false=>simp
 | true=>
  have hl:l≠[]:=λe=>by subst e;simp at h2
  have:val l≠0:=λe=>hl (hn.zero e);simp;omega
theorem LB_zero:LB 0:=by unfold LB;simp[DX]
structure Cl where
 x:Int
 y:Int
 s:UInt8
deriving DecidableEq
def cCl (c:Cl):List Ab:=[.bool (decide (c.x<0)),.sl (enL cU (A6 c.x.natAbs)) .no,.bool (decide (c.y<0)),.sl (enL cU (A6 c.y.natAbs)) .no,.int .u8 (c.s.toNat:Int)]
instance:Sz cCl 5:=⟨λ_=>rfl⟩
instance:Pl cCl:=⟨λ_=>rfl⟩
def cBig (z:Int):List Ab:=A3 z
instance:Sz cBig 2:=⟨λ_=>rfl⟩
instance:Pl cBig:=⟨λ_=>rfl⟩
def SB (k:Nat)(z:Int):Prop:=z.natAbs<4294967296^k
theorem SB.lb {k:Nat}{z:Int}(h:SB k z)(hk:k<=549755813888):LB z:=LB.of h hk
theorem SB.mono {k m:Nat}{z:Int}(h:SB k z)(hm:k<=m):SB m z:=VL h (NX hm)
theorem SB.add {k:Nat}{a b:Int}(ha:SB k a)(hb:SB k b):SB (k+1) (a+b):=by
 unfold SB at *;have:4294967296^(k+1)=4294967296^k*4294967296:=Nat.pow_succ _ _;omega
theorem SB_powk {m k:Nat}(h:m<32*k):SB k (2^m):=by
 have e:((2:Int)^m).natAbs=2^m:=by rw[Xz];rfl
 unfold SB;rw[e];exact pow32_lt h
theorem SB_pow {m:Nat}(h:m<=10000):SB 313 (2^m):=SB_powk (V8 h (by decide))
def Cl.ok (c:Cl):Prop:=SB 100 c.x/\SB 100 c.y
def Jr (a b:Cl):Int:=if FC a.y b.y=0 then FC a.x b.x else FC a.y b.y
theorem boxCl (c:Cl)(H:Aa):Bu true 5 (.agg (cCl c)) H=some (.ptr H.length 0 0,H++[.cel 0 (cCl c)]):=Cz rfl rfl
theorem MY (c:Cl):(Ab.agg (cCl c)).acells=some (cCl c):=Cc rfl
section
variable {H G:Aa}{p:Nat}{c:Cl}{z:Int}
theorem Jd (hg:H[p]? = some (.cel 0 (cCl c))):Ad true 2 (.ptr p 0 0) H=some (big c.x):=by
 simp only[Ad,A1 hg,zXa,if_true];rfl
theorem Jc (hg:H[p]? = some (.cel 0 (cCl c))):Ad true 2 (.ptr p 0 2) H=some (big c.y):=by
 simp only[Ad,A1 hg,zXa,if_true];rfl
theorem AS (hg:H[p]? = some (.cel 0 (A3 z))):Ad true 2 (.ptr p 0 0) H=some (big z):=by
 simp only[Ad,A1 hg,zXa,if_true];rfl
theorem BU {cs:List Ab}(hg:H[p]? = some (.cel 0 cs))(hl:cs.length=2):Ae 2 (.ptr p 0 0) (big z) H=some (H.set p (.cel 0 (A3 z))):=by
 simp only[Ae,A1 hg,zXa,SP,B5 hg,DB hl];rw[if_pos ⟨rfl,by omega⟩]
theorem QP:Ad true 2 (.cptr (cCl c) 0) H=some (big c.x):=(rfl)
theorem QO:Ad true 2 (.cptr (cCl c) 2) H=some (big c.y):=(rfl)
theorem load_sC:Ad false 1 (.cptr (cCl c) 4) H=some (.int .u8 (c.s.toNat:Int)):=(rfl)
theorem Oh:Ad true 5 (.cptr (cCl c) 0) H=some (.agg (cCl c)):=(rfl)
theorem My (c:Cl):AL 5 [.agg (cCl c)]=some (.sl (enL cCl [c]) .ti):=by
 simp[AL,Df,MY];simp[cCl,Lq,Ch,enL]
theorem CL (H:Aa):Ax (some [.bool false,.sl [] .ti]) H=some (.ptr H.length 0 0,H++[.cel 0 [.bool false,.sl [] .ti]]):=alloc_eq rfl
theorem A0 {i:Nat}{x:Blk}(h:H[i]? = some x):(H++G)[i]? = some x:=by
 have:=(UH.1 h).1;rw[UL this];exact h

end
theorem q07_order (a b:Cl)(H:Aa)(ha:a.ok)(hb:b.ok):Sh.f3m (.agg (cCl a)) (.agg (cCl b)) H=some (.ret (.i6 (Jr a b)),H):=by
 have e1:(H++[Blk.cel 0 (cCl a)]++[Blk.cel 0 (cCl b)])[H.length]? = some (.cel 0 (cCl a)):=by simp
 have e2:(H++[Blk.cel 0 (cCl a)]++[Blk.cel 0 (cCl b)])[(H++[Blk.cel 0 (cCl a)]).length]? = some (.cel 0 (cCl b)):=Ap;unfold Sh.f3m;have hy:=λH=>Fb a.y b.y H (ha.2.lb (by decide)) (hb.2.lb (by decide));have hx:=λH=>Fb a.x b.x H (ha.1.lb (by decide)) (hb.1.lb (by decide));simp only[GMw,boxCl,Ah,UJ,Nat.add_zero,Jc e1,Jc e2,hy];have fin:∀q:Int,rP H (.i6 q) (H++[Blk.cel 0 (cCl a)]++[Blk.cel 0 (cCl b)])=some (.ret (.i6 q),H):=λq=>by simp only[UP];exact HS
 unfold Jr;by_cases h:FC a.y b.y=0
 ·simp only[GMw,h,Jd e1,Jd e2,hx,fin]
 ·simp only[GMw,h,fin]
def inZ (v:Nat)(z:Int):Bool:=decide (-(2^(v-1))<=z)&&decide (z<2^(v-1))
def EN (v:Nat)(c:Cl):Bool:=inZ v c.x&&inZ v c.y
theorem FY (a b:Int):decide (FC a b>=0)=decide (b<=a):=by
 unfold FC;rw[Va];split
 ·simp;omega
 ·split
  ·simp;omega
  ·simp;omega
theorem FX (a b:Int):decide (FC a b<0)=decide (a<b):=by
 unfold FC;rw[Va];split
 ·simp;omega
 ·split
  ·simp;omega
  ·simp;omega
theorem q07_within (c:Cl)(v:Nat)(H:Aa)(hc:c.ok)(h1:1<=v)(h2:v<=10000):Sh.f6p (.agg (cCl c)) (.i6 (v:Int)) H=some (.ret (.bool (EN v c)),H):=by
 have hw:IntKind.i64.wrap ((v:Int)-1)=((v-1:Nat):Int):=GX (by omega) (by omega);have hp:=SB_pow (show v-1<=10000 by omega);have aW:=hp.lb (by decide);unfold Sh.f6p;have bU:=λH=>Id (v-1) H (by omega);have gU:=λH=>IB (2^(v-1)) H aW;have hx:=λH b (hb:LB b)=>Fb c.x b H (hc.1.lb (by decide)) hb;have hy:=λH b (hb:LB b)=>Fb c.y b H (hc.2.lb (by decide)) hb;have s1:∀B:Aa,Ae 2 (.ptr B.length 0 0) (big (2^(v-1))) (B++[.cel 0 [.bool false,.sl [] .ti]])=some (B++[.cel 0 (A3 (2^(v-1)))]):=λB=>by rw[BU (Ap (B:=B)) rfl,Ba]
 have s2:∀B:Aa,Ae 2 (.ptr B.length 0 0) (big (-(2^(v-1)))) (B++[.cel 0 [.bool false,.sl [] .ti]])=some (B++[.cel 0 (A3 (-(2^(v-1))))]):=λB=>by rw[BU (Ap (B:=B)) rfl,Ba]
 simp only[GMw,boxCl,hw,bU,CL,s1,AS Ap,gU,s2];generalize hB:H++[Blk.cel 0 (cCl c)]=B;have e1:(B++[Blk.cel 0 (A3 (2^(v-1)))]++[Blk.cel 0 (A3 (-(2^(v-1))))])[H.length]? = some (.cel 0 (cCl c)):=by rw[<-hB];simp
 have e2:(B++[Blk.cel 0 (A3 (2^(v-1)))]++[Blk.cel 0 (A3 (-(2^(v-1))))])[B.length]? = some (.cel 0 (A3 (2^(v-1)))):=by simp
 have e3:(B++[Blk.cel 0 (A3 (2^(v-1)))]++[Blk.cel 0 (A3 (-(2^(v-1))))])[(B++[Blk.cel 0 (A3 (2^(v-1)))]).length]? = some (.cel 0 (A3 (-(2^(v-1))))):=Ap;have fin:∀q:Bool,rP H (.bool q) (B++[Blk.cel 0 (A3 (2^(v-1)))]++[Blk.cel 0 (A3 (-(2^(v-1))))])=some (.ret (.bool q),H):=λq=>by rw[<-hB];simp only[UP];exact Fv
 unfold EN inZ;simp only[GMw,Ah,UJ,Nat.add_zero,Jd e1,Jc e1,AS e2,AS e3,hx _ _ aW,hx _ _ aW.neg,hy _ _ aW,hy _ _ aW.neg,FY,FX];cases decide (-(2^(v-1))<=c.x)with
 | false=>simp only[GMw,fin]
 | true=>
  simp only[GMw,Ah,UJ,Nat.add_zero,Jd e1,Jc e1,AS e2,AS e3,hx _ _ aW,hx _ _ aW.neg,hy _ _ aW,hy _ _ aW.neg,FY,FX];cases decide (c.x<2^(v-1))with
  | false=>simp only[GMw,fin]
  | true=>
   simp only[GMw,Ah,UJ,Nat.add_zero,Jd e1,Jc e1,AS e2,AS e3,hx _ _ aW,hx _ _ aW.neg,hy _ _ aW,hy _ _ aW.neg,FY,FX];cases decide (-(2^(v-1))<=c.y)with
   | false=>simp only[GMw,fin]
   | true=>
    simp only[GMw,Ah,UJ,Nat.add_zero,Jd e1,Jc e1,AS e2,AS e3,hx _ _ aW,hx _ _ aW.neg,hy _ _ aW,hy _ _ aW.neg,FY,FX,fin]
end Go.Gm
