/- Texts of this proof, joined. -/
import Derived.Test.YtagddbecnkbcdaaGreatJ2
import Derived.Test.YtagddbecnkbcdaaGreatJ3
import Derived.Test.YtagddbecnkbcdaaGreatJ4
import Derived.Test.YtagddbecnkbcdaaGreatChecked
import Derived.KernelRfl
import Derived.ProofKit
import Derived.OpenShut
import Derived.JoinedCond
import Derived.Carry
import Derived.Shelf.Small.Strs
import Derived.Shelf.Small.Wraps
import Derived.Shelf.Strings.Search1
import Derived.Shelf.GgClosure.StringsIndexFunc
import Derived.Ground.GgwProg
import Derived.Shelf.GgClosure.StringsIndexFuncTop
import Derived.Shelf.Strings.Prefix
import Derived.Shelf.Strings.FuncGrows
import Derived.Test.YtagddbecnkbcdaaGreatProg
import Derived.RangeFuncBox
import Derived.RangeFuncLeaves
import Derived.Shelf.Abstract
import Derived.WalkKit
import Derived.OwnWalkIn
import Derived.TacticsInMore
import Derived.LoopNIn
import Derived.LoopIn
import Derived.Calls
set_option linter.all false
namespace Go.Gm
open Go.Proofs
set_option maxRecDepth 100000
def mixed:Tryz.prog.follows .mixedOrders=true:=by kernel_rfl
theorem PE:AC Tryz.prog Gs 235 (ap1 UdZ):=mk1 .keep (Aq _ _) [] Tryz.func235
theorem LD:AC Tryz.prog Gs 140 (ap1 Ufs):=mk1 .keep (Aq _ _) [] Tryz.func140
theorem DQ:AC Tryz.prog Gs 201 (ap1 Ubn):=mk1 .keepN ((Ag LD (Aq _ _))) [[0]] Tryz.func201
open Go.ChangeShapes Go.WideShapes Go.ChangeAt Go.RowKit
def Vo9 (W:World):Env:=⟨λ_ _=>none,λ_ _=>none,λb o=>W.cell? ⟨b,o,none⟩⟩
theorem Vqy (W:World)(hf:∀b cs,Vqb b=some cs->0<cs.size/\∃t fr,W.heap[b]? = some (.cells cs t fr)):Sim (Vo9 W) [] W:=
 ⟨λid B h=>(by simp at h),λid g b h=>(by cases h),λid g b h=>(by cases h),λid B n h=>(by simp at h),λid id' b h=>(by simp[loc]at h),λb o v h=>h,λb cs h=>by obtain⟨h0,t,fr,h1⟩:=hf b cs h;exact⟨⟨t,fr,h1⟩,⟨cs[0],by rw[show(Vo9 W).I b 0=W.cell? ⟨b,0,none⟩ from rfl,Bo h1];simp[h0]⟩,λid=>by simp[loc]⟩⟩
theorem Si {E0:Env}{w0:World}{E:Env}{H:Aa}{w:World}(h:Cf E0 [] w0 E H w):Below w0.heap.size w0 w:=
 ⟨h.os,h.tape,h.output,h.size,λk hk=>h.frame k hk (λ⟨i,hi⟩=>by simp[loc]at hi)⟩
def VgM {P:Program}{G:ID}{g:FuncId}{F:List Ab->Aa->Out}(hF:AC P G g F){fn:Func}(hf:P.funcs[g]? = some fn)(hb:fn.body.isNone=false)(hn:(fn.name == "runtime.NumGoroutine")=false)
  {W:World}(Z2:∀b cs,Vqb b=some cs->0<cs.size/\∃t fr,W.heap[b]? = some (.cells cs t fr))(hG:DS G (Vo9 W)){args:List Ab}{vs:Array Value}(hv:AB (Vo9 W) args vs.toList)(h:F args []=some (.ret (.bool true),[])):Calls P g vs W λe W'=>e=.returned (.bool true)/\Below W.heap.size W W':=by
 rcases hF args [] _ _ h (Vo9 W) W vs hG (Vqy W Z2) hv with ⟨_,h1⟩ | ⟨v,w',h1,_⟩;refine h1.mono λe W' ⟨E',h2,_,h3⟩=>⟨?_,Si h3⟩;cases e with|returned v=>rw[A3.bool_inv h2]|panicked c=>exact h2.elim|outgrown=>exact h2.elim
 rw[FC hf hb hn]at h1;cases h1
section
variable {H:Type}{enc:TypeId×Value->H}{P:Program}
theorem Of (hl:laidOutB P=true){W W':World}(hb:Below W.heap.size W W'){sp:Nat->Bool}:∀ {ts:List TypeId} {vs:List Value} {ds:List (DataW H)} {ps:List MemPlace},
  (ts.all λt=>P.readableRec t&&decide (t<P.types.size))=true->DataW.TrodAll enc P W 0 (λ_=>true) true ts vs ds ps->(∀x∈ps,x.block<W.heap.size)->(∀x∈ps,sp x.block=true)->DataW.TrodAll enc P W' 0 sp true ts vs ds ps
 |[],_,_,_,_,h,_,_=>by obtain⟨rfl,rfl,rfl⟩:=trodAll_nil h;exact trodAll_mk0
 |t::ts,_,_,_,ht,h,hlt,hsp=>by
  obtain⟨v,vs1,d,ds1,a,b,rfl,rfl,rfl,h1,h2⟩:=trodAll_cons h;simp only[List.all_cons,VV,zXe]at ht;exact trodAll_cons_mk (WideElems.Trod_stays hl ht.1.1 ht.1.2 h1 (λx hx=>hb.same (hlt x (by simp[hx]))) (λx hx=>hsp x (by simp[hx])))
   (Of hl hb (by simpa using ht.2) h2 (λx hx=>hlt x (by simp[hx])) (λx hx=>hsp x (by simp[hx])))
theorem Vil {f:Func}{s:ChangeSpec}{W W':World}{args:Array Value}{ds gs:List (DataW H)}{before:List MemPlace}(hW:DataW.Whole enc P f.params.toList s.vars false W args.toList ds gs before)
  (hl:laidOutB P=true)(hr:(f.params.toList.all λt=>P.readableRec t&&decide (t<P.types.size))=true)(hB:Below W.heap.size W W')(mV:s.vars=[]){tb:TypeId}(tQ:f.resultTypes = #[tb])(nP:P.underlying tb=some .bool)
  (hres:(s.fn H (ds++gs)).results=[.lit (.bool true)])(eG:(s.fn H (ds++gs)).args=ds)(pJ:(s.fn H (ds++gs)).vars=[]):s.post enc P f false true false false W args (.bool true) W':=by
 have hold:∀p∈before,(λb=>decide (b<W.heap.size)) p.block=true:=λp hp=>by simpa using hW.lt p hp
 have hlt:=hW.lt;have hW':=hW;obtain⟨p,q,hA,hV,Zl,hz,hn⟩:=hW;rw[mV]at hV;obtain⟨rfl,rfl⟩:=trodVars_none hV;have vH:before=p:=by rw[Zl];simp
 subst vH;have ha:∀sp:Nat->Bool,(∀x∈before,sp x.block=true)->DataW.TrodAll enc P W' 0 sp true f.params.toList args.toList (s.fn H (ds++[])).args before:=λsp hsp=>by rw[eG];exact Of hl hB hr hA hlt hsp
 have eQ:∀(b:Nat)(sp:Nat->Bool)(hd:Bool),DataW.TrodAll enc P W' b sp hd f.resultTypes.toList ((Value.bool true).resultList f.resultTypes.size) (s.fn H (ds++[])).results []:=λb sp hd=>by rw[hres,tQ];exact trodAll_cons_mk (shut_bool nP _) trodAll_mk0
 have aQ:∀sp:Nat->Bool,DataW.TrodVars enc P W' sp s.vars (s.fn H (ds++[])).vars []:=λsp=>by rw[mV,pJ];rfl
 refine⟨ds,[],before,[],before,[],hW',eQ _ _ _,ha _ hold,aQ _,World.keptBut_mono (λp hp=>hp) (hB.frame _),λ_=>?_⟩;refine⟨ok_one tQ rfl (okWide_bool_mk nP _),_,_,([]++before)++[],⟨[]++before,[],trodAll_append (ha _ (λ_ _=>rfl)) (eQ _ _ _),aQ _,rfl,?_,?_⟩,?_⟩
 ·intro b off hp;have hp':MemPlace.cell b off∈before:=by simpa using hp
  rw[hB.frozen (hlt _ hp')];exact hz b off hp'
 intro h;cases h;intro p hp _;simpa using hp

end
open Go.RowKit
theorem UC {E:Env}{H:Aa}{w w':World}(h:Sim E H w)(hb:Below w.heap.size w w'):Sim E H w'/\Cf E H w E H w':=
 h.ext (.refl E) (λ_ _ _ h=>h) (λ_ _ _ h=>h) hb.block (λ_ _=>rfl) (λb o v hv hlt=>by have:=h.imm_lt hv;omega) hb.os hb.tape hb.output hb.size
def Env.bare (E:Env):Env:=⟨λ_ _=>none,λ_ _=>none,E.I⟩
theorem Vh3 {E:Env}{H:Aa}{w:World}(h:Sim E H w):Sim E.bare [] w:=
 ⟨λid B h=>(by simp at h),λid g b h=>(by cases h),λid g b h=>(by cases h),λid B n h=>(by simp at h),λid id' b h=>(by simp[loc]at h),λb o v hv=>h.imm b o v hv,λb cs hf=>⟨(h.fix b cs hf).1,(h.fix b cs hf).2.1,λid=>by simp[loc]⟩⟩
def ViP {P:Program}{G:ID}{g:FuncId}{F:List Ab->Aa->Out}(hF:AC P G g F){fn:Func}(hf:P.funcs[g]? = some fn)(hB:fnB 0 fn=true)
  {E:Env}{H:Aa}{w:World}(hG:DS G E.bare)(hs:Sim E H w){args:List Ab}{vs:Array Value}(hv:AB E.bare args vs.toList){res:Res}(h:F args []=some (res,[])):Calls P g vs w λe w'=>(∃E',Jk E' res e)/\Below w.heap.size w w':=by
 obtain⟨b1,b2,b3⟩:=FW hB;rcases hF args [] _ _ h E.bare w vs hG (Vh3 hs) hv with ⟨_,h1⟩ | ⟨v,w',h1,_⟩;exact h1.mono λe w' ⟨E',h2,_,h3⟩=>⟨⟨E',h2⟩,Si h3⟩;rw[FC hf b1 b2]at h1;cases h1
def VjI {P:Program}{G:ID}{g:FuncId}{fn:Func}(hf:P.funcs[g]? = some fn)(hB:fnB 0 fn=true){args:List Ab}{H:Aa}{x:Ab}
  (h:∀(E:Env)(w:World)(vs:Array Value),DS G E->Sim E H w->AB E args vs.toList->∃v,A3 E x v/\Calls P g vs w λe w'=>e=.returned v/\Below w.heap.size w w'):Vhm P G g args H (.ret x) H:=by
 intro E w vs hG hs hv;obtain⟨v,h1,h2⟩:=h E w vs hG hs hv;obtain⟨b1,b2,b3⟩:=FW hB;refine .inl ⟨FC hf b1 b2 vs w,h2.mono λe w' ⟨he,hb⟩=>?_⟩;subst he;obtain⟨k1,k2⟩:=UC hs hb;exact⟨E,h1,k1,k2⟩
def Voz {E:Env}{a:Ab}{vs:Array Value}(h:AB E [a] vs.toList):∃v,vs = #[v]/\A3 E a v:=by
 obtain⟨l⟩:=vs
 match l,h with
 |[v],h=>exact⟨v,rfl,h.head⟩
 |[],h=>exact zYf h.1 (by simp)
 |_::_::_,h=>exact zYf h.1 (by simp)
def Vml {E:Env}{a b:Ab}{vs:Array Value}(h:AB E [a,b] vs.toList):∃v u,vs = #[v,u]/\A3 E a v/\A3 E b u:=by
 obtain⟨l⟩:=vs
 match l,h with
 |[v,u],h=>exact⟨v,u,rfl,h.head,h.tail.head⟩
 |[],h=>exact zYf h.1 (by simp)
 |[_],h=>exact zYf h.1 (by simp)
 |_::_::_::_,h=>exact zYf h.1 (by simp)
def VdY {E:Env}{s:zAa}{v:Value}(h:A3 E (.str s) v):v=.string ⟨s.toArray⟩:=by cases h;rfl
def Ru {E:Env}{k:IntKind}{n:Int}{v:Value}(h:A3 E (.int k n) v):v=.int k n:=by cases h;rfl
end Go.Gm
/-
 DERIVED: THE SHELF's CONTRACTS AT THIS DUMP,IN PLAIN WORDS (tools/lay-plain.mjs out of 'TryzShelf.lean',which tools/lay-shelf.mjs wrote): THE SAME DECLARATIONS UNDER THE SAME NAMES: 'import','namespace','open','def','theorem' AND NOTHING ELSE: no command of the shelf's: FOR A HAND-IN. Each laying: the table of numbers ('.._ren') and one theorem,a field a fact of the dump's own or the kernel's comparison;each contract: ONE APPLICATION.
-/
namespace Go.Proofs
open Go.Shelf
def Tryz.lays137_ren:Go.Shelf.Ren:=⟨fun | 137=>177 | 217=>220 | 266=>231 | n=>n,fun | 9=>9 | 5=>5 | 3=>3 | n=>n,fun | n=>n⟩
theorem Tryz.lays137:Go.Proofs.Lays.n137 Tryz.prog Tryz.lays137_ren:={
 mixed:=by kernel_rfl
 f137:=Tryz.func177.trans (congrArg some (by kernel_rfl))
 f217:=Tryz.func220.trans (congrArg some (by kernel_rfl))
 f266:=Tryz.func231.trans (congrArg some (by kernel_rfl))
 t3:=Tryz.underlying3
 a3:=Tryz.isAgg3
 z3:=Tryz.sizeOf3
 v3:=Tryz.zeroValue3
 t5:=Tryz.underlying5
 a5:=Tryz.isAgg5
 z5:=Tryz.sizeOf5
 v5:=Tryz.zeroValue5
 t9:=Tryz.underlying9
 a9:=Tryz.isAgg9
 z9:=Tryz.sizeOf9
 v9:=Tryz.zeroValue9}
open Go.RowKit in
theorem Tryz.strings_IndexByte (s:ByteArray)(c:Int)(w:World):Calls Tryz.prog 177 #[.string s,.int .u8 c] w λe w'=>e=.returned (.i6 (Lib.indexByte s.data.toList c.toNat.toUInt8))/\w'=w:=Any.strings_IndexByte Tryz.lays137 s c w
def Tryz.laysGw15_ren:Go.Shelf.Ren:=⟨fun | 15=>234 | 20=>239 | n=>n,fun | 9=>9 | 23=>256 | 3=>3 | 4=>4 | 0=>0 | 21=>21 | n=>n,fun | n=>n⟩
theorem Tryz.laysGw15:Go.Proofs.LaysGw.n15 Tryz.prog Tryz.laysGw15_ren:={
 mixed:=by kernel_rfl
 f15:=Tryz.func234.trans (congrArg some (by kernel_rfl))
 f20:=Tryz.func239.trans (congrArg some (by kernel_rfl))
 t0:=Tryz.underlying0
 a0:=Tryz.isAgg0
 z0:=Tryz.sizeOf0
 v0:=Tryz.zeroValue0
 i0:=by kernel_rfl
 t3:=Tryz.underlying3
 a3:=Tryz.isAgg3
 z3:=Tryz.sizeOf3
 v3:=Tryz.zeroValue3
 i3:=by kernel_rfl
 t4:=Tryz.underlying4
 a4:=Tryz.isAgg4
 z4:=Tryz.sizeOf4
 v4:=Tryz.zeroValue4
 i4:=by kernel_rfl
 t9:=Tryz.underlying9
 a9:=Tryz.isAgg9
 z9:=Tryz.sizeOf9
 v9:=Tryz.zeroValue9
 i9:=by kernel_rfl
 t21:=Tryz.underlying21
 a21:=Tryz.isAgg21
 z21:=Tryz.sizeOf21
 v21:=Tryz.zeroValue21
 i21:=by kernel_rfl
 t23:=Tryz.underlying256
 a23:=Tryz.isAgg256
 z23:=Tryz.sizeOf256
 v23:=Tryz.zeroValue256
 i23:=by kernel_rfl}
open Go.RowKit Go.Lib in
theorem Tryz.strings_IndexFunc_grows (g:Nat)(lb:Array Value)(eg:∀args w,(callFunc g args).run Tryz.prog w=.ok (.enter g args) w)(p:Nat->Bool)(s:ByteArray)(w:World)(hp:PredGrows Tryz.prog g lb p w):Calls Tryz.prog 234 #[.string s,.func (.func g) #[] lb] w λe w'=>e=.returned (.i6 (Lib.idxFunc p true s))/\Below w.heap.size w w':=Any.strings_IndexFunc_grows Tryz.laysGw15 g lb eg p s w hp
end Go.Proofs
namespace Go.Gm
@[simp 2000] theorem BI {α β:Type}(a:α)(f:α->Option β):(some a).bind f=f a:=(rfl)
theorem EN {G:LK->LK}(N:Nat)(p:Nat->Bool)(st:Nat->List Ab)(H:Aa)(yes no:Out)(hN:N<1152921504606846976)
  (turn:∀(rec:LK)(i:Nat),i<N->G rec (st i) H=if p i then rec (st (i+1)) H else no)(last:∀rec:LK,G rec (st N) H=yes):An G AI (st 0) H=if (List.range N).all p then yes else no:=by
 refine Bf (σ:=Nat) (λi=>i<=N/\∀j,j<i->p j=true) st (λ_=>H) (λi=>N-i) (λ_=>if (List.range N).all p then yes else no) (λi rec hi hrec=>?_) 0 ⟨Wi _,λj hj=>by omega⟩ (by omega);by_cases h:i<N
 ·rw[turn rec i h];cases hp:p i with
  |true=>exact hrec (i+1) ⟨h,λj hj=>by
    by_cases e:j=i;rw[e];exact hp
    ·exact hi.2 j (by omega)⟩ (by omega)
  |false=>have:(List.range N).all p=false:=(by rw[X7];exact⟨i,by simpa using h,by simp[hp]⟩);simp[this]
 ·have e:i=N:=by omega
  subst e;have:(List.range i).all p=true:=by rw[Wf];intro j hj;exact hi.2 j (by simpa using hj)
  rw[last,this];rfl
def O6 {G:LK->LK}(N:Nat)(p:Nat->Bool)(st:Nat->List Ab)(H:Aa)(none':Out)(found:Nat->Out)(hN:N<1152921504606846976)
  (turn:∀(rec:LK)(i:Nat),i<N->G rec (st i) H=if p i then found i else rec (st (i+1)) H)(last:∀rec:LK,G rec (st N) H=none'):An G AI (st 0) H=match (List.range N).find? p with | some i=>found i | none=>none':=by
 refine Bf (σ:=Nat) (λi=>i<=N/\∀j,j<i->p j=false) st (λ_=>H) (λi=>N-i) (λ_=>match (List.range N).find? p with | some i=>found i | none=>none') (λi rec hi hrec=>?_) 0 ⟨Wi _,λj hj=>by omega⟩ (by omega);by_cases h:i<N
 ·rw[turn rec i h];cases hp:p i with
  |false=>exact hrec (i+1) ⟨h,λj hj=>by
    by_cases e:j=i;rw[e];exact hp
    ·exact hi.2 j (by omega)⟩ (by omega)
  |true=>have:(List.range N).find? p=some i:=(by rw[Yn];exact⟨hp,by simpa using h,λj hj=>by simp[hi.2 j hj]⟩);rw[this];rfl
 ·have e:i=N:=by omega
  subst e;have:(List.range i).find? p=none:=by rw[XD];intro j hj;simp[hi.2 j (by simpa using hj)]
  rw[last,this]
def BF {sz:Nat}{cs:List Ab}{H:Aa}(h:cs.all Ab.isScal=true)(hl:cs.length=sz):Bj true sz (.agg cs) H=some (.ptr H.length 0 0,H++[.c0 cs]):=by unfold Bj;rw[C0 h];simp[hl,alloc_eq h]
def Vmj {v:Ab}{p:Ab->Prop}{k:Ab->Out}(hp:p v):bC (some v) p k=k v:=by simp only[bC,zXa,Vbt hp]
def DJ {cs vs:List Ab}{sz:Nat}(h:cs.length=sz):D3 cs 0 sz vs=vs:=by simp[D3,XO (XL h)]
def N0 {cs vs:List Ab}{sz g:Nat}{v:Ab}{G:Aa}(hv:v.acells=some vs)(h:cs.length=sz)(h2:vs.length=sz):Ae sz (.ptr 0 g 0) v (.cel g cs::G)=some (.cel g vs::G):=by rw[Sg,hv];simp only[zXa,h2,h,VK,VM,zYi,zYd,DJ h]
@[simp] theorem Vjk {x:Out}:chk True x=x:=Vbt trivial x
@[simp] theorem Voy {v:Ab}{p:Ab->Prop}{k:Ab->Out}:bC (some v) p k=chk (p v) (k v):=(rfl)
section
variable {x:Option Ab}{p:Bool->Ab->Prop}{k:Ab->Out}{w:Bool}
@[simp] theorem VnI:gkc (.bool true) true x p k=bC x (p true) k:=(rfl)
@[simp] theorem VnL:gkc (.bool false) false x p k=bC x (p true) k:=(rfl)
@[simp] theorem VnJ:gkc (.bool true) false x p k=chk (p false C9) (k C9):=(rfl)
@[simp] theorem VnK:gkc (.bool false) true x p k=chk (p false C9) (k C9):=(rfl)
@[simp] theorem Vp8:gkc (.tup []) w x p k=chk (p false C9) (k C9):=(rfl)

end
def O2 (p:Nat->Bool):(List.range 4).all p=(p 0&&p 1&&p 2&&p 3):=by show(p 0&&(p 1&&(p 2&&(p 3&&true))))=_;cases p 0<;>cases p 1<;>cases p 2<;>cases p 3<;>rfl
theorem OK {n:Nat}(h:n<9223372036854775808):I_.wrap (n:Int)=(n:Int):=Am (by omega) (by omega)
def Ar {n:Nat}(h:n<9223372036854775807):I_.wrap ((n:Int)+1)=((n+1:Nat):Int):=by rw[Am]<;>omega
def Hk {n:Nat}(h:0<n)(h2:n<9223372036854775807):I_.wrap ((n:Int)-1)=((n-1:Nat):Int):=by rw[Am]<;>omega
@[simp] theorem GS {a b:Int}:(a==b)=decide (a=b):=by rw[VZ];simp
@[simp] theorem RU {a b:Int}:(a != b) = !decide (a=b):=by rw[VZ];simp
structure Nd where
 lv:Int
 k0:Int
 k1:Int
 k2:Int
 k3:Int
deriving DecidableEq
def Nd.kid (x:Nd)(k:Nat):Int:=match k with | 0=>x.k0 | 1=>x.k1 | 2=>x.k2 | _=>x.k3
def cNd (x:Nd):List Ab:=[.i6 x.lv,.i6 x.k0,.i6 x.k1,.i6 x.k2,.i6 x.k3]
instance:Sz cNd 5:=⟨λ_=>rfl⟩
section
variable {x y:Nd}{H:Aa}{k:Nat}
@[simp] theorem Eu:(cNd x)[0]? = some (.i6 x.lv):=(rfl)
theorem EE (h:k<4):(cNd x)[1+k]? = some (.i6 (x.kid k)):=by
 match k,h with
 |0,_=>rfl
 |1,_=>rfl
 |2,_=>rfl
 |3,_=>rfl
theorem Fb {K:IntKind}{cs:List Ab}{o:Nat}(h:k<4):BM 4 1 (.cptr cs o) (.int K (k:Int))=some (.cptr cs (o+k*1)):=by unfold BM;simp only[];rw[zYc ⟨by omega,by omega⟩];simp
theorem Jz:Ad true 5 (.cptr (cNd x) 0) H=some (.agg (cNd x)):=(rfl)
theorem Jg:(cNd x).all Ab.isScal=true:=(rfl)
theorem VE:(Ab.agg (cNd x)).acells=some (cNd x):=(rfl)
theorem PA:Cg (cNd x) (cNd y)=some (decide (x=y)):=by obtain⟨a,b,c,d,e⟩:=x;obtain⟨a',b',c',d',e'⟩:=y;simp only[cNd,Cg,HA,zYd,zXa,VT];rw[VZ];simp
theorem Voe:Af (.flat 5) .eql (.agg (cNd x)) (.agg (cNd y))=some (.bool (decide (x=y))):=by
 show(eqA (.flat 5) (.agg (cNd x)) (.agg (cNd y))).map Ab.bool=_;have h:eqA (.flat 5) (.agg (cNd x)) (.agg (cNd y))=some (decide (x=y)):=by unfold eqA;simp only[];rw[zYc (show(cNd x).length=5 from rfl),PA]
 rw[h];rfl
theorem Vn5:Af (.flat 5) .neq (.agg (cNd x)) (.agg (cNd y))=some (.bool (!decide (x=y))):=by
 show(eqA (.flat 5) (.agg (cNd x)) (.agg (cNd y))).map (λb=>Ab.bool (!b))=_;have h:eqA (.flat 5) (.agg (cNd x)) (.agg (cNd y))=some (decide (x=y)):=by unfold eqA;simp only[];rw[zYc (show(cNd x).length=5 from rfl),PA]
 rw[h];rfl

end
def Kx (x:Nd):AK 5 [.agg (cNd x)]=some (.sl (enL cNd [x]) .ti):=by simp[AK,Df,VE];simp[cNd,KP,Cq,enL]
def Ka:Ab->Bool
 |.bool _=>true
 |.int _ _=>true
 |.str _=>true
 |.sl _ .no=>true
 |.sl _ .ti=>true
 |_=>false
class Pl {α:Type} (f:α->List Ab):Prop where
 pl:∀a,(f a).all Ka=true
instance:Pl cB:=⟨λ_=>rfl⟩
instance:Pl cU:=⟨λ_=>rfl⟩
instance:Pl cI:=⟨λ_=>rfl⟩
instance:Pl cN:=⟨λ_=>rfl⟩
instance:Pl cY:=⟨λ_=>rfl⟩
instance:Pl cS:=⟨λ_=>rfl⟩
instance:Pl cNd:=⟨λ_=>rfl⟩
def Vft {c:Ab}(h:Ka c=true):c.isScal=true:=by cases c<;>first | rfl | (simp[Ka]at h)
def Vin {c:Ab}(h:Ka c=true):Cq c=true:=by
 cases c<;>first | rfl | (simp[Ka]at h)
 rename_i es tk;cases tk<;>first | rfl | (simp at h)
def Vcc {c:Ab}{H:Aa}{n d:Nat}(h:Ka c=true):frz H n (d+1) c=some c:=by
 cases c<;>first | (simp[frz];done) | (simp[Ka]at h)
 rename_i es tk;cases tk<;>first | (simp[frz];done) | (simp at h)
theorem Hp {H:Aa}{n d:Nat}:∀ {cs:List Ab},cs.all Ka=true->Ei H n (d+2) cs=some cs
 |[],_=>by simp[Ei]
 |c::cs,h=>by simp only[List.all_cons,VV]at h;simp[Ei,Vcc h.1,Hp h.2]
section
variable {α:Type}{f:α->List Ab}{l:List α}{sz i n:Nat}{a:α}{H:Aa}{id:Nat}{K:IntKind}
def flat (f:α->List Ab)(l:List α):List Ab:=l.flatMap f
@[simp] theorem VoP:flat f []=[]:=(rfl)
theorem DF:flat f (a::l)=f a++flat f l:=by simp[flat]
theorem QT {m:List α}:flat f (l++m)=flat f l++flat f m:=by simp[flat]
theorem Fv [hf:Sz f sz]:∀(l:List α),(flat f l).length=l.length*sz
 |[]=>by simp
 |a::l=>by have:=Fv l;simp only[DF,VR,hf.len,zXj,Yp];omega
theorem NI [hp:Pl f]:∀(l:List α),(flat f l).all Ka=true
 |[]=>rfl
 |a::l=>by simp only[DF,Yv,VV];exact⟨hp.pl a,NI l⟩
theorem Pw [hp:Pl f](l:List α):(flat f l).all Cq=true:=by rw[Wf];intro c hc;exact Vin (Wf.1 (NI (f:=f) l) c hc)
theorem Qq [hf:Sz f sz]:∀(l:List α)(i:Nat),(flat f l).drop (i*sz)=flat f (l.drop i)
 |[],i=>by simp
 |a::l,0=>by simp
 |a::l,i+1=>by
  have:=Qq l i;rw[XA,<-this,DF,Yp,Yq,List.drop_append,hf.len,XO (by rw[hf.len];omega),List.nil_append]
  congr 1;omega
theorem NH [hf:Sz f sz]:∀(l:List α)(i:Nat),(flat f l).take (i*sz)=flat f (l.take i)
 |[],i=>by simp
 |a::l,0=>by simp
 |a::l,i+1=>by
  have:=NH l i;rw[List.take_succ_cons,DF,DF,<-this,Yp,Yq,List.take_append,hf.len,VW (by rw[hf.len];omega)]
  congr 2;omega
theorem RG [hf:Sz f sz](h:i<l.length):((flat f l).drop (i*sz)).take sz=f l[i]:=by rw[Qq,Wl h,DF,Xl (by rw[hf.len];omega),VW (by rw[hf.len];omega)]
theorem Tm [hf:Sz f sz](h:i<l.length):D3 (flat f l) (i*sz) sz (f a)=flat f (l.set i a):=by
 have e:l.set i a=l.take i++a::l.drop (i+1):=by rw[XI,zYc h]
 have e2:i*sz+sz=(i+1)*sz:=by rw[Yp]
 unfold D3;rw[e,e2,NH,Qq,QT,DF];simp
theorem KS [hf:Sz f sz](h:i<l.length):i*sz+sz<=(flat f l).length:=by rw[Fv,<-Yp];exact Ww _ h
theorem CZ {g off cap:Nat}{ex:Bool}(h:i<n):Aw sz (.ms id g off n cap sz ex) (.int K (i:Int))=some (.ptr id g (off+i*sz)):=by unfold Aw;simp only[];rw[zYc ⟨trivial,by omega,by omega⟩];simp
theorem I3 [hf:Sz f 1](hg:AD H id 0=some (flat f l))(h:i<l.length):Ad false 1 (.ptr id 0 i) H=(f l[i])[0]? := by have h1:=RG (f:=f) (sz:=1) h;have h2:=KS (f:=f) (sz:=1) h;simp only[Wa]at h1 h2;simp only[Ad,hg,zXa,VL,zYe];rw[<-h1];simp
theorem Vcm [hf:Sz f sz](hg:AD H id 0=some (flat f l))(h:i<l.length):Ad true sz (.ptr id 0 (i*sz)) H=some (.agg (f l[i])):=by simp only[Ad,hg,zXa,zYd,KS h,RG h]
theorem Eb [hf:Sz f sz]{v:Ab}(hg:AD H id 0=some (flat f l))(h:i<l.length)(hv:v.acells=some (f a)):Ae sz (.ptr id 0 (i*sz)) v H=some (FR H id 0 (flat f (l.set i a))):=by simp only[Ae,hg,zXa,hv,hf.len,KS h,zYi,zYd,Tm h]
theorem UR:∀(n:Nat),My n (f a)=flat f (List.replicate n a)
 |0=>rfl
 |n+1=>by have:=UR n;simp only[My,zXm,List.flatten_cons,DF]at this⊢;rw[this]
theorem F9 [hf:Sz f sz][hp:Pl f]{bytes:Nat}(hb:n*bytes<=140737488355328)(hn:n<=140737488355328):FG sz bytes (some (f a)) (.i6 (n:Int)) (.i6 (n:Int)) H=some (.ms H.length 0 0 n n sz true,H++[.c0 (flat f (List.replicate n a))]):=by
 have h1:((n:Int)*(bytes:Int))<=140737488355328:=by have:((n*bytes:Nat):Int)<=140737488355328:=(by omega);simpa using this
 have h2:(f a).all Ab.isScal=true:=by rw[Wf];intro c hc;exact Vft (Wf.1 (hp.pl a) c hc)
 unfold FG;simp only[zXa];rw[zYc ⟨h2,hf.len a,by omega,by omega,h1,by omega⟩];simp only[zXl,UR]
theorem MT [hf:Sz f sz]:∀(l:List α),GL sz l.length (flat f l)=enL f l
 |[]=>rfl
 |a::l=>by have:=MT l;simp only[zXj,GL,DF,enL,Xo,Xl (XL (hf.len a).symm),VW (XL (hf.len a)),List.drop_left' (hf.len a)];rw[this];rfl
theorem Vbh [hf:Sz f sz][hp:Pl f]{b d cap:Nat}{ex:Bool}(hg:AD H id 0=some (flat f l))(hi:b<=id):Hv H b (d+3) (.ms id 0 0 l.length cap sz ex)=some (.sl (enL f l) .no):=by
 have h1:¬id<b:=by omega
 unfold Hv;simp only[frz,h1,zYe,hg,zXa,Xa,VK,Fv,VM,zYd,VW (XL (Fv (f:=f) l)),Hp (NI (f:=f) l),Pw (f:=f) l,MT,zXb,forget,E9,fgt]
@[simp] theorem UM {G:Aa}{g:Nat}{cs:List Ab}:FR (H++G) H.length g cs=H++FR G 0 g cs:=Sn (k:=0)
@[simp] theorem VmX {G:Aa}{g k:Nat}{cs:List Ab}:FR (H++G) (H.length+k) g cs=H++FR G k g cs:=Sn
@[simp] theorem UK {G:Aa}{g g':Nat}{c cs:List Ab}:FR (.cel g' c::G) 0 g cs=.cel g cs::G:=(rfl)
@[simp] theorem VoD {G:Aa}{g k:Nat}{b:Blk}{cs:List Ab}:FR (b::G) (k+1) g cs=b::FR G k g cs:=UL

end
def A0 {H:Aa}{p:Nat}{cs:List Ab}(hg:H[p]? = some (.c0 cs)):AD H p 0=some cs:=by simp[AD,hg]
def BB {a:Bool}{sz p g o:Nat}{H G:Aa}{v:Ab}(h:Ad a sz (.ptr p g o) H=some v):Ad a sz (.ptr p g o) (H++G)=some v:=by
 unfold Ad at h⊢;simp only at h⊢;cases hg:AD H p g with
 |none=>rw[hg]at h;cases h
 |some cs=>
  have:AD (H++G) p g=some cs:=by have hlt:p<H.length:=(by by_cases hl:p<H.length;exact hl;unfold AD at hg;rw[zYa (by omega)]at hg;cases hg);rw[VlD hlt];exact hg
  rw[this];rw[hg]at h;exact h
def BE {H:Aa}{p:Nat}{cs cs':List Ab}(hg:H[p]? = some (.c0 cs)):FR H p 0 cs'=H.set p (.c0 cs'):=by simp[FR,hg]
def Ap {cs:List Ab}{B:Aa}:(B++[Blk.c0 cs])[B.length]? = some (.c0 cs):=by simp
def Bg {B:Aa}{b b':Blk}:(B++[b]).set B.length b'=B++[b']:=by simp
theorem QZ:∀l:zAa,Dd (flat cY l)=some l
 |[]=>rfl
 |b::l=>by have:=QZ l;rw[DF];show Dd (.int .u8 (b.toNat:Int)::flat cY l)=_;simp only[Dd,this,zXb];simp
def Vhy {l:zAa}{H:Aa}{id:Nat}(hg:AD H id 0=some (flat cY l)):CR (.ms id 0 0 l.length l.length 1 true) H=some (.str l):=by have hl:=Fv (f:=cY) l;rw[Wa]at hl;simp only[CR,zYd,hg,zXa,VK,hl,VM,Xa,VW (XL hl),QZ,zXb]
theorem GMb:(((((((∀ {α β:Type} (a:α) (f:α->Option β),Option.bind (Option.some a) f=f a) /\
      (∀(v:Ab)(l:List Ab),ag (v::l) 0=v)) /\
      ((∀(a v:Ab)(l:List Ab),ag (a::v::l) 1=v) /\
      (∀(a b v:Ab)(l:List Ab),ag (a::b::v::l) 2=v))) /\
      (((∀(a b c v:Ab)(l:List Ab),ag (a::b::c::v::l) 3=v) /\
      (∀(a b c d v:Ab)(l:List Ab),ag (a::b::c::d::v::l) 4=v)) /\
      ((∀(a b c d e v:Ab)(l:List Ab),ag (a::b::c::d::e::v::l) 5=v) /\
      (∀ {ek:EqK} {k:IntKind} {a b:Int},Af ek BinOp.lss (Ab.int k a) (Ab.int k b)=Option.some (Ab.bool (Decidable.decide (a<b))))))) /\
      ((((∀ {ek:EqK} {k:IntKind} {a b:Int},Af ek BinOp.gtr (Ab.int k a) (Ab.int k b)=Option.some (Ab.bool (Decidable.decide (a>b)))) /\
      (∀ {ek:EqK} {k:IntKind} {a b:Int},Af ek BinOp.leq (Ab.int k a) (Ab.int k b)=Option.some (Ab.bool (Decidable.decide (a<=b))))) /\
      ((∀ {ek:EqK} {k:IntKind} {a b:Int},Af ek BinOp.geq (Ab.int k a) (Ab.int k b)=Option.some (Ab.bool (Decidable.decide (a>=b)))) /\
      (∀ {ek:EqK} {k:IntKind} {a b:Int},Af ek BinOp.eql (Ab.int k a) (Ab.int k b)=Option.some (Ab.bool (a==b))))) /\
      (((∀ {ek:EqK} {k:IntKind} {a b:Int},Af ek BinOp.neq (Ab.int k a) (Ab.int k b)=Option.some (Ab.bool (a != b))) /\
      (∀ {ek:EqK} {k:IntKind} {a b:Int},Af ek BinOp.add (Ab.int k a) (Ab.int k b)=Option.some (Ab.int k (IntKind.wrap k (a+b))))) /\
      ((∀ {ek:EqK} {k:IntKind} {a b:Int},Af ek BinOp.sub (Ab.int k a) (Ab.int k b)=Option.some (Ab.int k (IntKind.wrap k (a-b)))) /\
      ((∀ {ek:EqK} {k:IntKind} {a b:Int},Af ek BinOp.mul (Ab.int k a) (Ab.int k b)=Option.some (Ab.int k (IntKind.wrap k (a*b)))) /\
      (∀(a b:Out),Ai (Ab.bool Bool.true) a b=a)))))) /\
      (((((∀(a b:Out),Ai (Ab.bool Bool.false) a b=b) /\
      (∀(a b:Ab),Ay (Ab.bool Bool.true) a b=Option.some a)) /\
      ((∀(a b:Ab),Ay (Ab.bool Bool.false) a b=Option.some b) /\
      (∀ {kv:Ab->Out} (x:Option Ab),gk (Ab.bool Bool.true) Bool.true x kv=Option.bind x kv))) /\
      (((∀ {kv:Ab->Out} (x:Option Ab),gk (Ab.bool Bool.false) Bool.false x kv=Option.bind x kv) /\
      (∀ {kv:Ab->Out} (x:Option Ab),gk (Ab.bool Bool.true) Bool.false x kv=kv C9)) /\
      ((∀ {kv:Ab->Out} (x:Option Ab),gk (Ab.bool Bool.false) Bool.true x kv=kv C9) /\
      ((∀ {kv:Ab->Out} (w:Bool) (x:Option Ab),gk (Ab.tup []) w x kv=kv C9) /\
      (∀ {x:Option Ab} {p:Bool->Ab->Prop} {k:Ab->Out},gkc (Ab.bool Bool.true) Bool.true x p k=bC x (p Bool.true) k))))) /\
      ((((∀ {x:Option Ab} {p:Bool->Ab->Prop} {k:Ab->Out},gkc (Ab.bool Bool.false) Bool.false x p k=bC x (p Bool.true) k) /\
      (∀ {x:Option Ab} {p:Bool->Ab->Prop} {k:Ab->Out},gkc (Ab.bool Bool.true) Bool.false x p k=chk (p Bool.false C9) (k C9))) /\
      ((∀ {x:Option Ab} {p:Bool->Ab->Prop} {k:Ab->Out},gkc (Ab.bool Bool.false) Bool.true x p k=chk (p Bool.false C9) (k C9)) /\
      (∀ {x:Option Ab} {p:Bool->Ab->Prop} {k:Ab->Out} {w:Bool},gkc (Ab.tup []) w x p k=chk (p Bool.false C9) (k C9)))) /\
      (((∀ {v:Ab} {p:Ab->Prop} {k:Ab->Out},bC (Option.some v) p k=chk (p v) (k v)) /\
      (∀ {x:Out},chk True x=x)) /\
      ((∀ {H0 H:Aa} {k:Ab->Aa->Out} (x:Out),gbK H0 (Ab.bool Bool.true) Bool.true H x k=bK H0 x k) /\
      ((∀ {H0 H:Aa} {k:Ab->Aa->Out} (x:Out),gbK H0 (Ab.bool Bool.false) Bool.false H x k=bK H0 x k) /\
      (∀ {H0 H:Aa} {k:Ab->Aa->Out} (x:Out),gbK H0 (Ab.bool Bool.true) Bool.false H x k=k C9 H))))))) /\
      ((((((∀ {H0 H:Aa} {k:Ab->Aa->Out} (x:Out),gbK H0 (Ab.bool Bool.false) Bool.true H x k=k C9 H) /\
      (∀ {H0 H:Aa} {k:Ab->Aa->Out} (w:Bool) (x:Out),gbK H0 (Ab.tup []) w H x k=k C9 H)) /\
      ((∀ {H0 H:Aa} {k:Ab->Aa->Out} (x:Out),gbP H0 (Ab.bool Bool.true) Bool.true H x k=bP H0 x k) /\
      (∀ {H0 H:Aa} {k:Ab->Aa->Out} (x:Out),gbP H0 (Ab.bool Bool.false) Bool.false H x k=bP H0 x k))) /\
      (((∀ {H0 H:Aa} {k:Ab->Aa->Out} (x:Out),gbP H0 (Ab.bool Bool.true) Bool.false H x k=k C9 H) /\
      (∀ {H0 H:Aa} {k:Ab->Aa->Out} (x:Out),gbP H0 (Ab.bool Bool.false) Bool.true H x k=k C9 H)) /\
      ((∀ {H0 H:Aa} {k:Ab->Aa->Out} (w:Bool) (x:Out),gbP H0 (Ab.tup []) w H x k=k C9 H) /\
      (∀ {H:Aa} {k:Ab->Aa->Out} (x:Out),gbN (Ab.bool Bool.true) Bool.true H x k=AH x k)))) /\
      ((((∀ {H:Aa} {k:Ab->Aa->Out} (x:Out),gbN (Ab.bool Bool.false) Bool.false H x k=AH x k) /\
      (∀ {H:Aa} {k:Ab->Aa->Out} (x:Out),gbN (Ab.bool Bool.true) Bool.false H x k=k C9 H)) /\
      ((∀ {H:Aa} {k:Ab->Aa->Out} (x:Out),gbN (Ab.bool Bool.false) Bool.true H x k=k C9 H) /\
      (∀ {H:Aa} {k:Ab->Aa->Out} (w:Bool) (x:Out),gbN (Ab.tup []) w H x k=k C9 H))) /\
      (((∀ {H:Aa} {k:Ab->Aa->Out} (v:Ab),AH (Option.some (Res.ret v,H)) k=k v H) /\
      (∀ {H0 H:Aa} {k:Ab->Aa->Out} (v:Ab),bK H0 (Option.some (Res.ret v,H)) k=k v H)) /\
      ((∀ {H0 H:Aa} {k:Ab->Aa->Out} (v:Ab),bP H0 (Option.some (Res.ret v,H)) k=k v H) /\
      ((∀ {H0 H:Aa} (v:Ab),rK H0 v H=Option.some (Res.ret v,H)) /\
      (∀ {H H0:Aa} {v:Ab},rKN H0 v H=Option.some (Res.ret (forget v),H))))))) /\
      (((((∀ {c:Bool},unA UnOp.not (Ab.bool c)=Option.some (Ab.bool !c)) /\
      (∀ {H:Aa} (v:Ab),Vqf (Option.some v) H=Option.some (Res.ret v,H))) /\
      ((∀ {H:Aa},As (Option.some H)=Option.some (Res.ret Ab.undef,H)) /\
      (∀ {H:Aa} (v:Ab),Cd (Option.some (v,H))=Option.some (Res.ret v,H)))) /\
      (((∀ {H:Aa} {k:Ab->Aa->Out} (v:Ab),Al (Option.some (v,H)) k=k v H) /\
      (∀ {a b:Int},(a==b)=decide (a=b))) /\
      ((∀ {a b:Int},(a != b) = !decide (a=b)) /\
      (((!true)=false) /\
      ((!false)=true))))) /\
      (((((false=true)=False) /\
      (∀(b:Bool),(false||b)=b)) /\
      ((∀(b:Bool),(true||b)=true) /\
      (∀(b:Bool),(b||false)=b))) /\
      (((∀(b:Bool),(b||true)=true) /\
      (∀(b:Bool),(b&&true)=b)) /\
      ((∀(b:Bool),(true&&b)=b) /\
      ((∀(b:Bool),(b&&false)=false) /\
      (∀(b:Bool),(false&&b)=false)))))))):=
      ⟨⟨⟨⟨⟨⟨@BI,@At⟩,⟨@FE,@Gb⟩⟩,⟨⟨@Mj,@Od⟩,⟨@Vkj,@Bz⟩⟩⟩,⟨⟨⟨@FD,@VgY⟩,⟨@RW,@Fc⟩⟩,⟨⟨@NQ,@D9⟩,⟨@EF,⟨@RV,@Bb⟩⟩⟩⟩⟩,⟨⟨⟨⟨@AM,@CN⟩,⟨@CI,@J3⟩⟩,⟨⟨@QS,@VnM⟩,⟨@QR,⟨@Vp9,@VnI⟩⟩⟩⟩,⟨⟨⟨@VnL,@VnJ⟩,⟨@VnK,@Vp8⟩⟩,⟨⟨@Voy,@Vjk⟩,⟨@VnX,⟨@Voa,@VnY⟩⟩⟩⟩⟩⟩,⟨⟨⟨⟨⟨@VnZ,@VpC⟩,⟨@VnP,@VnS⟩⟩,⟨⟨@VnQ,@VnR⟩,⟨@VpA,@VnT⟩⟩⟩,⟨⟨⟨@VnW,@VnU⟩,⟨@VnV,@VpB⟩⟩,⟨⟨@IJ,@Il⟩,⟨@Ds,⟨@UX,@VeM⟩⟩⟩⟩⟩,⟨⟨⟨⟨@Sa,@VeE⟩,⟨@IG,@Hn⟩⟩,⟨⟨@BD,@GS⟩,⟨@RU,⟨Wp,W8⟩⟩⟩⟩,⟨⟨⟨@Bool.false_eq_true,@Bool.false_or⟩,⟨@Bool.true_or,@Bool.or_false⟩⟩,⟨⟨@Bool.or_true,@Bool.and_true⟩,⟨@Bool.true_and,⟨@Bool.and_false,@Bool.false_and⟩⟩⟩⟩⟩⟩⟩
theorem GMc:((∀(f:(List Ab->Aa->Out)->Out) (j:List Ab->Aa->Out),AL f j=f j)/\(∀h:Decidable True,@decide True h=true)/\(∀h:Decidable False,@decide False h=false)/\(∀(α:Type)(h:Decidable True)(t e:α),@ite α True h t e=t)/\(∀(α:Type)(h:Decidable False)(t e:α),@ite α False h t e=e)):=
 ⟨λ_ _=>rfl,λ_=>decide_true _,λ_=>zYh _,λ_ _ _ _=>zYd _ _,λ_ _ _ _=>zYe _ _⟩
def GMw:=And.intro GMb GMc
end Go.Gm
namespace Go.Proofs
open Go.RowKit Go.Shelf
attribute [local go_sem] Oper.semAt_some
def KB (n₀ Bs:Nat)(W W':World):Prop:=Below n₀ W W'/\W'.cell? ⟨Bs,0,none⟩=W.cell? ⟨Bs,0,none⟩
theorem KB.refl (n₀ Bs:Nat)(W:World):KB n₀ Bs W W:=⟨Below.refl _ _,rfl⟩
theorem KB.trans {n₀ Bs:Nat}{A B C:World}(h:KB n₀ Bs A B)(k:KB n₀ Bs B C):KB n₀ Bs A C:=⟨h.1.trans k.1,k.2.trans h.2⟩
def Nt (n k:Nat):List (Fin n):=(List.finRange n).reverse.take k
theorem OG {n k:Nat}(h:k<n):Nt n (k+1)=Nt n k++[⟨n-1-k,by omega⟩]:=by unfold Nt;rw[List.take_add_one,List.getElem?_reverse (by simpa using h)];simp;rw[List.getElem?_eq_getElem (by simp;omega)];simp
theorem Vaz {n k:Nat}(h:k<=n):(Nt n k).length=k:=by simp[Nt,h]
theorem QB {n:Nat}:∀(k:Nat)(j:Fin n),k<=n->n-k<=j.1->j∈Nt n k
 |0,j,_,h=>by have:=j.2;omega
 |k+1,j,hk,h=>by rw[OG (by omega)];by_cases e:j.1=n-1-k;exact List.mem_append_right _ (by simp;exact Fin.ext e);exact List.mem_append_left _ (QB k j (by omega) (by omega))
set_option maxRecDepth 100000 in
set_option maxHeartbeats 2000000 in
theorem Tryz.back1_in (F:Fence)(n:Nat)(h229:F.fn 229)(hro:F.round=none)(hn:1<=n)(l Bs n₀ b off len cap:Nat)(ao:Option Addr)(hao:0<len->ao=some ⟨b,off,none⟩)(zf:Nat->Nat)(hreach:len<=1099511627776)(hb:b<n₀)(J Jx:List (Fin len)->World->Prop)
  (hY:∀pre (x:Fin len) W,J pre W->pre.length<len->YieldAt F (n-1) Tryz.prog l #[.i6 (x.1:Int),.int .u32 ((zf x.1:Nat):Int)] W λe W'=>(e=.returned (.bool true)/\J (pre++[x]) W'/\KB n₀ Bs W W')\/(e=.returned (.bool false)/\Jx (pre++[x]) W'))
  (W:World)(hBs:W.cell? ⟨Bs,0,none⟩=some (.slice ao len cap))(hc:∀j,j<len->W.cell? ⟨b,off+j,none⟩=some (.int .u32 ((zf j:Nat):Int)))(h0:J [] W):CallsIn F n Tryz.prog 229 #[.func (.yield l) #[] #[],.pointer (some ⟨Bs,0,none⟩)] W λe W'=>(∃v,e=.returned v) /\
   ((∃ys,ys=Nt len len/\J ys W')\/(∃pre,(∃k,k<len/\pre=Nt len (k+1))/\Jx pre W')):=by
 refine callsIn_of_wp Tryz.func229 rfl h229 ?_ hro;simp only[Tryz.ntmps229,List.size_toArray,List.length_cons,List.length_nil,Nat.reduceAdd,Nat.reduceSub,Array.replicate_succ,Array.replicate_zero,List.push_toArray,List.append_toArray,List.nil_append,List.cons_append]
 gi_wp2
 gi_loopw [3] (λi wr=>∃k:Nat,k<=len/\i=.i6 ((len:Int)-1-k)/\J (Nt len k) wr/\KB n₀ Bs W wr)
  (λi _=>((intOf i)+1).toNat)
 case atStart=>exact⟨0,Nat.zero_le _,by simp,h0,KB.refl _ _ _⟩
 case round=>
  obtain⟨k,hk,rfl,hJs,hkb⟩:=hrel;have hnx:=hkb.1;have hBs':=hkb.2.trans hBs;by_cases hlt:k<len
  ·have hao':=hao (by omega);subst hao';have hcx:=(hnx.cell (p:=⟨b,off+(len-1-k),none⟩) hb).trans (hc (len-1-k) (by omega));obtain⟨fn,tmps,assign,body,hy,hR⟩:=hY _ ⟨len-1-k,by omega⟩ wr hJs (by rw[Vaz hk];exact hlt);dsimp only at hy;have hlast:=OG hlt;obtain⟨i,hi⟩:∃i:Nat,i=len-1-k:=⟨_,rfl⟩;have hil:i<len:=(by omega);obtain⟨x,hx⟩:∃x:Fin len,x=⟨len-1-k,by omega⟩:=⟨_,rfl⟩;rw[<-hx]at hR hlast;clear hx;have hii:(len:Int)-1-(k:Int)=(i:Int):=(by omega);rw[<-hi]at hcx hy;have hstep:(i:Int)-1=(len:Int)-1-((k+1:Nat):Int):=(by omega);rw[hii];clear hi hii;obtain⟨z,hzz⟩:∃z:Nat,z=zf i:=⟨_,rfl⟩;rw[<-hzz]at hcx hy;clear hzz;clear hkb;have hkb:Hid (KB n₀ Bs W wr):=⟨hnx,hBs'.trans hBs.symm⟩
   gi_wp2
   refine hR.mono ?_;rintro e W3 (⟨rfl,hJ3,hk3⟩ | ⟨rfl,hJx3⟩)
   ·gi_wp2
    go_roundw
    case rel=>exact⟨k+1,by omega,by simp,by rw[hlast];exact hJ3,hkb.out.trans hk3⟩
    case measure=>simp[intOf];omega
   ·gi_wp2
    refine bodyPost_ret (results_none rfl _ _ _) rfl ?_;exact⟨⟨_,rfl⟩,.inr ⟨_,⟨k,hlt,hlast.symm⟩,hJx3⟩⟩
  ·obtain rfl:k=len:=by omega
   gi_wp2
   go_end0
   exact⟨⟨_,rfl⟩,.inl ⟨_,rfl,hJs⟩⟩
set_option maxHeartbeats 1000000 in
theorem Tryz.back_in (F:Fence)(n:Nat)(h205:F.fn 205)(hro:F.round=none)(a:Option Addr)(len cap:Nat)(w:World):CallsIn F n Tryz.prog 205 #[.slice a len cap] w λe w'=>e=.returned (.func (.func 229) #[] #[.pointer (some ⟨w.heap.size,0,none⟩)])/\w'=w.alloc (.cells #[.slice a len cap] 44):=by
 refine callsIn_of_wp Tryz.func205 rfl h205 ?_ hro;simp only[Tryz.ntmps205,List.size_toArray,List.length_cons,List.length_nil,Nat.reduceAdd,Nat.reduceSub,Array.replicate_succ,Array.replicate_zero,List.push_toArray,List.append_toArray,List.nil_append,List.cons_append]
 gi_wp2
 go_ret
 exact⟨rfl,rfl⟩
theorem Tryz.back_stops (F:Fence)(n:Nat)(h229:F.fn 229)(hro:F.round=none)(hn:1<=n)(Bs n₀ b off len cap:Nat)(ao:Option Addr)(hao:0<len->ao=some ⟨b,off,none⟩)(zf:Nat->Nat)(hreach:len<=1099511627776)(w:World)(hBs:Bs<w.heap.size)(hb:b<n₀)(hn₀:n₀<=w.heap.size)
  (hc:w.cell? ⟨Bs,0,none⟩=some (.slice ao len cap))(hI:∀j,j<len->w.cell? ⟨b,off+j,none⟩=some (.int .u32 ((zf j:Nat):Int))):SeqStopsK F n Tryz.prog 229 #[.pointer (some ⟨Bs,0,none⟩)] (λx:Fin len=>#[Value.i6 (x.1:Int),Value.int .u32 ((zf x.1:Nat):Int)]) (KB n₀ Bs) (λys=>ys=Nt len len)
   (λpre=>∃k,k<len/\pre=Nt len (k+1)) len w:=λl J Jx W hW _ _ hY h0=>
 Tryz.back1_in F n h229 hro hn l Bs n₀ b off len cap ao hao zf hreach hb J Jx hY W ((hW.cell (p:=⟨Bs,0,none⟩) hBs).trans hc) (λj hj=>(hW.cell (p:=⟨b,off+j,none⟩) (by show b<_;omega)).trans (hI j hj)) h0
end Go.Proofs
namespace Go.Gm
def Hl (l:zAb):Nat->Nat
 |0=>0
 |k+1=>if l[k]?.getD 0=0 then Hl l k else k+1
theorem OP (l:zAb):∀k,Hl l k<=k
 |0=>VM _
 |k+1=>by have:=OP l k;unfold Hl;split<;>omega
theorem JO {l:zAb}(hx:Lim l):∀k,k<=l.length->l.take (Hl l k)=A8 (val (l.take k))
 |0,_=>by have:A8 (val ([]:zAb))=[]:=(MI (l:=[]) ⟨λx h=>(by cases h),λx h=>(by cases h)⟩).symm;simpa[Hl]using this.symm
 |k+1,hk=>by have hg:l[k]? = some l[k]:=VG (by omega);have ht:l.take (k+1)=l.take k++[l[k]]:=VU (by omega);unfold Hl;split;rename_i h;rw[JO hx k (by omega),ht,C5];rw[hg,Option.getD_some]at h;rw[h];simp[val];rename_i h;rw[hg,Option.getD_some]at h;refine MI ⟨λx lH=>hx x (WV lH),λx lH=>?_⟩;rw[ht,List.getLast?_concat]at lH;cases lH;exact h
def VkJ {l:zAb}{H:Aa}{id k:Nat}(hg:H[id]? = some (.c0 (flat cU l)))(hk:k<=l.length)(hl:l.length<9223372036854775807):Ufs (.ms id 0 0 k l.length 1 true) H=some (.ret (.bool (decide (k=0)||decide (l[k-1]?.getD 0≠0))),H):=by
 unfold Ufs;cases k with
 |zero=>simp[A9]
 |succ k=>
  have hidx:=CZ (sz:=1) (id:=id) (n:=k+1) (K:=.i64) (g:=0) (off:=0) (cap:=l.length) (ex:=true) (i:=k) (by omega);simp only[VK,Wa]at hidx;have hld:=I3 (f:=cU) (id:=id) (l:=l) (H:=H) (show AD H id 0=some (flat cU l)by simp[AD,hg]) (i:=k) (by omega);have h0:¬((k+1:Nat):Int)=0:=by omega
  have hw:I_.wrap (((k+1:Nat):Int)-1)=(k:Int):=by rw[Am]<;>omega
  have wO:l[k]? = some l[k]:=VG (by omega);simp only[show A9 (.ms id 0 0 (k+1) l.length 1 true)=some (.i6 ((k+1:Nat):Int)) from rfl,GMw,h0,hw,hidx,hld,Wr,wO,Option.getD_some,X0];by_cases h:l[k]=0;simp[h];have:¬(l[k]:Int)=0:=(by omega);simp[h]
def VhQ {l:zAb}{H:Aa}{id:Nat}(hg:H[id]? = some (.c0 (flat cU l)))(hl:l.length<1152921504606846976):Ubn (.ms id 0 0 l.length l.length 1 true) H=some (.ret (.ms id 0 0 (Hl l l.length) l.length 1 true),H):=by
 unfold Ubn;refine Bf (σ:=Nat) (λk=>k<=l.length/\Hl l k=Hl l l.length) (λk=>[.ms id 0 0 k l.length 1 true]) (λ_=>H) (λk=>k) (λ_=>some (.ret (.ms id 0 0 (Hl l l.length) l.length 1 true),H)) (λk rec hi hrec=>?_) l.length ⟨VM _,rfl⟩ (by omega);obtain⟨hk,ht⟩:=hi;unfold Uao;simp only[At,VkJ hg hk (by omega),GMw];cases k with
 |zero=>simp[<-ht,Hl,forget,E9,fgt]
 |succ k=>by_cases h:l[k]?.getD 0=0;have hw:I_.wrap (((k+1:Nat):Int)-1)=(k:Int):=(by rw[Am]<;>omega);have hsl:B7 1 (.ms id 0 0 (k+1) l.length 1 true) none (some (.i6 (k:Int))) none=some (.ms id 0 0 k l.length 1 true):=(by have:(0:Int)<=(k:Int):=(by omega);simp only[B7,B5,zXa,this,zYd,zXl];rw[zYc ⟨trivial,by omega,by omega,by omega⟩];simp);have dK:Hl l k=Hl l l.length:=(by rw[<-ht];simp[Hl,h]);have hr:=hrec k ⟨by omega,dK⟩ (by omega);simp only[h,show A9 (.ms id 0 0 (k+1) l.length 1 true)=some (.i6 ((k+1:Nat):Int)) from rfl,GMw,hw,hsl,Wr,ne_eq,not_true_eq_false,X0];exact hr;have dK:Hl l (k+1)=k+1:=(by simp[Hl,h]);rw[<-ht,dK];simp only[h,GMw,Wr,ne_eq,zYk,X0];simp[forget,E9,fgt]
open Go.Proofs
set_option maxRecDepth 100000
noncomputable def kK (kn kr:List Ab->Aa->Out):Rt
 |.normal,tm,H=>kn tm H
 |.ret,tm,H=>kr tm H
 |.pan v,_,H=>some (.pan v,H)
 |.exit _,_,_=>none
noncomputable def Vpj:Code->Code
 |.seq a _=>a
 |c=>c
noncomputable def Vm0:Code->Code
 |.seq _ b=>b
 |c=>c
noncomputable def cmO:Orc:=ent 201 (ap1 Ubn) noO
noncomputable def Uk:Cfg:=mkC Tryz.prog Gs false cmO
noncomputable def cdA:Code:=Vpj (Ek Tryz.f156)
noncomputable def cdB:Code:=Vpj (Vm0 (Ek Tryz.f156))
noncomputable def cdC:Code:=Vpj (Vm0 (Vm0 (Ek Tryz.f156)))
noncomputable def cdD:Code:=Vm0 (Vm0 (Vm0 (Ek Tryz.f156)))
def Vjr:Tryz.f156.body=some (.seq cdA (.seq cdB (.seq cdC cdD))):=by kernel_rfl
noncomputable def cmA (kn:List Ab->Aa->Out)(x0 x1:Ab)(H0:Aa):Out:=
 Al (Bj true 1 x1 H0) λb_41 H42=>
 Al (Av (some [(.i6 0)]) H42) λx43 H44=>
 kn [x0,x1,U_,b_41,x43,U_,U_,U_,U_,U_,U_,U_,U_,U_,U_,U_,U_,U_,U_,U_,U_,U_,U_,U_,U_,U_,U_,U_,U_,U_,U_,U_,U_,U_,U_,U_,U_,U_,U_] H44
noncomputable def cmB (kn:List Ab->Aa->Out)(x0 x1 x3 x4:Ab)(H0:Aa):Out:=
 AH (Ubn x0 H0) λx41 H42=>
 bC (Ad false 1 x3 H42) (λx43=>Ad false 1 x3 H0=some x43/\True) λx43=>
 AH (Ubn x43 H42) λx44 H45=>
 bK H0 (As (Ae 1 x3 x44 H45)) λ_ H47=>
 kn [x41,x1,U_,x3,x4,U_,U_,x0,x41,x43,x44,U_,U_,U_,U_,U_,U_,U_,U_,U_,U_,U_,U_,U_,U_,U_,U_,U_,U_,U_,U_,U_,U_,U_,U_,U_,U_,U_,U_] H47
noncomputable def cmC (kn kr:List Ab->Aa->Out)(x0 x3 x4:Ab)(H0:Aa):Out:=
 (A9 x0).bind λx41=>
 (Ad false 1 x3 H0).bind λx42=>
 (A9 x42).bind λx43=>
 (Af .n .neq x41 x43).bind λx44=>
 Ai x44 (
 (A9 x0).bind λx45=>
 (Ad false 1 x3 H0).bind λx46=>
 (A9 x46).bind λx47=>
 (Af .n .lss x45 x47).bind λx48=>
 Ai x48 (
 bK H0 (As (Ae 1 x4 (.i6 (-1)) H0)) λ_ H50=>
 kr [x0,U_,U_,x3,x4,U_,U_,U_,U_,U_,U_,x0,x41,x42,x43,x44,x0,x45,x46,x47,x48,U_,U_,U_,U_,U_,U_,U_,U_,U_,U_,U_,U_,U_,U_,U_,U_,U_,U_] H50) (
 bK H0 (As (Ae 1 x4 (.i6 1) H0)) λ_ H52=>
 kr [x0,U_,U_,x3,x4,U_,U_,U_,U_,U_,U_,x0,x41,x42,x43,x44,x0,x45,x46,x47,x48,U_,U_,U_,U_,U_,U_,U_,U_,U_,U_,U_,U_,U_,U_,U_,U_,U_,U_] H52)) (
 kn [x0,U_,U_,x3,x4,U_,U_,U_,U_,U_,U_,x0,x41,x42,x43,x44,U_,U_,U_,U_,U_,U_,U_,U_,U_,U_,U_,U_,U_,U_,U_,U_,U_,U_,U_,U_,U_,U_,U_] H0)
def Vom (kn kr:List Ab->Aa->Out)(x0 x1:Ab)(H:Aa):ev2 Uk 39 cdA .lf (kK kn kr) [x0,x1,U_,U_,U_,U_,U_,U_,U_,U_,U_,U_,U_,U_,U_,U_,U_,U_,U_,U_,U_,U_,U_,U_,U_,U_,U_,U_,U_,U_,U_,U_,U_,U_,U_,U_,U_,U_,U_] H=cmA kn x0 x1 H:=by kernel_rfl
def Vol (kn kr:List Ab->Aa->Out)(x0 x1 x3 x4:Ab)(H:Aa):ev2 Uk 39 cdB (.reg [0,1,2,3,4,5]) (kK kn kr) [x0,x1,U_,x3,x4,U_,U_,U_,U_,U_,U_,U_,U_,U_,U_,U_,U_,U_,U_,U_,U_,U_,U_,U_,U_,U_,U_,U_,U_,U_,U_,U_,U_,U_,U_,U_,U_,U_,U_] H=cmB kn x0 x1 x3 x4 H:=by kernel_rfl
def Vok (kn kr:List Ab->Aa->Out)(x0 x3 x4:Ab)(H:Aa):ev2 Uk 39 cdC (.tw .lf (.tw (.tw (.tw .lf (.tw (.tw .lf .lf) .lf)) (.tw .lf .lf)) .lf)) (kK kn kr) [x0,U_,U_,x3,x4,U_,U_,U_,U_,U_,U_,U_,U_,U_,U_,U_,U_,U_,U_,U_,U_,U_,U_,U_,U_,U_,U_,U_,U_,U_,U_,U_,U_,U_,U_,U_,U_,U_,U_] H=cmC kn kr x0 x3 x4 H:=by kernel_rfl
structure SW {α:Type}(lt:α->α->Bool):Prop where
 asy:∀a b,lt a b=true->lt b a=false
 neg:∀a b c,lt a b=false->lt b c=false->lt a c=false
section
variable {α:Type}{lt:α->α->Bool}
def BZ (lt:α->α->Bool)(a b:α):Bool:=!lt a b && !lt b a
def FF (lt:α->α->Bool)(l m:List α):Prop:=∀a,l.filter (BZ lt a)=m.filter (BZ lt a)
def EG (lt:α->α->Bool)(l:List α):Prop:=l.Pairwise λa b=>lt b a=false
theorem SW.irr (h:SW lt)(a:α):lt a a=false:=by cases e:lt a a with|false=>rfl|true=>have:=h.asy a a e;rw[e]at this;cases this
theorem P0 (h:SW lt)(a:α):BZ lt a a=true:=by unfold BZ;rw[h.irr];rfl
theorem Gd {a b:α}:BZ lt a b=true↔lt a b=false/\lt b a=false:=by unfold BZ;simp
theorem FF.refl (l:List α):FF lt l l:=λ_=>rfl
theorem FF.trans {l m n:List α}(h:FF lt l m)(k:FF lt m n):FF lt l n:=λa=>(h a).trans (k a)
theorem FF.app {l m l' m':List α}(h:FF lt l m)(k:FF lt l' m'):FF lt (l++l') (m++m'):=λa=>by rw[W9,W9,h a,k a]
theorem FF.mem (hs:SW lt){l m:List α}(h:FF lt l m){a:α}:a∈l↔a∈m:=by
 have e:∀l:List α,a∈l↔a∈l.filter (BZ lt a):=λl=>by rw[X4];exact⟨λh=>⟨h,P0 hs a⟩,λh=>h.1⟩
 rw[e l,e m,h a]
theorem HZ {l:List α}{p:α->Bool}(h:∀a∈l,p a=false):l.filter p=[]:=by rw[List.filter_eq_nil_iff];intro a ha e;rw[h a ha]at e;cases e
theorem FF.swap (hs:SW lt){u v:List α}(h:∀x∈u,∀y∈v,lt y x=true):FF lt (u++v) (v++u):=λa=>by
 rw[W9,W9];by_cases hu:∃x∈u,BZ lt a x=true
 ·obtain⟨x,hx,xU⟩:=hu;have hv:v.filter (BZ lt a)=[]:=HZ λy hy=>by cases e:BZ lt a y with|false=>rfl|true=>rw[Gd]at e xU;have:=hs.neg y a x e.2 xU.1;rw[h x hx y hy]at this;cases this
  rw[hv,Wm,List.nil_append]
 ·have:u.filter (BZ lt a)=[]:=HZ λx hx=>by cases e:BZ lt a x with|false=>rfl|true=>exact zYf ⟨x,hx,e⟩ hu
  rw[this,Wm,List.nil_append]
theorem VdC (hs:SW lt){x y:α}(h:BZ lt x y=true):BZ lt x=BZ lt y:=by
 rw[Gd]at h
 funext a
 rw[VZ,Gd,Gd];exact⟨λ⟨p,q⟩=>⟨hs.neg _ _ _ h.2 p,hs.neg _ _ _ q h.1⟩,λ⟨p,q⟩=>⟨hs.neg _ _ _ h.1 p,hs.neg _ _ _ q h.2⟩⟩
structure Srt (lt:α->α->Bool)(l m:List α):Prop where
 srt:EG lt m
 st:FF lt l m
 len:m.length=l.length
theorem Mo {l m:List α}(h1:EG lt l)(h2:EG lt m)(h:∀a∈l,∀b∈m,lt b a=false):EG lt (l++m):=WU.2 ⟨h1,h2,h⟩
def swp (l:List α)(i j:Nat):List α:=match l[i]?,l[j]? with
 |some a,some b=>(l.set i b).set j a
 |_,_=>l
theorem VbI:∀(A:List α)(x y:α)(R:List α),(A++x::R).set A.length y=A++y::R
 |[],_,_,_=>rfl
 |a::A,x,y,R=>by show a::(A++x::R).set A.length y=_;rw[VbI A x y R];rfl
theorem Nz (l:List α)(i j:Nat):(swp l i j).length=l.length:=by
 unfold swp;split;rw[zXp,zXp]
 ·rfl
theorem Vc7 (A:List α)(x:α)(R:List α):(A++x::R)[A.length]? = some x:=by simp
theorem Ry (A M B:List α)(x y:α){i j:Nat}(hi:i=A.length)(hj:j=A.length+1+M.length):swp (A++x::(M++y::B)) i j=A++y::(M++x::B)/\swp (A++x::(M++y::B)) j i=A++y::(M++x::B):=by
 subst hi;have e:∀z:α,A++z::(M++y::B)=(A++z::M)++y::B:=λz=>by simp
 have hlen:∀z:α,(A++z::M).length=j:=λz=>by simp;omega
 have g1:(A++x::(M++y::B))[A.length]? = some x:=Vc7 _ _ _;have g2:(A++x::(M++y::B))[j]? = some y:=by rw[e,<-hlen x];exact Vc7 _ _ _
 have s1:∀z w:α,(A++z::(M++y::B)).set j w=A++z::(M++w::B):=λz w=>by rw[e,<-hlen z,VbI];simp
 constructor;unfold swp;rw[g1,g2];dsimp only;rw[VbI,s1];unfold swp;rw[g1,g2];dsimp only;rw[s1,VbI]

end
section
variable {α:Type}{lt:α->α->Bool}
def IU (lt:α->α->Bool)(l:List α)(i j:Nat):Bool:=match l[i]?,l[j]? with
 |some x,some y=>lt x y
 |_,_=>false
theorem RD {l:List α}{i j:Nat}(hi:i<l.length)(hj:j<l.length):IU lt l i j=lt l[i] l[j]:=by unfold IU;rw[VG hi,VG hj]
def KO (lt:α->α->Bool)(a:Nat):Nat->List α->List α
 |0,l=>l
 |j+1,l=>if a<j+1/\IU lt l (j+1) j=true then KO lt a j (swp l (j+1) j)else l
theorem Vc0 (a:Nat):∀(j:Nat)(l:List α),(KO lt a j l).length=l.length
 |0,l=>rfl
 |j+1,l=>by
  unfold KO;split;rw[Vc0 a j,Nz]
  ·rfl
theorem VfW (hs:SW lt)(A:List α)(x:α):∀(n:Nat)(S R:List α),S.length=n->EG lt S->∃P,KO lt A.length (A.length+S.length) (A++(S++x::R))=A++(P++R)/\Srt lt (S++[x]) P
 |0,S,R,hn,_=>by have:S=[]:=We hn;subst this;refine⟨[x],?_,⟨WS _ _,.refl _,rfl⟩⟩;show KO lt A.length (A.length+0) _=_;rw[Nat.add_zero];cases hA:A.length with|zero=>rfl|succ k=>unfold KO;rw[zYb (by omega)];rfl
 |n+1,S,R,hn,hS=>by
  have hne:S≠[]:=λe=>by rw[e]at hn;cases hn
  obtain⟨T,y,rfl⟩:∃T y,S=T++[y]:=⟨S.dropLast,S.getLast hne,(List.dropLast_concat_getLast hne).symm⟩;have hT:T.length=n:=by simpa using hn
  have hS':=hS;unfold EG at hS';rw[WU]at hS';obtain⟨hT1,_,hT2⟩:=hS';have hl:A++((T++[y])++x::R)=(A++T)++y::([]++x::R):=by simp
  have hAT:(A++T).length=A.length+T.length:=VR;have g1:IU lt (A++((T++[y])++x::R)) (A.length+T.length+1) (A.length+T.length)=lt x y:=by unfold IU;have e1:(A++((T++[y])++x::R))[A.length+T.length+1]? = some x:=(by have:A++((T++[y])++x::R)=(A++T++[y])++x::R:=(by simp);rw[this,show A.length+T.length+1=(A++T++[y]).length by simp;omega];exact Vc7 _ _ _);have e2:(A++((T++[y])++x::R))[A.length+T.length]? = some y:=(by rw[hl,<-hAT];exact Vc7 _ _ _);rw[e1,e2]
  have hlen:A.length+(T++[y]).length=A.length+T.length+1:=by simp;omega
  rw[hlen];unfold KO;rw[g1];by_cases hxy:lt x y=true;rw[zYc ⟨by omega,hxy⟩,hl,(Ry (A++T) [] R y x hAT.symm (by rw[hAT];rfl)).2];obtain⟨P,p1,p2⟩:=VfW hs A x n T (y::R) hT hT1;refine⟨P++[y],?_,⟨?_,?_,by rw[VR,p2.len];simp⟩⟩;have:(A++T)++x::([]++y::R)=A++(T++x::(y::R)):=(by simp);rw[this,p1];simp;refine Mo p2.srt (WS _ _) λa ha b hb=>?_;rw[Wj]at hb;subst hb;have:=(p2.st.mem hs).2 ha;rcases Wk.1 this with h | h;exact hT2 a h b (by simp);rw[Wj]at h;rw[h];exact hs.asy _ _ hxy;refine FF.trans ?_ (p2.st.app (.refl [y]));rw[VP,VP];exact(FF.refl T).app (FF.swap hs λa ha b hb=>by rw[Wj]at ha hb;rw[ha,hb];exact hxy);have qG:lt x y=false:=(by simpa using hxy);rw[zYb (λh=>hxy h.2)];refine⟨T++[y]++[x],by simp,⟨Mo hS (WS _ _) λa ha b hb=>?_,.refl _,rfl⟩⟩;rw[Wj]at hb;subst hb;rcases Wk.1 ha with h | h;exact hs.neg _ _ _ qG (hT2 a h y (by simp));rw[Wj]at h;rw[h];exact qG
def Rk (lt:α->α->Bool)(a:Nat):Nat->List α->List α
 |0,l=>l
 |k+1,l=>KO lt a (a+1+k) (Rk lt a k l)
theorem Vcx (a:Nat):∀(k:Nat)(l:List α),(Rk lt a k l).length=l.length
 |0,l=>rfl
 |k+1,l=>by unfold Rk;rw[Vc0,Vcx a k]
theorem VfV (hs:SW lt)(A:List α):∀(k:Nat)(S R:List α),S.length=k+1->∃P,Rk lt A.length k (A++(S++R))=A++(P++R)/\Srt lt S P
 |0,S,R,hn=>by obtain⟨x,rfl⟩:=X2.1 hn;exact⟨[x],rfl,⟨WS _ _,.refl _,rfl⟩⟩
 |k+1,S,R,hn=>by
  have hne:S≠[]:=λe=>by rw[e]at hn;cases hn
  obtain⟨T,y,rfl⟩:∃T y,S=T++[y]:=⟨S.dropLast,S.getLast hne,(List.dropLast_concat_getLast hne).symm⟩;have hT:T.length=k+1:=by simpa using hn
  obtain⟨P,p1,p2⟩:=VfV hs A k T (y::R) hT;have hPl:P.length=k+1:=by rw[p2.len,hT]
  obtain⟨P',q1,q2⟩:=VfW hs A y P.length P R rfl p2.srt;refine⟨P',?_,⟨q2.srt,(p2.st.app (.refl [y])).trans q2.st,by rw[q2.len,VR,VR,p2.len]⟩⟩;unfold Rk;have:A++((T++[y])++R)=A++(T++y::R):=by simp
  rw[this,p1,show A.length+1+k=A.length+P.length by omega];exact q1

end
section
variable {α:Type}{lt:α->α->Bool}
def swR (a b:Nat):Nat->List α->List α
 |0,l=>l
 |k+1,l=>swp (swR a b k l) (a+k) (b+k)
theorem Rz (a b:Nat):∀(k:Nat)(l:List α),(swR a b k l).length=l.length
 |0,l=>rfl
 |k+1,l=>by unfold swR;rw[Nz,Rz a b k]
theorem Vj3 (A M B U V:List α)(h:U.length=V.length):∀k,k<=U.length->swR A.length (A.length+U.length+M.length) k (A++(U++(M++(V++B))))=A++((V.take k++U.drop k)++(M++((U.take k++V.drop k)++B)))
 |0,_=>by simp[swR]
 |k+1,hk=>by
  unfold swR;rw[Vj3 A M B U V h k (by omega)];have yN:k<U.length:=by omega
  have sE:k<V.length:=by omega
  rw[Wl yN,Wl sE,VU yN,VU sE];have e:A++((V.take k++U[k]::U.drop (k+1))++(M++((U.take k++V[k]::V.drop (k+1))++B)))=(A++V.take k)++U[k]::((U.drop (k+1)++(M++U.take k))++V[k]::(V.drop (k+1)++B)):=by simp only[VP,List.cons_append]
  have h1:(V.take k).length=k:=by rw[Wc];omega
  have h2:(U.take k).length=k:=by rw[Wc];omega
  rw[e,(Ry (A++V.take k) (U.drop (k+1)++(M++U.take k)) (V.drop (k+1)++B) U[k] V[k] (by rw[VR,h1]) (by simp only[VR,h1,h2,Wd];omega)).1];simp only[VP,List.cons_append,List.nil_append]
theorem Ven (A M B U V:List α)(h:U.length=V.length){a b n:Nat}(ha:a=A.length)(hb:b=A.length+U.length+M.length)(hn:n=U.length):swR a b n (A++(U++(M++(V++B))))=A++(V++(M++(U++B))):=by subst ha;subst hb;subst hn;rw[Vj3 A M B U V h U.length (VM _),VW (by omega),VW (VM _),Xb (VM _),Xb (by omega)];simp
structure OI (A B W:List α)(m i j:Nat)(l:List α):Prop where
 ex:∃P u v S,l=A++(P++(u++(v++(S++B))))/\P++(v++(u++S))=W/\u.length=i/\v.length=j/\A.length+P.length+i=m
 pos:0<i/\0<j
theorem OI.start {A B U V:List α}(hU:0<U.length)(hV:0<V.length):OI A B (V++U) (A.length+U.length) U.length V.length (A++(U++(V++B))):=
 ⟨⟨[],U,V,[],by simp,by simp,rfl,rfl,by simp⟩,hU,hV⟩
theorem OI.hi {A B W l:List α}{m i j:Nat}(h:OI A B W m i j l)(hij:j<i):OI A B W m (i-j) j (swR (m-i) m j l):=by
 obtain⟨⟨P,u,v,S,rfl,hW,hu,hv,hm⟩,h1,h2⟩:=h;have hsp:u.take j++u.drop j=u:=WD j u;have l1:(u.take j).length=j:=by rw[Wc];omega
 have l2:(u.drop j).length=i-j:=by rw[Wd,hu]
 have e:A++(P++(u++(v++(S++B))))=(A++P)++(u.take j++(u.drop j++(v++(S++B)))):=by
  conv=>lhs;rw[<-hsp]
  simp only[VP]
 rw[e,Ven (A++P) (u.drop j) (S++B) (u.take j) v (by rw[l1,hv]) (by rw[VR];omega) (by rw[VR,l1,l2];omega) l1.symm];refine⟨⟨P++v,u.drop j,u.take j,S,by simp,?_,l2,l1,by rw[VR];omega⟩,by omega,h2⟩;rw[<-hW]
 conv=>rhs;rw[<-hsp]
 simp only[VP]
theorem OI.lo {A B W l:List α}{m i j:Nat}(h:OI A B W m i j l)(hij:i<j):OI A B W m i (j-i) (swR (m-i) (m+j-i) i l):=by
 obtain⟨⟨P,u,v,S,rfl,hW,hu,hv,hm⟩,h1,h2⟩:=h;have hsp:v.take (j-i)++v.drop (j-i)=v:=WD (j-i) v;have l1:(v.take (j-i)).length=j-i:=by rw[Wc];omega
 have l2:(v.drop (j-i)).length=i:=by rw[Wd,hv];omega
 have e:A++(P++(u++(v++(S++B))))=(A++P)++(u++(v.take (j-i)++(v.drop (j-i)++(S++B)))):=by
  conv=>lhs;rw[<-hsp]
  simp only[VP]
 rw[e,Ven (A++P) (v.take (j-i)) (S++B) u (v.drop (j-i)) (by rw[l2,hu]) (by rw[VR];omega) (by rw[VR,l1];omega) hu.symm];refine⟨⟨P,v.drop (j-i),v.take (j-i),u++S,by simp,?_,l2,l1,hm⟩,h1,by omega⟩;rw[<-hW]
 conv=>rhs;rw[<-hsp]
 simp only[VP]
theorem OI.eq {A B W l:List α}{m i:Nat}(h:OI A B W m i i l):swR (m-i) m i l=A++(W++B):=by
 obtain⟨⟨P,u,v,S,rfl,hW,hu,hv,hm⟩,h1,h2⟩:=h;have e:A++(P++(u++(v++(S++B))))=(A++P)++(u++([]++(v++(S++B)))):=by simp
 rw[e,Ven (A++P) [] (S++B) u v (by omega) (by rw[VR];omega) (by rw[VR];simp;omega) hu.symm,<-hW];simp
theorem OI.len {A B W l:List α}{m i j:Nat}(h:OI A B W m i j l):i<=m/\m+j<=l.length:=by obtain⟨⟨P,u,v,S,rfl,hW,hu,hv,hm⟩,h1,h2⟩:=h;simp only[VR];omega
structure BsI (p:Nat->Bool)(s r i j:Nat):Prop where
 le:s<=i/\i<=j/\j<=r
 up:∀c,s<=c->c<i->p c=true
 dn:∀c,j<=c->c<r->p c=false
theorem BsI.start {p:Nat->Bool}{s r:Nat}(h:s<=r):BsI p s r s r:=⟨⟨VM _,h,VM _⟩,λc _ _=>by omega,λc _ _=>by omega⟩
theorem BsI.yes {p:Nat->Bool}{s r i j h:Nat}(k:BsI p s r i j)(hm:∀c d,s<=c->c<=d->d<r->p d=true->p c=true)(h1:i<=h)(h2:h<j)(hp:p h=true):BsI p s r (h+1) j:=by obtain⟨⟨a,b,c⟩,d,e⟩:=k;exact⟨⟨by omega,by omega,c⟩,λx hx hy=>hm x h hx (by omega) (by omega) hp,e⟩
theorem BsI.no {p:Nat->Bool}{s r i j h:Nat}(k:BsI p s r i j)(hm:∀c d,s<=c->c<=d->d<r->p d=true->p c=true)(h1:i<=h)(h2:h<j)(hp:p h=false):BsI p s r i h:=by obtain⟨⟨a,b,c⟩,d,e⟩:=k;refine⟨⟨a,h1,by omega⟩,d,λx hx hy=>?_⟩;cases hq:p x with|false=>rfl|true=>have:=hm h x (by omega) hx hy hq;rw[hp]at this;cases this

end
section
variable {α:Type}{lt:α->α->Bool}
theorem HO {l:List α}(h:EG lt l)(hs:SW lt){i j:Nat}(hij:i<=j)(hj:j<l.length):lt l[j] (l[i]'(by omega))=false:=by by_cases e:i=j;subst e;exact hs.irr _;exact X9.1 h i j (by omega) hj (by omega)
theorem Iz {l:List α}{n:Nat}{x:α}(h:x∈l.take n):∃i,∃hi:i<l.length,i<n/\l[i]=x:=by obtain⟨i,hi,e⟩:=Ws h;rw[Wc]at hi;exact⟨i,by omega,by omega,by rw[<-e,Yk]⟩
theorem I0 {l:List α}{n:Nat}{x:α}(h:x∈l.drop n):∃i,∃hi:i<l.length,n<=i/\l[i]=x:=by obtain⟨i,hi,e⟩:=Ws h;rw[Wd]at hi;exact⟨n+i,by omega,by omega,by rw[<-e,X5]⟩
theorem PQ (hs:SW lt){U V W1 W2:List α}{i k:Nat}(hU:EG lt U)(hV:EG lt V)(h1:∀x∈U.drop i,∀y∈V.take k,lt y x=true)(h2:∀x∈U.take i,∀y∈V.drop k,lt y x=false)
  (w1:Srt lt (U.take i++V.take k) W1)(w2:Srt lt (U.drop i++V.drop k) W2):Srt lt (U++V) (W1++W2):=by
 have eU:U.take i++U.drop i=U:=WD i U;have eV:V.take k++V.drop k=V:=WD k V;have hU':=hU;have hV':=hV;rw[<-eU]at hU';rw[<-eV]at hV';have pU:=(WU.1 hU').2.2;have pV:=(WU.1 hV').2.2;refine⟨Mo w1.srt w2.srt λa ha b hb=>?_,?_,?_⟩
 ·have lE:=(w1.st.mem hs).2 ha;have hb':=(w2.st.mem hs).2 hb;rcases Wk.1 lE with x | x<;>rcases Wk.1 hb' with y | y
  exact pU a x b y;exact h2 a x b y;exact hs.asy _ _ (h1 b y a x);exact pV a x b y
 ·refine FF.trans ?_ (w1.st.app w2.st);have e1:U++V=U.take i++((U.drop i++V.take k)++V.drop k):=by
   conv=>lhs;rw[<-eU,<-eV]
   simp only[VP]
  have e2:U.take i++V.take k++(U.drop i++V.drop k)=U.take i++((V.take k++U.drop i)++V.drop k):=by simp only[VP]
  rw[e1,e2];exact(FF.refl _).app ((FF.swap hs h1).app (.refl _))
 rw[VR,w1.len,w2.len,VR,VR,VR,Wc,Wc,Wd,Wd];omega
section
variable {U V A B:List α}{a m b mid s0 r0 s:Nat}
def Se (lt:α->α->Bool)(l:List α)(P:Nat)(c:Nat):Bool:=!IU lt l (P-c) c
theorem Vqo (ha:A.length=a){c:Nat}(h1:a<=c)(h2:c<a+U.length):(A++(U++(V++B)))[c]? = some (U[c-a]'(by omega)):=by rw[Wt (by omega),VN (by omega),ha,VG]
theorem VpW (ha:A.length=a)(hm:a+U.length=m){c:Nat}(h1:m<=c)(h2:c<m+V.length):(A++(U++(V++B)))[c]? = some (V[c-m]'(by omega)):=by rw[Wt (by omega),Wt (by omega),VN (by omega),show c-A.length-U.length=c-m by omega,VG]
theorem Rx (ha:A.length=a)(hm:a+U.length=m){P c:Nat}(h1:a<=c)(h2:c<m)(h3:m<=P-c)(h4:P-c<m+V.length):Se lt (A++(U++(V++B))) P c = !lt (V[P-c-m]'(by omega)) (U[c-a]'(by omega)):=by unfold Se IU;rw[VpW ha hm h3 h4,Vqo ha h1 (by omega)]
theorem Vel (hs:SW lt)(hU:EG lt U)(hV:EG lt V)(ha:A.length=a)(hm:a+U.length=m){P c d:Nat}(h1:a<=c)(xA:c<=d)(h2:d<m)(h3:m<=P-d)(h4:P-c<m+V.length)
  (h:Se lt (A++(U++(V++B))) P d=true):Se lt (A++(U++(V++B))) P c=true:=by
 rw[Rx ha hm (by omega) h2 h3 (by omega)]at h;rw[Rx ha hm h1 (by omega) (by omega) h4];simp only[WC]at h⊢;have u:=HO hU hs (i:=c-a) (j:=d-a) (by omega) (by omega);have v:=HO hV hs (i:=P-d-m) (j:=P-c-m) (by omega) (by omega);exact hs.neg _ _ _ v (hs.neg _ _ _ h u)
theorem Vei (hs:SW lt)(hU:EG lt U)(hV:EG lt V)(ha:A.length=a)(hm:a+U.length=m)(hb:m+V.length=b)(kF:mid=(a+b) / 2)(hUp:0<U.length)(hVp:0<V.length)
  (h0:s0=if mid<m then mid+m-b else a)(hr:r0=if mid<m then mid else m)(k:BsI (Se lt (A++(U++(V++B))) (mid+m-1)) s0 r0 s s):(∀x∈U.drop (s-a),∀y∈V.take (mid-s),lt y x=true)/\(∀x∈U.take (s-a),∀y∈V.drop (mid-s),lt y x=false)/\a<=s/\s<=m/\s<=mid/\m<=mid+m-s/\mid+m-s<=b:=by
 obtain⟨⟨k1,_,k2⟩,k3,k4⟩:=k;have kB:a<=s/\s<=m/\s<=mid/\mid+m-s<=b:=by by_cases hc:mid<m;rw[zYc hc]at h0 hr;omega;rw[zYb hc]at h0 hr;omega
 refine⟨λx hx y hy=>?_,λx hx y hy=>?_,by omega,by omega,by omega,by omega,by omega⟩
 ·obtain⟨i,hi,hi2,rfl⟩:=I0 hx;obtain⟨j,hj,nF,rfl⟩:=Iz hy;have hlt:s<r0:=by by_cases hc:mid<m;rw[zYc hc]at hr;omega;rw[zYb hc]at hr;omega
  have:=k4 s (VM _) hlt;rw[Rx ha hm (by omega) (by omega) (by omega) (by omega)]at this;simp only[Y5]at this;have u:=HO hU hs (i:=s-a) (j:=i) hi2 hi;have v:=HO hV hs (i:=j) (j:=mid+m-1-s-m) (by omega) (by omega);cases e:lt V[j] U[i]with|true=>rfl|false=>have h9:=hs.neg _ _ _ v (hs.neg _ _ _ e u);rw[h9]at this;cases this
 ·obtain⟨i,hi,hi2,rfl⟩:=Iz hx;obtain⟨j,hj,nF,rfl⟩:=I0 hy;have hlt:s0<s:=by by_cases hc:mid<m;rw[zYc hc]at h0;omega;rw[zYb hc]at h0;omega
  have:=k3 (s-1) (by omega) (by omega);rw[Rx ha hm (by omega) (by omega) (by omega) (by omega)]at this;simp only[WC]at this;have u:=HO hU hs (i:=i) (j:=s-1-a) (by omega) (by omega);have v:=HO hV hs (i:=mid+m-1-(s-1)-m) (j:=j) (by omega) hj;exact hs.neg _ _ _ v (hs.neg _ _ _ this u)

end
theorem Vn1 (hs:SW lt){x:α}{V:List α}{k:Nat}(hV:EG lt V)(h1:∀y∈V.take k,lt y x=true)(h2:∀y∈V.drop k,lt y x=false):Srt lt ([x]++V) (V.take k++([x]++V.drop k)):=by
 have:=PQ (U:=[x]) (V:=V) (i:=0) (k:=k) (W1:=V.take k) (W2:=[x]++V.drop k) hs (WS _ _) hV (λa ha y hy=>by
  have:a=x:=by simpa using ha
  rw[this];exact h1 y hy) (λa ha=>by simp at ha) ⟨WW (Yi k V) hV,FF.refl _,rfl⟩
  ⟨Mo (WS _ _) (WW (Yl k V) hV) λa ha y hy=>by rw[Wj]at ha;rw[ha];exact h2 y hy,.refl _,rfl⟩
 exact this
theorem Vn2 (hs:SW lt){y:α}{U:List α}{i:Nat}(hU:EG lt U)(h1:∀x∈U.take i,lt y x=false)(h2:∀x∈U.drop i,lt y x=true):Srt lt (U++[y]) (U.take i++([y]++U.drop i)):=by
 have:=PQ (U:=U) (V:=[y]) (i:=i) (k:=1) (W1:=U.take i++[y]) (W2:=U.drop i) hs hU (WS _ _) (λx hx a ha=>by
  have:a=y:=by simpa using ha
  rw[this];exact h2 x hx) (λx hx a ha=>by simp at ha)
  ⟨Mo (WW (Yi i U) hU) (WS _ _) λa ha x hx=>by rw[Wj]at hx;rw[hx];exact h1 a ha,.refl _,rfl⟩
  ⟨WW (Yl i U) hU,by simpa using FF.refl _,by simp⟩
 simpa using this
def upR (a:Nat):Nat->List α->List α
 |0,l=>l
 |k+1,l=>swp (upR a k l) (a+k) (a+k+1)
def dnR (m:Nat):Nat->List α->List α
 |0,l=>l
 |k+1,l=>swp (dnR m k l) (m-k) (m-k-1)
theorem Vjz (A B:List α)(x:α)(V:List α):∀k,k<=V.length->upR A.length k (A++([x]++(V++B)))=A++((V.take k++([x]++V.drop k))++B)
 |0,_=>by simp[upR]
 |k+1,hk=>by
  have sE:k<V.length:=hk;unfold upR;rw[Vjz A B x V k (by omega)];have e:A++((V.take k++([x]++V.drop k))++B)=(A++V.take k)++x::([]++V[k]::(V.drop (k+1)++B)):=by rw[Wl sE];simp only[VP,List.cons_append,List.nil_append]
  have h1:(V.take k).length=k:=by rw[Wc];omega
  rw[e,(Ry (A++V.take k) [] (V.drop (k+1)++B) x V[k] (by rw[VR,h1]) (by rw[VR,h1];rfl)).1,VU sE];simp only[VP,List.cons_append,List.nil_append]
theorem VjY (A B:List α)(y:α)(U:List α):∀k,k<=U.length->dnR (A.length+U.length) k (A++(U++([y]++B)))=A++((U.take (U.length-k)++([y]++U.drop (U.length-k)))++B)
 |0,_=>by simp[dnR]
 |k+1,hk=>by
  unfold dnR;rw[VjY A B y U k (by omega)];obtain⟨i,hi⟩:∃i,U.length=i+(k+1):=⟨U.length-(k+1),by omega⟩;have h2:U.length-k=i+1:=by omega
  have h3:U.length-(k+1)=i:=by omega
  have yR:i<U.length:=by omega
  rw[h2,h3];have h1:(U.take i).length=i:=by rw[Wc];omega
  have e:A++((U.take (i+1)++([y]++U.drop (i+1)))++B)=(A++U.take i)++U[i]::([]++y::(U.drop (i+1)++B)):=by rw[VU yR];simp only[VP,List.cons_append,List.nil_append]
  rw[e,(Ry (A++U.take i) [] (U.drop (i+1)++B) U[i] y (i:=A.length+U.length-k-1) (j:=A.length+U.length-k) (by rw[VR,h1];omega) (by rw[VR,h1];simp;omega)).2,Wl yR];simp only[VP,List.cons_append,List.nil_append]

end
section
variable {α:Type}{lt:α->α->Bool}
def Oe (lt:α->α->Bool)(w:Nat)(l:List α):Prop:=∀(i j:Nat)(hj:j<l.length)(hi:i<j),i / w=j / w->lt l[j] (l[i]'(by omega))=false
structure Stg (lt:α->α->Bool)(w:Nat)(l:List α)(a:Nat)(l':List α):Prop where
 ex:∃P,l'=P++l.drop a/\P.length=a/\FF lt (l.take a) P/\Oe lt w P
theorem Stg.start (w:Nat)(l:List α):Stg lt w l 0 l:=⟨⟨[],by simp,rfl,by simpa using FF.refl _,λi j hj=>by simp at hj⟩⟩
theorem Stg.len {w:Nat}{l l':List α}{a:Nat}(h:Stg lt w l a l')(ha:a<=l.length):l'.length=l.length:=by obtain⟨P,rfl,hP,_,_⟩:=h.ex;rw[VR,hP,Wd];omega
theorem T7 {w a i:Nat}(hw:0<w)(hd:w ∣ a)(hi:i<w):(a+i) / w=a / w:=by obtain⟨q,rfl⟩:=hd;rw[Nat.mul_add_div hw,Nat.mul_div_cancel_left _ hw,Xj hi];omega
theorem ViZ {w a i:Nat}(hw:0<w)(hd:w ∣ a)(hi:i<a):i / w<a / w:=by obtain⟨q,rfl⟩:=hd;rw[Nat.mul_div_cancel_left _ hw];rw[Xg hw,WY];exact hi
theorem Oe.app {w:Nat}{P S:List α}(hw:0<w)(hd:w ∣ P.length)(h:Oe lt w P)(hS:EG lt S):S.length<=w->Oe lt w (P++S):=by intro hl i j hj hi he;rw[VR]at hj;by_cases h1:j<P.length;rw[List.getElem_append_left h1,List.getElem_append_left (by omega)];exact h i j h1 hi he;by_cases h2:i<P.length;have e1:=ViZ hw hd h2;have e2:=T7 hw hd (show j-P.length<w by omega);rw[show P.length+(j-P.length)=j by omega]at e2;omega;rw[WN (by omega),WN (by omega)];exact X9.1 hS (i-P.length) (j-P.length) (by omega) (by omega) (by omega)
theorem Stg.all {w:Nat}{l l':List α}(h:Stg lt w l l.length l'):FF lt l l'/\Oe lt w l'/\l'.length=l.length:=by obtain⟨P,h1,hP,hst,hb⟩:=h.ex;rw[Xb (VM _),Wm]at h1;rw[VW (VM _)]at hst;subst h1;exact⟨hst,hb,hP⟩
theorem Oe.block {w a:Nat}{l:List α}(hw:0<w)(hd:w ∣ a)(h:Oe lt w l)(n:Nat)(hn:n<=w):EG lt ((l.drop a).take n):=by refine X9.2 λi j hi hj hij=>?_;rw[Wc,Wd]at hi hj;rw[Yk,Yk,X5,X5];refine h (a+i) (a+j) (by omega) (by omega) ?_;rw[T7 hw hd (by omega),T7 hw hd (by omega)]
theorem Oe.whole {w:Nat}{l:List α}(hw:l.length<=w)(h:Oe lt w l):EG lt l:=by refine X9.2 λi j hi hj hij=>h i j hj hij ?_;rw[Xj (by omega),Xj (by omega)]
theorem Sf (hs:SW lt):∀l m:List α,(l.Pairwise λa b=>lt a b=true)->(m.Pairwise λa b=>lt a b=true)->(∀a,a∈l↔a∈m)->l=m
 |[],m,_,_,h=>by cases m with|nil=>rfl|cons y m=>have:=(h y).2 (by simp);cases this
 |x::l,m,hl,hm,h=>by
  cases m with
  |nil=>have:=(h x).1 (by simp);cases this
  |cons y m=>
   rw[X1]at hl hm;have hxy:x=y:=(by rcases WF.1 ((h x).1 (by simp))with e | e;exact e;rcases WF.1 ((h y).2 (by simp))with e' | e';exact e'.symm;have a1:=hm.1 x e;have a2:=hl.1 y e';rw[hs.asy _ _ a1]at a2;cases a2);subst hxy
   congr 1
   refine Sf hs l m hl.2 hm.2 λa=>?_;have ne:∀ {k:List α},(∀a∈k,lt x a=true)->a∈k->a≠x:=λhk ha e=>(by have:=hk a ha;rw[e,hs.irr]at this;cases this);constructor;intro ha;rcases WF.1 ((h a).1 (by simp[ha]))with e | e;exact zYf e (ne hl.1 ha);exact e;intro ha;rcases WF.1 ((h a).2 (by simp[ha]))with e | e;exact zYf e (ne hm.1 ha);exact e
def cpF (lt:α->α->Bool):α->List α->List α
 |_,[]=>[]
 |x,y::t=>if BZ lt y x then cpF lt y t else y::cpF lt y t
def cpL (lt:α->α->Bool):List α->List α
 |[]=>[]
 |x::t=>x::cpF lt x t
theorem Vkb (hs:SW lt):∀(t:List α)(x:α),EG lt (x::t)->((cpF lt x t).Pairwise λa b=>lt a b=true)/\(∀z∈cpF lt x t,lt x z=true)/\∀z,z∈cpF lt x t↔BZ lt z x=false/\(t.filter (BZ lt z)).head? = some z
 |[],x,h=>⟨List.Pairwise.nil,λz (hz:z∈[])=>(by cases hz),λz=>(by simp[cpF])⟩
 |y::t,x,h=>by
  have h':=h;unfold EG at h';rw[X1]at h';obtain⟨hx,ht⟩:=h';obtain⟨i1,i2,i3⟩:=Vkb hs t y ht;have zJ:=hx y (by simp);unfold cpF;by_cases he:BZ lt y x=true;rw[zYc he];have gP:=VdC hs he;rw[Gd]at he;have hlt:∀z∈cpF lt y t,lt x z=true:=λz hz=>(by cases e:lt x z with|true=>rfl|false=>have:=hs.neg y x z he.1 e;rw[i2 z hz]at this;cases this);refine⟨i1,hlt,λz=>?_⟩;rw[i3 z];have e1:BZ lt z y=BZ lt z x:=(by rw[VZ,Gd,Gd];exact⟨λ⟨p,q⟩=>⟨hs.neg _ _ _ p he.1,hs.neg _ _ _ he.2 q⟩,λ⟨p,q⟩=>⟨hs.neg _ _ _ p he.2,hs.neg _ _ _ he.1 q⟩⟩);rw[e1];constructor;rintro⟨a,b⟩;refine⟨a,?_⟩;rw[WH,zYb (by rw[e1,a];decide)];exact b;rintro⟨a,b⟩;refine⟨a,?_⟩;rw[WH,zYb (by rw[e1,a];decide)]at b;exact b
  ·rw[zYb he];have hxy:lt x y=true:=(by cases e:lt x y with|true=>rfl|false=>exact zYf (Gd.2 ⟨zJ,e⟩) he);have hlt:∀z∈cpF lt y t,lt x z=true:=λz hz=>(by cases e:lt x z with|true=>rfl|false=>have:=hs.neg x z y e (hs.asy _ _ (i2 z hz));rw[hxy]at this;cases this);refine⟨X1.2 ⟨i2,i1⟩,λz hz=>?_,λz=>?_⟩;rcases WF.1 hz with e | e;rw[e];exact hxy;exact hlt z e
   ·rw[WF,i3 z,WH];by_cases pG:BZ lt z y=true;rw[zYc pG];have mR:BZ lt z x=false:=(by cases e:BZ lt z x with|false=>rfl|true=>rw[Gd]at e pG;have:=hs.neg x z y e.2 pG.1;rw[hxy]at this;cases this);rw[mR,pG];simp only[List.head?_cons,VT,Y4,false_and,or_false,true_and];exact⟨λh=>h.symm,λh=>h.symm⟩
    ·rw[zYb pG];have lR:BZ lt z y=false:=(by simpa using pG);rw[lR];have hne:z≠y:=λe=>(by rw[e,P0 hs]at lR;cases lR);simp only[hne,false_or,true_and];constructor;intro hb;refine⟨?_,hb⟩;have hz:z∈cpF lt y t:=(i3 z).2 ⟨lR,hb⟩;cases e:BZ lt z x with|false=>rfl|true=>rw[Gd]at e;have:=hlt z hz;rw[e.2]at this;cases this
     exact λh=>h.2
theorem Voi (hs:SW lt){l:List α}(h:EG lt l):((cpL lt l).Pairwise λa b=>lt a b=true)/\∀z,z∈cpL lt l↔(l.filter (BZ lt z)).head? = some z:=by
 cases l with
 |nil=>exact⟨List.Pairwise.nil,λz=>by simp[cpL]⟩
 |cons x t=>obtain⟨i1,i2,i3⟩:=Vkb hs t x h;refine⟨X1.2 ⟨i2,i1⟩,λz=>?_⟩;show z∈x::cpF lt x t↔_;rw[WF,i3 z,WH];by_cases mR:BZ lt z x=true;rw[zYc mR,mR];simp only[List.head?_cons,VT,Y4,false_and,or_false];exact⟨λh=>h.symm,λh=>h.symm⟩;rw[zYb mR];have hne:z≠x:=λe=>(by rw[e,P0 hs]at mR;exact mR rfl);simp only[hne,false_or];exact⟨λh=>h.2,λh=>⟨by simpa using mR,h⟩⟩

end
def Du (L:List Nd)(i:Nat)(x:Nd)(c:Int):Bool:=
 decide (0<=c)&&(decide (x.lv=1->c<=255))&&decide (1<x.lv->0<c->c<=i/\∀y,L[(c-1).toNat]? = some y->y.lv=x.lv-1)
def G5 (L:List Nd)(i:Nat):Bool:=
 match L[i]? with
 |some x=>decide (1<=x.lv/\x.lv<=1329)&&(List.range 4).all λk=>Du L i x (x.kid k)
 |none=>true
def AY (L:List Nd):Bool:=(List.range L.length).all (G5 L)
def Va (L:List Nd)(tk:Tok)(H:Aa)(hL:L.length<1152921504606846976):Ub1 (.sl (enL cNd L) tk) H=some (.ret (.bool (AY L)),H):=by
 unfold Ub1;rw[show AY L=(List.range L.length).all (G5 L) from rfl];have:=EN L.length (G5 L) (λi=>[.sl (enL cNd L) tk,.i6 (i:Int)]) H (some (.ret (.bool true),H)) (some (.ret (.bool false),H)) hL (λrec i hi=>?_) (λrec=>?_)
  (G:=λrec1 vs H1=>UcV H rec1 (ag vs 0) (ag vs 1) H1)
 refine this.trans ?_;cases(List.range L.length).all (G5 L)<;>rfl
 ·have hx:(i:Int)<(L.length:Int):=by omega
  have hg:L[i]? = some L[i]:=VG hi;unfold UcV;simp only[At,FE,Ax,BI,Bz,hx,decide_true,Bb,A4 hi,A2,AA,Nat.add_zero,Eu];by_cases h1:L[i].lv<1;have:G5 L i=false:=(by simp only[G5,hg];simp;intro;omega);simp[h1,this]
  ·by_cases h2:L[i].lv>1329;have:G5 L i=false:=(by simp only[G5,hg];simp;intro;omega);simp[h1,h2,this,A4 hi]
   ·have hd:G5 L i=(List.range 4).all λk=>Du L i L[i] (L[i].kid k):=(by simp only[G5,hg];rw[zXc (by omega)];rfl);simp only[h1,h2,zYh,QS,BI,FD,CI,AM,hd,AA,Nat.add_zero,Eu,A2,A4 hi];have:=EN 4 (λk=>Du L i L[i] (L[i].kid k)) (λk=>[.sl (enL cNd L) tk,.i6 (i:Int),.i6 (k:Int)]) H (rec [.sl (enL cNd L) tk,.i6 ((i+1:Nat):Int)] H) (some (.ret (.bool false),H)) (by decide) (λaA k hk=>?_) (λaA=>?_)
     (G:=λaA vs H1=>UcU H rec aA (ag vs 0) (ag vs 1) (ag vs 2) H1)
    exact this
    ·have hk':(k:Int)<4:=(by omega);unfold UcU;simp only[At,FE,Gb,BI,Bz,hk',decide_true,Bb,A4 hi,A2,Fb hk,AA,VK,Wa,EE hk,Eu,Ar (show k<9223372036854775807 by omega),D9];generalize L[i].kid k=c;generalize hx':L[i]=x at h1 h2⊢;by_cases hc:c<0;have:Du L i x c=false:=(by simp[Du];omega);simp[hc,this]
     ·obtain⟨n,rfl⟩:=WI (show 0<=c by omega);by_cases hl:x.lv=1;by_cases h255:255<n;have:Du L i x n=false:=(by simp[Du,hl];omega);have mQ:(255:Int)<n:=(by omega);simp[hc,hl,mQ,this,A4 hi,hx'];have:Du L i x n=true:=(by simp[Du,hl];omega);have mQ:¬(255:Int)<n:=(by omega);simp[hc,hl,mQ,this,A4 hi,hx']
      ·have cT:1<x.lv:=(by omega);by_cases hn:0<n;by_cases rH:i<n;have:Du L i x n=false:=(by unfold Du;rw[Xq];right;rw[zYl];intro h;have:=(h cT (by omega)).1;omega);simp[hc,hl,cT,hn,rH,this,A4 hi,hx'];have hlt:n-1<L.length:=(by omega);have e1:((n:Int)-1).toNat=n-1:=(by omega);have hk2:Du L i x n=decide (L[n-1].lv=x.lv-1):=(by unfold Du;rw[e1,VG hlt,VZ];simp only[VV,zXe,VT,forall_eq'];constructor;intro h;exact(h.2 cT (by omega)).2;intro h;exact⟨⟨by omega,by omega⟩,λ_ _=>⟨by omega,h⟩⟩);have hw:I_.wrap (x.lv-1)=x.lv-1:=Am (by omega) (by omega);simp[hc,hl,cT,hn,rH,hk2,Hk (show 0<n by omega) (by omega),A4 hlt,A4 hi,hx',hw];by_cases he:L[n-1].lv=x.lv-1<;>simp[he]
       have:Du L i x n=true:=(by unfold Du;simp only[VV,zXe];exact⟨⟨by omega,by omega⟩,λ_ _=>by omega⟩);simp[hc,hl,cT,hn,this,A4 hi,hx']
    unfold UcU;simp[Ar (show i<9223372036854775807 by omega)]
 unfold UcV;simp
def AZ {L:List Nd}(h:AY L=true){i:Nat}(hi:i<L.length):1<=L[i].lv/\L[i].lv<=1329/\∀k,k<4->0<=L[i].kid k/\(L[i].lv=1->L[i].kid k<=255)/\(1<L[i].lv->0<L[i].kid k->L[i].kid k<=i/\∀y,L[(L[i].kid k-1).toNat]? = some y->y.lv=L[i].lv-1):=by have h1:=Wf.1 h i (by simpa using hi);simp only[G5,VG hi,VV,zXe,Wf]at h1;refine⟨h1.1.1,h1.1.2,λk hk=>?_⟩;have h2:=h1.2 k (by simpa using hk);simp only[Du,VV,zXe]at h2;exact⟨h2.1.1,h2.1.2,h2.2⟩
def P5 (E:List Bool)(x:Nd):Bool:=(List.range 4).all λk=>decide (x.kid k=0)||(decide (1<x.lv)&&E.getD (x.kid k).toNat true)
def AG (L:List Nd):List Bool:=L.foldl (λE x=>E++[P5 E x]) [true]
def NM (L:List Nd)(x:Nd):AG (L++[x])=AG L++[P5 (AG L) x]:=by simp[AG]
def DL (L:List Nd):(AG L).length=L.length+1:=by
 rcases Hm L with rfl | ⟨l,a,rfl⟩
 ·rfl
 rw[NM];have:=DL l;simp[this]
termination_by L.length
decreasing_by (subst_vars;simp)
def V4 (L:List Nd){i:Nat}(hi:i<L.length):AG (L.take (i+1))=AG (L.take i)++[P5 (AG (L.take i)) L[i]]:=by rw[VU hi,NM]
def Jv (L:List Nd)(tk:Tok)(H:Aa)(hL:L.length<140737488355327)(hl:AY L=true):Uaw (.sl (enL cNd L) tk) H=some (.ret (.sl (enL cB (AG L)) .no),H):=by
 have dE:=F9 (f:=cB) (a:=false) (n:=L.length+1) (bytes:=1) (H:=H) (by omega) (by omega);have hid:=CZ (sz:=1) (id:=H.length) (n:=L.length+1) (K:=.i64) (g:=0) (off:=0) (cap:=L.length+1) (ex:=true) (i:=0) (by omega);have hst:=Eb (f:=cB) (sz:=1) (l:=List.replicate (L.length+1) false) (i:=0) (a:=true) (v:=.bool true) (H:=H++[.c0 (flat cB (List.replicate (L.length+1) false))]) (id:=H.length) (by simp) (by simp) rfl;unfold Uaw;simp only[Ax,BI,D9,Ar (show L.length<9223372036854775807 by omega),dE,BD];simp only[XX,Nat.add_zero]at hid;rw[show((0:Nat):Int)=0 from rfl]at hid;simp only[XX]at hst;rw[hid];simp only[BI,hst,IG,Ds,UM,UK];have key:=Ct (G:=λrec1 vs H1=>UcX H rec1 (ag vs 0) (ag vs 1) (ag vs 2) H1) L.length (λi=>[.sl (enL cNd L) tk,.ms H.length 0 0 (L.length+1) (L.length+1) 1 true,.i6 (i:Int)]) (λi=>H++[.c0 (flat cB (AG (L.take i)++List.replicate (L.length-i) false))]) (some (.ret (.sl (enL cB (AG L)) .no),H)) (by omega) (λrec i hi=>?_) (λrec=>?_)
 ·have e:(List.replicate (L.length+1) false).set 0 true=AG (L.take 0)++List.replicate (L.length-0) false:=by simp[zXm,AG]
  rw[e];exact key
 ·have aE:(i:Int)<(L.length:Int):=by omega
  obtain⟨l1,l2,l3⟩:=AZ hl hi;have hEl:(AG (L.take i)).length=i+1:=by rw[DL];simp;omega
  unfold UcX;simp only[At,FE,Gb,Ax,BI,Bz,aE,decide_true,Bb];have hs:∀k,k<4->1<L[i].lv->(AG (L.take i)++List.replicate (L.length-i) false).getD (L[i].kid k).toNat true=(AG (L.take i)).getD (L[i].kid k).toNat true:=by intro k hk h1;obtain⟨q1,q2,q3⟩:=l3 k hk;have:(L[i].kid k).toNat<(AG (L.take i)).length:=(by rw[hEl];by_cases h0:0<L[i].kid k;have:=(q3 h1 h0).1;omega;omega);simp only[VO,VN this]
  have hb:∀k,k<4->1<L[i].lv->(L[i].kid k).toNat<L.length+1:=by intro k hk h1;obtain⟨q1,q2,q3⟩:=l3 k hk;by_cases h0:0<L[i].kid k;have:=(q3 h1 h0).1;omega;omega
  have hEs:P5 (AG (L.take i)) L[i]=(List.range 4).all λk=>decide (L[i].kid k=0)||(decide (1<L[i].lv)&&(AG (L.take i)++List.replicate (L.length-i) false).getD (L[i].kid k).toNat true):=by unfold P5;rw[O2,O2];by_cases h1:1<L[i].lv;simp only[hs 0 (by omega) h1,hs 1 (by omega) h1,hs 2 (by omega) h1,hs 3 (by omega) h1];simp only[h1,zYh,WL]
  have aH:(AG (L.take i)++List.replicate (L.length-i) false).set (i+1) (P5 (AG (L.take i)) L[i])=AG (L.take (i+1))++List.replicate (L.length-(i+1)) false:=by rw[V4 L hi,Wy _ _ (by omega),hEl,Wu,show L.length-i=(L.length-(i+1))+1 from by omega,zXm,List.set_cons_zero];simp
  have hlen:(AG (L.take i)++List.replicate (L.length-i) false).length=L.length+1:=by simp[hEl];omega
  rw[<-aH,hEs];generalize AG (L.take i)++List.replicate (L.length-i) false=E at hlen;generalize hx:L[i]=x at l1 l2 l3 hb;have jJ:AD (H++[.c0 (flat cB E)]) H.length 0=some (flat cB E):=by simp
  refine Ct (G:=λaA vs H1=>UcW H rec aA (ag vs 0) (ag vs 1) (ag vs 2) (ag vs 3) (ag vs 4) H1) 4 (λk=>[.sl (enL cNd L) tk,.ms H.length 0 0 (L.length+1) (L.length+1) 1 true,.i6 (i:Int),.bool ((List.range k).all λk=>decide (x.kid k=0)||(decide (1<x.lv)&&E.getD (x.kid k).toNat true)),.i6 (k:Int)]) (λ_=>H++[.c0 (flat cB E)]) _ (by decide) (λaA k hk=>?_) (λaA=>?_)
  ·have hk':(k:Int)<4:=(by omega);obtain⟨q1,q2,q3⟩:=l3 k hk;have hb':=hb k hk;unfold UcW;have qK:((List.range (k+1)).all λk=>decide (x.kid k=0)||(decide (1<x.lv)&&E.getD (x.kid k).toNat true))=(((List.range k).all λk=>decide (x.kid k=0)||(decide (1<x.lv)&&E.getD (x.kid k).toNat true))&&(decide (x.kid k=0)||(decide (1<x.lv)&&E.getD (x.kid k).toNat true))):=(by rw[XB,Yv];simp);rw[qK];generalize ((List.range k).all λk=>decide (x.kid k=0)||(decide (1<x.lv)&&E.getD (x.kid k).toNat true))=e;simp only[At,FE,Gb,Mj,Od,BI,Bz,hk',decide_true,Bb,A4 hi,hx,A2,Fb hk,AA,VK,Wa,EE hk,Ar (show k<9223372036854775807 by omega),D9];obtain⟨n,hn⟩:=WI q1;rw[hn]at hb'⊢;simp only[zXl]at hb'⊢;cases e with
   |false=>simp
   |true=>by_cases h0:n=0;subst h0;simp;by_cases h1:1<x.lv;have mF:n<E.length:=(by rw[hlen];exact hb' h1);have kJ:=CZ (sz:=1) (id:=H.length) (n:=L.length+1) (K:=.i64) (g:=0) (off:=0) (cap:=L.length+1) (ex:=true) (i:=n) (hb' h1);simp only[VK,Wa]at kJ;have hld:=I3 (f:=cB) jJ mF;simp[h0,h1,hx,A4 hi,kJ,hld,VG mF];simp[h0,h1,hx,A4 hi]
  have kJ:=CZ (sz:=1) (id:=H.length) (n:=L.length+1) (K:=.i64) (g:=0) (off:=0) (cap:=L.length+1) (ex:=true) (i:=i+1) (by omega);simp only[VK,Wa]at kJ;have cJ:=Eb (f:=cB) (sz:=1) (l:=E) (i:=i+1) (a:=(List.range 4).all λk=>decide (x.kid k=0)||(decide (1<x.lv)&&E.getD (x.kid k).toNat true)) (H:=H++[.c0 (flat cB E)]) (id:=H.length) jJ (by omega) (v:=.bool ((List.range 4).all λk=>decide (x.kid k=0)||(decide (1<x.lv)&&E.getD (x.kid k).toNat true))) rfl;simp only[Wa]at cJ;unfold UcW;have hf:¬(((4:Nat):Int)<4):=(by decide);simp only[At,FE,Gb,Mj,Od,BI,Bz,hf,zYh,AM,D9,Ar (show i<9223372036854775807 by omega),kJ,cJ,IG,Ds,UM,UK]
 ·unfold UcX;have jJ:AD (H++[.c0 (flat cB (AG L))]) H.length 0=some (flat cB (AG L)):=by simp
  have eF:=Vbh (f:=cB) (b:=H.length) (d:=5) (cap:=L.length+1) (ex:=true) jJ (VM _);rw[DL]at eF;have ht:L.take L.length=L:=VW (VM _);simp only[At,FE,Gb,Ax,BI,Bz,Wv,zYh,AM,ht,Wu,List.replicate_zero,Wm,CD,eF,zXb]
def Vc (L:List Nd)(tk:Tok)(n:Nat)(H:Aa)(hL:L.length<140737488355327)(hl:AY L=true)(hn:n<=L.length):UdN (.sl (enL cNd L) tk) (.i6 (n:Int)) H=some (.ret (.bool ((AG L).getD n true)),H):=by
 have hlt:n<(AG L).length:=by rw[DL];omega
 unfold UdN;simp[Jv L tk H hL hl,A4 hlt,VO,VG hlt]
def Bm (L:List Nd)(c:Int):Nd:=L.getD (c-1).toNat ⟨0,0,0,0,0⟩
def Tg (L:List Nd)(E:List Bool)(x:Nd)(k j:Nat):Bool:=
 decide (j=3-k)||(if x.lv=2 then decide ((Bm L (x.kid k)).kid j=0)else E.getD ((Bm L (x.kid k)).kid j).toNat true)
def hol (L:List Nd)(E:List Bool)(x:Nd):Bool:=
 (List.range 4).all λk=>decide (x.kid k=0)||(List.range 4).all (Tg L E x k)
def FB (L:List Nd)(n:Nat):Bool:=
 decide (n≠0)&&decide (2<=(Bm L n).lv)&&hol L (AG L) (Bm L n)
def F8 {L:List Nd}{c:Int}{n:Nat}(hc:c=((n+1:Nat):Int))(h:n<L.length):Bm L c=L[n]:=by
 have:(c-1).toNat=n:=by omega
 unfold Bm;rw[this,VO,VG h];rfl
def S4 (L:List Nd)(tk:Tok)(n:Nat)(H:Aa)(hL:L.length<140737488355327)(hl:AY L=true)(hn:n<=L.length):Ub3 (.sl (enL cNd L) tk) (.i6 (n:Int)) H=some (.ret (.bool (FB L n)),H):=by
 unfold Ub3 FB;cases n with
 |zero=>simp
 |succ n=>
  have hi:n<L.length:=hn;have e0:¬((n+1:Nat):Int)=0:=by omega
  obtain⟨l1,l2,l3⟩:=AZ hl hi;rw[F8 rfl hi];generalize hx:L[n]=x at l1 l2 l3;have hw:I_.wrap (((n+1:Nat):Int)-1)=(n:Int):=by rw[Am]<;>omega
  simp only[Fc,GS,e0,zYh,BI,QS,EF,hw,A4 hi,hx,A2,AA,Nat.add_zero,Eu,Bz,CI];by_cases h2:x.lv<2;have:¬2<=x.lv:=(by omega);simp[h2,this]
  ·have iO:2<=x.lv:=(by omega);simp only[h2,iO,zYh,AM,Jv L tk H hL hl,Il,decide_true,ne_eq,X0,zYk,zXn];have key:=EN (G:=λrec1 vs H1=>UcY H rec1 (ag vs 0) (ag vs 1) (ag vs 2) (ag vs 3) H1) 4 (λk=>decide (x.kid k=0)||(List.range 4).all (Tg L (AG L) x k))
    (λk=>[.sl (enL cNd L) tk,.i6 ((n+1:Nat):Int),.sl (enL cB (AG L)) .no,.i6 (k:Int)]) H (some (.ret (.bool true),H)) (some (.ret (.bool false),H)) (by decide) (λrec k hk=>?_) (λrec=>?_)
   refine key.trans ?_;rw[show hol L (AG L) x=(List.range 4).all λk=>decide (x.kid k=0)||(List.range 4).all (Tg L (AG L) x k) from rfl];cases(List.range 4).all λk=>decide (x.kid k=0)||(List.range 4).all (Tg L (AG L) x k)<;>rfl
   ·have hk':(k:Int)<4:=(by omega);obtain⟨q1,q2,q3⟩:=l3 k hk;unfold UcY;simp only[At,FE,Gb,Mj,BI,Bz,hk',decide_true,Bb,EF,hw,A4 hi,hx,A2,Fb hk,AA,VK,Wa,EE hk];have aP:I_.wrap ((k:Int)+1)=((k+1:Nat):Int):=Ar (by omega);by_cases hc:x.kid k=0;rw[Dx Eh];unfold Ub2;simp only[hc,decide_true,Xc,zYd,At,FE,Gb,Mj,Od,Vkj,Bz,BI,show((0:Int)<4) from by decide,J3,FD,show ¬((0:Int)>0) from by decide,zYh,CN,AM,D9,aP]
    ·obtain⟨m,hm⟩:∃m:Nat,x.kid k=((m+1:Nat):Int):=⟨(x.kid k-1).toNat,by omega⟩;have h1:1<x.lv:=(by omega);obtain⟨r1,r2⟩:=q3 h1 (by omega);have pP:m<n:=(by omega);have hml:m<L.length:=(by omega);have hy:=r2 L[m] (by rw[show(x.kid k-1).toNat=m from by omega];exact VG hml);obtain⟨y1,y2,y3⟩:=AZ hl hml;have hE:∀j,j<4->2<x.lv->(L[m].kid j).toNat<(AG L).length:=(by intro j hj h3;obtain⟨s1,s2,s3⟩:=y3 j hj;rw[DL];by_cases h0:0<L[m].kid j;have:=(s3 (by omega) h0).1;omega;omega);have hp:Tg L (AG L) x k=λj=>decide (j=3-k)||(if x.lv=2 then decide (L[m].kid j=0)else (AG L).getD (L[m].kid j).toNat true):=(by funext j;unfold Tg;rw[F8 hm hml]);have cZ:I_.wrap (((m+1:Nat):Int)-1)=(m:Int):=(by rw[Am]<;>omega);have cE:¬((m+1:Nat):Int)=0:=(by omega);simp only[hp,hm,cE,zYh,zXo];generalize zI:L[m]=y at y1 y2 y3 hy hE;refine EN (G:=λaA vs H1=>Ub2 H rec aA (ag vs 0) (ag vs 1) (ag vs 2) (ag vs 3) (ag vs 4) (ag vs 5) H1) 4 _
      (λj=>[.sl (enL cNd L) tk,.i6 ((n+1:Nat):Int),.sl (enL cB (AG L)) .no,.i6 (k:Int),.i6 ((m+1:Nat):Int),.i6 (j:Int)]) H _ _ (by decide) (λaA j hj=>?_) (λaA=>?_)
     have hj':(j:Int)<4:=(by omega);have hm0:((m+1:Nat):Int)>0:=(by omega);have jW:I_.wrap (3-(k:Int))=3-(k:Int):=Am (by omega) (by omega);have sG:I_.wrap ((j:Int)+1)=((j+1:Nat):Int):=Ar (by omega);obtain⟨s1,s2,s3⟩:=y3 j hj;have hE':=hE j hj;unfold Ub2;simp only[At,FE,Gb,Mj,Od,Vkj,Bz,BI,hj',decide_true,J3,FD,hm0,CN,Bb,EF,cZ,jW,A4 hml,zI,A2,Fb hj,AA,VK,Wa,EE hj,NQ,RU,D9,sG];obtain⟨g,hg⟩:=WI s1;rw[hg]at hE'⊢;simp only[zXl]at hE'⊢;by_cases zE:j=3-k;have h3:(j:Int)=3-(k:Int):=(by omega);simp only[BI,AM,CI,QR,Vp9,Wp,UX,zYd,Xc,zXc h3,zXc zE,Xc];have h3:¬(j:Int)=3-(k:Int):=(by omega);simp only[zE,h3,GMw];by_cases hx2:x.lv=2;have hx3:¬(2:Int)>2:=(by decide);by_cases yT:(g:Int)=0;simp only[BI,FD,Fc,NQ,GS,RU,EF,AM,CN,CI,J3,QS,QR,decide_true,zYh,Wp,zYd,A2,AA,Nat.add_zero,Eu,hw,A4 hi,hx,hx2,yT,hx3];simp only[BI,Fc,NQ,GS,RU,Bb,CN,J3,VnM,Vp9,decide_true,zYh,W8,zYd,VL,zYe,A2,AA,Nat.add_zero,Eu,hw,A4 hi,hx,hx2,yT];have hx3:x.lv>2:=(by omega);have hlt:=hE' hx3;have eX:(AG L).getD g true=(AG L)[g]:=(by rw[VO,VG hlt];rfl);simp only[BI,FD,Fc,GS,EF,CN,CI,J3,QS,QR,decide_true,zYh,Sa,zYe,A2,AA,Nat.add_zero,Eu,hw,A4 hi,hx,hx2,hx3,A4 hlt,eX,zXh];cases(AG L)[g]<;>simp only[Bb,AM,Wp,W8,zYd,VL,zYe]
     have hf:¬(((4:Nat):Int)<4):=(by decide);unfold Ub2;simp only[At,FE,Gb,Mj,Od,Vkj,Bz,BI,hf,zYh,QR,CI,AM,D9,aP]
   have hf:¬(((4:Nat):Int)<4):=(by decide);unfold UcY;simp only[At,FE,Gb,Mj,Bz,BI,hf,zYh,AM,UX]
def Vfe (L:List Nd)(tk:Tok)(n k:Nat)(H:Aa)(hL:L.length<140737488355327)(hl:AY L=true)(hn:n<L.length)(h2:2<=L[n].lv)(hk:k<4):UdO (.sl (enL cNd L) tk) (.i6 ((n+1:Nat):Int)) (.i6 (k:Int)) H=some (.ret (.i6 (if L[n].kid k=0 then 0 else (Bm L (L[n].kid k)).kid (3-k))),H):=by
 obtain⟨l1,l2,l3⟩:=AZ hl hn;obtain⟨q1,q2,q3⟩:=l3 k hk;have hw:I_.wrap (((n+1:Nat):Int)-1)=(n:Int):=by rw[Am]<;>omega
 unfold UdO;simp only[EF,BI,hw,A4 hn,A2,Fb hk,AA,VK,Wa,EE hk,Fc,GS];by_cases hc:L[n].kid k=0;simp[hc]
 ·obtain⟨m,hm⟩:∃m:Nat,L[n].kid k=((m+1:Nat):Int):=⟨(L[n].kid k-1).toNat,by omega⟩;obtain⟨r1,r2⟩:=q3 (by omega) (by omega);have hml:m<L.length:=by omega
  have cZ:I_.wrap (((m+1:Nat):Int)-1)=(m:Int):=by rw[Am]<;>omega
  have jW:I_.wrap (3-(k:Int))=((3-k:Nat):Int):=by rw[Am]<;>omega
  simp only[hc,zYh,AM,zYe,F8 hm hml];rw[hm];simp only[cZ,jW,BI,A4 hml,A2,VK,Fb (show 3-k<4 by omega),AA,Wa,EE (show 3-k<4 by omega),UX]
def OA (rec:Nat->zAb->zAb)(x:Nd)(k:Nat)(out:zAb):zAb:=
 (List.range k).foldl (λo k=>if 1<x.lv/\0<x.kid k then rec (x.kid k).toNat o else o) out
def I7 (L:List Nd):Nat->Nat->zAb->zAb
 |0,_,out=>out
 |v+1,n,out=>if n∈out then out else OA (I7 L v) (Bm L n) 4 out++[n]
def Ot (N:Nat)(out:zAb):Prop:=out.Nodup/\∀x∈out,1<=x/\x<=N
theorem N4:∀(N:Nat)(out:zAb),Ot N out->out.length<=N
 |0,out,h=>by cases out with|nil=>simp|cons a l=>have:=h.2 a (by simp);omega
 |N+1,out,h=>by have h1:Ot N (out.erase (N+1)):=⟨h.1.erase _,λx hx=>by have:=(h.1.mem_erase_iff).1 hx;have:=h.2 x this.2;omega⟩;have:=N4 N _ h1;rw[List.length_erase]at this;split at this<;>omega
def V3 (rec:Nat->zAb->zAb)(x:Nd)(k:Nat)(out:zAb):OA rec x (k+1) out=if 1<x.lv/\0<x.kid k then rec (x.kid k).toNat (OA rec x k out)else OA rec x k out:=by simp[OA,XB]
theorem MO {rec:Nat->zAb->zAb}{x:Nd}{out:zAb}(P:zAb->Prop)(h0:P out)(hs:∀k o,k<4->1<x.lv->0<x.kid k->P o->P (rec (x.kid k).toNat o)):∀k,k<=4->P (OA rec x k out)
 |0,_=>h0
 |k+1,h=>by rw[V3];split;rename_i hc;exact hs k _ (by omega) hc.1 hc.2 (MO P h0 hs k (by omega));exact MO P h0 hs k (by omega)
theorem BK {L:List Nd}{n:Nat}(h:n<L.length):Bm L ((n+1:Nat):Int)=L[n]:=F8 rfl h
def RI {L:List Nd}(hl:AY L=true):∀(v n:Nat)(out:zAb),1<=n->n<=L.length->Ot L.length out->Ot L.length (I7 L v n out)/\(∀x∈out,x∈I7 L v n out)/\∀x∈I7 L v n out,x∈out\/x<=n
 |0,n,out,h1,h2,ho=>⟨ho,λx hx=>hx,λx hx=>.inl hx⟩
 |v+1,n,out,h1,h2,ho=>by
  obtain⟨m,rfl⟩:∃m,n=m+1:=⟨n-1,by omega⟩;have hm:m<L.length:=by omega
  obtain⟨l1,l2,l3⟩:=AZ hl hm;simp only[I7];split;exact⟨ho,λx hx=>hx,λx hx=>.inl hx⟩
  ·rename_i hn;rw[BK hm];have key:=MO (rec:=I7 L v) (x:=L[m]) (out:=out) (λo=>Ot L.length o/\(∀x∈out,x∈o)/\∀x∈o,x∈out\/x<=m) ⟨ho,λx hx=>hx,λx hx=>.inl hx⟩ (λk o hk aV cO hP=>by
    obtain⟨q1,q2,q3⟩:=l3 k hk;have:=(q3 aV cO).1;obtain⟨r1,r2,r3⟩:=RI hl v (L[m].kid k).toNat o (by omega) (by omega) hP.1;exact⟨r1,λx hx=>r2 x (hP.2.1 x hx),λx hx=>by
     rcases r3 x hx with h | h;exact hP.2.2 x h
     ·right;omega⟩) 4 (by omega)
   obtain⟨⟨k1,k2⟩,k3,k4⟩:=key;generalize OA (I7 L v) L[m] 4 out=o at k1 k2 k3 k4;have bT:m+1 ∉ o:=λh=>(by rcases k4 _ h with h | h;exact hn h;omega);refine⟨⟨?_,?_⟩,?_,?_⟩;rw[List.nodup_append];exact⟨k1,by simp,λa ha b hb e=>by simp at hb;subst hb;subst e;exact bT ha⟩;intro x hx;simp only[Wk,Wj]at hx;rcases hx with hx | rfl;exact k2 x hx;omega;intro x hx;simp[k3 x hx];intro x hx;simp only[Wk,Wj]at hx;rcases hx with hx | rfl;rcases k4 x hx with h | h;exact .inl h;exact .inr (by omega);exact .inr (VM _)
theorem Vb2 {B:Aa}{l:zAb}{n:Nat}(h:l.length<17592186044415):AS G8 1 8 (Eo cN B l) (.sl (enL cN [n]) .ti) (Ee cN G8 1 B l)=some (Eo cN B (l++[n]),Ee cN G8 1 B (l++[n])):=
 DR (by simp) (by simp;omega) (by simp;omega)
def VkO {L:List Nd}(tk:Tok)(B:Aa)(hL:L.length<17592186044415)(hl:AY L=true):∀(v n d:Nat)(out:zAb),1<=n->n<=L.length->(Bm L n).lv=v->v<=d->Ot L.length out ->
  Uf2 d (.sl (enL cNd L) tk) (.i6 (n:Int)) (Eo cN B out) (Ee cN G8 1 B out)=some (.ret (Eo cN B (I7 L v n out)),Ee cN G8 1 B (I7 L v n out)):=by
 intro v
 induction v with
 |zero=>intro n d out h1 h2 hv hd ho;exfalso;obtain⟨m,rfl⟩:∃m,n=m+1:=⟨n-1,by omega⟩;rw[BK (by omega)]at hv;have:=(AZ hl (show m<L.length by omega)).1;omega
 |succ v ih=>
  intro n d out h1 h2 hv hd ho;obtain⟨d,rfl⟩:∃e,d=e+1:=⟨d-1,by omega⟩;obtain⟨m,rfl⟩:∃m,n=m+1:=⟨n-1,by omega⟩;have hm:m<L.length:=by omega
  obtain⟨l1,l2,l3⟩:=AZ hl hm;have aZ:=N4 _ _ ho;rw[BK hm]at hv;show Ue1 (Uf2 d) _ _ _ _=_;unfold Ue1;have key:=O6 (G:=λrec1 vs H1=>Udb (Ee cN G8 1 B out) (Uf2 d) rec1 (ag vs 0) (ag vs 1) (ag vs 2) (ag vs 3) H1) out.length (λi=>decide (out.getD i 0=m+1))
   (λi=>[.sl (enL cNd L) tk,.i6 ((m+1:Nat):Int),Eo cN B out,.i6 (i:Int)]) (Ee cN G8 1 B out) (some (.ret (Eo cN B (OA (I7 L v) L[m] 4 out++[m+1])),Ee cN G8 1 B (OA (I7 L v) L[m] 4 out++[m+1]))) (λ_=>some (.ret (Eo cN B out),Ee cN G8 1 B out)) (by omega) (λrec i hi=>?_) (λrec=>?_)
  refine key.trans ?_;by_cases cM:m+1∈out;obtain⟨i,hi,hx⟩:=Ws cM;have hf:∃j,(List.range out.length).find? (λi=>decide (out.getD i 0=m+1))=some j:=(by cases hq:(List.range out.length).find? (λi=>decide (out.getD i 0=m+1))with|some j=>exact⟨j,rfl⟩|none=>have:=XD.1 hq i (by simpa using hi);simp[VO,VG hi,hx]at this);obtain⟨j,hj⟩:=hf;rw[hj];simp only[I7,zYc cM];have hf:(List.range out.length).find? (λi=>decide (out.getD i 0=m+1))=none:=(by rw[XD];intro i hi;have aE:i<out.length:=(by simpa using hi);rw[VO,VG aE];simp only[Option.getD_some,zXe];intro e;exact cM (e ▸ VY aE));rw[hf];simp only[I7,zYb cM,BK hm];have aE:(i:Int)<(out.length:Int):=(by omega);have cC:decide ((out[i]:Int)=((m+1:Nat):Int))=decide (out.getD i 0=m+1):=(by rw[VO,VG hi,VZ];simp;omega);unfold Udb;simp only[GMw,AA,Gc,Ax,aE,A4 hi,zXh,Ar (show i<9223372036854775807 by omega),cC];cases decide (out.getD i 0=m+1)<;>simp only[GMw]
  ·unfold Udb;rw[Gc];simp only[GMw,Ax,Wv];rw[<-Gc];refine Ct (G:=λaA vs H1=>UcZ (Ee cN G8 1 B out) (Uf2 d) aA (ag vs 0) (ag vs 1) (ag vs 2) (ag vs 3) H1) 4 (λk=>[.sl (enL cNd L) tk,.i6 ((m+1:Nat):Int),Eo cN B (OA (I7 L v) L[m] k out),.i6 (k:Int)]) (λk=>Ee cN G8 1 B (OA (I7 L v) L[m] k out)) _ (by decide) (λaA k hk=>?_) (λaA=>?_);have hk':(k:Int)<4:=(by omega);have aP:I_.wrap ((k:Int)+1)=((k+1:Nat):Int):=Ar (by omega);have cZ:I_.wrap (((m+1:Nat):Int)-1)=(m:Int):=(by rw[Am]<;>omega);obtain⟨q1,q2,q3⟩:=l3 k hk;have dP:Ot L.length (OA (I7 L v) L[m] k out):=MO (λo=>Ot L.length o) ho (λk o hk aV cO hP=>by obtain⟨q1,q2,q3⟩:=l3 k hk;have:=(q3 aV cO).1;exact(RI hl v (L[m].kid k).toNat o (by omega) (by omega) hP).1) k (by omega);unfold UcZ;rw[V3];generalize OA (I7 L v) L[m] k out=o at dP;simp only[GMw,A2,AA,VK,Nat.add_zero,Eu,hk',cZ,A4 hm,UeX,aP];by_cases aV:1<L[m].lv;by_cases cO:0<L[m].kid k;obtain⟨r1,r2⟩:=q3 aV cO;obtain⟨c,hc⟩:∃c:Nat,L[m].kid k=((c+1:Nat):Int):=⟨(L[m].kid k-1).toNat,by omega⟩;have aG:c<L.length:=(by omega);have hy:=r2 L[c] (by rw[show(L[m].kid k-1).toNat=c from by omega];exact VG aG);have hi2:=ih (c+1) d o (by omega) (by omega) (by rw[BK aG];omega) (by omega) dP;have gQ:((c+1:Nat):Int)>0:=(by omega);rw[zYc ⟨aV,cO⟩];simp only[GMw,A2,AA,VK,Wa,aV,cZ,A4 hm,A2,Fb hk,EE hk,hc,gQ,hi2,zXl];rw[zYb (λh=>cO h.2)];simp only[GMw,A2,AA,VK,Wa,aV,cZ,A4 hm,A2,Fb hk,EE hk,cO];rw[zYb (λh=>aV h.1)];simp only[GMw,aV];have hf:¬(((4:Nat):Int)<4):=(by decide);have dP:Ot L.length (OA (I7 L v) L[m] 4 out):=MO (λo=>Ot L.length o) ho (λk o hk aV cO hP=>by obtain⟨q1,q2,q3⟩:=l3 k hk;have:=(q3 aV cO).1;exact(RI hl v (L[m].kid k).toNat o (by omega) (by omega) hP).1) 4 (by omega);have hle:=N4 _ _ dP;unfold UcZ;simp only[GMw,hf,Vmg,Vb2 (show(OA (I7 L v) L[m] 4 out).length<17592186044415 by omega)]
def By (L:List Nd):List Ab:=[.sl (enL cNd L) .no]
def En (L:List Nd):Ab:=.agg (By L)
def Cm (L:List Nd):Int:=(Bm L (L.length:Int)).lv
def SH (L:List Nd):zAb:=I7 L (Cm L).toNat L.length []
def VpN (L:List Nd):Bool:=(List.range L.length).all λi=>!((AG L).getD (i+1) true)&&(List.range i).all λk=>decide (L.getD i ⟨0,0,0,0,0⟩≠L.getD k ⟨0,0,0,0,0⟩)
def Vce (L:List Nd):Bool:=(List.range (SH L).length).all (λi=>decide ((SH L).getD i 0=i+1))&&decide ((SH L).length=L.length)
def HG (L:List Nd):Bool:=
 decide (L=[])||(AY L && !(FB L L.length)&&VpN L&&Vce L)
theorem VgV (L:List Nd)(tk:Tok)(H:Aa):Bj true 1 (.agg [.sl (enL cNd L) tk]) H=some (.ptr H.length 0 0,H++[.c0 [.sl (enL cNd L) tk]]):=BF rfl rfl
def Vfc (L:List Nd)(tk:Tok)(H:Aa)(hL:L.length<17592186044415):Udf (.agg [.sl (enL cNd L) tk]) H=some (.ret (.bool (HG L)),H):=by
 unfold Udf;simp only[GMw,Aj,Nat.add_zero,VgV,EP,Hr,zXh,Ax];by_cases h0:L=[];subst h0;simp[HG]
 ·have hlen:L.length≠0:=λh=>h0 (We h);have dT:¬((L.length:Int)=0):=by omega
  have hq:HG L=(AY L && !(FB L L.length)&&VpN L&&Vce L):=by simp[HG,h0]
  simp only[GMw,dT,Va L tk _ (show L.length<1152921504606846976 by omega)];cases hl:AY L with
  |false=>simp[hq,hl]
  |true=>
   simp only[GMw,Ax,S4 L tk L.length _ (show L.length<140737488355327 by omega) hl (VM _)];cases hh:FB L L.length with
   |true=>simp[hq,hh]
   |false=>
    simp only[GMw,Jv L tk _ (show L.length<140737488355327 by omega) hl];rw[hq,hl,hh];simp only[GMw];generalize hB:H++[.c0 [.sl (enL cNd L) tk]]=B;have hfin:∀(v:Bool)(G:Aa),rP H (.bool v) (B++G)=some (.ret (.bool v),H):=λv G=>(by rw[<-hB,VP];exact Ey);have nJ:∀(v:Bool),rP H (.bool v) B=some (.ret (.bool v),H):=λv=>(by rw[<-hB];exact Ey);have key:=EN (G:=λrec1 vs H1=>Ude H rec1 (ag vs 0) (ag vs 1) (ag vs 2) H1) L.length (λi=>!((AG L).getD (i+1) true)&&(List.range i).all λk=>decide (L.getD i ⟨0,0,0,0,0⟩≠L.getD k ⟨0,0,0,0,0⟩))
     (λi=>[.sl (enL cNd L) tk,.sl (enL cB (AG L)) .no,.i6 (i:Int)]) B (some (.ret (.bool (Vce L)),H)) (some (.ret (.bool false),H)) (by omega) (λrec i hi=>?_) (λrec=>?_)
    refine key.trans ?_;rw[show VpN L=(List.range L.length).all λi=>!((AG L).getD (i+1) true)&&(List.range i).all λk=>decide (L.getD i ⟨0,0,0,0,0⟩≠L.getD k ⟨0,0,0,0,0⟩) from rfl];cases(List.range L.length).all λi=>!((AG L).getD (i+1) true)&&(List.range i).all λk=>decide (L.getD i ⟨0,0,0,0,0⟩≠L.getD k ⟨0,0,0,0,0⟩)<;>simp only[GMw]
    ·have aE:(i:Int)<(L.length:Int):=(by omega);have hlt:i+1<(AG L).length:=(by rw[DL];omega);have aP:I_.wrap ((i:Int)+1)=((i+1:Nat):Int):=Ar (by omega);have eX:(AG L).getD (i+1) true=(AG L)[i+1]:=(by rw[VO,VG hlt];rfl);unfold Ude;simp only[GMw,AA,Ax,aE,aP,A4 hlt,zXh,eX];cases(AG L)[i+1]with
     |true=>simp only[GMw,nJ]
     |false=>
      simp only[GMw];refine EN (G:=λaA vs H1=>Udc H rec aA (ag vs 0) (ag vs 1) (ag vs 2) (ag vs 3) H1) i (λk=>decide (L.getD i ⟨0,0,0,0,0⟩≠L.getD k ⟨0,0,0,0,0⟩))
       (λk=>[.sl (enL cNd L) tk,.sl (enL cB (AG L)) .no,.i6 (i:Int),.i6 (k:Int)]) B _ _ (by omega) (λaA k hk=>?_) (λaA=>?_)
      have hk':(k:Int)<(i:Int):=(by omega);have cX:k<L.length:=(by omega);unfold Udc;simp only[GMw,hk',A4 hi,A4 cX,Jz,Voe,nJ,Ar (show k<9223372036854775807 by omega)];simp only[VO,VG hi,VG cX,Option.getD_some];by_cases he:L[i]=L[k];simp only[he,ne_eq,not_true_eq_false,GMw];simp only[he,ne_eq,zYk,GMw];unfold Udc;simp only[GMw,Wv,aP]
    ·unfold Ude;have hm:L.length-1<L.length:=(by omega);have tX:L.length=L.length-1+1:=(by omega);have aV:(Bm L (L.length:Int)).lv=((Cm L).toNat:Int):=(by have:=(AZ hl hm).1;unfold Cm;rw[tX,BK hm];omega);have aO:Uf2 AI (.sl (enL cNd L) tk) (.i6 (L.length:Int)) (.sl [] .ti) B=some (.ret (Eo cN B (I7 L (Cm L).toNat L.length [])),Ee cN G8 1 B (I7 L (Cm L).toNat L.length [])):=VkO tk B hL hl (Cm L).toNat L.length AI [] (by omega) (VM _) aV (by have:=(AZ hl hm).2.1;rw[Cw];unfold Cm;rw[tX,BK hm];omega) ⟨by simp,by simp⟩;have hok:=(RI hl (Cm L).toNat L.length [] (by omega) (VM _) ⟨by simp,by simp⟩).1;have hol:=N4 _ _ hok;obtain⟨G,hG⟩:=GD (f:=cN) (ty:=G8) (sz:=1) B (I7 L (Cm L).toNat L.length []);simp only[GMw,Ax,Wv,aO,hG,Gc];have qR:SH L=I7 L (Cm L).toNat L.length []:=rfl;rw[<-qR]at hol⊢;unfold Vce;generalize SH L=o at hol⊢;have key:=EN (G:=λdL vs H1=>Udd H dL (ag vs 0) (ag vs 1) (ag vs 2) H1) o.length (λi=>decide (o.getD i 0=i+1)) (λi=>[.sl (enL cNd L) tk,.sl (enL cN o) (VoJ B o),.i6 (i:Int)]) (B++G) (some (.ret (.bool (decide (o.length=L.length))),H)) (some (.ret (.bool false),H)) (by omega) (λrec i hi=>?_) (λrec=>?_);refine key.trans ?_;cases(List.range o.length).all (λi=>decide (o.getD i 0=i+1))<;>simp only[GMw]
     have aE:(i:Int)<(o.length:Int):=(by omega);unfold Udd;simp only[GMw,AA,Ax,aE,A4 hi,zXh,Ar (show i<9223372036854775807 by omega),hfin];simp only[VO,VG hi,Option.getD_some];by_cases he:o[i]=i+1;have:(o[i]:Int)=((i+1:Nat):Int):=(by omega);simp only[zXc this,zXc he,GMw];have:¬(o[i]:Int)=((i+1:Nat):Int):=(by omega);simp only[zXd this,zXd he,GMw];have hd:decide ((o.length:Int)=(L.length:Int))=decide (o.length=L.length):=(by rw[VZ];simp;omega);unfold Udd;simp only[GMw,Ax,Wv,hfin,hd]
def Vb (L:List Nd)(tk:Tok)(H:Aa)(hL:L.length<17592186044415):Ub7 (.agg [.sl (enL cNd L) tk]) H=some (.ret (.i6 (if L=[]then 0 else Cm L)),H):=by
 unfold Ub7;simp only[GMw,Aj,Nat.add_zero,VgV,EP,Hr,zXh,Ax];by_cases h0:L=[];subst h0;simp
 ·have hlen:L.length≠0:=λh=>h0 (We h);have dT:¬((L.length:Int)=0):=by omega
  have hm:L.length-1<L.length:=by omega
  have hw:I_.wrap ((L.length:Int)-1)=((L.length-1:Nat):Int):=Hk (by omega) (by omega);have ht:Cm L=L[L.length-1].lv:=by unfold Cm;rw[F8 (n:=L.length-1) (by omega) hm]
  simp only[h0,dT,GMw,A2,AA,Nat.add_zero,Eu,hw,A4 hm,Ih,ht]
abbrev nd0:Nd:=⟨0,0,0,0,0⟩
def Nd.setKid (x:Nd)(k:Nat)(c:Int):Nd:=match k with | 0=>{x with k0:=c} | 1=>{x with k1:=c} | 2=>{x with k2:=c} | _=>{x with k3:=c}
def Ve3 (x:Nd)(k:Nat)(c:Int):(x.setKid k c).lv=x.lv:=by unfold Nd.setKid;split<;>rfl
def VaE (x:Nd){k:Nat}(c:Int)(h:k<4):(x.setKid k c).kid k=c:=by
 match k,h with
 |0,_=>rfl
 |1,_=>rfl
 |2,_=>rfl
 |3,_=>rfl
def GB (x:Nd){k j:Nat}(c:Int)(h:k<4)(hj:j<4)(hne:j≠k):(x.setKid k c).kid j=x.kid j:=by
 match k,j,h,hj with
 |0,1,_,_=>rfl
 |0,2,_,_=>rfl
 |0,3,_,_=>rfl
 |1,0,_,_=>rfl
 |1,2,_,_=>rfl
 |1,3,_,_=>rfl
 |2,0,_,_=>rfl
 |2,1,_,_=>rfl
 |2,3,_,_=>rfl
 |3,0,_,_=>rfl
 |3,1,_,_=>rfl
 |3,2,_,_=>rfl
 |0,0,_,_=>exact zYf rfl hne
 |1,1,_,_=>exact zYf rfl hne
 |2,2,_,_=>exact zYf rfl hne
 |3,3,_,_=>exact zYf rfl hne
section
variable {H:Aa}{p k:Nat}{x:Nd}{cs cs':List Ab}
theorem HV (hg:H[p]? = some (.c0 (cNd x))):Ad true 5 (.ptr p 0 0) H=some (.agg (cNd x)):=by simp only[Ad,A0 hg,zXa,zYd];rfl
theorem ST (hg:H[p]? = some (.c0 (cNd x))):Ad false 1 (.ptr p 0 0) H=some (.i6 x.lv):=by simp only[Ad,A0 hg,zXa,VL,zYe];rfl
theorem Vm (hg:H[p]? = some (.c0 (cNd x)))(h:k<4):Ad false 1 (.ptr p 0 (1+k)) H=some (.i6 (x.kid k)):=by simp only[Ad,A0 hg,zXa,VL,zYe];exact EE h
theorem Fj {c:Int}(hg:H[p]? = some (.c0 (cNd x)))(h:k<4):Ae 1 (.ptr p 0 (1+k)) (.i6 c) H=some (H.set p (.c0 (cNd (x.setKid k c)))):=by
 simp only[Ae,A0 hg,zXa,VdQ,BE hg]
 match k,h with
 |0,_=>rfl
 |1,_=>rfl
 |2,_=>rfl
 |3,_=>rfl
theorem JR (hg:H[p]? = some (.c0 cs))(hl:cs.length=5):Ae 5 (.ptr p 0 0) (.agg (cNd x)) H=some (H.set p (.c0 (cNd x))):=by simp only[Ae,A0 hg,zXa,VE,BE hg,DJ hl];rw[zYc ⟨rfl,by omega⟩]
theorem HY {K:IntKind}{id g o:Nat}(h:k<4):BM 4 1 (.ptr id g o) (.int K (k:Int))=some (.ptr id g (o+k)):=by unfold BM;simp only[];rw[zYc ⟨by omega,by omega⟩];simp

end
theorem PI (H:Aa):Av (some [.i6 0,.i6 0,.i6 0,.i6 0,.i6 0]) H=some (.ptr H.length 0 0,H++[.c0 (cNd nd0)]):=alloc_eq rfl
def Ia (L:List Nd):(AG L).getD 0 true=true:=by
 have key:∀(l:List Nd)(E:List Bool),E[0]? = some true->(l.foldl (λE x=>E++[P5 E x]) E)[0]? = some true:=by
  intro l
  induction l with
  |nil=>intro E h;exact h
  |cons a l ih=>intro E h;exact ih _ (by rw[VN (by cases E with | nil=>simp at h | cons e E=>simp)];exact h)
 rw[VO,show(AG L)[0]? = some true from key L [true] rfl];rfl
def Ke (L:List Nd)(x:Nd)(k:Nat):Int:=if x.kid k=0 then 0 else (Bm L (x.kid k)).kid (3-k)
def FV (L:List Nd)(n:Nat):Nd:=⟨(Bm L n).lv-1,Ke L (Bm L n) 0,Ke L (Bm L n) 1,Ke L (Bm L n) 2,Ke L (Bm L n) 3⟩
def Db:Nat->List Nd->Nat->List Nd×Nat
 |0,L,n=>(L,n)
 |f+1,L,n=>if FB L n then Db f (L++[FV L n]) (L.length+1)else (L,n)
def Ex (L:List Nd)(n:Nat):List Nd×Nat:=
 if (AG L).getD n true then (L,0)else Db (Bm L n).lv.toNat L n
def VfX (L:List Nd)(n:Nat){k:Nat}(h:k<4):(FV L n).kid k=Ke L (Bm L n) k:=by
 match k,h with
 |0,_=>rfl
 |1,_=>rfl
 |2,_=>rfl
 |3,_=>rfl
def Vd2 {L:List Nd}{x:Nd}(hl:AY L=true)(hx:G5 (L++[x]) L.length=true):AY (L++[x])=true:=by
 unfold AY;rw[Wf];intro i hi;have aE:i<L.length+1:=by simpa using hi
 by_cases h:i=L.length;rw[h];exact hx
 ·have hlt:i<L.length:=by omega
  have h1:=Wf.1 hl i (by simpa using hlt);simp only[G5,VN hlt,VG hlt,VV,Wf]at h1⊢;refine⟨h1.1,λk hk=>?_⟩;have h2:=h1.2 k hk;simp only[Du,VV,zXe]at h2⊢;refine⟨h2.1,λq1 q2=>?_⟩;obtain⟨r1,r2⟩:=h2.2 q1 q2;refine⟨r1,λy hy=>?_⟩;rw[VN (by omega)]at hy;exact r2 y hy
def Vd3 {L:List Nd}{x:Nd}(h1:1<=x.lv)(h2:x.lv<=1329)(h3:∀k,k<4->0<=x.kid k/\(x.lv=1->x.kid k<=255)/\(1<x.lv->0<x.kid k->x.kid k<=L.length/\(Bm L (x.kid k)).lv=x.lv-1)):G5 (L++[x]) L.length=true:=by
 simp only[G5,Wt (VM _),Wu,zXh,VV,zXe,Wf];refine⟨⟨h1,h2⟩,λk hk=>?_⟩;obtain⟨q1,q2,q3⟩:=h3 k (by simpa using hk);simp only[Du,VV,zXe];refine⟨⟨q1,q2⟩,λr1 r2=>?_⟩;obtain⟨s1,s2⟩:=q3 r1 r2;refine⟨s1,λy hy=>?_⟩;have hlt:(x.kid k-1).toNat<L.length:=by omega
 rw[VN hlt,VG hlt]at hy;injection hy with hy;rw[<-hy,<-s2,F8 (n:=(x.kid k-1).toNat) (by omega) hlt]
def Qk {L:List Nd}(hl:AY L=true){n:Nat}(hn:n<L.length)(h2:2<=L[n].lv):AY (L++[FV L (n+1)])=true:=by
 obtain⟨l1,l2,l3⟩:=AZ hl hn;have e:Bm L ((n+1:Nat):Int)=L[n]:=BK hn;have elv:(FV L (n+1)).lv=L[n].lv-1:=by show(Bm L ((n+1:Nat):Int)).lv-1=_;rw[e]
 refine Vd2 hl (Vd3 (by omega) (by omega) λk hk=>?_);obtain⟨q1,q2,q3⟩:=l3 k hk;rw[VfX L (n+1) hk,elv,e];unfold Ke;by_cases hc:L[n].kid k=0;rw[zYc hc];exact⟨by omega,λ_=>by omega,λ_ h=>by omega⟩
 ·rw[zYb hc];obtain⟨m,hm⟩:∃m:Nat,L[n].kid k=((m+1:Nat):Int):=⟨(L[n].kid k-1).toNat,by omega⟩;obtain⟨r1,r2⟩:=q3 (by omega) (by omega);have hml:m<L.length:=by omega
  have hy:=r2 L[m] (by rw[show(L[n].kid k-1).toNat=m from by omega];exact VG hml);obtain⟨y1,y2,y3⟩:=AZ hl hml;rw[F8 hm hml];obtain⟨s1,s2,s3⟩:=y3 (3-k) (by omega);refine⟨s1,λh=>s2 (by omega),λh h0=>?_⟩;obtain⟨t1,t2⟩:=s3 (by omega) h0;refine⟨by omega,?_⟩;obtain⟨c,cE⟩:∃c:Nat,L[m].kid (3-k)=((c+1:Nat):Int):=⟨(L[m].kid (3-k)-1).toNat,by omega⟩;have aG:c<L.length:=by omega
  rw[F8 cE aG];have:=t2 L[c] (by rw[show(L[m].kid (3-k)-1).toNat=c from by omega];exact VG aG);omega
def Ql {L:List Nd}{n:Nat}(h:FB L n=true):n≠0/\2<=(Bm L n).lv:=by simp only[FB,VV,zXe]at h;exact⟨h.1.1,h.1.2⟩
def VB {H G:Aa}{l:List Nd}{x:Nd}(h:l.length<3518437208883):AS AO 5 40 (.sl (enL cNd l) (.own H.length)) (.sl (enL cNd [x]) .ti) (H++.tok l.length AO 5::G)=some (.sl (enL cNd (l++[x])) (.own H.length),H++.tok (l.length+1) AO 5::G):=by have:=F5 (f:=cNd) (l:=l) (m:=[x]) (ty:=AO) (bytes:=40) (tk:=.ti) (H:=H++.tok l.length AO 5::G) (t:=H.length) (by simp) (by simp) (by simp;omega) (by simp;omega);rw[this];simp
def UJ (f:Nat->Int)(x:Nd):Nat->Nd
 |0=>x
 |k+1=>(UJ f x k).setKid k (f k)
theorem UI (f:Nat->Int)(x:Nd):UJ f x 4=⟨x.lv,f 0,f 1,f 2,f 3⟩:=rfl
def TK (z:Int):Az (some [.i6 0,.i6 0,.i6 0,.i6 0,.i6 0]) [(0,1,.i6 z)]=some (.agg (cNd ⟨z,0,0,0,0⟩)):=by simp[Az,Gy,D3,cNd]
def Vdt (L:List Nd)(tk:Tok)(n:Nat)(H:Aa)(hL:L.length<3518437200000)(hl:AY L=true)(hn:n<=L.length):UdQ (.sl (enL cNd L) tk) (.i6 (n:Int)) H=some (.ret (.tup [.sl (enL cNd (Ex L n).1) .no,.i6 ((Ex L n).2:Int)]),H):=by
 unfold UdQ;have hb:AK 5 []=some (.sl (enL cNd []) .ti):=rfl;rw[hb];by_cases h0:L=[]
 ·subst h0;have dQ:n=0:=by simpa using hn
  subst dQ;have ha:AS AO 5 40 (.sl (enL cNd []) .ti) (.sl (enL cNd []) tk) H=some (.sl (enL cNd []) .ti,H):=F6 (by simp[C8,enL]);have he:=Vc [] .ti 0 H (by simp) hl (VM _);simp only[GMw,ha,he,show(AG []).getD 0 true=true from rfl,M8,CH,BC,BY,Ja,Da,zXb]
  rfl
 ·have ha:AS AO 5 40 (.sl (enL cNd []) .ti) (.sl (enL cNd L) tk) H=some (.sl (enL cNd L) (.own H.length),H++[.tok L.length AO 5]):=by have:=De (f:=cNd) (l:=[]) (m:=L) (ty:=AO) (bytes:=40) (tk:=tk) (H:=H) h0 (by simp;omega) (by simp;omega);simpa using this
  simp only[GMw,ha,Vc L _ n _ (show L.length<140737488355327 by omega) hl hn];unfold Ex;cases sS:(AG L).getD n true with
  |true=>simp only[GMw,CD,CH,BC,BY,Ja,Da,zXb];rfl
  |false=>
   simp only[GMw];have aV:(Bm L n).lv<=1329:=(by cases n with|zero=>exfalso;rw[Ia]at sS;cases sS|succ m=>rw[BK hn];exact(AZ hl hn).2.1);have key:=Bf (G:=λrec1 vs H1=>UeJ H rec1 (ag vs 0) (ag vs 1) H1) (σ:=List Nd×Nat×Aa) (λs=>AY s.1=true/\s.2.1<=s.1.length/\s.1.length+(Bm s.1 s.2.1).lv.toNat<3518437208883/\s.1.length+(Bm s.1 s.2.1).lv.toNat<3518437208883)
    (λs=>[.i6 (s.2.1:Int),.sl (enL cNd s.1) (.own H.length)]) (λs=>H++.tok s.1.length AO 5::s.2.2) (λs=>(Bm s.1 s.2.1).lv.toNat)
    (λs=>some (.ret (.tup [.sl (enL cNd (Db (Bm s.1 s.2.1).lv.toNat s.1 s.2.1).1) .no,.i6 ((Db (Bm s.1 s.2.1).lv.toNat s.1 s.2.1).2:Int)]),H)) (λs rec hs hrec=>?_) (L,n,[]) ⟨hl,hn,by dsimp only;omega,by dsimp only;omega⟩ (by dsimp only;omega)
   exact key
   ·obtain⟨M,i,G⟩:=s;obtain⟨hs1,mC,qS,uY⟩:=hs;simp only at hs1 mC qS uY hrec⊢;unfold UeJ;simp only[GMw,S4 M _ i _ (show M.length<140737488355327 by omega) hs1 mC];cases hh:FB M i with
    |false=>have:Db (Bm M i).lv.toNat M i=(M,i):=(by cases(Bm M i).lv.toNat with|zero=>rfl|succ f=>simp[Db,hh]);simp only[GMw,this,CD,CH,BC,BY,Ja,Da,zXb]
    |true=>
     obtain⟨jS,iA⟩:=Ql hh;obtain⟨m,rfl⟩:∃m,i=m+1:=⟨i-1,by omega⟩;have hm:m<M.length:=mC;obtain⟨l1,l2,l3⟩:=AZ hs1 hm;have hx:Bm M ((m+1:Nat):Int)=M[m]:=BK hm;rw[hx]at iA qS hrec⊢;have cZ:I_.wrap (((m+1:Nat):Int)-1)=(m:Int):=(by rw[Am]<;>omega);have lI:I_.wrap (M[m].lv-1)=M[m].lv-1:=Am (by omega) (by omega);have jY:Db M[m].lv.toNat M (m+1)=Db (M[m].lv-1).toNat (M++[FV M (m+1)]) (M.length+1):=(by rw[show M[m].lv.toNat=(M[m].lv-1).toNat+1 from by omega];simp only[Db,hh,zYd]);generalize hB:H++.tok M.length AO 5::G=B;simp only[GMw,A2,AA,Nat.add_zero,Eu,cZ,A4 hm,lI,TK,PI,JR (Ap (B:=B) (cs:=cNd nd0)) rfl,Bg];refine Ct (G:=λaA vs H1=>UdP H rec aA (ag vs 0) (ag vs 1) (ag vs 2) (ag vs 3) H1) 4 (λk=>[.i6 ((m+1:Nat):Int),.sl (enL cNd M) (.own H.length),.ptr B.length 0 0,.i6 (k:Int)]) (λk=>B++[.c0 (cNd (UJ (Ke M M[m]) ⟨M[m].lv-1,0,0,0,0⟩ k))]) _ (by decide) (λaA k hk=>?_) (λaA=>?_)
     ·have hk':(k:Int)<4:=(by omega);unfold UdP;have oU:=Vfe M (.own H.length) m k (B++[.c0 (cNd (UJ (Ke M M[m]) ⟨M[m].lv-1,0,0,0,0⟩ k))]) (by omega) hs1 hm iA hk;simp only[GMw,hk',oU,Aj,VK,HY hk,Fj (Ap (B:=B)) hk,Bg,Ar (show k<9223372036854775807 by omega)]
      rfl
     have hf:¬(((4:Nat):Int)<4):=(by decide);have oX:(⟨M[m].lv-1,Ke M M[m] 0,Ke M M[m] 1,Ke M M[m] 2,Ke M M[m] 3⟩:Nd)=FV M (m+1):=(by unfold FV;rw[hx]);unfold UdP;rw[UI];simp only[GMw,hf,HV (Ap (B:=B)),Kx];rw[<-hB,VP,List.cons_append,VB (by omega)];simp only[GMw,Ax,VR,zXi,oX];have eH:(Bm (M++[FV M (m+1)]) ((M.length+1:Nat):Int)).lv=M[m].lv-1:=(by rw[BK (by simp),show(M++[FV M (m+1)])[M.length]'(by simp)=FV M (m+1) from by simp];show(Bm M ((m+1:Nat):Int)).lv-1=_;rw[hx]);have:=hrec (M++[FV M (m+1)],M.length+1,G++[.c0 (cNd (FV M (m+1)))]) ⟨Qk hs1 hm iA,by simp,by dsimp only;rw[eH];simp;omega,by dsimp only;rw[eH];simp;omega⟩ (by dsimp only;rw[eH];omega);simp only[VR,zXi]at this;rw[this,eH,jY]
def CM (l:List Nd)(x:Nd):Nat:=match (List.range l.length).find? (λi=>decide (l.getD i nd0=x))with | some i=>i+1 | none=>0
def Hu {l:List Nd}{x:Nd}{i:Nat}:CM l x=i+1↔l[i]? = some x/\∀j,j<i->l[j]? ≠ some x:=by
 unfold CM;constructor
 ·intro h;cases hf:(List.range l.length).find? (λi=>decide (l.getD i nd0=x))with
  |none=>rw[hf]at h;dsimp only at h;omega
  |some k=>rw[hf]at h;dsimp only at h;have hk:k=i:=(by omega);subst hk;rw[Yn]at hf;obtain⟨h1,h2,h3⟩:=hf;have hlt:k<l.length:=(by simpa using h2);simp only[zXe,VO,VG hlt,Option.getD_some]at h1;refine⟨by rw[VG hlt,h1],λj hj e=>?_⟩;have:=h3 j hj;simp only[VO,e,Option.getD_some,decide_true,Wp]at this;cases this
 ·rintro⟨h1,h2⟩;have hlt:i<l.length:=(VJ.1 h1).1;have hf:(List.range l.length).find? (λi=>decide (l.getD i nd0=x))=some i:=by rw[Yn];refine⟨by simp[VO,h1],by simpa using hlt,λj hj=>?_⟩;have tY:j<l.length:=(by omega);have:=h2 j hj;rw[VG tY]at this;simp only[VO,VG tY,Option.getD_some,WC,zYl];exact λe=>this (by rw[e])
  rw[hf]
def KT {l:List Nd}{x:Nd}:CM l x=0↔x ∉ l:=by
 constructor;intro h hx;obtain⟨i,hi,aI⟩:=Ws hx;unfold CM at h;cases hf:(List.range l.length).find? (λi=>decide (l.getD i nd0=x))with|none=>have:=XD.1 hf i (by simpa using hi);simp[VO,VG hi,aI]at this|some k=>rw[hf]at h;dsimp only at h;omega
 intro h;cases hf:CM l x with|zero=>rfl|succ i=>rw[Hu]at hf;exact zYf (Wo hf.1) h
def Px {l m:List Nd}{x:Nd}(h:CM l x≠0):CM (l++m) x=CM l x:=by cases hf:CM l x with|zero=>exact zYf hf h|succ i=>rw[Hu]at hf⊢;have hlt:i<l.length:=(VJ.1 hf.1).1;refine⟨by rw[VN hlt];exact hf.1,λj hj=>?_⟩;rw[VN (by omega)];exact hf.2 j hj
def Vz {l:List Nd}{x:Nd}(h:CM l x=0):CM (l++[x]) x=l.length+1:=by rw[Hu];refine⟨by simp,λj hj e=>?_⟩;rw[VN hj]at e;exact KT.1 h (Wo e)
def DA (out:List Nd)(x:Nd):List Nd×Nat:=if CM out x=0 then (out++[x],out.length+1)else (out,CM out x)
def Cr (rec:Nat->List Nd->List Nd×Nat)(x:Nd):Nat->List Nd->List Nd×Nd
 |0,out=>(out,x)
 |k+1,out=>((rec (x.kid k).toNat (Cr rec x k out).1).1,(Cr rec x k out).2.setKid k ((rec (x.kid k).toNat (Cr rec x k out).1).2:Int))
def Bu (L:List Nd)(E:List Bool):Nat->Nat->List Nd->List Nd×Nat
 |0,_,out=>(out,0)
 |v+1,n,out=>
  if E.getD n true then (out,0)
  else if 1<(Bm L n).lv then DA (Cr (Bu L E v) (Bm L n) 4 out).1 (Cr (Bu L E v) (Bm L n) 4 out).2
  else DA out (Bm L n)
def SA (out:List Nd)(x:Nd):0<(DA out x).2:=by unfold DA;split;simp;dsimp only;omega
def S9 (out:List Nd)(x:Nd):∃r,(DA out x).1=out++r:=by unfold DA;split;exact⟨_,rfl⟩;exact⟨[],by simp⟩
def SC (out:List Nd)(x:Nd)(r:List Nd):DA ((DA out x).1++r) x=((DA out x).1++r,(DA out x).2):=by
 by_cases h:CM out x=0
 ·have h1:DA out x=(out++[x],out.length+1):=by simp[DA,h]
  rw[h1];have h2:CM (out++[x]++r) x=out.length+1:=by rw[Px (by rw[Vz h];omega),Vz h]
  dsimp only;unfold DA;rw[h2,zYb (by omega)]
 ·have h1:DA out x=(out,CM out x):=by simp[DA,h]
  rw[h1];dsimp only;unfold DA;rw[Px h,zYb h]
section
variable {L:List Nd}{E:List Bool}
theorem Tb {rec:Nat->List Nd->List Nd×Nat}(hr:∀n out,∃r,(rec n out).1=out++r)(x:Nd):∀k out,∃r,(Cr rec x k out).1=out++r
 |0,out=>⟨[],by simp[Cr]⟩
 |k+1,out=>by obtain⟨r,h⟩:=Tb hr x k out;obtain⟨r',h'⟩:=hr (x.kid k).toNat (Cr rec x k out).1;exact⟨r++r',by simp only[Cr];rw[h',h];simp⟩
theorem Tc:∀v n out,∃r,(Bu L E v n out).1=out++r
 |0,n,out=>⟨[],by simp[Bu]⟩
 |v+1,n,out=>by simp only[Bu];split;exact⟨[],by simp⟩;split;obtain⟨r,h⟩:=Tb (Tc v) (Bm L n) 4 out;obtain⟨r',h'⟩:=S9 (Cr (Bu L E v) (Bm L n) 4 out).1 (Cr (Bu L E v) (Bm L n) 4 out).2;exact⟨r++r',by rw[h',h];simp⟩;exact S9 _ _
theorem IX:∀v n out r,Bu L E v n ((Bu L E v n out).1++r)=((Bu L E v n out).1++r,(Bu L E v n out).2)
 |0,n,out,r=>by simp[Bu]
 |v+1,n,out,r=>by
  by_cases he:E.getD n true=true;simp only[Bu,zYc he]
  ·by_cases hl:1<(Bm L n).lv
   ·have e:∀o,Bu L E (v+1) n o=DA (Cr (Bu L E v) (Bm L n) 4 o).1 (Cr (Bu L E v) (Bm L n) 4 o).2:=λo=>(by simp only[Bu,zYb he,zYc hl]);have key:∀k,k<=4->∀s,Cr (Bu L E v) (Bm L n) k ((Cr (Bu L E v) (Bm L n) k out).1++s)=((Cr (Bu L E v) (Bm L n) k out).1++s,(Cr (Bu L E v) (Bm L n) k out).2):=by
     intro k
     induction k with
     |zero=>intro _ s;simp[Cr]
     |succ k ih=>intro hk s;simp only[Cr];obtain⟨r',h'⟩:=Tc (L:=L) (E:=E) v ((Bm L n).kid k).toNat (Cr (Bu L E v) (Bm L n) k out).1;have hi:=ih (by omega) (r'++s);have ha:=IX v ((Bm L n).kid k).toNat (Cr (Bu L E v) (Bm L n) k out).1 s;rw[h']at ha⊢;rw[VP,hi];rw[VP]at ha;dsimp only;rw[ha]
    obtain⟨r',h'⟩:=S9 (Cr (Bu L E v) (Bm L n) 4 out).1 (Cr (Bu L E v) (Bm L n) 4 out).2;have ha:=SC (Cr (Bu L E v) (Bm L n) 4 out).1 (Cr (Bu L E v) (Bm L n) 4 out).2 r;rw[e,e];rw[h']at ha⊢;rw[VP,key 4 (by omega)];dsimp only;rw[VP]at ha;exact ha
   have e:∀o,Bu L E (v+1) n o=DA o (Bm L n):=λo=>(by simp only[Bu,zYb he,zYb hl]);rw[e,e];exact SC out (Bm L n) r

end
def Vib (l:List Nd)(tk:Tok)(x:Nd)(H:Aa)(hl:l.length<1152921504606846975):UbR (.sl (enL cNd l) tk) (.agg (cNd x)) H=some (.ret (.i6 (CM l x:Int)),H):=by
 unfold UbR;rw[BF (sz:=5) Jg rfl];simp only[GMw];have hp:(H++[Blk.c0 (cNd x)])[H.length]? = some (.c0 (cNd x)):=Ap;have key:=O6 (G:=λrec1 vs H1=>UdR H rec1 (ag vs 0) (ag vs 1) (ag vs 2) H1) l.length (λi=>decide (l.getD i nd0=x)) (λi=>[.sl (enL cNd l) tk,.ptr H.length 0 0,.i6 (i:Int)]) (H++[.c0 (cNd x)])
  (some (.ret (.i6 0),H)) (λi=>some (.ret (.i6 ((i+1:Nat):Int)),H)) (by omega) (λrec i hi=>?_) (λrec=>?_)
 refine key.trans ?_;unfold CM;cases(List.range l.length).find? (λi=>decide (l.getD i nd0=x))<;>rfl
 ·have aE:(i:Int)<(l.length:Int):=by omega
  unfold UdR;simp only[GMw,Ax,aE,A4 hi,Jz,HV hp,Voe,Ar (show i<9223372036854775807 by omega),Ih];simp only[VO,VG hi,Option.getD_some];by_cases he:l[i]=x;simp only[he,GMw];simp only[he,GMw]
 unfold UdR;simp only[GMw,Ax,Wv,Ih]
structure VS (b id:Nat)(out:List Nd)(D:zAb)(v:Ab)(H:Aa):Prop where
 hv:(out=[]/\v=.sl [] .ti)\/∃t,b<=t/\v=.sl (enL cNd out) (.own t)/\H[t]? = some (.tok out.length AO 5)
 hd:H[id]? = some (.c0 (flat cN D))
structure Ext (b id:Nat)(H H':Aa):Prop where
 len:H.length<=H'.length
 cel:∀(i:Nat)(cs:List Ab),i≠id->H[i]? = some (.c0 cs)->H'[i]? = some (.c0 cs)
 old:∀i,i<b->H'[i]? = H[i]?
theorem Ext.refl (b id:Nat)(H:Aa):Ext b id H H:=⟨VM _,λ_ _ _ h=>h,λ_ _=>rfl⟩
theorem Ext.trans {b id:Nat}{H H1 H2:Aa}(h:Ext b id H H1)(h':Ext b id H1 H2):Ext b id H H2:=
 ⟨Wg h.len h'.len,λi cs hi hc=>h'.cel i cs hi (h.cel i cs hi hc),λi hi=>(h'.old i hi).trans (h.old i hi)⟩
theorem VS.sl {b id:Nat}{out:List Nd}{D:zAb}{v:Ab}{H:Aa}(h:VS b id out D v H):∃tk,v=.sl (enL cNd out) tk:=by rcases h.hv with ⟨rfl,rfl⟩ | ⟨t,_,rfl,_⟩;exact⟨_,rfl⟩;exact⟨_,rfl⟩
def Pt {H:Aa}{i:Nat}{x:Blk}(B:Blk)(h:H[i]? = some x):(H++[B])[i]? = some x:=by have:=(VJ.1 h).1;rw[VN this];exact h
theorem VS.snoc {b id:Nat}{out:List Nd}{D:zAb}{v:Ab}{H:Aa}(h:VS b id out D v H)(B:Blk):VS b id out D v (H++[B]):=by refine⟨?_,Pt B h.hd⟩;rcases h.hv with h1 | ⟨t,h1,h2,h3⟩;exact .inl h1;exact .inr ⟨t,h1,h2,Pt B h3⟩
theorem Ext.snoc {b id:Nat}{H:Aa}(hb:b<=H.length)(B:Blk):Ext b id H (H++[B]):=
 ⟨by simp,λi cs _ h=>Pt B h,λi hi=>by rw[VN (by omega)]⟩
theorem VS.put {b id p:Nat}{out:List Nd}{D:zAb}{v:Ab}{H:Aa}{c c':List Ab}(h:VS b id out D v H)(hp:H[p]? = some (.c0 c))(hne:p≠id):VS b id out D v (H.set p (.c0 c')):=by
 refine⟨?_,by rw[VH hne];exact h.hd⟩;rcases h.hv with h1 | ⟨t,h1,h2,h3⟩;exact .inl h1
 ·refine .inr ⟨t,h1,h2,?_⟩;have:p≠t:=λe=>by rw[<-e,hp]at h3;cases h3
  rw[VH this];exact h3
theorem VS.app {b id:Nat}{out:List Nd}{D:zAb}{v:Ab}{H:Aa}(h:VS b id out D v H)(hb:b<=H.length)(x:Nd)(hl:out.length<3518437208883):∃v' H',AS AO 5 40 v (.sl (enL cNd [x]) .ti) H=some (v',H')/\VS b id (out++[x]) D v' H'/\Ext b id H H':=by
 rcases h.hv with ⟨rfl,rfl⟩ | ⟨t,h1,rfl,h3⟩;have:=De (f:=cNd) (l:=[]) (m:=[x]) (ty:=AO) (bytes:=40) (tk:=.ti) (H:=H) (by simp) (by simp) (by simp);refine⟨_,_,this,⟨.inr ⟨H.length,hb,rfl,by simp⟩,Pt _ h.hd⟩,Ext.snoc hb _⟩;have:=F5 (f:=cNd) (l:=out) (m:=[x]) (ty:=AO) (bytes:=40) (tk:=.ti) (H:=H) (t:=t) (by simp) h3 (by simp;omega) (by simp;omega);have jC:=(VJ.1 h3).1;refine⟨_,_,this,⟨.inr ⟨t,h1,rfl,by simp[jC]⟩,?_⟩,⟨by simp,λi cs hi hc=>?_,λi hi=>?_⟩⟩;have:t≠id:=λe=>(by have:=h.hd;rw[<-e,h3]at this;cases this);rw[VH this];exact h.hd;have:t≠i:=λe=>(by rw[<-e,h3]at hc;cases hc);rw[VH this];exact hc;rw[VH (by omega)]
structure VI (L out:List Nd)(D:zAb):Prop where
 len:D.length=L.length+1
 cnt:out.length<=D.countP (λd=>decide (0<d))
 val:∀(n d:Nat),D[n]? = some d->0<d->Bu L (AG L) (Bm L n).lv.toNat n out=(out,d)
theorem VI.grow {L out r:List Nd}{D:zAb}(h:∀(n d:Nat),D[n]? = some d->0<d->Bu L (AG L) (Bm L n).lv.toNat n out=(out,d)):∀(n d:Nat),D[n]? = some d->0<d->Bu L (AG L) (Bm L n).lv.toNat n (out++r)=(out++r,d):=by
 intro n d h1 h2;have h3:=h n d h1 h2;have:=IX (L:=L) (E:=AG L) (Bm L n).lv.toNat n out r
 rwa [h3]at this
theorem VI.le {L out:List Nd}{D:zAb}(h:VI L out D):out.length<=L.length+1:=by have:=h.cnt;have:=List.countP_le_length (p:=λd:Nat=>decide (0<d)) (l:=D);have:=h.len;omega
def Vl7 {L:List Nd}{E:List Bool}{v n:Nat}{out:List Nd}(he:E.getD n true=false)(hl:1<(Bm L n).lv):Bu L E (v+1) n out=DA (Cr (Bu L E v) (Bm L n) 4 out).1 (Cr (Bu L E v) (Bm L n) 4 out).2:=by simp only[Bu,he,VL,zYe,zYc hl]
def ViF {L:List Nd}{E:List Bool}{v n:Nat}{out:List Nd}(he:E.getD n true=false)(hl:¬1<(Bm L n).lv):Bu L E (v+1) n out=DA out (Bm L n):=by simp only[Bu,he,VL,zYe,zYb hl]
theorem Vbc (rec:Nat->List Nd->List Nd×Nat)(x:Nd):∀k out,(Cr rec x k out).2.lv=x.lv
 |0,out=>rfl
 |k+1,out=>by simp only[Cr,Ve3];exact Vbc rec x k out
theorem Vcy (rec:Nat->List Nd->List Nd×Nat)(x:Nd):∀k out j,k<=j->j<4->(Cr rec x k out).2.kid j=x.kid j
 |0,out,j,_,_=>rfl
 |k+1,out,j,h1,h2=>by simp only[Cr];rw[GB _ _ (by omega) h2 (by omega)];exact Vcy rec x k out j (by omega) h2
def Vfb {L:List Nd}(tk tk2:Tok)(b id:Nat)(hL:L.length<3518437208880)(hl:AY L=true):∀(v n d:Nat)(out:List Nd)(D:zAb)(w:Ab)(H:Aa),n<=L.length->(n=0\/(Bm L n).lv.toNat=v)->v<d->b<=id->id<H.length->VS b id out D w H->VI L out D ->
  ∃H' D' w',UfD d (.sl (enL cNd L) tk) (.sl (enL cB (AG L)) tk2) (.i6 (n:Int)) w (.ms id 0 0 (L.length+1) (L.length+1) 1 true) H=some (.ret (.tup [w',.ms id 0 0 (L.length+1) (L.length+1) 1 true,.i6 ((Bu L (AG L) v n out).2:Int)]),H') /\
   VS b id (Bu L (AG L) v n out).1 D' w' H'/\Ext b id H H'/\VI L (Bu L (AG L) v n out).1 D'/\∀j,n<j->D'[j]? = D[j]? := by
 intro v
 induction v with
 |zero=>
  intro n d out D w H hn hv hd qB hid hVS hVI;have hb:b<=H.length:=by omega
  obtain⟨d,rfl⟩:∃e,d=e+1:=⟨d-1,by omega⟩;have dQ:n=0:=by rcases hv with h | h;exact h;cases n with|zero=>rfl|succ m=>rw[BK (show m<L.length from hn)]at h;have:=(AZ hl (show m<L.length from hn)).1;omega
  subst dQ;have hlt:0<(AG L).length:=by rw[DL];omega
  have he:(AG L)[0]=true:=by have:=Ia L;rw[VO,VG hlt]at this;exact this
  refine⟨H,D,w,?_,hVS,Ext.refl _ _ _,hVI,λ_ _=>rfl⟩;show UbS (UfD d) _ _ _ _ _ _=_;unfold UbS;simp only[GMw,AA,A4 hlt,zXh,he]
  rfl
 |succ v ih=>
  intro n d out D w H hn hv hd qB hid hVS hVI;have hb:b<=H.length:=by omega
  obtain⟨d,rfl⟩:∃e,d=e+1:=⟨d-1,by omega⟩;have hlt:n<(AG L).length:=by rw[DL];omega
  have eX:(AG L).getD n true=(AG L)[n]:=by rw[VO,VG hlt];rfl
  have hDn:n<D.length:=by rw[hVI.len];omega
  have hidx:=CZ (sz:=1) (id:=id) (n:=L.length+1) (K:=.i64) (g:=0) (off:=0) (cap:=L.length+1) (ex:=true) (i:=n) (by omega);simp only[VK,Wa]at hidx;have hld:=I3 (f:=cN) (A0 hVS.hd) hDn;show ∃H' D' w',UbS (UfD d) _ _ _ _ _ _=_/\_;unfold UbS;simp only[GMw,AA,A4 hlt,zXh];cases he:(AG L)[n]with
  |true=>have e:Bu L (AG L) (v+1) n out=(out,0):=(by simp only[Bu,eX,he,zYd]);rw[e];exact⟨H,D,w,by simp only[GMw];rfl,hVS,Ext.refl _ _ _,hVI,λ_ _=>rfl⟩
  |false=>
   rw[he]at eX;simp only[GMw,hidx,hld,zXh];by_cases hpos:0<D[n];have hi:(D[n]:Int)>0:=(by omega);have aQ:(Bm L n).lv.toNat=v+1:=(by rcases hv with h | h;exfalso;subst h;rw[Ia]at eX;cases eX;exact h);have e:=hVI.val n D[n] (VG hDn) hpos;rw[aQ]at e;rw[e];exact⟨H,D,w,by simp only[GMw,hi],hVS,Ext.refl _ _ _,hVI,λ_ _=>rfl⟩
   ·have hi:¬(D[n]:Int)>0:=(by omega);have hD0:D[n]=0:=(by omega);obtain⟨m,rfl⟩:∃m,n=m+1:=⟨n-1,by
     cases n with
     |zero=>rw[Ia]at eX;cases eX
     |succ n=>rfl⟩
    have hm:m<L.length:=hn;have aQ:(Bm L ((m+1:Nat):Int)).lv.toNat=v+1:=(by rcases hv with h | h;omega;exact h);obtain⟨l1,l2,l3⟩:=AZ hl hm;have hx:Bm L ((m+1:Nat):Int)=L[m]:=BK hm;rw[hx]at aQ;have cZ:I_.wrap (((m+1:Nat):Int)-1)=(m:Int):=(by rw[Am]<;>omega);simp only[GMw,hi,cZ,A4 hm,Jz,PI,JR (Ap (B:=H) (cs:=cNd nd0)) rfl,Bg];generalize hX:L[m]=x at l1 l2 l3 aQ hx;have qX:H.length≠id:=(by omega);have loop:=Fp (G:=λrec1 vs H1=>UdS H (UfD d) rec1 (ag vs 0) (ag vs 1) (ag vs 2) (ag vs 3) (ag vs 4) (ag vs 5) (ag vs 6) H1) (if 1<x.lv then 4 else 0)
     (λk vs Hc=>∃w' D',vs=[.sl (enL cNd L) tk,.sl (enL cB (AG L)) tk2,.i6 ((m+1:Nat):Int),w',.ms id 0 0 (L.length+1) (L.length+1) 1 true,.ptr H.length 0 0,.i6 (k:Int)]/\VS b id (Cr (Bu L (AG L) v) x k out).1 D' w' Hc/\Hc[H.length]? = some (.c0 (cNd (Cr (Bu L (AG L) v) x k out).2))/\Ext b id H Hc/\VI L (Cr (Bu L (AG L) v) x k out).1 D'/\(∀j,m<j->D'[j]? = D[j]?))
     (by split<;>decide) (λk vs Hc hk hI=>?_) (vs:=[.sl (enL cNd L) tk,.sl (enL cB (AG L)) tk2,.i6 ((m+1:Nat):Int),w,.ms id 0 0 (L.length+1) (L.length+1) 1 true,.ptr H.length 0 0,.i6 0]) (H:=H++[.c0 (cNd x)]) ⟨w,D,rfl,hVS.snoc _,by simp[Cr],Ext.snoc hb _,hVI,λ_ _=>rfl⟩
    ·obtain⟨vs',Hc,⟨w',D',rfl,hVS',hcell,hExt,hVI',hDD⟩,rec,aB⟩:=loop;rw[aB];unfold UdS;obtain⟨tkk,rfl⟩:=hVS'.sl;have hle:=hVI'.le;have jX:(Ay (.bool (decide (((if 1<x.lv then 4 else 0:Nat):Int)<4))) (.bool (decide (x.lv>1))) (.bool false))=some (.bool false):=(by by_cases h:1<x.lv<;>simp[h]);have mH:(Cr (Bu L (AG L) v) x (if 1<x.lv then 4 else 0) out).2.lv=x.lv:=Vbc _ _ _ _;have jD:Bu L (AG L) (v+1) (m+1) out=DA (Cr (Bu L (AG L) v) x (if 1<x.lv then 4 else 0) out).1 (Cr (Bu L (AG L) v) x (if 1<x.lv then 4 else 0) out).2:=(by by_cases h:1<x.lv;rw[zYc h,Vl7 eX (by rw[hx];exact h),hx];rw[zYb h,ViF eX (by rw[hx];exact h),hx];rfl);have hpre:=Tb (Tc (L:=L) (E:=AG L) v) x (if 1<x.lv then 4 else 0) out;rw[jD];have cF:=IX (L:=L) (E:=AG L) (v+1) (m+1) out [];rw[Wm,jD]at cF;generalize (Cr (Bu L (AG L) v) x (if 1<x.lv then 4 else 0) out)=io at *;obtain⟨o,y⟩:=io;dsimp only at hVS' hcell hVI' mH hpre cF hle⊢;have bL:∀(A B:Out),(gk (.bool (decide (((if 1<x.lv then 4 else 0:Nat):Int)<4))) true (Ac 0 (.ptr H.length 0 0)) λx29=>gk (.bool (decide (((if 1<x.lv then 4 else 0:Nat):Int)<4))) true (Ad false 1 x29 Hc) λx30=>gk (.bool (decide (((if 1<x.lv then 4 else 0:Nat):Int)<4))) true (Af .n .gtr x30 (.i6 1)) λx31=>(Ay (.bool (decide (((if 1<x.lv then 4 else 0:Nat):Int)<4))) x31 (.bool false)).bind λx32=>Ai x32 A B)=B:=(by intro A B;by_cases h:1<x.lv;have hf:¬(((4:Nat):Int)<4):=(by decide);simp only[zYc h,hf,GMw];have hf:(((0:Nat):Int)<4):=(by decide);have h':¬x.lv>1:=h;simp only[hf,GMw,Aj,Nat.add_zero,ST hcell,mH,h']);simp only[At,Ak,Bz,BI];rw[bL];have sI:Aw 1 (.ms id 0 0 (L.length+1) (L.length+1) 1 true) (.i6 ((m+1:Nat):Int))=some (.ptr id 0 (m+1)):=hidx;have hD'n:D'[m+1]? = some 0:=(by rw[hDD (m+1) (by omega),VG hDn,hD0]);have hDl:m+1<D'.length:=(by rw[hVI'.len];omega);have hD'e:D'[m+1]=0:=(by rw[VG hDl]at hD'n;injection hD'n);have fin:∀(o':List Nd)(i:Nat)(w2:Ab)(H2:Aa),DA o y=(o',i)->VS b id o' D' w2 H2->Ext b id H H2->VI L o D'->o'.length<=o.length+1->(∃r,o'=o++r) ->
       ∃H' D'' w'',UeK H (.i6 ((m+1:Nat):Int)) w2 (.ms id 0 0 (L.length+1) (L.length+1) 1 true) (.i6 (i:Int)) H2=some (.ret (.tup [w'',.ms id 0 0 (L.length+1) (L.length+1) 1 true,.i6 (i:Int)]),H')/\VS b id o' D'' w'' H'/\Ext b id H H'/\VI L o' D''/\∀j,m+1<j->D''[j]? = D[j]? := by
      intro o' i w2 H2 hp hV2 hE2 hI2 hlen ⟨r,hr⟩;have jS:0<i:=(by have:=SA o y;rw[hp]at this;exact this);have hst:=Eb (f:=cN) (sz:=1) (l:=D') (i:=m+1) (a:=i) (v:=.i6 (i:Int)) (A0 hV2.hd) hDl rfl;rw[BE hV2.hd,Wa]at hst;have mL:=(VJ.1 hV2.hd).1;refine⟨H2.set id (.c0 (flat cN (D'.set (m+1) i))),D'.set (m+1) i,w2,by unfold UeK;simp only[GMw,sI,hst],⟨?_,by simp[mL]⟩,⟨by simp;exact hE2.len,λj cs hj hc=>?_,λj hj=>?_⟩,⟨by simp[hI2.len],?_,?_⟩,λj hj=>?_⟩;rcases hV2.hv with h1 | ⟨t,h1,h2,h3⟩;exact .inl h1;refine .inr ⟨t,h1,h2,?_⟩;have:id≠t:=λe=>(by have:=hV2.hd;rw[e,h3]at this;cases this);rw[VH this];exact h3;rw[VH (λe=>hj e.symm)];exact hE2.cel j cs hj hc;rw[VH (by omega)];exact hE2.old j hj;rw[List.countP_set hDl];have:=hI2.cnt;simp only[hD'e,jS,decide_true,zYd,Nat.lt_irrefl,zYh,VL,zYe,Nat.sub_zero];omega;intro j dd hj lP;by_cases yP:j=m+1;subst yP;rw[VX hDl]at hj;injection hj with hj;subst hj;rw[hx,aQ];rw[hp]at cF;exact cF;rw[VH (λe=>yP e.symm)]at hj;rw[hr];exact VI.grow hI2.val j dd hj lP;rw[VH (by omega)];exact hDD j (by omega)
     have mE:=Vib o tkk y Hc (by omega);simp only[GMw,HV hcell,mE];by_cases hf:CM o y=0;have hp:DA o y=(o++[y],o.length+1):=(by simp[DA,hf]);obtain⟨w2,H2,ha,hV2,hE2⟩:=hVS'.app (Wg hb hExt.len) y (by omega);obtain⟨tk3,rfl⟩:=hV2.sl;have h0:((CM o y:Nat):Int)=0:=(by omega);obtain⟨H',D'',w'',q1,q2,q3,q4,q5⟩:=fin (o++[y]) (o.length+1) _ H2 hp hV2 (hExt.trans hE2) hVI' (by simp) ⟨[y],rfl⟩;refine⟨H',D'',w'',?_,by rw[hp];exact q2,q3,by rw[hp];exact q4,q5⟩;rw[hp,<-q1];simp only[GMw,h0,Kx,ha,Ax,VR,zXi];have hp:DA o y=(o,CM o y):=(by simp[DA,hf]);have h0:¬((CM o y:Nat):Int)=0:=(by omega);obtain⟨H',D'',w'',q1,q2,q3,q4,q5⟩:=fin o (CM o y) _ Hc hp hVS' hExt hVI' (by omega) ⟨[],by simp⟩;refine⟨H',D'',w'',?_,by rw[hp];exact q2,q3,by rw[hp];exact q4,q5⟩;rw[hp,<-q1];simp only[GMw,h0]
    ·obtain⟨w',D',rfl,hVS',hcell,hExt,hVI',hDD⟩:=hI;have aV:1<x.lv:=(by by_cases h:1<x.lv;exact h;rw[zYb h]at hk;omega);rw[zYc aV]at hk;obtain⟨q1,q2,q3⟩:=l3 k hk;have hk':(k:Int)<4:=(by omega);have mH:=Vbc (Bu L (AG L) v) x k out;have cO:=Vcy (Bu L (AG L) v) x k out k (VM _) hk;obtain⟨c,hc⟩:=WI q1;have Z7:c<=m:=(by by_cases h0:0<x.kid k;have:=(q3 aV h0).1;omega;omega);have wZ:c=0\/(Bm L (c:Int)).lv.toNat=v:=(by by_cases h0:0<x.kid k;right;obtain⟨c',rfl⟩:∃c',c=c'+1:=⟨c-1,by omega⟩;have aG:c'<L.length:=(by omega);have:=(q3 aV h0).2 L[c'] (by rw[show(x.kid k-1).toNat=c' from by omega];exact VG aG);rw[BK aG];omega;left;omega);obtain⟨H1,D1,w1,r1,r2,r3,r4,r5⟩:=ih c d (Cr (Bu L (AG L) v) x k out).1 D' w' Hc (by omega) wZ (by omega) qB (WO hid hExt.len) hVS' hVI';have iJ:=r3.cel _ _ qX hcell;have jR:(x.kid k).toNat=c:=(by omega);refine⟨[.sl (enL cNd L) tk,.sl (enL cB (AG L)) tk2,.i6 ((m+1:Nat):Int),w1,.ms id 0 0 (L.length+1) (L.length+1) 1 true,.ptr H.length 0 0,.i6 ((k+1:Nat):Int)],H1.set H.length (.c0 (cNd ((Cr (Bu L (AG L) v) x k out).2.setKid k ((Bu L (AG L) v c (Cr (Bu L (AG L) v) x k out).1).2:Int)))),⟨w1,D1,rfl,?_,?_,?_,?_,?_⟩,λrec=>?_⟩
     rotate_left 5
     unfold UdS;simp only[At,Ak,GMw,hk',Aj,Nat.add_zero,VK,ST hcell,mH,show x.lv>1 from aV,HY hk,Vm hcell hk,cO,hc,r1,Ba,Bd,NK,Fj iJ hk,Ar (show k<9223372036854775807 by omega)];simp only[Cr,jR];exact r2.put iJ qX;have cT:=(VJ.1 iJ).1;simp only[Cr,jR];rw[VX cT];refine⟨by simp;exact(hExt.trans r3).len,λi cs hi hcs=>?_,λi hi=>?_⟩;have:=(VJ.1 hcs).1;rw[VH (by omega)];exact(hExt.trans r3).cel i cs hi hcs;rw[VH (by omega)];exact(hExt.trans r3).old i hi;simp only[Cr,jR];exact r4;intro j hj;rw[r5 j (by omega)];exact hDD j hj
def Cu {H H0:Aa}(h:∀i,i<H0.length->H[i]? = H0[i]?):H.take H0.length=H0:=by apply Xm;intro i;by_cases hi:i<H0.length;rw[WG hi,h i hi];rw[zYa (by simp;omega),zYa (by omega)]
theorem Sk:∀(f:Nat)(L:List Nd)(n:Nat),AY L=true->n<=L.length->AY (Db f L n).1=true/\(Db f L n).2<=(Db f L n).1.length/\(Db f L n).1.length<=L.length+f
 |0,L,n,hl,hn=>⟨hl,hn,VM _⟩
 |f+1,L,n,hl,hn=>by
  unfold Db;cases hh:FB L n with
  |false=>exact⟨hl,hn,by show L.length<=_;omega⟩
  |true=>obtain⟨h0,h2⟩:=Ql hh;obtain⟨m,rfl⟩:∃m,n=m+1:=⟨n-1,by omega⟩;rw[BK hn]at h2;obtain⟨r1,r2,r3⟩:=Sk f (L++[FV L (m+1)]) (L.length+1) (Qk hl hn h2) (by simp);simp only[zYd];refine⟨r1,r2,?_⟩;simp at r3;omega
def VlK {L:List Nd}{n:Nat}(h:(AG L).getD n true=false):0<n:=by cases n with|zero=>rw[Ia]at h;cases h|succ n=>omega
def QO {L:List Nd}(hl:AY L=true){n:Nat}(h0:0<n)(hn:n<=L.length):(Bm L (n:Int)).lv.toNat<=1329:=by obtain⟨m,rfl⟩:∃m,n=m+1:=⟨n-1,by omega⟩;rw[BK hn];have:=(AZ hl hn).2.1;omega
def UE {L:List Nd}{n:Nat}(hl:AY L=true)(hn:n<=L.length):AY (Ex L n).1=true/\(Ex L n).2<=(Ex L n).1.length/\(Ex L n).1.length<=L.length+1329:=by
 unfold Ex;cases he:(AG L).getD n true with
 |true=>exact⟨hl,Wi _,by show L.length<=_;omega⟩
 |false=>obtain⟨r1,r2,r3⟩:=Sk (Bm L n).lv.toNat L n hl hn;have:=QO hl (VlK he) hn;simp only[VL,zYe];exact⟨r1,r2,by omega⟩
def Q2 (L:List Nd)(n:Nat):List Nd:=(Bu (Ex L n).1 (AG (Ex L n).1) (Bm (Ex L n).1 ((Ex L n).2:Int)).lv.toNat (Ex L n).2 []).1
def VjF (L:List Nd)(n:Int):Bool:=AY L&&decide (0<=n)&&decide (n<=L.length)
def Vnn (L:List Nd)(tk:Tok)(n:Int)(H:Aa)(hL:L.length<3518437200000):UdT (.sl (enL cNd L) tk) (.i6 n) H =
  some (.ret (if VjF L n then .tup [En (Q2 L n.toNat),.i6 0]else .tup [En [],.i6 1]),H):=by
 unfold UdT;rw[alloc_eq (cs:=[.sl [] .ti]) rfl];have hcell:∀G:Aa,(H++[Blk.c0 [.sl [] .ti]]++G)[H.length]? = some (.c0 [.sl [] .ti]):=λG=>by simp
 have bad:∀(k:Ab->Aa->Out),(∀v G,k v G=(BV [Ad true 1 (.ptr H.length 0 0) G,some (.i6 1)]).bind λx19=>rPN H x19 G) ->
   ((Az (some [(.sl [] .ti)]) []).bind λx16=>bP H (As (Ae 1 (.ptr H.length 0 0) x16 (H++[.c0 [.sl [] .ti]]))) k)=some (.ret (.tup [En [],.i6 1]),H):=by
  intro k hk;have hb:Az (some [(.sl [] .ti)]) []=some (.agg [.sl [] .ti]):=rfl;simp only[GMw,hb,IL,N0 (sz:=1) (cs:=[.sl [] .ti]) (vs:=[.sl [] .ti]) (v:=.agg [.sl [] .ti]) rfl rfl rfl,zXb,hk,EP,SR,zXi,B2,AW,Bl];simp only[CD,CH,BC,BY,Ht,Fw,Gp,Jb,Da,GMw,zXb]
  rfl
 simp only[GMw,Va L tk _ (show L.length<1152921504606846976 by omega)];unfold VjF;cases hl:AY L with
 |false=>simp only[GMw];exact bad _ λv G=>rfl
 |true=>
  simp only[GMw];by_cases dQ:n<0;have:¬0<=n:=(by omega);simp only[GMw,dQ,this];exact bad _ λv G=>rfl
  ·have dT:0<=n:=(by omega);by_cases eR:n>L.length;have:¬n<=L.length:=(by omega);simp only[GMw,dQ,dT,eR,this,Ax];exact bad _ λv G=>rfl
   ·obtain⟨n,rfl⟩:=WI dT;have hle:n<=L.length:=(by omega);have jF:(n:Int)<=(L.length:Int):=(by omega);have vQ:¬(n:Int)>(L.length:Int):=eR;obtain⟨s1,s2,s3⟩:=UE hl hle;simp only[GMw,dQ,dT,vQ,jF,Ax,Vdt L tk n _ (show L.length<3518437200000 by omega) hl hle,Ba,Bd];unfold Q2;simp only[zXl];generalize Ex L n=s at s1 s2 s3;obtain⟨M,r⟩:=s;dsimp only at s1 s2 s3⊢;have dE:=F9 (f:=cN) (a:=0) (n:=M.length+1) (bytes:=8) (H:=H++[.c0 [.sl [] .ti]]) (by omega) (by omega);simp only[show cN 0=[Ab.i6 0] from rfl]at dE;simp only[GMw,Jv M .no _ (show M.length<140737488355327 by omega) s1,Ar (show M.length<9223372036854775807 by omega),dE];have oL:(Bm M (r:Int)).lv.toNat<AI:=(by rw[Cw];by_cases hr:0<r;have:=QO s1 hr s2;omega;obtain rfl:r=0:=(by omega);unfold Bm;rw[VO];by_cases hM:0<M.length;rw[show(((0:Nat):Int)-1).toNat=0 from rfl,VG hM];have:=(AZ s1 hM).2.1;simp only[Option.getD_some];omega;rw[show(((0:Nat):Int)-1).toNat=0 from rfl,zYa (by omega)];simp);obtain⟨H',D',w',v1,v2,v3,v4,v5⟩:=Vfb (L:=M) .no .no (H++[Blk.c0 [.sl [] .ti]]).length (H++[Blk.c0 [.sl [] .ti]]).length (by omega) s1 (Bm M (r:Int)).lv.toNat r AI [] (List.replicate (M.length+1) 0) (.sl [] .ti) (H++[.c0 [.sl [] .ti]]++[.c0 (flat cN (List.replicate (M.length+1) 0))])
     s2 (.inr rfl) oL (VM _) (by simp) ⟨.inl ⟨rfl,rfl⟩,Ap⟩ ⟨by simp,by simp,λj dd hj lP=>by have:=Wo hj;rw[Yc]at this;omega⟩
    have hold:∀i,i<H.length+1->H'[i]? = (H++[Blk.c0 [.sl [] .ti]])[i]? := λi hi=>(by rw[v3.old i (by simpa using hi),VN (by simpa using hi)]);have cE:H'[H.length]? = some (.c0 [.sl [] .ti]):=(by rw[hold _ (by omega)];simp);have aG:=(VJ.1 cE).1;obtain⟨tk3,rfl⟩:=v2.sl;generalize (Bu M (AG M) (Bm M (r:Int)).lv.toNat r []).1=Q at v1 v2 v4⊢;have hb:Az (some [(.sl [] .ti)]) [(0,1,.sl (enL cNd Q) tk3)]=some (.agg [.sl (enL cNd Q) tk3]):=(by simp[Az,Gy,D3]);have hst:Ae 1 (.ptr H.length 0 0) (.agg [.sl (enL cNd Q) tk3]) H'=some (H'.set H.length (.c0 [.sl (enL cNd Q) tk3])):=(by simp only[Ae,A0 cE,zXa,BE cE];rfl);have hld:Ad true 1 (.ptr H.length 0 0) (H'.set H.length (.c0 [.sl (enL cNd Q) tk3]))=some (.agg [.sl (enL cNd Q) tk3]):=(by have:(H'.set H.length (.c0 [.sl (enL cNd Q) tk3]))[H.length]? = some (.c0 [.sl (enL cNd Q) tk3]):=(by rw[VX aG]);simp only[Ad,A0 this,zXa];rfl);have bD:(H'.set H.length (.c0 [.sl (enL cNd Q) tk3])).take H.length=H:=Cu λi hi=>(by rw[VH (by omega),hold i (by omega),VN hi]);simp only[GMw,v1,Ba,hb,hst,hld,B2,AW,Bl,zXb,Fl bD,CH,BC,BY,Ht,Fw,Gp,Jb,Da]
    rfl
def VaQ (l:List Bool)(tk:Tok)(H:Aa)(hb:l.length<1152921504606846976):UaQ (.sl (enL cB l) tk) H=some (.ret (.sl (enL cB (DC l)) .no),H):=by
 unfold UaQ;refine Bf (σ:=List Bool×Tok) (λs=>s.1.length<1152921504606846976) (λs=>[.sl (enL cB s.1) s.2]) (λ_=>H) (λs=>s.1.length) (λs=>some (.ret (.sl (enL cB (DC s.1)) .no),H)) (λs rec hs hrec=>?_) (l,tk) hb hb;obtain⟨l,tk⟩:=s;simp only at hs hrec⊢;unfold Udh;rcases Hm l with rfl | ⟨l',b,rfl⟩;simp[Vjf]
 ·simp only[VR,zXi]at hs hrec;have h1:l'.length<(l'++[b]).length:=by simp
  have h2:((((l'++[b]).length:Nat):Int)>0):=by simp
  have h3:I_.wrap ((((l'++[b]).length:Nat):Int)-1)=(l'.length:Int):=by rw[Am]<;>simp<;>omega
  simp only[At,Ax,zXa,FD,h2,decide_true,J3,EF,h3,A4 h1,AA,zXh,Sa,CN,WN (VM _),Wu,List.getElem_cons_zero];cases b with|true=>simp[Qx]|false=>have:=hrec (l',FQ tk 0 l'.length (l'++[false]).length false) (by dsimp only;omega) (by simp);simp only[W8,Bb,VbH (Nat.le_of_lt h1),zXa,List.take_left',this,OC]
def Vfk (l:List Bool)(tk:Tok)(i:Int)(H:Aa):Ufp (.sl (enL cB l) tk) (.i6 i) H=some (.ret (.bool (decide (0<=i)&&l.getD i.toNat false)),H):=by unfold Ufp;by_cases h0:0<=i;obtain⟨n,rfl⟩:=WI h0;by_cases h1:n<l.length;have h2:(n:Int)<(l.length:Int):=(by omega);simp[h2,A4 h1,VO,VG h1];have h2:¬(n:Int)<(l.length:Int):=(by omega);simp[h2,VO,zYa (Nat.le_of_not_lt h1)];simp[h0]
def HT (l:zAb)(tk:Tok)(H:Aa)(hl:l.length<=2199023255552)(hx:Lim l):Uem (.sl (enL cU l) tk) H=some (.ret (.sl (enL cB (DC (AU l))) .no),H):=by
 unfold Uem;refine Ct l.length (λi=>[.sl (enL cU l) tk,Eo cB H (AU (l.take i)),.i6 (i:Int)]) (λi=>Ee cB Cs 1 H (AU (l.take i))) _ (by omega) (λrec i hi=>?_) (λrec=>?_)
 ·have aE:(i:Int)<(l.length:Int):=by omega
  have aI:l[i]<4294967296:=hx _ (VY hi);have htk:AU (l.take (i+1))=AU (l.take i)++DD 32 l[i]:=by rw[VU hi,AU,List.flatMap_append];simp[AU]
  have hlen:(AU (l.take i)).length<=32*2199023255552:=by rw[CC];simp;omega
  unfold Ub4;simp only[At,FE,Gb,Ax,zXa,Bz,aE,decide_true,Bb,A4 hi,AA,zXh,htk];generalize AU (l.take i)=o at hlen;generalize l[i]=x at aI;refine Bf (σ:=Nat×Nat×List Bool) (λs=>s.1<=32/\s.2.1<4294967296/\s.2.2.length<=o.length+s.1) (λs=>[.sl (enL cU l) tk,Eo cB H s.2.2,.i6 (i:Int),.int .u32 (s.2.1:Int),.i6 (s.1:Int)]) (λs=>Ee cB Cs 1 H s.2.2) (λs=>32-s.1)
   (λs=>rec [.sl (enL cU l) tk,Eo cB H (s.2.2++DD (32-s.1) s.2.1),.i6 ((i+1:Nat):Int)] (Ee cB Cs 1 H (s.2.2++DD (32-s.1) s.2.1))) (λs aA hs hrec=>?_) (0,x,o) ⟨by dsimp only;omega,aI,by dsimp only;omega⟩ (by dsimp only;omega)
  obtain⟨k,y,p⟩:=s;obtain⟨hk,hy,hp⟩:=hs;simp only at hk hy hp hrec⊢;unfold Ue2;by_cases h:k<32;have h':(k:Int)<32:=(by omega);have e1:(y:Int).tmod 2=((y%2:Nat):Int):=rfl;have e2:K_.wrap ((y:Int).tdiv 2)=((y / 2:Nat):Int):=(by rw[show(y:Int).tdiv 2=((y / 2:Nat):Int) from rfl,CX]<;>omega);have e3:(((y%2:Nat):Int)==1)=(y%2==1):=(by rw[VZ];simp only[beq_iff_eq];omega);have e4:I_.wrap ((k:Int)+1)=((k+1:Nat):Int):=(by rw[Am]<;>omega);have:=hrec (k+1,y / 2,p++[y%2==1]) ⟨h,by dsimp only;omega,by simp;omega⟩ (by dsimp only;omega);simp only[At,FE,Gb,Mj,Od,Bz,h',decide_true,zXa,Bb,HL (show(2:Int)≠0 by decide),NP (show(2:Int)≠0 by decide),e1,e2,Fc,e3,RT];rw[DR (by simp) (by simp;omega) (by simp;omega)];simp only[Hn,Ds,D9,zXa,e4,this];rw[show 32-k=(32-(k+1))+1 from by omega,DD];simp;have:k=32:=(by omega);subst this;have e4:I_.wrap ((i:Int)+1)=((i+1:Nat):Int):=(by rw[Am]<;>omega);simp[DD,e4]
 unfold Ub4;obtain⟨G,hG⟩:=GD (f:=cB) (ty:=Cs) (sz:=1) H (AU l);rw[VW (VM _)];simp only[At,FE,Gb,Gc,hG,Ax,zXa,Bz,Wv,zYh,AM,VaQ (AU l) _ _ (by rw[CC];omega),Ds,CD,GI,zXb]
def S7 (l:List Bool)(tk:Tok)(H:Aa)(hl:l.length<=70368744177664):UfB (.sl (enL cB l) tk) H=some (.ret (.sl (enL cU (A8 (Bv l))) .no),H):=by
 unfold UfB;have aG:=I8 l;rw[VaQ l tk H (by omega),<-Vd6,KN];simp only[Ds];generalize DC l=c at aG;obtain⟨n,hn⟩:∃n,n=(c.length+31) / 32:=⟨_,rfl⟩;rw[<-hn];refine Ct n (λq=>[.sl (enL cB c) .no,Eo cU H (E7 c q),.i6 ((32*q:Nat):Int)]) (λq=>Ee cU BJ 1 H (E7 c q)) _ (by omega) (λrec q hq=>?_) (λrec=>?_)
 ·have iS:((32*q:Nat):Int)<(c.length:Int):=by omega
  unfold Udi;simp only[At,FE,Gb,Ax,zXa,Bz,iS,decide_true,Bb];have hlo:(E7 c q).length=q:=MK c q;rw[KM];generalize E7 c q=o at hlo;refine Bf (σ:=Nat) (λj=>j<=min 32 (c.length-32*q)) (λj=>[.sl (enL cB c) .no,Eo cU H o,.i6 ((32*q:Nat):Int),.int .u32 ((Bv ((c.drop (32*q)).take j):Nat):Int),.int .u32 (K_.wrap ((2:Int)^j)),.i6 ((32*q+j:Nat):Int)]) (λ_=>Ee cU BJ 1 H o) (λj=>32-j)
   (λ_=>rec [.sl (enL cB c) .no,Eo cU H (o++[GF c q]),.i6 ((32*(q+1):Nat):Int)] (Ee cU BJ 1 H (o++[GF c q]))) (λj aA hj hrec=>?_) 0 (by omega) (by omega)
  unfold UeY;have hw:I_.wrap (((32*q:Nat):Int)+32)=((32*(q+1):Nat):Int):=by rw[Am]<;>omega
  by_cases h:j<min 32 (c.length-32*q);have h1:((32*q+j:Nat):Int)<(c.length:Int):=(by omega);have eO:32*q+j<c.length:=(by omega);have h2:((32*q+j:Nat):Int)<((32*(q+1):Nat):Int):=(by omega);have cA:I_.wrap (((32*q+j:Nat):Int)+1)=((32*q+(j+1):Nat):Int):=(by rw[Am]<;>omega);have bD:(c.drop (32*q)).take (j+1)=(c.drop (32*q)).take j++[c[32*q+j]]:=(by rw[VU (by simp;omega)];simp);have hlen:((c.drop (32*q)).take j).length=j:=(by simp;omega);have vT:Bv ((c.drop (32*q)).take (j+1))=Bv ((c.drop (32*q)).take j)+(if c[32*q+j]then 2^j else 0):=(by rw[bD,DK,hlen];simp only[Bv];split<;>simp);have dB:=KJ ((c.drop (32*q)).take j);rw[hlen]at dB;have hp:(2:Nat)^j*2<=2^32:=(by rw[<-Nat.pow_succ];exact Wn (by omega) (by omega));have vG:K_.wrap ((2:Int)^j)=((2^j:Nat):Int):=(by rw[show((2:Int)^j)=((2^j:Nat):Int) from by simp,CX]<;>omega);have aU:K_.wrap (((Bv ((c.drop (32*q)).take j):Nat):Int)+((2^j:Nat):Int))=((Bv ((c.drop (32*q)).take j)+2^j:Nat):Int):=(by rw[CX]<;>omega);have bU:K_.wrap (((2^j:Nat):Int)*2)=K_.wrap ((2:Int)^(j+1)):=(by rw[XY];simp);have:=hrec (j+1) (by omega) (by omega);rw[vT]at this;simp only[At,FE,Gb,Mj,Od,Vkj,Ax,zXa,Bz,h1,decide_true,J3,D9,hw,h2,CN,Bb,AL,A4 eO,AA,zXh,vG];cases hb:c[32*q+j]with|true=>rw[hb]at this;simp only[Bb,D9,aU,zXa,Ue3,RV,bU,cA];simpa using this|false=>rw[hb]at this;simp only[AM,Ue3,RV,D9,bU,cA,zXa];simpa using this
  ·have hj':j=min 32 (c.length-32*q):=(by omega);have hx:Bv ((c.drop (32*q)).take j)=GF c q:=(by unfold GF;by_cases h:j=32;rw[h];rw[VW (by simp;omega),VW (by simp;omega)]);have tail:((AK 1 [.int .u32 ((GF c q:Nat):Int)]).bind λx40=>bP H (Cd (AS BJ 1 4 (Eo cU H o) x40 (Ee cU BJ 1 H o))) λx41 H42=>(Af .n .add (.i6 ((32*q:Nat):Int)) (.i6 32)).bind λx43=>rec [.sl (enL cB c) .no,x41,x43] H42)
     = rec [.sl (enL cB c) .no,Eo cU H (o++[GF c q]),.i6 ((32*(q+1):Nat):Int)] (Ee cU BJ 1 H (o++[GF c q])):=by
    rw[Vbv];simp only[zXa];rw[DR (by simp) (by simp;omega) (by simp;omega)];simp only[Hn,Ds,D9,zXa,hw]
   rw[hx];by_cases h1:((32*q+j:Nat):Int)<(c.length:Int);have h2:¬((32*q+j:Nat):Int)<((32*(q+1):Nat):Int):=(by omega);simp only[At,FE,Gb,Mj,Od,Vkj,Ax,zXa,Bz,h1,decide_true,J3,D9,hw,h2,zYh,CN,AM];simpa only[D9,hw,zXa]using tail;simp only[At,FE,Gb,Mj,Od,Vkj,Ax,zXa,Bz,h1,zYh,QR,CI,AM];exact tail
 ·have iS:¬((32*n:Nat):Int)<(c.length:Int):=by omega
  obtain⟨G,hG⟩:=GD (f:=cU) (ty:=BJ) (sz:=1) H (E7 c n);unfold Udi;simp only[At,FE,Gb,Gc,hG,Ax,zXa,Bz,iS,zYh,AM,CD,GI,zXb]
def S8 (l:zAb)(tk:Tok)(H:Aa)(hl:l.length<=1099511627776)(hx:Lim l):Uaf (.sl (enL cU l) tk) H=some (.ret (.sl (enL cU (A8 (val l))) .no),H):=by have hc:=I8 (AU l);rw[CC]at hc;unfold Uaf;rw[HT l tk H (by omega) hx];simp only[Il];rw[S7 _ _ _ (by omega)];simp only[Il,VeM,Vx,EL,Fg l hx]
def Vfg (l:zAb)(tk:Tok)(H:Aa)(hl:l.length<=1099511627776):UdF (.sl (enL cU l) tk) H=some (.ret (.bool (Gj l)),H):=by
 unfold UdF;rcases Hm l with rfl | ⟨l',x,rfl⟩;simp[Gj]
 ·simp only[VR,zXi]at hl;have h1:l'.length<(l'++[x]).length:=by simp
  have h3:I_.wrap ((((l'++[x]).length:Nat):Int)-1)=(l'.length:Int):=by rw[Am]<;>simp<;>omega
  have hne:((((l'++[x]).length:Nat):Int)==0)=false:=by simp;omega
  have hb:((x:Int) != 0)=(x != 0):=by rw[VZ];simp
  simp only[Ax,zXa,Fc,hne,QS,EF,h3,A4 h1,AA,zXh,WN (VM _),Wu,List.getElem_cons_zero,NQ,CI,UX,hb];simp[Gj]
def VkU (a b:zAb)(ta tb:Tok)(H:Aa)(ha:a.length<=1099511627776)(hb:b.length<=1099511627776)(la:Lim a)(lb:Lim b):Udm (.sl (enL cU a) ta) (.sl (enL cU b) tb) H=some (.ret (.i6 (Vji (val a) (val b))),H):=by
 have c1:=I8 (AU a);have c2:=I8 (AU b);rw[CC]at c1 c2;unfold Udm;rw[HT a ta H (by omega) la];simp only[Il,HT b tb H (by omega) lb,Ax,zXa,RA];have hx:Bv (DC (AU a))=val a:=by rw[EL,Fg a la]
 have hy:Bv (DC (AU b))=val b:=by rw[EL,Fg b lb]
 rw[<-hx,<-hy];generalize DC (AU a)=x at c1⊢;generalize DC (AU b)=y at c2⊢;have hw:I_.wrap (max (x.length:Int) (y.length:Int)-1)=((max x.length y.length:Nat):Int)-1:=by rw[Am]<;>omega
 simp only[EF,hw,zXa];have z:∀(c:List Bool)(m:Nat),c.length<=m->Bv c / 2^m=0:=λc m h=>Xj (WO (KJ c) (Wn (by omega) h));refine Bf (σ:=Nat) (λi=>i<9223372036854775807/\(Bv x) / 2^i=(Bv y) / 2^i) (λi=>[.sl (enL cB x) .no,.sl (enL cB y) .no,.i6 ((i:Int)-1)]) (λ_=>H) (λi=>i) (λ_=>some (.ret (.i6 (Vji (Bv x) (Bv y))),H)) (λi rec hi hrec=>?_) (max x.length y.length) ⟨by omega,by rw[z _ _ (by omega),z _ _ (by omega)]⟩ (by omega);obtain⟨hi,he⟩:=hi;unfold Ufd;cases i with
 |zero=>
  have e:Bv x=Bv y:=by simpa using he
  simp[e,Vji]
 |succ i=>
  have jS:(((i+1:Nat):Int)-1)=(i:Int):=by omega
  have hge:(i:Int)>=0:=by omega
  have hw:I_.wrap ((i:Int)-1)=(i:Int)-1:=by rw[Am]<;>omega
  have ax:∀(c:List Bool)(H:Aa),Ufp (.sl (enL cB c) .no) (.i6 (i:Int)) H=some (.ret (.bool ((Bv c).testBit i)),H):=λc H=>by rw[Vfk,zXl,Vci];simp
  have tb:∀m:Nat,m.testBit i=decide (m / 2^i%2=1):=λm=>Xu;have hs:∀m:Nat,m / 2^(i+1)=m / 2^i / 2:=λm=>by rw[Nat.pow_succ,Nat.div_div_eq_div_mul]
  rw[hs,hs]at he;have mono:∀p q:Nat,p<=q->p / 2^i<=q / 2^i:=λp q h=>Nat.div_le_div_right h;simp only[At,FE,Gb,jS,RW,hge,decide_true,zXa,Bb,ax,Il,Vjs];by_cases heq:(Bv x) / 2^i=(Bv y) / 2^i;have mP:(Bv x).testBit i=(Bv y).testBit i:=(by rw[tb,tb,heq]);simp only[mP,bne_self_eq_false,AM,EF,hw,zXa];exact hrec i ⟨by omega,heq⟩ (by omega)
  ·have m1:=mono (Bv x) (Bv y);have m2:=mono (Bv y) (Bv x);rcases Ya (Bv x / 2^i)with h1 | h1<;>rcases Ya (Bv y / 2^i)with h2 | h2
   omega;have hlt:Bv x<Bv y:=(by rcases W4 (Bv x) (Bv y)with h | h;exact h;have:=m2 h;omega);simp[tb,h1,h2,Vji,hlt];have hlt:Bv y<Bv x:=(by rcases W4 (Bv y) (Bv x)with h | h;exact h;have:=m1 h;omega);have hn:¬Bv x<Bv y:=(by omega);simp[tb,h1,h2,Vji,hlt,hn];omega
def Pe (m:List Bool)(i:Nat):Bv m%2^(i+1)=Bv m%2^i+2^i*bn (m.getD i false):=by
 rw[Vci,Xu,Nat.pow_succ,Nat.mod_mul]
 congr 2
 rcases Ya (Bv m / 2^i)with h | h<;>simp[h,bn]
def VkV (a b:zAb)(ta tb:Tok)(H:Aa)(ha:a.length<=1099511627776)(hb:b.length<=1099511627776)(la:Lim a)(lb:Lim b):Udl (.sl (enL cU a) ta) (.sl (enL cU b) tb) H=some (.ret (.sl (enL cU (A8 (val a+val b))) .no),H):=by
 have c1:=I8 (AU a);have c2:=I8 (AU b);rw[CC]at c1 c2;unfold Udl;have hx:Bv (DC (AU a))=val a:=by rw[EL,Fg a la]
 have hy:Bv (DC (AU b))=val b:=by rw[EL,Fg b lb]
 simp only[HT a ta H (by omega) la,Ds,HT b tb H (by omega) lb];rw[<-hx,<-hy];generalize DC (AU a)=x at c1⊢;generalize DC (AU b)=y at c2⊢;refine Bf (σ:=List Bool×Bool) (λs=>s.1.length<=max x.length y.length+1/\Bv s.1+2^s.1.length*bn s.2=Bv x%2^s.1.length+Bv y%2^s.1.length) (λs=>[.sl (enL cB x) .no,.sl (enL cB y) .no,Eo cB H s.1,.bool s.2,.i6 (s.1.length:Int)]) (λs=>Ee cB Cs 1 H s.1) (λs=>max x.length y.length+1-s.1.length)
  (λ_=>some (.ret (.sl (enL cU (A8 (Bv x+Bv y))) .no),H)) (λs rec hs hrec=>?_) ([],false) ⟨by simp,by simp[Bv,bn,Nat.mod_one]⟩ (by simp;omega)
 obtain⟨o,c⟩:=s;obtain⟨ho,he⟩:=hs;simp only at ho he hrec⊢;unfold Ufc;simp only[At,FE,Gb,Mj,Od,Ax,zXa,RA,VgY];by_cases h:o.length<=max x.length y.length
 ·have h':((o.length:Int)<=max (x.length:Int) (y.length:Int)):=by omega
  have hw:I_.wrap ((o.length:Int)+1)=((o.length+1:Nat):Int):=by rw[Am]<;>omega
  have ax:∀(m:List Bool)(H:Aa),Ufp (.sl (enL cB m) .no) (.i6 (o.length:Int)) H=some (.ret (.bool (m.getD o.length false)),H):=λm H=>by rw[Vfk,zXl];simp
  have app:∀s:Bool,AS Cs 1 1 (Eo cB H o) (.sl (enL cB [s]) .ti) (Ee cB Cs 1 H o)=some (Eo cB H (o++[s]),Ee cB Cs 1 H (o++[s])):=λs=>DR (by simp) (by simp;omega) (by simp;omega);have w1:I_.wrap (0+1)=1:=by decide
  have w2:I_.wrap (1+1)=2:=by decide
  have w3:I_.wrap (2+1)=3:=by decide
  have fin:rec [.sl (enL cB x) .no,.sl (enL cB y) .no,Eo cB H (o++[(bn (x.getD o.length false)+bn (y.getD o.length false)+bn c)%2==1]),.bool (decide (1<bn (x.getD o.length false)+bn (y.getD o.length false)+bn c)),.i6 ((o.length+1:Nat):Int)] (Ee cB Cs 1 H (o++[(bn (x.getD o.length false)+bn (y.getD o.length false)+bn c)%2==1]))=some (.ret (.sl (enL cU (A8 (Bv x+Bv y))) .no),H):=by have:=hrec (o++[(bn (x.getD o.length false)+bn (y.getD o.length false)+bn c)%2==1],decide (1<bn (x.getD o.length false)+bn (y.getD o.length false)+bn c)) ⟨by simp;omega,?_⟩ (by simp;omega);simpa using this;simp only[VR,zXi];rw[Pe x,Pe y,DK,Nat.pow_succ];generalize x.getD o.length false=p;generalize y.getD o.length false=q;generalize 2^o.length=z at he⊢;cases p<;>cases q<;>cases c<;>simp[bn,Bv]at he⊢ <;> omega
  simp only[h',decide_true,Bb,AL,ax,Ds];revert fin;generalize x.getD o.length false=p;simp only[Ufb,AL,At,FE,Gb,Mj,Od,Vkj,ax,Ds];generalize y.getD o.length false=q;intro fin;rw[<-fin];cases p<;>cases q<;>cases c <;>
   simp only[Bb,AM,D9,w1,w2,w3,zXa,At,FE,Gb,Mj,Od,Ufa,UeZ,AL,HL (show(2:Int)≠0 by decide),Fc,RT,FD,app,Hn,Ds,hw,bn]<;>rfl
 ·have h':¬((o.length:Int)<=max (x.length:Int) (y.length:Int)):=by omega
  obtain⟨G,hG⟩:=GD (f:=cB) (ty:=Cs) (sz:=1) H o;have bx:=KJ x;have by':=KJ y;have px:2^x.length*2<=2^o.length:=by rw[<-Nat.pow_succ];exact Wn (by omega) (by omega)
  have py:2^y.length*2<=2^o.length:=by rw[<-Nat.pow_succ];exact Wn (by omega) (by omega)
  rw[WJ (by omega),WJ (by omega)]at he;have hc:c=false:=by cases c with|false=>rfl|true=>exfalso;simp only[bn,zYd,Wa]at he;omega
  subst hc;have gW:Bv o=Bv x+Bv y:=by simpa[bn]using he
  simp only[h',zYh,AM,Gc,hG,S7 o _ _ (by omega),Ds,CD,GI,zXb,gW]
def VaP (a b:zAb)(ta tb:Tok)(H:Aa)(ha:a.length<=1099511627776)(hb:b.length<=1099511627776)(la:Lim a)(lb:Lim b):Ub5 (.sl (enL cU a) ta) (.sl (enL cU b) tb) H=some (.ret (.tup [.sl (enL cU (if val b<=val a then A8 (val a-val b)else [])) .no,.bool (decide (val b<=val a))]),H):=by
 have c1:=I8 (AU a);rw[CC]at c1;unfold Ub5;simp only[VkU a b ta tb H ha hb la lb,Ds,Bz,zXa];by_cases hv:val b<=val a
 ·have hc:¬(Vji (val a) (val b)<0):=by unfold Vji;split<;>(try split)<;>omega
  have hx:Bv (DC (AU a))=val a:=by rw[EL,Fg a la]
  have hy:Bv (DC (AU b))=val b:=by rw[EL,Fg b lb]
  simp only[hc,zYh,AM,HT a ta H (by omega) la,HT b tb H (by omega) lb,Ds,hv,zYd,decide_true];rw[<-hx,<-hy]at hv⊢;generalize DC (AU a)=x at c1 hv⊢;generalize DC (AU b)=y at hv⊢;refine Bf (σ:=List Bool×Bool) (λs=>s.1.length<=x.length/\Bv s.1+Bv y%2^s.1.length=Bv x%2^s.1.length+2^s.1.length*bn s.2) (λs=>[.sl (enL cB x) .no,.sl (enL cB y) .no,Eo cB H s.1,.i6 (if s.2 then 1 else 0),.i6 (s.1.length:Int)]) (λs=>Ee cB Cs 1 H s.1) (λs=>x.length-s.1.length)
   (λ_=>some (.ret (.tup [.sl (enL cU (A8 (Bv x-Bv y))) .no,.bool true]),H)) (λs rec hs hrec=>?_) ([],false) ⟨by simp,by simp[Bv,bn,Nat.mod_one]⟩ (by simp;omega)
  obtain⟨o,c⟩:=s;obtain⟨ho,he⟩:=hs;simp only at ho he hrec⊢;unfold Ufh;simp only[At,FE,Gb,Mj,Od,Ax,zXa,Bz];by_cases h:o.length<x.length
  ·have h':((o.length:Int)<(x.length:Int)):=(by omega);have hw:I_.wrap ((o.length:Int)+1)=((o.length+1:Nat):Int):=(by rw[Am]<;>omega);have ax:∀(m:List Bool)(H:Aa),Ufp (.sl (enL cB m) .no) (.i6 (o.length:Int)) H=some (.ret (.bool (m.getD o.length false)),H):=λm H=>(by rw[Vfk,zXl];simp);have app:∀s:Bool,AS Cs 1 1 (Eo cB H o) (.sl (enL cB [s]) .ti) (Ee cB Cs 1 H o)=some (Eo cB H (o++[s]),Ee cB Cs 1 H (o++[s])):=λs=>DR (by simp) (by simp;omega) (by simp;omega);have n0:unA .neg (.i6 0)=some (.i6 0):=(by rw[show unA .neg (.i6 0)=some (.i6 (I_.wrap (0-0))) from rfl,show I_.wrap (0-0)=0 from by decide]);have n1:unA .neg (.i6 1)=some (.i6 (-1)):=(by rw[show unA .neg (.i6 1)=some (.i6 (I_.wrap (0-1))) from rfl,show I_.wrap (0-1) = -1 from by decide]);have w1:I_.wrap (0+1)=1:=(by decide);have w2:I_.wrap (-1+1)=0:=(by decide);have w3:I_.wrap (0-1) = -1:=(by decide);have w4:I_.wrap (1-1)=0:=(by decide);have w5:I_.wrap (-1-1) = -2:=(by decide);have w6:I_.wrap (-1+2)=1:=(by decide);have w7:I_.wrap (-2+2)=0:=(by decide);have fin:rec [.sl (enL cB x) .no,.sl (enL cB y) .no,Eo cB H (o++[VmV (x.getD o.length false) (y.getD o.length false) c]),.i6 (if VoC (x.getD o.length false) (y.getD o.length false) c then 1 else 0),.i6 ((o.length+1:Nat):Int)] (Ee cB Cs 1 H (o++[VmV (x.getD o.length false) (y.getD o.length false) c]))=some (.ret (.tup [.sl (enL cU (A8 (Bv x-Bv y))) .no,.bool true]),H):=(by have:=hrec (o++[VmV (x.getD o.length false) (y.getD o.length false) c],VoC (x.getD o.length false) (y.getD o.length false) c) ⟨by simp;omega,?_⟩ (by simp;omega);simpa using this;simp only[VR,zXi];rw[Pe x,Pe y,DK,Nat.pow_succ];generalize x.getD o.length false=p;generalize y.getD o.length false=q;generalize 2^o.length=z at he⊢;cases p<;>cases q<;>cases c<;>simp[bn,Bv,VmV,VoC,Vpf]at he⊢ <;> omega);simp only[h',decide_true,Bb,AL,ax,Ds];revert fin;generalize x.getD o.length false=p;simp only[Ufg,AL,At,FE,Gb,Mj,Od,ax,Ds];generalize y.getD o.length false=q;intro fin;rw[<-fin];cases p<;>cases q<;>cases c <;>
    simp[n0,n1,Uff,Ufe,AL,RT,app,hw,VmV,VoC,Vpf]
  have h':¬((o.length:Int)<(x.length:Int)):=(by omega);obtain⟨G,hG⟩:=GD (f:=cB) (ty:=Cs) (sz:=1) H o;have bx:=KJ x;have bo:=KJ o;have aI:x.length=o.length:=(by omega);rw[aI]at bx;rw[WJ bx,WJ (by omega)]at he;have hc:c=false:=(by cases c with|false=>rfl|true=>exfalso;simp only[bn,zYd,Wa]at he;omega);subst hc;have gW:Bv o=Bv x-Bv y:=(by simp[bn]at he;omega);simp only[h',zYh,AM,Gc,hG,S7 o _ _ (by omega),Ds,CD,CH,BC,BY,Ja,Hs,zXa,zXb,gW]
 ·have hc:Vji (val a) (val b)<0:=by unfold Vji;rw[zYc (by omega)];decide
  simp[hc,hv,HI]
def A7 (z:Int):List Ab:=[.bool (decide (z<0)),.sl (enL cU (A8 z.natAbs)) .no]
def big (z:Int):Ab:=.agg (A7 z)
def LB (z:Int):Prop:=(A8 z.natAbs).length<=549755813888
def VA (z:Int):(A7 z).all Ab.isScal=true:=by simp[A7]
@[simp] theorem VpV (z:Int)(h:0<(A7 z).length):(A7 z)[0]=.bool (decide (z<0)):=(rfl)
@[simp] theorem VpU (z:Int)(h:1<(A7 z).length):(A7 z)[1]=.sl (enL cU (A8 z.natAbs)) .no:=(rfl)
@[simp] theorem Vqn (z:Int):(A7 z)[0]? = some (.bool (decide (z<0))):=(rfl)
@[simp] theorem Vqm (z:Int):(A7 z)[1]? = some (.sl (enL cU (A8 z.natAbs)) .no):=(rfl)
@[simp] theorem TN (z:Int):(big z).acells=some (A7 z):=C0 (VA z)
theorem Vbx (neg:Bool)(n:Nat):[Ab.bool (sgn neg n),.sl (enL cU (A8 n)) .no]=A7 (if neg then -(n:Int)else n):=by
 unfold A7;have e1:sgn neg n=decide ((if neg then -(n:Int)else (n:Int))<0):=by
  unfold sgn;cases neg with
  |false=>simp
  |true=>
   by_cases h:n=0;subst h;rfl
   have:(-(n:Int))<0:=(by omega);simp[h];omega
 have e2:(if neg then -(n:Int)else (n:Int)).natAbs=n:=by cases neg<;>simp
 rw[e1,e2]
def QP (n:Nat):(decide (((A8 n).length:Int)>0))=decide (n≠0):=by
 by_cases h:n=0;subst h;rw[Ef];rfl
 ·have:=W6.2 (Pk h);have h1:((A8 n).length:Int)>0:=by omega
  rw[zXc h1,zXc h]
@[simp] theorem VmC {H:Aa}{n d:Nat}{z:Int}:Gq H n (d+2) (A7 z)=some (A7 z):=by simp[A7]
@[simp] theorem ViT {H:Aa}{n d:Nat}{z:Int}:Hv H n (d+3) (big z)=some (big z):=by simp[big]
@[simp] theorem NF {H:Aa}{n d:Nat}{z:Int}:Ft H n (d+3) (big z)=some (big z):=by simp[big]
@[simp] theorem VmA {z:Int}:forget (big z)=big z:=by simp[big,A7]
@[simp] theorem Vmi (z:Int):(A7 z).length=2:=(rfl)
@[simp] theorem TS (z:Int):Ab.agg (A7 z)=big z:=(rfl)
@[simp] theorem VoI (cs:List Ab)(z:Int)(h:cs.length=2):D3 cs 0 2 (A7 z)=A7 z:=DJ h
theorem F4 (z:Int)(H:Aa):Bj true 2 (big z) H=some (.ptr H.length 0 0,H++[.c0 (A7 z)]):=BF (VA z) rfl
def OY (neg:Bool)(l:zAb)(tk:Tok)(H:Aa)(hl:l.length<=1099511627776)(hx:Lim l):Ufw (.bool neg) (.sl (enL cU l) tk) H=some (.ret (big (if neg then -(val l:Int)else val l)),H):=by unfold Ufw big;rw[<-Vbx];have hp:=QP (val l);cases neg with|false=>simp[S8 _ _ _ hl hx,Az,Gy,D3,sgn,C0]|true=>simp only[J3,CN,zXa,Ax,FD,hp,sgn,zXn,alloc_eq (cs:=[.bool false,.sl [] .ti]) rfl,BD,S8 _ _ _ hl hx,Ds];simp[Az,Gy,D3,C0]
def PZ (neg:Bool)(l:zAb)(tk:Tok)(H:Aa)(hl:l.length<=1099511627776)(hx:Lim l):Ufx (.agg [.bool neg,.sl (enL cU l) tk]) H=some (.ret (big (-(El neg l))),H):=by
 have ez:(if neg=false then -(val l:Int)else (val l:Int)) = -(El neg l):=by cases neg<;>simp[El]
 unfold Ufx;simp[BF,OY _ l tk _ hl hx,ez]
def L3 (z:Int):El (decide (z<0)) (A8 z.natAbs)=z:=by unfold El;rw[B6];by_cases h:z<0;simp[h];omega;simp[h];omega
def VcT (neg:Bool)(l:zAb):(El neg l).natAbs=val l:=by cases neg<;>simp[El]
def Vff (n1 n2:Bool)(l1 l2:zAb)(t1 t2:Tok)(H:Aa)(h1:l1.length<=549755813888)(h2:l2.length<=549755813888)(x1:Lim l1)(x2:Lim l2):Uaa (.agg [.bool n1,.sl (enL cU l1) t1]) (.agg [.bool n2,.sl (enL cU l2) t2]) H=some (.ret (big (El n1 l1+El n2 l2)),H):=by
 have v1:=Vea l1 x1;have v2:=Vea l2 x2;have p1:=HU (show l1.length<=max l1.length l2.length by omega);have p2:=HU (show l2.length<=max l1.length l2.length by omega);have p3:(4294967296:Nat)^(max l1.length l2.length+1)=4294967296^max l1.length l2.length*4294967296:=Nat.pow_succ _ _;have sg:∀(neg:Bool)(m:Nat)(tk:Tok)(H:Aa),m<4294967296^(max l1.length l2.length+1)->Ufw (.bool neg) (.sl (enL cU (A8 m)) tk) H=some (.ret (big (if neg then -(m:Int)else m)),H):=by
  intro neg m tk H hm;have:=OY neg (A8 m) tk H (by have:=Fr hm;omega) (Bw m)
  rwa [B6]at this
 unfold Uaa;by_cases hn:n1=n2
 ·subst hn;have ez:(if n1=true then -((val l1:Int)+(val l2:Int))else ((val l1:Int)+(val l2:Int)))=El n1 l1+El n1 l2:=by cases n1<;>simp[El]<;>omega
  simp[WA,BF,Jh,VkV _ _ _ _ _ (show l1.length<=1099511627776 by omega) (show l2.length<=1099511627776 by omega) x1 x2,sg n1 (val l1+val l2) _ _ (by omega),ez]
 ·have hb:(n1==n2)=false:=by simpa using hn
  by_cases hv:val l2<=val l1;have ez:(if n1=true then -((val l1-val l2:Nat):Int)else ((val l1-val l2:Nat):Int))=El n1 l1+El n2 l2:=(by cases n1<;>cases n2<;>simp[El]at hn⊢ <;> omega);simp[WA,BF,Jh,hb,VaP _ _ _ _ _ (show l1.length<=1099511627776 by omega) (show l2.length<=1099511627776 by omega) x1 x2,hv,sg n1 (val l1-val l2) _ _ (by omega),ez];have ez:(if n2=true then -((val l2-val l1:Nat):Int)else ((val l2-val l1:Nat):Int))=El n1 l1+El n2 l2:=(by cases n1<;>cases n2<;>simp[El]at hn⊢ <;> omega);have aQ:val l1<=val l2:=(by omega);simp[WA,BF,Jh,hb,VaP _ _ _ _ _ (show l1.length<=1099511627776 by omega) (show l2.length<=1099511627776 by omega) x1 x2,VaP _ _ _ _ _ (show l2.length<=1099511627776 by omega) (show l1.length<=1099511627776 by omega) x2 x1,hv,aQ,sg n2 (val l2-val l1) _ _ (by omega),ez]
theorem JL (z:Int):big z=.agg [.bool (decide (z<0)),.sl (enL cU (A8 z.natAbs)) .no]:=rfl
def HS (a b:Int)(H:Aa)(ha:LB a)(hb:LB b):Uaa (big a) (big b) H=some (.ret (big (a+b)),H):=by rw[JL a,JL b,Vff _ _ _ _ _ _ _ ha hb (Bw _) (Bw _),L3,L3]
def IM (a:Int)(H:Aa)(ha:LB a):Ufx (big a) H=some (.ret (big (-a)),H):=by rw[JL a,PZ _ _ _ _ (by unfold LB at ha;omega) (Bw _),L3]
theorem LB.neg {a:Int}(h:LB a):LB (-a):=by unfold LB at *;rwa [Int.natAbs_neg]
theorem LB.of {a:Int}{k:Nat}(h:a.natAbs<4294967296^k)(hk:k<=549755813888):LB a:=Wg (Fr h) hk
def S6 (a b:Int)(H:Aa)(ha:LB a)(hb:LB b):Uf3 (big a) (big b) H=some (.ret (big (a-b)),H):=by unfold Uf3;simp[WA,F4,IM _ _ hb,HS _ _ _ ha hb.neg,Int.sub_eq_add_neg]
def FM (a b:Int):Int:=if a<b then -1 else if a=b then 0 else 1
def Fm (a b:Int)(H:Aa)(ha:LB a)(hb:LB b):Uab (big a) (big b) H=some (.ret (.i6 (FM a b)),H):=by
 unfold Uab;simp only[F4,BD,VP,List.singleton_append];simp[S6 _ _ _ ha hb];unfold FM;by_cases h0:a=b;subst h0;simp[Ef]
 ·have hne:A8 (a-b).natAbs≠[]:=Pk (by omega);have hp:=W6.2 hne;have hz:(((A8 (a-b).natAbs).length:Int)==0)=false:=by rw[beq_eq_false_iff_ne];omega
  have pH:¬((A8 (a-b).natAbs).length:Int)=0:=by omega
  have xT:¬A8 (a-b).natAbs=[]:=hne;by_cases hn:a<b;have:a-b<0:=(by omega);simp[xT,hn,this];have:¬(a-b<0):=(by omega);simp[xT,hn,this,h0]
def Vpr (n:Nat)(v:Ab):My n [v]=List.replicate n v:=by
 induction n with
 |zero=>rfl
 |succ n ih=>simp only[My,zXm,List.flatten_cons]at ih⊢;rw[ih];rfl
def Von (n:Nat)(v:Ab):GL 1 n (List.replicate n v)=List.replicate n [v]:=by
 induction n with
 |zero=>rfl
 |succ n ih=>simp only[GL,zXm,List.take_succ_cons,List.take_zero,XA,Xa,ih]
def Viz {bytes n:Nat}{v:Ab}{H:Aa}(hv:v.isScal=true)(hb:n*bytes<=140737488355328)(hn:n<=140737488355328):FG 1 bytes (some [v]) (.i6 (n:Int)) (.i6 (n:Int)) H=some (.ms H.length 0 0 n n 1 true,H++[.c0 (List.replicate n v)]):=by
 unfold FG;simp only[zXa];have h1:((n:Int)*(bytes:Int))<=140737488355328:=by have:((n*bytes:Nat):Int)<=140737488355328:=(by omega);simpa using this
 rw[zYc ⟨by simp[hv],rfl,by omega,by omega,h1,by omega⟩,Vpr];simp
def VcE {H:Aa}{n:Nat}:C8 1 (.ms H.length 0 0 n n 1 true) (H++[.c0 (List.replicate n (.bool false))])=some (enL cB (List.replicate n false)):=by
 have hm:(List.replicate n (Ab.bool false)).map KP=List.replicate n (.bool false):=by simp[KP]
 have hi:(List.replicate n (Ab.bool false)).all Cq=true:=by simp[Cq]
 simp only[C8,zYd,Vc8,Kf,zXa,Xa,VK,Wa,XQ,VW (show(List.replicate n (Ab.bool false)).length<=n by simp),hm,hi,VM,zYi,Von];simp[enL]
def Vfh (B:Aa)(n:Nat)(hn:n<=140737488355328):UfB (.ms B.length 0 0 n n 1 true) (B++[.c0 (List.replicate n (.bool false))])=some (.ret (.sl [] .no),B++[.c0 (List.replicate n (.bool false))]):=by
 unfold UfB UaQ;have hc:∀K:Aa,An (λrec1 vs H1=>Udh K rec1 (ag vs 0) H1) AI [.ms B.length 0 0 n n 1 true] (B++[.c0 (List.replicate n (.bool false))])
   = some (.ret (.ms B.length 0 0 0 n 1 true),B++[.c0 (List.replicate n (.bool false))]):=by
  intro K;refine Bf (σ:=Nat) (λk=>k<=n) (λk=>[.ms B.length 0 0 k n 1 true]) (λ_=>B++[.c0 (List.replicate n (.bool false))]) (λk=>k) (λ_=>some (.ret (.ms B.length 0 0 0 n 1 true),B++[.c0 (List.replicate n (.bool false))])) (λk rec hk hrec=>?_) n (VM _) (by omega);unfold Udh;cases k with|zero=>simp[forget,E9,fgt]|succ k=>have hpos:((k+1:Nat):Int)>0:=(by omega);have hw:I_.wrap (((k+1:Nat):Int)-1)=(k:Int):=(by rw[Am]<;>omega);have hidx:Aw 1 (.ms B.length 0 0 (k+1) n 1 true) (.i6 (k:Int))=some (.ptr B.length 0 k):=(by unfold Aw;simp only[];rw[zYc ⟨trivial,by omega,by omega⟩];simp);have rR:Ad false 1 (.ptr B.length 0 k) (B++[.c0 (List.replicate n (.bool false))])=some (.bool false):=(by rw[EP,Hr,XF,zYc (by omega)]);have hsl:B7 1 (.ms B.length 0 0 (k+1) n 1 true) none (some (.i6 (k:Int))) none=some (.ms B.length 0 0 k n 1 true):=(by have:(0:Int)<=(k:Int):=(by omega);simp only[B7,B5,zXa,this,zYd,zXl];rw[zYc ⟨trivial,by omega,by omega,by omega⟩];simp);simp only[At,VjJ,zXa,FD,hpos,decide_true,J3,EF,hw,hidx,rR,Sa,CN,W8,Bb,hsl];exact hrec k (by omega) (by omega)
 rw[hc];simp only[Ds];rw[Dx Eh];unfold Udi;simp
def VkR (l:zAb)(tk:Tok)(m:Nat)(H:Aa)(hm:m<=10000)(hl:l.length<=549755813888)(hx:Lim l):Udj (.sl (enL cU l) tk) (.i6 (m:Int)) H=some (.ret (.sl (enL cU (A8 (2^m*val l))) .no),H):=by
 unfold Udj;have h0:¬(m:Int)<0:=by omega
 have h1:¬(m:Int)>10000:=by omega
 have hc:=I8 (AU l);rw[CC]at hc;simp only[Bz,zXa,zXd h0,QS,FD,zXd h1,CI,AM,HT l tk H (by omega) hx,IJ,Viz (bytes:=1) (v:=.bool false) rfl (show m*1<=140737488355328 by omega) (by omega),BD];by_cases hv:val l=0;have e:DC (AU l)=[]:=VgE (by rw[Fg l hx];exact hv);rw[e,HI,F6 (by rw[VcE];rfl)];simp[Vfh H m (by omega),hv,Ef,HI]
 ·have hne:DC (AU l)≠[]:=λe=>hv (by rw[<-Fg l hx,<-EL,e];rfl);have ha:AS Cs 1 1 (.ms H.length 0 0 m m 1 true) (.sl (enL cB (DC (AU l))) .no) (H++[.c0 (List.replicate m (.bool false))])
    = some (.sl (enL cB (List.replicate m false++DC (AU l))) (.own (H.length+1)),H++[.c0 (List.replicate m (.bool false))]++[.tok (m+(DC (AU l)).length) Cs 1]):=by
   have hl0:(enL cB (DC (AU l))).length≠0:=(by simpa using hne);unfold AS;rw[show C8 1 (.sl (enL cB (DC (AU l))) .no) (H++[.c0 (List.replicate m (.bool false))])=some (enL cB (DC (AU l))) from by simp[C8,Vhg],VcE];simp only[zXa];rw[zYb hl0,zYc (by simp;omega),zYc (by simp;exact W6.2 hne)];simp[VdG]
  rw[ha];simp only[Hn,IJ,VP];rw[S7 _ _ _ (by simp;omega)];simp only[IJ,CD,GI,zXb,Vf6,EL,Fg l hx]
def VkP (z:Int)(m:Nat)(H:Aa)(hm:m<=10000)(hz:LB z)(pH:LB (z*2^m)):Udk (big z) (.i6 (m:Int)) H=some (.ret (big (z*2^m)),H):=by
 have e:(z*2^m).natAbs=2^m*z.natAbs:=by rw[Int.natAbs_mul,Y0,WY];rfl
 have hp:(0:Int)<2^m:=XG (by omega);have hs:∀tk H,Ufw (.bool (decide (z<0))) (.sl (enL cU (A8 (2^m*z.natAbs))) tk) H=some (.ret (big (z*2^m)),H):=by
  intro tk H;rw[OY _ _ _ _ (by rw[<-e];unfold LB at pH;omega) (Bw _),B6]
  congr 3
  have:((2^m*z.natAbs:Nat):Int)=2^m*(z.natAbs:Int):=by simp
  by_cases h:z<0;simp only[h,decide_true,zYd,this];rw[show((z.natAbs:Nat):Int) = -z from by omega,Int.mul_neg,Int.neg_neg,Int.mul_comm];simp only[h,zYh,VL,zYe,this];rw[show((z.natAbs:Nat):Int)=z from by omega,Int.mul_comm]
 unfold Udk;simp[F4,VkR _ _ _ _ hm hz (Bw _),B6,hs]
def JN {n:Int}(h0:-18446744073709551616<=n)(h:n<0):IntKind.u64.wrap n=n+18446744073709551616:=by have h1:IntKind.u64.bits=64:=rfl;have h2:IntKind.u64.signed=false:=rfl;unfold IntKind.wrap;simp only[h1,h2,WL,VL,zYe];omega
def VcR (x y:Nat):AK 1 [.int .u32 (x:Int),.int .u32 (y:Int)]=some (.sl (enL cU [x,y]) .ti):=by simp[AK,Df,KP,Cq,Ab.acells,enL]
def KE (n:Int)(H:Aa)(h0:-9223372036854775808<=n)(h1:n<=9223372036854775807):UeN (.i6 n) H=some (.ret (big n),H):=by
 obtain⟨u,hu⟩:∃u:Nat,u=n.natAbs:=⟨_,rfl⟩;have hlim:Lim [u%4294967296,u / 4294967296]:=λx hx=>by simp at hx;rcases hx with rfl | rfl<;>omega
 have cG:val [u%4294967296,u / 4294967296]=u:=by simp[val];omega
 have ez:(if decide (n<0)=true then -(u:Int)else (u:Int))=n:=by by_cases h:n<0<;>simp[h]<;>omega
 have a1:=λH=>OY (decide (n<0)) [u%4294967296,u / 4294967296] .ti H (by simp) hlim;simp only[cG,ez]at a1;have e1:((u:Int).tmod 4294967296)=((u%4294967296:Nat):Int):=rfl;have e2:IntKind.u64.wrap ((u:Int).tdiv 4294967296)=((u / 4294967296:Nat):Int):=by rw[show(u:Int).tdiv 4294967296=((u / 4294967296:Nat):Int) from rfl,BT]<;>omega
 have e3:K_.wrap ((u%4294967296:Nat):Int)=((u%4294967296:Nat):Int):=by rw[CX]<;>omega
 have e4:K_.wrap ((u / 4294967296:Nat):Int)=((u / 4294967296:Nat):Int):=by rw[CX]<;>omega
 have j1:Ue4 H (.i6 n) (.ptr H.length 0 0) (.int .u64 (u:Int)) (H++[.c0 [.bool false,.sl [] .ti]])=some (.ret (big n),H):=by unfold Ue4;simp only[Bz,zXa,HL (show(4294967296:Int)≠0 by decide),NP (show(4294967296:Int)≠0 by decide),e1,e2,AV,e3,e4,VcR,a1,Ds];simp
 unfold UeN;simp only[alloc_eq (cs:=[.bool false,.sl [] .ti]) rfl,BD,AV,zXa,AL,Bz,At,FE,Gb];by_cases h:n<0
 ·have w:IntKind.u64.wrap (0-IntKind.u64.wrap n)=(u:Int):=by rw[JN (n:=n) (by omega) h,JN (by omega) (by omega)];omega
  have un:unA .neg (.int .u64 (IntKind.u64.wrap n))=some (.int .u64 (u:Int)):=by rw[show unA .neg (.int .u64 (IntKind.u64.wrap n))=some (.int .u64 (IntKind.u64.wrap (0-IntKind.u64.wrap n))) from rfl,w]
  rw[zXc h];simp only[Bb,un,zXa];exact j1
 ·have w:IntKind.u64.wrap n=(u:Int):=by rw[BT (by omega) (by omega)];omega
  rw[zXd h];simp only[AM,w];exact j1
def Vkn (m:Nat)(hm:m<=20000):LB (2^m):=by refine LB.of (k:=m+1) ?_ (by omega);rw[Y0];have:(2:Nat)^m<2^(32*(m+1)):=Yx (by omega) (by omega);rw[Yh]at this;exact this
theorem Vo8:LB 1:=Vkn 0 (by omega)
def Iw (m:Nat)(H:Aa)(hm:m<=10000):Ufo (.i6 (m:Int)) H=some (.ret (big (2^m)),H):=by have hs:=λH=>VkP 1 m H hm Vo8 (by rw[Int.one_mul];exact Vkn m (by omega));simp only[Int.one_mul]at hs;unfold Ufo;simp[KE 1 _ (by omega) (by omega),hs]
def Hb (z:Int):Bool:=decide (-9223372036854775808<=z/\z<=9223372036854775807)
def Ue (z:Int):Int:=if Hb z then z else 0
def Vhs (l:zAb)(i:Nat)(h:i<l.length):val (l.drop i)=l[i]+4294967296*val (l.drop (i+1)):=by rw[Wl h,val]
def Va2 (l:zAb)(i:Nat):4294967296^i*val (l.drop i)<=val l:=by
 induction l generalizing i with
 |nil=>simp[val]
 |cons a l ih=>cases i with|zero=>simp|succ i=>have:=ih i;simp only[XA,val,Nat.pow_succ];rw[WY (4294967296^i) 4294967296,Xn];omega
def Vhp {u:Nat}(h:u<=9223372036854775808):I_.wrap (IntKind.u64.wrap (0-(u:Int))) = -(u:Int):=by
 have h1:I_.bits=64:=rfl;have h2:I_.signed=true:=rfl;by_cases h0:u=0;subst h0;decide
 rw[JN (by omega) (by omega)];unfold IntKind.wrap;simp only[h1,h2,zXn,zXe];split<;>omega
def VkQ (neg:Bool)(l:zAb)(tk:Tok)(H:Aa)(hl:l.length<=549755813888)(hx:Lim l):Uag (.agg [.bool neg,.sl (enL cU l) tk]) H=some (.ret (.tup [.i6 (Ue (El neg l)),.bool (Hb (El neg l))]),H):=by
 unfold Uag;have hw:I_.wrap ((l.length:Int)-1)=(l.length:Int)-1:=by rw[Am]<;>omega
 simp only[BF (cs:=[.bool neg,.sl (enL cU l) tk]) (sz:=2) rfl rfl,BD,Aj,zXa,EP,Hr,VK,List.getElem?_cons_succ,zXh,Ax,EF,hw];refine Bf (σ:=Nat) (λi=>i<=l.length/\val (l.drop i)<18446744073709551616) (λi=>[.ptr H.length 0 0,.int .u64 ((val (l.drop i):Nat):Int),.i6 ((i:Int)-1)]) (λ_=>H++[.c0 [.bool neg,.sl (enL cU l) tk]]) (λi=>i)
  (λ_=>some (.ret (.tup [.i6 (Ue (El neg l)),.bool (Hb (El neg l))]),H)) (λi rec hi hrec=>?_) l.length ⟨VM _,by simp[val]⟩ (by omega) |> λh=>by simpa[val]using h
 obtain⟨hi,hv⟩:=hi;unfold Ufi;cases i with
 |zero=>
  simp only[Xa]at hv⊢;have mD:¬(((0:Nat):Int)-1>=0):=by omega
  have un:unA .neg (.int .u64 ((val l:Nat):Int))=some (.int .u64 (IntKind.u64.wrap (0-((val l:Nat):Int)))):=rfl;simp only[At,FE,Gb,RW,mD,zYh,zXa,AM,Aj,EP,Hr,VK,zXh];cases neg with|true=>by_cases h:val l<=9223372036854775808;have h':((val l:Nat):Int)<=9223372036854775808:=(by omega);have hok:Hb (El true l)=true:=(by simp[Hb,El];omega);have mU:=Vhp h;rw[Int.zero_sub]at mU;simp[h',un,AV,mU,Ue,hok];simp[El];have h':¬((val l:Nat):Int)<=9223372036854775808:=(by omega);have hok:Hb (El true l)=false:=(by simp[Hb,El];omega);simp[h',Ue,hok]|false=>by_cases h:val l<=9223372036854775807;have h':¬((val l:Nat):Int)>9223372036854775807:=(by omega);have hok:Hb (El false l)=true:=(by simp[Hb,El];omega);have hw:I_.wrap ((val l:Nat):Int)=((val l:Nat):Int):=(by rw[Am]<;>omega);simp[h',AV,hw,Ue,hok];simp[El];have h':((val l:Nat):Int)>9223372036854775807:=(by omega);have hok:Hb (El false l)=false:=(by simp[Hb,El];omega);simp[h',Ue,hok]
 |succ i=>
  have e:((i+1:Nat):Int)-1=(i:Int):=by omega
  have hge:(i:Int)>=0:=by omega
  have hil:i<l.length:=by omega
  have aI:l[i]<4294967296:=hx _ (VY hil);have hd:=Vhs l i hil;have hle:=Va2 l (i+1);simp only[At,FE,Gb,e,RW,hge,decide_true,zXa,Bb,FD];by_cases h:val (l.drop (i+1))<=4294967295;have h':¬((val (l.drop (i+1)):Nat):Int)>4294967295:=(by omega);have w1:IntKind.u64.wrap (((val (l.drop (i+1)):Nat):Int)*4294967296)=((val (l.drop (i+1)):Nat):Int)*4294967296:=(by rw[BT]<;>omega);have w2:IntKind.u64.wrap (((l[i]:Nat):Int))=((l[i]:Nat):Int):=(by rw[BT]<;>omega);have w3:IntKind.u64.wrap (((val (l.drop (i+1)):Nat):Int)*4294967296+((l[i]:Nat):Int))=((val (l.drop i):Nat):Int):=(by rw[BT,hd]<;>omega);have w4:I_.wrap ((i:Int)-1)=(i:Int)-1:=(by rw[Am]<;>omega);simp only[h',zYh,AM,RV,w1,Aj,zXa,EP,Hr,VK,List.getElem?_cons_succ,zXh,A4 hil,AA,AV,w2,D9,w3,EF,w4];exact hrec i ⟨by omega,by omega⟩ (by omega);have h':((val (l.drop (i+1)):Nat):Int)>4294967295:=(by omega);have dS:18446744073709551616<=val l:=(by have:4294967296^1*4294967296<=4294967296^(i+1)*val (l.drop (i+1)):=XK (Wn (by omega) (by omega)) (by omega);omega);have hok:Hb (El neg l)=false:=(by cases neg<;>simp[Hb,El]<;>omega);simp[h',Ue,hok]
def VbV (z:Int)(H:Aa)(h:LB z):Uag (big z) H=some (.ret (.tup [.i6 (Ue z),.bool (Hb z)]),H):=by rw[JL,VkQ _ _ _ _ h (Bw _),L3]
def HD (neg:Bool)(l:zAb):Bool:=Gj l && !(neg&&l.isEmpty)
def Vd (neg:Bool)(l:zAb)(tk:Tok)(H:Aa)(hl:l.length<=549755813888):UbM (.agg [.bool neg,.sl (enL cU l) tk]) H=some (.ret (.bool (HD neg l)),H):=by
 unfold UbM HD;have hq:=λH=>Vfg l tk H (by omega);cases hr:Gj l with
 |false=>simp[BF,hq,hr]
 |true=>cases neg with|false=>simp[BF,hq,hr]|true=>cases l<;>simp[BF,hq,hr]<;>omega
def VgZ {n:Bool}{l:zAb}(h:HD n l=true)(hx:Lim l):[Ab.bool n,.sl (enL cU l) .no]=A7 (El n l):=by
 simp only[HD,VV,WC]at h;obtain⟨h1,h2⟩:=h;have hn:Nrm l:=(O0 hx).1 h1;unfold A7;rw[VcT,<-MI hn]
 congr 2
 unfold El;cases n with
 |false=>simp
 |true=>
  have hl:l≠[]:=λe=>by subst e;simp at h2
  have:val l≠0:=λe=>hl (hn.zero e);simp;omega
def VbB:LB 0:=by unfold LB;simp[Ef]
structure Cl where
 x:Int
 y:Int
 s:UInt8
deriving DecidableEq
def cCl (c:Cl):List Ab:=[.bool (decide (c.x<0)),.sl (enL cU (A8 c.x.natAbs)) .no,.bool (decide (c.y<0)),.sl (enL cU (A8 c.y.natAbs)) .no,.int .u8 (c.s.toNat:Int)]
instance:Sz cCl 5:=⟨λ_=>rfl⟩
instance:Pl cCl:=⟨λ_=>rfl⟩
def Vqk (z:Int):List Ab:=A7 z
instance:Sz Vqk 2:=⟨λ_=>rfl⟩
instance:Pl Vqk:=⟨λ_=>rfl⟩
def SB (k:Nat)(z:Int):Prop:=z.natAbs<4294967296^k
theorem SB.lb {k:Nat}{z:Int}(h:SB k z)(hk:k<=549755813888):LB z:=LB.of h hk
theorem SB.mono {k m:Nat}{z:Int}(h:SB k z)(hm:k<=m):SB m z:=WO h (HU hm)
theorem SB.add {k:Nat}{a b:Int}(ha:SB k a)(hb:SB k b):SB (k+1) (a+b):=by unfold SB at *;have:4294967296^(k+1)=4294967296^k*4294967296:=Nat.pow_succ _ _;omega
def Vmu {m k:Nat}(h:m<32*k):SB k (2^m):=by
 have e:((2:Int)^m).natAbs=2^m:=by rw[Y0];rfl
 unfold SB;rw[e];exact VbY h
theorem Vo4 {m:Nat}(h:m<=10000):SB 313 (2^m):=Vmu (WE h (by decide))
def Cl.ok (c:Cl):Prop:=SB 100 c.x/\SB 100 c.y
def JD (a b:Cl):Int:=if FM a.y b.y=0 then FM a.x b.x else FM a.y b.y
theorem VgW (c:Cl)(H:Aa):Bj true 5 (.agg (cCl c)) H=some (.ptr H.length 0 0,H++[.c0 (cCl c)]):=BF rfl rfl
theorem NS (c:Cl):(Ab.agg (cCl c)).acells=some (cCl c):=C0 rfl
section
variable {H G:Aa}{p:Nat}{c:Cl}{z:Int}
theorem NA (hg:H[p]? = some (.c0 (cCl c))):Ad true 2 (.ptr p 0 0) H=some (big c.x):=by simp only[Ad,A0 hg,zXa,zYd];rfl
theorem N9 (hg:H[p]? = some (.c0 (cCl c))):Ad true 2 (.ptr p 0 2) H=some (big c.y):=by simp only[Ad,A0 hg,zXa,zYd];rfl
theorem Bn (hg:H[p]? = some (.c0 (A7 z))):Ad true 2 (.ptr p 0 0) H=some (big z):=by simp only[Ad,A0 hg,zXa,zYd];rfl
theorem Cc {cs:List Ab}(hg:H[p]? = some (.c0 cs))(hl:cs.length=2):Ae 2 (.ptr p 0 0) (big z) H=some (H.set p (.c0 (A7 z))):=by simp only[Ae,A0 hg,zXa,TN,BE hg,DJ hl];rw[zYc ⟨rfl,by omega⟩]
theorem VfE:Ad true 2 (.cptr (cCl c) 0) H=some (big c.x):=(rfl)
theorem VfD:Ad true 2 (.cptr (cCl c) 2) H=some (big c.y):=(rfl)
theorem VfG:Ad false 1 (.cptr (cCl c) 4) H=some (.int .u8 (c.s.toNat:Int)):=(rfl)
theorem Pj:Ad true 5 (.cptr (cCl c) 0) H=some (.agg (cCl c)):=(rfl)
theorem Np (c:Cl):AK 5 [.agg (cCl c)]=some (.sl (enL cCl [c]) .ti):=by simp[AK,Df,NS];simp[cCl,KP,Cq,enL]
theorem D6 (H:Aa):Av (some [.bool false,.sl [] .ti]) H=some (.ptr H.length 0 0,H++[.c0 [.bool false,.sl [] .ti]]):=alloc_eq rfl
theorem A1 {i:Nat}{x:Blk}(h:H[i]? = some x):(H++G)[i]? = some x:=by have:=(VJ.1 h).1;rw[VN this];exact h

end
def Vfa (a b:Cl)(H:Aa)(ha:a.ok)(hb:b.ok):UbN (.agg (cCl a)) (.agg (cCl b)) H=some (.ret (.i6 (JD a b)),H):=by
 have e1:(H++[Blk.c0 (cCl a)]++[Blk.c0 (cCl b)])[H.length]? = some (.c0 (cCl a)):=by simp
 have e2:(H++[Blk.c0 (cCl a)]++[Blk.c0 (cCl b)])[(H++[Blk.c0 (cCl a)]).length]? = some (.c0 (cCl b)):=Ap;unfold UbN;have hy:=λH=>Fm a.y b.y H (ha.2.lb (by decide)) (hb.2.lb (by decide));have hx:=λH=>Fm a.x b.x H (ha.1.lb (by decide)) (hb.1.lb (by decide));simp only[GMw,VgW,Aj,VK,Nat.add_zero,N9 e1,N9 e2,hy];have fin:∀q:Int,rP H (.i6 q) (H++[Blk.c0 (cCl a)]++[Blk.c0 (cCl b)])=some (.ret (.i6 q),H):=λq=>by simp only[VP];exact Ih
 unfold JD;by_cases h:FM a.y b.y=0;simp only[GMw,h,NA e1,NA e2,hx,fin];simp only[GMw,h,fin]
def inZ (v:Nat)(z:Int):Bool:=decide (-(2^(v-1))<=z)&&decide (z<2^(v-1))
def EX (v:Nat)(c:Cl):Bool:=inZ v c.x&&inZ v c.y
def HK (a b:Int):decide (FM a b>=0)=decide (b<=a):=by unfold FM;rw[VZ];split;simp;omega;split;simp;omega;simp;omega
def HJ (a b:Int):decide (FM a b<0)=decide (a<b):=by unfold FM;rw[VZ];split;simp;omega;split;simp;omega;simp;omega
def Vds (c:Cl)(v:Nat)(H:Aa)(hc:c.ok)(h1:1<=v)(h2:v<=10000):UdK (.agg (cCl c)) (.i6 (v:Int)) H=some (.ret (.bool (EX v c)),H):=by
 have hw:I_.wrap ((v:Int)-1)=((v-1:Nat):Int):=Hk (by omega) (by omega);have hp:=Vo4 (show v-1<=10000 by omega);have bO:=hp.lb (by decide);unfold UdK;have cD:=λH=>Iw (v-1) H (by omega);have gZ:=λH=>IM (2^(v-1)) H bO;have hx:=λH b (hb:LB b)=>Fm c.x b H (hc.1.lb (by decide)) hb;have hy:=λH b (hb:LB b)=>Fm c.y b H (hc.2.lb (by decide)) hb;have s1:∀B:Aa,Ae 2 (.ptr B.length 0 0) (big (2^(v-1))) (B++[.c0 [.bool false,.sl [] .ti]])=some (B++[.c0 (A7 (2^(v-1)))]):=λB=>by rw[Cc (Ap (B:=B)) rfl,Bg]
 have s2:∀B:Aa,Ae 2 (.ptr B.length 0 0) (big (-(2^(v-1)))) (B++[.c0 [.bool false,.sl [] .ti]])=some (B++[.c0 (A7 (-(2^(v-1))))]):=λB=>by rw[Cc (Ap (B:=B)) rfl,Bg]
 simp only[GMw,VgW,hw,cD,D6,s1,Bn Ap,gZ,s2];generalize hB:H++[Blk.c0 (cCl c)]=B;have e1:(B++[Blk.c0 (A7 (2^(v-1)))]++[Blk.c0 (A7 (-(2^(v-1))))])[H.length]? = some (.c0 (cCl c)):=by rw[<-hB];simp
 have e2:(B++[Blk.c0 (A7 (2^(v-1)))]++[Blk.c0 (A7 (-(2^(v-1))))])[B.length]? = some (.c0 (A7 (2^(v-1)))):=by simp
 have e3:(B++[Blk.c0 (A7 (2^(v-1)))]++[Blk.c0 (A7 (-(2^(v-1))))])[(B++[Blk.c0 (A7 (2^(v-1)))]).length]? = some (.c0 (A7 (-(2^(v-1))))):=Ap;have fin:∀q:Bool,rP H (.bool q) (B++[Blk.c0 (A7 (2^(v-1)))]++[Blk.c0 (A7 (-(2^(v-1))))])=some (.ret (.bool q),H):=λq=>by rw[<-hB];simp only[VP];exact Ey
 unfold EX inZ;simp only[GMw,Aj,VK,Nat.add_zero,NA e1,Bn e2,hx _ _ bO.neg,HK];cases decide (-(2^(v-1))<=c.x)with
 |false=>simp only[GMw,fin]
 |true=>
  simp only[GMw,NA e1,Bn e3,hx _ _ bO,HJ];cases decide (c.x<2^(v-1))with
  |false=>simp only[GMw,fin]
  |true=>simp only[GMw,N9 e1,Bn e2,hy _ _ bO.neg,HK];cases decide (-(2^(v-1))<=c.y)with|false=>simp only[GMw,fin]|true=>simp only[GMw,N9 e1,hy _ _ bO,HJ,fin]
end Go.Gm
