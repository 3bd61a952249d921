/- Texts of this proof, joined. -/
import Derived.Test.YtagddbecnkbcdaaGreatJ2
import Derived.Test.YtagddbecnkbcdaaGreatChecked
import Derived.KernelRfl
import Derived.ProofKit
import Derived.OpenShut
import Derived.JoinedCond
import Derived.Carry
import Derived.Shelf.Small.Strs
import Derived.Shelf.Small.Wraps
import Derived.Shelf.Strings.Search1
import Derived.Shelf.GgClosure.StringsIndexFunc
import Derived.Ground.GgwProg
import Derived.Shelf.GgClosure.StringsIndexFuncTop
import Derived.Shelf.Strings.Prefix
import Derived.Shelf.Strings.FuncGrows
import Derived.Test.YtagddbecnkbcdaaGreatProg
import Derived.RangeFuncBox
import Derived.RangeFuncLeaves
import Derived.Shelf.Abstract
import Derived.WalkKit
import Derived.OwnWalkIn
import Derived.TacticsInMore
import Derived.LoopNIn
import Derived.LoopIn
import Derived.Calls
set_option linter.unusedVariables false
set_option linter.unusedSimpArgs false
namespace Go.Gm
noncomputable def Sh.f6h (b:Ab) (c:Aa):Out:=
 (Ae .none .lss b (.int .i32 48)).bind fun a=>
 gk a false (some b) fun d=>
 gk a false (Ae .none .gtr d (.int .i32 57)) fun e=>
 (AI a (.bool true) e).bind fun f=>
 rK c f c
noncomputable def Sh.f8 (b:Ab) (c:Aa):Out:=
 (A5 b).bind fun d=>
 (Ae .none .eql d (.int .i64 0)).bind fun a=>
 gk a false (some b) fun e=>
 gk a false (some b) fun f=>
 gk a false (A5 f) fun g=>
 gk a false (Ae .none .sub g (.int .i64 1)) fun h=>
 gk a false (At 1 e h) fun i=>
 gk a false (Ac false 1 i c) fun j=>
 gk a false (Ae .none .neq j (.int .u32 0)) fun k=>
 (AI a (.bool true) k).bind fun l=>
 rK c l c
noncomputable def Sh.f11 (b:Aa) (d:LK) (a:Ab) (e:Aa):Out:=
 bK b (Sh.f8 a e) fun f c=>
 (unA .not f).bind fun g=>
 Aj g (
 (A5 a).bind fun h=>
 (Ae .none .sub h (.int .i64 1)).bind fun i=>
 (Bv 1 a none (some i) none).bind fun j=>
 d [j] c) (
 rKN b a c)
noncomputable def Sh.f1 (b:Ab) (a:Aa):Out:=
 Ao (fun c vs H=>Sh.f11 a c (ag vs 0) H) AQ [b] a
noncomputable def Sh.fq (a:Aa):Out:=
 Am (Az (some [(.int .i64 0),(.int .i64 0)]) a) fun b d=>
 (AD (some [(.int .i64 0),(.int .i64 0)]) [(0,1,(.int .i64 1000)),(1,1,(.int .i64 100000))]).bind fun e=>
 bP a (AF (Ag 2 b e d)) fun _ c=>
 (Ac true 2 b c).bind fun f=>rP a f c
noncomputable def Sh.f3d (b d:Ab) (c:Aa):Out:=
 (Ae .none .geq b (.int .i64 0)).bind fun a=>
 gk a true (some b) fun e=>
 gk a true (some d) fun f=>
 gk a true (Ae .none .leq e f) fun g=>
 (AI a g (.bool false)).bind fun h=>
 rK c h c
noncomputable def Sh.f3e (f:Ab) (a:Aa):Out:=
 Am (B8 true 2 f a) fun d e=>
 (Ad 0 d).bind fun g=>
 (Ac false 1 g e).bind fun h=>
 bP a (Sh.f3d h (.int .i64 1000) e) fun b c=>
 gk b true (Ad 1 d) fun i=>
 gk b true (Ac false 1 i c) fun j=>
 gbP a b true c (Sh.f3d j (.int .i64 100000) c) fun k l=>
 (AI b k (.bool false)).bind fun m=>
 rP a m l
noncomputable def Sh.f6i (c:Aa) (h:LK) (d e f g a:Ab) (b:Aa):Out:=
 (Ae .none .lss a g).bind fun i=>
 Aj i (
 (Ez d a).bind fun j=>
 (Ez e a).bind fun k=>
 (Ae .none .neq j k).bind fun l=>
 Aj l (
 rK c a b) (
 (Ae .none .add a (.int .i64 1)).bind fun m=>
 h [d,e,f,g,m] b)) (
 rK c f b)
noncomputable def Sh.f3f (a b:Ab) (c:Aa):Out:=
 (CG a).bind fun e=>
 (CG b).bind fun f=>
 (Hm RU e [f]).bind fun d=>
 Ao (fun g vs H=>Sh.f6i c g (ag vs 0) (ag vs 1) (ag vs 2) (ag vs 3) (ag vs 4) H) AQ [a,b,d,d,(.int .i64 0)] c
noncomputable def Sh.fr (b:Ab) (a:Aa):Out:=
 (As b).bind fun c=>
 (Ad 1 c).bind fun d=>
 bC (Ac false 1 d a) (fun _=>True) fun e=>
 (As b).bind fun f=>
 (Ad 0 f).bind fun g=>
 bC (Ac false 1 g a) (fun _=>True) fun h=>
 (CG h).bind fun i=>
 (Ae .none .eql e i).bind fun j=>
 rK a j a
noncomputable def Sh.f7y (a:Aa) (b:Aa):Out:=
 (AD (some [(.int .i64 0),(.str [])]) [(0,1,(.int .i64 2)),(1,1,(.str []))]).bind fun c=>
 (Sm GU c).bind fun d=>
 bK a (panA d b) fun _ e=>
 rK a (.tup []) e
noncomputable def Sh.f9 (c d:Ab) (a:Aa):Out:=
 AN (fun j1=>
 bK a (Sh.fr c a) fun e b=>
 Aj e (
 (AD (some [(.int .i64 0),(.str [])]) [(0,1,(.int .i64 3)),(1,1,d)]).bind fun f=>
 (Sm GU f).bind fun g=>
 bK a (panA g b) fun _ h=>
 j1 [] h) (
 j1 [] b)) (fun vs H=>Sh.f7y a H)
noncomputable def Sh.f12 (b c g:Ab) (a:Aa):Out:=
 (As b).bind fun h=>
 (Ad 0 h).bind fun i=>
 bC (Ac false 1 i a) (fun _=>True) fun j=>
 (As b).bind fun k=>
 (Ad 1 k).bind fun l=>
 bC (Ac false 1 l a) (fun _=>True) fun m=>
 (Cq j (some m) none).bind fun n=>
 Bk (Sh.f3f n c a) fun d e=>
 (As b).bind fun o=>
 (Ad 1 o).bind fun p=>
 (Ac false 1 p e).bind fun q=>
 (Ae .none .add q d).bind fun r=>
 (As b).bind fun s=>
 (Ad 1 s).bind fun t=>
 bK a (AF (Ag 1 t r e)) fun _ f=>
 (CG c).bind fun u=>
 (Ae .none .lss d u).bind fun v=>
 Aj v (
 (Cq c (some d) none).bind fun w=>
 (Ae .none .add w g).bind fun x=>
 bK a (Sh.f9 b x f) fun z y=>
 rK a (.tup []) y) (
 rK a (.tup []) f)
noncomputable def Sh.fi (c e:Ab) (d:Aa):Out:=
 Bk (Sh.fr c d) fun f b=>
 (unA .not f).bind fun a=>
 gk a true (some e) fun g=>
 gk a true (some c) fun h=>
 gk a true (As h) fun i=>
 gk a true (Ad 0 i) fun j=>
 gkc a true (Ac false 1 j b) (fun _ _=>True) fun k=>
 gk a true (some c) fun l=>
 gk a true (As l) fun m=>
 gk a true (Ad 1 m) fun n=>
 gkc a true (Ac false 1 n b) (fun _ _=>True) fun o=>
 gk a true (Ez k o) fun p=>
 gbN a true b (Sh.f1z g p b) fun q r=>
 gk a true (Ae .none .geq q (.int .i64 0)) fun s=>
 (AI a s (.bool false)).bind fun t=>
 rK d t r
noncomputable def Sh.f7h (a:Aa) (b:Ab) (c:Aa):Out:=
 (As b).bind fun d=>
 (Ad 1 d).bind fun e=>
 (Ac false 1 e c).bind fun f=>
 (Ae .none .add f (.int .i64 1)).bind fun g=>
 (As b).bind fun h=>
 (Ad 1 h).bind fun i=>
 bK a (AF (Ag 1 i g c)) fun _ j=>
 rK a (.tup []) j
noncomputable def Sh.f6j (b:Aa) (a d:Ab) (e:Aa):Out:=
 AN (fun j2=>
 bK b (Sh.fi a (.str [10]) e) fun f c=>
 (unA .not f).bind fun g=>
 Aj g (
 (Ae .none .add (.str [10]) d).bind fun h=>
 bK b (Sh.f9 a h c) fun j i=>
 j2 [a] i) (
 j2 [a] c)) (fun vs H=>Sh.f7h b (ag vs 0) H)
noncomputable def Sh.fs (a d:Ab) (b:Aa):Out:=
 bK b (Sh.fr a b) fun f e=>
 Aj f (
 rK b (.tup []) e) (
 AN (fun j1=>
 bK b (Sh.fi a (.str [13]) e) fun g c=>
 Aj g (
 (As a).bind fun h=>
 (Ad 1 h).bind fun i=>
 (Ac false 1 i c).bind fun j=>
 (Ae .none .add j (.int .i64 1)).bind fun k=>
 (As a).bind fun l=>
 (Ad 1 l).bind fun m=>
 bK b (AF (Ag 1 m k c)) fun _ n=>
 j1 [a,d] n) (
 j1 [a,d] c)) (fun vs H=>Sh.f6j b (ag vs 0) (ag vs 1) H))
noncomputable def Sh.f3g (b:Ab) (c:Aa):Out:=
 (Ae .none .gtr b (.int .u8 32)).bind fun a=>
 gk a true (some b) fun d=>
 gk a true (Ae .none .lss d (.int .u8 127)) fun e=>
 (AI a e (.bool false)).bind fun f=>
 rK c f c
noncomputable def Sh.f6k (c:Aa) (b d:Ab) (a:Aa):Out:=
 (As b).bind fun e=>
 (Ad 0 e).bind fun f=>
 bC (Ac false 1 f a) (fun _=>True) fun g=>
 (As b).bind fun h=>
 (Ad 1 h).bind fun i=>
 bC (Ac false 1 i a) (fun _=>True) fun j=>
 (Cq g (some d) (some j)).bind fun k=>
 rK c k a
noncomputable def Sh.f6l (g:Aa) (i:LK) (a h d:Ab) (j:Aa):Out:=
 Bk (Sh.fr a j) fun k e=>
 (unA .not k).bind fun c=>
 gk c true (some a) fun l=>
 gk c true (As l) fun m=>
 gk c true (Ad 1 m) fun n=>
 gkc c true (Ac false 1 n e) (fun _ _=>True) fun o=>
 gk c true (some d) fun p=>
 gk c true (Ae .none .sub o p) fun q=>
 gk c true (Ae .none .lss q (.int .i64 40)) fun r=>
 (AI c r (.bool false)).bind fun b=>
 gk b true (some a) fun s=>
 gk b true (As s) fun t=>
 gk b true (Ad 0 t) fun u=>
 gkc b true (Ac false 1 u e) (fun _ _=>True) fun v=>
 gk b true (some a) fun w=>
 gk b true (As w) fun x=>
 gk b true (Ad 1 x) fun y=>
 gkc b true (Ac false 1 y e) (fun _ _=>True) fun z=>
 gk b true (Ez v z) fun aa=>
 gbN b true e (Sh.f3g aa e) fun ab f=>
 (AI b ab (.bool false)).bind fun ac=>
 Aj ac (
 (As a).bind fun ad=>
 (Ad 1 ad).bind fun ae=>
 (Ac false 1 ae f).bind fun aj=>
 (Ae .none .add aj (.int .i64 1)).bind fun ak=>
 (As a).bind fun al=>
 (Ad 1 al).bind fun am=>
 bK g (AF (Ag 1 am ak f)) fun _ an=>
 i [a,h,d] an) (
 AN (fun j2=>
 (As a).bind fun ap=>
 (Ad 1 ap).bind fun aq=>
 (Ac false 1 aq f).bind fun ar=>
 (Ae .none .eql ar d).bind fun au=>
 Aj au (
 (Ae .none .add (.str [97]) h).bind fun av=>
 bK g (Sh.f9 a av f) fun ax aw=>
 j2 [a,d] aw) (
 j2 [a,d] f)) (fun vs H=>Sh.f6k g (ag vs 0) (ag vs 1) H))
noncomputable def Sh.f20 (b c:Ab) (a:Aa):Out:=
 (As b).bind fun d=>
 (Ad 1 d).bind fun e=>
 (Ac false 1 e a).bind fun f=>
 Ao (fun g vs H=>Sh.f6l a g (ag vs 0) (ag vs 1) (ag vs 2) H) AQ [b,c,f] a
noncomputable def Sh.f3h (e:Ab) (a:Aa):Out:=
 (AD (some [(.int .i64 0),(.str [])]) [(0,1,(.int .i64 4)),(1,1,(.str []))]).bind fun b=>
 (Sm GU b).bind fun c=>
 bK a (panA c a) fun _ d=>
 rK a (.tup []) d
noncomputable def Sh.f3i (c b:Ab) (d:Aa):Out:=
 (CG c).bind fun e=>
 (CG b).bind fun f=>
 (Ae .none .geq e f).bind fun a=>
 gk a true (some c) fun g=>
 gk a true (some b) fun h=>
 gk a true (CG h) fun i=>
 gk a true (Cq g none (some i)) fun j=>
 gk a true (some b) fun k=>
 gk a true (Ae .none .eql j k) fun l=>
 (AI a l (.bool false)).bind fun m=>
 rK d m d
noncomputable def Sh.f6m (b c:Ab) (a:Aa):Out:=
 bK a (Sh.f3i b c a) fun e d=>
 (unA .not e).bind fun f=>
 Aj f (
 rK a (.tup [b,(.bool false)]) d) (
 (CG c).bind fun g=>
 (Cq b (some g) none).bind fun h=>
 rK a (.tup [h,(.bool true)]) d)
noncomputable def Sh.f3j (c d:Ab) (a:Aa):Out:=
 bK a (Sh.f6m c d a) fun b e=>
 (Av 0 b).bind fun f=>
 (Av 1 b).bind fun g=>
 rK a (.tup [f,g]) e
noncomputable def Sh.f3k (d c:Ab) (a:Aa):Out:=
 (Ae .none .lss c (.int .i64 0)).bind fun b=>
 gk b false (some c) fun h=>
 gk b false (some d) fun i=>
 gk b false (CG i) fun j=>
 gk b false (Ae .none .gtr h j) fun k=>
 (AI b (.bool true) k).bind fun l=>
 Aj l (
 rK a (.int .i64 0) a) (
 (Cq d (some c) none).bind fun e=>
 bK a (Sh.f1y e (.fn 235 []) a) fun f g=>
 (Ae .none .lss f (.int .i64 0)).bind fun m=>
 Aj m (
 (CG e).bind fun n=>
 rK a n g) (
 rK a f g))
noncomputable def Sh.f6n (a:Aa) (k:LK) (e f b g h i c:Ab) (d:Aa):Out:=
 (Ae .none .lss c i).bind fun l=>
 Aj l (
 (At 1 h c).bind fun m=>
 (Ac false 1 m d).bind fun n=>
 (AK .u64 n).bind fun o=>
 (AK .u64 f).bind fun p=>
 (Ae .none .mul o p).bind fun q=>
 (Ae .none .add g q).bind fun j=>
 (AK .u32 j).bind fun r=>
 (At 1 b c).bind fun s=>
 bP a (AF (Ag 1 s r d)) fun _ t=>
 (Ae .none .shr j (.int .u64 32)).bind fun u=>
 (Ae .none .add c (.int .i64 1)).bind fun v=>
 k [e,f,b,u,h,i,v] t) (
 (A5 e).bind fun w=>
 (AK .u32 g).bind fun x=>
 (At 1 b w).bind fun y=>
 bP a (AF (Ag 1 y x d)) fun _ z=>
 bP a (Sh.f1 b z) fun aa ab=>
 rPN a aa ab)
noncomputable def Sh.f3l (a d e:Ab) (b:Aa):Out:=
 (A5 a).bind fun f=>
 (Ae .none .add f (.int .i64 1)).bind fun c=>
 Am (Fi 1 4 (some [(.int .u32 0)]) c c b) fun g h=>
 (AK .u64 e).bind fun i=>
 (A5 a).bind fun j=>
 Ao (fun k vs H=>Sh.f6n b k (ag vs 0) (ag vs 1) (ag vs 2) (ag vs 3) (ag vs 4) (ag vs 5) (ag vs 6) H) AQ [a,d,g,i,a,j,(.int .i64 0)] h
noncomputable def Sh.f3m (a:Aa) (i:LK) (b c d e:Ab) (j:Aa):Out:=
 bP a (BZ (Ob e j)) fun f g=>
 (Av 0 f).bind fun k=>
 Aj k (
 (Av 2 f).bind fun l=>
 (Ae .none .sub l (.int .i32 48)).bind fun m=>
 (AK .u32 m).bind fun n=>
 bP a (Sh.f3l d (.int .u32 10) n g) fun o p=>
 i [b,c,o,e] p) (
 (AD (some [(.bool false),(.sl [] .tight)]) [(0,1,c),(1,1,d)]).bind fun q=>
 bP a (AF (Ag 2 b q g)) fun _ h=>
 (Fy [Ac true 2 b h,some (.int .i64 0)]).bind fun r=>rPN a r h)
noncomputable def Sh.f6o (a:Aa) (b d g h:Ab) (c:Aa):Out:=
 Aj h (
 (AD (some [(.bool false),(.sl [] .tight)]) []).bind fun i=>
 bP a (AF (Ag 2 b i c)) fun _ e=>
 (Fy [Ac true 2 b e,some (.int .i64 2)]).bind fun j=>rPN a j e) (
 (CG d).bind fun k=>
 (Ae .none .gtr k (.int .i64 400)).bind fun l=>
 Aj l (
 (AD (some [(.bool false),(.sl [] .tight)]) []).bind fun m=>
 bP a (AF (Ag 2 b m c)) fun _ f=>
 (Fy [Ac true 2 b f,some (.int .i64 4)]).bind fun n=>rPN a n f) (
 bP a (BZ (N2 d c)) fun o p=>
 Ao (fun q vs H=>Sh.f3m a q (ag vs 0) (ag vs 1) (ag vs 2) (ag vs 3) H) AQ [b,g,(.sl [] .tight),o] p))
noncomputable def Sh.f3n (f:Ab) (b:Aa):Out:=
 Am (Az (some [(.bool false),(.sl [] .tight)]) b) fun c l=>
 bP b (Sh.f3j f (.str [45]) l) fun g h=>
 (Av 0 g).bind fun a=>
 (Av 1 g).bind fun d=>
 AN (fun j1=>
 (Ae .none .eql a (.str [])).bind fun i=>
 Aj i (
 j1 [c,a,d,i] h) (
 bP b (Sh.f3k a (.int .i64 0) h) fun m j=>
 (CG a).bind fun n=>
 (Ae .none .lss m n).bind fun k=>
 Aj k (
 j1 [c,a,d,k] j) (
 (Ez a (.int .i64 0)).bind fun o=>
 (Ae .none .eql o (.int .u8 48)).bind fun e=>
 gk e true (some f) fun p=>
 gk e true (Ae .none .neq p (.str [48])) fun q=>
 (AI e q (.bool false)).bind fun r=>
 j1 [c,a,d,r] j))) (fun vs H=>Sh.f6o b (ag vs 0) (ag vs 1) (ag vs 2) (ag vs 3) H)
noncomputable def Sh.f3o (c:Aa) (d:LK) (a e f g h:Ab) (b:Aa):Out:=
 (As a).bind fun i=>
 (Ad 1 i).bind fun j=>
 (Ac false 1 j b).bind fun k=>
 (Ae .none .add k (.int .i64 1)).bind fun l=>
 (As a).bind fun m=>
 (Ad 1 m).bind fun n=>
 bK c (AF (Ag 1 n l b)) fun _ o=>
 d [a,e,f,g,h] o
noncomputable def Sh.f21 (b:Aa) (c d i:Ab) (a:Aa):Out:=
 (As c).bind fun j=>
 (Ad 0 j).bind fun k=>
 bC (Ac false 1 k a) (fun _=>True) fun l=>
 (As c).bind fun m=>
 (Ad 1 m).bind fun n=>
 bC (Ac false 1 n a) (fun _=>True) fun o=>
 (Cq l (some i) (some o)).bind fun p=>
 Bk (Sh.f3n p a) fun e q=>
 (Av 0 e).bind fun r=>
 Am (Az (some [(.bool false),(.sl [] .tight)]) q) fun f s=>
 Bk (AF (Ag 2 f r s)) fun _ g=>
 (Av 1 e).bind fun v=>
 (Ac true 2 f g).bind fun t=>
 bK b (AF (Ag 2 d t g)) fun _ h=>
 (Ac true 2 d h).bind fun u=>rKN b u h
noncomputable def Sh.f3p (e:Aa) (i:LK) (a h f g d:Ab) (j:Aa):Out:=
 bK e (Sh.fi a (.str [48,49,50,51,52,53,54,55,56,57]) j) fun k b=>
 Aj k (
 AN (fun j3=>
 (As a).bind fun l=>
 (Ad 1 l).bind fun m=>
 (Ac false 1 m b).bind fun n=>
 (Ae .none .gtr n d).bind fun c=>
 gk c true (some a) fun o=>
 gk c true (As o) fun p=>
 gk c true (Ad 0 p) fun q=>
 gk c true (Ac false 1 q b) fun r=>
 gk c true (some d) fun s=>
 gk c true (Ez r s) fun t=>
 gk c true (Ae .none .eql t (.int .u8 48)) fun u=>
 (AI c u (.bool false)).bind fun v=>
 Aj v (
 bK e (Sh.f9 a (.str []) b) fun an w=>
 j3 [a,h,f,g,d] w) (
 (As a).bind fun x=>
 (Ad 1 x).bind fun y=>
 (Ac false 1 y b).bind fun z=>
 (Ae .none .sub z d).bind fun aa=>
 (Ae .none .eql aa (.int .i64 400)).bind fun ab=>
 Aj ab (
 bK e (Sh.f3h a b) fun ap ac=>
 j3 [a,h,f,g,d] ac) (
 j3 [a,h,f,g,d] b))) (fun vs H=>Sh.f3o e i (ag vs 0) (ag vs 1) (ag vs 2) (ag vs 3) (ag vs 4) H)) (
 AN (fun j4=>
 (As a).bind fun ad=>
 (Ad 1 ad).bind fun ae=>
 (Ac false 1 ae b).bind fun aj=>
 (Ae .none .eql aj d).bind fun ak=>
 Aj ak (
 (Ae .none .add (.str [49]) h).bind fun al=>
 bK e (Sh.f9 a al b) fun aq am=>
 j4 [a,f,g] am) (
 j4 [a,f,g] b)) (fun vs H=>Sh.f21 e (ag vs 0) (ag vs 1) (ag vs 2) H))
noncomputable def Sh.f3q (c:Aa) (a d e f:Ab) (b:Aa):Out:=
 (As a).bind fun g=>
 (Ad 1 g).bind fun h=>
 (Ac false 1 h b).bind fun i=>
 Ao (fun j vs H=>Sh.f3p c j (ag vs 0) (ag vs 1) (ag vs 2) (ag vs 3) (ag vs 4) H) AQ [a,d,e,f,i] b
noncomputable def Sh.f22 (a c d:Ab) (b:Aa):Out:=
 Am (Az (some [(.bool false),(.sl [] .tight)]) b) fun e f=>
 (As a).bind fun j=>
 (Ad 1 j).bind fun k=>
 (Ac false 1 k f).bind fun g=>
 AN (fun j1=>
 gk c true (some a) fun l=>
 gbK b c true f (Sh.fi l (.str [45]) f) fun m h=>
 (AI c m (.bool false)).bind fun n=>
 Aj n (
 (As a).bind fun o=>
 (Ad 1 o).bind fun p=>
 (Ac false 1 p h).bind fun q=>
 (Ae .none .add q (.int .i64 1)).bind fun r=>
 (As a).bind fun s=>
 (Ad 1 s).bind fun t=>
 bK b (AF (Ag 1 t r h)) fun _ u=>
 bK b (Sh.fi a (.str [48]) u) fun v i=>
 Aj v (
 bK b (Sh.f9 a (.str []) i) fun x w=>
 j1 [a,d,e,g] w) (
 j1 [a,d,e,g] i)) (
 j1 [a,d,e,g] h)) (fun vs H=>Sh.f3q b (ag vs 0) (ag vs 1) (ag vs 2) (ag vs 3) H)
noncomputable def Sh.f3r (b:Ab) (a:Aa):Out:=
 (As b).bind fun g=>
 (Ad 0 g).bind fun h=>
 bK a (Sh.fi h (.str [35]) a) fun i d=>
 Aj i (
 (As b).bind fun j=>
 (Ad 0 j).bind fun k=>
 bK a (Sh.f12 k (.str [35,82,32]) (.str [97]) d) fun a0 l=>
 (As b).bind fun m=>
 (Ad 0 m).bind fun n=>
 bK a (Sh.f20 n (.str []) l) fun o p=>
 (As b).bind fun q=>
 (Ad 2 q).bind fun r=>
 bK a (AF (Ag 1 r o p)) fun _ s=>
 rK a (.tup []) s) (
 (As b).bind fun t=>
 (Ad 0 t).bind fun u=>
 bK a (Sh.f22 u (.bool true) (.str [32,49]) d) fun v w=>
 Am (Az (some [(.bool false),(.sl [] .tight)]) w) fun e x=>
 bK a (AF (Ag 2 e v x)) fun _ y=>
 (As b).bind fun z=>
 (Ad 0 z).bind fun aa=>
 bK a (Sh.f12 aa (.str [32]) (.str [49]) y) fun a1 ab=>
 (As b).bind fun ac=>
 (Ad 0 ac).bind fun ad=>
 bK a (Sh.f22 ad (.bool true) (.str []) ab) fun ae aj=>
 Am (Az (some [(.bool false),(.sl [] .tight)]) aj) fun f ak=>
 bK a (AF (Ag 2 f ae ak)) fun _ c=>
 (As b).bind fun al=>
 (Ad 3 al).bind fun am=>
 bC (Ac false 1 am c) (fun _=>True) fun an=>
 bC (Ac true 2 e c) (fun _=>True) fun ap=>
 bC (Ac true 2 f c) (fun _=>True) fun aq=>
 (AD (some [(.bool false),(.sl [] .tight),(.bool false),(.sl [] .tight),(.int .u8 0)]) [(0,2,ap),(2,2,aq),(4,1,(.int .u8 1))]).bind fun ar=>
 (AY 5 [ar]).bind fun au=>
 Bk (BZ (AW A6 5 72 an au c)) fun av aw=>
 (As b).bind fun ax=>
 (Ad 3 ax).bind fun ay=>
 bK a (AF (Ag 1 ay av aw)) fun _ az=>
 rK a (.tup []) az)
noncomputable def Sh.f3s (a:Aa) (d:LK) (b:Ab) (e:Aa):Out:=
 (As b).bind fun f=>
 (Ad 0 f).bind fun g=>
 bK a (Sh.fr g e) fun h c=>
 (unA .not h).bind fun i=>
 Aj i (
 bK a (Sh.f3r b c) fun n j=>
 (As b).bind fun k=>
 (Ad 0 k).bind fun l=>
 bK a (Sh.fs l (.str []) j) fun o m=>
 d [b] m) (
 rK a (.tup []) c)
noncomputable def Sh.f1d (b:Ab) (a:Aa):Out:=
 (As b).bind fun c=>
 (Ad 0 c).bind fun d=>
 bK a (Sh.f12 d (.str [35,76,105,102,101,32,49,46,48,54]) (.str []) a) fun j e=>
 (As b).bind fun f=>
 (Ad 0 f).bind fun g=>
 bK a (Sh.fs g (.str []) e) fun k h=>
 Ao (fun i vs H=>Sh.f3s a i (ag vs 0) H) AQ [b] h
noncomputable def Sh.f23:Ab→Aa→Out:=OH (ent 38 (ap1 Sh.f1d) noO)
noncomputable def Sh.f24 (c:Ab) (a:Aa):Out:=
 Am (B8 true 5 c a) fun d b=>
 (Ad 4 d).bind fun e=>
 (Ac false 1 e b).bind fun f=>
 (Ae .none .eql f (.int .u8 0)).bind fun g=>
 rP a g b
noncomputable def Sh.f25 (g:Ab) (c:Aa):Out:=
 Am (B8 true 2 g c) fun d f=>
 (Ad 1 d).bind fun h=>
 (Ac false 1 h f).bind fun i=>
 bP c (Sh.f8 i f) fun a e=>
 gk a true (Ad 0 d) fun j=>
 gk a true (Ac false 1 j e) fun k=>
 gk a true (unA .not k) fun l=>
 gk a true (some l) fun b=>
 gk b false (Ad 1 d) fun m=>
 gk b false (Ac false 1 m e) fun n=>
 gk b false (A5 n) fun o=>
 gk b false (Ae .none .gtr o (.int .i64 0)) fun p=>
 gk a true (AI b (.bool true) p) fun q=>
 (AI a q (.bool false)).bind fun r=>
 rP c r e
noncomputable def Sh.f3t (f:Ab) (b:Aa):Out:=
 Am (B8 true 5 f b) fun d e=>
 (Ad 0 d).bind fun g=>
 (Ac true 2 g e).bind fun h=>
 bP b (Sh.f25 h e) fun i c=>
 (unA .not i).bind fun a=>
 gk a false (Ad 2 d) fun j=>
 gk a false (Ac true 2 j c) fun k=>
 gbP b a false c (Sh.f25 k c) fun l m=>
 gk a false (unA .not l) fun n=>
 (AI a (.bool true) n).bind fun o=>
 rP b o m
noncomputable def AG:Orc:=(ent 148 (ap1 Sh.f24) (ent 84 (ap1 Sh.f3t) noO))
noncomputable def Sh.fj (b:Aa) (h:LK) (d e f a:Ab) (c:Aa):Out:=
 (Ae .none .lss a f).bind fun i=>
 Aj i (
 (At 5 d a).bind fun j=>
 (Ac true 5 j c).bind fun k=>
 bK b (D3 AG e [k] c) fun l g=>
 Aj l (
 rK b a g) (
 (Ae .none .add a (.int .i64 1)).bind fun m=>
 h [d,e,f,m] g)) (
 rK b (.int .i64 (-1)) c)
noncomputable def Sh.fa (a c:Ab) (b:Aa):Out:=
 (A5 a).bind fun d=>
 Ao (fun e vs H=>Sh.fj b e (ag vs 0) (ag vs 1) (ag vs 2) (ag vs 3) H) AQ [a,c,d,(.int .i64 0)] b
noncomputable def Sh.f3u (b c:Ab) (a:Aa):Out:=
 bK a (Sh.fa b c a) fun d e=>
 (Ae .none .geq d (.int .i64 0)).bind fun f=>
 rK a f e
noncomputable def Sh.f3v (b:Ab) (a:Aa):Out:=
 (Q8 .eql b).bind fun c=>
 Aj c (
 rK a (.sl [] .tight) a) (
 (AY 5 []).bind fun d=>
 bK a (BZ (FG A6 5 72 d b a)) fun e f=>
 rK a e f)
noncomputable def Sh.f26 (e:Aa) (f:LK) (a b c:Ab) (d:Aa):Out:=
 (Ae .none .lss b c).bind fun g=>
 Aj g (
 (At 5 a c).bind fun h=>
 bC (Ac true 5 h d) (fun _=>True) fun i=>
 (At 5 a b).bind fun j=>
 bC (Ac true 5 j d) (fun _=>True) fun k=>
 (At 5 a b).bind fun l=>
 Bk (AF (Ag 5 l i d)) fun _ m=>
 (At 5 a c).bind fun n=>
 bK e (AF (Ag 5 n k m)) fun _ o=>
 (Ae .none .add b (.int .i64 1)).bind fun p=>
 (Ae .none .sub c (.int .i64 1)).bind fun q=>
 f [a,p,q] o) (
 rK e (.tup []) d)
noncomputable def Sh.f1e (a:Ab) (b:Aa):Out:=
 (A5 a).bind fun c=>
 (Ae .none .sub c (.int .i64 1)).bind fun d=>
 Ao (fun e vs H=>Sh.f26 b e (ag vs 0) (ag vs 1) (ag vs 2) H) AQ [a,(.int .i64 0),d] b
noncomputable def Sh.f27 (f g:Ab) (b:Aa):Out:=
 Am (B8 true 2 f b) fun c h=>
 Am (B8 true 2 g h) fun d a=>
 (Ad 0 c).bind fun i=>
 (Ac false 1 i a).bind fun e=>
 gk e true (Ad 0 d) fun j=>
 gk e true (Ac false 1 j a) fun k=>
 (AI e k (.bool false)).bind fun l=>
 Aj l (
 (Ad 1 d).bind fun m=>
 (Ac false 1 m a).bind fun n=>
 (Ad 1 c).bind fun o=>
 (Ac false 1 o a).bind fun p=>
 bP b (Sh.fp n p a) fun q r=>
 rP b q r) (
 (Ad 0 c).bind fun s=>
 (Ac false 1 s a).bind fun t=>
 Aj t (
 rP b (.int .i64 (-1)) a) (
 (Ad 0 d).bind fun u=>
 (Ac false 1 u a).bind fun v=>
 Aj v (
 rP b (.int .i64 1) a) (
 (Ad 1 c).bind fun w=>
 (Ac false 1 w a).bind fun x=>
 (Ad 1 d).bind fun y=>
 (Ac false 1 y a).bind fun z=>
 bP b (Sh.fp x z a) fun aa ab=>
 rP b aa ab)))
noncomputable def Sh.f6p (d:Aa) (h:LK) (b e f c:Ab) (a:Aa):Out:=
 (Ae .none .lss c f).bind fun i=>
 Aj i (
 (At 1 e c).bind fun j=>
 (Ac false 1 j a).bind fun g=>
 (Ae .none .neq g b).bind fun k=>
 Aj k (
 rK d g a) (
 (Ae .none .add c (.int .i64 1)).bind fun l=>
 h [b,e,f,l] a)) (
 rK d b a)
noncomputable def Sh.f3w (a:Ab) (b:Aa):Out:=
 (A5 a).bind fun c=>
 Ao (fun d vs H=>Sh.f6p b d (ag vs 0) (ag vs 1) (ag vs 2) (ag vs 3) H) AQ [(.int .i64 0),a,c,(.int .i64 0)] b
noncomputable def Sh.f1f (j k:Ab) (e:Aa):Out:=
 Am (B8 true 5 j e) fun f l=>
 Am (B8 true 5 k l) fun g a=>
 (Ad 2 f).bind fun m=>
 bC (Ac true 2 m a) (fun _=>True) fun n=>
 (Ad 2 g).bind fun o=>
 bC (Ac true 2 o a) (fun _=>True) fun p=>
 Bk (Sh.f27 n p a) fun q b=>
 (Ad 0 f).bind fun h=>
 bC (Ac true 2 h b) (fun c=>Ac true 2 h a=some c∧True) fun c=>
 (Ad 0 g).bind fun i=>
 bC (Ac true 2 i b) (fun d=>Ac true 2 i a=some d∧True) fun d=>
 Bk (Sh.f27 c d b) fun r s=>
 (AY 1 [q,r]).bind fun t=>
 Bk (Sh.f3w t s) fun u v=>
 rP e u v
noncomputable def AB:Orc:=(ent 144 (ap2 Sh.f1f) noO)
noncomputable def Sh.f3x (j:Aa) (k:LK) (l:LK) (b f h g i c:Ab) (d:Aa):Out:=
 (Ae .none .gtr c f).bind fun a=>
 gk a true (some g) fun m=>
 gk a true (some b) fun n=>
 gk a true (some c) fun o=>
 gk a true (At 5 n o) fun p=>
 gkc a true (Ac true 5 p d) (fun _ _=>True) fun q=>
 gk a true (some b) fun r=>
 gk a true (some c) fun s=>
 gk a true (Ae .none .sub s (.int .i64 1)) fun t=>
 gk a true (At 5 r t) fun u=>
 gkc a true (Ac true 5 u d) (fun _ _=>True) fun v=>
 gbN a true d (D3 AB m [q,v] d) fun w e=>
 gk a true (Ae .none .lss w (.int .i64 0)) fun x=>
 (AI a x (.bool false)).bind fun y=>
 Aj y (
 (Ae .none .sub c (.int .i64 1)).bind fun z=>
 (At 5 b z).bind fun aa=>
 bC (Ac true 5 aa e) (fun _=>True) fun ab=>
 (At 5 b c).bind fun ac=>
 bC (Ac true 5 ac e) (fun _=>True) fun ad=>
 (At 5 b c).bind fun ae=>
 Bk (AF (Ag 5 ae ab e)) fun _ aj=>
 (Ae .none .sub c (.int .i64 1)).bind fun ak=>
 (At 5 b ak).bind fun al=>
 bK j (AF (Ag 5 al ad aj)) fun _ am=>
 (Ae .none .sub c (.int .i64 1)).bind fun an=>
 l [b,f,h,g,i,an] am) (
 (Ae .none .add i (.int .i64 1)).bind fun ap=>
 k [b,f,h,g,ap] e)
noncomputable def Sh.f3y (b:Aa) (e:LK) (f g c h a:Ab) (d:Aa):Out:=
 (Ae .none .lss a c).bind fun i=>
 Aj i (
 Ao (fun j vs H=>Sh.f3x b e j (ag vs 0) (ag vs 1) (ag vs 2) (ag vs 3) (ag vs 4) (ag vs 5) H) AQ [f,g,c,h,a,a] d) (
 rK b (.tup []) d)
noncomputable def Sh.fk (c a d e:Ab) (b:Aa):Out:=
 (Ae .none .add a (.int .i64 1)).bind fun f=>
 Ao (fun g vs H=>Sh.f3y b g (ag vs 0) (ag vs 1) (ag vs 2) (ag vs 3) (ag vs 4) H) AQ [c,a,d,e,f] b
noncomputable def Sh.f3z (f:Aa) (h:LK) (b d e g a:Ab) (c:Aa):Out:=
 (Ae .none .lss a g).bind fun i=>
 Aj i (
 (Ae .none .add d a).bind fun j=>
 (Ae .none .add e a).bind fun k=>
 (At 5 b k).bind fun l=>
 bC (Ac true 5 l c) (fun _=>True) fun m=>
 (Ae .none .add d a).bind fun n=>
 (At 5 b n).bind fun o=>
 bC (Ac true 5 o c) (fun _=>True) fun p=>
 (At 5 b j).bind fun q=>
 Bk (AF (Ag 5 q m c)) fun _ r=>
 (Ae .none .add e a).bind fun s=>
 (At 5 b s).bind fun t=>
 bK f (AF (Ag 5 t p r)) fun _ u=>
 (Ae .none .add a (.int .i64 1)).bind fun v=>
 h [b,d,e,g,v] u) (
 rK f (.tup []) c)
noncomputable def Sh.f1g (b c d e g:Ab) (a:Aa):Out:=
 Ao (fun f vs H=>Sh.f3z a f (ag vs 0) (ag vs 1) (ag vs 2) (ag vs 3) (ag vs 4) H) AQ [b,c,d,e,(.int .i64 0)] a
noncomputable def Sh.f6q (f:Aa) (h:LK) (d b e a c:Ab) (g:Aa):Out:=
 (Ae .none .neq a c).bind fun i=>
 Aj i (
 (Ae .none .gtr a c).bind fun j=>
 Aj j (
 (Ae .none .sub b a).bind fun k=>
 bK f (Sh.f1g d k b c e g) fun u l=>
 (Ae .none .sub a c).bind fun m=>
 h [d,b,e,m,c] l) (
 (Ae .none .sub b a).bind fun n=>
 (Ae .none .add b c).bind fun o=>
 (Ae .none .sub o a).bind fun p=>
 bK f (Sh.f1g d n p a e g) fun v q=>
 (Ae .none .sub c a).bind fun r=>
 h [d,b,e,a,r] q)) (
 (Ae .none .sub b a).bind fun s=>
 bK f (Sh.f1g d s b a e g) fun w t=>
 rK f (.tup []) t)
noncomputable def Sh.f28 (c d a e f:Ab) (b:Aa):Out:=
 (Ae .none .sub a d).bind fun g=>
 (Ae .none .sub e a).bind fun h=>
 Ao (fun i vs H=>Sh.f6q b i (ag vs 0) (ag vs 1) (ag vs 2) (ag vs 3) (ag vs 4) H) AQ [c,a,f,g,h] b
noncomputable def Bf (self:Ab→Ab→Ab→Ab→Ab→Aa→Out):Orc:=ent 228 (ap5 self) (ent 144 (ap2 Sh.f1f) (ent 236 (ap5 Sh.f28) noO))
noncomputable def Sh.f1h (d:Aa) (f:LK) (b e a:Ab) (c:Aa):Out:=
 (Ae .none .sub e (.int .i64 1)).bind fun g=>
 (Ae .none .lss a g).bind fun h=>
 Aj h (
 (Ae .none .add a (.int .i64 1)).bind fun i=>
 (At 5 b i).bind fun j=>
 bC (Ac true 5 j c) (fun _=>True) fun k=>
 (At 5 b a).bind fun l=>
 bC (Ac true 5 l c) (fun _=>True) fun m=>
 (At 5 b a).bind fun n=>
 Bk (AF (Ag 5 n k c)) fun _ o=>
 (Ae .none .add a (.int .i64 1)).bind fun p=>
 (At 5 b p).bind fun q=>
 bK d (AF (Ag 5 q m o)) fun _ r=>
 (Ae .none .add a (.int .i64 1)).bind fun s=>
 f [b,e,s] r) (
 rK d (.tup []) c)
noncomputable def Sh.f1i (j:Aa) (self:Ab→Ab→Ab→Ab→Ab→Aa→Out) (h:LK) (a b e c f:Ab) (d:Aa):Out:=
 (Ae .none .lss c f).bind fun k=>
 Aj k (
 (Ae .none .add c f).bind fun l=>
 (AK .u64 l).bind fun m=>
 (Ae .none .shr m (.int .u64 1)).bind fun n=>
 (AK .i64 n).bind fun g=>
 (At 5 a g).bind fun o=>
 bC (Ac true 5 o d) (fun _=>True) fun p=>
 (At 5 a b).bind fun q=>
 bC (Ac true 5 q d) (fun _=>True) fun r=>
 Bk (D3 (Bf self) e [p,r] d) fun s i=>
 (Ae .none .lss s (.int .i64 0)).bind fun t=>
 Aj t (
 (Ae .none .add g (.int .i64 1)).bind fun u=>
 h [a,b,e,u,f] i) (
 h [a,b,e,c,g] i)) (
 Ao (fun v vs H=>Sh.f1h j v (ag vs 0) (ag vs 1) (ag vs 2) H) AQ [a,c,b] d)
noncomputable def Sh.f1j (d:Aa) (f:LK) (b e a:Ab) (c:Aa):Out:=
 (Ae .none .gtr a e).bind fun g=>
 Aj g (
 (Ae .none .sub a (.int .i64 1)).bind fun h=>
 (At 5 b h).bind fun i=>
 bC (Ac true 5 i c) (fun _=>True) fun j=>
 (At 5 b a).bind fun k=>
 bC (Ac true 5 k c) (fun _=>True) fun l=>
 (At 5 b a).bind fun m=>
 Bk (AF (Ag 5 m j c)) fun _ n=>
 (Ae .none .sub a (.int .i64 1)).bind fun o=>
 (At 5 b o).bind fun p=>
 bK d (AF (Ag 5 p l n)) fun _ q=>
 (Ae .none .sub a (.int .i64 1)).bind fun r=>
 f [b,e,r] q) (
 rK d (.tup []) c)
noncomputable def Sh.f1k (j:Aa) (self:Ab→Ab→Ab→Ab→Ab→Aa→Out) (h:LK) (a b e c f:Ab) (d:Aa):Out:=
 (Ae .none .lss c f).bind fun k=>
 Aj k (
 (Ae .none .add c f).bind fun l=>
 (AK .u64 l).bind fun m=>
 (Ae .none .shr m (.int .u64 1)).bind fun n=>
 (AK .i64 n).bind fun g=>
 (At 5 a b).bind fun o=>
 bC (Ac true 5 o d) (fun _=>True) fun p=>
 (At 5 a g).bind fun q=>
 bC (Ac true 5 q d) (fun _=>True) fun r=>
 Bk (D3 (Bf self) e [p,r] d) fun s i=>
 (Ae .none .lss s (.int .i64 0)).bind fun t=>
 (unA .not t).bind fun u=>
 Aj u (
 (Ae .none .add g (.int .i64 1)).bind fun v=>
 h [a,b,e,v,f] i) (
 h [a,b,e,c,g] i)) (
 Ao (fun w vs H=>Sh.f1j j w (ag vs 0) (ag vs 1) (ag vs 2) H) AQ [a,c,b] d)
noncomputable def Sh.f40 (b:Aa) (self:Ab→Ab→Ab→Ab→Ab→Aa→Out) (g d h e c:Ab) (f:Aa):Out:=
 (Ae .none .lss e c).bind fun a=>
 gk a true (some c) fun i=>
 gk a true (some d) fun j=>
 gk a true (Ae .none .lss i j) fun k=>
 (AI a k (.bool false)).bind fun l=>
 Aj l (
 bK b (self g e c d h f) fun n m=>
 rK b (.tup []) m) (
 rK b (.tup []) f)
noncomputable def Sh.f41 (f:Aa) (self:Ab→Ab→Ab→Ab→Ab→Aa→Out) (c g h d a e i:Ab) (j:Aa):Out:=
 AN (fun j8=>
 (Ae .none .lss g e).bind fun b=>
 gk b true (some e) fun k=>
 gk b true (some a) fun l=>
 gk b true (Ae .none .lss k l) fun m=>
 (AI b m (.bool false)).bind fun n=>
 Aj n (
 bK f (self c g e a d j) fun p o=>
 j8 [c,h,d,a,i] o) (
 j8 [c,h,d,a,i] j)) (fun vs H=>Sh.f40 f self (ag vs 0) (ag vs 1) (ag vs 2) (ag vs 3) (ag vs 4) H)
noncomputable def Sh.fe (o:Aa) (self:Ab→Ab→Ab→Ab→Ab→Aa→Out) (p:LK) (b f d g c h l a m n:Ab) (e:Aa):Out:=
 (Ae .none .lss a m).bind fun r=>
 Aj r (
 (Ae .none .add a m).bind fun s=>
 (AK .u64 s).bind fun t=>
 (Ae .none .shr t (.int .u64 1)).bind fun u=>
 (AK .i64 u).bind fun i=>
 (Ae .none .sub n i).bind fun v=>
 (At 5 b v).bind fun w=>
 bC (Ac true 5 w e) (fun _=>True) fun x=>
 (At 5 b i).bind fun y=>
 bC (Ac true 5 y e) (fun _=>True) fun z=>
 Bk (D3 (Bf self) c [x,z] e) fun aa q=>
 (Ae .none .lss aa (.int .i64 0)).bind fun ab=>
 (unA .not ab).bind fun ac=>
 Aj ac (
 (Ae .none .add i (.int .i64 1)).bind fun ad=>
 p [b,f,d,g,c,h,l,ad,m,n] q) (
 p [b,f,d,g,c,h,l,a,i,n] q)) (
 (Ae .none .sub l a).bind fun j=>
 AN (fun j7=>
 (Ae .none .lss a d).bind fun k=>
 gk k true (some d) fun ae=>
 gk k true (some j) fun aj=>
 gk k true (Ae .none .lss ae aj) fun ak=>
 (AI k ak (.bool false)).bind fun al=>
 Aj al (
 bK o (Sh.f28 b a d j c e) fun an am=>
 j7 [b,f,g,c,h,a,j] am) (
 j7 [b,f,g,c,h,a,j] e)) (fun vs H=>Sh.f41 o self (ag vs 0) (ag vs 1) (ag vs 2) (ag vs 3) (ag vs 4) (ag vs 5) (ag vs 6) H))
noncomputable def Sh.f6r (b:Aa) (self:Ab→Ab→Ab→Ab→Ab→Aa→Out) (c d e f g h a i j:Ab) (k:Aa):Out:=
 (Ae .none .sub a (.int .i64 1)).bind fun l=>
 Ao (fun m vs H=>Sh.fe b self m (ag vs 0) (ag vs 1) (ag vs 2) (ag vs 3) (ag vs 4) (ag vs 5) (ag vs 6) (ag vs 7) (ag vs 8) (ag vs 9) H) AQ [c,d,e,f,g,h,a,i,j,l] k
noncomputable def Sh.f6s (self:Ab→Ab→Ab→Ab→Ab→Aa→Out) (f b a d g:Ab) (c:Aa):Out:=
 (Ae .none .sub a b).bind fun i=>
 (Ae .none .eql i (.int .i64 1)).bind fun j=>
 Aj j (
 Ao (fun k vs H=>Sh.f1i c self k (ag vs 0) (ag vs 1) (ag vs 2) (ag vs 3) (ag vs 4) H) AQ [f,b,g,a,d] c) (
 (Ae .none .sub d a).bind fun l=>
 (Ae .none .eql l (.int .i64 1)).bind fun m=>
 Aj m (
 Ao (fun n vs H=>Sh.f1k c self n (ag vs 0) (ag vs 1) (ag vs 2) (ag vs 3) (ag vs 4) H) AQ [f,a,g,b,a] c) (
 (Ae .none .add b d).bind fun o=>
 (AK .u64 o).bind fun p=>
 (Ae .none .shr p (.int .u64 1)).bind fun q=>
 (AK .i64 q).bind fun e=>
 (Ae .none .add e a).bind fun h=>
 AN (fun j5=>
 (Ae .none .gtr a e).bind fun r=>
 Aj r (
 (Ae .none .sub h d).bind fun s=>
 j5 [f,b,a,d,g,e,h,s,e] c) (
 j5 [f,b,a,d,g,e,h,b,a] c)) (fun vs H=>Sh.f6r c self (ag vs 0) (ag vs 1) (ag vs 2) (ag vs 3) (ag vs 4) (ag vs 5) (ag vs 6) (ag vs 7) (ag vs 8) H)))
noncomputable def Sh.f3:Nat→Ab→Ab→Ab→Ab→Ab→Aa→Out
 | 0=>fun _ _ _ _ _ _=>none
 | d+1=>Sh.f6s (Sh.f3 d)
noncomputable def Sh.f6t (h:Aa) (a:LK) (b c d e:Ab) (f:Aa):Out:=
 (Ae .none .mul e (.int .i64 2)).bind fun g=>
 a [b,c,d,g] f
noncomputable def Sh.f1l (g:Aa) (j:LK) (k:LK) (c a d b e f:Ab) (h:Aa):Out:=
 (Ae .none .leq f a).bind fun l=>
 Aj l (
 (Ae .none .add e b).bind fun m=>
 bK g (Sh.f3 AQ c e m f d h) fun s n=>
 (Ae .none .mul (.int .i64 2) b).bind fun o=>
 (Ae .none .add f o).bind fun p=>
 k [c,a,d,b,f,p] n) (
 AN (fun j4=>
 (Ae .none .add e b).bind fun i=>
 (Ae .none .lss i a).bind fun q=>
 Aj q (
 bK g (Sh.f3 AQ c e i a d h) fun t r=>
 j4 [c,a,d,b] r) (
 j4 [c,a,d,b] h)) (fun vs H=>Sh.f6t g j (ag vs 0) (ag vs 1) (ag vs 2) (ag vs 3) H))
noncomputable def Sh.f13 (b:Aa) (e:LK) (f c g a:Ab) (d:Aa):Out:=
 (Ae .none .lss a c).bind fun h=>
 Aj h (
 (Ae .none .mul (.int .i64 2) a).bind fun i=>
 Ao (fun j vs H=>Sh.f1l b e j (ag vs 0) (ag vs 1) (ag vs 2) (ag vs 3) (ag vs 4) (ag vs 5) H) AQ [f,c,g,a,(.int .i64 0),i] d) (
 rK b (.tup []) d)
noncomputable def Sh.f29 (e:Aa) (i:LK) (a b c f g d:Ab) (h:Aa):Out:=
 (Ae .none .leq d b).bind fun j=>
 Aj j (
 bK e (Sh.fk a g d c h) fun o k=>
 (Ae .none .add d f).bind fun l=>
 i [a,b,c,f,d,l] k) (
 bK e (Sh.fk a g b c h) fun p m=>
 Ao (fun n vs H=>Sh.f13 e n (ag vs 0) (ag vs 1) (ag vs 2) (ag vs 3) H) AQ [a,b,c,f] m)
noncomputable def Sh.f1m (b c d:Ab) (a:Aa):Out:=
 Ao (fun e vs H=>Sh.f29 a e (ag vs 0) (ag vs 1) (ag vs 2) (ag vs 3) (ag vs 4) (ag vs 5) H) AQ [b,c,d,(.int .i64 20),(.int .i64 0),(.int .i64 20)] a
noncomputable def Sh.f1n (b c:Ab) (a:Aa):Out:=
 (A5 b).bind fun d=>
 bK a (Sh.f1m b d c a) fun f e=>
 rK a (.tup []) e
noncomputable def Sh.f42 (c d:Ab) (a:Aa):Out:=
 Am (B8 true 5 c a) fun e f=>
 Am (B8 true 5 d f) fun g b=>
 (Ac true 5 e b).bind fun h=>
 (Ac true 5 g b).bind fun i=>
 bP a (Sh.f1f h i b) fun j k=>
 (Ae .none .eql j (.int .i64 0)).bind fun l=>
 rP a l k
noncomputable def AL:Orc:=(ent 146 (ap2 Sh.f42) noO)
noncomputable def Sh.f6u (i:Aa) (a:LK) (b c d e f:Ab) (g:Aa):Out:=
 (Ae .none .add f (.int .i64 1)).bind fun h=>
 a [b,c,d,e,h] g
noncomputable def Sh.f1o (e:Aa) (i:LK) (c g d a b:Ab) (f:Aa):Out:=
 (A5 a).bind fun j=>
 (Ae .none .lss b j).bind fun k=>
 Aj k (
 AN (fun j3=>
 (At 5 a b).bind fun l=>
 bC (Ac true 5 l f) (fun _=>True) fun m=>
 (Ae .none .sub b (.int .i64 1)).bind fun n=>
 (At 5 a n).bind fun o=>
 bC (Ac true 5 o f) (fun _=>True) fun p=>
 Bk (D3 AL g [m,p] f) fun q h=>
 (unA .not q).bind fun r=>
 Aj r (
 (At 5 a b).bind fun s=>
 (Ac true 5 s h).bind fun t=>
 (At 5 c d).bind fun u=>
 bK e (AF (Ag 5 u t h)) fun _ v=>
 (Ae .none .add d (.int .i64 1)).bind fun w=>
 j3 [c,g,w,a,b] v) (
 j3 [c,g,d,a,b] h)) (fun vs H=>Sh.f6u e i (ag vs 0) (ag vs 1) (ag vs 2) (ag vs 3) (ag vs 4) H)) (
 (Bv 5 c (some d) none none).bind fun x=>
 bK e (AF (Kx 5 (some [(.bool false),(.sl [] .tight),(.bool false),(.sl [] .tight),(.int .u8 0)]) x f)) fun _ y=>
 (Bv 5 c none (some d) none).bind fun z=>
 rKN e z y)
noncomputable def Sh.f2a (d:Aa) (g:LK) (a e b:Ab) (c:Aa):Out:=
 (A5 a).bind fun h=>
 (Ae .none .lss b h).bind fun i=>
 Aj i (
 (At 5 a b).bind fun j=>
 bC (Ac true 5 j c) (fun _=>True) fun k=>
 (Ae .none .sub b (.int .i64 1)).bind fun l=>
 (At 5 a l).bind fun m=>
 bC (Ac true 5 m c) (fun _=>True) fun n=>
 bK d (D3 AL e [k,n] c) fun o f=>
 Aj o (
 (Bv 5 a (some b) none none).bind fun p=>
 Ao (fun q vs H=>Sh.f1o d q (ag vs 0) (ag vs 1) (ag vs 2) (ag vs 3) (ag vs 4) H) AQ [a,e,b,p,(.int .i64 1)] f) (
 (Ae .none .add b (.int .i64 1)).bind fun r=>
 g [a,e,r] f)) (
 rKN d a c)
noncomputable def Sh.f14 (b c:Ab) (a:Aa):Out:=
 (A5 b).bind fun d=>
 (Ae .none .lss d (.int .i64 2)).bind fun e=>
 Aj e (
 rKN a b a) (
 Ao (fun f vs H=>Sh.f2a a f (ag vs 0) (ag vs 1) (ag vs 2) H) AQ [b,c,(.int .i64 1)] a)
noncomputable def Bd:Orc:=(ent 139 (ap2 Sh.fa) (ent 148 (ap1 Sh.f24) noO))
noncomputable def Sh.f6v (h:Aa) (a:LK) (b c d e:Ab) (f:Aa):Out:=
 (Ae .none .add e (.int .i64 1)).bind fun g=>
 a [b,c,d,g] f
noncomputable def Sh.f2b (b:Aa) (j:LK) (a e c d:Ab) (f:Aa):Out:=
 (A5 a).bind fun k=>
 (Ae .none .lss d k).bind fun l=>
 Aj l (
 AN (fun j2=>
 (At 5 a d).bind fun m=>
 (Ac true 5 m f).bind fun n=>
 Am (Az (some [(.bool false),(.sl [] .tight),(.bool false),(.sl [] .tight),(.int .u8 0)]) f) fun g o=>
 bK b (AF (Ag 5 g n o)) fun _ i=>
 (Ac true 5 g i).bind fun p=>
 bK b (D3 Bd e [p] i) fun q h=>
 (unA .not q).bind fun r=>
 Aj r (
 (Ac true 5 g h).bind fun s=>
 (At 5 a c).bind fun t=>
 bK b (AF (Ag 5 t s h)) fun _ u=>
 (Ae .none .add c (.int .i64 1)).bind fun v=>
 j2 [a,e,v,d] u) (
 j2 [a,e,c,d] h)) (fun vs H=>Sh.f6v b j (ag vs 0) (ag vs 1) (ag vs 2) (ag vs 3) H)) (
 (Bv 5 a (some c) none none).bind fun w=>
 bK b (AF (Kx 5 (some [(.bool false),(.sl [] .tight),(.bool false),(.sl [] .tight),(.int .u8 0)]) w f)) fun _ x=>
 (Bv 5 a none (some c) none).bind fun y=>
 rKN b y x)
noncomputable def Sh.f15 (b d:Ab) (a:Aa):Out:=
 bK a (Sh.fa b d a) fun c e=>
 (Ae .none .eql c (.int .i64 (-1))).bind fun f=>
 Aj f (
 rKN a b e) (
 (Ae .none .add c (.int .i64 1)).bind fun g=>
 Ao (fun h vs H=>Sh.f2b a h (ag vs 0) (ag vs 1) (ag vs 2) (ag vs 3) H) AQ [b,d,c,g] e)
noncomputable def Sh.f43 (c:Ab) (a:Aa):Out:=
 bP a (Sh.f3v c a) fun b d=>
 bP a (Sh.f1e b d) fun k e=>
 bP a (Sh.f1n b (.fn 144 []) e) fun l f=>
 bP a (Sh.f14 b (.fn 146 []) f) fun g h=>
 bP a (Sh.f15 g (.fn 148 []) h) fun i j=>
 rPN a i j
noncomputable def Sh.fb (a c:Ab) (b:Aa):Out:=
 Am (Az (some [(.bool false),(.sl [] .tight)]) b) fun d f=>
 gk a true (some c) fun g=>
 gk a true (A5 g) fun h=>
 gk a true (Ae .none .gtr h (.int .i64 0)) fun i=>
 (AI a i (.bool false)).bind fun j=>
 (AD (some [(.bool false),(.sl [] .tight)]) [(0,1,j),(1,1,c)]).bind fun k=>
 bP b (AF (Ag 2 d k f)) fun _ e=>
 (Ac true 2 d e).bind fun l=>rPN b l e
noncomputable def Sh.f2c (f:Ab) (a:Aa):Out:=
 Am (B8 true 2 f a) fun c g=>
 Am (Az (some [(.bool false),(.sl [] .tight)]) g) fun d b=>
 (Ad 0 c).bind fun h=>
 (Ac false 1 h b).bind fun i=>
 (unA .not i).bind fun j=>
 (Ad 1 c).bind fun k=>
 (Ac false 1 k b).bind fun l=>
 bP a (Sh.fb j l b) fun m n=>
 bP a (AF (Ag 2 d m n)) fun _ e=>
 (Ac true 2 d e).bind fun o=>rPN a o e
noncomputable def Sh.f2d (b:Ab) (a:Aa):Out:=
 (Q8 .eql b).bind fun c=>
 Aj c (
 rK a (.sl [] .tight) a) (
 (AY 1 []).bind fun d=>
 bK a (BZ (FG BX 1 4 d b a)) fun e f=>
 rK a e f)
noncomputable def Sh.f44 (b:Ab) (a:Aa):Out:=
 bP a (Sh.f2d b a) fun c d=>
 bP a (Sh.f1 c d) fun e f=>
 rPN a e f
noncomputable def Sh.f6w (a:Aa) (e b c:Ab) (f:Aa):Out:=
 (Ae .none .lss e (.int .i64 0)).bind fun g=>
 (AK .u32 c).bind fun h=>
 (Ae .none .shr c (.int .u64 32)).bind fun i=>
 (AK .u32 i).bind fun j=>
 (AY 1 [h,j]).bind fun k=>
 bP a (Sh.f44 k f) fun l m=>
 bP a (Sh.fb g l m) fun n o=>
 bP a (AF (Ag 2 b n o)) fun _ d=>
 (Ac true 2 b d).bind fun p=>rPN a p d
noncomputable def Sh.f2e (a:Ab) (b:Aa):Out:=
 Am (Az (some [(.bool false),(.sl [] .tight)]) b) fun c d=>
 (AK .u64 a).bind fun e=>
 AN (fun j1=>
 (Ae .none .lss a (.int .i64 0)).bind fun f=>
 Aj f (
 (unA .neg e).bind fun g=>
 j1 [a,c,g] d) (
 j1 [a,c,e] d)) (fun vs H=>Sh.f6w b (ag vs 0) (ag vs 1) (ag vs 2) H)
noncomputable def Sh.f45 (c d e:Ab) (a:Aa):Out:=
 (AK .u64 c).bind fun f=>
 (AK .u64 d).bind fun g=>
 (Ae .none .add f g).bind fun h=>
 (AK .u64 e).bind fun i=>
 (Ae .none .add h i).bind fun b=>
 (AK .u32 b).bind fun j=>
 (Ae .none .shr b (.int .u64 32)).bind fun k=>
 (AK .u32 k).bind fun l=>
 rK a (.tup [j,l]) a
noncomputable def Sh.f7i (a:Aa) (d:LK) (e f b g h i j k l m:Ab) (n:Aa):Out:=
 bP a (Sh.f45 i j g n) fun c o=>
 (Av 0 c).bind fun p=>
 (Av 1 c).bind fun q=>
 (At 1 b h).bind fun r=>
 bP a (AF (Ag 1 r p o)) fun _ s=>
 (Ae .none .add m (.int .i64 1)).bind fun t=>
 d [e,f,b,q,k,l,t] s
noncomputable def Sh.f46 (c:Aa) (k:LK) (f d e g h i a:Ab) (b:Aa):Out:=
 (Ae .none .lss a i).bind fun l=>
 Aj l (
 (At 1 h a).bind fun m=>
 (Ac false 1 m b).bind fun j=>
 AN (fun j3=>
 (A5 d).bind fun n=>
 (Ae .none .lss a n).bind fun o=>
 Aj o (
 (At 1 d a).bind fun p=>
 (Ac false 1 p b).bind fun q=>
 j3 [f,d,e,g,a,j,q,h,i,a] b) (
 j3 [f,d,e,g,a,j,(.int .u32 0),h,i,a] b)) (fun vs H=>Sh.f7i c k (ag vs 0) (ag vs 1) (ag vs 2) (ag vs 3) (ag vs 4) (ag vs 5) (ag vs 6) (ag vs 7) (ag vs 8) (ag vs 9) H)) (
 (A5 f).bind fun r=>
 (At 1 e r).bind fun s=>
 bP c (AF (Ag 1 s g b)) fun _ t=>
 bP c (Sh.f1 e t) fun u v=>
 rPN c u v)
noncomputable def Sh.f6x (c:Aa) (a d:Ab) (e:Aa):Out:=
 (A5 a).bind fun f=>
 (Ae .none .add f (.int .i64 1)).bind fun b=>
 Am (Fi 1 4 (some [(.int .u32 0)]) b b e) fun g h=>
 (A5 a).bind fun i=>
 Ao (fun j vs H=>Sh.f46 c j (ag vs 0) (ag vs 1) (ag vs 2) (ag vs 3) (ag vs 4) (ag vs 5) (ag vs 6) H) AQ [a,d,g,(.int .u32 0),a,i,(.int .i64 0)] h
noncomputable def Sh.f47 (a b:Ab) (c:Aa):Out:=
 AN (fun j1=>
 (A5 a).bind fun d=>
 (A5 b).bind fun e=>
 (Ae .none .lss d e).bind fun f=>
 Aj f (
 j1 [b,a] c) (
 j1 [a,b] c)) (fun vs H=>Sh.f6x c (ag vs 0) (ag vs 1) H)
noncomputable def Sh.f2f (a b e:Ab) (c:Aa):Out:=
 (Ae .none .sub a b).bind fun f=>
 (Ae .none .sub f e).bind fun d=>
 (unA .xor a).bind fun g=>
 (Ae .none .and g b).bind fun h=>
 (Ae .none .xor a b).bind fun i=>
 (unA .xor i).bind fun j=>
 (Ae .none .and j d).bind fun k=>
 (Ae .none .or h k).bind fun l=>
 (Ae .none .shr l (.int .u64 31)).bind fun m=>
 rK c (.tup [d,m]) c
noncomputable def Sh.f7j (b:Aa) (f:LK) (g a h c i j k:Ab) (d:Aa):Out:=
 (At 1 a c).bind fun l=>
 (Ac false 1 l d).bind fun m=>
 bP b (Sh.f2f m i h d) fun e n=>
 (Av 0 e).bind fun o=>
 (Av 1 e).bind fun p=>
 (At 1 a c).bind fun q=>
 bP b (AF (Ag 1 q o n)) fun _ r=>
 (Ae .none .add k (.int .i64 1)).bind fun s=>
 f [g,a,p,j,s] r
noncomputable def Sh.f2g (d:Aa) (h:LK) (b e g f a:Ab) (c:Aa):Out:=
 (Ae .none .lss a f).bind fun i=>
 Aj i (
 AN (fun j2=>
 (A5 b).bind fun j=>
 (Ae .none .lss a j).bind fun k=>
 Aj k (
 (At 1 b a).bind fun l=>
 (Ac false 1 l c).bind fun m=>
 j2 [b,e,g,a,m,f,a] c) (
 j2 [b,e,g,a,(.int .u32 0),f,a] c)) (fun vs H=>Sh.f7j d h (ag vs 0) (ag vs 1) (ag vs 2) (ag vs 3) (ag vs 4) (ag vs 5) (ag vs 6) H)) (
 bP d (Sh.f1 e c) fun n o=>
 rPN d (.tup [n,(.bool true)]) o)
noncomputable def Sh.f48 (b c:Ab) (a:Aa):Out:=
 bP a (Sh.fp b c a) fun f d=>
 (Ae .none .lss f (.int .i64 0)).bind fun g=>
 Aj g (
 rPN a (.tup [(.sl [] .tight),(.bool false)]) d) (
 bP a (Sh.f2d b d) fun e h=>
 (A5 e).bind fun i=>
 Ao (fun j vs H=>Sh.f2g a j (ag vs 0) (ag vs 1) (ag vs 2) (ag vs 3) (ag vs 4) H) AQ [c,e,(.int .u32 0),i,(.int .i64 0)] h)
noncomputable def Sh.f6y (a:Aa) (c h d:Ab) (b:Aa):Out:=
 (Ad 1 c).bind fun i=>
 (Ac false 1 i b).bind fun j=>
 (Ad 1 h).bind fun k=>
 (Ac false 1 k b).bind fun l=>
 bP a (Sh.f48 j l b) fun e f=>
 (Av 0 e).bind fun m=>
 (Av 1 e).bind fun s=>
 (Ad 0 c).bind fun n=>
 (Ac false 1 n f).bind fun o=>
 bP a (Sh.fb o m f) fun p q=>
 bP a (AF (Ag 2 d p q)) fun _ g=>
 (Ac true 2 d g).bind fun r=>rPN a r g
noncomputable def Sh.f1p (k l:Ab) (c:Aa):Out:=
 Am (B8 true 2 k c) fun b m=>
 Am (B8 true 2 l m) fun d n=>
 Am (Az (some [(.bool false),(.sl [] .tight)]) n) fun e a=>
 (Ad 0 b).bind fun o=>
 (Ac false 1 o a).bind fun p=>
 (Ad 0 d).bind fun q=>
 (Ac false 1 q a).bind fun r=>
 (Ae .bool .eql p r).bind fun s=>
 Aj s (
 (Ad 1 b).bind fun t=>
 bC (Ac false 1 t a) (fun _=>True) fun u=>
 (Ad 1 d).bind fun v=>
 bC (Ac false 1 v a) (fun _=>True) fun w=>
 Bk (Sh.f47 u w a) fun x h=>
 (Ad 0 b).bind fun i=>
 bC (Ac false 1 i h) (fun g=>Ac false 1 i a=some g∧True) fun g=>
 Bk (Sh.fb g x h) fun y z=>
 bP c (AF (Ag 2 e y z)) fun _ j=>
 (Ac true 2 e j).bind fun aa=>rPN c aa j) (
 AN (fun j1=>
 (Ad 1 b).bind fun ab=>
 (Ac false 1 ab a).bind fun ac=>
 (Ad 1 d).bind fun ad=>
 (Ac false 1 ad a).bind fun ae=>
 bP c (Sh.fp ac ae a) fun aj f=>
 (Ae .none .lss aj (.int .i64 0)).bind fun ak=>
 Aj ak (
 (Ac true 2 d f).bind fun al=>
 (Ac true 2 b f).bind fun am=>
 bP c (AF (Ag 2 b al f)) fun _ an=>
 bP c (AF (Ag 2 d am an)) fun _ ap=>
 j1 [b,d,e] ap) (
 j1 [b,d,e] f)) (fun vs H=>Sh.f6y c (ag vs 0) (ag vs 1) (ag vs 2) H))
noncomputable def Sh.f49 (h i:Ab) (a:Aa):Out:=
 Am (B8 true 2 h a) fun d j=>
 Am (B8 true 2 i j) fun k l=>
 Am (Az (some [(.bool false),(.sl [] .tight)]) l) fun e b=>
 bC (Ac true 2 k b) (fun _=>True) fun m=>
 Bk (Sh.f2c m b) fun n f=>
 bC (Ac true 2 d f) (fun c=>Ac true 2 d b=some c∧True) fun c=>
 Bk (Sh.f1p c n f) fun o p=>
 bP a (AF (Ag 2 e o p)) fun _ g=>
 (Ac true 2 e g).bind fun q=>rPN a q g
noncomputable def Sh.f6z (a:Aa) (b c:Ab) (d:Aa):Out:=
 (AK .u8 b).bind fun e=>
 (Ez (.str [0,1,2,2,3,3,3,3,4,4,4,4,4,4,4,4,5,5,5,5,5,5,5,5,5,5,5,5,5,5,5,5,6,6,6,6,6,6,6,6,6,6,6,6,6,6,6,6,6,6,6,6,6,6,6,6,6,6,6,6,6,6,6,6,7,7,7,7,7,7,7,7,7,7,7,7,7,7,7,7,7,7,7,7,7,7,7,7,7,7,7,7,7,7,7,7,7,7,7,7,7,7,7,7,7,7,7,7,7,7,7,7,7,7,7,7,7,7,7,7,7,7,7,7,7,7,7,7,8,8,8,8,8,8,8,8,8,8,8,8,8,8,8,8,8,8,8,8,8,8,8,8,8,8,8,8,8,8,8,8,8,8,8,8,8,8,8,8,8,8,8,8,8,8,8,8,8,8,8,8,8,8,8,8,8,8,8,8,8,8,8,8,8,8,8,8,8,8,8,8,8,8,8,8,8,8,8,8,8,8,8,8,8,8,8,8,8,8,8,8,8,8,8,8,8,8,8,8,8,8,8,8,8,8,8,8,8,8,8,8,8,8,8,8,8,8,8,8,8,8,8,8,8,8,8,8]) e).bind fun f=>
 (AK .i64 f).bind fun g=>
 (Ae .none .add c g).bind fun h=>
 rK a h d
noncomputable def Sh.f70 (d:Aa) (a b:Ab) (c:Aa):Out:=
 AN (fun j2=>
 (Ae .none .geq a (.int .u32 256)).bind fun e=>
 Aj e (
 (Ae .none .shr a (.int .u64 8)).bind fun f=>
 (Ae .none .add b (.int .i64 8)).bind fun g=>
 j2 [f,g] c) (
 j2 [a,b] c)) (fun vs H=>Sh.f6z d (ag vs 0) (ag vs 1) H)
noncomputable def Sh.f4a (a:Ab) (b:Aa):Out:=
 AN (fun j1=>
 (Ae .none .geq a (.int .u32 65536)).bind fun c=>
 Aj c (
 (Ae .none .shr a (.int .u64 16)).bind fun d=>
 j1 [d,(.int .i64 16)] b) (
 j1 [a,(.int .i64 0)] b)) (fun vs H=>Sh.f70 b (ag vs 0) (ag vs 1) H)
noncomputable def Sh.f4b (d:Ab) (a:Aa):Out:=
 bK a (Sh.f1 d a) fun b c=>
 (A5 b).bind fun e=>
 (Ae .none .eql e (.int .i64 0)).bind fun f=>
 Aj f (
 rK a (.int .i64 0) c) (
 (A5 b).bind fun g=>
 (Ae .none .sub g (.int .i64 1)).bind fun h=>
 (Ae .none .mul h (.int .i64 32)).bind fun i=>
 (A5 b).bind fun j=>
 (Ae .none .sub j (.int .i64 1)).bind fun k=>
 (At 1 b k).bind fun l=>
 (Ac false 1 l c).bind fun m=>
 bK a (Sh.f4a m c) fun n o=>
 (Ae .none .add i n).bind fun p=>
 rK a p o)
noncomputable def Sh.f7k (a:Aa) (c:Ab) (b:Aa):Out:=
 (Ad 1 c).bind fun d=>
 (Ac false 1 d b).bind fun e=>
 bP a (Sh.f4b e b) fun f g=>
 (Ae .none .add (.int .i64 1) f).bind fun h=>
 rP a h g
noncomputable def Sh.f2h (d:Ab) (a:Aa):Out:=
 Am (B8 true 2 d a) fun b c=>
 AN (fun j1=>
 (Ad 0 b).bind fun e=>
 (Ac false 1 e c).bind fun f=>
 Aj f (
 (Ac true 2 b c).bind fun g=>
 bP a (Sh.f2c g c) fun h i=>
 bP a (Sh.f2e (.int .i64 1) i) fun j k=>
 bP a (Sh.f49 h j k) fun l m=>
 bP a (AF (Ag 2 b l m)) fun _ n=>
 j1 [b] n) (
 j1 [b] c)) (fun vs H=>Sh.f7k a (ag vs 0) H)
noncomputable def Sh.f4c (b:Ab) (c:Aa):Out:=
 (Ae .none .geq b (.int .i64 0)).bind fun a=>
 gk a true (some b) fun d=>
 gk a true (Ae .none .leq d (.int .i64 10000)) fun e=>
 (AI a e (.bool false)).bind fun f=>
 rK c f c
noncomputable def Sh.f4d (b:Aa) (l:LK) (c a g h d:Ab) (e:Aa):Out:=
 (Ae .none .lss d h).bind fun m=>
 Aj m (
 (At 1 g d).bind fun n=>
 (Ac false 1 n e).bind fun i=>
 (Ae .none .quo c (.int .i64 32)).bind fun o=>
 (Ae .none .add d o).bind fun f=>
 (At 1 a f).bind fun p=>
 bC (Ac false 1 p e) (fun _=>True) fun q=>
 (Ae .none .rem c (.int .i64 32)).bind fun r=>
 (Ae .none .shl i r).bind fun s=>
 (Ae .none .or q s).bind fun t=>
 (At 1 a f).bind fun u=>
 bP b (AF (Ag 1 u t e)) fun _ j=>
 (Ae .none .add f (.int .i64 1)).bind fun k=>
 (At 1 a k).bind fun v=>
 bC (Ac false 1 v j) (fun _=>True) fun w=>
 bC (AK .u64 i) (fun _=>True) fun x=>
 (Ae .none .rem c (.int .i64 32)).bind fun y=>
 (Ae .none .shl x y).bind fun z=>
 (Ae .none .shr z (.int .u64 32)).bind fun aa=>
 bC (AK .u32 aa) (fun _=>True) fun ab=>
 (Ae .none .or w ab).bind fun ac=>
 (At 1 a k).bind fun ad=>
 bP b (AF (Ag 1 ad ac j)) fun _ ae=>
 (Ae .none .add d (.int .i64 1)).bind fun aj=>
 l [c,a,g,h,aj] ae) (
 bP b (Sh.f1 a e) fun ak al=>
 rPN b ak al)
noncomputable def Sh.f4e (b c:Ab) (a:Aa):Out:=
 bP a (Sh.f4c c a) fun f d=>
 (unA .not f).bind fun g=>
 Aj g (
 rPN a (.sl [] .tight) d) (
 (A5 b).bind fun h=>
 (Ae .none .quo c (.int .i64 32)).bind fun i=>
 (Ae .none .add h i).bind fun j=>
 (Ae .none .add j (.int .i64 1)).bind fun e=>
 Am (Fi 1 4 (some [(.int .u32 0)]) e e d) fun k l=>
 (A5 b).bind fun m=>
 Ao (fun n vs H=>Sh.f4d a n (ag vs 0) (ag vs 1) (ag vs 2) (ag vs 3) (ag vs 4) H) AQ [c,k,b,m,(.int .i64 0)] l)
noncomputable def Sh.f4f (d:Ab) (a:Aa):Out:=
 Am (Az (some [(.bool false),(.sl [] .tight)]) a) fun b e=>
 (AY 1 [(.int .u32 1)]).bind fun f=>
 bP a (Sh.f4e f d e) fun g h=>
 bP a (Sh.fb (.bool false) g h) fun i j=>
 bP a (AF (Ag 2 b i j)) fun _ c=>
 (Ac true 2 b c).bind fun k=>rPN a k c
noncomputable def Sh.f1q (e c:Ab) (d:Aa):Out:=
 (Ae .none .geq c (.int .i64 0)).bind fun b=>
 gk b true (some c) fun f=>
 gk b true (Ae .none .quo f (.int .i64 32)) fun g=>
 gk b true (some e) fun h=>
 gk b true (A5 h) fun i=>
 gk b true (Ae .none .lss g i) fun j=>
 (AI b j (.bool false)).bind fun a=>
 gk a true (some e) fun k=>
 gk a true (some c) fun l=>
 gk a true (Ae .none .quo l (.int .i64 32)) fun m=>
 gk a true (At 1 k m) fun n=>
 gk a true (Ac false 1 n d) fun o=>
 gk a true (some c) fun p=>
 gk a true (Ae .none .rem p (.int .i64 32)) fun q=>
 gk a true (Ae .none .shr o q) fun r=>
 gk a true (Ae .none .and r (.int .u32 1)) fun s=>
 gk a true (Ae .none .eql s (.int .u32 1)) fun t=>
 (AI a t (.bool false)).bind fun u=>
 rK d u d
noncomputable def Sh.f7l (d:Aa) (e:LK) (f g a h c i j k:Ab) (b:Aa):Out:=
 (BP 4 1 a c).bind fun l=>
 bC (Ac false 1 l b) (fun _=>True) fun m=>
 bC (Ac true 3 h b) (fun _=>True) fun n=>
 (AY 3 [n]).bind fun o=>
 Bk (BZ (AW BK 3 56 m o b)) fun p q=>
 (BP 4 1 a c).bind fun r=>
 bK d (AF (Ag 1 r p q)) fun _ s=>
 (Ae .none .add k (.int .i64 1)).bind fun t=>
 e [f,g,a,i,j,t] s
noncomputable def Sh.f7m (c:Aa) (l:LK) (d a e b f g h i:Ab) (j:Aa):Out:=
 AN (fun j3=>
 (Ad 1 b).bind fun m=>
 (Ac false 1 m j).bind fun n=>
 (Ae .none .sub a (.int .i64 1)).bind fun o=>
 bK c (Sh.f1q n o j) fun p k=>
 Aj p (
 (Ae .none .add f (.int .i64 2)).bind fun q=>
 j3 [d,a,e,b,q,g,h,i] k) (
 j3 [d,a,e,b,f,g,h,i] k)) (fun vs H=>Sh.f7l c l (ag vs 0) (ag vs 1) (ag vs 2) (ag vs 3) (ag vs 4) (ag vs 5) (ag vs 6) (ag vs 7) H)
noncomputable def Sh.f16 (e:Aa) (self:Ab→Ab→Ab→Aa→Out) (h:LK) (a f d g b:Ab) (c:Aa):Out:=
 (Ae .none .lss b (.int .i64 4)).bind fun k=>
 Aj k (
 (Jm false 4 1 g b).bind fun i=>
 (Ae .none .gtr f (.int .i64 1)).bind fun l=>
 Aj l (
 (Ae .none .sub f (.int .i64 1)).bind fun m=>
 bK e (self a m i c) fun n o=>
 (Ad 1 d).bind fun p=>
 (BP 4 1 p b).bind fun q=>
 bK e (AF (Ag 1 q n o)) fun _ r=>
 (Ae .none .add b (.int .i64 1)).bind fun s=>
 h [a,f,d,g,s] r) (
 (A5 i).bind fun t=>
 (Ae .none .gtr t (.int .i64 0)).bind fun u=>
 Aj u (
 (At 3 i (.int .i64 0)).bind fun v=>
 (Ad 2 v).bind fun w=>
 (Ac false 1 w c).bind fun x=>
 (AK .i64 x).bind fun y=>
 (Ad 1 d).bind fun z=>
 (BP 4 1 z b).bind fun aa=>
 bK e (AF (Ag 1 aa y c)) fun _ ab=>
 (Ae .none .add b (.int .i64 1)).bind fun ac=>
 h [a,f,d,g,ac] ab) (
 (Ae .none .add b (.int .i64 1)).bind fun ad=>
 h [a,f,d,g,ad] c))) (
 (As a).bind fun ae=>
 (Ad 0 ae).bind fun aj=>
 bC (Ac false 1 aj c) (fun _=>True) fun ak=>
 bC (Ac true 5 d c) (fun _=>True) fun al=>
 (AY 5 [al]).bind fun am=>
 Bk (BZ (AW AM 5 40 ak am c)) fun an ap=>
 (As a).bind fun aq=>
 (Ad 0 aq).bind fun ar=>
 bK e (AF (Ag 1 ar an ap)) fun _ j=>
 (As a).bind fun au=>
 (Ad 0 au).bind fun av=>
 (Ac false 1 av j).bind fun aw=>
 (A5 aw).bind fun ax=>
 rK e ax j)
noncomputable def Sh.f2i (a:Aa) (self:Ab→Ab→Ab→Aa→Out) (n:LK) (e b f g h c:Ab) (i:Aa):Out:=
 (Ae .none .lss c h).bind fun o=>
 Aj o (
 (At 3 g c).bind fun p=>
 (Ac true 3 p i).bind fun q=>
 Am (Az (some [(.sl [] .tight),(.sl [] .tight),(.int .u8 0)]) i) fun d r=>
 bK a (AF (Ag 3 d q r)) fun _ j=>
 AN (fun j2=>
 (Ad 0 d).bind fun s=>
 (Ac false 1 s j).bind fun t=>
 (Ae .none .sub b (.int .i64 1)).bind fun u=>
 bK a (Sh.f1q t u j) fun v k=>
 Aj v (
 (Ae .none .add (.int .i64 0) (.int .i64 1)).bind fun w=>
 j2 [e,b,f,d,w,g,h,c] k) (
 j2 [e,b,f,d,(.int .i64 0),g,h,c] k)) (fun vs H=>Sh.f7m a n (ag vs 0) (ag vs 1) (ag vs 2) (ag vs 3) (ag vs 4) (ag vs 5) (ag vs 6) (ag vs 7) H)) (
 (AD (some [(.int .i64 0),(.int .i64 0),(.int .i64 0),(.int .i64 0),(.int .i64 0)]) [(0,1,b)]).bind fun x=>
 Am (Az (some [(.int .i64 0),(.int .i64 0),(.int .i64 0),(.int .i64 0),(.int .i64 0)]) i) fun l y=>
 bK a (AF (Ag 5 l x y)) fun _ m=>
 (Ac true 4 f m).bind fun z=>
 Ao (fun aa vs H=>Sh.f16 a self aa (ag vs 0) (ag vs 1) (ag vs 2) (ag vs 3) (ag vs 4) H) AQ [e,b,l,z,(.int .i64 0)] m)
noncomputable def Sh.f71 (self:Ab→Ab→Ab→Aa→Out) (c d b:Ab) (a:Aa):Out:=
 (A5 b).bind fun e=>
 (Ae .none .eql e (.int .i64 0)).bind fun f=>
 Aj f (
 rK a (.int .i64 0) a) (
 Am (Az (some [(.sl [] .tight),(.sl [] .tight),(.sl [] .tight),(.sl [] .tight)]) a) fun g h=>
 (A5 b).bind fun i=>
 Ao (fun j vs H=>Sh.f2i a self j (ag vs 0) (ag vs 1) (ag vs 2) (ag vs 3) (ag vs 4) (ag vs 5) H) AQ [c,d,g,b,i,(.int .i64 0)] h)
noncomputable def Sh.f1r:Nat→Ab→Ab→Ab→Aa→Out
 | 0=>fun _ _ _ _=>none
 | d+1=>Sh.f71 (Sh.f1r d)
noncomputable def Sh.f4g (h i b:Ab) (c:Aa):Out:=
 (At 5 h i).bind fun j=>
 (Ac true 5 j c).bind fun k=>
 Am (Az (some [(.int .i64 0),(.int .i64 0),(.int .i64 0),(.int .i64 0),(.int .i64 0)]) c) fun f l=>
 bP c (AF (Ag 5 f k l)) fun _ d=>
 (Ae .none .eql b (.int .i64 0)).bind fun m=>
 Aj m (
 rP c (.bool true) d) (
 (Ad 0 f).bind fun n=>
 (Ac false 1 n d).bind fun o=>
 (Ae .none .eql o (.int .i64 1)).bind fun p=>
 Aj p (
 (Ae .none .gtr b (.int .i64 0)).bind fun g=>
 gk g true (some b) fun q=>
 gk g true (Ae .none .leq q (.int .i64 255)) fun r=>
 (AI g r (.bool false)).bind fun s=>
 rP c s d) (
 (Ae .none .gtr b (.int .i64 0)).bind fun e=>
 gk e true (some b) fun t=>
 gk e true (some i) fun u=>
 gk e true (Ae .none .leq t u) fun v=>
 (AI e v (.bool false)).bind fun a=>
 gk a true (some h) fun w=>
 gk a true (some b) fun x=>
 gk a true (Ae .none .sub x (.int .i64 1)) fun y=>
 gk a true (At 5 w y) fun z=>
 gk a true (Ad 0 z) fun aa=>
 gkc a true (Ac false 1 aa d) (fun _ _=>True) fun ab=>
 gk a true (Ad 0 f) fun ac=>
 gkc a true (Ac false 1 ac d) (fun _ _=>True) fun ad=>
 gk a true (Ae .none .sub ad (.int .i64 1)) fun ae=>
 gk a true (Ae .none .eql ab ae) fun aj=>
 (AI a aj (.bool false)).bind fun ak=>
 rP c ak d))
noncomputable def Sh.f4h (c:Aa) (k:LK) (l:LK) (a d e f g h b:Ab) (i:Aa):Out:=
 (Ae .none .lss b (.int .i64 4)).bind fun m=>
 Aj m (
 (Jm false 4 1 h b).bind fun n=>
 bP c (Sh.f4g a d n i) fun o j=>
 (unA .not o).bind fun p=>
 Aj p (
 rP c (.bool false) j) (
 (Ae .none .add b (.int .i64 1)).bind fun q=>
 l [a,d,e,f,g,h,q] j)) (
 (Ae .none .add g (.int .i64 1)).bind fun r=>
 k [a,e,f,r] i)
noncomputable def Sh.f17 (b:Aa) (i:LK) (j g h c:Ab) (f:Aa):Out:=
 (Ae .none .lss c h).bind fun k=>
 Aj k (
 (At 5 g c).bind fun l=>
 (Ac true 5 l f).bind fun m=>
 Am (Az (some [(.int .i64 0),(.int .i64 0),(.int .i64 0),(.int .i64 0),(.int .i64 0)]) f) fun d n=>
 bP b (AF (Ag 5 d m n)) fun _ a=>
 (Ad 0 d).bind fun o=>
 (Ac false 1 o a).bind fun p=>
 (Ae .none .lss p (.int .i64 1)).bind fun e=>
 gk e false (Ad 0 d) fun q=>
 gk e false (Ac false 1 q a) fun r=>
 gk e false (Ae .none .gtr r (.int .i64 1329)) fun s=>
 (AI e (.bool true) s).bind fun t=>
 Aj t (
 rP b (.bool false) a) (
 (Ad 1 d).bind fun u=>
 (Ac true 4 u a).bind fun v=>
 Ao (fun w vs H=>Sh.f4h b i w (ag vs 0) (ag vs 1) (ag vs 2) (ag vs 3) (ag vs 4) (ag vs 5) (ag vs 6) H) AQ [j,c,g,h,c,v,(.int .i64 0)] a)) (
 rP b (.bool true) f)
noncomputable def Sh.f2j (a:Ab) (b:Aa):Out:=
 (A5 a).bind fun c=>
 Ao (fun d vs H=>Sh.f17 b d (ag vs 0) (ag vs 1) (ag vs 2) (ag vs 3) H) AQ [a,a,c,(.int .i64 0)] b
noncomputable def Sh.f4i (b:Ab) (a:Aa):Out:=
 (Q8 .eql b).bind fun c=>
 Aj c (
 rK a (.sl [] .tight) a) (
 (AY 5 []).bind fun d=>
 bK a (BZ (AW AM 5 40 d b a)) fun e f=>
 rK a e f)
noncomputable def Sh.f4j (d e f:Ab) (b:Aa):Out:=
 (Ae .none .neq d (.int .i64 0)).bind fun a=>
 gk a true (Ad 0 e) fun g=>
 gk a true (Ac false 1 g b) fun h=>
 gk a true (Ae .none .eql h (.int .i64 1)) fun i=>
 gk a true (some i) fun c=>
 gk c false (Ac false 1 f b) fun j=>
 gk c false (some d) fun k=>
 gk c false (At 1 j k) fun l=>
 gk c false (Ac false 1 l b) fun m=>
 gk a true (AI c (.bool true) m) fun n=>
 (AI a n (.bool false)).bind fun o=>
 rK b o b
noncomputable def Cz:Orc:=(ent 238 (ap3 Sh.f4j) noO)
noncomputable def Sh.f4k (b:Aa) (h:LK) (d e f a:Ab) (c:Aa):Out:=
 (Ae .none .lss a f).bind fun i=>
 Aj i (
 (At 1 d a).bind fun j=>
 (Ac false 1 j c).bind fun k=>
 bK b (D3 Cz e [k] c) fun l g=>
 Aj l (
 rK b a g) (
 (Ae .none .add a (.int .i64 1)).bind fun m=>
 h [d,e,f,m] g)) (
 rK b (.int .i64 (-1)) c)
noncomputable def Sh.f4l (a c:Ab) (b:Aa):Out:=
 (A5 a).bind fun d=>
 Ao (fun e vs H=>Sh.f4k b e (ag vs 0) (ag vs 1) (ag vs 2) (ag vs 3) H) AQ [a,c,d,(.int .i64 0)] b
noncomputable def Sh.f4m (b c:Ab) (a:Aa):Out:=
 bK a (Sh.f4l b c a) fun d e=>
 (Ae .none .geq d (.int .i64 0)).bind fun f=>
 rK a f e
noncomputable def Sh.f72 (d:Aa) (k:LK) (a g h b:Ab) (c:Aa):Out:=
 (Ae .none .lss b h).bind fun l=>
 Aj l (
 (At 5 g b).bind fun m=>
 (Ac true 5 m c).bind fun n=>
 Am (Az (some [(.int .i64 0),(.int .i64 0),(.int .i64 0),(.int .i64 0),(.int .i64 0)]) c) fun e o=>
 bP d (AF (Ag 5 e n o)) fun _ i=>
 (Ad 1 e).bind fun p=>
 (Jw 4 1 p none none).bind fun q=>
 Bk (Sh.f4m q (.fn 238 [e,a]) i) fun r j=>
 bC (Ac false 1 a j) (fun f=>Ac false 1 a i=some f∧True) fun f=>
 (Ae .none .add b (.int .i64 1)).bind fun s=>
 (At 1 f s).bind fun t=>
 bP d (AF (Ag 1 t r j)) fun _ u=>
 (Ae .none .add b (.int .i64 1)).bind fun v=>
 k [a,g,h,v] u) (
 (Ac false 1 a c).bind fun w=>
 rPN d w c)
noncomputable def Sh.f2k (a:Ab) (b:Aa):Out:=
 (A5 a).bind fun e=>
 (Ae .none .add e (.int .i64 1)).bind fun c=>
 Am (Fi 1 1 (some [(.bool false)]) c c b) fun f g=>
 Am (Az (some [(.sl [] .tight)]) g) fun d h=>
 bP b (AF (Ag 1 d f h)) fun _ i=>
 (A5 a).bind fun j=>
 Ao (fun k vs H=>Sh.f72 b k (ag vs 0) (ag vs 1) (ag vs 2) (ag vs 3) H) AQ [d,a,j,(.int .i64 0)] i
noncomputable def Sh.f4n (c d:Ab) (a:Aa):Out:=
 bK a (Sh.f2k c a) fun e b=>
 (At 1 e d).bind fun f=>
 (Ac false 1 f b).bind fun g=>
 (unA .not g).bind fun h=>
 rK a h b
noncomputable def Sh.f4o (n:Aa) (o:LK) (p:LK) (e f h i j k l d:Ab) (b:Aa):Out:=
 (Ae .none .lss d (.int .i64 4)).bind fun q=>
 Aj q (
 (Jm false 4 1 l d).bind fun m=>
 (Ae .none .sub (.int .i64 3) h).bind fun r=>
 (Ae .none .neq d r).bind fun g=>
 gk g true (some m) fun s=>
 gk g true (Ae .none .neq s (.int .i64 0)) fun t=>
 (AI g t (.bool false)).bind fun a=>
 gk a true (some e) fun u=>
 gk a true (some i) fun v=>
 gk a true (Ae .none .sub v (.int .i64 1)) fun w=>
 gk a true (At 5 u w) fun x=>
 gk a true (Ad 0 x) fun y=>
 gk a true (Ac false 1 y b) fun z=>
 gk a true (Ae .none .eql z (.int .i64 1)) fun aa=>
 gk a true (some aa) fun c=>
 gk c false (some f) fun ab=>
 gk c false (some m) fun ac=>
 gk c false (At 1 ab ac) fun ad=>
 gk c false (Ac false 1 ad b) fun ae=>
 gk a true (AI c (.bool true) ae) fun aj=>
 (AI a aj (.bool false)).bind fun ak=>
 Aj ak (
 rK n (.bool false) b) (
 (Ae .none .add d (.int .i64 1)).bind fun al=>
 p [e,f,h,i,j,k,l,al] b)) (
 (Ae .none .add k (.int .i64 1)).bind fun am=>
 o [e,f,j,am] b)
noncomputable def Sh.f4p (f:Aa) (g:LK) (c h d a:Ab) (b:Aa):Out:=
 (Ae .none .lss a (.int .i64 4)).bind fun i=>
 Aj i (
 (Jm false 4 1 d a).bind fun e=>
 (Ae .none .eql e (.int .i64 0)).bind fun j=>
 Aj j (
 (Ae .none .add a (.int .i64 1)).bind fun k=>
 g [c,h,d,k] b) (
 (Ae .none .sub e (.int .i64 1)).bind fun l=>
 (At 5 c l).bind fun m=>
 (Ad 1 m).bind fun n=>
 (Ac true 4 n b).bind fun o=>
 Ao (fun p vs H=>Sh.f4o f g p (ag vs 0) (ag vs 1) (ag vs 2) (ag vs 3) (ag vs 4) (ag vs 5) (ag vs 6) (ag vs 7) H) AQ [c,h,a,e,d,a,o,(.int .i64 0)] b)) (
 rK f (.bool true) b)
noncomputable def Sh.f4q (c d:Ab) (b:Aa):Out:=
 (Ae .none .eql d (.int .i64 0)).bind fun a=>
 gk a false (some c) fun f=>
 gk a false (some d) fun g=>
 gk a false (Ae .none .sub g (.int .i64 1)) fun h=>
 gk a false (At 5 f h) fun i=>
 gk a false (Ad 0 i) fun j=>
 gk a false (Ac false 1 j b) fun k=>
 gk a false (Ae .none .eql k (.int .i64 1)) fun l=>
 (AI a (.bool true) l).bind fun m=>
 Aj m (
 rK b (.bool false) b) (
 bK b (Sh.f2k c b) fun n e=>
 (Ae .none .sub d (.int .i64 1)).bind fun o=>
 (At 5 c o).bind fun p=>
 (Ad 1 p).bind fun q=>
 (Ac true 4 q e).bind fun r=>
 Ao (fun s vs H=>Sh.f4p b s (ag vs 0) (ag vs 1) (ag vs 2) (ag vs 3) H) AQ [c,n,r,(.int .i64 0)] e)
noncomputable def Sh.f4r (b e c:Ab) (a:Aa):Out:=
 (Ae .none .sub e (.int .i64 1)).bind fun f=>
 (At 5 b f).bind fun g=>
 (Ad 1 g).bind fun h=>
 (BP 4 1 h c).bind fun i=>
 (Ac false 1 i a).bind fun d=>
 (Ae .none .gtr d (.int .i64 0)).bind fun j=>
 Aj j (
 (Ae .none .sub d (.int .i64 1)).bind fun k=>
 (Ae .none .sub (.int .i64 3) c).bind fun l=>
 (At 5 b k).bind fun m=>
 (Ad 1 m).bind fun n=>
 (BP 4 1 n l).bind fun o=>
 (Ac false 1 o a).bind fun p=>
 rK a p a) (
 rK a (.int .i64 0) a)
noncomputable def Sh.f4s (b:Aa) (h:LK) (i:LK) (c f d a:Ab) (e:Aa):Out:=
 (Ae .none .lss a (.int .i64 4)).bind fun j=>
 Aj j (
 bP b (Sh.f4r c f a e) fun k l=>
 (Ad 1 d).bind fun m=>
 (BP 4 1 m a).bind fun n=>
 bP b (AF (Ag 1 n k l)) fun _ o=>
 (Ae .none .add a (.int .i64 1)).bind fun p=>
 i [c,f,d,p] o) (
 (Ac true 5 d e).bind fun q=>
 (AY 5 [q]).bind fun r=>
 bP b (BZ (AW AM 5 40 c r e)) fun g s=>
 (A5 g).bind fun t=>
 h [g,t] s)
noncomputable def Sh.f73 (a:Aa) (f:LK) (b c:Ab) (g:Aa):Out:=
 bP a (Sh.f4q b c g) fun h d=>
 Aj h (
 (Ae .none .sub c (.int .i64 1)).bind fun i=>
 (At 5 b i).bind fun j=>
 (Ad 0 j).bind fun k=>
 (Ac false 1 k d).bind fun l=>
 (Ae .none .sub l (.int .i64 1)).bind fun m=>
 (AD (some [(.int .i64 0),(.int .i64 0),(.int .i64 0),(.int .i64 0),(.int .i64 0)]) [(0,1,m)]).bind fun n=>
 Am (Az (some [(.int .i64 0),(.int .i64 0),(.int .i64 0),(.int .i64 0),(.int .i64 0)]) d) fun e o=>
 bP a (AF (Ag 5 e n o)) fun _ p=>
 Ao (fun q vs H=>Sh.f4s a f q (ag vs 0) (ag vs 1) (ag vs 2) (ag vs 3) H) AQ [b,c,e,(.int .i64 0)] p) (
 rPN a (.tup [b,c]) d)
noncomputable def Sh.f2l (e c:Ab) (a:Aa):Out:=
 bP a (Sh.f4i e a) fun b f=>
 bP a (Sh.f4n b c f) fun g d=>
 Aj g (
 rPN a (.tup [b,(.int .i64 0)]) d) (
 Ao (fun h vs H=>Sh.f73 a h (ag vs 0) (ag vs 1) H) AQ [b,c] d)
noncomputable def Sh.f2m (b h:Ab) (c:Aa):Out:=
 Am (B8 true 5 h c) fun d a=>
 (Ad 1 d).bind fun i=>
 (Ac true 4 i a).bind fun j=>
 (AD (some [(.int .i64 0),(.int .i64 0),(.int .i64 0),(.int .i64 0)]) []).bind fun k=>
 (Ae (.flat 4) .eql j k).bind fun l=>
 Aj l (
 rK c (.int .i64 0) a) (
 (As b).bind fun m=>
 (Ad 1 m).bind fun n=>
 bC (Ac false 1 n a) (fun _=>True) fun o=>
 bC (Ac true 5 d a) (fun _=>True) fun p=>
 bC (Fb true 5 (some (.int .i64 0)) true o p a) (fun _=>True) fun f=>
 (Av 0 f).bind fun q=>
 (Av 1 f).bind fun r=>
 Aj r (
 rK c q a) (
 (As b).bind fun s=>
 (Ad 0 s).bind fun t=>
 bC (Ac false 1 t a) (fun _=>True) fun u=>
 bC (Ac true 5 d a) (fun _=>True) fun v=>
 (AY 5 [v]).bind fun w=>
 Bk (BZ (AW AM 5 40 u w a)) fun x y=>
 (As b).bind fun z=>
 (Ad 0 z).bind fun aa=>
 bK c (AF (Ag 1 aa x y)) fun _ e=>
 (As b).bind fun ab=>
 (Ad 1 ab).bind fun ac=>
 bC (Ac false 1 ac e) (fun _=>True) fun ad=>
 bC (Ac true 5 d e) (fun _=>True) fun ae=>
 (As b).bind fun aj=>
 (Ad 0 aj).bind fun ak=>
 bC (Ac false 1 ak e) (fun _=>True) fun al=>
 (A5 al).bind fun am=>
 bK c (AF (DW true 5 ad ae am e)) fun _ g=>
 (As b).bind fun an=>
 (Ad 0 an).bind fun ap=>
 (Ac false 1 ap g).bind fun aq=>
 (A5 aq).bind fun ar=>
 rK c ar g))
noncomputable def Hz (self:Ab→Ab→Ab→Ab→Ab→Aa→Out):Orc:=ent 161 (ap5 self) (ent 162 (ap2 Sh.f2m) noO)
noncomputable def Sh.f4t (a:Aa) (e f g h:Ab) (b:Aa):Out:=
 (Ac false 1 g b).bind fun i=>
 (Ac true 5 h b).bind fun j=>
 bK a (Sh.f2m i j b) fun c d=>
 (Ac false 1 f d).bind fun k=>
 bK a (AF (DW false 1 k e c d)) fun _ l=>
 rK a c l
noncomputable def Sh.f4u (d:Aa) (self:Ab→Ab→Ab→Ab→Ab→Aa→Out) (j1:LK) (j:LK) (e f g h b i a:Ab) (c:Aa):Out:=
 (Ae .none .lss a (.int .i64 4)).bind fun k=>
 Aj k (
 (Jm false 4 1 i a).bind fun l=>
 (Ac false 1 g c).bind fun m=>
 bK d (D3 (Hz self) m [l] c) fun n o=>
 (Ad 1 b).bind fun p=>
 (BP 4 1 p a).bind fun q=>
 bK d (AF (Ag 1 q n o)) fun _ r=>
 (Ae .none .add a (.int .i64 1)).bind fun s=>
 j [e,f,g,h,b,i,s] r) (
 j1 [e,f,h,b] c)
noncomputable def Sh.f2n (self:Ab→Ab→Ab→Ab→Ab→Aa→Out) (c e h i f:Ab) (a:Aa):Out:=
 (Ac false 1 e a).bind fun j=>
 (Fb false 1 (some (.int .i64 0)) true j c a).bind fun g=>
 (Av 0 g).bind fun k=>
 (Av 1 g).bind fun l=>
 Aj l (
 rK a k a) (
 (Ac false 1 h a).bind fun m=>
 (Ae .none .sub c (.int .i64 1)).bind fun n=>
 (At 5 m n).bind fun o=>
 (Ac true 5 o a).bind fun p=>
 Am (Az (some [(.int .i64 0),(.int .i64 0),(.int .i64 0),(.int .i64 0),(.int .i64 0)]) a) fun b q=>
 bK a (AF (Ag 5 b p q)) fun _ d=>
 AN (fun j1=>
 (Ad 0 b).bind fun r=>
 (Ac false 1 r d).bind fun s=>
 (Ae .none .gtr s (.int .i64 1)).bind fun t=>
 Aj t (
 (Ad 1 b).bind fun u=>
 (Ac true 4 u d).bind fun v=>
 Ao (fun w vs H=>Sh.f4u a self j1 w (ag vs 0) (ag vs 1) (ag vs 2) (ag vs 3) (ag vs 4) (ag vs 5) (ag vs 6) H) AQ [c,e,i,f,b,v,(.int .i64 0)] d) (
 j1 [c,e,f,b] d)) (fun vs H=>Sh.f4t a (ag vs 0) (ag vs 1) (ag vs 2) (ag vs 3) H))
noncomputable def Sh.f7:Nat→Ab→Ab→Ab→Ab→Ab→Aa→Out
 | 0=>fun _ _ _ _ _ _=>none
 | d+1=>Sh.f2n (Sh.f7 d)
noncomputable def Jj:Orc:=(ent 159 (ap1 Sh.f2j) (ent 160 (ap2 Sh.f2l) (ent 161 (ap5 (Sh.f7 AQ)) noO)))
noncomputable def Sh.f2o (r f:Ab) (a:Aa):Out:=
 Am (B8 true 1 r a) fun b s=>
 Am (Az (some [(.sl [] .tight)]) s) fun d k=>
 (Ac false 1 b k).bind fun t=>
 bP a (Sh.f2j t k) fun u e=>
 (unA .not u).bind fun g=>
 gk g false (some f) fun v=>
 gk g false (Ae .none .lss v (.int .i64 0)) fun w=>
 (AI g (.bool true) w).bind fun c=>
 gk c false (some f) fun x=>
 gk c false (Ac false 1 b e) fun y=>
 gk c false (A5 y) fun z=>
 gk c false (Ae .none .gtr x z) fun aa=>
 (AI c (.bool true) aa).bind fun ab=>
 Aj ab (
 (AD (some [(.sl [] .tight)]) []).bind fun ac=>
 bP a (AF (Ag 1 d ac e)) fun _ l=>
 (Fy [Ac true 1 d l,some (.int .i64 1)]).bind fun ad=>rPN a ad l) (
 (Ac false 1 b e).bind fun ae=>
 bP a (Sh.f2l ae f e) fun m aj=>
 (Av 0 m).bind fun ak=>
 (Av 1 m).bind fun al=>
 bP a (AF (Ag 1 b ak aj)) fun _ am=>
 Am (Ew am) fun an ap=>
 (AD (some [(.sl [] .tight),.nilmap]) [(1,1,an)]).bind fun aq=>
 Am (B8 true 2 aq ap) fun ar au=>
 Am (Az (some [.nilp]) au) fun h av=>
 bP a (AF (Ag 1 h ar av)) fun _ aw=>
 Am (Ew aw) fun n ax=>
 bP a (AF (DW false 1 n (.int .i64 0) (.int .i64 0) ax)) fun _ ay=>
 Am (Az (some [.nilmap]) ay) fun o az=>
 bP a (AF (Ag 1 o n az)) fun _ a0=>
 Am (Az (some [.nilfn]) a0) fun i a1=>
 bP a (AF (Ag 1 i (.fn 161 [o,b,i,h]) a1)) fun _ p=>
 (Ac false 1 i p).bind fun a2=>
 bP a (D3 Jj a2 [al] p) fun a9 j=>
 (Ac false 1 h j).bind fun a3=>
 (As a3).bind fun a4=>
 (Ad 0 a4).bind fun a5=>
 (Ac false 1 a5 j).bind fun a6=>
 (AD (some [(.sl [] .tight)]) [(0,1,a6)]).bind fun a7=>
 bP a (AF (Ag 1 d a7 j)) fun _ q=>
 (Fy [Ac true 1 d q,some (.int .i64 0)]).bind fun a8=>rPN a a8 q)
noncomputable def Sh.f2p (b:Aa) (w:LK) (g m c n o p h:Ab) (i:Aa):Out:=
 (Ae .none .lss h p).bind fun x=>
 Aj x (
 (At 5 o h).bind fun y=>
 (Ac true 5 y i).bind fun z=>
 Am (Az (some [(.bool false),(.sl [] .tight),(.bool false),(.sl [] .tight),(.int .u8 0)]) i) fun d aa=>
 bP b (AF (Ag 5 d z aa)) fun _ a=>
 (Ad 0 d).bind fun ab=>
 bC (Ac true 2 ab a) (fun _=>True) fun ac=>
 bC (Ac true 2 c a) (fun _=>True) fun ad=>
 Bk (Sh.f1p ac ad a) fun ae e=>
 (Ad 2 d).bind fun q=>
 bC (Ac true 2 q e) (fun j=>Ac true 2 q a=some j∧True) fun j=>
 bC (Ac true 2 c e) (fun k=>Ac true 2 c a=some k∧True) fun k=>
 Bk (Sh.f1p j k e) fun aj r=>
 (PC false 1 1 ae).bind fun ak=>
 (PC false 1 1 aj).bind fun al=>
 (Ad 4 d).bind fun l=>
 bC (Ac false 1 l r) (fun f=>Ac false 1 l e=some f∧Ac false 1 l a=some f∧True) fun f=>
 (AD (some [(.sl [] .tight),(.sl [] .tight),(.int .u8 0)]) [(0,1,ak),(1,1,al),(2,1,f)]).bind fun am=>
 (AY 3 [am]).bind fun an=>
 Bk (BZ (AW BK 3 56 n an r)) fun ap aq=>
 (Ae .none .add h (.int .i64 1)).bind fun ar=>
 w [g,m,c,ap,o,p,ar] aq) (
 (AD (some [(.sl [] .tight)]) []).bind fun au=>
 Am (B8 true 1 au i) fun s av=>
 bP b (Sh.f1r AQ s m n av) fun aw t=>
 (As s).bind fun ax=>
 (Ad 0 ax).bind fun ay=>
 (Ac false 1 ay t).bind fun az=>
 bP b (Sh.f2o az aw t) fun u a0=>
 (Av 0 u).bind fun a1=>
 (Av 1 u).bind fun a2=>
 bP b (AF (Ag 1 g a1 a0)) fun _ v=>
 (Fy [Ac true 1 g v,some a2]).bind fun a3=>rPN b a3 v)
noncomputable def Sh.f1s (a:Aa) (p:LK) (b e c j k f:Ab) (d:Aa):Out:=
 (Ae .none .lss f k).bind fun q=>
 Aj q (
 (At 5 j f).bind fun r=>
 (Ac true 5 r d).bind fun s=>
 Am (Az (some [(.bool false),(.sl [] .tight),(.bool false),(.sl [] .tight),(.int .u8 0)]) d) fun g t=>
 bP a (AF (Ag 5 g s t)) fun _ h=>
 (Ad 0 g).bind fun u=>
 bC (Ac true 2 u h) (fun _=>True) fun v=>
 Bk (Sh.f2h v h) fun w l=>
 (Ad 2 g).bind fun m=>
 bC (Ac true 2 m l) (fun i=>Ac true 2 m h=some i∧True) fun i=>
 Bk (Sh.f2h i l) fun x y=>
 (Hm J3 c [w,x]).bind fun z=>
 (Ae .none .add f (.int .i64 1)).bind fun aa=>
 p [b,e,z,j,k,aa] y) (
 (Ae .none .gtr c (.int .i64 1329)).bind fun ab=>
 Aj ab (
 (AD (some [(.sl [] .tight)]) []).bind fun ac=>
 bP a (AF (Ag 1 b ac d)) fun _ n=>
 (Fy [Ac true 1 b n,some (.int .i64 4)]).bind fun ad=>rPN a ad n) (
 (Ae .none .sub c (.int .i64 1)).bind fun ae=>
 bP a (Sh.f4f ae d) fun aj ak=>
 Am (Az (some [(.bool false),(.sl [] .tight)]) ak) fun o al=>
 bP a (AF (Ag 2 o aj al)) fun _ am=>
 (A5 e).bind fun an=>
 Ao (fun ap vs H=>Sh.f2p a ap (ag vs 0) (ag vs 1) (ag vs 2) (ag vs 3) (ag vs 4) (ag vs 5) (ag vs 6) H) AQ [b,c,o,(.sl [] .tight),e,an,(.int .i64 0)] am))
noncomputable def Sh.f2q (d:Ab) (a:Aa):Out:=
 Am (Az (some [(.sl [] .tight)]) a) fun b g=>
 bP a (Sh.f3u d (.fn 84 []) g) fun h e=>
 Aj h (
 (AD (some [(.sl [] .tight)]) []).bind fun i=>
 bP a (AF (Ag 1 b i e)) fun _ f=>
 (Fy [Ac true 1 b f,some (.int .i64 1)]).bind fun j=>rPN a j f) (
 bP a (Sh.f43 d e) fun c k=>
 (A5 c).bind fun l=>
 Ao (fun m vs H=>Sh.f1s a m (ag vs 0) (ag vs 1) (ag vs 2) (ag vs 3) (ag vs 4) (ag vs 5) H) AQ [b,c,(.int .i64 1),c,l,(.int .i64 0)] k)
noncomputable def Sh.ft (l v:Ab) (a:Aa):Out:=
 Am (B8 true 2 v a) fun m w=>
 Am (Az (some [(.str []),(.sl [] .tight)]) w) fun b n=>
 (Ac true 2 m n).bind fun x=>
 bP a (Sh.f3e x n) fun y o=>
 (unA .not y).bind fun z=>
 Aj z (
 (AD (some [(.str []),(.sl [] .tight)]) []).bind fun aa=>
 bP a (AF (Ag 2 b aa o)) fun _ p=>
 (Fy [Ac true 2 b p,some (.int .i64 0),some (.int .i64 1)]).bind fun ab=>rPN a ab p) (
 (AD (some [(.str []),(.int .i64 0)]) [(0,1,l)]).bind fun ac=>
 (AD (some [(.str []),(.int .i64 0),(.str []),(.sl [] .tight)]) [(0,2,ac),(2,1,(.str [66,51,47,83,50,51]))]).bind fun ad=>
 Am (B8 true 4 ad o) fun f ae=>
 bP a (Sh.f23 (.bfn 38 [f]) ae) fun aj ak=>
 Am (Az (some [(.int .i64 0),(.str [])]) ak) fun h al=>
 bP a (AF (Ag 2 h aj al)) fun _ d=>
 (Ad 0 h).bind fun am=>
 (Ac false 1 am d).bind fun an=>
 (Ae .none .neq an (.int .i64 0)).bind fun ap=>
 Aj ap (
 (AD (some [(.str []),(.sl [] .tight)]) []).bind fun aq=>
 Bk (AF (Ag 2 b aq d)) fun _ g=>
 (As f).bind fun ar=>
 (Ad 0 ar).bind fun au=>
 (Ad 1 au).bind fun q=>
 bC (Ac false 1 q g) (fun i=>Ac false 1 q d=some i∧True) fun i=>
 (Ad 0 h).bind fun r=>
 bC (Ac false 1 r g) (fun j=>Ac false 1 r d=some j∧True) fun j=>
 (Fy [Ac true 2 b g,some i,some j]).bind fun av=>rPN a av g) (
 (As f).bind fun aw=>
 (Ad 3 aw).bind fun ax=>
 (Ac false 1 ax d).bind fun ay=>
 bP a (Sh.f2q ay d) fun s az=>
 (Av 0 s).bind fun a0=>
 (Av 1 s).bind fun a1=>
 Am (Az (some [(.sl [] .tight)]) az) fun k a2=>
 bP a (AF (Ag 1 k a0 a2)) fun _ e=>
 (Ae .none .neq a1 (.int .i64 0)).bind fun c=>
 gk c false (Ad 0 k) fun a3=>
 gk c false (Ac false 1 a3 e) fun a4=>
 gk c false (A5 a4) fun a5=>
 gk c false (Ad 1 m) fun a6=>
 gk c false (Ac false 1 a6 e) fun a7=>
 gk c false (Ae .none .gtr a5 a7) fun a8=>
 (AI c (.bool true) a8).bind fun a9=>
 Aj a9 (
 (AD (some [(.str []),(.sl [] .tight)]) []).bind fun ba=>
 (CG l).bind fun bb=>
 bP a (AF (Ag 2 b ba e)) fun _ t=>
 (Fy [Ac true 2 b t,some bb,some (.int .i64 4)]).bind fun bc=>rPN a bc t) (
 (As f).bind fun bd=>
 (Ad 2 bd).bind fun be=>
 bC (Ac false 1 be e) (fun _=>True) fun bg=>
 bC (Ac true 1 k e) (fun _=>True) fun bj=>
 (AD (some [(.str []),(.sl [] .tight)]) [(0,1,bg),(1,1,bj)]).bind fun bk=>
 Bk (AF (Ag 2 b bk e)) fun _ u=>
 (Fy [Ac true 2 b u,some (.int .i64 0),some (.int .i64 0)]).bind fun bl=>rPN a bl u)))
noncomputable def Sh.f4v (b:Ab) (c:Aa):Out:=
 (Ae .none .geq b (.int .i64 1)).bind fun a=>
 gk a true (some b) fun d=>
 gk a true (Ae .none .leq d (.int .i64 5)) fun e=>
 (AI a e (.bool false)).bind fun f=>
 rK c f c
noncomputable def Sh.f4w (b:Ab) (c:Aa):Out:=
 (Ae .none .geq b (.int .u8 33)).bind fun a=>
 gk a true (some b) fun d=>
 gk a true (Ae .none .leq d (.int .u8 126)) fun e=>
 (AI a e (.bool false)).bind fun f=>
 rK c f c
noncomputable def Sh.f7n (c:Aa) (g:LK) (a d:Ab) (e:Aa):Out:=
 (CG a).bind fun h=>
 (Ae .none .lss d h).bind fun i=>
 Aj i (
 (Ez a d).bind fun j=>
 bK c (Sh.f4w j e) fun k f=>
 (unA .not k).bind fun l=>
 Aj l (
 rK c (.bool false) f) (
 (Ae .none .add d (.int .i64 1)).bind fun m=>
 g [a,m] f)) (
 (CG a).bind fun n=>
 (Ae .none .geq n (.int .i64 1)).bind fun b=>
 gk b true (some a) fun o=>
 gk b true (CG o) fun p=>
 gk b true (Ae .none .leq p (.int .i64 40)) fun q=>
 (AI b q (.bool false)).bind fun r=>
 rK c r e)
noncomputable def Sh.f2r (b:Ab) (a:Aa):Out:=
 Ao (fun c vs H=>Sh.f7n a c (ag vs 0) (ag vs 1) H) AQ [b,(.int .i64 0)] a
noncomputable def Sh.f4x (k:Aa) (l:LK) (m:LK) (d e h:Ab) (b:Aa):Out:=
 (Ae .none .lss h (.int .i64 4)).bind fun n=>
 Aj n (
 (At 5 d e).bind fun o=>
 (Ad 1 o).bind fun p=>
 (BP 4 1 p h).bind fun q=>
 (Ac false 1 q b).bind fun g=>
 (Ae .none .lss g (.int .i64 0)).bind fun c=>
 gk c false (some d) fun r=>
 gk c false (some e) fun s=>
 gk c false (At 5 r s) fun t=>
 gk c false (Ad 0 t) fun u=>
 gk c false (Ac false 1 u b) fun v=>
 gk c false (Ae .none .eql v (.int .i64 1)) fun w=>
 gk c false (some w) fun i=>
 gk i true (some g) fun x=>
 gk i true (Ae .none .gtr x (.int .i64 255)) fun y=>
 gk c false (AI i y (.bool false)) fun z=>
 (AI c (.bool true) z).bind fun aa=>
 Aj aa (
 rK k (.bool false) b) (
 (At 5 d e).bind fun ab=>
 (Ad 0 ab).bind fun ac=>
 bC (Ac false 1 ac b) (fun _=>True) fun ad=>
 (Ae .none .gtr ad (.int .i64 1)).bind fun j=>
 gk j true (some g) fun ae=>
 gk j true (Ae .none .gtr ae (.int .i64 0)) fun aj=>
 (AI j aj (.bool false)).bind fun f=>
 gk f true (some g) fun ak=>
 gk f true (some e) fun al=>
 gk f true (Ae .none .gtr ak al) fun am=>
 gk f true (some am) fun a=>
 gk a false (some d) fun an=>
 gk a false (some g) fun ap=>
 gk a false (Ae .none .sub ap (.int .i64 1)) fun aq=>
 gk a false (At 5 an aq) fun ar=>
 gk a false (Ad 0 ar) fun au=>
 gkc a false (Ac false 1 au b) (fun _ _=>True) fun av=>
 gk a false (some d) fun aw=>
 gk a false (some e) fun ax=>
 gk a false (At 5 aw ax) fun ay=>
 gk a false (Ad 0 ay) fun az=>
 gkc a false (Ac false 1 az b) (fun _ _=>True) fun a0=>
 gk a false (Ae .none .sub a0 (.int .i64 1)) fun a1=>
 gk a false (Ae .none .neq av a1) fun a2=>
 gk f true (AI a (.bool true) a2) fun a3=>
 (AI f a3 (.bool false)).bind fun a4=>
 Aj a4 (
 rK k (.bool false) b) (
 (Ae .none .add h (.int .i64 1)).bind fun a5=>
 m [d,e,a5] b))) (
 (Ae .none .add e (.int .i64 1)).bind fun a6=>
 l [d,a6] b)
noncomputable def Sh.f4y (e:Aa) (f:LK) (c d:Ab) (b:Aa):Out:=
 (A5 c).bind fun g=>
 (Ae .none .lss d g).bind fun h=>
 Aj h (
 (At 5 c d).bind fun i=>
 (Ad 0 i).bind fun j=>
 (Ac false 1 j b).bind fun k=>
 (Ae .none .lss k (.int .i64 1)).bind fun a=>
 gk a false (some c) fun l=>
 gk a false (some d) fun m=>
 gk a false (At 5 l m) fun n=>
 gk a false (Ad 0 n) fun o=>
 gk a false (Ac false 1 o b) fun p=>
 gk a false (Ae .none .gtr p (.int .i64 1329)) fun q=>
 (AI a (.bool true) q).bind fun r=>
 Aj r (
 rK e (.bool false) b) (
 Ao (fun s vs H=>Sh.f4x e f s (ag vs 0) (ag vs 1) (ag vs 2) H) AQ [c,d,(.int .i64 0)] b)) (
 rK e (.bool true) b)
noncomputable def Sh.f2s (b:Ab) (a:Aa):Out:=
 Ao (fun c vs H=>Sh.f4y a c (ag vs 0) (ag vs 1) H) AQ [b,(.int .i64 0)] a
noncomputable def Sh.f4z (j:Aa) (k:LK) (l:LK) (f g c b h:Ab) (d:Aa):Out:=
 (Ae .none .lss h (.int .i64 4)).bind fun m=>
 Aj m (
 (At 5 f c).bind fun n=>
 (Ad 1 n).bind fun o=>
 (BP 4 1 o h).bind fun p=>
 (Ac false 1 p d).bind fun i=>
 gk b true (some i) fun q=>
 gk b true (Ae .none .eql q (.int .i64 0)) fun r=>
 gk b true (some r) fun a=>
 gk a false (some f) fun s=>
 gk a false (some c) fun t=>
 gk a false (At 5 s t) fun u=>
 gk a false (Ad 0 u) fun v=>
 gk a false (Ac false 1 v d) fun w=>
 gk a false (Ae .none .gtr w (.int .i64 1)) fun x=>
 gk a false (some x) fun e=>
 gk e true (some g) fun y=>
 gk e true (some i) fun z=>
 gk e true (At 1 y z) fun aa=>
 gk e true (Ac false 1 aa d) fun ab=>
 gk a false (AI e ab (.bool false)) fun ac=>
 gk b true (AI a (.bool true) ac) fun ad=>
 (AI b ad (.bool false)).bind fun ae=>
 (Ae .none .add h (.int .i64 1)).bind fun aj=>
 l [f,g,c,ae,aj] d) (
 (Ae .none .add c (.int .i64 1)).bind fun ak=>
 (At 1 g ak).bind fun al=>
 bP j (AF (Ag 1 al b d)) fun _ am=>
 (Ae .none .add c (.int .i64 1)).bind fun an=>
 k [f,g,an] am)
noncomputable def Sh.f50 (a:Aa) (f:LK) (b c d:Ab) (e:Aa):Out:=
 (A5 b).bind fun g=>
 (Ae .none .lss d g).bind fun h=>
 Aj h (
 Ao (fun i vs H=>Sh.f4z a f i (ag vs 0) (ag vs 1) (ag vs 2) (ag vs 3) (ag vs 4) H) AQ [b,c,d,(.bool true),(.int .i64 0)] e) (
 rPN a c e)
noncomputable def Sh.f18 (b:Ab) (a:Aa):Out:=
 (A5 b).bind fun e=>
 (Ae .none .add e (.int .i64 1)).bind fun c=>
 Am (Fi 1 1 (some [(.bool false)]) c c a) fun d f=>
 (At 1 d (.int .i64 0)).bind fun g=>
 bP a (AF (Ag 1 g (.bool true) f)) fun _ h=>
 Ao (fun i vs H=>Sh.f50 a i (ag vs 0) (ag vs 1) (ag vs 2) H) AQ [b,d,(.int .i64 0)] h
noncomputable def Sh.f2t (n:Aa) (o:LK) (p:LK) (e f h i j g:Ab) (c:Aa):Out:=
 (Ae .none .lss g (.int .i64 4)).bind fun k=>
 gk k true (some j) fun q=>
 gk k true (Ae .none .gtr q (.int .i64 0)) fun r=>
 (AI k r (.bool false)).bind fun s=>
 Aj s (
 (Ae .none .sub j (.int .i64 1)).bind fun t=>
 (At 5 e t).bind fun u=>
 (Ad 1 u).bind fun v=>
 (BP 4 1 v g).bind fun w=>
 (Ac false 1 w c).bind fun m=>
 (Ae .none .sub (.int .i64 3) i).bind fun x=>
 (Ae .none .neq g x).bind fun a=>
 gk a true (some e) fun y=>
 gk a true (some f) fun z=>
 gk a true (Ae .none .sub z (.int .i64 1)) fun aa=>
 gk a true (At 5 y aa) fun ab=>
 gk a true (Ad 0 ab) fun ac=>
 gk a true (Ac false 1 ac c) fun ad=>
 gk a true (Ae .none .eql ad (.int .i64 2)) fun ae=>
 gk a true (some ae) fun l=>
 gk l true (some m) fun aj=>
 gk l true (Ae .none .neq aj (.int .i64 0)) fun ak=>
 gk a true (AI l ak (.bool false)) fun al=>
 gk a true (some al) fun b=>
 gk b false (some e) fun am=>
 gk b false (some f) fun an=>
 gk b false (Ae .none .sub an (.int .i64 1)) fun ap=>
 gk b false (At 5 am ap) fun aq=>
 gk b false (Ad 0 aq) fun ar=>
 gk b false (Ac false 1 ar c) fun au=>
 gk b false (Ae .none .gtr au (.int .i64 2)) fun av=>
 gk b false (some av) fun d=>
 gk d true (some h) fun aw=>
 gk d true (some m) fun ax=>
 gk d true (At 1 aw ax) fun ay=>
 gk d true (Ac false 1 ay c) fun az=>
 gk d true (unA .not az) fun a0=>
 gk b false (AI d a0 (.bool false)) fun a1=>
 gk a true (AI b (.bool true) a1) fun a2=>
 (AI a a2 (.bool false)).bind fun a3=>
 Aj a3 (
 rK n (.bool false) c) (
 (Ae .none .add g (.int .i64 1)).bind fun a4=>
 p [e,f,h,i,j,a4] c)) (
 (Ae .none .add i (.int .i64 1)).bind fun a5=>
 o [e,f,h,a5] c)
noncomputable def Sh.f51 (c:Aa) (f:LK) (d e g a:Ab) (b:Aa):Out:=
 (Ae .none .lss a (.int .i64 4)).bind fun h=>
 Aj h (
 (Ae .none .sub e (.int .i64 1)).bind fun i=>
 (At 5 d i).bind fun j=>
 (Ad 1 j).bind fun k=>
 (BP 4 1 k a).bind fun l=>
 (Ac false 1 l b).bind fun m=>
 Ao (fun n vs H=>Sh.f2t c f n (ag vs 0) (ag vs 1) (ag vs 2) (ag vs 3) (ag vs 4) (ag vs 5) H) AQ [d,e,g,a,m,(.int .i64 0)] b) (
 rK c (.bool true) b)
noncomputable def Sh.f2u (c d:Ab) (b:Aa):Out:=
 (Ae .none .eql d (.int .i64 0)).bind fun a=>
 gk a false (some c) fun e=>
 gk a false (some d) fun f=>
 gk a false (Ae .none .sub f (.int .i64 1)) fun g=>
 gk a false (At 5 e g) fun h=>
 gk a false (Ad 0 h) fun i=>
 gk a false (Ac false 1 i b) fun j=>
 gk a false (Ae .none .lss j (.int .i64 2)) fun k=>
 (AI a (.bool true) k).bind fun l=>
 Aj l (
 rK b (.bool false) b) (
 bK b (Sh.f18 c b) fun m n=>
 Ao (fun o vs H=>Sh.f51 b o (ag vs 0) (ag vs 1) (ag vs 2) (ag vs 3) H) AQ [c,d,m,(.int .i64 0)] n)
noncomputable def Sh.f2v (h:Aa) (a:LK) (b c d e:Ab) (f:Aa):Out:=
 (Ae .none .add e (.int .i64 1)).bind fun g=>
 a [b,c,d,g] f
noncomputable def Sh.f52 (f:Aa) (self:Ab→Ab→Ab→Aa→Out) (h:LK) (b c g e:Ab) (d:Aa):Out:=
 (Ae .none .lss e (.int .i64 4)).bind fun i=>
 Aj i (
 AN (fun j3=>
 (Ae .none .sub c (.int .i64 1)).bind fun j=>
 (At 5 b j).bind fun k=>
 (Ad 0 k).bind fun l=>
 (Ac false 1 l d).bind fun m=>
 (Ae .none .gtr m (.int .i64 1)).bind fun a=>
 gk a true (some b) fun n=>
 gk a true (some c) fun o=>
 gk a true (Ae .none .sub o (.int .i64 1)) fun p=>
 gk a true (some e) fun q=>
 gk a true (At 5 n p) fun r=>
 gk a true (Ad 1 r) fun s=>
 gk a true (BP 4 1 s q) fun t=>
 gk a true (Ac false 1 t d) fun u=>
 gk a true (Ae .none .gtr u (.int .i64 0)) fun v=>
 (AI a v (.bool false)).bind fun w=>
 Aj w (
 (Ae .none .sub c (.int .i64 1)).bind fun x=>
 (At 5 b x).bind fun y=>
 (Ad 1 y).bind fun z=>
 (BP 4 1 z e).bind fun aa=>
 (Ac false 1 aa d).bind fun ab=>
 bK f (self b ab g d) fun ac ad=>
 j3 [b,c,ac,e] ad) (
 j3 [b,c,g,e] d)) (fun vs H=>Sh.f2v f h (ag vs 0) (ag vs 1) (ag vs 2) (ag vs 3) H)) (
 (AY 1 [c]).bind fun ae=>
 bK f (BZ (AW Gb 1 8 g ae d)) fun aj ak=>
 rK f aj ak)
noncomputable def Sh.f53 (e:Aa) (self:Ab→Ab→Ab→Aa→Out) (g:LK) (f c a d:Ab) (b:Aa):Out:=
 (A5 a).bind fun h=>
 (Ae .none .lss d h).bind fun i=>
 Aj i (
 (At 1 a d).bind fun j=>
 (Ac false 1 j b).bind fun k=>
 (Ae .none .eql k c).bind fun l=>
 Aj l (
 rK e a b) (
 (Ae .none .add d (.int .i64 1)).bind fun m=>
 g [f,c,a,m] b)) (
 Ao (fun n vs H=>Sh.f52 e self n (ag vs 0) (ag vs 1) (ag vs 2) (ag vs 3) H) AQ [f,c,a,(.int .i64 0)] b)
noncomputable def Sh.f74 (self:Ab→Ab→Ab→Aa→Out) (b c d:Ab) (a:Aa):Out:=
 Ao (fun e vs H=>Sh.f53 a self e (ag vs 0) (ag vs 1) (ag vs 2) (ag vs 3) H) AQ [b,c,d,(.int .i64 0)] a
noncomputable def Sh.ff:Nat→Ab→Ab→Ab→Aa→Out
 | 0=>fun _ _ _ _=>none
 | d+1=>Sh.f74 (Sh.ff d)
noncomputable def Sh.f54 (f:Aa) (g:LK) (h:LK) (b e c d:Ab) (a:Aa):Out:=
 (Ae .none .lss d c).bind fun i=>
 Aj i (
 (At 5 b c).bind fun j=>
 bC (Ac true 5 j a) (fun _=>True) fun k=>
 (At 5 b d).bind fun l=>
 bC (Ac true 5 l a) (fun _=>True) fun m=>
 (Ae (.flat 5) .eql k m).bind fun n=>
 Aj n (
 rP f (.bool false) a) (
 (Ae .none .add d (.int .i64 1)).bind fun o=>
 h [b,e,c,o] a)) (
 (Ae .none .add c (.int .i64 1)).bind fun p=>
 g [b,e,p] a)
noncomputable def Sh.f55 (d:Aa) (f:LK) (e a b:Ab) (c:Aa):Out:=
 (A5 a).bind fun g=>
 (Ae .none .lss b g).bind fun h=>
 Aj h (
 (At 1 a b).bind fun i=>
 (Ac false 1 i c).bind fun j=>
 (Ae .none .add b (.int .i64 1)).bind fun k=>
 (Ae .none .neq j k).bind fun l=>
 Aj l (
 rP d (.bool false) c) (
 (Ae .none .add b (.int .i64 1)).bind fun m=>
 f [e,a,m] c)) (
 (A5 a).bind fun n=>
 (A5 e).bind fun o=>
 (Ae .none .eql n o).bind fun p=>
 rP d p c)
noncomputable def Sh.f56 (b:Aa) (f:LK) (a e d:Ab) (c:Aa):Out:=
 (A5 a).bind fun g=>
 (Ae .none .lss d g).bind fun h=>
 Aj h (
 (Ae .none .add d (.int .i64 1)).bind fun i=>
 (At 1 e i).bind fun j=>
 (Ac false 1 j c).bind fun k=>
 Aj k (
 rP b (.bool false) c) (
 Ao (fun l vs H=>Sh.f54 b f l (ag vs 0) (ag vs 1) (ag vs 2) (ag vs 3) H) AQ [a,e,d,(.int .i64 0)] c)) (
 (A5 a).bind fun m=>
 bP b (Sh.ff AQ a m (.sl [] .tight) c) fun n o=>
 Ao (fun p vs H=>Sh.f55 b p (ag vs 0) (ag vs 1) (ag vs 2) H) AQ [a,n,(.int .i64 0)] o)
noncomputable def Sh.f57 (g:Ab) (a:Aa):Out:=
 Am (B8 true 1 g a) fun h d=>
 (Ad 0 h).bind fun i=>
 (Ac false 1 i d).bind fun b=>
 (A5 b).bind fun j=>
 (Ae .none .eql j (.int .i64 0)).bind fun k=>
 Aj k (
 rP a (.bool true) d) (
 bP a (Sh.f2s b d) fun l e=>
 (unA .not l).bind fun c=>
 gk c false (some b) fun m=>
 gk c false (some b) fun n=>
 gk c false (A5 n) fun o=>
 gbP a c false e (Sh.f2u m o e) fun p f=>
 (AI c (.bool true) p).bind fun q=>
 Aj q (
 rP a (.bool false) f) (
 bP a (Sh.f18 b f) fun r s=>
 Ao (fun t vs H=>Sh.f56 a t (ag vs 0) (ag vs 1) (ag vs 2) H) AQ [b,r,(.int .i64 0)] s))
noncomputable def Sh.f58 (f:Ab) (a:Aa):Out:=
 Am (B8 true 2 f a) fun d e=>
 (Ad 0 d).bind fun g=>
 (Ac false 1 g e).bind fun h=>
 bP a (Sh.f2r h e) fun b c=>
 gk b true (Ad 1 d) fun i=>
 gk b true (Ac true 1 i c) fun j=>
 gbP a b true c (Sh.f57 j c) fun k l=>
 (AI b k (.bool false)).bind fun m=>
 rP a m l
noncomputable def Sh.f2w (g:Ab) (f:Aa):Out:=
 Am (B8 true 2 g f) fun b a=>
 (Ad 0 b).bind fun h=>
 (Ac false 1 h a).bind fun i=>
 (Ae .none .geq i (.int .i64 0)).bind fun c=>
 gk c true (Ad 0 b) fun j=>
 gk c true (Ac false 1 j a) fun k=>
 gk c true (Ae .none .leq k (.int .i64 1000)) fun l=>
 (AI c l (.bool false)).bind fun d=>
 gk d true (Ad 1 b) fun m=>
 gk d true (Ac false 1 m a) fun n=>
 gk d true (Ae .none .geq n (.int .i64 0)) fun o=>
 (AI d o (.bool false)).bind fun e=>
 gk e true (Ad 1 b) fun p=>
 gk e true (Ac false 1 p a) fun q=>
 gk e true (Ae .none .leq q (.int .i64 100000)) fun r=>
 (AI e r (.bool false)).bind fun s=>
 rP f s a
noncomputable def Sh.f59 (d:Aa) (e:LK) (b:Ab) (c:Aa):Out:=
 (A5 b).bind fun f=>
 (Ae .none .gtr f (.int .i64 0)).bind fun a=>
 gk a true (some b) fun g=>
 gk a true (some b) fun h=>
 gk a true (A5 h) fun i=>
 gk a true (Ae .none .sub i (.int .i64 1)) fun j=>
 gk a true (At 1 g j) fun k=>
 gk a true (Ac false 1 k c) fun l=>
 gk a true (unA .not l) fun m=>
 (AI a m (.bool false)).bind fun n=>
 Aj n (
 (A5 b).bind fun o=>
 (Ae .none .sub o (.int .i64 1)).bind fun p=>
 (Bv 1 b none (some p) none).bind fun q=>
 e [q] c) (
 rKN d b c)
noncomputable def Sh.f1t (b:Ab) (a:Aa):Out:=
 Ao (fun c vs H=>Sh.f59 a c (ag vs 0) H) AQ [b] a
noncomputable def Sh.f75 (g:Aa) (h:LK) (i:LK) (a b c d e:Ab) (f:Aa):Out:=
 (Ae .none .lss e (.int .i64 32)).bind fun j=>
 Aj j (
 (Ae .none .rem d (.int .u32 2)).bind fun k=>
 (Ae .none .eql k (.int .u32 1)).bind fun l=>
 (AY 1 [l]).bind fun m=>
 bP g (BZ (AW BT 1 1 b m f)) fun n o=>
 (Ae .none .quo d (.int .u32 2)).bind fun p=>
 (Ae .none .add e (.int .i64 1)).bind fun q=>
 i [a,n,c,p,q] o) (
 (Ae .none .add c (.int .i64 1)).bind fun r=>
 h [a,b,r] f)
noncomputable def Sh.f2x (a:Aa) (f:LK) (b e c:Ab) (d:Aa):Out:=
 (A5 b).bind fun g=>
 (Ae .none .lss c g).bind fun h=>
 Aj h (
 (At 1 b c).bind fun i=>
 (Ac false 1 i d).bind fun j=>
 Ao (fun k vs H=>Sh.f75 a f k (ag vs 0) (ag vs 1) (ag vs 2) (ag vs 3) (ag vs 4) H) AQ [b,e,c,j,(.int .i64 0)] d) (
 bP a (Sh.f1t e d) fun l m=>
 rPN a l m)
noncomputable def Sh.f4 (b:Ab) (a:Aa):Out:=
 Ao (fun c vs H=>Sh.f2x a c (ag vs 0) (ag vs 1) (ag vs 2) H) AQ [b,(.sl [] .tight),(.int .i64 0)] a
noncomputable def Sh.f76 (k:Aa) (a:LK) (b c d e f g:Ab) (h:Aa):Out:=
 (Ae .none .mul f (.int .u32 2)).bind fun i=>
 (Ae .none .add g (.int .i64 1)).bind fun j=>
 a [b,c,d,e,i,j] h
noncomputable def Sh.f7o (i:Aa) (j:LK) (k:LK) (a f d g h b:Ab) (e:Aa):Out:=
 (A5 a).bind fun l=>
 (Ae .none .lss b l).bind fun c=>
 gk c true (some b) fun m=>
 gk c true (some d) fun n=>
 gk c true (Ae .none .add n (.int .i64 32)) fun o=>
 gk c true (Ae .none .lss m o) fun p=>
 (AI c p (.bool false)).bind fun q=>
 Aj q (
 AN (fun j3=>
 (At 1 a b).bind fun r=>
 (Ac false 1 r e).bind fun s=>
 Aj s (
 (Ae .none .add g h).bind fun t=>
 j3 [a,f,d,t,h,b] e) (
 j3 [a,f,d,g,h,b] e)) (fun vs H=>Sh.f76 i k (ag vs 0) (ag vs 1) (ag vs 2) (ag vs 3) (ag vs 4) (ag vs 5) H)) (
 (AY 1 [g]).bind fun u=>
 bP i (BZ (AW BX 1 4 f u e)) fun v w=>
 (Ae .none .add d (.int .i64 32)).bind fun x=>
 j [a,v,x] w)
noncomputable def Sh.f5a (b:Aa) (f:LK) (c d a:Ab) (e:Aa):Out:=
 (A5 c).bind fun g=>
 (Ae .none .lss a g).bind fun h=>
 Aj h (
 Ao (fun i vs H=>Sh.f7o b f i (ag vs 0) (ag vs 1) (ag vs 2) (ag vs 3) (ag vs 4) (ag vs 5) H) AQ [c,d,a,(.int .u32 0),(.int .u32 1),a] e) (
 rPN b d e)
noncomputable def Sh.fl (b:Ab) (a:Aa):Out:=
 bP a (Sh.f1t b a) fun c d=>
 Ao (fun e vs H=>Sh.f5a a e (ag vs 0) (ag vs 1) (ag vs 2) H) AQ [c,(.sl [] .tight),(.int .i64 0)] d
noncomputable def Sh.f19 (b:Ab) (a:Aa):Out:=
 bK a (Sh.f4 b a) fun c d=>
 bK a (Sh.fl c d) fun e f=>
 rKN a e f
noncomputable def Sh.fc (a f:Ab) (b:Aa):Out:=
 Am (Az (some [(.bool false),(.sl [] .tight)]) b) fun c g=>
 bP b (Sh.f19 f g) fun d h=>
 gk a true (some d) fun i=>
 gk a true (A5 i) fun j=>
 gk a true (Ae .none .gtr j (.int .i64 0)) fun k=>
 (AI a k (.bool false)).bind fun l=>
 (AD (some [(.bool false),(.sl [] .tight)]) [(0,1,l),(1,1,d)]).bind fun m=>
 bP b (AF (Ag 2 c m h)) fun _ e=>
 (Ac true 2 c e).bind fun n=>rPN b n e
noncomputable def Sh.f77 (a:Aa) (e b c:Ab) (f:Aa):Out:=
 (Ae .none .lss e (.int .i64 0)).bind fun g=>
 (Ae .none .rem c (.int .u64 4294967296)).bind fun h=>
 (AK .u32 h).bind fun i=>
 (Ae .none .quo c (.int .u64 4294967296)).bind fun j=>
 (AK .u32 j).bind fun k=>
 (AY 1 [i,k]).bind fun l=>
 bP a (Sh.fc g l f) fun m n=>
 bP a (AF (Ag 2 b m n)) fun _ d=>
 (Ac true 2 b d).bind fun o=>rPN a o d
noncomputable def Sh.fm (a:Ab) (b:Aa):Out:=
 Am (Az (some [(.bool false),(.sl [] .tight)]) b) fun c d=>
 (AK .u64 a).bind fun e=>
 AN (fun j1=>
 (Ae .none .lss a (.int .i64 0)).bind fun f=>
 Aj f (
 (unA .neg e).bind fun g=>
 j1 [a,c,g] d) (
 j1 [a,c,e] d)) (fun vs H=>Sh.f77 b (ag vs 0) (ag vs 1) (ag vs 2) H)
noncomputable def Sh.f5b (d a:Ab) (b:Aa):Out:=
 (Ae .none .lss a (.int .i64 0)).bind fun c=>
 gk c false (some a) fun e=>
 gk c false (Ae .none .gtr e (.int .i64 10000)) fun f=>
 (AI c (.bool true) f).bind fun g=>
 Aj g (
 rPN b (.sl [] .tight) b) (
 Bk (Sh.f4 d b) fun h i=>
 Am (Fi 1 1 (some [(.bool false)]) a a i) fun j k=>
 Bk (BZ (AW BT 1 1 j h k)) fun l m=>
 Bk (Sh.fl l m) fun n o=>
 rPN b n o)
noncomputable def Sh.f5c (i j:Ab) (a:Aa):Out:=
 Am (B8 true 2 i a) fun d k=>
 Am (Az (some [(.bool false),(.sl [] .tight)]) k) fun e b=>
 (Ad 1 d).bind fun l=>
 bC (Ac false 1 l b) (fun _=>True) fun m=>
 Bk (Sh.f5b m j b) fun n f=>
 (Ad 0 d).bind fun g=>
 bC (Ac false 1 g f) (fun c=>Ac false 1 g b=some c∧True) fun c=>
 Bk (Sh.fc c n f) fun o p=>
 bP a (AF (Ag 2 e o p)) fun _ h=>
 (Ac true 2 e h).bind fun q=>rPN a q h
noncomputable def Sh.f5 (d:Ab) (a:Aa):Out:=
 Am (Az (some [(.bool false),(.sl [] .tight)]) a) fun b e=>
 bP a (Sh.fm (.int .i64 1) e) fun f g=>
 bP a (Sh.f5c f d g) fun h i=>
 bP a (AF (Ag 2 b h i)) fun _ c=>
 (Ac true 2 b c).bind fun j=>rPN a j c
noncomputable def Sh.f6 (e c:Ab) (d:Aa):Out:=
 (Ae .none .geq c (.int .i64 0)).bind fun a=>
 gk a true (some c) fun f=>
 gk a true (some e) fun g=>
 gk a true (A5 g) fun h=>
 gk a true (Ae .none .lss f h) fun i=>
 (AI a i (.bool false)).bind fun b=>
 gk b true (some e) fun j=>
 gk b true (some c) fun k=>
 gk b true (At 1 j k) fun l=>
 gk b true (Ac false 1 l d) fun m=>
 (AI b m (.bool false)).bind fun n=>
 rK d n d
noncomputable def Sh.f7p (b:Aa) (c:LK) (d e f g a:Ab) (h:Aa):Out:=
 (Ae .none .rem a (.int .i64 2)).bind fun i=>
 (Ae .none .eql i (.int .i64 1)).bind fun j=>
 (AY 1 [j]).bind fun k=>
 bP b (BZ (AW BT 1 1 f k h)) fun l m=>
 (Ae .none .gtr a (.int .i64 1)).bind fun n=>
 (Ae .none .add g (.int .i64 1)).bind fun o=>
 c [d,e,l,n,o] m
noncomputable def Sh.f7q (g:Aa) (h:LK) (a b c i d e:Ab) (f:Aa):Out:=
 AN (fun j4=>
 Aj i (
 (Ae .none .add e (.int .i64 1)).bind fun j=>
 j4 [a,b,c,d,j] f) (
 j4 [a,b,c,d,e] f)) (fun vs H=>Sh.f7p g h (ag vs 0) (ag vs 1) (ag vs 2) (ag vs 3) (ag vs 4) H)
noncomputable def Sh.f7r (c:Aa) (i:LK) (d a e f b g:Ab) (j:Aa):Out:=
 AN (fun j3=>
 bP c (Sh.f6 a b j) fun k h=>
 Aj k (
 (Ae .none .add g (.int .i64 1)).bind fun l=>
 j3 [d,a,e,f,b,l] h) (
 j3 [d,a,e,f,b,g] h)) (fun vs H=>Sh.f7q c i (ag vs 0) (ag vs 1) (ag vs 2) (ag vs 3) (ag vs 4) (ag vs 5) H)
noncomputable def Sh.f7s (a:Aa) (i:LK) (b d e f c:Ab) (g:Aa):Out:=
 (A5 b).bind fun j=>
 (A5 d).bind fun k=>
 (Hm J3 j [k]).bind fun l=>
 (Ae .none .leq c l).bind fun m=>
 Aj m (
 AN (fun j2=>
 bP a (Sh.f6 b c g) fun n h=>
 Aj n (
 (Ae .none .add (.int .i64 0) (.int .i64 1)).bind fun o=>
 j2 [b,d,e,f,c,o] h) (
 j2 [b,d,e,f,c,(.int .i64 0)] h)) (fun vs H=>Sh.f7r a i (ag vs 0) (ag vs 1) (ag vs 2) (ag vs 3) (ag vs 4) (ag vs 5) H)) (
 bP a (Sh.fl e g) fun p q=>
 rPN a p q)
noncomputable def Sh.f5d (b c:Ab) (a:Aa):Out:=
 bP a (Sh.f4 b a) fun d e=>
 bP a (Sh.f4 c e) fun f g=>
 Ao (fun h vs H=>Sh.f7s a h (ag vs 0) (ag vs 1) (ag vs 2) (ag vs 3) (ag vs 4) H) AQ [d,f,(.sl [] .tight),(.bool false),(.int .i64 0)] g
noncomputable def Sh.f7t (a:Aa) (h:LK) (c d b:Ab) (e:Aa):Out:=
 (Ae .none .geq b (.int .i64 0)).bind fun i=>
 Aj i (
 bK a (Sh.f6 c b e) fun j k=>
 bK a (Sh.f6 d b k) fun l f=>
 (Ae .bool .neq j l).bind fun m=>
 Aj m (
 bK a (Sh.f6 c b f) fun n g=>
 Aj n (
 rK a (.int .i64 1) g) (
 rK a (.int .i64 (-1)) g)) (
 (Ae .none .sub b (.int .i64 1)).bind fun o=>
 h [c,d,o] f)) (
 rK a (.int .i64 0) e)
noncomputable def Sh.f5e (d e:Ab) (a:Aa):Out:=
 bK a (Sh.f4 d a) fun b f=>
 bK a (Sh.f4 e f) fun c g=>
 (A5 b).bind fun h=>
 (A5 c).bind fun i=>
 (Hm J3 h [i]).bind fun j=>
 (Ae .none .sub j (.int .i64 1)).bind fun k=>
 Ao (fun l vs H=>Sh.f7t a l (ag vs 0) (ag vs 1) (ag vs 2) H) AQ [b,c,k] g
noncomputable def Sh.f7u (a:Aa) (b:LK) (c d e f g h:Ab) (i:Aa):Out:=
 (Ae .none .eql h (.int .i64 1)).bind fun j=>
 (AY 1 [j]).bind fun k=>
 bP a (BZ (AW BT 1 1 e k i)) fun l m=>
 (Ae .none .add g (.int .i64 1)).bind fun n=>
 b [c,d,l,f,n] m
noncomputable def Sh.f7v (g:Aa) (h:LK) (b c d e a:Ab) (f:Aa):Out:=
 AN (fun j4=>
 (Ae .none .lss a (.int .i64 0)).bind fun i=>
 Aj i (
 (Ae .none .add a (.int .i64 2)).bind fun j=>
 j4 [b,c,d,(.int .i64 1),e,j] f) (
 j4 [b,c,d,(.int .i64 0),e,a] f)) (fun vs H=>Sh.f7u g h (ag vs 0) (ag vs 1) (ag vs 2) (ag vs 3) (ag vs 4) (ag vs 5) H)
noncomputable def Sh.f7w (c:Aa) (h:LK) (d a e b f:Ab) (i:Aa):Out:=
 AN (fun j3=>
 bP c (Sh.f6 a b i) fun j g=>
 Aj j (
 (Ae .none .sub f (.int .i64 1)).bind fun k=>
 j3 [d,a,e,b,k] g) (
 j3 [d,a,e,b,f] g)) (fun vs H=>Sh.f7v c h (ag vs 0) (ag vs 1) (ag vs 2) (ag vs 3) (ag vs 4) H)
noncomputable def Sh.f7x (a:Aa) (i:LK) (b e d j c:Ab) (f:Aa):Out:=
 (A5 b).bind fun k=>
 (Ae .none .lss c k).bind fun l=>
 Aj l (
 (unA .neg j).bind fun g=>
 AN (fun j2=>
 bP a (Sh.f6 b c f) fun m h=>
 Aj m (
 (Ae .none .add g (.int .i64 1)).bind fun n=>
 j2 [b,e,d,c,n] h) (
 j2 [b,e,d,c,g] h)) (fun vs H=>Sh.f7w a i (ag vs 0) (ag vs 1) (ag vs 2) (ag vs 3) (ag vs 4) H)) (
 bP a (Sh.fl d f) fun o p=>
 rPN a (.tup [o,(.bool true)]) p)
noncomputable def Sh.f2y (b c:Ab) (a:Aa):Out:=
 bP a (Sh.f5e b c a) fun e d=>
 (Ae .none .lss e (.int .i64 0)).bind fun f=>
 Aj f (
 rPN a (.tup [(.sl [] .tight),(.bool false)]) d) (
 bP a (Sh.f4 b d) fun g h=>
 bP a (Sh.f4 c h) fun i j=>
 Ao (fun k vs H=>Sh.f7x a k (ag vs 0) (ag vs 1) (ag vs 2) (ag vs 3) (ag vs 4) H) AQ [g,i,(.sl [] .tight),(.int .i64 0),(.int .i64 0)] j)
noncomputable def Sh.f0 (p q:Ab) (a:Aa):Out:=
 Am (B8 true 2 p a) fun c r=>
 Am (B8 true 2 q r) fun e s=>
 Am (Az (some [(.bool false),(.sl [] .tight)]) s) fun d b=>
 (Ad 0 c).bind fun t=>
 (Ac false 1 t b).bind fun u=>
 (Ad 0 e).bind fun v=>
 (Ac false 1 v b).bind fun w=>
 (Ae .bool .eql u w).bind fun x=>
 Aj x (
 (Ad 1 c).bind fun y=>
 bC (Ac false 1 y b) (fun _=>True) fun z=>
 (Ad 1 e).bind fun aa=>
 bC (Ac false 1 aa b) (fun _=>True) fun ab=>
 Bk (Sh.f5d z ab b) fun ac h=>
 (Ad 0 c).bind fun i=>
 bC (Ac false 1 i h) (fun g=>Ac false 1 i b=some g∧True) fun g=>
 Bk (Sh.fc g ac h) fun ad ae=>
 bP a (AF (Ag 2 d ad ae)) fun _ j=>
 (Ac true 2 d j).bind fun aj=>rPN a aj j) (
 (Ad 1 c).bind fun ak=>
 (Ac false 1 ak b).bind fun al=>
 (Ad 1 e).bind fun am=>
 (Ac false 1 am b).bind fun an=>
 bP a (Sh.f2y al an b) fun k f=>
 (Av 0 k).bind fun ap=>
 (Av 1 k).bind fun aq=>
 Aj aq (
 (Ad 0 c).bind fun ar=>
 (Ac false 1 ar f).bind fun au=>
 bP a (Sh.fc au ap f) fun av aw=>
 bP a (AF (Ag 2 d av aw)) fun _ l=>
 (Ac true 2 d l).bind fun ax=>rPN a ax l) (
 (Ad 1 e).bind fun ay=>
 (Ac false 1 ay f).bind fun az=>
 (Ad 1 c).bind fun a0=>
 (Ac false 1 a0 f).bind fun a1=>
 bP a (Sh.f2y az a1 f) fun m n=>
 (Av 0 m).bind fun a2=>
 (Av 1 m).bind fun a8=>
 (Ad 0 e).bind fun a3=>
 (Ac false 1 a3 n).bind fun a4=>
 bP a (Sh.fc a4 a2 n) fun a5 a6=>
 bP a (AF (Ag 2 d a5 a6)) fun _ o=>
 (Ac true 2 d o).bind fun a7=>rPN a a7 o))
noncomputable def Sh.fg (f:Ab) (a:Aa):Out:=
 Am (B8 true 2 f a) fun c g=>
 Am (Az (some [(.bool false),(.sl [] .tight)]) g) fun d b=>
 (Ad 0 c).bind fun h=>
 (Ac false 1 h b).bind fun i=>
 (unA .not i).bind fun j=>
 (Ad 1 c).bind fun k=>
 (Ac false 1 k b).bind fun l=>
 bP a (Sh.fc j l b) fun m n=>
 bP a (AF (Ag 2 d m n)) fun _ e=>
 (Ac true 2 d e).bind fun o=>rPN a o e
noncomputable def Sh.fu (h i:Ab) (a:Aa):Out:=
 Am (B8 true 2 h a) fun d j=>
 Am (B8 true 2 i j) fun k l=>
 Am (Az (some [(.bool false),(.sl [] .tight)]) l) fun e b=>
 bC (Ac true 2 k b) (fun _=>True) fun m=>
 Bk (Sh.fg m b) fun n f=>
 bC (Ac true 2 d f) (fun c=>Ac true 2 d b=some c∧True) fun c=>
 Bk (Sh.f0 c n f) fun o p=>
 bP a (AF (Ag 2 e o p)) fun _ g=>
 (Ac true 2 e g).bind fun q=>rPN a q g
noncomputable def Sh.f2 (e f:Ab) (a:Aa):Out:=
 Am (B8 true 2 e a) fun g h=>
 Am (B8 true 2 f h) fun i c=>
 (Ac true 2 g c).bind fun j=>
 (Ac true 2 i c).bind fun k=>
 bP a (Sh.fu j k c) fun l m=>
 Am (Az (some [(.bool false),(.sl [] .tight)]) m) fun d n=>
 bP a (AF (Ag 2 d l n)) fun _ b=>
 (Ad 1 d).bind fun o=>
 (Ac false 1 o b).bind fun p=>
 (A5 p).bind fun q=>
 (Ae .none .eql q (.int .i64 0)).bind fun r=>
 Aj r (
 rP a (.int .i64 0) b) (
 (Ad 0 d).bind fun s=>
 (Ac false 1 s b).bind fun t=>
 Aj t (
 rP a (.int .i64 (-1)) b) (
 rP a (.int .i64 1) b))
noncomputable def Sh.f1a (l:Aa) (a:LK) (b c d e f g h i:Ab) (j:Aa):Out:=
 (Ae .none .add i (.int .i64 1)).bind fun k=>
 a [b,c,d,e,f,g,h,k] j
noncomputable def Sh.f2z (m:Aa) (j3:LK) (f g h b c i j k l:Ab) (d:Aa):Out:=
 (unA .not j).bind fun a=>
 gkc a false (Ac true 2 l d) (fun _ _=>True) fun n=>
 gk a false (some b) fun o=>
 gk a false (some c) fun p=>
 gk a false (Ae .none .add p (.int .i64 1)) fun q=>
 gk a false (At 2 o q) fun r=>
 gkc a false (Ac true 2 r d) (fun _ _=>True) fun s=>
 gbN a false d (Sh.f2 n s d) fun t e=>
 gk a false (Ae .none .lss t (.int .i64 0)) fun u=>
 (AI a (.bool true) u).bind fun v=>
 Aj v (
 (Ae .none .add c (.int .i64 1)).bind fun w=>
 bC (Ac true 2 l e) (fun _=>True) fun x=>
 (At 2 b w).bind fun y=>
 bP m (AF (Ag 2 y x e)) fun _ z=>
 j3 [f,g,h,b,c,i,(.bool true),k] z) (
 j3 [f,g,h,b,c,i,j,k] e)
noncomputable def Sh.f5f (g:Aa) (j3:LK) (a h i d b j k l o m:Ab) (e:Aa):Out:=
 (At 5 a b).bind fun p=>
 (Ad 1 p).bind fun q=>
 (BP 4 1 q o).bind fun r=>
 (Ac false 1 r e).bind fun n=>
 (Ae .none .eql n (.int .i64 0)).bind fun s=>
 Aj s (
 j3 [a,h,i,d,b,j,k,l] e) (
 (Ac true 2 m e).bind fun t=>
 Am (Az (some [(.bool false),(.sl [] .tight)]) e) fun f u=>
 bP g (AF (Ag 2 f t u)) fun _ c=>
 AN (fun j5=>
 (At 5 a b).bind fun v=>
 (Ad 0 v).bind fun w=>
 (Ac false 1 w c).bind fun x=>
 (Ae .none .gtr x (.int .i64 1)).bind fun y=>
 Aj y (
 bC (Ac true 2 m c) (fun _=>True) fun z=>
 (At 2 d n).bind fun aa=>
 bC (Ac true 2 aa c) (fun _=>True) fun ab=>
 Bk (Sh.f0 z ab c) fun ac ad=>
 bP g (AF (Ag 2 f ac ad)) fun _ ae=>
 j5 [a,h,i,d,b,j,k,l,f] ae) (
 j5 [a,h,i,d,b,j,k,l,f] c)) (fun vs H=>Sh.f2z g j3 (ag vs 0) (ag vs 1) (ag vs 2) (ag vs 3) (ag vs 4) (ag vs 5) (ag vs 6) (ag vs 7) (ag vs 8) H))
noncomputable def Sh.f5g (b:Aa) (m:LK) (n:LK) (g c d h i j l a:Ab) (k:Aa):Out:=
 (Ae .none .lss a (.int .i64 4)).bind fun o=>
 Aj o (
 AN (fun j3=>
 (Ae .none .rem a (.int .i64 2)).bind fun p=>
 (BP 2 1 c p).bind fun q=>
 (Ac false 1 q k).bind fun r=>
 (AD (some [(.bool false),(.sl [] .tight)]) []).bind fun s=>
 Am (Az (some [(.bool false),(.sl [] .tight)]) k) fun e t=>
 bP b (AF (Ag 2 e s t)) fun _ f=>
 AN (fun j4=>
 (Ae .none .gtr a (.int .i64 1)).bind fun u=>
 Aj u (
 (Ae .none .rem a (.int .i64 2)).bind fun v=>
 (BP 2 1 d v).bind fun w=>
 bC (Ac false 1 w f) (fun _=>True) fun x=>
 bC (Ac true 2 j f) (fun _=>True) fun y=>
 bP b (AF (Ag 2 e y f)) fun _ z=>
 j4 [g,c,d,h,i,j,l,a,x,e] z) (
 j4 [g,c,d,h,i,j,l,a,r,e] f)) (fun vs H=>Sh.f5f b j3 (ag vs 0) (ag vs 1) (ag vs 2) (ag vs 3) (ag vs 4) (ag vs 5) (ag vs 6) (ag vs 7) (ag vs 8) (ag vs 9) H)) (fun vs H=>Sh.f1a b n (ag vs 0) (ag vs 1) (ag vs 2) (ag vs 3) (ag vs 4) (ag vs 5) (ag vs 6) (ag vs 7) H)) (
 (Ae .none .add i (.int .i64 1)).bind fun aa=>
 m [g,c,d,h,aa] k)
noncomputable def Sh.f5h (a:Aa) (g:LK) (b h i e c:Ab) (d:Aa):Out:=
 (A5 b).bind fun j=>
 (Ae .none .lss c j).bind fun k=>
 Aj k (
 (At 5 b c).bind fun l=>
 (Ad 0 l).bind fun m=>
 (Ac false 1 m d).bind fun n=>
 (Ae .none .sub n (.int .i64 1)).bind fun o=>
 bP a (Sh.f5 o d) fun p q=>
 Am (Az (some [(.bool false),(.sl [] .tight)]) q) fun f r=>
 bP a (AF (Ag 2 f p r)) fun _ s=>
 Ao (fun t vs H=>Sh.f5g a g t (ag vs 0) (ag vs 1) (ag vs 2) (ag vs 3) (ag vs 4) (ag vs 5) (ag vs 6) (ag vs 7) H) AQ [b,h,i,e,c,f,(.bool false),(.int .i64 0)] s) (
 rPN a e d)
noncomputable def Sh.f1b (a d e:Ab) (b:Aa):Out:=
 Am (B8 true 2 d b) fun f g=>
 Am (B8 true 2 e g) fun h i=>
 (A5 a).bind fun j=>
 (Ae .none .add j (.int .i64 1)).bind fun c=>
 Am (Fi 2 32 (some [(.bool false),(.sl [] .tight)]) c c i) fun k l=>
 Ao (fun m vs H=>Sh.f5h b m (ag vs 0) (ag vs 1) (ag vs 2) (ag vs 3) (ag vs 4) H) AQ [a,f,h,k,(.int .i64 0)] l
noncomputable def Sh.f1u (d:Ab) (b:Aa):Out:=
 Am (B8 true 1 d b) fun c a=>
 (Ad 0 c).bind fun e=>
 (Ac false 1 e a).bind fun f=>
 (A5 f).bind fun g=>
 (Ae .none .eql g (.int .i64 0)).bind fun h=>
 Aj h (
 rP b (.int .i64 0) a) (
 (Ad 0 c).bind fun i=>
 (Ac false 1 i a).bind fun j=>
 (Ad 0 c).bind fun k=>
 (Ac false 1 k a).bind fun l=>
 (A5 l).bind fun m=>
 (Ae .none .sub m (.int .i64 1)).bind fun n=>
 (At 5 j n).bind fun o=>
 (Ad 0 o).bind fun p=>
 (Ac false 1 p a).bind fun q=>
 rP b q a)
noncomputable def Sh.f1v (ap:Ab) (a:Aa):Out:=
 Am (B8 true 1 ap a) fun h aq=>
 Am (Az (some [(.bool false),(.sl [] .tight),(.bool false),(.sl [] .tight),(.bool false),(.sl [] .tight),(.bool false),(.sl [] .tight)]) aq) fun p q=>
 (Ad 0 h).bind fun ar=>
 (Ac false 1 ar q).bind fun au=>
 (A5 au).bind fun l=>
 (Ae .none .eql l (.int .i64 0)).bind fun av=>
 Aj av (
 (AD (some [(.bool false),(.sl [] .tight),(.bool false),(.sl [] .tight),(.bool false),(.sl [] .tight),(.bool false),(.sl [] .tight)]) []).bind fun aw=>
 bP a (AF (Ag 8 p aw q)) fun _ y=>
 (Fy [Ac true 8 p y,some (.bool false)]).bind fun ax=>rPN a ax y) (
 (Ad 0 h).bind fun ay=>
 (Ac false 1 ay q).bind fun az=>
 (AD (some [(.int .i64 0),(.int .i64 0)]) [(0,1,(.int .i64 0)),(1,1,(.int .i64 2))]).bind fun a0=>
 (AD (some [(.int .i64 0),(.int .i64 0)]) [(0,1,(.int .i64 1)),(1,1,(.int .i64 3))]).bind fun a1=>
 bP a (Sh.f1b az a0 a1 q) fun a2 z=>
 (At 2 a2 l).bind fun a3=>
 (Ac true 2 a3 z).bind fun a4=>
 Am (Az (some [(.bool false),(.sl [] .tight)]) z) fun m a5=>
 bP a (AF (Ag 2 m a4 a5)) fun _ aa=>
 (Ad 0 h).bind fun a6=>
 (Ac false 1 a6 aa).bind fun a7=>
 (AD (some [(.int .i64 0),(.int .i64 0)]) [(0,1,(.int .i64 1)),(1,1,(.int .i64 3))]).bind fun a8=>
 (AD (some [(.int .i64 0),(.int .i64 0)]) [(0,1,(.int .i64 0)),(1,1,(.int .i64 2))]).bind fun a9=>
 bP a (Sh.f1b a7 a8 a9 aa) fun ba ab=>
 (At 2 ba l).bind fun bb=>
 (Ac true 2 bb ab).bind fun bc=>
 Am (Az (some [(.bool false),(.sl [] .tight)]) ab) fun r bd=>
 bP a (AF (Ag 2 r bc bd)) fun _ ac=>
 (Ad 0 h).bind fun be=>
 (Ac false 1 be ac).bind fun bg=>
 (AD (some [(.int .i64 0),(.int .i64 0)]) [(0,1,(.int .i64 0)),(1,1,(.int .i64 1))]).bind fun bj=>
 (AD (some [(.int .i64 0),(.int .i64 0)]) [(0,1,(.int .i64 2)),(1,1,(.int .i64 3))]).bind fun bk=>
 bP a (Sh.f1b bg bj bk ac) fun bl ad=>
 (At 2 bl l).bind fun bm=>
 (Ac true 2 bm ad).bind fun bp=>
 Am (Az (some [(.bool false),(.sl [] .tight)]) ad) fun e bq=>
 bP a (AF (Ag 2 e bp bq)) fun _ ae=>
 (Ad 0 h).bind fun br=>
 (Ac false 1 br ae).bind fun bt=>
 (AD (some [(.int .i64 0),(.int .i64 0)]) [(0,1,(.int .i64 2)),(1,1,(.int .i64 3))]).bind fun bu=>
 (AD (some [(.int .i64 0),(.int .i64 0)]) [(0,1,(.int .i64 0)),(1,1,(.int .i64 1))]).bind fun bv=>
 bP a (Sh.f1b bt bu bv ae) fun bw aj=>
 (At 2 bw l).bind fun bz=>
 (Ac true 2 bz aj).bind fun b0=>
 Am (Az (some [(.bool false),(.sl [] .tight)]) aj) fun i b1=>
 bP a (AF (Ag 2 i b0 b1)) fun _ ak=>
 (Ac true 1 h ak).bind fun b2=>
 bP a (Sh.f1u b2 ak) fun al b3=>
 bP a (Sh.f5 al b3) fun b4 b5=>
 (Ae .none .sub al (.int .i64 1)).bind fun b6=>
 bP a (Sh.f5 b6 b5) fun b7 b8=>
 bP a (Sh.fg b7 b8) fun b9 ca=>
 Am (Az (some [(.bool false),(.sl [] .tight)]) ca) fun b cb=>
 Am (Az (some [(.bool false),(.sl [] .tight)]) cb) fun s cc=>
 bP a (AF (Ag 2 b b4 cc)) fun _ cd=>
 bP a (AF (Ag 2 s b9 cd)) fun _ c=>
 bC (Ac true 2 s c) (fun _=>True) fun ce=>
 bC (Ac true 2 m c) (fun _=>True) fun cg=>
 Bk (Sh.f0 ce cg c) fun cj d=>
 bC (Ac true 2 s d) (fun w=>Ac true 2 s c=some w∧True) fun w=>
 bC (Ac true 2 e d) (fun x=>Ac true 2 e c=some x∧True) fun x=>
 Bk (Sh.f0 w x d) fun ck f=>
 bC (Ac true 2 m f) (fun t=>Ac true 2 m d=some t∧Ac true 2 m c=some t∧True) fun t=>
 bC (Ac true 2 r f) (fun u=>Ac true 2 r d=some u∧Ac true 2 r c=some u∧True) fun u=>
 Bk (Sh.f0 t u f) fun cl n=>
 bC (Ac true 2 b n) (fun o=>Ac true 2 b f=some o∧Ac true 2 b d=some o∧Ac true 2 b c=some o∧True) fun o=>
 Bk (Sh.fu o cl n) fun cm v=>
 bC (Ac true 2 e v) (fun j=>Ac true 2 e n=some j∧Ac true 2 e f=some j∧Ac true 2 e d=some j∧Ac true 2 e c=some j∧True) fun j=>
 bC (Ac true 2 i v) (fun k=>Ac true 2 i n=some k∧Ac true 2 i f=some k∧Ac true 2 i d=some k∧Ac true 2 i c=some k∧True) fun k=>
 Bk (Sh.f0 j k v) fun cn am=>
 bC (Ac true 2 b am) (fun g=>Ac true 2 b v=some g∧Ac true 2 b n=some g∧Ac true 2 b f=some g∧Ac true 2 b d=some g∧Ac true 2 b c=some g∧True) fun g=>
 Bk (Sh.fu g cn am) fun cp cq=>
 (AD (some [(.bool false),(.sl [] .tight),(.bool false),(.sl [] .tight),(.bool false),(.sl [] .tight),(.bool false),(.sl [] .tight)]) [(0,2,cj),(2,2,ck),(4,2,cm),(6,2,cp)]).bind fun cr=>
 Bk (AF (Ag 8 p cr cq)) fun _ an=>
 (Fy [Ac true 8 p an,some (.bool true)]).bind fun ct=>rPN a ct an)
noncomputable def Sh.f5i (p i:Ab) (c:Aa):Out:=
 Am (B8 true 1 p c) fun q j=>
 (Ac true 1 q j).bind fun r=>
 bP c (Sh.f1v r j) fun k s=>
 (Av 0 k).bind fun t=>
 (Av 1 k).bind fun ad=>
 Am (Az (some [(.bool false),(.sl [] .tight),(.bool false),(.sl [] .tight),(.bool false),(.sl [] .tight),(.bool false),(.sl [] .tight)]) s) fun d u=>
 bP c (AF (Ag 8 d t u)) fun _ l=>
 Bk (Sh.fm i l) fun v m=>
 (Ad 4 d).bind fun n=>
 bC (Ac true 2 n m) (fun e=>Ac true 2 n l=some e∧True) fun e=>
 Bk (Sh.f2 e v m) fun w f=>
 (Ae .none .leq w (.int .i64 0)).bind fun a=>
 gk a true (some i) fun x=>
 gbN a true f (Sh.fm x f) fun y g=>
 gk a true (Ad 6 d) fun o=>
 gkc a true (Ac true 2 o g) (fun b h=>gR b (Ac true 2 o f)=some h∧True) fun h=>
 gbN a true g (Sh.f2 h y g) fun z aa=>
 gk a true (Ae .none .leq z (.int .i64 0)) fun ab=>
 (AI a ab (.bool false)).bind fun ac=>
 rP c ac aa
noncomputable def Sh.f30 (z:Aa) (g:LK) (h:LK) (c f d e:Ab) (b:Aa):Out:=
 (Ae .none .lss e (.int .i64 4)).bind fun a=>
 gk a true (Ad 0 c) fun i=>
 gk a true (Ac false 1 i b) fun j=>
 gk a true (some d) fun k=>
 gk a true (At 5 j k) fun l=>
 gk a true (Ad 0 l) fun m=>
 gk a true (Ac false 1 m b) fun n=>
 gk a true (Ae .none .eql n (.int .i64 1)) fun o=>
 (AI a o (.bool false)).bind fun p=>
 Aj p (
 (Ad 0 c).bind fun q=>
 (Ac false 1 q b).bind fun r=>
 (At 5 r d).bind fun s=>
 (Ad 1 s).bind fun t=>
 (BP 4 1 t e).bind fun u=>
 (Ac false 1 u b).bind fun v=>
 (Hm J3 f [v]).bind fun w=>
 (Ae .none .add e (.int .i64 1)).bind fun x=>
 h [c,w,d,x] b) (
 (Ae .none .add d (.int .i64 1)).bind fun y=>
 g [c,f,y] b)
noncomputable def Sh.f5j (b:Aa) (f:LK) (c d e:Ab) (a:Aa):Out:=
 (Ad 0 c).bind fun g=>
 (Ac false 1 g a).bind fun h=>
 (A5 h).bind fun i=>
 (Ae .none .lss e i).bind fun j=>
 Aj j (
 Ao (fun k vs H=>Sh.f30 b f k (ag vs 0) (ag vs 1) (ag vs 2) (ag vs 3) H) AQ [c,d,e,(.int .i64 0)] a) (
 (AK .u8 d).bind fun l=>
 rP b l a)
noncomputable def Sh.f31 (b:Ab) (a:Aa):Out:=
 Am (B8 true 1 b a) fun c d=>
 Ao (fun e vs H=>Sh.f5j a e (ag vs 0) (ag vs 1) (ag vs 2) H) AQ [c,(.int .i64 0),(.int .i64 0)] d
noncomputable def Sh.fn (e g h:Ab) (a:Aa):Out:=
 Am (B8 true 2 g a) fun f i=>
 Am (B8 true 2 h i) fun j c=>
 (Ae .none .eql e (.int .i64 5)).bind fun k=>
 Aj k (
 rP a (.bool true) c) (
 (Ad 1 f).bind fun l=>
 (Ac true 1 l c).bind fun m=>
 (Ad 0 j).bind fun n=>
 (Ac false 1 n c).bind fun o=>
 bP a (Sh.f5i m o c) fun p d=>
 (unA .not p).bind fun q=>
 Aj q (
 rP a (.bool false) d) (
 (Ae .none .eql e (.int .i64 4)).bind fun b=>
 gk b false (Ad 1 f) fun r=>
 gk b false (Ac true 1 r d) fun s=>
 gbP a b false d (Sh.f31 s d) fun t u=>
 gk b false (Ae .none .leq t (.int .u8 1)) fun v=>
 (AI b (.bool true) v).bind fun w=>
 rP a w u))
noncomputable def Sh.f5k (g k l:Ab) (a:Aa):Out:=
 Am (B8 true 2 k a) fun h m=>
 Am (B8 true 2 l m) fun i n=>
 bP a (Sh.f4v g n) fun o e=>
 (unA .not o).bind fun b=>
 gk b false (Ac true 2 h e) fun p=>
 gbP a b false e (Sh.f58 p e) fun q f=>
 gk b false (unA .not q) fun r=>
 (AI b (.bool true) r).bind fun c=>
 gk c false (Ac true 2 i f) fun s=>
 gbP a c false f (Sh.f2w s f) fun t d=>
 gk c false (unA .not t) fun u=>
 (AI c (.bool true) u).bind fun v=>
 Aj v (
 rP a (.int .i64 1) d) (
 (Ac true 2 h d).bind fun w=>
 (Ac true 2 i d).bind fun x=>
 bP a (Sh.fn g w x d) fun y j=>
 (unA .not y).bind fun z=>
 Aj z (
 rP a (.int .i64 5) j) (
 rP a (.int .i64 0) j))
noncomputable def Sh.f5l (h:Aa) (a:LK) (b c d e:Ab) (f:Aa):Out:=
 (Ae .none .add e (.int .i64 1)).bind fun g=>
 a [b,c,d,g] f
noncomputable def Sh.f5m (f:Aa) (k:LK) (l:LK) (d b a e:Ab) (c:Aa):Out:=
 (Ae .none .lss e (.int .i64 4)).bind fun m=>
 Aj m (
 AN (fun j3=>
 (At 5 d a).bind fun n=>
 (Ad 1 n).bind fun o=>
 (BP 4 1 o e).bind fun p=>
 (Ac false 1 p c).bind fun h=>
 (At 5 d a).bind fun q=>
 (Ad 0 q).bind fun r=>
 (Ac false 1 r c).bind fun s=>
 (Ae .none .gtr s (.int .i64 1)).bind fun t=>
 Aj t (
 (Ae .none .add a (.int .i64 1)).bind fun u=>
 (At 2 b u).bind fun v=>
 bC (Ac true 2 v c) (fun _=>True) fun w=>
 (At 2 b h).bind fun x=>
 bC (Ac true 2 x c) (fun _=>True) fun y=>
 Bk (Sh.f0 w y c) fun z aa=>
 (Ae .none .add a (.int .i64 1)).bind fun ab=>
 (At 2 b ab).bind fun ac=>
 bP f (AF (Ag 2 ac z aa)) fun _ ad=>
 j3 [d,b,a,e] ad) (
 (Ae .none .gtr h (.int .i64 0)).bind fun ae=>
 Aj ae (
 Bk (Sh.fm (.int .i64 1) c) fun aj i=>
 (Ae .none .add a (.int .i64 1)).bind fun ak=>
 (At 2 b ak).bind fun j=>
 bC (Ac true 2 j i) (fun g=>Ac true 2 j c=some g∧True) fun g=>
 Bk (Sh.f0 g aj i) fun al am=>
 (Ae .none .add a (.int .i64 1)).bind fun an=>
 (At 2 b an).bind fun ap=>
 bP f (AF (Ag 2 ap al am)) fun _ aq=>
 j3 [d,b,a,e] aq) (
 j3 [d,b,a,e] c))) (fun vs H=>Sh.f5l f l (ag vs 0) (ag vs 1) (ag vs 2) (ag vs 3) H)) (
 (Ae .none .add a (.int .i64 1)).bind fun ar=>
 k [d,b,ar] c)
noncomputable def Sh.f5n (a:Aa) (f:LK) (b c d:Ab) (e:Aa):Out:=
 (A5 b).bind fun g=>
 (Ae .none .lss d g).bind fun h=>
 Aj h (
 Ao (fun i vs H=>Sh.f5m a f i (ag vs 0) (ag vs 1) (ag vs 2) (ag vs 3) H) AQ [b,c,d,(.int .i64 0)] e) (
 rPN a c e)
noncomputable def Sh.f5o (a:Ab) (b:Aa):Out:=
 (A5 a).bind fun d=>
 (Ae .none .add d (.int .i64 1)).bind fun c=>
 Am (Fi 2 32 (some [(.bool false),(.sl [] .tight)]) c c b) fun e f=>
 Ao (fun g vs H=>Sh.f5n b g (ag vs 0) (ag vs 1) (ag vs 2) H) AQ [a,e,(.int .i64 0)] f
noncomputable def Sh.f5p (i:Ab) (a:Aa):Out:=
 Am (B8 true 1 i a) fun e j=>
 Am (Az (some [(.bool false),(.sl [] .tight)]) j) fun f b=>
 (Ad 0 e).bind fun k=>
 bC (Ac false 1 k b) (fun _=>True) fun l=>
 Bk (Sh.f5o l b) fun m c=>
 (Ad 0 e).bind fun g=>
 bC (Ac false 1 g c) (fun d=>Ac false 1 g b=some d∧True) fun d=>
 (A5 d).bind fun n=>
 (At 2 m n).bind fun o=>
 bC (Ac true 2 o c) (fun _=>True) fun p=>
 bP a (AF (Ag 2 f p c)) fun _ h=>
 (Ac true 2 f h).bind fun q=>rPN a q h
noncomputable def Sh.f1w (k:Aa) (a:LK) (b c d e f g h:Ab) (i:Aa):Out:=
 (Ae .none .add h (.int .i64 1)).bind fun j=>
 a [b,c,d,e,f,g,j] i
noncomputable def Sh.f32 (e:Aa) (self:Ab→Ab→Ab→Ab→Aa→Out) (j2:LK) (b c f g h i d k l:Ab) (a:Aa):Out:=
 (Ae .none .sub c (.int .i64 1)).bind fun m=>
 (At 5 b m).bind fun n=>
 (Ad 1 n).bind fun o=>
 (BP 4 1 o d).bind fun p=>
 (Ac false 1 p a).bind fun j=>
 (Ae .none .sub c (.int .i64 1)).bind fun q=>
 (At 5 b q).bind fun r=>
 (Ad 0 r).bind fun s=>
 (Ac false 1 s a).bind fun t=>
 (Ae .none .gtr t (.int .i64 1)).bind fun u=>
 Aj u (
 (Ac true 2 k a).bind fun v=>
 (Ac true 2 l a).bind fun w=>
 bP e (self b j v w a) fun x y=>
 bP e (BZ (AW A6 5 72 i x y)) fun z aa=>
 j2 [b,c,f,g,h,z,d] aa) (
 (Ae .none .gtr j (.int .i64 0)).bind fun ab=>
 Aj ab (
 (Ac true 2 k a).bind fun ac=>
 (Ac true 2 l a).bind fun ad=>
 (AK .u8 j).bind fun ae=>
 (AD (some [(.bool false),(.sl [] .tight),(.bool false),(.sl [] .tight),(.int .u8 0)]) [(0,2,ac),(2,2,ad),(4,1,ae)]).bind fun aj=>
 (AY 5 [aj]).bind fun ak=>
 bP e (BZ (AW A6 5 72 i ak a)) fun al am=>
 j2 [b,c,f,g,h,al,d] am) (
 j2 [b,c,f,g,h,i,d] a))
noncomputable def Sh.f78 (b:Aa) (self:Ab→Ab→Ab→Ab→Aa→Out) (j2:LK) (g h i c d j e k f:Ab) (a:Aa):Out:=
 AN (fun j4=>
 (Ae .none .gtr e (.int .i64 1)).bind fun l=>
 Aj l (
 (Ac true 2 c a).bind fun m=>
 (Ac true 2 d a).bind fun n=>
 bP b (Sh.f0 m n a) fun o p=>
 bP b (AF (Ag 2 f o p)) fun _ q=>
 j4 [g,h,i,c,d,j,e,k,f] q) (
 j4 [g,h,i,c,d,j,e,k,f] a)) (fun vs H=>Sh.f32 b self j2 (ag vs 0) (ag vs 1) (ag vs 2) (ag vs 3) (ag vs 4) (ag vs 5) (ag vs 6) (ag vs 7) (ag vs 8) H)
noncomputable def Sh.f33 (a:Aa) (self:Ab→Ab→Ab→Ab→Aa→Out) (o:LK) (l m b c h i d:Ab) (e:Aa):Out:=
 (Ae .none .lss d (.int .i64 4)).bind fun p=>
 Aj p (
 AN (fun j2=>
 bC (Ac true 2 b e) (fun _=>True) fun q=>
 Am (Az (some [(.bool false),(.sl [] .tight)]) e) fun f r=>
 Am (Az (some [(.bool false),(.sl [] .tight)]) r) fun j s=>
 Bk (AF (Ag 2 f q s)) fun _ n=>
 bC (Ac true 2 c n) (fun k=>Ac true 2 c e=some k∧True) fun k=>
 bP a (AF (Ag 2 j k n)) fun _ g=>
 AN (fun j3=>
 (Ae .none .rem d (.int .i64 2)).bind fun t=>
 (Ae .none .eql t (.int .i64 1)).bind fun u=>
 Aj u (
 (Ac true 2 b g).bind fun v=>
 (Ac true 2 h g).bind fun w=>
 bP a (Sh.f0 v w g) fun x y=>
 bP a (AF (Ag 2 f x y)) fun _ z=>
 j3 [l,m,b,c,h,i,d,f,j] z) (
 j3 [l,m,b,c,h,i,d,f,j] g)) (fun vs H=>Sh.f78 a self j2 (ag vs 0) (ag vs 1) (ag vs 2) (ag vs 3) (ag vs 4) (ag vs 5) (ag vs 6) (ag vs 7) (ag vs 8) H)) (fun vs H=>Sh.f1w a o (ag vs 0) (ag vs 1) (ag vs 2) (ag vs 3) (ag vs 4) (ag vs 5) (ag vs 6) H)) (
 rPN a i e)
noncomputable def Sh.f34 (self:Ab→Ab→Ab→Ab→Aa→Out) (d b f g:Ab) (a:Aa):Out:=
 Am (B8 true 2 f a) fun h i=>
 Am (B8 true 2 g i) fun j c=>
 (Ae .none .eql b (.int .i64 0)).bind fun k=>
 Aj k (
 rPN a (.sl [] .tight) c) (
 (Ae .none .sub b (.int .i64 1)).bind fun l=>
 (At 5 d l).bind fun m=>
 (Ad 0 m).bind fun n=>
 (Ac false 1 n c).bind fun o=>
 (Ae .none .sub o (.int .i64 1)).bind fun p=>
 bP a (Sh.f5 p c) fun q r=>
 Am (Az (some [(.bool false),(.sl [] .tight)]) r) fun e s=>
 bP a (AF (Ag 2 e q s)) fun _ t=>
 Ao (fun u vs H=>Sh.f33 a self u (ag vs 0) (ag vs 1) (ag vs 2) (ag vs 3) (ag vs 4) (ag vs 5) (ag vs 6) H) AQ [d,b,h,j,e,(.sl [] .tight),(.int .i64 0)] t)
noncomputable def Sh.fd:Nat→Ab→Ab→Ab→Ab→Aa→Out
 | 0=>fun _ _ _ _ _=>none
 | d+1=>Sh.f34 (Sh.fd d)
noncomputable def Sh.f35 (g h:Ab) (a:Aa):Out:=
 Am (B8 true 5 g a) fun d i=>
 Am (B8 true 5 h i) fun e c=>
 (Ad 2 d).bind fun j=>
 (Ac true 2 j c).bind fun k=>
 (Ad 2 e).bind fun l=>
 (Ac true 2 l c).bind fun m=>
 bP a (Sh.f2 k m c) fun f b=>
 (Ae .none .neq f (.int .i64 0)).bind fun n=>
 Aj n (
 rP a f b) (
 (Ad 0 d).bind fun o=>
 (Ac true 2 o b).bind fun p=>
 (Ad 0 e).bind fun q=>
 (Ac true 2 q b).bind fun r=>
 bP a (Sh.f2 p r b) fun s t=>
 rP a s t)
noncomputable def Sh.f5q (q:Aa) (e:LK) (a f b c g:Ab) (d:Aa):Out:=
 (Bv 5 f none (some c) (some c)).bind fun h=>
 (At 5 a b).bind fun i=>
 bC (Ac true 5 i d) (fun _=>True) fun j=>
 (AY 5 [j]).bind fun k=>
 Bk (BZ (AW A6 5 72 h k d)) fun l m=>
 Bk (BZ (AW A6 5 72 l g m)) fun n o=>
 (Ae .none .add b (.int .i64 1)).bind fun p=>
 e [a,n,p] o
noncomputable def Sh.f79 (i:Aa) (l:LK) (m:LK) (e c f d:Ab) (h:Aa):Out:=
 (A5 c).bind fun n=>
 (Ae .none .lss d n).bind fun a=>
 gk a true (some c) fun o=>
 gk a true (some d) fun p=>
 gk a true (At 5 o p) fun q=>
 gkc a true (Ac true 5 q h) (fun _ _=>True) fun r=>
 gk a true (some e) fun s=>
 gk a true (some f) fun t=>
 gk a true (At 5 s t) fun u=>
 gkc a true (Ac true 5 u h) (fun _ _=>True) fun v=>
 gbN a true h (Sh.f35 r v h) fun w g=>
 gk a true (Ae .none .lss w (.int .i64 0)) fun x=>
 (AI a x (.bool false)).bind fun y=>
 Aj y (
 (Ae .none .add d (.int .i64 1)).bind fun z=>
 m [e,c,f,z] g) (
 (A5 c).bind fun aa=>
 (Ae .none .lss d aa).bind fun b=>
 gk b true (some c) fun ab=>
 gk b true (some d) fun ac=>
 gk b true (At 5 ab ac) fun ad=>
 gkc b true (Ac true 5 ad g) (fun _ _=>True) fun ae=>
 gk b true (some e) fun aj=>
 gk b true (some f) fun ak=>
 gk b true (At 5 aj ak) fun al=>
 gkc b true (Ac true 5 al g) (fun _ _=>True) fun am=>
 gbN b true g (Sh.f35 ae am g) fun an ap=>
 gk b true (Ae .none .eql an (.int .i64 0)) fun aq=>
 (AI b aq (.bool false)).bind fun ar=>
 (AY 5 []).bind fun au=>
 (Bv 5 c (some d) none none).bind fun av=>
 bP i (BZ (AW A6 5 72 au av ap)) fun j k=>
 AN (fun j3=>
 Aj ar (
 (Bv 5 j (some (.int .i64 1)) none none).bind fun aw=>
 j3 [e,c,f,d,aw] k) (
 j3 [e,c,f,d,j] k)) (fun vs H=>Sh.f5q i l (ag vs 0) (ag vs 1) (ag vs 2) (ag vs 3) (ag vs 4) H))
noncomputable def Sh.f5r (g:Aa) (a:LK) (b c d:Ab) (e:Aa):Out:=
 (Ae .none .add d (.int .i64 1)).bind fun f=>
 a [b,c,f] e
noncomputable def Sh.f5s (d:Aa) (f:LK) (a e b:Ab) (c:Aa):Out:=
 (A5 a).bind fun g=>
 (Ae .none .lss b g).bind fun h=>
 Aj h (
 AN (fun j5=>
 (At 5 a b).bind fun i=>
 (Ad 4 i).bind fun j=>
 (Ac false 1 j c).bind fun k=>
 (Ae .none .neq k (.int .u8 0)).bind fun l=>
 Aj l (
 (At 5 a b).bind fun m=>
 (Ac true 5 m c).bind fun n=>
 (AY 5 [n]).bind fun o=>
 bP d (BZ (AW A6 5 72 e o c)) fun p q=>
 j5 [a,p,b] q) (
 j5 [a,e,b] c)) (fun vs H=>Sh.f5r d f (ag vs 0) (ag vs 1) (ag vs 2) H)) (
 rPN d e c)
noncomputable def Sh.f5t (a:Aa) (f:LK) (b c d:Ab) (e:Aa):Out:=
 (A5 b).bind fun g=>
 (Ae .none .lss d g).bind fun h=>
 Aj h (
 Ao (fun i vs H=>Sh.f79 a f i (ag vs 0) (ag vs 1) (ag vs 2) (ag vs 3) H) AQ [b,c,d,(.int .i64 0)] e) (
 Ao (fun j vs H=>Sh.f5s a j (ag vs 0) (ag vs 1) (ag vs 2) H) AQ [c,(.sl [] .tight),(.int .i64 0)] e)
noncomputable def Sh.f36 (b:Ab) (a:Aa):Out:=
 Ao (fun c vs H=>Sh.f5t a c (ag vs 0) (ag vs 1) (ag vs 2) H) AQ [b,(.sl [] .tight),(.int .i64 0)] a
noncomputable def Sh.f5u (g h:Ab) (a:Aa):Out:=
 Am (B8 true 1 g a) fun b f=>
 (Ac true 1 b f).bind fun i=>
 bP a (Sh.f5p i f) fun j k=>
 bP a (Sh.fm h k) fun l m=>
 bP a (Sh.f2 j l m) fun n c=>
 (Ae .none .gtr n (.int .i64 0)).bind fun o=>
 Aj o (
 rPN a (.tup [(.sl [] .tight),(.bool false)]) c) (
 (Ad 0 b).bind fun p=>
 (Ac false 1 p c).bind fun q=>
 (A5 q).bind fun r=>
 (Ae .none .eql r (.int .i64 0)).bind fun s=>
 Aj s (
 rPN a (.tup [(.sl [] .tight),(.bool true)]) c) (
 (Ac true 1 b c).bind fun t=>
 bP a (Sh.f1u t c) fun u v=>
 (Ae .none .sub u (.int .i64 1)).bind fun w=>
 bP a (Sh.f5 w v) fun x y=>
 bP a (Sh.fg x y) fun z aa=>
 Am (Az (some [(.bool false),(.sl [] .tight)]) aa) fun e ab=>
 bP a (AF (Ag 2 e z ab)) fun _ d=>
 (Ad 0 b).bind fun ac=>
 (Ac false 1 ac d).bind fun ad=>
 (Ad 0 b).bind fun ae=>
 (Ac false 1 ae d).bind fun aj=>
 (A5 aj).bind fun ak=>
 (Ac true 2 e d).bind fun al=>
 (Ac true 2 e d).bind fun am=>
 bP a (Sh.fd AQ ad ak al am d) fun an ap=>
 bP a (Sh.f36 an ap) fun aq ar=>
 rPN a (.tup [aq,(.bool true)]) ar))
noncomputable def Sh.f7a (f:Aa) (j:LK) (g a c h b:Ab) (d:Aa):Out:=
 (Ae .none .geq b (.int .i64 0)).bind fun k=>
 Aj k (
 (Ae .none .mul h (.int .u64 4294967296)).bind fun l=>
 (At 1 g b).bind fun m=>
 (Ac false 1 m d).bind fun n=>
 (AK .u64 n).bind fun o=>
 (Ae .none .add l o).bind fun i=>
 bC (AK .u64 a) (fun _=>True) fun p=>
 (Ae .none .quo i p).bind fun q=>
 bC (AK .u32 q) (fun _=>True) fun r=>
 (At 1 c b).bind fun s=>
 Bk (AF (Ag 1 s r d)) fun _ t=>
 bC (AK .u64 a) (fun e=>AK .u64 a=some e∧True) fun e=>
 (Ae .none .rem i e).bind fun u=>
 (Ae .none .sub b (.int .i64 1)).bind fun v=>
 j [g,a,c,u,v] t) (
 bP f (Sh.f19 c d) fun w x=>
 (AK .u32 h).bind fun y=>
 rPN f (.tup [w,y]) x)
noncomputable def Sh.f5v (b c:Ab) (a:Aa):Out:=
 (Ae .none .eql c (.int .u32 0)).bind fun e=>
 Aj e (
 rPN a (.tup [(.sl [] .tight),(.int .u32 0)]) a) (
 (A5 b).bind fun d=>
 Am (Fi 1 4 (some [(.int .u32 0)]) d d a) fun f g=>
 (A5 b).bind fun h=>
 (Ae .none .sub h (.int .i64 1)).bind fun i=>
 Ao (fun j vs H=>Sh.f7a a j (ag vs 0) (ag vs 1) (ag vs 2) (ag vs 3) (ag vs 4) H) AQ [b,c,f,(.int .u64 0),i] g)
noncomputable def Sh.f7b (b:Aa) (g:LK) (d h i:Ab) (j:Aa):Out:=
 bP b (Sh.f5v i (.int .u32 10) j) fun e a=>
 (Av 0 e).bind fun f=>
 (Av 1 e).bind fun k=>
 (Ae .none .add (.int .u32 48) k).bind fun l=>
 (AK .u8 l).bind fun m=>
 (AY 1 [m]).bind fun n=>
 (Fg n a).bind fun o=>
 (Ae .none .add o h).bind fun c=>
 (A5 f).bind fun p=>
 (Ae .none .eql p (.int .i64 0)).bind fun q=>
 Aj q (
 (Ad 0 d).bind fun r=>
 (Ac false 1 r a).bind fun s=>
 Aj s (
 (Ae .none .add (.str [45]) c).bind fun t=>
 rP b t a) (
 rP b c a)) (
 g [d,c,f] a)
noncomputable def Sh.f37 (d:Ab) (a:Aa):Out:=
 Am (B8 true 2 d a) fun b c=>
 (Ad 1 b).bind fun e=>
 (Ac false 1 e c).bind fun f=>
 Ao (fun g vs H=>Sh.f7b a g (ag vs 0) (ag vs 1) (ag vs 2) H) AQ [b,(.str []),f] c
noncomputable def Sh.f5w (h:Aa) (i:LK) (a e b:Ab) (c:Aa):Out:=
 (A5 a).bind fun j=>
 (Ae .none .lss b j).bind fun k=>
 Aj k (
 (At 5 a b).bind fun l=>
 (Ad 0 l).bind fun m=>
 bC (Ac true 2 m c) (fun _=>True) fun n=>
 Bk (Sh.f37 n c) fun o f=>
 (At 5 a b).bind fun p=>
 (Ad 2 p).bind fun g=>
 bC (Ac true 2 g f) (fun d=>Ac true 2 g c=some d∧True) fun d=>
 Bk (Sh.f37 d f) fun q r=>
 (Ae .none .add e o).bind fun s=>
 (Ae .none .add s (.str [32])).bind fun t=>
 (Ae .none .add t q).bind fun u=>
 (Ae .none .add u (.str [10])).bind fun v=>
 (Ae .none .add b (.int .i64 1)).bind fun w=>
 i [a,v,w] r) (
 rP h (.tup [e,(.int .i64 0)]) c)
noncomputable def Sh.fv (h i:Ab) (a:Aa):Out:=
 Am (B8 true 2 h a) fun b j=>
 Am (B8 true 2 i j) fun k c=>
 (Ac true 2 b c).bind fun l=>
 (Ac true 2 k c).bind fun m=>
 bP a (Sh.f5k (.int .i64 3) l m c) fun e d=>
 (Ae .none .neq e (.int .i64 0)).bind fun n=>
 Aj n (
 rP a (.tup [(.str []),e]) d) (
 (Ad 1 b).bind fun o=>
 (Ac true 1 o d).bind fun p=>
 bP a (Sh.f5u p (.int .i64 1000000) d) fun f g=>
 (Av 0 f).bind fun q=>
 (Av 1 f).bind fun w=>
 (Ad 0 b).bind fun r=>
 (Ac false 1 r g).bind fun s=>
 (Ae .none .add (.str [35,76,105,102,101,32,49,46,48,54,10,35,82,32]) s).bind fun t=>
 (Ae .none .add t (.str [10])).bind fun u=>
 Ao (fun v vs H=>Sh.f5w a v (ag vs 0) (ag vs 1) (ag vs 2) H) AQ [q,u,(.int .i64 0)] g)
noncomputable def Sh.fw (e:Ab) (a:Aa):Out:=
 (AD (some [(.str []),(.int .i64 0)]) [(0,1,e)]).bind fun f=>
 (AD (some [(.str []),(.int .i64 0),(.str []),(.sl [] .tight)]) [(0,2,f)]).bind fun g=>
 Am (B8 true 4 g a) fun h i=>
 bP a (Sh.f23 (.bfn 38 [h]) i) fun j k=>
 Am (Az (some [(.int .i64 0),(.str [])]) k) fun b l=>
 bP a (AF (Ag 2 b j l)) fun _ c=>
 (Ad 1 b).bind fun m=>
 bC (Ac false 1 m c) (fun _=>True) fun n=>
 (Ad 0 b).bind fun o=>
 bC (Ac false 1 o c) (fun _=>True) fun p=>
 (Ae .none .eql p (.int .i64 0)).bind fun d=>
 gk d false (Ad 0 b) fun q=>
 gkc d false (Ac false 1 q c) (fun _ _=>True) fun r=>
 gk d false (Ae .none .eql r (.int .i64 3)) fun s=>
 (AI d (.bool true) s).bind fun t=>
 rP a (.tup [n,t]) c
noncomputable def Sl.gliderref11_Wide:Aa→Out:=Classical.choose (⟨Sh.fq,rfl⟩:∃f:Aa→Out,f=Sh.fq)
theorem Sl.gliderref11_Wide_eq:Sl.gliderref11_Wide=Sh.fq:=Classical.choose_spec (⟨Sh.fq,rfl⟩:∃f:Aa→Out,f=Sh.fq)
noncomputable def Sl.life6_Read:Ab→Ab→Aa→Out:=Classical.choose (⟨Sh.ft,rfl⟩:∃f:Ab→Ab→Aa→Out,f=Sh.ft)
theorem Sl.life6_Read_eq:Sl.life6_Read=Sh.ft:=Classical.choose_spec (⟨Sh.ft,rfl⟩:∃f:Ab→Ab→Aa→Out,f=Sh.ft)
noncomputable def Sl.gliderref12_Life6:Ab→Ab→Aa→Out:=Classical.choose (⟨Sh.fv,rfl⟩:∃f:Ab→Ab→Aa→Out,f=Sh.fv)
theorem Sl.gliderref12_Life6_eq:Sl.gliderref12_Life6=Sh.fv:=Classical.choose_spec (⟨Sh.fv,rfl⟩:∃f:Ab→Ab→Aa→Out,f=Sh.fv)
noncomputable def Sl.life6_Hint:Ab→Aa→Out:=Classical.choose (⟨Sh.fw,rfl⟩:∃f:Ab→Aa→Out,f=Sh.fw)
theorem Sl.life6_Hint_eq:Sl.life6_Hint=Sh.fw:=Classical.choose_spec (⟨Sh.fw,rfl⟩:∃f:Ab→Aa→Out,f=Sh.fw)
noncomputable def Sh.fx (a:Aa):Out:=
 bP a (Sl.gliderref11_Wide a) fun u v=>
 Am (Az (some [(.int .i64 0),(.int .i64 0)]) v) fun b w=>
 bP a (AF (Ag 2 b u w)) fun _ m=>
 (Ac true 2 b m).bind fun x=>
 bP a (Sl.life6_Read (.str [35,76,105,102,101,32,49,46,48,54,13,10,49,32,45,50,10,35,82,32,97,98,99,10,49,32,45,50]) x m) fun c y=>
 (Av 0 c).bind fun z=>
 (Av 1 c).bind fun bq=>
 (Av 2 c).bind fun aa=>
 Am (Az (some [(.str []),(.sl [] .tight)]) y) fun n ab=>
 bP a (AF (Ag 2 n z ab)) fun _ d=>
 (Ac true 2 n d).bind fun ac=>
 (Ac true 2 b d).bind fun ad=>
 bP a (Sl.gliderref12_Life6 ac ad d) fun o p=>
 (Av 0 o).bind fun ae=>
 (Av 1 o).bind fun aj=>
 (Ac true 2 b p).bind fun ak=>
 bP a (Sl.life6_Read (.str [35,76,105,102,101,32,49,46,48,54,10,49,32,32,50]) ak p) fun e al=>
 (Av 0 e).bind fun am=>
 (Av 1 e).bind fun an=>
 (Av 2 e).bind fun ap=>
 Am (Az (some [(.str []),(.sl [] .tight)]) al) fun aq ar=>
 bP a (AF (Ag 2 aq am ar)) fun _ au=>
 bP a (Sl.life6_Hint (.str [35,76,105,102,101,32,49,46,48,54,10,49,50]) au) fun q r=>
 (Av 0 q).bind fun av=>
 (Av 1 q).bind fun aw=>
 (Ae .none .add (.str [35,76,105,102,101,32,49,46,48,54,10,49,50]) av).bind fun ax=>
 (Ac true 2 b r).bind fun ay=>
 bP a (Sl.life6_Read ax ay r) fun f az=>
 (Av 0 f).bind fun a0=>
 (Av 1 f).bind fun br=>
 (Av 2 f).bind fun a1=>
 Am (Az (some [(.str []),(.sl [] .tight)]) az) fun a2 a3=>
 bP a (AF (Ag 2 a2 a0 a3)) fun _ a4=>
 bP a (Sl.life6_Hint (.str [35,76,105,102,101,32,49,46,48,54,10,10]) a4) fun s a5=>
 (Av 0 s).bind fun bt=>
 (Av 1 s).bind fun a6=>
 (Ae .none .eql aa (.int .i64 0)).bind fun g=>
 gk g true (some aj) fun a7=>
 gk g true (Ae .none .eql a7 (.int .i64 0)) fun a8=>
 (AI g a8 (.bool false)).bind fun h=>
 gk h true (some ae) fun a9=>
 gk h true (Ae .none .eql a9 (.str [35,76,105,102,101,32,49,46,48,54,10,35,82,32,97,98,99,10,49,32,45,50,10])) fun ba=>
 (AI h ba (.bool false)).bind fun i=>
 gk i true (some an) fun bb=>
 gk i true (Ae .none .eql bb (.int .i64 13)) fun bc=>
 (AI i bc (.bool false)).bind fun j=>
 gk j true (some ap) fun bd=>
 gk j true (Ae .none .eql bd (.int .i64 2)) fun be=>
 (AI j be (.bool false)).bind fun t=>
 gk t true (some aw) fun bg=>
 (AI t bg (.bool false)).bind fun k=>
 gk k true (some a1) fun bj=>
 gk k true (Ae .none .eql bj (.int .i64 0)) fun bk=>
 (AI k bk (.bool false)).bind fun l=>
 gk l true (some a6) fun bl=>
 gk l true (unA .not bl) fun bm=>
 (AI l bm (.bool false)).bind fun bp=>
 rP a bp a5
noncomputable def Sh.f5x (b:Ab) (c:Aa):Out:=
 (A5 b).bind fun d=>
 (Ae .none .eql d (.int .i64 0)).bind fun a=>
 gk a false (some b) fun e=>
 gk a false (some b) fun f=>
 gk a false (A5 f) fun g=>
 gk a false (Ae .none .sub g (.int .i64 1)) fun h=>
 gk a false (At 1 e h) fun i=>
 gk a false (Ac false 1 i c) fun j=>
 gk a false (Ae .none .neq j (.int .u32 0)) fun k=>
 (AI a (.bool true) k).bind fun l=>
 rK c l c
noncomputable def Sh.f38 (g:Ab) (c:Aa):Out:=
 Am (B8 true 2 g c) fun d f=>
 (Ad 1 d).bind fun h=>
 (Ac false 1 h f).bind fun i=>
 bP c (Sh.f5x i f) fun a e=>
 gk a true (Ad 0 d) fun j=>
 gk a true (Ac false 1 j e) fun k=>
 gk a true (some k) fun b=>
 gk b true (Ad 1 d) fun l=>
 gk b true (Ac false 1 l e) fun m=>
 gk b true (A5 m) fun n=>
 gk b true (Ae .none .eql n (.int .i64 0)) fun o=>
 gk a true (AI b o (.bool false)) fun p=>
 gk a true (unA .not p) fun q=>
 (AI a q (.bool false)).bind fun r=>
 rP c r e
noncomputable def Sh.f5y (m n:Ab) (a:Aa):Out:=
 Am (B8 true 5 m a) fun e o=>
 (Ae .none .sub n (.int .i64 1)).bind fun p=>
 bP a (Sh.f5 p o) fun q r=>
 Am (Az (some [(.bool false),(.sl [] .tight)]) r) fun f s=>
 bP a (AF (Ag 2 f q s)) fun _ l=>
 (Ac true 2 f l).bind fun t=>
 bP a (Sh.fg t l) fun u v=>
 Am (Az (some [(.bool false),(.sl [] .tight)]) v) fun j w=>
 bP a (AF (Ag 2 j u w)) fun _ k=>
 (Ad 0 e).bind fun x=>
 (Ac true 2 x k).bind fun y=>
 (Ac true 2 j k).bind fun z=>
 bP a (Sh.f2 y z k) fun aa g=>
 (Ae .none .geq aa (.int .i64 0)).bind fun b=>
 gk b true (Ad 0 e) fun ab=>
 gk b true (Ac true 2 ab g) fun ac=>
 gk b true (Ac true 2 f g) fun ad=>
 gbP a b true g (Sh.f2 ac ad g) fun ae h=>
 gk b true (Ae .none .lss ae (.int .i64 0)) fun aj=>
 (AI b aj (.bool false)).bind fun c=>
 gk c true (Ad 2 e) fun ak=>
 gk c true (Ac true 2 ak h) fun al=>
 gk c true (Ac true 2 j h) fun am=>
 gbP a c true h (Sh.f2 al am h) fun an i=>
 gk c true (Ae .none .geq an (.int .i64 0)) fun ap=>
 (AI c ap (.bool false)).bind fun d=>
 gk d true (Ad 2 e) fun aq=>
 gk d true (Ac true 2 aq i) fun ar=>
 gk d true (Ac true 2 f i) fun au=>
 gbP a d true i (Sh.f2 ar au i) fun av aw=>
 gk d true (Ae .none .lss av (.int .i64 0)) fun ax=>
 (AI d ax (.bool false)).bind fun ay=>
 rP a ay aw
noncomputable def Sh.f39 (l:Aa) (a:LK) (b c d e f g h i:Ab) (j:Aa):Out:=
 (Ae .none .add i (.int .i64 1)).bind fun k=>
 a [b,c,d,e,f,g,h,k] j
noncomputable def Sh.f1c (p:Aa) (a:LK) (b c d e f g h i j k l m:Ab) (n:Aa):Out:=
 (Ae .none .add m (.int .i64 1)).bind fun o=>
 a [b,c,d,e,f,g,h,i,j,k,l,o] n
noncomputable def Sh.f5z (e:Aa) (self:Ab→Ab→Ab→Ab→Ab→Aa→Out) (j2:LK) (f a g h i j c d l m n:Ab) (b:Aa):Out:=
 (Ae .none .gtr a (.int .i64 1)).bind fun o=>
 Aj o (
 (Ae .none .sub a (.int .i64 1)).bind fun p=>
 (Ac true 2 l b).bind fun q=>
 (Ac true 2 m b).bind fun r=>
 bK e (self f p q r n b) fun k s=>
 (Av 0 k).bind fun t=>
 (Av 1 k).bind fun u=>
 (Ad 1 c).bind fun v=>
 (BP 4 1 v d).bind fun w=>
 bK e (AF (Ag 1 w u s)) fun _ x=>
 j2 [t,a,g,h,i,j,c,d] x) (
 j2 [f,a,g,h,i,j,c,d] b)
noncomputable def Sh.fy (q:Aa) (self:Ab→Ab→Ab→Ab→Ab→Aa→Out) (j2:LK) (ad:LK) (r l d s t g m n h i j f:Ab) (k:Aa):Out:=
 (A5 d).bind fun ae=>
 (Ae .none .lss f ae).bind fun aj=>
 Aj aj (
 AN (fun j6=>
 (At 5 d f).bind fun ak=>
 (Ad 0 ak).bind fun al=>
 bC (Ac true 2 al k) (fun _=>True) fun am=>
 bC (Ac true 2 h k) (fun _=>True) fun an=>
 Bk (Sh.f2 am an k) fun ap o=>
 (Ae .none .geq ap (.int .i64 0)).bind fun a=>
 gkc a true (Ac true 2 h o) (fun _ _=>True) fun aq=>
 gkc a true (Ac true 2 g o) (fun _ _=>True) fun ar=>
 gbN a true o (Sh.f0 aq ar o) fun au w=>
 gk a true (some d) fun av=>
 gk a true (some f) fun aw=>
 gk a true (At 5 av aw) fun ax=>
 gk a true (Ad 0 ax) fun ab=>
 gkc a true (Ac true 2 ab w) (fun b x=>gR b (Ac true 2 ab o)=some x∧True) fun x=>
 gbN a true w (Sh.f2 x au w) fun ay u=>
 gk a true (Ae .none .lss ay (.int .i64 0)) fun az=>
 (AI a az (.bool false)).bind fun e=>
 gk e true (some d) fun a0=>
 gk e true (some f) fun a1=>
 gk e true (At 5 a0 a1) fun a2=>
 gk e true (Ad 2 a2) fun a3=>
 gkc e true (Ac true 2 a3 u) (fun _ _=>True) fun a4=>
 gkc e true (Ac true 2 i u) (fun _ _=>True) fun a5=>
 gbN e true u (Sh.f2 a4 a5 u) fun a6 p=>
 gk e true (Ae .none .geq a6 (.int .i64 0)) fun a7=>
 (AI e a7 (.bool false)).bind fun c=>
 gkc c true (Ac true 2 i p) (fun _ _=>True) fun a8=>
 gkc c true (Ac true 2 g p) (fun _ _=>True) fun a9=>
 gbN c true p (Sh.f0 a8 a9 p) fun ba y=>
 gk c true (some d) fun bb=>
 gk c true (some f) fun bc=>
 gk c true (At 5 bb bc) fun bd=>
 gk c true (Ad 2 bd) fun ac=>
 gkc c true (Ac true 2 ac y) (fun b z=>gR b (Ac true 2 ac p)=some z∧True) fun z=>
 gbN c true y (Sh.f2 z ba y) fun be aa=>
 gk c true (Ae .none .lss be (.int .i64 0)) fun bg=>
 (AI c bg (.bool false)).bind fun bj=>
 Aj bj (
 (At 5 d f).bind fun bk=>
 (Ac true 5 bk aa).bind fun bl=>
 (AY 5 [bl]).bind fun bm=>
 bK q (BZ (AW A6 5 72 j bm aa)) fun bp bq=>
 j6 [r,l,d,s,t,g,m,n,h,i,bp,f] bq) (
 j6 [r,l,d,s,t,g,m,n,h,i,j,f] aa)) (fun vs H=>Sh.f1c q ad (ag vs 0) (ag vs 1) (ag vs 2) (ag vs 3) (ag vs 4) (ag vs 5) (ag vs 6) (ag vs 7) (ag vs 8) (ag vs 9) (ag vs 10) (ag vs 11) H)) (
 AN (fun j7=>
 (Ae .none .eql l (.int .i64 1)).bind fun v=>
 gk v true (some j) fun br=>
 gk v true (A5 br) fun bt=>
 gk v true (Ae .none .gtr bt (.int .i64 0)) fun bu=>
 (AI v bu (.bool false)).bind fun bv=>
 Aj bv (
 (At 5 j (.int .i64 0)).bind fun bw=>
 (Ad 4 bw).bind fun bz=>
 (Ac false 1 bz k).bind fun b0=>
 (AK .i64 b0).bind fun b1=>
 (Ad 1 m).bind fun b2=>
 (BP 4 1 b2 n).bind fun b3=>
 bK q (AF (Ag 1 b3 b1 k)) fun _ b4=>
 j7 [r,l,d,s,t,g,m,n,h,i,j] b4) (
 j7 [r,l,d,s,t,g,m,n,h,i,j] k)) (fun vs H=>Sh.f5z q self j2 (ag vs 0) (ag vs 1) (ag vs 2) (ag vs 3) (ag vs 4) (ag vs 5) (ag vs 6) (ag vs 7) (ag vs 8) (ag vs 9) (ag vs 10) H))
noncomputable def Sh.f60 (a:Aa) (self:Ab→Ab→Ab→Ab→Ab→Aa→Out) (j2:LK) (b c d e f g h i j k:Ab) (l:Aa):Out:=
 Ao (fun m vs H=>Sh.fy a self j2 m (ag vs 0) (ag vs 1) (ag vs 2) (ag vs 3) (ag vs 4) (ag vs 5) (ag vs 6) (ag vs 7) (ag vs 8) (ag vs 9) (ag vs 10) (ag vs 11) H) AQ [b,c,d,e,f,g,h,i,j,k,(.sl [] .tight),(.int .i64 0)] l
noncomputable def Sh.f1x (b:Aa) (self:Ab→Ab→Ab→Ab→Ab→Aa→Out) (j2:LK) (g h i j c d k e l f:Ab) (a:Aa):Out:=
 AN (fun j4=>
 (Ae .none .gtr e (.int .i64 1)).bind fun m=>
 Aj m (
 (Ac true 2 c a).bind fun n=>
 (Ac true 2 d a).bind fun o=>
 bK b (Sh.f0 n o a) fun p q=>
 bK b (AF (Ag 2 f p q)) fun _ r=>
 j4 [g,h,i,j,c,d,k,e,l,f] r) (
 j4 [g,h,i,j,c,d,k,e,l,f] a)) (fun vs H=>Sh.f60 b self j2 (ag vs 0) (ag vs 1) (ag vs 2) (ag vs 3) (ag vs 4) (ag vs 5) (ag vs 6) (ag vs 7) (ag vs 8) (ag vs 9) H)
noncomputable def Sh.f3a (a:Aa) (self:Ab→Ab→Ab→Ab→Ab→Aa→Out) (q:LK) (h m n c d i j e:Ab) (b:Aa):Out:=
 (Ae .none .lss e (.int .i64 4)).bind fun r=>
 Aj r (
 AN (fun j2=>
 bC (Ac true 2 c b) (fun _=>True) fun s=>
 Am (Az (some [(.bool false),(.sl [] .tight)]) b) fun f t=>
 Am (Az (some [(.bool false),(.sl [] .tight)]) t) fun k u=>
 Bk (AF (Ag 2 f s u)) fun _ o=>
 bC (Ac true 2 d o) (fun l=>Ac true 2 d b=some l∧True) fun l=>
 bK a (AF (Ag 2 k l o)) fun _ g=>
 AN (fun j3=>
 (Ae .none .rem e (.int .i64 2)).bind fun v=>
 (Ae .none .eql v (.int .i64 1)).bind fun w=>
 Aj w (
 (Ac true 2 c g).bind fun x=>
 (Ac true 2 i g).bind fun y=>
 bK a (Sh.f0 x y g) fun z aa=>
 bK a (AF (Ag 2 f z aa)) fun _ ab=>
 j3 [h,m,n,c,d,i,j,e,f,k] ab) (
 j3 [h,m,n,c,d,i,j,e,f,k] g)) (fun vs H=>Sh.f1x a self j2 (ag vs 0) (ag vs 1) (ag vs 2) (ag vs 3) (ag vs 4) (ag vs 5) (ag vs 6) (ag vs 7) (ag vs 8) (ag vs 9) H)) (fun vs H=>Sh.f39 a q (ag vs 0) (ag vs 1) (ag vs 2) (ag vs 3) (ag vs 4) (ag vs 5) (ag vs 6) (ag vs 7) H)) (
 (Ac true 5 j b).bind fun ac=>
 (AY 5 [ac]).bind fun ad=>
 bK a (BZ (AW AM 5 40 h ad b)) fun p ae=>
 (A5 p).bind fun aj=>
 rK a (.tup [p,aj]) ae)
noncomputable def Sh.f7c (self:Ab→Ab→Ab→Ab→Ab→Aa→Out) (c b h i d:Ab) (a:Aa):Out:=
 Am (B8 true 2 h a) fun j k=>
 Am (B8 true 2 i k) fun l e=>
 (A5 d).bind fun m=>
 (Ae .none .eql m (.int .i64 0)).bind fun n=>
 Aj n (
 rK a (.tup [c,(.int .i64 0)]) e) (
 (Ae .none .sub b (.int .i64 1)).bind fun o=>
 bK a (Sh.f5 o e) fun p q=>
 Am (Az (some [(.bool false),(.sl [] .tight)]) q) fun f r=>
 bK a (AF (Ag 2 f p r)) fun _ s=>
 (AD (some [(.int .i64 0),(.int .i64 0),(.int .i64 0),(.int .i64 0),(.int .i64 0)]) [(0,1,b)]).bind fun t=>
 Am (Az (some [(.int .i64 0),(.int .i64 0),(.int .i64 0),(.int .i64 0),(.int .i64 0)]) s) fun g u=>
 bK a (AF (Ag 5 g t u)) fun _ v=>
 Ao (fun w vs H=>Sh.f3a a self w (ag vs 0) (ag vs 1) (ag vs 2) (ag vs 3) (ag vs 4) (ag vs 5) (ag vs 6) (ag vs 7) H) AQ [c,b,d,j,l,f,g,(.int .i64 0)] v)
noncomputable def Sh.fh:Nat→Ab→Ab→Ab→Ab→Ab→Aa→Out
 | 0=>fun _ _ _ _ _ _=>none
 | d+1=>Sh.f7c (Sh.fh d)
noncomputable def Sh.f61 (c d:Ab) (a:Aa):Out:=
 bK a (Sh.f18 c a) fun e b=>
 (At 1 e d).bind fun f=>
 (Ac false 1 f b).bind fun g=>
 rK a g b
noncomputable def Sh.f62 (b e c:Ab) (a:Aa):Out:=
 (Ae .none .sub e (.int .i64 1)).bind fun f=>
 (At 5 b f).bind fun g=>
 (Ad 1 g).bind fun h=>
 (BP 4 1 h c).bind fun i=>
 (Ac false 1 i a).bind fun d=>
 (Ae .none .eql d (.int .i64 0)).bind fun j=>
 Aj j (
 rK a (.int .i64 0) a) (
 (Ae .none .sub d (.int .i64 1)).bind fun k=>
 (Ae .none .sub (.int .i64 3) c).bind fun l=>
 (At 5 b k).bind fun m=>
 (Ad 1 m).bind fun n=>
 (BP 4 1 n l).bind fun o=>
 (Ac false 1 o a).bind fun p=>
 rK a p a)
noncomputable def Sh.f63 (b:Aa) (h:LK) (i:LK) (f c d a:Ab) (e:Aa):Out:=
 (Ae .none .lss a (.int .i64 4)).bind fun j=>
 Aj j (
 bP b (Sh.f62 c f a e) fun k l=>
 (Ad 1 d).bind fun m=>
 (BP 4 1 m a).bind fun n=>
 bP b (AF (Ag 1 n k l)) fun _ o=>
 (Ae .none .add a (.int .i64 1)).bind fun p=>
 i [f,c,d,p] o) (
 (Ac true 5 d e).bind fun q=>
 (AY 5 [q]).bind fun r=>
 bP b (BZ (AW AM 5 40 c r e)) fun g s=>
 (A5 g).bind fun t=>
 h [t,g] s)
noncomputable def Sh.f7d (a:Aa) (f:LK) (b c:Ab) (g:Aa):Out:=
 bP a (Sh.f2u c b g) fun h d=>
 Aj h (
 (Ae .none .sub b (.int .i64 1)).bind fun i=>
 (At 5 c i).bind fun j=>
 (Ad 0 j).bind fun k=>
 (Ac false 1 k d).bind fun l=>
 (Ae .none .sub l (.int .i64 1)).bind fun m=>
 (AD (some [(.int .i64 0),(.int .i64 0),(.int .i64 0),(.int .i64 0),(.int .i64 0)]) [(0,1,m)]).bind fun n=>
 Am (Az (some [(.int .i64 0),(.int .i64 0),(.int .i64 0),(.int .i64 0),(.int .i64 0)]) d) fun e o=>
 bP a (AF (Ag 5 e n o)) fun _ p=>
 Ao (fun q vs H=>Sh.f63 a f q (ag vs 0) (ag vs 1) (ag vs 2) (ag vs 3) H) AQ [b,c,e,(.int .i64 0)] p) (
 rPN a (.tup [c,b]) d)
noncomputable def Sh.f64 (e c:Ab) (a:Aa):Out:=
 (AY 5 []).bind fun f=>
 bP a (BZ (AW AM 5 40 f e a)) fun b g=>
 bP a (Sh.f61 b c g) fun h d=>
 Aj h (
 rPN a (.tup [b,(.int .i64 0)]) d) (
 Ao (fun i vs H=>Sh.f7d a i (ag vs 0) (ag vs 1) H) AQ [c,b] d)
noncomputable def Sh.f65 (d:Aa) (f:LK) (c e b:Ab) (a:Aa):Out:=
 (A5 c).bind fun g=>
 (Ae .none .lss b g).bind fun h=>
 Aj h (
 (At 5 c b).bind fun i=>
 bC (Ac true 5 i a) (fun _=>True) fun j=>
 bC (Ac true 5 e a) (fun _=>True) fun k=>
 (Ae (.flat 5) .eql j k).bind fun l=>
 Aj l (
 (Ae .none .add b (.int .i64 1)).bind fun m=>
 rP d m a) (
 (Ae .none .add b (.int .i64 1)).bind fun n=>
 f [c,e,n] a)) (
 rP d (.int .i64 0) a)
noncomputable def Sh.f3b (b c:Ab) (a:Aa):Out:=
 Am (B8 true 5 c a) fun d e=>
 Ao (fun f vs H=>Sh.f65 a f (ag vs 0) (ag vs 1) (ag vs 2) H) AQ [b,d,(.int .i64 0)] e
noncomputable def Sh.f7e (a:Aa) (d e b c:Ab) (f:Aa):Out:=
 (At 1 b d).bind fun g=>
 bK a (AF (Ag 1 g c f)) fun _ h=>
 rK a (.tup [e,b,c]) h
noncomputable def Sh.f66 (b:Aa) (self:Ab→Ab→Ab→Ab→Ab→Aa→Out) (o:LK) (k l g d h a e:Ab) (c:Aa):Out:=
 (Ae .none .lss e (.int .i64 4)).bind fun f=>
 gk f true (Ad 0 a) fun p=>
 gk f true (Ac false 1 p c) fun q=>
 gk f true (Ae .none .gtr q (.int .i64 1)) fun r=>
 (AI f r (.bool false)).bind fun s=>
 Aj s (
 (Ad 1 a).bind fun t=>
 (BP 4 1 t e).bind fun u=>
 (Ac false 1 u c).bind fun v=>
 bK b (self k l v d h c) fun i w=>
 (Av 0 i).bind fun x=>
 (Av 1 i).bind fun y=>
 (Av 2 i).bind fun z=>
 (Ad 1 a).bind fun aa=>
 (BP 4 1 aa e).bind fun ab=>
 bK b (AF (Ag 1 ab z w)) fun _ ac=>
 (Ae .none .add e (.int .i64 1)).bind fun ad=>
 o [k,l,g,x,y,a,ad] ac) (
 (Ac true 5 a c).bind fun ae=>
 bK b (Sh.f3b d ae c) fun m j=>
 AN (fun j2=>
 (Ae .none .eql m (.int .i64 0)).bind fun aj=>
 Aj aj (
 (Ac true 5 a j).bind fun ak=>
 (AY 5 [ak]).bind fun al=>
 bK b (BZ (AW AM 5 40 d al j)) fun n am=>
 (A5 n).bind fun an=>
 j2 [g,n,h,an] am) (
 j2 [g,d,h,m] j)) (fun vs H=>Sh.f7e b (ag vs 0) (ag vs 1) (ag vs 2) (ag vs 3) H))
noncomputable def Sh.f3c (self:Ab→Ab→Ab→Ab→Ab→Aa→Out) (e f b d c:Ab) (a:Aa):Out:=
 (At 1 f b).bind fun h=>
 (Ac false 1 h a).bind fun i=>
 Aj i (
 rK a (.tup [d,c,(.int .i64 0)]) a) (
 (At 1 c b).bind fun j=>
 (Ac false 1 j a).bind fun k=>
 (Ae .none .gtr k (.int .i64 0)).bind fun l=>
 Aj l (
 (At 1 c b).bind fun m=>
 bC (Ac false 1 m a) (fun _=>True) fun n=>
 rK a (.tup [d,c,n]) a) (
 (Ae .none .sub b (.int .i64 1)).bind fun o=>
 (At 5 e o).bind fun p=>
 (Ac true 5 p a).bind fun q=>
 Am (Az (some [(.int .i64 0),(.int .i64 0),(.int .i64 0),(.int .i64 0),(.int .i64 0)]) a) fun g r=>
 bK a (AF (Ag 5 g q r)) fun _ s=>
 Ao (fun t vs H=>Sh.f66 a self t (ag vs 0) (ag vs 1) (ag vs 2) (ag vs 3) (ag vs 4) (ag vs 5) (ag vs 6) H) AQ [e,f,b,d,c,g,(.int .i64 0)] s))
noncomputable def Sh.fo:Nat→Ab→Ab→Ab→Ab→Ab→Aa→Out
 | 0=>fun _ _ _ _ _ _=>none
 | d+1=>Sh.f3c (Sh.fo d)
noncomputable def Sh.f67 (d e:Ab) (a:Aa):Out:=
 Am (Az (some [(.sl [] .tight)]) a) fun c n=>
 bP a (Sh.f2s d n) fun o i=>
 (unA .not o).bind fun f=>
 gk f false (some e) fun p=>
 gk f false (Ae .none .lss p (.int .i64 0)) fun q=>
 (AI f (.bool true) q).bind fun b=>
 gk b false (some e) fun r=>
 gk b false (some d) fun s=>
 gk b false (A5 s) fun t=>
 gk b false (Ae .none .gtr r t) fun u=>
 (AI b (.bool true) u).bind fun v=>
 Aj v (
 (AD (some [(.sl [] .tight)]) []).bind fun w=>
 bP a (AF (Ag 1 c w i)) fun _ j=>
 (Fy [Ac true 1 c j,some (.int .i64 1)]).bind fun x=>rPN a x j) (
 bP a (Sh.f64 d e i) fun k y=>
 (Av 0 k).bind fun g=>
 (Av 1 k).bind fun z=>
 Bk (Sh.f18 g y) fun aa ab=>
 (A5 g).bind fun ac=>
 (Ae .none .add ac (.int .i64 1)).bind fun l=>
 Am (Fi 1 8 (some [(.int .i64 0)]) l l ab) fun ad ae=>
 Bk (Sh.fo AQ g aa z (.sl [] .tight) ad ae) fun h aj=>
 (Av 0 h).bind fun ak=>
 (Av 1 h).bind fun an=>
 (Av 2 h).bind fun ap=>
 (AD (some [(.sl [] .tight)]) [(0,1,ak)]).bind fun al=>
 bP a (AF (Ag 1 c al aj)) fun _ m=>
 (Fy [Ac true 1 c m,some (.int .i64 0)]).bind fun am=>rPN a am m)
noncomputable def Sh.f68 (h:Aa) (i:LK) (j:LK) (f c b d:Ab) (e:Aa):Out:=
 (Ae .none .leq b (.int .i64 1329)).bind fun a=>
 gk a true (some c) fun k=>
 gk a true (some d) fun l=>
 gk a true (At 5 k l) fun m=>
 gk a true (Ac true 5 m e) fun n=>
 gk a true (some b) fun o=>
 gbP h a true e (Sh.f5y n o e) fun p g=>
 gk a true (unA .not p) fun q=>
 (AI a q (.bool false)).bind fun r=>
 Aj r (
 (Ae .none .add b (.int .i64 1)).bind fun s=>
 j [f,c,s,d] g) (
 (Ae .none .add d (.int .i64 1)).bind fun t=>
 i [f,c,b,t] g)
noncomputable def Sh.f69 (a:Aa) (m:LK) (b d c h:Ab) (e:Aa):Out:=
 (A5 d).bind fun n=>
 (Ae .none .lss h n).bind fun o=>
 Aj o (
 Ao (fun p vs H=>Sh.f68 a m p (ag vs 0) (ag vs 1) (ag vs 2) (ag vs 3) H) AQ [b,d,c,h] e) (
 (Ae .none .gtr c (.int .i64 1329)).bind fun q=>
 Aj q (
 (AD (some [(.sl [] .tight)]) []).bind fun r=>
 bP a (AF (Ag 1 b r e)) fun _ i=>
 (Fy [Ac true 1 b i,some (.int .i64 4)]).bind fun s=>rPN a s i) (
 (Ae .none .sub c (.int .i64 1)).bind fun t=>
 bP a (Sh.f5 t e) fun u v=>
 bP a (Sh.fg u v) fun w x=>
 Am (Az (some [(.bool false),(.sl [] .tight)]) x) fun f y=>
 bP a (AF (Ag 2 f w y)) fun _ g=>
 (Ac true 2 f g).bind fun z=>
 (Ac true 2 f g).bind fun aa=>
 bP a (Sh.fh AQ (.sl [] .tight) c z aa d g) fun j ab=>
 (Av 0 j).bind fun ac=>
 (Av 1 j).bind fun ad=>
 bP a (Sh.f67 ac ad ab) fun k ae=>
 (Av 0 k).bind fun aj=>
 (Av 1 k).bind fun ak=>
 bP a (AF (Ag 1 b aj ae)) fun _ l=>
 (Fy [Ac true 1 b l,some ak]).bind fun al=>rPN a al l))
noncomputable def Sh.f6a (b:Aa) (j:LK) (c d e:Ab) (f:Aa):Out:=
 (A5 c).bind fun k=>
 (Ae .none .lss e k).bind fun l=>
 Aj l (
 (At 5 c e).bind fun m=>
 (Ad 0 m).bind fun n=>
 (Ac true 2 n f).bind fun o=>
 bP b (Sh.f38 o f) fun p g=>
 (unA .not p).bind fun a=>
 gk a false (some c) fun q=>
 gk a false (some e) fun r=>
 gk a false (At 5 q r) fun s=>
 gk a false (Ad 2 s) fun t=>
 gk a false (Ac true 2 t g) fun u=>
 gbP b a false g (Sh.f38 u g) fun v h=>
 gk a false (unA .not v) fun w=>
 (AI a (.bool true) w).bind fun x=>
 Aj x (
 (AD (some [(.sl [] .tight)]) []).bind fun y=>
 bP b (AF (Ag 1 d y h)) fun _ i=>
 (Fy [Ac true 1 d i,some (.int .i64 1)]).bind fun z=>rPN b z i) (
 (Ae .none .add e (.int .i64 1)).bind fun aa=>
 j [c,d,aa] h)) (
 bP b (Sh.f36 c f) fun ab ac=>
 Ao (fun ad vs H=>Sh.f69 b ad (ag vs 0) (ag vs 1) (ag vs 2) (ag vs 3) H) AQ [d,ab,(.int .i64 1),(.int .i64 0)] ac)
noncomputable def Sh.f6b (b:Ab) (a:Aa):Out:=
 Am (Az (some [(.sl [] .tight)]) a) fun c d=>
 Ao (fun e vs H=>Sh.f6a a e (ag vs 0) (ag vs 1) (ag vs 2) H) AQ [b,c,(.int .i64 0)] d
noncomputable def Sh.f7f (d:Aa) (f:LK) (c e b:Ab) (a:Aa):Out:=
 (A5 c).bind fun g=>
 (Ae .none .lss b g).bind fun h=>
 Aj h (
 (At 5 c b).bind fun i=>
 bC (Ac true 5 i a) (fun _=>True) fun j=>
 (At 5 e b).bind fun k=>
 bC (Ac true 5 k a) (fun _=>True) fun l=>
 (Ae (.flat 5) .neq j l).bind fun m=>
 Aj m (
 rK d (.bool false) a) (
 (Ae .none .add b (.int .i64 1)).bind fun n=>
 f [c,e,n] a)) (
 rK d (.bool true) a)
noncomputable def Sh.f6c (b c:Ab) (a:Aa):Out:=
 (A5 b).bind fun d=>
 (A5 c).bind fun e=>
 (Ae .none .neq d e).bind fun f=>
 Aj f (
 rK a (.bool false) a) (
 Ao (fun g vs H=>Sh.f7f a g (ag vs 0) (ag vs 1) (ag vs 2) H) AQ [b,c,(.int .i64 0)] a)
noncomputable def Sh.f6d (c d:Ab) (a:Aa):Out:=
 Am (B8 true 1 c a) fun e f=>
 Am (B8 true 1 d f) fun g b=>
 (Ad 0 e).bind fun h=>
 (Ac false 1 h b).bind fun i=>
 (Ad 0 g).bind fun j=>
 (Ac false 1 j b).bind fun k=>
 bP a (Sh.f6c i k b) fun l m=>
 rP a l m
noncomputable def Sh.fz (f g:Ab) (c:Aa):Out:=
 Am (B8 true 2 f c) fun d h=>
 Am (B8 true 2 g h) fun e a=>
 (Ad 0 d).bind fun i=>
 (Ac false 1 i a).bind fun j=>
 (Ad 0 e).bind fun k=>
 (Ac false 1 k a).bind fun l=>
 (Ae .none .eql j l).bind fun b=>
 gk b true (Ad 1 d) fun m=>
 gk b true (Ac true 1 m a) fun n=>
 gk b true (Ad 1 e) fun o=>
 gk b true (Ac true 1 o a) fun p=>
 gbP c b true a (Sh.f6d n p a) fun q r=>
 (AI b q (.bool false)).bind fun s=>
 rP c s r
noncomputable def Sl.gliderlaw17_alive:Aa→Out:=Classical.choose (⟨Sh.fx,rfl⟩:∃f:Aa→Out,f=Sh.fx)
theorem Sl.gliderlaw17_alive_eq:Sl.gliderlaw17_alive=Sh.fx:=Classical.choose_spec (⟨Sh.fx,rfl⟩:∃f:Aa→Out,f=Sh.fx)
noncomputable def Sl.gliderref11_Same:Ab→Ab→Aa→Out:=Classical.choose (⟨Sh.fz,rfl⟩:∃f:Ab→Ab→Aa→Out,f=Sh.fz)
theorem Sl.gliderref11_Same_eq:Sl.gliderref11_Same=Sh.fz:=Classical.choose_spec (⟨Sh.fz,rfl⟩:∃f:Ab→Ab→Aa→Out,f=Sh.fz)
noncomputable def Sh.f6e (e:Aa) (f:LK) (c d:Ab) (b:Aa):Out:=
 (A5 c).bind fun g=>
 (Ae .none .lss d g).bind fun h=>
 Aj h (
 (At 5 c d).bind fun i=>
 (Ad 0 i).bind fun j=>
 (Ad 1 j).bind fun k=>
 (Ac false 1 k b).bind fun l=>
 (A5 l).bind fun m=>
 (Ae .none .gtr m (.int .i64 50)).bind fun a=>
 gk a false (some c) fun n=>
 gk a false (some d) fun o=>
 gk a false (At 5 n o) fun p=>
 gk a false (Ad 2 p) fun q=>
 gk a false (Ad 1 q) fun r=>
 gk a false (Ac false 1 r b) fun s=>
 gk a false (A5 s) fun t=>
 gk a false (Ae .none .gtr t (.int .i64 50)) fun u=>
 (AI a (.bool true) u).bind fun v=>
 Aj v (
 rK e (.bool true) b) (
 (Ae .none .add d (.int .i64 1)).bind fun w=>
 f [c,w] b)) (
 rK e (.bool false) b)
noncomputable def Sh.f6f (b c:Ab) (a:Aa):Out:=
 (A5 b).bind fun d=>
 (Ae .none .gtr d c).bind fun e=>
 Aj e (
 rK a (.bool true) a) (
 Ao (fun f vs H=>Sh.f6e a f (ag vs 0) (ag vs 1) H) AQ [b,(.int .i64 0)] a)
noncomputable def Sh.f6g (c j:Ab) (a:Aa):Out:=
 Am (Az (some [(.sl [] .tight)]) a) fun b k=>
 bP a (Sh.f6f c j k) fun l d=>
 Aj l (
 (AD (some [(.sl [] .tight)]) []).bind fun m=>
 bP a (AF (Ag 1 b m d)) fun _ e=>
 (Fy [Ac true 1 b e,some (.bool false)]).bind fun n=>rPN a n e) (
 bP a (Sh.f6b c d) fun f o=>
 (Av 0 f).bind fun p=>
 (Av 1 f).bind fun q=>
 Am (Az (some [(.sl [] .tight)]) o) fun g r=>
 bP a (AF (Ag 1 g p r)) fun _ h=>
 (Ac true 1 g h).bind fun s=>
 (Ae .none .eql q (.int .i64 0)).bind fun t=>
 bP a (AF (Ag 1 b s h)) fun _ i=>
 (Fy [Ac true 1 b i,some t]).bind fun u=>rPN a u i)
noncomputable def Sh.f10 (f k l:Ab) (a:Aa):Out:=
 Am (Az (some [(.str []),(.sl [] .tight)]) a) fun g m=>
 bP a (Sh.f6g k l m) fun h n=>
 (Av 0 h).bind fun o=>
 (Av 1 h).bind fun b=>
 Am (Az (some [(.sl [] .tight)]) n) fun c p=>
 bP a (AF (Ag 1 c o p)) fun _ d=>
 gk b true (some f) fun q=>
 gbN b true d (Sh.f2r q d) fun r i=>
 bC (Ac true 1 c i) (fun e=>Ac true 1 c d=some e∧True) fun e=>
 (AD (some [(.str []),(.sl [] .tight)]) [(0,1,f),(1,1,e)]).bind fun s=>
 Bk (AF (Ag 2 g s i)) fun _ j=>
 (AI b r (.bool false)).bind fun t=>
 (Fy [Ac true 2 g j,some t]).bind fun u=>rPN a u j
noncomputable def Sl.gliderref11_Of:Ab→Ab→Ab→Aa→Out:=Classical.choose (⟨Sh.f10,rfl⟩:∃f:Ab→Ab→Ab→Aa→Out,f=Sh.f10)
theorem Sl.gliderref11_Of_eq:Sl.gliderref11_Of=Sh.f10:=Classical.choose_spec (⟨Sh.f10,rfl⟩:∃f:Ab→Ab→Ab→Aa→Out,f=Sh.f10)
noncomputable def Sl.gliderref11_Express:Ab→Ab→Ab→Aa→Out:=Classical.choose (⟨Sh.fn,rfl⟩:∃f:Ab→Ab→Ab→Aa→Out,f=Sh.fn)
theorem Sl.gliderref11_Express_eq:Sl.gliderref11_Express=Sh.fn:=Classical.choose_spec (⟨Sh.fn,rfl⟩:∃f:Ab→Ab→Ab→Aa→Out,f=Sh.fn)
noncomputable def Sh.f7g (k q:Ab) (a:Aa):Out:=
 bP a (Sl.gliderlaw17_alive a) fun r l=>
 (unA .not r).bind fun s=>
 Aj s (
 rP a (.bool false) l) (
 bP a (Sl.gliderref11_Wide l) fun t u=>
 Am (Az (some [(.int .i64 0),(.int .i64 0)]) u) fun c v=>
 bP a (AF (Ag 2 c t v)) fun _ w=>
 bP a (Sl.gliderref11_Of k q (.int .i64 30) w) fun m x=>
 (Av 0 m).bind fun y=>
 (Av 1 m).bind fun z=>
 Am (Az (some [(.str []),(.sl [] .tight)]) x) fun d aa=>
 bP a (AF (Ag 2 d y aa)) fun _ e=>
 (CG k).bind fun ab=>
 (Ae .none .gtr ab (.int .i64 100)).bind fun i=>
 gk i false (some z) fun ac=>
 gk i false (unA .not ac) fun ad=>
 (AI i (.bool true) ad).bind fun b=>
 gk b false (Ac true 2 d e) fun ae=>
 gk b false (Ac true 2 c e) fun aj=>
 gbP a b false e (Sl.gliderref11_Express (.int .i64 3) ae aj e) fun ak f=>
 gk b false (unA .not ak) fun al=>
 (AI b (.bool true) al).bind fun am=>
 Aj am (
 rP a (.bool true) f) (
 (Ac true 2 d f).bind fun an=>
 (Ac true 2 c f).bind fun ap=>
 bP a (Sl.gliderref12_Life6 an ap f) fun n o=>
 (Av 0 n).bind fun aq=>
 (Av 1 n).bind fun a3=>
 (Ac true 2 c o).bind fun ar=>
 bP a (Sl.life6_Read aq ar o) fun j au=>
 (Av 0 j).bind fun av=>
 (Av 1 j).bind fun a4=>
 (Av 2 j).bind fun aw=>
 Am (Az (some [(.str []),(.sl [] .tight)]) au) fun p ax=>
 bP a (AF (Ag 2 p av ax)) fun _ g=>
 (Ae .none .eql aw (.int .i64 0)).bind fun h=>
 gk h true (Ac true 2 d g) fun ay=>
 gk h true (Ac true 2 p g) fun az=>
 gbP a h true g (Sl.gliderref11_Same ay az g) fun a0 a1=>
 (AI h a0 (.bool false)).bind fun a2=>
 rP a a2 a1))
open Go.Proofs
set_option maxRecDepth 100000
theorem mixed:Tryz.prog.follows .mixedOrders=true:=by kernel_rfl
theorem OK:AH Tryz.prog Gs 235 (ap1 Sh.f6h):=mk1 .keep (Ar _ _) [] Tryz.func235
theorem KU:AH Tryz.prog Gs 140 (ap1 Sh.f8):=mk1 .keep (Ar _ _) [] Tryz.func140
theorem D7:AH Tryz.prog Gs 201 (ap1 Sh.f1):=mk1 .keepN ((Af KU (Ar _ _))) [[0]] Tryz.func201
open Go.ChangeShapes Go.WideShapes Go.ChangeAt Go.RowKit
def Nj (W:World):Env:=⟨fun _ _=>none,fun _ _=>none,fun b o=>W.cell? ⟨b,o,none⟩⟩
theorem sim0 (W:World) (hf:∀b cs,FixT b=some cs→0<cs.size∧∃t fr,W.heap[b]? = some (.cells cs t fr)):Sim (Nj W) [] W:=
 ⟨fun id B h=>(by simp at h),fun id g b h=>(by cases h),fun id g b h=>(by cases h),fun id B n h=>(by simp at h),fun id id' b h=>(by simp [loc]at h),fun b o v h=>h,fun b cs h=>by
  obtain ⟨h0,t,fr,h1⟩:=hf b cs h
  exact ⟨⟨t,fr,h1⟩,⟨cs[0],by rw [show (Nj W).I b 0=W.cell? ⟨b,0,none⟩ from rfl,Bj h1];simp [h0]⟩,fun id=>by simp [loc]⟩⟩
theorem Ry {E0:Env} {w0:World} {E:Env} {H:Aa} {w:World} (h:BH E0 [] w0 E H w):Below w0.heap.size w0 w:=
 ⟨h.os,h.tape,h.output,h.size,fun k hk=>h.frame k hk (fun ⟨i,hi⟩=>by simp [loc]at hi)⟩
theorem calls_law {P:Program} {G:HW} {g:FuncId} {F:List Ab→Aa→Out} (hF:AH P G g F) {fn:Func} (hf:P.funcs[g]? = some fn) (hb:fn.body.isNone=false) (hn:(fn.name == "runtime.NumGoroutine")=false)
  {W:World} (hfx:∀b cs,FixT b=some cs→0<cs.size∧∃t fr,W.heap[b]? = some (.cells cs t fr)) (hG:D9 G (Nj W)) {args:List Ab} {vs:Array Value} (hv:A4 (Nj W) args vs.toList) (h:F args []=some (.ret (.bool true),[])) :
  Calls P g vs W fun e W'=>e=.returned (.bool true)∧Below W.heap.size W W':=by
 rcases hF args [] _ _ h (Nj W) W vs hG (sim0 W hfx) hv with ⟨_,h1⟩ | ⟨v,w',h1,_⟩
 ·refine h1.mono fun e W' ⟨E',h2,_,h3⟩=>⟨?_,Ry h3⟩
  cases e with
  | returned v=>rw [Ax.bool_inv h2]
  | panicked c=>exact h2.elim
  | outgrown=>exact h2.elim
 ·rw [Ff hf hb hn]at h1;cases h1
section
variable {H:Type} {enc:TypeId×Value→H} {P:Program}
theorem Nl (hl:laidOutB P=true) {W W':World} (hb:Below W.heap.size W W') {sp:Nat→Bool}:∀ {ts:List TypeId} {vs:List Value} {ds:List (DataW H)} {ps:List MemPlace},
  (ts.all fun t=>P.readableRec t&&decide (t<P.types.size))=true→DataW.TrodAll enc P W 0 (fun _=>true) true ts vs ds ps→(∀x∈ps,x.block<W.heap.size)→(∀x∈ps,sp x.block=true)→DataW.TrodAll enc P W' 0 sp true ts vs ds ps
 | [],_,_,_,_,h,_,_=>by
  obtain ⟨rfl,rfl,rfl⟩:=trodAll_nil h
  exact trodAll_mk0
 | t::ts,_,_,_,ht,h,hlt,hsp=>by
  obtain ⟨v,vs1,d,ds1,a,b,rfl,rfl,rfl,h1,h2⟩:=trodAll_cons h
  simp only [List.all_cons,Vh,decide_eq_true_eq]at ht
  exact trodAll_cons_mk (WideElems.Trod_stays hl ht.1.1 ht.1.2 h1 (fun x hx=>hb.same (hlt x (by simp [hx]))) (fun x hx=>hsp x (by simp [hx])))
   (Nl hl hb (by simpa using ht.2) h2 (fun x hx=>hlt x (by simp [hx])) (fun x hx=>hsp x (by simp [hx])))
theorem post_law {f:Func} {s:ChangeSpec} {W W':World} {args:Array Value} {ds gs:List (DataW H)} {before:List MemPlace} (hW:DataW.Whole enc P f.params.toList s.vars false W args.toList ds gs before)
  (hl:laidOutB P=true) (hr:(f.params.toList.all fun t=>P.readableRec t&&decide (t<P.types.size))=true) (hB:Below W.heap.size W W') (hvars:s.vars=[]) {tb:TypeId} (hrt:f.resultTypes = #[tb]) (hbool:P.underlying tb=some .bool)
  (hres:(s.fn H (ds++gs)).results=[.lit (.bool true)]) (hargs:(s.fn H (ds++gs)).args=ds) (hvs:(s.fn H (ds++gs)).vars=[]):s.post enc P f false true false false W args (.bool true) W':=by
 have hold:∀p∈before,(fun b=>decide (b<W.heap.size)) p.block=true:=fun p hp=>by simpa using hW.lt p hp
 have hlt:=hW.lt
 have hW':=hW
 obtain ⟨p,q,hA,hV,hpq,hz,hn⟩:=hW
 rw [hvars]at hV
 obtain ⟨rfl,rfl⟩:=trodVars_none hV
 have hpq':before=p:=by rw [hpq];simp
 subst hpq'
 have ha:∀sp:Nat→Bool,(∀x∈before,sp x.block=true)→DataW.TrodAll enc P W' 0 sp true f.params.toList args.toList (s.fn H (ds++[])).args before:=fun sp hsp=>by
  rw [hargs];exact Nl hl hB hr hA hlt hsp
 have hr':∀(b:Nat) (sp:Nat→Bool) (hd:Bool),DataW.TrodAll enc P W' b sp hd f.resultTypes.toList ((Value.bool true).resultList f.resultTypes.size) (s.fn H (ds++[])).results []:=fun b sp hd=>by
  rw [hres,hrt]
  exact trodAll_cons_mk (shut_bool hbool _) trodAll_mk0
 have hv':∀sp:Nat→Bool,DataW.TrodVars enc P W' sp s.vars (s.fn H (ds++[])).vars []:=fun sp=>by rw [hvars,hvs];rfl
 refine ⟨ds,[],before,[],before,[],hW',hr' _ _ _,ha _ hold,hv' _,World.keptBut_mono (fun p hp=>hp) (hB.frame _),fun _=>?_⟩
 refine ⟨ok_one hrt rfl (okWide_bool_mk hbool _),_,_,([]++before)++[],⟨[]++before,[],trodAll_append (ha _ (fun _ _=>rfl)) (hr' _ _ _),hv' _,rfl,?_,?_⟩,?_⟩
 ·intro b off hp
  have hp':MemPlace.cell b off∈before:=by simpa using hp
  rw [hB.frozen (hlt _ hp')]
  exact hz b off hp'
 ·intro h;cases h
 ·intro p hp _
  simpa using hp

end
open Go.RowKit
theorem TK {E:Env} {H:Aa} {w w':World} (h:Sim E H w) (hb:Below w.heap.size w w'):Sim E H w'∧BH E H w E H w':=
 h.ext (.refl E) (fun _ _ _ h=>h) (fun _ _ _ h=>h) hb.block (fun _ _=>rfl) (fun b o v hv hlt=>by have:=h.imm_lt hv;omega) hb.os hb.tape hb.output hb.size
def Env.bare (E:Env):Env:=⟨fun _ _=>none,fun _ _=>none,E.I⟩
theorem sim_bare {E:Env} {H:Aa} {w:World} (h:Sim E H w):Sim E.bare [] w:=
 ⟨fun id B h=>(by simp at h),fun id g b h=>(by cases h),fun id g b h=>(by cases h),fun id B n h=>(by simp at h),fun id id' b h=>(by simp [loc]at h),fun b o v hv=>h.imm b o v hv,fun b cs hf=>⟨(h.fix b cs hf).1,(h.fix b cs hf).2.1,fun id=>by simp [loc]⟩⟩
theorem fn_calls {P:Program} {G:HW} {g:FuncId} {F:List Ab→Aa→Out} (hF:AH P G g F) {fn:Func} (hf:P.funcs[g]? = some fn) (hB:fnB 0 fn=true)
  {E:Env} {H:Aa} {w:World} (hG:D9 G E.bare) (hs:Sim E H w) {args:List Ab} {vs:Array Value} (hv:A4 E.bare args vs.toList) {res:Res} (h:F args []=some (res,[])) :
  Calls P g vs w fun e w'=>(∃E',I9 E' res e)∧Below w.heap.size w w':=by
 obtain ⟨b1,b2,b3⟩:=F3 hB
 rcases hF args [] _ _ h E.bare w vs hG (sim_bare hs) hv with ⟨_,h1⟩ | ⟨v,w',h1,_⟩
 ·exact h1.mono fun e w' ⟨E',h2,_,h3⟩=>⟨⟨E',h2⟩,Ry h3⟩
 ·rw [Ff hf b1 b2]at h1;cases h1
theorem lib_ok {P:Program} {G:HW} {g:FuncId} {fn:Func} (hf:P.funcs[g]? = some fn) (hB:fnB 0 fn=true) {args:List Ab} {H:Aa} {x:Ab}
  (h:∀(E:Env) (w:World) (vs:Array Value),D9 G E→Sim E H w→A4 E args vs.toList→∃v,Ax E x v∧Calls P g vs w fun e w'=>e=.returned v∧Below w.heap.size w w'):CallA P G g args H (.ret x) H:=by
 intro E w vs hG hs hv
 obtain ⟨v,h1,h2⟩:=h E w vs hG hs hv
 obtain ⟨b1,b2,b3⟩:=F3 hB
 refine .inl ⟨Ff hf b1 b2 vs w,h2.mono fun e w' ⟨he,hb⟩=>?_⟩
 subst he
 obtain ⟨k1,k2⟩:=TK hs hb
 exact ⟨E,h1,k1,k2⟩
theorem args1 {E:Env} {a:Ab} {vs:Array Value} (h:A4 E [a] vs.toList):∃v,vs = #[v]∧Ax E a v:=by
 obtain ⟨l⟩:=vs
 match l,h with
 | [v],h=>exact ⟨v,rfl,h.head⟩
 | [],h=>exact absurd h.1 (by simp)
 | _::_::_,h=>exact absurd h.1 (by simp)
theorem args2 {E:Env} {a b:Ab} {vs:Array Value} (h:A4 E [a,b] vs.toList):∃v u,vs = #[v,u]∧Ax E a v∧Ax E b u:=by
 obtain ⟨l⟩:=vs
 match l,h with
 | [v,u],h=>exact ⟨v,u,rfl,h.head,h.tail.head⟩
 | [],h=>exact absurd h.1 (by simp)
 | [_],h=>exact absurd h.1 (by simp)
 | _::_::_::_,h=>exact absurd h.1 (by simp)
theorem val_str {E:Env} {s:List UInt8} {v:Value} (h:Ax E (.str s) v):v=.string ⟨s.toArray⟩:=by cases h;rfl
theorem QM {E:Env} {k:IntKind} {n:Int} {v:Value} (h:Ax E (.int k n) v):v=.int k n:=by cases h;rfl
end Go.Gm
/-
 DERIVED: THE SHELF's CONTRACTS AT THIS DUMP,IN PLAIN WORDS (tools/lay-plain.mjs out of 'TryzShelf.lean',which tools/lay-shelf.mjs wrote): THE SAME DECLARATIONS UNDER THE SAME NAMES: 'import','namespace','open','def','theorem' AND NOTHING ELSE: no command of the shelf's: FOR A HAND-IN. Each laying: the table of numbers ('.._ren') and one theorem,a field a fact of the dump's own or the kernel's comparison;each contract: ONE APPLICATION.
-/
namespace Go.Proofs
open Go.Shelf
def Tryz.lays137_ren:Go.Shelf.Ren:=⟨fun | 137=>177 | 217=>220 | 266=>231 | n=>n,fun | 9=>9 | 5=>5 | 3=>3 | n=>n,fun | n=>n⟩
theorem Tryz.lays137:Go.Proofs.Lays.n137 Tryz.prog Tryz.lays137_ren:={
 mixed:=by kernel_rfl
 f137:=Tryz.func177.trans (congrArg some (by kernel_rfl))
 f217:=Tryz.func220.trans (congrArg some (by kernel_rfl))
 f266:=Tryz.func231.trans (congrArg some (by kernel_rfl))
 t3:=Tryz.underlying3
 a3:=Tryz.isAgg3
 z3:=Tryz.sizeOf3
 v3:=Tryz.zeroValue3
 t5:=Tryz.underlying5
 a5:=Tryz.isAgg5
 z5:=Tryz.sizeOf5
 v5:=Tryz.zeroValue5
 t9:=Tryz.underlying9
 a9:=Tryz.isAgg9
 z9:=Tryz.sizeOf9
 v9:=Tryz.zeroValue9 }
open Go.RowKit in
theorem Tryz.strings_IndexByte (s:ByteArray) (c:Int) (w:World) :
  Calls Tryz.prog 177 #[.string s,.int .u8 c] w fun e w'=>e=.returned (.int .i64 (Lib.indexByte s.data.toList c.toNat.toUInt8))∧w'=w:=Any.strings_IndexByte Tryz.lays137 s c w
def Tryz.laysGw15_ren:Go.Shelf.Ren:=⟨fun | 15=>234 | 20=>239 | n=>n,fun | 9=>9 | 23=>256 | 3=>3 | 4=>4 | 0=>0 | 21=>21 | n=>n,fun | n=>n⟩
theorem Tryz.laysGw15:Go.Proofs.LaysGw.n15 Tryz.prog Tryz.laysGw15_ren:={
 mixed:=by kernel_rfl
 f15:=Tryz.func234.trans (congrArg some (by kernel_rfl))
 f20:=Tryz.func239.trans (congrArg some (by kernel_rfl))
 t0:=Tryz.underlying0
 a0:=Tryz.isAgg0
 z0:=Tryz.sizeOf0
 v0:=Tryz.zeroValue0
 i0:=by kernel_rfl
 t3:=Tryz.underlying3
 a3:=Tryz.isAgg3
 z3:=Tryz.sizeOf3
 v3:=Tryz.zeroValue3
 i3:=by kernel_rfl
 t4:=Tryz.underlying4
 a4:=Tryz.isAgg4
 z4:=Tryz.sizeOf4
 v4:=Tryz.zeroValue4
 i4:=by kernel_rfl
 t9:=Tryz.underlying9
 a9:=Tryz.isAgg9
 z9:=Tryz.sizeOf9
 v9:=Tryz.zeroValue9
 i9:=by kernel_rfl
 t21:=Tryz.underlying21
 a21:=Tryz.isAgg21
 z21:=Tryz.sizeOf21
 v21:=Tryz.zeroValue21
 i21:=by kernel_rfl
 t23:=Tryz.underlying256
 a23:=Tryz.isAgg256
 z23:=Tryz.sizeOf256
 v23:=Tryz.zeroValue256
 i23:=by kernel_rfl }
open Go.RowKit Go.Lib in
theorem Tryz.strings_IndexFunc_grows (g:Nat) (lb:Array Value) (eg:∀args w,(callFunc g args).run Tryz.prog w=.ok (.enter g args) w) (p:Nat→Bool) (s:ByteArray) (w:World) (hp:PredGrows Tryz.prog g lb p w) :
  Calls Tryz.prog 234 #[.string s,.func (.func g) #[] lb] w fun e w'=>e=.returned (.int .i64 (Lib.idxFunc p true s))∧Below w.heap.size w w':=Any.strings_IndexFunc_grows Tryz.laysGw15 g lb eg p s w hp
end Go.Proofs
namespace Go.Gm
@[simp 2000] theorem B5 {α β:Type} (a:α) (f:α→Option β):(some a).bind f=f a:=(rfl)
theorem EF {G:LK→LK} (N:Nat) (p:Nat→Bool) (st:Nat→List Ab) (H:Aa) (yes no:Out) (hN:N<1152921504606846976)
  (turn:∀(rec:LK) (i:Nat),i<N→G rec (st i) H=if p i then rec (st (i+1)) H else no) (last:∀rec:LK,G rec (st N) H=yes):Ao G AQ (st 0) H=if (List.range N).all p then yes else no:=by
 refine Br (σ:=Nat) (fun i=>i≤N∧∀j,j<i→p j=true) st (fun _=>H) (fun i=>N-i) (fun _=>if (List.range N).all p then yes else no) (fun i rec hi hrec=>?_) 0 ⟨Vy _,fun j hj=>by omega⟩ (by omega)
 by_cases h:i<N
 ·rw [turn rec i h]
  cases hp:p i with
  | true=>exact hrec (i+1) ⟨h,fun j hj=>by
    by_cases e:j=i
    ·rw [e];exact hp
    ·exact hi.2 j (by omega)⟩ (by omega)
  | false=>
   have:(List.range N).all p=false:=by rw [W7];exact ⟨i,by simpa using h,by simp [hp]⟩
   simp [this]
 ·have e:i=N:=by omega
  subst e
  have:(List.range i).all p=true:=by rw [Vn];intro j hj;exact hi.2 j (by simpa using hj)
  rw [last,this];rfl
theorem N9 {G:LK→LK} (N:Nat) (p:Nat→Bool) (st:Nat→List Ab) (H:Aa) (none':Out) (found:Nat→Out) (hN:N<1152921504606846976)
  (turn:∀(rec:LK) (i:Nat),i<N→G rec (st i) H=if p i then found i else rec (st (i+1)) H) (last:∀rec:LK,G rec (st N) H=none') :
  Ao G AQ (st 0) H=match (List.range N).find? p with | some i=>found i | none=>none':=by
 refine Br (σ:=Nat) (fun i=>i≤N∧∀j,j<i→p j=false) st (fun _=>H) (fun i=>N-i) (fun _=>match (List.range N).find? p with | some i=>found i | none=>none') (fun i rec hi hrec=>?_) 0 ⟨Vy _,fun j hj=>by omega⟩ (by omega)
 by_cases h:i<N
 ·rw [turn rec i h]
  cases hp:p i with
  | false=>exact hrec (i+1) ⟨h,fun j hj=>by
    by_cases e:j=i
    ·rw [e];exact hp
    ·exact hi.2 j (by omega)⟩ (by omega)
  | true=>
   have:(List.range N).find? p=some i:=by
    rw [XI]
    exact ⟨hp,by simpa using h,fun j hj=>by simp [hi.2 j hj]⟩
   rw [this];rfl
 ·have e:i=N:=by omega
  subst e
  have:(List.range i).find? p=none:=by
   rw [Xe];intro j hj;simp [hi.2 j (by simpa using hj)]
  rw [last,this]
theorem Cm {sz:Nat} {cs:List Ab} {H:Aa} (h:cs.all Ab.isScal=true) (hl:cs.length=sz):B8 true sz (.agg cs) H=some (.ptr H.length 0 0,H++[.cel 0 cs]):=by
 unfold B8
 rw [C5 h]
 simp [hl,alloc_eq h]
theorem BR {v:Ab} {p:Ab→Prop} {k:Ab→Out} (hp:p v):bC (some v) p k=k v:=by
 simp only [bC,Option.bind_some,chk_pos hp]
theorem Fz {cs vs:List Ab} {sz:Nat} (h:cs.length=sz):Dp cs 0 sz vs=vs:=by simp [Dp,Xn (X5 h)]
theorem M4 {cs vs:List Ab} {sz g:Nat} {v:Ab} {G:Aa} (hv:v.acells=some vs) (h:cs.length=sz) (h2:vs.length=sz):Ag sz (.ptr 0 g 0) v (.cel g cs::G)=some (.cel g vs::G):=by
 rw [Rx,hv]
 simp only [Option.bind_some,h2,h,UY,Va,and_self,if_true,Fz h]
@[simp] theorem Hs {x:Out}:chk True x=x:=chk_pos trivial x
@[simp] theorem PW {v:Ab} {p:Ab→Prop} {k:Ab→Out}:bC (some v) p k=chk (p v) (k v):=(rfl)
section
variable {x:Option Ab} {p:Bool→Ab→Prop} {k:Ab→Out} {w:Bool}
@[simp] theorem Ps:gkc (.bool true) true x p k=bC x (p true) k:=(rfl)
@[simp] theorem Pv:gkc (.bool false) false x p k=bC x (p true) k:=(rfl)
@[simp] theorem Pt:gkc (.bool true) false x p k=chk (p false Ce) (k Ce):=(rfl)
@[simp] theorem Pu:gkc (.bool false) true x p k=chk (p false Ce) (k Ce):=(rfl)
@[simp] theorem U0:gkc (.tup []) w x p k=chk (p false Ce) (k Ce):=(rfl)

end
theorem Hy (p:Nat→Bool):(List.range 4).all p=(p 0&&p 1&&p 2&&p 3):=by
 show (p 0&&(p 1&&(p 2&&(p 3&&true))))=_
 cases p 0 <;> cases p 1 <;> cases p 2 <;> cases p 3 <;> rfl
theorem wrap_nat {n:Nat} (h:n<9223372036854775808):IntKind.i64.wrap (n:Int)=(n:Int):=An (by omega) (by omega)
theorem Aw {n:Nat} (h:n<9223372036854775807):IntKind.i64.wrap ((n:Int)+1)=((n+1:Nat):Int):=by rw [An] <;> omega
theorem HY {n:Nat} (h:0<n) (h2:n<9223372036854775807):IntKind.i64.wrap ((n:Int)-1)=((n-1:Nat):Int):=by rw [An] <;> omega
@[simp] theorem G3 {a b:Int}:(a == b)=decide (a=b):=by rw [Vr];simp
@[simp] theorem KK {a b:Int}:(a != b) = !decide (a=b):=by rw [Vr];simp
structure Nd where
 lv:Int
 k0:Int
 k1:Int
 k2:Int
 k3:Int
deriving DecidableEq
def Nd.kid (x:Nd) (k:Nat):Int:=match k with | 0=>x.k0 | 1=>x.k1 | 2=>x.k2 | _=>x.k3
def cNd (x:Nd):List Ab:=[.int .i64 x.lv,.int .i64 x.k0,.int .i64 x.k1,.int .i64 x.k2,.int .i64 x.k3]
instance:Sz cNd 5:=⟨fun _=>rfl⟩
section
variable {x y:Nd} {H:Aa} {k:Nat}
@[simp] theorem BS:(cNd x)[0]? = some (.int .i64 x.lv):=(rfl)
theorem Dk (h:k<4):(cNd x)[1+k]? = some (.int .i64 (x.kid k)):=by
 match k,h with
 | 0,_=>rfl
 | 1,_=>rfl
 | 2,_=>rfl
 | 3,_=>rfl
theorem Dt {K:IntKind} {cs:List Ab} {o:Nat} (h:k<4):BP 4 1 (.cptr cs o) (.int K (k:Int))=some (.cptr cs (o+k*1)):=by
 unfold BP
 simp only []
 rw [if_pos ⟨by omega,by omega⟩];simp
theorem IR:Ac true 5 (.cptr (cNd x) 0) H=some (.agg (cNd x)):=(rfl)
theorem ET:(cNd x).all Ab.isScal=true:=(rfl)
theorem US:(Ab.agg (cNd x)).acells=some (cNd x):=(rfl)
theorem OD:BJ (cNd x) (cNd y)=some (decide (x=y)):=by
 obtain ⟨a,b,c,d,e⟩:=x
 obtain ⟨a',b',c',d',e'⟩:=y
 simp only [cNd,BJ,GQ,if_true,Option.bind_some,Ve]
 rw [Vr];simp
theorem eq_nd:Ae (.flat 5) .eql (.agg (cNd x)) (.agg (cNd y))=some (.bool (decide (x=y))):=by
 show (eqA (.flat 5) (.agg (cNd x)) (.agg (cNd y))).map Ab.bool=_
 have h:eqA (.flat 5) (.agg (cNd x)) (.agg (cNd y))=some (decide (x=y)):=by unfold eqA;simp only [];rw [if_pos (show (cNd x).length=5 from rfl),OD]
 rw [h];rfl
theorem neq_nd:Ae (.flat 5) .neq (.agg (cNd x)) (.agg (cNd y))=some (.bool (!decide (x=y))):=by
 show (eqA (.flat 5) (.agg (cNd x)) (.agg (cNd y))).map (fun b=>Ab.bool (!b))=_
 have h:eqA (.flat 5) (.agg (cNd x)) (.agg (cNd y))=some (decide (x=y)):=by unfold eqA;simp only [];rw [if_pos (show (cNd x).length=5 from rfl),OD]
 rw [h];rfl

end
theorem JN (x:Nd):AY 5 [.agg (cNd x)]=some (.sl (enL cNd [x]) .tight):=by
 simp [AY,CZ,US];simp [cNd,LO,BE,enL]
def IC:Ab→Bool
 | .bool _=>true
 | .int _ _=>true
 | .str _=>true
 | .sl _ .no=>true
 | .sl _ .tight=>true
 | _=>false
class Pl {α:Type} (f:α→List Ab):Prop where
 pl:∀a,(f a).all IC=true
instance:Pl cB:=⟨fun _=>rfl⟩
instance:Pl cU:=⟨fun _=>rfl⟩
instance:Pl cI:=⟨fun _=>rfl⟩
instance:Pl cN:=⟨fun _=>rfl⟩
instance:Pl cY:=⟨fun _=>rfl⟩
instance:Pl cS:=⟨fun _=>rfl⟩
instance:Pl cNd:=⟨fun _=>rfl⟩
theorem plnC_scal {c:Ab} (h:IC c=true):c.isScal=true:=by cases c <;> first | rfl | (simp [IC]at h)
theorem plnC_imm {c:Ab} (h:IC c=true):BE c=true:=by
 cases c <;> first | rfl | (simp [IC]at h)
 rename_i es tk;cases tk <;> first | rfl | (simp [IC]at h)
theorem plnC_frz {c:Ab} {H:Aa} {n d:Nat} (h:IC c=true):frz H n (d+1) c=some c:=by
 cases c <;> first | (simp [frz];done) | (simp [IC]at h)
 rename_i es tk;cases tk <;> first | (simp [frz];done) | (simp [IC]at h)
theorem GJ {H:Aa} {n d:Nat}:∀ {cs:List Ab},cs.all IC=true→FM H n (d+2) cs=some cs
 | [],_=>by simp [FM]
 | c::cs,h=>by
  simp only [List.all_cons,Vh]at h
  simp [FM,plnC_frz h.1,GJ h.2]
section
variable {α:Type} {f:α→List Ab} {l:List α} {sz i n:Nat} {a:α} {H:Aa} {id:Nat} {K:IntKind}
def flat (f:α→List Ab) (l:List α):List Ab:=l.flatMap f
@[simp] theorem flat_nil:flat f []=[]:=(rfl)
theorem DL:flat f (a::l)=f a++flat f l:=by simp [flat]
theorem Qt {m:List α}:flat f (l++m)=flat f l++flat f m:=by simp [flat]
theorem F4 [hf:Sz f sz]:∀(l:List α),(flat f l).length=l.length*sz
 | []=>by simp
 | a::l=>by
  have:=F4 l
  simp only [DL,Vc,hf.len,List.length_cons,X3]
  omega
theorem MQ [hp:Pl f]:∀(l:List α),(flat f l).all IC=true
 | []=>rfl
 | a::l=>by simp only [DL,XP,Vh];exact ⟨hp.pl a,MQ l⟩
theorem O1 [hp:Pl f] (l:List α):(flat f l).all BE=true:=by
 rw [Vn];intro c hc;exact plnC_imm (Vn.1 (MQ (f:=f) l) c hc)
theorem PB [hf:Sz f sz]:∀(l:List α) (i:Nat),(flat f l).drop (i*sz)=flat f (l.drop i)
 | [],i=>by simp
 | a::l,0=>by simp
 | a::l,i+1=>by
  have:=PB l i
  rw [List.drop_succ_cons,←this,DL,X3,XK,List.drop_append,hf.len,Xn (by rw [hf.len];omega),List.nil_append]
  congr 1;omega
theorem MP [hf:Sz f sz]:∀(l:List α) (i:Nat),(flat f l).take (i*sz)=flat f (l.take i)
 | [],i=>by simp
 | a::l,0=>by simp
 | a::l,i+1=>by
  have:=MP l i
  rw [List.take_succ_cons,DL,DL,←this,X3,XK,List.take_append,hf.len,Vg (by rw [hf.len];omega)]
  congr 2;omega
theorem Rb [hf:Sz f sz] (h:i<l.length):((flat f l).drop (i*sz)).take sz=f l[i]:=by
 rw [PB,V4 h,DL,W5 (by rw [hf.len];omega),Vg (by rw [hf.len];omega)]
theorem Sv [hf:Sz f sz] (h:i<l.length):Dp (flat f l) (i*sz) sz (f a)=flat f (l.set i a):=by
 have e:l.set i a=l.take i++a::l.drop (i+1):=by rw [Xi,if_pos h]
 have e2:i*sz+sz=(i+1)*sz:=by rw [X3]
 unfold Dp
 rw [e,e2,MP,PB,Qt,DL]
 simp
theorem Ks [hf:Sz f sz] (h:i<l.length):i*sz+sz≤(flat f l).length:=by
 rw [F4,←X3];exact VE _ h
theorem CB {g off cap:Nat} {ex:Bool} (h:i<n):At sz (.ms id g off n cap sz ex) (.int K (i:Int))=some (.ptr id g (off+i*sz)):=by
 unfold At
 simp only []
 rw [if_pos ⟨trivial,by omega,by omega⟩];simp
theorem HM [hf:Sz f 1] (hg:A8 H id 0=some (flat f l)) (h:i<l.length):Ac false 1 (.ptr id 0 i) H=(f l[i])[0]? := by
 have h1:=Rb (f:=f) (sz:=1) h
 have h2:=Ks (f:=f) (sz:=1) h
 simp only [Vk]at h1 h2
 simp only [Ac,hg,Option.bind_some,Vd,if_false]
 rw [←h1];simp
theorem Ok [hf:Sz f sz] (hg:A8 H id 0=some (flat f l)) (h:i<l.length):Ac true sz (.ptr id 0 (i*sz)) H=some (.agg (f l[i])):=by
 simp only [Ac,hg,Option.bind_some,if_true,Ks h,Rb h]
theorem DG [hf:Sz f sz] {v:Ab} (hg:A8 H id 0=some (flat f l)) (h:i<l.length) (hv:v.acells=some (f a)):Ag sz (.ptr id 0 (i*sz)) v H=some (Fv H id 0 (flat f (l.set i a))):=by
 simp only [Ag,hg,Option.bind_some,hv,hf.len,Ks h,and_self,if_true,Sv h]
theorem TU:∀(n:Nat),L3 n (f a)=flat f (List.replicate n a)
 | 0=>rfl
 | n+1=>by
  have:=TU n
  simp only [L3,List.replicate_succ,List.flatten_cons,DL]at this ⊢
  rw [this]
theorem Fa [hf:Sz f sz] [hp:Pl f] {bytes:Nat} (hb:n*bytes≤140737488355328) (hn:n≤140737488355328):Fi sz bytes (some (f a)) (.int .i64 (n:Int)) (.int .i64 (n:Int)) H=some (.ms H.length 0 0 n n sz true,H++[.cel 0 (flat f (List.replicate n a))]):=by
 have h1:((n:Int)*(bytes:Int))≤140737488355328:=by
   have:((n*bytes:Nat):Int)≤140737488355328:=by omega
   simpa using this
 have h2:(f a).all Ab.isScal=true:=by rw [Vn];intro c hc;exact plnC_scal (Vn.1 (hp.pl a) c hc)
 unfold Fi
 simp only [Option.bind_some]
 rw [if_pos ⟨h2,hf.len a,by omega,by omega,h1,by omega⟩]
 simp only [Int.toNat_natCast,TU]
theorem Mb [hf:Sz f sz]:∀(l:List α),Gt sz l.length (flat f l)=enL f l
 | []=>rfl
 | a::l=>by
  have:=Mb l
  simp only [List.length_cons,Gt,DL,enL,WA,W5 (X5 (hf.len a).symm),Vg (X5 (hf.len a)),List.drop_left' (hf.len a)]
  rw [this];rfl
theorem Re [hf:Sz f sz] [hp:Pl f] {b d cap:Nat} {ex:Bool} (hg:A8 H id 0=some (flat f l)) (hi:b≤id):GL H b (d+3) (.ms id 0 0 l.length cap sz ex)=some (.sl (enL f l) .no):=by
 have h1:¬id<b:=by omega
 unfold GL
 simp only [frz,h1,if_false,hg,Option.bind_some,WB,UY,F4,Va,if_true,Vg (X5 (F4 (f:=f) l)),GJ (MQ (f:=f) l),O1 (f:=f) l,Mb,Option.map_some,forget,Eh,fgt]
@[simp] theorem OY {G:Aa} {g:Nat} {cs:List Ab}:Fv (H++G) H.length g cs=H++Fv G 0 g cs:=R2 (k:=0)
@[simp] theorem setC_appK {G:Aa} {g k:Nat} {cs:List Ab}:Fv (H++G) (H.length+k) g cs=H++Fv G k g cs:=R2
@[simp] theorem OX {G:Aa} {g g':Nat} {c cs:List Ab}:Fv (.cel g' c::G) 0 g cs=.cel g cs::G:=(rfl)
@[simp] theorem setC_suc {G:Aa} {g k:Nat} {b:Blk} {cs:List Ab}:Fv (b::G) (k+1) g cs=b::Fv G k g cs:=TR

end
theorem AA {H:Aa} {p:Nat} {cs:List Ab} (hg:H[p]? = some (.cel 0 cs)):A8 H p 0=some cs:=by simp [A8,hg]
theorem BA {a:Bool} {sz p g o:Nat} {H G:Aa} {v:Ab} (h:Ac a sz (.ptr p g o) H=some v):Ac a sz (.ptr p g o) (H++G)=some v:=by
 unfold Ac at h ⊢
 simp only at h ⊢
 cases hg:A8 H p g with
 | none=>rw [hg]at h;cases h
 | some cs=>
  have:A8 (H++G) p g=some cs:=by
   have hlt:p<H.length:=by
    by_cases hl:p<H.length
    ·exact hl
    ·unfold A8 at hg;rw [Vl (by omega)]at hg;cases hg
   rw [get_old hlt];exact hg
  rw [this];rw [hg]at h;exact h
theorem B9 {H:Aa} {p:Nat} {cs cs':List Ab} (hg:H[p]? = some (.cel 0 cs)):Fv H p 0 cs'=H.set p (.cel 0 cs'):=by simp [Fv,hg]
theorem Ap {cs:List Ab} {B:Aa}:(B++[Blk.cel 0 cs])[B.length]? = some (.cel 0 cs):=by simp
theorem Bh {B:Aa} {b b':Blk}:(B++[b]).set B.length b'=B++[b']:=by simp
theorem GMb:(((((((∀ {α β:Type} (a:α) (f:α→Option β),Option.bind (Option.some a) f=f a) ∧
 (∀(v:Ab) (l:List Ab),ag (v::l) 0=v)) ∧
 ((∀(a v:Ab) (l:List Ab),ag (a::v::l) 1=v) ∧
 (∀(a b v:Ab) (l:List Ab),ag (a::b::v::l) 2=v))) ∧
 (((∀(a b c v:Ab) (l:List Ab),ag (a::b::c::v::l) 3=v) ∧
 (∀(a b c d v:Ab) (l:List Ab),ag (a::b::c::d::v::l) 4=v)) ∧
 ((∀(a b c d e v:Ab) (l:List Ab),ag (a::b::c::d::e::v::l) 5=v) ∧
 (∀ {ek:EqK} {k:IntKind} {a b:Int},Ae ek BinOp.lss (Ab.int k a) (Ab.int k b)=Option.some (Ab.bool (Decidable.decide (a<b))))))) ∧
 ((((∀ {ek:EqK} {k:IntKind} {a b:Int},Ae ek BinOp.gtr (Ab.int k a) (Ab.int k b)=Option.some (Ab.bool (Decidable.decide (a>b)))) ∧
 (∀ {ek:EqK} {k:IntKind} {a b:Int},Ae ek BinOp.leq (Ab.int k a) (Ab.int k b)=Option.some (Ab.bool (Decidable.decide (a≤b))))) ∧
 ((∀ {ek:EqK} {k:IntKind} {a b:Int},Ae ek BinOp.geq (Ab.int k a) (Ab.int k b)=Option.some (Ab.bool (Decidable.decide (a≥b)))) ∧
 (∀ {ek:EqK} {k:IntKind} {a b:Int},Ae ek BinOp.eql (Ab.int k a) (Ab.int k b)=Option.some (Ab.bool (a == b))))) ∧
 (((∀ {ek:EqK} {k:IntKind} {a b:Int},Ae ek BinOp.neq (Ab.int k a) (Ab.int k b)=Option.some (Ab.bool (a != b))) ∧
 (∀ {ek:EqK} {k:IntKind} {a b:Int},Ae ek BinOp.add (Ab.int k a) (Ab.int k b)=Option.some (Ab.int k (IntKind.wrap k (a+b))))) ∧
 ((∀ {ek:EqK} {k:IntKind} {a b:Int},Ae ek BinOp.sub (Ab.int k a) (Ab.int k b)=Option.some (Ab.int k (IntKind.wrap k (a-b)))) ∧
 ((∀ {ek:EqK} {k:IntKind} {a b:Int},Ae ek BinOp.mul (Ab.int k a) (Ab.int k b)=Option.some (Ab.int k (IntKind.wrap k (a*b)))) ∧
 (∀(a b:Out),Aj (Ab.bool Bool.true) a b=a)))))) ∧
 (((((∀(a b:Out),Aj (Ab.bool Bool.false) a b=b) ∧
 (∀(a b:Ab),AI (Ab.bool Bool.true) a b=Option.some a)) ∧
 ((∀(a b:Ab),AI (Ab.bool Bool.false) a b=Option.some b) ∧
 (∀ {kv:Ab→Out} (x:Option Ab),gk (Ab.bool Bool.true) Bool.true x kv=Option.bind x kv))) ∧
 (((∀ {kv:Ab→Out} (x:Option Ab),gk (Ab.bool Bool.false) Bool.false x kv=Option.bind x kv) ∧
 (∀ {kv:Ab→Out} (x:Option Ab),gk (Ab.bool Bool.true) Bool.false x kv=kv Ce)) ∧
 ((∀ {kv:Ab→Out} (x:Option Ab),gk (Ab.bool Bool.false) Bool.true x kv=kv Ce) ∧
 ((∀ {kv:Ab→Out} (w:Bool) (x:Option Ab),gk (Ab.tup []) w x kv=kv Ce) ∧
 (∀ {x:Option Ab} {p:Bool→Ab→Prop} {k:Ab→Out},gkc (Ab.bool Bool.true) Bool.true x p k=bC x (p Bool.true) k))))) ∧
 ((((∀ {x:Option Ab} {p:Bool→Ab→Prop} {k:Ab→Out},gkc (Ab.bool Bool.false) Bool.false x p k=bC x (p Bool.true) k) ∧
 (∀ {x:Option Ab} {p:Bool→Ab→Prop} {k:Ab→Out},gkc (Ab.bool Bool.true) Bool.false x p k=chk (p Bool.false Ce) (k Ce))) ∧
 ((∀ {x:Option Ab} {p:Bool→Ab→Prop} {k:Ab→Out},gkc (Ab.bool Bool.false) Bool.true x p k=chk (p Bool.false Ce) (k Ce)) ∧
 (∀ {x:Option Ab} {p:Bool→Ab→Prop} {k:Ab→Out} {w:Bool},gkc (Ab.tup []) w x p k=chk (p Bool.false Ce) (k Ce)))) ∧
 (((∀ {v:Ab} {p:Ab→Prop} {k:Ab→Out},bC (Option.some v) p k=chk (p v) (k v)) ∧
 (∀ {x:Out},chk True x=x)) ∧
 ((∀ {H0 H:Aa} {k:Ab→Aa→Out} (x:Out),gbK H0 (Ab.bool Bool.true) Bool.true H x k=bK H0 x k) ∧
 ((∀ {H0 H:Aa} {k:Ab→Aa→Out} (x:Out),gbK H0 (Ab.bool Bool.false) Bool.false H x k=bK H0 x k) ∧
 (∀ {H0 H:Aa} {k:Ab→Aa→Out} (x:Out),gbK H0 (Ab.bool Bool.true) Bool.false H x k=k Ce H))))))) ∧
 ((((((∀ {H0 H:Aa} {k:Ab→Aa→Out} (x:Out),gbK H0 (Ab.bool Bool.false) Bool.true H x k=k Ce H) ∧
 (∀ {H0 H:Aa} {k:Ab→Aa→Out} (w:Bool) (x:Out),gbK H0 (Ab.tup []) w H x k=k Ce H)) ∧
 ((∀ {H0 H:Aa} {k:Ab→Aa→Out} (x:Out),gbP H0 (Ab.bool Bool.true) Bool.true H x k=bP H0 x k) ∧
 (∀ {H0 H:Aa} {k:Ab→Aa→Out} (x:Out),gbP H0 (Ab.bool Bool.false) Bool.false H x k=bP H0 x k))) ∧
 (((∀ {H0 H:Aa} {k:Ab→Aa→Out} (x:Out),gbP H0 (Ab.bool Bool.true) Bool.false H x k=k Ce H) ∧
 (∀ {H0 H:Aa} {k:Ab→Aa→Out} (x:Out),gbP H0 (Ab.bool Bool.false) Bool.true H x k=k Ce H)) ∧
 ((∀ {H0 H:Aa} {k:Ab→Aa→Out} (w:Bool) (x:Out),gbP H0 (Ab.tup []) w H x k=k Ce H) ∧
 (∀ {H:Aa} {k:Ab→Aa→Out} (x:Out),gbN (Ab.bool Bool.true) Bool.true H x k=Bk x k)))) ∧
 ((((∀ {H:Aa} {k:Ab→Aa→Out} (x:Out),gbN (Ab.bool Bool.false) Bool.false H x k=Bk x k) ∧
 (∀ {H:Aa} {k:Ab→Aa→Out} (x:Out),gbN (Ab.bool Bool.true) Bool.false H x k=k Ce H)) ∧
 ((∀ {H:Aa} {k:Ab→Aa→Out} (x:Out),gbN (Ab.bool Bool.false) Bool.true H x k=k Ce H) ∧
 (∀ {H:Aa} {k:Ab→Aa→Out} (w:Bool) (x:Out),gbN (Ab.tup []) w H x k=k Ce H))) ∧
 (((∀ {H:Aa} {k:Ab→Aa→Out} (v:Ab),Bk (Option.some (Res.ret v,H)) k=k v H) ∧
 (∀ {H0 H:Aa} {k:Ab→Aa→Out} (v:Ab),bK H0 (Option.some (Res.ret v,H)) k=k v H)) ∧
 ((∀ {H0 H:Aa} {k:Ab→Aa→Out} (v:Ab),bP H0 (Option.some (Res.ret v,H)) k=k v H) ∧
 ((∀ {H0 H:Aa} (v:Ab),rK H0 v H=Option.some (Res.ret v,H)) ∧
 (∀ {H H0:Aa} {v:Ab},rKN H0 v H=Option.some (Res.ret (forget v),H))))))) ∧
 (((((∀ {c:Bool},unA UnOp.not (Ab.bool c)=Option.some (Ab.bool !c)) ∧
 (∀ {H:Aa} (v:Ab),retV (Option.some v) H=Option.some (Res.ret v,H))) ∧
 ((∀ {H:Aa},AF (Option.some H)=Option.some (Res.ret Ab.undef,H)) ∧
 (∀ {H:Aa} (v:Ab),BZ (Option.some (v,H))=Option.some (Res.ret v,H)))) ∧
 (((∀ {H:Aa} {k:Ab→Aa→Out} (v:Ab),Am (Option.some (v,H)) k=k v H) ∧
 (∀ {a b:Int},(a == b)=decide (a=b))) ∧
 ((∀ {a b:Int},(a != b) = !decide (a=b)) ∧
 (((!true)=false) ∧
 ((!false)=true))))) ∧
 (((((false=true)=False) ∧
 (∀(b:Bool),(false||b)=b)) ∧
 ((∀(b:Bool),(true||b)=true) ∧
 (∀(b:Bool),(b||false)=b))) ∧
 (((∀(b:Bool),(b||true)=true) ∧
 (∀(b:Bool),(b&&true)=b)) ∧
 ((∀(b:Bool),(true&&b)=b) ∧
 ((∀(b:Bool),(b&&false)=false) ∧
 (∀(b:Bool),(false&&b)=false)))))))):=
 ⟨⟨⟨⟨⟨⟨@B5,@Ak⟩,⟨@Bc,@Bg⟩⟩,⟨⟨@Bw,@BG⟩,⟨@D5,@Bm⟩⟩⟩,⟨⟨⟨@D4,@KL⟩,⟨@KM,@DF⟩⟩,⟨⟨@HU,@Cu⟩,⟨@DE,⟨@Jd,@AZ⟩⟩⟩⟩⟩,⟨⟨⟨⟨@AP,@C0⟩,⟨@Cr,@IY⟩⟩,⟨⟨@LP,@Sq⟩,⟨@Qs,⟨@gk_s,@Ps⟩⟩⟩⟩,⟨⟨⟨@Pv,@Pt⟩,⟨@Pu,@U0⟩⟩,⟨⟨@PW,@Hs⟩,⟨@P5,⟨@P8,@P6⟩⟩⟩⟩⟩⟩,⟨⟨⟨⟨⟨@P7,@U5⟩,⟨@Pw,@Pz⟩⟩,⟨⟨@Px,@Py⟩,⟨@U3,@P0⟩⟩⟩,⟨⟨⟨@P4,@P1⟩,⟨@P3,@U4⟩⟩,⟨⟨@By,@EU⟩,⟨@CC,⟨@No,@DY⟩⟩⟩⟩⟩,⟨⟨⟨⟨@Je,@Ia⟩,⟨@AV,@Da⟩⟩,⟨⟨@Bu,@G3⟩,⟨@KK,⟨VX,Wg⟩⟩⟩⟩,⟨⟨⟨@Bool.false_eq_true,@Bool.false_or⟩,⟨@Bool.true_or,@Bool.or_false⟩⟩,⟨⟨@Bool.or_true,@Bool.and_true⟩,⟨@Bool.true_and,⟨@Bool.and_false,@Bool.false_and⟩⟩⟩⟩⟩⟩⟩
theorem GMc:((∀(f:(List Ab→Aa→Out)→Out) (j:List Ab→Aa→Out),AN f j=f j)∧(∀h:Decidable True,@decide True h=true)∧(∀h:Decidable False,@decide False h=false)∧(∀(α:Type) (h:Decidable True) (t e:α),@ite α True h t e=t)∧(∀(α:Type) (h:Decidable False) (t e:α),@ite α False h t e=e)):=
 ⟨fun _ _=>rfl,fun _=>decide_true _,fun _=>decide_false _,fun _ _ _ _=>if_true _ _,fun _ _ _ _=>if_false _ _⟩
end Go.Gm
namespace Go.Proofs
open Go.RowKit Go.Shelf
attribute [local go_sem] Oper.semAt_some
def KB (n₀ Bs:Nat) (W W':World):Prop:=Below n₀ W W'∧W'.cell? ⟨Bs,0,none⟩=W.cell? ⟨Bs,0,none⟩
theorem KB.refl (n₀ Bs:Nat) (W:World):KB n₀ Bs W W:=⟨Below.refl _ _,rfl⟩
theorem KB.trans {n₀ Bs:Nat} {A B C:World} (h:KB n₀ Bs A B) (k:KB n₀ Bs B C):KB n₀ Bs A C:=⟨h.1.trans k.1,k.2.trans h.2⟩
def Mv (n k:Nat):List (Fin n):=(List.finRange n).reverse.take k
theorem NH {n k:Nat} (h:k<n):Mv n (k+1)=Mv n k++[⟨n-1-k,by omega⟩]:=by
 unfold Mv
 rw [List.take_add_one,List.getElem?_reverse (by simpa using h)]
 simp
 rw [List.getElem?_eq_getElem (by simp;omega)]
 simp
theorem backF_length {n k:Nat} (h:k≤n):(Mv n k).length=k:=by simp [Mv,h]
theorem PV {n:Nat}:∀(k:Nat) (j:Fin n),k≤n→n-k≤j.1→j∈Mv n k
 | 0,j,_,h=>by have:=j.2;omega
 | k+1,j,hk,h=>by
  rw [NH (by omega)]
  by_cases e:j.1=n-1-k
  ·exact List.mem_append_right _ (by simp;exact Fin.ext e)
  ·exact List.mem_append_left _ (PV k j (by omega) (by omega))
set_option maxRecDepth 100000 in
set_option maxHeartbeats 2000000 in
theorem Tryz.back1_in (F:Fence) (n:Nat) (h229:F.fn 229) (hro:F.round=none) (hn:1≤n) (l Bs n₀ b off len cap:Nat) (ao:Option Addr) (hao:0<len→ao=some ⟨b,off,none⟩) (zf:Nat→Nat) (hreach:len≤1099511627776) (hb:b<n₀) (J Jx:List (Fin len)→World→Prop)
  (hY:∀pre (x:Fin len) W,J pre W→pre.length<len→YieldAt F (n-1) Tryz.prog l #[.int .i64 (x.1:Int),.int .u32 ((zf x.1:Nat):Int)] W fun e W'=>
   (e=.returned (.bool true)∧J (pre++[x]) W'∧KB n₀ Bs W W')∨(e=.returned (.bool false)∧Jx (pre++[x]) W'))
  (W:World) (hBs:W.cell? ⟨Bs,0,none⟩=some (.slice ao len cap)) (hc:∀j,j<len→W.cell? ⟨b,off+j,none⟩=some (.int .u32 ((zf j:Nat):Int))) (h0:J [] W) :
  CallsIn F n Tryz.prog 229 #[.func (.yield l) #[] #[],.pointer (some ⟨Bs,0,none⟩)] W fun e W'=>(∃v,e=.returned v) ∧
   ((∃ys,ys=Mv len len∧J ys W')∨(∃pre,(∃k,k<len∧pre=Mv len (k+1))∧Jx pre W')):=by
 refine callsIn_of_wp Tryz.func229 rfl h229 ?_ hro
 simp only [Tryz.ntmps229,List.size_toArray,List.length_cons,List.length_nil,Nat.reduceAdd,Nat.reduceSub,Array.replicate_succ,Array.replicate_zero,List.push_toArray,List.append_toArray,List.nil_append,List.cons_append]
 gi_wp2
 gi_loopw [3] (fun i wr=>∃k:Nat,k≤len∧i=.int .i64 ((len:Int)-1-k)∧J (Mv len k) wr∧KB n₀ Bs W wr)
  (fun i _=>((intOf i)+1).toNat)
 case atStart=>exact ⟨0,Nat.zero_le _,by simp,h0,KB.refl _ _ _⟩
 case round=>
  obtain ⟨k,hk,rfl,hJs,hkb⟩:=hrel
  have hnx:=hkb.1
  have hBs':=hkb.2.trans hBs
  by_cases hlt:k<len
  ·have hao':=hao (by omega)
   subst hao'
   have hcx:=(hnx.cell (p:=⟨b,off+(len-1-k),none⟩) hb).trans (hc (len-1-k) (by omega))
   obtain ⟨fn,tmps,assign,body,hy,hR⟩:=hY _ ⟨len-1-k,by omega⟩ wr hJs (by rw [backF_length hk];exact hlt)
   dsimp only at hy
   have hlast:=NH hlt
   obtain ⟨i,hi⟩:∃i:Nat,i=len-1-k:=⟨_,rfl⟩
   have hil:i<len:=by omega
   obtain ⟨x,hx⟩:∃x:Fin len,x=⟨len-1-k,by omega⟩:=⟨_,rfl⟩
   rw [←hx]at hR hlast
   clear hx
   have hii:(len:Int)-1-(k:Int)=(i:Int):=by omega
   rw [←hi]at hcx hy
   have hstep:(i:Int)-1=(len:Int)-1-((k+1:Nat):Int):=by omega
   rw [hii]
   clear hi hii
   obtain ⟨z,hzz⟩:∃z:Nat,z=zf i:=⟨_,rfl⟩
   rw [←hzz]at hcx hy
   clear hzz
   clear hkb
   have hkb:Hid (KB n₀ Bs W wr):=⟨hnx,hBs'.trans hBs.symm⟩
   gi_wp2
   refine hR.mono ?_
   rintro e W3 (⟨rfl,hJ3,hk3⟩ | ⟨rfl,hJx3⟩)
   ·gi_wp2
    go_roundw
    case rel=>exact ⟨k+1,by omega,by simp,by rw [hlast];exact hJ3,hkb.out.trans hk3⟩
    case measure=>simp [intOf];omega
   ·gi_wp2
    refine bodyPost_ret (results_none rfl _ _ _) rfl ?_
    exact ⟨⟨_,rfl⟩,.inr ⟨_,⟨k,hlt,hlast.symm⟩,hJx3⟩⟩
  ·obtain rfl:k=len:=by omega
   gi_wp2
   go_end0
   exact ⟨⟨_,rfl⟩,.inl ⟨_,rfl,hJs⟩⟩
set_option maxHeartbeats 1000000 in
theorem Tryz.back_in (F:Fence) (n:Nat) (h205:F.fn 205) (hro:F.round=none) (a:Option Addr) (len cap:Nat) (w:World) :
  CallsIn F n Tryz.prog 205 #[.slice a len cap] w fun e w'=>e=.returned (.func (.func 229) #[] #[.pointer (some ⟨w.heap.size,0,none⟩)])∧w'=w.alloc (.cells #[.slice a len cap] 44):=by
 refine callsIn_of_wp Tryz.func205 rfl h205 ?_ hro
 simp only [Tryz.ntmps205,List.size_toArray,List.length_cons,List.length_nil,Nat.reduceAdd,Nat.reduceSub,Array.replicate_succ,Array.replicate_zero,List.push_toArray,List.append_toArray,List.nil_append,List.cons_append]
 gi_wp2
 go_ret
 exact ⟨rfl,rfl⟩
theorem Tryz.back_stops (F:Fence) (n:Nat) (h229:F.fn 229) (hro:F.round=none) (hn:1≤n) (Bs n₀ b off len cap:Nat) (ao:Option Addr) (hao:0<len→ao=some ⟨b,off,none⟩) (zf:Nat→Nat) (hreach:len≤1099511627776) (w:World) (hBs:Bs<w.heap.size) (hb:b<n₀) (hn₀:n₀≤w.heap.size)
  (hc:w.cell? ⟨Bs,0,none⟩=some (.slice ao len cap)) (hI:∀j,j<len→w.cell? ⟨b,off+j,none⟩=some (.int .u32 ((zf j:Nat):Int))) :
  SeqStopsK F n Tryz.prog 229 #[.pointer (some ⟨Bs,0,none⟩)] (fun x:Fin len=>#[Value.int .i64 (x.1:Int),Value.int .u32 ((zf x.1:Nat):Int)]) (KB n₀ Bs) (fun ys=>ys=Mv len len)
   (fun pre=>∃k,k<len∧pre=Mv len (k+1)) len w:=fun l J Jx W hW _ _ hY h0=>
 Tryz.back1_in F n h229 hro hn l Bs n₀ b off len cap ao hao zf hreach hb J Jx hY W ((hW.cell (p:=⟨Bs,0,none⟩) hBs).trans hc) (fun j hj=>(hW.cell (p:=⟨b,off+j,none⟩) (by show b<_;omega)).trans (hI j hj)) h0
end Go.Proofs
namespace Go.Gm
def GH (l:List Nat):Nat→Nat
 | 0=>0
 | k+1=>if l[k]?.getD 0=0 then GH l k else k+1
theorem NN (l:List Nat):∀k,GH l k≤k
 | 0=>Va _
 | k+1=>by
  have:=NN l k
  unfold GH
  split <;> omega
theorem Js {l:List Nat} (hx:Lim l):∀k,k≤l.length→l.take (GH l k)=A7 (val (l.take k))
 | 0,_=>by
  have:A7 (val ([]:List Nat))=[]:=(LI (l:=[]) ⟨fun x h=>(by cases h),fun x h=>(by cases h)⟩).symm
  simpa [GH]using this.symm
 | k+1,hk=>by
  have hg:l[k]? = some l[k]:=UU (by omega)
  have ht:l.take (k+1)=l.take k++[l[k]]:=Vf (by omega)
  unfold GH
  split
  ·rename_i h
   rw [Js hx k (by omega),ht,Cp]
   rw [hg,Option.getD_some]at h
   rw [h]
   simp [val]
  ·rename_i h
   rw [hg,Option.getD_some]at h
   refine LI ⟨fun x hxl=>hx x (Wm hxl),fun x hxl=>?_⟩
   rw [ht,List.getLast?_concat]at hxl
   cases hxl
   exact h
theorem q_right {l:List Nat} {H:Aa} {id k:Nat} (hg:H[id]? = some (.cel 0 (flat cU l))) (hk:k≤l.length) (hl:l.length<9223372036854775807):Sh.f8 (.ms id 0 0 k l.length 1 true) H=some (.ret (.bool (decide (k=0)||decide (l[k-1]?.getD 0≠0))),H):=by
 unfold Sh.f8
 cases k with
 | zero=>simp [A5]
 | succ k=>
  have hidx:=CB (sz:=1) (id:=id) (n:=k+1) (K:=.i64) (g:=0) (off:=0) (cap:=l.length) (ex:=true) (i:=k) (by omega)
  simp only [UY,Vk]at hidx
  have hld:=HM (f:=cU) (id:=id) (l:=l) (H:=H) (show A8 H id 0=some (flat cU l)by simp [A8,hg]) (i:=k) (by omega)
  have h0:¬((k+1:Nat):Int)=0:=by omega
  have hw:IntKind.i64.wrap (((k+1:Nat):Int)-1)=(k:Int):=by rw [An] <;> omega
  have hgk:l[k]? = some l[k]:=UU (by omega)
  simp only [show A5 (.ms id 0 0 (k+1) l.length 1 true)=some (.int .i64 ((k+1:Nat):Int)) from rfl,GMb,GMc,h0,hw,hidx,hld,Vp,hgk,Option.getD_some,WN]
  by_cases h:l[k]=0
  ·simp [h]
  ·have:¬(l[k]:Int)=0:=by omega
   simp [h,this]
theorem q_cut {l:List Nat} {H:Aa} {id:Nat} (hg:H[id]? = some (.cel 0 (flat cU l))) (hl:l.length<1152921504606846976):Sh.f1 (.ms id 0 0 l.length l.length 1 true) H=some (.ret (.ms id 0 0 (GH l l.length) l.length 1 true),H):=by
 unfold Sh.f1
 refine Br (σ:=Nat) (fun k=>k≤l.length∧GH l k=GH l l.length) (fun k=>[.ms id 0 0 k l.length 1 true]) (fun _=>H) (fun k=>k) (fun _=>some (.ret (.ms id 0 0 (GH l l.length) l.length 1 true),H)) (fun k rec hi hrec=>?_) l.length ⟨Va _,rfl⟩ (by omega)
 obtain ⟨hk,ht⟩:=hi
 unfold Sh.f11
 simp only [Ak,q_right hg hk (by omega),GMb,GMc]
 cases k with
 | zero=>simp [←ht,GH,rKN,fin,forget,Eh,fgt]
 | succ k=>
  by_cases h:l[k]?.getD 0=0
  ·have hw:IntKind.i64.wrap (((k+1:Nat):Int)-1)=(k:Int):=by rw [An] <;> omega
   have hsl:Bv 1 (.ms id 0 0 (k+1) l.length 1 true) none (some (.int .i64 (k:Int))) none=some (.ms id 0 0 k l.length 1 true):=by
    have:(0:Int)≤(k:Int):=by omega
    simp only [Bv,Bq,Option.bind_some,this,if_true,Int.toNat_natCast]
    rw [if_pos ⟨trivial,by omega,by omega,by omega⟩]
    simp
   have ht':GH l k=GH l l.length:=by rw [←ht];simp [GH,h]
   have hr:=hrec k ⟨by omega,ht'⟩ (by omega)
   simp only [h,show A5 (.ms id 0 0 (k+1) l.length 1 true)=some (.int .i64 ((k+1:Nat):Int)) from rfl,GMb,GMc,hw,hsl,Vp,ne_eq,not_true_eq_false,WN]
   exact hr
  ·have ht':GH l (k+1)=k+1:=by simp [GH,h]
   rw [←ht,ht']
   simp only [h,GMb,GMc,Vp,ne_eq,not_false_eq_true,WN]
   simp [rKN,fin,forget,Eh,fgt]
open Go.Proofs
set_option maxRecDepth 100000
noncomputable def kK (kn kr:List Ab→Aa→Out):QK
 | .normal,tm,H=>kn tm H
 | .ret,tm,H=>kr tm H
 | .pan v,_,H=>some (.pan v,H)
 | .exit _,_,_=>none
noncomputable def sfst:Code→Code
 | .seq a _=>a
 | c=>c
noncomputable def ssnd:Code→Code
 | .seq _ b=>b
 | c=>c
noncomputable def cmO:Orc:=ent 201 (ap1 Sh.f1) noO
noncomputable def Tp:Cfg:=mkC Tryz.prog Gs false cmO
noncomputable def cdA:Code:=sfst (El Tryz.f156)
noncomputable def cdB:Code:=sfst (ssnd (El Tryz.f156))
noncomputable def cdC:Code:=sfst (ssnd (ssnd (El Tryz.f156)))
noncomputable def cdD:Code:=ssnd (ssnd (ssnd (El Tryz.f156)))
theorem body_156:Tryz.f156.body=some (.seq cdA (.seq cdB (.seq cdC cdD))):=by kernel_rfl
noncomputable def cmA (kn:List Ab→Aa→Out) (x0 x1:Ab) (H0:Aa):Out:=
 Am (B8 true 1 x1 H0) fun b_41 H42=>
 Am (Az (some [(.int .i64 0)]) H42) fun x43 H44=>
 kn [x0,x1,.undef,b_41,x43,.undef,.undef,.undef,.undef,.undef,.undef,.undef,.undef,.undef,.undef,.undef,.undef,.undef,.undef,.undef,.undef,.undef,.undef,.undef,.undef,.undef,.undef,.undef,.undef,.undef,.undef,.undef,.undef,.undef,.undef,.undef,.undef,.undef,.undef] H44
noncomputable def cmB (kn:List Ab→Aa→Out) (x0 x1 x3 x4:Ab) (H0:Aa):Out:=
 Bk (Sh.f1 x0 H0) fun x41 H42=>
 bC (Ac false 1 x3 H42) (fun x43=>Ac false 1 x3 H0=some x43∧True) fun x43=>
 Bk (Sh.f1 x43 H42) fun x44 H45=>
 bK H0 (AF (Ag 1 x3 x44 H45)) fun _ H47=>
 kn [x41,x1,.undef,x3,x4,.undef,.undef,x0,x41,x43,x44,.undef,.undef,.undef,.undef,.undef,.undef,.undef,.undef,.undef,.undef,.undef,.undef,.undef,.undef,.undef,.undef,.undef,.undef,.undef,.undef,.undef,.undef,.undef,.undef,.undef,.undef,.undef,.undef] H47
noncomputable def cmC (kn kr:List Ab→Aa→Out) (x0 x3 x4:Ab) (H0:Aa):Out:=
 (A5 x0).bind fun x41=>
 (Ac false 1 x3 H0).bind fun x42=>
 (A5 x42).bind fun x43=>
 (Ae .none .neq x41 x43).bind fun x44=>
 Aj x44 (
 (A5 x0).bind fun x45=>
 (Ac false 1 x3 H0).bind fun x46=>
 (A5 x46).bind fun x47=>
 (Ae .none .lss x45 x47).bind fun x48=>
 Aj x48 (
 bK H0 (AF (Ag 1 x4 (.int .i64 (-1)) H0)) fun _ H50=>
 kr [x0,.undef,.undef,x3,x4,.undef,.undef,.undef,.undef,.undef,.undef,x0,x41,x42,x43,x44,x0,x45,x46,x47,x48,.undef,.undef,.undef,.undef,.undef,.undef,.undef,.undef,.undef,.undef,.undef,.undef,.undef,.undef,.undef,.undef,.undef,.undef] H50) (
 bK H0 (AF (Ag 1 x4 (.int .i64 1) H0)) fun _ H52=>
 kr [x0,.undef,.undef,x3,x4,.undef,.undef,.undef,.undef,.undef,.undef,x0,x41,x42,x43,x44,x0,x45,x46,x47,x48,.undef,.undef,.undef,.undef,.undef,.undef,.undef,.undef,.undef,.undef,.undef,.undef,.undef,.undef,.undef,.undef,.undef,.undef] H52)) (
 kn [x0,.undef,.undef,x3,x4,.undef,.undef,.undef,.undef,.undef,.undef,x0,x41,x42,x43,x44,.undef,.undef,.undef,.undef,.undef,.undef,.undef,.undef,.undef,.undef,.undef,.undef,.undef,.undef,.undef,.undef,.undef,.undef,.undef,.undef,.undef,.undef,.undef] H0)
theorem cmA_eq (kn kr:List Ab→Aa→Out) (x0 x1:Ab) (H:Aa):ev2 Tp 39 cdA .lf (kK kn kr) [x0,x1,.undef,.undef,.undef,.undef,.undef,.undef,.undef,.undef,.undef,.undef,.undef,.undef,.undef,.undef,.undef,.undef,.undef,.undef,.undef,.undef,.undef,.undef,.undef,.undef,.undef,.undef,.undef,.undef,.undef,.undef,.undef,.undef,.undef,.undef,.undef,.undef,.undef] H=cmA kn x0 x1 H:=by kernel_rfl
theorem cmB_eq (kn kr:List Ab→Aa→Out) (x0 x1 x3 x4:Ab) (H:Aa):ev2 Tp 39 cdB (.reg [0,1,2,3,4,5]) (kK kn kr) [x0,x1,.undef,x3,x4,.undef,.undef,.undef,.undef,.undef,.undef,.undef,.undef,.undef,.undef,.undef,.undef,.undef,.undef,.undef,.undef,.undef,.undef,.undef,.undef,.undef,.undef,.undef,.undef,.undef,.undef,.undef,.undef,.undef,.undef,.undef,.undef,.undef,.undef] H=cmB kn x0 x1 x3 x4 H:=by kernel_rfl
theorem cmC_eq (kn kr:List Ab→Aa→Out) (x0 x3 x4:Ab) (H:Aa):ev2 Tp 39 cdC (.tw .lf (.tw (.tw (.tw .lf (.tw (.tw .lf .lf) .lf)) (.tw .lf .lf)) .lf)) (kK kn kr) [x0,.undef,.undef,x3,x4,.undef,.undef,.undef,.undef,.undef,.undef,.undef,.undef,.undef,.undef,.undef,.undef,.undef,.undef,.undef,.undef,.undef,.undef,.undef,.undef,.undef,.undef,.undef,.undef,.undef,.undef,.undef,.undef,.undef,.undef,.undef,.undef,.undef,.undef] H=cmC kn kr x0 x3 x4 H:=by kernel_rfl
structure SW {α:Type} (lt:α→α→Bool):Prop where
 asy:∀a b,lt a b=true→lt b a=false
 neg:∀a b c,lt a b=false→lt b c=false→lt a c=false
section
variable {α:Type} {lt:α→α→Bool}
def B2 (lt:α→α→Bool) (a b:α):Bool:=!lt a b && !lt b a
def Fh (lt:α→α→Bool) (l m:List α):Prop:=∀a,l.filter (B2 lt a)=m.filter (B2 lt a)
def En (lt:α→α→Bool) (l:List α):Prop:=l.Pairwise fun a b=>lt b a=false
theorem SW.irr (h:SW lt) (a:α):lt a a=false:=by
 cases e:lt a a with
 | false=>rfl
 | true=>have:=h.asy a a e;rw [e]at this;cases this
theorem LQ (h:SW lt) (a:α):B2 lt a a=true:=by unfold B2;rw [h.irr];rfl
theorem FD {a b:α}:B2 lt a b=true↔lt a b=false∧lt b a=false:=by unfold B2;simp
theorem Fh.refl (l:List α):Fh lt l l:=fun _=>rfl
theorem Fh.trans {l m n:List α} (h:Fh lt l m) (k:Fh lt m n):Fh lt l n:=fun a=>(h a).trans (k a)
theorem Fh.app {l m l' m':List α} (h:Fh lt l m) (k:Fh lt l' m'):Fh lt (l++l') (m++m'):=fun a=>by
 rw [VJ,VJ,h a,k a]
theorem Fh.mem (hs:SW lt) {l m:List α} (h:Fh lt l m) {a:α}:a∈l↔a∈m:=by
 have e:∀l:List α,a∈l↔a∈l.filter (B2 lt a):=fun l=>by rw [VT];exact ⟨fun h=>⟨h,LQ hs a⟩,fun h=>h.1⟩
 rw [e l,e m,h a]
theorem Hn {l:List α} {p:α→Bool} (h:∀a∈l,p a=false):l.filter p=[]:=by
 rw [List.filter_eq_nil_iff]
 intro a ha e
 rw [h a ha]at e;cases e
theorem Fh.swap (hs:SW lt) {u v:List α} (h:∀x∈u,∀y∈v,lt y x=true):Fh lt (u++v) (v++u):=fun a=>by
 rw [VJ,VJ]
 by_cases hu:∃x∈u,B2 lt a x=true
 ·obtain ⟨x,hx,hxa⟩:=hu
  have hv:v.filter (B2 lt a)=[]:=Hn fun y hy=>by
   cases e:B2 lt a y with
   | false=>rfl
   | true=>
    rw [FD]at e hxa
    have:=hs.neg y a x e.2 hxa.1
    rw [h x hx y hy]at this;cases this
  rw [hv,V3,List.nil_append]
 ·have:u.filter (B2 lt a)=[]:=Hn fun x hx=>by
   cases e:B2 lt a x with
   | false=>rfl
   | true=>exact absurd ⟨x,hx,e⟩ hu
  rw [this,V3,List.nil_append]
theorem Sy (hs:SW lt) {x y:α} (h:B2 lt x y=true):B2 lt x=B2 lt y:=by
 rw [FD]at h
 funext a
 rw [Vr,FD,FD]
 exact ⟨fun ⟨p,q⟩=>⟨hs.neg _ _ _ h.2 p,hs.neg _ _ _ q h.1⟩,fun ⟨p,q⟩=>⟨hs.neg _ _ _ h.1 p,hs.neg _ _ _ q h.2⟩⟩
structure Srt (lt:α→α→Bool) (l m:List α):Prop where
 srt:En lt m
 st:Fh lt l m
 len:m.length=l.length
theorem Ls {l m:List α} (h1:En lt l) (h2:En lt m) (h:∀a∈l,∀b∈m,lt b a=false):En lt (l++m):=Wl.2 ⟨h1,h2,h⟩
def swp (l:List α) (i j:Nat):List α:=match l[i]?,l[j]? with
 | some a,some b=>(l.set i b).set j a
 | _,_=>l
theorem set_at:∀(A:List α) (x y:α) (R:List α),(A++x::R).set A.length y=A++y::R
 | [],_,_,_=>rfl
 | a::A,x,y,R=>by
  show a::(A++x::R).set A.length y=_
  rw [set_at A x y R];rfl
theorem M3 (l:List α) (i j:Nat):(swp l i j).length=l.length:=by
 unfold swp
 split
 ·rw [VA,VA]
 ·rfl
theorem get_at (A:List α) (x:α) (R:List α):(A++x::R)[A.length]? = some x:=by simp
theorem QO (A M B:List α) (x y:α) {i j:Nat} (hi:i=A.length) (hj:j=A.length+1+M.length):swp (A++x::(M++y::B)) i j=A++y::(M++x::B)∧swp (A++x::(M++y::B)) j i=A++y::(M++x::B):=by
 subst hi
 have e:∀z:α,A++z::(M++y::B)=(A++z::M)++y::B:=fun z=>by simp
 have hlen:∀z:α,(A++z::M).length=j:=fun z=>by simp;omega
 have g1:(A++x::(M++y::B))[A.length]? = some x:=get_at _ _ _
 have g2:(A++x::(M++y::B))[j]? = some y:=by rw [e,←hlen x];exact get_at _ _ _
 have s1:∀z w:α,(A++z::(M++y::B)).set j w=A++z::(M++w::B):=fun z w=>by rw [e,←hlen z,set_at];simp
 constructor
 ·unfold swp
  rw [g1,g2]
  dsimp only
  rw [set_at,s1]
 ·unfold swp
  rw [g1,g2]
  dsimp only
  rw [s1,set_at]

end
end Go.Gm
