/- Texts of this proof, joined. -/
import Derived.Test.YtagddbecnkbcdaaGreatJ2
import Derived.Test.YtagddbecnkbcdaaGreatChecked
import Derived.KernelRfl
import Derived.ProofKit
import Derived.OpenShut
import Derived.JoinedCond
import Derived.Carry
import Derived.Shelf.Small.Strs
import Derived.Shelf.Small.Wraps
import Derived.Shelf.Strings.Search1
import Derived.Shelf.GgClosure.StringsIndexFunc
import Derived.Ground.GgwProg
import Derived.Shelf.GgClosure.StringsIndexFuncTop
import Derived.Shelf.Strings.Prefix
import Derived.Shelf.Strings.FuncGrows
import Derived.Test.YtagddbecnkbcdaaGreatProg
import Derived.RangeFuncBox
import Derived.RangeFuncLeaves
import Derived.Shelf.Abstract
import Derived.WalkKit
import Derived.OwnWalkIn
import Derived.TacticsInMore
import Derived.LoopNIn
import Derived.LoopIn
import Derived.Calls
set_option linter.unusedVariables false
set_option linter.unusedSimpArgs false
namespace Go.Gm
noncomputable def Sh.f4n (b:Ab) (c:Aa):Out:=
 (Ae .none .lss b (.int .i32 48)).bind fun a=>
 gk a false (some b) fun d=>
 gk a false (Ae .none .gtr d (.int .i32 57)) fun e=>
 (AG a (.bool true) e).bind fun f=>
 rK c f c
noncomputable def Sh.fa (b:Ab) (c:Aa):Out:=
 (A2 b).bind fun d=>
 (Ae .none .eql d (.int .i64 0)).bind fun a=>
 gk a false (some b) fun e=>
 gk a false (some b) fun f=>
 gk a false (A2 f) fun g=>
 gk a false (Ae .none .sub g (.int .i64 1)) fun h=>
 gk a false (At 1 e h) fun i=>
 gk a false (Ac false 1 i c) fun j=>
 gk a false (Ae .none .neq j (.int .u32 0)) fun k=>
 (AG a (.bool true) k).bind fun l=>
 rK c l c
noncomputable def Sh.f1h (b:Aa) (d:LK) (a:Ab) (e:Aa):Out:=
 bK b (Sh.fa a e) fun f c=>
 (unA .not f).bind fun g=>
 Ak g (
 (A2 a).bind fun h=>
 (Ae .none .sub h (.int .i64 1)).bind fun i=>
 (Bn 1 a none (some i) none).bind fun j=>
 d [j] c) (
 rKN b a c)
noncomputable def Sh.f0 (b:Ab) (a:Aa):Out:=
 An (fun c vs H=>Sh.f1h a c (ag vs 0) H) AM [b] a
noncomputable def Sh.fs (a:Aa):Out:=
 Ao (A3 (some [(.int .i64 0),(.int .i64 0)]) a) fun b d=>
 (AB (some [(.int .i64 0),(.int .i64 0)]) [(0,1,(.int .i64 1000)),(1,1,(.int .i64 100000))]).bind fun e=>
 bP a (AH (Ah 2 b e d)) fun _ c=>
 (Ac true 2 b c).bind fun f=>rP a f c
noncomputable def Sh.f25 (b d:Ab) (c:Aa):Out:=
 (Ae .none .geq b (.int .i64 0)).bind fun a=>
 gk a true (some b) fun e=>
 gk a true (some d) fun f=>
 gk a true (Ae .none .leq e f) fun g=>
 (AG a g (.bool false)).bind fun h=>
 rK c h c
noncomputable def Sh.f26 (f:Ab) (a:Aa):Out:=
 Ao (B2 true 2 f a) fun d e=>
 (Ad 0 d).bind fun g=>
 (Ac false 1 g e).bind fun h=>
 bP a (Sh.f25 h (.int .i64 1000) e) fun b c=>
 gk b true (Ad 1 d) fun i=>
 gk b true (Ac false 1 i c) fun j=>
 gbP a b true c (Sh.f25 j (.int .i64 100000) c) fun k l=>
 (AG b k (.bool false)).bind fun m=>
 rP a m l
noncomputable def Sh.f5x (c:Aa) (h:LK) (d e f g a:Ab) (b:Aa):Out:=
 (Ae .none .lss a g).bind fun i=>
 Ak i (
 (Eg d a).bind fun j=>
 (Eg e a).bind fun k=>
 (Ae .none .neq j k).bind fun l=>
 Ak l (
 rK c a b) (
 (Ae .none .add a (.int .i64 1)).bind fun m=>
 h [d,e,f,g,m] b)) (
 rK c f b)
noncomputable def Sh.f27 (a b:Ab) (c:Aa):Out:=
 (Cr a).bind fun e=>
 (Cr b).bind fun f=>
 (GM TO e [f]).bind fun d=>
 An (fun g vs H=>Sh.f5x c g (ag vs 0) (ag vs 1) (ag vs 2) (ag vs 3) (ag vs 4) H) AM [a,b,d,d,(.int .i64 0)] c
noncomputable def Sh.fb (b:Ab) (a:Aa):Out:=
 (Aq b).bind fun c=>
 (Ad 1 c).bind fun d=>
 bC (Ac false 1 d a) (fun _=>True) fun e=>
 (Aq b).bind fun f=>
 (Ad 0 f).bind fun g=>
 bC (Ac false 1 g a) (fun _=>True) fun h=>
 (Cr h).bind fun i=>
 (Ae .none .eql e i).bind fun j=>
 rK a j a
noncomputable def Sh.f77 (a:Aa) (b:Aa):Out:=
 (AB (some [(.int .i64 0),(.str [])]) [(0,1,(.int .i64 2)),(1,1,(.str []))]).bind fun c=>
 (Ub G9 c).bind fun d=>
 bK a (panA d b) fun _ e=>
 rK a (.tup []) e
noncomputable def Sh.f5 (c d:Ab) (a:Aa):Out:=
 AJ (fun j1=>
 bK a (Sh.fb c a) fun e b=>
 Ak e (
 (AB (some [(.int .i64 0),(.str [])]) [(0,1,(.int .i64 3)),(1,1,d)]).bind fun f=>
 (Ub G9 f).bind fun g=>
 bK a (panA g b) fun _ h=>
 j1 [] h) (
 j1 [] b)) (fun vs H=>Sh.f77 a H)
noncomputable def Sh.fn (b c g:Ab) (a:Aa):Out:=
 (Aq b).bind fun h=>
 (Ad 0 h).bind fun i=>
 bC (Ac false 1 i a) (fun _=>True) fun j=>
 (Aq b).bind fun k=>
 (Ad 1 k).bind fun l=>
 bC (Ac false 1 l a) (fun _=>True) fun m=>
 (BF j (some m) none).bind fun n=>
 AZ (Sh.f27 n c a) fun d e=>
 (Aq b).bind fun o=>
 (Ad 1 o).bind fun p=>
 (Ac false 1 p e).bind fun q=>
 (Ae .none .add q d).bind fun r=>
 (Aq b).bind fun s=>
 (Ad 1 s).bind fun t=>
 bK a (AH (Ah 1 t r e)) fun _ f=>
 (Cr c).bind fun u=>
 (Ae .none .lss d u).bind fun v=>
 Ak v (
 (BF c (some d) none).bind fun w=>
 (Ae .none .add w g).bind fun x=>
 bK a (Sh.f5 b x f) fun z y=>
 rK a (.tup []) y) (
 rK a (.tup []) f)
noncomputable def Sh.fe (c e:Ab) (d:Aa):Out:=
 AZ (Sh.fb c d) fun f b=>
 (unA .not f).bind fun a=>
 gk a true (some e) fun g=>
 gk a true (some c) fun h=>
 gk a true (Aq h) fun i=>
 gk a true (Ad 0 i) fun j=>
 gkc a true (Ac false 1 j b) (fun _ _=>True) fun k=>
 gk a true (some c) fun l=>
 gk a true (Aq l) fun m=>
 gk a true (Ad 1 m) fun n=>
 gkc a true (Ac false 1 n b) (fun _ _=>True) fun o=>
 gk a true (Eg k o) fun p=>
 gbN a true b (Sh.f24 g p b) fun q r=>
 gk a true (Ae .none .geq q (.int .i64 0)) fun s=>
 (AG a s (.bool false)).bind fun t=>
 rK d t r
noncomputable def Sh.f6q (a:Aa) (b:Ab) (c:Aa):Out:=
 (Aq b).bind fun d=>
 (Ad 1 d).bind fun e=>
 (Ac false 1 e c).bind fun f=>
 (Ae .none .add f (.int .i64 1)).bind fun g=>
 (Aq b).bind fun h=>
 (Ad 1 h).bind fun i=>
 bK a (AH (Ah 1 i g c)) fun _ j=>
 rK a (.tup []) j
noncomputable def Sh.f5y (b:Aa) (a d:Ab) (e:Aa):Out:=
 AJ (fun j2=>
 bK b (Sh.fe a (.str [10]) e) fun f c=>
 (unA .not f).bind fun g=>
 Ak g (
 (Ae .none .add (.str [10]) d).bind fun h=>
 bK b (Sh.f5 a h c) fun j i=>
 j2 [a] i) (
 j2 [a] c)) (fun vs H=>Sh.f6q b (ag vs 0) H)
noncomputable def Sh.fo (a d:Ab) (b:Aa):Out:=
 bK b (Sh.fb a b) fun f e=>
 Ak f (
 rK b (.tup []) e) (
 AJ (fun j1=>
 bK b (Sh.fe a (.str [13]) e) fun g c=>
 Ak g (
 (Aq a).bind fun h=>
 (Ad 1 h).bind fun i=>
 (Ac false 1 i c).bind fun j=>
 (Ae .none .add j (.int .i64 1)).bind fun k=>
 (Aq a).bind fun l=>
 (Ad 1 l).bind fun m=>
 bK b (AH (Ah 1 m k c)) fun _ n=>
 j1 [a,d] n) (
 j1 [a,d] c)) (fun vs H=>Sh.f5y b (ag vs 0) (ag vs 1) H))
noncomputable def Sh.f28 (b:Ab) (c:Aa):Out:=
 (Ae .none .gtr b (.int .u8 32)).bind fun a=>
 gk a true (some b) fun d=>
 gk a true (Ae .none .lss d (.int .u8 127)) fun e=>
 (AG a e (.bool false)).bind fun f=>
 rK c f c
noncomputable def Sh.f5z (c:Aa) (b d:Ab) (a:Aa):Out:=
 (Aq b).bind fun e=>
 (Ad 0 e).bind fun f=>
 bC (Ac false 1 f a) (fun _=>True) fun g=>
 (Aq b).bind fun h=>
 (Ad 1 h).bind fun i=>
 bC (Ac false 1 i a) (fun _=>True) fun j=>
 (BF g (some d) (some j)).bind fun k=>
 rK c k a
noncomputable def Sh.f60 (g:Aa) (i:LK) (a h d:Ab) (j:Aa):Out:=
 AZ (Sh.fb a j) fun k e=>
 (unA .not k).bind fun c=>
 gk c true (some a) fun l=>
 gk c true (Aq l) fun m=>
 gk c true (Ad 1 m) fun n=>
 gkc c true (Ac false 1 n e) (fun _ _=>True) fun o=>
 gk c true (some d) fun p=>
 gk c true (Ae .none .sub o p) fun q=>
 gk c true (Ae .none .lss q (.int .i64 40)) fun r=>
 (AG c r (.bool false)).bind fun b=>
 gk b true (some a) fun s=>
 gk b true (Aq s) fun t=>
 gk b true (Ad 0 t) fun u=>
 gkc b true (Ac false 1 u e) (fun _ _=>True) fun v=>
 gk b true (some a) fun w=>
 gk b true (Aq w) fun x=>
 gk b true (Ad 1 x) fun y=>
 gkc b true (Ac false 1 y e) (fun _ _=>True) fun z=>
 gk b true (Eg v z) fun aa=>
 gbN b true e (Sh.f28 aa e) fun ab f=>
 (AG b ab (.bool false)).bind fun ac=>
 Ak ac (
 (Aq a).bind fun ad=>
 (Ad 1 ad).bind fun ae=>
 (Ac false 1 ae f).bind fun aj=>
 (Ae .none .add aj (.int .i64 1)).bind fun ak=>
 (Aq a).bind fun al=>
 (Ad 1 al).bind fun am=>
 bK g (AH (Ah 1 am ak f)) fun _ an=>
 i [a,h,d] an) (
 AJ (fun j2=>
 (Aq a).bind fun ap=>
 (Ad 1 ap).bind fun aq=>
 (Ac false 1 aq f).bind fun ar=>
 (Ae .none .eql ar d).bind fun au=>
 Ak au (
 (Ae .none .add (.str [97]) h).bind fun av=>
 bK g (Sh.f5 a av f) fun ax aw=>
 j2 [a,d] aw) (
 j2 [a,d] f)) (fun vs H=>Sh.f5z g (ag vs 0) (ag vs 1) H))
noncomputable def Sh.f1i (b c:Ab) (a:Aa):Out:=
 (Aq b).bind fun d=>
 (Ad 1 d).bind fun e=>
 (Ac false 1 e a).bind fun f=>
 An (fun g vs H=>Sh.f60 a g (ag vs 0) (ag vs 1) (ag vs 2) H) AM [b,c,f] a
noncomputable def Sh.f29 (e:Ab) (a:Aa):Out:=
 (AB (some [(.int .i64 0),(.str [])]) [(0,1,(.int .i64 4)),(1,1,(.str []))]).bind fun b=>
 (Ub G9 b).bind fun c=>
 bK a (panA c a) fun _ d=>
 rK a (.tup []) d
noncomputable def Sh.f2a (c b:Ab) (d:Aa):Out:=
 (Cr c).bind fun e=>
 (Cr b).bind fun f=>
 (Ae .none .geq e f).bind fun a=>
 gk a true (some c) fun g=>
 gk a true (some b) fun h=>
 gk a true (Cr h) fun i=>
 gk a true (BF g none (some i)) fun j=>
 gk a true (some b) fun k=>
 gk a true (Ae .none .eql j k) fun l=>
 (AG a l (.bool false)).bind fun m=>
 rK d m d
noncomputable def Sh.f40 (b c:Ab) (a:Aa):Out:=
 bK a (Sh.f2a b c a) fun e d=>
 (unA .not e).bind fun f=>
 Ak f (
 rK a (.tup [b,(.bool false)]) d) (
 (Cr c).bind fun g=>
 (BF b (some g) none).bind fun h=>
 rK a (.tup [h,(.bool true)]) d)
noncomputable def Sh.f2b (c d:Ab) (a:Aa):Out:=
 bK a (Sh.f40 c d a) fun b e=>
 (Az 0 b).bind fun f=>
 (Az 1 b).bind fun g=>
 rK a (.tup [f,g]) e
noncomputable def Sh.f2c (d c:Ab) (a:Aa):Out:=
 (Ae .none .lss c (.int .i64 0)).bind fun b=>
 gk b false (some c) fun h=>
 gk b false (some d) fun i=>
 gk b false (Cr i) fun j=>
 gk b false (Ae .none .gtr h j) fun k=>
 (AG b (.bool true) k).bind fun l=>
 Ak l (
 rK a (.int .i64 0) a) (
 (BF d (some c) none).bind fun e=>
 bK a (Sh.f23 e (.fn 235 []) a) fun f g=>
 (Ae .none .lss f (.int .i64 0)).bind fun m=>
 Ak m (
 (Cr e).bind fun n=>
 rK a n g) (
 rK a f g))
noncomputable def Sh.f61 (a:Aa) (k:LK) (e f b g h i c:Ab) (d:Aa):Out:=
 (Ae .none .lss c i).bind fun l=>
 Ak l (
 (At 1 h c).bind fun m=>
 (Ac false 1 m d).bind fun n=>
 (A9 .u64 n).bind fun o=>
 (A9 .u64 f).bind fun p=>
 (Ae .none .mul o p).bind fun q=>
 (Ae .none .add g q).bind fun j=>
 (A9 .u32 j).bind fun r=>
 (At 1 b c).bind fun s=>
 bP a (AH (Ah 1 s r d)) fun _ t=>
 (Ae .none .shr j (.int .u64 32)).bind fun u=>
 (Ae .none .add c (.int .i64 1)).bind fun v=>
 k [e,f,b,u,h,i,v] t) (
 (A2 e).bind fun w=>
 (A9 .u32 g).bind fun x=>
 (At 1 b w).bind fun y=>
 bP a (AH (Ah 1 y x d)) fun _ z=>
 bP a (Sh.f0 b z) fun aa ab=>
 rPN a aa ab)
noncomputable def Sh.f2d (a d e:Ab) (b:Aa):Out:=
 (A2 a).bind fun f=>
 (Ae .none .add f (.int .i64 1)).bind fun c=>
 Ao (Fh 1 4 (some [(.int .u32 0)]) c c b) fun g h=>
 (A9 .u64 e).bind fun i=>
 (A2 a).bind fun j=>
 An (fun k vs H=>Sh.f61 b k (ag vs 0) (ag vs 1) (ag vs 2) (ag vs 3) (ag vs 4) (ag vs 5) (ag vs 6) H) AM [a,d,g,i,a,j,(.int .i64 0)] h
noncomputable def Sh.f4o (a:Aa) (i:LK) (b c d e:Ab) (j:Aa):Out:=
 bP a (Cb (Pu e j)) fun f g=>
 (Az 0 f).bind fun k=>
 Ak k (
 (Az 2 f).bind fun l=>
 (Ae .none .sub l (.int .i32 48)).bind fun m=>
 (A9 .u32 m).bind fun n=>
 bP a (Sh.f2d d (.int .u32 10) n g) fun o p=>
 i [b,c,o,e] p) (
 (AB (some [(.bool false),(.sl [] .tight)]) [(0,1,c),(1,1,d)]).bind fun q=>
 bP a (AH (Ah 2 b q g)) fun _ h=>
 (IF [Ac true 2 b h,some (.int .i64 0)]).bind fun r=>rPN a r h)
noncomputable def Sh.f62 (a:Aa) (b d g h:Ab) (c:Aa):Out:=
 Ak h (
 (AB (some [(.bool false),(.sl [] .tight)]) []).bind fun i=>
 bP a (AH (Ah 2 b i c)) fun _ e=>
 (IF [Ac true 2 b e,some (.int .i64 2)]).bind fun j=>rPN a j e) (
 (Cr d).bind fun k=>
 (Ae .none .gtr k (.int .i64 400)).bind fun l=>
 Ak l (
 (AB (some [(.bool false),(.sl [] .tight)]) []).bind fun m=>
 bP a (AH (Ah 2 b m c)) fun _ f=>
 (IF [Ac true 2 b f,some (.int .i64 4)]).bind fun n=>rPN a n f) (
 bP a (Cb (O8 d c)) fun o p=>
 An (fun q vs H=>Sh.f4o a q (ag vs 0) (ag vs 1) (ag vs 2) (ag vs 3) H) AM [b,g,(.sl [] .tight),o] p))
noncomputable def Sh.f2e (f:Ab) (b:Aa):Out:=
 Ao (A3 (some [(.bool false),(.sl [] .tight)]) b) fun c l=>
 bP b (Sh.f2b f (.str [45]) l) fun g h=>
 (Az 0 g).bind fun a=>
 (Az 1 g).bind fun d=>
 AJ (fun j1=>
 (Ae .none .eql a (.str [])).bind fun i=>
 Ak i (
 j1 [c,a,d,i] h) (
 bP b (Sh.f2c a (.int .i64 0) h) fun m j=>
 (Cr a).bind fun n=>
 (Ae .none .lss m n).bind fun k=>
 Ak k (
 j1 [c,a,d,k] j) (
 (Eg a (.int .i64 0)).bind fun o=>
 (Ae .none .eql o (.int .u8 48)).bind fun e=>
 gk e true (some f) fun p=>
 gk e true (Ae .none .neq p (.str [48])) fun q=>
 (AG e q (.bool false)).bind fun r=>
 j1 [c,a,d,r] j))) (fun vs H=>Sh.f62 b (ag vs 0) (ag vs 1) (ag vs 2) (ag vs 3) H)
noncomputable def Sh.f4p (c:Aa) (d:LK) (a e f g h:Ab) (b:Aa):Out:=
 (Aq a).bind fun i=>
 (Ad 1 i).bind fun j=>
 (Ac false 1 j b).bind fun k=>
 (Ae .none .add k (.int .i64 1)).bind fun l=>
 (Aq a).bind fun m=>
 (Ad 1 m).bind fun n=>
 bK c (AH (Ah 1 n l b)) fun _ o=>
 d [a,e,f,g,h] o
noncomputable def Sh.f41 (b:Aa) (c d i:Ab) (a:Aa):Out:=
 (Aq c).bind fun j=>
 (Ad 0 j).bind fun k=>
 bC (Ac false 1 k a) (fun _=>True) fun l=>
 (Aq c).bind fun m=>
 (Ad 1 m).bind fun n=>
 bC (Ac false 1 n a) (fun _=>True) fun o=>
 (BF l (some i) (some o)).bind fun p=>
 AZ (Sh.f2e p a) fun e q=>
 (Az 0 e).bind fun r=>
 Ao (A3 (some [(.bool false),(.sl [] .tight)]) q) fun f s=>
 AZ (AH (Ah 2 f r s)) fun _ g=>
 (Az 1 e).bind fun v=>
 (Ac true 2 f g).bind fun t=>
 bK b (AH (Ah 2 d t g)) fun _ h=>
 (Ac true 2 d h).bind fun u=>rKN b u h
noncomputable def Sh.f4q (e:Aa) (i:LK) (a h f g d:Ab) (j:Aa):Out:=
 bK e (Sh.fe a (.str [48,49,50,51,52,53,54,55,56,57]) j) fun k b=>
 Ak k (
 AJ (fun j3=>
 (Aq a).bind fun l=>
 (Ad 1 l).bind fun m=>
 (Ac false 1 m b).bind fun n=>
 (Ae .none .gtr n d).bind fun c=>
 gk c true (some a) fun o=>
 gk c true (Aq o) fun p=>
 gk c true (Ad 0 p) fun q=>
 gk c true (Ac false 1 q b) fun r=>
 gk c true (some d) fun s=>
 gk c true (Eg r s) fun t=>
 gk c true (Ae .none .eql t (.int .u8 48)) fun u=>
 (AG c u (.bool false)).bind fun v=>
 Ak v (
 bK e (Sh.f5 a (.str []) b) fun an w=>
 j3 [a,h,f,g,d] w) (
 (Aq a).bind fun x=>
 (Ad 1 x).bind fun y=>
 (Ac false 1 y b).bind fun z=>
 (Ae .none .sub z d).bind fun aa=>
 (Ae .none .eql aa (.int .i64 400)).bind fun ab=>
 Ak ab (
 bK e (Sh.f29 a b) fun ap ac=>
 j3 [a,h,f,g,d] ac) (
 j3 [a,h,f,g,d] b))) (fun vs H=>Sh.f4p e i (ag vs 0) (ag vs 1) (ag vs 2) (ag vs 3) (ag vs 4) H)) (
 AJ (fun j4=>
 (Aq a).bind fun ad=>
 (Ad 1 ad).bind fun ae=>
 (Ac false 1 ae b).bind fun aj=>
 (Ae .none .eql aj d).bind fun ak=>
 Ak ak (
 (Ae .none .add (.str [49]) h).bind fun al=>
 bK e (Sh.f5 a al b) fun aq am=>
 j4 [a,f,g] am) (
 j4 [a,f,g] b)) (fun vs H=>Sh.f41 e (ag vs 0) (ag vs 1) (ag vs 2) H))
noncomputable def Sh.f4r (c:Aa) (a d e f:Ab) (b:Aa):Out:=
 (Aq a).bind fun g=>
 (Ad 1 g).bind fun h=>
 (Ac false 1 h b).bind fun i=>
 An (fun j vs H=>Sh.f4q c j (ag vs 0) (ag vs 1) (ag vs 2) (ag vs 3) (ag vs 4) H) AM [a,d,e,f,i] b
noncomputable def Sh.f1j (a c d:Ab) (b:Aa):Out:=
 Ao (A3 (some [(.bool false),(.sl [] .tight)]) b) fun e f=>
 (Aq a).bind fun j=>
 (Ad 1 j).bind fun k=>
 (Ac false 1 k f).bind fun g=>
 AJ (fun j1=>
 gk c true (some a) fun l=>
 gbK b c true f (Sh.fe l (.str [45]) f) fun m h=>
 (AG c m (.bool false)).bind fun n=>
 Ak n (
 (Aq a).bind fun o=>
 (Ad 1 o).bind fun p=>
 (Ac false 1 p h).bind fun q=>
 (Ae .none .add q (.int .i64 1)).bind fun r=>
 (Aq a).bind fun s=>
 (Ad 1 s).bind fun t=>
 bK b (AH (Ah 1 t r h)) fun _ u=>
 bK b (Sh.fe a (.str [48]) u) fun v i=>
 Ak v (
 bK b (Sh.f5 a (.str []) i) fun x w=>
 j1 [a,d,e,g] w) (
 j1 [a,d,e,g] i)) (
 j1 [a,d,e,g] h)) (fun vs H=>Sh.f4r b (ag vs 0) (ag vs 1) (ag vs 2) (ag vs 3) H)
noncomputable def Sh.f2f (b:Ab) (a:Aa):Out:=
 (Aq b).bind fun g=>
 (Ad 0 g).bind fun h=>
 bK a (Sh.fe h (.str [35]) a) fun i d=>
 Ak i (
 (Aq b).bind fun j=>
 (Ad 0 j).bind fun k=>
 bK a (Sh.fn k (.str [35,82,32]) (.str [97]) d) fun a0 l=>
 (Aq b).bind fun m=>
 (Ad 0 m).bind fun n=>
 bK a (Sh.f1i n (.str []) l) fun o p=>
 (Aq b).bind fun q=>
 (Ad 2 q).bind fun r=>
 bK a (AH (Ah 1 r o p)) fun _ s=>
 rK a (.tup []) s) (
 (Aq b).bind fun t=>
 (Ad 0 t).bind fun u=>
 bK a (Sh.f1j u (.bool true) (.str [32,49]) d) fun v w=>
 Ao (A3 (some [(.bool false),(.sl [] .tight)]) w) fun e x=>
 bK a (AH (Ah 2 e v x)) fun _ y=>
 (Aq b).bind fun z=>
 (Ad 0 z).bind fun aa=>
 bK a (Sh.fn aa (.str [32]) (.str [49]) y) fun a1 ab=>
 (Aq b).bind fun ac=>
 (Ad 0 ac).bind fun ad=>
 bK a (Sh.f1j ad (.bool true) (.str []) ab) fun ae aj=>
 Ao (A3 (some [(.bool false),(.sl [] .tight)]) aj) fun f ak=>
 bK a (AH (Ah 2 f ae ak)) fun _ c=>
 (Aq b).bind fun al=>
 (Ad 3 al).bind fun am=>
 bC (Ac false 1 am c) (fun _=>True) fun an=>
 bC (Ac true 2 e c) (fun _=>True) fun ap=>
 bC (Ac true 2 f c) (fun _=>True) fun aq=>
 (AB (some [(.bool false),(.sl [] .tight),(.bool false),(.sl [] .tight),(.int .u8 0)]) [(0,2,ap),(2,2,aq),(4,1,(.int .u8 1))]).bind fun ar=>
 (AQ 5 [ar]).bind fun au=>
 AZ (Cb (AW A6 5 72 an au c)) fun av aw=>
 (Aq b).bind fun ax=>
 (Ad 3 ax).bind fun ay=>
 bK a (AH (Ah 1 ay av aw)) fun _ az=>
 rK a (.tup []) az)
noncomputable def Sh.f4s (a:Aa) (d:LK) (b:Ab) (e:Aa):Out:=
 (Aq b).bind fun f=>
 (Ad 0 f).bind fun g=>
 bK a (Sh.fb g e) fun h c=>
 (unA .not h).bind fun i=>
 Ak i (
 bK a (Sh.f2f b c) fun n j=>
 (Aq b).bind fun k=>
 (Ad 0 k).bind fun l=>
 bK a (Sh.fo l (.str []) j) fun o m=>
 d [b] m) (
 rK a (.tup []) c)
noncomputable def Sh.f1k (b:Ab) (a:Aa):Out:=
 (Aq b).bind fun c=>
 (Ad 0 c).bind fun d=>
 bK a (Sh.fn d (.str [35,76,105,102,101,32,49,46,48,54]) (.str []) a) fun j e=>
 (Aq b).bind fun f=>
 (Ad 0 f).bind fun g=>
 bK a (Sh.fo g (.str []) e) fun k h=>
 An (fun i vs H=>Sh.f4s a i (ag vs 0) H) AM [b] h
noncomputable def Sh.f1l:Ab→Aa→Out:=PR (ent 38 (ap1 Sh.f1k) noO)
noncomputable def Sh.f2g (c:Ab) (a:Aa):Out:=
 Ao (B2 true 5 c a) fun d b=>
 (Ad 4 d).bind fun e=>
 (Ac false 1 e b).bind fun f=>
 (Ae .none .eql f (.int .u8 0)).bind fun g=>
 rP a g b
noncomputable def Sh.f1m (g:Ab) (c:Aa):Out:=
 Ao (B2 true 2 g c) fun d f=>
 (Ad 1 d).bind fun h=>
 (Ac false 1 h f).bind fun i=>
 bP c (Sh.fa i f) fun a e=>
 gk a true (Ad 0 d) fun j=>
 gk a true (Ac false 1 j e) fun k=>
 gk a true (unA .not k) fun l=>
 gk a true (some l) fun b=>
 gk b false (Ad 1 d) fun m=>
 gk b false (Ac false 1 m e) fun n=>
 gk b false (A2 n) fun o=>
 gk b false (Ae .none .gtr o (.int .i64 0)) fun p=>
 gk a true (AG b (.bool true) p) fun q=>
 (AG a q (.bool false)).bind fun r=>
 rP c r e
noncomputable def Sh.f42 (f:Ab) (b:Aa):Out:=
 Ao (B2 true 5 f b) fun d e=>
 (Ad 0 d).bind fun g=>
 (Ac true 2 g e).bind fun h=>
 bP b (Sh.f1m h e) fun i c=>
 (unA .not i).bind fun a=>
 gk a false (Ad 2 d) fun j=>
 gk a false (Ac true 2 j c) fun k=>
 gbP b a false c (Sh.f1m k c) fun l m=>
 gk a false (unA .not l) fun n=>
 (AG a (.bool true) n).bind fun o=>
 rP b o m
noncomputable def A8:Orc:=(ent 148 (ap1 Sh.f2g) (ent 84 (ap1 Sh.f42) noO))
noncomputable def Sh.ft (b:Aa) (h:LK) (d e f a:Ab) (c:Aa):Out:=
 (Ae .none .lss a f).bind fun i=>
 Ak i (
 (At 5 d a).bind fun j=>
 (Ac true 5 j c).bind fun k=>
 bK b (Dg A8 e [k] c) fun l g=>
 Ak l (
 rK b a g) (
 (Ae .none .add a (.int .i64 1)).bind fun m=>
 h [d,e,f,m] g)) (
 rK b (.int .i64 (-1)) c)
noncomputable def Sh.fg (a c:Ab) (b:Aa):Out:=
 (A2 a).bind fun d=>
 An (fun e vs H=>Sh.ft b e (ag vs 0) (ag vs 1) (ag vs 2) (ag vs 3) H) AM [a,c,d,(.int .i64 0)] b
noncomputable def Sh.f2h (b c:Ab) (a:Aa):Out:=
 bK a (Sh.fg b c a) fun d e=>
 (Ae .none .geq d (.int .i64 0)).bind fun f=>
 rK a f e
noncomputable def Sh.f2i (b:Ab) (a:Aa):Out:=
 (Sb .eql b).bind fun c=>
 Ak c (
 rK a (.sl [] .tight) a) (
 (AQ 5 []).bind fun d=>
 bK a (Cb (Fy A6 5 72 d b a)) fun e f=>
 rK a e f)
noncomputable def Sh.f43 (e:Aa) (f:LK) (a b c:Ab) (d:Aa):Out:=
 (Ae .none .lss b c).bind fun g=>
 Ak g (
 (At 5 a c).bind fun h=>
 bC (Ac true 5 h d) (fun _=>True) fun i=>
 (At 5 a b).bind fun j=>
 bC (Ac true 5 j d) (fun _=>True) fun k=>
 (At 5 a b).bind fun l=>
 AZ (AH (Ah 5 l i d)) fun _ m=>
 (At 5 a c).bind fun n=>
 bK e (AH (Ah 5 n k m)) fun _ o=>
 (Ae .none .add b (.int .i64 1)).bind fun p=>
 (Ae .none .sub c (.int .i64 1)).bind fun q=>
 f [a,p,q] o) (
 rK e (.tup []) d)
noncomputable def Sh.f15 (a:Ab) (b:Aa):Out:=
 (A2 a).bind fun c=>
 (Ae .none .sub c (.int .i64 1)).bind fun d=>
 An (fun e vs H=>Sh.f43 b e (ag vs 0) (ag vs 1) (ag vs 2) H) AM [a,(.int .i64 0),d] b
noncomputable def Sh.f1n (f g:Ab) (b:Aa):Out:=
 Ao (B2 true 2 f b) fun c h=>
 Ao (B2 true 2 g h) fun d a=>
 (Ad 0 c).bind fun i=>
 (Ac false 1 i a).bind fun e=>
 gk e true (Ad 0 d) fun j=>
 gk e true (Ac false 1 j a) fun k=>
 (AG e k (.bool false)).bind fun l=>
 Ak l (
 (Ad 1 d).bind fun m=>
 (Ac false 1 m a).bind fun n=>
 (Ad 1 c).bind fun o=>
 (Ac false 1 o a).bind fun p=>
 bP b (Sh.fk n p a) fun q r=>
 rP b q r) (
 (Ad 0 c).bind fun s=>
 (Ac false 1 s a).bind fun t=>
 Ak t (
 rP b (.int .i64 (-1)) a) (
 (Ad 0 d).bind fun u=>
 (Ac false 1 u a).bind fun v=>
 Ak v (
 rP b (.int .i64 1) a) (
 (Ad 1 c).bind fun w=>
 (Ac false 1 w a).bind fun x=>
 (Ad 1 d).bind fun y=>
 (Ac false 1 y a).bind fun z=>
 bP b (Sh.fk x z a) fun aa ab=>
 rP b aa ab)))
noncomputable def Sh.f63 (d:Aa) (h:LK) (b e f c:Ab) (a:Aa):Out:=
 (Ae .none .lss c f).bind fun i=>
 Ak i (
 (At 1 e c).bind fun j=>
 (Ac false 1 j a).bind fun g=>
 (Ae .none .neq g b).bind fun k=>
 Ak k (
 rK d g a) (
 (Ae .none .add c (.int .i64 1)).bind fun l=>
 h [b,e,f,l] a)) (
 rK d b a)
noncomputable def Sh.f2j (a:Ab) (b:Aa):Out:=
 (A2 a).bind fun c=>
 An (fun d vs H=>Sh.f63 b d (ag vs 0) (ag vs 1) (ag vs 2) (ag vs 3) H) AM [(.int .i64 0),a,c,(.int .i64 0)] b
noncomputable def Sh.f16 (j k:Ab) (e:Aa):Out:=
 Ao (B2 true 5 j e) fun f l=>
 Ao (B2 true 5 k l) fun g a=>
 (Ad 2 f).bind fun m=>
 bC (Ac true 2 m a) (fun _=>True) fun n=>
 (Ad 2 g).bind fun o=>
 bC (Ac true 2 o a) (fun _=>True) fun p=>
 AZ (Sh.f1n n p a) fun q b=>
 (Ad 0 f).bind fun h=>
 bC (Ac true 2 h b) (fun c=>Ac true 2 h a=some c∧True) fun c=>
 (Ad 0 g).bind fun i=>
 bC (Ac true 2 i b) (fun d=>Ac true 2 i a=some d∧True) fun d=>
 AZ (Sh.f1n c d b) fun r s=>
 (AQ 1 [q,r]).bind fun t=>
 AZ (Sh.f2j t s) fun u v=>
 rP e u v
noncomputable def A4:Orc:=(ent 144 (ap2 Sh.f16) noO)
noncomputable def Sh.f4t (j:Aa) (k:LK) (l:LK) (b f h g i c:Ab) (d:Aa):Out:=
 (Ae .none .gtr c f).bind fun a=>
 gk a true (some g) fun m=>
 gk a true (some b) fun n=>
 gk a true (some c) fun o=>
 gk a true (At 5 n o) fun p=>
 gkc a true (Ac true 5 p d) (fun _ _=>True) fun q=>
 gk a true (some b) fun r=>
 gk a true (some c) fun s=>
 gk a true (Ae .none .sub s (.int .i64 1)) fun t=>
 gk a true (At 5 r t) fun u=>
 gkc a true (Ac true 5 u d) (fun _ _=>True) fun v=>
 gbN a true d (Dg A4 m [q,v] d) fun w e=>
 gk a true (Ae .none .lss w (.int .i64 0)) fun x=>
 (AG a x (.bool false)).bind fun y=>
 Ak y (
 (Ae .none .sub c (.int .i64 1)).bind fun z=>
 (At 5 b z).bind fun aa=>
 bC (Ac true 5 aa e) (fun _=>True) fun ab=>
 (At 5 b c).bind fun ac=>
 bC (Ac true 5 ac e) (fun _=>True) fun ad=>
 (At 5 b c).bind fun ae=>
 AZ (AH (Ah 5 ae ab e)) fun _ aj=>
 (Ae .none .sub c (.int .i64 1)).bind fun ak=>
 (At 5 b ak).bind fun al=>
 bK j (AH (Ah 5 al ad aj)) fun _ am=>
 (Ae .none .sub c (.int .i64 1)).bind fun an=>
 l [b,f,h,g,i,an] am) (
 (Ae .none .add i (.int .i64 1)).bind fun ap=>
 k [b,f,h,g,ap] e)
noncomputable def Sh.f4u (b:Aa) (e:LK) (f g c h a:Ab) (d:Aa):Out:=
 (Ae .none .lss a c).bind fun i=>
 Ak i (
 An (fun j vs H=>Sh.f4t b e j (ag vs 0) (ag vs 1) (ag vs 2) (ag vs 3) (ag vs 4) (ag vs 5) H) AM [f,g,c,h,a,a] d) (
 rK b (.tup []) d)
noncomputable def Sh.fp (c a d e:Ab) (b:Aa):Out:=
 (Ae .none .add a (.int .i64 1)).bind fun f=>
 An (fun g vs H=>Sh.f4u b g (ag vs 0) (ag vs 1) (ag vs 2) (ag vs 3) (ag vs 4) H) AM [c,a,d,e,f] b
noncomputable def Sh.f4v (f:Aa) (h:LK) (b d e g a:Ab) (c:Aa):Out:=
 (Ae .none .lss a g).bind fun i=>
 Ak i (
 (Ae .none .add d a).bind fun j=>
 (Ae .none .add e a).bind fun k=>
 (At 5 b k).bind fun l=>
 bC (Ac true 5 l c) (fun _=>True) fun m=>
 (Ae .none .add d a).bind fun n=>
 (At 5 b n).bind fun o=>
 bC (Ac true 5 o c) (fun _=>True) fun p=>
 (At 5 b j).bind fun q=>
 AZ (AH (Ah 5 q m c)) fun _ r=>
 (Ae .none .add e a).bind fun s=>
 (At 5 b s).bind fun t=>
 bK f (AH (Ah 5 t p r)) fun _ u=>
 (Ae .none .add a (.int .i64 1)).bind fun v=>
 h [b,d,e,g,v] u) (
 rK f (.tup []) c)
noncomputable def Sh.f17 (b c d e g:Ab) (a:Aa):Out:=
 An (fun f vs H=>Sh.f4v a f (ag vs 0) (ag vs 1) (ag vs 2) (ag vs 3) (ag vs 4) H) AM [b,c,d,e,(.int .i64 0)] a
noncomputable def Sh.f64 (f:Aa) (h:LK) (d b e a c:Ab) (g:Aa):Out:=
 (Ae .none .neq a c).bind fun i=>
 Ak i (
 (Ae .none .gtr a c).bind fun j=>
 Ak j (
 (Ae .none .sub b a).bind fun k=>
 bK f (Sh.f17 d k b c e g) fun u l=>
 (Ae .none .sub a c).bind fun m=>
 h [d,b,e,m,c] l) (
 (Ae .none .sub b a).bind fun n=>
 (Ae .none .add b c).bind fun o=>
 (Ae .none .sub o a).bind fun p=>
 bK f (Sh.f17 d n p a e g) fun v q=>
 (Ae .none .sub c a).bind fun r=>
 h [d,b,e,a,r] q)) (
 (Ae .none .sub b a).bind fun s=>
 bK f (Sh.f17 d s b a e g) fun w t=>
 rK f (.tup []) t)
noncomputable def Sh.f2k (c d a e f:Ab) (b:Aa):Out:=
 (Ae .none .sub a d).bind fun g=>
 (Ae .none .sub e a).bind fun h=>
 An (fun i vs H=>Sh.f64 b i (ag vs 0) (ag vs 1) (ag vs 2) (ag vs 3) (ag vs 4) H) AM [c,a,f,g,h] b
noncomputable def AV (self:Ab→Ab→Ab→Ab→Ab→Aa→Out):Orc:=ent 228 (ap5 self) (ent 144 (ap2 Sh.f16) (ent 236 (ap5 Sh.f2k) noO))
noncomputable def Sh.f2l (d:Aa) (f:LK) (b e a:Ab) (c:Aa):Out:=
 (Ae .none .sub e (.int .i64 1)).bind fun g=>
 (Ae .none .lss a g).bind fun h=>
 Ak h (
 (Ae .none .add a (.int .i64 1)).bind fun i=>
 (At 5 b i).bind fun j=>
 bC (Ac true 5 j c) (fun _=>True) fun k=>
 (At 5 b a).bind fun l=>
 bC (Ac true 5 l c) (fun _=>True) fun m=>
 (At 5 b a).bind fun n=>
 AZ (AH (Ah 5 n k c)) fun _ o=>
 (Ae .none .add a (.int .i64 1)).bind fun p=>
 (At 5 b p).bind fun q=>
 bK d (AH (Ah 5 q m o)) fun _ r=>
 (Ae .none .add a (.int .i64 1)).bind fun s=>
 f [b,e,s] r) (
 rK d (.tup []) c)
noncomputable def Sh.f2m (j:Aa) (self:Ab→Ab→Ab→Ab→Ab→Aa→Out) (h:LK) (a b e c f:Ab) (d:Aa):Out:=
 (Ae .none .lss c f).bind fun k=>
 Ak k (
 (Ae .none .add c f).bind fun l=>
 (A9 .u64 l).bind fun m=>
 (Ae .none .shr m (.int .u64 1)).bind fun n=>
 (A9 .i64 n).bind fun g=>
 (At 5 a g).bind fun o=>
 bC (Ac true 5 o d) (fun _=>True) fun p=>
 (At 5 a b).bind fun q=>
 bC (Ac true 5 q d) (fun _=>True) fun r=>
 AZ (Dg (AV self) e [p,r] d) fun s i=>
 (Ae .none .lss s (.int .i64 0)).bind fun t=>
 Ak t (
 (Ae .none .add g (.int .i64 1)).bind fun u=>
 h [a,b,e,u,f] i) (
 h [a,b,e,c,g] i)) (
 An (fun v vs H=>Sh.f2l j v (ag vs 0) (ag vs 1) (ag vs 2) H) AM [a,c,b] d)
noncomputable def Sh.f2n (d:Aa) (f:LK) (b e a:Ab) (c:Aa):Out:=
 (Ae .none .gtr a e).bind fun g=>
 Ak g (
 (Ae .none .sub a (.int .i64 1)).bind fun h=>
 (At 5 b h).bind fun i=>
 bC (Ac true 5 i c) (fun _=>True) fun j=>
 (At 5 b a).bind fun k=>
 bC (Ac true 5 k c) (fun _=>True) fun l=>
 (At 5 b a).bind fun m=>
 AZ (AH (Ah 5 m j c)) fun _ n=>
 (Ae .none .sub a (.int .i64 1)).bind fun o=>
 (At 5 b o).bind fun p=>
 bK d (AH (Ah 5 p l n)) fun _ q=>
 (Ae .none .sub a (.int .i64 1)).bind fun r=>
 f [b,e,r] q) (
 rK d (.tup []) c)
noncomputable def Sh.f2o (j:Aa) (self:Ab→Ab→Ab→Ab→Ab→Aa→Out) (h:LK) (a b e c f:Ab) (d:Aa):Out:=
 (Ae .none .lss c f).bind fun k=>
 Ak k (
 (Ae .none .add c f).bind fun l=>
 (A9 .u64 l).bind fun m=>
 (Ae .none .shr m (.int .u64 1)).bind fun n=>
 (A9 .i64 n).bind fun g=>
 (At 5 a b).bind fun o=>
 bC (Ac true 5 o d) (fun _=>True) fun p=>
 (At 5 a g).bind fun q=>
 bC (Ac true 5 q d) (fun _=>True) fun r=>
 AZ (Dg (AV self) e [p,r] d) fun s i=>
 (Ae .none .lss s (.int .i64 0)).bind fun t=>
 (unA .not t).bind fun u=>
 Ak u (
 (Ae .none .add g (.int .i64 1)).bind fun v=>
 h [a,b,e,v,f] i) (
 h [a,b,e,c,g] i)) (
 An (fun w vs H=>Sh.f2n j w (ag vs 0) (ag vs 1) (ag vs 2) H) AM [a,c,b] d)
noncomputable def Sh.f4w (b:Aa) (self:Ab→Ab→Ab→Ab→Ab→Aa→Out) (g d h e c:Ab) (f:Aa):Out:=
 (Ae .none .lss e c).bind fun a=>
 gk a true (some c) fun i=>
 gk a true (some d) fun j=>
 gk a true (Ae .none .lss i j) fun k=>
 (AG a k (.bool false)).bind fun l=>
 Ak l (
 bK b (self g e c d h f) fun n m=>
 rK b (.tup []) m) (
 rK b (.tup []) f)
noncomputable def Sh.f4x (f:Aa) (self:Ab→Ab→Ab→Ab→Ab→Aa→Out) (c g h d a e i:Ab) (j:Aa):Out:=
 AJ (fun j8=>
 (Ae .none .lss g e).bind fun b=>
 gk b true (some e) fun k=>
 gk b true (some a) fun l=>
 gk b true (Ae .none .lss k l) fun m=>
 (AG b m (.bool false)).bind fun n=>
 Ak n (
 bK f (self c g e a d j) fun p o=>
 j8 [c,h,d,a,i] o) (
 j8 [c,h,d,a,i] j)) (fun vs H=>Sh.f4w f self (ag vs 0) (ag vs 1) (ag vs 2) (ag vs 3) (ag vs 4) H)
noncomputable def Sh.fq (o:Aa) (self:Ab→Ab→Ab→Ab→Ab→Aa→Out) (p:LK) (b f d g c h l a m n:Ab) (e:Aa):Out:=
 (Ae .none .lss a m).bind fun r=>
 Ak r (
 (Ae .none .add a m).bind fun s=>
 (A9 .u64 s).bind fun t=>
 (Ae .none .shr t (.int .u64 1)).bind fun u=>
 (A9 .i64 u).bind fun i=>
 (Ae .none .sub n i).bind fun v=>
 (At 5 b v).bind fun w=>
 bC (Ac true 5 w e) (fun _=>True) fun x=>
 (At 5 b i).bind fun y=>
 bC (Ac true 5 y e) (fun _=>True) fun z=>
 AZ (Dg (AV self) c [x,z] e) fun aa q=>
 (Ae .none .lss aa (.int .i64 0)).bind fun ab=>
 (unA .not ab).bind fun ac=>
 Ak ac (
 (Ae .none .add i (.int .i64 1)).bind fun ad=>
 p [b,f,d,g,c,h,l,ad,m,n] q) (
 p [b,f,d,g,c,h,l,a,i,n] q)) (
 (Ae .none .sub l a).bind fun j=>
 AJ (fun j7=>
 (Ae .none .lss a d).bind fun k=>
 gk k true (some d) fun ae=>
 gk k true (some j) fun aj=>
 gk k true (Ae .none .lss ae aj) fun ak=>
 (AG k ak (.bool false)).bind fun al=>
 Ak al (
 bK o (Sh.f2k b a d j c e) fun an am=>
 j7 [b,f,g,c,h,a,j] am) (
 j7 [b,f,g,c,h,a,j] e)) (fun vs H=>Sh.f4x o self (ag vs 0) (ag vs 1) (ag vs 2) (ag vs 3) (ag vs 4) (ag vs 5) (ag vs 6) H))
noncomputable def Sh.f65 (b:Aa) (self:Ab→Ab→Ab→Ab→Ab→Aa→Out) (c d e f g h a i j:Ab) (k:Aa):Out:=
 (Ae .none .sub a (.int .i64 1)).bind fun l=>
 An (fun m vs H=>Sh.fq b self m (ag vs 0) (ag vs 1) (ag vs 2) (ag vs 3) (ag vs 4) (ag vs 5) (ag vs 6) (ag vs 7) (ag vs 8) (ag vs 9) H) AM [c,d,e,f,g,h,a,i,j,l] k
noncomputable def Sh.f66 (self:Ab→Ab→Ab→Ab→Ab→Aa→Out) (f b a d g:Ab) (c:Aa):Out:=
 (Ae .none .sub a b).bind fun i=>
 (Ae .none .eql i (.int .i64 1)).bind fun j=>
 Ak j (
 An (fun k vs H=>Sh.f2m c self k (ag vs 0) (ag vs 1) (ag vs 2) (ag vs 3) (ag vs 4) H) AM [f,b,g,a,d] c) (
 (Ae .none .sub d a).bind fun l=>
 (Ae .none .eql l (.int .i64 1)).bind fun m=>
 Ak m (
 An (fun n vs H=>Sh.f2o c self n (ag vs 0) (ag vs 1) (ag vs 2) (ag vs 3) (ag vs 4) H) AM [f,a,g,b,a] c) (
 (Ae .none .add b d).bind fun o=>
 (A9 .u64 o).bind fun p=>
 (Ae .none .shr p (.int .u64 1)).bind fun q=>
 (A9 .i64 q).bind fun e=>
 (Ae .none .add e a).bind fun h=>
 AJ (fun j5=>
 (Ae .none .gtr a e).bind fun r=>
 Ak r (
 (Ae .none .sub h d).bind fun s=>
 j5 [f,b,a,d,g,e,h,s,e] c) (
 j5 [f,b,a,d,g,e,h,b,a] c)) (fun vs H=>Sh.f65 c self (ag vs 0) (ag vs 1) (ag vs 2) (ag vs 3) (ag vs 4) (ag vs 5) (ag vs 6) (ag vs 7) (ag vs 8) H)))
noncomputable def Sh.f3:Nat→Ab→Ab→Ab→Ab→Ab→Aa→Out
 | 0=>fun _ _ _ _ _ _=>none
 | d+1=>Sh.f66 (Sh.f3 d)
noncomputable def Sh.f67 (h:Aa) (a:LK) (b c d e:Ab) (f:Aa):Out:=
 (Ae .none .mul e (.int .i64 2)).bind fun g=>
 a [b,c,d,g] f
noncomputable def Sh.f2p (g:Aa) (j:LK) (k:LK) (c a d b e f:Ab) (h:Aa):Out:=
 (Ae .none .leq f a).bind fun l=>
 Ak l (
 (Ae .none .add e b).bind fun m=>
 bK g (Sh.f3 AM c e m f d h) fun s n=>
 (Ae .none .mul (.int .i64 2) b).bind fun o=>
 (Ae .none .add f o).bind fun p=>
 k [c,a,d,b,f,p] n) (
 AJ (fun j4=>
 (Ae .none .add e b).bind fun i=>
 (Ae .none .lss i a).bind fun q=>
 Ak q (
 bK g (Sh.f3 AM c e i a d h) fun t r=>
 j4 [c,a,d,b] r) (
 j4 [c,a,d,b] h)) (fun vs H=>Sh.f67 g j (ag vs 0) (ag vs 1) (ag vs 2) (ag vs 3) H))
noncomputable def Sh.f1o (b:Aa) (e:LK) (f c g a:Ab) (d:Aa):Out:=
 (Ae .none .lss a c).bind fun h=>
 Ak h (
 (Ae .none .mul (.int .i64 2) a).bind fun i=>
 An (fun j vs H=>Sh.f2p b e j (ag vs 0) (ag vs 1) (ag vs 2) (ag vs 3) (ag vs 4) (ag vs 5) H) AM [f,c,g,a,(.int .i64 0),i] d) (
 rK b (.tup []) d)
noncomputable def Sh.f44 (e:Aa) (i:LK) (a b c f g d:Ab) (h:Aa):Out:=
 (Ae .none .leq d b).bind fun j=>
 Ak j (
 bK e (Sh.fp a g d c h) fun o k=>
 (Ae .none .add d f).bind fun l=>
 i [a,b,c,f,d,l] k) (
 bK e (Sh.fp a g b c h) fun p m=>
 An (fun n vs H=>Sh.f1o e n (ag vs 0) (ag vs 1) (ag vs 2) (ag vs 3) H) AM [a,b,c,f] m)
noncomputable def Sh.f18 (b c d:Ab) (a:Aa):Out:=
 An (fun e vs H=>Sh.f44 a e (ag vs 0) (ag vs 1) (ag vs 2) (ag vs 3) (ag vs 4) (ag vs 5) H) AM [b,c,d,(.int .i64 20),(.int .i64 0),(.int .i64 20)] a
noncomputable def Sh.f19 (b c:Ab) (a:Aa):Out:=
 (A2 b).bind fun d=>
 bK a (Sh.f18 b d c a) fun f e=>
 rK a (.tup []) e
noncomputable def Sh.f45 (c d:Ab) (a:Aa):Out:=
 Ao (B2 true 5 c a) fun e f=>
 Ao (B2 true 5 d f) fun g b=>
 (Ac true 5 e b).bind fun h=>
 (Ac true 5 g b).bind fun i=>
 bP a (Sh.f16 h i b) fun j k=>
 (Ae .none .eql j (.int .i64 0)).bind fun l=>
 rP a l k
noncomputable def AA:Orc:=(ent 146 (ap2 Sh.f45) noO)
noncomputable def Sh.f68 (i:Aa) (a:LK) (b c d e f:Ab) (g:Aa):Out:=
 (Ae .none .add f (.int .i64 1)).bind fun h=>
 a [b,c,d,e,h] g
noncomputable def Sh.f2q (e:Aa) (i:LK) (c g d a b:Ab) (f:Aa):Out:=
 (A2 a).bind fun j=>
 (Ae .none .lss b j).bind fun k=>
 Ak k (
 AJ (fun j3=>
 (At 5 a b).bind fun l=>
 bC (Ac true 5 l f) (fun _=>True) fun m=>
 (Ae .none .sub b (.int .i64 1)).bind fun n=>
 (At 5 a n).bind fun o=>
 bC (Ac true 5 o f) (fun _=>True) fun p=>
 AZ (Dg AA g [m,p] f) fun q h=>
 (unA .not q).bind fun r=>
 Ak r (
 (At 5 a b).bind fun s=>
 (Ac true 5 s h).bind fun t=>
 (At 5 c d).bind fun u=>
 bK e (AH (Ah 5 u t h)) fun _ v=>
 (Ae .none .add d (.int .i64 1)).bind fun w=>
 j3 [c,g,w,a,b] v) (
 j3 [c,g,d,a,b] h)) (fun vs H=>Sh.f68 e i (ag vs 0) (ag vs 1) (ag vs 2) (ag vs 3) (ag vs 4) H)) (
 (Bn 5 c (some d) none none).bind fun x=>
 bK e (AH (JV 5 (some [(.bool false),(.sl [] .tight),(.bool false),(.sl [] .tight),(.int .u8 0)]) x f)) fun _ y=>
 (Bn 5 c none (some d) none).bind fun z=>
 rKN e z y)
noncomputable def Sh.f46 (d:Aa) (g:LK) (a e b:Ab) (c:Aa):Out:=
 (A2 a).bind fun h=>
 (Ae .none .lss b h).bind fun i=>
 Ak i (
 (At 5 a b).bind fun j=>
 bC (Ac true 5 j c) (fun _=>True) fun k=>
 (Ae .none .sub b (.int .i64 1)).bind fun l=>
 (At 5 a l).bind fun m=>
 bC (Ac true 5 m c) (fun _=>True) fun n=>
 bK d (Dg AA e [k,n] c) fun o f=>
 Ak o (
 (Bn 5 a (some b) none none).bind fun p=>
 An (fun q vs H=>Sh.f2q d q (ag vs 0) (ag vs 1) (ag vs 2) (ag vs 3) (ag vs 4) H) AM [a,e,b,p,(.int .i64 1)] f) (
 (Ae .none .add b (.int .i64 1)).bind fun r=>
 g [a,e,r] f)) (
 rKN d a c)
noncomputable def Sh.f1a (b c:Ab) (a:Aa):Out:=
 (A2 b).bind fun d=>
 (Ae .none .lss d (.int .i64 2)).bind fun e=>
 Ak e (
 rKN a b a) (
 An (fun f vs H=>Sh.f46 a f (ag vs 0) (ag vs 1) (ag vs 2) H) AM [b,c,(.int .i64 1)] a)
noncomputable def AU:Orc:=(ent 139 (ap2 Sh.fg) (ent 148 (ap1 Sh.f2g) noO))
noncomputable def Sh.f69 (h:Aa) (a:LK) (b c d e:Ab) (f:Aa):Out:=
 (Ae .none .add e (.int .i64 1)).bind fun g=>
 a [b,c,d,g] f
noncomputable def Sh.f47 (b:Aa) (j:LK) (a e c d:Ab) (f:Aa):Out:=
 (A2 a).bind fun k=>
 (Ae .none .lss d k).bind fun l=>
 Ak l (
 AJ (fun j2=>
 (At 5 a d).bind fun m=>
 (Ac true 5 m f).bind fun n=>
 Ao (A3 (some [(.bool false),(.sl [] .tight),(.bool false),(.sl [] .tight),(.int .u8 0)]) f) fun g o=>
 bK b (AH (Ah 5 g n o)) fun _ i=>
 (Ac true 5 g i).bind fun p=>
 bK b (Dg AU e [p] i) fun q h=>
 (unA .not q).bind fun r=>
 Ak r (
 (Ac true 5 g h).bind fun s=>
 (At 5 a c).bind fun t=>
 bK b (AH (Ah 5 t s h)) fun _ u=>
 (Ae .none .add c (.int .i64 1)).bind fun v=>
 j2 [a,e,v,d] u) (
 j2 [a,e,c,d] h)) (fun vs H=>Sh.f69 b j (ag vs 0) (ag vs 1) (ag vs 2) (ag vs 3) H)) (
 (Bn 5 a (some c) none none).bind fun w=>
 bK b (AH (JV 5 (some [(.bool false),(.sl [] .tight),(.bool false),(.sl [] .tight),(.int .u8 0)]) w f)) fun _ x=>
 (Bn 5 a none (some c) none).bind fun y=>
 rKN b y x)
noncomputable def Sh.f1b (b d:Ab) (a:Aa):Out:=
 bK a (Sh.fg b d a) fun c e=>
 (Ae .none .eql c (.int .i64 (-1))).bind fun f=>
 Ak f (
 rKN a b e) (
 (Ae .none .add c (.int .i64 1)).bind fun g=>
 An (fun h vs H=>Sh.f47 a h (ag vs 0) (ag vs 1) (ag vs 2) (ag vs 3) H) AM [b,d,c,g] e)
noncomputable def Sh.f2r (c:Ab) (a:Aa):Out:=
 bP a (Sh.f2i c a) fun b d=>
 bP a (Sh.f15 b d) fun k e=>
 bP a (Sh.f19 b (.fn 144 []) e) fun l f=>
 bP a (Sh.f1a b (.fn 146 []) f) fun g h=>
 bP a (Sh.f1b g (.fn 148 []) h) fun i j=>
 rPN a i j
noncomputable def Sh.f6 (a c:Ab) (b:Aa):Out:=
 Ao (A3 (some [(.bool false),(.sl [] .tight)]) b) fun d f=>
 gk a true (some c) fun g=>
 gk a true (A2 g) fun h=>
 gk a true (Ae .none .gtr h (.int .i64 0)) fun i=>
 (AG a i (.bool false)).bind fun j=>
 (AB (some [(.bool false),(.sl [] .tight)]) [(0,1,j),(1,1,c)]).bind fun k=>
 bP b (AH (Ah 2 d k f)) fun _ e=>
 (Ac true 2 d e).bind fun l=>rPN b l e
noncomputable def Sh.f1c (f:Ab) (a:Aa):Out:=
 Ao (B2 true 2 f a) fun c g=>
 Ao (A3 (some [(.bool false),(.sl [] .tight)]) g) fun d b=>
 (Ad 0 c).bind fun h=>
 (Ac false 1 h b).bind fun i=>
 (unA .not i).bind fun j=>
 (Ad 1 c).bind fun k=>
 (Ac false 1 k b).bind fun l=>
 bP a (Sh.f6 j l b) fun m n=>
 bP a (AH (Ah 2 d m n)) fun _ e=>
 (Ac true 2 d e).bind fun o=>rPN a o e
noncomputable def Sh.f1d (b:Ab) (a:Aa):Out:=
 (Sb .eql b).bind fun c=>
 Ak c (
 rK a (.sl [] .tight) a) (
 (AQ 1 []).bind fun d=>
 bK a (Cb (Fy BG 1 4 d b a)) fun e f=>
 rK a e f)
noncomputable def Sh.f2s (b:Ab) (a:Aa):Out:=
 bP a (Sh.f1d b a) fun c d=>
 bP a (Sh.f0 c d) fun e f=>
 rPN a e f
noncomputable def Sh.f6a (a:Aa) (e b c:Ab) (f:Aa):Out:=
 (Ae .none .lss e (.int .i64 0)).bind fun g=>
 (A9 .u32 c).bind fun h=>
 (Ae .none .shr c (.int .u64 32)).bind fun i=>
 (A9 .u32 i).bind fun j=>
 (AQ 1 [h,j]).bind fun k=>
 bP a (Sh.f2s k f) fun l m=>
 bP a (Sh.f6 g l m) fun n o=>
 bP a (AH (Ah 2 b n o)) fun _ d=>
 (Ac true 2 b d).bind fun p=>rPN a p d
noncomputable def Sh.f1p (a:Ab) (b:Aa):Out:=
 Ao (A3 (some [(.bool false),(.sl [] .tight)]) b) fun c d=>
 (A9 .u64 a).bind fun e=>
 AJ (fun j1=>
 (Ae .none .lss a (.int .i64 0)).bind fun f=>
 Ak f (
 (unA .neg e).bind fun g=>
 j1 [a,c,g] d) (
 j1 [a,c,e] d)) (fun vs H=>Sh.f6a b (ag vs 0) (ag vs 1) (ag vs 2) H)
noncomputable def Sh.f2t (c d e:Ab) (a:Aa):Out:=
 (A9 .u64 c).bind fun f=>
 (A9 .u64 d).bind fun g=>
 (Ae .none .add f g).bind fun h=>
 (A9 .u64 e).bind fun i=>
 (Ae .none .add h i).bind fun b=>
 (A9 .u32 b).bind fun j=>
 (Ae .none .shr b (.int .u64 32)).bind fun k=>
 (A9 .u32 k).bind fun l=>
 rK a (.tup [j,l]) a
noncomputable def Sh.f6r (a:Aa) (d:LK) (e f b g h i j k l m:Ab) (n:Aa):Out:=
 bP a (Sh.f2t i j g n) fun c o=>
 (Az 0 c).bind fun p=>
 (Az 1 c).bind fun q=>
 (At 1 b h).bind fun r=>
 bP a (AH (Ah 1 r p o)) fun _ s=>
 (Ae .none .add m (.int .i64 1)).bind fun t=>
 d [e,f,b,q,k,l,t] s
noncomputable def Sh.f4y (c:Aa) (k:LK) (f d e g h i a:Ab) (b:Aa):Out:=
 (Ae .none .lss a i).bind fun l=>
 Ak l (
 (At 1 h a).bind fun m=>
 (Ac false 1 m b).bind fun j=>
 AJ (fun j3=>
 (A2 d).bind fun n=>
 (Ae .none .lss a n).bind fun o=>
 Ak o (
 (At 1 d a).bind fun p=>
 (Ac false 1 p b).bind fun q=>
 j3 [f,d,e,g,a,j,q,h,i,a] b) (
 j3 [f,d,e,g,a,j,(.int .u32 0),h,i,a] b)) (fun vs H=>Sh.f6r c k (ag vs 0) (ag vs 1) (ag vs 2) (ag vs 3) (ag vs 4) (ag vs 5) (ag vs 6) (ag vs 7) (ag vs 8) (ag vs 9) H)) (
 (A2 f).bind fun r=>
 (At 1 e r).bind fun s=>
 bP c (AH (Ah 1 s g b)) fun _ t=>
 bP c (Sh.f0 e t) fun u v=>
 rPN c u v)
noncomputable def Sh.f6b (c:Aa) (a d:Ab) (e:Aa):Out:=
 (A2 a).bind fun f=>
 (Ae .none .add f (.int .i64 1)).bind fun b=>
 Ao (Fh 1 4 (some [(.int .u32 0)]) b b e) fun g h=>
 (A2 a).bind fun i=>
 An (fun j vs H=>Sh.f4y c j (ag vs 0) (ag vs 1) (ag vs 2) (ag vs 3) (ag vs 4) (ag vs 5) (ag vs 6) H) AM [a,d,g,(.int .u32 0),a,i,(.int .i64 0)] h
noncomputable def Sh.f2u (a b:Ab) (c:Aa):Out:=
 AJ (fun j1=>
 (A2 a).bind fun d=>
 (A2 b).bind fun e=>
 (Ae .none .lss d e).bind fun f=>
 Ak f (
 j1 [b,a] c) (
 j1 [a,b] c)) (fun vs H=>Sh.f6b c (ag vs 0) (ag vs 1) H)
noncomputable def Sh.f1q (a b e:Ab) (c:Aa):Out:=
 (Ae .none .sub a b).bind fun f=>
 (Ae .none .sub f e).bind fun d=>
 (unA .xor a).bind fun g=>
 (Ae .none .and g b).bind fun h=>
 (Ae .none .xor a b).bind fun i=>
 (unA .xor i).bind fun j=>
 (Ae .none .and j d).bind fun k=>
 (Ae .none .or h k).bind fun l=>
 (Ae .none .shr l (.int .u64 31)).bind fun m=>
 rK c (.tup [d,m]) c
noncomputable def Sh.f6s (b:Aa) (f:LK) (g a h c i j k:Ab) (d:Aa):Out:=
 (At 1 a c).bind fun l=>
 (Ac false 1 l d).bind fun m=>
 bP b (Sh.f1q m i h d) fun e n=>
 (Az 0 e).bind fun o=>
 (Az 1 e).bind fun p=>
 (At 1 a c).bind fun q=>
 bP b (AH (Ah 1 q o n)) fun _ r=>
 (Ae .none .add k (.int .i64 1)).bind fun s=>
 f [g,a,p,j,s] r
noncomputable def Sh.f48 (d:Aa) (h:LK) (b e g f a:Ab) (c:Aa):Out:=
 (Ae .none .lss a f).bind fun i=>
 Ak i (
 AJ (fun j2=>
 (A2 b).bind fun j=>
 (Ae .none .lss a j).bind fun k=>
 Ak k (
 (At 1 b a).bind fun l=>
 (Ac false 1 l c).bind fun m=>
 j2 [b,e,g,a,m,f,a] c) (
 j2 [b,e,g,a,(.int .u32 0),f,a] c)) (fun vs H=>Sh.f6s d h (ag vs 0) (ag vs 1) (ag vs 2) (ag vs 3) (ag vs 4) (ag vs 5) (ag vs 6) H)) (
 bP d (Sh.f0 e c) fun n o=>
 rPN d (.tup [n,(.bool true)]) o)
noncomputable def Sh.f2v (b c:Ab) (a:Aa):Out:=
 bP a (Sh.fk b c a) fun f d=>
 (Ae .none .lss f (.int .i64 0)).bind fun g=>
 Ak g (
 rPN a (.tup [(.sl [] .tight),(.bool false)]) d) (
 bP a (Sh.f1d b d) fun e h=>
 (A2 e).bind fun i=>
 An (fun j vs H=>Sh.f48 a j (ag vs 0) (ag vs 1) (ag vs 2) (ag vs 3) (ag vs 4) H) AM [c,e,(.int .u32 0),i,(.int .i64 0)] h)
noncomputable def Sh.f6c (a:Aa) (c h d:Ab) (b:Aa):Out:=
 (Ad 1 c).bind fun i=>
 (Ac false 1 i b).bind fun j=>
 (Ad 1 h).bind fun k=>
 (Ac false 1 k b).bind fun l=>
 bP a (Sh.f2v j l b) fun e f=>
 (Az 0 e).bind fun m=>
 (Az 1 e).bind fun s=>
 (Ad 0 c).bind fun n=>
 (Ac false 1 n f).bind fun o=>
 bP a (Sh.f6 o m f) fun p q=>
 bP a (AH (Ah 2 d p q)) fun _ g=>
 (Ac true 2 d g).bind fun r=>rPN a r g
noncomputable def Sh.fu (k l:Ab) (c:Aa):Out:=
 Ao (B2 true 2 k c) fun b m=>
 Ao (B2 true 2 l m) fun d n=>
 Ao (A3 (some [(.bool false),(.sl [] .tight)]) n) fun e a=>
 (Ad 0 b).bind fun o=>
 (Ac false 1 o a).bind fun p=>
 (Ad 0 d).bind fun q=>
 (Ac false 1 q a).bind fun r=>
 (Ae .bool .eql p r).bind fun s=>
 Ak s (
 (Ad 1 b).bind fun t=>
 bC (Ac false 1 t a) (fun _=>True) fun u=>
 (Ad 1 d).bind fun v=>
 bC (Ac false 1 v a) (fun _=>True) fun w=>
 AZ (Sh.f2u u w a) fun x h=>
 (Ad 0 b).bind fun i=>
 bC (Ac false 1 i h) (fun g=>Ac false 1 i a=some g∧True) fun g=>
 AZ (Sh.f6 g x h) fun y z=>
 bP c (AH (Ah 2 e y z)) fun _ j=>
 (Ac true 2 e j).bind fun aa=>rPN c aa j) (
 AJ (fun j1=>
 (Ad 1 b).bind fun ab=>
 (Ac false 1 ab a).bind fun ac=>
 (Ad 1 d).bind fun ad=>
 (Ac false 1 ad a).bind fun ae=>
 bP c (Sh.fk ac ae a) fun aj f=>
 (Ae .none .lss aj (.int .i64 0)).bind fun ak=>
 Ak ak (
 (Ac true 2 d f).bind fun al=>
 (Ac true 2 b f).bind fun am=>
 bP c (AH (Ah 2 b al f)) fun _ an=>
 bP c (AH (Ah 2 d am an)) fun _ ap=>
 j1 [b,d,e] ap) (
 j1 [b,d,e] f)) (fun vs H=>Sh.f6c c (ag vs 0) (ag vs 1) (ag vs 2) H))
noncomputable def Sh.f2w (h i:Ab) (a:Aa):Out:=
 Ao (B2 true 2 h a) fun d j=>
 Ao (B2 true 2 i j) fun k l=>
 Ao (A3 (some [(.bool false),(.sl [] .tight)]) l) fun e b=>
 bC (Ac true 2 k b) (fun _=>True) fun m=>
 AZ (Sh.f1c m b) fun n f=>
 bC (Ac true 2 d f) (fun c=>Ac true 2 d b=some c∧True) fun c=>
 AZ (Sh.fu c n f) fun o p=>
 bP a (AH (Ah 2 e o p)) fun _ g=>
 (Ac true 2 e g).bind fun q=>rPN a q g
noncomputable def Sh.f6d (a:Aa) (b c:Ab) (d:Aa):Out:=
 (A9 .u8 b).bind fun e=>
 (Eg (.str [0,1,2,2,3,3,3,3,4,4,4,4,4,4,4,4,5,5,5,5,5,5,5,5,5,5,5,5,5,5,5,5,6,6,6,6,6,6,6,6,6,6,6,6,6,6,6,6,6,6,6,6,6,6,6,6,6,6,6,6,6,6,6,6,7,7,7,7,7,7,7,7,7,7,7,7,7,7,7,7,7,7,7,7,7,7,7,7,7,7,7,7,7,7,7,7,7,7,7,7,7,7,7,7,7,7,7,7,7,7,7,7,7,7,7,7,7,7,7,7,7,7,7,7,7,7,7,7,8,8,8,8,8,8,8,8,8,8,8,8,8,8,8,8,8,8,8,8,8,8,8,8,8,8,8,8,8,8,8,8,8,8,8,8,8,8,8,8,8,8,8,8,8,8,8,8,8,8,8,8,8,8,8,8,8,8,8,8,8,8,8,8,8,8,8,8,8,8,8,8,8,8,8,8,8,8,8,8,8,8,8,8,8,8,8,8,8,8,8,8,8,8,8,8,8,8,8,8,8,8,8,8,8,8,8,8,8,8,8,8,8,8,8,8,8,8,8,8,8,8,8,8,8,8,8,8]) e).bind fun f=>
 (A9 .i64 f).bind fun g=>
 (Ae .none .add c g).bind fun h=>
 rK a h d
noncomputable def Sh.f6e (d:Aa) (a b:Ab) (c:Aa):Out:=
 AJ (fun j2=>
 (Ae .none .geq a (.int .u32 256)).bind fun e=>
 Ak e (
 (Ae .none .shr a (.int .u64 8)).bind fun f=>
 (Ae .none .add b (.int .i64 8)).bind fun g=>
 j2 [f,g] c) (
 j2 [a,b] c)) (fun vs H=>Sh.f6d d (ag vs 0) (ag vs 1) H)
noncomputable def Sh.f2x (a:Ab) (b:Aa):Out:=
 AJ (fun j1=>
 (Ae .none .geq a (.int .u32 65536)).bind fun c=>
 Ak c (
 (Ae .none .shr a (.int .u64 16)).bind fun d=>
 j1 [d,(.int .i64 16)] b) (
 j1 [a,(.int .i64 0)] b)) (fun vs H=>Sh.f6e b (ag vs 0) (ag vs 1) H)
noncomputable def Sh.f2y (d:Ab) (a:Aa):Out:=
 bK a (Sh.f0 d a) fun b c=>
 (A2 b).bind fun e=>
 (Ae .none .eql e (.int .i64 0)).bind fun f=>
 Ak f (
 rK a (.int .i64 0) c) (
 (A2 b).bind fun g=>
 (Ae .none .sub g (.int .i64 1)).bind fun h=>
 (Ae .none .mul h (.int .i64 32)).bind fun i=>
 (A2 b).bind fun j=>
 (Ae .none .sub j (.int .i64 1)).bind fun k=>
 (At 1 b k).bind fun l=>
 (Ac false 1 l c).bind fun m=>
 bK a (Sh.f2x m c) fun n o=>
 (Ae .none .add i n).bind fun p=>
 rK a p o)
noncomputable def Sh.f6t (a:Aa) (c:Ab) (b:Aa):Out:=
 (Ad 1 c).bind fun d=>
 (Ac false 1 d b).bind fun e=>
 bP a (Sh.f2y e b) fun f g=>
 (Ae .none .add (.int .i64 1) f).bind fun h=>
 rP a h g
noncomputable def Sh.f1r (d:Ab) (a:Aa):Out:=
 Ao (B2 true 2 d a) fun b c=>
 AJ (fun j1=>
 (Ad 0 b).bind fun e=>
 (Ac false 1 e c).bind fun f=>
 Ak f (
 (Ac true 2 b c).bind fun g=>
 bP a (Sh.f1c g c) fun h i=>
 bP a (Sh.f1p (.int .i64 1) i) fun j k=>
 bP a (Sh.f2w h j k) fun l m=>
 bP a (AH (Ah 2 b l m)) fun _ n=>
 j1 [b] n) (
 j1 [b] c)) (fun vs H=>Sh.f6t a (ag vs 0) H)
noncomputable def Sh.f2z (b:Ab) (c:Aa):Out:=
 (Ae .none .geq b (.int .i64 0)).bind fun a=>
 gk a true (some b) fun d=>
 gk a true (Ae .none .leq d (.int .i64 10000)) fun e=>
 (AG a e (.bool false)).bind fun f=>
 rK c f c
noncomputable def Sh.f4z (b:Aa) (l:LK) (c a g h d:Ab) (e:Aa):Out:=
 (Ae .none .lss d h).bind fun m=>
 Ak m (
 (At 1 g d).bind fun n=>
 (Ac false 1 n e).bind fun i=>
 (Ae .none .quo c (.int .i64 32)).bind fun o=>
 (Ae .none .add d o).bind fun f=>
 (At 1 a f).bind fun p=>
 bC (Ac false 1 p e) (fun _=>True) fun q=>
 (Ae .none .rem c (.int .i64 32)).bind fun r=>
 (Ae .none .shl i r).bind fun s=>
 (Ae .none .or q s).bind fun t=>
 (At 1 a f).bind fun u=>
 bP b (AH (Ah 1 u t e)) fun _ j=>
 (Ae .none .add f (.int .i64 1)).bind fun k=>
 (At 1 a k).bind fun v=>
 bC (Ac false 1 v j) (fun _=>True) fun w=>
 bC (A9 .u64 i) (fun _=>True) fun x=>
 (Ae .none .rem c (.int .i64 32)).bind fun y=>
 (Ae .none .shl x y).bind fun z=>
 (Ae .none .shr z (.int .u64 32)).bind fun aa=>
 bC (A9 .u32 aa) (fun _=>True) fun ab=>
 (Ae .none .or w ab).bind fun ac=>
 (At 1 a k).bind fun ad=>
 bP b (AH (Ah 1 ad ac j)) fun _ ae=>
 (Ae .none .add d (.int .i64 1)).bind fun aj=>
 l [c,a,g,h,aj] ae) (
 bP b (Sh.f0 a e) fun ak al=>
 rPN b ak al)
noncomputable def Sh.f30 (b c:Ab) (a:Aa):Out:=
 bP a (Sh.f2z c a) fun f d=>
 (unA .not f).bind fun g=>
 Ak g (
 rPN a (.sl [] .tight) d) (
 (A2 b).bind fun h=>
 (Ae .none .quo c (.int .i64 32)).bind fun i=>
 (Ae .none .add h i).bind fun j=>
 (Ae .none .add j (.int .i64 1)).bind fun e=>
 Ao (Fh 1 4 (some [(.int .u32 0)]) e e d) fun k l=>
 (A2 b).bind fun m=>
 An (fun n vs H=>Sh.f4z a n (ag vs 0) (ag vs 1) (ag vs 2) (ag vs 3) (ag vs 4) H) AM [c,k,b,m,(.int .i64 0)] l)
noncomputable def Sh.f31 (d:Ab) (a:Aa):Out:=
 Ao (A3 (some [(.bool false),(.sl [] .tight)]) a) fun b e=>
 (AQ 1 [(.int .u32 1)]).bind fun f=>
 bP a (Sh.f30 f d e) fun g h=>
 bP a (Sh.f6 (.bool false) g h) fun i j=>
 bP a (AH (Ah 2 b i j)) fun _ c=>
 (Ac true 2 b c).bind fun k=>rPN a k c
noncomputable def Sh.f1s (e c:Ab) (d:Aa):Out:=
 (Ae .none .geq c (.int .i64 0)).bind fun b=>
 gk b true (some c) fun f=>
 gk b true (Ae .none .quo f (.int .i64 32)) fun g=>
 gk b true (some e) fun h=>
 gk b true (A2 h) fun i=>
 gk b true (Ae .none .lss g i) fun j=>
 (AG b j (.bool false)).bind fun a=>
 gk a true (some e) fun k=>
 gk a true (some c) fun l=>
 gk a true (Ae .none .quo l (.int .i64 32)) fun m=>
 gk a true (At 1 k m) fun n=>
 gk a true (Ac false 1 n d) fun o=>
 gk a true (some c) fun p=>
 gk a true (Ae .none .rem p (.int .i64 32)) fun q=>
 gk a true (Ae .none .shr o q) fun r=>
 gk a true (Ae .none .and r (.int .u32 1)) fun s=>
 gk a true (Ae .none .eql s (.int .u32 1)) fun t=>
 (AG a t (.bool false)).bind fun u=>
 rK d u d
noncomputable def Sh.f6u (d:Aa) (e:LK) (f g a h c i j k:Ab) (b:Aa):Out:=
 (BZ 4 1 a c).bind fun l=>
 bC (Ac false 1 l b) (fun _=>True) fun m=>
 bC (Ac true 3 h b) (fun _=>True) fun n=>
 (AQ 3 [n]).bind fun o=>
 AZ (Cb (AW BA 3 56 m o b)) fun p q=>
 (BZ 4 1 a c).bind fun r=>
 bK d (AH (Ah 1 r p q)) fun _ s=>
 (Ae .none .add k (.int .i64 1)).bind fun t=>
 e [f,g,a,i,j,t] s
noncomputable def Sh.f6v (c:Aa) (l:LK) (d a e b f g h i:Ab) (j:Aa):Out:=
 AJ (fun j3=>
 (Ad 1 b).bind fun m=>
 (Ac false 1 m j).bind fun n=>
 (Ae .none .sub a (.int .i64 1)).bind fun o=>
 bK c (Sh.f1s n o j) fun p k=>
 Ak p (
 (Ae .none .add f (.int .i64 2)).bind fun q=>
 j3 [d,a,e,b,q,g,h,i] k) (
 j3 [d,a,e,b,f,g,h,i] k)) (fun vs H=>Sh.f6u c l (ag vs 0) (ag vs 1) (ag vs 2) (ag vs 3) (ag vs 4) (ag vs 5) (ag vs 6) (ag vs 7) H)
noncomputable def Sh.f1t (e:Aa) (self:Ab→Ab→Ab→Aa→Out) (h:LK) (a f d g b:Ab) (c:Aa):Out:=
 (Ae .none .lss b (.int .i64 4)).bind fun k=>
 Ak k (
 (Iy false 4 1 g b).bind fun i=>
 (Ae .none .gtr f (.int .i64 1)).bind fun l=>
 Ak l (
 (Ae .none .sub f (.int .i64 1)).bind fun m=>
 bK e (self a m i c) fun n o=>
 (Ad 1 d).bind fun p=>
 (BZ 4 1 p b).bind fun q=>
 bK e (AH (Ah 1 q n o)) fun _ r=>
 (Ae .none .add b (.int .i64 1)).bind fun s=>
 h [a,f,d,g,s] r) (
 (A2 i).bind fun t=>
 (Ae .none .gtr t (.int .i64 0)).bind fun u=>
 Ak u (
 (At 3 i (.int .i64 0)).bind fun v=>
 (Ad 2 v).bind fun w=>
 (Ac false 1 w c).bind fun x=>
 (A9 .i64 x).bind fun y=>
 (Ad 1 d).bind fun z=>
 (BZ 4 1 z b).bind fun aa=>
 bK e (AH (Ah 1 aa y c)) fun _ ab=>
 (Ae .none .add b (.int .i64 1)).bind fun ac=>
 h [a,f,d,g,ac] ab) (
 (Ae .none .add b (.int .i64 1)).bind fun ad=>
 h [a,f,d,g,ad] c))) (
 (Aq a).bind fun ae=>
 (Ad 0 ae).bind fun aj=>
 bC (Ac false 1 aj c) (fun _=>True) fun ak=>
 bC (Ac true 5 d c) (fun _=>True) fun al=>
 (AQ 5 [al]).bind fun am=>
 AZ (Cb (AW Bg 5 40 ak am c)) fun an ap=>
 (Aq a).bind fun aq=>
 (Ad 0 aq).bind fun ar=>
 bK e (AH (Ah 1 ar an ap)) fun _ j=>
 (Aq a).bind fun au=>
 (Ad 0 au).bind fun av=>
 (Ac false 1 av j).bind fun aw=>
 (A2 aw).bind fun ax=>
 rK e ax j)
noncomputable def Sh.f49 (a:Aa) (self:Ab→Ab→Ab→Aa→Out) (n:LK) (e b f g h c:Ab) (i:Aa):Out:=
 (Ae .none .lss c h).bind fun o=>
 Ak o (
 (At 3 g c).bind fun p=>
 (Ac true 3 p i).bind fun q=>
 Ao (A3 (some [(.sl [] .tight),(.sl [] .tight),(.int .u8 0)]) i) fun d r=>
 bK a (AH (Ah 3 d q r)) fun _ j=>
 AJ (fun j2=>
 (Ad 0 d).bind fun s=>
 (Ac false 1 s j).bind fun t=>
 (Ae .none .sub b (.int .i64 1)).bind fun u=>
 bK a (Sh.f1s t u j) fun v k=>
 Ak v (
 (Ae .none .add (.int .i64 0) (.int .i64 1)).bind fun w=>
 j2 [e,b,f,d,w,g,h,c] k) (
 j2 [e,b,f,d,(.int .i64 0),g,h,c] k)) (fun vs H=>Sh.f6v a n (ag vs 0) (ag vs 1) (ag vs 2) (ag vs 3) (ag vs 4) (ag vs 5) (ag vs 6) (ag vs 7) H)) (
 (AB (some [(.int .i64 0),(.int .i64 0),(.int .i64 0),(.int .i64 0),(.int .i64 0)]) [(0,1,b)]).bind fun x=>
 Ao (A3 (some [(.int .i64 0),(.int .i64 0),(.int .i64 0),(.int .i64 0),(.int .i64 0)]) i) fun l y=>
 bK a (AH (Ah 5 l x y)) fun _ m=>
 (Ac true 4 f m).bind fun z=>
 An (fun aa vs H=>Sh.f1t a self aa (ag vs 0) (ag vs 1) (ag vs 2) (ag vs 3) (ag vs 4) H) AM [e,b,l,z,(.int .i64 0)] m)
noncomputable def Sh.f6f (self:Ab→Ab→Ab→Aa→Out) (c d b:Ab) (a:Aa):Out:=
 (A2 b).bind fun e=>
 (Ae .none .eql e (.int .i64 0)).bind fun f=>
 Ak f (
 rK a (.int .i64 0) a) (
 Ao (A3 (some [(.sl [] .tight),(.sl [] .tight),(.sl [] .tight),(.sl [] .tight)]) a) fun g h=>
 (A2 b).bind fun i=>
 An (fun j vs H=>Sh.f49 a self j (ag vs 0) (ag vs 1) (ag vs 2) (ag vs 3) (ag vs 4) (ag vs 5) H) AM [c,d,g,b,i,(.int .i64 0)] h)
noncomputable def Sh.f1u:Nat→Ab→Ab→Ab→Aa→Out
 | 0=>fun _ _ _ _=>none
 | d+1=>Sh.f6f (Sh.f1u d)
noncomputable def Sh.f32 (h i b:Ab) (c:Aa):Out:=
 (At 5 h i).bind fun j=>
 (Ac true 5 j c).bind fun k=>
 Ao (A3 (some [(.int .i64 0),(.int .i64 0),(.int .i64 0),(.int .i64 0),(.int .i64 0)]) c) fun f l=>
 bP c (AH (Ah 5 f k l)) fun _ d=>
 (Ae .none .eql b (.int .i64 0)).bind fun m=>
 Ak m (
 rP c (.bool true) d) (
 (Ad 0 f).bind fun n=>
 (Ac false 1 n d).bind fun o=>
 (Ae .none .eql o (.int .i64 1)).bind fun p=>
 Ak p (
 (Ae .none .gtr b (.int .i64 0)).bind fun g=>
 gk g true (some b) fun q=>
 gk g true (Ae .none .leq q (.int .i64 255)) fun r=>
 (AG g r (.bool false)).bind fun s=>
 rP c s d) (
 (Ae .none .gtr b (.int .i64 0)).bind fun e=>
 gk e true (some b) fun t=>
 gk e true (some i) fun u=>
 gk e true (Ae .none .leq t u) fun v=>
 (AG e v (.bool false)).bind fun a=>
 gk a true (some h) fun w=>
 gk a true (some b) fun x=>
 gk a true (Ae .none .sub x (.int .i64 1)) fun y=>
 gk a true (At 5 w y) fun z=>
 gk a true (Ad 0 z) fun aa=>
 gkc a true (Ac false 1 aa d) (fun _ _=>True) fun ab=>
 gk a true (Ad 0 f) fun ac=>
 gkc a true (Ac false 1 ac d) (fun _ _=>True) fun ad=>
 gk a true (Ae .none .sub ad (.int .i64 1)) fun ae=>
 gk a true (Ae .none .eql ab ae) fun aj=>
 (AG a aj (.bool false)).bind fun ak=>
 rP c ak d))
noncomputable def Sh.f50 (c:Aa) (k:LK) (l:LK) (a d e f g h b:Ab) (i:Aa):Out:=
 (Ae .none .lss b (.int .i64 4)).bind fun m=>
 Ak m (
 (Iy false 4 1 h b).bind fun n=>
 bP c (Sh.f32 a d n i) fun o j=>
 (unA .not o).bind fun p=>
 Ak p (
 rP c (.bool false) j) (
 (Ae .none .add b (.int .i64 1)).bind fun q=>
 l [a,d,e,f,g,h,q] j)) (
 (Ae .none .add g (.int .i64 1)).bind fun r=>
 k [a,e,f,r] i)
noncomputable def Sh.f1v (b:Aa) (i:LK) (j g h c:Ab) (f:Aa):Out:=
 (Ae .none .lss c h).bind fun k=>
 Ak k (
 (At 5 g c).bind fun l=>
 (Ac true 5 l f).bind fun m=>
 Ao (A3 (some [(.int .i64 0),(.int .i64 0),(.int .i64 0),(.int .i64 0),(.int .i64 0)]) f) fun d n=>
 bP b (AH (Ah 5 d m n)) fun _ a=>
 (Ad 0 d).bind fun o=>
 (Ac false 1 o a).bind fun p=>
 (Ae .none .lss p (.int .i64 1)).bind fun e=>
 gk e false (Ad 0 d) fun q=>
 gk e false (Ac false 1 q a) fun r=>
 gk e false (Ae .none .gtr r (.int .i64 1329)) fun s=>
 (AG e (.bool true) s).bind fun t=>
 Ak t (
 rP b (.bool false) a) (
 (Ad 1 d).bind fun u=>
 (Ac true 4 u a).bind fun v=>
 An (fun w vs H=>Sh.f50 b i w (ag vs 0) (ag vs 1) (ag vs 2) (ag vs 3) (ag vs 4) (ag vs 5) (ag vs 6) H) AM [j,c,g,h,c,v,(.int .i64 0)] a)) (
 rP b (.bool true) f)
noncomputable def Sh.f33 (a:Ab) (b:Aa):Out:=
 (A2 a).bind fun c=>
 An (fun d vs H=>Sh.f1v b d (ag vs 0) (ag vs 1) (ag vs 2) (ag vs 3) H) AM [a,a,c,(.int .i64 0)] b
noncomputable def Sh.f34 (b:Ab) (a:Aa):Out:=
 (Sb .eql b).bind fun c=>
 Ak c (
 rK a (.sl [] .tight) a) (
 (AQ 5 []).bind fun d=>
 bK a (Cb (AW Bg 5 40 d b a)) fun e f=>
 rK a e f)
noncomputable def Sh.f4a (d e f:Ab) (b:Aa):Out:=
 (Ae .none .neq d (.int .i64 0)).bind fun a=>
 gk a true (Ad 0 e) fun g=>
 gk a true (Ac false 1 g b) fun h=>
 gk a true (Ae .none .eql h (.int .i64 1)) fun i=>
 gk a true (some i) fun c=>
 gk c false (Ac false 1 f b) fun j=>
 gk c false (some d) fun k=>
 gk c false (At 1 j k) fun l=>
 gk c false (Ac false 1 l b) fun m=>
 gk a true (AG c (.bool true) m) fun n=>
 (AG a n (.bool false)).bind fun o=>
 rK b o b
noncomputable def Ce:Orc:=(ent 238 (ap3 Sh.f4a) noO)
noncomputable def Sh.f51 (b:Aa) (h:LK) (d e f a:Ab) (c:Aa):Out:=
 (Ae .none .lss a f).bind fun i=>
 Ak i (
 (At 1 d a).bind fun j=>
 (Ac false 1 j c).bind fun k=>
 bK b (Dg Ce e [k] c) fun l g=>
 Ak l (
 rK b a g) (
 (Ae .none .add a (.int .i64 1)).bind fun m=>
 h [d,e,f,m] g)) (
 rK b (.int .i64 (-1)) c)
noncomputable def Sh.f4b (a c:Ab) (b:Aa):Out:=
 (A2 a).bind fun d=>
 An (fun e vs H=>Sh.f51 b e (ag vs 0) (ag vs 1) (ag vs 2) (ag vs 3) H) AM [a,c,d,(.int .i64 0)] b
noncomputable def Sh.f35 (b c:Ab) (a:Aa):Out:=
 bK a (Sh.f4b b c a) fun d e=>
 (Ae .none .geq d (.int .i64 0)).bind fun f=>
 rK a f e
noncomputable def Sh.f6g (d:Aa) (k:LK) (a g h b:Ab) (c:Aa):Out:=
 (Ae .none .lss b h).bind fun l=>
 Ak l (
 (At 5 g b).bind fun m=>
 (Ac true 5 m c).bind fun n=>
 Ao (A3 (some [(.int .i64 0),(.int .i64 0),(.int .i64 0),(.int .i64 0),(.int .i64 0)]) c) fun e o=>
 bP d (AH (Ah 5 e n o)) fun _ i=>
 (Ad 1 e).bind fun p=>
 (ID 4 1 p none none).bind fun q=>
 AZ (Sh.f35 q (.fn 238 [e,a]) i) fun r j=>
 bC (Ac false 1 a j) (fun f=>Ac false 1 a i=some f∧True) fun f=>
 (Ae .none .add b (.int .i64 1)).bind fun s=>
 (At 1 f s).bind fun t=>
 bP d (AH (Ah 1 t r j)) fun _ u=>
 (Ae .none .add b (.int .i64 1)).bind fun v=>
 k [a,g,h,v] u) (
 (Ac false 1 a c).bind fun w=>
 rPN d w c)
noncomputable def Sh.f1e (a:Ab) (b:Aa):Out:=
 (A2 a).bind fun e=>
 (Ae .none .add e (.int .i64 1)).bind fun c=>
 Ao (Fh 1 1 (some [(.bool false)]) c c b) fun f g=>
 Ao (A3 (some [(.sl [] .tight)]) g) fun d h=>
 bP b (AH (Ah 1 d f h)) fun _ i=>
 (A2 a).bind fun j=>
 An (fun k vs H=>Sh.f6g b k (ag vs 0) (ag vs 1) (ag vs 2) (ag vs 3) H) AM [d,a,j,(.int .i64 0)] i
noncomputable def Sh.f36 (c d:Ab) (a:Aa):Out:=
 bK a (Sh.f1e c a) fun e b=>
 (At 1 e d).bind fun f=>
 (Ac false 1 f b).bind fun g=>
 (unA .not g).bind fun h=>
 rK a h b
noncomputable def Sh.f52 (n:Aa) (o:LK) (p:LK) (e f h i j k l d:Ab) (b:Aa):Out:=
 (Ae .none .lss d (.int .i64 4)).bind fun q=>
 Ak q (
 (Iy false 4 1 l d).bind fun m=>
 (Ae .none .sub (.int .i64 3) h).bind fun r=>
 (Ae .none .neq d r).bind fun g=>
 gk g true (some m) fun s=>
 gk g true (Ae .none .neq s (.int .i64 0)) fun t=>
 (AG g t (.bool false)).bind fun a=>
 gk a true (some e) fun u=>
 gk a true (some i) fun v=>
 gk a true (Ae .none .sub v (.int .i64 1)) fun w=>
 gk a true (At 5 u w) fun x=>
 gk a true (Ad 0 x) fun y=>
 gk a true (Ac false 1 y b) fun z=>
 gk a true (Ae .none .eql z (.int .i64 1)) fun aa=>
 gk a true (some aa) fun c=>
 gk c false (some f) fun ab=>
 gk c false (some m) fun ac=>
 gk c false (At 1 ab ac) fun ad=>
 gk c false (Ac false 1 ad b) fun ae=>
 gk a true (AG c (.bool true) ae) fun aj=>
 (AG a aj (.bool false)).bind fun ak=>
 Ak ak (
 rK n (.bool false) b) (
 (Ae .none .add d (.int .i64 1)).bind fun al=>
 p [e,f,h,i,j,k,l,al] b)) (
 (Ae .none .add k (.int .i64 1)).bind fun am=>
 o [e,f,j,am] b)
noncomputable def Sh.f53 (f:Aa) (g:LK) (c h d a:Ab) (b:Aa):Out:=
 (Ae .none .lss a (.int .i64 4)).bind fun i=>
 Ak i (
 (Iy false 4 1 d a).bind fun e=>
 (Ae .none .eql e (.int .i64 0)).bind fun j=>
 Ak j (
 (Ae .none .add a (.int .i64 1)).bind fun k=>
 g [c,h,d,k] b) (
 (Ae .none .sub e (.int .i64 1)).bind fun l=>
 (At 5 c l).bind fun m=>
 (Ad 1 m).bind fun n=>
 (Ac true 4 n b).bind fun o=>
 An (fun p vs H=>Sh.f52 f g p (ag vs 0) (ag vs 1) (ag vs 2) (ag vs 3) (ag vs 4) (ag vs 5) (ag vs 6) (ag vs 7) H) AM [c,h,a,e,d,a,o,(.int .i64 0)] b)) (
 rK f (.bool true) b)
noncomputable def Sh.f37 (c d:Ab) (b:Aa):Out:=
 (Ae .none .eql d (.int .i64 0)).bind fun a=>
 gk a false (some c) fun f=>
 gk a false (some d) fun g=>
 gk a false (Ae .none .sub g (.int .i64 1)) fun h=>
 gk a false (At 5 f h) fun i=>
 gk a false (Ad 0 i) fun j=>
 gk a false (Ac false 1 j b) fun k=>
 gk a false (Ae .none .eql k (.int .i64 1)) fun l=>
 (AG a (.bool true) l).bind fun m=>
 Ak m (
 rK b (.bool false) b) (
 bK b (Sh.f1e c b) fun n e=>
 (Ae .none .sub d (.int .i64 1)).bind fun o=>
 (At 5 c o).bind fun p=>
 (Ad 1 p).bind fun q=>
 (Ac true 4 q e).bind fun r=>
 An (fun s vs H=>Sh.f53 b s (ag vs 0) (ag vs 1) (ag vs 2) (ag vs 3) H) AM [c,n,r,(.int .i64 0)] e)
noncomputable def Sh.f38 (b e c:Ab) (a:Aa):Out:=
 (Ae .none .sub e (.int .i64 1)).bind fun f=>
 (At 5 b f).bind fun g=>
 (Ad 1 g).bind fun h=>
 (BZ 4 1 h c).bind fun i=>
 (Ac false 1 i a).bind fun d=>
 (Ae .none .gtr d (.int .i64 0)).bind fun j=>
 Ak j (
 (Ae .none .sub d (.int .i64 1)).bind fun k=>
 (Ae .none .sub (.int .i64 3) c).bind fun l=>
 (At 5 b k).bind fun m=>
 (Ad 1 m).bind fun n=>
 (BZ 4 1 n l).bind fun o=>
 (Ac false 1 o a).bind fun p=>
 rK a p a) (
 rK a (.int .i64 0) a)
noncomputable def Sh.f54 (b:Aa) (h:LK) (i:LK) (c f d a:Ab) (e:Aa):Out:=
 (Ae .none .lss a (.int .i64 4)).bind fun j=>
 Ak j (
 bP b (Sh.f38 c f a e) fun k l=>
 (Ad 1 d).bind fun m=>
 (BZ 4 1 m a).bind fun n=>
 bP b (AH (Ah 1 n k l)) fun _ o=>
 (Ae .none .add a (.int .i64 1)).bind fun p=>
 i [c,f,d,p] o) (
 (Ac true 5 d e).bind fun q=>
 (AQ 5 [q]).bind fun r=>
 bP b (Cb (AW Bg 5 40 c r e)) fun g s=>
 (A2 g).bind fun t=>
 h [g,t] s)
noncomputable def Sh.f6h (a:Aa) (f:LK) (b c:Ab) (g:Aa):Out:=
 bP a (Sh.f37 b c g) fun h d=>
 Ak h (
 (Ae .none .sub c (.int .i64 1)).bind fun i=>
 (At 5 b i).bind fun j=>
 (Ad 0 j).bind fun k=>
 (Ac false 1 k d).bind fun l=>
 (Ae .none .sub l (.int .i64 1)).bind fun m=>
 (AB (some [(.int .i64 0),(.int .i64 0),(.int .i64 0),(.int .i64 0),(.int .i64 0)]) [(0,1,m)]).bind fun n=>
 Ao (A3 (some [(.int .i64 0),(.int .i64 0),(.int .i64 0),(.int .i64 0),(.int .i64 0)]) d) fun e o=>
 bP a (AH (Ah 5 e n o)) fun _ p=>
 An (fun q vs H=>Sh.f54 a f q (ag vs 0) (ag vs 1) (ag vs 2) (ag vs 3) H) AM [b,c,e,(.int .i64 0)] p) (
 rPN a (.tup [b,c]) d)
noncomputable def Sh.f39 (e c:Ab) (a:Aa):Out:=
 bP a (Sh.f34 e a) fun b f=>
 bP a (Sh.f36 b c f) fun g d=>
 Ak g (
 rPN a (.tup [b,(.int .i64 0)]) d) (
 An (fun h vs H=>Sh.f6h a h (ag vs 0) (ag vs 1) H) AM [b,c] d)
noncomputable def Sh.f3a (b h:Ab) (c:Aa):Out:=
 Ao (B2 true 5 h c) fun d a=>
 (Ad 1 d).bind fun i=>
 (Ac true 4 i a).bind fun j=>
 (AB (some [(.int .i64 0),(.int .i64 0),(.int .i64 0),(.int .i64 0)]) []).bind fun k=>
 (Ae (.flat 4) .eql j k).bind fun l=>
 Ak l (
 rK c (.int .i64 0) a) (
 (Aq b).bind fun m=>
 (Ad 1 m).bind fun n=>
 bC (Ac false 1 n a) (fun _=>True) fun o=>
 bC (Ac true 5 d a) (fun _=>True) fun p=>
 bC (EO true 5 (some (.int .i64 0)) true o p a) (fun _=>True) fun f=>
 (Az 0 f).bind fun q=>
 (Az 1 f).bind fun r=>
 Ak r (
 rK c q a) (
 (Aq b).bind fun s=>
 (Ad 0 s).bind fun t=>
 bC (Ac false 1 t a) (fun _=>True) fun u=>
 bC (Ac true 5 d a) (fun _=>True) fun v=>
 (AQ 5 [v]).bind fun w=>
 AZ (Cb (AW Bg 5 40 u w a)) fun x y=>
 (Aq b).bind fun z=>
 (Ad 0 z).bind fun aa=>
 bK c (AH (Ah 1 aa x y)) fun _ e=>
 (Aq b).bind fun ab=>
 (Ad 1 ab).bind fun ac=>
 bC (Ac false 1 ac e) (fun _=>True) fun ad=>
 bC (Ac true 5 d e) (fun _=>True) fun ae=>
 (Aq b).bind fun aj=>
 (Ad 0 aj).bind fun ak=>
 bC (Ac false 1 ak e) (fun _=>True) fun al=>
 (A2 al).bind fun am=>
 bK c (AH (DC true 5 ad ae am e)) fun _ g=>
 (Aq b).bind fun an=>
 (Ad 0 an).bind fun ap=>
 (Ac false 1 ap g).bind fun aq=>
 (A2 aq).bind fun ar=>
 rK c ar g))
noncomputable def GT (self:Ab→Ab→Ab→Ab→Ab→Aa→Out):Orc:=ent 161 (ap5 self) (ent 162 (ap2 Sh.f3a) noO)
noncomputable def Sh.f55 (a:Aa) (e f g h:Ab) (b:Aa):Out:=
 (Ac false 1 g b).bind fun i=>
 (Ac true 5 h b).bind fun j=>
 bK a (Sh.f3a i j b) fun c d=>
 (Ac false 1 f d).bind fun k=>
 bK a (AH (DC false 1 k e c d)) fun _ l=>
 rK a c l
noncomputable def Sh.f56 (d:Aa) (self:Ab→Ab→Ab→Ab→Ab→Aa→Out) (j1:LK) (j:LK) (e f g h b i a:Ab) (c:Aa):Out:=
 (Ae .none .lss a (.int .i64 4)).bind fun k=>
 Ak k (
 (Iy false 4 1 i a).bind fun l=>
 (Ac false 1 g c).bind fun m=>
 bK d (Dg (GT self) m [l] c) fun n o=>
 (Ad 1 b).bind fun p=>
 (BZ 4 1 p a).bind fun q=>
 bK d (AH (Ah 1 q n o)) fun _ r=>
 (Ae .none .add a (.int .i64 1)).bind fun s=>
 j [e,f,g,h,b,i,s] r) (
 j1 [e,f,h,b] c)
noncomputable def Sh.f4c (self:Ab→Ab→Ab→Ab→Ab→Aa→Out) (c e h i f:Ab) (a:Aa):Out:=
 (Ac false 1 e a).bind fun j=>
 (EO false 1 (some (.int .i64 0)) true j c a).bind fun g=>
 (Az 0 g).bind fun k=>
 (Az 1 g).bind fun l=>
 Ak l (
 rK a k a) (
 (Ac false 1 h a).bind fun m=>
 (Ae .none .sub c (.int .i64 1)).bind fun n=>
 (At 5 m n).bind fun o=>
 (Ac true 5 o a).bind fun p=>
 Ao (A3 (some [(.int .i64 0),(.int .i64 0),(.int .i64 0),(.int .i64 0),(.int .i64 0)]) a) fun b q=>
 bK a (AH (Ah 5 b p q)) fun _ d=>
 AJ (fun j1=>
 (Ad 0 b).bind fun r=>
 (Ac false 1 r d).bind fun s=>
 (Ae .none .gtr s (.int .i64 1)).bind fun t=>
 Ak t (
 (Ad 1 b).bind fun u=>
 (Ac true 4 u d).bind fun v=>
 An (fun w vs H=>Sh.f56 a self j1 w (ag vs 0) (ag vs 1) (ag vs 2) (ag vs 3) (ag vs 4) (ag vs 5) (ag vs 6) H) AM [c,e,i,f,b,v,(.int .i64 0)] d) (
 j1 [c,e,f,b] d)) (fun vs H=>Sh.f55 a (ag vs 0) (ag vs 1) (ag vs 2) (ag vs 3) H))
noncomputable def Sh.fh:Nat→Ab→Ab→Ab→Ab→Ab→Aa→Out
 | 0=>fun _ _ _ _ _ _=>none
 | d+1=>Sh.f4c (Sh.fh d)
noncomputable def Iv:Orc:=(ent 159 (ap1 Sh.f33) (ent 160 (ap2 Sh.f39) (ent 161 (ap5 (Sh.fh AM)) noO)))
noncomputable def Sh.f3b (r f:Ab) (a:Aa):Out:=
 Ao (B2 true 1 r a) fun b s=>
 Ao (A3 (some [(.sl [] .tight)]) s) fun d k=>
 (Ac false 1 b k).bind fun t=>
 bP a (Sh.f33 t k) fun u e=>
 (unA .not u).bind fun g=>
 gk g false (some f) fun v=>
 gk g false (Ae .none .lss v (.int .i64 0)) fun w=>
 (AG g (.bool true) w).bind fun c=>
 gk c false (some f) fun x=>
 gk c false (Ac false 1 b e) fun y=>
 gk c false (A2 y) fun z=>
 gk c false (Ae .none .gtr x z) fun aa=>
 (AG c (.bool true) aa).bind fun ab=>
 Ak ab (
 (AB (some [(.sl [] .tight)]) []).bind fun ac=>
 bP a (AH (Ah 1 d ac e)) fun _ l=>
 (IF [Ac true 1 d l,some (.int .i64 1)]).bind fun ad=>rPN a ad l) (
 (Ac false 1 b e).bind fun ae=>
 bP a (Sh.f39 ae f e) fun m aj=>
 (Az 0 m).bind fun ak=>
 (Az 1 m).bind fun al=>
 bP a (AH (Ah 1 b ak aj)) fun _ am=>
 Ao (Eb am) fun an ap=>
 (AB (some [(.sl [] .tight),.nilmap]) [(1,1,an)]).bind fun aq=>
 Ao (B2 true 2 aq ap) fun ar au=>
 Ao (A3 (some [.nilp]) au) fun h av=>
 bP a (AH (Ah 1 h ar av)) fun _ aw=>
 Ao (Eb aw) fun n ax=>
 bP a (AH (DC false 1 n (.int .i64 0) (.int .i64 0) ax)) fun _ ay=>
 Ao (A3 (some [.nilmap]) ay) fun o az=>
 bP a (AH (Ah 1 o n az)) fun _ a0=>
 Ao (A3 (some [.nilfn]) a0) fun i a1=>
 bP a (AH (Ah 1 i (.fn 161 [o,b,i,h]) a1)) fun _ p=>
 (Ac false 1 i p).bind fun a2=>
 bP a (Dg Iv a2 [al] p) fun a9 j=>
 (Ac false 1 h j).bind fun a3=>
 (Aq a3).bind fun a4=>
 (Ad 0 a4).bind fun a5=>
 (Ac false 1 a5 j).bind fun a6=>
 (AB (some [(.sl [] .tight)]) [(0,1,a6)]).bind fun a7=>
 bP a (AH (Ah 1 d a7 j)) fun _ q=>
 (IF [Ac true 1 d q,some (.int .i64 0)]).bind fun a8=>rPN a a8 q)
noncomputable def Sh.f4d (b:Aa) (w:LK) (g m c n o p h:Ab) (i:Aa):Out:=
 (Ae .none .lss h p).bind fun x=>
 Ak x (
 (At 5 o h).bind fun y=>
 (Ac true 5 y i).bind fun z=>
 Ao (A3 (some [(.bool false),(.sl [] .tight),(.bool false),(.sl [] .tight),(.int .u8 0)]) i) fun d aa=>
 bP b (AH (Ah 5 d z aa)) fun _ a=>
 (Ad 0 d).bind fun ab=>
 bC (Ac true 2 ab a) (fun _=>True) fun ac=>
 bC (Ac true 2 c a) (fun _=>True) fun ad=>
 AZ (Sh.fu ac ad a) fun ae e=>
 (Ad 2 d).bind fun q=>
 bC (Ac true 2 q e) (fun j=>Ac true 2 q a=some j∧True) fun j=>
 bC (Ac true 2 c e) (fun k=>Ac true 2 c a=some k∧True) fun k=>
 AZ (Sh.fu j k e) fun aj r=>
 (QS false 1 1 ae).bind fun ak=>
 (QS false 1 1 aj).bind fun al=>
 (Ad 4 d).bind fun l=>
 bC (Ac false 1 l r) (fun f=>Ac false 1 l e=some f∧Ac false 1 l a=some f∧True) fun f=>
 (AB (some [(.sl [] .tight),(.sl [] .tight),(.int .u8 0)]) [(0,1,ak),(1,1,al),(2,1,f)]).bind fun am=>
 (AQ 3 [am]).bind fun an=>
 AZ (Cb (AW BA 3 56 n an r)) fun ap aq=>
 (Ae .none .add h (.int .i64 1)).bind fun ar=>
 w [g,m,c,ap,o,p,ar] aq) (
 (AB (some [(.sl [] .tight)]) []).bind fun au=>
 Ao (B2 true 1 au i) fun s av=>
 bP b (Sh.f1u AM s m n av) fun aw t=>
 (Aq s).bind fun ax=>
 (Ad 0 ax).bind fun ay=>
 (Ac false 1 ay t).bind fun az=>
 bP b (Sh.f3b az aw t) fun u a0=>
 (Az 0 u).bind fun a1=>
 (Az 1 u).bind fun a2=>
 bP b (AH (Ah 1 g a1 a0)) fun _ v=>
 (IF [Ac true 1 g v,some a2]).bind fun a3=>rPN b a3 v)
noncomputable def Sh.f3c (a:Aa) (p:LK) (b e c j k f:Ab) (d:Aa):Out:=
 (Ae .none .lss f k).bind fun q=>
 Ak q (
 (At 5 j f).bind fun r=>
 (Ac true 5 r d).bind fun s=>
 Ao (A3 (some [(.bool false),(.sl [] .tight),(.bool false),(.sl [] .tight),(.int .u8 0)]) d) fun g t=>
 bP a (AH (Ah 5 g s t)) fun _ h=>
 (Ad 0 g).bind fun u=>
 bC (Ac true 2 u h) (fun _=>True) fun v=>
 AZ (Sh.f1r v h) fun w l=>
 (Ad 2 g).bind fun m=>
 bC (Ac true 2 m l) (fun i=>Ac true 2 m h=some i∧True) fun i=>
 AZ (Sh.f1r i l) fun x y=>
 (GM IL c [w,x]).bind fun z=>
 (Ae .none .add f (.int .i64 1)).bind fun aa=>
 p [b,e,z,j,k,aa] y) (
 (Ae .none .gtr c (.int .i64 1329)).bind fun ab=>
 Ak ab (
 (AB (some [(.sl [] .tight)]) []).bind fun ac=>
 bP a (AH (Ah 1 b ac d)) fun _ n=>
 (IF [Ac true 1 b n,some (.int .i64 4)]).bind fun ad=>rPN a ad n) (
 (Ae .none .sub c (.int .i64 1)).bind fun ae=>
 bP a (Sh.f31 ae d) fun aj ak=>
 Ao (A3 (some [(.bool false),(.sl [] .tight)]) ak) fun o al=>
 bP a (AH (Ah 2 o aj al)) fun _ am=>
 (A2 e).bind fun an=>
 An (fun ap vs H=>Sh.f4d a ap (ag vs 0) (ag vs 1) (ag vs 2) (ag vs 3) (ag vs 4) (ag vs 5) (ag vs 6) H) AM [b,c,o,(.sl [] .tight),e,an,(.int .i64 0)] am))
noncomputable def Sh.f1w (d:Ab) (a:Aa):Out:=
 Ao (A3 (some [(.sl [] .tight)]) a) fun b g=>
 bP a (Sh.f2h d (.fn 84 []) g) fun h e=>
 Ak h (
 (AB (some [(.sl [] .tight)]) []).bind fun i=>
 bP a (AH (Ah 1 b i e)) fun _ f=>
 (IF [Ac true 1 b f,some (.int .i64 1)]).bind fun j=>rPN a j f) (
 bP a (Sh.f2r d e) fun c k=>
 (A2 c).bind fun l=>
 An (fun m vs H=>Sh.f3c a m (ag vs 0) (ag vs 1) (ag vs 2) (ag vs 3) (ag vs 4) (ag vs 5) H) AM [b,c,(.int .i64 1),c,l,(.int .i64 0)] k)
noncomputable def Sh.fv (l v:Ab) (a:Aa):Out:=
 Ao (B2 true 2 v a) fun m w=>
 Ao (A3 (some [(.str []),(.sl [] .tight)]) w) fun b n=>
 (Ac true 2 m n).bind fun x=>
 bP a (Sh.f26 x n) fun y o=>
 (unA .not y).bind fun z=>
 Ak z (
 (AB (some [(.str []),(.sl [] .tight)]) []).bind fun aa=>
 bP a (AH (Ah 2 b aa o)) fun _ p=>
 (IF [Ac true 2 b p,some (.int .i64 0),some (.int .i64 1)]).bind fun ab=>rPN a ab p) (
 (AB (some [(.str []),(.int .i64 0)]) [(0,1,l)]).bind fun ac=>
 (AB (some [(.str []),(.int .i64 0),(.str []),(.sl [] .tight)]) [(0,2,ac),(2,1,(.str [66,51,47,83,50,51]))]).bind fun ad=>
 Ao (B2 true 4 ad o) fun f ae=>
 bP a (Sh.f1l (.bfn 38 [f]) ae) fun aj ak=>
 Ao (A3 (some [(.int .i64 0),(.str [])]) ak) fun h al=>
 bP a (AH (Ah 2 h aj al)) fun _ d=>
 (Ad 0 h).bind fun am=>
 (Ac false 1 am d).bind fun an=>
 (Ae .none .neq an (.int .i64 0)).bind fun ap=>
 Ak ap (
 (AB (some [(.str []),(.sl [] .tight)]) []).bind fun aq=>
 AZ (AH (Ah 2 b aq d)) fun _ g=>
 (Aq f).bind fun ar=>
 (Ad 0 ar).bind fun au=>
 (Ad 1 au).bind fun q=>
 bC (Ac false 1 q g) (fun i=>Ac false 1 q d=some i∧True) fun i=>
 (Ad 0 h).bind fun r=>
 bC (Ac false 1 r g) (fun j=>Ac false 1 r d=some j∧True) fun j=>
 (IF [Ac true 2 b g,some i,some j]).bind fun av=>rPN a av g) (
 (Aq f).bind fun aw=>
 (Ad 3 aw).bind fun ax=>
 (Ac false 1 ax d).bind fun ay=>
 bP a (Sh.f1w ay d) fun s az=>
 (Az 0 s).bind fun a0=>
 (Az 1 s).bind fun a1=>
 Ao (A3 (some [(.sl [] .tight)]) az) fun k a2=>
 bP a (AH (Ah 1 k a0 a2)) fun _ e=>
 (Ae .none .neq a1 (.int .i64 0)).bind fun c=>
 gk c false (Ad 0 k) fun a3=>
 gk c false (Ac false 1 a3 e) fun a4=>
 gk c false (A2 a4) fun a5=>
 gk c false (Ad 1 m) fun a6=>
 gk c false (Ac false 1 a6 e) fun a7=>
 gk c false (Ae .none .gtr a5 a7) fun a8=>
 (AG c (.bool true) a8).bind fun a9=>
 Ak a9 (
 (AB (some [(.str []),(.sl [] .tight)]) []).bind fun ba=>
 (Cr l).bind fun bb=>
 bP a (AH (Ah 2 b ba e)) fun _ t=>
 (IF [Ac true 2 b t,some bb,some (.int .i64 4)]).bind fun bc=>rPN a bc t) (
 (Aq f).bind fun bd=>
 (Ad 2 bd).bind fun be=>
 bC (Ac false 1 be e) (fun _=>True) fun bg=>
 bC (Ac true 1 k e) (fun _=>True) fun bj=>
 (AB (some [(.str []),(.sl [] .tight)]) [(0,1,bg),(1,1,bj)]).bind fun bk=>
 AZ (AH (Ah 2 b bk e)) fun _ u=>
 (IF [Ac true 2 b u,some (.int .i64 0),some (.int .i64 0)]).bind fun bl=>rPN a bl u)))
noncomputable def Sh.f3d (b:Ab) (c:Aa):Out:=
 (Ae .none .geq b (.int .i64 1)).bind fun a=>
 gk a true (some b) fun d=>
 gk a true (Ae .none .leq d (.int .i64 5)) fun e=>
 (AG a e (.bool false)).bind fun f=>
 rK c f c
noncomputable def Sh.f3e (b:Ab) (c:Aa):Out:=
 (Ae .none .geq b (.int .u8 33)).bind fun a=>
 gk a true (some b) fun d=>
 gk a true (Ae .none .leq d (.int .u8 126)) fun e=>
 (AG a e (.bool false)).bind fun f=>
 rK c f c
noncomputable def Sh.f6w (c:Aa) (g:LK) (a d:Ab) (e:Aa):Out:=
 (Cr a).bind fun h=>
 (Ae .none .lss d h).bind fun i=>
 Ak i (
 (Eg a d).bind fun j=>
 bK c (Sh.f3e j e) fun k f=>
 (unA .not k).bind fun l=>
 Ak l (
 rK c (.bool false) f) (
 (Ae .none .add d (.int .i64 1)).bind fun m=>
 g [a,m] f)) (
 (Cr a).bind fun n=>
 (Ae .none .geq n (.int .i64 1)).bind fun b=>
 gk b true (some a) fun o=>
 gk b true (Cr o) fun p=>
 gk b true (Ae .none .leq p (.int .i64 40)) fun q=>
 (AG b q (.bool false)).bind fun r=>
 rK c r e)
noncomputable def Sh.f3f (b:Ab) (a:Aa):Out:=
 An (fun c vs H=>Sh.f6w a c (ag vs 0) (ag vs 1) H) AM [b,(.int .i64 0)] a
noncomputable def Sh.f57 (k:Aa) (l:LK) (m:LK) (d e h:Ab) (b:Aa):Out:=
 (Ae .none .lss h (.int .i64 4)).bind fun n=>
 Ak n (
 (At 5 d e).bind fun o=>
 (Ad 1 o).bind fun p=>
 (BZ 4 1 p h).bind fun q=>
 (Ac false 1 q b).bind fun g=>
 (Ae .none .lss g (.int .i64 0)).bind fun c=>
 gk c false (some d) fun r=>
 gk c false (some e) fun s=>
 gk c false (At 5 r s) fun t=>
 gk c false (Ad 0 t) fun u=>
 gk c false (Ac false 1 u b) fun v=>
 gk c false (Ae .none .eql v (.int .i64 1)) fun w=>
 gk c false (some w) fun i=>
 gk i true (some g) fun x=>
 gk i true (Ae .none .gtr x (.int .i64 255)) fun y=>
 gk c false (AG i y (.bool false)) fun z=>
 (AG c (.bool true) z).bind fun aa=>
 Ak aa (
 rK k (.bool false) b) (
 (At 5 d e).bind fun ab=>
 (Ad 0 ab).bind fun ac=>
 bC (Ac false 1 ac b) (fun _=>True) fun ad=>
 (Ae .none .gtr ad (.int .i64 1)).bind fun j=>
 gk j true (some g) fun ae=>
 gk j true (Ae .none .gtr ae (.int .i64 0)) fun aj=>
 (AG j aj (.bool false)).bind fun f=>
 gk f true (some g) fun ak=>
 gk f true (some e) fun al=>
 gk f true (Ae .none .gtr ak al) fun am=>
 gk f true (some am) fun a=>
 gk a false (some d) fun an=>
 gk a false (some g) fun ap=>
 gk a false (Ae .none .sub ap (.int .i64 1)) fun aq=>
 gk a false (At 5 an aq) fun ar=>
 gk a false (Ad 0 ar) fun au=>
 gkc a false (Ac false 1 au b) (fun _ _=>True) fun av=>
 gk a false (some d) fun aw=>
 gk a false (some e) fun ax=>
 gk a false (At 5 aw ax) fun ay=>
 gk a false (Ad 0 ay) fun az=>
 gkc a false (Ac false 1 az b) (fun _ _=>True) fun a0=>
 gk a false (Ae .none .sub a0 (.int .i64 1)) fun a1=>
 gk a false (Ae .none .neq av a1) fun a2=>
 gk f true (AG a (.bool true) a2) fun a3=>
 (AG f a3 (.bool false)).bind fun a4=>
 Ak a4 (
 rK k (.bool false) b) (
 (Ae .none .add h (.int .i64 1)).bind fun a5=>
 m [d,e,a5] b))) (
 (Ae .none .add e (.int .i64 1)).bind fun a6=>
 l [d,a6] b)
noncomputable def Sh.f58 (e:Aa) (f:LK) (c d:Ab) (b:Aa):Out:=
 (A2 c).bind fun g=>
 (Ae .none .lss d g).bind fun h=>
 Ak h (
 (At 5 c d).bind fun i=>
 (Ad 0 i).bind fun j=>
 (Ac false 1 j b).bind fun k=>
 (Ae .none .lss k (.int .i64 1)).bind fun a=>
 gk a false (some c) fun l=>
 gk a false (some d) fun m=>
 gk a false (At 5 l m) fun n=>
 gk a false (Ad 0 n) fun o=>
 gk a false (Ac false 1 o b) fun p=>
 gk a false (Ae .none .gtr p (.int .i64 1329)) fun q=>
 (AG a (.bool true) q).bind fun r=>
 Ak r (
 rK e (.bool false) b) (
 An (fun s vs H=>Sh.f57 e f s (ag vs 0) (ag vs 1) (ag vs 2) H) AM [c,d,(.int .i64 0)] b)) (
 rK e (.bool true) b)
noncomputable def Sh.f3g (b:Ab) (a:Aa):Out:=
 An (fun c vs H=>Sh.f58 a c (ag vs 0) (ag vs 1) H) AM [b,(.int .i64 0)] a
noncomputable def Sh.f59 (j:Aa) (k:LK) (l:LK) (f g c b h:Ab) (d:Aa):Out:=
 (Ae .none .lss h (.int .i64 4)).bind fun m=>
 Ak m (
 (At 5 f c).bind fun n=>
 (Ad 1 n).bind fun o=>
 (BZ 4 1 o h).bind fun p=>
 (Ac false 1 p d).bind fun i=>
 gk b true (some i) fun q=>
 gk b true (Ae .none .eql q (.int .i64 0)) fun r=>
 gk b true (some r) fun a=>
 gk a false (some f) fun s=>
 gk a false (some c) fun t=>
 gk a false (At 5 s t) fun u=>
 gk a false (Ad 0 u) fun v=>
 gk a false (Ac false 1 v d) fun w=>
 gk a false (Ae .none .gtr w (.int .i64 1)) fun x=>
 gk a false (some x) fun e=>
 gk e true (some g) fun y=>
 gk e true (some i) fun z=>
 gk e true (At 1 y z) fun aa=>
 gk e true (Ac false 1 aa d) fun ab=>
 gk a false (AG e ab (.bool false)) fun ac=>
 gk b true (AG a (.bool true) ac) fun ad=>
 (AG b ad (.bool false)).bind fun ae=>
 (Ae .none .add h (.int .i64 1)).bind fun aj=>
 l [f,g,c,ae,aj] d) (
 (Ae .none .add c (.int .i64 1)).bind fun ak=>
 (At 1 g ak).bind fun al=>
 bP j (AH (Ah 1 al b d)) fun _ am=>
 (Ae .none .add c (.int .i64 1)).bind fun an=>
 k [f,g,an] am)
noncomputable def Sh.f5a (a:Aa) (f:LK) (b c d:Ab) (e:Aa):Out:=
 (A2 b).bind fun g=>
 (Ae .none .lss d g).bind fun h=>
 Ak h (
 An (fun i vs H=>Sh.f59 a f i (ag vs 0) (ag vs 1) (ag vs 2) (ag vs 3) (ag vs 4) H) AM [b,c,d,(.bool true),(.int .i64 0)] e) (
 rPN a c e)
noncomputable def Sh.f1f (b:Ab) (a:Aa):Out:=
 (A2 b).bind fun e=>
 (Ae .none .add e (.int .i64 1)).bind fun c=>
 Ao (Fh 1 1 (some [(.bool false)]) c c a) fun d f=>
 (At 1 d (.int .i64 0)).bind fun g=>
 bP a (AH (Ah 1 g (.bool true) f)) fun _ h=>
 An (fun i vs H=>Sh.f5a a i (ag vs 0) (ag vs 1) (ag vs 2) H) AM [b,d,(.int .i64 0)] h
noncomputable def Sh.f4e (n:Aa) (o:LK) (p:LK) (e f h i j g:Ab) (c:Aa):Out:=
 (Ae .none .lss g (.int .i64 4)).bind fun k=>
 gk k true (some j) fun q=>
 gk k true (Ae .none .gtr q (.int .i64 0)) fun r=>
 (AG k r (.bool false)).bind fun s=>
 Ak s (
 (Ae .none .sub j (.int .i64 1)).bind fun t=>
 (At 5 e t).bind fun u=>
 (Ad 1 u).bind fun v=>
 (BZ 4 1 v g).bind fun w=>
 (Ac false 1 w c).bind fun m=>
 (Ae .none .sub (.int .i64 3) i).bind fun x=>
 (Ae .none .neq g x).bind fun a=>
 gk a true (some e) fun y=>
 gk a true (some f) fun z=>
 gk a true (Ae .none .sub z (.int .i64 1)) fun aa=>
 gk a true (At 5 y aa) fun ab=>
 gk a true (Ad 0 ab) fun ac=>
 gk a true (Ac false 1 ac c) fun ad=>
 gk a true (Ae .none .eql ad (.int .i64 2)) fun ae=>
 gk a true (some ae) fun l=>
 gk l true (some m) fun aj=>
 gk l true (Ae .none .neq aj (.int .i64 0)) fun ak=>
 gk a true (AG l ak (.bool false)) fun al=>
 gk a true (some al) fun b=>
 gk b false (some e) fun am=>
 gk b false (some f) fun an=>
 gk b false (Ae .none .sub an (.int .i64 1)) fun ap=>
 gk b false (At 5 am ap) fun aq=>
 gk b false (Ad 0 aq) fun ar=>
 gk b false (Ac false 1 ar c) fun au=>
 gk b false (Ae .none .gtr au (.int .i64 2)) fun av=>
 gk b false (some av) fun d=>
 gk d true (some h) fun aw=>
 gk d true (some m) fun ax=>
 gk d true (At 1 aw ax) fun ay=>
 gk d true (Ac false 1 ay c) fun az=>
 gk d true (unA .not az) fun a0=>
 gk b false (AG d a0 (.bool false)) fun a1=>
 gk a true (AG b (.bool true) a1) fun a2=>
 (AG a a2 (.bool false)).bind fun a3=>
 Ak a3 (
 rK n (.bool false) c) (
 (Ae .none .add g (.int .i64 1)).bind fun a4=>
 p [e,f,h,i,j,a4] c)) (
 (Ae .none .add i (.int .i64 1)).bind fun a5=>
 o [e,f,h,a5] c)
noncomputable def Sh.f5b (c:Aa) (f:LK) (d e g a:Ab) (b:Aa):Out:=
 (Ae .none .lss a (.int .i64 4)).bind fun h=>
 Ak h (
 (Ae .none .sub e (.int .i64 1)).bind fun i=>
 (At 5 d i).bind fun j=>
 (Ad 1 j).bind fun k=>
 (BZ 4 1 k a).bind fun l=>
 (Ac false 1 l b).bind fun m=>
 An (fun n vs H=>Sh.f4e c f n (ag vs 0) (ag vs 1) (ag vs 2) (ag vs 3) (ag vs 4) (ag vs 5) H) AM [d,e,g,a,m,(.int .i64 0)] b) (
 rK c (.bool true) b)
noncomputable def Sh.f3h (c d:Ab) (b:Aa):Out:=
 (Ae .none .eql d (.int .i64 0)).bind fun a=>
 gk a false (some c) fun e=>
 gk a false (some d) fun f=>
 gk a false (Ae .none .sub f (.int .i64 1)) fun g=>
 gk a false (At 5 e g) fun h=>
 gk a false (Ad 0 h) fun i=>
 gk a false (Ac false 1 i b) fun j=>
 gk a false (Ae .none .lss j (.int .i64 2)) fun k=>
 (AG a (.bool true) k).bind fun l=>
 Ak l (
 rK b (.bool false) b) (
 bK b (Sh.f1f c b) fun m n=>
 An (fun o vs H=>Sh.f5b b o (ag vs 0) (ag vs 1) (ag vs 2) (ag vs 3) H) AM [c,d,m,(.int .i64 0)] n)
noncomputable def Sh.f4f (h:Aa) (a:LK) (b c d e:Ab) (f:Aa):Out:=
 (Ae .none .add e (.int .i64 1)).bind fun g=>
 a [b,c,d,g] f
noncomputable def Sh.f5c (f:Aa) (self:Ab→Ab→Ab→Aa→Out) (h:LK) (b c g e:Ab) (d:Aa):Out:=
 (Ae .none .lss e (.int .i64 4)).bind fun i=>
 Ak i (
 AJ (fun j3=>
 (Ae .none .sub c (.int .i64 1)).bind fun j=>
 (At 5 b j).bind fun k=>
 (Ad 0 k).bind fun l=>
 (Ac false 1 l d).bind fun m=>
 (Ae .none .gtr m (.int .i64 1)).bind fun a=>
 gk a true (some b) fun n=>
 gk a true (some c) fun o=>
 gk a true (Ae .none .sub o (.int .i64 1)) fun p=>
 gk a true (some e) fun q=>
 gk a true (At 5 n p) fun r=>
 gk a true (Ad 1 r) fun s=>
 gk a true (BZ 4 1 s q) fun t=>
 gk a true (Ac false 1 t d) fun u=>
 gk a true (Ae .none .gtr u (.int .i64 0)) fun v=>
 (AG a v (.bool false)).bind fun w=>
 Ak w (
 (Ae .none .sub c (.int .i64 1)).bind fun x=>
 (At 5 b x).bind fun y=>
 (Ad 1 y).bind fun z=>
 (BZ 4 1 z e).bind fun aa=>
 (Ac false 1 aa d).bind fun ab=>
 bK f (self b ab g d) fun ac ad=>
 j3 [b,c,ac,e] ad) (
 j3 [b,c,g,e] d)) (fun vs H=>Sh.f4f f h (ag vs 0) (ag vs 1) (ag vs 2) (ag vs 3) H)) (
 (AQ 1 [c]).bind fun ae=>
 bK f (Cb (AW FO 1 8 g ae d)) fun aj ak=>
 rK f aj ak)
noncomputable def Sh.f5d (e:Aa) (self:Ab→Ab→Ab→Aa→Out) (g:LK) (f c a d:Ab) (b:Aa):Out:=
 (A2 a).bind fun h=>
 (Ae .none .lss d h).bind fun i=>
 Ak i (
 (At 1 a d).bind fun j=>
 (Ac false 1 j b).bind fun k=>
 (Ae .none .eql k c).bind fun l=>
 Ak l (
 rK e a b) (
 (Ae .none .add d (.int .i64 1)).bind fun m=>
 g [f,c,a,m] b)) (
 An (fun n vs H=>Sh.f5c e self n (ag vs 0) (ag vs 1) (ag vs 2) (ag vs 3) H) AM [f,c,a,(.int .i64 0)] b)
noncomputable def Sh.f6i (self:Ab→Ab→Ab→Aa→Out) (b c d:Ab) (a:Aa):Out:=
 An (fun e vs H=>Sh.f5d a self e (ag vs 0) (ag vs 1) (ag vs 2) (ag vs 3) H) AM [b,c,d,(.int .i64 0)] a
noncomputable def Sh.fl:Nat→Ab→Ab→Ab→Aa→Out
 | 0=>fun _ _ _ _=>none
 | d+1=>Sh.f6i (Sh.fl d)
noncomputable def Sh.f5e (f:Aa) (g:LK) (h:LK) (b e c d:Ab) (a:Aa):Out:=
 (Ae .none .lss d c).bind fun i=>
 Ak i (
 (At 5 b c).bind fun j=>
 bC (Ac true 5 j a) (fun _=>True) fun k=>
 (At 5 b d).bind fun l=>
 bC (Ac true 5 l a) (fun _=>True) fun m=>
 (Ae (.flat 5) .eql k m).bind fun n=>
 Ak n (
 rP f (.bool false) a) (
 (Ae .none .add d (.int .i64 1)).bind fun o=>
 h [b,e,c,o] a)) (
 (Ae .none .add c (.int .i64 1)).bind fun p=>
 g [b,e,p] a)
noncomputable def Sh.f5f (d:Aa) (f:LK) (e a b:Ab) (c:Aa):Out:=
 (A2 a).bind fun g=>
 (Ae .none .lss b g).bind fun h=>
 Ak h (
 (At 1 a b).bind fun i=>
 (Ac false 1 i c).bind fun j=>
 (Ae .none .add b (.int .i64 1)).bind fun k=>
 (Ae .none .neq j k).bind fun l=>
 Ak l (
 rP d (.bool false) c) (
 (Ae .none .add b (.int .i64 1)).bind fun m=>
 f [e,a,m] c)) (
 (A2 a).bind fun n=>
 (A2 e).bind fun o=>
 (Ae .none .eql n o).bind fun p=>
 rP d p c)
noncomputable def Sh.f5g (b:Aa) (f:LK) (a e d:Ab) (c:Aa):Out:=
 (A2 a).bind fun g=>
 (Ae .none .lss d g).bind fun h=>
 Ak h (
 (Ae .none .add d (.int .i64 1)).bind fun i=>
 (At 1 e i).bind fun j=>
 (Ac false 1 j c).bind fun k=>
 Ak k (
 rP b (.bool false) c) (
 An (fun l vs H=>Sh.f5e b f l (ag vs 0) (ag vs 1) (ag vs 2) (ag vs 3) H) AM [a,e,d,(.int .i64 0)] c)) (
 (A2 a).bind fun m=>
 bP b (Sh.fl AM a m (.sl [] .tight) c) fun n o=>
 An (fun p vs H=>Sh.f5f b p (ag vs 0) (ag vs 1) (ag vs 2) H) AM [a,n,(.int .i64 0)] o)
noncomputable def Sh.f3i (g:Ab) (a:Aa):Out:=
 Ao (B2 true 1 g a) fun h d=>
 (Ad 0 h).bind fun i=>
 (Ac false 1 i d).bind fun b=>
 (A2 b).bind fun j=>
 (Ae .none .eql j (.int .i64 0)).bind fun k=>
 Ak k (
 rP a (.bool true) d) (
 bP a (Sh.f3g b d) fun l e=>
 (unA .not l).bind fun c=>
 gk c false (some b) fun m=>
 gk c false (some b) fun n=>
 gk c false (A2 n) fun o=>
 gbP a c false e (Sh.f3h m o e) fun p f=>
 (AG c (.bool true) p).bind fun q=>
 Ak q (
 rP a (.bool false) f) (
 bP a (Sh.f1f b f) fun r s=>
 An (fun t vs H=>Sh.f5g a t (ag vs 0) (ag vs 1) (ag vs 2) H) AM [b,r,(.int .i64 0)] s))
noncomputable def Sh.f3j (f:Ab) (a:Aa):Out:=
 Ao (B2 true 2 f a) fun d e=>
 (Ad 0 d).bind fun g=>
 (Ac false 1 g e).bind fun h=>
 bP a (Sh.f3f h e) fun b c=>
 gk b true (Ad 1 d) fun i=>
 gk b true (Ac true 1 i c) fun j=>
 gbP a b true c (Sh.f3i j c) fun k l=>
 (AG b k (.bool false)).bind fun m=>
 rP a m l
noncomputable def Sh.f1x (g:Ab) (f:Aa):Out:=
 Ao (B2 true 2 g f) fun b a=>
 (Ad 0 b).bind fun h=>
 (Ac false 1 h a).bind fun i=>
 (Ae .none .geq i (.int .i64 0)).bind fun c=>
 gk c true (Ad 0 b) fun j=>
 gk c true (Ac false 1 j a) fun k=>
 gk c true (Ae .none .leq k (.int .i64 1000)) fun l=>
 (AG c l (.bool false)).bind fun d=>
 gk d true (Ad 1 b) fun m=>
 gk d true (Ac false 1 m a) fun n=>
 gk d true (Ae .none .geq n (.int .i64 0)) fun o=>
 (AG d o (.bool false)).bind fun e=>
 gk e true (Ad 1 b) fun p=>
 gk e true (Ac false 1 p a) fun q=>
 gk e true (Ae .none .leq q (.int .i64 100000)) fun r=>
 (AG e r (.bool false)).bind fun s=>
 rP f s a
noncomputable def Sh.f5h (d:Aa) (e:LK) (b:Ab) (c:Aa):Out:=
 (A2 b).bind fun f=>
 (Ae .none .gtr f (.int .i64 0)).bind fun a=>
 gk a true (some b) fun g=>
 gk a true (some b) fun h=>
 gk a true (A2 h) fun i=>
 gk a true (Ae .none .sub i (.int .i64 1)) fun j=>
 gk a true (At 1 g j) fun k=>
 gk a true (Ac false 1 k c) fun l=>
 gk a true (unA .not l) fun m=>
 (AG a m (.bool false)).bind fun n=>
 Ak n (
 (A2 b).bind fun o=>
 (Ae .none .sub o (.int .i64 1)).bind fun p=>
 (Bn 1 b none (some p) none).bind fun q=>
 e [q] c) (
 rKN d b c)
noncomputable def Sh.fw (b:Ab) (a:Aa):Out:=
 An (fun c vs H=>Sh.f5h a c (ag vs 0) H) AM [b] a
noncomputable def Sh.f6j (g:Aa) (h:LK) (i:LK) (a b c d e:Ab) (f:Aa):Out:=
 (Ae .none .lss e (.int .i64 32)).bind fun j=>
 Ak j (
 (Ae .none .rem d (.int .u32 2)).bind fun k=>
 (Ae .none .eql k (.int .u32 1)).bind fun l=>
 (AQ 1 [l]).bind fun m=>
 bP g (Cb (AW BE 1 1 b m f)) fun n o=>
 (Ae .none .quo d (.int .u32 2)).bind fun p=>
 (Ae .none .add e (.int .i64 1)).bind fun q=>
 i [a,n,c,p,q] o) (
 (Ae .none .add c (.int .i64 1)).bind fun r=>
 h [a,b,r] f)
noncomputable def Sh.f4g (a:Aa) (f:LK) (b e c:Ab) (d:Aa):Out:=
 (A2 b).bind fun g=>
 (Ae .none .lss c g).bind fun h=>
 Ak h (
 (At 1 b c).bind fun i=>
 (Ac false 1 i d).bind fun j=>
 An (fun k vs H=>Sh.f6j a f k (ag vs 0) (ag vs 1) (ag vs 2) (ag vs 3) (ag vs 4) H) AM [b,e,c,j,(.int .i64 0)] d) (
 bP a (Sh.fw e d) fun l m=>
 rPN a l m)
noncomputable def Sh.f2 (b:Ab) (a:Aa):Out:=
 An (fun c vs H=>Sh.f4g a c (ag vs 0) (ag vs 1) (ag vs 2) H) AM [b,(.sl [] .tight),(.int .i64 0)] a
noncomputable def Sh.f6k (k:Aa) (a:LK) (b c d e f g:Ab) (h:Aa):Out:=
 (Ae .none .mul f (.int .u32 2)).bind fun i=>
 (Ae .none .add g (.int .i64 1)).bind fun j=>
 a [b,c,d,e,i,j] h
noncomputable def Sh.f6x (i:Aa) (j:LK) (k:LK) (a f d g h b:Ab) (e:Aa):Out:=
 (A2 a).bind fun l=>
 (Ae .none .lss b l).bind fun c=>
 gk c true (some b) fun m=>
 gk c true (some d) fun n=>
 gk c true (Ae .none .add n (.int .i64 32)) fun o=>
 gk c true (Ae .none .lss m o) fun p=>
 (AG c p (.bool false)).bind fun q=>
 Ak q (
 AJ (fun j3=>
 (At 1 a b).bind fun r=>
 (Ac false 1 r e).bind fun s=>
 Ak s (
 (Ae .none .add g h).bind fun t=>
 j3 [a,f,d,t,h,b] e) (
 j3 [a,f,d,g,h,b] e)) (fun vs H=>Sh.f6k i k (ag vs 0) (ag vs 1) (ag vs 2) (ag vs 3) (ag vs 4) (ag vs 5) H)) (
 (AQ 1 [g]).bind fun u=>
 bP i (Cb (AW BG 1 4 f u e)) fun v w=>
 (Ae .none .add d (.int .i64 32)).bind fun x=>
 j [a,v,x] w)
noncomputable def Sh.f5i (b:Aa) (f:LK) (c d a:Ab) (e:Aa):Out:=
 (A2 c).bind fun g=>
 (Ae .none .lss a g).bind fun h=>
 Ak h (
 An (fun i vs H=>Sh.f6x b f i (ag vs 0) (ag vs 1) (ag vs 2) (ag vs 3) (ag vs 4) (ag vs 5) H) AM [c,d,a,(.int .u32 0),(.int .u32 1),a] e) (
 rPN b d e)
noncomputable def Sh.fc (b:Ab) (a:Aa):Out:=
 bP a (Sh.fw b a) fun c d=>
 An (fun e vs H=>Sh.f5i a e (ag vs 0) (ag vs 1) (ag vs 2) H) AM [c,(.sl [] .tight),(.int .i64 0)] d
noncomputable def Sh.fr (b:Ab) (a:Aa):Out:=
 bK a (Sh.f2 b a) fun c d=>
 bK a (Sh.fc c d) fun e f=>
 rKN a e f
noncomputable def Sh.f7 (a f:Ab) (b:Aa):Out:=
 Ao (A3 (some [(.bool false),(.sl [] .tight)]) b) fun c g=>
 bP b (Sh.fr f g) fun d h=>
 gk a true (some d) fun i=>
 gk a true (A2 i) fun j=>
 gk a true (Ae .none .gtr j (.int .i64 0)) fun k=>
 (AG a k (.bool false)).bind fun l=>
 (AB (some [(.bool false),(.sl [] .tight)]) [(0,1,l),(1,1,d)]).bind fun m=>
 bP b (AH (Ah 2 c m h)) fun _ e=>
 (Ac true 2 c e).bind fun n=>rPN b n e
noncomputable def Sh.f6l (a:Aa) (e b c:Ab) (f:Aa):Out:=
 (Ae .none .lss e (.int .i64 0)).bind fun g=>
 (Ae .none .rem c (.int .u64 4294967296)).bind fun h=>
 (A9 .u32 h).bind fun i=>
 (Ae .none .quo c (.int .u64 4294967296)).bind fun j=>
 (A9 .u32 j).bind fun k=>
 (AQ 1 [i,k]).bind fun l=>
 bP a (Sh.f7 g l f) fun m n=>
 bP a (AH (Ah 2 b m n)) fun _ d=>
 (Ac true 2 b d).bind fun o=>rPN a o d
noncomputable def Sh.fd (a:Ab) (b:Aa):Out:=
 Ao (A3 (some [(.bool false),(.sl [] .tight)]) b) fun c d=>
 (A9 .u64 a).bind fun e=>
 AJ (fun j1=>
 (Ae .none .lss a (.int .i64 0)).bind fun f=>
 Ak f (
 (unA .neg e).bind fun g=>
 j1 [a,c,g] d) (
 j1 [a,c,e] d)) (fun vs H=>Sh.f6l b (ag vs 0) (ag vs 1) (ag vs 2) H)
noncomputable def Sh.f3k (d a:Ab) (b:Aa):Out:=
 (Ae .none .lss a (.int .i64 0)).bind fun c=>
 gk c false (some a) fun e=>
 gk c false (Ae .none .gtr e (.int .i64 10000)) fun f=>
 (AG c (.bool true) f).bind fun g=>
 Ak g (
 rPN b (.sl [] .tight) b) (
 AZ (Sh.f2 d b) fun h i=>
 Ao (Fh 1 1 (some [(.bool false)]) a a i) fun j k=>
 AZ (Cb (AW BE 1 1 j h k)) fun l m=>
 AZ (Sh.fc l m) fun n o=>
 rPN b n o)
noncomputable def Sh.f3l (i j:Ab) (a:Aa):Out:=
 Ao (B2 true 2 i a) fun d k=>
 Ao (A3 (some [(.bool false),(.sl [] .tight)]) k) fun e b=>
 (Ad 1 d).bind fun l=>
 bC (Ac false 1 l b) (fun _=>True) fun m=>
 AZ (Sh.f3k m j b) fun n f=>
 (Ad 0 d).bind fun g=>
 bC (Ac false 1 g f) (fun c=>Ac false 1 g b=some c∧True) fun c=>
 AZ (Sh.f7 c n f) fun o p=>
 bP a (AH (Ah 2 e o p)) fun _ h=>
 (Ac true 2 e h).bind fun q=>rPN a q h
noncomputable def Sh.ff (d:Ab) (a:Aa):Out:=
 Ao (A3 (some [(.bool false),(.sl [] .tight)]) a) fun b e=>
 bP a (Sh.fd (.int .i64 1) e) fun f g=>
 bP a (Sh.f3l f d g) fun h i=>
 bP a (AH (Ah 2 b h i)) fun _ c=>
 (Ac true 2 b c).bind fun j=>rPN a j c
noncomputable def Sh.f4 (e c:Ab) (d:Aa):Out:=
 (Ae .none .geq c (.int .i64 0)).bind fun a=>
 gk a true (some c) fun f=>
 gk a true (some e) fun g=>
 gk a true (A2 g) fun h=>
 gk a true (Ae .none .lss f h) fun i=>
 (AG a i (.bool false)).bind fun b=>
 gk b true (some e) fun j=>
 gk b true (some c) fun k=>
 gk b true (At 1 j k) fun l=>
 gk b true (Ac false 1 l d) fun m=>
 (AG b m (.bool false)).bind fun n=>
 rK d n d
noncomputable def Sh.f6y (b:Aa) (c:LK) (d e f g a:Ab) (h:Aa):Out:=
 (Ae .none .rem a (.int .i64 2)).bind fun i=>
 (Ae .none .eql i (.int .i64 1)).bind fun j=>
 (AQ 1 [j]).bind fun k=>
 bP b (Cb (AW BE 1 1 f k h)) fun l m=>
 (Ae .none .gtr a (.int .i64 1)).bind fun n=>
 (Ae .none .add g (.int .i64 1)).bind fun o=>
 c [d,e,l,n,o] m
noncomputable def Sh.f6z (g:Aa) (h:LK) (a b c i d e:Ab) (f:Aa):Out:=
 AJ (fun j4=>
 Ak i (
 (Ae .none .add e (.int .i64 1)).bind fun j=>
 j4 [a,b,c,d,j] f) (
 j4 [a,b,c,d,e] f)) (fun vs H=>Sh.f6y g h (ag vs 0) (ag vs 1) (ag vs 2) (ag vs 3) (ag vs 4) H)
noncomputable def Sh.f70 (c:Aa) (i:LK) (d a e f b g:Ab) (j:Aa):Out:=
 AJ (fun j3=>
 bP c (Sh.f4 a b j) fun k h=>
 Ak k (
 (Ae .none .add g (.int .i64 1)).bind fun l=>
 j3 [d,a,e,f,b,l] h) (
 j3 [d,a,e,f,b,g] h)) (fun vs H=>Sh.f6z c i (ag vs 0) (ag vs 1) (ag vs 2) (ag vs 3) (ag vs 4) (ag vs 5) H)
noncomputable def Sh.f71 (a:Aa) (i:LK) (b d e f c:Ab) (g:Aa):Out:=
 (A2 b).bind fun j=>
 (A2 d).bind fun k=>
 (GM IL j [k]).bind fun l=>
 (Ae .none .leq c l).bind fun m=>
 Ak m (
 AJ (fun j2=>
 bP a (Sh.f4 b c g) fun n h=>
 Ak n (
 (Ae .none .add (.int .i64 0) (.int .i64 1)).bind fun o=>
 j2 [b,d,e,f,c,o] h) (
 j2 [b,d,e,f,c,(.int .i64 0)] h)) (fun vs H=>Sh.f70 a i (ag vs 0) (ag vs 1) (ag vs 2) (ag vs 3) (ag vs 4) (ag vs 5) H)) (
 bP a (Sh.fc e g) fun p q=>
 rPN a p q)
noncomputable def Sh.f3m (b c:Ab) (a:Aa):Out:=
 bP a (Sh.f2 b a) fun d e=>
 bP a (Sh.f2 c e) fun f g=>
 An (fun h vs H=>Sh.f71 a h (ag vs 0) (ag vs 1) (ag vs 2) (ag vs 3) (ag vs 4) H) AM [d,f,(.sl [] .tight),(.bool false),(.int .i64 0)] g
noncomputable def Sh.f72 (a:Aa) (h:LK) (c d b:Ab) (e:Aa):Out:=
 (Ae .none .geq b (.int .i64 0)).bind fun i=>
 Ak i (
 bK a (Sh.f4 c b e) fun j k=>
 bK a (Sh.f4 d b k) fun l f=>
 (Ae .bool .neq j l).bind fun m=>
 Ak m (
 bK a (Sh.f4 c b f) fun n g=>
 Ak n (
 rK a (.int .i64 1) g) (
 rK a (.int .i64 (-1)) g)) (
 (Ae .none .sub b (.int .i64 1)).bind fun o=>
 h [c,d,o] f)) (
 rK a (.int .i64 0) e)
noncomputable def Sh.f3n (d e:Ab) (a:Aa):Out:=
 bK a (Sh.f2 d a) fun b f=>
 bK a (Sh.f2 e f) fun c g=>
 (A2 b).bind fun h=>
 (A2 c).bind fun i=>
 (GM IL h [i]).bind fun j=>
 (Ae .none .sub j (.int .i64 1)).bind fun k=>
 An (fun l vs H=>Sh.f72 a l (ag vs 0) (ag vs 1) (ag vs 2) H) AM [b,c,k] g
noncomputable def Sh.f73 (a:Aa) (b:LK) (c d e f g h:Ab) (i:Aa):Out:=
 (Ae .none .eql h (.int .i64 1)).bind fun j=>
 (AQ 1 [j]).bind fun k=>
 bP a (Cb (AW BE 1 1 e k i)) fun l m=>
 (Ae .none .add g (.int .i64 1)).bind fun n=>
 b [c,d,l,f,n] m
noncomputable def Sh.f74 (g:Aa) (h:LK) (b c d e a:Ab) (f:Aa):Out:=
 AJ (fun j4=>
 (Ae .none .lss a (.int .i64 0)).bind fun i=>
 Ak i (
 (Ae .none .add a (.int .i64 2)).bind fun j=>
 j4 [b,c,d,(.int .i64 1),e,j] f) (
 j4 [b,c,d,(.int .i64 0),e,a] f)) (fun vs H=>Sh.f73 g h (ag vs 0) (ag vs 1) (ag vs 2) (ag vs 3) (ag vs 4) (ag vs 5) H)
noncomputable def Sh.f75 (c:Aa) (h:LK) (d a e b f:Ab) (i:Aa):Out:=
 AJ (fun j3=>
 bP c (Sh.f4 a b i) fun j g=>
 Ak j (
 (Ae .none .sub f (.int .i64 1)).bind fun k=>
 j3 [d,a,e,b,k] g) (
 j3 [d,a,e,b,f] g)) (fun vs H=>Sh.f74 c h (ag vs 0) (ag vs 1) (ag vs 2) (ag vs 3) (ag vs 4) H)
noncomputable def Sh.f76 (a:Aa) (i:LK) (b e d j c:Ab) (f:Aa):Out:=
 (A2 b).bind fun k=>
 (Ae .none .lss c k).bind fun l=>
 Ak l (
 (unA .neg j).bind fun g=>
 AJ (fun j2=>
 bP a (Sh.f4 b c f) fun m h=>
 Ak m (
 (Ae .none .add g (.int .i64 1)).bind fun n=>
 j2 [b,e,d,c,n] h) (
 j2 [b,e,d,c,g] h)) (fun vs H=>Sh.f75 a i (ag vs 0) (ag vs 1) (ag vs 2) (ag vs 3) (ag vs 4) H)) (
 bP a (Sh.fc d f) fun o p=>
 rPN a (.tup [o,(.bool true)]) p)
noncomputable def Sh.f1y (b c:Ab) (a:Aa):Out:=
 bP a (Sh.f3n b c a) fun e d=>
 (Ae .none .lss e (.int .i64 0)).bind fun f=>
 Ak f (
 rPN a (.tup [(.sl [] .tight),(.bool false)]) d) (
 bP a (Sh.f2 b d) fun g h=>
 bP a (Sh.f2 c h) fun i j=>
 An (fun k vs H=>Sh.f76 a k (ag vs 0) (ag vs 1) (ag vs 2) (ag vs 3) (ag vs 4) H) AM [g,i,(.sl [] .tight),(.int .i64 0),(.int .i64 0)] j)
noncomputable def Sh.f1 (p q:Ab) (a:Aa):Out:=
 Ao (B2 true 2 p a) fun c r=>
 Ao (B2 true 2 q r) fun e s=>
 Ao (A3 (some [(.bool false),(.sl [] .tight)]) s) fun d b=>
 (Ad 0 c).bind fun t=>
 (Ac false 1 t b).bind fun u=>
 (Ad 0 e).bind fun v=>
 (Ac false 1 v b).bind fun w=>
 (Ae .bool .eql u w).bind fun x=>
 Ak x (
 (Ad 1 c).bind fun y=>
 bC (Ac false 1 y b) (fun _=>True) fun z=>
 (Ad 1 e).bind fun aa=>
 bC (Ac false 1 aa b) (fun _=>True) fun ab=>
 AZ (Sh.f3m z ab b) fun ac h=>
 (Ad 0 c).bind fun i=>
 bC (Ac false 1 i h) (fun g=>Ac false 1 i b=some g∧True) fun g=>
 AZ (Sh.f7 g ac h) fun ad ae=>
 bP a (AH (Ah 2 d ad ae)) fun _ j=>
 (Ac true 2 d j).bind fun aj=>rPN a aj j) (
 (Ad 1 c).bind fun ak=>
 (Ac false 1 ak b).bind fun al=>
 (Ad 1 e).bind fun am=>
 (Ac false 1 am b).bind fun an=>
 bP a (Sh.f1y al an b) fun k f=>
 (Az 0 k).bind fun ap=>
 (Az 1 k).bind fun aq=>
 Ak aq (
 (Ad 0 c).bind fun ar=>
 (Ac false 1 ar f).bind fun au=>
 bP a (Sh.f7 au ap f) fun av aw=>
 bP a (AH (Ah 2 d av aw)) fun _ l=>
 (Ac true 2 d l).bind fun ax=>rPN a ax l) (
 (Ad 1 e).bind fun ay=>
 (Ac false 1 ay f).bind fun az=>
 (Ad 1 c).bind fun a0=>
 (Ac false 1 a0 f).bind fun a1=>
 bP a (Sh.f1y az a1 f) fun m n=>
 (Az 0 m).bind fun a2=>
 (Az 1 m).bind fun a8=>
 (Ad 0 e).bind fun a3=>
 (Ac false 1 a3 n).bind fun a4=>
 bP a (Sh.f7 a4 a2 n) fun a5 a6=>
 bP a (AH (Ah 2 d a5 a6)) fun _ o=>
 (Ac true 2 d o).bind fun a7=>rPN a a7 o))
noncomputable def Sh.fi (f:Ab) (a:Aa):Out:=
 Ao (B2 true 2 f a) fun c g=>
 Ao (A3 (some [(.bool false),(.sl [] .tight)]) g) fun d b=>
 (Ad 0 c).bind fun h=>
 (Ac false 1 h b).bind fun i=>
 (unA .not i).bind fun j=>
 (Ad 1 c).bind fun k=>
 (Ac false 1 k b).bind fun l=>
 bP a (Sh.f7 j l b) fun m n=>
 bP a (AH (Ah 2 d m n)) fun _ e=>
 (Ac true 2 d e).bind fun o=>rPN a o e
noncomputable def Sh.fm (h i:Ab) (a:Aa):Out:=
 Ao (B2 true 2 h a) fun d j=>
 Ao (B2 true 2 i j) fun k l=>
 Ao (A3 (some [(.bool false),(.sl [] .tight)]) l) fun e b=>
 bC (Ac true 2 k b) (fun _=>True) fun m=>
 AZ (Sh.fi m b) fun n f=>
 bC (Ac true 2 d f) (fun c=>Ac true 2 d b=some c∧True) fun c=>
 AZ (Sh.f1 c n f) fun o p=>
 bP a (AH (Ah 2 e o p)) fun _ g=>
 (Ac true 2 e g).bind fun q=>rPN a q g
noncomputable def Sh.f8 (e f:Ab) (a:Aa):Out:=
 Ao (B2 true 2 e a) fun g h=>
 Ao (B2 true 2 f h) fun i c=>
 (Ac true 2 g c).bind fun j=>
 (Ac true 2 i c).bind fun k=>
 bP a (Sh.fm j k c) fun l m=>
 Ao (A3 (some [(.bool false),(.sl [] .tight)]) m) fun d n=>
 bP a (AH (Ah 2 d l n)) fun _ b=>
 (Ad 1 d).bind fun o=>
 (Ac false 1 o b).bind fun p=>
 (A2 p).bind fun q=>
 (Ae .none .eql q (.int .i64 0)).bind fun r=>
 Ak r (
 rP a (.int .i64 0) b) (
 (Ad 0 d).bind fun s=>
 (Ac false 1 s b).bind fun t=>
 Ak t (
 rP a (.int .i64 (-1)) b) (
 rP a (.int .i64 1) b))
noncomputable def Sh.f1z (l:Aa) (a:LK) (b c d e f g h i:Ab) (j:Aa):Out:=
 (Ae .none .add i (.int .i64 1)).bind fun k=>
 a [b,c,d,e,f,g,h,k] j
noncomputable def Sh.f4h (m:Aa) (j3:LK) (f g h b c i j k l:Ab) (d:Aa):Out:=
 (unA .not j).bind fun a=>
 gkc a false (Ac true 2 l d) (fun _ _=>True) fun n=>
 gk a false (some b) fun o=>
 gk a false (some c) fun p=>
 gk a false (Ae .none .add p (.int .i64 1)) fun q=>
 gk a false (At 2 o q) fun r=>
 gkc a false (Ac true 2 r d) (fun _ _=>True) fun s=>
 gbN a false d (Sh.f8 n s d) fun t e=>
 gk a false (Ae .none .lss t (.int .i64 0)) fun u=>
 (AG a (.bool true) u).bind fun v=>
 Ak v (
 (Ae .none .add c (.int .i64 1)).bind fun w=>
 bC (Ac true 2 l e) (fun _=>True) fun x=>
 (At 2 b w).bind fun y=>
 bP m (AH (Ah 2 y x e)) fun _ z=>
 j3 [f,g,h,b,c,i,(.bool true),k] z) (
 j3 [f,g,h,b,c,i,j,k] e)
noncomputable def Sh.f5j (g:Aa) (j3:LK) (a h i d b j k l o m:Ab) (e:Aa):Out:=
 (At 5 a b).bind fun p=>
 (Ad 1 p).bind fun q=>
 (BZ 4 1 q o).bind fun r=>
 (Ac false 1 r e).bind fun n=>
 (Ae .none .eql n (.int .i64 0)).bind fun s=>
 Ak s (
 j3 [a,h,i,d,b,j,k,l] e) (
 (Ac true 2 m e).bind fun t=>
 Ao (A3 (some [(.bool false),(.sl [] .tight)]) e) fun f u=>
 bP g (AH (Ah 2 f t u)) fun _ c=>
 AJ (fun j5=>
 (At 5 a b).bind fun v=>
 (Ad 0 v).bind fun w=>
 (Ac false 1 w c).bind fun x=>
 (Ae .none .gtr x (.int .i64 1)).bind fun y=>
 Ak y (
 bC (Ac true 2 m c) (fun _=>True) fun z=>
 (At 2 d n).bind fun aa=>
 bC (Ac true 2 aa c) (fun _=>True) fun ab=>
 AZ (Sh.f1 z ab c) fun ac ad=>
 bP g (AH (Ah 2 f ac ad)) fun _ ae=>
 j5 [a,h,i,d,b,j,k,l,f] ae) (
 j5 [a,h,i,d,b,j,k,l,f] c)) (fun vs H=>Sh.f4h g j3 (ag vs 0) (ag vs 1) (ag vs 2) (ag vs 3) (ag vs 4) (ag vs 5) (ag vs 6) (ag vs 7) (ag vs 8) H))
noncomputable def Sh.f5k (b:Aa) (m:LK) (n:LK) (g c d h i j l a:Ab) (k:Aa):Out:=
 (Ae .none .lss a (.int .i64 4)).bind fun o=>
 Ak o (
 AJ (fun j3=>
 (Ae .none .rem a (.int .i64 2)).bind fun p=>
 (BZ 2 1 c p).bind fun q=>
 (Ac false 1 q k).bind fun r=>
 (AB (some [(.bool false),(.sl [] .tight)]) []).bind fun s=>
 Ao (A3 (some [(.bool false),(.sl [] .tight)]) k) fun e t=>
 bP b (AH (Ah 2 e s t)) fun _ f=>
 AJ (fun j4=>
 (Ae .none .gtr a (.int .i64 1)).bind fun u=>
 Ak u (
 (Ae .none .rem a (.int .i64 2)).bind fun v=>
 (BZ 2 1 d v).bind fun w=>
 bC (Ac false 1 w f) (fun _=>True) fun x=>
 bC (Ac true 2 j f) (fun _=>True) fun y=>
 bP b (AH (Ah 2 e y f)) fun _ z=>
 j4 [g,c,d,h,i,j,l,a,x,e] z) (
 j4 [g,c,d,h,i,j,l,a,r,e] f)) (fun vs H=>Sh.f5j b j3 (ag vs 0) (ag vs 1) (ag vs 2) (ag vs 3) (ag vs 4) (ag vs 5) (ag vs 6) (ag vs 7) (ag vs 8) (ag vs 9) H)) (fun vs H=>Sh.f1z b n (ag vs 0) (ag vs 1) (ag vs 2) (ag vs 3) (ag vs 4) (ag vs 5) (ag vs 6) (ag vs 7) H)) (
 (Ae .none .add i (.int .i64 1)).bind fun aa=>
 m [g,c,d,h,aa] k)
noncomputable def Sh.f5l (a:Aa) (g:LK) (b h i e c:Ab) (d:Aa):Out:=
 (A2 b).bind fun j=>
 (Ae .none .lss c j).bind fun k=>
 Ak k (
 (At 5 b c).bind fun l=>
 (Ad 0 l).bind fun m=>
 (Ac false 1 m d).bind fun n=>
 (Ae .none .sub n (.int .i64 1)).bind fun o=>
 bP a (Sh.ff o d) fun p q=>
 Ao (A3 (some [(.bool false),(.sl [] .tight)]) q) fun f r=>
 bP a (AH (Ah 2 f p r)) fun _ s=>
 An (fun t vs H=>Sh.f5k a g t (ag vs 0) (ag vs 1) (ag vs 2) (ag vs 3) (ag vs 4) (ag vs 5) (ag vs 6) (ag vs 7) H) AM [b,h,i,e,c,f,(.bool false),(.int .i64 0)] s) (
 rPN a e d)
noncomputable def Sh.fx (a d e:Ab) (b:Aa):Out:=
 Ao (B2 true 2 d b) fun f g=>
 Ao (B2 true 2 e g) fun h i=>
 (A2 a).bind fun j=>
 (Ae .none .add j (.int .i64 1)).bind fun c=>
 Ao (Fh 2 32 (some [(.bool false),(.sl [] .tight)]) c c i) fun k l=>
 An (fun m vs H=>Sh.f5l b m (ag vs 0) (ag vs 1) (ag vs 2) (ag vs 3) (ag vs 4) H) AM [a,f,h,k,(.int .i64 0)] l
noncomputable def Sh.fy (d:Ab) (b:Aa):Out:=
 Ao (B2 true 1 d b) fun c a=>
 (Ad 0 c).bind fun e=>
 (Ac false 1 e a).bind fun f=>
 (A2 f).bind fun g=>
 (Ae .none .eql g (.int .i64 0)).bind fun h=>
 Ak h (
 rP b (.int .i64 0) a) (
 (Ad 0 c).bind fun i=>
 (Ac false 1 i a).bind fun j=>
 (Ad 0 c).bind fun k=>
 (Ac false 1 k a).bind fun l=>
 (A2 l).bind fun m=>
 (Ae .none .sub m (.int .i64 1)).bind fun n=>
 (At 5 j n).bind fun o=>
 (Ad 0 o).bind fun p=>
 (Ac false 1 p a).bind fun q=>
 rP b q a)
noncomputable def Sh.f1g (ap:Ab) (a:Aa):Out:=
 Ao (B2 true 1 ap a) fun h aq=>
 Ao (A3 (some [(.bool false),(.sl [] .tight),(.bool false),(.sl [] .tight),(.bool false),(.sl [] .tight),(.bool false),(.sl [] .tight)]) aq) fun p q=>
 (Ad 0 h).bind fun ar=>
 (Ac false 1 ar q).bind fun au=>
 (A2 au).bind fun l=>
 (Ae .none .eql l (.int .i64 0)).bind fun av=>
 Ak av (
 (AB (some [(.bool false),(.sl [] .tight),(.bool false),(.sl [] .tight),(.bool false),(.sl [] .tight),(.bool false),(.sl [] .tight)]) []).bind fun aw=>
 bP a (AH (Ah 8 p aw q)) fun _ y=>
 (IF [Ac true 8 p y,some (.bool false)]).bind fun ax=>rPN a ax y) (
 (Ad 0 h).bind fun ay=>
 (Ac false 1 ay q).bind fun az=>
 (AB (some [(.int .i64 0),(.int .i64 0)]) [(0,1,(.int .i64 0)),(1,1,(.int .i64 2))]).bind fun a0=>
 (AB (some [(.int .i64 0),(.int .i64 0)]) [(0,1,(.int .i64 1)),(1,1,(.int .i64 3))]).bind fun a1=>
 bP a (Sh.fx az a0 a1 q) fun a2 z=>
 (At 2 a2 l).bind fun a3=>
 (Ac true 2 a3 z).bind fun a4=>
 Ao (A3 (some [(.bool false),(.sl [] .tight)]) z) fun m a5=>
 bP a (AH (Ah 2 m a4 a5)) fun _ aa=>
 (Ad 0 h).bind fun a6=>
 (Ac false 1 a6 aa).bind fun a7=>
 (AB (some [(.int .i64 0),(.int .i64 0)]) [(0,1,(.int .i64 1)),(1,1,(.int .i64 3))]).bind fun a8=>
 (AB (some [(.int .i64 0),(.int .i64 0)]) [(0,1,(.int .i64 0)),(1,1,(.int .i64 2))]).bind fun a9=>
 bP a (Sh.fx a7 a8 a9 aa) fun ba ab=>
 (At 2 ba l).bind fun bb=>
 (Ac true 2 bb ab).bind fun bc=>
 Ao (A3 (some [(.bool false),(.sl [] .tight)]) ab) fun r bd=>
 bP a (AH (Ah 2 r bc bd)) fun _ ac=>
 (Ad 0 h).bind fun be=>
 (Ac false 1 be ac).bind fun bg=>
 (AB (some [(.int .i64 0),(.int .i64 0)]) [(0,1,(.int .i64 0)),(1,1,(.int .i64 1))]).bind fun bj=>
 (AB (some [(.int .i64 0),(.int .i64 0)]) [(0,1,(.int .i64 2)),(1,1,(.int .i64 3))]).bind fun bk=>
 bP a (Sh.fx bg bj bk ac) fun bl ad=>
 (At 2 bl l).bind fun bm=>
 (Ac true 2 bm ad).bind fun bp=>
 Ao (A3 (some [(.bool false),(.sl [] .tight)]) ad) fun e bq=>
 bP a (AH (Ah 2 e bp bq)) fun _ ae=>
 (Ad 0 h).bind fun br=>
 (Ac false 1 br ae).bind fun bt=>
 (AB (some [(.int .i64 0),(.int .i64 0)]) [(0,1,(.int .i64 2)),(1,1,(.int .i64 3))]).bind fun bu=>
 (AB (some [(.int .i64 0),(.int .i64 0)]) [(0,1,(.int .i64 0)),(1,1,(.int .i64 1))]).bind fun bv=>
 bP a (Sh.fx bt bu bv ae) fun bw aj=>
 (At 2 bw l).bind fun bz=>
 (Ac true 2 bz aj).bind fun b0=>
 Ao (A3 (some [(.bool false),(.sl [] .tight)]) aj) fun i b1=>
 bP a (AH (Ah 2 i b0 b1)) fun _ ak=>
 (Ac true 1 h ak).bind fun b2=>
 bP a (Sh.fy b2 ak) fun al b3=>
 bP a (Sh.ff al b3) fun b4 b5=>
 (Ae .none .sub al (.int .i64 1)).bind fun b6=>
 bP a (Sh.ff b6 b5) fun b7 b8=>
 bP a (Sh.fi b7 b8) fun b9 ca=>
 Ao (A3 (some [(.bool false),(.sl [] .tight)]) ca) fun b cb=>
 Ao (A3 (some [(.bool false),(.sl [] .tight)]) cb) fun s cc=>
 bP a (AH (Ah 2 b b4 cc)) fun _ cd=>
 bP a (AH (Ah 2 s b9 cd)) fun _ c=>
 bC (Ac true 2 s c) (fun _=>True) fun ce=>
 bC (Ac true 2 m c) (fun _=>True) fun cg=>
 AZ (Sh.f1 ce cg c) fun cj d=>
 bC (Ac true 2 s d) (fun w=>Ac true 2 s c=some w∧True) fun w=>
 bC (Ac true 2 e d) (fun x=>Ac true 2 e c=some x∧True) fun x=>
 AZ (Sh.f1 w x d) fun ck f=>
 bC (Ac true 2 m f) (fun t=>Ac true 2 m d=some t∧Ac true 2 m c=some t∧True) fun t=>
 bC (Ac true 2 r f) (fun u=>Ac true 2 r d=some u∧Ac true 2 r c=some u∧True) fun u=>
 AZ (Sh.f1 t u f) fun cl n=>
 bC (Ac true 2 b n) (fun o=>Ac true 2 b f=some o∧Ac true 2 b d=some o∧Ac true 2 b c=some o∧True) fun o=>
 AZ (Sh.fm o cl n) fun cm v=>
 bC (Ac true 2 e v) (fun j=>Ac true 2 e n=some j∧Ac true 2 e f=some j∧Ac true 2 e d=some j∧Ac true 2 e c=some j∧True) fun j=>
 bC (Ac true 2 i v) (fun k=>Ac true 2 i n=some k∧Ac true 2 i f=some k∧Ac true 2 i d=some k∧Ac true 2 i c=some k∧True) fun k=>
 AZ (Sh.f1 j k v) fun cn am=>
 bC (Ac true 2 b am) (fun g=>Ac true 2 b v=some g∧Ac true 2 b n=some g∧Ac true 2 b f=some g∧Ac true 2 b d=some g∧Ac true 2 b c=some g∧True) fun g=>
 AZ (Sh.fm g cn am) fun cp cq=>
 (AB (some [(.bool false),(.sl [] .tight),(.bool false),(.sl [] .tight),(.bool false),(.sl [] .tight),(.bool false),(.sl [] .tight)]) [(0,2,cj),(2,2,ck),(4,2,cm),(6,2,cp)]).bind fun cr=>
 AZ (AH (Ah 8 p cr cq)) fun _ an=>
 (IF [Ac true 8 p an,some (.bool true)]).bind fun ct=>rPN a ct an)
noncomputable def Sh.f3o (p i:Ab) (c:Aa):Out:=
 Ao (B2 true 1 p c) fun q j=>
 (Ac true 1 q j).bind fun r=>
 bP c (Sh.f1g r j) fun k s=>
 (Az 0 k).bind fun t=>
 (Az 1 k).bind fun ad=>
 Ao (A3 (some [(.bool false),(.sl [] .tight),(.bool false),(.sl [] .tight),(.bool false),(.sl [] .tight),(.bool false),(.sl [] .tight)]) s) fun d u=>
 bP c (AH (Ah 8 d t u)) fun _ l=>
 AZ (Sh.fd i l) fun v m=>
 (Ad 4 d).bind fun n=>
 bC (Ac true 2 n m) (fun e=>Ac true 2 n l=some e∧True) fun e=>
 AZ (Sh.f8 e v m) fun w f=>
 (Ae .none .leq w (.int .i64 0)).bind fun a=>
 gk a true (some i) fun x=>
 gbN a true f (Sh.fd x f) fun y g=>
 gk a true (Ad 6 d) fun o=>
 gkc a true (Ac true 2 o g) (fun b h=>gR b (Ac true 2 o f)=some h∧True) fun h=>
 gbN a true g (Sh.f8 h y g) fun z aa=>
 gk a true (Ae .none .leq z (.int .i64 0)) fun ab=>
 (AG a ab (.bool false)).bind fun ac=>
 rP c ac aa
noncomputable def Sh.f4i (z:Aa) (g:LK) (h:LK) (c f d e:Ab) (b:Aa):Out:=
 (Ae .none .lss e (.int .i64 4)).bind fun a=>
 gk a true (Ad 0 c) fun i=>
 gk a true (Ac false 1 i b) fun j=>
 gk a true (some d) fun k=>
 gk a true (At 5 j k) fun l=>
 gk a true (Ad 0 l) fun m=>
 gk a true (Ac false 1 m b) fun n=>
 gk a true (Ae .none .eql n (.int .i64 1)) fun o=>
 (AG a o (.bool false)).bind fun p=>
 Ak p (
 (Ad 0 c).bind fun q=>
 (Ac false 1 q b).bind fun r=>
 (At 5 r d).bind fun s=>
 (Ad 1 s).bind fun t=>
 (BZ 4 1 t e).bind fun u=>
 (Ac false 1 u b).bind fun v=>
 (GM IL f [v]).bind fun w=>
 (Ae .none .add e (.int .i64 1)).bind fun x=>
 h [c,w,d,x] b) (
 (Ae .none .add d (.int .i64 1)).bind fun y=>
 g [c,f,y] b)
noncomputable def Sh.f5m (b:Aa) (f:LK) (c d e:Ab) (a:Aa):Out:=
 (Ad 0 c).bind fun g=>
 (Ac false 1 g a).bind fun h=>
 (A2 h).bind fun i=>
 (Ae .none .lss e i).bind fun j=>
 Ak j (
 An (fun k vs H=>Sh.f4i b f k (ag vs 0) (ag vs 1) (ag vs 2) (ag vs 3) H) AM [c,d,e,(.int .i64 0)] a) (
 (A9 .u8 d).bind fun l=>
 rP b l a)
noncomputable def Sh.f20 (b:Ab) (a:Aa):Out:=
 Ao (B2 true 1 b a) fun c d=>
 An (fun e vs H=>Sh.f5m a e (ag vs 0) (ag vs 1) (ag vs 2) H) AM [c,(.int .i64 0),(.int .i64 0)] d
noncomputable def Sh.f3p (e g h:Ab) (a:Aa):Out:=
 Ao (B2 true 2 g a) fun f i=>
 Ao (B2 true 2 h i) fun j c=>
 (Ae .none .eql e (.int .i64 5)).bind fun k=>
 Ak k (
 rP a (.bool true) c) (
 (Ad 1 f).bind fun l=>
 (Ac true 1 l c).bind fun m=>
 (Ad 0 j).bind fun n=>
 (Ac false 1 n c).bind fun o=>
 bP a (Sh.f3o m o c) fun p d=>
 (unA .not p).bind fun q=>
 Ak q (
 rP a (.bool false) d) (
 (Ae .none .eql e (.int .i64 4)).bind fun b=>
 gk b false (Ad 1 f) fun r=>
 gk b false (Ac true 1 r d) fun s=>
 gbP a b false d (Sh.f20 s d) fun t u=>
 gk b false (Ae .none .leq t (.int .u8 1)) fun v=>
 (AG b (.bool true) v).bind fun w=>
 rP a w u))
noncomputable def Sh.f3q (g k l:Ab) (a:Aa):Out:=
 Ao (B2 true 2 k a) fun h m=>
 Ao (B2 true 2 l m) fun i n=>
 bP a (Sh.f3d g n) fun o e=>
 (unA .not o).bind fun b=>
 gk b false (Ac true 2 h e) fun p=>
 gbP a b false e (Sh.f3j p e) fun q f=>
 gk b false (unA .not q) fun r=>
 (AG b (.bool true) r).bind fun c=>
 gk c false (Ac true 2 i f) fun s=>
 gbP a c false f (Sh.f1x s f) fun t d=>
 gk c false (unA .not t) fun u=>
 (AG c (.bool true) u).bind fun v=>
 Ak v (
 rP a (.int .i64 1) d) (
 (Ac true 2 h d).bind fun w=>
 (Ac true 2 i d).bind fun x=>
 bP a (Sh.f3p g w x d) fun y j=>
 (unA .not y).bind fun z=>
 Ak z (
 rP a (.int .i64 5) j) (
 rP a (.int .i64 0) j))
noncomputable def Sh.f5n (h:Aa) (a:LK) (b c d e:Ab) (f:Aa):Out:=
 (Ae .none .add e (.int .i64 1)).bind fun g=>
 a [b,c,d,g] f
noncomputable def Sh.f5o (f:Aa) (k:LK) (l:LK) (d b a e:Ab) (c:Aa):Out:=
 (Ae .none .lss e (.int .i64 4)).bind fun m=>
 Ak m (
 AJ (fun j3=>
 (At 5 d a).bind fun n=>
 (Ad 1 n).bind fun o=>
 (BZ 4 1 o e).bind fun p=>
 (Ac false 1 p c).bind fun h=>
 (At 5 d a).bind fun q=>
 (Ad 0 q).bind fun r=>
 (Ac false 1 r c).bind fun s=>
 (Ae .none .gtr s (.int .i64 1)).bind fun t=>
 Ak t (
 (Ae .none .add a (.int .i64 1)).bind fun u=>
 (At 2 b u).bind fun v=>
 bC (Ac true 2 v c) (fun _=>True) fun w=>
 (At 2 b h).bind fun x=>
 bC (Ac true 2 x c) (fun _=>True) fun y=>
 AZ (Sh.f1 w y c) fun z aa=>
 (Ae .none .add a (.int .i64 1)).bind fun ab=>
 (At 2 b ab).bind fun ac=>
 bP f (AH (Ah 2 ac z aa)) fun _ ad=>
 j3 [d,b,a,e] ad) (
 (Ae .none .gtr h (.int .i64 0)).bind fun ae=>
 Ak ae (
 AZ (Sh.fd (.int .i64 1) c) fun aj i=>
 (Ae .none .add a (.int .i64 1)).bind fun ak=>
 (At 2 b ak).bind fun j=>
 bC (Ac true 2 j i) (fun g=>Ac true 2 j c=some g∧True) fun g=>
 AZ (Sh.f1 g aj i) fun al am=>
 (Ae .none .add a (.int .i64 1)).bind fun an=>
 (At 2 b an).bind fun ap=>
 bP f (AH (Ah 2 ap al am)) fun _ aq=>
 j3 [d,b,a,e] aq) (
 j3 [d,b,a,e] c))) (fun vs H=>Sh.f5n f l (ag vs 0) (ag vs 1) (ag vs 2) (ag vs 3) H)) (
 (Ae .none .add a (.int .i64 1)).bind fun ar=>
 k [d,b,ar] c)
noncomputable def Sh.f5p (a:Aa) (f:LK) (b c d:Ab) (e:Aa):Out:=
 (A2 b).bind fun g=>
 (Ae .none .lss d g).bind fun h=>
 Ak h (
 An (fun i vs H=>Sh.f5o a f i (ag vs 0) (ag vs 1) (ag vs 2) (ag vs 3) H) AM [b,c,d,(.int .i64 0)] e) (
 rPN a c e)
noncomputable def Sh.f3r (a:Ab) (b:Aa):Out:=
 (A2 a).bind fun d=>
 (Ae .none .add d (.int .i64 1)).bind fun c=>
 Ao (Fh 2 32 (some [(.bool false),(.sl [] .tight)]) c c b) fun e f=>
 An (fun g vs H=>Sh.f5p b g (ag vs 0) (ag vs 1) (ag vs 2) H) AM [a,e,(.int .i64 0)] f
noncomputable def Sh.f3s (i:Ab) (a:Aa):Out:=
 Ao (B2 true 1 i a) fun e j=>
 Ao (A3 (some [(.bool false),(.sl [] .tight)]) j) fun f b=>
 (Ad 0 e).bind fun k=>
 bC (Ac false 1 k b) (fun _=>True) fun l=>
 AZ (Sh.f3r l b) fun m c=>
 (Ad 0 e).bind fun g=>
 bC (Ac false 1 g c) (fun d=>Ac false 1 g b=some d∧True) fun d=>
 (A2 d).bind fun n=>
 (At 2 m n).bind fun o=>
 bC (Ac true 2 o c) (fun _=>True) fun p=>
 bP a (AH (Ah 2 f p c)) fun _ h=>
 (Ac true 2 f h).bind fun q=>rPN a q h
noncomputable def Sh.f3t (k:Aa) (a:LK) (b c d e f g h:Ab) (i:Aa):Out:=
 (Ae .none .add h (.int .i64 1)).bind fun j=>
 a [b,c,d,e,f,g,j] i
noncomputable def Sh.f4j (e:Aa) (self:Ab→Ab→Ab→Ab→Aa→Out) (j2:LK) (b c f g h i d k l:Ab) (a:Aa):Out:=
 (Ae .none .sub c (.int .i64 1)).bind fun m=>
 (At 5 b m).bind fun n=>
 (Ad 1 n).bind fun o=>
 (BZ 4 1 o d).bind fun p=>
 (Ac false 1 p a).bind fun j=>
 (Ae .none .sub c (.int .i64 1)).bind fun q=>
 (At 5 b q).bind fun r=>
 (Ad 0 r).bind fun s=>
 (Ac false 1 s a).bind fun t=>
 (Ae .none .gtr t (.int .i64 1)).bind fun u=>
 Ak u (
 (Ac true 2 k a).bind fun v=>
 (Ac true 2 l a).bind fun w=>
 bP e (self b j v w a) fun x y=>
 bP e (Cb (AW A6 5 72 i x y)) fun z aa=>
 j2 [b,c,f,g,h,z,d] aa) (
 (Ae .none .gtr j (.int .i64 0)).bind fun ab=>
 Ak ab (
 (Ac true 2 k a).bind fun ac=>
 (Ac true 2 l a).bind fun ad=>
 (A9 .u8 j).bind fun ae=>
 (AB (some [(.bool false),(.sl [] .tight),(.bool false),(.sl [] .tight),(.int .u8 0)]) [(0,2,ac),(2,2,ad),(4,1,ae)]).bind fun aj=>
 (AQ 5 [aj]).bind fun ak=>
 bP e (Cb (AW A6 5 72 i ak a)) fun al am=>
 j2 [b,c,f,g,h,al,d] am) (
 j2 [b,c,f,g,h,i,d] a))
noncomputable def Sh.f6m (b:Aa) (self:Ab→Ab→Ab→Ab→Aa→Out) (j2:LK) (g h i c d j e k f:Ab) (a:Aa):Out:=
 AJ (fun j4=>
 (Ae .none .gtr e (.int .i64 1)).bind fun l=>
 Ak l (
 (Ac true 2 c a).bind fun m=>
 (Ac true 2 d a).bind fun n=>
 bP b (Sh.f1 m n a) fun o p=>
 bP b (AH (Ah 2 f o p)) fun _ q=>
 j4 [g,h,i,c,d,j,e,k,f] q) (
 j4 [g,h,i,c,d,j,e,k,f] a)) (fun vs H=>Sh.f4j b self j2 (ag vs 0) (ag vs 1) (ag vs 2) (ag vs 3) (ag vs 4) (ag vs 5) (ag vs 6) (ag vs 7) (ag vs 8) H)
noncomputable def Sh.f4k (a:Aa) (self:Ab→Ab→Ab→Ab→Aa→Out) (o:LK) (l m b c h i d:Ab) (e:Aa):Out:=
 (Ae .none .lss d (.int .i64 4)).bind fun p=>
 Ak p (
 AJ (fun j2=>
 bC (Ac true 2 b e) (fun _=>True) fun q=>
 Ao (A3 (some [(.bool false),(.sl [] .tight)]) e) fun f r=>
 Ao (A3 (some [(.bool false),(.sl [] .tight)]) r) fun j s=>
 AZ (AH (Ah 2 f q s)) fun _ n=>
 bC (Ac true 2 c n) (fun k=>Ac true 2 c e=some k∧True) fun k=>
 bP a (AH (Ah 2 j k n)) fun _ g=>
 AJ (fun j3=>
 (Ae .none .rem d (.int .i64 2)).bind fun t=>
 (Ae .none .eql t (.int .i64 1)).bind fun u=>
 Ak u (
 (Ac true 2 b g).bind fun v=>
 (Ac true 2 h g).bind fun w=>
 bP a (Sh.f1 v w g) fun x y=>
 bP a (AH (Ah 2 f x y)) fun _ z=>
 j3 [l,m,b,c,h,i,d,f,j] z) (
 j3 [l,m,b,c,h,i,d,f,j] g)) (fun vs H=>Sh.f6m a self j2 (ag vs 0) (ag vs 1) (ag vs 2) (ag vs 3) (ag vs 4) (ag vs 5) (ag vs 6) (ag vs 7) (ag vs 8) H)) (fun vs H=>Sh.f3t a o (ag vs 0) (ag vs 1) (ag vs 2) (ag vs 3) (ag vs 4) (ag vs 5) (ag vs 6) H)) (
 rPN a i e)
noncomputable def Sh.f4l (self:Ab→Ab→Ab→Ab→Aa→Out) (d b f g:Ab) (a:Aa):Out:=
 Ao (B2 true 2 f a) fun h i=>
 Ao (B2 true 2 g i) fun j c=>
 (Ae .none .eql b (.int .i64 0)).bind fun k=>
 Ak k (
 rPN a (.sl [] .tight) c) (
 (Ae .none .sub b (.int .i64 1)).bind fun l=>
 (At 5 d l).bind fun m=>
 (Ad 0 m).bind fun n=>
 (Ac false 1 n c).bind fun o=>
 (Ae .none .sub o (.int .i64 1)).bind fun p=>
 bP a (Sh.ff p c) fun q r=>
 Ao (A3 (some [(.bool false),(.sl [] .tight)]) r) fun e s=>
 bP a (AH (Ah 2 e q s)) fun _ t=>
 An (fun u vs H=>Sh.f4k a self u (ag vs 0) (ag vs 1) (ag vs 2) (ag vs 3) (ag vs 4) (ag vs 5) (ag vs 6) H) AM [d,b,h,j,e,(.sl [] .tight),(.int .i64 0)] t)
noncomputable def Sh.fj:Nat→Ab→Ab→Ab→Ab→Aa→Out
 | 0=>fun _ _ _ _ _=>none
 | d+1=>Sh.f4l (Sh.fj d)
noncomputable def Sh.f21 (g h:Ab) (a:Aa):Out:=
 Ao (B2 true 5 g a) fun d i=>
 Ao (B2 true 5 h i) fun e c=>
 (Ad 2 d).bind fun j=>
 (Ac true 2 j c).bind fun k=>
 (Ad 2 e).bind fun l=>
 (Ac true 2 l c).bind fun m=>
 bP a (Sh.f8 k m c) fun f b=>
 (Ae .none .neq f (.int .i64 0)).bind fun n=>
 Ak n (
 rP a f b) (
 (Ad 0 d).bind fun o=>
 (Ac true 2 o b).bind fun p=>
 (Ad 0 e).bind fun q=>
 (Ac true 2 q b).bind fun r=>
 bP a (Sh.f8 p r b) fun s t=>
 rP a s t)
noncomputable def Sh.f5q (q:Aa) (e:LK) (a f b c g:Ab) (d:Aa):Out:=
 (Bn 5 f none (some c) (some c)).bind fun h=>
 (At 5 a b).bind fun i=>
 bC (Ac true 5 i d) (fun _=>True) fun j=>
 (AQ 5 [j]).bind fun k=>
 AZ (Cb (AW A6 5 72 h k d)) fun l m=>
 AZ (Cb (AW A6 5 72 l g m)) fun n o=>
 (Ae .none .add b (.int .i64 1)).bind fun p=>
 e [a,n,p] o
noncomputable def Sh.f6n (i:Aa) (l:LK) (m:LK) (e c f d:Ab) (h:Aa):Out:=
 (A2 c).bind fun n=>
 (Ae .none .lss d n).bind fun a=>
 gk a true (some c) fun o=>
 gk a true (some d) fun p=>
 gk a true (At 5 o p) fun q=>
 gkc a true (Ac true 5 q h) (fun _ _=>True) fun r=>
 gk a true (some e) fun s=>
 gk a true (some f) fun t=>
 gk a true (At 5 s t) fun u=>
 gkc a true (Ac true 5 u h) (fun _ _=>True) fun v=>
 gbN a true h (Sh.f21 r v h) fun w g=>
 gk a true (Ae .none .lss w (.int .i64 0)) fun x=>
 (AG a x (.bool false)).bind fun y=>
 Ak y (
 (Ae .none .add d (.int .i64 1)).bind fun z=>
 m [e,c,f,z] g) (
 (A2 c).bind fun aa=>
 (Ae .none .lss d aa).bind fun b=>
 gk b true (some c) fun ab=>
 gk b true (some d) fun ac=>
 gk b true (At 5 ab ac) fun ad=>
 gkc b true (Ac true 5 ad g) (fun _ _=>True) fun ae=>
 gk b true (some e) fun aj=>
 gk b true (some f) fun ak=>
 gk b true (At 5 aj ak) fun al=>
 gkc b true (Ac true 5 al g) (fun _ _=>True) fun am=>
 gbN b true g (Sh.f21 ae am g) fun an ap=>
 gk b true (Ae .none .eql an (.int .i64 0)) fun aq=>
 (AG b aq (.bool false)).bind fun ar=>
 (AQ 5 []).bind fun au=>
 (Bn 5 c (some d) none none).bind fun av=>
 bP i (Cb (AW A6 5 72 au av ap)) fun j k=>
 AJ (fun j3=>
 Ak ar (
 (Bn 5 j (some (.int .i64 1)) none none).bind fun aw=>
 j3 [e,c,f,d,aw] k) (
 j3 [e,c,f,d,j] k)) (fun vs H=>Sh.f5q i l (ag vs 0) (ag vs 1) (ag vs 2) (ag vs 3) (ag vs 4) H))
noncomputable def Sh.f5r (g:Aa) (a:LK) (b c d:Ab) (e:Aa):Out:=
 (Ae .none .add d (.int .i64 1)).bind fun f=>
 a [b,c,f] e
noncomputable def Sh.f5s (d:Aa) (f:LK) (a e b:Ab) (c:Aa):Out:=
 (A2 a).bind fun g=>
 (Ae .none .lss b g).bind fun h=>
 Ak h (
 AJ (fun j5=>
 (At 5 a b).bind fun i=>
 (Ad 4 i).bind fun j=>
 (Ac false 1 j c).bind fun k=>
 (Ae .none .neq k (.int .u8 0)).bind fun l=>
 Ak l (
 (At 5 a b).bind fun m=>
 (Ac true 5 m c).bind fun n=>
 (AQ 5 [n]).bind fun o=>
 bP d (Cb (AW A6 5 72 e o c)) fun p q=>
 j5 [a,p,b] q) (
 j5 [a,e,b] c)) (fun vs H=>Sh.f5r d f (ag vs 0) (ag vs 1) (ag vs 2) H)) (
 rPN d e c)
noncomputable def Sh.f5t (a:Aa) (f:LK) (b c d:Ab) (e:Aa):Out:=
 (A2 b).bind fun g=>
 (Ae .none .lss d g).bind fun h=>
 Ak h (
 An (fun i vs H=>Sh.f6n a f i (ag vs 0) (ag vs 1) (ag vs 2) (ag vs 3) H) AM [b,c,d,(.int .i64 0)] e) (
 An (fun j vs H=>Sh.f5s a j (ag vs 0) (ag vs 1) (ag vs 2) H) AM [c,(.sl [] .tight),(.int .i64 0)] e)
noncomputable def Sh.f3u (b:Ab) (a:Aa):Out:=
 An (fun c vs H=>Sh.f5t a c (ag vs 0) (ag vs 1) (ag vs 2) H) AM [b,(.sl [] .tight),(.int .i64 0)] a
noncomputable def Sh.f3v (g h:Ab) (a:Aa):Out:=
 Ao (B2 true 1 g a) fun b f=>
 (Ac true 1 b f).bind fun i=>
 bP a (Sh.f3s i f) fun j k=>
 bP a (Sh.fd h k) fun l m=>
 bP a (Sh.f8 j l m) fun n c=>
 (Ae .none .gtr n (.int .i64 0)).bind fun o=>
 Ak o (
 rPN a (.tup [(.sl [] .tight),(.bool false)]) c) (
 (Ad 0 b).bind fun p=>
 (Ac false 1 p c).bind fun q=>
 (A2 q).bind fun r=>
 (Ae .none .eql r (.int .i64 0)).bind fun s=>
 Ak s (
 rPN a (.tup [(.sl [] .tight),(.bool true)]) c) (
 (Ac true 1 b c).bind fun t=>
 bP a (Sh.fy t c) fun u v=>
 (Ae .none .sub u (.int .i64 1)).bind fun w=>
 bP a (Sh.ff w v) fun x y=>
 bP a (Sh.fi x y) fun z aa=>
 Ao (A3 (some [(.bool false),(.sl [] .tight)]) aa) fun e ab=>
 bP a (AH (Ah 2 e z ab)) fun _ d=>
 (Ad 0 b).bind fun ac=>
 (Ac false 1 ac d).bind fun ad=>
 (Ad 0 b).bind fun ae=>
 (Ac false 1 ae d).bind fun aj=>
 (A2 aj).bind fun ak=>
 (Ac true 2 e d).bind fun al=>
 (Ac true 2 e d).bind fun am=>
 bP a (Sh.fj AM ad ak al am d) fun an ap=>
 bP a (Sh.f3u an ap) fun aq ar=>
 rPN a (.tup [aq,(.bool true)]) ar))
noncomputable def Sh.f6o (f:Aa) (j:LK) (g a c h b:Ab) (d:Aa):Out:=
 (Ae .none .geq b (.int .i64 0)).bind fun k=>
 Ak k (
 (Ae .none .mul h (.int .u64 4294967296)).bind fun l=>
 (At 1 g b).bind fun m=>
 (Ac false 1 m d).bind fun n=>
 (A9 .u64 n).bind fun o=>
 (Ae .none .add l o).bind fun i=>
 bC (A9 .u64 a) (fun _=>True) fun p=>
 (Ae .none .quo i p).bind fun q=>
 bC (A9 .u32 q) (fun _=>True) fun r=>
 (At 1 c b).bind fun s=>
 AZ (AH (Ah 1 s r d)) fun _ t=>
 bC (A9 .u64 a) (fun e=>A9 .u64 a=some e∧True) fun e=>
 (Ae .none .rem i e).bind fun u=>
 (Ae .none .sub b (.int .i64 1)).bind fun v=>
 j [g,a,c,u,v] t) (
 bP f (Sh.fr c d) fun w x=>
 (A9 .u32 h).bind fun y=>
 rPN f (.tup [w,y]) x)
noncomputable def Sh.f3w (b c:Ab) (a:Aa):Out:=
 (Ae .none .eql c (.int .u32 0)).bind fun e=>
 Ak e (
 rPN a (.tup [(.sl [] .tight),(.int .u32 0)]) a) (
 (A2 b).bind fun d=>
 Ao (Fh 1 4 (some [(.int .u32 0)]) d d a) fun f g=>
 (A2 b).bind fun h=>
 (Ae .none .sub h (.int .i64 1)).bind fun i=>
 An (fun j vs H=>Sh.f6o a j (ag vs 0) (ag vs 1) (ag vs 2) (ag vs 3) (ag vs 4) H) AM [b,c,f,(.int .u64 0),i] g)
noncomputable def Sh.f4m (b:Aa) (g:LK) (d h i:Ab) (j:Aa):Out:=
 bP b (Sh.f3w i (.int .u32 10) j) fun e a=>
 (Az 0 e).bind fun f=>
 (Az 1 e).bind fun k=>
 (Ae .none .add (.int .u32 48) k).bind fun l=>
 (A9 .u8 l).bind fun m=>
 (AQ 1 [m]).bind fun n=>
 (ER n a).bind fun o=>
 (Ae .none .add o h).bind fun c=>
 (A2 f).bind fun p=>
 (Ae .none .eql p (.int .i64 0)).bind fun q=>
 Ak q (
 (Ad 0 d).bind fun r=>
 (Ac false 1 r a).bind fun s=>
 Ak s (
 (Ae .none .add (.str [45]) c).bind fun t=>
 rP b t a) (
 rP b c a)) (
 g [d,c,f] a)
noncomputable def Sh.f9 (d:Ab) (a:Aa):Out:=
 Ao (B2 true 2 d a) fun b c=>
 (Ad 1 b).bind fun e=>
 (Ac false 1 e c).bind fun f=>
 An (fun g vs H=>Sh.f4m a g (ag vs 0) (ag vs 1) (ag vs 2) H) AM [b,(.str []),f] c
noncomputable def Sh.f5u (h:Aa) (i:LK) (a e b:Ab) (c:Aa):Out:=
 (A2 a).bind fun j=>
 (Ae .none .lss b j).bind fun k=>
 Ak k (
 (At 5 a b).bind fun l=>
 (Ad 0 l).bind fun m=>
 bC (Ac true 2 m c) (fun _=>True) fun n=>
 AZ (Sh.f9 n c) fun o f=>
 (At 5 a b).bind fun p=>
 (Ad 2 p).bind fun g=>
 bC (Ac true 2 g f) (fun d=>Ac true 2 g c=some d∧True) fun d=>
 AZ (Sh.f9 d f) fun q r=>
 (Ae .none .add e o).bind fun s=>
 (Ae .none .add s (.str [32])).bind fun t=>
 (Ae .none .add t q).bind fun u=>
 (Ae .none .add u (.str [10])).bind fun v=>
 (Ae .none .add b (.int .i64 1)).bind fun w=>
 i [a,v,w] r) (
 rP h (.tup [e,(.int .i64 0)]) c)
noncomputable def Sh.fz (h i:Ab) (a:Aa):Out:=
 Ao (B2 true 2 h a) fun b j=>
 Ao (B2 true 2 i j) fun k c=>
 (Ac true 2 b c).bind fun l=>
 (Ac true 2 k c).bind fun m=>
 bP a (Sh.f3q (.int .i64 3) l m c) fun e d=>
 (Ae .none .neq e (.int .i64 0)).bind fun n=>
 Ak n (
 rP a (.tup [(.str []),e]) d) (
 (Ad 1 b).bind fun o=>
 (Ac true 1 o d).bind fun p=>
 bP a (Sh.f3v p (.int .i64 1000000) d) fun f g=>
 (Az 0 f).bind fun q=>
 (Az 1 f).bind fun w=>
 (Ad 0 b).bind fun r=>
 (Ac false 1 r g).bind fun s=>
 (Ae .none .add (.str [35,76,105,102,101,32,49,46,48,54,10,35,82,32]) s).bind fun t=>
 (Ae .none .add t (.str [10])).bind fun u=>
 An (fun v vs H=>Sh.f5u a v (ag vs 0) (ag vs 1) (ag vs 2) H) AM [q,u,(.int .i64 0)] g)
noncomputable def Sh.f10 (e:Ab) (a:Aa):Out:=
 (AB (some [(.str []),(.int .i64 0)]) [(0,1,e)]).bind fun f=>
 (AB (some [(.str []),(.int .i64 0),(.str []),(.sl [] .tight)]) [(0,2,f)]).bind fun g=>
 Ao (B2 true 4 g a) fun h i=>
 bP a (Sh.f1l (.bfn 38 [h]) i) fun j k=>
 Ao (A3 (some [(.int .i64 0),(.str [])]) k) fun b l=>
 bP a (AH (Ah 2 b j l)) fun _ c=>
 (Ad 1 b).bind fun m=>
 bC (Ac false 1 m c) (fun _=>True) fun n=>
 (Ad 0 b).bind fun o=>
 bC (Ac false 1 o c) (fun _=>True) fun p=>
 (Ae .none .eql p (.int .i64 0)).bind fun d=>
 gk d false (Ad 0 b) fun q=>
 gkc d false (Ac false 1 q c) (fun _ _=>True) fun r=>
 gk d false (Ae .none .eql r (.int .i64 3)) fun s=>
 (AG d (.bool true) s).bind fun t=>
 rP a (.tup [n,t]) c
noncomputable def Sl.gliderref11_Wide:Aa→Out:=Classical.choose (⟨Sh.fs,rfl⟩:∃f:Aa→Out,f=Sh.fs)
theorem Sl.gliderref11_Wide_eq:Sl.gliderref11_Wide=Sh.fs:=Classical.choose_spec (⟨Sh.fs,rfl⟩:∃f:Aa→Out,f=Sh.fs)
noncomputable def Sl.life6_Read:Ab→Ab→Aa→Out:=Classical.choose (⟨Sh.fv,rfl⟩:∃f:Ab→Ab→Aa→Out,f=Sh.fv)
theorem Sl.life6_Read_eq:Sl.life6_Read=Sh.fv:=Classical.choose_spec (⟨Sh.fv,rfl⟩:∃f:Ab→Ab→Aa→Out,f=Sh.fv)
noncomputable def Sl.gliderref12_Life6:Ab→Ab→Aa→Out:=Classical.choose (⟨Sh.fz,rfl⟩:∃f:Ab→Ab→Aa→Out,f=Sh.fz)
theorem Sl.gliderref12_Life6_eq:Sl.gliderref12_Life6=Sh.fz:=Classical.choose_spec (⟨Sh.fz,rfl⟩:∃f:Ab→Ab→Aa→Out,f=Sh.fz)
noncomputable def Sl.life6_Hint:Ab→Aa→Out:=Classical.choose (⟨Sh.f10,rfl⟩:∃f:Ab→Aa→Out,f=Sh.f10)
theorem Sl.life6_Hint_eq:Sl.life6_Hint=Sh.f10:=Classical.choose_spec (⟨Sh.f10,rfl⟩:∃f:Ab→Aa→Out,f=Sh.f10)
noncomputable def Sh.f11 (a:Aa):Out:=
 bP a (Sl.gliderref11_Wide a) fun u v=>
 Ao (A3 (some [(.int .i64 0),(.int .i64 0)]) v) fun b w=>
 bP a (AH (Ah 2 b u w)) fun _ m=>
 (Ac true 2 b m).bind fun x=>
 bP a (Sl.life6_Read (.str [35,76,105,102,101,32,49,46,48,54,13,10,49,32,45,50,10,35,82,32,97,98,99,10,49,32,45,50]) x m) fun c y=>
 (Az 0 c).bind fun z=>
 (Az 1 c).bind fun bq=>
 (Az 2 c).bind fun aa=>
 Ao (A3 (some [(.str []),(.sl [] .tight)]) y) fun n ab=>
 bP a (AH (Ah 2 n z ab)) fun _ d=>
 (Ac true 2 n d).bind fun ac=>
 (Ac true 2 b d).bind fun ad=>
 bP a (Sl.gliderref12_Life6 ac ad d) fun o p=>
 (Az 0 o).bind fun ae=>
 (Az 1 o).bind fun aj=>
 (Ac true 2 b p).bind fun ak=>
 bP a (Sl.life6_Read (.str [35,76,105,102,101,32,49,46,48,54,10,49,32,32,50]) ak p) fun e al=>
 (Az 0 e).bind fun am=>
 (Az 1 e).bind fun an=>
 (Az 2 e).bind fun ap=>
 Ao (A3 (some [(.str []),(.sl [] .tight)]) al) fun aq ar=>
 bP a (AH (Ah 2 aq am ar)) fun _ au=>
 bP a (Sl.life6_Hint (.str [35,76,105,102,101,32,49,46,48,54,10,49,50]) au) fun q r=>
 (Az 0 q).bind fun av=>
 (Az 1 q).bind fun aw=>
 (Ae .none .add (.str [35,76,105,102,101,32,49,46,48,54,10,49,50]) av).bind fun ax=>
 (Ac true 2 b r).bind fun ay=>
 bP a (Sl.life6_Read ax ay r) fun f az=>
 (Az 0 f).bind fun a0=>
 (Az 1 f).bind fun br=>
 (Az 2 f).bind fun a1=>
 Ao (A3 (some [(.str []),(.sl [] .tight)]) az) fun a2 a3=>
 bP a (AH (Ah 2 a2 a0 a3)) fun _ a4=>
 bP a (Sl.life6_Hint (.str [35,76,105,102,101,32,49,46,48,54,10,10]) a4) fun s a5=>
 (Az 0 s).bind fun bt=>
 (Az 1 s).bind fun a6=>
 (Ae .none .eql aa (.int .i64 0)).bind fun g=>
 gk g true (some aj) fun a7=>
 gk g true (Ae .none .eql a7 (.int .i64 0)) fun a8=>
 (AG g a8 (.bool false)).bind fun h=>
 gk h true (some ae) fun a9=>
 gk h true (Ae .none .eql a9 (.str [35,76,105,102,101,32,49,46,48,54,10,35,82,32,97,98,99,10,49,32,45,50,10])) fun ba=>
 (AG h ba (.bool false)).bind fun i=>
 gk i true (some an) fun bb=>
 gk i true (Ae .none .eql bb (.int .i64 13)) fun bc=>
 (AG i bc (.bool false)).bind fun j=>
 gk j true (some ap) fun bd=>
 gk j true (Ae .none .eql bd (.int .i64 2)) fun be=>
 (AG j be (.bool false)).bind fun t=>
 gk t true (some aw) fun bg=>
 (AG t bg (.bool false)).bind fun k=>
 gk k true (some a1) fun bj=>
 gk k true (Ae .none .eql bj (.int .i64 0)) fun bk=>
 (AG k bk (.bool false)).bind fun l=>
 gk l true (some a6) fun bl=>
 gk l true (unA .not bl) fun bm=>
 (AG l bm (.bool false)).bind fun bp=>
 rP a bp a5
noncomputable def Sh.f3x (b:Ab) (c:Aa):Out:=
 (A2 b).bind fun d=>
 (Ae .none .eql d (.int .i64 0)).bind fun a=>
 gk a false (some b) fun e=>
 gk a false (some b) fun f=>
 gk a false (A2 f) fun g=>
 gk a false (Ae .none .sub g (.int .i64 1)) fun h=>
 gk a false (At 1 e h) fun i=>
 gk a false (Ac false 1 i c) fun j=>
 gk a false (Ae .none .neq j (.int .u32 0)) fun k=>
 (AG a (.bool true) k).bind fun l=>
 rK c l c
noncomputable def Sh.f12 (g:Ab) (c:Aa):Out:=
 Ao (B2 true 2 g c) fun d f=>
 (Ad 1 d).bind fun h=>
 (Ac false 1 h f).bind fun i=>
 bP c (Sh.f3x i f) fun a e=>
 gk a true (Ad 0 d) fun j=>
 gk a true (Ac false 1 j e) fun k=>
 gk a true (some k) fun b=>
 gk b true (Ad 1 d) fun l=>
 gk b true (Ac false 1 l e) fun m=>
 gk b true (A2 m) fun n=>
 gk b true (Ae .none .eql n (.int .i64 0)) fun o=>
 gk a true (AG b o (.bool false)) fun p=>
 gk a true (unA .not p) fun q=>
 (AG a q (.bool false)).bind fun r=>
 rP c r e
noncomputable def Sh.f6p (d:Aa) (f:LK) (c e b:Ab) (a:Aa):Out:=
 (A2 c).bind fun g=>
 (Ae .none .lss b g).bind fun h=>
 Ak h (
 (At 5 c b).bind fun i=>
 bC (Ac true 5 i a) (fun _=>True) fun j=>
 (At 5 e b).bind fun k=>
 bC (Ac true 5 k a) (fun _=>True) fun l=>
 (Ae (.flat 5) .neq j l).bind fun m=>
 Ak m (
 rK d (.bool false) a) (
 (Ae .none .add b (.int .i64 1)).bind fun n=>
 f [c,e,n] a)) (
 rK d (.bool true) a)
noncomputable def Sh.f3y (b c:Ab) (a:Aa):Out:=
 (A2 b).bind fun d=>
 (A2 c).bind fun e=>
 (Ae .none .neq d e).bind fun f=>
 Ak f (
 rK a (.bool false) a) (
 An (fun g vs H=>Sh.f6p a g (ag vs 0) (ag vs 1) (ag vs 2) H) AM [b,c,(.int .i64 0)] a)
noncomputable def Sh.f3z (c d:Ab) (a:Aa):Out:=
 Ao (B2 true 1 c a) fun e f=>
 Ao (B2 true 1 d f) fun g b=>
 (Ad 0 e).bind fun h=>
 (Ac false 1 h b).bind fun i=>
 (Ad 0 g).bind fun j=>
 (Ac false 1 j b).bind fun k=>
 bP a (Sh.f3y i k b) fun l m=>
 rP a l m
noncomputable def Sh.f13 (f g:Ab) (c:Aa):Out:=
 Ao (B2 true 2 f c) fun d h=>
 Ao (B2 true 2 g h) fun e a=>
 (Ad 0 d).bind fun i=>
 (Ac false 1 i a).bind fun j=>
 (Ad 0 e).bind fun k=>
 (Ac false 1 k a).bind fun l=>
 (Ae .none .eql j l).bind fun b=>
 gk b true (Ad 1 d) fun m=>
 gk b true (Ac true 1 m a) fun n=>
 gk b true (Ad 1 e) fun o=>
 gk b true (Ac true 1 o a) fun p=>
 gbP c b true a (Sh.f3z n p a) fun q r=>
 (AG b q (.bool false)).bind fun s=>
 rP c s r
noncomputable def Sl.gliderlaw17_alive:Aa→Out:=Classical.choose (⟨Sh.f11,rfl⟩:∃f:Aa→Out,f=Sh.f11)
theorem Sl.gliderlaw17_alive_eq:Sl.gliderlaw17_alive=Sh.f11:=Classical.choose_spec (⟨Sh.f11,rfl⟩:∃f:Aa→Out,f=Sh.f11)
noncomputable def Sl.gliderref11_Same:Ab→Ab→Aa→Out:=Classical.choose (⟨Sh.f13,rfl⟩:∃f:Ab→Ab→Aa→Out,f=Sh.f13)
theorem Sl.gliderref11_Same_eq:Sl.gliderref11_Same=Sh.f13:=Classical.choose_spec (⟨Sh.f13,rfl⟩:∃f:Ab→Ab→Aa→Out,f=Sh.f13)
noncomputable def Sh.f5v (e:Aa) (f:LK) (c d:Ab) (b:Aa):Out:=
 (A2 c).bind fun g=>
 (Ae .none .lss d g).bind fun h=>
 Ak h (
 (At 5 c d).bind fun i=>
 (Ad 0 i).bind fun j=>
 (Ad 1 j).bind fun k=>
 (Ac false 1 k b).bind fun l=>
 (A2 l).bind fun m=>
 (Ae .none .gtr m (.int .i64 50)).bind fun a=>
 gk a false (some c) fun n=>
 gk a false (some d) fun o=>
 gk a false (At 5 n o) fun p=>
 gk a false (Ad 2 p) fun q=>
 gk a false (Ad 1 q) fun r=>
 gk a false (Ac false 1 r b) fun s=>
 gk a false (A2 s) fun t=>
 gk a false (Ae .none .gtr t (.int .i64 50)) fun u=>
 (AG a (.bool true) u).bind fun v=>
 Ak v (
 rK e (.bool true) b) (
 (Ae .none .add d (.int .i64 1)).bind fun w=>
 f [c,w] b)) (
 rK e (.bool false) b)
noncomputable def Sh.f14 (b c:Ab) (a:Aa):Out:=
 (A2 b).bind fun d=>
 (Ae .none .gtr d c).bind fun e=>
 Ak e (
 rK a (.bool true) a) (
 An (fun f vs H=>Sh.f5v a f (ag vs 0) (ag vs 1) H) AM [b,(.int .i64 0)] a)
noncomputable def Sl.gliderref07_Great:Ab→Ab→Aa→Out:=Classical.choose (⟨Sh.f14,rfl⟩:∃f:Ab→Ab→Aa→Out,f=Sh.f14)
theorem Sl.gliderref07_Great_eq:Sl.gliderref07_Great=Sh.f14:=Classical.choose_spec (⟨Sh.f14,rfl⟩:∃f:Ab→Ab→Aa→Out,f=Sh.f14)
noncomputable def Sl.gliderref02_Right:Ab→Aa→Out:=Classical.choose (⟨Sh.f12,rfl⟩:∃f:Ab→Aa→Out,f=Sh.f12)
theorem Sl.gliderref02_Right_eq:Sl.gliderref02_Right=Sh.f12:=Classical.choose_spec (⟨Sh.f12,rfl⟩:∃f:Ab→Aa→Out,f=Sh.f12)
noncomputable def Sl.gliderref03_Text:Ab→Aa→Out:=Classical.choose (⟨Sh.f9,rfl⟩:∃f:Ab→Aa→Out,f=Sh.f9)
theorem Sl.gliderref03_Text_eq:Sl.gliderref03_Text=Sh.f9:=Classical.choose_spec (⟨Sh.f9,rfl⟩:∃f:Ab→Aa→Out,f=Sh.f9)
noncomputable def Sh.f22 (a:Aa) (al:LK) (c y o g h:Ab) (p:Aa):Out:=
 (A2 c).bind fun am=>
 (Ae .none .lss h am).bind fun an=>
 Ak an (
 (A9 .i64 y).bind fun ap=>
 (Ae .none .add h ap).bind fun aq=>
 (A2 c).bind fun ar=>
 (Ae .none .rem aq ar).bind fun au=>
 (At 5 c au).bind fun av=>
 (Ac true 5 av p).bind fun aw=>
 Ao (A3 (some [(.bool false),(.sl [] .tight),(.bool false),(.sl [] .tight),(.int .u8 0)]) p) fun b ax=>
 bP a (AH (Ah 5 b aw ax)) fun _ z=>
 (Ad 0 b).bind fun ay=>
 (Ac true 2 ay z).bind fun az=>
 bP a (Sl.gliderref02_Right az z) fun a0 q=>
 (unA .not a0).bind fun i=>
 gk i false (Ad 2 b) fun a1=>
 gk i false (Ac true 2 a1 q) fun a2=>
 gbP a i false q (Sl.gliderref02_Right a2 q) fun a3 d=>
 gk i false (unA .not a3) fun a4=>
 (AG i (.bool true) a4).bind fun e=>
 gk e false (Ad 0 b) fun a5=>
 gk e false (Ad 1 a5) fun a6=>
 gk e false (Ac false 1 a6 d) fun a7=>
 gk e false (A2 a7) fun a8=>
 gk e false (Ae .none .gtr a8 (.int .i64 40)) fun a9=>
 (AG e (.bool true) a9).bind fun f=>
 gk f false (Ad 2 b) fun ba=>
 gk f false (Ad 1 ba) fun bb=>
 gk f false (Ac false 1 bb d) fun bc=>
 gk f false (A2 bc) fun bd=>
 gk f false (Ae .none .gtr bd (.int .i64 40)) fun be=>
 (AG f (.bool true) be).bind fun bg=>
 Ak bg (
 rP a (.bool true) d) (
 (At 5 c h).bind fun bj=>
 (Ad 0 bj).bind fun bk=>
 bC (Ac true 2 bk d) (fun _=>True) fun bl=>
 AZ (Sl.gliderref03_Text bl d) fun bm aa=>
 (At 5 c h).bind fun bp=>
 (Ad 2 bp).bind fun ab=>
 bC (Ac true 2 ab aa) (fun r=>Ac true 2 ab d=some r∧True) fun r=>
 AZ (Sl.gliderref03_Text r aa) fun bq s=>
 (Ae .none .add o bm).bind fun br=>
 (Ae .none .add br (.str [32])).bind fun bt=>
 (Ae .none .add bt bq).bind fun bu=>
 (Ae .none .add bu (.str [10])).bind fun bv=>
 (Ad 0 b).bind fun bw=>
 bC (Ac true 2 bw s) (fun _=>True) fun bz=>
 AZ (Sl.gliderref03_Text bz s) fun b0 ac=>
 (Ad 2 b).bind fun ad=>
 bC (Ac true 2 ad ac) (fun t=>Ac true 2 ad s=some t∧True) fun t=>
 AZ (Sl.gliderref03_Text t ac) fun b1 b2=>
 (Ae .none .add b0 (.str [32])).bind fun b3=>
 (Ae .none .add b3 b1).bind fun b4=>
 (Ae .none .add b4 (.str [13,10])).bind fun b5=>
 (Ae .none .add b5 g).bind fun b6=>
 (Ae .none .add h (.int .i64 1)).bind fun b7=>
 al [c,y,bv,b6,b7] b2)) (
 (Cr g).bind fun b8=>
 (Ae .none .sub b8 (.int .i64 11)).bind fun b9=>
 (BF g none (some b9)).bind fun ca=>
 (Ae .none .add (.str [35,76,105,102,101,32,49,46,48,54,10]) ca).bind fun cb=>
 bP a (Sl.gliderref11_Wide p) fun cc cd=>
 bP a (Sl.life6_Read o cc cd) fun u ce=>
 (Az 0 u).bind fun cg=>
 (Az 1 u).bind fun dg=>
 (Az 2 u).bind fun cj=>
 Ao (A3 (some [(.str []),(.sl [] .tight)]) ce) fun v ck=>
 bP a (AH (Ah 2 v cg ck)) fun _ cl=>
 bP a (Sl.gliderref11_Wide cl) fun cm cn=>
 bP a (Sl.life6_Read cb cm cn) fun w cp=>
 (Az 0 w).bind fun cq=>
 (Az 1 w).bind fun dj=>
 (Az 2 w).bind fun ae=>
 Ao (A3 (some [(.str []),(.sl [] .tight)]) cp) fun aj cr=>
 bP a (AH (Ah 2 aj cq cr)) fun _ ct=>
 AZ (Sl.gliderref11_Wide ct) fun cu cv=>
 (Cr g).bind fun cw=>
 (Ae .none .sub cw (.int .i64 11)).bind fun cx=>
 (BF g none (some cx)).bind fun cy=>
 (Ae .none .add o cy).bind fun cz=>
 AZ (Sl.life6_Read cz cu cv) fun x c0=>
 (Az 0 x).bind fun c1=>
 Ao (A3 (some [(.str []),(.sl [] .tight)]) c0) fun ak c2=>
 AZ (AH (Ah 2 ak c1 c2)) fun _ j=>
 (Az 1 x).bind fun dk=>
 (Az 2 x).bind fun c3=>
 (Ae .none .eql cj ae).bind fun k=>
 gk k true (some ae) fun c4=>
 gk k true (some c3) fun c5=>
 gk k true (Ae .none .eql c4 c5) fun c6=>
 (AG k c6 (.bool false)).bind fun l=>
 gk l true (Ac true 2 v j) fun c7=>
 gk l true (Ac true 2 aj j) fun c8=>
 gbP a l true j (Sl.gliderref11_Same c7 c8 j) fun c9 m=>
 (AG l c9 (.bool false)).bind fun n=>
 gk n true (Ac true 2 v m) fun da=>
 gk n true (Ac true 2 ak m) fun db=>
 gbP a n true m (Sl.gliderref11_Same da db m) fun dc dd=>
 (AG n dc (.bool false)).bind fun de=>
 rP a de dd)
noncomputable def Sh.f5w (b e:Ab) (a:Aa):Out:=
 bP a (Sl.gliderlaw17_alive a) fun f c=>
 (unA .not f).bind fun g=>
 Ak g (
 rP a (.bool false) c) (
 bP a (Sl.gliderref07_Great b (.int .i64 20) c) fun h d=>
 Ak h (
 rP a (.bool true) d) (
 An (fun i vs H=>Sh.f22 a i (ag vs 0) (ag vs 1) (ag vs 2) (ag vs 3) (ag vs 4) H) AM [b,e,(.str [35,76,105,102,101,32,49,46,48,54,10]),(.str [35,76,105,102,101,32,49,46,48,54,10]),(.int .i64 0)] d))
open Go.Proofs
set_option maxRecDepth 100000
theorem mixed:Tryz.prog.follows .mixedOrders=true:=by kernel_rfl
noncomputable def Qv:Orc:=noO
theorem Qe:T1 Tryz.prog Gs false Qv Tryz.f235 (.tw .lf (.tw .lf .lf)) .keep Sh.f4n:=by unfold T1;intros;kernel_rfl
theorem PU:AF Tryz.prog Gs 235 (ap1 Sh.f4n):=Bc mixed (As _ _) Tryz.func235 (by kernel_rfl) Qe
noncomputable def TC:Orc:=noO
theorem SU:T1 Tryz.prog Gs false TC Tryz.f140 (.tw .lf (.tw .lf .lf)) .keep Sh.fa:=by unfold T1;intros;kernel_rfl
theorem K2:AF Tryz.prog Gs 140 (ap1 Sh.fa):=Bc mixed (As _ _) Tryz.func140 (by kernel_rfl) SU
noncomputable def orc_limb_cut:Orc:=(ent 140 (ap1 Sh.fa) noO)
theorem tie_limb_cut:T1 Tryz.prog Gs false orc_limb_cut Tryz.f201 (.tw .lf (.tw (.one (.loop [0] (.tw (.tw .lf (.tw .lf .lf)) (.one .lf)))) (.tw .lf .lf))) .keepN Sh.f0:=by unfold T1;intros;kernel_rfl
theorem Dm:AF Tryz.prog Gs 201 (ap1 Sh.f0):=Bc mixed ((Af K2 (As _ _))) Tryz.func201 (by kernel_rfl) tie_limb_cut
open Go.ChangeShapes Go.WideShapes Go.ChangeAt Go.RowKit
def Ol (W:World):Env:=⟨fun _ _=>none,fun _ _=>none,fun b o=>W.cell? ⟨b,o,none⟩⟩
theorem sim0 (W:World) (hf:∀b cs,FixT b=some cs→0<cs.size∧∃t fr,W.heap[b]? = some (.cells cs t fr)):Sim (Ol W) [] W:=
 ⟨fun id B h=>(by simp at h),fun id g b h=>(by cases h),fun id g b h=>(by cases h),fun id B n h=>(by simp at h),fun id id' b h=>(by simp [loc]at h),fun b o v h=>h,fun b cs h=>by
  obtain ⟨h0,t,fr,h1⟩:=hf b cs h
  exact ⟨⟨t,fr,h1⟩,⟨cs[0],by rw [show (Ol W).I b 0=W.cell? ⟨b,0,none⟩ from rfl,Ba h1];simp [h0]⟩,fun id=>by simp [loc]⟩⟩
theorem Tg {E0:Env} {w0:World} {E:Env} {H:Aa} {w:World} (h:B7 E0 [] w0 E H w):Below w0.heap.size w0 w:=
 ⟨h.os,h.tape,h.output,h.size,fun k hk=>h.frame k hk (fun ⟨i,hi⟩=>by simp [loc]at hi)⟩
theorem calls_law {P:Program} {G:HL} {g:FuncId} {F:List Ab→Aa→Out} (hF:AF P G g F) {fn:Func} (hf:P.funcs[g]? = some fn) (hb:fn.body.isNone=false) (hn:(fn.name == "runtime.NumGoroutine")=false)
  {W:World} (hfx:∀b cs,FixT b=some cs→0<cs.size∧∃t fr,W.heap[b]? = some (.cells cs t fr)) (hG:Dn G (Ol W)) {args:List Ab} {vs:Array Value} (hv:Ay (Ol W) args vs.toList) (h:F args []=some (.ret (.bool true),[])) :
  Calls P g vs W fun e W'=>e=.returned (.bool true)∧Below W.heap.size W W':=by
 rcases hF args [] _ _ h (Ol W) W vs hG (sim0 W hfx) hv with ⟨_,h1⟩ | ⟨v,w',h1,_⟩
 ·refine h1.mono fun e W' ⟨E',h2,_,h3⟩=>⟨?_,Tg h3⟩
  cases e with
  | returned v=>rw [Au.bool_inv h2]
  | panicked c=>exact h2.elim
  | outgrown=>exact h2.elim
 ·rw [EQ hf hb hn]at h1;cases h1
section
variable {H:Type} {enc:TypeId×Value→H} {P:Program}
theorem On (hl:laidOutB P=true) {W W':World} (hb:Below W.heap.size W W') {sp:Nat→Bool}:∀ {ts:List TypeId} {vs:List Value} {ds:List (DataW H)} {ps:List MemPlace},
  (ts.all fun t=>P.readableRec t&&decide (t<P.types.size))=true→DataW.TrodAll enc P W 0 (fun _=>true) true ts vs ds ps→(∀x∈ps,x.block<W.heap.size)→(∀x∈ps,sp x.block=true)→DataW.TrodAll enc P W' 0 sp true ts vs ds ps
 | [],_,_,_,_,h,_,_=>by
  obtain ⟨rfl,rfl,rfl⟩:=trodAll_nil h
  exact trodAll_mk0
 | t::ts,_,_,_,ht,h,hlt,hsp=>by
  obtain ⟨v,vs1,d,ds1,a,b,rfl,rfl,rfl,h1,h2⟩:=trodAll_cons h
  simp only [List.all_cons,WO,decide_eq_true_eq]at ht
  exact trodAll_cons_mk (WideElems.Trod_stays hl ht.1.1 ht.1.2 h1 (fun x hx=>hb.same (hlt x (by simp [hx]))) (fun x hx=>hsp x (by simp [hx])))
   (On hl hb (by simpa using ht.2) h2 (fun x hx=>hlt x (by simp [hx])) (fun x hx=>hsp x (by simp [hx])))
theorem post_law {f:Func} {s:ChangeSpec} {W W':World} {args:Array Value} {ds gs:List (DataW H)} {before:List MemPlace} (hW:DataW.Whole enc P f.params.toList s.vars false W args.toList ds gs before)
  (hl:laidOutB P=true) (hr:(f.params.toList.all fun t=>P.readableRec t&&decide (t<P.types.size))=true) (hB:Below W.heap.size W W') (hvars:s.vars=[]) {tb:TypeId} (hrt:f.resultTypes = #[tb]) (hbool:P.underlying tb=some .bool)
  (hres:(s.fn H (ds++gs)).results=[.lit (.bool true)]) (hargs:(s.fn H (ds++gs)).args=ds) (hvs:(s.fn H (ds++gs)).vars=[]):s.post enc P f false true false false W args (.bool true) W':=by
 have hold:∀p∈before,(fun b=>decide (b<W.heap.size)) p.block=true:=fun p hp=>by simpa using hW.lt p hp
 have hlt:=hW.lt
 have hW':=hW
 obtain ⟨p,q,hA,hV,hpq,hz,hn⟩:=hW
 rw [hvars]at hV
 obtain ⟨rfl,rfl⟩:=trodVars_none hV
 have hpq':before=p:=by rw [hpq];simp
 subst hpq'
 have ha:∀sp:Nat→Bool,(∀x∈before,sp x.block=true)→DataW.TrodAll enc P W' 0 sp true f.params.toList args.toList (s.fn H (ds++[])).args before:=fun sp hsp=>by
  rw [hargs];exact On hl hB hr hA hlt hsp
 have hr':∀(b:Nat) (sp:Nat→Bool) (hd:Bool),DataW.TrodAll enc P W' b sp hd f.resultTypes.toList ((Value.bool true).resultList f.resultTypes.size) (s.fn H (ds++[])).results []:=fun b sp hd=>by
  rw [hres,hrt]
  exact trodAll_cons_mk (shut_bool hbool _) trodAll_mk0
 have hv':∀sp:Nat→Bool,DataW.TrodVars enc P W' sp s.vars (s.fn H (ds++[])).vars []:=fun sp=>by rw [hvars,hvs];rfl
 refine ⟨ds,[],before,[],before,[],hW',hr' _ _ _,ha _ hold,hv' _,World.keptBut_mono (fun p hp=>hp) (hB.frame _),fun _=>?_⟩
 refine ⟨ok_one hrt rfl (okWide_bool_mk hbool _),_,_,([]++before)++[],⟨[]++before,[],trodAll_append (ha _ (fun _ _=>rfl)) (hr' _ _ _),hv' _,rfl,?_,?_⟩,?_⟩
 ·intro b off hp
  have hp':MemPlace.cell b off∈before:=by simpa using hp
  rw [hB.frozen (hlt _ hp')]
  exact hz b off hp'
 ·intro h;cases h
 ·intro p hp _
  simpa using hp

end
open Go.RowKit
theorem VA {E:Env} {H:Aa} {w w':World} (h:Sim E H w) (hb:Below w.heap.size w w'):Sim E H w'∧B7 E H w E H w':=
 h.ext (.refl E) (fun _ _ _ h=>h) (fun _ _ _ h=>h) hb.block (fun _ _=>rfl) (fun b o v hv hlt=>by have:=h.imm_lt hv;omega) hb.os hb.tape hb.output hb.size
def Env.bare (E:Env):Env:=⟨fun _ _=>none,fun _ _=>none,E.I⟩
theorem sim_bare {E:Env} {H:Aa} {w:World} (h:Sim E H w):Sim E.bare [] w:=
 ⟨fun id B h=>(by simp at h),fun id g b h=>(by cases h),fun id g b h=>(by cases h),fun id B n h=>(by simp at h),fun id id' b h=>(by simp [loc]at h),fun b o v hv=>h.imm b o v hv,fun b cs hf=>⟨(h.fix b cs hf).1,(h.fix b cs hf).2.1,fun id=>by simp [loc]⟩⟩
theorem fn_calls {P:Program} {G:HL} {g:FuncId} {F:List Ab→Aa→Out} (hF:AF P G g F) {fn:Func} (hf:P.funcs[g]? = some fn) (hB:fnB 0 fn=true)
  {E:Env} {H:Aa} {w:World} (hG:Dn G E.bare) (hs:Sim E H w) {args:List Ab} {vs:Array Value} (hv:Ay E.bare args vs.toList) {res:Res} (h:F args []=some (res,[])) :
  Calls P g vs w fun e w'=>(∃E',HM E' res e)∧Below w.heap.size w w':=by
 obtain ⟨b1,b2,b3⟩:=Fk hB
 rcases hF args [] _ _ h E.bare w vs hG (sim_bare hs) hv with ⟨_,h1⟩ | ⟨v,w',h1,_⟩
 ·exact h1.mono fun e w' ⟨E',h2,_,h3⟩=>⟨⟨E',h2⟩,Tg h3⟩
 ·rw [EQ hf b1 b2]at h1;cases h1
theorem lib_ok {P:Program} {G:HL} {g:FuncId} {fn:Func} (hf:P.funcs[g]? = some fn) (hB:fnB 0 fn=true) {args:List Ab} {H:Aa} {x:Ab}
  (h:∀(E:Env) (w:World) (vs:Array Value),Dn G E→Sim E H w→Ay E args vs.toList→∃v,Au E x v∧Calls P g vs w fun e w'=>e=.returned v∧Below w.heap.size w w'):CallA P G g args H (.ret x) H:=by
 intro E w vs hG hs hv
 obtain ⟨v,h1,h2⟩:=h E w vs hG hs hv
 obtain ⟨b1,b2,b3⟩:=Fk hB
 refine .inl ⟨EQ hf b1 b2 vs w,h2.mono fun e w' ⟨he,hb⟩=>?_⟩
 subst he
 obtain ⟨k1,k2⟩:=VA hs hb
 exact ⟨E,h1,k1,k2⟩
theorem args1 {E:Env} {a:Ab} {vs:Array Value} (h:Ay E [a] vs.toList):∃v,vs = #[v]∧Au E a v:=by
 obtain ⟨l⟩:=vs
 match l,h with
 | [v],h=>exact ⟨v,rfl,h.head⟩
 | [],h=>exact absurd h.1 (by simp)
 | _::_::_,h=>exact absurd h.1 (by simp)
theorem args2 {E:Env} {a b:Ab} {vs:Array Value} (h:Ay E [a,b] vs.toList):∃v u,vs = #[v,u]∧Au E a v∧Au E b u:=by
 obtain ⟨l⟩:=vs
 match l,h with
 | [v,u],h=>exact ⟨v,u,rfl,h.head,h.tail.head⟩
 | [],h=>exact absurd h.1 (by simp)
 | [_],h=>exact absurd h.1 (by simp)
 | _::_::_::_,h=>exact absurd h.1 (by simp)
theorem val_str {E:Env} {s:List UInt8} {v:Value} (h:Au E (.str s) v):v=.string ⟨s.toArray⟩:=by cases h;rfl
theorem Ss {E:Env} {k:IntKind} {n:Int} {v:Value} (h:Au E (.int k n) v):v=.int k n:=by cases h;rfl
end Go.Gm
/-
 DERIVED: THE SHELF's CONTRACTS AT THIS DUMP,IN PLAIN WORDS (tools/lay-plain.mjs out of 'TryzShelf.lean',which tools/lay-shelf.mjs wrote): THE SAME DECLARATIONS UNDER THE SAME NAMES: 'import','namespace','open','def','theorem' AND NOTHING ELSE: no command of the shelf's: FOR A HAND-IN. Each laying: the table of numbers ('.._ren') and one theorem,a field a fact of the dump's own or the kernel's comparison;each contract: ONE APPLICATION.
-/
namespace Go.Proofs
open Go.Shelf
def Tryz.lays137_ren:Go.Shelf.Ren:=⟨fun | 137=>177 | 217=>220 | 266=>231 | n=>n,fun | 9=>9 | 5=>5 | 3=>3 | n=>n,fun | n=>n⟩
theorem Tryz.lays137:Go.Proofs.Lays.n137 Tryz.prog Tryz.lays137_ren:={
 mixed:=by kernel_rfl
 f137:=Tryz.func177.trans (congrArg some (by kernel_rfl))
 f217:=Tryz.func220.trans (congrArg some (by kernel_rfl))
 f266:=Tryz.func231.trans (congrArg some (by kernel_rfl))
 t3:=Tryz.underlying3
 a3:=Tryz.isAgg3
 z3:=Tryz.sizeOf3
 v3:=Tryz.zeroValue3
 t5:=Tryz.underlying5
 a5:=Tryz.isAgg5
 z5:=Tryz.sizeOf5
 v5:=Tryz.zeroValue5
 t9:=Tryz.underlying9
 a9:=Tryz.isAgg9
 z9:=Tryz.sizeOf9
 v9:=Tryz.zeroValue9 }
open Go.RowKit in
theorem Tryz.strings_IndexByte (s:ByteArray) (c:Int) (w:World) :
  Calls Tryz.prog 177 #[.string s,.int .u8 c] w fun e w'=>e=.returned (.int .i64 (Lib.indexByte s.data.toList c.toNat.toUInt8))∧w'=w:=Any.strings_IndexByte Tryz.lays137 s c w
def Tryz.laysGw15_ren:Go.Shelf.Ren:=⟨fun | 15=>234 | 20=>239 | n=>n,fun | 9=>9 | 23=>256 | 3=>3 | 4=>4 | 0=>0 | 21=>21 | n=>n,fun | n=>n⟩
theorem Tryz.laysGw15:Go.Proofs.LaysGw.n15 Tryz.prog Tryz.laysGw15_ren:={
 mixed:=by kernel_rfl
 f15:=Tryz.func234.trans (congrArg some (by kernel_rfl))
 f20:=Tryz.func239.trans (congrArg some (by kernel_rfl))
 t0:=Tryz.underlying0
 a0:=Tryz.isAgg0
 z0:=Tryz.sizeOf0
 v0:=Tryz.zeroValue0
 i0:=by kernel_rfl
 t3:=Tryz.underlying3
 a3:=Tryz.isAgg3
 z3:=Tryz.sizeOf3
 v3:=Tryz.zeroValue3
 i3:=by kernel_rfl
 t4:=Tryz.underlying4
 a4:=Tryz.isAgg4
 z4:=Tryz.sizeOf4
 v4:=Tryz.zeroValue4
 i4:=by kernel_rfl
 t9:=Tryz.underlying9
 a9:=Tryz.isAgg9
 z9:=Tryz.sizeOf9
 v9:=Tryz.zeroValue9
 i9:=by kernel_rfl
 t21:=Tryz.underlying21
 a21:=Tryz.isAgg21
 z21:=Tryz.sizeOf21
 v21:=Tryz.zeroValue21
 i21:=by kernel_rfl
 t23:=Tryz.underlying256
 a23:=Tryz.isAgg256
 z23:=Tryz.sizeOf256
 v23:=Tryz.zeroValue256
 i23:=by kernel_rfl }
open Go.RowKit Go.Lib in
theorem Tryz.strings_IndexFunc_grows (g:Nat) (lb:Array Value) (eg:∀args w,(callFunc g args).run Tryz.prog w=.ok (.enter g args) w) (p:Nat→Bool) (s:ByteArray) (w:World) (hp:PredGrows Tryz.prog g lb p w) :
  Calls Tryz.prog 234 #[.string s,.func (.func g) #[] lb] w fun e w'=>e=.returned (.int .i64 (Lib.idxFunc p true s))∧Below w.heap.size w w':=Any.strings_IndexFunc_grows Tryz.laysGw15 g lb eg p s w hp
end Go.Proofs
namespace Go.Gm
@[simp 2000] theorem BC {α β:Type} (a:α) (f:α→Option β):(some a).bind f=f a:=(rfl)
theorem Ew {G:LK→LK} (N:Nat) (p:Nat→Bool) (st:Nat→List Ab) (H:Aa) (yes no:Out) (hN:N<1152921504606846976)
  (turn:∀(rec:LK) (i:Nat),i<N→G rec (st i) H=if p i then rec (st (i+1)) H else no) (last:∀rec:LK,G rec (st N) H=yes):An G AM (st 0) H=if (List.range N).all p then yes else no:=by
 refine Bl (σ:=Nat) (fun i=>i≤N∧∀j,j<i→p j=true) st (fun _=>H) (fun i=>N-i) (fun _=>if (List.range N).all p then yes else no) (fun i rec hi hrec=>?_) 0 ⟨Xd _,fun j hj=>by omega⟩ (by omega)
 by_cases h:i<N
 ·rw [turn rec i h]
  cases hp:p i with
  | true=>exact hrec (i+1) ⟨h,fun j hj=>by
    by_cases e:j=i
    ·rw [e];exact hp
    ·exact hi.2 j (by omega)⟩ (by omega)
  | false=>
   have:(List.range N).all p=false:=by rw [YD];exact ⟨i,by simpa using h,by simp [hp]⟩
   simp [this]
 ·have e:i=N:=by omega
  subst e
  have:(List.range i).all p=true:=by rw [Xb];intro j hj;exact hi.2 j (by simpa using hj)
  rw [last,this];rfl
theorem TT {G:LK→LK} (N:Nat) (p:Nat→Bool) (st:Nat→List Ab) (H:Aa) (none':Out) (found:Nat→Out) (hN:N<1152921504606846976)
  (turn:∀(rec:LK) (i:Nat),i<N→G rec (st i) H=if p i then found i else rec (st (i+1)) H) (last:∀rec:LK,G rec (st N) H=none') :
  An G AM (st 0) H=match (List.range N).find? p with | some i=>found i | none=>none':=by
 refine Bl (σ:=Nat) (fun i=>i≤N∧∀j,j<i→p j=false) st (fun _=>H) (fun i=>N-i) (fun _=>match (List.range N).find? p with | some i=>found i | none=>none') (fun i rec hi hrec=>?_) 0 ⟨Xd _,fun j hj=>by omega⟩ (by omega)
 by_cases h:i<N
 ·rw [turn rec i h]
  cases hp:p i with
  | false=>exact hrec (i+1) ⟨h,fun j hj=>by
    by_cases e:j=i
    ·rw [e];exact hp
    ·exact hi.2 j (by omega)⟩ (by omega)
  | true=>
   have:(List.range N).find? p=some i:=by
    rw [Zd]
    exact ⟨hp,by simpa using h,fun j hj=>by simp [hi.2 j hj]⟩
   rw [this];rfl
 ·have e:i=N:=by omega
  subst e
  have:(List.range i).find? p=none:=by
   rw [Y3];intro j hj;simp [hi.2 j (by simpa using hj)]
  rw [last,this]
theorem BQ {sz:Nat} {cs:List Ab} {H:Aa} (h:cs.all Ab.isScal=true) (hl:cs.length=sz):B2 true sz (.agg cs) H=some (.ptr H.length 0 0,H++[.cel 0 cs]):=by
 unfold B2
 rw [Cj h]
 simp [hl,alloc_eq h]
theorem B9 {v:Ab} {p:Ab→Prop} {k:Ab→Out} (hp:p v):bC (some v) p k=k v:=by
 simp only [bC,Option.bind_some,chk_pos hp]
theorem FP {cs vs:List Ab} {sz:Nat} (h:cs.length=sz):D9 cs 0 sz vs=vs:=by simp [D9,YB (YQ h)]
theorem Nb {cs vs:List Ab} {sz g:Nat} {v:Ab} {G:Aa} (hv:v.acells=some vs) (h:cs.length=sz) (h2:vs.length=sz):Ah sz (.ptr 0 g 0) v (.cel g cs::G)=some (.cel g vs::G):=by
 rw [Tf,hv]
 simp only [Option.bind_some,h2,h,WE,WF,and_self,if_true,FP h]
@[simp] theorem FY {x:Out}:chk True x=x:=chk_pos trivial x
@[simp] theorem Rk {v:Ab} {p:Ab→Prop} {k:Ab→Out}:bC (some v) p k=chk (p v) (k v):=(rfl)
section
variable {x:Option Ab} {p:Bool→Ab→Prop} {k:Ab→Out} {w:Bool}
@[simp] theorem QA:gkc (.bool true) true x p k=bC x (p true) k:=(rfl)
@[simp] theorem QD:gkc (.bool false) false x p k=bC x (p true) k:=(rfl)
@[simp] theorem QB:gkc (.bool true) false x p k=chk (p false BM) (k BM):=(rfl)
@[simp] theorem QC:gkc (.bool false) true x p k=chk (p false BM) (k BM):=(rfl)
@[simp] theorem Wi:gkc (.tup []) w x p k=chk (p false BM) (k BM):=(rfl)

end
theorem O9 (p:Nat→Bool):(List.range 4).all p=(p 0&&p 1&&p 2&&p 3):=by
 show (p 0&&(p 1&&(p 2&&(p 3&&true))))=_
 cases p 0 <;> cases p 1 <;> cases p 2 <;> cases p 3 <;> rfl
theorem wrap_nat {n:Nat} (h:n<9223372036854775808):IntKind.i64.wrap (n:Int)=(n:Int):=Al (by omega) (by omega)
theorem Aw {n:Nat} (h:n<9223372036854775807):IntKind.i64.wrap ((n:Int)+1)=((n+1:Nat):Int):=by rw [Al] <;> omega
theorem I6 {n:Nat} (h:0<n) (h2:n<9223372036854775807):IntKind.i64.wrap ((n:Int)-1)=((n-1:Nat):Int):=by rw [Al] <;> omega
@[simp] theorem GE {a b:Int}:(a == b)=decide (a=b):=by rw [WW];simp
@[simp] theorem Kt {a b:Int}:(a != b) = !decide (a=b):=by rw [WW];simp
structure Nd where
 lv:Int
 k0:Int
 k1:Int
 k2:Int
 k3:Int
deriving DecidableEq
def Nd.kid (x:Nd) (k:Nat):Int:=match k with | 0=>x.k0 | 1=>x.k1 | 2=>x.k2 | _=>x.k3
def cNd (x:Nd):List Ab:=[.int .i64 x.lv,.int .i64 x.k0,.int .i64 x.k1,.int .i64 x.k2,.int .i64 x.k3]
instance:Sz cNd 5:=⟨fun _=>rfl⟩
section
variable {x y:Nd} {H:Aa} {k:Nat}
@[simp] theorem BI:(cNd x)[0]? = some (.int .i64 x.lv):=(rfl)
theorem Dt (h:k<4):(cNd x)[1+k]? = some (.int .i64 (x.kid k)):=by
 match k,h with
 | 0,_=>rfl
 | 1,_=>rfl
 | 2,_=>rfl
 | 3,_=>rfl
theorem DJ {K:IntKind} {cs:List Ab} {o:Nat} (h:k<4):BZ 4 1 (.cptr cs o) (.int K (k:Int))=some (.cptr cs (o+k*1)):=by
 unfold BZ
 simp only []
 rw [if_pos ⟨by omega,by omega⟩];simp
theorem Nu:Ac true 5 (.cptr (cNd x) 0) H=some (.agg (cNd x)):=(rfl)
theorem Fr:(cNd x).all Ab.isScal=true:=(rfl)
theorem W9:(Ab.agg (cNd x)).acells=some (cNd x):=(rfl)
theorem PP:B8 (cNd x) (cNd y)=some (decide (x=y)):=by
 obtain ⟨a,b,c,d,e⟩:=x
 obtain ⟨a',b',c',d',e'⟩:=y
 simp only [cNd,B8,G6,if_true,Option.bind_some,WK]
 rw [WW];simp
theorem eq_nd:Ae (.flat 5) .eql (.agg (cNd x)) (.agg (cNd y))=some (.bool (decide (x=y))):=by
 show (eqA (.flat 5) (.agg (cNd x)) (.agg (cNd y))).map Ab.bool=_
 have h:eqA (.flat 5) (.agg (cNd x)) (.agg (cNd y))=some (decide (x=y)):=by unfold eqA;simp only [];rw [if_pos (show (cNd x).length=5 from rfl),PP]
 rw [h];rfl
theorem neq_nd:Ae (.flat 5) .neq (.agg (cNd x)) (.agg (cNd y))=some (.bool (!decide (x=y))):=by
 show (eqA (.flat 5) (.agg (cNd x)) (.agg (cNd y))).map (fun b=>Ab.bool (!b))=_
 have h:eqA (.flat 5) (.agg (cNd x)) (.agg (cNd y))=some (decide (x=y)):=by unfold eqA;simp only [];rw [if_pos (show (cNd x).length=5 from rfl),PP]
 rw [h];rfl

end
theorem UB (x:Nd):AQ 5 [.agg (cNd x)]=some (.sl (enL cNd [x]) .tight):=by
 simp [AQ,CK,W9];simp [cNd,Mw,B4,enL]
def HP:Ab→Bool
 | .bool _=>true
 | .int _ _=>true
 | .str _=>true
 | .sl _ .no=>true
 | .sl _ .tight=>true
 | _=>false
class Pl {α:Type} (f:α→List Ab):Prop where
 pl:∀a,(f a).all HP=true
instance:Pl cB:=⟨fun _=>rfl⟩
instance:Pl cU:=⟨fun _=>rfl⟩
instance:Pl cI:=⟨fun _=>rfl⟩
instance:Pl cN:=⟨fun _=>rfl⟩
instance:Pl cY:=⟨fun _=>rfl⟩
instance:Pl cS:=⟨fun _=>rfl⟩
instance:Pl cNd:=⟨fun _=>rfl⟩
theorem plnC_scal {c:Ab} (h:HP c=true):c.isScal=true:=by cases c <;> first | rfl | (simp [HP]at h)
theorem plnC_imm {c:Ab} (h:HP c=true):B4 c=true:=by
 cases c <;> first | rfl | (simp [HP]at h)
 rename_i es tk;cases tk <;> first | rfl | (simp [HP]at h)
theorem plnC_frz {c:Ab} {H:Aa} {n d:Nat} (h:HP c=true):frz H n (d+1) c=some c:=by
 cases c <;> first | (simp [frz];done) | (simp [HP]at h)
 rename_i es tk;cases tk <;> first | (simp [frz];done) | (simp [HP]at h)
theorem Gt {H:Aa} {n d:Nat}:∀ {cs:List Ab},cs.all HP=true→FA H n (d+2) cs=some cs
 | [],_=>by simp [FA]
 | c::cs,h=>by
  simp only [List.all_cons,WO]at h
  simp [FA,plnC_frz h.1,Gt h.2]
section
variable {α:Type} {f:α→List Ab} {l:List α} {sz i n:Nat} {a:α} {H:Aa} {id:Nat} {K:IntKind}
def flat (f:α→List Ab) (l:List α):List Ab:=l.flatMap f
@[simp] theorem flat_nil:flat f []=[]:=(rfl)
theorem D0:flat f (a::l)=f a++flat f l:=by simp [flat]
theorem R6 {m:List α}:flat f (l++m)=flat f l++flat f m:=by simp [flat]
theorem Fl [hf:Sz f sz]:∀(l:List α),(flat f l).length=l.length*sz
 | []=>by simp
 | a::l=>by
  have:=Fl l
  simp only [D0,WJ,hf.len,List.length_cons,YP]
  omega
theorem N4 [hp:Pl f]:∀(l:List α),(flat f l).all HP=true
 | []=>rfl
 | a::l=>by simp only [D0,Zm,WO];exact ⟨hp.pl a,N4 l⟩
theorem PA [hp:Pl f] (l:List α):(flat f l).all B4=true:=by
 rw [Xb];intro c hc;exact plnC_imm (Xb.1 (N4 (f:=f) l) c hc)
theorem QR [hf:Sz f sz]:∀(l:List α) (i:Nat),(flat f l).drop (i*sz)=flat f (l.drop i)
 | [],i=>by simp
 | a::l,0=>by simp
 | a::l,i+1=>by
  have:=QR l i
  rw [List.drop_succ_cons,←this,D0,YP,Zg,List.drop_append,hf.len,YB (by rw [hf.len];omega),List.nil_append]
  congr 1;omega
theorem N3 [hf:Sz f sz]:∀(l:List α) (i:Nat),(flat f l).take (i*sz)=flat f (l.take i)
 | [],i=>by simp
 | a::l,0=>by simp
 | a::l,i+1=>by
  have:=N3 l i
  rw [List.take_succ_cons,D0,D0,←this,YP,Zg,List.take_append,hf.len,WN (by rw [hf.len];omega)]
  congr 2;omega
theorem S9 [hf:Sz f sz] (h:i<l.length):((flat f l).drop (i*sz)).take sz=f l[i]:=by
 rw [QR,Xf h,D0,XY (by rw [hf.len];omega),WN (by rw [hf.len];omega)]
theorem Ui [hf:Sz f sz] (h:i<l.length):D9 (flat f l) (i*sz) sz (f a)=flat f (l.set i a):=by
 have e:l.set i a=l.take i++a::l.drop (i+1):=by rw [Y6,if_pos h]
 have e2:i*sz+sz=(i+1)*sz:=by rw [YP]
 unfold D9
 rw [e,e2,N3,QR,R6,D0]
 simp
theorem JO [hf:Sz f sz] (h:i<l.length):i*sz+sz≤(flat f l).length:=by
 rw [Fl,←YP];exact X0 _ h
theorem Cy {g off cap:Nat} {ex:Bool} (h:i<n):At sz (.ms id g off n cap sz ex) (.int K (i:Int))=some (.ptr id g (off+i*sz)):=by
 unfold At
 simp only []
 rw [if_pos ⟨trivial,by omega,by omega⟩];simp
theorem Ib [hf:Sz f 1] (hg:A1 H id 0=some (flat f l)) (h:i<l.length):Ac false 1 (.ptr id 0 i) H=(f l[i])[0]? := by
 have h1:=S9 (f:=f) (sz:=1) h
 have h2:=JO (f:=f) (sz:=1) h
 simp only [WQ]at h1 h2
 simp only [Ac,hg,Option.bind_some,WL,if_false]
 rw [←h1];simp
theorem P0 [hf:Sz f sz] (hg:A1 H id 0=some (flat f l)) (h:i<l.length):Ac true sz (.ptr id 0 (i*sz)) H=some (.agg (f l[i])):=by
 simp only [Ac,hg,Option.bind_some,if_true,JO h,S9 h]
theorem DV [hf:Sz f sz] {v:Ab} (hg:A1 H id 0=some (flat f l)) (h:i<l.length) (hv:v.acells=some (f a)):Ah sz (.ptr id 0 (i*sz)) v H=some (FJ H id 0 (flat f (l.set i a))):=by
 simp only [Ah,hg,Option.bind_some,hv,hf.len,JO h,and_self,if_true,Ui h]
theorem VI:∀(n:Nat),LR n (f a)=flat f (List.replicate n a)
 | 0=>rfl
 | n+1=>by
  have:=VI n
  simp only [LR,List.replicate_succ,List.flatten_cons,D0]at this ⊢
  rw [this]
theorem FG [hf:Sz f sz] [hp:Pl f] {bytes:Nat} (hb:n*bytes≤140737488355328) (hn:n≤140737488355328):Fh sz bytes (some (f a)) (.int .i64 (n:Int)) (.int .i64 (n:Int)) H=some (.ms H.length 0 0 n n sz true,H++[.cel 0 (flat f (List.replicate n a))]):=by
 have h1:((n:Int)*(bytes:Int))≤140737488355328:=by
   have:((n*bytes:Nat):Int)≤140737488355328:=by omega
   simpa using this
 have h2:(f a).all Ab.isScal=true:=by rw [Xb];intro c hc;exact plnC_scal (Xb.1 (hp.pl a) c hc)
 unfold Fh
 simp only [Option.bind_some]
 rw [if_pos ⟨h2,hf.len a,by omega,by omega,h1,by omega⟩]
 simp only [Int.toNat_natCast,VI]
theorem M8 [hf:Sz f sz]:∀(l:List α),FX sz l.length (flat f l)=enL f l
 | []=>rfl
 | a::l=>by
  have:=M8 l
  simp only [List.length_cons,FX,D0,enL,Yo,XY (YQ (hf.len a).symm),WN (YQ (hf.len a)),List.drop_left' (hf.len a)]
  rw [this];rfl
theorem SD [hf:Sz f sz] [hp:Pl f] {b d cap:Nat} {ex:Bool} (hg:A1 H id 0=some (flat f l)) (hi:b≤id):Gy H b (d+3) (.ms id 0 0 l.length cap sz ex)=some (.sl (enL f l) .no):=by
 have h1:¬id<b:=by omega
 unfold Gy
 simp only [frz,h1,if_false,hg,Option.bind_some,Yd,WE,Fl,WF,if_true,WN (YQ (Fl (f:=f) l)),Gt (N4 (f:=f) l),PA (f:=f) l,M8,Option.map_some,forget,DM,fgt]
@[simp] theorem Qm {G:Aa} {g:Nat} {cs:List Ab}:FJ (H++G) H.length g cs=H++FJ G 0 g cs:=Tk (k:=0)
@[simp] theorem setC_appK {G:Aa} {g k:Nat} {cs:List Ab}:FJ (H++G) (H.length+k) g cs=H++FJ G k g cs:=Tk
@[simp] theorem Ql {G:Aa} {g g':Nat} {c cs:List Ab}:FJ (.cel g' c::G) 0 g cs=.cel g cs::G:=(rfl)
@[simp] theorem setC_suc {G:Aa} {g k:Nat} {b:Blk} {cs:List Ab}:FJ (b::G) (k+1) g cs=b::FJ G k g cs:=VF

end
theorem A5 {H:Aa} {p:Nat} {cs:List Ab} (hg:H[p]? = some (.cel 0 cs)):A1 H p 0=some cs:=by simp [A1,hg]
theorem Bz {a:Bool} {sz p g o:Nat} {H G:Aa} {v:Ab} (h:Ac a sz (.ptr p g o) H=some v):Ac a sz (.ptr p g o) (H++G)=some v:=by
 unfold Ac at h ⊢
 simp only at h ⊢
 cases hg:A1 H p g with
 | none=>rw [hg]at h;cases h
 | some cs=>
  have:A1 (H++G) p g=some cs:=by
   have hlt:p<H.length:=by
    by_cases hl:p<H.length
    ·exact hl
    ·unfold A1 at hg;rw [WR (by omega)]at hg;cases hg
   rw [get_old hlt];exact hg
  rw [this];rw [hg]at h;exact h
theorem BT {H:Aa} {p:Nat} {cs cs':List Ab} (hg:H[p]? = some (.cel 0 cs)):FJ H p 0 cs'=H.set p (.cel 0 cs'):=by simp [FJ,hg]
theorem Ar {cs:List Ab} {B:Aa}:(B++[Blk.cel 0 cs])[B.length]? = some (.cel 0 cs):=by simp
theorem Bv {B:Aa} {b b':Blk}:(B++[b]).set B.length b'=B++[b']:=by simp
theorem GMb:(((((((∀ {α β:Type} (a:α) (f:α→Option β),Option.bind (Option.some a) f=f a) ∧
 (∀(v:Ab) (l:List Ab),ag (v::l) 0=v)) ∧
 ((∀(a v:Ab) (l:List Ab),ag (a::v::l) 1=v) ∧
 (∀(a b v:Ab) (l:List Ab),ag (a::b::v::l) 2=v))) ∧
 (((∀(a b c v:Ab) (l:List Ab),ag (a::b::c::v::l) 3=v) ∧
 (∀(a b c d v:Ab) (l:List Ab),ag (a::b::c::d::v::l) 4=v)) ∧
 ((∀(a b c d e v:Ab) (l:List Ab),ag (a::b::c::d::e::v::l) 5=v) ∧
 (∀ {ek:EqK} {k:IntKind} {a b:Int},Ae ek BinOp.lss (Ab.int k a) (Ab.int k b)=Option.some (Ab.bool (Decidable.decide (a<b))))))) ∧
 ((((∀ {ek:EqK} {k:IntKind} {a b:Int},Ae ek BinOp.gtr (Ab.int k a) (Ab.int k b)=Option.some (Ab.bool (Decidable.decide (a>b)))) ∧
 (∀ {ek:EqK} {k:IntKind} {a b:Int},Ae ek BinOp.leq (Ab.int k a) (Ab.int k b)=Option.some (Ab.bool (Decidable.decide (a≤b))))) ∧
 ((∀ {ek:EqK} {k:IntKind} {a b:Int},Ae ek BinOp.geq (Ab.int k a) (Ab.int k b)=Option.some (Ab.bool (Decidable.decide (a≥b)))) ∧
 (∀ {ek:EqK} {k:IntKind} {a b:Int},Ae ek BinOp.eql (Ab.int k a) (Ab.int k b)=Option.some (Ab.bool (a == b))))) ∧
 (((∀ {ek:EqK} {k:IntKind} {a b:Int},Ae ek BinOp.neq (Ab.int k a) (Ab.int k b)=Option.some (Ab.bool (a != b))) ∧
 (∀ {ek:EqK} {k:IntKind} {a b:Int},Ae ek BinOp.add (Ab.int k a) (Ab.int k b)=Option.some (Ab.int k (IntKind.wrap k (a+b))))) ∧
 ((∀ {ek:EqK} {k:IntKind} {a b:Int},Ae ek BinOp.sub (Ab.int k a) (Ab.int k b)=Option.some (Ab.int k (IntKind.wrap k (a-b)))) ∧
 ((∀ {ek:EqK} {k:IntKind} {a b:Int},Ae ek BinOp.mul (Ab.int k a) (Ab.int k b)=Option.some (Ab.int k (IntKind.wrap k (a*b)))) ∧
 (∀(a b:Out),Ak (Ab.bool Bool.true) a b=a)))))) ∧
 (((((∀(a b:Out),Ak (Ab.bool Bool.false) a b=b) ∧
 (∀(a b:Ab),AG (Ab.bool Bool.true) a b=Option.some a)) ∧
 ((∀(a b:Ab),AG (Ab.bool Bool.false) a b=Option.some b) ∧
 (∀ {kv:Ab→Out} (x:Option Ab),gk (Ab.bool Bool.true) Bool.true x kv=Option.bind x kv))) ∧
 (((∀ {kv:Ab→Out} (x:Option Ab),gk (Ab.bool Bool.false) Bool.false x kv=Option.bind x kv) ∧
 (∀ {kv:Ab→Out} (x:Option Ab),gk (Ab.bool Bool.true) Bool.false x kv=kv BM)) ∧
 ((∀ {kv:Ab→Out} (x:Option Ab),gk (Ab.bool Bool.false) Bool.true x kv=kv BM) ∧
 ((∀ {kv:Ab→Out} (w:Bool) (x:Option Ab),gk (Ab.tup []) w x kv=kv BM) ∧
 (∀ {x:Option Ab} {p:Bool→Ab→Prop} {k:Ab→Out},gkc (Ab.bool Bool.true) Bool.true x p k=bC x (p Bool.true) k))))) ∧
 ((((∀ {x:Option Ab} {p:Bool→Ab→Prop} {k:Ab→Out},gkc (Ab.bool Bool.false) Bool.false x p k=bC x (p Bool.true) k) ∧
 (∀ {x:Option Ab} {p:Bool→Ab→Prop} {k:Ab→Out},gkc (Ab.bool Bool.true) Bool.false x p k=chk (p Bool.false BM) (k BM))) ∧
 ((∀ {x:Option Ab} {p:Bool→Ab→Prop} {k:Ab→Out},gkc (Ab.bool Bool.false) Bool.true x p k=chk (p Bool.false BM) (k BM)) ∧
 (∀ {x:Option Ab} {p:Bool→Ab→Prop} {k:Ab→Out} {w:Bool},gkc (Ab.tup []) w x p k=chk (p Bool.false BM) (k BM)))) ∧
 (((∀ {v:Ab} {p:Ab→Prop} {k:Ab→Out},bC (Option.some v) p k=chk (p v) (k v)) ∧
 (∀ {x:Out},chk True x=x)) ∧
 ((∀ {H0 H:Aa} {k:Ab→Aa→Out} (x:Out),gbK H0 (Ab.bool Bool.true) Bool.true H x k=bK H0 x k) ∧
 ((∀ {H0 H:Aa} {k:Ab→Aa→Out} (x:Out),gbK H0 (Ab.bool Bool.false) Bool.false H x k=bK H0 x k) ∧
 (∀ {H0 H:Aa} {k:Ab→Aa→Out} (x:Out),gbK H0 (Ab.bool Bool.true) Bool.false H x k=k BM H))))))) ∧
 ((((((∀ {H0 H:Aa} {k:Ab→Aa→Out} (x:Out),gbK H0 (Ab.bool Bool.false) Bool.true H x k=k BM H) ∧
 (∀ {H0 H:Aa} {k:Ab→Aa→Out} (w:Bool) (x:Out),gbK H0 (Ab.tup []) w H x k=k BM H)) ∧
 ((∀ {H0 H:Aa} {k:Ab→Aa→Out} (x:Out),gbP H0 (Ab.bool Bool.true) Bool.true H x k=bP H0 x k) ∧
 (∀ {H0 H:Aa} {k:Ab→Aa→Out} (x:Out),gbP H0 (Ab.bool Bool.false) Bool.false H x k=bP H0 x k))) ∧
 (((∀ {H0 H:Aa} {k:Ab→Aa→Out} (x:Out),gbP H0 (Ab.bool Bool.true) Bool.false H x k=k BM H) ∧
 (∀ {H0 H:Aa} {k:Ab→Aa→Out} (x:Out),gbP H0 (Ab.bool Bool.false) Bool.true H x k=k BM H)) ∧
 ((∀ {H0 H:Aa} {k:Ab→Aa→Out} (w:Bool) (x:Out),gbP H0 (Ab.tup []) w H x k=k BM H) ∧
 (∀ {H:Aa} {k:Ab→Aa→Out} (x:Out),gbN (Ab.bool Bool.true) Bool.true H x k=AZ x k)))) ∧
 ((((∀ {H:Aa} {k:Ab→Aa→Out} (x:Out),gbN (Ab.bool Bool.false) Bool.false H x k=AZ x k) ∧
 (∀ {H:Aa} {k:Ab→Aa→Out} (x:Out),gbN (Ab.bool Bool.true) Bool.false H x k=k BM H)) ∧
 ((∀ {H:Aa} {k:Ab→Aa→Out} (x:Out),gbN (Ab.bool Bool.false) Bool.true H x k=k BM H) ∧
 (∀ {H:Aa} {k:Ab→Aa→Out} (w:Bool) (x:Out),gbN (Ab.tup []) w H x k=k BM H))) ∧
 (((∀ {H:Aa} {k:Ab→Aa→Out} (v:Ab),AZ (Option.some (Res.ret v,H)) k=k v H) ∧
 (∀ {H0 H:Aa} {k:Ab→Aa→Out} (v:Ab),bK H0 (Option.some (Res.ret v,H)) k=k v H)) ∧
 ((∀ {H0 H:Aa} {k:Ab→Aa→Out} (v:Ab),bP H0 (Option.some (Res.ret v,H)) k=k v H) ∧
 ((∀ {H0 H:Aa} (v:Ab),rK H0 v H=Option.some (Res.ret v,H)) ∧
 (∀ {H H0:Aa} {v:Ab},rKN H0 v H=Option.some (Res.ret (forget v),H))))))) ∧
 (((((∀ {c:Bool},unA UnOp.not (Ab.bool c)=Option.some (Ab.bool !c)) ∧
 (∀ {H:Aa} (v:Ab),retV (Option.some v) H=Option.some (Res.ret v,H))) ∧
 ((∀ {H:Aa},AH (Option.some H)=Option.some (Res.ret Ab.undef,H)) ∧
 (∀ {H:Aa} (v:Ab),Cb (Option.some (v,H))=Option.some (Res.ret v,H)))) ∧
 (((∀ {H:Aa} {k:Ab→Aa→Out} (v:Ab),Ao (Option.some (v,H)) k=k v H) ∧
 (∀ {a b:Int},(a == b)=decide (a=b))) ∧
 ((∀ {a b:Int},(a != b) = !decide (a=b)) ∧
 (((!true)=false) ∧
 ((!false)=true))))) ∧
 (((((false=true)=False) ∧
 (∀(b:Bool),(false||b)=b)) ∧
 ((∀(b:Bool),(true||b)=true) ∧
 (∀(b:Bool),(b||false)=b))) ∧
 (((∀(b:Bool),(b||true)=true) ∧
 (∀(b:Bool),(b&&true)=b)) ∧
 ((∀(b:Bool),(true&&b)=b) ∧
 ((∀(b:Bool),(b&&false)=false) ∧
 (∀(b:Bool),(false&&b)=false)))))))):=
 ⟨⟨⟨⟨⟨⟨@BC,@Aj⟩,⟨@AS,@AY⟩⟩,⟨⟨@Bo,@B6⟩,⟨@Di,@Bf⟩⟩⟩,⟨⟨⟨@Dh,@Ku⟩,⟨@Kv,@DR⟩⟩,⟨⟨@Hn,@BX⟩,⟨@DQ,⟨@Io,@AN⟩⟩⟩⟩⟩,⟨⟨⟨⟨@AI,@Cg⟩,⟨@BW,@Ih⟩⟩,⟨⟨@Mx,@Uf⟩,⟨@R5,⟨@gk_s,@QA⟩⟩⟩⟩,⟨⟨⟨@QD,@QB⟩,⟨@QC,@Wi⟩⟩,⟨⟨@Rk,@FY⟩,⟨@QM,⟨@QP,@QN⟩⟩⟩⟩⟩⟩,⟨⟨⟨⟨⟨@QO,@Wl⟩,⟨@QE,@QH⟩⟩,⟨⟨@QF,@QG⟩,⟨@Wj,@QI⟩⟩⟩,⟨⟨⟨@QL,@QJ⟩,⟨@QK,@Wk⟩⟩,⟨⟨@Br,@EA⟩,⟨@Cs,⟨@Pk,@DE⟩⟩⟩⟩⟩,⟨⟨⟨⟨@Ip,@Hr⟩,⟨@AK,@CL⟩⟩,⟨⟨@Bm,@GE⟩,⟨@Kt,⟨X2,XL⟩⟩⟩⟩,⟨⟨⟨@Bool.false_eq_true,@Bool.false_or⟩,⟨@Bool.true_or,@Bool.or_false⟩⟩,⟨⟨@Bool.or_true,@Bool.and_true⟩,⟨@Bool.true_and,⟨@Bool.and_false,@Bool.false_and⟩⟩⟩⟩⟩⟩⟩
theorem GMc:((∀(f:(List Ab→Aa→Out)→Out) (j:List Ab→Aa→Out),AJ f j=f j)∧(∀h:Decidable True,@decide True h=true)∧(∀h:Decidable False,@decide False h=false)∧(∀(α:Type) (h:Decidable True) (t e:α),@ite α True h t e=t)∧(∀(α:Type) (h:Decidable False) (t e:α),@ite α False h t e=e)):=
 ⟨fun _ _=>rfl,fun _=>decide_true _,fun _=>decide_false _,fun _ _ _ _=>if_true _ _,fun _ _ _ _=>if_false _ _⟩
end Go.Gm
namespace Go.Proofs
open Go.RowKit Go.Shelf
attribute [local go_sem] Oper.semAt_some
def KB (n₀ Bs:Nat) (W W':World):Prop:=Below n₀ W W'∧W'.cell? ⟨Bs,0,none⟩=W.cell? ⟨Bs,0,none⟩
theorem KB.refl (n₀ Bs:Nat) (W:World):KB n₀ Bs W W:=⟨Below.refl _ _,rfl⟩
theorem KB.trans {n₀ Bs:Nat} {A B C:World} (h:KB n₀ Bs A B) (k:KB n₀ Bs B C):KB n₀ Bs A C:=⟨h.1.trans k.1,k.2.trans h.2⟩
def MR (n k:Nat):List (Fin n):=(List.finRange n).reverse.take k
theorem OS {n k:Nat} (h:k<n):MR n (k+1)=MR n k++[⟨n-1-k,by omega⟩]:=by
 unfold MR
 rw [List.take_add_one,List.getElem?_reverse (by simpa using h)]
 simp
 rw [List.getElem?_eq_getElem (by simp;omega)]
 simp
theorem backF_length {n k:Nat} (h:k≤n):(MR n k).length=k:=by simp [MR,h]
theorem Rj {n:Nat}:∀(k:Nat) (j:Fin n),k≤n→n-k≤j.1→j∈MR n k
 | 0,j,_,h=>by have:=j.2;omega
 | k+1,j,hk,h=>by
  rw [OS (by omega)]
  by_cases e:j.1=n-1-k
  ·exact List.mem_append_right _ (by simp;exact Fin.ext e)
  ·exact List.mem_append_left _ (Rj k j (by omega) (by omega))
set_option maxRecDepth 100000 in
set_option maxHeartbeats 2000000 in
theorem Tryz.back1_in (F:Fence) (n:Nat) (h229:F.fn 229) (hro:F.round=none) (hn:1≤n) (l Bs n₀ b off len cap:Nat) (ao:Option Addr) (hao:0<len→ao=some ⟨b,off,none⟩) (zf:Nat→Nat) (hreach:len≤1099511627776) (hb:b<n₀) (J Jx:List (Fin len)→World→Prop)
  (hY:∀pre (x:Fin len) W,J pre W→pre.length<len→YieldAt F (n-1) Tryz.prog l #[.int .i64 (x.1:Int),.int .u32 ((zf x.1:Nat):Int)] W fun e W'=>
   (e=.returned (.bool true)∧J (pre++[x]) W'∧KB n₀ Bs W W')∨(e=.returned (.bool false)∧Jx (pre++[x]) W'))
  (W:World) (hBs:W.cell? ⟨Bs,0,none⟩=some (.slice ao len cap)) (hc:∀j,j<len→W.cell? ⟨b,off+j,none⟩=some (.int .u32 ((zf j:Nat):Int))) (h0:J [] W) :
  CallsIn F n Tryz.prog 229 #[.func (.yield l) #[] #[],.pointer (some ⟨Bs,0,none⟩)] W fun e W'=>(∃v,e=.returned v) ∧
   ((∃ys,ys=MR len len∧J ys W')∨(∃pre,(∃k,k<len∧pre=MR len (k+1))∧Jx pre W')):=by
 refine callsIn_of_wp Tryz.func229 rfl h229 ?_ hro
 simp only [Tryz.ntmps229,List.size_toArray,List.length_cons,List.length_nil,Nat.reduceAdd,Nat.reduceSub,Array.replicate_succ,Array.replicate_zero,List.push_toArray,List.append_toArray,List.nil_append,List.cons_append]
 gi_wp2
 gi_loopw [3] (fun i wr=>∃k:Nat,k≤len∧i=.int .i64 ((len:Int)-1-k)∧J (MR len k) wr∧KB n₀ Bs W wr)
  (fun i _=>((intOf i)+1).toNat)
 case atStart=>exact ⟨0,Nat.zero_le _,by simp,h0,KB.refl _ _ _⟩
 case round=>
  obtain ⟨k,hk,rfl,hJs,hkb⟩:=hrel
  have hnx:=hkb.1
  have hBs':=hkb.2.trans hBs
  by_cases hlt:k<len
  ·have hao':=hao (by omega)
   subst hao'
   have hcx:=(hnx.cell (p:=⟨b,off+(len-1-k),none⟩) hb).trans (hc (len-1-k) (by omega))
   obtain ⟨fn,tmps,assign,body,hy,hR⟩:=hY _ ⟨len-1-k,by omega⟩ wr hJs (by rw [backF_length hk];exact hlt)
   dsimp only at hy
   have hlast:=OS hlt
   obtain ⟨i,hi⟩:∃i:Nat,i=len-1-k:=⟨_,rfl⟩
   have hil:i<len:=by omega
   obtain ⟨x,hx⟩:∃x:Fin len,x=⟨len-1-k,by omega⟩:=⟨_,rfl⟩
   rw [←hx]at hR hlast
   clear hx
   have hii:(len:Int)-1-(k:Int)=(i:Int):=by omega
   rw [←hi]at hcx hy
   have hstep:(i:Int)-1=(len:Int)-1-((k+1:Nat):Int):=by omega
   rw [hii]
   clear hi hii
   obtain ⟨z,hzz⟩:∃z:Nat,z=zf i:=⟨_,rfl⟩
   rw [←hzz]at hcx hy
   clear hzz
   clear hkb
   have hkb:Hid (KB n₀ Bs W wr):=⟨hnx,hBs'.trans hBs.symm⟩
   gi_wp2
   refine hR.mono ?_
   rintro e W3 (⟨rfl,hJ3,hk3⟩ | ⟨rfl,hJx3⟩)
   ·gi_wp2
    go_roundw
    case rel=>exact ⟨k+1,by omega,by simp,by rw [hlast];exact hJ3,hkb.out.trans hk3⟩
    case measure=>simp [intOf];omega
   ·gi_wp2
    refine bodyPost_ret (results_none rfl _ _ _) rfl ?_
    exact ⟨⟨_,rfl⟩,.inr ⟨_,⟨k,hlt,hlast.symm⟩,hJx3⟩⟩
  ·obtain rfl:k=len:=by omega
   gi_wp2
   go_end0
   exact ⟨⟨_,rfl⟩,.inl ⟨_,rfl,hJs⟩⟩
set_option maxHeartbeats 1000000 in
theorem Tryz.back_in (F:Fence) (n:Nat) (h205:F.fn 205) (hro:F.round=none) (a:Option Addr) (len cap:Nat) (w:World) :
  CallsIn F n Tryz.prog 205 #[.slice a len cap] w fun e w'=>e=.returned (.func (.func 229) #[] #[.pointer (some ⟨w.heap.size,0,none⟩)])∧w'=w.alloc (.cells #[.slice a len cap] 44):=by
 refine callsIn_of_wp Tryz.func205 rfl h205 ?_ hro
 simp only [Tryz.ntmps205,List.size_toArray,List.length_cons,List.length_nil,Nat.reduceAdd,Nat.reduceSub,Array.replicate_succ,Array.replicate_zero,List.push_toArray,List.append_toArray,List.nil_append,List.cons_append]
 gi_wp2
 go_ret
 exact ⟨rfl,rfl⟩
theorem Tryz.back_stops (F:Fence) (n:Nat) (h229:F.fn 229) (hro:F.round=none) (hn:1≤n) (Bs n₀ b off len cap:Nat) (ao:Option Addr) (hao:0<len→ao=some ⟨b,off,none⟩) (zf:Nat→Nat) (hreach:len≤1099511627776) (w:World) (hBs:Bs<w.heap.size) (hb:b<n₀) (hn₀:n₀≤w.heap.size)
  (hc:w.cell? ⟨Bs,0,none⟩=some (.slice ao len cap)) (hI:∀j,j<len→w.cell? ⟨b,off+j,none⟩=some (.int .u32 ((zf j:Nat):Int))) :
  SeqStopsK F n Tryz.prog 229 #[.pointer (some ⟨Bs,0,none⟩)] (fun x:Fin len=>#[Value.int .i64 (x.1:Int),Value.int .u32 ((zf x.1:Nat):Int)]) (KB n₀ Bs) (fun ys=>ys=MR len len)
   (fun pre=>∃k,k<len∧pre=MR len (k+1)) len w:=fun l J Jx W hW _ _ hY h0=>
 Tryz.back1_in F n h229 hro hn l Bs n₀ b off len cap ao hao zf hreach hb J Jx hY W ((hW.cell (p:=⟨Bs,0,none⟩) hBs).trans hc) (fun j hj=>(hW.cell (p:=⟨b,off+j,none⟩) (by show b<_;omega)).trans (hI j hj)) h0
end Go.Proofs
namespace Go.Gm
def Gq (l:List Nat):Nat→Nat
 | 0=>0
 | k+1=>if l[k]?.getD 0=0 then Gq l k else k+1
theorem OY (l:List Nat):∀k,Gq l k≤k
 | 0=>WF _
 | k+1=>by
  have:=OY l k
  unfold Gq
  split <;> omega
theorem I7 {l:List Nat} (hx:Lim l):∀k,k≤l.length→l.take (Gq l k)=A0 (val (l.take k))
 | 0,_=>by
  have:A0 (val ([]:List Nat))=[]:=(Ms (l:=[]) ⟨fun x h=>(by cases h),fun x h=>(by cases h)⟩).symm
  simpa [Gq]using this.symm
 | k+1,hk=>by
  have hg:l[k]? = some l[k]:=WB (by omega)
  have ht:l.take (k+1)=l.take k++[l[k]]:=WM (by omega)
  unfold Gq
  split
  ·rename_i h
   rw [I7 hx k (by omega),ht,BS]
   rw [hg,Option.getD_some]at h
   rw [h]
   simp [val]
  ·rename_i h
   rw [hg,Option.getD_some]at h
   refine Ms ⟨fun x hxl=>hx x (XK hxl),fun x hxl=>?_⟩
   rw [ht,List.getLast?_concat]at hxl
   cases hxl
   exact h
theorem q_right {l:List Nat} {H:Aa} {id k:Nat} (hg:H[id]? = some (.cel 0 (flat cU l))) (hk:k≤l.length) (hl:l.length<9223372036854775807):Sh.fa (.ms id 0 0 k l.length 1 true) H=some (.ret (.bool (decide (k=0)||decide (l[k-1]?.getD 0≠0))),H):=by
 unfold Sh.fa
 cases k with
 | zero=>simp [A2]
 | succ k=>
  have hidx:=Cy (sz:=1) (id:=id) (n:=k+1) (K:=.i64) (g:=0) (off:=0) (cap:=l.length) (ex:=true) (i:=k) (by omega)
  simp only [WE,WQ]at hidx
  have hld:=Ib (f:=cU) (id:=id) (l:=l) (H:=H) (show A1 H id 0=some (flat cU l)by simp [A1,hg]) (i:=k) (by omega)
  have h0:¬((k+1:Nat):Int)=0:=by omega
  have hw:IntKind.i64.wrap (((k+1:Nat):Int)-1)=(k:Int):=by rw [Al] <;> omega
  have hgk:l[k]? = some l[k]:=WB (by omega)
  simp only [show A2 (.ms id 0 0 (k+1) l.length 1 true)=some (.int .i64 ((k+1:Nat):Int)) from rfl,GMb,GMc,h0,hw,hidx,hld,Xi,hgk,Option.getD_some,Yq]
  by_cases h:l[k]=0
  ·simp [h]
  ·have:¬(l[k]:Int)=0:=by omega
   simp [h,this]
theorem q_cut {l:List Nat} {H:Aa} {id:Nat} (hg:H[id]? = some (.cel 0 (flat cU l))) (hl:l.length<1152921504606846976):Sh.f0 (.ms id 0 0 l.length l.length 1 true) H=some (.ret (.ms id 0 0 (Gq l l.length) l.length 1 true),H):=by
 unfold Sh.f0
 refine Bl (σ:=Nat) (fun k=>k≤l.length∧Gq l k=Gq l l.length) (fun k=>[.ms id 0 0 k l.length 1 true]) (fun _=>H) (fun k=>k) (fun _=>some (.ret (.ms id 0 0 (Gq l l.length) l.length 1 true),H)) (fun k rec hi hrec=>?_) l.length ⟨WF _,rfl⟩ (by omega)
 obtain ⟨hk,ht⟩:=hi
 unfold Sh.f1h
 simp only [Aj,q_right hg hk (by omega),GMb,GMc]
 cases k with
 | zero=>simp [←ht,Gq,rKN,fin,forget,DM,fgt]
 | succ k=>
  by_cases h:l[k]?.getD 0=0
  ·have hw:IntKind.i64.wrap (((k+1:Nat):Int)-1)=(k:Int):=by rw [Al] <;> omega
   have hsl:Bn 1 (.ms id 0 0 (k+1) l.length 1 true) none (some (.int .i64 (k:Int))) none=some (.ms id 0 0 k l.length 1 true):=by
    have:(0:Int)≤(k:Int):=by omega
    simp only [Bn,Bk,Option.bind_some,this,if_true,Int.toNat_natCast]
    rw [if_pos ⟨trivial,by omega,by omega,by omega⟩]
    simp
   have ht':Gq l k=Gq l l.length:=by rw [←ht];simp [Gq,h]
   have hr:=hrec k ⟨by omega,ht'⟩ (by omega)
   simp only [h,show A2 (.ms id 0 0 (k+1) l.length 1 true)=some (.int .i64 ((k+1:Nat):Int)) from rfl,GMb,GMc,hw,hsl,Xi,ne_eq,not_true_eq_false,Yq]
   exact hr
  ·have ht':Gq l (k+1)=k+1:=by simp [Gq,h]
   rw [←ht,ht']
   simp only [h,GMb,GMc,Xi,ne_eq,not_false_eq_true,Yq]
   simp [rKN,fin,forget,DM,fgt]
open Go.Proofs
set_option maxRecDepth 100000
noncomputable def kK (kn kr:List Ab→Aa→Out):Sq
 | .normal,tm,H=>kn tm H
 | .ret,tm,H=>kr tm H
 | .pan v,_,H=>some (.pan v,H)
 | .exit _,_,_=>none
noncomputable def sfst:Code→Code
 | .seq a _=>a
 | c=>c
noncomputable def ssnd:Code→Code
 | .seq _ b=>b
 | c=>c
noncomputable def cmO:Orc:=ent 201 (ap1 Sh.f0) noO
noncomputable def Vk:Cfg:=mkC Tryz.prog Gs false cmO
noncomputable def cdA:Code:=sfst (G8 Tryz.f156)
noncomputable def cdB:Code:=sfst (ssnd (G8 Tryz.f156))
noncomputable def cdC:Code:=sfst (ssnd (ssnd (G8 Tryz.f156)))
noncomputable def cdD:Code:=ssnd (ssnd (ssnd (G8 Tryz.f156)))
theorem body_156:Tryz.f156.body=some (.seq cdA (.seq cdB (.seq cdC cdD))):=by kernel_rfl
noncomputable def cmA (kn:List Ab→Aa→Out) (x0 x1:Ab) (H0:Aa):Out:=
 Ao (B2 true 1 x1 H0) fun b_41 H42=>
 Ao (A3 (some [(.int .i64 0)]) H42) fun x43 H44=>
 kn [x0,x1,.undef,b_41,x43,.undef,.undef,.undef,.undef,.undef,.undef,.undef,.undef,.undef,.undef,.undef,.undef,.undef,.undef,.undef,.undef,.undef,.undef,.undef,.undef,.undef,.undef,.undef,.undef,.undef,.undef,.undef,.undef,.undef,.undef,.undef,.undef,.undef,.undef] H44
noncomputable def cmB (kn:List Ab→Aa→Out) (x0 x1 x3 x4:Ab) (H0:Aa):Out:=
 AZ (Sh.f0 x0 H0) fun x41 H42=>
 bC (Ac false 1 x3 H42) (fun x43=>Ac false 1 x3 H0=some x43∧True) fun x43=>
 AZ (Sh.f0 x43 H42) fun x44 H45=>
 bK H0 (AH (Ah 1 x3 x44 H45)) fun _ H47=>
 kn [x41,x1,.undef,x3,x4,.undef,.undef,x0,x41,x43,x44,.undef,.undef,.undef,.undef,.undef,.undef,.undef,.undef,.undef,.undef,.undef,.undef,.undef,.undef,.undef,.undef,.undef,.undef,.undef,.undef,.undef,.undef,.undef,.undef,.undef,.undef,.undef,.undef] H47
noncomputable def cmC (kn kr:List Ab→Aa→Out) (x0 x3 x4:Ab) (H0:Aa):Out:=
 (A2 x0).bind fun x41=>
 (Ac false 1 x3 H0).bind fun x42=>
 (A2 x42).bind fun x43=>
 (Ae .none .neq x41 x43).bind fun x44=>
 Ak x44 (
 (A2 x0).bind fun x45=>
 (Ac false 1 x3 H0).bind fun x46=>
 (A2 x46).bind fun x47=>
 (Ae .none .lss x45 x47).bind fun x48=>
 Ak x48 (
 bK H0 (AH (Ah 1 x4 (.int .i64 (-1)) H0)) fun _ H50=>
 kr [x0,.undef,.undef,x3,x4,.undef,.undef,.undef,.undef,.undef,.undef,x0,x41,x42,x43,x44,x0,x45,x46,x47,x48,.undef,.undef,.undef,.undef,.undef,.undef,.undef,.undef,.undef,.undef,.undef,.undef,.undef,.undef,.undef,.undef,.undef,.undef] H50) (
 bK H0 (AH (Ah 1 x4 (.int .i64 1) H0)) fun _ H52=>
 kr [x0,.undef,.undef,x3,x4,.undef,.undef,.undef,.undef,.undef,.undef,x0,x41,x42,x43,x44,x0,x45,x46,x47,x48,.undef,.undef,.undef,.undef,.undef,.undef,.undef,.undef,.undef,.undef,.undef,.undef,.undef,.undef,.undef,.undef,.undef,.undef] H52)) (
 kn [x0,.undef,.undef,x3,x4,.undef,.undef,.undef,.undef,.undef,.undef,x0,x41,x42,x43,x44,.undef,.undef,.undef,.undef,.undef,.undef,.undef,.undef,.undef,.undef,.undef,.undef,.undef,.undef,.undef,.undef,.undef,.undef,.undef,.undef,.undef,.undef,.undef] H0)
theorem cmA_eq (kn kr:List Ab→Aa→Out) (x0 x1:Ab) (H:Aa):ev2 Vk 39 cdA .lf (kK kn kr) [x0,x1,.undef,.undef,.undef,.undef,.undef,.undef,.undef,.undef,.undef,.undef,.undef,.undef,.undef,.undef,.undef,.undef,.undef,.undef,.undef,.undef,.undef,.undef,.undef,.undef,.undef,.undef,.undef,.undef,.undef,.undef,.undef,.undef,.undef,.undef,.undef,.undef,.undef] H=cmA kn x0 x1 H:=by kernel_rfl
theorem cmB_eq (kn kr:List Ab→Aa→Out) (x0 x1 x3 x4:Ab) (H:Aa):ev2 Vk 39 cdB (.reg [0,1,2,3,4,5]) (kK kn kr) [x0,x1,.undef,x3,x4,.undef,.undef,.undef,.undef,.undef,.undef,.undef,.undef,.undef,.undef,.undef,.undef,.undef,.undef,.undef,.undef,.undef,.undef,.undef,.undef,.undef,.undef,.undef,.undef,.undef,.undef,.undef,.undef,.undef,.undef,.undef,.undef,.undef,.undef] H=cmB kn x0 x1 x3 x4 H:=by kernel_rfl
theorem cmC_eq (kn kr:List Ab→Aa→Out) (x0 x3 x4:Ab) (H:Aa):ev2 Vk 39 cdC (.tw .lf (.tw (.tw (.tw .lf (.tw (.tw .lf .lf) .lf)) (.tw .lf .lf)) .lf)) (kK kn kr) [x0,.undef,.undef,x3,x4,.undef,.undef,.undef,.undef,.undef,.undef,.undef,.undef,.undef,.undef,.undef,.undef,.undef,.undef,.undef,.undef,.undef,.undef,.undef,.undef,.undef,.undef,.undef,.undef,.undef,.undef,.undef,.undef,.undef,.undef,.undef,.undef,.undef,.undef] H=cmC kn kr x0 x3 x4 H:=by kernel_rfl
structure SW {α:Type} (lt:α→α→Bool):Prop where
 asy:∀a b,lt a b=true→lt b a=false
 neg:∀a b c,lt a b=false→lt b c=false→lt a c=false
section
variable {α:Type} {lt:α→α→Bool}
def Bw (lt:α→α→Bool) (a b:α):Bool:=!lt a b && !lt b a
def ES (lt:α→α→Bool) (l m:List α):Prop:=∀a,l.filter (Bw lt a)=m.filter (Bw lt a)
def DS (lt:α→α→Bool) (l:List α):Prop:=l.Pairwise fun a b=>lt b a=false
theorem SW.irr (h:SW lt) (a:α):lt a a=false:=by
 cases e:lt a a with
 | false=>rfl
 | true=>have:=h.asy a a e;rw [e]at this;cases this
theorem M0 (h:SW lt) (a:α):Bw lt a a=true:=by unfold Bw;rw [h.irr];rfl
theorem Fv {a b:α}:Bw lt a b=true↔lt a b=false∧lt b a=false:=by unfold Bw;simp
theorem ES.refl (l:List α):ES lt l l:=fun _=>rfl
theorem ES.trans {l m n:List α} (h:ES lt l m) (k:ES lt m n):ES lt l n:=fun a=>(h a).trans (k a)
theorem ES.app {l m l' m':List α} (h:ES lt l m) (k:ES lt l' m'):ES lt (l++l') (m++m'):=fun a=>by
 rw [Xw,Xw,h a,k a]
theorem ES.mem (hs:SW lt) {l m:List α} (h:ES lt l m) {a:α}:a∈l↔a∈m:=by
 have e:∀l:List α,a∈l↔a∈l.filter (Bw lt a):=fun l=>by rw [XT];exact ⟨fun h=>⟨h,M0 hs a⟩,fun h=>h.1⟩
 rw [e l,e m,h a]
theorem GN {l:List α} {p:α→Bool} (h:∀a∈l,p a=false):l.filter p=[]:=by
 rw [List.filter_eq_nil_iff]
 intro a ha e
 rw [h a ha]at e;cases e
theorem ES.swap (hs:SW lt) {u v:List α} (h:∀x∈u,∀y∈v,lt y x=true):ES lt (u++v) (v++u):=fun a=>by
 rw [Xw,Xw]
 by_cases hu:∃x∈u,Bw lt a x=true
 ·obtain ⟨x,hx,hxa⟩:=hu
  have hv:v.filter (Bw lt a)=[]:=GN fun y hy=>by
   cases e:Bw lt a y with
   | false=>rfl
   | true=>
    rw [Fv]at e hxa
    have:=hs.neg y a x e.2 hxa.1
    rw [h x hx y hy]at this;cases this
  rw [hv,Xl,List.nil_append]
 ·have:u.filter (Bw lt a)=[]:=GN fun x hx=>by
   cases e:Bw lt a x with
   | false=>rfl
   | true=>exact absurd ⟨x,hx,e⟩ hu
  rw [this,Xl,List.nil_append]
theorem filter_eqv (hs:SW lt) {x y:α} (h:Bw lt x y=true):Bw lt x=Bw lt y:=by
 rw [Fv]at h
 funext a
 rw [WW,Fv,Fv]
 exact ⟨fun ⟨p,q⟩=>⟨hs.neg _ _ _ h.2 p,hs.neg _ _ _ q h.1⟩,fun ⟨p,q⟩=>⟨hs.neg _ _ _ h.1 p,hs.neg _ _ _ q h.2⟩⟩
structure Srt (lt:α→α→Bool) (l m:List α):Prop where
 srt:DS lt m
 st:ES lt l m
 len:m.length=l.length
theorem LJ {l m:List α} (h1:DS lt l) (h2:DS lt m) (h:∀a∈l,∀b∈m,lt b a=false):DS lt (l++m):=XJ.2 ⟨h1,h2,h⟩
def swp (l:List α) (i j:Nat):List α:=match l[i]?,l[j]? with
 | some a,some b=>(l.set i b).set j a
 | _,_=>l
theorem set_at:∀(A:List α) (x y:α) (R:List α),(A++x::R).set A.length y=A++y::R
 | [],_,_,_=>rfl
 | a::A,x,y,R=>by
  show a::(A++x::R).set A.length y=_
  rw [set_at A x y R];rfl
theorem Na (l:List α) (i j:Nat):(swp l i j).length=l.length:=by
 unfold swp
 split
 ·rw [Xo,Xo]
 ·rfl
theorem get_at (A:List α) (x:α) (R:List α):(A++x::R)[A.length]? = some x:=by simp
theorem Sv (A M B:List α) (x y:α) {i j:Nat} (hi:i=A.length) (hj:j=A.length+1+M.length):swp (A++x::(M++y::B)) i j=A++y::(M++x::B)∧swp (A++x::(M++y::B)) j i=A++y::(M++x::B):=by
 subst hi
 have e:∀z:α,A++z::(M++y::B)=(A++z::M)++y::B:=fun z=>by simp
 have hlen:∀z:α,(A++z::M).length=j:=fun z=>by simp;omega
 have g1:(A++x::(M++y::B))[A.length]? = some x:=get_at _ _ _
 have g2:(A++x::(M++y::B))[j]? = some y:=by rw [e,←hlen x];exact get_at _ _ _
 have s1:∀z w:α,(A++z::(M++y::B)).set j w=A++z::(M++w::B):=fun z w=>by rw [e,←hlen z,set_at];simp
 constructor
 ·unfold swp
  rw [g1,g2]
  dsimp only
  rw [set_at,s1]
 ·unfold swp
  rw [g1,g2]
  dsimp only
  rw [s1,set_at]

end
section
variable {α:Type} {lt:α→α→Bool}
def HA (lt:α→α→Bool) (l:List α) (i j:Nat):Bool:=match l[i]?,l[j]? with
 | some x,some y=>lt x y
 | _,_=>false
theorem S3 {l:List α} {i j:Nat} (hi:i<l.length) (hj:j<l.length):HA lt l i j=lt l[i] l[j]:=by
 unfold HA;rw [WB hi,WB hj]
def JL (lt:α→α→Bool) (a:Nat):Nat→List α→List α
 | 0,l=>l
 | j+1,l=>if a<j+1∧HA lt l (j+1) j=true then JL lt a j (swp l (j+1) j)else l
theorem insJ_len (a:Nat):∀(j:Nat) (l:List α),(JL lt a j l).length=l.length
 | 0,l=>rfl
 | j+1,l=>by
  unfold JL
  split
  ·rw [insJ_len a j,Na]
  ·rfl
theorem insJ_ok (hs:SW lt) (A:List α) (x:α):∀(n:Nat) (S R:List α),S.length=n→DS lt S→∃P,JL lt A.length (A.length+S.length) (A++(S++x::R))=A++(P++R)∧Srt lt (S++[x]) P
 | 0,S,R,hn,_=>by
  have:S=[]:=WU hn
  subst this
  refine ⟨[x],?_,⟨XH _ _,.refl _,rfl⟩⟩
  show JL lt A.length (A.length+0) _=_
  rw [Nat.add_zero]
  cases hA:A.length with
  | zero=>rfl
  | succ k=>
   unfold JL
   rw [if_neg (by omega)];rfl
 | n+1,S,R,hn,hS=>by
  have hne:S≠[]:=fun e=>by rw [e]at hn;cases hn
  obtain ⟨T,y,rfl⟩:∃T y,S=T++[y]:=⟨S.dropLast,S.getLast hne,(List.dropLast_concat_getLast hne).symm⟩
  have hT:T.length=n:=by simpa using hn
  have hS':=hS
  unfold DS at hS'
  rw [XJ]at hS'
  obtain ⟨hT1,_,hT2⟩:=hS'
  have hl:A++((T++[y])++x::R)=(A++T)++y::([]++x::R):=by simp
  have hAT:(A++T).length=A.length+T.length:=WJ
  have g1:HA lt (A++((T++[y])++x::R)) (A.length+T.length+1) (A.length+T.length)=lt x y:=by
   unfold HA
   have e1:(A++((T++[y])++x::R))[A.length+T.length+1]? = some x:=by
    have:A++((T++[y])++x::R)=(A++T++[y])++x::R:=by simp
    rw [this,show A.length+T.length+1=(A++T++[y]).length by simp;omega]
    exact get_at _ _ _
   have e2:(A++((T++[y])++x::R))[A.length+T.length]? = some y:=by
    rw [hl,←hAT];exact get_at _ _ _
   rw [e1,e2]
  have hlen:A.length+(T++[y]).length=A.length+T.length+1:=by simp;omega
  rw [hlen]
  unfold JL
  rw [g1]
  by_cases hxy:lt x y=true
  ·rw [if_pos ⟨by omega,hxy⟩,hl,(Sv (A++T) [] R y x hAT.symm (by rw [hAT];rfl)).2]
   obtain ⟨P,p1,p2⟩:=insJ_ok hs A x n T (y::R) hT hT1
   refine ⟨P++[y],?_,⟨?_,?_,by rw [WJ,p2.len];simp⟩⟩
   ·have:(A++T)++x::([]++y::R)=A++(T++x::(y::R)):=by simp
    rw [this,p1];simp
   ·refine LJ p2.srt (XH _ _) fun a ha b hb=>?_
    rw [WY]at hb
    subst hb
    have:=(p2.st.mem hs).2 ha
    rcases WX.1 this with h | h
    ·exact hT2 a h b (by simp)
    ·rw [WY]at h;rw [h];exact hs.asy _ _ hxy
   ·refine ES.trans ?_ (p2.st.app (.refl [y]))
    rw [WG,WG]
    exact (ES.refl T).app (ES.swap hs fun a ha b hb=>by
     rw [WY]at ha hb;rw [ha,hb];exact hxy)
  ·have hxy':lt x y=false:=by simpa using hxy
   rw [if_neg (fun h=>hxy h.2)]
   refine ⟨T++[y]++[x],by simp,⟨LJ hS (XH _ _) fun a ha b hb=>?_,.refl _,rfl⟩⟩
   rw [WY]at hb
   subst hb
   rcases WX.1 ha with h | h
   ·exact hs.neg _ _ _ hxy' (hT2 a h y (by simp))
   ·rw [WY]at h;rw [h];exact hxy'
def Sc (lt:α→α→Bool) (a:Nat):Nat→List α→List α
 | 0,l=>l
 | k+1,l=>JL lt a (a+1+k) (Sc lt a k l)
theorem insN_len (a:Nat):∀(k:Nat) (l:List α),(Sc lt a k l).length=l.length
 | 0,l=>rfl
 | k+1,l=>by unfold Sc;rw [insJ_len,insN_len a k]
theorem insN_ok (hs:SW lt) (A:List α):∀(k:Nat) (S R:List α),S.length=k+1→∃P,Sc lt A.length k (A++(S++R))=A++(P++R)∧Srt lt S P
 | 0,S,R,hn=>by
  obtain ⟨x,rfl⟩:=Yt.1 hn
  exact ⟨[x],rfl,⟨XH _ _,.refl _,rfl⟩⟩
 | k+1,S,R,hn=>by
  have hne:S≠[]:=fun e=>by rw [e]at hn;cases hn
  obtain ⟨T,y,rfl⟩:∃T y,S=T++[y]:=⟨S.dropLast,S.getLast hne,(List.dropLast_concat_getLast hne).symm⟩
  have hT:T.length=k+1:=by simpa using hn
  obtain ⟨P,p1,p2⟩:=insN_ok hs A k T (y::R) hT
  have hPl:P.length=k+1:=by rw [p2.len,hT]
  obtain ⟨P',q1,q2⟩:=insJ_ok hs A y P.length P R rfl p2.srt
  refine ⟨P',?_,⟨q2.srt,(p2.st.app (.refl [y])).trans q2.st,by rw [q2.len,WJ,WJ,p2.len]⟩⟩
  unfold Sc
  have:A++((T++[y])++R)=A++(T++y::R):=by simp
  rw [this,p1,show A.length+1+k=A.length+P.length by omega]
  exact q1

end
section
variable {α:Type} {lt:α→α→Bool}
def swR (a b:Nat):Nat→List α→List α
 | 0,l=>l
 | k+1,l=>swp (swR a b k l) (a+k) (b+k)
theorem Sw (a b:Nat):∀(k:Nat) (l:List α),(swR a b k l).length=l.length
 | 0,l=>rfl
 | k+1,l=>by unfold swR;rw [Na,Sw a b k]
theorem swR_up (A M B U V:List α) (h:U.length=V.length):∀k,k≤U.length→swR A.length (A.length+U.length+M.length) k (A++(U++(M++(V++B))))=A++((V.take k++U.drop k)++(M++((U.take k++V.drop k)++B)))
 | 0,_=>by simp [swR]
 | k+1,hk=>by
  unfold swR
  rw [swR_up A M B U V h k (by omega)]
  have hku:k<U.length:=by omega
  have hkv:k<V.length:=by omega
  rw [Xf hku,Xf hkv,WM hku,WM hkv]
  have e:A++((V.take k++U[k]::U.drop (k+1))++(M++((U.take k++V[k]::V.drop (k+1))++B)))=(A++V.take k)++U[k]::((U.drop (k+1)++(M++U.take k))++V[k]::(V.drop (k+1)++B)):=by simp only [WG,List.cons_append,List.nil_append]
  have h1:(V.take k).length=k:=by rw [WT];omega
  have h2:(U.take k).length=k:=by rw [WT];omega
  rw [e,(Sv (A++V.take k) (U.drop (k+1)++(M++U.take k)) (V.drop (k+1)++B) U[k] V[k] (by rw [WJ,h1]) (by simp only [WJ,h1,h2,WZ];omega)).1]
  simp only [WG,List.cons_append,List.nil_append]
theorem swR_ok (A M B U V:List α) (h:U.length=V.length) {a b n:Nat} (ha:a=A.length) (hb:b=A.length+U.length+M.length) (hn:n=U.length):swR a b n (A++(U++(M++(V++B))))=A++(V++(M++(U++B))):=by
 subst ha;subst hb;subst hn
 rw [swR_up A M B U V h U.length (WF _),WN (by omega),WN (WF _),XR (WF _),XR (by omega)]
 simp
structure OT (A B W:List α) (m i j:Nat) (l:List α):Prop where
 ex:∃P u v S,l=A++(P++(u++(v++(S++B))))∧P++(v++(u++S))=W∧u.length=i∧v.length=j∧A.length+P.length+i=m
 pos:0<i∧0<j
theorem OT.start {A B U V:List α} (hU:0<U.length) (hV:0<V.length):OT A B (V++U) (A.length+U.length) U.length V.length (A++(U++(V++B))):=
 ⟨⟨[],U,V,[],by simp,by simp,rfl,rfl,by simp⟩,hU,hV⟩
theorem OT.hi {A B W l:List α} {m i j:Nat} (h:OT A B W m i j l) (hij:j<i):OT A B W m (i-j) j (swR (m-i) m j l):=by
 obtain ⟨⟨P,u,v,S,rfl,hW,hu,hv,hm⟩,h1,h2⟩:=h
 have hsp:u.take j++u.drop j=u:=Xr j u
 have l1:(u.take j).length=j:=by rw [WT];omega
 have l2:(u.drop j).length=i-j:=by rw [WZ,hu]
 have e:A++(P++(u++(v++(S++B))))=(A++P)++(u.take j++(u.drop j++(v++(S++B)))):=by
  conv=>lhs;rw [←hsp]
  simp only [WG]
 rw [e,swR_ok (A++P) (u.drop j) (S++B) (u.take j) v (by rw [l1,hv]) (by rw [WJ];omega) (by rw [WJ,l1,l2];omega) l1.symm]
 refine ⟨⟨P++v,u.drop j,u.take j,S,by simp,?_,l2,l1,by rw [WJ];omega⟩,by omega,h2⟩
 rw [←hW]
 conv=>rhs;rw [←hsp]
 simp only [WG]
theorem OT.lo {A B W l:List α} {m i j:Nat} (h:OT A B W m i j l) (hij:i<j):OT A B W m i (j-i) (swR (m-i) (m+j-i) i l):=by
 obtain ⟨⟨P,u,v,S,rfl,hW,hu,hv,hm⟩,h1,h2⟩:=h
 have hsp:v.take (j-i)++v.drop (j-i)=v:=Xr (j-i) v
 have l1:(v.take (j-i)).length=j-i:=by rw [WT];omega
 have l2:(v.drop (j-i)).length=i:=by rw [WZ,hv];omega
 have e:A++(P++(u++(v++(S++B))))=(A++P)++(u++(v.take (j-i)++(v.drop (j-i)++(S++B)))):=by
  conv=>lhs;rw [←hsp]
  simp only [WG]
 rw [e,swR_ok (A++P) (v.take (j-i)) (S++B) u (v.drop (j-i)) (by rw [l2,hu]) (by rw [WJ];omega) (by rw [WJ,l1];omega) hu.symm]
 refine ⟨⟨P,v.drop (j-i),v.take (j-i),u++S,by simp,?_,l2,l1,hm⟩,h1,by omega⟩
 rw [←hW]
 conv=>rhs;rw [←hsp]
 simp only [WG]
theorem OT.eq {A B W l:List α} {m i:Nat} (h:OT A B W m i i l):swR (m-i) m i l=A++(W++B):=by
 obtain ⟨⟨P,u,v,S,rfl,hW,hu,hv,hm⟩,h1,h2⟩:=h
 have e:A++(P++(u++(v++(S++B))))=(A++P)++(u++([]++(v++(S++B)))):=by simp
 rw [e,swR_ok (A++P) [] (S++B) u v (by omega) (by rw [WJ];omega) (by rw [WJ];simp;omega) hu.symm,←hW]
 simp
theorem OT.len {A B W l:List α} {m i j:Nat} (h:OT A B W m i j l):i≤m∧m+j≤l.length:=by
 obtain ⟨⟨P,u,v,S,rfl,hW,hu,hv,hm⟩,h1,h2⟩:=h
 simp only [WJ];omega
structure BsI (p:Nat→Bool) (s r i j:Nat):Prop where
 le:s≤i∧i≤j∧j≤r
 up:∀c,s≤c→c<i→p c=true
 dn:∀c,j≤c→c<r→p c=false
theorem BsI.start {p:Nat→Bool} {s r:Nat} (h:s≤r):BsI p s r s r:=⟨⟨WF _,h,WF _⟩,fun c _ _=>by omega,fun c _ _=>by omega⟩
theorem BsI.yes {p:Nat→Bool} {s r i j h:Nat} (k:BsI p s r i j) (hm:∀c d,s≤c→c≤d→d<r→p d=true→p c=true) (h1:i≤h) (h2:h<j) (hp:p h=true):BsI p s r (h+1) j:=by
 obtain ⟨⟨a,b,c⟩,d,e⟩:=k
 exact ⟨⟨by omega,by omega,c⟩,fun x hx hy=>hm x h hx (by omega) (by omega) hp,e⟩
theorem BsI.no {p:Nat→Bool} {s r i j h:Nat} (k:BsI p s r i j) (hm:∀c d,s≤c→c≤d→d<r→p d=true→p c=true) (h1:i≤h) (h2:h<j) (hp:p h=false):BsI p s r i h:=by
 obtain ⟨⟨a,b,c⟩,d,e⟩:=k
 refine ⟨⟨a,h1,by omega⟩,d,fun x hx hy=>?_⟩
 cases hq:p x with
 | false=>rfl
 | true=>have:=hm h x (by omega) hx hy hq;rw [hp]at this;cases this

end
end Go.Gm
