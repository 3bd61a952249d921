/- Texts of this proof, joined. -/
import Derived.Test.YtagddbecnkbcdaaGreatJ2
import Derived.Test.YtagddbecnkbcdaaGreatChecked
import Derived.KernelRfl
import Derived.ProofKit
import Derived.OpenShut
import Derived.JoinedCond
import Derived.Carry
import Derived.Shelf.Small.Strs
import Derived.Shelf.Small.Wraps
import Derived.Shelf.Strings.Search1
import Derived.Shelf.GgClosure.StringsIndexFunc
import Derived.Ground.GgwProg
import Derived.Shelf.GgClosure.StringsIndexFuncTop
import Derived.Shelf.Strings.Prefix
import Derived.Shelf.Strings.FuncGrows
import Derived.Test.YtagddbecnkbcdaaGreatProg
set_option linter.unusedVariables false
set_option linter.unusedSimpArgs false
namespace Go.Gm
noncomputable def Sh.f5f (b:Ab) (c:Aa):Out:=
 (Ae .none .lss b (.int .i32 48)).bind fun a=>
 gk a false (some b) fun d=>
 gk a false (Ae .none .gtr d (.int .i32 57)) fun e=>
 (A8 a (.bool true) e).bind fun f=>
 rK c f c
noncomputable def Sh.fd (b:Ab) (c:Aa):Out:=
 (A5 b).bind fun d=>
 (Ae .none .eql d (.int .i64 0)).bind fun a=>
 gk a false (some b) fun e=>
 gk a false (some b) fun f=>
 gk a false (A5 f) fun g=>
 gk a false (Ae .none .sub g (.int .i64 1)) fun h=>
 gk a false (Au 1 e h) fun i=>
 gk a false (Ac false 1 i c) fun j=>
 gk a false (Ae .none .neq j (.int .u32 0)) fun k=>
 (A8 a (.bool true) k).bind fun l=>
 rK c l c
noncomputable def Sh.f1w (b:Aa) (d:LK) (a:Ab) (e:Aa):Out:=
 bK b (Sh.fd a e) fun f c=>
 (unA .not f).bind fun g=>
 Aj g (
 (A5 a).bind fun h=>
 (Ae .none .sub h (.int .i64 1)).bind fun i=>
 (Bw 1 a none (some i) none).bind fun j=>
 d [j] c) (
 rKN b a c)
noncomputable def Sh.f0 (b:Ab) (a:Aa):Out:=
 Ao (fun c vs H=>Sh.f1w a c (ag vs 0) H) AK [b] a
noncomputable def Sh.fz (a:Aa):Out:=
 Ak (Ax (some [(.int .i64 0),(.int .i64 0)]) a) fun b d=>
 (A2 (some [(.int .i64 0),(.int .i64 0)]) [(0,1,(.int .i64 1000)),(1,1,(.int .i64 100000))]).bind fun e=>
 bP a (A3 (Af 2 b e d)) fun _ c=>
 (Ac true 2 b c).bind fun f=>rP a f c
noncomputable def Sh.f2m (b d:Ab) (c:Aa):Out:=
 (Ae .none .geq b (.int .i64 0)).bind fun a=>
 gk a true (some b) fun e=>
 gk a true (some d) fun f=>
 gk a true (Ae .none .leq e f) fun g=>
 (A8 a g (.bool false)).bind fun h=>
 rK c h c
noncomputable def Sh.f2n (f:Ab) (a:Aa):Out:=
 Ak (Bz true 2 f a) fun d e=>
 (Ad 0 d).bind fun g=>
 (Ac false 1 g e).bind fun h=>
 bP a (Sh.f2m h (.int .i64 1000) e) fun b c=>
 gk b true (Ad 1 d) fun i=>
 gk b true (Ac false 1 i c) fun j=>
 gbP a b true c (Sh.f2m j (.int .i64 100000) c) fun k l=>
 (A8 b k (.bool false)).bind fun m=>
 rP a m l
noncomputable def Sh.f6x (c:Aa) (h:LK) (d e f g a:Ab) (b:Aa):Out:=
 (Ae .none .lss a g).bind fun i=>
 Aj i (
 (BV d a).bind fun j=>
 (BV e a).bind fun k=>
 (Ae .none .neq j k).bind fun l=>
 Aj l (
 rK c a b) (
 (Ae .none .add a (.int .i64 1)).bind fun m=>
 h [d,e,f,g,m] b)) (
 rK c f b)
noncomputable def Sh.f2o (a b:Ab) (c:Aa):Out:=
 (BE a).bind fun e=>
 (BE b).bind fun f=>
 (HM V7 e [f]).bind fun d=>
 Ao (fun g vs H=>Sh.f6x c g (ag vs 0) (ag vs 1) (ag vs 2) (ag vs 3) (ag vs 4) H) AK [a,b,d,d,(.int .i64 0)] c
noncomputable def Sh.fe (b:Ab) (a:Aa):Out:=
 (At b).bind fun c=>
 (Ad 1 c).bind fun d=>
 bC (Ac false 1 d a) (fun _=>True) fun e=>
 (At b).bind fun f=>
 (Ad 0 f).bind fun g=>
 bC (Ac false 1 g a) (fun _=>True) fun h=>
 (BE h).bind fun i=>
 (Ae .none .eql e i).bind fun j=>
 rK a j a
noncomputable def Sh.f8h (a:Aa) (b:Aa):Out:=
 (A2 (some [(.int .i64 0),(.str [])]) [(0,1,(.int .i64 2)),(1,1,(.str []))]).bind fun c=>
 (VN Hw c).bind fun d=>
 bK a (panA d b) fun _ e=>
 rK a (.tup []) e
noncomputable def Sh.f9 (c d:Ab) (a:Aa):Out:=
 AH (fun j1=>
 bK a (Sh.fe c a) fun e b=>
 Aj e (
 (A2 (some [(.int .i64 0),(.str [])]) [(0,1,(.int .i64 3)),(1,1,d)]).bind fun f=>
 (VN Hw f).bind fun g=>
 bK a (panA g b) fun _ h=>
 j1 [] h) (
 j1 [] b)) (fun vs H=>Sh.f8h a H)
noncomputable def Sh.ft (b c g:Ab) (a:Aa):Out:=
 (At b).bind fun h=>
 (Ad 0 h).bind fun i=>
 bC (Ac false 1 i a) (fun _=>True) fun j=>
 (At b).bind fun k=>
 (Ad 1 k).bind fun l=>
 bC (Ac false 1 l a) (fun _=>True) fun m=>
 (BF j (some m) none).bind fun n=>
 AZ (Sh.f2o n c a) fun d e=>
 (At b).bind fun o=>
 (Ad 1 o).bind fun p=>
 (Ac false 1 p e).bind fun q=>
 (Ae .none .add q d).bind fun r=>
 (At b).bind fun s=>
 (Ad 1 s).bind fun t=>
 bK a (A3 (Af 1 t r e)) fun _ f=>
 (BE c).bind fun u=>
 (Ae .none .lss d u).bind fun v=>
 Aj v (
 (BF c (some d) none).bind fun w=>
 (Ae .none .add w g).bind fun x=>
 bK a (Sh.f9 b x f) fun z y=>
 rK a (.tup []) y) (
 rK a (.tup []) f)
noncomputable def Sh.fh (c e:Ab) (d:Aa):Out:=
 AZ (Sh.fe c d) fun f b=>
 (unA .not f).bind fun a=>
 gk a true (some e) fun g=>
 gk a true (some c) fun h=>
 gk a true (At h) fun i=>
 gk a true (Ad 0 i) fun j=>
 gkc a true (Ac false 1 j b) (fun _ _=>True) fun k=>
 gk a true (some c) fun l=>
 gk a true (At l) fun m=>
 gk a true (Ad 1 m) fun n=>
 gkc a true (Ac false 1 n b) (fun _ _=>True) fun o=>
 gk a true (BV k o) fun p=>
 gbN a true b (Sh.f2l g p b) fun q r=>
 gk a true (Ae .none .geq q (.int .i64 0)) fun s=>
 (A8 a s (.bool false)).bind fun t=>
 rK d t r
noncomputable def Sh.f7y (a:Aa) (b:Ab) (c:Aa):Out:=
 (At b).bind fun d=>
 (Ad 1 d).bind fun e=>
 (Ac false 1 e c).bind fun f=>
 (Ae .none .add f (.int .i64 1)).bind fun g=>
 (At b).bind fun h=>
 (Ad 1 h).bind fun i=>
 bK a (A3 (Af 1 i g c)) fun _ j=>
 rK a (.tup []) j
noncomputable def Sh.f6y (b:Aa) (a d:Ab) (e:Aa):Out:=
 AH (fun j2=>
 bK b (Sh.fh a (.str [10]) e) fun f c=>
 (unA .not f).bind fun g=>
 Aj g (
 (Ae .none .add (.str [10]) d).bind fun h=>
 bK b (Sh.f9 a h c) fun j i=>
 j2 [a] i) (
 j2 [a] c)) (fun vs H=>Sh.f7y b (ag vs 0) H)
noncomputable def Sh.fu (a d:Ab) (b:Aa):Out:=
 bK b (Sh.fe a b) fun f e=>
 Aj f (
 rK b (.tup []) e) (
 AH (fun j1=>
 bK b (Sh.fh a (.str [13]) e) fun g c=>
 Aj g (
 (At a).bind fun h=>
 (Ad 1 h).bind fun i=>
 (Ac false 1 i c).bind fun j=>
 (Ae .none .add j (.int .i64 1)).bind fun k=>
 (At a).bind fun l=>
 (Ad 1 l).bind fun m=>
 bK b (A3 (Af 1 m k c)) fun _ n=>
 j1 [a,d] n) (
 j1 [a,d] c)) (fun vs H=>Sh.f6y b (ag vs 0) (ag vs 1) H))
noncomputable def Sh.f2p (b:Ab) (c:Aa):Out:=
 (Ae .none .gtr b (.int .u8 32)).bind fun a=>
 gk a true (some b) fun d=>
 gk a true (Ae .none .lss d (.int .u8 127)) fun e=>
 (A8 a e (.bool false)).bind fun f=>
 rK c f c
noncomputable def Sh.f6z (c:Aa) (b d:Ab) (a:Aa):Out:=
 (At b).bind fun e=>
 (Ad 0 e).bind fun f=>
 bC (Ac false 1 f a) (fun _=>True) fun g=>
 (At b).bind fun h=>
 (Ad 1 h).bind fun i=>
 bC (Ac false 1 i a) (fun _=>True) fun j=>
 (BF g (some d) (some j)).bind fun k=>
 rK c k a
noncomputable def Sh.f70 (g:Aa) (i:LK) (a h d:Ab) (j:Aa):Out:=
 AZ (Sh.fe a j) fun k e=>
 (unA .not k).bind fun c=>
 gk c true (some a) fun l=>
 gk c true (At l) fun m=>
 gk c true (Ad 1 m) fun n=>
 gkc c true (Ac false 1 n e) (fun _ _=>True) fun o=>
 gk c true (some d) fun p=>
 gk c true (Ae .none .sub o p) fun q=>
 gk c true (Ae .none .lss q (.int .i64 40)) fun r=>
 (A8 c r (.bool false)).bind fun b=>
 gk b true (some a) fun s=>
 gk b true (At s) fun t=>
 gk b true (Ad 0 t) fun u=>
 gkc b true (Ac false 1 u e) (fun _ _=>True) fun v=>
 gk b true (some a) fun w=>
 gk b true (At w) fun x=>
 gk b true (Ad 1 x) fun y=>
 gkc b true (Ac false 1 y e) (fun _ _=>True) fun z=>
 gk b true (BV v z) fun aa=>
 gbN b true e (Sh.f2p aa e) fun ab f=>
 (A8 b ab (.bool false)).bind fun ac=>
 Aj ac (
 (At a).bind fun ad=>
 (Ad 1 ad).bind fun ae=>
 (Ac false 1 ae f).bind fun aj=>
 (Ae .none .add aj (.int .i64 1)).bind fun ak=>
 (At a).bind fun al=>
 (Ad 1 al).bind fun am=>
 bK g (A3 (Af 1 am ak f)) fun _ an=>
 i [a,h,d] an) (
 AH (fun j2=>
 (At a).bind fun ap=>
 (Ad 1 ap).bind fun aq=>
 (Ac false 1 aq f).bind fun ar=>
 (Ae .none .eql ar d).bind fun au=>
 Aj au (
 (Ae .none .add (.str [97]) h).bind fun av=>
 bK g (Sh.f9 a av f) fun ax aw=>
 j2 [a,d] aw) (
 j2 [a,d] f)) (fun vs H=>Sh.f6z g (ag vs 0) (ag vs 1) H))
noncomputable def Sh.f1x (b c:Ab) (a:Aa):Out:=
 (At b).bind fun d=>
 (Ad 1 d).bind fun e=>
 (Ac false 1 e a).bind fun f=>
 Ao (fun g vs H=>Sh.f70 a g (ag vs 0) (ag vs 1) (ag vs 2) H) AK [b,c,f] a
noncomputable def Sh.f2q (e:Ab) (a:Aa):Out:=
 (A2 (some [(.int .i64 0),(.str [])]) [(0,1,(.int .i64 4)),(1,1,(.str []))]).bind fun b=>
 (VN Hw b).bind fun c=>
 bK a (panA c a) fun _ d=>
 rK a (.tup []) d
noncomputable def Sh.f2r (c b:Ab) (d:Aa):Out:=
 (BE c).bind fun e=>
 (BE b).bind fun f=>
 (Ae .none .geq e f).bind fun a=>
 gk a true (some c) fun g=>
 gk a true (some b) fun h=>
 gk a true (BE h) fun i=>
 gk a true (BF g none (some i)) fun j=>
 gk a true (some b) fun k=>
 gk a true (Ae .none .eql j k) fun l=>
 (A8 a l (.bool false)).bind fun m=>
 rK d m d
noncomputable def Sh.f4o (b c:Ab) (a:Aa):Out:=
 bK a (Sh.f2r b c a) fun e d=>
 (unA .not e).bind fun f=>
 Aj f (
 rK a (.tup [b,(.bool false)]) d) (
 (BE c).bind fun g=>
 (BF b (some g) none).bind fun h=>
 rK a (.tup [h,(.bool true)]) d)
noncomputable def Sh.f2s (c d:Ab) (a:Aa):Out:=
 bK a (Sh.f4o c d a) fun b e=>
 (As 0 b).bind fun f=>
 (As 1 b).bind fun g=>
 rK a (.tup [f,g]) e
noncomputable def Sh.f2t (d c:Ab) (a:Aa):Out:=
 (Ae .none .lss c (.int .i64 0)).bind fun b=>
 gk b false (some c) fun h=>
 gk b false (some d) fun i=>
 gk b false (BE i) fun j=>
 gk b false (Ae .none .gtr h j) fun k=>
 (A8 b (.bool true) k).bind fun l=>
 Aj l (
 rK a (.int .i64 0) a) (
 (BF d (some c) none).bind fun e=>
 bK a (Sh.f2k e (.fn 235 []) a) fun f g=>
 (Ae .none .lss f (.int .i64 0)).bind fun m=>
 Aj m (
 (BE e).bind fun n=>
 rK a n g) (
 rK a f g))
noncomputable def Sh.f71 (a:Aa) (k:LK) (e f b g h i c:Ab) (d:Aa):Out:=
 (Ae .none .lss c i).bind fun l=>
 Aj l (
 (Au 1 h c).bind fun m=>
 (Ac false 1 m d).bind fun n=>
 (AD .u64 n).bind fun o=>
 (AD .u64 f).bind fun p=>
 (Ae .none .mul o p).bind fun q=>
 (Ae .none .add g q).bind fun j=>
 (AD .u32 j).bind fun r=>
 (Au 1 b c).bind fun s=>
 bP a (A3 (Af 1 s r d)) fun _ t=>
 (Ae .none .shr j (.int .u64 32)).bind fun u=>
 (Ae .none .add c (.int .i64 1)).bind fun v=>
 k [e,f,b,u,h,i,v] t) (
 (A5 e).bind fun w=>
 (AD .u32 g).bind fun x=>
 (Au 1 b w).bind fun y=>
 bP a (A3 (Af 1 y x d)) fun _ z=>
 bP a (Sh.f0 b z) fun aa ab=>
 rPN a aa ab)
noncomputable def Sh.f2u (a d e:Ab) (b:Aa):Out:=
 (A5 a).bind fun f=>
 (Ae .none .add f (.int .i64 1)).bind fun c=>
 Ak (Fx 1 4 (some [(.int .u32 0)]) c c b) fun g h=>
 (AD .u64 e).bind fun i=>
 (A5 a).bind fun j=>
 Ao (fun k vs H=>Sh.f71 b k (ag vs 0) (ag vs 1) (ag vs 2) (ag vs 3) (ag vs 4) (ag vs 5) (ag vs 6) H) AK [a,d,g,i,a,j,(.int .i64 0)] h
noncomputable def Sh.f5g (a:Aa) (i:LK) (b c d e:Ab) (j:Aa):Out:=
 bP a (BX (Ra e j)) fun f g=>
 (As 0 f).bind fun k=>
 Aj k (
 (As 2 f).bind fun l=>
 (Ae .none .sub l (.int .i32 48)).bind fun m=>
 (AD .u32 m).bind fun n=>
 bP a (Sh.f2u d (.int .u32 10) n g) fun o p=>
 i [b,c,o,e] p) (
 (A2 (some [(.bool false),(.sl [] .tight)]) [(0,1,c),(1,1,d)]).bind fun q=>
 bP a (A3 (Af 2 b q g)) fun _ h=>
 (CU [Ac true 2 b h,some (.int .i64 0)]).bind fun r=>rPN a r h)
noncomputable def Sh.f72 (a:Aa) (b d g h:Ab) (c:Aa):Out:=
 Aj h (
 (A2 (some [(.bool false),(.sl [] .tight)]) []).bind fun i=>
 bP a (A3 (Af 2 b i c)) fun _ e=>
 (CU [Ac true 2 b e,some (.int .i64 2)]).bind fun j=>rPN a j e) (
 (BE d).bind fun k=>
 (Ae .none .gtr k (.int .i64 400)).bind fun l=>
 Aj l (
 (A2 (some [(.bool false),(.sl [] .tight)]) []).bind fun m=>
 bP a (A3 (Af 2 b m c)) fun _ f=>
 (CU [Ac true 2 b f,some (.int .i64 4)]).bind fun n=>rPN a n f) (
 bP a (BX (Qr d c)) fun o p=>
 Ao (fun q vs H=>Sh.f5g a q (ag vs 0) (ag vs 1) (ag vs 2) (ag vs 3) H) AK [b,g,(.sl [] .tight),o] p))
noncomputable def Sh.f2v (f:Ab) (b:Aa):Out:=
 Ak (Ax (some [(.bool false),(.sl [] .tight)]) b) fun c l=>
 bP b (Sh.f2s f (.str [45]) l) fun g h=>
 (As 0 g).bind fun a=>
 (As 1 g).bind fun d=>
 AH (fun j1=>
 (Ae .none .eql a (.str [])).bind fun i=>
 Aj i (
 j1 [c,a,d,i] h) (
 bP b (Sh.f2t a (.int .i64 0) h) fun m j=>
 (BE a).bind fun n=>
 (Ae .none .lss m n).bind fun k=>
 Aj k (
 j1 [c,a,d,k] j) (
 (BV a (.int .i64 0)).bind fun o=>
 (Ae .none .eql o (.int .u8 48)).bind fun e=>
 gk e true (some f) fun p=>
 gk e true (Ae .none .neq p (.str [48])) fun q=>
 (A8 e q (.bool false)).bind fun r=>
 j1 [c,a,d,r] j))) (fun vs H=>Sh.f72 b (ag vs 0) (ag vs 1) (ag vs 2) (ag vs 3) H)
noncomputable def Sh.f5h (c:Aa) (d:LK) (a e f g h:Ab) (b:Aa):Out:=
 (At a).bind fun i=>
 (Ad 1 i).bind fun j=>
 (Ac false 1 j b).bind fun k=>
 (Ae .none .add k (.int .i64 1)).bind fun l=>
 (At a).bind fun m=>
 (Ad 1 m).bind fun n=>
 bK c (A3 (Af 1 n l b)) fun _ o=>
 d [a,e,f,g,h] o
noncomputable def Sh.f4p (b:Aa) (c d i:Ab) (a:Aa):Out:=
 (At c).bind fun j=>
 (Ad 0 j).bind fun k=>
 bC (Ac false 1 k a) (fun _=>True) fun l=>
 (At c).bind fun m=>
 (Ad 1 m).bind fun n=>
 bC (Ac false 1 n a) (fun _=>True) fun o=>
 (BF l (some i) (some o)).bind fun p=>
 AZ (Sh.f2v p a) fun e q=>
 (As 0 e).bind fun r=>
 Ak (Ax (some [(.bool false),(.sl [] .tight)]) q) fun f s=>
 AZ (A3 (Af 2 f r s)) fun _ g=>
 (As 1 e).bind fun v=>
 (Ac true 2 f g).bind fun t=>
 bK b (A3 (Af 2 d t g)) fun _ h=>
 (Ac true 2 d h).bind fun u=>rKN b u h
noncomputable def Sh.f5i (e:Aa) (i:LK) (a h f g d:Ab) (j:Aa):Out:=
 bK e (Sh.fh a (.str [48,49,50,51,52,53,54,55,56,57]) j) fun k b=>
 Aj k (
 AH (fun j3=>
 (At a).bind fun l=>
 (Ad 1 l).bind fun m=>
 (Ac false 1 m b).bind fun n=>
 (Ae .none .gtr n d).bind fun c=>
 gk c true (some a) fun o=>
 gk c true (At o) fun p=>
 gk c true (Ad 0 p) fun q=>
 gk c true (Ac false 1 q b) fun r=>
 gk c true (some d) fun s=>
 gk c true (BV r s) fun t=>
 gk c true (Ae .none .eql t (.int .u8 48)) fun u=>
 (A8 c u (.bool false)).bind fun v=>
 Aj v (
 bK e (Sh.f9 a (.str []) b) fun an w=>
 j3 [a,h,f,g,d] w) (
 (At a).bind fun x=>
 (Ad 1 x).bind fun y=>
 (Ac false 1 y b).bind fun z=>
 (Ae .none .sub z d).bind fun aa=>
 (Ae .none .eql aa (.int .i64 400)).bind fun ab=>
 Aj ab (
 bK e (Sh.f2q a b) fun ap ac=>
 j3 [a,h,f,g,d] ac) (
 j3 [a,h,f,g,d] b))) (fun vs H=>Sh.f5h e i (ag vs 0) (ag vs 1) (ag vs 2) (ag vs 3) (ag vs 4) H)) (
 AH (fun j4=>
 (At a).bind fun ad=>
 (Ad 1 ad).bind fun ae=>
 (Ac false 1 ae b).bind fun aj=>
 (Ae .none .eql aj d).bind fun ak=>
 Aj ak (
 (Ae .none .add (.str [49]) h).bind fun al=>
 bK e (Sh.f9 a al b) fun aq am=>
 j4 [a,f,g] am) (
 j4 [a,f,g] b)) (fun vs H=>Sh.f4p e (ag vs 0) (ag vs 1) (ag vs 2) H))
noncomputable def Sh.f5j (c:Aa) (a d e f:Ab) (b:Aa):Out:=
 (At a).bind fun g=>
 (Ad 1 g).bind fun h=>
 (Ac false 1 h b).bind fun i=>
 Ao (fun j vs H=>Sh.f5i c j (ag vs 0) (ag vs 1) (ag vs 2) (ag vs 3) (ag vs 4) H) AK [a,d,e,f,i] b
noncomputable def Sh.f1y (a c d:Ab) (b:Aa):Out:=
 Ak (Ax (some [(.bool false),(.sl [] .tight)]) b) fun e f=>
 (At a).bind fun j=>
 (Ad 1 j).bind fun k=>
 (Ac false 1 k f).bind fun g=>
 AH (fun j1=>
 gk c true (some a) fun l=>
 gbK b c true f (Sh.fh l (.str [45]) f) fun m h=>
 (A8 c m (.bool false)).bind fun n=>
 Aj n (
 (At a).bind fun o=>
 (Ad 1 o).bind fun p=>
 (Ac false 1 p h).bind fun q=>
 (Ae .none .add q (.int .i64 1)).bind fun r=>
 (At a).bind fun s=>
 (Ad 1 s).bind fun t=>
 bK b (A3 (Af 1 t r h)) fun _ u=>
 bK b (Sh.fh a (.str [48]) u) fun v i=>
 Aj v (
 bK b (Sh.f9 a (.str []) i) fun x w=>
 j1 [a,d,e,g] w) (
 j1 [a,d,e,g] i)) (
 j1 [a,d,e,g] h)) (fun vs H=>Sh.f5j b (ag vs 0) (ag vs 1) (ag vs 2) (ag vs 3) H)
noncomputable def Sh.f2w (b:Ab) (a:Aa):Out:=
 (At b).bind fun g=>
 (Ad 0 g).bind fun h=>
 bK a (Sh.fh h (.str [35]) a) fun i d=>
 Aj i (
 (At b).bind fun j=>
 (Ad 0 j).bind fun k=>
 bK a (Sh.ft k (.str [35,82,32]) (.str [97]) d) fun a0 l=>
 (At b).bind fun m=>
 (Ad 0 m).bind fun n=>
 bK a (Sh.f1x n (.str []) l) fun o p=>
 (At b).bind fun q=>
 (Ad 2 q).bind fun r=>
 bK a (A3 (Af 1 r o p)) fun _ s=>
 rK a (.tup []) s) (
 (At b).bind fun t=>
 (Ad 0 t).bind fun u=>
 bK a (Sh.f1y u (.bool true) (.str [32,49]) d) fun v w=>
 Ak (Ax (some [(.bool false),(.sl [] .tight)]) w) fun e x=>
 bK a (A3 (Af 2 e v x)) fun _ y=>
 (At b).bind fun z=>
 (Ad 0 z).bind fun aa=>
 bK a (Sh.ft aa (.str [32]) (.str [49]) y) fun a1 ab=>
 (At b).bind fun ac=>
 (Ad 0 ac).bind fun ad=>
 bK a (Sh.f1y ad (.bool true) (.str []) ab) fun ae aj=>
 Ak (Ax (some [(.bool false),(.sl [] .tight)]) aj) fun f ak=>
 bK a (A3 (Af 2 f ae ak)) fun _ c=>
 (At b).bind fun al=>
 (Ad 3 al).bind fun am=>
 bC (Ac false 1 am c) (fun _=>True) fun an=>
 bC (Ac true 2 e c) (fun _=>True) fun ap=>
 bC (Ac true 2 f c) (fun _=>True) fun aq=>
 (A2 (some [(.bool false),(.sl [] .tight),(.bool false),(.sl [] .tight),(.int .u8 0)]) [(0,2,ap),(2,2,aq),(4,1,(.int .u8 1))]).bind fun ar=>
 (AO 5 [ar]).bind fun au=>
 AZ (BX (AN A0 5 72 an au c)) fun av aw=>
 (At b).bind fun ax=>
 (Ad 3 ax).bind fun ay=>
 bK a (A3 (Af 1 ay av aw)) fun _ az=>
 rK a (.tup []) az)
noncomputable def Sh.f5k (a:Aa) (d:LK) (b:Ab) (e:Aa):Out:=
 (At b).bind fun f=>
 (Ad 0 f).bind fun g=>
 bK a (Sh.fe g e) fun h c=>
 (unA .not h).bind fun i=>
 Aj i (
 bK a (Sh.f2w b c) fun n j=>
 (At b).bind fun k=>
 (Ad 0 k).bind fun l=>
 bK a (Sh.fu l (.str []) j) fun o m=>
 d [b] m) (
 rK a (.tup []) c)
noncomputable def Sh.f1z (b:Ab) (a:Aa):Out:=
 (At b).bind fun c=>
 (Ad 0 c).bind fun d=>
 bK a (Sh.ft d (.str [35,76,105,102,101,32,49,46,48,54]) (.str []) a) fun j e=>
 (At b).bind fun f=>
 (Ad 0 f).bind fun g=>
 bK a (Sh.fu g (.str []) e) fun k h=>
 Ao (fun i vs H=>Sh.f5k a i (ag vs 0) H) AK [b] h
noncomputable def Sh.f20:Ab→Aa→Out:=RA (ent 38 (ap1 Sh.f1z) noO)
noncomputable def Sh.f2x (c:Ab) (a:Aa):Out:=
 Ak (Bz true 5 c a) fun d b=>
 (Ad 4 d).bind fun e=>
 (Ac false 1 e b).bind fun f=>
 (Ae .none .eql f (.int .u8 0)).bind fun g=>
 rP a g b
noncomputable def Sh.f21 (g:Ab) (c:Aa):Out:=
 Ak (Bz true 2 g c) fun d f=>
 (Ad 1 d).bind fun h=>
 (Ac false 1 h f).bind fun i=>
 bP c (Sh.fd i f) fun a e=>
 gk a true (Ad 0 d) fun j=>
 gk a true (Ac false 1 j e) fun k=>
 gk a true (unA .not k) fun l=>
 gk a true (some l) fun b=>
 gk b false (Ad 1 d) fun m=>
 gk b false (Ac false 1 m e) fun n=>
 gk b false (A5 n) fun o=>
 gk b false (Ae .none .gtr o (.int .i64 0)) fun p=>
 gk a true (A8 b (.bool true) p) fun q=>
 (A8 a q (.bool false)).bind fun r=>
 rP c r e
noncomputable def Sh.f4q (f:Ab) (b:Aa):Out:=
 Ak (Bz true 5 f b) fun d e=>
 (Ad 0 d).bind fun g=>
 (Ac true 2 g e).bind fun h=>
 bP b (Sh.f21 h e) fun i c=>
 (unA .not i).bind fun a=>
 gk a false (Ad 2 d) fun j=>
 gk a false (Ac true 2 j c) fun k=>
 gbP b a false c (Sh.f21 k c) fun l m=>
 gk a false (unA .not l) fun n=>
 (A8 a (.bool true) n).bind fun o=>
 rP b o m
noncomputable def AF:Orc:=(ent 148 (ap1 Sh.f2x) (ent 84 (ap1 Sh.f4q) noO))
noncomputable def Sh.f10 (b:Aa) (h:LK) (d e f a:Ab) (c:Aa):Out:=
 (Ae .none .lss a f).bind fun i=>
 Aj i (
 (Au 5 d a).bind fun j=>
 (Ac true 5 j c).bind fun k=>
 bK b (D6 AF e [k] c) fun l g=>
 Aj l (
 rK b a g) (
 (Ae .none .add a (.int .i64 1)).bind fun m=>
 h [d,e,f,m] g)) (
 rK b (.int .i64 (-1)) c)
noncomputable def Sh.fi (a c:Ab) (b:Aa):Out:=
 (A5 a).bind fun d=>
 Ao (fun e vs H=>Sh.f10 b e (ag vs 0) (ag vs 1) (ag vs 2) (ag vs 3) H) AK [a,c,d,(.int .i64 0)] b
noncomputable def Sh.f2y (b c:Ab) (a:Aa):Out:=
 bK a (Sh.fi b c a) fun d e=>
 (Ae .none .geq d (.int .i64 0)).bind fun f=>
 rK a f e
noncomputable def Sh.f2z (b:Ab) (a:Aa):Out:=
 (TN .eql b).bind fun c=>
 Aj c (
 rK a (.sl [] .tight) a) (
 (AO 5 []).bind fun d=>
 bK a (BX (FU A0 5 72 d b a)) fun e f=>
 rK a e f)
noncomputable def Sh.f4r (e:Aa) (f:LK) (a b c:Ab) (d:Aa):Out:=
 (Ae .none .lss b c).bind fun g=>
 Aj g (
 (Au 5 a c).bind fun h=>
 bC (Ac true 5 h d) (fun _=>True) fun i=>
 (Au 5 a b).bind fun j=>
 bC (Ac true 5 j d) (fun _=>True) fun k=>
 (Au 5 a b).bind fun l=>
 AZ (A3 (Af 5 l i d)) fun _ m=>
 (Au 5 a c).bind fun n=>
 bK e (A3 (Af 5 n k m)) fun _ o=>
 (Ae .none .add b (.int .i64 1)).bind fun p=>
 (Ae .none .sub c (.int .i64 1)).bind fun q=>
 f [a,p,q] o) (
 rK e (.tup []) d)
noncomputable def Sh.f1f (a:Ab) (b:Aa):Out:=
 (A5 a).bind fun c=>
 (Ae .none .sub c (.int .i64 1)).bind fun d=>
 Ao (fun e vs H=>Sh.f4r b e (ag vs 0) (ag vs 1) (ag vs 2) H) AK [a,(.int .i64 0),d] b
noncomputable def Sh.f22 (f g:Ab) (b:Aa):Out:=
 Ak (Bz true 2 f b) fun c h=>
 Ak (Bz true 2 g h) fun d a=>
 (Ad 0 c).bind fun i=>
 (Ac false 1 i a).bind fun e=>
 gk e true (Ad 0 d) fun j=>
 gk e true (Ac false 1 j a) fun k=>
 (A8 e k (.bool false)).bind fun l=>
 Aj l (
 (Ad 1 d).bind fun m=>
 (Ac false 1 m a).bind fun n=>
 (Ad 1 c).bind fun o=>
 (Ac false 1 o a).bind fun p=>
 bP b (Sh.fn n p a) fun q r=>
 rP b q r) (
 (Ad 0 c).bind fun s=>
 (Ac false 1 s a).bind fun t=>
 Aj t (
 rP b (.int .i64 (-1)) a) (
 (Ad 0 d).bind fun u=>
 (Ac false 1 u a).bind fun v=>
 Aj v (
 rP b (.int .i64 1) a) (
 (Ad 1 c).bind fun w=>
 (Ac false 1 w a).bind fun x=>
 (Ad 1 d).bind fun y=>
 (Ac false 1 y a).bind fun z=>
 bP b (Sh.fn x z a) fun aa ab=>
 rP b aa ab)))
noncomputable def Sh.f73 (d:Aa) (h:LK) (b e f c:Ab) (a:Aa):Out:=
 (Ae .none .lss c f).bind fun i=>
 Aj i (
 (Au 1 e c).bind fun j=>
 (Ac false 1 j a).bind fun g=>
 (Ae .none .neq g b).bind fun k=>
 Aj k (
 rK d g a) (
 (Ae .none .add c (.int .i64 1)).bind fun l=>
 h [b,e,f,l] a)) (
 rK d b a)
noncomputable def Sh.f30 (a:Ab) (b:Aa):Out:=
 (A5 a).bind fun c=>
 Ao (fun d vs H=>Sh.f73 b d (ag vs 0) (ag vs 1) (ag vs 2) (ag vs 3) H) AK [(.int .i64 0),a,c,(.int .i64 0)] b
noncomputable def Sh.f1g (j k:Ab) (e:Aa):Out:=
 Ak (Bz true 5 j e) fun f l=>
 Ak (Bz true 5 k l) fun g a=>
 (Ad 2 f).bind fun m=>
 bC (Ac true 2 m a) (fun _=>True) fun n=>
 (Ad 2 g).bind fun o=>
 bC (Ac true 2 o a) (fun _=>True) fun p=>
 AZ (Sh.f22 n p a) fun q b=>
 (Ad 0 f).bind fun h=>
 bC (Ac true 2 h b) (fun c=>Ac true 2 h a=some c∧True) fun c=>
 (Ad 0 g).bind fun i=>
 bC (Ac true 2 i b) (fun d=>Ac true 2 i a=some d∧True) fun d=>
 AZ (Sh.f22 c d b) fun r s=>
 (AO 1 [q,r]).bind fun t=>
 AZ (Sh.f30 t s) fun u v=>
 rP e u v
noncomputable def AB:Orc:=(ent 144 (ap2 Sh.f1g) noO)
noncomputable def Sh.f5l (j:Aa) (k:LK) (l:LK) (b f h g i c:Ab) (d:Aa):Out:=
 (Ae .none .gtr c f).bind fun a=>
 gk a true (some g) fun m=>
 gk a true (some b) fun n=>
 gk a true (some c) fun o=>
 gk a true (Au 5 n o) fun p=>
 gkc a true (Ac true 5 p d) (fun _ _=>True) fun q=>
 gk a true (some b) fun r=>
 gk a true (some c) fun s=>
 gk a true (Ae .none .sub s (.int .i64 1)) fun t=>
 gk a true (Au 5 r t) fun u=>
 gkc a true (Ac true 5 u d) (fun _ _=>True) fun v=>
 gbN a true d (D6 AB m [q,v] d) fun w e=>
 gk a true (Ae .none .lss w (.int .i64 0)) fun x=>
 (A8 a x (.bool false)).bind fun y=>
 Aj y (
 (Ae .none .sub c (.int .i64 1)).bind fun z=>
 (Au 5 b z).bind fun aa=>
 bC (Ac true 5 aa e) (fun _=>True) fun ab=>
 (Au 5 b c).bind fun ac=>
 bC (Ac true 5 ac e) (fun _=>True) fun ad=>
 (Au 5 b c).bind fun ae=>
 AZ (A3 (Af 5 ae ab e)) fun _ aj=>
 (Ae .none .sub c (.int .i64 1)).bind fun ak=>
 (Au 5 b ak).bind fun al=>
 bK j (A3 (Af 5 al ad aj)) fun _ am=>
 (Ae .none .sub c (.int .i64 1)).bind fun an=>
 l [b,f,h,g,i,an] am) (
 (Ae .none .add i (.int .i64 1)).bind fun ap=>
 k [b,f,h,g,ap] e)
noncomputable def Sh.f5m (b:Aa) (e:LK) (f g c h a:Ab) (d:Aa):Out:=
 (Ae .none .lss a c).bind fun i=>
 Aj i (
 Ao (fun j vs H=>Sh.f5l b e j (ag vs 0) (ag vs 1) (ag vs 2) (ag vs 3) (ag vs 4) (ag vs 5) H) AK [f,g,c,h,a,a] d) (
 rK b (.tup []) d)
noncomputable def Sh.fv (c a d e:Ab) (b:Aa):Out:=
 (Ae .none .add a (.int .i64 1)).bind fun f=>
 Ao (fun g vs H=>Sh.f5m b g (ag vs 0) (ag vs 1) (ag vs 2) (ag vs 3) (ag vs 4) H) AK [c,a,d,e,f] b
noncomputable def Sh.f5n (f:Aa) (h:LK) (b d e g a:Ab) (c:Aa):Out:=
 (Ae .none .lss a g).bind fun i=>
 Aj i (
 (Ae .none .add d a).bind fun j=>
 (Ae .none .add e a).bind fun k=>
 (Au 5 b k).bind fun l=>
 bC (Ac true 5 l c) (fun _=>True) fun m=>
 (Ae .none .add d a).bind fun n=>
 (Au 5 b n).bind fun o=>
 bC (Ac true 5 o c) (fun _=>True) fun p=>
 (Au 5 b j).bind fun q=>
 AZ (A3 (Af 5 q m c)) fun _ r=>
 (Ae .none .add e a).bind fun s=>
 (Au 5 b s).bind fun t=>
 bK f (A3 (Af 5 t p r)) fun _ u=>
 (Ae .none .add a (.int .i64 1)).bind fun v=>
 h [b,d,e,g,v] u) (
 rK f (.tup []) c)
noncomputable def Sh.f1h (b c d e g:Ab) (a:Aa):Out:=
 Ao (fun f vs H=>Sh.f5n a f (ag vs 0) (ag vs 1) (ag vs 2) (ag vs 3) (ag vs 4) H) AK [b,c,d,e,(.int .i64 0)] a
noncomputable def Sh.f74 (f:Aa) (h:LK) (d b e a c:Ab) (g:Aa):Out:=
 (Ae .none .neq a c).bind fun i=>
 Aj i (
 (Ae .none .gtr a c).bind fun j=>
 Aj j (
 (Ae .none .sub b a).bind fun k=>
 bK f (Sh.f1h d k b c e g) fun u l=>
 (Ae .none .sub a c).bind fun m=>
 h [d,b,e,m,c] l) (
 (Ae .none .sub b a).bind fun n=>
 (Ae .none .add b c).bind fun o=>
 (Ae .none .sub o a).bind fun p=>
 bK f (Sh.f1h d n p a e g) fun v q=>
 (Ae .none .sub c a).bind fun r=>
 h [d,b,e,a,r] q)) (
 (Ae .none .sub b a).bind fun s=>
 bK f (Sh.f1h d s b a e g) fun w t=>
 rK f (.tup []) t)
noncomputable def Sh.f31 (c d a e f:Ab) (b:Aa):Out:=
 (Ae .none .sub a d).bind fun g=>
 (Ae .none .sub e a).bind fun h=>
 Ao (fun i vs H=>Sh.f74 b i (ag vs 0) (ag vs 1) (ag vs 2) (ag vs 3) (ag vs 4) H) AK [c,a,f,g,h] b
noncomputable def Be (self:Ab→Ab→Ab→Ab→Ab→Aa→Out):Orc:=ent 228 (ap5 self) (ent 144 (ap2 Sh.f1g) (ent 236 (ap5 Sh.f31) noO))
noncomputable def Sh.f32 (d:Aa) (f:LK) (b e a:Ab) (c:Aa):Out:=
 (Ae .none .sub e (.int .i64 1)).bind fun g=>
 (Ae .none .lss a g).bind fun h=>
 Aj h (
 (Ae .none .add a (.int .i64 1)).bind fun i=>
 (Au 5 b i).bind fun j=>
 bC (Ac true 5 j c) (fun _=>True) fun k=>
 (Au 5 b a).bind fun l=>
 bC (Ac true 5 l c) (fun _=>True) fun m=>
 (Au 5 b a).bind fun n=>
 AZ (A3 (Af 5 n k c)) fun _ o=>
 (Ae .none .add a (.int .i64 1)).bind fun p=>
 (Au 5 b p).bind fun q=>
 bK d (A3 (Af 5 q m o)) fun _ r=>
 (Ae .none .add a (.int .i64 1)).bind fun s=>
 f [b,e,s] r) (
 rK d (.tup []) c)
noncomputable def Sh.f33 (j:Aa) (self:Ab→Ab→Ab→Ab→Ab→Aa→Out) (h:LK) (a b e c f:Ab) (d:Aa):Out:=
 (Ae .none .lss c f).bind fun k=>
 Aj k (
 (Ae .none .add c f).bind fun l=>
 (AD .u64 l).bind fun m=>
 (Ae .none .shr m (.int .u64 1)).bind fun n=>
 (AD .i64 n).bind fun g=>
 (Au 5 a g).bind fun o=>
 bC (Ac true 5 o d) (fun _=>True) fun p=>
 (Au 5 a b).bind fun q=>
 bC (Ac true 5 q d) (fun _=>True) fun r=>
 AZ (D6 (Be self) e [p,r] d) fun s i=>
 (Ae .none .lss s (.int .i64 0)).bind fun t=>
 Aj t (
 (Ae .none .add g (.int .i64 1)).bind fun u=>
 h [a,b,e,u,f] i) (
 h [a,b,e,c,g] i)) (
 Ao (fun v vs H=>Sh.f32 j v (ag vs 0) (ag vs 1) (ag vs 2) H) AK [a,c,b] d)
noncomputable def Sh.f34 (d:Aa) (f:LK) (b e a:Ab) (c:Aa):Out:=
 (Ae .none .gtr a e).bind fun g=>
 Aj g (
 (Ae .none .sub a (.int .i64 1)).bind fun h=>
 (Au 5 b h).bind fun i=>
 bC (Ac true 5 i c) (fun _=>True) fun j=>
 (Au 5 b a).bind fun k=>
 bC (Ac true 5 k c) (fun _=>True) fun l=>
 (Au 5 b a).bind fun m=>
 AZ (A3 (Af 5 m j c)) fun _ n=>
 (Ae .none .sub a (.int .i64 1)).bind fun o=>
 (Au 5 b o).bind fun p=>
 bK d (A3 (Af 5 p l n)) fun _ q=>
 (Ae .none .sub a (.int .i64 1)).bind fun r=>
 f [b,e,r] q) (
 rK d (.tup []) c)
noncomputable def Sh.f35 (j:Aa) (self:Ab→Ab→Ab→Ab→Ab→Aa→Out) (h:LK) (a b e c f:Ab) (d:Aa):Out:=
 (Ae .none .lss c f).bind fun k=>
 Aj k (
 (Ae .none .add c f).bind fun l=>
 (AD .u64 l).bind fun m=>
 (Ae .none .shr m (.int .u64 1)).bind fun n=>
 (AD .i64 n).bind fun g=>
 (Au 5 a b).bind fun o=>
 bC (Ac true 5 o d) (fun _=>True) fun p=>
 (Au 5 a g).bind fun q=>
 bC (Ac true 5 q d) (fun _=>True) fun r=>
 AZ (D6 (Be self) e [p,r] d) fun s i=>
 (Ae .none .lss s (.int .i64 0)).bind fun t=>
 (unA .not t).bind fun u=>
 Aj u (
 (Ae .none .add g (.int .i64 1)).bind fun v=>
 h [a,b,e,v,f] i) (
 h [a,b,e,c,g] i)) (
 Ao (fun w vs H=>Sh.f34 j w (ag vs 0) (ag vs 1) (ag vs 2) H) AK [a,c,b] d)
noncomputable def Sh.f5o (b:Aa) (self:Ab→Ab→Ab→Ab→Ab→Aa→Out) (g d h e c:Ab) (f:Aa):Out:=
 (Ae .none .lss e c).bind fun a=>
 gk a true (some c) fun i=>
 gk a true (some d) fun j=>
 gk a true (Ae .none .lss i j) fun k=>
 (A8 a k (.bool false)).bind fun l=>
 Aj l (
 bK b (self g e c d h f) fun n m=>
 rK b (.tup []) m) (
 rK b (.tup []) f)
noncomputable def Sh.f5p (f:Aa) (self:Ab→Ab→Ab→Ab→Ab→Aa→Out) (c g h d a e i:Ab) (j:Aa):Out:=
 AH (fun j8=>
 (Ae .none .lss g e).bind fun b=>
 gk b true (some e) fun k=>
 gk b true (some a) fun l=>
 gk b true (Ae .none .lss k l) fun m=>
 (A8 b m (.bool false)).bind fun n=>
 Aj n (
 bK f (self c g e a d j) fun p o=>
 j8 [c,h,d,a,i] o) (
 j8 [c,h,d,a,i] j)) (fun vs H=>Sh.f5o f self (ag vs 0) (ag vs 1) (ag vs 2) (ag vs 3) (ag vs 4) H)
noncomputable def Sh.fw (o:Aa) (self:Ab→Ab→Ab→Ab→Ab→Aa→Out) (p:LK) (b f d g c h l a m n:Ab) (e:Aa):Out:=
 (Ae .none .lss a m).bind fun r=>
 Aj r (
 (Ae .none .add a m).bind fun s=>
 (AD .u64 s).bind fun t=>
 (Ae .none .shr t (.int .u64 1)).bind fun u=>
 (AD .i64 u).bind fun i=>
 (Ae .none .sub n i).bind fun v=>
 (Au 5 b v).bind fun w=>
 bC (Ac true 5 w e) (fun _=>True) fun x=>
 (Au 5 b i).bind fun y=>
 bC (Ac true 5 y e) (fun _=>True) fun z=>
 AZ (D6 (Be self) c [x,z] e) fun aa q=>
 (Ae .none .lss aa (.int .i64 0)).bind fun ab=>
 (unA .not ab).bind fun ac=>
 Aj ac (
 (Ae .none .add i (.int .i64 1)).bind fun ad=>
 p [b,f,d,g,c,h,l,ad,m,n] q) (
 p [b,f,d,g,c,h,l,a,i,n] q)) (
 (Ae .none .sub l a).bind fun j=>
 AH (fun j7=>
 (Ae .none .lss a d).bind fun k=>
 gk k true (some d) fun ae=>
 gk k true (some j) fun aj=>
 gk k true (Ae .none .lss ae aj) fun ak=>
 (A8 k ak (.bool false)).bind fun al=>
 Aj al (
 bK o (Sh.f31 b a d j c e) fun an am=>
 j7 [b,f,g,c,h,a,j] am) (
 j7 [b,f,g,c,h,a,j] e)) (fun vs H=>Sh.f5p o self (ag vs 0) (ag vs 1) (ag vs 2) (ag vs 3) (ag vs 4) (ag vs 5) (ag vs 6) H))
noncomputable def Sh.f75 (b:Aa) (self:Ab→Ab→Ab→Ab→Ab→Aa→Out) (c d e f g h a i j:Ab) (k:Aa):Out:=
 (Ae .none .sub a (.int .i64 1)).bind fun l=>
 Ao (fun m vs H=>Sh.fw b self m (ag vs 0) (ag vs 1) (ag vs 2) (ag vs 3) (ag vs 4) (ag vs 5) (ag vs 6) (ag vs 7) (ag vs 8) (ag vs 9) H) AK [c,d,e,f,g,h,a,i,j,l] k
noncomputable def Sh.f76 (self:Ab→Ab→Ab→Ab→Ab→Aa→Out) (f b a d g:Ab) (c:Aa):Out:=
 (Ae .none .sub a b).bind fun i=>
 (Ae .none .eql i (.int .i64 1)).bind fun j=>
 Aj j (
 Ao (fun k vs H=>Sh.f33 c self k (ag vs 0) (ag vs 1) (ag vs 2) (ag vs 3) (ag vs 4) H) AK [f,b,g,a,d] c) (
 (Ae .none .sub d a).bind fun l=>
 (Ae .none .eql l (.int .i64 1)).bind fun m=>
 Aj m (
 Ao (fun n vs H=>Sh.f35 c self n (ag vs 0) (ag vs 1) (ag vs 2) (ag vs 3) (ag vs 4) H) AK [f,a,g,b,a] c) (
 (Ae .none .add b d).bind fun o=>
 (AD .u64 o).bind fun p=>
 (Ae .none .shr p (.int .u64 1)).bind fun q=>
 (AD .i64 q).bind fun e=>
 (Ae .none .add e a).bind fun h=>
 AH (fun j5=>
 (Ae .none .gtr a e).bind fun r=>
 Aj r (
 (Ae .none .sub h d).bind fun s=>
 j5 [f,b,a,d,g,e,h,s,e] c) (
 j5 [f,b,a,d,g,e,h,b,a] c)) (fun vs H=>Sh.f75 c self (ag vs 0) (ag vs 1) (ag vs 2) (ag vs 3) (ag vs 4) (ag vs 5) (ag vs 6) (ag vs 7) (ag vs 8) H)))
noncomputable def Sh.f5:Nat→Ab→Ab→Ab→Ab→Ab→Aa→Out
 | 0=>fun _ _ _ _ _ _=>none
 | d+1=>Sh.f76 (Sh.f5 d)
noncomputable def Sh.f77 (h:Aa) (a:LK) (b c d e:Ab) (f:Aa):Out:=
 (Ae .none .mul e (.int .i64 2)).bind fun g=>
 a [b,c,d,g] f
noncomputable def Sh.f36 (g:Aa) (j:LK) (k:LK) (c a d b e f:Ab) (h:Aa):Out:=
 (Ae .none .leq f a).bind fun l=>
 Aj l (
 (Ae .none .add e b).bind fun m=>
 bK g (Sh.f5 AK c e m f d h) fun s n=>
 (Ae .none .mul (.int .i64 2) b).bind fun o=>
 (Ae .none .add f o).bind fun p=>
 k [c,a,d,b,f,p] n) (
 AH (fun j4=>
 (Ae .none .add e b).bind fun i=>
 (Ae .none .lss i a).bind fun q=>
 Aj q (
 bK g (Sh.f5 AK c e i a d h) fun t r=>
 j4 [c,a,d,b] r) (
 j4 [c,a,d,b] h)) (fun vs H=>Sh.f77 g j (ag vs 0) (ag vs 1) (ag vs 2) (ag vs 3) H))
noncomputable def Sh.f23 (b:Aa) (e:LK) (f c g a:Ab) (d:Aa):Out:=
 (Ae .none .lss a c).bind fun h=>
 Aj h (
 (Ae .none .mul (.int .i64 2) a).bind fun i=>
 Ao (fun j vs H=>Sh.f36 b e j (ag vs 0) (ag vs 1) (ag vs 2) (ag vs 3) (ag vs 4) (ag vs 5) H) AK [f,c,g,a,(.int .i64 0),i] d) (
 rK b (.tup []) d)
noncomputable def Sh.f4s (e:Aa) (i:LK) (a b c f g d:Ab) (h:Aa):Out:=
 (Ae .none .leq d b).bind fun j=>
 Aj j (
 bK e (Sh.fv a g d c h) fun o k=>
 (Ae .none .add d f).bind fun l=>
 i [a,b,c,f,d,l] k) (
 bK e (Sh.fv a g b c h) fun p m=>
 Ao (fun n vs H=>Sh.f23 e n (ag vs 0) (ag vs 1) (ag vs 2) (ag vs 3) H) AK [a,b,c,f] m)
noncomputable def Sh.f1i (b c d:Ab) (a:Aa):Out:=
 Ao (fun e vs H=>Sh.f4s a e (ag vs 0) (ag vs 1) (ag vs 2) (ag vs 3) (ag vs 4) (ag vs 5) H) AK [b,c,d,(.int .i64 20),(.int .i64 0),(.int .i64 20)] a
noncomputable def Sh.f1j (b c:Ab) (a:Aa):Out:=
 (A5 b).bind fun d=>
 bK a (Sh.f1i b d c a) fun f e=>
 rK a (.tup []) e
noncomputable def Sh.f4t (c d:Ab) (a:Aa):Out:=
 Ak (Bz true 5 c a) fun e f=>
 Ak (Bz true 5 d f) fun g b=>
 (Ac true 5 e b).bind fun h=>
 (Ac true 5 g b).bind fun i=>
 bP a (Sh.f1g h i b) fun j k=>
 (Ae .none .eql j (.int .i64 0)).bind fun l=>
 rP a l k
noncomputable def AI:Orc:=(ent 146 (ap2 Sh.f4t) noO)
noncomputable def Sh.f78 (i:Aa) (a:LK) (b c d e f:Ab) (g:Aa):Out:=
 (Ae .none .add f (.int .i64 1)).bind fun h=>
 a [b,c,d,e,h] g
noncomputable def Sh.f37 (e:Aa) (i:LK) (c g d a b:Ab) (f:Aa):Out:=
 (A5 a).bind fun j=>
 (Ae .none .lss b j).bind fun k=>
 Aj k (
 AH (fun j3=>
 (Au 5 a b).bind fun l=>
 bC (Ac true 5 l f) (fun _=>True) fun m=>
 (Ae .none .sub b (.int .i64 1)).bind fun n=>
 (Au 5 a n).bind fun o=>
 bC (Ac true 5 o f) (fun _=>True) fun p=>
 AZ (D6 AI g [m,p] f) fun q h=>
 (unA .not q).bind fun r=>
 Aj r (
 (Au 5 a b).bind fun s=>
 (Ac true 5 s h).bind fun t=>
 (Au 5 c d).bind fun u=>
 bK e (A3 (Af 5 u t h)) fun _ v=>
 (Ae .none .add d (.int .i64 1)).bind fun w=>
 j3 [c,g,w,a,b] v) (
 j3 [c,g,d,a,b] h)) (fun vs H=>Sh.f78 e i (ag vs 0) (ag vs 1) (ag vs 2) (ag vs 3) (ag vs 4) H)) (
 (Bw 5 c (some d) none none).bind fun x=>
 bK e (A3 (Lh 5 (some [(.bool false),(.sl [] .tight),(.bool false),(.sl [] .tight),(.int .u8 0)]) x f)) fun _ y=>
 (Bw 5 c none (some d) none).bind fun z=>
 rKN e z y)
noncomputable def Sh.f4u (d:Aa) (g:LK) (a e b:Ab) (c:Aa):Out:=
 (A5 a).bind fun h=>
 (Ae .none .lss b h).bind fun i=>
 Aj i (
 (Au 5 a b).bind fun j=>
 bC (Ac true 5 j c) (fun _=>True) fun k=>
 (Ae .none .sub b (.int .i64 1)).bind fun l=>
 (Au 5 a l).bind fun m=>
 bC (Ac true 5 m c) (fun _=>True) fun n=>
 bK d (D6 AI e [k,n] c) fun o f=>
 Aj o (
 (Bw 5 a (some b) none none).bind fun p=>
 Ao (fun q vs H=>Sh.f37 d q (ag vs 0) (ag vs 1) (ag vs 2) (ag vs 3) (ag vs 4) H) AK [a,e,b,p,(.int .i64 1)] f) (
 (Ae .none .add b (.int .i64 1)).bind fun r=>
 g [a,e,r] f)) (
 rKN d a c)
noncomputable def Sh.f1k (b c:Ab) (a:Aa):Out:=
 (A5 b).bind fun d=>
 (Ae .none .lss d (.int .i64 2)).bind fun e=>
 Aj e (
 rKN a b a) (
 Ao (fun f vs H=>Sh.f4u a f (ag vs 0) (ag vs 1) (ag vs 2) H) AK [b,c,(.int .i64 1)] a)
noncomputable def Bc:Orc:=(ent 139 (ap2 Sh.fi) (ent 148 (ap1 Sh.f2x) noO))
noncomputable def Sh.f79 (h:Aa) (a:LK) (b c d e:Ab) (f:Aa):Out:=
 (Ae .none .add e (.int .i64 1)).bind fun g=>
 a [b,c,d,g] f
noncomputable def Sh.f4v (b:Aa) (j:LK) (a e c d:Ab) (f:Aa):Out:=
 (A5 a).bind fun k=>
 (Ae .none .lss d k).bind fun l=>
 Aj l (
 AH (fun j2=>
 (Au 5 a d).bind fun m=>
 (Ac true 5 m f).bind fun n=>
 Ak (Ax (some [(.bool false),(.sl [] .tight),(.bool false),(.sl [] .tight),(.int .u8 0)]) f) fun g o=>
 bK b (A3 (Af 5 g n o)) fun _ i=>
 (Ac true 5 g i).bind fun p=>
 bK b (D6 Bc e [p] i) fun q h=>
 (unA .not q).bind fun r=>
 Aj r (
 (Ac true 5 g h).bind fun s=>
 (Au 5 a c).bind fun t=>
 bK b (A3 (Af 5 t s h)) fun _ u=>
 (Ae .none .add c (.int .i64 1)).bind fun v=>
 j2 [a,e,v,d] u) (
 j2 [a,e,c,d] h)) (fun vs H=>Sh.f79 b j (ag vs 0) (ag vs 1) (ag vs 2) (ag vs 3) H)) (
 (Bw 5 a (some c) none none).bind fun w=>
 bK b (A3 (Lh 5 (some [(.bool false),(.sl [] .tight),(.bool false),(.sl [] .tight),(.int .u8 0)]) w f)) fun _ x=>
 (Bw 5 a none (some c) none).bind fun y=>
 rKN b y x)
noncomputable def Sh.f1l (b d:Ab) (a:Aa):Out:=
 bK a (Sh.fi b d a) fun c e=>
 (Ae .none .eql c (.int .i64 (-1))).bind fun f=>
 Aj f (
 rKN a b e) (
 (Ae .none .add c (.int .i64 1)).bind fun g=>
 Ao (fun h vs H=>Sh.f4v a h (ag vs 0) (ag vs 1) (ag vs 2) (ag vs 3) H) AK [b,d,c,g] e)
noncomputable def Sh.f38 (c:Ab) (a:Aa):Out:=
 bP a (Sh.f2z c a) fun b d=>
 bP a (Sh.f1f b d) fun k e=>
 bP a (Sh.f1j b (.fn 144 []) e) fun l f=>
 bP a (Sh.f1k b (.fn 146 []) f) fun g h=>
 bP a (Sh.f1l g (.fn 148 []) h) fun i j=>
 rPN a i j
noncomputable def Sh.fa (a c:Ab) (b:Aa):Out:=
 Ak (Ax (some [(.bool false),(.sl [] .tight)]) b) fun d f=>
 gk a true (some c) fun g=>
 gk a true (A5 g) fun h=>
 gk a true (Ae .none .gtr h (.int .i64 0)) fun i=>
 (A8 a i (.bool false)).bind fun j=>
 (A2 (some [(.bool false),(.sl [] .tight)]) [(0,1,j),(1,1,c)]).bind fun k=>
 bP b (A3 (Af 2 d k f)) fun _ e=>
 (Ac true 2 d e).bind fun l=>rPN b l e
noncomputable def Sh.f1m (f:Ab) (a:Aa):Out:=
 Ak (Bz true 2 f a) fun c g=>
 Ak (Ax (some [(.bool false),(.sl [] .tight)]) g) fun d b=>
 (Ad 0 c).bind fun h=>
 (Ac false 1 h b).bind fun i=>
 (unA .not i).bind fun j=>
 (Ad 1 c).bind fun k=>
 (Ac false 1 k b).bind fun l=>
 bP a (Sh.fa j l b) fun m n=>
 bP a (A3 (Af 2 d m n)) fun _ e=>
 (Ac true 2 d e).bind fun o=>rPN a o e
noncomputable def Sh.f1n (b:Ab) (a:Aa):Out:=
 (TN .eql b).bind fun c=>
 Aj c (
 rK a (.sl [] .tight) a) (
 (AO 1 []).bind fun d=>
 bK a (BX (FU B4 1 4 d b a)) fun e f=>
 rK a e f)
noncomputable def Sh.f39 (b:Ab) (a:Aa):Out:=
 bP a (Sh.f1n b a) fun c d=>
 bP a (Sh.f0 c d) fun e f=>
 rPN a e f
noncomputable def Sh.f7a (a:Aa) (e b c:Ab) (f:Aa):Out:=
 (Ae .none .lss e (.int .i64 0)).bind fun g=>
 (AD .u32 c).bind fun h=>
 (Ae .none .shr c (.int .u64 32)).bind fun i=>
 (AD .u32 i).bind fun j=>
 (AO 1 [h,j]).bind fun k=>
 bP a (Sh.f39 k f) fun l m=>
 bP a (Sh.fa g l m) fun n o=>
 bP a (A3 (Af 2 b n o)) fun _ d=>
 (Ac true 2 b d).bind fun p=>rPN a p d
noncomputable def Sh.f24 (a:Ab) (b:Aa):Out:=
 Ak (Ax (some [(.bool false),(.sl [] .tight)]) b) fun c d=>
 (AD .u64 a).bind fun e=>
 AH (fun j1=>
 (Ae .none .lss a (.int .i64 0)).bind fun f=>
 Aj f (
 (unA .neg e).bind fun g=>
 j1 [a,c,g] d) (
 j1 [a,c,e] d)) (fun vs H=>Sh.f7a b (ag vs 0) (ag vs 1) (ag vs 2) H)
noncomputable def Sh.f3a (c d e:Ab) (a:Aa):Out:=
 (AD .u64 c).bind fun f=>
 (AD .u64 d).bind fun g=>
 (Ae .none .add f g).bind fun h=>
 (AD .u64 e).bind fun i=>
 (Ae .none .add h i).bind fun b=>
 (AD .u32 b).bind fun j=>
 (Ae .none .shr b (.int .u64 32)).bind fun k=>
 (AD .u32 k).bind fun l=>
 rK a (.tup [j,l]) a
noncomputable def Sh.f7z (a:Aa) (d:LK) (e f b g h i j k l m:Ab) (n:Aa):Out:=
 bP a (Sh.f3a i j g n) fun c o=>
 (As 0 c).bind fun p=>
 (As 1 c).bind fun q=>
 (Au 1 b h).bind fun r=>
 bP a (A3 (Af 1 r p o)) fun _ s=>
 (Ae .none .add m (.int .i64 1)).bind fun t=>
 d [e,f,b,q,k,l,t] s
noncomputable def Sh.f5q (c:Aa) (k:LK) (f d e g h i a:Ab) (b:Aa):Out:=
 (Ae .none .lss a i).bind fun l=>
 Aj l (
 (Au 1 h a).bind fun m=>
 (Ac false 1 m b).bind fun j=>
 AH (fun j3=>
 (A5 d).bind fun n=>
 (Ae .none .lss a n).bind fun o=>
 Aj o (
 (Au 1 d a).bind fun p=>
 (Ac false 1 p b).bind fun q=>
 j3 [f,d,e,g,a,j,q,h,i,a] b) (
 j3 [f,d,e,g,a,j,(.int .u32 0),h,i,a] b)) (fun vs H=>Sh.f7z c k (ag vs 0) (ag vs 1) (ag vs 2) (ag vs 3) (ag vs 4) (ag vs 5) (ag vs 6) (ag vs 7) (ag vs 8) (ag vs 9) H)) (
 (A5 f).bind fun r=>
 (Au 1 e r).bind fun s=>
 bP c (A3 (Af 1 s g b)) fun _ t=>
 bP c (Sh.f0 e t) fun u v=>
 rPN c u v)
noncomputable def Sh.f7b (c:Aa) (a d:Ab) (e:Aa):Out:=
 (A5 a).bind fun f=>
 (Ae .none .add f (.int .i64 1)).bind fun b=>
 Ak (Fx 1 4 (some [(.int .u32 0)]) b b e) fun g h=>
 (A5 a).bind fun i=>
 Ao (fun j vs H=>Sh.f5q c j (ag vs 0) (ag vs 1) (ag vs 2) (ag vs 3) (ag vs 4) (ag vs 5) (ag vs 6) H) AK [a,d,g,(.int .u32 0),a,i,(.int .i64 0)] h
noncomputable def Sh.f3b (a b:Ab) (c:Aa):Out:=
 AH (fun j1=>
 (A5 a).bind fun d=>
 (A5 b).bind fun e=>
 (Ae .none .lss d e).bind fun f=>
 Aj f (
 j1 [b,a] c) (
 j1 [a,b] c)) (fun vs H=>Sh.f7b c (ag vs 0) (ag vs 1) H)
noncomputable def Sh.f25 (a b e:Ab) (c:Aa):Out:=
 (Ae .none .sub a b).bind fun f=>
 (Ae .none .sub f e).bind fun d=>
 (unA .xor a).bind fun g=>
 (Ae .none .and g b).bind fun h=>
 (Ae .none .xor a b).bind fun i=>
 (unA .xor i).bind fun j=>
 (Ae .none .and j d).bind fun k=>
 (Ae .none .or h k).bind fun l=>
 (Ae .none .shr l (.int .u64 31)).bind fun m=>
 rK c (.tup [d,m]) c
noncomputable def Sh.f80 (b:Aa) (f:LK) (g a h c i j k:Ab) (d:Aa):Out:=
 (Au 1 a c).bind fun l=>
 (Ac false 1 l d).bind fun m=>
 bP b (Sh.f25 m i h d) fun e n=>
 (As 0 e).bind fun o=>
 (As 1 e).bind fun p=>
 (Au 1 a c).bind fun q=>
 bP b (A3 (Af 1 q o n)) fun _ r=>
 (Ae .none .add k (.int .i64 1)).bind fun s=>
 f [g,a,p,j,s] r
noncomputable def Sh.f4w (d:Aa) (h:LK) (b e g f a:Ab) (c:Aa):Out:=
 (Ae .none .lss a f).bind fun i=>
 Aj i (
 AH (fun j2=>
 (A5 b).bind fun j=>
 (Ae .none .lss a j).bind fun k=>
 Aj k (
 (Au 1 b a).bind fun l=>
 (Ac false 1 l c).bind fun m=>
 j2 [b,e,g,a,m,f,a] c) (
 j2 [b,e,g,a,(.int .u32 0),f,a] c)) (fun vs H=>Sh.f80 d h (ag vs 0) (ag vs 1) (ag vs 2) (ag vs 3) (ag vs 4) (ag vs 5) (ag vs 6) H)) (
 bP d (Sh.f0 e c) fun n o=>
 rPN d (.tup [n,(.bool true)]) o)
noncomputable def Sh.f3c (b c:Ab) (a:Aa):Out:=
 bP a (Sh.fn b c a) fun f d=>
 (Ae .none .lss f (.int .i64 0)).bind fun g=>
 Aj g (
 rPN a (.tup [(.sl [] .tight),(.bool false)]) d) (
 bP a (Sh.f1n b d) fun e h=>
 (A5 e).bind fun i=>
 Ao (fun j vs H=>Sh.f4w a j (ag vs 0) (ag vs 1) (ag vs 2) (ag vs 3) (ag vs 4) H) AK [c,e,(.int .u32 0),i,(.int .i64 0)] h)
noncomputable def Sh.f7c (a:Aa) (c h d:Ab) (b:Aa):Out:=
 (Ad 1 c).bind fun i=>
 (Ac false 1 i b).bind fun j=>
 (Ad 1 h).bind fun k=>
 (Ac false 1 k b).bind fun l=>
 bP a (Sh.f3c j l b) fun e f=>
 (As 0 e).bind fun m=>
 (As 1 e).bind fun s=>
 (Ad 0 c).bind fun n=>
 (Ac false 1 n f).bind fun o=>
 bP a (Sh.fa o m f) fun p q=>
 bP a (A3 (Af 2 d p q)) fun _ g=>
 (Ac true 2 d g).bind fun r=>rPN a r g
noncomputable def Sh.f11 (k l:Ab) (c:Aa):Out:=
 Ak (Bz true 2 k c) fun b m=>
 Ak (Bz true 2 l m) fun d n=>
 Ak (Ax (some [(.bool false),(.sl [] .tight)]) n) fun e a=>
 (Ad 0 b).bind fun o=>
 (Ac false 1 o a).bind fun p=>
 (Ad 0 d).bind fun q=>
 (Ac false 1 q a).bind fun r=>
 (Ae .bool .eql p r).bind fun s=>
 Aj s (
 (Ad 1 b).bind fun t=>
 bC (Ac false 1 t a) (fun _=>True) fun u=>
 (Ad 1 d).bind fun v=>
 bC (Ac false 1 v a) (fun _=>True) fun w=>
 AZ (Sh.f3b u w a) fun x h=>
 (Ad 0 b).bind fun i=>
 bC (Ac false 1 i h) (fun g=>Ac false 1 i a=some g∧True) fun g=>
 AZ (Sh.fa g x h) fun y z=>
 bP c (A3 (Af 2 e y z)) fun _ j=>
 (Ac true 2 e j).bind fun aa=>rPN c aa j) (
 AH (fun j1=>
 (Ad 1 b).bind fun ab=>
 (Ac false 1 ab a).bind fun ac=>
 (Ad 1 d).bind fun ad=>
 (Ac false 1 ad a).bind fun ae=>
 bP c (Sh.fn ac ae a) fun aj f=>
 (Ae .none .lss aj (.int .i64 0)).bind fun ak=>
 Aj ak (
 (Ac true 2 d f).bind fun al=>
 (Ac true 2 b f).bind fun am=>
 bP c (A3 (Af 2 b al f)) fun _ an=>
 bP c (A3 (Af 2 d am an)) fun _ ap=>
 j1 [b,d,e] ap) (
 j1 [b,d,e] f)) (fun vs H=>Sh.f7c c (ag vs 0) (ag vs 1) (ag vs 2) H))
noncomputable def Sh.f3d (h i:Ab) (a:Aa):Out:=
 Ak (Bz true 2 h a) fun d j=>
 Ak (Bz true 2 i j) fun k l=>
 Ak (Ax (some [(.bool false),(.sl [] .tight)]) l) fun e b=>
 bC (Ac true 2 k b) (fun _=>True) fun m=>
 AZ (Sh.f1m m b) fun n f=>
 bC (Ac true 2 d f) (fun c=>Ac true 2 d b=some c∧True) fun c=>
 AZ (Sh.f11 c n f) fun o p=>
 bP a (A3 (Af 2 e o p)) fun _ g=>
 (Ac true 2 e g).bind fun q=>rPN a q g
noncomputable def Sh.f7d (a:Aa) (b c:Ab) (d:Aa):Out:=
 (AD .u8 b).bind fun e=>
 (BV (.str [0,1,2,2,3,3,3,3,4,4,4,4,4,4,4,4,5,5,5,5,5,5,5,5,5,5,5,5,5,5,5,5,6,6,6,6,6,6,6,6,6,6,6,6,6,6,6,6,6,6,6,6,6,6,6,6,6,6,6,6,6,6,6,6,7,7,7,7,7,7,7,7,7,7,7,7,7,7,7,7,7,7,7,7,7,7,7,7,7,7,7,7,7,7,7,7,7,7,7,7,7,7,7,7,7,7,7,7,7,7,7,7,7,7,7,7,7,7,7,7,7,7,7,7,7,7,7,7,8,8,8,8,8,8,8,8,8,8,8,8,8,8,8,8,8,8,8,8,8,8,8,8,8,8,8,8,8,8,8,8,8,8,8,8,8,8,8,8,8,8,8,8,8,8,8,8,8,8,8,8,8,8,8,8,8,8,8,8,8,8,8,8,8,8,8,8,8,8,8,8,8,8,8,8,8,8,8,8,8,8,8,8,8,8,8,8,8,8,8,8,8,8,8,8,8,8,8,8,8,8,8,8,8,8,8,8,8,8,8,8,8,8,8,8,8,8,8,8,8,8,8,8,8,8,8,8]) e).bind fun f=>
 (AD .i64 f).bind fun g=>
 (Ae .none .add c g).bind fun h=>
 rK a h d
noncomputable def Sh.f7e (d:Aa) (a b:Ab) (c:Aa):Out:=
 AH (fun j2=>
 (Ae .none .geq a (.int .u32 256)).bind fun e=>
 Aj e (
 (Ae .none .shr a (.int .u64 8)).bind fun f=>
 (Ae .none .add b (.int .i64 8)).bind fun g=>
 j2 [f,g] c) (
 j2 [a,b] c)) (fun vs H=>Sh.f7d d (ag vs 0) (ag vs 1) H)
noncomputable def Sh.f3e (a:Ab) (b:Aa):Out:=
 AH (fun j1=>
 (Ae .none .geq a (.int .u32 65536)).bind fun c=>
 Aj c (
 (Ae .none .shr a (.int .u64 16)).bind fun d=>
 j1 [d,(.int .i64 16)] b) (
 j1 [a,(.int .i64 0)] b)) (fun vs H=>Sh.f7e b (ag vs 0) (ag vs 1) H)
noncomputable def Sh.f3f (d:Ab) (a:Aa):Out:=
 bK a (Sh.f0 d a) fun b c=>
 (A5 b).bind fun e=>
 (Ae .none .eql e (.int .i64 0)).bind fun f=>
 Aj f (
 rK a (.int .i64 0) c) (
 (A5 b).bind fun g=>
 (Ae .none .sub g (.int .i64 1)).bind fun h=>
 (Ae .none .mul h (.int .i64 32)).bind fun i=>
 (A5 b).bind fun j=>
 (Ae .none .sub j (.int .i64 1)).bind fun k=>
 (Au 1 b k).bind fun l=>
 (Ac false 1 l c).bind fun m=>
 bK a (Sh.f3e m c) fun n o=>
 (Ae .none .add i n).bind fun p=>
 rK a p o)
noncomputable def Sh.f81 (a:Aa) (c:Ab) (b:Aa):Out:=
 (Ad 1 c).bind fun d=>
 (Ac false 1 d b).bind fun e=>
 bP a (Sh.f3f e b) fun f g=>
 (Ae .none .add (.int .i64 1) f).bind fun h=>
 rP a h g
noncomputable def Sh.f26 (d:Ab) (a:Aa):Out:=
 Ak (Bz true 2 d a) fun b c=>
 AH (fun j1=>
 (Ad 0 b).bind fun e=>
 (Ac false 1 e c).bind fun f=>
 Aj f (
 (Ac true 2 b c).bind fun g=>
 bP a (Sh.f1m g c) fun h i=>
 bP a (Sh.f24 (.int .i64 1) i) fun j k=>
 bP a (Sh.f3d h j k) fun l m=>
 bP a (A3 (Af 2 b l m)) fun _ n=>
 j1 [b] n) (
 j1 [b] c)) (fun vs H=>Sh.f81 a (ag vs 0) H)
noncomputable def Sh.f3g (b:Ab) (c:Aa):Out:=
 (Ae .none .geq b (.int .i64 0)).bind fun a=>
 gk a true (some b) fun d=>
 gk a true (Ae .none .leq d (.int .i64 10000)) fun e=>
 (A8 a e (.bool false)).bind fun f=>
 rK c f c
noncomputable def Sh.f5r (b:Aa) (l:LK) (c a g h d:Ab) (e:Aa):Out:=
 (Ae .none .lss d h).bind fun m=>
 Aj m (
 (Au 1 g d).bind fun n=>
 (Ac false 1 n e).bind fun i=>
 (Ae .none .quo c (.int .i64 32)).bind fun o=>
 (Ae .none .add d o).bind fun f=>
 (Au 1 a f).bind fun p=>
 bC (Ac false 1 p e) (fun _=>True) fun q=>
 (Ae .none .rem c (.int .i64 32)).bind fun r=>
 (Ae .none .shl i r).bind fun s=>
 (Ae .none .or q s).bind fun t=>
 (Au 1 a f).bind fun u=>
 bP b (A3 (Af 1 u t e)) fun _ j=>
 (Ae .none .add f (.int .i64 1)).bind fun k=>
 (Au 1 a k).bind fun v=>
 bC (Ac false 1 v j) (fun _=>True) fun w=>
 bC (AD .u64 i) (fun _=>True) fun x=>
 (Ae .none .rem c (.int .i64 32)).bind fun y=>
 (Ae .none .shl x y).bind fun z=>
 (Ae .none .shr z (.int .u64 32)).bind fun aa=>
 bC (AD .u32 aa) (fun _=>True) fun ab=>
 (Ae .none .or w ab).bind fun ac=>
 (Au 1 a k).bind fun ad=>
 bP b (A3 (Af 1 ad ac j)) fun _ ae=>
 (Ae .none .add d (.int .i64 1)).bind fun aj=>
 l [c,a,g,h,aj] ae) (
 bP b (Sh.f0 a e) fun ak al=>
 rPN b ak al)
noncomputable def Sh.f3h (b c:Ab) (a:Aa):Out:=
 bP a (Sh.f3g c a) fun f d=>
 (unA .not f).bind fun g=>
 Aj g (
 rPN a (.sl [] .tight) d) (
 (A5 b).bind fun h=>
 (Ae .none .quo c (.int .i64 32)).bind fun i=>
 (Ae .none .add h i).bind fun j=>
 (Ae .none .add j (.int .i64 1)).bind fun e=>
 Ak (Fx 1 4 (some [(.int .u32 0)]) e e d) fun k l=>
 (A5 b).bind fun m=>
 Ao (fun n vs H=>Sh.f5r a n (ag vs 0) (ag vs 1) (ag vs 2) (ag vs 3) (ag vs 4) H) AK [c,k,b,m,(.int .i64 0)] l)
noncomputable def Sh.f3i (d:Ab) (a:Aa):Out:=
 Ak (Ax (some [(.bool false),(.sl [] .tight)]) a) fun b e=>
 (AO 1 [(.int .u32 1)]).bind fun f=>
 bP a (Sh.f3h f d e) fun g h=>
 bP a (Sh.fa (.bool false) g h) fun i j=>
 bP a (A3 (Af 2 b i j)) fun _ c=>
 (Ac true 2 b c).bind fun k=>rPN a k c
noncomputable def Sh.f27 (e c:Ab) (d:Aa):Out:=
 (Ae .none .geq c (.int .i64 0)).bind fun b=>
 gk b true (some c) fun f=>
 gk b true (Ae .none .quo f (.int .i64 32)) fun g=>
 gk b true (some e) fun h=>
 gk b true (A5 h) fun i=>
 gk b true (Ae .none .lss g i) fun j=>
 (A8 b j (.bool false)).bind fun a=>
 gk a true (some e) fun k=>
 gk a true (some c) fun l=>
 gk a true (Ae .none .quo l (.int .i64 32)) fun m=>
 gk a true (Au 1 k m) fun n=>
 gk a true (Ac false 1 n d) fun o=>
 gk a true (some c) fun p=>
 gk a true (Ae .none .rem p (.int .i64 32)) fun q=>
 gk a true (Ae .none .shr o q) fun r=>
 gk a true (Ae .none .and r (.int .u32 1)) fun s=>
 gk a true (Ae .none .eql s (.int .u32 1)) fun t=>
 (A8 a t (.bool false)).bind fun u=>
 rK d u d
noncomputable def Sh.f82 (d:Aa) (e:LK) (f g a h c i j k:Ab) (b:Aa):Out:=
 (BQ 4 1 a c).bind fun l=>
 bC (Ac false 1 l b) (fun _=>True) fun m=>
 bC (Ac true 3 h b) (fun _=>True) fun n=>
 (AO 3 [n]).bind fun o=>
 AZ (BX (AN BO 3 56 m o b)) fun p q=>
 (BQ 4 1 a c).bind fun r=>
 bK d (A3 (Af 1 r p q)) fun _ s=>
 (Ae .none .add k (.int .i64 1)).bind fun t=>
 e [f,g,a,i,j,t] s
noncomputable def Sh.f83 (c:Aa) (l:LK) (d a e b f g h i:Ab) (j:Aa):Out:=
 AH (fun j3=>
 (Ad 1 b).bind fun m=>
 (Ac false 1 m j).bind fun n=>
 (Ae .none .sub a (.int .i64 1)).bind fun o=>
 bK c (Sh.f27 n o j) fun p k=>
 Aj p (
 (Ae .none .add f (.int .i64 2)).bind fun q=>
 j3 [d,a,e,b,q,g,h,i] k) (
 j3 [d,a,e,b,f,g,h,i] k)) (fun vs H=>Sh.f82 c l (ag vs 0) (ag vs 1) (ag vs 2) (ag vs 3) (ag vs 4) (ag vs 5) (ag vs 6) (ag vs 7) H)
noncomputable def Sh.f28 (e:Aa) (self:Ab→Ab→Ab→Aa→Out) (h:LK) (a f d g b:Ab) (c:Aa):Out:=
 (Ae .none .lss b (.int .i64 4)).bind fun k=>
 Aj k (
 (Jz false 4 1 g b).bind fun i=>
 (Ae .none .gtr f (.int .i64 1)).bind fun l=>
 Aj l (
 (Ae .none .sub f (.int .i64 1)).bind fun m=>
 bK e (self a m i c) fun n o=>
 (Ad 1 d).bind fun p=>
 (BQ 4 1 p b).bind fun q=>
 bK e (A3 (Af 1 q n o)) fun _ r=>
 (Ae .none .add b (.int .i64 1)).bind fun s=>
 h [a,f,d,g,s] r) (
 (A5 i).bind fun t=>
 (Ae .none .gtr t (.int .i64 0)).bind fun u=>
 Aj u (
 (Au 3 i (.int .i64 0)).bind fun v=>
 (Ad 2 v).bind fun w=>
 (Ac false 1 w c).bind fun x=>
 (AD .i64 x).bind fun y=>
 (Ad 1 d).bind fun z=>
 (BQ 4 1 z b).bind fun aa=>
 bK e (A3 (Af 1 aa y c)) fun _ ab=>
 (Ae .none .add b (.int .i64 1)).bind fun ac=>
 h [a,f,d,g,ac] ab) (
 (Ae .none .add b (.int .i64 1)).bind fun ad=>
 h [a,f,d,g,ad] c))) (
 (At a).bind fun ae=>
 (Ad 0 ae).bind fun aj=>
 bC (Ac false 1 aj c) (fun _=>True) fun ak=>
 bC (Ac true 5 d c) (fun _=>True) fun al=>
 (AO 5 [al]).bind fun am=>
 AZ (BX (AN AJ 5 40 ak am c)) fun an ap=>
 (At a).bind fun aq=>
 (Ad 0 aq).bind fun ar=>
 bK e (A3 (Af 1 ar an ap)) fun _ j=>
 (At a).bind fun au=>
 (Ad 0 au).bind fun av=>
 (Ac false 1 av j).bind fun aw=>
 (A5 aw).bind fun ax=>
 rK e ax j)
noncomputable def Sh.f4x (a:Aa) (self:Ab→Ab→Ab→Aa→Out) (n:LK) (e b f g h c:Ab) (i:Aa):Out:=
 (Ae .none .lss c h).bind fun o=>
 Aj o (
 (Au 3 g c).bind fun p=>
 (Ac true 3 p i).bind fun q=>
 Ak (Ax (some [(.sl [] .tight),(.sl [] .tight),(.int .u8 0)]) i) fun d r=>
 bK a (A3 (Af 3 d q r)) fun _ j=>
 AH (fun j2=>
 (Ad 0 d).bind fun s=>
 (Ac false 1 s j).bind fun t=>
 (Ae .none .sub b (.int .i64 1)).bind fun u=>
 bK a (Sh.f27 t u j) fun v k=>
 Aj v (
 (Ae .none .add (.int .i64 0) (.int .i64 1)).bind fun w=>
 j2 [e,b,f,d,w,g,h,c] k) (
 j2 [e,b,f,d,(.int .i64 0),g,h,c] k)) (fun vs H=>Sh.f83 a n (ag vs 0) (ag vs 1) (ag vs 2) (ag vs 3) (ag vs 4) (ag vs 5) (ag vs 6) (ag vs 7) H)) (
 (A2 (some [(.int .i64 0),(.int .i64 0),(.int .i64 0),(.int .i64 0),(.int .i64 0)]) [(0,1,b)]).bind fun x=>
 Ak (Ax (some [(.int .i64 0),(.int .i64 0),(.int .i64 0),(.int .i64 0),(.int .i64 0)]) i) fun l y=>
 bK a (A3 (Af 5 l x y)) fun _ m=>
 (Ac true 4 f m).bind fun z=>
 Ao (fun aa vs H=>Sh.f28 a self aa (ag vs 0) (ag vs 1) (ag vs 2) (ag vs 3) (ag vs 4) H) AK [e,b,l,z,(.int .i64 0)] m)
noncomputable def Sh.f7f (self:Ab→Ab→Ab→Aa→Out) (c d b:Ab) (a:Aa):Out:=
 (A5 b).bind fun e=>
 (Ae .none .eql e (.int .i64 0)).bind fun f=>
 Aj f (
 rK a (.int .i64 0) a) (
 Ak (Ax (some [(.sl [] .tight),(.sl [] .tight),(.sl [] .tight),(.sl [] .tight)]) a) fun g h=>
 (A5 b).bind fun i=>
 Ao (fun j vs H=>Sh.f4x a self j (ag vs 0) (ag vs 1) (ag vs 2) (ag vs 3) (ag vs 4) (ag vs 5) H) AK [c,d,g,b,i,(.int .i64 0)] h)
noncomputable def Sh.f29:Nat→Ab→Ab→Ab→Aa→Out
 | 0=>fun _ _ _ _=>none
 | d+1=>Sh.f7f (Sh.f29 d)
noncomputable def Sh.f3j (h i b:Ab) (c:Aa):Out:=
 (Au 5 h i).bind fun j=>
 (Ac true 5 j c).bind fun k=>
 Ak (Ax (some [(.int .i64 0),(.int .i64 0),(.int .i64 0),(.int .i64 0),(.int .i64 0)]) c) fun f l=>
 bP c (A3 (Af 5 f k l)) fun _ d=>
 (Ae .none .eql b (.int .i64 0)).bind fun m=>
 Aj m (
 rP c (.bool true) d) (
 (Ad 0 f).bind fun n=>
 (Ac false 1 n d).bind fun o=>
 (Ae .none .eql o (.int .i64 1)).bind fun p=>
 Aj p (
 (Ae .none .gtr b (.int .i64 0)).bind fun g=>
 gk g true (some b) fun q=>
 gk g true (Ae .none .leq q (.int .i64 255)) fun r=>
 (A8 g r (.bool false)).bind fun s=>
 rP c s d) (
 (Ae .none .gtr b (.int .i64 0)).bind fun e=>
 gk e true (some b) fun t=>
 gk e true (some i) fun u=>
 gk e true (Ae .none .leq t u) fun v=>
 (A8 e v (.bool false)).bind fun a=>
 gk a true (some h) fun w=>
 gk a true (some b) fun x=>
 gk a true (Ae .none .sub x (.int .i64 1)) fun y=>
 gk a true (Au 5 w y) fun z=>
 gk a true (Ad 0 z) fun aa=>
 gkc a true (Ac false 1 aa d) (fun _ _=>True) fun ab=>
 gk a true (Ad 0 f) fun ac=>
 gkc a true (Ac false 1 ac d) (fun _ _=>True) fun ad=>
 gk a true (Ae .none .sub ad (.int .i64 1)) fun ae=>
 gk a true (Ae .none .eql ab ae) fun aj=>
 (A8 a aj (.bool false)).bind fun ak=>
 rP c ak d))
noncomputable def Sh.f5s (c:Aa) (k:LK) (l:LK) (a d e f g h b:Ab) (i:Aa):Out:=
 (Ae .none .lss b (.int .i64 4)).bind fun m=>
 Aj m (
 (Jz false 4 1 h b).bind fun n=>
 bP c (Sh.f3j a d n i) fun o j=>
 (unA .not o).bind fun p=>
 Aj p (
 rP c (.bool false) j) (
 (Ae .none .add b (.int .i64 1)).bind fun q=>
 l [a,d,e,f,g,h,q] j)) (
 (Ae .none .add g (.int .i64 1)).bind fun r=>
 k [a,e,f,r] i)
noncomputable def Sh.f2a (b:Aa) (i:LK) (j g h c:Ab) (f:Aa):Out:=
 (Ae .none .lss c h).bind fun k=>
 Aj k (
 (Au 5 g c).bind fun l=>
 (Ac true 5 l f).bind fun m=>
 Ak (Ax (some [(.int .i64 0),(.int .i64 0),(.int .i64 0),(.int .i64 0),(.int .i64 0)]) f) fun d n=>
 bP b (A3 (Af 5 d m n)) fun _ a=>
 (Ad 0 d).bind fun o=>
 (Ac false 1 o a).bind fun p=>
 (Ae .none .lss p (.int .i64 1)).bind fun e=>
 gk e false (Ad 0 d) fun q=>
 gk e false (Ac false 1 q a) fun r=>
 gk e false (Ae .none .gtr r (.int .i64 1329)) fun s=>
 (A8 e (.bool true) s).bind fun t=>
 Aj t (
 rP b (.bool false) a) (
 (Ad 1 d).bind fun u=>
 (Ac true 4 u a).bind fun v=>
 Ao (fun w vs H=>Sh.f5s b i w (ag vs 0) (ag vs 1) (ag vs 2) (ag vs 3) (ag vs 4) (ag vs 5) (ag vs 6) H) AK [j,c,g,h,c,v,(.int .i64 0)] a)) (
 rP b (.bool true) f)
noncomputable def Sh.f3k (a:Ab) (b:Aa):Out:=
 (A5 a).bind fun c=>
 Ao (fun d vs H=>Sh.f2a b d (ag vs 0) (ag vs 1) (ag vs 2) (ag vs 3) H) AK [a,a,c,(.int .i64 0)] b
noncomputable def Sh.f3l (b:Ab) (a:Aa):Out:=
 (TN .eql b).bind fun c=>
 Aj c (
 rK a (.sl [] .tight) a) (
 (AO 5 []).bind fun d=>
 bK a (BX (AN AJ 5 40 d b a)) fun e f=>
 rK a e f)
noncomputable def Sh.f4y (d e f:Ab) (b:Aa):Out:=
 (Ae .none .neq d (.int .i64 0)).bind fun a=>
 gk a true (Ad 0 e) fun g=>
 gk a true (Ac false 1 g b) fun h=>
 gk a true (Ae .none .eql h (.int .i64 1)) fun i=>
 gk a true (some i) fun c=>
 gk c false (Ac false 1 f b) fun j=>
 gk c false (some d) fun k=>
 gk c false (Au 1 j k) fun l=>
 gk c false (Ac false 1 l b) fun m=>
 gk a true (A8 c (.bool true) m) fun n=>
 (A8 a n (.bool false)).bind fun o=>
 rK b o b
noncomputable def C8:Orc:=(ent 238 (ap3 Sh.f4y) noO)
noncomputable def Sh.f5t (b:Aa) (h:LK) (d e f a:Ab) (c:Aa):Out:=
 (Ae .none .lss a f).bind fun i=>
 Aj i (
 (Au 1 d a).bind fun j=>
 (Ac false 1 j c).bind fun k=>
 bK b (D6 C8 e [k] c) fun l g=>
 Aj l (
 rK b a g) (
 (Ae .none .add a (.int .i64 1)).bind fun m=>
 h [d,e,f,m] g)) (
 rK b (.int .i64 (-1)) c)
noncomputable def Sh.f4z (a c:Ab) (b:Aa):Out:=
 (A5 a).bind fun d=>
 Ao (fun e vs H=>Sh.f5t b e (ag vs 0) (ag vs 1) (ag vs 2) (ag vs 3) H) AK [a,c,d,(.int .i64 0)] b
noncomputable def Sh.f3m (b c:Ab) (a:Aa):Out:=
 bK a (Sh.f4z b c a) fun d e=>
 (Ae .none .geq d (.int .i64 0)).bind fun f=>
 rK a f e
noncomputable def Sh.f7g (d:Aa) (k:LK) (a g h b:Ab) (c:Aa):Out:=
 (Ae .none .lss b h).bind fun l=>
 Aj l (
 (Au 5 g b).bind fun m=>
 (Ac true 5 m c).bind fun n=>
 Ak (Ax (some [(.int .i64 0),(.int .i64 0),(.int .i64 0),(.int .i64 0),(.int .i64 0)]) c) fun e o=>
 bP d (A3 (Af 5 e n o)) fun _ i=>
 (Ad 1 e).bind fun p=>
 (JA 4 1 p none none).bind fun q=>
 AZ (Sh.f3m q (.fn 238 [e,a]) i) fun r j=>
 bC (Ac false 1 a j) (fun f=>Ac false 1 a i=some f∧True) fun f=>
 (Ae .none .add b (.int .i64 1)).bind fun s=>
 (Au 1 f s).bind fun t=>
 bP d (A3 (Af 1 t r j)) fun _ u=>
 (Ae .none .add b (.int .i64 1)).bind fun v=>
 k [a,g,h,v] u) (
 (Ac false 1 a c).bind fun w=>
 rPN d w c)
noncomputable def Sh.f1o (a:Ab) (b:Aa):Out:=
 (A5 a).bind fun e=>
 (Ae .none .add e (.int .i64 1)).bind fun c=>
 Ak (Fx 1 1 (some [(.bool false)]) c c b) fun f g=>
 Ak (Ax (some [(.sl [] .tight)]) g) fun d h=>
 bP b (A3 (Af 1 d f h)) fun _ i=>
 (A5 a).bind fun j=>
 Ao (fun k vs H=>Sh.f7g b k (ag vs 0) (ag vs 1) (ag vs 2) (ag vs 3) H) AK [d,a,j,(.int .i64 0)] i
noncomputable def Sh.f3n (c d:Ab) (a:Aa):Out:=
 bK a (Sh.f1o c a) fun e b=>
 (Au 1 e d).bind fun f=>
 (Ac false 1 f b).bind fun g=>
 (unA .not g).bind fun h=>
 rK a h b
noncomputable def Sh.f5u (n:Aa) (o:LK) (p:LK) (e f h i j k l d:Ab) (b:Aa):Out:=
 (Ae .none .lss d (.int .i64 4)).bind fun q=>
 Aj q (
 (Jz false 4 1 l d).bind fun m=>
 (Ae .none .sub (.int .i64 3) h).bind fun r=>
 (Ae .none .neq d r).bind fun g=>
 gk g true (some m) fun s=>
 gk g true (Ae .none .neq s (.int .i64 0)) fun t=>
 (A8 g t (.bool false)).bind fun a=>
 gk a true (some e) fun u=>
 gk a true (some i) fun v=>
 gk a true (Ae .none .sub v (.int .i64 1)) fun w=>
 gk a true (Au 5 u w) fun x=>
 gk a true (Ad 0 x) fun y=>
 gk a true (Ac false 1 y b) fun z=>
 gk a true (Ae .none .eql z (.int .i64 1)) fun aa=>
 gk a true (some aa) fun c=>
 gk c false (some f) fun ab=>
 gk c false (some m) fun ac=>
 gk c false (Au 1 ab ac) fun ad=>
 gk c false (Ac false 1 ad b) fun ae=>
 gk a true (A8 c (.bool true) ae) fun aj=>
 (A8 a aj (.bool false)).bind fun ak=>
 Aj ak (
 rK n (.bool false) b) (
 (Ae .none .add d (.int .i64 1)).bind fun al=>
 p [e,f,h,i,j,k,l,al] b)) (
 (Ae .none .add k (.int .i64 1)).bind fun am=>
 o [e,f,j,am] b)
noncomputable def Sh.f5v (f:Aa) (g:LK) (c h d a:Ab) (b:Aa):Out:=
 (Ae .none .lss a (.int .i64 4)).bind fun i=>
 Aj i (
 (Jz false 4 1 d a).bind fun e=>
 (Ae .none .eql e (.int .i64 0)).bind fun j=>
 Aj j (
 (Ae .none .add a (.int .i64 1)).bind fun k=>
 g [c,h,d,k] b) (
 (Ae .none .sub e (.int .i64 1)).bind fun l=>
 (Au 5 c l).bind fun m=>
 (Ad 1 m).bind fun n=>
 (Ac true 4 n b).bind fun o=>
 Ao (fun p vs H=>Sh.f5u f g p (ag vs 0) (ag vs 1) (ag vs 2) (ag vs 3) (ag vs 4) (ag vs 5) (ag vs 6) (ag vs 7) H) AK [c,h,a,e,d,a,o,(.int .i64 0)] b)) (
 rK f (.bool true) b)
noncomputable def Sh.f3o (c d:Ab) (b:Aa):Out:=
 (Ae .none .eql d (.int .i64 0)).bind fun a=>
 gk a false (some c) fun f=>
 gk a false (some d) fun g=>
 gk a false (Ae .none .sub g (.int .i64 1)) fun h=>
 gk a false (Au 5 f h) fun i=>
 gk a false (Ad 0 i) fun j=>
 gk a false (Ac false 1 j b) fun k=>
 gk a false (Ae .none .eql k (.int .i64 1)) fun l=>
 (A8 a (.bool true) l).bind fun m=>
 Aj m (
 rK b (.bool false) b) (
 bK b (Sh.f1o c b) fun n e=>
 (Ae .none .sub d (.int .i64 1)).bind fun o=>
 (Au 5 c o).bind fun p=>
 (Ad 1 p).bind fun q=>
 (Ac true 4 q e).bind fun r=>
 Ao (fun s vs H=>Sh.f5v b s (ag vs 0) (ag vs 1) (ag vs 2) (ag vs 3) H) AK [c,n,r,(.int .i64 0)] e)
noncomputable def Sh.f3p (b e c:Ab) (a:Aa):Out:=
 (Ae .none .sub e (.int .i64 1)).bind fun f=>
 (Au 5 b f).bind fun g=>
 (Ad 1 g).bind fun h=>
 (BQ 4 1 h c).bind fun i=>
 (Ac false 1 i a).bind fun d=>
 (Ae .none .gtr d (.int .i64 0)).bind fun j=>
 Aj j (
 (Ae .none .sub d (.int .i64 1)).bind fun k=>
 (Ae .none .sub (.int .i64 3) c).bind fun l=>
 (Au 5 b k).bind fun m=>
 (Ad 1 m).bind fun n=>
 (BQ 4 1 n l).bind fun o=>
 (Ac false 1 o a).bind fun p=>
 rK a p a) (
 rK a (.int .i64 0) a)
noncomputable def Sh.f5w (b:Aa) (h:LK) (i:LK) (c f d a:Ab) (e:Aa):Out:=
 (Ae .none .lss a (.int .i64 4)).bind fun j=>
 Aj j (
 bP b (Sh.f3p c f a e) fun k l=>
 (Ad 1 d).bind fun m=>
 (BQ 4 1 m a).bind fun n=>
 bP b (A3 (Af 1 n k l)) fun _ o=>
 (Ae .none .add a (.int .i64 1)).bind fun p=>
 i [c,f,d,p] o) (
 (Ac true 5 d e).bind fun q=>
 (AO 5 [q]).bind fun r=>
 bP b (BX (AN AJ 5 40 c r e)) fun g s=>
 (A5 g).bind fun t=>
 h [g,t] s)
noncomputable def Sh.f7h (a:Aa) (f:LK) (b c:Ab) (g:Aa):Out:=
 bP a (Sh.f3o b c g) fun h d=>
 Aj h (
 (Ae .none .sub c (.int .i64 1)).bind fun i=>
 (Au 5 b i).bind fun j=>
 (Ad 0 j).bind fun k=>
 (Ac false 1 k d).bind fun l=>
 (Ae .none .sub l (.int .i64 1)).bind fun m=>
 (A2 (some [(.int .i64 0),(.int .i64 0),(.int .i64 0),(.int .i64 0),(.int .i64 0)]) [(0,1,m)]).bind fun n=>
 Ak (Ax (some [(.int .i64 0),(.int .i64 0),(.int .i64 0),(.int .i64 0),(.int .i64 0)]) d) fun e o=>
 bP a (A3 (Af 5 e n o)) fun _ p=>
 Ao (fun q vs H=>Sh.f5w a f q (ag vs 0) (ag vs 1) (ag vs 2) (ag vs 3) H) AK [b,c,e,(.int .i64 0)] p) (
 rPN a (.tup [b,c]) d)
noncomputable def Sh.f3q (e c:Ab) (a:Aa):Out:=
 bP a (Sh.f3l e a) fun b f=>
 bP a (Sh.f3n b c f) fun g d=>
 Aj g (
 rPN a (.tup [b,(.int .i64 0)]) d) (
 Ao (fun h vs H=>Sh.f7h a h (ag vs 0) (ag vs 1) H) AK [b,c] d)
noncomputable def Sh.f3r (b h:Ab) (c:Aa):Out:=
 Ak (Bz true 5 h c) fun d a=>
 (Ad 1 d).bind fun i=>
 (Ac true 4 i a).bind fun j=>
 (A2 (some [(.int .i64 0),(.int .i64 0),(.int .i64 0),(.int .i64 0)]) []).bind fun k=>
 (Ae (.flat 4) .eql j k).bind fun l=>
 Aj l (
 rK c (.int .i64 0) a) (
 (At b).bind fun m=>
 (Ad 1 m).bind fun n=>
 bC (Ac false 1 n a) (fun _=>True) fun o=>
 bC (Ac true 5 d a) (fun _=>True) fun p=>
 bC (Fp true 5 (some (.int .i64 0)) true o p a) (fun _=>True) fun f=>
 (As 0 f).bind fun q=>
 (As 1 f).bind fun r=>
 Aj r (
 rK c q a) (
 (At b).bind fun s=>
 (Ad 0 s).bind fun t=>
 bC (Ac false 1 t a) (fun _=>True) fun u=>
 bC (Ac true 5 d a) (fun _=>True) fun v=>
 (AO 5 [v]).bind fun w=>
 AZ (BX (AN AJ 5 40 u w a)) fun x y=>
 (At b).bind fun z=>
 (Ad 0 z).bind fun aa=>
 bK c (A3 (Af 1 aa x y)) fun _ e=>
 (At b).bind fun ab=>
 (Ad 1 ab).bind fun ac=>
 bC (Ac false 1 ac e) (fun _=>True) fun ad=>
 bC (Ac true 5 d e) (fun _=>True) fun ae=>
 (At b).bind fun aj=>
 (Ad 0 aj).bind fun ak=>
 bC (Ac false 1 ak e) (fun _=>True) fun al=>
 (A5 al).bind fun am=>
 bK c (A3 (Eg true 5 ad ae am e)) fun _ g=>
 (At b).bind fun an=>
 (Ad 0 an).bind fun ap=>
 (Ac false 1 ap g).bind fun aq=>
 (A5 aq).bind fun ar=>
 rK c ar g))
noncomputable def HU (self:Ab→Ab→Ab→Ab→Ab→Aa→Out):Orc:=ent 161 (ap5 self) (ent 162 (ap2 Sh.f3r) noO)
noncomputable def Sh.f5x (a:Aa) (e f g h:Ab) (b:Aa):Out:=
 (Ac false 1 g b).bind fun i=>
 (Ac true 5 h b).bind fun j=>
 bK a (Sh.f3r i j b) fun c d=>
 (Ac false 1 f d).bind fun k=>
 bK a (A3 (Eg false 1 k e c d)) fun _ l=>
 rK a c l
noncomputable def Sh.f5y (d:Aa) (self:Ab→Ab→Ab→Ab→Ab→Aa→Out) (j1:LK) (j:LK) (e f g h b i a:Ab) (c:Aa):Out:=
 (Ae .none .lss a (.int .i64 4)).bind fun k=>
 Aj k (
 (Jz false 4 1 i a).bind fun l=>
 (Ac false 1 g c).bind fun m=>
 bK d (D6 (HU self) m [l] c) fun n o=>
 (Ad 1 b).bind fun p=>
 (BQ 4 1 p a).bind fun q=>
 bK d (A3 (Af 1 q n o)) fun _ r=>
 (Ae .none .add a (.int .i64 1)).bind fun s=>
 j [e,f,g,h,b,i,s] r) (
 j1 [e,f,h,b] c)
noncomputable def Sh.f50 (self:Ab→Ab→Ab→Ab→Ab→Aa→Out) (c e h i f:Ab) (a:Aa):Out:=
 (Ac false 1 e a).bind fun j=>
 (Fp false 1 (some (.int .i64 0)) true j c a).bind fun g=>
 (As 0 g).bind fun k=>
 (As 1 g).bind fun l=>
 Aj l (
 rK a k a) (
 (Ac false 1 h a).bind fun m=>
 (Ae .none .sub c (.int .i64 1)).bind fun n=>
 (Au 5 m n).bind fun o=>
 (Ac true 5 o a).bind fun p=>
 Ak (Ax (some [(.int .i64 0),(.int .i64 0),(.int .i64 0),(.int .i64 0),(.int .i64 0)]) a) fun b q=>
 bK a (A3 (Af 5 b p q)) fun _ d=>
 AH (fun j1=>
 (Ad 0 b).bind fun r=>
 (Ac false 1 r d).bind fun s=>
 (Ae .none .gtr s (.int .i64 1)).bind fun t=>
 Aj t (
 (Ad 1 b).bind fun u=>
 (Ac true 4 u d).bind fun v=>
 Ao (fun w vs H=>Sh.f5y a self j1 w (ag vs 0) (ag vs 1) (ag vs 2) (ag vs 3) (ag vs 4) (ag vs 5) (ag vs 6) H) AK [c,e,i,f,b,v,(.int .i64 0)] d) (
 j1 [c,e,f,b] d)) (fun vs H=>Sh.f5x a (ag vs 0) (ag vs 1) (ag vs 2) (ag vs 3) H))
noncomputable def Sh.fj:Nat→Ab→Ab→Ab→Ab→Ab→Aa→Out
 | 0=>fun _ _ _ _ _ _=>none
 | d+1=>Sh.f50 (Sh.fj d)
noncomputable def Jw:Orc:=(ent 159 (ap1 Sh.f3k) (ent 160 (ap2 Sh.f3q) (ent 161 (ap5 (Sh.fj AK)) noO)))
noncomputable def Sh.f3s (r f:Ab) (a:Aa):Out:=
 Ak (Bz true 1 r a) fun b s=>
 Ak (Ax (some [(.sl [] .tight)]) s) fun d k=>
 (Ac false 1 b k).bind fun t=>
 bP a (Sh.f3k t k) fun u e=>
 (unA .not u).bind fun g=>
 gk g false (some f) fun v=>
 gk g false (Ae .none .lss v (.int .i64 0)) fun w=>
 (A8 g (.bool true) w).bind fun c=>
 gk c false (some f) fun x=>
 gk c false (Ac false 1 b e) fun y=>
 gk c false (A5 y) fun z=>
 gk c false (Ae .none .gtr x z) fun aa=>
 (A8 c (.bool true) aa).bind fun ab=>
 Aj ab (
 (A2 (some [(.sl [] .tight)]) []).bind fun ac=>
 bP a (A3 (Af 1 d ac e)) fun _ l=>
 (CU [Ac true 1 d l,some (.int .i64 1)]).bind fun ad=>rPN a ad l) (
 (Ac false 1 b e).bind fun ae=>
 bP a (Sh.f3q ae f e) fun m aj=>
 (As 0 m).bind fun ak=>
 (As 1 m).bind fun al=>
 bP a (A3 (Af 1 b ak aj)) fun _ am=>
 Ak (E9 am) fun an ap=>
 (A2 (some [(.sl [] .tight),.nilmap]) [(1,1,an)]).bind fun aq=>
 Ak (Bz true 2 aq ap) fun ar au=>
 Ak (Ax (some [.nilp]) au) fun h av=>
 bP a (A3 (Af 1 h ar av)) fun _ aw=>
 Ak (E9 aw) fun n ax=>
 bP a (A3 (Eg false 1 n (.int .i64 0) (.int .i64 0) ax)) fun _ ay=>
 Ak (Ax (some [.nilmap]) ay) fun o az=>
 bP a (A3 (Af 1 o n az)) fun _ a0=>
 Ak (Ax (some [.nilfn]) a0) fun i a1=>
 bP a (A3 (Af 1 i (.fn 161 [o,b,i,h]) a1)) fun _ p=>
 (Ac false 1 i p).bind fun a2=>
 bP a (D6 Jw a2 [al] p) fun a9 j=>
 (Ac false 1 h j).bind fun a3=>
 (At a3).bind fun a4=>
 (Ad 0 a4).bind fun a5=>
 (Ac false 1 a5 j).bind fun a6=>
 (A2 (some [(.sl [] .tight)]) [(0,1,a6)]).bind fun a7=>
 bP a (A3 (Af 1 d a7 j)) fun _ q=>
 (CU [Ac true 1 d q,some (.int .i64 0)]).bind fun a8=>rPN a a8 q)
noncomputable def Sh.f51 (b:Aa) (w:LK) (g m c n o p h:Ab) (i:Aa):Out:=
 (Ae .none .lss h p).bind fun x=>
 Aj x (
 (Au 5 o h).bind fun y=>
 (Ac true 5 y i).bind fun z=>
 Ak (Ax (some [(.bool false),(.sl [] .tight),(.bool false),(.sl [] .tight),(.int .u8 0)]) i) fun d aa=>
 bP b (A3 (Af 5 d z aa)) fun _ a=>
 (Ad 0 d).bind fun ab=>
 bC (Ac true 2 ab a) (fun _=>True) fun ac=>
 bC (Ac true 2 c a) (fun _=>True) fun ad=>
 AZ (Sh.f11 ac ad a) fun ae e=>
 (Ad 2 d).bind fun q=>
 bC (Ac true 2 q e) (fun j=>Ac true 2 q a=some j∧True) fun j=>
 bC (Ac true 2 c e) (fun k=>Ac true 2 c a=some k∧True) fun k=>
 AZ (Sh.f11 j k e) fun aj r=>
 (SH false 1 1 ae).bind fun ak=>
 (SH false 1 1 aj).bind fun al=>
 (Ad 4 d).bind fun l=>
 bC (Ac false 1 l r) (fun f=>Ac false 1 l e=some f∧Ac false 1 l a=some f∧True) fun f=>
 (A2 (some [(.sl [] .tight),(.sl [] .tight),(.int .u8 0)]) [(0,1,ak),(1,1,al),(2,1,f)]).bind fun am=>
 (AO 3 [am]).bind fun an=>
 AZ (BX (AN BO 3 56 n an r)) fun ap aq=>
 (Ae .none .add h (.int .i64 1)).bind fun ar=>
 w [g,m,c,ap,o,p,ar] aq) (
 (A2 (some [(.sl [] .tight)]) []).bind fun au=>
 Ak (Bz true 1 au i) fun s av=>
 bP b (Sh.f29 AK s m n av) fun aw t=>
 (At s).bind fun ax=>
 (Ad 0 ax).bind fun ay=>
 (Ac false 1 ay t).bind fun az=>
 bP b (Sh.f3s az aw t) fun u a0=>
 (As 0 u).bind fun a1=>
 (As 1 u).bind fun a2=>
 bP b (A3 (Af 1 g a1 a0)) fun _ v=>
 (CU [Ac true 1 g v,some a2]).bind fun a3=>rPN b a3 v)
noncomputable def Sh.f3t (a:Aa) (p:LK) (b e c j k f:Ab) (d:Aa):Out:=
 (Ae .none .lss f k).bind fun q=>
 Aj q (
 (Au 5 j f).bind fun r=>
 (Ac true 5 r d).bind fun s=>
 Ak (Ax (some [(.bool false),(.sl [] .tight),(.bool false),(.sl [] .tight),(.int .u8 0)]) d) fun g t=>
 bP a (A3 (Af 5 g s t)) fun _ h=>
 (Ad 0 g).bind fun u=>
 bC (Ac true 2 u h) (fun _=>True) fun v=>
 AZ (Sh.f26 v h) fun w l=>
 (Ad 2 g).bind fun m=>
 bC (Ac true 2 m l) (fun i=>Ac true 2 m h=some i∧True) fun i=>
 AZ (Sh.f26 i l) fun x y=>
 (HM JK c [w,x]).bind fun z=>
 (Ae .none .add f (.int .i64 1)).bind fun aa=>
 p [b,e,z,j,k,aa] y) (
 (Ae .none .gtr c (.int .i64 1329)).bind fun ab=>
 Aj ab (
 (A2 (some [(.sl [] .tight)]) []).bind fun ac=>
 bP a (A3 (Af 1 b ac d)) fun _ n=>
 (CU [Ac true 1 b n,some (.int .i64 4)]).bind fun ad=>rPN a ad n) (
 (Ae .none .sub c (.int .i64 1)).bind fun ae=>
 bP a (Sh.f3i ae d) fun aj ak=>
 Ak (Ax (some [(.bool false),(.sl [] .tight)]) ak) fun o al=>
 bP a (A3 (Af 2 o aj al)) fun _ am=>
 (A5 e).bind fun an=>
 Ao (fun ap vs H=>Sh.f51 a ap (ag vs 0) (ag vs 1) (ag vs 2) (ag vs 3) (ag vs 4) (ag vs 5) (ag vs 6) H) AK [b,c,o,(.sl [] .tight),e,an,(.int .i64 0)] am))
noncomputable def Sh.f2b (d:Ab) (a:Aa):Out:=
 Ak (Ax (some [(.sl [] .tight)]) a) fun b g=>
 bP a (Sh.f2y d (.fn 84 []) g) fun h e=>
 Aj h (
 (A2 (some [(.sl [] .tight)]) []).bind fun i=>
 bP a (A3 (Af 1 b i e)) fun _ f=>
 (CU [Ac true 1 b f,some (.int .i64 1)]).bind fun j=>rPN a j f) (
 bP a (Sh.f38 d e) fun c k=>
 (A5 c).bind fun l=>
 Ao (fun m vs H=>Sh.f3t a m (ag vs 0) (ag vs 1) (ag vs 2) (ag vs 3) (ag vs 4) (ag vs 5) H) AK [b,c,(.int .i64 1),c,l,(.int .i64 0)] k)
noncomputable def Sh.f12 (l v:Ab) (a:Aa):Out:=
 Ak (Bz true 2 v a) fun m w=>
 Ak (Ax (some [(.str []),(.sl [] .tight)]) w) fun b n=>
 (Ac true 2 m n).bind fun x=>
 bP a (Sh.f2n x n) fun y o=>
 (unA .not y).bind fun z=>
 Aj z (
 (A2 (some [(.str []),(.sl [] .tight)]) []).bind fun aa=>
 bP a (A3 (Af 2 b aa o)) fun _ p=>
 (CU [Ac true 2 b p,some (.int .i64 0),some (.int .i64 1)]).bind fun ab=>rPN a ab p) (
 (A2 (some [(.str []),(.int .i64 0)]) [(0,1,l)]).bind fun ac=>
 (A2 (some [(.str []),(.int .i64 0),(.str []),(.sl [] .tight)]) [(0,2,ac),(2,1,(.str [66,51,47,83,50,51]))]).bind fun ad=>
 Ak (Bz true 4 ad o) fun f ae=>
 bP a (Sh.f20 (.bfn 38 [f]) ae) fun aj ak=>
 Ak (Ax (some [(.int .i64 0),(.str [])]) ak) fun h al=>
 bP a (A3 (Af 2 h aj al)) fun _ d=>
 (Ad 0 h).bind fun am=>
 (Ac false 1 am d).bind fun an=>
 (Ae .none .neq an (.int .i64 0)).bind fun ap=>
 Aj ap (
 (A2 (some [(.str []),(.sl [] .tight)]) []).bind fun aq=>
 AZ (A3 (Af 2 b aq d)) fun _ g=>
 (At f).bind fun ar=>
 (Ad 0 ar).bind fun au=>
 (Ad 1 au).bind fun q=>
 bC (Ac false 1 q g) (fun i=>Ac false 1 q d=some i∧True) fun i=>
 (Ad 0 h).bind fun r=>
 bC (Ac false 1 r g) (fun j=>Ac false 1 r d=some j∧True) fun j=>
 (CU [Ac true 2 b g,some i,some j]).bind fun av=>rPN a av g) (
 (At f).bind fun aw=>
 (Ad 3 aw).bind fun ax=>
 (Ac false 1 ax d).bind fun ay=>
 bP a (Sh.f2b ay d) fun s az=>
 (As 0 s).bind fun a0=>
 (As 1 s).bind fun a1=>
 Ak (Ax (some [(.sl [] .tight)]) az) fun k a2=>
 bP a (A3 (Af 1 k a0 a2)) fun _ e=>
 (Ae .none .neq a1 (.int .i64 0)).bind fun c=>
 gk c false (Ad 0 k) fun a3=>
 gk c false (Ac false 1 a3 e) fun a4=>
 gk c false (A5 a4) fun a5=>
 gk c false (Ad 1 m) fun a6=>
 gk c false (Ac false 1 a6 e) fun a7=>
 gk c false (Ae .none .gtr a5 a7) fun a8=>
 (A8 c (.bool true) a8).bind fun a9=>
 Aj a9 (
 (A2 (some [(.str []),(.sl [] .tight)]) []).bind fun ba=>
 (BE l).bind fun bb=>
 bP a (A3 (Af 2 b ba e)) fun _ t=>
 (CU [Ac true 2 b t,some bb,some (.int .i64 4)]).bind fun bc=>rPN a bc t) (
 (At f).bind fun bd=>
 (Ad 2 bd).bind fun be=>
 bC (Ac false 1 be e) (fun _=>True) fun bg=>
 bC (Ac true 1 k e) (fun _=>True) fun bj=>
 (A2 (some [(.str []),(.sl [] .tight)]) [(0,1,bg),(1,1,bj)]).bind fun bk=>
 AZ (A3 (Af 2 b bk e)) fun _ u=>
 (CU [Ac true 2 b u,some (.int .i64 0),some (.int .i64 0)]).bind fun bl=>rPN a bl u)))
noncomputable def Sh.f3u (b:Ab) (c:Aa):Out:=
 (Ae .none .geq b (.int .i64 1)).bind fun a=>
 gk a true (some b) fun d=>
 gk a true (Ae .none .leq d (.int .i64 5)) fun e=>
 (A8 a e (.bool false)).bind fun f=>
 rK c f c
noncomputable def Sh.f1p (b:Ab) (c:Aa):Out:=
 (Ae .none .geq b (.int .u8 33)).bind fun a=>
 gk a true (some b) fun d=>
 gk a true (Ae .none .leq d (.int .u8 126)) fun e=>
 (A8 a e (.bool false)).bind fun f=>
 rK c f c
noncomputable def Sh.f84 (c:Aa) (g:LK) (a d:Ab) (e:Aa):Out:=
 (BE a).bind fun h=>
 (Ae .none .lss d h).bind fun i=>
 Aj i (
 (BV a d).bind fun j=>
 bK c (Sh.f1p j e) fun k f=>
 (unA .not k).bind fun l=>
 Aj l (
 rK c (.bool false) f) (
 (Ae .none .add d (.int .i64 1)).bind fun m=>
 g [a,m] f)) (
 (BE a).bind fun n=>
 (Ae .none .geq n (.int .i64 1)).bind fun b=>
 gk b true (some a) fun o=>
 gk b true (BE o) fun p=>
 gk b true (Ae .none .leq p (.int .i64 40)) fun q=>
 (A8 b q (.bool false)).bind fun r=>
 rK c r e)
noncomputable def Sh.f3v (b:Ab) (a:Aa):Out:=
 Ao (fun c vs H=>Sh.f84 a c (ag vs 0) (ag vs 1) H) AK [b,(.int .i64 0)] a
noncomputable def Sh.f5z (k:Aa) (l:LK) (m:LK) (d e h:Ab) (b:Aa):Out:=
 (Ae .none .lss h (.int .i64 4)).bind fun n=>
 Aj n (
 (Au 5 d e).bind fun o=>
 (Ad 1 o).bind fun p=>
 (BQ 4 1 p h).bind fun q=>
 (Ac false 1 q b).bind fun g=>
 (Ae .none .lss g (.int .i64 0)).bind fun c=>
 gk c false (some d) fun r=>
 gk c false (some e) fun s=>
 gk c false (Au 5 r s) fun t=>
 gk c false (Ad 0 t) fun u=>
 gk c false (Ac false 1 u b) fun v=>
 gk c false (Ae .none .eql v (.int .i64 1)) fun w=>
 gk c false (some w) fun i=>
 gk i true (some g) fun x=>
 gk i true (Ae .none .gtr x (.int .i64 255)) fun y=>
 gk c false (A8 i y (.bool false)) fun z=>
 (A8 c (.bool true) z).bind fun aa=>
 Aj aa (
 rK k (.bool false) b) (
 (Au 5 d e).bind fun ab=>
 (Ad 0 ab).bind fun ac=>
 bC (Ac false 1 ac b) (fun _=>True) fun ad=>
 (Ae .none .gtr ad (.int .i64 1)).bind fun j=>
 gk j true (some g) fun ae=>
 gk j true (Ae .none .gtr ae (.int .i64 0)) fun aj=>
 (A8 j aj (.bool false)).bind fun f=>
 gk f true (some g) fun ak=>
 gk f true (some e) fun al=>
 gk f true (Ae .none .gtr ak al) fun am=>
 gk f true (some am) fun a=>
 gk a false (some d) fun an=>
 gk a false (some g) fun ap=>
 gk a false (Ae .none .sub ap (.int .i64 1)) fun aq=>
 gk a false (Au 5 an aq) fun ar=>
 gk a false (Ad 0 ar) fun au=>
 gkc a false (Ac false 1 au b) (fun _ _=>True) fun av=>
 gk a false (some d) fun aw=>
 gk a false (some e) fun ax=>
 gk a false (Au 5 aw ax) fun ay=>
 gk a false (Ad 0 ay) fun az=>
 gkc a false (Ac false 1 az b) (fun _ _=>True) fun a0=>
 gk a false (Ae .none .sub a0 (.int .i64 1)) fun a1=>
 gk a false (Ae .none .neq av a1) fun a2=>
 gk f true (A8 a (.bool true) a2) fun a3=>
 (A8 f a3 (.bool false)).bind fun a4=>
 Aj a4 (
 rK k (.bool false) b) (
 (Ae .none .add h (.int .i64 1)).bind fun a5=>
 m [d,e,a5] b))) (
 (Ae .none .add e (.int .i64 1)).bind fun a6=>
 l [d,a6] b)
noncomputable def Sh.f60 (e:Aa) (f:LK) (c d:Ab) (b:Aa):Out:=
 (A5 c).bind fun g=>
 (Ae .none .lss d g).bind fun h=>
 Aj h (
 (Au 5 c d).bind fun i=>
 (Ad 0 i).bind fun j=>
 (Ac false 1 j b).bind fun k=>
 (Ae .none .lss k (.int .i64 1)).bind fun a=>
 gk a false (some c) fun l=>
 gk a false (some d) fun m=>
 gk a false (Au 5 l m) fun n=>
 gk a false (Ad 0 n) fun o=>
 gk a false (Ac false 1 o b) fun p=>
 gk a false (Ae .none .gtr p (.int .i64 1329)) fun q=>
 (A8 a (.bool true) q).bind fun r=>
 Aj r (
 rK e (.bool false) b) (
 Ao (fun s vs H=>Sh.f5z e f s (ag vs 0) (ag vs 1) (ag vs 2) H) AK [c,d,(.int .i64 0)] b)) (
 rK e (.bool true) b)
noncomputable def Sh.f1q (b:Ab) (a:Aa):Out:=
 Ao (fun c vs H=>Sh.f60 a c (ag vs 0) (ag vs 1) H) AK [b,(.int .i64 0)] a
noncomputable def Sh.f61 (j:Aa) (k:LK) (l:LK) (f g c b h:Ab) (d:Aa):Out:=
 (Ae .none .lss h (.int .i64 4)).bind fun m=>
 Aj m (
 (Au 5 f c).bind fun n=>
 (Ad 1 n).bind fun o=>
 (BQ 4 1 o h).bind fun p=>
 (Ac false 1 p d).bind fun i=>
 gk b true (some i) fun q=>
 gk b true (Ae .none .eql q (.int .i64 0)) fun r=>
 gk b true (some r) fun a=>
 gk a false (some f) fun s=>
 gk a false (some c) fun t=>
 gk a false (Au 5 s t) fun u=>
 gk a false (Ad 0 u) fun v=>
 gk a false (Ac false 1 v d) fun w=>
 gk a false (Ae .none .gtr w (.int .i64 1)) fun x=>
 gk a false (some x) fun e=>
 gk e true (some g) fun y=>
 gk e true (some i) fun z=>
 gk e true (Au 1 y z) fun aa=>
 gk e true (Ac false 1 aa d) fun ab=>
 gk a false (A8 e ab (.bool false)) fun ac=>
 gk b true (A8 a (.bool true) ac) fun ad=>
 (A8 b ad (.bool false)).bind fun ae=>
 (Ae .none .add h (.int .i64 1)).bind fun aj=>
 l [f,g,c,ae,aj] d) (
 (Ae .none .add c (.int .i64 1)).bind fun ak=>
 (Au 1 g ak).bind fun al=>
 bP j (A3 (Af 1 al b d)) fun _ am=>
 (Ae .none .add c (.int .i64 1)).bind fun an=>
 k [f,g,an] am)
noncomputable def Sh.f62 (a:Aa) (f:LK) (b c d:Ab) (e:Aa):Out:=
 (A5 b).bind fun g=>
 (Ae .none .lss d g).bind fun h=>
 Aj h (
 Ao (fun i vs H=>Sh.f61 a f i (ag vs 0) (ag vs 1) (ag vs 2) (ag vs 3) (ag vs 4) H) AK [b,c,d,(.bool true),(.int .i64 0)] e) (
 rPN a c e)
noncomputable def Sh.fk (b:Ab) (a:Aa):Out:=
 (A5 b).bind fun e=>
 (Ae .none .add e (.int .i64 1)).bind fun c=>
 Ak (Fx 1 1 (some [(.bool false)]) c c a) fun d f=>
 (Au 1 d (.int .i64 0)).bind fun g=>
 bP a (A3 (Af 1 g (.bool true) f)) fun _ h=>
 Ao (fun i vs H=>Sh.f62 a i (ag vs 0) (ag vs 1) (ag vs 2) H) AK [b,d,(.int .i64 0)] h
noncomputable def Sh.f52 (n:Aa) (o:LK) (p:LK) (e f h i j g:Ab) (c:Aa):Out:=
 (Ae .none .lss g (.int .i64 4)).bind fun k=>
 gk k true (some j) fun q=>
 gk k true (Ae .none .gtr q (.int .i64 0)) fun r=>
 (A8 k r (.bool false)).bind fun s=>
 Aj s (
 (Ae .none .sub j (.int .i64 1)).bind fun t=>
 (Au 5 e t).bind fun u=>
 (Ad 1 u).bind fun v=>
 (BQ 4 1 v g).bind fun w=>
 (Ac false 1 w c).bind fun m=>
 (Ae .none .sub (.int .i64 3) i).bind fun x=>
 (Ae .none .neq g x).bind fun a=>
 gk a true (some e) fun y=>
 gk a true (some f) fun z=>
 gk a true (Ae .none .sub z (.int .i64 1)) fun aa=>
 gk a true (Au 5 y aa) fun ab=>
 gk a true (Ad 0 ab) fun ac=>
 gk a true (Ac false 1 ac c) fun ad=>
 gk a true (Ae .none .eql ad (.int .i64 2)) fun ae=>
 gk a true (some ae) fun l=>
 gk l true (some m) fun aj=>
 gk l true (Ae .none .neq aj (.int .i64 0)) fun ak=>
 gk a true (A8 l ak (.bool false)) fun al=>
 gk a true (some al) fun b=>
 gk b false (some e) fun am=>
 gk b false (some f) fun an=>
 gk b false (Ae .none .sub an (.int .i64 1)) fun ap=>
 gk b false (Au 5 am ap) fun aq=>
 gk b false (Ad 0 aq) fun ar=>
 gk b false (Ac false 1 ar c) fun au=>
 gk b false (Ae .none .gtr au (.int .i64 2)) fun av=>
 gk b false (some av) fun d=>
 gk d true (some h) fun aw=>
 gk d true (some m) fun ax=>
 gk d true (Au 1 aw ax) fun ay=>
 gk d true (Ac false 1 ay c) fun az=>
 gk d true (unA .not az) fun a0=>
 gk b false (A8 d a0 (.bool false)) fun a1=>
 gk a true (A8 b (.bool true) a1) fun a2=>
 (A8 a a2 (.bool false)).bind fun a3=>
 Aj a3 (
 rK n (.bool false) c) (
 (Ae .none .add g (.int .i64 1)).bind fun a4=>
 p [e,f,h,i,j,a4] c)) (
 (Ae .none .add i (.int .i64 1)).bind fun a5=>
 o [e,f,h,a5] c)
noncomputable def Sh.f63 (c:Aa) (f:LK) (d e g a:Ab) (b:Aa):Out:=
 (Ae .none .lss a (.int .i64 4)).bind fun h=>
 Aj h (
 (Ae .none .sub e (.int .i64 1)).bind fun i=>
 (Au 5 d i).bind fun j=>
 (Ad 1 j).bind fun k=>
 (BQ 4 1 k a).bind fun l=>
 (Ac false 1 l b).bind fun m=>
 Ao (fun n vs H=>Sh.f52 c f n (ag vs 0) (ag vs 1) (ag vs 2) (ag vs 3) (ag vs 4) (ag vs 5) H) AK [d,e,g,a,m,(.int .i64 0)] b) (
 rK c (.bool true) b)
noncomputable def Sh.f1r (c d:Ab) (b:Aa):Out:=
 (Ae .none .eql d (.int .i64 0)).bind fun a=>
 gk a false (some c) fun e=>
 gk a false (some d) fun f=>
 gk a false (Ae .none .sub f (.int .i64 1)) fun g=>
 gk a false (Au 5 e g) fun h=>
 gk a false (Ad 0 h) fun i=>
 gk a false (Ac false 1 i b) fun j=>
 gk a false (Ae .none .lss j (.int .i64 2)) fun k=>
 (A8 a (.bool true) k).bind fun l=>
 Aj l (
 rK b (.bool false) b) (
 bK b (Sh.fk c b) fun m n=>
 Ao (fun o vs H=>Sh.f63 b o (ag vs 0) (ag vs 1) (ag vs 2) (ag vs 3) H) AK [c,d,m,(.int .i64 0)] n)
noncomputable def Sh.f53 (h:Aa) (a:LK) (b c d e:Ab) (f:Aa):Out:=
 (Ae .none .add e (.int .i64 1)).bind fun g=>
 a [b,c,d,g] f
noncomputable def Sh.f64 (f:Aa) (self:Ab→Ab→Ab→Aa→Out) (h:LK) (b c g e:Ab) (d:Aa):Out:=
 (Ae .none .lss e (.int .i64 4)).bind fun i=>
 Aj i (
 AH (fun j3=>
 (Ae .none .sub c (.int .i64 1)).bind fun j=>
 (Au 5 b j).bind fun k=>
 (Ad 0 k).bind fun l=>
 (Ac false 1 l d).bind fun m=>
 (Ae .none .gtr m (.int .i64 1)).bind fun a=>
 gk a true (some b) fun n=>
 gk a true (some c) fun o=>
 gk a true (Ae .none .sub o (.int .i64 1)) fun p=>
 gk a true (some e) fun q=>
 gk a true (Au 5 n p) fun r=>
 gk a true (Ad 1 r) fun s=>
 gk a true (BQ 4 1 s q) fun t=>
 gk a true (Ac false 1 t d) fun u=>
 gk a true (Ae .none .gtr u (.int .i64 0)) fun v=>
 (A8 a v (.bool false)).bind fun w=>
 Aj w (
 (Ae .none .sub c (.int .i64 1)).bind fun x=>
 (Au 5 b x).bind fun y=>
 (Ad 1 y).bind fun z=>
 (BQ 4 1 z e).bind fun aa=>
 (Ac false 1 aa d).bind fun ab=>
 bK f (self b ab g d) fun ac ad=>
 j3 [b,c,ac,e] ad) (
 j3 [b,c,g,e] d)) (fun vs H=>Sh.f53 f h (ag vs 0) (ag vs 1) (ag vs 2) (ag vs 3) H)) (
 (AO 1 [c]).bind fun ae=>
 bK f (BX (AN G3 1 8 g ae d)) fun aj ak=>
 rK f aj ak)
noncomputable def Sh.f65 (e:Aa) (self:Ab→Ab→Ab→Aa→Out) (g:LK) (f c a d:Ab) (b:Aa):Out:=
 (A5 a).bind fun h=>
 (Ae .none .lss d h).bind fun i=>
 Aj i (
 (Au 1 a d).bind fun j=>
 (Ac false 1 j b).bind fun k=>
 (Ae .none .eql k c).bind fun l=>
 Aj l (
 rK e a b) (
 (Ae .none .add d (.int .i64 1)).bind fun m=>
 g [f,c,a,m] b)) (
 Ao (fun n vs H=>Sh.f64 e self n (ag vs 0) (ag vs 1) (ag vs 2) (ag vs 3) H) AK [f,c,a,(.int .i64 0)] b)
noncomputable def Sh.f7i (self:Ab→Ab→Ab→Aa→Out) (b c d:Ab) (a:Aa):Out:=
 Ao (fun e vs H=>Sh.f65 a self e (ag vs 0) (ag vs 1) (ag vs 2) (ag vs 3) H) AK [b,c,d,(.int .i64 0)] a
noncomputable def Sh.fo:Nat→Ab→Ab→Ab→Aa→Out
 | 0=>fun _ _ _ _=>none
 | d+1=>Sh.f7i (Sh.fo d)
noncomputable def Sh.f66 (f:Aa) (g:LK) (h:LK) (b e c d:Ab) (a:Aa):Out:=
 (Ae .none .lss d c).bind fun i=>
 Aj i (
 (Au 5 b c).bind fun j=>
 bC (Ac true 5 j a) (fun _=>True) fun k=>
 (Au 5 b d).bind fun l=>
 bC (Ac true 5 l a) (fun _=>True) fun m=>
 (Ae (.flat 5) .eql k m).bind fun n=>
 Aj n (
 rP f (.bool false) a) (
 (Ae .none .add d (.int .i64 1)).bind fun o=>
 h [b,e,c,o] a)) (
 (Ae .none .add c (.int .i64 1)).bind fun p=>
 g [b,e,p] a)
noncomputable def Sh.f67 (d:Aa) (f:LK) (e a b:Ab) (c:Aa):Out:=
 (A5 a).bind fun g=>
 (Ae .none .lss b g).bind fun h=>
 Aj h (
 (Au 1 a b).bind fun i=>
 (Ac false 1 i c).bind fun j=>
 (Ae .none .add b (.int .i64 1)).bind fun k=>
 (Ae .none .neq j k).bind fun l=>
 Aj l (
 rP d (.bool false) c) (
 (Ae .none .add b (.int .i64 1)).bind fun m=>
 f [e,a,m] c)) (
 (A5 a).bind fun n=>
 (A5 e).bind fun o=>
 (Ae .none .eql n o).bind fun p=>
 rP d p c)
noncomputable def Sh.f68 (b:Aa) (f:LK) (a e d:Ab) (c:Aa):Out:=
 (A5 a).bind fun g=>
 (Ae .none .lss d g).bind fun h=>
 Aj h (
 (Ae .none .add d (.int .i64 1)).bind fun i=>
 (Au 1 e i).bind fun j=>
 (Ac false 1 j c).bind fun k=>
 Aj k (
 rP b (.bool false) c) (
 Ao (fun l vs H=>Sh.f66 b f l (ag vs 0) (ag vs 1) (ag vs 2) (ag vs 3) H) AK [a,e,d,(.int .i64 0)] c)) (
 (A5 a).bind fun m=>
 bP b (Sh.fo AK a m (.sl [] .tight) c) fun n o=>
 Ao (fun p vs H=>Sh.f67 b p (ag vs 0) (ag vs 1) (ag vs 2) H) AK [a,n,(.int .i64 0)] o)
noncomputable def Sh.f3w (g:Ab) (a:Aa):Out:=
 Ak (Bz true 1 g a) fun h d=>
 (Ad 0 h).bind fun i=>
 (Ac false 1 i d).bind fun b=>
 (A5 b).bind fun j=>
 (Ae .none .eql j (.int .i64 0)).bind fun k=>
 Aj k (
 rP a (.bool true) d) (
 bP a (Sh.f1q b d) fun l e=>
 (unA .not l).bind fun c=>
 gk c false (some b) fun m=>
 gk c false (some b) fun n=>
 gk c false (A5 n) fun o=>
 gbP a c false e (Sh.f1r m o e) fun p f=>
 (A8 c (.bool true) p).bind fun q=>
 Aj q (
 rP a (.bool false) f) (
 bP a (Sh.fk b f) fun r s=>
 Ao (fun t vs H=>Sh.f68 a t (ag vs 0) (ag vs 1) (ag vs 2) H) AK [b,r,(.int .i64 0)] s))
noncomputable def Sh.f3x (f:Ab) (a:Aa):Out:=
 Ak (Bz true 2 f a) fun d e=>
 (Ad 0 d).bind fun g=>
 (Ac false 1 g e).bind fun h=>
 bP a (Sh.f3v h e) fun b c=>
 gk b true (Ad 1 d) fun i=>
 gk b true (Ac true 1 i c) fun j=>
 gbP a b true c (Sh.f3w j c) fun k l=>
 (A8 b k (.bool false)).bind fun m=>
 rP a m l
noncomputable def Sh.f13 (g:Ab) (f:Aa):Out:=
 Ak (Bz true 2 g f) fun b a=>
 (Ad 0 b).bind fun h=>
 (Ac false 1 h a).bind fun i=>
 (Ae .none .geq i (.int .i64 0)).bind fun c=>
 gk c true (Ad 0 b) fun j=>
 gk c true (Ac false 1 j a) fun k=>
 gk c true (Ae .none .leq k (.int .i64 1000)) fun l=>
 (A8 c l (.bool false)).bind fun d=>
 gk d true (Ad 1 b) fun m=>
 gk d true (Ac false 1 m a) fun n=>
 gk d true (Ae .none .geq n (.int .i64 0)) fun o=>
 (A8 d o (.bool false)).bind fun e=>
 gk e true (Ad 1 b) fun p=>
 gk e true (Ac false 1 p a) fun q=>
 gk e true (Ae .none .leq q (.int .i64 100000)) fun r=>
 (A8 e r (.bool false)).bind fun s=>
 rP f s a
noncomputable def Sh.f69 (d:Aa) (e:LK) (b:Ab) (c:Aa):Out:=
 (A5 b).bind fun f=>
 (Ae .none .gtr f (.int .i64 0)).bind fun a=>
 gk a true (some b) fun g=>
 gk a true (some b) fun h=>
 gk a true (A5 h) fun i=>
 gk a true (Ae .none .sub i (.int .i64 1)) fun j=>
 gk a true (Au 1 g j) fun k=>
 gk a true (Ac false 1 k c) fun l=>
 gk a true (unA .not l) fun m=>
 (A8 a m (.bool false)).bind fun n=>
 Aj n (
 (A5 b).bind fun o=>
 (Ae .none .sub o (.int .i64 1)).bind fun p=>
 (Bw 1 b none (some p) none).bind fun q=>
 e [q] c) (
 rKN d b c)
noncomputable def Sh.f14 (b:Ab) (a:Aa):Out:=
 Ao (fun c vs H=>Sh.f69 a c (ag vs 0) H) AK [b] a
noncomputable def Sh.f7j (g:Aa) (h:LK) (i:LK) (a b c d e:Ab) (f:Aa):Out:=
 (Ae .none .lss e (.int .i64 32)).bind fun j=>
 Aj j (
 (Ae .none .rem d (.int .u32 2)).bind fun k=>
 (Ae .none .eql k (.int .u32 1)).bind fun l=>
 (AO 1 [l]).bind fun m=>
 bP g (BX (AN BZ 1 1 b m f)) fun n o=>
 (Ae .none .quo d (.int .u32 2)).bind fun p=>
 (Ae .none .add e (.int .i64 1)).bind fun q=>
 i [a,n,c,p,q] o) (
 (Ae .none .add c (.int .i64 1)).bind fun r=>
 h [a,b,r] f)
noncomputable def Sh.f54 (a:Aa) (f:LK) (b e c:Ab) (d:Aa):Out:=
 (A5 b).bind fun g=>
 (Ae .none .lss c g).bind fun h=>
 Aj h (
 (Au 1 b c).bind fun i=>
 (Ac false 1 i d).bind fun j=>
 Ao (fun k vs H=>Sh.f7j a f k (ag vs 0) (ag vs 1) (ag vs 2) (ag vs 3) (ag vs 4) H) AK [b,e,c,j,(.int .i64 0)] d) (
 bP a (Sh.f14 e d) fun l m=>
 rPN a l m)
noncomputable def Sh.f3 (b:Ab) (a:Aa):Out:=
 Ao (fun c vs H=>Sh.f54 a c (ag vs 0) (ag vs 1) (ag vs 2) H) AK [b,(.sl [] .tight),(.int .i64 0)] a
noncomputable def Sh.f7k (k:Aa) (a:LK) (b c d e f g:Ab) (h:Aa):Out:=
 (Ae .none .mul f (.int .u32 2)).bind fun i=>
 (Ae .none .add g (.int .i64 1)).bind fun j=>
 a [b,c,d,e,i,j] h
noncomputable def Sh.f85 (i:Aa) (j:LK) (k:LK) (a f d g h b:Ab) (e:Aa):Out:=
 (A5 a).bind fun l=>
 (Ae .none .lss b l).bind fun c=>
 gk c true (some b) fun m=>
 gk c true (some d) fun n=>
 gk c true (Ae .none .add n (.int .i64 32)) fun o=>
 gk c true (Ae .none .lss m o) fun p=>
 (A8 c p (.bool false)).bind fun q=>
 Aj q (
 AH (fun j3=>
 (Au 1 a b).bind fun r=>
 (Ac false 1 r e).bind fun s=>
 Aj s (
 (Ae .none .add g h).bind fun t=>
 j3 [a,f,d,t,h,b] e) (
 j3 [a,f,d,g,h,b] e)) (fun vs H=>Sh.f7k i k (ag vs 0) (ag vs 1) (ag vs 2) (ag vs 3) (ag vs 4) (ag vs 5) H)) (
 (AO 1 [g]).bind fun u=>
 bP i (BX (AN B4 1 4 f u e)) fun v w=>
 (Ae .none .add d (.int .i64 32)).bind fun x=>
 j [a,v,x] w)
noncomputable def Sh.f6a (b:Aa) (f:LK) (c d a:Ab) (e:Aa):Out:=
 (A5 c).bind fun g=>
 (Ae .none .lss a g).bind fun h=>
 Aj h (
 Ao (fun i vs H=>Sh.f85 b f i (ag vs 0) (ag vs 1) (ag vs 2) (ag vs 3) (ag vs 4) (ag vs 5) H) AK [c,d,a,(.int .u32 0),(.int .u32 1),a] e) (
 rPN b d e)
noncomputable def Sh.ff (b:Ab) (a:Aa):Out:=
 bP a (Sh.f14 b a) fun c d=>
 Ao (fun e vs H=>Sh.f6a a e (ag vs 0) (ag vs 1) (ag vs 2) H) AK [c,(.sl [] .tight),(.int .i64 0)] d
noncomputable def Sh.fl (b:Ab) (a:Aa):Out:=
 bK a (Sh.f3 b a) fun c d=>
 bK a (Sh.ff c d) fun e f=>
 rKN a e f
noncomputable def Sh.fb (a f:Ab) (b:Aa):Out:=
 Ak (Ax (some [(.bool false),(.sl [] .tight)]) b) fun c g=>
 bP b (Sh.fl f g) fun d h=>
 gk a true (some d) fun i=>
 gk a true (A5 i) fun j=>
 gk a true (Ae .none .gtr j (.int .i64 0)) fun k=>
 (A8 a k (.bool false)).bind fun l=>
 (A2 (some [(.bool false),(.sl [] .tight)]) [(0,1,l),(1,1,d)]).bind fun m=>
 bP b (A3 (Af 2 c m h)) fun _ e=>
 (Ac true 2 c e).bind fun n=>rPN b n e
noncomputable def Sh.f7l (a:Aa) (e b c:Ab) (f:Aa):Out:=
 (Ae .none .lss e (.int .i64 0)).bind fun g=>
 (Ae .none .rem c (.int .u64 4294967296)).bind fun h=>
 (AD .u32 h).bind fun i=>
 (Ae .none .quo c (.int .u64 4294967296)).bind fun j=>
 (AD .u32 j).bind fun k=>
 (AO 1 [i,k]).bind fun l=>
 bP a (Sh.fb g l f) fun m n=>
 bP a (A3 (Af 2 b m n)) fun _ d=>
 (Ac true 2 b d).bind fun o=>rPN a o d
noncomputable def Sh.fg (a:Ab) (b:Aa):Out:=
 Ak (Ax (some [(.bool false),(.sl [] .tight)]) b) fun c d=>
 (AD .u64 a).bind fun e=>
 AH (fun j1=>
 (Ae .none .lss a (.int .i64 0)).bind fun f=>
 Aj f (
 (unA .neg e).bind fun g=>
 j1 [a,c,g] d) (
 j1 [a,c,e] d)) (fun vs H=>Sh.f7l b (ag vs 0) (ag vs 1) (ag vs 2) H)
noncomputable def Sh.f3y (d a:Ab) (b:Aa):Out:=
 (Ae .none .lss a (.int .i64 0)).bind fun c=>
 gk c false (some a) fun e=>
 gk c false (Ae .none .gtr e (.int .i64 10000)) fun f=>
 (A8 c (.bool true) f).bind fun g=>
 Aj g (
 rPN b (.sl [] .tight) b) (
 AZ (Sh.f3 d b) fun h i=>
 Ak (Fx 1 1 (some [(.bool false)]) a a i) fun j k=>
 AZ (BX (AN BZ 1 1 j h k)) fun l m=>
 AZ (Sh.ff l m) fun n o=>
 rPN b n o)
noncomputable def Sh.f3z (i j:Ab) (a:Aa):Out:=
 Ak (Bz true 2 i a) fun d k=>
 Ak (Ax (some [(.bool false),(.sl [] .tight)]) k) fun e b=>
 (Ad 1 d).bind fun l=>
 bC (Ac false 1 l b) (fun _=>True) fun m=>
 AZ (Sh.f3y m j b) fun n f=>
 (Ad 0 d).bind fun g=>
 bC (Ac false 1 g f) (fun c=>Ac false 1 g b=some c∧True) fun c=>
 AZ (Sh.fb c n f) fun o p=>
 bP a (A3 (Af 2 e o p)) fun _ h=>
 (Ac true 2 e h).bind fun q=>rPN a q h
noncomputable def Sh.f4 (d:Ab) (a:Aa):Out:=
 Ak (Ax (some [(.bool false),(.sl [] .tight)]) a) fun b e=>
 bP a (Sh.fg (.int .i64 1) e) fun f g=>
 bP a (Sh.f3z f d g) fun h i=>
 bP a (A3 (Af 2 b h i)) fun _ c=>
 (Ac true 2 b c).bind fun j=>rPN a j c
noncomputable def Sh.f7 (e c:Ab) (d:Aa):Out:=
 (Ae .none .geq c (.int .i64 0)).bind fun a=>
 gk a true (some c) fun f=>
 gk a true (some e) fun g=>
 gk a true (A5 g) fun h=>
 gk a true (Ae .none .lss f h) fun i=>
 (A8 a i (.bool false)).bind fun b=>
 gk b true (some e) fun j=>
 gk b true (some c) fun k=>
 gk b true (Au 1 j k) fun l=>
 gk b true (Ac false 1 l d) fun m=>
 (A8 b m (.bool false)).bind fun n=>
 rK d n d
noncomputable def Sh.f86 (b:Aa) (c:LK) (d e f g a:Ab) (h:Aa):Out:=
 (Ae .none .rem a (.int .i64 2)).bind fun i=>
 (Ae .none .eql i (.int .i64 1)).bind fun j=>
 (AO 1 [j]).bind fun k=>
 bP b (BX (AN BZ 1 1 f k h)) fun l m=>
 (Ae .none .gtr a (.int .i64 1)).bind fun n=>
 (Ae .none .add g (.int .i64 1)).bind fun o=>
 c [d,e,l,n,o] m
noncomputable def Sh.f87 (g:Aa) (h:LK) (a b c i d e:Ab) (f:Aa):Out:=
 AH (fun j4=>
 Aj i (
 (Ae .none .add e (.int .i64 1)).bind fun j=>
 j4 [a,b,c,d,j] f) (
 j4 [a,b,c,d,e] f)) (fun vs H=>Sh.f86 g h (ag vs 0) (ag vs 1) (ag vs 2) (ag vs 3) (ag vs 4) H)
noncomputable def Sh.f88 (c:Aa) (i:LK) (d a e f b g:Ab) (j:Aa):Out:=
 AH (fun j3=>
 bP c (Sh.f7 a b j) fun k h=>
 Aj k (
 (Ae .none .add g (.int .i64 1)).bind fun l=>
 j3 [d,a,e,f,b,l] h) (
 j3 [d,a,e,f,b,g] h)) (fun vs H=>Sh.f87 c i (ag vs 0) (ag vs 1) (ag vs 2) (ag vs 3) (ag vs 4) (ag vs 5) H)
noncomputable def Sh.f89 (a:Aa) (i:LK) (b d e f c:Ab) (g:Aa):Out:=
 (A5 b).bind fun j=>
 (A5 d).bind fun k=>
 (HM JK j [k]).bind fun l=>
 (Ae .none .leq c l).bind fun m=>
 Aj m (
 AH (fun j2=>
 bP a (Sh.f7 b c g) fun n h=>
 Aj n (
 (Ae .none .add (.int .i64 0) (.int .i64 1)).bind fun o=>
 j2 [b,d,e,f,c,o] h) (
 j2 [b,d,e,f,c,(.int .i64 0)] h)) (fun vs H=>Sh.f88 a i (ag vs 0) (ag vs 1) (ag vs 2) (ag vs 3) (ag vs 4) (ag vs 5) H)) (
 bP a (Sh.ff e g) fun p q=>
 rPN a p q)
noncomputable def Sh.f40 (b c:Ab) (a:Aa):Out:=
 bP a (Sh.f3 b a) fun d e=>
 bP a (Sh.f3 c e) fun f g=>
 Ao (fun h vs H=>Sh.f89 a h (ag vs 0) (ag vs 1) (ag vs 2) (ag vs 3) (ag vs 4) H) AK [d,f,(.sl [] .tight),(.bool false),(.int .i64 0)] g
noncomputable def Sh.f8a (a:Aa) (h:LK) (c d b:Ab) (e:Aa):Out:=
 (Ae .none .geq b (.int .i64 0)).bind fun i=>
 Aj i (
 bK a (Sh.f7 c b e) fun j k=>
 bK a (Sh.f7 d b k) fun l f=>
 (Ae .bool .neq j l).bind fun m=>
 Aj m (
 bK a (Sh.f7 c b f) fun n g=>
 Aj n (
 rK a (.int .i64 1) g) (
 rK a (.int .i64 (-1)) g)) (
 (Ae .none .sub b (.int .i64 1)).bind fun o=>
 h [c,d,o] f)) (
 rK a (.int .i64 0) e)
noncomputable def Sh.f41 (d e:Ab) (a:Aa):Out:=
 bK a (Sh.f3 d a) fun b f=>
 bK a (Sh.f3 e f) fun c g=>
 (A5 b).bind fun h=>
 (A5 c).bind fun i=>
 (HM JK h [i]).bind fun j=>
 (Ae .none .sub j (.int .i64 1)).bind fun k=>
 Ao (fun l vs H=>Sh.f8a a l (ag vs 0) (ag vs 1) (ag vs 2) H) AK [b,c,k] g
noncomputable def Sh.f8b (a:Aa) (b:LK) (c d e f g h:Ab) (i:Aa):Out:=
 (Ae .none .eql h (.int .i64 1)).bind fun j=>
 (AO 1 [j]).bind fun k=>
 bP a (BX (AN BZ 1 1 e k i)) fun l m=>
 (Ae .none .add g (.int .i64 1)).bind fun n=>
 b [c,d,l,f,n] m
noncomputable def Sh.f8c (g:Aa) (h:LK) (b c d e a:Ab) (f:Aa):Out:=
 AH (fun j4=>
 (Ae .none .lss a (.int .i64 0)).bind fun i=>
 Aj i (
 (Ae .none .add a (.int .i64 2)).bind fun j=>
 j4 [b,c,d,(.int .i64 1),e,j] f) (
 j4 [b,c,d,(.int .i64 0),e,a] f)) (fun vs H=>Sh.f8b g h (ag vs 0) (ag vs 1) (ag vs 2) (ag vs 3) (ag vs 4) (ag vs 5) H)
noncomputable def Sh.f8d (c:Aa) (h:LK) (d a e b f:Ab) (i:Aa):Out:=
 AH (fun j3=>
 bP c (Sh.f7 a b i) fun j g=>
 Aj j (
 (Ae .none .sub f (.int .i64 1)).bind fun k=>
 j3 [d,a,e,b,k] g) (
 j3 [d,a,e,b,f] g)) (fun vs H=>Sh.f8c c h (ag vs 0) (ag vs 1) (ag vs 2) (ag vs 3) (ag vs 4) H)
noncomputable def Sh.f8e (a:Aa) (i:LK) (b e d j c:Ab) (f:Aa):Out:=
 (A5 b).bind fun k=>
 (Ae .none .lss c k).bind fun l=>
 Aj l (
 (unA .neg j).bind fun g=>
 AH (fun j2=>
 bP a (Sh.f7 b c f) fun m h=>
 Aj m (
 (Ae .none .add g (.int .i64 1)).bind fun n=>
 j2 [b,e,d,c,n] h) (
 j2 [b,e,d,c,g] h)) (fun vs H=>Sh.f8d a i (ag vs 0) (ag vs 1) (ag vs 2) (ag vs 3) (ag vs 4) H)) (
 bP a (Sh.ff d f) fun o p=>
 rPN a (.tup [o,(.bool true)]) p)
noncomputable def Sh.f2c (b c:Ab) (a:Aa):Out:=
 bP a (Sh.f41 b c a) fun e d=>
 (Ae .none .lss e (.int .i64 0)).bind fun f=>
 Aj f (
 rPN a (.tup [(.sl [] .tight),(.bool false)]) d) (
 bP a (Sh.f3 b d) fun g h=>
 bP a (Sh.f3 c h) fun i j=>
 Ao (fun k vs H=>Sh.f8e a k (ag vs 0) (ag vs 1) (ag vs 2) (ag vs 3) (ag vs 4) H) AK [g,i,(.sl [] .tight),(.int .i64 0),(.int .i64 0)] j)
noncomputable def Sh.f1 (p q:Ab) (a:Aa):Out:=
 Ak (Bz true 2 p a) fun c r=>
 Ak (Bz true 2 q r) fun e s=>
 Ak (Ax (some [(.bool false),(.sl [] .tight)]) s) fun d b=>
 (Ad 0 c).bind fun t=>
 (Ac false 1 t b).bind fun u=>
 (Ad 0 e).bind fun v=>
 (Ac false 1 v b).bind fun w=>
 (Ae .bool .eql u w).bind fun x=>
 Aj x (
 (Ad 1 c).bind fun y=>
 bC (Ac false 1 y b) (fun _=>True) fun z=>
 (Ad 1 e).bind fun aa=>
 bC (Ac false 1 aa b) (fun _=>True) fun ab=>
 AZ (Sh.f40 z ab b) fun ac h=>
 (Ad 0 c).bind fun i=>
 bC (Ac false 1 i h) (fun g=>Ac false 1 i b=some g∧True) fun g=>
 AZ (Sh.fb g ac h) fun ad ae=>
 bP a (A3 (Af 2 d ad ae)) fun _ j=>
 (Ac true 2 d j).bind fun aj=>rPN a aj j) (
 (Ad 1 c).bind fun ak=>
 (Ac false 1 ak b).bind fun al=>
 (Ad 1 e).bind fun am=>
 (Ac false 1 am b).bind fun an=>
 bP a (Sh.f2c al an b) fun k f=>
 (As 0 k).bind fun ap=>
 (As 1 k).bind fun aq=>
 Aj aq (
 (Ad 0 c).bind fun ar=>
 (Ac false 1 ar f).bind fun au=>
 bP a (Sh.fb au ap f) fun av aw=>
 bP a (A3 (Af 2 d av aw)) fun _ l=>
 (Ac true 2 d l).bind fun ax=>rPN a ax l) (
 (Ad 1 e).bind fun ay=>
 (Ac false 1 ay f).bind fun az=>
 (Ad 1 c).bind fun a0=>
 (Ac false 1 a0 f).bind fun a1=>
 bP a (Sh.f2c az a1 f) fun m n=>
 (As 0 m).bind fun a2=>
 (As 1 m).bind fun a8=>
 (Ad 0 e).bind fun a3=>
 (Ac false 1 a3 n).bind fun a4=>
 bP a (Sh.fb a4 a2 n) fun a5 a6=>
 bP a (A3 (Af 2 d a5 a6)) fun _ o=>
 (Ac true 2 d o).bind fun a7=>rPN a a7 o))
noncomputable def Sh.f6 (f:Ab) (a:Aa):Out:=
 Ak (Bz true 2 f a) fun c g=>
 Ak (Ax (some [(.bool false),(.sl [] .tight)]) g) fun d b=>
 (Ad 0 c).bind fun h=>
 (Ac false 1 h b).bind fun i=>
 (unA .not i).bind fun j=>
 (Ad 1 c).bind fun k=>
 (Ac false 1 k b).bind fun l=>
 bP a (Sh.fb j l b) fun m n=>
 bP a (A3 (Af 2 d m n)) fun _ e=>
 (Ac true 2 d e).bind fun o=>rPN a o e
noncomputable def Sh.fp (h i:Ab) (a:Aa):Out:=
 Ak (Bz true 2 h a) fun d j=>
 Ak (Bz true 2 i j) fun k l=>
 Ak (Ax (some [(.bool false),(.sl [] .tight)]) l) fun e b=>
 bC (Ac true 2 k b) (fun _=>True) fun m=>
 AZ (Sh.f6 m b) fun n f=>
 bC (Ac true 2 d f) (fun c=>Ac true 2 d b=some c∧True) fun c=>
 AZ (Sh.f1 c n f) fun o p=>
 bP a (A3 (Af 2 e o p)) fun _ g=>
 (Ac true 2 e g).bind fun q=>rPN a q g
noncomputable def Sh.f2 (e f:Ab) (a:Aa):Out:=
 Ak (Bz true 2 e a) fun g h=>
 Ak (Bz true 2 f h) fun i c=>
 (Ac true 2 g c).bind fun j=>
 (Ac true 2 i c).bind fun k=>
 bP a (Sh.fp j k c) fun l m=>
 Ak (Ax (some [(.bool false),(.sl [] .tight)]) m) fun d n=>
 bP a (A3 (Af 2 d l n)) fun _ b=>
 (Ad 1 d).bind fun o=>
 (Ac false 1 o b).bind fun p=>
 (A5 p).bind fun q=>
 (Ae .none .eql q (.int .i64 0)).bind fun r=>
 Aj r (
 rP a (.int .i64 0) b) (
 (Ad 0 d).bind fun s=>
 (Ac false 1 s b).bind fun t=>
 Aj t (
 rP a (.int .i64 (-1)) b) (
 rP a (.int .i64 1) b))
noncomputable def Sh.f2d (l:Aa) (a:LK) (b c d e f g h i:Ab) (j:Aa):Out:=
 (Ae .none .add i (.int .i64 1)).bind fun k=>
 a [b,c,d,e,f,g,h,k] j
noncomputable def Sh.f55 (m:Aa) (j3:LK) (f g h b c i j k l:Ab) (d:Aa):Out:=
 (unA .not j).bind fun a=>
 gkc a false (Ac true 2 l d) (fun _ _=>True) fun n=>
 gk a false (some b) fun o=>
 gk a false (some c) fun p=>
 gk a false (Ae .none .add p (.int .i64 1)) fun q=>
 gk a false (Au 2 o q) fun r=>
 gkc a false (Ac true 2 r d) (fun _ _=>True) fun s=>
 gbN a false d (Sh.f2 n s d) fun t e=>
 gk a false (Ae .none .lss t (.int .i64 0)) fun u=>
 (A8 a (.bool true) u).bind fun v=>
 Aj v (
 (Ae .none .add c (.int .i64 1)).bind fun w=>
 bC (Ac true 2 l e) (fun _=>True) fun x=>
 (Au 2 b w).bind fun y=>
 bP m (A3 (Af 2 y x e)) fun _ z=>
 j3 [f,g,h,b,c,i,(.bool true),k] z) (
 j3 [f,g,h,b,c,i,j,k] e)
noncomputable def Sh.f6b (g:Aa) (j3:LK) (a h i d b j k l o m:Ab) (e:Aa):Out:=
 (Au 5 a b).bind fun p=>
 (Ad 1 p).bind fun q=>
 (BQ 4 1 q o).bind fun r=>
 (Ac false 1 r e).bind fun n=>
 (Ae .none .eql n (.int .i64 0)).bind fun s=>
 Aj s (
 j3 [a,h,i,d,b,j,k,l] e) (
 (Ac true 2 m e).bind fun t=>
 Ak (Ax (some [(.bool false),(.sl [] .tight)]) e) fun f u=>
 bP g (A3 (Af 2 f t u)) fun _ c=>
 AH (fun j5=>
 (Au 5 a b).bind fun v=>
 (Ad 0 v).bind fun w=>
 (Ac false 1 w c).bind fun x=>
 (Ae .none .gtr x (.int .i64 1)).bind fun y=>
 Aj y (
 bC (Ac true 2 m c) (fun _=>True) fun z=>
 (Au 2 d n).bind fun aa=>
 bC (Ac true 2 aa c) (fun _=>True) fun ab=>
 AZ (Sh.f1 z ab c) fun ac ad=>
 bP g (A3 (Af 2 f ac ad)) fun _ ae=>
 j5 [a,h,i,d,b,j,k,l,f] ae) (
 j5 [a,h,i,d,b,j,k,l,f] c)) (fun vs H=>Sh.f55 g j3 (ag vs 0) (ag vs 1) (ag vs 2) (ag vs 3) (ag vs 4) (ag vs 5) (ag vs 6) (ag vs 7) (ag vs 8) H))
noncomputable def Sh.f6c (b:Aa) (m:LK) (n:LK) (g c d h i j l a:Ab) (k:Aa):Out:=
 (Ae .none .lss a (.int .i64 4)).bind fun o=>
 Aj o (
 AH (fun j3=>
 (Ae .none .rem a (.int .i64 2)).bind fun p=>
 (BQ 2 1 c p).bind fun q=>
 (Ac false 1 q k).bind fun r=>
 (A2 (some [(.bool false),(.sl [] .tight)]) []).bind fun s=>
 Ak (Ax (some [(.bool false),(.sl [] .tight)]) k) fun e t=>
 bP b (A3 (Af 2 e s t)) fun _ f=>
 AH (fun j4=>
 (Ae .none .gtr a (.int .i64 1)).bind fun u=>
 Aj u (
 (Ae .none .rem a (.int .i64 2)).bind fun v=>
 (BQ 2 1 d v).bind fun w=>
 bC (Ac false 1 w f) (fun _=>True) fun x=>
 bC (Ac true 2 j f) (fun _=>True) fun y=>
 bP b (A3 (Af 2 e y f)) fun _ z=>
 j4 [g,c,d,h,i,j,l,a,x,e] z) (
 j4 [g,c,d,h,i,j,l,a,r,e] f)) (fun vs H=>Sh.f6b b j3 (ag vs 0) (ag vs 1) (ag vs 2) (ag vs 3) (ag vs 4) (ag vs 5) (ag vs 6) (ag vs 7) (ag vs 8) (ag vs 9) H)) (fun vs H=>Sh.f2d b n (ag vs 0) (ag vs 1) (ag vs 2) (ag vs 3) (ag vs 4) (ag vs 5) (ag vs 6) (ag vs 7) H)) (
 (Ae .none .add i (.int .i64 1)).bind fun aa=>
 m [g,c,d,h,aa] k)
noncomputable def Sh.f6d (a:Aa) (g:LK) (b h i e c:Ab) (d:Aa):Out:=
 (A5 b).bind fun j=>
 (Ae .none .lss c j).bind fun k=>
 Aj k (
 (Au 5 b c).bind fun l=>
 (Ad 0 l).bind fun m=>
 (Ac false 1 m d).bind fun n=>
 (Ae .none .sub n (.int .i64 1)).bind fun o=>
 bP a (Sh.f4 o d) fun p q=>
 Ak (Ax (some [(.bool false),(.sl [] .tight)]) q) fun f r=>
 bP a (A3 (Af 2 f p r)) fun _ s=>
 Ao (fun t vs H=>Sh.f6c a g t (ag vs 0) (ag vs 1) (ag vs 2) (ag vs 3) (ag vs 4) (ag vs 5) (ag vs 6) (ag vs 7) H) AK [b,h,i,e,c,f,(.bool false),(.int .i64 0)] s) (
 rPN a e d)
noncomputable def Sh.f15 (a d e:Ab) (b:Aa):Out:=
 Ak (Bz true 2 d b) fun f g=>
 Ak (Bz true 2 e g) fun h i=>
 (A5 a).bind fun j=>
 (Ae .none .add j (.int .i64 1)).bind fun c=>
 Ak (Fx 2 32 (some [(.bool false),(.sl [] .tight)]) c c i) fun k l=>
 Ao (fun m vs H=>Sh.f6d b m (ag vs 0) (ag vs 1) (ag vs 2) (ag vs 3) (ag vs 4) H) AK [a,f,h,k,(.int .i64 0)] l
noncomputable def Sh.f16 (d:Ab) (b:Aa):Out:=
 Ak (Bz true 1 d b) fun c a=>
 (Ad 0 c).bind fun e=>
 (Ac false 1 e a).bind fun f=>
 (A5 f).bind fun g=>
 (Ae .none .eql g (.int .i64 0)).bind fun h=>
 Aj h (
 rP b (.int .i64 0) a) (
 (Ad 0 c).bind fun i=>
 (Ac false 1 i a).bind fun j=>
 (Ad 0 c).bind fun k=>
 (Ac false 1 k a).bind fun l=>
 (A5 l).bind fun m=>
 (Ae .none .sub m (.int .i64 1)).bind fun n=>
 (Au 5 j n).bind fun o=>
 (Ad 0 o).bind fun p=>
 (Ac false 1 p a).bind fun q=>
 rP b q a)
noncomputable def Sh.f1s (ap:Ab) (a:Aa):Out:=
 Ak (Bz true 1 ap a) fun h aq=>
 Ak (Ax (some [(.bool false),(.sl [] .tight),(.bool false),(.sl [] .tight),(.bool false),(.sl [] .tight),(.bool false),(.sl [] .tight)]) aq) fun p q=>
 (Ad 0 h).bind fun ar=>
 (Ac false 1 ar q).bind fun au=>
 (A5 au).bind fun l=>
 (Ae .none .eql l (.int .i64 0)).bind fun av=>
 Aj av (
 (A2 (some [(.bool false),(.sl [] .tight),(.bool false),(.sl [] .tight),(.bool false),(.sl [] .tight),(.bool false),(.sl [] .tight)]) []).bind fun aw=>
 bP a (A3 (Af 8 p aw q)) fun _ y=>
 (CU [Ac true 8 p y,some (.bool false)]).bind fun ax=>rPN a ax y) (
 (Ad 0 h).bind fun ay=>
 (Ac false 1 ay q).bind fun az=>
 (A2 (some [(.int .i64 0),(.int .i64 0)]) [(0,1,(.int .i64 0)),(1,1,(.int .i64 2))]).bind fun a0=>
 (A2 (some [(.int .i64 0),(.int .i64 0)]) [(0,1,(.int .i64 1)),(1,1,(.int .i64 3))]).bind fun a1=>
 bP a (Sh.f15 az a0 a1 q) fun a2 z=>
 (Au 2 a2 l).bind fun a3=>
 (Ac true 2 a3 z).bind fun a4=>
 Ak (Ax (some [(.bool false),(.sl [] .tight)]) z) fun m a5=>
 bP a (A3 (Af 2 m a4 a5)) fun _ aa=>
 (Ad 0 h).bind fun a6=>
 (Ac false 1 a6 aa).bind fun a7=>
 (A2 (some [(.int .i64 0),(.int .i64 0)]) [(0,1,(.int .i64 1)),(1,1,(.int .i64 3))]).bind fun a8=>
 (A2 (some [(.int .i64 0),(.int .i64 0)]) [(0,1,(.int .i64 0)),(1,1,(.int .i64 2))]).bind fun a9=>
 bP a (Sh.f15 a7 a8 a9 aa) fun ba ab=>
 (Au 2 ba l).bind fun bb=>
 (Ac true 2 bb ab).bind fun bc=>
 Ak (Ax (some [(.bool false),(.sl [] .tight)]) ab) fun r bd=>
 bP a (A3 (Af 2 r bc bd)) fun _ ac=>
 (Ad 0 h).bind fun be=>
 (Ac false 1 be ac).bind fun bg=>
 (A2 (some [(.int .i64 0),(.int .i64 0)]) [(0,1,(.int .i64 0)),(1,1,(.int .i64 1))]).bind fun bj=>
 (A2 (some [(.int .i64 0),(.int .i64 0)]) [(0,1,(.int .i64 2)),(1,1,(.int .i64 3))]).bind fun bk=>
 bP a (Sh.f15 bg bj bk ac) fun bl ad=>
 (Au 2 bl l).bind fun bm=>
 (Ac true 2 bm ad).bind fun bp=>
 Ak (Ax (some [(.bool false),(.sl [] .tight)]) ad) fun e bq=>
 bP a (A3 (Af 2 e bp bq)) fun _ ae=>
 (Ad 0 h).bind fun br=>
 (Ac false 1 br ae).bind fun bt=>
 (A2 (some [(.int .i64 0),(.int .i64 0)]) [(0,1,(.int .i64 2)),(1,1,(.int .i64 3))]).bind fun bu=>
 (A2 (some [(.int .i64 0),(.int .i64 0)]) [(0,1,(.int .i64 0)),(1,1,(.int .i64 1))]).bind fun bv=>
 bP a (Sh.f15 bt bu bv ae) fun bw aj=>
 (Au 2 bw l).bind fun bz=>
 (Ac true 2 bz aj).bind fun b0=>
 Ak (Ax (some [(.bool false),(.sl [] .tight)]) aj) fun i b1=>
 bP a (A3 (Af 2 i b0 b1)) fun _ ak=>
 (Ac true 1 h ak).bind fun b2=>
 bP a (Sh.f16 b2 ak) fun al b3=>
 bP a (Sh.f4 al b3) fun b4 b5=>
 (Ae .none .sub al (.int .i64 1)).bind fun b6=>
 bP a (Sh.f4 b6 b5) fun b7 b8=>
 bP a (Sh.f6 b7 b8) fun b9 ca=>
 Ak (Ax (some [(.bool false),(.sl [] .tight)]) ca) fun b cb=>
 Ak (Ax (some [(.bool false),(.sl [] .tight)]) cb) fun s cc=>
 bP a (A3 (Af 2 b b4 cc)) fun _ cd=>
 bP a (A3 (Af 2 s b9 cd)) fun _ c=>
 bC (Ac true 2 s c) (fun _=>True) fun ce=>
 bC (Ac true 2 m c) (fun _=>True) fun cg=>
 AZ (Sh.f1 ce cg c) fun cj d=>
 bC (Ac true 2 s d) (fun w=>Ac true 2 s c=some w∧True) fun w=>
 bC (Ac true 2 e d) (fun x=>Ac true 2 e c=some x∧True) fun x=>
 AZ (Sh.f1 w x d) fun ck f=>
 bC (Ac true 2 m f) (fun t=>Ac true 2 m d=some t∧Ac true 2 m c=some t∧True) fun t=>
 bC (Ac true 2 r f) (fun u=>Ac true 2 r d=some u∧Ac true 2 r c=some u∧True) fun u=>
 AZ (Sh.f1 t u f) fun cl n=>
 bC (Ac true 2 b n) (fun o=>Ac true 2 b f=some o∧Ac true 2 b d=some o∧Ac true 2 b c=some o∧True) fun o=>
 AZ (Sh.fp o cl n) fun cm v=>
 bC (Ac true 2 e v) (fun j=>Ac true 2 e n=some j∧Ac true 2 e f=some j∧Ac true 2 e d=some j∧Ac true 2 e c=some j∧True) fun j=>
 bC (Ac true 2 i v) (fun k=>Ac true 2 i n=some k∧Ac true 2 i f=some k∧Ac true 2 i d=some k∧Ac true 2 i c=some k∧True) fun k=>
 AZ (Sh.f1 j k v) fun cn am=>
 bC (Ac true 2 b am) (fun g=>Ac true 2 b v=some g∧Ac true 2 b n=some g∧Ac true 2 b f=some g∧Ac true 2 b d=some g∧Ac true 2 b c=some g∧True) fun g=>
 AZ (Sh.fp g cn am) fun cp cq=>
 (A2 (some [(.bool false),(.sl [] .tight),(.bool false),(.sl [] .tight),(.bool false),(.sl [] .tight),(.bool false),(.sl [] .tight)]) [(0,2,cj),(2,2,ck),(4,2,cm),(6,2,cp)]).bind fun cr=>
 AZ (A3 (Af 8 p cr cq)) fun _ an=>
 (CU [Ac true 8 p an,some (.bool true)]).bind fun ct=>rPN a ct an)
noncomputable def Sh.f42 (p i:Ab) (c:Aa):Out:=
 Ak (Bz true 1 p c) fun q j=>
 (Ac true 1 q j).bind fun r=>
 bP c (Sh.f1s r j) fun k s=>
 (As 0 k).bind fun t=>
 (As 1 k).bind fun ad=>
 Ak (Ax (some [(.bool false),(.sl [] .tight),(.bool false),(.sl [] .tight),(.bool false),(.sl [] .tight),(.bool false),(.sl [] .tight)]) s) fun d u=>
 bP c (A3 (Af 8 d t u)) fun _ l=>
 AZ (Sh.fg i l) fun v m=>
 (Ad 4 d).bind fun n=>
 bC (Ac true 2 n m) (fun e=>Ac true 2 n l=some e∧True) fun e=>
 AZ (Sh.f2 e v m) fun w f=>
 (Ae .none .leq w (.int .i64 0)).bind fun a=>
 gk a true (some i) fun x=>
 gbN a true f (Sh.fg x f) fun y g=>
 gk a true (Ad 6 d) fun o=>
 gkc a true (Ac true 2 o g) (fun b h=>gR b (Ac true 2 o f)=some h∧True) fun h=>
 gbN a true g (Sh.f2 h y g) fun z aa=>
 gk a true (Ae .none .leq z (.int .i64 0)) fun ab=>
 (A8 a ab (.bool false)).bind fun ac=>
 rP c ac aa
noncomputable def Sh.f56 (z:Aa) (g:LK) (h:LK) (c f d e:Ab) (b:Aa):Out:=
 (Ae .none .lss e (.int .i64 4)).bind fun a=>
 gk a true (Ad 0 c) fun i=>
 gk a true (Ac false 1 i b) fun j=>
 gk a true (some d) fun k=>
 gk a true (Au 5 j k) fun l=>
 gk a true (Ad 0 l) fun m=>
 gk a true (Ac false 1 m b) fun n=>
 gk a true (Ae .none .eql n (.int .i64 1)) fun o=>
 (A8 a o (.bool false)).bind fun p=>
 Aj p (
 (Ad 0 c).bind fun q=>
 (Ac false 1 q b).bind fun r=>
 (Au 5 r d).bind fun s=>
 (Ad 1 s).bind fun t=>
 (BQ 4 1 t e).bind fun u=>
 (Ac false 1 u b).bind fun v=>
 (HM JK f [v]).bind fun w=>
 (Ae .none .add e (.int .i64 1)).bind fun x=>
 h [c,w,d,x] b) (
 (Ae .none .add d (.int .i64 1)).bind fun y=>
 g [c,f,y] b)
noncomputable def Sh.f6e (b:Aa) (f:LK) (c d e:Ab) (a:Aa):Out:=
 (Ad 0 c).bind fun g=>
 (Ac false 1 g a).bind fun h=>
 (A5 h).bind fun i=>
 (Ae .none .lss e i).bind fun j=>
 Aj j (
 Ao (fun k vs H=>Sh.f56 b f k (ag vs 0) (ag vs 1) (ag vs 2) (ag vs 3) H) AK [c,d,e,(.int .i64 0)] a) (
 (AD .u8 d).bind fun l=>
 rP b l a)
noncomputable def Sh.f2e (b:Ab) (a:Aa):Out:=
 Ak (Bz true 1 b a) fun c d=>
 Ao (fun e vs H=>Sh.f6e a e (ag vs 0) (ag vs 1) (ag vs 2) H) AK [c,(.int .i64 0),(.int .i64 0)] d
noncomputable def Sh.f43 (e g h:Ab) (a:Aa):Out:=
 Ak (Bz true 2 g a) fun f i=>
 Ak (Bz true 2 h i) fun j c=>
 (Ae .none .eql e (.int .i64 5)).bind fun k=>
 Aj k (
 rP a (.bool true) c) (
 (Ad 1 f).bind fun l=>
 (Ac true 1 l c).bind fun m=>
 (Ad 0 j).bind fun n=>
 (Ac false 1 n c).bind fun o=>
 bP a (Sh.f42 m o c) fun p d=>
 (unA .not p).bind fun q=>
 Aj q (
 rP a (.bool false) d) (
 (Ae .none .eql e (.int .i64 4)).bind fun b=>
 gk b false (Ad 1 f) fun r=>
 gk b false (Ac true 1 r d) fun s=>
 gbP a b false d (Sh.f2e s d) fun t u=>
 gk b false (Ae .none .leq t (.int .u8 1)) fun v=>
 (A8 b (.bool true) v).bind fun w=>
 rP a w u))
noncomputable def Sh.f44 (g k l:Ab) (a:Aa):Out:=
 Ak (Bz true 2 k a) fun h m=>
 Ak (Bz true 2 l m) fun i n=>
 bP a (Sh.f3u g n) fun o e=>
 (unA .not o).bind fun b=>
 gk b false (Ac true 2 h e) fun p=>
 gbP a b false e (Sh.f3x p e) fun q f=>
 gk b false (unA .not q) fun r=>
 (A8 b (.bool true) r).bind fun c=>
 gk c false (Ac true 2 i f) fun s=>
 gbP a c false f (Sh.f13 s f) fun t d=>
 gk c false (unA .not t) fun u=>
 (A8 c (.bool true) u).bind fun v=>
 Aj v (
 rP a (.int .i64 1) d) (
 (Ac true 2 h d).bind fun w=>
 (Ac true 2 i d).bind fun x=>
 bP a (Sh.f43 g w x d) fun y j=>
 (unA .not y).bind fun z=>
 Aj z (
 rP a (.int .i64 5) j) (
 rP a (.int .i64 0) j))
noncomputable def Sh.f6f (h:Aa) (a:LK) (b c d e:Ab) (f:Aa):Out:=
 (Ae .none .add e (.int .i64 1)).bind fun g=>
 a [b,c,d,g] f
noncomputable def Sh.f6g (f:Aa) (k:LK) (l:LK) (d b a e:Ab) (c:Aa):Out:=
 (Ae .none .lss e (.int .i64 4)).bind fun m=>
 Aj m (
 AH (fun j3=>
 (Au 5 d a).bind fun n=>
 (Ad 1 n).bind fun o=>
 (BQ 4 1 o e).bind fun p=>
 (Ac false 1 p c).bind fun h=>
 (Au 5 d a).bind fun q=>
 (Ad 0 q).bind fun r=>
 (Ac false 1 r c).bind fun s=>
 (Ae .none .gtr s (.int .i64 1)).bind fun t=>
 Aj t (
 (Ae .none .add a (.int .i64 1)).bind fun u=>
 (Au 2 b u).bind fun v=>
 bC (Ac true 2 v c) (fun _=>True) fun w=>
 (Au 2 b h).bind fun x=>
 bC (Ac true 2 x c) (fun _=>True) fun y=>
 AZ (Sh.f1 w y c) fun z aa=>
 (Ae .none .add a (.int .i64 1)).bind fun ab=>
 (Au 2 b ab).bind fun ac=>
 bP f (A3 (Af 2 ac z aa)) fun _ ad=>
 j3 [d,b,a,e] ad) (
 (Ae .none .gtr h (.int .i64 0)).bind fun ae=>
 Aj ae (
 AZ (Sh.fg (.int .i64 1) c) fun aj i=>
 (Ae .none .add a (.int .i64 1)).bind fun ak=>
 (Au 2 b ak).bind fun j=>
 bC (Ac true 2 j i) (fun g=>Ac true 2 j c=some g∧True) fun g=>
 AZ (Sh.f1 g aj i) fun al am=>
 (Ae .none .add a (.int .i64 1)).bind fun an=>
 (Au 2 b an).bind fun ap=>
 bP f (A3 (Af 2 ap al am)) fun _ aq=>
 j3 [d,b,a,e] aq) (
 j3 [d,b,a,e] c))) (fun vs H=>Sh.f6f f l (ag vs 0) (ag vs 1) (ag vs 2) (ag vs 3) H)) (
 (Ae .none .add a (.int .i64 1)).bind fun ar=>
 k [d,b,ar] c)
noncomputable def Sh.f6h (a:Aa) (f:LK) (b c d:Ab) (e:Aa):Out:=
 (A5 b).bind fun g=>
 (Ae .none .lss d g).bind fun h=>
 Aj h (
 Ao (fun i vs H=>Sh.f6g a f i (ag vs 0) (ag vs 1) (ag vs 2) (ag vs 3) H) AK [b,c,d,(.int .i64 0)] e) (
 rPN a c e)
noncomputable def Sh.f45 (a:Ab) (b:Aa):Out:=
 (A5 a).bind fun d=>
 (Ae .none .add d (.int .i64 1)).bind fun c=>
 Ak (Fx 2 32 (some [(.bool false),(.sl [] .tight)]) c c b) fun e f=>
 Ao (fun g vs H=>Sh.f6h b g (ag vs 0) (ag vs 1) (ag vs 2) H) AK [a,e,(.int .i64 0)] f
noncomputable def Sh.f46 (i:Ab) (a:Aa):Out:=
 Ak (Bz true 1 i a) fun e j=>
 Ak (Ax (some [(.bool false),(.sl [] .tight)]) j) fun f b=>
 (Ad 0 e).bind fun k=>
 bC (Ac false 1 k b) (fun _=>True) fun l=>
 AZ (Sh.f45 l b) fun m c=>
 (Ad 0 e).bind fun g=>
 bC (Ac false 1 g c) (fun d=>Ac false 1 g b=some d∧True) fun d=>
 (A5 d).bind fun n=>
 (Au 2 m n).bind fun o=>
 bC (Ac true 2 o c) (fun _=>True) fun p=>
 bP a (A3 (Af 2 f p c)) fun _ h=>
 (Ac true 2 f h).bind fun q=>rPN a q h
noncomputable def Sh.f47 (k:Aa) (a:LK) (b c d e f g h:Ab) (i:Aa):Out:=
 (Ae .none .add h (.int .i64 1)).bind fun j=>
 a [b,c,d,e,f,g,j] i
noncomputable def Sh.f57 (e:Aa) (self:Ab→Ab→Ab→Ab→Aa→Out) (j2:LK) (b c f g h i d k l:Ab) (a:Aa):Out:=
 (Ae .none .sub c (.int .i64 1)).bind fun m=>
 (Au 5 b m).bind fun n=>
 (Ad 1 n).bind fun o=>
 (BQ 4 1 o d).bind fun p=>
 (Ac false 1 p a).bind fun j=>
 (Ae .none .sub c (.int .i64 1)).bind fun q=>
 (Au 5 b q).bind fun r=>
 (Ad 0 r).bind fun s=>
 (Ac false 1 s a).bind fun t=>
 (Ae .none .gtr t (.int .i64 1)).bind fun u=>
 Aj u (
 (Ac true 2 k a).bind fun v=>
 (Ac true 2 l a).bind fun w=>
 bP e (self b j v w a) fun x y=>
 bP e (BX (AN A0 5 72 i x y)) fun z aa=>
 j2 [b,c,f,g,h,z,d] aa) (
 (Ae .none .gtr j (.int .i64 0)).bind fun ab=>
 Aj ab (
 (Ac true 2 k a).bind fun ac=>
 (Ac true 2 l a).bind fun ad=>
 (AD .u8 j).bind fun ae=>
 (A2 (some [(.bool false),(.sl [] .tight),(.bool false),(.sl [] .tight),(.int .u8 0)]) [(0,2,ac),(2,2,ad),(4,1,ae)]).bind fun aj=>
 (AO 5 [aj]).bind fun ak=>
 bP e (BX (AN A0 5 72 i ak a)) fun al am=>
 j2 [b,c,f,g,h,al,d] am) (
 j2 [b,c,f,g,h,i,d] a))
noncomputable def Sh.f7m (b:Aa) (self:Ab→Ab→Ab→Ab→Aa→Out) (j2:LK) (g h i c d j e k f:Ab) (a:Aa):Out:=
 AH (fun j4=>
 (Ae .none .gtr e (.int .i64 1)).bind fun l=>
 Aj l (
 (Ac true 2 c a).bind fun m=>
 (Ac true 2 d a).bind fun n=>
 bP b (Sh.f1 m n a) fun o p=>
 bP b (A3 (Af 2 f o p)) fun _ q=>
 j4 [g,h,i,c,d,j,e,k,f] q) (
 j4 [g,h,i,c,d,j,e,k,f] a)) (fun vs H=>Sh.f57 b self j2 (ag vs 0) (ag vs 1) (ag vs 2) (ag vs 3) (ag vs 4) (ag vs 5) (ag vs 6) (ag vs 7) (ag vs 8) H)
noncomputable def Sh.f58 (a:Aa) (self:Ab→Ab→Ab→Ab→Aa→Out) (o:LK) (l m b c h i d:Ab) (e:Aa):Out:=
 (Ae .none .lss d (.int .i64 4)).bind fun p=>
 Aj p (
 AH (fun j2=>
 bC (Ac true 2 b e) (fun _=>True) fun q=>
 Ak (Ax (some [(.bool false),(.sl [] .tight)]) e) fun f r=>
 Ak (Ax (some [(.bool false),(.sl [] .tight)]) r) fun j s=>
 AZ (A3 (Af 2 f q s)) fun _ n=>
 bC (Ac true 2 c n) (fun k=>Ac true 2 c e=some k∧True) fun k=>
 bP a (A3 (Af 2 j k n)) fun _ g=>
 AH (fun j3=>
 (Ae .none .rem d (.int .i64 2)).bind fun t=>
 (Ae .none .eql t (.int .i64 1)).bind fun u=>
 Aj u (
 (Ac true 2 b g).bind fun v=>
 (Ac true 2 h g).bind fun w=>
 bP a (Sh.f1 v w g) fun x y=>
 bP a (A3 (Af 2 f x y)) fun _ z=>
 j3 [l,m,b,c,h,i,d,f,j] z) (
 j3 [l,m,b,c,h,i,d,f,j] g)) (fun vs H=>Sh.f7m a self j2 (ag vs 0) (ag vs 1) (ag vs 2) (ag vs 3) (ag vs 4) (ag vs 5) (ag vs 6) (ag vs 7) (ag vs 8) H)) (fun vs H=>Sh.f47 a o (ag vs 0) (ag vs 1) (ag vs 2) (ag vs 3) (ag vs 4) (ag vs 5) (ag vs 6) H)) (
 rPN a i e)
noncomputable def Sh.f59 (self:Ab→Ab→Ab→Ab→Aa→Out) (d b f g:Ab) (a:Aa):Out:=
 Ak (Bz true 2 f a) fun h i=>
 Ak (Bz true 2 g i) fun j c=>
 (Ae .none .eql b (.int .i64 0)).bind fun k=>
 Aj k (
 rPN a (.sl [] .tight) c) (
 (Ae .none .sub b (.int .i64 1)).bind fun l=>
 (Au 5 d l).bind fun m=>
 (Ad 0 m).bind fun n=>
 (Ac false 1 n c).bind fun o=>
 (Ae .none .sub o (.int .i64 1)).bind fun p=>
 bP a (Sh.f4 p c) fun q r=>
 Ak (Ax (some [(.bool false),(.sl [] .tight)]) r) fun e s=>
 bP a (A3 (Af 2 e q s)) fun _ t=>
 Ao (fun u vs H=>Sh.f58 a self u (ag vs 0) (ag vs 1) (ag vs 2) (ag vs 3) (ag vs 4) (ag vs 5) (ag vs 6) H) AK [d,b,h,j,e,(.sl [] .tight),(.int .i64 0)] t)
noncomputable def Sh.fm:Nat→Ab→Ab→Ab→Ab→Aa→Out
 | 0=>fun _ _ _ _ _=>none
 | d+1=>Sh.f59 (Sh.fm d)
noncomputable def Sh.f2f (g h:Ab) (a:Aa):Out:=
 Ak (Bz true 5 g a) fun d i=>
 Ak (Bz true 5 h i) fun e c=>
 (Ad 2 d).bind fun j=>
 (Ac true 2 j c).bind fun k=>
 (Ad 2 e).bind fun l=>
 (Ac true 2 l c).bind fun m=>
 bP a (Sh.f2 k m c) fun f b=>
 (Ae .none .neq f (.int .i64 0)).bind fun n=>
 Aj n (
 rP a f b) (
 (Ad 0 d).bind fun o=>
 (Ac true 2 o b).bind fun p=>
 (Ad 0 e).bind fun q=>
 (Ac true 2 q b).bind fun r=>
 bP a (Sh.f2 p r b) fun s t=>
 rP a s t)
noncomputable def Sh.f6i (q:Aa) (e:LK) (a f b c g:Ab) (d:Aa):Out:=
 (Bw 5 f none (some c) (some c)).bind fun h=>
 (Au 5 a b).bind fun i=>
 bC (Ac true 5 i d) (fun _=>True) fun j=>
 (AO 5 [j]).bind fun k=>
 AZ (BX (AN A0 5 72 h k d)) fun l m=>
 AZ (BX (AN A0 5 72 l g m)) fun n o=>
 (Ae .none .add b (.int .i64 1)).bind fun p=>
 e [a,n,p] o
noncomputable def Sh.f7n (i:Aa) (l:LK) (m:LK) (e c f d:Ab) (h:Aa):Out:=
 (A5 c).bind fun n=>
 (Ae .none .lss d n).bind fun a=>
 gk a true (some c) fun o=>
 gk a true (some d) fun p=>
 gk a true (Au 5 o p) fun q=>
 gkc a true (Ac true 5 q h) (fun _ _=>True) fun r=>
 gk a true (some e) fun s=>
 gk a true (some f) fun t=>
 gk a true (Au 5 s t) fun u=>
 gkc a true (Ac true 5 u h) (fun _ _=>True) fun v=>
 gbN a true h (Sh.f2f r v h) fun w g=>
 gk a true (Ae .none .lss w (.int .i64 0)) fun x=>
 (A8 a x (.bool false)).bind fun y=>
 Aj y (
 (Ae .none .add d (.int .i64 1)).bind fun z=>
 m [e,c,f,z] g) (
 (A5 c).bind fun aa=>
 (Ae .none .lss d aa).bind fun b=>
 gk b true (some c) fun ab=>
 gk b true (some d) fun ac=>
 gk b true (Au 5 ab ac) fun ad=>
 gkc b true (Ac true 5 ad g) (fun _ _=>True) fun ae=>
 gk b true (some e) fun aj=>
 gk b true (some f) fun ak=>
 gk b true (Au 5 aj ak) fun al=>
 gkc b true (Ac true 5 al g) (fun _ _=>True) fun am=>
 gbN b true g (Sh.f2f ae am g) fun an ap=>
 gk b true (Ae .none .eql an (.int .i64 0)) fun aq=>
 (A8 b aq (.bool false)).bind fun ar=>
 (AO 5 []).bind fun au=>
 (Bw 5 c (some d) none none).bind fun av=>
 bP i (BX (AN A0 5 72 au av ap)) fun j k=>
 AH (fun j3=>
 Aj ar (
 (Bw 5 j (some (.int .i64 1)) none none).bind fun aw=>
 j3 [e,c,f,d,aw] k) (
 j3 [e,c,f,d,j] k)) (fun vs H=>Sh.f6i i l (ag vs 0) (ag vs 1) (ag vs 2) (ag vs 3) (ag vs 4) H))
noncomputable def Sh.f6j (g:Aa) (a:LK) (b c d:Ab) (e:Aa):Out:=
 (Ae .none .add d (.int .i64 1)).bind fun f=>
 a [b,c,f] e
noncomputable def Sh.f6k (d:Aa) (f:LK) (a e b:Ab) (c:Aa):Out:=
 (A5 a).bind fun g=>
 (Ae .none .lss b g).bind fun h=>
 Aj h (
 AH (fun j5=>
 (Au 5 a b).bind fun i=>
 (Ad 4 i).bind fun j=>
 (Ac false 1 j c).bind fun k=>
 (Ae .none .neq k (.int .u8 0)).bind fun l=>
 Aj l (
 (Au 5 a b).bind fun m=>
 (Ac true 5 m c).bind fun n=>
 (AO 5 [n]).bind fun o=>
 bP d (BX (AN A0 5 72 e o c)) fun p q=>
 j5 [a,p,b] q) (
 j5 [a,e,b] c)) (fun vs H=>Sh.f6j d f (ag vs 0) (ag vs 1) (ag vs 2) H)) (
 rPN d e c)
noncomputable def Sh.f6l (a:Aa) (f:LK) (b c d:Ab) (e:Aa):Out:=
 (A5 b).bind fun g=>
 (Ae .none .lss d g).bind fun h=>
 Aj h (
 Ao (fun i vs H=>Sh.f7n a f i (ag vs 0) (ag vs 1) (ag vs 2) (ag vs 3) H) AK [b,c,d,(.int .i64 0)] e) (
 Ao (fun j vs H=>Sh.f6k a j (ag vs 0) (ag vs 1) (ag vs 2) H) AK [c,(.sl [] .tight),(.int .i64 0)] e)
noncomputable def Sh.f1t (b:Ab) (a:Aa):Out:=
 Ao (fun c vs H=>Sh.f6l a c (ag vs 0) (ag vs 1) (ag vs 2) H) AK [b,(.sl [] .tight),(.int .i64 0)] a
noncomputable def Sh.f48 (g h:Ab) (a:Aa):Out:=
 Ak (Bz true 1 g a) fun b f=>
 (Ac true 1 b f).bind fun i=>
 bP a (Sh.f46 i f) fun j k=>
 bP a (Sh.fg h k) fun l m=>
 bP a (Sh.f2 j l m) fun n c=>
 (Ae .none .gtr n (.int .i64 0)).bind fun o=>
 Aj o (
 rPN a (.tup [(.sl [] .tight),(.bool false)]) c) (
 (Ad 0 b).bind fun p=>
 (Ac false 1 p c).bind fun q=>
 (A5 q).bind fun r=>
 (Ae .none .eql r (.int .i64 0)).bind fun s=>
 Aj s (
 rPN a (.tup [(.sl [] .tight),(.bool true)]) c) (
 (Ac true 1 b c).bind fun t=>
 bP a (Sh.f16 t c) fun u v=>
 (Ae .none .sub u (.int .i64 1)).bind fun w=>
 bP a (Sh.f4 w v) fun x y=>
 bP a (Sh.f6 x y) fun z aa=>
 Ak (Ax (some [(.bool false),(.sl [] .tight)]) aa) fun e ab=>
 bP a (A3 (Af 2 e z ab)) fun _ d=>
 (Ad 0 b).bind fun ac=>
 (Ac false 1 ac d).bind fun ad=>
 (Ad 0 b).bind fun ae=>
 (Ac false 1 ae d).bind fun aj=>
 (A5 aj).bind fun ak=>
 (Ac true 2 e d).bind fun al=>
 (Ac true 2 e d).bind fun am=>
 bP a (Sh.fm AK ad ak al am d) fun an ap=>
 bP a (Sh.f1t an ap) fun aq ar=>
 rPN a (.tup [aq,(.bool true)]) ar))
noncomputable def Sh.f7o (f:Aa) (j:LK) (g a c h b:Ab) (d:Aa):Out:=
 (Ae .none .geq b (.int .i64 0)).bind fun k=>
 Aj k (
 (Ae .none .mul h (.int .u64 4294967296)).bind fun l=>
 (Au 1 g b).bind fun m=>
 (Ac false 1 m d).bind fun n=>
 (AD .u64 n).bind fun o=>
 (Ae .none .add l o).bind fun i=>
 bC (AD .u64 a) (fun _=>True) fun p=>
 (Ae .none .quo i p).bind fun q=>
 bC (AD .u32 q) (fun _=>True) fun r=>
 (Au 1 c b).bind fun s=>
 AZ (A3 (Af 1 s r d)) fun _ t=>
 bC (AD .u64 a) (fun e=>AD .u64 a=some e∧True) fun e=>
 (Ae .none .rem i e).bind fun u=>
 (Ae .none .sub b (.int .i64 1)).bind fun v=>
 j [g,a,c,u,v] t) (
 bP f (Sh.fl c d) fun w x=>
 (AD .u32 h).bind fun y=>
 rPN f (.tup [w,y]) x)
noncomputable def Sh.f49 (b c:Ab) (a:Aa):Out:=
 (Ae .none .eql c (.int .u32 0)).bind fun e=>
 Aj e (
 rPN a (.tup [(.sl [] .tight),(.int .u32 0)]) a) (
 (A5 b).bind fun d=>
 Ak (Fx 1 4 (some [(.int .u32 0)]) d d a) fun f g=>
 (A5 b).bind fun h=>
 (Ae .none .sub h (.int .i64 1)).bind fun i=>
 Ao (fun j vs H=>Sh.f7o a j (ag vs 0) (ag vs 1) (ag vs 2) (ag vs 3) (ag vs 4) H) AK [b,c,f,(.int .u64 0),i] g)
noncomputable def Sh.f7p (b:Aa) (g:LK) (d h i:Ab) (j:Aa):Out:=
 bP b (Sh.f49 i (.int .u32 10) j) fun e a=>
 (As 0 e).bind fun f=>
 (As 1 e).bind fun k=>
 (Ae .none .add (.int .u32 48) k).bind fun l=>
 (AD .u8 l).bind fun m=>
 (AO 1 [m]).bind fun n=>
 (Fv n a).bind fun o=>
 (Ae .none .add o h).bind fun c=>
 (A5 f).bind fun p=>
 (Ae .none .eql p (.int .i64 0)).bind fun q=>
 Aj q (
 (Ad 0 d).bind fun r=>
 (Ac false 1 r a).bind fun s=>
 Aj s (
 (Ae .none .add (.str [45]) c).bind fun t=>
 rP b t a) (
 rP b c a)) (
 g [d,c,f] a)
noncomputable def Sh.f2g (d:Ab) (a:Aa):Out:=
 Ak (Bz true 2 d a) fun b c=>
 (Ad 1 b).bind fun e=>
 (Ac false 1 e c).bind fun f=>
 Ao (fun g vs H=>Sh.f7p a g (ag vs 0) (ag vs 1) (ag vs 2) H) AK [b,(.str []),f] c
noncomputable def Sh.f6m (h:Aa) (i:LK) (a e b:Ab) (c:Aa):Out:=
 (A5 a).bind fun j=>
 (Ae .none .lss b j).bind fun k=>
 Aj k (
 (Au 5 a b).bind fun l=>
 (Ad 0 l).bind fun m=>
 bC (Ac true 2 m c) (fun _=>True) fun n=>
 AZ (Sh.f2g n c) fun o f=>
 (Au 5 a b).bind fun p=>
 (Ad 2 p).bind fun g=>
 bC (Ac true 2 g f) (fun d=>Ac true 2 g c=some d∧True) fun d=>
 AZ (Sh.f2g d f) fun q r=>
 (Ae .none .add e o).bind fun s=>
 (Ae .none .add s (.str [32])).bind fun t=>
 (Ae .none .add t q).bind fun u=>
 (Ae .none .add u (.str [10])).bind fun v=>
 (Ae .none .add b (.int .i64 1)).bind fun w=>
 i [a,v,w] r) (
 rP h (.tup [e,(.int .i64 0)]) c)
noncomputable def Sh.f17 (h i:Ab) (a:Aa):Out:=
 Ak (Bz true 2 h a) fun b j=>
 Ak (Bz true 2 i j) fun k c=>
 (Ac true 2 b c).bind fun l=>
 (Ac true 2 k c).bind fun m=>
 bP a (Sh.f44 (.int .i64 3) l m c) fun e d=>
 (Ae .none .neq e (.int .i64 0)).bind fun n=>
 Aj n (
 rP a (.tup [(.str []),e]) d) (
 (Ad 1 b).bind fun o=>
 (Ac true 1 o d).bind fun p=>
 bP a (Sh.f48 p (.int .i64 1000000) d) fun f g=>
 (As 0 f).bind fun q=>
 (As 1 f).bind fun w=>
 (Ad 0 b).bind fun r=>
 (Ac false 1 r g).bind fun s=>
 (Ae .none .add (.str [35,76,105,102,101,32,49,46,48,54,10,35,82,32]) s).bind fun t=>
 (Ae .none .add t (.str [10])).bind fun u=>
 Ao (fun v vs H=>Sh.f6m a v (ag vs 0) (ag vs 1) (ag vs 2) H) AK [q,u,(.int .i64 0)] g)
noncomputable def Sh.f18 (e:Ab) (a:Aa):Out:=
 (A2 (some [(.str []),(.int .i64 0)]) [(0,1,e)]).bind fun f=>
 (A2 (some [(.str []),(.int .i64 0),(.str []),(.sl [] .tight)]) [(0,2,f)]).bind fun g=>
 Ak (Bz true 4 g a) fun h i=>
 bP a (Sh.f20 (.bfn 38 [h]) i) fun j k=>
 Ak (Ax (some [(.int .i64 0),(.str [])]) k) fun b l=>
 bP a (A3 (Af 2 b j l)) fun _ c=>
 (Ad 1 b).bind fun m=>
 bC (Ac false 1 m c) (fun _=>True) fun n=>
 (Ad 0 b).bind fun o=>
 bC (Ac false 1 o c) (fun _=>True) fun p=>
 (Ae .none .eql p (.int .i64 0)).bind fun d=>
 gk d false (Ad 0 b) fun q=>
 gkc d false (Ac false 1 q c) (fun _ _=>True) fun r=>
 gk d false (Ae .none .eql r (.int .i64 3)) fun s=>
 (A8 d (.bool true) s).bind fun t=>
 rP a (.tup [n,t]) c
noncomputable def Sl.gliderref11_Wide:Aa→Out:=Classical.choose (⟨Sh.fz,rfl⟩:∃f:Aa→Out,f=Sh.fz)
theorem Sl.gliderref11_Wide_eq:Sl.gliderref11_Wide=Sh.fz:=Classical.choose_spec (⟨Sh.fz,rfl⟩:∃f:Aa→Out,f=Sh.fz)
noncomputable def Sl.life6_Read:Ab→Ab→Aa→Out:=Classical.choose (⟨Sh.f12,rfl⟩:∃f:Ab→Ab→Aa→Out,f=Sh.f12)
theorem Sl.life6_Read_eq:Sl.life6_Read=Sh.f12:=Classical.choose_spec (⟨Sh.f12,rfl⟩:∃f:Ab→Ab→Aa→Out,f=Sh.f12)
noncomputable def Sl.gliderref12_Life6:Ab→Ab→Aa→Out:=Classical.choose (⟨Sh.f17,rfl⟩:∃f:Ab→Ab→Aa→Out,f=Sh.f17)
theorem Sl.gliderref12_Life6_eq:Sl.gliderref12_Life6=Sh.f17:=Classical.choose_spec (⟨Sh.f17,rfl⟩:∃f:Ab→Ab→Aa→Out,f=Sh.f17)
noncomputable def Sl.life6_Hint:Ab→Aa→Out:=Classical.choose (⟨Sh.f18,rfl⟩:∃f:Ab→Aa→Out,f=Sh.f18)
theorem Sl.life6_Hint_eq:Sl.life6_Hint=Sh.f18:=Classical.choose_spec (⟨Sh.f18,rfl⟩:∃f:Ab→Aa→Out,f=Sh.f18)
noncomputable def Sh.f19 (a:Aa):Out:=
 bP a (Sl.gliderref11_Wide a) fun u v=>
 Ak (Ax (some [(.int .i64 0),(.int .i64 0)]) v) fun b w=>
 bP a (A3 (Af 2 b u w)) fun _ m=>
 (Ac true 2 b m).bind fun x=>
 bP a (Sl.life6_Read (.str [35,76,105,102,101,32,49,46,48,54,13,10,49,32,45,50,10,35,82,32,97,98,99,10,49,32,45,50]) x m) fun c y=>
 (As 0 c).bind fun z=>
 (As 1 c).bind fun bq=>
 (As 2 c).bind fun aa=>
 Ak (Ax (some [(.str []),(.sl [] .tight)]) y) fun n ab=>
 bP a (A3 (Af 2 n z ab)) fun _ d=>
 (Ac true 2 n d).bind fun ac=>
 (Ac true 2 b d).bind fun ad=>
 bP a (Sl.gliderref12_Life6 ac ad d) fun o p=>
 (As 0 o).bind fun ae=>
 (As 1 o).bind fun aj=>
 (Ac true 2 b p).bind fun ak=>
 bP a (Sl.life6_Read (.str [35,76,105,102,101,32,49,46,48,54,10,49,32,32,50]) ak p) fun e al=>
 (As 0 e).bind fun am=>
 (As 1 e).bind fun an=>
 (As 2 e).bind fun ap=>
 Ak (Ax (some [(.str []),(.sl [] .tight)]) al) fun aq ar=>
 bP a (A3 (Af 2 aq am ar)) fun _ au=>
 bP a (Sl.life6_Hint (.str [35,76,105,102,101,32,49,46,48,54,10,49,50]) au) fun q r=>
 (As 0 q).bind fun av=>
 (As 1 q).bind fun aw=>
 (Ae .none .add (.str [35,76,105,102,101,32,49,46,48,54,10,49,50]) av).bind fun ax=>
 (Ac true 2 b r).bind fun ay=>
 bP a (Sl.life6_Read ax ay r) fun f az=>
 (As 0 f).bind fun a0=>
 (As 1 f).bind fun br=>
 (As 2 f).bind fun a1=>
 Ak (Ax (some [(.str []),(.sl [] .tight)]) az) fun a2 a3=>
 bP a (A3 (Af 2 a2 a0 a3)) fun _ a4=>
 bP a (Sl.life6_Hint (.str [35,76,105,102,101,32,49,46,48,54,10,10]) a4) fun s a5=>
 (As 0 s).bind fun bt=>
 (As 1 s).bind fun a6=>
 (Ae .none .eql aa (.int .i64 0)).bind fun g=>
 gk g true (some aj) fun a7=>
 gk g true (Ae .none .eql a7 (.int .i64 0)) fun a8=>
 (A8 g a8 (.bool false)).bind fun h=>
 gk h true (some ae) fun a9=>
 gk h true (Ae .none .eql a9 (.str [35,76,105,102,101,32,49,46,48,54,10,35,82,32,97,98,99,10,49,32,45,50,10])) fun ba=>
 (A8 h ba (.bool false)).bind fun i=>
 gk i true (some an) fun bb=>
 gk i true (Ae .none .eql bb (.int .i64 13)) fun bc=>
 (A8 i bc (.bool false)).bind fun j=>
 gk j true (some ap) fun bd=>
 gk j true (Ae .none .eql bd (.int .i64 2)) fun be=>
 (A8 j be (.bool false)).bind fun t=>
 gk t true (some aw) fun bg=>
 (A8 t bg (.bool false)).bind fun k=>
 gk k true (some a1) fun bj=>
 gk k true (Ae .none .eql bj (.int .i64 0)) fun bk=>
 (A8 k bk (.bool false)).bind fun l=>
 gk l true (some a6) fun bl=>
 gk l true (unA .not bl) fun bm=>
 (A8 l bm (.bool false)).bind fun bp=>
 rP a bp a5
noncomputable def Sh.f8f (g:Aa) (h:LK) (d e b:Ab) (f:Aa):Out:=
 (BE d).bind fun i=>
 (Ae .none .lss b i).bind fun c=>
 gk c true (some b) fun j=>
 gk c true (some e) fun k=>
 gk c true (BE k) fun l=>
 gk c true (Ae .none .lss j l) fun m=>
 (A8 c m (.bool false)).bind fun a=>
 gk a true (some d) fun n=>
 gk a true (some b) fun o=>
 gk a true (BV n o) fun p=>
 gk a true (some e) fun q=>
 gk a true (some b) fun r=>
 gk a true (BV q r) fun s=>
 gk a true (Ae .none .eql p s) fun t=>
 (A8 a t (.bool false)).bind fun u=>
 Aj u (
 (Ae .none .add b (.int .i64 1)).bind fun v=>
 h [d,e,v] f) (
 rK g b f)
noncomputable def Sh.f4a (b c:Ab) (a:Aa):Out:=
 Ao (fun d vs H=>Sh.f8f a d (ag vs 0) (ag vs 1) (ag vs 2) H) AK [b,c,(.int .i64 0)] a
noncomputable def Sh.f8 (d:Ab) (b:Aa):Out:=
 Ak (Bz true 3 d b) fun c a=>
 (Ad 1 c).bind fun e=>
 (Ac false 1 e a).bind fun f=>
 (Ad 0 c).bind fun g=>
 (Ac false 1 g a).bind fun h=>
 (BE h).bind fun i=>
 (Ae .none .geq f i).bind fun j=>
 rP b j a
noncomputable def Sh.fc (i:Ab) (a:Aa):Out:=
 Ak (Bz true 3 i a) fun b j=>
 Ak (Ax (some [(.str []),(.int .i64 0),(.int .i64 0)]) j) fun c k=>
 (Ad 2 b).bind fun l=>
 bP a (A3 (Af 1 l (.int .i64 2) k)) fun _ e=>
 (Ac true 3 b e).bind fun m=>
 bP a (Sh.f8 m e) fun n d=>
 Aj n (
 (Ad 2 b).bind fun o=>
 bP a (A3 (Af 1 o (.int .i64 3) d)) fun _ f=>
 (Ac true 3 b f).bind fun p=>
 bP a (A3 (Af 3 c p f)) fun _ g=>
 (Ac true 3 c g).bind fun q=>rP a q g) (
 (Ac true 3 b d).bind fun r=>
 bP a (A3 (Af 3 c r d)) fun _ h=>
 (Ac true 3 c h).bind fun s=>rP a s h)
noncomputable def Sh.fq (l f:Ab) (a:Aa):Out:=
 Ak (Bz true 3 l a) fun b m=>
 Ak (Ax (some [(.str []),(.int .i64 0),(.int .i64 0)]) m) fun c d=>
 (Ad 2 b).bind fun n=>
 (Ac false 1 n d).bind fun o=>
 (Ae .none .neq o (.int .i64 0)).bind fun p=>
 Aj p (
 (Ac true 3 b d).bind fun q=>
 bP a (A3 (Af 3 c q d)) fun _ g=>
 (Ac true 3 c g).bind fun r=>rP a r g) (
 (Ad 0 b).bind fun s=>
 (Ac false 1 s d).bind fun t=>
 (Ad 1 b).bind fun u=>
 (Ac false 1 u d).bind fun v=>
 (BF t (some v) none).bind fun w=>
 bP a (Sh.f4a w f d) fun h i=>
 (Ad 1 b).bind fun x=>
 (Ac false 1 x i).bind fun y=>
 (Ae .none .add y h).bind fun z=>
 (Ad 1 b).bind fun aa=>
 bP a (A3 (Af 1 aa z i)) fun _ e=>
 (BE f).bind fun ab=>
 (Ae .none .lss h ab).bind fun ac=>
 Aj ac (
 (Ac true 3 b e).bind fun ad=>
 bP a (Sh.fc ad e) fun ae aj=>
 bP a (A3 (Af 3 c ae aj)) fun _ j=>
 (Ac true 3 c j).bind fun ak=>rP a ak j) (
 (Ac true 3 b e).bind fun al=>
 bP a (A3 (Af 3 c al e)) fun _ k=>
 (Ac true 3 c k).bind fun am=>rP a am k))
noncomputable def Sh.f7q (a:Aa) (b d:Ab) (c:Aa):Out:=
 (Ad 0 b).bind fun h=>
 (Ac false 1 h c).bind fun i=>
 (Ad 1 b).bind fun j=>
 (Ac false 1 j c).bind fun k=>
 (BV i k).bind fun l=>
 (Ae .none .neq l (.int .u8 10)).bind fun m=>
 Aj m (
 (Ac true 3 b c).bind fun n=>
 bP a (Sh.fc n c) fun o p=>
 bP a (A3 (Af 3 d o p)) fun _ e=>
 (Ac true 3 d e).bind fun q=>rP a q e) (
 (Ad 1 b).bind fun r=>
 (Ac false 1 r c).bind fun s=>
 (Ae .none .add s (.int .i64 1)).bind fun t=>
 (Ad 1 b).bind fun u=>
 bP a (A3 (Af 1 u t c)) fun _ f=>
 (Ac true 3 b f).bind fun v=>
 bP a (A3 (Af 3 d v f)) fun _ g=>
 (Ac true 3 d g).bind fun w=>rP a w g)
noncomputable def Sh.fr (l:Ab) (b:Aa):Out:=
 Ak (Bz true 3 l b) fun a m=>
 Ak (Ax (some [(.str []),(.int .i64 0),(.int .i64 0)]) m) fun e g=>
 (Ad 2 a).bind fun n=>
 (Ac false 1 n g).bind fun o=>
 (Ae .none .neq o (.int .i64 0)).bind fun h=>
 gk h false (Ac true 3 a g) fun p=>
 gbP b h false g (Sh.f8 p g) fun q c=>
 (A8 h (.bool true) q).bind fun r=>
 Aj r (
 (Ac true 3 a c).bind fun s=>
 bP b (A3 (Af 3 e s c)) fun _ i=>
 (Ac true 3 e i).bind fun t=>rP b t i) (
 AH (fun j1=>
 (Ad 0 a).bind fun u=>
 (Ac false 1 u c).bind fun v=>
 (Ad 1 a).bind fun w=>
 (Ac false 1 w c).bind fun x=>
 (BV v x).bind fun y=>
 (Ae .none .eql y (.int .u8 13)).bind fun z=>
 Aj z (
 (Ad 1 a).bind fun aa=>
 (Ac false 1 aa c).bind fun ab=>
 (Ae .none .add ab (.int .i64 1)).bind fun ac=>
 (Ad 1 a).bind fun ad=>
 bP b (A3 (Af 1 ad ac c)) fun _ j=>
 (Ac true 3 a j).bind fun ae=>
 bP b (Sh.f8 ae j) fun d f=>
 gk d false (Ad 0 a) fun aj=>
 gk d false (Ac false 1 aj f) fun ak=>
 gk d false (Ad 1 a) fun al=>
 gk d false (Ac false 1 al f) fun am=>
 gk d false (BV ak am) fun an=>
 gk d false (Ae .none .neq an (.int .u8 10)) fun ap=>
 (A8 d (.bool true) ap).bind fun aq=>
 Aj aq (
 (Ac true 3 a f).bind fun ar=>
 bP b (Sh.fc ar f) fun au av=>
 bP b (A3 (Af 3 e au av)) fun _ k=>
 (Ac true 3 e k).bind fun aw=>rP b aw k) (
 j1 [a,e] f)) (
 j1 [a,e] c)) (fun vs H=>Sh.f7q b (ag vs 0) (ag vs 1) H))
noncomputable def Sh.f1u (g h:Ab) (e:Aa):Out:=
 Ak (Bz true 3 g e) fun b c=>
 (Ad 2 b).bind fun i=>
 (Ac false 1 i c).bind fun j=>
 (Ae .none .eql j (.int .i64 0)).bind fun d=>
 gk d true (Ac true 3 b c) fun k=>
 gbP e d true c (Sh.f8 k c) fun l f=>
 gk d true (unA .not l) fun m=>
 (A8 d m (.bool false)).bind fun a=>
 gk a true (Ad 0 b) fun n=>
 gk a true (Ac false 1 n f) fun o=>
 gk a true (Ad 1 b) fun p=>
 gk a true (Ac false 1 p f) fun q=>
 gk a true (BV o q) fun r=>
 gk a true (some h) fun s=>
 gk a true (Ae .none .eql r s) fun t=>
 (A8 a t (.bool false)).bind fun u=>
 rP e u f
noncomputable def Sh.f7r (c:Aa) (p:LK) (a f h:Ab) (l:Aa):Out:=
 (Ac true 3 a l).bind fun q=>
 bP c (Sh.f8 q l) fun r g=>
 (unA .not r).bind fun e=>
 gk e true (Ad 1 a) fun s=>
 gk e true (Ac false 1 s g) fun t=>
 gk e true (some h) fun u=>
 gk e true (Ae .none .sub t u) fun v=>
 gk e true (Ae .none .lss v (.int .i64 40)) fun w=>
 (A8 e w (.bool false)).bind fun d=>
 gk d true (Ad 0 a) fun x=>
 gk d true (Ac false 1 x g) fun y=>
 gk d true (Ad 1 a) fun z=>
 gk d true (Ac false 1 z g) fun aa=>
 gk d true (BV y aa) fun ab=>
 gbP c d true g (Sh.f1p ab g) fun ac b=>
 (A8 d ac (.bool false)).bind fun ad=>
 Aj ad (
 (Ad 1 a).bind fun ae=>
 (Ac false 1 ae b).bind fun aj=>
 (Ae .none .add aj (.int .i64 1)).bind fun ak=>
 (Ad 1 a).bind fun al=>
 bP c (A3 (Af 1 al ak b)) fun _ am=>
 p [a,f,h] am) (
 (Ad 1 a).bind fun an=>
 (Ac false 1 an b).bind fun ap=>
 (Ae .none .eql ap h).bind fun aq=>
 Aj aq (
 (Ac true 3 a b).bind fun ar=>
 bP c (Sh.fc ar b) fun au av=>
 bP c (A3 (Af 3 f au av)) fun _ m=>
 (CU [Ac true 3 f m,some (.str [])]).bind fun aw=>rP c aw m) (
 bC (Ac true 3 a b) (fun _=>True) fun ax=>
 AZ (A3 (Af 3 f ax b)) fun _ i=>
 (Ad 0 a).bind fun n=>
 bC (Ac false 1 n i) (fun j=>Ac false 1 n b=some j∧True) fun j=>
 (Ad 1 a).bind fun o=>
 bC (Ac false 1 o i) (fun k=>Ac false 1 o b=some k∧True) fun k=>
 (BF j (some h) (some k)).bind fun ay=>
 (CU [Ac true 3 f i,some ay]).bind fun az=>rP c az i))
noncomputable def Sh.f1a (f:Ab) (b:Aa):Out:=
 Ak (Bz true 3 f b) fun c g=>
 Ak (Ax (some [(.str []),(.int .i64 0),(.int .i64 0)]) g) fun d a=>
 (Ad 2 c).bind fun h=>
 (Ac false 1 h a).bind fun i=>
 (Ae .none .neq i (.int .i64 0)).bind fun j=>
 Aj j (
 (Ac true 3 c a).bind fun k=>
 bP b (A3 (Af 3 d k a)) fun _ e=>
 (CU [Ac true 3 d e,some (.str [])]).bind fun l=>rP b l e) (
 (Ad 1 c).bind fun m=>
 (Ac false 1 m a).bind fun n=>
 Ao (fun o vs H=>Sh.f7r b o (ag vs 0) (ag vs 1) (ag vs 2) H) AK [c,d,n] a)
noncomputable def Sh.f6n (i:Aa) (j:LK) (d f g e:Ab) (h:Aa):Out:=
 (Ae .none .geq f (.int .i64 0)).bind fun a=>
 gk a true (some e) fun k=>
 gk a true (some d) fun l=>
 gk a true (BE l) fun m=>
 gk a true (Ae .none .lss k m) fun n=>
 (A8 a n (.bool false)).bind fun b=>
 gk b true (some d) fun o=>
 gk b true (some e) fun p=>
 gk b true (BV o p) fun q=>
 gk b true (Ae .none .geq q (.int .u8 48)) fun r=>
 (A8 b r (.bool false)).bind fun c=>
 gk c true (some d) fun s=>
 gk c true (some e) fun t=>
 gk c true (BV s t) fun u=>
 gk c true (Ae .none .leq u (.int .u8 57)) fun v=>
 (A8 c v (.bool false)).bind fun w=>
 Aj w (
 (Ae .none .add g (.int .i64 1)).bind fun x=>
 (Ae .none .add e (.int .i64 1)).bind fun y=>
 j [d,f,x,y] h) (
 rK i g h)
noncomputable def Sh.f4b (c a:Ab) (b:Aa):Out:=
 Ao (fun d vs H=>Sh.f6n b d (ag vs 0) (ag vs 1) (ag vs 2) (ag vs 3) H) AK [c,a,(.int .i64 0),a] b
noncomputable def Sh.f7s (a:Aa) (i:LK) (b e f g c:Ab) (d:Aa):Out:=
 (A5 b).bind fun j=>
 (Ae .none .lss c j).bind fun k=>
 Aj k (
 (Au 1 b c).bind fun l=>
 (Ac false 1 l d).bind fun m=>
 (AD .u64 m).bind fun n=>
 (AD .u64 e).bind fun o=>
 (Ae .none .mul n o).bind fun p=>
 (Ae .none .add p g).bind fun h=>
 (Ae .none .rem h (.int .u64 4294967296)).bind fun q=>
 (AD .u32 q).bind fun r=>
 (AO 1 [r]).bind fun s=>
 bP a (BX (AN B4 1 4 f s d)) fun t u=>
 (Ae .none .quo h (.int .u64 4294967296)).bind fun v=>
 (Ae .none .add c (.int .i64 1)).bind fun w=>
 i [b,e,t,v,w] u) (
 (AD .u32 g).bind fun x=>
 (AO 1 [x]).bind fun y=>
 bP a (BX (AN B4 1 4 f y d)) fun z aa=>
 bP a (Sh.fl z aa) fun ab ac=>
 rPN a ab ac)
noncomputable def Sh.f4c (b c d:Ab) (a:Aa):Out:=
 (AD .u64 d).bind fun e=>
 Ao (fun f vs H=>Sh.f7s a f (ag vs 0) (ag vs 1) (ag vs 2) (ag vs 3) (ag vs 4) H) AK [b,c,(.sl [] .tight),e,(.int .i64 0)] a
noncomputable def Sh.f5a (a:Aa) (l:LK) (b d g h e:Ab) (i:Aa):Out:=
 (BE d).bind fun m=>
 (Ae .none .lss e m).bind fun n=>
 Aj n (
 (BV d e).bind fun o=>
 (Ae .none .sub o (.int .u8 48)).bind fun p=>
 (AD .u32 p).bind fun q=>
 bP a (Sh.f4c h (.int .u32 10) q i) fun r s=>
 (Ae .none .add e (.int .i64 1)).bind fun t=>
 l [b,d,g,r,t] s) (
 (A2 (some [(.bool false),(.sl [] .tight)]) [(1,1,h)]).bind fun u=>
 Ak (Ax (some [(.bool false),(.sl [] .tight)]) i) fun f v=>
 bP a (A3 (Af 2 f u v)) fun _ c=>
 Aj g (
 (Ac true 2 f c).bind fun w=>
 bP a (Sh.f6 w c) fun x y=>
 bP a (A3 (Af 2 b x y)) fun _ j=>
 (CU [Ac true 2 b j,some (.int .i64 0)]).bind fun z=>rPN a z j) (
 (Ac true 2 f c).bind fun aa=>
 bP a (A3 (Af 2 b aa c)) fun _ k=>
 (CU [Ac true 2 b k,some (.int .i64 0)]).bind fun ab=>rPN a ab k))
noncomputable def Sh.f7t (b:Aa) (f a h:Ab) (i:Aa):Out:=
 (BE a).bind fun m=>
 (Ae .none .eql m (.int .i64 0)).bind fun c=>
 gk c false (some a) fun n=>
 gbP b c false i (Sh.f4b n (.int .i64 0) i) fun o g=>
 gk c false (some a) fun p=>
 gk c false (BE p) fun q=>
 gk c false (Ae .none .neq o q) fun r=>
 (A8 c (.bool true) r).bind fun d=>
 gk d false (some a) fun s=>
 gk d false (BV s (.int .i64 0)) fun t=>
 gk d false (Ae .none .eql t (.int .u8 48)) fun u=>
 gk d false (some u) fun e=>
 gk e true (some a) fun v=>
 gk e true (BE v) fun w=>
 gk e true (Ae .none .gtr w (.int .i64 1)) fun x=>
 gk e true (some x) fun j=>
 gk j false (some h) fun y=>
 gk e true (A8 j (.bool true) y) fun z=>
 gk d false (A8 e z (.bool false)) fun aa=>
 (A8 d (.bool true) aa).bind fun ab=>
 Aj ab (
 (A2 (some [(.bool false),(.sl [] .tight)]) []).bind fun ac=>
 bP b (A3 (Af 2 f ac g)) fun _ k=>
 (CU [Ac true 2 f k,some (.int .i64 2)]).bind fun ad=>rPN b ad k) (
 (BE a).bind fun ae=>
 (Ae .none .gtr ae (.int .i64 400)).bind fun aj=>
 Aj aj (
 (A2 (some [(.bool false),(.sl [] .tight)]) []).bind fun ak=>
 bP b (A3 (Af 2 f ak g)) fun _ l=>
 (CU [Ac true 2 f l,some (.int .i64 4)]).bind fun al=>rPN b al l) (
 Ao (fun am vs H=>Sh.f5a b am (ag vs 0) (ag vs 1) (ag vs 2) (ag vs 3) (ag vs 4) H) AK [f,a,h,(.sl [] .tight),(.int .i64 0)] g))
noncomputable def Sh.f4d (a:Ab) (d:Aa):Out:=
 Ak (Ax (some [(.bool false),(.sl [] .tight)]) d) fun e f=>
 (BE a).bind fun g=>
 (Ae .none .gtr g (.int .i64 0)).bind fun b=>
 gk b true (some a) fun h=>
 gk b true (BV h (.int .i64 0)) fun i=>
 gk b true (Ae .none .eql i (.int .u8 45)) fun j=>
 (A8 b j (.bool false)).bind fun c=>
 AH (fun j1=>
 Aj c (
 (BF a (some (.int .i64 1)) none).bind fun k=>
 j1 [e,k,c] f) (
 j1 [e,a,c] f)) (fun vs H=>Sh.f7t d (ag vs 0) (ag vs 1) (ag vs 2) H)
noncomputable def Sh.f5b (c:Aa) (y:LK) (a d e t j k:Ab) (u:Aa):Out:=
 (Ac true 3 a u).bind fun z=>
 bP c (Sh.f8 z u) fun aa b=>
 (unA .not aa).bind fun f=>
 gk f true (Ad 0 a) fun ab=>
 gk f true (Ac false 1 ab b) fun ac=>
 gk f true (Ad 1 a) fun ad=>
 gk f true (Ac false 1 ad b) fun ae=>
 gk f true (BV ac ae) fun aj=>
 gk f true (Ae .none .geq aj (.int .u8 48)) fun ak=>
 (A8 f ak (.bool false)).bind fun g=>
 gk g true (Ad 0 a) fun al=>
 gk g true (Ac false 1 al b) fun am=>
 gk g true (Ad 1 a) fun an=>
 gk g true (Ac false 1 an b) fun ap=>
 gk g true (BV am ap) fun aq=>
 gk g true (Ae .none .leq aq (.int .u8 57)) fun ar=>
 (A8 g ar (.bool false)).bind fun au=>
 Aj au (
 gk j true (Ad 1 a) fun av=>
 gk j true (Ac false 1 av b) fun aw=>
 gk j true (some k) fun ax=>
 gk j true (Ae .none .eql aw ax) fun ay=>
 (A8 j ay (.bool false)).bind fun h=>
 gk h true (Ad 0 a) fun az=>
 gk h true (Ac false 1 az b) fun a0=>
 gk h true (Ad 1 a) fun a1=>
 gk h true (Ac false 1 a1 b) fun a2=>
 gk h true (BV a0 a2) fun a3=>
 gk h true (Ae .none .eql a3 (.int .u8 48)) fun a4=>
 (A8 h a4 (.bool false)).bind fun i=>
 gk i false (Ad 1 a) fun a5=>
 gk i false (Ac false 1 a5 b) fun a6=>
 gk i false (some k) fun a7=>
 gk i false (Ae .none .gtr a6 a7) fun a8=>
 gk i false (some a8) fun l=>
 gk l true (Ad 0 a) fun a9=>
 gk l true (Ac false 1 a9 b) fun ba=>
 gk l true (some k) fun bb=>
 gk l true (BV ba bb) fun bc=>
 gk l true (Ae .none .eql bc (.int .u8 48)) fun bd=>
 gk i false (A8 l bd (.bool false)) fun be=>
 (A8 i (.bool true) be).bind fun bg=>
 Aj bg (
 (Ac true 3 a b).bind fun bj=>
 bP c (Sh.fc bj b) fun bk bl=>
 (A2 (some [(.bool false),(.sl [] .tight)]) []).bind fun bm=>
 bP c (A3 (Af 3 d bk bl)) fun _ bp=>
 bP c (A3 (Af 2 e bm bp)) fun _ m=>
 (CU [Ac true 3 d m,Ac true 2 e m]).bind fun bq=>rPN c bq m) (
 (Ad 1 a).bind fun br=>
 (Ac false 1 br b).bind fun bt=>
 (Ae .none .sub bt k).bind fun bu=>
 (Ae .none .eql bu (.int .i64 400)).bind fun bv=>
 Aj bv (
 (Ad 2 a).bind fun bw=>
 bP c (A3 (Af 1 bw (.int .i64 4) b)) fun _ v=>
 (Ac true 3 a v).bind fun bz=>
 (A2 (some [(.bool false),(.sl [] .tight)]) []).bind fun b0=>
 bP c (A3 (Af 3 d bz v)) fun _ b1=>
 bP c (A3 (Af 2 e b0 b1)) fun _ n=>
 (CU [Ac true 3 d n,Ac true 2 e n]).bind fun b2=>rPN c b2 n) (
 (Ad 1 a).bind fun b3=>
 (Ac false 1 b3 b).bind fun b4=>
 (Ae .none .add b4 (.int .i64 1)).bind fun b5=>
 (Ad 1 a).bind fun b6=>
 bP c (A3 (Af 1 b6 b5 b)) fun _ b7=>
 y [a,d,e,t,j,k] b7))) (
 (Ad 1 a).bind fun b8=>
 (Ac false 1 b8 b).bind fun b9=>
 (Ae .none .eql b9 k).bind fun ca=>
 Aj ca (
 (Ac true 3 a b).bind fun cb=>
 bP c (Sh.fc cb b) fun cc cd=>
 (A2 (some [(.bool false),(.sl [] .tight)]) []).bind fun ce=>
 bP c (A3 (Af 3 d cc cd)) fun _ cg=>
 bP c (A3 (Af 2 e ce cg)) fun _ o=>
 (CU [Ac true 3 d o,Ac true 2 e o]).bind fun cj=>rPN c cj o) (
 (Ad 0 a).bind fun ck=>
 (Ac false 1 ck b).bind fun cl=>
 (Ad 1 a).bind fun cm=>
 (Ac false 1 cm b).bind fun cn=>
 (BF cl (some t) (some cn)).bind fun cp=>
 bP c (Sh.f4d cp b) fun w cq=>
 (As 0 w).bind fun cr=>
 (As 1 w).bind fun cw=>
 Ak (Ax (some [(.bool false),(.sl [] .tight)]) cq) fun p ct=>
 bP c (A3 (Af 2 p cr ct)) fun _ q=>
 bC (Ac true 3 a q) (fun _=>True) fun cu=>
 AZ (A3 (Af 3 d cu q)) fun _ x=>
 bC (Ac true 2 p x) (fun r=>Ac true 2 p q=some r∧True) fun r=>
 bP c (A3 (Af 2 e r x)) fun _ s=>
 (CU [Ac true 3 d s,Ac true 2 e s]).bind fun cv=>rPN c cv s))
noncomputable def Sh.f8g (c:Aa) (a d e f g:Ab) (b:Aa):Out:=
 (Ad 1 a).bind fun h=>
 (Ac false 1 h b).bind fun i=>
 Ao (fun j vs H=>Sh.f5b c j (ag vs 0) (ag vs 1) (ag vs 2) (ag vs 3) (ag vs 4) (ag vs 5) H) AK [a,d,e,f,g,i] b
noncomputable def Sh.fx (k f:Ab) (b:Aa):Out:=
 Ak (Bz true 3 k b) fun a l=>
 Ak (Ax (some [(.str []),(.int .i64 0),(.int .i64 0)]) l) fun d m=>
 Ak (Ax (some [(.bool false),(.sl [] .tight)]) m) fun e c=>
 (Ad 2 a).bind fun n=>
 (Ac false 1 n c).bind fun o=>
 (Ae .none .neq o (.int .i64 0)).bind fun p=>
 Aj p (
 (Ac true 3 a c).bind fun q=>
 (A2 (some [(.bool false),(.sl [] .tight)]) []).bind fun r=>
 bP b (A3 (Af 3 d q c)) fun _ s=>
 bP b (A3 (Af 2 e r s)) fun _ g=>
 (CU [Ac true 3 d g,Ac true 2 e g]).bind fun t=>rPN b t g) (
 (Ad 1 a).bind fun u=>
 (Ac false 1 u c).bind fun j=>
 gk f true (Ac true 3 a c) fun v=>
 gbP b f true c (Sh.f1u v (.int .u8 45) c) fun w h=>
 (A8 f w (.bool false)).bind fun i=>
 AH (fun j1=>
 Aj i (
 (Ad 1 a).bind fun x=>
 (Ac false 1 x h).bind fun y=>
 (Ae .none .add y (.int .i64 1)).bind fun z=>
 (Ad 1 a).bind fun aa=>
 bP b (A3 (Af 1 aa z h)) fun _ ab=>
 j1 [a,d,e,j,i] ab) (
 j1 [a,d,e,j,i] h)) (fun vs H=>Sh.f8g b (ag vs 0) (ag vs 1) (ag vs 2) (ag vs 3) (ag vs 4) H))
noncomputable def Sh.f1b (p q r s:Ab) (d:Aa):Out:=
 Ak (Bz true 3 p d) fun e t=>
 Ak (Bz true 2 q t) fun k u=>
 Ak (Bz true 2 s u) fun v w=>
 Ak (Ax (some [(.str []),(.sl [] .tight)]) w) fun c a=>
 (Ad 2 e).bind fun x=>
 (Ac false 1 x a).bind fun y=>
 (Ae .none .neq y (.int .i64 0)).bind fun z=>
 Aj z (
 (A2 (some [(.str []),(.sl [] .tight)]) []).bind fun aa=>
 AZ (A3 (Af 2 c aa a)) fun _ f=>
 (Ad 1 e).bind fun l=>
 bC (Ac false 1 l f) (fun g=>Ac false 1 l a=some g∧True) fun g=>
 (Ad 2 e).bind fun m=>
 bC (Ac false 1 m f) (fun h=>Ac false 1 m a=some h∧True) fun h=>
 (CU [Ac true 2 c f,some g,some h]).bind fun ab=>rPN d ab f) (
 (Ae .none .neq r (.int .i64 0)).bind fun b=>
 gk b false (Ad 1 k) fun ac=>
 gk b false (Ad 0 ac) fun ad=>
 gk b false (Ac false 1 ad a) fun ae=>
 gk b false (A5 ae) fun aj=>
 gk b false (Ad 1 v) fun ak=>
 gk b false (Ac false 1 ak a) fun al=>
 gk b false (Ae .none .gtr aj al) fun am=>
 (A8 b (.bool true) am).bind fun an=>
 Aj an (
 (A2 (some [(.str []),(.sl [] .tight)]) []).bind fun ap=>
 AZ (A3 (Af 2 c ap a)) fun _ i=>
 (Ad 0 e).bind fun n=>
 bC (Ac false 1 n i) (fun j=>Ac false 1 n a=some j∧True) fun j=>
 (BE j).bind fun aq=>
 (CU [Ac true 2 c i,some aq,some (.int .i64 4)]).bind fun ar=>rPN d ar i) (
 (Ac true 2 k a).bind fun au=>
 bP d (A3 (Af 2 c au a)) fun _ o=>
 (CU [Ac true 2 c o,some (.int .i64 0),some (.int .i64 0)]).bind fun av=>rPN d av o))
noncomputable def Sh.f4e (b:Ab) (c:Aa):Out:=
 (A5 b).bind fun d=>
 (Ae .none .eql d (.int .i64 0)).bind fun a=>
 gk a false (some b) fun e=>
 gk a false (some b) fun f=>
 gk a false (A5 f) fun g=>
 gk a false (Ae .none .sub g (.int .i64 1)) fun h=>
 gk a false (Au 1 e h) fun i=>
 gk a false (Ac false 1 i c) fun j=>
 gk a false (Ae .none .neq j (.int .u32 0)) fun k=>
 (A8 a (.bool true) k).bind fun l=>
 rK c l c
noncomputable def Sh.f2h (g:Ab) (c:Aa):Out:=
 Ak (Bz true 2 g c) fun d f=>
 (Ad 1 d).bind fun h=>
 (Ac false 1 h f).bind fun i=>
 bP c (Sh.f4e i f) fun a e=>
 gk a true (Ad 0 d) fun j=>
 gk a true (Ac false 1 j e) fun k=>
 gk a true (some k) fun b=>
 gk b true (Ad 1 d) fun l=>
 gk b true (Ac false 1 l e) fun m=>
 gk b true (A5 m) fun n=>
 gk b true (Ae .none .eql n (.int .i64 0)) fun o=>
 gk a true (A8 b o (.bool false)) fun p=>
 gk a true (unA .not p) fun q=>
 (A8 a q (.bool false)).bind fun r=>
 rP c r e
noncomputable def Sh.f4f (m n:Ab) (a:Aa):Out:=
 Ak (Bz true 5 m a) fun e o=>
 (Ae .none .sub n (.int .i64 1)).bind fun p=>
 bP a (Sh.f4 p o) fun q r=>
 Ak (Ax (some [(.bool false),(.sl [] .tight)]) r) fun f s=>
 bP a (A3 (Af 2 f q s)) fun _ l=>
 (Ac true 2 f l).bind fun t=>
 bP a (Sh.f6 t l) fun u v=>
 Ak (Ax (some [(.bool false),(.sl [] .tight)]) v) fun j w=>
 bP a (A3 (Af 2 j u w)) fun _ k=>
 (Ad 0 e).bind fun x=>
 (Ac true 2 x k).bind fun y=>
 (Ac true 2 j k).bind fun z=>
 bP a (Sh.f2 y z k) fun aa g=>
 (Ae .none .geq aa (.int .i64 0)).bind fun b=>
 gk b true (Ad 0 e) fun ab=>
 gk b true (Ac true 2 ab g) fun ac=>
 gk b true (Ac true 2 f g) fun ad=>
 gbP a b true g (Sh.f2 ac ad g) fun ae h=>
 gk b true (Ae .none .lss ae (.int .i64 0)) fun aj=>
 (A8 b aj (.bool false)).bind fun c=>
 gk c true (Ad 2 e) fun ak=>
 gk c true (Ac true 2 ak h) fun al=>
 gk c true (Ac true 2 j h) fun am=>
 gbP a c true h (Sh.f2 al am h) fun an i=>
 gk c true (Ae .none .geq an (.int .i64 0)) fun ap=>
 (A8 c ap (.bool false)).bind fun d=>
 gk d true (Ad 2 e) fun aq=>
 gk d true (Ac true 2 aq i) fun ar=>
 gk d true (Ac true 2 f i) fun au=>
 gbP a d true i (Sh.f2 ar au i) fun av aw=>
 gk d true (Ae .none .lss av (.int .i64 0)) fun ax=>
 (A8 d ax (.bool false)).bind fun ay=>
 rP a ay aw
noncomputable def Sh.f5c (l:Aa) (a:LK) (b c d e f g h i:Ab) (j:Aa):Out:=
 (Ae .none .add i (.int .i64 1)).bind fun k=>
 a [b,c,d,e,f,g,h,k] j
noncomputable def Sh.f2i (p:Aa) (a:LK) (b c d e f g h i j k l m:Ab) (n:Aa):Out:=
 (Ae .none .add m (.int .i64 1)).bind fun o=>
 a [b,c,d,e,f,g,h,i,j,k,l,o] n
noncomputable def Sh.f6o (e:Aa) (self:Ab→Ab→Ab→Ab→Ab→Aa→Out) (j2:LK) (f a g h i j c d l m n:Ab) (b:Aa):Out:=
 (Ae .none .gtr a (.int .i64 1)).bind fun o=>
 Aj o (
 (Ae .none .sub a (.int .i64 1)).bind fun p=>
 (Ac true 2 l b).bind fun q=>
 (Ac true 2 m b).bind fun r=>
 bK e (self f p q r n b) fun k s=>
 (As 0 k).bind fun t=>
 (As 1 k).bind fun u=>
 (Ad 1 c).bind fun v=>
 (BQ 4 1 v d).bind fun w=>
 bK e (A3 (Af 1 w u s)) fun _ x=>
 j2 [t,a,g,h,i,j,c,d] x) (
 j2 [f,a,g,h,i,j,c,d] b)
noncomputable def Sh.f1v (q:Aa) (self:Ab→Ab→Ab→Ab→Ab→Aa→Out) (j2:LK) (ad:LK) (r l d s t g m n h i j f:Ab) (k:Aa):Out:=
 (A5 d).bind fun ae=>
 (Ae .none .lss f ae).bind fun aj=>
 Aj aj (
 AH (fun j6=>
 (Au 5 d f).bind fun ak=>
 (Ad 0 ak).bind fun al=>
 bC (Ac true 2 al k) (fun _=>True) fun am=>
 bC (Ac true 2 h k) (fun _=>True) fun an=>
 AZ (Sh.f2 am an k) fun ap o=>
 (Ae .none .geq ap (.int .i64 0)).bind fun a=>
 gkc a true (Ac true 2 h o) (fun _ _=>True) fun aq=>
 gkc a true (Ac true 2 g o) (fun _ _=>True) fun ar=>
 gbN a true o (Sh.f1 aq ar o) fun au w=>
 gk a true (some d) fun av=>
 gk a true (some f) fun aw=>
 gk a true (Au 5 av aw) fun ax=>
 gk a true (Ad 0 ax) fun ab=>
 gkc a true (Ac true 2 ab w) (fun b x=>gR b (Ac true 2 ab o)=some x∧True) fun x=>
 gbN a true w (Sh.f2 x au w) fun ay u=>
 gk a true (Ae .none .lss ay (.int .i64 0)) fun az=>
 (A8 a az (.bool false)).bind fun e=>
 gk e true (some d) fun a0=>
 gk e true (some f) fun a1=>
 gk e true (Au 5 a0 a1) fun a2=>
 gk e true (Ad 2 a2) fun a3=>
 gkc e true (Ac true 2 a3 u) (fun _ _=>True) fun a4=>
 gkc e true (Ac true 2 i u) (fun _ _=>True) fun a5=>
 gbN e true u (Sh.f2 a4 a5 u) fun a6 p=>
 gk e true (Ae .none .geq a6 (.int .i64 0)) fun a7=>
 (A8 e a7 (.bool false)).bind fun c=>
 gkc c true (Ac true 2 i p) (fun _ _=>True) fun a8=>
 gkc c true (Ac true 2 g p) (fun _ _=>True) fun a9=>
 gbN c true p (Sh.f1 a8 a9 p) fun ba y=>
 gk c true (some d) fun bb=>
 gk c true (some f) fun bc=>
 gk c true (Au 5 bb bc) fun bd=>
 gk c true (Ad 2 bd) fun ac=>
 gkc c true (Ac true 2 ac y) (fun b z=>gR b (Ac true 2 ac p)=some z∧True) fun z=>
 gbN c true y (Sh.f2 z ba y) fun be aa=>
 gk c true (Ae .none .lss be (.int .i64 0)) fun bg=>
 (A8 c bg (.bool false)).bind fun bj=>
 Aj bj (
 (Au 5 d f).bind fun bk=>
 (Ac true 5 bk aa).bind fun bl=>
 (AO 5 [bl]).bind fun bm=>
 bK q (BX (AN A0 5 72 j bm aa)) fun bp bq=>
 j6 [r,l,d,s,t,g,m,n,h,i,bp,f] bq) (
 j6 [r,l,d,s,t,g,m,n,h,i,j,f] aa)) (fun vs H=>Sh.f2i q ad (ag vs 0) (ag vs 1) (ag vs 2) (ag vs 3) (ag vs 4) (ag vs 5) (ag vs 6) (ag vs 7) (ag vs 8) (ag vs 9) (ag vs 10) (ag vs 11) H)) (
 AH (fun j7=>
 (Ae .none .eql l (.int .i64 1)).bind fun v=>
 gk v true (some j) fun br=>
 gk v true (A5 br) fun bt=>
 gk v true (Ae .none .gtr bt (.int .i64 0)) fun bu=>
 (A8 v bu (.bool false)).bind fun bv=>
 Aj bv (
 (Au 5 j (.int .i64 0)).bind fun bw=>
 (Ad 4 bw).bind fun bz=>
 (Ac false 1 bz k).bind fun b0=>
 (AD .i64 b0).bind fun b1=>
 (Ad 1 m).bind fun b2=>
 (BQ 4 1 b2 n).bind fun b3=>
 bK q (A3 (Af 1 b3 b1 k)) fun _ b4=>
 j7 [r,l,d,s,t,g,m,n,h,i,j] b4) (
 j7 [r,l,d,s,t,g,m,n,h,i,j] k)) (fun vs H=>Sh.f6o q self j2 (ag vs 0) (ag vs 1) (ag vs 2) (ag vs 3) (ag vs 4) (ag vs 5) (ag vs 6) (ag vs 7) (ag vs 8) (ag vs 9) (ag vs 10) H))
noncomputable def Sh.f6p (a:Aa) (self:Ab→Ab→Ab→Ab→Ab→Aa→Out) (j2:LK) (b c d e f g h i j k:Ab) (l:Aa):Out:=
 Ao (fun m vs H=>Sh.f1v a self j2 m (ag vs 0) (ag vs 1) (ag vs 2) (ag vs 3) (ag vs 4) (ag vs 5) (ag vs 6) (ag vs 7) (ag vs 8) (ag vs 9) (ag vs 10) (ag vs 11) H) AK [b,c,d,e,f,g,h,i,j,k,(.sl [] .tight),(.int .i64 0)] l
noncomputable def Sh.f4g (b:Aa) (self:Ab→Ab→Ab→Ab→Ab→Aa→Out) (j2:LK) (g h i j c d k e l f:Ab) (a:Aa):Out:=
 AH (fun j4=>
 (Ae .none .gtr e (.int .i64 1)).bind fun m=>
 Aj m (
 (Ac true 2 c a).bind fun n=>
 (Ac true 2 d a).bind fun o=>
 bK b (Sh.f1 n o a) fun p q=>
 bK b (A3 (Af 2 f p q)) fun _ r=>
 j4 [g,h,i,j,c,d,k,e,l,f] r) (
 j4 [g,h,i,j,c,d,k,e,l,f] a)) (fun vs H=>Sh.f6p b self j2 (ag vs 0) (ag vs 1) (ag vs 2) (ag vs 3) (ag vs 4) (ag vs 5) (ag vs 6) (ag vs 7) (ag vs 8) (ag vs 9) H)
noncomputable def Sh.f5d (a:Aa) (self:Ab→Ab→Ab→Ab→Ab→Aa→Out) (q:LK) (h m n c d i j e:Ab) (b:Aa):Out:=
 (Ae .none .lss e (.int .i64 4)).bind fun r=>
 Aj r (
 AH (fun j2=>
 bC (Ac true 2 c b) (fun _=>True) fun s=>
 Ak (Ax (some [(.bool false),(.sl [] .tight)]) b) fun f t=>
 Ak (Ax (some [(.bool false),(.sl [] .tight)]) t) fun k u=>
 AZ (A3 (Af 2 f s u)) fun _ o=>
 bC (Ac true 2 d o) (fun l=>Ac true 2 d b=some l∧True) fun l=>
 bK a (A3 (Af 2 k l o)) fun _ g=>
 AH (fun j3=>
 (Ae .none .rem e (.int .i64 2)).bind fun v=>
 (Ae .none .eql v (.int .i64 1)).bind fun w=>
 Aj w (
 (Ac true 2 c g).bind fun x=>
 (Ac true 2 i g).bind fun y=>
 bK a (Sh.f1 x y g) fun z aa=>
 bK a (A3 (Af 2 f z aa)) fun _ ab=>
 j3 [h,m,n,c,d,i,j,e,f,k] ab) (
 j3 [h,m,n,c,d,i,j,e,f,k] g)) (fun vs H=>Sh.f4g a self j2 (ag vs 0) (ag vs 1) (ag vs 2) (ag vs 3) (ag vs 4) (ag vs 5) (ag vs 6) (ag vs 7) (ag vs 8) (ag vs 9) H)) (fun vs H=>Sh.f5c a q (ag vs 0) (ag vs 1) (ag vs 2) (ag vs 3) (ag vs 4) (ag vs 5) (ag vs 6) (ag vs 7) H)) (
 (Ac true 5 j b).bind fun ac=>
 (AO 5 [ac]).bind fun ad=>
 bK a (BX (AN AJ 5 40 h ad b)) fun p ae=>
 (A5 p).bind fun aj=>
 rK a (.tup [p,aj]) ae)
noncomputable def Sh.f7u (self:Ab→Ab→Ab→Ab→Ab→Aa→Out) (c b h i d:Ab) (a:Aa):Out:=
 Ak (Bz true 2 h a) fun j k=>
 Ak (Bz true 2 i k) fun l e=>
 (A5 d).bind fun m=>
 (Ae .none .eql m (.int .i64 0)).bind fun n=>
 Aj n (
 rK a (.tup [c,(.int .i64 0)]) e) (
 (Ae .none .sub b (.int .i64 1)).bind fun o=>
 bK a (Sh.f4 o e) fun p q=>
 Ak (Ax (some [(.bool false),(.sl [] .tight)]) q) fun f r=>
 bK a (A3 (Af 2 f p r)) fun _ s=>
 (A2 (some [(.int .i64 0),(.int .i64 0),(.int .i64 0),(.int .i64 0),(.int .i64 0)]) [(0,1,b)]).bind fun t=>
 Ak (Ax (some [(.int .i64 0),(.int .i64 0),(.int .i64 0),(.int .i64 0),(.int .i64 0)]) s) fun g u=>
 bK a (A3 (Af 5 g t u)) fun _ v=>
 Ao (fun w vs H=>Sh.f5d a self w (ag vs 0) (ag vs 1) (ag vs 2) (ag vs 3) (ag vs 4) (ag vs 5) (ag vs 6) (ag vs 7) H) AK [c,b,d,j,l,f,g,(.int .i64 0)] v)
noncomputable def Sh.fs:Nat→Ab→Ab→Ab→Ab→Ab→Aa→Out
 | 0=>fun _ _ _ _ _ _=>none
 | d+1=>Sh.f7u (Sh.fs d)
noncomputable def Sh.f4h (c d:Ab) (a:Aa):Out:=
 bK a (Sh.fk c a) fun e b=>
 (Au 1 e d).bind fun f=>
 (Ac false 1 f b).bind fun g=>
 rK a g b
noncomputable def Sh.f4i (b e c:Ab) (a:Aa):Out:=
 (Ae .none .sub e (.int .i64 1)).bind fun f=>
 (Au 5 b f).bind fun g=>
 (Ad 1 g).bind fun h=>
 (BQ 4 1 h c).bind fun i=>
 (Ac false 1 i a).bind fun d=>
 (Ae .none .eql d (.int .i64 0)).bind fun j=>
 Aj j (
 rK a (.int .i64 0) a) (
 (Ae .none .sub d (.int .i64 1)).bind fun k=>
 (Ae .none .sub (.int .i64 3) c).bind fun l=>
 (Au 5 b k).bind fun m=>
 (Ad 1 m).bind fun n=>
 (BQ 4 1 n l).bind fun o=>
 (Ac false 1 o a).bind fun p=>
 rK a p a)
noncomputable def Sh.f6q (b:Aa) (h:LK) (i:LK) (f c d a:Ab) (e:Aa):Out:=
 (Ae .none .lss a (.int .i64 4)).bind fun j=>
 Aj j (
 bP b (Sh.f4i c f a e) fun k l=>
 (Ad 1 d).bind fun m=>
 (BQ 4 1 m a).bind fun n=>
 bP b (A3 (Af 1 n k l)) fun _ o=>
 (Ae .none .add a (.int .i64 1)).bind fun p=>
 i [f,c,d,p] o) (
 (Ac true 5 d e).bind fun q=>
 (AO 5 [q]).bind fun r=>
 bP b (BX (AN AJ 5 40 c r e)) fun g s=>
 (A5 g).bind fun t=>
 h [t,g] s)
noncomputable def Sh.f7v (a:Aa) (f:LK) (b c:Ab) (g:Aa):Out:=
 bP a (Sh.f1r c b g) fun h d=>
 Aj h (
 (Ae .none .sub b (.int .i64 1)).bind fun i=>
 (Au 5 c i).bind fun j=>
 (Ad 0 j).bind fun k=>
 (Ac false 1 k d).bind fun l=>
 (Ae .none .sub l (.int .i64 1)).bind fun m=>
 (A2 (some [(.int .i64 0),(.int .i64 0),(.int .i64 0),(.int .i64 0),(.int .i64 0)]) [(0,1,m)]).bind fun n=>
 Ak (Ax (some [(.int .i64 0),(.int .i64 0),(.int .i64 0),(.int .i64 0),(.int .i64 0)]) d) fun e o=>
 bP a (A3 (Af 5 e n o)) fun _ p=>
 Ao (fun q vs H=>Sh.f6q a f q (ag vs 0) (ag vs 1) (ag vs 2) (ag vs 3) H) AK [b,c,e,(.int .i64 0)] p) (
 rPN a (.tup [c,b]) d)
noncomputable def Sh.f4j (e c:Ab) (a:Aa):Out:=
 (AO 5 []).bind fun f=>
 bP a (BX (AN AJ 5 40 f e a)) fun b g=>
 bP a (Sh.f4h b c g) fun h d=>
 Aj h (
 rPN a (.tup [b,(.int .i64 0)]) d) (
 Ao (fun i vs H=>Sh.f7v a i (ag vs 0) (ag vs 1) H) AK [c,b] d)
noncomputable def Sh.f6r (d:Aa) (f:LK) (c e b:Ab) (a:Aa):Out:=
 (A5 c).bind fun g=>
 (Ae .none .lss b g).bind fun h=>
 Aj h (
 (Au 5 c b).bind fun i=>
 bC (Ac true 5 i a) (fun _=>True) fun j=>
 bC (Ac true 5 e a) (fun _=>True) fun k=>
 (Ae (.flat 5) .eql j k).bind fun l=>
 Aj l (
 (Ae .none .add b (.int .i64 1)).bind fun m=>
 rP d m a) (
 (Ae .none .add b (.int .i64 1)).bind fun n=>
 f [c,e,n] a)) (
 rP d (.int .i64 0) a)
noncomputable def Sh.f4k (b c:Ab) (a:Aa):Out:=
 Ak (Bz true 5 c a) fun d e=>
 Ao (fun f vs H=>Sh.f6r a f (ag vs 0) (ag vs 1) (ag vs 2) H) AK [b,d,(.int .i64 0)] e
noncomputable def Sh.f7w (a:Aa) (d e b c:Ab) (f:Aa):Out:=
 (Au 1 b d).bind fun g=>
 bK a (A3 (Af 1 g c f)) fun _ h=>
 rK a (.tup [e,b,c]) h
noncomputable def Sh.f6s (b:Aa) (self:Ab→Ab→Ab→Ab→Ab→Aa→Out) (o:LK) (k l g d h a e:Ab) (c:Aa):Out:=
 (Ae .none .lss e (.int .i64 4)).bind fun f=>
 gk f true (Ad 0 a) fun p=>
 gk f true (Ac false 1 p c) fun q=>
 gk f true (Ae .none .gtr q (.int .i64 1)) fun r=>
 (A8 f r (.bool false)).bind fun s=>
 Aj s (
 (Ad 1 a).bind fun t=>
 (BQ 4 1 t e).bind fun u=>
 (Ac false 1 u c).bind fun v=>
 bK b (self k l v d h c) fun i w=>
 (As 0 i).bind fun x=>
 (As 1 i).bind fun y=>
 (As 2 i).bind fun z=>
 (Ad 1 a).bind fun aa=>
 (BQ 4 1 aa e).bind fun ab=>
 bK b (A3 (Af 1 ab z w)) fun _ ac=>
 (Ae .none .add e (.int .i64 1)).bind fun ad=>
 o [k,l,g,x,y,a,ad] ac) (
 (Ac true 5 a c).bind fun ae=>
 bK b (Sh.f4k d ae c) fun m j=>
 AH (fun j2=>
 (Ae .none .eql m (.int .i64 0)).bind fun aj=>
 Aj aj (
 (Ac true 5 a j).bind fun ak=>
 (AO 5 [ak]).bind fun al=>
 bK b (BX (AN AJ 5 40 d al j)) fun n am=>
 (A5 n).bind fun an=>
 j2 [g,n,h,an] am) (
 j2 [g,d,h,m] j)) (fun vs H=>Sh.f7w b (ag vs 0) (ag vs 1) (ag vs 2) (ag vs 3) H))
noncomputable def Sh.f5e (self:Ab→Ab→Ab→Ab→Ab→Aa→Out) (e f b d c:Ab) (a:Aa):Out:=
 (Au 1 f b).bind fun h=>
 (Ac false 1 h a).bind fun i=>
 Aj i (
 rK a (.tup [d,c,(.int .i64 0)]) a) (
 (Au 1 c b).bind fun j=>
 (Ac false 1 j a).bind fun k=>
 (Ae .none .gtr k (.int .i64 0)).bind fun l=>
 Aj l (
 (Au 1 c b).bind fun m=>
 bC (Ac false 1 m a) (fun _=>True) fun n=>
 rK a (.tup [d,c,n]) a) (
 (Ae .none .sub b (.int .i64 1)).bind fun o=>
 (Au 5 e o).bind fun p=>
 (Ac true 5 p a).bind fun q=>
 Ak (Ax (some [(.int .i64 0),(.int .i64 0),(.int .i64 0),(.int .i64 0),(.int .i64 0)]) a) fun g r=>
 bK a (A3 (Af 5 g q r)) fun _ s=>
 Ao (fun t vs H=>Sh.f6s a self t (ag vs 0) (ag vs 1) (ag vs 2) (ag vs 3) (ag vs 4) (ag vs 5) (ag vs 6) H) AK [e,f,b,d,c,g,(.int .i64 0)] s))
noncomputable def Sh.fy:Nat→Ab→Ab→Ab→Ab→Ab→Aa→Out
 | 0=>fun _ _ _ _ _ _=>none
 | d+1=>Sh.f5e (Sh.fy d)
noncomputable def Sh.f4l (d e:Ab) (a:Aa):Out:=
 Ak (Ax (some [(.sl [] .tight)]) a) fun c n=>
 bP a (Sh.f1q d n) fun o i=>
 (unA .not o).bind fun f=>
 gk f false (some e) fun p=>
 gk f false (Ae .none .lss p (.int .i64 0)) fun q=>
 (A8 f (.bool true) q).bind fun b=>
 gk b false (some e) fun r=>
 gk b false (some d) fun s=>
 gk b false (A5 s) fun t=>
 gk b false (Ae .none .gtr r t) fun u=>
 (A8 b (.bool true) u).bind fun v=>
 Aj v (
 (A2 (some [(.sl [] .tight)]) []).bind fun w=>
 bP a (A3 (Af 1 c w i)) fun _ j=>
 (CU [Ac true 1 c j,some (.int .i64 1)]).bind fun x=>rPN a x j) (
 bP a (Sh.f4j d e i) fun k y=>
 (As 0 k).bind fun g=>
 (As 1 k).bind fun z=>
 AZ (Sh.fk g y) fun aa ab=>
 (A5 g).bind fun ac=>
 (Ae .none .add ac (.int .i64 1)).bind fun l=>
 Ak (Fx 1 8 (some [(.int .i64 0)]) l l ab) fun ad ae=>
 AZ (Sh.fy AK g aa z (.sl [] .tight) ad ae) fun h aj=>
 (As 0 h).bind fun ak=>
 (As 1 h).bind fun an=>
 (As 2 h).bind fun ap=>
 (A2 (some [(.sl [] .tight)]) [(0,1,ak)]).bind fun al=>
 bP a (A3 (Af 1 c al aj)) fun _ m=>
 (CU [Ac true 1 c m,some (.int .i64 0)]).bind fun am=>rPN a am m)
noncomputable def Sh.f6t (h:Aa) (i:LK) (j:LK) (f c b d:Ab) (e:Aa):Out:=
 (Ae .none .leq b (.int .i64 1329)).bind fun a=>
 gk a true (some c) fun k=>
 gk a true (some d) fun l=>
 gk a true (Au 5 k l) fun m=>
 gk a true (Ac true 5 m e) fun n=>
 gk a true (some b) fun o=>
 gbP h a true e (Sh.f4f n o e) fun p g=>
 gk a true (unA .not p) fun q=>
 (A8 a q (.bool false)).bind fun r=>
 Aj r (
 (Ae .none .add b (.int .i64 1)).bind fun s=>
 j [f,c,s,d] g) (
 (Ae .none .add d (.int .i64 1)).bind fun t=>
 i [f,c,b,t] g)
noncomputable def Sh.f6u (a:Aa) (m:LK) (b d c h:Ab) (e:Aa):Out:=
 (A5 d).bind fun n=>
 (Ae .none .lss h n).bind fun o=>
 Aj o (
 Ao (fun p vs H=>Sh.f6t a m p (ag vs 0) (ag vs 1) (ag vs 2) (ag vs 3) H) AK [b,d,c,h] e) (
 (Ae .none .gtr c (.int .i64 1329)).bind fun q=>
 Aj q (
 (A2 (some [(.sl [] .tight)]) []).bind fun r=>
 bP a (A3 (Af 1 b r e)) fun _ i=>
 (CU [Ac true 1 b i,some (.int .i64 4)]).bind fun s=>rPN a s i) (
 (Ae .none .sub c (.int .i64 1)).bind fun t=>
 bP a (Sh.f4 t e) fun u v=>
 bP a (Sh.f6 u v) fun w x=>
 Ak (Ax (some [(.bool false),(.sl [] .tight)]) x) fun f y=>
 bP a (A3 (Af 2 f w y)) fun _ g=>
 (Ac true 2 f g).bind fun z=>
 (Ac true 2 f g).bind fun aa=>
 bP a (Sh.fs AK (.sl [] .tight) c z aa d g) fun j ab=>
 (As 0 j).bind fun ac=>
 (As 1 j).bind fun ad=>
 bP a (Sh.f4l ac ad ab) fun k ae=>
 (As 0 k).bind fun aj=>
 (As 1 k).bind fun ak=>
 bP a (A3 (Af 1 b aj ae)) fun _ l=>
 (CU [Ac true 1 b l,some ak]).bind fun al=>rPN a al l))
noncomputable def Sh.f6v (b:Aa) (j:LK) (c d e:Ab) (f:Aa):Out:=
 (A5 c).bind fun k=>
 (Ae .none .lss e k).bind fun l=>
 Aj l (
 (Au 5 c e).bind fun m=>
 (Ad 0 m).bind fun n=>
 (Ac true 2 n f).bind fun o=>
 bP b (Sh.f2h o f) fun p g=>
 (unA .not p).bind fun a=>
 gk a false (some c) fun q=>
 gk a false (some e) fun r=>
 gk a false (Au 5 q r) fun s=>
 gk a false (Ad 2 s) fun t=>
 gk a false (Ac true 2 t g) fun u=>
 gbP b a false g (Sh.f2h u g) fun v h=>
 gk a false (unA .not v) fun w=>
 (A8 a (.bool true) w).bind fun x=>
 Aj x (
 (A2 (some [(.sl [] .tight)]) []).bind fun y=>
 bP b (A3 (Af 1 d y h)) fun _ i=>
 (CU [Ac true 1 d i,some (.int .i64 1)]).bind fun z=>rPN b z i) (
 (Ae .none .add e (.int .i64 1)).bind fun aa=>
 j [c,d,aa] h)) (
 bP b (Sh.f1t c f) fun ab ac=>
 Ao (fun ad vs H=>Sh.f6u b ad (ag vs 0) (ag vs 1) (ag vs 2) (ag vs 3) H) AK [d,ab,(.int .i64 1),(.int .i64 0)] ac)
noncomputable def Sh.f2j (b:Ab) (a:Aa):Out:=
 Ak (Ax (some [(.sl [] .tight)]) a) fun c d=>
 Ao (fun e vs H=>Sh.f6v a e (ag vs 0) (ag vs 1) (ag vs 2) H) AK [b,c,(.int .i64 0)] d
noncomputable def Sh.f1c (a:Aa) (t:LK) (f d b u l:Ab) (g:Aa):Out:=
 (Ad 2 b).bind fun al=>
 (Ac false 1 al g).bind fun am=>
 (Ae .none .eql am (.int .i64 0)).bind fun h=>
 gk h true (Ac true 3 b g) fun an=>
 gbP a h true g (Sh.f8 an g) fun ap c=>
 gk h true (unA .not ap) fun aq=>
 (A8 h aq (.bool false)).bind fun ar=>
 Aj ar (
 (Ac true 3 b c).bind fun au=>
 bP a (Sh.f1u au (.int .u8 35) c) fun av i=>
 Aj av (
 (Ac true 3 b i).bind fun aw=>
 bP a (Sh.fq aw (.str [35,82,32]) i) fun ax ay=>
 bP a (A3 (Af 3 b ax ay)) fun _ v=>
 (Ac true 3 b v).bind fun az=>
 bP a (Sh.f1a az v) fun w a0=>
 (As 0 w).bind fun a1=>
 (As 1 w).bind fun a2=>
 Ak (Ax (some [(.str []),(.int .i64 0),(.int .i64 0)]) a0) fun x a3=>
 bP a (A3 (Af 3 x a1 a3)) fun _ y=>
 (Ac true 3 x y).bind fun a4=>
 bP a (Sh.fr a4 y) fun a5 a6=>
 bP a (A3 (Af 3 b a5 a6)) fun _ a7=>
 t [f,d,b,a2,l] a7) (
 (Ac true 3 b i).bind fun a8=>
 bP a (Sh.fx a8 (.bool true) i) fun z a9=>
 (As 0 z).bind fun ba=>
 (As 1 z).bind fun bb=>
 Ak (Ax (some [(.str []),(.int .i64 0),(.int .i64 0)]) a9) fun e bc=>
 Ak (Ax (some [(.bool false),(.sl [] .tight)]) bc) fun m bd=>
 bP a (A3 (Af 3 e ba bd)) fun _ be=>
 bP a (A3 (Af 2 m bb be)) fun _ aa=>
 (Ac true 3 e aa).bind fun bg=>
 bP a (Sh.fq bg (.str [32]) aa) fun bj bk=>
 bP a (A3 (Af 3 e bj bk)) fun _ ab=>
 (Ac true 3 e ab).bind fun bl=>
 bP a (Sh.fx bl (.bool true) ab) fun ac bm=>
 (As 0 ac).bind fun bp=>
 (As 1 ac).bind fun bq=>
 Ak (Ax (some [(.bool false),(.sl [] .tight)]) bm) fun n br=>
 bP a (A3 (Af 3 e bp br)) fun _ bt=>
 bP a (A3 (Af 2 n bq bt)) fun _ j=>
 bC (Ac true 3 e j) (fun _=>True) fun bu=>
 AZ (Sh.fr bu j) fun bv o=>
 bC (Ac true 2 m o) (fun p=>Ac true 2 m j=some p∧True) fun p=>
 bC (Ac true 2 n o) (fun q=>Ac true 2 n j=some q∧True) fun q=>
 (A2 (some [(.bool false),(.sl [] .tight),(.bool false),(.sl [] .tight),(.int .u8 0)]) [(0,2,p),(2,2,q),(4,1,(.int .u8 1))]).bind fun bw=>
 (AO 5 [bw]).bind fun bz=>
 AZ (BX (AN A0 5 72 l bz o)) fun b0 b1=>
 AZ (A3 (Af 3 b bv b1)) fun _ b2=>
 t [f,d,b,u,b0] b2)) (
 (Ad 2 b).bind fun b3=>
 (Ac false 1 b3 c).bind fun b4=>
 (Ae .none .neq b4 (.int .i64 0)).bind fun b5=>
 Aj b5 (
 (Ac true 3 b c).bind fun b6=>
 (A2 (some [(.str []),(.sl [] .tight)]) []).bind fun b7=>
 (Ac true 2 f c).bind fun b8=>
 bP a (Sh.f1b b6 b7 (.int .i64 0) b8 c) fun r b9=>
 (As 0 r).bind fun ca=>
 (As 1 r).bind fun cb=>
 (As 2 r).bind fun cc=>
 bP a (A3 (Af 2 d ca b9)) fun _ ad=>
 (CU [Ac true 2 d ad,some cb,some cc]).bind fun cd=>rPN a cd ad) (
 bP a (Sh.f2j l c) fun ae ce=>
 (As 0 ae).bind fun cg=>
 (As 1 ae).bind fun cj=>
 Ak (Ax (some [(.sl [] .tight)]) ce) fun aj ck=>
 bP a (A3 (Af 1 aj cg ck)) fun _ k=>
 (Ac true 3 b k).bind fun cl=>
 (Ac true 1 aj k).bind fun cm=>
 (A2 (some [(.str []),(.sl [] .tight)]) [(0,1,u),(1,1,cm)]).bind fun cn=>
 (Ac true 2 f k).bind fun cp=>
 bP a (Sh.f1b cl cn cj cp k) fun s cq=>
 (As 0 s).bind fun cr=>
 (As 1 s).bind fun ct=>
 (As 2 s).bind fun cu=>
 bP a (A3 (Af 2 d cr cq)) fun _ ak=>
 (CU [Ac true 2 d ak,some ct,some cu]).bind fun cv=>rPN a cv ak))
noncomputable def Sh.f1d (h i:Ab) (a:Aa):Out:=
 Ak (Bz true 2 i a) fun c j=>
 Ak (Ax (some [(.str []),(.sl [] .tight)]) j) fun b d=>
 (Ac true 2 c d).bind fun k=>
 bP a (Sh.f13 k d) fun l e=>
 (unA .not l).bind fun m=>
 Aj m (
 (A2 (some [(.str []),(.sl [] .tight)]) []).bind fun n=>
 bP a (A3 (Af 2 b n e)) fun _ f=>
 (CU [Ac true 2 b f,some (.int .i64 0),some (.int .i64 1)]).bind fun o=>rPN a o f) (
 (A2 (some [(.str []),(.int .i64 0),(.int .i64 0)]) [(0,1,h)]).bind fun p=>
 bP a (Sh.fq p (.str [35,76,105,102,101,32,49,46,48,54]) e) fun q r=>
 bP a (Sh.fr q r) fun s t=>
 Ak (Ax (some [(.str []),(.int .i64 0),(.int .i64 0)]) t) fun g u=>
 bP a (A3 (Af 3 g s u)) fun _ v=>
 Ao (fun w vs H=>Sh.f1c a w (ag vs 0) (ag vs 1) (ag vs 2) (ag vs 3) (ag vs 4) H) AK [c,b,g,(.str [66,51,47,83,50,51]),(.sl [] .tight)] v)
noncomputable def Sh.f7x (d:Aa) (f:LK) (c e b:Ab) (a:Aa):Out:=
 (A5 c).bind fun g=>
 (Ae .none .lss b g).bind fun h=>
 Aj h (
 (Au 5 c b).bind fun i=>
 bC (Ac true 5 i a) (fun _=>True) fun j=>
 (Au 5 e b).bind fun k=>
 bC (Ac true 5 k a) (fun _=>True) fun l=>
 (Ae (.flat 5) .neq j l).bind fun m=>
 Aj m (
 rK d (.bool false) a) (
 (Ae .none .add b (.int .i64 1)).bind fun n=>
 f [c,e,n] a)) (
 rK d (.bool true) a)
noncomputable def Sh.f4m (b c:Ab) (a:Aa):Out:=
 (A5 b).bind fun d=>
 (A5 c).bind fun e=>
 (Ae .none .neq d e).bind fun f=>
 Aj f (
 rK a (.bool false) a) (
 Ao (fun g vs H=>Sh.f7x a g (ag vs 0) (ag vs 1) (ag vs 2) H) AK [b,c,(.int .i64 0)] a)
noncomputable def Sh.f4n (c d:Ab) (a:Aa):Out:=
 Ak (Bz true 1 c a) fun e f=>
 Ak (Bz true 1 d f) fun g b=>
 (Ad 0 e).bind fun h=>
 (Ac false 1 h b).bind fun i=>
 (Ad 0 g).bind fun j=>
 (Ac false 1 j b).bind fun k=>
 bP a (Sh.f4m i k b) fun l m=>
 rP a l m
noncomputable def Sh.f1e (f g:Ab) (c:Aa):Out:=
 Ak (Bz true 2 f c) fun d h=>
 Ak (Bz true 2 g h) fun e a=>
 (Ad 0 d).bind fun i=>
 (Ac false 1 i a).bind fun j=>
 (Ad 0 e).bind fun k=>
 (Ac false 1 k a).bind fun l=>
 (Ae .none .eql j l).bind fun b=>
 gk b true (Ad 1 d) fun m=>
 gk b true (Ac true 1 m a) fun n=>
 gk b true (Ad 1 e) fun o=>
 gk b true (Ac true 1 o a) fun p=>
 gbP c b true a (Sh.f4n n p a) fun q r=>
 (A8 b q (.bool false)).bind fun s=>
 rP c s r
noncomputable def Sl.gliderlaw17_alive:Aa→Out:=Classical.choose (⟨Sh.f19,rfl⟩:∃f:Aa→Out,f=Sh.f19)
theorem Sl.gliderlaw17_alive_eq:Sl.gliderlaw17_alive=Sh.f19:=Classical.choose_spec (⟨Sh.f19,rfl⟩:∃f:Aa→Out,f=Sh.f19)
noncomputable def Sl.gliderref17_Read:Ab→Ab→Aa→Out:=Classical.choose (⟨Sh.f1d,rfl⟩:∃f:Ab→Ab→Aa→Out,f=Sh.f1d)
theorem Sl.gliderref17_Read_eq:Sl.gliderref17_Read=Sh.f1d:=Classical.choose_spec (⟨Sh.f1d,rfl⟩:∃f:Ab→Ab→Aa→Out,f=Sh.f1d)
noncomputable def Sl.gliderref11_Same:Ab→Ab→Aa→Out:=Classical.choose (⟨Sh.f1e,rfl⟩:∃f:Ab→Ab→Aa→Out,f=Sh.f1e)
theorem Sl.gliderref11_Same_eq:Sl.gliderref11_Same=Sh.f1e:=Classical.choose_spec (⟨Sh.f1e,rfl⟩:∃f:Ab→Ab→Aa→Out,f=Sh.f1e)
noncomputable def Sh.f6w (e m:Ab) (a:Aa):Out:=
 Ak (Bz true 2 m a) fun i n=>
 bP a (Sl.gliderlaw17_alive n) fun o b=>
 (unA .not o).bind fun p=>
 Aj p (
 rP a (.bool false) b) (
 (BE e).bind fun q=>
 (Ae .none .gtr q (.int .i64 500)).bind fun r=>
 Aj r (
 rP a (.bool true) b) (
 (Ac true 2 i b).bind fun s=>
 bP a (Sl.life6_Read e s b) fun f t=>
 (As 0 f).bind fun u=>
 (As 1 f).bind fun v=>
 (As 2 f).bind fun w=>
 Ak (Ax (some [(.str []),(.sl [] .tight)]) t) fun j x=>
 bP a (A3 (Af 2 j u x)) fun _ k=>
 (Ac true 2 i k).bind fun y=>
 bP a (Sl.gliderref17_Read e y k) fun g z=>
 (As 0 g).bind fun aa=>
 (As 1 g).bind fun ab=>
 (As 2 g).bind fun ac=>
 Ak (Ax (some [(.str []),(.sl [] .tight)]) z) fun l ad=>
 bP a (A3 (Af 2 l aa ad)) fun _ h=>
 (Ac true 2 j h).bind fun ae=>
 (Ac true 2 l h).bind fun aj=>
 bP a (Sl.gliderref11_Same ae aj h) fun c ak=>
 gk c true (some v) fun al=>
 gk c true (some ab) fun am=>
 gk c true (Ae .none .eql al am) fun an=>
 (A8 c an (.bool false)).bind fun d=>
 gk d true (some w) fun ap=>
 gk d true (some ac) fun aq=>
 gk d true (Ae .none .eql ap aq) fun ar=>
 (A8 d ar (.bool false)).bind fun au=>
 rP a au ak))
open Go.Proofs
set_option maxRecDepth 100000
theorem mixed:Tryz.prog.follows .mixedOrders=true:=by kernel_rfl
noncomputable def Sf:Orc:=noO
theorem RO:T1 Tryz.prog Gs false Sf Tryz.f235 (.tw .lf (.tw .lf .lf)) .keep Sh.f5f:=by unfold T1;intros;kernel_rfl
theorem RD:AG Tryz.prog Gs 235 (ap1 Sh.f5f):=Ba mixed (Ar _ _) Tryz.func235 (by kernel_rfl) RO
noncomputable def Vs:Orc:=noO
theorem UD:T1 Tryz.prog Gs false Vs Tryz.f140 (.tw .lf (.tw .lf .lf)) .keep Sh.fd:=by unfold T1;intros;kernel_rfl
theorem LL:AG Tryz.prog Gs 140 (ap1 Sh.fd):=Ba mixed (Ar _ _) Tryz.func140 (by kernel_rfl) UD
noncomputable def orc_limb_cut:Orc:=(ent 140 (ap1 Sh.fd) noO)
theorem tie_limb_cut:T1 Tryz.prog Gs false orc_limb_cut Tryz.f201 (.tw .lf (.tw (.one (.loop [0] (.tw (.tw .lf (.tw .lf .lf)) (.one .lf)))) (.tw .lf .lf))) .keepN Sh.f0:=by unfold T1;intros;kernel_rfl
theorem DB:AG Tryz.prog Gs 201 (ap1 Sh.f0):=Ba mixed ((Ag LL (Ar _ _))) Tryz.func201 (by kernel_rfl) tie_limb_cut
open Go.ChangeShapes Go.WideShapes Go.ChangeAt Go.RowKit
def Env0 (W:World):Env:=⟨fun _ _=>none,fun _ _=>none,fun b o=>W.cell? ⟨b,o,none⟩⟩
theorem sim0 (W:World) (hf:∀b cs,FixT b=some cs→0<cs.size∧∃t fr,W.heap[b]? = some (.cells cs t fr)):Sim (Env0 W) [] W:=
 ⟨fun id B h=>(by simp at h),fun id g b h=>(by cases h),fun id g b h=>(by cases h),fun id B n h=>(by simp at h),fun id id' b h=>(by simp [loc]at h),fun b o v h=>h,fun b cs h=>by
  obtain ⟨h0,t,fr,h1⟩:=hf b cs h
  exact ⟨⟨t,fr,h1⟩,⟨cs[0],by rw [show (Env0 W).I b 0=W.cell? ⟨b,0,none⟩ from rfl,Bg h1];simp [h0]⟩,fun id=>by simp [loc]⟩⟩
theorem UP {E0:Env} {w0:World} {E:Env} {H:Aa} {w:World} (h:BL E0 [] w0 E H w):Below w0.heap.size w0 w:=
 ⟨h.os,h.tape,h.output,h.size,fun k hk=>h.frame k hk (fun ⟨i,hi⟩=>by simp [loc]at hi)⟩
theorem calls_law {P:Program} {G:IK} {g:FuncId} {F:List Ab→Aa→Out} (hF:AG P G g F) {fn:Func} (hf:P.funcs[g]? = some fn) (hb:fn.body.isNone=false) (hn:(fn.name == "runtime.NumGoroutine")=false)
  {W:World} (hfx:∀b cs,FixT b=some cs→0<cs.size∧∃t fr,W.heap[b]? = some (.cells cs t fr)) (hG:DE G (Env0 W)) {args:List Ab} {vs:Array Value} (hv:AA (Env0 W) args vs.toList) (h:F args []=some (.ret (.bool true),[])) :
  Calls P g vs W fun e W'=>e=.returned (.bool true)∧Below W.heap.size W W':=by
 rcases hF args [] _ _ h (Env0 W) W vs hG (sim0 W hfx) hv with ⟨_,h1⟩ | ⟨v,w',h1,_⟩
 ·refine h1.mono fun e W' ⟨E',h2,_,h3⟩=>⟨?_,UP h3⟩
  cases e with
  | returned v=>rw [Az.bool_inv h2]
  | panicked c=>exact h2.elim
  | outgrown=>exact h2.elim
 ·rw [Fu hf hb hn]at h1;cases h1
section
variable {H:Type} {enc:TypeId×Value→H} {P:Program}
theorem PW (hl:laidOutB P=true) {W W':World} (hb:Below W.heap.size W W') {sp:Nat→Bool}:∀ {ts:List TypeId} {vs:List Value} {ds:List (DataW H)} {ps:List MemPlace},
  (ts.all fun t=>P.readableRec t&&decide (t<P.types.size))=true→DataW.TrodAll enc P W 0 (fun _=>true) true ts vs ds ps→(∀x∈ps,x.block<W.heap.size)→(∀x∈ps,sp x.block=true)→DataW.TrodAll enc P W' 0 sp true ts vs ds ps
 | [],_,_,_,_,h,_,_=>by
  obtain ⟨rfl,rfl,rfl⟩:=trodAll_nil h
  exact trodAll_mk0
 | t::ts,_,_,_,ht,h,hlt,hsp=>by
  obtain ⟨v,vs1,d,ds1,a,b,rfl,rfl,rfl,h1,h2⟩:=trodAll_cons h
  simp only [List.all_cons,Y7,decide_eq_true_eq]at ht
  exact trodAll_cons_mk (WideElems.Trod_stays hl ht.1.1 ht.1.2 h1 (fun x hx=>hb.same (hlt x (by simp [hx]))) (fun x hx=>hsp x (by simp [hx])))
   (PW hl hb (by simpa using ht.2) h2 (fun x hx=>hlt x (by simp [hx])) (fun x hx=>hsp x (by simp [hx])))
theorem post_law {f:Func} {s:ChangeSpec} {W W':World} {args:Array Value} {ds gs:List (DataW H)} {before:List MemPlace} (hW:DataW.Whole enc P f.params.toList s.vars false W args.toList ds gs before)
  (hl:laidOutB P=true) (hr:(f.params.toList.all fun t=>P.readableRec t&&decide (t<P.types.size))=true) (hB:Below W.heap.size W W') (hvars:s.vars=[]) {tb:TypeId} (hrt:f.resultTypes = #[tb]) (hbool:P.underlying tb=some .bool)
  (hres:(s.fn H (ds++gs)).results=[.lit (.bool true)]) (hargs:(s.fn H (ds++gs)).args=ds) (hvs:(s.fn H (ds++gs)).vars=[]):s.post enc P f false true false false W args (.bool true) W':=by
 have hold:∀p∈before,(fun b=>decide (b<W.heap.size)) p.block=true:=fun p hp=>by simpa using hW.lt p hp
 have hlt:=hW.lt
 have hW':=hW
 obtain ⟨p,q,hA,hV,hpq,hz,hn⟩:=hW
 rw [hvars]at hV
 obtain ⟨rfl,rfl⟩:=trodVars_none hV
 have hpq':before=p:=by rw [hpq];simp
 subst hpq'
 have ha:∀sp:Nat→Bool,(∀x∈before,sp x.block=true)→DataW.TrodAll enc P W' 0 sp true f.params.toList args.toList (s.fn H (ds++[])).args before:=fun sp hsp=>by
  rw [hargs];exact PW hl hB hr hA hlt hsp
 have hr':∀(b:Nat) (sp:Nat→Bool) (hd:Bool),DataW.TrodAll enc P W' b sp hd f.resultTypes.toList ((Value.bool true).resultList f.resultTypes.size) (s.fn H (ds++[])).results []:=fun b sp hd=>by
  rw [hres,hrt]
  exact trodAll_cons_mk (shut_bool hbool _) trodAll_mk0
 have hv':∀sp:Nat→Bool,DataW.TrodVars enc P W' sp s.vars (s.fn H (ds++[])).vars []:=fun sp=>by rw [hvars,hvs];rfl
 refine ⟨ds,[],before,[],before,[],hW',hr' _ _ _,ha _ hold,hv' _,World.keptBut_mono (fun p hp=>hp) (hB.frame _),fun _=>?_⟩
 refine ⟨ok_one hrt rfl (okWide_bool_mk hbool _),_,_,([]++before)++[],⟨[]++before,[],trodAll_append (ha _ (fun _ _=>rfl)) (hr' _ _ _),hv' _,rfl,?_,?_⟩,?_⟩
 ·intro b off hp
  have hp':MemPlace.cell b off∈before:=by simpa using hp
  rw [hB.frozen (hlt _ hp')]
  exact hz b off hp'
 ·intro h;cases h
 ·intro p hp _
  simpa using hp

end
open Go.RowKit
theorem Xr {E:Env} {H:Aa} {w w':World} (h:Sim E H w) (hb:Below w.heap.size w w'):Sim E H w'∧BL E H w E H w':=
 h.ext (.refl E) (fun _ _ _ h=>h) (fun _ _ _ h=>h) hb.block (fun _ _=>rfl) (fun b o v hv hlt=>by have:=h.imm_lt hv;omega) hb.os hb.tape hb.output hb.size
def Env.bare (E:Env):Env:=⟨fun _ _=>none,fun _ _=>none,E.I⟩
theorem sim_bare {E:Env} {H:Aa} {w:World} (h:Sim E H w):Sim E.bare [] w:=
 ⟨fun id B h=>(by simp at h),fun id g b h=>(by cases h),fun id g b h=>(by cases h),fun id B n h=>(by simp at h),fun id id' b h=>(by simp [loc]at h),fun b o v hv=>h.imm b o v hv,fun b cs hf=>⟨(h.fix b cs hf).1,(h.fix b cs hf).2.1,fun id=>by simp [loc]⟩⟩
theorem fn_calls {P:Program} {G:IK} {g:FuncId} {F:List Ab→Aa→Out} (hF:AG P G g F) {fn:Func} (hf:P.funcs[g]? = some fn) (hB:fnB 0 fn=true)
  {E:Env} {H:Aa} {w:World} (hG:DE G E.bare) (hs:Sim E H w) {args:List Ab} {vs:Array Value} (hv:AA E.bare args vs.toList) {res:Res} (h:F args []=some (res,[])) :
  Calls P g vs w fun e w'=>(∃E',IL E' res e)∧Below w.heap.size w w':=by
 obtain ⟨b1,b2,b3⟩:=FH hB
 rcases hF args [] _ _ h E.bare w vs hG (sim_bare hs) hv with ⟨_,h1⟩ | ⟨v,w',h1,_⟩
 ·exact h1.mono fun e w' ⟨E',h2,_,h3⟩=>⟨⟨E',h2⟩,UP h3⟩
 ·rw [Fu hf b1 b2]at h1;cases h1
theorem lib_ok {P:Program} {G:IK} {g:FuncId} {fn:Func} (hf:P.funcs[g]? = some fn) (hB:fnB 0 fn=true) {args:List Ab} {H:Aa} {x:Ab}
  (h:∀(E:Env) (w:World) (vs:Array Value),DE G E→Sim E H w→AA E args vs.toList→∃v,Az E x v∧Calls P g vs w fun e w'=>e=.returned v∧Below w.heap.size w w'):CallA P G g args H (.ret x) H:=by
 intro E w vs hG hs hv
 obtain ⟨v,h1,h2⟩:=h E w vs hG hs hv
 obtain ⟨b1,b2,b3⟩:=FH hB
 refine .inl ⟨Fu hf b1 b2 vs w,h2.mono fun e w' ⟨he,hb⟩=>?_⟩
 subst he
 obtain ⟨k1,k2⟩:=Xr hs hb
 exact ⟨E,h1,k1,k2⟩
theorem args1 {E:Env} {a:Ab} {vs:Array Value} (h:AA E [a] vs.toList):∃v,vs = #[v]∧Az E a v:=by
 obtain ⟨l⟩:=vs
 match l,h with
 | [v],h=>exact ⟨v,rfl,h.head⟩
 | [],h=>exact absurd h.1 (by simp)
 | _::_::_,h=>exact absurd h.1 (by simp)
theorem args2 {E:Env} {a b:Ab} {vs:Array Value} (h:AA E [a,b] vs.toList):∃v u,vs = #[v,u]∧Az E a v∧Az E b u:=by
 obtain ⟨l⟩:=vs
 match l,h with
 | [v,u],h=>exact ⟨v,u,rfl,h.head,h.tail.head⟩
 | [],h=>exact absurd h.1 (by simp)
 | [_],h=>exact absurd h.1 (by simp)
 | _::_::_::_,h=>exact absurd h.1 (by simp)
theorem val_str {E:Env} {s:List UInt8} {v:Value} (h:Az E (.str s) v):v=.string ⟨s.toArray⟩:=by cases h;rfl
theorem Ub {E:Env} {k:IntKind} {n:Int} {v:Value} (h:Az E (.int k n) v):v=.int k n:=by cases h;rfl
end Go.Gm
/-
 DERIVED: THE SHELF's CONTRACTS AT THIS DUMP,IN PLAIN WORDS (tools/lay-plain.mjs out of 'TryzShelf.lean',which tools/lay-shelf.mjs wrote): THE SAME DECLARATIONS UNDER THE SAME NAMES: 'import','namespace','open','def','theorem' AND NOTHING ELSE: no command of the shelf's: FOR A HAND-IN. Each laying: the table of numbers ('.._ren') and one theorem,a field a fact of the dump's own or the kernel's comparison;each contract: ONE APPLICATION.
-/
namespace Go.Proofs
open Go.Shelf
def Tryz.lays137_ren:Go.Shelf.Ren:=⟨fun | 137=>177 | 217=>220 | 266=>231 | n=>n,fun | 9=>9 | 5=>5 | 3=>3 | n=>n,fun | n=>n⟩
theorem Tryz.lays137:Go.Proofs.Lays.n137 Tryz.prog Tryz.lays137_ren:={
 mixed:=by kernel_rfl
 f137:=Tryz.func177.trans (congrArg some (by kernel_rfl))
 f217:=Tryz.func220.trans (congrArg some (by kernel_rfl))
 f266:=Tryz.func231.trans (congrArg some (by kernel_rfl))
 t3:=Tryz.underlying3
 a3:=Tryz.isAgg3
 z3:=Tryz.sizeOf3
 v3:=Tryz.zeroValue3
 t5:=Tryz.underlying5
 a5:=Tryz.isAgg5
 z5:=Tryz.sizeOf5
 v5:=Tryz.zeroValue5
 t9:=Tryz.underlying9
 a9:=Tryz.isAgg9
 z9:=Tryz.sizeOf9
 v9:=Tryz.zeroValue9 }
open Go.RowKit in
theorem Tryz.strings_IndexByte (s:ByteArray) (c:Int) (w:World) :
  Calls Tryz.prog 177 #[.string s,.int .u8 c] w fun e w'=>e=.returned (.int .i64 (Lib.indexByte s.data.toList c.toNat.toUInt8))∧w'=w:=Any.strings_IndexByte Tryz.lays137 s c w
def Tryz.laysGw15_ren:Go.Shelf.Ren:=⟨fun | 15=>234 | 20=>239 | n=>n,fun | 9=>9 | 23=>256 | 3=>3 | 4=>4 | 0=>0 | 21=>21 | n=>n,fun | n=>n⟩
theorem Tryz.laysGw15:Go.Proofs.LaysGw.n15 Tryz.prog Tryz.laysGw15_ren:={
 mixed:=by kernel_rfl
 f15:=Tryz.func234.trans (congrArg some (by kernel_rfl))
 f20:=Tryz.func239.trans (congrArg some (by kernel_rfl))
 t0:=Tryz.underlying0
 a0:=Tryz.isAgg0
 z0:=Tryz.sizeOf0
 v0:=Tryz.zeroValue0
 i0:=by kernel_rfl
 t3:=Tryz.underlying3
 a3:=Tryz.isAgg3
 z3:=Tryz.sizeOf3
 v3:=Tryz.zeroValue3
 i3:=by kernel_rfl
 t4:=Tryz.underlying4
 a4:=Tryz.isAgg4
 z4:=Tryz.sizeOf4
 v4:=Tryz.zeroValue4
 i4:=by kernel_rfl
 t9:=Tryz.underlying9
 a9:=Tryz.isAgg9
 z9:=Tryz.sizeOf9
 v9:=Tryz.zeroValue9
 i9:=by kernel_rfl
 t21:=Tryz.underlying21
 a21:=Tryz.isAgg21
 z21:=Tryz.sizeOf21
 v21:=Tryz.zeroValue21
 i21:=by kernel_rfl
 t23:=Tryz.underlying256
 a23:=Tryz.isAgg256
 z23:=Tryz.sizeOf256
 v23:=Tryz.zeroValue256
 i23:=by kernel_rfl }
open Go.RowKit Go.Lib in
theorem Tryz.strings_IndexFunc_grows (g:Nat) (lb:Array Value) (eg:∀args w,(callFunc g args).run Tryz.prog w=.ok (.enter g args) w) (p:Nat→Bool) (s:ByteArray) (w:World) (hp:PredGrows Tryz.prog g lb p w) :
  Calls Tryz.prog 234 #[.string s,.func (.func g) #[] lb] w fun e w'=>e=.returned (.int .i64 (Lib.idxFunc p true s))∧Below w.heap.size w w':=Any.strings_IndexFunc_grows Tryz.laysGw15 g lb eg p s w hp
end Go.Proofs
namespace Go.Gm
@[simp 2000] theorem BD {α β:Type} (a:α) (f:α→Option β):(some a).bind f=f a:=(rfl)
theorem FD {G:LK→LK} (N:Nat) (p:Nat→Bool) (st:Nat→List Ab) (H:Aa) (yes no:Out) (hN:N<1152921504606846976)
  (turn:∀(rec:LK) (i:Nat),i<N→G rec (st i) H=if p i then rec (st (i+1)) H else no) (last:∀rec:LK,G rec (st N) H=yes):Ao G AK (st 0) H=if (List.range N).all p then yes else no:=by
 refine Bk (σ:=Nat) (fun i=>i≤N∧∀j,j<i→p j=true) st (fun _=>H) (fun i=>N-i) (fun _=>if (List.range N).all p then yes else no) (fun i rec hi hrec=>?_) 0 ⟨YL _,fun j hj=>by omega⟩ (by omega)
 by_cases h:i<N
 ·rw [turn rec i h]
  cases hp:p i with
  | true=>exact hrec (i+1) ⟨h,fun j hj=>by
    by_cases e:j=i
    ·rw [e];exact hp
    ·exact hi.2 j (by omega)⟩ (by omega)
  | false=>
   have:(List.range N).all p=false:=by rw [Qae];exact ⟨i,by simpa using h,by simp [hp]⟩
   simp [this]
 ·have e:i=N:=by omega
  subst e
  have:(List.range i).all p=true:=by rw [YH];intro j hj;exact hi.2 j (by simpa using hj)
  rw [last,this];rfl
theorem Q3 {G:LK→LK} (N:Nat) (p:Nat→Bool) (st:Nat→List Ab) (H:Aa) (none':Out) (found:Nat→Out) (hN:N<1152921504606846976)
  (turn:∀(rec:LK) (i:Nat),i<N→G rec (st i) H=if p i then found i else rec (st (i+1)) H) (last:∀rec:LK,G rec (st N) H=none') :
  Ao G AK (st 0) H=match (List.range N).find? p with | some i=>found i | none=>none':=by
 refine Bk (σ:=Nat) (fun i=>i≤N∧∀j,j<i→p j=false) st (fun _=>H) (fun i=>N-i) (fun _=>match (List.range N).find? p with | some i=>found i | none=>none') (fun i rec hi hrec=>?_) 0 ⟨YL _,fun j hj=>by omega⟩ (by omega)
 by_cases h:i<N
 ·rw [turn rec i h]
  cases hp:p i with
  | false=>exact hrec (i+1) ⟨h,fun j hj=>by
    by_cases e:j=i
    ·rw [e];exact hp
    ·exact hi.2 j (by omega)⟩ (by omega)
  | true=>
   have:(List.range N).find? p=some i:=by
    rw [QaL]
    exact ⟨hp,by simpa using h,fun j hj=>by simp [hi.2 j hj]⟩
   rw [this];rfl
 ·have e:i=N:=by omega
  subst e
  have:(List.range i).find? p=none:=by
   rw [Qal];intro j hj;simp [hi.2 j (by simpa using hj)]
  rw [last,this]
theorem Ct {sz:Nat} {cs:List Ab} {H:Aa} (h:cs.all Ab.isScal=true) (hl:cs.length=sz):Bz true sz (.agg cs) H=some (.ptr H.length 0 0,H++[.cel 0 cs]):=by
 unfold Bz
 rw [CF h]
 simp [hl,alloc_eq h]
theorem BN {v:Ab} {p:Ab→Prop} {k:Ab→Out} (hp:p v):bC (some v) p k=k v:=by
 simp only [bC,Option.bind_some,chk_pos hp]
theorem G8 {cs vs:List Ab} {sz:Nat} (h:cs.length=sz):DF cs 0 sz vs=vs:=by simp [DF,QaR (Qa5 h)]
theorem Is {cs vs:List Ab} {sz g:Nat} {v:Ab} {G:Aa} (hv:v.acells=some vs) (h:cs.length=sz) (h2:vs.length=sz):Af sz (.ptr 0 g 0) v (.cel g cs::G)=some (.cel g vs::G):=by
 rw [UO,hv]
 simp only [Option.bind_some,h2,h,Yy,Yz,and_self,if_true,G8 h]
@[simp] theorem GI {x:Out}:chk True x=x:=chk_pos trivial x
@[simp] theorem Ta {v:Ab} {p:Ab→Prop} {k:Ab→Out}:bC (some v) p k=chk (p v) (k v):=(rfl)
section
variable {x:Option Ab} {p:Bool→Ab→Prop} {k:Ab→Out} {w:Bool}
@[simp] theorem Sw:gkc (.bool true) true x p k=bC x (p true) k:=(rfl)
@[simp] theorem S0:gkc (.bool false) false x p k=bC x (p true) k:=(rfl)
@[simp] theorem Sx:gkc (.bool true) false x p k=chk (p false Cm) (k Cm):=(rfl)
@[simp] theorem Sy:gkc (.bool false) true x p k=chk (p false Cm) (k Cm):=(rfl)
@[simp] theorem XS:gkc (.tup []) w x p k=chk (p false Cm) (k Cm):=(rfl)

end
theorem Qs (p:Nat→Bool):(List.range 4).all p=(p 0&&p 1&&p 2&&p 3):=by
 show (p 0&&(p 1&&(p 2&&(p 3&&true))))=_
 cases p 0 <;> cases p 1 <;> cases p 2 <;> cases p 3 <;> rfl
theorem wrap_nat {n:Nat} (h:n<9223372036854775808):IntKind.i64.wrap (n:Int)=(n:Int):=Am (by omega) (by omega)
theorem Av {n:Nat} (h:n<9223372036854775807):IntKind.i64.wrap ((n:Int)+1)=((n+1:Nat):Int):=by rw [Am] <;> omega
theorem Iq {n:Nat} (h:0<n) (h2:n<9223372036854775807):IntKind.i64.wrap ((n:Int)-1)=((n-1:Nat):Int):=by rw [Am] <;> omega
@[simp] theorem GP {a b:Int}:(a == b)=decide (a=b):=by rw [YD];simp
@[simp] theorem L8 {a b:Int}:(a != b) = !decide (a=b):=by rw [YD];simp
structure Nd where
 lv:Int
 k0:Int
 k1:Int
 k2:Int
 k3:Int
deriving DecidableEq
def Nd.kid (x:Nd) (k:Nat):Int:=match k with | 0=>x.k0 | 1=>x.k1 | 2=>x.k2 | _=>x.k3
def cNd (x:Nd):List Ab:=[.int .i64 x.lv,.int .i64 x.k0,.int .i64 x.k1,.int .i64 x.k2,.int .i64 x.k3]
instance:Sz cNd 5:=⟨fun _=>rfl⟩
section
variable {x y:Nd} {H:Aa} {k:Nat}
@[simp] theorem BY:(cNd x)[0]? = some (.int .i64 x.lv):=(rfl)
theorem Dq (h:k<4):(cNd x)[1+k]? = some (.int .i64 (x.kid k)):=by
 match k,h with
 | 0,_=>rfl
 | 1,_=>rfl
 | 2,_=>rfl
 | 3,_=>rfl
theorem Dy {K:IntKind} {cs:List Ab} {o:Nat} (h:k<4):BQ 4 1 (.cptr cs o) (.int K (k:Int))=some (.cptr cs (o+k*1)):=by
 unfold BQ
 simp only []
 rw [if_pos ⟨by omega,by omega⟩];simp
theorem Jg:Ac true 5 (.cptr (cNd x) 0) H=some (.agg (cNd x)):=(rfl)
theorem Fd:(cNd x).all Ab.isScal=true:=(rfl)
theorem Ys:(Ab.agg (cNd x)).acells=some (cNd x):=(rfl)
theorem R8:BM (cNd x) (cNd y)=some (decide (x=y)):=by
 obtain ⟨a,b,c,d,e⟩:=x
 obtain ⟨a',b',c',d',e'⟩:=y
 simp only [cNd,BM,Hs,if_true,Option.bind_some,Y3]
 rw [YD];simp
theorem eq_nd:Ae (.flat 5) .eql (.agg (cNd x)) (.agg (cNd y))=some (.bool (decide (x=y))):=by
 show (eqA (.flat 5) (.agg (cNd x)) (.agg (cNd y))).map Ab.bool=_
 have h:eqA (.flat 5) (.agg (cNd x)) (.agg (cNd y))=some (decide (x=y)):=by unfold eqA;simp only [];rw [if_pos (show (cNd x).length=5 from rfl),R8]
 rw [h];rfl
theorem neq_nd:Ae (.flat 5) .neq (.agg (cNd x)) (.agg (cNd y))=some (.bool (!decide (x=y))):=by
 show (eqA (.flat 5) (.agg (cNd x)) (.agg (cNd y))).map (fun b=>Ab.bool (!b))=_
 have h:eqA (.flat 5) (.agg (cNd x)) (.agg (cNd y))=some (decide (x=y)):=by unfold eqA;simp only [];rw [if_pos (show (cNd x).length=5 from rfl),R8]
 rw [h];rfl

end
theorem Kk (x:Nd):AO 5 [.agg (cNd x)]=some (.sl (enL cNd [x]) .tight):=by
 simp [AO,De,Ys];simp [cNd,Oe,Cb,enL]
def IS:Ab→Bool
 | .bool _=>true
 | .int _ _=>true
 | .str _=>true
 | .sl _ .no=>true
 | .sl _ .tight=>true
 | _=>false
class Pl {α:Type} (f:α→List Ab):Prop where
 pl:∀a,(f a).all IS=true
instance:Pl cB:=⟨fun _=>rfl⟩
instance:Pl cU:=⟨fun _=>rfl⟩
instance:Pl cI:=⟨fun _=>rfl⟩
instance:Pl cN:=⟨fun _=>rfl⟩
instance:Pl cY:=⟨fun _=>rfl⟩
instance:Pl cS:=⟨fun _=>rfl⟩
instance:Pl cNd:=⟨fun _=>rfl⟩
theorem plnC_scal {c:Ab} (h:IS c=true):c.isScal=true:=by cases c <;> first | rfl | (simp [IS]at h)
theorem plnC_imm {c:Ab} (h:IS c=true):Cb c=true:=by
 cases c <;> first | rfl | (simp [IS]at h)
 rename_i es tk;cases tk <;> first | rfl | (simp [IS]at h)
theorem plnC_frz {c:Ab} {H:Aa} {n d:Nat} (h:IS c=true):frz H n (d+1) c=some c:=by
 cases c <;> first | (simp [frz];done) | (simp [IS]at h)
 rename_i es tk;cases tk <;> first | (simp [frz];done) | (simp [IS]at h)
theorem Hh {H:Aa} {n d:Nat}:∀ {cs:List Ab},cs.all IS=true→Gi H n (d+2) cs=some cs
 | [],_=>by simp [Gi]
 | c::cs,h=>by
  simp only [List.all_cons,Y7]at h
  simp [Gi,plnC_frz h.1,Hh h.2]
section
variable {α:Type} {f:α→List Ab} {l:List α} {sz i n:Nat} {a:α} {H:Aa} {id:Nat} {K:IntKind}
def flat (f:α→List Ab) (l:List α):List Ab:=l.flatMap f
@[simp] theorem flat_nil:flat f []=[]:=(rfl)
theorem DV:flat f (a::l)=f a++flat f l:=by simp [flat]
theorem Ts {m:List α}:flat f (l++m)=flat f l++flat f m:=by simp [flat]
theorem FI [hf:Sz f sz]:∀(l:List α),(flat f l).length=l.length*sz
 | []=>by simp
 | a::l=>by
  have:=FI l
  simp only [DV,Y2,hf.len,List.length_cons,QaO]
  omega
theorem Pd [hp:Pl f]:∀(l:List α),(flat f l).all IS=true
 | []=>rfl
 | a::l=>by simp only [DV,QaV,Y7];exact ⟨hp.pl a,Pd l⟩
theorem Rt [hp:Pl f] (l:List α):(flat f l).all Cb=true:=by
 rw [YH];intro c hc;exact plnC_imm (YH.1 (Pd (f:=f) l) c hc)
theorem SG [hf:Sz f sz]:∀(l:List α) (i:Nat),(flat f l).drop (i*sz)=flat f (l.drop i)
 | [],i=>by simp
 | a::l,0=>by simp
 | a::l,i+1=>by
  have:=SG l i
  rw [List.drop_succ_cons,←this,DV,QaO,QaP,List.drop_append,hf.len,QaR (by rw [hf.len];omega),List.nil_append]
  congr 1;omega
theorem Pc [hf:Sz f sz]:∀(l:List α) (i:Nat),(flat f l).take (i*sz)=flat f (l.take i)
 | [],i=>by simp
 | a::l,0=>by simp
 | a::l,i+1=>by
  have:=Pc l i
  rw [List.take_succ_cons,DV,DV,←this,QaO,QaP,List.take_append,hf.len,Y6 (by rw [hf.len];omega)]
  congr 2;omega
theorem Up [hf:Sz f sz] (h:i<l.length):((flat f l).drop (i*sz)).take sz=f l[i]:=by
 rw [SG,YS h,DV,ZF (by rw [hf.len];omega),Y6 (by rw [hf.len];omega)]
theorem VW [hf:Sz f sz] (h:i<l.length):DF (flat f l) (i*sz) sz (f a)=flat f (l.set i a):=by
 have e:l.set i a=l.take i++a::l.drop (i+1):=by rw [Qap,if_pos h]
 have e2:i*sz+sz=(i+1)*sz:=by rw [QaO]
 unfold DF
 rw [e,e2,Pc,SG,Ts,DV]
 simp
theorem Lb [hf:Sz f sz] (h:i<l.length):i*sz+sz≤(flat f l).length:=by
 rw [FI,←QaO];exact Za _ h
theorem CJ {g off cap:Nat} {ex:Bool} (h:i<n):Au sz (.ms id g off n cap sz ex) (.int K (i:Int))=some (.ptr id g (off+i*sz)):=by
 unfold Au
 simp only []
 rw [if_pos ⟨trivial,by omega,by omega⟩];simp
theorem Ih [hf:Sz f 1] (hg:A7 H id 0=some (flat f l)) (h:i<l.length):Ac false 1 (.ptr id 0 i) H=(f l[i])[0]? := by
 have h1:=Up (f:=f) (sz:=1) h
 have h2:=Lb (f:=f) (sz:=1) h
 simp only [YB]at h1 h2
 simp only [Ac,hg,Option.bind_some,Y4,if_false]
 rw [←h1];simp
theorem Ri [hf:Sz f sz] (hg:A7 H id 0=some (flat f l)) (h:i<l.length):Ac true sz (.ptr id 0 (i*sz)) H=some (.agg (f l[i])):=by
 simp only [Ac,hg,Option.bind_some,if_true,Lb h,Up h]
theorem DP [hf:Sz f sz] {v:Ab} (hg:A7 H id 0=some (flat f l)) (h:i<l.length) (hv:v.acells=some (f a)):Af sz (.ptr id 0 (i*sz)) v H=some (Gy H id 0 (flat f (l.set i a))):=by
 simp only [Af,hg,Option.bind_some,hv,hf.len,Lb h,and_self,if_true,VW h]
theorem X1:∀(n:Nat),N3 n (f a)=flat f (List.replicate n a)
 | 0=>rfl
 | n+1=>by
  have:=X1 n
  simp only [N3,List.replicate_succ,List.flatten_cons,DV]at this ⊢
  rw [this]
theorem Fo [hf:Sz f sz] [hp:Pl f] {bytes:Nat} (hb:n*bytes≤140737488355328) (hn:n≤140737488355328):Fx sz bytes (some (f a)) (.int .i64 (n:Int)) (.int .i64 (n:Int)) H=some (.ms H.length 0 0 n n sz true,H++[.cel 0 (flat f (List.replicate n a))]):=by
 have h1:((n:Int)*(bytes:Int))≤140737488355328:=by
   have:((n*bytes:Nat):Int)≤140737488355328:=by omega
   simpa using this
 have h2:(f a).all Ab.isScal=true:=by rw [YH];intro c hc;exact plnC_scal (YH.1 (hp.pl a) c hc)
 unfold Fx
 simp only [Option.bind_some]
 rw [if_pos ⟨h2,hf.len a,by omega,by omega,h1,by omega⟩]
 simp only [Int.toNat_natCast,X1]
theorem On [hf:Sz f sz]:∀(l:List α),GH sz l.length (flat f l)=enL f l
 | []=>rfl
 | a::l=>by
  have:=On l
  simp only [List.length_cons,GH,DV,enL,ZT,ZF (Qa5 (hf.len a).symm),Y6 (Qa5 (hf.len a)),List.drop_left' (hf.len a)]
  rw [this];rfl
theorem Us [hf:Sz f sz] [hp:Pl f] {b d cap:Nat} {ex:Bool} (hg:A7 H id 0=some (flat f l)) (hi:b≤id):Hm H b (d+3) (.ms id 0 0 l.length cap sz ex)=some (.sl (enL f l) .no):=by
 have h1:¬id<b:=by omega
 unfold Hm
 simp only [frz,h1,if_false,hg,Option.bind_some,ZJ,Yy,FI,Yz,if_true,Y6 (Qa5 (FI (f:=f) l)),Hh (Pd (f:=f) l),Rt (f:=f) l,On,Option.map_some,forget,Eu,fgt]
@[simp] theorem RX {G:Aa} {g:Nat} {cs:List Ab}:Gy (H++G) H.length g cs=H++Gy G 0 g cs:=UT (k:=0)
@[simp] theorem setC_appK {G:Aa} {g k:Nat} {cs:List Ab}:Gy (H++G) (H.length+k) g cs=H++Gy G k g cs:=UT
@[simp] theorem RW {G:Aa} {g g':Nat} {c cs:List Ab}:Gy (.cel g' c::G) 0 g cs=.cel g cs::G:=(rfl)
@[simp] theorem setC_suc {G:Aa} {g k:Nat} {b:Blk} {cs:List Ab}:Gy (b::G) (k+1) g cs=b::Gy G k g cs:=Xy

end
theorem AE {H:Aa} {p:Nat} {cs:List Ab} (hg:H[p]? = some (.cel 0 cs)):A7 H p 0=some cs:=by simp [A7,hg]
theorem BG {a:Bool} {sz p g o:Nat} {H G:Aa} {v:Ab} (h:Ac a sz (.ptr p g o) H=some v):Ac a sz (.ptr p g o) (H++G)=some v:=by
 unfold Ac at h ⊢
 simp only at h ⊢
 cases hg:A7 H p g with
 | none=>rw [hg]at h;cases h
 | some cs=>
  have:A7 (H++G) p g=some cs:=by
   have hlt:p<H.length:=by
    by_cases hl:p<H.length
    ·exact hl
    ·unfold A7 at hg;rw [YA (by omega)]at hg;cases hg
   rw [get_old hlt];exact hg
  rw [this];rw [hg]at h;exact h
theorem Ch {H:Aa} {p:Nat} {cs cs':List Ab} (hg:H[p]? = some (.cel 0 cs)):Gy H p 0 cs'=H.set p (.cel 0 cs'):=by simp [Gy,hg]
theorem Ap {cs:List Ab} {B:Aa}:(B++[Blk.cel 0 cs])[B.length]? = some (.cel 0 cs):=by simp
theorem Bd {B:Aa} {b b':Blk}:(B++[b]).set B.length b'=B++[b']:=by simp
end Go.Gm
