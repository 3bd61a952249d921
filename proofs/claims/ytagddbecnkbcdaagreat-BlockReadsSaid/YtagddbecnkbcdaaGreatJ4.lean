/- Texts of this proof, joined. -/
import Derived.Test.YtagddbecnkbcdaaGreatJ2
import Derived.Test.YtagddbecnkbcdaaGreatJ3
import Derived.Test.YtagddbecnkbcdaaGreatChecked
import Derived.KernelRfl
import Derived.ProofKit
import Derived.OpenShut
import Derived.JoinedCond
import Derived.Carry
set_option linter.all false
namespace Go.Gm
noncomputable def Sh.f74 (b:Ab)(c:Aa):Out:=
 (Af .none .lss b (.int .i32 48)).bind λa=>
 gk a false (some b) λd=>
 gk a false (Af .none .gtr d (.int .i32 57)) λe=>
 (A5 a (.bool true) e).bind λf=>
 rK c f c
noncomputable def Sh.fc (b:Ab)(c:Aa):Out:=
 (A7 b).bind λd=>
 (Af .none .eql d (.i6 0)).bind λa=>
 gk a false (some b) λe=>
 gk a false (some b) λf=>
 gk a false (A7 f) λg=>
 gk a false (Af .none .sub g (.i6 1)) λh=>
 gk a false (Aw 1 e h) λi=>
 gk a false (Ad false 1 i c) λj=>
 gk a false (Af .none .neq j (.int .u32 0)) λk=>
 (A5 a (.bool true) k).bind λl=>
 rK c l c
noncomputable def Sh.f1a (b:Aa)(d:LK)(a:Ab)(e:Aa):Out:=
 bK b (Sh.fc a e) λf c=>
 (unA .not f).bind λg=>
 Ak g (
 (A7 a).bind λh=>
 (Af .none .sub h (.i6 1)).bind λi=>
 (Bw 1 a none (some i) none).bind λj=>
 d [j] c) (
 rKN b a c)
noncomputable def Sh.f2 (b:Ab)(a:Aa):Out:=
 Am (λc vs H=>Sh.f1a a c (ag vs 0) H) AM [b] a
noncomputable def Sh.fx (a:Aa):Out:=
 Al (Ax (some [(.i6 0),(.i6 0)]) a) λb d=>
 (Az (some [(.i6 0),(.i6 0)]) [(0,1,(.i6 1000)),(1,1,(.i6 100000))]).bind λe=>
 bP a (Av (Ae 2 b e d)) λ_ c=>
 (Ad true 2 b c).bind λf=>rP a f c
noncomputable def Sh.f3t (b d:Ab)(c:Aa):Out:=
 (Af .none .geq b (.i6 0)).bind λa=>
 gk a true (some b) λe=>
 gk a true (some d) λf=>
 gk a true (Af .none .leq e f) λg=>
 (A5 a g (.bool false)).bind λh=>
 rK c h c
noncomputable def Sh.f3u (f:Ab)(a:Aa):Out:=
 Al (Bu true 2 f a) λd e=>
 (Ac 0 d).bind λg=>
 (Ad false 1 g e).bind λh=>
 bP a (Sh.f3t h (.i6 1000) e) λb c=>
 gk b true (Ac 1 d) λi=>
 gk b true (Ad false 1 i c) λj=>
 gbP a b true c (Sh.f3t j (.i6 100000) c) λk l=>
 (A5 b k (.bool false)).bind λm=>
 rP a m l
noncomputable def Sh.f75 (c:Aa)(h:LK)(d e f g a:Ab)(b:Aa):Out:=
 (Af .none .lss a g).bind λi=>
 Ak i (
 (BI d a).bind λj=>
 (BI e a).bind λk=>
 (Af .none .neq j k).bind λl=>
 Ak l (
 rK c a b) (
 (Af .none .add a (.i6 1)).bind λm=>
 h [d,e,f,g,m] b)) (
 rK c f b)
noncomputable def Sh.f3v (a b:Ab)(c:Aa):Out:=
 (BM a).bind λe=>
 (BM b).bind λf=>
 (HJ RV e [f]).bind λd=>
 Am (λg vs H=>Sh.f75 c g (ag vs 0) (ag vs 1) (ag vs 2) (ag vs 3) (ag vs 4) H) AM [a,b,d,d,(.i6 0)] c
noncomputable def Sh.fp (b:Ab)(a:Aa):Out:=
 (Aj b).bind λc=>
 (Ac 1 c).bind λd=>
 bC (Ad false 1 d a) (λ_=>True) λe=>
 (Aj b).bind λf=>
 (Ac 0 f).bind λg=>
 bC (Ad false 1 g a) (λ_=>True) λh=>
 (BM h).bind λi=>
 (Af .none .eql e i).bind λj=>
 rK a j a
noncomputable def Sh.f8z (a:Aa)(b:Aa):Out:=
 (Az (some [(.i6 0),(.str [])]) [(0,1,(.i6 2)),(1,1,(.str []))]).bind λc=>
 (Sm Ht c).bind λd=>
 bK a (panA d b) λ_ e=>
 rK a (.tup []) e
noncomputable def Sh.f5 (c d:Ab)(a:Aa):Out:=
 AI (λj1=>
 bK a (Sh.fp c a) λe b=>
 Ak e (
 (Az (some [(.i6 0),(.str [])]) [(0,1,(.i6 3)),(1,1,d)]).bind λf=>
 (Sm Ht f).bind λg=>
 bK a (panA g b) λ_ h=>
 j1 [] h) (
 j1 [] b)) (λvs H=>Sh.f8z a H)
noncomputable def Sh.fd (b c g:Ab)(a:Aa):Out:=
 (Aj b).bind λh=>
 (Ac 0 h).bind λi=>
 bC (Ad false 1 i a) (λ_=>True) λj=>
 (Aj b).bind λk=>
 (Ac 1 k).bind λl=>
 bC (Ad false 1 l a) (λ_=>True) λm=>
 (BS j (some m) none).bind λn=>
 AN (Sh.f3v n c a) λd e=>
 (Aj b).bind λo=>
 (Ac 1 o).bind λp=>
 (Ad false 1 p e).bind λq=>
 (Af .none .add q d).bind λr=>
 (Aj b).bind λs=>
 (Ac 1 s).bind λt=>
 bK a (Av (Ae 1 t r e)) λ_ f=>
 (BM c).bind λu=>
 (Af .none .lss d u).bind λv=>
 Ak v (
 (BS c (some d) none).bind λw=>
 (Af .none .add w g).bind λx=>
 bK a (Sh.f5 b x f) λz y=>
 rK a (.tup []) y) (
 rK a (.tup []) f)
noncomputable def Sh.f4 (c e:Ab)(d:Aa):Out:=
 AN (Sh.fp c d) λf b=>
 (unA .not f).bind λa=>
 gk a true (some e) λg=>
 gk a true (some c) λh=>
 gk a true (Aj h) λi=>
 gk a true (Ac 0 i) λj=>
 gkc a true (Ad false 1 j b) (λ_ _=>True) λk=>
 gk a true (some c) λl=>
 gk a true (Aj l) λm=>
 gk a true (Ac 1 m) λn=>
 gkc a true (Ad false 1 n b) (λ_ _=>True) λo=>
 gk a true (BI k o) λp=>
 gbN a true b (Sh.f2b g p b) λq r=>
 gk a true (Af .none .geq q (.i6 0)) λs=>
 (A5 a s (.bool false)).bind λt=>
 rK d t r
noncomputable def Sh.f8e (a:Aa)(b:Ab)(c:Aa):Out:=
 (Aj b).bind λd=>
 (Ac 1 d).bind λe=>
 (Ad false 1 e c).bind λf=>
 (Af .none .add f (.i6 1)).bind λg=>
 (Aj b).bind λh=>
 (Ac 1 h).bind λi=>
 bK a (Av (Ae 1 i g c)) λ_ j=>
 rK a (.tup []) j
noncomputable def Sh.f76 (b:Aa)(a d:Ab)(e:Aa):Out:=
 AI (λj2=>
 bK b (Sh.f4 a (.str [10]) e) λf c=>
 (unA .not f).bind λg=>
 Ak g (
 (Af .none .add (.str [10]) d).bind λh=>
 bK b (Sh.f5 a h c) λj i=>
 j2 [a] i) (
 j2 [a] c)) (λvs H=>Sh.f8e b (ag vs 0) H)
noncomputable def Sh.f1p (a d:Ab)(b:Aa):Out:=
 bK b (Sh.fp a b) λf e=>
 Ak f (
 rK b (.tup []) e) (
 AI (λj1=>
 bK b (Sh.f4 a (.str [13]) e) λg c=>
 Ak g (
 (Aj a).bind λh=>
 (Ac 1 h).bind λi=>
 (Ad false 1 i c).bind λj=>
 (Af .none .add j (.i6 1)).bind λk=>
 (Aj a).bind λl=>
 (Ac 1 l).bind λm=>
 bK b (Av (Ae 1 m k c)) λ_ n=>
 j1 [a,d] n) (
 j1 [a,d] c)) (λvs H=>Sh.f76 b (ag vs 0) (ag vs 1) H))
noncomputable def Sh.f77 (b:Aa)(f:LK)(a:Ab)(g:Aa):Out:=
 bK b (Sh.fp a g) λh e=>
 (unA .not h).bind λc=>
 gk c true (some a) λi=>
 gbK b c true e (Sh.f4 i (.str [13,10]) e) λj d=>
 gk c true (unA .not j) λk=>
 (A5 c k (.bool false)).bind λl=>
 Ak l (
 (Aj a).bind λm=>
 (Ac 1 m).bind λn=>
 (Ad false 1 n d).bind λo=>
 (Af .none .add o (.i6 1)).bind λp=>
 (Aj a).bind λq=>
 (Ac 1 q).bind λr=>
 bK b (Av (Ae 1 r p d)) λ_ s=>
 f [a] s) (
 rK b (.tup []) d)
noncomputable def Sh.f3w (b:Ab)(a:Aa):Out:=
 Am (λc vs H=>Sh.f77 a c (ag vs 0) H) AM [b] a
noncomputable def Sh.f3x (b:Ab)(c:Aa):Out:=
 (Af .none .gtr b (.int .u8 32)).bind λa=>
 gk a true (some b) λd=>
 gk a true (Af .none .lss d (.int .u8 127)) λe=>
 (A5 a e (.bool false)).bind λf=>
 rK c f c
noncomputable def Sh.f78 (c:Aa)(b d:Ab)(a:Aa):Out:=
 (Aj b).bind λe=>
 (Ac 0 e).bind λf=>
 bC (Ad false 1 f a) (λ_=>True) λg=>
 (Aj b).bind λh=>
 (Ac 1 h).bind λi=>
 bC (Ad false 1 i a) (λ_=>True) λj=>
 (BS g (some d) (some j)).bind λk=>
 rK c k a
noncomputable def Sh.f79 (g:Aa)(i:LK)(a h d:Ab)(j:Aa):Out:=
 AN (Sh.fp a j) λk e=>
 (unA .not k).bind λc=>
 gk c true (some a) λl=>
 gk c true (Aj l) λm=>
 gk c true (Ac 1 m) λn=>
 gkc c true (Ad false 1 n e) (λ_ _=>True) λo=>
 gk c true (some d) λp=>
 gk c true (Af .none .sub o p) λq=>
 gk c true (Af .none .lss q (.i6 40)) λr=>
 (A5 c r (.bool false)).bind λb=>
 gk b true (some a) λs=>
 gk b true (Aj s) λt=>
 gk b true (Ac 0 t) λu=>
 gkc b true (Ad false 1 u e) (λ_ _=>True) λv=>
 gk b true (some a) λw=>
 gk b true (Aj w) λx=>
 gk b true (Ac 1 x) λy=>
 gkc b true (Ad false 1 y e) (λ_ _=>True) λz=>
 gk b true (BI v z) λaa=>
 gbN b true e (Sh.f3x aa e) λab f=>
 (A5 b ab (.bool false)).bind λac=>
 Ak ac (
 (Aj a).bind λad=>
 (Ac 1 ad).bind λae=>
 (Ad false 1 ae f).bind λaj=>
 (Af .none .add aj (.i6 1)).bind λak=>
 (Aj a).bind λal=>
 (Ac 1 al).bind λam=>
 bK g (Av (Ae 1 am ak f)) λ_ an=>
 i [a,h,d] an) (
 AI (λj2=>
 (Aj a).bind λap=>
 (Ac 1 ap).bind λaq=>
 (Ad false 1 aq f).bind λar=>
 (Af .none .eql ar d).bind λau=>
 Ak au (
 (Af .none .add (.str [97]) h).bind λav=>
 bK g (Sh.f5 a av f) λax aw=>
 j2 [a,d] aw) (
 j2 [a,d] f)) (λvs H=>Sh.f78 g (ag vs 0) (ag vs 1) H))
noncomputable def Sh.f1q (b c:Ab)(a:Aa):Out:=
 (Aj b).bind λd=>
 (Ac 1 d).bind λe=>
 (Ad false 1 e a).bind λf=>
 Am (λg vs H=>Sh.f79 a g (ag vs 0) (ag vs 1) (ag vs 2) H) AM [b,c,f] a
noncomputable def Sh.f2c (e:Ab)(a:Aa):Out:=
 (Az (some [(.i6 0),(.str [])]) [(0,1,(.i6 4)),(1,1,(.str []))]).bind λb=>
 (Sm Ht b).bind λc=>
 bK a (panA c a) λ_ d=>
 rK a (.tup []) d
noncomputable def Sh.f3y (c b:Ab)(d:Aa):Out:=
 (BM c).bind λe=>
 (BM b).bind λf=>
 (Af .none .geq e f).bind λa=>
 gk a true (some c) λg=>
 gk a true (some b) λh=>
 gk a true (BM h) λi=>
 gk a true (BS g none (some i)) λj=>
 gk a true (some b) λk=>
 gk a true (Af .none .eql j k) λl=>
 (A5 a l (.bool false)).bind λm=>
 rK d m d
noncomputable def Sh.f7a (b c:Ab)(a:Aa):Out:=
 bK a (Sh.f3y b c a) λe d=>
 (unA .not e).bind λf=>
 Ak f (
 rK a (.tup [b,(.bool false)]) d) (
 (BM c).bind λg=>
 (BS b (some g) none).bind λh=>
 rK a (.tup [h,(.bool true)]) d)
noncomputable def Sh.f3z (c d:Ab)(a:Aa):Out:=
 bK a (Sh.f7a c d a) λb e=>
 (Aq 0 b).bind λf=>
 (Aq 1 b).bind λg=>
 rK a (.tup [f,g]) e
noncomputable def Sh.f40 (d c:Ab)(a:Aa):Out:=
 (Af .none .lss c (.i6 0)).bind λb=>
 gk b false (some c) λh=>
 gk b false (some d) λi=>
 gk b false (BM i) λj=>
 gk b false (Af .none .gtr h j) λk=>
 (A5 b (.bool true) k).bind λl=>
 Ak l (
 rK a (.i6 0) a) (
 (BS d (some c) none).bind λe=>
 bK a (Sh.f2a e (.fn 235 []) a) λf g=>
 (Af .none .lss f (.i6 0)).bind λm=>
 Ak m (
 (BM e).bind λn=>
 rK a n g) (
 rK a f g))
noncomputable def Sh.f7b (a:Aa)(k:LK)(e f b g h i c:Ab)(d:Aa):Out:=
 (Af .none .lss c i).bind λl=>
 Ak l (
 (Aw 1 h c).bind λm=>
 (Ad false 1 m d).bind λn=>
 (AA .u64 n).bind λo=>
 (AA .u64 f).bind λp=>
 (Af .none .mul o p).bind λq=>
 (Af .none .add g q).bind λj=>
 (AA .u32 j).bind λr=>
 (Aw 1 b c).bind λs=>
 bP a (Av (Ae 1 s r d)) λ_ t=>
 (Af .none .shr j (.int .u64 32)).bind λu=>
 (Af .none .add c (.i6 1)).bind λv=>
 k [e,f,b,u,h,i,v] t) (
 (A7 e).bind λw=>
 (AA .u32 g).bind λx=>
 (Aw 1 b w).bind λy=>
 bP a (Av (Ae 1 y x d)) λ_ z=>
 bP a (Sh.f2 b z) λaa ab=>
 rPN a aa ab)
noncomputable def Sh.f41 (a d e:Ab)(b:Aa):Out:=
 (A7 a).bind λf=>
 (Af .none .add f (.i6 1)).bind λc=>
 Al (F5 1 4 (some [(.int .u32 0)]) c c b) λg h=>
 (AA .u64 e).bind λi=>
 (A7 a).bind λj=>
 Am (λk vs H=>Sh.f7b b k (ag vs 0) (ag vs 1) (ag vs 2) (ag vs 3) (ag vs 4) (ag vs 5) (ag vs 6) H) AM [a,d,g,i,a,j,(.i6 0)] h
noncomputable def Sh.f42 (a:Aa)(i:LK)(b c d e:Ab)(j:Aa):Out:=
 bP a (BV (Oa e j)) λf g=>
 (Aq 0 f).bind λk=>
 Ak k (
 (Aq 2 f).bind λl=>
 (Af .none .sub l (.int .i32 48)).bind λm=>
 (AA .u32 m).bind λn=>
 bP a (Sh.f41 d (.int .u32 10) n g) λo p=>
 i [b,c,o,e] p) (
 (Az (some [(.bool false),(.sl [] .ti)]) [(0,1,c),(1,1,d)]).bind λq=>
 bP a (Av (Ae 2 b q g)) λ_ h=>
 (Cv [Ad true 2 b h,some (.i6 0)]).bind λr=>rPN a r h)
noncomputable def Sh.f7c (a:Aa)(b d g h:Ab)(c:Aa):Out:=
 Ak h (
 (Az (some [(.bool false),(.sl [] .ti)]) []).bind λi=>
 bP a (Av (Ae 2 b i c)) λ_ e=>
 (Cv [Ad true 2 b e,some (.i6 2)]).bind λj=>rPN a j e) (
 (BM d).bind λk=>
 (Af .none .gtr k (.i6 400)).bind λl=>
 Ak l (
 (Az (some [(.bool false),(.sl [] .ti)]) []).bind λm=>
 bP a (Av (Ae 2 b m c)) λ_ f=>
 (Cv [Ad true 2 b f,some (.i6 4)]).bind λn=>rPN a n f) (
 bP a (BV (Nz d c)) λo p=>
 Am (λq vs H=>Sh.f42 a q (ag vs 0) (ag vs 1) (ag vs 2) (ag vs 3) H) AM [b,g,(.sl [] .ti),o] p))
noncomputable def Sh.f43 (f:Ab)(b:Aa):Out:=
 Al (Ax (some [(.bool false),(.sl [] .ti)]) b) λc l=>
 bP b (Sh.f3z f (.str [45]) l) λg h=>
 (Aq 0 g).bind λa=>
 (Aq 1 g).bind λd=>
 AI (λj1=>
 (Af .none .eql a (.str [])).bind λi=>
 Ak i (
 j1 [c,a,d,i] h) (
 bP b (Sh.f40 a (.i6 0) h) λm j=>
 (BM a).bind λn=>
 (Af .none .lss m n).bind λk=>
 Ak k (
 j1 [c,a,d,k] j) (
 (BI a (.i6 0)).bind λo=>
 (Af .none .eql o (.int .u8 48)).bind λe=>
 gk e true (some f) λp=>
 gk e true (Af .none .neq p (.str [48])) λq=>
 (A5 e q (.bool false)).bind λr=>
 j1 [c,a,d,r] j))) (λvs H=>Sh.f7c b (ag vs 0) (ag vs 1) (ag vs 2) (ag vs 3) H)
noncomputable def Sh.f44 (c:Aa)(d:LK)(a e f g h:Ab)(b:Aa):Out:=
 (Aj a).bind λi=>
 (Ac 1 i).bind λj=>
 (Ad false 1 j b).bind λk=>
 (Af .none .add k (.i6 1)).bind λl=>
 (Aj a).bind λm=>
 (Ac 1 m).bind λn=>
 bK c (Av (Ae 1 n l b)) λ_ o=>
 d [a,e,f,g,h] o
noncomputable def Sh.f2d (b:Aa)(c d i:Ab)(a:Aa):Out:=
 (Aj c).bind λj=>
 (Ac 0 j).bind λk=>
 bC (Ad false 1 k a) (λ_=>True) λl=>
 (Aj c).bind λm=>
 (Ac 1 m).bind λn=>
 bC (Ad false 1 n a) (λ_=>True) λo=>
 (BS l (some i) (some o)).bind λp=>
 AN (Sh.f43 p a) λe q=>
 (Aq 0 e).bind λr=>
 Al (Ax (some [(.bool false),(.sl [] .ti)]) q) λf s=>
 AN (Av (Ae 2 f r s)) λ_ g=>
 (Aq 1 e).bind λv=>
 (Ad true 2 f g).bind λt=>
 bK b (Av (Ae 2 d t g)) λ_ h=>
 (Ad true 2 d h).bind λu=>rKN b u h
noncomputable def Sh.f45 (e:Aa)(i:LK)(a h f g d:Ab)(j:Aa):Out:=
 bK e (Sh.f4 a (.str [48,49,50,51,52,53,54,55,56,57]) j) λk b=>
 Ak k (
 AI (λj3=>
 (Aj a).bind λl=>
 (Ac 1 l).bind λm=>
 (Ad false 1 m b).bind λn=>
 (Af .none .gtr n d).bind λc=>
 gk c true (some a) λo=>
 gk c true (Aj o) λp=>
 gk c true (Ac 0 p) λq=>
 gk c true (Ad false 1 q b) λr=>
 gk c true (some d) λs=>
 gk c true (BI r s) λt=>
 gk c true (Af .none .eql t (.int .u8 48)) λu=>
 (A5 c u (.bool false)).bind λv=>
 Ak v (
 bK e (Sh.f5 a (.str []) b) λan w=>
 j3 [a,h,f,g,d] w) (
 (Aj a).bind λx=>
 (Ac 1 x).bind λy=>
 (Ad false 1 y b).bind λz=>
 (Af .none .sub z d).bind λaa=>
 (Af .none .eql aa (.i6 400)).bind λab=>
 Ak ab (
 bK e (Sh.f2c a b) λap ac=>
 j3 [a,h,f,g,d] ac) (
 j3 [a,h,f,g,d] b))) (λvs H=>Sh.f44 e i (ag vs 0) (ag vs 1) (ag vs 2) (ag vs 3) (ag vs 4) H)) (
 AI (λj4=>
 (Aj a).bind λad=>
 (Ac 1 ad).bind λae=>
 (Ad false 1 ae b).bind λaj=>
 (Af .none .eql aj d).bind λak=>
 Ak ak (
 (Af .none .add (.str [49]) h).bind λal=>
 bK e (Sh.f5 a al b) λaq am=>
 j4 [a,f,g] am) (
 j4 [a,f,g] b)) (λvs H=>Sh.f2d e (ag vs 0) (ag vs 1) (ag vs 2) H))
noncomputable def Sh.f46 (c:Aa)(a d e f:Ab)(b:Aa):Out:=
 (Aj a).bind λg=>
 (Ac 1 g).bind λh=>
 (Ad false 1 h b).bind λi=>
 Am (λj vs H=>Sh.f45 c j (ag vs 0) (ag vs 1) (ag vs 2) (ag vs 3) (ag vs 4) H) AM [a,d,e,f,i] b
noncomputable def Sh.f1b (a c d:Ab)(b:Aa):Out:=
 Al (Ax (some [(.bool false),(.sl [] .ti)]) b) λe f=>
 (Aj a).bind λj=>
 (Ac 1 j).bind λk=>
 (Ad false 1 k f).bind λg=>
 AI (λj1=>
 gk c true (some a) λl=>
 gbK b c true f (Sh.f4 l (.str [45]) f) λm h=>
 (A5 c m (.bool false)).bind λn=>
 Ak n (
 (Aj a).bind λo=>
 (Ac 1 o).bind λp=>
 (Ad false 1 p h).bind λq=>
 (Af .none .add q (.i6 1)).bind λr=>
 (Aj a).bind λs=>
 (Ac 1 s).bind λt=>
 bK b (Av (Ae 1 t r h)) λ_ u=>
 bK b (Sh.f4 a (.str [48]) u) λv i=>
 Ak v (
 bK b (Sh.f5 a (.str []) i) λx w=>
 j1 [a,d,e,g] w) (
 j1 [a,d,e,g] i)) (
 j1 [a,d,e,g] h)) (λvs H=>Sh.f46 b (ag vs 0) (ag vs 1) (ag vs 2) (ag vs 3) H)
noncomputable def Sh.f47 (b:Ab)(a:Aa):Out:=
 (Aj b).bind λg=>
 (Ac 0 g).bind λh=>
 (Ac 1 h).bind λi=>
 (Ad false 1 i a).bind λj=>
 (Af .none .add j (.i6 1)).bind λk=>
 (Aj b).bind λl=>
 (Ac 0 l).bind λm=>
 (Ac 1 m).bind λn=>
 bK a (Av (Ae 1 n k a)) λ_ o=>
 (Aj b).bind λp=>
 (Ac 0 p).bind λq=>
 bK a (Sh.f4 q (.str [68]) o) λr d=>
 Ak r (
 (Aj b).bind λs=>
 (Ac 0 s).bind λt=>
 bK a (Sh.f3w t d) λca u=>
 rK a (.tup []) u) (
 (Aj b).bind λv=>
 (Ac 0 v).bind λw=>
 bK a (Sh.f4 w (.str [78]) d) λx c=>
 Ak x (
 (Aj b).bind λy=>
 (Ac 0 y).bind λz=>
 (Ac 1 z).bind λaa=>
 (Ad false 1 aa c).bind λab=>
 (Af .none .add ab (.i6 1)).bind λac=>
 (Aj b).bind λad=>
 (Ac 0 ad).bind λae=>
 (Ac 1 ae).bind λaj=>
 bK a (Av (Ae 1 aj ac c)) λ_ ak=>
 (Aj b).bind λal=>
 (Ac 4 al).bind λam=>
 bK a (Av (Ae 1 am (.str [66,51,47,83,50,51]) ak)) λ_ an=>
 rK a (.tup []) an) (
 (Aj b).bind λap=>
 (Ac 0 ap).bind λaq=>
 bK a (Sh.f4 aq (.str [82]) c) λar e=>
 Ak ar (
 (Aj b).bind λau=>
 (Ac 0 au).bind λav=>
 bK a (Sh.fd av (.str [82,32]) (.str [97]) e) λcb aw=>
 (Aj b).bind λax=>
 (Ac 0 ax).bind λay=>
 bK a (Sh.f1q ay (.str []) aw) λaz a0=>
 (Aj b).bind λa1=>
 (Ac 4 a1).bind λa2=>
 bK a (Av (Ae 1 a2 az a0)) λ_ a3=>
 rK a (.tup []) a3) (
 (Aj b).bind λa4=>
 (Ac 0 a4).bind λa5=>
 bK a (Sh.f4 a5 (.str [80]) e) λa6 f=>
 Ak a6 (
 (Aj b).bind λa7=>
 (Ac 0 a7).bind λa8=>
 bK a (Sh.fd a8 (.str [80,32]) (.str [49,32,49]) f) λcc a9=>
 (Aj b).bind λba=>
 (Ac 0 ba).bind λbb=>
 (Aj b).bind λbc=>
 (Ac 6 bc).bind λbd=>
 bK a (Sh.f1b bb (.bool true) (.str [32,49]) a9) λbe bg=>
 (B8 2 2 bd (.i6 0)).bind λbj=>
 bK a (Av (Ae 2 bj be bg)) λ_ bk=>
 (Aj b).bind λbl=>
 (Ac 0 bl).bind λbm=>
 bK a (Sh.fd bm (.str [32]) (.str [49]) bk) λcd bp=>
 (Aj b).bind λbq=>
 (Ac 0 bq).bind λbr=>
 (Aj b).bind λbt=>
 (Ac 6 bt).bind λbu=>
 bK a (Sh.f1b br (.bool true) (.str []) bp) λbv bw=>
 (B8 2 2 bu (.i6 1)).bind λbz=>
 bK a (Av (Ae 2 bz bv bw)) λ_ b0=>
 (Aj b).bind λb1=>
 (Ac 5 b1).bind λb2=>
 bK a (Av (Ae 1 b2 (.bool true) b0)) λ_ b3=>
 (Aj b).bind λb4=>
 (Ac 10 b4).bind λb5=>
 bK a (Av (Ae 1 b5 (.i6 0) b3)) λ_ b6=>
 rK a (.tup []) b6) (
 (Aj b).bind λb7=>
 (Ac 0 b7).bind λb8=>
 bK a (Sh.f5 b8 (.str [78]) f) λce b9=>
 rK a (.tup []) b9))))
noncomputable def Sh.f2e (b:Ab)(a:Aa):Out:=
 (Qz .eql b).bind λc=>
 Ak c (
 rK a (.sl [] .ti) a) (
 (AL 1 []).bind λd=>
 bK a (BV (Ga BA 1 4 d b a)) λe f=>
 rK a e f)
noncomputable def Sh.f48 (b:Ab)(a:Aa):Out:=
 bP a (Sh.f2e b a) λc d=>
 bP a (Sh.f2 c d) λe f=>
 rPN a e f
noncomputable def Sh.fe (a c:Ab)(b:Aa):Out:=
 Al (Ax (some [(.bool false),(.sl [] .ti)]) b) λd f=>
 gk a true (some c) λg=>
 gk a true (A7 g) λh=>
 gk a true (Af .none .gtr h (.i6 0)) λi=>
 (A5 a i (.bool false)).bind λj=>
 (Az (some [(.bool false),(.sl [] .ti)]) [(0,1,j),(1,1,c)]).bind λk=>
 bP b (Av (Ae 2 d k f)) λ_ e=>
 (Ad true 2 d e).bind λl=>rPN b l e
noncomputable def Sh.f7d (a:Aa)(e b c:Ab)(f:Aa):Out:=
 (Af .none .lss e (.i6 0)).bind λg=>
 (AA .u32 c).bind λh=>
 (Af .none .shr c (.int .u64 32)).bind λi=>
 (AA .u32 i).bind λj=>
 (AL 1 [h,j]).bind λk=>
 bP a (Sh.f48 k f) λl m=>
 bP a (Sh.fe g l m) λn o=>
 bP a (Av (Ae 2 b n o)) λ_ d=>
 (Ad true 2 b d).bind λp=>rPN a p d
noncomputable def Sh.f1c (a:Ab)(b:Aa):Out:=
 Al (Ax (some [(.bool false),(.sl [] .ti)]) b) λc d=>
 (AA .u64 a).bind λe=>
 AI (λj1=>
 (Af .none .lss a (.i6 0)).bind λf=>
 Ak f (
 (unA .neg e).bind λg=>
 j1 [a,c,g] d) (
 j1 [a,c,e] d)) (λvs H=>Sh.f7d b (ag vs 0) (ag vs 1) (ag vs 2) H)
noncomputable def Sh.f49 (c d e:Ab)(a:Aa):Out:=
 (AA .u64 c).bind λf=>
 (AA .u64 d).bind λg=>
 (Af .none .add f g).bind λh=>
 (AA .u64 e).bind λi=>
 (Af .none .add h i).bind λb=>
 (AA .u32 b).bind λj=>
 (Af .none .shr b (.int .u64 32)).bind λk=>
 (AA .u32 k).bind λl=>
 rK a (.tup [j,l]) a
noncomputable def Sh.f8f (a:Aa)(d:LK)(e f b g h i j k l m:Ab)(n:Aa):Out:=
 bP a (Sh.f49 i j g n) λc o=>
 (Aq 0 c).bind λp=>
 (Aq 1 c).bind λq=>
 (Aw 1 b h).bind λr=>
 bP a (Av (Ae 1 r p o)) λ_ s=>
 (Af .none .add m (.i6 1)).bind λt=>
 d [e,f,b,q,k,l,t] s
noncomputable def Sh.f4a (c:Aa)(k:LK)(f d e g h i a:Ab)(b:Aa):Out:=
 (Af .none .lss a i).bind λl=>
 Ak l (
 (Aw 1 h a).bind λm=>
 (Ad false 1 m b).bind λj=>
 AI (λj3=>
 (A7 d).bind λn=>
 (Af .none .lss a n).bind λo=>
 Ak o (
 (Aw 1 d a).bind λp=>
 (Ad false 1 p b).bind λq=>
 j3 [f,d,e,g,a,j,q,h,i,a] b) (
 j3 [f,d,e,g,a,j,(.int .u32 0),h,i,a] b)) (λvs H=>Sh.f8f c k (ag vs 0) (ag vs 1) (ag vs 2) (ag vs 3) (ag vs 4) (ag vs 5) (ag vs 6) (ag vs 7) (ag vs 8) (ag vs 9) H)) (
 (A7 f).bind λr=>
 (Aw 1 e r).bind λs=>
 bP c (Av (Ae 1 s g b)) λ_ t=>
 bP c (Sh.f2 e t) λu v=>
 rPN c u v)
noncomputable def Sh.f7e (c:Aa)(a d:Ab)(e:Aa):Out:=
 (A7 a).bind λf=>
 (Af .none .add f (.i6 1)).bind λb=>
 Al (F5 1 4 (some [(.int .u32 0)]) b b e) λg h=>
 (A7 a).bind λi=>
 Am (λj vs H=>Sh.f4a c j (ag vs 0) (ag vs 1) (ag vs 2) (ag vs 3) (ag vs 4) (ag vs 5) (ag vs 6) H) AM [a,d,g,(.int .u32 0),a,i,(.i6 0)] h
noncomputable def Sh.f4b (a b:Ab)(c:Aa):Out:=
 AI (λj1=>
 (A7 a).bind λd=>
 (A7 b).bind λe=>
 (Af .none .lss d e).bind λf=>
 Ak f (
 j1 [b,a] c) (
 j1 [a,b] c)) (λvs H=>Sh.f7e c (ag vs 0) (ag vs 1) H)
noncomputable def Sh.f2f (a b e:Ab)(c:Aa):Out:=
 (Af .none .sub a b).bind λf=>
 (Af .none .sub f e).bind λd=>
 (unA .xor a).bind λg=>
 (Af .none .and g b).bind λh=>
 (Af .none .xor a b).bind λi=>
 (unA .xor i).bind λj=>
 (Af .none .and j d).bind λk=>
 (Af .none .or h k).bind λl=>
 (Af .none .shr l (.int .u64 31)).bind λm=>
 rK c (.tup [d,m]) c
noncomputable def Sh.f8g (b:Aa)(f:LK)(g a h c i j k:Ab)(d:Aa):Out:=
 (Aw 1 a c).bind λl=>
 (Ad false 1 l d).bind λm=>
 bP b (Sh.f2f m i h d) λe n=>
 (Aq 0 e).bind λo=>
 (Aq 1 e).bind λp=>
 (Aw 1 a c).bind λq=>
 bP b (Av (Ae 1 q o n)) λ_ r=>
 (Af .none .add k (.i6 1)).bind λs=>
 f [g,a,p,j,s] r
noncomputable def Sh.f2g (d:Aa)(h:LK)(b e g f a:Ab)(c:Aa):Out:=
 (Af .none .lss a f).bind λi=>
 Ak i (
 AI (λj2=>
 (A7 b).bind λj=>
 (Af .none .lss a j).bind λk=>
 Ak k (
 (Aw 1 b a).bind λl=>
 (Ad false 1 l c).bind λm=>
 j2 [b,e,g,a,m,f,a] c) (
 j2 [b,e,g,a,(.int .u32 0),f,a] c)) (λvs H=>Sh.f8g d h (ag vs 0) (ag vs 1) (ag vs 2) (ag vs 3) (ag vs 4) (ag vs 5) (ag vs 6) H)) (
 bP d (Sh.f2 e c) λn o=>
 rPN d (.tup [n,(.bool true)]) o)
noncomputable def Sh.f4c (b c:Ab)(a:Aa):Out:=
 bP a (Sh.fw b c a) λf d=>
 (Af .none .lss f (.i6 0)).bind λg=>
 Ak g (
 rPN a (.tup [(.sl [] .ti),(.bool false)]) d) (
 bP a (Sh.f2e b d) λe h=>
 (A7 e).bind λi=>
 Am (λj vs H=>Sh.f2g a j (ag vs 0) (ag vs 1) (ag vs 2) (ag vs 3) (ag vs 4) H) AM [c,e,(.int .u32 0),i,(.i6 0)] h)
noncomputable def Sh.f7f (a:Aa)(c h d:Ab)(b:Aa):Out:=
 (Ac 1 c).bind λi=>
 (Ad false 1 i b).bind λj=>
 (Ac 1 h).bind λk=>
 (Ad false 1 k b).bind λl=>
 bP a (Sh.f4c j l b) λe f=>
 (Aq 0 e).bind λm=>
 (Aq 1 e).bind λs=>
 (Ac 0 c).bind λn=>
 (Ad false 1 n f).bind λo=>
 bP a (Sh.fe o m f) λp q=>
 bP a (Av (Ae 2 d p q)) λ_ g=>
 (Ad true 2 d g).bind λr=>rPN a r g
noncomputable def Sh.fy (k l:Ab)(c:Aa):Out:=
 Al (Bu true 2 k c) λb m=>
 Al (Bu true 2 l m) λd n=>
 Al (Ax (some [(.bool false),(.sl [] .ti)]) n) λe a=>
 (Ac 0 b).bind λo=>
 (Ad false 1 o a).bind λp=>
 (Ac 0 d).bind λq=>
 (Ad false 1 q a).bind λr=>
 (Af .bool .eql p r).bind λs=>
 Ak s (
 (Ac 1 b).bind λt=>
 bC (Ad false 1 t a) (λ_=>True) λu=>
 (Ac 1 d).bind λv=>
 bC (Ad false 1 v a) (λ_=>True) λw=>
 AN (Sh.f4b u w a) λx h=>
 (Ac 0 b).bind λi=>
 bC (Ad false 1 i h) (λg=>Ad false 1 i a=some g/\True) λg=>
 AN (Sh.fe g x h) λy z=>
 bP c (Av (Ae 2 e y z)) λ_ j=>
 (Ad true 2 e j).bind λaa=>rPN c aa j) (
 AI (λj1=>
 (Ac 1 b).bind λab=>
 (Ad false 1 ab a).bind λac=>
 (Ac 1 d).bind λad=>
 (Ad false 1 ad a).bind λae=>
 bP c (Sh.fw ac ae a) λaj f=>
 (Af .none .lss aj (.i6 0)).bind λak=>
 Ak ak (
 (Ad true 2 d f).bind λal=>
 (Ad true 2 b f).bind λam=>
 bP c (Av (Ae 2 b al f)) λ_ an=>
 bP c (Av (Ae 2 d am an)) λ_ ap=>
 j1 [b,d,e] ap) (
 j1 [b,d,e] f)) (λvs H=>Sh.f7f c (ag vs 0) (ag vs 1) (ag vs 2) H))
noncomputable def Sh.f4d (c:Aa)(d:LK)(a e:Ab)(b:Aa):Out:=
 (Aj a).bind λf=>
 (Ac 0 f).bind λg=>
 (Ac 1 g).bind λh=>
 (Ad false 1 h b).bind λi=>
 (Af .none .add i (.i6 1)).bind λj=>
 (Aj a).bind λk=>
 (Ac 0 k).bind λl=>
 (Ac 1 l).bind λm=>
 bK c (Av (Ae 1 m j b)) λ_ n=>
 (Af .none .add e (.i6 1)).bind λo=>
 d [a,o] n
noncomputable def Sh.f7g (p:Aa)(j2:LK)(a m:Ab)(c:Aa):Out:=
 AN (Sh.f1c m c) λq d=>
 (Aj a).bind λr=>
 (Ac 6 r).bind λs=>
 (B8 2 2 s (.i6 0)).bind λn=>
 bC (Ad true 2 n d) (λj=>Ad true 2 n c=some j/\True) λj=>
 AN (Sh.fy j q d) λt g=>
 (Aj a).bind λu=>
 (Ac 10 u).bind λk=>
 bC (Ad false 1 k g) (λh=>Ad false 1 k d=some h/\Ad false 1 k c=some h/\True) λh=>
 AN (Sh.f1c h g) λv l=>
 (Aj a).bind λw=>
 (Ac 6 w).bind λx=>
 (B8 2 2 x (.i6 1)).bind λi=>
 bC (Ad true 2 i l) (λe=>Ad true 2 i g=some e/\Ad true 2 i d=some e/\Ad true 2 i c=some e/\True) λe=>
 AN (Sh.fy e v l) λy o=>
 (Aj a).bind λz=>
 (Ac 11 z).bind λf=>
 bC (Ad false 1 f o) (λb=>Ad false 1 f l=some b/\Ad false 1 f g=some b/\Ad false 1 f d=some b/\Ad false 1 f c=some b/\True) λb=>
 (Az (some [(.bool false),(.sl [] .ti),(.bool false),(.sl [] .ti),(.int .u8 0)]) [(0,2,t),(2,2,y),(4,1,(.int .u8 1))]).bind λaa=>
 (AL 5 [aa]).bind λab=>
 AN (BV (AP A8 5 72 b ab o)) λac ad=>
 (Aj a).bind λae=>
 (Ac 11 ae).bind λaj=>
 bK p (Av (Ae 1 aj ac ad)) λ_ ak=>
 j2 [a,m] ak
noncomputable def Sh.f4e (c:Aa)(g:LK)(a e:Ab)(h:Aa):Out:=
 (Aj a).bind λi=>
 (Ac 0 i).bind λj=>
 bK c (Sh.f4 j (.str [46,42]) h) λk f=>
 Ak k (
 AI (λj2=>
 (Aj a).bind λl=>
 (Ac 0 l).bind λm=>
 bK c (Sh.f4 m (.str [42]) f) λn d=>
 Ak n (
 AI (λj3=>
 (Aj a).bind λo=>
 (Ac 2 o).bind λp=>
 (Ac 0 p).bind λq=>
 bC (Ad false 1 q d) (λ_=>True) λr=>
 (Af .none .geq e r).bind λb=>
 gk b false (some a) λs=>
 gk b false (Aj s) λt=>
 gk b false (Ac 10 t) λu=>
 gkc b false (Ad false 1 u d) (λ_ _=>True) λv=>
 gk b false (some a) λw=>
 gk b false (Aj w) λx=>
 gk b false (Ac 2 x) λy=>
 gk b false (Ac 0 y) λz=>
 gkc b false (Ad false 1 z d) (λ_ _=>True) λaa=>
 gk b false (Af .none .geq v aa) λab=>
 (A5 b (.bool true) ab).bind λac=>
 Ak ac (
 (Aj a).bind λad=>
 (Ac 0 ad).bind λae=>
 bK c (Sh.f2c ae d) λau aj=>
 j3 [a,e] aj) (
 j3 [a,e] d)) (λvs H=>Sh.f7g c j2 (ag vs 0) (ag vs 1) H)) (
 j2 [a,e] d)) (λvs H=>Sh.f4d c g (ag vs 0) (ag vs 1) H)) (
 (Aj a).bind λak=>
 (Ac 10 ak).bind λal=>
 (Ad false 1 al f).bind λam=>
 (Af .none .add am (.i6 1)).bind λan=>
 (Aj a).bind λap=>
 (Ac 10 ap).bind λaq=>
 bK c (Av (Ae 1 aq an f)) λ_ ar=>
 rK c (.tup []) ar)
noncomputable def Sh.f8h (b:Ab)(a:Aa):Out:=
 Am (λc vs H=>Sh.f4e a c (ag vs 0) (ag vs 1) H) AM [b,(.i6 0)] a
noncomputable def Sh.f2h (b:Aa)(c:LK)(a:Ab)(d:Aa):Out:=
 (Aj a).bind λe=>
 (Ac 0 e).bind λf=>
 bK b (Sh.f1p f (.str []) d) λh g=>
 c [a] g
noncomputable def Sh.f4f (b:Aa)(e:LK)(a:Ab)(f:Aa):Out:=
 (Aj a).bind λg=>
 (Ac 0 g).bind λh=>
 bK b (Sh.fp h f) λi d=>
 (unA .not i).bind λj=>
 Ak j (
 AI (λj2=>
 (Aj a).bind λk=>
 (Ac 0 k).bind λl=>
 bK b (Sh.f4 l (.str [35]) d) λm c=>
 Ak m (
 bK b (Sh.f47 a c) λv n=>
 j2 [a] n) (
 (Aj a).bind λo=>
 (Ac 5 o).bind λp=>
 (Ad false 1 p c).bind λq=>
 Ak q (
 bK b (Sh.f8h a c) λw r=>
 j2 [a] r) (
 (Aj a).bind λs=>
 (Ac 0 s).bind λt=>
 bK b (Sh.f5 t (.str []) c) λx u=>
 j2 [a] u))) (λvs H=>Sh.f2h b e (ag vs 0) H)) (
 rK b (.tup []) d)
noncomputable def Sh.f1r (b:Ab)(a:Aa):Out:=
 (Aj b).bind λc=>
 (Ac 0 c).bind λd=>
 bK a (Sh.fd d (.str [35,76,105,102,101,32,49,46,48,53]) (.str []) a) λj e=>
 (Aj b).bind λf=>
 (Ac 0 f).bind λg=>
 bK a (Sh.f1p g (.str []) e) λk h=>
 Am (λi vs H=>Sh.f4f a i (ag vs 0) H) AM [b] h
noncomputable def Sh.f2i:Ab->Aa->Out:=OD (ent 59 (ap1 Sh.f1r) noO)
noncomputable def Sh.f2j (c:Ab)(a:Aa):Out:=
 Al (Bu true 5 c a) λd b=>
 (Ac 4 d).bind λe=>
 (Ad false 1 e b).bind λf=>
 (Af .none .eql f (.int .u8 0)).bind λg=>
 rP a g b
noncomputable def Sh.f2k (g:Ab)(c:Aa):Out:=
 Al (Bu true 2 g c) λd f=>
 (Ac 1 d).bind λh=>
 (Ad false 1 h f).bind λi=>
 bP c (Sh.fc i f) λa e=>
 gk a true (Ac 0 d) λj=>
 gk a true (Ad false 1 j e) λk=>
 gk a true (unA .not k) λl=>
 gk a true (some l) λb=>
 gk b false (Ac 1 d) λm=>
 gk b false (Ad false 1 m e) λn=>
 gk b false (A7 n) λo=>
 gk b false (Af .none .gtr o (.i6 0)) λp=>
 gk a true (A5 b (.bool true) p) λq=>
 (A5 a q (.bool false)).bind λr=>
 rP c r e
noncomputable def Sh.f4g (f:Ab)(b:Aa):Out:=
 Al (Bu true 5 f b) λd e=>
 (Ac 0 d).bind λg=>
 (Ad true 2 g e).bind λh=>
 bP b (Sh.f2k h e) λi c=>
 (unA .not i).bind λa=>
 gk a false (Ac 2 d) λj=>
 gk a false (Ad true 2 j c) λk=>
 gbP b a false c (Sh.f2k k c) λl m=>
 gk a false (unA .not l) λn=>
 (A5 a (.bool true) n).bind λo=>
 rP b o m
noncomputable def AH:Orc:=(ent 148 (ap1 Sh.f2j) (ent 84 (ap1 Sh.f4g) noO))
noncomputable def Sh.fq (b:Aa)(h:LK)(d e f a:Ab)(c:Aa):Out:=
 (Af .none .lss a f).bind λi=>
 Ak i (
 (Aw 5 d a).bind λj=>
 (Ad true 5 j c).bind λk=>
 bK b (DK AH e [k] c) λl g=>
 Ak l (
 rK b a g) (
 (Af .none .add a (.i6 1)).bind λm=>
 h [d,e,f,m] g)) (
 rK b (.i6 (-1)) c)
noncomputable def Sh.ff (a c:Ab)(b:Aa):Out:=
 (A7 a).bind λd=>
 Am (λe vs H=>Sh.fq b e (ag vs 0) (ag vs 1) (ag vs 2) (ag vs 3) H) AM [a,c,d,(.i6 0)] b
noncomputable def Sh.f4h (b c:Ab)(a:Aa):Out:=
 bK a (Sh.ff b c a) λd e=>
 (Af .none .geq d (.i6 0)).bind λf=>
 rK a f e
noncomputable def Sh.f4i (b:Ab)(a:Aa):Out:=
 (Qz .eql b).bind λc=>
 Ak c (
 rK a (.sl [] .ti) a) (
 (AL 5 []).bind λd=>
 bK a (BV (Ga A8 5 72 d b a)) λe f=>
 rK a e f)
noncomputable def Sh.f2l (e:Aa)(f:LK)(a b c:Ab)(d:Aa):Out:=
 (Af .none .lss b c).bind λg=>
 Ak g (
 (Aw 5 a c).bind λh=>
 bC (Ad true 5 h d) (λ_=>True) λi=>
 (Aw 5 a b).bind λj=>
 bC (Ad true 5 j d) (λ_=>True) λk=>
 (Aw 5 a b).bind λl=>
 AN (Av (Ae 5 l i d)) λ_ m=>
 (Aw 5 a c).bind λn=>
 bK e (Av (Ae 5 n k m)) λ_ o=>
 (Af .none .add b (.i6 1)).bind λp=>
 (Af .none .sub c (.i6 1)).bind λq=>
 f [a,p,q] o) (
 rK e (.tup []) d)
noncomputable def Sh.f1s (a:Ab)(b:Aa):Out:=
 (A7 a).bind λc=>
 (Af .none .sub c (.i6 1)).bind λd=>
 Am (λe vs H=>Sh.f2l b e (ag vs 0) (ag vs 1) (ag vs 2) H) AM [a,(.i6 0),d] b
noncomputable def Sh.f2m (f g:Ab)(b:Aa):Out:=
 Al (Bu true 2 f b) λc h=>
 Al (Bu true 2 g h) λd a=>
 (Ac 0 c).bind λi=>
 (Ad false 1 i a).bind λe=>
 gk e true (Ac 0 d) λj=>
 gk e true (Ad false 1 j a) λk=>
 (A5 e k (.bool false)).bind λl=>
 Ak l (
 (Ac 1 d).bind λm=>
 (Ad false 1 m a).bind λn=>
 (Ac 1 c).bind λo=>
 (Ad false 1 o a).bind λp=>
 bP b (Sh.fw n p a) λq r=>
 rP b q r) (
 (Ac 0 c).bind λs=>
 (Ad false 1 s a).bind λt=>
 Ak t (
 rP b (.i6 (-1)) a) (
 (Ac 0 d).bind λu=>
 (Ad false 1 u a).bind λv=>
 Ak v (
 rP b (.i6 1) a) (
 (Ac 1 c).bind λw=>
 (Ad false 1 w a).bind λx=>
 (Ac 1 d).bind λy=>
 (Ad false 1 y a).bind λz=>
 bP b (Sh.fw x z a) λaa ab=>
 rP b aa ab)))
noncomputable def Sh.f7h (d:Aa)(h:LK)(b e f c:Ab)(a:Aa):Out:=
 (Af .none .lss c f).bind λi=>
 Ak i (
 (Aw 1 e c).bind λj=>
 (Ad false 1 j a).bind λg=>
 (Af .none .neq g b).bind λk=>
 Ak k (
 rK d g a) (
 (Af .none .add c (.i6 1)).bind λl=>
 h [b,e,f,l] a)) (
 rK d b a)
noncomputable def Sh.f4j (a:Ab)(b:Aa):Out:=
 (A7 a).bind λc=>
 Am (λd vs H=>Sh.f7h b d (ag vs 0) (ag vs 1) (ag vs 2) (ag vs 3) H) AM [(.i6 0),a,c,(.i6 0)] b
noncomputable def Sh.f1t (j k:Ab)(e:Aa):Out:=
 Al (Bu true 5 j e) λf l=>
 Al (Bu true 5 k l) λg a=>
 (Ac 2 f).bind λm=>
 bC (Ad true 2 m a) (λ_=>True) λn=>
 (Ac 2 g).bind λo=>
 bC (Ad true 2 o a) (λ_=>True) λp=>
 AN (Sh.f2m n p a) λq b=>
 (Ac 0 f).bind λh=>
 bC (Ad true 2 h b) (λc=>Ad true 2 h a=some c/\True) λc=>
 (Ac 0 g).bind λi=>
 bC (Ad true 2 i b) (λd=>Ad true 2 i a=some d/\True) λd=>
 AN (Sh.f2m c d b) λr s=>
 (AL 1 [q,r]).bind λt=>
 AN (Sh.f4j t s) λu v=>
 rP e u v
noncomputable def AD:Orc:=(ent 144 (ap2 Sh.f1t) noO)
noncomputable def Sh.f4k (j:Aa)(k:LK)(l:LK)(b f h g i c:Ab)(d:Aa):Out:=
 (Af .none .gtr c f).bind λa=>
 gk a true (some g) λm=>
 gk a true (some b) λn=>
 gk a true (some c) λo=>
 gk a true (Aw 5 n o) λp=>
 gkc a true (Ad true 5 p d) (λ_ _=>True) λq=>
 gk a true (some b) λr=>
 gk a true (some c) λs=>
 gk a true (Af .none .sub s (.i6 1)) λt=>
 gk a true (Aw 5 r t) λu=>
 gkc a true (Ad true 5 u d) (λ_ _=>True) λv=>
 gbN a true d (DK AD m [q,v] d) λw e=>
 gk a true (Af .none .lss w (.i6 0)) λx=>
 (A5 a x (.bool false)).bind λy=>
 Ak y (
 (Af .none .sub c (.i6 1)).bind λz=>
 (Aw 5 b z).bind λaa=>
 bC (Ad true 5 aa e) (λ_=>True) λab=>
 (Aw 5 b c).bind λac=>
 bC (Ad true 5 ac e) (λ_=>True) λad=>
 (Aw 5 b c).bind λae=>
 AN (Av (Ae 5 ae ab e)) λ_ aj=>
 (Af .none .sub c (.i6 1)).bind λak=>
 (Aw 5 b ak).bind λal=>
 bK j (Av (Ae 5 al ad aj)) λ_ am=>
 (Af .none .sub c (.i6 1)).bind λan=>
 l [b,f,h,g,i,an] am) (
 (Af .none .add i (.i6 1)).bind λap=>
 k [b,f,h,g,ap] e)
noncomputable def Sh.f4l (b:Aa)(e:LK)(f g c h a:Ab)(d:Aa):Out:=
 (Af .none .lss a c).bind λi=>
 Ak i (
 Am (λj vs H=>Sh.f4k b e j (ag vs 0) (ag vs 1) (ag vs 2) (ag vs 3) (ag vs 4) (ag vs 5) H) AM [f,g,c,h,a,a] d) (
 rK b (.tup []) d)
noncomputable def Sh.fr (c a d e:Ab)(b:Aa):Out:=
 (Af .none .add a (.i6 1)).bind λf=>
 Am (λg vs H=>Sh.f4l b g (ag vs 0) (ag vs 1) (ag vs 2) (ag vs 3) (ag vs 4) H) AM [c,a,d,e,f] b
noncomputable def Sh.f4m (f:Aa)(h:LK)(b d e g a:Ab)(c:Aa):Out:=
 (Af .none .lss a g).bind λi=>
 Ak i (
 (Af .none .add d a).bind λj=>
 (Af .none .add e a).bind λk=>
 (Aw 5 b k).bind λl=>
 bC (Ad true 5 l c) (λ_=>True) λm=>
 (Af .none .add d a).bind λn=>
 (Aw 5 b n).bind λo=>
 bC (Ad true 5 o c) (λ_=>True) λp=>
 (Aw 5 b j).bind λq=>
 AN (Av (Ae 5 q m c)) λ_ r=>
 (Af .none .add e a).bind λs=>
 (Aw 5 b s).bind λt=>
 bK f (Av (Ae 5 t p r)) λ_ u=>
 (Af .none .add a (.i6 1)).bind λv=>
 h [b,d,e,g,v] u) (
 rK f (.tup []) c)
noncomputable def Sh.f1u (b c d e g:Ab)(a:Aa):Out:=
 Am (λf vs H=>Sh.f4m a f (ag vs 0) (ag vs 1) (ag vs 2) (ag vs 3) (ag vs 4) H) AM [b,c,d,e,(.i6 0)] a
noncomputable def Sh.f7i (f:Aa)(h:LK)(d b e a c:Ab)(g:Aa):Out:=
 (Af .none .neq a c).bind λi=>
 Ak i (
 (Af .none .gtr a c).bind λj=>
 Ak j (
 (Af .none .sub b a).bind λk=>
 bK f (Sh.f1u d k b c e g) λu l=>
 (Af .none .sub a c).bind λm=>
 h [d,b,e,m,c] l) (
 (Af .none .sub b a).bind λn=>
 (Af .none .add b c).bind λo=>
 (Af .none .sub o a).bind λp=>
 bK f (Sh.f1u d n p a e g) λv q=>
 (Af .none .sub c a).bind λr=>
 h [d,b,e,a,r] q)) (
 (Af .none .sub b a).bind λs=>
 bK f (Sh.f1u d s b a e g) λw t=>
 rK f (.tup []) t)
noncomputable def Sh.f2n (c d a e f:Ab)(b:Aa):Out:=
 (Af .none .sub a d).bind λg=>
 (Af .none .sub e a).bind λh=>
 Am (λi vs H=>Sh.f7i b i (ag vs 0) (ag vs 1) (ag vs 2) (ag vs 3) (ag vs 4) H) AM [c,a,f,g,h] b
noncomputable def Bc (self:Ab->Ab->Ab->Ab->Ab->Aa->Out):Orc:=ent 228 (ap5 self) (ent 144 (ap2 Sh.f1t) (ent 236 (ap5 Sh.f2n) noO))
noncomputable def Sh.f1v (d:Aa)(f:LK)(b e a:Ab)(c:Aa):Out:=
 (Af .none .sub e (.i6 1)).bind λg=>
 (Af .none .lss a g).bind λh=>
 Ak h (
 (Af .none .add a (.i6 1)).bind λi=>
 (Aw 5 b i).bind λj=>
 bC (Ad true 5 j c) (λ_=>True) λk=>
 (Aw 5 b a).bind λl=>
 bC (Ad true 5 l c) (λ_=>True) λm=>
 (Aw 5 b a).bind λn=>
 AN (Av (Ae 5 n k c)) λ_ o=>
 (Af .none .add a (.i6 1)).bind λp=>
 (Aw 5 b p).bind λq=>
 bK d (Av (Ae 5 q m o)) λ_ r=>
 (Af .none .add a (.i6 1)).bind λs=>
 f [b,e,s] r) (
 rK d (.tup []) c)
noncomputable def Sh.f1w (j:Aa)(self:Ab->Ab->Ab->Ab->Ab->Aa->Out)(h:LK)(a b e c f:Ab)(d:Aa):Out:=
 (Af .none .lss c f).bind λk=>
 Ak k (
 (Af .none .add c f).bind λl=>
 (AA .u64 l).bind λm=>
 (Af .none .shr m (.int .u64 1)).bind λn=>
 (AA .i64 n).bind λg=>
 (Aw 5 a g).bind λo=>
 bC (Ad true 5 o d) (λ_=>True) λp=>
 (Aw 5 a b).bind λq=>
 bC (Ad true 5 q d) (λ_=>True) λr=>
 AN (DK (Bc self) e [p,r] d) λs i=>
 (Af .none .lss s (.i6 0)).bind λt=>
 Ak t (
 (Af .none .add g (.i6 1)).bind λu=>
 h [a,b,e,u,f] i) (
 h [a,b,e,c,g] i)) (
 Am (λv vs H=>Sh.f1v j v (ag vs 0) (ag vs 1) (ag vs 2) H) AM [a,c,b] d)
noncomputable def Sh.f1x (d:Aa)(f:LK)(b e a:Ab)(c:Aa):Out:=
 (Af .none .gtr a e).bind λg=>
 Ak g (
 (Af .none .sub a (.i6 1)).bind λh=>
 (Aw 5 b h).bind λi=>
 bC (Ad true 5 i c) (λ_=>True) λj=>
 (Aw 5 b a).bind λk=>
 bC (Ad true 5 k c) (λ_=>True) λl=>
 (Aw 5 b a).bind λm=>
 AN (Av (Ae 5 m j c)) λ_ n=>
 (Af .none .sub a (.i6 1)).bind λo=>
 (Aw 5 b o).bind λp=>
 bK d (Av (Ae 5 p l n)) λ_ q=>
 (Af .none .sub a (.i6 1)).bind λr=>
 f [b,e,r] q) (
 rK d (.tup []) c)
noncomputable def Sh.f1y (j:Aa)(self:Ab->Ab->Ab->Ab->Ab->Aa->Out)(h:LK)(a b e c f:Ab)(d:Aa):Out:=
 (Af .none .lss c f).bind λk=>
 Ak k (
 (Af .none .add c f).bind λl=>
 (AA .u64 l).bind λm=>
 (Af .none .shr m (.int .u64 1)).bind λn=>
 (AA .i64 n).bind λg=>
 (Aw 5 a b).bind λo=>
 bC (Ad true 5 o d) (λ_=>True) λp=>
 (Aw 5 a g).bind λq=>
 bC (Ad true 5 q d) (λ_=>True) λr=>
 AN (DK (Bc self) e [p,r] d) λs i=>
 (Af .none .lss s (.i6 0)).bind λt=>
 (unA .not t).bind λu=>
 Ak u (
 (Af .none .add g (.i6 1)).bind λv=>
 h [a,b,e,v,f] i) (
 h [a,b,e,c,g] i)) (
 Am (λw vs H=>Sh.f1x j w (ag vs 0) (ag vs 1) (ag vs 2) H) AM [a,c,b] d)
noncomputable def Sh.f4n (b:Aa)(self:Ab->Ab->Ab->Ab->Ab->Aa->Out)(g d h e c:Ab)(f:Aa):Out:=
 (Af .none .lss e c).bind λa=>
 gk a true (some c) λi=>
 gk a true (some d) λj=>
 gk a true (Af .none .lss i j) λk=>
 (A5 a k (.bool false)).bind λl=>
 Ak l (
 bK b (self g e c d h f) λn m=>
 rK b (.tup []) m) (
 rK b (.tup []) f)
noncomputable def Sh.f4o (f:Aa)(self:Ab->Ab->Ab->Ab->Ab->Aa->Out)(c g h d a e i:Ab)(j:Aa):Out:=
 AI (λj8=>
 (Af .none .lss g e).bind λb=>
 gk b true (some e) λk=>
 gk b true (some a) λl=>
 gk b true (Af .none .lss k l) λm=>
 (A5 b m (.bool false)).bind λn=>
 Ak n (
 bK f (self c g e a d j) λp o=>
 j8 [c,h,d,a,i] o) (
 j8 [c,h,d,a,i] j)) (λvs H=>Sh.f4n f self (ag vs 0) (ag vs 1) (ag vs 2) (ag vs 3) (ag vs 4) H)
noncomputable def Sh.fi (o:Aa)(self:Ab->Ab->Ab->Ab->Ab->Aa->Out)(p:LK)(b f d g c h l a m n:Ab)(e:Aa):Out:=
 (Af .none .lss a m).bind λr=>
 Ak r (
 (Af .none .add a m).bind λs=>
 (AA .u64 s).bind λt=>
 (Af .none .shr t (.int .u64 1)).bind λu=>
 (AA .i64 u).bind λi=>
 (Af .none .sub n i).bind λv=>
 (Aw 5 b v).bind λw=>
 bC (Ad true 5 w e) (λ_=>True) λx=>
 (Aw 5 b i).bind λy=>
 bC (Ad true 5 y e) (λ_=>True) λz=>
 AN (DK (Bc self) c [x,z] e) λaa q=>
 (Af .none .lss aa (.i6 0)).bind λab=>
 (unA .not ab).bind λac=>
 Ak ac (
 (Af .none .add i (.i6 1)).bind λad=>
 p [b,f,d,g,c,h,l,ad,m,n] q) (
 p [b,f,d,g,c,h,l,a,i,n] q)) (
 (Af .none .sub l a).bind λj=>
 AI (λj7=>
 (Af .none .lss a d).bind λk=>
 gk k true (some d) λae=>
 gk k true (some j) λaj=>
 gk k true (Af .none .lss ae aj) λak=>
 (A5 k ak (.bool false)).bind λal=>
 Ak al (
 bK o (Sh.f2n b a d j c e) λan am=>
 j7 [b,f,g,c,h,a,j] am) (
 j7 [b,f,g,c,h,a,j] e)) (λvs H=>Sh.f4o o self (ag vs 0) (ag vs 1) (ag vs 2) (ag vs 3) (ag vs 4) (ag vs 5) (ag vs 6) H))
noncomputable def Sh.f7j (b:Aa)(self:Ab->Ab->Ab->Ab->Ab->Aa->Out)(c d e f g h a i j:Ab)(k:Aa):Out:=
 (Af .none .sub a (.i6 1)).bind λl=>
 Am (λm vs H=>Sh.fi b self m (ag vs 0) (ag vs 1) (ag vs 2) (ag vs 3) (ag vs 4) (ag vs 5) (ag vs 6) (ag vs 7) (ag vs 8) (ag vs 9) H) AM [c,d,e,f,g,h,a,i,j,l] k
noncomputable def Sh.f7k (self:Ab->Ab->Ab->Ab->Ab->Aa->Out)(f b a d g:Ab)(c:Aa):Out:=
 (Af .none .sub a b).bind λi=>
 (Af .none .eql i (.i6 1)).bind λj=>
 Ak j (
 Am (λk vs H=>Sh.f1w c self k (ag vs 0) (ag vs 1) (ag vs 2) (ag vs 3) (ag vs 4) H) AM [f,b,g,a,d] c) (
 (Af .none .sub d a).bind λl=>
 (Af .none .eql l (.i6 1)).bind λm=>
 Ak m (
 Am (λn vs H=>Sh.f1y c self n (ag vs 0) (ag vs 1) (ag vs 2) (ag vs 3) (ag vs 4) H) AM [f,a,g,b,a] c) (
 (Af .none .add b d).bind λo=>
 (AA .u64 o).bind λp=>
 (Af .none .shr p (.int .u64 1)).bind λq=>
 (AA .i64 q).bind λe=>
 (Af .none .add e a).bind λh=>
 AI (λj5=>
 (Af .none .gtr a e).bind λr=>
 Ak r (
 (Af .none .sub h d).bind λs=>
 j5 [f,b,a,d,g,e,h,s,e] c) (
 j5 [f,b,a,d,g,e,h,b,a] c)) (λvs H=>Sh.f7j c self (ag vs 0) (ag vs 1) (ag vs 2) (ag vs 3) (ag vs 4) (ag vs 5) (ag vs 6) (ag vs 7) (ag vs 8) H)))
noncomputable def Sh.f3:Nat->Ab->Ab->Ab->Ab->Ab->Aa->Out
 | 0=>λ_ _ _ _ _ _=>none
 | d+1=>Sh.f7k (Sh.f3 d)
noncomputable def Sh.f7l (h:Aa)(a:LK)(b c d e:Ab)(f:Aa):Out:=
 (Af .none .mul e (.i6 2)).bind λg=>
 a [b,c,d,g] f
noncomputable def Sh.f1z (g:Aa)(j:LK)(k:LK)(c a d b e f:Ab)(h:Aa):Out:=
 (Af .none .leq f a).bind λl=>
 Ak l (
 (Af .none .add e b).bind λm=>
 bK g (Sh.f3 AM c e m f d h) λs n=>
 (Af .none .mul (.i6 2) b).bind λo=>
 (Af .none .add f o).bind λp=>
 k [c,a,d,b,f,p] n) (
 AI (λj4=>
 (Af .none .add e b).bind λi=>
 (Af .none .lss i a).bind λq=>
 Ak q (
 bK g (Sh.f3 AM c e i a d h) λt r=>
 j4 [c,a,d,b] r) (
 j4 [c,a,d,b] h)) (λvs H=>Sh.f7l g j (ag vs 0) (ag vs 1) (ag vs 2) (ag vs 3) H))
noncomputable def Sh.f1d (b:Aa)(e:LK)(f c g a:Ab)(d:Aa):Out:=
 (Af .none .lss a c).bind λh=>
 Ak h (
 (Af .none .mul (.i6 2) a).bind λi=>
 Am (λj vs H=>Sh.f1z b e j (ag vs 0) (ag vs 1) (ag vs 2) (ag vs 3) (ag vs 4) (ag vs 5) H) AM [f,c,g,a,(.i6 0),i] d) (
 rK b (.tup []) d)
noncomputable def Sh.f2o (e:Aa)(i:LK)(a b c f g d:Ab)(h:Aa):Out:=
 (Af .none .leq d b).bind λj=>
 Ak j (
 bK e (Sh.fr a g d c h) λo k=>
 (Af .none .add d f).bind λl=>
 i [a,b,c,f,d,l] k) (
 bK e (Sh.fr a g b c h) λp m=>
 Am (λn vs H=>Sh.f1d e n (ag vs 0) (ag vs 1) (ag vs 2) (ag vs 3) H) AM [a,b,c,f] m)
noncomputable def Sh.f20 (b c d:Ab)(a:Aa):Out:=
 Am (λe vs H=>Sh.f2o a e (ag vs 0) (ag vs 1) (ag vs 2) (ag vs 3) (ag vs 4) (ag vs 5) H) AM [b,c,d,(.i6 20),(.i6 0),(.i6 20)] a
noncomputable def Sh.f21 (b c:Ab)(a:Aa):Out:=
 (A7 b).bind λd=>
 bK a (Sh.f20 b d c a) λf e=>
 rK a (.tup []) e
noncomputable def Sh.f4p (c d:Ab)(a:Aa):Out:=
 Al (Bu true 5 c a) λe f=>
 Al (Bu true 5 d f) λg b=>
 (Ad true 5 e b).bind λh=>
 (Ad true 5 g b).bind λi=>
 bP a (Sh.f1t h i b) λj k=>
 (Af .none .eql j (.i6 0)).bind λl=>
 rP a l k
noncomputable def AJ:Orc:=(ent 146 (ap2 Sh.f4p) noO)
noncomputable def Sh.f7m (i:Aa)(a:LK)(b c d e f:Ab)(g:Aa):Out:=
 (Af .none .add f (.i6 1)).bind λh=>
 a [b,c,d,e,h] g
noncomputable def Sh.f22 (e:Aa)(i:LK)(c g d a b:Ab)(f:Aa):Out:=
 (A7 a).bind λj=>
 (Af .none .lss b j).bind λk=>
 Ak k (
 AI (λj3=>
 (Aw 5 a b).bind λl=>
 bC (Ad true 5 l f) (λ_=>True) λm=>
 (Af .none .sub b (.i6 1)).bind λn=>
 (Aw 5 a n).bind λo=>
 bC (Ad true 5 o f) (λ_=>True) λp=>
 AN (DK AJ g [m,p] f) λq h=>
 (unA .not q).bind λr=>
 Ak r (
 (Aw 5 a b).bind λs=>
 (Ad true 5 s h).bind λt=>
 (Aw 5 c d).bind λu=>
 bK e (Av (Ae 5 u t h)) λ_ v=>
 (Af .none .add d (.i6 1)).bind λw=>
 j3 [c,g,w,a,b] v) (
 j3 [c,g,d,a,b] h)) (λvs H=>Sh.f7m e i (ag vs 0) (ag vs 1) (ag vs 2) (ag vs 3) (ag vs 4) H)) (
 (Bw 5 c (some d) none none).bind λx=>
 bK e (Av (K8 5 (some [(.bool false),(.sl [] .ti),(.bool false),(.sl [] .ti),(.int .u8 0)]) x f)) λ_ y=>
 (Bw 5 c none (some d) none).bind λz=>
 rKN e z y)
noncomputable def Sh.f2p (d:Aa)(g:LK)(a e b:Ab)(c:Aa):Out:=
 (A7 a).bind λh=>
 (Af .none .lss b h).bind λi=>
 Ak i (
 (Aw 5 a b).bind λj=>
 bC (Ad true 5 j c) (λ_=>True) λk=>
 (Af .none .sub b (.i6 1)).bind λl=>
 (Aw 5 a l).bind λm=>
 bC (Ad true 5 m c) (λ_=>True) λn=>
 bK d (DK AJ e [k,n] c) λo f=>
 Ak o (
 (Bw 5 a (some b) none none).bind λp=>
 Am (λq vs H=>Sh.f22 d q (ag vs 0) (ag vs 1) (ag vs 2) (ag vs 3) (ag vs 4) H) AM [a,e,b,p,(.i6 1)] f) (
 (Af .none .add b (.i6 1)).bind λr=>
 g [a,e,r] f)) (
 rKN d a c)
noncomputable def Sh.f1e (b c:Ab)(a:Aa):Out:=
 (A7 b).bind λd=>
 (Af .none .lss d (.i6 2)).bind λe=>
 Ak e (
 rKN a b a) (
 Am (λf vs H=>Sh.f2p a f (ag vs 0) (ag vs 1) (ag vs 2) H) AM [b,c,(.i6 1)] a)
noncomputable def AY:Orc:=(ent 139 (ap2 Sh.ff) (ent 148 (ap1 Sh.f2j) noO))
noncomputable def Sh.f7n (h:Aa)(a:LK)(b c d e:Ab)(f:Aa):Out:=
 (Af .none .add e (.i6 1)).bind λg=>
 a [b,c,d,g] f
noncomputable def Sh.f2q (b:Aa)(j:LK)(a e c d:Ab)(f:Aa):Out:=
 (A7 a).bind λk=>
 (Af .none .lss d k).bind λl=>
 Ak l (
 AI (λj2=>
 (Aw 5 a d).bind λm=>
 (Ad true 5 m f).bind λn=>
 Al (Ax (some [(.bool false),(.sl [] .ti),(.bool false),(.sl [] .ti),(.int .u8 0)]) f) λg o=>
 bK b (Av (Ae 5 g n o)) λ_ i=>
 (Ad true 5 g i).bind λp=>
 bK b (DK AY e [p] i) λq h=>
 (unA .not q).bind λr=>
 Ak r (
 (Ad true 5 g h).bind λs=>
 (Aw 5 a c).bind λt=>
 bK b (Av (Ae 5 t s h)) λ_ u=>
 (Af .none .add c (.i6 1)).bind λv=>
 j2 [a,e,v,d] u) (
 j2 [a,e,c,d] h)) (λvs H=>Sh.f7n b j (ag vs 0) (ag vs 1) (ag vs 2) (ag vs 3) H)) (
 (Bw 5 a (some c) none none).bind λw=>
 bK b (Av (K8 5 (some [(.bool false),(.sl [] .ti),(.bool false),(.sl [] .ti),(.int .u8 0)]) w f)) λ_ x=>
 (Bw 5 a none (some c) none).bind λy=>
 rKN b y x)
noncomputable def Sh.f1f (b d:Ab)(a:Aa):Out:=
 bK a (Sh.ff b d a) λc e=>
 (Af .none .eql c (.i6 (-1))).bind λf=>
 Ak f (
 rKN a b e) (
 (Af .none .add c (.i6 1)).bind λg=>
 Am (λh vs H=>Sh.f2q a h (ag vs 0) (ag vs 1) (ag vs 2) (ag vs 3) H) AM [b,d,c,g] e)
noncomputable def Sh.f4q (c:Ab)(a:Aa):Out:=
 bP a (Sh.f4i c a) λb d=>
 bP a (Sh.f1s b d) λk e=>
 bP a (Sh.f21 b (.fn 144 []) e) λl f=>
 bP a (Sh.f1e b (.fn 146 []) f) λg h=>
 bP a (Sh.f1f g (.fn 148 []) h) λi j=>
 rPN a i j
noncomputable def Sh.f2r (f:Ab)(a:Aa):Out:=
 Al (Bu true 2 f a) λc g=>
 Al (Ax (some [(.bool false),(.sl [] .ti)]) g) λd b=>
 (Ac 0 c).bind λh=>
 (Ad false 1 h b).bind λi=>
 (unA .not i).bind λj=>
 (Ac 1 c).bind λk=>
 (Ad false 1 k b).bind λl=>
 bP a (Sh.fe j l b) λm n=>
 bP a (Av (Ae 2 d m n)) λ_ e=>
 (Ad true 2 d e).bind λo=>rPN a o e
noncomputable def Sh.f4r (h i:Ab)(a:Aa):Out:=
 Al (Bu true 2 h a) λd j=>
 Al (Bu true 2 i j) λk l=>
 Al (Ax (some [(.bool false),(.sl [] .ti)]) l) λe b=>
 bC (Ad true 2 k b) (λ_=>True) λm=>
 AN (Sh.f2r m b) λn f=>
 bC (Ad true 2 d f) (λc=>Ad true 2 d b=some c/\True) λc=>
 AN (Sh.fy c n f) λo p=>
 bP a (Av (Ae 2 e o p)) λ_ g=>
 (Ad true 2 e g).bind λq=>rPN a q g
noncomputable def Sh.f7o (a:Aa)(b c:Ab)(d:Aa):Out:=
 (AA .u8 b).bind λe=>
 (BI (.str [0,1,2,2,3,3,3,3,4,4,4,4,4,4,4,4,5,5,5,5,5,5,5,5,5,5,5,5,5,5,5,5,6,6,6,6,6,6,6,6,6,6,6,6,6,6,6,6,6,6,6,6,6,6,6,6,6,6,6,6,6,6,6,6,7,7,7,7,7,7,7,7,7,7,7,7,7,7,7,7,7,7,7,7,7,7,7,7,7,7,7,7,7,7,7,7,7,7,7,7,7,7,7,7,7,7,7,7,7,7,7,7,7,7,7,7,7,7,7,7,7,7,7,7,7,7,7,7,8,8,8,8,8,8,8,8,8,8,8,8,8,8,8,8,8,8,8,8,8,8,8,8,8,8,8,8,8,8,8,8,8,8,8,8,8,8,8,8,8,8,8,8,8,8,8,8,8,8,8,8,8,8,8,8,8,8,8,8,8,8,8,8,8,8,8,8,8,8,8,8,8,8,8,8,8,8,8,8,8,8,8,8,8,8,8,8,8,8,8,8,8,8,8,8,8,8,8,8,8,8,8,8,8,8,8,8,8,8,8,8,8,8,8,8,8,8,8,8,8,8,8,8,8,8,8,8]) e).bind λf=>
 (AA .i64 f).bind λg=>
 (Af .none .add c g).bind λh=>
 rK a h d
noncomputable def Sh.f7p (d:Aa)(a b:Ab)(c:Aa):Out:=
 AI (λj2=>
 (Af .none .geq a (.int .u32 256)).bind λe=>
 Ak e (
 (Af .none .shr a (.int .u64 8)).bind λf=>
 (Af .none .add b (.i6 8)).bind λg=>
 j2 [f,g] c) (
 j2 [a,b] c)) (λvs H=>Sh.f7o d (ag vs 0) (ag vs 1) H)
noncomputable def Sh.f4s (a:Ab)(b:Aa):Out:=
 AI (λj1=>
 (Af .none .geq a (.int .u32 65536)).bind λc=>
 Ak c (
 (Af .none .shr a (.int .u64 16)).bind λd=>
 j1 [d,(.i6 16)] b) (
 j1 [a,(.i6 0)] b)) (λvs H=>Sh.f7p b (ag vs 0) (ag vs 1) H)
noncomputable def Sh.f4t (d:Ab)(a:Aa):Out:=
 bK a (Sh.f2 d a) λb c=>
 (A7 b).bind λe=>
 (Af .none .eql e (.i6 0)).bind λf=>
 Ak f (
 rK a (.i6 0) c) (
 (A7 b).bind λg=>
 (Af .none .sub g (.i6 1)).bind λh=>
 (Af .none .mul h (.i6 32)).bind λi=>
 (A7 b).bind λj=>
 (Af .none .sub j (.i6 1)).bind λk=>
 (Aw 1 b k).bind λl=>
 (Ad false 1 l c).bind λm=>
 bK a (Sh.f4s m c) λn o=>
 (Af .none .add i n).bind λp=>
 rK a p o)
noncomputable def Sh.f8i (a:Aa)(c:Ab)(b:Aa):Out:=
 (Ac 1 c).bind λd=>
 (Ad false 1 d b).bind λe=>
 bP a (Sh.f4t e b) λf g=>
 (Af .none .add (.i6 1) f).bind λh=>
 rP a h g
noncomputable def Sh.f2s (d:Ab)(a:Aa):Out:=
 Al (Bu true 2 d a) λb c=>
 AI (λj1=>
 (Ac 0 b).bind λe=>
 (Ad false 1 e c).bind λf=>
 Ak f (
 (Ad true 2 b c).bind λg=>
 bP a (Sh.f2r g c) λh i=>
 bP a (Sh.f1c (.i6 1) i) λj k=>
 bP a (Sh.f4r h j k) λl m=>
 bP a (Av (Ae 2 b l m)) λ_ n=>
 j1 [b] n) (
 j1 [b] c)) (λvs H=>Sh.f8i a (ag vs 0) H)
noncomputable def Sh.f4u (b:Ab)(c:Aa):Out:=
 (Af .none .geq b (.i6 0)).bind λa=>
 gk a true (some b) λd=>
 gk a true (Af .none .leq d (.i6 10000)) λe=>
 (A5 a e (.bool false)).bind λf=>
 rK c f c
noncomputable def Sh.f4v (b:Aa)(l:LK)(c a g h d:Ab)(e:Aa):Out:=
 (Af .none .lss d h).bind λm=>
 Ak m (
 (Aw 1 g d).bind λn=>
 (Ad false 1 n e).bind λi=>
 (Af .none .quo c (.i6 32)).bind λo=>
 (Af .none .add d o).bind λf=>
 (Aw 1 a f).bind λp=>
 bC (Ad false 1 p e) (λ_=>True) λq=>
 (Af .none .rem c (.i6 32)).bind λr=>
 (Af .none .shl i r).bind λs=>
 (Af .none .or q s).bind λt=>
 (Aw 1 a f).bind λu=>
 bP b (Av (Ae 1 u t e)) λ_ j=>
 (Af .none .add f (.i6 1)).bind λk=>
 (Aw 1 a k).bind λv=>
 bC (Ad false 1 v j) (λ_=>True) λw=>
 bC (AA .u64 i) (λ_=>True) λx=>
 (Af .none .rem c (.i6 32)).bind λy=>
 (Af .none .shl x y).bind λz=>
 (Af .none .shr z (.int .u64 32)).bind λaa=>
 bC (AA .u32 aa) (λ_=>True) λab=>
 (Af .none .or w ab).bind λac=>
 (Aw 1 a k).bind λad=>
 bP b (Av (Ae 1 ad ac j)) λ_ ae=>
 (Af .none .add d (.i6 1)).bind λaj=>
 l [c,a,g,h,aj] ae) (
 bP b (Sh.f2 a e) λak al=>
 rPN b ak al)
noncomputable def Sh.f4w (b c:Ab)(a:Aa):Out:=
 bP a (Sh.f4u c a) λf d=>
 (unA .not f).bind λg=>
 Ak g (
 rPN a (.sl [] .ti) d) (
 (A7 b).bind λh=>
 (Af .none .quo c (.i6 32)).bind λi=>
 (Af .none .add h i).bind λj=>
 (Af .none .add j (.i6 1)).bind λe=>
 Al (F5 1 4 (some [(.int .u32 0)]) e e d) λk l=>
 (A7 b).bind λm=>
 Am (λn vs H=>Sh.f4v a n (ag vs 0) (ag vs 1) (ag vs 2) (ag vs 3) (ag vs 4) H) AM [c,k,b,m,(.i6 0)] l)
noncomputable def Sh.f4x (d:Ab)(a:Aa):Out:=
 Al (Ax (some [(.bool false),(.sl [] .ti)]) a) λb e=>
 (AL 1 [(.int .u32 1)]).bind λf=>
 bP a (Sh.f4w f d e) λg h=>
 bP a (Sh.fe (.bool false) g h) λi j=>
 bP a (Av (Ae 2 b i j)) λ_ c=>
 (Ad true 2 b c).bind λk=>rPN a k c
noncomputable def Sh.f23 (e c:Ab)(d:Aa):Out:=
 (Af .none .geq c (.i6 0)).bind λb=>
 gk b true (some c) λf=>
 gk b true (Af .none .quo f (.i6 32)) λg=>
 gk b true (some e) λh=>
 gk b true (A7 h) λi=>
 gk b true (Af .none .lss g i) λj=>
 (A5 b j (.bool false)).bind λa=>
 gk a true (some e) λk=>
 gk a true (some c) λl=>
 gk a true (Af .none .quo l (.i6 32)) λm=>
 gk a true (Aw 1 k m) λn=>
 gk a true (Ad false 1 n d) λo=>
 gk a true (some c) λp=>
 gk a true (Af .none .rem p (.i6 32)) λq=>
 gk a true (Af .none .shr o q) λr=>
 gk a true (Af .none .and r (.int .u32 1)) λs=>
 gk a true (Af .none .eql s (.int .u32 1)) λt=>
 (A5 a t (.bool false)).bind λu=>
 rK d u d
noncomputable def Sh.f8j (d:Aa)(e:LK)(f g a h c i j k:Ab)(b:Aa):Out:=
 (B8 4 1 a c).bind λl=>
 bC (Ad false 1 l b) (λ_=>True) λm=>
 bC (Ad true 3 h b) (λ_=>True) λn=>
 (AL 3 [n]).bind λo=>
 AN (BV (AP BZ 3 56 m o b)) λp q=>
 (B8 4 1 a c).bind λr=>
 bK d (Av (Ae 1 r p q)) λ_ s=>
 (Af .none .add k (.i6 1)).bind λt=>
 e [f,g,a,i,j,t] s
noncomputable def Sh.f8k (c:Aa)(l:LK)(d a e b f g h i:Ab)(j:Aa):Out:=
 AI (λj3=>
 (Ac 1 b).bind λm=>
 (Ad false 1 m j).bind λn=>
 (Af .none .sub a (.i6 1)).bind λo=>
 bK c (Sh.f23 n o j) λp k=>
 Ak p (
 (Af .none .add f (.i6 2)).bind λq=>
 j3 [d,a,e,b,q,g,h,i] k) (
 j3 [d,a,e,b,f,g,h,i] k)) (λvs H=>Sh.f8j c l (ag vs 0) (ag vs 1) (ag vs 2) (ag vs 3) (ag vs 4) (ag vs 5) (ag vs 6) (ag vs 7) H)
noncomputable def Sh.f1g (e:Aa)(self:Ab->Ab->Ab->Aa->Out)(h:LK)(a f d g b:Ab)(c:Aa):Out:=
 (Af .none .lss b (.i6 4)).bind λk=>
 Ak k (
 (Ju false 4 1 g b).bind λi=>
 (Af .none .gtr f (.i6 1)).bind λl=>
 Ak l (
 (Af .none .sub f (.i6 1)).bind λm=>
 bK e (self a m i c) λn o=>
 (Ac 1 d).bind λp=>
 (B8 4 1 p b).bind λq=>
 bK e (Av (Ae 1 q n o)) λ_ r=>
 (Af .none .add b (.i6 1)).bind λs=>
 h [a,f,d,g,s] r) (
 (A7 i).bind λt=>
 (Af .none .gtr t (.i6 0)).bind λu=>
 Ak u (
 (Aw 3 i (.i6 0)).bind λv=>
 (Ac 2 v).bind λw=>
 (Ad false 1 w c).bind λx=>
 (AA .i64 x).bind λy=>
 (Ac 1 d).bind λz=>
 (B8 4 1 z b).bind λaa=>
 bK e (Av (Ae 1 aa y c)) λ_ ab=>
 (Af .none .add b (.i6 1)).bind λac=>
 h [a,f,d,g,ac] ab) (
 (Af .none .add b (.i6 1)).bind λad=>
 h [a,f,d,g,ad] c))) (
 (Aj a).bind λae=>
 (Ac 0 ae).bind λaj=>
 bC (Ad false 1 aj c) (λ_=>True) λak=>
 bC (Ad true 5 d c) (λ_=>True) λal=>
 (AL 5 [al]).bind λam=>
 AN (BV (AP AK 5 40 ak am c)) λan ap=>
 (Aj a).bind λaq=>
 (Ac 0 aq).bind λar=>
 bK e (Av (Ae 1 ar an ap)) λ_ j=>
 (Aj a).bind λau=>
 (Ac 0 au).bind λav=>
 (Ad false 1 av j).bind λaw=>
 (A7 aw).bind λax=>
 rK e ax j)
noncomputable def Sh.f2t (a:Aa)(self:Ab->Ab->Ab->Aa->Out)(n:LK)(e b f g h c:Ab)(i:Aa):Out:=
 (Af .none .lss c h).bind λo=>
 Ak o (
 (Aw 3 g c).bind λp=>
 (Ad true 3 p i).bind λq=>
 Al (Ax (some [(.sl [] .ti),(.sl [] .ti),(.int .u8 0)]) i) λd r=>
 bK a (Av (Ae 3 d q r)) λ_ j=>
 AI (λj2=>
 (Ac 0 d).bind λs=>
 (Ad false 1 s j).bind λt=>
 (Af .none .sub b (.i6 1)).bind λu=>
 bK a (Sh.f23 t u j) λv k=>
 Ak v (
 (Af .none .add (.i6 0) (.i6 1)).bind λw=>
 j2 [e,b,f,d,w,g,h,c] k) (
 j2 [e,b,f,d,(.i6 0),g,h,c] k)) (λvs H=>Sh.f8k a n (ag vs 0) (ag vs 1) (ag vs 2) (ag vs 3) (ag vs 4) (ag vs 5) (ag vs 6) (ag vs 7) H)) (
 (Az (some [(.i6 0),(.i6 0),(.i6 0),(.i6 0),(.i6 0)]) [(0,1,b)]).bind λx=>
 Al (Ax (some [(.i6 0),(.i6 0),(.i6 0),(.i6 0),(.i6 0)]) i) λl y=>
 bK a (Av (Ae 5 l x y)) λ_ m=>
 (Ad true 4 f m).bind λz=>
 Am (λaa vs H=>Sh.f1g a self aa (ag vs 0) (ag vs 1) (ag vs 2) (ag vs 3) (ag vs 4) H) AM [e,b,l,z,(.i6 0)] m)
noncomputable def Sh.f7q (self:Ab->Ab->Ab->Aa->Out)(c d b:Ab)(a:Aa):Out:=
 (A7 b).bind λe=>
 (Af .none .eql e (.i6 0)).bind λf=>
 Ak f (
 rK a (.i6 0) a) (
 Al (Ax (some [(.sl [] .ti),(.sl [] .ti),(.sl [] .ti),(.sl [] .ti)]) a) λg h=>
 (A7 b).bind λi=>
 Am (λj vs H=>Sh.f2t a self j (ag vs 0) (ag vs 1) (ag vs 2) (ag vs 3) (ag vs 4) (ag vs 5) H) AM [c,d,g,b,i,(.i6 0)] h)
noncomputable def Sh.f24:Nat->Ab->Ab->Ab->Aa->Out
 | 0=>λ_ _ _ _=>none
 | d+1=>Sh.f7q (Sh.f24 d)
noncomputable def Sh.f4y (h i b:Ab)(c:Aa):Out:=
 (Aw 5 h i).bind λj=>
 (Ad true 5 j c).bind λk=>
 Al (Ax (some [(.i6 0),(.i6 0),(.i6 0),(.i6 0),(.i6 0)]) c) λf l=>
 bP c (Av (Ae 5 f k l)) λ_ d=>
 (Af .none .eql b (.i6 0)).bind λm=>
 Ak m (
 rP c (.bool true) d) (
 (Ac 0 f).bind λn=>
 (Ad false 1 n d).bind λo=>
 (Af .none .eql o (.i6 1)).bind λp=>
 Ak p (
 (Af .none .gtr b (.i6 0)).bind λg=>
 gk g true (some b) λq=>
 gk g true (Af .none .leq q (.i6 255)) λr=>
 (A5 g r (.bool false)).bind λs=>
 rP c s d) (
 (Af .none .gtr b (.i6 0)).bind λe=>
 gk e true (some b) λt=>
 gk e true (some i) λu=>
 gk e true (Af .none .leq t u) λv=>
 (A5 e v (.bool false)).bind λa=>
 gk a true (some h) λw=>
 gk a true (some b) λx=>
 gk a true (Af .none .sub x (.i6 1)) λy=>
 gk a true (Aw 5 w y) λz=>
 gk a true (Ac 0 z) λaa=>
 gkc a true (Ad false 1 aa d) (λ_ _=>True) λab=>
 gk a true (Ac 0 f) λac=>
 gkc a true (Ad false 1 ac d) (λ_ _=>True) λad=>
 gk a true (Af .none .sub ad (.i6 1)) λae=>
 gk a true (Af .none .eql ab ae) λaj=>
 (A5 a aj (.bool false)).bind λak=>
 rP c ak d))
noncomputable def Sh.f4z (c:Aa)(k:LK)(l:LK)(a d e f g h b:Ab)(i:Aa):Out:=
 (Af .none .lss b (.i6 4)).bind λm=>
 Ak m (
 (Ju false 4 1 h b).bind λn=>
 bP c (Sh.f4y a d n i) λo j=>
 (unA .not o).bind λp=>
 Ak p (
 rP c (.bool false) j) (
 (Af .none .add b (.i6 1)).bind λq=>
 l [a,d,e,f,g,h,q] j)) (
 (Af .none .add g (.i6 1)).bind λr=>
 k [a,e,f,r] i)
noncomputable def Sh.f1h (b:Aa)(i:LK)(j g h c:Ab)(f:Aa):Out:=
 (Af .none .lss c h).bind λk=>
 Ak k (
 (Aw 5 g c).bind λl=>
 (Ad true 5 l f).bind λm=>
 Al (Ax (some [(.i6 0),(.i6 0),(.i6 0),(.i6 0),(.i6 0)]) f) λd n=>
 bP b (Av (Ae 5 d m n)) λ_ a=>
 (Ac 0 d).bind λo=>
 (Ad false 1 o a).bind λp=>
 (Af .none .lss p (.i6 1)).bind λe=>
 gk e false (Ac 0 d) λq=>
 gk e false (Ad false 1 q a) λr=>
 gk e false (Af .none .gtr r (.i6 1329)) λs=>
 (A5 e (.bool true) s).bind λt=>
 Ak t (
 rP b (.bool false) a) (
 (Ac 1 d).bind λu=>
 (Ad true 4 u a).bind λv=>
 Am (λw vs H=>Sh.f4z b i w (ag vs 0) (ag vs 1) (ag vs 2) (ag vs 3) (ag vs 4) (ag vs 5) (ag vs 6) H) AM [j,c,g,h,c,v,(.i6 0)] a)) (
 rP b (.bool true) f)
noncomputable def Sh.f2u (a:Ab)(b:Aa):Out:=
 (A7 a).bind λc=>
 Am (λd vs H=>Sh.f1h b d (ag vs 0) (ag vs 1) (ag vs 2) (ag vs 3) H) AM [a,a,c,(.i6 0)] b
noncomputable def Sh.f50 (b:Ab)(a:Aa):Out:=
 (Qz .eql b).bind λc=>
 Ak c (
 rK a (.sl [] .ti) a) (
 (AL 5 []).bind λd=>
 bK a (BV (AP AK 5 40 d b a)) λe f=>
 rK a e f)
noncomputable def Sh.f51 (d e f:Ab)(b:Aa):Out:=
 (Af .none .neq d (.i6 0)).bind λa=>
 gk a true (Ac 0 e) λg=>
 gk a true (Ad false 1 g b) λh=>
 gk a true (Af .none .eql h (.i6 1)) λi=>
 gk a true (some i) λc=>
 gk c false (Ad false 1 f b) λj=>
 gk c false (some d) λk=>
 gk c false (Aw 1 j k) λl=>
 gk c false (Ad false 1 l b) λm=>
 gk a true (A5 c (.bool true) m) λn=>
 (A5 a n (.bool false)).bind λo=>
 rK b o b
noncomputable def CG:Orc:=(ent 238 (ap3 Sh.f51) noO)
noncomputable def Sh.f52 (b:Aa)(h:LK)(d e f a:Ab)(c:Aa):Out:=
 (Af .none .lss a f).bind λi=>
 Ak i (
 (Aw 1 d a).bind λj=>
 (Ad false 1 j c).bind λk=>
 bK b (DK CG e [k] c) λl g=>
 Ak l (
 rK b a g) (
 (Af .none .add a (.i6 1)).bind λm=>
 h [d,e,f,m] g)) (
 rK b (.i6 (-1)) c)
noncomputable def Sh.f53 (a c:Ab)(b:Aa):Out:=
 (A7 a).bind λd=>
 Am (λe vs H=>Sh.f52 b e (ag vs 0) (ag vs 1) (ag vs 2) (ag vs 3) H) AM [a,c,d,(.i6 0)] b
noncomputable def Sh.f54 (b c:Ab)(a:Aa):Out:=
 bK a (Sh.f53 b c a) λd e=>
 (Af .none .geq d (.i6 0)).bind λf=>
 rK a f e
noncomputable def Sh.f7r (d:Aa)(k:LK)(a g h b:Ab)(c:Aa):Out:=
 (Af .none .lss b h).bind λl=>
 Ak l (
 (Aw 5 g b).bind λm=>
 (Ad true 5 m c).bind λn=>
 Al (Ax (some [(.i6 0),(.i6 0),(.i6 0),(.i6 0),(.i6 0)]) c) λe o=>
 bP d (Av (Ae 5 e n o)) λ_ i=>
 (Ac 1 e).bind λp=>
 (J8 4 1 p none none).bind λq=>
 AN (Sh.f54 q (.fn 238 [e,a]) i) λr j=>
 bC (Ad false 1 a j) (λf=>Ad false 1 a i=some f/\True) λf=>
 (Af .none .add b (.i6 1)).bind λs=>
 (Aw 1 f s).bind λt=>
 bP d (Av (Ae 1 t r j)) λ_ u=>
 (Af .none .add b (.i6 1)).bind λv=>
 k [a,g,h,v] u) (
 (Ad false 1 a c).bind λw=>
 rPN d w c)
noncomputable def Sh.f2v (a:Ab)(b:Aa):Out:=
 (A7 a).bind λe=>
 (Af .none .add e (.i6 1)).bind λc=>
 Al (F5 1 1 (some [(.bool false)]) c c b) λf g=>
 Al (Ax (some [(.sl [] .ti)]) g) λd h=>
 bP b (Av (Ae 1 d f h)) λ_ i=>
 (A7 a).bind λj=>
 Am (λk vs H=>Sh.f7r b k (ag vs 0) (ag vs 1) (ag vs 2) (ag vs 3) H) AM [d,a,j,(.i6 0)] i
noncomputable def Sh.f55 (c d:Ab)(a:Aa):Out:=
 bK a (Sh.f2v c a) λe b=>
 (Aw 1 e d).bind λf=>
 (Ad false 1 f b).bind λg=>
 (unA .not g).bind λh=>
 rK a h b
noncomputable def Sh.f56 (n:Aa)(o:LK)(p:LK)(e f h i j k l d:Ab)(b:Aa):Out:=
 (Af .none .lss d (.i6 4)).bind λq=>
 Ak q (
 (Ju false 4 1 l d).bind λm=>
 (Af .none .sub (.i6 3) h).bind λr=>
 (Af .none .neq d r).bind λg=>
 gk g true (some m) λs=>
 gk g true (Af .none .neq s (.i6 0)) λt=>
 (A5 g t (.bool false)).bind λa=>
 gk a true (some e) λu=>
 gk a true (some i) λv=>
 gk a true (Af .none .sub v (.i6 1)) λw=>
 gk a true (Aw 5 u w) λx=>
 gk a true (Ac 0 x) λy=>
 gk a true (Ad false 1 y b) λz=>
 gk a true (Af .none .eql z (.i6 1)) λaa=>
 gk a true (some aa) λc=>
 gk c false (some f) λab=>
 gk c false (some m) λac=>
 gk c false (Aw 1 ab ac) λad=>
 gk c false (Ad false 1 ad b) λae=>
 gk a true (A5 c (.bool true) ae) λaj=>
 (A5 a aj (.bool false)).bind λak=>
 Ak ak (
 rK n (.bool false) b) (
 (Af .none .add d (.i6 1)).bind λal=>
 p [e,f,h,i,j,k,l,al] b)) (
 (Af .none .add k (.i6 1)).bind λam=>
 o [e,f,j,am] b)
noncomputable def Sh.f57 (f:Aa)(g:LK)(c h d a:Ab)(b:Aa):Out:=
 (Af .none .lss a (.i6 4)).bind λi=>
 Ak i (
 (Ju false 4 1 d a).bind λe=>
 (Af .none .eql e (.i6 0)).bind λj=>
 Ak j (
 (Af .none .add a (.i6 1)).bind λk=>
 g [c,h,d,k] b) (
 (Af .none .sub e (.i6 1)).bind λl=>
 (Aw 5 c l).bind λm=>
 (Ac 1 m).bind λn=>
 (Ad true 4 n b).bind λo=>
 Am (λp vs H=>Sh.f56 f g p (ag vs 0) (ag vs 1) (ag vs 2) (ag vs 3) (ag vs 4) (ag vs 5) (ag vs 6) (ag vs 7) H) AM [c,h,a,e,d,a,o,(.i6 0)] b)) (
 rK f (.bool true) b)
noncomputable def Sh.f58 (c d:Ab)(b:Aa):Out:=
 (Af .none .eql d (.i6 0)).bind λa=>
 gk a false (some c) λf=>
 gk a false (some d) λg=>
 gk a false (Af .none .sub g (.i6 1)) λh=>
 gk a false (Aw 5 f h) λi=>
 gk a false (Ac 0 i) λj=>
 gk a false (Ad false 1 j b) λk=>
 gk a false (Af .none .eql k (.i6 1)) λl=>
 (A5 a (.bool true) l).bind λm=>
 Ak m (
 rK b (.bool false) b) (
 bK b (Sh.f2v c b) λn e=>
 (Af .none .sub d (.i6 1)).bind λo=>
 (Aw 5 c o).bind λp=>
 (Ac 1 p).bind λq=>
 (Ad true 4 q e).bind λr=>
 Am (λs vs H=>Sh.f57 b s (ag vs 0) (ag vs 1) (ag vs 2) (ag vs 3) H) AM [c,n,r,(.i6 0)] e)
noncomputable def Sh.f59 (b e c:Ab)(a:Aa):Out:=
 (Af .none .sub e (.i6 1)).bind λf=>
 (Aw 5 b f).bind λg=>
 (Ac 1 g).bind λh=>
 (B8 4 1 h c).bind λi=>
 (Ad false 1 i a).bind λd=>
 (Af .none .gtr d (.i6 0)).bind λj=>
 Ak j (
 (Af .none .sub d (.i6 1)).bind λk=>
 (Af .none .sub (.i6 3) c).bind λl=>
 (Aw 5 b k).bind λm=>
 (Ac 1 m).bind λn=>
 (B8 4 1 n l).bind λo=>
 (Ad false 1 o a).bind λp=>
 rK a p a) (
 rK a (.i6 0) a)
noncomputable def Sh.f5a (b:Aa)(h:LK)(i:LK)(c f d a:Ab)(e:Aa):Out:=
 (Af .none .lss a (.i6 4)).bind λj=>
 Ak j (
 bP b (Sh.f59 c f a e) λk l=>
 (Ac 1 d).bind λm=>
 (B8 4 1 m a).bind λn=>
 bP b (Av (Ae 1 n k l)) λ_ o=>
 (Af .none .add a (.i6 1)).bind λp=>
 i [c,f,d,p] o) (
 (Ad true 5 d e).bind λq=>
 (AL 5 [q]).bind λr=>
 bP b (BV (AP AK 5 40 c r e)) λg s=>
 (A7 g).bind λt=>
 h [g,t] s)
noncomputable def Sh.f7s (a:Aa)(f:LK)(b c:Ab)(g:Aa):Out:=
 bP a (Sh.f58 b c g) λh d=>
 Ak h (
 (Af .none .sub c (.i6 1)).bind λi=>
 (Aw 5 b i).bind λj=>
 (Ac 0 j).bind λk=>
 (Ad false 1 k d).bind λl=>
 (Af .none .sub l (.i6 1)).bind λm=>
 (Az (some [(.i6 0),(.i6 0),(.i6 0),(.i6 0),(.i6 0)]) [(0,1,m)]).bind λn=>
 Al (Ax (some [(.i6 0),(.i6 0),(.i6 0),(.i6 0),(.i6 0)]) d) λe o=>
 bP a (Av (Ae 5 e n o)) λ_ p=>
 Am (λq vs H=>Sh.f5a a f q (ag vs 0) (ag vs 1) (ag vs 2) (ag vs 3) H) AM [b,c,e,(.i6 0)] p) (
 rPN a (.tup [b,c]) d)
noncomputable def Sh.f2w (e c:Ab)(a:Aa):Out:=
 bP a (Sh.f50 e a) λb f=>
 bP a (Sh.f55 b c f) λg d=>
 Ak g (
 rPN a (.tup [b,(.i6 0)]) d) (
 Am (λh vs H=>Sh.f7s a h (ag vs 0) (ag vs 1) H) AM [b,c] d)
noncomputable def Sh.f2x (b h:Ab)(c:Aa):Out:=
 Al (Bu true 5 h c) λd a=>
 (Ac 1 d).bind λi=>
 (Ad true 4 i a).bind λj=>
 (Az (some [(.i6 0),(.i6 0),(.i6 0),(.i6 0)]) []).bind λk=>
 (Af (.flat 4) .eql j k).bind λl=>
 Ak l (
 rK c (.i6 0) a) (
 (Aj b).bind λm=>
 (Ac 1 m).bind λn=>
 bC (Ad false 1 n a) (λ_=>True) λo=>
 bC (Ad true 5 d a) (λ_=>True) λp=>
 bC (Fz true 5 (some (.i6 0)) true o p a) (λ_=>True) λf=>
 (Aq 0 f).bind λq=>
 (Aq 1 f).bind λr=>
 Ak r (
 rK c q a) (
 (Aj b).bind λs=>
 (Ac 0 s).bind λt=>
 bC (Ad false 1 t a) (λ_=>True) λu=>
 bC (Ad true 5 d a) (λ_=>True) λv=>
 (AL 5 [v]).bind λw=>
 AN (BV (AP AK 5 40 u w a)) λx y=>
 (Aj b).bind λz=>
 (Ac 0 z).bind λaa=>
 bK c (Av (Ae 1 aa x y)) λ_ e=>
 (Aj b).bind λab=>
 (Ac 1 ab).bind λac=>
 bC (Ad false 1 ac e) (λ_=>True) λad=>
 bC (Ad true 5 d e) (λ_=>True) λae=>
 (Aj b).bind λaj=>
 (Ac 0 aj).bind λak=>
 bC (Ad false 1 ak e) (λ_=>True) λal=>
 (A7 al).bind λam=>
 bK c (Av (Ej true 5 ad ae am e)) λ_ g=>
 (Aj b).bind λan=>
 (Ac 0 an).bind λap=>
 (Ad false 1 ap g).bind λaq=>
 (A7 aq).bind λar=>
 rK c ar g))
noncomputable def HT (self:Ab->Ab->Ab->Ab->Ab->Aa->Out):Orc:=ent 161 (ap5 self) (ent 162 (ap2 Sh.f2x) noO)
noncomputable def Sh.f5b (a:Aa)(e f g h:Ab)(b:Aa):Out:=
 (Ad false 1 g b).bind λi=>
 (Ad true 5 h b).bind λj=>
 bK a (Sh.f2x i j b) λc d=>
 (Ad false 1 f d).bind λk=>
 bK a (Av (Ej false 1 k e c d)) λ_ l=>
 rK a c l
noncomputable def Sh.f5c (d:Aa)(self:Ab->Ab->Ab->Ab->Ab->Aa->Out)(j1:LK)(j:LK)(e f g h b i a:Ab)(c:Aa):Out:=
 (Af .none .lss a (.i6 4)).bind λk=>
 Ak k (
 (Ju false 4 1 i a).bind λl=>
 (Ad false 1 g c).bind λm=>
 bK d (DK (HT self) m [l] c) λn o=>
 (Ac 1 b).bind λp=>
 (B8 4 1 p a).bind λq=>
 bK d (Av (Ae 1 q n o)) λ_ r=>
 (Af .none .add a (.i6 1)).bind λs=>
 j [e,f,g,h,b,i,s] r) (
 j1 [e,f,h,b] c)
noncomputable def Sh.f2y (self:Ab->Ab->Ab->Ab->Ab->Aa->Out)(c e h i f:Ab)(a:Aa):Out:=
 (Ad false 1 e a).bind λj=>
 (Fz false 1 (some (.i6 0)) true j c a).bind λg=>
 (Aq 0 g).bind λk=>
 (Aq 1 g).bind λl=>
 Ak l (
 rK a k a) (
 (Ad false 1 h a).bind λm=>
 (Af .none .sub c (.i6 1)).bind λn=>
 (Aw 5 m n).bind λo=>
 (Ad true 5 o a).bind λp=>
 Al (Ax (some [(.i6 0),(.i6 0),(.i6 0),(.i6 0),(.i6 0)]) a) λb q=>
 bK a (Av (Ae 5 b p q)) λ_ d=>
 AI (λj1=>
 (Ac 0 b).bind λr=>
 (Ad false 1 r d).bind λs=>
 (Af .none .gtr s (.i6 1)).bind λt=>
 Ak t (
 (Ac 1 b).bind λu=>
 (Ad true 4 u d).bind λv=>
 Am (λw vs H=>Sh.f5c a self j1 w (ag vs 0) (ag vs 1) (ag vs 2) (ag vs 3) (ag vs 4) (ag vs 5) (ag vs 6) H) AM [c,e,i,f,b,v,(.i6 0)] d) (
 j1 [c,e,f,b] d)) (λvs H=>Sh.f5b a (ag vs 0) (ag vs 1) (ag vs 2) (ag vs 3) H))
noncomputable def Sh.f9:Nat->Ab->Ab->Ab->Ab->Ab->Aa->Out
 | 0=>λ_ _ _ _ _ _=>none
 | d+1=>Sh.f2y (Sh.f9 d)
noncomputable def Js:Orc:=(ent 159 (ap1 Sh.f2u) (ent 160 (ap2 Sh.f2w) (ent 161 (ap5 (Sh.f9 AM)) noO)))
noncomputable def Sh.f2z (r f:Ab)(a:Aa):Out:=
 Al (Bu true 1 r a) λb s=>
 Al (Ax (some [(.sl [] .ti)]) s) λd k=>
 (Ad false 1 b k).bind λt=>
 bP a (Sh.f2u t k) λu e=>
 (unA .not u).bind λg=>
 gk g false (some f) λv=>
 gk g false (Af .none .lss v (.i6 0)) λw=>
 (A5 g (.bool true) w).bind λc=>
 gk c false (some f) λx=>
 gk c false (Ad false 1 b e) λy=>
 gk c false (A7 y) λz=>
 gk c false (Af .none .gtr x z) λaa=>
 (A5 c (.bool true) aa).bind λab=>
 Ak ab (
 (Az (some [(.sl [] .ti)]) []).bind λac=>
 bP a (Av (Ae 1 d ac e)) λ_ l=>
 (Cv [Ad true 1 d l,some (.i6 1)]).bind λad=>rPN a ad l) (
 (Ad false 1 b e).bind λae=>
 bP a (Sh.f2w ae f e) λm aj=>
 (Aq 0 m).bind λak=>
 (Aq 1 m).bind λal=>
 bP a (Av (Ae 1 b ak aj)) λ_ am=>
 Al (ED am) λan ap=>
 (Az (some [(.sl [] .ti),.nilmap]) [(1,1,an)]).bind λaq=>
 Al (Bu true 2 aq ap) λar au=>
 Al (Ax (some [.nilp]) au) λh av=>
 bP a (Av (Ae 1 h ar av)) λ_ aw=>
 Al (ED aw) λn ax=>
 bP a (Av (Ej false 1 n (.i6 0) (.i6 0) ax)) λ_ ay=>
 Al (Ax (some [.nilmap]) ay) λo az=>
 bP a (Av (Ae 1 o n az)) λ_ a0=>
 Al (Ax (some [.nilfn]) a0) λi a1=>
 bP a (Av (Ae 1 i (.fn 161 [o,b,i,h]) a1)) λ_ p=>
 (Ad false 1 i p).bind λa2=>
 bP a (DK Js a2 [al] p) λa9 j=>
 (Ad false 1 h j).bind λa3=>
 (Aj a3).bind λa4=>
 (Ac 0 a4).bind λa5=>
 (Ad false 1 a5 j).bind λa6=>
 (Az (some [(.sl [] .ti)]) [(0,1,a6)]).bind λa7=>
 bP a (Av (Ae 1 d a7 j)) λ_ q=>
 (Cv [Ad true 1 d q,some (.i6 0)]).bind λa8=>rPN a a8 q)
noncomputable def Sh.f30 (b:Aa)(w:LK)(g m c n o p h:Ab)(i:Aa):Out:=
 (Af .none .lss h p).bind λx=>
 Ak x (
 (Aw 5 o h).bind λy=>
 (Ad true 5 y i).bind λz=>
 Al (Ax (some [(.bool false),(.sl [] .ti),(.bool false),(.sl [] .ti),(.int .u8 0)]) i) λd aa=>
 bP b (Av (Ae 5 d z aa)) λ_ a=>
 (Ac 0 d).bind λab=>
 bC (Ad true 2 ab a) (λ_=>True) λac=>
 bC (Ad true 2 c a) (λ_=>True) λad=>
 AN (Sh.fy ac ad a) λae e=>
 (Ac 2 d).bind λq=>
 bC (Ad true 2 q e) (λj=>Ad true 2 q a=some j/\True) λj=>
 bC (Ad true 2 c e) (λk=>Ad true 2 c a=some k/\True) λk=>
 AN (Sh.fy j k e) λaj r=>
 (P9 false 1 1 ae).bind λak=>
 (P9 false 1 1 aj).bind λal=>
 (Ac 4 d).bind λl=>
 bC (Ad false 1 l r) (λf=>Ad false 1 l e=some f/\Ad false 1 l a=some f/\True) λf=>
 (Az (some [(.sl [] .ti),(.sl [] .ti),(.int .u8 0)]) [(0,1,ak),(1,1,al),(2,1,f)]).bind λam=>
 (AL 3 [am]).bind λan=>
 AN (BV (AP BZ 3 56 n an r)) λap aq=>
 (Af .none .add h (.i6 1)).bind λar=>
 w [g,m,c,ap,o,p,ar] aq) (
 (Az (some [(.sl [] .ti)]) []).bind λau=>
 Al (Bu true 1 au i) λs av=>
 bP b (Sh.f24 AM s m n av) λaw t=>
 (Aj s).bind λax=>
 (Ac 0 ax).bind λay=>
 (Ad false 1 ay t).bind λaz=>
 bP b (Sh.f2z az aw t) λu a0=>
 (Aq 0 u).bind λa1=>
 (Aq 1 u).bind λa2=>
 bP b (Av (Ae 1 g a1 a0)) λ_ v=>
 (Cv [Ad true 1 g v,some a2]).bind λa3=>rPN b a3 v)
noncomputable def Sh.f25 (a:Aa)(p:LK)(b e c j k f:Ab)(d:Aa):Out:=
 (Af .none .lss f k).bind λq=>
 Ak q (
 (Aw 5 j f).bind λr=>
 (Ad true 5 r d).bind λs=>
 Al (Ax (some [(.bool false),(.sl [] .ti),(.bool false),(.sl [] .ti),(.int .u8 0)]) d) λg t=>
 bP a (Av (Ae 5 g s t)) λ_ h=>
 (Ac 0 g).bind λu=>
 bC (Ad true 2 u h) (λ_=>True) λv=>
 AN (Sh.f2s v h) λw l=>
 (Ac 2 g).bind λm=>
 bC (Ad true 2 m l) (λi=>Ad true 2 m h=some i/\True) λi=>
 AN (Sh.f2s i l) λx y=>
 (HJ JC c [w,x]).bind λz=>
 (Af .none .add f (.i6 1)).bind λaa=>
 p [b,e,z,j,k,aa] y) (
 (Af .none .gtr c (.i6 1329)).bind λab=>
 Ak ab (
 (Az (some [(.sl [] .ti)]) []).bind λac=>
 bP a (Av (Ae 1 b ac d)) λ_ n=>
 (Cv [Ad true 1 b n,some (.i6 4)]).bind λad=>rPN a ad n) (
 (Af .none .sub c (.i6 1)).bind λae=>
 bP a (Sh.f4x ae d) λaj ak=>
 Al (Ax (some [(.bool false),(.sl [] .ti)]) ak) λo al=>
 bP a (Av (Ae 2 o aj al)) λ_ am=>
 (A7 e).bind λan=>
 Am (λap vs H=>Sh.f30 a ap (ag vs 0) (ag vs 1) (ag vs 2) (ag vs 3) (ag vs 4) (ag vs 5) (ag vs 6) H) AM [b,c,o,(.sl [] .ti),e,an,(.i6 0)] am))
noncomputable def Sh.f31 (d:Ab)(a:Aa):Out:=
 Al (Ax (some [(.sl [] .ti)]) a) λb g=>
 bP a (Sh.f4h d (.fn 84 []) g) λh e=>
 Ak h (
 (Az (some [(.sl [] .ti)]) []).bind λi=>
 bP a (Av (Ae 1 b i e)) λ_ f=>
 (Cv [Ad true 1 b f,some (.i6 1)]).bind λj=>rPN a j f) (
 bP a (Sh.f4q d e) λc k=>
 (A7 c).bind λl=>
 Am (λm vs H=>Sh.f25 a m (ag vs 0) (ag vs 1) (ag vs 2) (ag vs 3) (ag vs 4) (ag vs 5) H) AM [b,c,(.i6 1),c,l,(.i6 0)] k)
noncomputable def Sh.fz (n v:Ab)(a:Aa):Out:=
 Al (Bu true 2 v a) λh w=>
 Al (Ax (some [(.str []),(.sl [] .ti)]) w) λb o=>
 (Ad true 2 h o).bind λx=>
 bP a (Sh.f3u x o) λy i=>
 (unA .not y).bind λz=>
 Ak z (
 (Az (some [(.str []),(.sl [] .ti)]) []).bind λaa=>
 bP a (Av (Ae 2 b aa i)) λ_ p=>
 (Cv [Ad true 2 b p,some (.i6 0),some (.i6 1)]).bind λab=>rPN a ab p) (
 (Az (some [(.str []),(.i6 0)]) [(0,1,n)]).bind λac=>
 (Ad true 2 h i).bind λad=>
 (Az (some [(.str []),(.i6 0),(.i6 0),(.i6 0),(.str []),(.bool false),(.bool false),(.sl [] .ti),(.bool false),(.sl [] .ti),(.i6 0),(.sl [] .ti)]) [(0,2,ac),(2,2,ad),(4,1,(.str [66,51,47,83,50,51]))]).bind λae=>
 Al (Bu true 12 ae i) λf aj=>
 bP a (Sh.f2i (.bfn 59 [f]) aj) λak al=>
 Al (Ax (some [(.i6 0),(.str [])]) al) λj am=>
 bP a (Av (Ae 2 j ak am)) λ_ d=>
 (Ac 0 j).bind λan=>
 (Ad false 1 an d).bind λap=>
 (Af .none .neq ap (.i6 0)).bind λaq=>
 Ak aq (
 (Az (some [(.str []),(.sl [] .ti)]) []).bind λar=>
 AN (Av (Ae 2 b ar d)) λ_ g=>
 (Aj f).bind λau=>
 (Ac 0 au).bind λav=>
 (Ac 1 av).bind λq=>
 bC (Ad false 1 q g) (λk=>Ad false 1 q d=some k/\True) λk=>
 (Ac 0 j).bind λr=>
 bC (Ad false 1 r g) (λl=>Ad false 1 r d=some l/\True) λl=>
 (Cv [Ad true 2 b g,some k,some l]).bind λaw=>rPN a aw g) (
 (Aj f).bind λax=>
 (Ac 11 ax).bind λay=>
 (Ad false 1 ay d).bind λaz=>
 bP a (Sh.f31 az d) λs a0=>
 (Aq 0 s).bind λa1=>
 (Aq 1 s).bind λa2=>
 Al (Ax (some [(.sl [] .ti)]) a0) λm a3=>
 bP a (Av (Ae 1 m a1 a3)) λ_ e=>
 (Af .none .neq a2 (.i6 0)).bind λc=>
 gk c false (Ac 0 m) λa4=>
 gk c false (Ad false 1 a4 e) λa5=>
 gk c false (A7 a5) λa6=>
 gk c false (Ac 1 h) λa7=>
 gk c false (Ad false 1 a7 e) λa8=>
 gk c false (Af .none .gtr a6 a8) λa9=>
 (A5 c (.bool true) a9).bind λba=>
 Ak ba (
 (Az (some [(.str []),(.sl [] .ti)]) []).bind λbb=>
 (BM n).bind λbc=>
 bP a (Av (Ae 2 b bb e)) λ_ t=>
 (Cv [Ad true 2 b t,some bc,some (.i6 4)]).bind λbd=>rPN a bd t) (
 (Aj f).bind λbe=>
 (Ac 4 be).bind λbg=>
 bC (Ad false 1 bg e) (λ_=>True) λbj=>
 bC (Ad true 1 m e) (λ_=>True) λbk=>
 (Az (some [(.str []),(.sl [] .ti)]) [(0,1,bj),(1,1,bk)]).bind λbl=>
 AN (Av (Ae 2 b bl e)) λ_ u=>
 (Cv [Ad true 2 b u,some (.i6 0),some (.i6 0)]).bind λbm=>rPN a bm u)))
noncomputable def Sh.f5d (b:Ab)(c:Aa):Out:=
 (Af .none .geq b (.i6 1)).bind λa=>
 gk a true (some b) λd=>
 gk a true (Af .none .leq d (.i6 5)) λe=>
 (A5 a e (.bool false)).bind λf=>
 rK c f c
noncomputable def Sh.f32 (b:Ab)(c:Aa):Out:=
 (Af .none .geq b (.int .u8 33)).bind λa=>
 gk a true (some b) λd=>
 gk a true (Af .none .leq d (.int .u8 126)) λe=>
 (A5 a e (.bool false)).bind λf=>
 rK c f c
noncomputable def Sh.f8l (c:Aa)(g:LK)(a d:Ab)(e:Aa):Out:=
 (BM a).bind λh=>
 (Af .none .lss d h).bind λi=>
 Ak i (
 (BI a d).bind λj=>
 bK c (Sh.f32 j e) λk f=>
 (unA .not k).bind λl=>
 Ak l (
 rK c (.bool false) f) (
 (Af .none .add d (.i6 1)).bind λm=>
 g [a,m] f)) (
 (BM a).bind λn=>
 (Af .none .geq n (.i6 1)).bind λb=>
 gk b true (some a) λo=>
 gk b true (BM o) λp=>
 gk b true (Af .none .leq p (.i6 40)) λq=>
 (A5 b q (.bool false)).bind λr=>
 rK c r e)
noncomputable def Sh.f5e (b:Ab)(a:Aa):Out:=
 Am (λc vs H=>Sh.f8l a c (ag vs 0) (ag vs 1) H) AM [b,(.i6 0)] a
noncomputable def Sh.f5f (k:Aa)(l:LK)(m:LK)(d e h:Ab)(b:Aa):Out:=
 (Af .none .lss h (.i6 4)).bind λn=>
 Ak n (
 (Aw 5 d e).bind λo=>
 (Ac 1 o).bind λp=>
 (B8 4 1 p h).bind λq=>
 (Ad false 1 q b).bind λg=>
 (Af .none .lss g (.i6 0)).bind λc=>
 gk c false (some d) λr=>
 gk c false (some e) λs=>
 gk c false (Aw 5 r s) λt=>
 gk c false (Ac 0 t) λu=>
 gk c false (Ad false 1 u b) λv=>
 gk c false (Af .none .eql v (.i6 1)) λw=>
 gk c false (some w) λi=>
 gk i true (some g) λx=>
 gk i true (Af .none .gtr x (.i6 255)) λy=>
 gk c false (A5 i y (.bool false)) λz=>
 (A5 c (.bool true) z).bind λaa=>
 Ak aa (
 rK k (.bool false) b) (
 (Aw 5 d e).bind λab=>
 (Ac 0 ab).bind λac=>
 bC (Ad false 1 ac b) (λ_=>True) λad=>
 (Af .none .gtr ad (.i6 1)).bind λj=>
 gk j true (some g) λae=>
 gk j true (Af .none .gtr ae (.i6 0)) λaj=>
 (A5 j aj (.bool false)).bind λf=>
 gk f true (some g) λak=>
 gk f true (some e) λal=>
 gk f true (Af .none .gtr ak al) λam=>
 gk f true (some am) λa=>
 gk a false (some d) λan=>
 gk a false (some g) λap=>
 gk a false (Af .none .sub ap (.i6 1)) λaq=>
 gk a false (Aw 5 an aq) λar=>
 gk a false (Ac 0 ar) λau=>
 gkc a false (Ad false 1 au b) (λ_ _=>True) λav=>
 gk a false (some d) λaw=>
 gk a false (some e) λax=>
 gk a false (Aw 5 aw ax) λay=>
 gk a false (Ac 0 ay) λaz=>
 gkc a false (Ad false 1 az b) (λ_ _=>True) λa0=>
 gk a false (Af .none .sub a0 (.i6 1)) λa1=>
 gk a false (Af .none .neq av a1) λa2=>
 gk f true (A5 a (.bool true) a2) λa3=>
 (A5 f a3 (.bool false)).bind λa4=>
 Ak a4 (
 rK k (.bool false) b) (
 (Af .none .add h (.i6 1)).bind λa5=>
 m [d,e,a5] b))) (
 (Af .none .add e (.i6 1)).bind λa6=>
 l [d,a6] b)
noncomputable def Sh.f5g (e:Aa)(f:LK)(c d:Ab)(b:Aa):Out:=
 (A7 c).bind λg=>
 (Af .none .lss d g).bind λh=>
 Ak h (
 (Aw 5 c d).bind λi=>
 (Ac 0 i).bind λj=>
 (Ad false 1 j b).bind λk=>
 (Af .none .lss k (.i6 1)).bind λa=>
 gk a false (some c) λl=>
 gk a false (some d) λm=>
 gk a false (Aw 5 l m) λn=>
 gk a false (Ac 0 n) λo=>
 gk a false (Ad false 1 o b) λp=>
 gk a false (Af .none .gtr p (.i6 1329)) λq=>
 (A5 a (.bool true) q).bind λr=>
 Ak r (
 rK e (.bool false) b) (
 Am (λs vs H=>Sh.f5f e f s (ag vs 0) (ag vs 1) (ag vs 2) H) AM [c,d,(.i6 0)] b)) (
 rK e (.bool true) b)
noncomputable def Sh.f33 (b:Ab)(a:Aa):Out:=
 Am (λc vs H=>Sh.f5g a c (ag vs 0) (ag vs 1) H) AM [b,(.i6 0)] a
noncomputable def Sh.f5h (j:Aa)(k:LK)(l:LK)(f g c b h:Ab)(d:Aa):Out:=
 (Af .none .lss h (.i6 4)).bind λm=>
 Ak m (
 (Aw 5 f c).bind λn=>
 (Ac 1 n).bind λo=>
 (B8 4 1 o h).bind λp=>
 (Ad false 1 p d).bind λi=>
 gk b true (some i) λq=>
 gk b true (Af .none .eql q (.i6 0)) λr=>
 gk b true (some r) λa=>
 gk a false (some f) λs=>
 gk a false (some c) λt=>
 gk a false (Aw 5 s t) λu=>
 gk a false (Ac 0 u) λv=>
 gk a false (Ad false 1 v d) λw=>
 gk a false (Af .none .gtr w (.i6 1)) λx=>
 gk a false (some x) λe=>
 gk e true (some g) λy=>
 gk e true (some i) λz=>
 gk e true (Aw 1 y z) λaa=>
 gk e true (Ad false 1 aa d) λab=>
 gk a false (A5 e ab (.bool false)) λac=>
 gk b true (A5 a (.bool true) ac) λad=>
 (A5 b ad (.bool false)).bind λae=>
 (Af .none .add h (.i6 1)).bind λaj=>
 l [f,g,c,ae,aj] d) (
 (Af .none .add c (.i6 1)).bind λak=>
 (Aw 1 g ak).bind λal=>
 bP j (Av (Ae 1 al b d)) λ_ am=>
 (Af .none .add c (.i6 1)).bind λan=>
 k [f,g,an] am)
noncomputable def Sh.f5i (a:Aa)(f:LK)(b c d:Ab)(e:Aa):Out:=
 (A7 b).bind λg=>
 (Af .none .lss d g).bind λh=>
 Ak h (
 Am (λi vs H=>Sh.f5h a f i (ag vs 0) (ag vs 1) (ag vs 2) (ag vs 3) (ag vs 4) H) AM [b,c,d,(.bool true),(.i6 0)] e) (
 rPN a c e)
noncomputable def Sh.f1i (b:Ab)(a:Aa):Out:=
 (A7 b).bind λe=>
 (Af .none .add e (.i6 1)).bind λc=>
 Al (F5 1 1 (some [(.bool false)]) c c a) λd f=>
 (Aw 1 d (.i6 0)).bind λg=>
 bP a (Av (Ae 1 g (.bool true) f)) λ_ h=>
 Am (λi vs H=>Sh.f5i a i (ag vs 0) (ag vs 1) (ag vs 2) H) AM [b,d,(.i6 0)] h
noncomputable def Sh.f34 (n:Aa)(o:LK)(p:LK)(e f h i j g:Ab)(c:Aa):Out:=
 (Af .none .lss g (.i6 4)).bind λk=>
 gk k true (some j) λq=>
 gk k true (Af .none .gtr q (.i6 0)) λr=>
 (A5 k r (.bool false)).bind λs=>
 Ak s (
 (Af .none .sub j (.i6 1)).bind λt=>
 (Aw 5 e t).bind λu=>
 (Ac 1 u).bind λv=>
 (B8 4 1 v g).bind λw=>
 (Ad false 1 w c).bind λm=>
 (Af .none .sub (.i6 3) i).bind λx=>
 (Af .none .neq g x).bind λa=>
 gk a true (some e) λy=>
 gk a true (some f) λz=>
 gk a true (Af .none .sub z (.i6 1)) λaa=>
 gk a true (Aw 5 y aa) λab=>
 gk a true (Ac 0 ab) λac=>
 gk a true (Ad false 1 ac c) λad=>
 gk a true (Af .none .eql ad (.i6 2)) λae=>
 gk a true (some ae) λl=>
 gk l true (some m) λaj=>
 gk l true (Af .none .neq aj (.i6 0)) λak=>
 gk a true (A5 l ak (.bool false)) λal=>
 gk a true (some al) λb=>
 gk b false (some e) λam=>
 gk b false (some f) λan=>
 gk b false (Af .none .sub an (.i6 1)) λap=>
 gk b false (Aw 5 am ap) λaq=>
 gk b false (Ac 0 aq) λar=>
 gk b false (Ad false 1 ar c) λau=>
 gk b false (Af .none .gtr au (.i6 2)) λav=>
 gk b false (some av) λd=>
 gk d true (some h) λaw=>
 gk d true (some m) λax=>
 gk d true (Aw 1 aw ax) λay=>
 gk d true (Ad false 1 ay c) λaz=>
 gk d true (unA .not az) λa0=>
 gk b false (A5 d a0 (.bool false)) λa1=>
 gk a true (A5 b (.bool true) a1) λa2=>
 (A5 a a2 (.bool false)).bind λa3=>
 Ak a3 (
 rK n (.bool false) c) (
 (Af .none .add g (.i6 1)).bind λa4=>
 p [e,f,h,i,j,a4] c)) (
 (Af .none .add i (.i6 1)).bind λa5=>
 o [e,f,h,a5] c)
noncomputable def Sh.f5j (c:Aa)(f:LK)(d e g a:Ab)(b:Aa):Out:=
 (Af .none .lss a (.i6 4)).bind λh=>
 Ak h (
 (Af .none .sub e (.i6 1)).bind λi=>
 (Aw 5 d i).bind λj=>
 (Ac 1 j).bind λk=>
 (B8 4 1 k a).bind λl=>
 (Ad false 1 l b).bind λm=>
 Am (λn vs H=>Sh.f34 c f n (ag vs 0) (ag vs 1) (ag vs 2) (ag vs 3) (ag vs 4) (ag vs 5) H) AM [d,e,g,a,m,(.i6 0)] b) (
 rK c (.bool true) b)
noncomputable def Sh.f35 (c d:Ab)(b:Aa):Out:=
 (Af .none .eql d (.i6 0)).bind λa=>
 gk a false (some c) λe=>
 gk a false (some d) λf=>
 gk a false (Af .none .sub f (.i6 1)) λg=>
 gk a false (Aw 5 e g) λh=>
 gk a false (Ac 0 h) λi=>
 gk a false (Ad false 1 i b) λj=>
 gk a false (Af .none .lss j (.i6 2)) λk=>
 (A5 a (.bool true) k).bind λl=>
 Ak l (
 rK b (.bool false) b) (
 bK b (Sh.f1i c b) λm n=>
 Am (λo vs H=>Sh.f5j b o (ag vs 0) (ag vs 1) (ag vs 2) (ag vs 3) H) AM [c,d,m,(.i6 0)] n)
noncomputable def Sh.f36 (h:Aa)(a:LK)(b c d e:Ab)(f:Aa):Out:=
 (Af .none .add e (.i6 1)).bind λg=>
 a [b,c,d,g] f
noncomputable def Sh.f5k (f:Aa)(self:Ab->Ab->Ab->Aa->Out)(h:LK)(b c g e:Ab)(d:Aa):Out:=
 (Af .none .lss e (.i6 4)).bind λi=>
 Ak i (
 AI (λj3=>
 (Af .none .sub c (.i6 1)).bind λj=>
 (Aw 5 b j).bind λk=>
 (Ac 0 k).bind λl=>
 (Ad false 1 l d).bind λm=>
 (Af .none .gtr m (.i6 1)).bind λa=>
 gk a true (some b) λn=>
 gk a true (some c) λo=>
 gk a true (Af .none .sub o (.i6 1)) λp=>
 gk a true (some e) λq=>
 gk a true (Aw 5 n p) λr=>
 gk a true (Ac 1 r) λs=>
 gk a true (B8 4 1 s q) λt=>
 gk a true (Ad false 1 t d) λu=>
 gk a true (Af .none .gtr u (.i6 0)) λv=>
 (A5 a v (.bool false)).bind λw=>
 Ak w (
 (Af .none .sub c (.i6 1)).bind λx=>
 (Aw 5 b x).bind λy=>
 (Ac 1 y).bind λz=>
 (B8 4 1 z e).bind λaa=>
 (Ad false 1 aa d).bind λab=>
 bK f (self b ab g d) λac ad=>
 j3 [b,c,ac,e] ad) (
 j3 [b,c,g,e] d)) (λvs H=>Sh.f36 f h (ag vs 0) (ag vs 1) (ag vs 2) (ag vs 3) H)) (
 (AL 1 [c]).bind λae=>
 bK f (BV (AP EV 1 8 g ae d)) λaj ak=>
 rK f aj ak)
noncomputable def Sh.f5l (e:Aa)(self:Ab->Ab->Ab->Aa->Out)(g:LK)(f c a d:Ab)(b:Aa):Out:=
 (A7 a).bind λh=>
 (Af .none .lss d h).bind λi=>
 Ak i (
 (Aw 1 a d).bind λj=>
 (Ad false 1 j b).bind λk=>
 (Af .none .eql k c).bind λl=>
 Ak l (
 rK e a b) (
 (Af .none .add d (.i6 1)).bind λm=>
 g [f,c,a,m] b)) (
 Am (λn vs H=>Sh.f5k e self n (ag vs 0) (ag vs 1) (ag vs 2) (ag vs 3) H) AM [f,c,a,(.i6 0)] b)
noncomputable def Sh.f7t (self:Ab->Ab->Ab->Aa->Out)(b c d:Ab)(a:Aa):Out:=
 Am (λe vs H=>Sh.f5l a self e (ag vs 0) (ag vs 1) (ag vs 2) (ag vs 3) H) AM [b,c,d,(.i6 0)] a
noncomputable def Sh.fj:Nat->Ab->Ab->Ab->Aa->Out
 | 0=>λ_ _ _ _=>none
 | d+1=>Sh.f7t (Sh.fj d)
noncomputable def Sh.f5m (f:Aa)(g:LK)(h:LK)(b e c d:Ab)(a:Aa):Out:=
 (Af .none .lss d c).bind λi=>
 Ak i (
 (Aw 5 b c).bind λj=>
 bC (Ad true 5 j a) (λ_=>True) λk=>
 (Aw 5 b d).bind λl=>
 bC (Ad true 5 l a) (λ_=>True) λm=>
 (Af (.flat 5) .eql k m).bind λn=>
 Ak n (
 rP f (.bool false) a) (
 (Af .none .add d (.i6 1)).bind λo=>
 h [b,e,c,o] a)) (
 (Af .none .add c (.i6 1)).bind λp=>
 g [b,e,p] a)
noncomputable def Sh.f5n (d:Aa)(f:LK)(e a b:Ab)(c:Aa):Out:=
 (A7 a).bind λg=>
 (Af .none .lss b g).bind λh=>
 Ak h (
 (Aw 1 a b).bind λi=>
 (Ad false 1 i c).bind λj=>
 (Af .none .add b (.i6 1)).bind λk=>
 (Af .none .neq j k).bind λl=>
 Ak l (
 rP d (.bool false) c) (
 (Af .none .add b (.i6 1)).bind λm=>
 f [e,a,m] c)) (
 (A7 a).bind λn=>
 (A7 e).bind λo=>
 (Af .none .eql n o).bind λp=>
 rP d p c)
noncomputable def Sh.f5o (b:Aa)(f:LK)(a e d:Ab)(c:Aa):Out:=
 (A7 a).bind λg=>
 (Af .none .lss d g).bind λh=>
 Ak h (
 (Af .none .add d (.i6 1)).bind λi=>
 (Aw 1 e i).bind λj=>
 (Ad false 1 j c).bind λk=>
 Ak k (
 rP b (.bool false) c) (
 Am (λl vs H=>Sh.f5m b f l (ag vs 0) (ag vs 1) (ag vs 2) (ag vs 3) H) AM [a,e,d,(.i6 0)] c)) (
 (A7 a).bind λm=>
 bP b (Sh.fj AM a m (.sl [] .ti) c) λn o=>
 Am (λp vs H=>Sh.f5n b p (ag vs 0) (ag vs 1) (ag vs 2) H) AM [a,n,(.i6 0)] o)
noncomputable def Sh.f5p (g:Ab)(a:Aa):Out:=
 Al (Bu true 1 g a) λh d=>
 (Ac 0 h).bind λi=>
 (Ad false 1 i d).bind λb=>
 (A7 b).bind λj=>
 (Af .none .eql j (.i6 0)).bind λk=>
 Ak k (
 rP a (.bool true) d) (
 bP a (Sh.f33 b d) λl e=>
 (unA .not l).bind λc=>
 gk c false (some b) λm=>
 gk c false (some b) λn=>
 gk c false (A7 n) λo=>
 gbP a c false e (Sh.f35 m o e) λp f=>
 (A5 c (.bool true) p).bind λq=>
 Ak q (
 rP a (.bool false) f) (
 bP a (Sh.f1i b f) λr s=>
 Am (λt vs H=>Sh.f5o a t (ag vs 0) (ag vs 1) (ag vs 2) H) AM [b,r,(.i6 0)] s))
noncomputable def Sh.f5q (f:Ab)(a:Aa):Out:=
 Al (Bu true 2 f a) λd e=>
 (Ac 0 d).bind λg=>
 (Ad false 1 g e).bind λh=>
 bP a (Sh.f5e h e) λb c=>
 gk b true (Ac 1 d) λi=>
 gk b true (Ad true 1 i c) λj=>
 gbP a b true c (Sh.f5p j c) λk l=>
 (A5 b k (.bool false)).bind λm=>
 rP a m l
noncomputable def Sh.f26 (g:Ab)(f:Aa):Out:=
 Al (Bu true 2 g f) λb a=>
 (Ac 0 b).bind λh=>
 (Ad false 1 h a).bind λi=>
 (Af .none .geq i (.i6 0)).bind λc=>
 gk c true (Ac 0 b) λj=>
 gk c true (Ad false 1 j a) λk=>
 gk c true (Af .none .leq k (.i6 1000)) λl=>
 (A5 c l (.bool false)).bind λd=>
 gk d true (Ac 1 b) λm=>
 gk d true (Ad false 1 m a) λn=>
 gk d true (Af .none .geq n (.i6 0)) λo=>
 (A5 d o (.bool false)).bind λe=>
 gk e true (Ac 1 b) λp=>
 gk e true (Ad false 1 p a) λq=>
 gk e true (Af .none .leq q (.i6 100000)) λr=>
 (A5 e r (.bool false)).bind λs=>
 rP f s a
noncomputable def Sh.f5r (d:Aa)(e:LK)(b:Ab)(c:Aa):Out:=
 (A7 b).bind λf=>
 (Af .none .gtr f (.i6 0)).bind λa=>
 gk a true (some b) λg=>
 gk a true (some b) λh=>
 gk a true (A7 h) λi=>
 gk a true (Af .none .sub i (.i6 1)) λj=>
 gk a true (Aw 1 g j) λk=>
 gk a true (Ad false 1 k c) λl=>
 gk a true (unA .not l) λm=>
 (A5 a m (.bool false)).bind λn=>
 Ak n (
 (A7 b).bind λo=>
 (Af .none .sub o (.i6 1)).bind λp=>
 (Bw 1 b none (some p) none).bind λq=>
 e [q] c) (
 rKN d b c)
noncomputable def Sh.f27 (b:Ab)(a:Aa):Out:=
 Am (λc vs H=>Sh.f5r a c (ag vs 0) H) AM [b] a
noncomputable def Sh.f7u (g:Aa)(h:LK)(i:LK)(a b c d e:Ab)(f:Aa):Out:=
 (Af .none .lss e (.i6 32)).bind λj=>
 Ak j (
 (Af .none .rem d (.int .u32 2)).bind λk=>
 (Af .none .eql k (.int .u32 1)).bind λl=>
 (AL 1 [l]).bind λm=>
 bP g (BV (AP Ci 1 1 b m f)) λn o=>
 (Af .none .quo d (.int .u32 2)).bind λp=>
 (Af .none .add e (.i6 1)).bind λq=>
 i [a,n,c,p,q] o) (
 (Af .none .add c (.i6 1)).bind λr=>
 h [a,b,r] f)
noncomputable def Sh.f37 (a:Aa)(f:LK)(b e c:Ab)(d:Aa):Out:=
 (A7 b).bind λg=>
 (Af .none .lss c g).bind λh=>
 Ak h (
 (Aw 1 b c).bind λi=>
 (Ad false 1 i d).bind λj=>
 Am (λk vs H=>Sh.f7u a f k (ag vs 0) (ag vs 1) (ag vs 2) (ag vs 3) (ag vs 4) H) AM [b,e,c,j,(.i6 0)] d) (
 bP a (Sh.f27 e d) λl m=>
 rPN a l m)
noncomputable def Sh.f6 (b:Ab)(a:Aa):Out:=
 Am (λc vs H=>Sh.f37 a c (ag vs 0) (ag vs 1) (ag vs 2) H) AM [b,(.sl [] .ti),(.i6 0)] a
noncomputable def Sh.f7v (k:Aa)(a:LK)(b c d e f g:Ab)(h:Aa):Out:=
 (Af .none .mul f (.int .u32 2)).bind λi=>
 (Af .none .add g (.i6 1)).bind λj=>
 a [b,c,d,e,i,j] h
noncomputable def Sh.f8m (i:Aa)(j:LK)(k:LK)(a f d g h b:Ab)(e:Aa):Out:=
 (A7 a).bind λl=>
 (Af .none .lss b l).bind λc=>
 gk c true (some b) λm=>
 gk c true (some d) λn=>
 gk c true (Af .none .add n (.i6 32)) λo=>
 gk c true (Af .none .lss m o) λp=>
 (A5 c p (.bool false)).bind λq=>
 Ak q (
 AI (λj3=>
 (Aw 1 a b).bind λr=>
 (Ad false 1 r e).bind λs=>
 Ak s (
 (Af .none .add g h).bind λt=>
 j3 [a,f,d,t,h,b] e) (
 j3 [a,f,d,g,h,b] e)) (λvs H=>Sh.f7v i k (ag vs 0) (ag vs 1) (ag vs 2) (ag vs 3) (ag vs 4) (ag vs 5) H)) (
 (AL 1 [g]).bind λu=>
 bP i (BV (AP BA 1 4 f u e)) λv w=>
 (Af .none .add d (.i6 32)).bind λx=>
 j [a,v,x] w)
noncomputable def Sh.f5s (b:Aa)(f:LK)(c d a:Ab)(e:Aa):Out:=
 (A7 c).bind λg=>
 (Af .none .lss a g).bind λh=>
 Ak h (
 Am (λi vs H=>Sh.f8m b f i (ag vs 0) (ag vs 1) (ag vs 2) (ag vs 3) (ag vs 4) (ag vs 5) H) AM [c,d,a,(.int .u32 0),(.int .u32 1),a] e) (
 rPN b d e)
noncomputable def Sh.fs (b:Ab)(a:Aa):Out:=
 bP a (Sh.f27 b a) λc d=>
 Am (λe vs H=>Sh.f5s a e (ag vs 0) (ag vs 1) (ag vs 2) H) AM [c,(.sl [] .ti),(.i6 0)] d
noncomputable def Sh.f10 (b:Ab)(a:Aa):Out:=
 bK a (Sh.f6 b a) λc d=>
 bK a (Sh.fs c d) λe f=>
 rKN a e f
noncomputable def Sh.fg (a f:Ab)(b:Aa):Out:=
 Al (Ax (some [(.bool false),(.sl [] .ti)]) b) λc g=>
 bP b (Sh.f10 f g) λd h=>
 gk a true (some d) λi=>
 gk a true (A7 i) λj=>
 gk a true (Af .none .gtr j (.i6 0)) λk=>
 (A5 a k (.bool false)).bind λl=>
 (Az (some [(.bool false),(.sl [] .ti)]) [(0,1,l),(1,1,d)]).bind λm=>
 bP b (Av (Ae 2 c m h)) λ_ e=>
 (Ad true 2 c e).bind λn=>rPN b n e
noncomputable def Sh.f7w (a:Aa)(e b c:Ab)(f:Aa):Out:=
 (Af .none .lss e (.i6 0)).bind λg=>
 (Af .none .rem c (.int .u64 4294967296)).bind λh=>
 (AA .u32 h).bind λi=>
 (Af .none .quo c (.int .u64 4294967296)).bind λj=>
 (AA .u32 j).bind λk=>
 (AL 1 [i,k]).bind λl=>
 bP a (Sh.fg g l f) λm n=>
 bP a (Av (Ae 2 b m n)) λ_ d=>
 (Ad true 2 b d).bind λo=>rPN a o d
noncomputable def Sh.fk (a:Ab)(b:Aa):Out:=
 Al (Ax (some [(.bool false),(.sl [] .ti)]) b) λc d=>
 (AA .u64 a).bind λe=>
 AI (λj1=>
 (Af .none .lss a (.i6 0)).bind λf=>
 Ak f (
 (unA .neg e).bind λg=>
 j1 [a,c,g] d) (
 j1 [a,c,e] d)) (λvs H=>Sh.f7w b (ag vs 0) (ag vs 1) (ag vs 2) H)
noncomputable def Sh.f5t (d a:Ab)(b:Aa):Out:=
 (Af .none .lss a (.i6 0)).bind λc=>
 gk c false (some a) λe=>
 gk c false (Af .none .gtr e (.i6 10000)) λf=>
 (A5 c (.bool true) f).bind λg=>
 Ak g (
 rPN b (.sl [] .ti) b) (
 AN (Sh.f6 d b) λh i=>
 Al (F5 1 1 (some [(.bool false)]) a a i) λj k=>
 AN (BV (AP Ci 1 1 j h k)) λl m=>
 AN (Sh.fs l m) λn o=>
 rPN b n o)
noncomputable def Sh.f5u (i j:Ab)(a:Aa):Out:=
 Al (Bu true 2 i a) λd k=>
 Al (Ax (some [(.bool false),(.sl [] .ti)]) k) λe b=>
 (Ac 1 d).bind λl=>
 bC (Ad false 1 l b) (λ_=>True) λm=>
 AN (Sh.f5t m j b) λn f=>
 (Ac 0 d).bind λg=>
 bC (Ad false 1 g f) (λc=>Ad false 1 g b=some c/\True) λc=>
 AN (Sh.fg c n f) λo p=>
 bP a (Av (Ae 2 e o p)) λ_ h=>
 (Ad true 2 e h).bind λq=>rPN a q h
noncomputable def Sh.f7 (d:Ab)(a:Aa):Out:=
 Al (Ax (some [(.bool false),(.sl [] .ti)]) a) λb e=>
 bP a (Sh.fk (.i6 1) e) λf g=>
 bP a (Sh.f5u f d g) λh i=>
 bP a (Av (Ae 2 b h i)) λ_ c=>
 (Ad true 2 b c).bind λj=>rPN a j c
noncomputable def Sh.f8 (e c:Ab)(d:Aa):Out:=
 (Af .none .geq c (.i6 0)).bind λa=>
 gk a true (some c) λf=>
 gk a true (some e) λg=>
 gk a true (A7 g) λh=>
 gk a true (Af .none .lss f h) λi=>
 (A5 a i (.bool false)).bind λb=>
 gk b true (some e) λj=>
 gk b true (some c) λk=>
 gk b true (Aw 1 j k) λl=>
 gk b true (Ad false 1 l d) λm=>
 (A5 b m (.bool false)).bind λn=>
 rK d n d
noncomputable def Sh.f8n (b:Aa)(c:LK)(d e f g a:Ab)(h:Aa):Out:=
 (Af .none .rem a (.i6 2)).bind λi=>
 (Af .none .eql i (.i6 1)).bind λj=>
 (AL 1 [j]).bind λk=>
 bP b (BV (AP Ci 1 1 f k h)) λl m=>
 (Af .none .gtr a (.i6 1)).bind λn=>
 (Af .none .add g (.i6 1)).bind λo=>
 c [d,e,l,n,o] m
noncomputable def Sh.f8o (g:Aa)(h:LK)(a b c i d e:Ab)(f:Aa):Out:=
 AI (λj4=>
 Ak i (
 (Af .none .add e (.i6 1)).bind λj=>
 j4 [a,b,c,d,j] f) (
 j4 [a,b,c,d,e] f)) (λvs H=>Sh.f8n g h (ag vs 0) (ag vs 1) (ag vs 2) (ag vs 3) (ag vs 4) H)
noncomputable def Sh.f8p (c:Aa)(i:LK)(d a e f b g:Ab)(j:Aa):Out:=
 AI (λj3=>
 bP c (Sh.f8 a b j) λk h=>
 Ak k (
 (Af .none .add g (.i6 1)).bind λl=>
 j3 [d,a,e,f,b,l] h) (
 j3 [d,a,e,f,b,g] h)) (λvs H=>Sh.f8o c i (ag vs 0) (ag vs 1) (ag vs 2) (ag vs 3) (ag vs 4) (ag vs 5) H)
noncomputable def Sh.f8q (a:Aa)(i:LK)(b d e f c:Ab)(g:Aa):Out:=
 (A7 b).bind λj=>
 (A7 d).bind λk=>
 (HJ JC j [k]).bind λl=>
 (Af .none .leq c l).bind λm=>
 Ak m (
 AI (λj2=>
 bP a (Sh.f8 b c g) λn h=>
 Ak n (
 (Af .none .add (.i6 0) (.i6 1)).bind λo=>
 j2 [b,d,e,f,c,o] h) (
 j2 [b,d,e,f,c,(.i6 0)] h)) (λvs H=>Sh.f8p a i (ag vs 0) (ag vs 1) (ag vs 2) (ag vs 3) (ag vs 4) (ag vs 5) H)) (
 bP a (Sh.fs e g) λp q=>
 rPN a p q)
noncomputable def Sh.f5v (b c:Ab)(a:Aa):Out:=
 bP a (Sh.f6 b a) λd e=>
 bP a (Sh.f6 c e) λf g=>
 Am (λh vs H=>Sh.f8q a h (ag vs 0) (ag vs 1) (ag vs 2) (ag vs 3) (ag vs 4) H) AM [d,f,(.sl [] .ti),(.bool false),(.i6 0)] g
noncomputable def Sh.f8r (a:Aa)(h:LK)(c d b:Ab)(e:Aa):Out:=
 (Af .none .geq b (.i6 0)).bind λi=>
 Ak i (
 bK a (Sh.f8 c b e) λj k=>
 bK a (Sh.f8 d b k) λl f=>
 (Af .bool .neq j l).bind λm=>
 Ak m (
 bK a (Sh.f8 c b f) λn g=>
 Ak n (
 rK a (.i6 1) g) (
 rK a (.i6 (-1)) g)) (
 (Af .none .sub b (.i6 1)).bind λo=>
 h [c,d,o] f)) (
 rK a (.i6 0) e)
noncomputable def Sh.f5w (d e:Ab)(a:Aa):Out:=
 bK a (Sh.f6 d a) λb f=>
 bK a (Sh.f6 e f) λc g=>
 (A7 b).bind λh=>
 (A7 c).bind λi=>
 (HJ JC h [i]).bind λj=>
 (Af .none .sub j (.i6 1)).bind λk=>
 Am (λl vs H=>Sh.f8r a l (ag vs 0) (ag vs 1) (ag vs 2) H) AM [b,c,k] g
noncomputable def Sh.f8s (a:Aa)(b:LK)(c d e f g h:Ab)(i:Aa):Out:=
 (Af .none .eql h (.i6 1)).bind λj=>
 (AL 1 [j]).bind λk=>
 bP a (BV (AP Ci 1 1 e k i)) λl m=>
 (Af .none .add g (.i6 1)).bind λn=>
 b [c,d,l,f,n] m
noncomputable def Sh.f8t (g:Aa)(h:LK)(b c d e a:Ab)(f:Aa):Out:=
 AI (λj4=>
 (Af .none .lss a (.i6 0)).bind λi=>
 Ak i (
 (Af .none .add a (.i6 2)).bind λj=>
 j4 [b,c,d,(.i6 1),e,j] f) (
 j4 [b,c,d,(.i6 0),e,a] f)) (λvs H=>Sh.f8s g h (ag vs 0) (ag vs 1) (ag vs 2) (ag vs 3) (ag vs 4) (ag vs 5) H)
noncomputable def Sh.f8u (c:Aa)(h:LK)(d a e b f:Ab)(i:Aa):Out:=
 AI (λj3=>
 bP c (Sh.f8 a b i) λj g=>
 Ak j (
 (Af .none .sub f (.i6 1)).bind λk=>
 j3 [d,a,e,b,k] g) (
 j3 [d,a,e,b,f] g)) (λvs H=>Sh.f8t c h (ag vs 0) (ag vs 1) (ag vs 2) (ag vs 3) (ag vs 4) H)
noncomputable def Sh.f8v (a:Aa)(i:LK)(b e d j c:Ab)(f:Aa):Out:=
 (A7 b).bind λk=>
 (Af .none .lss c k).bind λl=>
 Ak l (
 (unA .neg j).bind λg=>
 AI (λj2=>
 bP a (Sh.f8 b c f) λm h=>
 Ak m (
 (Af .none .add g (.i6 1)).bind λn=>
 j2 [b,e,d,c,n] h) (
 j2 [b,e,d,c,g] h)) (λvs H=>Sh.f8u a i (ag vs 0) (ag vs 1) (ag vs 2) (ag vs 3) (ag vs 4) H)) (
 bP a (Sh.fs d f) λo p=>
 rPN a (.tup [o,(.bool true)]) p)
noncomputable def Sh.f38 (b c:Ab)(a:Aa):Out:=
 bP a (Sh.f5w b c a) λe d=>
 (Af .none .lss e (.i6 0)).bind λf=>
 Ak f (
 rPN a (.tup [(.sl [] .ti),(.bool false)]) d) (
 bP a (Sh.f6 b d) λg h=>
 bP a (Sh.f6 c h) λi j=>
 Am (λk vs H=>Sh.f8v a k (ag vs 0) (ag vs 1) (ag vs 2) (ag vs 3) (ag vs 4) H) AM [g,i,(.sl [] .ti),(.i6 0),(.i6 0)] j)
noncomputable def Sh.f0 (p q:Ab)(a:Aa):Out:=
 Al (Bu true 2 p a) λc r=>
 Al (Bu true 2 q r) λe s=>
 Al (Ax (some [(.bool false),(.sl [] .ti)]) s) λd b=>
 (Ac 0 c).bind λt=>
 (Ad false 1 t b).bind λu=>
 (Ac 0 e).bind λv=>
 (Ad false 1 v b).bind λw=>
 (Af .bool .eql u w).bind λx=>
 Ak x (
 (Ac 1 c).bind λy=>
 bC (Ad false 1 y b) (λ_=>True) λz=>
 (Ac 1 e).bind λaa=>
 bC (Ad false 1 aa b) (λ_=>True) λab=>
 AN (Sh.f5v z ab b) λac h=>
 (Ac 0 c).bind λi=>
 bC (Ad false 1 i h) (λg=>Ad false 1 i b=some g/\True) λg=>
 AN (Sh.fg g ac h) λad ae=>
 bP a (Av (Ae 2 d ad ae)) λ_ j=>
 (Ad true 2 d j).bind λaj=>rPN a aj j) (
 (Ac 1 c).bind λak=>
 (Ad false 1 ak b).bind λal=>
 (Ac 1 e).bind λam=>
 (Ad false 1 am b).bind λan=>
 bP a (Sh.f38 al an b) λk f=>
 (Aq 0 k).bind λap=>
 (Aq 1 k).bind λaq=>
 Ak aq (
 (Ac 0 c).bind λar=>
 (Ad false 1 ar f).bind λau=>
 bP a (Sh.fg au ap f) λav aw=>
 bP a (Av (Ae 2 d av aw)) λ_ l=>
 (Ad true 2 d l).bind λax=>rPN a ax l) (
 (Ac 1 e).bind λay=>
 (Ad false 1 ay f).bind λaz=>
 (Ac 1 c).bind λa0=>
 (Ad false 1 a0 f).bind λa1=>
 bP a (Sh.f38 az a1 f) λm n=>
 (Aq 0 m).bind λa2=>
 (Aq 1 m).bind λa8=>
 (Ac 0 e).bind λa3=>
 (Ad false 1 a3 n).bind λa4=>
 bP a (Sh.fg a4 a2 n) λa5 a6=>
 bP a (Av (Ae 2 d a5 a6)) λ_ o=>
 (Ad true 2 d o).bind λa7=>rPN a a7 o))
noncomputable def Sh.fh (f:Ab)(a:Aa):Out:=
 Al (Bu true 2 f a) λc g=>
 Al (Ax (some [(.bool false),(.sl [] .ti)]) g) λd b=>
 (Ac 0 c).bind λh=>
 (Ad false 1 h b).bind λi=>
 (unA .not i).bind λj=>
 (Ac 1 c).bind λk=>
 (Ad false 1 k b).bind λl=>
 bP a (Sh.fg j l b) λm n=>
 bP a (Av (Ae 2 d m n)) λ_ e=>
 (Ad true 2 d e).bind λo=>rPN a o e
noncomputable def Sh.fl (h i:Ab)(a:Aa):Out:=
 Al (Bu true 2 h a) λd j=>
 Al (Bu true 2 i j) λk l=>
 Al (Ax (some [(.bool false),(.sl [] .ti)]) l) λe b=>
 bC (Ad true 2 k b) (λ_=>True) λm=>
 AN (Sh.fh m b) λn f=>
 bC (Ad true 2 d f) (λc=>Ad true 2 d b=some c/\True) λc=>
 AN (Sh.f0 c n f) λo p=>
 bP a (Av (Ae 2 e o p)) λ_ g=>
 (Ad true 2 e g).bind λq=>rPN a q g
noncomputable def Sh.f1 (e f:Ab)(a:Aa):Out:=
 Al (Bu true 2 e a) λg h=>
 Al (Bu true 2 f h) λi c=>
 (Ad true 2 g c).bind λj=>
 (Ad true 2 i c).bind λk=>
 bP a (Sh.fl j k c) λl m=>
 Al (Ax (some [(.bool false),(.sl [] .ti)]) m) λd n=>
 bP a (Av (Ae 2 d l n)) λ_ b=>
 (Ac 1 d).bind λo=>
 (Ad false 1 o b).bind λp=>
 (A7 p).bind λq=>
 (Af .none .eql q (.i6 0)).bind λr=>
 Ak r (
 rP a (.i6 0) b) (
 (Ac 0 d).bind λs=>
 (Ad false 1 s b).bind λt=>
 Ak t (
 rP a (.i6 (-1)) b) (
 rP a (.i6 1) b))
noncomputable def Sh.f1j (l:Aa)(a:LK)(b c d e f g h i:Ab)(j:Aa):Out:=
 (Af .none .add i (.i6 1)).bind λk=>
 a [b,c,d,e,f,g,h,k] j
noncomputable def Sh.f39 (m:Aa)(j3:LK)(f g h b c i j k l:Ab)(d:Aa):Out:=
 (unA .not j).bind λa=>
 gkc a false (Ad true 2 l d) (λ_ _=>True) λn=>
 gk a false (some b) λo=>
 gk a false (some c) λp=>
 gk a false (Af .none .add p (.i6 1)) λq=>
 gk a false (Aw 2 o q) λr=>
 gkc a false (Ad true 2 r d) (λ_ _=>True) λs=>
 gbN a false d (Sh.f1 n s d) λt e=>
 gk a false (Af .none .lss t (.i6 0)) λu=>
 (A5 a (.bool true) u).bind λv=>
 Ak v (
 (Af .none .add c (.i6 1)).bind λw=>
 bC (Ad true 2 l e) (λ_=>True) λx=>
 (Aw 2 b w).bind λy=>
 bP m (Av (Ae 2 y x e)) λ_ z=>
 j3 [f,g,h,b,c,i,(.bool true),k] z) (
 j3 [f,g,h,b,c,i,j,k] e)
noncomputable def Sh.f5x (g:Aa)(j3:LK)(a h i d b j k l o m:Ab)(e:Aa):Out:=
 (Aw 5 a b).bind λp=>
 (Ac 1 p).bind λq=>
 (B8 4 1 q o).bind λr=>
 (Ad false 1 r e).bind λn=>
 (Af .none .eql n (.i6 0)).bind λs=>
 Ak s (
 j3 [a,h,i,d,b,j,k,l] e) (
 (Ad true 2 m e).bind λt=>
 Al (Ax (some [(.bool false),(.sl [] .ti)]) e) λf u=>
 bP g (Av (Ae 2 f t u)) λ_ c=>
 AI (λj5=>
 (Aw 5 a b).bind λv=>
 (Ac 0 v).bind λw=>
 (Ad false 1 w c).bind λx=>
 (Af .none .gtr x (.i6 1)).bind λy=>
 Ak y (
 bC (Ad true 2 m c) (λ_=>True) λz=>
 (Aw 2 d n).bind λaa=>
 bC (Ad true 2 aa c) (λ_=>True) λab=>
 AN (Sh.f0 z ab c) λac ad=>
 bP g (Av (Ae 2 f ac ad)) λ_ ae=>
 j5 [a,h,i,d,b,j,k,l,f] ae) (
 j5 [a,h,i,d,b,j,k,l,f] c)) (λvs H=>Sh.f39 g j3 (ag vs 0) (ag vs 1) (ag vs 2) (ag vs 3) (ag vs 4) (ag vs 5) (ag vs 6) (ag vs 7) (ag vs 8) H))
noncomputable def Sh.f5y (b:Aa)(m:LK)(n:LK)(g c d h i j l a:Ab)(k:Aa):Out:=
 (Af .none .lss a (.i6 4)).bind λo=>
 Ak o (
 AI (λj3=>
 (Af .none .rem a (.i6 2)).bind λp=>
 (B8 2 1 c p).bind λq=>
 (Ad false 1 q k).bind λr=>
 (Az (some [(.bool false),(.sl [] .ti)]) []).bind λs=>
 Al (Ax (some [(.bool false),(.sl [] .ti)]) k) λe t=>
 bP b (Av (Ae 2 e s t)) λ_ f=>
 AI (λj4=>
 (Af .none .gtr a (.i6 1)).bind λu=>
 Ak u (
 (Af .none .rem a (.i6 2)).bind λv=>
 (B8 2 1 d v).bind λw=>
 bC (Ad false 1 w f) (λ_=>True) λx=>
 bC (Ad true 2 j f) (λ_=>True) λy=>
 bP b (Av (Ae 2 e y f)) λ_ z=>
 j4 [g,c,d,h,i,j,l,a,x,e] z) (
 j4 [g,c,d,h,i,j,l,a,r,e] f)) (λvs H=>Sh.f5x b j3 (ag vs 0) (ag vs 1) (ag vs 2) (ag vs 3) (ag vs 4) (ag vs 5) (ag vs 6) (ag vs 7) (ag vs 8) (ag vs 9) H)) (λvs H=>Sh.f1j b n (ag vs 0) (ag vs 1) (ag vs 2) (ag vs 3) (ag vs 4) (ag vs 5) (ag vs 6) (ag vs 7) H)) (
 (Af .none .add i (.i6 1)).bind λaa=>
 m [g,c,d,h,aa] k)
noncomputable def Sh.f5z (a:Aa)(g:LK)(b h i e c:Ab)(d:Aa):Out:=
 (A7 b).bind λj=>
 (Af .none .lss c j).bind λk=>
 Ak k (
 (Aw 5 b c).bind λl=>
 (Ac 0 l).bind λm=>
 (Ad false 1 m d).bind λn=>
 (Af .none .sub n (.i6 1)).bind λo=>
 bP a (Sh.f7 o d) λp q=>
 Al (Ax (some [(.bool false),(.sl [] .ti)]) q) λf r=>
 bP a (Av (Ae 2 f p r)) λ_ s=>
 Am (λt vs H=>Sh.f5y a g t (ag vs 0) (ag vs 1) (ag vs 2) (ag vs 3) (ag vs 4) (ag vs 5) (ag vs 6) (ag vs 7) H) AM [b,h,i,e,c,f,(.bool false),(.i6 0)] s) (
 rPN a e d)
noncomputable def Sh.f1k (a d e:Ab)(b:Aa):Out:=
 Al (Bu true 2 d b) λf g=>
 Al (Bu true 2 e g) λh i=>
 (A7 a).bind λj=>
 (Af .none .add j (.i6 1)).bind λc=>
 Al (F5 2 32 (some [(.bool false),(.sl [] .ti)]) c c i) λk l=>
 Am (λm vs H=>Sh.f5z b m (ag vs 0) (ag vs 1) (ag vs 2) (ag vs 3) (ag vs 4) H) AM [a,f,h,k,(.i6 0)] l
noncomputable def Sh.f3a (d:Ab)(b:Aa):Out:=
 Al (Bu true 1 d b) λc a=>
 (Ac 0 c).bind λe=>
 (Ad false 1 e a).bind λf=>
 (A7 f).bind λg=>
 (Af .none .eql g (.i6 0)).bind λh=>
 Ak h (
 rP b (.i6 0) a) (
 (Ac 0 c).bind λi=>
 (Ad false 1 i a).bind λj=>
 (Ac 0 c).bind λk=>
 (Ad false 1 k a).bind λl=>
 (A7 l).bind λm=>
 (Af .none .sub m (.i6 1)).bind λn=>
 (Aw 5 j n).bind λo=>
 (Ac 0 o).bind λp=>
 (Ad false 1 p a).bind λq=>
 rP b q a)
noncomputable def Sh.f1l (ap:Ab)(a:Aa):Out:=
 Al (Bu true 1 ap a) λh aq=>
 Al (Ax (some [(.bool false),(.sl [] .ti),(.bool false),(.sl [] .ti),(.bool false),(.sl [] .ti),(.bool false),(.sl [] .ti)]) aq) λp q=>
 (Ac 0 h).bind λar=>
 (Ad false 1 ar q).bind λau=>
 (A7 au).bind λl=>
 (Af .none .eql l (.i6 0)).bind λav=>
 Ak av (
 (Az (some [(.bool false),(.sl [] .ti),(.bool false),(.sl [] .ti),(.bool false),(.sl [] .ti),(.bool false),(.sl [] .ti)]) []).bind λaw=>
 bP a (Av (Ae 8 p aw q)) λ_ y=>
 (Cv [Ad true 8 p y,some (.bool false)]).bind λax=>rPN a ax y) (
 (Ac 0 h).bind λay=>
 (Ad false 1 ay q).bind λaz=>
 (Az (some [(.i6 0),(.i6 0)]) [(0,1,(.i6 0)),(1,1,(.i6 2))]).bind λa0=>
 (Az (some [(.i6 0),(.i6 0)]) [(0,1,(.i6 1)),(1,1,(.i6 3))]).bind λa1=>
 bP a (Sh.f1k az a0 a1 q) λa2 z=>
 (Aw 2 a2 l).bind λa3=>
 (Ad true 2 a3 z).bind λa4=>
 Al (Ax (some [(.bool false),(.sl [] .ti)]) z) λm a5=>
 bP a (Av (Ae 2 m a4 a5)) λ_ aa=>
 (Ac 0 h).bind λa6=>
 (Ad false 1 a6 aa).bind λa7=>
 (Az (some [(.i6 0),(.i6 0)]) [(0,1,(.i6 1)),(1,1,(.i6 3))]).bind λa8=>
 (Az (some [(.i6 0),(.i6 0)]) [(0,1,(.i6 0)),(1,1,(.i6 2))]).bind λa9=>
 bP a (Sh.f1k a7 a8 a9 aa) λba ab=>
 (Aw 2 ba l).bind λbb=>
 (Ad true 2 bb ab).bind λbc=>
 Al (Ax (some [(.bool false),(.sl [] .ti)]) ab) λr bd=>
 bP a (Av (Ae 2 r bc bd)) λ_ ac=>
 (Ac 0 h).bind λbe=>
 (Ad false 1 be ac).bind λbg=>
 (Az (some [(.i6 0),(.i6 0)]) [(0,1,(.i6 0)),(1,1,(.i6 1))]).bind λbj=>
 (Az (some [(.i6 0),(.i6 0)]) [(0,1,(.i6 2)),(1,1,(.i6 3))]).bind λbk=>
 bP a (Sh.f1k bg bj bk ac) λbl ad=>
 (Aw 2 bl l).bind λbm=>
 (Ad true 2 bm ad).bind λbp=>
 Al (Ax (some [(.bool false),(.sl [] .ti)]) ad) λe bq=>
 bP a (Av (Ae 2 e bp bq)) λ_ ae=>
 (Ac 0 h).bind λbr=>
 (Ad false 1 br ae).bind λbt=>
 (Az (some [(.i6 0),(.i6 0)]) [(0,1,(.i6 2)),(1,1,(.i6 3))]).bind λbu=>
 (Az (some [(.i6 0),(.i6 0)]) [(0,1,(.i6 0)),(1,1,(.i6 1))]).bind λbv=>
 bP a (Sh.f1k bt bu bv ae) λbw aj=>
 (Aw 2 bw l).bind λbz=>
 (Ad true 2 bz aj).bind λb0=>
 Al (Ax (some [(.bool false),(.sl [] .ti)]) aj) λi b1=>
 bP a (Av (Ae 2 i b0 b1)) λ_ ak=>
 (Ad true 1 h ak).bind λb2=>
 bP a (Sh.f3a b2 ak) λal b3=>
 bP a (Sh.f7 al b3) λb4 b5=>
 (Af .none .sub al (.i6 1)).bind λb6=>
 bP a (Sh.f7 b6 b5) λb7 b8=>
 bP a (Sh.fh b7 b8) λb9 ca=>
 Al (Ax (some [(.bool false),(.sl [] .ti)]) ca) λb cb=>
 Al (Ax (some [(.bool false),(.sl [] .ti)]) cb) λs cc=>
 bP a (Av (Ae 2 b b4 cc)) λ_ cd=>
 bP a (Av (Ae 2 s b9 cd)) λ_ c=>
 bC (Ad true 2 s c) (λ_=>True) λce=>
 bC (Ad true 2 m c) (λ_=>True) λcg=>
 AN (Sh.f0 ce cg c) λcj d=>
 bC (Ad true 2 s d) (λw=>Ad true 2 s c=some w/\True) λw=>
 bC (Ad true 2 e d) (λx=>Ad true 2 e c=some x/\True) λx=>
 AN (Sh.f0 w x d) λck f=>
 bC (Ad true 2 m f) (λt=>Ad true 2 m d=some t/\Ad true 2 m c=some t/\True) λt=>
 bC (Ad true 2 r f) (λu=>Ad true 2 r d=some u/\Ad true 2 r c=some u/\True) λu=>
 AN (Sh.f0 t u f) λcl n=>
 bC (Ad true 2 b n) (λo=>Ad true 2 b f=some o/\Ad true 2 b d=some o/\Ad true 2 b c=some o/\True) λo=>
 AN (Sh.fl o cl n) λcm v=>
 bC (Ad true 2 e v) (λj=>Ad true 2 e n=some j/\Ad true 2 e f=some j/\Ad true 2 e d=some j/\Ad true 2 e c=some j/\True) λj=>
 bC (Ad true 2 i v) (λk=>Ad true 2 i n=some k/\Ad true 2 i f=some k/\Ad true 2 i d=some k/\Ad true 2 i c=some k/\True) λk=>
 AN (Sh.f0 j k v) λcn am=>
 bC (Ad true 2 b am) (λg=>Ad true 2 b v=some g/\Ad true 2 b n=some g/\Ad true 2 b f=some g/\Ad true 2 b d=some g/\Ad true 2 b c=some g/\True) λg=>
 AN (Sh.fl g cn am) λcp cq=>
 (Az (some [(.bool false),(.sl [] .ti),(.bool false),(.sl [] .ti),(.bool false),(.sl [] .ti),(.bool false),(.sl [] .ti)]) [(0,2,cj),(2,2,ck),(4,2,cm),(6,2,cp)]).bind λcr=>
 AN (Av (Ae 8 p cr cq)) λ_ an=>
 (Cv [Ad true 8 p an,some (.bool true)]).bind λct=>rPN a ct an)
noncomputable def Sh.f3b (p i:Ab)(c:Aa):Out:=
 Al (Bu true 1 p c) λq j=>
 (Ad true 1 q j).bind λr=>
 bP c (Sh.f1l r j) λk s=>
 (Aq 0 k).bind λt=>
 (Aq 1 k).bind λad=>
 Al (Ax (some [(.bool false),(.sl [] .ti),(.bool false),(.sl [] .ti),(.bool false),(.sl [] .ti),(.bool false),(.sl [] .ti)]) s) λd u=>
 bP c (Av (Ae 8 d t u)) λ_ l=>
 AN (Sh.fk i l) λv m=>
 (Ac 4 d).bind λn=>
 bC (Ad true 2 n m) (λe=>Ad true 2 n l=some e/\True) λe=>
 AN (Sh.f1 e v m) λw f=>
 (Af .none .leq w (.i6 0)).bind λa=>
 gk a true (some i) λx=>
 gbN a true f (Sh.fk x f) λy g=>
 gk a true (Ac 6 d) λo=>
 gkc a true (Ad true 2 o g) (λb h=>gR b (Ad true 2 o f)=some h/\True) λh=>
 gbN a true g (Sh.f1 h y g) λz aa=>
 gk a true (Af .none .leq z (.i6 0)) λab=>
 (A5 a ab (.bool false)).bind λac=>
 rP c ac aa
noncomputable def Sh.f3c (z:Aa)(g:LK)(h:LK)(c f d e:Ab)(b:Aa):Out:=
 (Af .none .lss e (.i6 4)).bind λa=>
 gk a true (Ac 0 c) λi=>
 gk a true (Ad false 1 i b) λj=>
 gk a true (some d) λk=>
 gk a true (Aw 5 j k) λl=>
 gk a true (Ac 0 l) λm=>
 gk a true (Ad false 1 m b) λn=>
 gk a true (Af .none .eql n (.i6 1)) λo=>
 (A5 a o (.bool false)).bind λp=>
 Ak p (
 (Ac 0 c).bind λq=>
 (Ad false 1 q b).bind λr=>
 (Aw 5 r d).bind λs=>
 (Ac 1 s).bind λt=>
 (B8 4 1 t e).bind λu=>
 (Ad false 1 u b).bind λv=>
 (HJ JC f [v]).bind λw=>
 (Af .none .add e (.i6 1)).bind λx=>
 h [c,w,d,x] b) (
 (Af .none .add d (.i6 1)).bind λy=>
 g [c,f,y] b)
noncomputable def Sh.f60 (b:Aa)(f:LK)(c d e:Ab)(a:Aa):Out:=
 (Ac 0 c).bind λg=>
 (Ad false 1 g a).bind λh=>
 (A7 h).bind λi=>
 (Af .none .lss e i).bind λj=>
 Ak j (
 Am (λk vs H=>Sh.f3c b f k (ag vs 0) (ag vs 1) (ag vs 2) (ag vs 3) H) AM [c,d,e,(.i6 0)] a) (
 (AA .u8 d).bind λl=>
 rP b l a)
noncomputable def Sh.f3d (b:Ab)(a:Aa):Out:=
 Al (Bu true 1 b a) λc d=>
 Am (λe vs H=>Sh.f60 a e (ag vs 0) (ag vs 1) (ag vs 2) H) AM [c,(.i6 0),(.i6 0)] d
noncomputable def Sh.f61 (e g h:Ab)(a:Aa):Out:=
 Al (Bu true 2 g a) λf i=>
 Al (Bu true 2 h i) λj c=>
 (Af .none .eql e (.i6 5)).bind λk=>
 Ak k (
 rP a (.bool true) c) (
 (Ac 1 f).bind λl=>
 (Ad true 1 l c).bind λm=>
 (Ac 0 j).bind λn=>
 (Ad false 1 n c).bind λo=>
 bP a (Sh.f3b m o c) λp d=>
 (unA .not p).bind λq=>
 Ak q (
 rP a (.bool false) d) (
 (Af .none .eql e (.i6 4)).bind λb=>
 gk b false (Ac 1 f) λr=>
 gk b false (Ad true 1 r d) λs=>
 gbP a b false d (Sh.f3d s d) λt u=>
 gk b false (Af .none .leq t (.int .u8 1)) λv=>
 (A5 b (.bool true) v).bind λw=>
 rP a w u))
noncomputable def Sh.f62 (g k l:Ab)(a:Aa):Out:=
 Al (Bu true 2 k a) λh m=>
 Al (Bu true 2 l m) λi n=>
 bP a (Sh.f5d g n) λo e=>
 (unA .not o).bind λb=>
 gk b false (Ad true 2 h e) λp=>
 gbP a b false e (Sh.f5q p e) λq f=>
 gk b false (unA .not q) λr=>
 (A5 b (.bool true) r).bind λc=>
 gk c false (Ad true 2 i f) λs=>
 gbP a c false f (Sh.f26 s f) λt d=>
 gk c false (unA .not t) λu=>
 (A5 c (.bool true) u).bind λv=>
 Ak v (
 rP a (.i6 1) d) (
 (Ad true 2 h d).bind λw=>
 (Ad true 2 i d).bind λx=>
 bP a (Sh.f61 g w x d) λy j=>
 (unA .not y).bind λz=>
 Ak z (
 rP a (.i6 5) j) (
 rP a (.i6 0) j))
noncomputable def Sh.f8w (c:Aa)(h:LK)(d b e:Ab)(a:Aa):Out:=
 (Af .none .geq e (.i6 0)).bind λi=>
 Ak i (
 (Af .none .gtr b (.int .u64 4294967295)).bind λj=>
 Ak j (
 rP c (.tup [(.i6 0),(.bool false)]) a) (
 (Af .none .mul b (.int .u64 4294967296)).bind λk=>
 (Ac 1 d).bind λl=>
 (Ad false 1 l a).bind λm=>
 (Aw 1 m e).bind λn=>
 (Ad false 1 n a).bind λo=>
 (AA .u64 o).bind λp=>
 (Af .none .add k p).bind λq=>
 (Af .none .sub e (.i6 1)).bind λr=>
 h [d,q,r] a)) (
 (Ac 0 d).bind λs=>
 (Ad false 1 s a).bind λf=>
 gk f true (some b) λt=>
 gk f true (Af .none .leq t (.int .u64 9223372036854775808)) λu=>
 (A5 f u (.bool false)).bind λv=>
 Ak v (
 (unA .neg b).bind λw=>
 (AA .i64 w).bind λx=>
 rP c (.tup [x,(.bool true)]) a) (
 (Ac 0 d).bind λy=>
 (Ad false 1 y a).bind λg=>
 gk g false (some b) λz=>
 gk g false (Af .none .gtr z (.int .u64 9223372036854775807)) λaa=>
 (A5 g (.bool true) aa).bind λab=>
 Ak ab (
 rP c (.tup [(.i6 0),(.bool false)]) a) (
 (AA .i64 b).bind λac=>
 rP c (.tup [ac,(.bool true)]) a)))
noncomputable def Sh.f11 (d:Ab)(a:Aa):Out:=
 Al (Bu true 2 d a) λb c=>
 (Ac 1 b).bind λe=>
 (Ad false 1 e c).bind λf=>
 (A7 f).bind λg=>
 (Af .none .sub g (.i6 1)).bind λh=>
 Am (λi vs H=>Sh.f8w a i (ag vs 0) (ag vs 1) (ag vs 2) H) AM [b,(.int .u64 0),h] c
noncomputable def Sh.f3e (i j:Ab)(b:Aa):Out:=
 Al (Bu true 2 i b) λd k=>
 (Af .none .sub j (.i6 1)).bind λl=>
 bP b (Sh.f7 l k) λm n=>
 Al (Ax (some [(.bool false),(.sl [] .ti)]) n) λe o=>
 bP b (Av (Ae 2 e m o)) λ_ f=>
 bC (Ad true 2 e f) (λ_=>True) λp=>
 AN (Sh.fh p f) λq h=>
 bC (Ad true 2 d h) (λg=>Ad true 2 d f=some g/\True) λg=>
 AN (Sh.f1 g q h) λr c=>
 (Af .none .geq r (.i6 0)).bind λa=>
 gkc a true (Ad true 2 d c) (λ_ _=>True) λs=>
 gkc a true (Ad true 2 e c) (λ_ _=>True) λt=>
 gbN a true c (Sh.f1 s t c) λu v=>
 gk a true (Af .none .lss u (.i6 0)) λw=>
 (A5 a w (.bool false)).bind λx=>
 rP b x v
noncomputable def Sh.f3f (d:Aa)(i e f g j:Ab)(a:Aa):Out:=
 bC (Ad true 2 i a) (λ_=>True) λk=>
 AN (Av (Ae 2 f k a)) λ_ h=>
 bC (Ad true 2 e h) (λb=>Ad true 2 e a=some b/\True) λb=>
 bP d (Av (Ae 2 g b h)) λ_ c=>
 (Cv [some j,Ad true 2 f c,Ad true 2 g c]).bind λl=>rPN d l c
noncomputable def Sh.f3g (b:Aa)(e a f g h i:Ab)(d:Aa):Out:=
 AI (λj2=>
 (Ad true 2 a d).bind λj=>
 (Ad true 2 h d).bind λk=>
 bP b (Sh.f1 j k d) λl c=>
 (Af .none .geq l (.i6 0)).bind λm=>
 Ak m (
 (Af .none .add i (.i6 2)).bind λn=>
 (Ad true 2 a c).bind λo=>
 (Ad true 2 h c).bind λp=>
 bP b (Sh.fl o p c) λq r=>
 bP b (Av (Ae 2 a q r)) λ_ s=>
 j2 [e,a,f,g,n] s) (
 j2 [e,a,f,g,i] c)) (λvs H=>Sh.f3f b (ag vs 0) (ag vs 1) (ag vs 2) (ag vs 3) (ag vs 4) H)
noncomputable def Sh.f63 (i j k:Ab)(a:Aa):Out:=
 Al (Bu true 2 j a) λb l=>
 Al (Bu true 2 k l) λf m=>
 Al (Ax (some [(.bool false),(.sl [] .ti)]) m) λg n=>
 Al (Ax (some [(.bool false),(.sl [] .ti)]) n) λh o=>
 (Af .none .sub i (.i6 1)).bind λp=>
 bP a (Sh.f7 p o) λq r=>
 Al (Ax (some [(.bool false),(.sl [] .ti)]) r) λc s=>
 bP a (Av (Ae 2 c q s)) λ_ e=>
 AI (λj1=>
 (Ad true 2 b e).bind λt=>
 (Ad true 2 c e).bind λu=>
 bP a (Sh.f1 t u e) λv d=>
 (Af .none .geq v (.i6 0)).bind λw=>
 Ak w (
 (Af .none .add (.i6 0) (.i6 1)).bind λx=>
 (Ad true 2 b d).bind λy=>
 (Ad true 2 c d).bind λz=>
 bP a (Sh.fl y z d) λaa ab=>
 bP a (Av (Ae 2 b aa ab)) λ_ ac=>
 j1 [b,f,g,h,c,x] ac) (
 j1 [b,f,g,h,c,(.i6 0)] d)) (λvs H=>Sh.f3g a (ag vs 0) (ag vs 1) (ag vs 2) (ag vs 3) (ag vs 4) (ag vs 5) H)
noncomputable def Sh.f7x (c:Aa)(n:LK)(d f g e:Ab)(b:Aa):Out:=
 (Af .none .gtr e (.i6 0)).bind λo=>
 Ak o (
 (Ac 0 d).bind λp=>
 bC (Ad false 1 p b) (λ_=>True) λq=>
 (Af .none .sub e (.i6 1)).bind λr=>
 (Aw 5 q r).bind λs=>
 (Ac 0 s).bind λt=>
 bC (Ad false 1 t b) (λ_=>True) λu=>
 bC (Ad true 2 f b) (λ_=>True) λv=>
 bC (Ad true 2 g b) (λ_=>True) λw=>
 AN (Sh.f63 u v w b) λh x=>
 (Aq 0 h).bind λy=>
 (Aq 1 h).bind λz=>
 Al (Ax (some [(.bool false),(.sl [] .ti)]) x) λk aa=>
 Al (Ax (some [(.bool false),(.sl [] .ti)]) aa) λi ab=>
 AN (Av (Ae 2 k z ab)) λ_ ac=>
 (Aq 2 h).bind λad=>
 bP c (Av (Ae 2 i ad ac)) λ_ a=>
 (Ac 0 d).bind λae=>
 (Ad false 1 ae a).bind λaj=>
 (Af .none .sub e (.i6 1)).bind λak=>
 (Aw 5 aj ak).bind λal=>
 (Ac 1 al).bind λam=>
 (B8 4 1 am y).bind λan=>
 (Ad false 1 an a).bind λl=>
 (Ac 0 d).bind λap=>
 (Ad false 1 ap a).bind λaq=>
 (Af .none .sub e (.i6 1)).bind λar=>
 (Aw 5 aq ar).bind λau=>
 (Ac 0 au).bind λav=>
 (Ad false 1 av a).bind λaw=>
 (Af .none .eql aw (.i6 1)).bind λax=>
 Ak ax (
 (AA .u8 l).bind λay=>
 rP c ay a) (
 bC (Ad true 2 k a) (λ_=>True) λaz=>
 AN (Av (Ae 2 f az a)) λ_ m=>
 bC (Ad true 2 i m) (λj=>Ad true 2 i a=some j/\True) λj=>
 bP c (Av (Ae 2 g j m)) λ_ a0=>
 n [d,f,g,l] a0)) (
 rP c (.int .u8 0) b)
noncomputable def Sh.f64 (r s t:Ab)(a:Aa):Out:=
 Al (Bu true 1 r a) λi u=>
 Al (Bu true 2 s u) λf v=>
 Al (Bu true 2 t v) λb o=>
 (Ad true 1 i o).bind λw=>
 bP a (Sh.f3a w o) λg j=>
 (Af .none .eql g (.i6 0)).bind λc=>
 gk c false (Ad true 2 f j) λx=>
 gk c false (some g) λy=>
 gbP a c false j (Sh.f3e x y j) λz k=>
 gk c false (unA .not z) λaa=>
 (A5 c (.bool true) aa).bind λd=>
 gk d false (Ad true 2 b k) λab=>
 gk d false (some g) λac=>
 gbP a d false k (Sh.f3e ab ac k) λad p=>
 gk d false (unA .not ad) λae=>
 (A5 d (.bool true) ae).bind λaj=>
 Ak aj (
 rP a (.int .u8 0) p) (
 (Af .none .sub g (.i6 1)).bind λak=>
 bP a (Sh.f7 ak p) λal am=>
 Al (Ax (some [(.bool false),(.sl [] .ti)]) am) λh an=>
 bP a (Av (Ae 2 h al an)) λ_ e=>
 bC (Ad true 2 f e) (λ_=>True) λap=>
 bC (Ad true 2 h e) (λ_=>True) λaq=>
 AN (Sh.f0 ap aq e) λar l=>
 bC (Ad true 2 b l) (λm=>Ad true 2 b e=some m/\True) λm=>
 bC (Ad true 2 h l) (λn=>Ad true 2 h e=some n/\True) λn=>
 AN (Sh.f0 m n l) λau av=>
 AN (Av (Ae 2 f ar av)) λ_ aw=>
 bP a (Av (Ae 2 b au aw)) λ_ q=>
 (Ac 0 i).bind λax=>
 (Ad false 1 ax q).bind λay=>
 (A7 ay).bind λaz=>
 Am (λa0 vs H=>Sh.f7x a a0 (ag vs 0) (ag vs 1) (ag vs 2) (ag vs 3) H) AM [i,f,b,az] q)
noncomputable def Sh.f28 (j:Aa)(u:LK)(v:LK)(a q e k r f l m g:Ab)(b:Aa):Out:=
 (Af .none .lss g k).bind λw=>
 Ak w (
 AN (Sh.fk g b) λx h=>
 (Ac 0 e).bind λs=>
 bC (Ad true 2 s h) (λn=>Ad true 2 s b=some n/\True) λn=>
 AN (Sh.f0 n x h) λy o=>
 AN (Sh.fk l o) λz p=>
 (Ac 2 e).bind λi=>
 bC (Ad true 2 i p) (λd=>Ad true 2 i o=some d/\Ad true 2 i h=some d/\Ad true 2 i b=some d/\True) λd=>
 AN (Sh.f0 d z p) λaa t=>
 bC (Ad true 1 a t) (λc=>Ad true 1 a p=some c/\Ad true 1 a o=some c/\Ad true 1 a h=some c/\Ad true 1 a b=some c/\True) λc=>
 AN (Sh.f64 c y aa t) λab ac=>
 (Aw 1 m g).bind λad=>
 bP j (Av (Ae 1 ad ab ac)) λ_ ae=>
 (Af .none .add g (.i6 1)).bind λaj=>
 v [a,q,e,k,r,f,l,m,aj] ae) (
 (Ac 4 f).bind λak=>
 (Ad false 1 ak b).bind λal=>
 (Dq m b).bind λam=>
 (AL 1 [am]).bind λan=>
 bP j (BV (AP TB 1 16 al an b)) λap aq=>
 (Ac 4 f).bind λar=>
 bP j (Av (Ae 1 ar ap aq)) λ_ au=>
 (Af .none .add l (.i6 1)).bind λav=>
 u [a,q,e,k,r,f,av] au)
noncomputable def Sh.f3h (a:Aa)(i:LK)(j b k c e f g:Ab)(d:Aa):Out:=
 (Af .none .lss g e).bind λl=>
 Ak l (
 Al (F5 1 1 (some [(.int .u8 0)]) c c d) λm n=>
 Am (λo vs H=>Sh.f28 a i o (ag vs 0) (ag vs 1) (ag vs 2) (ag vs 3) (ag vs 4) (ag vs 5) (ag vs 6) (ag vs 7) (ag vs 8) H) AM [j,b,k,c,e,f,g,m,(.i6 0)] n) (
 (Ad true 5 f d).bind λp=>
 bP a (Av (Ae 5 b p d)) λ_ h=>
 (Cv [Ad true 5 b h,some (.i6 0)]).bind λq=>rPN a q h)
noncomputable def Sh.f65 (s d:Ab)(a:Aa):Out:=
 Al (Bu true 1 s a) λe t=>
 Al (Ax (some [(.bool false),(.sl [] .ti),(.bool false),(.sl [] .ti),(.sl [] .ti)]) t) λb f=>
 (Af .none .lss d (.i6 0)).bind λg=>
 gk g false (some d) λu=>
 gk g false (Af .none .gtr u (.i6 1000)) λv=>
 (A5 g (.bool true) v).bind λw=>
 Ak w (
 (Az (some [(.bool false),(.sl [] .ti),(.bool false),(.sl [] .ti),(.sl [] .ti)]) []).bind λx=>
 bP a (Av (Ae 5 b x f)) λ_ k=>
 (Cv [Ad true 5 b k,some (.i6 1)]).bind λy=>rPN a y k) (
 (Ad true 1 e f).bind λz=>
 bP a (Sh.f3b z d f) λaa h=>
 (unA .not aa).bind λab=>
 Ak ab (
 (Az (some [(.bool false),(.sl [] .ti),(.bool false),(.sl [] .ti),(.sl [] .ti)]) []).bind λac=>
 bP a (Av (Ae 5 b ac h)) λ_ l=>
 (Cv [Ad true 5 b l,some (.i6 4)]).bind λad=>rPN a ad l) (
 (Ad true 1 e h).bind λae=>
 bP a (Sh.f1l ae h) λm aj=>
 (Aq 0 m).bind λak=>
 (Aq 1 m).bind λal=>
 Al (Ax (some [(.bool false),(.sl [] .ti),(.bool false),(.sl [] .ti),(.bool false),(.sl [] .ti),(.bool false),(.sl [] .ti)]) aj) λc am=>
 bP a (Av (Ae 8 c ak am)) λ_ i=>
 (unA .not al).bind λan=>
 Ak an (
 (Az (some [(.bool false),(.sl [] .ti),(.bool false),(.sl [] .ti),(.sl [] .ti)]) []).bind λap=>
 bP a (Av (Ae 5 b ap i)) λ_ n=>
 (Cv [Ad true 5 b n,some (.i6 0)]).bind λaq=>rPN a aq n) (
 (Ac 4 c).bind λar=>
 (Ad true 2 ar i).bind λau=>
 bP a (Sh.f11 au i) λo p=>
 (Aq 0 o).bind λav=>
 (Aq 1 o).bind λa7=>
 (Ac 6 c).bind λaw=>
 (Ad true 2 aw p).bind λax=>
 bP a (Sh.f11 ax p) λq j=>
 (Aq 0 q).bind λay=>
 (Aq 1 q).bind λa8=>
 (Ac 0 c).bind λaz=>
 (Ad true 2 az j).bind λa0=>
 (Ac 2 c).bind λa1=>
 (Ad true 2 a1 j).bind λa2=>
 (Az (some [(.bool false),(.sl [] .ti),(.bool false),(.sl [] .ti),(.sl [] .ti)]) [(0,2,a0),(2,2,a2)]).bind λa3=>
 Al (Ax (some [(.bool false),(.sl [] .ti),(.bool false),(.sl [] .ti),(.sl [] .ti)]) j) λr a4=>
 bP a (Av (Ae 5 r a3 a4)) λ_ a5=>
 Am (λa6 vs H=>Sh.f3h a a6 (ag vs 0) (ag vs 1) (ag vs 2) (ag vs 3) (ag vs 4) (ag vs 5) (ag vs 6) H) AM [e,b,c,av,ay,r,(.i6 0)] a5)))
noncomputable def Sh.f7y (f:Aa)(j:LK)(g a c h b:Ab)(d:Aa):Out:=
 (Af .none .geq b (.i6 0)).bind λk=>
 Ak k (
 (Af .none .mul h (.int .u64 4294967296)).bind λl=>
 (Aw 1 g b).bind λm=>
 (Ad false 1 m d).bind λn=>
 (AA .u64 n).bind λo=>
 (Af .none .add l o).bind λi=>
 bC (AA .u64 a) (λ_=>True) λp=>
 (Af .none .quo i p).bind λq=>
 bC (AA .u32 q) (λ_=>True) λr=>
 (Aw 1 c b).bind λs=>
 AN (Av (Ae 1 s r d)) λ_ t=>
 bC (AA .u64 a) (λe=>AA .u64 a=some e/\True) λe=>
 (Af .none .rem i e).bind λu=>
 (Af .none .sub b (.i6 1)).bind λv=>
 j [g,a,c,u,v] t) (
 bP f (Sh.f10 c d) λw x=>
 (AA .u32 h).bind λy=>
 rPN f (.tup [w,y]) x)
noncomputable def Sh.f66 (b c:Ab)(a:Aa):Out:=
 (Af .none .eql c (.int .u32 0)).bind λe=>
 Ak e (
 rPN a (.tup [(.sl [] .ti),(.int .u32 0)]) a) (
 (A7 b).bind λd=>
 Al (F5 1 4 (some [(.int .u32 0)]) d d a) λf g=>
 (A7 b).bind λh=>
 (Af .none .sub h (.i6 1)).bind λi=>
 Am (λj vs H=>Sh.f7y a j (ag vs 0) (ag vs 1) (ag vs 2) (ag vs 3) (ag vs 4) H) AM [b,c,f,(.int .u64 0),i] g)
noncomputable def Sh.f7z (b:Aa)(g:LK)(d h i:Ab)(j:Aa):Out:=
 bP b (Sh.f66 i (.int .u32 10) j) λe a=>
 (Aq 0 e).bind λf=>
 (Aq 1 e).bind λk=>
 (Af .none .add (.int .u32 48) k).bind λl=>
 (AA .u8 l).bind λm=>
 (AL 1 [m]).bind λn=>
 (Dq n a).bind λo=>
 (Af .none .add o h).bind λc=>
 (A7 f).bind λp=>
 (Af .none .eql p (.i6 0)).bind λq=>
 Ak q (
 (Ac 0 d).bind λr=>
 (Ad false 1 r a).bind λs=>
 Ak s (
 (Af .none .add (.str [45]) c).bind λt=>
 rP b t a) (
 rP b c a)) (
 g [d,c,f] a)
noncomputable def Sh.f3i (d:Ab)(a:Aa):Out:=
 Al (Bu true 2 d a) λb c=>
 (Ac 1 b).bind λe=>
 (Ad false 1 e c).bind λf=>
 Am (λg vs H=>Sh.f7z a g (ag vs 0) (ag vs 1) (ag vs 2) H) AM [b,(.str []),f] c
noncomputable def Sh.f80 (i:Aa)(a:LK)(b c d e f:Ab)(g:Aa):Out:=
 (Af .none .add f (.i6 1)).bind λh=>
 a [b,c,d,e,h] g
noncomputable def Sh.f67 (a:Aa)(i:LK)(b e f g c:Ab)(d:Aa):Out:=
 (BM b).bind λj=>
 (Af .none .lss c j).bind λk=>
 Ak k (
 AI (λj2=>
 (BI b c).bind λl=>
 (Af .none .eql l (.int .u8 0)).bind λm=>
 Ak m (
 (AL 1 [(.int .u8 46)]).bind λn=>
 bP a (BV (AP I7 1 1 f n d)) λo p=>
 j2 [b,e,o,g,c] p) (
 (AL 1 [e]).bind λq=>
 bP a (BV (AP I7 1 1 f q d)) λh r=>
 (A7 h).bind λs=>
 j2 [b,e,h,s,c] r)) (λvs H=>Sh.f80 a i (ag vs 0) (ag vs 1) (ag vs 2) (ag vs 3) (ag vs 4) H)) (
 (Bw 1 f none (some g) none).bind λt=>
 (Dq t d).bind λu=>
 rP a u d)
noncomputable def Sh.f68 (b c:Ab)(a:Aa):Out:=
 Am (λd vs H=>Sh.f67 a d (ag vs 0) (ag vs 1) (ag vs 2) (ag vs 3) (ag vs 4) H) AM [b,c,(.sl [] .ti),(.i6 0),(.i6 0)] a
noncomputable def Sh.f81 (j:Aa)(a:LK)(b c d e:Ab)(f:Aa):Out:=
 (Af .none .add c e).bind λg=>
 (Af .none .add g (.str [10])).bind λh=>
 (Af .none .add d (.i6 1)).bind λi=>
 a [b,h,i] f
noncomputable def Sh.f69 (d:Aa)(h:LK)(b e c:Ab)(a:Aa):Out:=
 (Ac 4 b).bind λi=>
 (Ad false 1 i a).bind λj=>
 (A7 j).bind λk=>
 (Af .none .lss c k).bind λl=>
 Ak l (
 (Ac 4 b).bind λm=>
 (Ad false 1 m a).bind λn=>
 (Aw 1 n c).bind λo=>
 (Ad false 1 o a).bind λp=>
 bP d (Sh.f68 p (.int .u8 42) a) λf g=>
 AI (λj3=>
 (Af .none .eql f (.str [])).bind λq=>
 Ak q (
 j3 [b,e,c,(.str [46])] g) (
 j3 [b,e,c,f] g)) (λvs H=>Sh.f81 d h (ag vs 0) (ag vs 1) (ag vs 2) (ag vs 3) H)) (
 rP d (.tup [e,(.i6 0)]) a)
noncomputable def Sh.f6a (a:Aa)(b c:Ab)(d:Aa):Out:=
 Am (λe vs H=>Sh.f69 a e (ag vs 0) (ag vs 1) (ag vs 2) H) AM [b,c,(.i6 0)] d
noncomputable def Sh.f12 (n o:Ab)(a:Aa):Out:=
 Al (Bu true 2 n a) λe p=>
 Al (Bu true 2 o p) λh f=>
 (Ad true 2 e f).bind λq=>
 (Ad true 2 h f).bind λr=>
 bP a (Sh.f62 (.i6 2) q r f) λi d=>
 (Af .none .neq i (.i6 0)).bind λs=>
 Ak s (
 rP a (.tup [(.str []),i]) d) (
 (Ac 1 e).bind λt=>
 (Ad true 1 t d).bind λu=>
 (Ac 0 h).bind λv=>
 (Ad false 1 v d).bind λw=>
 bP a (Sh.f65 u w d) λj x=>
 (Aq 0 j).bind λy=>
 (Aq 1 j).bind λay=>
 Al (Ax (some [(.bool false),(.sl [] .ti),(.bool false),(.sl [] .ti),(.sl [] .ti)]) x) λb z=>
 bP a (Av (Ae 5 b y z)) λ_ c=>
 (Ac 0 e).bind λaa=>
 (Ad false 1 aa c).bind λab=>
 (Af .none .add (.str [35,76,105,102,101,32,49,46,48,53,10,35,82,32]) ab).bind λac=>
 (Af .none .add ac (.str [10])).bind λk=>
 AI (λj1=>
 (Ac 4 b).bind λad=>
 (Ad false 1 ad c).bind λae=>
 (A7 ae).bind λaj=>
 (Af .none .gtr aj (.i6 0)).bind λak=>
 Ak ak (
 (Ac 0 b).bind λal=>
 bC (Ad true 2 al c) (λ_=>True) λam=>
 AN (Sh.f3i am c) λan l=>
 (Ac 2 b).bind λm=>
 bC (Ad true 2 m l) (λg=>Ad true 2 m c=some g/\True) λg=>
 AN (Sh.f3i g l) λap aq=>
 (Af .none .add k (.str [35,80,32])).bind λar=>
 (Af .none .add ar an).bind λau=>
 (Af .none .add au (.str [32])).bind λav=>
 (Af .none .add av ap).bind λaw=>
 (Af .none .add aw (.str [10])).bind λax=>
 j1 [b,ax] aq) (
 j1 [b,k] c)) (λvs H=>Sh.f6a a (ag vs 0) (ag vs 1) H))
noncomputable def Sh.f13 (e:Ab)(a:Aa):Out:=
 (Az (some [(.str []),(.i6 0)]) [(0,1,e)]).bind λf=>
 (Az (some [(.i6 0),(.i6 0)]) [(0,1,(.i6 1000)),(1,1,(.i6 100000))]).bind λg=>
 (Az (some [(.str []),(.i6 0),(.i6 0),(.i6 0),(.str []),(.bool false),(.bool false),(.sl [] .ti),(.bool false),(.sl [] .ti),(.i6 0),(.sl [] .ti)]) [(0,2,f),(2,2,g)]).bind λh=>
 Al (Bu true 12 h a) λi j=>
 bP a (Sh.f2i (.bfn 59 [i]) j) λk l=>
 Al (Ax (some [(.i6 0),(.str [])]) l) λb m=>
 bP a (Av (Ae 2 b k m)) λ_ c=>
 (Ac 1 b).bind λn=>
 bC (Ad false 1 n c) (λ_=>True) λo=>
 (Ac 0 b).bind λp=>
 bC (Ad false 1 p c) (λ_=>True) λq=>
 (Af .none .eql q (.i6 0)).bind λd=>
 gk d false (Ac 0 b) λr=>
 gkc d false (Ad false 1 r c) (λ_ _=>True) λs=>
 gk d false (Af .none .eql s (.i6 3)) λt=>
 (A5 d (.bool true) t).bind λu=>
 rP a (.tup [o,u]) c
noncomputable def Sl.gliderref11_Wide:Aa->Out:=Classical.choose (⟨Sh.fx,rfl⟩:∃f:Aa->Out,f=Sh.fx)
theorem Sl.gliderref11_Wide_eq:Sl.gliderref11_Wide=Sh.fx:=Classical.choose_spec (⟨Sh.fx,rfl⟩:∃f:Aa->Out,f=Sh.fx)
noncomputable def Sl.life5_Read:Ab->Ab->Aa->Out:=Classical.choose (⟨Sh.fz,rfl⟩:∃f:Ab->Ab->Aa->Out,f=Sh.fz)
theorem Sl.life5_Read_eq:Sl.life5_Read=Sh.fz:=Classical.choose_spec (⟨Sh.fz,rfl⟩:∃f:Ab->Ab->Aa->Out,f=Sh.fz)
noncomputable def Sl.gliderref12_Life5:Ab->Ab->Aa->Out:=Classical.choose (⟨Sh.f12,rfl⟩:∃f:Ab->Ab->Aa->Out,f=Sh.f12)
theorem Sl.gliderref12_Life5_eq:Sl.gliderref12_Life5=Sh.f12:=Classical.choose_spec (⟨Sh.f12,rfl⟩:∃f:Ab->Ab->Aa->Out,f=Sh.f12)
noncomputable def Sl.life5_Hint:Ab->Aa->Out:=Classical.choose (⟨Sh.f13,rfl⟩:∃f:Ab->Aa->Out,f=Sh.f13)
theorem Sl.life5_Hint_eq:Sl.life5_Hint=Sh.f13:=Classical.choose_spec (⟨Sh.f13,rfl⟩:∃f:Ab->Aa->Out,f=Sh.f13)
noncomputable def Sh.f14 (a:Aa):Out:=
 bP a (Sl.gliderref11_Wide a) λw x=>
 Al (Ax (some [(.i6 0),(.i6 0)]) x) λb y=>
 bP a (Av (Ae 2 b w y)) λ_ o=>
 (Ad true 2 b o).bind λz=>
 bP a (Sl.life5_Read (.str [35,76,105,102,101,32,49,46,48,53,10,42]) z o) λc aa=>
 (Aq 0 c).bind λab=>
 (Aq 1 c).bind λac=>
 (Aq 2 c).bind λad=>
 Al (Ax (some [(.str []),(.sl [] .ti)]) aa) λae aj=>
 bP a (Av (Ae 2 ae ab aj)) λ_ p=>
 (Ad true 2 b p).bind λak=>
 bP a (Sl.life5_Read (.str [35,76,105,102,101,32,49,46,48,53,13,10,35,68,120,10,35,82,32,97,98,99,10,35,80,32,45,49,32,50,10,46,42,10,10,42,10,35,80,32,53,32,53,10,42]) ak p) λd al=>
 (Aq 0 d).bind λam=>
 (Aq 1 d).bind λb4=>
 (Aq 2 d).bind λan=>
 Al (Ax (some [(.str []),(.sl [] .ti)]) al) λq ap=>
 bP a (Av (Ae 2 q am ap)) λ_ e=>
 (Ad true 2 q e).bind λaq=>
 (Ad true 2 b e).bind λar=>
 bP a (Sl.gliderref12_Life5 aq ar e) λr au=>
 (Aq 0 r).bind λav=>
 (Aq 1 r).bind λaw=>
 bP a (Sl.life5_Hint (.str [35,76,105,102,101,32,49,46,48,53,10,35,80,32,45]) au) λs t=>
 (Aq 0 s).bind λax=>
 (Aq 1 s).bind λay=>
 (Af .none .add (.str [35,76,105,102,101,32,49,46,48,53,10,35,80,32,45]) ax).bind λaz=>
 (Ad true 2 b t).bind λa0=>
 bP a (Sl.life5_Read az a0 t) λf a1=>
 (Aq 0 f).bind λa2=>
 (Aq 1 f).bind λb5=>
 (Aq 2 f).bind λa3=>
 Al (Ax (some [(.str []),(.sl [] .ti)]) a1) λa4 a5=>
 bP a (Av (Ae 2 a4 a2 a5)) λ_ a6=>
 bP a (Sl.life5_Hint (.str [35,76,105,102,101,32,50]) a6) λu a7=>
 (Aq 0 u).bind λb6=>
 (Aq 1 u).bind λa8=>
 (Az (some [(.i6 0),(.i6 0)]) [(0,1,(.i6 2)),(1,1,(.i6 9))]).bind λa9=>
 bP a (Sl.life5_Read (.str [35,76,105,102,101,32,49,46,48,53,10,35,80,32,48,32,48,10,46,46,42]) a9 a7) λg ba=>
 (Aq 0 g).bind λbb=>
 (Aq 1 g).bind λb7=>
 (Aq 2 g).bind λbc=>
 Al (Ax (some [(.str []),(.sl [] .ti)]) ba) λbd be=>
 bP a (Av (Ae 2 bd bb be)) λ_ bg=>
 (Af .none .eql ac (.i6 11)).bind λh=>
 gk h true (some ad) λbj=>
 gk h true (Af .none .eql bj (.i6 2)) λbk=>
 (A5 h bk (.bool false)).bind λi=>
 gk i true (some an) λbl=>
 gk i true (Af .none .eql bl (.i6 0)) λbm=>
 (A5 i bm (.bool false)).bind λj=>
 gk j true (some aw) λbp=>
 gk j true (Af .none .eql bp (.i6 0)) λbq=>
 (A5 j bq (.bool false)).bind λk=>
 gk k true (some av) λbr=>
 gk k true (Af .none .eql br (.str [35,76,105,102,101,32,49,46,48,53,10,35,82,32,97,98,99,10,35,80,32,45,49,32,50,10,46,42,10,46,10,42,10,46,46,46,46,46,46,42,10])) λbt=>
 (A5 k bt (.bool false)).bind λv=>
 gk v true (some ay) λbu=>
 (A5 v bu (.bool false)).bind λl=>
 gk l true (some a3) λbv=>
 gk l true (Af .none .eql bv (.i6 0)) λbw=>
 (A5 l bw (.bool false)).bind λm=>
 gk m true (some a8) λbz=>
 gk m true (unA .not bz) λb0=>
 (A5 m b0 (.bool false)).bind λn=>
 gk n true (some bc) λb1=>
 gk n true (Af .none .eql b1 (.i6 4)) λb2=>
 (A5 n b2 (.bool false)).bind λb3=>
 rP a b3 bg
noncomputable def Sh.f8x (g:Aa)(h:LK)(d e b:Ab)(f:Aa):Out:=
 (BM d).bind λi=>
 (Af .none .lss b i).bind λc=>
 gk c true (some b) λj=>
 gk c true (some e) λk=>
 gk c true (BM k) λl=>
 gk c true (Af .none .lss j l) λm=>
 (A5 c m (.bool false)).bind λa=>
 gk a true (some d) λn=>
 gk a true (some b) λo=>
 gk a true (BI n o) λp=>
 gk a true (some e) λq=>
 gk a true (some b) λr=>
 gk a true (BI q r) λs=>
 gk a true (Af .none .eql p s) λt=>
 (A5 a t (.bool false)).bind λu=>
 Ak u (
 (Af .none .add b (.i6 1)).bind λv=>
 h [d,e,v] f) (
 rK g b f)
noncomputable def Sh.f6b (b c:Ab)(a:Aa):Out:=
 Am (λd vs H=>Sh.f8x a d (ag vs 0) (ag vs 1) (ag vs 2) H) AM [b,c,(.i6 0)] a
noncomputable def Sh.fa (d:Ab)(b:Aa):Out:=
 Al (Bu true 3 d b) λc a=>
 (Ac 1 c).bind λe=>
 (Ad false 1 e a).bind λf=>
 (Ac 0 c).bind λg=>
 (Ad false 1 g a).bind λh=>
 (BM h).bind λi=>
 (Af .none .geq f i).bind λj=>
 rP b j a
noncomputable def Sh.fb (i:Ab)(a:Aa):Out:=
 Al (Bu true 3 i a) λb j=>
 Al (Ax (some [(.str []),(.i6 0),(.i6 0)]) j) λc k=>
 (Ac 2 b).bind λl=>
 bP a (Av (Ae 1 l (.i6 2) k)) λ_ e=>
 (Ad true 3 b e).bind λm=>
 bP a (Sh.fa m e) λn d=>
 Ak n (
 (Ac 2 b).bind λo=>
 bP a (Av (Ae 1 o (.i6 3) d)) λ_ f=>
 (Ad true 3 b f).bind λp=>
 bP a (Av (Ae 3 c p f)) λ_ g=>
 (Ad true 3 c g).bind λq=>rP a q g) (
 (Ad true 3 b d).bind λr=>
 bP a (Av (Ae 3 c r d)) λ_ h=>
 (Ad true 3 c h).bind λs=>rP a s h)
noncomputable def Sh.fm (l f:Ab)(a:Aa):Out:=
 Al (Bu true 3 l a) λb m=>
 Al (Ax (some [(.str []),(.i6 0),(.i6 0)]) m) λc d=>
 (Ac 2 b).bind λn=>
 (Ad false 1 n d).bind λo=>
 (Af .none .neq o (.i6 0)).bind λp=>
 Ak p (
 (Ad true 3 b d).bind λq=>
 bP a (Av (Ae 3 c q d)) λ_ g=>
 (Ad true 3 c g).bind λr=>rP a r g) (
 (Ac 0 b).bind λs=>
 (Ad false 1 s d).bind λt=>
 (Ac 1 b).bind λu=>
 (Ad false 1 u d).bind λv=>
 (BS t (some v) none).bind λw=>
 bP a (Sh.f6b w f d) λh i=>
 (Ac 1 b).bind λx=>
 (Ad false 1 x i).bind λy=>
 (Af .none .add y h).bind λz=>
 (Ac 1 b).bind λaa=>
 bP a (Av (Ae 1 aa z i)) λ_ e=>
 (BM f).bind λab=>
 (Af .none .lss h ab).bind λac=>
 Ak ac (
 (Ad true 3 b e).bind λad=>
 bP a (Sh.fb ad e) λae aj=>
 bP a (Av (Ae 3 c ae aj)) λ_ j=>
 (Ad true 3 c j).bind λak=>rP a ak j) (
 (Ad true 3 b e).bind λal=>
 bP a (Av (Ae 3 c al e)) λ_ k=>
 (Ad true 3 c k).bind λam=>rP a am k))
noncomputable def Sh.f82 (a:Aa)(b d:Ab)(c:Aa):Out:=
 (Ac 0 b).bind λh=>
 (Ad false 1 h c).bind λi=>
 (Ac 1 b).bind λj=>
 (Ad false 1 j c).bind λk=>
 (BI i k).bind λl=>
 (Af .none .neq l (.int .u8 10)).bind λm=>
 Ak m (
 (Ad true 3 b c).bind λn=>
 bP a (Sh.fb n c) λo p=>
 bP a (Av (Ae 3 d o p)) λ_ e=>
 (Ad true 3 d e).bind λq=>rP a q e) (
 (Ac 1 b).bind λr=>
 (Ad false 1 r c).bind λs=>
 (Af .none .add s (.i6 1)).bind λt=>
 (Ac 1 b).bind λu=>
 bP a (Av (Ae 1 u t c)) λ_ f=>
 (Ad true 3 b f).bind λv=>
 bP a (Av (Ae 3 d v f)) λ_ g=>
 (Ad true 3 d g).bind λw=>rP a w g)
noncomputable def Sh.ft (l:Ab)(b:Aa):Out:=
 Al (Bu true 3 l b) λa m=>
 Al (Ax (some [(.str []),(.i6 0),(.i6 0)]) m) λe g=>
 (Ac 2 a).bind λn=>
 (Ad false 1 n g).bind λo=>
 (Af .none .neq o (.i6 0)).bind λh=>
 gk h false (Ad true 3 a g) λp=>
 gbP b h false g (Sh.fa p g) λq c=>
 (A5 h (.bool true) q).bind λr=>
 Ak r (
 (Ad true 3 a c).bind λs=>
 bP b (Av (Ae 3 e s c)) λ_ i=>
 (Ad true 3 e i).bind λt=>rP b t i) (
 AI (λj1=>
 (Ac 0 a).bind λu=>
 (Ad false 1 u c).bind λv=>
 (Ac 1 a).bind λw=>
 (Ad false 1 w c).bind λx=>
 (BI v x).bind λy=>
 (Af .none .eql y (.int .u8 13)).bind λz=>
 Ak z (
 (Ac 1 a).bind λaa=>
 (Ad false 1 aa c).bind λab=>
 (Af .none .add ab (.i6 1)).bind λac=>
 (Ac 1 a).bind λad=>
 bP b (Av (Ae 1 ad ac c)) λ_ j=>
 (Ad true 3 a j).bind λae=>
 bP b (Sh.fa ae j) λd f=>
 gk d false (Ac 0 a) λaj=>
 gk d false (Ad false 1 aj f) λak=>
 gk d false (Ac 1 a) λal=>
 gk d false (Ad false 1 al f) λam=>
 gk d false (BI ak am) λan=>
 gk d false (Af .none .neq an (.int .u8 10)) λap=>
 (A5 d (.bool true) ap).bind λaq=>
 Ak aq (
 (Ad true 3 a f).bind λar=>
 bP b (Sh.fb ar f) λau av=>
 bP b (Av (Ae 3 e au av)) λ_ k=>
 (Ad true 3 e k).bind λaw=>rP b aw k) (
 j1 [a,e] f)) (
 j1 [a,e] c)) (λvs H=>Sh.f82 b (ag vs 0) (ag vs 1) H))
noncomputable def Sh.fn (g h:Ab)(e:Aa):Out:=
 Al (Bu true 3 g e) λb c=>
 (Ac 2 b).bind λi=>
 (Ad false 1 i c).bind λj=>
 (Af .none .eql j (.i6 0)).bind λd=>
 gk d true (Ad true 3 b c) λk=>
 gbP e d true c (Sh.fa k c) λl f=>
 gk d true (unA .not l) λm=>
 (A5 d m (.bool false)).bind λa=>
 gk a true (Ac 0 b) λn=>
 gk a true (Ad false 1 n f) λo=>
 gk a true (Ac 1 b) λp=>
 gk a true (Ad false 1 p f) λq=>
 gk a true (BI o q) λr=>
 gk a true (some h) λs=>
 gk a true (Af .none .eql r s) λt=>
 (A5 a t (.bool false)).bind λu=>
 rP e u f
noncomputable def Sh.f83 (e:Aa)(j:LK)(a h:Ab)(f:Aa):Out:=
 (Ac 2 a).bind λk=>
 (Ad false 1 k f).bind λl=>
 (Af .none .eql l (.i6 0)).bind λg=>
 gk g true (Ad true 3 a f) λm=>
 gbP e g true f (Sh.fa m f) λn b=>
 gk g true (unA .not n) λo=>
 (A5 g o (.bool false)).bind λc=>
 gk c true (Ac 0 a) λp=>
 gk c true (Ad false 1 p b) λq=>
 gk c true (Ac 1 a) λr=>
 gk c true (Ad false 1 r b) λs=>
 gk c true (BI q s) λt=>
 gk c true (Af .none .neq t (.int .u8 10)) λu=>
 (A5 c u (.bool false)).bind λd=>
 gk d true (Ac 0 a) λv=>
 gk d true (Ad false 1 v b) λw=>
 gk d true (Ac 1 a) λx=>
 gk d true (Ad false 1 x b) λy=>
 gk d true (BI w y) λz=>
 gk d true (Af .none .neq z (.int .u8 13)) λaa=>
 (A5 d aa (.bool false)).bind λab=>
 Ak ab (
 (Ac 1 a).bind λac=>
 (Ad false 1 ac b).bind λad=>
 (Af .none .add ad (.i6 1)).bind λae=>
 (Ac 1 a).bind λaj=>
 bP e (Av (Ae 1 aj ae b)) λ_ ak=>
 j [a,h] ak) (
 (Ad true 3 a b).bind λal=>
 bP e (Av (Ae 3 h al b)) λ_ i=>
 (Ad true 3 h i).bind λam=>rP e am i)
noncomputable def Sh.f6c (b:Ab)(a:Aa):Out:=
 Al (Bu true 3 b a) λc d=>
 Al (Ax (some [(.str []),(.i6 0),(.i6 0)]) d) λe f=>
 Am (λg vs H=>Sh.f83 a g (ag vs 0) (ag vs 1) H) AM [c,e] f
noncomputable def Sh.f84 (c:Aa)(p:LK)(a f h:Ab)(l:Aa):Out:=
 (Ad true 3 a l).bind λq=>
 bP c (Sh.fa q l) λr g=>
 (unA .not r).bind λe=>
 gk e true (Ac 1 a) λs=>
 gk e true (Ad false 1 s g) λt=>
 gk e true (some h) λu=>
 gk e true (Af .none .sub t u) λv=>
 gk e true (Af .none .lss v (.i6 40)) λw=>
 (A5 e w (.bool false)).bind λd=>
 gk d true (Ac 0 a) λx=>
 gk d true (Ad false 1 x g) λy=>
 gk d true (Ac 1 a) λz=>
 gk d true (Ad false 1 z g) λaa=>
 gk d true (BI y aa) λab=>
 gbP c d true g (Sh.f32 ab g) λac b=>
 (A5 d ac (.bool false)).bind λad=>
 Ak ad (
 (Ac 1 a).bind λae=>
 (Ad false 1 ae b).bind λaj=>
 (Af .none .add aj (.i6 1)).bind λak=>
 (Ac 1 a).bind λal=>
 bP c (Av (Ae 1 al ak b)) λ_ am=>
 p [a,f,h] am) (
 (Ac 1 a).bind λan=>
 (Ad false 1 an b).bind λap=>
 (Af .none .eql ap h).bind λaq=>
 Ak aq (
 (Ad true 3 a b).bind λar=>
 bP c (Sh.fb ar b) λau av=>
 bP c (Av (Ae 3 f au av)) λ_ m=>
 (Cv [Ad true 3 f m,some (.str [])]).bind λaw=>rP c aw m) (
 bC (Ad true 3 a b) (λ_=>True) λax=>
 AN (Av (Ae 3 f ax b)) λ_ i=>
 (Ac 0 a).bind λn=>
 bC (Ad false 1 n i) (λj=>Ad false 1 n b=some j/\True) λj=>
 (Ac 1 a).bind λo=>
 bC (Ad false 1 o i) (λk=>Ad false 1 o b=some k/\True) λk=>
 (BS j (some h) (some k)).bind λay=>
 (Cv [Ad true 3 f i,some ay]).bind λaz=>rP c az i))
noncomputable def Sh.f1m (f:Ab)(b:Aa):Out:=
 Al (Bu true 3 f b) λc g=>
 Al (Ax (some [(.str []),(.i6 0),(.i6 0)]) g) λd a=>
 (Ac 2 c).bind λh=>
 (Ad false 1 h a).bind λi=>
 (Af .none .neq i (.i6 0)).bind λj=>
 Ak j (
 (Ad true 3 c a).bind λk=>
 bP b (Av (Ae 3 d k a)) λ_ e=>
 (Cv [Ad true 3 d e,some (.str [])]).bind λl=>rP b l e) (
 (Ac 1 c).bind λm=>
 (Ad false 1 m a).bind λn=>
 Am (λo vs H=>Sh.f84 b o (ag vs 0) (ag vs 1) (ag vs 2) H) AM [c,d,n] a)
noncomputable def Sh.f6d (i:Aa)(j:LK)(d f g e:Ab)(h:Aa):Out:=
 (Af .none .geq f (.i6 0)).bind λa=>
 gk a true (some e) λk=>
 gk a true (some d) λl=>
 gk a true (BM l) λm=>
 gk a true (Af .none .lss k m) λn=>
 (A5 a n (.bool false)).bind λb=>
 gk b true (some d) λo=>
 gk b true (some e) λp=>
 gk b true (BI o p) λq=>
 gk b true (Af .none .geq q (.int .u8 48)) λr=>
 (A5 b r (.bool false)).bind λc=>
 gk c true (some d) λs=>
 gk c true (some e) λt=>
 gk c true (BI s t) λu=>
 gk c true (Af .none .leq u (.int .u8 57)) λv=>
 (A5 c v (.bool false)).bind λw=>
 Ak w (
 (Af .none .add g (.i6 1)).bind λx=>
 (Af .none .add e (.i6 1)).bind λy=>
 j [d,f,x,y] h) (
 rK i g h)
noncomputable def Sh.f6e (c a:Ab)(b:Aa):Out:=
 Am (λd vs H=>Sh.f6d b d (ag vs 0) (ag vs 1) (ag vs 2) (ag vs 3) H) AM [c,a,(.i6 0),a] b
noncomputable def Sh.f85 (a:Aa)(i:LK)(b e f g c:Ab)(d:Aa):Out:=
 (A7 b).bind λj=>
 (Af .none .lss c j).bind λk=>
 Ak k (
 (Aw 1 b c).bind λl=>
 (Ad false 1 l d).bind λm=>
 (AA .u64 m).bind λn=>
 (AA .u64 e).bind λo=>
 (Af .none .mul n o).bind λp=>
 (Af .none .add p g).bind λh=>
 (Af .none .rem h (.int .u64 4294967296)).bind λq=>
 (AA .u32 q).bind λr=>
 (AL 1 [r]).bind λs=>
 bP a (BV (AP BA 1 4 f s d)) λt u=>
 (Af .none .quo h (.int .u64 4294967296)).bind λv=>
 (Af .none .add c (.i6 1)).bind λw=>
 i [b,e,t,v,w] u) (
 (AA .u32 g).bind λx=>
 (AL 1 [x]).bind λy=>
 bP a (BV (AP BA 1 4 f y d)) λz aa=>
 bP a (Sh.f10 z aa) λab ac=>
 rPN a ab ac)
noncomputable def Sh.f6f (b c d:Ab)(a:Aa):Out:=
 (AA .u64 d).bind λe=>
 Am (λf vs H=>Sh.f85 a f (ag vs 0) (ag vs 1) (ag vs 2) (ag vs 3) (ag vs 4) H) AM [b,c,(.sl [] .ti),e,(.i6 0)] a
noncomputable def Sh.f3j (a:Aa)(l:LK)(b d g h e:Ab)(i:Aa):Out:=
 (BM d).bind λm=>
 (Af .none .lss e m).bind λn=>
 Ak n (
 (BI d e).bind λo=>
 (Af .none .sub o (.int .u8 48)).bind λp=>
 (AA .u32 p).bind λq=>
 bP a (Sh.f6f h (.int .u32 10) q i) λr s=>
 (Af .none .add e (.i6 1)).bind λt=>
 l [b,d,g,r,t] s) (
 (Az (some [(.bool false),(.sl [] .ti)]) [(1,1,h)]).bind λu=>
 Al (Ax (some [(.bool false),(.sl [] .ti)]) i) λf v=>
 bP a (Av (Ae 2 f u v)) λ_ c=>
 Ak g (
 (Ad true 2 f c).bind λw=>
 bP a (Sh.fh w c) λx y=>
 bP a (Av (Ae 2 b x y)) λ_ j=>
 (Cv [Ad true 2 b j,some (.i6 0)]).bind λz=>rPN a z j) (
 (Ad true 2 f c).bind λaa=>
 bP a (Av (Ae 2 b aa c)) λ_ k=>
 (Cv [Ad true 2 b k,some (.i6 0)]).bind λab=>rPN a ab k))
noncomputable def Sh.f86 (b:Aa)(f a h:Ab)(i:Aa):Out:=
 (BM a).bind λm=>
 (Af .none .eql m (.i6 0)).bind λc=>
 gk c false (some a) λn=>
 gbP b c false i (Sh.f6e n (.i6 0) i) λo g=>
 gk c false (some a) λp=>
 gk c false (BM p) λq=>
 gk c false (Af .none .neq o q) λr=>
 (A5 c (.bool true) r).bind λd=>
 gk d false (some a) λs=>
 gk d false (BI s (.i6 0)) λt=>
 gk d false (Af .none .eql t (.int .u8 48)) λu=>
 gk d false (some u) λe=>
 gk e true (some a) λv=>
 gk e true (BM v) λw=>
 gk e true (Af .none .gtr w (.i6 1)) λx=>
 gk e true (some x) λj=>
 gk j false (some h) λy=>
 gk e true (A5 j (.bool true) y) λz=>
 gk d false (A5 e z (.bool false)) λaa=>
 (A5 d (.bool true) aa).bind λab=>
 Ak ab (
 (Az (some [(.bool false),(.sl [] .ti)]) []).bind λac=>
 bP b (Av (Ae 2 f ac g)) λ_ k=>
 (Cv [Ad true 2 f k,some (.i6 2)]).bind λad=>rPN b ad k) (
 (BM a).bind λae=>
 (Af .none .gtr ae (.i6 400)).bind λaj=>
 Ak aj (
 (Az (some [(.bool false),(.sl [] .ti)]) []).bind λak=>
 bP b (Av (Ae 2 f ak g)) λ_ l=>
 (Cv [Ad true 2 f l,some (.i6 4)]).bind λal=>rPN b al l) (
 Am (λam vs H=>Sh.f3j b am (ag vs 0) (ag vs 1) (ag vs 2) (ag vs 3) (ag vs 4) H) AM [f,a,h,(.sl [] .ti),(.i6 0)] g))
noncomputable def Sh.f6g (a:Ab)(d:Aa):Out:=
 Al (Ax (some [(.bool false),(.sl [] .ti)]) d) λe f=>
 (BM a).bind λg=>
 (Af .none .gtr g (.i6 0)).bind λb=>
 gk b true (some a) λh=>
 gk b true (BI h (.i6 0)) λi=>
 gk b true (Af .none .eql i (.int .u8 45)) λj=>
 (A5 b j (.bool false)).bind λc=>
 AI (λj1=>
 Ak c (
 (BS a (some (.i6 1)) none).bind λk=>
 j1 [e,k,c] f) (
 j1 [e,a,c] f)) (λvs H=>Sh.f86 d (ag vs 0) (ag vs 1) (ag vs 2) H)
noncomputable def Sh.f3k (c:Aa)(y:LK)(a d e t j k:Ab)(u:Aa):Out:=
 (Ad true 3 a u).bind λz=>
 bP c (Sh.fa z u) λaa b=>
 (unA .not aa).bind λf=>
 gk f true (Ac 0 a) λab=>
 gk f true (Ad false 1 ab b) λac=>
 gk f true (Ac 1 a) λad=>
 gk f true (Ad false 1 ad b) λae=>
 gk f true (BI ac ae) λaj=>
 gk f true (Af .none .geq aj (.int .u8 48)) λak=>
 (A5 f ak (.bool false)).bind λg=>
 gk g true (Ac 0 a) λal=>
 gk g true (Ad false 1 al b) λam=>
 gk g true (Ac 1 a) λan=>
 gk g true (Ad false 1 an b) λap=>
 gk g true (BI am ap) λaq=>
 gk g true (Af .none .leq aq (.int .u8 57)) λar=>
 (A5 g ar (.bool false)).bind λau=>
 Ak au (
 gk j true (Ac 1 a) λav=>
 gk j true (Ad false 1 av b) λaw=>
 gk j true (some k) λax=>
 gk j true (Af .none .eql aw ax) λay=>
 (A5 j ay (.bool false)).bind λh=>
 gk h true (Ac 0 a) λaz=>
 gk h true (Ad false 1 az b) λa0=>
 gk h true (Ac 1 a) λa1=>
 gk h true (Ad false 1 a1 b) λa2=>
 gk h true (BI a0 a2) λa3=>
 gk h true (Af .none .eql a3 (.int .u8 48)) λa4=>
 (A5 h a4 (.bool false)).bind λi=>
 gk i false (Ac 1 a) λa5=>
 gk i false (Ad false 1 a5 b) λa6=>
 gk i false (some k) λa7=>
 gk i false (Af .none .gtr a6 a7) λa8=>
 gk i false (some a8) λl=>
 gk l true (Ac 0 a) λa9=>
 gk l true (Ad false 1 a9 b) λba=>
 gk l true (some k) λbb=>
 gk l true (BI ba bb) λbc=>
 gk l true (Af .none .eql bc (.int .u8 48)) λbd=>
 gk i false (A5 l bd (.bool false)) λbe=>
 (A5 i (.bool true) be).bind λbg=>
 Ak bg (
 (Ad true 3 a b).bind λbj=>
 bP c (Sh.fb bj b) λbk bl=>
 (Az (some [(.bool false),(.sl [] .ti)]) []).bind λbm=>
 bP c (Av (Ae 3 d bk bl)) λ_ bp=>
 bP c (Av (Ae 2 e bm bp)) λ_ m=>
 (Cv [Ad true 3 d m,Ad true 2 e m]).bind λbq=>rPN c bq m) (
 (Ac 1 a).bind λbr=>
 (Ad false 1 br b).bind λbt=>
 (Af .none .sub bt k).bind λbu=>
 (Af .none .eql bu (.i6 400)).bind λbv=>
 Ak bv (
 (Ac 2 a).bind λbw=>
 bP c (Av (Ae 1 bw (.i6 4) b)) λ_ v=>
 (Ad true 3 a v).bind λbz=>
 (Az (some [(.bool false),(.sl [] .ti)]) []).bind λb0=>
 bP c (Av (Ae 3 d bz v)) λ_ b1=>
 bP c (Av (Ae 2 e b0 b1)) λ_ n=>
 (Cv [Ad true 3 d n,Ad true 2 e n]).bind λb2=>rPN c b2 n) (
 (Ac 1 a).bind λb3=>
 (Ad false 1 b3 b).bind λb4=>
 (Af .none .add b4 (.i6 1)).bind λb5=>
 (Ac 1 a).bind λb6=>
 bP c (Av (Ae 1 b6 b5 b)) λ_ b7=>
 y [a,d,e,t,j,k] b7))) (
 (Ac 1 a).bind λb8=>
 (Ad false 1 b8 b).bind λb9=>
 (Af .none .eql b9 k).bind λca=>
 Ak ca (
 (Ad true 3 a b).bind λcb=>
 bP c (Sh.fb cb b) λcc cd=>
 (Az (some [(.bool false),(.sl [] .ti)]) []).bind λce=>
 bP c (Av (Ae 3 d cc cd)) λ_ cg=>
 bP c (Av (Ae 2 e ce cg)) λ_ o=>
 (Cv [Ad true 3 d o,Ad true 2 e o]).bind λcj=>rPN c cj o) (
 (Ac 0 a).bind λck=>
 (Ad false 1 ck b).bind λcl=>
 (Ac 1 a).bind λcm=>
 (Ad false 1 cm b).bind λcn=>
 (BS cl (some t) (some cn)).bind λcp=>
 bP c (Sh.f6g cp b) λw cq=>
 (Aq 0 w).bind λcr=>
 (Aq 1 w).bind λcw=>
 Al (Ax (some [(.bool false),(.sl [] .ti)]) cq) λp ct=>
 bP c (Av (Ae 2 p cr ct)) λ_ q=>
 bC (Ad true 3 a q) (λ_=>True) λcu=>
 AN (Av (Ae 3 d cu q)) λ_ x=>
 bC (Ad true 2 p x) (λr=>Ad true 2 p q=some r/\True) λr=>
 bP c (Av (Ae 2 e r x)) λ_ s=>
 (Cv [Ad true 3 d s,Ad true 2 e s]).bind λcv=>rPN c cv s))
noncomputable def Sh.f8y (c:Aa)(a d e f g:Ab)(b:Aa):Out:=
 (Ac 1 a).bind λh=>
 (Ad false 1 h b).bind λi=>
 Am (λj vs H=>Sh.f3k c j (ag vs 0) (ag vs 1) (ag vs 2) (ag vs 3) (ag vs 4) (ag vs 5) H) AM [a,d,e,f,g,i] b
noncomputable def Sh.f15 (k f:Ab)(b:Aa):Out:=
 Al (Bu true 3 k b) λa l=>
 Al (Ax (some [(.str []),(.i6 0),(.i6 0)]) l) λd m=>
 Al (Ax (some [(.bool false),(.sl [] .ti)]) m) λe c=>
 (Ac 2 a).bind λn=>
 (Ad false 1 n c).bind λo=>
 (Af .none .neq o (.i6 0)).bind λp=>
 Ak p (
 (Ad true 3 a c).bind λq=>
 (Az (some [(.bool false),(.sl [] .ti)]) []).bind λr=>
 bP b (Av (Ae 3 d q c)) λ_ s=>
 bP b (Av (Ae 2 e r s)) λ_ g=>
 (Cv [Ad true 3 d g,Ad true 2 e g]).bind λt=>rPN b t g) (
 (Ac 1 a).bind λu=>
 (Ad false 1 u c).bind λj=>
 gk f true (Ad true 3 a c) λv=>
 gbP b f true c (Sh.fn v (.int .u8 45) c) λw h=>
 (A5 f w (.bool false)).bind λi=>
 AI (λj1=>
 Ak i (
 (Ac 1 a).bind λx=>
 (Ad false 1 x h).bind λy=>
 (Af .none .add y (.i6 1)).bind λz=>
 (Ac 1 a).bind λaa=>
 bP b (Av (Ae 1 aa z h)) λ_ ab=>
 j1 [a,d,e,j,i] ab) (
 j1 [a,d,e,j,i] h)) (λvs H=>Sh.f8y b (ag vs 0) (ag vs 1) (ag vs 2) (ag vs 3) (ag vs 4) H))
noncomputable def Sh.f16 (av aw:Ab)(a:Aa):Out:=
 Al (Bu true 3 av a) λb ax=>
 Al (Bu true 8 aw ax) λc ay=>
 Al (Ax (some [(.str []),(.i6 0),(.i6 0)]) ay) λd az=>
 Al (Ax (some [(.str []),(.bool false),(.bool false),(.sl [] .ti),(.bool false),(.sl [] .ti),(.i6 0),(.sl [] .ti)]) az) λe x=>
 (Ac 1 b).bind λa0=>
 (Ad false 1 a0 x).bind λa1=>
 (Af .none .add a1 (.i6 1)).bind λa2=>
 (Ac 1 b).bind λa3=>
 bP a (Av (Ae 1 a3 a2 x)) λ_ y=>
 (Ad true 3 b y).bind λa4=>
 bP a (Sh.fn a4 (.int .u8 68) y) λa5 g=>
 Ak a5 (
 (Ac 1 b).bind λa6=>
 (Ad false 1 a6 g).bind λa7=>
 (Af .none .add a7 (.i6 1)).bind λa8=>
 (Ac 1 b).bind λa9=>
 bP a (Av (Ae 1 a9 a8 g)) λ_ l=>
 bC (Ad true 3 b l) (λ_=>True) λba=>
 AN (Sh.f6c ba l) λbb z=>
 AN (Av (Ae 3 d bb z)) λ_ aa=>
 bC (Ad true 8 c aa) (λh=>Ad true 8 c z=some h/\Ad true 8 c l=some h/\True) λh=>
 bP a (Av (Ae 8 e h aa)) λ_ m=>
 (Cv [Ad true 3 d m,Ad true 8 e m]).bind λbc=>rP a bc m) (
 (Ad true 3 b g).bind λbd=>
 bP a (Sh.fn bd (.int .u8 78) g) λbe i=>
 Ak be (
 (Ac 1 b).bind λbg=>
 (Ad false 1 bg i).bind λbj=>
 (Af .none .add bj (.i6 1)).bind λbk=>
 (Ac 1 b).bind λbl=>
 bP a (Av (Ae 1 bl bk i)) λ_ bm=>
 (Ac 0 c).bind λbp=>
 bP a (Av (Ae 1 bp (.str [66,51,47,83,50,51]) bm)) λ_ n=>
 bC (Ad true 3 b n) (λ_=>True) λbq=>
 AN (Av (Ae 3 d bq n)) λ_ ab=>
 bC (Ad true 8 c ab) (λo=>Ad true 8 c n=some o/\True) λo=>
 bP a (Av (Ae 8 e o ab)) λ_ p=>
 (Cv [Ad true 3 d p,Ad true 8 e p]).bind λbr=>rP a br p) (
 (Ad true 3 b i).bind λbt=>
 bP a (Sh.fn bt (.int .u8 82) i) λbu j=>
 Ak bu (
 (Ad true 3 b j).bind λbv=>
 bP a (Sh.fm bv (.str [82,32]) j) λbw bz=>
 bP a (Av (Ae 3 b bw bz)) λ_ ac=>
 (Ad true 3 b ac).bind λb0=>
 bP a (Sh.f1m b0 ac) λad b1=>
 (Aq 0 ad).bind λb2=>
 (Aq 1 ad).bind λb3=>
 Al (Ax (some [(.str []),(.i6 0),(.i6 0)]) b1) λae b4=>
 bP a (Av (Ae 3 ae b2 b4)) λ_ b5=>
 (Ac 0 c).bind λb6=>
 bP a (Av (Ae 1 b6 b3 b5)) λ_ q=>
 bC (Ad true 3 ae q) (λ_=>True) λb7=>
 AN (Av (Ae 3 d b7 q)) λ_ aj=>
 bC (Ad true 8 c aj) (λr=>Ad true 8 c q=some r/\True) λr=>
 bP a (Av (Ae 8 e r aj)) λ_ s=>
 (Cv [Ad true 3 d s,Ad true 8 e s]).bind λb8=>rP a b8 s) (
 (Ad true 3 b j).bind λb9=>
 bP a (Sh.fn b9 (.int .u8 80) j) λca f=>
 Ak ca (
 (Ad true 3 b f).bind λcb=>
 bP a (Sh.fm cb (.str [80,32]) f) λcc cd=>
 bP a (Av (Ae 3 b cc cd)) λ_ ak=>
 (Ad true 3 b ak).bind λce=>
 bP a (Sh.f15 ce (.bool true) ak) λal cg=>
 (Aq 0 al).bind λcj=>
 (Aq 1 al).bind λck=>
 bP a (Av (Ae 3 b cj cg)) λ_ cl=>
 (Ac 2 c).bind λcm=>
 bP a (Av (Ae 2 cm ck cl)) λ_ am=>
 (Ad true 3 b am).bind λcn=>
 bP a (Sh.fm cn (.str [32]) am) λcp cq=>
 bP a (Av (Ae 3 b cp cq)) λ_ an=>
 (Ad true 3 b an).bind λcr=>
 bP a (Sh.f15 cr (.bool true) an) λap ct=>
 (Aq 0 ap).bind λcu=>
 (Aq 1 ap).bind λcv=>
 bP a (Av (Ae 3 b cu ct)) λ_ cw=>
 (Ac 4 c).bind λcx=>
 bP a (Av (Ae 2 cx cv cw)) λ_ cy=>
 (Ac 1 c).bind λcz=>
 bP a (Av (Ae 1 cz (.bool true) cy)) λ_ c0=>
 (Ac 6 c).bind λc1=>
 bP a (Av (Ae 1 c1 (.i6 0) c0)) λ_ t=>
 bC (Ad true 3 b t) (λ_=>True) λc2=>
 AN (Av (Ae 3 d c2 t)) λ_ aq=>
 bC (Ad true 8 c aq) (λu=>Ad true 8 c t=some u/\True) λu=>
 bP a (Av (Ae 8 e u aq)) λ_ v=>
 (Cv [Ad true 3 d v,Ad true 8 e v]).bind λc3=>rP a c3 v) (
 bC (Ad true 3 b f) (λ_=>True) λc4=>
 AN (Sh.fb c4 f) λc5 ar=>
 AN (Av (Ae 3 d c5 ar)) λ_ au=>
 bC (Ad true 8 c au) (λk=>Ad true 8 c ar=some k/\Ad true 8 c f=some k/\True) λk=>
 bP a (Av (Ae 8 e k au)) λ_ w=>
 (Cv [Ad true 3 d w,Ad true 8 e w]).bind λc6=>rP a c6 w))))
noncomputable def Sh.f87 (c:Aa)(d:LK)(e f a g h i j:Ab)(b:Aa):Out:=
 (Ac 1 a).bind λk=>
 (Ad false 1 k b).bind λl=>
 (Af .none .add l (.i6 1)).bind λm=>
 (Ac 1 a).bind λn=>
 bP c (Av (Ae 1 n m b)) λ_ o=>
 (Af .none .add j (.i6 1)).bind λp=>
 d [e,f,a,g,h,i,p] o
noncomputable def Sh.f6h (d:Aa)(r:LK)(h n a i f j k:Ab)(l:Aa):Out:=
 (Ac 2 a).bind λs=>
 (Ad false 1 s l).bind λt=>
 (Af .none .eql t (.i6 0)).bind λm=>
 gk m true (Ad true 3 a l) λu=>
 gbP d m true l (Sh.fa u l) λv b=>
 gk m true (unA .not v) λw=>
 (A5 m w (.bool false)).bind λc=>
 gk c true (Ac 0 a) λx=>
 gk c true (Ad false 1 x b) λy=>
 gk c true (Ac 1 a) λz=>
 gk c true (Ad false 1 z b) λaa=>
 gk c true (BI y aa) λab=>
 gk c true (Af .none .eql ab (.int .u8 46)) λac=>
 gk c true (some ac) λe=>
 gk e false (Ac 0 a) λad=>
 gk e false (Ad false 1 ad b) λae=>
 gk e false (Ac 1 a) λaj=>
 gk e false (Ad false 1 aj b) λak=>
 gk e false (BI ae ak) λal=>
 gk e false (some h) λam=>
 gk e false (Af .none .eql al am) λan=>
 gk c true (A5 e (.bool true) an) λap=>
 (A5 c ap (.bool false)).bind λaq=>
 Ak aq (
 AI (λj2=>
 (Ac 0 a).bind λar=>
 (Ad false 1 ar b).bind λau=>
 (Ac 1 a).bind λav=>
 (Ad false 1 av b).bind λaw=>
 (BI au aw).bind λax=>
 (Af .none .eql ax h).bind λay=>
 Ak ay (
 (Ac 0 i).bind λaz=>
 (Ad false 1 az b).bind λa0=>
 (Af .none .geq k a0).bind λg=>
 gk g false (some n) λa1=>
 gk g false (Ac 0 i) λa2=>
 gk g false (Ad false 1 a2 b) λa3=>
 gk g false (Af .none .geq a1 a3) λa4=>
 (A5 g (.bool true) a4).bind λa5=>
 Ak a5 (
 (Ac 2 a).bind λa6=>
 bP d (Av (Ae 1 a6 (.i6 4) b)) λ_ o=>
 (Ad true 3 a o).bind λa7=>
 bP d (Av (Ae 3 f a7 o)) λ_ p=>
 (Cv [Ad true 3 f p,some j]).bind λa8=>rPN d a8 p) (
 (AL 1 [k]).bind λa9=>
 bP d (BV (AP EV 1 8 j a9 b)) λba bb=>
 j2 [h,n,a,i,f,ba,k] bb)) (
 j2 [h,n,a,i,f,j,k] b)) (λvs H=>Sh.f87 d r (ag vs 0) (ag vs 1) (ag vs 2) (ag vs 3) (ag vs 4) (ag vs 5) (ag vs 6) H)) (
 (Ad true 3 a b).bind λbc=>
 bP d (Av (Ae 3 f bc b)) λ_ q=>
 (Cv [Ad true 3 f q,some j]).bind λbd=>rPN d bd q)
noncomputable def Sh.f6i (b c d e:Ab)(a:Aa):Out:=
 Al (Bu true 3 b a) λf g=>
 Al (Bu true 2 e g) λh i=>
 Al (Ax (some [(.str []),(.i6 0),(.i6 0)]) i) λj k=>
 Am (λl vs H=>Sh.f6h a l (ag vs 0) (ag vs 1) (ag vs 2) (ag vs 3) (ag vs 4) (ag vs 5) (ag vs 6) H) AM [c,d,f,h,j,(.sl [] .ti),(.i6 0)] k
noncomputable def Sh.f1n (p q r s:Ab)(d:Aa):Out:=
 Al (Bu true 3 p d) λe t=>
 Al (Bu true 2 q t) λk u=>
 Al (Bu true 2 s u) λv w=>
 Al (Ax (some [(.str []),(.sl [] .ti)]) w) λc a=>
 (Ac 2 e).bind λx=>
 (Ad false 1 x a).bind λy=>
 (Af .none .neq y (.i6 0)).bind λz=>
 Ak z (
 (Az (some [(.str []),(.sl [] .ti)]) []).bind λaa=>
 AN (Av (Ae 2 c aa a)) λ_ f=>
 (Ac 1 e).bind λl=>
 bC (Ad false 1 l f) (λg=>Ad false 1 l a=some g/\True) λg=>
 (Ac 2 e).bind λm=>
 bC (Ad false 1 m f) (λh=>Ad false 1 m a=some h/\True) λh=>
 (Cv [Ad true 2 c f,some g,some h]).bind λab=>rPN d ab f) (
 (Af .none .neq r (.i6 0)).bind λb=>
 gk b false (Ac 1 k) λac=>
 gk b false (Ac 0 ac) λad=>
 gk b false (Ad false 1 ad a) λae=>
 gk b false (A7 ae) λaj=>
 gk b false (Ac 1 v) λak=>
 gk b false (Ad false 1 ak a) λal=>
 gk b false (Af .none .gtr aj al) λam=>
 (A5 b (.bool true) am).bind λan=>
 Ak an (
 (Az (some [(.str []),(.sl [] .ti)]) []).bind λap=>
 AN (Av (Ae 2 c ap a)) λ_ i=>
 (Ac 0 e).bind λn=>
 bC (Ad false 1 n i) (λj=>Ad false 1 n a=some j/\True) λj=>
 (BM j).bind λaq=>
 (Cv [Ad true 2 c i,some aq,some (.i6 4)]).bind λar=>rPN d ar i) (
 (Ad true 2 k a).bind λau=>
 bP d (Av (Ae 2 c au a)) λ_ o=>
 (Cv [Ad true 2 c o,some (.i6 0),some (.i6 0)]).bind λav=>rPN d av o))
noncomputable def Sh.f6j (b:Ab)(c:Aa):Out:=
 (A7 b).bind λd=>
 (Af .none .eql d (.i6 0)).bind λa=>
 gk a false (some b) λe=>
 gk a false (some b) λf=>
 gk a false (A7 f) λg=>
 gk a false (Af .none .sub g (.i6 1)) λh=>
 gk a false (Aw 1 e h) λi=>
 gk a false (Ad false 1 i c) λj=>
 gk a false (Af .none .neq j (.int .u32 0)) λk=>
 (A5 a (.bool true) k).bind λl=>
 rK c l c
noncomputable def Sh.f3l (g:Ab)(c:Aa):Out:=
 Al (Bu true 2 g c) λd f=>
 (Ac 1 d).bind λh=>
 (Ad false 1 h f).bind λi=>
 bP c (Sh.f6j i f) λa e=>
 gk a true (Ac 0 d) λj=>
 gk a true (Ad false 1 j e) λk=>
 gk a true (some k) λb=>
 gk b true (Ac 1 d) λl=>
 gk b true (Ad false 1 l e) λm=>
 gk b true (A7 m) λn=>
 gk b true (Af .none .eql n (.i6 0)) λo=>
 gk a true (A5 b o (.bool false)) λp=>
 gk a true (unA .not p) λq=>
 (A5 a q (.bool false)).bind λr=>
 rP c r e
noncomputable def Sh.f3m (g h:Ab)(a:Aa):Out:=
 Al (Bu true 5 g a) λd i=>
 Al (Bu true 5 h i) λe c=>
 (Ac 2 d).bind λj=>
 (Ad true 2 j c).bind λk=>
 (Ac 2 e).bind λl=>
 (Ad true 2 l c).bind λm=>
 bP a (Sh.f1 k m c) λf b=>
 (Af .none .neq f (.i6 0)).bind λn=>
 Ak n (
 rP a f b) (
 (Ac 0 d).bind λo=>
 (Ad true 2 o b).bind λp=>
 (Ac 0 e).bind λq=>
 (Ad true 2 q b).bind λr=>
 bP a (Sh.f1 p r b) λs t=>
 rP a s t)
noncomputable def Sh.f6k (q:Aa)(e:LK)(a f b c g:Ab)(d:Aa):Out:=
 (Bw 5 f none (some c) (some c)).bind λh=>
 (Aw 5 a b).bind λi=>
 bC (Ad true 5 i d) (λ_=>True) λj=>
 (AL 5 [j]).bind λk=>
 AN (BV (AP A8 5 72 h k d)) λl m=>
 AN (BV (AP A8 5 72 l g m)) λn o=>
 (Af .none .add b (.i6 1)).bind λp=>
 e [a,n,p] o
noncomputable def Sh.f88 (i:Aa)(l:LK)(m:LK)(e c f d:Ab)(h:Aa):Out:=
 (A7 c).bind λn=>
 (Af .none .lss d n).bind λa=>
 gk a true (some c) λo=>
 gk a true (some d) λp=>
 gk a true (Aw 5 o p) λq=>
 gkc a true (Ad true 5 q h) (λ_ _=>True) λr=>
 gk a true (some e) λs=>
 gk a true (some f) λt=>
 gk a true (Aw 5 s t) λu=>
 gkc a true (Ad true 5 u h) (λ_ _=>True) λv=>
 gbN a true h (Sh.f3m r v h) λw g=>
 gk a true (Af .none .lss w (.i6 0)) λx=>
 (A5 a x (.bool false)).bind λy=>
 Ak y (
 (Af .none .add d (.i6 1)).bind λz=>
 m [e,c,f,z] g) (
 (A7 c).bind λaa=>
 (Af .none .lss d aa).bind λb=>
 gk b true (some c) λab=>
 gk b true (some d) λac=>
 gk b true (Aw 5 ab ac) λad=>
 gkc b true (Ad true 5 ad g) (λ_ _=>True) λae=>
 gk b true (some e) λaj=>
 gk b true (some f) λak=>
 gk b true (Aw 5 aj ak) λal=>
 gkc b true (Ad true 5 al g) (λ_ _=>True) λam=>
 gbN b true g (Sh.f3m ae am g) λan ap=>
 gk b true (Af .none .eql an (.i6 0)) λaq=>
 (A5 b aq (.bool false)).bind λar=>
 (AL 5 []).bind λau=>
 (Bw 5 c (some d) none none).bind λav=>
 bP i (BV (AP A8 5 72 au av ap)) λj k=>
 AI (λj3=>
 Ak ar (
 (Bw 5 j (some (.i6 1)) none none).bind λaw=>
 j3 [e,c,f,d,aw] k) (
 j3 [e,c,f,d,j] k)) (λvs H=>Sh.f6k i l (ag vs 0) (ag vs 1) (ag vs 2) (ag vs 3) (ag vs 4) H))
noncomputable def Sh.f6l (g:Aa)(a:LK)(b c d:Ab)(e:Aa):Out:=
 (Af .none .add d (.i6 1)).bind λf=>
 a [b,c,f] e
noncomputable def Sh.f6m (d:Aa)(f:LK)(a e b:Ab)(c:Aa):Out:=
 (A7 a).bind λg=>
 (Af .none .lss b g).bind λh=>
 Ak h (
 AI (λj5=>
 (Aw 5 a b).bind λi=>
 (Ac 4 i).bind λj=>
 (Ad false 1 j c).bind λk=>
 (Af .none .neq k (.int .u8 0)).bind λl=>
 Ak l (
 (Aw 5 a b).bind λm=>
 (Ad true 5 m c).bind λn=>
 (AL 5 [n]).bind λo=>
 bP d (BV (AP A8 5 72 e o c)) λp q=>
 j5 [a,p,b] q) (
 j5 [a,e,b] c)) (λvs H=>Sh.f6l d f (ag vs 0) (ag vs 1) (ag vs 2) H)) (
 rPN d e c)
noncomputable def Sh.f6n (a:Aa)(f:LK)(b c d:Ab)(e:Aa):Out:=
 (A7 b).bind λg=>
 (Af .none .lss d g).bind λh=>
 Ak h (
 Am (λi vs H=>Sh.f88 a f i (ag vs 0) (ag vs 1) (ag vs 2) (ag vs 3) H) AM [b,c,d,(.i6 0)] e) (
 Am (λj vs H=>Sh.f6m a j (ag vs 0) (ag vs 1) (ag vs 2) H) AM [c,(.sl [] .ti),(.i6 0)] e)
noncomputable def Sh.f6o (b:Ab)(a:Aa):Out:=
 Am (λc vs H=>Sh.f6n a c (ag vs 0) (ag vs 1) (ag vs 2) H) AM [b,(.sl [] .ti),(.i6 0)] a
noncomputable def Sh.f6p (m n:Ab)(a:Aa):Out:=
 Al (Bu true 5 m a) λe o=>
 (Af .none .sub n (.i6 1)).bind λp=>
 bP a (Sh.f7 p o) λq r=>
 Al (Ax (some [(.bool false),(.sl [] .ti)]) r) λf s=>
 bP a (Av (Ae 2 f q s)) λ_ l=>
 (Ad true 2 f l).bind λt=>
 bP a (Sh.fh t l) λu v=>
 Al (Ax (some [(.bool false),(.sl [] .ti)]) v) λj w=>
 bP a (Av (Ae 2 j u w)) λ_ k=>
 (Ac 0 e).bind λx=>
 (Ad true 2 x k).bind λy=>
 (Ad true 2 j k).bind λz=>
 bP a (Sh.f1 y z k) λaa g=>
 (Af .none .geq aa (.i6 0)).bind λb=>
 gk b true (Ac 0 e) λab=>
 gk b true (Ad true 2 ab g) λac=>
 gk b true (Ad true 2 f g) λad=>
 gbP a b true g (Sh.f1 ac ad g) λae h=>
 gk b true (Af .none .lss ae (.i6 0)) λaj=>
 (A5 b aj (.bool false)).bind λc=>
 gk c true (Ac 2 e) λak=>
 gk c true (Ad true 2 ak h) λal=>
 gk c true (Ad true 2 j h) λam=>
 gbP a c true h (Sh.f1 al am h) λan i=>
 gk c true (Af .none .geq an (.i6 0)) λap=>
 (A5 c ap (.bool false)).bind λd=>
 gk d true (Ac 2 e) λaq=>
 gk d true (Ad true 2 aq i) λar=>
 gk d true (Ad true 2 f i) λau=>
 gbP a d true i (Sh.f1 ar au i) λav aw=>
 gk d true (Af .none .lss av (.i6 0)) λax=>
 (A5 d ax (.bool false)).bind λay=>
 rP a ay aw
noncomputable def Sh.f3n (l:Aa)(a:LK)(b c d e f g h i:Ab)(j:Aa):Out:=
 (Af .none .add i (.i6 1)).bind λk=>
 a [b,c,d,e,f,g,h,k] j
noncomputable def Sh.f1o (p:Aa)(a:LK)(b c d e f g h i j k l m:Ab)(n:Aa):Out:=
 (Af .none .add m (.i6 1)).bind λo=>
 a [b,c,d,e,f,g,h,i,j,k,l,o] n
noncomputable def Sh.f6q (e:Aa)(self:Ab->Ab->Ab->Ab->Ab->Aa->Out)(j2:LK)(f a g h i j c d l m n:Ab)(b:Aa):Out:=
 (Af .none .gtr a (.i6 1)).bind λo=>
 Ak o (
 (Af .none .sub a (.i6 1)).bind λp=>
 (Ad true 2 l b).bind λq=>
 (Ad true 2 m b).bind λr=>
 bK e (self f p q r n b) λk s=>
 (Aq 0 k).bind λt=>
 (Aq 1 k).bind λu=>
 (Ac 1 c).bind λv=>
 (B8 4 1 v d).bind λw=>
 bK e (Av (Ae 1 w u s)) λ_ x=>
 j2 [t,a,g,h,i,j,c,d] x) (
 j2 [f,a,g,h,i,j,c,d] b)
noncomputable def Sh.f17 (q:Aa)(self:Ab->Ab->Ab->Ab->Ab->Aa->Out)(j2:LK)(ad:LK)(r l d s t g m n h i j f:Ab)(k:Aa):Out:=
 (A7 d).bind λae=>
 (Af .none .lss f ae).bind λaj=>
 Ak aj (
 AI (λj6=>
 (Aw 5 d f).bind λak=>
 (Ac 0 ak).bind λal=>
 bC (Ad true 2 al k) (λ_=>True) λam=>
 bC (Ad true 2 h k) (λ_=>True) λan=>
 AN (Sh.f1 am an k) λap o=>
 (Af .none .geq ap (.i6 0)).bind λa=>
 gkc a true (Ad true 2 h o) (λ_ _=>True) λaq=>
 gkc a true (Ad true 2 g o) (λ_ _=>True) λar=>
 gbN a true o (Sh.f0 aq ar o) λau w=>
 gk a true (some d) λav=>
 gk a true (some f) λaw=>
 gk a true (Aw 5 av aw) λax=>
 gk a true (Ac 0 ax) λab=>
 gkc a true (Ad true 2 ab w) (λb x=>gR b (Ad true 2 ab o)=some x/\True) λx=>
 gbN a true w (Sh.f1 x au w) λay u=>
 gk a true (Af .none .lss ay (.i6 0)) λaz=>
 (A5 a az (.bool false)).bind λe=>
 gk e true (some d) λa0=>
 gk e true (some f) λa1=>
 gk e true (Aw 5 a0 a1) λa2=>
 gk e true (Ac 2 a2) λa3=>
 gkc e true (Ad true 2 a3 u) (λ_ _=>True) λa4=>
 gkc e true (Ad true 2 i u) (λ_ _=>True) λa5=>
 gbN e true u (Sh.f1 a4 a5 u) λa6 p=>
 gk e true (Af .none .geq a6 (.i6 0)) λa7=>
 (A5 e a7 (.bool false)).bind λc=>
 gkc c true (Ad true 2 i p) (λ_ _=>True) λa8=>
 gkc c true (Ad true 2 g p) (λ_ _=>True) λa9=>
 gbN c true p (Sh.f0 a8 a9 p) λba y=>
 gk c true (some d) λbb=>
 gk c true (some f) λbc=>
 gk c true (Aw 5 bb bc) λbd=>
 gk c true (Ac 2 bd) λac=>
 gkc c true (Ad true 2 ac y) (λb z=>gR b (Ad true 2 ac p)=some z/\True) λz=>
 gbN c true y (Sh.f1 z ba y) λbe aa=>
 gk c true (Af .none .lss be (.i6 0)) λbg=>
 (A5 c bg (.bool false)).bind λbj=>
 Ak bj (
 (Aw 5 d f).bind λbk=>
 (Ad true 5 bk aa).bind λbl=>
 (AL 5 [bl]).bind λbm=>
 bK q (BV (AP A8 5 72 j bm aa)) λbp bq=>
 j6 [r,l,d,s,t,g,m,n,h,i,bp,f] bq) (
 j6 [r,l,d,s,t,g,m,n,h,i,j,f] aa)) (λvs H=>Sh.f1o q ad (ag vs 0) (ag vs 1) (ag vs 2) (ag vs 3) (ag vs 4) (ag vs 5) (ag vs 6) (ag vs 7) (ag vs 8) (ag vs 9) (ag vs 10) (ag vs 11) H)) (
 AI (λj7=>
 (Af .none .eql l (.i6 1)).bind λv=>
 gk v true (some j) λbr=>
 gk v true (A7 br) λbt=>
 gk v true (Af .none .gtr bt (.i6 0)) λbu=>
 (A5 v bu (.bool false)).bind λbv=>
 Ak bv (
 (Aw 5 j (.i6 0)).bind λbw=>
 (Ac 4 bw).bind λbz=>
 (Ad false 1 bz k).bind λb0=>
 (AA .i64 b0).bind λb1=>
 (Ac 1 m).bind λb2=>
 (B8 4 1 b2 n).bind λb3=>
 bK q (Av (Ae 1 b3 b1 k)) λ_ b4=>
 j7 [r,l,d,s,t,g,m,n,h,i,j] b4) (
 j7 [r,l,d,s,t,g,m,n,h,i,j] k)) (λvs H=>Sh.f6q q self j2 (ag vs 0) (ag vs 1) (ag vs 2) (ag vs 3) (ag vs 4) (ag vs 5) (ag vs 6) (ag vs 7) (ag vs 8) (ag vs 9) (ag vs 10) H))
noncomputable def Sh.f6r (a:Aa)(self:Ab->Ab->Ab->Ab->Ab->Aa->Out)(j2:LK)(b c d e f g h i j k:Ab)(l:Aa):Out:=
 Am (λm vs H=>Sh.f17 a self j2 m (ag vs 0) (ag vs 1) (ag vs 2) (ag vs 3) (ag vs 4) (ag vs 5) (ag vs 6) (ag vs 7) (ag vs 8) (ag vs 9) (ag vs 10) (ag vs 11) H) AM [b,c,d,e,f,g,h,i,j,k,(.sl [] .ti),(.i6 0)] l
noncomputable def Sh.f29 (b:Aa)(self:Ab->Ab->Ab->Ab->Ab->Aa->Out)(j2:LK)(g h i j c d k e l f:Ab)(a:Aa):Out:=
 AI (λj4=>
 (Af .none .gtr e (.i6 1)).bind λm=>
 Ak m (
 (Ad true 2 c a).bind λn=>
 (Ad true 2 d a).bind λo=>
 bK b (Sh.f0 n o a) λp q=>
 bK b (Av (Ae 2 f p q)) λ_ r=>
 j4 [g,h,i,j,c,d,k,e,l,f] r) (
 j4 [g,h,i,j,c,d,k,e,l,f] a)) (λvs H=>Sh.f6r b self j2 (ag vs 0) (ag vs 1) (ag vs 2) (ag vs 3) (ag vs 4) (ag vs 5) (ag vs 6) (ag vs 7) (ag vs 8) (ag vs 9) H)
noncomputable def Sh.f3o (a:Aa)(self:Ab->Ab->Ab->Ab->Ab->Aa->Out)(q:LK)(h m n c d i j e:Ab)(b:Aa):Out:=
 (Af .none .lss e (.i6 4)).bind λr=>
 Ak r (
 AI (λj2=>
 bC (Ad true 2 c b) (λ_=>True) λs=>
 Al (Ax (some [(.bool false),(.sl [] .ti)]) b) λf t=>
 Al (Ax (some [(.bool false),(.sl [] .ti)]) t) λk u=>
 AN (Av (Ae 2 f s u)) λ_ o=>
 bC (Ad true 2 d o) (λl=>Ad true 2 d b=some l/\True) λl=>
 bK a (Av (Ae 2 k l o)) λ_ g=>
 AI (λj3=>
 (Af .none .rem e (.i6 2)).bind λv=>
 (Af .none .eql v (.i6 1)).bind λw=>
 Ak w (
 (Ad true 2 c g).bind λx=>
 (Ad true 2 i g).bind λy=>
 bK a (Sh.f0 x y g) λz aa=>
 bK a (Av (Ae 2 f z aa)) λ_ ab=>
 j3 [h,m,n,c,d,i,j,e,f,k] ab) (
 j3 [h,m,n,c,d,i,j,e,f,k] g)) (λvs H=>Sh.f29 a self j2 (ag vs 0) (ag vs 1) (ag vs 2) (ag vs 3) (ag vs 4) (ag vs 5) (ag vs 6) (ag vs 7) (ag vs 8) (ag vs 9) H)) (λvs H=>Sh.f3n a q (ag vs 0) (ag vs 1) (ag vs 2) (ag vs 3) (ag vs 4) (ag vs 5) (ag vs 6) (ag vs 7) H)) (
 (Ad true 5 j b).bind λac=>
 (AL 5 [ac]).bind λad=>
 bK a (BV (AP AK 5 40 h ad b)) λp ae=>
 (A7 p).bind λaj=>
 rK a (.tup [p,aj]) ae)
noncomputable def Sh.f89 (self:Ab->Ab->Ab->Ab->Ab->Aa->Out)(c b h i d:Ab)(a:Aa):Out:=
 Al (Bu true 2 h a) λj k=>
 Al (Bu true 2 i k) λl e=>
 (A7 d).bind λm=>
 (Af .none .eql m (.i6 0)).bind λn=>
 Ak n (
 rK a (.tup [c,(.i6 0)]) e) (
 (Af .none .sub b (.i6 1)).bind λo=>
 bK a (Sh.f7 o e) λp q=>
 Al (Ax (some [(.bool false),(.sl [] .ti)]) q) λf r=>
 bK a (Av (Ae 2 f p r)) λ_ s=>
 (Az (some [(.i6 0),(.i6 0),(.i6 0),(.i6 0),(.i6 0)]) [(0,1,b)]).bind λt=>
 Al (Ax (some [(.i6 0),(.i6 0),(.i6 0),(.i6 0),(.i6 0)]) s) λg u=>
 bK a (Av (Ae 5 g t u)) λ_ v=>
 Am (λw vs H=>Sh.f3o a self w (ag vs 0) (ag vs 1) (ag vs 2) (ag vs 3) (ag vs 4) (ag vs 5) (ag vs 6) (ag vs 7) H) AM [c,b,d,j,l,f,g,(.i6 0)] v)
noncomputable def Sh.fo:Nat->Ab->Ab->Ab->Ab->Ab->Aa->Out
 | 0=>λ_ _ _ _ _ _=>none
 | d+1=>Sh.f89 (Sh.fo d)
noncomputable def Sh.f6s (c d:Ab)(a:Aa):Out:=
 bK a (Sh.f1i c a) λe b=>
 (Aw 1 e d).bind λf=>
 (Ad false 1 f b).bind λg=>
 rK a g b
noncomputable def Sh.f6t (b e c:Ab)(a:Aa):Out:=
 (Af .none .sub e (.i6 1)).bind λf=>
 (Aw 5 b f).bind λg=>
 (Ac 1 g).bind λh=>
 (B8 4 1 h c).bind λi=>
 (Ad false 1 i a).bind λd=>
 (Af .none .eql d (.i6 0)).bind λj=>
 Ak j (
 rK a (.i6 0) a) (
 (Af .none .sub d (.i6 1)).bind λk=>
 (Af .none .sub (.i6 3) c).bind λl=>
 (Aw 5 b k).bind λm=>
 (Ac 1 m).bind λn=>
 (B8 4 1 n l).bind λo=>
 (Ad false 1 o a).bind λp=>
 rK a p a)
noncomputable def Sh.f6u (b:Aa)(h:LK)(i:LK)(f c d a:Ab)(e:Aa):Out:=
 (Af .none .lss a (.i6 4)).bind λj=>
 Ak j (
 bP b (Sh.f6t c f a e) λk l=>
 (Ac 1 d).bind λm=>
 (B8 4 1 m a).bind λn=>
 bP b (Av (Ae 1 n k l)) λ_ o=>
 (Af .none .add a (.i6 1)).bind λp=>
 i [f,c,d,p] o) (
 (Ad true 5 d e).bind λq=>
 (AL 5 [q]).bind λr=>
 bP b (BV (AP AK 5 40 c r e)) λg s=>
 (A7 g).bind λt=>
 h [t,g] s)
noncomputable def Sh.f8a (a:Aa)(f:LK)(b c:Ab)(g:Aa):Out:=
 bP a (Sh.f35 c b g) λh d=>
 Ak h (
 (Af .none .sub b (.i6 1)).bind λi=>
 (Aw 5 c i).bind λj=>
 (Ac 0 j).bind λk=>
 (Ad false 1 k d).bind λl=>
 (Af .none .sub l (.i6 1)).bind λm=>
 (Az (some [(.i6 0),(.i6 0),(.i6 0),(.i6 0),(.i6 0)]) [(0,1,m)]).bind λn=>
 Al (Ax (some [(.i6 0),(.i6 0),(.i6 0),(.i6 0),(.i6 0)]) d) λe o=>
 bP a (Av (Ae 5 e n o)) λ_ p=>
 Am (λq vs H=>Sh.f6u a f q (ag vs 0) (ag vs 1) (ag vs 2) (ag vs 3) H) AM [b,c,e,(.i6 0)] p) (
 rPN a (.tup [c,b]) d)
noncomputable def Sh.f6v (e c:Ab)(a:Aa):Out:=
 (AL 5 []).bind λf=>
 bP a (BV (AP AK 5 40 f e a)) λb g=>
 bP a (Sh.f6s b c g) λh d=>
 Ak h (
 rPN a (.tup [b,(.i6 0)]) d) (
 Am (λi vs H=>Sh.f8a a i (ag vs 0) (ag vs 1) H) AM [c,b] d)
noncomputable def Sh.f6w (d:Aa)(f:LK)(c e b:Ab)(a:Aa):Out:=
 (A7 c).bind λg=>
 (Af .none .lss b g).bind λh=>
 Ak h (
 (Aw 5 c b).bind λi=>
 bC (Ad true 5 i a) (λ_=>True) λj=>
 bC (Ad true 5 e a) (λ_=>True) λk=>
 (Af (.flat 5) .eql j k).bind λl=>
 Ak l (
 (Af .none .add b (.i6 1)).bind λm=>
 rP d m a) (
 (Af .none .add b (.i6 1)).bind λn=>
 f [c,e,n] a)) (
 rP d (.i6 0) a)
noncomputable def Sh.f3p (b c:Ab)(a:Aa):Out:=
 Al (Bu true 5 c a) λd e=>
 Am (λf vs H=>Sh.f6w a f (ag vs 0) (ag vs 1) (ag vs 2) H) AM [b,d,(.i6 0)] e
noncomputable def Sh.f8b (a:Aa)(d e b c:Ab)(f:Aa):Out:=
 (Aw 1 b d).bind λg=>
 bK a (Av (Ae 1 g c f)) λ_ h=>
 rK a (.tup [e,b,c]) h
noncomputable def Sh.f6x (b:Aa)(self:Ab->Ab->Ab->Ab->Ab->Aa->Out)(o:LK)(k l g d h a e:Ab)(c:Aa):Out:=
 (Af .none .lss e (.i6 4)).bind λf=>
 gk f true (Ac 0 a) λp=>
 gk f true (Ad false 1 p c) λq=>
 gk f true (Af .none .gtr q (.i6 1)) λr=>
 (A5 f r (.bool false)).bind λs=>
 Ak s (
 (Ac 1 a).bind λt=>
 (B8 4 1 t e).bind λu=>
 (Ad false 1 u c).bind λv=>
 bK b (self k l v d h c) λi w=>
 (Aq 0 i).bind λx=>
 (Aq 1 i).bind λy=>
 (Aq 2 i).bind λz=>
 (Ac 1 a).bind λaa=>
 (B8 4 1 aa e).bind λab=>
 bK b (Av (Ae 1 ab z w)) λ_ ac=>
 (Af .none .add e (.i6 1)).bind λad=>
 o [k,l,g,x,y,a,ad] ac) (
 (Ad true 5 a c).bind λae=>
 bK b (Sh.f3p d ae c) λm j=>
 AI (λj2=>
 (Af .none .eql m (.i6 0)).bind λaj=>
 Ak aj (
 (Ad true 5 a j).bind λak=>
 (AL 5 [ak]).bind λal=>
 bK b (BV (AP AK 5 40 d al j)) λn am=>
 (A7 n).bind λan=>
 j2 [g,n,h,an] am) (
 j2 [g,d,h,m] j)) (λvs H=>Sh.f8b b (ag vs 0) (ag vs 1) (ag vs 2) (ag vs 3) H))
noncomputable def Sh.f3q (self:Ab->Ab->Ab->Ab->Ab->Aa->Out)(e f b d c:Ab)(a:Aa):Out:=
 (Aw 1 f b).bind λh=>
 (Ad false 1 h a).bind λi=>
 Ak i (
 rK a (.tup [d,c,(.i6 0)]) a) (
 (Aw 1 c b).bind λj=>
 (Ad false 1 j a).bind λk=>
 (Af .none .gtr k (.i6 0)).bind λl=>
 Ak l (
 (Aw 1 c b).bind λm=>
 bC (Ad false 1 m a) (λ_=>True) λn=>
 rK a (.tup [d,c,n]) a) (
 (Af .none .sub b (.i6 1)).bind λo=>
 (Aw 5 e o).bind λp=>
 (Ad true 5 p a).bind λq=>
 Al (Ax (some [(.i6 0),(.i6 0),(.i6 0),(.i6 0),(.i6 0)]) a) λg r=>
 bK a (Av (Ae 5 g q r)) λ_ s=>
 Am (λt vs H=>Sh.f6x a self t (ag vs 0) (ag vs 1) (ag vs 2) (ag vs 3) (ag vs 4) (ag vs 5) (ag vs 6) H) AM [e,f,b,d,c,g,(.i6 0)] s))
noncomputable def Sh.fu:Nat->Ab->Ab->Ab->Ab->Ab->Aa->Out
 | 0=>λ_ _ _ _ _ _=>none
 | d+1=>Sh.f3q (Sh.fu d)
noncomputable def Sh.f6y (d e:Ab)(a:Aa):Out:=
 Al (Ax (some [(.sl [] .ti)]) a) λc n=>
 bP a (Sh.f33 d n) λo i=>
 (unA .not o).bind λf=>
 gk f false (some e) λp=>
 gk f false (Af .none .lss p (.i6 0)) λq=>
 (A5 f (.bool true) q).bind λb=>
 gk b false (some e) λr=>
 gk b false (some d) λs=>
 gk b false (A7 s) λt=>
 gk b false (Af .none .gtr r t) λu=>
 (A5 b (.bool true) u).bind λv=>
 Ak v (
 (Az (some [(.sl [] .ti)]) []).bind λw=>
 bP a (Av (Ae 1 c w i)) λ_ j=>
 (Cv [Ad true 1 c j,some (.i6 1)]).bind λx=>rPN a x j) (
 bP a (Sh.f6v d e i) λk y=>
 (Aq 0 k).bind λg=>
 (Aq 1 k).bind λz=>
 AN (Sh.f1i g y) λaa ab=>
 (A7 g).bind λac=>
 (Af .none .add ac (.i6 1)).bind λl=>
 Al (F5 1 8 (some [(.i6 0)]) l l ab) λad ae=>
 AN (Sh.fu AM g aa z (.sl [] .ti) ad ae) λh aj=>
 (Aq 0 h).bind λak=>
 (Aq 1 h).bind λan=>
 (Aq 2 h).bind λap=>
 (Az (some [(.sl [] .ti)]) [(0,1,ak)]).bind λal=>
 bP a (Av (Ae 1 c al aj)) λ_ m=>
 (Cv [Ad true 1 c m,some (.i6 0)]).bind λam=>rPN a am m)
noncomputable def Sh.f6z (h:Aa)(i:LK)(j:LK)(f c b d:Ab)(e:Aa):Out:=
 (Af .none .leq b (.i6 1329)).bind λa=>
 gk a true (some c) λk=>
 gk a true (some d) λl=>
 gk a true (Aw 5 k l) λm=>
 gk a true (Ad true 5 m e) λn=>
 gk a true (some b) λo=>
 gbP h a true e (Sh.f6p n o e) λp g=>
 gk a true (unA .not p) λq=>
 (A5 a q (.bool false)).bind λr=>
 Ak r (
 (Af .none .add b (.i6 1)).bind λs=>
 j [f,c,s,d] g) (
 (Af .none .add d (.i6 1)).bind λt=>
 i [f,c,b,t] g)
noncomputable def Sh.f70 (a:Aa)(m:LK)(b d c h:Ab)(e:Aa):Out:=
 (A7 d).bind λn=>
 (Af .none .lss h n).bind λo=>
 Ak o (
 Am (λp vs H=>Sh.f6z a m p (ag vs 0) (ag vs 1) (ag vs 2) (ag vs 3) H) AM [b,d,c,h] e) (
 (Af .none .gtr c (.i6 1329)).bind λq=>
 Ak q (
 (Az (some [(.sl [] .ti)]) []).bind λr=>
 bP a (Av (Ae 1 b r e)) λ_ i=>
 (Cv [Ad true 1 b i,some (.i6 4)]).bind λs=>rPN a s i) (
 (Af .none .sub c (.i6 1)).bind λt=>
 bP a (Sh.f7 t e) λu v=>
 bP a (Sh.fh u v) λw x=>
 Al (Ax (some [(.bool false),(.sl [] .ti)]) x) λf y=>
 bP a (Av (Ae 2 f w y)) λ_ g=>
 (Ad true 2 f g).bind λz=>
 (Ad true 2 f g).bind λaa=>
 bP a (Sh.fo AM (.sl [] .ti) c z aa d g) λj ab=>
 (Aq 0 j).bind λac=>
 (Aq 1 j).bind λad=>
 bP a (Sh.f6y ac ad ab) λk ae=>
 (Aq 0 k).bind λaj=>
 (Aq 1 k).bind λak=>
 bP a (Av (Ae 1 b aj ae)) λ_ l=>
 (Cv [Ad true 1 b l,some ak]).bind λal=>rPN a al l))
noncomputable def Sh.f71 (b:Aa)(j:LK)(c d e:Ab)(f:Aa):Out:=
 (A7 c).bind λk=>
 (Af .none .lss e k).bind λl=>
 Ak l (
 (Aw 5 c e).bind λm=>
 (Ac 0 m).bind λn=>
 (Ad true 2 n f).bind λo=>
 bP b (Sh.f3l o f) λp g=>
 (unA .not p).bind λa=>
 gk a false (some c) λq=>
 gk a false (some e) λr=>
 gk a false (Aw 5 q r) λs=>
 gk a false (Ac 2 s) λt=>
 gk a false (Ad true 2 t g) λu=>
 gbP b a false g (Sh.f3l u g) λv h=>
 gk a false (unA .not v) λw=>
 (A5 a (.bool true) w).bind λx=>
 Ak x (
 (Az (some [(.sl [] .ti)]) []).bind λy=>
 bP b (Av (Ae 1 d y h)) λ_ i=>
 (Cv [Ad true 1 d i,some (.i6 1)]).bind λz=>rPN b z i) (
 (Af .none .add e (.i6 1)).bind λaa=>
 j [c,d,aa] h)) (
 bP b (Sh.f6o c f) λab ac=>
 Am (λad vs H=>Sh.f70 b ad (ag vs 0) (ag vs 1) (ag vs 2) (ag vs 3) H) AM [d,ab,(.i6 1),(.i6 0)] ac)
noncomputable def Sh.f3r (b:Ab)(a:Aa):Out:=
 Al (Ax (some [(.sl [] .ti)]) a) λc d=>
 Am (λe vs H=>Sh.f71 a e (ag vs 0) (ag vs 1) (ag vs 2) H) AM [b,c,(.i6 0)] d
noncomputable def Sh.f3s (r:Aa)(z:LK)(aa:LK)(s t k a u l m:Ab)(b:Aa):Out:=
 (A7 l).bind λab=>
 (Af .none .lss m ab).bind λac=>
 Ak ac (
 (Aw 1 l m).bind λad=>
 bC (Ad false 1 ad b) (λ_=>True) λae=>
 AN (Sh.fk ae b) λaj d=>
 (Ac 2 a).bind λv=>
 bC (Ad true 2 v d) (λn=>Ad true 2 v b=some n/\True) λn=>
 AN (Sh.f0 n aj d) λak g=>
 (Ac 6 a).bind λo=>
 bC (Ad false 1 o g) (λh=>Ad false 1 o d=some h/\Ad false 1 o b=some h/\True) λh=>
 AN (Sh.fk h g) λal p=>
 (Ac 4 a).bind λi=>
 bC (Ad true 2 i p) (λe=>Ad true 2 i g=some e/\Ad true 2 i d=some e/\Ad true 2 i b=some e/\True) λe=>
 AN (Sh.f0 e al p) λam w=>
 (Ac 7 a).bind λf=>
 bC (Ad false 1 f w) (λc=>Ad false 1 f p=some c/\Ad false 1 f g=some c/\Ad false 1 f d=some c/\Ad false 1 f b=some c/\True) λc=>
 (Az (some [(.bool false),(.sl [] .ti),(.bool false),(.sl [] .ti),(.int .u8 0)]) [(0,2,ak),(2,2,am),(4,1,(.int .u8 1))]).bind λan=>
 (AL 5 [an]).bind λap=>
 AN (BV (AP A8 5 72 c ap w)) λaq ar=>
 (Ac 7 a).bind λau=>
 bP r (Av (Ae 1 au aq ar)) λ_ av=>
 (Af .none .add m (.i6 1)).bind λaw=>
 aa [s,t,k,a,u,l,aw] av) (
 bC (Ad true 3 u b) (λ_=>True) λax=>
 AN (Sh.ft ax b) λay x=>
 AN (Av (Ae 3 k ay x)) λ_ y=>
 (Ac 6 a).bind λq=>
 bC (Ad false 1 q y) (λj=>Ad false 1 q x=some j/\Ad false 1 q b=some j/\True) λj=>
 (Af .none .add j (.i6 1)).bind λaz=>
 (Ac 6 a).bind λa0=>
 bP r (Av (Ae 1 a0 az y)) λ_ a1=>
 z [s,t,k,a] a1)
noncomputable def Sh.fv (a:Aa)(k:LK)(g f b d:Ab)(i:Aa):Out:=
 (Ac 2 b).bind λv=>
 (Ad false 1 v i).bind λw=>
 (Af .none .eql w (.i6 0)).bind λj=>
 gk j true (Ad true 3 b i) λx=>
 gbP a j true i (Sh.fa x i) λy e=>
 gk j true (unA .not y) λz=>
 (A5 j z (.bool false)).bind λaa=>
 Ak aa (
 (Ad true 3 b e).bind λab=>
 bP a (Sh.fn ab (.int .u8 35) e) λac c=>
 Ak ac (
 (Ad true 3 b c).bind λad=>
 (Ad true 8 d c).bind λae=>
 bP a (Sh.f16 ad ae c) λn aj=>
 (Aq 0 n).bind λak=>
 (Aq 1 n).bind λal=>
 bP a (Av (Ae 3 b ak aj)) λ_ am=>
 bP a (Av (Ae 8 d al am)) λ_ o=>
 (Ad true 3 b o).bind λan=>
 bP a (Sh.ft an o) λap aq=>
 bP a (Av (Ae 3 b ap aq)) λ_ ar=>
 k [g,f,b,d] ar) (
 (Ac 1 d).bind λau=>
 (Ad false 1 au c).bind λav=>
 (unA .not av).bind λaw=>
 Ak aw (
 (Ad true 3 b c).bind λax=>
 bP a (Sh.fb ax c) λay az=>
 bP a (Av (Ae 3 b ay az)) λ_ a0=>
 k [g,f,b,d] a0) (
 (Ad true 3 b c).bind λa1=>
 (Ac 6 d).bind λa2=>
 (Ad false 1 a2 c).bind λa3=>
 (Ad true 2 g c).bind λa4=>
 bP a (Sh.f6i a1 (.int .u8 42) a3 a4 c) λp a5=>
 (Aq 0 p).bind λa6=>
 (Aq 1 p).bind λa7=>
 Al (Ax (some [(.str []),(.i6 0),(.i6 0)]) a5) λq a8=>
 bP a (Av (Ae 3 q a6 a8)) λ_ a9=>
 Am (λba vs H=>Sh.f3s a k ba (ag vs 0) (ag vs 1) (ag vs 2) (ag vs 3) (ag vs 4) (ag vs 5) (ag vs 6) H) AM [g,f,b,d,q,a7,(.i6 0)] a9))) (
 (Ac 2 b).bind λbb=>
 (Ad false 1 bb e).bind λbc=>
 (Af .none .neq bc (.i6 0)).bind λbd=>
 Ak bd (
 (Ad true 3 b e).bind λbe=>
 (Az (some [(.str []),(.sl [] .ti)]) []).bind λbg=>
 (Ad true 2 g e).bind λbj=>
 bP a (Sh.f1n be bg (.i6 0) bj e) λl bk=>
 (Aq 0 l).bind λbl=>
 (Aq 1 l).bind λbm=>
 (Aq 2 l).bind λbp=>
 bP a (Av (Ae 2 f bl bk)) λ_ r=>
 (Cv [Ad true 2 f r,some bm,some bp]).bind λbq=>rPN a bq r) (
 (Ac 7 d).bind λbr=>
 (Ad false 1 br e).bind λbt=>
 bP a (Sh.f3r bt e) λs bu=>
 (Aq 0 s).bind λbv=>
 (Aq 1 s).bind λbw=>
 Al (Ax (some [(.sl [] .ti)]) bu) λt bz=>
 bP a (Av (Ae 1 t bv bz)) λ_ h=>
 (Ad true 3 b h).bind λb0=>
 (Ac 0 d).bind λb1=>
 (Ad false 1 b1 h).bind λb2=>
 (Ad true 1 t h).bind λb3=>
 (Az (some [(.str []),(.sl [] .ti)]) [(0,1,b2),(1,1,b3)]).bind λb4=>
 (Ad true 2 g h).bind λb5=>
 bP a (Sh.f1n b0 b4 bw b5 h) λm b6=>
 (Aq 0 m).bind λb7=>
 (Aq 1 m).bind λb8=>
 (Aq 2 m).bind λb9=>
 bP a (Av (Ae 2 f b7 b6)) λ_ u=>
 (Cv [Ad true 2 f u,some b8,some b9]).bind λca=>rPN a ca u))
noncomputable def Sh.f18 (i j:Ab)(a:Aa):Out:=
 Al (Bu true 2 j a) λc k=>
 Al (Ax (some [(.str []),(.sl [] .ti)]) k) λb d=>
 (Ad true 2 c d).bind λl=>
 bP a (Sh.f26 l d) λm e=>
 (unA .not m).bind λn=>
 Ak n (
 (Az (some [(.str []),(.sl [] .ti)]) []).bind λo=>
 bP a (Av (Ae 2 b o e)) λ_ f=>
 (Cv [Ad true 2 b f,some (.i6 0),some (.i6 1)]).bind λp=>rPN a p f) (
 (Az (some [(.str []),(.i6 0),(.i6 0)]) [(0,1,i)]).bind λq=>
 bP a (Sh.fm q (.str [35,76,105,102,101,32,49,46,48,53]) e) λr s=>
 bP a (Sh.ft r s) λt u=>
 Al (Ax (some [(.str []),(.i6 0),(.i6 0)]) u) λg v=>
 bP a (Av (Ae 3 g t v)) λ_ w=>
 (Az (some [(.str []),(.bool false),(.bool false),(.sl [] .ti),(.bool false),(.sl [] .ti),(.i6 0),(.sl [] .ti)]) [(0,1,(.str [66,51,47,83,50,51]))]).bind λx=>
 Al (Ax (some [(.str []),(.bool false),(.bool false),(.sl [] .ti),(.bool false),(.sl [] .ti),(.i6 0),(.sl [] .ti)]) w) λh y=>
 bP a (Av (Ae 8 h x y)) λ_ z=>
 Am (λaa vs H=>Sh.fv a aa (ag vs 0) (ag vs 1) (ag vs 2) (ag vs 3) H) AM [c,b,g,h] z)
noncomputable def Sh.f8c (d:Aa)(f:LK)(c e b:Ab)(a:Aa):Out:=
 (A7 c).bind λg=>
 (Af .none .lss b g).bind λh=>
 Ak h (
 (Aw 5 c b).bind λi=>
 bC (Ad true 5 i a) (λ_=>True) λj=>
 (Aw 5 e b).bind λk=>
 bC (Ad true 5 k a) (λ_=>True) λl=>
 (Af (.flat 5) .neq j l).bind λm=>
 Ak m (
 rK d (.bool false) a) (
 (Af .none .add b (.i6 1)).bind λn=>
 f [c,e,n] a)) (
 rK d (.bool true) a)
noncomputable def Sh.f72 (b c:Ab)(a:Aa):Out:=
 (A7 b).bind λd=>
 (A7 c).bind λe=>
 (Af .none .neq d e).bind λf=>
 Ak f (
 rK a (.bool false) a) (
 Am (λg vs H=>Sh.f8c a g (ag vs 0) (ag vs 1) (ag vs 2) H) AM [b,c,(.i6 0)] a)
noncomputable def Sh.f73 (c d:Ab)(a:Aa):Out:=
 Al (Bu true 1 c a) λe f=>
 Al (Bu true 1 d f) λg b=>
 (Ac 0 e).bind λh=>
 (Ad false 1 h b).bind λi=>
 (Ac 0 g).bind λj=>
 (Ad false 1 j b).bind λk=>
 bP a (Sh.f72 i k b) λl m=>
 rP a l m
noncomputable def Sh.f19 (f g:Ab)(c:Aa):Out:=
 Al (Bu true 2 f c) λd h=>
 Al (Bu true 2 g h) λe a=>
 (Ac 0 d).bind λi=>
 (Ad false 1 i a).bind λj=>
 (Ac 0 e).bind λk=>
 (Ad false 1 k a).bind λl=>
 (Af .none .eql j l).bind λb=>
 gk b true (Ac 1 d) λm=>
 gk b true (Ad true 1 m a) λn=>
 gk b true (Ac 1 e) λo=>
 gk b true (Ad true 1 o a) λp=>
 gbP c b true a (Sh.f73 n p a) λq r=>
 (A5 b q (.bool false)).bind λs=>
 rP c s r
noncomputable def Sl.gliderlaw16_alive:Aa->Out:=Classical.choose (⟨Sh.f14,rfl⟩:∃f:Aa->Out,f=Sh.f14)
theorem Sl.gliderlaw16_alive_eq:Sl.gliderlaw16_alive=Sh.f14:=Classical.choose_spec (⟨Sh.f14,rfl⟩:∃f:Aa->Out,f=Sh.f14)
noncomputable def Sl.gliderref16_Read:Ab->Ab->Aa->Out:=Classical.choose (⟨Sh.f18,rfl⟩:∃f:Ab->Ab->Aa->Out,f=Sh.f18)
theorem Sl.gliderref16_Read_eq:Sl.gliderref16_Read=Sh.f18:=Classical.choose_spec (⟨Sh.f18,rfl⟩:∃f:Ab->Ab->Aa->Out,f=Sh.f18)
noncomputable def Sl.gliderref11_Same:Ab->Ab->Aa->Out:=Classical.choose (⟨Sh.f19,rfl⟩:∃f:Ab->Ab->Aa->Out,f=Sh.f19)
theorem Sl.gliderref11_Same_eq:Sl.gliderref11_Same=Sh.f19:=Classical.choose_spec (⟨Sh.f19,rfl⟩:∃f:Ab->Ab->Aa->Out,f=Sh.f19)
noncomputable def Sh.f8d (e m:Ab)(a:Aa):Out:=
 Al (Bu true 2 m a) λi n=>
 bP a (Sl.gliderlaw16_alive n) λo b=>
 (unA .not o).bind λp=>
 Ak p (
 rP a (.bool false) b) (
 (BM e).bind λq=>
 (Af .none .gtr q (.i6 500)).bind λr=>
 Ak r (
 rP a (.bool true) b) (
 (Ad true 2 i b).bind λs=>
 bP a (Sl.life5_Read e s b) λf t=>
 (Aq 0 f).bind λu=>
 (Aq 1 f).bind λv=>
 (Aq 2 f).bind λw=>
 Al (Ax (some [(.str []),(.sl [] .ti)]) t) λj x=>
 bP a (Av (Ae 2 j u x)) λ_ k=>
 (Ad true 2 i k).bind λy=>
 bP a (Sl.gliderref16_Read e y k) λg z=>
 (Aq 0 g).bind λaa=>
 (Aq 1 g).bind λab=>
 (Aq 2 g).bind λac=>
 Al (Ax (some [(.str []),(.sl [] .ti)]) z) λl ad=>
 bP a (Av (Ae 2 l aa ad)) λ_ h=>
 (Ad true 2 j h).bind λae=>
 (Ad true 2 l h).bind λaj=>
 bP a (Sl.gliderref11_Same ae aj h) λc ak=>
 gk c true (some v) λal=>
 gk c true (some ab) λam=>
 gk c true (Af .none .eql al am) λan=>
 (A5 c an (.bool false)).bind λd=>
 gk d true (some w) λap=>
 gk d true (some ac) λaq=>
 gk d true (Af .none .eql ap aq) λar=>
 (A5 d ar (.bool false)).bind λau=>
 rP a au ak))
open Go.Proofs
set_option maxRecDepth 100000
theorem mixed:Tryz.prog.follows .mixedOrders=true:=by kernel_rfl
theorem OF:AG Tryz.prog Gs 235 (ap1 Sh.f74):=mk1 .keep (Ar _ _) [] Tryz.func235
theorem Lf:AG Tryz.prog Gs 140 (ap1 Sh.fc):=mk1 .keep (Ar _ _) [] Tryz.func140
theorem DN:AG Tryz.prog Gs 201 (ap1 Sh.f2):=mk1 .keepN ((Ag Lf (Ar _ _))) [[0]] Tryz.func201
open Go.ChangeShapes Go.WideShapes Go.ChangeAt Go.RowKit
def Env0 (W:World):Env:=⟨λ_ _=>none,λ_ _=>none,λb o=>W.cell? ⟨b,o,none⟩⟩
theorem sim0 (W:World)(hf:∀b cs,FixT b=some cs->0<cs.size/\∃t fr,W.heap[b]? = some (.cells cs t fr)):Sim (Env0 W) [] W:=
 ⟨λid B h=>(by simp at h),λid g b h=>(by cases h),λid g b h=>(by cases h),λid B n h=>(by simp at h),λid id' b h=>(by simp[loc]at h),λb o v h=>h,λb cs h=>by
  obtain⟨h0,t,fr,h1⟩:=hf b cs h;exact⟨⟨t,fr,h1⟩,⟨cs[0],by rw[show (Env0 W).I b 0=W.cell? ⟨b,0,none⟩ from rfl,Bg h1];simp[h0]⟩,λid=>by simp[loc]⟩⟩
theorem Rm {E0:Env}{w0:World}{E:Env}{H:Aa}{w:World}(h:BX E0 [] w0 E H w):Below w0.heap.size w0 w:=
 ⟨h.os,h.tape,h.output,h.size,λk hk=>h.frame k hk (λ⟨i,hi⟩=>by simp[loc]at hi)⟩
theorem calls_law {P:Program}{G:Ix}{g:FuncId}{F:List Ab->Aa->Out}(hF:AG P G g F){fn:Func}(hf:P.funcs[g]? = some fn)(hb:fn.body.isNone=false)(hn:(fn.name == "runtime.NumGoroutine")=false)
  {W:World}(zW:∀b cs,FixT b=some cs->0<cs.size/\∃t fr,W.heap[b]? = some (.cells cs t fr))(hG:DP G (Env0 W)){args:List Ab}{vs:Array Value}(hv:A9 (Env0 W) args vs.toList)(h:F args []=some (.ret (.bool true),[])) :
  Calls P g vs W λe W'=>e=.returned (.bool true)/\Below W.heap.size W W':=by
 rcases hF args [] _ _ h (Env0 W) W vs hG (sim0 W zW) hv with ⟨_,h1⟩ | ⟨v,w',h1,_⟩
 ·refine h1.mono λe W' ⟨E',h2,_,h3⟩=>⟨?_,Rm h3⟩;cases e with
  | returned v=>rw[A2.bool_inv h2]
  | panicked c=>exact h2.elim
  | outgrown=>exact h2.elim
 ·rw[F2 hf hb hn]at h1;cases h1
section
variable {H:Type}{enc:TypeId×Value->H}{P:Program}
theorem Nk (hl:laidOutB P=true){W W':World}(hb:Below W.heap.size W W'){sp:Nat->Bool}:∀ {ts:List TypeId} {vs:List Value} {ds:List (DataW H)} {ps:List MemPlace},
  (ts.all λt=>P.readableRec t&&decide (t<P.types.size))=true->DataW.TrodAll enc P W 0 (λ_=>true) true ts vs ds ps->(∀x∈ps,x.block<W.heap.size)->(∀x∈ps,sp x.block=true)->DataW.TrodAll enc P W' 0 sp true ts vs ds ps
 | [],_,_,_,_,h,_,_=>by
  obtain⟨rfl,rfl,rfl⟩:=trodAll_nil h;exact trodAll_mk0
 | t::ts,_,_,_,ht,h,hlt,hsp=>by
  obtain⟨v,vs1,d,ds1,a,b,rfl,rfl,rfl,h1,h2⟩:=trodAll_cons h;simp only[List.all_cons,UU,zXe]at ht;exact trodAll_cons_mk (WideElems.Trod_stays hl ht.1.1 ht.1.2 h1 (λx hx=>hb.same (hlt x (by simp[hx]))) (λx hx=>hsp x (by simp[hx])))
   (Nk hl hb (by simpa using ht.2) h2 (λx hx=>hlt x (by simp[hx])) (λx hx=>hsp x (by simp[hx])))
theorem post_law {f:Func}{s:ChangeSpec}{W W':World}{args:Array Value}{ds gs:List (DataW H)}{before:List MemPlace}(hW:DataW.Whole enc P f.params.toList s.vars false W args.toList ds gs before)
  (hl:laidOutB P=true)(hr:(f.params.toList.all λt=>P.readableRec t&&decide (t<P.types.size))=true)(hB:Below W.heap.size W W')(mL:s.vars=[]){tb:TypeId}(tC:f.resultTypes = #[tb])(nD:P.underlying tb=some .bool)
  (hres:(s.fn H (ds++gs)).results=[.lit (.bool true)])(eD:(s.fn H (ds++gs)).args=ds)(oX:(s.fn H (ds++gs)).vars=[]):s.post enc P f false true false false W args (.bool true) W':=by
 have hold:∀p∈before,(λb=>decide (b<W.heap.size)) p.block=true:=λp hp=>by simpa using hW.lt p hp
 have hlt:=hW.lt;have hW':=hW;obtain⟨p,q,hA,hV,zJ,hz,hn⟩:=hW;rw[mL]at hV;obtain⟨rfl,rfl⟩:=trodVars_none hV;have uR:before=p:=by rw[zJ];simp
 subst uR;have ha:∀sp:Nat->Bool,(∀x∈before,sp x.block=true)->DataW.TrodAll enc P W' 0 sp true f.params.toList args.toList (s.fn H (ds++[])).args before:=λsp hsp=>by
  rw[eD];exact Nk hl hB hr hA hlt hsp
 have eP:∀(b:Nat) (sp:Nat->Bool) (hd:Bool),DataW.TrodAll enc P W' b sp hd f.resultTypes.toList ((Value.bool true).resultList f.resultTypes.size) (s.fn H (ds++[])).results []:=λb sp hd=>by
  rw[hres,tC];exact trodAll_cons_mk (shut_bool nD _) trodAll_mk0
 have aP:∀sp:Nat->Bool,DataW.TrodVars enc P W' sp s.vars (s.fn H (ds++[])).vars []:=λsp=>by rw[mL,oX];rfl
 refine⟨ds,[],before,[],before,[],hW',eP _ _ _,ha _ hold,aP _,World.keptBut_mono (λp hp=>hp) (hB.frame _),λ_=>?_⟩;refine⟨ok_one tC rfl (okWide_bool_mk nD _),_,_,([]++before)++[],⟨[]++before,[],trodAll_append (ha _ (λ_ _=>rfl)) (eP _ _ _),aP _,rfl,?_,?_⟩,?_⟩
 ·intro b off hp;have hp':MemPlace.cell b off∈before:=by simpa using hp
  rw[hB.frozen (hlt _ hp')];exact hz b off hp'
 ·intro h;cases h
 ·intro p hp _;simpa using hp

end
end Go.Gm
