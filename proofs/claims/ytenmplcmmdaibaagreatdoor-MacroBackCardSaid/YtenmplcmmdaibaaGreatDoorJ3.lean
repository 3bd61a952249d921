/- Texts of this proof, joined. -/
import Derived.Test.YtenmplcmmdaibaaGreatDoorJ1
import Derived.Test.YtenmplcmmdaibaaGreatDoorJ2
import Derived.Test.YtenmplcmmdaibaaGreatDoorChecked
import Derived.KernelRfl
import Derived.ProofKit
import Derived.OpenShut
import Derived.JoinedCond
import Derived.Carry
import Derived.Shelf.Small.Strs
import Derived.Shelf.Small.Wraps
import Derived.Shelf.Strconv.Itoa0
import Derived.Shelf.Strconv.Itoa1
import Derived.Shelf.LaysM
import Derived.Shelf.Strconv.Itoa2
import Derived.Shelf.Strconv.Itoa3
import Derived.Shelf.Strings.Search1
import Derived.Shelf.GgClosure.StringsIndexFunc
import Derived.Ground.GgwProg
import Derived.Shelf.GgClosure.StringsIndexFuncTop
import Derived.Shelf.Strings.Prefix
import Derived.Shelf.Strings.FuncGrows
import Derived.Test.YtenmplcmmdaibaaGreatDoorProg
import Derived.WalkKit
import Derived.Tactics
import Derived.Tactics2
import Derived.Defers
import Derived.Recover
import Derived.Laws.Pointers
import Derived.Test.YtenmplcmmdaibaaGreatDoorCards
import Derived.Test.YtenmplcmmdaibaaGreatDoorTie
import Derived.Deep.DeepHandedRow
import Derived.Lib.LaidTab
set_option linter.unusedVariables false
set_option linter.unusedSimpArgs false
namespace Go.Gm
noncomputable def Sh.f2u (c_1 : Aa) (H0 : Ab) : Out :=
 (Af .none .lss c_1 (.int .i32 48)).bind fun x2 =>
 gk x2 false (some c_1) fun x3 =>
 gk x2 false (Af .none .gtr x3 (.int .i32 57)) fun x4 =>
 (A7 x2 (.bool true) x4).bind fun x5 =>
 rK H0 x5 H0
noncomputable def Sh.f17 (a_1 : Aa) (H0 : Ab) : Out :=
 (AG a_1).bind fun x2 =>
 (Af .none .eql x2 (.int .i64 0)).bind fun x3 =>
 gk x3 false (some a_1) fun x4 =>
 gk x3 false (some a_1) fun x5 =>
 gk x3 false (AG x5) fun x6 =>
 gk x3 false (Af .none .sub x6 (.int .i64 1)) fun x7 =>
 gk x3 false (A5 1 x4 x7) fun x8 =>
 gk x3 false (Ad false 1 x8 H0) fun x9 =>
 gk x3 false (Af .none .neq x9 (.int .u32 0)) fun x10 =>
 (A7 x3 (.bool true) x10).bind fun x11 =>
 rK H0 x11 H0
noncomputable def Sh.f4s (H0 : Ab) (rec1 : LK) (a_2 : Aa) (H3 : Ab) : Out :=
 bK H0 (Sh.f17 a_2 H3) fun x4 H5 =>
 (unA .not x4).bind fun x6 =>
 Am x6 (
 (AG a_2).bind fun x7 =>
 (Af .none .sub x7 (.int .i64 1)).bind fun x8 =>
 (F0 1 a_2 none (some x8) none).bind fun x9 =>
 rec1 [x9] H5) (
 rKN H0 a_2 H5)
noncomputable def Sh.f18 (a_1 : Aa) (H0 : Ab) : Out :=
 Ap (fun rec1 vs H => Sh.f4s H0 rec1 (ag vs 0) H) AM [a_1] H0
noncomputable def Sh.ff (H0 : Ab) : Out :=
 A2 (AF (some [(.int .i64 0), (.int .i64 0)]) H0) fun x1 H2 =>
 (A6 (some [(.int .i64 0), (.int .i64 0)]) [(0, 1, (.int .i64 1000)), (1, 1, (.int .i64 100000))]).bind fun x3 =>
 bP H0 (AN (Al 2 x1 x3 H2)) fun _ H5 =>
 (Ad true 2 x1 H5).bind fun x6 => rP H0 x6 H5
noncomputable def Sh.f19 (n_1 most_2 : Aa) (H0 : Ab) : Out :=
 (Af .none .geq n_1 (.int .i64 0)).bind fun x3 =>
 gk x3 true (some n_1) fun x4 =>
 gk x3 true (some most_2) fun x5 =>
 gk x3 true (Af .none .leq x4 x5) fun x6 =>
 (A7 x3 x6 (.bool false)).bind fun x7 =>
 rK H0 x7 H0
noncomputable def Sh.f1a (m_1 : Aa) (H0 : Ab) : Out :=
 A2 (Ek true 2 m_1 H0) fun m_2 H3 =>
 (Ac 0 m_2).bind fun x4 =>
 (Ad false 1 x4 H3).bind fun x5 =>
 bP H0 (Sh.f19 x5 (.int .i64 1000) H3) fun x6 H7 =>
 gk x6 true (Ac 1 m_2) fun x8 =>
 gk x6 true (Ad false 1 x8 H7) fun x9 =>
 gbP H0 x6 true H7 (Sh.f19 x9 (.int .i64 100000) H7) fun x10 H11 =>
 (A7 x6 x10 (.bool false)).bind fun x12 =>
 rP H0 x12 H11
noncomputable def Sh.f3y (H0 : Ab) (rec1 : LK) (a_6 b_7 n_8 x9 x10 : Aa) (H11 : Ab) : Out :=
 (Af .none .lss x10 x9).bind fun x12 =>
 Am x12 (
 (Dl a_6 x10).bind fun x13 =>
 (Dl b_7 x10).bind fun x14 =>
 (Af .none .neq x13 x14).bind fun x15 =>
 Am x15 (
 rK H0 x10 H11) (
 (Af .none .add x10 (.int .i64 1)).bind fun x16 =>
 rec1 [a_6, b_7, n_8, x9, x16] H11)) (
 rK H0 n_8 H11)
noncomputable def Sh.f1b (a_1 b_2 : Aa) (H0 : Ab) : Out :=
 (B6 a_1).bind fun x3 =>
 (B6 b_2).bind fun x4 =>
 (Gw Mt x3 [x4]).bind fun x5 =>
 Ap (fun rec1 vs H => Sh.f3y H0 rec1 (ag vs 0) (ag vs 1) (ag vs 2) (ag vs 3) (ag vs 4) H) AM [a_1, b_2, x5, x5, (.int .i64 0)] H0
noncomputable def Sh.f2 (x1 : Aa) (H0 : Ab) : Out :=
 (Ae x1).bind fun x2 =>
 (Ac 1 x2).bind fun x3 =>
 bC (Ad false 1 x3 H0) (fun _ => True) fun x4 =>
 (Ae x1).bind fun x5 =>
 (Ac 0 x5).bind fun x6 =>
 bC (Ad false 1 x6 H0) (fun _ => True) fun x7 =>
 (B6 x7).bind fun x8 =>
 (Af .none .eql x4 x8).bind fun x9 =>
 rK H0 x9 H0
noncomputable def Sh.f50 (H0 : Ab) (H3 : Ab) : Out :=
 (A6 (some [(.int .i64 0), (.str [])]) [(0, 1, (.int .i64 2)), (1, 1, (.str []))]).bind fun x4 =>
 (Qb EX x4).bind fun x5 =>
 bK H0 (panA x5 H3) fun _ H7 =>
 rK H0 (.tup []) H7
noncomputable def Sh.f1 (x1 hint_2 : Aa) (H0 : Ab) : Out :=
 AS (fun j1 =>
 bK H0 (Sh.f2 x1 H0) fun x8 H9 =>
 Am x8 (
 (A6 (some [(.int .i64 0), (.str [])]) [(0, 1, (.int .i64 3)), (1, 1, hint_2)]).bind fun x10 =>
 (Qb EX x10).bind fun x11 =>
 bK H0 (panA x11 H9) fun _ H13 =>
 j1 [] H13) (
 j1 [] H9)) (fun vs H => Sh.f50 H0 H)
noncomputable def Sh.f3 (x1 s_2 rest_3 : Aa) (H0 : Ab) : Out :=
 (Ae x1).bind fun x4 =>
 (Ac 0 x4).bind fun x5 =>
 bC (Ad false 1 x5 H0) (fun _ => True) fun x6 =>
 (Ae x1).bind fun x7 =>
 (Ac 1 x7).bind fun x8 =>
 bC (Ad false 1 x8 H0) (fun _ => True) fun x9 =>
 (Br x6 (some x9) none).bind fun x10 =>
 Cg (Sh.f1b x10 s_2 H0) fun x11 H12 =>
 (Ae x1).bind fun x13 =>
 (Ac 1 x13).bind fun x14 =>
 (Ad false 1 x14 H12).bind fun x15 =>
 (Af .none .add x15 x11).bind fun x16 =>
 (Ae x1).bind fun x17 =>
 (Ac 1 x17).bind fun x18 =>
 bK H0 (AN (Al 1 x18 x16 H12)) fun _ H20 =>
 (B6 s_2).bind fun x21 =>
 (Af .none .lss x11 x21).bind fun x22 =>
 Am x22 (
 (Br s_2 (some x11) none).bind fun x23 =>
 (Af .none .add x23 rest_3).bind fun x24 =>
 bK H0 (Sh.f1 x1 x24 H20) fun x25 H26 =>
 rK H0 (.tup []) H26) (
 rK H0 (.tup []) H20)
noncomputable def Sh.f0 (x1 some_2 : Aa) (H0 : Ab) : Out :=
 Cg (Sh.f2 x1 H0) fun x3 H4 =>
 (unA .not x3).bind fun x5 =>
 gk x5 true (some some_2) fun x6 =>
 gk x5 true (some x1) fun x7 =>
 gk x5 true (Ae x7) fun x8 =>
 gk x5 true (Ac 0 x8) fun x9 =>
 gkc x5 true (Ad false 1 x9 H4) (fun _ _ => True) fun x10 =>
 gk x5 true (some x1) fun x11 =>
 gk x5 true (Ae x11) fun x12 =>
 gk x5 true (Ac 1 x12) fun x13 =>
 gkc x5 true (Ad false 1 x13 H4) (fun _ _ => True) fun x14 =>
 gk x5 true (Dl x10 x14) fun x15 =>
 gbN x5 true H4 (Sh.f16 x6 x15 H4) fun x16 H17 =>
 gk x5 true (Af .none .geq x16 (.int .i64 0)) fun x18 =>
 (A7 x5 x18 (.bool false)).bind fun x19 =>
 rK H0 x19 H17
noncomputable def Sh.f3z (H0 : Ab) (rec1 : LK) (x2 : Aa) (H3 : Ab) : Out :=
 bK H0 (Sh.f2 x2 H3) fun x4 H5 =>
 (unA .not x4).bind fun x6 =>
 gk x6 true (some x2) fun x7 =>
 gbK H0 x6 true H5 (Sh.f0 x7 (.str [13, 10]) H5) fun x8 H9 =>
 gk x6 true (unA .not x8) fun x10 =>
 (A7 x6 x10 (.bool false)).bind fun x11 =>
 Am x11 (
 (Ae x2).bind fun x12 =>
 (Ac 1 x12).bind fun x13 =>
 (Ad false 1 x13 H9).bind fun x14 =>
 (Af .none .add x14 (.int .i64 1)).bind fun x15 =>
 (Ae x2).bind fun x16 =>
 (Ac 1 x16).bind fun x17 =>
 bK H0 (AN (Al 1 x17 x15 H9)) fun _ H19 =>
 rec1 [x2] H19) (
 rK H0 (.tup []) H9)
noncomputable def Sh.fo (x1 : Aa) (H0 : Ab) : Out :=
 Ap (fun rec1 vs H => Sh.f3z H0 rec1 (ag vs 0) H) AM [x1] H0
noncomputable def Sh.f4t (H0 : Ab) (x8 : Aa) (H9 : Ab) : Out :=
 (Ae x8).bind fun x10 =>
 (Ac 1 x10).bind fun x11 =>
 (Ad false 1 x11 H9).bind fun x12 =>
 (Af .none .add x12 (.int .i64 1)).bind fun x13 =>
 (Ae x8).bind fun x14 =>
 (Ac 1 x14).bind fun x15 =>
 bK H0 (AN (Al 1 x15 x13 H9)) fun _ H17 =>
 rK H0 (.tup []) H17
noncomputable def Sh.f40 (H0 : Ab) (x5 rest_6 : Aa) (H7 : Ab) : Out :=
 AS (fun j2 =>
 bK H0 (Sh.f0 x5 (.str [10]) H7) fun x18 H19 =>
 (unA .not x18).bind fun x20 =>
 Am x20 (
 (Af .none .add (.str [10]) rest_6).bind fun x21 =>
 bK H0 (Sh.f1 x5 x21 H19) fun x22 H23 =>
 j2 [x5] H23) (
 j2 [x5] H19)) (fun vs H => Sh.f4t H0 (ag vs 0) H)
noncomputable def Sh.fg (x1 rest_2 : Aa) (H0 : Ab) : Out :=
 bK H0 (Sh.f2 x1 H0) fun x3 H4 =>
 Am x3 (
 rK H0 (.tup []) H4) (
 AS (fun j1 =>
 bK H0 (Sh.f0 x1 (.str [13]) H4) fun x24 H25 =>
 Am x24 (
 (Ae x1).bind fun x26 =>
 (Ac 1 x26).bind fun x27 =>
 (Ad false 1 x27 H25).bind fun x28 =>
 (Af .none .add x28 (.int .i64 1)).bind fun x29 =>
 (Ae x1).bind fun x30 =>
 (Ac 1 x30).bind fun x31 =>
 bK H0 (AN (Al 1 x31 x29 H25)) fun _ H33 =>
 j1 [x1, rest_2] H33) (
 j1 [x1, rest_2] H25)) (fun vs H => Sh.f40 H0 (ag vs 0) (ag vs 1) H))
noncomputable def Sh.f6 (x1 : Aa) (H0 : Ab) : Out :=
 (A6 (some [(.int .i64 0), (.str [])]) [(0, 1, (.int .i64 4)), (1, 1, (.str []))]).bind fun x2 =>
 (Qb EX x2).bind fun x3 =>
 bK H0 (panA x3 H0) fun _ H5 =>
 rK H0 (.tup []) H5
noncomputable def Sh.f1c (s_1 prefix_2 : Aa) (H0 : Ab) : Out :=
 (B6 s_1).bind fun x3 =>
 (B6 prefix_2).bind fun x4 =>
 (Af .none .geq x3 x4).bind fun x5 =>
 gk x5 true (some s_1) fun x6 =>
 gk x5 true (some prefix_2) fun x7 =>
 gk x5 true (B6 x7) fun x8 =>
 gk x5 true (Br x6 none (some x8)) fun x9 =>
 gk x5 true (some prefix_2) fun x10 =>
 gk x5 true (Af .none .eql x9 x10) fun x11 =>
 (A7 x5 x11 (.bool false)).bind fun x12 =>
 rK H0 x12 H0
noncomputable def Sh.f2h (s_1 prefix_2 : Aa) (H0 : Ab) : Out :=
 bK H0 (Sh.f1c s_1 prefix_2 H0) fun x3 H4 =>
 (unA .not x3).bind fun x5 =>
 Am x5 (
 rK H0 (.tup [s_1, (.bool false)]) H4) (
 (B6 prefix_2).bind fun x6 =>
 (Br s_1 (some x6) none).bind fun x7 =>
 rK H0 (.tup [x7, (.bool true)]) H4)
noncomputable def Sh.f1d (s_1 prefix_2 : Aa) (H0 : Ab) : Out :=
 bK H0 (Sh.f2h s_1 prefix_2 H0) fun x3 H4 =>
 (Ar 0 x3).bind fun x5 =>
 (Ar 1 x3).bind fun x6 =>
 rK H0 (.tup [x5, x6]) H4
noncomputable def Sh.f1e (s_1 at_2 : Aa) (H0 : Ab) : Out :=
 (Af .none .lss at_2 (.int .i64 0)).bind fun x3 =>
 gk x3 false (some at_2) fun x4 =>
 gk x3 false (some s_1) fun x5 =>
 gk x3 false (B6 x5) fun x6 =>
 gk x3 false (Af .none .gtr x4 x6) fun x7 =>
 (A7 x3 (.bool true) x7).bind fun x8 =>
 Am x8 (
 rK H0 (.int .i64 0) H0) (
 (Br s_1 (some at_2) none).bind fun x9 =>
 bK H0 (Sh.f15 x9 (.fn 120 []) H0) fun x10 H11 =>
 (Af .none .lss x10 (.int .i64 0)).bind fun x12 =>
 Am x12 (
 (B6 x9).bind fun x13 =>
 rK H0 x13 H11) (
 rK H0 x10 H11))
noncomputable def Sh.f41 (H0 : Ab) (rec1 : LK) (a_10 m_11 out_12 carry_13 x14 x15 x16 : Aa) (H17 : Ab) : Out :=
 (Af .none .lss x16 x15).bind fun x18 =>
 Am x18 (
 (A5 1 x14 x16).bind fun x19 =>
 (Ad false 1 x19 H17).bind fun x20 =>
 (AZ .u64 x20).bind fun x21 =>
 (AZ .u64 m_11).bind fun x22 =>
 (Af .none .mul x21 x22).bind fun x23 =>
 (Af .none .add carry_13 x23).bind fun x24 =>
 (AZ .u32 x24).bind fun x25 =>
 (A5 1 out_12 x16).bind fun x26 =>
 bP H0 (AN (Al 1 x26 x25 H17)) fun _ H28 =>
 (Af .none .shr x24 (.int .u64 32)).bind fun x29 =>
 (Af .none .add x16 (.int .i64 1)).bind fun x30 =>
 rec1 [a_10, m_11, out_12, x29, x14, x15, x30] H28) (
 (AG a_10).bind fun x31 =>
 (AZ .u32 carry_13).bind fun x32 =>
 (A5 1 out_12 x31).bind fun x33 =>
 bP H0 (AN (Al 1 x33 x32 H17)) fun _ H35 =>
 bP H0 (Sh.f18 out_12 H35) fun x36 H37 =>
 rPN H0 x36 H37)
noncomputable def Sh.f1f (a_1 m_2 c_3 : Aa) (H0 : Ab) : Out :=
 (AG a_1).bind fun x4 =>
 (Af .none .add x4 (.int .i64 1)).bind fun x5 =>
 A2 (Fd 1 4 (some [(.int .u32 0)]) x5 x5 H0) fun x6 H7 =>
 (AZ .u64 c_3).bind fun x8 =>
 (AG a_1).bind fun x9 =>
 Ap (fun rec1 vs H => Sh.f41 H0 rec1 (ag vs 0) (ag vs 1) (ag vs 2) (ag vs 3) (ag vs 4) (ag vs 5) (ag vs 6) H) AM [a_1, m_2, x6, x8, a_1, x9, (.int .i64 0)] H7
noncomputable def Sh.f2v (H0 : Ab) (rec2 : LK) (x25 neg_26 l_27 x28 : Aa) (H29 : Ab) : Out :=
 bP H0 (BF (Mn x28 H29)) fun x30 H31 =>
 (Ar 0 x30).bind fun x32 =>
 Am x32 (
 (Ar 2 x30).bind fun x33 =>
 (Af .none .sub x33 (.int .i32 48)).bind fun x34 =>
 (AZ .u32 x34).bind fun x35 =>
 bP H0 (Sh.f1f l_27 (.int .u32 10) x35 H31) fun x36 H37 =>
 rec2 [x25, neg_26, x36, x28] H37) (
 (A6 (some [(.bool false), (.sl [] .tight)]) [(0, 1, neg_26), (1, 1, l_27)]).bind fun x38 =>
 bP H0 (AN (Al 2 x25 x38 H31)) fun _ H40 =>
 (La [Ad true 2 x25 H40, some (.int .i64 0)]).bind fun x41 => rPN H0 x41 H40)
noncomputable def Sh.f42 (H0 : Ab) (x8 d_9 neg_10 x11 : Aa) (H12 : Ab) : Out :=
 Am x11 (
 (A6 (some [(.bool false), (.sl [] .tight)]) []).bind fun x13 =>
 bP H0 (AN (Al 2 x8 x13 H12)) fun _ H15 =>
 (La [Ad true 2 x8 H15, some (.int .i64 2)]).bind fun x16 => rPN H0 x16 H15) (
 (B6 d_9).bind fun x17 =>
 (Af .none .gtr x17 (.int .i64 400)).bind fun x18 =>
 Am x18 (
 (A6 (some [(.bool false), (.sl [] .tight)]) []).bind fun x19 =>
 bP H0 (AN (Al 2 x8 x19 H12)) fun _ H21 =>
 (La [Ad true 2 x8 H21, some (.int .i64 4)]).bind fun x22 => rPN H0 x22 H21) (
 bP H0 (BF (L9 d_9 H12)) fun x23 H24 =>
 Ap (fun rec2 vs H => Sh.f2v H0 rec2 (ag vs 0) (ag vs 1) (ag vs 2) (ag vs 3) H) AM [x8, neg_10, (.sl [] .tight), x23] H24))
noncomputable def Sh.f1g (s_1 : Aa) (H0 : Ab) : Out :=
 A2 (AF (some [(.bool false), (.sl [] .tight)]) H0) fun x2 H3 =>
 bP H0 (Sh.f1d s_1 (.str [45]) H3) fun x4 H5 =>
 (Ar 0 x4).bind fun x6 =>
 (Ar 1 x4).bind fun x7 =>
 AS (fun j1 =>
 (Af .none .eql x6 (.str [])).bind fun x42 =>
 Am x42 (
 j1 [x2, x6, x7, x42] H5) (
 bP H0 (Sh.f1e x6 (.int .i64 0) H5) fun x43 H44 =>
 (B6 x6).bind fun x45 =>
 (Af .none .lss x43 x45).bind fun x46 =>
 Am x46 (
 j1 [x2, x6, x7, x46] H44) (
 (Dl x6 (.int .i64 0)).bind fun x47 =>
 (Af .none .eql x47 (.int .u8 48)).bind fun x48 =>
 gk x48 true (some s_1) fun x49 =>
 gk x48 true (Af .none .neq x49 (.str [48])) fun x50 =>
 (A7 x48 x50 (.bool false)).bind fun x51 =>
 j1 [x2, x6, x7, x51] H44))) (fun vs H => Sh.f42 H0 (ag vs 0) (ag vs 1) (ag vs 2) (ag vs 3) H)
noncomputable def Sh.f2w (H0 : Ab) (rec2 : LK) (x25 x26 x27 x28 x29 : Aa) (H30 : Ab) : Out :=
 (Ae x25).bind fun x31 =>
 (Ac 1 x31).bind fun x32 =>
 (Ad false 1 x32 H30).bind fun x33 =>
 (Af .none .add x33 (.int .i64 1)).bind fun x34 =>
 (Ae x25).bind fun x35 =>
 (Ac 1 x35).bind fun x36 =>
 bK H0 (AN (Al 1 x36 x34 H30)) fun _ H38 =>
 rec2 [x25, x26, x27, x28, x29] H38
noncomputable def Sh.f2i (H0 : Ab) (x60 x61 x62 : Aa) (H63 : Ab) : Out :=
 (Ae x60).bind fun x64 =>
 (Ac 0 x64).bind fun x65 =>
 bC (Ad false 1 x65 H63) (fun _ => True) fun x66 =>
 (Ae x60).bind fun x67 =>
 (Ac 1 x67).bind fun x68 =>
 bC (Ad false 1 x68 H63) (fun _ => True) fun x69 =>
 (Br x66 (some x62) (some x69)).bind fun x70 =>
 Cg (Sh.f1g x70 H63) fun x71 H72 =>
 (Ar 0 x71).bind fun x73 =>
 A2 (AF (some [(.bool false), (.sl [] .tight)]) H72) fun x74 H75 =>
 Cg (AN (Al 2 x74 x73 H75)) fun _ H77 =>
 (Ar 1 x71).bind fun x78 =>
 (Ad true 2 x74 H77).bind fun x79 =>
 bK H0 (AN (Al 2 x61 x79 H77)) fun _ H81 =>
 (Ad true 2 x61 H81).bind fun x82 => rKN H0 x82 H81
noncomputable def Sh.f2x (H0 : Ab) (rec2 : LK) (x17 x18 x19 x20 x21 : Aa) (H22 : Ab) : Out :=
 bK H0 (Sh.f0 x17 (.str [48, 49, 50, 51, 52, 53, 54, 55, 56, 57]) H22) fun x23 H24 =>
 Am x23 (
 AS (fun j3 =>
 (Ae x17).bind fun x39 =>
 (Ac 1 x39).bind fun x40 =>
 (Ad false 1 x40 H24).bind fun x41 =>
 (Af .none .gtr x41 x21).bind fun x42 =>
 gk x42 true (some x17) fun x43 =>
 gk x42 true (Ae x43) fun x44 =>
 gk x42 true (Ac 0 x44) fun x45 =>
 gk x42 true (Ad false 1 x45 H24) fun x46 =>
 gk x42 true (some x21) fun x47 =>
 gk x42 true (Dl x46 x47) fun x48 =>
 gk x42 true (Af .none .eql x48 (.int .u8 48)) fun x49 =>
 (A7 x42 x49 (.bool false)).bind fun x50 =>
 Am x50 (
 bK H0 (Sh.f1 x17 (.str []) H24) fun x51 H52 =>
 j3 [x17, x18, x19, x20, x21] H52) (
 (Ae x17).bind fun x53 =>
 (Ac 1 x53).bind fun x54 =>
 (Ad false 1 x54 H24).bind fun x55 =>
 (Af .none .sub x55 x21).bind fun x56 =>
 (Af .none .eql x56 (.int .i64 400)).bind fun x57 =>
 Am x57 (
 bK H0 (Sh.f6 x17 H24) fun x58 H59 =>
 j3 [x17, x18, x19, x20, x21] H59) (
 j3 [x17, x18, x19, x20, x21] H24))) (fun vs H => Sh.f2w H0 rec2 (ag vs 0) (ag vs 1) (ag vs 2) (ag vs 3) (ag vs 4) H)) (
 AS (fun j4 =>
 (Ae x17).bind fun x83 =>
 (Ac 1 x83).bind fun x84 =>
 (Ad false 1 x84 H24).bind fun x85 =>
 (Af .none .eql x85 x21).bind fun x86 =>
 Am x86 (
 (Af .none .add (.str [49]) x18).bind fun x87 =>
 bK H0 (Sh.f1 x17 x87 H24) fun x88 H89 =>
 j4 [x17, x19, x20] H89) (
 j4 [x17, x19, x20] H24)) (fun vs H => Sh.f2i H0 (ag vs 0) (ag vs 1) (ag vs 2) H))
noncomputable def Sh.f2y (H0 : Ab) (x9 x10 x11 x12 : Aa) (H13 : Ab) : Out :=
 (Ae x9).bind fun x14 =>
 (Ac 1 x14).bind fun x15 =>
 (Ad false 1 x15 H13).bind fun x16 =>
 Ap (fun rec2 vs H => Sh.f2x H0 rec2 (ag vs 0) (ag vs 1) (ag vs 2) (ag vs 3) (ag vs 4) H) AM [x9, x10, x11, x12, x16] H13
noncomputable def Sh.f1h (x1 x2 x3 : Aa) (H0 : Ab) : Out :=
 A2 (AF (some [(.bool false), (.sl [] .tight)]) H0) fun x4 H5 =>
 (Ae x1).bind fun x6 =>
 (Ac 1 x6).bind fun x7 =>
 (Ad false 1 x7 H5).bind fun x8 =>
 AS (fun j1 =>
 gk x2 true (some x1) fun x90 =>
 gbK H0 x2 true H5 (Sh.f0 x90 (.str [45]) H5) fun x91 H92 =>
 (A7 x2 x91 (.bool false)).bind fun x93 =>
 Am x93 (
 (Ae x1).bind fun x94 =>
 (Ac 1 x94).bind fun x95 =>
 (Ad false 1 x95 H92).bind fun x96 =>
 (Af .none .add x96 (.int .i64 1)).bind fun x97 =>
 (Ae x1).bind fun x98 =>
 (Ac 1 x98).bind fun x99 =>
 bK H0 (AN (Al 1 x99 x97 H92)) fun _ H101 =>
 bK H0 (Sh.f0 x1 (.str [48]) H101) fun x102 H103 =>
 Am x102 (
 bK H0 (Sh.f1 x1 (.str []) H103) fun x104 H105 =>
 j1 [x1, x3, x4, x8] H105) (
 j1 [x1, x3, x4, x8] H103)) (
 j1 [x1, x3, x4, x8] H92)) (fun vs H => Sh.f2y H0 (ag vs 0) (ag vs 1) (ag vs 2) (ag vs 3) H)
noncomputable def Sh.f1i (c_1 : Aa) (H0 : Ab) : Out :=
 (Af .none .gtr c_1 (.int .u8 32)).bind fun x2 =>
 gk x2 true (some c_1) fun x3 =>
 gk x2 true (Af .none .lss x3 (.int .u8 127)) fun x4 =>
 (A7 x2 x4 (.bool false)).bind fun x5 =>
 rK H0 x5 H0
noncomputable def Sh.f43 (H0 : Ab) (x41 from_42 : Aa) (H43 : Ab) : Out :=
 (Ae x41).bind fun x44 =>
 (Ac 0 x44).bind fun x45 =>
 bC (Ad false 1 x45 H43) (fun _ => True) fun x46 =>
 (Ae x41).bind fun x47 =>
 (Ac 1 x47).bind fun x48 =>
 bC (Ad false 1 x48 H43) (fun _ => True) fun x49 =>
 (Br x46 (some from_42) (some x49)).bind fun x50 =>
 rK H0 x50 H43
noncomputable def Sh.f44 (H0 : Ab) (rec1 : LK) (x6 rest_7 from_8 : Aa) (H9 : Ab) : Out :=
 Cg (Sh.f2 x6 H9) fun x10 H11 =>
 (unA .not x10).bind fun x12 =>
 gk x12 true (some x6) fun x13 =>
 gk x12 true (Ae x13) fun x14 =>
 gk x12 true (Ac 1 x14) fun x15 =>
 gkc x12 true (Ad false 1 x15 H11) (fun _ _ => True) fun x16 =>
 gk x12 true (some from_8) fun x17 =>
 gk x12 true (Af .none .sub x16 x17) fun x18 =>
 gk x12 true (Af .none .lss x18 (.int .i64 40)) fun x19 =>
 (A7 x12 x19 (.bool false)).bind fun x20 =>
 gk x20 true (some x6) fun x21 =>
 gk x20 true (Ae x21) fun x22 =>
 gk x20 true (Ac 0 x22) fun x23 =>
 gkc x20 true (Ad false 1 x23 H11) (fun _ _ => True) fun x24 =>
 gk x20 true (some x6) fun x25 =>
 gk x20 true (Ae x25) fun x26 =>
 gk x20 true (Ac 1 x26) fun x27 =>
 gkc x20 true (Ad false 1 x27 H11) (fun _ _ => True) fun x28 =>
 gk x20 true (Dl x24 x28) fun x29 =>
 gbN x20 true H11 (Sh.f1i x29 H11) fun x30 H31 =>
 (A7 x20 x30 (.bool false)).bind fun x32 =>
 Am x32 (
 (Ae x6).bind fun x33 =>
 (Ac 1 x33).bind fun x34 =>
 (Ad false 1 x34 H31).bind fun x35 =>
 (Af .none .add x35 (.int .i64 1)).bind fun x36 =>
 (Ae x6).bind fun x37 =>
 (Ac 1 x37).bind fun x38 =>
 bK H0 (AN (Al 1 x38 x36 H31)) fun _ H40 =>
 rec1 [x6, rest_7, from_8] H40) (
 AS (fun j2 =>
 (Ae x6).bind fun x51 =>
 (Ac 1 x51).bind fun x52 =>
 (Ad false 1 x52 H31).bind fun x53 =>
 (Af .none .eql x53 from_8).bind fun x54 =>
 Am x54 (
 (Af .none .add (.str [97]) rest_7).bind fun x55 =>
 bK H0 (Sh.f1 x6 x55 H31) fun x56 H57 =>
 j2 [x6, from_8] H57) (
 j2 [x6, from_8] H31)) (fun vs H => Sh.f43 H0 (ag vs 0) (ag vs 1) H))
noncomputable def Sh.fw (x1 rest_2 : Aa) (H0 : Ab) : Out :=
 (Ae x1).bind fun x3 =>
 (Ac 1 x3).bind fun x4 =>
 (Ad false 1 x4 H0).bind fun x5 =>
 Ap (fun rec1 vs H => Sh.f44 H0 rec1 (ag vs 0) (ag vs 1) (ag vs 2) H) AM [x1, rest_2, x5] H0
noncomputable def Sh.f1j (r_1 : Aa) (H0 : Ab) : Out :=
 (Ae r_1).bind fun x2 =>
 (Ac 0 x2).bind fun x3 =>
 (Ac 1 x3).bind fun x4 =>
 (Ad false 1 x4 H0).bind fun x5 =>
 (Af .none .add x5 (.int .i64 1)).bind fun x6 =>
 (Ae r_1).bind fun x7 =>
 (Ac 0 x7).bind fun x8 =>
 (Ac 1 x8).bind fun x9 =>
 bK H0 (AN (Al 1 x9 x6 H0)) fun _ H11 =>
 (Ae r_1).bind fun x12 =>
 (Ac 0 x12).bind fun x13 =>
 bK H0 (Sh.f0 x13 (.str [67]) H11) fun x14 H15 =>
 Am x14 (
 (Ae r_1).bind fun x16 =>
 (Ac 0 x16).bind fun x17 =>
 bK H0 (Sh.fo x17 H15) fun x18 H19 =>
 rK H0 (.tup []) H19) (
 (Ae r_1).bind fun x20 =>
 (Ac 0 x20).bind fun x21 =>
 bK H0 (Sh.f0 x21 (.str [71]) H15) fun x22 H23 =>
 Am x22 (
 (Ae r_1).bind fun x24 =>
 (Ac 0 x24).bind fun x25 =>
 bK H0 (Sh.f3 x25 (.str [71, 32]) (.str [49]) H23) fun x26 H27 =>
 (Ae r_1).bind fun x28 =>
 (Ac 0 x28).bind fun x29 =>
 bK H0 (Sh.f1h x29 (.bool false) (.str []) H27) fun x30 H31 =>
 rK H0 (.tup []) H31) (
 (Ae r_1).bind fun x32 =>
 (Ac 0 x32).bind fun x33 =>
 bK H0 (Sh.f0 x33 (.str [82]) H23) fun x34 H35 =>
 Am x34 (
 (Ae r_1).bind fun x36 =>
 (Ac 0 x36).bind fun x37 =>
 bK H0 (Sh.f3 x37 (.str [82, 32]) (.str [97]) H35) fun x38 H39 =>
 (Ae r_1).bind fun x40 =>
 (Ac 0 x40).bind fun x41 =>
 bK H0 (Sh.fw x41 (.str []) H39) fun x42 H43 =>
 (Ae r_1).bind fun x44 =>
 (Ac 4 x44).bind fun x45 =>
 bK H0 (AN (Al 1 x45 x42 H43)) fun _ H47 =>
 rK H0 (.tup []) H47) (
 (Ae r_1).bind fun x48 =>
 (Ac 0 x48).bind fun x49 =>
 bK H0 (Sh.f1 x49 (.str [67]) H35) fun x50 H51 =>
 rK H0 (.tup []) H51)))
noncomputable def Sh.fh (r_1 n_2 : Aa) (H0 : Ab) : Out :=
 A2 (Ek true 5 n_2 H0) fun n_3 H4 =>
 (Ae r_1).bind fun x5 =>
 (Ac 5 x5).bind fun x6 =>
 bC (Ad false 1 x6 H4) (fun _ => True) fun x7 =>
 bC (Ad true 5 n_3 H4) (fun _ => True) fun x8 =>
 (AH 5 [x8]).bind fun x9 =>
 Cg (BF (AI As 5 40 x7 x9 H4)) fun x10 H11 =>
 (Ae r_1).bind fun x12 =>
 (Ac 5 x12).bind fun x13 =>
 bK H0 (AN (Al 1 x13 x10 H11)) fun _ H15 =>
 (Ae r_1).bind fun x16 =>
 (Ac 5 x16).bind fun x17 =>
 (Ad false 1 x17 H15).bind fun x18 =>
 (AG x18).bind fun x19 =>
 rK H0 x19 H15
noncomputable def Sh.f1k (H0 : Ab) (self : Aa → Aa → Aa → Aa → Aa → Ab → Out) (rec1 : LK) (r_13 on_14 level_15 x16 y_17 half_18 n_19 x20 : Aa) (H21 : Ab) : Out :=
 (Af .none .lss x20 (.int .i64 4)).bind fun x22 =>
 Am x22 (
 (Af .none .rem x20 (.int .i64 2)).bind fun x23 =>
 (Af .none .mul x23 half_18).bind fun x24 =>
 (Af .none .add x16 x24).bind fun x25 =>
 (Af .none .quo x20 (.int .i64 2)).bind fun x26 =>
 (Af .none .mul x26 half_18).bind fun x27 =>
 (Af .none .add y_17 x27).bind fun x28 =>
 (Af .none .gtr level_15 (.int .i64 1)).bind fun x29 =>
 Am x29 (
 (Af .none .sub level_15 (.int .i64 1)).bind fun x30 =>
 bK H0 (self r_13 on_14 x30 x25 x28 H21) fun x31 H32 =>
 (Ac 1 n_19).bind fun x33 =>
 (Bk 4 1 x33 x20).bind fun x34 =>
 bK H0 (AN (Al 1 x34 x31 H32)) fun _ H36 =>
 (Af .none .add x20 (.int .i64 1)).bind fun x37 =>
 rec1 [r_13, on_14, level_15, x16, y_17, half_18, n_19, x37] H36) (
 (Ae on_14).bind fun x38 =>
 (Bk 8 8 x38 x28).bind fun x39 =>
 (Bk 8 1 x39 x25).bind fun x40 =>
 (Ad false 1 x40 H21).bind fun x41 =>
 Am x41 (
 (Ac 1 n_19).bind fun x42 =>
 (Bk 4 1 x42 x20).bind fun x43 =>
 bK H0 (AN (Al 1 x43 (.int .i64 1) H21)) fun _ H45 =>
 (Af .none .add x20 (.int .i64 1)).bind fun x46 =>
 rec1 [r_13, on_14, level_15, x16, y_17, half_18, n_19, x46] H45) (
 (Af .none .add x20 (.int .i64 1)).bind fun x47 =>
 rec1 [r_13, on_14, level_15, x16, y_17, half_18, n_19, x47] H21))) (
 (Ad true 5 n_19 H21).bind fun x48 =>
 bK H0 (Sh.fh r_13 x48 H21) fun x49 H50 =>
 rK H0 x49 H50)
noncomputable def Sh.f45 (self : Aa → Aa → Aa → Aa → Aa → Ab → Out) (r_1 on_2 level_3 x4 y_5 : Aa) (H0 : Ab) : Out :=
 (Af .none .sub level_3 (.int .i64 1)).bind fun x6 =>
 (Af .none .shl (.int .i64 1) x6).bind fun x7 =>
 (A6 (some [(.int .i64 0), (.int .i64 0), (.int .i64 0), (.int .i64 0), (.int .i64 0)]) [(0, 1, level_3)]).bind fun x8 =>
 A2 (AF (some [(.int .i64 0), (.int .i64 0), (.int .i64 0), (.int .i64 0), (.int .i64 0)]) H0) fun n_9 H10 =>
 bK H0 (AN (Al 5 n_9 x8 H10)) fun _ H12 =>
 Ap (fun rec1 vs H => Sh.f1k H0 self rec1 (ag vs 0) (ag vs 1) (ag vs 2) (ag vs 3) (ag vs 4) (ag vs 5) (ag vs 6) (ag vs 7) H) AM [r_1, on_2, level_3, x4, y_5, x7, n_9, (.int .i64 0)] H12
noncomputable def Sh.fa : Nat → Aa → Aa → Aa → Aa → Aa → Ab → Out
 | 0 => fun _ _ _ _ _ _ => none
 | d + 1 => Sh.f45 (Sh.fa d)
noncomputable def Sh.f2z (H0 : Ab) (rec1 : LK) (r_13 on_14 x15 y_16 : Aa) (H17 : Ab) : Out :=
 (Ae r_13).bind fun x18 =>
 (Ac 0 x18).bind fun x19 =>
 (Ac 1 x19).bind fun x20 =>
 (Ad false 1 x20 H17).bind fun x21 =>
 (Af .none .add x21 (.int .i64 1)).bind fun x22 =>
 (Ae r_13).bind fun x23 =>
 (Ac 0 x23).bind fun x24 =>
 (Ac 1 x24).bind fun x25 =>
 bK H0 (AN (Al 1 x25 x22 H17)) fun _ H27 =>
 rec1 [r_13, on_14, x15, y_16] H27
noncomputable def Sh.f46 (H0 : Ab) (j2 : LK) (r_32 on_33 x34 y_35 end_36 : Aa) (H37 : Ab) : Out :=
 Am end_36 (
 (Af .none .add y_35 (.int .i64 1)).bind fun x38 =>
 j2 [r_32, on_33, (.int .i64 0), x38] H37) (
 (Ae r_32).bind fun x39 =>
 (Ac 0 x39).bind fun x40 =>
 Cg (Sh.f0 x40 (.str [42]) H37) fun x41 H42 =>
 (Bk 8 8 on_33 y_35).bind fun x43 =>
 (Bk 8 1 x43 x34).bind fun x44 =>
 bK H0 (AN (Al 1 x44 x41 H42)) fun _ H46 =>
 (Af .none .add x34 (.int .i64 1)).bind fun x47 =>
 j2 [r_32, on_33, x47, y_35] H46)
noncomputable def Sh.f30 (H0 : Ab) (rec1 : LK) (r_4 on_5 x6 y_7 : Aa) (H8 : Ab) : Out :=
 (Ae r_4).bind fun x9 =>
 (Ac 0 x9).bind fun x10 =>
 bK H0 (Sh.f0 x10 (.str [46, 42, 36]) H8) fun x11 H12 =>
 Am x11 (
 AS (fun j2 =>
 (Ae r_4).bind fun x28 =>
 (Ac 0 x28).bind fun x29 =>
 bK H0 (Sh.f0 x29 (.str [36]) H12) fun x30 H31 =>
 AS (fun j3 =>
 (Af .none .eql y_7 (.int .i64 8)).bind fun x48 =>
 gk x48 false (some x6) fun x49 =>
 gk x48 false (Af .none .eql x49 (.int .i64 8)) fun x50 =>
 gk x48 false (some x50) fun x51 =>
 gk x51 true (some x30) fun x52 =>
 gk x51 true (unA .not x52) fun x53 =>
 gk x48 false (A7 x51 x53 (.bool false)) fun x54 =>
 (A7 x48 (.bool true) x54).bind fun x55 =>
 Am x55 (
 (Ae r_4).bind fun x56 =>
 (Ac 0 x56).bind fun x57 =>
 bK H0 (Sh.f1 x57 (.str []) H31) fun x58 H59 =>
 j3 [r_4, on_5, x6, y_7, x30] H59) (
 j3 [r_4, on_5, x6, y_7, x30] H31)) (fun vs H => Sh.f46 H0 j2 (ag vs 0) (ag vs 1) (ag vs 2) (ag vs 3) (ag vs 4) H)) (fun vs H => Sh.f2z H0 rec1 (ag vs 0) (ag vs 1) (ag vs 2) (ag vs 3) H)) (
 Cg (Sh.fa AM r_4 on_5 (.int .i64 3) (.int .i64 0) (.int .i64 0) H12) fun x60 H61 =>
 (Ae r_4).bind fun x62 =>
 (Ac 6 x62).bind fun x63 =>
 bC (Ad false 1 x63 H61) (fun x64 => Ad false 1 x63 H12 = some x64 ∧ True) fun x64 =>
 (A6 (some [(.int .i64 0), (.int .i64 0)]) [(0, 1, x60), (1, 1, (.int .i64 3))]).bind fun x65 =>
 (AH 2 [x65]).bind fun x66 =>
 Cg (BF (AI CQ 2 16 x64 x66 H61)) fun x67 H68 =>
 (Ae r_4).bind fun x69 =>
 (Ac 6 x69).bind fun x70 =>
 bK H0 (AN (Al 1 x70 x67 H68)) fun _ H72 =>
 rK H0 (.tup []) H72)
noncomputable def Sh.f1l (r_1 : Aa) (H0 : Ab) : Out :=
 A2 (AF (some [(.bool false), (.bool false), (.bool false), (.bool false), (.bool false), (.bool false), (.bool false), (.bool false), (.bool false), (.bool false), (.bool false), (.bool false), (.bool false), (.bool false), (.bool false), (.bool false), (.bool false), (.bool false), (.bool false), (.bool false), (.bool false), (.bool false), (.bool false), (.bool false), (.bool false), (.bool false), (.bool false), (.bool false), (.bool false), (.bool false), (.bool false), (.bool false), (.bool false), (.bool false), (.bool false), (.bool false), (.bool false), (.bool false), (.bool false), (.bool false), (.bool false), (.bool false), (.bool false), (.bool false), (.bool false), (.bool false), (.bool false), (.bool false), (.bool false), (.bool false), (.bool false), (.bool false), (.bool false), (.bool false), (.bool false), (.bool false), (.bool false), (.bool false), (.bool false), (.bool false), (.bool false), (.bool false), (.bool false), (.bool false)]) H0) fun on_2 H3 =>
 Ap (fun rec1 vs H => Sh.f30 H0 rec1 (ag vs 0) (ag vs 1) (ag vs 2) (ag vs 3) H) AM [r_1, on_2, (.int .i64 0), (.int .i64 0)] H3
noncomputable def Sh.f4u (H0 : Ab) (rec2 : LK) (r_11 n_12 : Aa) (H13 : Ab) : Out :=
 (Ae r_11).bind fun x14 =>
 (Ac 0 x14).bind fun x15 =>
 (Ac 1 x15).bind fun x16 =>
 (Ad false 1 x16 H13).bind fun x17 =>
 (Af .none .add x17 (.int .i64 1)).bind fun x18 =>
 (Ae r_11).bind fun x19 =>
 (Ac 0 x19).bind fun x20 =>
 (Ac 1 x20).bind fun x21 =>
 bK H0 (AN (Al 1 x21 x18 H13)) fun _ H23 =>
 rec2 [r_11, n_12] H23
noncomputable def Sh.f47 (H0 : Ab) (rec2 : LK) (r_4 n_5 : Aa) (H6 : Ab) : Out :=
 (Ae r_4).bind fun x7 =>
 (Ac 0 x7).bind fun x8 =>
 bK H0 (Sh.f0 x8 (.str [48, 49, 50, 51, 52, 53, 54, 55, 56, 57]) H6) fun x9 H10 =>
 Am x9 (
 AS (fun j3 =>
 (Af .none .mul (.int .i64 10) n_5).bind fun x24 =>
 (Ae r_4).bind fun x25 =>
 (Ac 0 x25).bind fun x26 =>
 (Ac 0 x26).bind fun x27 =>
 bC (Ad false 1 x27 H10) (fun _ => True) fun x28 =>
 (Ae r_4).bind fun x29 =>
 (Ac 0 x29).bind fun x30 =>
 (Ac 1 x30).bind fun x31 =>
 bC (Ad false 1 x31 H10) (fun _ => True) fun x32 =>
 (Dl x28 x32).bind fun x33 =>
 (Af .none .sub x33 (.int .u8 48)).bind fun x34 =>
 bC (AZ .i64 x34) (fun _ => True) fun x35 =>
 (Af .none .add x24 x35).bind fun x36 =>
 (Af .none .gtr x36 (.int .i64 1329)).bind fun x37 =>
 Am x37 (
 (Ae r_4).bind fun x38 =>
 (Ac 0 x38).bind fun x39 =>
 bK H0 (Sh.f6 x39 H10) fun x40 H41 =>
 j3 [r_4, x36] H41) (
 j3 [r_4, x36] H10)) (fun vs H => Sh.f4u H0 rec2 (ag vs 0) (ag vs 1) H)) (
 (Af .none .eql n_5 (.int .i64 0)).bind fun x42 =>
 Am x42 (
 (Ae r_4).bind fun x43 =>
 (Ac 0 x43).bind fun x44 =>
 bK H0 (Sh.f1 x44 (.str []) H10) fun x45 H46 =>
 rK H0 n_5 H46) (
 rK H0 n_5 H10))
noncomputable def Sh.f4v (H0 : Ab) (r_2 : Aa) (H3 : Ab) : Out :=
 Ap (fun rec2 vs H => Sh.f47 H0 rec2 (ag vs 0) (ag vs 1) H) AM [r_2, (.int .i64 0)] H3
noncomputable def Sh.f1m (r_1 : Aa) (H0 : Ab) : Out :=
 AS (fun j1 =>
 (Ae r_1).bind fun x47 =>
 (Ac 0 x47).bind fun x48 =>
 bK H0 (Sh.f0 x48 (.str [48]) H0) fun x49 H50 =>
 Am x49 (
 (Ae r_1).bind fun x51 =>
 (Ac 0 x51).bind fun x52 =>
 bK H0 (Sh.f1 x52 (.str []) H50) fun x53 H54 =>
 j1 [r_1] H54) (
 j1 [r_1] H50)) (fun vs H => Sh.f4v H0 (ag vs 0) H)
noncomputable def Sh.fb (r_1 level_2 n_3 : Aa) (H0 : Ab) : Out :=
 (Af .none .eql level_2 (.int .i64 1)).bind fun x4 =>
 Am x4 (
 (Af .none .leq n_3 (.int .i64 255)).bind fun x5 =>
 rK H0 x5 H0) (
 (Af .none .eql n_3 (.int .i64 0)).bind fun x6 =>
 Am x6 (
 rK H0 (.bool true) H0) (
 (Ae r_1).bind fun x7 =>
 (Ac 6 x7).bind fun x8 =>
 (Ad false 1 x8 H0).bind fun x9 =>
 (AG x9).bind fun x10 =>
 (Af .none .leq n_3 x10).bind fun x11 =>
 gk x11 true (some r_1) fun x12 =>
 gk x11 true (Ae x12) fun x13 =>
 gk x11 true (Ac 6 x13) fun x14 =>
 gk x11 true (Ad false 1 x14 H0) fun x15 =>
 gk x11 true (some n_3) fun x16 =>
 gk x11 true (Af .none .sub x16 (.int .i64 1)) fun x17 =>
 gk x11 true (A5 2 x15 x17) fun x18 =>
 gk x11 true (Ac 1 x18) fun x19 =>
 gk x11 true (Ad false 1 x19 H0) fun x20 =>
 gk x11 true (some level_2) fun x21 =>
 gk x11 true (Af .none .sub x21 (.int .i64 1)) fun x22 =>
 gk x11 true (Af .none .eql x20 x22) fun x23 =>
 (A7 x11 x23 (.bool false)).bind fun x24 =>
 rK H0 x24 H0))
noncomputable def Sh.f31 (H0 : Ab) (rec1 : LK) (rec2 : LK) (r_24 level_25 low_26 high_27 k_28 : Aa) (H29 : Ab) : Out :=
 (Af .none .leq k_28 high_27).bind fun x30 =>
 gk x30 true (some k_28) fun x31 =>
 gk x30 true (some r_24) fun x32 =>
 gk x30 true (Ae x32) fun x33 =>
 gk x30 true (Ac 6 x33) fun x34 =>
 gk x30 true (Ad false 1 x34 H29) fun x35 =>
 gk x30 true (AG x35) fun x36 =>
 gk x30 true (Af .none .leq x31 x36) fun x37 =>
 (A7 x30 x37 (.bool false)).bind fun x38 =>
 Am x38 (
 bK H0 (Sh.fb r_24 level_25 k_28 H29) fun x39 H40 =>
 Am x39 (
 rK H0 (.tup [k_28, (.bool true)]) H40) (
 (Af .none .add k_28 (.int .i64 1)).bind fun x41 =>
 rec2 [r_24, level_25, low_26, high_27, x41] H40)) (
 (Af .none .mul low_26 (.int .i64 10)).bind fun x42 =>
 (Af .none .mul high_27 (.int .i64 10)).bind fun x43 =>
 (Af .none .add x43 (.int .i64 9)).bind fun x44 =>
 rec1 [r_24, level_25, x42, x44] H29)
noncomputable def Sh.f48 (H0 : Ab) (rec1 : LK) (r_14 level_15 low_16 high_17 : Aa) (H18 : Ab) : Out :=
 (Ae r_14).bind fun x19 =>
 (Ac 6 x19).bind fun x20 =>
 (Ad false 1 x20 H18).bind fun x21 =>
 (AG x21).bind fun x22 =>
 (Af .none .leq low_16 x22).bind fun x23 =>
 Am x23 (
 Ap (fun rec2 vs H => Sh.f31 H0 rec1 rec2 (ag vs 0) (ag vs 1) (ag vs 2) (ag vs 3) (ag vs 4) H) AM [r_14, level_15, low_16, high_17, low_16] H18) (
 rK H0 (.tup [(.int .i64 0), (.bool false)]) H18)
noncomputable def Sh.fx (r_1 level_2 n_3 : Aa) (H0 : Ab) : Out :=
 bK H0 (Sh.fb r_1 level_2 n_3 H0) fun x4 H5 =>
 gk x4 false (some n_3) fun x6 =>
 gk x4 false (Af .none .eql x6 (.int .i64 0)) fun x7 =>
 (A7 x4 (.bool true) x7).bind fun x8 =>
 Am x8 (
 bK H0 (Sh.fb r_1 level_2 n_3 H5) fun x9 H10 =>
 rK H0 (.tup [n_3, x9]) H10) (
 (Af .none .mul n_3 (.int .i64 10)).bind fun x11 =>
 (Af .none .mul n_3 (.int .i64 10)).bind fun x12 =>
 (Af .none .add x12 (.int .i64 9)).bind fun x13 =>
 Ap (fun rec1 vs H => Sh.f48 H0 rec1 (ag vs 0) (ag vs 1) (ag vs 2) (ag vs 3) H) AM [r_1, level_2, x11, x13] H5)
noncomputable def Sh.f49 (H0 : Ab) (rec1 : LK) (x18 x19 x20 x21 x22 : Aa) (H23 : Ab) : Out :=
 (Ae x18).bind fun x24 =>
 (Ac 0 x24).bind fun x25 =>
 (Ac 1 x25).bind fun x26 =>
 (Ad false 1 x26 H23).bind fun x27 =>
 (Af .none .add x27 (.int .i64 1)).bind fun x28 =>
 (Ae x18).bind fun x29 =>
 (Ac 0 x29).bind fun x30 =>
 (Ac 1 x30).bind fun x31 =>
 bK H0 (AN (Al 1 x31 x28 H23)) fun _ H33 =>
 rec1 [x18, x19, x20, x21, x22] H33
noncomputable def Sh.f4a (H0 : Ab) (j2 : LK) (x34 x35 x36 x37 x38 : Aa) (H39 : Ab) : Out :=
 (Af .none .mul (.int .i64 10) x37).bind fun x40 =>
 (Ae x34).bind fun x41 =>
 (Ac 0 x41).bind fun x42 =>
 (Ac 0 x42).bind fun x43 =>
 bC (Ad false 1 x43 H39) (fun _ => True) fun x44 =>
 (Ae x34).bind fun x45 =>
 (Ac 0 x45).bind fun x46 =>
 (Ac 1 x46).bind fun x47 =>
 bC (Ad false 1 x47 H39) (fun _ => True) fun x48 =>
 (Dl x44 x48).bind fun x49 =>
 (Af .none .sub x49 (.int .u8 48)).bind fun x50 =>
 bC (AZ .i64 x50) (fun _ => True) fun x51 =>
 (Af .none .add x40 x51).bind fun x52 =>
 bK H0 (Sh.fx x34 x35 x52 H39) fun x53 H54 =>
 (Ar 0 x53).bind fun x55 =>
 (Ar 1 x53).bind fun x56 =>
 (unA .not x56).bind fun x57 =>
 Am x57 (
 (Ae x34).bind fun x58 =>
 (Ac 0 x58).bind fun x59 =>
 bK H0 (Sh.f1 x59 (.str []) H54) fun x60 H61 =>
 j2 [x34, x35, x36, x52, x38] H61) (
 j2 [x34, x35, x36, x52, x38] H54)
noncomputable def Sh.f32 (H0 : Ab) (x80 x81 x82 : Aa) (H83 : Ab) : Out :=
 (Af .none .gtr x81 (.int .i64 1)).bind fun x84 =>
 gk x84 true (some x82) fun x85 =>
 gk x84 true (Af .none .gtr x85 (.int .i64 0)) fun x86 =>
 (A7 x84 x86 (.bool false)).bind fun x87 =>
 Am x87 (
 (Ae x80).bind fun x88 =>
 (Ac 6 x88).bind fun x89 =>
 (Ad false 1 x89 H83).bind fun x90 =>
 (Af .none .sub x82 (.int .i64 1)).bind fun x91 =>
 (A5 2 x90 x91).bind fun x92 =>
 (Ac 0 x92).bind fun x93 =>
 (Ad false 1 x93 H83).bind fun x94 =>
 rK H0 x94 H83) (
 rK H0 x82 H83)
noncomputable def Sh.f4w (H0 : Ab) (x74 x75 x76 x77 x78 : Aa) (H79 : Ab) : Out :=
 AS (fun j5 =>
 bK H0 (Sh.fb x74 x75 x77 H79) fun x95 H96 =>
 (unA .not x95).bind fun x97 =>
 Am x97 (
 bK H0 (Sh.fx x74 x75 x77 H96) fun x98 H99 =>
 (Ar 0 x98).bind fun x100 =>
 (Ar 1 x98).bind fun x101 =>
 Cg (Sh.f14 x100 H99) fun x102 H103 =>
 (Ae x74).bind fun x104 =>
 (Ac 0 x104).bind fun x105 =>
 (Ae x74).bind fun x106 =>
 (Ac 0 x106).bind fun x107 =>
 (Ac 1 x107).bind fun x108 =>
 bC (Ad false 1 x108 H103) (fun x109 => Ad false 1 x108 H99 = some x109 ∧ True) fun x109 =>
 (Af .none .sub x109 x78).bind fun x110 =>
 (Br x102 (some x110) none).bind fun x111 =>
 (Af .none .add x111 x76).bind fun x112 =>
 bK H0 (Sh.f1 x105 x112 H103) fun x113 H114 =>
 j5 [x74, x75, x77] H114) (
 j5 [x74, x75, x77] H96)) (fun vs H => Sh.f32 H0 (ag vs 0) (ag vs 1) (ag vs 2) H)
noncomputable def Sh.f4b (H0 : Ab) (rec1 : LK) (x8 x9 x10 x11 x12 : Aa) (H13 : Ab) : Out :=
 (Ae x8).bind fun x14 =>
 (Ac 0 x14).bind fun x15 =>
 bK H0 (Sh.f0 x15 (.str [48, 49, 50, 51, 52, 53, 54, 55, 56, 57]) H13) fun x16 H17 =>
 Am x16 (
 AS (fun j2 =>
 AS (fun j3 =>
 (Ae x8).bind fun x62 =>
 (Ac 0 x62).bind fun x63 =>
 (Ac 1 x63).bind fun x64 =>
 (Ad false 1 x64 H17).bind fun x65 =>
 (Af .none .gtr x65 x12).bind fun x66 =>
 gk x66 true (some x11) fun x67 =>
 gk x66 true (Af .none .eql x67 (.int .i64 0)) fun x68 =>
 (A7 x66 x68 (.bool false)).bind fun x69 =>
 Am x69 (
 (Ae x8).bind fun x70 =>
 (Ac 0 x70).bind fun x71 =>
 bK H0 (Sh.f1 x71 (.str []) H17) fun x72 H73 =>
 j3 [x8, x9, x10, x11, x12] H73) (
 j3 [x8, x9, x10, x11, x12] H17)) (fun vs H => Sh.f4a H0 j2 (ag vs 0) (ag vs 1) (ag vs 2) (ag vs 3) (ag vs 4) H)) (fun vs H => Sh.f49 H0 rec1 (ag vs 0) (ag vs 1) (ag vs 2) (ag vs 3) (ag vs 4) H)) (
 AS (fun j4 =>
 (Ae x8).bind fun x115 =>
 (Ac 0 x115).bind fun x116 =>
 (Ac 1 x116).bind fun x117 =>
 (Ad false 1 x117 H17).bind fun x118 =>
 (Af .none .eql x118 x12).bind fun x119 =>
 Am x119 (
 (Ae x8).bind fun x120 =>
 (Ac 0 x120).bind fun x121 =>
 (Af .none .add (.str [48]) x10).bind fun x122 =>
 bK H0 (Sh.f1 x121 x122 H17) fun x123 H124 =>
 j4 [x8, x9, x10, x11, x12] H124) (
 j4 [x8, x9, x10, x11, x12] H17)) (fun vs H => Sh.f4w H0 (ag vs 0) (ag vs 1) (ag vs 2) (ag vs 3) (ag vs 4) H))
noncomputable def Sh.f1n (x1 x2 x3 : Aa) (H0 : Ab) : Out :=
 (Ae x1).bind fun x4 =>
 (Ac 0 x4).bind fun x5 =>
 (Ac 1 x5).bind fun x6 =>
 bC (Ad false 1 x6 H0) (fun _ => True) fun x7 =>
 Ap (fun rec1 vs H => Sh.f4b H0 rec1 (ag vs 0) (ag vs 1) (ag vs 2) (ag vs 3) (ag vs 4) H) AM [x1, x2, x3, (.int .i64 0), x7] H0
noncomputable def Sh.f33 (H0 : Ab) (rec1 : LK) (r_9 n_10 rest_11 x12 : Aa) (H13 : Ab) : Out :=
 (Af .none .lss x12 (.int .i64 4)).bind fun x14 =>
 Am x14 (
 (Ae r_9).bind fun x15 =>
 (Ac 0 x15).bind fun x16 =>
 (Af .none .add (.str [48]) rest_11).bind fun x17 =>
 bK H0 (Sh.f3 x16 (.str [32]) x17 H13) fun x18 H19 =>
 (Ac 0 n_10).bind fun x20 =>
 (Ad false 1 x20 H19).bind fun x21 =>
 bK H0 (Sh.f1n r_9 x21 rest_11 H19) fun x22 H23 =>
 (Ac 1 n_10).bind fun x24 =>
 (Bk 4 1 x24 x12).bind fun x25 =>
 bK H0 (AN (Al 1 x25 x22 H23)) fun _ H27 =>
 (B6 rest_11).bind fun x28 =>
 (Gw Mt (.int .i64 2) [x28]).bind fun x29 =>
 (Br rest_11 (some x29) none).bind fun x30 =>
 (Af .none .add x12 (.int .i64 1)).bind fun x31 =>
 rec1 [r_9, n_10, x30, x31] H27) (
 bC (Ad true 5 n_10 H13) (fun _ => True) fun x32 =>
 Cg (Sh.fh r_9 x32 H13) fun x33 H34 =>
 (Ae r_9).bind fun x35 =>
 (Ac 6 x35).bind fun x36 =>
 bC (Ad false 1 x36 H34) (fun x37 => Ad false 1 x36 H13 = some x37 ∧ True) fun x37 =>
 (Ac 0 n_10).bind fun x38 =>
 bC (Ad false 1 x38 H34) (fun x39 => Ad false 1 x38 H13 = some x39 ∧ True) fun x39 =>
 (A6 (some [(.int .i64 0), (.int .i64 0)]) [(0, 1, x33), (1, 1, x39)]).bind fun x40 =>
 (AH 2 [x40]).bind fun x41 =>
 Cg (BF (AI CQ 2 16 x37 x41 H34)) fun x42 H43 =>
 (Ae r_9).bind fun x44 =>
 (Ac 6 x44).bind fun x45 =>
 bK H0 (AN (Al 1 x45 x42 H43)) fun _ H47 =>
 rK H0 (.tup []) H47)
noncomputable def Sh.f1o (r_1 : Aa) (H0 : Ab) : Out :=
 bK H0 (Sh.f1m r_1 H0) fun x2 H3 =>
 (A6 (some [(.int .i64 0), (.int .i64 0), (.int .i64 0), (.int .i64 0), (.int .i64 0)]) [(0, 1, x2)]).bind fun x4 =>
 A2 (AF (some [(.int .i64 0), (.int .i64 0), (.int .i64 0), (.int .i64 0), (.int .i64 0)]) H3) fun n_5 H6 =>
 bK H0 (AN (Al 5 n_5 x4 H6)) fun _ H8 =>
 Ap (fun rec1 vs H => Sh.f33 H0 rec1 (ag vs 0) (ag vs 1) (ag vs 2) (ag vs 3) H) AM [r_1, n_5, (.str [32, 48, 32, 48, 32, 48]), (.int .i64 0)] H8
noncomputable def Sh.f34 (H0 : Ab) (r_2 : Aa) (H3 : Ab) : Out :=
 (Ae r_2).bind fun x4 =>
 (Ac 0 x4).bind fun x5 =>
 bK H0 (Sh.fg x5 (.str []) H3) fun x6 H7 =>
 rK H0 (.tup []) H7
noncomputable def Sh.f1p (r_1 : Aa) (H0 : Ab) : Out :=
 AS (fun j1 =>
 (Ae r_1).bind fun x8 =>
 (Ac 0 x8).bind fun x9 =>
 bK H0 (Sh.f0 x9 (.str [35]) H0) fun x10 H11 =>
 Am x10 (
 bK H0 (Sh.f1j r_1 H11) fun x12 H13 =>
 j1 [r_1] H13) (
 (Ae r_1).bind fun x14 =>
 (Ac 0 x14).bind fun x15 =>
 Cg (Sh.f0 x15 (.str [46, 42, 36, 49, 50, 51, 52, 53, 54, 55, 56, 57]) H11) fun x16 H17 =>
 gk x16 true (some r_1) fun x18 =>
 gk x16 true (Ae x18) fun x19 =>
 gk x16 true (Ac 6 x19) fun x20 =>
 gkc x16 true (Ad false 1 x20 H17) (fun _ _ => True) fun x21 =>
 gk x16 true (AG x21) fun x22 =>
 gk x16 true (some r_1) fun x23 =>
 gk x16 true (Ae x23) fun x24 =>
 gk x16 true (Ac 2 x24) fun x25 =>
 gk x16 true (Ac 1 x25) fun x26 =>
 gkc x16 true (Ad false 1 x26 H17) (fun _ _ => True) fun x27 =>
 gk x16 true (Af .none .geq x22 x27) fun x28 =>
 (A7 x16 x28 (.bool false)).bind fun x29 =>
 Am x29 (
 (Ae r_1).bind fun x30 =>
 (Ac 0 x30).bind fun x31 =>
 bK H0 (Sh.f6 x31 H17) fun x32 H33 =>
 j1 [r_1] H33) (
 (Ae r_1).bind fun x34 =>
 (Ac 0 x34).bind fun x35 =>
 bK H0 (Sh.f0 x35 (.str [46, 42, 36]) H17) fun x36 H37 =>
 Am x36 (
 bK H0 (Sh.f1l r_1 H37) fun x38 H39 =>
 j1 [r_1] H39) (
 bK H0 (Sh.f1o r_1 H37) fun x40 H41 =>
 j1 [r_1] H41)))) (fun vs H => Sh.f34 H0 (ag vs 0) H)
noncomputable def Sh.f35 (H0 : Ab) (rec1 : LK) (r_14 : Aa) (H15 : Ab) : Out :=
 (Ae r_14).bind fun x16 =>
 (Ac 0 x16).bind fun x17 =>
 bK H0 (Sh.f2 x17 H15) fun x18 H19 =>
 (unA .not x18).bind fun x20 =>
 Am x20 (
 bK H0 (Sh.f1p r_14 H19) fun x21 H22 =>
 rec1 [r_14] H22) (
 rK H0 (.tup []) H19)
noncomputable def Sh.fy (r_1 : Aa) (H0 : Ab) : Out :=
 (Ae r_1).bind fun x2 =>
 (Ac 0 x2).bind fun x3 =>
 bK H0 (Sh.f3 x3 (.str [91, 77, 50, 93]) (.str []) H0) fun x4 H5 =>
 (Ae r_1).bind fun x6 =>
 (Ac 0 x6).bind fun x7 =>
 bK H0 (Sh.fo x7 H5) fun x8 H9 =>
 (Ae r_1).bind fun x10 =>
 (Ac 0 x10).bind fun x11 =>
 bK H0 (Sh.fg x11 (.str []) H9) fun x12 H13 =>
 Ap (fun rec1 vs H => Sh.f35 H0 rec1 (ag vs 0) H) AM [r_1] H13
noncomputable def Sh.fz : Aa → Ab → Out := OT (ent 21 (ap1 Sh.fy) noO)
noncomputable def Sh.f1q (l_1 i_2 c_3 : Aa) (H0 : Ab) : Out :=
 (A5 5 l_1 i_2).bind fun x4 =>
 (Ad true 5 x4 H0).bind fun x5 =>
 A2 (AF (some [(.int .i64 0), (.int .i64 0), (.int .i64 0), (.int .i64 0), (.int .i64 0)]) H0) fun n_6 H7 =>
 bP H0 (AN (Al 5 n_6 x5 H7)) fun _ H9 =>
 (Af .none .eql c_3 (.int .i64 0)).bind fun x10 =>
 Am x10 (
 rP H0 (.bool true) H9) (
 (Ac 0 n_6).bind fun x11 =>
 (Ad false 1 x11 H9).bind fun x12 =>
 (Af .none .eql x12 (.int .i64 1)).bind fun x13 =>
 Am x13 (
 (Af .none .gtr c_3 (.int .i64 0)).bind fun x14 =>
 gk x14 true (some c_3) fun x15 =>
 gk x14 true (Af .none .leq x15 (.int .i64 255)) fun x16 =>
 (A7 x14 x16 (.bool false)).bind fun x17 =>
 rP H0 x17 H9) (
 (Af .none .gtr c_3 (.int .i64 0)).bind fun x18 =>
 gk x18 true (some c_3) fun x19 =>
 gk x18 true (some i_2) fun x20 =>
 gk x18 true (Af .none .leq x19 x20) fun x21 =>
 (A7 x18 x21 (.bool false)).bind fun x22 =>
 gk x22 true (some l_1) fun x23 =>
 gk x22 true (some c_3) fun x24 =>
 gk x22 true (Af .none .sub x24 (.int .i64 1)) fun x25 =>
 gk x22 true (A5 5 x23 x25) fun x26 =>
 gk x22 true (Ac 0 x26) fun x27 =>
 gkc x22 true (Ad false 1 x27 H9) (fun _ _ => True) fun x28 =>
 gk x22 true (Ac 0 n_6) fun x29 =>
 gkc x22 true (Ad false 1 x29 H9) (fun _ _ => True) fun x30 =>
 gk x22 true (Af .none .sub x30 (.int .i64 1)) fun x31 =>
 gk x22 true (Af .none .eql x28 x31) fun x32 =>
 (A7 x22 x32 (.bool false)).bind fun x33 =>
 rP H0 x33 H9))
noncomputable def Sh.f36 (H0 : Ab) (rec1 : LK) (rec2 : LK) (l_24 i_25 x26 x27 x28 x29 x30 : Aa) (H31 : Ab) : Out :=
 (Af .none .lss x30 (.int .i64 4)).bind fun x32 =>
 Am x32 (
 (Ko false 4 1 x29 x30).bind fun x33 =>
 bP H0 (Sh.f1q l_24 i_25 x33 H31) fun x34 H35 =>
 (unA .not x34).bind fun x36 =>
 Am x36 (
 rP H0 (.bool false) H35) (
 (Af .none .add x30 (.int .i64 1)).bind fun x37 =>
 rec2 [l_24, i_25, x26, x27, x28, x29, x37] H35)) (
 (Af .none .add x28 (.int .i64 1)).bind fun x38 =>
 rec1 [l_24, x26, x27, x38] H31)
noncomputable def Sh.f10 (H0 : Ab) (rec1 : LK) (l_3 x4 x5 x6 : Aa) (H7 : Ab) : Out :=
 (Af .none .lss x6 x5).bind fun x8 =>
 Am x8 (
 (A5 5 x4 x6).bind fun x9 =>
 (Ad true 5 x9 H7).bind fun x10 =>
 A2 (AF (some [(.int .i64 0), (.int .i64 0), (.int .i64 0), (.int .i64 0), (.int .i64 0)]) H7) fun n_11 H12 =>
 bP H0 (AN (Al 5 n_11 x10 H12)) fun _ H14 =>
 (Ac 0 n_11).bind fun x15 =>
 (Ad false 1 x15 H14).bind fun x16 =>
 (Af .none .lss x16 (.int .i64 1)).bind fun x17 =>
 gk x17 false (Ac 0 n_11) fun x18 =>
 gk x17 false (Ad false 1 x18 H14) fun x19 =>
 gk x17 false (Af .none .gtr x19 (.int .i64 1329)) fun x20 =>
 (A7 x17 (.bool true) x20).bind fun x21 =>
 Am x21 (
 rP H0 (.bool false) H14) (
 (Ac 1 n_11).bind fun x22 =>
 (Ad true 4 x22 H14).bind fun x23 =>
 Ap (fun rec2 vs H => Sh.f36 H0 rec1 rec2 (ag vs 0) (ag vs 1) (ag vs 2) (ag vs 3) (ag vs 4) (ag vs 5) (ag vs 6) H) AM [l_3, x6, x4, x5, x6, x23, (.int .i64 0)] H14)) (
 rP H0 (.bool true) H7)
noncomputable def Sh.f1r (l_1 : Aa) (H0 : Ab) : Out :=
 (AG l_1).bind fun x2 =>
 Ap (fun rec1 vs H => Sh.f10 H0 rec1 (ag vs 0) (ag vs 1) (ag vs 2) (ag vs 3) H) AM [l_1, l_1, x2, (.int .i64 0)] H0
noncomputable def Sh.f1s (s_1 : Aa) (H0 : Ab) : Out :=
 (nilA .eql s_1).bind fun x2 =>
 Am x2 (
 rK H0 (.sl [] .tight) H0) (
 (AH 5 []).bind fun x3 =>
 bK H0 (BF (AI As 5 40 x3 s_1 H0)) fun x4 H5 =>
 rK H0 x4 H5)
noncomputable def Sh.f2j (c_1 x2 x3 : Aa) (H0 : Ab) : Out :=
 (Af .none .neq c_1 (.int .i64 0)).bind fun x4 =>
 gk x4 true (Ac 0 x2) fun x5 =>
 gk x4 true (Ad false 1 x5 H0) fun x6 =>
 gk x4 true (Af .none .eql x6 (.int .i64 1)) fun x7 =>
 gk x4 true (some x7) fun x8 =>
 gk x8 false (Ad false 1 x3 H0) fun x9 =>
 gk x8 false (some c_1) fun x10 =>
 gk x8 false (A5 1 x9 x10) fun x11 =>
 gk x8 false (Ad false 1 x11 H0) fun x12 =>
 gk x4 true (A7 x8 (.bool true) x12) fun x13 =>
 (A7 x4 x13 (.bool false)).bind fun x14 =>
 rK H0 x14 H0
noncomputable def B8 : Orc := (ent 110 (ap3 Sh.f2j) noO)
noncomputable def Sh.f37 (H0 : Ab) (rec1 : LK) (s_4 f_5 x6 x7 : Aa) (H8 : Ab) : Out :=
 (Af .none .lss x7 x6).bind fun x9 =>
 Am x9 (
 (A5 1 s_4 x7).bind fun x10 =>
 (Ad false 1 x10 H8).bind fun x11 =>
 bK H0 (RO B8 f_5 [x11] H8) fun x12 H13 =>
 Am x12 (
 rK H0 x7 H13) (
 (Af .none .add x7 (.int .i64 1)).bind fun x14 =>
 rec1 [s_4, f_5, x6, x14] H13)) (
 rK H0 (.int .i64 (-1)) H8)
noncomputable def Sh.f2k (s_1 f_2 : Aa) (H0 : Ab) : Out :=
 (AG s_1).bind fun x3 =>
 Ap (fun rec1 vs H => Sh.f37 H0 rec1 (ag vs 0) (ag vs 1) (ag vs 2) (ag vs 3) H) AM [s_1, f_2, x3, (.int .i64 0)] H0
noncomputable def Sh.f1t (s_1 f_2 : Aa) (H0 : Ab) : Out :=
 bK H0 (Sh.f2k s_1 f_2 H0) fun x3 H4 =>
 (Af .none .geq x3 (.int .i64 0)).bind fun x5 =>
 rK H0 x5 H4
noncomputable def Sh.f4c (H0 : Ab) (rec1 : LK) (out_11 x12 x13 x14 : Aa) (H15 : Ab) : Out :=
 (Af .none .lss x14 x13).bind fun x16 =>
 Am x16 (
 (A5 5 x12 x14).bind fun x17 =>
 (Ad true 5 x17 H15).bind fun x18 =>
 A2 (AF (some [(.int .i64 0), (.int .i64 0), (.int .i64 0), (.int .i64 0), (.int .i64 0)]) H15) fun n_19 H20 =>
 bP H0 (AN (Al 5 n_19 x18 H20)) fun _ H22 =>
 (Ac 1 n_19).bind fun x23 =>
 (GG 4 1 x23 none none).bind fun x24 =>
 Cg (Sh.f1t x24 (.fn 110 [n_19, out_11]) H22) fun x25 H26 =>
 bC (Ad false 1 out_11 H26) (fun x27 => Ad false 1 out_11 H22 = some x27 ∧ True) fun x27 =>
 (Af .none .add x14 (.int .i64 1)).bind fun x28 =>
 (A5 1 x27 x28).bind fun x29 =>
 bP H0 (AN (Al 1 x29 x25 H26)) fun _ H31 =>
 (Af .none .add x14 (.int .i64 1)).bind fun x32 =>
 rec1 [out_11, x12, x13, x32] H31) (
 (Ad false 1 out_11 H15).bind fun x33 =>
 rPN H0 x33 H15)
noncomputable def Sh.fp (l_1 : Aa) (H0 : Ab) : Out :=
 (AG l_1).bind fun x2 =>
 (Af .none .add x2 (.int .i64 1)).bind fun x3 =>
 A2 (Fd 1 1 (some [(.bool false)]) x3 x3 H0) fun x4 H5 =>
 A2 (AF (some [(.sl [] .tight)]) H5) fun out_6 H7 =>
 bP H0 (AN (Al 1 out_6 x4 H7)) fun _ H9 =>
 (AG l_1).bind fun x10 =>
 Ap (fun rec1 vs H => Sh.f4c H0 rec1 (ag vs 0) (ag vs 1) (ag vs 2) (ag vs 3) H) AM [out_6, l_1, x10, (.int .i64 0)] H9
noncomputable def Sh.f1u (l_1 n_2 : Aa) (H0 : Ab) : Out :=
 bK H0 (Sh.fp l_1 H0) fun x3 H4 =>
 (A5 1 x3 n_2).bind fun x5 =>
 (Ad false 1 x5 H4).bind fun x6 =>
 (unA .not x6).bind fun x7 =>
 rK H0 x7 H4
noncomputable def Sh.f38 (H0 : Ab) (rec1 : LK) (rec2 : LK) (x31 x32 x33 x34 x35 x36 x37 x38 : Aa) (H39 : Ab) : Out :=
 (Af .none .lss x38 (.int .i64 4)).bind fun x40 =>
 Am x40 (
 (Ko false 4 1 x37 x38).bind fun x41 =>
 (Af .none .sub (.int .i64 3) x33).bind fun x42 =>
 (Af .none .neq x38 x42).bind fun x43 =>
 gk x43 true (some x41) fun x44 =>
 gk x43 true (Af .none .neq x44 (.int .i64 0)) fun x45 =>
 (A7 x43 x45 (.bool false)).bind fun x46 =>
 gk x46 true (some x31) fun x47 =>
 gk x46 true (some x34) fun x48 =>
 gk x46 true (Af .none .sub x48 (.int .i64 1)) fun x49 =>
 gk x46 true (A5 5 x47 x49) fun x50 =>
 gk x46 true (Ac 0 x50) fun x51 =>
 gk x46 true (Ad false 1 x51 H39) fun x52 =>
 gk x46 true (Af .none .eql x52 (.int .i64 1)) fun x53 =>
 gk x46 true (some x53) fun x54 =>
 gk x54 false (some x32) fun x55 =>
 gk x54 false (some x41) fun x56 =>
 gk x54 false (A5 1 x55 x56) fun x57 =>
 gk x54 false (Ad false 1 x57 H39) fun x58 =>
 gk x46 true (A7 x54 (.bool true) x58) fun x59 =>
 (A7 x46 x59 (.bool false)).bind fun x60 =>
 Am x60 (
 rK H0 (.bool false) H39) (
 (Af .none .add x38 (.int .i64 1)).bind fun x61 =>
 rec2 [x31, x32, x33, x34, x35, x36, x37, x61] H39)) (
 (Af .none .add x36 (.int .i64 1)).bind fun x62 =>
 rec1 [x31, x32, x35, x62] H39)
noncomputable def Sh.f39 (H0 : Ab) (rec1 : LK) (x18 x19 x20 x21 : Aa) (H22 : Ab) : Out :=
 (Af .none .lss x21 (.int .i64 4)).bind fun x23 =>
 Am x23 (
 (Ko false 4 1 x20 x21).bind fun x24 =>
 (Af .none .eql x24 (.int .i64 0)).bind fun x25 =>
 Am x25 (
 (Af .none .add x21 (.int .i64 1)).bind fun x26 =>
 rec1 [x18, x19, x20, x26] H22) (
 (Af .none .sub x24 (.int .i64 1)).bind fun x27 =>
 (A5 5 x18 x27).bind fun x28 =>
 (Ac 1 x28).bind fun x29 =>
 (Ad true 4 x29 H22).bind fun x30 =>
 Ap (fun rec2 vs H => Sh.f38 H0 rec1 rec2 (ag vs 0) (ag vs 1) (ag vs 2) (ag vs 3) (ag vs 4) (ag vs 5) (ag vs 6) (ag vs 7) H) AM [x18, x19, x21, x24, x20, x21, x30, (.int .i64 0)] H22)) (
 rK H0 (.bool true) H22)
noncomputable def Sh.f1v (x1 x2 : Aa) (H0 : Ab) : Out :=
 (Af .none .eql x2 (.int .i64 0)).bind fun x3 =>
 gk x3 false (some x1) fun x4 =>
 gk x3 false (some x2) fun x5 =>
 gk x3 false (Af .none .sub x5 (.int .i64 1)) fun x6 =>
 gk x3 false (A5 5 x4 x6) fun x7 =>
 gk x3 false (Ac 0 x7) fun x8 =>
 gk x3 false (Ad false 1 x8 H0) fun x9 =>
 gk x3 false (Af .none .eql x9 (.int .i64 1)) fun x10 =>
 (A7 x3 (.bool true) x10).bind fun x11 =>
 Am x11 (
 rK H0 (.bool false) H0) (
 bK H0 (Sh.fp x1 H0) fun x12 H13 =>
 (Af .none .sub x2 (.int .i64 1)).bind fun x14 =>
 (A5 5 x1 x14).bind fun x15 =>
 (Ac 1 x15).bind fun x16 =>
 (Ad true 4 x16 H13).bind fun x17 =>
 Ap (fun rec1 vs H => Sh.f39 H0 rec1 (ag vs 0) (ag vs 1) (ag vs 2) (ag vs 3) H) AM [x1, x12, x17, (.int .i64 0)] H13)
noncomputable def Sh.f1w (l_1 n_2 k_3 : Aa) (H0 : Ab) : Out :=
 (Af .none .sub n_2 (.int .i64 1)).bind fun x4 =>
 (A5 5 l_1 x4).bind fun x5 =>
 (Ac 1 x5).bind fun x6 =>
 (Bk 4 1 x6 k_3).bind fun x7 =>
 (Ad false 1 x7 H0).bind fun x8 =>
 (Af .none .gtr x8 (.int .i64 0)).bind fun x9 =>
 Am x9 (
 (Af .none .sub x8 (.int .i64 1)).bind fun x10 =>
 (Af .none .sub (.int .i64 3) k_3).bind fun x11 =>
 (A5 5 l_1 x10).bind fun x12 =>
 (Ac 1 x12).bind fun x13 =>
 (Bk 4 1 x13 x11).bind fun x14 =>
 (Ad false 1 x14 H0).bind fun x15 =>
 rK H0 x15 H0) (
 rK H0 (.int .i64 0) H0)
noncomputable def Sh.f3a (H0 : Ab) (rec1 : LK) (rec2 : LK) (l_22 n_23 x24 x25 : Aa) (H26 : Ab) : Out :=
 (Af .none .lss x25 (.int .i64 4)).bind fun x27 =>
 Am x27 (
 bP H0 (Sh.f1w l_22 n_23 x25 H26) fun x28 H29 =>
 (Ac 1 x24).bind fun x30 =>
 (Bk 4 1 x30 x25).bind fun x31 =>
 bP H0 (AN (Al 1 x31 x28 H29)) fun _ H33 =>
 (Af .none .add x25 (.int .i64 1)).bind fun x34 =>
 rec2 [l_22, n_23, x24, x34] H33) (
 (Ad true 5 x24 H26).bind fun x35 =>
 (AH 5 [x35]).bind fun x36 =>
 bP H0 (BF (AI As 5 40 l_22 x36 H26)) fun x37 H38 =>
 (AG x37).bind fun x39 =>
 rec1 [x37, x39] H38)
noncomputable def Sh.f4d (H0 : Ab) (rec1 : LK) (l_7 n_8 : Aa) (H9 : Ab) : Out :=
 bP H0 (Sh.f1v l_7 n_8 H9) fun x10 H11 =>
 Am x10 (
 (Af .none .sub n_8 (.int .i64 1)).bind fun x12 =>
 (A5 5 l_7 x12).bind fun x13 =>
 (Ac 0 x13).bind fun x14 =>
 (Ad false 1 x14 H11).bind fun x15 =>
 (Af .none .sub x15 (.int .i64 1)).bind fun x16 =>
 (A6 (some [(.int .i64 0), (.int .i64 0), (.int .i64 0), (.int .i64 0), (.int .i64 0)]) [(0, 1, x16)]).bind fun x17 =>
 A2 (AF (some [(.int .i64 0), (.int .i64 0), (.int .i64 0), (.int .i64 0), (.int .i64 0)]) H11) fun x18 H19 =>
 bP H0 (AN (Al 5 x18 x17 H19)) fun _ H21 =>
 Ap (fun rec2 vs H => Sh.f3a H0 rec1 rec2 (ag vs 0) (ag vs 1) (ag vs 2) (ag vs 3) H) AM [l_7, n_8, x18, (.int .i64 0)] H21) (
 rPN H0 (.tup [l_7, n_8]) H11)
noncomputable def Sh.f1x (l_1 n_2 : Aa) (H0 : Ab) : Out :=
 bP H0 (Sh.f1s l_1 H0) fun x3 H4 =>
 bP H0 (Sh.f1u x3 n_2 H4) fun x5 H6 =>
 Am x5 (
 rPN H0 (.tup [x3, (.int .i64 0)]) H6) (
 Ap (fun rec1 vs H => Sh.f4d H0 rec1 (ag vs 0) (ag vs 1) H) AM [x3, n_2] H6)
noncomputable def Sh.f1y (a_1 x2 : Aa) (H0 : Ab) : Out :=
 A2 (Ek true 5 x2 H0) fun x3 H4 =>
 (Ac 1 x3).bind fun x5 =>
 (Ad true 4 x5 H4).bind fun x6 =>
 (A6 (some [(.int .i64 0), (.int .i64 0), (.int .i64 0), (.int .i64 0)]) []).bind fun x7 =>
 (Af (.flat 4) .eql x6 x7).bind fun x8 =>
 Am x8 (
 rK H0 (.int .i64 0) H4) (
 (Ae a_1).bind fun x9 =>
 (Ac 1 x9).bind fun x10 =>
 bC (Ad false 1 x10 H4) (fun _ => True) fun x11 =>
 bC (Ad true 5 x3 H4) (fun _ => True) fun x12 =>
 bC (Dz true 5 (some (.int .i64 0)) true x11 x12 H4) (fun _ => True) fun x13 =>
 (Ar 0 x13).bind fun x14 =>
 (Ar 1 x13).bind fun x15 =>
 Am x15 (
 rK H0 x14 H4) (
 (Ae a_1).bind fun x16 =>
 (Ac 0 x16).bind fun x17 =>
 bC (Ad false 1 x17 H4) (fun _ => True) fun x18 =>
 bC (Ad true 5 x3 H4) (fun _ => True) fun x19 =>
 (AH 5 [x19]).bind fun x20 =>
 Cg (BF (AI As 5 40 x18 x20 H4)) fun x21 H22 =>
 (Ae a_1).bind fun x23 =>
 (Ac 0 x23).bind fun x24 =>
 bK H0 (AN (Al 1 x24 x21 H22)) fun _ H26 =>
 (Ae a_1).bind fun x27 =>
 (Ac 1 x27).bind fun x28 =>
 bC (Ad false 1 x28 H26) (fun _ => True) fun x29 =>
 bC (Ad true 5 x3 H26) (fun _ => True) fun x30 =>
 (Ae a_1).bind fun x31 =>
 (Ac 0 x31).bind fun x32 =>
 bC (Ad false 1 x32 H26) (fun _ => True) fun x33 =>
 (AG x33).bind fun x34 =>
 bK H0 (AN (C5 true 5 x29 x30 x34 H26)) fun _ H36 =>
 (Ae a_1).bind fun x37 =>
 (Ac 0 x37).bind fun x38 =>
 (Ad false 1 x38 H36).bind fun x39 =>
 (AG x39).bind fun x40 =>
 rK H0 x40 H36))
noncomputable def Fr (self : Aa → Aa → Aa → Aa → Aa → Ab → Out) : Orc := ent 50 (ap5 self) (ent 51 (ap2 Sh.f1y) noO)
noncomputable def Sh.f3b (H0 : Ab) (n_18 x19 x20 x21 : Aa) (H22 : Ab) : Out :=
 (Ad false 1 x20 H22).bind fun x23 =>
 (Ad true 5 x21 H22).bind fun x24 =>
 bK H0 (Sh.f1y x23 x24 H22) fun x25 H26 =>
 (Ad false 1 x19 H26).bind fun x27 =>
 bK H0 (AN (C5 false 1 x27 n_18 x25 H26)) fun _ H29 =>
 rK H0 x25 H29
noncomputable def Sh.f3c (H0 : Ab) (self : Aa → Aa → Aa → Aa → Aa → Ab → Out) (j1 : LK) (rec2 : LK) (n_35 x36 x37 x38 x39 x40 x41 : Aa) (H42 : Ab) : Out :=
 (Af .none .lss x41 (.int .i64 4)).bind fun x43 =>
 Am x43 (
 (Ko false 4 1 x40 x41).bind fun x44 =>
 (Ad false 1 x37 H42).bind fun x45 =>
 bK H0 (RO (Fr self) x45 [x44] H42) fun x46 H47 =>
 (Ac 1 x39).bind fun x48 =>
 (Bk 4 1 x48 x41).bind fun x49 =>
 bK H0 (AN (Al 1 x49 x46 H47)) fun _ H51 =>
 (Af .none .add x41 (.int .i64 1)).bind fun x52 =>
 rec2 [n_35, x36, x37, x38, x39, x40, x52] H51) (
 j1 [n_35, x36, x38, x39] H42)
noncomputable def Sh.f2l (self : Aa → Aa → Aa → Aa → Aa → Ab → Out) (n_1 x2 x3 x4 x5 : Aa) (H0 : Ab) : Out :=
 (Ad false 1 x2 H0).bind fun x6 =>
 (Dz false 1 (some (.int .i64 0)) true x6 n_1 H0).bind fun x7 =>
 (Ar 0 x7).bind fun x8 =>
 (Ar 1 x7).bind fun x9 =>
 Am x9 (
 rK H0 x8 H0) (
 (Ad false 1 x3 H0).bind fun x10 =>
 (Af .none .sub n_1 (.int .i64 1)).bind fun x11 =>
 (A5 5 x10 x11).bind fun x12 =>
 (Ad true 5 x12 H0).bind fun x13 =>
 A2 (AF (some [(.int .i64 0), (.int .i64 0), (.int .i64 0), (.int .i64 0), (.int .i64 0)]) H0) fun x14 H15 =>
 bK H0 (AN (Al 5 x14 x13 H15)) fun _ H17 =>
 AS (fun j1 =>
 (Ac 0 x14).bind fun x30 =>
 (Ad false 1 x30 H17).bind fun x31 =>
 (Af .none .gtr x31 (.int .i64 1)).bind fun x32 =>
 Am x32 (
 (Ac 1 x14).bind fun x33 =>
 (Ad true 4 x33 H17).bind fun x34 =>
 Ap (fun rec2 vs H => Sh.f3c H0 self j1 rec2 (ag vs 0) (ag vs 1) (ag vs 2) (ag vs 3) (ag vs 4) (ag vs 5) (ag vs 6) H) AM [n_1, x2, x4, x5, x14, x34, (.int .i64 0)] H17) (
 j1 [n_1, x2, x5, x14] H17)) (fun vs H => Sh.f3b H0 (ag vs 0) (ag vs 1) (ag vs 2) (ag vs 3) H))
noncomputable def Sh.f4 : Nat → Aa → Aa → Aa → Aa → Aa → Ab → Out
 | 0 => fun _ _ _ _ _ _ => none
 | d + 1 => Sh.f2l (Sh.f4 d)
noncomputable def G5 : Orc := (ent 48 (ap1 Sh.f1r) (ent 49 (ap2 Sh.f1x) (ent 50 (ap5 (Sh.f4 AM)) noO)))
noncomputable def Sh.f1z (l_1 n_2 : Aa) (H0 : Ab) : Out :=
 A2 (Ek true 1 l_1 H0) fun l_3 H4 =>
 A2 (AF (some [(.sl [] .tight)]) H4) fun x5 H6 =>
 (Ad false 1 l_3 H6).bind fun x7 =>
 bP H0 (Sh.f1r x7 H6) fun x8 H9 =>
 (unA .not x8).bind fun x10 =>
 gk x10 false (some n_2) fun x11 =>
 gk x10 false (Af .none .lss x11 (.int .i64 0)) fun x12 =>
 (A7 x10 (.bool true) x12).bind fun x13 =>
 gk x13 false (some n_2) fun x14 =>
 gk x13 false (Ad false 1 l_3 H9) fun x15 =>
 gk x13 false (AG x15) fun x16 =>
 gk x13 false (Af .none .gtr x14 x16) fun x17 =>
 (A7 x13 (.bool true) x17).bind fun x18 =>
 Am x18 (
 (A6 (some [(.sl [] .tight)]) []).bind fun x19 =>
 bP H0 (AN (Al 1 x5 x19 H9)) fun _ H21 =>
 (La [Ad true 1 x5 H21, some (.int .i64 1)]).bind fun x22 => rPN H0 x22 H21) (
 (Ad false 1 l_3 H9).bind fun x23 =>
 bP H0 (Sh.f1x x23 n_2 H9) fun x24 H25 =>
 (Ar 0 x24).bind fun x26 =>
 (Ar 1 x24).bind fun x27 =>
 bP H0 (AN (Al 1 l_3 x26 H25)) fun _ H29 =>
 A2 (CM H29) fun x30 H31 =>
 (A6 (some [(.sl [] .tight), .nilmap]) [(1, 1, x30)]).bind fun x32 =>
 A2 (Ek true 2 x32 H31) fun x33 H34 =>
 A2 (AF (some [.nilp]) H34) fun a_35 H36 =>
 bP H0 (AN (Al 1 a_35 x33 H36)) fun _ H38 =>
 A2 (CM H38) fun x39 H40 =>
 bP H0 (AN (C5 false 1 x39 (.int .i64 0) (.int .i64 0) H40)) fun _ H42 =>
 A2 (AF (some [.nilmap]) H42) fun done_43 H44 =>
 bP H0 (AN (Al 1 done_43 x39 H44)) fun _ H46 =>
 A2 (AF (some [.nilfn]) H46) fun visit_47 H48 =>
 bP H0 (AN (Al 1 visit_47 (.fn 50 [done_43, l_3, visit_47, a_35]) H48)) fun _ H50 =>
 (Ad false 1 visit_47 H50).bind fun x51 =>
 bP H0 (RO G5 x51 [x27] H50) fun x52 H53 =>
 (Ad false 1 a_35 H53).bind fun x54 =>
 (Ae x54).bind fun x55 =>
 (Ac 0 x55).bind fun x56 =>
 (Ad false 1 x56 H53).bind fun x57 =>
 (A6 (some [(.sl [] .tight)]) [(0, 1, x57)]).bind fun x58 =>
 bP H0 (AN (Al 1 x5 x58 H53)) fun _ H60 =>
 (La [Ad true 1 x5 H60, some (.int .i64 0)]).bind fun x61 => rPN H0 x61 H60)
noncomputable def Sh.f4e (H0 : Ab) (x39 x40 x41 x42 x43 : Aa) (H44 : Ab) : Out :=
 (Ae x42).bind fun x45 =>
 (Ac 5 x45).bind fun x46 =>
 (Ad false 1 x46 H44).bind fun x47 =>
 bP H0 (Sh.f1z x47 x43 H44) fun x48 H49 =>
 (Ar 0 x48).bind fun x50 =>
 (Ar 1 x48).bind fun x51 =>
 A2 (AF (some [(.sl [] .tight)]) H49) fun x52 H53 =>
 bP H0 (AN (Al 1 x52 x50 H53)) fun _ H55 =>
 (Af .none .neq x51 (.int .i64 0)).bind fun x56 =>
 gk x56 false (Ac 0 x52) fun x57 =>
 gk x56 false (Ad false 1 x57 H55) fun x58 =>
 gk x56 false (AG x58) fun x59 =>
 gk x56 false (Ac 1 x40) fun x60 =>
 gk x56 false (Ad false 1 x60 H55) fun x61 =>
 gk x56 false (Af .none .gtr x59 x61) fun x62 =>
 (A7 x56 (.bool true) x62).bind fun x63 =>
 Am x63 (
 (A6 (some [(.str []), (.sl [] .tight)]) []).bind fun x64 =>
 (B6 x39).bind fun x65 =>
 bP H0 (AN (Al 2 x41 x64 H55)) fun _ H67 =>
 (La [Ad true 2 x41 H67, some x65, some (.int .i64 4)]).bind fun x68 => rPN H0 x68 H67) (
 (Ae x42).bind fun x69 =>
 (Ac 4 x69).bind fun x70 =>
 bC (Ad false 1 x70 H55) (fun _ => True) fun x71 =>
 bC (Ad true 1 x52 H55) (fun _ => True) fun x72 =>
 (A6 (some [(.str []), (.sl [] .tight)]) [(0, 1, x71), (1, 1, x72)]).bind fun x73 =>
 Cg (AN (Al 2 x41 x73 H55)) fun _ H75 =>
 (La [Ad true 2 x41 H75, some (.int .i64 0), some (.int .i64 0)]).bind fun x76 => rPN H0 x76 H75)
noncomputable def Sh.fi (x1 x2 : Aa) (H0 : Ab) : Out :=
 A2 (Ek true 2 x2 H0) fun x3 H4 =>
 A2 (AF (some [(.str []), (.sl [] .tight)]) H4) fun x5 H6 =>
 (Ad true 2 x3 H6).bind fun x7 =>
 bP H0 (Sh.f1a x7 H6) fun x8 H9 =>
 (unA .not x8).bind fun x10 =>
 Am x10 (
 (A6 (some [(.str []), (.sl [] .tight)]) []).bind fun x11 =>
 bP H0 (AN (Al 2 x5 x11 H9)) fun _ H13 =>
 (La [Ad true 2 x5 H13, some (.int .i64 0), some (.int .i64 1)]).bind fun x14 => rPN H0 x14 H13) (
 (A6 (some [(.str []), (.int .i64 0)]) [(0, 1, x1)]).bind fun x15 =>
 (Ad true 2 x3 H9).bind fun x16 =>
 (A6 (some [(.str []), (.int .i64 0), (.int .i64 0), (.int .i64 0), (.str []), (.sl [] .tight), (.sl [] .tight)]) [(0, 2, x15), (2, 2, x16), (4, 1, (.str [66, 51, 47, 83, 50, 51]))]).bind fun x17 =>
 A2 (Ek true 7 x17 H9) fun x18 H19 =>
 bP H0 (Sh.fz (.bfn 21 [x18]) H19) fun x20 H21 =>
 A2 (AF (some [(.int .i64 0), (.str [])]) H21) fun x22 H23 =>
 bP H0 (AN (Al 2 x22 x20 H23)) fun _ H25 =>
 (Ac 0 x22).bind fun x26 =>
 (Ad false 1 x26 H25).bind fun x27 =>
 (Af .none .neq x27 (.int .i64 0)).bind fun x28 =>
 Am x28 (
 (A6 (some [(.str []), (.sl [] .tight)]) []).bind fun x29 =>
 Cg (AN (Al 2 x5 x29 H25)) fun _ H31 =>
 (Ae x18).bind fun x32 =>
 (Ac 0 x32).bind fun x33 =>
 (Ac 1 x33).bind fun x34 =>
 bC (Ad false 1 x34 H31) (fun x35 => Ad false 1 x34 H25 = some x35 ∧ True) fun x35 =>
 (Ac 0 x22).bind fun x36 =>
 bC (Ad false 1 x36 H31) (fun x37 => Ad false 1 x36 H25 = some x37 ∧ True) fun x37 =>
 (La [Ad true 2 x5 H31, some x35, some x37]).bind fun x38 => rPN H0 x38 H31) (
 AS (fun j1 =>
 (Ae x18).bind fun x77 =>
 (Ac 6 x77).bind fun x78 =>
 (Ad false 1 x78 H25).bind fun x79 =>
 (AG x79).bind fun x80 =>
 (Af .none .gtr x80 (.int .i64 0)).bind fun x81 =>
 Am x81 (
 (Ae x18).bind fun x82 =>
 (Ac 6 x82).bind fun x83 =>
 bC (Ad false 1 x83 H25) (fun _ => True) fun x84 =>
 (Ae x18).bind fun x85 =>
 (Ac 6 x85).bind fun x86 =>
 bC (Ad false 1 x86 H25) (fun _ => True) fun x87 =>
 (AG x87).bind fun x88 =>
 (Af .none .sub x88 (.int .i64 1)).bind fun x89 =>
 (A5 2 x84 x89).bind fun x90 =>
 (Ac 0 x90).bind fun x91 =>
 bC (Ad false 1 x91 H25) (fun _ => True) fun x92 =>
 j1 [x1, x3, x5, x18, x92] H25) (
 j1 [x1, x3, x5, x18, (.int .i64 0)] H25)) (fun vs H => Sh.f4e H0 (ag vs 0) (ag vs 1) (ag vs 2) (ag vs 3) (ag vs 4) H)))
noncomputable def Sh.f20 (c_1 : Aa) (H0 : Ab) : Out :=
 (Af .none .geq c_1 (.int .u8 33)).bind fun x2 =>
 gk x2 true (some c_1) fun x3 =>
 gk x2 true (Af .none .leq x3 (.int .u8 126)) fun x4 =>
 (A7 x2 x4 (.bool false)).bind fun x5 =>
 rK H0 x5 H0
noncomputable def Sh.f4x (H0 : Ab) (rec1 : LK) (s_2 i_3 : Aa) (H4 : Ab) : Out :=
 (B6 s_2).bind fun x5 =>
 (Af .none .lss i_3 x5).bind fun x6 =>
 Am x6 (
 (Dl s_2 i_3).bind fun x7 =>
 bK H0 (Sh.f20 x7 H4) fun x8 H9 =>
 (unA .not x8).bind fun x10 =>
 Am x10 (
 rK H0 (.bool false) H9) (
 (Af .none .add i_3 (.int .i64 1)).bind fun x11 =>
 rec1 [s_2, x11] H9)) (
 (B6 s_2).bind fun x12 =>
 (Af .none .geq x12 (.int .i64 1)).bind fun x13 =>
 gk x13 true (some s_2) fun x14 =>
 gk x13 true (B6 x14) fun x15 =>
 gk x13 true (Af .none .leq x15 (.int .i64 40)) fun x16 =>
 (A7 x13 x16 (.bool false)).bind fun x17 =>
 rK H0 x17 H4)
noncomputable def Sh.f21 (s_1 : Aa) (H0 : Ab) : Out :=
 Ap (fun rec1 vs H => Sh.f4x H0 rec1 (ag vs 0) (ag vs 1) H) AM [s_1, (.int .i64 0)] H0
noncomputable def Sh.f3d (H0 : Ab) (rec1 : LK) (rec2 : LK) (x18 x19 x20 : Aa) (H21 : Ab) : Out :=
 (Af .none .lss x20 (.int .i64 4)).bind fun x22 =>
 Am x22 (
 (A5 5 x18 x19).bind fun x23 =>
 (Ac 1 x23).bind fun x24 =>
 (Bk 4 1 x24 x20).bind fun x25 =>
 (Ad false 1 x25 H21).bind fun x26 =>
 (Af .none .lss x26 (.int .i64 0)).bind fun x27 =>
 gk x27 false (some x18) fun x28 =>
 gk x27 false (some x19) fun x29 =>
 gk x27 false (A5 5 x28 x29) fun x30 =>
 gk x27 false (Ac 0 x30) fun x31 =>
 gk x27 false (Ad false 1 x31 H21) fun x32 =>
 gk x27 false (Af .none .eql x32 (.int .i64 1)) fun x33 =>
 gk x27 false (some x33) fun x34 =>
 gk x34 true (some x26) fun x35 =>
 gk x34 true (Af .none .gtr x35 (.int .i64 255)) fun x36 =>
 gk x27 false (A7 x34 x36 (.bool false)) fun x37 =>
 (A7 x27 (.bool true) x37).bind fun x38 =>
 Am x38 (
 rK H0 (.bool false) H21) (
 (A5 5 x18 x19).bind fun x39 =>
 (Ac 0 x39).bind fun x40 =>
 bC (Ad false 1 x40 H21) (fun _ => True) fun x41 =>
 (Af .none .gtr x41 (.int .i64 1)).bind fun x42 =>
 gk x42 true (some x26) fun x43 =>
 gk x42 true (Af .none .gtr x43 (.int .i64 0)) fun x44 =>
 (A7 x42 x44 (.bool false)).bind fun x45 =>
 gk x45 true (some x26) fun x46 =>
 gk x45 true (some x19) fun x47 =>
 gk x45 true (Af .none .gtr x46 x47) fun x48 =>
 gk x45 true (some x48) fun x49 =>
 gk x49 false (some x18) fun x50 =>
 gk x49 false (some x26) fun x51 =>
 gk x49 false (Af .none .sub x51 (.int .i64 1)) fun x52 =>
 gk x49 false (A5 5 x50 x52) fun x53 =>
 gk x49 false (Ac 0 x53) fun x54 =>
 gkc x49 false (Ad false 1 x54 H21) (fun _ _ => True) fun x55 =>
 gk x49 false (some x18) fun x56 =>
 gk x49 false (some x19) fun x57 =>
 gk x49 false (A5 5 x56 x57) fun x58 =>
 gk x49 false (Ac 0 x58) fun x59 =>
 gkc x49 false (Ad false 1 x59 H21) (fun _ _ => True) fun x60 =>
 gk x49 false (Af .none .sub x60 (.int .i64 1)) fun x61 =>
 gk x49 false (Af .none .neq x55 x61) fun x62 =>
 gk x45 true (A7 x49 (.bool true) x62) fun x63 =>
 (A7 x45 x63 (.bool false)).bind fun x64 =>
 Am x64 (
 rK H0 (.bool false) H21) (
 (Af .none .add x20 (.int .i64 1)).bind fun x65 =>
 rec2 [x18, x19, x65] H21))) (
 (Af .none .add x19 (.int .i64 1)).bind fun x66 =>
 rec1 [x18, x66] H21)
noncomputable def Sh.f3e (H0 : Ab) (rec1 : LK) (x2 x3 : Aa) (H4 : Ab) : Out :=
 (AG x2).bind fun x5 =>
 (Af .none .lss x3 x5).bind fun x6 =>
 Am x6 (
 (A5 5 x2 x3).bind fun x7 =>
 (Ac 0 x7).bind fun x8 =>
 (Ad false 1 x8 H4).bind fun x9 =>
 (Af .none .lss x9 (.int .i64 1)).bind fun x10 =>
 gk x10 false (some x2) fun x11 =>
 gk x10 false (some x3) fun x12 =>
 gk x10 false (A5 5 x11 x12) fun x13 =>
 gk x10 false (Ac 0 x13) fun x14 =>
 gk x10 false (Ad false 1 x14 H4) fun x15 =>
 gk x10 false (Af .none .gtr x15 (.int .i64 1329)) fun x16 =>
 (A7 x10 (.bool true) x16).bind fun x17 =>
 Am x17 (
 rK H0 (.bool false) H4) (
 Ap (fun rec2 vs H => Sh.f3d H0 rec1 rec2 (ag vs 0) (ag vs 1) (ag vs 2) H) AM [x2, x3, (.int .i64 0)] H4)) (
 rK H0 (.bool true) H4)
noncomputable def Sh.fc (x1 : Aa) (H0 : Ab) : Out :=
 Ap (fun rec1 vs H => Sh.f3e H0 rec1 (ag vs 0) (ag vs 1) H) AM [x1, (.int .i64 0)] H0
noncomputable def Sh.f3f (H0 : Ab) (rec1 : LK) (rec2 : LK) (l_15 out_16 i_17 empty_18 k_19 : Aa) (H20 : Ab) : Out :=
 (Af .none .lss k_19 (.int .i64 4)).bind fun x21 =>
 Am x21 (
 (A5 5 l_15 i_17).bind fun x22 =>
 (Ac 1 x22).bind fun x23 =>
 (Bk 4 1 x23 k_19).bind fun x24 =>
 (Ad false 1 x24 H20).bind fun x25 =>
 gk empty_18 true (some x25) fun x26 =>
 gk empty_18 true (Af .none .eql x26 (.int .i64 0)) fun x27 =>
 gk empty_18 true (some x27) fun x28 =>
 gk x28 false (some l_15) fun x29 =>
 gk x28 false (some i_17) fun x30 =>
 gk x28 false (A5 5 x29 x30) fun x31 =>
 gk x28 false (Ac 0 x31) fun x32 =>
 gk x28 false (Ad false 1 x32 H20) fun x33 =>
 gk x28 false (Af .none .gtr x33 (.int .i64 1)) fun x34 =>
 gk x28 false (some x34) fun x35 =>
 gk x35 true (some out_16) fun x36 =>
 gk x35 true (some x25) fun x37 =>
 gk x35 true (A5 1 x36 x37) fun x38 =>
 gk x35 true (Ad false 1 x38 H20) fun x39 =>
 gk x28 false (A7 x35 x39 (.bool false)) fun x40 =>
 gk empty_18 true (A7 x28 (.bool true) x40) fun x41 =>
 (A7 empty_18 x41 (.bool false)).bind fun x42 =>
 (Af .none .add k_19 (.int .i64 1)).bind fun x43 =>
 rec2 [l_15, out_16, i_17, x42, x43] H20) (
 (Af .none .add i_17 (.int .i64 1)).bind fun x44 =>
 (A5 1 out_16 x44).bind fun x45 =>
 bP H0 (AN (Al 1 x45 empty_18 H20)) fun _ H47 =>
 (Af .none .add i_17 (.int .i64 1)).bind fun x48 =>
 rec1 [l_15, out_16, x48] H47)
noncomputable def Sh.f3g (H0 : Ab) (rec1 : LK) (l_9 out_10 i_11 : Aa) (H12 : Ab) : Out :=
 (AG l_9).bind fun x13 =>
 (Af .none .lss i_11 x13).bind fun x14 =>
 Am x14 (
 Ap (fun rec2 vs H => Sh.f3f H0 rec1 rec2 (ag vs 0) (ag vs 1) (ag vs 2) (ag vs 3) (ag vs 4) H) AM [l_9, out_10, i_11, (.bool true), (.int .i64 0)] H12) (
 rPN H0 out_10 H12)
noncomputable def Sh.f5 (l_1 : Aa) (H0 : Ab) : Out :=
 (AG l_1).bind fun x2 =>
 (Af .none .add x2 (.int .i64 1)).bind fun x3 =>
 A2 (Fd 1 1 (some [(.bool false)]) x3 x3 H0) fun x4 H5 =>
 (A5 1 x4 (.int .i64 0)).bind fun x6 =>
 bP H0 (AN (Al 1 x6 (.bool true) H5)) fun _ H8 =>
 Ap (fun rec1 vs H => Sh.f3g H0 rec1 (ag vs 0) (ag vs 1) (ag vs 2) H) AM [l_1, x4, (.int .i64 0)] H8
noncomputable def Sh.f2m (H0 : Ab) (rec1 : LK) (rec2 : LK) (x25 x26 x27 x28 x29 x30 : Aa) (H31 : Ab) : Out :=
 (Af .none .lss x30 (.int .i64 4)).bind fun x32 =>
 gk x32 true (some x29) fun x33 =>
 gk x32 true (Af .none .gtr x33 (.int .i64 0)) fun x34 =>
 (A7 x32 x34 (.bool false)).bind fun x35 =>
 Am x35 (
 (Af .none .sub x29 (.int .i64 1)).bind fun x36 =>
 (A5 5 x25 x36).bind fun x37 =>
 (Ac 1 x37).bind fun x38 =>
 (Bk 4 1 x38 x30).bind fun x39 =>
 (Ad false 1 x39 H31).bind fun x40 =>
 (Af .none .sub (.int .i64 3) x28).bind fun x41 =>
 (Af .none .neq x30 x41).bind fun x42 =>
 gk x42 true (some x25) fun x43 =>
 gk x42 true (some x26) fun x44 =>
 gk x42 true (Af .none .sub x44 (.int .i64 1)) fun x45 =>
 gk x42 true (A5 5 x43 x45) fun x46 =>
 gk x42 true (Ac 0 x46) fun x47 =>
 gk x42 true (Ad false 1 x47 H31) fun x48 =>
 gk x42 true (Af .none .eql x48 (.int .i64 2)) fun x49 =>
 gk x42 true (some x49) fun x50 =>
 gk x50 true (some x40) fun x51 =>
 gk x50 true (Af .none .neq x51 (.int .i64 0)) fun x52 =>
 gk x42 true (A7 x50 x52 (.bool false)) fun x53 =>
 gk x42 true (some x53) fun x54 =>
 gk x54 false (some x25) fun x55 =>
 gk x54 false (some x26) fun x56 =>
 gk x54 false (Af .none .sub x56 (.int .i64 1)) fun x57 =>
 gk x54 false (A5 5 x55 x57) fun x58 =>
 gk x54 false (Ac 0 x58) fun x59 =>
 gk x54 false (Ad false 1 x59 H31) fun x60 =>
 gk x54 false (Af .none .gtr x60 (.int .i64 2)) fun x61 =>
 gk x54 false (some x61) fun x62 =>
 gk x62 true (some x27) fun x63 =>
 gk x62 true (some x40) fun x64 =>
 gk x62 true (A5 1 x63 x64) fun x65 =>
 gk x62 true (Ad false 1 x65 H31) fun x66 =>
 gk x62 true (unA .not x66) fun x67 =>
 gk x54 false (A7 x62 x67 (.bool false)) fun x68 =>
 gk x42 true (A7 x54 (.bool true) x68) fun x69 =>
 (A7 x42 x69 (.bool false)).bind fun x70 =>
 Am x70 (
 rK H0 (.bool false) H31) (
 (Af .none .add x30 (.int .i64 1)).bind fun x71 =>
 rec2 [x25, x26, x27, x28, x29, x71] H31)) (
 (Af .none .add x28 (.int .i64 1)).bind fun x72 =>
 rec1 [x25, x26, x27, x72] H31)
noncomputable def Sh.f3h (H0 : Ab) (rec1 : LK) (x14 x15 x16 x17 : Aa) (H18 : Ab) : Out :=
 (Af .none .lss x17 (.int .i64 4)).bind fun x19 =>
 Am x19 (
 (Af .none .sub x15 (.int .i64 1)).bind fun x20 =>
 (A5 5 x14 x20).bind fun x21 =>
 (Ac 1 x21).bind fun x22 =>
 (Bk 4 1 x22 x17).bind fun x23 =>
 (Ad false 1 x23 H18).bind fun x24 =>
 Ap (fun rec2 vs H => Sh.f2m H0 rec1 rec2 (ag vs 0) (ag vs 1) (ag vs 2) (ag vs 3) (ag vs 4) (ag vs 5) H) AM [x14, x15, x16, x17, x24, (.int .i64 0)] H18) (
 rK H0 (.bool true) H18)
noncomputable def Sh.fq (x1 x2 : Aa) (H0 : Ab) : Out :=
 (Af .none .eql x2 (.int .i64 0)).bind fun x3 =>
 gk x3 false (some x1) fun x4 =>
 gk x3 false (some x2) fun x5 =>
 gk x3 false (Af .none .sub x5 (.int .i64 1)) fun x6 =>
 gk x3 false (A5 5 x4 x6) fun x7 =>
 gk x3 false (Ac 0 x7) fun x8 =>
 gk x3 false (Ad false 1 x8 H0) fun x9 =>
 gk x3 false (Af .none .lss x9 (.int .i64 2)) fun x10 =>
 (A7 x3 (.bool true) x10).bind fun x11 =>
 Am x11 (
 rK H0 (.bool false) H0) (
 bK H0 (Sh.f5 x1 H0) fun x12 H13 =>
 Ap (fun rec1 vs H => Sh.f3h H0 rec1 (ag vs 0) (ag vs 1) (ag vs 2) (ag vs 3) H) AM [x1, x2, x12, (.int .i64 0)] H13)
noncomputable def Sh.f2n (H0 : Ab) (rec2 : LK) (l_21 n_22 out_23 k_24 : Aa) (H25 : Ab) : Out :=
 (Af .none .add k_24 (.int .i64 1)).bind fun x26 =>
 rec2 [l_21, n_22, out_23, x26] H25
noncomputable def Sh.f3i (H0 : Ab) (self : Aa → Aa → Aa → Ab → Out) (rec2 : LK) (l_15 n_16 out_17 k_18 : Aa) (H19 : Ab) : Out :=
 (Af .none .lss k_18 (.int .i64 4)).bind fun x20 =>
 Am x20 (
 AS (fun j3 =>
 (Af .none .sub n_16 (.int .i64 1)).bind fun x27 =>
 (A5 5 l_15 x27).bind fun x28 =>
 (Ac 0 x28).bind fun x29 =>
 (Ad false 1 x29 H19).bind fun x30 =>
 (Af .none .gtr x30 (.int .i64 1)).bind fun x31 =>
 gk x31 true (some l_15) fun x32 =>
 gk x31 true (some n_16) fun x33 =>
 gk x31 true (Af .none .sub x33 (.int .i64 1)) fun x34 =>
 gk x31 true (some k_18) fun x35 =>
 gk x31 true (A5 5 x32 x34) fun x36 =>
 gk x31 true (Ac 1 x36) fun x37 =>
 gk x31 true (Bk 4 1 x37 x35) fun x38 =>
 gk x31 true (Ad false 1 x38 H19) fun x39 =>
 gk x31 true (Af .none .gtr x39 (.int .i64 0)) fun x40 =>
 (A7 x31 x40 (.bool false)).bind fun x41 =>
 Am x41 (
 (Af .none .sub n_16 (.int .i64 1)).bind fun x42 =>
 (A5 5 l_15 x42).bind fun x43 =>
 (Ac 1 x43).bind fun x44 =>
 (Bk 4 1 x44 k_18).bind fun x45 =>
 (Ad false 1 x45 H19).bind fun x46 =>
 bK H0 (self l_15 x46 out_17 H19) fun x47 H48 =>
 j3 [l_15, n_16, x47, k_18] H48) (
 j3 [l_15, n_16, out_17, k_18] H19)) (fun vs H => Sh.f2n H0 rec2 (ag vs 0) (ag vs 1) (ag vs 2) (ag vs 3) H)) (
 (AH 1 [n_16]).bind fun x49 =>
 bK H0 (BF (AI D8 1 8 out_17 x49 H19)) fun x50 H51 =>
 rK H0 x50 H51)
noncomputable def Sh.f3j (H0 : Ab) (self : Aa → Aa → Aa → Ab → Out) (rec1 : LK) (l_4 n_5 out_6 i_7 : Aa) (H8 : Ab) : Out :=
 (AG out_6).bind fun x9 =>
 (Af .none .lss i_7 x9).bind fun x10 =>
 Am x10 (
 (A5 1 out_6 i_7).bind fun x11 =>
 (Ad false 1 x11 H8).bind fun x12 =>
 (Af .none .eql x12 n_5).bind fun x13 =>
 Am x13 (
 rK H0 out_6 H8) (
 (Af .none .add i_7 (.int .i64 1)).bind fun x14 =>
 rec1 [l_4, n_5, out_6, x14] H8)) (
 Ap (fun rec2 vs H => Sh.f3i H0 self rec2 (ag vs 0) (ag vs 1) (ag vs 2) (ag vs 3) H) AM [l_4, n_5, out_6, (.int .i64 0)] H8)
noncomputable def Sh.f4f (self : Aa → Aa → Aa → Ab → Out) (l_1 n_2 out_3 : Aa) (H0 : Ab) : Out :=
 Ap (fun rec1 vs H => Sh.f3j H0 self rec1 (ag vs 0) (ag vs 1) (ag vs 2) (ag vs 3) H) AM [l_1, n_2, out_3, (.int .i64 0)] H0
noncomputable def Sh.f7 : Nat → Aa → Aa → Aa → Ab → Out
 | 0 => fun _ _ _ _ => none
 | d + 1 => Sh.f4f (Sh.f7 d)
noncomputable def Sh.f3k (H0 : Ab) (rec1 : LK) (rec2 : LK) (x28 x29 x30 x31 : Aa) (H32 : Ab) : Out :=
 (Af .none .lss x31 x30).bind fun x33 =>
 Am x33 (
 (A5 5 x28 x30).bind fun x34 =>
 bC (Ad true 5 x34 H32) (fun _ => True) fun x35 =>
 (A5 5 x28 x31).bind fun x36 =>
 bC (Ad true 5 x36 H32) (fun _ => True) fun x37 =>
 (Af (.flat 5) .eql x35 x37).bind fun x38 =>
 Am x38 (
 rP H0 (.bool false) H32) (
 (Af .none .add x31 (.int .i64 1)).bind fun x39 =>
 rec2 [x28, x29, x30, x39] H32)) (
 (Af .none .add x30 (.int .i64 1)).bind fun x40 =>
 rec1 [x28, x29, x40] H32)
noncomputable def Sh.f3l (H0 : Ab) (rec3 : LK) (x44 x45 x46 : Aa) (H47 : Ab) : Out :=
 (AG x45).bind fun x48 =>
 (Af .none .lss x46 x48).bind fun x49 =>
 Am x49 (
 (A5 1 x45 x46).bind fun x50 =>
 (Ad false 1 x50 H47).bind fun x51 =>
 (Af .none .add x46 (.int .i64 1)).bind fun x52 =>
 (Af .none .neq x51 x52).bind fun x53 =>
 Am x53 (
 rP H0 (.bool false) H47) (
 (Af .none .add x46 (.int .i64 1)).bind fun x54 =>
 rec3 [x44, x45, x54] H47)) (
 (AG x45).bind fun x55 =>
 (AG x44).bind fun x56 =>
 (Af .none .eql x55 x56).bind fun x57 =>
 rP H0 x57 H47)
noncomputable def Sh.f3m (H0 : Ab) (rec1 : LK) (x19 x20 x21 : Aa) (H22 : Ab) : Out :=
 (AG x19).bind fun x23 =>
 (Af .none .lss x21 x23).bind fun x24 =>
 Am x24 (
 (Af .none .add x21 (.int .i64 1)).bind fun x25 =>
 (A5 1 x20 x25).bind fun x26 =>
 (Ad false 1 x26 H22).bind fun x27 =>
 Am x27 (
 rP H0 (.bool false) H22) (
 Ap (fun rec2 vs H => Sh.f3k H0 rec1 rec2 (ag vs 0) (ag vs 1) (ag vs 2) (ag vs 3) H) AM [x19, x20, x21, (.int .i64 0)] H22)) (
 (AG x19).bind fun x41 =>
 bP H0 (Sh.f7 AM x19 x41 (.sl [] .tight) H22) fun x42 H43 =>
 Ap (fun rec3 vs H => Sh.f3l H0 rec3 (ag vs 0) (ag vs 1) (ag vs 2) H) AM [x19, x42, (.int .i64 0)] H43)
noncomputable def Sh.f22 (x1 : Aa) (H0 : Ab) : Out :=
 A2 (Ek true 1 x1 H0) fun x2 H3 =>
 (Ac 0 x2).bind fun x4 =>
 (Ad false 1 x4 H3).bind fun x5 =>
 (AG x5).bind fun x6 =>
 (Af .none .eql x6 (.int .i64 0)).bind fun x7 =>
 Am x7 (
 rP H0 (.bool true) H3) (
 bP H0 (Sh.fc x5 H3) fun x8 H9 =>
 (unA .not x8).bind fun x10 =>
 gk x10 false (some x5) fun x11 =>
 gk x10 false (some x5) fun x12 =>
 gk x10 false (AG x12) fun x13 =>
 gbP H0 x10 false H9 (Sh.fq x11 x13 H9) fun x14 H15 =>
 (A7 x10 (.bool true) x14).bind fun x16 =>
 Am x16 (
 rP H0 (.bool false) H15) (
 bP H0 (Sh.f5 x5 H15) fun x17 H18 =>
 Ap (fun rec1 vs H => Sh.f3m H0 rec1 (ag vs 0) (ag vs 1) (ag vs 2) H) AM [x5, x17, (.int .i64 0)] H18))
noncomputable def Sh.f8 (p_1 : Aa) (H0 : Ab) : Out :=
 A2 (Ek true 2 p_1 H0) fun p_2 H3 =>
 (Ac 0 p_2).bind fun x4 =>
 (Ad false 1 x4 H3).bind fun x5 =>
 bP H0 (Sh.f21 x5 H3) fun x6 H7 =>
 gk x6 true (Ac 1 p_2) fun x8 =>
 gk x6 true (Ad true 1 x8 H7) fun x9 =>
 gbP H0 x6 true H7 (Sh.f22 x9 H7) fun x10 H11 =>
 (A7 x6 x10 (.bool false)).bind fun x12 =>
 rP H0 x12 H11
noncomputable def Sh.f2o (H0 : Ab) (rec1 : LK) (rec2 : LK) (q_12 most_13 i_14 k_15 : Aa) (H16 : Ab) : Out :=
 (Af .none .lss k_15 (.int .i64 4)).bind fun x17 =>
 gk x17 true (Ac 0 q_12) fun x18 =>
 gk x17 true (Ad false 1 x18 H16) fun x19 =>
 gk x17 true (some i_14) fun x20 =>
 gk x17 true (A5 5 x19 x20) fun x21 =>
 gk x17 true (Ac 0 x21) fun x22 =>
 gk x17 true (Ad false 1 x22 H16) fun x23 =>
 gk x17 true (Af .none .eql x23 (.int .i64 1)) fun x24 =>
 (A7 x17 x24 (.bool false)).bind fun x25 =>
 Am x25 (
 (Ac 0 q_12).bind fun x26 =>
 (Ad false 1 x26 H16).bind fun x27 =>
 (A5 5 x27 i_14).bind fun x28 =>
 (Ac 1 x28).bind fun x29 =>
 (Bk 4 1 x29 k_15).bind fun x30 =>
 (Ad false 1 x30 H16).bind fun x31 =>
 (Gw PG most_13 [x31]).bind fun x32 =>
 (Af .none .add k_15 (.int .i64 1)).bind fun x33 =>
 rec2 [q_12, x32, i_14, x33] H16) (
 (Af .none .add i_14 (.int .i64 1)).bind fun x34 =>
 rec1 [q_12, most_13, x34] H16)
noncomputable def Sh.f3n (H0 : Ab) (rec1 : LK) (q_4 most_5 i_6 : Aa) (H7 : Ab) : Out :=
 (Ac 0 q_4).bind fun x8 =>
 (Ad false 1 x8 H7).bind fun x9 =>
 (AG x9).bind fun x10 =>
 (Af .none .lss i_6 x10).bind fun x11 =>
 Am x11 (
 Ap (fun rec2 vs H => Sh.f2o H0 rec1 rec2 (ag vs 0) (ag vs 1) (ag vs 2) (ag vs 3) H) AM [q_4, most_5, i_6, (.int .i64 0)] H7) (
 (AZ .u8 most_5).bind fun x35 =>
 rP H0 x35 H7)
noncomputable def Sh.f11 (q_1 : Aa) (H0 : Ab) : Out :=
 A2 (Ek true 1 q_1 H0) fun q_2 H3 =>
 Ap (fun rec1 vs H => Sh.f3n H0 rec1 (ag vs 0) (ag vs 1) (ag vs 2) H) AM [q_2, (.int .i64 0), (.int .i64 0)] H3
noncomputable def Sh.fr (q_1 : Aa) (H0 : Ab) : Out :=
 A2 (Ek true 1 q_1 H0) fun q_2 H3 =>
 (Ac 0 q_2).bind fun x4 =>
 (Ad false 1 x4 H3).bind fun x5 =>
 (AG x5).bind fun x6 =>
 (Af .none .eql x6 (.int .i64 0)).bind fun x7 =>
 Am x7 (
 rP H0 (.int .i64 0) H3) (
 (Ac 0 q_2).bind fun x8 =>
 (Ad false 1 x8 H3).bind fun x9 =>
 (Ac 0 q_2).bind fun x10 =>
 (Ad false 1 x10 H3).bind fun x11 =>
 (AG x11).bind fun x12 =>
 (Af .none .sub x12 (.int .i64 1)).bind fun x13 =>
 (A5 5 x9 x13).bind fun x14 =>
 (Ac 0 x14).bind fun x15 =>
 (Ad false 1 x15 H3).bind fun x16 =>
 rP H0 x16 H3)
noncomputable def Sh.f4g (H0 : Ab) (rec2 : LK) (x41 x42 x43 x44 x45 : Aa) (H46 : Ab) : Out :=
 (Af .none .add x45 (.int .i64 1)).bind fun x47 =>
 rec2 [x41, x42, x43, x44, x47] H46
noncomputable def Sh.f23 (H0 : Ab) (rec1 : LK) (rec2 : LK) (x34 x35 x36 x37 x38 : Aa) (H39 : Ab) : Out :=
 (Af .none .lss x38 (.int .i64 4)).bind fun x40 =>
 Am x40 (
 AS (fun j3 =>
 (Af .none .sub x36 (.int .i64 1)).bind fun x48 =>
 (A5 5 x35 x48).bind fun x49 =>
 (Ac 1 x49).bind fun x50 =>
 (Bk 4 1 x50 x38).bind fun x51 =>
 (Ad false 1 x51 H39).bind fun x52 =>
 (Af .none .eql x52 (.int .i64 0)).bind fun x53 =>
 Am x53 (
 j3 [x34, x35, x36, x37, x38] H39) (
 (Af .none .sub x36 (.int .i64 1)).bind fun x54 =>
 (A5 5 x35 x54).bind fun x55 =>
 (Ac 0 x55).bind fun x56 =>
 (Ad false 1 x56 H39).bind fun x57 =>
 (A6 (some [(.int .i64 0), (.int .i64 0), (.int .i64 0), (.int .i64 0), (.int .i64 0)]) [(0, 1, x57)]).bind fun x58 =>
 A2 (AF (some [(.int .i64 0), (.int .i64 0), (.int .i64 0), (.int .i64 0), (.int .i64 0)]) H39) fun x59 H60 =>
 bP H0 (AN (Al 5 x59 x58 H60)) fun _ H62 =>
 (Af .none .sub (.int .i64 3) x38).bind fun x63 =>
 (Ac 1 x59).bind fun x64 =>
 (Bk 4 1 x64 x63).bind fun x65 =>
 bP H0 (AN (Al 1 x65 x52 H62)) fun _ H67 =>
 (Ad true 5 x59 H67).bind fun x68 =>
 (AH 5 [x68]).bind fun x69 =>
 bP H0 (BF (AI As 5 40 x35 x69 H67)) fun x70 H71 =>
 (AG x70).bind fun x72 =>
 (Ac 1 x37).bind fun x73 =>
 (Bk 4 1 x73 x38).bind fun x74 =>
 bP H0 (AN (Al 1 x74 x72 H71)) fun _ H76 =>
 j3 [x34, x70, x36, x37, x38] H76)) (fun vs H => Sh.f4g H0 rec2 (ag vs 0) (ag vs 1) (ag vs 2) (ag vs 3) (ag vs 4) H)) (
 (Ad true 5 x37 H39).bind fun x77 =>
 (AH 5 [x77]).bind fun x78 =>
 bP H0 (BF (AI As 5 40 x35 x78 H39)) fun x79 H80 =>
 (AG x79).bind fun x81 =>
 rec1 [x34, x79, x81] H80)
noncomputable def Sh.f3o (H0 : Ab) (rec1 : LK) (x15 x16 x17 : Aa) (H18 : Ab) : Out :=
 (Af .none .sub x17 (.int .i64 1)).bind fun x19 =>
 (A5 5 x16 x19).bind fun x20 =>
 (Ac 0 x20).bind fun x21 =>
 (Ad false 1 x21 H18).bind fun x22 =>
 (Af .none .lss x22 x15).bind fun x23 =>
 Am x23 (
 (Af .none .sub x17 (.int .i64 1)).bind fun x24 =>
 (A5 5 x16 x24).bind fun x25 =>
 (Ac 0 x25).bind fun x26 =>
 (Ad false 1 x26 H18).bind fun x27 =>
 (Af .none .add x27 (.int .i64 1)).bind fun x28 =>
 (A6 (some [(.int .i64 0), (.int .i64 0), (.int .i64 0), (.int .i64 0), (.int .i64 0)]) [(0, 1, x28)]).bind fun x29 =>
 A2 (AF (some [(.int .i64 0), (.int .i64 0), (.int .i64 0), (.int .i64 0), (.int .i64 0)]) H18) fun x30 H31 =>
 bP H0 (AN (Al 5 x30 x29 H31)) fun _ H33 =>
 Ap (fun rec2 vs H => Sh.f23 H0 rec1 rec2 (ag vs 0) (ag vs 1) (ag vs 2) (ag vs 3) (ag vs 4) H) AM [x15, x16, x17, x30, (.int .i64 0)] H33) (
 rPN H0 (.tup [x16, x17]) H18)
noncomputable def Sh.f24 (x1 x2 : Aa) (H0 : Ab) : Out :=
 A2 (Ek true 1 x1 H0) fun x3 H4 =>
 (AH 5 []).bind fun x5 =>
 (Ac 0 x3).bind fun x6 =>
 (Ad false 1 x6 H4).bind fun x7 =>
 bP H0 (BF (AI As 5 40 x5 x7 H4)) fun x8 H9 =>
 (AG x8).bind fun x10 =>
 (Af .none .gtr x2 (.int .i64 1329)).bind fun x11 =>
 gk x11 false (some x10) fun x12 =>
 gk x11 false (Af .none .eql x12 (.int .i64 0)) fun x13 =>
 (A7 x11 (.bool true) x13).bind fun x14 =>
 Am x14 (
 rPN H0 (.tup [x8, x10]) H9) (
 Ap (fun rec1 vs H => Sh.f3o H0 rec1 (ag vs 0) (ag vs 1) (ag vs 2) H) AM [x2, x8, x10] H9)
noncomputable def Sh.f3p (H0 : Ab) (self : Aa → Aa → Aa → Aa → Ab → Out) (rec1 : LK) (l_6 n_7 x8 y_9 half_10 k_11 : Aa) (H12 : Ab) : Out :=
 (Af .none .sub n_7 (.int .i64 1)).bind fun x13 =>
 (A5 5 l_6 x13).bind fun x14 =>
 (Ac 0 x14).bind fun x15 =>
 (Ad false 1 x15 H12).bind fun x16 =>
 (Af .none .lss k_11 x16).bind fun x17 =>
 Am x17 (
 (Af .none .mul half_10 (.int .i64 2)).bind fun x18 =>
 (Af .none .add k_11 (.int .i64 1)).bind fun x19 =>
 rec1 [l_6, n_7, x8, y_9, x18, x19] H12) (
 (Af .none .sub n_7 (.int .i64 1)).bind fun x20 =>
 (Af .none .quo y_9 half_10).bind fun x21 =>
 (Af .none .mul (.int .i64 2) x21).bind fun x22 =>
 (Af .none .quo x8 half_10).bind fun x23 =>
 (Af .none .add x22 x23).bind fun x24 =>
 (A5 5 l_6 x20).bind fun x25 =>
 (Ac 1 x25).bind fun x26 =>
 (Bk 4 1 x26 x24).bind fun x27 =>
 bC (Ad false 1 x27 H12) (fun _ => True) fun x28 =>
 (Af .none .sub n_7 (.int .i64 1)).bind fun x29 =>
 (A5 5 l_6 x29).bind fun x30 =>
 (Ac 0 x30).bind fun x31 =>
 (Ad false 1 x31 H12).bind fun x32 =>
 (Af .none .eql x32 (.int .i64 1)).bind fun x33 =>
 Am x33 (
 (Af .none .gtr x28 (.int .i64 0)).bind fun x34 =>
 rK H0 x34 H12) (
 (Af .none .rem x8 half_10).bind fun x35 =>
 (Af .none .rem y_9 half_10).bind fun x36 =>
 Cg (self l_6 x28 x35 x36 H12) fun x37 H38 =>
 rK H0 x37 H38))
noncomputable def Sh.f2p (self : Aa → Aa → Aa → Aa → Ab → Out) (l_1 n_2 x3 y_4 : Aa) (H0 : Ab) : Out :=
 (Af .none .eql n_2 (.int .i64 0)).bind fun x5 =>
 Am x5 (
 rK H0 (.bool false) H0) (
 Ap (fun rec1 vs H => Sh.f3p H0 self rec1 (ag vs 0) (ag vs 1) (ag vs 2) (ag vs 3) (ag vs 4) (ag vs 5) H) AM [l_1, n_2, x3, y_4, (.int .i64 1), (.int .i64 1)] H0)
noncomputable def Sh.f9 : Nat → Aa → Aa → Aa → Aa → Ab → Out
 | 0 => fun _ _ _ _ _ => none
 | d + 1 => Sh.f2p (Sh.f9 d)
noncomputable def Sh.f3q (H0 : Ab) (rec1 : LK) (l_10 n_11 s_12 last_13 y_14 : Aa) (H15 : Ab) : Out :=
 (Af .none .add y_14 (.int .i64 1)).bind fun x16 =>
 rec1 [l_10, n_11, s_12, last_13, x16] H15
noncomputable def Sh.f4h (H0 : Ab) (rec3 : LK) (l_27 n_28 s_29 last_30 y_31 row_32 used_33 x34 : Aa) (H35 : Ab) : Out :=
 (Af .none .add x34 (.int .i64 1)).bind fun x36 =>
 rec3 [l_27, n_28, s_29, last_30, y_31, row_32, used_33, x36] H35
noncomputable def Sh.f3r (H0 : Ab) (j2 : LK) (rec3 : LK) (l_17 n_18 s_19 last_20 y_21 row_22 used_23 x24 : Aa) (H25 : Ab) : Out :=
 (Af .none .lss x24 (.int .i64 8)).bind fun x26 =>
 Am x26 (
 AS (fun j4 =>
 bK H0 (Sh.f9 AM l_17 n_18 x24 y_21 H25) fun x37 H38 =>
 Am x37 (
 (Af .none .add row_22 (.str [42])).bind fun x39 =>
 (B6 x39).bind fun x40 =>
 j4 [l_17, n_18, s_19, last_20, y_21, x39, x40, x24] H38) (
 (Af .none .add row_22 (.str [46])).bind fun x41 =>
 j4 [l_17, n_18, s_19, last_20, y_21, x41, used_23, x24] H38)) (fun vs H => Sh.f4h H0 rec3 (ag vs 0) (ag vs 1) (ag vs 2) (ag vs 3) (ag vs 4) (ag vs 5) (ag vs 6) (ag vs 7) H)) (
 (Br row_22 none (some used_23)).bind fun x42 =>
 (Af .none .add s_19 x42).bind fun x43 =>
 (Af .none .add x43 (.str [36])).bind fun x44 =>
 (Af .none .gtr used_23 (.int .i64 0)).bind fun x45 =>
 Am x45 (
 (B6 x44).bind fun x46 =>
 j2 [l_17, n_18, x44, x46, y_21] H25) (
 j2 [l_17, n_18, x44, last_20, y_21] H25))
noncomputable def Sh.f3s (H0 : Ab) (rec1 : LK) (l_3 n_4 s_5 last_6 y_7 : Aa) (H8 : Ab) : Out :=
 (Af .none .lss y_7 (.int .i64 8)).bind fun x9 =>
 Am x9 (
 AS (fun j2 =>
 Ap (fun rec3 vs H => Sh.f3r H0 j2 rec3 (ag vs 0) (ag vs 1) (ag vs 2) (ag vs 3) (ag vs 4) (ag vs 5) (ag vs 6) (ag vs 7) H) AM [l_3, n_4, s_5, last_6, y_7, (.str []), (.int .i64 0), (.int .i64 0)] H8) (fun vs H => Sh.f3q H0 rec1 (ag vs 0) (ag vs 1) (ag vs 2) (ag vs 3) (ag vs 4) H)) (
 (Br s_5 none (some last_6)).bind fun x47 =>
 rK H0 x47 H8)
noncomputable def Sh.f12 (l_1 n_2 : Aa) (H0 : Ab) : Out :=
 Ap (fun rec1 vs H => Sh.f3s H0 rec1 (ag vs 0) (ag vs 1) (ag vs 2) (ag vs 3) (ag vs 4) H) AM [l_1, n_2, (.str []), (.int .i64 0), (.int .i64 0)] H0
noncomputable def Sh.f4y (H0 : Ab) (rec1 : LK) (b_2 : Aa) (H3 : Ab) : Out :=
 (AG b_2).bind fun x4 =>
 (Af .none .gtr x4 (.int .i64 0)).bind fun x5 =>
 gk x5 true (some b_2) fun x6 =>
 gk x5 true (some b_2) fun x7 =>
 gk x5 true (AG x7) fun x8 =>
 gk x5 true (Af .none .sub x8 (.int .i64 1)) fun x9 =>
 gk x5 true (A5 1 x6 x9) fun x10 =>
 gk x5 true (Ad false 1 x10 H3) fun x11 =>
 gk x5 true (unA .not x11) fun x12 =>
 (A7 x5 x12 (.bool false)).bind fun x13 =>
 Am x13 (
 (AG b_2).bind fun x14 =>
 (Af .none .sub x14 (.int .i64 1)).bind fun x15 =>
 (F0 1 b_2 none (some x15) none).bind fun x16 =>
 rec1 [x16] H3) (
 rKN H0 b_2 H3)
noncomputable def Sh.fs (b_1 : Aa) (H0 : Ab) : Out :=
 Ap (fun rec1 vs H => Sh.f4y H0 rec1 (ag vs 0) H) AM [b_1] H0
noncomputable def Sh.f4i (H0 : Ab) (rec1 : LK) (rec2 : LK) (a_10 out_11 i_12 x13 k_14 : Aa) (H15 : Ab) : Out :=
 (Af .none .lss k_14 (.int .i64 32)).bind fun x16 =>
 Am x16 (
 (Af .none .rem x13 (.int .u32 2)).bind fun x17 =>
 (Af .none .eql x17 (.int .u32 1)).bind fun x18 =>
 (AH 1 [x18]).bind fun x19 =>
 bP H0 (BF (AI El 1 1 out_11 x19 H15)) fun x20 H21 =>
 (Af .none .quo x13 (.int .u32 2)).bind fun x22 =>
 (Af .none .add k_14 (.int .i64 1)).bind fun x23 =>
 rec2 [a_10, x20, i_12, x22, x23] H21) (
 (Af .none .add i_12 (.int .i64 1)).bind fun x24 =>
 rec1 [a_10, out_11, x24] H15)
noncomputable def Sh.f2q (H0 : Ab) (rec1 : LK) (a_2 out_3 i_4 : Aa) (H5 : Ab) : Out :=
 (AG a_2).bind fun x6 =>
 (Af .none .lss i_4 x6).bind fun x7 =>
 Am x7 (
 (A5 1 a_2 i_4).bind fun x8 =>
 (Ad false 1 x8 H5).bind fun x9 =>
 Ap (fun rec2 vs H => Sh.f4i H0 rec1 rec2 (ag vs 0) (ag vs 1) (ag vs 2) (ag vs 3) (ag vs 4) H) AM [a_2, out_3, i_4, x9, (.int .i64 0)] H5) (
 bP H0 (Sh.fs out_3 H5) fun x25 H26 =>
 rPN H0 x25 H26)
noncomputable def Sh.ft (a_1 : Aa) (H0 : Ab) : Out :=
 Ap (fun rec1 vs H => Sh.f2q H0 rec1 (ag vs 0) (ag vs 1) (ag vs 2) H) AM [a_1, (.sl [] .tight), (.int .i64 0)] H0
noncomputable def Sh.f4j (H0 : Ab) (rec2 : LK) (b_24 out_25 i_26 x27 p_28 k_29 : Aa) (H30 : Ab) : Out :=
 (Af .none .mul p_28 (.int .u32 2)).bind fun x31 =>
 (Af .none .add k_29 (.int .i64 1)).bind fun x32 =>
 rec2 [b_24, out_25, i_26, x27, x31, x32] H30
noncomputable def Sh.f4z (H0 : Ab) (rec1 : LK) (rec2 : LK) (b_10 out_11 i_12 x13 p_14 k_15 : Aa) (H16 : Ab) : Out :=
 (AG b_10).bind fun x17 =>
 (Af .none .lss k_15 x17).bind fun x18 =>
 gk x18 true (some k_15) fun x19 =>
 gk x18 true (some i_12) fun x20 =>
 gk x18 true (Af .none .add x20 (.int .i64 32)) fun x21 =>
 gk x18 true (Af .none .lss x19 x21) fun x22 =>
 (A7 x18 x22 (.bool false)).bind fun x23 =>
 Am x23 (
 AS (fun j3 =>
 (A5 1 b_10 k_15).bind fun x33 =>
 (Ad false 1 x33 H16).bind fun x34 =>
 Am x34 (
 (Af .none .add x13 p_14).bind fun x35 =>
 j3 [b_10, out_11, i_12, x35, p_14, k_15] H16) (
 j3 [b_10, out_11, i_12, x13, p_14, k_15] H16)) (fun vs H => Sh.f4j H0 rec2 (ag vs 0) (ag vs 1) (ag vs 2) (ag vs 3) (ag vs 4) (ag vs 5) H)) (
 (AH 1 [x13]).bind fun x36 =>
 bP H0 (BF (AI DY 1 4 out_11 x36 H16)) fun x37 H38 =>
 (Af .none .add i_12 (.int .i64 32)).bind fun x39 =>
 rec1 [b_10, x37, x39] H38)
noncomputable def Sh.f4k (H0 : Ab) (rec1 : LK) (b_4 out_5 i_6 : Aa) (H7 : Ab) : Out :=
 (AG b_4).bind fun x8 =>
 (Af .none .lss i_6 x8).bind fun x9 =>
 Am x9 (
 Ap (fun rec2 vs H => Sh.f4z H0 rec1 rec2 (ag vs 0) (ag vs 1) (ag vs 2) (ag vs 3) (ag vs 4) (ag vs 5) H) AM [b_4, out_5, i_6, (.int .u32 0), (.int .u32 1), i_6] H7) (
 rPN H0 out_5 H7)
noncomputable def Sh.f25 (b_1 : Aa) (H0 : Ab) : Out :=
 bP H0 (Sh.fs b_1 H0) fun x2 H3 =>
 Ap (fun rec1 vs H => Sh.f4k H0 rec1 (ag vs 0) (ag vs 1) (ag vs 2) H) AM [x2, (.sl [] .tight), (.int .i64 0)] H3
noncomputable def Sh.fd (a_1 : Aa) (H0 : Ab) : Out :=
 bK H0 (Sh.ft a_1 H0) fun x2 H3 =>
 bK H0 (Sh.f25 x2 H3) fun x4 H5 =>
 rKN H0 x4 H5
noncomputable def Sh.f26 (neg_1 l_2 : Aa) (H0 : Ab) : Out :=
 A2 (AF (some [(.bool false), (.sl [] .tight)]) H0) fun x3 H4 =>
 bP H0 (Sh.fd l_2 H4) fun x5 H6 =>
 gk neg_1 true (some x5) fun x7 =>
 gk neg_1 true (AG x7) fun x8 =>
 gk neg_1 true (Af .none .gtr x8 (.int .i64 0)) fun x9 =>
 (A7 neg_1 x9 (.bool false)).bind fun x10 =>
 (A6 (some [(.bool false), (.sl [] .tight)]) [(0, 1, x10), (1, 1, x5)]).bind fun x11 =>
 bP H0 (AN (Al 2 x3 x11 H6)) fun _ H13 =>
 (Ad true 2 x3 H13).bind fun x14 => rPN H0 x14 H13
noncomputable def Sh.f4l (H0 : Ab) (n_5 x6 u_7 : Aa) (H8 : Ab) : Out :=
 (Af .none .lss n_5 (.int .i64 0)).bind fun x9 =>
 (Af .none .rem u_7 (.int .u64 4294967296)).bind fun x10 =>
 (AZ .u32 x10).bind fun x11 =>
 (Af .none .quo u_7 (.int .u64 4294967296)).bind fun x12 =>
 (AZ .u32 x12).bind fun x13 =>
 (AH 1 [x11, x13]).bind fun x14 =>
 bP H0 (Sh.f26 x9 x14 H8) fun x15 H16 =>
 bP H0 (AN (Al 2 x6 x15 H16)) fun _ H18 =>
 (Ad true 2 x6 H18).bind fun x19 => rPN H0 x19 H18
noncomputable def Sh.f27 (n_1 : Aa) (H0 : Ab) : Out :=
 A2 (AF (some [(.bool false), (.sl [] .tight)]) H0) fun x2 H3 =>
 (AZ .u64 n_1).bind fun x4 =>
 AS (fun j1 =>
 (Af .none .lss n_1 (.int .i64 0)).bind fun x20 =>
 Am x20 (
 (unA .neg x4).bind fun x21 =>
 j1 [n_1, x2, x21] H3) (
 j1 [n_1, x2, x4] H3)) (fun vs H => Sh.f4l H0 (ag vs 0) (ag vs 1) (ag vs 2) H)
noncomputable def Sh.f4m (H0 : Ab) (rec1 : LK) (a_9 m_10 out_11 left_12 i_13 : Aa) (H14 : Ab) : Out :=
 (Af .none .geq i_13 (.int .i64 0)).bind fun x15 =>
 Am x15 (
 (Af .none .mul left_12 (.int .u64 4294967296)).bind fun x16 =>
 (A5 1 a_9 i_13).bind fun x17 =>
 (Ad false 1 x17 H14).bind fun x18 =>
 (AZ .u64 x18).bind fun x19 =>
 (Af .none .add x16 x19).bind fun x20 =>
 bC (AZ .u64 m_10) (fun _ => True) fun x21 =>
 (Af .none .quo x20 x21).bind fun x22 =>
 bC (AZ .u32 x22) (fun _ => True) fun x23 =>
 (A5 1 out_11 i_13).bind fun x24 =>
 Cg (AN (Al 1 x24 x23 H14)) fun _ H26 =>
 bC (AZ .u64 m_10) (fun x27 => AZ .u64 m_10 = some x27 ∧ True) fun x27 =>
 (Af .none .rem x20 x27).bind fun x28 =>
 (Af .none .sub i_13 (.int .i64 1)).bind fun x29 =>
 rec1 [a_9, m_10, out_11, x28, x29] H26) (
 bP H0 (Sh.fd out_11 H14) fun x30 H31 =>
 (AZ .u32 left_12).bind fun x32 =>
 rPN H0 (.tup [x30, x32]) H31)
noncomputable def Sh.f28 (a_1 m_2 : Aa) (H0 : Ab) : Out :=
 (Af .none .eql m_2 (.int .u32 0)).bind fun x3 =>
 Am x3 (
 rPN H0 (.tup [(.sl [] .tight), (.int .u32 0)]) H0) (
 (AG a_1).bind fun x4 =>
 A2 (Fd 1 4 (some [(.int .u32 0)]) x4 x4 H0) fun x5 H6 =>
 (AG a_1).bind fun x7 =>
 (Af .none .sub x7 (.int .i64 1)).bind fun x8 =>
 Ap (fun rec1 vs H => Sh.f4m H0 rec1 (ag vs 0) (ag vs 1) (ag vs 2) (ag vs 3) (ag vs 4) H) AM [a_1, m_2, x5, (.int .u64 0), x8] H6)
noncomputable def Sh.f4n (H0 : Ab) (rec1 : LK) (x6 s_7 l_8 : Aa) (H9 : Ab) : Out :=
 bP H0 (Sh.f28 l_8 (.int .u32 10) H9) fun x10 H11 =>
 (Ar 0 x10).bind fun x12 =>
 (Ar 1 x10).bind fun x13 =>
 (Af .none .add (.int .u32 48) x13).bind fun x14 =>
 (AZ .u8 x14).bind fun x15 =>
 (AH 1 [x15]).bind fun x16 =>
 (D4 x16 H11).bind fun x17 =>
 (Af .none .add x17 s_7).bind fun x18 =>
 (AG x12).bind fun x19 =>
 (Af .none .eql x19 (.int .i64 0)).bind fun x20 =>
 Am x20 (
 (Ac 0 x6).bind fun x21 =>
 (Ad false 1 x21 H11).bind fun x22 =>
 Am x22 (
 (Af .none .add (.str [45]) x18).bind fun x23 =>
 rP H0 x23 H11) (
 rP H0 x18 H11)) (
 rec1 [x6, x18, x12] H11)
noncomputable def Sh.f29 (x1 : Aa) (H0 : Ab) : Out :=
 A2 (Ek true 2 x1 H0) fun x2 H3 =>
 (Ac 1 x2).bind fun x4 =>
 (Ad false 1 x4 H3).bind fun x5 =>
 Ap (fun rec1 vs H => Sh.f4n H0 rec1 (ag vs 0) (ag vs 1) (ag vs 2) H) AM [x2, (.str []), x5] H3
noncomputable def Sh.fu (n_1 : Aa) (H0 : Ab) : Out :=
 bK H0 (Sh.f27 n_1 H0) fun x2 H3 =>
 bK H0 (Sh.f29 x2 H3) fun x4 H5 =>
 rK H0 x4 H5
noncomputable def Sh.f2a (H0 : Ab) (rec1 : LK) (x40 x41 x42 x43 x44 : Aa) (H45 : Ab) : Out :=
 (Af .none .add x44 (.int .i64 1)).bind fun x46 =>
 rec1 [x40, x41, x42, x43, x46] H45
noncomputable def Sh.f4o (H0 : Ab) (rec3 : LK) (x72 x73 x74 x75 x76 x77 x78 x79 : Aa) (H80 : Ab) : Out :=
 (Af .none .add x77 (.str [32])).bind fun x81 =>
 bP H0 (Sh.fu x79 H80) fun x82 H83 =>
 (Af .none .add x81 x82).bind fun x84 =>
 (Af .none .add x78 (.int .i64 1)).bind fun x85 =>
 rec3 [x72, x73, x74, x75, x76, x84, x85] H83
noncomputable def Sh.f2r (H0 : Ab) (j2 : LK) (x92 x93 x94 x95 x96 x97 : Aa) (H98 : Ab) : Out :=
 (AH 1 [x97]).bind fun x99 =>
 bP H0 (BF (AI K8 1 16 x94 x99 H98)) fun x100 H101 =>
 (Af .none .add x96 (.int .i64 1)).bind fun x102 =>
 (AG x100).bind fun x103 =>
 (A5 1 x95 x102).bind fun x104 =>
 bP H0 (AN (Al 1 x104 x103 H101)) fun _ H106 =>
 j2 [x92, x93, x100, x95, x96] H106
noncomputable def Sh.f2s (H0 : Ab) (j2 : LK) (rec3 : LK) (x59 x60 x61 x62 x63 x64 x65 : Aa) (H66 : Ab) : Out :=
 (Af .none .lss x65 (.int .i64 4)).bind fun x67 =>
 Am x67 (
 (A5 5 x59 x63).bind fun x68 =>
 (Ac 1 x68).bind fun x69 =>
 (Bk 4 1 x69 x65).bind fun x70 =>
 (Ad false 1 x70 H66).bind fun x71 =>
 AS (fun j4 =>
 (A5 5 x59 x63).bind fun x86 =>
 (Ac 0 x86).bind fun x87 =>
 (Ad false 1 x87 H66).bind fun x88 =>
 (Af .none .gtr x88 (.int .i64 1)).bind fun x89 =>
 Am x89 (
 (A5 1 x62 x71).bind fun x90 =>
 (Ad false 1 x90 H66).bind fun x91 =>
 j4 [x59, x60, x61, x62, x63, x64, x65, x91] H66) (
 j4 [x59, x60, x61, x62, x63, x64, x65, x71] H66)) (fun vs H => Sh.f4o H0 rec3 (ag vs 0) (ag vs 1) (ag vs 2) (ag vs 3) (ag vs 4) (ag vs 5) (ag vs 6) (ag vs 7) H)) (
 AS (fun j5 =>
 gk x60 true (some x59) fun x107 =>
 gk x60 true (some x63) fun x108 =>
 gk x60 true (A5 5 x107 x108) fun x109 =>
 gk x60 true (Ac 0 x109) fun x110 =>
 gk x60 true (Ad false 1 x110 H66) fun x111 =>
 gk x60 true (Af .none .eql x111 (.int .i64 3)) fun x112 =>
 (A7 x60 x112 (.bool false)).bind fun x113 =>
 Am x113 (
 (Af .none .add x63 (.int .i64 1)).bind fun x114 =>
 bP H0 (Sh.f12 x59 x114 H66) fun x115 H116 =>
 j5 [x59, x60, x61, x62, x63, x115] H116) (
 j5 [x59, x60, x61, x62, x63, x64] H66)) (fun vs H => Sh.f2r H0 j2 (ag vs 0) (ag vs 1) (ag vs 2) (ag vs 3) (ag vs 4) (ag vs 5) H))
noncomputable def Sh.f13 (H0 : Ab) (rec1 : LK) (x32 x33 x34 x35 x36 : Aa) (H37 : Ab) : Out :=
 (AG x32).bind fun x38 =>
 (Af .none .lss x36 x38).bind fun x39 =>
 Am x39 (
 AS (fun j2 =>
 gk x33 true (some x32) fun x47 =>
 gk x33 true (some x36) fun x48 =>
 gk x33 true (A5 5 x47 x48) fun x49 =>
 gk x33 true (Ac 0 x49) fun x50 =>
 gk x33 true (Ad false 1 x50 H37) fun x51 =>
 gk x33 true (Af .none .lss x51 (.int .i64 3)) fun x52 =>
 (A7 x33 x52 (.bool false)).bind fun x53 =>
 Am x53 (
 j2 [x32, x33, x34, x35, x36] H37) (
 (A5 5 x32 x36).bind fun x54 =>
 (Ac 0 x54).bind fun x55 =>
 (Ad false 1 x55 H37).bind fun x56 =>
 bP H0 (Sh.fu x56 H37) fun x57 H58 =>
 Ap (fun rec3 vs H => Sh.f2s H0 j2 rec3 (ag vs 0) (ag vs 1) (ag vs 2) (ag vs 3) (ag vs 4) (ag vs 5) (ag vs 6) H) AM [x32, x33, x34, x35, x36, x57, (.int .i64 0)] H58)) (fun vs H => Sh.f2a H0 rec1 (ag vs 0) (ag vs 1) (ag vs 2) (ag vs 3) (ag vs 4) H)) (
 rPN H0 x34 H37)
noncomputable def Sh.f2b (x1 : Aa) (H0 : Ab) : Out :=
 A2 (Ek true 1 x1 H0) fun x2 H3 =>
 (Ac 0 x2).bind fun x4 =>
 (Ad false 1 x4 H3).bind fun x5 =>
 (Ad true 1 x2 H3).bind fun x6 =>
 bP H0 (Sh.f11 x6 H3) fun x7 H8 =>
 (Af .none .leq x7 (.int .u8 1)).bind fun x9 =>
 gk x9 true (Ad true 1 x2 H8) fun x10 =>
 gbP H0 x9 true H8 (Sh.fr x10 H8) fun x11 H12 =>
 gk x9 true (Af .none .gtr x11 (.int .i64 0)) fun x13 =>
 (A7 x9 x13 (.bool false)).bind fun x14 =>
 gk x14 true (Ad true 1 x2 H12) fun x15 =>
 gbP H0 x14 true H12 (Sh.fr x15 H12) fun x16 H17 =>
 gk x14 true (Af .none .lss x16 (.int .i64 3)) fun x18 =>
 (A7 x14 x18 (.bool false)).bind fun x19 =>
 Am x19 (
 (Ad true 1 x2 H17).bind fun x20 =>
 bP H0 (Sh.f24 x20 (.int .i64 3) H17) fun x21 H22 =>
 (Ar 0 x21).bind fun x23 =>
 (Ar 1 x21).bind fun x24 =>
 bP H0 (Sh.f12 x23 x24 H22) fun x25 H26 =>
 (AH 1 [x25]).bind fun x27 =>
 rPN H0 x27 H26) (
 (AG x5).bind fun x28 =>
 (Af .none .add x28 (.int .i64 1)).bind fun x29 =>
 A2 (Fd 1 8 (some [(.int .i64 0)]) x29 x29 H17) fun x30 H31 =>
 Ap (fun rec1 vs H => Sh.f13 H0 rec1 (ag vs 0) (ag vs 1) (ag vs 2) (ag vs 3) (ag vs 4) H) AM [x5, x9, (.sl [] .tight), x30, (.int .i64 0)] H31)
noncomputable def Sh.f3t (H0 : Ab) (rec1 : LK) (s_16 l_17 i_18 : Aa) (H19 : Ab) : Out :=
 (AG l_17).bind fun x20 =>
 (Af .none .lss i_18 x20).bind fun x21 =>
 Am x21 (
 (A5 1 l_17 i_18).bind fun x22 =>
 (Ad false 1 x22 H19).bind fun x23 =>
 (Af .none .add s_16 x23).bind fun x24 =>
 (Af .none .add x24 (.str [10])).bind fun x25 =>
 (Af .none .add i_18 (.int .i64 1)).bind fun x26 =>
 rec1 [x25, l_17, x26] H19) (
 rP H0 (.tup [s_16, (.int .i64 0)]) H19)
noncomputable def Sh.fj (p_1 : Aa) (H0 : Ab) : Out :=
 A2 (Ek true 2 p_1 H0) fun p_2 H3 =>
 (Ad true 2 p_2 H3).bind fun x4 =>
 bP H0 (Sh.f8 x4 H3) fun x5 H6 =>
 (unA .not x5).bind fun x7 =>
 Am x7 (
 rP H0 (.tup [(.str []), (.int .i64 1)]) H6) (
 (Ac 0 p_2).bind fun x8 =>
 (Ad false 1 x8 H6).bind fun x9 =>
 (Af .none .add (.str [91, 77, 50, 93, 32, 40, 103, 108, 105, 100, 101, 114, 41, 10, 35, 82, 32]) x9).bind fun x10 =>
 (Af .none .add x10 (.str [10])).bind fun x11 =>
 (Ac 1 p_2).bind fun x12 =>
 (Ad true 1 x12 H6).bind fun x13 =>
 bP H0 (Sh.f2b x13 H6) fun x14 H15 =>
 Ap (fun rec1 vs H => Sh.f3t H0 rec1 (ag vs 0) (ag vs 1) (ag vs 2) H) AM [x11, x14, (.int .i64 0)] H15)
noncomputable def Sh.fk (b_1 : Aa) (H0 : Ab) : Out :=
 (A6 (some [(.str []), (.int .i64 0)]) [(0, 1, b_1)]).bind fun x2 =>
 (A6 (some [(.int .i64 0), (.int .i64 0)]) [(0, 1, (.int .i64 1000)), (1, 1, (.int .i64 100000))]).bind fun x3 =>
 (A6 (some [(.str []), (.int .i64 0), (.int .i64 0), (.int .i64 0), (.str []), (.sl [] .tight), (.sl [] .tight)]) [(0, 2, x2), (2, 2, x3)]).bind fun x4 =>
 A2 (Ek true 7 x4 H0) fun x5 H6 =>
 bP H0 (Sh.fz (.bfn 21 [x5]) H6) fun x7 H8 =>
 A2 (AF (some [(.int .i64 0), (.str [])]) H8) fun h_9 H10 =>
 bP H0 (AN (Al 2 h_9 x7 H10)) fun _ H12 =>
 (Ac 1 h_9).bind fun x13 =>
 bC (Ad false 1 x13 H12) (fun _ => True) fun x14 =>
 (Ac 0 h_9).bind fun x15 =>
 bC (Ad false 1 x15 H12) (fun _ => True) fun x16 =>
 (Af .none .eql x16 (.int .i64 0)).bind fun x17 =>
 gk x17 false (Ac 0 h_9) fun x18 =>
 gkc x17 false (Ad false 1 x18 H12) (fun _ _ => True) fun x19 =>
 gk x17 false (Af .none .eql x19 (.int .i64 3)) fun x20 =>
 (A7 x17 (.bool true) x20).bind fun x21 =>
 rP H0 (.tup [x14, x21]) H12
noncomputable def Sl.gliderref11_Wide : Ab → Out := Classical.choose (⟨Sh.ff, rfl⟩ : ∃ f : Ab → Out, f = Sh.ff)
theorem Sl.gliderref11_Wide_eq : Sl.gliderref11_Wide = Sh.ff := Classical.choose_spec (⟨Sh.ff, rfl⟩ : ∃ f : Ab → Out, f = Sh.ff)
noncomputable def Sl.macro_Read : Aa → Aa → Ab → Out := Classical.choose (⟨Sh.fi, rfl⟩ : ∃ f : Aa → Aa → Ab → Out, f = Sh.fi)
theorem Sl.macro_Read_eq : Sl.macro_Read = Sh.fi := Classical.choose_spec (⟨Sh.fi, rfl⟩ : ∃ f : Aa → Aa → Ab → Out, f = Sh.fi)
noncomputable def Sl.gliderref14_Text : Aa → Ab → Out := Classical.choose (⟨Sh.fj, rfl⟩ : ∃ f : Aa → Ab → Out, f = Sh.fj)
theorem Sl.gliderref14_Text_eq : Sl.gliderref14_Text = Sh.fj := Classical.choose_spec (⟨Sh.fj, rfl⟩ : ∃ f : Aa → Ab → Out, f = Sh.fj)
noncomputable def Sl.macro_Hint : Aa → Ab → Out := Classical.choose (⟨Sh.fk, rfl⟩ : ∃ f : Aa → Ab → Out, f = Sh.fk)
theorem Sl.macro_Hint_eq : Sl.macro_Hint = Sh.fk := Classical.choose_spec (⟨Sh.fk, rfl⟩ : ∃ f : Aa → Ab → Out, f = Sh.fk)
noncomputable def Sh.fl (H0 : Ab) : Out :=
 bP H0 (Sl.gliderref11_Wide H0) fun x1 H2 =>
 A2 (AF (some [(.int .i64 0), (.int .i64 0)]) H2) fun x3 H4 =>
 bP H0 (AN (Al 2 x3 x1 H4)) fun _ H6 =>
 (Ad true 2 x3 H6).bind fun x7 =>
 bP H0 (Sl.macro_Read (.str [91, 77, 50, 93, 10, 50, 32, 49]) x7 H6) fun x8 H9 =>
 (Ar 0 x8).bind fun x10 =>
 (Ar 1 x8).bind fun x11 =>
 (Ar 2 x8).bind fun x12 =>
 A2 (AF (some [(.str []), (.sl [] .tight)]) H9) fun x13 H14 =>
 bP H0 (AN (Al 2 x13 x10 H14)) fun _ H16 =>
 (Ad true 2 x3 H16).bind fun x17 =>
 bP H0 (Sl.macro_Read (.str [91, 77, 50, 93, 32, 120, 13, 10, 35, 82, 32, 97, 98, 99, 10, 35, 67, 32, 121, 10, 35, 71, 32, 55, 10, 36, 36, 36, 36, 46, 46, 46, 46, 42, 36, 10, 52, 32, 49, 32, 48, 32, 48, 32, 48, 10, 53, 32, 48, 32, 48, 32, 48, 32, 50]) x17 H16) fun x18 H19 =>
 (Ar 0 x18).bind fun x20 =>
 (Ar 1 x18).bind fun x21 =>
 (Ar 2 x18).bind fun x22 =>
 A2 (AF (some [(.str []), (.sl [] .tight)]) H19) fun x23 H24 =>
 bP H0 (AN (Al 2 x23 x20 H24)) fun _ H26 =>
 (Ad true 2 x3 H26).bind fun x27 =>
 bP H0 (Sl.macro_Read (.str [91, 77, 50, 93, 10, 49, 32, 48, 32, 48, 32, 48, 32, 50, 53, 53, 10, 50, 32, 49, 32, 48, 32, 49, 32, 48, 10]) x27 H26) fun x28 H29 =>
 (Ar 0 x28).bind fun x30 =>
 (Ar 1 x28).bind fun x31 =>
 (Ar 2 x28).bind fun x32 =>
 A2 (AF (some [(.str []), (.sl [] .tight)]) H29) fun x33 H34 =>
 bP H0 (AN (Al 2 x33 x30 H34)) fun _ H36 =>
 (Ad true 2 x23 H36).bind fun x37 =>
 bP H0 (Sl.gliderref14_Text x37 H36) fun x38 H39 =>
 (Ar 0 x38).bind fun x40 =>
 (Ar 1 x38).bind fun x41 =>
 (Ad true 2 x33 H39).bind fun x42 =>
 bP H0 (Sl.gliderref14_Text x42 H39) fun x43 H44 =>
 (Ar 0 x43).bind fun x45 =>
 (Ar 1 x43).bind fun x46 =>
 bP H0 (Sl.macro_Hint (.str [91, 77, 50, 93, 10, 49, 32, 48, 32, 48, 32, 48, 32, 50, 53, 53, 10, 50, 32, 49]) H44) fun x47 H48 =>
 (Ar 0 x47).bind fun x49 =>
 (Ar 1 x47).bind fun x50 =>
 (Af .none .add (.str [91, 77, 50, 93, 10, 49, 32, 48, 32, 48, 32, 48, 32, 50, 53, 53, 10, 50, 32, 49]) x49).bind fun x51 =>
 (Ad true 2 x3 H48).bind fun x52 =>
 bP H0 (Sl.macro_Read x51 x52 H48) fun x53 H54 =>
 (Ar 0 x53).bind fun x55 =>
 (Ar 1 x53).bind fun x56 =>
 (Ar 2 x53).bind fun x57 =>
 A2 (AF (some [(.str []), (.sl [] .tight)]) H54) fun x58 H59 =>
 bP H0 (AN (Al 2 x58 x55 H59)) fun _ H61 =>
 bP H0 (Sl.macro_Hint (.str [91, 77, 50, 93, 10, 10]) H61) fun x62 H63 =>
 (Ar 0 x62).bind fun x64 =>
 (Ar 1 x62).bind fun x65 =>
 (A6 (some [(.int .i64 0), (.int .i64 0)]) [(1, 1, (.int .i64 1))]).bind fun x66 =>
 bP H0 (Sl.macro_Read (.str [91, 77, 50, 93, 10, 49, 32, 48, 32, 48, 32, 48, 32, 49, 10, 50, 32, 49, 32, 49, 32, 48, 32, 48]) x66 H63) fun x67 H68 =>
 (Ar 0 x67).bind fun x69 =>
 (Ar 1 x67).bind fun x70 =>
 (Ar 2 x67).bind fun x71 =>
 A2 (AF (some [(.str []), (.sl [] .tight)]) H68) fun x72 H73 =>
 bP H0 (AN (Al 2 x72 x69 H73)) fun _ H75 =>
 (Af .none .eql x11 (.int .i64 7)).bind fun x76 =>
 gk x76 true (some x12) fun x77 =>
 gk x76 true (Af .none .eql x77 (.int .i64 2)) fun x78 =>
 (A7 x76 x78 (.bool false)).bind fun x79 =>
 gk x79 true (some x22) fun x80 =>
 gk x79 true (Af .none .eql x80 (.int .i64 0)) fun x81 =>
 (A7 x79 x81 (.bool false)).bind fun x82 =>
 gk x82 true (some x32) fun x83 =>
 gk x82 true (Af .none .eql x83 (.int .i64 0)) fun x84 =>
 (A7 x82 x84 (.bool false)).bind fun x85 =>
 gk x85 true (some x41) fun x86 =>
 gk x85 true (Af .none .eql x86 (.int .i64 0)) fun x87 =>
 (A7 x85 x87 (.bool false)).bind fun x88 =>
 gk x88 true (some x46) fun x89 =>
 gk x88 true (Af .none .eql x89 (.int .i64 0)) fun x90 =>
 (A7 x88 x90 (.bool false)).bind fun x91 =>
 gk x91 true (some x40) fun x92 =>
 gk x91 true (Af .none .eql x92 (.str [91, 77, 50, 93, 32, 40, 103, 108, 105, 100, 101, 114, 41, 10, 35, 82, 32, 97, 98, 99, 10, 36, 36, 36, 36, 46, 46, 46, 46, 42, 36, 10, 52, 32, 48, 32, 48, 32, 48, 32, 49, 10])) fun x93 =>
 (A7 x91 x93 (.bool false)).bind fun x94 =>
 gk x94 true (some x45) fun x95 =>
 gk x94 true (Af .none .eql x95 (.str [91, 77, 50, 93, 32, 40, 103, 108, 105, 100, 101, 114, 41, 10, 35, 82, 32, 66, 51, 47, 83, 50, 51, 10, 49, 32, 48, 32, 48, 32, 48, 32, 50, 53, 53, 10, 50, 32, 49, 32, 48, 32, 49, 32, 48, 10])) fun x96 =>
 (A7 x94 x96 (.bool false)).bind fun x97 =>
 gk x97 true (some x50) fun x98 =>
 (A7 x97 x98 (.bool false)).bind fun x99 =>
 gk x99 true (some x57) fun x100 =>
 gk x99 true (Af .none .eql x100 (.int .i64 0)) fun x101 =>
 (A7 x99 x101 (.bool false)).bind fun x102 =>
 gk x102 true (some x65) fun x103 =>
 gk x102 true (unA .not x103) fun x104 =>
 (A7 x102 x104 (.bool false)).bind fun x105 =>
 gk x105 true (some x71) fun x106 =>
 gk x105 true (Af .none .eql x106 (.int .i64 4)) fun x107 =>
 (A7 x105 x107 (.bool false)).bind fun x108 =>
 rP H0 x108 H75
noncomputable def Sh.f2c (l_1 n_2 : Aa) (H0 : Ab) : Out :=
 bK H0 (Sh.f5 l_1 H0) fun x3 H4 =>
 (A5 1 x3 n_2).bind fun x5 =>
 (Ad false 1 x5 H4).bind fun x6 =>
 rK H0 x6 H4
noncomputable def Sh.f2d (l_1 n_2 k_3 : Aa) (H0 : Ab) : Out :=
 (Af .none .sub n_2 (.int .i64 1)).bind fun x4 =>
 (A5 5 l_1 x4).bind fun x5 =>
 (Ac 1 x5).bind fun x6 =>
 (Bk 4 1 x6 k_3).bind fun x7 =>
 (Ad false 1 x7 H0).bind fun x8 =>
 (Af .none .eql x8 (.int .i64 0)).bind fun x9 =>
 Am x9 (
 rK H0 (.int .i64 0) H0) (
 (Af .none .sub x8 (.int .i64 1)).bind fun x10 =>
 (Af .none .sub (.int .i64 3) k_3).bind fun x11 =>
 (A5 5 l_1 x10).bind fun x12 =>
 (Ac 1 x12).bind fun x13 =>
 (Bk 4 1 x13 x11).bind fun x14 =>
 (Ad false 1 x14 H0).bind fun x15 =>
 rK H0 x15 H0)
noncomputable def Sh.f3u (H0 : Ab) (rec1 : LK) (rec2 : LK) (n_23 out_24 x25 k_26 : Aa) (H27 : Ab) : Out :=
 (Af .none .lss k_26 (.int .i64 4)).bind fun x28 =>
 Am x28 (
 bP H0 (Sh.f2d out_24 n_23 k_26 H27) fun x29 H30 =>
 (Ac 1 x25).bind fun x31 =>
 (Bk 4 1 x31 k_26).bind fun x32 =>
 bP H0 (AN (Al 1 x32 x29 H30)) fun _ H34 =>
 (Af .none .add k_26 (.int .i64 1)).bind fun x35 =>
 rec2 [n_23, out_24, x25, x35] H34) (
 (Ad true 5 x25 H27).bind fun x36 =>
 (AH 5 [x36]).bind fun x37 =>
 bP H0 (BF (AI As 5 40 out_24 x37 H27)) fun x38 H39 =>
 (AG x38).bind fun x40 =>
 rec1 [x40, x38] H39)
noncomputable def Sh.f4p (H0 : Ab) (rec1 : LK) (n_8 out_9 : Aa) (H10 : Ab) : Out :=
 bP H0 (Sh.fq out_9 n_8 H10) fun x11 H12 =>
 Am x11 (
 (Af .none .sub n_8 (.int .i64 1)).bind fun x13 =>
 (A5 5 out_9 x13).bind fun x14 =>
 (Ac 0 x14).bind fun x15 =>
 (Ad false 1 x15 H12).bind fun x16 =>
 (Af .none .sub x16 (.int .i64 1)).bind fun x17 =>
 (A6 (some [(.int .i64 0), (.int .i64 0), (.int .i64 0), (.int .i64 0), (.int .i64 0)]) [(0, 1, x17)]).bind fun x18 =>
 A2 (AF (some [(.int .i64 0), (.int .i64 0), (.int .i64 0), (.int .i64 0), (.int .i64 0)]) H12) fun x19 H20 =>
 bP H0 (AN (Al 5 x19 x18 H20)) fun _ H22 =>
 Ap (fun rec2 vs H => Sh.f3u H0 rec1 rec2 (ag vs 0) (ag vs 1) (ag vs 2) (ag vs 3) H) AM [n_8, out_9, x19, (.int .i64 0)] H22) (
 rPN H0 (.tup [out_9, n_8]) H12)
noncomputable def Sh.f2e (l_1 n_2 : Aa) (H0 : Ab) : Out :=
 (AH 5 []).bind fun x3 =>
 bP H0 (BF (AI As 5 40 x3 l_1 H0)) fun x4 H5 =>
 bP H0 (Sh.f2c x4 n_2 H5) fun x6 H7 =>
 Am x6 (
 rPN H0 (.tup [x4, (.int .i64 0)]) H7) (
 Ap (fun rec1 vs H => Sh.f4p H0 rec1 (ag vs 0) (ag vs 1) H) AM [n_2, x4] H7)
noncomputable def Sh.f3v (H0 : Ab) (rec1 : LK) (l_5 x6 i_7 : Aa) (H8 : Ab) : Out :=
 (AG l_5).bind fun x9 =>
 (Af .none .lss i_7 x9).bind fun x10 =>
 Am x10 (
 (A5 5 l_5 i_7).bind fun x11 =>
 bC (Ad true 5 x11 H8) (fun _ => True) fun x12 =>
 bC (Ad true 5 x6 H8) (fun _ => True) fun x13 =>
 (Af (.flat 5) .eql x12 x13).bind fun x14 =>
 Am x14 (
 (Af .none .add i_7 (.int .i64 1)).bind fun x15 =>
 rP H0 x15 H8) (
 (Af .none .add i_7 (.int .i64 1)).bind fun x16 =>
 rec1 [l_5, x6, x16] H8)) (
 rP H0 (.int .i64 0) H8)
noncomputable def Sh.f2f (l_1 x2 : Aa) (H0 : Ab) : Out :=
 A2 (Ek true 5 x2 H0) fun x3 H4 =>
 Ap (fun rec1 vs H => Sh.f3v H0 rec1 (ag vs 0) (ag vs 1) (ag vs 2) H) AM [l_1, x3, (.int .i64 0)] H4
noncomputable def Sh.f4q (H0 : Ab) (x49 x50 x51 x52 : Aa) (H53 : Ab) : Out :=
 (A5 1 x51 x49).bind fun x54 =>
 bK H0 (AN (Al 1 x54 x52 H53)) fun _ H56 =>
 rK H0 (.tup [x50, x51, x52]) H56
noncomputable def Sh.f3w (H0 : Ab) (self : Aa → Aa → Aa → Aa → Aa → Ab → Out) (rec1 : LK) (x20 x21 x22 x23 x24 x25 x26 : Aa) (H27 : Ab) : Out :=
 (Af .none .lss x26 (.int .i64 4)).bind fun x28 =>
 gk x28 true (Ac 0 x25) fun x29 =>
 gk x28 true (Ad false 1 x29 H27) fun x30 =>
 gk x28 true (Af .none .gtr x30 (.int .i64 1)) fun x31 =>
 (A7 x28 x31 (.bool false)).bind fun x32 =>
 Am x32 (
 (Ac 1 x25).bind fun x33 =>
 (Bk 4 1 x33 x26).bind fun x34 =>
 (Ad false 1 x34 H27).bind fun x35 =>
 bK H0 (self x20 x21 x35 x23 x24 H27) fun x36 H37 =>
 (Ar 0 x36).bind fun x38 =>
 (Ar 1 x36).bind fun x39 =>
 (Ar 2 x36).bind fun x40 =>
 (Ac 1 x25).bind fun x41 =>
 (Bk 4 1 x41 x26).bind fun x42 =>
 bK H0 (AN (Al 1 x42 x40 H37)) fun _ H44 =>
 (Af .none .add x26 (.int .i64 1)).bind fun x45 =>
 rec1 [x20, x21, x22, x38, x39, x25, x45] H44) (
 (Ad true 5 x25 H27).bind fun x46 =>
 bK H0 (Sh.f2f x23 x46 H27) fun x47 H48 =>
 AS (fun j2 =>
 (Af .none .eql x47 (.int .i64 0)).bind fun x57 =>
 Am x57 (
 (Ad true 5 x25 H48).bind fun x58 =>
 (AH 5 [x58]).bind fun x59 =>
 bK H0 (BF (AI As 5 40 x23 x59 H48)) fun x60 H61 =>
 (AG x60).bind fun x62 =>
 j2 [x22, x60, x24, x62] H61) (
 j2 [x22, x23, x24, x47] H48)) (fun vs H => Sh.f4q H0 (ag vs 0) (ag vs 1) (ag vs 2) (ag vs 3) H))
noncomputable def Sh.f2t (self : Aa → Aa → Aa → Aa → Aa → Ab → Out) (x1 x2 x3 x4 x5 : Aa) (H0 : Ab) : Out :=
 (A5 1 x2 x3).bind fun x6 =>
 (Ad false 1 x6 H0).bind fun x7 =>
 Am x7 (
 rK H0 (.tup [x4, x5, (.int .i64 0)]) H0) (
 (A5 1 x5 x3).bind fun x8 =>
 (Ad false 1 x8 H0).bind fun x9 =>
 (Af .none .gtr x9 (.int .i64 0)).bind fun x10 =>
 Am x10 (
 (A5 1 x5 x3).bind fun x11 =>
 bC (Ad false 1 x11 H0) (fun _ => True) fun x12 =>
 rK H0 (.tup [x4, x5, x12]) H0) (
 (Af .none .sub x3 (.int .i64 1)).bind fun x13 =>
 (A5 5 x1 x13).bind fun x14 =>
 (Ad true 5 x14 H0).bind fun x15 =>
 A2 (AF (some [(.int .i64 0), (.int .i64 0), (.int .i64 0), (.int .i64 0), (.int .i64 0)]) H0) fun x16 H17 =>
 bK H0 (AN (Al 5 x16 x15 H17)) fun _ H19 =>
 Ap (fun rec1 vs H => Sh.f3w H0 self rec1 (ag vs 0) (ag vs 1) (ag vs 2) (ag vs 3) (ag vs 4) (ag vs 5) (ag vs 6) H) AM [x1, x2, x3, x4, x5, x16, (.int .i64 0)] H19))
noncomputable def Sh.fe : Nat → Aa → Aa → Aa → Aa → Aa → Ab → Out
 | 0 => fun _ _ _ _ _ _ => none
 | d + 1 => Sh.f2t (Sh.fe d)
noncomputable def Sh.fm (l_1 n_2 : Aa) (H0 : Ab) : Out :=
 A2 (AF (some [(.sl [] .tight)]) H0) fun x3 H4 =>
 bP H0 (Sh.fc l_1 H4) fun x5 H6 =>
 (unA .not x5).bind fun x7 =>
 gk x7 false (some n_2) fun x8 =>
 gk x7 false (Af .none .lss x8 (.int .i64 0)) fun x9 =>
 (A7 x7 (.bool true) x9).bind fun x10 =>
 gk x10 false (some n_2) fun x11 =>
 gk x10 false (some l_1) fun x12 =>
 gk x10 false (AG x12) fun x13 =>
 gk x10 false (Af .none .gtr x11 x13) fun x14 =>
 (A7 x10 (.bool true) x14).bind fun x15 =>
 Am x15 (
 (A6 (some [(.sl [] .tight)]) []).bind fun x16 =>
 bP H0 (AN (Al 1 x3 x16 H6)) fun _ H18 =>
 (La [Ad true 1 x3 H18, some (.int .i64 1)]).bind fun x19 => rPN H0 x19 H18) (
 bP H0 (Sh.f2e l_1 n_2 H6) fun x20 H21 =>
 (Ar 0 x20).bind fun x22 =>
 (Ar 1 x20).bind fun x23 =>
 Cg (Sh.f5 x22 H21) fun x24 H25 =>
 (AG x22).bind fun x26 =>
 (Af .none .add x26 (.int .i64 1)).bind fun x27 =>
 A2 (Fd 1 8 (some [(.int .i64 0)]) x27 x27 H25) fun x28 H29 =>
 Cg (Sh.fe AM x22 x24 x23 (.sl [] .tight) x28 H29) fun x30 H31 =>
 (Ar 0 x30).bind fun x32 =>
 (Ar 1 x30).bind fun x33 =>
 (Ar 2 x30).bind fun x34 =>
 (A6 (some [(.sl [] .tight)]) [(0, 1, x32)]).bind fun x35 =>
 bP H0 (AN (Al 1 x3 x35 H31)) fun _ H37 =>
 (La [Ad true 1 x3 H37, some (.int .i64 0)]).bind fun x38 => rPN H0 x38 H37)
noncomputable def Sh.f4r (H0 : Ab) (rec1 : LK) (a_6 b_7 i_8 : Aa) (H9 : Ab) : Out :=
 (AG a_6).bind fun x10 =>
 (Af .none .lss i_8 x10).bind fun x11 =>
 Am x11 (
 (A5 5 a_6 i_8).bind fun x12 =>
 bC (Ad true 5 x12 H9) (fun _ => True) fun x13 =>
 (A5 5 b_7 i_8).bind fun x14 =>
 bC (Ad true 5 x14 H9) (fun _ => True) fun x15 =>
 (Af (.flat 5) .neq x13 x15).bind fun x16 =>
 Am x16 (
 rK H0 (.bool false) H9) (
 (Af .none .add i_8 (.int .i64 1)).bind fun x17 =>
 rec1 [a_6, b_7, x17] H9)) (
 rK H0 (.bool true) H9)
noncomputable def Sh.f2g (a_1 b_2 : Aa) (H0 : Ab) : Out :=
 (AG a_1).bind fun x3 =>
 (AG b_2).bind fun x4 =>
 (Af .none .neq x3 x4).bind fun x5 =>
 Am x5 (
 rK H0 (.bool false) H0) (
 Ap (fun rec1 vs H => Sh.f4r H0 rec1 (ag vs 0) (ag vs 1) (ag vs 2) H) AM [a_1, b_2, (.int .i64 0)] H0)
noncomputable def Sh.fv (a_1 b_2 : Aa) (H0 : Ab) : Out :=
 A2 (Ek true 1 a_1 H0) fun a_3 H4 =>
 A2 (Ek true 1 b_2 H4) fun b_5 H6 =>
 (Ac 0 a_3).bind fun x7 =>
 (Ad false 1 x7 H6).bind fun x8 =>
 (Ac 0 b_5).bind fun x9 =>
 (Ad false 1 x9 H6).bind fun x10 =>
 bP H0 (Sh.f2g x8 x10 H6) fun x11 H12 =>
 rP H0 x11 H12
noncomputable def Sh.fn (a_1 b_2 : Aa) (H0 : Ab) : Out :=
 A2 (Ek true 2 a_1 H0) fun a_3 H4 =>
 A2 (Ek true 2 b_2 H4) fun b_5 H6 =>
 (Ac 0 a_3).bind fun x7 =>
 (Ad false 1 x7 H6).bind fun x8 =>
 (Ac 0 b_5).bind fun x9 =>
 (Ad false 1 x9 H6).bind fun x10 =>
 (Af .none .eql x8 x10).bind fun x11 =>
 gk x11 true (Ac 1 a_3) fun x12 =>
 gk x11 true (Ad true 1 x12 H6) fun x13 =>
 gk x11 true (Ac 1 b_5) fun x14 =>
 gk x11 true (Ad true 1 x14 H6) fun x15 =>
 gbP H0 x11 true H6 (Sh.fv x13 x15 H6) fun x16 H17 =>
 (A7 x11 x16 (.bool false)).bind fun x18 =>
 rP H0 x18 H17
noncomputable def Sl.gliderlaw19_alive : Ab → Out := Classical.choose (⟨Sh.fl, rfl⟩ : ∃ f : Ab → Out, f = Sh.fl)
theorem Sl.gliderlaw19_alive_eq : Sl.gliderlaw19_alive = Sh.fl := Classical.choose_spec (⟨Sh.fl, rfl⟩ : ∃ f : Ab → Out, f = Sh.fl)
noncomputable def Sl.gliderref11_Same : Aa → Aa → Ab → Out := Classical.choose (⟨Sh.fn, rfl⟩ : ∃ f : Aa → Aa → Ab → Out, f = Sh.fn)
theorem Sl.gliderref11_Same_eq : Sl.gliderref11_Same = Sh.fn := Classical.choose_spec (⟨Sh.fn, rfl⟩ : ∃ f : Aa → Aa → Ab → Out, f = Sh.fn)
noncomputable def Sl.gliderref06_Of : Aa → Aa → Ab → Out := Classical.choose (⟨Sh.fm, rfl⟩ : ∃ f : Aa → Aa → Ab → Out, f = Sh.fm)
theorem Sl.gliderref06_Of_eq : Sl.gliderref06_Of = Sh.fm := Classical.choose_spec (⟨Sh.fm, rfl⟩ : ∃ f : Aa → Aa → Ab → Out, f = Sh.fm)
noncomputable def Sl.gliderref11_Right : Aa → Ab → Out := Classical.choose (⟨Sh.f8, rfl⟩ : ∃ f : Aa → Ab → Out, f = Sh.f8)
theorem Sl.gliderref11_Right_eq : Sl.gliderref11_Right = Sh.f8 := Classical.choose_spec (⟨Sh.f8, rfl⟩ : ∃ f : Aa → Ab → Out, f = Sh.f8)
noncomputable def Sh.f3x (rule_1 l_2 n_3 : Aa) (H0 : Ab) : Out :=
 bP H0 (Sl.gliderlaw19_alive H0) fun x4 H5 =>
 (unA .not x4).bind fun x6 =>
 Am x6 (
 rP H0 (.bool false) H5) (
 (AG l_2).bind fun x7 =>
 (Af .none .gtr x7 (.int .i64 60)).bind fun x8 =>
 gk x8 false (some rule_1) fun x9 =>
 gk x8 false (B6 x9) fun x10 =>
 gk x8 false (Af .none .gtr x10 (.int .i64 100)) fun x11 =>
 (A7 x8 (.bool true) x11).bind fun x12 =>
 Am x12 (
 rP H0 (.bool true) H5) (
 bP H0 (Sl.gliderref06_Of l_2 n_3 H5) fun x13 H14 =>
 (Ar 0 x13).bind fun x15 =>
 (Ar 1 x13).bind fun x16 =>
 A2 (AF (some [(.sl [] .tight)]) H14) fun q_17 H18 =>
 bP H0 (AN (Al 1 q_17 x15 H18)) fun _ H20 =>
 (Ad true 1 q_17 H20).bind fun x21 =>
 (A6 (some [(.str []), (.sl [] .tight)]) [(0, 1, rule_1), (1, 1, x21)]).bind fun x22 =>
 A2 (AF (some [(.str []), (.sl [] .tight)]) H20) fun p_23 H24 =>
 bP H0 (AN (Al 2 p_23 x22 H24)) fun _ H26 =>
 (Af .none .neq x16 (.int .i64 0)).bind fun x27 =>
 gk x27 false (Ad true 2 p_23 H26) fun x28 =>
 gbP H0 x27 false H26 (Sl.gliderref11_Right x28 H26) fun x29 H30 =>
 gk x27 false (unA .not x29) fun x31 =>
 (A7 x27 (.bool true) x31).bind fun x32 =>
 Am x32 (
 rP H0 (.bool true) H30) (
 (Ad true 2 p_23 H30).bind fun x33 =>
 bP H0 (Sl.gliderref14_Text x33 H30) fun x34 H35 =>
 (Ar 0 x34).bind fun x36 =>
 (Ar 1 x34).bind fun x37 =>
 bP H0 (Sl.gliderref11_Wide H35) fun x38 H39 =>
 bP H0 (Sl.macro_Read x36 x38 H39) fun x40 H41 =>
 (Ar 0 x40).bind fun x42 =>
 (Ar 1 x40).bind fun x43 =>
 (Ar 2 x40).bind fun x44 =>
 A2 (AF (some [(.str []), (.sl [] .tight)]) H41) fun o_45 H46 =>
 bP H0 (AN (Al 2 o_45 x42 H46)) fun _ H48 =>
 (Af .none .eql x44 (.int .i64 0)).bind fun x49 =>
 gk x49 true (Ad true 2 o_45 H48) fun x50 =>
 gk x49 true (Ad true 2 p_23 H48) fun x51 =>
 gbP H0 x49 true H48 (Sl.gliderref11_Same x50 x51 H48) fun x52 H53 =>
 (A7 x49 x52 (.bool false)).bind fun x54 =>
 rP H0 x54 H53)))
noncomputable def Sl.gliderref05_Loose : Aa → Ab → Out := Classical.choose (⟨Sh.fc, rfl⟩ : ∃ f : Aa → Ab → Out, f = Sh.fc)
noncomputable def Sl.gliderref05_Same : Aa → Aa → Ab → Out := Classical.choose (⟨Sh.fv, rfl⟩ : ∃ f : Aa → Aa → Ab → Out, f = Sh.fv)
end Go.Gm
namespace Go.Gm
open Go.Proofs
set_option maxRecDepth 100000
theorem mixed : Tryz.prog.follows .mixedOrders = true := by kernel_rfl
noncomputable def Nh : Orc := noO
theorem MS : T1 Tryz.prog Gs false Nh Tryz.f120 (.two .leaf (.two .leaf .leaf)) .keep Sh.f2u := by unfold T1; intros; kernel_rfl
theorem MM : AJ Tryz.prog Gs 120 (ap1 Sh.f2u) := Bu mixed (Ay _ _) Tryz.func120 (by kernel_rfl) MS
noncomputable def P8 : Orc := noO
theorem Pi : T1 Tryz.prog Gs false P8 Tryz.f125 (.two .leaf (.two .leaf .leaf)) .keep Sh.f17 := by unfold T1; intros; kernel_rfl
theorem OE : AJ Tryz.prog Gs 125 (ap1 Sh.f17) := Bu mixed (Ay _ _) Tryz.func125 (by kernel_rfl) Pi
noncomputable def orc_limb_cut : Orc := (ent 125 (ap1 Sh.f17) noO)
theorem tie_limb_cut : T1 Tryz.prog Gs false orc_limb_cut Tryz.f121 (.two .leaf (.two (.one (.loop [0] (.two (.two .leaf (.two .leaf .leaf)) (.one .leaf)))) (.two .leaf .leaf))) .keepN Sh.f18 := by unfold T1; intros; kernel_rfl
theorem QG : AJ Tryz.prog Gs 121 (ap1 Sh.f18) := Bu mixed ((Ag OE (Ay _ _))) Tryz.func121 (by kernel_rfl) tie_limb_cut
end Go.Gm
namespace Go.Gm
open Go.ChangeShapes Go.WideShapes Go.ChangeAt Go.RowKit
def Lm (W : World) : Env := ⟨fun _ _ => none, fun _ _ => none, fun b o => W.cell? ⟨b, o, none⟩⟩
theorem sim0 (W : World) (hf : ∀ b cs, FixT b = some cs → 0 < cs.size ∧ ∃ t fr, W.heap[b]? = some (.cells cs t fr)) : Sim (Lm W) [] W :=
 ⟨fun id B h => (by simp at h), fun id g b h => (by cases h), fun id g b h => (by cases h), fun id B n h => (by simp at h), fun id id' b h => (by simp [loc] at h), fun b o v h => h, fun b cs h => by
  obtain ⟨h0, t, fr, h1⟩ := hf b cs h
  exact ⟨⟨t, fr, h1⟩, ⟨cs[0], by rw [show (Lm W).I b 0 = W.cell? ⟨b, 0, none⟩ from rfl, Bb h1]; simp [h0]⟩, fun id => by simp [loc]⟩⟩
theorem Pn {E0 : Env} {w0 : World} {E : Env} {H : Ab} {w : World} (h : Bv E0 [] w0 E H w) : Below w0.heap.size w0 w :=
 ⟨h.os, h.tape, h.output, h.size, fun k hk => h.frame k hk (fun ⟨i, hi⟩ => by simp [loc] at hi)⟩
theorem calls_law {P : Program} {G : FY} {g : FuncId} {F : List Aa → Ab → Out} (hF : AJ P G g F) {fn : Func} (hf : P.funcs[g]? = some fn) (hb : fn.body.isNone = false) (hn : (fn.name == "runtime.NumGoroutine") = false)
  {W : World} (hfx : ∀ b cs, FixT b = some cs → 0 < cs.size ∧ ∃ t fr, W.heap[b]? = some (.cells cs t fr)) (hG : Cw G (Lm W)) {args : List Aa} {vs : Array Value} (hv : At (Lm W) args vs.toList) (h : F args [] = some (.ret (.bool true), [])) :
  Calls P g vs W fun e W' => e = .returned (.bool true) ∧ Below W.heap.size W W' := by
 rcases hF args [] _ _ h (Lm W) W vs hG (sim0 W hfx) hv with ⟨_, h1⟩ | ⟨v, w', h1, _⟩
 ·refine h1.mono fun e W' ⟨E', h2, _, h3⟩ => ⟨?_, Pn h3⟩
  cases e with
  | returned v => rw [An.bool_inv h2]
  | panicked c => exact h2.elim
  | outgrown => exact h2.elim
 ·rw [Eg hf hb hn] at h1; cases h1
section
variable {H : Type} {enc : TypeId × Value → H} {P : Program}
theorem Ln (hl : laidOutB P = true) {W W' : World} (hb : Below W.heap.size W W') {sp : Nat → Bool} : ∀ {ts : List TypeId} {vs : List Value} {ds : List (DataW H)} {ps : List MemPlace},
  (ts.all fun t => P.readableRec t && decide (t < P.types.size)) = true → DataW.TrodAll enc P W 0 (fun _ => true) true ts vs ds ps → (∀ x ∈ ps, x.block < W.heap.size) → (∀ x ∈ ps, sp x.block = true) → DataW.TrodAll enc P W' 0 sp true ts vs ds ps
 | [], _, _, _, _, h, _, _ => by
  obtain ⟨rfl, rfl, rfl⟩ := trodAll_nil h
  exact trodAll_mk0
 | t :: ts, _, _, _, ht, h, hlt, hsp => by
  obtain ⟨v, vs1, d, ds1, a, b, rfl, rfl, rfl, h1, h2⟩ := trodAll_cons h
  simp only [List.all_cons, Bool.and_eq_true, decide_eq_true_eq] at ht
  exact trodAll_cons_mk (WideElems.Trod_stays hl ht.1.1 ht.1.2 h1 (fun x hx => hb.same (hlt x (by simp [hx]))) (fun x hx => hsp x (by simp [hx])))
   (Ln hl hb (by simpa using ht.2) h2 (fun x hx => hlt x (by simp [hx])) (fun x hx => hsp x (by simp [hx])))
theorem post_law {f : Func} {s : ChangeSpec} {W W' : World} {args : Array Value} {ds gs : List (DataW H)} {before : List MemPlace} (hW : DataW.Whole enc P f.params.toList s.vars false W args.toList ds gs before)
  (hl : laidOutB P = true) (hr : (f.params.toList.all fun t => P.readableRec t && decide (t < P.types.size)) = true) (hB : Below W.heap.size W W') (hvars : s.vars = []) {tb : TypeId} (hrt : f.resultTypes = #[tb]) (hbool : P.underlying tb = some .bool)
  (hres : (s.fn H (ds ++ gs)).results = [.lit (.bool true)]) (hargs : (s.fn H (ds ++ gs)).args = ds) (hvs : (s.fn H (ds ++ gs)).vars = []) : s.post enc P f false true false false W args (.bool true) W' := by
 have hold : ∀ p ∈ before, (fun b => decide (b < W.heap.size)) p.block = true := fun p hp => by simpa using hW.lt p hp
 have hlt := hW.lt
 have hW' := hW
 obtain ⟨p, q, hA, hV, hpq, hz, hn⟩ := hW
 rw [hvars] at hV
 obtain ⟨rfl, rfl⟩ := trodVars_none hV
 have hpq' : before = p := by rw [hpq]; simp
 subst hpq'
 have ha : ∀ sp : Nat → Bool, (∀ x ∈ before, sp x.block = true) → DataW.TrodAll enc P W' 0 sp true f.params.toList args.toList (s.fn H (ds ++ [])).args before := fun sp hsp => by
  rw [hargs]; exact Ln hl hB hr hA hlt hsp
 have hr' : ∀ (b : Nat) (sp : Nat → Bool) (hd : Bool), DataW.TrodAll enc P W' b sp hd f.resultTypes.toList ((Value.bool true).resultList f.resultTypes.size) (s.fn H (ds ++ [])).results [] := fun b sp hd => by
  rw [hres, hrt]
  exact trodAll_cons_mk (shut_bool hbool _) trodAll_mk0
 have hv' : ∀ sp : Nat → Bool, DataW.TrodVars enc P W' sp s.vars (s.fn H (ds ++ [])).vars [] := fun sp => by rw [hvars, hvs]; rfl
 refine ⟨ds, [], before, [], before, [], hW', hr' _ _ _, ha _ hold, hv' _, World.keptBut_mono (fun p hp => hp) (hB.frame _), fun _ => ?_⟩
 refine ⟨ok_one hrt rfl (okWide_bool_mk hbool _), _, _, ([] ++ before) ++ [], ⟨[] ++ before, [], trodAll_append (ha _ (fun _ _ => rfl)) (hr' _ _ _), hv' _, rfl, ?_, ?_⟩, ?_⟩
 ·intro b off hp
  have hp' : MemPlace.cell b off ∈ before := by simpa using hp
  rw [hB.frozen (hlt _ hp')]
  exact hz b off hp'
 ·intro h; cases h
 ·intro p hp _
  simpa using hp

end
end Go.Gm
namespace Go.Gm
open Go.RowKit
theorem QU {E : Env} {H : Ab} {w w' : World} (h : Sim E H w) (hb : Below w.heap.size w w') : Sim E H w' ∧ Bv E H w E H w' :=
 h.ext (.refl E) (fun _ _ _ h => h) (fun _ _ _ h => h) hb.block (fun _ _ => rfl) (fun b o v hv hlt => by have := h.imm_lt hv; omega) hb.os hb.tape hb.output hb.size
def Env.bare (E : Env) : Env := ⟨fun _ _ => none, fun _ _ => none, E.I⟩
theorem sim_bare {E : Env} {H : Ab} {w : World} (h : Sim E H w) : Sim E.bare [] w :=
 ⟨fun id B h => (by simp at h), fun id g b h => (by cases h), fun id g b h => (by cases h), fun id B n h => (by simp at h), fun id id' b h => (by simp [loc] at h), fun b o v hv => h.imm b o v hv, fun b cs hf => ⟨(h.fix b cs hf).1, (h.fix b cs hf).2.1, fun id => by simp [loc]⟩⟩
theorem fn_calls {P : Program} {G : FY} {g : FuncId} {F : List Aa → Ab → Out} (hF : AJ P G g F) {fn : Func} (hf : P.funcs[g]? = some fn) (hB : fnB 0 fn = true)
  {E : Env} {H : Ab} {w : World} (hG : Cw G E.bare) (hs : Sim E H w) {args : List Aa} {vs : Array Value} (hv : At E.bare args vs.toList) {res : Res} (h : F args [] = some (res, [])) :
  Calls P g vs w fun e w' => (∃ E', Ip E' res e) ∧ Below w.heap.size w w' := by
 obtain ⟨b1, b2, b3⟩ := DI hB
 rcases hF args [] _ _ h E.bare w vs hG (sim_bare hs) hv with ⟨_, h1⟩ | ⟨v, w', h1, _⟩
 ·exact h1.mono fun e w' ⟨E', h2, _, h3⟩ => ⟨⟨E', h2⟩, Pn h3⟩
 ·rw [Eg hf b1 b2] at h1; cases h1
theorem lib_ok {P : Program} {G : FY} {g : FuncId} {fn : Func} (hf : P.funcs[g]? = some fn) (hB : fnB 0 fn = true) {args : List Aa} {H : Ab} {x : Aa}
  (h : ∀ (E : Env) (w : World) (vs : Array Value), Cw G E → Sim E H w → At E args vs.toList → ∃ v, An E x v ∧ Calls P g vs w fun e w' => e = .returned v ∧ Below w.heap.size w w') : CallA P G g args H (.ret x) H := by
 intro E w vs hG hs hv
 obtain ⟨v, h1, h2⟩ := h E w vs hG hs hv
 obtain ⟨b1, b2, b3⟩ := DI hB
 refine .inl ⟨Eg hf b1 b2 vs w, h2.mono fun e w' ⟨he, hb⟩ => ?_⟩
 subst he
 obtain ⟨k1, k2⟩ := QU hs hb
 exact ⟨E, h1, k1, k2⟩
theorem args1 {E : Env} {a : Aa} {vs : Array Value} (h : At E [a] vs.toList) : ∃ v, vs = #[v] ∧ An E a v := by
 obtain ⟨l⟩ := vs
 match l, h with
 | [v], h => exact ⟨v, rfl, h.head⟩
 | [], h => exact absurd h.1 (by simp)
 | _ :: _ :: _, h => exact absurd h.1 (by simp)
theorem args2 {E : Env} {a b : Aa} {vs : Array Value} (h : At E [a, b] vs.toList) : ∃ v u, vs = #[v, u] ∧ An E a v ∧ An E b u := by
 obtain ⟨l⟩ := vs
 match l, h with
 | [v, u], h => exact ⟨v, u, rfl, h.head, h.tail.head⟩
 | [], h => exact absurd h.1 (by simp)
 | [_], h => exact absurd h.1 (by simp)
 | _ :: _ :: _ :: _, h => exact absurd h.1 (by simp)
theorem val_str {E : Env} {s : List UInt8} {v : Value} (h : An E (.str s) v) : v = .string ⟨s.toArray⟩ := by cases h; rfl
theorem val_int {E : Env} {k : IntKind} {n : Int} {v : Value} (h : An E (.int k n) v) : v = .int k n := by cases h; rfl
end Go.Gm
namespace Go.Proofs
open Go.Shelf
def Tryz.lays137_ren : Go.Shelf.Ren := ⟨fun | 137 => 90 | 217 => 103 | 266 => 112 | n => n, fun | 9 => 9 | 5 => 5 | 3 => 3 | n => n, fun | n => n⟩
theorem Tryz.lays137 : Go.Proofs.Lays.n137 Tryz.prog Tryz.lays137_ren := {
 mixed := by kernel_rfl
 f137 := Tryz.func90.trans (congrArg some (by kernel_rfl))
 f217 := Tryz.func103.trans (congrArg some (by kernel_rfl))
 f266 := Tryz.func112.trans (congrArg some (by kernel_rfl))
 t3 := Tryz.underlying3
 a3 := Tryz.isAgg3
 z3 := Tryz.sizeOf3
 v3 := Tryz.zeroValue3
 t5 := Tryz.underlying5
 a5 := Tryz.isAgg5
 z5 := Tryz.sizeOf5
 v5 := Tryz.zeroValue5
 t9 := Tryz.underlying9
 a9 := Tryz.isAgg9
 z9 := Tryz.sizeOf9
 v9 := Tryz.zeroValue9 }
open Go.RowKit in
theorem Tryz.strings_IndexByte (s : ByteArray) (c : Int) (w : World) :
  Calls Tryz.prog 90 #[.string s, .int .u8 c] w fun e w' => e = .returned (.int .i64 (Lib.indexByte s.data.toList c.toNat.toUInt8)) ∧ w' = w := Any.strings_IndexByte Tryz.lays137 s c w
def Tryz.laysM171_ren : Go.Shelf.Ren := ⟨fun | 171 => 108 | 243 => 116 | 246 => 122 | 283 => 126 | 284 => 127 | 285 => 128 | 286 => 129 | 129 => 131 | 317 => 130 | 318 => 132 | 319 => 133 | 320 => 134 | 337 => 135 | 338 => 136 | n => n, fun | 3 => 3 | 9 => 9 | 2 => 2 | 4 => 4 | 171 => 166 | 0 => 0 | 53 => 128 | 37 => 127 | 5 => 5 | 173 => 169 | 212 => 172 | 51 => 124 | 20 => 20 | 213 => 173 | 46 => 161 | 232 => 176 | 233 => 177 | n => n, fun | 17 => 1 | 18 => 2 | 19 => 3 | n => n⟩
theorem Tryz.laysM171 : Go.Proofs.LaysM.n171 Tryz.prog Tryz.laysM171_ren := {
 mixed := by kernel_rfl
 f129 := Tryz.func131.trans (congrArg some (by kernel_rfl))
 f171 := Tryz.func108.trans (congrArg some (by kernel_rfl))
 f243 := Tryz.func116.trans (congrArg some (by kernel_rfl))
 f246 := Tryz.func122.trans (congrArg some (by kernel_rfl))
 f283 := Tryz.func126.trans (congrArg some (by kernel_rfl))
 f284 := Tryz.func127.trans (congrArg some (by kernel_rfl))
 f285 := Tryz.func128.trans (congrArg some (by kernel_rfl))
 f286 := Tryz.func129.trans (congrArg some (by kernel_rfl))
 f317 := Tryz.func130.trans (congrArg some (by kernel_rfl))
 f318 := Tryz.func132.trans (congrArg some (by kernel_rfl))
 f319 := Tryz.func133.trans (congrArg some (by kernel_rfl))
 f320 := Tryz.func134.trans (congrArg some (by kernel_rfl))
 f337 := Tryz.func135.trans (congrArg some (by kernel_rfl))
 f338 := Tryz.func136.trans (congrArg some (by kernel_rfl))
 t0 := Tryz.underlying0
 a0 := Tryz.isAgg0
 z0 := Tryz.sizeOf0
 v0 := Tryz.zeroValue0
 t2 := Tryz.underlying2
 a2 := Tryz.isAgg2
 z2 := Tryz.sizeOf2
 v2 := Tryz.zeroValue2
 t3 := Tryz.underlying3
 a3 := Tryz.isAgg3
 z3 := Tryz.sizeOf3
 v3 := Tryz.zeroValue3
 t4 := Tryz.underlying4
 a4 := Tryz.isAgg4
 z4 := Tryz.sizeOf4
 v4 := Tryz.zeroValue4
 t5 := Tryz.underlying5
 a5 := Tryz.isAgg5
 z5 := Tryz.sizeOf5
 v5 := Tryz.zeroValue5
 t9 := Tryz.underlying9
 a9 := Tryz.isAgg9
 z9 := Tryz.sizeOf9
 v9 := Tryz.zeroValue9
 t20 := Tryz.underlying20
 a20 := Tryz.isAgg20
 z20 := Tryz.sizeOf20
 v20 := Tryz.zeroValue20
 t37 := Tryz.underlying127
 a37 := Tryz.isAgg127
 z37 := Tryz.sizeOf127
 v37 := Tryz.zeroValue127
 t46 := Tryz.underlying161
 a46 := Tryz.isAgg161
 z46 := Tryz.sizeOf161
 v46 := Tryz.zeroValue161
 t51 := Tryz.underlying124
 a51 := Tryz.isAgg124
 z51 := Tryz.sizeOf124
 v51 := Tryz.zeroValue124
 t53 := Tryz.underlying128
 a53 := Tryz.isAgg128
 z53 := Tryz.sizeOf128
 v53 := Tryz.zeroValue128
 t171 := Tryz.underlying166
 a171 := Tryz.isAgg166
 z171 := Tryz.sizeOf166
 v171 := Tryz.zeroValue166
 t173 := Tryz.underlying169
 a173 := Tryz.isAgg169
 z173 := Tryz.sizeOf169
 v173 := Tryz.zeroValue169
 t212 := Tryz.underlying172
 a212 := Tryz.isAgg172
 z212 := Tryz.sizeOf172
 v212 := Tryz.zeroValue172
 t213 := Tryz.underlying173
 a213 := Tryz.isAgg173
 z213 := Tryz.sizeOf173
 t232 := Tryz.underlying176
 a232 := Tryz.isAgg176
 z232 := Tryz.sizeOf176
 v232 := Tryz.zeroValue176
 t233 := Tryz.underlying177
 a233 := Tryz.isAgg177
 z233 := Tryz.sizeOf177
 v233 := Tryz.zeroValue177
 g17 := by kernel_rfl
 g18 := by kernel_rfl
 g19 := by kernel_rfl
 i0 := by kernel_rfl
 i2 := by kernel_rfl
 i3 := by kernel_rfl
 i4 := by kernel_rfl
 i5 := by kernel_rfl
 i9 := by kernel_rfl
 i20 := by kernel_rfl
 i37 := by kernel_rfl
 i46 := by kernel_rfl
 i51 := by kernel_rfl
 i53 := by kernel_rfl
 i171 := by kernel_rfl
 i173 := by kernel_rfl
 i212 := by kernel_rfl
 i232 := by kernel_rfl
 i233 := by kernel_rfl
 m17 := by kernel_rfl
 m18 := by kernel_rfl
 m19 := by kernel_rfl }
open Go.RowKit Go.Sort Go.Lib in
theorem Tryz.strconv_Itoa (n : Int) (h0 : -9223372036854775808 ≤ n) (h1 : n ≤ 9223372036854775807) (w : World) (htab : Lib.TabIs Tryz.prog w "internal/strconv.uint64pow10" .u64 Lib.pow10Tab) :
  Calls Tryz.prog 108 #[.int .i64 n] w fun e w' => e = .returned (.string ⟨(Lib.itoa n).toArray⟩) ∧ ∃ k os, w' = grow (w.drewN k) os := Any.strconv_Itoa Tryz.laysM171 n h0 h1 w htab
def Tryz.laysGw15_ren : Go.Shelf.Ren := ⟨fun | 15 => 119 | 20 => 124 | n => n, fun | 9 => 9 | 23 => 160 | 3 => 3 | 4 => 4 | 0 => 0 | 21 => 21 | n => n, fun | n => n⟩
theorem Tryz.laysGw15 : Go.Proofs.LaysGw.n15 Tryz.prog Tryz.laysGw15_ren := {
 mixed := by kernel_rfl
 f15 := Tryz.func119.trans (congrArg some (by kernel_rfl))
 f20 := Tryz.func124.trans (congrArg some (by kernel_rfl))
 t0 := Tryz.underlying0
 a0 := Tryz.isAgg0
 z0 := Tryz.sizeOf0
 v0 := Tryz.zeroValue0
 i0 := by kernel_rfl
 t3 := Tryz.underlying3
 a3 := Tryz.isAgg3
 z3 := Tryz.sizeOf3
 v3 := Tryz.zeroValue3
 i3 := by kernel_rfl
 t4 := Tryz.underlying4
 a4 := Tryz.isAgg4
 z4 := Tryz.sizeOf4
 v4 := Tryz.zeroValue4
 i4 := by kernel_rfl
 t9 := Tryz.underlying9
 a9 := Tryz.isAgg9
 z9 := Tryz.sizeOf9
 v9 := Tryz.zeroValue9
 i9 := by kernel_rfl
 t21 := Tryz.underlying21
 a21 := Tryz.isAgg21
 z21 := Tryz.sizeOf21
 v21 := Tryz.zeroValue21
 i21 := by kernel_rfl
 t23 := Tryz.underlying160
 a23 := Tryz.isAgg160
 z23 := Tryz.sizeOf160
 v23 := Tryz.zeroValue160
 i23 := by kernel_rfl }
open Go.RowKit Go.Lib in
theorem Tryz.strings_IndexFunc_grows (g : Nat) (lb : Array Value) (eg : ∀ args w, (callFunc g args).run Tryz.prog w = .ok (.enter g args) w) (p : Nat → Bool) (s : ByteArray) (w : World) (hp : PredGrows Tryz.prog g lb p w) :
  Calls Tryz.prog 119 #[.string s, .func (.func g) #[] lb] w fun e w' => e = .returned (.int .i64 (Lib.idxFunc p true s)) ∧ Below w.heap.size w w' := Any.strings_IndexFunc_grows Tryz.laysGw15 g lb eg p s w hp
end Go.Proofs
namespace Go.Gm
open Go.Proofs Go.RowKit Go.Shelf
theorem pow_tab {E : Env} {H : Ab} {w : World} (h : Sim E H w) : Lib.TabIs Tryz.prog w "internal/strconv.uint64pow10" .u64 Lib.pow10Tab := by
 obtain ⟨⟨t, fr, h1⟩, _⟩ := h.fix 1 powTab (by simp [FixT])
 have hm : Tryz.prog.globalNamed "internal/strconv.uint64pow10" = some 1 := Tryz.laysM171.m17
 simp [Lib.TabIs, World.var?, hm, h1, powTab]
theorem MK : AJ Tryz.prog Gs 108 (ap1 Sh.f14) := by
 intro args H res H' h
 unfold ap1 at h
 split at h
 ·unfold Sh.f14 at h
  split at h
  ·rename_i n
   split at h
   ·rename_i hn
    cases h
    refine lib_ok Tryz.func108 (by kernel_rfl) fun E w vs hG hs hv => ?_
    obtain ⟨v, rfl, h1⟩ := args1 hv
    rw [val_int h1]
    refine ⟨_, .str _, (Tryz.strconv_Itoa n hn.1 hn.2 w (pow_tab hs)).mono fun e w' ⟨he, k, os, hw⟩ => ⟨he, ?_⟩⟩
    rw [hw]
    exact below_grown w k os
   ·cases h
  ·cases h
 ·cases h
theorem dig1 (x : Nat) (H : Ab) : Sh.f2u (.int .i32 x) H = some (.ret (.bool (It x)), H) := by
 unfold Sh.f2u It
 by_cases h : x < 48
 ·have h' : (x : Int) < 48 := by omega
  simp [h, h']
 ·have h' : ¬ (x : Int) < 48 := by omega
  by_cases h2 : 57 < x
  ·have h2' : (57 : Int) < x := by omega
   simp [h, h', h2, h2']
  ·have h2' : ¬ (57 : Int) < x := by omega
   simp [h, h', h2, h2']
theorem HS : AJ Tryz.prog Gs 119 (ap2 Sh.f15) := by
 intro args H res H' h
 unfold ap2 at h
 split at h
 ·unfold Sh.f15 at h
  split at h
  ·rename_i s
   cases h
   refine lib_ok Tryz.func119 (by kernel_rfl) fun E w vs hG hs hv => ?_
   obtain ⟨v, u, rfl, h1, h2⟩ := args2 hv
   rw [val_str h1]
   have hu : u = .func (.func 120) #[] #[] := by
    cases h2 with
    | @fn _ _ vs' hn' hv' => exact congrArg _ (Array.eq_empty_of_size_eq_zero hn'.symm)
   rw [hu]
   refine ⟨_, .int _ _, Tryz.strings_IndexFunc_grows 120 #[] (fun a w => Eg Tryz.func120 (by kernel_rfl) (by kernel_rfl) a w) It ⟨s.toArray⟩ w fun W x hx hb => ?_⟩
   refine (fn_calls MM Tryz.func120 (by kernel_rfl) (fun _ _ h => nomatch h) (QU hs hb).1 (args := [.int .i32 x]) (At.cons (.int _ _) (At.nil _)) (dig1 x [])).mono fun e w' ⟨⟨E', he⟩, hw⟩ => ⟨?_, hw⟩
   cases e with
   | returned v => rw [An.bool_inv he]
   | panicked c => exact he.elim
   | outgrown => exact he.elim
  ·cases h
 ·cases h
theorem HT : AJ Tryz.prog Gs 90 (ap2 Sh.f16) := by
 intro args H res H' h
 unfold ap2 at h
 split at h
 ·unfold Sh.f16 at h
  split at h
  ·rename_i s c
   cases h
   refine lib_ok Tryz.func90 (by kernel_rfl) fun E w vs hG hs hv => ?_
   obtain ⟨v, u, rfl, h1, h2⟩ := args2 hv
   rw [val_str h1, val_int h2]
   exact ⟨_, .int _ _, (Tryz.strings_IndexByte ⟨s.toArray⟩ c w).mono fun e w' ⟨he, hw⟩ => ⟨by simpa using he, hw ▸ Below.refl _ _⟩⟩
  ·cases h
 ·cases h
end Go.Gm
namespace Go.Proofs
open Go.RowKit
set_option maxRecDepth 10000 in
theorem Tryz.catch_panicking (p : Addr) (c0 c1 : Value) (older : List PanicEntry) (w : World) {wa w1 : World} (hs0 : Sem.run Tryz.prog (store p c0) w = .ok () wa) (hs1 : Sem.run Tryz.prog (store { block := p.block, off := p.off + 1 } c1) wa = .ok () w1) :
  CallsD Tryz.prog 42 #[.pointer (some p)] (.panicking ({ v := .iface 60 (.agg #[c0, c1]), recovered := false } :: older)) w fun e u' w' =>
   e = .returned (.tuple #[]) ∧ u' = .panicking ({ v := .iface 60 (.agg #[c0, c1]), recovered := true } :: older) ∧ w' = w1 := by
 have hta : Sem.run Tryz.prog (Instr.typeAssert (.iface 60 (.agg #[c0, c1])) 20 60 false) w = .ok (.agg #[c0, c1]) w := by
  kernel_rfl
 refine callsD_of_wpS Tryz.func42 rfl fun c₀ cs hu => ?_
 apply wpS_seq
 apply wpS_region
 simp [wpOpsS, go_sem, recoverD, hu, Tryz.ntmps42, Exit.thenS]
 apply wpS_seq
 apply wpS_region
 simp [wpOpsS, go_sem, Exit.thenS]
 refine wpS_cond (t := true) (by simp [Act.eval, Array.replicate]) ?_
 simp only [if_true]
 apply wpS_region
 simp [wpOpsS, go_sem, bodyPostS, results, Tryz.results42, hta, hs0, hs1]
set_option maxRecDepth 10000 in
theorem Tryz.catch_idle (p : Addr) (w : World) :
  CallsD Tryz.prog 42 #[.pointer (some p)] .returning w fun e u' w' => e = .returned (.tuple #[]) ∧ u' = .returning ∧ w' = w := by
 refine callsD_of_wpS Tryz.func42 rfl fun c₀ cs hu => ?_
 apply wpS_seq
 apply wpS_region
 simp [wpOpsS, go_sem, recoverD, hu, Tryz.ntmps42, Exit.thenS]
 apply wpS_seq
 apply wpS_region
 simp [wpOpsS, go_sem, Exit.thenS]
 refine wpS_cond (t := false) (by simp [Act.eval, Array.replicate]) ?_
 simp only [Bool.false_eq_true, if_false]
 refine wpS_of_wp (wp_skip ?_)
 cases c₀
 simp_all [bodyPostS, results, Tryz.results42]
end Go.Proofs
namespace Go.Proofs
open Go.RowKit
theorem Tryz.box_cells {w : World} {b : Nat} {x0 x1 : Value} {t : TypeId} (hbox : w.heap[b]? = some (.cells #[x0, x1] t (0, 0))) (y0 y1 : Value) :
  (w.setCell ⟨b, 0, none⟩ y0).cell? ⟨b, 1, none⟩ = some x1 ∧ (w.setCell ⟨b, 0, none⟩ y0).frozen? ⟨b, 1, none⟩ = false ∧
   ((w.setCell ⟨b, 0, none⟩ y0).setCell ⟨b, 1, none⟩ y1).cell? ⟨b, 0, none⟩ = some y0 ∧ ((w.setCell ⟨b, 0, none⟩ y0).setCell ⟨b, 1, none⟩ y1).cell? ⟨b, 1, none⟩ = some y1 := by
 have sz : b < w.heap.size := by
  rcases Nat.lt_or_ge b w.heap.size with h | h
  ·exact h
  ·rw [Array.getElem?_eq_none h] at hbox; cases hbox
 have hx : w.heap[b] = .cells #[x0, x1] t (0, 0) := by
  rw [Array.getElem?_eq_getElem sz] at hbox; exact Option.some.inj hbox
 refine ⟨?_, ?_, ?_, ?_⟩ <;> simp [World.cell?, World.frozen?, World.setCell, hx, sz, Array.getElem_modify]
set_option maxRecDepth 10000 in
set_option maxHeartbeats 1000000 in
theorem Tryz.caught_in (g : Nat) (caps : Array Value) (w : World) (eg : ∀ args w, (callFunc g args).run Tryz.prog w = .ok (.enter g args) w) {R : Ending → World → Prop}
  (hj : Calls Tryz.prog g caps (w.alloc (.cells #[.int .i64 0, .string ⟨#[]⟩] 60)) R)
  (hR : ∀ e w2, R e w2 → (∃ t c0 c1, w2.heap[w.heap.size]? = some (.cells #[c0, c1] t (0, 0))) ∧ ((∃ v, e = .returned v) ∨ ∃ c0 c1, Value.oneCell' c0 = true ∧ Value.oneCell' c1 = true ∧ e = .panicked [{ v := .iface 60 (.agg #[c0, c1]), recovered := false }])) :
  Calls Tryz.prog 20 #[.func (.func g) caps #[]] w fun e w' => ∃ e2 w2, R e2 w2 ∧ ∃ c0 c1, e = .returned (.agg #[c0, c1]) ∧ w' = (w2.setCell ⟨w.heap.size, 0, none⟩ c0).setCell ⟨w.heap.size, 1, none⟩ c1 ∧
   ((∃ v, e2 = .returned v ∧ c0 = .int .i64 0 ∧ c1 = .string ⟨#[]⟩) ∨ e2 = .panicked [{ v := .iface 60 (.agg #[c0, c1]), recovered := false }]) := by
 have hmf : ∀ (fn : Fn) (first cap : Array Value) (w : World), (Instr.makeFunc fn first cap).run Tryz.prog w = .ok (.func fn first cap) w := fun _ _ _ _ => rfl
 go_enter_defers Tryz.func20, Tryz.ntmps20
 go_wp2
 refine hj.mono ?_
 rintro e w2 hr
 obtain ⟨⟨t, x0, x1, hbox⟩, h⟩ := hR _ _ hr
 have c0 : w2.cell? ⟨w.heap.size, 0, none⟩ = some x0 := by simp [World.cell?, hbox]
 have c1 : w2.cell? ⟨w.heap.size, 1, none⟩ = some x1 := by simp [World.cell?, hbox]
 have f0 : w2.frozen? ⟨w.heap.size, 0, none⟩ = false := by simp [World.frozen?, hbox]
 have f1 : w2.frozen? ⟨w.heap.size, 1, none⟩ = false := by simp [World.frozen?, hbox]
 have K := fun y0 y1 => Tryz.box_cells (w := w2) hbox y0 y1
 rcases h with ⟨v, rfl⟩ | ⟨y0, y1, o0, o1, rfl⟩
 ·obtain ⟨k1, k2, k3, k4⟩ := K (.int .i64 0) (.string ⟨#[]⟩)
  go_wp2
  refine leaves_cons (f := 42) (args := #[.pointer (some ⟨w.heap.size, 0, none⟩)]) (by simp) (by simp [go_sem]) ?_
  refine (Tryz.catch_idle ⟨w.heap.size, 0, none⟩ _).mono ?_
  rintro e u' w'' ⟨rfl, rfl, rfl⟩
  simp [Leaves, settle, results, Tryz.results20, go_sem, k3, k4]
  exact ⟨_, _, hr, _, _, ⟨rfl, rfl⟩, rfl, Or.inl ⟨⟨_, rfl⟩, rfl, rfl⟩⟩
 ·obtain ⟨k1, k2, k3, k4⟩ := K y0 y1
  refine leaves_cons (f := 42) (args := #[.pointer (some ⟨w.heap.size, 0, none⟩)]) (by simp) (by simp [go_sem]) ?_
  refine (Tryz.catch_panicking ⟨w.heap.size, 0, none⟩ y0 y1 [] _ (wa := w2.setCell ⟨w.heap.size, 0, none⟩ y0) (w1 := (w2.setCell ⟨w.heap.size, 0, none⟩ y0).setCell ⟨w.heap.size, 1, none⟩ y1) ?_ ?_).mono ?_
  ·rw [run_store _ _ _ _ _ o0]; simp [c0, f0]
  ·rw [run_store _ _ _ _ _ o1]; simp [k1, k2]
  rintro e u' w'' ⟨rfl, rfl, rfl⟩
  simp [Leaves, settle, results, Tryz.results20, go_sem, k3, k4]
  exact ⟨_, _, hr, _, _, ⟨rfl, rfl⟩, rfl, Or.inr rfl⟩
end Go.Proofs
namespace Go.Gm
open Go.Proofs Go.RowKit
theorem Sim.aside {E : Env} {H : Ab} {w w' : World} (hs : Sim E H w) {b : Nat} (h1 : ¬ K6 E H b) (h2 : ∀ o, E.I b o = none) (hh : ∀ x, x ≠ b → w'.heap[x]? = w.heap[x]?) : Sim E H w' := by
 have ne : ∀ id b', loc E H id = some b' → b' ≠ b := fun id b' hl e => h1 ⟨id, e ▸ hl⟩
 constructor
 ·intro id B hB
  refine ((hs.blk id B hB).keep (.refl E) (fun b' hl => hh b' (ne id b' ?_)) (fun _ _ => rfl)).1
  unfold loc; rw [hB]; exact hl
 ·exact hs.dom
 ·exact hs.domk
 ·exact hs.late
 ·exact hs.inj
 ·intro b' o v hv
  have hne : b' ≠ b := fun e => by rw [e, h2 o] at hv; cases hv
  have := hs.imm b' o v hv
  simp only [World.cell?] at this ⊢
  rw [hh b' hne]; exact this
 ·intro b' cs hf
  obtain ⟨⟨t, fr, k1⟩, ⟨v, k2⟩, k3⟩ := hs.fix b' cs hf
  have hne : b' ≠ b := fun e => by rw [e, h2 0] at k2; cases k2
  exact ⟨⟨t, fr, by rw [hh b' hne]; exact k1⟩, ⟨v, k2⟩, k3⟩
theorem call_caughtF {orc : Orc} (ho : Hi Tryz.prog Gs orc) : AJ Tryz.prog Gs 20 (ap1 (OT orc)) := by
 intro args H res H' h
 unfold ap1 at h
 split at h
 case h_2 => cases h
 rename_i job
 unfold OT at h
 split at h
 case h_2 => cases h
 rename_i caps
 cases hr : orc 21 caps H with
 | none => rw [hr] at h; cases h
 | some r =>
  obtain ⟨r, H1⟩ := r
  rw [hr] at h
  cases hc : catchR r with
  | none => simp [hc] at h
  | some x =>
   have hx : Res.ret x = res ∧ H1 = H' := by simpa [hc] using h
   obtain ⟨rfl, rfl⟩ := hx
   intro E w vs hG hs hv
   obtain ⟨v, rfl, h1⟩ := args1 hv
   cases h1 with
   | bfn hn hcv =>
    rename_i cv
    obtain ⟨s1, st1⟩ := hs.laid (.cells #[.int .i64 0, .string ⟨#[]⟩] 60)
    have hcs : At E caps cv.toList := ⟨by simpa using hn, fun i c u hi hu => hcv i c u hi (by simpa using hu)⟩
    obtain ⟨b1, b2, b3⟩ := DI (show fnB 0 Tryz.f21 = true by kernel_rfl)
    obtain ⟨d1, d2, d3⟩ := DI (show fnB 0 Tryz.f20 = true by kernel_rfl)
    have f21 : Tryz.prog.funcs[21]? = some Tryz.f21 := Tryz.func21
    have f20 : Tryz.prog.funcs[20]? = some Tryz.f20 := Tryz.func20
    have nb : ¬ K6 E H w.heap.size := hs.free_new
    have lt : w.heap.size < (w.alloc (.cells #[.int .i64 0, .string ⟨#[]⟩] 60)).heap.size := by simp [World.alloc, -World.alloc_eq]
    rcases ho 21 caps H r H1 hr E _ cv hG s1 hcs with ⟨_, hj⟩ | ⟨v, w', h1, _⟩
    ·refine .inl ⟨Eg f20 d1 d2 _ w, ?_⟩
     have hj' := Tryz.caught_in 21 cv w (fun a w => Eg f21 b1 b2 a w) hj ?_
     ·refine hj'.mono ?_
      rintro e w' ⟨e2, w2, ⟨E', k1, k2, k3⟩, c0, c1, rfl, rfl, hcase⟩
      have no : ¬ K6 E' H1 w.heap.size := fun ho => (k3.own _ ho).elim nb (fun h => by omega)
      have ni : ∀ o, E'.I w.heap.size o = none := fun o => by rw [k3.imm _ o lt nb]; exact hs.imm_new o
      have hh : ∀ b, b ≠ w.heap.size → ((w2.setCell ⟨w.heap.size, 0, none⟩ c0).setCell ⟨w.heap.size, 1, none⟩ c1).heap[b]? = w2.heap[b]? := fun b hb => by
       simp [World.setCell, Array.getElem?_modify, Ne.symm hb]
      have st2 := st1.trans k3
      refine ⟨E', ?_, k2.aside no ni hh, st2.le, st2.os, st2.tape, st2.output, ?_, fun b hb ho => ?_, st2.own, st2.imm⟩
      ·rcases hcase with ⟨v, rfl, rfl, rfl⟩ | rfl
       ·cases r with
        | ret y => cases hc; exact An.agg rfl (by intro i c v hi hv; match i with
          | 0 => simp at hi hv; subst hi; subst hv; exact .int _ _
          | 1 => simp at hi hv; subst hi; subst hv; exact .str []
          | _ + 2 => simp at hi)
        | pan y => exact absurd k1 id
       ·cases r with
        | ret y => exact absurd k1 id
        | pan y =>
         obtain ⟨v, hv1, hv2⟩ := k1
         cases hv1
         unfold catchR at hc
         split at hc
         ·rename_i heq; cases heq
         ·rename_i heq; cases heq; cases hc; cases hv2 with
          | iface h => exact h
         ·cases hc
      ·simpa [World.setCell] using st2.size
      ·rw [hh b (by omega)]; exact st2.frame b hb ho
     ·rintro e w2 ⟨E', k1, k2, k3⟩
      refine ⟨⟨60, _, _, by rw [k3.frame _ lt nb]; exact World.heap_new w _⟩, ?_⟩
      cases r with
      | ret y => cases e with
       | returned v => exact .inl ⟨v, rfl⟩
       | _ => exact absurd k1 id
      | pan y => cases e with
       | panicked ch =>
        obtain ⟨v, rfl, hv2⟩ := k1
        unfold catchR at hc
        split at hc
        ·rename_i heq; cases heq
        ·rename_i heq; cases heq; cases hv2 with
         | iface h => cases h with
          | agg hn hv => 
           rename_i n s vs
           obtain ⟨l⟩ := vs
           match l, hn, hv with
           | [a, b], hn, hv =>
            have h0 := hv 0 _ a rfl rfl
            have h1 := hv 1 _ b rfl rfl
            cases h0; cases h1
            exact .inr ⟨_, _, rfl, rfl, rfl⟩
        ·cases hc
       | _ => exact absurd k1 id
    ·rw [Eg f21 b1 b2] at h1; cases h1
end Go.Gm
namespace Go.Gm
open Go.Proofs
set_option maxRecDepth 100000
noncomputable def JY : Orc := noO
theorem J1 : T0 Tryz.prog Gs false JY Tryz.f14 (.two .leaf (.two .leaf .leaf)) .pure Sh.ff := by unfold T0; intros; kernel_rfl
theorem Jc : AJ Tryz.prog Gs 14 (ap0 Sh.ff) := fn_ok0 mixed (Ay _ _) Tryz.func14 (by kernel_rfl) J1
noncomputable def P3 : Orc := noO
theorem Pd : T2 Tryz.prog Gs false P3 Tryz.f41 (.two .leaf (.two .leaf .leaf)) .keep Sh.f19 := by unfold T2; intros; kernel_rfl
theorem O9 : AJ Tryz.prog Gs 41 (ap2 Sh.f19) := B3 mixed (Ay _ _) Tryz.func41 (by kernel_rfl) Pd
noncomputable def Ng : Orc := (ent 41 (ap2 Sh.f19) noO)
theorem MR : T1 Tryz.prog Gs false Ng Tryz.f19 (.two .leaf (.two .leaf .leaf)) .pure Sh.f1a := by unfold T1; intros; kernel_rfl
theorem ML : AJ Tryz.prog Gs 19 (ap1 Sh.f1a) := Bu mixed ((Ag O9 (Ay _ _))) Tryz.func19 (by kernel_rfl) MR
noncomputable def O0 : Orc := noO
theorem Ot : T2 Tryz.prog Gs false O0 Tryz.f73 (.two .leaf (.two .leaf (.two (.two .leaf (.one (.loop [0, 1, 5, 12, 13] (.two .leaf (.two (.two .leaf .leaf) (.two (.one (.two .leaf (.two (.reg [0, 1, 2, 3, 4, 5, 6]) (.two (.two .leaf .leaf) .leaf)))) .leaf)))))) (.two .leaf .leaf)))) .keep Sh.f1b := by unfold T2; intros; kernel_rfl
theorem NH : AJ Tryz.prog Gs 73 (ap2 Sh.f1b) := B3 mixed (Ay _ _) Tryz.func73 (by kernel_rfl) Ot
noncomputable def IK : Orc := noO
theorem I4 : T1 Tryz.prog Gs false IK Tryz.f46 (.two .leaf (.two (.reg [0, 1, 2, 3, 4, 5, 6, 7, 8, 9, 10]) .leaf)) .keep Sh.f2 := by unfold T1; intros; kernel_rfl
theorem Bx : AJ Tryz.prog Gs 46 (ap1 Sh.f2) := Bu mixed (Ay _ _) Tryz.func46 (by kernel_rfl) I4
noncomputable def JS : Orc := (ent 46 (ap1 Sh.f2) noO)
theorem Jv : T2 Tryz.prog Gs false JS Tryz.f74 (.join [] (.two .leaf (.two .leaf .leaf)) .leaf) .keep Sh.f1 := by unfold T2; intros; kernel_rfl
theorem AV : AJ Tryz.prog Gs 74 (ap2 Sh.f1) := B3 mixed ((Ag Bx (Ay _ _))) Tryz.func74 (by kernel_rfl) Jv
noncomputable def JV : Orc := (ent 73 (ap2 Sh.f1b) (ent 74 (ap2 Sh.f1) noO))
theorem Jy : T3 Tryz.prog Gs false JV Tryz.f43 (.two (.reg [0, 1, 2, 3, 4, 5, 6, 7, 8, 9, 10, 11]) (.two .leaf (.two .leaf (.two .leaf .leaf)))) .keep Sh.f3 := by unfold T3; intros; kernel_rfl
theorem CV : AJ Tryz.prog Gs 43 (ap3 Sh.f3) := Fs mixed ((Ag NH ((Ag AV (Ay _ _))))) Tryz.func43 (by kernel_rfl) Jy
noncomputable def JT : Orc := (ent 46 (ap1 Sh.f2) (ent 90 (ap2 Sh.f16) noO))
theorem Jw : T2 Tryz.prog Gs false JT Tryz.f75 (.two .leaf (.two (.reg [0, 1, 2, 3, 4, 5, 6, 7, 8, 9, 10, 11, 12, 13, 14, 15, 16, 17]) .leaf)) .keep Sh.f0 := by unfold T2; intros; kernel_rfl
theorem AW : AJ Tryz.prog Gs 75 (ap2 Sh.f0) := B3 mixed ((Ag Bx ((Ag HT (Ay _ _))))) Tryz.func75 (by kernel_rfl) Jw
noncomputable def Ld : Orc := (ent 46 (ap1 Sh.f2) (ent 75 (ap2 Sh.f0) noO))
theorem KW : T1 Tryz.prog Gs false Ld Tryz.f44 (.one (.loop [0] (.two (.two .leaf (.two .leaf .leaf)) (.one .leaf)))) .keep Sh.fo := by unfold T1; intros; kernel_rfl
theorem Fk : AJ Tryz.prog Gs 44 (ap1 Sh.fo) := Bu mixed ((Ag Bx ((Ag AW (Ay _ _))))) Tryz.func44 (by kernel_rfl) KW
noncomputable def Lc : Orc := (ent 46 (ap1 Sh.f2) (ent 75 (ap2 Sh.f0) (ent 74 (ap2 Sh.f1) noO)))
theorem KV : T2 Tryz.prog Gs false Lc Tryz.f45 (.two (.two .leaf (.two .leaf .leaf)) (.join [0, 1] (.two .leaf (.two .leaf .leaf)) (.join [0] (.two .leaf (.two .leaf .leaf)) .leaf))) .keep Sh.fg := by unfold T2; intros; kernel_rfl
theorem Fj : AJ Tryz.prog Gs 45 (ap2 Sh.fg) := B3 mixed ((Ag Bx ((Ag AW ((Ag AV (Ay _ _))))))) Tryz.func45 (by kernel_rfl) KV
noncomputable def IJ : Orc := noO
theorem I3 : T1 Tryz.prog Gs false IJ Tryz.f77 .leaf .keep Sh.f6 := by unfold T1; intros; kernel_rfl
theorem CF : AJ Tryz.prog Gs 77 (ap1 Sh.f6) := Bu mixed (Ay _ _) Tryz.func77 (by kernel_rfl) I3
noncomputable def Ge : Orc := noO
theorem FZ : T2 Tryz.prog Gs false Ge Tryz.f123 (.two .leaf (.two .leaf .leaf)) .keep Sh.f1c := by unfold T2; intros; kernel_rfl
theorem FR : AJ Tryz.prog Gs 123 (ap2 Sh.f1c) := B3 mixed (Ay _ _) Tryz.func123 (by kernel_rfl) FZ
noncomputable def Gf : Orc := (ent 123 (ap2 Sh.f1c) noO)
theorem Ga : T2 Tryz.prog Gs false Gf Tryz.f118 (.two .leaf (.two (.two .leaf (.two (.two .leaf .leaf) .leaf)) (.two .leaf .leaf))) .keep Sh.f2h := by unfold T2; intros; kernel_rfl
theorem FS : AJ Tryz.prog Gs 118 (ap2 Sh.f2h) := B3 mixed ((Ag FR (Ay _ _))) Tryz.func118 (by kernel_rfl) Ga
noncomputable def IF : Orc := (ent 118 (ap2 Sh.f2h) noO)
theorem Ix : T2 Tryz.prog Gs false IF Tryz.f113 (.two .leaf (.two .leaf .leaf)) .keep Sh.f1d := by unfold T2; intros; kernel_rfl
theorem HU : AJ Tryz.prog Gs 113 (ap2 Sh.f1d) := B3 mixed ((Ag FS (Ay _ _))) Tryz.func113 (by kernel_rfl) Ix
noncomputable def P9 : Orc := (ent 119 (ap2 Sh.f15) noO)
theorem Pj : T2 Tryz.prog Gs false P9 Tryz.f114 (.two .leaf (.two (.two .leaf (.two (.two .leaf .leaf) .leaf)) (.two .leaf (.two .leaf (.two (.two .leaf (.two (.two .leaf .leaf) .leaf)) (.two .leaf .leaf)))))) .keep Sh.f1e := by unfold T2; intros; kernel_rfl
theorem OF : AJ Tryz.prog Gs 114 (ap2 Sh.f1e) := B3 mixed ((Ag HS (Ay _ _))) Tryz.func114 (by kernel_rfl) Pj
noncomputable def orc_limb_Mul : Orc := (ent 121 (ap1 Sh.f18) noO)
theorem tie_limb_Mul : T3 Tryz.prog Gs false orc_limb_Mul Tryz.f115 (.two .leaf (.two .leaf (.two .leaf (.two (.two .leaf (.one (.loop [0, 1, 7, 8, 17, 18, 19] (.two .leaf (.two (.two .leaf .leaf) (.two (.one (.two .leaf (.two .leaf (.two .leaf .leaf)))) .leaf)))))) (.two .leaf (.two .leaf .leaf)))))) .pureN Sh.f1f := by unfold T3; intros; kernel_rfl
theorem QH : AJ Tryz.prog Gs 115 (ap3 Sh.f1f) := Fs mixed ((Ag QG (Ay _ _))) Tryz.func115 (by kernel_rfl) tie_limb_Mul
noncomputable def QA : Orc := (ent 113 (ap2 Sh.f1d) (ent 115 (ap3 Sh.f1f) (ent 114 (ap2 Sh.f1e) noO)))
theorem Q5 : T1 Tryz.prog Gs false QA Tryz.f104 (.two .leaf (.two .leaf (.two (.one (.join [2, 4, 5, 14] (.two .leaf (.two .leaf (.two .leaf (.two .leaf .leaf)))) (.two (.two .leaf .leaf) (.two .leaf (.two (.two .leaf .leaf) .leaf))))) (.two .leaf (.two (.two .leaf (.one (.loop [2, 5, 6, 36] (.two .leaf (.two (.two .leaf .leaf) (.one (.two .leaf .leaf))))))) (.two .leaf .leaf)))))) .pureN Sh.f1g := by unfold T1; intros; kernel_rfl
theorem Qt : AJ Tryz.prog Gs 104 (ap1 Sh.f1g) := Bu mixed ((Ag HU ((Ag QH ((Ag OF (Ay _ _))))))) Tryz.func104 (by kernel_rfl) Q5
noncomputable def HB : Orc := (ent 75 (ap2 Sh.f0) (ent 74 (ap2 Sh.f1) (ent 77 (ap1 Sh.f6) (ent 104 (ap1 Sh.f1g) noO))))
theorem Hm : T3 Tryz.prog Gs false HB Tryz.f91 (.two .leaf (.two .leaf (.join [0, 2, 6, 7] (.two .leaf (.two (.two .leaf (.two .leaf (.two .leaf .leaf))) .leaf)) (.two .leaf (.two (.one (.loop [0, 2, 6, 7, 8] (.two (.two .leaf (.two .leaf .leaf)) (.one (.join [0, 2, 6, 7, 8] (.one (.two .leaf (.two .leaf (.two .leaf (.two .leaf .leaf))))) .leaf))))) (.join [0, 6, 7] (.two .leaf (.two .leaf .leaf)) (.two (.reg [0, 1, 2, 3, 4, 5, 6, 7, 8, 9, 10, 11, 12, 14, 15, 13, 16]) (.two .leaf .leaf)))))))) .keepN Sh.f1h := by unfold T3; intros; kernel_rfl
theorem GY : AJ Tryz.prog Gs 91 (ap3 Sh.f1h) := Fs mixed ((Ag AW ((Ag AV ((Ag CF ((Ag Qt (Ay _ _))))))))) Tryz.func91 (by kernel_rfl) Hm
noncomputable def Q8 : Orc := noO
theorem Q3 : T1 Tryz.prog Gs false Q8 Tryz.f105 (.two .leaf (.two .leaf .leaf)) .keep Sh.f1i := by unfold T1; intros; kernel_rfl
theorem Qs : AJ Tryz.prog Gs 105 (ap1 Sh.f1i) := Bu mixed (Ay _ _) Tryz.func105 (by kernel_rfl) Q3
noncomputable def JU : Orc := (ent 46 (ap1 Sh.f2) (ent 105 (ap1 Sh.f1i) (ent 74 (ap2 Sh.f1) noO)))
theorem Jx : T2 Tryz.prog Gs false JU Tryz.f92 (.two .leaf (.two .leaf (.two (.one (.loop [0, 1, 5] (.two (.two (.reg [0, 1, 2, 3, 4, 5, 6, 7, 8, 9, 10, 11, 12, 13, 14, 15, 16, 17, 18, 19, 20, 21, 22, 23]) (.two .leaf .leaf)) (.one .leaf)))) (.join [0, 5] (.two .leaf (.two .leaf .leaf)) (.two (.reg [0, 1, 2, 3, 4, 5, 6, 7, 8, 9, 10]) .leaf))))) .keep Sh.fw := by unfold T2; intros; kernel_rfl
theorem IZ : AJ Tryz.prog Gs 92 (ap2 Sh.fw) := B3 mixed ((Ag Bx ((Ag Qs ((Ag AV (Ay _ _))))))) Tryz.func92 (by kernel_rfl) Jx
noncomputable def IH : Orc := (ent 75 (ap2 Sh.f0) (ent 44 (ap1 Sh.fo) (ent 43 (ap3 Sh.f3) (ent 91 (ap3 Sh.f1h) (ent 92 (ap2 Sh.fw) (ent 74 (ap2 Sh.f1) noO))))))
theorem Iz : T1 Tryz.prog Gs false IH Tryz.f76 (.two .leaf (.one (.two .leaf (.two .leaf (.two .leaf (.two (.two .leaf .leaf) (.two .leaf (.two (.two .leaf .leaf) .leaf)))))))) .keep Sh.f1j := by unfold T1; intros; kernel_rfl
theorem HW : AJ Tryz.prog Gs 76 (ap1 Sh.f1j) := Bu mixed ((Ag AW ((Ag Fk ((Ag CV ((Ag GY ((Ag IZ ((Ag AV (Ay _ _))))))))))))) Tryz.func76 (by kernel_rfl) Iz
noncomputable def JN : Orc := noO
theorem Jq : T2 Tryz.prog Gs false JN Tryz.f96 (.two .leaf (.two (.reg [1, 2, 3, 4, 5, 6, 7, 0, 8, 9, 10]) (.two .leaf .leaf))) .keep Sh.fh := by unfold T2; intros; kernel_rfl
theorem EI : AJ Tryz.prog Gs 96 (ap2 Sh.fh) := B3 mixed (Ay _ _) Tryz.func96 (by kernel_rfl) Jq
noncomputable def GK (m : Nat) : Orc := ent 93 (ap5 (Sh.fa m)) (ent 96 (ap2 Sh.fh) noO)
theorem GB (m : Nat) : T5 Tryz.prog Gs false (GK m) Tryz.f93 (.two .leaf (.two .leaf (.two .leaf (.two (.two .leaf (.one (.loop [0, 1, 2, 3, 4, 11, 12, 21] (.two .leaf (.two (.two .leaf .leaf) (.two (.one (.two .leaf (.two .leaf (.one (.two .leaf (.two .leaf (.two .leaf (.two .leaf .leaf)))))))) .leaf)))))) (.two .leaf .leaf))))) .keep (Sh.fa (m + 1)) := by unfold T5; intros; kernel_rfl
theorem DL : ∀ m, AJ Tryz.prog Gs 93 (ap5 (Sh.fa m))
 | 0 => PC fun _ _ _ _ _ _ => rfl
 | m + 1 => fn_ok5 mixed (Ag (DL m) ((Ag EI (Ay _ _)))) Tryz.func93 (by kernel_rfl) (GB m)
noncomputable def II : Orc := (ent 75 (ap2 Sh.f0) (ent 74 (ap2 Sh.f1) (ent 93 (ap5 (Sh.fa AM)) noO)))
theorem I0 : T1 Tryz.prog Gs false II Tryz.f78 (.two .leaf (.two .leaf (.two (.one (.loop [0, 2, 3, 4] (.two (.two .leaf (.two .leaf .leaf)) (.join [0, 2, 3, 4] (.one (.two .leaf (.join [0, 2, 3, 4, 5] (.two .leaf (.two .leaf .leaf)) (.two (.two .leaf (.two (.two .leaf .leaf) .leaf)) (.two (.reg [2, 3, 4, 5, 0, 1, 6, 7, 8]) .leaf))))) .leaf)))) (.reg [5, 6, 1, 2, 3, 4, 7, 8, 9, 0, 10, 11, 12])))) .keep Sh.f1l := by unfold T1; intros; kernel_rfl
theorem HX : AJ Tryz.prog Gs 78 (ap1 Sh.f1l) := Bu mixed ((Ag AW ((Ag AV ((Ag (DL AM) (Ay _ _))))))) Tryz.func78 (by kernel_rfl) I0
noncomputable def HA : Orc := (ent 75 (ap2 Sh.f0) (ent 77 (ap1 Sh.f6) (ent 74 (ap2 Sh.f1) noO)))
theorem Hl : T1 Tryz.prog Gs false HA Tryz.f94 (.two .leaf (.join [0] (.two .leaf (.two .leaf .leaf)) (.two .leaf (.two (.one (.loop [0, 3] (.two (.two .leaf (.two .leaf .leaf)) (.join [0, 3] (.one (.two (.reg [0, 1, 2, 3, 4, 5, 6, 7, 8, 9, 10, 11, 12, 13, 14, 15, 16]) (.two .leaf (.two .leaf .leaf)))) .leaf)))) (.two (.two .leaf (.two .leaf .leaf)) (.two .leaf .leaf)))))) .keep Sh.f1m := by unfold T1; intros; kernel_rfl
theorem GX : AJ Tryz.prog Gs 94 (ap1 Sh.f1m) := Bu mixed ((Ag AW ((Ag CF ((Ag AV (Ay _ _))))))) Tryz.func94 (by kernel_rfl) Hl
end Go.Gm
namespace Go.Gm
open Go.Proofs
set_option maxRecDepth 100000
noncomputable def JP : Orc := noO
theorem Js : T3 Tryz.prog Gs false JP Tryz.f107 (.two .leaf (.two (.one (.two .leaf (.two (.two .leaf .leaf) (.two .leaf (.two (.two .leaf .leaf) .leaf))))) (.two .leaf .leaf))) .keep Sh.fb := by unfold T3; intros; kernel_rfl
theorem EJ : AJ Tryz.prog Gs 107 (ap3 Sh.fb) := Fs mixed (Ay _ _) Tryz.func107 (by kernel_rfl) Js
noncomputable def GL : Orc := (ent 107 (ap3 Sh.fb) noO)
theorem GC : T3 Tryz.prog Gs false GL Tryz.f106 (.two .leaf (.two (.two .leaf (.two (.two .leaf .leaf) .leaf)) (.two (.two .leaf (.one (.loop [0, 1, 8, 9] (.two (.two .leaf (.two .leaf .leaf)) (.two (.one (.two .leaf (.one (.loop [0, 1, 8, 9, 10] (.two (.two .leaf (.two .leaf .leaf)) (.two (.one (.two .leaf (.two (.two .leaf .leaf) .leaf))) .leaf)))))) .leaf))))) (.two .leaf .leaf)))) .keep Sh.fx := by unfold T3; intros; kernel_rfl
theorem G7 : AJ Tryz.prog Gs 106 (ap3 Sh.fx) := Fs mixed ((Ag EJ (Ay _ _))) Tryz.func106 (by kernel_rfl) GC
noncomputable def JQ : Orc := (ent 75 (ap2 Sh.f0) (ent 106 (ap3 Sh.fx) (ent 74 (ap2 Sh.f1) (ent 107 (ap3 Sh.fb) (ent 108 (ap1 Sh.f14) noO)))))
theorem Jt : T3 Tryz.prog Gs false JQ Tryz.f95 (.two .leaf (.two (.reg [0, 1, 2, 3, 4, 5, 6]) (.two (.one (.loop [0, 1, 2, 7, 8] (.two (.two .leaf (.two .leaf .leaf)) (.join [0, 1, 2, 7, 8] (.one (.join [0, 1, 2, 7, 8] (.two .leaf (.two .leaf .leaf)) (.two (.reg [0, 1, 2, 3, 4, 5, 6, 7, 8, 9, 10, 11, 12, 13, 14, 15, 16]) (.two (.two .leaf (.two .leaf (.two .leaf .leaf))) .leaf)))) .leaf)))) (.join [0, 1, 2, 7, 8] (.two .leaf (.two .leaf .leaf)) (.join [0, 1, 7] (.two .leaf (.two (.two .leaf (.reg [3, 4, 0, 1, 2, 5, 6, 7, 8, 9, 10, 11, 12, 13, 14, 15])) .leaf)) (.two (.two .leaf (.two (.two .leaf .leaf) .leaf)) (.two .leaf .leaf))))))) .keep Sh.f1n := by unfold T3; intros; kernel_rfl
theorem IX : AJ Tryz.prog Gs 95 (ap3 Sh.f1n) := Fs mixed ((Ag AW ((Ag G7 ((Ag AV ((Ag EJ ((Ag MK (Ay _ _))))))))))) Tryz.func95 (by kernel_rfl) Jt
noncomputable def IG : Orc := (ent 94 (ap1 Sh.f1m) (ent 43 (ap3 Sh.f3) (ent 95 (ap3 Sh.f1n) (ent 96 (ap2 Sh.fh) noO))))
theorem Iy : T1 Tryz.prog Gs false IG Tryz.f79 (.two .leaf (.two .leaf (.two (.two .leaf (.one (.loop [0, 2, 3, 8] (.two .leaf (.two (.two .leaf .leaf) (.two (.one (.two .leaf (.two .leaf (.two .leaf .leaf)))) .leaf)))))) (.reg [5, 6, 7, 1, 2, 3, 4, 8, 9, 10, 11, 12, 0, 13, 14, 15])))) .keep Sh.f1o := by unfold T1; intros; kernel_rfl
theorem HV : AJ Tryz.prog Gs 79 (ap1 Sh.f1o) := Bu mixed ((Ag GX ((Ag CV ((Ag IX ((Ag EI (Ay _ _))))))))) Tryz.func79 (by kernel_rfl) Iy
noncomputable def JO : Orc := (ent 45 (ap2 Sh.fg) (ent 75 (ap2 Sh.f0) (ent 76 (ap1 Sh.f1j) (ent 77 (ap1 Sh.f6) (ent 78 (ap1 Sh.f1l) (ent 79 (ap1 Sh.f1o) noO))))))
theorem Jr : T1 Tryz.prog Gs false JO Tryz.f47 (.join [0] (.one (.two .leaf (.two .leaf (.two (.reg [0, 1, 2, 3, 4, 5, 6, 7, 8, 9, 10, 11, 12, 13, 14, 15, 16, 17]) (.two .leaf (.two .leaf (.two .leaf .leaf))))))) .leaf) .keep Sh.f1p := by unfold T1; intros; kernel_rfl
theorem IW : AJ Tryz.prog Gs 47 (ap1 Sh.f1p) := Bu mixed ((Ag Fj ((Ag AW ((Ag HW ((Ag CF ((Ag HX ((Ag HV (Ay _ _))))))))))))) Tryz.func47 (by kernel_rfl) Jr
noncomputable def JR : Orc := (ent 43 (ap3 Sh.f3) (ent 44 (ap1 Sh.fo) (ent 45 (ap2 Sh.fg) (ent 46 (ap1 Sh.f2) (ent 47 (ap1 Sh.f1p) noO)))))
theorem Ju : T1 Tryz.prog Gs false JR Tryz.f21 (.two .leaf (.two .leaf (.two .leaf (.one (.loop [0] (.two (.two .leaf (.two .leaf .leaf)) (.one .leaf))))))) .keep Sh.fy := by unfold T1; intros; kernel_rfl
theorem IY : AJ Tryz.prog Gs 21 (ap1 Sh.fy) := Bu mixed ((Ag CV ((Ag Fk ((Ag Fj ((Ag Bx ((Ag IW (Ay _ _))))))))))) Tryz.func21 (by kernel_rfl) Ju
theorem Gy : AJ Tryz.prog Gs 20 (ap1 Sh.fz) := call_caughtF ((Ag IY (Ay _ _)))
noncomputable def orc_node_kid : Orc := noO
theorem tie_node_kid : T3 Tryz.prog Gs false orc_node_kid Tryz.f80 (.two .leaf (.two .leaf (.two (.one (.two .leaf (.two (.two .leaf .leaf) (.two .leaf (.two (.two .leaf .leaf) .leaf))))) (.two (.reg [0, 1, 2, 3, 4, 5, 6, 7, 8, 9, 10, 11, 12, 13, 14, 15, 16, 17, 18, 19]) .leaf)))) .pure Sh.f1q := by unfold T3; intros; kernel_rfl
theorem QF : AJ Tryz.prog Gs 80 (ap3 Sh.f1q) := Fs mixed (Ay _ _) Tryz.func80 (by kernel_rfl) tie_node_kid
noncomputable def P4 : Orc := (ent 80 (ap3 Sh.f1q) noO)
theorem Pe : T1 Tryz.prog Gs false P4 Tryz.f48 (.two .leaf (.two (.two .leaf (.one (.loop [0, 7, 8, 9] (.two .leaf (.two (.two .leaf .leaf) (.two (.one (.two .leaf (.two (.two .leaf (.two (.two .leaf .leaf) .leaf)) (.two .leaf (.one (.loop [0, 3, 7, 8, 9, 23, 24] (.two .leaf (.two (.two .leaf .leaf) (.two (.one (.two .leaf (.two .leaf (.two (.two .leaf .leaf) .leaf)))) .leaf))))))))) .leaf)))))) (.two .leaf .leaf))) .pure Sh.f1r := by unfold T1; intros; kernel_rfl
theorem OA : AJ Tryz.prog Gs 48 (ap1 Sh.f1r) := Bu mixed ((Ag QF (Ay _ _))) Tryz.func48 (by kernel_rfl) Pe
noncomputable def Dx : Orc := noO
theorem Dv : T1 Tryz.prog Gs false Dx Tryz.f81 (.two .leaf (.two (.two .leaf (.two (.two .leaf .leaf) .leaf)) (.two .leaf .leaf))) .keep Sh.f1s := by unfold T1; intros; kernel_rfl
theorem Dr : AJ Tryz.prog Gs 81 (ap1 Sh.f1s) := Bu mixed (Ay _ _) Tryz.func81 (by kernel_rfl) Dv
noncomputable def O3 : Orc := noO
theorem Ou : T3 Tryz.prog Gs false O3 Tryz.f110 (.two .leaf (.two .leaf .leaf)) .keep Sh.f2j := by unfold T3; intros; kernel_rfl
theorem NI : AJ Tryz.prog Gs 110 (ap3 Sh.f2j) := Fs mixed (Ay _ _) Tryz.func110 (by kernel_rfl) Ou
noncomputable def EF : Orc := B8
theorem ED : T2 Tryz.prog Gs false EF Tryz.f117 (.two .leaf (.two (.two .leaf (.one (.loop [0, 1, 7, 8] (.two .leaf (.two (.two .leaf .leaf) (.two (.one (.two .leaf (.two .leaf (.two (.two .leaf .leaf) .leaf)))) .leaf)))))) (.two .leaf .leaf))) .keep Sh.f2k := by unfold T2; intros; kernel_rfl
theorem E4 : AJ Tryz.prog Gs 117 (ap2 Sh.f2k) := B3 mixed ((Ag NI (Ay _ _))) Tryz.func117 (by kernel_rfl) ED
noncomputable def DR : Orc := (ent 117 (ap2 Sh.f2k) noO)
theorem DP : T2 Tryz.prog Gs false DR Tryz.f109 (.two .leaf (.two .leaf .leaf)) .keep Sh.f1t := by unfold T2; intros; kernel_rfl
theorem DK : AJ Tryz.prog Gs 109 (ap2 Sh.f1t) := B3 mixed ((Ag E4 (Ay _ _))) Tryz.func109 (by kernel_rfl) DP
noncomputable def Q9 : Orc := (ent 109 (ap2 Sh.f1t) noO)
theorem Q4 : T1 Tryz.prog Gs false Q9 Tryz.f97 (.two .leaf (.two .leaf (.two (.two .leaf (.one (.loop [3, 10, 11, 12] (.two .leaf (.two (.two .leaf .leaf) (.two (.one (.two .leaf (.reg [3, 4, 5, 6, 0, 1, 2, 7, 8]))) .leaf)))))) (.two .leaf .leaf)))) .pureN Sh.fp := by unfold T1; intros; kernel_rfl
theorem Ky : AJ Tryz.prog Gs 97 (ap1 Sh.fp) := Bu mixed ((Ag DK (Ay _ _))) Tryz.func97 (by kernel_rfl) Q4
noncomputable def P5 : Orc := (ent 97 (ap1 Sh.fp) noO)
theorem Pf : T2 Tryz.prog Gs false P5 Tryz.f82 (.two .leaf (.two .leaf .leaf)) .keep Sh.f1u := by unfold T2; intros; kernel_rfl
theorem OB : AJ Tryz.prog Gs 82 (ap2 Sh.f1u) := B3 mixed ((Ag Ky (Ay _ _))) Tryz.func82 (by kernel_rfl) Pf
noncomputable def O4 : Orc := (ent 97 (ap1 Sh.fp) noO)
theorem Ov : T2 Tryz.prog Gs false O4 Tryz.f83 (.two .leaf (.two (.two .leaf (.two (.two .leaf .leaf) .leaf)) (.two .leaf (.two (.two .leaf (.one (.loop [0, 5, 28, 29] (.two .leaf (.two (.two .leaf .leaf) (.two (.one (.two .leaf (.two (.two .leaf (.two .leaf .leaf)) (.two .leaf (.one (.loop [0, 5, 6, 7, 28, 29, 40, 41] (.two .leaf (.two (.two .leaf .leaf) (.two (.one (.two .leaf (.two .leaf (.two (.two .leaf .leaf) .leaf)))) .leaf))))))))) .leaf)))))) (.two .leaf .leaf))))) .keep Sh.f1v := by unfold T2; intros; kernel_rfl
theorem NJ : AJ Tryz.prog Gs 83 (ap2 Sh.f1v) := B3 mixed ((Ag Ky (Ay _ _))) Tryz.func83 (by kernel_rfl) Ov
noncomputable def O5 : Orc := noO
theorem Ow : T3 Tryz.prog Gs false O5 Tryz.f84 (.two .leaf (.two (.two .leaf (.two .leaf (.two (.two .leaf .leaf) .leaf))) (.two .leaf .leaf))) .keep Sh.f1w := by unfold T3; intros; kernel_rfl
theorem NK : AJ Tryz.prog Gs 84 (ap3 Sh.f1w) := Fs mixed (Ay _ _) Tryz.func84 (by kernel_rfl) Ow
noncomputable def Ni : Orc := (ent 81 (ap1 Sh.f1s) (ent 82 (ap2 Sh.f1u) (ent 83 (ap2 Sh.f1v) (ent 84 (ap3 Sh.f1w) noO))))
theorem MT : T2 Tryz.prog Gs false Ni Tryz.f49 (.two .leaf (.two .leaf (.two (.two .leaf (.two (.two .leaf .leaf) .leaf)) (.two (.one (.loop [0, 1] (.two (.two .leaf (.two .leaf .leaf)) (.one (.two .leaf (.two (.two .leaf (.one (.loop [0, 1, 6, 25] (.two .leaf (.two (.two .leaf .leaf) (.two (.one (.two .leaf .leaf)) .leaf)))))) (.two .leaf .leaf))))))) (.two .leaf .leaf))))) .pureN Sh.f1x := by unfold T2; intros; kernel_rfl
theorem MN : AJ Tryz.prog Gs 49 (ap2 Sh.f1x) := B3 mixed ((Ag Dr ((Ag OB ((Ag NJ ((Ag NK (Ay _ _))))))))) Tryz.func49 (by kernel_rfl) MT
noncomputable def HF : Orc := noO
theorem Hq : T2 Tryz.prog Gs false HF Tryz.f51 (.two .leaf (.two (.two .leaf (.two (.two .leaf .leaf) .leaf)) (.two (.two (.reg [0, 1, 2, 3, 4, 5, 6, 7, 8, 9, 10]) (.two .leaf (.two (.two .leaf .leaf) .leaf))) (.two (.reg [1, 2, 3, 4, 5, 6, 7, 0, 8, 9, 10]) (.two (.reg [0, 1, 2, 3, 4, 5, 6, 7, 8, 9, 10]) (.two .leaf .leaf)))))) .keep Sh.f1y := by unfold T2; intros; kernel_rfl
theorem Hb : AJ Tryz.prog Gs 51 (ap2 Sh.f1y) := B3 mixed (Ay _ _) Tryz.func51 (by kernel_rfl) Hq
noncomputable def PA (m : Nat) : Orc := Fr (Sh.f4 m)
theorem Pk (m : Nat) : T5 Tryz.prog Gs false (PA m) Tryz.f50 (.two .leaf (.two (.two .leaf (.two .leaf (.two (.two .leaf .leaf) .leaf))) (.two .leaf (.join [0, 1, 4, 9] (.two .leaf (.two (.two .leaf (.one (.loop [0, 1, 3, 4, 9, 30, 31] (.two .leaf (.two (.two .leaf .leaf) (.two (.one (.two .leaf .leaf)) .leaf)))))) .leaf)) (.two .leaf (.two .leaf (.two .leaf .leaf))))))) .keep (Sh.f4 (m + 1)) := by unfold T5; intros; kernel_rfl
theorem Iw : ∀ m, AJ Tryz.prog Gs 50 (ap5 (Sh.f4 m))
 | 0 => PC fun _ _ _ _ _ _ => rfl
 | m + 1 => fn_ok5 mixed (Ag (Iw m) ((Ag Hb (Ay _ _)))) Tryz.func50 (by kernel_rfl) (Pk m)
noncomputable def orc_canon_Of : Orc := G5
theorem tie_canon_Of : T2 Tryz.prog Gs false orc_canon_Of Tryz.f22 (.two .leaf (.two (.two .leaf (.two (.two .leaf .leaf) .leaf)) (.two .leaf (.two .leaf (.two .leaf (.two .leaf (.two .leaf (.two .leaf (.two .leaf .leaf))))))))) .pureN Sh.f1z := by unfold T2; intros; kernel_rfl
theorem QI : AJ Tryz.prog Gs 22 (ap2 Sh.f1z) := B3 mixed ((Ag OA ((Ag MN ((Ag (Iw AM) (Ay _ _))))))) Tryz.func22 (by kernel_rfl) tie_canon_Of
noncomputable def P6 : Orc := (ent 19 (ap1 Sh.f1a) (ent 20 (ap1 Sh.fz) (ent 22 (ap2 Sh.f1z) noO)))
theorem Pg : T2 Tryz.prog Gs false P6 Tryz.f8 (.two .leaf (.two (.two .leaf (.two (.two .leaf .leaf) .leaf)) (.two .leaf (.two (.two .leaf (.two .leaf (.two (.two (.reg [0, 8, 1, 2, 3, 4, 5, 6, 7, 9, 10]) .leaf) .leaf))) (.two .leaf (.join [0, 3, 4, 7, 9] (.two .leaf (.two (.reg [0, 1, 2, 3, 4, 5, 6, 7, 8, 9, 10, 11, 12, 13]) .leaf)) (.two .leaf (.two (.two .leaf (.two (.two .leaf .leaf) .leaf)) (.two (.reg [0, 1, 2, 3, 4, 5, 6, 7, 8]) .leaf))))))))) .pureN Sh.fi := by unfold T2; intros; kernel_rfl
theorem OC : AJ Tryz.prog Gs 8 (ap2 Sh.fi) := B3 mixed ((Ag ML ((Ag Gy ((Ag QI (Ay _ _))))))) Tryz.func8 (by kernel_rfl) Pg
noncomputable def Ke : Orc := noO
theorem J7 : T1 Tryz.prog Gs false Ke Tryz.f64 (.two .leaf (.two .leaf .leaf)) .keep Sh.f20 := by unfold T1; intros; kernel_rfl
theorem Ji : AJ Tryz.prog Gs 64 (ap1 Sh.f20) := Bu mixed (Ay _ _) Tryz.func64 (by kernel_rfl) J7
noncomputable def Kf : Orc := (ent 64 (ap1 Sh.f20) noO)
theorem J8 : T1 Tryz.prog Gs false Kf Tryz.f35 (.two .leaf (.two (.two .leaf (.one (.loop [0, 3] (.two (.two .leaf (.two .leaf .leaf)) (.two (.one (.two .leaf (.two (.two .leaf .leaf) .leaf))) .leaf))))) (.two .leaf .leaf))) .keep Sh.f21 := by unfold T1; intros; kernel_rfl
theorem Jj : AJ Tryz.prog Gs 35 (ap1 Sh.f21) := Bu mixed ((Ag Ji (Ay _ _))) Tryz.func35 (by kernel_rfl) J8
noncomputable def IR : Orc := noO
theorem IA : T1 Tryz.prog Gs false IR Tryz.f15 (.two .leaf (.two (.two .leaf (.one (.loop [0, 3] (.two (.two .leaf (.two .leaf .leaf)) (.two (.one (.two (.two .leaf (.two (.two .leaf .leaf) .leaf)) (.two .leaf (.one (.loop [0, 3, 4] (.two (.two .leaf (.two .leaf .leaf)) (.two (.one (.two .leaf (.two (.two .leaf (.two (.two .leaf .leaf) .leaf)) (.two (.reg [0, 1, 2, 3, 4, 5, 6, 7, 8, 9, 10, 11, 12, 13, 14, 15, 16, 17, 18, 19, 20, 21, 22, 23, 24, 25, 26, 27, 28, 29]) (.two (.two .leaf .leaf) .leaf))))) .leaf))))))) .leaf))))) (.two .leaf .leaf))) .keep Sh.fc := by unfold T1; intros; kernel_rfl
theorem E7 : AJ Tryz.prog Gs 15 (ap1 Sh.fc) := Bu mixed (Ay _ _) Tryz.func15 (by kernel_rfl) IA
end Go.Gm
namespace Go.Gm
open Go.Proofs
set_option maxRecDepth 100000
noncomputable def GM : Orc := noO
theorem GD : T1 Tryz.prog Gs false GM Tryz.f34 (.two .leaf (.two .leaf (.two .leaf (.two (.two .leaf (.one (.loop [0, 3, 4] (.two (.two .leaf (.two .leaf .leaf)) (.two (.one (.two .leaf (.two (.two .leaf (.one (.loop [0, 3, 4, 5, 6] (.two (.two .leaf (.two .leaf .leaf)) (.two (.one (.two .leaf .leaf)) .leaf))))) .leaf))) .leaf))))) (.two .leaf .leaf))))) .pureN Sh.f5 := by unfold T1; intros; kernel_rfl
theorem BL : AJ Tryz.prog Gs 34 (ap1 Sh.f5) := Bu mixed (Ay _ _) Tryz.func34 (by kernel_rfl) GD
noncomputable def HE : Orc := (ent 34 (ap1 Sh.f5) noO)
theorem Hp : T2 Tryz.prog Gs false HE Tryz.f61 (.two .leaf (.two (.two .leaf (.two (.two .leaf .leaf) .leaf)) (.two .leaf (.two (.two .leaf (.one (.loop [0, 1, 5, 6] (.two (.two .leaf (.two .leaf .leaf)) (.two (.one (.two .leaf (.two .leaf (.one (.loop [0, 1, 5, 6, 7, 8] (.two (.two .leaf (.two .leaf .leaf)) (.two (.one (.two .leaf (.two .leaf (.two (.two .leaf .leaf) .leaf)))) .leaf))))))) .leaf))))) (.two .leaf .leaf))))) .keep Sh.fq := by unfold T2; intros; kernel_rfl
theorem Ei : AJ Tryz.prog Gs 61 (ap2 Sh.fq) := B3 mixed ((Ag BL (Ay _ _))) Tryz.func61 (by kernel_rfl) Hp
noncomputable def Le (m : Nat) : Orc := ent 65 (ap3 (Sh.f7 m)) noO
theorem KX (m : Nat) : T3 Tryz.prog Gs false (Le m) Tryz.f65 (.two .leaf (.two (.two .leaf (.one (.loop [0, 1, 2, 7] (.two (.two .leaf (.two .leaf .leaf)) (.two (.one (.two .leaf (.two (.two .leaf .leaf) .leaf))) .leaf))))) (.two (.two .leaf (.one (.loop [0, 1, 2, 8] (.two (.two .leaf (.two .leaf .leaf)) (.join [0, 1, 2, 8] (.one (.two .leaf (.two .leaf .leaf))) .leaf))))) (.two .leaf .leaf)))) .keep (Sh.f7 (m + 1)) := by unfold T3; intros; kernel_rfl
theorem Fl : ∀ m, AJ Tryz.prog Gs 65 (ap3 (Sh.f7 m))
 | 0 => none_ok3 fun _ _ _ _ => rfl
 | m + 1 => Fs mixed (Ag (Fl m) (Ay _ _)) Tryz.func65 (by kernel_rfl) (KX m)
noncomputable def IP : Orc := (ent 15 (ap1 Sh.fc) (ent 61 (ap2 Sh.fq) (ent 34 (ap1 Sh.f5) (ent 65 (ap3 (Sh.f7 AM)) noO))))
theorem I8 : T1 Tryz.prog Gs false IP Tryz.f36 (.two .leaf (.two .leaf (.two (.two .leaf (.two (.two .leaf .leaf) .leaf)) (.two (.two .leaf (.two (.two .leaf .leaf) .leaf)) (.two .leaf (.two (.two .leaf (.one (.loop [3, 4, 5] (.two (.two .leaf (.two .leaf .leaf)) (.two (.one (.two (.two .leaf (.two (.two .leaf .leaf) .leaf)) (.two .leaf (.one (.loop [3, 4, 5, 6] (.two (.two .leaf (.two .leaf .leaf)) (.two (.one (.two (.reg [0, 1, 2, 3, 4, 5, 6, 7, 8]) (.two (.two .leaf .leaf) .leaf))) .leaf))))))) .leaf))))) (.two .leaf (.two (.two .leaf (.one (.loop [3, 7, 8] (.two (.two .leaf (.two .leaf .leaf)) (.two (.one (.two .leaf (.two (.two .leaf .leaf) .leaf))) .leaf))))) (.two .leaf .leaf))))))))) .pure Sh.f22 := by unfold T1; intros; kernel_rfl
theorem HZ : AJ Tryz.prog Gs 36 (ap1 Sh.f22) := Bu mixed ((Ag E7 ((Ag Ei ((Ag BL ((Ag (Fl AM) (Ay _ _))))))))) Tryz.func36 (by kernel_rfl) I8
noncomputable def IM : Orc := (ent 35 (ap1 Sh.f21) (ent 36 (ap1 Sh.f22) noO))
theorem I6 : T1 Tryz.prog Gs false IM Tryz.f12 (.two .leaf (.two .leaf .leaf)) .pure Sh.f8 := by unfold T1; intros; kernel_rfl
theorem E5 : AJ Tryz.prog Gs 12 (ap1 Sh.f8) := Bu mixed ((Ag Jj ((Ag HZ (Ay _ _))))) Tryz.func12 (by kernel_rfl) I6
noncomputable def Ka : Orc := noO
theorem J3 : T1 Tryz.prog Gs false Ka Tryz.f66 (.two .leaf (.two .leaf (.two (.two .leaf (.one (.loop [1, 3, 4] (.two (.two .leaf (.two .leaf .leaf)) (.two (.one (.two .leaf (.one (.loop [1, 3, 4, 5] (.two (.two .leaf (.two .leaf .leaf)) (.two (.one .leaf) .leaf)))))) .leaf))))) (.two .leaf .leaf)))) .pure Sh.f11 := by unfold T1; intros; kernel_rfl
theorem Je : AJ Tryz.prog Gs 66 (ap1 Sh.f11) := Bu mixed (Ay _ _) Tryz.func66 (by kernel_rfl) J3
noncomputable def IS : Orc := noO
theorem IB : T1 Tryz.prog Gs false IS Tryz.f67 (.two .leaf (.two (.two .leaf (.two (.two .leaf .leaf) .leaf)) (.two .leaf .leaf))) .pure Sh.fr := by unfold T1; intros; kernel_rfl
theorem Ib : AJ Tryz.prog Gs 67 (ap1 Sh.fr) := Bu mixed (Ay _ _) Tryz.func67 (by kernel_rfl) IB
noncomputable def Kc : Orc := noO
theorem J5 : T2 Tryz.prog Gs false Kc Tryz.f68 (.two .leaf (.two .leaf (.two .leaf (.two (.two .leaf (.two (.two .leaf .leaf) .leaf)) (.two (.one (.loop [1, 6, 7] (.two (.two .leaf (.two .leaf .leaf)) (.one (.two .leaf (.two (.two .leaf (.one (.loop [1, 6, 7, 8, 9] (.two (.two .leaf (.two .leaf .leaf)) (.join [1, 6, 7, 8, 9] (.one (.two .leaf (.two (.two .leaf (.two .leaf .leaf)) (.two .leaf (.two .leaf (.two .leaf .leaf)))))) .leaf))))) (.two .leaf .leaf))))))) (.two .leaf .leaf)))))) .pureN Sh.f24 := by unfold T2; intros; kernel_rfl
theorem Jg : AJ Tryz.prog Gs 68 (ap2 Sh.f24) := B3 mixed (Ay _ _) Tryz.func68 (by kernel_rfl) J5
noncomputable def LD (m : Nat) : Orc := ent 88 (ap4 (Sh.f9 m)) noO
theorem L4 (m : Nat) : T4 Tryz.prog Gs false (LD m) Tryz.f88 (.two .leaf (.two (.two .leaf (.two (.two .leaf .leaf) .leaf)) (.two .leaf (.two (.two .leaf (.one (.loop [0, 1, 2, 3, 9, 10] (.two (.two .leaf (.two .leaf .leaf)) (.two (.one .leaf) .leaf))))) (.two (.reg [0, 1, 2, 3, 4, 5, 6, 7, 8, 9, 10, 11, 12, 13, 14, 15]) (.two (.two .leaf (.two (.two .leaf .leaf) .leaf)) (.two (.reg [0, 1, 2, 3, 4, 5, 6, 7, 8, 9]) .leaf))))))) .keep (Sh.f9 (m + 1)) := by unfold T4; intros; kernel_rfl
theorem Fz : ∀ m, AJ Tryz.prog Gs 88 (ap4 (Sh.f9 m))
 | 0 => none_ok4 fun _ _ _ _ _ => rfl
 | m + 1 => fn_ok4 mixed (Ag (Fz m) (Ay _ _)) Tryz.func88 (by kernel_rfl) (L4 m)
noncomputable def JX : Orc := (ent 88 (ap4 (Sh.f9 AM)) noO)
theorem J0 : T2 Tryz.prog Gs false JX Tryz.f69 (.two .leaf (.two .leaf (.two (.two .leaf (.one (.loop [0, 1, 5, 6, 7] (.two (.two .leaf (.two .leaf .leaf)) (.join [0, 1, 5, 6, 7] (.one (.two .leaf (.two (.two .leaf (.one (.loop [0, 1, 5, 6, 7, 8, 9, 10] (.two (.two .leaf (.two .leaf .leaf)) (.join [0, 1, 5, 6, 7, 8, 9, 10] (.one (.two .leaf (.two (.two .leaf .leaf) .leaf))) .leaf))))) (.two .leaf (.two .leaf (.two .leaf .leaf)))))) .leaf))))) (.two .leaf .leaf)))) .keep Sh.f12 := by unfold T2; intros; kernel_rfl
theorem Jb : AJ Tryz.prog Gs 69 (ap2 Sh.f12) := B3 mixed ((Ag (Fz AM) (Ay _ _))) Tryz.func69 (by kernel_rfl) J0
noncomputable def Lf : Orc := noO
theorem KY : T1 Tryz.prog Gs false Lf Tryz.f111 (.two .leaf (.two (.one (.loop [0] (.two (.two .leaf (.two .leaf .leaf)) (.one .leaf)))) (.two .leaf .leaf))) .keepN Sh.fs := by unfold T1; intros; kernel_rfl
theorem Fm : AJ Tryz.prog Gs 111 (ap1 Sh.fs) := Bu mixed (Ay _ _) Tryz.func111 (by kernel_rfl) KY
noncomputable def Kj : Orc := (ent 111 (ap1 Sh.fs) noO)
theorem JC : T1 Tryz.prog Gs false Kj Tryz.f102 (.two .leaf (.two .leaf (.two (.two .leaf (.one (.loop [0, 3, 4] (.two (.two .leaf (.two .leaf .leaf)) (.two (.one (.two .leaf (.two .leaf (.one (.loop [0, 3, 4, 5, 6] (.two (.two .leaf (.two .leaf .leaf)) (.two (.one .leaf) .leaf))))))) .leaf))))) (.two .leaf .leaf)))) .pureN Sh.ft := by unfold T1; intros; kernel_rfl
theorem Jm : AJ Tryz.prog Gs 102 (ap1 Sh.ft) := Bu mixed ((Ag Fm (Ay _ _))) Tryz.func102 (by kernel_rfl) JC
noncomputable def LG : Orc := (ent 111 (ap1 Sh.fs) noO)
theorem L7 : T1 Tryz.prog Gs false LG Tryz.f101 (.two .leaf (.two .leaf (.two .leaf (.two (.two .leaf (.one (.loop [0, 3, 4] (.two (.two .leaf (.two .leaf .leaf)) (.two (.one (.two .leaf (.two (.two .leaf (.one (.loop [0, 3, 4, 5, 6, 7] (.two (.two .leaf (.two .leaf .leaf)) (.two (.one (.join [0, 3, 4, 5, 6, 7] (.two .leaf (.two .leaf .leaf)) .leaf)) .leaf))))) .leaf))) .leaf))))) (.two .leaf .leaf))))) .pureN Sh.f25 := by unfold T1; intros; kernel_rfl
theorem Lk : AJ Tryz.prog Gs 101 (ap1 Sh.f25) := Bu mixed ((Ag Fm (Ay _ _))) Tryz.func101 (by kernel_rfl) L7
noncomputable def Ki : Orc := (ent 102 (ap1 Sh.ft) (ent 101 (ap1 Sh.f25) noO))
theorem JB : T1 Tryz.prog Gs false Ki Tryz.f89 (.two .leaf (.two .leaf .leaf)) .keepN Sh.fd := by unfold T1; intros; kernel_rfl
theorem EK : AJ Tryz.prog Gs 89 (ap1 Sh.fd) := Bu mixed ((Ag Jm ((Ag Lk (Ay _ _))))) Tryz.func89 (by kernel_rfl) JB
noncomputable def Kh : Orc := (ent 89 (ap1 Sh.fd) noO)
theorem JA : T2 Tryz.prog Gs false Kh Tryz.f72 (.two .leaf (.two .leaf (.two .leaf .leaf))) .pureN Sh.f26 := by unfold T2; intros; kernel_rfl
theorem Jl : AJ Tryz.prog Gs 72 (ap2 Sh.f26) := B3 mixed ((Ag EK (Ay _ _))) Tryz.func72 (by kernel_rfl) JA
noncomputable def LF : Orc := (ent 72 (ap2 Sh.f26) noO)
theorem L6 : T1 Tryz.prog Gs false LF Tryz.f39 (.two .leaf (.two .leaf (.join [0, 2, 3] (.two .leaf (.two .leaf .leaf)) (.two .leaf .leaf)))) .pureN Sh.f27 := by unfold T1; intros; kernel_rfl
theorem Lj : AJ Tryz.prog Gs 39 (ap1 Sh.f27) := Bu mixed ((Ag Jl (Ay _ _))) Tryz.func39 (by kernel_rfl) L6
noncomputable def Lg : Orc := (ent 89 (ap1 Sh.fd) noO)
theorem KZ : T2 Tryz.prog Gs false Lg Tryz.f71 (.two .leaf (.two (.two .leaf (.two (.two .leaf .leaf) .leaf)) (.two .leaf (.two .leaf (.two (.two .leaf (.one (.loop [0, 1, 6, 7, 8] (.two (.two .leaf (.two .leaf .leaf)) (.two (.one (.two .leaf (.reg [0, 1, 2, 3, 4, 5, 6, 11, 12, 7, 8, 9, 10, 13]))) .leaf))))) (.two .leaf .leaf)))))) .pureN Sh.f28 := by unfold T2; intros; kernel_rfl
theorem Kz : AJ Tryz.prog Gs 71 (ap2 Sh.f28) := B3 mixed ((Ag EK (Ay _ _))) Tryz.func71 (by kernel_rfl) KZ
noncomputable def Kg : Orc := (ent 71 (ap2 Sh.f28) noO)
theorem J9 : T1 Tryz.prog Gs false Kg Tryz.f38 (.two .leaf (.two .leaf (.two .leaf (.two (.one (.loop [1, 3, 4] (.one (.two .leaf (.two .leaf (.two .leaf (.two .leaf (.two .leaf .leaf)))))))) (.two (.two .leaf (.two (.two .leaf .leaf) .leaf)) (.two .leaf .leaf)))))) .pure Sh.f29 := by unfold T1; intros; kernel_rfl
theorem Jk : AJ Tryz.prog Gs 38 (ap1 Sh.f29) := Bu mixed ((Ag Kz (Ay _ _))) Tryz.func38 (by kernel_rfl) J9
noncomputable def HC : Orc := (ent 39 (ap1 Sh.f27) (ent 38 (ap1 Sh.f29) noO))
theorem Hn : T1 Tryz.prog Gs false HC Tryz.f70 (.two .leaf (.two .leaf .leaf)) .keep Sh.fu := by unfold T1; intros; kernel_rfl
theorem GZ : AJ Tryz.prog Gs 70 (ap1 Sh.fu) := Bu mixed ((Ag Lj ((Ag Jk (Ay _ _))))) Tryz.func70 (by kernel_rfl) Hn
noncomputable def IL : Orc := (ent 66 (ap1 Sh.f11) (ent 67 (ap1 Sh.fr) (ent 68 (ap2 Sh.f24) (ent 69 (ap2 Sh.f12) (ent 70 (ap1 Sh.fu) noO)))))
theorem I5 : T1 Tryz.prog Gs false IL Tryz.f37 (.two .leaf (.two .leaf (.two .leaf (.two (.two .leaf (.two (.two .leaf (.two .leaf .leaf)) .leaf)) (.two .leaf (.two .leaf (.two (.two .leaf (.one (.loop [3, 4, 7, 8, 9] (.two (.two .leaf (.two .leaf .leaf)) (.join [3, 4, 7, 8, 9] (.one (.two (.two .leaf (.two .leaf .leaf)) (.two .leaf (.two (.two .leaf (.one (.loop [3, 4, 7, 8, 9, 10, 11] (.two (.two .leaf (.two .leaf .leaf)) (.two (.one (.two .leaf (.join [3, 4, 7, 8, 9, 10, 11, 12] (.two .leaf (.two .leaf .leaf)) .leaf))) .leaf))))) (.join [3, 4, 7, 8, 9, 10] (.two .leaf (.two .leaf .leaf)) (.two .leaf .leaf)))))) .leaf))))) (.two .leaf .leaf)))))))) .pureN Sh.f2b := by unfold T1; intros; kernel_rfl
theorem HY : AJ Tryz.prog Gs 37 (ap1 Sh.f2b) := Bu mixed ((Ag Je ((Ag Ib ((Ag Jg ((Ag Jb ((Ag GZ (Ay _ _))))))))))) Tryz.func37 (by kernel_rfl) I5
noncomputable def JW : Orc := (ent 12 (ap1 Sh.f8) (ent 37 (ap1 Sh.f2b) noO))
theorem Jz : T1 Tryz.prog Gs false JW Tryz.f13 (.two .leaf (.two (.two .leaf (.two (.two .leaf .leaf) .leaf)) (.two .leaf (.two .leaf (.two (.two .leaf (.one (.loop [4, 5, 6] (.two (.two .leaf (.two .leaf .leaf)) (.two (.one .leaf) .leaf))))) (.two .leaf .leaf)))))) .pure Sh.fj := by unfold T1; intros; kernel_rfl
theorem Ja : AJ Tryz.prog Gs 13 (ap1 Sh.fj) := Bu mixed ((Ag E5 ((Ag HY (Ay _ _))))) Tryz.func13 (by kernel_rfl) Jz
noncomputable def P7 : Orc := (ent 20 (ap1 Sh.fz) noO)
theorem Ph : T1 Tryz.prog Gs false P7 Tryz.f18 (.two .leaf (.two .leaf (.two .leaf (.two (.reg [0, 1, 2, 3, 4, 5, 6, 7, 8, 9, 10, 11]) .leaf)))) .pure Sh.fk := by unfold T1; intros; kernel_rfl
theorem OD : AJ Tryz.prog Gs 18 (ap1 Sh.fk) := Bu mixed ((Ag Gy (Ay _ _))) Tryz.func18 (by kernel_rfl) Ph
theorem E9 : AJ Tryz.prog Gs 14 (ap0 Sl.gliderref11_Wide) := by rw [Sl.gliderref11_Wide_eq]; exact Jc
theorem He : AJ Tryz.prog Gs 8 (ap2 Sl.macro_Read) := by rw [Sl.macro_Read_eq]; exact OC
theorem E8 : AJ Tryz.prog Gs 13 (ap1 Sl.gliderref14_Text) := by rw [Sl.gliderref14_Text_eq]; exact Ja
end Go.Gm
namespace Go.Gm
open Go.Proofs
set_option maxRecDepth 100000
theorem NL : AJ Tryz.prog Gs 18 (ap1 Sl.macro_Hint) := by rw [Sl.macro_Hint_eq]; exact OD
noncomputable def IV : Orc := (ent 14 (ap0 Sl.gliderref11_Wide) (ent 8 (ap2 Sl.macro_Read) (ent 13 (ap1 Sl.gliderref14_Text) (ent 18 (ap1 Sl.macro_Hint) noO))))
theorem IE : T0 Tryz.prog Gs false IV Tryz.f7 (.two .leaf (.two .leaf (.two .leaf (.two .leaf (.two .leaf (.two .leaf (.two .leaf (.two .leaf (.two .leaf (.two .leaf (.two .leaf (.two .leaf .leaf)))))))))))) .pure Sh.fl := by unfold T0; intros; kernel_rfl
theorem Ie : AJ Tryz.prog Gs 7 (ap0 Sh.fl) := fn_ok0 mixed ((Ag E9 ((Ag He ((Ag E8 ((Ag NL (Ay _ _))))))))) Tryz.func7 (by kernel_rfl) IE
end Go.Gm
namespace Go.Gm
open Go.Proofs
set_option maxRecDepth 100000
noncomputable def IU : Orc := (ent 34 (ap1 Sh.f5) noO)
theorem ID : T2 Tryz.prog Gs false IU Tryz.f60 (.two .leaf (.two .leaf .leaf)) .keep Sh.f2c := by unfold T2; intros; kernel_rfl
theorem Id : AJ Tryz.prog Gs 60 (ap2 Sh.f2c) := B3 mixed ((Ag BL (Ay _ _))) Tryz.func60 (by kernel_rfl) ID
noncomputable def IT : Orc := noO
theorem IC : T3 Tryz.prog Gs false IT Tryz.f62 (.two .leaf (.two .leaf (.two (.two .leaf (.two (.two .leaf .leaf) .leaf)) (.two .leaf .leaf)))) .keep Sh.f2d := by unfold T3; intros; kernel_rfl
theorem Ic : AJ Tryz.prog Gs 62 (ap3 Sh.f2d) := Fs mixed (Ay _ _) Tryz.func62 (by kernel_rfl) IC
noncomputable def HD : Orc := (ent 60 (ap2 Sh.f2c) (ent 61 (ap2 Sh.fq) (ent 62 (ap3 Sh.f2d) noO)))
theorem Ho : T2 Tryz.prog Gs false HD Tryz.f32 (.two .leaf (.two .leaf (.two (.two .leaf (.two (.two .leaf .leaf) .leaf)) (.two (.one (.loop [1, 6] (.two (.two .leaf (.two .leaf .leaf)) (.one (.two .leaf (.two (.two .leaf (.one (.loop [1, 6, 7, 8] (.two (.two .leaf (.two .leaf .leaf)) (.two (.one .leaf) .leaf))))) (.two .leaf .leaf))))))) (.two .leaf .leaf))))) .pureN Sh.f2e := by unfold T2; intros; kernel_rfl
theorem Ha : AJ Tryz.prog Gs 32 (ap2 Sh.f2e) := B3 mixed ((Ag Id ((Ag Ei ((Ag Ic (Ay _ _))))))) Tryz.func32 (by kernel_rfl) Ho
noncomputable def Kb : Orc := noO
theorem J4 : T2 Tryz.prog Gs false Kb Tryz.f63 (.two .leaf (.two (.two .leaf (.one (.loop [0, 3, 5] (.two (.two .leaf (.two .leaf .leaf)) (.two (.one (.two (.reg [0, 1, 2, 3, 4, 5]) (.two (.two .leaf .leaf) .leaf))) .leaf))))) (.two .leaf .leaf))) .pure Sh.f2f := by unfold T2; intros; kernel_rfl
theorem Jf : AJ Tryz.prog Gs 63 (ap2 Sh.f2f) := B3 mixed (Ay _ _) Tryz.func63 (by kernel_rfl) J4
noncomputable def IN (m : Nat) : Orc := ent 33 (ap5 (Sh.fe m)) (ent 63 (ap2 Sh.f2f) noO)
theorem I7 (m : Nat) : T5 Tryz.prog Gs false (IN m) Tryz.f33 (.two .leaf (.two (.two .leaf (.two (.two .leaf .leaf) .leaf)) (.two (.two .leaf (.two (.two (.reg [0, 1, 2, 3, 4, 5, 6, 7, 8]) .leaf) .leaf)) (.two .leaf (.two (.two .leaf (.one (.loop [0, 1, 2, 3, 4, 13, 14] (.two (.two .leaf (.two .leaf .leaf)) (.two (.one .leaf) .leaf))))) (.two .leaf (.join [2, 3, 4, 15] (.two .leaf (.two (.two .leaf .leaf) .leaf)) (.two .leaf (.two .leaf .leaf))))))))) .keep (Sh.fe (m + 1)) := by unfold T5; intros; kernel_rfl
theorem E6 : ∀ m, AJ Tryz.prog Gs 33 (ap5 (Sh.fe m))
 | 0 => PC fun _ _ _ _ _ _ => rfl
 | m + 1 => fn_ok5 mixed (Ag (E6 m) ((Ag Jf (Ay _ _)))) Tryz.func33 (by kernel_rfl) (I7 m)
noncomputable def LE : Orc := (ent 15 (ap1 Sh.fc) (ent 32 (ap2 Sh.f2e) (ent 34 (ap1 Sh.f5) (ent 33 (ap5 (Sh.fe AM)) noO))))
theorem L5 : T2 Tryz.prog Gs false LE Tryz.f11 (.two .leaf (.two (.two .leaf (.two (.two .leaf .leaf) .leaf)) (.two .leaf (.two (.reg [1, 2, 0, 3, 4, 5, 6, 7, 8, 9, 10, 11, 12, 13, 14, 15]) (.two .leaf .leaf))))) .pureN Sh.fm := by unfold T2; intros; kernel_rfl
theorem Li : AJ Tryz.prog Gs 11 (ap2 Sh.fm) := B3 mixed ((Ag E7 ((Ag Ha ((Ag BL ((Ag (E6 AM) (Ay _ _))))))))) Tryz.func11 (by kernel_rfl) L5
noncomputable def IQ : Orc := noO
theorem I9 : T2 Tryz.prog Gs false IQ Tryz.f40 (.two .leaf (.two (.two .leaf (.two (.two .leaf .leaf) .leaf)) (.two (.two .leaf (.one (.loop [0, 1, 5] (.two (.two .leaf (.two .leaf .leaf)) (.two (.one (.two (.reg [0, 1, 2, 3, 4, 5, 6, 7, 8]) (.two (.two .leaf .leaf) .leaf))) .leaf))))) (.two .leaf .leaf)))) .keep Sh.f2g := by unfold T2; intros; kernel_rfl
theorem Ia : AJ Tryz.prog Gs 40 (ap2 Sh.f2g) := B3 mixed (Ay _ _) Tryz.func40 (by kernel_rfl) I9
noncomputable def Kd : Orc := (ent 40 (ap2 Sh.f2g) noO)
theorem J6 : T2 Tryz.prog Gs false Kd Tryz.f17 (.two .leaf (.two .leaf .leaf)) .pure Sh.fv := by unfold T2; intros; kernel_rfl
theorem Jh : AJ Tryz.prog Gs 17 (ap2 Sh.fv) := B3 mixed ((Ag Ia (Ay _ _))) Tryz.func17 (by kernel_rfl) J6
noncomputable def JZ : Orc := (ent 17 (ap2 Sh.fv) noO)
theorem J2 : T2 Tryz.prog Gs false JZ Tryz.f10 (.two .leaf (.two .leaf .leaf)) .pure Sh.fn := by unfold T2; intros; kernel_rfl
theorem Jd : AJ Tryz.prog Gs 10 (ap2 Sh.fn) := B3 mixed ((Ag Jh (Ay _ _))) Tryz.func10 (by kernel_rfl) J2
theorem Hg : AJ Tryz.prog Gs 7 (ap0 Sl.gliderlaw19_alive) := by rw [Sl.gliderlaw19_alive_eq]; exact Ie
theorem If : AJ Tryz.prog Gs 10 (ap2 Sl.gliderref11_Same) := by rw [Sl.gliderref11_Same_eq]; exact Jd
theorem K0 : AJ Tryz.prog Gs 11 (ap2 Sl.gliderref06_Of) := by rw [Sl.gliderref06_Of_eq]; exact Li
theorem Hf : AJ Tryz.prog Gs 12 (ap1 Sl.gliderref11_Right) := by rw [Sl.gliderref11_Right_eq]; exact E5
noncomputable def Gg : Orc := (ent 7 (ap0 Sl.gliderlaw19_alive) (ent 11 (ap2 Sl.gliderref06_Of) (ent 12 (ap1 Sl.gliderref11_Right) (ent 13 (ap1 Sl.gliderref14_Text) (ent 14 (ap0 Sl.gliderref11_Wide) (ent 8 (ap2 Sl.macro_Read) (ent 10 (ap2 Sl.gliderref11_Same) noO)))))))
theorem Gb : T3 Tryz.prog Gs false Gg Tryz.f4 (.two .leaf (.two (.two .leaf (.two (.two .leaf .leaf) .leaf)) (.two (.two .leaf (.two (.two .leaf .leaf) .leaf)) (.two .leaf (.two .leaf (.two (.two .leaf (.two (.two .leaf .leaf) .leaf)) (.two .leaf (.two .leaf (.two .leaf .leaf))))))))) .pure Sh.f3x := by unfold T3; intros; kernel_rfl
theorem FT : AJ Tryz.prog Gs 4 (ap3 Sh.f3x) := Fs mixed ((Ag Hg ((Ag K0 ((Ag Hf ((Ag E8 ((Ag E9 ((Ag He ((Ag If (Ay _ _))))))))))))))) Tryz.func4 (by kernel_rfl) Gb
end Go.Gm
namespace Go.Gm
def F4 (l : List Bool) : List Bool := (l.reverse.dropWhile fun b => !b).reverse
theorem cutL_nil : F4 [] = [] := rfl
theorem NE (l : List Bool) : F4 (l ++ [true]) = l ++ [true] := by simp [F4]
theorem LS (l : List Bool) : F4 (l ++ [false]) = F4 l := by simp [F4]
theorem L8 {α : Type} (l : List α) : l = [] ∨ ∃ l' a, l = l' ++ [a] := by
 cases h : l.reverse with
 | nil => left; simpa using h
 | cons a r => right; exact ⟨r.reverse, a, by have := congrArg List.reverse h; simpa using this⟩
def Ch : Nat → Nat → List Bool
 | 0, _ => []
 | n + 1, x => (x % 2 == 1) :: Ch n (x / 2)
theorem G8 : ∀ (n x : Nat), (Ch n x).length = n
 | 0, _ => rfl
 | n + 1, x => by simp [Ch, G8 n]
def Bg (l : List Nat) : List Bool := l.flatMap (Ch 32)
theorem C3 (l : List Nat) : (Bg l).length = 32 * l.length := by
 induction l with
 | nil => rfl
 | cons a l ih => simp only [Bg, List.flatMap_cons, List.length_append, G8, List.length_cons] at ih ⊢; omega
def Dc : List Bool → Nat
 | [] => 0
 | b :: l => (if b then 1 else 0) + 2 * Dc l
theorem Fc (l m : List Bool) : Dc (l ++ m) = Dc l + 2 ^ l.length * Dc m := by
 induction l with
 | nil => simp [Dc]
 | cons b l ih =>
  simp only [List.cons_append, Dc, ih, List.length_cons, Nat.pow_succ]
  rw [Nat.mul_add, ← Nat.add_assoc, Nat.mul_comm (2 ^ l.length) 2, Nat.mul_assoc]
theorem nat1_lt (l : List Bool) : Dc l < 2 ^ l.length := by
 induction l with
 | nil => simp [Dc]
 | cons b l ih => simp only [Dc, List.length_cons, Nat.pow_succ]; split <;> omega
def Eq (c : List Bool) (q : Nat) : Nat := Dc ((c.drop (32 * q)).take 32)
def CB (c : List Bool) (q : Nat) : List Nat := (List.range q).map (Eq c)
theorem HL (c : List Bool) (q : Nat) : CB c (q + 1) = CB c q ++ [Eq c q] := by simp [CB, List.range_succ]
theorem Km (c : List Bool) (q : Nat) : (CB c q).length = q := by simp [CB]
def HM (l : List Bool) : List Nat := CB (F4 l) (((F4 l).length + 31) / 32)
theorem cutL_le (l : List Bool) : (F4 l).length ≤ l.length := by
 unfold F4
 rw [List.length_reverse]
 have := (List.dropWhile_sublist (p := fun b => !b) (l := l.reverse)).length_le
 simpa using this
def val : List Nat → Nat
 | [] => 0
 | a :: l => a + 4294967296 * val l
structure Nrm (l : List Nat) : Prop where
 lt : ∀ x ∈ l, x < 4294967296
 last : ∀ x, l.getLast? = some x → x ≠ 0
theorem EL (l m : List Nat) : val (l ++ m) = val l + 4294967296 ^ l.length * val m := by
 induction l with
 | nil => simp [val]
 | cons b l ih =>
  simp only [List.cons_append, val, ih, List.length_cons, Nat.pow_succ]
  rw [Nat.mul_add, ← Nat.add_assoc, Nat.mul_comm (4294967296 ^ l.length) 4294967296, Nat.mul_assoc]
theorem Nrm.tail {a : Nat} {l : List Nat} (h : Nrm (a :: l)) : Nrm l :=
 ⟨fun x hx => h.lt x (by simp [hx]), fun x hx => h.last x (by cases l with | nil => simp at hx | cons b l => simpa [List.getLast?_cons_cons] using hx)⟩
theorem Nrm.zero : ∀ {l : List Nat}, Nrm l → val l = 0 → l = []
 | [], _, _ => rfl
 | a :: l, h, hv => by
  exfalso
  simp only [val] at hv
  have h1 : a = 0 := by omega
  have h2 : l = [] := h.tail.zero (by omega)
  subst h2
  exact h.last a (by simp) h1
theorem Nrm.inj : ∀ {l m : List Nat}, Nrm l → Nrm m → val l = val m → l = m
 | [], m, _, hm, h => (hm.zero (by simpa [val] using h.symm)).symm
 | a :: l, [], hl, _, h => hl.zero (by simpa [val] using h)
 | a :: l, b :: m, hl, hm, h => by
  have h1 := hl.lt a (by simp)
  have h2 := hm.lt b (by simp)
  simp only [val] at h
  have e1 : a = b := by omega
  have e2 : val l = val m := by omega
  rw [e1, Nrm.inj hl.tail hm.tail e2]
theorem val_bits (l : List Nat) (hx : ∀ x ∈ l, x < 4294967296) : Dc (Bg l) = val l := by
 have key : ∀ (n x : Nat), Dc (Ch n x) = x % 2 ^ n := by
  intro n
  induction n with
  | zero => intro x; simp [Ch, Dc, Nat.mod_one]
  | succ n ih =>
   intro x
   simp only [Ch, Dc, ih]
   rw [Nat.pow_succ, Nat.mul_comm (2 ^ n) 2, Nat.mod_mul]
   congr 1
   have : x % 2 < 2 := Nat.mod_lt _ (by omega)
   split
   ·rename_i h; have := of_decide_eq_true (p := x % 2 = 1) (by simpa using h); omega
   ·rename_i h; have : ¬ x % 2 = 1 := by simpa using h
    omega
 induction l with
 | nil => rfl
 | cons a l ih =>
  have e : Bg (a :: l) = Ch 32 a ++ Bg l := rfl
  rw [e, Fc, key, G8, ih fun x h => hx x (by simp [h])]
  have := hx a (by simp)
  simp only [val]
  rw [Nat.mod_eq_of_lt (by omega)]
theorem PD (l : List Bool) : Dc (F4 l) = Dc l := by
 suffices h : ∀ r : List Bool, Dc (F4 r.reverse) = Dc r.reverse by have := h l.reverse; simpa using this
 intro r
 induction r with
 | nil => rfl
 | cons b r ih =>
  rw [List.reverse_cons]
  cases b with
  | true => rw [NE]
  | false => rw [LS, ih, Fc]; simp [Dc]
theorem limbAt_lt (c : List Bool) (q : Nat) : Eq c q < 4294967296 := by
 have h := nat1_lt ((c.drop (32 * q)).take 32)
 have h2 : ((c.drop (32 * q)).take 32).length ≤ 32 := by simp; omega
 have : 2 ^ ((c.drop (32 * q)).take 32).length ≤ 2 ^ 32 := Nat.pow_le_pow_right (by omega) h2
 unfold Eq
 omega
theorem NP (c : List Bool) : ∀ q, val (CB c q) = Dc (c.take (32 * q))
 | 0 => by simp [CB, val, Dc]
 | q + 1 => by
  rw [HL, EL, NP c q, Km]
  have e : c.take (32 * (q + 1)) = c.take (32 * q) ++ (c.drop (32 * q)).take 32 := by rw [Nat.mul_add, List.take_add]
  rw [e, Fc]
  by_cases h : 32 * q ≤ c.length
  ·have : (c.take (32 * q)).length = 32 * q := by simp; omega
   rw [this, show (4294967296 : Nat) = 2 ^ 32 from rfl, ← Nat.pow_mul]
   simp [val, Eq]
  ·have : c.drop (32 * q) = [] := List.drop_of_length_le (by omega)
   simp [val, Eq, this, Dc]
theorem cutL_end (l : List Bool) : F4 l = [] ∨ ∃ m, F4 l = m ++ [true] := by
 suffices h : ∀ r : List Bool, F4 r.reverse = [] ∨ ∃ m, F4 r.reverse = m ++ [true] by have := h l.reverse; simpa using this
 intro r
 induction r with
 | nil => exact .inl rfl
 | cons b r ih =>
  rw [List.reverse_cons]
  cases b with
  | true => rw [NE]; exact .inr ⟨_, rfl⟩
  | false => rw [LS]; exact ih
theorem NQ (l : List Bool) : val (HM l) = Dc l := by
 unfold HM
 rw [NP, List.take_of_length_le (by omega), PD]
theorem NX (l : List Bool) : Nrm (HM l) := by
 unfold HM
 refine ⟨fun x hx => ?_, fun x hx => ?_⟩
 ·simp only [CB, List.mem_map] at hx
  obtain ⟨q, _, rfl⟩ := hx
  exact limbAt_lt _ _
 ·rcases cutL_end l with h | ⟨m, h⟩
  ·rw [h] at hx; simp [CB] at hx
  ·obtain ⟨Q, hQ⟩ : ∃ Q, ((F4 l).length + 31) / 32 = Q + 1 := ⟨((F4 l).length + 31) / 32 - 1, by rw [h]; simp; omega⟩
   have hlen : (F4 l).length = m.length + 1 := by rw [h]; simp
   rw [hQ, HL] at hx
   simp at hx
   subst hx
   unfold Eq
   rw [List.take_of_length_le (by simp; omega), h, List.drop_append_of_le_length (by omega), Fc]
   have : 0 < 2 ^ (m.drop (32 * Q)).length := Nat.two_pow_pos _
   simp [Dc]
def CA (n : Nat) : List Nat := HM (Ch n n)
theorem Nj (n : Nat) : n < 2 ^ n := Nat.lt_two_pow_self
theorem nat1_bitsOf (n x : Nat) : Dc (Ch n x) = x % 2 ^ n := by
 induction n generalizing x with
 | zero => simp [Ch, Dc, Nat.mod_one]
 | succ n ih =>
  simp only [Ch, Dc, ih]
  rw [Nat.pow_succ, Nat.mul_comm (2 ^ n) 2, Nat.mod_mul]
  congr 1
  split
  ·rename_i h; have := of_decide_eq_true (p := x % 2 = 1) (by simpa using h); omega
  ·rename_i h; have : ¬ x % 2 = 1 := by simpa using h
   omega
theorem GA (n : Nat) : val (CA n) = n := by
 unfold CA
 rw [NQ, nat1_bitsOf, Nat.mod_eq_of_lt (Nj n)]
theorem Ml (n : Nat) : Nrm (CA n) := NX _
theorem PQ {l : List Nat} (h : Nrm l) : l = CA (val l) := h.inj (Ml _) (GA _).symm
theorem limbsOf_eq (l : List Bool) : HM l = CA (Dc l) := by rw [PQ (NX l), NQ]
theorem pow10_le {k m : Nat} (h : 10 * k ≤ m) : 4294967296 ^ k ≤ 10 ^ m := by
 refine Nat.le_trans (Nat.pow_le_pow_left (show 4294967296 ≤ 10 ^ 10 by decide) k) ?_
 rw [← Nat.pow_mul]
 exact Nat.pow_le_pow_right (by omega) h
def Lim (l : List Nat) : Prop := ∀ x ∈ l, x < 4294967296
def sgn (neg : Bool) (n : Nat) : Bool := neg && decide (n ≠ 0)
theorem KF : CA 0 = [] := (Ml 0).zero (GA 0)
theorem lims_ne {n : Nat} (h : n ≠ 0) : CA n ≠ [] := fun e => h (by have := GA n; rw [e] at this; simpa [val] using this.symm)
def bigI (neg : Bool) (l : List Nat) : Int := if neg then -(val l : Int) else val l
theorem lim_lims (n : Nat) : Lim (CA n) := (Ml n).lt
theorem lims_len {n k : Nat} (h : n < 4294967296 ^ k) : (CA n).length ≤ k := by
 rcases Nat.lt_or_ge k (CA n).length with h1 | h1
 ·exfalso
  rcases L8 (CA n) with e | ⟨m, a, e⟩
  ·rw [e] at h1; simp at h1
  ·have hv := GA n
   rw [e, EL] at hv
   have ha : a ≠ 0 := (Ml n).last a (by rw [e]; simp)
   rw [e] at h1
   have hk : k ≤ m.length := by simp at h1; omega
   have : 4294967296 ^ k ≤ 4294967296 ^ m.length := Nat.pow_le_pow_right (by omega) hk
   have h2 : 4294967296 ^ m.length * 1 ≤ 4294967296 ^ m.length * val [a] := Nat.mul_le_mul_left _ (by simp [val]; omega)
   omega
 ·exact h1
theorem pow_le32 {i j : Nat} (h : i ≤ j) : (4294967296 : Nat) ^ i ≤ 4294967296 ^ j := Nat.pow_le_pow_right (by omega) h
end Go.Gm
namespace Go.Gm
def Shp (P : Program) : Nat → TypeId → List Aa → Prop
 | 0, _, _ => False
 | f + 1, t, vas => match P.underlying t with
  | some .bool => ∃ b, vas = [.bool b]
  | some (.int k) => ∃ n, vas = [.int k n] ∧ (Lit.int k n).wf = true
  | some .string => ∃ s, vas = [.str s] ∧ s.length ≤ maxLen
  | some (.slice e) => ∃ es, vas = [.sl es .no] ∧ es.length ≤ maxLen ∧ ∀ x ∈ es, Shp P f e x
  | some (.struct fs) => ∃ ps : List (List Aa), vas = ps.flatten ∧ ps.length = fs.toList.length ∧ ∀ (i : Nat) (fd : Field) (p : List Aa), fs.toList[i]? = some fd → ps[i]? = some p → Shp P f fd.type p
  | some (.array n e) => ∃ ps : List (List Aa), vas = ps.flatten ∧ ps.length = n ∧ ∀ p ∈ ps, Shp P f e p
  | _ => False
def layF (P : Program) (total : Nat) : List Field → Nat → Bool
 | [], off => off == total
 | f :: r, off => f.offset == off && layF P total r (off + P.cellsOf f.type)
def Oy (P : Program) : Nat → TypeId → Bool
 | 0, _ => false
 | f + 1, t => match P.underlying t with
  | some .bool => true
  | some (.int _) => true
  | some .string => true
  | some (.slice e) => decide (0 < P.cellsOf e) && Oy P f e
  | some (.struct fs) => layF P (P.cellsOf t) fs.toList 0 && fs.toList.all fun fd => Oy P f fd.type
  | some (.array n e) => decide (P.cellsOf t = n * P.cellsOf e) && Oy P f e
  | _ => false
theorem PH {α β : Type} {f : α → Option β} : ∀ {l : List α} {r : List β}, l.mapM f = some r → ∀ a ∈ l, ∃ b, f a = some b
 | [], _, _, a, ha => by cases ha
 | x :: l, r, h, a, ha => by
  rw [List.mapM_cons] at h
  cases hx : f x with
  | none => simp [hx] at h
  | some b =>
   cases hl : l.mapM f with
   | none => simp [hx, hl] at h
   | some bs =>
    rcases List.mem_cons.1 ha with rfl | ha
    ·exact ⟨b, hx⟩
    ·exact PH hl a ha
theorem PI {α β : Type} {f : α → Option β} : ∀ {l : List α} {r : List β}, l.mapM f = some r → r.length = l.length ∧ ∀ (i : Nat) (a : α), l[i]? = some a → r[i]? = f a
 | [], r, h => by
  have : r = [] := by simpa using h.symm
  subst this
  exact ⟨rfl, fun i a ha => by simp at ha⟩
 | x :: l, r, h => by
  rw [List.mapM_cons] at h
  cases hx : f x with
  | none => simp [hx] at h
  | some b =>
   cases hl : l.mapM f with
   | none => simp [hx, hl] at h
   | some bs =>
    have : r = b :: bs := by simpa [hx, hl] using h.symm
    subst this
    obtain ⟨h1, h2⟩ := PI hl
    refine ⟨by simp [h1], fun i a ha => ?_⟩
    cases i with
    | zero => simp at ha; subst ha; simp [hx]
    | succ i => simp at ha ⊢; exact h2 i a ha
theorem Env0_I (W : World) (b o : Nat) : (Lm W).I b o = W.cell? ⟨b, o, none⟩ := rfl
section
variable {H : Type} {enc : TypeId × Value → H} {P : Program} {w : World} {base : Nat} {spare : Nat → Bool} {held : Bool}
def OpenAt (enc : TypeId × Value → H) (P : Program) (w : World) (base : Nat) (spare : Nat → Bool) (held : Bool) (f fuel : Nat) : Prop :=
 ∀ (t : TypeId) (cs : List Value) (x : DataW H × List MemPlace), Oy P f t = true → DataW.trod enc P w base spare held fuel t cs = some x → ∃ vas, At (Lm w) vas cs ∧ (∀ c ∈ vas, Bp c = true) ∧ Shp P f t vas
theorem NV {f fuel : Nat} (ih : OpenAt enc P w base spare held f fuel) (cs : List Value) : ∀ (fs : List Field) (off : Nat) (r : List (DataW H × List MemPlace)), layF P cs.length fs off = true → (fs.all fun fd => Oy P f fd.type) = true →
  (fs.mapM fun fd => DataW.trod enc P w base spare held fuel fd.type ((cs.drop fd.offset).take (P.cellsOf fd.type))) = some r → (∀ fd ∈ fs, ∀ (c : List Value) (x : DataW H × List MemPlace), DataW.trod enc P w base spare held fuel fd.type c = some x → True) →
  ∃ ps : List (List Aa), At (Lm w) ps.flatten (cs.drop off) ∧ (∀ c ∈ ps.flatten, Bp c = true) ∧ ps.length = fs.length ∧ ∀ (i : Nat) (fd : Field) (p : List Aa), fs[i]? = some fd → ps[i]? = some p → Shp P f fd.type p
 | [], off, r, hlay, _, _, _ => by
  have : off = cs.length := by simpa [layF] using hlay
  subst this
  exact ⟨[], by simpa using At.nil _, fun c hc => by simp at hc, rfl, fun i fd p h => by simp at h⟩
 | fd :: fs, off, r, hlay, hs, hm, ht => by
  simp only [layF, Bool.and_eq_true, beq_iff_eq] at hlay
  obtain ⟨ho, hlay⟩ := hlay
  simp only [List.all_cons, Bool.and_eq_true] at hs
  rw [List.mapM_cons] at hm
  cases hx : DataW.trod enc P w base spare held fuel fd.type ((cs.drop fd.offset).take (P.cellsOf fd.type)) with
  | none => simp [hx] at hm
  | some x =>
   cases hl : fs.mapM fun fd => DataW.trod enc P w base spare held fuel fd.type ((cs.drop fd.offset).take (P.cellsOf fd.type)) with
   | none => simp [hx, hl] at hm
   | some xs =>
    obtain ⟨vas, a1, a2, a3⟩ := ih fd.type _ x hs.1 hx
    obtain ⟨ps, b1, b2, b3, b4⟩ := NV ih cs fs (off + P.cellsOf fd.type) xs hlay hs.2 hl (fun _ _ _ _ _ => trivial)
    refine ⟨vas :: ps, ?_, fun c hc => ?_, by simp [b3], fun i fd' p h1 h2 => ?_⟩
    ·rw [List.flatten_cons]
     have e : cs.drop off = (cs.drop off).take (P.cellsOf fd.type) ++ cs.drop (off + P.cellsOf fd.type) := by
      rw [← List.drop_drop]; exact (List.take_append_drop _ _).symm
     rw [e]
     rw [ho] at a1
     exact a1.append b1
    ·rw [List.flatten_cons] at hc
     rcases List.mem_append.1 hc with hc | hc
     ·exact a2 c hc
     ·exact b2 c hc
    ·cases i with
     | zero => simp at h1 h2; subst h1; subst h2; exact a3
     | succ i => exact b4 i fd' p (by simpa using h1) (by simpa using h2)
theorem PB {f fuel : Nat} (ih : OpenAt enc P w base spare held f fuel) {e : TypeId} (hs : Oy P f e = true) (cs : List Value) : ∀ (d i n : Nat), i + d = n → cs.length = n * P.cellsOf e →
  (∀ j, j < n → ∃ x, DataW.trod enc P w base spare held fuel e ((cs.drop (j * P.cellsOf e)).take (P.cellsOf e)) = some x) →
  ∃ ps : List (List Aa), At (Lm w) ps.flatten (cs.drop (i * P.cellsOf e)) ∧ (∀ c ∈ ps.flatten, Bp c = true) ∧ ps.length = d ∧ ∀ p ∈ ps, Shp P f e p
 | 0, i, n, hi, hl, _ => by
  have : cs.drop (i * P.cellsOf e) = [] := List.drop_of_length_le (by rw [hl, show i = n by omega]; exact Nat.le_refl _)
  rw [this]
  exact ⟨[], At.nil _, fun c hc => by simp at hc, rfl, fun p h => by simp at h⟩
 | d + 1, i, n, hi, hl, hm => by
  obtain ⟨x, hx⟩ := hm i (by omega)
  obtain ⟨vas, a1, a2, a3⟩ := ih e _ x hs hx
  obtain ⟨ps, b1, b2, b3, b4⟩ := PB ih hs cs d (i + 1) n (by omega) hl hm
  refine ⟨vas :: ps, ?_, fun c hc => ?_, by simp [b3], fun p hp => ?_⟩
  ·rw [List.flatten_cons]
   have e' : cs.drop (i * P.cellsOf e) = (cs.drop (i * P.cellsOf e)).take (P.cellsOf e) ++ cs.drop ((i + 1) * P.cellsOf e) := by
    rw [Nat.succ_mul, ← List.drop_drop]; exact (List.take_append_drop _ _).symm
   rw [e']
   exact a1.append b1
  ·rw [List.flatten_cons] at hc
   rcases List.mem_append.1 hc with hc | hc
   ·exact a2 c hc
   ·exact b2 c hc
  ·rcases List.mem_cons.1 hp with rfl | hp
   ·exact a3
   ·exact b4 p hp
theorem KP {a : Addr} {n : Nat} {r : List Value} (h : w.cells? base a n = some r) : r.length = n ∧ ∀ j, j < n → w.cell? (a.add j) = r[j]? := by
 unfold World.cells? at h
 split at h
 ·obtain ⟨h1, h2⟩ := PI h
  refine ⟨by simpa using h1, fun j hj => (h2 j j (List.getElem?_range hj)).symm⟩
 ·cases h
theorem open_row {f fuel : Nat} (ih : OpenAt enc P w base spare held f fuel) {e : TypeId} (hpos : 0 < P.cellsOf e) (hs : Oy P f e = true) (a : Addr) (len cap : Nat) (hc : len ≤ cap)
  (hm : ∀ i, i < len → ∃ x, (w.cells? base (a.add (i * P.cellsOf e)) (P.cellsOf e)).bind (DataW.trod enc P w base spare held fuel e) = some x) :
  ∃ es tk, An (Lm w) (.sl es tk) (.slice (some a) len cap) ∧ (tk = .no) ∧ es.length = len ∧ ∀ x ∈ es, Shp P f e x := by
 by_cases h0 : len = 0
 ·subst h0
  exact ⟨[], .no, .sl0 trivial (fun h => by cases h), rfl, rfl, fun x hx => by cases hx⟩
 ·have each : ∀ i, ∃ vas : List Aa, i < len → ∃ r, w.cells? base (a.add (i * P.cellsOf e)) (P.cellsOf e) = some r ∧ At (Lm w) vas r ∧ (∀ c ∈ vas, Bp c = true) ∧ Shp P f e vas := by
   intro i
   by_cases hi : i < len
   ·obtain ⟨x, hx⟩ := hm i hi
    cases hr : w.cells? base (a.add (i * P.cellsOf e)) (P.cellsOf e) with
    | none => simp [hr] at hx
    | some r =>
     rw [hr, Option.bind_some] at hx
     obtain ⟨vas, a1, a2, a3⟩ := ih e r x hs hx
     exact ⟨vas, fun _ => ⟨r, rfl, a1, a2, a3⟩⟩
   ·exact ⟨[], fun h => absurd h hi⟩
  obtain ⟨g, hg⟩ := Classical.axiomOfChoice each
  have hg : ∀ i, i < len → ∃ r, w.cells? base (a.add (i * P.cellsOf e)) (P.cellsOf e) = some r ∧ At (Lm w) (g i) r ∧ (∀ c ∈ g i, Bp c = true) ∧ Shp P f e (g i) := hg
  have hsp : a.spot = none := by
   obtain ⟨r, h1, _⟩ := hg 0 (by omega)
   obtain ⟨h2, h3⟩ := KP h1
   have h4 := h3 0 hpos
   have h5 : (a.add (0 * P.cellsOf e)).add 0 = a := by simp [Addr.add]
   rw [h5, List.getElem?_eq_getElem (by omega)] at h4
   unfold World.cell? at h4
   split at h4
   ·split at h4
    ·cases h4
    ·rename_i hh; simpa using hh
   ·cases h4
  obtain ⟨b, o, sp⟩ := a
  simp only at hsp
  subst hsp
  have hadd : ∀ i j, ((⟨b, o, none⟩ : Addr).add (i * P.cellsOf e)).add j = ⟨b, o + (i * P.cellsOf e + j), none⟩ := fun i j => by rw [Ca, Ca, Nat.add_assoc]
  refine ⟨(List.range len).map g, .no, ?_, rfl, by simp, fun x hx => ?_⟩
  ·have hl : ((List.range len).map g).length = len := by simp
   have key := An.sl (E := Lm w) (es := (List.range len).map g) (tk := .no) (b := b) (o := o) (s := P.cellsOf e) (cap := cap) (fun i j => (w.cell? ⟨b, o + (i * P.cellsOf e + j), none⟩).getD default)
    (fun i x hx => ?_) (fun i j hi hj => ?_) (fun i x j c hx hc => ?_) (fun i x j c hx hc => ?_) (by rw [hl]; exact hc) trivial
   ·rw [hl] at key; exact key
   ·have hi : i < len := by have := (List.getElem?_eq_some_iff.1 hx).1; simpa using this
    rw [List.getElem?_map, List.getElem?_range hi] at hx
    simp at hx; subst hx
    obtain ⟨r, h1, h2, _⟩ := hg i hi
    rw [h2.1, (KP h1).1]
   ·rw [hl] at hi
    obtain ⟨r, h1, h2, _⟩ := hg i hi
    obtain ⟨h3, h4⟩ := KP h1
    have h5 := h4 j hj
    rw [hadd] at h5
    rw [Env0_I, h5, List.getElem?_eq_getElem (by omega)]; rfl
   ·have hi : i < len := by have := (List.getElem?_eq_some_iff.1 hx).1; simpa using this
    rw [List.getElem?_map, List.getElem?_range hi] at hx
    simp at hx; subst hx
    obtain ⟨r, h1, h2, h6, _⟩ := hg i hi
    exact h6 c (List.mem_of_getElem? hc)
   ·have hi : i < len := by have := (List.getElem?_eq_some_iff.1 hx).1; simpa using this
    rw [List.getElem?_map, List.getElem?_range hi] at hx
    simp at hx; subst hx
    obtain ⟨r, h1, h2, h6, _⟩ := hg i hi
    obtain ⟨h3, h4⟩ := KP h1
    have hj : j < P.cellsOf e := by have := (List.getElem?_eq_some_iff.1 hc).1; rw [h2.1, h3] at this; exact this
    have h5 := h4 j hj
    rw [hadd] at h5
    refine h2.2 j c _ hc ?_
    rw [← h5, h5, List.getElem?_eq_getElem (by omega)]; rfl
  ·simp only [List.mem_map, List.mem_range] at hx
   obtain ⟨i, hi, rfl⟩ := hx
   obtain ⟨r, _, _, _, h7⟩ := hg i hi
   exact h7
theorem Mk {E : Env} {x : Aa} {v : Value} (h : An E x v) : At E [x] [v] := .cons h (.nil _)
theorem QP : ∀ (f fuel : Nat), OpenAt enc P w base spare held f fuel
 | 0, _ => fun t cs x hs _ => by simp [Oy] at hs
 | _ + 1, 0 => fun t cs x _ h => by simp [DataW.trod] at h
 | f + 1, fuel + 1 => fun t cs x hs h => by
  have ih := QP f fuel
  unfold Oy at hs
  unfold Shp
  cases hu : P.underlying t with
  | none => rw [hu] at hs; cases hs
  | some td =>
   rw [hu] at hs
   unfold DataW.trod at h
   rw [hu] at h
   cases td with
   | bool =>
    simp only at h
    split at h
    all_goals first | (rename_i hq; cases hq; done) | skip
    all_goals first | (cases h; done) | skip
    ·rename_i b hq
     exact ⟨[.bool b], Mk (.bool b), fun c hc => by simp at hc; subst hc; rfl, b, rfl⟩
   | int k =>
    simp only at h
    split at h
    all_goals first | (rename_i hq; cases hq; done) | skip
    all_goals first | (cases h; done) | skip
    ·rename_i k2 k' n heq
     cases heq
     split at h
     ·rename_i hc
      obtain ⟨rfl, hw⟩ := hc
      exact ⟨[.int _ _], Mk (.int _ _), fun c hc => by simp at hc; subst hc; rfl, _, rfl, hw⟩
     ·cases h
   | string =>
    simp only at h
    split at h
    all_goals first | (rename_i hq; cases hq; done) | skip
    all_goals first | (cases h; done) | skip
    ·rename_i s heq
     split at h
     ·rename_i hc
      have e : An (Lm w) (.str s.data.toList) (.string s) := by
       have e : s = ⟨s.data.toList.toArray⟩ := by cases s; simp
       rw [e]; exact .str _
      refine ⟨[.str s.data.toList], Mk e, fun c hc => by simp at hc; subst hc; rfl, _, rfl, hc⟩
     ·cases h
   | slice e =>
    simp only [Bool.and_eq_true, decide_eq_true_eq] at hs
    simp only at h
    split at h
    all_goals first | (rename_i hq; cases hq; done) | skip
    all_goals first | (cases h; done) | skip
    ·exact ⟨[.sl [] .no], Mk (.sl0 trivial (fun _ => rfl)), fun c hc => by simp at hc; subst hc; rfl, [], rfl, Nat.zero_le _, fun x hx => by cases hx⟩
    ·rename_i e2 a len cap heq
     cases heq
     split at h
     ·rename_i hc
      obtain ⟨h1, h2, h3⟩ := hc
      cases hm : (List.range len).mapM fun i => (w.cells? base (a.add (i * P.cellsOf e)) (P.cellsOf e)).bind (DataW.trod enc P w base spare held fuel e) with
      | none => rw [hm] at h; cases h
      | some elems =>
       obtain ⟨es, tk, k1, rfl, k2, k3⟩ := open_row ih hs.1 hs.2 a len cap h2 (fun i hi => PH hm i (by simpa using hi))
       exact ⟨[.sl es .no], Mk k1, fun c hc => by simp at hc; subst hc; rfl, es, rfl, by omega, k3⟩
     ·cases h
   | struct fs =>
    simp only [Bool.and_eq_true] at hs
    simp only at h
    split at h
    ·rename_i hc
     cases hm : fs.toList.mapM fun fd => DataW.trod enc P w base spare held fuel fd.type ((cs.drop fd.offset).take (P.cellsOf fd.type)) with
     | none => rw [hm] at h; cases h
     | some xs =>
      obtain ⟨ps, b1, b2, b3, b4⟩ := NV ih cs fs.toList 0 xs (by rw [hc]; exact hs.1) hs.2 hm (fun _ _ _ _ _ => trivial)
      exact ⟨ps.flatten, by simpa using b1, b2, ps, rfl, b3, b4⟩
    ·cases h
   | array n e =>
    simp only [Bool.and_eq_true, decide_eq_true_eq] at hs
    simp only at h
    split at h
    ·rename_i hc
     cases hm : (List.range n).mapM fun i => DataW.trod enc P w base spare held fuel e ((cs.drop (i * P.cellsOf e)).take (P.cellsOf e)) with
     | none => rw [hm] at h; cases h
     | some xs =>
      obtain ⟨ps, b1, b2, b3, b4⟩ := PB ih hs.2 cs n 0 n (by omega) (by rw [hc]; exact hs.1) (fun j hj => PH hm j (by simpa using hj))
      exact ⟨ps.flatten, by simpa using b1, b2, ps, rfl, b3, b4⟩
    ·cases h
   | _ => cases hs
theorem arg_one {r : Reach} {b0 f : Nat} {t : TypeId} {v : Value} {d : DataW H} {ps : List MemPlace} (hs : Oy P f t = true) (hval : Value.okWide P w r b0 t v) (hd : DataW.Trod enc P w base spare held t v d ps)
  (hu : (match P.underlying t with | some (.slice _) => true | some (.int _) => true | some .string => true | some .bool => true | _ => false) = true) : ∃ x, An (Lm w) x v ∧ Shp P f t [x] := by
 obtain ⟨fuel, hf⟩ := hd
 have hc : v.cells.toList = [v] := by
  unfold Value.okWide Cell.okWide Cell.ok at hval
  cases hx : P.underlying t with
  | none => rw [hx] at hu; cases hu
  | some td =>
   rw [hx] at hu hval
   cases td <;> first | (cases hu; done) | skip
   all_goals (cases v <;> first | (simp [Value.cells]; done) | (simp at hval; done) | (exact hval.elim; done))
 rw [hc] at hf
 obtain ⟨vas, a1, a2, a3⟩ := QP f fuel t [v] _ hs hf
 have hl := a1.1
 match vas, hl with
 | [x], _ => exact ⟨x, a1.2 0 x v rfl rfl, a3⟩
theorem arg_row {r : Reach} {b0 f : Nat} {t e : TypeId} {v : Value} {d : DataW H} {ps : List MemPlace} (hu : P.underlying t = some (.slice e)) (hs : Oy P (f + 1) t = true) (hval : Value.okWide P w r b0 t v) (hd : DataW.Trod enc P w base spare held t v d ps) :
  ∃ es, An (Lm w) (.sl es .no) v ∧ (∀ x ∈ es, Shp P f e x) ∧ es.length ≤ maxLen ∧ (es = [] ∨ ∃ elems spare, d = .slice elems spare ∧ elems.length = es.length) := by
 obtain ⟨x, h1, h2⟩ := arg_one hs hval hd (by rw [hu])
 unfold Shp at h2
 rw [hu] at h2
 obtain ⟨es, h3, h4, h5⟩ := h2
 injection h3 with h3 _
 subst h3
 refine ⟨es, h1, h5, h4, ?_⟩
 obtain ⟨fuel, hf⟩ := hd
 cases fuel with
 | zero => simp [DataW.trod] at hf
 | succ fuel =>
  unfold DataW.trod at hf
  rw [hu] at hf
  cases h1 with
  | sl0 _ _ => exact .inl rfl
  | sl fv hl hI hm hv hc ht =>
   rename_i b o s cap
   right
   have e1 : (Value.slice (some ⟨b, o, none⟩) es.length cap).cells.toList = [.slice (some ⟨b, o, none⟩) es.length cap] := rfl
   rw [e1] at hf
   simp only at hf
   split at hf
   ·cases hm' : (List.range es.length).mapM fun i => (w.cells? base (Addr.add ⟨b, o, none⟩ (i * P.cellsOf e)) (P.cellsOf e)).bind (DataW.trod enc P w base spare held fuel e) with
    | none => rw [hm'] at hf; cases hf
    | some elems =>
     rw [hm', Option.bind_some] at hf
     obtain ⟨q1, _⟩ := PI hm'
     rw [Option.map_eq_some_iff] at hf
     obtain ⟨rest, _, hf⟩ := hf
     injection hf with hf _
     exact ⟨_, _, hf.symm, by simpa using q1⟩
   ·cases hf

end
end Go.Gm
namespace Go.Gm
section
variable {P : Program} {f : Nat} {t e : TypeId} {vas : List Aa}
theorem Mb {k : IntKind} (hu : P.underlying t = some (.int k)) (h : Shp P (f + 1) t vas) : ∃ n, vas = [.int k n] ∧ (Lit.int k n).wf = true := by
 unfold Shp at h; rw [hu] at h; exact h
theorem shp_st {fs : Array Field} (hu : P.underlying t = some (.struct fs)) (h : Shp P (f + 1) t vas) : ∃ ps : List (List Aa), vas = ps.flatten ∧ ps.length = fs.toList.length ∧ ∀ (i : Nat) (fd : Field) (p : List Aa), fs.toList[i]? = some fd → ps[i]? = some p → Shp P f fd.type p := by
 unfold Shp at h; rw [hu] at h; exact h
theorem rows_of {α : Type} {g : α → List Aa} {p : α → Prop} : ∀ {es : List (List Aa)}, (∀ x ∈ es, ∃ a, x = g a ∧ p a) → ∃ l : List α, es = enL g l ∧ ∀ a ∈ l, p a
 | [], _ => ⟨[], rfl, fun a h => by cases h⟩
 | x :: es, h => by
  obtain ⟨a, rfl, ha⟩ := h x (by simp)
  obtain ⟨l, rfl, hl⟩ := rows_of (g := g) (p := p) (es := es) fun y hy => h y (by simp [hy])
  exact ⟨a :: l, rfl, fun b hb => by rcases List.mem_cons.1 hb with rfl | hb; exact ha; exact hl b hb⟩
end
end Go.Gm
namespace Go.Gm
@[simp 2000] theorem Bs {α β : Type} (a : α) (f : α → Option β) : (some a).bind f = f a := (rfl)
theorem DF {G : LK → LK} (N : Nat) (p : Nat → Bool) (st : Nat → List Aa) (H : Ab) (yes no : Out) (hN : N < 1152921504606846976)
  (turn : ∀ (rec : LK) (i : Nat), i < N → G rec (st i) H = if p i then rec (st (i + 1)) H else no) (last : ∀ rec : LK, G rec (st N) H = yes) : Ap G AM (st 0) H = if (List.range N).all p then yes else no := by
 refine Bt (σ := Nat) (fun i => i ≤ N ∧ ∀ j, j < i → p j = true) st (fun _ => H) (fun i => N - i) (fun _ => if (List.range N).all p then yes else no) (fun i rec hi hrec => ?_) 0 ⟨Nat.zero_le _, fun j hj => by omega⟩ (by omega)
 by_cases h : i < N
 ·rw [turn rec i h]
  cases hp : p i with
  | true => exact hrec (i + 1) ⟨h, fun j hj => by
    by_cases e : j = i
    ·rw [e]; exact hp
    ·exact hi.2 j (by omega)⟩ (by omega)
  | false =>
   have : (List.range N).all p = false := by rw [List.all_eq_false]; exact ⟨i, by simpa using h, by simp [hp]⟩
   simp [this]
 ·have e : i = N := by omega
  subst e
  have : (List.range i).all p = true := by rw [List.all_eq_true]; intro j hj; exact hi.2 j (by simpa using hj)
  rw [last, this]; rfl
theorem HH {G : LK → LK} (N : Nat) (p : Nat → Bool) (st : Nat → List Aa) (H : Ab) (none' : Out) (found : Nat → Out) (hN : N < 1152921504606846976)
  (turn : ∀ (rec : LK) (i : Nat), i < N → G rec (st i) H = if p i then found i else rec (st (i + 1)) H) (last : ∀ rec : LK, G rec (st N) H = none') :
  Ap G AM (st 0) H = match (List.range N).find? p with | some i => found i | none => none' := by
 refine Bt (σ := Nat) (fun i => i ≤ N ∧ ∀ j, j < i → p j = false) st (fun _ => H) (fun i => N - i) (fun _ => match (List.range N).find? p with | some i => found i | none => none') (fun i rec hi hrec => ?_) 0 ⟨Nat.zero_le _, fun j hj => by omega⟩ (by omega)
 by_cases h : i < N
 ·rw [turn rec i h]
  cases hp : p i with
  | false => exact hrec (i + 1) ⟨h, fun j hj => by
    by_cases e : j = i
    ·rw [e]; exact hp
    ·exact hi.2 j (by omega)⟩ (by omega)
  | true =>
   have : (List.range N).find? p = some i := by
    rw [List.find?_range_eq_some]
    exact ⟨hp, by simpa using h, fun j hj => by simp [hi.2 j hj]⟩
   rw [this]; rfl
 ·have e : i = N := by omega
  subst e
  have : (List.range i).find? p = none := by
   rw [List.find?_eq_none]; intro j hj; simp [hi.2 j (by simpa using hj)]
  rw [last, this]
theorem Ig {sz : Nat} {cs : List Aa} {H : Ab} (h : cs.all Aa.isScal = true) (hl : cs.length = sz) : Ek true sz (.agg cs) H = some (.ptr H.length 0 0, H ++ [.cel 0 cs]) := by
 unfold Ek
 rw [EW h]
 simp [hl, alloc_eq h]
theorem JM {cs vs : List Aa} {sz : Nat} (h : cs.length = sz) : DQ cs 0 sz vs = vs := by simp [DQ, List.drop_of_length_le (Nat.le_of_eq h)]
theorem MU {cs vs : List Aa} {sz g : Nat} {v : Aa} {G : Ab} (hv : v.acells = some vs) (h : cs.length = sz) (h2 : vs.length = sz) : Al sz (.ptr 0 g 0) v (.cel g cs :: G) = some (.cel g vs :: G) := by
 rw [Pm, hv]
 simp only [Option.bind_some, h2, h, Nat.zero_add, Nat.le_refl, and_self, if_true, JM h]
@[simp] theorem GW {x : Out} : chk True x = x := chk_pos trivial x
@[simp] theorem NM {v : Aa} {p : Aa → Prop} {k : Aa → Out} : bC (some v) p k = chk (p v) (k v) := (rfl)
section
variable {x : Option Aa} {p : Bool → Aa → Prop} {k : Aa → Out} {w : Bool}
@[simp] theorem Nr : gkc (.bool true) true x p k = bC x (p true) k := (rfl)
@[simp] theorem Nu : gkc (.bool false) false x p k = bC x (p true) k := (rfl)
@[simp] theorem Ns : gkc (.bool true) false x p k = chk (p false By) (k By) := (rfl)
@[simp] theorem Nt : gkc (.bool false) true x p k = chk (p false By) (k By) := (rfl)
@[simp] theorem R1 : gkc (.tup []) w x p k = chk (p false By) (k By) := (rfl)

end
theorem Fp (p : Nat → Bool) : (List.range 4).all p = (p 0 && p 1 && p 2 && p 3) := by
 show (p 0 && (p 1 && (p 2 && (p 3 && true)))) = _
 cases p 0 <;> cases p 1 <;> cases p 2 <;> cases p 3 <;> rfl
theorem CJ {n : Nat} (h : n < 9223372036854775808) : IntKind.i64.wrap (n : Int) = (n : Int) := A0 (by omega) (by omega)
theorem Aw {n : Nat} (h : n < 9223372036854775807) : IntKind.i64.wrap ((n : Int) + 1) = ((n + 1 : Nat) : Int) := by rw [A0] <;> omega
theorem Du {n : Nat} (h : 0 < n) (h2 : n < 9223372036854775807) : IntKind.i64.wrap ((n : Int) - 1) = ((n - 1 : Nat) : Int) := by rw [A0] <;> omega
end Go.Gm
namespace Go.Gm
@[simp] theorem EB {a b : Int} : (a == b) = decide (a = b) := by rw [Bool.eq_iff_iff]; simp
@[simp] theorem Ii {a b : Int} : (a != b) = !decide (a = b) := by rw [Bool.eq_iff_iff]; simp
structure Nd where
 lv : Int
 k0 : Int
 k1 : Int
 k2 : Int
 k3 : Int
deriving DecidableEq
def Nd.kid (x : Nd) (k : Nat) : Int := match k with | 0 => x.k0 | 1 => x.k1 | 2 => x.k2 | _ => x.k3
def cNd (x : Nd) : List Aa := [.int .i64 x.lv, .int .i64 x.k0, .int .i64 x.k1, .int .i64 x.k2, .int .i64 x.k3]
instance : Sz cNd 5 := ⟨fun _ => rfl⟩
section
variable {x y : Nd} {H : Ab} {k : Nat}
@[simp] theorem Bl : (cNd x)[0]? = some (.int .i64 x.lv) := (rfl)
theorem C0 (h : k < 4) : (cNd x)[1 + k]? = some (.int .i64 (x.kid k)) := by
 match k, h with
 | 0, _ => rfl
 | 1, _ => rfl
 | 2, _ => rfl
 | 3, _ => rfl
theorem CC {K : IntKind} {cs : List Aa} {o : Nat} (h : k < 4) : Bk 4 1 (.cptr cs o) (.int K (k : Int)) = some (.cptr cs (o + k * 1)) := by
 unfold Bk
 simp only []
 rw [if_pos ⟨by omega, by omega⟩]; simp
theorem Gn : Ad true 5 (.cptr (cNd x) 0) H = some (.agg (cNd x)) := (rfl)
theorem CP : (cNd x).all Aa.isScal = true := (rfl)
theorem RV : (Aa.agg (cNd x)).acells = some (cNd x) := (rfl)
theorem MH : Bn (cNd x) (cNd y) = some (decide (x = y)) := by
 obtain ⟨a, b, c, d, e⟩ := x
 obtain ⟨a', b', c', d', e'⟩ := y
 simp only [cNd, Bn, EV, if_true, Option.bind_some, Option.some.injEq]
 rw [Bool.eq_iff_iff]; simp
theorem eq_nd : Af (.flat 5) .eql (.agg (cNd x)) (.agg (cNd y)) = some (.bool (decide (x = y))) := by
 show (eqA (.flat 5) (.agg (cNd x)) (.agg (cNd y))).map Aa.bool = _
 have h : eqA (.flat 5) (.agg (cNd x)) (.agg (cNd y)) = some (decide (x = y)) := by unfold eqA; simp only []; rw [if_pos (show (cNd x).length = 5 from rfl), MH]
 rw [h]; rfl
theorem neq_nd : Af (.flat 5) .neq (.agg (cNd x)) (.agg (cNd y)) = some (.bool (!decide (x = y))) := by
 show (eqA (.flat 5) (.agg (cNd x)) (.agg (cNd y))).map (fun b => Aa.bool (!b)) = _
 have h : eqA (.flat 5) (.agg (cNd x)) (.agg (cNd y)) = some (decide (x = y)) := by unfold eqA; simp only []; rw [if_pos (show (cNd x).length = 5 from rfl), MH]
 rw [h]; rfl

end
theorem FU (x : Nd) : AH 5 [.agg (cNd x)] = some (.sl (enL cNd [x]) .tight) := by
 simp [AH, Cb, RV]; simp [cNd, LO, Bp, enL]
end Go.Gm
namespace Go.Gm
section
variable {P : Program} {f : Nat} {t e : TypeId} {vas : List Aa}
theorem shp_nd {f0 f1 : Field} {ae : TypeId} (h1 : P.underlying t = some (.struct #[f0, f1])) (h2 : P.underlying f0.type = some (.int .i64)) (h3 : P.underlying f1.type = some (.array 4 ae)) (h4 : P.underlying ae = some (.int .i64)) (h : Shp P (f + 3) t vas) :
  ∃ x : Nd, vas = cNd x ∧ True := by
 obtain ⟨ps, rfl, hl, hp⟩ := shp_st h1 h
 match ps, hl with
 | [p0, p1], _ =>
  obtain ⟨a, rfl, _⟩ := Mb h2 (hp 0 f0 p0 rfl rfl)
  have hq := hp 1 f1 p1 rfl rfl
  unfold Shp at hq
  rw [h3] at hq
  obtain ⟨qs, rfl, ql, qp⟩ := hq
  match qs, ql with
  | [q0, q1, q2, q3], _ =>
   obtain ⟨k0, rfl, _⟩ := Mb h4 (qp q0 (by simp))
   obtain ⟨k1, rfl, _⟩ := Mb h4 (qp q1 (by simp))
   obtain ⟨k2, rfl, _⟩ := Mb h4 (qp q2 (by simp))
   obtain ⟨k3, rfl, _⟩ := Mb h4 (qp q3 (by simp))
   exact ⟨⟨a, k0, k1, k2, k3⟩, rfl, trivial⟩
theorem shp_nds {f0 f1 : Field} {ae : TypeId} (h1 : P.underlying t = some (.struct #[f0, f1])) (h2 : P.underlying f0.type = some (.int .i64)) (h3 : P.underlying f1.type = some (.array 4 ae)) (h4 : P.underlying ae = some (.int .i64)) {es : List (List Aa)} (h : ∀ x ∈ es, Shp P (f + 3) t x) :
  ∃ l : List Nd, es = enL cNd l := by
 obtain ⟨l, h, _⟩ := rows_of (g := cNd) (p := fun _ => True) (es := es) fun x hx => shp_nd h1 h2 h3 h4 (h x hx)
 exact ⟨l, h⟩

end
end Go.Gm
namespace Go.Proofs.YtenmplcmmdaibaaGreatDoor
open Go.ChangeShapes Go.WideShapes Go.ChangeAt Go.RowKit Go.Gm
theorem own : ownKnob Tryz.prog.godebug = none := by kernel_rfl
theorem laidOut : laidOutB Tryz.prog = true := by kernel_rfl
theorem gTab : Tryz.prog.globalNamed "internal/strconv.uint64pow10" = some 1 := by kernel_rfl
theorem gTabType : (Tryz.prog.globals[1]?).map (·.type) = some 172 := by kernel_rfl
def flatD : Nat → DataW Unit → List Value
 | _, .lit (.int k n) => [.int k n]
 | f + 1, .agg ds => ds.flatMap (flatD f)
 | _, _ => []
def LZ : List (String × DataW Unit) := [("math/bits.deBruijn32tab", Rows.laid_math_bits_deBruijn32tab), ("math/bits.deBruijn64tab", Rows.laid_math_bits_deBruijn64tab), ("internal/strconv.uint64pow10", Rows.laid_internal_strconv_uint64pow10)]
theorem pow_data : (Rows.laid_internal_strconv_uint64pow10 : DataW Unit) = Lib.tabData .u64 Lib.pow10Tab := by kernel_rfl
theorem table {W : World} (h : laidMetH Tryz.prog LZ W) : Lib.TabIs Tryz.prog W "internal/strconv.uint64pow10" .u64 Lib.pow10Tab := by
 have h' : laidMet Tryz.prog LZ W := h
 obtain ⟨ps, ⟨g1, t1, c1, f1, p1, q1, e1, e2, e3, e4, ⟨g2, t2, c2, f2, p2, q2, e5, e6, e7, e8, ⟨g', t', cs, fuel, p, q, hg', ht', hvar, hd, _, _⟩, _⟩, _⟩, _⟩ := h'
 obtain rfl := Option.some.inj (gTab.symm.trans hg')
 obtain rfl := Option.some.inj (gTabType.symm.trans ht')
 unfold Lib.TabIs
 rw [hvar]
 rw [pow_data] at hd
 rw [← Lib.cells_of_tab Tryz.underlying172 Tryz.underlying128 (by kernel_rfl) (by kernel_rfl) hd]
theorem fixed {W : World} (h : laidMetH Tryz.prog LZ W) : ∀ b cs, FixT b = some cs → 0 < cs.size ∧ ∃ t fr, W.heap[b]? = some (.cells cs t fr) := by
 intro b cs hb
 have ht := table h
 unfold FixT at hb
 split at hb
 ·rename_i e
  subst e
  cases hb
  refine ⟨by decide, ?_⟩
  unfold Lib.TabIs World.var? at ht
  rw [gTab] at ht
  simp only [Option.bind_some] at ht
  split at ht
  ·rename_i cs t fr hh
   cases ht
   exact ⟨t, fr, hh⟩
  ·cases ht
 ·cases hb
def layCells (h : Array Obj) (g : Nat) (vs : Array Value) : Array Obj := h.modify g fun
 | .cells _ t frozen => .cells vs t frozen
 | o => o
def layAll (h : Array Obj) (x : Nat × DataW Unit) : Array Obj := layCells h x.1 (flatD 4 x.2).toArray
noncomputable def Nn (os : Os) : World :=
 { World.holding Tryz.prog os ⟨#[], #[], []⟩ with heap := [(2, Rows.laid_math_bits_deBruijn32tab), (3, Rows.laid_math_bits_deBruijn64tab), (1, Rows.laid_internal_strconv_uint64pow10)].foldl layAll (World.holding Tryz.prog os ⟨#[], #[], []⟩).heap }
theorem laid_met (os : Os) (args : Array Value) : laidMet Tryz.prog LZ ((Nn os).forCall (fun _ _ => 0) ⟨#[], args, []⟩).memory :=
 laidMet_of_run' 8 (by kernel_rfl) (by kernel_rfl)
theorem ndsSupp : Oy Tryz.prog 4 25 = true := by kernel_rfl
theorem str_rel (E : Env) (s : ByteArray) : An E (.str s.data.toList) (.string s) := by
 have : s = ⟨s.data.toList.toArray⟩ := by cases s; simp
 rw [this]; exact .str _
end Go.Proofs.YtenmplcmmdaibaaGreatDoor
