/- Texts of this proof, joined. -/
import Derived.Test.YtenmplcmmdaibaaGreatDoorJ2
import Derived.Test.YtenmplcmmdaibaaGreatDoorChecked
import Derived.KernelRfl
import Derived.ProofKit
import Derived.OpenShut
import Derived.JoinedCond
import Derived.Carry
import Derived.Shelf.Small.Strs
import Derived.Shelf.Small.Wraps
import Derived.Shelf.Strconv.Itoa0
import Derived.Shelf.Strconv.Itoa1
import Derived.Shelf.LaysM
import Derived.Shelf.Strconv.Itoa2
import Derived.Shelf.Strconv.Itoa3
import Derived.Shelf.Strings.Search1
import Derived.Shelf.GgClosure.StringsIndexFunc
import Derived.Ground.GgwProg
import Derived.Shelf.GgClosure.StringsIndexFuncTop
import Derived.Shelf.Strings.Prefix
import Derived.Shelf.Strings.FuncGrows
import Derived.Test.YtenmplcmmdaibaaGreatDoorProg
import Derived.WalkKit
import Derived.Tactics
import Derived.Tactics2
import Derived.Defers
import Derived.Recover
import Derived.Laws.Pointers
set_option linter.unusedVariables false
set_option linter.unusedSimpArgs false
namespace Go.Gm
noncomputable def Sh.f3o (c_1 : Ab) (H0 : Aa) : Out :=
 (Ae .none .lss c_1 (.int .i32 48)).bind fun x2 =>
 gk x2 false (some c_1) fun x3 =>
 gk x2 false (Ae .none .gtr x3 (.int .i32 57)) fun x4 =>
 (Ax x2 (.bool true) x4).bind fun x5 =>
 rK H0 x5 H0
noncomputable def Sh.f1s (a_1 : Ab) (H0 : Aa) : Out :=
 (AH a_1).bind fun x2 =>
 (Ae .none .eql x2 (.int .i64 0)).bind fun x3 =>
 gk x3 false (some a_1) fun x4 =>
 gk x3 false (some a_1) fun x5 =>
 gk x3 false (AH x5) fun x6 =>
 gk x3 false (Ae .none .sub x6 (.int .i64 1)) fun x7 =>
 gk x3 false (A6 1 x4 x7) fun x8 =>
 gk x3 false (Ad false 1 x8 H0) fun x9 =>
 gk x3 false (Ae .none .neq x9 (.int .u32 0)) fun x10 =>
 (Ax x3 (.bool true) x10).bind fun x11 =>
 rK H0 x11 H0
noncomputable def Sh.f64 (H0 : Aa) (rec1 : LK) (a_2 : Ab) (H3 : Aa) : Out :=
 bK H0 (Sh.f1s a_2 H3) fun x4 H5 =>
 (unA .not x4).bind fun x6 =>
 Aj x6 (
 (AH a_2).bind fun x7 =>
 (Ae .none .sub x7 (.int .i64 1)).bind fun x8 =>
 (FI 1 a_2 none (some x8) none).bind fun x9 =>
 rec1 [x9] H5) (
 rKN H0 a_2 H5)
noncomputable def Sh.f1t (a_1 : Ab) (H0 : Aa) : Out :=
 Ao (fun rec1 vs H => Sh.f64 H0 rec1 (ag vs 0) H) AC [a_1] H0
noncomputable def Sh.fm (H0 : Aa) : Out :=
 Ap (A3 (some [(.int .i64 0), (.int .i64 0)]) H0) fun x1 H2 =>
 (Ay (some [(.int .i64 0), (.int .i64 0)]) [(0, 1, (.int .i64 1000)), (1, 1, (.int .i64 100000))]).bind fun x3 =>
 bP H0 (Au (Af 2 x1 x3 H2)) fun _ H5 =>
 (Ad true 2 x1 H5).bind fun x6 => rP H0 x6 H5
noncomputable def Sh.f1u (n_1 most_2 : Ab) (H0 : Aa) : Out :=
 (Ae .none .geq n_1 (.int .i64 0)).bind fun x3 =>
 gk x3 true (some n_1) fun x4 =>
 gk x3 true (some most_2) fun x5 =>
 gk x3 true (Ae .none .leq x4 x5) fun x6 =>
 (Ax x3 x6 (.bool false)).bind fun x7 =>
 rK H0 x7 H0
noncomputable def Sh.f1v (m_1 : Ab) (H0 : Aa) : Out :=
 Ap (BP true 2 m_1 H0) fun m_2 H3 =>
 (Ac 0 m_2).bind fun x4 =>
 (Ad false 1 x4 H3).bind fun x5 =>
 bP H0 (Sh.f1u x5 (.int .i64 1000) H3) fun x6 H7 =>
 gk x6 true (Ac 1 m_2) fun x8 =>
 gk x6 true (Ad false 1 x8 H7) fun x9 =>
 gbP H0 x6 true H7 (Sh.f1u x9 (.int .i64 100000) H7) fun x10 H11 =>
 (Ax x6 x10 (.bool false)).bind fun x12 =>
 rP H0 x12 H11
noncomputable def Sh.f4z (H0 : Aa) (rec1 : LK) (a_6 b_7 n_8 x9 x10 : Ab) (H11 : Aa) : Out :=
 (Ae .none .lss x10 x9).bind fun x12 =>
 Aj x12 (
 (AW a_6 x10).bind fun x13 =>
 (AW b_7 x10).bind fun x14 =>
 (Ae .none .neq x13 x14).bind fun x15 =>
 Aj x15 (
 rK H0 x10 H11) (
 (Ae .none .add x10 (.int .i64 1)).bind fun x16 =>
 rec1 [a_6, b_7, n_8, x9, x16] H11)) (
 rK H0 n_8 H11)
noncomputable def Sh.f1w (a_1 b_2 : Ab) (H0 : Aa) : Out :=
 (Be a_1).bind fun x3 =>
 (Be b_2).bind fun x4 =>
 (GH ND x3 [x4]).bind fun x5 =>
 Ao (fun rec1 vs H => Sh.f4z H0 rec1 (ag vs 0) (ag vs 1) (ag vs 2) (ag vs 3) (ag vs 4) H) AC [a_1, b_2, x5, x5, (.int .i64 0)] H0
noncomputable def Sh.f4 (x1 : Ab) (H0 : Aa) : Out :=
 (Ag x1).bind fun x2 =>
 (Ac 1 x2).bind fun x3 =>
 bC (Ad false 1 x3 H0) (fun _ => True) fun x4 =>
 (Ag x1).bind fun x5 =>
 (Ac 0 x5).bind fun x6 =>
 bC (Ad false 1 x6 H0) (fun _ => True) fun x7 =>
 (Be x7).bind fun x8 =>
 (Ae .none .eql x4 x8).bind fun x9 =>
 rK H0 x9 H0
noncomputable def Sh.f6f (H0 : Aa) (H3 : Aa) : Out :=
 (Ay (some [(.int .i64 0), (.str [])]) [(0, 1, (.int .i64 2)), (1, 1, (.str []))]).bind fun x4 =>
 (Rk Fo x4).bind fun x5 =>
 bK H0 (panA x5 H3) fun _ H7 =>
 rK H0 (.tup []) H7
noncomputable def Sh.f1 (x1 hint_2 : Ab) (H0 : Aa) : Out :=
 AJ (fun j1 =>
 bK H0 (Sh.f4 x1 H0) fun x8 H9 =>
 Aj x8 (
 (Ay (some [(.int .i64 0), (.str [])]) [(0, 1, (.int .i64 3)), (1, 1, hint_2)]).bind fun x10 =>
 (Rk Fo x10).bind fun x11 =>
 bK H0 (panA x11 H9) fun _ H13 =>
 j1 [] H13) (
 j1 [] H9)) (fun vs H => Sh.f6f H0 H)
noncomputable def Sh.f7 (x1 s_2 rest_3 : Ab) (H0 : Aa) : Out :=
 (Ag x1).bind fun x4 =>
 (Ac 0 x4).bind fun x5 =>
 bC (Ad false 1 x5 H0) (fun _ => True) fun x6 =>
 (Ag x1).bind fun x7 =>
 (Ac 1 x7).bind fun x8 =>
 bC (Ad false 1 x8 H0) (fun _ => True) fun x9 =>
 (AS x6 (some x9) none).bind fun x10 =>
 AQ (Sh.f1w x10 s_2 H0) fun x11 H12 =>
 (Ag x1).bind fun x13 =>
 (Ac 1 x13).bind fun x14 =>
 (Ad false 1 x14 H12).bind fun x15 =>
 (Ae .none .add x15 x11).bind fun x16 =>
 (Ag x1).bind fun x17 =>
 (Ac 1 x17).bind fun x18 =>
 bK H0 (Au (Af 1 x18 x16 H12)) fun _ H20 =>
 (Be s_2).bind fun x21 =>
 (Ae .none .lss x11 x21).bind fun x22 =>
 Aj x22 (
 (AS s_2 (some x11) none).bind fun x23 =>
 (Ae .none .add x23 rest_3).bind fun x24 =>
 bK H0 (Sh.f1 x1 x24 H20) fun x25 H26 =>
 rK H0 (.tup []) H26) (
 rK H0 (.tup []) H20)
noncomputable def Sh.f0 (x1 some_2 : Ab) (H0 : Aa) : Out :=
 AQ (Sh.f4 x1 H0) fun x3 H4 =>
 (unA .not x3).bind fun x5 =>
 gk x5 true (some some_2) fun x6 =>
 gk x5 true (some x1) fun x7 =>
 gk x5 true (Ag x7) fun x8 =>
 gk x5 true (Ac 0 x8) fun x9 =>
 gkc x5 true (Ad false 1 x9 H4) (fun _ _ => True) fun x10 =>
 gk x5 true (some x1) fun x11 =>
 gk x5 true (Ag x11) fun x12 =>
 gk x5 true (Ac 1 x12) fun x13 =>
 gkc x5 true (Ad false 1 x13 H4) (fun _ _ => True) fun x14 =>
 gk x5 true (AW x10 x14) fun x15 =>
 gbN x5 true H4 (Sh.f1r x6 x15 H4) fun x16 H17 =>
 gk x5 true (Ae .none .geq x16 (.int .i64 0)) fun x18 =>
 (Ax x5 x18 (.bool false)).bind fun x19 =>
 rK H0 x19 H17
noncomputable def Sh.f50 (H0 : Aa) (rec1 : LK) (x2 : Ab) (H3 : Aa) : Out :=
 bK H0 (Sh.f4 x2 H3) fun x4 H5 =>
 (unA .not x4).bind fun x6 =>
 gk x6 true (some x2) fun x7 =>
 gbK H0 x6 true H5 (Sh.f0 x7 (.str [13, 10]) H5) fun x8 H9 =>
 gk x6 true (unA .not x8) fun x10 =>
 (Ax x6 x10 (.bool false)).bind fun x11 =>
 Aj x11 (
 (Ag x2).bind fun x12 =>
 (Ac 1 x12).bind fun x13 =>
 (Ad false 1 x13 H9).bind fun x14 =>
 (Ae .none .add x14 (.int .i64 1)).bind fun x15 =>
 (Ag x2).bind fun x16 =>
 (Ac 1 x16).bind fun x17 =>
 bK H0 (Au (Af 1 x17 x15 H9)) fun _ H19 =>
 rec1 [x2] H19) (
 rK H0 (.tup []) H9)
noncomputable def Sh.fz (x1 : Ab) (H0 : Aa) : Out :=
 Ao (fun rec1 vs H => Sh.f50 H0 rec1 (ag vs 0) H) AC [x1] H0
noncomputable def Sh.f65 (H0 : Aa) (x8 : Ab) (H9 : Aa) : Out :=
 (Ag x8).bind fun x10 =>
 (Ac 1 x10).bind fun x11 =>
 (Ad false 1 x11 H9).bind fun x12 =>
 (Ae .none .add x12 (.int .i64 1)).bind fun x13 =>
 (Ag x8).bind fun x14 =>
 (Ac 1 x14).bind fun x15 =>
 bK H0 (Au (Af 1 x15 x13 H9)) fun _ H17 =>
 rK H0 (.tup []) H17
noncomputable def Sh.f51 (H0 : Aa) (x5 rest_6 : Ab) (H7 : Aa) : Out :=
 AJ (fun j2 =>
 bK H0 (Sh.f0 x5 (.str [10]) H7) fun x18 H19 =>
 (unA .not x18).bind fun x20 =>
 Aj x20 (
 (Ae .none .add (.str [10]) rest_6).bind fun x21 =>
 bK H0 (Sh.f1 x5 x21 H19) fun x22 H23 =>
 j2 [x5] H23) (
 j2 [x5] H19)) (fun vs H => Sh.f65 H0 (ag vs 0) H)
noncomputable def Sh.fn (x1 rest_2 : Ab) (H0 : Aa) : Out :=
 bK H0 (Sh.f4 x1 H0) fun x3 H4 =>
 Aj x3 (
 rK H0 (.tup []) H4) (
 AJ (fun j1 =>
 bK H0 (Sh.f0 x1 (.str [13]) H4) fun x24 H25 =>
 Aj x24 (
 (Ag x1).bind fun x26 =>
 (Ac 1 x26).bind fun x27 =>
 (Ad false 1 x27 H25).bind fun x28 =>
 (Ae .none .add x28 (.int .i64 1)).bind fun x29 =>
 (Ag x1).bind fun x30 =>
 (Ac 1 x30).bind fun x31 =>
 bK H0 (Au (Af 1 x31 x29 H25)) fun _ H33 =>
 j1 [x1, rest_2] H33) (
 j1 [x1, rest_2] H25)) (fun vs H => Sh.f51 H0 (ag vs 0) (ag vs 1) H))
noncomputable def Sh.fb (x1 : Ab) (H0 : Aa) : Out :=
 (Ay (some [(.int .i64 0), (.str [])]) [(0, 1, (.int .i64 4)), (1, 1, (.str []))]).bind fun x2 =>
 (Rk Fo x2).bind fun x3 =>
 bK H0 (panA x3 H0) fun _ H5 =>
 rK H0 (.tup []) H5
noncomputable def Sh.f1x (s_1 prefix_2 : Ab) (H0 : Aa) : Out :=
 (Be s_1).bind fun x3 =>
 (Be prefix_2).bind fun x4 =>
 (Ae .none .geq x3 x4).bind fun x5 =>
 gk x5 true (some s_1) fun x6 =>
 gk x5 true (some prefix_2) fun x7 =>
 gk x5 true (Be x7) fun x8 =>
 gk x5 true (AS x6 none (some x8)) fun x9 =>
 gk x5 true (some prefix_2) fun x10 =>
 gk x5 true (Ae .none .eql x9 x10) fun x11 =>
 (Ax x5 x11 (.bool false)).bind fun x12 =>
 rK H0 x12 H0
noncomputable def Sh.f38 (s_1 prefix_2 : Ab) (H0 : Aa) : Out :=
 bK H0 (Sh.f1x s_1 prefix_2 H0) fun x3 H4 =>
 (unA .not x3).bind fun x5 =>
 Aj x5 (
 rK H0 (.tup [s_1, (.bool false)]) H4) (
 (Be prefix_2).bind fun x6 =>
 (AS s_1 (some x6) none).bind fun x7 =>
 rK H0 (.tup [x7, (.bool true)]) H4)
noncomputable def Sh.f1y (s_1 prefix_2 : Ab) (H0 : Aa) : Out :=
 bK H0 (Sh.f38 s_1 prefix_2 H0) fun x3 H4 =>
 (Ak 0 x3).bind fun x5 =>
 (Ak 1 x3).bind fun x6 =>
 rK H0 (.tup [x5, x6]) H4
noncomputable def Sh.f1z (s_1 at_2 : Ab) (H0 : Aa) : Out :=
 (Ae .none .lss at_2 (.int .i64 0)).bind fun x3 =>
 gk x3 false (some at_2) fun x4 =>
 gk x3 false (some s_1) fun x5 =>
 gk x3 false (Be x5) fun x6 =>
 gk x3 false (Ae .none .gtr x4 x6) fun x7 =>
 (Ax x3 (.bool true) x7).bind fun x8 =>
 Aj x8 (
 rK H0 (.int .i64 0) H0) (
 (AS s_1 (some at_2) none).bind fun x9 =>
 bK H0 (Sh.f1q x9 (.fn 120 []) H0) fun x10 H11 =>
 (Ae .none .lss x10 (.int .i64 0)).bind fun x12 =>
 Aj x12 (
 (Be x9).bind fun x13 =>
 rK H0 x13 H11) (
 rK H0 x10 H11))
noncomputable def Sh.f52 (H0 : Aa) (rec1 : LK) (a_10 m_11 out_12 carry_13 x14 x15 x16 : Ab) (H17 : Aa) : Out :=
 (Ae .none .lss x16 x15).bind fun x18 =>
 Aj x18 (
 (A6 1 x14 x16).bind fun x19 =>
 (Ad false 1 x19 H17).bind fun x20 =>
 (AI .u64 x20).bind fun x21 =>
 (AI .u64 m_11).bind fun x22 =>
 (Ae .none .mul x21 x22).bind fun x23 =>
 (Ae .none .add carry_13 x23).bind fun x24 =>
 (AI .u32 x24).bind fun x25 =>
 (A6 1 out_12 x16).bind fun x26 =>
 bP H0 (Au (Af 1 x26 x25 H17)) fun _ H28 =>
 (Ae .none .shr x24 (.int .u64 32)).bind fun x29 =>
 (Ae .none .add x16 (.int .i64 1)).bind fun x30 =>
 rec1 [a_10, m_11, out_12, x29, x14, x15, x30] H28) (
 (AH a_10).bind fun x31 =>
 (AI .u32 carry_13).bind fun x32 =>
 (A6 1 out_12 x31).bind fun x33 =>
 bP H0 (Au (Af 1 x33 x32 H17)) fun _ H35 =>
 bP H0 (Sh.f1t out_12 H35) fun x36 H37 =>
 rPN H0 x36 H37)
noncomputable def Sh.f20 (a_1 m_2 c_3 : Ab) (H0 : Aa) : Out :=
 (AH a_1).bind fun x4 =>
 (Ae .none .add x4 (.int .i64 1)).bind fun x5 =>
 Ap (Fu 1 4 (some [(.int .u32 0)]) x5 x5 H0) fun x6 H7 =>
 (AI .u64 c_3).bind fun x8 =>
 (AH a_1).bind fun x9 =>
 Ao (fun rec1 vs H => Sh.f52 H0 rec1 (ag vs 0) (ag vs 1) (ag vs 2) (ag vs 3) (ag vs 4) (ag vs 5) (ag vs 6) H) AC [a_1, m_2, x6, x8, a_1, x9, (.int .i64 0)] H7
noncomputable def Sh.f3p (H0 : Aa) (rec2 : LK) (x25 neg_26 l_27 x28 : Ab) (H29 : Aa) : Out :=
 bP H0 (B4 (NB x28 H29)) fun x30 H31 =>
 (Ak 0 x30).bind fun x32 =>
 Aj x32 (
 (Ak 2 x30).bind fun x33 =>
 (Ae .none .sub x33 (.int .i32 48)).bind fun x34 =>
 (AI .u32 x34).bind fun x35 =>
 bP H0 (Sh.f20 l_27 (.int .u32 10) x35 H31) fun x36 H37 =>
 rec2 [x25, neg_26, x36, x28] H37) (
 (Ay (some [(.bool false), (.sl [] .tight)]) [(0, 1, neg_26), (1, 1, l_27)]).bind fun x38 =>
 bP H0 (Au (Af 2 x25 x38 H31)) fun _ H40 =>
 (BM [Ad true 2 x25 H40, some (.int .i64 0)]).bind fun x41 => rPN H0 x41 H40)
noncomputable def Sh.f53 (H0 : Aa) (x8 d_9 neg_10 x11 : Ab) (H12 : Aa) : Out :=
 Aj x11 (
 (Ay (some [(.bool false), (.sl [] .tight)]) []).bind fun x13 =>
 bP H0 (Au (Af 2 x8 x13 H12)) fun _ H15 =>
 (BM [Ad true 2 x8 H15, some (.int .i64 2)]).bind fun x16 => rPN H0 x16 H15) (
 (Be d_9).bind fun x17 =>
 (Ae .none .gtr x17 (.int .i64 400)).bind fun x18 =>
 Aj x18 (
 (Ay (some [(.bool false), (.sl [] .tight)]) []).bind fun x19 =>
 bP H0 (Au (Af 2 x8 x19 H12)) fun _ H21 =>
 (BM [Ad true 2 x8 H21, some (.int .i64 4)]).bind fun x22 => rPN H0 x22 H21) (
 bP H0 (B4 (MW d_9 H12)) fun x23 H24 =>
 Ao (fun rec2 vs H => Sh.f3p H0 rec2 (ag vs 0) (ag vs 1) (ag vs 2) (ag vs 3) H) AC [x8, neg_10, (.sl [] .tight), x23] H24))
noncomputable def Sh.f21 (s_1 : Ab) (H0 : Aa) : Out :=
 Ap (A3 (some [(.bool false), (.sl [] .tight)]) H0) fun x2 H3 =>
 bP H0 (Sh.f1y s_1 (.str [45]) H3) fun x4 H5 =>
 (Ak 0 x4).bind fun x6 =>
 (Ak 1 x4).bind fun x7 =>
 AJ (fun j1 =>
 (Ae .none .eql x6 (.str [])).bind fun x42 =>
 Aj x42 (
 j1 [x2, x6, x7, x42] H5) (
 bP H0 (Sh.f1z x6 (.int .i64 0) H5) fun x43 H44 =>
 (Be x6).bind fun x45 =>
 (Ae .none .lss x43 x45).bind fun x46 =>
 Aj x46 (
 j1 [x2, x6, x7, x46] H44) (
 (AW x6 (.int .i64 0)).bind fun x47 =>
 (Ae .none .eql x47 (.int .u8 48)).bind fun x48 =>
 gk x48 true (some s_1) fun x49 =>
 gk x48 true (Ae .none .neq x49 (.str [48])) fun x50 =>
 (Ax x48 x50 (.bool false)).bind fun x51 =>
 j1 [x2, x6, x7, x51] H44))) (fun vs H => Sh.f53 H0 (ag vs 0) (ag vs 1) (ag vs 2) (ag vs 3) H)
noncomputable def Sh.f3q (H0 : Aa) (rec2 : LK) (x25 x26 x27 x28 x29 : Ab) (H30 : Aa) : Out :=
 (Ag x25).bind fun x31 =>
 (Ac 1 x31).bind fun x32 =>
 (Ad false 1 x32 H30).bind fun x33 =>
 (Ae .none .add x33 (.int .i64 1)).bind fun x34 =>
 (Ag x25).bind fun x35 =>
 (Ac 1 x35).bind fun x36 =>
 bK H0 (Au (Af 1 x36 x34 H30)) fun _ H38 =>
 rec2 [x25, x26, x27, x28, x29] H38
noncomputable def Sh.f39 (H0 : Aa) (x60 x61 x62 : Ab) (H63 : Aa) : Out :=
 (Ag x60).bind fun x64 =>
 (Ac 0 x64).bind fun x65 =>
 bC (Ad false 1 x65 H63) (fun _ => True) fun x66 =>
 (Ag x60).bind fun x67 =>
 (Ac 1 x67).bind fun x68 =>
 bC (Ad false 1 x68 H63) (fun _ => True) fun x69 =>
 (AS x66 (some x62) (some x69)).bind fun x70 =>
 AQ (Sh.f21 x70 H63) fun x71 H72 =>
 (Ak 0 x71).bind fun x73 =>
 Ap (A3 (some [(.bool false), (.sl [] .tight)]) H72) fun x74 H75 =>
 AQ (Au (Af 2 x74 x73 H75)) fun _ H77 =>
 (Ak 1 x71).bind fun x78 =>
 (Ad true 2 x74 H77).bind fun x79 =>
 bK H0 (Au (Af 2 x61 x79 H77)) fun _ H81 =>
 (Ad true 2 x61 H81).bind fun x82 => rKN H0 x82 H81
noncomputable def Sh.f3r (H0 : Aa) (rec2 : LK) (x17 x18 x19 x20 x21 : Ab) (H22 : Aa) : Out :=
 bK H0 (Sh.f0 x17 (.str [48, 49, 50, 51, 52, 53, 54, 55, 56, 57]) H22) fun x23 H24 =>
 Aj x23 (
 AJ (fun j3 =>
 (Ag x17).bind fun x39 =>
 (Ac 1 x39).bind fun x40 =>
 (Ad false 1 x40 H24).bind fun x41 =>
 (Ae .none .gtr x41 x21).bind fun x42 =>
 gk x42 true (some x17) fun x43 =>
 gk x42 true (Ag x43) fun x44 =>
 gk x42 true (Ac 0 x44) fun x45 =>
 gk x42 true (Ad false 1 x45 H24) fun x46 =>
 gk x42 true (some x21) fun x47 =>
 gk x42 true (AW x46 x47) fun x48 =>
 gk x42 true (Ae .none .eql x48 (.int .u8 48)) fun x49 =>
 (Ax x42 x49 (.bool false)).bind fun x50 =>
 Aj x50 (
 bK H0 (Sh.f1 x17 (.str []) H24) fun x51 H52 =>
 j3 [x17, x18, x19, x20, x21] H52) (
 (Ag x17).bind fun x53 =>
 (Ac 1 x53).bind fun x54 =>
 (Ad false 1 x54 H24).bind fun x55 =>
 (Ae .none .sub x55 x21).bind fun x56 =>
 (Ae .none .eql x56 (.int .i64 400)).bind fun x57 =>
 Aj x57 (
 bK H0 (Sh.fb x17 H24) fun x58 H59 =>
 j3 [x17, x18, x19, x20, x21] H59) (
 j3 [x17, x18, x19, x20, x21] H24))) (fun vs H => Sh.f3q H0 rec2 (ag vs 0) (ag vs 1) (ag vs 2) (ag vs 3) (ag vs 4) H)) (
 AJ (fun j4 =>
 (Ag x17).bind fun x83 =>
 (Ac 1 x83).bind fun x84 =>
 (Ad false 1 x84 H24).bind fun x85 =>
 (Ae .none .eql x85 x21).bind fun x86 =>
 Aj x86 (
 (Ae .none .add (.str [49]) x18).bind fun x87 =>
 bK H0 (Sh.f1 x17 x87 H24) fun x88 H89 =>
 j4 [x17, x19, x20] H89) (
 j4 [x17, x19, x20] H24)) (fun vs H => Sh.f39 H0 (ag vs 0) (ag vs 1) (ag vs 2) H))
noncomputable def Sh.f3s (H0 : Aa) (x9 x10 x11 x12 : Ab) (H13 : Aa) : Out :=
 (Ag x9).bind fun x14 =>
 (Ac 1 x14).bind fun x15 =>
 (Ad false 1 x15 H13).bind fun x16 =>
 Ao (fun rec2 vs H => Sh.f3r H0 rec2 (ag vs 0) (ag vs 1) (ag vs 2) (ag vs 3) (ag vs 4) H) AC [x9, x10, x11, x12, x16] H13
noncomputable def Sh.f22 (x1 x2 x3 : Ab) (H0 : Aa) : Out :=
 Ap (A3 (some [(.bool false), (.sl [] .tight)]) H0) fun x4 H5 =>
 (Ag x1).bind fun x6 =>
 (Ac 1 x6).bind fun x7 =>
 (Ad false 1 x7 H5).bind fun x8 =>
 AJ (fun j1 =>
 gk x2 true (some x1) fun x90 =>
 gbK H0 x2 true H5 (Sh.f0 x90 (.str [45]) H5) fun x91 H92 =>
 (Ax x2 x91 (.bool false)).bind fun x93 =>
 Aj x93 (
 (Ag x1).bind fun x94 =>
 (Ac 1 x94).bind fun x95 =>
 (Ad false 1 x95 H92).bind fun x96 =>
 (Ae .none .add x96 (.int .i64 1)).bind fun x97 =>
 (Ag x1).bind fun x98 =>
 (Ac 1 x98).bind fun x99 =>
 bK H0 (Au (Af 1 x99 x97 H92)) fun _ H101 =>
 bK H0 (Sh.f0 x1 (.str [48]) H101) fun x102 H103 =>
 Aj x102 (
 bK H0 (Sh.f1 x1 (.str []) H103) fun x104 H105 =>
 j1 [x1, x3, x4, x8] H105) (
 j1 [x1, x3, x4, x8] H103)) (
 j1 [x1, x3, x4, x8] H92)) (fun vs H => Sh.f3s H0 (ag vs 0) (ag vs 1) (ag vs 2) (ag vs 3) H)
noncomputable def Sh.f23 (c_1 : Ab) (H0 : Aa) : Out :=
 (Ae .none .gtr c_1 (.int .u8 32)).bind fun x2 =>
 gk x2 true (some c_1) fun x3 =>
 gk x2 true (Ae .none .lss x3 (.int .u8 127)) fun x4 =>
 (Ax x2 x4 (.bool false)).bind fun x5 =>
 rK H0 x5 H0
noncomputable def Sh.f54 (H0 : Aa) (x41 from_42 : Ab) (H43 : Aa) : Out :=
 (Ag x41).bind fun x44 =>
 (Ac 0 x44).bind fun x45 =>
 bC (Ad false 1 x45 H43) (fun _ => True) fun x46 =>
 (Ag x41).bind fun x47 =>
 (Ac 1 x47).bind fun x48 =>
 bC (Ad false 1 x48 H43) (fun _ => True) fun x49 =>
 (AS x46 (some from_42) (some x49)).bind fun x50 =>
 rK H0 x50 H43
noncomputable def Sh.f55 (H0 : Aa) (rec1 : LK) (x6 rest_7 from_8 : Ab) (H9 : Aa) : Out :=
 AQ (Sh.f4 x6 H9) fun x10 H11 =>
 (unA .not x10).bind fun x12 =>
 gk x12 true (some x6) fun x13 =>
 gk x12 true (Ag x13) fun x14 =>
 gk x12 true (Ac 1 x14) fun x15 =>
 gkc x12 true (Ad false 1 x15 H11) (fun _ _ => True) fun x16 =>
 gk x12 true (some from_8) fun x17 =>
 gk x12 true (Ae .none .sub x16 x17) fun x18 =>
 gk x12 true (Ae .none .lss x18 (.int .i64 40)) fun x19 =>
 (Ax x12 x19 (.bool false)).bind fun x20 =>
 gk x20 true (some x6) fun x21 =>
 gk x20 true (Ag x21) fun x22 =>
 gk x20 true (Ac 0 x22) fun x23 =>
 gkc x20 true (Ad false 1 x23 H11) (fun _ _ => True) fun x24 =>
 gk x20 true (some x6) fun x25 =>
 gk x20 true (Ag x25) fun x26 =>
 gk x20 true (Ac 1 x26) fun x27 =>
 gkc x20 true (Ad false 1 x27 H11) (fun _ _ => True) fun x28 =>
 gk x20 true (AW x24 x28) fun x29 =>
 gbN x20 true H11 (Sh.f23 x29 H11) fun x30 H31 =>
 (Ax x20 x30 (.bool false)).bind fun x32 =>
 Aj x32 (
 (Ag x6).bind fun x33 =>
 (Ac 1 x33).bind fun x34 =>
 (Ad false 1 x34 H31).bind fun x35 =>
 (Ae .none .add x35 (.int .i64 1)).bind fun x36 =>
 (Ag x6).bind fun x37 =>
 (Ac 1 x37).bind fun x38 =>
 bK H0 (Au (Af 1 x38 x36 H31)) fun _ H40 =>
 rec1 [x6, rest_7, from_8] H40) (
 AJ (fun j2 =>
 (Ag x6).bind fun x51 =>
 (Ac 1 x51).bind fun x52 =>
 (Ad false 1 x52 H31).bind fun x53 =>
 (Ae .none .eql x53 from_8).bind fun x54 =>
 Aj x54 (
 (Ae .none .add (.str [97]) rest_7).bind fun x55 =>
 bK H0 (Sh.f1 x6 x55 H31) fun x56 H57 =>
 j2 [x6, from_8] H57) (
 j2 [x6, from_8] H31)) (fun vs H => Sh.f54 H0 (ag vs 0) (ag vs 1) H))
noncomputable def Sh.f1h (x1 rest_2 : Ab) (H0 : Aa) : Out :=
 (Ag x1).bind fun x3 =>
 (Ac 1 x3).bind fun x4 =>
 (Ad false 1 x4 H0).bind fun x5 =>
 Ao (fun rec1 vs H => Sh.f55 H0 rec1 (ag vs 0) (ag vs 1) (ag vs 2) H) AC [x1, rest_2, x5] H0
noncomputable def Sh.f24 (r_1 : Ab) (H0 : Aa) : Out :=
 (Ag r_1).bind fun x2 =>
 (Ac 0 x2).bind fun x3 =>
 (Ac 1 x3).bind fun x4 =>
 (Ad false 1 x4 H0).bind fun x5 =>
 (Ae .none .add x5 (.int .i64 1)).bind fun x6 =>
 (Ag r_1).bind fun x7 =>
 (Ac 0 x7).bind fun x8 =>
 (Ac 1 x8).bind fun x9 =>
 bK H0 (Au (Af 1 x9 x6 H0)) fun _ H11 =>
 (Ag r_1).bind fun x12 =>
 (Ac 0 x12).bind fun x13 =>
 bK H0 (Sh.f0 x13 (.str [67]) H11) fun x14 H15 =>
 Aj x14 (
 (Ag r_1).bind fun x16 =>
 (Ac 0 x16).bind fun x17 =>
 bK H0 (Sh.fz x17 H15) fun x18 H19 =>
 rK H0 (.tup []) H19) (
 (Ag r_1).bind fun x20 =>
 (Ac 0 x20).bind fun x21 =>
 bK H0 (Sh.f0 x21 (.str [71]) H15) fun x22 H23 =>
 Aj x22 (
 (Ag r_1).bind fun x24 =>
 (Ac 0 x24).bind fun x25 =>
 bK H0 (Sh.f7 x25 (.str [71, 32]) (.str [49]) H23) fun x26 H27 =>
 (Ag r_1).bind fun x28 =>
 (Ac 0 x28).bind fun x29 =>
 bK H0 (Sh.f22 x29 (.bool false) (.str []) H27) fun x30 H31 =>
 rK H0 (.tup []) H31) (
 (Ag r_1).bind fun x32 =>
 (Ac 0 x32).bind fun x33 =>
 bK H0 (Sh.f0 x33 (.str [82]) H23) fun x34 H35 =>
 Aj x34 (
 (Ag r_1).bind fun x36 =>
 (Ac 0 x36).bind fun x37 =>
 bK H0 (Sh.f7 x37 (.str [82, 32]) (.str [97]) H35) fun x38 H39 =>
 (Ag r_1).bind fun x40 =>
 (Ac 0 x40).bind fun x41 =>
 bK H0 (Sh.f1h x41 (.str []) H39) fun x42 H43 =>
 (Ag r_1).bind fun x44 =>
 (Ac 4 x44).bind fun x45 =>
 bK H0 (Au (Af 1 x45 x42 H43)) fun _ H47 =>
 rK H0 (.tup []) H47) (
 (Ag r_1).bind fun x48 =>
 (Ac 0 x48).bind fun x49 =>
 bK H0 (Sh.f1 x49 (.str [67]) H35) fun x50 H51 =>
 rK H0 (.tup []) H51)))
noncomputable def Sh.fo (r_1 n_2 : Ab) (H0 : Aa) : Out :=
 Ap (BP true 5 n_2 H0) fun n_3 H4 =>
 (Ag r_1).bind fun x5 =>
 (Ac 5 x5).bind fun x6 =>
 bC (Ad false 1 x6 H4) (fun _ => True) fun x7 =>
 bC (Ad true 5 n_3 H4) (fun _ => True) fun x8 =>
 (A9 5 [x8]).bind fun x9 =>
 AQ (B4 (AA At 5 40 x7 x9 H4)) fun x10 H11 =>
 (Ag r_1).bind fun x12 =>
 (Ac 5 x12).bind fun x13 =>
 bK H0 (Au (Af 1 x13 x10 H11)) fun _ H15 =>
 (Ag r_1).bind fun x16 =>
 (Ac 5 x16).bind fun x17 =>
 (Ad false 1 x17 H15).bind fun x18 =>
 (AH x18).bind fun x19 =>
 rK H0 x19 H15
noncomputable def Sh.f25 (H0 : Aa) (self : Ab → Ab → Ab → Ab → Ab → Aa → Out) (rec1 : LK) (r_13 on_14 level_15 x16 y_17 half_18 n_19 x20 : Ab) (H21 : Aa) : Out :=
 (Ae .none .lss x20 (.int .i64 4)).bind fun x22 =>
 Aj x22 (
 (Ae .none .rem x20 (.int .i64 2)).bind fun x23 =>
 (Ae .none .mul x23 half_18).bind fun x24 =>
 (Ae .none .add x16 x24).bind fun x25 =>
 (Ae .none .quo x20 (.int .i64 2)).bind fun x26 =>
 (Ae .none .mul x26 half_18).bind fun x27 =>
 (Ae .none .add y_17 x27).bind fun x28 =>
 (Ae .none .gtr level_15 (.int .i64 1)).bind fun x29 =>
 Aj x29 (
 (Ae .none .sub level_15 (.int .i64 1)).bind fun x30 =>
 bK H0 (self r_13 on_14 x30 x25 x28 H21) fun x31 H32 =>
 (Ac 1 n_19).bind fun x33 =>
 (AY 4 1 x33 x20).bind fun x34 =>
 bK H0 (Au (Af 1 x34 x31 H32)) fun _ H36 =>
 (Ae .none .add x20 (.int .i64 1)).bind fun x37 =>
 rec1 [r_13, on_14, level_15, x16, y_17, half_18, n_19, x37] H36) (
 (Ag on_14).bind fun x38 =>
 (AY 8 8 x38 x28).bind fun x39 =>
 (AY 8 1 x39 x25).bind fun x40 =>
 (Ad false 1 x40 H21).bind fun x41 =>
 Aj x41 (
 (Ac 1 n_19).bind fun x42 =>
 (AY 4 1 x42 x20).bind fun x43 =>
 bK H0 (Au (Af 1 x43 (.int .i64 1) H21)) fun _ H45 =>
 (Ae .none .add x20 (.int .i64 1)).bind fun x46 =>
 rec1 [r_13, on_14, level_15, x16, y_17, half_18, n_19, x46] H45) (
 (Ae .none .add x20 (.int .i64 1)).bind fun x47 =>
 rec1 [r_13, on_14, level_15, x16, y_17, half_18, n_19, x47] H21))) (
 (Ad true 5 n_19 H21).bind fun x48 =>
 bK H0 (Sh.fo r_13 x48 H21) fun x49 H50 =>
 rK H0 x49 H50)
noncomputable def Sh.f56 (self : Ab → Ab → Ab → Ab → Ab → Aa → Out) (r_1 on_2 level_3 x4 y_5 : Ab) (H0 : Aa) : Out :=
 (Ae .none .sub level_3 (.int .i64 1)).bind fun x6 =>
 (Ae .none .shl (.int .i64 1) x6).bind fun x7 =>
 (Ay (some [(.int .i64 0), (.int .i64 0), (.int .i64 0), (.int .i64 0), (.int .i64 0)]) [(0, 1, level_3)]).bind fun x8 =>
 Ap (A3 (some [(.int .i64 0), (.int .i64 0), (.int .i64 0), (.int .i64 0), (.int .i64 0)]) H0) fun n_9 H10 =>
 bK H0 (Au (Af 5 n_9 x8 H10)) fun _ H12 =>
 Ao (fun rec1 vs H => Sh.f25 H0 self rec1 (ag vs 0) (ag vs 1) (ag vs 2) (ag vs 3) (ag vs 4) (ag vs 5) (ag vs 6) (ag vs 7) H) AC [r_1, on_2, level_3, x4, y_5, x7, n_9, (.int .i64 0)] H12
noncomputable def Sh.ff : Nat → Ab → Ab → Ab → Ab → Ab → Aa → Out
 | 0 => fun _ _ _ _ _ _ => none
 | d + 1 => Sh.f56 (Sh.ff d)
noncomputable def Sh.f3t (H0 : Aa) (rec1 : LK) (r_13 on_14 x15 y_16 : Ab) (H17 : Aa) : Out :=
 (Ag r_13).bind fun x18 =>
 (Ac 0 x18).bind fun x19 =>
 (Ac 1 x19).bind fun x20 =>
 (Ad false 1 x20 H17).bind fun x21 =>
 (Ae .none .add x21 (.int .i64 1)).bind fun x22 =>
 (Ag r_13).bind fun x23 =>
 (Ac 0 x23).bind fun x24 =>
 (Ac 1 x24).bind fun x25 =>
 bK H0 (Au (Af 1 x25 x22 H17)) fun _ H27 =>
 rec1 [r_13, on_14, x15, y_16] H27
noncomputable def Sh.f57 (H0 : Aa) (j2 : LK) (r_32 on_33 x34 y_35 end_36 : Ab) (H37 : Aa) : Out :=
 Aj end_36 (
 (Ae .none .add y_35 (.int .i64 1)).bind fun x38 =>
 j2 [r_32, on_33, (.int .i64 0), x38] H37) (
 (Ag r_32).bind fun x39 =>
 (Ac 0 x39).bind fun x40 =>
 AQ (Sh.f0 x40 (.str [42]) H37) fun x41 H42 =>
 (AY 8 8 on_33 y_35).bind fun x43 =>
 (AY 8 1 x43 x34).bind fun x44 =>
 bK H0 (Au (Af 1 x44 x41 H42)) fun _ H46 =>
 (Ae .none .add x34 (.int .i64 1)).bind fun x47 =>
 j2 [r_32, on_33, x47, y_35] H46)
noncomputable def Sh.f3u (H0 : Aa) (rec1 : LK) (r_4 on_5 x6 y_7 : Ab) (H8 : Aa) : Out :=
 (Ag r_4).bind fun x9 =>
 (Ac 0 x9).bind fun x10 =>
 bK H0 (Sh.f0 x10 (.str [46, 42, 36]) H8) fun x11 H12 =>
 Aj x11 (
 AJ (fun j2 =>
 (Ag r_4).bind fun x28 =>
 (Ac 0 x28).bind fun x29 =>
 bK H0 (Sh.f0 x29 (.str [36]) H12) fun x30 H31 =>
 AJ (fun j3 =>
 (Ae .none .eql y_7 (.int .i64 8)).bind fun x48 =>
 gk x48 false (some x6) fun x49 =>
 gk x48 false (Ae .none .eql x49 (.int .i64 8)) fun x50 =>
 gk x48 false (some x50) fun x51 =>
 gk x51 true (some x30) fun x52 =>
 gk x51 true (unA .not x52) fun x53 =>
 gk x48 false (Ax x51 x53 (.bool false)) fun x54 =>
 (Ax x48 (.bool true) x54).bind fun x55 =>
 Aj x55 (
 (Ag r_4).bind fun x56 =>
 (Ac 0 x56).bind fun x57 =>
 bK H0 (Sh.f1 x57 (.str []) H31) fun x58 H59 =>
 j3 [r_4, on_5, x6, y_7, x30] H59) (
 j3 [r_4, on_5, x6, y_7, x30] H31)) (fun vs H => Sh.f57 H0 j2 (ag vs 0) (ag vs 1) (ag vs 2) (ag vs 3) (ag vs 4) H)) (fun vs H => Sh.f3t H0 rec1 (ag vs 0) (ag vs 1) (ag vs 2) (ag vs 3) H)) (
 AQ (Sh.ff AC r_4 on_5 (.int .i64 3) (.int .i64 0) (.int .i64 0) H12) fun x60 H61 =>
 (Ag r_4).bind fun x62 =>
 (Ac 6 x62).bind fun x63 =>
 bC (Ad false 1 x63 H61) (fun x64 => Ad false 1 x63 H12 = some x64 ∧ True) fun x64 =>
 (Ay (some [(.int .i64 0), (.int .i64 0)]) [(0, 1, x60), (1, 1, (.int .i64 3))]).bind fun x65 =>
 (A9 2 [x65]).bind fun x66 =>
 AQ (B4 (AA Dl 2 16 x64 x66 H61)) fun x67 H68 =>
 (Ag r_4).bind fun x69 =>
 (Ac 6 x69).bind fun x70 =>
 bK H0 (Au (Af 1 x70 x67 H68)) fun _ H72 =>
 rK H0 (.tup []) H72)
noncomputable def Sh.f26 (r_1 : Ab) (H0 : Aa) : Out :=
 Ap (A3 (some [(.bool false), (.bool false), (.bool false), (.bool false), (.bool false), (.bool false), (.bool false), (.bool false), (.bool false), (.bool false), (.bool false), (.bool false), (.bool false), (.bool false), (.bool false), (.bool false), (.bool false), (.bool false), (.bool false), (.bool false), (.bool false), (.bool false), (.bool false), (.bool false), (.bool false), (.bool false), (.bool false), (.bool false), (.bool false), (.bool false), (.bool false), (.bool false), (.bool false), (.bool false), (.bool false), (.bool false), (.bool false), (.bool false), (.bool false), (.bool false), (.bool false), (.bool false), (.bool false), (.bool false), (.bool false), (.bool false), (.bool false), (.bool false), (.bool false), (.bool false), (.bool false), (.bool false), (.bool false), (.bool false), (.bool false), (.bool false), (.bool false), (.bool false), (.bool false), (.bool false), (.bool false), (.bool false), (.bool false), (.bool false)]) H0) fun on_2 H3 =>
 Ao (fun rec1 vs H => Sh.f3u H0 rec1 (ag vs 0) (ag vs 1) (ag vs 2) (ag vs 3) H) AC [r_1, on_2, (.int .i64 0), (.int .i64 0)] H3
noncomputable def Sh.f66 (H0 : Aa) (rec2 : LK) (r_11 n_12 : Ab) (H13 : Aa) : Out :=
 (Ag r_11).bind fun x14 =>
 (Ac 0 x14).bind fun x15 =>
 (Ac 1 x15).bind fun x16 =>
 (Ad false 1 x16 H13).bind fun x17 =>
 (Ae .none .add x17 (.int .i64 1)).bind fun x18 =>
 (Ag r_11).bind fun x19 =>
 (Ac 0 x19).bind fun x20 =>
 (Ac 1 x20).bind fun x21 =>
 bK H0 (Au (Af 1 x21 x18 H13)) fun _ H23 =>
 rec2 [r_11, n_12] H23
noncomputable def Sh.f58 (H0 : Aa) (rec2 : LK) (r_4 n_5 : Ab) (H6 : Aa) : Out :=
 (Ag r_4).bind fun x7 =>
 (Ac 0 x7).bind fun x8 =>
 bK H0 (Sh.f0 x8 (.str [48, 49, 50, 51, 52, 53, 54, 55, 56, 57]) H6) fun x9 H10 =>
 Aj x9 (
 AJ (fun j3 =>
 (Ae .none .mul (.int .i64 10) n_5).bind fun x24 =>
 (Ag r_4).bind fun x25 =>
 (Ac 0 x25).bind fun x26 =>
 (Ac 0 x26).bind fun x27 =>
 bC (Ad false 1 x27 H10) (fun _ => True) fun x28 =>
 (Ag r_4).bind fun x29 =>
 (Ac 0 x29).bind fun x30 =>
 (Ac 1 x30).bind fun x31 =>
 bC (Ad false 1 x31 H10) (fun _ => True) fun x32 =>
 (AW x28 x32).bind fun x33 =>
 (Ae .none .sub x33 (.int .u8 48)).bind fun x34 =>
 bC (AI .i64 x34) (fun _ => True) fun x35 =>
 (Ae .none .add x24 x35).bind fun x36 =>
 (Ae .none .gtr x36 (.int .i64 1329)).bind fun x37 =>
 Aj x37 (
 (Ag r_4).bind fun x38 =>
 (Ac 0 x38).bind fun x39 =>
 bK H0 (Sh.fb x39 H10) fun x40 H41 =>
 j3 [r_4, x36] H41) (
 j3 [r_4, x36] H10)) (fun vs H => Sh.f66 H0 rec2 (ag vs 0) (ag vs 1) H)) (
 (Ae .none .eql n_5 (.int .i64 0)).bind fun x42 =>
 Aj x42 (
 (Ag r_4).bind fun x43 =>
 (Ac 0 x43).bind fun x44 =>
 bK H0 (Sh.f1 x44 (.str []) H10) fun x45 H46 =>
 rK H0 n_5 H46) (
 rK H0 n_5 H10))
noncomputable def Sh.f67 (H0 : Aa) (r_2 : Ab) (H3 : Aa) : Out :=
 Ao (fun rec2 vs H => Sh.f58 H0 rec2 (ag vs 0) (ag vs 1) H) AC [r_2, (.int .i64 0)] H3
noncomputable def Sh.f27 (r_1 : Ab) (H0 : Aa) : Out :=
 AJ (fun j1 =>
 (Ag r_1).bind fun x47 =>
 (Ac 0 x47).bind fun x48 =>
 bK H0 (Sh.f0 x48 (.str [48]) H0) fun x49 H50 =>
 Aj x49 (
 (Ag r_1).bind fun x51 =>
 (Ac 0 x51).bind fun x52 =>
 bK H0 (Sh.f1 x52 (.str []) H50) fun x53 H54 =>
 j1 [r_1] H54) (
 j1 [r_1] H50)) (fun vs H => Sh.f67 H0 (ag vs 0) H)
noncomputable def Sh.fg (r_1 level_2 n_3 : Ab) (H0 : Aa) : Out :=
 (Ae .none .eql level_2 (.int .i64 1)).bind fun x4 =>
 Aj x4 (
 (Ae .none .leq n_3 (.int .i64 255)).bind fun x5 =>
 rK H0 x5 H0) (
 (Ae .none .eql n_3 (.int .i64 0)).bind fun x6 =>
 Aj x6 (
 rK H0 (.bool true) H0) (
 (Ag r_1).bind fun x7 =>
 (Ac 6 x7).bind fun x8 =>
 (Ad false 1 x8 H0).bind fun x9 =>
 (AH x9).bind fun x10 =>
 (Ae .none .leq n_3 x10).bind fun x11 =>
 gk x11 true (some r_1) fun x12 =>
 gk x11 true (Ag x12) fun x13 =>
 gk x11 true (Ac 6 x13) fun x14 =>
 gk x11 true (Ad false 1 x14 H0) fun x15 =>
 gk x11 true (some n_3) fun x16 =>
 gk x11 true (Ae .none .sub x16 (.int .i64 1)) fun x17 =>
 gk x11 true (A6 2 x15 x17) fun x18 =>
 gk x11 true (Ac 1 x18) fun x19 =>
 gk x11 true (Ad false 1 x19 H0) fun x20 =>
 gk x11 true (some level_2) fun x21 =>
 gk x11 true (Ae .none .sub x21 (.int .i64 1)) fun x22 =>
 gk x11 true (Ae .none .eql x20 x22) fun x23 =>
 (Ax x11 x23 (.bool false)).bind fun x24 =>
 rK H0 x24 H0))
noncomputable def Sh.f3v (H0 : Aa) (rec1 : LK) (rec2 : LK) (r_24 level_25 low_26 high_27 k_28 : Ab) (H29 : Aa) : Out :=
 (Ae .none .leq k_28 high_27).bind fun x30 =>
 gk x30 true (some k_28) fun x31 =>
 gk x30 true (some r_24) fun x32 =>
 gk x30 true (Ag x32) fun x33 =>
 gk x30 true (Ac 6 x33) fun x34 =>
 gk x30 true (Ad false 1 x34 H29) fun x35 =>
 gk x30 true (AH x35) fun x36 =>
 gk x30 true (Ae .none .leq x31 x36) fun x37 =>
 (Ax x30 x37 (.bool false)).bind fun x38 =>
 Aj x38 (
 bK H0 (Sh.fg r_24 level_25 k_28 H29) fun x39 H40 =>
 Aj x39 (
 rK H0 (.tup [k_28, (.bool true)]) H40) (
 (Ae .none .add k_28 (.int .i64 1)).bind fun x41 =>
 rec2 [r_24, level_25, low_26, high_27, x41] H40)) (
 (Ae .none .mul low_26 (.int .i64 10)).bind fun x42 =>
 (Ae .none .mul high_27 (.int .i64 10)).bind fun x43 =>
 (Ae .none .add x43 (.int .i64 9)).bind fun x44 =>
 rec1 [r_24, level_25, x42, x44] H29)
noncomputable def Sh.f59 (H0 : Aa) (rec1 : LK) (r_14 level_15 low_16 high_17 : Ab) (H18 : Aa) : Out :=
 (Ag r_14).bind fun x19 =>
 (Ac 6 x19).bind fun x20 =>
 (Ad false 1 x20 H18).bind fun x21 =>
 (AH x21).bind fun x22 =>
 (Ae .none .leq low_16 x22).bind fun x23 =>
 Aj x23 (
 Ao (fun rec2 vs H => Sh.f3v H0 rec1 rec2 (ag vs 0) (ag vs 1) (ag vs 2) (ag vs 3) (ag vs 4) H) AC [r_14, level_15, low_16, high_17, low_16] H18) (
 rK H0 (.tup [(.int .i64 0), (.bool false)]) H18)
noncomputable def Sh.f1i (r_1 level_2 n_3 : Ab) (H0 : Aa) : Out :=
 bK H0 (Sh.fg r_1 level_2 n_3 H0) fun x4 H5 =>
 gk x4 false (some n_3) fun x6 =>
 gk x4 false (Ae .none .eql x6 (.int .i64 0)) fun x7 =>
 (Ax x4 (.bool true) x7).bind fun x8 =>
 Aj x8 (
 bK H0 (Sh.fg r_1 level_2 n_3 H5) fun x9 H10 =>
 rK H0 (.tup [n_3, x9]) H10) (
 (Ae .none .mul n_3 (.int .i64 10)).bind fun x11 =>
 (Ae .none .mul n_3 (.int .i64 10)).bind fun x12 =>
 (Ae .none .add x12 (.int .i64 9)).bind fun x13 =>
 Ao (fun rec1 vs H => Sh.f59 H0 rec1 (ag vs 0) (ag vs 1) (ag vs 2) (ag vs 3) H) AC [r_1, level_2, x11, x13] H5)
noncomputable def Sh.f5a (H0 : Aa) (rec1 : LK) (x18 x19 x20 x21 x22 : Ab) (H23 : Aa) : Out :=
 (Ag x18).bind fun x24 =>
 (Ac 0 x24).bind fun x25 =>
 (Ac 1 x25).bind fun x26 =>
 (Ad false 1 x26 H23).bind fun x27 =>
 (Ae .none .add x27 (.int .i64 1)).bind fun x28 =>
 (Ag x18).bind fun x29 =>
 (Ac 0 x29).bind fun x30 =>
 (Ac 1 x30).bind fun x31 =>
 bK H0 (Au (Af 1 x31 x28 H23)) fun _ H33 =>
 rec1 [x18, x19, x20, x21, x22] H33
noncomputable def Sh.f5b (H0 : Aa) (j2 : LK) (x34 x35 x36 x37 x38 : Ab) (H39 : Aa) : Out :=
 (Ae .none .mul (.int .i64 10) x37).bind fun x40 =>
 (Ag x34).bind fun x41 =>
 (Ac 0 x41).bind fun x42 =>
 (Ac 0 x42).bind fun x43 =>
 bC (Ad false 1 x43 H39) (fun _ => True) fun x44 =>
 (Ag x34).bind fun x45 =>
 (Ac 0 x45).bind fun x46 =>
 (Ac 1 x46).bind fun x47 =>
 bC (Ad false 1 x47 H39) (fun _ => True) fun x48 =>
 (AW x44 x48).bind fun x49 =>
 (Ae .none .sub x49 (.int .u8 48)).bind fun x50 =>
 bC (AI .i64 x50) (fun _ => True) fun x51 =>
 (Ae .none .add x40 x51).bind fun x52 =>
 bK H0 (Sh.f1i x34 x35 x52 H39) fun x53 H54 =>
 (Ak 0 x53).bind fun x55 =>
 (Ak 1 x53).bind fun x56 =>
 (unA .not x56).bind fun x57 =>
 Aj x57 (
 (Ag x34).bind fun x58 =>
 (Ac 0 x58).bind fun x59 =>
 bK H0 (Sh.f1 x59 (.str []) H54) fun x60 H61 =>
 j2 [x34, x35, x36, x52, x38] H61) (
 j2 [x34, x35, x36, x52, x38] H54)
noncomputable def Sh.f3w (H0 : Aa) (x80 x81 x82 : Ab) (H83 : Aa) : Out :=
 (Ae .none .gtr x81 (.int .i64 1)).bind fun x84 =>
 gk x84 true (some x82) fun x85 =>
 gk x84 true (Ae .none .gtr x85 (.int .i64 0)) fun x86 =>
 (Ax x84 x86 (.bool false)).bind fun x87 =>
 Aj x87 (
 (Ag x80).bind fun x88 =>
 (Ac 6 x88).bind fun x89 =>
 (Ad false 1 x89 H83).bind fun x90 =>
 (Ae .none .sub x82 (.int .i64 1)).bind fun x91 =>
 (A6 2 x90 x91).bind fun x92 =>
 (Ac 0 x92).bind fun x93 =>
 (Ad false 1 x93 H83).bind fun x94 =>
 rK H0 x94 H83) (
 rK H0 x82 H83)
noncomputable def Sh.f68 (H0 : Aa) (x74 x75 x76 x77 x78 : Ab) (H79 : Aa) : Out :=
 AJ (fun j5 =>
 bK H0 (Sh.fg x74 x75 x77 H79) fun x95 H96 =>
 (unA .not x95).bind fun x97 =>
 Aj x97 (
 bK H0 (Sh.f1i x74 x75 x77 H96) fun x98 H99 =>
 (Ak 0 x98).bind fun x100 =>
 (Ak 1 x98).bind fun x101 =>
 AQ (Sh.f1p x100 H99) fun x102 H103 =>
 (Ag x74).bind fun x104 =>
 (Ac 0 x104).bind fun x105 =>
 (Ag x74).bind fun x106 =>
 (Ac 0 x106).bind fun x107 =>
 (Ac 1 x107).bind fun x108 =>
 bC (Ad false 1 x108 H103) (fun x109 => Ad false 1 x108 H99 = some x109 ∧ True) fun x109 =>
 (Ae .none .sub x109 x78).bind fun x110 =>
 (AS x102 (some x110) none).bind fun x111 =>
 (Ae .none .add x111 x76).bind fun x112 =>
 bK H0 (Sh.f1 x105 x112 H103) fun x113 H114 =>
 j5 [x74, x75, x77] H114) (
 j5 [x74, x75, x77] H96)) (fun vs H => Sh.f3w H0 (ag vs 0) (ag vs 1) (ag vs 2) H)
noncomputable def Sh.f5c (H0 : Aa) (rec1 : LK) (x8 x9 x10 x11 x12 : Ab) (H13 : Aa) : Out :=
 (Ag x8).bind fun x14 =>
 (Ac 0 x14).bind fun x15 =>
 bK H0 (Sh.f0 x15 (.str [48, 49, 50, 51, 52, 53, 54, 55, 56, 57]) H13) fun x16 H17 =>
 Aj x16 (
 AJ (fun j2 =>
 AJ (fun j3 =>
 (Ag x8).bind fun x62 =>
 (Ac 0 x62).bind fun x63 =>
 (Ac 1 x63).bind fun x64 =>
 (Ad false 1 x64 H17).bind fun x65 =>
 (Ae .none .gtr x65 x12).bind fun x66 =>
 gk x66 true (some x11) fun x67 =>
 gk x66 true (Ae .none .eql x67 (.int .i64 0)) fun x68 =>
 (Ax x66 x68 (.bool false)).bind fun x69 =>
 Aj x69 (
 (Ag x8).bind fun x70 =>
 (Ac 0 x70).bind fun x71 =>
 bK H0 (Sh.f1 x71 (.str []) H17) fun x72 H73 =>
 j3 [x8, x9, x10, x11, x12] H73) (
 j3 [x8, x9, x10, x11, x12] H17)) (fun vs H => Sh.f5b H0 j2 (ag vs 0) (ag vs 1) (ag vs 2) (ag vs 3) (ag vs 4) H)) (fun vs H => Sh.f5a H0 rec1 (ag vs 0) (ag vs 1) (ag vs 2) (ag vs 3) (ag vs 4) H)) (
 AJ (fun j4 =>
 (Ag x8).bind fun x115 =>
 (Ac 0 x115).bind fun x116 =>
 (Ac 1 x116).bind fun x117 =>
 (Ad false 1 x117 H17).bind fun x118 =>
 (Ae .none .eql x118 x12).bind fun x119 =>
 Aj x119 (
 (Ag x8).bind fun x120 =>
 (Ac 0 x120).bind fun x121 =>
 (Ae .none .add (.str [48]) x10).bind fun x122 =>
 bK H0 (Sh.f1 x121 x122 H17) fun x123 H124 =>
 j4 [x8, x9, x10, x11, x12] H124) (
 j4 [x8, x9, x10, x11, x12] H17)) (fun vs H => Sh.f68 H0 (ag vs 0) (ag vs 1) (ag vs 2) (ag vs 3) (ag vs 4) H))
noncomputable def Sh.f28 (x1 x2 x3 : Ab) (H0 : Aa) : Out :=
 (Ag x1).bind fun x4 =>
 (Ac 0 x4).bind fun x5 =>
 (Ac 1 x5).bind fun x6 =>
 bC (Ad false 1 x6 H0) (fun _ => True) fun x7 =>
 Ao (fun rec1 vs H => Sh.f5c H0 rec1 (ag vs 0) (ag vs 1) (ag vs 2) (ag vs 3) (ag vs 4) H) AC [x1, x2, x3, (.int .i64 0), x7] H0
noncomputable def Sh.f3x (H0 : Aa) (rec1 : LK) (r_9 n_10 rest_11 x12 : Ab) (H13 : Aa) : Out :=
 (Ae .none .lss x12 (.int .i64 4)).bind fun x14 =>
 Aj x14 (
 (Ag r_9).bind fun x15 =>
 (Ac 0 x15).bind fun x16 =>
 (Ae .none .add (.str [48]) rest_11).bind fun x17 =>
 bK H0 (Sh.f7 x16 (.str [32]) x17 H13) fun x18 H19 =>
 (Ac 0 n_10).bind fun x20 =>
 (Ad false 1 x20 H19).bind fun x21 =>
 bK H0 (Sh.f28 r_9 x21 rest_11 H19) fun x22 H23 =>
 (Ac 1 n_10).bind fun x24 =>
 (AY 4 1 x24 x12).bind fun x25 =>
 bK H0 (Au (Af 1 x25 x22 H23)) fun _ H27 =>
 (Be rest_11).bind fun x28 =>
 (GH ND (.int .i64 2) [x28]).bind fun x29 =>
 (AS rest_11 (some x29) none).bind fun x30 =>
 (Ae .none .add x12 (.int .i64 1)).bind fun x31 =>
 rec1 [r_9, n_10, x30, x31] H27) (
 bC (Ad true 5 n_10 H13) (fun _ => True) fun x32 =>
 AQ (Sh.fo r_9 x32 H13) fun x33 H34 =>
 (Ag r_9).bind fun x35 =>
 (Ac 6 x35).bind fun x36 =>
 bC (Ad false 1 x36 H34) (fun x37 => Ad false 1 x36 H13 = some x37 ∧ True) fun x37 =>
 (Ac 0 n_10).bind fun x38 =>
 bC (Ad false 1 x38 H34) (fun x39 => Ad false 1 x38 H13 = some x39 ∧ True) fun x39 =>
 (Ay (some [(.int .i64 0), (.int .i64 0)]) [(0, 1, x33), (1, 1, x39)]).bind fun x40 =>
 (A9 2 [x40]).bind fun x41 =>
 AQ (B4 (AA Dl 2 16 x37 x41 H34)) fun x42 H43 =>
 (Ag r_9).bind fun x44 =>
 (Ac 6 x44).bind fun x45 =>
 bK H0 (Au (Af 1 x45 x42 H43)) fun _ H47 =>
 rK H0 (.tup []) H47)
noncomputable def Sh.f29 (r_1 : Ab) (H0 : Aa) : Out :=
 bK H0 (Sh.f27 r_1 H0) fun x2 H3 =>
 (Ay (some [(.int .i64 0), (.int .i64 0), (.int .i64 0), (.int .i64 0), (.int .i64 0)]) [(0, 1, x2)]).bind fun x4 =>
 Ap (A3 (some [(.int .i64 0), (.int .i64 0), (.int .i64 0), (.int .i64 0), (.int .i64 0)]) H3) fun n_5 H6 =>
 bK H0 (Au (Af 5 n_5 x4 H6)) fun _ H8 =>
 Ao (fun rec1 vs H => Sh.f3x H0 rec1 (ag vs 0) (ag vs 1) (ag vs 2) (ag vs 3) H) AC [r_1, n_5, (.str [32, 48, 32, 48, 32, 48]), (.int .i64 0)] H8
noncomputable def Sh.f3y (H0 : Aa) (r_2 : Ab) (H3 : Aa) : Out :=
 (Ag r_2).bind fun x4 =>
 (Ac 0 x4).bind fun x5 =>
 bK H0 (Sh.fn x5 (.str []) H3) fun x6 H7 =>
 rK H0 (.tup []) H7
noncomputable def Sh.f2a (r_1 : Ab) (H0 : Aa) : Out :=
 AJ (fun j1 =>
 (Ag r_1).bind fun x8 =>
 (Ac 0 x8).bind fun x9 =>
 bK H0 (Sh.f0 x9 (.str [35]) H0) fun x10 H11 =>
 Aj x10 (
 bK H0 (Sh.f24 r_1 H11) fun x12 H13 =>
 j1 [r_1] H13) (
 (Ag r_1).bind fun x14 =>
 (Ac 0 x14).bind fun x15 =>
 AQ (Sh.f0 x15 (.str [46, 42, 36, 49, 50, 51, 52, 53, 54, 55, 56, 57]) H11) fun x16 H17 =>
 gk x16 true (some r_1) fun x18 =>
 gk x16 true (Ag x18) fun x19 =>
 gk x16 true (Ac 6 x19) fun x20 =>
 gkc x16 true (Ad false 1 x20 H17) (fun _ _ => True) fun x21 =>
 gk x16 true (AH x21) fun x22 =>
 gk x16 true (some r_1) fun x23 =>
 gk x16 true (Ag x23) fun x24 =>
 gk x16 true (Ac 2 x24) fun x25 =>
 gk x16 true (Ac 1 x25) fun x26 =>
 gkc x16 true (Ad false 1 x26 H17) (fun _ _ => True) fun x27 =>
 gk x16 true (Ae .none .geq x22 x27) fun x28 =>
 (Ax x16 x28 (.bool false)).bind fun x29 =>
 Aj x29 (
 (Ag r_1).bind fun x30 =>
 (Ac 0 x30).bind fun x31 =>
 bK H0 (Sh.fb x31 H17) fun x32 H33 =>
 j1 [r_1] H33) (
 (Ag r_1).bind fun x34 =>
 (Ac 0 x34).bind fun x35 =>
 bK H0 (Sh.f0 x35 (.str [46, 42, 36]) H17) fun x36 H37 =>
 Aj x36 (
 bK H0 (Sh.f26 r_1 H37) fun x38 H39 =>
 j1 [r_1] H39) (
 bK H0 (Sh.f29 r_1 H37) fun x40 H41 =>
 j1 [r_1] H41)))) (fun vs H => Sh.f3y H0 (ag vs 0) H)
noncomputable def Sh.f3z (H0 : Aa) (rec1 : LK) (r_14 : Ab) (H15 : Aa) : Out :=
 (Ag r_14).bind fun x16 =>
 (Ac 0 x16).bind fun x17 =>
 bK H0 (Sh.f4 x17 H15) fun x18 H19 =>
 (unA .not x18).bind fun x20 =>
 Aj x20 (
 bK H0 (Sh.f2a r_14 H19) fun x21 H22 =>
 rec1 [r_14] H22) (
 rK H0 (.tup []) H19)
noncomputable def Sh.f1j (r_1 : Ab) (H0 : Aa) : Out :=
 (Ag r_1).bind fun x2 =>
 (Ac 0 x2).bind fun x3 =>
 bK H0 (Sh.f7 x3 (.str [91, 77, 50, 93]) (.str []) H0) fun x4 H5 =>
 (Ag r_1).bind fun x6 =>
 (Ac 0 x6).bind fun x7 =>
 bK H0 (Sh.fz x7 H5) fun x8 H9 =>
 (Ag r_1).bind fun x10 =>
 (Ac 0 x10).bind fun x11 =>
 bK H0 (Sh.fn x11 (.str []) H9) fun x12 H13 =>
 Ao (fun rec1 vs H => Sh.f3z H0 rec1 (ag vs 0) H) AC [r_1] H13
noncomputable def Sh.f1k : Ab → Aa → Out := PU (ent 21 (ap1 Sh.f1j) noO)
noncomputable def Sh.f2b (l_1 i_2 c_3 : Ab) (H0 : Aa) : Out :=
 (A6 5 l_1 i_2).bind fun x4 =>
 (Ad true 5 x4 H0).bind fun x5 =>
 Ap (A3 (some [(.int .i64 0), (.int .i64 0), (.int .i64 0), (.int .i64 0), (.int .i64 0)]) H0) fun n_6 H7 =>
 bP H0 (Au (Af 5 n_6 x5 H7)) fun _ H9 =>
 (Ae .none .eql c_3 (.int .i64 0)).bind fun x10 =>
 Aj x10 (
 rP H0 (.bool true) H9) (
 (Ac 0 n_6).bind fun x11 =>
 (Ad false 1 x11 H9).bind fun x12 =>
 (Ae .none .eql x12 (.int .i64 1)).bind fun x13 =>
 Aj x13 (
 (Ae .none .gtr c_3 (.int .i64 0)).bind fun x14 =>
 gk x14 true (some c_3) fun x15 =>
 gk x14 true (Ae .none .leq x15 (.int .i64 255)) fun x16 =>
 (Ax x14 x16 (.bool false)).bind fun x17 =>
 rP H0 x17 H9) (
 (Ae .none .gtr c_3 (.int .i64 0)).bind fun x18 =>
 gk x18 true (some c_3) fun x19 =>
 gk x18 true (some i_2) fun x20 =>
 gk x18 true (Ae .none .leq x19 x20) fun x21 =>
 (Ax x18 x21 (.bool false)).bind fun x22 =>
 gk x22 true (some l_1) fun x23 =>
 gk x22 true (some c_3) fun x24 =>
 gk x22 true (Ae .none .sub x24 (.int .i64 1)) fun x25 =>
 gk x22 true (A6 5 x23 x25) fun x26 =>
 gk x22 true (Ac 0 x26) fun x27 =>
 gkc x22 true (Ad false 1 x27 H9) (fun _ _ => True) fun x28 =>
 gk x22 true (Ac 0 n_6) fun x29 =>
 gkc x22 true (Ad false 1 x29 H9) (fun _ _ => True) fun x30 =>
 gk x22 true (Ae .none .sub x30 (.int .i64 1)) fun x31 =>
 gk x22 true (Ae .none .eql x28 x31) fun x32 =>
 (Ax x22 x32 (.bool false)).bind fun x33 =>
 rP H0 x33 H9))
noncomputable def Sh.f40 (H0 : Aa) (rec1 : LK) (rec2 : LK) (l_24 i_25 x26 x27 x28 x29 x30 : Ab) (H31 : Aa) : Out :=
 (Ae .none .lss x30 (.int .i64 4)).bind fun x32 =>
 Aj x32 (
 (L3 false 4 1 x29 x30).bind fun x33 =>
 bP H0 (Sh.f2b l_24 i_25 x33 H31) fun x34 H35 =>
 (unA .not x34).bind fun x36 =>
 Aj x36 (
 rP H0 (.bool false) H35) (
 (Ae .none .add x30 (.int .i64 1)).bind fun x37 =>
 rec2 [l_24, i_25, x26, x27, x28, x29, x37] H35)) (
 (Ae .none .add x28 (.int .i64 1)).bind fun x38 =>
 rec1 [l_24, x26, x27, x38] H31)
noncomputable def Sh.f1l (H0 : Aa) (rec1 : LK) (l_3 x4 x5 x6 : Ab) (H7 : Aa) : Out :=
 (Ae .none .lss x6 x5).bind fun x8 =>
 Aj x8 (
 (A6 5 x4 x6).bind fun x9 =>
 (Ad true 5 x9 H7).bind fun x10 =>
 Ap (A3 (some [(.int .i64 0), (.int .i64 0), (.int .i64 0), (.int .i64 0), (.int .i64 0)]) H7) fun n_11 H12 =>
 bP H0 (Au (Af 5 n_11 x10 H12)) fun _ H14 =>
 (Ac 0 n_11).bind fun x15 =>
 (Ad false 1 x15 H14).bind fun x16 =>
 (Ae .none .lss x16 (.int .i64 1)).bind fun x17 =>
 gk x17 false (Ac 0 n_11) fun x18 =>
 gk x17 false (Ad false 1 x18 H14) fun x19 =>
 gk x17 false (Ae .none .gtr x19 (.int .i64 1329)) fun x20 =>
 (Ax x17 (.bool true) x20).bind fun x21 =>
 Aj x21 (
 rP H0 (.bool false) H14) (
 (Ac 1 n_11).bind fun x22 =>
 (Ad true 4 x22 H14).bind fun x23 =>
 Ao (fun rec2 vs H => Sh.f40 H0 rec1 rec2 (ag vs 0) (ag vs 1) (ag vs 2) (ag vs 3) (ag vs 4) (ag vs 5) (ag vs 6) H) AC [l_3, x6, x4, x5, x6, x23, (.int .i64 0)] H14)) (
 rP H0 (.bool true) H7)
noncomputable def Sh.f2c (l_1 : Ab) (H0 : Aa) : Out :=
 (AH l_1).bind fun x2 =>
 Ao (fun rec1 vs H => Sh.f1l H0 rec1 (ag vs 0) (ag vs 1) (ag vs 2) (ag vs 3) H) AC [l_1, l_1, x2, (.int .i64 0)] H0
noncomputable def Sh.f2d (s_1 : Ab) (H0 : Aa) : Out :=
 (nilA .eql s_1).bind fun x2 =>
 Aj x2 (
 rK H0 (.sl [] .tight) H0) (
 (A9 5 []).bind fun x3 =>
 bK H0 (B4 (AA At 5 40 x3 s_1 H0)) fun x4 H5 =>
 rK H0 x4 H5)
noncomputable def Sh.f3a (c_1 x2 x3 : Ab) (H0 : Aa) : Out :=
 (Ae .none .neq c_1 (.int .i64 0)).bind fun x4 =>
 gk x4 true (Ac 0 x2) fun x5 =>
 gk x4 true (Ad false 1 x5 H0) fun x6 =>
 gk x4 true (Ae .none .eql x6 (.int .i64 1)) fun x7 =>
 gk x4 true (some x7) fun x8 =>
 gk x8 false (Ad false 1 x3 H0) fun x9 =>
 gk x8 false (some c_1) fun x10 =>
 gk x8 false (A6 1 x9 x10) fun x11 =>
 gk x8 false (Ad false 1 x11 H0) fun x12 =>
 gk x4 true (Ax x8 (.bool true) x12) fun x13 =>
 (Ax x4 x13 (.bool false)).bind fun x14 =>
 rK H0 x14 H0
noncomputable def BN : Orc := (ent 110 (ap3 Sh.f3a) noO)
noncomputable def Sh.f41 (H0 : Aa) (rec1 : LK) (s_4 f_5 x6 x7 : Ab) (H8 : Aa) : Out :=
 (Ae .none .lss x7 x6).bind fun x9 =>
 Aj x9 (
 (A6 1 s_4 x7).bind fun x10 =>
 (Ad false 1 x10 H8).bind fun x11 =>
 bK H0 (Te BN f_5 [x11] H8) fun x12 H13 =>
 Aj x12 (
 rK H0 x7 H13) (
 (Ae .none .add x7 (.int .i64 1)).bind fun x14 =>
 rec1 [s_4, f_5, x6, x14] H13)) (
 rK H0 (.int .i64 (-1)) H8)
noncomputable def Sh.f3b (s_1 f_2 : Ab) (H0 : Aa) : Out :=
 (AH s_1).bind fun x3 =>
 Ao (fun rec1 vs H => Sh.f41 H0 rec1 (ag vs 0) (ag vs 1) (ag vs 2) (ag vs 3) H) AC [s_1, f_2, x3, (.int .i64 0)] H0
noncomputable def Sh.f2e (s_1 f_2 : Ab) (H0 : Aa) : Out :=
 bK H0 (Sh.f3b s_1 f_2 H0) fun x3 H4 =>
 (Ae .none .geq x3 (.int .i64 0)).bind fun x5 =>
 rK H0 x5 H4
noncomputable def Sh.f5d (H0 : Aa) (rec1 : LK) (out_11 x12 x13 x14 : Ab) (H15 : Aa) : Out :=
 (Ae .none .lss x14 x13).bind fun x16 =>
 Aj x16 (
 (A6 5 x12 x14).bind fun x17 =>
 (Ad true 5 x17 H15).bind fun x18 =>
 Ap (A3 (some [(.int .i64 0), (.int .i64 0), (.int .i64 0), (.int .i64 0), (.int .i64 0)]) H15) fun n_19 H20 =>
 bP H0 (Au (Af 5 n_19 x18 H20)) fun _ H22 =>
 (Ac 1 n_19).bind fun x23 =>
 (Hf 4 1 x23 none none).bind fun x24 =>
 AQ (Sh.f2e x24 (.fn 110 [n_19, out_11]) H22) fun x25 H26 =>
 bC (Ad false 1 out_11 H26) (fun x27 => Ad false 1 out_11 H22 = some x27 ∧ True) fun x27 =>
 (Ae .none .add x14 (.int .i64 1)).bind fun x28 =>
 (A6 1 x27 x28).bind fun x29 =>
 bP H0 (Au (Af 1 x29 x25 H26)) fun _ H31 =>
 (Ae .none .add x14 (.int .i64 1)).bind fun x32 =>
 rec1 [out_11, x12, x13, x32] H31) (
 (Ad false 1 out_11 H15).bind fun x33 =>
 rPN H0 x33 H15)
noncomputable def Sh.f10 (l_1 : Ab) (H0 : Aa) : Out :=
 (AH l_1).bind fun x2 =>
 (Ae .none .add x2 (.int .i64 1)).bind fun x3 =>
 Ap (Fu 1 1 (some [(.bool false)]) x3 x3 H0) fun x4 H5 =>
 Ap (A3 (some [(.sl [] .tight)]) H5) fun out_6 H7 =>
 bP H0 (Au (Af 1 out_6 x4 H7)) fun _ H9 =>
 (AH l_1).bind fun x10 =>
 Ao (fun rec1 vs H => Sh.f5d H0 rec1 (ag vs 0) (ag vs 1) (ag vs 2) (ag vs 3) H) AC [out_6, l_1, x10, (.int .i64 0)] H9
noncomputable def Sh.f2f (l_1 n_2 : Ab) (H0 : Aa) : Out :=
 bK H0 (Sh.f10 l_1 H0) fun x3 H4 =>
 (A6 1 x3 n_2).bind fun x5 =>
 (Ad false 1 x5 H4).bind fun x6 =>
 (unA .not x6).bind fun x7 =>
 rK H0 x7 H4
noncomputable def Sh.f42 (H0 : Aa) (rec1 : LK) (rec2 : LK) (x31 x32 x33 x34 x35 x36 x37 x38 : Ab) (H39 : Aa) : Out :=
 (Ae .none .lss x38 (.int .i64 4)).bind fun x40 =>
 Aj x40 (
 (L3 false 4 1 x37 x38).bind fun x41 =>
 (Ae .none .sub (.int .i64 3) x33).bind fun x42 =>
 (Ae .none .neq x38 x42).bind fun x43 =>
 gk x43 true (some x41) fun x44 =>
 gk x43 true (Ae .none .neq x44 (.int .i64 0)) fun x45 =>
 (Ax x43 x45 (.bool false)).bind fun x46 =>
 gk x46 true (some x31) fun x47 =>
 gk x46 true (some x34) fun x48 =>
 gk x46 true (Ae .none .sub x48 (.int .i64 1)) fun x49 =>
 gk x46 true (A6 5 x47 x49) fun x50 =>
 gk x46 true (Ac 0 x50) fun x51 =>
 gk x46 true (Ad false 1 x51 H39) fun x52 =>
 gk x46 true (Ae .none .eql x52 (.int .i64 1)) fun x53 =>
 gk x46 true (some x53) fun x54 =>
 gk x54 false (some x32) fun x55 =>
 gk x54 false (some x41) fun x56 =>
 gk x54 false (A6 1 x55 x56) fun x57 =>
 gk x54 false (Ad false 1 x57 H39) fun x58 =>
 gk x46 true (Ax x54 (.bool true) x58) fun x59 =>
 (Ax x46 x59 (.bool false)).bind fun x60 =>
 Aj x60 (
 rK H0 (.bool false) H39) (
 (Ae .none .add x38 (.int .i64 1)).bind fun x61 =>
 rec2 [x31, x32, x33, x34, x35, x36, x37, x61] H39)) (
 (Ae .none .add x36 (.int .i64 1)).bind fun x62 =>
 rec1 [x31, x32, x35, x62] H39)
noncomputable def Sh.f43 (H0 : Aa) (rec1 : LK) (x18 x19 x20 x21 : Ab) (H22 : Aa) : Out :=
 (Ae .none .lss x21 (.int .i64 4)).bind fun x23 =>
 Aj x23 (
 (L3 false 4 1 x20 x21).bind fun x24 =>
 (Ae .none .eql x24 (.int .i64 0)).bind fun x25 =>
 Aj x25 (
 (Ae .none .add x21 (.int .i64 1)).bind fun x26 =>
 rec1 [x18, x19, x20, x26] H22) (
 (Ae .none .sub x24 (.int .i64 1)).bind fun x27 =>
 (A6 5 x18 x27).bind fun x28 =>
 (Ac 1 x28).bind fun x29 =>
 (Ad true 4 x29 H22).bind fun x30 =>
 Ao (fun rec2 vs H => Sh.f42 H0 rec1 rec2 (ag vs 0) (ag vs 1) (ag vs 2) (ag vs 3) (ag vs 4) (ag vs 5) (ag vs 6) (ag vs 7) H) AC [x18, x19, x21, x24, x20, x21, x30, (.int .i64 0)] H22)) (
 rK H0 (.bool true) H22)
noncomputable def Sh.f2g (x1 x2 : Ab) (H0 : Aa) : Out :=
 (Ae .none .eql x2 (.int .i64 0)).bind fun x3 =>
 gk x3 false (some x1) fun x4 =>
 gk x3 false (some x2) fun x5 =>
 gk x3 false (Ae .none .sub x5 (.int .i64 1)) fun x6 =>
 gk x3 false (A6 5 x4 x6) fun x7 =>
 gk x3 false (Ac 0 x7) fun x8 =>
 gk x3 false (Ad false 1 x8 H0) fun x9 =>
 gk x3 false (Ae .none .eql x9 (.int .i64 1)) fun x10 =>
 (Ax x3 (.bool true) x10).bind fun x11 =>
 Aj x11 (
 rK H0 (.bool false) H0) (
 bK H0 (Sh.f10 x1 H0) fun x12 H13 =>
 (Ae .none .sub x2 (.int .i64 1)).bind fun x14 =>
 (A6 5 x1 x14).bind fun x15 =>
 (Ac 1 x15).bind fun x16 =>
 (Ad true 4 x16 H13).bind fun x17 =>
 Ao (fun rec1 vs H => Sh.f43 H0 rec1 (ag vs 0) (ag vs 1) (ag vs 2) (ag vs 3) H) AC [x1, x12, x17, (.int .i64 0)] H13)
noncomputable def Sh.f2h (l_1 n_2 k_3 : Ab) (H0 : Aa) : Out :=
 (Ae .none .sub n_2 (.int .i64 1)).bind fun x4 =>
 (A6 5 l_1 x4).bind fun x5 =>
 (Ac 1 x5).bind fun x6 =>
 (AY 4 1 x6 k_3).bind fun x7 =>
 (Ad false 1 x7 H0).bind fun x8 =>
 (Ae .none .gtr x8 (.int .i64 0)).bind fun x9 =>
 Aj x9 (
 (Ae .none .sub x8 (.int .i64 1)).bind fun x10 =>
 (Ae .none .sub (.int .i64 3) k_3).bind fun x11 =>
 (A6 5 l_1 x10).bind fun x12 =>
 (Ac 1 x12).bind fun x13 =>
 (AY 4 1 x13 x11).bind fun x14 =>
 (Ad false 1 x14 H0).bind fun x15 =>
 rK H0 x15 H0) (
 rK H0 (.int .i64 0) H0)
noncomputable def Sh.f44 (H0 : Aa) (rec1 : LK) (rec2 : LK) (l_22 n_23 x24 x25 : Ab) (H26 : Aa) : Out :=
 (Ae .none .lss x25 (.int .i64 4)).bind fun x27 =>
 Aj x27 (
 bP H0 (Sh.f2h l_22 n_23 x25 H26) fun x28 H29 =>
 (Ac 1 x24).bind fun x30 =>
 (AY 4 1 x30 x25).bind fun x31 =>
 bP H0 (Au (Af 1 x31 x28 H29)) fun _ H33 =>
 (Ae .none .add x25 (.int .i64 1)).bind fun x34 =>
 rec2 [l_22, n_23, x24, x34] H33) (
 (Ad true 5 x24 H26).bind fun x35 =>
 (A9 5 [x35]).bind fun x36 =>
 bP H0 (B4 (AA At 5 40 l_22 x36 H26)) fun x37 H38 =>
 (AH x37).bind fun x39 =>
 rec1 [x37, x39] H38)
noncomputable def Sh.f5e (H0 : Aa) (rec1 : LK) (l_7 n_8 : Ab) (H9 : Aa) : Out :=
 bP H0 (Sh.f2g l_7 n_8 H9) fun x10 H11 =>
 Aj x10 (
 (Ae .none .sub n_8 (.int .i64 1)).bind fun x12 =>
 (A6 5 l_7 x12).bind fun x13 =>
 (Ac 0 x13).bind fun x14 =>
 (Ad false 1 x14 H11).bind fun x15 =>
 (Ae .none .sub x15 (.int .i64 1)).bind fun x16 =>
 (Ay (some [(.int .i64 0), (.int .i64 0), (.int .i64 0), (.int .i64 0), (.int .i64 0)]) [(0, 1, x16)]).bind fun x17 =>
 Ap (A3 (some [(.int .i64 0), (.int .i64 0), (.int .i64 0), (.int .i64 0), (.int .i64 0)]) H11) fun x18 H19 =>
 bP H0 (Au (Af 5 x18 x17 H19)) fun _ H21 =>
 Ao (fun rec2 vs H => Sh.f44 H0 rec1 rec2 (ag vs 0) (ag vs 1) (ag vs 2) (ag vs 3) H) AC [l_7, n_8, x18, (.int .i64 0)] H21) (
 rPN H0 (.tup [l_7, n_8]) H11)
noncomputable def Sh.f2i (l_1 n_2 : Ab) (H0 : Aa) : Out :=
 bP H0 (Sh.f2d l_1 H0) fun x3 H4 =>
 bP H0 (Sh.f2f x3 n_2 H4) fun x5 H6 =>
 Aj x5 (
 rPN H0 (.tup [x3, (.int .i64 0)]) H6) (
 Ao (fun rec1 vs H => Sh.f5e H0 rec1 (ag vs 0) (ag vs 1) H) AC [x3, n_2] H6)
noncomputable def Sh.f2j (a_1 x2 : Ab) (H0 : Aa) : Out :=
 Ap (BP true 5 x2 H0) fun x3 H4 =>
 (Ac 1 x3).bind fun x5 =>
 (Ad true 4 x5 H4).bind fun x6 =>
 (Ay (some [(.int .i64 0), (.int .i64 0), (.int .i64 0), (.int .i64 0)]) []).bind fun x7 =>
 (Ae (.flat 4) .eql x6 x7).bind fun x8 =>
 Aj x8 (
 rK H0 (.int .i64 0) H4) (
 (Ag a_1).bind fun x9 =>
 (Ac 1 x9).bind fun x10 =>
 bC (Ad false 1 x10 H4) (fun _ => True) fun x11 =>
 bC (Ad true 5 x3 H4) (fun _ => True) fun x12 =>
 bC (DF true 5 (some (.int .i64 0)) true x11 x12 H4) (fun _ => True) fun x13 =>
 (Ak 0 x13).bind fun x14 =>
 (Ak 1 x13).bind fun x15 =>
 Aj x15 (
 rK H0 x14 H4) (
 (Ag a_1).bind fun x16 =>
 (Ac 0 x16).bind fun x17 =>
 bC (Ad false 1 x17 H4) (fun _ => True) fun x18 =>
 bC (Ad true 5 x3 H4) (fun _ => True) fun x19 =>
 (A9 5 [x19]).bind fun x20 =>
 AQ (B4 (AA At 5 40 x18 x20 H4)) fun x21 H22 =>
 (Ag a_1).bind fun x23 =>
 (Ac 0 x23).bind fun x24 =>
 bK H0 (Au (Af 1 x24 x21 H22)) fun _ H26 =>
 (Ag a_1).bind fun x27 =>
 (Ac 1 x27).bind fun x28 =>
 bC (Ad false 1 x28 H26) (fun _ => True) fun x29 =>
 bC (Ad true 5 x3 H26) (fun _ => True) fun x30 =>
 (Ag a_1).bind fun x31 =>
 (Ac 0 x31).bind fun x32 =>
 bC (Ad false 1 x32 H26) (fun _ => True) fun x33 =>
 (AH x33).bind fun x34 =>
 bK H0 (Au (CT true 5 x29 x30 x34 H26)) fun _ H36 =>
 (Ag a_1).bind fun x37 =>
 (Ac 0 x37).bind fun x38 =>
 (Ad false 1 x38 H36).bind fun x39 =>
 (AH x39).bind fun x40 =>
 rK H0 x40 H36))
noncomputable def F9 (self : Ab → Ab → Ab → Ab → Ab → Aa → Out) : Orc := ent 50 (ap5 self) (ent 51 (ap2 Sh.f2j) noO)
noncomputable def Sh.f45 (H0 : Aa) (n_18 x19 x20 x21 : Ab) (H22 : Aa) : Out :=
 (Ad false 1 x20 H22).bind fun x23 =>
 (Ad true 5 x21 H22).bind fun x24 =>
 bK H0 (Sh.f2j x23 x24 H22) fun x25 H26 =>
 (Ad false 1 x19 H26).bind fun x27 =>
 bK H0 (Au (CT false 1 x27 n_18 x25 H26)) fun _ H29 =>
 rK H0 x25 H29
noncomputable def Sh.f46 (H0 : Aa) (self : Ab → Ab → Ab → Ab → Ab → Aa → Out) (j1 : LK) (rec2 : LK) (n_35 x36 x37 x38 x39 x40 x41 : Ab) (H42 : Aa) : Out :=
 (Ae .none .lss x41 (.int .i64 4)).bind fun x43 =>
 Aj x43 (
 (L3 false 4 1 x40 x41).bind fun x44 =>
 (Ad false 1 x37 H42).bind fun x45 =>
 bK H0 (Te (F9 self) x45 [x44] H42) fun x46 H47 =>
 (Ac 1 x39).bind fun x48 =>
 (AY 4 1 x48 x41).bind fun x49 =>
 bK H0 (Au (Af 1 x49 x46 H47)) fun _ H51 =>
 (Ae .none .add x41 (.int .i64 1)).bind fun x52 =>
 rec2 [n_35, x36, x37, x38, x39, x40, x52] H51) (
 j1 [n_35, x36, x38, x39] H42)
noncomputable def Sh.f3c (self : Ab → Ab → Ab → Ab → Ab → Aa → Out) (n_1 x2 x3 x4 x5 : Ab) (H0 : Aa) : Out :=
 (Ad false 1 x2 H0).bind fun x6 =>
 (DF false 1 (some (.int .i64 0)) true x6 n_1 H0).bind fun x7 =>
 (Ak 0 x7).bind fun x8 =>
 (Ak 1 x7).bind fun x9 =>
 Aj x9 (
 rK H0 x8 H0) (
 (Ad false 1 x3 H0).bind fun x10 =>
 (Ae .none .sub n_1 (.int .i64 1)).bind fun x11 =>
 (A6 5 x10 x11).bind fun x12 =>
 (Ad true 5 x12 H0).bind fun x13 =>
 Ap (A3 (some [(.int .i64 0), (.int .i64 0), (.int .i64 0), (.int .i64 0), (.int .i64 0)]) H0) fun x14 H15 =>
 bK H0 (Au (Af 5 x14 x13 H15)) fun _ H17 =>
 AJ (fun j1 =>
 (Ac 0 x14).bind fun x30 =>
 (Ad false 1 x30 H17).bind fun x31 =>
 (Ae .none .gtr x31 (.int .i64 1)).bind fun x32 =>
 Aj x32 (
 (Ac 1 x14).bind fun x33 =>
 (Ad true 4 x33 H17).bind fun x34 =>
 Ao (fun rec2 vs H => Sh.f46 H0 self j1 rec2 (ag vs 0) (ag vs 1) (ag vs 2) (ag vs 3) (ag vs 4) (ag vs 5) (ag vs 6) H) AC [n_1, x2, x4, x5, x14, x34, (.int .i64 0)] H17) (
 j1 [n_1, x2, x5, x14] H17)) (fun vs H => Sh.f45 H0 (ag vs 0) (ag vs 1) (ag vs 2) (ag vs 3) H))
noncomputable def Sh.f8 : Nat → Ab → Ab → Ab → Ab → Ab → Aa → Out
 | 0 => fun _ _ _ _ _ _ => none
 | d + 1 => Sh.f3c (Sh.f8 d)
noncomputable def GS : Orc := (ent 48 (ap1 Sh.f2c) (ent 49 (ap2 Sh.f2i) (ent 50 (ap5 (Sh.f8 AC)) noO)))
noncomputable def Sh.f2k (l_1 n_2 : Ab) (H0 : Aa) : Out :=
 Ap (BP true 1 l_1 H0) fun l_3 H4 =>
 Ap (A3 (some [(.sl [] .tight)]) H4) fun x5 H6 =>
 (Ad false 1 l_3 H6).bind fun x7 =>
 bP H0 (Sh.f2c x7 H6) fun x8 H9 =>
 (unA .not x8).bind fun x10 =>
 gk x10 false (some n_2) fun x11 =>
 gk x10 false (Ae .none .lss x11 (.int .i64 0)) fun x12 =>
 (Ax x10 (.bool true) x12).bind fun x13 =>
 gk x13 false (some n_2) fun x14 =>
 gk x13 false (Ad false 1 l_3 H9) fun x15 =>
 gk x13 false (AH x15) fun x16 =>
 gk x13 false (Ae .none .gtr x14 x16) fun x17 =>
 (Ax x13 (.bool true) x17).bind fun x18 =>
 Aj x18 (
 (Ay (some [(.sl [] .tight)]) []).bind fun x19 =>
 bP H0 (Au (Af 1 x5 x19 H9)) fun _ H21 =>
 (BM [Ad true 1 x5 H21, some (.int .i64 1)]).bind fun x22 => rPN H0 x22 H21) (
 (Ad false 1 l_3 H9).bind fun x23 =>
 bP H0 (Sh.f2i x23 n_2 H9) fun x24 H25 =>
 (Ak 0 x24).bind fun x26 =>
 (Ak 1 x24).bind fun x27 =>
 bP H0 (Au (Af 1 l_3 x26 H25)) fun _ H29 =>
 Ap (Dj H29) fun x30 H31 =>
 (Ay (some [(.sl [] .tight), .nilmap]) [(1, 1, x30)]).bind fun x32 =>
 Ap (BP true 2 x32 H31) fun x33 H34 =>
 Ap (A3 (some [.nilp]) H34) fun a_35 H36 =>
 bP H0 (Au (Af 1 a_35 x33 H36)) fun _ H38 =>
 Ap (Dj H38) fun x39 H40 =>
 bP H0 (Au (CT false 1 x39 (.int .i64 0) (.int .i64 0) H40)) fun _ H42 =>
 Ap (A3 (some [.nilmap]) H42) fun done_43 H44 =>
 bP H0 (Au (Af 1 done_43 x39 H44)) fun _ H46 =>
 Ap (A3 (some [.nilfn]) H46) fun visit_47 H48 =>
 bP H0 (Au (Af 1 visit_47 (.fn 50 [done_43, l_3, visit_47, a_35]) H48)) fun _ H50 =>
 (Ad false 1 visit_47 H50).bind fun x51 =>
 bP H0 (Te GS x51 [x27] H50) fun x52 H53 =>
 (Ad false 1 a_35 H53).bind fun x54 =>
 (Ag x54).bind fun x55 =>
 (Ac 0 x55).bind fun x56 =>
 (Ad false 1 x56 H53).bind fun x57 =>
 (Ay (some [(.sl [] .tight)]) [(0, 1, x57)]).bind fun x58 =>
 bP H0 (Au (Af 1 x5 x58 H53)) fun _ H60 =>
 (BM [Ad true 1 x5 H60, some (.int .i64 0)]).bind fun x61 => rPN H0 x61 H60)
noncomputable def Sh.f5f (H0 : Aa) (x39 x40 x41 x42 x43 : Ab) (H44 : Aa) : Out :=
 (Ag x42).bind fun x45 =>
 (Ac 5 x45).bind fun x46 =>
 (Ad false 1 x46 H44).bind fun x47 =>
 bP H0 (Sh.f2k x47 x43 H44) fun x48 H49 =>
 (Ak 0 x48).bind fun x50 =>
 (Ak 1 x48).bind fun x51 =>
 Ap (A3 (some [(.sl [] .tight)]) H49) fun x52 H53 =>
 bP H0 (Au (Af 1 x52 x50 H53)) fun _ H55 =>
 (Ae .none .neq x51 (.int .i64 0)).bind fun x56 =>
 gk x56 false (Ac 0 x52) fun x57 =>
 gk x56 false (Ad false 1 x57 H55) fun x58 =>
 gk x56 false (AH x58) fun x59 =>
 gk x56 false (Ac 1 x40) fun x60 =>
 gk x56 false (Ad false 1 x60 H55) fun x61 =>
 gk x56 false (Ae .none .gtr x59 x61) fun x62 =>
 (Ax x56 (.bool true) x62).bind fun x63 =>
 Aj x63 (
 (Ay (some [(.str []), (.sl [] .tight)]) []).bind fun x64 =>
 (Be x39).bind fun x65 =>
 bP H0 (Au (Af 2 x41 x64 H55)) fun _ H67 =>
 (BM [Ad true 2 x41 H67, some x65, some (.int .i64 4)]).bind fun x68 => rPN H0 x68 H67) (
 (Ag x42).bind fun x69 =>
 (Ac 4 x69).bind fun x70 =>
 bC (Ad false 1 x70 H55) (fun _ => True) fun x71 =>
 bC (Ad true 1 x52 H55) (fun _ => True) fun x72 =>
 (Ay (some [(.str []), (.sl [] .tight)]) [(0, 1, x71), (1, 1, x72)]).bind fun x73 =>
 AQ (Au (Af 2 x41 x73 H55)) fun _ H75 =>
 (BM [Ad true 2 x41 H75, some (.int .i64 0), some (.int .i64 0)]).bind fun x76 => rPN H0 x76 H75)
noncomputable def Sh.fp (x1 x2 : Ab) (H0 : Aa) : Out :=
 Ap (BP true 2 x2 H0) fun x3 H4 =>
 Ap (A3 (some [(.str []), (.sl [] .tight)]) H4) fun x5 H6 =>
 (Ad true 2 x3 H6).bind fun x7 =>
 bP H0 (Sh.f1v x7 H6) fun x8 H9 =>
 (unA .not x8).bind fun x10 =>
 Aj x10 (
 (Ay (some [(.str []), (.sl [] .tight)]) []).bind fun x11 =>
 bP H0 (Au (Af 2 x5 x11 H9)) fun _ H13 =>
 (BM [Ad true 2 x5 H13, some (.int .i64 0), some (.int .i64 1)]).bind fun x14 => rPN H0 x14 H13) (
 (Ay (some [(.str []), (.int .i64 0)]) [(0, 1, x1)]).bind fun x15 =>
 (Ad true 2 x3 H9).bind fun x16 =>
 (Ay (some [(.str []), (.int .i64 0), (.int .i64 0), (.int .i64 0), (.str []), (.sl [] .tight), (.sl [] .tight)]) [(0, 2, x15), (2, 2, x16), (4, 1, (.str [66, 51, 47, 83, 50, 51]))]).bind fun x17 =>
 Ap (BP true 7 x17 H9) fun x18 H19 =>
 bP H0 (Sh.f1k (.bfn 21 [x18]) H19) fun x20 H21 =>
 Ap (A3 (some [(.int .i64 0), (.str [])]) H21) fun x22 H23 =>
 bP H0 (Au (Af 2 x22 x20 H23)) fun _ H25 =>
 (Ac 0 x22).bind fun x26 =>
 (Ad false 1 x26 H25).bind fun x27 =>
 (Ae .none .neq x27 (.int .i64 0)).bind fun x28 =>
 Aj x28 (
 (Ay (some [(.str []), (.sl [] .tight)]) []).bind fun x29 =>
 AQ (Au (Af 2 x5 x29 H25)) fun _ H31 =>
 (Ag x18).bind fun x32 =>
 (Ac 0 x32).bind fun x33 =>
 (Ac 1 x33).bind fun x34 =>
 bC (Ad false 1 x34 H31) (fun x35 => Ad false 1 x34 H25 = some x35 ∧ True) fun x35 =>
 (Ac 0 x22).bind fun x36 =>
 bC (Ad false 1 x36 H31) (fun x37 => Ad false 1 x36 H25 = some x37 ∧ True) fun x37 =>
 (BM [Ad true 2 x5 H31, some x35, some x37]).bind fun x38 => rPN H0 x38 H31) (
 AJ (fun j1 =>
 (Ag x18).bind fun x77 =>
 (Ac 6 x77).bind fun x78 =>
 (Ad false 1 x78 H25).bind fun x79 =>
 (AH x79).bind fun x80 =>
 (Ae .none .gtr x80 (.int .i64 0)).bind fun x81 =>
 Aj x81 (
 (Ag x18).bind fun x82 =>
 (Ac 6 x82).bind fun x83 =>
 bC (Ad false 1 x83 H25) (fun _ => True) fun x84 =>
 (Ag x18).bind fun x85 =>
 (Ac 6 x85).bind fun x86 =>
 bC (Ad false 1 x86 H25) (fun _ => True) fun x87 =>
 (AH x87).bind fun x88 =>
 (Ae .none .sub x88 (.int .i64 1)).bind fun x89 =>
 (A6 2 x84 x89).bind fun x90 =>
 (Ac 0 x90).bind fun x91 =>
 bC (Ad false 1 x91 H25) (fun _ => True) fun x92 =>
 j1 [x1, x3, x5, x18, x92] H25) (
 j1 [x1, x3, x5, x18, (.int .i64 0)] H25)) (fun vs H => Sh.f5f H0 (ag vs 0) (ag vs 1) (ag vs 2) (ag vs 3) (ag vs 4) H)))
noncomputable def Sh.f11 (c_1 : Ab) (H0 : Aa) : Out :=
 (Ae .none .geq c_1 (.int .u8 33)).bind fun x2 =>
 gk x2 true (some c_1) fun x3 =>
 gk x2 true (Ae .none .leq x3 (.int .u8 126)) fun x4 =>
 (Ax x2 x4 (.bool false)).bind fun x5 =>
 rK H0 x5 H0
noncomputable def Sh.f69 (H0 : Aa) (rec1 : LK) (s_2 i_3 : Ab) (H4 : Aa) : Out :=
 (Be s_2).bind fun x5 =>
 (Ae .none .lss i_3 x5).bind fun x6 =>
 Aj x6 (
 (AW s_2 i_3).bind fun x7 =>
 bK H0 (Sh.f11 x7 H4) fun x8 H9 =>
 (unA .not x8).bind fun x10 =>
 Aj x10 (
 rK H0 (.bool false) H9) (
 (Ae .none .add i_3 (.int .i64 1)).bind fun x11 =>
 rec1 [s_2, x11] H9)) (
 (Be s_2).bind fun x12 =>
 (Ae .none .geq x12 (.int .i64 1)).bind fun x13 =>
 gk x13 true (some s_2) fun x14 =>
 gk x13 true (Be x14) fun x15 =>
 gk x13 true (Ae .none .leq x15 (.int .i64 40)) fun x16 =>
 (Ax x13 x16 (.bool false)).bind fun x17 =>
 rK H0 x17 H4)
noncomputable def Sh.f2l (s_1 : Ab) (H0 : Aa) : Out :=
 Ao (fun rec1 vs H => Sh.f69 H0 rec1 (ag vs 0) (ag vs 1) H) AC [s_1, (.int .i64 0)] H0
noncomputable def Sh.f47 (H0 : Aa) (rec1 : LK) (rec2 : LK) (x18 x19 x20 : Ab) (H21 : Aa) : Out :=
 (Ae .none .lss x20 (.int .i64 4)).bind fun x22 =>
 Aj x22 (
 (A6 5 x18 x19).bind fun x23 =>
 (Ac 1 x23).bind fun x24 =>
 (AY 4 1 x24 x20).bind fun x25 =>
 (Ad false 1 x25 H21).bind fun x26 =>
 (Ae .none .lss x26 (.int .i64 0)).bind fun x27 =>
 gk x27 false (some x18) fun x28 =>
 gk x27 false (some x19) fun x29 =>
 gk x27 false (A6 5 x28 x29) fun x30 =>
 gk x27 false (Ac 0 x30) fun x31 =>
 gk x27 false (Ad false 1 x31 H21) fun x32 =>
 gk x27 false (Ae .none .eql x32 (.int .i64 1)) fun x33 =>
 gk x27 false (some x33) fun x34 =>
 gk x34 true (some x26) fun x35 =>
 gk x34 true (Ae .none .gtr x35 (.int .i64 255)) fun x36 =>
 gk x27 false (Ax x34 x36 (.bool false)) fun x37 =>
 (Ax x27 (.bool true) x37).bind fun x38 =>
 Aj x38 (
 rK H0 (.bool false) H21) (
 (A6 5 x18 x19).bind fun x39 =>
 (Ac 0 x39).bind fun x40 =>
 bC (Ad false 1 x40 H21) (fun _ => True) fun x41 =>
 (Ae .none .gtr x41 (.int .i64 1)).bind fun x42 =>
 gk x42 true (some x26) fun x43 =>
 gk x42 true (Ae .none .gtr x43 (.int .i64 0)) fun x44 =>
 (Ax x42 x44 (.bool false)).bind fun x45 =>
 gk x45 true (some x26) fun x46 =>
 gk x45 true (some x19) fun x47 =>
 gk x45 true (Ae .none .gtr x46 x47) fun x48 =>
 gk x45 true (some x48) fun x49 =>
 gk x49 false (some x18) fun x50 =>
 gk x49 false (some x26) fun x51 =>
 gk x49 false (Ae .none .sub x51 (.int .i64 1)) fun x52 =>
 gk x49 false (A6 5 x50 x52) fun x53 =>
 gk x49 false (Ac 0 x53) fun x54 =>
 gkc x49 false (Ad false 1 x54 H21) (fun _ _ => True) fun x55 =>
 gk x49 false (some x18) fun x56 =>
 gk x49 false (some x19) fun x57 =>
 gk x49 false (A6 5 x56 x57) fun x58 =>
 gk x49 false (Ac 0 x58) fun x59 =>
 gkc x49 false (Ad false 1 x59 H21) (fun _ _ => True) fun x60 =>
 gk x49 false (Ae .none .sub x60 (.int .i64 1)) fun x61 =>
 gk x49 false (Ae .none .neq x55 x61) fun x62 =>
 gk x45 true (Ax x49 (.bool true) x62) fun x63 =>
 (Ax x45 x63 (.bool false)).bind fun x64 =>
 Aj x64 (
 rK H0 (.bool false) H21) (
 (Ae .none .add x20 (.int .i64 1)).bind fun x65 =>
 rec2 [x18, x19, x65] H21))) (
 (Ae .none .add x19 (.int .i64 1)).bind fun x66 =>
 rec1 [x18, x66] H21)
noncomputable def Sh.f48 (H0 : Aa) (rec1 : LK) (x2 x3 : Ab) (H4 : Aa) : Out :=
 (AH x2).bind fun x5 =>
 (Ae .none .lss x3 x5).bind fun x6 =>
 Aj x6 (
 (A6 5 x2 x3).bind fun x7 =>
 (Ac 0 x7).bind fun x8 =>
 (Ad false 1 x8 H4).bind fun x9 =>
 (Ae .none .lss x9 (.int .i64 1)).bind fun x10 =>
 gk x10 false (some x2) fun x11 =>
 gk x10 false (some x3) fun x12 =>
 gk x10 false (A6 5 x11 x12) fun x13 =>
 gk x10 false (Ac 0 x13) fun x14 =>
 gk x10 false (Ad false 1 x14 H4) fun x15 =>
 gk x10 false (Ae .none .gtr x15 (.int .i64 1329)) fun x16 =>
 (Ax x10 (.bool true) x16).bind fun x17 =>
 Aj x17 (
 rK H0 (.bool false) H4) (
 Ao (fun rec2 vs H => Sh.f47 H0 rec1 rec2 (ag vs 0) (ag vs 1) (ag vs 2) H) AC [x2, x3, (.int .i64 0)] H4)) (
 rK H0 (.bool true) H4)
noncomputable def Sh.fh (x1 : Ab) (H0 : Aa) : Out :=
 Ao (fun rec1 vs H => Sh.f48 H0 rec1 (ag vs 0) (ag vs 1) H) AC [x1, (.int .i64 0)] H0
noncomputable def Sh.f49 (H0 : Aa) (rec1 : LK) (rec2 : LK) (l_15 out_16 i_17 empty_18 k_19 : Ab) (H20 : Aa) : Out :=
 (Ae .none .lss k_19 (.int .i64 4)).bind fun x21 =>
 Aj x21 (
 (A6 5 l_15 i_17).bind fun x22 =>
 (Ac 1 x22).bind fun x23 =>
 (AY 4 1 x23 k_19).bind fun x24 =>
 (Ad false 1 x24 H20).bind fun x25 =>
 gk empty_18 true (some x25) fun x26 =>
 gk empty_18 true (Ae .none .eql x26 (.int .i64 0)) fun x27 =>
 gk empty_18 true (some x27) fun x28 =>
 gk x28 false (some l_15) fun x29 =>
 gk x28 false (some i_17) fun x30 =>
 gk x28 false (A6 5 x29 x30) fun x31 =>
 gk x28 false (Ac 0 x31) fun x32 =>
 gk x28 false (Ad false 1 x32 H20) fun x33 =>
 gk x28 false (Ae .none .gtr x33 (.int .i64 1)) fun x34 =>
 gk x28 false (some x34) fun x35 =>
 gk x35 true (some out_16) fun x36 =>
 gk x35 true (some x25) fun x37 =>
 gk x35 true (A6 1 x36 x37) fun x38 =>
 gk x35 true (Ad false 1 x38 H20) fun x39 =>
 gk x28 false (Ax x35 x39 (.bool false)) fun x40 =>
 gk empty_18 true (Ax x28 (.bool true) x40) fun x41 =>
 (Ax empty_18 x41 (.bool false)).bind fun x42 =>
 (Ae .none .add k_19 (.int .i64 1)).bind fun x43 =>
 rec2 [l_15, out_16, i_17, x42, x43] H20) (
 (Ae .none .add i_17 (.int .i64 1)).bind fun x44 =>
 (A6 1 out_16 x44).bind fun x45 =>
 bP H0 (Au (Af 1 x45 empty_18 H20)) fun _ H47 =>
 (Ae .none .add i_17 (.int .i64 1)).bind fun x48 =>
 rec1 [l_15, out_16, x48] H47)
noncomputable def Sh.f4a (H0 : Aa) (rec1 : LK) (l_9 out_10 i_11 : Ab) (H12 : Aa) : Out :=
 (AH l_9).bind fun x13 =>
 (Ae .none .lss i_11 x13).bind fun x14 =>
 Aj x14 (
 Ao (fun rec2 vs H => Sh.f49 H0 rec1 rec2 (ag vs 0) (ag vs 1) (ag vs 2) (ag vs 3) (ag vs 4) H) AC [l_9, out_10, i_11, (.bool true), (.int .i64 0)] H12) (
 rPN H0 out_10 H12)
noncomputable def Sh.f9 (l_1 : Ab) (H0 : Aa) : Out :=
 (AH l_1).bind fun x2 =>
 (Ae .none .add x2 (.int .i64 1)).bind fun x3 =>
 Ap (Fu 1 1 (some [(.bool false)]) x3 x3 H0) fun x4 H5 =>
 (A6 1 x4 (.int .i64 0)).bind fun x6 =>
 bP H0 (Au (Af 1 x6 (.bool true) H5)) fun _ H8 =>
 Ao (fun rec1 vs H => Sh.f4a H0 rec1 (ag vs 0) (ag vs 1) (ag vs 2) H) AC [l_1, x4, (.int .i64 0)] H8
noncomputable def Sh.f3d (H0 : Aa) (rec1 : LK) (rec2 : LK) (x25 x26 x27 x28 x29 x30 : Ab) (H31 : Aa) : Out :=
 (Ae .none .lss x30 (.int .i64 4)).bind fun x32 =>
 gk x32 true (some x29) fun x33 =>
 gk x32 true (Ae .none .gtr x33 (.int .i64 0)) fun x34 =>
 (Ax x32 x34 (.bool false)).bind fun x35 =>
 Aj x35 (
 (Ae .none .sub x29 (.int .i64 1)).bind fun x36 =>
 (A6 5 x25 x36).bind fun x37 =>
 (Ac 1 x37).bind fun x38 =>
 (AY 4 1 x38 x30).bind fun x39 =>
 (Ad false 1 x39 H31).bind fun x40 =>
 (Ae .none .sub (.int .i64 3) x28).bind fun x41 =>
 (Ae .none .neq x30 x41).bind fun x42 =>
 gk x42 true (some x25) fun x43 =>
 gk x42 true (some x26) fun x44 =>
 gk x42 true (Ae .none .sub x44 (.int .i64 1)) fun x45 =>
 gk x42 true (A6 5 x43 x45) fun x46 =>
 gk x42 true (Ac 0 x46) fun x47 =>
 gk x42 true (Ad false 1 x47 H31) fun x48 =>
 gk x42 true (Ae .none .eql x48 (.int .i64 2)) fun x49 =>
 gk x42 true (some x49) fun x50 =>
 gk x50 true (some x40) fun x51 =>
 gk x50 true (Ae .none .neq x51 (.int .i64 0)) fun x52 =>
 gk x42 true (Ax x50 x52 (.bool false)) fun x53 =>
 gk x42 true (some x53) fun x54 =>
 gk x54 false (some x25) fun x55 =>
 gk x54 false (some x26) fun x56 =>
 gk x54 false (Ae .none .sub x56 (.int .i64 1)) fun x57 =>
 gk x54 false (A6 5 x55 x57) fun x58 =>
 gk x54 false (Ac 0 x58) fun x59 =>
 gk x54 false (Ad false 1 x59 H31) fun x60 =>
 gk x54 false (Ae .none .gtr x60 (.int .i64 2)) fun x61 =>
 gk x54 false (some x61) fun x62 =>
 gk x62 true (some x27) fun x63 =>
 gk x62 true (some x40) fun x64 =>
 gk x62 true (A6 1 x63 x64) fun x65 =>
 gk x62 true (Ad false 1 x65 H31) fun x66 =>
 gk x62 true (unA .not x66) fun x67 =>
 gk x54 false (Ax x62 x67 (.bool false)) fun x68 =>
 gk x42 true (Ax x54 (.bool true) x68) fun x69 =>
 (Ax x42 x69 (.bool false)).bind fun x70 =>
 Aj x70 (
 rK H0 (.bool false) H31) (
 (Ae .none .add x30 (.int .i64 1)).bind fun x71 =>
 rec2 [x25, x26, x27, x28, x29, x71] H31)) (
 (Ae .none .add x28 (.int .i64 1)).bind fun x72 =>
 rec1 [x25, x26, x27, x72] H31)
noncomputable def Sh.f4b (H0 : Aa) (rec1 : LK) (x14 x15 x16 x17 : Ab) (H18 : Aa) : Out :=
 (Ae .none .lss x17 (.int .i64 4)).bind fun x19 =>
 Aj x19 (
 (Ae .none .sub x15 (.int .i64 1)).bind fun x20 =>
 (A6 5 x14 x20).bind fun x21 =>
 (Ac 1 x21).bind fun x22 =>
 (AY 4 1 x22 x17).bind fun x23 =>
 (Ad false 1 x23 H18).bind fun x24 =>
 Ao (fun rec2 vs H => Sh.f3d H0 rec1 rec2 (ag vs 0) (ag vs 1) (ag vs 2) (ag vs 3) (ag vs 4) (ag vs 5) H) AC [x14, x15, x16, x17, x24, (.int .i64 0)] H18) (
 rK H0 (.bool true) H18)
noncomputable def Sh.f12 (x1 x2 : Ab) (H0 : Aa) : Out :=
 (Ae .none .eql x2 (.int .i64 0)).bind fun x3 =>
 gk x3 false (some x1) fun x4 =>
 gk x3 false (some x2) fun x5 =>
 gk x3 false (Ae .none .sub x5 (.int .i64 1)) fun x6 =>
 gk x3 false (A6 5 x4 x6) fun x7 =>
 gk x3 false (Ac 0 x7) fun x8 =>
 gk x3 false (Ad false 1 x8 H0) fun x9 =>
 gk x3 false (Ae .none .lss x9 (.int .i64 2)) fun x10 =>
 (Ax x3 (.bool true) x10).bind fun x11 =>
 Aj x11 (
 rK H0 (.bool false) H0) (
 bK H0 (Sh.f9 x1 H0) fun x12 H13 =>
 Ao (fun rec1 vs H => Sh.f4b H0 rec1 (ag vs 0) (ag vs 1) (ag vs 2) (ag vs 3) H) AC [x1, x2, x12, (.int .i64 0)] H13)
noncomputable def Sh.f3e (H0 : Aa) (rec2 : LK) (l_21 n_22 out_23 k_24 : Ab) (H25 : Aa) : Out :=
 (Ae .none .add k_24 (.int .i64 1)).bind fun x26 =>
 rec2 [l_21, n_22, out_23, x26] H25
noncomputable def Sh.f4c (H0 : Aa) (self : Ab → Ab → Ab → Aa → Out) (rec2 : LK) (l_15 n_16 out_17 k_18 : Ab) (H19 : Aa) : Out :=
 (Ae .none .lss k_18 (.int .i64 4)).bind fun x20 =>
 Aj x20 (
 AJ (fun j3 =>
 (Ae .none .sub n_16 (.int .i64 1)).bind fun x27 =>
 (A6 5 l_15 x27).bind fun x28 =>
 (Ac 0 x28).bind fun x29 =>
 (Ad false 1 x29 H19).bind fun x30 =>
 (Ae .none .gtr x30 (.int .i64 1)).bind fun x31 =>
 gk x31 true (some l_15) fun x32 =>
 gk x31 true (some n_16) fun x33 =>
 gk x31 true (Ae .none .sub x33 (.int .i64 1)) fun x34 =>
 gk x31 true (some k_18) fun x35 =>
 gk x31 true (A6 5 x32 x34) fun x36 =>
 gk x31 true (Ac 1 x36) fun x37 =>
 gk x31 true (AY 4 1 x37 x35) fun x38 =>
 gk x31 true (Ad false 1 x38 H19) fun x39 =>
 gk x31 true (Ae .none .gtr x39 (.int .i64 0)) fun x40 =>
 (Ax x31 x40 (.bool false)).bind fun x41 =>
 Aj x41 (
 (Ae .none .sub n_16 (.int .i64 1)).bind fun x42 =>
 (A6 5 l_15 x42).bind fun x43 =>
 (Ac 1 x43).bind fun x44 =>
 (AY 4 1 x44 k_18).bind fun x45 =>
 (Ad false 1 x45 H19).bind fun x46 =>
 bK H0 (self l_15 x46 out_17 H19) fun x47 H48 =>
 j3 [l_15, n_16, x47, k_18] H48) (
 j3 [l_15, n_16, out_17, k_18] H19)) (fun vs H => Sh.f3e H0 rec2 (ag vs 0) (ag vs 1) (ag vs 2) (ag vs 3) H)) (
 (A9 1 [n_16]).bind fun x49 =>
 bK H0 (B4 (AA Cp 1 8 out_17 x49 H19)) fun x50 H51 =>
 rK H0 x50 H51)
noncomputable def Sh.f4d (H0 : Aa) (self : Ab → Ab → Ab → Aa → Out) (rec1 : LK) (l_4 n_5 out_6 i_7 : Ab) (H8 : Aa) : Out :=
 (AH out_6).bind fun x9 =>
 (Ae .none .lss i_7 x9).bind fun x10 =>
 Aj x10 (
 (A6 1 out_6 i_7).bind fun x11 =>
 (Ad false 1 x11 H8).bind fun x12 =>
 (Ae .none .eql x12 n_5).bind fun x13 =>
 Aj x13 (
 rK H0 out_6 H8) (
 (Ae .none .add i_7 (.int .i64 1)).bind fun x14 =>
 rec1 [l_4, n_5, out_6, x14] H8)) (
 Ao (fun rec2 vs H => Sh.f4c H0 self rec2 (ag vs 0) (ag vs 1) (ag vs 2) (ag vs 3) H) AC [l_4, n_5, out_6, (.int .i64 0)] H8)
noncomputable def Sh.f5g (self : Ab → Ab → Ab → Aa → Out) (l_1 n_2 out_3 : Ab) (H0 : Aa) : Out :=
 Ao (fun rec1 vs H => Sh.f4d H0 self rec1 (ag vs 0) (ag vs 1) (ag vs 2) (ag vs 3) H) AC [l_1, n_2, out_3, (.int .i64 0)] H0
noncomputable def Sh.fc : Nat → Ab → Ab → Ab → Aa → Out
 | 0 => fun _ _ _ _ => none
 | d + 1 => Sh.f5g (Sh.fc d)
noncomputable def Sh.f4e (H0 : Aa) (rec1 : LK) (rec2 : LK) (x28 x29 x30 x31 : Ab) (H32 : Aa) : Out :=
 (Ae .none .lss x31 x30).bind fun x33 =>
 Aj x33 (
 (A6 5 x28 x30).bind fun x34 =>
 bC (Ad true 5 x34 H32) (fun _ => True) fun x35 =>
 (A6 5 x28 x31).bind fun x36 =>
 bC (Ad true 5 x36 H32) (fun _ => True) fun x37 =>
 (Ae (.flat 5) .eql x35 x37).bind fun x38 =>
 Aj x38 (
 rP H0 (.bool false) H32) (
 (Ae .none .add x31 (.int .i64 1)).bind fun x39 =>
 rec2 [x28, x29, x30, x39] H32)) (
 (Ae .none .add x30 (.int .i64 1)).bind fun x40 =>
 rec1 [x28, x29, x40] H32)
noncomputable def Sh.f4f (H0 : Aa) (rec3 : LK) (x44 x45 x46 : Ab) (H47 : Aa) : Out :=
 (AH x45).bind fun x48 =>
 (Ae .none .lss x46 x48).bind fun x49 =>
 Aj x49 (
 (A6 1 x45 x46).bind fun x50 =>
 (Ad false 1 x50 H47).bind fun x51 =>
 (Ae .none .add x46 (.int .i64 1)).bind fun x52 =>
 (Ae .none .neq x51 x52).bind fun x53 =>
 Aj x53 (
 rP H0 (.bool false) H47) (
 (Ae .none .add x46 (.int .i64 1)).bind fun x54 =>
 rec3 [x44, x45, x54] H47)) (
 (AH x45).bind fun x55 =>
 (AH x44).bind fun x56 =>
 (Ae .none .eql x55 x56).bind fun x57 =>
 rP H0 x57 H47)
noncomputable def Sh.f4g (H0 : Aa) (rec1 : LK) (x19 x20 x21 : Ab) (H22 : Aa) : Out :=
 (AH x19).bind fun x23 =>
 (Ae .none .lss x21 x23).bind fun x24 =>
 Aj x24 (
 (Ae .none .add x21 (.int .i64 1)).bind fun x25 =>
 (A6 1 x20 x25).bind fun x26 =>
 (Ad false 1 x26 H22).bind fun x27 =>
 Aj x27 (
 rP H0 (.bool false) H22) (
 Ao (fun rec2 vs H => Sh.f4e H0 rec1 rec2 (ag vs 0) (ag vs 1) (ag vs 2) (ag vs 3) H) AC [x19, x20, x21, (.int .i64 0)] H22)) (
 (AH x19).bind fun x41 =>
 bP H0 (Sh.fc AC x19 x41 (.sl [] .tight) H22) fun x42 H43 =>
 Ao (fun rec3 vs H => Sh.f4f H0 rec3 (ag vs 0) (ag vs 1) (ag vs 2) H) AC [x19, x42, (.int .i64 0)] H43)
noncomputable def Sh.f2m (x1 : Ab) (H0 : Aa) : Out :=
 Ap (BP true 1 x1 H0) fun x2 H3 =>
 (Ac 0 x2).bind fun x4 =>
 (Ad false 1 x4 H3).bind fun x5 =>
 (AH x5).bind fun x6 =>
 (Ae .none .eql x6 (.int .i64 0)).bind fun x7 =>
 Aj x7 (
 rP H0 (.bool true) H3) (
 bP H0 (Sh.fh x5 H3) fun x8 H9 =>
 (unA .not x8).bind fun x10 =>
 gk x10 false (some x5) fun x11 =>
 gk x10 false (some x5) fun x12 =>
 gk x10 false (AH x12) fun x13 =>
 gbP H0 x10 false H9 (Sh.f12 x11 x13 H9) fun x14 H15 =>
 (Ax x10 (.bool true) x14).bind fun x16 =>
 Aj x16 (
 rP H0 (.bool false) H15) (
 bP H0 (Sh.f9 x5 H15) fun x17 H18 =>
 Ao (fun rec1 vs H => Sh.f4g H0 rec1 (ag vs 0) (ag vs 1) (ag vs 2) H) AC [x5, x17, (.int .i64 0)] H18))
noncomputable def Sh.f13 (p_1 : Ab) (H0 : Aa) : Out :=
 Ap (BP true 2 p_1 H0) fun p_2 H3 =>
 (Ac 0 p_2).bind fun x4 =>
 (Ad false 1 x4 H3).bind fun x5 =>
 bP H0 (Sh.f2l x5 H3) fun x6 H7 =>
 gk x6 true (Ac 1 p_2) fun x8 =>
 gk x6 true (Ad true 1 x8 H7) fun x9 =>
 gbP H0 x6 true H7 (Sh.f2m x9 H7) fun x10 H11 =>
 (Ax x6 x10 (.bool false)).bind fun x12 =>
 rP H0 x12 H11
noncomputable def Sh.f3f (H0 : Aa) (rec1 : LK) (rec2 : LK) (q_12 most_13 i_14 k_15 : Ab) (H16 : Aa) : Out :=
 (Ae .none .lss k_15 (.int .i64 4)).bind fun x17 =>
 gk x17 true (Ac 0 q_12) fun x18 =>
 gk x17 true (Ad false 1 x18 H16) fun x19 =>
 gk x17 true (some i_14) fun x20 =>
 gk x17 true (A6 5 x19 x20) fun x21 =>
 gk x17 true (Ac 0 x21) fun x22 =>
 gk x17 true (Ad false 1 x22 H16) fun x23 =>
 gk x17 true (Ae .none .eql x23 (.int .i64 1)) fun x24 =>
 (Ax x17 x24 (.bool false)).bind fun x25 =>
 Aj x25 (
 (Ac 0 q_12).bind fun x26 =>
 (Ad false 1 x26 H16).bind fun x27 =>
 (A6 5 x27 i_14).bind fun x28 =>
 (Ac 1 x28).bind fun x29 =>
 (AY 4 1 x29 k_15).bind fun x30 =>
 (Ad false 1 x30 H16).bind fun x31 =>
 (GH QP most_13 [x31]).bind fun x32 =>
 (Ae .none .add k_15 (.int .i64 1)).bind fun x33 =>
 rec2 [q_12, x32, i_14, x33] H16) (
 (Ae .none .add i_14 (.int .i64 1)).bind fun x34 =>
 rec1 [q_12, most_13, x34] H16)
noncomputable def Sh.f4h (H0 : Aa) (rec1 : LK) (q_4 most_5 i_6 : Ab) (H7 : Aa) : Out :=
 (Ac 0 q_4).bind fun x8 =>
 (Ad false 1 x8 H7).bind fun x9 =>
 (AH x9).bind fun x10 =>
 (Ae .none .lss i_6 x10).bind fun x11 =>
 Aj x11 (
 Ao (fun rec2 vs H => Sh.f3f H0 rec1 rec2 (ag vs 0) (ag vs 1) (ag vs 2) (ag vs 3) H) AC [q_4, most_5, i_6, (.int .i64 0)] H7) (
 (AI .u8 most_5).bind fun x35 =>
 rP H0 x35 H7)
noncomputable def Sh.f1m (q_1 : Ab) (H0 : Aa) : Out :=
 Ap (BP true 1 q_1 H0) fun q_2 H3 =>
 Ao (fun rec1 vs H => Sh.f4h H0 rec1 (ag vs 0) (ag vs 1) (ag vs 2) H) AC [q_2, (.int .i64 0), (.int .i64 0)] H3
noncomputable def Sh.f14 (q_1 : Ab) (H0 : Aa) : Out :=
 Ap (BP true 1 q_1 H0) fun q_2 H3 =>
 (Ac 0 q_2).bind fun x4 =>
 (Ad false 1 x4 H3).bind fun x5 =>
 (AH x5).bind fun x6 =>
 (Ae .none .eql x6 (.int .i64 0)).bind fun x7 =>
 Aj x7 (
 rP H0 (.int .i64 0) H3) (
 (Ac 0 q_2).bind fun x8 =>
 (Ad false 1 x8 H3).bind fun x9 =>
 (Ac 0 q_2).bind fun x10 =>
 (Ad false 1 x10 H3).bind fun x11 =>
 (AH x11).bind fun x12 =>
 (Ae .none .sub x12 (.int .i64 1)).bind fun x13 =>
 (A6 5 x9 x13).bind fun x14 =>
 (Ac 0 x14).bind fun x15 =>
 (Ad false 1 x15 H3).bind fun x16 =>
 rP H0 x16 H3)
noncomputable def Sh.f5h (H0 : Aa) (rec2 : LK) (x41 x42 x43 x44 x45 : Ab) (H46 : Aa) : Out :=
 (Ae .none .add x45 (.int .i64 1)).bind fun x47 =>
 rec2 [x41, x42, x43, x44, x47] H46
noncomputable def Sh.f2n (H0 : Aa) (rec1 : LK) (rec2 : LK) (x34 x35 x36 x37 x38 : Ab) (H39 : Aa) : Out :=
 (Ae .none .lss x38 (.int .i64 4)).bind fun x40 =>
 Aj x40 (
 AJ (fun j3 =>
 (Ae .none .sub x36 (.int .i64 1)).bind fun x48 =>
 (A6 5 x35 x48).bind fun x49 =>
 (Ac 1 x49).bind fun x50 =>
 (AY 4 1 x50 x38).bind fun x51 =>
 (Ad false 1 x51 H39).bind fun x52 =>
 (Ae .none .eql x52 (.int .i64 0)).bind fun x53 =>
 Aj x53 (
 j3 [x34, x35, x36, x37, x38] H39) (
 (Ae .none .sub x36 (.int .i64 1)).bind fun x54 =>
 (A6 5 x35 x54).bind fun x55 =>
 (Ac 0 x55).bind fun x56 =>
 (Ad false 1 x56 H39).bind fun x57 =>
 (Ay (some [(.int .i64 0), (.int .i64 0), (.int .i64 0), (.int .i64 0), (.int .i64 0)]) [(0, 1, x57)]).bind fun x58 =>
 Ap (A3 (some [(.int .i64 0), (.int .i64 0), (.int .i64 0), (.int .i64 0), (.int .i64 0)]) H39) fun x59 H60 =>
 bP H0 (Au (Af 5 x59 x58 H60)) fun _ H62 =>
 (Ae .none .sub (.int .i64 3) x38).bind fun x63 =>
 (Ac 1 x59).bind fun x64 =>
 (AY 4 1 x64 x63).bind fun x65 =>
 bP H0 (Au (Af 1 x65 x52 H62)) fun _ H67 =>
 (Ad true 5 x59 H67).bind fun x68 =>
 (A9 5 [x68]).bind fun x69 =>
 bP H0 (B4 (AA At 5 40 x35 x69 H67)) fun x70 H71 =>
 (AH x70).bind fun x72 =>
 (Ac 1 x37).bind fun x73 =>
 (AY 4 1 x73 x38).bind fun x74 =>
 bP H0 (Au (Af 1 x74 x72 H71)) fun _ H76 =>
 j3 [x34, x70, x36, x37, x38] H76)) (fun vs H => Sh.f5h H0 rec2 (ag vs 0) (ag vs 1) (ag vs 2) (ag vs 3) (ag vs 4) H)) (
 (Ad true 5 x37 H39).bind fun x77 =>
 (A9 5 [x77]).bind fun x78 =>
 bP H0 (B4 (AA At 5 40 x35 x78 H39)) fun x79 H80 =>
 (AH x79).bind fun x81 =>
 rec1 [x34, x79, x81] H80)
noncomputable def Sh.f4i (H0 : Aa) (rec1 : LK) (x15 x16 x17 : Ab) (H18 : Aa) : Out :=
 (Ae .none .sub x17 (.int .i64 1)).bind fun x19 =>
 (A6 5 x16 x19).bind fun x20 =>
 (Ac 0 x20).bind fun x21 =>
 (Ad false 1 x21 H18).bind fun x22 =>
 (Ae .none .lss x22 x15).bind fun x23 =>
 Aj x23 (
 (Ae .none .sub x17 (.int .i64 1)).bind fun x24 =>
 (A6 5 x16 x24).bind fun x25 =>
 (Ac 0 x25).bind fun x26 =>
 (Ad false 1 x26 H18).bind fun x27 =>
 (Ae .none .add x27 (.int .i64 1)).bind fun x28 =>
 (Ay (some [(.int .i64 0), (.int .i64 0), (.int .i64 0), (.int .i64 0), (.int .i64 0)]) [(0, 1, x28)]).bind fun x29 =>
 Ap (A3 (some [(.int .i64 0), (.int .i64 0), (.int .i64 0), (.int .i64 0), (.int .i64 0)]) H18) fun x30 H31 =>
 bP H0 (Au (Af 5 x30 x29 H31)) fun _ H33 =>
 Ao (fun rec2 vs H => Sh.f2n H0 rec1 rec2 (ag vs 0) (ag vs 1) (ag vs 2) (ag vs 3) (ag vs 4) H) AC [x15, x16, x17, x30, (.int .i64 0)] H33) (
 rPN H0 (.tup [x16, x17]) H18)
noncomputable def Sh.f2o (x1 x2 : Ab) (H0 : Aa) : Out :=
 Ap (BP true 1 x1 H0) fun x3 H4 =>
 (A9 5 []).bind fun x5 =>
 (Ac 0 x3).bind fun x6 =>
 (Ad false 1 x6 H4).bind fun x7 =>
 bP H0 (B4 (AA At 5 40 x5 x7 H4)) fun x8 H9 =>
 (AH x8).bind fun x10 =>
 (Ae .none .gtr x2 (.int .i64 1329)).bind fun x11 =>
 gk x11 false (some x10) fun x12 =>
 gk x11 false (Ae .none .eql x12 (.int .i64 0)) fun x13 =>
 (Ax x11 (.bool true) x13).bind fun x14 =>
 Aj x14 (
 rPN H0 (.tup [x8, x10]) H9) (
 Ao (fun rec1 vs H => Sh.f4i H0 rec1 (ag vs 0) (ag vs 1) (ag vs 2) H) AC [x2, x8, x10] H9)
noncomputable def Sh.f4j (H0 : Aa) (self : Ab → Ab → Ab → Ab → Aa → Out) (rec1 : LK) (l_6 n_7 x8 y_9 half_10 k_11 : Ab) (H12 : Aa) : Out :=
 (Ae .none .sub n_7 (.int .i64 1)).bind fun x13 =>
 (A6 5 l_6 x13).bind fun x14 =>
 (Ac 0 x14).bind fun x15 =>
 (Ad false 1 x15 H12).bind fun x16 =>
 (Ae .none .lss k_11 x16).bind fun x17 =>
 Aj x17 (
 (Ae .none .mul half_10 (.int .i64 2)).bind fun x18 =>
 (Ae .none .add k_11 (.int .i64 1)).bind fun x19 =>
 rec1 [l_6, n_7, x8, y_9, x18, x19] H12) (
 (Ae .none .sub n_7 (.int .i64 1)).bind fun x20 =>
 (Ae .none .quo y_9 half_10).bind fun x21 =>
 (Ae .none .mul (.int .i64 2) x21).bind fun x22 =>
 (Ae .none .quo x8 half_10).bind fun x23 =>
 (Ae .none .add x22 x23).bind fun x24 =>
 (A6 5 l_6 x20).bind fun x25 =>
 (Ac 1 x25).bind fun x26 =>
 (AY 4 1 x26 x24).bind fun x27 =>
 bC (Ad false 1 x27 H12) (fun _ => True) fun x28 =>
 (Ae .none .sub n_7 (.int .i64 1)).bind fun x29 =>
 (A6 5 l_6 x29).bind fun x30 =>
 (Ac 0 x30).bind fun x31 =>
 (Ad false 1 x31 H12).bind fun x32 =>
 (Ae .none .eql x32 (.int .i64 1)).bind fun x33 =>
 Aj x33 (
 (Ae .none .gtr x28 (.int .i64 0)).bind fun x34 =>
 rK H0 x34 H12) (
 (Ae .none .rem x8 half_10).bind fun x35 =>
 (Ae .none .rem y_9 half_10).bind fun x36 =>
 AQ (self l_6 x28 x35 x36 H12) fun x37 H38 =>
 rK H0 x37 H38))
noncomputable def Sh.f3g (self : Ab → Ab → Ab → Ab → Aa → Out) (l_1 n_2 x3 y_4 : Ab) (H0 : Aa) : Out :=
 (Ae .none .eql n_2 (.int .i64 0)).bind fun x5 =>
 Aj x5 (
 rK H0 (.bool false) H0) (
 Ao (fun rec1 vs H => Sh.f4j H0 self rec1 (ag vs 0) (ag vs 1) (ag vs 2) (ag vs 3) (ag vs 4) (ag vs 5) H) AC [l_1, n_2, x3, y_4, (.int .i64 1), (.int .i64 1)] H0)
noncomputable def Sh.fd : Nat → Ab → Ab → Ab → Ab → Aa → Out
 | 0 => fun _ _ _ _ _ => none
 | d + 1 => Sh.f3g (Sh.fd d)
noncomputable def Sh.f4k (H0 : Aa) (rec1 : LK) (l_10 n_11 s_12 last_13 y_14 : Ab) (H15 : Aa) : Out :=
 (Ae .none .add y_14 (.int .i64 1)).bind fun x16 =>
 rec1 [l_10, n_11, s_12, last_13, x16] H15
noncomputable def Sh.f5i (H0 : Aa) (rec3 : LK) (l_27 n_28 s_29 last_30 y_31 row_32 used_33 x34 : Ab) (H35 : Aa) : Out :=
 (Ae .none .add x34 (.int .i64 1)).bind fun x36 =>
 rec3 [l_27, n_28, s_29, last_30, y_31, row_32, used_33, x36] H35
noncomputable def Sh.f4l (H0 : Aa) (j2 : LK) (rec3 : LK) (l_17 n_18 s_19 last_20 y_21 row_22 used_23 x24 : Ab) (H25 : Aa) : Out :=
 (Ae .none .lss x24 (.int .i64 8)).bind fun x26 =>
 Aj x26 (
 AJ (fun j4 =>
 bK H0 (Sh.fd AC l_17 n_18 x24 y_21 H25) fun x37 H38 =>
 Aj x37 (
 (Ae .none .add row_22 (.str [42])).bind fun x39 =>
 (Be x39).bind fun x40 =>
 j4 [l_17, n_18, s_19, last_20, y_21, x39, x40, x24] H38) (
 (Ae .none .add row_22 (.str [46])).bind fun x41 =>
 j4 [l_17, n_18, s_19, last_20, y_21, x41, used_23, x24] H38)) (fun vs H => Sh.f5i H0 rec3 (ag vs 0) (ag vs 1) (ag vs 2) (ag vs 3) (ag vs 4) (ag vs 5) (ag vs 6) (ag vs 7) H)) (
 (AS row_22 none (some used_23)).bind fun x42 =>
 (Ae .none .add s_19 x42).bind fun x43 =>
 (Ae .none .add x43 (.str [36])).bind fun x44 =>
 (Ae .none .gtr used_23 (.int .i64 0)).bind fun x45 =>
 Aj x45 (
 (Be x44).bind fun x46 =>
 j2 [l_17, n_18, x44, x46, y_21] H25) (
 j2 [l_17, n_18, x44, last_20, y_21] H25))
noncomputable def Sh.f4m (H0 : Aa) (rec1 : LK) (l_3 n_4 s_5 last_6 y_7 : Ab) (H8 : Aa) : Out :=
 (Ae .none .lss y_7 (.int .i64 8)).bind fun x9 =>
 Aj x9 (
 AJ (fun j2 =>
 Ao (fun rec3 vs H => Sh.f4l H0 j2 rec3 (ag vs 0) (ag vs 1) (ag vs 2) (ag vs 3) (ag vs 4) (ag vs 5) (ag vs 6) (ag vs 7) H) AC [l_3, n_4, s_5, last_6, y_7, (.str []), (.int .i64 0), (.int .i64 0)] H8) (fun vs H => Sh.f4k H0 rec1 (ag vs 0) (ag vs 1) (ag vs 2) (ag vs 3) (ag vs 4) H)) (
 (AS s_5 none (some last_6)).bind fun x47 =>
 rK H0 x47 H8)
noncomputable def Sh.f1n (l_1 n_2 : Ab) (H0 : Aa) : Out :=
 Ao (fun rec1 vs H => Sh.f4m H0 rec1 (ag vs 0) (ag vs 1) (ag vs 2) (ag vs 3) (ag vs 4) H) AC [l_1, n_2, (.str []), (.int .i64 0), (.int .i64 0)] H0
noncomputable def Sh.f6a (H0 : Aa) (rec1 : LK) (b_2 : Ab) (H3 : Aa) : Out :=
 (AH b_2).bind fun x4 =>
 (Ae .none .gtr x4 (.int .i64 0)).bind fun x5 =>
 gk x5 true (some b_2) fun x6 =>
 gk x5 true (some b_2) fun x7 =>
 gk x5 true (AH x7) fun x8 =>
 gk x5 true (Ae .none .sub x8 (.int .i64 1)) fun x9 =>
 gk x5 true (A6 1 x6 x9) fun x10 =>
 gk x5 true (Ad false 1 x10 H3) fun x11 =>
 gk x5 true (unA .not x11) fun x12 =>
 (Ax x5 x12 (.bool false)).bind fun x13 =>
 Aj x13 (
 (AH b_2).bind fun x14 =>
 (Ae .none .sub x14 (.int .i64 1)).bind fun x15 =>
 (FI 1 b_2 none (some x15) none).bind fun x16 =>
 rec1 [x16] H3) (
 rKN H0 b_2 H3)
noncomputable def Sh.f15 (b_1 : Ab) (H0 : Aa) : Out :=
 Ao (fun rec1 vs H => Sh.f6a H0 rec1 (ag vs 0) H) AC [b_1] H0
noncomputable def Sh.f5j (H0 : Aa) (rec1 : LK) (rec2 : LK) (a_10 out_11 i_12 x13 k_14 : Ab) (H15 : Aa) : Out :=
 (Ae .none .lss k_14 (.int .i64 32)).bind fun x16 =>
 Aj x16 (
 (Ae .none .rem x13 (.int .u32 2)).bind fun x17 =>
 (Ae .none .eql x17 (.int .u32 1)).bind fun x18 =>
 (A9 1 [x18]).bind fun x19 =>
 bP H0 (B4 (AA Ex 1 1 out_11 x19 H15)) fun x20 H21 =>
 (Ae .none .quo x13 (.int .u32 2)).bind fun x22 =>
 (Ae .none .add k_14 (.int .i64 1)).bind fun x23 =>
 rec2 [a_10, x20, i_12, x22, x23] H21) (
 (Ae .none .add i_12 (.int .i64 1)).bind fun x24 =>
 rec1 [a_10, out_11, x24] H15)
noncomputable def Sh.f3h (H0 : Aa) (rec1 : LK) (a_2 out_3 i_4 : Ab) (H5 : Aa) : Out :=
 (AH a_2).bind fun x6 =>
 (Ae .none .lss i_4 x6).bind fun x7 =>
 Aj x7 (
 (A6 1 a_2 i_4).bind fun x8 =>
 (Ad false 1 x8 H5).bind fun x9 =>
 Ao (fun rec2 vs H => Sh.f5j H0 rec1 rec2 (ag vs 0) (ag vs 1) (ag vs 2) (ag vs 3) (ag vs 4) H) AC [a_2, out_3, i_4, x9, (.int .i64 0)] H5) (
 bP H0 (Sh.f15 out_3 H5) fun x25 H26 =>
 rPN H0 x25 H26)
noncomputable def Sh.f16 (a_1 : Ab) (H0 : Aa) : Out :=
 Ao (fun rec1 vs H => Sh.f3h H0 rec1 (ag vs 0) (ag vs 1) (ag vs 2) H) AC [a_1, (.sl [] .tight), (.int .i64 0)] H0
noncomputable def Sh.f5k (H0 : Aa) (rec2 : LK) (b_24 out_25 i_26 x27 p_28 k_29 : Ab) (H30 : Aa) : Out :=
 (Ae .none .mul p_28 (.int .u32 2)).bind fun x31 =>
 (Ae .none .add k_29 (.int .i64 1)).bind fun x32 =>
 rec2 [b_24, out_25, i_26, x27, x31, x32] H30
noncomputable def Sh.f6b (H0 : Aa) (rec1 : LK) (rec2 : LK) (b_10 out_11 i_12 x13 p_14 k_15 : Ab) (H16 : Aa) : Out :=
 (AH b_10).bind fun x17 =>
 (Ae .none .lss k_15 x17).bind fun x18 =>
 gk x18 true (some k_15) fun x19 =>
 gk x18 true (some i_12) fun x20 =>
 gk x18 true (Ae .none .add x20 (.int .i64 32)) fun x21 =>
 gk x18 true (Ae .none .lss x19 x21) fun x22 =>
 (Ax x18 x22 (.bool false)).bind fun x23 =>
 Aj x23 (
 AJ (fun j3 =>
 (A6 1 b_10 k_15).bind fun x33 =>
 (Ad false 1 x33 H16).bind fun x34 =>
 Aj x34 (
 (Ae .none .add x13 p_14).bind fun x35 =>
 j3 [b_10, out_11, i_12, x35, p_14, k_15] H16) (
 j3 [b_10, out_11, i_12, x13, p_14, k_15] H16)) (fun vs H => Sh.f5k H0 rec2 (ag vs 0) (ag vs 1) (ag vs 2) (ag vs 3) (ag vs 4) (ag vs 5) H)) (
 (A9 1 [x13]).bind fun x36 =>
 bP H0 (B4 (AA Ce 1 4 out_11 x36 H16)) fun x37 H38 =>
 (Ae .none .add i_12 (.int .i64 32)).bind fun x39 =>
 rec1 [b_10, x37, x39] H38)
noncomputable def Sh.f5l (H0 : Aa) (rec1 : LK) (b_4 out_5 i_6 : Ab) (H7 : Aa) : Out :=
 (AH b_4).bind fun x8 =>
 (Ae .none .lss i_6 x8).bind fun x9 =>
 Aj x9 (
 Ao (fun rec2 vs H => Sh.f6b H0 rec1 rec2 (ag vs 0) (ag vs 1) (ag vs 2) (ag vs 3) (ag vs 4) (ag vs 5) H) AC [b_4, out_5, i_6, (.int .u32 0), (.int .u32 1), i_6] H7) (
 rPN H0 out_5 H7)
noncomputable def Sh.f2p (b_1 : Ab) (H0 : Aa) : Out :=
 bP H0 (Sh.f15 b_1 H0) fun x2 H3 =>
 Ao (fun rec1 vs H => Sh.f5l H0 rec1 (ag vs 0) (ag vs 1) (ag vs 2) H) AC [x2, (.sl [] .tight), (.int .i64 0)] H3
noncomputable def Sh.fa (a_1 : Ab) (H0 : Aa) : Out :=
 bK H0 (Sh.f16 a_1 H0) fun x2 H3 =>
 bK H0 (Sh.f2p x2 H3) fun x4 H5 =>
 rKN H0 x4 H5
noncomputable def Sh.f17 (neg_1 l_2 : Ab) (H0 : Aa) : Out :=
 Ap (A3 (some [(.bool false), (.sl [] .tight)]) H0) fun x3 H4 =>
 bP H0 (Sh.fa l_2 H4) fun x5 H6 =>
 gk neg_1 true (some x5) fun x7 =>
 gk neg_1 true (AH x7) fun x8 =>
 gk neg_1 true (Ae .none .gtr x8 (.int .i64 0)) fun x9 =>
 (Ax neg_1 x9 (.bool false)).bind fun x10 =>
 (Ay (some [(.bool false), (.sl [] .tight)]) [(0, 1, x10), (1, 1, x5)]).bind fun x11 =>
 bP H0 (Au (Af 2 x3 x11 H6)) fun _ H13 =>
 (Ad true 2 x3 H13).bind fun x14 => rPN H0 x14 H13
noncomputable def Sh.f5m (H0 : Aa) (n_5 x6 u_7 : Ab) (H8 : Aa) : Out :=
 (Ae .none .lss n_5 (.int .i64 0)).bind fun x9 =>
 (Ae .none .rem u_7 (.int .u64 4294967296)).bind fun x10 =>
 (AI .u32 x10).bind fun x11 =>
 (Ae .none .quo u_7 (.int .u64 4294967296)).bind fun x12 =>
 (AI .u32 x12).bind fun x13 =>
 (A9 1 [x11, x13]).bind fun x14 =>
 bP H0 (Sh.f17 x9 x14 H8) fun x15 H16 =>
 bP H0 (Au (Af 2 x6 x15 H16)) fun _ H18 =>
 (Ad true 2 x6 H18).bind fun x19 => rPN H0 x19 H18
noncomputable def Sh.fq (n_1 : Ab) (H0 : Aa) : Out :=
 Ap (A3 (some [(.bool false), (.sl [] .tight)]) H0) fun x2 H3 =>
 (AI .u64 n_1).bind fun x4 =>
 AJ (fun j1 =>
 (Ae .none .lss n_1 (.int .i64 0)).bind fun x20 =>
 Aj x20 (
 (unA .neg x4).bind fun x21 =>
 j1 [n_1, x2, x21] H3) (
 j1 [n_1, x2, x4] H3)) (fun vs H => Sh.f5m H0 (ag vs 0) (ag vs 1) (ag vs 2) H)
noncomputable def Sh.f5n (H0 : Aa) (rec1 : LK) (a_9 m_10 out_11 left_12 i_13 : Ab) (H14 : Aa) : Out :=
 (Ae .none .geq i_13 (.int .i64 0)).bind fun x15 =>
 Aj x15 (
 (Ae .none .mul left_12 (.int .u64 4294967296)).bind fun x16 =>
 (A6 1 a_9 i_13).bind fun x17 =>
 (Ad false 1 x17 H14).bind fun x18 =>
 (AI .u64 x18).bind fun x19 =>
 (Ae .none .add x16 x19).bind fun x20 =>
 bC (AI .u64 m_10) (fun _ => True) fun x21 =>
 (Ae .none .quo x20 x21).bind fun x22 =>
 bC (AI .u32 x22) (fun _ => True) fun x23 =>
 (A6 1 out_11 i_13).bind fun x24 =>
 AQ (Au (Af 1 x24 x23 H14)) fun _ H26 =>
 bC (AI .u64 m_10) (fun x27 => AI .u64 m_10 = some x27 ∧ True) fun x27 =>
 (Ae .none .rem x20 x27).bind fun x28 =>
 (Ae .none .sub i_13 (.int .i64 1)).bind fun x29 =>
 rec1 [a_9, m_10, out_11, x28, x29] H26) (
 bP H0 (Sh.fa out_11 H14) fun x30 H31 =>
 (AI .u32 left_12).bind fun x32 =>
 rPN H0 (.tup [x30, x32]) H31)
noncomputable def Sh.f2q (a_1 m_2 : Ab) (H0 : Aa) : Out :=
 (Ae .none .eql m_2 (.int .u32 0)).bind fun x3 =>
 Aj x3 (
 rPN H0 (.tup [(.sl [] .tight), (.int .u32 0)]) H0) (
 (AH a_1).bind fun x4 =>
 Ap (Fu 1 4 (some [(.int .u32 0)]) x4 x4 H0) fun x5 H6 =>
 (AH a_1).bind fun x7 =>
 (Ae .none .sub x7 (.int .i64 1)).bind fun x8 =>
 Ao (fun rec1 vs H => Sh.f5n H0 rec1 (ag vs 0) (ag vs 1) (ag vs 2) (ag vs 3) (ag vs 4) H) AC [a_1, m_2, x5, (.int .u64 0), x8] H6)
noncomputable def Sh.f5o (H0 : Aa) (rec1 : LK) (x6 s_7 l_8 : Ab) (H9 : Aa) : Out :=
 bP H0 (Sh.f2q l_8 (.int .u32 10) H9) fun x10 H11 =>
 (Ak 0 x10).bind fun x12 =>
 (Ak 1 x10).bind fun x13 =>
 (Ae .none .add (.int .u32 48) x13).bind fun x14 =>
 (AI .u8 x14).bind fun x15 =>
 (A9 1 [x15]).bind fun x16 =>
 (DJ x16 H11).bind fun x17 =>
 (Ae .none .add x17 s_7).bind fun x18 =>
 (AH x12).bind fun x19 =>
 (Ae .none .eql x19 (.int .i64 0)).bind fun x20 =>
 Aj x20 (
 (Ac 0 x6).bind fun x21 =>
 (Ad false 1 x21 H11).bind fun x22 =>
 Aj x22 (
 (Ae .none .add (.str [45]) x18).bind fun x23 =>
 rP H0 x23 H11) (
 rP H0 x18 H11)) (
 rec1 [x6, x18, x12] H11)
noncomputable def Sh.fr (x1 : Ab) (H0 : Aa) : Out :=
 Ap (BP true 2 x1 H0) fun x2 H3 =>
 (Ac 1 x2).bind fun x4 =>
 (Ad false 1 x4 H3).bind fun x5 =>
 Ao (fun rec1 vs H => Sh.f5o H0 rec1 (ag vs 0) (ag vs 1) (ag vs 2) H) AC [x2, (.str []), x5] H3
noncomputable def Sh.f18 (n_1 : Ab) (H0 : Aa) : Out :=
 bK H0 (Sh.fq n_1 H0) fun x2 H3 =>
 bK H0 (Sh.fr x2 H3) fun x4 H5 =>
 rK H0 x4 H5
noncomputable def Sh.f2r (H0 : Aa) (rec1 : LK) (x40 x41 x42 x43 x44 : Ab) (H45 : Aa) : Out :=
 (Ae .none .add x44 (.int .i64 1)).bind fun x46 =>
 rec1 [x40, x41, x42, x43, x46] H45
noncomputable def Sh.f5p (H0 : Aa) (rec3 : LK) (x72 x73 x74 x75 x76 x77 x78 x79 : Ab) (H80 : Aa) : Out :=
 (Ae .none .add x77 (.str [32])).bind fun x81 =>
 bP H0 (Sh.f18 x79 H80) fun x82 H83 =>
 (Ae .none .add x81 x82).bind fun x84 =>
 (Ae .none .add x78 (.int .i64 1)).bind fun x85 =>
 rec3 [x72, x73, x74, x75, x76, x84, x85] H83
noncomputable def Sh.f3i (H0 : Aa) (j2 : LK) (x92 x93 x94 x95 x96 x97 : Ab) (H98 : Aa) : Out :=
 (A9 1 [x97]).bind fun x99 =>
 bP H0 (B4 (AA LQ 1 16 x94 x99 H98)) fun x100 H101 =>
 (Ae .none .add x96 (.int .i64 1)).bind fun x102 =>
 (AH x100).bind fun x103 =>
 (A6 1 x95 x102).bind fun x104 =>
 bP H0 (Au (Af 1 x104 x103 H101)) fun _ H106 =>
 j2 [x92, x93, x100, x95, x96] H106
noncomputable def Sh.f3j (H0 : Aa) (j2 : LK) (rec3 : LK) (x59 x60 x61 x62 x63 x64 x65 : Ab) (H66 : Aa) : Out :=
 (Ae .none .lss x65 (.int .i64 4)).bind fun x67 =>
 Aj x67 (
 (A6 5 x59 x63).bind fun x68 =>
 (Ac 1 x68).bind fun x69 =>
 (AY 4 1 x69 x65).bind fun x70 =>
 (Ad false 1 x70 H66).bind fun x71 =>
 AJ (fun j4 =>
 (A6 5 x59 x63).bind fun x86 =>
 (Ac 0 x86).bind fun x87 =>
 (Ad false 1 x87 H66).bind fun x88 =>
 (Ae .none .gtr x88 (.int .i64 1)).bind fun x89 =>
 Aj x89 (
 (A6 1 x62 x71).bind fun x90 =>
 (Ad false 1 x90 H66).bind fun x91 =>
 j4 [x59, x60, x61, x62, x63, x64, x65, x91] H66) (
 j4 [x59, x60, x61, x62, x63, x64, x65, x71] H66)) (fun vs H => Sh.f5p H0 rec3 (ag vs 0) (ag vs 1) (ag vs 2) (ag vs 3) (ag vs 4) (ag vs 5) (ag vs 6) (ag vs 7) H)) (
 AJ (fun j5 =>
 gk x60 true (some x59) fun x107 =>
 gk x60 true (some x63) fun x108 =>
 gk x60 true (A6 5 x107 x108) fun x109 =>
 gk x60 true (Ac 0 x109) fun x110 =>
 gk x60 true (Ad false 1 x110 H66) fun x111 =>
 gk x60 true (Ae .none .eql x111 (.int .i64 3)) fun x112 =>
 (Ax x60 x112 (.bool false)).bind fun x113 =>
 Aj x113 (
 (Ae .none .add x63 (.int .i64 1)).bind fun x114 =>
 bP H0 (Sh.f1n x59 x114 H66) fun x115 H116 =>
 j5 [x59, x60, x61, x62, x63, x115] H116) (
 j5 [x59, x60, x61, x62, x63, x64] H66)) (fun vs H => Sh.f3i H0 j2 (ag vs 0) (ag vs 1) (ag vs 2) (ag vs 3) (ag vs 4) (ag vs 5) H))
noncomputable def Sh.f1o (H0 : Aa) (rec1 : LK) (x32 x33 x34 x35 x36 : Ab) (H37 : Aa) : Out :=
 (AH x32).bind fun x38 =>
 (Ae .none .lss x36 x38).bind fun x39 =>
 Aj x39 (
 AJ (fun j2 =>
 gk x33 true (some x32) fun x47 =>
 gk x33 true (some x36) fun x48 =>
 gk x33 true (A6 5 x47 x48) fun x49 =>
 gk x33 true (Ac 0 x49) fun x50 =>
 gk x33 true (Ad false 1 x50 H37) fun x51 =>
 gk x33 true (Ae .none .lss x51 (.int .i64 3)) fun x52 =>
 (Ax x33 x52 (.bool false)).bind fun x53 =>
 Aj x53 (
 j2 [x32, x33, x34, x35, x36] H37) (
 (A6 5 x32 x36).bind fun x54 =>
 (Ac 0 x54).bind fun x55 =>
 (Ad false 1 x55 H37).bind fun x56 =>
 bP H0 (Sh.f18 x56 H37) fun x57 H58 =>
 Ao (fun rec3 vs H => Sh.f3j H0 j2 rec3 (ag vs 0) (ag vs 1) (ag vs 2) (ag vs 3) (ag vs 4) (ag vs 5) (ag vs 6) H) AC [x32, x33, x34, x35, x36, x57, (.int .i64 0)] H58)) (fun vs H => Sh.f2r H0 rec1 (ag vs 0) (ag vs 1) (ag vs 2) (ag vs 3) (ag vs 4) H)) (
 rPN H0 x34 H37)
noncomputable def Sh.f2s (x1 : Ab) (H0 : Aa) : Out :=
 Ap (BP true 1 x1 H0) fun x2 H3 =>
 (Ac 0 x2).bind fun x4 =>
 (Ad false 1 x4 H3).bind fun x5 =>
 (Ad true 1 x2 H3).bind fun x6 =>
 bP H0 (Sh.f1m x6 H3) fun x7 H8 =>
 (Ae .none .leq x7 (.int .u8 1)).bind fun x9 =>
 gk x9 true (Ad true 1 x2 H8) fun x10 =>
 gbP H0 x9 true H8 (Sh.f14 x10 H8) fun x11 H12 =>
 gk x9 true (Ae .none .gtr x11 (.int .i64 0)) fun x13 =>
 (Ax x9 x13 (.bool false)).bind fun x14 =>
 gk x14 true (Ad true 1 x2 H12) fun x15 =>
 gbP H0 x14 true H12 (Sh.f14 x15 H12) fun x16 H17 =>
 gk x14 true (Ae .none .lss x16 (.int .i64 3)) fun x18 =>
 (Ax x14 x18 (.bool false)).bind fun x19 =>
 Aj x19 (
 (Ad true 1 x2 H17).bind fun x20 =>
 bP H0 (Sh.f2o x20 (.int .i64 3) H17) fun x21 H22 =>
 (Ak 0 x21).bind fun x23 =>
 (Ak 1 x21).bind fun x24 =>
 bP H0 (Sh.f1n x23 x24 H22) fun x25 H26 =>
 (A9 1 [x25]).bind fun x27 =>
 rPN H0 x27 H26) (
 (AH x5).bind fun x28 =>
 (Ae .none .add x28 (.int .i64 1)).bind fun x29 =>
 Ap (Fu 1 8 (some [(.int .i64 0)]) x29 x29 H17) fun x30 H31 =>
 Ao (fun rec1 vs H => Sh.f1o H0 rec1 (ag vs 0) (ag vs 1) (ag vs 2) (ag vs 3) (ag vs 4) H) AC [x5, x9, (.sl [] .tight), x30, (.int .i64 0)] H31)
noncomputable def Sh.f4n (H0 : Aa) (rec1 : LK) (s_16 l_17 i_18 : Ab) (H19 : Aa) : Out :=
 (AH l_17).bind fun x20 =>
 (Ae .none .lss i_18 x20).bind fun x21 =>
 Aj x21 (
 (A6 1 l_17 i_18).bind fun x22 =>
 (Ad false 1 x22 H19).bind fun x23 =>
 (Ae .none .add s_16 x23).bind fun x24 =>
 (Ae .none .add x24 (.str [10])).bind fun x25 =>
 (Ae .none .add i_18 (.int .i64 1)).bind fun x26 =>
 rec1 [x25, l_17, x26] H19) (
 rP H0 (.tup [s_16, (.int .i64 0)]) H19)
noncomputable def Sh.fs (p_1 : Ab) (H0 : Aa) : Out :=
 Ap (BP true 2 p_1 H0) fun p_2 H3 =>
 (Ad true 2 p_2 H3).bind fun x4 =>
 bP H0 (Sh.f13 x4 H3) fun x5 H6 =>
 (unA .not x5).bind fun x7 =>
 Aj x7 (
 rP H0 (.tup [(.str []), (.int .i64 1)]) H6) (
 (Ac 0 p_2).bind fun x8 =>
 (Ad false 1 x8 H6).bind fun x9 =>
 (Ae .none .add (.str [91, 77, 50, 93, 32, 40, 103, 108, 105, 100, 101, 114, 41, 10, 35, 82, 32]) x9).bind fun x10 =>
 (Ae .none .add x10 (.str [10])).bind fun x11 =>
 (Ac 1 p_2).bind fun x12 =>
 (Ad true 1 x12 H6).bind fun x13 =>
 bP H0 (Sh.f2s x13 H6) fun x14 H15 =>
 Ao (fun rec1 vs H => Sh.f4n H0 rec1 (ag vs 0) (ag vs 1) (ag vs 2) H) AC [x11, x14, (.int .i64 0)] H15)
noncomputable def Sh.ft (b_1 : Ab) (H0 : Aa) : Out :=
 (Ay (some [(.str []), (.int .i64 0)]) [(0, 1, b_1)]).bind fun x2 =>
 (Ay (some [(.int .i64 0), (.int .i64 0)]) [(0, 1, (.int .i64 1000)), (1, 1, (.int .i64 100000))]).bind fun x3 =>
 (Ay (some [(.str []), (.int .i64 0), (.int .i64 0), (.int .i64 0), (.str []), (.sl [] .tight), (.sl [] .tight)]) [(0, 2, x2), (2, 2, x3)]).bind fun x4 =>
 Ap (BP true 7 x4 H0) fun x5 H6 =>
 bP H0 (Sh.f1k (.bfn 21 [x5]) H6) fun x7 H8 =>
 Ap (A3 (some [(.int .i64 0), (.str [])]) H8) fun h_9 H10 =>
 bP H0 (Au (Af 2 h_9 x7 H10)) fun _ H12 =>
 (Ac 1 h_9).bind fun x13 =>
 bC (Ad false 1 x13 H12) (fun _ => True) fun x14 =>
 (Ac 0 h_9).bind fun x15 =>
 bC (Ad false 1 x15 H12) (fun _ => True) fun x16 =>
 (Ae .none .eql x16 (.int .i64 0)).bind fun x17 =>
 gk x17 false (Ac 0 h_9) fun x18 =>
 gkc x17 false (Ad false 1 x18 H12) (fun _ _ => True) fun x19 =>
 gk x17 false (Ae .none .eql x19 (.int .i64 3)) fun x20 =>
 (Ax x17 (.bool true) x20).bind fun x21 =>
 rP H0 (.tup [x14, x21]) H12
noncomputable def Sl.gliderref11_Wide : Aa → Out := Classical.choose (⟨Sh.fm, rfl⟩ : ∃ f : Aa → Out, f = Sh.fm)
theorem Sl.gliderref11_Wide_eq : Sl.gliderref11_Wide = Sh.fm := Classical.choose_spec (⟨Sh.fm, rfl⟩ : ∃ f : Aa → Out, f = Sh.fm)
noncomputable def Sl.macro_Read : Ab → Ab → Aa → Out := Classical.choose (⟨Sh.fp, rfl⟩ : ∃ f : Ab → Ab → Aa → Out, f = Sh.fp)
theorem Sl.macro_Read_eq : Sl.macro_Read = Sh.fp := Classical.choose_spec (⟨Sh.fp, rfl⟩ : ∃ f : Ab → Ab → Aa → Out, f = Sh.fp)
noncomputable def Sl.gliderref14_Text : Ab → Aa → Out := Classical.choose (⟨Sh.fs, rfl⟩ : ∃ f : Ab → Aa → Out, f = Sh.fs)
theorem Sl.gliderref14_Text_eq : Sl.gliderref14_Text = Sh.fs := Classical.choose_spec (⟨Sh.fs, rfl⟩ : ∃ f : Ab → Aa → Out, f = Sh.fs)
noncomputable def Sl.macro_Hint : Ab → Aa → Out := Classical.choose (⟨Sh.ft, rfl⟩ : ∃ f : Ab → Aa → Out, f = Sh.ft)
theorem Sl.macro_Hint_eq : Sl.macro_Hint = Sh.ft := Classical.choose_spec (⟨Sh.ft, rfl⟩ : ∃ f : Ab → Aa → Out, f = Sh.ft)
noncomputable def Sh.fu (H0 : Aa) : Out :=
 bP H0 (Sl.gliderref11_Wide H0) fun x1 H2 =>
 Ap (A3 (some [(.int .i64 0), (.int .i64 0)]) H2) fun x3 H4 =>
 bP H0 (Au (Af 2 x3 x1 H4)) fun _ H6 =>
 (Ad true 2 x3 H6).bind fun x7 =>
 bP H0 (Sl.macro_Read (.str [91, 77, 50, 93, 10, 50, 32, 49]) x7 H6) fun x8 H9 =>
 (Ak 0 x8).bind fun x10 =>
 (Ak 1 x8).bind fun x11 =>
 (Ak 2 x8).bind fun x12 =>
 Ap (A3 (some [(.str []), (.sl [] .tight)]) H9) fun x13 H14 =>
 bP H0 (Au (Af 2 x13 x10 H14)) fun _ H16 =>
 (Ad true 2 x3 H16).bind fun x17 =>
 bP H0 (Sl.macro_Read (.str [91, 77, 50, 93, 32, 120, 13, 10, 35, 82, 32, 97, 98, 99, 10, 35, 67, 32, 121, 10, 35, 71, 32, 55, 10, 36, 36, 36, 36, 46, 46, 46, 46, 42, 36, 10, 52, 32, 49, 32, 48, 32, 48, 32, 48, 10, 53, 32, 48, 32, 48, 32, 48, 32, 50]) x17 H16) fun x18 H19 =>
 (Ak 0 x18).bind fun x20 =>
 (Ak 1 x18).bind fun x21 =>
 (Ak 2 x18).bind fun x22 =>
 Ap (A3 (some [(.str []), (.sl [] .tight)]) H19) fun x23 H24 =>
 bP H0 (Au (Af 2 x23 x20 H24)) fun _ H26 =>
 (Ad true 2 x3 H26).bind fun x27 =>
 bP H0 (Sl.macro_Read (.str [91, 77, 50, 93, 10, 49, 32, 48, 32, 48, 32, 48, 32, 50, 53, 53, 10, 50, 32, 49, 32, 48, 32, 49, 32, 48, 10]) x27 H26) fun x28 H29 =>
 (Ak 0 x28).bind fun x30 =>
 (Ak 1 x28).bind fun x31 =>
 (Ak 2 x28).bind fun x32 =>
 Ap (A3 (some [(.str []), (.sl [] .tight)]) H29) fun x33 H34 =>
 bP H0 (Au (Af 2 x33 x30 H34)) fun _ H36 =>
 (Ad true 2 x23 H36).bind fun x37 =>
 bP H0 (Sl.gliderref14_Text x37 H36) fun x38 H39 =>
 (Ak 0 x38).bind fun x40 =>
 (Ak 1 x38).bind fun x41 =>
 (Ad true 2 x33 H39).bind fun x42 =>
 bP H0 (Sl.gliderref14_Text x42 H39) fun x43 H44 =>
 (Ak 0 x43).bind fun x45 =>
 (Ak 1 x43).bind fun x46 =>
 bP H0 (Sl.macro_Hint (.str [91, 77, 50, 93, 10, 49, 32, 48, 32, 48, 32, 48, 32, 50, 53, 53, 10, 50, 32, 49]) H44) fun x47 H48 =>
 (Ak 0 x47).bind fun x49 =>
 (Ak 1 x47).bind fun x50 =>
 (Ae .none .add (.str [91, 77, 50, 93, 10, 49, 32, 48, 32, 48, 32, 48, 32, 50, 53, 53, 10, 50, 32, 49]) x49).bind fun x51 =>
 (Ad true 2 x3 H48).bind fun x52 =>
 bP H0 (Sl.macro_Read x51 x52 H48) fun x53 H54 =>
 (Ak 0 x53).bind fun x55 =>
 (Ak 1 x53).bind fun x56 =>
 (Ak 2 x53).bind fun x57 =>
 Ap (A3 (some [(.str []), (.sl [] .tight)]) H54) fun x58 H59 =>
 bP H0 (Au (Af 2 x58 x55 H59)) fun _ H61 =>
 bP H0 (Sl.macro_Hint (.str [91, 77, 50, 93, 10, 10]) H61) fun x62 H63 =>
 (Ak 0 x62).bind fun x64 =>
 (Ak 1 x62).bind fun x65 =>
 (Ay (some [(.int .i64 0), (.int .i64 0)]) [(1, 1, (.int .i64 1))]).bind fun x66 =>
 bP H0 (Sl.macro_Read (.str [91, 77, 50, 93, 10, 49, 32, 48, 32, 48, 32, 48, 32, 49, 10, 50, 32, 49, 32, 49, 32, 48, 32, 48]) x66 H63) fun x67 H68 =>
 (Ak 0 x67).bind fun x69 =>
 (Ak 1 x67).bind fun x70 =>
 (Ak 2 x67).bind fun x71 =>
 Ap (A3 (some [(.str []), (.sl [] .tight)]) H68) fun x72 H73 =>
 bP H0 (Au (Af 2 x72 x69 H73)) fun _ H75 =>
 (Ae .none .eql x11 (.int .i64 7)).bind fun x76 =>
 gk x76 true (some x12) fun x77 =>
 gk x76 true (Ae .none .eql x77 (.int .i64 2)) fun x78 =>
 (Ax x76 x78 (.bool false)).bind fun x79 =>
 gk x79 true (some x22) fun x80 =>
 gk x79 true (Ae .none .eql x80 (.int .i64 0)) fun x81 =>
 (Ax x79 x81 (.bool false)).bind fun x82 =>
 gk x82 true (some x32) fun x83 =>
 gk x82 true (Ae .none .eql x83 (.int .i64 0)) fun x84 =>
 (Ax x82 x84 (.bool false)).bind fun x85 =>
 gk x85 true (some x41) fun x86 =>
 gk x85 true (Ae .none .eql x86 (.int .i64 0)) fun x87 =>
 (Ax x85 x87 (.bool false)).bind fun x88 =>
 gk x88 true (some x46) fun x89 =>
 gk x88 true (Ae .none .eql x89 (.int .i64 0)) fun x90 =>
 (Ax x88 x90 (.bool false)).bind fun x91 =>
 gk x91 true (some x40) fun x92 =>
 gk x91 true (Ae .none .eql x92 (.str [91, 77, 50, 93, 32, 40, 103, 108, 105, 100, 101, 114, 41, 10, 35, 82, 32, 97, 98, 99, 10, 36, 36, 36, 36, 46, 46, 46, 46, 42, 36, 10, 52, 32, 48, 32, 48, 32, 48, 32, 49, 10])) fun x93 =>
 (Ax x91 x93 (.bool false)).bind fun x94 =>
 gk x94 true (some x45) fun x95 =>
 gk x94 true (Ae .none .eql x95 (.str [91, 77, 50, 93, 32, 40, 103, 108, 105, 100, 101, 114, 41, 10, 35, 82, 32, 66, 51, 47, 83, 50, 51, 10, 49, 32, 48, 32, 48, 32, 48, 32, 50, 53, 53, 10, 50, 32, 49, 32, 48, 32, 49, 32, 48, 10])) fun x96 =>
 (Ax x94 x96 (.bool false)).bind fun x97 =>
 gk x97 true (some x50) fun x98 =>
 (Ax x97 x98 (.bool false)).bind fun x99 =>
 gk x99 true (some x57) fun x100 =>
 gk x99 true (Ae .none .eql x100 (.int .i64 0)) fun x101 =>
 (Ax x99 x101 (.bool false)).bind fun x102 =>
 gk x102 true (some x65) fun x103 =>
 gk x102 true (unA .not x103) fun x104 =>
 (Ax x102 x104 (.bool false)).bind fun x105 =>
 gk x105 true (some x71) fun x106 =>
 gk x105 true (Ae .none .eql x106 (.int .i64 4)) fun x107 =>
 (Ax x105 x107 (.bool false)).bind fun x108 =>
 rP H0 x108 H75
noncomputable def Sh.f2t (m_1 : Ab) (H0 : Aa) : Out :=
 Ap (BP true 2 m_1 H0) fun m_2 H3 =>
 (Ac 0 m_2).bind fun x4 =>
 (Ad false 1 x4 H3).bind fun x5 =>
 (Ae .none .geq x5 (.int .i64 0)).bind fun x6 =>
 gk x6 true (Ac 0 m_2) fun x7 =>
 gk x6 true (Ad false 1 x7 H3) fun x8 =>
 gk x6 true (Ae .none .leq x8 (.int .i64 1000)) fun x9 =>
 (Ax x6 x9 (.bool false)).bind fun x10 =>
 gk x10 true (Ac 1 m_2) fun x11 =>
 gk x10 true (Ad false 1 x11 H3) fun x12 =>
 gk x10 true (Ae .none .geq x12 (.int .i64 0)) fun x13 =>
 (Ax x10 x13 (.bool false)).bind fun x14 =>
 gk x14 true (Ac 1 m_2) fun x15 =>
 gk x14 true (Ad false 1 x15 H3) fun x16 =>
 gk x14 true (Ae .none .leq x16 (.int .i64 100000)) fun x17 =>
 (Ax x14 x17 (.bool false)).bind fun x18 =>
 rP H0 x18 H3
noncomputable def Sh.f6c (H0 : Aa) (rec1 : LK) (a_3 b_4 n_5 : Ab) (H6 : Aa) : Out :=
 (Be a_3).bind fun x7 =>
 (Ae .none .lss n_5 x7).bind fun x8 =>
 gk x8 true (some n_5) fun x9 =>
 gk x8 true (some b_4) fun x10 =>
 gk x8 true (Be x10) fun x11 =>
 gk x8 true (Ae .none .lss x9 x11) fun x12 =>
 (Ax x8 x12 (.bool false)).bind fun x13 =>
 gk x13 true (some a_3) fun x14 =>
 gk x13 true (some n_5) fun x15 =>
 gk x13 true (AW x14 x15) fun x16 =>
 gk x13 true (some b_4) fun x17 =>
 gk x13 true (some n_5) fun x18 =>
 gk x13 true (AW x17 x18) fun x19 =>
 gk x13 true (Ae .none .eql x16 x19) fun x20 =>
 (Ax x13 x20 (.bool false)).bind fun x21 =>
 Aj x21 (
 (Ae .none .add n_5 (.int .i64 1)).bind fun x22 =>
 rec1 [a_3, b_4, x22] H6) (
 rK H0 n_5 H6)
noncomputable def Sh.fv (a_1 b_2 : Ab) (H0 : Aa) : Out :=
 Ao (fun rec1 vs H => Sh.f6c H0 rec1 (ag vs 0) (ag vs 1) (ag vs 2) H) AC [a_1, b_2, (.int .i64 0)] H0
noncomputable def Sh.f3 (c_1 : Ab) (H0 : Aa) : Out :=
 Ap (BP true 3 c_1 H0) fun c_2 H3 =>
 (Ac 1 c_2).bind fun x4 =>
 (Ad false 1 x4 H3).bind fun x5 =>
 (Ac 0 c_2).bind fun x6 =>
 (Ad false 1 x6 H3).bind fun x7 =>
 (Be x7).bind fun x8 =>
 (Ae .none .geq x5 x8).bind fun x9 =>
 rP H0 x9 H3
noncomputable def Sh.f2 (c_1 : Ab) (H0 : Aa) : Out :=
 Ap (BP true 3 c_1 H0) fun c_2 H3 =>
 Ap (A3 (some [(.str []), (.int .i64 0), (.int .i64 0)]) H3) fun x4 H5 =>
 (Ac 2 c_2).bind fun x6 =>
 bP H0 (Au (Af 1 x6 (.int .i64 2) H5)) fun _ H8 =>
 (Ad true 3 c_2 H8).bind fun x9 =>
 bP H0 (Sh.f3 x9 H8) fun x10 H11 =>
 Aj x10 (
 (Ac 2 c_2).bind fun x12 =>
 bP H0 (Au (Af 1 x12 (.int .i64 3) H11)) fun _ H14 =>
 (Ad true 3 c_2 H14).bind fun x15 =>
 bP H0 (Au (Af 3 x4 x15 H14)) fun _ H17 =>
 (Ad true 3 x4 H17).bind fun x18 => rP H0 x18 H17) (
 (Ad true 3 c_2 H11).bind fun x19 =>
 bP H0 (Au (Af 3 x4 x19 H11)) fun _ H21 =>
 (Ad true 3 x4 H21).bind fun x22 => rP H0 x22 H21)
noncomputable def Sh.f6 (c_1 s_2 : Ab) (H0 : Aa) : Out :=
 Ap (BP true 3 c_1 H0) fun c_3 H4 =>
 Ap (A3 (some [(.str []), (.int .i64 0), (.int .i64 0)]) H4) fun x5 H6 =>
 (Ac 2 c_3).bind fun x7 =>
 (Ad false 1 x7 H6).bind fun x8 =>
 (Ae .none .neq x8 (.int .i64 0)).bind fun x9 =>
 Aj x9 (
 (Ad true 3 c_3 H6).bind fun x10 =>
 bP H0 (Au (Af 3 x5 x10 H6)) fun _ H12 =>
 (Ad true 3 x5 H12).bind fun x13 => rP H0 x13 H12) (
 (Ac 0 c_3).bind fun x14 =>
 (Ad false 1 x14 H6).bind fun x15 =>
 (Ac 1 c_3).bind fun x16 =>
 (Ad false 1 x16 H6).bind fun x17 =>
 (AS x15 (some x17) none).bind fun x18 =>
 bP H0 (Sh.fv x18 s_2 H6) fun x19 H20 =>
 (Ac 1 c_3).bind fun x21 =>
 (Ad false 1 x21 H20).bind fun x22 =>
 (Ae .none .add x22 x19).bind fun x23 =>
 (Ac 1 c_3).bind fun x24 =>
 bP H0 (Au (Af 1 x24 x23 H20)) fun _ H26 =>
 (Be s_2).bind fun x27 =>
 (Ae .none .lss x19 x27).bind fun x28 =>
 Aj x28 (
 (Ad true 3 c_3 H26).bind fun x29 =>
 bP H0 (Sh.f2 x29 H26) fun x30 H31 =>
 bP H0 (Au (Af 3 x5 x30 H31)) fun _ H33 =>
 (Ad true 3 x5 H33).bind fun x34 => rP H0 x34 H33) (
 (Ad true 3 c_3 H26).bind fun x35 =>
 bP H0 (Au (Af 3 x5 x35 H26)) fun _ H37 =>
 (Ad true 3 x5 H37).bind fun x38 => rP H0 x38 H37))
noncomputable def Sh.f4o (H0 : Aa) (rec1 : LK) (c_6 x7 : Ab) (H8 : Aa) : Out :=
 (Ac 2 c_6).bind fun x9 =>
 (Ad false 1 x9 H8).bind fun x10 =>
 (Ae .none .eql x10 (.int .i64 0)).bind fun x11 =>
 gk x11 true (Ad true 3 c_6 H8) fun x12 =>
 gbP H0 x11 true H8 (Sh.f3 x12 H8) fun x13 H14 =>
 gk x11 true (unA .not x13) fun x15 =>
 (Ax x11 x15 (.bool false)).bind fun x16 =>
 gk x16 true (Ac 0 c_6) fun x17 =>
 gk x16 true (Ad false 1 x17 H14) fun x18 =>
 gk x16 true (Ac 1 c_6) fun x19 =>
 gk x16 true (Ad false 1 x19 H14) fun x20 =>
 gk x16 true (AW x18 x20) fun x21 =>
 gk x16 true (Ae .none .neq x21 (.int .u8 10)) fun x22 =>
 (Ax x16 x22 (.bool false)).bind fun x23 =>
 gk x23 true (Ac 0 c_6) fun x24 =>
 gk x23 true (Ad false 1 x24 H14) fun x25 =>
 gk x23 true (Ac 1 c_6) fun x26 =>
 gk x23 true (Ad false 1 x26 H14) fun x27 =>
 gk x23 true (AW x25 x27) fun x28 =>
 gk x23 true (Ae .none .neq x28 (.int .u8 13)) fun x29 =>
 (Ax x23 x29 (.bool false)).bind fun x30 =>
 Aj x30 (
 (Ac 1 c_6).bind fun x31 =>
 (Ad false 1 x31 H14).bind fun x32 =>
 (Ae .none .add x32 (.int .i64 1)).bind fun x33 =>
 (Ac 1 c_6).bind fun x34 =>
 bP H0 (Au (Af 1 x34 x33 H14)) fun _ H36 =>
 rec1 [c_6, x7] H36) (
 (Ad true 3 c_6 H14).bind fun x37 =>
 bP H0 (Au (Af 3 x7 x37 H14)) fun _ H39 =>
 (Ad true 3 x7 H39).bind fun x40 => rP H0 x40 H39)
noncomputable def Sh.fe (c_1 : Ab) (H0 : Aa) : Out :=
 Ap (BP true 3 c_1 H0) fun c_2 H3 =>
 Ap (A3 (some [(.str []), (.int .i64 0), (.int .i64 0)]) H3) fun x4 H5 =>
 Ao (fun rec1 vs H => Sh.f4o H0 rec1 (ag vs 0) (ag vs 1) H) AC [c_2, x4] H5
noncomputable def Sh.f5q (H0 : Aa) (c_17 x18 : Ab) (H19 : Aa) : Out :=
 (Ac 0 c_17).bind fun x20 =>
 (Ad false 1 x20 H19).bind fun x21 =>
 (Ac 1 c_17).bind fun x22 =>
 (Ad false 1 x22 H19).bind fun x23 =>
 (AW x21 x23).bind fun x24 =>
 (Ae .none .neq x24 (.int .u8 10)).bind fun x25 =>
 Aj x25 (
 (Ad true 3 c_17 H19).bind fun x26 =>
 bP H0 (Sh.f2 x26 H19) fun x27 H28 =>
 bP H0 (Au (Af 3 x18 x27 H28)) fun _ H30 =>
 (Ad true 3 x18 H30).bind fun x31 => rP H0 x31 H30) (
 (Ac 1 c_17).bind fun x32 =>
 (Ad false 1 x32 H19).bind fun x33 =>
 (Ae .none .add x33 (.int .i64 1)).bind fun x34 =>
 (Ac 1 c_17).bind fun x35 =>
 bP H0 (Au (Af 1 x35 x34 H19)) fun _ H37 =>
 (Ad true 3 c_17 H37).bind fun x38 =>
 bP H0 (Au (Af 3 x18 x38 H37)) fun _ H40 =>
 (Ad true 3 x18 H40).bind fun x41 => rP H0 x41 H40)
noncomputable def Sh.fi (c_1 : Ab) (H0 : Aa) : Out :=
 Ap (BP true 3 c_1 H0) fun c_2 H3 =>
 Ap (A3 (some [(.str []), (.int .i64 0), (.int .i64 0)]) H3) fun x4 H5 =>
 (Ac 2 c_2).bind fun x6 =>
 (Ad false 1 x6 H5).bind fun x7 =>
 (Ae .none .neq x7 (.int .i64 0)).bind fun x8 =>
 gk x8 false (Ad true 3 c_2 H5) fun x9 =>
 gbP H0 x8 false H5 (Sh.f3 x9 H5) fun x10 H11 =>
 (Ax x8 (.bool true) x10).bind fun x12 =>
 Aj x12 (
 (Ad true 3 c_2 H11).bind fun x13 =>
 bP H0 (Au (Af 3 x4 x13 H11)) fun _ H15 =>
 (Ad true 3 x4 H15).bind fun x16 => rP H0 x16 H15) (
 AJ (fun j1 =>
 (Ac 0 c_2).bind fun x42 =>
 (Ad false 1 x42 H11).bind fun x43 =>
 (Ac 1 c_2).bind fun x44 =>
 (Ad false 1 x44 H11).bind fun x45 =>
 (AW x43 x45).bind fun x46 =>
 (Ae .none .eql x46 (.int .u8 13)).bind fun x47 =>
 Aj x47 (
 (Ac 1 c_2).bind fun x48 =>
 (Ad false 1 x48 H11).bind fun x49 =>
 (Ae .none .add x49 (.int .i64 1)).bind fun x50 =>
 (Ac 1 c_2).bind fun x51 =>
 bP H0 (Au (Af 1 x51 x50 H11)) fun _ H53 =>
 (Ad true 3 c_2 H53).bind fun x54 =>
 bP H0 (Sh.f3 x54 H53) fun x55 H56 =>
 gk x55 false (Ac 0 c_2) fun x57 =>
 gk x55 false (Ad false 1 x57 H56) fun x58 =>
 gk x55 false (Ac 1 c_2) fun x59 =>
 gk x55 false (Ad false 1 x59 H56) fun x60 =>
 gk x55 false (AW x58 x60) fun x61 =>
 gk x55 false (Ae .none .neq x61 (.int .u8 10)) fun x62 =>
 (Ax x55 (.bool true) x62).bind fun x63 =>
 Aj x63 (
 (Ad true 3 c_2 H56).bind fun x64 =>
 bP H0 (Sh.f2 x64 H56) fun x65 H66 =>
 bP H0 (Au (Af 3 x4 x65 H66)) fun _ H68 =>
 (Ad true 3 x4 H68).bind fun x69 => rP H0 x69 H68) (
 j1 [c_2, x4] H56)) (
 j1 [c_2, x4] H11)) (fun vs H => Sh.f5q H0 (ag vs 0) (ag vs 1) H))
noncomputable def Sh.f5 (c_1 b_2 : Ab) (H0 : Aa) : Out :=
 Ap (BP true 3 c_1 H0) fun c_3 H4 =>
 (Ac 2 c_3).bind fun x5 =>
 (Ad false 1 x5 H4).bind fun x6 =>
 (Ae .none .eql x6 (.int .i64 0)).bind fun x7 =>
 gk x7 true (Ad true 3 c_3 H4) fun x8 =>
 gbP H0 x7 true H4 (Sh.f3 x8 H4) fun x9 H10 =>
 gk x7 true (unA .not x9) fun x11 =>
 (Ax x7 x11 (.bool false)).bind fun x12 =>
 gk x12 true (Ac 0 c_3) fun x13 =>
 gk x12 true (Ad false 1 x13 H10) fun x14 =>
 gk x12 true (Ac 1 c_3) fun x15 =>
 gk x12 true (Ad false 1 x15 H10) fun x16 =>
 gk x12 true (AW x14 x16) fun x17 =>
 gk x12 true (some b_2) fun x18 =>
 gk x12 true (Ae .none .eql x17 x18) fun x19 =>
 (Ax x12 x19 (.bool false)).bind fun x20 =>
 rP H0 x20 H10
noncomputable def Sh.f4p (H0 : Aa) (rec1 : LK) (s_3 at_4 n_5 i_6 : Ab) (H7 : Aa) : Out :=
 (Ae .none .geq at_4 (.int .i64 0)).bind fun x8 =>
 gk x8 true (some i_6) fun x9 =>
 gk x8 true (some s_3) fun x10 =>
 gk x8 true (Be x10) fun x11 =>
 gk x8 true (Ae .none .lss x9 x11) fun x12 =>
 (Ax x8 x12 (.bool false)).bind fun x13 =>
 gk x13 true (some s_3) fun x14 =>
 gk x13 true (some i_6) fun x15 =>
 gk x13 true (AW x14 x15) fun x16 =>
 gk x13 true (Ae .none .geq x16 (.int .u8 48)) fun x17 =>
 (Ax x13 x17 (.bool false)).bind fun x18 =>
 gk x18 true (some s_3) fun x19 =>
 gk x18 true (some i_6) fun x20 =>
 gk x18 true (AW x19 x20) fun x21 =>
 gk x18 true (Ae .none .leq x21 (.int .u8 57)) fun x22 =>
 (Ax x18 x22 (.bool false)).bind fun x23 =>
 Aj x23 (
 (Ae .none .add n_5 (.int .i64 1)).bind fun x24 =>
 (Ae .none .add i_6 (.int .i64 1)).bind fun x25 =>
 rec1 [s_3, at_4, x24, x25] H7) (
 rK H0 n_5 H7)
noncomputable def Sh.f2u (s_1 at_2 : Ab) (H0 : Aa) : Out :=
 Ao (fun rec1 vs H => Sh.f4p H0 rec1 (ag vs 0) (ag vs 1) (ag vs 2) (ag vs 3) H) AC [s_1, at_2, (.int .i64 0), at_2] H0
noncomputable def Sh.f5r (H0 : Aa) (rec1 : LK) (a_5 m_6 out_7 carry_8 i_9 : Ab) (H10 : Aa) : Out :=
 (AH a_5).bind fun x11 =>
 (Ae .none .lss i_9 x11).bind fun x12 =>
 Aj x12 (
 (A6 1 a_5 i_9).bind fun x13 =>
 (Ad false 1 x13 H10).bind fun x14 =>
 (AI .u64 x14).bind fun x15 =>
 (AI .u64 m_6).bind fun x16 =>
 (Ae .none .mul x15 x16).bind fun x17 =>
 (Ae .none .add x17 carry_8).bind fun x18 =>
 (Ae .none .rem x18 (.int .u64 4294967296)).bind fun x19 =>
 (AI .u32 x19).bind fun x20 =>
 (A9 1 [x20]).bind fun x21 =>
 bP H0 (B4 (AA Ce 1 4 out_7 x21 H10)) fun x22 H23 =>
 (Ae .none .quo x18 (.int .u64 4294967296)).bind fun x24 =>
 (Ae .none .add i_9 (.int .i64 1)).bind fun x25 =>
 rec1 [a_5, m_6, x22, x24, x25] H23) (
 (AI .u32 carry_8).bind fun x26 =>
 (A9 1 [x26]).bind fun x27 =>
 bP H0 (B4 (AA Ce 1 4 out_7 x27 H10)) fun x28 H29 =>
 bP H0 (Sh.fa x28 H29) fun x30 H31 =>
 rPN H0 x30 H31)
noncomputable def Sh.f2v (a_1 m_2 c_3 : Ab) (H0 : Aa) : Out :=
 (AI .u64 c_3).bind fun x4 =>
 Ao (fun rec1 vs H => Sh.f5r H0 rec1 (ag vs 0) (ag vs 1) (ag vs 2) (ag vs 3) (ag vs 4) H) AC [a_1, m_2, (.sl [] .tight), x4, (.int .i64 0)] H0
noncomputable def Sh.f2w (x1 : Ab) (H0 : Aa) : Out :=
 Ap (BP true 2 x1 H0) fun x2 H3 =>
 Ap (A3 (some [(.bool false), (.sl [] .tight)]) H3) fun x4 H5 =>
 (Ac 0 x2).bind fun x6 =>
 (Ad false 1 x6 H5).bind fun x7 =>
 (unA .not x7).bind fun x8 =>
 (Ac 1 x2).bind fun x9 =>
 (Ad false 1 x9 H5).bind fun x10 =>
 bP H0 (Sh.f17 x8 x10 H5) fun x11 H12 =>
 bP H0 (Au (Af 2 x4 x11 H12)) fun _ H14 =>
 (Ad true 2 x4 H14).bind fun x15 => rPN H0 x15 H14
noncomputable def Sh.f3k (H0 : Aa) (rec2 : LK) (x45 x46 x47 x48 x49 : Ab) (H50 : Aa) : Out :=
 (Be x46).bind fun x51 =>
 (Ae .none .lss x49 x51).bind fun x52 =>
 Aj x52 (
 (AW x46 x49).bind fun x53 =>
 (Ae .none .sub x53 (.int .u8 48)).bind fun x54 =>
 (AI .u32 x54).bind fun x55 =>
 bP H0 (Sh.f2v x48 (.int .u32 10) x55 H50) fun x56 H57 =>
 (Ae .none .add x49 (.int .i64 1)).bind fun x58 =>
 rec2 [x45, x46, x47, x56, x58] H57) (
 (Ay (some [(.bool false), (.sl [] .tight)]) [(1, 1, x48)]).bind fun x59 =>
 Ap (A3 (some [(.bool false), (.sl [] .tight)]) H50) fun x60 H61 =>
 bP H0 (Au (Af 2 x60 x59 H61)) fun _ H63 =>
 Aj x47 (
 (Ad true 2 x60 H63).bind fun x64 =>
 bP H0 (Sh.f2w x64 H63) fun x65 H66 =>
 bP H0 (Au (Af 2 x45 x65 H66)) fun _ H68 =>
 (BM [Ad true 2 x45 H68, some (.int .i64 0)]).bind fun x69 => rPN H0 x69 H68) (
 (Ad true 2 x60 H63).bind fun x70 =>
 bP H0 (Au (Af 2 x45 x70 H63)) fun _ H72 =>
 (BM [Ad true 2 x45 H72, some (.int .i64 0)]).bind fun x73 => rPN H0 x73 H72))
noncomputable def Sh.f5s (H0 : Aa) (x10 x11 x12 : Ab) (H13 : Aa) : Out :=
 (Be x11).bind fun x14 =>
 (Ae .none .eql x14 (.int .i64 0)).bind fun x15 =>
 gk x15 false (some x11) fun x16 =>
 gbP H0 x15 false H13 (Sh.f2u x16 (.int .i64 0) H13) fun x17 H18 =>
 gk x15 false (some x11) fun x19 =>
 gk x15 false (Be x19) fun x20 =>
 gk x15 false (Ae .none .neq x17 x20) fun x21 =>
 (Ax x15 (.bool true) x21).bind fun x22 =>
 gk x22 false (some x11) fun x23 =>
 gk x22 false (AW x23 (.int .i64 0)) fun x24 =>
 gk x22 false (Ae .none .eql x24 (.int .u8 48)) fun x25 =>
 gk x22 false (some x25) fun x26 =>
 gk x26 true (some x11) fun x27 =>
 gk x26 true (Be x27) fun x28 =>
 gk x26 true (Ae .none .gtr x28 (.int .i64 1)) fun x29 =>
 gk x26 true (some x29) fun x30 =>
 gk x30 false (some x12) fun x31 =>
 gk x26 true (Ax x30 (.bool true) x31) fun x32 =>
 gk x22 false (Ax x26 x32 (.bool false)) fun x33 =>
 (Ax x22 (.bool true) x33).bind fun x34 =>
 Aj x34 (
 (Ay (some [(.bool false), (.sl [] .tight)]) []).bind fun x35 =>
 bP H0 (Au (Af 2 x10 x35 H18)) fun _ H37 =>
 (BM [Ad true 2 x10 H37, some (.int .i64 2)]).bind fun x38 => rPN H0 x38 H37) (
 (Be x11).bind fun x39 =>
 (Ae .none .gtr x39 (.int .i64 400)).bind fun x40 =>
 Aj x40 (
 (Ay (some [(.bool false), (.sl [] .tight)]) []).bind fun x41 =>
 bP H0 (Au (Af 2 x10 x41 H18)) fun _ H43 =>
 (BM [Ad true 2 x10 H43, some (.int .i64 4)]).bind fun x44 => rPN H0 x44 H43) (
 Ao (fun rec2 vs H => Sh.f3k H0 rec2 (ag vs 0) (ag vs 1) (ag vs 2) (ag vs 3) (ag vs 4) H) AC [x10, x11, x12, (.sl [] .tight), (.int .i64 0)] H18))
noncomputable def Sh.fw (x1 : Ab) (H0 : Aa) : Out :=
 Ap (A3 (some [(.bool false), (.sl [] .tight)]) H0) fun x2 H3 =>
 (Be x1).bind fun x4 =>
 (Ae .none .gtr x4 (.int .i64 0)).bind fun x5 =>
 gk x5 true (some x1) fun x6 =>
 gk x5 true (AW x6 (.int .i64 0)) fun x7 =>
 gk x5 true (Ae .none .eql x7 (.int .u8 45)) fun x8 =>
 (Ax x5 x8 (.bool false)).bind fun x9 =>
 AJ (fun j1 =>
 Aj x9 (
 (AS x1 (some (.int .i64 1)) none).bind fun x74 =>
 j1 [x2, x74, x9] H3) (
 j1 [x2, x1, x9] H3)) (fun vs H => Sh.f5s H0 (ag vs 0) (ag vs 1) (ag vs 2) H)
noncomputable def Sh.f3l (H0 : Aa) (rec2 : LK) (x33 x34 x35 x36 x37 x38 : Ab) (H39 : Aa) : Out :=
 (Ad true 3 x33 H39).bind fun x40 =>
 bP H0 (Sh.f3 x40 H39) fun x41 H42 =>
 (unA .not x41).bind fun x43 =>
 gk x43 true (Ac 0 x33) fun x44 =>
 gk x43 true (Ad false 1 x44 H42) fun x45 =>
 gk x43 true (Ac 1 x33) fun x46 =>
 gk x43 true (Ad false 1 x46 H42) fun x47 =>
 gk x43 true (AW x45 x47) fun x48 =>
 gk x43 true (Ae .none .geq x48 (.int .u8 48)) fun x49 =>
 (Ax x43 x49 (.bool false)).bind fun x50 =>
 gk x50 true (Ac 0 x33) fun x51 =>
 gk x50 true (Ad false 1 x51 H42) fun x52 =>
 gk x50 true (Ac 1 x33) fun x53 =>
 gk x50 true (Ad false 1 x53 H42) fun x54 =>
 gk x50 true (AW x52 x54) fun x55 =>
 gk x50 true (Ae .none .leq x55 (.int .u8 57)) fun x56 =>
 (Ax x50 x56 (.bool false)).bind fun x57 =>
 Aj x57 (
 gk x37 true (Ac 1 x33) fun x58 =>
 gk x37 true (Ad false 1 x58 H42) fun x59 =>
 gk x37 true (some x38) fun x60 =>
 gk x37 true (Ae .none .eql x59 x60) fun x61 =>
 (Ax x37 x61 (.bool false)).bind fun x62 =>
 gk x62 true (Ac 0 x33) fun x63 =>
 gk x62 true (Ad false 1 x63 H42) fun x64 =>
 gk x62 true (Ac 1 x33) fun x65 =>
 gk x62 true (Ad false 1 x65 H42) fun x66 =>
 gk x62 true (AW x64 x66) fun x67 =>
 gk x62 true (Ae .none .eql x67 (.int .u8 48)) fun x68 =>
 (Ax x62 x68 (.bool false)).bind fun x69 =>
 gk x69 false (Ac 1 x33) fun x70 =>
 gk x69 false (Ad false 1 x70 H42) fun x71 =>
 gk x69 false (some x38) fun x72 =>
 gk x69 false (Ae .none .gtr x71 x72) fun x73 =>
 gk x69 false (some x73) fun x74 =>
 gk x74 true (Ac 0 x33) fun x75 =>
 gk x74 true (Ad false 1 x75 H42) fun x76 =>
 gk x74 true (some x38) fun x77 =>
 gk x74 true (AW x76 x77) fun x78 =>
 gk x74 true (Ae .none .eql x78 (.int .u8 48)) fun x79 =>
 gk x69 false (Ax x74 x79 (.bool false)) fun x80 =>
 (Ax x69 (.bool true) x80).bind fun x81 =>
 Aj x81 (
 (Ad true 3 x33 H42).bind fun x82 =>
 bP H0 (Sh.f2 x82 H42) fun x83 H84 =>
 (Ay (some [(.bool false), (.sl [] .tight)]) []).bind fun x85 =>
 bP H0 (Au (Af 3 x34 x83 H84)) fun _ H87 =>
 bP H0 (Au (Af 2 x35 x85 H87)) fun _ H89 =>
 (BM [Ad true 3 x34 H89, Ad true 2 x35 H89]).bind fun x90 => rPN H0 x90 H89) (
 (Ac 1 x33).bind fun x91 =>
 (Ad false 1 x91 H42).bind fun x92 =>
 (Ae .none .sub x92 x38).bind fun x93 =>
 (Ae .none .eql x93 (.int .i64 400)).bind fun x94 =>
 Aj x94 (
 (Ac 2 x33).bind fun x95 =>
 bP H0 (Au (Af 1 x95 (.int .i64 4) H42)) fun _ H97 =>
 (Ad true 3 x33 H97).bind fun x98 =>
 (Ay (some [(.bool false), (.sl [] .tight)]) []).bind fun x99 =>
 bP H0 (Au (Af 3 x34 x98 H97)) fun _ H101 =>
 bP H0 (Au (Af 2 x35 x99 H101)) fun _ H103 =>
 (BM [Ad true 3 x34 H103, Ad true 2 x35 H103]).bind fun x104 => rPN H0 x104 H103) (
 (Ac 1 x33).bind fun x105 =>
 (Ad false 1 x105 H42).bind fun x106 =>
 (Ae .none .add x106 (.int .i64 1)).bind fun x107 =>
 (Ac 1 x33).bind fun x108 =>
 bP H0 (Au (Af 1 x108 x107 H42)) fun _ H110 =>
 rec2 [x33, x34, x35, x36, x37, x38] H110))) (
 (Ac 1 x33).bind fun x111 =>
 (Ad false 1 x111 H42).bind fun x112 =>
 (Ae .none .eql x112 x38).bind fun x113 =>
 Aj x113 (
 (Ad true 3 x33 H42).bind fun x114 =>
 bP H0 (Sh.f2 x114 H42) fun x115 H116 =>
 (Ay (some [(.bool false), (.sl [] .tight)]) []).bind fun x117 =>
 bP H0 (Au (Af 3 x34 x115 H116)) fun _ H119 =>
 bP H0 (Au (Af 2 x35 x117 H119)) fun _ H121 =>
 (BM [Ad true 3 x34 H121, Ad true 2 x35 H121]).bind fun x122 => rPN H0 x122 H121) (
 (Ac 0 x33).bind fun x123 =>
 (Ad false 1 x123 H42).bind fun x124 =>
 (Ac 1 x33).bind fun x125 =>
 (Ad false 1 x125 H42).bind fun x126 =>
 (AS x124 (some x36) (some x126)).bind fun x127 =>
 bP H0 (Sh.fw x127 H42) fun x128 H129 =>
 (Ak 0 x128).bind fun x130 =>
 (Ak 1 x128).bind fun x131 =>
 Ap (A3 (some [(.bool false), (.sl [] .tight)]) H129) fun x132 H133 =>
 bP H0 (Au (Af 2 x132 x130 H133)) fun _ H135 =>
 bC (Ad true 3 x33 H135) (fun _ => True) fun x136 =>
 AQ (Au (Af 3 x34 x136 H135)) fun _ H138 =>
 bC (Ad true 2 x132 H138) (fun x139 => Ad true 2 x132 H135 = some x139 ∧ True) fun x139 =>
 bP H0 (Au (Af 2 x35 x139 H138)) fun _ H141 =>
 (BM [Ad true 3 x34 H141, Ad true 2 x35 H141]).bind fun x142 => rPN H0 x142 H141))
noncomputable def Sh.f6d (H0 : Aa) (x25 x26 x27 x28 x29 : Ab) (H30 : Aa) : Out :=
 (Ac 1 x25).bind fun x31 =>
 (Ad false 1 x31 H30).bind fun x32 =>
 Ao (fun rec2 vs H => Sh.f3l H0 rec2 (ag vs 0) (ag vs 1) (ag vs 2) (ag vs 3) (ag vs 4) (ag vs 5) H) AC [x25, x26, x27, x28, x29, x32] H30
noncomputable def Sh.f19 (x1 x2 : Ab) (H0 : Aa) : Out :=
 Ap (BP true 3 x1 H0) fun x3 H4 =>
 Ap (A3 (some [(.str []), (.int .i64 0), (.int .i64 0)]) H4) fun x5 H6 =>
 Ap (A3 (some [(.bool false), (.sl [] .tight)]) H6) fun x7 H8 =>
 (Ac 2 x3).bind fun x9 =>
 (Ad false 1 x9 H8).bind fun x10 =>
 (Ae .none .neq x10 (.int .i64 0)).bind fun x11 =>
 Aj x11 (
 (Ad true 3 x3 H8).bind fun x12 =>
 (Ay (some [(.bool false), (.sl [] .tight)]) []).bind fun x13 =>
 bP H0 (Au (Af 3 x5 x12 H8)) fun _ H15 =>
 bP H0 (Au (Af 2 x7 x13 H15)) fun _ H17 =>
 (BM [Ad true 3 x5 H17, Ad true 2 x7 H17]).bind fun x18 => rPN H0 x18 H17) (
 (Ac 1 x3).bind fun x19 =>
 (Ad false 1 x19 H8).bind fun x20 =>
 gk x2 true (Ad true 3 x3 H8) fun x21 =>
 gbP H0 x2 true H8 (Sh.f5 x21 (.int .u8 45) H8) fun x22 H23 =>
 (Ax x2 x22 (.bool false)).bind fun x24 =>
 AJ (fun j1 =>
 Aj x24 (
 (Ac 1 x3).bind fun x143 =>
 (Ad false 1 x143 H23).bind fun x144 =>
 (Ae .none .add x144 (.int .i64 1)).bind fun x145 =>
 (Ac 1 x3).bind fun x146 =>
 bP H0 (Au (Af 1 x146 x145 H23)) fun _ H148 =>
 j1 [x3, x5, x7, x20, x24] H148) (
 j1 [x3, x5, x7, x20, x24] H23)) (fun vs H => Sh.f6d H0 (ag vs 0) (ag vs 1) (ag vs 2) (ag vs 3) (ag vs 4) H))
noncomputable def Sh.f5t (H0 : Aa) (rec1 : LK) (c_15 x16 from_17 : Ab) (H18 : Aa) : Out :=
 (Ad true 3 c_15 H18).bind fun x19 =>
 bP H0 (Sh.f3 x19 H18) fun x20 H21 =>
 (unA .not x20).bind fun x22 =>
 gk x22 true (Ac 1 c_15) fun x23 =>
 gk x22 true (Ad false 1 x23 H21) fun x24 =>
 gk x22 true (some from_17) fun x25 =>
 gk x22 true (Ae .none .sub x24 x25) fun x26 =>
 gk x22 true (Ae .none .lss x26 (.int .i64 40)) fun x27 =>
 (Ax x22 x27 (.bool false)).bind fun x28 =>
 gk x28 true (Ac 0 c_15) fun x29 =>
 gk x28 true (Ad false 1 x29 H21) fun x30 =>
 gk x28 true (Ac 1 c_15) fun x31 =>
 gk x28 true (Ad false 1 x31 H21) fun x32 =>
 gk x28 true (AW x30 x32) fun x33 =>
 gbP H0 x28 true H21 (Sh.f11 x33 H21) fun x34 H35 =>
 (Ax x28 x34 (.bool false)).bind fun x36 =>
 Aj x36 (
 (Ac 1 c_15).bind fun x37 =>
 (Ad false 1 x37 H35).bind fun x38 =>
 (Ae .none .add x38 (.int .i64 1)).bind fun x39 =>
 (Ac 1 c_15).bind fun x40 =>
 bP H0 (Au (Af 1 x40 x39 H35)) fun _ H42 =>
 rec1 [c_15, x16, from_17] H42) (
 (Ac 1 c_15).bind fun x43 =>
 (Ad false 1 x43 H35).bind fun x44 =>
 (Ae .none .eql x44 from_17).bind fun x45 =>
 Aj x45 (
 (Ad true 3 c_15 H35).bind fun x46 =>
 bP H0 (Sh.f2 x46 H35) fun x47 H48 =>
 bP H0 (Au (Af 3 x16 x47 H48)) fun _ H50 =>
 (BM [Ad true 3 x16 H50, some (.str [])]).bind fun x51 => rP H0 x51 H50) (
 bC (Ad true 3 c_15 H35) (fun _ => True) fun x52 =>
 AQ (Au (Af 3 x16 x52 H35)) fun _ H54 =>
 (Ac 0 c_15).bind fun x55 =>
 bC (Ad false 1 x55 H54) (fun x56 => Ad false 1 x55 H35 = some x56 ∧ True) fun x56 =>
 (Ac 1 c_15).bind fun x57 =>
 bC (Ad false 1 x57 H54) (fun x58 => Ad false 1 x57 H35 = some x58 ∧ True) fun x58 =>
 (AS x56 (some from_17) (some x58)).bind fun x59 =>
 (BM [Ad true 3 x16 H54, some x59]).bind fun x60 => rP H0 x60 H54))
noncomputable def Sh.f1a (c_1 : Ab) (H0 : Aa) : Out :=
 Ap (BP true 3 c_1 H0) fun c_2 H3 =>
 Ap (A3 (some [(.str []), (.int .i64 0), (.int .i64 0)]) H3) fun x4 H5 =>
 (Ac 2 c_2).bind fun x6 =>
 (Ad false 1 x6 H5).bind fun x7 =>
 (Ae .none .neq x7 (.int .i64 0)).bind fun x8 =>
 Aj x8 (
 (Ad true 3 c_2 H5).bind fun x9 =>
 bP H0 (Au (Af 3 x4 x9 H5)) fun _ H11 =>
 (BM [Ad true 3 x4 H11, some (.str [])]).bind fun x12 => rP H0 x12 H11) (
 (Ac 1 c_2).bind fun x13 =>
 (Ad false 1 x13 H5).bind fun x14 =>
 Ao (fun rec1 vs H => Sh.f5t H0 rec1 (ag vs 0) (ag vs 1) (ag vs 2) H) AC [c_2, x4, x14] H5)
noncomputable def Sh.f2x (c_1 s_2 : Ab) (H0 : Aa) : Out :=
 Ap (BP true 3 c_1 H0) fun c_3 H4 =>
 Ap (BP true 4 s_2 H4) fun s_5 H6 =>
 Ap (A3 (some [(.str []), (.int .i64 0), (.int .i64 0)]) H6) fun x7 H8 =>
 Ap (A3 (some [(.str []), (.sl [] .tight), (.sl [] .tight), (.sl [] .tight)]) H8) fun x9 H10 =>
 (Ac 1 c_3).bind fun x11 =>
 (Ad false 1 x11 H10).bind fun x12 =>
 (Ae .none .add x12 (.int .i64 1)).bind fun x13 =>
 (Ac 1 c_3).bind fun x14 =>
 bP H0 (Au (Af 1 x14 x13 H10)) fun _ H16 =>
 (Ad true 3 c_3 H16).bind fun x17 =>
 bP H0 (Sh.f5 x17 (.int .u8 67) H16) fun x18 H19 =>
 Aj x18 (
 bC (Ad true 3 c_3 H19) (fun _ => True) fun x20 =>
 AQ (Sh.fe x20 H19) fun x21 H22 =>
 AQ (Au (Af 3 x7 x21 H22)) fun _ H24 =>
 bC (Ad true 4 s_5 H24) (fun x25 => Ad true 4 s_5 H22 = some x25 ∧ Ad true 4 s_5 H19 = some x25 ∧ True) fun x25 =>
 bP H0 (Au (Af 4 x9 x25 H24)) fun _ H27 =>
 (BM [Ad true 3 x7 H27, Ad true 4 x9 H27]).bind fun x28 => rP H0 x28 H27) (
 (Ad true 3 c_3 H19).bind fun x29 =>
 bP H0 (Sh.f5 x29 (.int .u8 71) H19) fun x30 H31 =>
 Aj x30 (
 (Ad true 3 c_3 H31).bind fun x32 =>
 bP H0 (Sh.f6 x32 (.str [71, 32]) H31) fun x33 H34 =>
 bP H0 (Au (Af 3 c_3 x33 H34)) fun _ H36 =>
 (Ad true 3 c_3 H36).bind fun x37 =>
 bP H0 (Sh.f19 x37 (.bool false) H36) fun x38 H39 =>
 (Ak 0 x38).bind fun x40 =>
 (Ak 1 x38).bind fun x41 =>
 bP H0 (Au (Af 3 c_3 x40 H39)) fun _ H43 =>
 bC (Ad true 3 c_3 H43) (fun _ => True) fun x44 =>
 AQ (Au (Af 3 x7 x44 H43)) fun _ H46 =>
 bC (Ad true 4 s_5 H46) (fun x47 => Ad true 4 s_5 H43 = some x47 ∧ True) fun x47 =>
 bP H0 (Au (Af 4 x9 x47 H46)) fun _ H49 =>
 (BM [Ad true 3 x7 H49, Ad true 4 x9 H49]).bind fun x50 => rP H0 x50 H49) (
 (Ad true 3 c_3 H31).bind fun x51 =>
 bP H0 (Sh.f5 x51 (.int .u8 82) H31) fun x52 H53 =>
 Aj x52 (
 (Ad true 3 c_3 H53).bind fun x54 =>
 bP H0 (Sh.f6 x54 (.str [82, 32]) H53) fun x55 H56 =>
 bP H0 (Au (Af 3 c_3 x55 H56)) fun _ H58 =>
 (Ad true 3 c_3 H58).bind fun x59 =>
 bP H0 (Sh.f1a x59 H58) fun x60 H61 =>
 (Ak 0 x60).bind fun x62 =>
 (Ak 1 x60).bind fun x63 =>
 bP H0 (Au (Af 3 c_3 x62 H61)) fun _ H65 =>
 (Ac 0 s_5).bind fun x66 =>
 bP H0 (Au (Af 1 x66 x63 H65)) fun _ H68 =>
 bC (Ad true 3 c_3 H68) (fun _ => True) fun x69 =>
 AQ (Au (Af 3 x7 x69 H68)) fun _ H71 =>
 bC (Ad true 4 s_5 H71) (fun x72 => Ad true 4 s_5 H68 = some x72 ∧ True) fun x72 =>
 bP H0 (Au (Af 4 x9 x72 H71)) fun _ H74 =>
 (BM [Ad true 3 x7 H74, Ad true 4 x9 H74]).bind fun x75 => rP H0 x75 H74) (
 bC (Ad true 3 c_3 H53) (fun _ => True) fun x76 =>
 AQ (Sh.f2 x76 H53) fun x77 H78 =>
 AQ (Au (Af 3 x7 x77 H78)) fun _ H80 =>
 bC (Ad true 4 s_5 H80) (fun x81 => Ad true 4 s_5 H78 = some x81 ∧ Ad true 4 s_5 H53 = some x81 ∧ True) fun x81 =>
 bP H0 (Au (Af 4 x9 x81 H80)) fun _ H83 =>
 (BM [Ad true 3 x7 H83, Ad true 4 x9 H83]).bind fun x84 => rP H0 x84 H83)))
noncomputable def Sh.f5u (H0 : Aa) (rec2 : LK) (x34 x35 x36 x37 x38 x39 x40 x41 : Ab) (H42 : Aa) : Out :=
 (Ae .none .add x41 (.int .i64 1)).bind fun x43 =>
 rec2 [x34, x35, x36, x37, x38, x39, x40, x43] H42
noncomputable def Sh.f2y (H0 : Aa) (self : Ab → Ab → Ab → Ab → Ab → Aa → Out) (rec2 : LK) (x24 x25 x26 x27 x28 x29 x30 x31 : Ab) (H32 : Aa) : Out :=
 (Ae .none .lss x31 (.int .i64 4)).bind fun x33 =>
 Aj x33 (
 AJ (fun j3 =>
 (Ae .none .rem x31 (.int .i64 2)).bind fun x44 =>
 (Ae .none .mul x44 x29).bind fun x45 =>
 (Ae .none .add x26 x45).bind fun x46 =>
 (Ae .none .quo x31 (.int .i64 2)).bind fun x47 =>
 (Ae .none .mul x47 x29).bind fun x48 =>
 (Ae .none .add x27 x48).bind fun x49 =>
 (Ae .none .eql x25 (.int .i64 1)).bind fun x50 =>
 Aj x50 (
 (AY 8 8 x28 x49).bind fun x51 =>
 (AY 8 1 x51 x46).bind fun x52 =>
 (Ad false 1 x52 H32).bind fun x53 =>
 (Ac 1 x30).bind fun x54 =>
 (AY 4 1 x54 x31).bind fun x55 =>
 bK H0 (Au (Af 1 x55 x53 H32)) fun _ H57 =>
 j3 [x24, x25, x26, x27, x28, x29, x30, x31] H57) (
 (Ad true 64 x28 H32).bind fun x58 =>
 (Ae .none .sub x25 (.int .i64 1)).bind fun x59 =>
 bK H0 (self x24 x58 x59 x46 x49 H32) fun x60 H61 =>
 (Ak 0 x60).bind fun x62 =>
 (Ak 1 x60).bind fun x63 =>
 (Ac 1 x30).bind fun x64 =>
 (AY 4 1 x64 x31).bind fun x65 =>
 bK H0 (Au (Af 1 x65 x63 H61)) fun _ H67 =>
 j3 [x62, x25, x26, x27, x28, x29, x30, x31] H67)) (fun vs H => Sh.f5u H0 rec2 (ag vs 0) (ag vs 1) (ag vs 2) (ag vs 3) (ag vs 4) (ag vs 5) (ag vs 6) (ag vs 7) H)) (
 (Ad true 5 x30 H32).bind fun x68 =>
 (A9 5 [x68]).bind fun x69 =>
 bK H0 (B4 (AA At 5 40 x24 x69 H32)) fun x70 H71 =>
 (AH x70).bind fun x72 =>
 rK H0 (.tup [x70, x72]) H71)
noncomputable def Sh.f4q (H0 : Aa) (self : Ab → Ab → Ab → Ab → Ab → Aa → Out) (rec1 : LK) (x8 x9 x10 x11 x12 x13 x14 : Ab) (H15 : Aa) : Out :=
 (Ae .none .lss x14 x9).bind fun x16 =>
 Aj x16 (
 (Ae .none .mul x13 (.int .i64 2)).bind fun x17 =>
 (Ae .none .add x14 (.int .i64 1)).bind fun x18 =>
 rec1 [x8, x9, x10, x11, x12, x17, x18] H15) (
 (Ay (some [(.int .i64 0), (.int .i64 0), (.int .i64 0), (.int .i64 0), (.int .i64 0)]) [(0, 1, x9)]).bind fun x19 =>
 Ap (A3 (some [(.int .i64 0), (.int .i64 0), (.int .i64 0), (.int .i64 0), (.int .i64 0)]) H15) fun x20 H21 =>
 bK H0 (Au (Af 5 x20 x19 H21)) fun _ H23 =>
 Ao (fun rec2 vs H => Sh.f2y H0 self rec2 (ag vs 0) (ag vs 1) (ag vs 2) (ag vs 3) (ag vs 4) (ag vs 5) (ag vs 6) (ag vs 7) H) AC [x8, x9, x10, x11, x12, x13, x20, (.int .i64 0)] H23)
noncomputable def Sh.f5v (self : Ab → Ab → Ab → Ab → Ab → Aa → Out) (x1 x2 x3 x4 x5 : Ab) (H0 : Aa) : Out :=
 Ap (BP true 64 x2 H0) fun x6 H7 =>
 Ao (fun rec1 vs H => Sh.f4q H0 self rec1 (ag vs 0) (ag vs 1) (ag vs 2) (ag vs 3) (ag vs 4) (ag vs 5) (ag vs 6) H) AC [x1, x3, x4, x5, x6, (.int .i64 1), (.int .i64 1)] H7
noncomputable def Sh.fj : Nat → Ab → Ab → Ab → Ab → Ab → Aa → Out
 | 0 => fun _ _ _ _ _ _ => none
 | d + 1 => Sh.f5v (Sh.fj d)
noncomputable def Sh.f3m (H0 : Aa) (rec1 : LK) (x53 x54 x55 x56 x57 x58 x59 : Ab) (H60 : Aa) : Out :=
 (Ac 1 x53).bind fun x61 =>
 (Ad false 1 x61 H60).bind fun x62 =>
 (Ae .none .add x62 (.int .i64 1)).bind fun x63 =>
 (Ac 1 x53).bind fun x64 =>
 bK H0 (Au (Af 1 x64 x63 H60)) fun _ H66 =>
 rec1 [x53, x54, x55, x56, x57, x58, x59] H66
noncomputable def Sh.f4r (H0 : Aa) (rec1 : LK) (x13 x14 x15 x16 x17 x18 x19 : Ab) (H20 : Aa) : Out :=
 (Ad true 3 x13 H20).bind fun x21 =>
 bK H0 (Sh.f5 x21 (.int .u8 46) H20) fun x22 H23 =>
 gk x22 false (Ad true 3 x13 H23) fun x24 =>
 gbK H0 x22 false H23 (Sh.f5 x24 (.int .u8 42) H23) fun x25 H26 =>
 (Ax x22 (.bool true) x25).bind fun x27 =>
 gk x27 false (Ad true 3 x13 H26) fun x28 =>
 gbK H0 x27 false H26 (Sh.f5 x28 (.int .u8 36) H26) fun x29 H30 =>
 (Ax x27 (.bool true) x29).bind fun x31 =>
 Aj x31 (
 (Ae .none .eql x19 (.int .i64 8)).bind fun x32 =>
 gk x32 false (some x18) fun x33 =>
 gk x32 false (Ae .none .eql x33 (.int .i64 8)) fun x34 =>
 gk x32 false (some x34) fun x35 =>
 gk x35 true (Ac 0 x13) fun x36 =>
 gk x35 true (Ad false 1 x36 H30) fun x37 =>
 gk x35 true (Ac 1 x13) fun x38 =>
 gk x35 true (Ad false 1 x38 H30) fun x39 =>
 gk x35 true (AW x37 x39) fun x40 =>
 gk x35 true (Ae .none .neq x40 (.int .u8 36)) fun x41 =>
 gk x32 false (Ax x35 x41 (.bool false)) fun x42 =>
 (Ax x32 (.bool true) x42).bind fun x43 =>
 Aj x43 (
 bC (Ad true 3 x13 H30) (fun _ => True) fun x44 =>
 AQ (Sh.f2 x44 H30) fun x45 H46 =>
 AQ (Au (Af 3 x15 x45 H46)) fun _ H48 =>
 bC (Ad true 4 x14 H48) (fun x49 => Ad true 4 x14 H46 = some x49 ∧ Ad true 4 x14 H30 = some x49 ∧ True) fun x49 =>
 bK H0 (Au (Af 4 x16 x49 H48)) fun _ H51 =>
 (BM [Ad true 3 x15 H51, Ad true 4 x16 H51]).bind fun x52 => rK H0 x52 H51) (
 AJ (fun j2 =>
 (Ac 0 x13).bind fun x67 =>
 (Ad false 1 x67 H30).bind fun x68 =>
 (Ac 1 x13).bind fun x69 =>
 (Ad false 1 x69 H30).bind fun x70 =>
 (AW x68 x70).bind fun x71 =>
 (Ae .none .eql x71 (.int .u8 36)).bind fun x72 =>
 Aj x72 (
 (Ae .none .add x19 (.int .i64 1)).bind fun x73 =>
 j2 [x13, x14, x15, x16, x17, (.int .i64 0), x73] H30) (
 (Ae .none .eql x71 (.int .u8 42)).bind fun x74 =>
 Aj x74 (
 (AY 8 8 x17 x19).bind fun x75 =>
 (AY 8 1 x75 x18).bind fun x76 =>
 bK H0 (Au (Af 1 x76 (.int .i64 1) H30)) fun _ H78 =>
 (Ae .none .add x18 (.int .i64 1)).bind fun x79 =>
 j2 [x13, x14, x15, x16, x17, x79, x19] H78) (
 (Ae .none .add x18 (.int .i64 1)).bind fun x80 =>
 j2 [x13, x14, x15, x16, x17, x80, x19] H30))) (fun vs H => Sh.f3m H0 rec1 (ag vs 0) (ag vs 1) (ag vs 2) (ag vs 3) (ag vs 4) (ag vs 5) (ag vs 6) H))) (
 (Ac 1 x14).bind fun x81 =>
 (Ad false 1 x81 H30).bind fun x82 =>
 (Ad true 64 x17 H30).bind fun x83 =>
 bK H0 (Sh.fj AC x82 x83 (.int .i64 3) (.int .i64 0) (.int .i64 0) H30) fun x84 H85 =>
 (Ak 0 x84).bind fun x86 =>
 (Ak 1 x84).bind fun x87 =>
 (Ac 1 x14).bind fun x88 =>
 bK H0 (Au (Af 1 x88 x86 H85)) fun _ H90 =>
 (Ac 2 x14).bind fun x91 =>
 bC (Ad false 1 x91 H90) (fun _ => True) fun x92 =>
 (Ac 1 x14).bind fun x93 =>
 bC (Ad false 1 x93 H90) (fun _ => True) fun x94 =>
 (AH x94).bind fun x95 =>
 (A9 1 [x95]).bind fun x96 =>
 AQ (B4 (AA Cp 1 8 x92 x96 H90)) fun x97 H98 =>
 (Ac 3 x14).bind fun x99 =>
 bC (Ad false 1 x99 H98) (fun x100 => Ad false 1 x99 H90 = some x100 ∧ True) fun x100 =>
 (A9 1 [(.int .i64 3)]).bind fun x101 =>
 AQ (B4 (AA Cp 1 8 x100 x101 H98)) fun x102 H103 =>
 (Ac 2 x14).bind fun x104 =>
 AQ (Au (Af 1 x104 x97 H103)) fun _ H106 =>
 (Ac 3 x14).bind fun x107 =>
 bK H0 (Au (Af 1 x107 x102 H106)) fun _ H109 =>
 bC (Ad true 3 x13 H109) (fun _ => True) fun x110 =>
 AQ (Au (Af 3 x15 x110 H109)) fun _ H112 =>
 bC (Ad true 4 x14 H112) (fun x113 => Ad true 4 x14 H109 = some x113 ∧ True) fun x113 =>
 bK H0 (Au (Af 4 x16 x113 H112)) fun _ H115 =>
 (BM [Ad true 3 x15 H115, Ad true 4 x16 H115]).bind fun x116 => rK H0 x116 H115)
noncomputable def Sh.f2z (x1 x2 : Ab) (H0 : Aa) : Out :=
 Ap (BP true 3 x1 H0) fun x3 H4 =>
 Ap (BP true 4 x2 H4) fun x5 H6 =>
 Ap (A3 (some [(.str []), (.int .i64 0), (.int .i64 0)]) H6) fun x7 H8 =>
 Ap (A3 (some [(.str []), (.sl [] .tight), (.sl [] .tight), (.sl [] .tight)]) H8) fun x9 H10 =>
 Ap (A3 (some [(.int .i64 0), (.int .i64 0), (.int .i64 0), (.int .i64 0), (.int .i64 0), (.int .i64 0), (.int .i64 0), (.int .i64 0), (.int .i64 0), (.int .i64 0), (.int .i64 0), (.int .i64 0), (.int .i64 0), (.int .i64 0), (.int .i64 0), (.int .i64 0), (.int .i64 0), (.int .i64 0), (.int .i64 0), (.int .i64 0), (.int .i64 0), (.int .i64 0), (.int .i64 0), (.int .i64 0), (.int .i64 0), (.int .i64 0), (.int .i64 0), (.int .i64 0), (.int .i64 0), (.int .i64 0), (.int .i64 0), (.int .i64 0), (.int .i64 0), (.int .i64 0), (.int .i64 0), (.int .i64 0), (.int .i64 0), (.int .i64 0), (.int .i64 0), (.int .i64 0), (.int .i64 0), (.int .i64 0), (.int .i64 0), (.int .i64 0), (.int .i64 0), (.int .i64 0), (.int .i64 0), (.int .i64 0), (.int .i64 0), (.int .i64 0), (.int .i64 0), (.int .i64 0), (.int .i64 0), (.int .i64 0), (.int .i64 0), (.int .i64 0), (.int .i64 0), (.int .i64 0), (.int .i64 0), (.int .i64 0), (.int .i64 0), (.int .i64 0), (.int .i64 0), (.int .i64 0)]) H10) fun x11 H12 =>
 Ao (fun rec1 vs H => Sh.f4r H0 rec1 (ag vs 0) (ag vs 1) (ag vs 2) (ag vs 3) (ag vs 4) (ag vs 5) (ag vs 6) H) AC [x3, x5, x7, x9, x11, (.int .i64 0), (.int .i64 0)] H12
noncomputable def Sh.f30 (H0 : Aa) (rec2 : LK) (t_23 level_24 s_25 out_26 most_27 n_28 : Ab) (H29 : Aa) : Out :=
 (Ae .none .add n_28 (.int .i64 1)).bind fun x30 =>
 rec2 [t_23, level_24, s_25, out_26, most_27, x30] H29
noncomputable def Sh.f5w (H0 : Aa) (rec2 : LK) (t_15 level_16 s_17 out_18 most_19 n_20 : Ab) (H21 : Aa) : Out :=
 (Ae .none .leq n_20 most_19).bind fun x22 =>
 Aj x22 (
 AJ (fun j3 =>
 (Ae .none .gtr n_20 (.int .i64 0)).bind fun x31 =>
 gk x31 true (some level_16) fun x32 =>
 gk x31 true (Ae .none .gtr x32 (.int .i64 1)) fun x33 =>
 (Ax x31 x33 (.bool false)).bind fun x34 =>
 gk x34 true (Ac 3 s_17) fun x35 =>
 gk x34 true (Ad false 1 x35 H21) fun x36 =>
 gk x34 true (some n_20) fun x37 =>
 gk x34 true (Ae .none .sub x37 (.int .i64 1)) fun x38 =>
 gk x34 true (A6 1 x36 x38) fun x39 =>
 gk x34 true (Ad false 1 x39 H21) fun x40 =>
 gk x34 true (some level_16) fun x41 =>
 gk x34 true (Ae .none .sub x41 (.int .i64 1)) fun x42 =>
 gk x34 true (Ae .none .neq x40 x42) fun x43 =>
 (Ax x34 x43 (.bool false)).bind fun x44 =>
 Aj x44 (
 j3 [t_15, level_16, s_17, out_18, most_19, n_20] H21) (
 bP H0 (Sh.fq n_20 H21) fun x45 H46 =>
 bP H0 (Sh.fr x45 H46) fun x47 H48 =>
 (Ae .none .eql x47 t_15).bind fun x49 =>
 Aj x49 (
 rP H0 (.int .i64 2) H48) (
 bP H0 (Sh.fv x47 t_15 H48) fun x50 H51 =>
 (Be t_15).bind fun x52 =>
 (Ae .none .eql x50 x52).bind fun x53 =>
 Aj x53 (
 j3 [t_15, level_16, s_17, (.int .i64 1), most_19, n_20] H51) (
 j3 [t_15, level_16, s_17, out_18, most_19, n_20] H51)))) (fun vs H => Sh.f30 H0 rec2 (ag vs 0) (ag vs 1) (ag vs 2) (ag vs 3) (ag vs 4) (ag vs 5) H)) (
 rP H0 out_18 H21)
noncomputable def Sh.f5x (H0 : Aa) (t_9 level_10 s_11 out_12 most_13 : Ab) (H14 : Aa) : Out :=
 Ao (fun rec2 vs H => Sh.f5w H0 rec2 (ag vs 0) (ag vs 1) (ag vs 2) (ag vs 3) (ag vs 4) (ag vs 5) H) AC [t_9, level_10, s_11, out_12, most_13, (.int .i64 0)] H14
noncomputable def Sh.f1b (t_1 level_2 s_3 : Ab) (H0 : Aa) : Out :=
 Ap (BP true 4 s_3 H0) fun s_4 H5 =>
 (Ac 2 s_4).bind fun x6 =>
 (Ad false 1 x6 H5).bind fun x7 =>
 (AH x7).bind fun x8 =>
 AJ (fun j1 =>
 (Ae .none .eql level_2 (.int .i64 1)).bind fun x54 =>
 Aj x54 (
 j1 [t_1, level_2, s_4, (.int .i64 0), (.int .i64 255)] H5) (
 j1 [t_1, level_2, s_4, (.int .i64 0), x8] H5)) (fun vs H => Sh.f5x H0 (ag vs 0) (ag vs 1) (ag vs 2) (ag vs 3) (ag vs 4) H)
noncomputable def Sh.f6e (H0 : Aa) (rec1 : LK) (x8 u_9 i_10 : Ab) (H11 : Aa) : Out :=
 (Ae .none .geq i_10 (.int .i64 0)).bind fun x12 =>
 Aj x12 (
 (Ae .none .gtr u_9 (.int .u64 4294967295)).bind fun x13 =>
 Aj x13 (
 rP H0 (.tup [(.int .i64 0), (.bool false)]) H11) (
 (Ae .none .mul u_9 (.int .u64 4294967296)).bind fun x14 =>
 (Ac 1 x8).bind fun x15 =>
 (Ad false 1 x15 H11).bind fun x16 =>
 (A6 1 x16 i_10).bind fun x17 =>
 (Ad false 1 x17 H11).bind fun x18 =>
 (AI .u64 x18).bind fun x19 =>
 (Ae .none .add x14 x19).bind fun x20 =>
 (Ae .none .sub i_10 (.int .i64 1)).bind fun x21 =>
 rec1 [x8, x20, x21] H11)) (
 (Ac 0 x8).bind fun x22 =>
 (Ad false 1 x22 H11).bind fun x23 =>
 gk x23 true (some u_9) fun x24 =>
 gk x23 true (Ae .none .leq x24 (.int .u64 9223372036854775808)) fun x25 =>
 (Ax x23 x25 (.bool false)).bind fun x26 =>
 Aj x26 (
 (unA .neg u_9).bind fun x27 =>
 (AI .i64 x27).bind fun x28 =>
 rP H0 (.tup [x28, (.bool true)]) H11) (
 (Ac 0 x8).bind fun x29 =>
 (Ad false 1 x29 H11).bind fun x30 =>
 gk x30 false (some u_9) fun x31 =>
 gk x30 false (Ae .none .gtr x31 (.int .u64 9223372036854775807)) fun x32 =>
 (Ax x30 (.bool true) x32).bind fun x33 =>
 Aj x33 (
 rP H0 (.tup [(.int .i64 0), (.bool false)]) H11) (
 (AI .i64 u_9).bind fun x34 =>
 rP H0 (.tup [x34, (.bool true)]) H11)))
noncomputable def Sh.f1c (x1 : Ab) (H0 : Aa) : Out :=
 Ap (BP true 2 x1 H0) fun x2 H3 =>
 (Ac 1 x2).bind fun x4 =>
 (Ad false 1 x4 H3).bind fun x5 =>
 (AH x5).bind fun x6 =>
 (Ae .none .sub x6 (.int .i64 1)).bind fun x7 =>
 Ao (fun rec1 vs H => Sh.f6e H0 rec1 (ag vs 0) (ag vs 1) (ag vs 2) H) AC [x2, (.int .u64 0), x7] H3
noncomputable def Sh.f5y (H0 : Aa) (x93 x94 x95 : Ab) (H96 : Aa) : Out :=
 (Ad true 3 x93 H96).bind fun x97 =>
 bP H0 (Au (Af 3 x94 x97 H96)) fun _ H99 =>
 (BM [Ad true 3 x94 H99, some x95]).bind fun x100 => rP H0 x100 H99
noncomputable def Sh.f5z (H0 : Aa) (rec1 : LK) (x19 x20 x21 x22 x23 : Ab) (H24 : Aa) : Out :=
 (Ad true 3 x20 H24).bind fun x25 =>
 bP H0 (Sh.f3 x25 H24) fun x26 H27 =>
 (unA .not x26).bind fun x28 =>
 gk x28 true (Ac 0 x20) fun x29 =>
 gk x28 true (Ad false 1 x29 H27) fun x30 =>
 gk x28 true (Ac 1 x20) fun x31 =>
 gk x28 true (Ad false 1 x31 H27) fun x32 =>
 gk x28 true (AW x30 x32) fun x33 =>
 gk x28 true (Ae .none .geq x33 (.int .u8 48)) fun x34 =>
 (Ax x28 x34 (.bool false)).bind fun x35 =>
 gk x35 true (Ac 0 x20) fun x36 =>
 gk x35 true (Ad false 1 x36 H27) fun x37 =>
 gk x35 true (Ac 1 x20) fun x38 =>
 gk x35 true (Ad false 1 x38 H27) fun x39 =>
 gk x35 true (AW x37 x39) fun x40 =>
 gk x35 true (Ae .none .leq x40 (.int .u8 57)) fun x41 =>
 (Ax x35 x41 (.bool false)).bind fun x42 =>
 Aj x42 (
 (Ac 0 x20).bind fun x43 =>
 bC (Ad false 1 x43 H27) (fun _ => True) fun x44 =>
 (Ac 1 x20).bind fun x45 =>
 bC (Ad false 1 x45 H27) (fun _ => True) fun x46 =>
 (Ae .none .add x46 (.int .i64 1)).bind fun x47 =>
 (AS x44 (some x23) (some x47)).bind fun x48 =>
 bC (Ad true 4 x21 H27) (fun _ => True) fun x49 =>
 AQ (Sh.f1b x48 x19 x49 H27) fun x50 H51 =>
 (Ae .none .eql x50 (.int .i64 0)).bind fun x52 =>
 Aj x52 (
 (Ad true 3 x20 H51).bind fun x53 =>
 bP H0 (Sh.f2 x53 H51) fun x54 H55 =>
 bP H0 (Au (Af 3 x22 x54 H55)) fun _ H57 =>
 (BM [Ad true 3 x22 H57, some (.int .i64 0)]).bind fun x58 => rP H0 x58 H57) (
 (Ac 1 x20).bind fun x59 =>
 (Ad false 1 x59 H51).bind fun x60 =>
 (Ae .none .add x60 (.int .i64 1)).bind fun x61 =>
 (Ac 1 x20).bind fun x62 =>
 bP H0 (Au (Af 1 x62 x61 H51)) fun _ H64 =>
 rec1 [x19, x20, x21, x22, x23] H64)) (
 (Ac 0 x20).bind fun x65 =>
 (Ad false 1 x65 H27).bind fun x66 =>
 (Ac 1 x20).bind fun x67 =>
 (Ad false 1 x67 H27).bind fun x68 =>
 (AS x66 (some x23) (some x68)).bind fun x69 =>
 (Ad true 4 x21 H27).bind fun x70 =>
 bP H0 (Sh.f1b x69 x19 x70 H27) fun x71 H72 =>
 (Ae .none .lss x71 (.int .i64 2)).bind fun x73 =>
 Aj x73 (
 (Ad true 3 x20 H72).bind fun x74 =>
 bP H0 (Sh.f2 x74 H72) fun x75 H76 =>
 bP H0 (Au (Af 3 x22 x75 H76)) fun _ H78 =>
 (BM [Ad true 3 x22 H78, some (.int .i64 0)]).bind fun x79 => rP H0 x79 H78) (
 bP H0 (Sh.fw x69 H72) fun x80 H81 =>
 (Ak 0 x80).bind fun x82 =>
 (Ak 1 x80).bind fun x83 =>
 Ap (A3 (some [(.bool false), (.sl [] .tight)]) H81) fun x84 H85 =>
 bP H0 (Au (Af 2 x84 x82 H85)) fun _ H87 =>
 (Ad true 2 x84 H87).bind fun x88 =>
 bP H0 (Sh.f1c x88 H87) fun x89 H90 =>
 (Ak 0 x89).bind fun x91 =>
 (Ak 1 x89).bind fun x92 =>
 AJ (fun j2 =>
 (Ae .none .gtr x19 (.int .i64 1)).bind fun x101 =>
 gk x101 true (some x91) fun x102 =>
 gk x101 true (Ae .none .gtr x102 (.int .i64 0)) fun x103 =>
 (Ax x101 x103 (.bool false)).bind fun x104 =>
 Aj x104 (
 (Ac 2 x21).bind fun x105 =>
 (Ad false 1 x105 H90).bind fun x106 =>
 (Ae .none .sub x91 (.int .i64 1)).bind fun x107 =>
 (A6 1 x106 x107).bind fun x108 =>
 (Ad false 1 x108 H90).bind fun x109 =>
 j2 [x20, x22, x109] H90) (
 j2 [x20, x22, x91] H90)) (fun vs H => Sh.f5y H0 (ag vs 0) (ag vs 1) (ag vs 2) H)))
noncomputable def Sh.f1d (x1 x2 x3 : Ab) (H0 : Aa) : Out :=
 Ap (BP true 3 x1 H0) fun x4 H5 =>
 Ap (BP true 4 x3 H5) fun x6 H7 =>
 Ap (A3 (some [(.str []), (.int .i64 0), (.int .i64 0)]) H7) fun x8 H9 =>
 (Ac 2 x4).bind fun x10 =>
 (Ad false 1 x10 H9).bind fun x11 =>
 (Ae .none .neq x11 (.int .i64 0)).bind fun x12 =>
 Aj x12 (
 (Ad true 3 x4 H9).bind fun x13 =>
 bP H0 (Au (Af 3 x8 x13 H9)) fun _ H15 =>
 (BM [Ad true 3 x8 H15, some (.int .i64 0)]).bind fun x16 => rP H0 x16 H15) (
 (Ac 1 x4).bind fun x17 =>
 (Ad false 1 x17 H9).bind fun x18 =>
 Ao (fun rec1 vs H => Sh.f5z H0 rec1 (ag vs 0) (ag vs 1) (ag vs 2) (ag vs 3) (ag vs 4) H) AC [x2, x4, x6, x8, x18] H9)
noncomputable def Sh.f31 (s_1 n_2 : Ab) (H0 : Aa) : Out :=
 Ap (BP true 4 s_1 H0) fun s_3 H4 =>
 Ap (BP true 5 n_2 H4) fun n_5 H6 =>
 Ap (A3 (some [(.str []), (.sl [] .tight), (.sl [] .tight), (.sl [] .tight)]) H6) fun x7 H8 =>
 (Ac 1 s_3).bind fun x9 =>
 (Ad false 1 x9 H8).bind fun x10 =>
 (Ad true 5 n_5 H8).bind fun x11 =>
 (A9 5 [x11]).bind fun x12 =>
 bK H0 (B4 (AA At 5 40 x10 x12 H8)) fun x13 H14 =>
 (Ac 1 s_3).bind fun x15 =>
 bK H0 (Au (Af 1 x15 x13 H14)) fun _ H17 =>
 (Ac 2 s_3).bind fun x18 =>
 bC (Ad false 1 x18 H17) (fun _ => True) fun x19 =>
 (Ac 1 s_3).bind fun x20 =>
 bC (Ad false 1 x20 H17) (fun _ => True) fun x21 =>
 (AH x21).bind fun x22 =>
 (A9 1 [x22]).bind fun x23 =>
 AQ (B4 (AA Cp 1 8 x19 x23 H17)) fun x24 H25 =>
 (Ac 3 s_3).bind fun x26 =>
 bC (Ad false 1 x26 H25) (fun x27 => Ad false 1 x26 H17 = some x27 ∧ True) fun x27 =>
 (Ac 0 n_5).bind fun x28 =>
 bC (Ad false 1 x28 H25) (fun x29 => Ad false 1 x28 H17 = some x29 ∧ True) fun x29 =>
 (A9 1 [x29]).bind fun x30 =>
 AQ (B4 (AA Cp 1 8 x27 x30 H25)) fun x31 H32 =>
 (Ac 2 s_3).bind fun x33 =>
 AQ (Au (Af 1 x33 x24 H32)) fun _ H35 =>
 (Ac 3 s_3).bind fun x36 =>
 bK H0 (Au (Af 1 x36 x31 H35)) fun _ H38 =>
 (Ad true 4 s_3 H38).bind fun x39 =>
 bK H0 (Au (Af 4 x7 x39 H38)) fun _ H41 =>
 (Ad true 4 x7 H41).bind fun x42 => rK H0 x42 H41
noncomputable def Sh.f1e (H0 : Aa) (rec2 : LK) (x93 x94 x95 x96 x97 x98 x99 : Ab) (H100 : Aa) : Out :=
 (Ae .none .lss x99 (.int .i64 4)).bind fun x101 =>
 Aj x101 (
 (Ad true 3 x93 H100).bind fun x102 =>
 bK H0 (Sh.f6 x102 (.str [32]) H100) fun x103 H104 =>
 bK H0 (Au (Af 3 x93 x103 H104)) fun _ H106 =>
 (Ad true 3 x93 H106).bind fun x107 =>
 (Ad true 4 x94 H106).bind fun x108 =>
 bK H0 (Sh.f1d x107 x97 x108 H106) fun x109 H110 =>
 (Ak 0 x109).bind fun x111 =>
 (Ak 1 x109).bind fun x112 =>
 bK H0 (Au (Af 3 x93 x111 H110)) fun _ H114 =>
 (Ac 1 x98).bind fun x115 =>
 (AY 4 1 x115 x99).bind fun x116 =>
 bK H0 (Au (Af 1 x116 x112 H114)) fun _ H118 =>
 (Ae .none .add x99 (.int .i64 1)).bind fun x119 =>
 rec2 [x93, x94, x95, x96, x97, x98, x119] H118) (
 (Ac 2 x93).bind fun x120 =>
 (Ad false 1 x120 H100).bind fun x121 =>
 (Ae .none .neq x121 (.int .i64 0)).bind fun x122 =>
 Aj x122 (
 bC (Ad true 3 x93 H100) (fun _ => True) fun x123 =>
 AQ (Au (Af 3 x95 x123 H100)) fun _ H125 =>
 bC (Ad true 4 x94 H125) (fun x126 => Ad true 4 x94 H100 = some x126 ∧ True) fun x126 =>
 bK H0 (Au (Af 4 x96 x126 H125)) fun _ H128 =>
 (BM [Ad true 3 x95 H128, Ad true 4 x96 H128]).bind fun x129 => rK H0 x129 H128) (
 bC (Ad true 4 x94 H100) (fun _ => True) fun x130 =>
 bC (Ad true 5 x98 H100) (fun _ => True) fun x131 =>
 AQ (Sh.f31 x130 x131 H100) fun x132 H133 =>
 bC (Ad true 3 x93 H133) (fun x134 => Ad true 3 x93 H100 = some x134 ∧ True) fun x134 =>
 AQ (Au (Af 3 x95 x134 H133)) fun _ H136 =>
 bK H0 (Au (Af 4 x96 x132 H136)) fun _ H138 =>
 (BM [Ad true 3 x95 H138, Ad true 4 x96 H138]).bind fun x139 => rK H0 x139 H138))
noncomputable def Sh.f4s (H0 : Aa) (rec1 : LK) (x11 x12 x13 x14 x15 : Ab) (H16 : Aa) : Out :=
 (Ad true 3 x11 H16).bind fun x17 =>
 bK H0 (Sh.f3 x17 H16) fun x18 H19 =>
 (unA .not x18).bind fun x20 =>
 gk x20 true (Ac 0 x11) fun x21 =>
 gk x20 true (Ad false 1 x21 H19) fun x22 =>
 gk x20 true (Ac 1 x11) fun x23 =>
 gk x20 true (Ad false 1 x23 H19) fun x24 =>
 gk x20 true (AW x22 x24) fun x25 =>
 gk x20 true (Ae .none .geq x25 (.int .u8 48)) fun x26 =>
 (Ax x20 x26 (.bool false)).bind fun x27 =>
 gk x27 true (Ac 0 x11) fun x28 =>
 gk x27 true (Ad false 1 x28 H19) fun x29 =>
 gk x27 true (Ac 1 x11) fun x30 =>
 gk x27 true (Ad false 1 x30 H19) fun x31 =>
 gk x27 true (AW x29 x31) fun x32 =>
 gk x27 true (Ae .none .leq x32 (.int .u8 57)) fun x33 =>
 (Ax x27 x33 (.bool false)).bind fun x34 =>
 Aj x34 (
 (Ae .none .eql x15 (.int .i64 0)).bind fun x35 =>
 gk x35 true (Ac 0 x11) fun x36 =>
 gk x35 true (Ad false 1 x36 H19) fun x37 =>
 gk x35 true (Ac 1 x11) fun x38 =>
 gk x35 true (Ad false 1 x38 H19) fun x39 =>
 gk x35 true (AW x37 x39) fun x40 =>
 gk x35 true (Ae .none .eql x40 (.int .u8 48)) fun x41 =>
 (Ax x35 x41 (.bool false)).bind fun x42 =>
 Aj x42 (
 bC (Ad true 3 x11 H19) (fun _ => True) fun x43 =>
 AQ (Sh.f2 x43 H19) fun x44 H45 =>
 AQ (Au (Af 3 x13 x44 H45)) fun _ H47 =>
 bC (Ad true 4 x12 H47) (fun x48 => Ad true 4 x12 H45 = some x48 ∧ Ad true 4 x12 H19 = some x48 ∧ True) fun x48 =>
 bK H0 (Au (Af 4 x14 x48 H47)) fun _ H50 =>
 (BM [Ad true 3 x13 H50, Ad true 4 x14 H50]).bind fun x51 => rK H0 x51 H50) (
 (Ae .none .mul (.int .i64 10) x15).bind fun x52 =>
 (Ac 0 x11).bind fun x53 =>
 (Ad false 1 x53 H19).bind fun x54 =>
 (Ac 1 x11).bind fun x55 =>
 (Ad false 1 x55 H19).bind fun x56 =>
 (AW x54 x56).bind fun x57 =>
 (Ae .none .sub x57 (.int .u8 48)).bind fun x58 =>
 (AI .i64 x58).bind fun x59 =>
 (Ae .none .add x52 x59).bind fun x60 =>
 (Ae .none .gtr x60 (.int .i64 1329)).bind fun x61 =>
 Aj x61 (
 (Ac 2 x11).bind fun x62 =>
 bK H0 (Au (Af 1 x62 (.int .i64 4) H19)) fun _ H64 =>
 bC (Ad true 3 x11 H64) (fun _ => True) fun x65 =>
 AQ (Au (Af 3 x13 x65 H64)) fun _ H67 =>
 bC (Ad true 4 x12 H67) (fun x68 => Ad true 4 x12 H64 = some x68 ∧ True) fun x68 =>
 bK H0 (Au (Af 4 x14 x68 H67)) fun _ H70 =>
 (BM [Ad true 3 x13 H70, Ad true 4 x14 H70]).bind fun x71 => rK H0 x71 H70) (
 (Ac 1 x11).bind fun x72 =>
 (Ad false 1 x72 H19).bind fun x73 =>
 (Ae .none .add x73 (.int .i64 1)).bind fun x74 =>
 (Ac 1 x11).bind fun x75 =>
 bK H0 (Au (Af 1 x75 x74 H19)) fun _ H77 =>
 rec1 [x11, x12, x13, x14, x60] H77))) (
 (Ae .none .eql x15 (.int .i64 0)).bind fun x78 =>
 Aj x78 (
 bC (Ad true 3 x11 H19) (fun _ => True) fun x79 =>
 AQ (Sh.f2 x79 H19) fun x80 H81 =>
 AQ (Au (Af 3 x13 x80 H81)) fun _ H83 =>
 bC (Ad true 4 x12 H83) (fun x84 => Ad true 4 x12 H81 = some x84 ∧ Ad true 4 x12 H19 = some x84 ∧ True) fun x84 =>
 bK H0 (Au (Af 4 x14 x84 H83)) fun _ H86 =>
 (BM [Ad true 3 x13 H86, Ad true 4 x14 H86]).bind fun x87 => rK H0 x87 H86) (
 (Ay (some [(.int .i64 0), (.int .i64 0), (.int .i64 0), (.int .i64 0), (.int .i64 0)]) [(0, 1, x15)]).bind fun x88 =>
 Ap (A3 (some [(.int .i64 0), (.int .i64 0), (.int .i64 0), (.int .i64 0), (.int .i64 0)]) H19) fun x89 H90 =>
 bK H0 (Au (Af 5 x89 x88 H90)) fun _ H92 =>
 Ao (fun rec2 vs H => Sh.f1e H0 rec2 (ag vs 0) (ag vs 1) (ag vs 2) (ag vs 3) (ag vs 4) (ag vs 5) (ag vs 6) H) AC [x11, x12, x13, x14, x15, x89, (.int .i64 0)] H92))
noncomputable def Sh.f32 (x1 x2 : Ab) (H0 : Aa) : Out :=
 Ap (BP true 3 x1 H0) fun x3 H4 =>
 Ap (BP true 4 x2 H4) fun x5 H6 =>
 Ap (A3 (some [(.str []), (.int .i64 0), (.int .i64 0)]) H6) fun x7 H8 =>
 Ap (A3 (some [(.str []), (.sl [] .tight), (.sl [] .tight), (.sl [] .tight)]) H8) fun x9 H10 =>
 Ao (fun rec1 vs H => Sh.f4s H0 rec1 (ag vs 0) (ag vs 1) (ag vs 2) (ag vs 3) (ag vs 4) H) AC [x3, x5, x7, x9, (.int .i64 0)] H10
noncomputable def Sh.fk (c_1 p_2 e_3 m_4 : Ab) (H0 : Aa) : Out :=
 Ap (BP true 3 c_1 H0) fun c_5 H6 =>
 Ap (BP true 2 p_2 H6) fun p_7 H8 =>
 Ap (BP true 2 m_4 H8) fun m_9 H10 =>
 Ap (A3 (some [(.str []), (.sl [] .tight)]) H10) fun x11 H12 =>
 (Ac 2 c_5).bind fun x13 =>
 (Ad false 1 x13 H12).bind fun x14 =>
 (Ae .none .neq x14 (.int .i64 0)).bind fun x15 =>
 Aj x15 (
 (Ay (some [(.str []), (.sl [] .tight)]) []).bind fun x16 =>
 AQ (Au (Af 2 x11 x16 H12)) fun _ H18 =>
 (Ac 1 c_5).bind fun x19 =>
 bC (Ad false 1 x19 H18) (fun x20 => Ad false 1 x19 H12 = some x20 ∧ True) fun x20 =>
 (Ac 2 c_5).bind fun x21 =>
 bC (Ad false 1 x21 H18) (fun x22 => Ad false 1 x21 H12 = some x22 ∧ True) fun x22 =>
 (BM [Ad true 2 x11 H18, some x20, some x22]).bind fun x23 => rPN H0 x23 H18) (
 (Ae .none .neq e_3 (.int .i64 0)).bind fun x24 =>
 gk x24 false (Ac 1 p_7) fun x25 =>
 gk x24 false (Ac 0 x25) fun x26 =>
 gk x24 false (Ad false 1 x26 H12) fun x27 =>
 gk x24 false (AH x27) fun x28 =>
 gk x24 false (Ac 1 m_9) fun x29 =>
 gk x24 false (Ad false 1 x29 H12) fun x30 =>
 gk x24 false (Ae .none .gtr x28 x30) fun x31 =>
 (Ax x24 (.bool true) x31).bind fun x32 =>
 Aj x32 (
 (Ay (some [(.str []), (.sl [] .tight)]) []).bind fun x33 =>
 AQ (Au (Af 2 x11 x33 H12)) fun _ H35 =>
 (Ac 0 c_5).bind fun x36 =>
 bC (Ad false 1 x36 H35) (fun x37 => Ad false 1 x36 H12 = some x37 ∧ True) fun x37 =>
 (Be x37).bind fun x38 =>
 (BM [Ad true 2 x11 H35, some x38, some (.int .i64 4)]).bind fun x39 => rPN H0 x39 H35) (
 (Ad true 2 p_7 H12).bind fun x40 =>
 bP H0 (Au (Af 2 x11 x40 H12)) fun _ H42 =>
 (BM [Ad true 2 x11 H42, some (.int .i64 0), some (.int .i64 0)]).bind fun x43 => rPN H0 x43 H42))
noncomputable def Sh.f33 (l_1 n_2 : Ab) (H0 : Aa) : Out :=
 bK H0 (Sh.f9 l_1 H0) fun x3 H4 =>
 (A6 1 x3 n_2).bind fun x5 =>
 (Ad false 1 x5 H4).bind fun x6 =>
 rK H0 x6 H4
noncomputable def Sh.f34 (l_1 n_2 k_3 : Ab) (H0 : Aa) : Out :=
 (Ae .none .sub n_2 (.int .i64 1)).bind fun x4 =>
 (A6 5 l_1 x4).bind fun x5 =>
 (Ac 1 x5).bind fun x6 =>
 (AY 4 1 x6 k_3).bind fun x7 =>
 (Ad false 1 x7 H0).bind fun x8 =>
 (Ae .none .eql x8 (.int .i64 0)).bind fun x9 =>
 Aj x9 (
 rK H0 (.int .i64 0) H0) (
 (Ae .none .sub x8 (.int .i64 1)).bind fun x10 =>
 (Ae .none .sub (.int .i64 3) k_3).bind fun x11 =>
 (A6 5 l_1 x10).bind fun x12 =>
 (Ac 1 x12).bind fun x13 =>
 (AY 4 1 x13 x11).bind fun x14 =>
 (Ad false 1 x14 H0).bind fun x15 =>
 rK H0 x15 H0)
noncomputable def Sh.f4t (H0 : Aa) (rec1 : LK) (rec2 : LK) (n_23 out_24 x25 k_26 : Ab) (H27 : Aa) : Out :=
 (Ae .none .lss k_26 (.int .i64 4)).bind fun x28 =>
 Aj x28 (
 bP H0 (Sh.f34 out_24 n_23 k_26 H27) fun x29 H30 =>
 (Ac 1 x25).bind fun x31 =>
 (AY 4 1 x31 k_26).bind fun x32 =>
 bP H0 (Au (Af 1 x32 x29 H30)) fun _ H34 =>
 (Ae .none .add k_26 (.int .i64 1)).bind fun x35 =>
 rec2 [n_23, out_24, x25, x35] H34) (
 (Ad true 5 x25 H27).bind fun x36 =>
 (A9 5 [x36]).bind fun x37 =>
 bP H0 (B4 (AA At 5 40 out_24 x37 H27)) fun x38 H39 =>
 (AH x38).bind fun x40 =>
 rec1 [x40, x38] H39)
noncomputable def Sh.f60 (H0 : Aa) (rec1 : LK) (n_8 out_9 : Ab) (H10 : Aa) : Out :=
 bP H0 (Sh.f12 out_9 n_8 H10) fun x11 H12 =>
 Aj x11 (
 (Ae .none .sub n_8 (.int .i64 1)).bind fun x13 =>
 (A6 5 out_9 x13).bind fun x14 =>
 (Ac 0 x14).bind fun x15 =>
 (Ad false 1 x15 H12).bind fun x16 =>
 (Ae .none .sub x16 (.int .i64 1)).bind fun x17 =>
 (Ay (some [(.int .i64 0), (.int .i64 0), (.int .i64 0), (.int .i64 0), (.int .i64 0)]) [(0, 1, x17)]).bind fun x18 =>
 Ap (A3 (some [(.int .i64 0), (.int .i64 0), (.int .i64 0), (.int .i64 0), (.int .i64 0)]) H12) fun x19 H20 =>
 bP H0 (Au (Af 5 x19 x18 H20)) fun _ H22 =>
 Ao (fun rec2 vs H => Sh.f4t H0 rec1 rec2 (ag vs 0) (ag vs 1) (ag vs 2) (ag vs 3) H) AC [n_8, out_9, x19, (.int .i64 0)] H22) (
 rPN H0 (.tup [out_9, n_8]) H12)
noncomputable def Sh.f35 (l_1 n_2 : Ab) (H0 : Aa) : Out :=
 (A9 5 []).bind fun x3 =>
 bP H0 (B4 (AA At 5 40 x3 l_1 H0)) fun x4 H5 =>
 bP H0 (Sh.f33 x4 n_2 H5) fun x6 H7 =>
 Aj x6 (
 rPN H0 (.tup [x4, (.int .i64 0)]) H7) (
 Ao (fun rec1 vs H => Sh.f60 H0 rec1 (ag vs 0) (ag vs 1) H) AC [n_2, x4] H7)
noncomputable def Sh.f4u (H0 : Aa) (rec1 : LK) (l_5 x6 i_7 : Ab) (H8 : Aa) : Out :=
 (AH l_5).bind fun x9 =>
 (Ae .none .lss i_7 x9).bind fun x10 =>
 Aj x10 (
 (A6 5 l_5 i_7).bind fun x11 =>
 bC (Ad true 5 x11 H8) (fun _ => True) fun x12 =>
 bC (Ad true 5 x6 H8) (fun _ => True) fun x13 =>
 (Ae (.flat 5) .eql x12 x13).bind fun x14 =>
 Aj x14 (
 (Ae .none .add i_7 (.int .i64 1)).bind fun x15 =>
 rP H0 x15 H8) (
 (Ae .none .add i_7 (.int .i64 1)).bind fun x16 =>
 rec1 [l_5, x6, x16] H8)) (
 rP H0 (.int .i64 0) H8)
noncomputable def Sh.f36 (l_1 x2 : Ab) (H0 : Aa) : Out :=
 Ap (BP true 5 x2 H0) fun x3 H4 =>
 Ao (fun rec1 vs H => Sh.f4u H0 rec1 (ag vs 0) (ag vs 1) (ag vs 2) H) AC [l_1, x3, (.int .i64 0)] H4
noncomputable def Sh.f61 (H0 : Aa) (x49 x50 x51 x52 : Ab) (H53 : Aa) : Out :=
 (A6 1 x51 x49).bind fun x54 =>
 bK H0 (Au (Af 1 x54 x52 H53)) fun _ H56 =>
 rK H0 (.tup [x50, x51, x52]) H56
noncomputable def Sh.f4v (H0 : Aa) (self : Ab → Ab → Ab → Ab → Ab → Aa → Out) (rec1 : LK) (x20 x21 x22 x23 x24 x25 x26 : Ab) (H27 : Aa) : Out :=
 (Ae .none .lss x26 (.int .i64 4)).bind fun x28 =>
 gk x28 true (Ac 0 x25) fun x29 =>
 gk x28 true (Ad false 1 x29 H27) fun x30 =>
 gk x28 true (Ae .none .gtr x30 (.int .i64 1)) fun x31 =>
 (Ax x28 x31 (.bool false)).bind fun x32 =>
 Aj x32 (
 (Ac 1 x25).bind fun x33 =>
 (AY 4 1 x33 x26).bind fun x34 =>
 (Ad false 1 x34 H27).bind fun x35 =>
 bK H0 (self x20 x21 x35 x23 x24 H27) fun x36 H37 =>
 (Ak 0 x36).bind fun x38 =>
 (Ak 1 x36).bind fun x39 =>
 (Ak 2 x36).bind fun x40 =>
 (Ac 1 x25).bind fun x41 =>
 (AY 4 1 x41 x26).bind fun x42 =>
 bK H0 (Au (Af 1 x42 x40 H37)) fun _ H44 =>
 (Ae .none .add x26 (.int .i64 1)).bind fun x45 =>
 rec1 [x20, x21, x22, x38, x39, x25, x45] H44) (
 (Ad true 5 x25 H27).bind fun x46 =>
 bK H0 (Sh.f36 x23 x46 H27) fun x47 H48 =>
 AJ (fun j2 =>
 (Ae .none .eql x47 (.int .i64 0)).bind fun x57 =>
 Aj x57 (
 (Ad true 5 x25 H48).bind fun x58 =>
 (A9 5 [x58]).bind fun x59 =>
 bK H0 (B4 (AA At 5 40 x23 x59 H48)) fun x60 H61 =>
 (AH x60).bind fun x62 =>
 j2 [x22, x60, x24, x62] H61) (
 j2 [x22, x23, x24, x47] H48)) (fun vs H => Sh.f61 H0 (ag vs 0) (ag vs 1) (ag vs 2) (ag vs 3) H))
noncomputable def Sh.f3n (self : Ab → Ab → Ab → Ab → Ab → Aa → Out) (x1 x2 x3 x4 x5 : Ab) (H0 : Aa) : Out :=
 (A6 1 x2 x3).bind fun x6 =>
 (Ad false 1 x6 H0).bind fun x7 =>
 Aj x7 (
 rK H0 (.tup [x4, x5, (.int .i64 0)]) H0) (
 (A6 1 x5 x3).bind fun x8 =>
 (Ad false 1 x8 H0).bind fun x9 =>
 (Ae .none .gtr x9 (.int .i64 0)).bind fun x10 =>
 Aj x10 (
 (A6 1 x5 x3).bind fun x11 =>
 bC (Ad false 1 x11 H0) (fun _ => True) fun x12 =>
 rK H0 (.tup [x4, x5, x12]) H0) (
 (Ae .none .sub x3 (.int .i64 1)).bind fun x13 =>
 (A6 5 x1 x13).bind fun x14 =>
 (Ad true 5 x14 H0).bind fun x15 =>
 Ap (A3 (some [(.int .i64 0), (.int .i64 0), (.int .i64 0), (.int .i64 0), (.int .i64 0)]) H0) fun x16 H17 =>
 bK H0 (Au (Af 5 x16 x15 H17)) fun _ H19 =>
 Ao (fun rec1 vs H => Sh.f4v H0 self rec1 (ag vs 0) (ag vs 1) (ag vs 2) (ag vs 3) (ag vs 4) (ag vs 5) (ag vs 6) H) AC [x1, x2, x3, x4, x5, x16, (.int .i64 0)] H19))
noncomputable def Sh.fl : Nat → Ab → Ab → Ab → Ab → Ab → Aa → Out
 | 0 => fun _ _ _ _ _ _ => none
 | d + 1 => Sh.f3n (Sh.fl d)
noncomputable def Sh.f1f (l_1 n_2 : Ab) (H0 : Aa) : Out :=
 Ap (A3 (some [(.sl [] .tight)]) H0) fun x3 H4 =>
 bP H0 (Sh.fh l_1 H4) fun x5 H6 =>
 (unA .not x5).bind fun x7 =>
 gk x7 false (some n_2) fun x8 =>
 gk x7 false (Ae .none .lss x8 (.int .i64 0)) fun x9 =>
 (Ax x7 (.bool true) x9).bind fun x10 =>
 gk x10 false (some n_2) fun x11 =>
 gk x10 false (some l_1) fun x12 =>
 gk x10 false (AH x12) fun x13 =>
 gk x10 false (Ae .none .gtr x11 x13) fun x14 =>
 (Ax x10 (.bool true) x14).bind fun x15 =>
 Aj x15 (
 (Ay (some [(.sl [] .tight)]) []).bind fun x16 =>
 bP H0 (Au (Af 1 x3 x16 H6)) fun _ H18 =>
 (BM [Ad true 1 x3 H18, some (.int .i64 1)]).bind fun x19 => rPN H0 x19 H18) (
 bP H0 (Sh.f35 l_1 n_2 H6) fun x20 H21 =>
 (Ak 0 x20).bind fun x22 =>
 (Ak 1 x20).bind fun x23 =>
 AQ (Sh.f9 x22 H21) fun x24 H25 =>
 (AH x22).bind fun x26 =>
 (Ae .none .add x26 (.int .i64 1)).bind fun x27 =>
 Ap (Fu 1 8 (some [(.int .i64 0)]) x27 x27 H25) fun x28 H29 =>
 AQ (Sh.fl AC x22 x24 x23 (.sl [] .tight) x28 H29) fun x30 H31 =>
 (Ak 0 x30).bind fun x32 =>
 (Ak 1 x30).bind fun x33 =>
 (Ak 2 x30).bind fun x34 =>
 (Ay (some [(.sl [] .tight)]) [(0, 1, x32)]).bind fun x35 =>
 bP H0 (Au (Af 1 x3 x35 H31)) fun _ H37 =>
 (BM [Ad true 1 x3 H37, some (.int .i64 0)]).bind fun x38 => rPN H0 x38 H37)
noncomputable def Sh.f4w (H0 : Aa) (rec1 : LK) (x59 x60 x61 x62 : Ab) (H63 : Aa) : Out :=
 (Ad true 3 x61 H63).bind fun x64 =>
 bP H0 (Sh.fi x64 H63) fun x65 H66 =>
 bP H0 (Au (Af 3 x61 x65 H66)) fun _ H68 =>
 rec1 [x59, x60, x61, x62] H68
noncomputable def Sh.f62 (H0 : Aa) (x131 x132 x133 x134 x135 : Ab) (H136 : Aa) : Out :=
 (Ac 1 x134).bind fun x137 =>
 (Ad false 1 x137 H136).bind fun x138 =>
 bP H0 (Sh.f1f x138 x135 H136) fun x139 H140 =>
 (Ak 0 x139).bind fun x141 =>
 (Ak 1 x139).bind fun x142 =>
 Ap (A3 (some [(.sl [] .tight)]) H140) fun x143 H144 =>
 bP H0 (Au (Af 1 x143 x141 H144)) fun _ H146 =>
 (Ad true 3 x133 H146).bind fun x147 =>
 (Ac 0 x134).bind fun x148 =>
 (Ad false 1 x148 H146).bind fun x149 =>
 (Ad true 1 x143 H146).bind fun x150 =>
 (Ay (some [(.str []), (.sl [] .tight)]) [(0, 1, x149), (1, 1, x150)]).bind fun x151 =>
 (Ad true 2 x131 H146).bind fun x152 =>
 bP H0 (Sh.fk x147 x151 x142 x152 H146) fun x153 H154 =>
 (Ak 0 x153).bind fun x155 =>
 (Ak 1 x153).bind fun x156 =>
 (Ak 2 x153).bind fun x157 =>
 bP H0 (Au (Af 2 x132 x155 H154)) fun _ H159 =>
 (BM [Ad true 2 x132 H159, some x156, some x157]).bind fun x160 => rPN H0 x160 H159
noncomputable def Sh.f4x (H0 : Aa) (rec1 : LK) (x34 x35 x36 x37 : Ab) (H38 : Aa) : Out :=
 (Ac 2 x36).bind fun x39 =>
 (Ad false 1 x39 H38).bind fun x40 =>
 (Ae .none .eql x40 (.int .i64 0)).bind fun x41 =>
 gk x41 true (Ad true 3 x36 H38) fun x42 =>
 gbP H0 x41 true H38 (Sh.f3 x42 H38) fun x43 H44 =>
 gk x41 true (unA .not x43) fun x45 =>
 (Ax x41 x45 (.bool false)).bind fun x46 =>
 Aj x46 (
 (Ac 0 x36).bind fun x47 =>
 (Ad false 1 x47 H44).bind fun x48 =>
 (Ac 1 x36).bind fun x49 =>
 (Ad false 1 x49 H44).bind fun x50 =>
 (AW x48 x50).bind fun x51 =>
 (Ae .none .eql x51 (.int .u8 46)).bind fun x52 =>
 gk x52 false (some x51) fun x53 =>
 gk x52 false (Ae .none .eql x53 (.int .u8 42)) fun x54 =>
 (Ax x52 (.bool true) x54).bind fun x55 =>
 gk x55 false (some x51) fun x56 =>
 gk x55 false (Ae .none .eql x56 (.int .u8 36)) fun x57 =>
 (Ax x55 (.bool true) x57).bind fun x58 =>
 AJ (fun j2 =>
 (Ae .none .eql x51 (.int .u8 35)).bind fun x69 =>
 Aj x69 (
 (Ad true 3 x36 H44).bind fun x70 =>
 (Ad true 4 x37 H44).bind fun x71 =>
 bP H0 (Sh.f2x x70 x71 H44) fun x72 H73 =>
 (Ak 0 x72).bind fun x74 =>
 (Ak 1 x72).bind fun x75 =>
 bP H0 (Au (Af 3 x36 x74 H73)) fun _ H77 =>
 bP H0 (Au (Af 4 x37 x75 H77)) fun _ H79 =>
 j2 [x34, x35, x36, x37] H79) (
 gk x58 false (some x51) fun x80 =>
 gk x58 false (Ae .none .geq x80 (.int .u8 49)) fun x81 =>
 gk x58 false (some x81) fun x82 =>
 gk x82 true (some x51) fun x83 =>
 gk x82 true (Ae .none .leq x83 (.int .u8 57)) fun x84 =>
 gk x58 false (Ax x82 x84 (.bool false)) fun x85 =>
 (Ax x58 (.bool true) x85).bind fun x86 =>
 gk x86 true (Ac 2 x37) fun x87 =>
 gk x86 true (Ad false 1 x87 H44) fun x88 =>
 gk x86 true (AH x88) fun x89 =>
 gk x86 true (Ac 1 x34) fun x90 =>
 gk x86 true (Ad false 1 x90 H44) fun x91 =>
 gk x86 true (Ae .none .geq x89 x91) fun x92 =>
 (Ax x86 x92 (.bool false)).bind fun x93 =>
 Aj x93 (
 (Ac 2 x36).bind fun x94 =>
 bP H0 (Au (Af 1 x94 (.int .i64 4) H44)) fun _ H96 =>
 j2 [x34, x35, x36, x37] H96) (
 Aj x58 (
 (Ad true 3 x36 H44).bind fun x97 =>
 (Ad true 4 x37 H44).bind fun x98 =>
 bP H0 (Sh.f2z x97 x98 H44) fun x99 H100 =>
 (Ak 0 x99).bind fun x101 =>
 (Ak 1 x99).bind fun x102 =>
 bP H0 (Au (Af 3 x36 x101 H100)) fun _ H104 =>
 bP H0 (Au (Af 4 x37 x102 H104)) fun _ H106 =>
 j2 [x34, x35, x36, x37] H106) (
 (Ad true 3 x36 H44).bind fun x107 =>
 (Ad true 4 x37 H44).bind fun x108 =>
 bP H0 (Sh.f32 x107 x108 H44) fun x109 H110 =>
 (Ak 0 x109).bind fun x111 =>
 (Ak 1 x109).bind fun x112 =>
 bP H0 (Au (Af 3 x36 x111 H110)) fun _ H114 =>
 bP H0 (Au (Af 4 x37 x112 H114)) fun _ H116 =>
 j2 [x34, x35, x36, x37] H116)))) (fun vs H => Sh.f4w H0 rec1 (ag vs 0) (ag vs 1) (ag vs 2) (ag vs 3) H)) (
 (Ac 2 x36).bind fun x117 =>
 (Ad false 1 x117 H44).bind fun x118 =>
 (Ae .none .neq x118 (.int .i64 0)).bind fun x119 =>
 Aj x119 (
 (Ad true 3 x36 H44).bind fun x120 =>
 (Ay (some [(.str []), (.sl [] .tight)]) []).bind fun x121 =>
 (Ad true 2 x34 H44).bind fun x122 =>
 bP H0 (Sh.fk x120 x121 (.int .i64 0) x122 H44) fun x123 H124 =>
 (Ak 0 x123).bind fun x125 =>
 (Ak 1 x123).bind fun x126 =>
 (Ak 2 x123).bind fun x127 =>
 bP H0 (Au (Af 2 x35 x125 H124)) fun _ H129 =>
 (BM [Ad true 2 x35 H129, some x126, some x127]).bind fun x130 => rPN H0 x130 H129) (
 AJ (fun j3 =>
 (Ac 2 x37).bind fun x161 =>
 (Ad false 1 x161 H44).bind fun x162 =>
 (AH x162).bind fun x163 =>
 (Ae .none .gtr x163 (.int .i64 0)).bind fun x164 =>
 Aj x164 (
 (Ac 2 x37).bind fun x165 =>
 (Ad false 1 x165 H44).bind fun x166 =>
 (Ac 2 x37).bind fun x167 =>
 (Ad false 1 x167 H44).bind fun x168 =>
 (AH x168).bind fun x169 =>
 (Ae .none .sub x169 (.int .i64 1)).bind fun x170 =>
 (A6 1 x166 x170).bind fun x171 =>
 (Ad false 1 x171 H44).bind fun x172 =>
 j3 [x34, x35, x36, x37, x172] H44) (
 j3 [x34, x35, x36, x37, (.int .i64 0)] H44)) (fun vs H => Sh.f62 H0 (ag vs 0) (ag vs 1) (ag vs 2) (ag vs 3) (ag vs 4) H)))
noncomputable def Sh.fx (x1 x2 : Ab) (H0 : Aa) : Out :=
 Ap (BP true 2 x2 H0) fun x3 H4 =>
 Ap (A3 (some [(.str []), (.sl [] .tight)]) H4) fun x5 H6 =>
 (Ad true 2 x3 H6).bind fun x7 =>
 bP H0 (Sh.f2t x7 H6) fun x8 H9 =>
 (unA .not x8).bind fun x10 =>
 Aj x10 (
 (Ay (some [(.str []), (.sl [] .tight)]) []).bind fun x11 =>
 bP H0 (Au (Af 2 x5 x11 H9)) fun _ H13 =>
 (BM [Ad true 2 x5 H13, some (.int .i64 0), some (.int .i64 1)]).bind fun x14 => rPN H0 x14 H13) (
 (Ay (some [(.str []), (.int .i64 0), (.int .i64 0)]) [(0, 1, x1)]).bind fun x15 =>
 bP H0 (Sh.f6 x15 (.str [91, 77, 50, 93]) H9) fun x16 H17 =>
 Ap (A3 (some [(.str []), (.int .i64 0), (.int .i64 0)]) H17) fun x18 H19 =>
 bP H0 (Au (Af 3 x18 x16 H19)) fun _ H21 =>
 (Ad true 3 x18 H21).bind fun x22 =>
 bP H0 (Sh.fe x22 H21) fun x23 H24 =>
 bP H0 (Sh.fi x23 H24) fun x25 H26 =>
 bP H0 (Au (Af 3 x18 x25 H26)) fun _ H28 =>
 (Ay (some [(.str []), (.sl [] .tight), (.sl [] .tight), (.sl [] .tight)]) [(0, 1, (.str [66, 51, 47, 83, 50, 51]))]).bind fun x29 =>
 Ap (A3 (some [(.str []), (.sl [] .tight), (.sl [] .tight), (.sl [] .tight)]) H28) fun x30 H31 =>
 bP H0 (Au (Af 4 x30 x29 H31)) fun _ H33 =>
 Ao (fun rec1 vs H => Sh.f4x H0 rec1 (ag vs 0) (ag vs 1) (ag vs 2) (ag vs 3) H) AC [x3, x5, x18, x30] H33)
noncomputable def Sh.f63 (H0 : Aa) (rec1 : LK) (a_6 b_7 i_8 : Ab) (H9 : Aa) : Out :=
 (AH a_6).bind fun x10 =>
 (Ae .none .lss i_8 x10).bind fun x11 =>
 Aj x11 (
 (A6 5 a_6 i_8).bind fun x12 =>
 bC (Ad true 5 x12 H9) (fun _ => True) fun x13 =>
 (A6 5 b_7 i_8).bind fun x14 =>
 bC (Ad true 5 x14 H9) (fun _ => True) fun x15 =>
 (Ae (.flat 5) .neq x13 x15).bind fun x16 =>
 Aj x16 (
 rK H0 (.bool false) H9) (
 (Ae .none .add i_8 (.int .i64 1)).bind fun x17 =>
 rec1 [a_6, b_7, x17] H9)) (
 rK H0 (.bool true) H9)
noncomputable def Sh.f37 (a_1 b_2 : Ab) (H0 : Aa) : Out :=
 (AH a_1).bind fun x3 =>
 (AH b_2).bind fun x4 =>
 (Ae .none .neq x3 x4).bind fun x5 =>
 Aj x5 (
 rK H0 (.bool false) H0) (
 Ao (fun rec1 vs H => Sh.f63 H0 rec1 (ag vs 0) (ag vs 1) (ag vs 2) H) AC [a_1, b_2, (.int .i64 0)] H0)
noncomputable def Sh.f1g (a_1 b_2 : Ab) (H0 : Aa) : Out :=
 Ap (BP true 1 a_1 H0) fun a_3 H4 =>
 Ap (BP true 1 b_2 H4) fun b_5 H6 =>
 (Ac 0 a_3).bind fun x7 =>
 (Ad false 1 x7 H6).bind fun x8 =>
 (Ac 0 b_5).bind fun x9 =>
 (Ad false 1 x9 H6).bind fun x10 =>
 bP H0 (Sh.f37 x8 x10 H6) fun x11 H12 =>
 rP H0 x11 H12
noncomputable def Sh.fy (a_1 b_2 : Ab) (H0 : Aa) : Out :=
 Ap (BP true 2 a_1 H0) fun a_3 H4 =>
 Ap (BP true 2 b_2 H4) fun b_5 H6 =>
 (Ac 0 a_3).bind fun x7 =>
 (Ad false 1 x7 H6).bind fun x8 =>
 (Ac 0 b_5).bind fun x9 =>
 (Ad false 1 x9 H6).bind fun x10 =>
 (Ae .none .eql x8 x10).bind fun x11 =>
 gk x11 true (Ac 1 a_3) fun x12 =>
 gk x11 true (Ad true 1 x12 H6) fun x13 =>
 gk x11 true (Ac 1 b_5) fun x14 =>
 gk x11 true (Ad true 1 x14 H6) fun x15 =>
 gbP H0 x11 true H6 (Sh.f1g x13 x15 H6) fun x16 H17 =>
 (Ax x11 x16 (.bool false)).bind fun x18 =>
 rP H0 x18 H17
noncomputable def Sl.gliderlaw19_alive : Aa → Out := Classical.choose (⟨Sh.fu, rfl⟩ : ∃ f : Aa → Out, f = Sh.fu)
theorem Sl.gliderlaw19_alive_eq : Sl.gliderlaw19_alive = Sh.fu := Classical.choose_spec (⟨Sh.fu, rfl⟩ : ∃ f : Aa → Out, f = Sh.fu)
noncomputable def Sl.gliderref19_Read : Ab → Ab → Aa → Out := Classical.choose (⟨Sh.fx, rfl⟩ : ∃ f : Ab → Ab → Aa → Out, f = Sh.fx)
theorem Sl.gliderref19_Read_eq : Sl.gliderref19_Read = Sh.fx := Classical.choose_spec (⟨Sh.fx, rfl⟩ : ∃ f : Ab → Ab → Aa → Out, f = Sh.fx)
noncomputable def Sl.gliderref11_Same : Ab → Ab → Aa → Out := Classical.choose (⟨Sh.fy, rfl⟩ : ∃ f : Ab → Ab → Aa → Out, f = Sh.fy)
theorem Sl.gliderref11_Same_eq : Sl.gliderref11_Same = Sh.fy := Classical.choose_spec (⟨Sh.fy, rfl⟩ : ∃ f : Ab → Ab → Aa → Out, f = Sh.fy)
noncomputable def Sh.f4y (b_1 m_2 : Ab) (H0 : Aa) : Out :=
 Ap (BP true 2 m_2 H0) fun m_3 H4 =>
 bP H0 (Sl.gliderlaw19_alive H4) fun x5 H6 =>
 (unA .not x5).bind fun x7 =>
 Aj x7 (
 rP H0 (.bool false) H6) (
 (Be b_1).bind fun x8 =>
 (Ae .none .gtr x8 (.int .i64 500)).bind fun x9 =>
 Aj x9 (
 rP H0 (.bool true) H6) (
 (Ad true 2 m_3 H6).bind fun x10 =>
 bP H0 (Sl.macro_Read b_1 x10 H6) fun x11 H12 =>
 (Ak 0 x11).bind fun x13 =>
 (Ak 1 x11).bind fun x14 =>
 (Ak 2 x11).bind fun x15 =>
 Ap (A3 (some [(.str []), (.sl [] .tight)]) H12) fun p_16 H17 =>
 bP H0 (Au (Af 2 p_16 x13 H17)) fun _ H19 =>
 (Ad true 2 m_3 H19).bind fun x20 =>
 bP H0 (Sl.gliderref19_Read b_1 x20 H19) fun x21 H22 =>
 (Ak 0 x21).bind fun x23 =>
 (Ak 1 x21).bind fun x24 =>
 (Ak 2 x21).bind fun x25 =>
 Ap (A3 (some [(.str []), (.sl [] .tight)]) H22) fun q_26 H27 =>
 bP H0 (Au (Af 2 q_26 x23 H27)) fun _ H29 =>
 (Ad true 2 p_16 H29).bind fun x30 =>
 (Ad true 2 q_26 H29).bind fun x31 =>
 bP H0 (Sl.gliderref11_Same x30 x31 H29) fun x32 H33 =>
 gk x32 true (some x14) fun x34 =>
 gk x32 true (some x24) fun x35 =>
 gk x32 true (Ae .none .eql x34 x35) fun x36 =>
 (Ax x32 x36 (.bool false)).bind fun x37 =>
 gk x37 true (some x15) fun x38 =>
 gk x37 true (some x25) fun x39 =>
 gk x37 true (Ae .none .eql x38 x39) fun x40 =>
 (Ax x37 x40 (.bool false)).bind fun x41 =>
 rP H0 x41 H33))
noncomputable def Sl.gliderref06_Of : Ab → Ab → Aa → Out := Classical.choose (⟨Sh.f1f, rfl⟩ : ∃ f : Ab → Ab → Aa → Out, f = Sh.f1f)
noncomputable def Sl.gliderref11_Right : Ab → Aa → Out := Classical.choose (⟨Sh.f13, rfl⟩ : ∃ f : Ab → Aa → Out, f = Sh.f13)
noncomputable def Sl.gliderref05_Loose : Ab → Aa → Out := Classical.choose (⟨Sh.fh, rfl⟩ : ∃ f : Ab → Aa → Out, f = Sh.fh)
noncomputable def Sl.gliderref05_Same : Ab → Ab → Aa → Out := Classical.choose (⟨Sh.f1g, rfl⟩ : ∃ f : Ab → Ab → Aa → Out, f = Sh.f1g)
end Go.Gm
namespace Go.Gm
open Go.Proofs
set_option maxRecDepth 100000
theorem mixed : Tryz.prog.follows .mixedOrders = true := by kernel_rfl
noncomputable def Ot : Orc := noO
theorem Oj : T1 Tryz.prog Gs false Ot Tryz.f120 (.two .leaf (.two .leaf .leaf)) .keep Sh.f3o := by unfold T1; intros; kernel_rfl
theorem Oc : AE Tryz.prog Gs 120 (ap1 Sh.f3o) := Bg mixed (Av _ _) Tryz.func120 (by kernel_rfl) Oj
noncomputable def QF : Orc := noO
theorem Qk : T1 Tryz.prog Gs false QF Tryz.f125 (.two .leaf (.two .leaf .leaf)) .keep Sh.f1s := by unfold T1; intros; kernel_rfl
theorem PI : AE Tryz.prog Gs 125 (ap1 Sh.f1s) := Bg mixed (Av _ _) Tryz.func125 (by kernel_rfl) Qk
noncomputable def orc_limb_cut : Orc := (ent 125 (ap1 Sh.f1s) noO)
theorem tie_limb_cut : T1 Tryz.prog Gs false orc_limb_cut Tryz.f121 (.two .leaf (.two (.one (.loop [0] (.two (.two .leaf (.two .leaf .leaf)) (.one .leaf)))) (.two .leaf .leaf))) .keepN Sh.f1t := by unfold T1; intros; kernel_rfl
theorem Sd : AE Tryz.prog Gs 121 (ap1 Sh.f1t) := Bg mixed ((Ah PI (Av _ _))) Tryz.func121 (by kernel_rfl) tie_limb_cut
end Go.Gm
namespace Go.Gm
open Go.ChangeShapes Go.WideShapes Go.ChangeAt Go.RowKit
def Nu (W : World) : Env := ⟨fun _ _ => none, fun _ _ => none, fun b o => W.cell? ⟨b, o, none⟩⟩
theorem sim0 (W : World) (hf : ∀ b cs, FixT b = some cs → 0 < cs.size ∧ ∃ t fr, W.heap[b]? = some (.cells cs t fr)) : Sim (Nu W) [] W :=
 ⟨fun id B h => (by simp at h), fun id g b h => (by cases h), fun id g b h => (by cases h), fun id B n h => (by simp at h), fun id id' b h => (by simp [loc] at h), fun b o v h => h, fun b cs h => by
  obtain ⟨h0, t, fr, h1⟩ := hf b cs h
  exact ⟨⟨t, fr, h1⟩, ⟨cs[0], by rw [show (Nu W).I b 0 = W.cell? ⟨b, 0, none⟩ from rfl, Br h1]; simp [h0]⟩, fun id => by simp [loc]⟩⟩
theorem Qp {E0 : Env} {w0 : World} {E : Env} {H : Aa} {w : World} (h : B5 E0 [] w0 E H w) : Below w0.heap.size w0 w :=
 ⟨h.os, h.tape, h.output, h.size, fun k hk => h.frame k hk (fun ⟨i, hi⟩ => by simp [loc] at hi)⟩
theorem calls_law {P : Program} {G : Gw} {g : FuncId} {F : List Ab → Aa → Out} (hF : AE P G g F) {fn : Func} (hf : P.funcs[g]? = some fn) (hb : fn.body.isNone = false) (hn : (fn.name == "runtime.NumGoroutine") = false)
  {W : World} (hfx : ∀ b cs, FixT b = some cs → 0 < cs.size ∧ ∃ t fr, W.heap[b]? = some (.cells cs t fr)) (hG : CE G (Nu W)) {args : List Ab} {vs : Array Value} (hv : A0 (Nu W) args vs.toList) (h : F args [] = some (.ret (.bool true), [])) :
  Calls P g vs W fun e W' => e = .returned (.bool true) ∧ Below W.heap.size W W' := by
 rcases hF args [] _ _ h (Nu W) W vs hG (sim0 W hfx) hv with ⟨_, h1⟩ | ⟨v, w', h1, _⟩
 ·refine h1.mono fun e W' ⟨E', h2, _, h3⟩ => ⟨?_, Qp h3⟩
  cases e with
  | returned v => rw [As.bool_inv h2]
  | panicked c => exact h2.elim
  | outgrown => exact h2.elim
 ·rw [Ep hf hb hn] at h1; cases h1
section
variable {H : Type} {enc : TypeId × Value → H} {P : Program}
theorem MH (hl : laidOutB P = true) {W W' : World} (hb : Below W.heap.size W W') {sp : Nat → Bool} : ∀ {ts : List TypeId} {vs : List Value} {ds : List (DataW H)} {ps : List MemPlace},
  (ts.all fun t => P.readableRec t && decide (t < P.types.size)) = true → DataW.TrodAll enc P W 0 (fun _ => true) true ts vs ds ps → (∀ x ∈ ps, x.block < W.heap.size) → (∀ x ∈ ps, sp x.block = true) → DataW.TrodAll enc P W' 0 sp true ts vs ds ps
 | [], _, _, _, _, h, _, _ => by
  obtain ⟨rfl, rfl, rfl⟩ := trodAll_nil h
  exact trodAll_mk0
 | t :: ts, _, _, _, ht, h, hlt, hsp => by
  obtain ⟨v, vs1, d, ds1, a, b, rfl, rfl, rfl, h1, h2⟩ := trodAll_cons h
  simp only [List.all_cons, Bool.and_eq_true, decide_eq_true_eq] at ht
  exact trodAll_cons_mk (WideElems.Trod_stays hl ht.1.1 ht.1.2 h1 (fun x hx => hb.same (hlt x (by simp [hx]))) (fun x hx => hsp x (by simp [hx])))
   (MH hl hb (by simpa using ht.2) h2 (fun x hx => hlt x (by simp [hx])) (fun x hx => hsp x (by simp [hx])))
theorem post_law {f : Func} {s : ChangeSpec} {W W' : World} {args : Array Value} {ds gs : List (DataW H)} {before : List MemPlace} (hW : DataW.Whole enc P f.params.toList s.vars false W args.toList ds gs before)
  (hl : laidOutB P = true) (hr : (f.params.toList.all fun t => P.readableRec t && decide (t < P.types.size)) = true) (hB : Below W.heap.size W W') (hvars : s.vars = []) {tb : TypeId} (hrt : f.resultTypes = #[tb]) (hbool : P.underlying tb = some .bool)
  (hres : (s.fn H (ds ++ gs)).results = [.lit (.bool true)]) (hargs : (s.fn H (ds ++ gs)).args = ds) (hvs : (s.fn H (ds ++ gs)).vars = []) : s.post enc P f false true false false W args (.bool true) W' := by
 have hold : ∀ p ∈ before, (fun b => decide (b < W.heap.size)) p.block = true := fun p hp => by simpa using hW.lt p hp
 have hlt := hW.lt
 have hW' := hW
 obtain ⟨p, q, hA, hV, hpq, hz, hn⟩ := hW
 rw [hvars] at hV
 obtain ⟨rfl, rfl⟩ := trodVars_none hV
 have hpq' : before = p := by rw [hpq]; simp
 subst hpq'
 have ha : ∀ sp : Nat → Bool, (∀ x ∈ before, sp x.block = true) → DataW.TrodAll enc P W' 0 sp true f.params.toList args.toList (s.fn H (ds ++ [])).args before := fun sp hsp => by
  rw [hargs]; exact MH hl hB hr hA hlt hsp
 have hr' : ∀ (b : Nat) (sp : Nat → Bool) (hd : Bool), DataW.TrodAll enc P W' b sp hd f.resultTypes.toList ((Value.bool true).resultList f.resultTypes.size) (s.fn H (ds ++ [])).results [] := fun b sp hd => by
  rw [hres, hrt]
  exact trodAll_cons_mk (shut_bool hbool _) trodAll_mk0
 have hv' : ∀ sp : Nat → Bool, DataW.TrodVars enc P W' sp s.vars (s.fn H (ds ++ [])).vars [] := fun sp => by rw [hvars, hvs]; rfl
 refine ⟨ds, [], before, [], before, [], hW', hr' _ _ _, ha _ hold, hv' _, World.keptBut_mono (fun p hp => hp) (hB.frame _), fun _ => ?_⟩
 refine ⟨ok_one hrt rfl (okWide_bool_mk hbool _), _, _, ([] ++ before) ++ [], ⟨[] ++ before, [], trodAll_append (ha _ (fun _ _ => rfl)) (hr' _ _ _), hv' _, rfl, ?_, ?_⟩, ?_⟩
 ·intro b off hp
  have hp' : MemPlace.cell b off ∈ before := by simpa using hp
  rw [hB.frozen (hlt _ hp')]
  exact hz b off hp'
 ·intro h; cases h
 ·intro p hp _
  simpa using hp

end
end Go.Gm
namespace Go.Gm
open Go.RowKit
theorem Sq {E : Env} {H : Aa} {w w' : World} (h : Sim E H w) (hb : Below w.heap.size w w') : Sim E H w' ∧ B5 E H w E H w' :=
 h.ext (.refl E) (fun _ _ _ h => h) (fun _ _ _ h => h) hb.block (fun _ _ => rfl) (fun b o v hv hlt => by have := h.imm_lt hv; omega) hb.os hb.tape hb.output hb.size
def Env.bare (E : Env) : Env := ⟨fun _ _ => none, fun _ _ => none, E.I⟩
theorem sim_bare {E : Env} {H : Aa} {w : World} (h : Sim E H w) : Sim E.bare [] w :=
 ⟨fun id B h => (by simp at h), fun id g b h => (by cases h), fun id g b h => (by cases h), fun id B n h => (by simp at h), fun id id' b h => (by simp [loc] at h), fun b o v hv => h.imm b o v hv, fun b cs hf => ⟨(h.fix b cs hf).1, (h.fix b cs hf).2.1, fun id => by simp [loc]⟩⟩
theorem fn_calls {P : Program} {G : Gw} {g : FuncId} {F : List Ab → Aa → Out} (hF : AE P G g F) {fn : Func} (hf : P.funcs[g]? = some fn) (hB : fnB 0 fn = true)
  {E : Env} {H : Aa} {w : World} (hG : CE G E.bare) (hs : Sim E H w) {args : List Ab} {vs : Array Value} (hv : A0 E.bare args vs.toList) {res : Res} (h : F args [] = some (res, [])) :
  Calls P g vs w fun e w' => (∃ E', IV E' res e) ∧ Below w.heap.size w w' := by
 obtain ⟨b1, b2, b3⟩ := DX hB
 rcases hF args [] _ _ h E.bare w vs hG (sim_bare hs) hv with ⟨_, h1⟩ | ⟨v, w', h1, _⟩
 ·exact h1.mono fun e w' ⟨E', h2, _, h3⟩ => ⟨⟨E', h2⟩, Qp h3⟩
 ·rw [Ep hf b1 b2] at h1; cases h1
theorem lib_ok {P : Program} {G : Gw} {g : FuncId} {fn : Func} (hf : P.funcs[g]? = some fn) (hB : fnB 0 fn = true) {args : List Ab} {H : Aa} {x : Ab}
  (h : ∀ (E : Env) (w : World) (vs : Array Value), CE G E → Sim E H w → A0 E args vs.toList → ∃ v, As E x v ∧ Calls P g vs w fun e w' => e = .returned v ∧ Below w.heap.size w w') : CallA P G g args H (.ret x) H := by
 intro E w vs hG hs hv
 obtain ⟨v, h1, h2⟩ := h E w vs hG hs hv
 obtain ⟨b1, b2, b3⟩ := DX hB
 refine .inl ⟨Ep hf b1 b2 vs w, h2.mono fun e w' ⟨he, hb⟩ => ?_⟩
 subst he
 obtain ⟨k1, k2⟩ := Sq hs hb
 exact ⟨E, h1, k1, k2⟩
theorem args1 {E : Env} {a : Ab} {vs : Array Value} (h : A0 E [a] vs.toList) : ∃ v, vs = #[v] ∧ As E a v := by
 obtain ⟨l⟩ := vs
 match l, h with
 | [v], h => exact ⟨v, rfl, h.head⟩
 | [], h => exact absurd h.1 (by simp)
 | _ :: _ :: _, h => exact absurd h.1 (by simp)
theorem args2 {E : Env} {a b : Ab} {vs : Array Value} (h : A0 E [a, b] vs.toList) : ∃ v u, vs = #[v, u] ∧ As E a v ∧ As E b u := by
 obtain ⟨l⟩ := vs
 match l, h with
 | [v, u], h => exact ⟨v, u, rfl, h.head, h.tail.head⟩
 | [], h => exact absurd h.1 (by simp)
 | [_], h => exact absurd h.1 (by simp)
 | _ :: _ :: _ :: _, h => exact absurd h.1 (by simp)
theorem val_str {E : Env} {s : List UInt8} {v : Value} (h : As E (.str s) v) : v = .string ⟨s.toArray⟩ := by cases h; rfl
theorem val_int {E : Env} {k : IntKind} {n : Int} {v : Value} (h : As E (.int k n) v) : v = .int k n := by cases h; rfl
end Go.Gm
namespace Go.Proofs
open Go.Shelf
def Tryz.lays137_ren : Go.Shelf.Ren := ⟨fun | 137 => 90 | 217 => 103 | 266 => 112 | n => n, fun | 9 => 9 | 5 => 5 | 3 => 3 | n => n, fun | n => n⟩
theorem Tryz.lays137 : Go.Proofs.Lays.n137 Tryz.prog Tryz.lays137_ren := {
 mixed := by kernel_rfl
 f137 := Tryz.func90.trans (congrArg some (by kernel_rfl))
 f217 := Tryz.func103.trans (congrArg some (by kernel_rfl))
 f266 := Tryz.func112.trans (congrArg some (by kernel_rfl))
 t3 := Tryz.underlying3
 a3 := Tryz.isAgg3
 z3 := Tryz.sizeOf3
 v3 := Tryz.zeroValue3
 t5 := Tryz.underlying5
 a5 := Tryz.isAgg5
 z5 := Tryz.sizeOf5
 v5 := Tryz.zeroValue5
 t9 := Tryz.underlying9
 a9 := Tryz.isAgg9
 z9 := Tryz.sizeOf9
 v9 := Tryz.zeroValue9 }
open Go.RowKit in
theorem Tryz.strings_IndexByte (s : ByteArray) (c : Int) (w : World) :
  Calls Tryz.prog 90 #[.string s, .int .u8 c] w fun e w' => e = .returned (.int .i64 (Lib.indexByte s.data.toList c.toNat.toUInt8)) ∧ w' = w := Any.strings_IndexByte Tryz.lays137 s c w
def Tryz.laysM171_ren : Go.Shelf.Ren := ⟨fun | 171 => 108 | 243 => 116 | 246 => 122 | 283 => 126 | 284 => 127 | 285 => 128 | 286 => 129 | 129 => 131 | 317 => 130 | 318 => 132 | 319 => 133 | 320 => 134 | 337 => 135 | 338 => 136 | n => n, fun | 3 => 3 | 9 => 9 | 2 => 2 | 4 => 4 | 171 => 166 | 0 => 0 | 53 => 128 | 37 => 127 | 5 => 5 | 173 => 169 | 212 => 172 | 51 => 124 | 20 => 20 | 213 => 173 | 46 => 161 | 232 => 176 | 233 => 177 | n => n, fun | 17 => 1 | 18 => 2 | 19 => 3 | n => n⟩
theorem Tryz.laysM171 : Go.Proofs.LaysM.n171 Tryz.prog Tryz.laysM171_ren := {
 mixed := by kernel_rfl
 f129 := Tryz.func131.trans (congrArg some (by kernel_rfl))
 f171 := Tryz.func108.trans (congrArg some (by kernel_rfl))
 f243 := Tryz.func116.trans (congrArg some (by kernel_rfl))
 f246 := Tryz.func122.trans (congrArg some (by kernel_rfl))
 f283 := Tryz.func126.trans (congrArg some (by kernel_rfl))
 f284 := Tryz.func127.trans (congrArg some (by kernel_rfl))
 f285 := Tryz.func128.trans (congrArg some (by kernel_rfl))
 f286 := Tryz.func129.trans (congrArg some (by kernel_rfl))
 f317 := Tryz.func130.trans (congrArg some (by kernel_rfl))
 f318 := Tryz.func132.trans (congrArg some (by kernel_rfl))
 f319 := Tryz.func133.trans (congrArg some (by kernel_rfl))
 f320 := Tryz.func134.trans (congrArg some (by kernel_rfl))
 f337 := Tryz.func135.trans (congrArg some (by kernel_rfl))
 f338 := Tryz.func136.trans (congrArg some (by kernel_rfl))
 t0 := Tryz.underlying0
 a0 := Tryz.isAgg0
 z0 := Tryz.sizeOf0
 v0 := Tryz.zeroValue0
 t2 := Tryz.underlying2
 a2 := Tryz.isAgg2
 z2 := Tryz.sizeOf2
 v2 := Tryz.zeroValue2
 t3 := Tryz.underlying3
 a3 := Tryz.isAgg3
 z3 := Tryz.sizeOf3
 v3 := Tryz.zeroValue3
 t4 := Tryz.underlying4
 a4 := Tryz.isAgg4
 z4 := Tryz.sizeOf4
 v4 := Tryz.zeroValue4
 t5 := Tryz.underlying5
 a5 := Tryz.isAgg5
 z5 := Tryz.sizeOf5
 v5 := Tryz.zeroValue5
 t9 := Tryz.underlying9
 a9 := Tryz.isAgg9
 z9 := Tryz.sizeOf9
 v9 := Tryz.zeroValue9
 t20 := Tryz.underlying20
 a20 := Tryz.isAgg20
 z20 := Tryz.sizeOf20
 v20 := Tryz.zeroValue20
 t37 := Tryz.underlying127
 a37 := Tryz.isAgg127
 z37 := Tryz.sizeOf127
 v37 := Tryz.zeroValue127
 t46 := Tryz.underlying161
 a46 := Tryz.isAgg161
 z46 := Tryz.sizeOf161
 v46 := Tryz.zeroValue161
 t51 := Tryz.underlying124
 a51 := Tryz.isAgg124
 z51 := Tryz.sizeOf124
 v51 := Tryz.zeroValue124
 t53 := Tryz.underlying128
 a53 := Tryz.isAgg128
 z53 := Tryz.sizeOf128
 v53 := Tryz.zeroValue128
 t171 := Tryz.underlying166
 a171 := Tryz.isAgg166
 z171 := Tryz.sizeOf166
 v171 := Tryz.zeroValue166
 t173 := Tryz.underlying169
 a173 := Tryz.isAgg169
 z173 := Tryz.sizeOf169
 v173 := Tryz.zeroValue169
 t212 := Tryz.underlying172
 a212 := Tryz.isAgg172
 z212 := Tryz.sizeOf172
 v212 := Tryz.zeroValue172
 t213 := Tryz.underlying173
 a213 := Tryz.isAgg173
 z213 := Tryz.sizeOf173
 t232 := Tryz.underlying176
 a232 := Tryz.isAgg176
 z232 := Tryz.sizeOf176
 v232 := Tryz.zeroValue176
 t233 := Tryz.underlying177
 a233 := Tryz.isAgg177
 z233 := Tryz.sizeOf177
 v233 := Tryz.zeroValue177
 g17 := by kernel_rfl
 g18 := by kernel_rfl
 g19 := by kernel_rfl
 i0 := by kernel_rfl
 i2 := by kernel_rfl
 i3 := by kernel_rfl
 i4 := by kernel_rfl
 i5 := by kernel_rfl
 i9 := by kernel_rfl
 i20 := by kernel_rfl
 i37 := by kernel_rfl
 i46 := by kernel_rfl
 i51 := by kernel_rfl
 i53 := by kernel_rfl
 i171 := by kernel_rfl
 i173 := by kernel_rfl
 i212 := by kernel_rfl
 i232 := by kernel_rfl
 i233 := by kernel_rfl
 m17 := by kernel_rfl
 m18 := by kernel_rfl
 m19 := by kernel_rfl }
open Go.RowKit Go.Sort Go.Lib in
theorem Tryz.strconv_Itoa (n : Int) (h0 : -9223372036854775808 ≤ n) (h1 : n ≤ 9223372036854775807) (w : World) (htab : Lib.TabIs Tryz.prog w "internal/strconv.uint64pow10" .u64 Lib.pow10Tab) :
  Calls Tryz.prog 108 #[.int .i64 n] w fun e w' => e = .returned (.string ⟨(Lib.itoa n).toArray⟩) ∧ ∃ k os, w' = grow (w.drewN k) os := Any.strconv_Itoa Tryz.laysM171 n h0 h1 w htab
def Tryz.laysGw15_ren : Go.Shelf.Ren := ⟨fun | 15 => 119 | 20 => 124 | n => n, fun | 9 => 9 | 23 => 160 | 3 => 3 | 4 => 4 | 0 => 0 | 21 => 21 | n => n, fun | n => n⟩
theorem Tryz.laysGw15 : Go.Proofs.LaysGw.n15 Tryz.prog Tryz.laysGw15_ren := {
 mixed := by kernel_rfl
 f15 := Tryz.func119.trans (congrArg some (by kernel_rfl))
 f20 := Tryz.func124.trans (congrArg some (by kernel_rfl))
 t0 := Tryz.underlying0
 a0 := Tryz.isAgg0
 z0 := Tryz.sizeOf0
 v0 := Tryz.zeroValue0
 i0 := by kernel_rfl
 t3 := Tryz.underlying3
 a3 := Tryz.isAgg3
 z3 := Tryz.sizeOf3
 v3 := Tryz.zeroValue3
 i3 := by kernel_rfl
 t4 := Tryz.underlying4
 a4 := Tryz.isAgg4
 z4 := Tryz.sizeOf4
 v4 := Tryz.zeroValue4
 i4 := by kernel_rfl
 t9 := Tryz.underlying9
 a9 := Tryz.isAgg9
 z9 := Tryz.sizeOf9
 v9 := Tryz.zeroValue9
 i9 := by kernel_rfl
 t21 := Tryz.underlying21
 a21 := Tryz.isAgg21
 z21 := Tryz.sizeOf21
 v21 := Tryz.zeroValue21
 i21 := by kernel_rfl
 t23 := Tryz.underlying160
 a23 := Tryz.isAgg160
 z23 := Tryz.sizeOf160
 v23 := Tryz.zeroValue160
 i23 := by kernel_rfl }
open Go.RowKit Go.Lib in
theorem Tryz.strings_IndexFunc_grows (g : Nat) (lb : Array Value) (eg : ∀ args w, (callFunc g args).run Tryz.prog w = .ok (.enter g args) w) (p : Nat → Bool) (s : ByteArray) (w : World) (hp : PredGrows Tryz.prog g lb p w) :
  Calls Tryz.prog 119 #[.string s, .func (.func g) #[] lb] w fun e w' => e = .returned (.int .i64 (Lib.idxFunc p true s)) ∧ Below w.heap.size w w' := Any.strings_IndexFunc_grows Tryz.laysGw15 g lb eg p s w hp
end Go.Proofs
namespace Go.Gm
open Go.Proofs Go.RowKit Go.Shelf
theorem pow_tab {E : Env} {H : Aa} {w : World} (h : Sim E H w) : Lib.TabIs Tryz.prog w "internal/strconv.uint64pow10" .u64 Lib.pow10Tab := by
 obtain ⟨⟨t, fr, h1⟩, _⟩ := h.fix 1 powTab (by simp [FixT])
 have hm : Tryz.prog.globalNamed "internal/strconv.uint64pow10" = some 1 := Tryz.laysM171.m17
 simp [Lib.TabIs, World.var?, hm, h1, powTab]
theorem Oa : AE Tryz.prog Gs 108 (ap1 Sh.f1p) := by
 intro args H res H' h
 unfold ap1 at h
 split at h
 ·unfold Sh.f1p at h
  split at h
  ·rename_i n
   split at h
   ·rename_i hn
    cases h
    refine lib_ok Tryz.func108 (by kernel_rfl) fun E w vs hG hs hv => ?_
    obtain ⟨v, rfl, h1⟩ := args1 hv
    rw [val_int h1]
    refine ⟨_, .str _, (Tryz.strconv_Itoa n hn.1 hn.2 w (pow_tab hs)).mono fun e w' ⟨he, k, os, hw⟩ => ⟨he, ?_⟩⟩
    rw [hw]
    exact below_grown w k os
   ·cases h
  ·cases h
 ·cases h
theorem dig1 (x : Nat) (H : Aa) : Sh.f3o (.int .i32 x) H = some (.ret (.bool (IZ x)), H) := by
 unfold Sh.f3o IZ
 by_cases h : x < 48
 ·have h' : (x : Int) < 48 := by omega
  simp [h, h']
 ·have h' : ¬ (x : Int) < 48 := by omega
  by_cases h2 : 57 < x
  ·have h2' : (57 : Int) < x := by omega
   simp [h, h', h2, h2']
  ·have h2' : ¬ (57 : Int) < x := by omega
   simp [h, h', h2, h2']
theorem I5 : AE Tryz.prog Gs 119 (ap2 Sh.f1q) := by
 intro args H res H' h
 unfold ap2 at h
 split at h
 ·unfold Sh.f1q at h
  split at h
  ·rename_i s
   cases h
   refine lib_ok Tryz.func119 (by kernel_rfl) fun E w vs hG hs hv => ?_
   obtain ⟨v, u, rfl, h1, h2⟩ := args2 hv
   rw [val_str h1]
   have hu : u = .func (.func 120) #[] #[] := by
    cases h2 with
    | @fn _ _ vs' hn' hv' => exact congrArg _ (Array.eq_empty_of_size_eq_zero hn'.symm)
   rw [hu]
   refine ⟨_, .int _ _, Tryz.strings_IndexFunc_grows 120 #[] (fun a w => Ep Tryz.func120 (by kernel_rfl) (by kernel_rfl) a w) IZ ⟨s.toArray⟩ w fun W x hx hb => ?_⟩
   refine (fn_calls Oc Tryz.func120 (by kernel_rfl) (fun _ _ h => nomatch h) (Sq hs hb).1 (args := [.int .i32 x]) (A0.cons (.int _ _) (A0.nil _)) (dig1 x [])).mono fun e w' ⟨⟨E', he⟩, hw⟩ => ⟨?_, hw⟩
   cases e with
   | returned v => rw [As.bool_inv he]
   | panicked c => exact he.elim
   | outgrown => exact he.elim
  ·cases h
 ·cases h
theorem I6 : AE Tryz.prog Gs 90 (ap2 Sh.f1r) := by
 intro args H res H' h
 unfold ap2 at h
 split at h
 ·unfold Sh.f1r at h
  split at h
  ·rename_i s c
   cases h
   refine lib_ok Tryz.func90 (by kernel_rfl) fun E w vs hG hs hv => ?_
   obtain ⟨v, u, rfl, h1, h2⟩ := args2 hv
   rw [val_str h1, val_int h2]
   exact ⟨_, .int _ _, (Tryz.strings_IndexByte ⟨s.toArray⟩ c w).mono fun e w' ⟨he, hw⟩ => ⟨by simpa using he, hw ▸ Below.refl _ _⟩⟩
  ·cases h
 ·cases h
end Go.Gm
namespace Go.Proofs
open Go.RowKit
set_option maxRecDepth 10000 in
theorem Tryz.catch_panicking (p : Addr) (c0 c1 : Value) (older : List PanicEntry) (w : World) {wa w1 : World} (hs0 : Sem.run Tryz.prog (store p c0) w = .ok () wa) (hs1 : Sem.run Tryz.prog (store { block := p.block, off := p.off + 1 } c1) wa = .ok () w1) :
  CallsD Tryz.prog 42 #[.pointer (some p)] (.panicking ({ v := .iface 60 (.agg #[c0, c1]), recovered := false } :: older)) w fun e u' w' =>
   e = .returned (.tuple #[]) ∧ u' = .panicking ({ v := .iface 60 (.agg #[c0, c1]), recovered := true } :: older) ∧ w' = w1 := by
 have hta : Sem.run Tryz.prog (Instr.typeAssert (.iface 60 (.agg #[c0, c1])) 20 60 false) w = .ok (.agg #[c0, c1]) w := by
  kernel_rfl
 refine callsD_of_wpS Tryz.func42 rfl fun c₀ cs hu => ?_
 apply wpS_seq
 apply wpS_region
 simp [wpOpsS, go_sem, recoverD, hu, Tryz.ntmps42, Exit.thenS]
 apply wpS_seq
 apply wpS_region
 simp [wpOpsS, go_sem, Exit.thenS]
 refine wpS_cond (t := true) (by simp [Act.eval, Array.replicate]) ?_
 simp only [if_true]
 apply wpS_region
 simp [wpOpsS, go_sem, bodyPostS, results, Tryz.results42, hta, hs0, hs1]
set_option maxRecDepth 10000 in
theorem Tryz.catch_idle (p : Addr) (w : World) :
  CallsD Tryz.prog 42 #[.pointer (some p)] .returning w fun e u' w' => e = .returned (.tuple #[]) ∧ u' = .returning ∧ w' = w := by
 refine callsD_of_wpS Tryz.func42 rfl fun c₀ cs hu => ?_
 apply wpS_seq
 apply wpS_region
 simp [wpOpsS, go_sem, recoverD, hu, Tryz.ntmps42, Exit.thenS]
 apply wpS_seq
 apply wpS_region
 simp [wpOpsS, go_sem, Exit.thenS]
 refine wpS_cond (t := false) (by simp [Act.eval, Array.replicate]) ?_
 simp only [Bool.false_eq_true, if_false]
 refine wpS_of_wp (wp_skip ?_)
 cases c₀
 simp_all [bodyPostS, results, Tryz.results42]
end Go.Proofs
namespace Go.Proofs
open Go.RowKit
theorem Tryz.box_cells {w : World} {b : Nat} {x0 x1 : Value} {t : TypeId} (hbox : w.heap[b]? = some (.cells #[x0, x1] t (0, 0))) (y0 y1 : Value) :
  (w.setCell ⟨b, 0, none⟩ y0).cell? ⟨b, 1, none⟩ = some x1 ∧ (w.setCell ⟨b, 0, none⟩ y0).frozen? ⟨b, 1, none⟩ = false ∧
   ((w.setCell ⟨b, 0, none⟩ y0).setCell ⟨b, 1, none⟩ y1).cell? ⟨b, 0, none⟩ = some y0 ∧ ((w.setCell ⟨b, 0, none⟩ y0).setCell ⟨b, 1, none⟩ y1).cell? ⟨b, 1, none⟩ = some y1 := by
 have sz : b < w.heap.size := by
  rcases Nat.lt_or_ge b w.heap.size with h | h
  ·exact h
  ·rw [Array.getElem?_eq_none h] at hbox; cases hbox
 have hx : w.heap[b] = .cells #[x0, x1] t (0, 0) := by
  rw [Array.getElem?_eq_getElem sz] at hbox; exact Option.some.inj hbox
 refine ⟨?_, ?_, ?_, ?_⟩ <;> simp [World.cell?, World.frozen?, World.setCell, hx, sz, Array.getElem_modify]
set_option maxRecDepth 10000 in
set_option maxHeartbeats 1000000 in
theorem Tryz.caught_in (g : Nat) (caps : Array Value) (w : World) (eg : ∀ args w, (callFunc g args).run Tryz.prog w = .ok (.enter g args) w) {R : Ending → World → Prop}
  (hj : Calls Tryz.prog g caps (w.alloc (.cells #[.int .i64 0, .string ⟨#[]⟩] 60)) R)
  (hR : ∀ e w2, R e w2 → (∃ t c0 c1, w2.heap[w.heap.size]? = some (.cells #[c0, c1] t (0, 0))) ∧ ((∃ v, e = .returned v) ∨ ∃ c0 c1, Value.oneCell' c0 = true ∧ Value.oneCell' c1 = true ∧ e = .panicked [{ v := .iface 60 (.agg #[c0, c1]), recovered := false }])) :
  Calls Tryz.prog 20 #[.func (.func g) caps #[]] w fun e w' => ∃ e2 w2, R e2 w2 ∧ ∃ c0 c1, e = .returned (.agg #[c0, c1]) ∧ w' = (w2.setCell ⟨w.heap.size, 0, none⟩ c0).setCell ⟨w.heap.size, 1, none⟩ c1 ∧
   ((∃ v, e2 = .returned v ∧ c0 = .int .i64 0 ∧ c1 = .string ⟨#[]⟩) ∨ e2 = .panicked [{ v := .iface 60 (.agg #[c0, c1]), recovered := false }]) := by
 have hmf : ∀ (fn : Fn) (first cap : Array Value) (w : World), (Instr.makeFunc fn first cap).run Tryz.prog w = .ok (.func fn first cap) w := fun _ _ _ _ => rfl
 go_enter_defers Tryz.func20, Tryz.ntmps20
 go_wp2
 refine hj.mono ?_
 rintro e w2 hr
 obtain ⟨⟨t, x0, x1, hbox⟩, h⟩ := hR _ _ hr
 have c0 : w2.cell? ⟨w.heap.size, 0, none⟩ = some x0 := by simp [World.cell?, hbox]
 have c1 : w2.cell? ⟨w.heap.size, 1, none⟩ = some x1 := by simp [World.cell?, hbox]
 have f0 : w2.frozen? ⟨w.heap.size, 0, none⟩ = false := by simp [World.frozen?, hbox]
 have f1 : w2.frozen? ⟨w.heap.size, 1, none⟩ = false := by simp [World.frozen?, hbox]
 have K := fun y0 y1 => Tryz.box_cells (w := w2) hbox y0 y1
 rcases h with ⟨v, rfl⟩ | ⟨y0, y1, o0, o1, rfl⟩
 ·obtain ⟨k1, k2, k3, k4⟩ := K (.int .i64 0) (.string ⟨#[]⟩)
  go_wp2
  refine leaves_cons (f := 42) (args := #[.pointer (some ⟨w.heap.size, 0, none⟩)]) (by simp) (by simp [go_sem]) ?_
  refine (Tryz.catch_idle ⟨w.heap.size, 0, none⟩ _).mono ?_
  rintro e u' w'' ⟨rfl, rfl, rfl⟩
  simp [Leaves, settle, results, Tryz.results20, go_sem, k3, k4]
  exact ⟨_, _, hr, _, _, ⟨rfl, rfl⟩, rfl, Or.inl ⟨⟨_, rfl⟩, rfl, rfl⟩⟩
 ·obtain ⟨k1, k2, k3, k4⟩ := K y0 y1
  refine leaves_cons (f := 42) (args := #[.pointer (some ⟨w.heap.size, 0, none⟩)]) (by simp) (by simp [go_sem]) ?_
  refine (Tryz.catch_panicking ⟨w.heap.size, 0, none⟩ y0 y1 [] _ (wa := w2.setCell ⟨w.heap.size, 0, none⟩ y0) (w1 := (w2.setCell ⟨w.heap.size, 0, none⟩ y0).setCell ⟨w.heap.size, 1, none⟩ y1) ?_ ?_).mono ?_
  ·rw [run_store _ _ _ _ _ o0]; simp [c0, f0]
  ·rw [run_store _ _ _ _ _ o1]; simp [k1, k2]
  rintro e u' w'' ⟨rfl, rfl, rfl⟩
  simp [Leaves, settle, results, Tryz.results20, go_sem, k3, k4]
  exact ⟨_, _, hr, _, _, ⟨rfl, rfl⟩, rfl, Or.inr rfl⟩
end Go.Proofs
namespace Go.Gm
open Go.Proofs Go.RowKit
theorem Sim.aside {E : Env} {H : Aa} {w w' : World} (hs : Sim E H w) {b : Nat} (h1 : ¬ LP E H b) (h2 : ∀ o, E.I b o = none) (hh : ∀ x, x ≠ b → w'.heap[x]? = w.heap[x]?) : Sim E H w' := by
 have ne : ∀ id b', loc E H id = some b' → b' ≠ b := fun id b' hl e => h1 ⟨id, e ▸ hl⟩
 constructor
 ·intro id B hB
  refine ((hs.blk id B hB).keep (.refl E) (fun b' hl => hh b' (ne id b' ?_)) (fun _ _ => rfl)).1
  unfold loc; rw [hB]; exact hl
 ·exact hs.dom
 ·exact hs.domk
 ·exact hs.late
 ·exact hs.inj
 ·intro b' o v hv
  have hne : b' ≠ b := fun e => by rw [e, h2 o] at hv; cases hv
  have := hs.imm b' o v hv
  simp only [World.cell?] at this ⊢
  rw [hh b' hne]; exact this
 ·intro b' cs hf
  obtain ⟨⟨t, fr, k1⟩, ⟨v, k2⟩, k3⟩ := hs.fix b' cs hf
  have hne : b' ≠ b := fun e => by rw [e, h2 0] at k2; cases k2
  exact ⟨⟨t, fr, by rw [hh b' hne]; exact k1⟩, ⟨v, k2⟩, k3⟩
theorem call_caughtF {orc : Orc} (ho : HM Tryz.prog Gs orc) : AE Tryz.prog Gs 20 (ap1 (PU orc)) := by
 intro args H res H' h
 unfold ap1 at h
 split at h
 case h_2 => cases h
 rename_i job
 unfold PU at h
 split at h
 case h_2 => cases h
 rename_i caps
 cases hr : orc 21 caps H with
 | none => rw [hr] at h; cases h
 | some r =>
  obtain ⟨r, H1⟩ := r
  rw [hr] at h
  cases hc : catchR r with
  | none => simp [hc] at h
  | some x =>
   have hx : Res.ret x = res ∧ H1 = H' := by simpa [hc] using h
   obtain ⟨rfl, rfl⟩ := hx
   intro E w vs hG hs hv
   obtain ⟨v, rfl, h1⟩ := args1 hv
   cases h1 with
   | bfn hn hcv =>
    rename_i cv
    obtain ⟨s1, st1⟩ := hs.laid (.cells #[.int .i64 0, .string ⟨#[]⟩] 60)
    have hcs : A0 E caps cv.toList := ⟨by simpa using hn, fun i c u hi hu => hcv i c u hi (by simpa using hu)⟩
    obtain ⟨b1, b2, b3⟩ := DX (show fnB 0 Tryz.f21 = true by kernel_rfl)
    obtain ⟨d1, d2, d3⟩ := DX (show fnB 0 Tryz.f20 = true by kernel_rfl)
    have f21 : Tryz.prog.funcs[21]? = some Tryz.f21 := Tryz.func21
    have f20 : Tryz.prog.funcs[20]? = some Tryz.f20 := Tryz.func20
    have nb : ¬ LP E H w.heap.size := hs.free_new
    have lt : w.heap.size < (w.alloc (.cells #[.int .i64 0, .string ⟨#[]⟩] 60)).heap.size := by simp [World.alloc, -World.alloc_eq]
    rcases ho 21 caps H r H1 hr E _ cv hG s1 hcs with ⟨_, hj⟩ | ⟨v, w', h1, _⟩
    ·refine .inl ⟨Ep f20 d1 d2 _ w, ?_⟩
     have hj' := Tryz.caught_in 21 cv w (fun a w => Ep f21 b1 b2 a w) hj ?_
     ·refine hj'.mono ?_
      rintro e w' ⟨e2, w2, ⟨E', k1, k2, k3⟩, c0, c1, rfl, rfl, hcase⟩
      have no : ¬ LP E' H1 w.heap.size := fun ho => (k3.own _ ho).elim nb (fun h => by omega)
      have ni : ∀ o, E'.I w.heap.size o = none := fun o => by rw [k3.imm _ o lt nb]; exact hs.imm_new o
      have hh : ∀ b, b ≠ w.heap.size → ((w2.setCell ⟨w.heap.size, 0, none⟩ c0).setCell ⟨w.heap.size, 1, none⟩ c1).heap[b]? = w2.heap[b]? := fun b hb => by
       simp [World.setCell, Array.getElem?_modify, Ne.symm hb]
      have st2 := st1.trans k3
      refine ⟨E', ?_, k2.aside no ni hh, st2.le, st2.os, st2.tape, st2.output, ?_, fun b hb ho => ?_, st2.own, st2.imm⟩
      ·rcases hcase with ⟨v, rfl, rfl, rfl⟩ | rfl
       ·cases r with
        | ret y => cases hc; exact As.agg rfl (by intro i c v hi hv; match i with
          | 0 => simp at hi hv; subst hi; subst hv; exact .int _ _
          | 1 => simp at hi hv; subst hi; subst hv; exact .str []
          | _ + 2 => simp at hi)
        | pan y => exact absurd k1 id
       ·cases r with
        | ret y => exact absurd k1 id
        | pan y =>
         obtain ⟨v, hv1, hv2⟩ := k1
         cases hv1
         unfold catchR at hc
         split at hc
         ·rename_i heq; cases heq
         ·rename_i heq; cases heq; cases hc; cases hv2 with
          | iface h => exact h
         ·cases hc
      ·simpa [World.setCell] using st2.size
      ·rw [hh b (by omega)]; exact st2.frame b hb ho
     ·rintro e w2 ⟨E', k1, k2, k3⟩
      refine ⟨⟨60, _, _, by rw [k3.frame _ lt nb]; exact World.heap_new w _⟩, ?_⟩
      cases r with
      | ret y => cases e with
       | returned v => exact .inl ⟨v, rfl⟩
       | _ => exact absurd k1 id
      | pan y => cases e with
       | panicked ch =>
        obtain ⟨v, rfl, hv2⟩ := k1
        unfold catchR at hc
        split at hc
        ·rename_i heq; cases heq
        ·rename_i heq; cases heq; cases hv2 with
         | iface h => cases h with
          | agg hn hv => 
           rename_i n s vs
           obtain ⟨l⟩ := vs
           match l, hn, hv with
           | [a, b], hn, hv =>
            have h0 := hv 0 _ a rfl rfl
            have h1 := hv 1 _ b rfl rfl
            cases h0; cases h1
            exact .inr ⟨_, _, rfl, rfl, rfl⟩
        ·cases hc
       | _ => exact absurd k1 id
    ·rw [Ep f21 b1 b2] at h1; cases h1
end Go.Gm
namespace Go.Gm
open Go.Proofs
set_option maxRecDepth 100000
noncomputable def Le : Orc := noO
theorem Ky : T0 Tryz.prog Gs false Le Tryz.f14 (.two .leaf (.two .leaf .leaf)) .pure Sh.fm := by unfold T0; intros; kernel_rfl
theorem JS : AE Tryz.prog Gs 14 (ap0 Sh.fm) := fn_ok0 mixed (Av _ _) Tryz.func14 (by kernel_rfl) Ky
noncomputable def QA : Orc := noO
theorem Qf : T2 Tryz.prog Gs false QA Tryz.f41 (.two .leaf (.two .leaf .leaf)) .keep Sh.f1u := by unfold T2; intros; kernel_rfl
theorem PD : AE Tryz.prog Gs 41 (ap2 Sh.f1u) := Bn mixed (Av _ _) Tryz.func41 (by kernel_rfl) Qf
noncomputable def Oq : Orc := (ent 41 (ap2 Sh.f1u) noO)
theorem Oi : T1 Tryz.prog Gs false Oq Tryz.f19 (.two .leaf (.two .leaf .leaf)) .pure Sh.f1v := by unfold T1; intros; kernel_rfl
theorem Ob : AE Tryz.prog Gs 19 (ap1 Sh.f1v) := Bg mixed ((Ah PD (Av _ _))) Tryz.func19 (by kernel_rfl) Oi
noncomputable def P9 : Orc := noO
theorem P3 : T2 Tryz.prog Gs false P9 Tryz.f73 (.two .leaf (.two .leaf (.two (.two .leaf (.one (.loop [0, 1, 5, 12, 13] (.two .leaf (.two (.two .leaf .leaf) (.two (.one (.two .leaf (.two (.reg [0, 1, 2, 3, 4, 5, 6]) (.two (.two .leaf .leaf) .leaf)))) .leaf)))))) (.two .leaf .leaf)))) .keep Sh.f1w := by unfold T2; intros; kernel_rfl
theorem OT : AE Tryz.prog Gs 73 (ap2 Sh.f1w) := Bn mixed (Av _ _) Tryz.func73 (by kernel_rfl) P3
noncomputable def J1 : Orc := noO
theorem Jh : T1 Tryz.prog Gs false J1 Tryz.f46 (.two .leaf (.two (.reg [0, 1, 2, 3, 4, 5, 6, 7, 8, 9, 10]) .leaf)) .keep Sh.f4 := by unfold T1; intros; kernel_rfl
theorem B6 : AE Tryz.prog Gs 46 (ap1 Sh.f4) := Bg mixed (Av _ _) Tryz.func46 (by kernel_rfl) Jh
noncomputable def KQ : Orc := (ent 46 (ap1 Sh.f4) noO)
theorem Kj : T2 Tryz.prog Gs false KQ Tryz.f74 (.join [] (.two .leaf (.two .leaf .leaf)) .leaf) .keep Sh.f1 := by unfold T2; intros; kernel_rfl
theorem Bo : AE Tryz.prog Gs 74 (ap2 Sh.f1) := Bn mixed ((Ah B6 (Av _ _))) Tryz.func74 (by kernel_rfl) Kj
noncomputable def KT : Orc := (ent 73 (ap2 Sh.f1w) (ent 74 (ap2 Sh.f1) noO))
theorem Km : T3 Tryz.prog Gs false KT Tryz.f43 (.two (.reg [0, 1, 2, 3, 4, 5, 6, 7, 8, 9, 10, 11]) (.two .leaf (.two .leaf (.two .leaf .leaf)))) .keep Sh.f7 := by unfold T3; intros; kernel_rfl
theorem Dr : AE Tryz.prog Gs 43 (ap3 Sh.f7) := EH mixed ((Ah OT ((Ah Bo (Av _ _))))) Tryz.func43 (by kernel_rfl) Km
noncomputable def KR : Orc := (ent 46 (ap1 Sh.f4) (ent 90 (ap2 Sh.f1r) noO))
theorem Kk : T2 Tryz.prog Gs false KR Tryz.f75 (.two .leaf (.two (.reg [0, 1, 2, 3, 4, 5, 6, 7, 8, 9, 10, 11, 12, 13, 14, 15, 16, 17]) .leaf)) .keep Sh.f0 := by unfold T2; intros; kernel_rfl
theorem Bp : AE Tryz.prog Gs 75 (ap2 Sh.f0) := Bn mixed ((Ah B6 ((Ah I6 (Av _ _))))) Tryz.func75 (by kernel_rfl) Kk
noncomputable def M0 : Orc := (ent 46 (ap1 Sh.f4) (ent 75 (ap2 Sh.f0) noO))
theorem Mm : T1 Tryz.prog Gs false M0 Tryz.f44 (.one (.loop [0] (.two (.two .leaf (.two .leaf .leaf)) (.one .leaf)))) .keep Sh.fz := by unfold T1; intros; kernel_rfl
theorem F2 : AE Tryz.prog Gs 44 (ap1 Sh.fz) := Bg mixed ((Ah B6 ((Ah Bp (Av _ _))))) Tryz.func44 (by kernel_rfl) Mm
noncomputable def Mz : Orc := (ent 46 (ap1 Sh.f4) (ent 75 (ap2 Sh.f0) (ent 74 (ap2 Sh.f1) noO)))
theorem Ml : T2 Tryz.prog Gs false Mz Tryz.f45 (.two (.two .leaf (.two .leaf .leaf)) (.join [0, 1] (.two .leaf (.two .leaf .leaf)) (.join [0] (.two .leaf (.two .leaf .leaf)) .leaf))) .keep Sh.fn := by unfold T2; intros; kernel_rfl
theorem F1 : AE Tryz.prog Gs 45 (ap2 Sh.fn) := Bn mixed ((Ah B6 ((Ah Bp ((Ah Bo (Av _ _))))))) Tryz.func45 (by kernel_rfl) Ml
noncomputable def J0 : Orc := noO
theorem Jg : T1 Tryz.prog Gs false J0 Tryz.f77 .leaf .keep Sh.fb := by unfold T1; intros; kernel_rfl
theorem Db : AE Tryz.prog Gs 77 (ap1 Sh.fb) := Bg mixed (Av _ _) Tryz.func77 (by kernel_rfl) Jg
noncomputable def G2 : Orc := noO
theorem Gx : T2 Tryz.prog Gs false G2 Tryz.f123 (.two .leaf (.two .leaf .leaf)) .keep Sh.f1x := by unfold T2; intros; kernel_rfl
theorem Gq : AE Tryz.prog Gs 123 (ap2 Sh.f1x) := Bn mixed (Av _ _) Tryz.func123 (by kernel_rfl) Gx
noncomputable def G3 : Orc := (ent 123 (ap2 Sh.f1x) noO)
theorem Gy : T2 Tryz.prog Gs false G3 Tryz.f118 (.two .leaf (.two (.two .leaf (.two (.two .leaf .leaf) .leaf)) (.two .leaf .leaf))) .keep Sh.f38 := by unfold T2; intros; kernel_rfl
theorem Gr : AE Tryz.prog Gs 118 (ap2 Sh.f38) := Bn mixed ((Ah Gq (Av _ _))) Tryz.func118 (by kernel_rfl) Gy
noncomputable def Jw : Orc := (ent 118 (ap2 Sh.f38) noO)
theorem Jc : T2 Tryz.prog Gs false Jw Tryz.f113 (.two .leaf (.two .leaf .leaf)) .keep Sh.f1y := by unfold T2; intros; kernel_rfl
theorem I7 : AE Tryz.prog Gs 113 (ap2 Sh.f1y) := Bn mixed ((Ah Gr (Av _ _))) Tryz.func113 (by kernel_rfl) Jc
noncomputable def QG : Orc := (ent 119 (ap2 Sh.f1q) noO)
theorem Ql : T2 Tryz.prog Gs false QG Tryz.f114 (.two .leaf (.two (.two .leaf (.two (.two .leaf .leaf) .leaf)) (.two .leaf (.two .leaf (.two (.two .leaf (.two (.two .leaf .leaf) .leaf)) (.two .leaf .leaf)))))) .keep Sh.f1z := by unfold T2; intros; kernel_rfl
theorem PJ : AE Tryz.prog Gs 114 (ap2 Sh.f1z) := Bn mixed ((Ah I5 (Av _ _))) Tryz.func114 (by kernel_rfl) Ql
noncomputable def orc_limb_Mul : Orc := (ent 121 (ap1 Sh.f1t) noO)
theorem tie_limb_Mul : T3 Tryz.prog Gs false orc_limb_Mul Tryz.f115 (.two .leaf (.two .leaf (.two .leaf (.two (.two .leaf (.one (.loop [0, 1, 7, 8, 17, 18, 19] (.two .leaf (.two (.two .leaf .leaf) (.two (.one (.two .leaf (.two .leaf (.two .leaf .leaf)))) .leaf)))))) (.two .leaf (.two .leaf .leaf)))))) .pureN Sh.f20 := by unfold T3; intros; kernel_rfl
theorem Se : AE Tryz.prog Gs 115 (ap3 Sh.f20) := EH mixed ((Ah Sd (Av _ _))) Tryz.func115 (by kernel_rfl) tie_limb_Mul
noncomputable def RU : Orc := (ent 113 (ap2 Sh.f1y) (ent 115 (ap3 Sh.f20) (ent 114 (ap2 Sh.f1z) noO)))
theorem RN : T1 Tryz.prog Gs false RU Tryz.f104 (.two .leaf (.two .leaf (.two (.one (.join [2, 4, 5, 14] (.two .leaf (.two .leaf (.two .leaf (.two .leaf .leaf)))) (.two (.two .leaf .leaf) (.two .leaf (.two (.two .leaf .leaf) .leaf))))) (.two .leaf (.two (.two .leaf (.one (.loop [2, 5, 6, 36] (.two .leaf (.two (.two .leaf .leaf) (.one (.two .leaf .leaf))))))) (.two .leaf .leaf)))))) .pureN Sh.f21 := by unfold T1; intros; kernel_rfl
theorem R8 : AE Tryz.prog Gs 104 (ap1 Sh.f21) := Bg mixed ((Ah I7 ((Ah Se ((Ah PJ (Av _ _))))))) Tryz.func104 (by kernel_rfl) RN
noncomputable def Ii : Orc := (ent 75 (ap2 Sh.f0) (ent 74 (ap2 Sh.f1) (ent 77 (ap1 Sh.fb) (ent 104 (ap1 Sh.f21) noO))))
theorem HQ : T3 Tryz.prog Gs false Ii Tryz.f91 (.two .leaf (.two .leaf (.join [0, 2, 6, 7] (.two .leaf (.two (.two .leaf (.two .leaf (.two .leaf .leaf))) .leaf)) (.two .leaf (.two (.one (.loop [0, 2, 6, 7, 8] (.two (.two .leaf (.two .leaf .leaf)) (.one (.join [0, 2, 6, 7, 8] (.one (.two .leaf (.two .leaf (.two .leaf (.two .leaf .leaf))))) .leaf))))) (.join [0, 6, 7] (.two .leaf (.two .leaf .leaf)) (.two (.reg [0, 1, 2, 3, 4, 5, 6, 7, 8, 9, 10, 11, 12, 14, 15, 13, 16]) (.two .leaf .leaf)))))))) .keepN Sh.f22 := by unfold T3; intros; kernel_rfl
theorem HC : AE Tryz.prog Gs 91 (ap3 Sh.f22) := EH mixed ((Ah Bp ((Ah Bo ((Ah Db ((Ah R8 (Av _ _))))))))) Tryz.func91 (by kernel_rfl) HQ
noncomputable def RR : Orc := noO
theorem RK : T1 Tryz.prog Gs false RR Tryz.f105 (.two .leaf (.two .leaf .leaf)) .keep Sh.f23 := by unfold T1; intros; kernel_rfl
theorem R7 : AE Tryz.prog Gs 105 (ap1 Sh.f23) := Bg mixed (Av _ _) Tryz.func105 (by kernel_rfl) RK
noncomputable def KS : Orc := (ent 46 (ap1 Sh.f4) (ent 105 (ap1 Sh.f23) (ent 74 (ap2 Sh.f1) noO)))
theorem Kl : T2 Tryz.prog Gs false KS Tryz.f92 (.two .leaf (.two .leaf (.two (.one (.loop [0, 1, 5] (.two (.two (.reg [0, 1, 2, 3, 4, 5, 6, 7, 8, 9, 10, 11, 12, 13, 14, 15, 16, 17, 18, 19, 20, 21, 22, 23]) (.two .leaf .leaf)) (.one .leaf)))) (.join [0, 5] (.two .leaf (.two .leaf .leaf)) (.two (.reg [0, 1, 2, 3, 4, 5, 6, 7, 8, 9, 10]) .leaf))))) .keep Sh.f1h := by unfold T2; intros; kernel_rfl
theorem JJ : AE Tryz.prog Gs 92 (ap2 Sh.f1h) := Bn mixed ((Ah B6 ((Ah R7 ((Ah Bo (Av _ _))))))) Tryz.func92 (by kernel_rfl) Kl
noncomputable def Jy : Orc := (ent 75 (ap2 Sh.f0) (ent 44 (ap1 Sh.fz) (ent 43 (ap3 Sh.f7) (ent 91 (ap3 Sh.f22) (ent 92 (ap2 Sh.f1h) (ent 74 (ap2 Sh.f1) noO))))))
theorem Je : T1 Tryz.prog Gs false Jy Tryz.f76 (.two .leaf (.one (.two .leaf (.two .leaf (.two .leaf (.two (.two .leaf .leaf) (.two .leaf (.two (.two .leaf .leaf) .leaf)))))))) .keep Sh.f24 := by unfold T1; intros; kernel_rfl
theorem I9 : AE Tryz.prog Gs 76 (ap1 Sh.f24) := Bg mixed ((Ah Bp ((Ah F2 ((Ah Dr ((Ah HC ((Ah JJ ((Ah Bo (Av _ _))))))))))))) Tryz.func76 (by kernel_rfl) Je
noncomputable def KL : Orc := noO
theorem Ke : T2 Tryz.prog Gs false KL Tryz.f96 (.two .leaf (.two (.reg [1, 2, 3, 4, 5, 6, 7, 0, 8, 9, 10]) (.two .leaf .leaf))) .keep Sh.fo := by unfold T2; intros; kernel_rfl
theorem EW : AE Tryz.prog Gs 96 (ap2 Sh.fo) := Bn mixed (Av _ _) Tryz.func96 (by kernel_rfl) Ke
noncomputable def Hk (m : Nat) : Orc := ent 93 (ap5 (Sh.ff m)) (ent 96 (ap2 Sh.fo) noO)
theorem GX (m : Nat) : T5 Tryz.prog Gs false (Hk m) Tryz.f93 (.two .leaf (.two .leaf (.two .leaf (.two (.two .leaf (.one (.loop [0, 1, 2, 3, 4, 11, 12, 21] (.two .leaf (.two (.two .leaf .leaf) (.two (.one (.two .leaf (.two .leaf (.one (.two .leaf (.two .leaf (.two .leaf (.two .leaf .leaf)))))))) .leaf)))))) (.two .leaf .leaf))))) .keep (Sh.ff (m + 1)) := by unfold T5; intros; kernel_rfl
theorem DZ : ∀ m, AE Tryz.prog Gs 93 (ap5 (Sh.ff m))
 | 0 => N9 fun _ _ _ _ _ _ => rfl
 | m + 1 => fn_ok5 mixed (Ah (DZ m) ((Ah EW (Av _ _)))) Tryz.func93 (by kernel_rfl) (GX m)
noncomputable def Jz : Orc := (ent 75 (ap2 Sh.f0) (ent 74 (ap2 Sh.f1) (ent 93 (ap5 (Sh.ff AC)) noO)))
theorem Jf : T1 Tryz.prog Gs false Jz Tryz.f78 (.two .leaf (.two .leaf (.two (.one (.loop [0, 2, 3, 4] (.two (.two .leaf (.two .leaf .leaf)) (.join [0, 2, 3, 4] (.one (.two .leaf (.join [0, 2, 3, 4, 5] (.two .leaf (.two .leaf .leaf)) (.two (.two .leaf (.two (.two .leaf .leaf) .leaf)) (.two (.reg [2, 3, 4, 5, 0, 1, 6, 7, 8]) .leaf))))) .leaf)))) (.reg [5, 6, 1, 2, 3, 4, 7, 8, 9, 0, 10, 11, 12])))) .keep Sh.f26 := by unfold T1; intros; kernel_rfl
theorem IA : AE Tryz.prog Gs 78 (ap1 Sh.f26) := Bg mixed ((Ah Bp ((Ah Bo ((Ah (DZ AC) (Av _ _))))))) Tryz.func78 (by kernel_rfl) Jf
noncomputable def Ih : Orc := (ent 75 (ap2 Sh.f0) (ent 77 (ap1 Sh.fb) (ent 74 (ap2 Sh.f1) noO)))
theorem HP : T1 Tryz.prog Gs false Ih Tryz.f94 (.two .leaf (.join [0] (.two .leaf (.two .leaf .leaf)) (.two .leaf (.two (.one (.loop [0, 3] (.two (.two .leaf (.two .leaf .leaf)) (.join [0, 3] (.one (.two (.reg [0, 1, 2, 3, 4, 5, 6, 7, 8, 9, 10, 11, 12, 13, 14, 15, 16]) (.two .leaf (.two .leaf .leaf)))) .leaf)))) (.two (.two .leaf (.two .leaf .leaf)) (.two .leaf .leaf)))))) .keep Sh.f27 := by unfold T1; intros; kernel_rfl
theorem HB : AE Tryz.prog Gs 94 (ap1 Sh.f27) := Bg mixed ((Ah Bp ((Ah Db ((Ah Bo (Av _ _))))))) Tryz.func94 (by kernel_rfl) HP
end Go.Gm
namespace Go.Gm
open Go.Proofs
set_option maxRecDepth 100000
noncomputable def KN : Orc := noO
theorem Kg : T3 Tryz.prog Gs false KN Tryz.f107 (.two .leaf (.two (.one (.two .leaf (.two (.two .leaf .leaf) (.two .leaf (.two (.two .leaf .leaf) .leaf))))) (.two .leaf .leaf))) .keep Sh.fg := by unfold T3; intros; kernel_rfl
theorem EX : AE Tryz.prog Gs 107 (ap3 Sh.fg) := EH mixed (Av _ _) Tryz.func107 (by kernel_rfl) Kg
noncomputable def Hl : Orc := (ent 107 (ap3 Sh.fg) noO)
theorem GY : T3 Tryz.prog Gs false Hl Tryz.f106 (.two .leaf (.two (.two .leaf (.two (.two .leaf .leaf) .leaf)) (.two (.two .leaf (.one (.loop [0, 1, 8, 9] (.two (.two .leaf (.two .leaf .leaf)) (.two (.one (.two .leaf (.one (.loop [0, 1, 8, 9, 10] (.two (.two .leaf (.two .leaf .leaf)) (.two (.one (.two .leaf (.two (.two .leaf .leaf) .leaf))) .leaf)))))) .leaf))))) (.two .leaf .leaf)))) .keep Sh.f1i := by unfold T3; intros; kernel_rfl
theorem GT : AE Tryz.prog Gs 106 (ap3 Sh.f1i) := EH mixed ((Ah EX (Av _ _))) Tryz.func106 (by kernel_rfl) GY
noncomputable def KO : Orc := (ent 75 (ap2 Sh.f0) (ent 106 (ap3 Sh.f1i) (ent 74 (ap2 Sh.f1) (ent 107 (ap3 Sh.fg) (ent 108 (ap1 Sh.f1p) noO)))))
theorem Kh : T3 Tryz.prog Gs false KO Tryz.f95 (.two .leaf (.two (.reg [0, 1, 2, 3, 4, 5, 6]) (.two (.one (.loop [0, 1, 2, 7, 8] (.two (.two .leaf (.two .leaf .leaf)) (.join [0, 1, 2, 7, 8] (.one (.join [0, 1, 2, 7, 8] (.two .leaf (.two .leaf .leaf)) (.two (.reg [0, 1, 2, 3, 4, 5, 6, 7, 8, 9, 10, 11, 12, 13, 14, 15, 16]) (.two (.two .leaf (.two .leaf (.two .leaf .leaf))) .leaf)))) .leaf)))) (.join [0, 1, 2, 7, 8] (.two .leaf (.two .leaf .leaf)) (.join [0, 1, 7] (.two .leaf (.two (.two .leaf (.reg [3, 4, 0, 1, 2, 5, 6, 7, 8, 9, 10, 11, 12, 13, 14, 15])) .leaf)) (.two (.two .leaf (.two (.two .leaf .leaf) .leaf)) (.two .leaf .leaf))))))) .keep Sh.f28 := by unfold T3; intros; kernel_rfl
theorem JH : AE Tryz.prog Gs 95 (ap3 Sh.f28) := EH mixed ((Ah Bp ((Ah GT ((Ah Bo ((Ah EX ((Ah Oa (Av _ _))))))))))) Tryz.func95 (by kernel_rfl) Kh
noncomputable def Jx : Orc := (ent 94 (ap1 Sh.f27) (ent 43 (ap3 Sh.f7) (ent 95 (ap3 Sh.f28) (ent 96 (ap2 Sh.fo) noO))))
theorem Jd : T1 Tryz.prog Gs false Jx Tryz.f79 (.two .leaf (.two .leaf (.two (.two .leaf (.one (.loop [0, 2, 3, 8] (.two .leaf (.two (.two .leaf .leaf) (.two (.one (.two .leaf (.two .leaf (.two .leaf .leaf)))) .leaf)))))) (.reg [5, 6, 7, 1, 2, 3, 4, 8, 9, 10, 11, 12, 0, 13, 14, 15])))) .keep Sh.f29 := by unfold T1; intros; kernel_rfl
theorem I8 : AE Tryz.prog Gs 79 (ap1 Sh.f29) := Bg mixed ((Ah HB ((Ah Dr ((Ah JH ((Ah EW (Av _ _))))))))) Tryz.func79 (by kernel_rfl) Jd
noncomputable def KM : Orc := (ent 45 (ap2 Sh.fn) (ent 75 (ap2 Sh.f0) (ent 76 (ap1 Sh.f24) (ent 77 (ap1 Sh.fb) (ent 78 (ap1 Sh.f26) (ent 79 (ap1 Sh.f29) noO))))))
theorem Kf : T1 Tryz.prog Gs false KM Tryz.f47 (.join [0] (.one (.two .leaf (.two .leaf (.two (.reg [0, 1, 2, 3, 4, 5, 6, 7, 8, 9, 10, 11, 12, 13, 14, 15, 16, 17]) (.two .leaf (.two .leaf (.two .leaf .leaf))))))) .leaf) .keep Sh.f2a := by unfold T1; intros; kernel_rfl
theorem JG : AE Tryz.prog Gs 47 (ap1 Sh.f2a) := Bg mixed ((Ah F1 ((Ah Bp ((Ah I9 ((Ah Db ((Ah IA ((Ah I8 (Av _ _))))))))))))) Tryz.func47 (by kernel_rfl) Kf
noncomputable def KP : Orc := (ent 43 (ap3 Sh.f7) (ent 44 (ap1 Sh.fz) (ent 45 (ap2 Sh.fn) (ent 46 (ap1 Sh.f4) (ent 47 (ap1 Sh.f2a) noO)))))
theorem Ki : T1 Tryz.prog Gs false KP Tryz.f21 (.two .leaf (.two .leaf (.two .leaf (.one (.loop [0] (.two (.two .leaf (.two .leaf .leaf)) (.one .leaf))))))) .keep Sh.f1j := by unfold T1; intros; kernel_rfl
theorem JI : AE Tryz.prog Gs 21 (ap1 Sh.f1j) := Bg mixed ((Ah Dr ((Ah F2 ((Ah F1 ((Ah B6 ((Ah JG (Av _ _))))))))))) Tryz.func21 (by kernel_rfl) Ki
theorem GL : AE Tryz.prog Gs 20 (ap1 Sh.f1k) := call_caughtF ((Ah JI (Av _ _)))
noncomputable def orc_node_kid : Orc := noO
theorem tie_node_kid : T3 Tryz.prog Gs false orc_node_kid Tryz.f80 (.two .leaf (.two .leaf (.two (.one (.two .leaf (.two (.two .leaf .leaf) (.two .leaf (.two (.two .leaf .leaf) .leaf))))) (.two (.reg [0, 1, 2, 3, 4, 5, 6, 7, 8, 9, 10, 11, 12, 13, 14, 15, 16, 17, 18, 19]) .leaf)))) .pure Sh.f2b := by unfold T3; intros; kernel_rfl
theorem Sc : AE Tryz.prog Gs 80 (ap3 Sh.f2b) := EH mixed (Av _ _) Tryz.func80 (by kernel_rfl) tie_node_kid
noncomputable def QB : Orc := (ent 80 (ap3 Sh.f2b) noO)
theorem Qg : T1 Tryz.prog Gs false QB Tryz.f48 (.two .leaf (.two (.two .leaf (.one (.loop [0, 7, 8, 9] (.two .leaf (.two (.two .leaf .leaf) (.two (.one (.two .leaf (.two (.two .leaf (.two (.two .leaf .leaf) .leaf)) (.two .leaf (.one (.loop [0, 3, 7, 8, 9, 23, 24] (.two .leaf (.two (.two .leaf .leaf) (.two (.one (.two .leaf (.two .leaf (.two (.two .leaf .leaf) .leaf)))) .leaf))))))))) .leaf)))))) (.two .leaf .leaf))) .pure Sh.f2c := by unfold T1; intros; kernel_rfl
theorem PE : AE Tryz.prog Gs 48 (ap1 Sh.f2c) := Bg mixed ((Ah Sc (Av _ _))) Tryz.func48 (by kernel_rfl) Qg
noncomputable def DD : Orc := noO
theorem D9 : T1 Tryz.prog Gs false DD Tryz.f81 (.two .leaf (.two (.two .leaf (.two (.two .leaf .leaf) .leaf)) (.two .leaf .leaf))) .keep Sh.f2d := by unfold T1; intros; kernel_rfl
theorem D7 : AE Tryz.prog Gs 81 (ap1 Sh.f2d) := Bg mixed (Av _ _) Tryz.func81 (by kernel_rfl) D9
noncomputable def PA : Orc := noO
theorem P4 : T3 Tryz.prog Gs false PA Tryz.f110 (.two .leaf (.two .leaf .leaf)) .keep Sh.f3a := by unfold T3; intros; kernel_rfl
theorem OU : AE Tryz.prog Gs 110 (ap3 Sh.f3a) := EH mixed (Av _ _) Tryz.func110 (by kernel_rfl) P4
noncomputable def ET : Orc := BN
theorem ER : T2 Tryz.prog Gs false ET Tryz.f117 (.two .leaf (.two (.two .leaf (.one (.loop [0, 1, 7, 8] (.two .leaf (.two (.two .leaf .leaf) (.two (.one (.two .leaf (.two .leaf (.two (.two .leaf .leaf) .leaf)))) .leaf)))))) (.two .leaf .leaf))) .keep Sh.f3b := by unfold T2; intros; kernel_rfl
theorem EJ : AE Tryz.prog Gs 117 (ap2 Sh.f3b) := Bn mixed ((Ah OU (Av _ _))) Tryz.func117 (by kernel_rfl) ER
noncomputable def Ec : Orc := (ent 117 (ap2 Sh.f3b) noO)
theorem Eb : T2 Tryz.prog Gs false Ec Tryz.f109 (.two .leaf (.two .leaf .leaf)) .keep Sh.f2e := by unfold T2; intros; kernel_rfl
theorem DY : AE Tryz.prog Gs 109 (ap2 Sh.f2e) := Bn mixed ((Ah EJ (Av _ _))) Tryz.func109 (by kernel_rfl) Eb
noncomputable def RT : Orc := (ent 109 (ap2 Sh.f2e) noO)
theorem RM : T1 Tryz.prog Gs false RT Tryz.f97 (.two .leaf (.two .leaf (.two (.two .leaf (.one (.loop [3, 10, 11, 12] (.two .leaf (.two (.two .leaf .leaf) (.two (.one (.two .leaf (.reg [3, 4, 5, 6, 0, 1, 2, 7, 8]))) .leaf)))))) (.two .leaf .leaf)))) .pureN Sh.f10 := by unfold T1; intros; kernel_rfl
theorem LC : AE Tryz.prog Gs 97 (ap1 Sh.f10) := Bg mixed ((Ah DY (Av _ _))) Tryz.func97 (by kernel_rfl) RM
noncomputable def QC : Orc := (ent 97 (ap1 Sh.f10) noO)
theorem Qh : T2 Tryz.prog Gs false QC Tryz.f82 (.two .leaf (.two .leaf .leaf)) .keep Sh.f2f := by unfold T2; intros; kernel_rfl
theorem PF : AE Tryz.prog Gs 82 (ap2 Sh.f2f) := Bn mixed ((Ah LC (Av _ _))) Tryz.func82 (by kernel_rfl) Qh
noncomputable def PB : Orc := (ent 97 (ap1 Sh.f10) noO)
theorem P5 : T2 Tryz.prog Gs false PB Tryz.f83 (.two .leaf (.two (.two .leaf (.two (.two .leaf .leaf) .leaf)) (.two .leaf (.two (.two .leaf (.one (.loop [0, 5, 28, 29] (.two .leaf (.two (.two .leaf .leaf) (.two (.one (.two .leaf (.two (.two .leaf (.two .leaf .leaf)) (.two .leaf (.one (.loop [0, 5, 6, 7, 28, 29, 40, 41] (.two .leaf (.two (.two .leaf .leaf) (.two (.one (.two .leaf (.two .leaf (.two (.two .leaf .leaf) .leaf)))) .leaf))))))))) .leaf)))))) (.two .leaf .leaf))))) .keep Sh.f2g := by unfold T2; intros; kernel_rfl
theorem OV : AE Tryz.prog Gs 83 (ap2 Sh.f2g) := Bn mixed ((Ah LC (Av _ _))) Tryz.func83 (by kernel_rfl) P5
noncomputable def PC : Orc := noO
theorem P6 : T3 Tryz.prog Gs false PC Tryz.f84 (.two .leaf (.two (.two .leaf (.two .leaf (.two (.two .leaf .leaf) .leaf))) (.two .leaf .leaf))) .keep Sh.f2h := by unfold T3; intros; kernel_rfl
theorem OW : AE Tryz.prog Gs 84 (ap3 Sh.f2h) := EH mixed (Av _ _) Tryz.func84 (by kernel_rfl) P6
noncomputable def Ou : Orc := (ent 81 (ap1 Sh.f2d) (ent 82 (ap2 Sh.f2f) (ent 83 (ap2 Sh.f2g) (ent 84 (ap3 Sh.f2h) noO))))
theorem Ok : T2 Tryz.prog Gs false Ou Tryz.f49 (.two .leaf (.two .leaf (.two (.two .leaf (.two (.two .leaf .leaf) .leaf)) (.two (.one (.loop [0, 1] (.two (.two .leaf (.two .leaf .leaf)) (.one (.two .leaf (.two (.two .leaf (.one (.loop [0, 1, 6, 25] (.two .leaf (.two (.two .leaf .leaf) (.two (.one (.two .leaf .leaf)) .leaf)))))) (.two .leaf .leaf))))))) (.two .leaf .leaf))))) .pureN Sh.f2i := by unfold T2; intros; kernel_rfl
theorem Od : AE Tryz.prog Gs 49 (ap2 Sh.f2i) := Bn mixed ((Ah D7 ((Ah PF ((Ah OV ((Ah OW (Av _ _))))))))) Tryz.func49 (by kernel_rfl) Ok
noncomputable def Iq : Orc := noO
theorem HY : T2 Tryz.prog Gs false Iq Tryz.f51 (.two .leaf (.two (.two .leaf (.two (.two .leaf .leaf) .leaf)) (.two (.two (.reg [0, 1, 2, 3, 4, 5, 6, 7, 8, 9, 10]) (.two .leaf (.two (.two .leaf .leaf) .leaf))) (.two (.reg [1, 2, 3, 4, 5, 6, 7, 0, 8, 9, 10]) (.two (.reg [0, 1, 2, 3, 4, 5, 6, 7, 8, 9, 10]) (.two .leaf .leaf)))))) .keep Sh.f2j := by unfold T2; intros; kernel_rfl
theorem HH : AE Tryz.prog Gs 51 (ap2 Sh.f2j) := Bn mixed (Av _ _) Tryz.func51 (by kernel_rfl) HY
noncomputable def QH (m : Nat) : Orc := F9 (Sh.f8 m)
theorem Qm (m : Nat) : T5 Tryz.prog Gs false (QH m) Tryz.f50 (.two .leaf (.two (.two .leaf (.two .leaf (.two (.two .leaf .leaf) .leaf))) (.two .leaf (.join [0, 1, 4, 9] (.two .leaf (.two (.two .leaf (.one (.loop [0, 1, 3, 4, 9, 30, 31] (.two .leaf (.two (.two .leaf .leaf) (.two (.one (.two .leaf .leaf)) .leaf)))))) .leaf)) (.two .leaf (.two .leaf (.two .leaf .leaf))))))) .keep (Sh.f8 (m + 1)) := by unfold T5; intros; kernel_rfl
theorem Jb : ∀ m, AE Tryz.prog Gs 50 (ap5 (Sh.f8 m))
 | 0 => N9 fun _ _ _ _ _ _ => rfl
 | m + 1 => fn_ok5 mixed (Ah (Jb m) ((Ah HH (Av _ _)))) Tryz.func50 (by kernel_rfl) (Qm m)
noncomputable def orc_canon_Of : Orc := GS
theorem tie_canon_Of : T2 Tryz.prog Gs false orc_canon_Of Tryz.f22 (.two .leaf (.two (.two .leaf (.two (.two .leaf .leaf) .leaf)) (.two .leaf (.two .leaf (.two .leaf (.two .leaf (.two .leaf (.two .leaf (.two .leaf .leaf))))))))) .pureN Sh.f2k := by unfold T2; intros; kernel_rfl
theorem Sf : AE Tryz.prog Gs 22 (ap2 Sh.f2k) := Bn mixed ((Ah PE ((Ah Od ((Ah (Jb AC) (Av _ _))))))) Tryz.func22 (by kernel_rfl) tie_canon_Of
noncomputable def QD : Orc := (ent 19 (ap1 Sh.f1v) (ent 20 (ap1 Sh.f1k) (ent 22 (ap2 Sh.f2k) noO)))
theorem Qi : T2 Tryz.prog Gs false QD Tryz.f8 (.two .leaf (.two (.two .leaf (.two (.two .leaf .leaf) .leaf)) (.two .leaf (.two (.two .leaf (.two .leaf (.two (.two (.reg [0, 8, 1, 2, 3, 4, 5, 6, 7, 9, 10]) .leaf) .leaf))) (.two .leaf (.join [0, 3, 4, 7, 9] (.two .leaf (.two (.reg [0, 1, 2, 3, 4, 5, 6, 7, 8, 9, 10, 11, 12, 13]) .leaf)) (.two .leaf (.two (.two .leaf (.two (.two .leaf .leaf) .leaf)) (.two (.reg [0, 1, 2, 3, 4, 5, 6, 7, 8]) .leaf))))))))) .pureN Sh.fp := by unfold T2; intros; kernel_rfl
theorem PG : AE Tryz.prog Gs 8 (ap2 Sh.fp) := Bn mixed ((Ah Ob ((Ah GL ((Ah Sf (Av _ _))))))) Tryz.func8 (by kernel_rfl) Qi
noncomputable def Ll : Orc := noO
theorem K5 : T1 Tryz.prog Gs false Ll Tryz.f64 (.two .leaf (.two .leaf .leaf)) .keep Sh.f11 := by unfold T1; intros; kernel_rfl
theorem EY : AE Tryz.prog Gs 64 (ap1 Sh.f11) := Bg mixed (Av _ _) Tryz.func64 (by kernel_rfl) K5
noncomputable def Lm : Orc := (ent 64 (ap1 Sh.f11) noO)
theorem K6 : T1 Tryz.prog Gs false Lm Tryz.f35 (.two .leaf (.two (.two .leaf (.one (.loop [0, 3] (.two (.two .leaf (.two .leaf .leaf)) (.two (.one (.two .leaf (.two (.two .leaf .leaf) .leaf))) .leaf))))) (.two .leaf .leaf))) .keep Sh.f2l := by unfold T1; intros; kernel_rfl
theorem JZ : AE Tryz.prog Gs 35 (ap1 Sh.f2l) := Bg mixed ((Ah EY (Av _ _))) Tryz.func35 (by kernel_rfl) K6
noncomputable def J8 : Orc := noO
theorem Jo : T1 Tryz.prog Gs false J8 Tryz.f15 (.two .leaf (.two (.two .leaf (.one (.loop [0, 3] (.two (.two .leaf (.two .leaf .leaf)) (.two (.one (.two (.two .leaf (.two (.two .leaf .leaf) .leaf)) (.two .leaf (.one (.loop [0, 3, 4] (.two (.two .leaf (.two .leaf .leaf)) (.two (.one (.two .leaf (.two (.two .leaf (.two (.two .leaf .leaf) .leaf)) (.two (.reg [0, 1, 2, 3, 4, 5, 6, 7, 8, 9, 10, 11, 12, 13, 14, 15, 16, 17, 18, 19, 20, 21, 22, 23, 24, 25, 26, 27, 28, 29]) (.two (.two .leaf .leaf) .leaf))))) .leaf))))))) .leaf))))) (.two .leaf .leaf))) .keep Sh.fh := by unfold T1; intros; kernel_rfl
theorem EL : AE Tryz.prog Gs 15 (ap1 Sh.fh) := Bg mixed (Av _ _) Tryz.func15 (by kernel_rfl) Jo
end Go.Gm
