/- Texts of this proof, joined. -/
import Derived.Test.YtenmplcmmdaibaaDoorJ2
import Derived.RangeFuncBox
import Derived.RangeFuncLeaves
import Derived.Shelf.Abstract
import Derived.WalkKit
import Derived.OwnWalkIn
import Derived.TacticsInMore
import Derived.LoopNIn
import Derived.LoopIn
import Derived.Test.YtenmplcmmdaibaaDoorProg
import Derived.Test.YtenmplcmmdaibaaDoorChecked
import Derived.KernelRfl
import Derived.ProofKit
import Derived.OpenShut
import Derived.JoinedCond
import Derived.Carry
import Derived.OrdersIn
import Derived.TacticsIn
import Derived.RangeFuncCalls
import Derived.Laws.MakeOwn
import Derived.Shelf.RegionOpen
import Derived.Shelf.Strings.Builder1
import Derived.Shelf.Strings.Builder2
import Derived.Shelf.Strings.OnBuilder
import Derived.Shelf.Strings.Trim
import Derived.Shelf.Small.Utf8
import Derived.Shelf.Small.Strs
import Derived.Shelf.Small.Wraps
import Derived.Shelf.Strings.BuilderF
import Derived.Shelf.Strconv.Itoa0
import Derived.Shelf.Strconv.Itoa1
import Derived.Shelf.LaysM
import Derived.Shelf.Strconv.Itoa2
import Derived.Shelf.Strconv.Itoa3
import Derived.Shelf.Strings.Search1
import Derived.Shelf.GgClosure.StringsIndexFunc
import Derived.Ground.GgwProg
import Derived.Shelf.GgClosure.StringsIndexFuncTop
import Derived.Shelf.Strings.Prefix
import Derived.Shelf.Unicode.Decode
import Derived.Shelf.Strings.Runes
import Derived.Shelf.Strings.AsciiSet
import Derived.Shelf.Bits.Mul64
import Derived.Shelf.Strings.Repeat
import Derived.Shelf.Unicode.DecodeSlow
import Derived.Shelf.Unicode.DecodeAny
import Derived.Shelf.Strings.FuncGrows
import Derived.Ground.Names2Prog
import Derived.Shelf.Slices.ReverseS
import Derived.Shelf.Slices.Cells
import Derived.Test.YtenmplcmmdaibaaDoorCards
import Derived.Test.YtenmplcmmdaibaaDoorTie
import Derived.Deep.DeepHandedRow
import Derived.Lib.LaidTab
/- The forms of the functions, printed by a program out of their code. -/
namespace Go.Gm
set_option linter.unusedVariables false
noncomputable def Sh.dec_Digits_1 (c_1 : AVal) (H0 : AHeap) : Out :=
 (binA .none .lss c_1 (.int .i32 48)).bind fun x2 =>
 gk x2 false (some c_1) fun x3 =>
 gk x2 false (binA .none .gtr x3 (.int .i32 57)) fun x4 =>
 (condV x2 (.bool true) x4).bind fun x5 =>
 rK H0 x5 H0
noncomputable def Sh.limb_Right (a_1 : AVal) (H0 : AHeap) : Out :=
 (lenSl a_1).bind fun x2 =>
 (binA .none .eql x2 (.int .i64 0)).bind fun x3 =>
 gk x3 false (some a_1) fun x4 =>
 gk x3 false (some a_1) fun x5 =>
 gk x3 false (lenSl x5) fun x6 =>
 gk x3 false (binA .none .sub x6 (.int .i64 1)) fun x7 =>
 gk x3 false (idxSl 1 x4 x7) fun x8 =>
 gk x3 false (loadA false 1 x8 H0) fun x9 =>
 gk x3 false (binA .none .neq x9 (.int .u32 0)) fun x10 =>
 (condV x3 (.bool true) x10).bind fun x11 =>
 rK H0 x11 H0
noncomputable def Sh.limb_cut_l1 (H0 : AHeap) (rec1 : LK) (a_2 : AVal) (H3 : AHeap) : Out :=
 bK H0 (Sh.limb_Right a_2 H3) fun x4 H5 =>
 (unA .not x4).bind fun x6 =>
 condA x6 (
 (lenSl a_2).bind fun x7 =>
 (binA .none .sub x7 (.int .i64 1)).bind fun x8 =>
 (sliceSl 1 a_2 none (some x8) none).bind fun x9 =>
 rec1 [x9] H5) (
 rKN H0 a_2 H5)
noncomputable def Sh.limb_cut (a_1 : AVal) (H0 : AHeap) : Out :=
 loopGen (fun rec1 vs H => Sh.limb_cut_l1 H0 rec1 (ag vs 0) H) FUEL [a_1] H0
noncomputable def Sh.math_bits_Div32_j1 (H0 : AHeap) (hi_4 lo_5 y_6 : AVal) (H7 : AHeap) : Out :=
 (convInt .u64 hi_4).bind fun x8 =>
 (binA .none .shl x8 (.int .u64 32)).bind fun x9 =>
 (convInt .u64 lo_5).bind fun x10 =>
 (binA .none .or x9 x10).bind fun x11 =>
 bC (convInt .u64 y_6) (fun _ => True) fun x12 =>
 (binA .none .quo x11 x12).bind fun x13 =>
 bC (convInt .u32 x13) (fun _ => True) fun x14 =>
 bC (convInt .u64 y_6) (fun _ => True) fun x15 =>
 (binA .none .rem x11 x15).bind fun x16 =>
 bC (convInt .u32 x16) (fun _ => True) fun x17 =>
 rK H0 (.tup [x14, x17]) H7
noncomputable def Sh.math_bits_Div32 (hi_1 lo_2 y_3 : AVal) (H0 : AHeap) : Out :=
 joinPt (fun j1 =>
 (binA .none .neq y_3 (.int .u32 0)).bind fun x18 =>
 gk x18 true (some y_3) fun x19 =>
 gk x18 true (some hi_1) fun x20 =>
 gk x18 true (binA .none .leq x19 x20) fun x21 =>
 (condV x18 x21 (.bool false)).bind fun x22 =>
 condA x22 (
 (loadA false 1 .undef H0).bind fun x23 =>
 bK H0 (panA x23 H0) fun _ H25 =>
 j1 [hi_1, lo_2, y_3] H25) (
 j1 [hi_1, lo_2, y_3] H0)) (fun vs H => Sh.math_bits_Div32_j1 H0 (ag vs 0) (ag vs 1) (ag vs 2) H)
noncomputable def Sh.stringslite_HasPrefix (s_1 prefix_2 : AVal) (H0 : AHeap) : Out :=
 (lenStr s_1).bind fun x3 =>
 (lenStr prefix_2).bind fun x4 =>
 (binA .none .geq x3 x4).bind fun x5 =>
 gk x5 true (some s_1) fun x6 =>
 gk x5 true (some prefix_2) fun x7 =>
 gk x5 true (lenStr x7) fun x8 =>
 gk x5 true (sliceStr x6 none (some x8)) fun x9 =>
 gk x5 true (some prefix_2) fun x10 =>
 gk x5 true (binA .none .eql x9 x10) fun x11 =>
 (condV x5 x11 (.bool false)).bind fun x12 =>
 rK H0 x12 H0
noncomputable def Sh.stringslite_CutPrefix (s_1 prefix_2 : AVal) (H0 : AHeap) : Out :=
 bK H0 (Sh.stringslite_HasPrefix s_1 prefix_2 H0) fun x3 H4 =>
 (unA .not x3).bind fun x5 =>
 condA x5 (
 rK H0 (.tup [s_1, (.bool false)]) H4) (
 (lenStr prefix_2).bind fun x6 =>
 (sliceStr s_1 (some x6) none).bind fun x7 =>
 rK H0 (.tup [x7, (.bool true)]) H4)
noncomputable def Sh.strings_CutPrefix (s_1 prefix_2 : AVal) (H0 : AHeap) : Out :=
 bK H0 (Sh.stringslite_CutPrefix s_1 prefix_2 H0) fun x3 H4 =>
 (extractA 0 x3).bind fun x5 =>
 (extractA 1 x3).bind fun x6 =>
 rK H0 (.tup [x5, x6]) H4
noncomputable def Sh.dec_Digits (s_1 at_2 : AVal) (H0 : AHeap) : Out :=
 (binA .none .lss at_2 (.int .i64 0)).bind fun x3 =>
 gk x3 false (some at_2) fun x4 =>
 gk x3 false (some s_1) fun x5 =>
 gk x3 false (lenStr x5) fun x6 =>
 gk x3 false (binA .none .gtr x4 x6) fun x7 =>
 (condV x3 (.bool true) x7).bind fun x8 =>
 condA x8 (
 rK H0 (.int .i64 0) H0) (
 (sliceStr s_1 (some at_2) none).bind fun x9 =>
 bK H0 (Sh.strings_IndexFunc x9 (.fn 33 []) H0) fun x10 H11 =>
 (binA .none .lss x10 (.int .i64 0)).bind fun x12 =>
 condA x12 (
 (lenStr x9).bind fun x13 =>
 rK H0 x13 H11) (
 rK H0 x10 H11))
noncomputable def Sh.limb_Mul_l1 (H0 : AHeap) (rec1 : LK) (a_10 m_11 out_12 carry_13 x14 x15 x16 : AVal) (H17 : AHeap) : Out :=
 (binA .none .lss x16 x15).bind fun x18 =>
 condA x18 (
 (idxSl 1 x14 x16).bind fun x19 =>
 (loadA false 1 x19 H17).bind fun x20 =>
 (convInt .u64 x20).bind fun x21 =>
 (convInt .u64 m_11).bind fun x22 =>
 (binA .none .mul x21 x22).bind fun x23 =>
 (binA .none .add carry_13 x23).bind fun x24 =>
 (convInt .u32 x24).bind fun x25 =>
 (idxSl 1 out_12 x16).bind fun x26 =>
 bP H0 (retH (storeA 1 x26 x25 H17)) fun _ H28 =>
 (binA .none .shr x24 (.int .u64 32)).bind fun x29 =>
 (binA .none .add x16 (.int .i64 1)).bind fun x30 =>
 rec1 [a_10, m_11, out_12, x29, x14, x15, x30] H28) (
 (lenSl a_10).bind fun x31 =>
 (convInt .u32 carry_13).bind fun x32 =>
 (idxSl 1 out_12 x31).bind fun x33 =>
 bP H0 (retH (storeA 1 x33 x32 H17)) fun _ H35 =>
 bP H0 (Sh.limb_cut out_12 H35) fun x36 H37 =>
 rPN H0 x36 H37)
noncomputable def Sh.limb_Mul (a_1 m_2 c_3 : AVal) (H0 : AHeap) : Out :=
 (lenSl a_1).bind fun x4 =>
 (binA .none .add x4 (.int .i64 1)).bind fun x5 =>
 afterA (makeA 1 4 (some [(.int .u32 0)]) x5 x5 H0) fun x6 H7 =>
 (convInt .u64 c_3).bind fun x8 =>
 (lenSl a_1).bind fun x9 =>
 loopGen (fun rec1 vs H => Sh.limb_Mul_l1 H0 rec1 (ag vs 0) (ag vs 1) (ag vs 2) (ag vs 3) (ag vs 4) (ag vs 5) (ag vs 6) H) FUEL [a_1, m_2, x6, x8, a_1, x9, (.int .i64 0)] H7
noncomputable def Sh.dec_Parse_l2 (H0 : AHeap) (rec2 : LK) (x25 neg_26 l_27 x28 : AVal) (H29 : AHeap) : Out :=
 bP H0 (retVH (nextA x28 H29)) fun x30 H31 =>
 (extractA 0 x30).bind fun x32 =>
 condA x32 (
 (extractA 2 x30).bind fun x33 =>
 (binA .none .sub x33 (.int .i32 48)).bind fun x34 =>
 (convInt .u32 x34).bind fun x35 =>
 bP H0 (Sh.limb_Mul l_27 (.int .u32 10) x35 H31) fun x36 H37 =>
 rec2 [x25, neg_26, x36, x28] H37) (
 (buildA (some [(.bool false), (.sl [] .tight)]) [(0, 1, neg_26), (1, 1, l_27)]).bind fun x38 =>
 bP H0 (retH (storeA 2 x25 x38 H31)) fun _ H40 =>
 (resM [loadA true 2 x25 H40, some (.int .i64 0)]).bind fun x41 => rPN H0 x41 H40)
noncomputable def Sh.dec_Parse_j1 (H0 : AHeap) (x8 d_9 neg_10 x11 : AVal) (H12 : AHeap) : Out :=
 condA x11 (
 (buildA (some [(.bool false), (.sl [] .tight)]) []).bind fun x13 =>
 bP H0 (retH (storeA 2 x8 x13 H12)) fun _ H15 =>
 (resM [loadA true 2 x8 H15, some (.int .i64 2)]).bind fun x16 => rPN H0 x16 H15) (
 (lenStr d_9).bind fun x17 =>
 (binA .none .gtr x17 (.int .i64 400)).bind fun x18 =>
 condA x18 (
 (buildA (some [(.bool false), (.sl [] .tight)]) []).bind fun x19 =>
 bP H0 (retH (storeA 2 x8 x19 H12)) fun _ H21 =>
 (resM [loadA true 2 x8 H21, some (.int .i64 4)]).bind fun x22 => rPN H0 x22 H21) (
 bP H0 (retVH (rangeA d_9 H12)) fun x23 H24 =>
 loopGen (fun rec2 vs H => Sh.dec_Parse_l2 H0 rec2 (ag vs 0) (ag vs 1) (ag vs 2) (ag vs 3) H) FUEL [x8, neg_10, (.sl [] .tight), x23] H24))
noncomputable def Sh.dec_Parse (s_1 : AVal) (H0 : AHeap) : Out :=
 afterA (allocA (some [(.bool false), (.sl [] .tight)]) H0) fun x2 H3 =>
 bP H0 (Sh.strings_CutPrefix s_1 (.str [45]) H3) fun x4 H5 =>
 (extractA 0 x4).bind fun x6 =>
 (extractA 1 x4).bind fun x7 =>
 joinPt (fun j1 =>
 (binA .none .eql x6 (.str [])).bind fun x42 =>
 condA x42 (
 j1 [x2, x6, x7, x42] H5) (
 bP H0 (Sh.dec_Digits x6 (.int .i64 0) H5) fun x43 H44 =>
 (lenStr x6).bind fun x45 =>
 (binA .none .lss x43 x45).bind fun x46 =>
 condA x46 (
 j1 [x2, x6, x7, x46] H44) (
 (idxStr x6 (.int .i64 0)).bind fun x47 =>
 (binA .none .eql x47 (.int .u8 48)).bind fun x48 =>
 gk x48 true (some s_1) fun x49 =>
 gk x48 true (binA .none .neq x49 (.str [48])) fun x50 =>
 (condV x48 x50 (.bool false)).bind fun x51 =>
 j1 [x2, x6, x7, x51] H44))) (fun vs H => Sh.dec_Parse_j1 H0 (ag vs 0) (ag vs 1) (ag vs 2) (ag vs 3) H)
noncomputable def Sh.gliderref01_cut_l1 (H0 : AHeap) (rec1 : LK) (b_2 : AVal) (H3 : AHeap) : Out :=
 (lenSl b_2).bind fun x4 =>
 (binA .none .gtr x4 (.int .i64 0)).bind fun x5 =>
 gk x5 true (some b_2) fun x6 =>
 gk x5 true (some b_2) fun x7 =>
 gk x5 true (lenSl x7) fun x8 =>
 gk x5 true (binA .none .sub x8 (.int .i64 1)) fun x9 =>
 gk x5 true (idxSl 1 x6 x9) fun x10 =>
 gk x5 true (loadA false 1 x10 H3) fun x11 =>
 gk x5 true (unA .not x11) fun x12 =>
 (condV x5 x12 (.bool false)).bind fun x13 =>
 condA x13 (
 (lenSl b_2).bind fun x14 =>
 (binA .none .sub x14 (.int .i64 1)).bind fun x15 =>
 (sliceSl 1 b_2 none (some x15) none).bind fun x16 =>
 rec1 [x16] H3) (
 rKN H0 b_2 H3)
noncomputable def Sh.gliderref01_cut (b_1 : AVal) (H0 : AHeap) : Out :=
 loopGen (fun rec1 vs H => Sh.gliderref01_cut_l1 H0 rec1 (ag vs 0) H) FUEL [b_1] H0
noncomputable def Sh.gliderref01_Bits_l2 (H0 : AHeap) (rec1 : LK) (rec2 : LK) (a_10 out_11 i_12 x13 k_14 : AVal) (H15 : AHeap) : Out :=
 (binA .none .lss k_14 (.int .i64 32)).bind fun x16 =>
 condA x16 (
 (binA .none .rem x13 (.int .u32 2)).bind fun x17 =>
 (binA .none .eql x17 (.int .u32 1)).bind fun x18 =>
 (buildSl 1 [x18]).bind fun x19 =>
 bP H0 (retVH (appendA ty_bool 1 1 out_11 x19 H15)) fun x20 H21 =>
 (binA .none .quo x13 (.int .u32 2)).bind fun x22 =>
 (binA .none .add k_14 (.int .i64 1)).bind fun x23 =>
 rec2 [a_10, x20, i_12, x22, x23] H21) (
 (binA .none .add i_12 (.int .i64 1)).bind fun x24 =>
 rec1 [a_10, out_11, x24] H15)
noncomputable def Sh.gliderref01_Bits_l1 (H0 : AHeap) (rec1 : LK) (a_2 out_3 i_4 : AVal) (H5 : AHeap) : Out :=
 (lenSl a_2).bind fun x6 =>
 (binA .none .lss i_4 x6).bind fun x7 =>
 condA x7 (
 (idxSl 1 a_2 i_4).bind fun x8 =>
 (loadA false 1 x8 H5).bind fun x9 =>
 loopGen (fun rec2 vs H => Sh.gliderref01_Bits_l2 H0 rec1 rec2 (ag vs 0) (ag vs 1) (ag vs 2) (ag vs 3) (ag vs 4) H) FUEL [a_2, out_3, i_4, x9, (.int .i64 0)] H5) (
 bP H0 (Sh.gliderref01_cut out_3 H5) fun x25 H26 =>
 rPN H0 x25 H26)
noncomputable def Sh.gliderref01_Bits (a_1 : AVal) (H0 : AHeap) : Out :=
 loopGen (fun rec1 vs H => Sh.gliderref01_Bits_l1 H0 rec1 (ag vs 0) (ag vs 1) (ag vs 2) H) FUEL [a_1, (.sl [] .tight), (.int .i64 0)] H0
noncomputable def Sh.gliderref01_Of_j3 (H0 : AHeap) (rec2 : LK) (b_24 out_25 i_26 x27 p_28 k_29 : AVal) (H30 : AHeap) : Out :=
 (binA .none .mul p_28 (.int .u32 2)).bind fun x31 =>
 (binA .none .add k_29 (.int .i64 1)).bind fun x32 =>
 rec2 [b_24, out_25, i_26, x27, x31, x32] H30
noncomputable def Sh.gliderref01_Of_l2 (H0 : AHeap) (rec1 : LK) (rec2 : LK) (b_10 out_11 i_12 x13 p_14 k_15 : AVal) (H16 : AHeap) : Out :=
 (lenSl b_10).bind fun x17 =>
 (binA .none .lss k_15 x17).bind fun x18 =>
 gk x18 true (some k_15) fun x19 =>
 gk x18 true (some i_12) fun x20 =>
 gk x18 true (binA .none .add x20 (.int .i64 32)) fun x21 =>
 gk x18 true (binA .none .lss x19 x21) fun x22 =>
 (condV x18 x22 (.bool false)).bind fun x23 =>
 condA x23 (
 joinPt (fun j3 =>
 (idxSl 1 b_10 k_15).bind fun x33 =>
 (loadA false 1 x33 H16).bind fun x34 =>
 condA x34 (
 (binA .none .add x13 p_14).bind fun x35 =>
 j3 [b_10, out_11, i_12, x35, p_14, k_15] H16) (
 j3 [b_10, out_11, i_12, x13, p_14, k_15] H16)) (fun vs H => Sh.gliderref01_Of_j3 H0 rec2 (ag vs 0) (ag vs 1) (ag vs 2) (ag vs 3) (ag vs 4) (ag vs 5) H)) (
 (buildSl 1 [x13]).bind fun x36 =>
 bP H0 (retVH (appendA ty_uint32 1 4 out_11 x36 H16)) fun x37 H38 =>
 (binA .none .add i_12 (.int .i64 32)).bind fun x39 =>
 rec1 [b_10, x37, x39] H38)
noncomputable def Sh.gliderref01_Of_l1 (H0 : AHeap) (rec1 : LK) (b_4 out_5 i_6 : AVal) (H7 : AHeap) : Out :=
 (lenSl b_4).bind fun x8 =>
 (binA .none .lss i_6 x8).bind fun x9 =>
 condA x9 (
 loopGen (fun rec2 vs H => Sh.gliderref01_Of_l2 H0 rec1 rec2 (ag vs 0) (ag vs 1) (ag vs 2) (ag vs 3) (ag vs 4) (ag vs 5) H) FUEL [b_4, out_5, i_6, (.int .u32 0), (.int .u32 1), i_6] H7) (
 rPN H0 out_5 H7)
noncomputable def Sh.gliderref01_Of (b_1 : AVal) (H0 : AHeap) : Out :=
 bP H0 (Sh.gliderref01_cut b_1 H0) fun x2 H3 =>
 loopGen (fun rec1 vs H => Sh.gliderref01_Of_l1 H0 rec1 (ag vs 0) (ag vs 1) (ag vs 2) H) FUEL [x2, (.sl [] .tight), (.int .i64 0)] H3
noncomputable def Sh.gliderref01_Norm (a_1 : AVal) (H0 : AHeap) : Out :=
 bK H0 (Sh.gliderref01_Bits a_1 H0) fun x2 H3 =>
 bK H0 (Sh.gliderref01_Of x2 H3) fun x4 H5 =>
 rKN H0 x4 H5
noncomputable def Sh.gliderref02_sign (neg_1 l_2 : AVal) (H0 : AHeap) : Out :=
 afterA (allocA (some [(.bool false), (.sl [] .tight)]) H0) fun x3 H4 =>
 bP H0 (Sh.gliderref01_Norm l_2 H4) fun x5 H6 =>
 gk neg_1 true (some x5) fun x7 =>
 gk neg_1 true (lenSl x7) fun x8 =>
 gk neg_1 true (binA .none .gtr x8 (.int .i64 0)) fun x9 =>
 (condV neg_1 x9 (.bool false)).bind fun x10 =>
 (buildA (some [(.bool false), (.sl [] .tight)]) [(0, 1, x10), (1, 1, x5)]).bind fun x11 =>
 bP H0 (retH (storeA 2 x3 x11 H6)) fun _ H13 =>
 (loadA true 2 x3 H13).bind fun x14 => rPN H0 x14 H13
noncomputable def Sh.gliderref02_Of_j1 (H0 : AHeap) (n_5 x6 u_7 : AVal) (H8 : AHeap) : Out :=
 (binA .none .lss n_5 (.int .i64 0)).bind fun x9 =>
 (binA .none .rem u_7 (.int .u64 4294967296)).bind fun x10 =>
 (convInt .u32 x10).bind fun x11 =>
 (binA .none .quo u_7 (.int .u64 4294967296)).bind fun x12 =>
 (convInt .u32 x12).bind fun x13 =>
 (buildSl 1 [x11, x13]).bind fun x14 =>
 bP H0 (Sh.gliderref02_sign x9 x14 H8) fun x15 H16 =>
 bP H0 (retH (storeA 2 x6 x15 H16)) fun _ H18 =>
 (loadA true 2 x6 H18).bind fun x19 => rPN H0 x19 H18
noncomputable def Sh.gliderref02_Of (n_1 : AVal) (H0 : AHeap) : Out :=
 afterA (allocA (some [(.bool false), (.sl [] .tight)]) H0) fun x2 H3 =>
 (convInt .u64 n_1).bind fun x4 =>
 joinPt (fun j1 =>
 (binA .none .lss n_1 (.int .i64 0)).bind fun x20 =>
 condA x20 (
 (unA .neg x4).bind fun x21 =>
 j1 [n_1, x2, x21] H3) (
 j1 [n_1, x2, x4] H3)) (fun vs H => Sh.gliderref02_Of_j1 H0 (ag vs 0) (ag vs 1) (ag vs 2) H)
noncomputable def Sh.gliderref01_Shl (a_1 n_2 : AVal) (H0 : AHeap) : Out :=
 (binA .none .lss n_2 (.int .i64 0)).bind fun x3 =>
 gk x3 false (some n_2) fun x4 =>
 gk x3 false (binA .none .gtr x4 (.int .i64 10000)) fun x5 =>
 (condV x3 (.bool true) x5).bind fun x6 =>
 condA x6 (
 rPN H0 (.sl [] .tight) H0) (
 bindN (Sh.gliderref01_Bits a_1 H0) fun x7 H8 =>
 afterA (makeA 1 1 (some [(.bool false)]) n_2 n_2 H8) fun x9 H10 =>
 bindN (retVH (appendA ty_bool 1 1 x9 x7 H10)) fun x11 H12 =>
 bindN (Sh.gliderref01_Of x11 H12) fun x13 H14 =>
 rPN H0 x13 H14)
noncomputable def Sh.gliderref02_Shl (x1 n_2 : AVal) (H0 : AHeap) : Out :=
 afterA (boxA true 2 x1 H0) fun x3 H4 =>
 afterA (allocA (some [(.bool false), (.sl [] .tight)]) H4) fun x5 H6 =>
 (fieldAddrA 1 x3).bind fun x7 =>
 bC (loadA false 1 x7 H6) (fun _ => True) fun x8 =>
 bindN (Sh.gliderref01_Shl x8 n_2 H6) fun x9 H10 =>
 (fieldAddrA 0 x3).bind fun x11 =>
 bC (loadA false 1 x11 H10) (fun x12 => loadA false 1 x11 H6 = some x12 ∧ True) fun x12 =>
 bindN (Sh.gliderref02_sign x12 x9 H10) fun x13 H14 =>
 bP H0 (retH (storeA 2 x5 x13 H14)) fun _ H16 =>
 (loadA true 2 x5 H16).bind fun x17 => rPN H0 x17 H16
noncomputable def Sh.gliderref02_Pow (n_1 : AVal) (H0 : AHeap) : Out :=
 afterA (allocA (some [(.bool false), (.sl [] .tight)]) H0) fun x2 H3 =>
 bP H0 (Sh.gliderref02_Of (.int .i64 1) H3) fun x4 H5 =>
 bP H0 (Sh.gliderref02_Shl x4 n_1 H5) fun x6 H7 =>
 bP H0 (retH (storeA 2 x2 x6 H7)) fun _ H9 =>
 (loadA true 2 x2 H9).bind fun x10 => rPN H0 x10 H9
noncomputable def Sh.gliderref02_Minus (x1 : AVal) (H0 : AHeap) : Out :=
 afterA (boxA true 2 x1 H0) fun x2 H3 =>
 afterA (allocA (some [(.bool false), (.sl [] .tight)]) H3) fun x4 H5 =>
 (fieldAddrA 0 x2).bind fun x6 =>
 (loadA false 1 x6 H5).bind fun x7 =>
 (unA .not x7).bind fun x8 =>
 (fieldAddrA 1 x2).bind fun x9 =>
 (loadA false 1 x9 H5).bind fun x10 =>
 bP H0 (Sh.gliderref02_sign x8 x10 H5) fun x11 H12 =>
 bP H0 (retH (storeA 2 x4 x11 H12)) fun _ H14 =>
 (loadA true 2 x4 H14).bind fun x15 => rPN H0 x15 H14
noncomputable def Sh.gliderref01_Same_l1 (H0 : AHeap) (rec1 : LK) (a_6 b_7 i_8 : AVal) (H9 : AHeap) : Out :=
 (lenSl a_6).bind fun x10 =>
 (binA .none .lss i_8 x10).bind fun x11 =>
 condA x11 (
 (idxSl 1 a_6 i_8).bind fun x12 =>
 bC (loadA false 1 x12 H9) (fun _ => True) fun x13 =>
 (idxSl 1 b_7 i_8).bind fun x14 =>
 bC (loadA false 1 x14 H9) (fun _ => True) fun x15 =>
 (binA .none .neq x13 x15).bind fun x16 =>
 condA x16 (
 rK H0 (.bool false) H9) (
 (binA .none .add i_8 (.int .i64 1)).bind fun x17 =>
 rec1 [a_6, b_7, x17] H9)) (
 rK H0 (.bool true) H9)
noncomputable def Sh.gliderref01_Same (a_1 b_2 : AVal) (H0 : AHeap) : Out :=
 (lenSl a_1).bind fun x3 =>
 (lenSl b_2).bind fun x4 =>
 (binA .none .neq x3 x4).bind fun x5 =>
 condA x5 (
 rK H0 (.bool false) H0) (
 loopGen (fun rec1 vs H => Sh.gliderref01_Same_l1 H0 rec1 (ag vs 0) (ag vs 1) (ag vs 2) H) FUEL [a_1, b_2, (.int .i64 0)] H0)
noncomputable def Sh.gliderref02_Same (x1 y_2 : AVal) (H0 : AHeap) : Out :=
 afterA (boxA true 2 x1 H0) fun x3 H4 =>
 afterA (boxA true 2 y_2 H4) fun y_5 H6 =>
 (fieldAddrA 0 x3).bind fun x7 =>
 (loadA false 1 x7 H6).bind fun x8 =>
 (fieldAddrA 0 y_5).bind fun x9 =>
 (loadA false 1 x9 H6).bind fun x10 =>
 (binA .bool .eql x8 x10).bind fun x11 =>
 gk x11 true (fieldAddrA 1 x3) fun x12 =>
 gk x11 true (loadA false 1 x12 H6) fun x13 =>
 gk x11 true (fieldAddrA 1 y_5) fun x14 =>
 gk x11 true (loadA false 1 x14 H6) fun x15 =>
 gbP H0 x11 true H6 (Sh.gliderref01_Same x13 x15 H6) fun x16 H17 =>
 (condV x11 x16 (.bool false)).bind fun x18 =>
 rP H0 x18 H17
noncomputable def Sh.dec_pad (n_1 : AVal) (H0 : AHeap) : Out :=
 (convInt .i64 n_1).bind fun x2 =>
 bK H0 (Sh.strconv_Itoa x2 H0) fun x3 H4 =>
 (lenStr x3).bind fun x5 =>
 (binA .none .sub (.int .i64 9) x5).bind fun x6 =>
 bK H0 (Sh.strings_Repeat (.str [48]) x6 H4) fun x7 H8 =>
 (binA .none .add x7 x3).bind fun x9 =>
 rK H0 x9 H8
noncomputable def Sh.slices_Reverse___string_string__l1 (H0 : AHeap) (rec1 : LK) (s_4 i_5 j_6 : AVal) (H7 : AHeap) : Out :=
 (binA .none .lss i_5 j_6).bind fun x8 =>
 condA x8 (
 (idxSl 1 s_4 j_6).bind fun x9 =>
 bC (loadA false 1 x9 H7) (fun _ => True) fun x10 =>
 (idxSl 1 s_4 i_5).bind fun x11 =>
 bC (loadA false 1 x11 H7) (fun _ => True) fun x12 =>
 (idxSl 1 s_4 i_5).bind fun x13 =>
 bindN (retH (storeA 1 x13 x10 H7)) fun _ H15 =>
 (idxSl 1 s_4 j_6).bind fun x16 =>
 bK H0 (retH (storeA 1 x16 x12 H15)) fun _ H18 =>
 (binA .none .add i_5 (.int .i64 1)).bind fun x19 =>
 (binA .none .sub j_6 (.int .i64 1)).bind fun x20 =>
 rec1 [s_4, x19, x20] H18) (
 rK H0 (.tup []) H7)
noncomputable def Sh.slices_Reverse___string_string_ (s_1 : AVal) (H0 : AHeap) : Out :=
 (lenSl s_1).bind fun x2 =>
 (binA .none .sub x2 (.int .i64 1)).bind fun x3 =>
 loopGen (fun rec1 vs H => Sh.slices_Reverse___string_string__l1 H0 rec1 (ag vs 0) (ag vs 1) (ag vs 2) H) FUEL [s_1, (.int .i64 0), x3] H0
noncomputable def Sh.dec_Text_l1 (H0 : AHeap) (rec1 : LK) (x6 parts_7 l_8 : AVal) (H9 : AHeap) : Out :=
 (lenSl l_8).bind fun x10 =>
 (binA .none .gtr x10 (.int .i64 0)).bind fun x11 =>
 condA x11 (
 bP H0 (Sh.limb_Div l_8 (.int .u32 1000000000) H9) fun x12 H13 =>
 (extractA 0 x12).bind fun x14 =>
 (extractA 1 x12).bind fun x15 =>
 bP H0 (Sh.dec_pad x15 H13) fun x16 H17 =>
 (buildSl 1 [x16]).bind fun x18 =>
 bP H0 (retVH (appendM ty_string 1 16 parts_7 x18 H17)) fun x19 H20 =>
 rec1 [x6, x19, x14] H20) (
 bP H0 (Sh.slices_Reverse___string_string_ parts_7 H9) fun x21 H22 =>
 bP H0 (Sh.strings_Join parts_7 (.str []) H22) fun x23 H24 =>
 bP H0 (Sh.strings_TrimLeft x23 (.str [48]) H24) fun x25 H26 =>
 (binA .none .eql x25 (.str [])).bind fun x27 =>
 condA x27 (
 rP H0 (.str [48]) H26) (
 (fieldAddrA 0 x6).bind fun x28 =>
 (loadA false 1 x28 H26).bind fun x29 =>
 condA x29 (
 (binA .none .add (.str [45]) x25).bind fun x30 =>
 rP H0 x30 H26) (
 rP H0 x25 H26)))
noncomputable def Sh.dec_Text (x1 : AVal) (H0 : AHeap) : Out :=
 afterA (boxA true 2 x1 H0) fun x2 H3 =>
 (fieldAddrA 1 x2).bind fun x4 =>
 (loadA false 1 x4 H3).bind fun x5 =>
 loopGen (fun rec1 vs H => Sh.dec_Text_l1 H0 rec1 (ag vs 0) (ag vs 1) (ag vs 2) H) FUEL [x2, (.sl [] .tight), x5] H3
noncomputable def Sh.gliderlaw03_alive (H0 : AHeap) : Out :=
 bP H0 (Sh.dec_Parse (.str [45, 48]) H0) fun x1 H2 =>
 (extractA 0 x1).bind fun x3 =>
 (extractA 1 x1).bind fun x4 =>
 afterA (allocA (some [(.bool false), (.sl [] .tight)]) H2) fun __5 H6 =>
 bP H0 (retH (storeA 2 __5 x3 H6)) fun _ H8 =>
 bP H0 (Sh.dec_Parse (.str [48, 48, 55]) H8) fun x9 H10 =>
 (extractA 0 x9).bind fun x11 =>
 (extractA 1 x9).bind fun x12 =>
 afterA (allocA (some [(.bool false), (.sl [] .tight)]) H10) fun __13 H14 =>
 bP H0 (retH (storeA 2 __13 x11 H14)) fun _ H16 =>
 bP H0 (Sh.dec_Parse (.str [45, 49, 56, 52, 52, 54, 55, 52, 52, 48, 55, 51, 55, 48, 57, 53, 53, 49, 54, 49, 54]) H16) fun x17 H18 =>
 (extractA 0 x17).bind fun x19 =>
 (extractA 1 x17).bind fun x20 =>
 afterA (allocA (some [(.bool false), (.sl [] .tight)]) H18) fun x21 H22 =>
 bP H0 (retH (storeA 2 x21 x19 H22)) fun _ H24 =>
 (binA .none .eql x4 (.int .i64 2)).bind fun x25 =>
 gk x25 true (some x12) fun x26 =>
 gk x25 true (binA .none .eql x26 (.int .i64 2)) fun x27 =>
 (condV x25 x27 (.bool false)).bind fun x28 =>
 gk x28 true (some x20) fun x29 =>
 gk x28 true (binA .none .eql x29 (.int .i64 0)) fun x30 =>
 (condV x28 x30 (.bool false)).bind fun x31 =>
 gbN x31 true H24 (Sh.gliderref02_Pow (.int .i64 64) H24) fun x32 H33 =>
 gbN x31 true H33 (Sh.gliderref02_Minus x32 H33) fun x34 H35 =>
 gkc x31 true (loadA true 2 x21 H35) (fun b x36 => gR b (loadA true 2 x21 H33) = some x36 ∧ gR b (loadA true 2 x21 H24) = some x36 ∧ True) fun x36 =>
 gbN x31 true H35 (Sh.gliderref02_Same x36 x34 H35) fun x37 H38 =>
 (condV x31 x37 (.bool false)).bind fun x39 =>
 gkc x39 true (loadA true 2 x21 H38) (fun _ _ => True) fun x40 =>
 gbN x39 true H38 (Sh.dec_Text x40 H38) fun x41 H42 =>
 gk x39 true (binA .none .eql x41 (.str [45, 49, 56, 52, 52, 54, 55, 52, 52, 48, 55, 51, 55, 48, 57, 53, 53, 49, 54, 49, 54])) fun x43 =>
 (condV x39 x43 (.bool false)).bind fun x44 =>
 gk x44 true (buildA (some [(.bool false), (.sl [] .tight)]) []) fun x45 =>
 gbN x44 true H42 (Sh.dec_Text x45 H42) fun x46 H47 =>
 gk x44 true (binA .none .eql x46 (.str [48])) fun x48 =>
 (condV x44 x48 (.bool false)).bind fun x49 =>
 gbN x49 true H47 (Sh.dec_Digits (.str [97, 49, 50, 98]) (.int .i64 1) H47) fun x50 H51 =>
 gk x49 true (binA .none .eql x50 (.int .i64 2)) fun x52 =>
 (condV x49 x52 (.bool false)).bind fun x53 =>
 rP H0 x53 H51
noncomputable def Sh.gliderref02_Great (x1 : AVal) (H0 : AHeap) : Out :=
 afterA (boxA true 2 x1 H0) fun x2 H3 =>
 (fieldAddrA 1 x2).bind fun x4 =>
 (loadA false 1 x4 H3).bind fun x5 =>
 (lenSl x5).bind fun x6 =>
 (binA .none .gtr x6 (.int .i64 60)).bind fun x7 =>
 rP H0 x7 H3
noncomputable def Sh.gliderref01_Right (a_1 : AVal) (H0 : AHeap) : Out :=
 (lenSl a_1).bind fun x2 =>
 (binA .none .eql x2 (.int .i64 0)).bind fun x3 =>
 gk x3 false (some a_1) fun x4 =>
 gk x3 false (some a_1) fun x5 =>
 gk x3 false (lenSl x5) fun x6 =>
 gk x3 false (binA .none .sub x6 (.int .i64 1)) fun x7 =>
 gk x3 false (idxSl 1 x4 x7) fun x8 =>
 gk x3 false (loadA false 1 x8 H0) fun x9 =>
 gk x3 false (binA .none .neq x9 (.int .u32 0)) fun x10 =>
 (condV x3 (.bool true) x10).bind fun x11 =>
 rK H0 x11 H0
noncomputable def Sh.gliderref02_Right (x1 : AVal) (H0 : AHeap) : Out :=
 afterA (boxA true 2 x1 H0) fun x2 H3 =>
 (fieldAddrA 1 x2).bind fun x4 =>
 (loadA false 1 x4 H3).bind fun x5 =>
 bP H0 (Sh.gliderref01_Right x5 H3) fun x6 H7 =>
 gk x6 true (fieldAddrA 0 x2) fun x8 =>
 gk x6 true (loadA false 1 x8 H7) fun x9 =>
 gk x6 true (some x9) fun x10 =>
 gk x10 true (fieldAddrA 1 x2) fun x11 =>
 gk x10 true (loadA false 1 x11 H7) fun x12 =>
 gk x10 true (lenSl x12) fun x13 =>
 gk x10 true (binA .none .eql x13 (.int .i64 0)) fun x14 =>
 gk x6 true (condV x10 x14 (.bool false)) fun x15 =>
 gk x6 true (unA .not x15) fun x16 =>
 (condV x6 x16 (.bool false)).bind fun x17 =>
 rP H0 x17 H7
noncomputable def Sh.gliderref03_Digits_l1 (H0 : AHeap) (rec1 : LK) (s_3 at_4 n_5 i_6 : AVal) (H7 : AHeap) : Out :=
 (binA .none .geq at_4 (.int .i64 0)).bind fun x8 =>
 gk x8 true (some i_6) fun x9 =>
 gk x8 true (some s_3) fun x10 =>
 gk x8 true (lenStr x10) fun x11 =>
 gk x8 true (binA .none .lss x9 x11) fun x12 =>
 (condV x8 x12 (.bool false)).bind fun x13 =>
 gk x13 true (some s_3) fun x14 =>
 gk x13 true (some i_6) fun x15 =>
 gk x13 true (idxStr x14 x15) fun x16 =>
 gk x13 true (binA .none .geq x16 (.int .u8 48)) fun x17 =>
 (condV x13 x17 (.bool false)).bind fun x18 =>
 gk x18 true (some s_3) fun x19 =>
 gk x18 true (some i_6) fun x20 =>
 gk x18 true (idxStr x19 x20) fun x21 =>
 gk x18 true (binA .none .leq x21 (.int .u8 57)) fun x22 =>
 (condV x18 x22 (.bool false)).bind fun x23 =>
 condA x23 (
 (binA .none .add n_5 (.int .i64 1)).bind fun x24 =>
 (binA .none .add i_6 (.int .i64 1)).bind fun x25 =>
 rec1 [s_3, at_4, x24, x25] H7) (
 rK H0 n_5 H7)
noncomputable def Sh.gliderref03_Digits (s_1 at_2 : AVal) (H0 : AHeap) : Out :=
 loopGen (fun rec1 vs H => Sh.gliderref03_Digits_l1 H0 rec1 (ag vs 0) (ag vs 1) (ag vs 2) (ag vs 3) H) FUEL [s_1, at_2, (.int .i64 0), at_2] H0
noncomputable def Sh.gliderref01_Mul_l1 (H0 : AHeap) (rec1 : LK) (a_5 m_6 out_7 carry_8 i_9 : AVal) (H10 : AHeap) : Out :=
 (lenSl a_5).bind fun x11 =>
 (binA .none .lss i_9 x11).bind fun x12 =>
 condA x12 (
 (idxSl 1 a_5 i_9).bind fun x13 =>
 (loadA false 1 x13 H10).bind fun x14 =>
 (convInt .u64 x14).bind fun x15 =>
 (convInt .u64 m_6).bind fun x16 =>
 (binA .none .mul x15 x16).bind fun x17 =>
 (binA .none .add x17 carry_8).bind fun x18 =>
 (binA .none .rem x18 (.int .u64 4294967296)).bind fun x19 =>
 (convInt .u32 x19).bind fun x20 =>
 (buildSl 1 [x20]).bind fun x21 =>
 bP H0 (retVH (appendA ty_uint32 1 4 out_7 x21 H10)) fun x22 H23 =>
 (binA .none .quo x18 (.int .u64 4294967296)).bind fun x24 =>
 (binA .none .add i_9 (.int .i64 1)).bind fun x25 =>
 rec1 [a_5, m_6, x22, x24, x25] H23) (
 (convInt .u32 carry_8).bind fun x26 =>
 (buildSl 1 [x26]).bind fun x27 =>
 bP H0 (retVH (appendA ty_uint32 1 4 out_7 x27 H10)) fun x28 H29 =>
 bP H0 (Sh.gliderref01_Norm x28 H29) fun x30 H31 =>
 rPN H0 x30 H31)
noncomputable def Sh.gliderref01_Mul (a_1 m_2 c_3 : AVal) (H0 : AHeap) : Out :=
 (convInt .u64 c_3).bind fun x4 =>
 loopGen (fun rec1 vs H => Sh.gliderref01_Mul_l1 H0 rec1 (ag vs 0) (ag vs 1) (ag vs 2) (ag vs 3) (ag vs 4) H) FUEL [a_1, m_2, (.sl [] .tight), x4, (.int .i64 0)] H0
noncomputable def Sh.gliderref03_Parse_l2 (H0 : AHeap) (rec2 : LK) (x45 x46 x47 x48 x49 : AVal) (H50 : AHeap) : Out :=
 (lenStr x46).bind fun x51 =>
 (binA .none .lss x49 x51).bind fun x52 =>
 condA x52 (
 (idxStr x46 x49).bind fun x53 =>
 (binA .none .sub x53 (.int .u8 48)).bind fun x54 =>
 (convInt .u32 x54).bind fun x55 =>
 bP H0 (Sh.gliderref01_Mul x48 (.int .u32 10) x55 H50) fun x56 H57 =>
 (binA .none .add x49 (.int .i64 1)).bind fun x58 =>
 rec2 [x45, x46, x47, x56, x58] H57) (
 (buildA (some [(.bool false), (.sl [] .tight)]) [(1, 1, x48)]).bind fun x59 =>
 afterA (allocA (some [(.bool false), (.sl [] .tight)]) H50) fun x60 H61 =>
 bP H0 (retH (storeA 2 x60 x59 H61)) fun _ H63 =>
 condA x47 (
 (loadA true 2 x60 H63).bind fun x64 =>
 bP H0 (Sh.gliderref02_Minus x64 H63) fun x65 H66 =>
 bP H0 (retH (storeA 2 x45 x65 H66)) fun _ H68 =>
 (resM [loadA true 2 x45 H68, some (.int .i64 0)]).bind fun x69 => rPN H0 x69 H68) (
 (loadA true 2 x60 H63).bind fun x70 =>
 bP H0 (retH (storeA 2 x45 x70 H63)) fun _ H72 =>
 (resM [loadA true 2 x45 H72, some (.int .i64 0)]).bind fun x73 => rPN H0 x73 H72))
noncomputable def Sh.gliderref03_Parse_j1 (H0 : AHeap) (x10 x11 x12 : AVal) (H13 : AHeap) : Out :=
 (lenStr x11).bind fun x14 =>
 (binA .none .eql x14 (.int .i64 0)).bind fun x15 =>
 gk x15 false (some x11) fun x16 =>
 gbP H0 x15 false H13 (Sh.gliderref03_Digits x16 (.int .i64 0) H13) fun x17 H18 =>
 gk x15 false (some x11) fun x19 =>
 gk x15 false (lenStr x19) fun x20 =>
 gk x15 false (binA .none .neq x17 x20) fun x21 =>
 (condV x15 (.bool true) x21).bind fun x22 =>
 gk x22 false (some x11) fun x23 =>
 gk x22 false (idxStr x23 (.int .i64 0)) fun x24 =>
 gk x22 false (binA .none .eql x24 (.int .u8 48)) fun x25 =>
 gk x22 false (some x25) fun x26 =>
 gk x26 true (some x11) fun x27 =>
 gk x26 true (lenStr x27) fun x28 =>
 gk x26 true (binA .none .gtr x28 (.int .i64 1)) fun x29 =>
 gk x26 true (some x29) fun x30 =>
 gk x30 false (some x12) fun x31 =>
 gk x26 true (condV x30 (.bool true) x31) fun x32 =>
 gk x22 false (condV x26 x32 (.bool false)) fun x33 =>
 (condV x22 (.bool true) x33).bind fun x34 =>
 condA x34 (
 (buildA (some [(.bool false), (.sl [] .tight)]) []).bind fun x35 =>
 bP H0 (retH (storeA 2 x10 x35 H18)) fun _ H37 =>
 (resM [loadA true 2 x10 H37, some (.int .i64 2)]).bind fun x38 => rPN H0 x38 H37) (
 (lenStr x11).bind fun x39 =>
 (binA .none .gtr x39 (.int .i64 400)).bind fun x40 =>
 condA x40 (
 (buildA (some [(.bool false), (.sl [] .tight)]) []).bind fun x41 =>
 bP H0 (retH (storeA 2 x10 x41 H18)) fun _ H43 =>
 (resM [loadA true 2 x10 H43, some (.int .i64 4)]).bind fun x44 => rPN H0 x44 H43) (
 loopGen (fun rec2 vs H => Sh.gliderref03_Parse_l2 H0 rec2 (ag vs 0) (ag vs 1) (ag vs 2) (ag vs 3) (ag vs 4) H) FUEL [x10, x11, x12, (.sl [] .tight), (.int .i64 0)] H18))
noncomputable def Sh.gliderref03_Parse (x1 : AVal) (H0 : AHeap) : Out :=
 afterA (allocA (some [(.bool false), (.sl [] .tight)]) H0) fun x2 H3 =>
 (lenStr x1).bind fun x4 =>
 (binA .none .gtr x4 (.int .i64 0)).bind fun x5 =>
 gk x5 true (some x1) fun x6 =>
 gk x5 true (idxStr x6 (.int .i64 0)) fun x7 =>
 gk x5 true (binA .none .eql x7 (.int .u8 45)) fun x8 =>
 (condV x5 x8 (.bool false)).bind fun x9 =>
 joinPt (fun j1 =>
 condA x9 (
 (sliceStr x1 (some (.int .i64 1)) none).bind fun x74 =>
 j1 [x2, x74, x9] H3) (
 j1 [x2, x1, x9] H3)) (fun vs H => Sh.gliderref03_Parse_j1 H0 (ag vs 0) (ag vs 1) (ag vs 2) H)
noncomputable def Sh.gliderref01_Div_l1 (H0 : AHeap) (rec1 : LK) (a_9 m_10 out_11 left_12 i_13 : AVal) (H14 : AHeap) : Out :=
 (binA .none .geq i_13 (.int .i64 0)).bind fun x15 =>
 condA x15 (
 (binA .none .mul left_12 (.int .u64 4294967296)).bind fun x16 =>
 (idxSl 1 a_9 i_13).bind fun x17 =>
 (loadA false 1 x17 H14).bind fun x18 =>
 (convInt .u64 x18).bind fun x19 =>
 (binA .none .add x16 x19).bind fun x20 =>
 bC (convInt .u64 m_10) (fun _ => True) fun x21 =>
 (binA .none .quo x20 x21).bind fun x22 =>
 bC (convInt .u32 x22) (fun _ => True) fun x23 =>
 (idxSl 1 out_11 i_13).bind fun x24 =>
 bindN (retH (storeA 1 x24 x23 H14)) fun _ H26 =>
 bC (convInt .u64 m_10) (fun x27 => convInt .u64 m_10 = some x27 ∧ True) fun x27 =>
 (binA .none .rem x20 x27).bind fun x28 =>
 (binA .none .sub i_13 (.int .i64 1)).bind fun x29 =>
 rec1 [a_9, m_10, out_11, x28, x29] H26) (
 bP H0 (Sh.gliderref01_Norm out_11 H14) fun x30 H31 =>
 (convInt .u32 left_12).bind fun x32 =>
 rPN H0 (.tup [x30, x32]) H31)
noncomputable def Sh.gliderref01_Div (a_1 m_2 : AVal) (H0 : AHeap) : Out :=
 (binA .none .eql m_2 (.int .u32 0)).bind fun x3 =>
 condA x3 (
 rPN H0 (.tup [(.sl [] .tight), (.int .u32 0)]) H0) (
 (lenSl a_1).bind fun x4 =>
 afterA (makeA 1 4 (some [(.int .u32 0)]) x4 x4 H0) fun x5 H6 =>
 (lenSl a_1).bind fun x7 =>
 (binA .none .sub x7 (.int .i64 1)).bind fun x8 =>
 loopGen (fun rec1 vs H => Sh.gliderref01_Div_l1 H0 rec1 (ag vs 0) (ag vs 1) (ag vs 2) (ag vs 3) (ag vs 4) H) FUEL [a_1, m_2, x5, (.int .u64 0), x8] H6)
noncomputable def Sh.gliderref03_Text_l1 (H0 : AHeap) (rec1 : LK) (x6 s_7 l_8 : AVal) (H9 : AHeap) : Out :=
 bP H0 (Sh.gliderref01_Div l_8 (.int .u32 10) H9) fun x10 H11 =>
 (extractA 0 x10).bind fun x12 =>
 (extractA 1 x10).bind fun x13 =>
 (binA .none .add (.int .u32 48) x13).bind fun x14 =>
 (convInt .u8 x14).bind fun x15 =>
 (buildSl 1 [x15]).bind fun x16 =>
 (convToStr x16 H11).bind fun x17 =>
 (binA .none .add x17 s_7).bind fun x18 =>
 (lenSl x12).bind fun x19 =>
 (binA .none .eql x19 (.int .i64 0)).bind fun x20 =>
 condA x20 (
 (fieldAddrA 0 x6).bind fun x21 =>
 (loadA false 1 x21 H11).bind fun x22 =>
 condA x22 (
 (binA .none .add (.str [45]) x18).bind fun x23 =>
 rP H0 x23 H11) (
 rP H0 x18 H11)) (
 rec1 [x6, x18, x12] H11)
noncomputable def Sh.gliderref03_Text (x1 : AVal) (H0 : AHeap) : Out :=
 afterA (boxA true 2 x1 H0) fun x2 H3 =>
 (fieldAddrA 1 x2).bind fun x4 =>
 (loadA false 1 x4 H3).bind fun x5 =>
 loopGen (fun rec1 vs H => Sh.gliderref03_Text_l1 H0 rec1 (ag vs 0) (ag vs 1) (ag vs 2) H) FUEL [x2, (.str []), x5] H3
noncomputable def Sh.gliderlaw03_DecTexts (x1 s_2 at_3 : AVal) (H0 : AHeap) : Out :=
 afterA (boxA true 2 x1 H0) fun x4 H5 =>
 bP H0 (Sh.gliderlaw03_alive H5) fun x6 H7 =>
 (unA .not x6).bind fun x8 =>
 condA x8 (
 rP H0 (.bool false) H7) (
 (loadA true 2 x4 H7).bind fun x9 =>
 bP H0 (Sh.gliderref02_Great x9 H7) fun x10 H11 =>
 gk x10 false (loadA true 2 x4 H11) fun x12 =>
 gbP H0 x10 false H11 (Sh.gliderref02_Right x12 H11) fun x13 H14 =>
 gk x10 false (unA .not x13) fun x15 =>
 (condV x10 (.bool true) x15).bind fun x16 =>
 gk x16 false (some s_2) fun x17 =>
 gk x16 false (lenStr x17) fun x18 =>
 gk x16 false (binA .none .gtr x18 (.int .i64 600)) fun x19 =>
 (condV x16 (.bool true) x19).bind fun x20 =>
 condA x20 (
 rP H0 (.bool true) H14) (
 bP H0 (Sh.dec_Parse s_2 H14) fun x21 H22 =>
 (extractA 0 x21).bind fun x23 =>
 (extractA 1 x21).bind fun x24 =>
 afterA (allocA (some [(.bool false), (.sl [] .tight)]) H22) fun a_25 H26 =>
 bP H0 (retH (storeA 2 a_25 x23 H26)) fun _ H28 =>
 bP H0 (Sh.gliderref03_Parse s_2 H28) fun x29 H30 =>
 (extractA 0 x29).bind fun x31 =>
 (extractA 1 x29).bind fun x32 =>
 afterA (allocA (some [(.bool false), (.sl [] .tight)]) H30) fun b_33 H34 =>
 bP H0 (retH (storeA 2 b_33 x31 H34)) fun _ H36 =>
 bC (loadA true 2 x4 H36) (fun _ => True) fun x37 =>
 bindN (Sh.dec_Text x37 H36) fun x38 H39 =>
 bC (loadA true 2 x4 H39) (fun x40 => loadA true 2 x4 H36 = some x40 ∧ True) fun x40 =>
 bindN (Sh.gliderref03_Text x40 H39) fun x41 H42 =>
 (binA .none .eql x38 x41).bind fun x43 =>
 gkc x43 true (loadA true 2 a_25 H42) (fun _ _ => True) fun x44 =>
 gkc x43 true (loadA true 2 b_33 H42) (fun _ _ => True) fun x45 =>
 gbN x43 true H42 (Sh.gliderref02_Same x44 x45 H42) fun x46 H47 =>
 (condV x43 x46 (.bool false)).bind fun x48 =>
 gk x48 true (some x24) fun x49 =>
 gk x48 true (some x32) fun x50 =>
 gk x48 true (binA .none .eql x49 x50) fun x51 =>
 (condV x48 x51 (.bool false)).bind fun x52 =>
 gk x52 true (some s_2) fun x53 =>
 gk x52 true (some at_3) fun x54 =>
 gbN x52 true H47 (Sh.dec_Digits x53 x54 H47) fun x55 H56 =>
 gk x52 true (some s_2) fun x57 =>
 gk x52 true (some at_3) fun x58 =>
 gbN x52 true H56 (Sh.gliderref03_Digits x57 x58 H56) fun x59 H60 =>
 gk x52 true (binA .none .eql x55 x59) fun x61 =>
 (condV x52 x61 (.bool false)).bind fun x62 =>
 rP H0 x62 H60))
noncomputable def Sh.gliderlaw03_DecBack (x1 s_2 : AVal) (H0 : AHeap) : Out :=
 afterA (boxA true 2 x1 H0) fun x3 H4 =>
 bP H0 (Sh.gliderlaw03_alive H4) fun x5 H6 =>
 (unA .not x5).bind fun x7 =>
 condA x7 (
 rP H0 (.bool false) H6) (
 (fieldAddrA 1 x3).bind fun x8 =>
 (loadA false 1 x8 H6).bind fun x9 =>
 (lenSl x9).bind fun x10 =>
 (binA .none .gtr x10 (.int .i64 40)).bind fun x11 =>
 gk x11 false (loadA true 2 x3 H6) fun x12 =>
 gbP H0 x11 false H6 (Sh.gliderref02_Right x12 H6) fun x13 H14 =>
 gk x11 false (unA .not x13) fun x15 =>
 (condV x11 (.bool true) x15).bind fun x16 =>
 gk x16 false (some s_2) fun x17 =>
 gk x16 false (lenStr x17) fun x18 =>
 gk x16 false (binA .none .gtr x18 (.int .i64 600)) fun x19 =>
 (condV x16 (.bool true) x19).bind fun x20 =>
 condA x20 (
 rP H0 (.bool true) H14) (
 (loadA true 2 x3 H14).bind fun x21 =>
 bP H0 (Sh.dec_Text x21 H14) fun x22 H23 =>
 bP H0 (Sh.dec_Parse x22 H23) fun x24 H25 =>
 (extractA 0 x24).bind fun x26 =>
 (extractA 1 x24).bind fun x27 =>
 afterA (allocA (some [(.bool false), (.sl [] .tight)]) H25) fun y_28 H29 =>
 bP H0 (retH (storeA 2 y_28 x26 H29)) fun _ H31 =>
 bP H0 (Sh.dec_Parse s_2 H31) fun x32 H33 =>
 (extractA 0 x32).bind fun x34 =>
 (extractA 1 x32).bind fun x35 =>
 afterA (allocA (some [(.bool false), (.sl [] .tight)]) H33) fun z_36 H37 =>
 bP H0 (retH (storeA 2 z_36 x34 H37)) fun _ H39 =>
 (binA .none .eql x27 (.int .i64 0)).bind fun x40 =>
 gk x40 true (loadA true 2 x3 H39) fun x41 =>
 gk x40 true (loadA true 2 y_28 H39) fun x42 =>
 gbP H0 x40 true H39 (Sh.gliderref02_Same x41 x42 H39) fun x43 H44 =>
 (condV x40 x43 (.bool false)).bind fun x45 =>
 gk x45 true (some x35) fun x46 =>
 gk x45 true (binA .none .neq x46 (.int .i64 0)) fun x47 =>
 gk x45 true (some x47) fun x48 =>
 gk x48 false (loadA true 2 z_36 H44) fun x49 =>
 gbP H0 x48 false H44 (Sh.dec_Text x49 H44) fun x50 H51 =>
 gk x48 false (some s_2) fun x52 =>
 gk x48 false (binA .none .eql x50 x52) fun x53 =>
 gk x48 false (some x53) fun x54 =>
 gk x54 true (loadA true 2 z_36 H51) fun x55 =>
 gbP H0 x54 true H51 (Sh.gliderref02_Right x55 H51) fun x56 H57 =>
 gk x48 false (condV x54 x56 (.bool false)) fun x58 =>
 gk x45 true (condV x48 (.bool true) x58) fun x59 =>
 (condV x45 x59 (.bool false)).bind fun x60 =>
 rP H0 x60 H57))
noncomputable def Sh.gliderlaw03_DecLong_j2 (H0 : AHeap) (x26 x27 x28 : AVal) (H29 : AHeap) : Out :=
 bP H0 (Sh.dec_Parse x28 H29) fun x30 H31 =>
 (extractA 0 x30).bind fun x32 =>
 (extractA 1 x30).bind fun x33 =>
 afterA (allocA (some [(.bool false), (.sl [] .tight)]) H31) fun x34 H35 =>
 bP H0 (retH (storeA 2 x34 x32 H35)) fun _ H37 =>
 (binA .none .gtr x27 (.int .i64 400)).bind fun x38 =>
 condA x38 (
 (binA .none .eql x33 (.int .i64 4)).bind fun x39 =>
 gk x39 true (fieldAddrA 1 x34) fun x40 =>
 gk x39 true (loadA false 1 x40 H37) fun x41 =>
 gk x39 true (lenSl x41) fun x42 =>
 gk x39 true (binA .none .eql x42 (.int .i64 0)) fun x43 =>
 (condV x39 x43 (.bool false)).bind fun x44 =>
 rP H0 x44 H37) (
 (binA .none .eql x33 (.int .i64 0)).bind fun x45 =>
 gk x45 true (fieldAddrA 0 x34) fun x46 =>
 gk x45 true (loadA false 1 x46 H37) fun x47 =>
 gk x45 true (some x26) fun x48 =>
 gk x45 true (binA .bool .eql x47 x48) fun x49 =>
 (condV x45 x49 (.bool false)).bind fun x50 =>
 gk x50 true (loadA true 2 x34 H37) fun x51 =>
 gbP H0 x50 true H37 (Sh.dec_Text x51 H37) fun x52 H53 =>
 gk x50 true (some x28) fun x54 =>
 gk x50 true (binA .none .eql x52 x54) fun x55 =>
 (condV x50 x55 (.bool false)).bind fun x56 =>
 rP H0 x56 H53)
noncomputable def Sh.gliderlaw03_DecLong_l1 (H0 : AHeap) (rec1 : LK) (x12 x13 x14 x15 x16 : AVal) (H17 : AHeap) : Out :=
 (binA .none .lss x16 x14).bind fun x18 =>
 condA x18 (
 (binA .none .rem x12 (.int .u8 9)).bind fun x19 =>
 (binA .none .add (.int .u8 49) x19).bind fun x20 =>
 (idxSl 1 x15 x16).bind fun x21 =>
 bP H0 (retH (storeA 1 x21 x20 H17)) fun _ H23 =>
 (binA .none .add x16 (.int .i64 1)).bind fun x24 =>
 rec1 [x12, x13, x14, x15, x24] H23) (
 (convToStr x15 H17).bind fun x25 =>
 joinPt (fun j2 =>
 condA x13 (
 (binA .none .add (.str [45]) x25).bind fun x57 =>
 j2 [x13, x14, x57] H17) (
 j2 [x13, x14, x25] H17)) (fun vs H => Sh.gliderlaw03_DecLong_j2 H0 (ag vs 0) (ag vs 1) (ag vs 2) H))
noncomputable def Sh.gliderlaw03_DecLong (x1 x2 x3 : AVal) (H0 : AHeap) : Out :=
 bP H0 (Sh.gliderlaw03_alive H0) fun x4 H5 =>
 (unA .not x4).bind fun x6 =>
 condA x6 (
 rP H0 (.bool false) H5) (
 (binA .none .rem x1 (.int .u16 450)).bind fun x7 =>
 (convInt .i64 x7).bind fun x8 =>
 (binA .none .add (.int .i64 1) x8).bind fun x9 =>
 afterA (makeA 1 1 (some [(.int .u8 0)]) x9 x9 H5) fun x10 H11 =>
 loopGen (fun rec1 vs H => Sh.gliderlaw03_DecLong_l1 H0 rec1 (ag vs 0) (ag vs 1) (ag vs 2) (ag vs 3) (ag vs 4) H) FUEL [x2, x3, x9, x10, (.int .i64 0)] H11)
noncomputable def Sh.gliderref01_at (b_1 i_2 : AVal) (H0 : AHeap) : Out :=
 (binA .none .geq i_2 (.int .i64 0)).bind fun x3 =>
 gk x3 true (some i_2) fun x4 =>
 gk x3 true (some b_1) fun x5 =>
 gk x3 true (lenSl x5) fun x6 =>
 gk x3 true (binA .none .lss x4 x6) fun x7 =>
 (condV x3 x7 (.bool false)).bind fun x8 =>
 gk x8 true (some b_1) fun x9 =>
 gk x8 true (some i_2) fun x10 =>
 gk x8 true (idxSl 1 x9 x10) fun x11 =>
 gk x8 true (loadA false 1 x11 H0) fun x12 =>
 (condV x8 x12 (.bool false)).bind fun x13 =>
 rK H0 x13 H0
noncomputable def Sh.gliderref01_Add_j4 (H0 : AHeap) (rec1 : LK) (x31 y_32 out_33 i_34 n_35 : AVal) (H36 : AHeap) : Out :=
 (binA .none .rem n_35 (.int .i64 2)).bind fun x37 =>
 (binA .none .eql x37 (.int .i64 1)).bind fun x38 =>
 (buildSl 1 [x38]).bind fun x39 =>
 bP H0 (retVH (appendA ty_bool 1 1 out_33 x39 H36)) fun x40 H41 =>
 (binA .none .gtr n_35 (.int .i64 1)).bind fun x42 =>
 (binA .none .add i_34 (.int .i64 1)).bind fun x43 =>
 rec1 [x31, y_32, x40, x42, x43] H41
noncomputable def Sh.gliderref01_Add_j3 (H0 : AHeap) (rec1 : LK) (x24 y_25 out_26 carry_27 i_28 n_29 : AVal) (H30 : AHeap) : Out :=
 joinPt (fun j4 =>
 condA carry_27 (
 (binA .none .add n_29 (.int .i64 1)).bind fun x44 =>
 j4 [x24, y_25, out_26, i_28, x44] H30) (
 j4 [x24, y_25, out_26, i_28, n_29] H30)) (fun vs H => Sh.gliderref01_Add_j4 H0 rec1 (ag vs 0) (ag vs 1) (ag vs 2) (ag vs 3) (ag vs 4) H)
noncomputable def Sh.gliderref01_Add_j2 (H0 : AHeap) (rec1 : LK) (x17 y_18 out_19 carry_20 i_21 n_22 : AVal) (H23 : AHeap) : Out :=
 joinPt (fun j3 =>
 bP H0 (Sh.gliderref01_at y_18 i_21 H23) fun x45 H46 =>
 condA x45 (
 (binA .none .add n_22 (.int .i64 1)).bind fun x47 =>
 j3 [x17, y_18, out_19, carry_20, i_21, x47] H46) (
 j3 [x17, y_18, out_19, carry_20, i_21, n_22] H46)) (fun vs H => Sh.gliderref01_Add_j3 H0 rec1 (ag vs 0) (ag vs 1) (ag vs 2) (ag vs 3) (ag vs 4) (ag vs 5) H)
noncomputable def Sh.gliderref01_Add_l1 (H0 : AHeap) (rec1 : LK) (x7 y_8 out_9 carry_10 i_11 : AVal) (H12 : AHeap) : Out :=
 (lenSl x7).bind fun x13 =>
 (lenSl y_8).bind fun x14 =>
 (foldA max2A x13 [x14]).bind fun x15 =>
 (binA .none .leq i_11 x15).bind fun x16 =>
 condA x16 (
 joinPt (fun j2 =>
 bP H0 (Sh.gliderref01_at x7 i_11 H12) fun x48 H49 =>
 condA x48 (
 (binA .none .add (.int .i64 0) (.int .i64 1)).bind fun x50 =>
 j2 [x7, y_8, out_9, carry_10, i_11, x50] H49) (
 j2 [x7, y_8, out_9, carry_10, i_11, (.int .i64 0)] H49)) (fun vs H => Sh.gliderref01_Add_j2 H0 rec1 (ag vs 0) (ag vs 1) (ag vs 2) (ag vs 3) (ag vs 4) (ag vs 5) H)) (
 bP H0 (Sh.gliderref01_Of out_9 H12) fun x51 H52 =>
 rPN H0 x51 H52)
noncomputable def Sh.gliderref01_Add (a_1 b_2 : AVal) (H0 : AHeap) : Out :=
 bP H0 (Sh.gliderref01_Bits a_1 H0) fun x3 H4 =>
 bP H0 (Sh.gliderref01_Bits b_2 H4) fun x5 H6 =>
 loopGen (fun rec1 vs H => Sh.gliderref01_Add_l1 H0 rec1 (ag vs 0) (ag vs 1) (ag vs 2) (ag vs 3) (ag vs 4) H) FUEL [x3, x5, (.sl [] .tight), (.bool false), (.int .i64 0)] H6
noncomputable def Sh.gliderref01_Cmp_l1 (H0 : AHeap) (rec1 : LK) (x11 y_12 i_13 : AVal) (H14 : AHeap) : Out :=
 (binA .none .geq i_13 (.int .i64 0)).bind fun x15 =>
 condA x15 (
 bK H0 (Sh.gliderref01_at x11 i_13 H14) fun x16 H17 =>
 bK H0 (Sh.gliderref01_at y_12 i_13 H17) fun x18 H19 =>
 (binA .bool .neq x16 x18).bind fun x20 =>
 condA x20 (
 bK H0 (Sh.gliderref01_at x11 i_13 H19) fun x21 H22 =>
 condA x21 (
 rK H0 (.int .i64 1) H22) (
 rK H0 (.int .i64 (-1)) H22)) (
 (binA .none .sub i_13 (.int .i64 1)).bind fun x23 =>
 rec1 [x11, y_12, x23] H19)) (
 rK H0 (.int .i64 0) H14)
noncomputable def Sh.gliderref01_Cmp (a_1 b_2 : AVal) (H0 : AHeap) : Out :=
 bK H0 (Sh.gliderref01_Bits a_1 H0) fun x3 H4 =>
 bK H0 (Sh.gliderref01_Bits b_2 H4) fun x5 H6 =>
 (lenSl x3).bind fun x7 =>
 (lenSl x5).bind fun x8 =>
 (foldA max2A x7 [x8]).bind fun x9 =>
 (binA .none .sub x9 (.int .i64 1)).bind fun x10 =>
 loopGen (fun rec1 vs H => Sh.gliderref01_Cmp_l1 H0 rec1 (ag vs 0) (ag vs 1) (ag vs 2) H) FUEL [x3, x5, x10] H6
noncomputable def Sh.gliderref01_Sub_j4 (H0 : AHeap) (rec1 : LK) (x31 y_32 out_33 borrow_34 i_35 n_36 : AVal) (H37 : AHeap) : Out :=
 (binA .none .eql n_36 (.int .i64 1)).bind fun x38 =>
 (buildSl 1 [x38]).bind fun x39 =>
 bP H0 (retVH (appendA ty_bool 1 1 out_33 x39 H37)) fun x40 H41 =>
 (binA .none .add i_35 (.int .i64 1)).bind fun x42 =>
 rec1 [x31, y_32, x40, borrow_34, x42] H41
noncomputable def Sh.gliderref01_Sub_j3 (H0 : AHeap) (rec1 : LK) (x25 y_26 out_27 i_28 n_29 : AVal) (H30 : AHeap) : Out :=
 joinPt (fun j4 =>
 (binA .none .lss n_29 (.int .i64 0)).bind fun x43 =>
 condA x43 (
 (binA .none .add n_29 (.int .i64 2)).bind fun x44 =>
 j4 [x25, y_26, out_27, (.int .i64 1), i_28, x44] H30) (
 j4 [x25, y_26, out_27, (.int .i64 0), i_28, n_29] H30)) (fun vs H => Sh.gliderref01_Sub_j4 H0 rec1 (ag vs 0) (ag vs 1) (ag vs 2) (ag vs 3) (ag vs 4) (ag vs 5) H)
noncomputable def Sh.gliderref01_Sub_j2 (H0 : AHeap) (rec1 : LK) (x19 y_20 out_21 i_22 n_23 : AVal) (H24 : AHeap) : Out :=
 joinPt (fun j3 =>
 bP H0 (Sh.gliderref01_at y_20 i_22 H24) fun x45 H46 =>
 condA x45 (
 (binA .none .sub n_23 (.int .i64 1)).bind fun x47 =>
 j3 [x19, y_20, out_21, i_22, x47] H46) (
 j3 [x19, y_20, out_21, i_22, n_23] H46)) (fun vs H => Sh.gliderref01_Sub_j3 H0 rec1 (ag vs 0) (ag vs 1) (ag vs 2) (ag vs 3) (ag vs 4) H)
noncomputable def Sh.gliderref01_Sub_l1 (H0 : AHeap) (rec1 : LK) (x10 y_11 out_12 borrow_13 i_14 : AVal) (H15 : AHeap) : Out :=
 (lenSl x10).bind fun x16 =>
 (binA .none .lss i_14 x16).bind fun x17 =>
 condA x17 (
 (unA .neg borrow_13).bind fun x18 =>
 joinPt (fun j2 =>
 bP H0 (Sh.gliderref01_at x10 i_14 H15) fun x48 H49 =>
 condA x48 (
 (binA .none .add x18 (.int .i64 1)).bind fun x50 =>
 j2 [x10, y_11, out_12, i_14, x50] H49) (
 j2 [x10, y_11, out_12, i_14, x18] H49)) (fun vs H => Sh.gliderref01_Sub_j2 H0 rec1 (ag vs 0) (ag vs 1) (ag vs 2) (ag vs 3) (ag vs 4) H)) (
 bP H0 (Sh.gliderref01_Of out_12 H15) fun x51 H52 =>
 rPN H0 (.tup [x51, (.bool true)]) H52)
noncomputable def Sh.gliderref01_Sub (a_1 b_2 : AVal) (H0 : AHeap) : Out :=
 bP H0 (Sh.gliderref01_Cmp a_1 b_2 H0) fun x3 H4 =>
 (binA .none .lss x3 (.int .i64 0)).bind fun x5 =>
 condA x5 (
 rPN H0 (.tup [(.sl [] .tight), (.bool false)]) H4) (
 bP H0 (Sh.gliderref01_Bits a_1 H4) fun x6 H7 =>
 bP H0 (Sh.gliderref01_Bits b_2 H7) fun x8 H9 =>
 loopGen (fun rec1 vs H => Sh.gliderref01_Sub_l1 H0 rec1 (ag vs 0) (ag vs 1) (ag vs 2) (ag vs 3) (ag vs 4) H) FUEL [x6, x8, (.sl [] .tight), (.int .i64 0), (.int .i64 0)] H9)
noncomputable def Sh.gliderref02_Add (x1 y_2 : AVal) (H0 : AHeap) : Out :=
 afterA (boxA true 2 x1 H0) fun x3 H4 =>
 afterA (boxA true 2 y_2 H4) fun y_5 H6 =>
 afterA (allocA (some [(.bool false), (.sl [] .tight)]) H6) fun x7 H8 =>
 (fieldAddrA 0 x3).bind fun x9 =>
 (loadA false 1 x9 H8).bind fun x10 =>
 (fieldAddrA 0 y_5).bind fun x11 =>
 (loadA false 1 x11 H8).bind fun x12 =>
 (binA .bool .eql x10 x12).bind fun x13 =>
 condA x13 (
 (fieldAddrA 1 x3).bind fun x14 =>
 bC (loadA false 1 x14 H8) (fun _ => True) fun x15 =>
 (fieldAddrA 1 y_5).bind fun x16 =>
 bC (loadA false 1 x16 H8) (fun _ => True) fun x17 =>
 bindN (Sh.gliderref01_Add x15 x17 H8) fun x18 H19 =>
 (fieldAddrA 0 x3).bind fun x20 =>
 bC (loadA false 1 x20 H19) (fun x21 => loadA false 1 x20 H8 = some x21 ∧ True) fun x21 =>
 bindN (Sh.gliderref02_sign x21 x18 H19) fun x22 H23 =>
 bP H0 (retH (storeA 2 x7 x22 H23)) fun _ H25 =>
 (loadA true 2 x7 H25).bind fun x26 => rPN H0 x26 H25) (
 (fieldAddrA 1 x3).bind fun x27 =>
 (loadA false 1 x27 H8).bind fun x28 =>
 (fieldAddrA 1 y_5).bind fun x29 =>
 (loadA false 1 x29 H8).bind fun x30 =>
 bP H0 (Sh.gliderref01_Sub x28 x30 H8) fun x31 H32 =>
 (extractA 0 x31).bind fun x33 =>
 (extractA 1 x31).bind fun x34 =>
 condA x34 (
 (fieldAddrA 0 x3).bind fun x35 =>
 (loadA false 1 x35 H32).bind fun x36 =>
 bP H0 (Sh.gliderref02_sign x36 x33 H32) fun x37 H38 =>
 bP H0 (retH (storeA 2 x7 x37 H38)) fun _ H40 =>
 (loadA true 2 x7 H40).bind fun x41 => rPN H0 x41 H40) (
 (fieldAddrA 1 y_5).bind fun x42 =>
 (loadA false 1 x42 H32).bind fun x43 =>
 (fieldAddrA 1 x3).bind fun x44 =>
 (loadA false 1 x44 H32).bind fun x45 =>
 bP H0 (Sh.gliderref01_Sub x43 x45 H32) fun x46 H47 =>
 (extractA 0 x46).bind fun x48 =>
 (extractA 1 x46).bind fun x49 =>
 (fieldAddrA 0 y_5).bind fun x50 =>
 (loadA false 1 x50 H47).bind fun x51 =>
 bP H0 (Sh.gliderref02_sign x51 x48 H47) fun x52 H53 =>
 bP H0 (retH (storeA 2 x7 x52 H53)) fun _ H55 =>
 (loadA true 2 x7 H55).bind fun x56 => rPN H0 x56 H55))
noncomputable def Sh.gliderlaw03_DecSigns_l2 (H0 : AHeap) (rec2 : LK) (x63 x64 x65 x66 x67 : AVal) (H68 : AHeap) : Out :=
 (binA .none .lss x67 (.int .i64 10)).bind fun x69 =>
 condA x69 (
 (loadA true 2 x66 H68).bind fun x70 =>
 (loadA true 2 x63 H68).bind fun x71 =>
 bP H0 (Sh.gliderref02_Add x70 x71 H68) fun x72 H73 =>
 bP H0 (retH (storeA 2 x66 x72 H73)) fun _ H75 =>
 (binA .none .add x67 (.int .i64 1)).bind fun x76 =>
 rec2 [x63, x64, x65, x66, x76] H75) (
 bC (loadA true 2 x66 H68) (fun _ => True) fun x77 =>
 bindN (Sh.dec_Text x77 H68) fun x78 H79 =>
 (binA .none .add (.int .i64 48) x65).bind fun x80 =>
 bC (convInt .u8 x80) (fun x81 => convInt .u8 x80 = some x81 ∧ True) fun x81 =>
 (buildSl 1 [x81]).bind fun x82 =>
 bC (convToStr x82 H79) (fun x83 => convToStr x82 H68 = some x83 ∧ True) fun x83 =>
 (binA .none .add x64 x83).bind fun x84 =>
 (binA .none .eql x78 x84).bind fun x85 =>
 rP H0 x85 H79)
noncomputable def Sh.gliderlaw03_DecSigns_j1 (H0 : AHeap) (x58 x59 x60 x61 : AVal) (H62 : AHeap) : Out :=
 loopGen (fun rec2 vs H => Sh.gliderlaw03_DecSigns_l2 H0 rec2 (ag vs 0) (ag vs 1) (ag vs 2) (ag vs 3) (ag vs 4) H) FUEL [x58, x59, x60, x61, (.int .i64 0)] H62
noncomputable def Sh.gliderlaw03_DecSigns (x1 x2 : AVal) (H0 : AHeap) : Out :=
 afterA (boxA true 2 x1 H0) fun x3 H4 =>
 bP H0 (Sh.gliderlaw03_alive H4) fun x5 H6 =>
 (unA .not x5).bind fun x7 =>
 condA x7 (
 rP H0 (.bool false) H6) (
 (fieldAddrA 1 x3).bind fun x8 =>
 (loadA false 1 x8 H6).bind fun x9 =>
 (lenSl x9).bind fun x10 =>
 (binA .none .gtr x10 (.int .i64 30)).bind fun x11 =>
 gk x11 false (loadA true 2 x3 H6) fun x12 =>
 gbP H0 x11 false H6 (Sh.gliderref02_Right x12 H6) fun x13 H14 =>
 gk x11 false (unA .not x13) fun x15 =>
 (condV x11 (.bool true) x15).bind fun x16 =>
 condA x16 (
 rP H0 (.bool true) H14) (
 bC (loadA true 2 x3 H14) (fun _ => True) fun x17 =>
 bindN (Sh.dec_Text x17 H14) fun x18 H19 =>
 bC (loadA true 2 x3 H19) (fun x20 => loadA true 2 x3 H14 = some x20 ∧ True) fun x20 =>
 bindN (Sh.gliderref02_Minus x20 H19) fun x21 H22 =>
 bindN (Sh.dec_Text x21 H22) fun x23 H24 =>
 (fieldAddrA 1 x3).bind fun x25 =>
 (loadA false 1 x25 H24).bind fun x26 =>
 (lenSl x26).bind fun x27 =>
 (binA .none .eql x27 (.int .i64 0)).bind fun x28 =>
 condA x28 (
 (binA .none .eql x18 (.str [48])).bind fun x29 =>
 gk x29 true (some x23) fun x30 =>
 gk x29 true (binA .none .eql x30 (.str [48])) fun x31 =>
 (condV x29 x31 (.bool false)).bind fun x32 =>
 rP H0 x32 H24) (
 (fieldAddrA 0 x3).bind fun x33 =>
 (loadA false 1 x33 H24).bind fun x34 =>
 gk x34 true (some x18) fun x35 =>
 gk x34 true (some x23) fun x36 =>
 gk x34 true (binA .none .add (.str [45]) x36) fun x37 =>
 gk x34 true (binA .none .neq x35 x37) fun x38 =>
 (condV x34 x38 (.bool false)).bind fun x39 =>
 gk x39 false (fieldAddrA 0 x3) fun x40 =>
 gk x39 false (loadA false 1 x40 H24) fun x41 =>
 gk x39 false (unA .not x41) fun x42 =>
 gk x39 false (some x42) fun x43 =>
 gk x43 true (some x23) fun x44 =>
 gk x43 true (some x18) fun x45 =>
 gk x43 true (binA .none .add (.str [45]) x45) fun x46 =>
 gk x43 true (binA .none .neq x44 x46) fun x47 =>
 gk x39 false (condV x43 x47 (.bool false)) fun x48 =>
 (condV x39 (.bool true) x48).bind fun x49 =>
 condA x49 (
 rP H0 (.bool false) H24) (
 (binA .none .rem x2 (.int .u8 10)).bind fun x50 =>
 (convInt .i64 x50).bind fun x51 =>
 bP H0 (Sh.gliderref02_Of x51 H24) fun x52 H53 =>
 afterA (allocA (some [(.bool false), (.sl [] .tight)]) H53) fun x54 H55 =>
 bP H0 (retH (storeA 2 x54 x52 H55)) fun _ H57 =>
 joinPt (fun j1 =>
 (fieldAddrA 0 x3).bind fun x86 =>
 (loadA false 1 x86 H57).bind fun x87 =>
 condA x87 (
 (unA .neg x51).bind fun x88 =>
 bP H0 (Sh.gliderref02_Of x88 H57) fun x89 H90 =>
 bP H0 (retH (storeA 2 x54 x89 H90)) fun _ H92 =>
 j1 [x3, x18, x51, x54] H92) (
 j1 [x3, x18, x51, x54] H57)) (fun vs H => Sh.gliderlaw03_DecSigns_j1 H0 (ag vs 0) (ag vs 1) (ag vs 2) (ag vs 3) H)))))
end Go.Gm
/- limb.Div: a range over a function, walked by the kit's laws. -/
namespace Go.Proofs
open Go.RowKit Go.Shelf
attribute [local go_sem] Oper.semAt_some
/-- What the rounds keep: all that lay there, and the row's own box. -/
def KB (n₀ Bs : Nat) (W W' : World) : Prop := Below n₀ W W' ∧ W'.cell? ⟨Bs, 0, none⟩ = W.cell? ⟨Bs, 0, none⟩
theorem KB.refl (n₀ Bs : Nat) (W : World) : KB n₀ Bs W W := ⟨Below.refl _ _, rfl⟩
theorem KB.trans {n₀ Bs : Nat} {A B C : World} (h : KB n₀ Bs A B) (k : KB n₀ Bs B C) : KB n₀ Bs A C := ⟨h.1.trans k.1, k.2.trans h.2⟩
/-- What has come when k rounds are over, from the end on. -/
def backF (n k : Nat) : List (Fin n) := (List.finRange n).reverse.take k
theorem backF_succ {n k : Nat} (h : k < n) : backF n (k + 1) = backF n k ++ [⟨n - 1 - k, by omega⟩] := by
  unfold backF
  rw [List.take_add_one, List.getElem?_reverse (by simpa using h)]
  simp
  rw [List.getElem?_eq_getElem (by simp; omega)]
  simp
theorem backF_length {n k : Nat} (h : k ≤ n) : (backF n k).length = k := by simp [backF, h]
theorem backF_zero (n : Nat) : backF n 0 = [] := rfl
set_option maxRecDepth 100000 in
set_option maxHeartbeats 2000000 in
theorem Tryd.back1_in (F : Fence) (n : Nat) (h60 : F.fn 60) (hro : F.round = none) (hn : 1 ≤ n) (l Bs n₀ b off len cap : Nat) (zf : Nat → Nat) (hreach : len ≤ 1099511627776) (hb : b < n₀) (J Jx : List (Fin len) → World → Prop)
    (hY : ∀ pre (x : Fin len) W, J pre W → pre.length < len → YieldAt F (n - 1) Tryd.prog l #[.int .i64 (x.1 : Int), .int .u32 ((zf x.1 : Nat) : Int)] W fun e W' =>
      (e = .returned (.bool true) ∧ J (pre ++ [x]) W' ∧ KB n₀ Bs W W') ∨ (e = .returned (.bool false) ∧ Jx (pre ++ [x]) W'))
    (W : World) (hBs : W.cell? ⟨Bs, 0, none⟩ = some (.slice (some ⟨b, off, none⟩) len cap)) (hc : ∀ j, j < len → W.cell? ⟨b, off + j, none⟩ = some (.int .u32 ((zf j : Nat) : Int))) (h0 : J [] W) :
    CallsIn F n Tryd.prog 60 #[.func (.yield l) #[] #[], .pointer (some ⟨Bs, 0, none⟩)] W fun e W' => (∃ v, e = .returned v) ∧
      ((∃ ys, ys = backF len len ∧ J ys W') ∨ (∃ pre, True ∧ Jx pre W')) := by
  refine callsIn_of_wp Tryd.func60 rfl h60 ?_ hro
  simp only [Tryd.ntmps60, List.size_toArray, List.length_cons, List.length_nil, Nat.reduceAdd, Nat.reduceSub, Array.replicate_succ, Array.replicate_zero, List.push_toArray, List.append_toArray, List.nil_append, List.cons_append]
  gi_wp2
  gi_loopw [3] (fun i wr => ∃ k : Nat, k ≤ len ∧ i = .int .i64 ((len : Int) - 1 - k) ∧ J (backF len k) wr ∧ KB n₀ Bs W wr)
    (fun i _ => ((intOf i) + 1).toNat)
  case atStart => exact ⟨0, Nat.zero_le _, by simp, h0, KB.refl _ _ _⟩
  case round =>
    obtain ⟨k, hk, rfl, hJs, hkb⟩ := hrel
    have hnx := hkb.1
    have hBs' := hkb.2.trans hBs
    by_cases hlt : k < len
    · have hcx := (hnx.cell (p := ⟨b, off + (len - 1 - k), none⟩) hb).trans (hc (len - 1 - k) (by omega))
      obtain ⟨fn, tmps, assign, body, hy, hR⟩ := hY _ ⟨len - 1 - k, by omega⟩ wr hJs (by rw [backF_length hk]; exact hlt)
      dsimp only at hy
      have hlast := backF_succ hlt
      obtain ⟨i, hi⟩ : ∃ i : Nat, i = len - 1 - k := ⟨_, rfl⟩
      have hil : i < len := by omega
      obtain ⟨x, hx⟩ : ∃ x : Fin len, x = ⟨len - 1 - k, by omega⟩ := ⟨_, rfl⟩
      rw [← hx] at hR hlast
      clear hx
      have hii : (len : Int) - 1 - (k : Int) = (i : Int) := by omega
      rw [← hi] at hcx hy
      have hstep : (i : Int) - 1 = (len : Int) - 1 - ((k + 1 : Nat) : Int) := by omega
      rw [hii]
      clear hi hii
      obtain ⟨z, hzz⟩ : ∃ z : Nat, z = zf i := ⟨_, rfl⟩
      rw [← hzz] at hcx hy
      clear hzz
      clear hkb
      have hkb : Hid (KB n₀ Bs W wr) := ⟨hnx, hBs'.trans hBs.symm⟩
      gi_wp2
      refine hR.mono ?_
      rintro e W3 (⟨rfl, hJ3, hk3⟩ | ⟨rfl, hJx3⟩)
      · gi_wp2
        go_roundw
        case rel => exact ⟨k + 1, by omega, by simp, by rw [hlast]; exact hJ3, hkb.out.trans hk3⟩
        case measure => simp [intOf]; omega
      · gi_wp2
        refine bodyPost_ret (results_none rfl _ _ _) rfl ?_
        exact ⟨⟨_, rfl⟩, .inr ⟨_, trivial, hJx3⟩⟩
    · obtain rfl : k = len := by omega
      gi_wp2
      go_end0
      exact ⟨⟨_, rfl⟩, .inl ⟨_, rfl, hJs⟩⟩
set_option maxHeartbeats 1000000 in
theorem Tryd.back_in (F : Fence) (n : Nat) (h41 : F.fn 41) (hro : F.round = none) (a : Option Addr) (len cap : Nat) (w : World) :
    CallsIn F n Tryd.prog 41 #[.slice a len cap] w fun e w' => e = .returned (.func (.func 60) #[] #[.pointer (some ⟨w.heap.size, 0, none⟩)]) ∧ w' = w.alloc (.cells #[.slice a len cap] 22) := by
  refine callsIn_of_wp Tryd.func41 rfl h41 ?_ hro
  simp only [Tryd.ntmps41, List.size_toArray, List.length_cons, List.length_nil, Nat.reduceAdd, Nat.reduceSub, Array.replicate_succ, Array.replicate_zero, List.push_toArray, List.append_toArray, List.nil_append, List.cons_append]
  gi_wp2
  go_ret
  exact ⟨rfl, rfl⟩
theorem Tryd.back_stops (F : Fence) (n : Nat) (h60 : F.fn 60) (hro : F.round = none) (hn : 1 ≤ n) (Bs n₀ b off len cap : Nat) (zf : Nat → Nat) (hreach : len ≤ 1099511627776) (w : World) (hBs : Bs < w.heap.size) (hb : b < n₀) (hn₀ : n₀ ≤ w.heap.size)
    (hc : w.cell? ⟨Bs, 0, none⟩ = some (.slice (some ⟨b, off, none⟩) len cap)) (hI : ∀ j, j < len → w.cell? ⟨b, off + j, none⟩ = some (.int .u32 ((zf j : Nat) : Int))) :
    SeqStopsK F n Tryd.prog 60 #[.pointer (some ⟨Bs, 0, none⟩)] (fun x : Fin len => #[Value.int .i64 (x.1 : Int), Value.int .u32 ((zf x.1 : Nat) : Int)]) (KB n₀ Bs) (fun ys => ys = backF len len)
      (fun _ => True) len w := fun l J Jx W hW _ _ hY h0 =>
  Tryd.back1_in F n h60 hro hn l Bs n₀ b off len cap zf hreach hb J Jx hY W ((hW.cell (p := ⟨Bs, 0, none⟩) hBs).trans hc) (fun j hj => (hW.cell (p := ⟨b, off + j, none⟩) (by show b < _; omega)).trans (hI j hj)) h0
end Go.Proofs
/- Loops that look for something. -/
namespace Go.Gm
set_option linter.unusedVariables false
set_option linter.unusedSimpArgs false
/-- Not by mere unfolding: else the kernel compares what follows, word for word, with what went before. -/
@[simp 2000] theorem obind {α β : Type} (a : α) (f : α → Option β) : (some a).bind f = f a := (rfl)
/-- A loop that asks the same of each number. -/
theorem loop_all {G : LK → LK} (N : Nat) (p : Nat → Bool) (st : Nat → List AVal) (H : AHeap) (yes no : Out) (hN : N < 1152921504606846976)
    (turn : ∀ (rec : LK) (i : Nat), i < N → G rec (st i) H = if p i then rec (st (i + 1)) H else no) (last : ∀ rec : LK, G rec (st N) H = yes) : loopGen G FUEL (st 0) H = if (List.range N).all p then yes else no := by
  refine loop_fun (σ := Nat) (fun i => i ≤ N ∧ ∀ j, j < i → p j = true) st (fun _ => H) (fun i => N - i) (fun _ => if (List.range N).all p then yes else no) (fun i rec hi hrec => ?_) 0 ⟨Nat.zero_le _, fun j hj => by omega⟩ (by omega)
  by_cases h : i < N
  · rw [turn rec i h]
    cases hp : p i with
    | true => exact hrec (i + 1) ⟨h, fun j hj => by
        by_cases e : j = i
        · rw [e]; exact hp
        · exact hi.2 j (by omega)⟩ (by omega)
    | false =>
      have : (List.range N).all p = false := by rw [List.all_eq_false]; exact ⟨i, by simpa using h, by simp [hp]⟩
      simp [this]
  · have e : i = N := by omega
    subst e
    have : (List.range i).all p = true := by rw [List.all_eq_true]; intro j hj; exact hi.2 j (by simpa using hj)
    rw [last, this]; rfl
/-- A loop that looks for the first number of which something holds. -/
theorem loop_first {G : LK → LK} (N : Nat) (p : Nat → Bool) (st : Nat → List AVal) (H : AHeap) (none' : Out) (found : Nat → Out) (hN : N < 1152921504606846976)
    (turn : ∀ (rec : LK) (i : Nat), i < N → G rec (st i) H = if p i then found i else rec (st (i + 1)) H) (last : ∀ rec : LK, G rec (st N) H = none') :
    loopGen G FUEL (st 0) H = match (List.range N).find? p with | some i => found i | none => none' := by
  refine loop_fun (σ := Nat) (fun i => i ≤ N ∧ ∀ j, j < i → p j = false) st (fun _ => H) (fun i => N - i) (fun _ => match (List.range N).find? p with | some i => found i | none => none') (fun i rec hi hrec => ?_) 0 ⟨Nat.zero_le _, fun j hj => by omega⟩ (by omega)
  by_cases h : i < N
  · rw [turn rec i h]
    cases hp : p i with
    | false => exact hrec (i + 1) ⟨h, fun j hj => by
        by_cases e : j = i
        · rw [e]; exact hp
        · exact hi.2 j (by omega)⟩ (by omega)
    | true =>
      have : (List.range N).find? p = some i := by
        rw [List.find?_range_eq_some]
        exact ⟨hp, by simpa using h, fun j hj => by simp [hi.2 j hj]⟩
      rw [this]; rfl
  · have e : i = N := by omega
    subst e
    have : (List.range i).find? p = none := by
      rw [List.find?_eq_none]; intro j hj; simp [hi.2 j (by simpa using hj)]
    rw [last, this]
theorem box_agg {sz : Nat} {cs : List AVal} {H : AHeap} (h : cs.all AVal.isScal = true) (hl : cs.length = sz) : boxA true sz (.agg cs) H = some (.ptr H.length 0 0, H ++ [.cel 0 cs]) := by
  unfold boxA
  rw [acells_agg h]
  simp [hl, alloc_eq h]
theorem bC_some {v : AVal} {p : AVal → Prop} {k : AVal → Out} (hp : p v) : bC (some v) p k = k v := by
  simp only [bC, Option.bind_some, chk_pos hp]
theorem bC_eq {x : Option AVal} {v : AVal} {p : AVal → Prop} {k : AVal → Out} (h : x = some v) (hp : p v) : bC x p k = k v := by
  subst h; exact bC_some hp
theorem putN_all {cs vs : List AVal} {sz : Nat} (h : cs.length = sz) : putN cs 0 sz vs = vs := by simp [putN, List.drop_of_length_le (Nat.le_of_eq h)]
theorem store_all {cs vs : List AVal} {sz g : Nat} {v : AVal} {G : AHeap} (hv : v.acells = some vs) (h : cs.length = sz) (h2 : vs.length = sz) : storeA sz (.ptr 0 g 0) v (.cel g cs :: G) = some (.cel g vs :: G) := by
  rw [store_zero, hv]
  simp only [Option.bind_some, h2, h, Nat.zero_add, Nat.le_refl, and_self, if_true, putN_all h]
@[simp] theorem chk_true {x : Out} : chk True x = x := chk_pos trivial x
@[simp] theorem bC_chk {v : AVal} {p : AVal → Prop} {k : AVal → Out} : bC (some v) p k = chk (p v) (k v) := (rfl)
section
variable {x : Option AVal} {p : Bool → AVal → Prop} {k : AVal → Out} {w : Bool}
@[simp] theorem gkc_tt : gkc (.bool true) true x p k = bC x (p true) k := (rfl)
@[simp] theorem gkc_ff : gkc (.bool false) false x p k = bC x (p true) k := (rfl)
@[simp] theorem gkc_tf : gkc (.bool true) false x p k = chk (p false skipV) (k skipV) := (rfl)
@[simp] theorem gkc_ft : gkc (.bool false) true x p k = chk (p false skipV) (k skipV) := (rfl)
@[simp] theorem gkc_s : gkc (.tup []) w x p k = chk (p false skipV) (k skipV) := (rfl)
end
theorem range4 (p : Nat → Bool) : (List.range 4).all p = (p 0 && p 1 && p 2 && p 3) := by
  show (p 0 && (p 1 && (p 2 && (p 3 && true)))) = _
  cases p 0 <;> cases p 1 <;> cases p 2 <;> cases p 3 <;> rfl
theorem wrap_nat {n : Nat} (h : n < 9223372036854775808) : IntKind.i64.wrap (n : Int) = (n : Int) := wrap_i64 (by omega) (by omega)
theorem wrap_succ {n : Nat} (h : n < 9223372036854775807) : IntKind.i64.wrap ((n : Int) + 1) = ((n + 1 : Nat) : Int) := by rw [wrap_i64] <;> omega
theorem wrap_pred {n : Nat} (h : 0 < n) (h2 : n < 9223372036854775807) : IntKind.i64.wrap ((n : Int) - 1) = ((n - 1 : Nat) : Int) := by rw [wrap_i64] <;> omega
end Go.Gm
/- Nodes as cells. -/
namespace Go.Gm
set_option linter.unusedVariables false
set_option linter.unusedSimpArgs false
@[simp] theorem beq_dec {a b : Int} : (a == b) = decide (a = b) := by rw [Bool.eq_iff_iff]; simp
@[simp] theorem bne_dec {a b : Int} : (a != b) = !decide (a = b) := by rw [Bool.eq_iff_iff]; simp
/-! ### Nodes -/
structure Nd where
  lv : Int
  k0 : Int
  k1 : Int
  k2 : Int
  k3 : Int
deriving DecidableEq
def Nd.kid (x : Nd) (k : Nat) : Int := match k with | 0 => x.k0 | 1 => x.k1 | 2 => x.k2 | _ => x.k3
def cNd (x : Nd) : List AVal := [.int .i64 x.lv, .int .i64 x.k0, .int .i64 x.k1, .int .i64 x.k2, .int .i64 x.k3]
instance : Sz cNd 5 := ⟨fun _ => rfl⟩
section
variable {x y : Nd} {H : AHeap} {k : Nat}
@[simp] theorem cNd_0 : (cNd x)[0]? = some (.int .i64 x.lv) := (rfl)
theorem cNd_kid (h : k < 4) : (cNd x)[1 + k]? = some (.int .i64 (x.kid k)) := by
  match k, h with
  | 0, _ => rfl
  | 1, _ => rfl
  | 2, _ => rfl
  | 3, _ => rfl
theorem idx_kid {K : IntKind} {cs : List AVal} {o : Nat} (h : k < 4) : idxArr 4 1 (.cptr cs o) (.int K (k : Int)) = some (.cptr cs (o + k * 1)) := by
  unfold idxArr
  simp only []
  rw [if_pos ⟨by omega, by omega⟩]; simp
theorem load_nd : loadA true 5 (.cptr (cNd x) 0) H = some (.agg (cNd x)) := (rfl)
theorem cNd_scal : (cNd x).all AVal.isScal = true := (rfl)
theorem acells_nd : (AVal.agg (cNd x)).acells = some (cNd x) := (rfl)
theorem cells_nd : cellsEq (cNd x) (cNd y) = some (decide (x = y)) := by
  obtain ⟨a, b, c, d, e⟩ := x
  obtain ⟨a', b', c', d', e'⟩ := y
  simp only [cNd, cellsEq, cellEq, if_true, Option.bind_some, Option.some.injEq]
  rw [Bool.eq_iff_iff]; simp
theorem eq_nd : binA (.flat 5) .eql (.agg (cNd x)) (.agg (cNd y)) = some (.bool (decide (x = y))) := by
  show (eqA (.flat 5) (.agg (cNd x)) (.agg (cNd y))).map AVal.bool = _
  have h : eqA (.flat 5) (.agg (cNd x)) (.agg (cNd y)) = some (decide (x = y)) := by unfold eqA; simp only []; rw [if_pos (show (cNd x).length = 5 from rfl), cells_nd]
  rw [h]; rfl
theorem neq_nd : binA (.flat 5) .neq (.agg (cNd x)) (.agg (cNd y)) = some (.bool (!decide (x = y))) := by
  show (eqA (.flat 5) (.agg (cNd x)) (.agg (cNd y))).map (fun b => AVal.bool (!b)) = _
  have h : eqA (.flat 5) (.agg (cNd x)) (.agg (cNd y)) = some (decide (x = y)) := by unfold eqA; simp only []; rw [if_pos (show (cNd x).length = 5 from rfl), cells_nd]
  rw [h]; rfl
end
theorem build_nd (x : Nd) : buildSl 5 [.agg (cNd x)] = some (.sl (enL cNd [x]) .tight) := by
  simp [buildSl, seqCells, acells_nd]; simp [cNd, immC, isImm, enL]
end Go.Gm
/- Rows that were made, and are written element by element. -/
namespace Go.Gm
set_option linter.unusedVariables false
set_option linter.unusedSimpArgs false
/-- Cells that stay as they are when they are handed back. -/
def plnC : AVal → Bool
  | .bool _ => true
  | .int _ _ => true
  | .str _ => true
  | .sl _ .no => true
  | .sl _ .tight => true
  | _ => false
class Pl {α : Type} (f : α → List AVal) : Prop where
  pl : ∀ a, (f a).all plnC = true
instance : Pl cB := ⟨fun _ => rfl⟩
instance : Pl cU := ⟨fun _ => rfl⟩
instance : Pl cI := ⟨fun _ => rfl⟩
instance : Pl cN := ⟨fun _ => rfl⟩
instance : Pl cY := ⟨fun _ => rfl⟩
instance : Pl cS := ⟨fun _ => rfl⟩
instance : Pl cNd := ⟨fun _ => rfl⟩
theorem plnC_scal {c : AVal} (h : plnC c = true) : c.isScal = true := by cases c <;> first | rfl | (simp [plnC] at h)
theorem plnC_immC {c : AVal} (h : plnC c = true) : immC c = c := by
  cases c <;> first | rfl | (simp [plnC] at h)
  rename_i es tk; cases tk <;> first | rfl | (simp [plnC] at h)
theorem plnC_imm {c : AVal} (h : plnC c = true) : isImm c = true := by
  cases c <;> first | rfl | (simp [plnC] at h)
  rename_i es tk; cases tk <;> first | rfl | (simp [plnC] at h)
theorem plnC_frz {c : AVal} {H : AHeap} {n d : Nat} (h : plnC c = true) : frz H n (d + 1) c = some c := by
  cases c <;> first | (simp [frz]; done) | (simp [plnC] at h)
  rename_i es tk; cases tk <;> first | (simp [frz]; done) | (simp [plnC] at h)
theorem plnC_frzL {H : AHeap} {n d : Nat} : ∀ {cs : List AVal}, cs.all plnC = true → frzL H n (d + 2) cs = some cs
  | [], _ => by simp [frzL]
  | c :: cs, h => by
    simp only [List.all_cons, Bool.and_eq_true] at h
    simp [frzL, plnC_frz h.1, plnC_frzL h.2]
section
variable {α : Type} {f : α → List AVal} {l : List α} {sz i n : Nat} {a : α} {H : AHeap} {id : Nat} {K : IntKind}
def flat (f : α → List AVal) (l : List α) : List AVal := l.flatMap f
@[simp] theorem flat_nil : flat f [] = [] := (rfl)
theorem flat_cons : flat f (a :: l) = f a ++ flat f l := by simp [flat]
theorem flat_append {m : List α} : flat f (l ++ m) = flat f l ++ flat f m := by simp [flat]
theorem flat_len [hf : Sz f sz] : ∀ (l : List α), (flat f l).length = l.length * sz
  | [] => by simp
  | a :: l => by
    have := flat_len l
    simp only [flat_cons, List.length_append, hf.len, List.length_cons, Nat.succ_mul]
    omega
theorem flat_pl [hp : Pl f] : ∀ (l : List α), (flat f l).all plnC = true
  | [] => rfl
  | a :: l => by simp only [flat_cons, List.all_append, Bool.and_eq_true]; exact ⟨hp.pl a, flat_pl l⟩
theorem flat_scal [hp : Pl f] (l : List α) : (flat f l).all AVal.isScal = true := by
  rw [List.all_eq_true]; intro c hc; exact plnC_scal (List.all_eq_true.1 (flat_pl (f := f) l) c hc)
theorem flat_immC [hp : Pl f] (l : List α) : (flat f l).map immC = flat f l := by
  have := List.map_congr_left (l := flat f l) (f := immC) (g := fun c => c) (fun c hc => plnC_immC (List.all_eq_true.1 (flat_pl (f := f) l) c hc))
  rw [this]; simp
theorem flat_imm [hp : Pl f] (l : List α) : (flat f l).all isImm = true := by
  rw [List.all_eq_true]; intro c hc; exact plnC_imm (List.all_eq_true.1 (flat_pl (f := f) l) c hc)
theorem flat_drop [hf : Sz f sz] : ∀ (l : List α) (i : Nat), (flat f l).drop (i * sz) = flat f (l.drop i)
  | [], i => by simp
  | a :: l, 0 => by simp
  | a :: l, i + 1 => by
    have := flat_drop l i
    rw [List.drop_succ_cons, ← this, flat_cons, Nat.succ_mul, Nat.add_comm, List.drop_append, hf.len, List.drop_of_length_le (by rw [hf.len]; omega), List.nil_append]
    congr 1; omega
theorem flat_take [hf : Sz f sz] : ∀ (l : List α) (i : Nat), (flat f l).take (i * sz) = flat f (l.take i)
  | [], i => by simp
  | a :: l, 0 => by simp
  | a :: l, i + 1 => by
    have := flat_take l i
    rw [List.take_succ_cons, flat_cons, flat_cons, ← this, Nat.succ_mul, Nat.add_comm, List.take_append, hf.len, List.take_of_length_le (by rw [hf.len]; omega)]
    congr 2; omega
theorem flat_at [hf : Sz f sz] (h : i < l.length) : ((flat f l).drop (i * sz)).take sz = f l[i] := by
  rw [flat_drop, List.drop_eq_getElem_cons h, flat_cons, List.take_append_of_le_length (by rw [hf.len]; omega), List.take_of_length_le (by rw [hf.len]; omega)]
theorem flat_set [hf : Sz f sz] (h : i < l.length) : putN (flat f l) (i * sz) sz (f a) = flat f (l.set i a) := by
  have e : l.set i a = l.take i ++ a :: l.drop (i + 1) := by rw [List.set_eq_take_append_cons_drop, if_pos h]
  have e2 : i * sz + sz = (i + 1) * sz := by rw [Nat.succ_mul]
  unfold putN
  rw [e, e2, flat_take, flat_drop, flat_append, flat_cons]
  simp
theorem flat_le [hf : Sz f sz] (h : i < l.length) : i * sz + sz ≤ (flat f l).length := by
  rw [flat_len, ← Nat.succ_mul]; exact Nat.mul_le_mul_right _ h
theorem idx_ms {g off cap : Nat} {ex : Bool} (h : i < n) : idxSl sz (.ms id g off n cap sz ex) (.int K (i : Int)) = some (.ptr id g (off + i * sz)) := by
  unfold idxSl
  simp only []
  rw [if_pos ⟨trivial, by omega, by omega⟩]; simp
theorem load_el [hf : Sz f 1] (hg : getCells H id 0 = some (flat f l)) (h : i < l.length) : loadA false 1 (.ptr id 0 i) H = (f l[i])[0]? := by
  have h1 := flat_at (f := f) (sz := 1) h
  have h2 := flat_le (f := f) (sz := 1) h
  simp only [Nat.mul_one] at h1 h2
  simp only [loadA, hg, Option.bind_some, Bool.false_eq_true, if_false]
  rw [← h1]; simp
theorem load_elA [hf : Sz f sz] (hg : getCells H id 0 = some (flat f l)) (h : i < l.length) : loadA true sz (.ptr id 0 (i * sz)) H = some (.agg (f l[i])) := by
  simp only [loadA, hg, Option.bind_some, if_true, flat_le h, flat_at h]
theorem store_el [hf : Sz f sz] {v : AVal} (hg : getCells H id 0 = some (flat f l)) (h : i < l.length) (hv : v.acells = some (f a)) : storeA sz (.ptr id 0 (i * sz)) v H = some (setC H id 0 (flat f (l.set i a))) := by
  simp only [storeA, hg, Option.bind_some, hv, hf.len, flat_le h, and_self, if_true, flat_set h]
theorem repl_flat : ∀ (n : Nat), repl n (f a) = flat f (List.replicate n a)
  | 0 => rfl
  | n + 1 => by
    have := repl_flat n
    simp only [repl, List.replicate_succ, List.flatten_cons, flat_cons] at this ⊢
    rw [this]
theorem make_flat [hf : Sz f sz] [hp : Pl f] {bytes : Nat} (hb : n * bytes ≤ 140737488355328) (hn : n ≤ 140737488355328) : makeA sz bytes (some (f a)) (.int .i64 (n : Int)) (.int .i64 (n : Int)) H = some (.ms H.length 0 0 n n sz true, H ++ [.cel 0 (flat f (List.replicate n a))]) := by
  have h1 : ((n : Int) * (bytes : Int)) ≤ 140737488355328 := by have : ((n * bytes : Nat) : Int) ≤ 140737488355328 := by omega
                                                                simpa using this
  have h2 : (f a).all AVal.isScal = true := by rw [List.all_eq_true]; intro c hc; exact plnC_scal (List.all_eq_true.1 (hp.pl a) c hc)
  unfold makeA
  simp only [Option.bind_some]
  rw [if_pos ⟨h2, hf.len a, by omega, by omega, h1, by omega⟩]
  simp only [Int.toNat_natCast, repl_flat]
theorem chunk_fl [hf : Sz f sz] : ∀ (l : List α), chunk sz l.length (flat f l) = enL f l
  | [] => rfl
  | a :: l => by
    have := chunk_fl l
    simp only [List.length_cons, chunk, flat_cons, enL, List.map_cons, List.take_append_of_le_length (Nat.le_of_eq (hf.len a).symm), List.take_of_length_le (Nat.le_of_eq (hf.len a)), List.drop_left' (hf.len a)]
    rw [this]; rfl
theorem fall_ms [hf : Sz f sz] [hp : Pl f] {b d cap : Nat} {ex : Bool} (hg : getCells H id 0 = some (flat f l)) (hi : b ≤ id) : fall H b (d + 3) (.ms id 0 0 l.length cap sz ex) = some (.sl (enL f l) .no) := by
  have h1 : ¬ id < b := by omega
  unfold fall
  simp only [frz, h1, if_false, hg, Option.bind_some, List.drop_zero, Nat.zero_add, flat_len, Nat.le_refl, if_true, List.take_of_length_le (Nat.le_of_eq (flat_len (f := f) l)), plnC_frzL (flat_pl (f := f) l), flat_imm (f := f) l, chunk_fl, Option.map_some, forget, fgtA, fgt]
theorem elems_flat [hf : Sz f sz] [hp : Pl f] {cap : Nat} {ex : Bool} (hg : getCells H id 0 = some (flat f l)) : elemsA sz (.ms id 0 0 l.length cap sz ex) H = some (enL f l) := by
  simp only [elemsA, if_true, hg, Option.bind_some, List.drop_zero, Nat.zero_add, flat_len, List.take_of_length_le (Nat.le_of_eq (flat_len (f := f) l)), flat_immC, flat_imm, Nat.le_refl, and_self, chunk_fl]
@[simp] theorem setC_app0 {G : AHeap} {g : Nat} {cs : List AVal} : setC (H ++ G) H.length g cs = H ++ setC G 0 g cs := setC_app (k := 0)
@[simp] theorem setC_appK {G : AHeap} {g k : Nat} {cs : List AVal} : setC (H ++ G) (H.length + k) g cs = H ++ setC G k g cs := setC_app
@[simp] theorem setC_zero {G : AHeap} {g g' : Nat} {c cs : List AVal} : setC (.cel g' c :: G) 0 g cs = .cel g cs :: G := (rfl)
@[simp] theorem setC_suc {G : AHeap} {g k : Nat} {b : Blk} {cs : List AVal} : setC (b :: G) (k + 1) g cs = b :: setC G k g cs := setC_succ
end
theorem get_cel {H : AHeap} {p : Nat} {cs : List AVal} (hg : H[p]? = some (.cel 0 cs)) : getCells H p 0 = some cs := by simp [getCells, hg]
theorem load_left {a : Bool} {sz p g o : Nat} {H G : AHeap} {v : AVal} (h : loadA a sz (.ptr p g o) H = some v) : loadA a sz (.ptr p g o) (H ++ G) = some v := by
  unfold loadA at h ⊢
  simp only at h ⊢
  cases hg : getCells H p g with
  | none => rw [hg] at h; cases h
  | some cs =>
    have : getCells (H ++ G) p g = some cs := by
      have hlt : p < H.length := by
        by_cases hl : p < H.length
        · exact hl
        · unfold getCells at hg; rw [List.getElem?_eq_none (by omega)] at hg; cases hg
      rw [get_old hlt]; exact hg
    rw [this]; rw [hg] at h; exact h
theorem setC_cel {H : AHeap} {p : Nat} {cs cs' : List AVal} (hg : H[p]? = some (.cel 0 cs)) : setC H p 0 cs' = H.set p (.cel 0 cs') := by simp [setC, hg]
theorem last_cel {cs : List AVal} {B : AHeap} : (B ++ [Blk.cel 0 cs])[B.length]? = some (.cel 0 cs) := by simp
theorem last_set {B : AHeap} {b b' : Blk} : (B ++ [b]).set B.length b' = B ++ [b'] := by simp
theorem bytesC_flat : ∀ l : List UInt8, bytesOfCells (flat cY l) = some l
  | [] => rfl
  | b :: l => by
    have := bytesC_flat l
    rw [flat_cons]
    show bytesOfCells (.int .u8 (b.toNat : Int) :: flat cY l) = _
    simp only [bytesOfCells, this, Option.map_some]
    simp
theorem toStr_ms {l : List UInt8} {H : AHeap} {id : Nat} (hg : getCells H id 0 = some (flat cY l)) : convToStr (.ms id 0 0 l.length l.length 1 true) H = some (.str l) := by
  have hl := flat_len (f := cY) l
  rw [Nat.mul_one] at hl
  simp only [convToStr, if_true, hg, Option.bind_some, Nat.zero_add, hl, Nat.le_refl, List.drop_zero, List.take_of_length_le (Nat.le_of_eq hl), bytesC_flat, Option.map_some]
end Go.Gm
/- The lemmas by which a form is worked out, in one. -/
namespace Go.Gm
theorem GMb : (((((((∀ {α β : Type} (a : α) (f : α → Option β), Option.bind (Option.some a) f = f a) ∧
 (∀ (v : AVal) (l : List AVal), ag (v :: l) 0 = v)) ∧
 ((∀ (a v : AVal) (l : List AVal), ag (a :: v :: l) 1 = v) ∧
 (∀ (a b v : AVal) (l : List AVal), ag (a :: b :: v :: l) 2 = v))) ∧
 (((∀ (a b c v : AVal) (l : List AVal), ag (a :: b :: c :: v :: l) 3 = v) ∧
 (∀ (a b c d v : AVal) (l : List AVal), ag (a :: b :: c :: d :: v :: l) 4 = v)) ∧
 ((∀ (a b c d e v : AVal) (l : List AVal), ag (a :: b :: c :: d :: e :: v :: l) 5 = v) ∧
 (∀ {ek : EqK} {k : IntKind} {a b : Int}, binA ek BinOp.lss (AVal.int k a) (AVal.int k b) = Option.some (AVal.bool (Decidable.decide (a < b))))))) ∧
 ((((∀ {ek : EqK} {k : IntKind} {a b : Int}, binA ek BinOp.gtr (AVal.int k a) (AVal.int k b) = Option.some (AVal.bool (Decidable.decide (a > b)))) ∧
 (∀ {ek : EqK} {k : IntKind} {a b : Int}, binA ek BinOp.leq (AVal.int k a) (AVal.int k b) = Option.some (AVal.bool (Decidable.decide (a ≤ b))))) ∧
 ((∀ {ek : EqK} {k : IntKind} {a b : Int}, binA ek BinOp.geq (AVal.int k a) (AVal.int k b) = Option.some (AVal.bool (Decidable.decide (a ≥ b)))) ∧
 (∀ {ek : EqK} {k : IntKind} {a b : Int}, binA ek BinOp.eql (AVal.int k a) (AVal.int k b) = Option.some (AVal.bool (a == b))))) ∧
 (((∀ {ek : EqK} {k : IntKind} {a b : Int}, binA ek BinOp.neq (AVal.int k a) (AVal.int k b) = Option.some (AVal.bool (a != b))) ∧
 (∀ {ek : EqK} {k : IntKind} {a b : Int}, binA ek BinOp.add (AVal.int k a) (AVal.int k b) = Option.some (AVal.int k (IntKind.wrap k (a + b))))) ∧
 ((∀ {ek : EqK} {k : IntKind} {a b : Int}, binA ek BinOp.sub (AVal.int k a) (AVal.int k b) = Option.some (AVal.int k (IntKind.wrap k (a - b)))) ∧
 ((∀ {ek : EqK} {k : IntKind} {a b : Int}, binA ek BinOp.mul (AVal.int k a) (AVal.int k b) = Option.some (AVal.int k (IntKind.wrap k (a * b)))) ∧
 (∀ (a b : Out), condA (AVal.bool Bool.true) a b = a)))))) ∧
 (((((∀ (a b : Out), condA (AVal.bool Bool.false) a b = b) ∧
 (∀ (a b : AVal), condV (AVal.bool Bool.true) a b = Option.some a)) ∧
 ((∀ (a b : AVal), condV (AVal.bool Bool.false) a b = Option.some b) ∧
 (∀ {kv : AVal → Out} (x : Option AVal), gk (AVal.bool Bool.true) Bool.true x kv = Option.bind x kv))) ∧
 (((∀ {kv : AVal → Out} (x : Option AVal), gk (AVal.bool Bool.false) Bool.false x kv = Option.bind x kv) ∧
 (∀ {kv : AVal → Out} (x : Option AVal), gk (AVal.bool Bool.true) Bool.false x kv = kv skipV)) ∧
 ((∀ {kv : AVal → Out} (x : Option AVal), gk (AVal.bool Bool.false) Bool.true x kv = kv skipV) ∧
 ((∀ {kv : AVal → Out} (w : Bool) (x : Option AVal), gk (AVal.tup []) w x kv = kv skipV) ∧
 (∀ {x : Option AVal} {p : Bool → AVal → Prop} {k : AVal → Out}, gkc (AVal.bool Bool.true) Bool.true x p k = bC x (p Bool.true) k))))) ∧
 ((((∀ {x : Option AVal} {p : Bool → AVal → Prop} {k : AVal → Out}, gkc (AVal.bool Bool.false) Bool.false x p k = bC x (p Bool.true) k) ∧
 (∀ {x : Option AVal} {p : Bool → AVal → Prop} {k : AVal → Out}, gkc (AVal.bool Bool.true) Bool.false x p k = chk (p Bool.false skipV) (k skipV))) ∧
 ((∀ {x : Option AVal} {p : Bool → AVal → Prop} {k : AVal → Out}, gkc (AVal.bool Bool.false) Bool.true x p k = chk (p Bool.false skipV) (k skipV)) ∧
 (∀ {x : Option AVal} {p : Bool → AVal → Prop} {k : AVal → Out} {w : Bool}, gkc (AVal.tup []) w x p k = chk (p Bool.false skipV) (k skipV)))) ∧
 (((∀ {v : AVal} {p : AVal → Prop} {k : AVal → Out}, bC (Option.some v) p k = chk (p v) (k v)) ∧
 (∀ {x : Out}, chk True x = x)) ∧
 ((∀ {H0 H : AHeap} {k : AVal → AHeap → Out} (x : Out), gbK H0 (AVal.bool Bool.true) Bool.true H x k = bK H0 x k) ∧
 ((∀ {H0 H : AHeap} {k : AVal → AHeap → Out} (x : Out), gbK H0 (AVal.bool Bool.false) Bool.false H x k = bK H0 x k) ∧
 (∀ {H0 H : AHeap} {k : AVal → AHeap → Out} (x : Out), gbK H0 (AVal.bool Bool.true) Bool.false H x k = k skipV H))))))) ∧
 ((((((∀ {H0 H : AHeap} {k : AVal → AHeap → Out} (x : Out), gbK H0 (AVal.bool Bool.false) Bool.true H x k = k skipV H) ∧
 (∀ {H0 H : AHeap} {k : AVal → AHeap → Out} (w : Bool) (x : Out), gbK H0 (AVal.tup []) w H x k = k skipV H)) ∧
 ((∀ {H0 H : AHeap} {k : AVal → AHeap → Out} (x : Out), gbP H0 (AVal.bool Bool.true) Bool.true H x k = bP H0 x k) ∧
 (∀ {H0 H : AHeap} {k : AVal → AHeap → Out} (x : Out), gbP H0 (AVal.bool Bool.false) Bool.false H x k = bP H0 x k))) ∧
 (((∀ {H0 H : AHeap} {k : AVal → AHeap → Out} (x : Out), gbP H0 (AVal.bool Bool.true) Bool.false H x k = k skipV H) ∧
 (∀ {H0 H : AHeap} {k : AVal → AHeap → Out} (x : Out), gbP H0 (AVal.bool Bool.false) Bool.true H x k = k skipV H)) ∧
 ((∀ {H0 H : AHeap} {k : AVal → AHeap → Out} (w : Bool) (x : Out), gbP H0 (AVal.tup []) w H x k = k skipV H) ∧
 (∀ {H : AHeap} {k : AVal → AHeap → Out} (x : Out), gbN (AVal.bool Bool.true) Bool.true H x k = bindN x k)))) ∧
 ((((∀ {H : AHeap} {k : AVal → AHeap → Out} (x : Out), gbN (AVal.bool Bool.false) Bool.false H x k = bindN x k) ∧
 (∀ {H : AHeap} {k : AVal → AHeap → Out} (x : Out), gbN (AVal.bool Bool.true) Bool.false H x k = k skipV H)) ∧
 ((∀ {H : AHeap} {k : AVal → AHeap → Out} (x : Out), gbN (AVal.bool Bool.false) Bool.true H x k = k skipV H) ∧
 (∀ {H : AHeap} {k : AVal → AHeap → Out} (w : Bool) (x : Out), gbN (AVal.tup []) w H x k = k skipV H))) ∧
 (((∀ {H : AHeap} {k : AVal → AHeap → Out} (v : AVal), bindN (Option.some (Res.ret v, H)) k = k v H) ∧
 (∀ {H0 H : AHeap} {k : AVal → AHeap → Out} (v : AVal), bK H0 (Option.some (Res.ret v, H)) k = k v H)) ∧
 ((∀ {H0 H : AHeap} {k : AVal → AHeap → Out} (v : AVal), bP H0 (Option.some (Res.ret v, H)) k = k v H) ∧
 ((∀ {H0 H : AHeap} (v : AVal), rK H0 v H = Option.some (Res.ret v, H)) ∧
 (∀ {H H0 : AHeap} {v : AVal}, rKN H0 v H = Option.some (Res.ret (forget v), H))))))) ∧
 (((((∀ {c : Bool}, unA UnOp.not (AVal.bool c) = Option.some (AVal.bool !c)) ∧
 (∀ {H : AHeap} (v : AVal), retV (Option.some v) H = Option.some (Res.ret v, H))) ∧
 ((∀ {H : AHeap}, retH (Option.some H) = Option.some (Res.ret AVal.undef, H)) ∧
 (∀ {H : AHeap} (v : AVal), retVH (Option.some (v, H)) = Option.some (Res.ret v, H)))) ∧
 (((∀ {H : AHeap} {k : AVal → AHeap → Out} (v : AVal), afterA (Option.some (v, H)) k = k v H) ∧
 (∀ {a b : Int}, (a == b) = decide (a = b))) ∧
 ((∀ {a b : Int}, (a != b) = !decide (a = b)) ∧
 (((!true) = false) ∧
 ((!false) = true))))) ∧
 (((((false = true) = False) ∧
 (∀ (b : Bool), (false || b) = b)) ∧
 ((∀ (b : Bool), (true || b) = true) ∧
 (∀ (b : Bool), (b || false) = b))) ∧
 (((∀ (b : Bool), (b || true) = true) ∧
 (∀ (b : Bool), (b && true) = b)) ∧
 ((∀ (b : Bool), (true && b) = b) ∧
 ((∀ (b : Bool), (b && false) = false) ∧
 (∀ (b : Bool), (false && b) = false)))))))) :=
 ⟨⟨⟨⟨⟨⟨@obind, @ag_zero⟩, ⟨@ag_1, @ag_2⟩⟩, ⟨⟨@ag_3, @ag_4⟩, ⟨@ag_5, @bin_lss⟩⟩⟩, ⟨⟨⟨@bin_gtr, @bin_leq⟩, ⟨@bin_geq, @bin_eql⟩⟩, ⟨⟨@bin_neq, @bin_add⟩, ⟨@bin_sub, ⟨@bin_mul, @condA_true⟩⟩⟩⟩⟩, ⟨⟨⟨⟨@condA_false, @condV_true⟩, ⟨@condV_false, @gk_tt⟩⟩, ⟨⟨@gk_ff, @gk_tf⟩, ⟨@gk_ft, ⟨@gk_s, @gkc_tt⟩⟩⟩⟩, ⟨⟨⟨@gkc_ff, @gkc_tf⟩, ⟨@gkc_ft, @gkc_s⟩⟩, ⟨⟨@bC_chk, @chk_true⟩, ⟨@gbK_tt, ⟨@gbK_ff, @gbK_tf⟩⟩⟩⟩⟩⟩, ⟨⟨⟨⟨⟨@gbK_ft, @gbK_s⟩, ⟨@gbP_tt, @gbP_ff⟩⟩, ⟨⟨@gbP_tf, @gbP_ft⟩, ⟨@gbP_s, @gbN_tt⟩⟩⟩, ⟨⟨⟨@gbN_ff, @gbN_tf⟩, ⟨@gbN_ft, @gbN_s⟩⟩, ⟨⟨@bindN_ret, @bK_ret⟩, ⟨@bP_ret, ⟨@rK_eq, @rKN_eq⟩⟩⟩⟩⟩, ⟨⟨⟨⟨@un_not, @retV_some⟩, ⟨@retH_some, @retVH_some⟩⟩, ⟨⟨@afterA_some, @beq_dec⟩, ⟨@bne_dec, ⟨Bool.not_true, Bool.not_false⟩⟩⟩⟩, ⟨⟨⟨@Bool.false_eq_true, @Bool.false_or⟩, ⟨@Bool.true_or, @Bool.or_false⟩⟩, ⟨⟨@Bool.or_true, @Bool.and_true⟩, ⟨@Bool.true_and, ⟨@Bool.and_false, @Bool.false_and⟩⟩⟩⟩⟩⟩⟩
end Go.Gm
/- The forms are what the evaluator comes to; so they are what the functions come to: those that others lean on. -/
namespace Go.Gm
open Go.Proofs
set_option maxRecDepth 100000
theorem mixed : Tryd.prog.follows .mixedOrders = true := by kernel_rfl
noncomputable def orc_dec_Digits_1 : Orc := noO
theorem tie_dec_Digits_1 : T1 Tryd.prog Gs false orc_dec_Digits_1 Tryd.f33 (.two .leaf (.two .leaf .leaf)) .keep Sh.dec_Digits_1 := by unfold T1; intros; kernel_rfl
theorem call_dec_Digits_1 : FnOk Tryd.prog Gs 33 (ap1 Sh.dec_Digits_1) := fn_ok1 mixed (orc_no _ _) Tryd.func33 (by kernel_rfl) tie_dec_Digits_1
noncomputable def orc_limb_Right : Orc := noO
theorem tie_limb_Right : T1 Tryd.prog Gs false orc_limb_Right Tryd.f59 (.two .leaf (.two .leaf .leaf)) .keep Sh.limb_Right := by unfold T1; intros; kernel_rfl
theorem call_limb_Right : FnOk Tryd.prog Gs 59 (ap1 Sh.limb_Right) := fn_ok1 mixed (orc_no _ _) Tryd.func59 (by kernel_rfl) tie_limb_Right
noncomputable def orc_limb_cut : Orc := (ent 59 (ap1 Sh.limb_Right) noO)
theorem tie_limb_cut : T1 Tryd.prog Gs false orc_limb_cut Tryd.f39 (.two .leaf (.two (.one (.loop [0] (.two (.two .leaf (.two .leaf .leaf)) (.one .leaf)))) (.two .leaf .leaf))) .keepN Sh.limb_cut := by unfold T1; intros; kernel_rfl
theorem call_limb_cut : FnOk Tryd.prog Gs 39 (ap1 Sh.limb_cut) := fn_ok1 mixed ((orc_ent call_limb_Right (orc_no _ _))) Tryd.func39 (by kernel_rfl) tie_limb_cut
noncomputable def orc_math_bits_Div32 : Orc := noO
theorem tie_math_bits_Div32 : T3 Tryd.prog Gs false orc_math_bits_Div32 Tryd.f42 (.two .leaf (.join [0, 1, 2] (.two .leaf (.two .leaf .leaf)) (.two .leaf (.two (.reg [0, 1, 2, 3, 4, 5, 6, 7, 8, 9, 10, 11]) .leaf)))) .keep Sh.math_bits_Div32 := by unfold T3; intros; kernel_rfl
theorem call_math_bits_Div32 : FnOk Tryd.prog Gs 42 (ap3 Sh.math_bits_Div32) := fn_ok3 mixed (orc_no _ _) Tryd.func42 (by kernel_rfl) tie_math_bits_Div32
end Go.Gm
/- The form of math/bits.Div32. -/
namespace Go.Gm
set_option linter.unusedVariables false
set_option linter.unusedSimpArgs false
theorem or_lo {a b : Nat} (hb : b < 4294967296) : (a * 4294967296) ||| b = a * 4294967296 + b := by
  rw [show (4294967296 : Nat) = 2 ^ 32 from rfl, Nat.mul_comm]
  exact (Nat.two_pow_add_eq_or_of_lt hb a).symm
theorem bin_or64 {a b : Nat} (ha : a < 4294967296) (hb : b < 4294967296) : binA .none .or (.int .u64 ((a * 4294967296 : Nat) : Int)) (.int .u64 (b : Int)) = some (.int .u64 ((a * 4294967296 + b : Nat) : Int)) := by
  have h1 : (BitVec.ofInt 64 ((a * 4294967296 : Nat) : Int) ||| BitVec.ofInt 64 (b : Int)).toNat = a * 4294967296 + b := by
    rw [BitVec.ofInt_natCast, BitVec.ofInt_natCast, BitVec.toNat_or, BitVec.toNat_ofNat, BitVec.toNat_ofNat, Nat.mod_eq_of_lt (by omega), Nat.mod_eq_of_lt (by omega), or_lo hb]
  show some (AVal.int .u64 (IntKind.u64.wrap ((BitVec.ofInt 64 ((a * 4294967296 : Nat) : Int) ||| BitVec.ofInt 64 (b : Int)).toNat : Int))) = _
  rw [h1, wrap_u64 (by omega) (by omega)]
theorem bin_shl64 {a : Nat} (ha : a < 4294967296) : binA .none .shl (.int .u64 (a : Int)) (.int .u64 32) = some (.int .u64 ((a * 4294967296 : Nat) : Int)) := by
  show some (AVal.int .u64 (IntKind.u64.wrap ((a : Int) * 4294967296))) = _
  rw [wrap_u64 (by omega) (by omega)]
  simp
theorem conv_u64 {a : Nat} (ha : a < 4294967296) : convInt .u64 (.int .u32 (a : Int)) = some (.int .u64 (a : Int)) := by
  show some (AVal.int .u64 (IntKind.u64.wrap (a : Int))) = _
  rw [wrap_u64 (by omega) (by omega)]
theorem conv_u32 {a : Nat} (ha : a < 4294967296) : convInt .u32 (.int .u64 (a : Int)) = some (.int .u32 (a : Int)) := by
  show some (AVal.int .u32 (IntKind.u32.wrap (a : Int))) = _
  rw [wrap_u32 (by omega) (by omega)]
theorem bin_quo64 {a b : Nat} (h : 0 < b) (hab : a / b < 18446744073709551616) : binA .none .quo (.int .u64 (a : Int)) (.int .u64 (b : Int)) = some (.int .u64 ((a / b : Nat) : Int)) := by
  show (if (b : Int) = 0 then none else some (AVal.int .u64 (IntKind.u64.wrap ((a : Int).tdiv b)))) = _
  rw [if_neg (by omega), ← Int.ofNat_tdiv]
  generalize a / b = q at *
  rw [wrap_u64 (by omega) (by omega)]
theorem bin_rem64 {a b : Nat} (h : 0 < b) : binA .none .rem (.int .u64 (a : Int)) (.int .u64 (b : Int)) = some (.int .u64 ((a % b : Nat) : Int)) := by
  show (if (b : Int) = 0 then none else some (AVal.int .u64 ((a : Int).tmod b))) = _
  rw [if_neg (by omega), ← Int.ofNat_tmod]
theorem q_div32 (hi lo y : Nat) (H : AHeap) (h1 : hi < y) (h2 : y < 4294967296) (h3 : lo < 4294967296) : Sh.math_bits_Div32 (.int .u32 hi) (.int .u32 lo) (.int .u32 y) H =
    some (.ret (.tup [.int .u32 ((hi * 4294967296 + lo) / y : Nat), .int .u32 ((hi * 4294967296 + lo) % y : Nat)]), H) := by
  have hy : ¬ (y : Int) = 0 := by omega
  have hle : ¬ (y : Int) ≤ hi := by omega
  have hq : (hi * 4294967296 + lo) / y < 4294967296 := by
    rw [Nat.div_lt_iff_lt_mul (by omega)]
    have : (hi + 1) * 4294967296 ≤ y * 4294967296 := Nat.mul_le_mul_right _ h1
    rw [Nat.mul_comm 4294967296]
    omega
  have hm : (hi * 4294967296 + lo) % y < y := Nat.mod_lt _ (by omega)
  unfold Sh.math_bits_Div32
  simp only [GMb, joinPt, decide_true, decide_false, if_true, if_false, hy, hle]
  unfold Sh.math_bits_Div32_j1
  simp only [GMb, joinPt, decide_true, decide_false, if_true, if_false, conv_u64 (show hi < 4294967296 by omega), conv_u64 h2, conv_u64 h3, bin_shl64 (show hi < 4294967296 by omega), bin_or64 (show hi < 4294967296 by omega) h3, bC_some, bin_quo64 (show 0 < y by omega) (show (hi * 4294967296 + lo) / y < 18446744073709551616 by omega), bin_rem64 (show 0 < y by omega), conv_u32 hq, conv_u32 (show (hi * 4294967296 + lo) % y < 4294967296 by omega)]
end Go.Gm
/- The forms of limb.Right and limb.cut over a row that is one's own. -/
namespace Go.Gm
set_option linter.unusedVariables false
set_option linter.unusedSimpArgs false
/-- How many limbs are left when the noughts at the end are cut off. -/
def topK (l : List Nat) : Nat → Nat
  | 0 => 0
  | k + 1 => if l[k]?.getD 0 = 0 then topK l k else k + 1
theorem topK_le (l : List Nat) : ∀ k, topK l k ≤ k
  | 0 => Nat.le_refl _
  | k + 1 => by
    have := topK_le l k
    unfold topK
    split <;> omega
theorem topK_lims {l : List Nat} (hx : Lim l) : ∀ k, k ≤ l.length → l.take (topK l k) = lims (val (l.take k))
  | 0, _ => by
    have : lims (val ([] : List Nat)) = [] := (lims_val (l := []) ⟨fun x h => (by cases h), fun x h => (by cases h)⟩).symm
    simpa [topK] using this.symm
  | k + 1, hk => by
    have hg : l[k]? = some l[k] := List.getElem?_eq_getElem (by omega)
    have ht : l.take (k + 1) = l.take k ++ [l[k]] := List.take_succ_eq_append_getElem (by omega)
    unfold topK
    split
    · rename_i h
      rw [topK_lims hx k (by omega), ht, val_append]
      rw [hg, Option.getD_some] at h
      rw [h]
      simp [val]
    · rename_i h
      rw [hg, Option.getD_some] at h
      refine lims_val ⟨fun x hxl => hx x (List.mem_of_mem_take hxl), fun x hxl => ?_⟩
      rw [ht, List.getLast?_concat] at hxl
      cases hxl
      exact h
theorem q_right {l : List Nat} {H : AHeap} {id k : Nat} (hg : H[id]? = some (.cel 0 (flat cU l))) (hk : k ≤ l.length) (hl : l.length < 9223372036854775807) : Sh.limb_Right (.ms id 0 0 k l.length 1 true) H = some (.ret (.bool (decide (k = 0) || decide (l[k - 1]?.getD 0 ≠ 0))), H) := by
  unfold Sh.limb_Right
  cases k with
  | zero => simp [lenSl]
  | succ k =>
    have hidx := idx_ms (sz := 1) (id := id) (n := k + 1) (K := .i64) (g := 0) (off := 0) (cap := l.length) (ex := true) (i := k) (by omega)
    simp only [Nat.zero_add, Nat.mul_one] at hidx
    have hld := load_el (f := cU) (id := id) (l := l) (H := H) (show getCells H id 0 = some (flat cU l) by simp [getCells, hg]) (i := k) (by omega)
    have h0 : ¬ ((k + 1 : Nat) : Int) = 0 := by omega
    have hw : IntKind.i64.wrap (((k + 1 : Nat) : Int) - 1) = (k : Int) := by rw [wrap_i64] <;> omega
    have hgk : l[k]? = some l[k] := List.getElem?_eq_getElem (by omega)
    simp only [show lenSl (.ms id 0 0 (k + 1) l.length 1 true) = some (.int .i64 ((k + 1 : Nat) : Int)) from rfl, GMb, joinPt, decide_true, decide_false, if_true, if_false, h0, hw, hidx, hld, Nat.add_sub_cancel, hgk, Option.getD_some, Nat.succ_ne_zero]
    by_cases h : l[k] = 0
    · simp [h]
    · have : ¬ (l[k] : Int) = 0 := by omega
      simp [h, this]
theorem q_cut {l : List Nat} {H : AHeap} {id : Nat} (hg : H[id]? = some (.cel 0 (flat cU l))) (hl : l.length < 1152921504606846976) : Sh.limb_cut (.ms id 0 0 l.length l.length 1 true) H = some (.ret (.ms id 0 0 (topK l l.length) l.length 1 true), H) := by
  unfold Sh.limb_cut
  refine loop_fun (σ := Nat) (fun k => k ≤ l.length ∧ topK l k = topK l l.length) (fun k => [.ms id 0 0 k l.length 1 true]) (fun _ => H) (fun k => k) (fun _ => some (.ret (.ms id 0 0 (topK l l.length) l.length 1 true), H)) (fun k rec hi hrec => ?_) l.length ⟨Nat.le_refl _, rfl⟩ (by omega)
  obtain ⟨hk, ht⟩ := hi
  unfold Sh.limb_cut_l1
  simp only [ag_zero, q_right hg hk (by omega), GMb, joinPt, decide_true, decide_false, if_true, if_false]
  cases k with
  | zero => simp [← ht, topK, rKN, fin, forget, fgtA, fgt]
  | succ k =>
    by_cases h : l[k]?.getD 0 = 0
    · have hw : IntKind.i64.wrap (((k + 1 : Nat) : Int) - 1) = (k : Int) := by rw [wrap_i64] <;> omega
      have hsl : sliceSl 1 (.ms id 0 0 (k + 1) l.length 1 true) none (some (.int .i64 (k : Int))) none = some (.ms id 0 0 k l.length 1 true) := by
        have : (0 : Int) ≤ (k : Int) := by omega
        simp only [sliceSl, boundA, Option.bind_some, this, if_true, Int.toNat_natCast]
        rw [if_pos ⟨trivial, by omega, by omega, by omega⟩]
        simp
      have ht' : topK l k = topK l l.length := by rw [← ht]; simp [topK, h]
      have hr := hrec k ⟨by omega, ht'⟩ (by omega)
      simp only [h, show lenSl (.ms id 0 0 (k + 1) l.length 1 true) = some (.int .i64 ((k + 1 : Nat) : Int)) from rfl, GMb, joinPt, decide_true, decide_false, if_true, if_false, hw, hsl, Nat.add_sub_cancel, ne_eq, not_true_eq_false, Nat.succ_ne_zero]
      exact hr
    · have ht' : topK l (k + 1) = k + 1 := by simp [topK, h]
      rw [← ht, ht']
      simp only [h, GMb, joinPt, decide_true, decide_false, if_true, if_false, Nat.add_sub_cancel, ne_eq, not_false_eq_true, Nat.succ_ne_zero]
      simp [rKN, fin, forget, fgtA, fgt]
end Go.Gm
/- From a function's form to a law's statement. -/
namespace Go.Gm
open Go.ChangeShapes Go.WideShapes Go.ChangeAt Go.RowKit
set_option linter.unusedVariables false
/-- The start: all that is there is fixed. -/
def Env0 (W : World) : Env := ⟨fun _ _ => none, fun _ _ => none, fun b o => W.cell? ⟨b, o, none⟩⟩
theorem sim0 (W : World) (hf : ∀ b cs, FixT b = some cs → 0 < cs.size ∧ ∃ t fr, W.heap[b]? = some (.cells cs t fr)) : Sim (Env0 W) [] W :=
  ⟨fun id B h => (by simp at h), fun id g b h => (by cases h), fun id g b h => (by cases h), fun id B n h => (by simp at h), fun id id' b h => (by simp [loc] at h), fun b o v h => h, fun b cs h => by
    obtain ⟨h0, t, fr, h1⟩ := hf b cs h
    exact ⟨⟨t, fr, h1⟩, ⟨cs[0], by rw [show (Env0 W).I b 0 = W.cell? ⟨b, 0, none⟩ from rfl, cell_of_cells h1]; simp [h0]⟩, fun id => by simp [loc]⟩⟩
theorem step_below {E0 : Env} {w0 : World} {E : Env} {H : AHeap} {w : World} (h : Step E0 [] w0 E H w) : Below w0.heap.size w0 w :=
  ⟨h.os, h.tape, h.output, h.size, fun k hk => h.frame k hk (fun ⟨i, hi⟩ => by simp [loc] at hi)⟩
/-- A law that comes to true. -/
theorem calls_law {P : Program} {G : Glob} {g : FuncId} {F : List AVal → AHeap → Out} (hF : FnOk P G g F) {fn : Func} (hf : P.funcs[g]? = some fn) (hb : fn.body.isNone = false) (hn : (fn.name == "runtime.NumGoroutine") = false)
    {W : World} (hfx : ∀ b cs, FixT b = some cs → 0 < cs.size ∧ ∃ t fr, W.heap[b]? = some (.cells cs t fr)) (hG : GlobOk G (Env0 W)) {args : List AVal} {vs : Array Value} (hv : VRels (Env0 W) args vs.toList) (h : F args [] = some (.ret (.bool true), [])) :
    Calls P g vs W fun e W' => e = .returned (.bool true) ∧ Below W.heap.size W W' := by
  rcases hF args [] _ _ h (Env0 W) W vs hG (sim0 W hfx) hv with ⟨_, h1⟩ | ⟨v, w', h1, _⟩
  · refine h1.mono fun e W' ⟨E', h2, _, h3⟩ => ⟨?_, step_below h3⟩
    cases e with
    | returned v => rw [VRel.bool_inv h2]
    | panicked c => exact h2.elim
    | outgrown => exact h2.elim
  · rw [enter_run hf hb hn] at h1; cases h1
section
variable {H : Type} {enc : TypeId × Value → H} {P : Program}
theorem trodAll_below (hl : laidOutB P = true) {W W' : World} (hb : Below W.heap.size W W') {sp : Nat → Bool} : ∀ {ts : List TypeId} {vs : List Value} {ds : List (DataW H)} {ps : List MemPlace},
    (ts.all fun t => P.readableRec t && decide (t < P.types.size)) = true → DataW.TrodAll enc P W 0 (fun _ => true) true ts vs ds ps → (∀ x ∈ ps, x.block < W.heap.size) → (∀ x ∈ ps, sp x.block = true) → DataW.TrodAll enc P W' 0 sp true ts vs ds ps
  | [], _, _, _, _, h, _, _ => by
    obtain ⟨rfl, rfl, rfl⟩ := trodAll_nil h
    exact trodAll_mk0
  | t :: ts, _, _, _, ht, h, hlt, hsp => by
    obtain ⟨v, vs1, d, ds1, a, b, rfl, rfl, rfl, h1, h2⟩ := trodAll_cons h
    simp only [List.all_cons, Bool.and_eq_true, decide_eq_true_eq] at ht
    exact trodAll_cons_mk (WideElems.Trod_stays hl ht.1.1 ht.1.2 h1 (fun x hx => hb.same (hlt x (by simp [hx]))) (fun x hx => hsp x (by simp [hx])))
      (trodAll_below hl hb (by simpa using ht.2) h2 (fun x hx => hlt x (by simp [hx])) (fun x hx => hsp x (by simp [hx])))
theorem post_law {f : Func} {s : ChangeSpec} {W W' : World} {args : Array Value} {ds gs : List (DataW H)} {before : List MemPlace} (hW : DataW.Whole enc P f.params.toList s.vars false W args.toList ds gs before)
    (hl : laidOutB P = true) (hr : (f.params.toList.all fun t => P.readableRec t && decide (t < P.types.size)) = true) (hB : Below W.heap.size W W') (hvars : s.vars = []) {tb : TypeId} (hrt : f.resultTypes = #[tb]) (hbool : P.underlying tb = some .bool)
    (hres : (s.fn H (ds ++ gs)).results = [.lit (.bool true)]) (hargs : (s.fn H (ds ++ gs)).args = ds) (hvs : (s.fn H (ds ++ gs)).vars = []) : s.post enc P f false true false false W args (.bool true) W' := by
  have hold : ∀ p ∈ before, (fun b => decide (b < W.heap.size)) p.block = true := fun p hp => by simpa using hW.lt p hp
  have hlt := hW.lt
  have hW' := hW
  obtain ⟨p, q, hA, hV, hpq, hz, hn⟩ := hW
  rw [hvars] at hV
  obtain ⟨rfl, rfl⟩ := trodVars_none hV
  have hpq' : before = p := by rw [hpq]; simp
  subst hpq'
  have ha : ∀ sp : Nat → Bool, (∀ x ∈ before, sp x.block = true) → DataW.TrodAll enc P W' 0 sp true f.params.toList args.toList (s.fn H (ds ++ [])).args before := fun sp hsp => by
    rw [hargs]; exact trodAll_below hl hB hr hA hlt hsp
  have hr' : ∀ (b : Nat) (sp : Nat → Bool) (hd : Bool), DataW.TrodAll enc P W' b sp hd f.resultTypes.toList ((Value.bool true).resultList f.resultTypes.size) (s.fn H (ds ++ [])).results [] := fun b sp hd => by
    rw [hres, hrt]
    exact trodAll_cons_mk (shut_bool hbool _) trodAll_mk0
  have hv' : ∀ sp : Nat → Bool, DataW.TrodVars enc P W' sp s.vars (s.fn H (ds ++ [])).vars [] := fun sp => by rw [hvars, hvs]; rfl
  refine ⟨ds, [], before, [], before, [], hW', hr' _ _ _, ha _ hold, hv' _, World.keptBut_mono (fun p hp => hp) (hB.frame _), fun _ => ?_⟩
  refine ⟨ok_one hrt rfl (okWide_bool_mk hbool _), _, _, ([] ++ before) ++ [], ⟨[] ++ before, [], trodAll_append (ha _ (fun _ _ => rfl)) (hr' _ _ _), hv' _, rfl, ?_, ?_⟩, ?_⟩
  · intro b off hp
    have hp' : MemPlace.cell b off ∈ before := by simpa using hp
    rw [hB.frozen (hlt _ hp')]
    exact hz b off hp'
  · intro h; cases h
  · intro p hp _
    simpa using hp
end
end Go.Gm
/- From a contract of the kit's library to a function's contract here. -/
namespace Go.Gm
open Go.RowKit
set_option linter.unusedVariables false
theorem sim_below {E : Env} {H : AHeap} {w w' : World} (h : Sim E H w) (hb : Below w.heap.size w w') : Sim E H w' ∧ Step E H w E H w' :=
  h.ext (.refl E) (fun _ _ _ h => h) (fun _ _ _ h => h) hb.block (fun _ _ => rfl) (fun b o v hv hlt => by have := h.imm_lt hv; omega) hb.os hb.tape hb.output hb.size
/-- The same world, of which nothing is one's own. -/
def Env.bare (E : Env) : Env := ⟨fun _ _ => none, fun _ _ => none, E.I⟩
theorem sim_bare {E : Env} {H : AHeap} {w : World} (h : Sim E H w) : Sim E.bare [] w :=
  ⟨fun id B h => (by simp at h), fun id g b h => (by cases h), fun id g b h => (by cases h), fun id B n h => (by simp at h), fun id id' b h => (by simp [loc] at h), fun b o v hv => h.imm b o v hv, fun b cs hf => ⟨(h.fix b cs hf).1, (h.fix b cs hf).2.1, fun id => by simp [loc]⟩⟩
/-- What a function comes to beside a heap that it does not see. -/
theorem fn_calls {P : Program} {G : Glob} {g : FuncId} {F : List AVal → AHeap → Out} (hF : FnOk P G g F) {fn : Func} (hf : P.funcs[g]? = some fn) (hB : fnB 0 fn = true)
    {E : Env} {H : AHeap} {w : World} (hG : GlobOk G E.bare) (hs : Sim E H w) {args : List AVal} {vs : Array Value} (hv : VRels E.bare args vs.toList) {res : Res} (h : F args [] = some (res, [])) :
    Calls P g vs w fun e w' => (∃ E', EndRel E' res e) ∧ Below w.heap.size w w' := by
  obtain ⟨b1, b2, b3⟩ := fnB_spec hB
  rcases hF args [] _ _ h E.bare w vs hG (sim_bare hs) hv with ⟨_, h1⟩ | ⟨v, w', h1, _⟩
  · exact h1.mono fun e w' ⟨E', h2, _, h3⟩ => ⟨⟨E', h2⟩, step_below h3⟩
  · rw [enter_run hf b1 b2] at h1; cases h1
theorem lib_ok {P : Program} {G : Glob} {g : FuncId} {fn : Func} (hf : P.funcs[g]? = some fn) (hB : fnB 0 fn = true) {args : List AVal} {H : AHeap} {x : AVal}
    (h : ∀ (E : Env) (w : World) (vs : Array Value), GlobOk G E → Sim E H w → VRels E args vs.toList → ∃ v, VRel E x v ∧ Calls P g vs w fun e w' => e = .returned v ∧ Below w.heap.size w w') : CallA P G g args H (.ret x) H := by
  intro E w vs hG hs hv
  obtain ⟨v, h1, h2⟩ := h E w vs hG hs hv
  obtain ⟨b1, b2, b3⟩ := fnB_spec hB
  refine .inl ⟨enter_run hf b1 b2 vs w, h2.mono fun e w' ⟨he, hb⟩ => ?_⟩
  subst he
  obtain ⟨k1, k2⟩ := sim_below hs hb
  exact ⟨E, h1, k1, k2⟩
theorem args1 {E : Env} {a : AVal} {vs : Array Value} (h : VRels E [a] vs.toList) : ∃ v, vs = #[v] ∧ VRel E a v := by
  obtain ⟨l⟩ := vs
  match l, h with
  | [v], h => exact ⟨v, rfl, h.head⟩
  | [], h => exact absurd h.1 (by simp)
  | _ :: _ :: _, h => exact absurd h.1 (by simp)
theorem args2 {E : Env} {a b : AVal} {vs : Array Value} (h : VRels E [a, b] vs.toList) : ∃ v u, vs = #[v, u] ∧ VRel E a v ∧ VRel E b u := by
  obtain ⟨l⟩ := vs
  match l, h with
  | [v, u], h => exact ⟨v, u, rfl, h.head, h.tail.head⟩
  | [], h => exact absurd h.1 (by simp)
  | [_], h => exact absurd h.1 (by simp)
  | _ :: _ :: _ :: _, h => exact absurd h.1 (by simp)
theorem val_str {E : Env} {s : List UInt8} {v : Value} (h : VRel E (.str s) v) : v = .string ⟨s.toArray⟩ := by cases h; rfl
theorem val_int {E : Env} {k : IntKind} {n : Int} {v : Value} (h : VRel E (.int k n) v) : v = .int k n := by cases h; rfl
theorem slice_plain {E : Env} {x : AVal} {ad : Option Addr} {n c : Nat} (h : VRel E x (.slice ad n c)) (hx : x ≠ .undef) (hn : n ≠ 0) : ∃ b o, ad = some ⟨b, o, none⟩ := by
  cases h with
  | undef => exact absurd rfl hx
  | sl0 ht ha => exact absurd rfl hn
  | sl f hl hI hm hv hc ht => exact ⟨_, _, rfl⟩
  | ms h hc hl he ho hk => exact ⟨_, _, rfl⟩
end Go.Gm
/- A drawn region within a round of a loop over a function. -/
namespace Go.Gm
open Go.RowKit
set_option linter.unusedVariables false
theorem op_in {P : Program} {o : Oper} {a : Act} {w : World} {K : Act → World → Prop} {Q : Exit → Act → World → Prop} (l n : Nat) (hd : ∀ c, o.op ≠ .defer c) (h : o.wp P a w K Q) : o.wpIn (Fence.wide.inRound l) n P a w K Q := by
  refine ⟨fun _ _ => trivial, ?_⟩
  rw [show (Fence.wide.inRound l).round = some l from rfl, Oper.semAt_some l _ _ hd]
  unfold Oper.wp at h
  cases hx : (execOp a.eval o).run P w with
  | ok v w' =>
    rw [hx] at h
    cases v with
    | value v => exact h
    | skip => exact h
    | defer d => exact h
    | enter f args => exact ⟨fun h => (by cases h), CallsIn.inRound l (callsIn_wide.2 h)⟩
    | row r args => exact ⟨fun h => (by cases h), fun c cs _ => let ⟨v, w2, r, s⟩ := h c cs; ⟨v, w2, r, stepsIn_wide.2 s⟩⟩
    | _ => exact h.elim
  | halt e w' =>
    rw [hx] at h
    cases e <;> exact h
theorem any_in {P : Program} {ops : Array Oper} {Q : Exit → Act → World → Prop} {md : Region.Mode} (l n : Nat) (hd : ∀ (i : Nat) (o : Oper), ops[i]? = some o → ∀ c, o.op ≠ .defer c) (hq : ¬ LetsOut Q) :
    ∀ (fuel : Nat) (listed : Array Bool) (a : Act) (w : World), wpAny P md ops Q fuel listed a w → wpAnyIn (Fence.wide.inRound l) n P md ops Q fuel listed a w := by
  intro fuel
  induction fuel with
  | zero => exact fun _ _ _ h => h
  | succ fuel ih =>
    intro listed a w h
    refine ⟨h.1, fun i hi => ?_⟩
    have h2 := h.2 i hi
    unfold wpOp at h2
    unfold wpOpIn
    cases ho : ops[i]? with
    | none => rw [ho] at h2; exact ih _ _ _ h2
    | some o =>
      rw [ho] at h2
      simp only at h2 ⊢
      split
      · rename_i hw
        rw [if_pos hw] at h2
        rcases h2 with h2 | h2
        · exact op_in l n (hd i o ho) (Oper.wp_mono (fun a w h => ih _ a w h) h2)
        · exact absurd h2.2 hq
      · rename_i hw
        rw [if_neg hw] at h2
        exact ⟨fun _ _ => trivial, ih _ _ _ h2⟩
/-- A drawn region in a round. -/
theorem region_in {C : Cfg} (hC : CfgOk C) (hm : C.P.follows .mixedOrders = true) {l fu n : Nat} {E0 : Env} {H0 : AHeap} {w0 : World} {out : Res × AHeap} {ops : Array Oper} {perm : List Nat} {k : List AVal → AHeap → Out} {Q : Exit → Act → World → Prop} {id : Nat} {E : Env} {tm : List AVal} {H : AHeap} {a : Act} {w : World}
    (hd : ops.all (fun o => match o.op with | .defer _ => false | _ => true) = true) (hq : ¬ LetsOut Q) (hk : KOk C n E0 H0 w0 out k (Q .normal)) (hok : okDraw ops perm = true) (hG : GlobOk C.G E) (st : Step E0 H0 w0 E H w) (hf : FRel n E H tm a w)
    (h : evDraw C ops (fun i j => ((Region.before ops).getD j 0).testBit i) k (fun _ _ _ => none) perm [] H H tm = some out) : (Code.region id ops true).wpIn (Fence.wide.inRound l) fu C.P Q a w := by
  refine wpIn_region_any hm (any_in l fu (fun i o ho c hc => ?_) hq _ _ _ _ (draw_orders hC hk (fun _ _ _ _ _ _ _ _ _ _ _ h => by cases h) hok hG st hf h))
  have := Array.all_eq_true'.1 hd o (Array.mem_of_getElem? ho)
  rw [hc] at this
  cases this
/-- The same act with more that is deferred. -/
def more (d : List Deferred) (a : Act) : Act := { a with defers := a.defers ++ d }
theorem more_put (d : List Deferred) (a : Act) (x : Option Tmp) (v : Value) : (more d a).put x v = more d (a.put x v) := by cases x <;> rfl
theorem op_more {P : Program} {o : Oper} {a : Act} {w : World} {K : Act → World → Prop} {Q : Exit → Act → World → Prop} (d : List Deferred) (h : o.wp P a w (fun a w => K (more d a) w) (fun e a w => Q e (more d a) w)) : o.wp P (more d a) w K Q := by
  unfold Oper.wp at *
  rw [show (more d a).eval = a.eval from rfl]
  generalize (execOp a.eval o).run P w = r at *
  cases r with
  | ok v w' =>
    cases v with
    | value v => have := h; simp only [Oper.upon] at this ⊢; rw [more_put]; exact this
    | skip => have := h; simp only [Oper.upon] at this ⊢; rw [more_put]; exact this
    | defer x => have := h; simp only [Oper.upon] at this ⊢; rw [← more_put] at this; exact this
    | enter f args =>
      refine Calls.mono (R := _) h fun e w2 he => ?_
      cases e with
      | returned v => show K ((more d a).put _ _) _; rw [more_put]; exact he
      | panicked c => exact he
      | outgrown => obtain ⟨a2, w3, h3⟩ := he; exact ⟨_, w3, h3⟩
    | row r args => refine Rows.mono h fun v w2 he => ?_; rw [more_put]; exact he
    | _ => exact h
  | halt e w' => cases e <;> exact h
theorem any_more {P : Program} {ops : Array Oper} {Q : Exit → Act → World → Prop} {md : Region.Mode} (d : List Deferred) : ∀ (fuel : Nat) (listed : Array Bool) (a : Act) (w : World), wpAny P md ops (fun e a w => Q e (more d a) w) fuel listed a w → wpAny P md ops Q fuel listed (more d a) w := by
  intro fuel
  induction fuel with
  | zero => exact fun _ _ _ h => h
  | succ fuel ih =>
    intro listed a w h
    refine ⟨h.1, fun i hi => ?_⟩
    have h2 := h.2 i hi
    unfold wpOp at h2 ⊢
    cases ho : ops[i]? with
    | none => rw [ho] at h2; exact ih _ _ _ h2
    | some o =>
      rw [ho] at h2
      simp only at h2 ⊢
      rw [show (more d a).tmps = a.tmps from rfl]
      split
      · rename_i hw
        rw [if_pos hw] at h2
        rcases h2 with h2 | ⟨h2, a2, w2, h3⟩
        · exact .inl (op_more d (Oper.wp_mono (fun a w h => ih _ a w h) h2))
        · exact .inr ⟨h2, _, w2, h3⟩
      · rename_i hw
        rw [if_neg hw] at h2
        rw [more_put]
        exact ih _ _ _ h2
/-- A drawn region, with something deferred. -/
theorem region_more {C : Cfg} (hC : CfgOk C) (hm : C.P.follows .mixedOrders = true) {fu n : Nat} {E0 : Env} {H0 : AHeap} {w0 : World} {out : Res × AHeap} {ops : Array Oper} {perm : List Nat} {k : List AVal → AHeap → Out} {Q : Exit → Act → World → Prop} {id : Nat} {E : Env} {tm : List AVal} {H : AHeap} {a : Act} {w : World} (d : List Deferred)
    (hk : KOk C n E0 H0 w0 out k (fun a w => Q .normal (more d a) w)) (hok : okDraw ops perm = true) (hG : GlobOk C.G E) (st : Step E0 H0 w0 E H w) (hf : FRel n E H tm a w)
    (h : evDraw C ops (fun i j => ((Region.before ops).getD j 0).testBit i) k (fun _ _ _ => none) perm [] H H tm = some out) : (Code.region id ops true).wpIn Fence.wide fu C.P Q (more d a) w :=
  wpIn_wide.2 (wp_region_any hm (any_more d _ _ _ _ (draw_orders (Q := fun e a w => Q e (more d a) w) hC hk (fun _ _ _ _ _ _ _ _ _ _ _ h => by cases h) hok hG st hf h)))
end Go.Gm
/- limb.Div: a range over slices.Backward; a round of it, by the machine. -/
namespace Go.Gm
open Go.RowKit Go.Proofs
set_option linter.unusedVariables false
set_option linter.unusedSimpArgs false
/-- A round of the division. -/
def divT (m : Nat) (s : List Nat × Nat) (i z : Nat) : List Nat × Nat := (s.1.set i ((s.2 * 4294967296 + z) / m), (s.2 * 4294967296 + z) % m)
/-- The quotients by their places, and what is left. -/
def divS (zf : Nat → Nat) {n : Nat} (m : Nat) (pre : List (Fin n)) : List Nat × Nat := pre.foldl (fun s x => divT m s x.1 (zf x.1)) (List.replicate n 0, 0)
theorem divS_snoc (zf : Nat → Nat) {n : Nat} (m : Nat) (pre : List (Fin n)) (x : Fin n) : divS zf m (pre ++ [x]) = divT m (divS zf m pre) x.1 (zf x.1) := by
  unfold divS
  rw [List.foldl_append]
  rfl
theorem divS_lt (zf : Nat → Nat) {n m : Nat} (hm : 0 < m) (pre : List (Fin n)) : (divS zf m pre).2 < m := by
  rcases List.eq_nil_or_concat pre with h | ⟨l, x, h⟩
  · rw [h]; exact hm
  · rw [h, List.concat_eq_append, divS_snoc]; exact Nat.mod_lt _ hm
theorem foldl_len {β : Type} {n : Nat} (f : List Nat × Nat → β → List Nat × Nat) (hf : ∀ s x, (f s x).1.length = s.1.length) : ∀ (l : List β) (s : List Nat × Nat), s.1.length = n → (l.foldl f s).1.length = n
  | [], _, h => h
  | x :: l, s, h => foldl_len f hf l _ ((hf s x).trans h)
theorem divS_len (zf : Nat → Nat) {n : Nat} (m : Nat) (pre : List (Fin n)) : (divS zf m pre).1.length = n := foldl_len _ (fun s x => by simp [divT]) pre _ (by simp)
def rowV (l : List Nat) : Array Value := (l.map fun (x : Nat) => Value.int .u32 (x : Int)).toArray
/-- What lies there while it divides. -/
structure DivI (A n m : Nat) (s : List Nat × Nat) (W : World) : Prop where
  len : s.1.length = n
  m : ∃ t, W.heap[A]? = some (.cells #[.int .u32 (m : Int)] t (0, 0))
  row : ∃ t, W.heap[A + 1]? = some (.cells (rowV s.1) t (0, 0))
  out : ∃ t, W.heap[A + 1 + 1]? = some (.cells #[.slice (some ⟨A + 1, 0, none⟩) n n] t (0, 0))
  left : ∃ t, W.heap[A + 1 + 1 + 1]? = some (.cells #[.int .u32 (s.2 : Int)] t (0, 0))
theorem heap_kept {W W' : World} {row : Option Nat} {b : Nat} {cs : Array Value} {t : TypeId} {fr : Nat × Nat} (h : W.heap[b]? = some (.cells cs t fr)) (hg : W.grownBy W' row) (hrow : ∀ r, row = some r → ∃ o : Obj, W.heap[r]? = some o ∧ o.isCells = false) : W'.heap[b]? = some (.cells cs t fr) := by
  rw [← h]
  exact grownBy_keeps_cells hg hrow h rfl
theorem DivI.own (A n m : Nat) (zf : Nat → Nat) (B : Nat) : OwnFrom B (fun (pre : List (Fin n)) W => DivI A n m (divS zf m pre) W) :=
  Own.from (fun _ _ _ _ hs hg hr => ⟨hs.len, hs.m.imp fun _ h => heap_kept h hg hr, hs.row.imp fun _ h => heap_kept h hg hr, hs.out.imp fun _ h => heap_kept h hg hr, hs.left.imp fun _ h => heap_kept h hg hr⟩) _
/-- Four blocks of one's own. -/
def env4 (E : Env) (A : Nat) : Env := ⟨fun id g => if g = 0 ∧ id < 4 then some (A + id) else none, fun _ _ => none, fun b o => if (FixT b).isSome ∧ b < A then E.I b o else none⟩
theorem sim4 {E : Env} {H : AHeap} {w W : World} {A : Nat} (hs : Sim E H w) (hA : w.heap.size = A) (hb : Below A w W) {c0 c1 c2 c3 : List AVal} {v0 v1 v2 v3 : Array Value} {t0 t1 t2 t3 : TypeId}
    (h0 : W.heap[A]? = some (.cells v0 t0 (0, 0))) (h1 : W.heap[A + 1]? = some (.cells v1 t1 (0, 0))) (h2 : W.heap[A + 1 + 1]? = some (.cells v2 t2 (0, 0))) (h3 : W.heap[A + 1 + 1 + 1]? = some (.cells v3 t3 (0, 0)))
    (r0 : VRels (env4 E A) c0 v0.toList) (r1 : VRels (env4 E A) c1 v1.toList) (r2 : VRels (env4 E A) c2 v2.toList) (r3 : VRels (env4 E A) c3 v3.toList) : Sim (env4 E A) [.cel 0 c0, .cel 0 c1, .cel 0 c2, .cel 0 c3] W := by
  have hI : ∀ b o, A ≤ b → (env4 E A).I b o = none := fun b o h => by simp only [env4]; rw [if_neg (by omega)]
  have hl : ∀ id b, loc (env4 E A) [.cel 0 c0, .cel 0 c1, .cel 0 c2, .cel 0 c3] id = some b → id < 4 ∧ b = A + id := by
    intro id b h
    match id, h with
    | 0, h => simp [loc, locB, env4] at h; omega
    | 1, h => simp [loc, locB, env4] at h; omega
    | 2, h => simp [loc, locB, env4] at h; omega
    | 3, h => simp [loc, locB, env4] at h; omega
    | id + 4, h => simp [loc] at h
  refine ⟨fun id B h => ?_, fun id g b h => ?_, fun id g b h => (by cases h), fun id B n h => ?_, fun id id' b h h' => ?_, fun b o v h => ?_, fun b cs h => ?_⟩
  · match id, h with
    | 0, h => simp at h; subst h; exact ⟨A, v0, t0, by simp [env4], h0, r0, fun o => hI _ _ (Nat.le_refl _)⟩
    | 1, h => simp at h; subst h; exact ⟨A + 1, v1, t1, by simp [env4], h1, r1, fun o => hI _ _ (by omega)⟩
    | 2, h => simp at h; subst h; exact ⟨A + 1 + 1, v2, t2, by simp [env4], h2, r2, fun o => hI _ _ (by omega)⟩
    | 3, h => simp at h; subst h; exact ⟨A + 1 + 1 + 1, v3, t3, by simp [env4], h3, r3, fun o => hI _ _ (by omega)⟩
    | id + 4, h => simp at h
  · simp only [env4] at h
    split at h
    · rename_i h'; simpa using h'.2
    · cases h
  · match id, h with
    | 0, h => simp at h; subst h; intro h; cases h
    | 1, h => simp at h; subst h; intro h; cases h
    | 2, h => simp at h; subst h; intro h; cases h
    | 3, h => simp at h; subst h; intro h; cases h
    | id + 4, h => simp at h
  · have := hl id b h
    have := hl id' b h'
    omega
  · simp only [env4] at h
    split at h
    · rename_i h'
      exact (hb.cell (p := ⟨b, o, none⟩) h'.2).trans (hs.imm b o v h)
    · cases h
  · obtain ⟨⟨t, fr, k1⟩, ⟨v, k2⟩, _⟩ := hs.fix b cs h
    have hlt : b < A := hA ▸ (Array.getElem?_eq_some_iff.1 k1).1
    refine ⟨⟨t, fr, (hb.block b hlt).trans k1⟩, ⟨v, ?_⟩, fun id hid => ?_⟩
    · simp only [env4]
      rw [if_pos ⟨by simp [h], hlt⟩]
      exact k2
    · have := hl id b hid
      omega
noncomputable def divBody (x3 x6 x7 x8 x9 : AVal) (k : List AVal → AHeap → Out) (H0 : AHeap) : Out :=
 bC (loadA false 1 x7 H0) (fun _ => True) fun x41 =>
 bC (loadA false 1 x3 H0) (fun _ => True) fun x42 =>
 bindN (Sh.math_bits_Div32 x41 x9 x42 H0) fun x43 H44 =>
 bC (loadA false 1 x6 H44) (fun x45 => loadA false 1 x6 H0 = some x45 ∧ True) fun x45 =>
 (extractA 0 x43).bind fun x46 =>
 (idxSl 1 x45 x8).bind fun x47 =>
 bindN (retH (storeA 1 x47 x46 H44)) fun _ H49 =>
 (extractA 1 x43).bind fun x50 =>
 bindN (retH (storeA 1 x7 x50 H49)) fun _ H52 =>
 k [.undef, .undef, .undef, x3, .undef, .undef, x6, x7, x8, x9, .undef, .undef, .undef, .undef, .undef, .undef, .undef, .undef, .undef, x43, x45, x8, x41, x9, x42, x43, x46, x50, x47, .undef, .undef, .undef] H52
theorem divBody_ok {n m i z : Nat} {s : List Nat × Nat} (k : List AVal → AHeap → Out) (hl : s.1.length = n) (hi : i < n) (hn : n < 9223372036854775807) (hs : s.2 < m) (hm : m < 4294967296) (hz : z < 4294967296) : ∃ tm,
    divBody (.ptr 0 0 0) (.ptr 2 0 0) (.ptr 3 0 0) (.int .i64 (i : Int)) (.int .u32 (z : Int)) k [.cel 0 [.int .u32 (m : Int)], .cel 0 (flat cU s.1), .cel 0 [.ms 1 0 0 n n 1 true], .cel 0 [.int .u32 (s.2 : Int)]] =
      k tm [.cel 0 [.int .u32 (m : Int)], .cel 0 (flat cU (divT m s i z).1), .cel 0 [.ms 1 0 0 n n 1 true], .cel 0 [.int .u32 ((divT m s i z).2 : Int)]] := by
  have hidx := idx_ms (sz := 1) (id := 1) (n := n) (K := .i64) (g := 0) (off := 0) (cap := n) (ex := true) (i := i) hi
  have hst := store_el (f := cU) (id := 1) (l := s.1) (i := i) (a := (s.2 * 4294967296 + z) / m) (v := .int .u32 (((s.2 * 4294967296 + z) / m : Nat) : Int)) (H := [.cel 0 [.int .u32 (m : Int)], .cel 0 (flat cU s.1), .cel 0 [.ms 1 0 0 n n 1 true], .cel 0 [.int .u32 (s.2 : Int)]]) rfl (by omega) rfl
  simp only [Nat.zero_add] at hidx
  unfold divBody
  rw [show loadA false 1 (.ptr 3 0 0) [Blk.cel 0 [AVal.int .u32 (m : Int)], .cel 0 (flat cU s.1), .cel 0 [.ms 1 0 0 n n 1 true], .cel 0 [.int .u32 (s.2 : Int)]] = some (.int .u32 (s.2 : Int)) from rfl,
    show loadA false 1 (.ptr 0 0 0) [Blk.cel 0 [AVal.int .u32 (m : Int)], .cel 0 (flat cU s.1), .cel 0 [.ms 1 0 0 n n 1 true], .cel 0 [.int .u32 (s.2 : Int)]] = some (.int .u32 (m : Int)) from rfl]
  simp only [bC_some, q_div32 _ _ _ _ hs hm hz, bindN_ret, show loadA false 1 (.ptr 2 0 0) [Blk.cel 0 [AVal.int .u32 (m : Int)], .cel 0 (flat cU s.1), .cel 0 [.ms 1 0 0 n n 1 true], .cel 0 [.int .u32 (s.2 : Int)]] = some (.ms 1 0 0 n n 1 true) from rfl, obind,
    show ∀ (x y : AVal), extractA 0 (.tup [x, y]) = some x from fun _ _ => rfl, show ∀ (x y : AVal), extractA 1 (.tup [x, y]) = some y from fun _ _ => rfl, hidx, hst]
  rw [bC_some (v := .ms 1 0 0 n n 1 true) ⟨rfl, trivial⟩, hidx, obind, hst]
  simp only [retH_some, bindN_ret]
  rw [show storeA 1 (.ptr 3 0 0) (.int .u32 (((s.2 * 4294967296 + z) % m : Nat) : Int)) (setC [Blk.cel 0 [AVal.int .u32 (m : Int)], .cel 0 (flat cU s.1), .cel 0 [.ms 1 0 0 n n 1 true], .cel 0 [.int .u32 (s.2 : Int)]] 1 0 (flat cU (s.1.set i ((s.2 * 4294967296 + z) / m)))) =
    some [Blk.cel 0 [AVal.int .u32 (m : Int)], .cel 0 (flat cU (s.1.set i ((s.2 * 4294967296 + z) / m))), .cel 0 [.ms 1 0 0 n n 1 true], .cel 0 [.int .u32 (((s.2 * 4294967296 + z) % m : Nat) : Int)]] from rfl]
  simp only [retH_some, bindN_ret]
  exact ⟨_, rfl⟩
/-- The room of what a row of cells says. -/
theorem rels_rowV {E : Env} : ∀ (l : List Nat), VRels E (flat cU l) (rowV l).toList
  | [] => VRels.nil _
  | x :: l => by
    have := rels_rowV (E := E) l
    simp only [rowV, List.map_cons, flat_cons]
    exact VRels.cons (.int _ _) (by simpa [rowV] using this)
theorem rels_one {E : Env} {x : AVal} {v : Value} (h : VRel E x v) : VRels E [x] #[v].toList := VRels.cons h (VRels.nil _)
theorem rowV_of {E : Env} : ∀ {l : List Nat} {vs : Array Value}, VRels E (flat cU l) vs.toList → vs = rowV l := by
  intro l vs h
  apply Array.ext'
  rw [rowV, List.toList_toArray]
  generalize vs.toList = us at h
  induction l generalizing us with
  | nil => have := h.1; simpa using this.symm
  | cons x l ih =>
    match us, h with
    | u :: us, h =>
      rw [flat_cons] at h
      have h1 : VRel E (.int .u32 (x : Int)) u := h.head
      have h2 : VRels E (flat cU l) us := h.tail
      cases h1
      rw [List.map_cons, ih us h2]
    | [], h => exact absurd h.1 (by simp [flat_cons])
theorem one_of {E : Env} {x : AVal} {vs : Array Value} (h : VRels E [x] vs.toList) : ∃ v, vs = #[v] ∧ VRel E x v := args1 h
/-- Out of the four blocks, as the machine has them, what lies there. -/
theorem divI_of {E E' : Env} {A n m : Nat} {s : List Nat × Nat} {W : World} (hl : s.1.length = n) (hn : 0 < n) (hle : (env4 E A).le E') (h : Sim E' [.cel 0 [.int .u32 (m : Int)], .cel 0 (flat cU s.1), .cel 0 [.ms 1 0 0 n n 1 true], .cel 0 [.int .u32 (s.2 : Int)]] W) : DivI A n m s W := by
  have f : ∀ id, id < 4 → E'.φ id 0 = some (A + id) := fun id hid => hle.φ _ _ _ (by simp [env4, hid])
  obtain ⟨b0, v0, t0, p0, q0, r0, _⟩ := h.blk 0 _ rfl
  obtain ⟨b1, v1, t1, p1, q1, r1, _⟩ := h.blk 1 _ rfl
  obtain ⟨b2, v2, t2, p2, q2, r2, _⟩ := h.blk 2 _ rfl
  obtain ⟨b3, v3, t3, p3, q3, r3, _⟩ := h.blk 3 _ rfl
  rw [f 0 (by omega)] at p0
  rw [f 1 (by omega)] at p1
  rw [f 2 (by omega)] at p2
  rw [f 3 (by omega)] at p3
  cases p0
  cases p1
  cases p2
  cases p3
  obtain ⟨u0, rfl, k0⟩ := one_of r0
  obtain ⟨u2, rfl, k2⟩ := one_of r2
  obtain ⟨u3, rfl, k3⟩ := one_of r3
  cases k0
  cases k3
  refine ⟨hl, ⟨t0, q0⟩, ⟨t1, by rw [q1, rowV_of r1]⟩, ⟨t2, ?_⟩, ⟨t3, q3⟩⟩
  cases k2 with
  | ms g1 g2 g3 g4 g5 g6 =>
    rw [f 1 (by omega)] at g1
    cases g1
    have e1 := g4 rfl
    subst e1
    have e2 := g5 (by omega)
    subst e2
    exact q2
end Go.Gm
/- limb.Div: what it lays, round by round, and what it hands back. -/
namespace Go.Gm
open Go.RowKit Go.Proofs Go.Shelf
attribute [local go_sem] Oper.semAt_some
set_option linter.unusedVariables false
set_option linter.unusedSimpArgs false
theorem body_in {E : Env} {H : AHeap} {w W : World} {A len m : Nat} {zf : Nat → Nat} {l fu : Nat} {id1 : Nat} (hs : Sim E H w) (hA : w.heap.size = A) (hm2 : m < 4294967296) (hzf : ∀ j, zf j < 4294967296) (hm : 0 < m) (hlen : len ≤ 1099511627776)
    (pre : List (Fin len)) (x : Fin len) (hI : DivI A len m (divS zf m pre) W) (hB : Below A w W) {Q : Exit → Act → World → Prop} (hq : ¬ LetsOut Q) {a : Act}
    (ha : VRels (env4 E A) [.undef, .undef, .undef, .ptr 0 0 0, .undef, .undef, .ptr 2 0 0, .ptr 3 0 0, .int .i64 (x.1 : Int), .int .u32 (zf x.1 : Int), .undef, .undef, .undef, .undef, .undef, .undef, .undef, .undef, .undef, .undef, .undef, .undef, .undef, .undef, .undef, .undef, .undef, .undef, .undef, .undef, .undef, .undef] a.tmps.toList) (had : a.defers = [])
    (hQ : ∀ a' W', DivI A len m (divS zf m (pre ++ [x])) W' → (∀ b o, W.heap[b]? = some o → b ≠ A → b ≠ A + 1 → b ≠ A + 1 + 1 → b ≠ A + 1 + 1 + 1 → W'.heap[b]? = some o) → W.heap.size ≤ W'.heap.size → W'.os = W.os → W'.tape = W.tape → W'.output = W.output → Q .normal a' W')
    {ops : Array Oper} (h1 : (ops.all fun o => match o.op with | .defer _ => false | _ => true) = true) (h2 : okDraw ops [2, 3, 4, 5, 0, 1, 6, 7, 9, 10, 8, 11] = true)
    (h3 : ∀ (k : List AVal → AHeap → Out) (x3 x6 x7 x8 x9 : AVal) (H : AHeap), evDraw (mkC Tryd.prog Gs false (ent 42 (ap3 Sh.math_bits_Div32) noO)) ops (fun i j => ((Region.before ops).getD j 0).testBit i) k (fun _ _ _ => none) [2, 3, 4, 5, 0, 1, 6, 7, 9, 10, 8, 11] [] H H
      [.undef, .undef, .undef, x3, .undef, .undef, x6, x7, x8, x9, .undef, .undef, .undef, .undef, .undef, .undef, .undef, .undef, .undef, .undef, .undef, .undef, .undef, .undef, .undef, .undef, .undef, .undef, .undef, .undef, .undef, .undef] = divBody x3 x6 x7 x8 x9 k H) :
    (Code.region id1 ops true).wpIn (Fence.wide.inRound l) fu Tryd.prog Q a W := by
  obtain ⟨t0, q0⟩ := hI.m
  obtain ⟨t1, q1⟩ := hI.row
  obtain ⟨t2, q2⟩ := hI.out
  obtain ⟨t3, q3⟩ := hI.left
  have hS := sim4 hs hA hB q0 q1 q2 q3 (rels_one (.int .u32 (m : Int))) (rels_rowV (divS zf m pre).1) (rels_one (x := .ms 1 0 0 len len 1 true) (VRel.ms (by simp [env4]) (Nat.le_refl _) (Nat.le_refl _) (fun _ => rfl) (fun _ => rfl) (fun h => by cases h))) (rels_one (.int .u32 ((divS zf m pre).2 : Int)))
  have hlt := divS_lt zf hm pre
  obtain ⟨tm, htm⟩ := divBody_ok (z := zf x.1) (fun _ H => some (.ret .undef, H)) hI.len x.2 (by omega) hlt hm2 (hzf x.1)
  rw [← divS_snoc] at htm
  have hlo : ∀ b, Owned (env4 E A) [Blk.cel 0 [.int .u32 (m : Int)], .cel 0 (flat cU (divS zf m pre).1), .cel 0 [.ms 1 0 0 len len 1 true], .cel 0 [.int .u32 ((divS zf m pre).2 : Int)]] b → b = A ∨ b = A + 1 ∨ b = A + 1 + 1 ∨ b = A + 1 + 1 + 1 := by
    rintro b ⟨id, h⟩
    match id, h with
    | 0, h => simp [loc, locB, env4] at h; omega
    | 1, h => simp [loc, locB, env4] at h; omega
    | 2, h => simp [loc, locB, env4] at h; omega
    | 3, h => simp [loc, locB, env4] at h; omega
    | id + 4, h => simp [loc] at h
  refine region_in (C := mkC Tryd.prog Gs false (ent 42 (ap3 Sh.math_bits_Div32) noO)) (mk_ok (orc_ent call_math_bits_Div32 (orc_no _ _))) mixed h1 hq ?_ h2 (fun _ _ h => nomatch h) (Step.refl _ _ _) ⟨ha, rfl, had, hS⟩ ((h3 (fun _ H => some (.ret .undef, H)) _ _ _ _ _ _).trans htm)
  intro E' tm' H' a' W' _ st hf hout
  simp only [Option.some.injEq, Prod.mk.injEq, true_and] at hout
  have hS' := hf.sim
  rw [hout] at hS'
  refine hQ a' W' (divI_of (divS_len _ _ _) (by have := x.2; omega) st.le hS') (fun b o hb n0 n1 n2 n3 => ?_) st.size st.os st.tape st.output
  rw [st.frame b (Array.getElem?_eq_some_iff.1 hb).1 (fun ho => by rcases hlo b ho with h | h | h | h <;> contradiction)]
  exact hb
noncomputable def divTail (x6 x7 : AVal) (k : List AVal → AHeap → Out) (H0 : AHeap) : Out :=
 bC (loadA false 1 x6 H0) (fun _ => True) fun x41 =>
 bindN (Sh.limb_cut x41 H0) fun x42 H43 =>
 bC (loadA false 1 x7 H43) (fun x44 => loadA false 1 x7 H0 = some x44 ∧ True) fun x44 =>
 k [.undef, .undef, .undef, .undef, x42, x44, x6, x7, .undef, .undef, .undef, .undef, .undef, .undef, .undef, .undef, .undef, .undef, .undef, .undef, .undef, .undef, .undef, .undef, .undef, .undef, .undef, .undef, .undef, x41, x42, x44] H43
theorem divTail_ok {n m r : Nat} {l : List Nat} (k : List AVal → AHeap → Out) (hl : l.length = n) (hn : n < 1152921504606846976) : ∃ tm, tm[4]? = some (.ms 1 0 0 (topK l n) n 1 true) ∧ tm[5]? = some (.int .u32 (r : Int)) ∧ tm.length = 32 ∧
    divTail (.ptr 2 0 0) (.ptr 3 0 0) k [.cel 0 [.int .u32 (m : Int)], .cel 0 (flat cU l), .cel 0 [.ms 1 0 0 n n 1 true], .cel 0 [.int .u32 (r : Int)]] =
      k tm [.cel 0 [.int .u32 (m : Int)], .cel 0 (flat cU l), .cel 0 [.ms 1 0 0 n n 1 true], .cel 0 [.int .u32 (r : Int)]] := by
  subst hl
  have hc := q_cut (l := l) (H := [.cel 0 [.int .u32 (m : Int)], .cel 0 (flat cU l), .cel 0 [.ms 1 0 0 l.length l.length 1 true], .cel 0 [.int .u32 (r : Int)]]) (id := 1) rfl hn
  refine ⟨[.undef, .undef, .undef, .undef, .ms 1 0 0 (topK l l.length) l.length 1 true, .int .u32 (r : Int), .ptr 2 0 0, .ptr 3 0 0, .undef, .undef, .undef, .undef, .undef, .undef, .undef, .undef, .undef, .undef, .undef, .undef, .undef, .undef, .undef, .undef, .undef, .undef, .undef, .undef, .undef, .ms 1 0 0 l.length l.length 1 true, .ms 1 0 0 (topK l l.length) l.length 1 true, .int .u32 (r : Int)], rfl, rfl, rfl, ?_⟩
  · unfold divTail
    rw [show loadA false 1 (.ptr 2 0 0) [Blk.cel 0 [AVal.int .u32 (m : Int)], .cel 0 (flat cU l), .cel 0 [.ms 1 0 0 l.length l.length 1 true], .cel 0 [.int .u32 (r : Int)]] = some (.ms 1 0 0 l.length l.length 1 true) from rfl]
    rw [bC_some trivial, hc, bindN_ret]
    rw [show loadA false 1 (.ptr 3 0 0) [Blk.cel 0 [AVal.int .u32 (m : Int)], .cel 0 (flat cU l), .cel 0 [.ms 1 0 0 l.length l.length 1 true], .cel 0 [.int .u32 (r : Int)]] = some (.int .u32 (r : Int)) from rfl]
    rw [bC_some ⟨rfl, trivial⟩]
theorem tail_in {E : Env} {H : AHeap} {w W : World} {A len m : Nat} {s : List Nat × Nat} {fu : Nat} {id1 : Nat} (hs : Sim E H w) (hA : w.heap.size = A) (hpos : 0 < len) (hlen : len ≤ 1099511627776)
    (hI : DivI A len m s W) (hB : Below A w W) {Q : Exit → Act → World → Prop} {a : Act} (d : List Deferred)
    (ha : VRels (env4 E A) [.undef, .undef, .undef, .undef, .undef, .undef, .ptr 2 0 0, .ptr 3 0 0, .undef, .undef, .undef, .undef, .undef, .undef, .undef, .undef, .undef, .undef, .undef, .undef, .undef, .undef, .undef, .undef, .undef, .undef, .undef, .undef, .undef, .undef, .undef, .undef] a.tmps.toList) (had : a.defers = [])
    (hQ : ∀ (a' : Act) W' , DivI A len m s W' → a'.tmps[4]? = some (.slice (some ⟨A + 1, 0, none⟩) (topK s.1 len) len) → a'.tmps[5]? = some (.int .u32 (s.2 : Int)) → a'.defers = [] → (∀ b o, W.heap[b]? = some o → b ≠ A → b ≠ A + 1 → b ≠ A + 1 + 1 → b ≠ A + 1 + 1 + 1 → W'.heap[b]? = some o) → W.heap.size ≤ W'.heap.size → W'.os = W.os → W'.tape = W.tape → W'.output = W.output → Q .normal (more d a') W')
    {ops : Array Oper} (h2 : okDraw ops [0, 1, 2, 3, 4] = true)
    (h3 : ∀ (k : List AVal → AHeap → Out) (x6 x7 : AVal) (H : AHeap), evDraw (mkC Tryd.prog Gs false (ent 39 (ap1 Sh.limb_cut) noO)) ops (fun i j => ((Region.before ops).getD j 0).testBit i) k (fun _ _ _ => none) [0, 1, 2, 3, 4] [] H H
      [.undef, .undef, .undef, .undef, .undef, .undef, x6, x7, .undef, .undef, .undef, .undef, .undef, .undef, .undef, .undef, .undef, .undef, .undef, .undef, .undef, .undef, .undef, .undef, .undef, .undef, .undef, .undef, .undef, .undef, .undef, .undef] = divTail x6 x7 k H) :
    (Code.region id1 ops true).wpIn Fence.wide fu Tryd.prog Q (more d a) W := by
  obtain ⟨t0, q0⟩ := hI.m
  obtain ⟨t1, q1⟩ := hI.row
  obtain ⟨t2, q2⟩ := hI.out
  obtain ⟨t3, q3⟩ := hI.left
  have hS := sim4 hs hA hB q0 q1 q2 q3 (rels_one (.int .u32 (m : Int))) (rels_rowV s.1) (rels_one (x := .ms 1 0 0 len len 1 true) (VRel.ms (by simp [env4]) (Nat.le_refl _) (Nat.le_refl _) (fun _ => rfl) (fun _ => rfl) (fun h => by cases h))) (rels_one (.int .u32 (s.2 : Int)))
  obtain ⟨tm, hm4, hm5, hml, htm⟩ := divTail_ok (m := m) (r := s.2) (fun tm H => some (.ret (.tup tm), H)) hI.len (by omega)
  have hlo : ∀ b, Owned (env4 E A) [Blk.cel 0 [.int .u32 (m : Int)], .cel 0 (flat cU s.1), .cel 0 [.ms 1 0 0 len len 1 true], .cel 0 [.int .u32 (s.2 : Int)]] b → b = A ∨ b = A + 1 ∨ b = A + 1 + 1 ∨ b = A + 1 + 1 + 1 := by
    rintro b ⟨id, h⟩
    match id, h with
    | 0, h => simp [loc, locB, env4] at h; omega
    | 1, h => simp [loc, locB, env4] at h; omega
    | 2, h => simp [loc, locB, env4] at h; omega
    | 3, h => simp [loc, locB, env4] at h; omega
    | id + 4, h => simp [loc] at h
  refine region_more (C := mkC Tryd.prog Gs false (ent 39 (ap1 Sh.limb_cut) noO)) (mk_ok (orc_ent call_limb_cut (orc_no _ _))) mixed d ?_ h2 (fun _ _ h => nomatch h) (Step.refl _ _ _) ⟨ha, rfl, had, hS⟩ ((h3 (fun tm H => some (.ret (.tup tm), H)) _ _ _).trans htm)
  intro E' tm' H' a' W' _ st hf hout
  simp only [Option.some.injEq, Prod.mk.injEq, Res.ret.injEq, AVal.tup.injEq] at hout
  obtain ⟨e1, e2⟩ := hout
  subst e1
  have hS' := hf.sim
  rw [e2] at hS'
  obtain ⟨v4, g4, r4⟩ := hf.rel.get hm4
  obtain ⟨v5, g5, r5⟩ := hf.rel.get hm5
  have e5 := val_int r5
  have hfr : ∀ b o, W.heap[b]? = some o → b ≠ A → b ≠ A + 1 → b ≠ A + 1 + 1 → b ≠ A + 1 + 1 + 1 → W'.heap[b]? = some o := fun b o hb n0 n1 n2 n3 => by
    rw [st.frame b (Array.getElem?_eq_some_iff.1 hb).1 (fun ho => by rcases hlo b ho with h | h | h | h <;> contradiction)]
    exact hb
  have hD := divI_of hI.len hpos st.le hS'
  rw [e5] at g5
  cases r4 with
  | ms p1 p2 p3 p4 p5 p6 =>
    rw [st.le.φ 1 0 (A + 1) (by simp [env4])] at p1
    cases p1
    have e1 := p4 rfl
    subst e1
    have e2 := p5 (by omega)
    subst e2
    exact hQ a' W' hD (by simpa using g4) (by simpa using g5) hf.defers hfr st.size st.os st.tape st.output
theorem heap5 {w : World} {A : Nat} (hA : w.heap.size = A) (o0 o1 o2 o3 o4 : Obj) {W : World} (hW : ((((w.alloc o0).alloc o1).alloc o2).alloc o3).alloc o4 = W) :
    W.heap[A]? = some o0 ∧ W.heap[A + 1]? = some o1 ∧ W.heap[A + 1 + 1]? = some o2 ∧ W.heap[A + 1 + 1 + 1]? = some o3 ∧ W.heap[A + 1 + 1 + 1 + 1]? = some o4 ∧ W.heap.size = A + 5 ∧ Below A w W := by
  have s1 : (w.alloc o0).heap.size = A + 1 := by rw [World.size_alloc, hA]
  have s2 : ((w.alloc o0).alloc o1).heap.size = A + 1 + 1 := by rw [World.size_alloc, s1]
  have s3 : (((w.alloc o0).alloc o1).alloc o2).heap.size = A + 1 + 1 + 1 := by rw [World.size_alloc, s2]
  have s4 : ((((w.alloc o0).alloc o1).alloc o2).alloc o3).heap.size = A + 1 + 1 + 1 + 1 := by rw [World.size_alloc, s3]
  have n0 := World.heap_new w o0
  have n1 := World.heap_new (w.alloc o0) o1
  have n2 := World.heap_new ((w.alloc o0).alloc o1) o2
  have n3 := World.heap_new (((w.alloc o0).alloc o1).alloc o2) o3
  have n4 := World.heap_new ((((w.alloc o0).alloc o1).alloc o2).alloc o3) o4
  rw [hA] at n0
  rw [s1] at n1
  rw [s2] at n2
  rw [s3] at n3
  rw [s4] at n4
  subst hW
  refine ⟨?_, ?_, ?_, ?_, n4, by rw [World.size_alloc, s4], ?_⟩
  · rw [World.heap_old _ _ (by omega), World.heap_old _ _ (by omega), World.heap_old _ _ (by omega), World.heap_old _ _ (by omega)]; exact n0
  · rw [World.heap_old _ _ (by omega), World.heap_old _ _ (by omega), World.heap_old _ _ (by omega)]; exact n1
  · rw [World.heap_old _ _ (by omega), World.heap_old _ _ (by omega)]; exact n2
  · rw [World.heap_old _ _ (by omega)]; exact n3
  · exact Below.alloc (Below.alloc (Below.alloc (Below.alloc (Below.alloc (Below.refl _ _) (by omega) _) (by omega) _) (by omega) _) (by omega) _) (by omega) _
theorem rels_undef {E : Env} {xs : List AVal} {vs : List Value} (v : Value) (h : VRels E xs vs) : VRels E (.undef :: xs) (v :: vs) := VRels.cons (.undef _) h
set_option maxRecDepth 100000 in
set_option maxHeartbeats 1000000 in
theorem div_in {E : Env} {H : AHeap} {w : World} {n : Nat} (hn : 3 ≤ n) (hs : Sim E H w) (b off len cap : Nat) (zf : Nat → Nat) (m : Nat) (hm : 0 < m) (hm2 : m < 4294967296) (hreach : len ≤ 1099511627776)
   (hz : ∀ j, j < len → w.cell? ⟨b, off + j, none⟩ = some (.int .u32 (zf j : Int))) (hb : b < w.heap.size) (hzf : ∀ j, zf j < 4294967296) (hpos : 0 < len) :
    CallsIn Fence.wide n Tryd.prog 25 #[.slice (some ⟨b, off, none⟩) len cap, .int .u32 m] w fun e W' => e = .returned (.tuple #[.slice (some ⟨w.heap.size + 1, 0, none⟩) (topK (divS zf m (backF len len)).1 len) len, .int .u32 ((divS zf m (backF len len)).2 : Int)]) ∧
      (∃ t, W'.heap[w.heap.size + 1]? = some (.cells (rowV (divS zf m (backF len len)).1) t (0, 0))) ∧ Below w.heap.size w W' := by
  have h1 : 1 ≤ n := by omega
  have hro : Fence.wide.round = none := rfl
  have h41 : Fence.wide.fn 41 := trivial
  have h39 : Fence.wide.fn 39 := trivial
  refine callsIn_of_wp_marks Tryd.func25 rfl trivial ?_ hro
  simp only [Tryd.ntmps25, List.size_toArray, List.length_cons, List.length_nil, Nat.reduceAdd, Nat.reduceSub, Array.replicate_succ, Array.replicate_zero, List.push_toArray, List.append_toArray, List.nil_append, List.cons_append]
  have hm0 : ¬ ((m : Int) = 0) := by omega
  gi_wp2
  rw [run_make _ 22 46 Tryd.t46 (.int .u32 0) Tryd.underlying22 (by kernel_rfl) (by kernel_rfl) .i64 .i64 len len (by omega) (Int.le_refl _) (by show ((4 : Nat) : Int) * _ ≤ _; omega) (by omega)]
  have hcs : madeCells (Value.int .u32 0).cells ((len : Int).toNat * Tryd.t46.size) = rowV (List.replicate len 0) := by
    rw [show Tryd.t46.size = 1 by kernel_rfl]
    apply Array.ext'
    rw [show (Value.int .u32 0).cells = #[Value.int .u32 0] from rfl, toList_madeCells_one]
    simp [rowV]
  rw [hcs]
  clear hcs
  generalize hrw : rowV (List.replicate len 0) = cs
  gi_wp2_with (gi_at_call 41; refine (Tryd.back_in Fence.wide (n - 1) trivial hro _ _ _ _).mono ?_; rintro e w' ⟨rfl, rfl⟩)
  subst hrw
  generalize hA : w.heap.size = A at *
  obtain ⟨W0, hW0⟩ : ∃ W0, (((((w.alloc (Obj.cells #[Value.int IntKind.u32 ↑m] 46)).alloc (Obj.cells (rowV (List.replicate len 0)) 46)).alloc
              (Obj.cells #[Value.slice (some { block := A + 1, off := 0 }) len len] 22)).alloc
          (Obj.cells #[Value.int IntKind.u32 0] 46)).alloc
      (Obj.cells #[Value.slice (some { block := b, off := off }) len cap] 22)) = W0 := ⟨_, rfl⟩
  rw [hW0]
  obtain ⟨p0, p1, p2, p3, p4, hsz, hB0⟩ := heap5 hA _ _ _ _ _ hW0
  have hI0 : DivI A len m (divS zf m ([] : List (Fin len))) W0 := ⟨by simp [divS], ⟨_, p0⟩, ⟨_, p1⟩, ⟨_, p2⟩, ⟨_, p3⟩⟩
  have hbx : W0.cell? ⟨A + 1 + 1 + 1 + 1, 0, none⟩ = some (.slice (some ⟨b, off, none⟩) len cap) := by
    rw [cell_of_cells p4]
    rfl
  refine wpIn_rangeFunc_ownG hro h1 (gf := 60) (lb := #[.pointer (some ⟨A + 1 + 1 + 1 + 1, 0, none⟩)]) rfl trivial (enters_of Tryd.func60 (by kernel_rfl) rfl)
    (Tryd.back_stops Fence.wide (n - 1) trivial hro (by omega) (A + 1 + 1 + 1 + 1) A b off len cap zf hreach W0 (by omega) hb (by omega) hbx (fun j hj => (hB0.cell (p := ⟨b, off + j, none⟩) hb).trans (hz j hj)))
    (fun h k => h.trans k) (fun W l o o' hl ho h1 h2 => ⟨belowK_b (by omega) W l o o' hl ho h1 h2, ?hKb⟩) (Below.refl _ _) (fun _ => rfl)
    (fun pre W => DivI A len m (divS zf m pre) W ∧ Below A w W ∧ A + 5 ≤ W.heap.size)
    (fun _ _ _ => False)
    (OwnFrom.and (DivI.own _ _ _ _ _) (OwnFrom.and (ownFrom_below (by omega) (by omega)) (fun _ _ _ _ h hg _ => Nat.le_trans h hg.size)))
    (fun _ _ _ _ _ hs _ _ => hs)
    ⟨hI0, hB0, by omega⟩
    (fun x => { tmps := #[.slice (some ⟨b, off, none⟩) len cap, .int .u32 m, undef, .pointer (some ⟨A, 0, none⟩), .slice none 0 0, .int .u32 0, .pointer (some ⟨A + 1 + 1, 0, none⟩), .pointer (some ⟨A + 1 + 1 + 1, 0, none⟩), .int .i64 (x.1 : Int), .int .u32 (zf x.1 : Int), .int .u32 m, .bool false, .slice (some ⟨b, off, none⟩) len cap, .int .i64 (len : Int), .slice (some ⟨A + 1, 0, none⟩) len len, .slice (some ⟨b, off, none⟩) len cap, .func (.func 60) #[] #[.pointer (some ⟨A + 1 + 1 + 1 + 1, 0, none⟩)], .int .i64 (x.1 : Int), .int .u32 (zf x.1 : Int), undef, undef, undef, undef, undef, undef, undef, undef, undef, undef, undef, undef, undef], defers := [] }) ?assign ?body ?done ?stop
  case hKb =>
    have hcB : ∀ (U V : World), V.heap[A + 1 + 1 + 1 + 1]? = U.heap[A + 1 + 1 + 1 + 1]? → V.cell? ⟨A + 1 + 1 + 1 + 1, 0, none⟩ = U.cell? ⟨A + 1 + 1 + 1 + 1, 0, none⟩ := fun U V h => World.cell?_of_block h
    exact hcB _ _ (World.putObj_heap_other (by omega))
  case assign =>
    intro l x W K hK
    gi_wp2
    exact hK
  case body =>
    rintro l pre x W ⟨hI, hB, h5⟩ _
    refine wpIn_block ?_
    refine body_in hs hA hm2 hzf hm hreach pre x hI hB (fun ⟨a, w, h⟩ => h) ?_ rfl ?_ (by kernel_rfl) (by kernel_rfl) (fun k x3 x6 x7 x8 x9 H => by rw [draw_eq]; kernel_rfl)
    · repeat first
        | exact VRels.nil _
        | refine rels_undef _ ?_
        | refine VRels.cons (.int _ _) ?_
        | refine VRels.cons (VRel.ptr (by simp [env4])) ?_
    · intro a' W' hI' hk hsz' h2 h3 h4
      have hbw : Below A W W' := by
        refine ⟨h2, h3, h4, hsz', fun k hk' => ?_⟩
        have hlt : k < W.heap.size := by have := hB.size; omega
        rw [Array.getElem?_eq_getElem hlt]
        exact hk k _ (Array.getElem?_eq_getElem hlt) (by omega) (by omega) (by omega) (by omega)
      refine ⟨⟨hsz', fun k o hkB ho hc => hk k o ho (by omega) (by omega) (by omega) (by omega)⟩, ⟨hbw, ?_⟩, hI', hB.trans hbw, by omega⟩
      have hlt : A + 1 + 1 + 1 + 1 < W.heap.size := by omega
      have hx : W'.heap[A + 1 + 1 + 1 + 1]? = W.heap[A + 1 + 1 + 1 + 1]? := by
        rw [Array.getElem?_eq_getElem hlt]
        exact hk _ _ (Array.getElem?_eq_getElem hlt) (by omega) (by omega) (by omega) (by omega)
      exact World.cell?_of_block (a := ⟨A + 1 + 1 + 1 + 1, 0, none⟩) hx
  case done =>
    rintro D ys W hD rfl ⟨hI, hB, h5⟩ hK
    obtain ⟨t1, q1⟩ := hI.row
    obtain ⟨t2, q2⟩ := hI.out
    obtain ⟨t3, q3⟩ := hI.left
    gi_wp2
    refine tail_in (A := A) (m := m) (s := divS zf m (backF len len)) hs hA hpos hreach hI hB [{ target := .collected D, args := #[] }]
      (a := { tmps := #[.slice (some ⟨b, off, none⟩) len cap, .int .u32 m, undef, .pointer (some ⟨A, 0, none⟩), .slice none 0 0, .int .u32 0, .pointer (some ⟨A + 1 + 1, 0, none⟩), .pointer (some ⟨A + 1 + 1 + 1, 0, none⟩), undef, undef, .int .u32 m, .bool false, .slice (some ⟨b, off, none⟩) len cap, .int .i64 (len : Int), .slice (some ⟨A + 1, 0, none⟩) len len, .slice (some ⟨b, off, none⟩) len cap, .func (.func 60) #[] #[.pointer (some ⟨A + 1 + 1 + 1 + 1, 0, none⟩)], undef, undef, undef, undef, undef, undef, undef, undef, undef, undef, undef, undef, undef, undef, undef], defers := [] }) ?_ rfl ?_ (by kernel_rfl) (fun k x6 x7 H => by rw [draw_eq]; kernel_rfl)
    · repeat first
        | exact VRels.nil _
        | refine rels_undef _ ?_
        | refine VRels.cons (VRel.ptr (by simp [env4])) ?_
    · intro a' W' hD' g4 g5 hd' hk hsz' h2 h3 h4
      gi_wp2
      have hK' : W'.heap[D]? = some (Obj.deferred (some [])) := hk D _ hK (by omega) (by omega) (by omega) (by omega)
      have hbw : Below A W W' := by
        refine ⟨h2, h3, h4, hsz', fun k hk' => ?_⟩
        have hlt : k < W.heap.size := by omega
        rw [Array.getElem?_eq_getElem hlt]
        exact hk k _ (Array.getElem?_eq_getElem hlt) (by omega) (by omega) (by omega) (by omega)
      show LeavesInM _ _ _ _ a'.tmps _ (a'.defers ++ _) _ _
      rw [hd']
      refine ⟨by simp, .inl ⟨_, _, rfl, run_takeDeferred hK', ?_⟩⟩
      rw [hA]
      refine ⟨_, results_tmp2 rfl _ _ _, ?_, ?_, ?_⟩
      · rw [Array.getD_eq_getD_getElem?, Array.getD_eq_getD_getElem?, g4, g5]; rfl
      · obtain ⟨t, hq⟩ := hD'.row
        exact ⟨t, (World.putObj_heap_other (by omega)).trans hq⟩
      · exact hB.trans (hbw.trans (belowK_b (w := w) (by omega) W' D _ _ (by omega) hK' rfl rfl))
  case stop =>
    rintro D c pre W _ _ h _
    exact h.elim
end Go.Gm
/- What limb.Div's form comes to. -/
namespace Go.Gm
set_option linter.unusedVariables false
theorem enL_inj {l l' : List Nat} (h : enL cU l = enL cU l') : l = l' := by
  unfold enL at h
  induction l generalizing l' with
  | nil => cases l' with
    | nil => rfl
    | cons y r => simp at h
  | cons x l ih =>
    cases l' with
    | nil => simp at h
    | cons y r =>
      simp only [List.map_cons, List.cons.injEq, AVal.int.injEq, true_and, and_true] at h
      rw [ih h.2]
      congr 1
      omega
theorem div_form {l : List Nat} {tk : Tok} {n : Nat} (H : AHeap) (hx : Lim l) (hl : l.length ≤ 1099511627776) (h0 : l ≠ []) (hn : 0 < n) (hn2 : n < 4294967296) :
    Sh.limb_Div (.sl (enL cU l) tk) (.int .u32 (n : Int)) H = some (.ret (.tup [.sl (enL cU (lims (val l / n))) .no, .int .u32 ((val l % n : Nat) : Int)]), H) := by
  have hex : ∃ l', enL cU l = enL cU l' ∧ Lim l' ∧ l'.length ≤ 1099511627776 ∧ l' ≠ [] ∧ 0 < (n : Int) ∧ (n : Int) < 4294967296 := ⟨l, rfl, hx, hl, h0, by omega, by omega⟩
  have hc : hex.choose = l := (enL_inj hex.choose_spec.1).symm
  unfold Sh.limb_Div
  simp only []
  rw [dif_pos hex, hc]
  rfl
end Go.Gm
/- limb.Div comes to its form. -/
namespace Go.Gm
open Go.RowKit Go.Proofs
set_option linter.unusedVariables false
theorem vcons (a : Nat) (l : List Nat) : val (a :: l) = a + 4294967296 * val l := rfl
theorem dstep {m a v : Nat} (hm : 0 < m) : (a + 4294967296 * v) / m = (v % m * 4294967296 + a) / m + 4294967296 * (v / m) ∧ (a + 4294967296 * v) % m = (v % m * 4294967296 + a) % m := by
  have h := Nat.div_add_mod v m
  have e : a + 4294967296 * v = (v % m * 4294967296 + a) + m * (4294967296 * (v / m)) := by
    conv => lhs; rw [← h]
    rw [Nat.mul_add, Nat.mul_left_comm]
    omega
  rw [e, Nat.add_mul_div_left _ _ hm, Nat.add_mul_mod_self_left]
  exact ⟨rfl, rfl⟩
theorem divS_back {l : List Nat} {m : Nat} (hm : 0 < m) : ∀ k, k ≤ l.length →
    (divS (fun j => l[j]?.getD 0) m (backF l.length k)).2 = val (l.drop (l.length - k)) % m ∧
    ∀ j (h : j < l.length), l.length - k ≤ j → (divS (fun j => l[j]?.getD 0) m (backF l.length k)).1[j]? = some ((val (l.drop (j + 1)) % m * 4294967296 + l[j]) / m)
  | 0, _ => by
    refine ⟨?_, fun j h h2 => by omega⟩
    rw [backF_zero, Nat.sub_zero, List.drop_length]
    simp [divS, val]
  | k + 1, hk => by
    obtain ⟨h1, h2⟩ := divS_back (l := l) hm k (by omega)
    have hlt : l.length - 1 - k < l.length := by omega
    have hlen := divS_len (fun j => l[j]?.getD 0) m (backF l.length k)
    rw [backF_succ (by omega), divS_snoc]
    have hg : l[l.length - 1 - k]?.getD 0 = l[l.length - 1 - k] := by rw [List.getElem?_eq_getElem hlt]; rfl
    have hd : l.drop (l.length - (k + 1)) = l[l.length - 1 - k] :: l.drop (l.length - k) := by
      rw [show l.length - (k + 1) = l.length - 1 - k by omega, List.drop_eq_getElem_cons hlt, show l.length - 1 - k + 1 = l.length - k by omega]
    simp only [divT, hg, h1]
    refine ⟨?_, fun j h h3 => ?_⟩
    · rw [hd, vcons, (dstep hm).2]
    · by_cases e : j = l.length - 1 - k
      · subst e
        rw [List.getElem?_set_self (by omega), show l.length - 1 - k + 1 = l.length - k by omega]
      · rw [List.getElem?_set_ne (Ne.symm e)]
        exact h2 j h (by omega)
theorem quo_val {l q : List Nat} {m : Nat} (hm : 0 < m) (hl : q.length = l.length) (h : ∀ j (h : j < l.length), q[j]? = some ((val (l.drop (j + 1)) % m * 4294967296 + l[j]) / m)) : ∀ d j, j + d = l.length → val (q.drop j) = val (l.drop j) / m
  | 0, j, hj => by
    rw [List.drop_eq_nil_of_le (by omega), List.drop_eq_nil_of_le (by omega)]
    simp [val]
  | d + 1, j, hj => by
    have hlt : j < l.length := by omega
    have hq := h j hlt
    have hqj : q[j]'(by omega) = (val (l.drop (j + 1)) % m * 4294967296 + l[j]) / m := by
      rw [List.getElem?_eq_getElem (by omega)] at hq
      exact Option.some.inj hq
    rw [List.drop_eq_getElem_cons (by omega : j < q.length), List.drop_eq_getElem_cons hlt, vcons, vcons, quo_val hm hl h d (j + 1) (by omega), hqj, (dstep hm).1]
theorem quo_lim {l q : List Nat} {m : Nat} (hm : 0 < m) (hx : Lim l) (hl : q.length = l.length) (h : ∀ j (h : j < l.length), q[j]? = some ((val (l.drop (j + 1)) % m * 4294967296 + l[j]) / m)) : Lim q := by
  intro x hxq
  obtain ⟨j, hj, e⟩ := List.getElem_of_mem hxq
  have hq := h j (by omega)
  rw [List.getElem?_eq_getElem hj, e] at hq
  rw [Option.some.injEq] at hq
  rw [hq]
  have h1 := hx _ (List.getElem_mem (by omega : j < l.length))
  have h2 := Nat.mod_lt (val (l.drop (j + 1))) hm
  rw [Nat.div_lt_iff_lt_mul hm]
  have : (val (l.drop (j + 1)) % m + 1) * 4294967296 ≤ m * 4294967296 := Nat.mul_le_mul_right _ h2
  rw [Nat.mul_comm 4294967296]
  omega
theorem call_limb_Div : FnOk Tryd.prog Gs 25 (ap2 Sh.limb_Div) := by
  intro args H res H' h
  unfold ap2 at h
  split at h
  · rename_i a b
    unfold Sh.limb_Div at h
    split at h
    · rename_i es tk n
      split at h
      · rename_i hex
        have hex2 := hex
        obtain ⟨l, he, hx, hl, h0, hn, hn2⟩ := hex2
        subst he
        obtain ⟨m, rfl⟩ : ∃ m : Nat, n = (m : Int) := ⟨n.toNat, by omega⟩
        have hc : hex.choose = l := (enL_inj hex.choose_spec.1).symm
        rw [hc] at h
        simp only [Int.toNat_natCast, Option.some.injEq, Prod.mk.injEq] at h
        obtain ⟨rfl, rfl⟩ := h
        have hm : 0 < m := by omega
        intro E w vs hG hs hv
        obtain ⟨v, u, rfl, k1, k2⟩ := args2 hv
        have e2 := val_int k2
        subst e2
        have hpos : 0 < l.length := List.length_pos_iff.2 h0
        have hge : ∀ j (hj : j < l.length), (enL cU l)[j]? = some (cU l[j]) := fun j hj => by simp [enL, hj]
        have hle : (enL cU l).length = l.length := by simp [enL]
        generalize hes : enL cU l = es at *
        cases k1 with
        | sl0 ht ha => simp at hle; omega
        | @sl _ _ b o s cap f hlen hI hmm hvv hcc htt =>
          have hs1 : s = 1 := by
            have := hlen 0 _ (hge 0 hpos)
            simpa using this.symm
          subst hs1
          have hcell : ∀ j, j < l.length → w.cell? ⟨b, o + j, none⟩ = some (.int .u32 ((l[j]?.getD 0 : Nat) : Int)) := fun j hj => by
            have h1 := hs.imm _ _ _ (hI j 0 (by omega) (by omega))
            have h2 := hvv j _ 0 _ (hge j hj) rfl
            rw [val_int h2] at h1
            rw [List.getElem?_eq_getElem hj]
            simpa using h1
          have hbl : b < w.heap.size := hs.imm_lt (hI 0 0 (by omega) (by omega))
          have hzf : ∀ j, l[j]?.getD 0 < 4294967296 := fun j => by
            rcases Nat.lt_or_ge j l.length with hj | hj
            · rw [List.getElem?_eq_getElem hj]; exact hx _ (List.getElem_mem hj)
            · rw [List.getElem?_eq_none hj]; decide
          have hD := callsIn_wide.1 (div_in (n := 3) (by omega) hs b o l.length cap (fun j => l[j]?.getD 0) m hm (by omega) hl hcell hbl hzf hpos)
          rw [hle]
          obtain ⟨d1, d2⟩ := divS_back (l := l) hm l.length (Nat.le_refl _)
          have hql := divS_len (fun j => l[j]?.getD 0) m (backF l.length l.length)
          generalize divS (fun j => l[j]?.getD 0) m (backF l.length l.length) = st at *
          rw [Nat.sub_self, List.drop_zero] at d1
          have d3 : ∀ j (h : j < l.length), st.1[j]? = some ((val (l.drop (j + 1)) % m * 4294967296 + l[j]) / m) := fun j h => d2 j h (by omega)
          have hv0 := quo_val hm hql d3 l.length 0 (by omega)
          rw [List.drop_zero, List.drop_zero] at hv0
          have hlim := quo_lim hm hx hql d3
          have htk := topK_lims hlim l.length (by omega)
          rw [List.take_of_length_le (by omega : st.1.length ≤ l.length), hv0] at htk
          refine .inl ⟨enter_run Tryd.func25 (by kernel_rfl) (by kernel_rfl) _ w, hD.mono fun e w' ⟨he, ⟨t, hrow⟩, hbelow⟩ => ?_⟩
          subst he
          have hIn : ∀ b' o v, (E.setI (w.heap.size + 1) ((rowV st.1)[·]?)).I b' o = some v → w.heap.size ≤ b' → w'.cell? ⟨b', o, none⟩ = some v := fun b' o v hv hb' => by
            simp only [Env.setI] at hv
            split at hv
            · rename_i e; subst e; rw [cell_of_cells hrow]; exact hv
            · have := hs.imm_lt hv; omega
          have hext := hs.ext (setI_le hs (Nat.le_succ _) _) (fun _ _ _ h => h) (fun _ _ _ h => h) hbelow.block (fun b' hb' => by funext o; simp only [Env.setI]; rw [if_neg (by omega)]) hIn hbelow.os hbelow.tape hbelow.output hbelow.size
          refine ⟨E.setI (w.heap.size + 1) ((rowV st.1)[·]?), ?_, hext.1, hext.2⟩
          show VRel _ _ _
          rw [← htk, d1]
          have hk := topK_le st.1 l.length
          refine VRel.tup_of (VRels.cons ?_ (VRels.cons (.int _ _) (VRels.nil _)))
          generalize topK st.1 l.length = k at *
          have hen : (enL cU (st.1.take k)).length = k := by simp [enL]; omega
          rcases Nat.eq_zero_or_pos k with h0k | h0k
          · subst h0k
            exact .sl0 trivial (fun h => by cases h)
          · have hfin : VRel (E.setI (w.heap.size + 1) ((rowV st.1)[·]?)) (.sl (enL cU (st.1.take k)) .no) (.slice (some ⟨w.heap.size + 1, 0, none⟩) (enL cU (st.1.take k)).length l.length) := by
              refine VRel.sl (s := 1) (fun i _ => .int .u32 ((st.1[i]?.getD 0 : Nat) : Int)) (fun i e hi => ?_) (fun i j hi hj => ?_) (fun i e j c hi hj => ?_) (fun i e j c hi hj => ?_) (by omega) trivial
              · simp only [enL, List.getElem?_map, Option.map_eq_some_iff] at hi
                obtain ⟨x, _, rfl⟩ := hi; rfl
              · have hij : i < st.1.length := by omega
                have hj0 : j = 0 := by omega
                subst hj0
                simp only [Env.setI, if_true]
                simp [rowV, hij]
              · simp only [enL, List.getElem?_map, Option.map_eq_some_iff] at hi
                obtain ⟨x, _, rfl⟩ := hi
                cases j with
                | zero => simp at hj; subst hj; rfl
                | succ j => simp at hj
              · simp only [enL, List.getElem?_map, Option.map_eq_some_iff] at hi
                obtain ⟨x, hx', rfl⟩ := hi
                cases j with
                | zero =>
                  simp at hj
                  subst hj
                  have hik : i < k := by
                    have := (List.getElem?_eq_some_iff.1 hx').1
                    simp at this; omega
                  rw [List.getElem?_take_of_lt hik] at hx'
                  rw [hx']
                  exact .int _ _
                | succ j => simp at hj
            rw [hen] at hfin
            exact hfin
      · cases h
    · cases h
  · cases h
end Go.Gm
/- The library contracts of this seat: laid by the kit's lay-shelf and lay-plain. -/
namespace Go.Proofs
open Go.Shelf
def Tryd.lays156_ren : Go.Shelf.Ren := ⟨fun | 156 => 29 | 165 => 49 | 166 => 50 | 169 => 51 | 240 => 68 | 241 => 69 | 276 => 76 | 277 => 77 | n => n, fun | 31 => 47 | 9 => 9 | 3 => 3 | 4 => 4 | 0 => 0 | 20 => 20 | 72 => 81 | 76 => 85 | 70 => 79 | 37 => 36 | 75 => 84 | 127 => 104 | 164 => 111 | 5 => 5 | 80 => 87 | n => n, fun | n => n⟩
theorem Tryd.lays156 : Go.Proofs.Lays.n156 Tryd.prog Tryd.lays156_ren := {
  mixed := by kernel_rfl
  f156 := Tryd.func29.trans (congrArg some (by kernel_rfl))
  f165 := Tryd.func49.trans (congrArg some (by kernel_rfl))
  f166 := Tryd.func50.trans (congrArg some (by kernel_rfl))
  f169 := Tryd.func51.trans (congrArg some (by kernel_rfl))
  f240 := Tryd.func68.trans (congrArg some (by kernel_rfl))
  f241 := Tryd.func69.trans (congrArg some (by kernel_rfl))
  f276 := Tryd.func76.trans (congrArg some (by kernel_rfl))
  f277 := Tryd.func77.trans (congrArg some (by kernel_rfl))
  t0 := Tryd.underlying0
  a0 := Tryd.isAgg0
  z0 := Tryd.sizeOf0
  v0 := Tryd.zeroValue0
  t3 := Tryd.underlying3
  a3 := Tryd.isAgg3
  z3 := Tryd.sizeOf3
  v3 := Tryd.zeroValue3
  t4 := Tryd.underlying4
  a4 := Tryd.isAgg4
  z4 := Tryd.sizeOf4
  v4 := Tryd.zeroValue4
  t9 := Tryd.underlying9
  a9 := Tryd.isAgg9
  z9 := Tryd.sizeOf9
  v9 := Tryd.zeroValue9
  t20 := Tryd.underlying20
  a20 := Tryd.isAgg20
  z20 := Tryd.sizeOf20
  v20 := Tryd.zeroValue20
  t31 := Tryd.underlying47
  a31 := Tryd.isAgg47
  z31 := Tryd.sizeOf47
  v31 := Tryd.zeroValue47
  t37 := Tryd.underlying36
  a37 := Tryd.isAgg36
  z37 := Tryd.sizeOf36
  v37 := Tryd.zeroValue36
  t70 := Tryd.underlying79
  a70 := Tryd.isAgg79
  z70 := Tryd.sizeOf79
  v70 := Tryd.zeroValue79
  t72 := Tryd.underlying81
  a72 := Tryd.isAgg81
  z72 := Tryd.sizeOf81
  v72 := Tryd.zeroValue81
  t75 := Tryd.underlying84
  a75 := Tryd.isAgg84
  z75 := Tryd.sizeOf84
  v75 := Tryd.zeroValue84
  t76 := Tryd.underlying85
  a76 := Tryd.isAgg85
  z76 := Tryd.sizeOf85
  v76 := Tryd.zeroValue85
  t127 := Tryd.underlying104
  a127 := Tryd.isAgg104
  z127 := Tryd.sizeOf104
  v127 := Tryd.zeroValue104
  t164 := Tryd.underlying111
  a164 := Tryd.isAgg111
  z164 := Tryd.sizeOf111
  v164 := Tryd.zeroValue111 }
theorem Tryd.Builder_Extra_156 : Builder.Extra Tryd.prog Tryd.lays156_ren := {
  sizeBuilder := by kernel_rfl
  liesBuilder := by kernel_rfl
  t5 := Tryd.underlying5
  a5 := Tryd.isAgg5
  z5 := Tryd.sizeOf5
  v5 := Tryd.zeroValue5
  infoByte := by kernel_rfl
  cellsByte := by kernel_rfl
  sizeByte := by kernel_rfl
  neB5 := by decide }
open Go.RowKit in
/-- No element: the empty string; the world is as it was. (Whatever the slice's address and capacity: a nil slice too.) (LAID: no walk: one application.) -/
theorem Tryd.strings_Join_none (a : Option Addr) (c : Nat) (sep : ByteArray) (w : World) :
    Calls Tryd.prog 29 #[.slice a 0 c, .string sep] w fun e w' => e = .returned (.string ⟨#[]⟩) ∧ w' = w := Any.strings_Join_none Tryd.lays156 Tryd.Builder_Extra_156 a c sep w
open Go.RowKit in
/-- strings.Join: "Join concatenates the elements of its first argument to create a single string. The separator string sep is placed between elements in the resulting string.": HOWEVER MANY ELEMENTS. Below the heap's end the world is as it was. (LAID: no walk: one application.) -/
theorem Tryd.strings_Join (bk o c : Nat) (xs : List ByteArray) (sep : ByteArray) (w : World) (hcells : ∀ (j : Nat) x, xs[j]? = some x → w.cell? ⟨bk, o + j, none⟩ = some (.string x)) (hbk : bk < w.heap.size) (hN : xs.length ≤ 140737488355328) (hcap : xs.length ≤ c) (hlen : (Lib.join (xs.map (·.data.toList)) sep.data.toList).length ≤ 140737488355328) :
    Calls Tryd.prog 29 #[.slice (some ⟨bk, o, none⟩) xs.length c, .string sep] w fun e w' => e = .returned (.string ⟨(Lib.join (xs.map (·.data.toList)) sep.data.toList).toArray⟩) ∧ Below w.heap.size w w' := Any.strings_Join Tryd.lays156 Tryd.Builder_Extra_156 bk o c xs sep w hcells hbk hN hcap hlen
def Tryd.lays161_ren : Go.Shelf.Ren := ⟨fun | 161 => 28 | 231 => 45 | 227 => 46 | 233 => 47 | 235 => 48 | 228 => 65 | 197 => 66 | 151 => 67 | 260 => 74 | 152 => 75 | 137 => 82 | 119 => 83 | 224 => 84 | 225 => 85 | 217 => 91 | 266 => 94 | n => n, fun | 9 => 9 | 4 => 4 | 3 => 3 | 5 => 5 | 117 => 75 | 116 => 74 | 0 => 0 | 124 => 78 | 105 => 101 | 21 => 21 | 119 => 119 | 46 => 63 | 139 => 122 | 138 => 121 | n => n, fun | 3 => 1 | 4 => 2 | n => n⟩
theorem Tryd.lays161 : Go.Proofs.Lays.n161 Tryd.prog Tryd.lays161_ren := {
  mixed := by kernel_rfl
  f119 := Tryd.func83.trans (congrArg some (by kernel_rfl))
  f137 := Tryd.func82.trans (congrArg some (by kernel_rfl))
  f151 := Tryd.func67.trans (congrArg some (by kernel_rfl))
  f152 := Tryd.func75.trans (congrArg some (by kernel_rfl))
  f161 := Tryd.func28.trans (congrArg some (by kernel_rfl))
  f197 := Tryd.func66.trans (congrArg some (by kernel_rfl))
  f217 := Tryd.func91.trans (congrArg some (by kernel_rfl))
  f224 := Tryd.func84.trans (congrArg some (by kernel_rfl))
  f225 := Tryd.func85.trans (congrArg some (by kernel_rfl))
  f227 := Tryd.func46.trans (congrArg some (by kernel_rfl))
  f228 := Tryd.func65.trans (congrArg some (by kernel_rfl))
  f231 := Tryd.func45.trans (congrArg some (by kernel_rfl))
  f233 := Tryd.func47.trans (congrArg some (by kernel_rfl))
  f235 := Tryd.func48.trans (congrArg some (by kernel_rfl))
  f260 := Tryd.func74.trans (congrArg some (by kernel_rfl))
  f266 := Tryd.func94.trans (congrArg some (by kernel_rfl))
  t0 := Tryd.underlying0
  a0 := Tryd.isAgg0
  z0 := Tryd.sizeOf0
  v0 := Tryd.zeroValue0
  t3 := Tryd.underlying3
  a3 := Tryd.isAgg3
  z3 := Tryd.sizeOf3
  v3 := Tryd.zeroValue3
  t4 := Tryd.underlying4
  a4 := Tryd.isAgg4
  z4 := Tryd.sizeOf4
  v4 := Tryd.zeroValue4
  t5 := Tryd.underlying5
  a5 := Tryd.isAgg5
  z5 := Tryd.sizeOf5
  v5 := Tryd.zeroValue5
  t9 := Tryd.underlying9
  a9 := Tryd.isAgg9
  z9 := Tryd.sizeOf9
  v9 := Tryd.zeroValue9
  t21 := Tryd.underlying21
  a21 := Tryd.isAgg21
  z21 := Tryd.sizeOf21
  v21 := Tryd.zeroValue21
  t46 := Tryd.underlying63
  a46 := Tryd.isAgg63
  z46 := Tryd.sizeOf63
  v46 := Tryd.zeroValue63
  t105 := Tryd.underlying101
  a105 := Tryd.isAgg101
  z105 := Tryd.sizeOf101
  v105 := Tryd.zeroValue101
  t116 := Tryd.underlying74
  a116 := Tryd.isAgg74
  z116 := Tryd.sizeOf74
  t117 := Tryd.underlying75
  a117 := Tryd.isAgg75
  z117 := Tryd.sizeOf75
  v117 := Tryd.zeroValue75
  t119 := Tryd.underlying119
  a119 := Tryd.isAgg119
  z119 := Tryd.sizeOf119
  t124 := Tryd.underlying78
  a124 := Tryd.isAgg78
  z124 := Tryd.sizeOf78
  v124 := Tryd.zeroValue78
  t138 := Tryd.underlying121
  a138 := Tryd.isAgg121
  z138 := Tryd.sizeOf121
  v138 := Tryd.zeroValue121
  t139 := Tryd.underlying122
  a139 := Tryd.isAgg122
  z139 := Tryd.sizeOf122
  v139 := Tryd.zeroValue122
  g3 := by kernel_rfl
  g4 := by kernel_rfl }
open Go.RowKit in
/-- strings.TrimLeft: "TrimLeft returns a slice of the string s with all leading Unicode code points contained in cutset removed.": AT A cutset OF ONE ASCII BYTE. The world is as it was. (LAID: no walk: one application.) -/
theorem Tryd.strings_TrimLeft_one (s : ByteArray) (c : UInt8) (hc : c.toNat < 128) (w : World) :
    Calls Tryd.prog 28 #[.string s, .string ⟨#[c]⟩] w fun e w' => e = .returned (.string ⟨(Lib.trimLeftB s.data.toList c).toArray⟩) ∧ w' = w := Any.strings_TrimLeft_one Tryd.lays161 s c hc w
def Tryd.laysM171_ren : Go.Shelf.Ren := ⟨fun | 171 => 43 | 243 => 61 | 246 => 71 | 283 => 78 | 284 => 79 | 285 => 80 | 286 => 81 | 129 => 87 | 317 => 86 | 318 => 88 | 319 => 89 | 320 => 90 | 337 => 92 | 338 => 93 | n => n, fun | 3 => 3 | 9 => 9 | 2 => 2 | 4 => 4 | 171 => 114 | 0 => 0 | 53 => 58 | 37 => 36 | 5 => 5 | 173 => 117 | 212 => 127 | 51 => 46 | 20 => 20 | 213 => 128 | 46 => 63 | 232 => 132 | 233 => 133 | n => n, fun | 17 => 4 | 18 => 5 | 19 => 6 | n => n⟩
theorem Tryd.laysM171 : Go.Proofs.LaysM.n171 Tryd.prog Tryd.laysM171_ren := {
  mixed := by kernel_rfl
  f129 := Tryd.func87.trans (congrArg some (by kernel_rfl))
  f171 := Tryd.func43.trans (congrArg some (by kernel_rfl))
  f243 := Tryd.func61.trans (congrArg some (by kernel_rfl))
  f246 := Tryd.func71.trans (congrArg some (by kernel_rfl))
  f283 := Tryd.func78.trans (congrArg some (by kernel_rfl))
  f284 := Tryd.func79.trans (congrArg some (by kernel_rfl))
  f285 := Tryd.func80.trans (congrArg some (by kernel_rfl))
  f286 := Tryd.func81.trans (congrArg some (by kernel_rfl))
  f317 := Tryd.func86.trans (congrArg some (by kernel_rfl))
  f318 := Tryd.func88.trans (congrArg some (by kernel_rfl))
  f319 := Tryd.func89.trans (congrArg some (by kernel_rfl))
  f320 := Tryd.func90.trans (congrArg some (by kernel_rfl))
  f337 := Tryd.func92.trans (congrArg some (by kernel_rfl))
  f338 := Tryd.func93.trans (congrArg some (by kernel_rfl))
  t0 := Tryd.underlying0
  a0 := Tryd.isAgg0
  z0 := Tryd.sizeOf0
  v0 := Tryd.zeroValue0
  t2 := Tryd.underlying2
  a2 := Tryd.isAgg2
  z2 := Tryd.sizeOf2
  v2 := Tryd.zeroValue2
  t3 := Tryd.underlying3
  a3 := Tryd.isAgg3
  z3 := Tryd.sizeOf3
  v3 := Tryd.zeroValue3
  t4 := Tryd.underlying4
  a4 := Tryd.isAgg4
  z4 := Tryd.sizeOf4
  v4 := Tryd.zeroValue4
  t5 := Tryd.underlying5
  a5 := Tryd.isAgg5
  z5 := Tryd.sizeOf5
  v5 := Tryd.zeroValue5
  t9 := Tryd.underlying9
  a9 := Tryd.isAgg9
  z9 := Tryd.sizeOf9
  v9 := Tryd.zeroValue9
  t20 := Tryd.underlying20
  a20 := Tryd.isAgg20
  z20 := Tryd.sizeOf20
  v20 := Tryd.zeroValue20
  t37 := Tryd.underlying36
  a37 := Tryd.isAgg36
  z37 := Tryd.sizeOf36
  v37 := Tryd.zeroValue36
  t46 := Tryd.underlying63
  a46 := Tryd.isAgg63
  z46 := Tryd.sizeOf63
  v46 := Tryd.zeroValue63
  t51 := Tryd.underlying46
  a51 := Tryd.isAgg46
  z51 := Tryd.sizeOf46
  v51 := Tryd.zeroValue46
  t53 := Tryd.underlying58
  a53 := Tryd.isAgg58
  z53 := Tryd.sizeOf58
  v53 := Tryd.zeroValue58
  t171 := Tryd.underlying114
  a171 := Tryd.isAgg114
  z171 := Tryd.sizeOf114
  v171 := Tryd.zeroValue114
  t173 := Tryd.underlying117
  a173 := Tryd.isAgg117
  z173 := Tryd.sizeOf117
  v173 := Tryd.zeroValue117
  t212 := Tryd.underlying127
  a212 := Tryd.isAgg127
  z212 := Tryd.sizeOf127
  v212 := Tryd.zeroValue127
  t213 := Tryd.underlying128
  a213 := Tryd.isAgg128
  z213 := Tryd.sizeOf128
  t232 := Tryd.underlying132
  a232 := Tryd.isAgg132
  z232 := Tryd.sizeOf132
  v232 := Tryd.zeroValue132
  t233 := Tryd.underlying133
  a233 := Tryd.isAgg133
  z233 := Tryd.sizeOf133
  v233 := Tryd.zeroValue133
  g17 := by kernel_rfl
  g18 := by kernel_rfl
  g19 := by kernel_rfl
  i0 := by kernel_rfl
  i2 := by kernel_rfl
  i3 := by kernel_rfl
  i4 := by kernel_rfl
  i5 := by kernel_rfl
  i9 := by kernel_rfl
  i20 := by kernel_rfl
  i37 := by kernel_rfl
  i46 := by kernel_rfl
  i51 := by kernel_rfl
  i53 := by kernel_rfl
  i171 := by kernel_rfl
  i173 := by kernel_rfl
  i212 := by kernel_rfl
  i232 := by kernel_rfl
  i233 := by kernel_rfl
  m17 := by kernel_rfl
  m18 := by kernel_rfl
  m19 := by kernel_rfl }
open Go.RowKit Go.Sort Go.Lib in
/-- strconv.Itoa: "Itoa is equivalent to FormatInt(int64(i), 10).": i's DECIMAL NUMERAL ('Lib.itoa': a '-' where i is negative, then the digits), FOR EVERY int. The world behind the call: the world before it, new blocks behind the heap (the library's 'var a [24]byte'), draws. (LAID: no walk: one application.) -/
theorem Tryd.strconv_Itoa (n : Int) (h0 : -9223372036854775808 ≤ n) (h1 : n ≤ 9223372036854775807) (w : World) (htab : Lib.TabIs Tryd.prog w "internal/strconv.uint64pow10" .u64 Lib.pow10Tab) :
    Calls Tryd.prog 43 #[.int .i64 n] w fun e w' => e = .returned (.string ⟨(Lib.itoa n).toArray⟩) ∧ ∃ k os, w' = grow (w.drewN k) os := Any.strconv_Itoa Tryd.laysM171 n h0 h1 w htab
def Tryd.laysGw15_ren : Go.Shelf.Ren := ⟨fun | 15 => 32 | 20 => 52 | n => n, fun | 9 => 9 | 23 => 56 | 3 => 3 | 4 => 4 | 0 => 0 | 21 => 21 | n => n, fun | n => n⟩
theorem Tryd.laysGw15 : Go.Proofs.LaysGw.n15 Tryd.prog Tryd.laysGw15_ren := {
  mixed := by kernel_rfl
  f15 := Tryd.func32.trans (congrArg some (by kernel_rfl))
  f20 := Tryd.func52.trans (congrArg some (by kernel_rfl))
  t0 := Tryd.underlying0
  a0 := Tryd.isAgg0
  z0 := Tryd.sizeOf0
  v0 := Tryd.zeroValue0
  i0 := by kernel_rfl
  t3 := Tryd.underlying3
  a3 := Tryd.isAgg3
  z3 := Tryd.sizeOf3
  v3 := Tryd.zeroValue3
  i3 := by kernel_rfl
  t4 := Tryd.underlying4
  a4 := Tryd.isAgg4
  z4 := Tryd.sizeOf4
  v4 := Tryd.zeroValue4
  i4 := by kernel_rfl
  t9 := Tryd.underlying9
  a9 := Tryd.isAgg9
  z9 := Tryd.sizeOf9
  v9 := Tryd.zeroValue9
  i9 := by kernel_rfl
  t21 := Tryd.underlying21
  a21 := Tryd.isAgg21
  z21 := Tryd.sizeOf21
  v21 := Tryd.zeroValue21
  i21 := by kernel_rfl
  t23 := Tryd.underlying56
  a23 := Tryd.isAgg56
  z23 := Tryd.sizeOf56
  v23 := Tryd.zeroValue56
  i23 := by kernel_rfl }
def Tryd.lays105_ren : Go.Shelf.Ren := ⟨fun | 105 => 44 | 212 => 62 | 99 => 63 | 165 => 49 | 166 => 50 | 170 => 64 | 169 => 51 | 263 => 72 | 264 => 73 | 206 => 58 | 240 => 68 | 241 => 69 | 276 => 76 | 277 => 77 | n => n, fun | 9 => 9 | 3 => 3 | 4 => 4 | 20 => 20 | 0 => 0 | 46 => 63 | 109 => 97 | 5 => 5 | 72 => 81 | 76 => 85 | 51 => 46 | 146 => 68 | 53 => 58 | 148 => 108 | 70 => 79 | 37 => 36 | 75 => 84 | 127 => 104 | 164 => 111 | 80 => 87 | n => n, fun | n => n⟩
theorem Tryd.lays105 : Go.Proofs.Lays.n105 Tryd.prog Tryd.lays105_ren := {
  mixed := by kernel_rfl
  f99 := Tryd.func63.trans (congrArg some (by kernel_rfl))
  f105 := Tryd.func44.trans (congrArg some (by kernel_rfl))
  f165 := Tryd.func49.trans (congrArg some (by kernel_rfl))
  f166 := Tryd.func50.trans (congrArg some (by kernel_rfl))
  f169 := Tryd.func51.trans (congrArg some (by kernel_rfl))
  f170 := Tryd.func64.trans (congrArg some (by kernel_rfl))
  f206 := Tryd.func58.trans (congrArg some (by kernel_rfl))
  f212 := Tryd.func62.trans (congrArg some (by kernel_rfl))
  f240 := Tryd.func68.trans (congrArg some (by kernel_rfl))
  f241 := Tryd.func69.trans (congrArg some (by kernel_rfl))
  f263 := Tryd.func72.trans (congrArg some (by kernel_rfl))
  f264 := Tryd.func73.trans (congrArg some (by kernel_rfl))
  f276 := Tryd.func76.trans (congrArg some (by kernel_rfl))
  f277 := Tryd.func77.trans (congrArg some (by kernel_rfl))
  t0 := Tryd.underlying0
  a0 := Tryd.isAgg0
  z0 := Tryd.sizeOf0
  v0 := Tryd.zeroValue0
  t3 := Tryd.underlying3
  a3 := Tryd.isAgg3
  z3 := Tryd.sizeOf3
  v3 := Tryd.zeroValue3
  t4 := Tryd.underlying4
  a4 := Tryd.isAgg4
  z4 := Tryd.sizeOf4
  v4 := Tryd.zeroValue4
  t5 := Tryd.underlying5
  a5 := Tryd.isAgg5
  z5 := Tryd.sizeOf5
  v5 := Tryd.zeroValue5
  t9 := Tryd.underlying9
  a9 := Tryd.isAgg9
  z9 := Tryd.sizeOf9
  v9 := Tryd.zeroValue9
  t20 := Tryd.underlying20
  a20 := Tryd.isAgg20
  z20 := Tryd.sizeOf20
  v20 := Tryd.zeroValue20
  t37 := Tryd.underlying36
  a37 := Tryd.isAgg36
  z37 := Tryd.sizeOf36
  v37 := Tryd.zeroValue36
  t46 := Tryd.underlying63
  a46 := Tryd.isAgg63
  z46 := Tryd.sizeOf63
  v46 := Tryd.zeroValue63
  t51 := Tryd.underlying46
  a51 := Tryd.isAgg46
  z51 := Tryd.sizeOf46
  v51 := Tryd.zeroValue46
  t53 := Tryd.underlying58
  a53 := Tryd.isAgg58
  z53 := Tryd.sizeOf58
  v53 := Tryd.zeroValue58
  t70 := Tryd.underlying79
  a70 := Tryd.isAgg79
  z70 := Tryd.sizeOf79
  v70 := Tryd.zeroValue79
  t72 := Tryd.underlying81
  a72 := Tryd.isAgg81
  z72 := Tryd.sizeOf81
  v72 := Tryd.zeroValue81
  t75 := Tryd.underlying84
  a75 := Tryd.isAgg84
  z75 := Tryd.sizeOf84
  v75 := Tryd.zeroValue84
  t76 := Tryd.underlying85
  a76 := Tryd.isAgg85
  z76 := Tryd.sizeOf85
  v76 := Tryd.zeroValue85
  t109 := Tryd.underlying97
  a109 := Tryd.isAgg97
  z109 := Tryd.sizeOf97
  v109 := Tryd.zeroValue97
  t127 := Tryd.underlying104
  a127 := Tryd.isAgg104
  z127 := Tryd.sizeOf104
  v127 := Tryd.zeroValue104
  t146 := Tryd.underlying68
  a146 := Tryd.isAgg68
  z146 := Tryd.sizeOf68
  v146 := Tryd.zeroValue68
  t148 := Tryd.underlying108
  a148 := Tryd.isAgg108
  z148 := Tryd.sizeOf108
  v148 := Tryd.zeroValue108
  t164 := Tryd.underlying111
  a164 := Tryd.isAgg111
  z164 := Tryd.sizeOf111
  v164 := Tryd.zeroValue111 }
theorem Tryd.Builder_Extra_105 : Builder.Extra Tryd.prog Tryd.lays105_ren := {
  sizeBuilder := by kernel_rfl
  liesBuilder := by kernel_rfl
  t5 := Tryd.underlying5
  a5 := Tryd.isAgg5
  z5 := Tryd.sizeOf5
  v5 := Tryd.zeroValue5
  infoByte := by kernel_rfl
  cellsByte := by kernel_rfl
  sizeByte := by kernel_rfl
  neB5 := by decide }
open Go.RowKit Go.Lib in
/-- **strings.Repeat: count ≥ 0, the result within one allocation: count copies of s.** (LAID: no walk: one application.) -/
theorem Tryd.strings_Repeat (s : ByteArray) (c : Nat) (w : World) (hc : c ≤ 9223372036854775807) (hlen : s.size * c ≤ 140737488355328) :
    Calls Tryd.prog 44 #[.string s, .int .i64 c] w fun e w' => e = .returned (.string ⟨(Lib.repeatL s.data.toList c).toArray⟩) ∧ Below w.heap.size w w' := Any.strings_Repeat Tryd.lays105 Tryd.Builder_Extra_105 s c w hc hlen
open Go.RowKit Go.Lib in
theorem Tryd.strings_IndexFunc_grows (g : Nat) (lb : Array Value) (eg : ∀ args w, (callFunc g args).run Tryd.prog w = .ok (.enter g args) w) (p : Nat → Bool) (s : ByteArray) (w : World) (hp : PredGrows Tryd.prog g lb p w) :
    Calls Tryd.prog 32 #[.string s, .func (.func g) #[] lb] w fun e w' => e = .returned (.int .i64 (Lib.idxFunc p true s)) ∧ Below w.heap.size w w' := Any.strings_IndexFunc_grows Tryd.laysGw15 g lb eg p s w hp
end Go.Proofs
/- What the library's functions come to, out of the kit's contracts. -/
namespace Go.Gm
open Go.Proofs Go.RowKit Go.Shelf
set_option linter.unusedVariables false
theorem pow_tab {E : Env} {H : AHeap} {w : World} (h : Sim E H w) : Lib.TabIs Tryd.prog w "internal/strconv.uint64pow10" .u64 Lib.pow10Tab := by
  obtain ⟨⟨t, fr, h1⟩, _⟩ := h.fix 4 powTab (by simp [FixT])
  have hm : Tryd.prog.globalNamed "internal/strconv.uint64pow10" = some 4 := Tryd.laysM171.m17
  simp [Lib.TabIs, World.var?, hm, h1, powTab]
theorem call_strconv_Itoa : FnOk Tryd.prog Gs 43 (ap1 Sh.strconv_Itoa) := by
  intro args H res H' h
  unfold ap1 at h
  split at h
  · unfold Sh.strconv_Itoa at h
    split at h
    · rename_i n
      split at h
      · rename_i hn
        cases h
        refine lib_ok Tryd.func43 (by kernel_rfl) fun E w vs hG hs hv => ?_
        obtain ⟨v, rfl, h1⟩ := args1 hv
        rw [val_int h1]
        refine ⟨_, .str _, (Tryd.strconv_Itoa n hn.1 hn.2 w (pow_tab hs)).mono fun e w' ⟨he, k, os, hw⟩ => ⟨he, ?_⟩⟩
        rw [hw]
        exact below_grown w k os
      · cases h
    · cases h
  · cases h
theorem call_strings_Repeat : FnOk Tryd.prog Gs 44 (ap2 Sh.strings_Repeat) := by
  intro args H res H' h
  unfold ap2 at h
  split at h
  · unfold Sh.strings_Repeat at h
    split at h
    · rename_i s c
      split at h
      · rename_i hn
        cases h
        refine lib_ok Tryd.func44 (by kernel_rfl) fun E w vs hG hs hv => ?_
        obtain ⟨v, u, rfl, h1, h2⟩ := args2 hv
        rw [val_str h1, val_int h2]
        have := Tryd.strings_Repeat ⟨s.toArray⟩ c.toNat w (by omega) (by show s.toArray.size * _ ≤ _; simpa using hn.2.2)
        rw [Int.toNat_of_nonneg hn.1] at this
        exact ⟨_, .str _, this⟩
      · cases h
    · cases h
  · cases h
theorem call_strings_TrimLeft : FnOk Tryd.prog Gs 28 (ap2 Sh.strings_TrimLeft) := by
  intro args H res H' h
  unfold ap2 at h
  split at h
  · unfold Sh.strings_TrimLeft at h
    split at h
    · rename_i s c
      split at h
      · rename_i hn
        cases h
        refine lib_ok Tryd.func28 (by kernel_rfl) fun E w vs hG hs hv => ?_
        obtain ⟨v, u, rfl, h1, h2⟩ := args2 hv
        rw [val_str h1, val_str h2]
        exact ⟨_, .str _, (Tryd.strings_TrimLeft_one ⟨s.toArray⟩ c hn w).mono fun e w' ⟨he, hw⟩ => ⟨he, hw ▸ Below.refl _ _⟩⟩
      · cases h
    · cases h
  · cases h
theorem dig1 (x : Nat) (H : AHeap) : Sh.dec_Digits_1 (.int .i32 x) H = some (.ret (.bool (noDig x)), H) := by
  unfold Sh.dec_Digits_1 noDig
  by_cases h : x < 48
  · have h' : (x : Int) < 48 := by omega
    simp [h, h']
  · have h' : ¬ (x : Int) < 48 := by omega
    by_cases h2 : 57 < x
    · have h2' : (57 : Int) < x := by omega
      simp [h, h', h2, h2']
    · have h2' : ¬ (57 : Int) < x := by omega
      simp [h, h', h2, h2']
theorem call_strings_IndexFunc : FnOk Tryd.prog Gs 32 (ap2 Sh.strings_IndexFunc) := by
  intro args H res H' h
  unfold ap2 at h
  split at h
  · unfold Sh.strings_IndexFunc at h
    split at h
    · rename_i s
      cases h
      refine lib_ok Tryd.func32 (by kernel_rfl) fun E w vs hG hs hv => ?_
      obtain ⟨v, u, rfl, h1, h2⟩ := args2 hv
      rw [val_str h1]
      have hu : u = .func (.func 33) #[] #[] := by
        cases h2 with
        | @fn _ _ vs' hn' hv' => exact congrArg _ (Array.eq_empty_of_size_eq_zero hn'.symm)
      rw [hu]
      refine ⟨_, .int _ _, Tryd.strings_IndexFunc_grows 33 #[] (fun a w => enter_run Tryd.func33 (by kernel_rfl) (by kernel_rfl) a w) noDig ⟨s.toArray⟩ w fun W x hx hb => ?_⟩
      refine (fn_calls call_dec_Digits_1 Tryd.func33 (by kernel_rfl) (fun _ _ h => nomatch h) (sim_below hs hb).1 (args := [.int .i32 x]) (VRels.cons (.int _ _) (VRels.nil _)) (dig1 x [])).mono fun e w' ⟨⟨E', he⟩, hw⟩ => ⟨?_, hw⟩
      cases e with
      | returned v => rw [VRel.bool_inv he]
      | panicked c => exact he.elim
      | outgrown => exact he.elim
    · cases h
  · cases h
theorem flat1 : ∀ {es : List (List AVal)}, (∀ x ∈ es, x.length = 1) → es.flatten.length = es.length
  | [], _ => rfl
  | x :: es, h => by rw [List.flatten_cons, List.length_append, h x (by simp), List.length_cons, flat1 fun y hy => h y (by simp [hy])]; omega
theorem strs_rel {E : Env} : ∀ {es : List (List AVal)} {ss : List (List UInt8)} {us : List Value}, strs es = some ss → VRels E es.flatten us → us = ss.map fun s => Value.string ⟨s.toArray⟩
  | [], ss, us, h, hv => by
    cases h
    have := hv.1
    simpa using this.symm
  | [.str s] :: r, ss, us, h, hv => by
    simp only [strs] at h
    cases hr : strs r with
    | none => simp [hr] at h
    | some t =>
      simp only [hr, Option.map_some, Option.some.injEq] at h
      subst h
      match us, hv with
      | u :: us, hv =>
        have h1 := val_str hv.head
        have h2 := strs_rel hr hv.tail
        rw [h1, h2]; rfl
      | [], hv => exact absurd hv.1 (by simp)
theorem call_strings_Join : FnOk Tryd.prog Gs 29 (ap2 Sh.strings_Join) := by
  intro args H res H' h
  unfold ap2 at h
  split at h
  · rename_i a b
    unfold Sh.strings_Join at h
    split at h
    · rename_i sep
      cases hes : elemsA 1 a H with
      | none => simp [hes] at h
      | some es =>
        simp only [hes, Option.bind_some] at h
        cases hss : strs es with
        | none => simp [hss] at h
        | some ss =>
          simp only [hss, Option.bind_some] at h
          split at h
          · rename_i hn
            cases h
            refine lib_ok Tryd.func29 (by kernel_rfl) fun E w vs hG hs hv => ?_
            obtain ⟨v, u, rfl, h1, h2⟩ := args2 hv
            rw [val_str h2]
            have hns : ∀ s, a ≠ .str s := fun s e => by subst e; simp [elemsA] at hes
            have hnu : a ≠ .undef := fun e => by subst e; simp [elemsA] at hes
            obtain ⟨ad, cap, rfl, k1, k2, k3, k4, us, k5, k6⟩ := elems_ok hs h1 hns hes
            have hus := strs_rel hss k5
            have hl : es.length = ss.length := by
              have q1 := k5.1
              rw [hus, List.length_map] at q1
              rw [← q1]
              exact (flat1 k3).symm
            by_cases h0 : ss = []
            · subst h0
              rw [show es.length = 0 from hl]
              refine ⟨_, ?_, (Tryd.strings_Join_none ad cap ⟨sep.toArray⟩ w).mono fun e w' ⟨he, hw⟩ => ⟨he, hw ▸ Below.refl _ _⟩⟩
              exact .str _
            · obtain ⟨bk, o, rfl⟩ := slice_plain h1 hnu (by rw [hl]; intro h; exact h0 (List.length_eq_zero_iff.1 h))
              have hc : ∀ (j : Nat) x, (ss.map fun s => (⟨s.toArray⟩ : ByteArray))[j]? = some x → w.cell? ⟨bk, o + j, none⟩ = some (.string x) := fun j x hx => by
                have := k6 _ rfl j (.string x) (by rw [hus]; rw [List.getElem?_map] at hx ⊢; cases hj : ss[j]? with | none => simp [hj] at hx | some y => simp [hj] at hx; simp [hx])
                rw [add_plain] at this
                exact this
              have hbk : bk < w.heap.size := by
                cases hx : ss with
                | nil => exact absurd hx h0
                | cons x r => exact World.block_lt_of_cell? w _ (hc 0 ⟨x.toArray⟩ (by simp [hx]))
              have hmm : (ss.map fun s => (⟨s.toArray⟩ : ByteArray)).map (·.data.toList) = ss := by simp [List.map_map, Function.comp_def]
              have := Tryd.strings_Join bk o cap (ss.map fun s => ⟨s.toArray⟩) ⟨sep.toArray⟩ w hc hbk (by simpa using hn.2) (by simpa [← hl] using k1) (by rw [hmm]; exact hn.1)
              rw [hmm, List.length_map, ← hl] at this
              exact ⟨_, .str _, this⟩
          · cases h
    · cases h
  · cases h
end Go.Gm
/- The forms are what the evaluator comes to; so they are what the functions come to. -/
namespace Go.Gm
open Go.Proofs
set_option maxRecDepth 100000
noncomputable def orc_stringslite_HasPrefix : Orc := noO
theorem tie_stringslite_HasPrefix : T2 Tryd.prog Gs false orc_stringslite_HasPrefix Tryd.f58 (.two .leaf (.two .leaf .leaf)) .keep Sh.stringslite_HasPrefix := by unfold T2; intros; kernel_rfl
theorem call_stringslite_HasPrefix : FnOk Tryd.prog Gs 58 (ap2 Sh.stringslite_HasPrefix) := fn_ok2 mixed (orc_no _ _) Tryd.func58 (by kernel_rfl) tie_stringslite_HasPrefix
noncomputable def orc_stringslite_CutPrefix : Orc := (ent 58 (ap2 Sh.stringslite_HasPrefix) noO)
theorem tie_stringslite_CutPrefix : T2 Tryd.prog Gs false orc_stringslite_CutPrefix Tryd.f38 (.two .leaf (.two (.two .leaf (.two (.two .leaf .leaf) .leaf)) (.two .leaf .leaf))) .keep Sh.stringslite_CutPrefix := by unfold T2; intros; kernel_rfl
theorem call_stringslite_CutPrefix : FnOk Tryd.prog Gs 38 (ap2 Sh.stringslite_CutPrefix) := fn_ok2 mixed ((orc_ent call_stringslite_HasPrefix (orc_no _ _))) Tryd.func38 (by kernel_rfl) tie_stringslite_CutPrefix
noncomputable def orc_strings_CutPrefix : Orc := (ent 38 (ap2 Sh.stringslite_CutPrefix) noO)
theorem tie_strings_CutPrefix : T2 Tryd.prog Gs false orc_strings_CutPrefix Tryd.f22 (.two .leaf (.two .leaf .leaf)) .keep Sh.strings_CutPrefix := by unfold T2; intros; kernel_rfl
theorem call_strings_CutPrefix : FnOk Tryd.prog Gs 22 (ap2 Sh.strings_CutPrefix) := fn_ok2 mixed ((orc_ent call_stringslite_CutPrefix (orc_no _ _))) Tryd.func22 (by kernel_rfl) tie_strings_CutPrefix
noncomputable def orc_dec_Digits : Orc := (ent 32 (ap2 Sh.strings_IndexFunc) noO)
theorem tie_dec_Digits : T2 Tryd.prog Gs false orc_dec_Digits Tryd.f15 (.two .leaf (.two (.two .leaf (.two (.two .leaf .leaf) .leaf)) (.two .leaf (.two .leaf (.two (.two .leaf (.two (.two .leaf .leaf) .leaf)) (.two .leaf .leaf)))))) .keep Sh.dec_Digits := by unfold T2; intros; kernel_rfl
theorem call_dec_Digits : FnOk Tryd.prog Gs 15 (ap2 Sh.dec_Digits) := fn_ok2 mixed ((orc_ent call_strings_IndexFunc (orc_no _ _))) Tryd.func15 (by kernel_rfl) tie_dec_Digits
noncomputable def orc_limb_Mul : Orc := (ent 39 (ap1 Sh.limb_cut) noO)
theorem tie_limb_Mul : T3 Tryd.prog Gs false orc_limb_Mul Tryd.f23 (.two .leaf (.two .leaf (.two .leaf (.two (.two .leaf (.one (.loop [0, 1, 7, 8, 17, 18, 19] (.two .leaf (.two (.two .leaf .leaf) (.two (.one (.two .leaf (.two .leaf (.two .leaf .leaf)))) .leaf)))))) (.two .leaf (.two .leaf .leaf)))))) .pureN Sh.limb_Mul := by unfold T3; intros; kernel_rfl
theorem call_limb_Mul : FnOk Tryd.prog Gs 23 (ap3 Sh.limb_Mul) := fn_ok3 mixed ((orc_ent call_limb_cut (orc_no _ _))) Tryd.func23 (by kernel_rfl) tie_limb_Mul
noncomputable def orc_dec_Parse : Orc := (ent 22 (ap2 Sh.strings_CutPrefix) (ent 23 (ap3 Sh.limb_Mul) (ent 15 (ap2 Sh.dec_Digits) noO)))
theorem tie_dec_Parse : T1 Tryd.prog Gs false orc_dec_Parse Tryd.f10 (.two .leaf (.two .leaf (.two (.one (.join [2, 4, 5, 14] (.two .leaf (.two .leaf (.two .leaf (.two .leaf .leaf)))) (.two (.two .leaf .leaf) (.two .leaf (.two (.two .leaf .leaf) .leaf))))) (.two .leaf (.two (.two .leaf (.one (.loop [2, 5, 6, 36] (.two .leaf (.two (.two .leaf .leaf) (.one (.two .leaf .leaf))))))) (.two .leaf .leaf)))))) .pureN Sh.dec_Parse := by unfold T1; intros; kernel_rfl
theorem call_dec_Parse : FnOk Tryd.prog Gs 10 (ap1 Sh.dec_Parse) := fn_ok1 mixed ((orc_ent call_strings_CutPrefix ((orc_ent call_limb_Mul ((orc_ent call_dec_Digits (orc_no _ _))))))) Tryd.func10 (by kernel_rfl) tie_dec_Parse
noncomputable def orc_gliderref01_cut : Orc := noO
theorem tie_gliderref01_cut : T1 Tryd.prog Gs false orc_gliderref01_cut Tryd.f70 (.two .leaf (.two (.one (.loop [0] (.two (.two .leaf (.two .leaf .leaf)) (.one .leaf)))) (.two .leaf .leaf))) .keepN Sh.gliderref01_cut := by unfold T1; intros; kernel_rfl
theorem call_gliderref01_cut : FnOk Tryd.prog Gs 70 (ap1 Sh.gliderref01_cut) := fn_ok1 mixed (orc_no _ _) Tryd.func70 (by kernel_rfl) tie_gliderref01_cut
noncomputable def orc_gliderref01_Bits : Orc := (ent 70 (ap1 Sh.gliderref01_cut) noO)
theorem tie_gliderref01_Bits : T1 Tryd.prog Gs false orc_gliderref01_Bits Tryd.f53 (.two .leaf (.two .leaf (.two (.two .leaf (.one (.loop [0, 3, 4] (.two (.two .leaf (.two .leaf .leaf)) (.two (.one (.two .leaf (.two .leaf (.one (.loop [0, 3, 4, 5, 6] (.two (.two .leaf (.two .leaf .leaf)) (.two (.one .leaf) .leaf))))))) .leaf))))) (.two .leaf .leaf)))) .pureN Sh.gliderref01_Bits := by unfold T1; intros; kernel_rfl
theorem call_gliderref01_Bits : FnOk Tryd.prog Gs 53 (ap1 Sh.gliderref01_Bits) := fn_ok1 mixed ((orc_ent call_gliderref01_cut (orc_no _ _))) Tryd.func53 (by kernel_rfl) tie_gliderref01_Bits
noncomputable def orc_gliderref01_Of : Orc := (ent 70 (ap1 Sh.gliderref01_cut) noO)
theorem tie_gliderref01_Of : T1 Tryd.prog Gs false orc_gliderref01_Of Tryd.f55 (.two .leaf (.two .leaf (.two .leaf (.two (.two .leaf (.one (.loop [0, 3, 4] (.two (.two .leaf (.two .leaf .leaf)) (.two (.one (.two .leaf (.two (.two .leaf (.one (.loop [0, 3, 4, 5, 6, 7] (.two (.two .leaf (.two .leaf .leaf)) (.two (.one (.join [0, 3, 4, 5, 6, 7] (.two .leaf (.two .leaf .leaf)) .leaf)) .leaf))))) .leaf))) .leaf))))) (.two .leaf .leaf))))) .pureN Sh.gliderref01_Of := by unfold T1; intros; kernel_rfl
theorem call_gliderref01_Of : FnOk Tryd.prog Gs 55 (ap1 Sh.gliderref01_Of) := fn_ok1 mixed ((orc_ent call_gliderref01_cut (orc_no _ _))) Tryd.func55 (by kernel_rfl) tie_gliderref01_Of
noncomputable def orc_gliderref01_Norm : Orc := (ent 53 (ap1 Sh.gliderref01_Bits) (ent 55 (ap1 Sh.gliderref01_Of) noO))
theorem tie_gliderref01_Norm : T1 Tryd.prog Gs false orc_gliderref01_Norm Tryd.f40 (.two .leaf (.two .leaf .leaf)) .keepN Sh.gliderref01_Norm := by unfold T1; intros; kernel_rfl
theorem call_gliderref01_Norm : FnOk Tryd.prog Gs 40 (ap1 Sh.gliderref01_Norm) := fn_ok1 mixed ((orc_ent call_gliderref01_Bits ((orc_ent call_gliderref01_Of (orc_no _ _))))) Tryd.func40 (by kernel_rfl) tie_gliderref01_Norm
noncomputable def orc_gliderref02_sign : Orc := (ent 40 (ap1 Sh.gliderref01_Norm) noO)
theorem tie_gliderref02_sign : T2 Tryd.prog Gs false orc_gliderref02_sign Tryd.f34 (.two .leaf (.two .leaf (.two .leaf .leaf))) .pureN Sh.gliderref02_sign := by unfold T2; intros; kernel_rfl
theorem call_gliderref02_sign : FnOk Tryd.prog Gs 34 (ap2 Sh.gliderref02_sign) := fn_ok2 mixed ((orc_ent call_gliderref01_Norm (orc_no _ _))) Tryd.func34 (by kernel_rfl) tie_gliderref02_sign
noncomputable def orc_gliderref02_Of : Orc := (ent 34 (ap2 Sh.gliderref02_sign) noO)
theorem tie_gliderref02_Of : T1 Tryd.prog Gs false orc_gliderref02_Of Tryd.f18 (.two .leaf (.two .leaf (.join [0, 2, 3] (.two .leaf (.two .leaf .leaf)) (.two .leaf .leaf)))) .pureN Sh.gliderref02_Of := by unfold T1; intros; kernel_rfl
theorem call_gliderref02_Of : FnOk Tryd.prog Gs 18 (ap1 Sh.gliderref02_Of) := fn_ok1 mixed ((orc_ent call_gliderref02_sign (orc_no _ _))) Tryd.func18 (by kernel_rfl) tie_gliderref02_Of
noncomputable def orc_gliderref01_Shl : Orc := (ent 53 (ap1 Sh.gliderref01_Bits) (ent 55 (ap1 Sh.gliderref01_Of) noO))
theorem tie_gliderref01_Shl : T2 Tryd.prog Gs false orc_gliderref01_Shl Tryd.f57 (.two .leaf (.two (.two .leaf (.two (.two .leaf .leaf) .leaf)) (.two (.reg [2, 3, 0, 1, 4, 5, 6]) .leaf))) .pureN Sh.gliderref01_Shl := by unfold T2; intros; kernel_rfl
theorem call_gliderref01_Shl : FnOk Tryd.prog Gs 57 (ap2 Sh.gliderref01_Shl) := fn_ok2 mixed ((orc_ent call_gliderref01_Bits ((orc_ent call_gliderref01_Of (orc_no _ _))))) Tryd.func57 (by kernel_rfl) tie_gliderref01_Shl
noncomputable def orc_gliderref02_Shl : Orc := (ent 57 (ap2 Sh.gliderref01_Shl) (ent 34 (ap2 Sh.gliderref02_sign) noO))
theorem tie_gliderref02_Shl : T2 Tryd.prog Gs false orc_gliderref02_Shl Tryd.f37 (.two .leaf (.two (.reg [2, 3, 4, 5, 0, 1, 6, 7]) .leaf)) .pureN Sh.gliderref02_Shl := by unfold T2; intros; kernel_rfl
theorem call_gliderref02_Shl : FnOk Tryd.prog Gs 37 (ap2 Sh.gliderref02_Shl) := fn_ok2 mixed ((orc_ent call_gliderref01_Shl ((orc_ent call_gliderref02_sign (orc_no _ _))))) Tryd.func37 (by kernel_rfl) tie_gliderref02_Shl
noncomputable def orc_gliderref02_Pow : Orc := (ent 18 (ap1 Sh.gliderref02_Of) (ent 37 (ap2 Sh.gliderref02_Shl) noO))
theorem tie_gliderref02_Pow : T1 Tryd.prog Gs false orc_gliderref02_Pow Tryd.f20 (.two .leaf (.two .leaf .leaf)) .pureN Sh.gliderref02_Pow := by unfold T1; intros; kernel_rfl
theorem call_gliderref02_Pow : FnOk Tryd.prog Gs 20 (ap1 Sh.gliderref02_Pow) := fn_ok1 mixed ((orc_ent call_gliderref02_Of ((orc_ent call_gliderref02_Shl (orc_no _ _))))) Tryd.func20 (by kernel_rfl) tie_gliderref02_Pow
noncomputable def orc_gliderref02_Minus : Orc := (ent 34 (ap2 Sh.gliderref02_sign) noO)
theorem tie_gliderref02_Minus : T1 Tryd.prog Gs false orc_gliderref02_Minus Tryd.f17 (.two .leaf (.two .leaf .leaf)) .pureN Sh.gliderref02_Minus := by unfold T1; intros; kernel_rfl
theorem call_gliderref02_Minus : FnOk Tryd.prog Gs 17 (ap1 Sh.gliderref02_Minus) := fn_ok1 mixed ((orc_ent call_gliderref02_sign (orc_no _ _))) Tryd.func17 (by kernel_rfl) tie_gliderref02_Minus
noncomputable def orc_gliderref01_Same : Orc := noO
theorem tie_gliderref01_Same : T2 Tryd.prog Gs false orc_gliderref01_Same Tryd.f31 (.two .leaf (.two (.two .leaf (.two (.two .leaf .leaf) .leaf)) (.two (.two .leaf (.one (.loop [0, 1, 5] (.two (.two .leaf (.two .leaf .leaf)) (.two (.one (.two (.reg [0, 1, 2, 3, 4, 5, 6, 7, 8]) (.two (.two .leaf .leaf) .leaf))) .leaf))))) (.two .leaf .leaf)))) .keep Sh.gliderref01_Same := by unfold T2; intros; kernel_rfl
theorem call_gliderref01_Same : FnOk Tryd.prog Gs 31 (ap2 Sh.gliderref01_Same) := fn_ok2 mixed (orc_no _ _) Tryd.func31 (by kernel_rfl) tie_gliderref01_Same
noncomputable def orc_gliderref02_Same : Orc := (ent 31 (ap2 Sh.gliderref01_Same) noO)
theorem tie_gliderref02_Same : T2 Tryd.prog Gs false orc_gliderref02_Same Tryd.f14 (.two .leaf (.two .leaf .leaf)) .pure Sh.gliderref02_Same := by unfold T2; intros; kernel_rfl
theorem call_gliderref02_Same : FnOk Tryd.prog Gs 14 (ap2 Sh.gliderref02_Same) := fn_ok2 mixed ((orc_ent call_gliderref01_Same (orc_no _ _))) Tryd.func14 (by kernel_rfl) tie_gliderref02_Same
noncomputable def orc_dec_pad : Orc := (ent 43 (ap1 Sh.strconv_Itoa) (ent 44 (ap2 Sh.strings_Repeat) noO))
theorem tie_dec_pad : T1 Tryd.prog Gs false orc_dec_pad Tryd.f26 (.two .leaf (.two .leaf (.two .leaf .leaf))) .keep Sh.dec_pad := by unfold T1; intros; kernel_rfl
theorem call_dec_pad : FnOk Tryd.prog Gs 26 (ap1 Sh.dec_pad) := fn_ok1 mixed ((orc_ent call_strconv_Itoa ((orc_ent call_strings_Repeat (orc_no _ _))))) Tryd.func26 (by kernel_rfl) tie_dec_pad
noncomputable def orc_slices_Reverse___string_string_ : Orc := noO
theorem tie_slices_Reverse___string_string_ : T1 Tryd.prog Gs false orc_slices_Reverse___string_string_ Tryd.f27 (.two .leaf (.one (.loop [0, 2, 3] (.two (.two .leaf (.two .leaf .leaf)) (.two (.one (.reg [0, 1, 4, 5, 6, 7, 8, 9, 10, 11, 12, 13, 2, 3, 14, 15])) .leaf))))) .keep Sh.slices_Reverse___string_string_ := by unfold T1; intros; kernel_rfl
theorem call_slices_Reverse___string_string_ : FnOk Tryd.prog Gs 27 (ap1 Sh.slices_Reverse___string_string_) := fn_ok1 mixed (orc_no _ _) Tryd.func27 (by kernel_rfl) tie_slices_Reverse___string_string_
noncomputable def orc_dec_Text : Orc := (ent 25 (ap2 Sh.limb_Div) (ent 26 (ap1 Sh.dec_pad) (ent 27 (ap1 Sh.slices_Reverse___string_string_) (ent 29 (ap2 Sh.strings_Join) (ent 28 (ap2 Sh.strings_TrimLeft) noO)))))
theorem tie_dec_Text : T1 Tryd.prog Gs true orc_dec_Text Tryd.f12 (.two .leaf (.two .leaf (.two .leaf (.two (.one (.loop [1, 3, 4] (.two (.two .leaf (.two .leaf .leaf)) (.one (.two .leaf .leaf))))) (.two .leaf (.two .leaf (.two (.one (.two .leaf (.two (.two .leaf .leaf) (.two .leaf (.two (.two .leaf .leaf) .leaf))))) (.two .leaf .leaf)))))))) .pure Sh.dec_Text := by unfold T1; intros; kernel_rfl
theorem call_dec_Text : FnOk Tryd.prog Gs 12 (ap1 Sh.dec_Text) := fn_ok1 mixed ((orc_ent call_limb_Div ((orc_ent call_dec_pad ((orc_ent call_slices_Reverse___string_string_ ((orc_ent call_strings_Join ((orc_ent call_strings_TrimLeft (orc_no _ _))))))))))) Tryd.func12 (by kernel_rfl) tie_dec_Text
noncomputable def orc_gliderlaw03_alive : Orc := (ent 10 (ap1 Sh.dec_Parse) (ent 20 (ap1 Sh.gliderref02_Pow) (ent 17 (ap1 Sh.gliderref02_Minus) (ent 14 (ap2 Sh.gliderref02_Same) (ent 12 (ap1 Sh.dec_Text) (ent 15 (ap2 Sh.dec_Digits) noO))))))
theorem tie_gliderlaw03_alive : T0 Tryd.prog Gs false orc_gliderlaw03_alive Tryd.f7 (.two .leaf (.two .leaf (.two .leaf (.two .leaf (.two (.reg [0, 1, 2, 3, 4, 5, 6, 7, 8, 9, 10, 12, 13, 11, 14, 15, 16, 17, 18, 19, 20, 21, 22, 23, 24, 25, 26, 27, 28, 29, 30]) .leaf))))) .pure Sh.gliderlaw03_alive := by unfold T0; intros; kernel_rfl
theorem call_gliderlaw03_alive : FnOk Tryd.prog Gs 7 (ap0 Sh.gliderlaw03_alive) := fn_ok0 mixed ((orc_ent call_dec_Parse ((orc_ent call_gliderref02_Pow ((orc_ent call_gliderref02_Minus ((orc_ent call_gliderref02_Same ((orc_ent call_dec_Text ((orc_ent call_dec_Digits (orc_no _ _))))))))))))) Tryd.func7 (by kernel_rfl) tie_gliderlaw03_alive
noncomputable def orc_gliderref02_Great : Orc := noO
theorem tie_gliderref02_Great : T1 Tryd.prog Gs false orc_gliderref02_Great Tryd.f8 (.two .leaf (.two .leaf .leaf)) .pure Sh.gliderref02_Great := by unfold T1; intros; kernel_rfl
theorem call_gliderref02_Great : FnOk Tryd.prog Gs 8 (ap1 Sh.gliderref02_Great) := fn_ok1 mixed (orc_no _ _) Tryd.func8 (by kernel_rfl) tie_gliderref02_Great
noncomputable def orc_gliderref01_Right : Orc := noO
theorem tie_gliderref01_Right : T1 Tryd.prog Gs false orc_gliderref01_Right Tryd.f21 (.two .leaf (.two .leaf .leaf)) .keep Sh.gliderref01_Right := by unfold T1; intros; kernel_rfl
theorem call_gliderref01_Right : FnOk Tryd.prog Gs 21 (ap1 Sh.gliderref01_Right) := fn_ok1 mixed (orc_no _ _) Tryd.func21 (by kernel_rfl) tie_gliderref01_Right
noncomputable def orc_gliderref02_Right : Orc := (ent 21 (ap1 Sh.gliderref01_Right) noO)
theorem tie_gliderref02_Right : T1 Tryd.prog Gs false orc_gliderref02_Right Tryd.f9 (.two .leaf (.two .leaf .leaf)) .pure Sh.gliderref02_Right := by unfold T1; intros; kernel_rfl
theorem call_gliderref02_Right : FnOk Tryd.prog Gs 9 (ap1 Sh.gliderref02_Right) := fn_ok1 mixed ((orc_ent call_gliderref01_Right (orc_no _ _))) Tryd.func9 (by kernel_rfl) tie_gliderref02_Right
end Go.Gm
/- The forms are what the evaluator comes to; so they are what the functions come to. -/
namespace Go.Gm
open Go.Proofs
set_option maxRecDepth 100000
noncomputable def orc_gliderref03_Digits : Orc := noO
theorem tie_gliderref03_Digits : T2 Tryd.prog Gs false orc_gliderref03_Digits Tryd.f16 (.two .leaf (.two .leaf (.two (.two .leaf (.one (.loop [0, 1, 5, 6] (.two (.two .leaf (.two .leaf .leaf)) (.two (.one .leaf) .leaf))))) (.two .leaf .leaf)))) .keep Sh.gliderref03_Digits := by unfold T2; intros; kernel_rfl
theorem call_gliderref03_Digits : FnOk Tryd.prog Gs 16 (ap2 Sh.gliderref03_Digits) := fn_ok2 mixed (orc_no _ _) Tryd.func16 (by kernel_rfl) tie_gliderref03_Digits
noncomputable def orc_gliderref01_Mul : Orc := (ent 40 (ap1 Sh.gliderref01_Norm) noO)
theorem tie_gliderref01_Mul : T3 Tryd.prog Gs false orc_gliderref01_Mul Tryd.f24 (.two .leaf (.two .leaf (.two .leaf (.two (.two .leaf (.one (.loop [0, 1, 7, 8, 9] (.two (.two .leaf (.two .leaf .leaf)) (.two (.one (.two .leaf .leaf)) .leaf))))) (.two .leaf .leaf))))) .pureN Sh.gliderref01_Mul := by unfold T3; intros; kernel_rfl
theorem call_gliderref01_Mul : FnOk Tryd.prog Gs 24 (ap3 Sh.gliderref01_Mul) := fn_ok3 mixed ((orc_ent call_gliderref01_Norm (orc_no _ _))) Tryd.func24 (by kernel_rfl) tie_gliderref01_Mul
noncomputable def orc_gliderref03_Parse : Orc := (ent 16 (ap2 Sh.gliderref03_Digits) (ent 24 (ap3 Sh.gliderref01_Mul) (ent 17 (ap1 Sh.gliderref02_Minus) noO)))
theorem tie_gliderref03_Parse : T1 Tryd.prog Gs false orc_gliderref03_Parse Tryd.f11 (.two .leaf (.two .leaf (.two .leaf (.join [2, 4, 5] (.two .leaf (.two .leaf .leaf)) (.two (.two .leaf (.two (.two .leaf .leaf) .leaf)) (.two (.two .leaf (.two (.two .leaf .leaf) .leaf)) (.two .leaf (.two (.two .leaf (.one (.loop [2, 4, 5, 6, 7] (.two (.two .leaf (.two .leaf .leaf)) (.two (.one .leaf) .leaf))))) (.two .leaf (.two (.two .leaf (.two (.two .leaf .leaf) .leaf)) (.two .leaf .leaf))))))))))) .pureN Sh.gliderref03_Parse := by unfold T1; intros; kernel_rfl
theorem call_gliderref03_Parse : FnOk Tryd.prog Gs 11 (ap1 Sh.gliderref03_Parse) := fn_ok1 mixed ((orc_ent call_gliderref03_Digits ((orc_ent call_gliderref01_Mul ((orc_ent call_gliderref02_Minus (orc_no _ _))))))) Tryd.func11 (by kernel_rfl) tie_gliderref03_Parse
noncomputable def orc_gliderref01_Div : Orc := (ent 40 (ap1 Sh.gliderref01_Norm) noO)
theorem tie_gliderref01_Div : T2 Tryd.prog Gs false orc_gliderref01_Div Tryd.f30 (.two .leaf (.two (.two .leaf (.two (.two .leaf .leaf) .leaf)) (.two .leaf (.two .leaf (.two (.two .leaf (.one (.loop [0, 1, 6, 7, 8] (.two (.two .leaf (.two .leaf .leaf)) (.two (.one (.two .leaf (.reg [0, 1, 2, 3, 4, 5, 6, 11, 12, 7, 8, 9, 10, 13]))) .leaf))))) (.two .leaf .leaf)))))) .pureN Sh.gliderref01_Div := by unfold T2; intros; kernel_rfl
theorem call_gliderref01_Div : FnOk Tryd.prog Gs 30 (ap2 Sh.gliderref01_Div) := fn_ok2 mixed ((orc_ent call_gliderref01_Norm (orc_no _ _))) Tryd.func30 (by kernel_rfl) tie_gliderref01_Div
noncomputable def orc_gliderref03_Text : Orc := (ent 30 (ap2 Sh.gliderref01_Div) noO)
theorem tie_gliderref03_Text : T1 Tryd.prog Gs false orc_gliderref03_Text Tryd.f13 (.two .leaf (.two .leaf (.two .leaf (.two (.one (.loop [1, 3, 4] (.one (.two .leaf (.two .leaf (.two .leaf (.two .leaf (.two .leaf .leaf)))))))) (.two (.two .leaf (.two (.two .leaf .leaf) .leaf)) (.two .leaf .leaf)))))) .pure Sh.gliderref03_Text := by unfold T1; intros; kernel_rfl
theorem call_gliderref03_Text : FnOk Tryd.prog Gs 13 (ap1 Sh.gliderref03_Text) := fn_ok1 mixed ((orc_ent call_gliderref01_Div (orc_no _ _))) Tryd.func13 (by kernel_rfl) tie_gliderref03_Text
noncomputable def orc_gliderlaw03_DecTexts : Orc := (ent 7 (ap0 Sh.gliderlaw03_alive) (ent 8 (ap1 Sh.gliderref02_Great) (ent 9 (ap1 Sh.gliderref02_Right) (ent 10 (ap1 Sh.dec_Parse) (ent 11 (ap1 Sh.gliderref03_Parse) (ent 12 (ap1 Sh.dec_Text) (ent 13 (ap1 Sh.gliderref03_Text) (ent 14 (ap2 Sh.gliderref02_Same) (ent 15 (ap2 Sh.dec_Digits) (ent 16 (ap2 Sh.gliderref03_Digits) noO))))))))))
theorem tie_gliderlaw03_DecTexts : T3 Tryd.prog Gs false orc_gliderlaw03_DecTexts Tryd.f3 (.two .leaf (.two (.two .leaf (.two (.two .leaf .leaf) .leaf)) (.two (.two .leaf (.two (.two .leaf .leaf) .leaf)) (.two .leaf (.two .leaf (.two (.reg [0, 1, 2, 3, 4, 5, 6, 7, 8, 9, 10, 11, 12, 13, 14, 15, 16, 17, 18, 19, 20, 21, 22, 23, 24]) .leaf)))))) .pure Sh.gliderlaw03_DecTexts := by unfold T3; intros; kernel_rfl
theorem call_gliderlaw03_DecTexts : FnOk Tryd.prog Gs 3 (ap3 Sh.gliderlaw03_DecTexts) := fn_ok3 mixed ((orc_ent call_gliderlaw03_alive ((orc_ent call_gliderref02_Great ((orc_ent call_gliderref02_Right ((orc_ent call_dec_Parse ((orc_ent call_gliderref03_Parse ((orc_ent call_dec_Text ((orc_ent call_gliderref03_Text ((orc_ent call_gliderref02_Same ((orc_ent call_dec_Digits ((orc_ent call_gliderref03_Digits (orc_no _ _))))))))))))))))))))) Tryd.func3 (by kernel_rfl) tie_gliderlaw03_DecTexts
noncomputable def orc_gliderlaw03_DecBack : Orc := (ent 7 (ap0 Sh.gliderlaw03_alive) (ent 9 (ap1 Sh.gliderref02_Right) (ent 12 (ap1 Sh.dec_Text) (ent 10 (ap1 Sh.dec_Parse) (ent 14 (ap2 Sh.gliderref02_Same) noO)))))
theorem tie_gliderlaw03_DecBack : T2 Tryd.prog Gs false orc_gliderlaw03_DecBack Tryd.f4 (.two .leaf (.two (.two .leaf (.two (.two .leaf .leaf) .leaf)) (.two (.two .leaf (.two (.two .leaf .leaf) .leaf)) (.two .leaf (.two .leaf (.two .leaf .leaf)))))) .pure Sh.gliderlaw03_DecBack := by unfold T2; intros; kernel_rfl
theorem call_gliderlaw03_DecBack : FnOk Tryd.prog Gs 4 (ap2 Sh.gliderlaw03_DecBack) := fn_ok2 mixed ((orc_ent call_gliderlaw03_alive ((orc_ent call_gliderref02_Right ((orc_ent call_dec_Text ((orc_ent call_dec_Parse ((orc_ent call_gliderref02_Same (orc_no _ _))))))))))) Tryd.func4 (by kernel_rfl) tie_gliderlaw03_DecBack
noncomputable def orc_gliderlaw03_DecLong : Orc := (ent 7 (ap0 Sh.gliderlaw03_alive) (ent 10 (ap1 Sh.dec_Parse) (ent 12 (ap1 Sh.dec_Text) noO)))
theorem tie_gliderlaw03_DecLong : T3 Tryd.prog Gs false orc_gliderlaw03_DecLong Tryd.f5 (.two .leaf (.two (.two .leaf (.two (.two .leaf .leaf) .leaf)) (.two .leaf (.two .leaf (.two (.two .leaf (.one (.loop [1, 2, 7, 8, 9] (.two (.two .leaf (.two .leaf .leaf)) (.two (.one .leaf) .leaf))))) (.two .leaf (.join [2, 7, 10] (.two .leaf (.two .leaf .leaf)) (.two .leaf (.two (.two .leaf (.two (.two .leaf .leaf) .leaf)) (.two .leaf .leaf)))))))))) .pure Sh.gliderlaw03_DecLong := by unfold T3; intros; kernel_rfl
theorem call_gliderlaw03_DecLong : FnOk Tryd.prog Gs 5 (ap3 Sh.gliderlaw03_DecLong) := fn_ok3 mixed ((orc_ent call_gliderlaw03_alive ((orc_ent call_dec_Parse ((orc_ent call_dec_Text (orc_no _ _))))))) Tryd.func5 (by kernel_rfl) tie_gliderlaw03_DecLong
noncomputable def orc_gliderref01_at : Orc := noO
theorem tie_gliderref01_at : T2 Tryd.prog Gs false orc_gliderref01_at Tryd.f54 (.two .leaf (.two .leaf .leaf)) .keep Sh.gliderref01_at := by unfold T2; intros; kernel_rfl
theorem call_gliderref01_at : FnOk Tryd.prog Gs 54 (ap2 Sh.gliderref01_at) := fn_ok2 mixed (orc_no _ _) Tryd.func54 (by kernel_rfl) tie_gliderref01_at
noncomputable def orc_gliderref01_Add : Orc := (ent 53 (ap1 Sh.gliderref01_Bits) (ent 54 (ap2 Sh.gliderref01_at) (ent 55 (ap1 Sh.gliderref01_Of) noO)))
theorem tie_gliderref01_Add : T2 Tryd.prog Gs false orc_gliderref01_Add Tryd.f35 (.two .leaf (.two .leaf (.two .leaf (.two .leaf (.two (.two .leaf (.one (.loop [5, 6, 7, 8, 9] (.two (.two .leaf (.two .leaf .leaf)) (.two (.one (.two .leaf (.join [5, 6, 7, 8, 9, 10] (.two .leaf (.two .leaf .leaf)) (.join [5, 6, 7, 8, 9, 10] (.two .leaf (.two .leaf .leaf)) (.join [5, 6, 7, 9, 10] (.two .leaf (.two .leaf .leaf)) .leaf))))) .leaf))))) (.two .leaf .leaf)))))) .pureN Sh.gliderref01_Add := by unfold T2; intros; kernel_rfl
theorem call_gliderref01_Add : FnOk Tryd.prog Gs 35 (ap2 Sh.gliderref01_Add) := fn_ok2 mixed ((orc_ent call_gliderref01_Bits ((orc_ent call_gliderref01_at ((orc_ent call_gliderref01_Of (orc_no _ _))))))) Tryd.func35 (by kernel_rfl) tie_gliderref01_Add
noncomputable def orc_gliderref01_Cmp : Orc := (ent 53 (ap1 Sh.gliderref01_Bits) (ent 54 (ap2 Sh.gliderref01_at) noO))
theorem tie_gliderref01_Cmp : T2 Tryd.prog Gs false orc_gliderref01_Cmp Tryd.f56 (.two .leaf (.two .leaf (.two (.two .leaf (.one (.loop [5, 6, 7] (.two (.two .leaf (.two .leaf .leaf)) (.two (.one (.two .leaf (.two (.two (.two .leaf (.two (.two .leaf .leaf) .leaf)) (.two .leaf .leaf)) .leaf))) .leaf))))) (.two .leaf .leaf)))) .keep Sh.gliderref01_Cmp := by unfold T2; intros; kernel_rfl
theorem call_gliderref01_Cmp : FnOk Tryd.prog Gs 56 (ap2 Sh.gliderref01_Cmp) := fn_ok2 mixed ((orc_ent call_gliderref01_Bits ((orc_ent call_gliderref01_at (orc_no _ _))))) Tryd.func56 (by kernel_rfl) tie_gliderref01_Cmp
noncomputable def orc_gliderref01_Sub : Orc := (ent 56 (ap2 Sh.gliderref01_Cmp) (ent 53 (ap1 Sh.gliderref01_Bits) (ent 54 (ap2 Sh.gliderref01_at) (ent 55 (ap1 Sh.gliderref01_Of) noO))))
theorem tie_gliderref01_Sub : T2 Tryd.prog Gs false orc_gliderref01_Sub Tryd.f36 (.two .leaf (.two (.two .leaf (.two (.two .leaf .leaf) .leaf)) (.two .leaf (.two .leaf (.two .leaf (.two (.two .leaf (.one (.loop [6, 7, 8, 9, 10] (.two (.two .leaf (.two .leaf .leaf)) (.two (.one (.two .leaf (.join [6, 7, 8, 10, 11] (.two .leaf (.two .leaf .leaf)) (.join [6, 7, 8, 10, 11] (.two .leaf (.two .leaf .leaf)) (.two .leaf (.join [6, 7, 8, 9, 10, 11] (.two .leaf (.two .leaf .leaf)) .leaf)))))) .leaf))))) (.two .leaf .leaf))))))) .pureN Sh.gliderref01_Sub := by unfold T2; intros; kernel_rfl
theorem call_gliderref01_Sub : FnOk Tryd.prog Gs 36 (ap2 Sh.gliderref01_Sub) := fn_ok2 mixed ((orc_ent call_gliderref01_Cmp ((orc_ent call_gliderref01_Bits ((orc_ent call_gliderref01_at ((orc_ent call_gliderref01_Of (orc_no _ _))))))))) Tryd.func36 (by kernel_rfl) tie_gliderref01_Sub
noncomputable def orc_gliderref02_Add : Orc := (ent 35 (ap2 Sh.gliderref01_Add) (ent 34 (ap2 Sh.gliderref02_sign) (ent 36 (ap2 Sh.gliderref01_Sub) noO)))
theorem tie_gliderref02_Add : T2 Tryd.prog Gs false orc_gliderref02_Add Tryd.f19 (.two .leaf (.two (.two .leaf (.two (.two (.reg [2, 3, 4, 5, 6, 0, 1, 7, 8]) .leaf) .leaf)) (.two .leaf (.two (.two .leaf (.two (.two .leaf .leaf) .leaf)) (.two .leaf (.two .leaf .leaf)))))) .pureN Sh.gliderref02_Add := by unfold T2; intros; kernel_rfl
theorem call_gliderref02_Add : FnOk Tryd.prog Gs 19 (ap2 Sh.gliderref02_Add) := fn_ok2 mixed ((orc_ent call_gliderref01_Add ((orc_ent call_gliderref02_sign ((orc_ent call_gliderref01_Sub (orc_no _ _))))))) Tryd.func19 (by kernel_rfl) tie_gliderref02_Add
noncomputable def orc_gliderlaw03_DecSigns : Orc := (ent 7 (ap0 Sh.gliderlaw03_alive) (ent 9 (ap1 Sh.gliderref02_Right) (ent 12 (ap1 Sh.dec_Text) (ent 17 (ap1 Sh.gliderref02_Minus) (ent 18 (ap1 Sh.gliderref02_Of) (ent 19 (ap2 Sh.gliderref02_Add) noO))))))
theorem tie_gliderlaw03_DecSigns : T2 Tryd.prog Gs false orc_gliderlaw03_DecSigns Tryd.f6 (.two .leaf (.two (.two .leaf (.two (.two .leaf .leaf) .leaf)) (.two (.two .leaf (.two (.two .leaf .leaf) .leaf)) (.two (.reg [0, 1, 2, 3, 4, 5, 6]) (.two (.two .leaf (.two (.two .leaf .leaf) .leaf)) (.two (.two .leaf (.two (.two .leaf .leaf) .leaf)) (.two .leaf (.two .leaf (.join [2, 5, 7, 8] (.two .leaf (.two .leaf .leaf)) (.two (.two .leaf (.one (.loop [2, 5, 7, 8, 9] (.two (.two .leaf (.two .leaf .leaf)) (.two (.one .leaf) .leaf))))) (.two (.reg [0, 1, 2, 3, 4, 5, 6, 7, 8, 9, 10]) .leaf))))))))))) .pure Sh.gliderlaw03_DecSigns := by unfold T2; intros; kernel_rfl
theorem call_gliderlaw03_DecSigns : FnOk Tryd.prog Gs 6 (ap2 Sh.gliderlaw03_DecSigns) := fn_ok2 mixed ((orc_ent call_gliderlaw03_alive ((orc_ent call_gliderref02_Right ((orc_ent call_dec_Text ((orc_ent call_gliderref02_Minus ((orc_ent call_gliderref02_Of ((orc_ent call_gliderref02_Add (orc_no _ _))))))))))))) Tryd.func6 (by kernel_rfl) tie_gliderlaw03_DecSigns
end Go.Gm
/- Arguments: what the reading of an input says of it, as values of the machine. -/
namespace Go.Gm
set_option linter.unusedVariables false
set_option linter.unusedSimpArgs false
/-- The cells of a value of a type: numbers, truths, texts, rows, structs and arrays of such. -/
def Shp (P : Program) : Nat → TypeId → List AVal → Prop
  | 0, _, _ => False
  | f + 1, t, vas => match P.underlying t with
    | some .bool => ∃ b, vas = [.bool b]
    | some (.int k) => ∃ n, vas = [.int k n] ∧ (Lit.int k n).wf = true
    | some .string => ∃ s, vas = [.str s] ∧ s.length ≤ maxLen
    | some (.slice e) => ∃ es, vas = [.sl es .no] ∧ es.length ≤ maxLen ∧ ∀ x ∈ es, Shp P f e x
    | some (.struct fs) => ∃ ps : List (List AVal), vas = ps.flatten ∧ ps.length = fs.toList.length ∧ ∀ (i : Nat) (fd : Field) (p : List AVal), fs.toList[i]? = some fd → ps[i]? = some p → Shp P f fd.type p
    | some (.array n e) => ∃ ps : List (List AVal), vas = ps.flatten ∧ ps.length = n ∧ ∀ p ∈ ps, Shp P f e p
    | _ => False
/-- Fields lie one behind the other. -/
def layF (P : Program) (total : Nat) : List Field → Nat → Bool
  | [], off => off == total
  | f :: r, off => f.offset == off && layF P total r (off + P.cellsOf f.type)
def supp (P : Program) : Nat → TypeId → Bool
  | 0, _ => false
  | f + 1, t => match P.underlying t with
    | some .bool => true
    | some (.int _) => true
    | some .string => true
    | some (.slice e) => decide (0 < P.cellsOf e) && supp P f e
    | some (.struct fs) => layF P (P.cellsOf t) fs.toList 0 && fs.toList.all fun fd => supp P f fd.type
    | some (.array n e) => decide (P.cellsOf t = n * P.cellsOf e) && supp P f e
    | _ => false
theorem mapM_mem {α β : Type} {f : α → Option β} : ∀ {l : List α} {r : List β}, l.mapM f = some r → ∀ a ∈ l, ∃ b, f a = some b
  | [], _, _, a, ha => by cases ha
  | x :: l, r, h, a, ha => by
    rw [List.mapM_cons] at h
    cases hx : f x with
    | none => simp [hx] at h
    | some b =>
      cases hl : l.mapM f with
      | none => simp [hx, hl] at h
      | some bs =>
        rcases List.mem_cons.1 ha with rfl | ha
        · exact ⟨b, hx⟩
        · exact mapM_mem hl a ha
theorem mapM_get {α β : Type} {f : α → Option β} : ∀ {l : List α} {r : List β}, l.mapM f = some r → r.length = l.length ∧ ∀ (i : Nat) (a : α), l[i]? = some a → r[i]? = f a
  | [], r, h => by
    have : r = [] := by simpa using h.symm
    subst this
    exact ⟨rfl, fun i a ha => by simp at ha⟩
  | x :: l, r, h => by
    rw [List.mapM_cons] at h
    cases hx : f x with
    | none => simp [hx] at h
    | some b =>
      cases hl : l.mapM f with
      | none => simp [hx, hl] at h
      | some bs =>
        have : r = b :: bs := by simpa [hx, hl] using h.symm
        subst this
        obtain ⟨h1, h2⟩ := mapM_get hl
        refine ⟨by simp [h1], fun i a ha => ?_⟩
        cases i with
        | zero => simp at ha; subst ha; simp [hx]
        | succ i => simp at ha ⊢; exact h2 i a ha
theorem Env0_I (W : World) (b o : Nat) : (Env0 W).I b o = W.cell? ⟨b, o, none⟩ := rfl
section
variable {H : Type} {enc : TypeId × Value → H} {P : Program} {w : World} {base : Nat} {spare : Nat → Bool} {held : Bool}
def OpenAt (enc : TypeId × Value → H) (P : Program) (w : World) (base : Nat) (spare : Nat → Bool) (held : Bool) (f fuel : Nat) : Prop :=
  ∀ (t : TypeId) (cs : List Value) (x : DataW H × List MemPlace), supp P f t = true → DataW.trod enc P w base spare held fuel t cs = some x → ∃ vas, VRels (Env0 w) vas cs ∧ (∀ c ∈ vas, isImm c = true) ∧ Shp P f t vas
theorem open_fields {f fuel : Nat} (ih : OpenAt enc P w base spare held f fuel) (cs : List Value) : ∀ (fs : List Field) (off : Nat) (r : List (DataW H × List MemPlace)), layF P cs.length fs off = true → (fs.all fun fd => supp P f fd.type) = true →
    (fs.mapM fun fd => DataW.trod enc P w base spare held fuel fd.type ((cs.drop fd.offset).take (P.cellsOf fd.type))) = some r → (∀ fd ∈ fs, ∀ (c : List Value) (x : DataW H × List MemPlace), DataW.trod enc P w base spare held fuel fd.type c = some x → True) →
    ∃ ps : List (List AVal), VRels (Env0 w) ps.flatten (cs.drop off) ∧ (∀ c ∈ ps.flatten, isImm c = true) ∧ ps.length = fs.length ∧ ∀ (i : Nat) (fd : Field) (p : List AVal), fs[i]? = some fd → ps[i]? = some p → Shp P f fd.type p
  | [], off, r, hlay, _, _, _ => by
    have : off = cs.length := by simpa [layF] using hlay
    subst this
    exact ⟨[], by simpa using VRels.nil _, fun c hc => by simp at hc, rfl, fun i fd p h => by simp at h⟩
  | fd :: fs, off, r, hlay, hs, hm, ht => by
    simp only [layF, Bool.and_eq_true, beq_iff_eq] at hlay
    obtain ⟨ho, hlay⟩ := hlay
    simp only [List.all_cons, Bool.and_eq_true] at hs
    rw [List.mapM_cons] at hm
    cases hx : DataW.trod enc P w base spare held fuel fd.type ((cs.drop fd.offset).take (P.cellsOf fd.type)) with
    | none => simp [hx] at hm
    | some x =>
      cases hl : fs.mapM fun fd => DataW.trod enc P w base spare held fuel fd.type ((cs.drop fd.offset).take (P.cellsOf fd.type)) with
      | none => simp [hx, hl] at hm
      | some xs =>
        obtain ⟨vas, a1, a2, a3⟩ := ih fd.type _ x hs.1 hx
        obtain ⟨ps, b1, b2, b3, b4⟩ := open_fields ih cs fs (off + P.cellsOf fd.type) xs hlay hs.2 hl (fun _ _ _ _ _ => trivial)
        refine ⟨vas :: ps, ?_, fun c hc => ?_, by simp [b3], fun i fd' p h1 h2 => ?_⟩
        · rw [List.flatten_cons]
          have e : cs.drop off = (cs.drop off).take (P.cellsOf fd.type) ++ cs.drop (off + P.cellsOf fd.type) := by
            rw [← List.drop_drop]; exact (List.take_append_drop _ _).symm
          rw [e]
          rw [ho] at a1
          exact a1.append b1
        · rw [List.flatten_cons] at hc
          rcases List.mem_append.1 hc with hc | hc
          · exact a2 c hc
          · exact b2 c hc
        · cases i with
          | zero => simp at h1 h2; subst h1; subst h2; exact a3
          | succ i => exact b4 i fd' p (by simpa using h1) (by simpa using h2)
theorem open_array {f fuel : Nat} (ih : OpenAt enc P w base spare held f fuel) {e : TypeId} (hs : supp P f e = true) (cs : List Value) : ∀ (d i n : Nat), i + d = n → cs.length = n * P.cellsOf e →
    (∀ j, j < n → ∃ x, DataW.trod enc P w base spare held fuel e ((cs.drop (j * P.cellsOf e)).take (P.cellsOf e)) = some x) →
    ∃ ps : List (List AVal), VRels (Env0 w) ps.flatten (cs.drop (i * P.cellsOf e)) ∧ (∀ c ∈ ps.flatten, isImm c = true) ∧ ps.length = d ∧ ∀ p ∈ ps, Shp P f e p
  | 0, i, n, hi, hl, _ => by
    have : cs.drop (i * P.cellsOf e) = [] := List.drop_of_length_le (by rw [hl, show i = n by omega]; exact Nat.le_refl _)
    rw [this]
    exact ⟨[], VRels.nil _, fun c hc => by simp at hc, rfl, fun p h => by simp at h⟩
  | d + 1, i, n, hi, hl, hm => by
    obtain ⟨x, hx⟩ := hm i (by omega)
    obtain ⟨vas, a1, a2, a3⟩ := ih e _ x hs hx
    obtain ⟨ps, b1, b2, b3, b4⟩ := open_array ih hs cs d (i + 1) n (by omega) hl hm
    refine ⟨vas :: ps, ?_, fun c hc => ?_, by simp [b3], fun p hp => ?_⟩
    · rw [List.flatten_cons]
      have e' : cs.drop (i * P.cellsOf e) = (cs.drop (i * P.cellsOf e)).take (P.cellsOf e) ++ cs.drop ((i + 1) * P.cellsOf e) := by
        rw [Nat.succ_mul, ← List.drop_drop]; exact (List.take_append_drop _ _).symm
      rw [e']
      exact a1.append b1
    · rw [List.flatten_cons] at hc
      rcases List.mem_append.1 hc with hc | hc
      · exact a2 c hc
      · exact b2 c hc
    · rcases List.mem_cons.1 hp with rfl | hp
      · exact a3
      · exact b4 p hp
theorem cells_row {a : Addr} {n : Nat} {r : List Value} (h : w.cells? base a n = some r) : r.length = n ∧ ∀ j, j < n → w.cell? (a.add j) = r[j]? := by
  unfold World.cells? at h
  split at h
  · obtain ⟨h1, h2⟩ := mapM_get h
    refine ⟨by simpa using h1, fun j hj => (h2 j j (List.getElem?_range hj)).symm⟩
  · cases h
theorem open_row {f fuel : Nat} (ih : OpenAt enc P w base spare held f fuel) {e : TypeId} (hpos : 0 < P.cellsOf e) (hs : supp P f e = true) (a : Addr) (len cap : Nat) (hc : len ≤ cap)
    (hm : ∀ i, i < len → ∃ x, (w.cells? base (a.add (i * P.cellsOf e)) (P.cellsOf e)).bind (DataW.trod enc P w base spare held fuel e) = some x) :
    ∃ es tk, VRel (Env0 w) (.sl es tk) (.slice (some a) len cap) ∧ (tk = .no) ∧ es.length = len ∧ ∀ x ∈ es, Shp P f e x := by
  by_cases h0 : len = 0
  · subst h0
    exact ⟨[], .no, .sl0 trivial (fun h => by cases h), rfl, rfl, fun x hx => by cases hx⟩
  · have each : ∀ i, ∃ vas : List AVal, i < len → ∃ r, w.cells? base (a.add (i * P.cellsOf e)) (P.cellsOf e) = some r ∧ VRels (Env0 w) vas r ∧ (∀ c ∈ vas, isImm c = true) ∧ Shp P f e vas := by
      intro i
      by_cases hi : i < len
      · obtain ⟨x, hx⟩ := hm i hi
        cases hr : w.cells? base (a.add (i * P.cellsOf e)) (P.cellsOf e) with
        | none => simp [hr] at hx
        | some r =>
          rw [hr, Option.bind_some] at hx
          obtain ⟨vas, a1, a2, a3⟩ := ih e r x hs hx
          exact ⟨vas, fun _ => ⟨r, rfl, a1, a2, a3⟩⟩
      · exact ⟨[], fun h => absurd h hi⟩
    obtain ⟨g, hg⟩ := Classical.axiomOfChoice each
    have hg : ∀ i, i < len → ∃ r, w.cells? base (a.add (i * P.cellsOf e)) (P.cellsOf e) = some r ∧ VRels (Env0 w) (g i) r ∧ (∀ c ∈ g i, isImm c = true) ∧ Shp P f e (g i) := hg
    have hsp : a.spot = none := by
      obtain ⟨r, h1, _⟩ := hg 0 (by omega)
      obtain ⟨h2, h3⟩ := cells_row h1
      have h4 := h3 0 hpos
      have h5 : (a.add (0 * P.cellsOf e)).add 0 = a := by simp [Addr.add]
      rw [h5, List.getElem?_eq_getElem (by omega)] at h4
      unfold World.cell? at h4
      split at h4
      · split at h4
        · cases h4
        · rename_i hh; simpa using hh
      · cases h4
    obtain ⟨b, o, sp⟩ := a
    simp only at hsp
    subst hsp
    have hadd : ∀ i j, ((⟨b, o, none⟩ : Addr).add (i * P.cellsOf e)).add j = ⟨b, o + (i * P.cellsOf e + j), none⟩ := fun i j => by rw [add_plain, add_plain, Nat.add_assoc]
    refine ⟨(List.range len).map g, .no, ?_, rfl, by simp, fun x hx => ?_⟩
    · have hl : ((List.range len).map g).length = len := by simp
      have key := VRel.sl (E := Env0 w) (es := (List.range len).map g) (tk := .no) (b := b) (o := o) (s := P.cellsOf e) (cap := cap) (fun i j => (w.cell? ⟨b, o + (i * P.cellsOf e + j), none⟩).getD default)
        (fun i x hx => ?_) (fun i j hi hj => ?_) (fun i x j c hx hc => ?_) (fun i x j c hx hc => ?_) (by rw [hl]; exact hc) trivial
      · rw [hl] at key; exact key
      · have hi : i < len := by have := (List.getElem?_eq_some_iff.1 hx).1; simpa using this
        rw [List.getElem?_map, List.getElem?_range hi] at hx
        simp at hx; subst hx
        obtain ⟨r, h1, h2, _⟩ := hg i hi
        rw [h2.1, (cells_row h1).1]
      · rw [hl] at hi
        obtain ⟨r, h1, h2, _⟩ := hg i hi
        obtain ⟨h3, h4⟩ := cells_row h1
        have h5 := h4 j hj
        rw [hadd] at h5
        rw [Env0_I, h5, List.getElem?_eq_getElem (by omega)]; rfl
      · have hi : i < len := by have := (List.getElem?_eq_some_iff.1 hx).1; simpa using this
        rw [List.getElem?_map, List.getElem?_range hi] at hx
        simp at hx; subst hx
        obtain ⟨r, h1, h2, h6, _⟩ := hg i hi
        exact h6 c (List.mem_of_getElem? hc)
      · have hi : i < len := by have := (List.getElem?_eq_some_iff.1 hx).1; simpa using this
        rw [List.getElem?_map, List.getElem?_range hi] at hx
        simp at hx; subst hx
        obtain ⟨r, h1, h2, h6, _⟩ := hg i hi
        obtain ⟨h3, h4⟩ := cells_row h1
        have hj : j < P.cellsOf e := by have := (List.getElem?_eq_some_iff.1 hc).1; rw [h2.1, h3] at this; exact this
        have h5 := h4 j hj
        rw [hadd] at h5
        refine h2.2 j c _ hc ?_
        rw [← h5, h5, List.getElem?_eq_getElem (by omega)]; rfl
    · simp only [List.mem_map, List.mem_range] at hx
      obtain ⟨i, hi, rfl⟩ := hx
      obtain ⟨r, _, _, _, h7⟩ := hg i hi
      exact h7
theorem one_rel {E : Env} {x : AVal} {v : Value} (h : VRel E x v) : VRels E [x] [v] := .cons h (.nil _)
theorem trod_open : ∀ (f fuel : Nat), OpenAt enc P w base spare held f fuel
  | 0, _ => fun t cs x hs _ => by simp [supp] at hs
  | _ + 1, 0 => fun t cs x _ h => by simp [DataW.trod] at h
  | f + 1, fuel + 1 => fun t cs x hs h => by
    have ih := trod_open f fuel
    unfold supp at hs
    unfold Shp
    cases hu : P.underlying t with
    | none => rw [hu] at hs; cases hs
    | some td =>
      rw [hu] at hs
      unfold DataW.trod at h
      rw [hu] at h
      cases td with
      | bool =>
        simp only at h
        split at h
        all_goals first | (rename_i hq; cases hq; done) | skip
        all_goals first | (cases h; done) | skip
        · rename_i b hq
          exact ⟨[.bool b], one_rel (.bool b), fun c hc => by simp at hc; subst hc; rfl, b, rfl⟩
      | int k =>
        simp only at h
        split at h
        all_goals first | (rename_i hq; cases hq; done) | skip
        all_goals first | (cases h; done) | skip
        · rename_i k2 k' n heq
          cases heq
          split at h
          · rename_i hc
            obtain ⟨rfl, hw⟩ := hc
            exact ⟨[.int _ _], one_rel (.int _ _), fun c hc => by simp at hc; subst hc; rfl, _, rfl, hw⟩
          · cases h
      | string =>
        simp only at h
        split at h
        all_goals first | (rename_i hq; cases hq; done) | skip
        all_goals first | (cases h; done) | skip
        · rename_i s heq
          split at h
          · rename_i hc
            have e : VRel (Env0 w) (.str s.data.toList) (.string s) := by
              have e : s = ⟨s.data.toList.toArray⟩ := by cases s; simp
              rw [e]; exact .str _
            refine ⟨[.str s.data.toList], one_rel e, fun c hc => by simp at hc; subst hc; rfl, _, rfl, hc⟩
          · cases h
      | slice e =>
        simp only [Bool.and_eq_true, decide_eq_true_eq] at hs
        simp only at h
        split at h
        all_goals first | (rename_i hq; cases hq; done) | skip
        all_goals first | (cases h; done) | skip
        · exact ⟨[.sl [] .no], one_rel (.sl0 trivial (fun _ => rfl)), fun c hc => by simp at hc; subst hc; rfl, [], rfl, Nat.zero_le _, fun x hx => by cases hx⟩
        · rename_i e2 a len cap heq
          cases heq
          split at h
          · rename_i hc
            obtain ⟨h1, h2, h3⟩ := hc
            cases hm : (List.range len).mapM fun i => (w.cells? base (a.add (i * P.cellsOf e)) (P.cellsOf e)).bind (DataW.trod enc P w base spare held fuel e) with
            | none => rw [hm] at h; cases h
            | some elems =>
              obtain ⟨es, tk, k1, rfl, k2, k3⟩ := open_row ih hs.1 hs.2 a len cap h2 (fun i hi => mapM_mem hm i (by simpa using hi))
              exact ⟨[.sl es .no], one_rel k1, fun c hc => by simp at hc; subst hc; rfl, es, rfl, by omega, k3⟩
          · cases h
      | struct fs =>
        simp only [Bool.and_eq_true] at hs
        simp only at h
        split at h
        · rename_i hc
          cases hm : fs.toList.mapM fun fd => DataW.trod enc P w base spare held fuel fd.type ((cs.drop fd.offset).take (P.cellsOf fd.type)) with
          | none => rw [hm] at h; cases h
          | some xs =>
            obtain ⟨ps, b1, b2, b3, b4⟩ := open_fields ih cs fs.toList 0 xs (by rw [hc]; exact hs.1) hs.2 hm (fun _ _ _ _ _ => trivial)
            exact ⟨ps.flatten, by simpa using b1, b2, ps, rfl, b3, b4⟩
        · cases h
      | array n e =>
        simp only [Bool.and_eq_true, decide_eq_true_eq] at hs
        simp only at h
        split at h
        · rename_i hc
          cases hm : (List.range n).mapM fun i => DataW.trod enc P w base spare held fuel e ((cs.drop (i * P.cellsOf e)).take (P.cellsOf e)) with
          | none => rw [hm] at h; cases h
          | some xs =>
            obtain ⟨ps, b1, b2, b3, b4⟩ := open_array ih hs.2 cs n 0 n (by omega) (by rw [hc]; exact hs.1) (fun j hj => mapM_mem hm j (by simpa using hj))
            exact ⟨ps.flatten, by simpa using b1, b2, ps, rfl, b3, b4⟩
        · cases h
      | _ => cases hs
theorem arg_one {r : Reach} {b0 f : Nat} {t : TypeId} {v : Value} {d : DataW H} {ps : List MemPlace} (hs : supp P f t = true) (hval : Value.okWide P w r b0 t v) (hd : DataW.Trod enc P w base spare held t v d ps)
    (hu : (match P.underlying t with | some (.slice _) => true | some (.int _) => true | some .string => true | some .bool => true | _ => false) = true) : ∃ x, VRel (Env0 w) x v ∧ Shp P f t [x] := by
  obtain ⟨fuel, hf⟩ := hd
  have hc : v.cells.toList = [v] := by
    unfold Value.okWide Cell.okWide Cell.ok at hval
    cases hx : P.underlying t with
    | none => rw [hx] at hu; cases hu
    | some td =>
      rw [hx] at hu hval
      cases td <;> first | (cases hu; done) | skip
      all_goals (cases v <;> first | (simp [Value.cells]; done) | (simp at hval; done) | (exact hval.elim; done))
  rw [hc] at hf
  obtain ⟨vas, a1, a2, a3⟩ := trod_open f fuel t [v] _ hs hf
  have hl := a1.1
  match vas, hl with
  | [x], _ => exact ⟨x, a1.2 0 x v rfl rfl, a3⟩
theorem arg_agg {r : Reach} {b0 f : Nat} {t : TypeId} {v : Value} {d : DataW H} {ps : List MemPlace} (hs : supp P f t = true) (hval : Value.okWide P w r b0 t v) (hd : DataW.Trod enc P w base spare held t v d ps)
    (hu : (match P.underlying t with | some (.struct _) => true | some (.array _ _) => true | _ => false) = true) : ∃ vas, VRel (Env0 w) (.agg vas) v ∧ Shp P f t vas := by
  obtain ⟨fuel, hf⟩ := hd
  have hc : ∃ cs, v = .agg cs := by
    unfold Value.okWide at hval
    cases hx : P.underlying t with
    | none => rw [hx] at hu; cases hu
    | some td =>
      rw [hx] at hu hval
      cases td <;> first | (cases hu; done) | skip
      all_goals (obtain ⟨cs, rfl, _⟩ := hval; exact ⟨cs, rfl⟩)
  obtain ⟨cs, rfl⟩ := hc
  obtain ⟨vas, a1, a2, a3⟩ := trod_open f fuel t _ _ hs hf
  exact ⟨vas, VRel.agg_of a1, a3⟩
/-- A row that came in: vas many elements vas its reading tells. -/
theorem arg_row {r : Reach} {b0 f : Nat} {t e : TypeId} {v : Value} {d : DataW H} {ps : List MemPlace} (hu : P.underlying t = some (.slice e)) (hs : supp P (f + 1) t = true) (hval : Value.okWide P w r b0 t v) (hd : DataW.Trod enc P w base spare held t v d ps) :
    ∃ es, VRel (Env0 w) (.sl es .no) v ∧ (∀ x ∈ es, Shp P f e x) ∧ es.length ≤ maxLen ∧ (es = [] ∨ ∃ elems spare, d = .slice elems spare ∧ elems.length = es.length) := by
  obtain ⟨x, h1, h2⟩ := arg_one hs hval hd (by rw [hu])
  unfold Shp at h2
  rw [hu] at h2
  obtain ⟨es, h3, h4, h5⟩ := h2
  injection h3 with h3 _
  subst h3
  refine ⟨es, h1, h5, h4, ?_⟩
  obtain ⟨fuel, hf⟩ := hd
  cases fuel with
  | zero => simp [DataW.trod] at hf
  | succ fuel =>
    unfold DataW.trod at hf
    rw [hu] at hf
    cases h1 with
    | sl0 _ _ => exact .inl rfl
    | sl fv hl hI hm hv hc ht =>
      rename_i b o s cap
      right
      have e1 : (Value.slice (some ⟨b, o, none⟩) es.length cap).cells.toList = [.slice (some ⟨b, o, none⟩) es.length cap] := rfl
      rw [e1] at hf
      simp only at hf
      split at hf
      · cases hm' : (List.range es.length).mapM fun i => (w.cells? base (Addr.add ⟨b, o, none⟩ (i * P.cellsOf e)) (P.cellsOf e)).bind (DataW.trod enc P w base spare held fuel e) with
        | none => rw [hm'] at hf; cases hf
        | some elems =>
          rw [hm', Option.bind_some] at hf
          obtain ⟨q1, _⟩ := mapM_get hm'
          rw [Option.map_eq_some_iff] at hf
          obtain ⟨rest, _, hf⟩ := hf
          injection hf with hf _
          exact ⟨_, _, hf.symm, by simpa using q1⟩
      · cases hf
end
end Go.Gm
/- Arguments of the laws: whole numbers, as values of the machine. -/
namespace Go.Gm
set_option linter.unusedVariables false
set_option linter.unusedSimpArgs false
section
variable {P : Program} {f : Nat} {t e : TypeId} {vas : List AVal}
theorem shp_int {k : IntKind} (hu : P.underlying t = some (.int k)) (h : Shp P (f + 1) t vas) : ∃ n, vas = [.int k n] ∧ (Lit.int k n).wf = true := by
  unfold Shp at h; rw [hu] at h; exact h
theorem shp_bool (hu : P.underlying t = some .bool) (h : Shp P (f + 1) t vas) : ∃ b, vas = [.bool b] := by
  unfold Shp at h; rw [hu] at h; exact h
theorem shp_str (hu : P.underlying t = some .string) (h : Shp P (f + 1) t vas) : ∃ s, vas = [.str s] ∧ s.length ≤ maxLen := by
  unfold Shp at h; rw [hu] at h; exact h
theorem shp_sl (hu : P.underlying t = some (.slice e)) (h : Shp P (f + 1) t vas) : ∃ es, vas = [.sl es .no] ∧ es.length ≤ maxLen ∧ ∀ x ∈ es, Shp P f e x := by
  unfold Shp at h; rw [hu] at h; exact h
theorem shp_st {fs : Array Field} (hu : P.underlying t = some (.struct fs)) (h : Shp P (f + 1) t vas) : ∃ ps : List (List AVal), vas = ps.flatten ∧ ps.length = fs.toList.length ∧ ∀ (i : Nat) (fd : Field) (p : List AVal), fs.toList[i]? = some fd → ps[i]? = some p → Shp P f fd.type p := by
  unfold Shp at h; rw [hu] at h; exact h
theorem wf_b {k : IntKind} {n : Int} (h : (Lit.int k n).wf = true) : k.min ≤ n ∧ n ≤ k.max := by
  simp only [Lit.wf, Bool.and_eq_true, decide_eq_true_eq] at h; exact h
theorem wf_u32 {n : Int} (h : (Lit.int .u32 n).wf = true) : 0 ≤ n ∧ n < 4294967296 := by
  have h1 := wf_b h
  rw [show IntKind.u32.min = 0 from rfl, show IntKind.u32.max = 4294967295 from rfl] at h1
  omega
theorem wf_u8 {n : Int} (h : (Lit.int .u8 n).wf = true) : 0 ≤ n ∧ n < 256 := by
  have h1 := wf_b h
  rw [show IntKind.u8.min = 0 from rfl, show IntKind.u8.max = 255 from rfl] at h1
  omega
theorem wf_i64 {n : Int} (h : (Lit.int .i64 n).wf = true) : -9223372036854775808 ≤ n ∧ n ≤ 9223372036854775807 := by
  have h1 := wf_b h
  rw [show IntKind.i64.min = -9223372036854775808 from rfl, show IntKind.i64.max = 9223372036854775807 from rfl] at h1
  omega
/-- Elements of one shape, each told by something of ours. -/
theorem rows_of {α : Type} {g : α → List AVal} {p : α → Prop} : ∀ {es : List (List AVal)}, (∀ x ∈ es, ∃ a, x = g a ∧ p a) → ∃ l : List α, es = enL g l ∧ ∀ a ∈ l, p a
  | [], _ => ⟨[], rfl, fun a h => by cases h⟩
  | x :: es, h => by
    obtain ⟨a, rfl, ha⟩ := h x (by simp)
    obtain ⟨l, rfl, hl⟩ := rows_of (g := g) (p := p) (es := es) fun y hy => h y (by simp [hy])
    exact ⟨a :: l, rfl, fun b hb => by rcases List.mem_cons.1 hb with rfl | hb; exact ha; exact hl b hb⟩
theorem shp_limbs (h1 : P.underlying t = some (.slice e)) (h2 : P.underlying e = some (.int .u32)) (h : Shp P (f + 2) t vas) : ∃ l : List Nat, vas = [.sl (enL cU l) .no] ∧ Lim l ∧ l.length ≤ maxLen := by
  obtain ⟨es, rfl, hl, he⟩ := shp_sl h1 h
  obtain ⟨l, rfl, hp⟩ := rows_of (g := cU) (p := fun n => n < 4294967296) (es := es) fun x hx => by
    obtain ⟨n, rfl, hw⟩ := shp_int h2 (he x hx)
    obtain ⟨w1, w2⟩ := wf_u32 hw
    exact ⟨n.toNat, by show [AVal.int .u32 n] = [AVal.int .u32 (n.toNat : Int)]; rw [Int.toNat_of_nonneg w1], by omega⟩
  exact ⟨l, rfl, hp, by simpa using hl⟩
/-- What the types of whole numbers are. -/
structure BigTy (P : Program) (tb : TypeId) : Prop where
  ex : ∃ (f0 f1 : Field) (e : TypeId), P.underlying tb = some (.struct #[f0, f1]) ∧ P.underlying f0.type = some .bool ∧ P.underlying f1.type = some (.slice e) ∧ P.underlying e = some (.int .u32)
theorem shp_big {tb : TypeId} (hb : BigTy P tb) (h : Shp P (f + 3) tb vas) : ∃ n l, vas = [.bool n, .sl (enL cU l) .no] ∧ Lim l := by
  obtain ⟨f0, f1, e, h1, h2, h3, h4⟩ := hb.ex
  obtain ⟨ps, rfl, hl, hp⟩ := shp_st h1 h
  match ps, hl with
  | [p0, p1], _ =>
    obtain ⟨n, rfl⟩ := shp_bool h2 (hp 0 f0 p0 rfl rfl)
    obtain ⟨l, rfl, hlim, _⟩ := shp_limbs h3 h4 (hp 1 f1 p1 rfl rfl)
    exact ⟨n, l, rfl, hlim⟩
end
end Go.Gm
/- The tables that the rows of this seat list, and a world that holds them. -/
namespace Go.Proofs.YtenmplcmmdaibaaDoor
open Go.ChangeShapes Go.WideShapes Go.ChangeAt Go.RowKit Go.Gm
set_option linter.unusedVariables false
theorem own : ownKnob Tryd.prog.godebug = none := by kernel_rfl
theorem laidOut : laidOutB Tryd.prog = true := by kernel_rfl
theorem gTab : Tryd.prog.globalNamed "internal/strconv.uint64pow10" = some 4 := by kernel_rfl
theorem gTabType : (Tryd.prog.globals[4]?).map (·.type) = some 127 := by kernel_rfl
/-- The cells that a table's list lays. -/
def flatD : Nat → DataW Unit → List Value
  | _, .lit (.int k n) => [.int k n]
  | f + 1, .agg ds => ds.flatMap (flatD f)
  | _, _ => []
def theLaid : List (String × DataW Unit) := [("math/bits.deBruijn32tab", Rows.laid_math_bits_deBruijn32tab), ("math/bits.deBruijn64tab", Rows.laid_math_bits_deBruijn64tab), ("internal/strconv.uint64pow10", Rows.laid_internal_strconv_uint64pow10), ("unicode/utf8.acceptRanges", Rows.laid_unicode_utf8_acceptRanges), ("unicode/utf8.first", Rows.laid_unicode_utf8_first)]
theorem pow_data : (Rows.laid_internal_strconv_uint64pow10 : DataW Unit) = Lib.tabData .u64 Lib.pow10Tab := by kernel_rfl
theorem table {W : World} (h : laidMetH Tryd.prog theLaid W) : Lib.TabIs Tryd.prog W "internal/strconv.uint64pow10" .u64 Lib.pow10Tab := by
  have h' : laidMet Tryd.prog theLaid W := h
  obtain ⟨ps, ⟨g1, t1, c1, f1, p1, q1, e1, e2, e3, e4, ⟨g2, t2, c2, f2, p2, q2, e5, e6, e7, e8, ⟨g', t', cs, fuel, p, q, hg', ht', hvar, hd, _, _⟩, _⟩, _⟩, _⟩ := h'
  obtain rfl := Option.some.inj (gTab.symm.trans hg')
  obtain rfl := Option.some.inj (gTabType.symm.trans ht')
  unfold Lib.TabIs
  rw [hvar]
  rw [pow_data] at hd
  rw [← Lib.cells_of_tab Tryd.underlying127 Tryd.underlying58 (by kernel_rfl) (by kernel_rfl) hd]
theorem fixed {W : World} (h : laidMetH Tryd.prog theLaid W) : ∀ b cs, FixT b = some cs → 0 < cs.size ∧ ∃ t fr, W.heap[b]? = some (.cells cs t fr) := by
  intro b cs hb
  have ht := table h
  unfold FixT at hb
  split at hb
  · rename_i e
    subst e
    cases hb
    refine ⟨by decide, ?_⟩
    unfold Lib.TabIs World.var? at ht
    rw [gTab] at ht
    simp only [Option.bind_some] at ht
    split at ht
    · rename_i cs t fr hh
      cases ht
      exact ⟨t, fr, hh⟩
    · cases ht
  · cases hb
def layCells (h : Array Obj) (g : Nat) (vs : Array Value) : Array Obj := h.modify g fun
  | .cells _ t frozen => .cells vs t frozen
  | o => o
def layAll (h : Array Obj) (x : Nat × DataW Unit) : Array Obj := layCells h x.1 (flatD 4 x.2).toArray
/-- A world for the witness: the settled one, with the tables. -/
noncomputable def laidWorld (os : Os) : World :=
  { World.holding Tryd.prog os ⟨#[], #[], []⟩ with heap := [(5, Rows.laid_math_bits_deBruijn32tab), (6, Rows.laid_math_bits_deBruijn64tab), (4, Rows.laid_internal_strconv_uint64pow10), (2, Rows.laid_unicode_utf8_acceptRanges), (1, Rows.laid_unicode_utf8_first)].foldl layAll (World.holding Tryd.prog os ⟨#[], #[], []⟩).heap }
theorem laid_met (os : Os) (args : Array Value) : laidMet Tryd.prog theLaid ((laidWorld os).forCall (fun _ _ => 0) ⟨#[], args, []⟩).memory :=
  laidMet_of_run' 8 (by kernel_rfl) (by kernel_rfl)
theorem bigTy : BigTy Tryd.prog 24 := ⟨_, _, _, Tryd.underlying24, Tryd.underlying4, Tryd.underlying22, Tryd.underlying46⟩
theorem bigSupp : supp Tryd.prog 3 24 = true := by kernel_rfl
theorem nat_u8 {n : Int} (h : (Lit.int .u8 n).wf = true) : ∃ m : Nat, n = (m : Int) ∧ m < 256 := by
  obtain ⟨h1, h2⟩ := wf_u8 h
  exact ⟨n.toNat, by omega, by omega⟩
theorem nat_u16 {n : Int} (h : (Lit.int .u16 n).wf = true) : ∃ m : Nat, n = (m : Int) ∧ m < 65536 := by
  have h1 := wf_b h
  rw [show IntKind.u16.min = 0 from rfl, show IntKind.u16.max = 65535 from rfl] at h1
  exact ⟨n.toNat, by omega, by omega⟩
theorem str_rel (E : Env) (s : ByteArray) : VRel E (.str s.data.toList) (.string s) := by
  have : s = ⟨s.data.toList.toArray⟩ := by cases s; simp
  rw [this]; exact .str _
end Go.Proofs.YtenmplcmmdaibaaDoor
/- The form of limb.Mul: times a number, and one more. -/
namespace Go.Gm
set_option linter.unusedVariables false
set_option linter.unusedSimpArgs false
theorem fall_msT {α : Type} {f : α → List AVal} {sz : Nat} [hf : Sz f sz] [hp : Pl f] {H : AHeap} {l : List α} {id b d cap k : Nat} {ex : Bool} (hg : getCells H id 0 = some (flat f l)) (hi : b ≤ id) (hk : k ≤ l.length) : fall H b (d + 3) (.ms id 0 0 k cap sz ex) = some (.sl (enL f (l.take k)) .no) := by
  have h1 : ¬ id < b := by omega
  have h2 : k * sz ≤ l.length * sz := Nat.mul_le_mul_right _ hk
  have h3 : (l.take k).length = k := by simp; omega
  have h4 := chunk_fl (f := f) (l.take k)
  rw [h3] at h4
  unfold fall
  simp only [frz, h1, if_false, hg, Option.bind_some, List.drop_zero, Nat.zero_add, flat_len, h2, if_true, flat_take, plnC_frzL (flat_pl (f := f) (l.take k)), flat_imm (f := f) (l.take k), h4, Option.map_some, forget, fgtA, fgt]
theorem wrap_u32m (t : Nat) : IntKind.u32.wrap (t : Int) = ((t % 4294967296 : Nat) : Int) := by
  simp only [IntKind.wrap, IntKind.bits, IntKind.signed]
  simp
theorem bin_shr64 (t : Nat) : binA .none .shr (.int .u64 (t : Int)) (.int .u64 32) = some (.int .u64 ((t / 4294967296 : Nat) : Int)) := by
  show some (AVal.int .u64 ((t : Int).fdiv 4294967296)) = _
  rw [Int.fdiv_eq_ediv_of_nonneg _ (by decide)]
  rfl
theorem mul_step {x m c : Nat} (hx : x < 4294967296) (hm : m < 4294967296) (hc : c < 4294967296) : c + x * m < 18446744073709551616 := by
  have h1 : x * m ≤ 4294967295 * 4294967295 := Nat.mul_le_mul (by omega) (by omega)
  omega
theorem val_single (x : Nat) : val [x] = x := by simp [val]
/-- The product, limb by limb: what is laid, and what is carried. -/
def mulS (l : List Nat) (m c : Nat) : Nat → List Nat × Nat
  | 0 => ([], c)
  | i + 1 => ((mulS l m c i).1 ++ [((mulS l m c i).2 + l[i]?.getD 0 * m) % 4294967296], ((mulS l m c i).2 + l[i]?.getD 0 * m) / 4294967296)
theorem mulS_ok {l : List Nat} {m c : Nat} (hx : Lim l) (hm : m < 4294967296) (hc : c < 4294967296) : ∀ i, i ≤ l.length →
    (mulS l m c i).1.length = i ∧ (mulS l m c i).2 < 4294967296 ∧ Lim (mulS l m c i).1 ∧ val (mulS l m c i).1 + 4294967296 ^ i * (mulS l m c i).2 = val (l.take i) * m + c
  | 0, _ => ⟨rfl, hc, fun x h => (by cases h), by simp [mulS, val]⟩
  | i + 1, hi => by
    obtain ⟨h1, h2, h3, h4⟩ := mulS_ok hx hm hc i (by omega)
    have hxi := hx _ (List.getElem_mem (show i < l.length by omega))
    have hg : l[i]?.getD 0 = l[i] := by rw [List.getElem?_eq_getElem (by omega)]; rfl
    have ht := mul_step hxi hm h2
    simp only [mulS, hg]
    refine ⟨by simp [h1], ?_, ?_, ?_⟩
    · omega
    · intro x hxx
      rcases List.mem_append.1 hxx with h | h
      · exact h3 x h
      · rw [List.mem_singleton.1 h]; exact Nat.mod_lt _ (by decide)
    · rw [List.take_succ_eq_append_getElem (by omega), val_append, val_append, h1, List.length_take, Nat.min_eq_left (by omega)]
      have hdm := Nat.div_add_mod ((mulS l m c i).2 + l[i] * m) 4294967296
      simp only [val, Nat.mul_zero, Nat.add_zero]
      generalize ((mulS l m c i).2 + l[i] * m) / 4294967296 = q at *
      generalize ((mulS l m c i).2 + l[i] * m) % 4294967296 = r at *
      rw [Nat.pow_succ, Nat.mul_assoc, Nat.add_assoc, ← Nat.mul_add, show r + 4294967296 * q = (mulS l m c i).2 + l[i] * m by omega, Nat.mul_add, Nat.add_mul]
      rw [← Nat.add_assoc, h4, Nat.mul_assoc]
      omega
theorem q_mul {l : List Nat} {tk : Tok} {m c : Nat} (H : AHeap) (hx : Lim l) (hl : l.length ≤ 1099511627776) (hm : m < 4294967296) (hc : c < 4294967296) :
    Sh.limb_Mul (.sl (enL cU l) tk) (.int .u32 (m : Int)) (.int .u32 (c : Int)) H = some (.ret (.sl (enL cU (lims (val l * m + c))) .no), H) := by
  unfold Sh.limb_Mul
  have hn : IntKind.i64.wrap ((l.length : Int) + 1) = ((l.length + 1 : Nat) : Int) := by rw [wrap_i64] <;> omega
  have hmk := make_flat (f := cU) (a := 0) (n := l.length + 1) (bytes := 4) (H := H) (by omega) (by omega)
  simp only [show cU 0 = [AVal.int .u32 0] from rfl] at hmk
  have hcc : convInt .u64 (.int .u32 (c : Int)) = some (.int .u64 (c : Int)) := by rw [conv_int, wrap_u64 (by omega) (by omega)]
  have hcm : convInt .u64 (.int .u32 (m : Int)) = some (.int .u64 (m : Int)) := by rw [conv_int, wrap_u64 (by omega) (by omega)]
  simp only [GMb, joinPt, decide_true, decide_false, if_true, if_false, len_enL, hn, hmk, hcc]
  refine loop_up l.length (fun i => [.sl (enL cU l) tk, .int .u32 (m : Int), .ms H.length 0 0 (l.length + 1) (l.length + 1) 1 true, .int .u64 ((mulS l m c i).2 : Int), .sl (enL cU l) tk, .int .i64 (l.length : Int), .int .i64 (i : Int)])
    (fun i => H ++ [.cel 0 (flat cU ((mulS l m c i).1 ++ List.replicate (l.length + 1 - i) 0))]) _ (by omega) (fun rec i hi => ?_) (fun rec => ?_)
  · obtain ⟨h1, h2, h3, h4⟩ := mulS_ok hx hm hc i (by omega)
    have hi' : (i : Int) < (l.length : Int) := by omega
    have hxi := hx _ (List.getElem_mem hi)
    have hg : l[i]?.getD 0 = l[i] := by rw [List.getElem?_eq_getElem hi]; rfl
    have ht := mul_step hxi hm h2
    have hidx := idx_ms (sz := 1) (id := H.length) (n := l.length + 1) (K := .i64) (g := 0) (off := 0) (cap := l.length + 1) (ex := true) (i := i) (by omega)
    simp only [Nat.zero_add, Nat.mul_one] at hidx
    obtain ⟨t, htt⟩ : ∃ t, t = (mulS l m c i).2 + l[i] * m := ⟨_, rfl⟩
    have hP : l[i] * m ≤ 4294967295 * 4294967295 := Nat.mul_le_mul (by omega) (by omega)
    have w1 : convInt .u64 (.int .u32 (l[i] : Int)) = some (.int .u64 (l[i] : Int)) := by rw [conv_int, wrap_u64 (by omega) (by omega)]
    have w2 : IntKind.u64.wrap ((l[i] : Int) * (m : Int)) = ((l[i] * m : Nat) : Int) := by rw [← Int.natCast_mul, wrap_u64 (by omega) (by omega)]
    have w3 : IntKind.u64.wrap (((mulS l m c i).2 : Int) + ((l[i] * m : Nat) : Int)) = (t : Int) := by rw [wrap_u64] <;> omega
    have w4 : convInt .u32 (.int .u64 (t : Int)) = some (.int .u32 ((t % 4294967296 : Nat) : Int)) := by rw [conv_int, wrap_u32m]
    have w5 : binA .none .shr (.int .u64 (t : Int)) (.int .u64 32) = some (.int .u64 ((t / 4294967296 : Nat) : Int)) := bin_shr64 t
    have w6 : IntKind.i64.wrap ((i : Int) + 1) = ((i + 1 : Nat) : Int) := by rw [wrap_i64] <;> omega
    have hst := store_el (f := cU) (sz := 1) (l := (mulS l m c i).1 ++ List.replicate (l.length + 1 - i) 0) (i := i) (a := t % 4294967296) (v := .int .u32 ((t % 4294967296 : Nat) : Int)) (H := H ++ [Blk.cel 0 (flat cU ((mulS l m c i).1 ++ List.replicate (l.length + 1 - i) 0))]) (id := H.length) (get_cel last_cel) (by simp; omega) rfl
    have hset : ((mulS l m c i).1 ++ List.replicate (l.length + 1 - i) 0).set i (t % 4294967296) = (mulS l m c (i + 1)).1 ++ List.replicate (l.length + 1 - (i + 1)) 0 := by
      rw [show l.length + 1 - i = (l.length + 1 - (i + 1)) + 1 by omega, List.replicate_succ, List.set_append_right _ _ (by omega), h1, Nat.sub_self, List.set_cons_zero]
      simp [mulS, hg, ← htt]
    rw [Nat.mul_one, setC_cel last_cel, last_set, hset] at hst
    unfold Sh.limb_Mul_l1
    simp only [GMb, joinPt, decide_true, decide_false, if_true, if_false, ag_succ, hi', idx_enL hi, load_cptr, List.getElem?_cons_zero, w1, hcm, w2, w3, w4, hidx, hst, w5, w6]
    simp only [mulS, hg, ← htt]
  · obtain ⟨h1, h2, h3, h4⟩ := mulS_ok hx hm hc l.length (Nat.le_refl _)
    have hidx := idx_ms (sz := 1) (id := H.length) (n := l.length + 1) (K := .i64) (g := 0) (off := 0) (cap := l.length + 1) (ex := true) (i := l.length) (by omega)
    simp only [Nat.zero_add, Nat.mul_one] at hidx
    have w4 : convInt .u32 (.int .u64 ((mulS l m c l.length).2 : Int)) = some (.int .u32 ((mulS l m c l.length).2 : Int)) := by rw [conv_int, wrap_u32 (by omega) (by omega)]
    have hst := store_el (f := cU) (sz := 1) (l := (mulS l m c l.length).1 ++ List.replicate (l.length + 1 - l.length) 0) (i := l.length) (a := (mulS l m c l.length).2) (v := .int .u32 ((mulS l m c l.length).2 : Int)) (H := H ++ [Blk.cel 0 (flat cU ((mulS l m c l.length).1 ++ List.replicate (l.length + 1 - l.length) 0))]) (id := H.length) (get_cel last_cel) (by simp; omega) rfl
    have hset : ((mulS l m c l.length).1 ++ List.replicate (l.length + 1 - l.length) 0).set l.length (mulS l m c l.length).2 = (mulS l m c l.length).1 ++ [(mulS l m c l.length).2] := by
      rw [show l.length + 1 - l.length = 1 by omega, List.set_append_right _ _ (by omega), h1, Nat.sub_self]
      rfl
    rw [Nat.mul_one, setC_cel last_cel, last_set, hset] at hst
    obtain ⟨o, ho⟩ : ∃ o, o = (mulS l m c l.length).1 ++ [(mulS l m c l.length).2] := ⟨_, rfl⟩
    have hol : o.length = l.length + 1 := by rw [ho]; simp [h1]
    have hox : Lim o := by
      intro x hxx
      rw [ho] at hxx
      rcases List.mem_append.1 hxx with h | h
      · exact h3 x h
      · rw [List.mem_singleton.1 h]; exact h2
    have hov : val o = val l * m + c := by
      rw [ho, val_append, h1, val_single]
      rw [List.take_length] at h4
      exact h4
    rw [← ho] at hst
    have hct := q_cut (l := o) (H := H ++ [Blk.cel 0 (flat cU o)]) (id := H.length) last_cel (by omega)
    have htk := topK_lims hox o.length (Nat.le_refl _)
    rw [List.take_length, hov] at htk
    have hfa := fall_msT (f := cU) (sz := 1) (b := H.length) (d := 5) (cap := o.length) (ex := true) (k := topK o o.length) (l := o) (H := H ++ [Blk.cel 0 (flat cU o)]) (id := H.length) (get_cel last_cel) (Nat.le_refl _) (topK_le o _)
    rw [htk] at hfa
    rw [hol] at hct hfa
    unfold Sh.limb_Mul_l1
    simp only [GMb, joinPt, decide_true, decide_false, if_true, if_false, ag_succ, Int.lt_irrefl, len_enL, w4, hidx, hst, hct, rPN_app, hfa, Option.map_some]
end Go.Gm
/- Chapter 1 of the document: bits and limbs. -/
namespace Go.Gm
set_option linter.unusedVariables false
set_option linter.unusedSimpArgs false
theorem q01_cut (l : List Bool) (tk : Tok) (H : AHeap) (hb : l.length < 1152921504606846976) : Sh.gliderref01_cut (.sl (enL cB l) tk) H = some (.ret (.sl (enL cB (cutL l)) .no), H) := by
  unfold Sh.gliderref01_cut
  refine loop_fun (σ := List Bool × Tok) (fun s => s.1.length < 1152921504606846976) (fun s => [.sl (enL cB s.1) s.2]) (fun _ => H) (fun s => s.1.length) (fun s => some (.ret (.sl (enL cB (cutL s.1)) .no), H)) (fun s rec hs hrec => ?_) (l, tk) hb hb
  obtain ⟨l, tk⟩ := s
  simp only at hs hrec ⊢
  unfold Sh.gliderref01_cut_l1
  rcases snoc_cases l with rfl | ⟨l', b, rfl⟩
  · simp [cutL_nil]
  · simp only [List.length_append, List.length_singleton] at hs hrec
    have h1 : l'.length < (l' ++ [b]).length := by simp
    have h2 : ((((l' ++ [b]).length : Nat) : Int) > 0) := by simp
    have h3 : IntKind.i64.wrap ((((l' ++ [b]).length : Nat) : Int) - 1) = (l'.length : Int) := by rw [wrap_i64] <;> simp <;> omega
    simp only [ag_zero, len_enL, Option.bind_some, bin_gtr, h2, decide_true, gk_tt, bin_sub, h3, idx_enL h1, load_cptr, List.getElem?_cons_zero, un_not, condV_true, List.getElem_append_right (Nat.le_refl _), Nat.sub_self, List.getElem_cons_zero]
    cases b with
    | true => simp [cutL_true]
    | false =>
      have := hrec (l', sliceTok tk 0 l'.length (l' ++ [false]).length false) (by dsimp only; omega) (by simp)
      simp only [Bool.not_false, condA_true, slice_to (Nat.le_of_lt h1), Option.bind_some, List.take_left', this, cutL_false]
theorem q01_at (l : List Bool) (tk : Tok) (i : Int) (H : AHeap) : Sh.gliderref01_at (.sl (enL cB l) tk) (.int .i64 i) H = some (.ret (.bool (decide (0 ≤ i) && l.getD i.toNat false)), H) := by
  unfold Sh.gliderref01_at
  by_cases h0 : 0 ≤ i
  · obtain ⟨n, rfl⟩ := Int.eq_ofNat_of_zero_le h0
    by_cases h1 : n < l.length
    · have h2 : (n : Int) < (l.length : Int) := by omega
      simp [h2, idx_enL h1, List.getD_eq_getElem?_getD, List.getElem?_eq_getElem h1]
    · have h2 : ¬ (n : Int) < (l.length : Int) := by omega
      simp [h2, List.getD_eq_getElem?_getD, List.getElem?_eq_none (Nat.le_of_not_lt h1)]
  · simp [h0]
theorem q01_bits (l : List Nat) (tk : Tok) (H : AHeap) (hl : l.length ≤ 2199023255552) (hx : Lim l) : Sh.gliderref01_Bits (.sl (enL cU l) tk) H = some (.ret (.sl (enL cB (cutL (bitsAll l))) .no), H) := by
  unfold Sh.gliderref01_Bits
  refine loop_up l.length (fun i => [.sl (enL cU l) tk, outS cB H (bitsAll (l.take i)), .int .i64 (i : Int)]) (fun i => outT cB ty_bool 1 H (bitsAll (l.take i))) _ (by omega) (fun rec i hi => ?_) (fun rec => ?_)
  · have hi' : (i : Int) < (l.length : Int) := by omega
    have hxi : l[i] < 4294967296 := hx _ (List.getElem_mem hi)
    have htk : bitsAll (l.take (i + 1)) = bitsAll (l.take i) ++ bitsOf 32 l[i] := by
      rw [List.take_succ_eq_append_getElem hi, bitsAll, List.flatMap_append]; simp [bitsAll]
    have hlen : (bitsAll (l.take i)).length ≤ 32 * 2199023255552 := by rw [bitsAll_length]; simp; omega
    unfold Sh.gliderref01_Bits_l1
    simp only [ag_zero, ag_1, ag_2, len_enL, Option.bind_some, bin_lss, hi', decide_true, condA_true, idx_enL hi, load_cptr, List.getElem?_cons_zero, htk]
    generalize bitsAll (l.take i) = o at hlen
    generalize l[i] = x at hxi
    refine loop_fun (σ := Nat × Nat × List Bool) (fun s => s.1 ≤ 32 ∧ s.2.1 < 4294967296 ∧ s.2.2.length ≤ o.length + s.1) (fun s => [.sl (enL cU l) tk, outS cB H s.2.2, .int .i64 (i : Int), .int .u32 (s.2.1 : Int), .int .i64 (s.1 : Int)]) (fun s => outT cB ty_bool 1 H s.2.2) (fun s => 32 - s.1)
      (fun s => rec [.sl (enL cU l) tk, outS cB H (s.2.2 ++ bitsOf (32 - s.1) s.2.1), .int .i64 ((i + 1 : Nat) : Int)] (outT cB ty_bool 1 H (s.2.2 ++ bitsOf (32 - s.1) s.2.1))) (fun s rec2 hs hrec => ?_) (0, x, o) ⟨by dsimp only; omega, hxi, by dsimp only; omega⟩ (by dsimp only; omega)
    obtain ⟨k, y, p⟩ := s
    obtain ⟨hk, hy, hp⟩ := hs
    simp only at hk hy hp hrec ⊢
    unfold Sh.gliderref01_Bits_l2
    by_cases h : k < 32
    · have h' : (k : Int) < 32 := by omega
      have e1 : (y : Int).tmod 2 = ((y % 2 : Nat) : Int) := rfl
      have e2 : IntKind.u32.wrap ((y : Int).tdiv 2) = ((y / 2 : Nat) : Int) := by rw [show (y : Int).tdiv 2 = ((y / 2 : Nat) : Int) from rfl, wrap_u32] <;> omega
      have e3 : (((y % 2 : Nat) : Int) == 1) = (y % 2 == 1) := by rw [Bool.eq_iff_iff]; simp only [beq_iff_eq]; omega
      have e4 : IntKind.i64.wrap ((k : Int) + 1) = ((k + 1 : Nat) : Int) := by rw [wrap_i64] <;> omega
      have := hrec (k + 1, y / 2, p ++ [y % 2 == 1]) ⟨h, by dsimp only; omega, by simp; omega⟩ (by dsimp only; omega)
      simp only [ag_zero, ag_1, ag_2, ag_3, ag_4, bin_lss, h', decide_true, Option.bind_some, condA_true, bin_rem (show (2 : Int) ≠ 0 by decide), bin_quo (show (2 : Int) ≠ 0 by decide), e1, e2, bin_eql, e3, build_B]
      rw [append_out (by simp) (by simp; omega) (by simp; omega)]
      simp only [retVH_some, bP_ret, bin_add, Option.bind_some, e4, this]
      rw [show 32 - k = (32 - (k + 1)) + 1 from by omega, bitsOf]; simp
    · have : k = 32 := by omega
      subst this
      have e4 : IntKind.i64.wrap ((i : Int) + 1) = ((i + 1 : Nat) : Int) := by rw [wrap_i64] <;> omega
      simp [bitsOf, e4]
  · unfold Sh.gliderref01_Bits_l1
    obtain ⟨G, hG⟩ := outT_eq (f := cB) (ty := ty_bool) (sz := 1) H (bitsAll l)
    rw [List.take_of_length_le (Nat.le_refl _)]
    simp only [ag_zero, ag_1, ag_2, outS_eq, hG, len_enL, Option.bind_some, bin_lss, Int.lt_irrefl, decide_false, condA_false, q01_cut (bitsAll l) _ _ (by rw [bitsAll_length]; omega), bP_ret, rPN_app, fall_sl, Option.map_some]
end Go.Gm
/- Chapter 1 of the document: limbs of bits; one way; right; below. -/
namespace Go.Gm
set_option linter.unusedVariables false
set_option linter.unusedSimpArgs false
theorem q01_of (l : List Bool) (tk : Tok) (H : AHeap) (hl : l.length ≤ 70368744177664) : Sh.gliderref01_Of (.sl (enL cB l) tk) H = some (.ret (.sl (enL cU (lims (nat1 l))) .no), H) := by
  unfold Sh.gliderref01_Of
  have hcl := cutL_le l
  rw [q01_cut l tk H (by omega), ← limbsOf_eq, limbsOf]
  simp only [bP_ret]
  generalize cutL l = c at hcl
  obtain ⟨n, hn⟩ : ∃ n, n = (c.length + 31) / 32 := ⟨_, rfl⟩
  rw [← hn]
  refine loop_up n (fun q => [.sl (enL cB c) .no, outS cU H (limbsTo c q), .int .i64 ((32 * q : Nat) : Int)]) (fun q => outT cU ty_uint32 1 H (limbsTo c q)) _ (by omega) (fun rec q hq => ?_) (fun rec => ?_)
  · have hq' : ((32 * q : Nat) : Int) < (c.length : Int) := by omega
    unfold Sh.gliderref01_Of_l1
    simp only [ag_zero, ag_1, ag_2, len_enL, Option.bind_some, bin_lss, hq', decide_true, condA_true]
    have hlo : (limbsTo c q).length = q := limbsTo_length c q
    rw [limbsTo_succ]
    generalize limbsTo c q = o at hlo
    refine loop_fun (σ := Nat) (fun j => j ≤ min 32 (c.length - 32 * q)) (fun j => [.sl (enL cB c) .no, outS cU H o, .int .i64 ((32 * q : Nat) : Int), .int .u32 ((nat1 ((c.drop (32 * q)).take j) : Nat) : Int), .int .u32 (IntKind.u32.wrap ((2 : Int) ^ j)), .int .i64 ((32 * q + j : Nat) : Int)]) (fun _ => outT cU ty_uint32 1 H o) (fun j => 32 - j)
      (fun _ => rec [.sl (enL cB c) .no, outS cU H (o ++ [limbAt c q]), .int .i64 ((32 * (q + 1) : Nat) : Int)] (outT cU ty_uint32 1 H (o ++ [limbAt c q]))) (fun j rec2 hj hrec => ?_) 0 (by omega) (by omega)
    unfold Sh.gliderref01_Of_l2
    have hw : IntKind.i64.wrap (((32 * q : Nat) : Int) + 32) = ((32 * (q + 1) : Nat) : Int) := by rw [wrap_i64] <;> omega
    by_cases h : j < min 32 (c.length - 32 * q)
    · have h1 : ((32 * q + j : Nat) : Int) < (c.length : Int) := by omega
      have h1' : 32 * q + j < c.length := by omega
      have h2 : ((32 * q + j : Nat) : Int) < ((32 * (q + 1) : Nat) : Int) := by omega
      have hw2 : IntKind.i64.wrap (((32 * q + j : Nat) : Int) + 1) = ((32 * q + (j + 1) : Nat) : Int) := by rw [wrap_i64] <;> omega
      have htake : (c.drop (32 * q)).take (j + 1) = (c.drop (32 * q)).take j ++ [c[32 * q + j]] := by
        rw [List.take_succ_eq_append_getElem (by simp; omega)]; simp
      have hlen : ((c.drop (32 * q)).take j).length = j := by simp; omega
      have hnat : nat1 ((c.drop (32 * q)).take (j + 1)) = nat1 ((c.drop (32 * q)).take j) + (if c[32 * q + j] then 2 ^ j else 0) := by
        rw [htake, nat1_append, hlen]; simp only [nat1]; split <;> simp
      have hlt1 := nat1_lt ((c.drop (32 * q)).take j)
      rw [hlen] at hlt1
      have hp : (2 : Nat) ^ j * 2 ≤ 2 ^ 32 := by rw [← Nat.pow_succ]; exact Nat.pow_le_pow_right (by omega) (by omega)
      have hpw : IntKind.u32.wrap ((2 : Int) ^ j) = ((2 ^ j : Nat) : Int) := by
        rw [show ((2 : Int) ^ j) = ((2 ^ j : Nat) : Int) from by simp, wrap_u32] <;> omega
      have hadd : IntKind.u32.wrap (((nat1 ((c.drop (32 * q)).take j) : Nat) : Int) + ((2 ^ j : Nat) : Int)) = ((nat1 ((c.drop (32 * q)).take j) + 2 ^ j : Nat) : Int) := by rw [wrap_u32] <;> omega
      have hmul : IntKind.u32.wrap (((2 ^ j : Nat) : Int) * 2) = IntKind.u32.wrap ((2 : Int) ^ (j + 1)) := by rw [Int.pow_succ]; simp
      have := hrec (j + 1) (by omega) (by omega)
      rw [hnat] at this
      simp only [ag_zero, ag_1, ag_2, ag_3, ag_4, ag_5, len_enL, Option.bind_some, bin_lss, h1, decide_true, gk_tt, bin_add, hw, h2, condV_true, condA_true, joinPt, idx_enL h1', load_cptr, List.getElem?_cons_zero, hpw]
      cases hb : c[32 * q + j] with
      | true =>
        rw [hb] at this
        simp only [condA_true, bin_add, hadd, Option.bind_some, ag_zero, ag_1, ag_2, ag_3, ag_4, ag_5, Sh.gliderref01_Of_j3, bin_mul, hmul, hw2]
        simpa using this
      | false =>
        rw [hb] at this
        simp only [condA_false, ag_zero, ag_1, ag_2, ag_3, ag_4, ag_5, Sh.gliderref01_Of_j3, bin_mul, bin_add, hmul, hw2, Option.bind_some]
        simpa using this
    · have hj' : j = min 32 (c.length - 32 * q) := by omega
      have hx : nat1 ((c.drop (32 * q)).take j) = limbAt c q := by
        unfold limbAt
        by_cases h : j = 32
        · rw [h]
        · rw [List.take_of_length_le (by simp; omega), List.take_of_length_le (by simp; omega)]
      have tail : ((buildSl 1 [.int .u32 ((limbAt c q : Nat) : Int)]).bind fun x40 => bP H (retVH (appendA ty_uint32 1 4 (outS cU H o) x40 (outT cU ty_uint32 1 H o))) fun x41 H42 => (binA .none .add (.int .i64 ((32 * q : Nat) : Int)) (.int .i64 32)).bind fun x43 => rec [.sl (enL cB c) .no, x41, x43] H42)
          = rec [.sl (enL cB c) .no, outS cU H (o ++ [limbAt c q]), .int .i64 ((32 * (q + 1) : Nat) : Int)] (outT cU ty_uint32 1 H (o ++ [limbAt c q])) := by
        rw [build_U]
        simp only [Option.bind_some]
        rw [append_out (by simp) (by simp; omega) (by simp; omega)]
        simp only [retVH_some, bP_ret, bin_add, Option.bind_some, hw]
      rw [hx]
      by_cases h1 : ((32 * q + j : Nat) : Int) < (c.length : Int)
      · have h2 : ¬ ((32 * q + j : Nat) : Int) < ((32 * (q + 1) : Nat) : Int) := by omega
        simp only [ag_zero, ag_1, ag_2, ag_3, ag_4, ag_5, len_enL, Option.bind_some, bin_lss, h1, decide_true, gk_tt, bin_add, hw, h2, decide_false, condV_true, condA_false]
        simpa only [bin_add, hw, Option.bind_some] using tail
      · simp only [ag_zero, ag_1, ag_2, ag_3, ag_4, ag_5, len_enL, Option.bind_some, bin_lss, h1, decide_false, gk_ft, condV_false, condA_false]
        exact tail
  · have hq' : ¬ ((32 * n : Nat) : Int) < (c.length : Int) := by omega
    obtain ⟨G, hG⟩ := outT_eq (f := cU) (ty := ty_uint32) (sz := 1) H (limbsTo c n)
    unfold Sh.gliderref01_Of_l1
    simp only [ag_zero, ag_1, ag_2, outS_eq, hG, len_enL, Option.bind_some, bin_lss, hq', decide_false, condA_false, rPN_app, fall_sl, Option.map_some]
theorem q01_norm (l : List Nat) (tk : Tok) (H : AHeap) (hl : l.length ≤ 1099511627776) (hx : Lim l) : Sh.gliderref01_Norm (.sl (enL cU l) tk) H = some (.ret (.sl (enL cU (lims (val l))) .no), H) := by
  have hc := cutL_le (bitsAll l)
  rw [bitsAll_length] at hc
  unfold Sh.gliderref01_Norm
  rw [q01_bits l tk H (by omega) hx]
  simp only [bK_ret]
  rw [q01_of _ _ _ (by omega)]
  simp only [bK_ret, rKN_eq, forget_sl, nat1_cut, val_bits l hx]
theorem q01_right (l : List Nat) (tk : Tok) (H : AHeap) (hl : l.length ≤ 1099511627776) : Sh.gliderref01_Right (.sl (enL cU l) tk) H = some (.ret (.bool (rightB l)), H) := by
  unfold Sh.gliderref01_Right
  rcases snoc_cases l with rfl | ⟨l', x, rfl⟩
  · simp [rightB]
  · simp only [List.length_append, List.length_singleton] at hl
    have h1 : l'.length < (l' ++ [x]).length := by simp
    have h3 : IntKind.i64.wrap ((((l' ++ [x]).length : Nat) : Int) - 1) = (l'.length : Int) := by rw [wrap_i64] <;> simp <;> omega
    have hne : ((((l' ++ [x]).length : Nat) : Int) == 0) = false := by simp; omega
    have hb : ((x : Int) != 0) = (x != 0) := by rw [Bool.eq_iff_iff]; simp
    simp only [len_enL, Option.bind_some, bin_eql, hne, gk_ff, bin_sub, h3, idx_enL h1, load_cptr, List.getElem?_cons_zero, List.getElem_append_right (Nat.le_refl _), Nat.sub_self, List.getElem_cons_zero, bin_neq, condV_false, rK_eq, hb]
    simp [rightB]
theorem q01_cmp (a b : List Nat) (ta tb : Tok) (H : AHeap) (ha : a.length ≤ 1099511627776) (hb : b.length ≤ 1099511627776) (la : Lim a) (lb : Lim b) :
    Sh.gliderref01_Cmp (.sl (enL cU a) ta) (.sl (enL cU b) tb) H = some (.ret (.int .i64 (cmpI (val a) (val b))), H) := by
  have c1 := cutL_le (bitsAll a)
  have c2 := cutL_le (bitsAll b)
  rw [bitsAll_length] at c1 c2
  unfold Sh.gliderref01_Cmp
  rw [q01_bits a ta H (by omega) la]
  simp only [bK_ret, q01_bits b tb H (by omega) lb, len_enL, Option.bind_some, max_int]
  have hx : nat1 (cutL (bitsAll a)) = val a := by rw [nat1_cut, val_bits a la]
  have hy : nat1 (cutL (bitsAll b)) = val b := by rw [nat1_cut, val_bits b lb]
  rw [← hx, ← hy]
  generalize cutL (bitsAll a) = x at c1 ⊢
  generalize cutL (bitsAll b) = y at c2 ⊢
  have hw : IntKind.i64.wrap (max (x.length : Int) (y.length : Int) - 1) = ((max x.length y.length : Nat) : Int) - 1 := by rw [wrap_i64] <;> omega
  simp only [bin_sub, hw, Option.bind_some]
  have z : ∀ (c : List Bool) (m : Nat), c.length ≤ m → nat1 c / 2 ^ m = 0 := fun c m h => Nat.div_eq_of_lt (Nat.lt_of_lt_of_le (nat1_lt c) (Nat.pow_le_pow_right (by omega) h))
  refine loop_fun (σ := Nat) (fun i => i < 9223372036854775807 ∧ (nat1 x) / 2 ^ i = (nat1 y) / 2 ^ i) (fun i => [.sl (enL cB x) .no, .sl (enL cB y) .no, .int .i64 ((i : Int) - 1)]) (fun _ => H) (fun i => i) (fun _ => some (.ret (.int .i64 (cmpI (nat1 x) (nat1 y))), H)) (fun i rec hi hrec => ?_) (max x.length y.length) ⟨by omega, by rw [z _ _ (by omega), z _ _ (by omega)]⟩ (by omega)
  obtain ⟨hi, he⟩ := hi
  unfold Sh.gliderref01_Cmp_l1
  cases i with
  | zero =>
    have e : nat1 x = nat1 y := by simpa using he
    simp [e, cmpI]
  | succ i =>
    have hi0 : (((i + 1 : Nat) : Int) - 1) = (i : Int) := by omega
    have hge : (i : Int) ≥ 0 := by omega
    have hw : IntKind.i64.wrap ((i : Int) - 1) = (i : Int) - 1 := by rw [wrap_i64] <;> omega
    have ax : ∀ (c : List Bool) (H : AHeap), Sh.gliderref01_at (.sl (enL cB c) .no) (.int .i64 (i : Int)) H = some (.ret (.bool ((nat1 c).testBit i)), H) := fun c H => by rw [q01_at, Int.toNat_natCast, nat1_bit]; simp
    have tb : ∀ m : Nat, m.testBit i = decide (m / 2 ^ i % 2 = 1) := fun m => Nat.testBit_eq_decide_div_mod_eq
    have hs : ∀ m : Nat, m / 2 ^ (i + 1) = m / 2 ^ i / 2 := fun m => by rw [Nat.pow_succ, Nat.div_div_eq_div_mul]
    rw [hs, hs] at he
    have mono : ∀ p q : Nat, p ≤ q → p / 2 ^ i ≤ q / 2 ^ i := fun p q h => Nat.div_le_div_right h
    simp only [ag_zero, ag_1, ag_2, hi0, bin_geq, hge, decide_true, Option.bind_some, condA_true, ax, bK_ret, bne_bool]
    by_cases heq : (nat1 x) / 2 ^ i = (nat1 y) / 2 ^ i
    · have hbit : (nat1 x).testBit i = (nat1 y).testBit i := by rw [tb, tb, heq]
      simp only [hbit, bne_self_eq_false, condA_false, bin_sub, hw, Option.bind_some]
      exact hrec i ⟨by omega, heq⟩ (by omega)
    · have m1 := mono (nat1 x) (nat1 y)
      have m2 := mono (nat1 y) (nat1 x)
      rcases Nat.mod_two_eq_zero_or_one (nat1 x / 2 ^ i) with h1 | h1 <;> rcases Nat.mod_two_eq_zero_or_one (nat1 y / 2 ^ i) with h2 | h2
      · omega
      · have hlt : nat1 x < nat1 y := by
          rcases Nat.lt_or_ge (nat1 x) (nat1 y) with h | h
          · exact h
          · have := m2 h; omega
        simp [tb, h1, h2, cmpI, hlt]
      · have hlt : nat1 y < nat1 x := by
          rcases Nat.lt_or_ge (nat1 y) (nat1 x) with h | h
          · exact h
          · have := m1 h; omega
        have hn : ¬ nat1 x < nat1 y := by omega
        simp [tb, h1, h2, cmpI, hlt, hn]
      · omega
end Go.Gm
