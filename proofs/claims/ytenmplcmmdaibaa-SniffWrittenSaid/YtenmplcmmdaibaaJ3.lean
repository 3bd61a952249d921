/- Texts of this proof, joined. -/
import Derived.Test.YtenmplcmmdaibaaJ2
import Derived.Test.YtenmplcmmdaibaaChecked
import Derived.KernelRfl
/- The forms of the functions, printed by a program out of their code. -/
namespace Go.Gm
set_option linter.unusedVariables false
noncomputable def Sh.stringslite_HasPrefix (s_1 prefix_2 : AVal) (H0 : AHeap) : Out :=
 (lenStr s_1).bind fun x3 =>
 (lenStr prefix_2).bind fun x4 =>
 (binA .none .geq x3 x4).bind fun x5 =>
 gk x5 true (some s_1) fun x6 =>
 gk x5 true (some prefix_2) fun x7 =>
 gk x5 true (lenStr x7) fun x8 =>
 gk x5 true (sliceStr x6 none (some x8)) fun x9 =>
 gk x5 true (some prefix_2) fun x10 =>
 gk x5 true (binA .none .eql x9 x10) fun x11 =>
 (condV x5 x11 (.bool false)).bind fun x12 =>
 rK H0 x12 H0
noncomputable def Sh.strings_HasPrefix (s_1 prefix_2 : AVal) (H0 : AHeap) : Out :=
 bK H0 (Sh.stringslite_HasPrefix s_1 prefix_2 H0) fun x3 H4 =>
 rK H0 x3 H4
noncomputable def Sh.sniff_Of_j4 (H0 : AHeap) (x37 : AVal) (H38 : AHeap) : Out :=
 condA x37 (
 rP H0 (.int .i64 1) H38) (
 rP H0 (.int .i64 0) H38)
noncomputable def Sh.sniff_Of_j3 (H0 : AHeap) (x34 x35 : AVal) (H36 : AHeap) : Out :=
 condA x35 (
 rP H0 (.int .i64 4) H36) (
 joinPt (fun j4 =>
 (binA .none .eql x34 (.int .i32 33)).bind fun x39 =>
 condA x39 (
 j4 [x39] H36) (
 (binA .none .eql x34 (.int .i32 46)).bind fun x40 =>
 condA x40 (
 j4 [x40] H36) (
 (binA .none .eql x34 (.int .i32 79)).bind fun x41 =>
 condA x41 (
 j4 [x41] H36) (
 (binA .none .eql x34 (.int .i32 10)).bind fun x42 =>
 condA x42 (
 j4 [x42] H36) (
 (binA .none .eql x34 (.int .i32 13)).bind fun x43 =>
 j4 [x43] H36))))) (fun vs H => Sh.sniff_Of_j4 H0 (ag vs 0) H))
noncomputable def Sh.sniff_Of_l2 (H0 : AHeap) (x28 : AVal) (H29 : AHeap) : Out :=
 bP H0 (retVH (nextA x28 H29)) fun x30 H31 =>
 (extractA 0 x30).bind fun x32 =>
 condA x32 (
 (extractA 2 x30).bind fun x33 =>
 joinPt (fun j3 =>
 (binA .none .eql x33 (.int .i32 35)).bind fun x44 =>
 condA x44 (
 j3 [x33, x44] H31) (
 (binA .none .eql x33 (.int .i32 120)).bind fun x45 =>
 j3 [x33, x45] H31)) (fun vs H => Sh.sniff_Of_j3 H0 (ag vs 0) (ag vs 1) H)) (
 rP H0 (.int .i64 0) H31)
noncomputable def Sh.sniff_Of_l1 (H0 : AHeap) (rec1 : LK) (b_7 x8 x9 x10 : AVal) (H11 : AHeap) : Out :=
 (binA .none .lss x10 x9).bind fun x12 =>
 condA x12 (
 (idxSl 2 x8 x10).bind fun x13 =>
 (loadA true 2 x13 H11).bind fun x14 =>
 afterA (allocA (some [(.str []), (.int .i64 0)]) H11) fun h_15 H16 =>
 bP H0 (retH (storeA 2 h_15 x14 H16)) fun _ H18 =>
 (fieldAddrA 0 h_15).bind fun x19 =>
 (loadA false 1 x19 H18).bind fun x20 =>
 bP H0 (Sh.strings_HasPrefix b_7 x20 H18) fun x21 H22 =>
 condA x21 (
 (fieldAddrA 1 h_15).bind fun x23 =>
 (loadA false 1 x23 H22).bind fun x24 =>
 rP H0 x24 H22) (
 (binA .none .add x10 (.int .i64 1)).bind fun x25 =>
 rec1 [b_7, x8, x9, x25] H22)) (
 bP H0 (retVH (rangeA b_7 H11)) fun x26 H27 =>
 loopGen (fun rec2 vs H => Sh.sniff_Of_l2 H0 (ag vs 0) H) FUEL [x26] H27)
noncomputable def Sh.sniff_Of (b_1 : AVal) (H0 : AHeap) : Out :=
 (buildA (some [(.str []), (.int .i64 0)]) [(0, 1, (.str [91, 77, 50, 93])), (1, 1, (.int .i64 5))]).bind fun x2 =>
 (buildA (some [(.str []), (.int .i64 0)]) [(0, 1, (.str [35, 76, 105, 102, 101, 32, 49, 46, 48, 53])), (1, 1, (.int .i64 2))]).bind fun x3 =>
 (buildA (some [(.str []), (.int .i64 0)]) [(0, 1, (.str [35, 76, 105, 102, 101, 32, 49, 46, 48, 54])), (1, 1, (.int .i64 3))]).bind fun x4 =>
 (buildSl 2 [x2, x3, x4]).bind fun x5 =>
 (lenSl x5).bind fun x6 =>
 loopGen (fun rec1 vs H => Sh.sniff_Of_l1 H0 rec1 (ag vs 0) (ag vs 1) (ag vs 2) (ag vs 3) H) FUEL [b_1, x5, x6, (.int .i64 0)] H0
noncomputable def Sh.sniff_names (H0 : AHeap) : Out :=
 afterA (allocA (some [(.str []), (.str []), (.str []), (.str []), (.str []), (.str [])]) H0) fun x1 H2 =>
 (buildA (some [(.str []), (.str []), (.str []), (.str []), (.str []), (.str [])]) [(1, 1, (.str [112, 108, 97, 105, 110])), (2, 1, (.str [108, 105, 102, 101, 49, 48, 53])), (3, 1, (.str [108, 105, 102, 101, 49, 48, 54])), (4, 1, (.str [114, 108, 101])), (5, 1, (.str [109, 99]))]).bind fun x3 =>
 bP H0 (retH (storeA 6 x1 x3 H2)) fun _ H5 =>
 (loadA true 6 x1 H5).bind fun x6 => rP H0 x6 H5
noncomputable def Sh.sniff_Name (format_1 : AVal) (H0 : AHeap) : Out :=
 (binA .none .lss format_1 (.int .i64 1)).bind fun x2 =>
 gk x2 false (some format_1) fun x3 =>
 gk x2 false (binA .none .gtr x3 (.int .i64 5)) fun x4 =>
 (condV x2 (.bool true) x4).bind fun x5 =>
 condA x5 (
 rK H0 (.str []) H0) (
 bK H0 (Sh.sniff_names H0) fun x6 H7 =>
 (idxAgg false 6 1 x6 format_1).bind fun x8 =>
 rK H0 x8 H7)
noncomputable def Sh.sniff_Named_l1 (H0 : AHeap) (rec1 : LK) (s_4 x5 x6 : AVal) (H7 : AHeap) : Out :=
 (binA .none .lss x6 (.int .i64 6)).bind fun x8 =>
 condA x8 (
 (idxAgg false 6 1 x5 x6).bind fun x9 =>
 (binA .none .neq s_4 (.str [])).bind fun x10 =>
 gk x10 true (some x9) fun x11 =>
 gk x10 true (some s_4) fun x12 =>
 gk x10 true (binA .none .eql x11 x12) fun x13 =>
 (condV x10 x13 (.bool false)).bind fun x14 =>
 condA x14 (
 rK H0 x6 H7) (
 (binA .none .add x6 (.int .i64 1)).bind fun x15 =>
 rec1 [s_4, x5, x15] H7)) (
 rK H0 (.int .i64 0) H7)
noncomputable def Sh.sniff_Named (s_1 : AVal) (H0 : AHeap) : Out :=
 bK H0 (Sh.sniff_names H0) fun x2 H3 =>
 loopGen (fun rec1 vs H => Sh.sniff_Named_l1 H0 rec1 (ag vs 0) (ag vs 1) (ag vs 2) H) FUEL [s_1, x2, (.int .i64 0)] H3
noncomputable def Sh.gliderlaw20_alive (H0 : AHeap) : Out :=
 bK H0 (Sh.sniff_Of (.str [35, 78, 32, 103, 108, 105, 100, 101, 114]) H0) fun x1 H2 =>
 (binA .none .eql x1 (.int .i64 4)).bind fun x3 =>
 gbK H0 x3 true H2 (Sh.sniff_Of (.str [91, 77, 50, 93]) H2) fun x4 H5 =>
 gk x3 true (binA .none .eql x4 (.int .i64 5)) fun x6 =>
 (condV x3 x6 (.bool false)).bind fun x7 =>
 gbK H0 x7 true H5 (Sh.sniff_Of (.str [35, 76, 105, 102, 101, 32, 49, 46, 48, 53]) H5) fun x8 H9 =>
 gk x7 true (binA .none .eql x8 (.int .i64 2)) fun x10 =>
 (condV x7 x10 (.bool false)).bind fun x11 =>
 gbK H0 x11 true H9 (Sh.sniff_Of (.str [35, 76, 105, 102, 101, 32, 49, 46, 48, 54, 120]) H9) fun x12 H13 =>
 gk x11 true (binA .none .eql x12 (.int .i64 3)) fun x14 =>
 (condV x11 x14 (.bool false)).bind fun x15 =>
 gbK H0 x15 true H13 (Sh.sniff_Of (.str [35, 76, 105, 102, 101, 32, 49, 46, 48]) H13) fun x16 H17 =>
 gk x15 true (binA .none .eql x16 (.int .i64 4)) fun x18 =>
 (condV x15 x18 (.bool false)).bind fun x19 =>
 gbK H0 x19 true H17 (Sh.sniff_Of (.str [79]) H17) fun x20 H21 =>
 gk x19 true (binA .none .eql x20 (.int .i64 1)) fun x22 =>
 (condV x19 x22 (.bool false)).bind fun x23 =>
 gbK H0 x23 true H21 (Sh.sniff_Of (.str []) H21) fun x24 H25 =>
 gk x23 true (binA .none .eql x24 (.int .i64 0)) fun x26 =>
 (condV x23 x26 (.bool false)).bind fun x27 =>
 gbK H0 x27 true H25 (Sh.sniff_Of (.str [111]) H25) fun x28 H29 =>
 gk x27 true (binA .none .eql x28 (.int .i64 0)) fun x30 =>
 (condV x27 x30 (.bool false)).bind fun x31 =>
 gbK H0 x31 true H29 (Sh.sniff_Name (.int .i64 4) H29) fun x32 H33 =>
 gk x31 true (binA .none .eql x32 (.str [114, 108, 101])) fun x34 =>
 (condV x31 x34 (.bool false)).bind fun x35 =>
 gbK H0 x35 true H33 (Sh.sniff_Name (.int .i64 6) H33) fun x36 H37 =>
 gk x35 true (binA .none .eql x36 (.str [])) fun x38 =>
 (condV x35 x38 (.bool false)).bind fun x39 =>
 gbK H0 x39 true H37 (Sh.sniff_Named (.str [109, 99]) H37) fun x40 H41 =>
 gk x39 true (binA .none .eql x40 (.int .i64 5)) fun x42 =>
 (condV x39 x42 (.bool false)).bind fun x43 =>
 gbK H0 x43 true H41 (Sh.sniff_Named (.str [77, 67]) H41) fun x44 H45 =>
 gk x43 true (binA .none .eql x44 (.int .i64 0)) fun x46 =>
 (condV x43 x46 (.bool false)).bind fun x47 =>
 rK H0 x47 H45
noncomputable def Sh.gliderref20_begins (b_1 s_2 : AVal) (H0 : AHeap) : Out :=
 (lenStr b_1).bind fun x3 =>
 (lenStr s_2).bind fun x4 =>
 (binA .none .geq x3 x4).bind fun x5 =>
 gk x5 true (some b_1) fun x6 =>
 gk x5 true (some s_2) fun x7 =>
 gk x5 true (lenStr x7) fun x8 =>
 gk x5 true (sliceStr x6 none (some x8)) fun x9 =>
 gk x5 true (some s_2) fun x10 =>
 gk x5 true (binA .none .eql x9 x10) fun x11 =>
 (condV x5 x11 (.bool false)).bind fun x12 =>
 rK H0 x12 H0
noncomputable def Sh.gliderref20_Of (b_1 : AVal) (H0 : AHeap) : Out :=
 bK H0 (Sh.gliderref20_begins b_1 (.str [91, 77, 50, 93]) H0) fun x2 H3 =>
 condA x2 (
 rK H0 (.int .i64 5) H3) (
 bK H0 (Sh.gliderref20_begins b_1 (.str [35, 76, 105, 102, 101, 32, 49, 46, 48, 53]) H3) fun x4 H5 =>
 condA x4 (
 rK H0 (.int .i64 2) H5) (
 bK H0 (Sh.gliderref20_begins b_1 (.str [35, 76, 105, 102, 101, 32, 49, 46, 48, 54]) H5) fun x6 H7 =>
 condA x6 (
 rK H0 (.int .i64 3) H7) (
 bK H0 (Sh.gliderref20_begins b_1 (.str [35]) H7) fun x8 H9 =>
 gk x8 false (some b_1) fun x10 =>
 gbK H0 x8 false H9 (Sh.gliderref20_begins x10 (.str [120]) H9) fun x11 H12 =>
 (condV x8 (.bool true) x11).bind fun x13 =>
 condA x13 (
 rK H0 (.int .i64 4) H12) (
 bK H0 (Sh.gliderref20_begins b_1 (.str [33]) H12) fun x14 H15 =>
 gk x14 false (some b_1) fun x16 =>
 gbK H0 x14 false H15 (Sh.gliderref20_begins x16 (.str [46]) H15) fun x17 H18 =>
 (condV x14 (.bool true) x17).bind fun x19 =>
 gk x19 false (some b_1) fun x20 =>
 gbK H0 x19 false H18 (Sh.gliderref20_begins x20 (.str [79]) H18) fun x21 H22 =>
 (condV x19 (.bool true) x21).bind fun x23 =>
 gk x23 false (some b_1) fun x24 =>
 gbK H0 x23 false H22 (Sh.gliderref20_begins x24 (.str [10]) H22) fun x25 H26 =>
 (condV x23 (.bool true) x25).bind fun x27 =>
 gk x27 false (some b_1) fun x28 =>
 gbK H0 x27 false H26 (Sh.gliderref20_begins x28 (.str [13]) H26) fun x29 H30 =>
 (condV x27 (.bool true) x29).bind fun x31 =>
 condA x31 (
 rK H0 (.int .i64 1) H30) (
 rK H0 (.int .i64 0) H30)))))
noncomputable def Sh.gliderref20_names (H0 : AHeap) : Out :=
 (buildSl 1 [(.str [112, 108, 97, 105, 110]), (.str [108, 105, 102, 101, 49, 48, 53]), (.str [108, 105, 102, 101, 49, 48, 54]), (.str [114, 108, 101]), (.str [109, 99])]).bind fun x1 =>
 rKN H0 x1 H0
noncomputable def Sh.gliderref20_Name (format_1 : AVal) (H0 : AHeap) : Out :=
 (binA .none .lss format_1 (.int .i64 1)).bind fun x2 =>
 gk x2 false (some format_1) fun x3 =>
 gk x2 false (binA .none .gtr x3 (.int .i64 5)) fun x4 =>
 (condV x2 (.bool true) x4).bind fun x5 =>
 condA x5 (
 rK H0 (.str []) H0) (
 bK H0 (Sh.gliderref20_names H0) fun x6 H7 =>
 (binA .none .sub format_1 (.int .i64 1)).bind fun x8 =>
 (idxSl 1 x6 x8).bind fun x9 =>
 (loadA false 1 x9 H7).bind fun x10 =>
 rK H0 x10 H7)
noncomputable def Sh.gliderref20_Named_l1 (H0 : AHeap) (rec1 : LK) (s_4 l_5 i_6 : AVal) (H7 : AHeap) : Out :=
 (lenSl l_5).bind fun x8 =>
 (binA .none .lss i_6 x8).bind fun x9 =>
 condA x9 (
 (idxSl 1 l_5 i_6).bind fun x10 =>
 (loadA false 1 x10 H7).bind fun x11 =>
 (binA .none .eql x11 s_4).bind fun x12 =>
 condA x12 (
 (binA .none .add i_6 (.int .i64 1)).bind fun x13 =>
 rK H0 x13 H7) (
 (binA .none .add i_6 (.int .i64 1)).bind fun x14 =>
 rec1 [s_4, l_5, x14] H7)) (
 rK H0 (.int .i64 0) H7)
noncomputable def Sh.gliderref20_Named (s_1 : AVal) (H0 : AHeap) : Out :=
 bK H0 (Sh.gliderref20_names H0) fun x2 H3 =>
 loopGen (fun rec1 vs H => Sh.gliderref20_Named_l1 H0 rec1 (ag vs 0) (ag vs 1) (ag vs 2) H) FUEL [s_1, x2, (.int .i64 0)] H3
noncomputable def Sh.gliderlaw20_SniffTells (b_1 n_2 : AVal) (H0 : AHeap) : Out :=
 bK H0 (Sh.gliderlaw20_alive H0) fun x3 H4 =>
 (unA .not x3).bind fun x5 =>
 condA x5 (
 rK H0 (.bool false) H4) (
 bK H0 (Sh.sniff_Of b_1 H4) fun x6 H7 =>
 bK H0 (Sh.gliderref20_Of b_1 H7) fun x8 H9 =>
 (binA .none .eql x6 x8).bind fun x10 =>
 gk x10 true (some n_2) fun x11 =>
 gbK H0 x10 true H9 (Sh.sniff_Name x11 H9) fun x12 H13 =>
 gk x10 true (some n_2) fun x14 =>
 gbK H0 x10 true H13 (Sh.gliderref20_Name x14 H13) fun x15 H16 =>
 gk x10 true (binA .none .eql x12 x15) fun x17 =>
 (condV x10 x17 (.bool false)).bind fun x18 =>
 gk x18 true (some b_1) fun x19 =>
 gbK H0 x18 true H16 (Sh.sniff_Named x19 H16) fun x20 H21 =>
 gk x18 true (some b_1) fun x22 =>
 gbK H0 x18 true H21 (Sh.gliderref20_Named x22 H21) fun x23 H24 =>
 gk x18 true (binA .none .eql x20 x23) fun x25 =>
 (condV x18 x25 (.bool false)).bind fun x26 =>
 rK H0 x26 H24)
noncomputable def Sh.gliderlaw20_SniffTen (b_1 more_2 : AVal) (H0 : AHeap) : Out :=
 bK H0 (Sh.gliderlaw20_alive H0) fun x3 H4 =>
 (unA .not x3).bind fun x5 =>
 condA x5 (
 rK H0 (.bool false) H4) (
 (lenStr b_1).bind fun x6 =>
 (binA .none .lss x6 (.int .i64 10)).bind fun x7 =>
 condA x7 (
 rK H0 (.bool true) H4) (
 (binA .none .add b_1 more_2).bind fun x8 =>
 bindN (Sh.sniff_Of x8 H4) fun x9 H10 =>
 (sliceStr b_1 none (some (.int .i64 10))).bind fun x11 =>
 bindN (Sh.sniff_Of x11 H10) fun x12 H13 =>
 (binA .none .eql x9 x12).bind fun x14 =>
 gk x14 true (some b_1) fun x15 =>
 gk x14 true (sliceStr x15 none (some (.int .i64 10))) fun x16 =>
 gk x14 true (some more_2) fun x17 =>
 gk x14 true (binA .none .add x16 x17) fun x18 =>
 gbN x14 true H13 (Sh.sniff_Of x18 H13) fun x19 H20 =>
 gk x14 true (some b_1) fun x21 =>
 gbN x14 true H20 (Sh.sniff_Of x21 H20) fun x22 H23 =>
 gk x14 true (binA .none .eql x19 x22) fun x24 =>
 (condV x14 x24 (.bool false)).bind fun x25 =>
 rK H0 x25 H23))
noncomputable def Sh.gliderref07_Great_l1 (H0 : AHeap) (rec1 : LK) (l_5 i_6 : AVal) (H7 : AHeap) : Out :=
 (lenSl l_5).bind fun x8 =>
 (binA .none .lss i_6 x8).bind fun x9 =>
 condA x9 (
 (idxSl 5 l_5 i_6).bind fun x10 =>
 (fieldAddrA 0 x10).bind fun x11 =>
 (fieldAddrA 1 x11).bind fun x12 =>
 (loadA false 1 x12 H7).bind fun x13 =>
 (lenSl x13).bind fun x14 =>
 (binA .none .gtr x14 (.int .i64 50)).bind fun x15 =>
 gk x15 false (some l_5) fun x16 =>
 gk x15 false (some i_6) fun x17 =>
 gk x15 false (idxSl 5 x16 x17) fun x18 =>
 gk x15 false (fieldAddrA 2 x18) fun x19 =>
 gk x15 false (fieldAddrA 1 x19) fun x20 =>
 gk x15 false (loadA false 1 x20 H7) fun x21 =>
 gk x15 false (lenSl x21) fun x22 =>
 gk x15 false (binA .none .gtr x22 (.int .i64 50)) fun x23 =>
 (condV x15 (.bool true) x23).bind fun x24 =>
 condA x24 (
 rK H0 (.bool true) H7) (
 (binA .none .add i_6 (.int .i64 1)).bind fun x25 =>
 rec1 [l_5, x25] H7)) (
 rK H0 (.bool false) H7)
noncomputable def Sh.gliderref07_Great (l_1 most_2 : AVal) (H0 : AHeap) : Out :=
 (lenSl l_1).bind fun x3 =>
 (binA .none .gtr x3 most_2).bind fun x4 =>
 condA x4 (
 rK H0 (.bool true) H0) (
 loopGen (fun rec1 vs H => Sh.gliderref07_Great_l1 H0 rec1 (ag vs 0) (ag vs 1) H) FUEL [l_1, (.int .i64 0)] H0)
noncomputable def Sh.gliderref01_Right (a_1 : AVal) (H0 : AHeap) : Out :=
 (lenSl a_1).bind fun x2 =>
 (binA .none .eql x2 (.int .i64 0)).bind fun x3 =>
 gk x3 false (some a_1) fun x4 =>
 gk x3 false (some a_1) fun x5 =>
 gk x3 false (lenSl x5) fun x6 =>
 gk x3 false (binA .none .sub x6 (.int .i64 1)) fun x7 =>
 gk x3 false (idxSl 1 x4 x7) fun x8 =>
 gk x3 false (loadA false 1 x8 H0) fun x9 =>
 gk x3 false (binA .none .neq x9 (.int .u32 0)) fun x10 =>
 (condV x3 (.bool true) x10).bind fun x11 =>
 rK H0 x11 H0
noncomputable def Sh.gliderref02_Right (x1 : AVal) (H0 : AHeap) : Out :=
 afterA (boxA true 2 x1 H0) fun x2 H3 =>
 (fieldAddrA 1 x2).bind fun x4 =>
 (loadA false 1 x4 H3).bind fun x5 =>
 bP H0 (Sh.gliderref01_Right x5 H3) fun x6 H7 =>
 gk x6 true (fieldAddrA 0 x2) fun x8 =>
 gk x6 true (loadA false 1 x8 H7) fun x9 =>
 gk x6 true (some x9) fun x10 =>
 gk x10 true (fieldAddrA 1 x2) fun x11 =>
 gk x10 true (loadA false 1 x11 H7) fun x12 =>
 gk x10 true (lenSl x12) fun x13 =>
 gk x10 true (binA .none .eql x13 (.int .i64 0)) fun x14 =>
 gk x6 true (condV x10 x14 (.bool false)) fun x15 =>
 gk x6 true (unA .not x15) fun x16 =>
 (condV x6 x16 (.bool false)).bind fun x17 =>
 rP H0 x17 H7
noncomputable def Sh.gliderref01_cut_l1 (H0 : AHeap) (rec1 : LK) (b_2 : AVal) (H3 : AHeap) : Out :=
 (lenSl b_2).bind fun x4 =>
 (binA .none .gtr x4 (.int .i64 0)).bind fun x5 =>
 gk x5 true (some b_2) fun x6 =>
 gk x5 true (some b_2) fun x7 =>
 gk x5 true (lenSl x7) fun x8 =>
 gk x5 true (binA .none .sub x8 (.int .i64 1)) fun x9 =>
 gk x5 true (idxSl 1 x6 x9) fun x10 =>
 gk x5 true (loadA false 1 x10 H3) fun x11 =>
 gk x5 true (unA .not x11) fun x12 =>
 (condV x5 x12 (.bool false)).bind fun x13 =>
 condA x13 (
 (lenSl b_2).bind fun x14 =>
 (binA .none .sub x14 (.int .i64 1)).bind fun x15 =>
 (sliceSl 1 b_2 none (some x15) none).bind fun x16 =>
 rec1 [x16] H3) (
 rKN H0 b_2 H3)
noncomputable def Sh.gliderref01_cut (b_1 : AVal) (H0 : AHeap) : Out :=
 loopGen (fun rec1 vs H => Sh.gliderref01_cut_l1 H0 rec1 (ag vs 0) H) FUEL [b_1] H0
noncomputable def Sh.gliderref01_Bits_l2 (H0 : AHeap) (rec1 : LK) (rec2 : LK) (a_10 out_11 i_12 x13 k_14 : AVal) (H15 : AHeap) : Out :=
 (binA .none .lss k_14 (.int .i64 32)).bind fun x16 =>
 condA x16 (
 (binA .none .rem x13 (.int .u32 2)).bind fun x17 =>
 (binA .none .eql x17 (.int .u32 1)).bind fun x18 =>
 (buildSl 1 [x18]).bind fun x19 =>
 bP H0 (retVH (appendA ty_bool 1 1 out_11 x19 H15)) fun x20 H21 =>
 (binA .none .quo x13 (.int .u32 2)).bind fun x22 =>
 (binA .none .add k_14 (.int .i64 1)).bind fun x23 =>
 rec2 [a_10, x20, i_12, x22, x23] H21) (
 (binA .none .add i_12 (.int .i64 1)).bind fun x24 =>
 rec1 [a_10, out_11, x24] H15)
noncomputable def Sh.gliderref01_Bits_l1 (H0 : AHeap) (rec1 : LK) (a_2 out_3 i_4 : AVal) (H5 : AHeap) : Out :=
 (lenSl a_2).bind fun x6 =>
 (binA .none .lss i_4 x6).bind fun x7 =>
 condA x7 (
 (idxSl 1 a_2 i_4).bind fun x8 =>
 (loadA false 1 x8 H5).bind fun x9 =>
 loopGen (fun rec2 vs H => Sh.gliderref01_Bits_l2 H0 rec1 rec2 (ag vs 0) (ag vs 1) (ag vs 2) (ag vs 3) (ag vs 4) H) FUEL [a_2, out_3, i_4, x9, (.int .i64 0)] H5) (
 bP H0 (Sh.gliderref01_cut out_3 H5) fun x25 H26 =>
 rPN H0 x25 H26)
noncomputable def Sh.gliderref01_Bits (a_1 : AVal) (H0 : AHeap) : Out :=
 loopGen (fun rec1 vs H => Sh.gliderref01_Bits_l1 H0 rec1 (ag vs 0) (ag vs 1) (ag vs 2) H) FUEL [a_1, (.sl [] .tight), (.int .i64 0)] H0
noncomputable def Sh.gliderref01_Of_j3 (H0 : AHeap) (rec2 : LK) (b_24 out_25 i_26 x27 p_28 k_29 : AVal) (H30 : AHeap) : Out :=
 (binA .none .mul p_28 (.int .u32 2)).bind fun x31 =>
 (binA .none .add k_29 (.int .i64 1)).bind fun x32 =>
 rec2 [b_24, out_25, i_26, x27, x31, x32] H30
noncomputable def Sh.gliderref01_Of_l2 (H0 : AHeap) (rec1 : LK) (rec2 : LK) (b_10 out_11 i_12 x13 p_14 k_15 : AVal) (H16 : AHeap) : Out :=
 (lenSl b_10).bind fun x17 =>
 (binA .none .lss k_15 x17).bind fun x18 =>
 gk x18 true (some k_15) fun x19 =>
 gk x18 true (some i_12) fun x20 =>
 gk x18 true (binA .none .add x20 (.int .i64 32)) fun x21 =>
 gk x18 true (binA .none .lss x19 x21) fun x22 =>
 (condV x18 x22 (.bool false)).bind fun x23 =>
 condA x23 (
 joinPt (fun j3 =>
 (idxSl 1 b_10 k_15).bind fun x33 =>
 (loadA false 1 x33 H16).bind fun x34 =>
 condA x34 (
 (binA .none .add x13 p_14).bind fun x35 =>
 j3 [b_10, out_11, i_12, x35, p_14, k_15] H16) (
 j3 [b_10, out_11, i_12, x13, p_14, k_15] H16)) (fun vs H => Sh.gliderref01_Of_j3 H0 rec2 (ag vs 0) (ag vs 1) (ag vs 2) (ag vs 3) (ag vs 4) (ag vs 5) H)) (
 (buildSl 1 [x13]).bind fun x36 =>
 bP H0 (retVH (appendA ty_uint32 1 4 out_11 x36 H16)) fun x37 H38 =>
 (binA .none .add i_12 (.int .i64 32)).bind fun x39 =>
 rec1 [b_10, x37, x39] H38)
noncomputable def Sh.gliderref01_Of_l1 (H0 : AHeap) (rec1 : LK) (b_4 out_5 i_6 : AVal) (H7 : AHeap) : Out :=
 (lenSl b_4).bind fun x8 =>
 (binA .none .lss i_6 x8).bind fun x9 =>
 condA x9 (
 loopGen (fun rec2 vs H => Sh.gliderref01_Of_l2 H0 rec1 rec2 (ag vs 0) (ag vs 1) (ag vs 2) (ag vs 3) (ag vs 4) (ag vs 5) H) FUEL [b_4, out_5, i_6, (.int .u32 0), (.int .u32 1), i_6] H7) (
 rPN H0 out_5 H7)
noncomputable def Sh.gliderref01_Of (b_1 : AVal) (H0 : AHeap) : Out :=
 bP H0 (Sh.gliderref01_cut b_1 H0) fun x2 H3 =>
 loopGen (fun rec1 vs H => Sh.gliderref01_Of_l1 H0 rec1 (ag vs 0) (ag vs 1) (ag vs 2) H) FUEL [x2, (.sl [] .tight), (.int .i64 0)] H3
noncomputable def Sh.gliderref01_Norm (a_1 : AVal) (H0 : AHeap) : Out :=
 bK H0 (Sh.gliderref01_Bits a_1 H0) fun x2 H3 =>
 bK H0 (Sh.gliderref01_Of x2 H3) fun x4 H5 =>
 rKN H0 x4 H5
noncomputable def Sh.gliderref02_sign (neg_1 l_2 : AVal) (H0 : AHeap) : Out :=
 afterA (allocA (some [(.bool false), (.sl [] .tight)]) H0) fun x3 H4 =>
 bP H0 (Sh.gliderref01_Norm l_2 H4) fun x5 H6 =>
 gk neg_1 true (some x5) fun x7 =>
 gk neg_1 true (lenSl x7) fun x8 =>
 gk neg_1 true (binA .none .gtr x8 (.int .i64 0)) fun x9 =>
 (condV neg_1 x9 (.bool false)).bind fun x10 =>
 (buildA (some [(.bool false), (.sl [] .tight)]) [(0, 1, x10), (1, 1, x5)]).bind fun x11 =>
 bP H0 (retH (storeA 2 x3 x11 H6)) fun _ H13 =>
 (loadA true 2 x3 H13).bind fun x14 => rPN H0 x14 H13
noncomputable def Sh.gliderref02_Minus (x1 : AVal) (H0 : AHeap) : Out :=
 afterA (boxA true 2 x1 H0) fun x2 H3 =>
 afterA (allocA (some [(.bool false), (.sl [] .tight)]) H3) fun x4 H5 =>
 (fieldAddrA 0 x2).bind fun x6 =>
 (loadA false 1 x6 H5).bind fun x7 =>
 (unA .not x7).bind fun x8 =>
 (fieldAddrA 1 x2).bind fun x9 =>
 (loadA false 1 x9 H5).bind fun x10 =>
 bP H0 (Sh.gliderref02_sign x8 x10 H5) fun x11 H12 =>
 bP H0 (retH (storeA 2 x4 x11 H12)) fun _ H14 =>
 (loadA true 2 x4 H14).bind fun x15 => rPN H0 x15 H14
noncomputable def Sh.gliderref01_at (b_1 i_2 : AVal) (H0 : AHeap) : Out :=
 (binA .none .geq i_2 (.int .i64 0)).bind fun x3 =>
 gk x3 true (some i_2) fun x4 =>
 gk x3 true (some b_1) fun x5 =>
 gk x3 true (lenSl x5) fun x6 =>
 gk x3 true (binA .none .lss x4 x6) fun x7 =>
 (condV x3 x7 (.bool false)).bind fun x8 =>
 gk x8 true (some b_1) fun x9 =>
 gk x8 true (some i_2) fun x10 =>
 gk x8 true (idxSl 1 x9 x10) fun x11 =>
 gk x8 true (loadA false 1 x11 H0) fun x12 =>
 (condV x8 x12 (.bool false)).bind fun x13 =>
 rK H0 x13 H0
noncomputable def Sh.gliderref01_Add_j4 (H0 : AHeap) (rec1 : LK) (x31 y_32 out_33 i_34 n_35 : AVal) (H36 : AHeap) : Out :=
 (binA .none .rem n_35 (.int .i64 2)).bind fun x37 =>
 (binA .none .eql x37 (.int .i64 1)).bind fun x38 =>
 (buildSl 1 [x38]).bind fun x39 =>
 bP H0 (retVH (appendA ty_bool 1 1 out_33 x39 H36)) fun x40 H41 =>
 (binA .none .gtr n_35 (.int .i64 1)).bind fun x42 =>
 (binA .none .add i_34 (.int .i64 1)).bind fun x43 =>
 rec1 [x31, y_32, x40, x42, x43] H41
noncomputable def Sh.gliderref01_Add_j3 (H0 : AHeap) (rec1 : LK) (x24 y_25 out_26 carry_27 i_28 n_29 : AVal) (H30 : AHeap) : Out :=
 joinPt (fun j4 =>
 condA carry_27 (
 (binA .none .add n_29 (.int .i64 1)).bind fun x44 =>
 j4 [x24, y_25, out_26, i_28, x44] H30) (
 j4 [x24, y_25, out_26, i_28, n_29] H30)) (fun vs H => Sh.gliderref01_Add_j4 H0 rec1 (ag vs 0) (ag vs 1) (ag vs 2) (ag vs 3) (ag vs 4) H)
noncomputable def Sh.gliderref01_Add_j2 (H0 : AHeap) (rec1 : LK) (x17 y_18 out_19 carry_20 i_21 n_22 : AVal) (H23 : AHeap) : Out :=
 joinPt (fun j3 =>
 bP H0 (Sh.gliderref01_at y_18 i_21 H23) fun x45 H46 =>
 condA x45 (
 (binA .none .add n_22 (.int .i64 1)).bind fun x47 =>
 j3 [x17, y_18, out_19, carry_20, i_21, x47] H46) (
 j3 [x17, y_18, out_19, carry_20, i_21, n_22] H46)) (fun vs H => Sh.gliderref01_Add_j3 H0 rec1 (ag vs 0) (ag vs 1) (ag vs 2) (ag vs 3) (ag vs 4) (ag vs 5) H)
noncomputable def Sh.gliderref01_Add_l1 (H0 : AHeap) (rec1 : LK) (x7 y_8 out_9 carry_10 i_11 : AVal) (H12 : AHeap) : Out :=
 (lenSl x7).bind fun x13 =>
 (lenSl y_8).bind fun x14 =>
 (foldA max2A x13 [x14]).bind fun x15 =>
 (binA .none .leq i_11 x15).bind fun x16 =>
 condA x16 (
 joinPt (fun j2 =>
 bP H0 (Sh.gliderref01_at x7 i_11 H12) fun x48 H49 =>
 condA x48 (
 (binA .none .add (.int .i64 0) (.int .i64 1)).bind fun x50 =>
 j2 [x7, y_8, out_9, carry_10, i_11, x50] H49) (
 j2 [x7, y_8, out_9, carry_10, i_11, (.int .i64 0)] H49)) (fun vs H => Sh.gliderref01_Add_j2 H0 rec1 (ag vs 0) (ag vs 1) (ag vs 2) (ag vs 3) (ag vs 4) (ag vs 5) H)) (
 bP H0 (Sh.gliderref01_Of out_9 H12) fun x51 H52 =>
 rPN H0 x51 H52)
noncomputable def Sh.gliderref01_Add (a_1 b_2 : AVal) (H0 : AHeap) : Out :=
 bP H0 (Sh.gliderref01_Bits a_1 H0) fun x3 H4 =>
 bP H0 (Sh.gliderref01_Bits b_2 H4) fun x5 H6 =>
 loopGen (fun rec1 vs H => Sh.gliderref01_Add_l1 H0 rec1 (ag vs 0) (ag vs 1) (ag vs 2) (ag vs 3) (ag vs 4) H) FUEL [x3, x5, (.sl [] .tight), (.bool false), (.int .i64 0)] H6
noncomputable def Sh.gliderref01_Cmp_l1 (H0 : AHeap) (rec1 : LK) (x11 y_12 i_13 : AVal) (H14 : AHeap) : Out :=
 (binA .none .geq i_13 (.int .i64 0)).bind fun x15 =>
 condA x15 (
 bK H0 (Sh.gliderref01_at x11 i_13 H14) fun x16 H17 =>
 bK H0 (Sh.gliderref01_at y_12 i_13 H17) fun x18 H19 =>
 (binA .bool .neq x16 x18).bind fun x20 =>
 condA x20 (
 bK H0 (Sh.gliderref01_at x11 i_13 H19) fun x21 H22 =>
 condA x21 (
 rK H0 (.int .i64 1) H22) (
 rK H0 (.int .i64 (-1)) H22)) (
 (binA .none .sub i_13 (.int .i64 1)).bind fun x23 =>
 rec1 [x11, y_12, x23] H19)) (
 rK H0 (.int .i64 0) H14)
noncomputable def Sh.gliderref01_Cmp (a_1 b_2 : AVal) (H0 : AHeap) : Out :=
 bK H0 (Sh.gliderref01_Bits a_1 H0) fun x3 H4 =>
 bK H0 (Sh.gliderref01_Bits b_2 H4) fun x5 H6 =>
 (lenSl x3).bind fun x7 =>
 (lenSl x5).bind fun x8 =>
 (foldA max2A x7 [x8]).bind fun x9 =>
 (binA .none .sub x9 (.int .i64 1)).bind fun x10 =>
 loopGen (fun rec1 vs H => Sh.gliderref01_Cmp_l1 H0 rec1 (ag vs 0) (ag vs 1) (ag vs 2) H) FUEL [x3, x5, x10] H6
noncomputable def Sh.gliderref01_Sub_j4 (H0 : AHeap) (rec1 : LK) (x31 y_32 out_33 borrow_34 i_35 n_36 : AVal) (H37 : AHeap) : Out :=
 (binA .none .eql n_36 (.int .i64 1)).bind fun x38 =>
 (buildSl 1 [x38]).bind fun x39 =>
 bP H0 (retVH (appendA ty_bool 1 1 out_33 x39 H37)) fun x40 H41 =>
 (binA .none .add i_35 (.int .i64 1)).bind fun x42 =>
 rec1 [x31, y_32, x40, borrow_34, x42] H41
noncomputable def Sh.gliderref01_Sub_j3 (H0 : AHeap) (rec1 : LK) (x25 y_26 out_27 i_28 n_29 : AVal) (H30 : AHeap) : Out :=
 joinPt (fun j4 =>
 (binA .none .lss n_29 (.int .i64 0)).bind fun x43 =>
 condA x43 (
 (binA .none .add n_29 (.int .i64 2)).bind fun x44 =>
 j4 [x25, y_26, out_27, (.int .i64 1), i_28, x44] H30) (
 j4 [x25, y_26, out_27, (.int .i64 0), i_28, n_29] H30)) (fun vs H => Sh.gliderref01_Sub_j4 H0 rec1 (ag vs 0) (ag vs 1) (ag vs 2) (ag vs 3) (ag vs 4) (ag vs 5) H)
noncomputable def Sh.gliderref01_Sub_j2 (H0 : AHeap) (rec1 : LK) (x19 y_20 out_21 i_22 n_23 : AVal) (H24 : AHeap) : Out :=
 joinPt (fun j3 =>
 bP H0 (Sh.gliderref01_at y_20 i_22 H24) fun x45 H46 =>
 condA x45 (
 (binA .none .sub n_23 (.int .i64 1)).bind fun x47 =>
 j3 [x19, y_20, out_21, i_22, x47] H46) (
 j3 [x19, y_20, out_21, i_22, n_23] H46)) (fun vs H => Sh.gliderref01_Sub_j3 H0 rec1 (ag vs 0) (ag vs 1) (ag vs 2) (ag vs 3) (ag vs 4) H)
noncomputable def Sh.gliderref01_Sub_l1 (H0 : AHeap) (rec1 : LK) (x10 y_11 out_12 borrow_13 i_14 : AVal) (H15 : AHeap) : Out :=
 (lenSl x10).bind fun x16 =>
 (binA .none .lss i_14 x16).bind fun x17 =>
 condA x17 (
 (unA .neg borrow_13).bind fun x18 =>
 joinPt (fun j2 =>
 bP H0 (Sh.gliderref01_at x10 i_14 H15) fun x48 H49 =>
 condA x48 (
 (binA .none .add x18 (.int .i64 1)).bind fun x50 =>
 j2 [x10, y_11, out_12, i_14, x50] H49) (
 j2 [x10, y_11, out_12, i_14, x18] H49)) (fun vs H => Sh.gliderref01_Sub_j2 H0 rec1 (ag vs 0) (ag vs 1) (ag vs 2) (ag vs 3) (ag vs 4) H)) (
 bP H0 (Sh.gliderref01_Of out_12 H15) fun x51 H52 =>
 rPN H0 (.tup [x51, (.bool true)]) H52)
noncomputable def Sh.gliderref01_Sub (a_1 b_2 : AVal) (H0 : AHeap) : Out :=
 bP H0 (Sh.gliderref01_Cmp a_1 b_2 H0) fun x3 H4 =>
 (binA .none .lss x3 (.int .i64 0)).bind fun x5 =>
 condA x5 (
 rPN H0 (.tup [(.sl [] .tight), (.bool false)]) H4) (
 bP H0 (Sh.gliderref01_Bits a_1 H4) fun x6 H7 =>
 bP H0 (Sh.gliderref01_Bits b_2 H7) fun x8 H9 =>
 loopGen (fun rec1 vs H => Sh.gliderref01_Sub_l1 H0 rec1 (ag vs 0) (ag vs 1) (ag vs 2) (ag vs 3) (ag vs 4) H) FUEL [x6, x8, (.sl [] .tight), (.int .i64 0), (.int .i64 0)] H9)
noncomputable def Sh.gliderref02_Add (x1 y_2 : AVal) (H0 : AHeap) : Out :=
 afterA (boxA true 2 x1 H0) fun x3 H4 =>
 afterA (boxA true 2 y_2 H4) fun y_5 H6 =>
 afterA (allocA (some [(.bool false), (.sl [] .tight)]) H6) fun x7 H8 =>
 (fieldAddrA 0 x3).bind fun x9 =>
 (loadA false 1 x9 H8).bind fun x10 =>
 (fieldAddrA 0 y_5).bind fun x11 =>
 (loadA false 1 x11 H8).bind fun x12 =>
 (binA .bool .eql x10 x12).bind fun x13 =>
 condA x13 (
 (fieldAddrA 1 x3).bind fun x14 =>
 bC (loadA false 1 x14 H8) (fun _ => True) fun x15 =>
 (fieldAddrA 1 y_5).bind fun x16 =>
 bC (loadA false 1 x16 H8) (fun _ => True) fun x17 =>
 bindN (Sh.gliderref01_Add x15 x17 H8) fun x18 H19 =>
 (fieldAddrA 0 x3).bind fun x20 =>
 bC (loadA false 1 x20 H19) (fun x21 => loadA false 1 x20 H8 = some x21 ∧ True) fun x21 =>
 bindN (Sh.gliderref02_sign x21 x18 H19) fun x22 H23 =>
 bP H0 (retH (storeA 2 x7 x22 H23)) fun _ H25 =>
 (loadA true 2 x7 H25).bind fun x26 => rPN H0 x26 H25) (
 (fieldAddrA 1 x3).bind fun x27 =>
 (loadA false 1 x27 H8).bind fun x28 =>
 (fieldAddrA 1 y_5).bind fun x29 =>
 (loadA false 1 x29 H8).bind fun x30 =>
 bP H0 (Sh.gliderref01_Sub x28 x30 H8) fun x31 H32 =>
 (extractA 0 x31).bind fun x33 =>
 (extractA 1 x31).bind fun x34 =>
 condA x34 (
 (fieldAddrA 0 x3).bind fun x35 =>
 (loadA false 1 x35 H32).bind fun x36 =>
 bP H0 (Sh.gliderref02_sign x36 x33 H32) fun x37 H38 =>
 bP H0 (retH (storeA 2 x7 x37 H38)) fun _ H40 =>
 (loadA true 2 x7 H40).bind fun x41 => rPN H0 x41 H40) (
 (fieldAddrA 1 y_5).bind fun x42 =>
 (loadA false 1 x42 H32).bind fun x43 =>
 (fieldAddrA 1 x3).bind fun x44 =>
 (loadA false 1 x44 H32).bind fun x45 =>
 bP H0 (Sh.gliderref01_Sub x43 x45 H32) fun x46 H47 =>
 (extractA 0 x46).bind fun x48 =>
 (extractA 1 x46).bind fun x49 =>
 (fieldAddrA 0 y_5).bind fun x50 =>
 (loadA false 1 x50 H47).bind fun x51 =>
 bP H0 (Sh.gliderref02_sign x51 x48 H47) fun x52 H53 =>
 bP H0 (retH (storeA 2 x7 x52 H53)) fun _ H55 =>
 (loadA true 2 x7 H55).bind fun x56 => rPN H0 x56 H55))
noncomputable def Sh.gliderref02_Sub (x1 y_2 : AVal) (H0 : AHeap) : Out :=
 afterA (boxA true 2 x1 H0) fun x3 H4 =>
 afterA (boxA true 2 y_2 H4) fun y_5 H6 =>
 afterA (allocA (some [(.bool false), (.sl [] .tight)]) H6) fun x7 H8 =>
 bC (loadA true 2 y_5 H8) (fun _ => True) fun x9 =>
 bindN (Sh.gliderref02_Minus x9 H8) fun x10 H11 =>
 bC (loadA true 2 x3 H11) (fun x12 => loadA true 2 x3 H8 = some x12 ∧ True) fun x12 =>
 bindN (Sh.gliderref02_Add x12 x10 H11) fun x13 H14 =>
 bP H0 (retH (storeA 2 x7 x13 H14)) fun _ H16 =>
 (loadA true 2 x7 H16).bind fun x17 => rPN H0 x17 H16
noncomputable def Sh.gliderref02_Cmp (x1 y_2 : AVal) (H0 : AHeap) : Out :=
 afterA (boxA true 2 x1 H0) fun x3 H4 =>
 afterA (boxA true 2 y_2 H4) fun y_5 H6 =>
 (loadA true 2 x3 H6).bind fun x7 =>
 (loadA true 2 y_5 H6).bind fun x8 =>
 bP H0 (Sh.gliderref02_Sub x7 x8 H6) fun x9 H10 =>
 afterA (allocA (some [(.bool false), (.sl [] .tight)]) H10) fun d_11 H12 =>
 bP H0 (retH (storeA 2 d_11 x9 H12)) fun _ H14 =>
 (fieldAddrA 1 d_11).bind fun x15 =>
 (loadA false 1 x15 H14).bind fun x16 =>
 (lenSl x16).bind fun x17 =>
 (binA .none .eql x17 (.int .i64 0)).bind fun x18 =>
 condA x18 (
 rP H0 (.int .i64 0) H14) (
 (fieldAddrA 0 d_11).bind fun x19 =>
 (loadA false 1 x19 H14).bind fun x20 =>
 condA x20 (
 rP H0 (.int .i64 (-1)) H14) (
 rP H0 (.int .i64 1) H14))
noncomputable def Sh.gliderref07_order (a_1 b_2 : AVal) (H0 : AHeap) : Out :=
 afterA (boxA true 5 a_1 H0) fun a_3 H4 =>
 afterA (boxA true 5 b_2 H4) fun b_5 H6 =>
 (fieldAddrA 2 a_3).bind fun x7 =>
 (loadA true 2 x7 H6).bind fun x8 =>
 (fieldAddrA 2 b_5).bind fun x9 =>
 (loadA true 2 x9 H6).bind fun x10 =>
 bP H0 (Sh.gliderref02_Cmp x8 x10 H6) fun x11 H12 =>
 (binA .none .neq x11 (.int .i64 0)).bind fun x13 =>
 condA x13 (
 rP H0 x11 H12) (
 (fieldAddrA 0 a_3).bind fun x14 =>
 (loadA true 2 x14 H12).bind fun x15 =>
 (fieldAddrA 0 b_5).bind fun x16 =>
 (loadA true 2 x16 H12).bind fun x17 =>
 bP H0 (Sh.gliderref02_Cmp x15 x17 H12) fun x18 H19 =>
 rP H0 x18 H19)
noncomputable def Sh.gliderref07_Last_j3 (H0 : AHeap) (rec1 : LK) (x46 x47 x48 x49 x50 : AVal) (H51 : AHeap) : Out :=
 (sliceSl 5 x47 none (some x49) (some x49)).bind fun x52 =>
 (idxSl 5 x46 x48).bind fun x53 =>
 bC (loadA true 5 x53 H51) (fun _ => True) fun x54 =>
 (buildSl 5 [x54]).bind fun x55 =>
 bindN (retVH (appendA ty_api_Cell 5 72 x52 x55 H51)) fun x56 H57 =>
 bindN (retVH (appendA ty_api_Cell 5 72 x56 x50 H57)) fun x58 H59 =>
 (binA .none .add x48 (.int .i64 1)).bind fun x60 =>
 rec1 [x46, x58, x60] H59
noncomputable def Sh.gliderref07_Last_l2 (H0 : AHeap) (rec1 : LK) (rec2 : LK) (x8 x9 x10 x11 : AVal) (H12 : AHeap) : Out :=
 (lenSl x9).bind fun x13 =>
 (binA .none .lss x11 x13).bind fun x14 =>
 gk x14 true (some x9) fun x15 =>
 gk x14 true (some x11) fun x16 =>
 gk x14 true (idxSl 5 x15 x16) fun x17 =>
 gkc x14 true (loadA true 5 x17 H12) (fun _ _ => True) fun x18 =>
 gk x14 true (some x8) fun x19 =>
 gk x14 true (some x10) fun x20 =>
 gk x14 true (idxSl 5 x19 x20) fun x21 =>
 gkc x14 true (loadA true 5 x21 H12) (fun _ _ => True) fun x22 =>
 gbN x14 true H12 (Sh.gliderref07_order x18 x22 H12) fun x23 H24 =>
 gk x14 true (binA .none .lss x23 (.int .i64 0)) fun x25 =>
 (condV x14 x25 (.bool false)).bind fun x26 =>
 condA x26 (
 (binA .none .add x11 (.int .i64 1)).bind fun x27 =>
 rec2 [x8, x9, x10, x27] H24) (
 (lenSl x9).bind fun x28 =>
 (binA .none .lss x11 x28).bind fun x29 =>
 gk x29 true (some x9) fun x30 =>
 gk x29 true (some x11) fun x31 =>
 gk x29 true (idxSl 5 x30 x31) fun x32 =>
 gkc x29 true (loadA true 5 x32 H24) (fun _ _ => True) fun x33 =>
 gk x29 true (some x8) fun x34 =>
 gk x29 true (some x10) fun x35 =>
 gk x29 true (idxSl 5 x34 x35) fun x36 =>
 gkc x29 true (loadA true 5 x36 H24) (fun _ _ => True) fun x37 =>
 gbN x29 true H24 (Sh.gliderref07_order x33 x37 H24) fun x38 H39 =>
 gk x29 true (binA .none .eql x38 (.int .i64 0)) fun x40 =>
 (condV x29 x40 (.bool false)).bind fun x41 =>
 (buildSl 5 []).bind fun x42 =>
 (sliceSl 5 x9 (some x11) none none).bind fun x43 =>
 bP H0 (retVH (appendA ty_api_Cell 5 72 x42 x43 H39)) fun x44 H45 =>
 joinPt (fun j3 =>
 condA x41 (
 (sliceSl 5 x44 (some (.int .i64 1)) none none).bind fun x61 =>
 j3 [x8, x9, x10, x11, x61] H45) (
 j3 [x8, x9, x10, x11, x44] H45)) (fun vs H => Sh.gliderref07_Last_j3 H0 rec1 (ag vs 0) (ag vs 1) (ag vs 2) (ag vs 3) (ag vs 4) H))
noncomputable def Sh.gliderref07_Last_j5 (H0 : AHeap) (rec4 : LK) (x68 x69 x70 : AVal) (H71 : AHeap) : Out :=
 (binA .none .add x70 (.int .i64 1)).bind fun x72 =>
 rec4 [x68, x69, x72] H71
noncomputable def Sh.gliderref07_Last_l4 (H0 : AHeap) (rec4 : LK) (x62 x63 x64 : AVal) (H65 : AHeap) : Out :=
 (lenSl x62).bind fun x66 =>
 (binA .none .lss x64 x66).bind fun x67 =>
 condA x67 (
 joinPt (fun j5 =>
 (idxSl 5 x62 x64).bind fun x73 =>
 (fieldAddrA 4 x73).bind fun x74 =>
 (loadA false 1 x74 H65).bind fun x75 =>
 (binA .none .neq x75 (.int .u8 0)).bind fun x76 =>
 condA x76 (
 (idxSl 5 x62 x64).bind fun x77 =>
 (loadA true 5 x77 H65).bind fun x78 =>
 (buildSl 5 [x78]).bind fun x79 =>
 bP H0 (retVH (appendA ty_api_Cell 5 72 x63 x79 H65)) fun x80 H81 =>
 j5 [x62, x80, x64] H81) (
 j5 [x62, x63, x64] H65)) (fun vs H => Sh.gliderref07_Last_j5 H0 rec4 (ag vs 0) (ag vs 1) (ag vs 2) H)) (
 rPN H0 x63 H65)
noncomputable def Sh.gliderref07_Last_l1 (H0 : AHeap) (rec1 : LK) (x2 x3 x4 : AVal) (H5 : AHeap) : Out :=
 (lenSl x2).bind fun x6 =>
 (binA .none .lss x4 x6).bind fun x7 =>
 condA x7 (
 loopGen (fun rec2 vs H => Sh.gliderref07_Last_l2 H0 rec1 rec2 (ag vs 0) (ag vs 1) (ag vs 2) (ag vs 3) H) FUEL [x2, x3, x4, (.int .i64 0)] H5) (
 loopGen (fun rec4 vs H => Sh.gliderref07_Last_l4 H0 rec4 (ag vs 0) (ag vs 1) (ag vs 2) H) FUEL [x3, (.sl [] .tight), (.int .i64 0)] H5)
noncomputable def Sh.gliderref07_Last (x1 : AVal) (H0 : AHeap) : Out :=
 loopGen (fun rec1 vs H => Sh.gliderref07_Last_l1 H0 rec1 (ag vs 0) (ag vs 1) (ag vs 2) H) FUEL [x1, (.sl [] .tight), (.int .i64 0)] H0
noncomputable def Sh.gliderref02_Of_j1 (H0 : AHeap) (n_5 x6 u_7 : AVal) (H8 : AHeap) : Out :=
 (binA .none .lss n_5 (.int .i64 0)).bind fun x9 =>
 (binA .none .rem u_7 (.int .u64 4294967296)).bind fun x10 =>
 (convInt .u32 x10).bind fun x11 =>
 (binA .none .quo u_7 (.int .u64 4294967296)).bind fun x12 =>
 (convInt .u32 x12).bind fun x13 =>
 (buildSl 1 [x11, x13]).bind fun x14 =>
 bP H0 (Sh.gliderref02_sign x9 x14 H8) fun x15 H16 =>
 bP H0 (retH (storeA 2 x6 x15 H16)) fun _ H18 =>
 (loadA true 2 x6 H18).bind fun x19 => rPN H0 x19 H18
noncomputable def Sh.gliderref02_Of (n_1 : AVal) (H0 : AHeap) : Out :=
 afterA (allocA (some [(.bool false), (.sl [] .tight)]) H0) fun x2 H3 =>
 (convInt .u64 n_1).bind fun x4 =>
 joinPt (fun j1 =>
 (binA .none .lss n_1 (.int .i64 0)).bind fun x20 =>
 condA x20 (
 (unA .neg x4).bind fun x21 =>
 j1 [n_1, x2, x21] H3) (
 j1 [n_1, x2, x4] H3)) (fun vs H => Sh.gliderref02_Of_j1 H0 (ag vs 0) (ag vs 1) (ag vs 2) H)
noncomputable def Sh.gliderref01_Shl (a_1 n_2 : AVal) (H0 : AHeap) : Out :=
 (binA .none .lss n_2 (.int .i64 0)).bind fun x3 =>
 gk x3 false (some n_2) fun x4 =>
 gk x3 false (binA .none .gtr x4 (.int .i64 10000)) fun x5 =>
 (condV x3 (.bool true) x5).bind fun x6 =>
 condA x6 (
 rPN H0 (.sl [] .tight) H0) (
 bindN (Sh.gliderref01_Bits a_1 H0) fun x7 H8 =>
 afterA (makeA 1 1 (some [(.bool false)]) n_2 n_2 H8) fun x9 H10 =>
 bindN (retVH (appendA ty_bool 1 1 x9 x7 H10)) fun x11 H12 =>
 bindN (Sh.gliderref01_Of x11 H12) fun x13 H14 =>
 rPN H0 x13 H14)
noncomputable def Sh.gliderref02_Shl (x1 n_2 : AVal) (H0 : AHeap) : Out :=
 afterA (boxA true 2 x1 H0) fun x3 H4 =>
 afterA (allocA (some [(.bool false), (.sl [] .tight)]) H4) fun x5 H6 =>
 (fieldAddrA 1 x3).bind fun x7 =>
 bC (loadA false 1 x7 H6) (fun _ => True) fun x8 =>
 bindN (Sh.gliderref01_Shl x8 n_2 H6) fun x9 H10 =>
 (fieldAddrA 0 x3).bind fun x11 =>
 bC (loadA false 1 x11 H10) (fun x12 => loadA false 1 x11 H6 = some x12 ∧ True) fun x12 =>
 bindN (Sh.gliderref02_sign x12 x9 H10) fun x13 H14 =>
 bP H0 (retH (storeA 2 x5 x13 H14)) fun _ H16 =>
 (loadA true 2 x5 H16).bind fun x17 => rPN H0 x17 H16
noncomputable def Sh.gliderref02_Pow (n_1 : AVal) (H0 : AHeap) : Out :=
 afterA (allocA (some [(.bool false), (.sl [] .tight)]) H0) fun x2 H3 =>
 bP H0 (Sh.gliderref02_Of (.int .i64 1) H3) fun x4 H5 =>
 bP H0 (Sh.gliderref02_Shl x4 n_1 H5) fun x6 H7 =>
 bP H0 (retH (storeA 2 x2 x6 H7)) fun _ H9 =>
 (loadA true 2 x2 H9).bind fun x10 => rPN H0 x10 H9
noncomputable def Sh.gliderref07_within (c_1 level_2 : AVal) (H0 : AHeap) : Out :=
 afterA (boxA true 5 c_1 H0) fun c_3 H4 =>
 (binA .none .sub level_2 (.int .i64 1)).bind fun x5 =>
 bP H0 (Sh.gliderref02_Pow x5 H4) fun x6 H7 =>
 afterA (allocA (some [(.bool false), (.sl [] .tight)]) H7) fun p_8 H9 =>
 bP H0 (retH (storeA 2 p_8 x6 H9)) fun _ H11 =>
 (loadA true 2 p_8 H11).bind fun x12 =>
 bP H0 (Sh.gliderref02_Minus x12 H11) fun x13 H14 =>
 afterA (allocA (some [(.bool false), (.sl [] .tight)]) H14) fun low_15 H16 =>
 bP H0 (retH (storeA 2 low_15 x13 H16)) fun _ H18 =>
 (fieldAddrA 0 c_3).bind fun x19 =>
 (loadA true 2 x19 H18).bind fun x20 =>
 (loadA true 2 low_15 H18).bind fun x21 =>
 bP H0 (Sh.gliderref02_Cmp x20 x21 H18) fun x22 H23 =>
 (binA .none .geq x22 (.int .i64 0)).bind fun x24 =>
 gk x24 true (fieldAddrA 0 c_3) fun x25 =>
 gk x24 true (loadA true 2 x25 H23) fun x26 =>
 gk x24 true (loadA true 2 p_8 H23) fun x27 =>
 gbP H0 x24 true H23 (Sh.gliderref02_Cmp x26 x27 H23) fun x28 H29 =>
 gk x24 true (binA .none .lss x28 (.int .i64 0)) fun x30 =>
 (condV x24 x30 (.bool false)).bind fun x31 =>
 gk x31 true (fieldAddrA 2 c_3) fun x32 =>
 gk x31 true (loadA true 2 x32 H29) fun x33 =>
 gk x31 true (loadA true 2 low_15 H29) fun x34 =>
 gbP H0 x31 true H29 (Sh.gliderref02_Cmp x33 x34 H29) fun x35 H36 =>
 gk x31 true (binA .none .geq x35 (.int .i64 0)) fun x37 =>
 (condV x31 x37 (.bool false)).bind fun x38 =>
 gk x38 true (fieldAddrA 2 c_3) fun x39 =>
 gk x38 true (loadA true 2 x39 H36) fun x40 =>
 gk x38 true (loadA true 2 p_8 H36) fun x41 =>
 gbP H0 x38 true H36 (Sh.gliderref02_Cmp x40 x41 H36) fun x42 H43 =>
 gk x38 true (binA .none .lss x42 (.int .i64 0)) fun x44 =>
 (condV x38 x44 (.bool false)).bind fun x45 =>
 rP H0 x45 H43
noncomputable def Sh.gliderref07_place_j2 (H0 : AHeap) (rec1 : LK) (x34 x35 x36 x37 x38 x39 x40 x41 : AVal) (H42 : AHeap) : Out :=
 (binA .none .add x41 (.int .i64 1)).bind fun x43 =>
 rec1 [x34, x35, x36, x37, x38, x39, x40, x43] H42
noncomputable def Sh.gliderref07_place_j6 (H0 : AHeap) (rec5 : LK) (x91 x92 x93 x94 x95 x96 x97 x98 x99 x100 x101 x102 : AVal) (H103 : AHeap) : Out :=
 (binA .none .add x102 (.int .i64 1)).bind fun x104 =>
 rec5 [x91, x92, x93, x94, x95, x96, x97, x98, x99, x100, x101, x104] H103
noncomputable def Sh.gliderref07_place_j7 (H0 : AHeap) (self : AVal → AVal → AVal → AVal → AVal → AHeap → Out) (j2 : LK) (x153 x154 x155 x156 x157 x158 x159 x160 x161 x162 x163 : AVal) (H164 : AHeap) : Out :=
 (binA .none .gtr x154 (.int .i64 1)).bind fun x165 =>
 condA x165 (
 (binA .none .sub x154 (.int .i64 1)).bind fun x166 =>
 (loadA true 2 x161 H164).bind fun x167 =>
 (loadA true 2 x162 H164).bind fun x168 =>
 bK H0 (self x153 x166 x167 x168 x163 H164) fun x169 H170 =>
 (extractA 0 x169).bind fun x171 =>
 (extractA 1 x169).bind fun x172 =>
 (fieldAddrA 1 x159).bind fun x173 =>
 (idxArr 4 1 x173 x160).bind fun x174 =>
 bK H0 (retH (storeA 1 x174 x172 H170)) fun _ H176 =>
 j2 [x171, x154, x155, x156, x157, x158, x159, x160] H176) (
 j2 [x153, x154, x155, x156, x157, x158, x159, x160] H164)
noncomputable def Sh.gliderref07_place_l5 (H0 : AHeap) (self : AVal → AVal → AVal → AVal → AVal → AHeap → Out) (j2 : LK) (rec5 : LK) (x76 x77 x78 x79 x80 x81 x82 x83 x84 x85 x86 x87 : AVal) (H88 : AHeap) : Out :=
 (lenSl x78).bind fun x89 =>
 (binA .none .lss x87 x89).bind fun x90 =>
 condA x90 (
 joinPt (fun j6 =>
 (idxSl 5 x78 x87).bind fun x105 =>
 (fieldAddrA 0 x105).bind fun x106 =>
 bC (loadA true 2 x106 H88) (fun _ => True) fun x107 =>
 bC (loadA true 2 x84 H88) (fun _ => True) fun x108 =>
 bindN (Sh.gliderref02_Cmp x107 x108 H88) fun x109 H110 =>
 (binA .none .geq x109 (.int .i64 0)).bind fun x111 =>
 gkc x111 true (loadA true 2 x84 H110) (fun _ _ => True) fun x112 =>
 gkc x111 true (loadA true 2 x81 H110) (fun _ _ => True) fun x113 =>
 gbN x111 true H110 (Sh.gliderref02_Add x112 x113 H110) fun x114 H115 =>
 gk x111 true (some x78) fun x116 =>
 gk x111 true (some x87) fun x117 =>
 gk x111 true (idxSl 5 x116 x117) fun x118 =>
 gk x111 true (fieldAddrA 0 x118) fun x119 =>
 gkc x111 true (loadA true 2 x119 H115) (fun b x120 => gR b (loadA true 2 x119 H110) = some x120 ∧ True) fun x120 =>
 gbN x111 true H115 (Sh.gliderref02_Cmp x120 x114 H115) fun x121 H122 =>
 gk x111 true (binA .none .lss x121 (.int .i64 0)) fun x123 =>
 (condV x111 x123 (.bool false)).bind fun x124 =>
 gk x124 true (some x78) fun x125 =>
 gk x124 true (some x87) fun x126 =>
 gk x124 true (idxSl 5 x125 x126) fun x127 =>
 gk x124 true (fieldAddrA 2 x127) fun x128 =>
 gkc x124 true (loadA true 2 x128 H122) (fun _ _ => True) fun x129 =>
 gkc x124 true (loadA true 2 x85 H122) (fun _ _ => True) fun x130 =>
 gbN x124 true H122 (Sh.gliderref02_Cmp x129 x130 H122) fun x131 H132 =>
 gk x124 true (binA .none .geq x131 (.int .i64 0)) fun x133 =>
 (condV x124 x133 (.bool false)).bind fun x134 =>
 gkc x134 true (loadA true 2 x85 H132) (fun _ _ => True) fun x135 =>
 gkc x134 true (loadA true 2 x81 H132) (fun _ _ => True) fun x136 =>
 gbN x134 true H132 (Sh.gliderref02_Add x135 x136 H132) fun x137 H138 =>
 gk x134 true (some x78) fun x139 =>
 gk x134 true (some x87) fun x140 =>
 gk x134 true (idxSl 5 x139 x140) fun x141 =>
 gk x134 true (fieldAddrA 2 x141) fun x142 =>
 gkc x134 true (loadA true 2 x142 H138) (fun b x143 => gR b (loadA true 2 x142 H132) = some x143 ∧ True) fun x143 =>
 gbN x134 true H138 (Sh.gliderref02_Cmp x143 x137 H138) fun x144 H145 =>
 gk x134 true (binA .none .lss x144 (.int .i64 0)) fun x146 =>
 (condV x134 x146 (.bool false)).bind fun x147 =>
 condA x147 (
 (idxSl 5 x78 x87).bind fun x148 =>
 (loadA true 5 x148 H145).bind fun x149 =>
 (buildSl 5 [x149]).bind fun x150 =>
 bK H0 (retVH (appendA ty_api_Cell 5 72 x86 x150 H145)) fun x151 H152 =>
 j6 [x76, x77, x78, x79, x80, x81, x82, x83, x84, x85, x151, x87] H152) (
 j6 [x76, x77, x78, x79, x80, x81, x82, x83, x84, x85, x86, x87] H145)) (fun vs H => Sh.gliderref07_place_j6 H0 rec5 (ag vs 0) (ag vs 1) (ag vs 2) (ag vs 3) (ag vs 4) (ag vs 5) (ag vs 6) (ag vs 7) (ag vs 8) (ag vs 9) (ag vs 10) (ag vs 11) H)) (
 joinPt (fun j7 =>
 (binA .none .eql x77 (.int .i64 1)).bind fun x177 =>
 gk x177 true (some x86) fun x178 =>
 gk x177 true (lenSl x178) fun x179 =>
 gk x177 true (binA .none .gtr x179 (.int .i64 0)) fun x180 =>
 (condV x177 x180 (.bool false)).bind fun x181 =>
 condA x181 (
 (idxSl 5 x86 (.int .i64 0)).bind fun x182 =>
 (fieldAddrA 4 x182).bind fun x183 =>
 (loadA false 1 x183 H88).bind fun x184 =>
 (convInt .i64 x184).bind fun x185 =>
 (fieldAddrA 1 x82).bind fun x186 =>
 (idxArr 4 1 x186 x83).bind fun x187 =>
 bK H0 (retH (storeA 1 x187 x185 H88)) fun _ H189 =>
 j7 [x76, x77, x78, x79, x80, x81, x82, x83, x84, x85, x86] H189) (
 j7 [x76, x77, x78, x79, x80, x81, x82, x83, x84, x85, x86] H88)) (fun vs H => Sh.gliderref07_place_j7 H0 self j2 (ag vs 0) (ag vs 1) (ag vs 2) (ag vs 3) (ag vs 4) (ag vs 5) (ag vs 6) (ag vs 7) (ag vs 8) (ag vs 9) (ag vs 10) H))
noncomputable def Sh.gliderref07_place_j4 (H0 : AHeap) (self : AVal → AVal → AVal → AVal → AVal → AHeap → Out) (j2 : LK) (x65 x66 x67 x68 x69 x70 x71 x72 x73 x74 : AVal) (H75 : AHeap) : Out :=
 loopGen (fun rec5 vs H => Sh.gliderref07_place_l5 H0 self j2 rec5 (ag vs 0) (ag vs 1) (ag vs 2) (ag vs 3) (ag vs 4) (ag vs 5) (ag vs 6) (ag vs 7) (ag vs 8) (ag vs 9) (ag vs 10) (ag vs 11) H) FUEL [x65, x66, x67, x68, x69, x70, x71, x72, x73, x74, (.sl [] .tight), (.int .i64 0)] H75
noncomputable def Sh.gliderref07_place_j3 (H0 : AHeap) (self : AVal → AVal → AVal → AVal → AVal → AHeap → Out) (j2 : LK) (x54 x55 x56 x57 x58 x59 x60 x61 x62 x63 : AVal) (H64 : AHeap) : Out :=
 joinPt (fun j4 =>
 (binA .none .gtr x61 (.int .i64 1)).bind fun x190 =>
 condA x190 (
 (loadA true 2 x58 H64).bind fun x191 =>
 (loadA true 2 x59 H64).bind fun x192 =>
 bK H0 (Sh.gliderref02_Add x191 x192 H64) fun x193 H194 =>
 bK H0 (retH (storeA 2 x63 x193 H194)) fun _ H196 =>
 j4 [x54, x55, x56, x57, x58, x59, x60, x61, x62, x63] H196) (
 j4 [x54, x55, x56, x57, x58, x59, x60, x61, x62, x63] H64)) (fun vs H => Sh.gliderref07_place_j4 H0 self j2 (ag vs 0) (ag vs 1) (ag vs 2) (ag vs 3) (ag vs 4) (ag vs 5) (ag vs 6) (ag vs 7) (ag vs 8) (ag vs 9) H)
noncomputable def Sh.gliderref07_place_l1 (H0 : AHeap) (self : AVal → AVal → AVal → AVal → AVal → AHeap → Out) (rec1 : LK) (x24 x25 x26 x27 x28 x29 x30 x31 : AVal) (H32 : AHeap) : Out :=
 (binA .none .lss x31 (.int .i64 4)).bind fun x33 =>
 condA x33 (
 joinPt (fun j2 =>
 bC (loadA true 2 x27 H32) (fun _ => True) fun x44 =>
 afterA (allocA (some [(.bool false), (.sl [] .tight)]) H32) fun x45 H46 =>
 afterA (allocA (some [(.bool false), (.sl [] .tight)]) H46) fun x47 H48 =>
 bindN (retH (storeA 2 x45 x44 H48)) fun _ H50 =>
 bC (loadA true 2 x28 H50) (fun x51 => loadA true 2 x28 H32 = some x51 ∧ True) fun x51 =>
 bK H0 (retH (storeA 2 x47 x51 H50)) fun _ H53 =>
 joinPt (fun j3 =>
 (binA .none .rem x31 (.int .i64 2)).bind fun x197 =>
 (binA .none .eql x197 (.int .i64 1)).bind fun x198 =>
 condA x198 (
 (loadA true 2 x27 H53).bind fun x199 =>
 (loadA true 2 x29 H53).bind fun x200 =>
 bK H0 (Sh.gliderref02_Add x199 x200 H53) fun x201 H202 =>
 bK H0 (retH (storeA 2 x45 x201 H202)) fun _ H204 =>
 j3 [x24, x25, x26, x27, x28, x29, x30, x31, x45, x47] H204) (
 j3 [x24, x25, x26, x27, x28, x29, x30, x31, x45, x47] H53)) (fun vs H => Sh.gliderref07_place_j3 H0 self j2 (ag vs 0) (ag vs 1) (ag vs 2) (ag vs 3) (ag vs 4) (ag vs 5) (ag vs 6) (ag vs 7) (ag vs 8) (ag vs 9) H)) (fun vs H => Sh.gliderref07_place_j2 H0 rec1 (ag vs 0) (ag vs 1) (ag vs 2) (ag vs 3) (ag vs 4) (ag vs 5) (ag vs 6) (ag vs 7) H)) (
 (loadA true 5 x30 H32).bind fun x205 =>
 (buildSl 5 [x205]).bind fun x206 =>
 bK H0 (retVH (appendA ty_api_Node 5 40 x24 x206 H32)) fun x207 H208 =>
 (lenSl x207).bind fun x209 =>
 rK H0 (.tup [x207, x209]) H208)
noncomputable def Sh.gliderref07_place_F (self : AVal → AVal → AVal → AVal → AVal → AHeap → Out) (x1 x2 x3 x4 x5 : AVal) (H0 : AHeap) : Out :=
 afterA (boxA true 2 x3 H0) fun x6 H7 =>
 afterA (boxA true 2 x4 H7) fun x8 H9 =>
 (lenSl x5).bind fun x10 =>
 (binA .none .eql x10 (.int .i64 0)).bind fun x11 =>
 condA x11 (
 rK H0 (.tup [x1, (.int .i64 0)]) H9) (
 (binA .none .sub x2 (.int .i64 1)).bind fun x12 =>
 bK H0 (Sh.gliderref02_Pow x12 H9) fun x13 H14 =>
 afterA (allocA (some [(.bool false), (.sl [] .tight)]) H14) fun x15 H16 =>
 bK H0 (retH (storeA 2 x15 x13 H16)) fun _ H18 =>
 (buildA (some [(.int .i64 0), (.int .i64 0), (.int .i64 0), (.int .i64 0), (.int .i64 0)]) [(0, 1, x2)]).bind fun x19 =>
 afterA (allocA (some [(.int .i64 0), (.int .i64 0), (.int .i64 0), (.int .i64 0), (.int .i64 0)]) H18) fun x20 H21 =>
 bK H0 (retH (storeA 5 x20 x19 H21)) fun _ H23 =>
 loopGen (fun rec1 vs H => Sh.gliderref07_place_l1 H0 self rec1 (ag vs 0) (ag vs 1) (ag vs 2) (ag vs 3) (ag vs 4) (ag vs 5) (ag vs 6) (ag vs 7) H) FUEL [x1, x2, x5, x6, x8, x15, x20, (.int .i64 0)] H23)
noncomputable def Sh.gliderref07_place : Nat → AVal → AVal → AVal → AVal → AVal → AHeap → Out
  | 0 => fun _ _ _ _ _ _ => none
  | d + 1 => Sh.gliderref07_place_F (Sh.gliderref07_place d)
noncomputable def Sh.gliderref05_Loose_l2 (H0 : AHeap) (rec1 : LK) (rec2 : LK) (x18 x19 x20 : AVal) (H21 : AHeap) : Out :=
 (binA .none .lss x20 (.int .i64 4)).bind fun x22 =>
 condA x22 (
 (idxSl 5 x18 x19).bind fun x23 =>
 (fieldAddrA 1 x23).bind fun x24 =>
 (idxArr 4 1 x24 x20).bind fun x25 =>
 (loadA false 1 x25 H21).bind fun x26 =>
 (binA .none .lss x26 (.int .i64 0)).bind fun x27 =>
 gk x27 false (some x18) fun x28 =>
 gk x27 false (some x19) fun x29 =>
 gk x27 false (idxSl 5 x28 x29) fun x30 =>
 gk x27 false (fieldAddrA 0 x30) fun x31 =>
 gk x27 false (loadA false 1 x31 H21) fun x32 =>
 gk x27 false (binA .none .eql x32 (.int .i64 1)) fun x33 =>
 gk x27 false (some x33) fun x34 =>
 gk x34 true (some x26) fun x35 =>
 gk x34 true (binA .none .gtr x35 (.int .i64 255)) fun x36 =>
 gk x27 false (condV x34 x36 (.bool false)) fun x37 =>
 (condV x27 (.bool true) x37).bind fun x38 =>
 condA x38 (
 rK H0 (.bool false) H21) (
 (idxSl 5 x18 x19).bind fun x39 =>
 (fieldAddrA 0 x39).bind fun x40 =>
 bC (loadA false 1 x40 H21) (fun _ => True) fun x41 =>
 (binA .none .gtr x41 (.int .i64 1)).bind fun x42 =>
 gk x42 true (some x26) fun x43 =>
 gk x42 true (binA .none .gtr x43 (.int .i64 0)) fun x44 =>
 (condV x42 x44 (.bool false)).bind fun x45 =>
 gk x45 true (some x26) fun x46 =>
 gk x45 true (some x19) fun x47 =>
 gk x45 true (binA .none .gtr x46 x47) fun x48 =>
 gk x45 true (some x48) fun x49 =>
 gk x49 false (some x18) fun x50 =>
 gk x49 false (some x26) fun x51 =>
 gk x49 false (binA .none .sub x51 (.int .i64 1)) fun x52 =>
 gk x49 false (idxSl 5 x50 x52) fun x53 =>
 gk x49 false (fieldAddrA 0 x53) fun x54 =>
 gkc x49 false (loadA false 1 x54 H21) (fun _ _ => True) fun x55 =>
 gk x49 false (some x18) fun x56 =>
 gk x49 false (some x19) fun x57 =>
 gk x49 false (idxSl 5 x56 x57) fun x58 =>
 gk x49 false (fieldAddrA 0 x58) fun x59 =>
 gkc x49 false (loadA false 1 x59 H21) (fun _ _ => True) fun x60 =>
 gk x49 false (binA .none .sub x60 (.int .i64 1)) fun x61 =>
 gk x49 false (binA .none .neq x55 x61) fun x62 =>
 gk x45 true (condV x49 (.bool true) x62) fun x63 =>
 (condV x45 x63 (.bool false)).bind fun x64 =>
 condA x64 (
 rK H0 (.bool false) H21) (
 (binA .none .add x20 (.int .i64 1)).bind fun x65 =>
 rec2 [x18, x19, x65] H21))) (
 (binA .none .add x19 (.int .i64 1)).bind fun x66 =>
 rec1 [x18, x66] H21)
noncomputable def Sh.gliderref05_Loose_l1 (H0 : AHeap) (rec1 : LK) (x2 x3 : AVal) (H4 : AHeap) : Out :=
 (lenSl x2).bind fun x5 =>
 (binA .none .lss x3 x5).bind fun x6 =>
 condA x6 (
 (idxSl 5 x2 x3).bind fun x7 =>
 (fieldAddrA 0 x7).bind fun x8 =>
 (loadA false 1 x8 H4).bind fun x9 =>
 (binA .none .lss x9 (.int .i64 1)).bind fun x10 =>
 gk x10 false (some x2) fun x11 =>
 gk x10 false (some x3) fun x12 =>
 gk x10 false (idxSl 5 x11 x12) fun x13 =>
 gk x10 false (fieldAddrA 0 x13) fun x14 =>
 gk x10 false (loadA false 1 x14 H4) fun x15 =>
 gk x10 false (binA .none .gtr x15 (.int .i64 1329)) fun x16 =>
 (condV x10 (.bool true) x16).bind fun x17 =>
 condA x17 (
 rK H0 (.bool false) H4) (
 loopGen (fun rec2 vs H => Sh.gliderref05_Loose_l2 H0 rec1 rec2 (ag vs 0) (ag vs 1) (ag vs 2) H) FUEL [x2, x3, (.int .i64 0)] H4)) (
 rK H0 (.bool true) H4)
noncomputable def Sh.gliderref05_Loose (x1 : AVal) (H0 : AHeap) : Out :=
 loopGen (fun rec1 vs H => Sh.gliderref05_Loose_l1 H0 rec1 (ag vs 0) (ag vs 1) H) FUEL [x1, (.int .i64 0)] H0
noncomputable def Sh.gliderref05_Empties_l2 (H0 : AHeap) (rec1 : LK) (rec2 : LK) (l_15 out_16 i_17 empty_18 k_19 : AVal) (H20 : AHeap) : Out :=
 (binA .none .lss k_19 (.int .i64 4)).bind fun x21 =>
 condA x21 (
 (idxSl 5 l_15 i_17).bind fun x22 =>
 (fieldAddrA 1 x22).bind fun x23 =>
 (idxArr 4 1 x23 k_19).bind fun x24 =>
 (loadA false 1 x24 H20).bind fun x25 =>
 gk empty_18 true (some x25) fun x26 =>
 gk empty_18 true (binA .none .eql x26 (.int .i64 0)) fun x27 =>
 gk empty_18 true (some x27) fun x28 =>
 gk x28 false (some l_15) fun x29 =>
 gk x28 false (some i_17) fun x30 =>
 gk x28 false (idxSl 5 x29 x30) fun x31 =>
 gk x28 false (fieldAddrA 0 x31) fun x32 =>
 gk x28 false (loadA false 1 x32 H20) fun x33 =>
 gk x28 false (binA .none .gtr x33 (.int .i64 1)) fun x34 =>
 gk x28 false (some x34) fun x35 =>
 gk x35 true (some out_16) fun x36 =>
 gk x35 true (some x25) fun x37 =>
 gk x35 true (idxSl 1 x36 x37) fun x38 =>
 gk x35 true (loadA false 1 x38 H20) fun x39 =>
 gk x28 false (condV x35 x39 (.bool false)) fun x40 =>
 gk empty_18 true (condV x28 (.bool true) x40) fun x41 =>
 (condV empty_18 x41 (.bool false)).bind fun x42 =>
 (binA .none .add k_19 (.int .i64 1)).bind fun x43 =>
 rec2 [l_15, out_16, i_17, x42, x43] H20) (
 (binA .none .add i_17 (.int .i64 1)).bind fun x44 =>
 (idxSl 1 out_16 x44).bind fun x45 =>
 bP H0 (retH (storeA 1 x45 empty_18 H20)) fun _ H47 =>
 (binA .none .add i_17 (.int .i64 1)).bind fun x48 =>
 rec1 [l_15, out_16, x48] H47)
noncomputable def Sh.gliderref05_Empties_l1 (H0 : AHeap) (rec1 : LK) (l_9 out_10 i_11 : AVal) (H12 : AHeap) : Out :=
 (lenSl l_9).bind fun x13 =>
 (binA .none .lss i_11 x13).bind fun x14 =>
 condA x14 (
 loopGen (fun rec2 vs H => Sh.gliderref05_Empties_l2 H0 rec1 rec2 (ag vs 0) (ag vs 1) (ag vs 2) (ag vs 3) (ag vs 4) H) FUEL [l_9, out_10, i_11, (.bool true), (.int .i64 0)] H12) (
 rPN H0 out_10 H12)
noncomputable def Sh.gliderref05_Empties (l_1 : AVal) (H0 : AHeap) : Out :=
 (lenSl l_1).bind fun x2 =>
 (binA .none .add x2 (.int .i64 1)).bind fun x3 =>
 afterA (makeA 1 1 (some [(.bool false)]) x3 x3 H0) fun x4 H5 =>
 (idxSl 1 x4 (.int .i64 0)).bind fun x6 =>
 bP H0 (retH (storeA 1 x6 (.bool true) H5)) fun _ H8 =>
 loopGen (fun rec1 vs H => Sh.gliderref05_Empties_l1 H0 rec1 (ag vs 0) (ag vs 1) (ag vs 2) H) FUEL [l_1, x4, (.int .i64 0)] H8
noncomputable def Sh.gliderref05_Empty (l_1 n_2 : AVal) (H0 : AHeap) : Out :=
 bK H0 (Sh.gliderref05_Empties l_1 H0) fun x3 H4 =>
 (idxSl 1 x3 n_2).bind fun x5 =>
 (loadA false 1 x5 H4).bind fun x6 =>
 rK H0 x6 H4
noncomputable def Sh.gliderref05_Hollow_l2 (H0 : AHeap) (rec1 : LK) (rec2 : LK) (x25 x26 x27 x28 x29 x30 : AVal) (H31 : AHeap) : Out :=
 (binA .none .lss x30 (.int .i64 4)).bind fun x32 =>
 gk x32 true (some x29) fun x33 =>
 gk x32 true (binA .none .gtr x33 (.int .i64 0)) fun x34 =>
 (condV x32 x34 (.bool false)).bind fun x35 =>
 condA x35 (
 (binA .none .sub x29 (.int .i64 1)).bind fun x36 =>
 (idxSl 5 x25 x36).bind fun x37 =>
 (fieldAddrA 1 x37).bind fun x38 =>
 (idxArr 4 1 x38 x30).bind fun x39 =>
 (loadA false 1 x39 H31).bind fun x40 =>
 (binA .none .sub (.int .i64 3) x28).bind fun x41 =>
 (binA .none .neq x30 x41).bind fun x42 =>
 gk x42 true (some x25) fun x43 =>
 gk x42 true (some x26) fun x44 =>
 gk x42 true (binA .none .sub x44 (.int .i64 1)) fun x45 =>
 gk x42 true (idxSl 5 x43 x45) fun x46 =>
 gk x42 true (fieldAddrA 0 x46) fun x47 =>
 gk x42 true (loadA false 1 x47 H31) fun x48 =>
 gk x42 true (binA .none .eql x48 (.int .i64 2)) fun x49 =>
 gk x42 true (some x49) fun x50 =>
 gk x50 true (some x40) fun x51 =>
 gk x50 true (binA .none .neq x51 (.int .i64 0)) fun x52 =>
 gk x42 true (condV x50 x52 (.bool false)) fun x53 =>
 gk x42 true (some x53) fun x54 =>
 gk x54 false (some x25) fun x55 =>
 gk x54 false (some x26) fun x56 =>
 gk x54 false (binA .none .sub x56 (.int .i64 1)) fun x57 =>
 gk x54 false (idxSl 5 x55 x57) fun x58 =>
 gk x54 false (fieldAddrA 0 x58) fun x59 =>
 gk x54 false (loadA false 1 x59 H31) fun x60 =>
 gk x54 false (binA .none .gtr x60 (.int .i64 2)) fun x61 =>
 gk x54 false (some x61) fun x62 =>
 gk x62 true (some x27) fun x63 =>
 gk x62 true (some x40) fun x64 =>
 gk x62 true (idxSl 1 x63 x64) fun x65 =>
 gk x62 true (loadA false 1 x65 H31) fun x66 =>
 gk x62 true (unA .not x66) fun x67 =>
 gk x54 false (condV x62 x67 (.bool false)) fun x68 =>
 gk x42 true (condV x54 (.bool true) x68) fun x69 =>
 (condV x42 x69 (.bool false)).bind fun x70 =>
 condA x70 (
 rK H0 (.bool false) H31) (
 (binA .none .add x30 (.int .i64 1)).bind fun x71 =>
 rec2 [x25, x26, x27, x28, x29, x71] H31)) (
 (binA .none .add x28 (.int .i64 1)).bind fun x72 =>
 rec1 [x25, x26, x27, x72] H31)
noncomputable def Sh.gliderref05_Hollow_l1 (H0 : AHeap) (rec1 : LK) (x14 x15 x16 x17 : AVal) (H18 : AHeap) : Out :=
 (binA .none .lss x17 (.int .i64 4)).bind fun x19 =>
 condA x19 (
 (binA .none .sub x15 (.int .i64 1)).bind fun x20 =>
 (idxSl 5 x14 x20).bind fun x21 =>
 (fieldAddrA 1 x21).bind fun x22 =>
 (idxArr 4 1 x22 x17).bind fun x23 =>
 (loadA false 1 x23 H18).bind fun x24 =>
 loopGen (fun rec2 vs H => Sh.gliderref05_Hollow_l2 H0 rec1 rec2 (ag vs 0) (ag vs 1) (ag vs 2) (ag vs 3) (ag vs 4) (ag vs 5) H) FUEL [x14, x15, x16, x17, x24, (.int .i64 0)] H18) (
 rK H0 (.bool true) H18)
noncomputable def Sh.gliderref05_Hollow (x1 x2 : AVal) (H0 : AHeap) : Out :=
 (binA .none .eql x2 (.int .i64 0)).bind fun x3 =>
 gk x3 false (some x1) fun x4 =>
 gk x3 false (some x2) fun x5 =>
 gk x3 false (binA .none .sub x5 (.int .i64 1)) fun x6 =>
 gk x3 false (idxSl 5 x4 x6) fun x7 =>
 gk x3 false (fieldAddrA 0 x7) fun x8 =>
 gk x3 false (loadA false 1 x8 H0) fun x9 =>
 gk x3 false (binA .none .lss x9 (.int .i64 2)) fun x10 =>
 (condV x3 (.bool true) x10).bind fun x11 =>
 condA x11 (
 rK H0 (.bool false) H0) (
 bK H0 (Sh.gliderref05_Empties x1 H0) fun x12 H13 =>
 loopGen (fun rec1 vs H => Sh.gliderref05_Hollow_l1 H0 rec1 (ag vs 0) (ag vs 1) (ag vs 2) (ag vs 3) H) FUEL [x1, x2, x12, (.int .i64 0)] H13)
noncomputable def Sh.gliderref05_Inner (l_1 n_2 k_3 : AVal) (H0 : AHeap) : Out :=
 (binA .none .sub n_2 (.int .i64 1)).bind fun x4 =>
 (idxSl 5 l_1 x4).bind fun x5 =>
 (fieldAddrA 1 x5).bind fun x6 =>
 (idxArr 4 1 x6 k_3).bind fun x7 =>
 (loadA false 1 x7 H0).bind fun x8 =>
 (binA .none .eql x8 (.int .i64 0)).bind fun x9 =>
 condA x9 (
 rK H0 (.int .i64 0) H0) (
 (binA .none .sub x8 (.int .i64 1)).bind fun x10 =>
 (binA .none .sub (.int .i64 3) k_3).bind fun x11 =>
 (idxSl 5 l_1 x10).bind fun x12 =>
 (fieldAddrA 1 x12).bind fun x13 =>
 (idxArr 4 1 x13 x11).bind fun x14 =>
 (loadA false 1 x14 H0).bind fun x15 =>
 rK H0 x15 H0)
noncomputable def Sh.gliderref06_Shrink_l2 (H0 : AHeap) (rec1 : LK) (rec2 : LK) (n_23 out_24 x25 k_26 : AVal) (H27 : AHeap) : Out :=
 (binA .none .lss k_26 (.int .i64 4)).bind fun x28 =>
 condA x28 (
 bP H0 (Sh.gliderref05_Inner out_24 n_23 k_26 H27) fun x29 H30 =>
 (fieldAddrA 1 x25).bind fun x31 =>
 (idxArr 4 1 x31 k_26).bind fun x32 =>
 bP H0 (retH (storeA 1 x32 x29 H30)) fun _ H34 =>
 (binA .none .add k_26 (.int .i64 1)).bind fun x35 =>
 rec2 [n_23, out_24, x25, x35] H34) (
 (loadA true 5 x25 H27).bind fun x36 =>
 (buildSl 5 [x36]).bind fun x37 =>
 bP H0 (retVH (appendA ty_api_Node 5 40 out_24 x37 H27)) fun x38 H39 =>
 (lenSl x38).bind fun x40 =>
 rec1 [x40, x38] H39)
noncomputable def Sh.gliderref06_Shrink_l1 (H0 : AHeap) (rec1 : LK) (n_8 out_9 : AVal) (H10 : AHeap) : Out :=
 bP H0 (Sh.gliderref05_Hollow out_9 n_8 H10) fun x11 H12 =>
 condA x11 (
 (binA .none .sub n_8 (.int .i64 1)).bind fun x13 =>
 (idxSl 5 out_9 x13).bind fun x14 =>
 (fieldAddrA 0 x14).bind fun x15 =>
 (loadA false 1 x15 H12).bind fun x16 =>
 (binA .none .sub x16 (.int .i64 1)).bind fun x17 =>
 (buildA (some [(.int .i64 0), (.int .i64 0), (.int .i64 0), (.int .i64 0), (.int .i64 0)]) [(0, 1, x17)]).bind fun x18 =>
 afterA (allocA (some [(.int .i64 0), (.int .i64 0), (.int .i64 0), (.int .i64 0), (.int .i64 0)]) H12) fun x19 H20 =>
 bP H0 (retH (storeA 5 x19 x18 H20)) fun _ H22 =>
 loopGen (fun rec2 vs H => Sh.gliderref06_Shrink_l2 H0 rec1 rec2 (ag vs 0) (ag vs 1) (ag vs 2) (ag vs 3) H) FUEL [n_8, out_9, x19, (.int .i64 0)] H22) (
 rPN H0 (.tup [out_9, n_8]) H12)
noncomputable def Sh.gliderref06_Shrink (l_1 n_2 : AVal) (H0 : AHeap) : Out :=
 (buildSl 5 []).bind fun x3 =>
 bP H0 (retVH (appendA ty_api_Node 5 40 x3 l_1 H0)) fun x4 H5 =>
 bP H0 (Sh.gliderref05_Empty x4 n_2 H5) fun x6 H7 =>
 condA x6 (
 rPN H0 (.tup [x4, (.int .i64 0)]) H7) (
 loopGen (fun rec1 vs H => Sh.gliderref06_Shrink_l1 H0 rec1 (ag vs 0) (ag vs 1) H) FUEL [n_2, x4] H7)
noncomputable def Sh.gliderref06_find_l1 (H0 : AHeap) (rec1 : LK) (l_5 x6 i_7 : AVal) (H8 : AHeap) : Out :=
 (lenSl l_5).bind fun x9 =>
 (binA .none .lss i_7 x9).bind fun x10 =>
 condA x10 (
 (idxSl 5 l_5 i_7).bind fun x11 =>
 bC (loadA true 5 x11 H8) (fun _ => True) fun x12 =>
 bC (loadA true 5 x6 H8) (fun _ => True) fun x13 =>
 (binA (.flat 5) .eql x12 x13).bind fun x14 =>
 condA x14 (
 (binA .none .add i_7 (.int .i64 1)).bind fun x15 =>
 rP H0 x15 H8) (
 (binA .none .add i_7 (.int .i64 1)).bind fun x16 =>
 rec1 [l_5, x6, x16] H8)) (
 rP H0 (.int .i64 0) H8)
noncomputable def Sh.gliderref06_find (l_1 x2 : AVal) (H0 : AHeap) : Out :=
 afterA (boxA true 5 x2 H0) fun x3 H4 =>
 loopGen (fun rec1 vs H => Sh.gliderref06_find_l1 H0 rec1 (ag vs 0) (ag vs 1) (ag vs 2) H) FUEL [l_1, x3, (.int .i64 0)] H4
noncomputable def Sh.gliderref06_visit_j2 (H0 : AHeap) (x49 x50 x51 x52 : AVal) (H53 : AHeap) : Out :=
 (idxSl 1 x51 x49).bind fun x54 =>
 bK H0 (retH (storeA 1 x54 x52 H53)) fun _ H56 =>
 rK H0 (.tup [x50, x51, x52]) H56
noncomputable def Sh.gliderref06_visit_l1 (H0 : AHeap) (self : AVal → AVal → AVal → AVal → AVal → AHeap → Out) (rec1 : LK) (x20 x21 x22 x23 x24 x25 x26 : AVal) (H27 : AHeap) : Out :=
 (binA .none .lss x26 (.int .i64 4)).bind fun x28 =>
 gk x28 true (fieldAddrA 0 x25) fun x29 =>
 gk x28 true (loadA false 1 x29 H27) fun x30 =>
 gk x28 true (binA .none .gtr x30 (.int .i64 1)) fun x31 =>
 (condV x28 x31 (.bool false)).bind fun x32 =>
 condA x32 (
 (fieldAddrA 1 x25).bind fun x33 =>
 (idxArr 4 1 x33 x26).bind fun x34 =>
 (loadA false 1 x34 H27).bind fun x35 =>
 bK H0 (self x20 x21 x35 x23 x24 H27) fun x36 H37 =>
 (extractA 0 x36).bind fun x38 =>
 (extractA 1 x36).bind fun x39 =>
 (extractA 2 x36).bind fun x40 =>
 (fieldAddrA 1 x25).bind fun x41 =>
 (idxArr 4 1 x41 x26).bind fun x42 =>
 bK H0 (retH (storeA 1 x42 x40 H37)) fun _ H44 =>
 (binA .none .add x26 (.int .i64 1)).bind fun x45 =>
 rec1 [x20, x21, x22, x38, x39, x25, x45] H44) (
 (loadA true 5 x25 H27).bind fun x46 =>
 bK H0 (Sh.gliderref06_find x23 x46 H27) fun x47 H48 =>
 joinPt (fun j2 =>
 (binA .none .eql x47 (.int .i64 0)).bind fun x57 =>
 condA x57 (
 (loadA true 5 x25 H48).bind fun x58 =>
 (buildSl 5 [x58]).bind fun x59 =>
 bK H0 (retVH (appendA ty_api_Node 5 40 x23 x59 H48)) fun x60 H61 =>
 (lenSl x60).bind fun x62 =>
 j2 [x22, x60, x24, x62] H61) (
 j2 [x22, x23, x24, x47] H48)) (fun vs H => Sh.gliderref06_visit_j2 H0 (ag vs 0) (ag vs 1) (ag vs 2) (ag vs 3) H))
noncomputable def Sh.gliderref06_visit_F (self : AVal → AVal → AVal → AVal → AVal → AHeap → Out) (x1 x2 x3 x4 x5 : AVal) (H0 : AHeap) : Out :=
 (idxSl 1 x2 x3).bind fun x6 =>
 (loadA false 1 x6 H0).bind fun x7 =>
 condA x7 (
 rK H0 (.tup [x4, x5, (.int .i64 0)]) H0) (
 (idxSl 1 x5 x3).bind fun x8 =>
 (loadA false 1 x8 H0).bind fun x9 =>
 (binA .none .gtr x9 (.int .i64 0)).bind fun x10 =>
 condA x10 (
 (idxSl 1 x5 x3).bind fun x11 =>
 bC (loadA false 1 x11 H0) (fun _ => True) fun x12 =>
 rK H0 (.tup [x4, x5, x12]) H0) (
 (binA .none .sub x3 (.int .i64 1)).bind fun x13 =>
 (idxSl 5 x1 x13).bind fun x14 =>
 (loadA true 5 x14 H0).bind fun x15 =>
 afterA (allocA (some [(.int .i64 0), (.int .i64 0), (.int .i64 0), (.int .i64 0), (.int .i64 0)]) H0) fun x16 H17 =>
 bK H0 (retH (storeA 5 x16 x15 H17)) fun _ H19 =>
 loopGen (fun rec1 vs H => Sh.gliderref06_visit_l1 H0 self rec1 (ag vs 0) (ag vs 1) (ag vs 2) (ag vs 3) (ag vs 4) (ag vs 5) (ag vs 6) H) FUEL [x1, x2, x3, x4, x5, x16, (.int .i64 0)] H19))
noncomputable def Sh.gliderref06_visit : Nat → AVal → AVal → AVal → AVal → AVal → AHeap → Out
  | 0 => fun _ _ _ _ _ _ => none
  | d + 1 => Sh.gliderref06_visit_F (Sh.gliderref06_visit d)
noncomputable def Sh.gliderref06_Of (l_1 n_2 : AVal) (H0 : AHeap) : Out :=
 afterA (allocA (some [(.sl [] .tight)]) H0) fun x3 H4 =>
 bP H0 (Sh.gliderref05_Loose l_1 H4) fun x5 H6 =>
 (unA .not x5).bind fun x7 =>
 gk x7 false (some n_2) fun x8 =>
 gk x7 false (binA .none .lss x8 (.int .i64 0)) fun x9 =>
 (condV x7 (.bool true) x9).bind fun x10 =>
 gk x10 false (some n_2) fun x11 =>
 gk x10 false (some l_1) fun x12 =>
 gk x10 false (lenSl x12) fun x13 =>
 gk x10 false (binA .none .gtr x11 x13) fun x14 =>
 (condV x10 (.bool true) x14).bind fun x15 =>
 condA x15 (
 (buildA (some [(.sl [] .tight)]) []).bind fun x16 =>
 bP H0 (retH (storeA 1 x3 x16 H6)) fun _ H18 =>
 (resM [loadA true 1 x3 H18, some (.int .i64 1)]).bind fun x19 => rPN H0 x19 H18) (
 bP H0 (Sh.gliderref06_Shrink l_1 n_2 H6) fun x20 H21 =>
 (extractA 0 x20).bind fun x22 =>
 (extractA 1 x20).bind fun x23 =>
 bindN (Sh.gliderref05_Empties x22 H21) fun x24 H25 =>
 (lenSl x22).bind fun x26 =>
 (binA .none .add x26 (.int .i64 1)).bind fun x27 =>
 afterA (makeA 1 8 (some [(.int .i64 0)]) x27 x27 H25) fun x28 H29 =>
 bindN (Sh.gliderref06_visit FUEL x22 x24 x23 (.sl [] .tight) x28 H29) fun x30 H31 =>
 (extractA 0 x30).bind fun x32 =>
 (extractA 1 x30).bind fun x33 =>
 (extractA 2 x30).bind fun x34 =>
 (buildA (some [(.sl [] .tight)]) [(0, 1, x32)]).bind fun x35 =>
 bP H0 (retH (storeA 1 x3 x35 H31)) fun _ H37 =>
 (resM [loadA true 1 x3 H37, some (.int .i64 0)]).bind fun x38 => rPN H0 x38 H37)
noncomputable def Sh.gliderref07_Of_l3 (H0 : AHeap) (rec2 : LK) (rec3 : LK) (x39 x40 x41 x42 : AVal) (H43 : AHeap) : Out :=
 (binA .none .leq x41 (.int .i64 1329)).bind fun x44 =>
 gk x44 true (some x40) fun x45 =>
 gk x44 true (some x42) fun x46 =>
 gk x44 true (idxSl 5 x45 x46) fun x47 =>
 gk x44 true (loadA true 5 x47 H43) fun x48 =>
 gk x44 true (some x41) fun x49 =>
 gbP H0 x44 true H43 (Sh.gliderref07_within x48 x49 H43) fun x50 H51 =>
 gk x44 true (unA .not x50) fun x52 =>
 (condV x44 x52 (.bool false)).bind fun x53 =>
 condA x53 (
 (binA .none .add x41 (.int .i64 1)).bind fun x54 =>
 rec3 [x39, x40, x54, x42] H51) (
 (binA .none .add x42 (.int .i64 1)).bind fun x55 =>
 rec2 [x39, x40, x41, x55] H51)
noncomputable def Sh.gliderref07_Of_l2 (H0 : AHeap) (rec2 : LK) (x32 x33 x34 x35 : AVal) (H36 : AHeap) : Out :=
 (lenSl x33).bind fun x37 =>
 (binA .none .lss x35 x37).bind fun x38 =>
 condA x38 (
 loopGen (fun rec3 vs H => Sh.gliderref07_Of_l3 H0 rec2 rec3 (ag vs 0) (ag vs 1) (ag vs 2) (ag vs 3) H) FUEL [x32, x33, x34, x35] H36) (
 (binA .none .gtr x34 (.int .i64 1329)).bind fun x56 =>
 condA x56 (
 (buildA (some [(.sl [] .tight)]) []).bind fun x57 =>
 bP H0 (retH (storeA 1 x32 x57 H36)) fun _ H59 =>
 (resM [loadA true 1 x32 H59, some (.int .i64 4)]).bind fun x60 => rPN H0 x60 H59) (
 (binA .none .sub x34 (.int .i64 1)).bind fun x61 =>
 bP H0 (Sh.gliderref02_Pow x61 H36) fun x62 H63 =>
 bP H0 (Sh.gliderref02_Minus x62 H63) fun x64 H65 =>
 afterA (allocA (some [(.bool false), (.sl [] .tight)]) H65) fun x66 H67 =>
 bP H0 (retH (storeA 2 x66 x64 H67)) fun _ H69 =>
 (loadA true 2 x66 H69).bind fun x70 =>
 (loadA true 2 x66 H69).bind fun x71 =>
 bP H0 (Sh.gliderref07_place FUEL (.sl [] .tight) x34 x70 x71 x33 H69) fun x72 H73 =>
 (extractA 0 x72).bind fun x74 =>
 (extractA 1 x72).bind fun x75 =>
 bP H0 (Sh.gliderref06_Of x74 x75 H73) fun x76 H77 =>
 (extractA 0 x76).bind fun x78 =>
 (extractA 1 x76).bind fun x79 =>
 bP H0 (retH (storeA 1 x32 x78 H77)) fun _ H81 =>
 (resM [loadA true 1 x32 H81, some x79]).bind fun x82 => rPN H0 x82 H81))
noncomputable def Sh.gliderref07_Of_l1 (H0 : AHeap) (rec1 : LK) (x4 x5 x6 : AVal) (H7 : AHeap) : Out :=
 (lenSl x4).bind fun x8 =>
 (binA .none .lss x6 x8).bind fun x9 =>
 condA x9 (
 (idxSl 5 x4 x6).bind fun x10 =>
 (fieldAddrA 0 x10).bind fun x11 =>
 (loadA true 2 x11 H7).bind fun x12 =>
 bP H0 (Sh.gliderref02_Right x12 H7) fun x13 H14 =>
 (unA .not x13).bind fun x15 =>
 gk x15 false (some x4) fun x16 =>
 gk x15 false (some x6) fun x17 =>
 gk x15 false (idxSl 5 x16 x17) fun x18 =>
 gk x15 false (fieldAddrA 2 x18) fun x19 =>
 gk x15 false (loadA true 2 x19 H14) fun x20 =>
 gbP H0 x15 false H14 (Sh.gliderref02_Right x20 H14) fun x21 H22 =>
 gk x15 false (unA .not x21) fun x23 =>
 (condV x15 (.bool true) x23).bind fun x24 =>
 condA x24 (
 (buildA (some [(.sl [] .tight)]) []).bind fun x25 =>
 bP H0 (retH (storeA 1 x5 x25 H22)) fun _ H27 =>
 (resM [loadA true 1 x5 H27, some (.int .i64 1)]).bind fun x28 => rPN H0 x28 H27) (
 (binA .none .add x6 (.int .i64 1)).bind fun x29 =>
 rec1 [x4, x5, x29] H22)) (
 bP H0 (Sh.gliderref07_Last x4 H7) fun x30 H31 =>
 loopGen (fun rec2 vs H => Sh.gliderref07_Of_l2 H0 rec2 (ag vs 0) (ag vs 1) (ag vs 2) (ag vs 3) H) FUEL [x5, x30, (.int .i64 1), (.int .i64 0)] H31)
noncomputable def Sh.gliderref07_Of (x1 : AVal) (H0 : AHeap) : Out :=
 afterA (allocA (some [(.sl [] .tight)]) H0) fun x2 H3 =>
 loopGen (fun rec1 vs H => Sh.gliderref07_Of_l1 H0 rec1 (ag vs 0) (ag vs 1) (ag vs 2) H) FUEL [x1, x2, (.int .i64 0)] H3
noncomputable def Sh.gliderref07_Quad (l_1 most_2 : AVal) (H0 : AHeap) : Out :=
 afterA (allocA (some [(.sl [] .tight)]) H0) fun x3 H4 =>
 bP H0 (Sh.gliderref07_Great l_1 most_2 H4) fun x5 H6 =>
 condA x5 (
 (buildA (some [(.sl [] .tight)]) []).bind fun x7 =>
 bP H0 (retH (storeA 1 x3 x7 H6)) fun _ H9 =>
 (resM [loadA true 1 x3 H9, some (.bool false)]).bind fun x10 => rPN H0 x10 H9) (
 bP H0 (Sh.gliderref07_Of l_1 H6) fun x11 H12 =>
 (extractA 0 x11).bind fun x13 =>
 (extractA 1 x11).bind fun x14 =>
 afterA (allocA (some [(.sl [] .tight)]) H12) fun q_15 H16 =>
 bP H0 (retH (storeA 1 q_15 x13 H16)) fun _ H18 =>
 (loadA true 1 q_15 H18).bind fun x19 =>
 (binA .none .eql x14 (.int .i64 0)).bind fun x20 =>
 bP H0 (retH (storeA 1 x3 x19 H18)) fun _ H22 =>
 (resM [loadA true 1 x3 H22, some x20]).bind fun x23 => rPN H0 x23 H22)
noncomputable def Sh.gliderref04_Sign (c_1 : AVal) (H0 : AHeap) : Out :=
 (binA .none .geq c_1 (.int .u8 33)).bind fun x2 =>
 gk x2 true (some c_1) fun x3 =>
 gk x2 true (binA .none .leq x3 (.int .u8 126)) fun x4 =>
 (condV x2 x4 (.bool false)).bind fun x5 =>
 rK H0 x5 H0
noncomputable def Sh.gliderref04_Rule_l1 (H0 : AHeap) (rec1 : LK) (s_2 i_3 : AVal) (H4 : AHeap) : Out :=
 (lenStr s_2).bind fun x5 =>
 (binA .none .lss i_3 x5).bind fun x6 =>
 condA x6 (
 (idxStr s_2 i_3).bind fun x7 =>
 bK H0 (Sh.gliderref04_Sign x7 H4) fun x8 H9 =>
 (unA .not x8).bind fun x10 =>
 condA x10 (
 rK H0 (.bool false) H9) (
 (binA .none .add i_3 (.int .i64 1)).bind fun x11 =>
 rec1 [s_2, x11] H9)) (
 (lenStr s_2).bind fun x12 =>
 (binA .none .geq x12 (.int .i64 1)).bind fun x13 =>
 gk x13 true (some s_2) fun x14 =>
 gk x13 true (lenStr x14) fun x15 =>
 gk x13 true (binA .none .leq x15 (.int .i64 40)) fun x16 =>
 (condV x13 x16 (.bool false)).bind fun x17 =>
 rK H0 x17 H4)
noncomputable def Sh.gliderref04_Rule (s_1 : AVal) (H0 : AHeap) : Out :=
 loopGen (fun rec1 vs H => Sh.gliderref04_Rule_l1 H0 rec1 (ag vs 0) (ag vs 1) H) FUEL [s_1, (.int .i64 0)] H0
noncomputable def Sh.gliderref11_Of (rule_1 l_2 most_3 : AVal) (H0 : AHeap) : Out :=
 afterA (allocA (some [(.str []), (.sl [] .tight)]) H0) fun x4 H5 =>
 bP H0 (Sh.gliderref07_Quad l_2 most_3 H5) fun x6 H7 =>
 (extractA 0 x6).bind fun x8 =>
 (extractA 1 x6).bind fun x9 =>
 afterA (allocA (some [(.sl [] .tight)]) H7) fun q_10 H11 =>
 bP H0 (retH (storeA 1 q_10 x8 H11)) fun _ H13 =>
 gk x9 true (some rule_1) fun x14 =>
 gbN x9 true H13 (Sh.gliderref04_Rule x14 H13) fun x15 H16 =>
 bC (loadA true 1 q_10 H16) (fun x17 => loadA true 1 q_10 H13 = some x17 ∧ True) fun x17 =>
 (buildA (some [(.str []), (.sl [] .tight)]) [(0, 1, rule_1), (1, 1, x17)]).bind fun x18 =>
 bindN (retH (storeA 2 x4 x18 H16)) fun _ H20 =>
 (condV x9 x15 (.bool false)).bind fun x21 =>
 (resM [loadA true 2 x4 H20, some x21]).bind fun x22 => rPN H0 x22 H20
noncomputable def Sh.gliderref11_Format (n_1 : AVal) (H0 : AHeap) : Out :=
 (binA .none .geq n_1 (.int .i64 1)).bind fun x2 =>
 gk x2 true (some n_1) fun x3 =>
 gk x2 true (binA .none .leq x3 (.int .i64 5)) fun x4 =>
 (condV x2 x4 (.bool false)).bind fun x5 =>
 rK H0 x5 H0
noncomputable def Sh.gliderref05_end_j3 (H0 : AHeap) (rec2 : LK) (l_21 n_22 out_23 k_24 : AVal) (H25 : AHeap) : Out :=
 (binA .none .add k_24 (.int .i64 1)).bind fun x26 =>
 rec2 [l_21, n_22, out_23, x26] H25
noncomputable def Sh.gliderref05_end_l2 (H0 : AHeap) (self : AVal → AVal → AVal → AHeap → Out) (rec2 : LK) (l_15 n_16 out_17 k_18 : AVal) (H19 : AHeap) : Out :=
 (binA .none .lss k_18 (.int .i64 4)).bind fun x20 =>
 condA x20 (
 joinPt (fun j3 =>
 (binA .none .sub n_16 (.int .i64 1)).bind fun x27 =>
 (idxSl 5 l_15 x27).bind fun x28 =>
 (fieldAddrA 0 x28).bind fun x29 =>
 (loadA false 1 x29 H19).bind fun x30 =>
 (binA .none .gtr x30 (.int .i64 1)).bind fun x31 =>
 gk x31 true (some l_15) fun x32 =>
 gk x31 true (some n_16) fun x33 =>
 gk x31 true (binA .none .sub x33 (.int .i64 1)) fun x34 =>
 gk x31 true (some k_18) fun x35 =>
 gk x31 true (idxSl 5 x32 x34) fun x36 =>
 gk x31 true (fieldAddrA 1 x36) fun x37 =>
 gk x31 true (idxArr 4 1 x37 x35) fun x38 =>
 gk x31 true (loadA false 1 x38 H19) fun x39 =>
 gk x31 true (binA .none .gtr x39 (.int .i64 0)) fun x40 =>
 (condV x31 x40 (.bool false)).bind fun x41 =>
 condA x41 (
 (binA .none .sub n_16 (.int .i64 1)).bind fun x42 =>
 (idxSl 5 l_15 x42).bind fun x43 =>
 (fieldAddrA 1 x43).bind fun x44 =>
 (idxArr 4 1 x44 k_18).bind fun x45 =>
 (loadA false 1 x45 H19).bind fun x46 =>
 bK H0 (self l_15 x46 out_17 H19) fun x47 H48 =>
 j3 [l_15, n_16, x47, k_18] H48) (
 j3 [l_15, n_16, out_17, k_18] H19)) (fun vs H => Sh.gliderref05_end_j3 H0 rec2 (ag vs 0) (ag vs 1) (ag vs 2) (ag vs 3) H)) (
 (buildSl 1 [n_16]).bind fun x49 =>
 bK H0 (retVH (appendA ty_int 1 8 out_17 x49 H19)) fun x50 H51 =>
 rK H0 x50 H51)
noncomputable def Sh.gliderref05_end_l1 (H0 : AHeap) (self : AVal → AVal → AVal → AHeap → Out) (rec1 : LK) (l_4 n_5 out_6 i_7 : AVal) (H8 : AHeap) : Out :=
 (lenSl out_6).bind fun x9 =>
 (binA .none .lss i_7 x9).bind fun x10 =>
 condA x10 (
 (idxSl 1 out_6 i_7).bind fun x11 =>
 (loadA false 1 x11 H8).bind fun x12 =>
 (binA .none .eql x12 n_5).bind fun x13 =>
 condA x13 (
 rK H0 out_6 H8) (
 (binA .none .add i_7 (.int .i64 1)).bind fun x14 =>
 rec1 [l_4, n_5, out_6, x14] H8)) (
 loopGen (fun rec2 vs H => Sh.gliderref05_end_l2 H0 self rec2 (ag vs 0) (ag vs 1) (ag vs 2) (ag vs 3) H) FUEL [l_4, n_5, out_6, (.int .i64 0)] H8)
noncomputable def Sh.gliderref05_end_F (self : AVal → AVal → AVal → AHeap → Out) (l_1 n_2 out_3 : AVal) (H0 : AHeap) : Out :=
 loopGen (fun rec1 vs H => Sh.gliderref05_end_l1 H0 self rec1 (ag vs 0) (ag vs 1) (ag vs 2) (ag vs 3) H) FUEL [l_1, n_2, out_3, (.int .i64 0)] H0
noncomputable def Sh.gliderref05_end : Nat → AVal → AVal → AVal → AHeap → Out
  | 0 => fun _ _ _ _ => none
  | d + 1 => Sh.gliderref05_end_F (Sh.gliderref05_end d)
noncomputable def Sh.gliderref05_Right_l2 (H0 : AHeap) (rec1 : LK) (rec2 : LK) (x28 x29 x30 x31 : AVal) (H32 : AHeap) : Out :=
 (binA .none .lss x31 x30).bind fun x33 =>
 condA x33 (
 (idxSl 5 x28 x30).bind fun x34 =>
 bC (loadA true 5 x34 H32) (fun _ => True) fun x35 =>
 (idxSl 5 x28 x31).bind fun x36 =>
 bC (loadA true 5 x36 H32) (fun _ => True) fun x37 =>
 (binA (.flat 5) .eql x35 x37).bind fun x38 =>
 condA x38 (
 rP H0 (.bool false) H32) (
 (binA .none .add x31 (.int .i64 1)).bind fun x39 =>
 rec2 [x28, x29, x30, x39] H32)) (
 (binA .none .add x30 (.int .i64 1)).bind fun x40 =>
 rec1 [x28, x29, x40] H32)
noncomputable def Sh.gliderref05_Right_l3 (H0 : AHeap) (rec3 : LK) (x44 x45 x46 : AVal) (H47 : AHeap) : Out :=
 (lenSl x45).bind fun x48 =>
 (binA .none .lss x46 x48).bind fun x49 =>
 condA x49 (
 (idxSl 1 x45 x46).bind fun x50 =>
 (loadA false 1 x50 H47).bind fun x51 =>
 (binA .none .add x46 (.int .i64 1)).bind fun x52 =>
 (binA .none .neq x51 x52).bind fun x53 =>
 condA x53 (
 rP H0 (.bool false) H47) (
 (binA .none .add x46 (.int .i64 1)).bind fun x54 =>
 rec3 [x44, x45, x54] H47)) (
 (lenSl x45).bind fun x55 =>
 (lenSl x44).bind fun x56 =>
 (binA .none .eql x55 x56).bind fun x57 =>
 rP H0 x57 H47)
noncomputable def Sh.gliderref05_Right_l1 (H0 : AHeap) (rec1 : LK) (x19 x20 x21 : AVal) (H22 : AHeap) : Out :=
 (lenSl x19).bind fun x23 =>
 (binA .none .lss x21 x23).bind fun x24 =>
 condA x24 (
 (binA .none .add x21 (.int .i64 1)).bind fun x25 =>
 (idxSl 1 x20 x25).bind fun x26 =>
 (loadA false 1 x26 H22).bind fun x27 =>
 condA x27 (
 rP H0 (.bool false) H22) (
 loopGen (fun rec2 vs H => Sh.gliderref05_Right_l2 H0 rec1 rec2 (ag vs 0) (ag vs 1) (ag vs 2) (ag vs 3) H) FUEL [x19, x20, x21, (.int .i64 0)] H22)) (
 (lenSl x19).bind fun x41 =>
 bP H0 (Sh.gliderref05_end FUEL x19 x41 (.sl [] .tight) H22) fun x42 H43 =>
 loopGen (fun rec3 vs H => Sh.gliderref05_Right_l3 H0 rec3 (ag vs 0) (ag vs 1) (ag vs 2) H) FUEL [x19, x42, (.int .i64 0)] H43)
noncomputable def Sh.gliderref05_Right (x1 : AVal) (H0 : AHeap) : Out :=
 afterA (boxA true 1 x1 H0) fun x2 H3 =>
 (fieldAddrA 0 x2).bind fun x4 =>
 (loadA false 1 x4 H3).bind fun x5 =>
 (lenSl x5).bind fun x6 =>
 (binA .none .eql x6 (.int .i64 0)).bind fun x7 =>
 condA x7 (
 rP H0 (.bool true) H3) (
 bP H0 (Sh.gliderref05_Loose x5 H3) fun x8 H9 =>
 (unA .not x8).bind fun x10 =>
 gk x10 false (some x5) fun x11 =>
 gk x10 false (some x5) fun x12 =>
 gk x10 false (lenSl x12) fun x13 =>
 gbP H0 x10 false H9 (Sh.gliderref05_Hollow x11 x13 H9) fun x14 H15 =>
 (condV x10 (.bool true) x14).bind fun x16 =>
 condA x16 (
 rP H0 (.bool false) H15) (
 bP H0 (Sh.gliderref05_Empties x5 H15) fun x17 H18 =>
 loopGen (fun rec1 vs H => Sh.gliderref05_Right_l1 H0 rec1 (ag vs 0) (ag vs 1) (ag vs 2) H) FUEL [x5, x17, (.int .i64 0)] H18))
noncomputable def Sh.gliderref11_Right (p_1 : AVal) (H0 : AHeap) : Out :=
 afterA (boxA true 2 p_1 H0) fun p_2 H3 =>
 (fieldAddrA 0 p_2).bind fun x4 =>
 (loadA false 1 x4 H3).bind fun x5 =>
 bP H0 (Sh.gliderref04_Rule x5 H3) fun x6 H7 =>
 gk x6 true (fieldAddrA 1 p_2) fun x8 =>
 gk x6 true (loadA true 1 x8 H7) fun x9 =>
 gbP H0 x6 true H7 (Sh.gliderref05_Right x9 H7) fun x10 H11 =>
 (condV x6 x10 (.bool false)).bind fun x12 =>
 rP H0 x12 H11
noncomputable def Sh.gliderref11_Fine (m_1 : AVal) (H0 : AHeap) : Out :=
 afterA (boxA true 2 m_1 H0) fun m_2 H3 =>
 (fieldAddrA 0 m_2).bind fun x4 =>
 (loadA false 1 x4 H3).bind fun x5 =>
 (binA .none .geq x5 (.int .i64 0)).bind fun x6 =>
 gk x6 true (fieldAddrA 0 m_2) fun x7 =>
 gk x6 true (loadA false 1 x7 H3) fun x8 =>
 gk x6 true (binA .none .leq x8 (.int .i64 1000)) fun x9 =>
 (condV x6 x9 (.bool false)).bind fun x10 =>
 gk x10 true (fieldAddrA 1 m_2) fun x11 =>
 gk x10 true (loadA false 1 x11 H3) fun x12 =>
 gk x10 true (binA .none .geq x12 (.int .i64 0)) fun x13 =>
 (condV x10 x13 (.bool false)).bind fun x14 =>
 gk x14 true (fieldAddrA 1 m_2) fun x15 =>
 gk x14 true (loadA false 1 x15 H3) fun x16 =>
 gk x14 true (binA .none .leq x16 (.int .i64 100000)) fun x17 =>
 (condV x14 x17 (.bool false)).bind fun x18 =>
 rP H0 x18 H3
noncomputable def Sh.gliderref09_edges_j3 (H0 : AHeap) (rec2 : LK) (x40 x41 x42 x43 x44 x45 x46 x47 : AVal) (H48 : AHeap) : Out :=
 (binA .none .add x47 (.int .i64 1)).bind fun x49 =>
 rec2 [x40, x41, x42, x43, x44, x45, x46, x49] H48
noncomputable def Sh.gliderref09_edges_j5 (H0 : AHeap) (j3 : LK) (x79 x80 x81 x82 x83 x84 x85 x86 x87 : AVal) (H88 : AHeap) : Out :=
 (unA .not x85).bind fun x89 =>
 gkc x89 false (loadA true 2 x87 H88) (fun _ _ => True) fun x90 =>
 gk x89 false (some x82) fun x91 =>
 gk x89 false (some x83) fun x92 =>
 gk x89 false (binA .none .add x92 (.int .i64 1)) fun x93 =>
 gk x89 false (idxSl 2 x91 x93) fun x94 =>
 gkc x89 false (loadA true 2 x94 H88) (fun _ _ => True) fun x95 =>
 gbN x89 false H88 (Sh.gliderref02_Cmp x90 x95 H88) fun x96 H97 =>
 gk x89 false (binA .none .lss x96 (.int .i64 0)) fun x98 =>
 (condV x89 (.bool true) x98).bind fun x99 =>
 condA x99 (
 (binA .none .add x83 (.int .i64 1)).bind fun x100 =>
 bC (loadA true 2 x87 H97) (fun _ => True) fun x101 =>
 (idxSl 2 x82 x100).bind fun x102 =>
 bP H0 (retH (storeA 2 x102 x101 H97)) fun _ H104 =>
 j3 [x79, x80, x81, x82, x83, x84, (.bool true), x86] H104) (
 j3 [x79, x80, x81, x82, x83, x84, x85, x86] H97)
noncomputable def Sh.gliderref09_edges_j4 (H0 : AHeap) (j3 : LK) (x58 x59 x60 x61 x62 x63 x64 x65 x66 x67 : AVal) (H68 : AHeap) : Out :=
 (idxSl 5 x58 x62).bind fun x69 =>
 (fieldAddrA 1 x69).bind fun x70 =>
 (idxArr 4 1 x70 x66).bind fun x71 =>
 (loadA false 1 x71 H68).bind fun x72 =>
 (binA .none .eql x72 (.int .i64 0)).bind fun x73 =>
 condA x73 (
 j3 [x58, x59, x60, x61, x62, x63, x64, x65] H68) (
 (loadA true 2 x67 H68).bind fun x74 =>
 afterA (allocA (some [(.bool false), (.sl [] .tight)]) H68) fun x75 H76 =>
 bP H0 (retH (storeA 2 x75 x74 H76)) fun _ H78 =>
 joinPt (fun j5 =>
 (idxSl 5 x58 x62).bind fun x105 =>
 (fieldAddrA 0 x105).bind fun x106 =>
 (loadA false 1 x106 H78).bind fun x107 =>
 (binA .none .gtr x107 (.int .i64 1)).bind fun x108 =>
 condA x108 (
 bC (loadA true 2 x67 H78) (fun _ => True) fun x109 =>
 (idxSl 2 x61 x72).bind fun x110 =>
 bC (loadA true 2 x110 H78) (fun _ => True) fun x111 =>
 bindN (Sh.gliderref02_Add x109 x111 H78) fun x112 H113 =>
 bP H0 (retH (storeA 2 x75 x112 H113)) fun _ H115 =>
 j5 [x58, x59, x60, x61, x62, x63, x64, x65, x75] H115) (
 j5 [x58, x59, x60, x61, x62, x63, x64, x65, x75] H78)) (fun vs H => Sh.gliderref09_edges_j5 H0 j3 (ag vs 0) (ag vs 1) (ag vs 2) (ag vs 3) (ag vs 4) (ag vs 5) (ag vs 6) (ag vs 7) (ag vs 8) H))
noncomputable def Sh.gliderref09_edges_l2 (H0 : AHeap) (rec1 : LK) (rec2 : LK) (x30 x31 x32 x33 x34 x35 x36 x37 : AVal) (H38 : AHeap) : Out :=
 (binA .none .lss x37 (.int .i64 4)).bind fun x39 =>
 condA x39 (
 joinPt (fun j3 =>
 (binA .none .rem x37 (.int .i64 2)).bind fun x50 =>
 (idxArr 2 1 x31 x50).bind fun x51 =>
 (loadA false 1 x51 H38).bind fun x52 =>
 (buildA (some [(.bool false), (.sl [] .tight)]) []).bind fun x53 =>
 afterA (allocA (some [(.bool false), (.sl [] .tight)]) H38) fun x54 H55 =>
 bP H0 (retH (storeA 2 x54 x53 H55)) fun _ H57 =>
 joinPt (fun j4 =>
 (binA .none .gtr x37 (.int .i64 1)).bind fun x116 =>
 condA x116 (
 (binA .none .rem x37 (.int .i64 2)).bind fun x117 =>
 (idxArr 2 1 x32 x117).bind fun x118 =>
 bC (loadA false 1 x118 H57) (fun _ => True) fun x119 =>
 bC (loadA true 2 x35 H57) (fun _ => True) fun x120 =>
 bP H0 (retH (storeA 2 x54 x120 H57)) fun _ H122 =>
 j4 [x30, x31, x32, x33, x34, x35, x36, x37, x119, x54] H122) (
 j4 [x30, x31, x32, x33, x34, x35, x36, x37, x52, x54] H57)) (fun vs H => Sh.gliderref09_edges_j4 H0 j3 (ag vs 0) (ag vs 1) (ag vs 2) (ag vs 3) (ag vs 4) (ag vs 5) (ag vs 6) (ag vs 7) (ag vs 8) (ag vs 9) H)) (fun vs H => Sh.gliderref09_edges_j3 H0 rec2 (ag vs 0) (ag vs 1) (ag vs 2) (ag vs 3) (ag vs 4) (ag vs 5) (ag vs 6) (ag vs 7) H)) (
 (binA .none .add x34 (.int .i64 1)).bind fun x123 =>
 rec1 [x30, x31, x32, x33, x123] H38)
noncomputable def Sh.gliderref09_edges_l1 (H0 : AHeap) (rec1 : LK) (x12 x13 x14 x15 x16 : AVal) (H17 : AHeap) : Out :=
 (lenSl x12).bind fun x18 =>
 (binA .none .lss x16 x18).bind fun x19 =>
 condA x19 (
 (idxSl 5 x12 x16).bind fun x20 =>
 (fieldAddrA 0 x20).bind fun x21 =>
 (loadA false 1 x21 H17).bind fun x22 =>
 (binA .none .sub x22 (.int .i64 1)).bind fun x23 =>
 bP H0 (Sh.gliderref02_Pow x23 H17) fun x24 H25 =>
 afterA (allocA (some [(.bool false), (.sl [] .tight)]) H25) fun x26 H27 =>
 bP H0 (retH (storeA 2 x26 x24 H27)) fun _ H29 =>
 loopGen (fun rec2 vs H => Sh.gliderref09_edges_l2 H0 rec1 rec2 (ag vs 0) (ag vs 1) (ag vs 2) (ag vs 3) (ag vs 4) (ag vs 5) (ag vs 6) (ag vs 7) H) FUEL [x12, x13, x14, x15, x16, x26, (.bool false), (.int .i64 0)] H29) (
 rPN H0 x15 H17)
noncomputable def Sh.gliderref09_edges (x1 x2 x3 : AVal) (H0 : AHeap) : Out :=
 afterA (boxA true 2 x2 H0) fun x4 H5 =>
 afterA (boxA true 2 x3 H5) fun x6 H7 =>
 (lenSl x1).bind fun x8 =>
 (binA .none .add x8 (.int .i64 1)).bind fun x9 =>
 afterA (makeA 2 32 (some [(.bool false), (.sl [] .tight)]) x9 x9 H7) fun x10 H11 =>
 loopGen (fun rec1 vs H => Sh.gliderref09_edges_l1 H0 rec1 (ag vs 0) (ag vs 1) (ag vs 2) (ag vs 3) (ag vs 4) H) FUEL [x1, x4, x6, x10, (.int .i64 0)] H11
noncomputable def Sh.gliderref05_Level (q_1 : AVal) (H0 : AHeap) : Out :=
 afterA (boxA true 1 q_1 H0) fun q_2 H3 =>
 (fieldAddrA 0 q_2).bind fun x4 =>
 (loadA false 1 x4 H3).bind fun x5 =>
 (lenSl x5).bind fun x6 =>
 (binA .none .eql x6 (.int .i64 0)).bind fun x7 =>
 condA x7 (
 rP H0 (.int .i64 0) H3) (
 (fieldAddrA 0 q_2).bind fun x8 =>
 (loadA false 1 x8 H3).bind fun x9 =>
 (fieldAddrA 0 q_2).bind fun x10 =>
 (loadA false 1 x10 H3).bind fun x11 =>
 (lenSl x11).bind fun x12 =>
 (binA .none .sub x12 (.int .i64 1)).bind fun x13 =>
 (idxSl 5 x9 x13).bind fun x14 =>
 (fieldAddrA 0 x14).bind fun x15 =>
 (loadA false 1 x15 H3).bind fun x16 =>
 rP H0 x16 H3)
noncomputable def Sh.gliderref09_Of (x1 : AVal) (H0 : AHeap) : Out :=
 afterA (boxA true 1 x1 H0) fun x2 H3 =>
 afterA (allocA (some [(.bool false), (.sl [] .tight), (.bool false), (.sl [] .tight), (.bool false), (.sl [] .tight), (.bool false), (.sl [] .tight)]) H3) fun x4 H5 =>
 (fieldAddrA 0 x2).bind fun x6 =>
 (loadA false 1 x6 H5).bind fun x7 =>
 (lenSl x7).bind fun x8 =>
 (binA .none .eql x8 (.int .i64 0)).bind fun x9 =>
 condA x9 (
 (buildA (some [(.bool false), (.sl [] .tight), (.bool false), (.sl [] .tight), (.bool false), (.sl [] .tight), (.bool false), (.sl [] .tight)]) []).bind fun x10 =>
 bP H0 (retH (storeA 8 x4 x10 H5)) fun _ H12 =>
 (resM [loadA true 8 x4 H12, some (.bool false)]).bind fun x13 => rPN H0 x13 H12) (
 (fieldAddrA 0 x2).bind fun x14 =>
 (loadA false 1 x14 H5).bind fun x15 =>
 (buildA (some [(.int .i64 0), (.int .i64 0)]) [(0, 1, (.int .i64 0)), (1, 1, (.int .i64 2))]).bind fun x16 =>
 (buildA (some [(.int .i64 0), (.int .i64 0)]) [(0, 1, (.int .i64 1)), (1, 1, (.int .i64 3))]).bind fun x17 =>
 bP H0 (Sh.gliderref09_edges x15 x16 x17 H5) fun x18 H19 =>
 (idxSl 2 x18 x8).bind fun x20 =>
 (loadA true 2 x20 H19).bind fun x21 =>
 afterA (allocA (some [(.bool false), (.sl [] .tight)]) H19) fun x22 H23 =>
 bP H0 (retH (storeA 2 x22 x21 H23)) fun _ H25 =>
 (fieldAddrA 0 x2).bind fun x26 =>
 (loadA false 1 x26 H25).bind fun x27 =>
 (buildA (some [(.int .i64 0), (.int .i64 0)]) [(0, 1, (.int .i64 1)), (1, 1, (.int .i64 3))]).bind fun x28 =>
 (buildA (some [(.int .i64 0), (.int .i64 0)]) [(0, 1, (.int .i64 0)), (1, 1, (.int .i64 2))]).bind fun x29 =>
 bP H0 (Sh.gliderref09_edges x27 x28 x29 H25) fun x30 H31 =>
 (idxSl 2 x30 x8).bind fun x32 =>
 (loadA true 2 x32 H31).bind fun x33 =>
 afterA (allocA (some [(.bool false), (.sl [] .tight)]) H31) fun x34 H35 =>
 bP H0 (retH (storeA 2 x34 x33 H35)) fun _ H37 =>
 (fieldAddrA 0 x2).bind fun x38 =>
 (loadA false 1 x38 H37).bind fun x39 =>
 (buildA (some [(.int .i64 0), (.int .i64 0)]) [(0, 1, (.int .i64 0)), (1, 1, (.int .i64 1))]).bind fun x40 =>
 (buildA (some [(.int .i64 0), (.int .i64 0)]) [(0, 1, (.int .i64 2)), (1, 1, (.int .i64 3))]).bind fun x41 =>
 bP H0 (Sh.gliderref09_edges x39 x40 x41 H37) fun x42 H43 =>
 (idxSl 2 x42 x8).bind fun x44 =>
 (loadA true 2 x44 H43).bind fun x45 =>
 afterA (allocA (some [(.bool false), (.sl [] .tight)]) H43) fun x46 H47 =>
 bP H0 (retH (storeA 2 x46 x45 H47)) fun _ H49 =>
 (fieldAddrA 0 x2).bind fun x50 =>
 (loadA false 1 x50 H49).bind fun x51 =>
 (buildA (some [(.int .i64 0), (.int .i64 0)]) [(0, 1, (.int .i64 2)), (1, 1, (.int .i64 3))]).bind fun x52 =>
 (buildA (some [(.int .i64 0), (.int .i64 0)]) [(0, 1, (.int .i64 0)), (1, 1, (.int .i64 1))]).bind fun x53 =>
 bP H0 (Sh.gliderref09_edges x51 x52 x53 H49) fun x54 H55 =>
 (idxSl 2 x54 x8).bind fun x56 =>
 (loadA true 2 x56 H55).bind fun x57 =>
 afterA (allocA (some [(.bool false), (.sl [] .tight)]) H55) fun x58 H59 =>
 bP H0 (retH (storeA 2 x58 x57 H59)) fun _ H61 =>
 (loadA true 1 x2 H61).bind fun x62 =>
 bP H0 (Sh.gliderref05_Level x62 H61) fun x63 H64 =>
 bP H0 (Sh.gliderref02_Pow x63 H64) fun x65 H66 =>
 (binA .none .sub x63 (.int .i64 1)).bind fun x67 =>
 bP H0 (Sh.gliderref02_Pow x67 H66) fun x68 H69 =>
 bP H0 (Sh.gliderref02_Minus x68 H69) fun x70 H71 =>
 afterA (allocA (some [(.bool false), (.sl [] .tight)]) H71) fun x72 H73 =>
 afterA (allocA (some [(.bool false), (.sl [] .tight)]) H73) fun x74 H75 =>
 bP H0 (retH (storeA 2 x72 x65 H75)) fun _ H77 =>
 bP H0 (retH (storeA 2 x74 x70 H77)) fun _ H79 =>
 bC (loadA true 2 x74 H79) (fun _ => True) fun x80 =>
 bC (loadA true 2 x22 H79) (fun _ => True) fun x81 =>
 bindN (Sh.gliderref02_Add x80 x81 H79) fun x82 H83 =>
 bC (loadA true 2 x74 H83) (fun x84 => loadA true 2 x74 H79 = some x84 ∧ True) fun x84 =>
 bC (loadA true 2 x46 H83) (fun x85 => loadA true 2 x46 H79 = some x85 ∧ True) fun x85 =>
 bindN (Sh.gliderref02_Add x84 x85 H83) fun x86 H87 =>
 bC (loadA true 2 x22 H87) (fun x88 => loadA true 2 x22 H83 = some x88 ∧ loadA true 2 x22 H79 = some x88 ∧ True) fun x88 =>
 bC (loadA true 2 x34 H87) (fun x89 => loadA true 2 x34 H83 = some x89 ∧ loadA true 2 x34 H79 = some x89 ∧ True) fun x89 =>
 bindN (Sh.gliderref02_Add x88 x89 H87) fun x90 H91 =>
 bC (loadA true 2 x72 H91) (fun x92 => loadA true 2 x72 H87 = some x92 ∧ loadA true 2 x72 H83 = some x92 ∧ loadA true 2 x72 H79 = some x92 ∧ True) fun x92 =>
 bindN (Sh.gliderref02_Sub x92 x90 H91) fun x93 H94 =>
 bC (loadA true 2 x46 H94) (fun x95 => loadA true 2 x46 H91 = some x95 ∧ loadA true 2 x46 H87 = some x95 ∧ loadA true 2 x46 H83 = some x95 ∧ loadA true 2 x46 H79 = some x95 ∧ True) fun x95 =>
 bC (loadA true 2 x58 H94) (fun x96 => loadA true 2 x58 H91 = some x96 ∧ loadA true 2 x58 H87 = some x96 ∧ loadA true 2 x58 H83 = some x96 ∧ loadA true 2 x58 H79 = some x96 ∧ True) fun x96 =>
 bindN (Sh.gliderref02_Add x95 x96 H94) fun x97 H98 =>
 bC (loadA true 2 x72 H98) (fun x99 => loadA true 2 x72 H94 = some x99 ∧ loadA true 2 x72 H91 = some x99 ∧ loadA true 2 x72 H87 = some x99 ∧ loadA true 2 x72 H83 = some x99 ∧ loadA true 2 x72 H79 = some x99 ∧ True) fun x99 =>
 bindN (Sh.gliderref02_Sub x99 x97 H98) fun x100 H101 =>
 (buildA (some [(.bool false), (.sl [] .tight), (.bool false), (.sl [] .tight), (.bool false), (.sl [] .tight), (.bool false), (.sl [] .tight)]) [(0, 2, x82), (2, 2, x86), (4, 2, x93), (6, 2, x100)]).bind fun x102 =>
 bindN (retH (storeA 8 x4 x102 H101)) fun _ H104 =>
 (resM [loadA true 8 x4 H104, some (.bool true)]).bind fun x105 => rPN H0 x105 H104)
noncomputable def Sh.gliderref09_Within (q_1 most_2 : AVal) (H0 : AHeap) : Out :=
 afterA (boxA true 1 q_1 H0) fun q_3 H4 =>
 (loadA true 1 q_3 H4).bind fun x5 =>
 bP H0 (Sh.gliderref09_Of x5 H4) fun x6 H7 =>
 (extractA 0 x6).bind fun x8 =>
 (extractA 1 x6).bind fun x9 =>
 afterA (allocA (some [(.bool false), (.sl [] .tight), (.bool false), (.sl [] .tight), (.bool false), (.sl [] .tight), (.bool false), (.sl [] .tight)]) H7) fun b_10 H11 =>
 bP H0 (retH (storeA 8 b_10 x8 H11)) fun _ H13 =>
 bindN (Sh.gliderref02_Of most_2 H13) fun x14 H15 =>
 (fieldAddrA 4 b_10).bind fun x16 =>
 bC (loadA true 2 x16 H15) (fun x17 => loadA true 2 x16 H13 = some x17 ∧ True) fun x17 =>
 bindN (Sh.gliderref02_Cmp x17 x14 H15) fun x18 H19 =>
 (binA .none .leq x18 (.int .i64 0)).bind fun x20 =>
 gk x20 true (some most_2) fun x21 =>
 gbN x20 true H19 (Sh.gliderref02_Of x21 H19) fun x22 H23 =>
 gk x20 true (fieldAddrA 6 b_10) fun x24 =>
 gkc x20 true (loadA true 2 x24 H23) (fun b x25 => gR b (loadA true 2 x24 H19) = some x25 ∧ True) fun x25 =>
 gbN x20 true H23 (Sh.gliderref02_Cmp x25 x22 H23) fun x26 H27 =>
 gk x20 true (binA .none .leq x26 (.int .i64 0)) fun x28 =>
 (condV x20 x28 (.bool false)).bind fun x29 =>
 rP H0 x29 H27
noncomputable def Sh.gliderref08_Most_l2 (H0 : AHeap) (rec1 : LK) (rec2 : LK) (q_12 most_13 i_14 k_15 : AVal) (H16 : AHeap) : Out :=
 (binA .none .lss k_15 (.int .i64 4)).bind fun x17 =>
 gk x17 true (fieldAddrA 0 q_12) fun x18 =>
 gk x17 true (loadA false 1 x18 H16) fun x19 =>
 gk x17 true (some i_14) fun x20 =>
 gk x17 true (idxSl 5 x19 x20) fun x21 =>
 gk x17 true (fieldAddrA 0 x21) fun x22 =>
 gk x17 true (loadA false 1 x22 H16) fun x23 =>
 gk x17 true (binA .none .eql x23 (.int .i64 1)) fun x24 =>
 (condV x17 x24 (.bool false)).bind fun x25 =>
 condA x25 (
 (fieldAddrA 0 q_12).bind fun x26 =>
 (loadA false 1 x26 H16).bind fun x27 =>
 (idxSl 5 x27 i_14).bind fun x28 =>
 (fieldAddrA 1 x28).bind fun x29 =>
 (idxArr 4 1 x29 k_15).bind fun x30 =>
 (loadA false 1 x30 H16).bind fun x31 =>
 (foldA max2A most_13 [x31]).bind fun x32 =>
 (binA .none .add k_15 (.int .i64 1)).bind fun x33 =>
 rec2 [q_12, x32, i_14, x33] H16) (
 (binA .none .add i_14 (.int .i64 1)).bind fun x34 =>
 rec1 [q_12, most_13, x34] H16)
noncomputable def Sh.gliderref08_Most_l1 (H0 : AHeap) (rec1 : LK) (q_4 most_5 i_6 : AVal) (H7 : AHeap) : Out :=
 (fieldAddrA 0 q_4).bind fun x8 =>
 (loadA false 1 x8 H7).bind fun x9 =>
 (lenSl x9).bind fun x10 =>
 (binA .none .lss i_6 x10).bind fun x11 =>
 condA x11 (
 loopGen (fun rec2 vs H => Sh.gliderref08_Most_l2 H0 rec1 rec2 (ag vs 0) (ag vs 1) (ag vs 2) (ag vs 3) H) FUEL [q_4, most_5, i_6, (.int .i64 0)] H7) (
 (convInt .u8 most_5).bind fun x35 =>
 rP H0 x35 H7)
noncomputable def Sh.gliderref08_Most (q_1 : AVal) (H0 : AHeap) : Out :=
 afterA (boxA true 1 q_1 H0) fun q_2 H3 =>
 loopGen (fun rec1 vs H => Sh.gliderref08_Most_l1 H0 rec1 (ag vs 0) (ag vs 1) (ag vs 2) H) FUEL [q_2, (.int .i64 0), (.int .i64 0)] H3
noncomputable def Sh.gliderref11_Express (format_1 p_2 m_3 : AVal) (H0 : AHeap) : Out :=
 afterA (boxA true 2 p_2 H0) fun p_4 H5 =>
 afterA (boxA true 2 m_3 H5) fun m_6 H7 =>
 (binA .none .eql format_1 (.int .i64 5)).bind fun x8 =>
 condA x8 (
 rP H0 (.bool true) H7) (
 (fieldAddrA 1 p_4).bind fun x9 =>
 (loadA true 1 x9 H7).bind fun x10 =>
 (fieldAddrA 0 m_6).bind fun x11 =>
 (loadA false 1 x11 H7).bind fun x12 =>
 bP H0 (Sh.gliderref09_Within x10 x12 H7) fun x13 H14 =>
 (unA .not x13).bind fun x15 =>
 condA x15 (
 rP H0 (.bool false) H14) (
 (binA .none .eql format_1 (.int .i64 4)).bind fun x16 =>
 gk x16 false (fieldAddrA 1 p_4) fun x17 =>
 gk x16 false (loadA true 1 x17 H14) fun x18 =>
 gbP H0 x16 false H14 (Sh.gliderref08_Most x18 H14) fun x19 H20 =>
 gk x16 false (binA .none .leq x19 (.int .u8 1)) fun x21 =>
 (condV x16 (.bool true) x21).bind fun x22 =>
 rP H0 x22 H20))
noncomputable def Sh.gliderref11_Check (format_1 p_2 m_3 : AVal) (H0 : AHeap) : Out :=
 afterA (boxA true 2 p_2 H0) fun p_4 H5 =>
 afterA (boxA true 2 m_3 H5) fun m_6 H7 =>
 bP H0 (Sh.gliderref11_Format format_1 H7) fun x8 H9 =>
 (unA .not x8).bind fun x10 =>
 gk x10 false (loadA true 2 p_4 H9) fun x11 =>
 gbP H0 x10 false H9 (Sh.gliderref11_Right x11 H9) fun x12 H13 =>
 gk x10 false (unA .not x12) fun x14 =>
 (condV x10 (.bool true) x14).bind fun x15 =>
 gk x15 false (loadA true 2 m_6 H13) fun x16 =>
 gbP H0 x15 false H13 (Sh.gliderref11_Fine x16 H13) fun x17 H18 =>
 gk x15 false (unA .not x17) fun x19 =>
 (condV x15 (.bool true) x19).bind fun x20 =>
 condA x20 (
 rP H0 (.int .i64 1) H18) (
 (loadA true 2 p_4 H18).bind fun x21 =>
 (loadA true 2 m_6 H18).bind fun x22 =>
 bP H0 (Sh.gliderref11_Express format_1 x21 x22 H18) fun x23 H24 =>
 (unA .not x23).bind fun x25 =>
 condA x25 (
 rP H0 (.int .i64 5) H24) (
 rP H0 (.int .i64 0) H24))
noncomputable def Sh.gliderref02_Int_l1 (H0 : AHeap) (rec1 : LK) (x8 u_9 i_10 : AVal) (H11 : AHeap) : Out :=
 (binA .none .geq i_10 (.int .i64 0)).bind fun x12 =>
 condA x12 (
 (binA .none .gtr u_9 (.int .u64 4294967295)).bind fun x13 =>
 condA x13 (
 rP H0 (.tup [(.int .i64 0), (.bool false)]) H11) (
 (binA .none .mul u_9 (.int .u64 4294967296)).bind fun x14 =>
 (fieldAddrA 1 x8).bind fun x15 =>
 (loadA false 1 x15 H11).bind fun x16 =>
 (idxSl 1 x16 i_10).bind fun x17 =>
 (loadA false 1 x17 H11).bind fun x18 =>
 (convInt .u64 x18).bind fun x19 =>
 (binA .none .add x14 x19).bind fun x20 =>
 (binA .none .sub i_10 (.int .i64 1)).bind fun x21 =>
 rec1 [x8, x20, x21] H11)) (
 (fieldAddrA 0 x8).bind fun x22 =>
 (loadA false 1 x22 H11).bind fun x23 =>
 gk x23 true (some u_9) fun x24 =>
 gk x23 true (binA .none .leq x24 (.int .u64 9223372036854775808)) fun x25 =>
 (condV x23 x25 (.bool false)).bind fun x26 =>
 condA x26 (
 (unA .neg u_9).bind fun x27 =>
 (convInt .i64 x27).bind fun x28 =>
 rP H0 (.tup [x28, (.bool true)]) H11) (
 (fieldAddrA 0 x8).bind fun x29 =>
 (loadA false 1 x29 H11).bind fun x30 =>
 gk x30 false (some u_9) fun x31 =>
 gk x30 false (binA .none .gtr x31 (.int .u64 9223372036854775807)) fun x32 =>
 (condV x30 (.bool true) x32).bind fun x33 =>
 condA x33 (
 rP H0 (.tup [(.int .i64 0), (.bool false)]) H11) (
 (convInt .i64 u_9).bind fun x34 =>
 rP H0 (.tup [x34, (.bool true)]) H11)))
noncomputable def Sh.gliderref02_Int (x1 : AVal) (H0 : AHeap) : Out :=
 afterA (boxA true 2 x1 H0) fun x2 H3 =>
 (fieldAddrA 1 x2).bind fun x4 =>
 (loadA false 1 x4 H3).bind fun x5 =>
 (lenSl x5).bind fun x6 =>
 (binA .none .sub x6 (.int .i64 1)).bind fun x7 =>
 loopGen (fun rec1 vs H => Sh.gliderref02_Int_l1 H0 rec1 (ag vs 0) (ag vs 1) (ag vs 2) H) FUEL [x2, (.int .u64 0), x7] H3
noncomputable def Sh.gliderref08_in (x1 level_2 : AVal) (H0 : AHeap) : Out :=
 afterA (boxA true 2 x1 H0) fun x3 H4 =>
 (binA .none .sub level_2 (.int .i64 1)).bind fun x5 =>
 bP H0 (Sh.gliderref02_Pow x5 H4) fun x6 H7 =>
 afterA (allocA (some [(.bool false), (.sl [] .tight)]) H7) fun p_8 H9 =>
 bP H0 (retH (storeA 2 p_8 x6 H9)) fun _ H11 =>
 bC (loadA true 2 p_8 H11) (fun _ => True) fun x12 =>
 bindN (Sh.gliderref02_Minus x12 H11) fun x13 H14 =>
 bC (loadA true 2 x3 H14) (fun x15 => loadA true 2 x3 H11 = some x15 ∧ True) fun x15 =>
 bindN (Sh.gliderref02_Cmp x15 x13 H14) fun x16 H17 =>
 (binA .none .geq x16 (.int .i64 0)).bind fun x18 =>
 gkc x18 true (loadA true 2 x3 H17) (fun _ _ => True) fun x19 =>
 gkc x18 true (loadA true 2 p_8 H17) (fun _ _ => True) fun x20 =>
 gbN x18 true H17 (Sh.gliderref02_Cmp x19 x20 H17) fun x21 H22 =>
 gk x18 true (binA .none .lss x21 (.int .i64 0)) fun x23 =>
 (condV x18 x23 (.bool false)).bind fun x24 =>
 rP H0 x24 H22
noncomputable def Sh.gliderref08_quarter_j2 (H0 : AHeap) (x26 y_27 x28 x29 k_30 : AVal) (H31 : AHeap) : Out :=
 bC (loadA true 2 x26 H31) (fun _ => True) fun x32 =>
 bindN (retH (storeA 2 x28 x32 H31)) fun _ H34 =>
 bC (loadA true 2 y_27 H34) (fun x35 => loadA true 2 y_27 H31 = some x35 ∧ True) fun x35 =>
 bP H0 (retH (storeA 2 x29 x35 H34)) fun _ H37 =>
 (resM [some k_30, loadA true 2 x28 H37, loadA true 2 x29 H37]).bind fun x38 => rPN H0 x38 H37
noncomputable def Sh.gliderref08_quarter_j1 (H0 : AHeap) (x19 y_20 x21 x22 half_23 k_24 : AVal) (H25 : AHeap) : Out :=
 joinPt (fun j2 =>
 (loadA true 2 y_20 H25).bind fun x39 =>
 (loadA true 2 half_23 H25).bind fun x40 =>
 bP H0 (Sh.gliderref02_Cmp x39 x40 H25) fun x41 H42 =>
 (binA .none .geq x41 (.int .i64 0)).bind fun x43 =>
 condA x43 (
 (binA .none .add k_24 (.int .i64 2)).bind fun x44 =>
 (loadA true 2 y_20 H42).bind fun x45 =>
 (loadA true 2 half_23 H42).bind fun x46 =>
 bP H0 (Sh.gliderref02_Sub x45 x46 H42) fun x47 H48 =>
 bP H0 (retH (storeA 2 y_20 x47 H48)) fun _ H50 =>
 j2 [x19, y_20, x21, x22, x44] H50) (
 j2 [x19, y_20, x21, x22, k_24] H42)) (fun vs H => Sh.gliderref08_quarter_j2 H0 (ag vs 0) (ag vs 1) (ag vs 2) (ag vs 3) (ag vs 4) H)
noncomputable def Sh.gliderref08_quarter (level_1 x2 y_3 : AVal) (H0 : AHeap) : Out :=
 afterA (boxA true 2 x2 H0) fun x4 H5 =>
 afterA (boxA true 2 y_3 H5) fun y_6 H7 =>
 afterA (allocA (some [(.bool false), (.sl [] .tight)]) H7) fun x8 H9 =>
 afterA (allocA (some [(.bool false), (.sl [] .tight)]) H9) fun x10 H11 =>
 (binA .none .sub level_1 (.int .i64 1)).bind fun x12 =>
 bP H0 (Sh.gliderref02_Pow x12 H11) fun x13 H14 =>
 afterA (allocA (some [(.bool false), (.sl [] .tight)]) H14) fun half_15 H16 =>
 bP H0 (retH (storeA 2 half_15 x13 H16)) fun _ H18 =>
 joinPt (fun j1 =>
 (loadA true 2 x4 H18).bind fun x51 =>
 (loadA true 2 half_15 H18).bind fun x52 =>
 bP H0 (Sh.gliderref02_Cmp x51 x52 H18) fun x53 H54 =>
 (binA .none .geq x53 (.int .i64 0)).bind fun x55 =>
 condA x55 (
 (binA .none .add (.int .i64 0) (.int .i64 1)).bind fun x56 =>
 (loadA true 2 x4 H54).bind fun x57 =>
 (loadA true 2 half_15 H54).bind fun x58 =>
 bP H0 (Sh.gliderref02_Sub x57 x58 H54) fun x59 H60 =>
 bP H0 (retH (storeA 2 x4 x59 H60)) fun _ H62 =>
 j1 [x4, y_6, x8, x10, half_15, x56] H62) (
 j1 [x4, y_6, x8, x10, half_15, (.int .i64 0)] H54)) (fun vs H => Sh.gliderref08_quarter_j1 H0 (ag vs 0) (ag vs 1) (ag vs 2) (ag vs 3) (ag vs 4) (ag vs 5) H)
noncomputable def Sh.gliderref08_Get_l1 (H0 : AHeap) (rec1 : LK) (x48 x49 x50 x51 : AVal) (H52 : AHeap) : Out :=
 (binA .none .gtr x51 (.int .i64 0)).bind fun x53 =>
 condA x53 (
 (fieldAddrA 0 x48).bind fun x54 =>
 bC (loadA false 1 x54 H52) (fun _ => True) fun x55 =>
 (binA .none .sub x51 (.int .i64 1)).bind fun x56 =>
 (idxSl 5 x55 x56).bind fun x57 =>
 (fieldAddrA 0 x57).bind fun x58 =>
 bC (loadA false 1 x58 H52) (fun _ => True) fun x59 =>
 bC (loadA true 2 x49 H52) (fun _ => True) fun x60 =>
 bC (loadA true 2 x50 H52) (fun _ => True) fun x61 =>
 bindN (Sh.gliderref08_quarter x59 x60 x61 H52) fun x62 H63 =>
 (extractA 0 x62).bind fun x64 =>
 (extractA 1 x62).bind fun x65 =>
 afterA (allocA (some [(.bool false), (.sl [] .tight)]) H63) fun x66 H67 =>
 afterA (allocA (some [(.bool false), (.sl [] .tight)]) H67) fun x68 H69 =>
 bindN (retH (storeA 2 x66 x65 H69)) fun _ H71 =>
 (extractA 2 x62).bind fun x72 =>
 bP H0 (retH (storeA 2 x68 x72 H71)) fun _ H74 =>
 (fieldAddrA 0 x48).bind fun x75 =>
 (loadA false 1 x75 H74).bind fun x76 =>
 (binA .none .sub x51 (.int .i64 1)).bind fun x77 =>
 (idxSl 5 x76 x77).bind fun x78 =>
 (fieldAddrA 1 x78).bind fun x79 =>
 (idxArr 4 1 x79 x64).bind fun x80 =>
 (loadA false 1 x80 H74).bind fun x81 =>
 (fieldAddrA 0 x48).bind fun x82 =>
 (loadA false 1 x82 H74).bind fun x83 =>
 (binA .none .sub x51 (.int .i64 1)).bind fun x84 =>
 (idxSl 5 x83 x84).bind fun x85 =>
 (fieldAddrA 0 x85).bind fun x86 =>
 (loadA false 1 x86 H74).bind fun x87 =>
 (binA .none .eql x87 (.int .i64 1)).bind fun x88 =>
 condA x88 (
 (convInt .u8 x81).bind fun x89 =>
 rP H0 x89 H74) (
 bC (loadA true 2 x66 H74) (fun _ => True) fun x90 =>
 bindN (retH (storeA 2 x49 x90 H74)) fun _ H92 =>
 bC (loadA true 2 x68 H92) (fun x93 => loadA true 2 x68 H74 = some x93 ∧ True) fun x93 =>
 bP H0 (retH (storeA 2 x50 x93 H92)) fun _ H95 =>
 rec1 [x48, x49, x50, x81] H95)) (
 rP H0 (.int .u8 0) H52)
noncomputable def Sh.gliderref08_Get (x1 x2 x3 : AVal) (H0 : AHeap) : Out :=
 afterA (boxA true 1 x1 H0) fun x4 H5 =>
 afterA (boxA true 2 x2 H5) fun x6 H7 =>
 afterA (boxA true 2 x3 H7) fun x8 H9 =>
 (loadA true 1 x4 H9).bind fun x10 =>
 bP H0 (Sh.gliderref05_Level x10 H9) fun x11 H12 =>
 (binA .none .eql x11 (.int .i64 0)).bind fun x13 =>
 gk x13 false (loadA true 2 x6 H12) fun x14 =>
 gk x13 false (some x11) fun x15 =>
 gbP H0 x13 false H12 (Sh.gliderref08_in x14 x15 H12) fun x16 H17 =>
 gk x13 false (unA .not x16) fun x18 =>
 (condV x13 (.bool true) x18).bind fun x19 =>
 gk x19 false (loadA true 2 x8 H17) fun x20 =>
 gk x19 false (some x11) fun x21 =>
 gbP H0 x19 false H17 (Sh.gliderref08_in x20 x21 H17) fun x22 H23 =>
 gk x19 false (unA .not x22) fun x24 =>
 (condV x19 (.bool true) x24).bind fun x25 =>
 condA x25 (
 rP H0 (.int .u8 0) H23) (
 (binA .none .sub x11 (.int .i64 1)).bind fun x26 =>
 bP H0 (Sh.gliderref02_Pow x26 H23) fun x27 H28 =>
 afterA (allocA (some [(.bool false), (.sl [] .tight)]) H28) fun x29 H30 =>
 bP H0 (retH (storeA 2 x29 x27 H30)) fun _ H32 =>
 bC (loadA true 2 x6 H32) (fun _ => True) fun x33 =>
 bC (loadA true 2 x29 H32) (fun _ => True) fun x34 =>
 bindN (Sh.gliderref02_Add x33 x34 H32) fun x35 H36 =>
 bC (loadA true 2 x8 H36) (fun x37 => loadA true 2 x8 H32 = some x37 ∧ True) fun x37 =>
 bC (loadA true 2 x29 H36) (fun x38 => loadA true 2 x29 H32 = some x38 ∧ True) fun x38 =>
 bindN (Sh.gliderref02_Add x37 x38 H36) fun x39 H40 =>
 bindN (retH (storeA 2 x6 x35 H40)) fun _ H42 =>
 bP H0 (retH (storeA 2 x8 x39 H42)) fun _ H44 =>
 (fieldAddrA 0 x4).bind fun x45 =>
 (loadA false 1 x45 H44).bind fun x46 =>
 (lenSl x46).bind fun x47 =>
 loopGen (fun rec1 vs H => Sh.gliderref08_Get_l1 H0 rec1 (ag vs 0) (ag vs 1) (ag vs 2) (ag vs 3) H) FUEL [x4, x6, x8, x47] H44)
noncomputable def Sh.gliderref10_Of_l2 (H0 : AHeap) (rec1 : LK) (rec2 : LK) (x69 x70 x71 x72 x73 x74 x75 x76 x77 : AVal) (H78 : AHeap) : Out :=
 (binA .none .lss x77 x72).bind fun x79 =>
 condA x79 (
 bindN (Sh.gliderref02_Of x77 H78) fun x80 H81 =>
 (fieldAddrA 0 x71).bind fun x82 =>
 bC (loadA true 2 x82 H81) (fun x83 => loadA true 2 x82 H78 = some x83 ∧ True) fun x83 =>
 bindN (Sh.gliderref02_Add x83 x80 H81) fun x84 H85 =>
 bindN (Sh.gliderref02_Of x75 H85) fun x86 H87 =>
 (fieldAddrA 2 x71).bind fun x88 =>
 bC (loadA true 2 x88 H87) (fun x89 => loadA true 2 x88 H85 = some x89 ∧ loadA true 2 x88 H81 = some x89 ∧ loadA true 2 x88 H78 = some x89 ∧ True) fun x89 =>
 bindN (Sh.gliderref02_Add x89 x86 H87) fun x90 H91 =>
 bC (loadA true 1 x69 H91) (fun x92 => loadA true 1 x69 H87 = some x92 ∧ loadA true 1 x69 H85 = some x92 ∧ loadA true 1 x69 H81 = some x92 ∧ loadA true 1 x69 H78 = some x92 ∧ True) fun x92 =>
 bindN (Sh.gliderref08_Get x92 x84 x90 H91) fun x93 H94 =>
 (idxSl 1 x76 x77).bind fun x95 =>
 bP H0 (retH (storeA 1 x95 x93 H94)) fun _ H97 =>
 (binA .none .add x77 (.int .i64 1)).bind fun x98 =>
 rec2 [x69, x70, x71, x72, x73, x74, x75, x76, x98] H97) (
 (fieldAddrA 4 x74).bind fun x99 =>
 (loadA false 1 x99 H78).bind fun x100 =>
 (convToStr x76 H78).bind fun x101 =>
 (buildSl 1 [x101]).bind fun x102 =>
 bP H0 (retVH (appendA ty_string 1 16 x100 x102 H78)) fun x103 H104 =>
 (fieldAddrA 4 x74).bind fun x105 =>
 bP H0 (retH (storeA 1 x105 x103 H104)) fun _ H107 =>
 (binA .none .add x75 (.int .i64 1)).bind fun x108 =>
 rec1 [x69, x70, x71, x72, x73, x74, x108] H107)
noncomputable def Sh.gliderref10_Of_l1 (H0 : AHeap) (rec1 : LK) (x58 x59 x60 x61 x62 x63 x64 : AVal) (H65 : AHeap) : Out :=
 (binA .none .lss x64 x62).bind fun x66 =>
 condA x66 (
 afterA (makeA 1 1 (some [(.int .u8 0)]) x61 x61 H65) fun x67 H68 =>
 loopGen (fun rec2 vs H => Sh.gliderref10_Of_l2 H0 rec1 rec2 (ag vs 0) (ag vs 1) (ag vs 2) (ag vs 3) (ag vs 4) (ag vs 5) (ag vs 6) (ag vs 7) (ag vs 8) H) FUEL [x58, x59, x60, x61, x62, x63, x64, x67, (.int .i64 0)] H68) (
 (loadA true 5 x63 H65).bind fun x109 =>
 bP H0 (retH (storeA 5 x59 x109 H65)) fun _ H111 =>
 (resM [loadA true 5 x59 H111, some (.int .i64 0)]).bind fun x112 => rPN H0 x112 H111)
noncomputable def Sh.gliderref10_Of (x1 x2 : AVal) (H0 : AHeap) : Out :=
 afterA (boxA true 1 x1 H0) fun x3 H4 =>
 afterA (allocA (some [(.bool false), (.sl [] .tight), (.bool false), (.sl [] .tight), (.sl [] .tight)]) H4) fun x5 H6 =>
 (binA .none .lss x2 (.int .i64 0)).bind fun x7 =>
 gk x7 false (some x2) fun x8 =>
 gk x7 false (binA .none .gtr x8 (.int .i64 1000)) fun x9 =>
 (condV x7 (.bool true) x9).bind fun x10 =>
 condA x10 (
 (buildA (some [(.bool false), (.sl [] .tight), (.bool false), (.sl [] .tight), (.sl [] .tight)]) []).bind fun x11 =>
 bP H0 (retH (storeA 5 x5 x11 H6)) fun _ H13 =>
 (resM [loadA true 5 x5 H13, some (.int .i64 1)]).bind fun x14 => rPN H0 x14 H13) (
 (loadA true 1 x3 H6).bind fun x15 =>
 bP H0 (Sh.gliderref09_Within x15 x2 H6) fun x16 H17 =>
 (unA .not x16).bind fun x18 =>
 condA x18 (
 (buildA (some [(.bool false), (.sl [] .tight), (.bool false), (.sl [] .tight), (.sl [] .tight)]) []).bind fun x19 =>
 bP H0 (retH (storeA 5 x5 x19 H17)) fun _ H21 =>
 (resM [loadA true 5 x5 H21, some (.int .i64 4)]).bind fun x22 => rPN H0 x22 H21) (
 (loadA true 1 x3 H17).bind fun x23 =>
 bP H0 (Sh.gliderref09_Of x23 H17) fun x24 H25 =>
 (extractA 0 x24).bind fun x26 =>
 (extractA 1 x24).bind fun x27 =>
 afterA (allocA (some [(.bool false), (.sl [] .tight), (.bool false), (.sl [] .tight), (.bool false), (.sl [] .tight), (.bool false), (.sl [] .tight)]) H25) fun x28 H29 =>
 bP H0 (retH (storeA 8 x28 x26 H29)) fun _ H31 =>
 (unA .not x27).bind fun x32 =>
 condA x32 (
 (buildA (some [(.bool false), (.sl [] .tight), (.bool false), (.sl [] .tight), (.sl [] .tight)]) []).bind fun x33 =>
 bP H0 (retH (storeA 5 x5 x33 H31)) fun _ H35 =>
 (resM [loadA true 5 x5 H35, some (.int .i64 0)]).bind fun x36 => rPN H0 x36 H35) (
 (fieldAddrA 4 x28).bind fun x37 =>
 (loadA true 2 x37 H31).bind fun x38 =>
 bP H0 (Sh.gliderref02_Int x38 H31) fun x39 H40 =>
 (extractA 0 x39).bind fun x41 =>
 (extractA 1 x39).bind fun x42 =>
 (fieldAddrA 6 x28).bind fun x43 =>
 (loadA true 2 x43 H40).bind fun x44 =>
 bP H0 (Sh.gliderref02_Int x44 H40) fun x45 H46 =>
 (extractA 0 x45).bind fun x47 =>
 (extractA 1 x45).bind fun x48 =>
 (fieldAddrA 0 x28).bind fun x49 =>
 (loadA true 2 x49 H46).bind fun x50 =>
 (fieldAddrA 2 x28).bind fun x51 =>
 (loadA true 2 x51 H46).bind fun x52 =>
 (buildA (some [(.bool false), (.sl [] .tight), (.bool false), (.sl [] .tight), (.sl [] .tight)]) [(0, 2, x50), (2, 2, x52)]).bind fun x53 =>
 afterA (allocA (some [(.bool false), (.sl [] .tight), (.bool false), (.sl [] .tight), (.sl [] .tight)]) H46) fun x54 H55 =>
 bP H0 (retH (storeA 5 x54 x53 H55)) fun _ H57 =>
 loopGen (fun rec1 vs H => Sh.gliderref10_Of_l1 H0 rec1 (ag vs 0) (ag vs 1) (ag vs 2) (ag vs 3) (ag vs 4) (ag vs 5) (ag vs 6) H) FUEL [x3, x5, x28, x41, x47, x54, (.int .i64 0)] H57)))
noncomputable def Sh.gliderref12_row_j2 (H0 : AHeap) (rec1 : LK) (s_11 one_12 out_13 n_14 i_15 : AVal) (H16 : AHeap) : Out :=
 (binA .none .add i_15 (.int .i64 1)).bind fun x17 =>
 rec1 [s_11, one_12, out_13, n_14, x17] H16
noncomputable def Sh.gliderref12_row_l1 (H0 : AHeap) (rec1 : LK) (s_3 one_4 out_5 n_6 i_7 : AVal) (H8 : AHeap) : Out :=
 (lenStr s_3).bind fun x9 =>
 (binA .none .lss i_7 x9).bind fun x10 =>
 condA x10 (
 joinPt (fun j2 =>
 (idxStr s_3 i_7).bind fun x18 =>
 (binA .none .eql x18 (.int .u8 0)).bind fun x19 =>
 condA x19 (
 (buildSl 1 [(.int .u8 46)]).bind fun x20 =>
 bP H0 (retVH (appendA ty_uint8 1 1 out_5 x20 H8)) fun x21 H22 =>
 j2 [s_3, one_4, x21, n_6, i_7] H22) (
 (buildSl 1 [one_4]).bind fun x23 =>
 bP H0 (retVH (appendA ty_uint8 1 1 out_5 x23 H8)) fun x24 H25 =>
 (lenSl x24).bind fun x26 =>
 j2 [s_3, one_4, x24, x26, i_7] H25)) (fun vs H => Sh.gliderref12_row_j2 H0 rec1 (ag vs 0) (ag vs 1) (ag vs 2) (ag vs 3) (ag vs 4) H)) (
 (sliceSl 1 out_5 none (some n_6) none).bind fun x27 =>
 (convToStr x27 H8).bind fun x28 =>
 rP H0 x28 H8)
noncomputable def Sh.gliderref12_row (s_1 one_2 : AVal) (H0 : AHeap) : Out :=
 loopGen (fun rec1 vs H => Sh.gliderref12_row_l1 H0 rec1 (ag vs 0) (ag vs 1) (ag vs 2) (ag vs 3) (ag vs 4) H) FUEL [s_1, one_2, (.sl [] .tight), (.int .i64 0), (.int .i64 0)] H0
noncomputable def Sh.gliderref12_Plain_l1 (H0 : AHeap) (rec1 : LK) (g_28 s_29 i_30 : AVal) (H31 : AHeap) : Out :=
 (fieldAddrA 4 g_28).bind fun x32 =>
 (loadA false 1 x32 H31).bind fun x33 =>
 (lenSl x33).bind fun x34 =>
 (binA .none .lss i_30 x34).bind fun x35 =>
 condA x35 (
 (fieldAddrA 4 g_28).bind fun x36 =>
 (loadA false 1 x36 H31).bind fun x37 =>
 (idxSl 1 x37 i_30).bind fun x38 =>
 (loadA false 1 x38 H31).bind fun x39 =>
 bP H0 (Sh.gliderref12_row x39 (.int .u8 79) H31) fun x40 H41 =>
 (binA .none .add s_29 x40).bind fun x42 =>
 (binA .none .add x42 (.str [10])).bind fun x43 =>
 (binA .none .add i_30 (.int .i64 1)).bind fun x44 =>
 rec1 [g_28, x43, x44] H41) (
 rP H0 (.tup [s_29, (.int .i64 0)]) H31)
noncomputable def Sh.gliderref12_Plain (p_1 m_2 : AVal) (H0 : AHeap) : Out :=
 afterA (boxA true 2 p_1 H0) fun p_3 H4 =>
 afterA (boxA true 2 m_2 H4) fun m_5 H6 =>
 (loadA true 2 p_3 H6).bind fun x7 =>
 (loadA true 2 m_5 H6).bind fun x8 =>
 bP H0 (Sh.gliderref11_Check (.int .i64 1) x7 x8 H6) fun x9 H10 =>
 (binA .none .neq x9 (.int .i64 0)).bind fun x11 =>
 condA x11 (
 rP H0 (.tup [(.str []), x9]) H10) (
 (fieldAddrA 1 p_3).bind fun x12 =>
 (loadA true 1 x12 H10).bind fun x13 =>
 (fieldAddrA 0 m_5).bind fun x14 =>
 (loadA false 1 x14 H10).bind fun x15 =>
 bP H0 (Sh.gliderref10_Of x13 x15 H10) fun x16 H17 =>
 (extractA 0 x16).bind fun x18 =>
 (extractA 1 x16).bind fun x19 =>
 afterA (allocA (some [(.bool false), (.sl [] .tight), (.bool false), (.sl [] .tight), (.sl [] .tight)]) H17) fun g_20 H21 =>
 bP H0 (retH (storeA 5 g_20 x18 H21)) fun _ H23 =>
 (fieldAddrA 0 p_3).bind fun x24 =>
 (loadA false 1 x24 H23).bind fun x25 =>
 (binA .none .add (.str [33, 82, 117, 108, 101, 58, 32]) x25).bind fun x26 =>
 (binA .none .add x26 (.str [10])).bind fun x27 =>
 loopGen (fun rec1 vs H => Sh.gliderref12_Plain_l1 H0 rec1 (ag vs 0) (ag vs 1) (ag vs 2) H) FUEL [g_20, x27, (.int .i64 0)] H23)
noncomputable def Sh.gliderref01_Div_l1 (H0 : AHeap) (rec1 : LK) (a_9 m_10 out_11 left_12 i_13 : AVal) (H14 : AHeap) : Out :=
 (binA .none .geq i_13 (.int .i64 0)).bind fun x15 =>
 condA x15 (
 (binA .none .mul left_12 (.int .u64 4294967296)).bind fun x16 =>
 (idxSl 1 a_9 i_13).bind fun x17 =>
 (loadA false 1 x17 H14).bind fun x18 =>
 (convInt .u64 x18).bind fun x19 =>
 (binA .none .add x16 x19).bind fun x20 =>
 bC (convInt .u64 m_10) (fun _ => True) fun x21 =>
 (binA .none .quo x20 x21).bind fun x22 =>
 bC (convInt .u32 x22) (fun _ => True) fun x23 =>
 (idxSl 1 out_11 i_13).bind fun x24 =>
 bindN (retH (storeA 1 x24 x23 H14)) fun _ H26 =>
 bC (convInt .u64 m_10) (fun x27 => convInt .u64 m_10 = some x27 ∧ True) fun x27 =>
 (binA .none .rem x20 x27).bind fun x28 =>
 (binA .none .sub i_13 (.int .i64 1)).bind fun x29 =>
 rec1 [a_9, m_10, out_11, x28, x29] H26) (
 bP H0 (Sh.gliderref01_Norm out_11 H14) fun x30 H31 =>
 (convInt .u32 left_12).bind fun x32 =>
 rPN H0 (.tup [x30, x32]) H31)
noncomputable def Sh.gliderref01_Div (a_1 m_2 : AVal) (H0 : AHeap) : Out :=
 (binA .none .eql m_2 (.int .u32 0)).bind fun x3 =>
 condA x3 (
 rPN H0 (.tup [(.sl [] .tight), (.int .u32 0)]) H0) (
 (lenSl a_1).bind fun x4 =>
 afterA (makeA 1 4 (some [(.int .u32 0)]) x4 x4 H0) fun x5 H6 =>
 (lenSl a_1).bind fun x7 =>
 (binA .none .sub x7 (.int .i64 1)).bind fun x8 =>
 loopGen (fun rec1 vs H => Sh.gliderref01_Div_l1 H0 rec1 (ag vs 0) (ag vs 1) (ag vs 2) (ag vs 3) (ag vs 4) H) FUEL [a_1, m_2, x5, (.int .u64 0), x8] H6)
noncomputable def Sh.gliderref03_Text_l1 (H0 : AHeap) (rec1 : LK) (x6 s_7 l_8 : AVal) (H9 : AHeap) : Out :=
 bP H0 (Sh.gliderref01_Div l_8 (.int .u32 10) H9) fun x10 H11 =>
 (extractA 0 x10).bind fun x12 =>
 (extractA 1 x10).bind fun x13 =>
 (binA .none .add (.int .u32 48) x13).bind fun x14 =>
 (convInt .u8 x14).bind fun x15 =>
 (buildSl 1 [x15]).bind fun x16 =>
 (convToStr x16 H11).bind fun x17 =>
 (binA .none .add x17 s_7).bind fun x18 =>
 (lenSl x12).bind fun x19 =>
 (binA .none .eql x19 (.int .i64 0)).bind fun x20 =>
 condA x20 (
 (fieldAddrA 0 x6).bind fun x21 =>
 (loadA false 1 x21 H11).bind fun x22 =>
 condA x22 (
 (binA .none .add (.str [45]) x18).bind fun x23 =>
 rP H0 x23 H11) (
 rP H0 x18 H11)) (
 rec1 [x6, x18, x12] H11)
noncomputable def Sh.gliderref03_Text (x1 : AVal) (H0 : AHeap) : Out :=
 afterA (boxA true 2 x1 H0) fun x2 H3 =>
 (fieldAddrA 1 x2).bind fun x4 =>
 (loadA false 1 x4 H3).bind fun x5 =>
 loopGen (fun rec1 vs H => Sh.gliderref03_Text_l1 H0 rec1 (ag vs 0) (ag vs 1) (ag vs 2) H) FUEL [x2, (.str []), x5] H3
noncomputable def Sh.gliderref12_Life5_j3 (H0 : AHeap) (rec2 : LK) (x45 x46 x47 x48 : AVal) (H49 : AHeap) : Out :=
 (binA .none .add x46 x48).bind fun x50 =>
 (binA .none .add x50 (.str [10])).bind fun x51 =>
 (binA .none .add x47 (.int .i64 1)).bind fun x52 =>
 rec2 [x45, x51, x52] H49
noncomputable def Sh.gliderref12_Life5_l2 (H0 : AHeap) (rec2 : LK) (x31 x32 x33 : AVal) (H34 : AHeap) : Out :=
 (fieldAddrA 4 x31).bind fun x35 =>
 (loadA false 1 x35 H34).bind fun x36 =>
 (lenSl x36).bind fun x37 =>
 (binA .none .lss x33 x37).bind fun x38 =>
 condA x38 (
 (fieldAddrA 4 x31).bind fun x39 =>
 (loadA false 1 x39 H34).bind fun x40 =>
 (idxSl 1 x40 x33).bind fun x41 =>
 (loadA false 1 x41 H34).bind fun x42 =>
 bP H0 (Sh.gliderref12_row x42 (.int .u8 42) H34) fun x43 H44 =>
 joinPt (fun j3 =>
 (binA .none .eql x43 (.str [])).bind fun x53 =>
 condA x53 (
 j3 [x31, x32, x33, (.str [46])] H44) (
 j3 [x31, x32, x33, x43] H44)) (fun vs H => Sh.gliderref12_Life5_j3 H0 rec2 (ag vs 0) (ag vs 1) (ag vs 2) (ag vs 3) H)) (
 rP H0 (.tup [x32, (.int .i64 0)]) H34)
noncomputable def Sh.gliderref12_Life5_j1 (H0 : AHeap) (x28 x29 : AVal) (H30 : AHeap) : Out :=
 loopGen (fun rec2 vs H => Sh.gliderref12_Life5_l2 H0 rec2 (ag vs 0) (ag vs 1) (ag vs 2) H) FUEL [x28, x29, (.int .i64 0)] H30
noncomputable def Sh.gliderref12_Life5 (x1 x2 : AVal) (H0 : AHeap) : Out :=
 afterA (boxA true 2 x1 H0) fun x3 H4 =>
 afterA (boxA true 2 x2 H4) fun x5 H6 =>
 (loadA true 2 x3 H6).bind fun x7 =>
 (loadA true 2 x5 H6).bind fun x8 =>
 bP H0 (Sh.gliderref11_Check (.int .i64 2) x7 x8 H6) fun x9 H10 =>
 (binA .none .neq x9 (.int .i64 0)).bind fun x11 =>
 condA x11 (
 rP H0 (.tup [(.str []), x9]) H10) (
 (fieldAddrA 1 x3).bind fun x12 =>
 (loadA true 1 x12 H10).bind fun x13 =>
 (fieldAddrA 0 x5).bind fun x14 =>
 (loadA false 1 x14 H10).bind fun x15 =>
 bP H0 (Sh.gliderref10_Of x13 x15 H10) fun x16 H17 =>
 (extractA 0 x16).bind fun x18 =>
 (extractA 1 x16).bind fun x19 =>
 afterA (allocA (some [(.bool false), (.sl [] .tight), (.bool false), (.sl [] .tight), (.sl [] .tight)]) H17) fun x20 H21 =>
 bP H0 (retH (storeA 5 x20 x18 H21)) fun _ H23 =>
 (fieldAddrA 0 x3).bind fun x24 =>
 (loadA false 1 x24 H23).bind fun x25 =>
 (binA .none .add (.str [35, 76, 105, 102, 101, 32, 49, 46, 48, 53, 10, 35, 82, 32]) x25).bind fun x26 =>
 (binA .none .add x26 (.str [10])).bind fun x27 =>
 joinPt (fun j1 =>
 (fieldAddrA 4 x20).bind fun x54 =>
 (loadA false 1 x54 H23).bind fun x55 =>
 (lenSl x55).bind fun x56 =>
 (binA .none .gtr x56 (.int .i64 0)).bind fun x57 =>
 condA x57 (
 (fieldAddrA 0 x20).bind fun x58 =>
 bC (loadA true 2 x58 H23) (fun _ => True) fun x59 =>
 bindN (Sh.gliderref03_Text x59 H23) fun x60 H61 =>
 (fieldAddrA 2 x20).bind fun x62 =>
 bC (loadA true 2 x62 H61) (fun x63 => loadA true 2 x62 H23 = some x63 ∧ True) fun x63 =>
 bindN (Sh.gliderref03_Text x63 H61) fun x64 H65 =>
 (binA .none .add x27 (.str [35, 80, 32])).bind fun x66 =>
 (binA .none .add x66 x60).bind fun x67 =>
 (binA .none .add x67 (.str [32])).bind fun x68 =>
 (binA .none .add x68 x64).bind fun x69 =>
 (binA .none .add x69 (.str [10])).bind fun x70 =>
 j1 [x20, x70] H65) (
 j1 [x20, x27] H23)) (fun vs H => Sh.gliderref12_Life5_j1 H0 (ag vs 0) (ag vs 1) H))
noncomputable def Sh.gliderref07_counts_j3 (H0 : AHeap) (rec2 : LK) (l_18 out_19 i_20 k_21 : AVal) (H22 : AHeap) : Out :=
 (binA .none .add k_21 (.int .i64 1)).bind fun x23 =>
 rec2 [l_18, out_19, i_20, x23] H22
noncomputable def Sh.gliderref07_counts_l2 (H0 : AHeap) (rec1 : LK) (rec2 : LK) (l_12 out_13 i_14 k_15 : AVal) (H16 : AHeap) : Out :=
 (binA .none .lss k_15 (.int .i64 4)).bind fun x17 =>
 condA x17 (
 joinPt (fun j3 =>
 (idxSl 5 l_12 i_14).bind fun x24 =>
 (fieldAddrA 1 x24).bind fun x25 =>
 (idxArr 4 1 x25 k_15).bind fun x26 =>
 (loadA false 1 x26 H16).bind fun x27 =>
 (idxSl 5 l_12 i_14).bind fun x28 =>
 (fieldAddrA 0 x28).bind fun x29 =>
 (loadA false 1 x29 H16).bind fun x30 =>
 (binA .none .gtr x30 (.int .i64 1)).bind fun x31 =>
 condA x31 (
 (binA .none .add i_14 (.int .i64 1)).bind fun x32 =>
 (idxSl 2 out_13 x32).bind fun x33 =>
 bC (loadA true 2 x33 H16) (fun _ => True) fun x34 =>
 (idxSl 2 out_13 x27).bind fun x35 =>
 bC (loadA true 2 x35 H16) (fun _ => True) fun x36 =>
 bindN (Sh.gliderref02_Add x34 x36 H16) fun x37 H38 =>
 (binA .none .add i_14 (.int .i64 1)).bind fun x39 =>
 (idxSl 2 out_13 x39).bind fun x40 =>
 bP H0 (retH (storeA 2 x40 x37 H38)) fun _ H42 =>
 j3 [l_12, out_13, i_14, k_15] H42) (
 (binA .none .gtr x27 (.int .i64 0)).bind fun x43 =>
 condA x43 (
 bindN (Sh.gliderref02_Of (.int .i64 1) H16) fun x44 H45 =>
 (binA .none .add i_14 (.int .i64 1)).bind fun x46 =>
 (idxSl 2 out_13 x46).bind fun x47 =>
 bC (loadA true 2 x47 H45) (fun x48 => loadA true 2 x47 H16 = some x48 ∧ True) fun x48 =>
 bindN (Sh.gliderref02_Add x48 x44 H45) fun x49 H50 =>
 (binA .none .add i_14 (.int .i64 1)).bind fun x51 =>
 (idxSl 2 out_13 x51).bind fun x52 =>
 bP H0 (retH (storeA 2 x52 x49 H50)) fun _ H54 =>
 j3 [l_12, out_13, i_14, k_15] H54) (
 j3 [l_12, out_13, i_14, k_15] H16))) (fun vs H => Sh.gliderref07_counts_j3 H0 rec2 (ag vs 0) (ag vs 1) (ag vs 2) (ag vs 3) H)) (
 (binA .none .add i_14 (.int .i64 1)).bind fun x55 =>
 rec1 [l_12, out_13, x55] H16)
noncomputable def Sh.gliderref07_counts_l1 (H0 : AHeap) (rec1 : LK) (l_6 out_7 i_8 : AVal) (H9 : AHeap) : Out :=
 (lenSl l_6).bind fun x10 =>
 (binA .none .lss i_8 x10).bind fun x11 =>
 condA x11 (
 loopGen (fun rec2 vs H => Sh.gliderref07_counts_l2 H0 rec1 rec2 (ag vs 0) (ag vs 1) (ag vs 2) (ag vs 3) H) FUEL [l_6, out_7, i_8, (.int .i64 0)] H9) (
 rPN H0 out_7 H9)
noncomputable def Sh.gliderref07_counts (l_1 : AVal) (H0 : AHeap) : Out :=
 (lenSl l_1).bind fun x2 =>
 (binA .none .add x2 (.int .i64 1)).bind fun x3 =>
 afterA (makeA 2 32 (some [(.bool false), (.sl [] .tight)]) x3 x3 H0) fun x4 H5 =>
 loopGen (fun rec1 vs H => Sh.gliderref07_counts_l1 H0 rec1 (ag vs 0) (ag vs 1) (ag vs 2) H) FUEL [l_1, x4, (.int .i64 0)] H5
noncomputable def Sh.gliderref07_Count (q_1 : AVal) (H0 : AHeap) : Out :=
 afterA (boxA true 1 q_1 H0) fun q_2 H3 =>
 afterA (allocA (some [(.bool false), (.sl [] .tight)]) H3) fun x4 H5 =>
 (fieldAddrA 0 q_2).bind fun x6 =>
 bC (loadA false 1 x6 H5) (fun _ => True) fun x7 =>
 bindN (Sh.gliderref07_counts x7 H5) fun x8 H9 =>
 (fieldAddrA 0 q_2).bind fun x10 =>
 bC (loadA false 1 x10 H9) (fun x11 => loadA false 1 x10 H5 = some x11 ∧ True) fun x11 =>
 (lenSl x11).bind fun x12 =>
 (idxSl 2 x8 x12).bind fun x13 =>
 bC (loadA true 2 x13 H9) (fun _ => True) fun x14 =>
 bP H0 (retH (storeA 2 x4 x14 H9)) fun _ H16 =>
 (loadA true 2 x4 H16).bind fun x17 => rPN H0 x17 H16
noncomputable def Sh.gliderref07_list_j2 (H0 : AHeap) (rec1 : LK) (x30 x31 x32 x33 x34 x35 x36 : AVal) (H37 : AHeap) : Out :=
 (binA .none .add x36 (.int .i64 1)).bind fun x38 =>
 rec1 [x30, x31, x32, x33, x34, x35, x38] H37
noncomputable def Sh.gliderref07_list_j4 (H0 : AHeap) (self : AVal → AVal → AVal → AVal → AHeap → Out) (j2 : LK) (x59 x60 x61 x62 x63 x64 x65 x66 x67 : AVal) (H68 : AHeap) : Out :=
 (binA .none .sub x60 (.int .i64 1)).bind fun x69 =>
 (idxSl 5 x59 x69).bind fun x70 =>
 (fieldAddrA 1 x70).bind fun x71 =>
 (idxArr 4 1 x71 x65).bind fun x72 =>
 (loadA false 1 x72 H68).bind fun x73 =>
 (binA .none .sub x60 (.int .i64 1)).bind fun x74 =>
 (idxSl 5 x59 x74).bind fun x75 =>
 (fieldAddrA 0 x75).bind fun x76 =>
 (loadA false 1 x76 H68).bind fun x77 =>
 (binA .none .gtr x77 (.int .i64 1)).bind fun x78 =>
 condA x78 (
 (loadA true 2 x66 H68).bind fun x79 =>
 (loadA true 2 x67 H68).bind fun x80 =>
 bP H0 (self x59 x73 x79 x80 H68) fun x81 H82 =>
 bP H0 (retVH (appendA ty_api_Cell 5 72 x64 x81 H82)) fun x83 H84 =>
 j2 [x59, x60, x61, x62, x63, x83, x65] H84) (
 (binA .none .gtr x73 (.int .i64 0)).bind fun x85 =>
 condA x85 (
 (loadA true 2 x66 H68).bind fun x86 =>
 (loadA true 2 x67 H68).bind fun x87 =>
 (convInt .u8 x73).bind fun x88 =>
 (buildA (some [(.bool false), (.sl [] .tight), (.bool false), (.sl [] .tight), (.int .u8 0)]) [(0, 2, x86), (2, 2, x87), (4, 1, x88)]).bind fun x89 =>
 (buildSl 5 [x89]).bind fun x90 =>
 bP H0 (retVH (appendA ty_api_Cell 5 72 x64 x90 H68)) fun x91 H92 =>
 j2 [x59, x60, x61, x62, x63, x91, x65] H92) (
 j2 [x59, x60, x61, x62, x63, x64, x65] H68))
noncomputable def Sh.gliderref07_list_j3 (H0 : AHeap) (self : AVal → AVal → AVal → AVal → AHeap → Out) (j2 : LK) (x49 x50 x51 x52 x53 x54 x55 x56 x57 : AVal) (H58 : AHeap) : Out :=
 joinPt (fun j4 =>
 (binA .none .gtr x55 (.int .i64 1)).bind fun x93 =>
 condA x93 (
 (loadA true 2 x52 H58).bind fun x94 =>
 (loadA true 2 x53 H58).bind fun x95 =>
 bP H0 (Sh.gliderref02_Add x94 x95 H58) fun x96 H97 =>
 bP H0 (retH (storeA 2 x57 x96 H97)) fun _ H99 =>
 j4 [x49, x50, x51, x52, x53, x54, x55, x56, x57] H99) (
 j4 [x49, x50, x51, x52, x53, x54, x55, x56, x57] H58)) (fun vs H => Sh.gliderref07_list_j4 H0 self j2 (ag vs 0) (ag vs 1) (ag vs 2) (ag vs 3) (ag vs 4) (ag vs 5) (ag vs 6) (ag vs 7) (ag vs 8) H)
noncomputable def Sh.gliderref07_list_l1 (H0 : AHeap) (self : AVal → AVal → AVal → AVal → AHeap → Out) (rec1 : LK) (x21 x22 x23 x24 x25 x26 x27 : AVal) (H28 : AHeap) : Out :=
 (binA .none .lss x27 (.int .i64 4)).bind fun x29 =>
 condA x29 (
 joinPt (fun j2 =>
 bC (loadA true 2 x23 H28) (fun _ => True) fun x39 =>
 afterA (allocA (some [(.bool false), (.sl [] .tight)]) H28) fun x40 H41 =>
 afterA (allocA (some [(.bool false), (.sl [] .tight)]) H41) fun x42 H43 =>
 bindN (retH (storeA 2 x40 x39 H43)) fun _ H45 =>
 bC (loadA true 2 x24 H45) (fun x46 => loadA true 2 x24 H28 = some x46 ∧ True) fun x46 =>
 bP H0 (retH (storeA 2 x42 x46 H45)) fun _ H48 =>
 joinPt (fun j3 =>
 (binA .none .rem x27 (.int .i64 2)).bind fun x100 =>
 (binA .none .eql x100 (.int .i64 1)).bind fun x101 =>
 condA x101 (
 (loadA true 2 x23 H48).bind fun x102 =>
 (loadA true 2 x25 H48).bind fun x103 =>
 bP H0 (Sh.gliderref02_Add x102 x103 H48) fun x104 H105 =>
 bP H0 (retH (storeA 2 x40 x104 H105)) fun _ H107 =>
 j3 [x21, x22, x23, x24, x25, x26, x27, x40, x42] H107) (
 j3 [x21, x22, x23, x24, x25, x26, x27, x40, x42] H48)) (fun vs H => Sh.gliderref07_list_j3 H0 self j2 (ag vs 0) (ag vs 1) (ag vs 2) (ag vs 3) (ag vs 4) (ag vs 5) (ag vs 6) (ag vs 7) (ag vs 8) H)) (fun vs H => Sh.gliderref07_list_j2 H0 rec1 (ag vs 0) (ag vs 1) (ag vs 2) (ag vs 3) (ag vs 4) (ag vs 5) (ag vs 6) H)) (
 rPN H0 x26 H28)
noncomputable def Sh.gliderref07_list_F (self : AVal → AVal → AVal → AVal → AHeap → Out) (x1 x2 x3 x4 : AVal) (H0 : AHeap) : Out :=
 afterA (boxA true 2 x3 H0) fun x5 H6 =>
 afterA (boxA true 2 x4 H6) fun x7 H8 =>
 (binA .none .eql x2 (.int .i64 0)).bind fun x9 =>
 condA x9 (
 rPN H0 (.sl [] .tight) H8) (
 (binA .none .sub x2 (.int .i64 1)).bind fun x10 =>
 (idxSl 5 x1 x10).bind fun x11 =>
 (fieldAddrA 0 x11).bind fun x12 =>
 (loadA false 1 x12 H8).bind fun x13 =>
 (binA .none .sub x13 (.int .i64 1)).bind fun x14 =>
 bP H0 (Sh.gliderref02_Pow x14 H8) fun x15 H16 =>
 afterA (allocA (some [(.bool false), (.sl [] .tight)]) H16) fun x17 H18 =>
 bP H0 (retH (storeA 2 x17 x15 H18)) fun _ H20 =>
 loopGen (fun rec1 vs H => Sh.gliderref07_list_l1 H0 self rec1 (ag vs 0) (ag vs 1) (ag vs 2) (ag vs 3) (ag vs 4) (ag vs 5) (ag vs 6) H) FUEL [x1, x2, x5, x7, x17, (.sl [] .tight), (.int .i64 0)] H20)
noncomputable def Sh.gliderref07_list : Nat → AVal → AVal → AVal → AVal → AHeap → Out
  | 0 => fun _ _ _ _ _ => none
  | d + 1 => Sh.gliderref07_list_F (Sh.gliderref07_list d)
noncomputable def Sh.gliderref07_List (q_1 most_2 : AVal) (H0 : AHeap) : Out :=
 afterA (boxA true 1 q_1 H0) fun q_3 H4 =>
 (loadA true 1 q_3 H4).bind fun x5 =>
 bP H0 (Sh.gliderref07_Count x5 H4) fun x6 H7 =>
 bP H0 (Sh.gliderref02_Of most_2 H7) fun x8 H9 =>
 bP H0 (Sh.gliderref02_Cmp x6 x8 H9) fun x10 H11 =>
 (binA .none .gtr x10 (.int .i64 0)).bind fun x12 =>
 condA x12 (
 rPN H0 (.tup [(.sl [] .tight), (.bool false)]) H11) (
 (fieldAddrA 0 q_3).bind fun x13 =>
 (loadA false 1 x13 H11).bind fun x14 =>
 (lenSl x14).bind fun x15 =>
 (binA .none .eql x15 (.int .i64 0)).bind fun x16 =>
 condA x16 (
 rPN H0 (.tup [(.sl [] .tight), (.bool true)]) H11) (
 (loadA true 1 q_3 H11).bind fun x17 =>
 bP H0 (Sh.gliderref05_Level x17 H11) fun x18 H19 =>
 (binA .none .sub x18 (.int .i64 1)).bind fun x20 =>
 bP H0 (Sh.gliderref02_Pow x20 H19) fun x21 H22 =>
 bP H0 (Sh.gliderref02_Minus x21 H22) fun x23 H24 =>
 afterA (allocA (some [(.bool false), (.sl [] .tight)]) H24) fun corner_25 H26 =>
 bP H0 (retH (storeA 2 corner_25 x23 H26)) fun _ H28 =>
 (fieldAddrA 0 q_3).bind fun x29 =>
 (loadA false 1 x29 H28).bind fun x30 =>
 (fieldAddrA 0 q_3).bind fun x31 =>
 (loadA false 1 x31 H28).bind fun x32 =>
 (lenSl x32).bind fun x33 =>
 (loadA true 2 corner_25 H28).bind fun x34 =>
 (loadA true 2 corner_25 H28).bind fun x35 =>
 bP H0 (Sh.gliderref07_list FUEL x30 x33 x34 x35 H28) fun x36 H37 =>
 bP H0 (Sh.gliderref07_Last x36 H37) fun x38 H39 =>
 rPN H0 (.tup [x38, (.bool true)]) H39))
noncomputable def Sh.gliderref12_Life6_l1 (H0 : AHeap) (rec1 : LK) (l_22 s_23 i_24 : AVal) (H25 : AHeap) : Out :=
 (lenSl l_22).bind fun x26 =>
 (binA .none .lss i_24 x26).bind fun x27 =>
 condA x27 (
 (idxSl 5 l_22 i_24).bind fun x28 =>
 (fieldAddrA 0 x28).bind fun x29 =>
 bC (loadA true 2 x29 H25) (fun _ => True) fun x30 =>
 bindN (Sh.gliderref03_Text x30 H25) fun x31 H32 =>
 (idxSl 5 l_22 i_24).bind fun x33 =>
 (fieldAddrA 2 x33).bind fun x34 =>
 bC (loadA true 2 x34 H32) (fun x35 => loadA true 2 x34 H25 = some x35 ∧ True) fun x35 =>
 bindN (Sh.gliderref03_Text x35 H32) fun x36 H37 =>
 (binA .none .add s_23 x31).bind fun x38 =>
 (binA .none .add x38 (.str [32])).bind fun x39 =>
 (binA .none .add x39 x36).bind fun x40 =>
 (binA .none .add x40 (.str [10])).bind fun x41 =>
 (binA .none .add i_24 (.int .i64 1)).bind fun x42 =>
 rec1 [l_22, x41, x42] H37) (
 rP H0 (.tup [s_23, (.int .i64 0)]) H25)
noncomputable def Sh.gliderref12_Life6 (p_1 m_2 : AVal) (H0 : AHeap) : Out :=
 afterA (boxA true 2 p_1 H0) fun p_3 H4 =>
 afterA (boxA true 2 m_2 H4) fun m_5 H6 =>
 (loadA true 2 p_3 H6).bind fun x7 =>
 (loadA true 2 m_5 H6).bind fun x8 =>
 bP H0 (Sh.gliderref11_Check (.int .i64 3) x7 x8 H6) fun x9 H10 =>
 (binA .none .neq x9 (.int .i64 0)).bind fun x11 =>
 condA x11 (
 rP H0 (.tup [(.str []), x9]) H10) (
 (fieldAddrA 1 p_3).bind fun x12 =>
 (loadA true 1 x12 H10).bind fun x13 =>
 bP H0 (Sh.gliderref07_List x13 (.int .i64 1000000) H10) fun x14 H15 =>
 (extractA 0 x14).bind fun x16 =>
 (extractA 1 x14).bind fun x17 =>
 (fieldAddrA 0 p_3).bind fun x18 =>
 (loadA false 1 x18 H15).bind fun x19 =>
 (binA .none .add (.str [35, 76, 105, 102, 101, 32, 49, 46, 48, 54, 10, 35, 82, 32]) x19).bind fun x20 =>
 (binA .none .add x20 (.str [10])).bind fun x21 =>
 loopGen (fun rec1 vs H => Sh.gliderref12_Life6_l1 H0 rec1 (ag vs 0) (ag vs 1) (ag vs 2) H) FUEL [x16, x21, (.int .i64 0)] H15)
noncomputable def Sh.gliderref13_two_l2 (H0 : AHeap) (rec1 : LK) (rec2 : LK) (g_11 y_12 x13 : AVal) (H14 : AHeap) : Out :=
 (fieldAddrA 4 g_11).bind fun x15 =>
 (loadA false 1 x15 H14).bind fun x16 =>
 (idxSl 1 x16 y_12).bind fun x17 =>
 (loadA false 1 x17 H14).bind fun x18 =>
 (lenStr x18).bind fun x19 =>
 (binA .none .lss x13 x19).bind fun x20 =>
 condA x20 (
 (fieldAddrA 4 g_11).bind fun x21 =>
 (loadA false 1 x21 H14).bind fun x22 =>
 (idxSl 1 x22 y_12).bind fun x23 =>
 (loadA false 1 x23 H14).bind fun x24 =>
 (idxStr x24 x13).bind fun x25 =>
 (binA .none .gtr x25 (.int .u8 1)).bind fun x26 =>
 condA x26 (
 rP H0 (.bool false) H14) (
 (binA .none .add x13 (.int .i64 1)).bind fun x27 =>
 rec2 [g_11, y_12, x27] H14)) (
 (binA .none .add y_12 (.int .i64 1)).bind fun x28 =>
 rec1 [g_11, x28] H14)
noncomputable def Sh.gliderref13_two_l1 (H0 : AHeap) (rec1 : LK) (g_4 y_5 : AVal) (H6 : AHeap) : Out :=
 (fieldAddrA 4 g_4).bind fun x7 =>
 (loadA false 1 x7 H6).bind fun x8 =>
 (lenSl x8).bind fun x9 =>
 (binA .none .lss y_5 x9).bind fun x10 =>
 condA x10 (
 loopGen (fun rec2 vs H => Sh.gliderref13_two_l2 H0 rec1 rec2 (ag vs 0) (ag vs 1) (ag vs 2) H) FUEL [g_4, y_5, (.int .i64 0)] H6) (
 rP H0 (.bool true) H6)
noncomputable def Sh.gliderref13_two (g_1 : AVal) (H0 : AHeap) : Out :=
 afterA (boxA true 5 g_1 H0) fun g_2 H3 =>
 loopGen (fun rec1 vs H => Sh.gliderref13_two_l1 H0 rec1 (ag vs 0) (ag vs 1) H) FUEL [g_2, (.int .i64 0)] H3
noncomputable def Sh.gliderref13_used_j2 (H0 : AHeap) (rec1 : LK) (row_8 n_9 i_10 : AVal) (H11 : AHeap) : Out :=
 (binA .none .add i_10 (.int .i64 1)).bind fun x12 =>
 rec1 [row_8, n_9, x12] H11
noncomputable def Sh.gliderref13_used_l1 (H0 : AHeap) (rec1 : LK) (row_2 n_3 i_4 : AVal) (H5 : AHeap) : Out :=
 (lenStr row_2).bind fun x6 =>
 (binA .none .lss i_4 x6).bind fun x7 =>
 condA x7 (
 joinPt (fun j2 =>
 (idxStr row_2 i_4).bind fun x13 =>
 (binA .none .neq x13 (.int .u8 0)).bind fun x14 =>
 condA x14 (
 (binA .none .add i_4 (.int .i64 1)).bind fun x15 =>
 j2 [row_2, x15, i_4] H5) (
 j2 [row_2, n_3, i_4] H5)) (fun vs H => Sh.gliderref13_used_j2 H0 rec1 (ag vs 0) (ag vs 1) (ag vs 2) H)) (
 rK H0 n_3 H5)
noncomputable def Sh.gliderref13_used (row_1 : AVal) (H0 : AHeap) : Out :=
 loopGen (fun rec1 vs H => Sh.gliderref13_used_l1 H0 rec1 (ag vs 0) (ag vs 1) (ag vs 2) H) FUEL [row_1, (.int .i64 0), (.int .i64 0)] H0
noncomputable def Sh.gliderref13_token (n_1 sign_2 : AVal) (H0 : AHeap) : Out :=
 (binA .none .eql n_1 (.int .i64 1)).bind fun x3 =>
 condA x3 (
 rK H0 sign_2 H0) (
 bK H0 (Sh.gliderref02_Of n_1 H0) fun x4 H5 =>
 bK H0 (Sh.gliderref03_Text x4 H5) fun x6 H7 =>
 (binA .none .add x6 sign_2).bind fun x8 =>
 rK H0 x8 H7)
noncomputable def Sh.gliderref13_Sign (state_1 two_2 : AVal) (H0 : AHeap) : Out :=
 gk two_2 true (some state_1) fun x3 =>
 gk two_2 true (binA .none .eql x3 (.int .u8 0)) fun x4 =>
 (condV two_2 x4 (.bool false)).bind fun x5 =>
 condA x5 (
 rK H0 (.str [98]) H0) (
 gk two_2 true (some state_1) fun x6 =>
 gk two_2 true (binA .none .eql x6 (.int .u8 1)) fun x7 =>
 (condV two_2 x7 (.bool false)).bind fun x8 =>
 condA x8 (
 rK H0 (.str [111]) H0) (
 (binA .none .eql state_1 (.int .u8 0)).bind fun x9 =>
 condA x9 (
 rK H0 (.str [46]) H0) (
 (binA .none .leq state_1 (.int .u8 24)).bind fun x10 =>
 condA x10 (
 (binA .none .add (.int .u8 65) state_1).bind fun x11 =>
 (binA .none .sub x11 (.int .u8 1)).bind fun x12 =>
 (buildSl 1 [x12]).bind fun x13 =>
 (convToStr x13 H0).bind fun x14 =>
 rK H0 x14 H0) (
 (binA .none .sub state_1 (.int .u8 25)).bind fun x15 =>
 (binA .none .quo x15 (.int .u8 24)).bind fun x16 =>
 (binA .none .add (.int .u8 112) x16).bind fun x17 =>
 (binA .none .sub state_1 (.int .u8 25)).bind fun x18 =>
 (binA .none .rem x18 (.int .u8 24)).bind fun x19 =>
 (binA .none .add (.int .u8 65) x19).bind fun x20 =>
 (buildSl 1 [x17, x20]).bind fun x21 =>
 (convToStr x21 H0).bind fun x22 =>
 rK H0 x22 H0))))
noncomputable def Sh.gliderref13_Tokens_j2 (H0 : AHeap) (rec1 : LK) (x17 x18 x19 x20 x21 : AVal) (H22 : AHeap) : Out :=
 (binA .none .add x21 (.int .i64 1)).bind fun x23 =>
 rec1 [x17, x18, x19, x20, x23] H22
noncomputable def Sh.gliderref13_Tokens_l5 (H0 : AHeap) (rec4 : LK) (rec5 : LK) (x48 x49 x50 x51 x52 x53 x54 x55 x56 : AVal) (H57 : AHeap) : Out :=
 (binA .none .lss x56 x54).bind fun x58 =>
 gk x58 true (some x53) fun x59 =>
 gk x58 true (some x56) fun x60 =>
 gk x58 true (idxStr x59 x60) fun x61 =>
 gk x58 true (some x53) fun x62 =>
 gk x58 true (some x55) fun x63 =>
 gk x58 true (idxStr x62 x63) fun x64 =>
 gk x58 true (binA .none .eql x61 x64) fun x65 =>
 (condV x58 x65 (.bool false)).bind fun x66 =>
 condA x66 (
 (binA .none .add x56 (.int .i64 1)).bind fun x67 =>
 rec5 [x48, x49, x50, x51, x52, x53, x54, x55, x67] H57) (
 (binA .none .sub x56 x55).bind fun x68 =>
 (idxStr x53 x55).bind fun x69 =>
 bP H0 (Sh.gliderref13_Sign x69 x51 H57) fun x70 H71 =>
 bP H0 (Sh.gliderref13_token x68 x70 H71) fun x72 H73 =>
 (buildSl 1 [x72]).bind fun x74 =>
 bP H0 (retVH (appendA ty_string 1 16 x49 x74 H73)) fun x75 H76 =>
 rec4 [x48, x75, x50, x51, x52, x53, x54, x56] H76)
noncomputable def Sh.gliderref13_Tokens_l4 (H0 : AHeap) (j2 : LK) (rec4 : LK) (x38 x39 x40 x41 x42 x43 x44 x45 : AVal) (H46 : AHeap) : Out :=
 (binA .none .lss x45 x44).bind fun x47 =>
 condA x47 (
 loopGen (fun rec5 vs H => Sh.gliderref13_Tokens_l5 H0 rec4 rec5 (ag vs 0) (ag vs 1) (ag vs 2) (ag vs 3) (ag vs 4) (ag vs 5) (ag vs 6) (ag vs 7) (ag vs 8) H) FUEL [x38, x39, x40, x41, x42, x43, x44, x45, x45] H46) (
 j2 [x38, x39, x40, x41, x42] H46)
noncomputable def Sh.gliderref13_Tokens_j3 (H0 : AHeap) (j2 : LK) (x31 x32 x33 x34 x35 x36 : AVal) (H37 : AHeap) : Out :=
 loopGen (fun rec4 vs H => Sh.gliderref13_Tokens_l4 H0 j2 rec4 (ag vs 0) (ag vs 1) (ag vs 2) (ag vs 3) (ag vs 4) (ag vs 5) (ag vs 6) (ag vs 7) H) FUEL [x31, x32, x34, x33, x34, x35, x36, (.int .i64 0)] H37
noncomputable def Sh.gliderref13_Tokens_l1 (H0 : AHeap) (rec1 : LK) (x7 x8 x9 x10 x11 : AVal) (H12 : AHeap) : Out :=
 (fieldAddrA 4 x7).bind fun x13 =>
 (loadA false 1 x13 H12).bind fun x14 =>
 (lenSl x14).bind fun x15 =>
 (binA .none .lss x11 x15).bind fun x16 =>
 condA x16 (
 joinPt (fun j2 =>
 (fieldAddrA 4 x7).bind fun x24 =>
 (loadA false 1 x24 H12).bind fun x25 =>
 (idxSl 1 x25 x11).bind fun x26 =>
 (loadA false 1 x26 H12).bind fun x27 =>
 bP H0 (Sh.gliderref13_used x27 H12) fun x28 H29 =>
 (binA .none .eql x28 (.int .i64 0)).bind fun x30 =>
 condA x30 (
 j2 [x7, x8, x9, x10, x11] H29) (
 joinPt (fun j3 =>
 (binA .none .geq x9 (.int .i64 0)).bind fun x77 =>
 condA x77 (
 (binA .none .sub x11 x9).bind fun x78 =>
 bP H0 (Sh.gliderref13_token x78 (.str [36]) H29) fun x79 H80 =>
 (buildSl 1 [x79]).bind fun x81 =>
 bP H0 (retVH (appendA ty_string 1 16 x8 x81 H80)) fun x82 H83 =>
 j3 [x7, x82, x10, x11, x27, x28] H83) (
 j3 [x7, x8, x10, x11, x27, x28] H29)) (fun vs H => Sh.gliderref13_Tokens_j3 H0 j2 (ag vs 0) (ag vs 1) (ag vs 2) (ag vs 3) (ag vs 4) (ag vs 5) H))) (fun vs H => Sh.gliderref13_Tokens_j2 H0 rec1 (ag vs 0) (ag vs 1) (ag vs 2) (ag vs 3) (ag vs 4) H)) (
 (buildSl 1 [(.str [33])]).bind fun x84 =>
 bP H0 (retVH (appendA ty_string 1 16 x8 x84 H12)) fun x85 H86 =>
 rPN H0 x85 H86)
noncomputable def Sh.gliderref13_Tokens (x1 : AVal) (H0 : AHeap) : Out :=
 afterA (boxA true 5 x1 H0) fun x2 H3 =>
 (loadA true 5 x2 H3).bind fun x4 =>
 bP H0 (Sh.gliderref13_two x4 H3) fun x5 H6 =>
 loopGen (fun rec1 vs H => Sh.gliderref13_Tokens_l1 H0 rec1 (ag vs 0) (ag vs 1) (ag vs 2) (ag vs 3) (ag vs 4) H) FUEL [x2, (.sl [] .tight), (.int .i64 (-1)), x5, (.int .i64 0)] H6
noncomputable def Sh.gliderref13_wrap_j2 (H0 : AHeap) (rec1 : LK) (l_9 s_10 line_11 i_12 : AVal) (H13 : AHeap) : Out :=
 (idxSl 1 l_9 i_12).bind fun x14 =>
 (loadA false 1 x14 H13).bind fun x15 =>
 (binA .none .add line_11 x15).bind fun x16 =>
 (binA .none .add i_12 (.int .i64 1)).bind fun x17 =>
 rec1 [l_9, s_10, x16, x17] H13
noncomputable def Sh.gliderref13_wrap_l1 (H0 : AHeap) (rec1 : LK) (l_2 s_3 line_4 i_5 : AVal) (H6 : AHeap) : Out :=
 (lenSl l_2).bind fun x7 =>
 (binA .none .lss i_5 x7).bind fun x8 =>
 condA x8 (
 joinPt (fun j2 =>
 (lenStr line_4).bind fun x18 =>
 (idxSl 1 l_2 i_5).bind fun x19 =>
 (loadA false 1 x19 H6).bind fun x20 =>
 (lenStr x20).bind fun x21 =>
 (binA .none .add x18 x21).bind fun x22 =>
 (binA .none .gtr x22 (.int .i64 70)).bind fun x23 =>
 condA x23 (
 (binA .none .add s_3 line_4).bind fun x24 =>
 (binA .none .add x24 (.str [10])).bind fun x25 =>
 j2 [l_2, x25, (.str []), i_5] H6) (
 j2 [l_2, s_3, line_4, i_5] H6)) (fun vs H => Sh.gliderref13_wrap_j2 H0 rec1 (ag vs 0) (ag vs 1) (ag vs 2) (ag vs 3) H)) (
 (binA .none .add s_3 line_4).bind fun x26 =>
 (binA .none .add x26 (.str [10])).bind fun x27 =>
 rK H0 x27 H6)
noncomputable def Sh.gliderref13_wrap (l_1 : AVal) (H0 : AHeap) : Out :=
 loopGen (fun rec1 vs H => Sh.gliderref13_wrap_l1 H0 rec1 (ag vs 0) (ag vs 1) (ag vs 2) (ag vs 3) H) FUEL [l_1, (.str []), (.str []), (.int .i64 0)] H0
noncomputable def Sh.gliderref13_Text_j1 (H0 : AHeap) (x24 x25 x26 : AVal) (H27 : AHeap) : Out :=
 (fieldAddrA 0 x25).bind fun x28 =>
 bC (loadA true 2 x28 H27) (fun _ => True) fun x29 =>
 bindN (Sh.gliderref03_Text x29 H27) fun x30 H31 =>
 (fieldAddrA 2 x25).bind fun x32 =>
 bC (loadA true 2 x32 H31) (fun x33 => loadA true 2 x32 H27 = some x33 ∧ True) fun x33 =>
 bindN (Sh.gliderref03_Text x33 H31) fun x34 H35 =>
 (binA .none .add (.str [35, 67, 88, 82, 76, 69, 32, 80, 111, 115, 61]) x30).bind fun x36 =>
 (binA .none .add x36 (.str [44])).bind fun x37 =>
 (binA .none .add x37 x34).bind fun x38 =>
 (binA .none .add x38 (.str [10])).bind fun x39 =>
 bindN (Sh.gliderref02_Of x26 H35) fun x40 H41 =>
 bindN (Sh.gliderref03_Text x40 H41) fun x42 H43 =>
 (fieldAddrA 4 x25).bind fun x44 =>
 bC (loadA false 1 x44 H43) (fun x45 => loadA false 1 x44 H41 = some x45 ∧ loadA false 1 x44 H35 = some x45 ∧ True) fun x45 =>
 (lenSl x45).bind fun x46 =>
 bindN (Sh.gliderref02_Of x46 H43) fun x47 H48 =>
 bindN (Sh.gliderref03_Text x47 H48) fun x49 H50 =>
 (binA .none .add x39 (.str [120, 32, 61, 32])).bind fun x51 =>
 (binA .none .add x51 x42).bind fun x52 =>
 (binA .none .add x52 (.str [44, 32, 121, 32, 61, 32])).bind fun x53 =>
 (binA .none .add x53 x49).bind fun x54 =>
 (binA .none .add x54 (.str [44, 32, 114, 117, 108, 101, 32, 61, 32])).bind fun x55 =>
 (fieldAddrA 0 x24).bind fun x56 =>
 bC (loadA false 1 x56 H50) (fun x57 => loadA false 1 x56 H48 = some x57 ∧ loadA false 1 x56 H43 = some x57 ∧ loadA false 1 x56 H41 = some x57 ∧ loadA false 1 x56 H35 = some x57 ∧ True) fun x57 =>
 (binA .none .add x55 x57).bind fun x58 =>
 (binA .none .add x58 (.str [10])).bind fun x59 =>
 (loadA true 5 x25 H50).bind fun x60 =>
 bP H0 (Sh.gliderref13_Tokens x60 H50) fun x61 H62 =>
 bP H0 (Sh.gliderref13_wrap x61 H62) fun x63 H64 =>
 (binA .none .add x59 x63).bind fun x65 =>
 rP H0 (.tup [x65, (.int .i64 0)]) H64
noncomputable def Sh.gliderref13_Text (x1 x2 : AVal) (H0 : AHeap) : Out :=
 afterA (boxA true 2 x1 H0) fun x3 H4 =>
 afterA (boxA true 2 x2 H4) fun x5 H6 =>
 (loadA true 2 x3 H6).bind fun x7 =>
 (loadA true 2 x5 H6).bind fun x8 =>
 bP H0 (Sh.gliderref11_Check (.int .i64 4) x7 x8 H6) fun x9 H10 =>
 (binA .none .neq x9 (.int .i64 0)).bind fun x11 =>
 condA x11 (
 rP H0 (.tup [(.str []), x9]) H10) (
 (fieldAddrA 1 x3).bind fun x12 =>
 (loadA true 1 x12 H10).bind fun x13 =>
 (fieldAddrA 0 x5).bind fun x14 =>
 (loadA false 1 x14 H10).bind fun x15 =>
 bP H0 (Sh.gliderref10_Of x13 x15 H10) fun x16 H17 =>
 (extractA 0 x16).bind fun x18 =>
 (extractA 1 x16).bind fun x19 =>
 afterA (allocA (some [(.bool false), (.sl [] .tight), (.bool false), (.sl [] .tight), (.sl [] .tight)]) H17) fun x20 H21 =>
 bP H0 (retH (storeA 5 x20 x18 H21)) fun _ H23 =>
 joinPt (fun j1 =>
 (fieldAddrA 4 x20).bind fun x66 =>
 (loadA false 1 x66 H23).bind fun x67 =>
 (lenSl x67).bind fun x68 =>
 (binA .none .gtr x68 (.int .i64 0)).bind fun x69 =>
 condA x69 (
 (fieldAddrA 4 x20).bind fun x70 =>
 (loadA false 1 x70 H23).bind fun x71 =>
 (idxSl 1 x71 (.int .i64 0)).bind fun x72 =>
 (loadA false 1 x72 H23).bind fun x73 =>
 (lenStr x73).bind fun x74 =>
 j1 [x3, x20, x74] H23) (
 j1 [x3, x20, (.int .i64 0)] H23)) (fun vs H => Sh.gliderref13_Text_j1 H0 (ag vs 0) (ag vs 1) (ag vs 2) H))
noncomputable def Sh.gliderref06_Grow_j3 (H0 : AHeap) (rec2 : LK) (x41 x42 x43 x44 x45 : AVal) (H46 : AHeap) : Out :=
 (binA .none .add x45 (.int .i64 1)).bind fun x47 =>
 rec2 [x41, x42, x43, x44, x47] H46
noncomputable def Sh.gliderref06_Grow_l2 (H0 : AHeap) (rec1 : LK) (rec2 : LK) (x34 x35 x36 x37 x38 : AVal) (H39 : AHeap) : Out :=
 (binA .none .lss x38 (.int .i64 4)).bind fun x40 =>
 condA x40 (
 joinPt (fun j3 =>
 (binA .none .sub x36 (.int .i64 1)).bind fun x48 =>
 (idxSl 5 x35 x48).bind fun x49 =>
 (fieldAddrA 1 x49).bind fun x50 =>
 (idxArr 4 1 x50 x38).bind fun x51 =>
 (loadA false 1 x51 H39).bind fun x52 =>
 (binA .none .eql x52 (.int .i64 0)).bind fun x53 =>
 condA x53 (
 j3 [x34, x35, x36, x37, x38] H39) (
 (binA .none .sub x36 (.int .i64 1)).bind fun x54 =>
 (idxSl 5 x35 x54).bind fun x55 =>
 (fieldAddrA 0 x55).bind fun x56 =>
 (loadA false 1 x56 H39).bind fun x57 =>
 (buildA (some [(.int .i64 0), (.int .i64 0), (.int .i64 0), (.int .i64 0), (.int .i64 0)]) [(0, 1, x57)]).bind fun x58 =>
 afterA (allocA (some [(.int .i64 0), (.int .i64 0), (.int .i64 0), (.int .i64 0), (.int .i64 0)]) H39) fun x59 H60 =>
 bP H0 (retH (storeA 5 x59 x58 H60)) fun _ H62 =>
 (binA .none .sub (.int .i64 3) x38).bind fun x63 =>
 (fieldAddrA 1 x59).bind fun x64 =>
 (idxArr 4 1 x64 x63).bind fun x65 =>
 bP H0 (retH (storeA 1 x65 x52 H62)) fun _ H67 =>
 (loadA true 5 x59 H67).bind fun x68 =>
 (buildSl 5 [x68]).bind fun x69 =>
 bP H0 (retVH (appendA ty_api_Node 5 40 x35 x69 H67)) fun x70 H71 =>
 (lenSl x70).bind fun x72 =>
 (fieldAddrA 1 x37).bind fun x73 =>
 (idxArr 4 1 x73 x38).bind fun x74 =>
 bP H0 (retH (storeA 1 x74 x72 H71)) fun _ H76 =>
 j3 [x34, x70, x36, x37, x38] H76)) (fun vs H => Sh.gliderref06_Grow_j3 H0 rec2 (ag vs 0) (ag vs 1) (ag vs 2) (ag vs 3) (ag vs 4) H)) (
 (loadA true 5 x37 H39).bind fun x77 =>
 (buildSl 5 [x77]).bind fun x78 =>
 bP H0 (retVH (appendA ty_api_Node 5 40 x35 x78 H39)) fun x79 H80 =>
 (lenSl x79).bind fun x81 =>
 rec1 [x34, x79, x81] H80)
noncomputable def Sh.gliderref06_Grow_l1 (H0 : AHeap) (rec1 : LK) (x15 x16 x17 : AVal) (H18 : AHeap) : Out :=
 (binA .none .sub x17 (.int .i64 1)).bind fun x19 =>
 (idxSl 5 x16 x19).bind fun x20 =>
 (fieldAddrA 0 x20).bind fun x21 =>
 (loadA false 1 x21 H18).bind fun x22 =>
 (binA .none .lss x22 x15).bind fun x23 =>
 condA x23 (
 (binA .none .sub x17 (.int .i64 1)).bind fun x24 =>
 (idxSl 5 x16 x24).bind fun x25 =>
 (fieldAddrA 0 x25).bind fun x26 =>
 (loadA false 1 x26 H18).bind fun x27 =>
 (binA .none .add x27 (.int .i64 1)).bind fun x28 =>
 (buildA (some [(.int .i64 0), (.int .i64 0), (.int .i64 0), (.int .i64 0), (.int .i64 0)]) [(0, 1, x28)]).bind fun x29 =>
 afterA (allocA (some [(.int .i64 0), (.int .i64 0), (.int .i64 0), (.int .i64 0), (.int .i64 0)]) H18) fun x30 H31 =>
 bP H0 (retH (storeA 5 x30 x29 H31)) fun _ H33 =>
 loopGen (fun rec2 vs H => Sh.gliderref06_Grow_l2 H0 rec1 rec2 (ag vs 0) (ag vs 1) (ag vs 2) (ag vs 3) (ag vs 4) H) FUEL [x15, x16, x17, x30, (.int .i64 0)] H33) (
 rPN H0 (.tup [x16, x17]) H18)
noncomputable def Sh.gliderref06_Grow (x1 x2 : AVal) (H0 : AHeap) : Out :=
 afterA (boxA true 1 x1 H0) fun x3 H4 =>
 (buildSl 5 []).bind fun x5 =>
 (fieldAddrA 0 x3).bind fun x6 =>
 (loadA false 1 x6 H4).bind fun x7 =>
 bP H0 (retVH (appendA ty_api_Node 5 40 x5 x7 H4)) fun x8 H9 =>
 (lenSl x8).bind fun x10 =>
 (binA .none .gtr x2 (.int .i64 1329)).bind fun x11 =>
 gk x11 false (some x10) fun x12 =>
 gk x11 false (binA .none .eql x12 (.int .i64 0)) fun x13 =>
 (condV x11 (.bool true) x13).bind fun x14 =>
 condA x14 (
 rPN H0 (.tup [x8, x10]) H9) (
 loopGen (fun rec1 vs H => Sh.gliderref06_Grow_l1 H0 rec1 (ag vs 0) (ag vs 1) (ag vs 2) H) FUEL [x2, x8, x10] H9)
noncomputable def Sh.gliderref14_on_l1 (H0 : AHeap) (self : AVal → AVal → AVal → AVal → AHeap → Out) (rec1 : LK) (l_6 n_7 x8 y_9 half_10 k_11 : AVal) (H12 : AHeap) : Out :=
 (binA .none .sub n_7 (.int .i64 1)).bind fun x13 =>
 (idxSl 5 l_6 x13).bind fun x14 =>
 (fieldAddrA 0 x14).bind fun x15 =>
 (loadA false 1 x15 H12).bind fun x16 =>
 (binA .none .lss k_11 x16).bind fun x17 =>
 condA x17 (
 (binA .none .mul half_10 (.int .i64 2)).bind fun x18 =>
 (binA .none .add k_11 (.int .i64 1)).bind fun x19 =>
 rec1 [l_6, n_7, x8, y_9, x18, x19] H12) (
 (binA .none .sub n_7 (.int .i64 1)).bind fun x20 =>
 (binA .none .quo y_9 half_10).bind fun x21 =>
 (binA .none .mul (.int .i64 2) x21).bind fun x22 =>
 (binA .none .quo x8 half_10).bind fun x23 =>
 (binA .none .add x22 x23).bind fun x24 =>
 (idxSl 5 l_6 x20).bind fun x25 =>
 (fieldAddrA 1 x25).bind fun x26 =>
 (idxArr 4 1 x26 x24).bind fun x27 =>
 bC (loadA false 1 x27 H12) (fun _ => True) fun x28 =>
 (binA .none .sub n_7 (.int .i64 1)).bind fun x29 =>
 (idxSl 5 l_6 x29).bind fun x30 =>
 (fieldAddrA 0 x30).bind fun x31 =>
 (loadA false 1 x31 H12).bind fun x32 =>
 (binA .none .eql x32 (.int .i64 1)).bind fun x33 =>
 condA x33 (
 (binA .none .gtr x28 (.int .i64 0)).bind fun x34 =>
 rK H0 x34 H12) (
 (binA .none .rem x8 half_10).bind fun x35 =>
 (binA .none .rem y_9 half_10).bind fun x36 =>
 bindN (self l_6 x28 x35 x36 H12) fun x37 H38 =>
 rK H0 x37 H38))
noncomputable def Sh.gliderref14_on_F (self : AVal → AVal → AVal → AVal → AHeap → Out) (l_1 n_2 x3 y_4 : AVal) (H0 : AHeap) : Out :=
 (binA .none .eql n_2 (.int .i64 0)).bind fun x5 =>
 condA x5 (
 rK H0 (.bool false) H0) (
 loopGen (fun rec1 vs H => Sh.gliderref14_on_l1 H0 self rec1 (ag vs 0) (ag vs 1) (ag vs 2) (ag vs 3) (ag vs 4) (ag vs 5) H) FUEL [l_1, n_2, x3, y_4, (.int .i64 1), (.int .i64 1)] H0)
noncomputable def Sh.gliderref14_on : Nat → AVal → AVal → AVal → AVal → AHeap → Out
  | 0 => fun _ _ _ _ _ => none
  | d + 1 => Sh.gliderref14_on_F (Sh.gliderref14_on d)
noncomputable def Sh.gliderref14_Leaf_j2 (H0 : AHeap) (rec1 : LK) (l_10 n_11 s_12 last_13 y_14 : AVal) (H15 : AHeap) : Out :=
 (binA .none .add y_14 (.int .i64 1)).bind fun x16 =>
 rec1 [l_10, n_11, s_12, last_13, x16] H15
noncomputable def Sh.gliderref14_Leaf_j4 (H0 : AHeap) (rec3 : LK) (l_27 n_28 s_29 last_30 y_31 row_32 used_33 x34 : AVal) (H35 : AHeap) : Out :=
 (binA .none .add x34 (.int .i64 1)).bind fun x36 =>
 rec3 [l_27, n_28, s_29, last_30, y_31, row_32, used_33, x36] H35
noncomputable def Sh.gliderref14_Leaf_l3 (H0 : AHeap) (j2 : LK) (rec3 : LK) (l_17 n_18 s_19 last_20 y_21 row_22 used_23 x24 : AVal) (H25 : AHeap) : Out :=
 (binA .none .lss x24 (.int .i64 8)).bind fun x26 =>
 condA x26 (
 joinPt (fun j4 =>
 bK H0 (Sh.gliderref14_on FUEL l_17 n_18 x24 y_21 H25) fun x37 H38 =>
 condA x37 (
 (binA .none .add row_22 (.str [42])).bind fun x39 =>
 (lenStr x39).bind fun x40 =>
 j4 [l_17, n_18, s_19, last_20, y_21, x39, x40, x24] H38) (
 (binA .none .add row_22 (.str [46])).bind fun x41 =>
 j4 [l_17, n_18, s_19, last_20, y_21, x41, used_23, x24] H38)) (fun vs H => Sh.gliderref14_Leaf_j4 H0 rec3 (ag vs 0) (ag vs 1) (ag vs 2) (ag vs 3) (ag vs 4) (ag vs 5) (ag vs 6) (ag vs 7) H)) (
 (sliceStr row_22 none (some used_23)).bind fun x42 =>
 (binA .none .add s_19 x42).bind fun x43 =>
 (binA .none .add x43 (.str [36])).bind fun x44 =>
 (binA .none .gtr used_23 (.int .i64 0)).bind fun x45 =>
 condA x45 (
 (lenStr x44).bind fun x46 =>
 j2 [l_17, n_18, x44, x46, y_21] H25) (
 j2 [l_17, n_18, x44, last_20, y_21] H25))
noncomputable def Sh.gliderref14_Leaf_l1 (H0 : AHeap) (rec1 : LK) (l_3 n_4 s_5 last_6 y_7 : AVal) (H8 : AHeap) : Out :=
 (binA .none .lss y_7 (.int .i64 8)).bind fun x9 =>
 condA x9 (
 joinPt (fun j2 =>
 loopGen (fun rec3 vs H => Sh.gliderref14_Leaf_l3 H0 j2 rec3 (ag vs 0) (ag vs 1) (ag vs 2) (ag vs 3) (ag vs 4) (ag vs 5) (ag vs 6) (ag vs 7) H) FUEL [l_3, n_4, s_5, last_6, y_7, (.str []), (.int .i64 0), (.int .i64 0)] H8) (fun vs H => Sh.gliderref14_Leaf_j2 H0 rec1 (ag vs 0) (ag vs 1) (ag vs 2) (ag vs 3) (ag vs 4) H)) (
 (sliceStr s_5 none (some last_6)).bind fun x47 =>
 rK H0 x47 H8)
noncomputable def Sh.gliderref14_Leaf (l_1 n_2 : AVal) (H0 : AHeap) : Out :=
 loopGen (fun rec1 vs H => Sh.gliderref14_Leaf_l1 H0 rec1 (ag vs 0) (ag vs 1) (ag vs 2) (ag vs 3) (ag vs 4) H) FUEL [l_1, n_2, (.str []), (.int .i64 0), (.int .i64 0)] H0
noncomputable def Sh.gliderref14_number (n_1 : AVal) (H0 : AHeap) : Out :=
 bK H0 (Sh.gliderref02_Of n_1 H0) fun x2 H3 =>
 bK H0 (Sh.gliderref03_Text x2 H3) fun x4 H5 =>
 rK H0 x4 H5
noncomputable def Sh.gliderref14_lines_j2 (H0 : AHeap) (rec1 : LK) (x40 x41 x42 x43 x44 : AVal) (H45 : AHeap) : Out :=
 (binA .none .add x44 (.int .i64 1)).bind fun x46 =>
 rec1 [x40, x41, x42, x43, x46] H45
noncomputable def Sh.gliderref14_lines_j4 (H0 : AHeap) (rec3 : LK) (x72 x73 x74 x75 x76 x77 x78 x79 : AVal) (H80 : AHeap) : Out :=
 (binA .none .add x77 (.str [32])).bind fun x81 =>
 bP H0 (Sh.gliderref14_number x79 H80) fun x82 H83 =>
 (binA .none .add x81 x82).bind fun x84 =>
 (binA .none .add x78 (.int .i64 1)).bind fun x85 =>
 rec3 [x72, x73, x74, x75, x76, x84, x85] H83
noncomputable def Sh.gliderref14_lines_j5 (H0 : AHeap) (j2 : LK) (x92 x93 x94 x95 x96 x97 : AVal) (H98 : AHeap) : Out :=
 (buildSl 1 [x97]).bind fun x99 =>
 bP H0 (retVH (appendA ty_string 1 16 x94 x99 H98)) fun x100 H101 =>
 (binA .none .add x96 (.int .i64 1)).bind fun x102 =>
 (lenSl x100).bind fun x103 =>
 (idxSl 1 x95 x102).bind fun x104 =>
 bP H0 (retH (storeA 1 x104 x103 H101)) fun _ H106 =>
 j2 [x92, x93, x100, x95, x96] H106
noncomputable def Sh.gliderref14_lines_l3 (H0 : AHeap) (j2 : LK) (rec3 : LK) (x59 x60 x61 x62 x63 x64 x65 : AVal) (H66 : AHeap) : Out :=
 (binA .none .lss x65 (.int .i64 4)).bind fun x67 =>
 condA x67 (
 (idxSl 5 x59 x63).bind fun x68 =>
 (fieldAddrA 1 x68).bind fun x69 =>
 (idxArr 4 1 x69 x65).bind fun x70 =>
 (loadA false 1 x70 H66).bind fun x71 =>
 joinPt (fun j4 =>
 (idxSl 5 x59 x63).bind fun x86 =>
 (fieldAddrA 0 x86).bind fun x87 =>
 (loadA false 1 x87 H66).bind fun x88 =>
 (binA .none .gtr x88 (.int .i64 1)).bind fun x89 =>
 condA x89 (
 (idxSl 1 x62 x71).bind fun x90 =>
 (loadA false 1 x90 H66).bind fun x91 =>
 j4 [x59, x60, x61, x62, x63, x64, x65, x91] H66) (
 j4 [x59, x60, x61, x62, x63, x64, x65, x71] H66)) (fun vs H => Sh.gliderref14_lines_j4 H0 rec3 (ag vs 0) (ag vs 1) (ag vs 2) (ag vs 3) (ag vs 4) (ag vs 5) (ag vs 6) (ag vs 7) H)) (
 joinPt (fun j5 =>
 gk x60 true (some x59) fun x107 =>
 gk x60 true (some x63) fun x108 =>
 gk x60 true (idxSl 5 x107 x108) fun x109 =>
 gk x60 true (fieldAddrA 0 x109) fun x110 =>
 gk x60 true (loadA false 1 x110 H66) fun x111 =>
 gk x60 true (binA .none .eql x111 (.int .i64 3)) fun x112 =>
 (condV x60 x112 (.bool false)).bind fun x113 =>
 condA x113 (
 (binA .none .add x63 (.int .i64 1)).bind fun x114 =>
 bP H0 (Sh.gliderref14_Leaf x59 x114 H66) fun x115 H116 =>
 j5 [x59, x60, x61, x62, x63, x115] H116) (
 j5 [x59, x60, x61, x62, x63, x64] H66)) (fun vs H => Sh.gliderref14_lines_j5 H0 j2 (ag vs 0) (ag vs 1) (ag vs 2) (ag vs 3) (ag vs 4) (ag vs 5) H))
noncomputable def Sh.gliderref14_lines_l1 (H0 : AHeap) (rec1 : LK) (x32 x33 x34 x35 x36 : AVal) (H37 : AHeap) : Out :=
 (lenSl x32).bind fun x38 =>
 (binA .none .lss x36 x38).bind fun x39 =>
 condA x39 (
 joinPt (fun j2 =>
 gk x33 true (some x32) fun x47 =>
 gk x33 true (some x36) fun x48 =>
 gk x33 true (idxSl 5 x47 x48) fun x49 =>
 gk x33 true (fieldAddrA 0 x49) fun x50 =>
 gk x33 true (loadA false 1 x50 H37) fun x51 =>
 gk x33 true (binA .none .lss x51 (.int .i64 3)) fun x52 =>
 (condV x33 x52 (.bool false)).bind fun x53 =>
 condA x53 (
 j2 [x32, x33, x34, x35, x36] H37) (
 (idxSl 5 x32 x36).bind fun x54 =>
 (fieldAddrA 0 x54).bind fun x55 =>
 (loadA false 1 x55 H37).bind fun x56 =>
 bP H0 (Sh.gliderref14_number x56 H37) fun x57 H58 =>
 loopGen (fun rec3 vs H => Sh.gliderref14_lines_l3 H0 j2 rec3 (ag vs 0) (ag vs 1) (ag vs 2) (ag vs 3) (ag vs 4) (ag vs 5) (ag vs 6) H) FUEL [x32, x33, x34, x35, x36, x57, (.int .i64 0)] H58)) (fun vs H => Sh.gliderref14_lines_j2 H0 rec1 (ag vs 0) (ag vs 1) (ag vs 2) (ag vs 3) (ag vs 4) H)) (
 rPN H0 x34 H37)
noncomputable def Sh.gliderref14_lines (x1 : AVal) (H0 : AHeap) : Out :=
 afterA (boxA true 1 x1 H0) fun x2 H3 =>
 (fieldAddrA 0 x2).bind fun x4 =>
 (loadA false 1 x4 H3).bind fun x5 =>
 (loadA true 1 x2 H3).bind fun x6 =>
 bP H0 (Sh.gliderref08_Most x6 H3) fun x7 H8 =>
 (binA .none .leq x7 (.int .u8 1)).bind fun x9 =>
 gk x9 true (loadA true 1 x2 H8) fun x10 =>
 gbP H0 x9 true H8 (Sh.gliderref05_Level x10 H8) fun x11 H12 =>
 gk x9 true (binA .none .gtr x11 (.int .i64 0)) fun x13 =>
 (condV x9 x13 (.bool false)).bind fun x14 =>
 gk x14 true (loadA true 1 x2 H12) fun x15 =>
 gbP H0 x14 true H12 (Sh.gliderref05_Level x15 H12) fun x16 H17 =>
 gk x14 true (binA .none .lss x16 (.int .i64 3)) fun x18 =>
 (condV x14 x18 (.bool false)).bind fun x19 =>
 condA x19 (
 (loadA true 1 x2 H17).bind fun x20 =>
 bP H0 (Sh.gliderref06_Grow x20 (.int .i64 3) H17) fun x21 H22 =>
 (extractA 0 x21).bind fun x23 =>
 (extractA 1 x21).bind fun x24 =>
 bP H0 (Sh.gliderref14_Leaf x23 x24 H22) fun x25 H26 =>
 (buildSl 1 [x25]).bind fun x27 =>
 rPN H0 x27 H26) (
 (lenSl x5).bind fun x28 =>
 (binA .none .add x28 (.int .i64 1)).bind fun x29 =>
 afterA (makeA 1 8 (some [(.int .i64 0)]) x29 x29 H17) fun x30 H31 =>
 loopGen (fun rec1 vs H => Sh.gliderref14_lines_l1 H0 rec1 (ag vs 0) (ag vs 1) (ag vs 2) (ag vs 3) (ag vs 4) H) FUEL [x5, x9, (.sl [] .tight), x30, (.int .i64 0)] H31)
noncomputable def Sh.gliderref14_Text_l1 (H0 : AHeap) (rec1 : LK) (s_16 l_17 i_18 : AVal) (H19 : AHeap) : Out :=
 (lenSl l_17).bind fun x20 =>
 (binA .none .lss i_18 x20).bind fun x21 =>
 condA x21 (
 (idxSl 1 l_17 i_18).bind fun x22 =>
 (loadA false 1 x22 H19).bind fun x23 =>
 (binA .none .add s_16 x23).bind fun x24 =>
 (binA .none .add x24 (.str [10])).bind fun x25 =>
 (binA .none .add i_18 (.int .i64 1)).bind fun x26 =>
 rec1 [x25, l_17, x26] H19) (
 rP H0 (.tup [s_16, (.int .i64 0)]) H19)
noncomputable def Sh.gliderref14_Text (p_1 : AVal) (H0 : AHeap) : Out :=
 afterA (boxA true 2 p_1 H0) fun p_2 H3 =>
 (loadA true 2 p_2 H3).bind fun x4 =>
 bP H0 (Sh.gliderref11_Right x4 H3) fun x5 H6 =>
 (unA .not x5).bind fun x7 =>
 condA x7 (
 rP H0 (.tup [(.str []), (.int .i64 1)]) H6) (
 (fieldAddrA 0 p_2).bind fun x8 =>
 (loadA false 1 x8 H6).bind fun x9 =>
 (binA .none .add (.str [91, 77, 50, 93, 32, 40, 103, 108, 105, 100, 101, 114, 41, 10, 35, 82, 32]) x9).bind fun x10 =>
 (binA .none .add x10 (.str [10])).bind fun x11 =>
 (fieldAddrA 1 p_2).bind fun x12 =>
 (loadA true 1 x12 H6).bind fun x13 =>
 bP H0 (Sh.gliderref14_lines x13 H6) fun x14 H15 =>
 loopGen (fun rec1 vs H => Sh.gliderref14_Text_l1 H0 rec1 (ag vs 0) (ag vs 1) (ag vs 2) H) FUEL [x11, x14, (.int .i64 0)] H15)
noncomputable def Sh.gliderlaw20_SniffWritten (x1 x2 : AVal) (H0 : AHeap) : Out :=
 bP H0 (Sh.gliderlaw20_alive H0) fun x3 H4 =>
 (unA .not x3).bind fun x5 =>
 condA x5 (
 rP H0 (.bool false) H4) (
 (buildA (some [(.int .i64 0), (.int .i64 0)]) [(0, 1, (.int .i64 60)), (1, 1, (.int .i64 100000))]).bind fun x6 =>
 afterA (allocA (some [(.int .i64 0), (.int .i64 0)]) H4) fun x7 H8 =>
 bP H0 (retH (storeA 2 x7 x6 H8)) fun _ H10 =>
 bP H0 (Sh.gliderref11_Of x1 x2 (.int .i64 30) H10) fun x11 H12 =>
 (extractA 0 x11).bind fun x13 =>
 (extractA 1 x11).bind fun x14 =>
 afterA (allocA (some [(.str []), (.sl [] .tight)]) H12) fun x15 H16 =>
 bP H0 (retH (storeA 2 x15 x13 H16)) fun _ H18 =>
 (unA .not x14).bind fun x19 =>
 gk x19 false (some x1) fun x20 =>
 gk x19 false (lenStr x20) fun x21 =>
 gk x19 false (binA .none .gtr x21 (.int .i64 100)) fun x22 =>
 (condV x19 (.bool true) x22).bind fun x23 =>
 condA x23 (
 rP H0 (.bool true) H18) (
 (loadA true 2 x15 H18).bind fun x24 =>
 (loadA true 2 x7 H18).bind fun x25 =>
 bP H0 (Sh.gliderref12_Plain x24 x25 H18) fun x26 H27 =>
 (extractA 0 x26).bind fun x28 =>
 (extractA 1 x26).bind fun x29 =>
 (loadA true 2 x15 H27).bind fun x30 =>
 (loadA true 2 x7 H27).bind fun x31 =>
 bP H0 (Sh.gliderref12_Life5 x30 x31 H27) fun x32 H33 =>
 (extractA 0 x32).bind fun x34 =>
 (extractA 1 x32).bind fun x35 =>
 (loadA true 2 x15 H33).bind fun x36 =>
 (loadA true 2 x7 H33).bind fun x37 =>
 bP H0 (Sh.gliderref12_Life6 x36 x37 H33) fun x38 H39 =>
 (extractA 0 x38).bind fun x40 =>
 (extractA 1 x38).bind fun x41 =>
 (loadA true 2 x15 H39).bind fun x42 =>
 (loadA true 2 x7 H39).bind fun x43 =>
 bP H0 (Sh.gliderref13_Text x42 x43 H39) fun x44 H45 =>
 (extractA 0 x44).bind fun x46 =>
 (extractA 1 x44).bind fun x47 =>
 (loadA true 2 x15 H45).bind fun x48 =>
 bP H0 (Sh.gliderref14_Text x48 H45) fun x49 H50 =>
 (extractA 0 x49).bind fun x51 =>
 (extractA 1 x49).bind fun x52 =>
 (binA .none .neq x29 (.int .i64 0)).bind fun x53 =>
 gk x53 false (some x28) fun x54 =>
 gbP H0 x53 false H50 (Sh.sniff_Of x54 H50) fun x55 H56 =>
 gk x53 false (binA .none .eql x55 (.int .i64 1)) fun x57 =>
 (condV x53 (.bool true) x57).bind fun x58 =>
 gk x58 true (some x35) fun x59 =>
 gk x58 true (binA .none .neq x59 (.int .i64 0)) fun x60 =>
 gk x58 true (some x60) fun x61 =>
 gk x61 false (some x34) fun x62 =>
 gbP H0 x61 false H56 (Sh.sniff_Of x62 H56) fun x63 H64 =>
 gk x61 false (binA .none .eql x63 (.int .i64 2)) fun x65 =>
 gk x58 true (condV x61 (.bool true) x65) fun x66 =>
 (condV x58 x66 (.bool false)).bind fun x67 =>
 gk x67 true (some x41) fun x68 =>
 gk x67 true (binA .none .neq x68 (.int .i64 0)) fun x69 =>
 gk x67 true (some x69) fun x70 =>
 gk x70 false (some x40) fun x71 =>
 gbP H0 x70 false H64 (Sh.sniff_Of x71 H64) fun x72 H73 =>
 gk x70 false (binA .none .eql x72 (.int .i64 3)) fun x74 =>
 gk x67 true (condV x70 (.bool true) x74) fun x75 =>
 (condV x67 x75 (.bool false)).bind fun x76 =>
 gk x76 true (some x47) fun x77 =>
 gk x76 true (binA .none .neq x77 (.int .i64 0)) fun x78 =>
 gk x76 true (some x78) fun x79 =>
 gk x79 false (some x46) fun x80 =>
 gbP H0 x79 false H73 (Sh.sniff_Of x80 H73) fun x81 H82 =>
 gk x79 false (binA .none .eql x81 (.int .i64 4)) fun x83 =>
 gk x76 true (condV x79 (.bool true) x83) fun x84 =>
 (condV x76 x84 (.bool false)).bind fun x85 =>
 gk x85 true (some x52) fun x86 =>
 gk x85 true (binA .none .eql x86 (.int .i64 0)) fun x87 =>
 (condV x85 x87 (.bool false)).bind fun x88 =>
 gk x88 true (some x51) fun x89 =>
 gbP H0 x88 true H82 (Sh.sniff_Of x89 H82) fun x90 H91 =>
 gk x88 true (binA .none .eql x90 (.int .i64 5)) fun x92 =>
 (condV x88 x92 (.bool false)).bind fun x93 =>
 rP H0 x93 H91))
end Go.Gm
/- The forms are what the evaluator comes to; so they are what the functions come to. -/
namespace Go.Gm
open Go.Proofs
set_option maxRecDepth 100000
theorem mixed : Try.prog.follows .mixedOrders = true := by kernel_rfl
noncomputable def orc_stringslite_HasPrefix : Orc := noO
theorem tie_stringslite_HasPrefix : T2 Try.prog Gs false orc_stringslite_HasPrefix Try.f35 (.two .leaf (.two .leaf .leaf)) .keep Sh.stringslite_HasPrefix := by unfold T2; intros; kernel_rfl
theorem call_stringslite_HasPrefix : FnOk Try.prog Gs 35 (ap2 Sh.stringslite_HasPrefix) := fn_ok2 mixed (orc_no _ _) Try.func35 (by kernel_rfl) tie_stringslite_HasPrefix
noncomputable def orc_strings_HasPrefix : Orc := (ent 35 (ap2 Sh.stringslite_HasPrefix) noO)
theorem tie_strings_HasPrefix : T2 Try.prog Gs false orc_strings_HasPrefix Try.f19 (.two .leaf (.two .leaf .leaf)) .keep Sh.strings_HasPrefix := by unfold T2; intros; kernel_rfl
theorem call_strings_HasPrefix : FnOk Try.prog Gs 19 (ap2 Sh.strings_HasPrefix) := fn_ok2 mixed ((orc_ent call_stringslite_HasPrefix (orc_no _ _))) Try.func19 (by kernel_rfl) tie_strings_HasPrefix
noncomputable def orc_sniff_Of : Orc := (ent 19 (ap2 Sh.strings_HasPrefix) noO)
theorem tie_sniff_Of : T1 Try.prog Gs false orc_sniff_Of Try.f7 (.two .leaf (.two (.two .leaf (.one (.loop [0, 10, 11, 12] (.two .leaf (.two (.two .leaf .leaf) (.two (.one (.two .leaf (.two .leaf (.two (.two .leaf .leaf) .leaf)))) .leaf)))))) (.two (.two .leaf (.one (.loop [24] (.two .leaf (.two (.two .leaf .leaf) (.one (.two .leaf (.two (.two .leaf (.one (.join [28, 29] (.two .leaf (.two .leaf .leaf)) (.two (.two .leaf .leaf) (.join [32] (.two .leaf (.two .leaf (.two .leaf (.two .leaf (.two .leaf (.two .leaf (.two .leaf (.two .leaf .leaf)))))))) (.two (.two .leaf .leaf) .leaf)))))) .leaf)))))))) (.two .leaf .leaf)))) .pure Sh.sniff_Of := by unfold T1; intros; kernel_rfl
theorem call_sniff_Of : FnOk Try.prog Gs 7 (ap1 Sh.sniff_Of) := fn_ok1 mixed ((orc_ent call_strings_HasPrefix (orc_no _ _))) Try.func7 (by kernel_rfl) tie_sniff_Of
noncomputable def orc_sniff_names : Orc := noO
theorem tie_sniff_names : T0 Try.prog Gs false orc_sniff_names Try.f21 (.two .leaf (.two .leaf .leaf)) .pure Sh.sniff_names := by unfold T0; intros; kernel_rfl
theorem call_sniff_names : FnOk Try.prog Gs 21 (ap0 Sh.sniff_names) := fn_ok0 mixed (orc_no _ _) Try.func21 (by kernel_rfl) tie_sniff_names
noncomputable def orc_sniff_Name : Orc := (ent 21 (ap0 Sh.sniff_names) noO)
theorem tie_sniff_Name : T1 Try.prog Gs false orc_sniff_Name Try.f9 (.two .leaf (.two (.two .leaf (.two (.two .leaf .leaf) .leaf)) (.two .leaf .leaf))) .keep Sh.sniff_Name := by unfold T1; intros; kernel_rfl
theorem call_sniff_Name : FnOk Try.prog Gs 9 (ap1 Sh.sniff_Name) := fn_ok1 mixed ((orc_ent call_sniff_names (orc_no _ _))) Try.func9 (by kernel_rfl) tie_sniff_Name
noncomputable def orc_sniff_Named : Orc := (ent 21 (ap0 Sh.sniff_names) noO)
theorem tie_sniff_Named : T1 Try.prog Gs false orc_sniff_Named Try.f11 (.two .leaf (.two (.two .leaf (.one (.loop [0, 5, 6] (.two .leaf (.two (.two .leaf .leaf) (.two (.one (.two .leaf (.two .leaf (.two (.two .leaf .leaf) .leaf)))) .leaf)))))) (.two .leaf .leaf))) .keep Sh.sniff_Named := by unfold T1; intros; kernel_rfl
theorem call_sniff_Named : FnOk Try.prog Gs 11 (ap1 Sh.sniff_Named) := fn_ok1 mixed ((orc_ent call_sniff_names (orc_no _ _))) Try.func11 (by kernel_rfl) tie_sniff_Named
noncomputable def orc_gliderlaw20_alive : Orc := (ent 7 (ap1 Sh.sniff_Of) (ent 9 (ap1 Sh.sniff_Name) (ent 11 (ap1 Sh.sniff_Named) noO)))
theorem tie_gliderlaw20_alive : T0 Try.prog Gs false orc_gliderlaw20_alive Try.f6 (.two .leaf (.two .leaf .leaf)) .keep Sh.gliderlaw20_alive := by unfold T0; intros; kernel_rfl
theorem call_gliderlaw20_alive : FnOk Try.prog Gs 6 (ap0 Sh.gliderlaw20_alive) := fn_ok0 mixed ((orc_ent call_sniff_Of ((orc_ent call_sniff_Name ((orc_ent call_sniff_Named (orc_no _ _))))))) Try.func6 (by kernel_rfl) tie_gliderlaw20_alive
noncomputable def orc_gliderref20_begins : Orc := noO
theorem tie_gliderref20_begins : T2 Try.prog Gs false orc_gliderref20_begins Try.f20 (.two .leaf (.two .leaf .leaf)) .keep Sh.gliderref20_begins := by unfold T2; intros; kernel_rfl
theorem call_gliderref20_begins : FnOk Try.prog Gs 20 (ap2 Sh.gliderref20_begins) := fn_ok2 mixed (orc_no _ _) Try.func20 (by kernel_rfl) tie_gliderref20_begins
noncomputable def orc_gliderref20_Of : Orc := (ent 20 (ap2 Sh.gliderref20_begins) noO)
theorem tie_gliderref20_Of : T1 Try.prog Gs false orc_gliderref20_Of Try.f8 (.two .leaf (.two (.one (.two .leaf (.two (.two .leaf .leaf) (.two .leaf (.two (.two .leaf .leaf) (.two .leaf (.two (.two .leaf .leaf) (.two .leaf (.two (.two .leaf .leaf) (.two .leaf (.two (.two .leaf .leaf) .leaf))))))))))) (.two .leaf .leaf))) .keep Sh.gliderref20_Of := by unfold T1; intros; kernel_rfl
theorem call_gliderref20_Of : FnOk Try.prog Gs 8 (ap1 Sh.gliderref20_Of) := fn_ok1 mixed ((orc_ent call_gliderref20_begins (orc_no _ _))) Try.func8 (by kernel_rfl) tie_gliderref20_Of
noncomputable def orc_gliderref20_names : Orc := noO
theorem tie_gliderref20_names : T0 Try.prog Gs false orc_gliderref20_names Try.f22 (.two .leaf (.two .leaf .leaf)) .keepN Sh.gliderref20_names := by unfold T0; intros; kernel_rfl
theorem call_gliderref20_names : FnOk Try.prog Gs 22 (ap0 Sh.gliderref20_names) := fn_ok0 mixed (orc_no _ _) Try.func22 (by kernel_rfl) tie_gliderref20_names
noncomputable def orc_gliderref20_Name : Orc := (ent 22 (ap0 Sh.gliderref20_names) noO)
theorem tie_gliderref20_Name : T1 Try.prog Gs false orc_gliderref20_Name Try.f10 (.two .leaf (.two (.two .leaf (.two (.two .leaf .leaf) .leaf)) (.two .leaf .leaf))) .keep Sh.gliderref20_Name := by unfold T1; intros; kernel_rfl
theorem call_gliderref20_Name : FnOk Try.prog Gs 10 (ap1 Sh.gliderref20_Name) := fn_ok1 mixed ((orc_ent call_gliderref20_names (orc_no _ _))) Try.func10 (by kernel_rfl) tie_gliderref20_Name
noncomputable def orc_gliderref20_Named : Orc := (ent 22 (ap0 Sh.gliderref20_names) noO)
theorem tie_gliderref20_Named : T1 Try.prog Gs false orc_gliderref20_Named Try.f12 (.two .leaf (.two .leaf (.two (.two .leaf (.one (.loop [0, 3, 4] (.two (.two .leaf (.two .leaf .leaf)) (.two (.one (.two .leaf (.two (.two .leaf .leaf) .leaf))) .leaf))))) (.two .leaf .leaf)))) .keep Sh.gliderref20_Named := by unfold T1; intros; kernel_rfl
theorem call_gliderref20_Named : FnOk Try.prog Gs 12 (ap1 Sh.gliderref20_Named) := fn_ok1 mixed ((orc_ent call_gliderref20_names (orc_no _ _))) Try.func12 (by kernel_rfl) tie_gliderref20_Named
noncomputable def orc_gliderlaw20_SniffTells : Orc := (ent 6 (ap0 Sh.gliderlaw20_alive) (ent 7 (ap1 Sh.sniff_Of) (ent 8 (ap1 Sh.gliderref20_Of) (ent 9 (ap1 Sh.sniff_Name) (ent 10 (ap1 Sh.gliderref20_Name) (ent 11 (ap1 Sh.sniff_Named) (ent 12 (ap1 Sh.gliderref20_Named) noO)))))))
theorem tie_gliderlaw20_SniffTells : T2 Try.prog Gs false orc_gliderlaw20_SniffTells Try.f3 (.two .leaf (.two (.two .leaf (.two (.two .leaf .leaf) .leaf)) (.two .leaf .leaf))) .keep Sh.gliderlaw20_SniffTells := by unfold T2; intros; kernel_rfl
theorem call_gliderlaw20_SniffTells : FnOk Try.prog Gs 3 (ap2 Sh.gliderlaw20_SniffTells) := fn_ok2 mixed ((orc_ent call_gliderlaw20_alive ((orc_ent call_sniff_Of ((orc_ent call_gliderref20_Of ((orc_ent call_sniff_Name ((orc_ent call_gliderref20_Name ((orc_ent call_sniff_Named ((orc_ent call_gliderref20_Named (orc_no _ _))))))))))))))) Try.func3 (by kernel_rfl) tie_gliderlaw20_SniffTells
noncomputable def orc_gliderlaw20_SniffTen : Orc := (ent 6 (ap0 Sh.gliderlaw20_alive) (ent 7 (ap1 Sh.sniff_Of) noO))
theorem tie_gliderlaw20_SniffTen : T2 Try.prog Gs false orc_gliderlaw20_SniffTen Try.f4 (.two .leaf (.two (.two .leaf (.two (.two .leaf .leaf) .leaf)) (.two (.two .leaf (.two (.two .leaf .leaf) .leaf)) (.two (.reg [0, 1, 2, 3, 4, 5, 6, 7, 8, 9, 10, 11, 12, 13, 14, 15, 16, 17, 18]) .leaf)))) .keep Sh.gliderlaw20_SniffTen := by unfold T2; intros; kernel_rfl
theorem call_gliderlaw20_SniffTen : FnOk Try.prog Gs 4 (ap2 Sh.gliderlaw20_SniffTen) := fn_ok2 mixed ((orc_ent call_gliderlaw20_alive ((orc_ent call_sniff_Of (orc_no _ _))))) Try.func4 (by kernel_rfl) tie_gliderlaw20_SniffTen
noncomputable def orc_gliderref07_Great : Orc := noO
theorem tie_gliderref07_Great : T2 Try.prog Gs false orc_gliderref07_Great Try.f36 (.two .leaf (.two (.two .leaf (.two (.two .leaf .leaf) .leaf)) (.two (.two .leaf (.one (.loop [0, 5] (.two (.two .leaf (.two .leaf .leaf)) (.two (.one (.two .leaf (.two (.two .leaf .leaf) .leaf))) .leaf))))) (.two .leaf .leaf)))) .keep Sh.gliderref07_Great := by unfold T2; intros; kernel_rfl
theorem call_gliderref07_Great : FnOk Try.prog Gs 36 (ap2 Sh.gliderref07_Great) := fn_ok2 mixed (orc_no _ _) Try.func36 (by kernel_rfl) tie_gliderref07_Great
noncomputable def orc_gliderref01_Right : Orc := noO
theorem tie_gliderref01_Right : T1 Try.prog Gs false orc_gliderref01_Right Try.f84 (.two .leaf (.two .leaf .leaf)) .keep Sh.gliderref01_Right := by unfold T1; intros; kernel_rfl
theorem call_gliderref01_Right : FnOk Try.prog Gs 84 (ap1 Sh.gliderref01_Right) := fn_ok1 mixed (orc_no _ _) Try.func84 (by kernel_rfl) tie_gliderref01_Right
noncomputable def orc_gliderref02_Right : Orc := (ent 84 (ap1 Sh.gliderref01_Right) noO)
theorem tie_gliderref02_Right : T1 Try.prog Gs false orc_gliderref02_Right Try.f65 (.two .leaf (.two .leaf .leaf)) .pure Sh.gliderref02_Right := by unfold T1; intros; kernel_rfl
theorem call_gliderref02_Right : FnOk Try.prog Gs 65 (ap1 Sh.gliderref02_Right) := fn_ok1 mixed ((orc_ent call_gliderref01_Right (orc_no _ _))) Try.func65 (by kernel_rfl) tie_gliderref02_Right
noncomputable def orc_gliderref01_cut : Orc := noO
theorem tie_gliderref01_cut : T1 Try.prog Gs false orc_gliderref01_cut Try.f95 (.two .leaf (.two (.one (.loop [0] (.two (.two .leaf (.two .leaf .leaf)) (.one .leaf)))) (.two .leaf .leaf))) .keepN Sh.gliderref01_cut := by unfold T1; intros; kernel_rfl
theorem call_gliderref01_cut : FnOk Try.prog Gs 95 (ap1 Sh.gliderref01_cut) := fn_ok1 mixed (orc_no _ _) Try.func95 (by kernel_rfl) tie_gliderref01_cut
noncomputable def orc_gliderref01_Bits : Orc := (ent 95 (ap1 Sh.gliderref01_cut) noO)
theorem tie_gliderref01_Bits : T1 Try.prog Gs false orc_gliderref01_Bits Try.f87 (.two .leaf (.two .leaf (.two (.two .leaf (.one (.loop [0, 3, 4] (.two (.two .leaf (.two .leaf .leaf)) (.two (.one (.two .leaf (.two .leaf (.one (.loop [0, 3, 4, 5, 6] (.two (.two .leaf (.two .leaf .leaf)) (.two (.one .leaf) .leaf))))))) .leaf))))) (.two .leaf .leaf)))) .pureN Sh.gliderref01_Bits := by unfold T1; intros; kernel_rfl
theorem call_gliderref01_Bits : FnOk Try.prog Gs 87 (ap1 Sh.gliderref01_Bits) := fn_ok1 mixed ((orc_ent call_gliderref01_cut (orc_no _ _))) Try.func87 (by kernel_rfl) tie_gliderref01_Bits
noncomputable def orc_gliderref01_Of : Orc := (ent 95 (ap1 Sh.gliderref01_cut) noO)
theorem tie_gliderref01_Of : T1 Try.prog Gs false orc_gliderref01_Of Try.f89 (.two .leaf (.two .leaf (.two .leaf (.two (.two .leaf (.one (.loop [0, 3, 4] (.two (.two .leaf (.two .leaf .leaf)) (.two (.one (.two .leaf (.two (.two .leaf (.one (.loop [0, 3, 4, 5, 6, 7] (.two (.two .leaf (.two .leaf .leaf)) (.two (.one (.join [0, 3, 4, 5, 6, 7] (.two .leaf (.two .leaf .leaf)) .leaf)) .leaf))))) .leaf))) .leaf))))) (.two .leaf .leaf))))) .pureN Sh.gliderref01_Of := by unfold T1; intros; kernel_rfl
theorem call_gliderref01_Of : FnOk Try.prog Gs 89 (ap1 Sh.gliderref01_Of) := fn_ok1 mixed ((orc_ent call_gliderref01_cut (orc_no _ _))) Try.func89 (by kernel_rfl) tie_gliderref01_Of
noncomputable def orc_gliderref01_Norm : Orc := (ent 87 (ap1 Sh.gliderref01_Bits) (ent 89 (ap1 Sh.gliderref01_Of) noO))
theorem tie_gliderref01_Norm : T1 Try.prog Gs false orc_gliderref01_Norm Try.f75 (.two .leaf (.two .leaf .leaf)) .keepN Sh.gliderref01_Norm := by unfold T1; intros; kernel_rfl
theorem call_gliderref01_Norm : FnOk Try.prog Gs 75 (ap1 Sh.gliderref01_Norm) := fn_ok1 mixed ((orc_ent call_gliderref01_Bits ((orc_ent call_gliderref01_Of (orc_no _ _))))) Try.func75 (by kernel_rfl) tie_gliderref01_Norm
noncomputable def orc_gliderref02_sign : Orc := (ent 75 (ap1 Sh.gliderref01_Norm) noO)
theorem tie_gliderref02_sign : T2 Try.prog Gs false orc_gliderref02_sign Try.f55 (.two .leaf (.two .leaf (.two .leaf .leaf))) .pureN Sh.gliderref02_sign := by unfold T2; intros; kernel_rfl
theorem call_gliderref02_sign : FnOk Try.prog Gs 55 (ap2 Sh.gliderref02_sign) := fn_ok2 mixed ((orc_ent call_gliderref01_Norm (orc_no _ _))) Try.func55 (by kernel_rfl) tie_gliderref02_sign
noncomputable def orc_gliderref02_Minus : Orc := (ent 55 (ap2 Sh.gliderref02_sign) noO)
theorem tie_gliderref02_Minus : T1 Try.prog Gs false orc_gliderref02_Minus Try.f50 (.two .leaf (.two .leaf .leaf)) .pureN Sh.gliderref02_Minus := by unfold T1; intros; kernel_rfl
theorem call_gliderref02_Minus : FnOk Try.prog Gs 50 (ap1 Sh.gliderref02_Minus) := fn_ok1 mixed ((orc_ent call_gliderref02_sign (orc_no _ _))) Try.func50 (by kernel_rfl) tie_gliderref02_Minus
noncomputable def orc_gliderref01_at : Orc := noO
theorem tie_gliderref01_at : T2 Try.prog Gs false orc_gliderref01_at Try.f88 (.two .leaf (.two .leaf .leaf)) .keep Sh.gliderref01_at := by unfold T2; intros; kernel_rfl
theorem call_gliderref01_at : FnOk Try.prog Gs 88 (ap2 Sh.gliderref01_at) := fn_ok2 mixed (orc_no _ _) Try.func88 (by kernel_rfl) tie_gliderref01_at
noncomputable def orc_gliderref01_Add : Orc := (ent 87 (ap1 Sh.gliderref01_Bits) (ent 88 (ap2 Sh.gliderref01_at) (ent 89 (ap1 Sh.gliderref01_Of) noO)))
theorem tie_gliderref01_Add : T2 Try.prog Gs false orc_gliderref01_Add Try.f73 (.two .leaf (.two .leaf (.two .leaf (.two .leaf (.two (.two .leaf (.one (.loop [5, 6, 7, 8, 9] (.two (.two .leaf (.two .leaf .leaf)) (.two (.one (.two .leaf (.join [5, 6, 7, 8, 9, 10] (.two .leaf (.two .leaf .leaf)) (.join [5, 6, 7, 8, 9, 10] (.two .leaf (.two .leaf .leaf)) (.join [5, 6, 7, 9, 10] (.two .leaf (.two .leaf .leaf)) .leaf))))) .leaf))))) (.two .leaf .leaf)))))) .pureN Sh.gliderref01_Add := by unfold T2; intros; kernel_rfl
theorem call_gliderref01_Add : FnOk Try.prog Gs 73 (ap2 Sh.gliderref01_Add) := fn_ok2 mixed ((orc_ent call_gliderref01_Bits ((orc_ent call_gliderref01_at ((orc_ent call_gliderref01_Of (orc_no _ _))))))) Try.func73 (by kernel_rfl) tie_gliderref01_Add
end Go.Gm
/- The forms are what the evaluator comes to; so they are what the functions come to. -/
namespace Go.Gm
open Go.Proofs
set_option maxRecDepth 100000
noncomputable def orc_gliderref01_Cmp : Orc := (ent 87 (ap1 Sh.gliderref01_Bits) (ent 88 (ap2 Sh.gliderref01_at) noO))
theorem tie_gliderref01_Cmp : T2 Try.prog Gs false orc_gliderref01_Cmp Try.f90 (.two .leaf (.two .leaf (.two (.two .leaf (.one (.loop [5, 6, 7] (.two (.two .leaf (.two .leaf .leaf)) (.two (.one (.two .leaf (.two (.two (.two .leaf (.two (.two .leaf .leaf) .leaf)) (.two .leaf .leaf)) .leaf))) .leaf))))) (.two .leaf .leaf)))) .keep Sh.gliderref01_Cmp := by unfold T2; intros; kernel_rfl
theorem call_gliderref01_Cmp : FnOk Try.prog Gs 90 (ap2 Sh.gliderref01_Cmp) := fn_ok2 mixed ((orc_ent call_gliderref01_Bits ((orc_ent call_gliderref01_at (orc_no _ _))))) Try.func90 (by kernel_rfl) tie_gliderref01_Cmp
noncomputable def orc_gliderref01_Sub : Orc := (ent 90 (ap2 Sh.gliderref01_Cmp) (ent 87 (ap1 Sh.gliderref01_Bits) (ent 88 (ap2 Sh.gliderref01_at) (ent 89 (ap1 Sh.gliderref01_Of) noO))))
theorem tie_gliderref01_Sub : T2 Try.prog Gs false orc_gliderref01_Sub Try.f74 (.two .leaf (.two (.two .leaf (.two (.two .leaf .leaf) .leaf)) (.two .leaf (.two .leaf (.two .leaf (.two (.two .leaf (.one (.loop [6, 7, 8, 9, 10] (.two (.two .leaf (.two .leaf .leaf)) (.two (.one (.two .leaf (.join [6, 7, 8, 10, 11] (.two .leaf (.two .leaf .leaf)) (.join [6, 7, 8, 10, 11] (.two .leaf (.two .leaf .leaf)) (.two .leaf (.join [6, 7, 8, 9, 10, 11] (.two .leaf (.two .leaf .leaf)) .leaf)))))) .leaf))))) (.two .leaf .leaf))))))) .pureN Sh.gliderref01_Sub := by unfold T2; intros; kernel_rfl
theorem call_gliderref01_Sub : FnOk Try.prog Gs 74 (ap2 Sh.gliderref01_Sub) := fn_ok2 mixed ((orc_ent call_gliderref01_Cmp ((orc_ent call_gliderref01_Bits ((orc_ent call_gliderref01_at ((orc_ent call_gliderref01_Of (orc_no _ _))))))))) Try.func74 (by kernel_rfl) tie_gliderref01_Sub
noncomputable def orc_gliderref02_Add : Orc := (ent 73 (ap2 Sh.gliderref01_Add) (ent 55 (ap2 Sh.gliderref02_sign) (ent 74 (ap2 Sh.gliderref01_Sub) noO)))
theorem tie_gliderref02_Add : T2 Try.prog Gs false orc_gliderref02_Add Try.f46 (.two .leaf (.two (.two .leaf (.two (.two (.reg [2, 3, 4, 5, 6, 0, 1, 7, 8]) .leaf) .leaf)) (.two .leaf (.two (.two .leaf (.two (.two .leaf .leaf) .leaf)) (.two .leaf (.two .leaf .leaf)))))) .pureN Sh.gliderref02_Add := by unfold T2; intros; kernel_rfl
theorem call_gliderref02_Add : FnOk Try.prog Gs 46 (ap2 Sh.gliderref02_Add) := fn_ok2 mixed ((orc_ent call_gliderref01_Add ((orc_ent call_gliderref02_sign ((orc_ent call_gliderref01_Sub (orc_no _ _))))))) Try.func46 (by kernel_rfl) tie_gliderref02_Add
noncomputable def orc_gliderref02_Sub : Orc := (ent 50 (ap1 Sh.gliderref02_Minus) (ent 46 (ap2 Sh.gliderref02_Add) noO))
theorem tie_gliderref02_Sub : T2 Try.prog Gs false orc_gliderref02_Sub Try.f70 (.two .leaf (.two (.reg [1, 2, 0, 3, 4]) .leaf)) .pureN Sh.gliderref02_Sub := by unfold T2; intros; kernel_rfl
theorem call_gliderref02_Sub : FnOk Try.prog Gs 70 (ap2 Sh.gliderref02_Sub) := fn_ok2 mixed ((orc_ent call_gliderref02_Minus ((orc_ent call_gliderref02_Add (orc_no _ _))))) Try.func70 (by kernel_rfl) tie_gliderref02_Sub
noncomputable def orc_gliderref02_Cmp : Orc := (ent 70 (ap2 Sh.gliderref02_Sub) noO)
theorem tie_gliderref02_Cmp : T2 Try.prog Gs false orc_gliderref02_Cmp Try.f48 (.two .leaf (.two .leaf (.two (.one (.two .leaf (.two (.two .leaf .leaf) (.two .leaf (.two (.two .leaf .leaf) .leaf))))) (.two .leaf .leaf)))) .pure Sh.gliderref02_Cmp := by unfold T2; intros; kernel_rfl
theorem call_gliderref02_Cmp : FnOk Try.prog Gs 48 (ap2 Sh.gliderref02_Cmp) := fn_ok2 mixed ((orc_ent call_gliderref02_Sub (orc_no _ _))) Try.func48 (by kernel_rfl) tie_gliderref02_Cmp
noncomputable def orc_gliderref07_order : Orc := (ent 48 (ap2 Sh.gliderref02_Cmp) noO)
theorem tie_gliderref07_order : T2 Try.prog Gs false orc_gliderref07_order Try.f78 (.two .leaf (.two .leaf (.two (.two .leaf (.two (.two .leaf .leaf) .leaf)) (.two .leaf .leaf)))) .pure Sh.gliderref07_order := by unfold T2; intros; kernel_rfl
theorem call_gliderref07_order : FnOk Try.prog Gs 78 (ap2 Sh.gliderref07_order) := fn_ok2 mixed ((orc_ent call_gliderref02_Cmp (orc_no _ _))) Try.func78 (by kernel_rfl) tie_gliderref07_order
noncomputable def orc_gliderref07_Last : Orc := (ent 78 (ap2 Sh.gliderref07_order) noO)
theorem tie_gliderref07_Last : T1 Try.prog Gs false orc_gliderref07_Last Try.f53 (.two .leaf (.two .leaf (.two (.two .leaf (.one (.loop [0, 3, 4] (.two (.two .leaf (.two .leaf .leaf)) (.two (.one (.two .leaf (.two (.one (.loop [0, 3, 4, 5] (.two (.two (.reg [0, 1, 2, 3, 4, 5, 6, 7, 8, 9, 10, 11, 12, 13, 14, 15]) (.two .leaf .leaf)) (.one .leaf)))) (.two (.reg [0, 1, 2, 3, 4, 5, 6, 7, 8, 9, 10, 11, 12, 13, 14, 15, 16]) (.two .leaf (.join [0, 3, 4, 5, 7] (.two .leaf (.two .leaf .leaf)) (.reg [0, 1, 2, 3, 4, 5, 6, 7, 8, 9, 10, 11, 12]))))))) .leaf))))) (.two .leaf (.two (.two .leaf (.one (.loop [3, 8, 9] (.two (.two .leaf (.two .leaf .leaf)) (.join [3, 8, 9] (.one (.two .leaf (.two .leaf .leaf))) .leaf))))) (.two .leaf .leaf)))))) .pureN Sh.gliderref07_Last := by unfold T1; intros; kernel_rfl
theorem call_gliderref07_Last : FnOk Try.prog Gs 53 (ap1 Sh.gliderref07_Last) := fn_ok1 mixed ((orc_ent call_gliderref07_order (orc_no _ _))) Try.func53 (by kernel_rfl) tie_gliderref07_Last
noncomputable def orc_gliderref02_Of : Orc := (ent 55 (ap2 Sh.gliderref02_sign) noO)
theorem tie_gliderref02_Of : T1 Try.prog Gs false orc_gliderref02_Of Try.f30 (.two .leaf (.two .leaf (.join [0, 2, 3] (.two .leaf (.two .leaf .leaf)) (.two .leaf .leaf)))) .pureN Sh.gliderref02_Of := by unfold T1; intros; kernel_rfl
theorem call_gliderref02_Of : FnOk Try.prog Gs 30 (ap1 Sh.gliderref02_Of) := fn_ok1 mixed ((orc_ent call_gliderref02_sign (orc_no _ _))) Try.func30 (by kernel_rfl) tie_gliderref02_Of
noncomputable def orc_gliderref01_Shl : Orc := (ent 87 (ap1 Sh.gliderref01_Bits) (ent 89 (ap1 Sh.gliderref01_Of) noO))
theorem tie_gliderref01_Shl : T2 Try.prog Gs false orc_gliderref01_Shl Try.f91 (.two .leaf (.two (.two .leaf (.two (.two .leaf .leaf) .leaf)) (.two (.reg [2, 3, 0, 1, 4, 5, 6]) .leaf))) .pureN Sh.gliderref01_Shl := by unfold T2; intros; kernel_rfl
theorem call_gliderref01_Shl : FnOk Try.prog Gs 91 (ap2 Sh.gliderref01_Shl) := fn_ok2 mixed ((orc_ent call_gliderref01_Bits ((orc_ent call_gliderref01_Of (orc_no _ _))))) Try.func91 (by kernel_rfl) tie_gliderref01_Shl
noncomputable def orc_gliderref02_Shl : Orc := (ent 91 (ap2 Sh.gliderref01_Shl) (ent 55 (ap2 Sh.gliderref02_sign) noO))
theorem tie_gliderref02_Shl : T2 Try.prog Gs false orc_gliderref02_Shl Try.f77 (.two .leaf (.two (.reg [2, 3, 4, 5, 0, 1, 6, 7]) .leaf)) .pureN Sh.gliderref02_Shl := by unfold T2; intros; kernel_rfl
theorem call_gliderref02_Shl : FnOk Try.prog Gs 77 (ap2 Sh.gliderref02_Shl) := fn_ok2 mixed ((orc_ent call_gliderref01_Shl ((orc_ent call_gliderref02_sign (orc_no _ _))))) Try.func77 (by kernel_rfl) tie_gliderref02_Shl
noncomputable def orc_gliderref02_Pow : Orc := (ent 30 (ap1 Sh.gliderref02_Of) (ent 77 (ap2 Sh.gliderref02_Shl) noO))
theorem tie_gliderref02_Pow : T1 Try.prog Gs false orc_gliderref02_Pow Try.f51 (.two .leaf (.two .leaf .leaf)) .pureN Sh.gliderref02_Pow := by unfold T1; intros; kernel_rfl
theorem call_gliderref02_Pow : FnOk Try.prog Gs 51 (ap1 Sh.gliderref02_Pow) := fn_ok1 mixed ((orc_ent call_gliderref02_Of ((orc_ent call_gliderref02_Shl (orc_no _ _))))) Try.func51 (by kernel_rfl) tie_gliderref02_Pow
noncomputable def orc_gliderref07_within : Orc := (ent 51 (ap1 Sh.gliderref02_Pow) (ent 50 (ap1 Sh.gliderref02_Minus) (ent 48 (ap2 Sh.gliderref02_Cmp) noO)))
theorem tie_gliderref07_within : T2 Try.prog Gs false orc_gliderref07_within Try.f66 (.two .leaf (.two .leaf (.two .leaf (.two .leaf .leaf)))) .pure Sh.gliderref07_within := by unfold T2; intros; kernel_rfl
theorem call_gliderref07_within : FnOk Try.prog Gs 66 (ap2 Sh.gliderref07_within) := fn_ok2 mixed ((orc_ent call_gliderref02_Pow ((orc_ent call_gliderref02_Minus ((orc_ent call_gliderref02_Cmp (orc_no _ _))))))) Try.func66 (by kernel_rfl) tie_gliderref07_within
noncomputable def orc_gliderref07_place (m : Nat) : Orc := ent 67 (ap5 (Sh.gliderref07_place m)) (ent 51 (ap1 Sh.gliderref02_Pow) (ent 48 (ap2 Sh.gliderref02_Cmp) (ent 46 (ap2 Sh.gliderref02_Add) noO)))
theorem tie_gliderref07_place (m : Nat) : T5 Try.prog Gs false (orc_gliderref07_place m) Try.f67 (.two .leaf (.two (.two .leaf (.two (.two .leaf .leaf) .leaf)) (.two .leaf (.two .leaf (.two (.two .leaf (.one (.loop [0, 1, 4, 7, 8, 12, 13, 14] (.two (.two .leaf (.two .leaf .leaf)) (.join [0, 1, 4, 7, 8, 12, 13, 14] (.one (.two (.reg [0, 2, 3, 4, 1, 5]) (.join [0, 1, 4, 7, 8, 12, 13, 14, 15, 16] (.two .leaf (.two .leaf .leaf)) (.join [0, 1, 4, 7, 8, 12, 13, 14, 15, 16] (.two .leaf (.two .leaf .leaf)) (.two .leaf (.two (.two .leaf (.one (.loop [0, 1, 4, 7, 8, 12, 13, 14, 15, 16, 17, 18] (.two (.two .leaf (.two .leaf .leaf)) (.join [0, 1, 4, 7, 8, 12, 13, 14, 15, 16, 17, 18] (.one (.two (.reg [0, 1, 2, 3, 4, 5, 6, 7, 8, 14, 15, 16, 9, 10, 11, 12, 13, 17, 18, 19, 20, 21, 22, 23, 24, 25, 26, 27, 28, 29, 30, 36, 37, 38, 31, 32, 33, 34, 35, 39, 40, 41]) (.two .leaf .leaf))) .leaf))))) (.join [0, 1, 4, 7, 8, 12, 13, 14, 15, 16, 17] (.two .leaf (.two .leaf .leaf)) (.two .leaf (.two .leaf .leaf))))))))) .leaf))))) (.two .leaf (.two .leaf .leaf))))))) .keep (Sh.gliderref07_place (m + 1)) := by unfold T5; intros; kernel_rfl
theorem call_gliderref07_place : ∀ m, FnOk Try.prog Gs 67 (ap5 (Sh.gliderref07_place m))
  | 0 => none_ok5 fun _ _ _ _ _ _ => rfl
  | m + 1 => fn_ok5 mixed (orc_ent (call_gliderref07_place m) ((orc_ent call_gliderref02_Pow ((orc_ent call_gliderref02_Cmp ((orc_ent call_gliderref02_Add (orc_no _ _)))))))) Try.func67 (by kernel_rfl) (tie_gliderref07_place m)
noncomputable def orc_gliderref05_Loose : Orc := noO
theorem tie_gliderref05_Loose : T1 Try.prog Gs false orc_gliderref05_Loose Try.f79 (.two .leaf (.two (.two .leaf (.one (.loop [0, 3] (.two (.two .leaf (.two .leaf .leaf)) (.two (.one (.two (.two .leaf (.two (.two .leaf .leaf) .leaf)) (.two .leaf (.one (.loop [0, 3, 4] (.two (.two .leaf (.two .leaf .leaf)) (.two (.one (.two .leaf (.two (.two .leaf (.two (.two .leaf .leaf) .leaf)) (.two (.reg [0, 1, 2, 3, 4, 5, 6, 7, 8, 9, 10, 11, 12, 13, 14, 15, 16, 17, 18, 19, 20, 21, 22, 23, 24, 25, 26, 27, 28, 29]) (.two (.two .leaf .leaf) .leaf))))) .leaf))))))) .leaf))))) (.two .leaf .leaf))) .keep Sh.gliderref05_Loose := by unfold T1; intros; kernel_rfl
theorem call_gliderref05_Loose : FnOk Try.prog Gs 79 (ap1 Sh.gliderref05_Loose) := fn_ok1 mixed (orc_no _ _) Try.func79 (by kernel_rfl) tie_gliderref05_Loose
noncomputable def orc_gliderref05_Empties : Orc := noO
theorem tie_gliderref05_Empties : T1 Try.prog Gs false orc_gliderref05_Empties Try.f81 (.two .leaf (.two .leaf (.two .leaf (.two (.two .leaf (.one (.loop [0, 3, 4] (.two (.two .leaf (.two .leaf .leaf)) (.two (.one (.two .leaf (.two (.two .leaf (.one (.loop [0, 3, 4, 5, 6] (.two (.two .leaf (.two .leaf .leaf)) (.two (.one (.two .leaf .leaf)) .leaf))))) .leaf))) .leaf))))) (.two .leaf .leaf))))) .pureN Sh.gliderref05_Empties := by unfold T1; intros; kernel_rfl
theorem call_gliderref05_Empties : FnOk Try.prog Gs 81 (ap1 Sh.gliderref05_Empties) := fn_ok1 mixed (orc_no _ _) Try.func81 (by kernel_rfl) tie_gliderref05_Empties
noncomputable def orc_gliderref05_Empty : Orc := (ent 81 (ap1 Sh.gliderref05_Empties) noO)
theorem tie_gliderref05_Empty : T2 Try.prog Gs false orc_gliderref05_Empty Try.f92 (.two .leaf (.two .leaf .leaf)) .keep Sh.gliderref05_Empty := by unfold T2; intros; kernel_rfl
theorem call_gliderref05_Empty : FnOk Try.prog Gs 92 (ap2 Sh.gliderref05_Empty) := fn_ok2 mixed ((orc_ent call_gliderref05_Empties (orc_no _ _))) Try.func92 (by kernel_rfl) tie_gliderref05_Empty
noncomputable def orc_gliderref05_Hollow : Orc := (ent 81 (ap1 Sh.gliderref05_Empties) noO)
theorem tie_gliderref05_Hollow : T2 Try.prog Gs false orc_gliderref05_Hollow Try.f80 (.two .leaf (.two (.two .leaf (.two (.two .leaf .leaf) .leaf)) (.two .leaf (.two (.two .leaf (.one (.loop [0, 1, 5, 6] (.two (.two .leaf (.two .leaf .leaf)) (.two (.one (.two .leaf (.two .leaf (.one (.loop [0, 1, 5, 6, 7, 8] (.two (.two .leaf (.two .leaf .leaf)) (.two (.one (.two .leaf (.two .leaf (.two (.two .leaf .leaf) .leaf)))) .leaf))))))) .leaf))))) (.two .leaf .leaf))))) .keep Sh.gliderref05_Hollow := by unfold T2; intros; kernel_rfl
theorem call_gliderref05_Hollow : FnOk Try.prog Gs 80 (ap2 Sh.gliderref05_Hollow) := fn_ok2 mixed ((orc_ent call_gliderref05_Empties (orc_no _ _))) Try.func80 (by kernel_rfl) tie_gliderref05_Hollow
noncomputable def orc_gliderref05_Inner : Orc := noO
theorem tie_gliderref05_Inner : T3 Try.prog Gs false orc_gliderref05_Inner Try.f93 (.two .leaf (.two .leaf (.two (.two .leaf (.two (.two .leaf .leaf) .leaf)) (.two .leaf .leaf)))) .keep Sh.gliderref05_Inner := by unfold T3; intros; kernel_rfl
theorem call_gliderref05_Inner : FnOk Try.prog Gs 93 (ap3 Sh.gliderref05_Inner) := fn_ok3 mixed (orc_no _ _) Try.func93 (by kernel_rfl) tie_gliderref05_Inner
noncomputable def orc_gliderref06_Shrink : Orc := (ent 92 (ap2 Sh.gliderref05_Empty) (ent 80 (ap2 Sh.gliderref05_Hollow) (ent 93 (ap3 Sh.gliderref05_Inner) noO)))
theorem tie_gliderref06_Shrink : T2 Try.prog Gs false orc_gliderref06_Shrink Try.f85 (.two .leaf (.two .leaf (.two (.two .leaf (.two (.two .leaf .leaf) .leaf)) (.two (.one (.loop [1, 6] (.two (.two .leaf (.two .leaf .leaf)) (.one (.two .leaf (.two (.two .leaf (.one (.loop [1, 6, 7, 8] (.two (.two .leaf (.two .leaf .leaf)) (.two (.one .leaf) .leaf))))) (.two .leaf .leaf))))))) (.two .leaf .leaf))))) .pureN Sh.gliderref06_Shrink := by unfold T2; intros; kernel_rfl
theorem call_gliderref06_Shrink : FnOk Try.prog Gs 85 (ap2 Sh.gliderref06_Shrink) := fn_ok2 mixed ((orc_ent call_gliderref05_Empty ((orc_ent call_gliderref05_Hollow ((orc_ent call_gliderref05_Inner (orc_no _ _))))))) Try.func85 (by kernel_rfl) tie_gliderref06_Shrink
noncomputable def orc_gliderref06_find : Orc := noO
theorem tie_gliderref06_find : T2 Try.prog Gs false orc_gliderref06_find Try.f94 (.two .leaf (.two (.two .leaf (.one (.loop [0, 3, 5] (.two (.two .leaf (.two .leaf .leaf)) (.two (.one (.two (.reg [0, 1, 2, 3, 4, 5]) (.two (.two .leaf .leaf) .leaf))) .leaf))))) (.two .leaf .leaf))) .pure Sh.gliderref06_find := by unfold T2; intros; kernel_rfl
theorem call_gliderref06_find : FnOk Try.prog Gs 94 (ap2 Sh.gliderref06_find) := fn_ok2 mixed (orc_no _ _) Try.func94 (by kernel_rfl) tie_gliderref06_find
noncomputable def orc_gliderref06_visit (m : Nat) : Orc := ent 86 (ap5 (Sh.gliderref06_visit m)) (ent 94 (ap2 Sh.gliderref06_find) noO)
theorem tie_gliderref06_visit (m : Nat) : T5 Try.prog Gs false (orc_gliderref06_visit m) Try.f86 (.two .leaf (.two (.two .leaf (.two (.two .leaf .leaf) .leaf)) (.two (.two .leaf (.two (.two (.reg [0, 1, 2, 3, 4, 5, 6, 7, 8]) .leaf) .leaf)) (.two .leaf (.two (.two .leaf (.one (.loop [0, 1, 2, 3, 4, 13, 14] (.two (.two .leaf (.two .leaf .leaf)) (.two (.one .leaf) .leaf))))) (.two .leaf (.join [2, 3, 4, 15] (.two .leaf (.two (.two .leaf .leaf) .leaf)) (.two .leaf (.two .leaf .leaf))))))))) .keep (Sh.gliderref06_visit (m + 1)) := by unfold T5; intros; kernel_rfl
theorem call_gliderref06_visit : ∀ m, FnOk Try.prog Gs 86 (ap5 (Sh.gliderref06_visit m))
  | 0 => none_ok5 fun _ _ _ _ _ _ => rfl
  | m + 1 => fn_ok5 mixed (orc_ent (call_gliderref06_visit m) ((orc_ent call_gliderref06_find (orc_no _ _)))) Try.func86 (by kernel_rfl) (tie_gliderref06_visit m)
noncomputable def orc_gliderref06_Of : Orc := (ent 79 (ap1 Sh.gliderref05_Loose) (ent 85 (ap2 Sh.gliderref06_Shrink) (ent 81 (ap1 Sh.gliderref05_Empties) (ent 86 (ap5 (Sh.gliderref06_visit FUEL)) noO))))
theorem tie_gliderref06_Of : T2 Try.prog Gs false orc_gliderref06_Of Try.f68 (.two .leaf (.two (.two .leaf (.two (.two .leaf .leaf) .leaf)) (.two .leaf (.two (.reg [1, 2, 0, 3, 4, 5, 6, 7, 8, 9, 10, 11, 12, 13, 14, 15]) (.two .leaf .leaf))))) .pureN Sh.gliderref06_Of := by unfold T2; intros; kernel_rfl
theorem call_gliderref06_Of : FnOk Try.prog Gs 68 (ap2 Sh.gliderref06_Of) := fn_ok2 mixed ((orc_ent call_gliderref05_Loose ((orc_ent call_gliderref06_Shrink ((orc_ent call_gliderref05_Empties ((orc_ent (call_gliderref06_visit FUEL) (orc_no _ _))))))))) Try.func68 (by kernel_rfl) tie_gliderref06_Of
noncomputable def orc_gliderref07_Of : Orc := (ent 65 (ap1 Sh.gliderref02_Right) (ent 53 (ap1 Sh.gliderref07_Last) (ent 66 (ap2 Sh.gliderref07_within) (ent 51 (ap1 Sh.gliderref02_Pow) (ent 50 (ap1 Sh.gliderref02_Minus) (ent 67 (ap5 (Sh.gliderref07_place FUEL)) (ent 68 (ap2 Sh.gliderref06_Of) noO)))))))
theorem tie_gliderref07_Of : T1 Try.prog Gs false orc_gliderref07_Of Try.f37 (.two .leaf (.two (.two .leaf (.one (.loop [0, 2, 4] (.two (.two .leaf (.two .leaf .leaf)) (.two (.one (.two .leaf (.two (.two .leaf .leaf) .leaf))) .leaf))))) (.two .leaf (.two .leaf (.two (.two .leaf (.one (.loop [2, 5, 6, 7] (.two (.two .leaf (.two .leaf .leaf)) (.two (.one (.one (.loop [2, 5, 6, 7] (.two (.two .leaf (.two .leaf .leaf)) (.one .leaf))))) .leaf))))) (.two (.two .leaf (.two (.two .leaf .leaf) .leaf)) (.two .leaf (.two .leaf (.two .leaf .leaf))))))))) .pureN Sh.gliderref07_Of := by unfold T1; intros; kernel_rfl
theorem call_gliderref07_Of : FnOk Try.prog Gs 37 (ap1 Sh.gliderref07_Of) := fn_ok1 mixed ((orc_ent call_gliderref02_Right ((orc_ent call_gliderref07_Last ((orc_ent call_gliderref07_within ((orc_ent call_gliderref02_Pow ((orc_ent call_gliderref02_Minus ((orc_ent (call_gliderref07_place FUEL) ((orc_ent call_gliderref06_Of (orc_no _ _))))))))))))))) Try.func37 (by kernel_rfl) tie_gliderref07_Of
noncomputable def orc_gliderref07_Quad : Orc := (ent 36 (ap2 Sh.gliderref07_Great) (ent 37 (ap1 Sh.gliderref07_Of) noO))
theorem tie_gliderref07_Quad : T2 Try.prog Gs false orc_gliderref07_Quad Try.f23 (.two .leaf (.two (.two .leaf (.two (.two .leaf .leaf) .leaf)) (.two .leaf (.two .leaf .leaf)))) .pureN Sh.gliderref07_Quad := by unfold T2; intros; kernel_rfl
theorem call_gliderref07_Quad : FnOk Try.prog Gs 23 (ap2 Sh.gliderref07_Quad) := fn_ok2 mixed ((orc_ent call_gliderref07_Great ((orc_ent call_gliderref07_Of (orc_no _ _))))) Try.func23 (by kernel_rfl) tie_gliderref07_Quad
noncomputable def orc_gliderref04_Sign : Orc := noO
theorem tie_gliderref04_Sign : T1 Try.prog Gs false orc_gliderref04_Sign Try.f38 (.two .leaf (.two .leaf .leaf)) .keep Sh.gliderref04_Sign := by unfold T1; intros; kernel_rfl
theorem call_gliderref04_Sign : FnOk Try.prog Gs 38 (ap1 Sh.gliderref04_Sign) := fn_ok1 mixed (orc_no _ _) Try.func38 (by kernel_rfl) tie_gliderref04_Sign
end Go.Gm
/- The forms are what the evaluator comes to; so they are what the functions come to. -/
namespace Go.Gm
open Go.Proofs
set_option maxRecDepth 100000
noncomputable def orc_gliderref04_Rule : Orc := (ent 38 (ap1 Sh.gliderref04_Sign) noO)
theorem tie_gliderref04_Rule : T1 Try.prog Gs false orc_gliderref04_Rule Try.f24 (.two .leaf (.two (.two .leaf (.one (.loop [0, 3] (.two (.two .leaf (.two .leaf .leaf)) (.two (.one (.two .leaf (.two (.two .leaf .leaf) .leaf))) .leaf))))) (.two .leaf .leaf))) .keep Sh.gliderref04_Rule := by unfold T1; intros; kernel_rfl
theorem call_gliderref04_Rule : FnOk Try.prog Gs 24 (ap1 Sh.gliderref04_Rule) := fn_ok1 mixed ((orc_ent call_gliderref04_Sign (orc_no _ _))) Try.func24 (by kernel_rfl) tie_gliderref04_Rule
noncomputable def orc_gliderref11_Of : Orc := (ent 23 (ap2 Sh.gliderref07_Quad) (ent 24 (ap1 Sh.gliderref04_Rule) noO))
theorem tie_gliderref11_Of : T3 Try.prog Gs false orc_gliderref11_Of Try.f13 (.two .leaf (.two .leaf (.two (.reg [3, 4, 5, 6, 0, 1, 2, 8, 7, 9]) .leaf))) .pureN Sh.gliderref11_Of := by unfold T3; intros; kernel_rfl
theorem call_gliderref11_Of : FnOk Try.prog Gs 13 (ap3 Sh.gliderref11_Of) := fn_ok3 mixed ((orc_ent call_gliderref07_Quad ((orc_ent call_gliderref04_Rule (orc_no _ _))))) Try.func13 (by kernel_rfl) tie_gliderref11_Of
noncomputable def orc_gliderref11_Format : Orc := noO
theorem tie_gliderref11_Format : T1 Try.prog Gs false orc_gliderref11_Format Try.f39 (.two .leaf (.two .leaf .leaf)) .keep Sh.gliderref11_Format := by unfold T1; intros; kernel_rfl
theorem call_gliderref11_Format : FnOk Try.prog Gs 39 (ap1 Sh.gliderref11_Format) := fn_ok1 mixed (orc_no _ _) Try.func39 (by kernel_rfl) tie_gliderref11_Format
noncomputable def orc_gliderref05_end (m : Nat) : Orc := ent 82 (ap3 (Sh.gliderref05_end m)) noO
theorem tie_gliderref05_end (m : Nat) : T3 Try.prog Gs false (orc_gliderref05_end m) Try.f82 (.two .leaf (.two (.two .leaf (.one (.loop [0, 1, 2, 7] (.two (.two .leaf (.two .leaf .leaf)) (.two (.one (.two .leaf (.two (.two .leaf .leaf) .leaf))) .leaf))))) (.two (.two .leaf (.one (.loop [0, 1, 2, 8] (.two (.two .leaf (.two .leaf .leaf)) (.join [0, 1, 2, 8] (.one (.two .leaf (.two .leaf .leaf))) .leaf))))) (.two .leaf .leaf)))) .keep (Sh.gliderref05_end (m + 1)) := by unfold T3; intros; kernel_rfl
theorem call_gliderref05_end : ∀ m, FnOk Try.prog Gs 82 (ap3 (Sh.gliderref05_end m))
  | 0 => none_ok3 fun _ _ _ _ => rfl
  | m + 1 => fn_ok3 mixed (orc_ent (call_gliderref05_end m) (orc_no _ _)) Try.func82 (by kernel_rfl) (tie_gliderref05_end m)
noncomputable def orc_gliderref05_Right : Orc := (ent 79 (ap1 Sh.gliderref05_Loose) (ent 80 (ap2 Sh.gliderref05_Hollow) (ent 81 (ap1 Sh.gliderref05_Empties) (ent 82 (ap3 (Sh.gliderref05_end FUEL)) noO))))
theorem tie_gliderref05_Right : T1 Try.prog Gs false orc_gliderref05_Right Try.f60 (.two .leaf (.two .leaf (.two (.two .leaf (.two (.two .leaf .leaf) .leaf)) (.two (.two .leaf (.two (.two .leaf .leaf) .leaf)) (.two .leaf (.two (.two .leaf (.one (.loop [3, 4, 5] (.two (.two .leaf (.two .leaf .leaf)) (.two (.one (.two (.two .leaf (.two (.two .leaf .leaf) .leaf)) (.two .leaf (.one (.loop [3, 4, 5, 6] (.two (.two .leaf (.two .leaf .leaf)) (.two (.one (.two (.reg [0, 1, 2, 3, 4, 5, 6, 7, 8]) (.two (.two .leaf .leaf) .leaf))) .leaf))))))) .leaf))))) (.two .leaf (.two (.two .leaf (.one (.loop [3, 7, 8] (.two (.two .leaf (.two .leaf .leaf)) (.two (.one (.two .leaf (.two (.two .leaf .leaf) .leaf))) .leaf))))) (.two .leaf .leaf))))))))) .pure Sh.gliderref05_Right := by unfold T1; intros; kernel_rfl
theorem call_gliderref05_Right : FnOk Try.prog Gs 60 (ap1 Sh.gliderref05_Right) := fn_ok1 mixed ((orc_ent call_gliderref05_Loose ((orc_ent call_gliderref05_Hollow ((orc_ent call_gliderref05_Empties ((orc_ent (call_gliderref05_end FUEL) (orc_no _ _))))))))) Try.func60 (by kernel_rfl) tie_gliderref05_Right
noncomputable def orc_gliderref11_Right : Orc := (ent 24 (ap1 Sh.gliderref04_Rule) (ent 60 (ap1 Sh.gliderref05_Right) noO))
theorem tie_gliderref11_Right : T1 Try.prog Gs false orc_gliderref11_Right Try.f33 (.two .leaf (.two .leaf .leaf)) .pure Sh.gliderref11_Right := by unfold T1; intros; kernel_rfl
theorem call_gliderref11_Right : FnOk Try.prog Gs 33 (ap1 Sh.gliderref11_Right) := fn_ok1 mixed ((orc_ent call_gliderref04_Rule ((orc_ent call_gliderref05_Right (orc_no _ _))))) Try.func33 (by kernel_rfl) tie_gliderref11_Right
noncomputable def orc_gliderref11_Fine : Orc := noO
theorem tie_gliderref11_Fine : T1 Try.prog Gs false orc_gliderref11_Fine Try.f40 (.two .leaf (.two .leaf .leaf)) .pure Sh.gliderref11_Fine := by unfold T1; intros; kernel_rfl
theorem call_gliderref11_Fine : FnOk Try.prog Gs 40 (ap1 Sh.gliderref11_Fine) := fn_ok1 mixed (orc_no _ _) Try.func40 (by kernel_rfl) tie_gliderref11_Fine
noncomputable def orc_gliderref09_edges : Orc := (ent 51 (ap1 Sh.gliderref02_Pow) (ent 48 (ap2 Sh.gliderref02_Cmp) (ent 46 (ap2 Sh.gliderref02_Add) noO)))
theorem tie_gliderref09_edges : T3 Try.prog Gs false orc_gliderref09_edges Try.f69 (.two .leaf (.two .leaf (.two (.two .leaf (.one (.loop [0, 4, 5, 7, 8] (.two (.two .leaf (.two .leaf .leaf)) (.two (.one (.two .leaf (.two .leaf (.two .leaf (.one (.loop [0, 4, 5, 7, 8, 9, 10, 11] (.two (.two .leaf (.two .leaf .leaf)) (.join [0, 4, 5, 7, 8, 9, 10, 11] (.one (.two .leaf (.join [0, 4, 5, 7, 8, 9, 10, 11, 12, 13] (.two .leaf (.two (.reg [0, 1, 2, 3, 4, 5, 6]) .leaf)) (.two .leaf (.two (.two .leaf (.two .leaf .leaf)) (.two .leaf (.join [0, 4, 5, 7, 8, 9, 10, 11, 15] (.two .leaf (.two (.reg [0, 1, 2, 3, 4, 5, 6]) .leaf)) (.two (.reg [0, 1, 2, 3, 4, 5, 6, 7, 8, 9, 10, 11]) (.two (.reg [0, 1, 2, 3, 4, 5, 6]) .leaf))))))))) .leaf)))))))) .leaf))))) (.two .leaf .leaf)))) .pureN Sh.gliderref09_edges := by unfold T3; intros; kernel_rfl
theorem call_gliderref09_edges : FnOk Try.prog Gs 69 (ap3 Sh.gliderref09_edges) := fn_ok3 mixed ((orc_ent call_gliderref02_Pow ((orc_ent call_gliderref02_Cmp ((orc_ent call_gliderref02_Add (orc_no _ _))))))) Try.func69 (by kernel_rfl) tie_gliderref09_edges
noncomputable def orc_gliderref05_Level : Orc := noO
theorem tie_gliderref05_Level : T1 Try.prog Gs false orc_gliderref05_Level Try.f52 (.two .leaf (.two (.two .leaf (.two (.two .leaf .leaf) .leaf)) (.two .leaf .leaf))) .pure Sh.gliderref05_Level := by unfold T1; intros; kernel_rfl
theorem call_gliderref05_Level : FnOk Try.prog Gs 52 (ap1 Sh.gliderref05_Level) := fn_ok1 mixed (orc_no _ _) Try.func52 (by kernel_rfl) tie_gliderref05_Level
noncomputable def orc_gliderref09_Of : Orc := (ent 69 (ap3 Sh.gliderref09_edges) (ent 52 (ap1 Sh.gliderref05_Level) (ent 51 (ap1 Sh.gliderref02_Pow) (ent 50 (ap1 Sh.gliderref02_Minus) (ent 46 (ap2 Sh.gliderref02_Add) (ent 70 (ap2 Sh.gliderref02_Sub) noO))))))
theorem tie_gliderref09_Of : T1 Try.prog Gs false orc_gliderref09_Of Try.f43 (.two .leaf (.two .leaf (.two (.two .leaf (.two (.two .leaf .leaf) .leaf)) (.two .leaf (.two .leaf (.two .leaf (.two .leaf (.two .leaf (.two .leaf (.two (.reg [0, 1, 2, 3, 4, 5, 7, 8, 9, 6, 10, 12, 13, 14, 11, 15, 16, 17, 18]) .leaf)))))))))) .pureN Sh.gliderref09_Of := by unfold T1; intros; kernel_rfl
theorem call_gliderref09_Of : FnOk Try.prog Gs 43 (ap1 Sh.gliderref09_Of) := fn_ok1 mixed ((orc_ent call_gliderref09_edges ((orc_ent call_gliderref05_Level ((orc_ent call_gliderref02_Pow ((orc_ent call_gliderref02_Minus ((orc_ent call_gliderref02_Add ((orc_ent call_gliderref02_Sub (orc_no _ _))))))))))))) Try.func43 (by kernel_rfl) tie_gliderref09_Of
noncomputable def orc_gliderref09_Within : Orc := (ent 43 (ap1 Sh.gliderref09_Of) (ent 30 (ap1 Sh.gliderref02_Of) (ent 48 (ap2 Sh.gliderref02_Cmp) noO)))
theorem tie_gliderref09_Within : T2 Try.prog Gs false orc_gliderref09_Within Try.f42 (.two .leaf (.two .leaf (.two (.reg [2, 3, 0, 1, 4, 5, 6, 9, 10, 7, 8, 11, 12, 13, 14]) .leaf))) .pure Sh.gliderref09_Within := by unfold T2; intros; kernel_rfl
theorem call_gliderref09_Within : FnOk Try.prog Gs 42 (ap2 Sh.gliderref09_Within) := fn_ok2 mixed ((orc_ent call_gliderref09_Of ((orc_ent call_gliderref02_Of ((orc_ent call_gliderref02_Cmp (orc_no _ _))))))) Try.func42 (by kernel_rfl) tie_gliderref09_Within
noncomputable def orc_gliderref08_Most : Orc := noO
theorem tie_gliderref08_Most : T1 Try.prog Gs false orc_gliderref08_Most Try.f61 (.two .leaf (.two .leaf (.two (.two .leaf (.one (.loop [1, 3, 4] (.two (.two .leaf (.two .leaf .leaf)) (.two (.one (.two .leaf (.one (.loop [1, 3, 4, 5] (.two (.two .leaf (.two .leaf .leaf)) (.two (.one .leaf) .leaf)))))) .leaf))))) (.two .leaf .leaf)))) .pure Sh.gliderref08_Most := by unfold T1; intros; kernel_rfl
theorem call_gliderref08_Most : FnOk Try.prog Gs 61 (ap1 Sh.gliderref08_Most) := fn_ok1 mixed (orc_no _ _) Try.func61 (by kernel_rfl) tie_gliderref08_Most
noncomputable def orc_gliderref11_Express : Orc := (ent 42 (ap2 Sh.gliderref09_Within) (ent 61 (ap1 Sh.gliderref08_Most) noO))
theorem tie_gliderref11_Express : T3 Try.prog Gs false orc_gliderref11_Express Try.f41 (.two .leaf (.two (.two .leaf (.two (.two .leaf .leaf) .leaf)) (.two (.two .leaf (.two (.two .leaf .leaf) .leaf)) (.two .leaf .leaf)))) .pure Sh.gliderref11_Express := by unfold T3; intros; kernel_rfl
theorem call_gliderref11_Express : FnOk Try.prog Gs 41 (ap3 Sh.gliderref11_Express) := fn_ok3 mixed ((orc_ent call_gliderref09_Within ((orc_ent call_gliderref08_Most (orc_no _ _))))) Try.func41 (by kernel_rfl) tie_gliderref11_Express
noncomputable def orc_gliderref11_Check : Orc := (ent 39 (ap1 Sh.gliderref11_Format) (ent 33 (ap1 Sh.gliderref11_Right) (ent 40 (ap1 Sh.gliderref11_Fine) (ent 41 (ap3 Sh.gliderref11_Express) noO))))
theorem tie_gliderref11_Check : T3 Try.prog Gs false orc_gliderref11_Check Try.f25 (.two .leaf (.two (.two .leaf (.two (.two .leaf .leaf) .leaf)) (.two (.two .leaf (.two (.two .leaf .leaf) .leaf)) (.two .leaf .leaf)))) .pure Sh.gliderref11_Check := by unfold T3; intros; kernel_rfl
theorem call_gliderref11_Check : FnOk Try.prog Gs 25 (ap3 Sh.gliderref11_Check) := fn_ok3 mixed ((orc_ent call_gliderref11_Format ((orc_ent call_gliderref11_Right ((orc_ent call_gliderref11_Fine ((orc_ent call_gliderref11_Express (orc_no _ _))))))))) Try.func25 (by kernel_rfl) tie_gliderref11_Check
noncomputable def orc_gliderref02_Int : Orc := noO
theorem tie_gliderref02_Int : T1 Try.prog Gs false orc_gliderref02_Int Try.f44 (.two .leaf (.two .leaf (.two (.two .leaf (.one (.loop [1, 4, 5] (.two (.two .leaf (.two .leaf .leaf)) (.two (.one (.two (.two .leaf (.two (.two .leaf .leaf) .leaf)) .leaf)) .leaf))))) (.two (.two .leaf (.two (.two .leaf .leaf) .leaf)) (.two (.two .leaf (.two (.two .leaf .leaf) .leaf)) (.two .leaf .leaf)))))) .pure Sh.gliderref02_Int := by unfold T1; intros; kernel_rfl
theorem call_gliderref02_Int : FnOk Try.prog Gs 44 (ap1 Sh.gliderref02_Int) := fn_ok1 mixed (orc_no _ _) Try.func44 (by kernel_rfl) tie_gliderref02_Int
noncomputable def orc_gliderref08_in : Orc := (ent 51 (ap1 Sh.gliderref02_Pow) (ent 50 (ap1 Sh.gliderref02_Minus) (ent 48 (ap2 Sh.gliderref02_Cmp) noO)))
theorem tie_gliderref08_in : T2 Try.prog Gs false orc_gliderref08_in Try.f71 (.two .leaf (.two .leaf (.two (.reg [1, 2, 0, 3, 4, 5, 6, 7, 8, 9, 10, 11]) .leaf))) .pure Sh.gliderref08_in := by unfold T2; intros; kernel_rfl
theorem call_gliderref08_in : FnOk Try.prog Gs 71 (ap2 Sh.gliderref08_in) := fn_ok2 mixed ((orc_ent call_gliderref02_Pow ((orc_ent call_gliderref02_Minus ((orc_ent call_gliderref02_Cmp (orc_no _ _))))))) Try.func71 (by kernel_rfl) tie_gliderref08_in
noncomputable def orc_gliderref08_quarter : Orc := (ent 51 (ap1 Sh.gliderref02_Pow) (ent 48 (ap2 Sh.gliderref02_Cmp) (ent 70 (ap2 Sh.gliderref02_Sub) noO)))
theorem tie_gliderref08_quarter : T3 Try.prog Gs false orc_gliderref08_quarter Try.f72 (.two .leaf (.two .leaf (.two .leaf (.join [4, 5, 7, 8, 9, 10] (.two .leaf (.two .leaf .leaf)) (.join [4, 5, 7, 8, 10] (.two .leaf (.two .leaf .leaf)) (.two (.reg [0, 1, 3, 4, 2, 5]) .leaf)))))) .pureN Sh.gliderref08_quarter := by unfold T3; intros; kernel_rfl
theorem call_gliderref08_quarter : FnOk Try.prog Gs 72 (ap3 Sh.gliderref08_quarter) := fn_ok3 mixed ((orc_ent call_gliderref02_Pow ((orc_ent call_gliderref02_Cmp ((orc_ent call_gliderref02_Sub (orc_no _ _))))))) Try.func72 (by kernel_rfl) tie_gliderref08_quarter
noncomputable def orc_gliderref08_Get : Orc := (ent 52 (ap1 Sh.gliderref05_Level) (ent 71 (ap2 Sh.gliderref08_in) (ent 51 (ap1 Sh.gliderref02_Pow) (ent 46 (ap2 Sh.gliderref02_Add) (ent 72 (ap3 Sh.gliderref08_quarter) noO)))))
theorem tie_gliderref08_Get : T3 Try.prog Gs false orc_gliderref08_Get Try.f45 (.two .leaf (.two .leaf (.two (.two .leaf (.two (.two .leaf .leaf) .leaf)) (.two .leaf (.two (.reg [0, 1, 2, 3, 4, 5, 6, 7]) (.two .leaf (.two (.one (.loop [3, 4, 5, 9] (.two (.two .leaf (.two .leaf .leaf)) (.one (.two (.reg [0, 1, 2, 3, 4, 5, 6, 7, 8, 9, 10, 11, 12, 14, 15, 16, 17, 13, 18]) (.two .leaf (.two (.two .leaf (.two (.two .leaf .leaf) .leaf)) (.reg [0, 1, 3, 4, 2, 5])))))))) (.two .leaf .leaf)))))))) .pure Sh.gliderref08_Get := by unfold T3; intros; kernel_rfl
theorem call_gliderref08_Get : FnOk Try.prog Gs 45 (ap3 Sh.gliderref08_Get) := fn_ok3 mixed ((orc_ent call_gliderref05_Level ((orc_ent call_gliderref08_in ((orc_ent call_gliderref02_Pow ((orc_ent call_gliderref02_Add ((orc_ent call_gliderref08_quarter (orc_no _ _))))))))))) Try.func45 (by kernel_rfl) tie_gliderref08_Get
noncomputable def orc_gliderref10_Of : Orc := (ent 42 (ap2 Sh.gliderref09_Within) (ent 43 (ap1 Sh.gliderref09_Of) (ent 44 (ap1 Sh.gliderref02_Int) (ent 30 (ap1 Sh.gliderref02_Of) (ent 46 (ap2 Sh.gliderref02_Add) (ent 45 (ap3 Sh.gliderref08_Get) noO))))))
theorem tie_gliderref10_Of : T2 Try.prog Gs false orc_gliderref10_Of Try.f26 (.two .leaf (.two (.two .leaf (.two (.two .leaf .leaf) .leaf)) (.two (.two .leaf (.two (.two .leaf .leaf) .leaf)) (.two .leaf (.two (.two .leaf (.two (.two .leaf .leaf) .leaf)) (.two .leaf (.two .leaf (.two .leaf (.two (.two .leaf (.one (.loop [2, 4, 6, 8, 10, 12, 13] (.two (.two .leaf (.two .leaf .leaf)) (.two (.one (.two .leaf (.two (.two .leaf (.one (.loop [2, 4, 6, 8, 10, 12, 13, 14, 15] (.two (.two .leaf (.two .leaf .leaf)) (.two (.one (.reg [5, 6, 3, 4, 7, 10, 11, 8, 9, 12, 2, 13, 0, 1, 14, 15])) .leaf))))) .leaf))) .leaf))))) (.two .leaf .leaf)))))))))) .pureN Sh.gliderref10_Of := by unfold T2; intros; kernel_rfl
theorem call_gliderref10_Of : FnOk Try.prog Gs 26 (ap2 Sh.gliderref10_Of) := fn_ok2 mixed ((orc_ent call_gliderref09_Within ((orc_ent call_gliderref09_Of ((orc_ent call_gliderref02_Int ((orc_ent call_gliderref02_Of ((orc_ent call_gliderref02_Add ((orc_ent call_gliderref08_Get (orc_no _ _))))))))))))) Try.func26 (by kernel_rfl) tie_gliderref10_Of
noncomputable def orc_gliderref12_row : Orc := noO
theorem tie_gliderref12_row : T2 Try.prog Gs false orc_gliderref12_row Try.f27 (.two .leaf (.two .leaf (.two .leaf (.two (.two .leaf (.one (.loop [0, 1, 5, 6, 7] (.two (.two .leaf (.two .leaf .leaf)) (.join [0, 1, 5, 6, 7] (.one (.two (.two .leaf (.two (.two .leaf .leaf) .leaf)) (.two .leaf .leaf))) .leaf))))) (.two .leaf .leaf))))) .pure Sh.gliderref12_row := by unfold T2; intros; kernel_rfl
theorem call_gliderref12_row : FnOk Try.prog Gs 27 (ap2 Sh.gliderref12_row) := fn_ok2 mixed (orc_no _ _) Try.func27 (by kernel_rfl) tie_gliderref12_row
noncomputable def orc_gliderref12_Plain : Orc := (ent 25 (ap3 Sh.gliderref11_Check) (ent 26 (ap2 Sh.gliderref10_Of) (ent 27 (ap2 Sh.gliderref12_row) noO)))
theorem tie_gliderref12_Plain : T2 Try.prog Gs false orc_gliderref12_Plain Try.f14 (.two .leaf (.two .leaf (.two (.two .leaf (.two (.two .leaf .leaf) .leaf)) (.two .leaf (.two .leaf (.two (.two .leaf (.one (.loop [7, 9, 10] (.two (.two .leaf (.two .leaf .leaf)) (.two (.one .leaf) .leaf))))) (.two .leaf .leaf))))))) .pure Sh.gliderref12_Plain := by unfold T2; intros; kernel_rfl
theorem call_gliderref12_Plain : FnOk Try.prog Gs 14 (ap2 Sh.gliderref12_Plain) := fn_ok2 mixed ((orc_ent call_gliderref11_Check ((orc_ent call_gliderref10_Of ((orc_ent call_gliderref12_row (orc_no _ _))))))) Try.func14 (by kernel_rfl) tie_gliderref12_Plain
noncomputable def orc_gliderref01_Div : Orc := (ent 75 (ap1 Sh.gliderref01_Norm) noO)
theorem tie_gliderref01_Div : T2 Try.prog Gs false orc_gliderref01_Div Try.f47 (.two .leaf (.two (.two .leaf (.two (.two .leaf .leaf) .leaf)) (.two .leaf (.two .leaf (.two (.two .leaf (.one (.loop [0, 1, 6, 7, 8] (.two (.two .leaf (.two .leaf .leaf)) (.two (.one (.two .leaf (.reg [0, 1, 2, 3, 4, 5, 6, 11, 12, 7, 8, 9, 10, 13]))) .leaf))))) (.two .leaf .leaf)))))) .pureN Sh.gliderref01_Div := by unfold T2; intros; kernel_rfl
theorem call_gliderref01_Div : FnOk Try.prog Gs 47 (ap2 Sh.gliderref01_Div) := fn_ok2 mixed ((orc_ent call_gliderref01_Norm (orc_no _ _))) Try.func47 (by kernel_rfl) tie_gliderref01_Div
noncomputable def orc_gliderref03_Text : Orc := (ent 47 (ap2 Sh.gliderref01_Div) noO)
theorem tie_gliderref03_Text : T1 Try.prog Gs false orc_gliderref03_Text Try.f28 (.two .leaf (.two .leaf (.two .leaf (.two (.one (.loop [1, 3, 4] (.one (.two .leaf (.two .leaf (.two .leaf (.two .leaf (.two .leaf .leaf)))))))) (.two (.two .leaf (.two (.two .leaf .leaf) .leaf)) (.two .leaf .leaf)))))) .pure Sh.gliderref03_Text := by unfold T1; intros; kernel_rfl
theorem call_gliderref03_Text : FnOk Try.prog Gs 28 (ap1 Sh.gliderref03_Text) := fn_ok1 mixed ((orc_ent call_gliderref01_Div (orc_no _ _))) Try.func28 (by kernel_rfl) tie_gliderref03_Text
noncomputable def orc_gliderref12_Life5 : Orc := (ent 25 (ap3 Sh.gliderref11_Check) (ent 26 (ap2 Sh.gliderref10_Of) (ent 27 (ap2 Sh.gliderref12_row) (ent 28 (ap1 Sh.gliderref03_Text) noO))))
theorem tie_gliderref12_Life5 : T2 Try.prog Gs false orc_gliderref12_Life5 Try.f15 (.two .leaf (.two .leaf (.two (.two .leaf (.two (.two .leaf .leaf) .leaf)) (.two .leaf (.two .leaf (.join [7, 9] (.two .leaf (.two (.reg [2, 3, 4, 7, 8, 9, 0, 1, 5, 6, 10, 11, 12]) .leaf)) (.two (.two .leaf (.one (.loop [7, 9, 10] (.two (.two .leaf (.two .leaf .leaf)) (.two (.one (.two .leaf (.join [7, 9, 10, 11] (.two .leaf (.two .leaf .leaf)) .leaf))) .leaf))))) (.two .leaf .leaf)))))))) .pure Sh.gliderref12_Life5 := by unfold T2; intros; kernel_rfl
theorem call_gliderref12_Life5 : FnOk Try.prog Gs 15 (ap2 Sh.gliderref12_Life5) := fn_ok2 mixed ((orc_ent call_gliderref11_Check ((orc_ent call_gliderref10_Of ((orc_ent call_gliderref12_row ((orc_ent call_gliderref03_Text (orc_no _ _))))))))) Try.func15 (by kernel_rfl) tie_gliderref12_Life5
noncomputable def orc_gliderref07_counts : Orc := (ent 46 (ap2 Sh.gliderref02_Add) (ent 30 (ap1 Sh.gliderref02_Of) noO))
theorem tie_gliderref07_counts : T1 Try.prog Gs false orc_gliderref07_counts Try.f76 (.two .leaf (.two .leaf (.two (.two .leaf (.one (.loop [0, 3, 4] (.two (.two .leaf (.two .leaf .leaf)) (.two (.one (.two .leaf (.one (.loop [0, 3, 4, 5] (.two (.two .leaf (.two .leaf .leaf)) (.join [0, 3, 4, 5] (.one (.two .leaf (.two .leaf (.two (.reg [3, 4, 5, 6, 7, 8, 9, 10, 11, 12, 0, 1, 2, 13, 14]) (.two .leaf (.two (.reg [8, 3, 4, 5, 6, 7, 9, 0, 1, 2, 10, 11]) .leaf)))))) .leaf)))))) .leaf))))) (.two .leaf .leaf)))) .pureN Sh.gliderref07_counts := by unfold T1; intros; kernel_rfl
theorem call_gliderref07_counts : FnOk Try.prog Gs 76 (ap1 Sh.gliderref07_counts) := fn_ok1 mixed ((orc_ent call_gliderref02_Add ((orc_ent call_gliderref02_Of (orc_no _ _))))) Try.func76 (by kernel_rfl) tie_gliderref07_counts
end Go.Gm
/- The forms are what the evaluator comes to; so they are what the functions come to. -/
namespace Go.Gm
open Go.Proofs
set_option maxRecDepth 100000
noncomputable def orc_gliderref07_Count : Orc := (ent 76 (ap1 Sh.gliderref07_counts) noO)
theorem tie_gliderref07_Count : T1 Try.prog Gs false orc_gliderref07_Count Try.f49 (.two .leaf (.two (.reg [0, 1, 2, 3, 4, 5, 6, 7, 8]) .leaf)) .pureN Sh.gliderref07_Count := by unfold T1; intros; kernel_rfl
theorem call_gliderref07_Count : FnOk Try.prog Gs 49 (ap1 Sh.gliderref07_Count) := fn_ok1 mixed ((orc_ent call_gliderref07_counts (orc_no _ _))) Try.func49 (by kernel_rfl) tie_gliderref07_Count
noncomputable def orc_gliderref07_list (m : Nat) : Orc := ent 54 (ap4 (Sh.gliderref07_list m)) (ent 51 (ap1 Sh.gliderref02_Pow) (ent 46 (ap2 Sh.gliderref02_Add) noO))
theorem tie_gliderref07_list (m : Nat) : T4 Try.prog Gs false (orc_gliderref07_list m) Try.f54 (.two .leaf (.two (.two .leaf (.two (.two .leaf .leaf) .leaf)) (.two .leaf (.two .leaf (.two (.two .leaf (.one (.loop [0, 1, 6, 7, 9, 10, 11] (.two (.two .leaf (.two .leaf .leaf)) (.join [0, 1, 6, 7, 9, 10, 11] (.one (.two (.reg [0, 2, 3, 4, 1, 5]) (.join [0, 1, 6, 7, 9, 10, 11, 12, 13] (.two .leaf (.two .leaf .leaf)) (.join [0, 1, 6, 7, 9, 10, 11, 12, 13] (.two .leaf (.two .leaf .leaf)) (.two .leaf (.two .leaf (.two .leaf (.two .leaf (.two .leaf .leaf))))))))) .leaf))))) (.two .leaf .leaf)))))) .pureN (Sh.gliderref07_list (m + 1)) := by unfold T4; intros; kernel_rfl
theorem call_gliderref07_list : ∀ m, FnOk Try.prog Gs 54 (ap4 (Sh.gliderref07_list m))
  | 0 => none_ok4 fun _ _ _ _ _ => rfl
  | m + 1 => fn_ok4 mixed (orc_ent (call_gliderref07_list m) ((orc_ent call_gliderref02_Pow ((orc_ent call_gliderref02_Add (orc_no _ _)))))) Try.func54 (by kernel_rfl) (tie_gliderref07_list m)
noncomputable def orc_gliderref07_List : Orc := (ent 49 (ap1 Sh.gliderref07_Count) (ent 30 (ap1 Sh.gliderref02_Of) (ent 48 (ap2 Sh.gliderref02_Cmp) (ent 52 (ap1 Sh.gliderref05_Level) (ent 51 (ap1 Sh.gliderref02_Pow) (ent 50 (ap1 Sh.gliderref02_Minus) (ent 54 (ap4 (Sh.gliderref07_list FUEL)) (ent 53 (ap1 Sh.gliderref07_Last) noO))))))))
theorem tie_gliderref07_List : T2 Try.prog Gs false orc_gliderref07_List Try.f29 (.two .leaf (.two (.two .leaf (.two (.two .leaf .leaf) .leaf)) (.two (.two .leaf (.two (.two .leaf .leaf) .leaf)) (.two .leaf (.two .leaf .leaf))))) .pureN Sh.gliderref07_List := by unfold T2; intros; kernel_rfl
theorem call_gliderref07_List : FnOk Try.prog Gs 29 (ap2 Sh.gliderref07_List) := fn_ok2 mixed ((orc_ent call_gliderref07_Count ((orc_ent call_gliderref02_Of ((orc_ent call_gliderref02_Cmp ((orc_ent call_gliderref05_Level ((orc_ent call_gliderref02_Pow ((orc_ent call_gliderref02_Minus ((orc_ent (call_gliderref07_list FUEL) ((orc_ent call_gliderref07_Last (orc_no _ _))))))))))))))))) Try.func29 (by kernel_rfl) tie_gliderref07_List
noncomputable def orc_gliderref12_Life6 : Orc := (ent 25 (ap3 Sh.gliderref11_Check) (ent 29 (ap2 Sh.gliderref07_List) (ent 28 (ap1 Sh.gliderref03_Text) noO)))
theorem tie_gliderref12_Life6 : T2 Try.prog Gs false orc_gliderref12_Life6 Try.f16 (.two .leaf (.two .leaf (.two (.two .leaf (.two (.two .leaf .leaf) .leaf)) (.two .leaf (.two .leaf (.two (.two .leaf (.one (.loop [7, 9, 10] (.two (.two .leaf (.two .leaf .leaf)) (.two (.one (.reg [1, 2, 3, 4, 5, 6, 9, 10, 11, 12, 13, 14, 0, 7, 8, 15, 16, 17])) .leaf))))) (.two .leaf .leaf))))))) .pure Sh.gliderref12_Life6 := by unfold T2; intros; kernel_rfl
theorem call_gliderref12_Life6 : FnOk Try.prog Gs 16 (ap2 Sh.gliderref12_Life6) := fn_ok2 mixed ((orc_ent call_gliderref11_Check ((orc_ent call_gliderref07_List ((orc_ent call_gliderref03_Text (orc_no _ _))))))) Try.func16 (by kernel_rfl) tie_gliderref12_Life6
noncomputable def orc_gliderref13_two : Orc := noO
theorem tie_gliderref13_two : T1 Try.prog Gs false orc_gliderref13_two Try.f56 (.two .leaf (.two (.two .leaf (.one (.loop [1, 3] (.two (.two .leaf (.two .leaf .leaf)) (.two (.one (.two .leaf (.one (.loop [1, 3, 4] (.two (.two .leaf (.two .leaf .leaf)) (.two (.one (.two .leaf (.two (.two .leaf .leaf) .leaf))) .leaf)))))) .leaf))))) (.two .leaf .leaf))) .pure Sh.gliderref13_two := by unfold T1; intros; kernel_rfl
theorem call_gliderref13_two : FnOk Try.prog Gs 56 (ap1 Sh.gliderref13_two) := fn_ok1 mixed (orc_no _ _) Try.func56 (by kernel_rfl) tie_gliderref13_two
noncomputable def orc_gliderref13_used : Orc := noO
theorem tie_gliderref13_used : T1 Try.prog Gs false orc_gliderref13_used Try.f57 (.two .leaf (.two .leaf (.two (.two .leaf (.one (.loop [0, 3, 4] (.two (.two .leaf (.two .leaf .leaf)) (.join [0, 3, 4] (.one (.two .leaf (.two .leaf .leaf))) .leaf))))) (.two .leaf .leaf)))) .keep Sh.gliderref13_used := by unfold T1; intros; kernel_rfl
theorem call_gliderref13_used : FnOk Try.prog Gs 57 (ap1 Sh.gliderref13_used) := fn_ok1 mixed (orc_no _ _) Try.func57 (by kernel_rfl) tie_gliderref13_used
noncomputable def orc_gliderref13_token : Orc := (ent 30 (ap1 Sh.gliderref02_Of) (ent 28 (ap1 Sh.gliderref03_Text) noO))
theorem tie_gliderref13_token : T2 Try.prog Gs false orc_gliderref13_token Try.f58 (.two .leaf (.two (.two .leaf (.two (.two .leaf .leaf) .leaf)) (.two .leaf .leaf))) .keep Sh.gliderref13_token := by unfold T2; intros; kernel_rfl
theorem call_gliderref13_token : FnOk Try.prog Gs 58 (ap2 Sh.gliderref13_token) := fn_ok2 mixed ((orc_ent call_gliderref02_Of ((orc_ent call_gliderref03_Text (orc_no _ _))))) Try.func58 (by kernel_rfl) tie_gliderref13_token
noncomputable def orc_gliderref13_Sign : Orc := noO
theorem tie_gliderref13_Sign : T2 Try.prog Gs false orc_gliderref13_Sign Try.f59 (.two .leaf (.two (.one (.two .leaf (.two (.two .leaf .leaf) (.two .leaf (.two (.two .leaf .leaf) (.two .leaf (.two (.two .leaf .leaf) (.two .leaf (.two (.two .leaf .leaf) .leaf))))))))) (.two .leaf .leaf))) .keep Sh.gliderref13_Sign := by unfold T2; intros; kernel_rfl
theorem call_gliderref13_Sign : FnOk Try.prog Gs 59 (ap2 Sh.gliderref13_Sign) := fn_ok2 mixed (orc_no _ _) Try.func59 (by kernel_rfl) tie_gliderref13_Sign
noncomputable def orc_gliderref13_Tokens : Orc := (ent 56 (ap1 Sh.gliderref13_two) (ent 57 (ap1 Sh.gliderref13_used) (ent 59 (ap2 Sh.gliderref13_Sign) (ent 58 (ap2 Sh.gliderref13_token) noO))))
theorem tie_gliderref13_Tokens : T1 Try.prog Gs false orc_gliderref13_Tokens Try.f32 (.two .leaf (.two .leaf (.two .leaf (.two .leaf (.two (.two .leaf (.one (.loop [1, 3, 4, 5, 6] (.two (.two .leaf (.two .leaf .leaf)) (.join [1, 3, 4, 5, 6] (.one (.two .leaf (.two .leaf (.two (.two .leaf (.two .leaf .leaf)) (.join [1, 3, 5, 6, 7, 8] (.two .leaf (.two .leaf .leaf)) (.two .leaf (.two .leaf (.one (.loop [1, 3, 4, 5, 6, 7, 8, 9] (.two (.two .leaf (.two .leaf .leaf)) (.one (.two .leaf (.two (.one (.loop [1, 3, 4, 5, 6, 7, 8, 9, 10] (.two (.two (.reg [0, 1, 2, 3, 4, 5, 6, 7, 8, 9, 10, 11]) (.two .leaf .leaf)) (.one .leaf)))) (.two .leaf .leaf)))))))))))))) .leaf))))) (.two .leaf .leaf)))))) .pureN Sh.gliderref13_Tokens := by unfold T1; intros; kernel_rfl
theorem call_gliderref13_Tokens : FnOk Try.prog Gs 32 (ap1 Sh.gliderref13_Tokens) := fn_ok1 mixed ((orc_ent call_gliderref13_two ((orc_ent call_gliderref13_used ((orc_ent call_gliderref13_Sign ((orc_ent call_gliderref13_token (orc_no _ _))))))))) Try.func32 (by kernel_rfl) tie_gliderref13_Tokens
noncomputable def orc_gliderref13_wrap : Orc := noO
theorem tie_gliderref13_wrap : T1 Try.prog Gs false orc_gliderref13_wrap Try.f31 (.two .leaf (.two .leaf (.two (.two .leaf (.one (.loop [0, 3, 4, 5] (.two (.two .leaf (.two .leaf .leaf)) (.two (.one (.join [0, 3, 4, 5] (.two .leaf (.two .leaf .leaf)) .leaf)) .leaf))))) (.two .leaf .leaf)))) .keep Sh.gliderref13_wrap := by unfold T1; intros; kernel_rfl
theorem call_gliderref13_wrap : FnOk Try.prog Gs 31 (ap1 Sh.gliderref13_wrap) := fn_ok1 mixed (orc_no _ _) Try.func31 (by kernel_rfl) tie_gliderref13_wrap
noncomputable def orc_gliderref13_Text : Orc := (ent 25 (ap3 Sh.gliderref11_Check) (ent 26 (ap2 Sh.gliderref10_Of) (ent 28 (ap1 Sh.gliderref03_Text) (ent 30 (ap1 Sh.gliderref02_Of) (ent 32 (ap1 Sh.gliderref13_Tokens) (ent 31 (ap1 Sh.gliderref13_wrap) noO))))))
theorem tie_gliderref13_Text : T2 Try.prog Gs false orc_gliderref13_Text Try.f17 (.two .leaf (.two .leaf (.two (.two .leaf (.two (.two .leaf .leaf) .leaf)) (.two .leaf (.two .leaf (.join [2, 7, 9] (.two .leaf (.two .leaf .leaf)) (.two (.reg [0, 1, 2, 5, 6, 7, 3, 4, 8, 9, 10]) (.two (.reg [2, 3, 4, 7, 8, 9, 10, 11, 0, 1, 5, 6, 12, 13, 14, 15, 16, 17, 18]) (.two .leaf .leaf))))))))) .pure Sh.gliderref13_Text := by unfold T2; intros; kernel_rfl
theorem call_gliderref13_Text : FnOk Try.prog Gs 17 (ap2 Sh.gliderref13_Text) := fn_ok2 mixed ((orc_ent call_gliderref11_Check ((orc_ent call_gliderref10_Of ((orc_ent call_gliderref03_Text ((orc_ent call_gliderref02_Of ((orc_ent call_gliderref13_Tokens ((orc_ent call_gliderref13_wrap (orc_no _ _))))))))))))) Try.func17 (by kernel_rfl) tie_gliderref13_Text
noncomputable def orc_gliderref06_Grow : Orc := noO
theorem tie_gliderref06_Grow : T2 Try.prog Gs false orc_gliderref06_Grow Try.f62 (.two .leaf (.two .leaf (.two .leaf (.two (.two .leaf (.two (.two .leaf .leaf) .leaf)) (.two (.one (.loop [1, 6, 7] (.two (.two .leaf (.two .leaf .leaf)) (.one (.two .leaf (.two (.two .leaf (.one (.loop [1, 6, 7, 8, 9] (.two (.two .leaf (.two .leaf .leaf)) (.join [1, 6, 7, 8, 9] (.one (.two .leaf (.two (.two .leaf (.two .leaf .leaf)) (.two .leaf (.two .leaf (.two .leaf .leaf)))))) .leaf))))) (.two .leaf .leaf))))))) (.two .leaf .leaf)))))) .pureN Sh.gliderref06_Grow := by unfold T2; intros; kernel_rfl
theorem call_gliderref06_Grow : FnOk Try.prog Gs 62 (ap2 Sh.gliderref06_Grow) := fn_ok2 mixed (orc_no _ _) Try.func62 (by kernel_rfl) tie_gliderref06_Grow
noncomputable def orc_gliderref14_on (m : Nat) : Orc := ent 83 (ap4 (Sh.gliderref14_on m)) noO
theorem tie_gliderref14_on (m : Nat) : T4 Try.prog Gs false (orc_gliderref14_on m) Try.f83 (.two .leaf (.two (.two .leaf (.two (.two .leaf .leaf) .leaf)) (.two .leaf (.two (.two .leaf (.one (.loop [0, 1, 2, 3, 9, 10] (.two (.two .leaf (.two .leaf .leaf)) (.two (.one .leaf) .leaf))))) (.two (.reg [0, 1, 2, 3, 4, 5, 6, 7, 8, 9, 10, 11, 12, 13, 14, 15]) (.two (.two .leaf (.two (.two .leaf .leaf) .leaf)) (.two (.reg [0, 1, 2, 3, 4, 5, 6, 7, 8, 9]) .leaf))))))) .keep (Sh.gliderref14_on (m + 1)) := by unfold T4; intros; kernel_rfl
theorem call_gliderref14_on : ∀ m, FnOk Try.prog Gs 83 (ap4 (Sh.gliderref14_on m))
  | 0 => none_ok4 fun _ _ _ _ _ => rfl
  | m + 1 => fn_ok4 mixed (orc_ent (call_gliderref14_on m) (orc_no _ _)) Try.func83 (by kernel_rfl) (tie_gliderref14_on m)
noncomputable def orc_gliderref14_Leaf : Orc := (ent 83 (ap4 (Sh.gliderref14_on FUEL)) noO)
theorem tie_gliderref14_Leaf : T2 Try.prog Gs false orc_gliderref14_Leaf Try.f63 (.two .leaf (.two .leaf (.two (.two .leaf (.one (.loop [0, 1, 5, 6, 7] (.two (.two .leaf (.two .leaf .leaf)) (.join [0, 1, 5, 6, 7] (.one (.two .leaf (.two (.two .leaf (.one (.loop [0, 1, 5, 6, 7, 8, 9, 10] (.two (.two .leaf (.two .leaf .leaf)) (.join [0, 1, 5, 6, 7, 8, 9, 10] (.one (.two .leaf (.two (.two .leaf .leaf) .leaf))) .leaf))))) (.two .leaf (.two .leaf (.two .leaf .leaf)))))) .leaf))))) (.two .leaf .leaf)))) .keep Sh.gliderref14_Leaf := by unfold T2; intros; kernel_rfl
theorem call_gliderref14_Leaf : FnOk Try.prog Gs 63 (ap2 Sh.gliderref14_Leaf) := fn_ok2 mixed ((orc_ent (call_gliderref14_on FUEL) (orc_no _ _))) Try.func63 (by kernel_rfl) tie_gliderref14_Leaf
noncomputable def orc_gliderref14_number : Orc := (ent 30 (ap1 Sh.gliderref02_Of) (ent 28 (ap1 Sh.gliderref03_Text) noO))
theorem tie_gliderref14_number : T1 Try.prog Gs false orc_gliderref14_number Try.f64 (.two .leaf (.two .leaf .leaf)) .keep Sh.gliderref14_number := by unfold T1; intros; kernel_rfl
theorem call_gliderref14_number : FnOk Try.prog Gs 64 (ap1 Sh.gliderref14_number) := fn_ok1 mixed ((orc_ent call_gliderref02_Of ((orc_ent call_gliderref03_Text (orc_no _ _))))) Try.func64 (by kernel_rfl) tie_gliderref14_number
noncomputable def orc_gliderref14_lines : Orc := (ent 61 (ap1 Sh.gliderref08_Most) (ent 52 (ap1 Sh.gliderref05_Level) (ent 62 (ap2 Sh.gliderref06_Grow) (ent 63 (ap2 Sh.gliderref14_Leaf) (ent 64 (ap1 Sh.gliderref14_number) noO)))))
theorem tie_gliderref14_lines : T1 Try.prog Gs false orc_gliderref14_lines Try.f34 (.two .leaf (.two .leaf (.two .leaf (.two (.two .leaf (.two (.two .leaf (.two .leaf .leaf)) .leaf)) (.two .leaf (.two .leaf (.two (.two .leaf (.one (.loop [3, 4, 7, 8, 9] (.two (.two .leaf (.two .leaf .leaf)) (.join [3, 4, 7, 8, 9] (.one (.two (.two .leaf (.two .leaf .leaf)) (.two .leaf (.two (.two .leaf (.one (.loop [3, 4, 7, 8, 9, 10, 11] (.two (.two .leaf (.two .leaf .leaf)) (.two (.one (.two .leaf (.join [3, 4, 7, 8, 9, 10, 11, 12] (.two .leaf (.two .leaf .leaf)) .leaf))) .leaf))))) (.join [3, 4, 7, 8, 9, 10] (.two .leaf (.two .leaf .leaf)) (.two .leaf .leaf)))))) .leaf))))) (.two .leaf .leaf)))))))) .pureN Sh.gliderref14_lines := by unfold T1; intros; kernel_rfl
theorem call_gliderref14_lines : FnOk Try.prog Gs 34 (ap1 Sh.gliderref14_lines) := fn_ok1 mixed ((orc_ent call_gliderref08_Most ((orc_ent call_gliderref05_Level ((orc_ent call_gliderref06_Grow ((orc_ent call_gliderref14_Leaf ((orc_ent call_gliderref14_number (orc_no _ _))))))))))) Try.func34 (by kernel_rfl) tie_gliderref14_lines
noncomputable def orc_gliderref14_Text : Orc := (ent 33 (ap1 Sh.gliderref11_Right) (ent 34 (ap1 Sh.gliderref14_lines) noO))
theorem tie_gliderref14_Text : T1 Try.prog Gs false orc_gliderref14_Text Try.f18 (.two .leaf (.two (.two .leaf (.two (.two .leaf .leaf) .leaf)) (.two .leaf (.two .leaf (.two (.two .leaf (.one (.loop [4, 5, 6] (.two (.two .leaf (.two .leaf .leaf)) (.two (.one .leaf) .leaf))))) (.two .leaf .leaf)))))) .pure Sh.gliderref14_Text := by unfold T1; intros; kernel_rfl
theorem call_gliderref14_Text : FnOk Try.prog Gs 18 (ap1 Sh.gliderref14_Text) := fn_ok1 mixed ((orc_ent call_gliderref11_Right ((orc_ent call_gliderref14_lines (orc_no _ _))))) Try.func18 (by kernel_rfl) tie_gliderref14_Text
noncomputable def orc_gliderlaw20_SniffWritten : Orc := (ent 6 (ap0 Sh.gliderlaw20_alive) (ent 13 (ap3 Sh.gliderref11_Of) (ent 14 (ap2 Sh.gliderref12_Plain) (ent 15 (ap2 Sh.gliderref12_Life5) (ent 16 (ap2 Sh.gliderref12_Life6) (ent 17 (ap2 Sh.gliderref13_Text) (ent 18 (ap1 Sh.gliderref14_Text) (ent 7 (ap1 Sh.sniff_Of) noO))))))))
theorem tie_gliderlaw20_SniffWritten : T2 Try.prog Gs false orc_gliderlaw20_SniffWritten Try.f5 (.two .leaf (.two (.two .leaf (.two (.two .leaf .leaf) .leaf)) (.two .leaf (.two .leaf (.two (.two .leaf (.two (.two .leaf .leaf) .leaf)) (.two .leaf (.two .leaf (.two .leaf (.two .leaf (.two .leaf (.two .leaf .leaf))))))))))) .pure Sh.gliderlaw20_SniffWritten := by unfold T2; intros; kernel_rfl
theorem call_gliderlaw20_SniffWritten : FnOk Try.prog Gs 5 (ap2 Sh.gliderlaw20_SniffWritten) := fn_ok2 mixed ((orc_ent call_gliderlaw20_alive ((orc_ent call_gliderref11_Of ((orc_ent call_gliderref12_Plain ((orc_ent call_gliderref12_Life5 ((orc_ent call_gliderref12_Life6 ((orc_ent call_gliderref13_Text ((orc_ent call_gliderref14_Text ((orc_ent call_sniff_Of (orc_no _ _))))))))))))))))) Try.func5 (by kernel_rfl) tie_gliderlaw20_SniffWritten
end Go.Gm
/- How the forms are worked out on values that are known. -/
namespace Go.Gm
set_option linter.unusedVariables false
section
variable {m : FMode} {H0 H G : AHeap} {k : AVal → AHeap → Out}
@[simp] theorem bindK_ret (v : AVal) : bindK m H0 (some (.ret v, H)) k = k v H := (rfl)
@[simp] theorem bindN_ret (v : AVal) : bindN (some (.ret v, H)) k = k v H := (rfl)
@[simp] theorem bindK_pan (v : AVal) : bindK m H0 (some (.pan v, H)) k = fin m H0 (.pan v) H := (rfl)
@[simp] theorem afterA_some (v : AVal) : afterA (some (v, H)) k = k v H := (rfl)
@[simp] theorem wantV_bool (b w : Bool) : wantV (.bool b) w = some (b == w) := (rfl)
@[simp] theorem wantV_skip (w : Bool) : wantV (.tup []) w = some false := (rfl)
@[simp] theorem gR_true (x : Option AVal) : gR true x = x := (rfl)
@[simp] theorem gR_false (x : Option AVal) : gR false x = some skipV := (rfl)
@[simp] theorem gE_true (x : Out) : gE true H x = x := (rfl)
@[simp] theorem gE_false (x : Out) : gE false H x = some (.ret skipV, H) := (rfl)
@[simp] theorem gA_true (x : Option (AVal × AHeap)) : gA true H x = x := (rfl)
@[simp] theorem gA_false (x : Option (AVal × AHeap)) : gA false H x = some (skipV, H) := (rfl)
@[simp] theorem condV_true (a b : AVal) : condV (.bool true) a b = some a := (rfl)
@[simp] theorem condV_false (a b : AVal) : condV (.bool false) a b = some b := (rfl)
theorem condV_bool (t : Bool) (a b : AVal) : condV (.bool t) a b = some (if t then a else b) := (rfl)
@[simp] theorem condA_true (a b : Out) : condA (.bool true) a b = a := (rfl)
@[simp] theorem condA_false (a b : Out) : condA (.bool false) a b = b := (rfl)
theorem condA_bool (t : Bool) (a b : Out) : condA (.bool t) a b = if t then a else b := (rfl)
@[simp] theorem fin_keep (r : Res) : fin .keep H0 r H = some (r, H) := (rfl)
theorem fin_pure_ret {v : AVal} (h : H.take H0.length = H0) : fin .pure H0 (.ret v) H = (frz H H0.length 8 v).map fun v => (.ret v, H0) := by
  simp only [fin, chk, h, if_true]
@[simp] theorem fin_pure_int {K : IntKind} {n : Int} : fin .pure H0 (.ret (.int K n)) (H0 ++ G) = some (.ret (.int K n), H0) := by
  rw [fin_pure_ret (by simp)]; simp [frz]
@[simp] theorem fin_pure_bool {b : Bool} : fin .pure H0 (.ret (.bool b)) (H0 ++ G) = some (.ret (.bool b), H0) := by
  rw [fin_pure_ret (by simp)]; simp [frz]
@[simp] theorem fin_pure_str {s : List UInt8} : fin .pure H0 (.ret (.str s)) (H0 ++ G) = some (.ret (.str s), H0) := by
  rw [fin_pure_ret (by simp)]; simp [frz]
@[simp] theorem fin_pure_int0 {K : IntKind} {n : Int} : fin .pure H0 (.ret (.int K n)) H0 = some (.ret (.int K n), H0) := by
  rw [fin_pure_ret (by simp)]; simp [frz]
@[simp] theorem fin_pure_bool0 {b : Bool} : fin .pure H0 (.ret (.bool b)) H0 = some (.ret (.bool b), H0) := by
  rw [fin_pure_ret (by simp)]; simp [frz]
@[simp] theorem fin_pure_str0 {s : List UInt8} : fin .pure H0 (.ret (.str s)) H0 = some (.ret (.str s), H0) := by
  rw [fin_pure_ret (by simp)]; simp [frz]
@[simp] theorem retV_some (v : AVal) : retV (some v) H = some (.ret v, H) := (rfl)
@[simp] theorem retH_some : retH (some H) = some (.ret .undef, H) := (rfl)
@[simp] theorem retVH_some (v : AVal) : retVH (some (v, H)) = some (.ret v, H) := (rfl)
end
section
variable {ek : EqK} {k : IntKind} {a b : Int}
@[simp] theorem bin_add : binA ek .add (.int k a) (.int k b) = some (.int k (k.wrap (a + b))) := by simp [binA, isShift, intBin]
@[simp] theorem bin_sub : binA ek .sub (.int k a) (.int k b) = some (.int k (k.wrap (a - b))) := by simp [binA, isShift, intBin]
@[simp] theorem bin_mul : binA ek .mul (.int k a) (.int k b) = some (.int k (k.wrap (a * b))) := by simp [binA, isShift, intBin]
@[simp] theorem bin_eql : binA ek .eql (.int k a) (.int k b) = some (.bool (a == b)) := by simp [binA, isShift, intBin]
@[simp] theorem bin_neq : binA ek .neq (.int k a) (.int k b) = some (.bool (a != b)) := by simp [binA, isShift, intBin]
@[simp] theorem bin_lss : binA ek .lss (.int k a) (.int k b) = some (.bool (decide (a < b))) := by simp [binA, isShift, intBin]
@[simp] theorem bin_leq : binA ek .leq (.int k a) (.int k b) = some (.bool (decide (a ≤ b))) := by simp [binA, isShift, intBin]
@[simp] theorem bin_gtr : binA ek .gtr (.int k a) (.int k b) = some (.bool (decide (a > b))) := by simp [binA, isShift, intBin]
@[simp] theorem bin_geq : binA ek .geq (.int k a) (.int k b) = some (.bool (decide (a ≥ b))) := by simp [binA, isShift, intBin]
variable {s u : List UInt8}
@[simp] theorem bin_seql : binA ek .eql (.str s) (.str u) = some (.bool (s == u)) := (rfl)
@[simp] theorem bin_sneq : binA ek .neq (.str s) (.str u) = some (.bool (!(s == u))) := (rfl)
@[simp] theorem un_not {c : Bool} : unA .not (.bool c) = some (.bool (!c)) := (rfl)
@[simp] theorem len_str : lenStr (.str s) = some (.int .i64 s.length) := (rfl)
@[simp] theorem len_sl {es : List (List AVal)} {tk : Tok} : lenSl (.sl es tk) = some (.int .i64 es.length) := (rfl)
@[simp] theorem len_ms {id g off len cap sz : Nat} {ex : Bool} : lenSl (.ms id g off len cap sz ex) = some (.int .i64 len) := (rfl)
@[simp] theorem fieldAddr_ptr {off id g o : Nat} : fieldAddrA off (.ptr id g o) = some (.ptr id g (o + off)) := (rfl)
@[simp] theorem fieldAddr_cptr {off o : Nat} {cs : List AVal} : fieldAddrA off (.cptr cs o) = some (.cptr cs (o + off)) := (rfl)
end
section
variable {H0 H : AHeap} {k : AVal → AHeap → Out} {kv : AVal → Out}
@[simp] theorem ag_zero (v : AVal) (l : List AVal) : ag (v :: l) 0 = v := (rfl)
@[simp] theorem ag_succ (v : AVal) (l : List AVal) (i : Nat) : ag (v :: l) (i + 1) = ag l i := (rfl)
@[simp] theorem ag_1 (a v : AVal) (l : List AVal) : ag (a :: v :: l) 1 = v := (rfl)
@[simp] theorem ag_2 (a b v : AVal) (l : List AVal) : ag (a :: b :: v :: l) 2 = v := (rfl)
@[simp] theorem ag_3 (a b c v : AVal) (l : List AVal) : ag (a :: b :: c :: v :: l) 3 = v := (rfl)
@[simp] theorem ag_4 (a b c d v : AVal) (l : List AVal) : ag (a :: b :: c :: d :: v :: l) 4 = v := (rfl)
@[simp] theorem ag_5 (a b c d e v : AVal) (l : List AVal) : ag (a :: b :: c :: d :: e :: v :: l) 5 = v := (rfl)
@[simp] theorem bK_ret (v : AVal) : bK H0 (some (.ret v, H)) k = k v H := (rfl)
@[simp] theorem bP_ret (v : AVal) : bP H0 (some (.ret v, H)) k = k v H := (rfl)
@[simp] theorem rK_eq (v : AVal) : rK H0 v H = some (.ret v, H) := (rfl)
theorem rP_eq (v : AVal) (h : H.take H0.length = H0) : rP H0 v H = (frz H H0.length 8 v).map fun v => (.ret v, H0) := fin_pure_ret h
@[simp] theorem rP_int {G : AHeap} {K : IntKind} {n : Int} : rP H0 (.int K n) (H0 ++ G) = some (.ret (.int K n), H0) := fin_pure_int
@[simp] theorem rP_bool {G : AHeap} {b : Bool} : rP H0 (.bool b) (H0 ++ G) = some (.ret (.bool b), H0) := fin_pure_bool
@[simp] theorem rP_str {G : AHeap} {s : List UInt8} : rP H0 (.str s) (H0 ++ G) = some (.ret (.str s), H0) := fin_pure_str
@[simp] theorem rP_int0 {K : IntKind} {n : Int} : rP H0 (.int K n) H0 = some (.ret (.int K n), H0) := fin_pure_int0
@[simp] theorem rP_bool0 {b : Bool} : rP H0 (.bool b) H0 = some (.ret (.bool b), H0) := fin_pure_bool0
@[simp] theorem rP_str0 {s : List UInt8} : rP H0 (.str s) H0 = some (.ret (.str s), H0) := fin_pure_str0
@[simp] theorem gk_tt (x : Option AVal) : gk (.bool true) true x kv = x.bind kv := (rfl)
@[simp] theorem gk_tf (x : Option AVal) : gk (.bool true) false x kv = kv skipV := (rfl)
@[simp] theorem gk_ft (x : Option AVal) : gk (.bool false) true x kv = kv skipV := (rfl)
@[simp] theorem gk_ff (x : Option AVal) : gk (.bool false) false x kv = x.bind kv := (rfl)
@[simp] theorem gk_s (w : Bool) (x : Option AVal) : gk (.tup []) w x kv = kv skipV := (rfl)
@[simp] theorem gbK_s (w : Bool) (x : Out) : gbK H0 (.tup []) w H x k = k skipV H := (rfl)
@[simp] theorem gbP_s (w : Bool) (x : Out) : gbP H0 (.tup []) w H x k = k skipV H := (rfl)
@[simp] theorem gbN_s (w : Bool) (x : Out) : gbN (.tup []) w H x k = k skipV H := (rfl)
@[simp] theorem gbK_tt (x : Out) : gbK H0 (.bool true) true H x k = bK H0 x k := (rfl)
@[simp] theorem gbK_tf (x : Out) : gbK H0 (.bool true) false H x k = k skipV H := (rfl)
@[simp] theorem gbK_ft (x : Out) : gbK H0 (.bool false) true H x k = k skipV H := (rfl)
@[simp] theorem gbK_ff (x : Out) : gbK H0 (.bool false) false H x k = bK H0 x k := (rfl)
@[simp] theorem gbP_tt (x : Out) : gbP H0 (.bool true) true H x k = bP H0 x k := (rfl)
@[simp] theorem gbP_tf (x : Out) : gbP H0 (.bool true) false H x k = k skipV H := (rfl)
@[simp] theorem gbP_ft (x : Out) : gbP H0 (.bool false) true H x k = k skipV H := (rfl)
@[simp] theorem gbP_ff (x : Out) : gbP H0 (.bool false) false H x k = bP H0 x k := (rfl)
@[simp] theorem gbN_tt (x : Out) : gbN (.bool true) true H x k = bindN x k := (rfl)
@[simp] theorem gbN_tf (x : Out) : gbN (.bool true) false H x k = k skipV H := (rfl)
@[simp] theorem gbN_ft (x : Out) : gbN (.bool false) true H x k = k skipV H := (rfl)
@[simp] theorem gbN_ff (x : Out) : gbN (.bool false) false H x k = bindN x k := (rfl)
end
theorem get_last {H : AHeap} {i g : Nat} {cs : List AVal} (h : i = H.length) : getCells (H ++ [.cel g cs]) i g = some cs := by
  subst h; simp [getCells]
theorem wrap_i64 {n : Int} (h0 : -9223372036854775808 ≤ n) (h : n ≤ 9223372036854775807) : IntKind.i64.wrap n = n := by
  have h1 : IntKind.i64.bits = 64 := (rfl)
  have h2 : IntKind.i64.signed = true := (rfl)
  unfold IntKind.wrap
  simp only [h1, h2, Bool.true_and, decide_eq_true_eq]
  split <;> omega
theorem loop_succ {G : LK → LK} (n : Nat) (vs : List AVal) (H : AHeap) : loopGen G (n + 1) vs H = G (loopGen G n) vs H := (rfl)
/-- A loop's turn. -/
theorem loop_turn {G : (List AVal → AHeap → Out) → List AVal → AHeap → Out} {n : Nat} (h : 0 < n) (vs : List AVal) (H : AHeap) : loopGen G n vs H = G (loopGen G (n - 1)) vs H := by
  cases n with
  | zero => omega
  | succ n => rfl
theorem fuel_pos : 0 < FUEL := by rw [fuel_val]; decide
end Go.Gm
/- Tools: how the forms are worked out by rewriting alone. -/
namespace Go.Gm
set_option linter.unusedVariables false
set_option linter.unusedSimpArgs false
/-! ### Loops -/
/-- A loop over states of one's own: what it comes to at each, if what follows does. -/
theorem loop_fun {σ : Type} {G : LK → LK} (Inv : σ → Prop) (st : σ → List AVal) (hp : σ → AHeap) (μ : σ → Nat) (res : σ → Out)
    (step : ∀ (s : σ) (rec : LK), Inv s → (∀ s', Inv s' → μ s' < μ s → rec (st s') (hp s') = res s') → G rec (st s) (hp s) = res s)
    (s : σ) (hs : Inv s) (hm : μ s < 1152921504606846976) : loopGen G FUEL (st s) (hp s) = res s := by
  have key : ∀ (n : Nat) (s : σ), Inv s → μ s < n → loopGen G n (st s) (hp s) = res s := by
    intro n
    induction n with
    | zero => intro s _ h; omega
    | succ n ih => intro s hi h; rw [loop_succ]; exact step s _ hi fun s' hi' h' => ih s' hi' (by omega)
  exact key FUEL s hs (by rw [fuel_val]; exact hm)
/-- A loop that counts. -/
theorem loop_up {G : LK → LK} (N : Nat) (st : Nat → List AVal) (hp : Nat → AHeap) (out : Out) (hN : N < 1152921504606846976)
    (turn : ∀ (rec : LK) (i : Nat), i < N → G rec (st i) (hp i) = rec (st (i + 1)) (hp (i + 1))) (last : ∀ rec : LK, G rec (st N) (hp N) = out) : loopGen G FUEL (st 0) (hp 0) = out := by
  refine loop_fun (σ := Nat) (fun i => i ≤ N) st hp (fun i => N - i) (fun _ => out) (fun i rec hi hrec => ?_) 0 (Nat.zero_le _) (by omega)
  by_cases h : i < N
  · rw [turn rec i h]; exact hrec (i + 1) h (by omega)
  · have : i = N := by omega
    subst this; exact last rec
/-- A loop that counts, over a relation. -/
theorem loop_inv {G : LK → LK} (N : Nat) (I : Nat → List AVal → AHeap → Prop) (hN : N < 1152921504606846976)
    (turn : ∀ (i : Nat) (vs : List AVal) (H : AHeap), i < N → I i vs H → ∃ vs' H', I (i + 1) vs' H' ∧ ∀ rec : LK, G rec vs H = rec vs' H')
    {vs : List AVal} {H : AHeap} (h0 : I 0 vs H) : ∃ vs' H', I N vs' H' ∧ ∃ rec, loopGen G FUEL vs H = G rec vs' H' := by
  have key : ∀ (d i : Nat) (n : Nat) (vs : List AVal) (H : AHeap), i + d = N → d < n → I i vs H → ∃ vs' H', I N vs' H' ∧ ∃ rec, loopGen G n vs H = G rec vs' H' := by
    intro d
    induction d with
    | zero =>
      intro i n vs H hi hn hI
      cases n with
      | zero => omega
      | succ n => exact ⟨vs, H, by have : i = N := by omega
                                   rw [← this]; exact hI, loopGen G n, loop_succ n vs H⟩
    | succ d ih =>
      intro i n vs H hi hn hI
      cases n with
      | zero => omega
      | succ n =>
        obtain ⟨vs1, H1, h1, h2⟩ := turn i vs H (by omega) hI
        obtain ⟨vs2, H2, h3, rec, h4⟩ := ih (i + 1) n vs1 H1 (by omega) (by omega) h1
        exact ⟨vs2, H2, h3, rec, by rw [loop_succ, h2, h4]⟩
  exact key N 0 FUEL vs H (by omega) (by rw [fuel_val]; exact hN) h0
theorem fuel_succ (k : Nat) (hk : k < 1152921504606846976) : ∃ n, FUEL = n + k := ⟨1152921504606846976 - k, by rw [fuel_val]; omega⟩
/-! ### Whole numbers -/
theorem wrap_u8 {n : Int} (h0 : 0 ≤ n) (h : n < 256) : IntKind.u8.wrap n = n := by
  have h1 : IntKind.u8.bits = 8 := rfl
  have h2 : IntKind.u8.signed = false := rfl
  unfold IntKind.wrap
  simp only [h1, h2, Bool.false_and, Bool.false_eq_true, if_false]
  omega
theorem wrap_u32 {n : Int} (h0 : 0 ≤ n) (h : n < 4294967296) : IntKind.u32.wrap n = n := by
  have h1 : IntKind.u32.bits = 32 := rfl
  have h2 : IntKind.u32.signed = false := rfl
  unfold IntKind.wrap
  simp only [h1, h2, Bool.false_and, Bool.false_eq_true, if_false]
  omega
theorem wrap_u64 {n : Int} (h0 : 0 ≤ n) (h : n < 18446744073709551616) : IntKind.u64.wrap n = n := by
  have h1 : IntKind.u64.bits = 64 := rfl
  have h2 : IntKind.u64.signed = false := rfl
  unfold IntKind.wrap
  simp only [h1, h2, Bool.false_and, Bool.false_eq_true, if_false]
  omega
@[simp] theorem wr0 : IntKind.i64.wrap 0 = 0 := by decide
@[simp] theorem wr1 : IntKind.i64.wrap 1 = 1 := by decide
@[simp] theorem wr2 : IntKind.i64.wrap 2 = 2 := by decide
@[simp] theorem wr3 : IntKind.i64.wrap 3 = 3 := by decide
@[simp] theorem wr4 : IntKind.i64.wrap 4 = 4 := by decide
@[simp] theorem wrm1 : IntKind.i64.wrap (-1) = -1 := by decide
@[simp] theorem wrm2 : IntKind.i64.wrap (-2) = -2 := by decide
theorem bin_rem {ek : EqK} {k : IntKind} {a b : Int} (h : b ≠ 0) : binA ek .rem (.int k a) (.int k b) = some (.int k (a.tmod b)) := by simp [binA, isShift, intBin, h]
theorem bin_quo {ek : EqK} {k : IntKind} {a b : Int} (h : b ≠ 0) : binA ek .quo (.int k a) (.int k b) = some (.int k (k.wrap (a.tdiv b))) := by simp [binA, isShift, intBin, h]
@[simp] theorem bin_remN {ek : EqK} {k : IntKind} {a : Nat} {b : Nat} [h : NeZero b] : binA ek .rem (.int k (a : Int)) (.int k (b : Int)) = some (.int k ((a % b : Nat) : Int)) := by
  rw [bin_rem (by have := h.out; omega)]; rfl
theorem conv_int {k k' : IntKind} {n : Int} : convInt k (.int k' n) = some (.int k (k.wrap n)) := (rfl)
theorem beq_bool (p q : Bool) : binA .bool .eql (.bool p) (.bool q) = some (.bool (p == q)) := by cases p <;> cases q <;> rfl
theorem bne_bool (p q : Bool) : binA .bool .neq (.bool p) (.bool q) = some (.bool (p != q)) := by cases p <;> cases q <;> rfl
theorem max_int {k : IntKind} {a b : Int} : foldA max2A (.int k a) [.int k b] = some (.int k (max a b)) := by
  simp only [foldA, max2A, Option.bind_some]; congr 2; omega
theorem min_int {k : IntKind} {a b : Int} : foldA min2A (.int k a) [.int k b] = some (.int k (min a b)) := by
  simp only [foldA, min2A, Option.bind_some]; congr 2; omega
/-! ### Strings -/
theorem bin_sadd {ek : EqK} {a b : List UInt8} (h : a.length + b.length ≤ 1152921504606846976) : binA ek .add (.str a) (.str b) = some (.str (a ++ b)) := by simp [binA, strBin, h]
theorem idx_str {s : List UInt8} {i : Nat} {K : IntKind} (h : i < s.length) : idxStr (.str s) (.int K (i : Int)) = some (.int .u8 (s[i].toNat : Int)) := by
  simp [idxStr, h]
theorem idx_str0 {c : UInt8} {s : List UInt8} {K : IntKind} : idxStr (.str (c :: s)) (.int K 0) = some (.int .u8 (c.toNat : Int)) := by simp [idxStr]
theorem slice_str_to {s : List UInt8} {h : Nat} {K : IntKind} (hh : h ≤ s.length) : sliceStr (.str s) none (some (.int K (h : Int))) = some (.str (s.take h)) := by
  simp [sliceStr, boundA, hh]
theorem slice_str_from {s : List UInt8} {l : Nat} {K : IntKind} (hl : l ≤ s.length) : sliceStr (.str s) (some (.int K (l : Int))) none = some (.str (s.drop l)) := by
  simp [sliceStr, boundA, hl]
theorem slice_str {s : List UInt8} {l h : Nat} {K K' : IntKind} (hl : l ≤ h) (hh : h ≤ s.length) : sliceStr (.str s) (some (.int K (l : Int))) (some (.int K' (h : Int))) = some (.str ((s.take h).drop l)) := by
  simp [sliceStr, boundA, hl, hh]
/-! ### Slices whose elements are fixed -/
/-- Elements as cells. -/
def enL {α : Type} (f : α → List AVal) (l : List α) : List (List AVal) := l.map f
class Sz {α : Type} (f : α → List AVal) (n : outParam Nat) : Prop where
  len : ∀ a, (f a).length = n
abbrev cB (b : Bool) : List AVal := [.bool b]
abbrev cU (n : Nat) : List AVal := [.int .u32 (n : Int)]
abbrev cI (n : Int) : List AVal := [.int .i64 n]
abbrev cN (n : Nat) : List AVal := [.int .i64 (n : Int)]
abbrev cY (b : UInt8) : List AVal := [.int .u8 (b.toNat : Int)]
abbrev cS (s : List UInt8) : List AVal := [.str s]
instance : Sz cB 1 := ⟨fun _ => rfl⟩
instance : Sz cU 1 := ⟨fun _ => rfl⟩
instance : Sz cI 1 := ⟨fun _ => rfl⟩
instance : Sz cN 1 := ⟨fun _ => rfl⟩
instance : Sz cY 1 := ⟨fun _ => rfl⟩
instance : Sz cS 1 := ⟨fun _ => rfl⟩
section
variable {α : Type} {f : α → List AVal} {l m : List α} {tk : Tok} {i sz : Nat} {K : IntKind}
theorem enL_nil : enL f [] = [] := rfl
theorem enL_append : enL f (l ++ m) = enL f l ++ enL f m := by simp [enL]
@[simp] theorem enL_length : (enL f l).length = l.length := by simp [enL]
@[simp] theorem len_enL : lenSl (.sl (enL f l) tk) = some (.int .i64 (l.length : Int)) := by simp [enL]
theorem all_enL [h : Sz f sz] : ((enL f l).all fun e => e.length == sz) = true := by simp [enL, h.len]
theorem idx_enL [hf : Sz f sz] (h : i < l.length) : idxSl sz (.sl (enL f l) tk) (.int K (i : Int)) = some (.cptr (f l[i]) 0) := by
  simp [idxSl, enL, h, hf.len]
theorem slice_to [hf : Sz f sz] {h : Nat} (hh : h ≤ l.length) :
    sliceSl sz (.sl (enL f l) tk) none (some (.int K (h : Int))) none = some (.sl (enL f (l.take h)) (sliceTok tk 0 h l.length false)) := by
  simp [sliceSl, boundA, enL, hf.len, hh, List.map_take]
theorem slice_from [hf : Sz f sz] {b : Nat} (hb : b ≤ l.length) :
    sliceSl sz (.sl (enL f l) tk) (some (.int K (b : Int))) none none = some (.sl (enL f (l.drop b)) (sliceTok tk b l.length l.length false)) := by
  have : List.take l.length (l.map f) = l.map f := List.take_of_length_le (by simp)
  simp [sliceSl, boundA, enL, hf.len, hb, List.map_drop, this]
end
theorem build_B (b : Bool) : buildSl 1 [.bool b] = some (.sl (enL cB [b]) .tight) := by simp [buildSl, seqCells, immC, isImm, AVal.acells, enL]
theorem build_U (n : Nat) : buildSl 1 [.int .u32 (n : Int)] = some (.sl (enL cU [n]) .tight) := by simp [buildSl, seqCells, immC, isImm, AVal.acells, enL]
theorem build_N (n : Nat) : buildSl 1 [.int .i64 (n : Int)] = some (.sl (enL cN [n]) .tight) := by simp [buildSl, seqCells, immC, isImm, AVal.acells, enL]
theorem build_S (s : List UInt8) : buildSl 1 [.str s] = some (.sl (enL cS [s]) .tight) := by simp [buildSl, seqCells, immC, isImm, AVal.acells, enL]
theorem build_Y (b : UInt8) : buildSl 1 [.int .u8 (b.toNat : Int)] = some (.sl (enL cY [b]) .tight) := by simp [buildSl, seqCells, immC, isImm, AVal.acells, enL]
theorem bytesOf_enL (s : List UInt8) : bytesOf (enL cY s) = some s := by
  induction s with
  | nil => rfl
  | cons b s ih => simp only [enL, List.map_cons, bytesOf] at ih ⊢; simp [ih]
@[simp] theorem toStr_enL {s : List UInt8} {tk : Tok} {H : AHeap} : convToStr (.sl (enL cY s) tk) H = some (.str s) := by simp [convToStr, bytesOf_enL]
@[simp] theorem load_cptr {sz o : Nat} {cs : List AVal} {H : AHeap} : loadA false sz (.cptr cs o) H = cs[o]? := (rfl)
theorem load_cptrA {sz o : Nat} {cs : List AVal} {H : AHeap} : loadA true sz (.cptr cs o) H = if o + sz ≤ cs.length then some (.agg ((cs.drop o).take sz)) else none := (rfl)
/-! ### The heap -/
@[simp] theorem alloc_eq {cs : List AVal} {H : AHeap} (h : cs.all AVal.isScal = true) : allocA (some cs) H = some (.ptr H.length 0 0, H ++ [.cel 0 cs]) := by simp only [allocA, Option.bind_some, h, if_true]
section
variable {H G : AHeap} {a : Bool} {sz k g o : Nat} {b : Blk} {cs : List AVal} {v : AVal}
@[simp] theorem get_app : getCells (H ++ G) (H.length + k) g = getCells G k g := by
  have : (H ++ G)[H.length + k]? = G[k]? := by rw [List.getElem?_append_right (by omega)]; congr 1; omega
  unfold getCells; rw [this]
@[simp] theorem get_app0 : getCells (H ++ G) H.length g = getCells G 0 g := get_app (k := 0)
theorem get_old {i : Nat} (h : i < H.length) : getCells (H ++ G) i g = getCells H i g := by simp [getCells, List.getElem?_append_left h]
@[simp] theorem get_succ : getCells (b :: G) (k + 1) g = getCells G k g := by simp [getCells]
@[simp] theorem get_zero : getCells (.cel g cs :: G) 0 g = some cs := by simp [getCells]
@[simp] theorem load_app : loadA a sz (.ptr (H.length + k) g o) (H ++ G) = loadA a sz (.ptr k g o) G := by simp only [loadA, get_app]
@[simp] theorem load_app0 : loadA a sz (.ptr H.length g o) (H ++ G) = loadA a sz (.ptr 0 g o) G := by simp only [loadA, get_app0]
theorem load_old {i : Nat} (h : i < H.length) : loadA a sz (.ptr i g o) (H ++ G) = loadA a sz (.ptr i g o) H := by simp only [loadA, get_old h]
@[simp] theorem load_succ : loadA a sz (.ptr (k + 1) g o) (b :: G) = loadA a sz (.ptr k g o) G := by simp only [loadA, get_succ]
@[simp] theorem load_zero : loadA false sz (.ptr 0 g o) (.cel g cs :: G) = cs[o]? := by simp only [loadA, get_zero]; rfl
theorem load_zeroA : loadA true sz (.ptr 0 g o) (.cel g cs :: G) = if o + sz ≤ cs.length then some (.agg ((cs.drop o).take sz)) else none := by simp only [loadA, get_zero]; rfl
@[simp] theorem load_whole (h : cs.length = sz) : loadA true sz (.ptr 0 g 0) (.cel g cs :: G) = some (.agg cs) := by
  simp [load_zeroA, h, List.take_of_length_le (Nat.le_of_eq h)]
theorem setC_app : setC (H ++ G) (H.length + k) g cs = H ++ setC G k g cs := by
  have : (H ++ G)[H.length + k]? = G[k]? := by rw [List.getElem?_append_right (by omega)]; congr 1; omega
  unfold setC; rw [this]
  split
  · rw [List.set_append_right _ _ (by omega)]; congr 2; omega
  · rw [List.set_append_right _ _ (by omega)]; congr 2; omega
theorem setC_succ : setC (b :: G) (k + 1) g cs = b :: setC G k g cs := by
  unfold setC
  simp only [List.getElem?_cons_succ, List.set_cons_succ]
  split
  · rename_i h; rw [h]
  · rfl
@[simp] theorem store_app : storeA sz (.ptr (H.length + k) g o) v (H ++ G) = (storeA sz (.ptr k g o) v G).map (H ++ ·) := by
  simp only [storeA, get_app]
  cases getCells G k g with
  | none => rfl
  | some cs =>
    simp only [Option.bind_some]
    cases v.acells with
    | none => rfl
    | some vs =>
      simp only [Option.bind_some]
      split
      · simp [setC_app]
      · rfl
@[simp] theorem store_app0 : storeA sz (.ptr H.length g o) v (H ++ G) = (storeA sz (.ptr 0 g o) v G).map (H ++ ·) := store_app (k := 0)
@[simp] theorem store_succ : storeA sz (.ptr (k + 1) g o) v (b :: G) = (storeA sz (.ptr k g o) v G).map (b :: ·) := by
  simp only [storeA, get_succ]
  cases getCells G k g with
  | none => rfl
  | some cs =>
    simp only [Option.bind_some]
    cases v.acells with
    | none => rfl
    | some vs =>
      simp only [Option.bind_some]
      split
      · simp [setC_succ]
      · rfl
@[simp] theorem store_zero : storeA sz (.ptr 0 g o) v (.cel g cs :: G) = v.acells.bind fun vs => if vs.length = sz ∧ o + sz ≤ cs.length then some (.cel g (putN cs o sz vs) :: G) else none := by
  simp only [storeA, get_zero, Option.bind_some, setC, List.getElem?_cons_zero, List.set_cons_zero]
@[simp] theorem acells_int {K : IntKind} {n : Int} : (AVal.int K n).acells = some [.int K n] := (rfl)
@[simp] theorem acells_bool {t : Bool} : (AVal.bool t).acells = some [.bool t] := (rfl)
@[simp] theorem acells_str {s : List UInt8} : (AVal.str s).acells = some [.str s] := (rfl)
@[simp] theorem acells_sl {es : List (List AVal)} {tk : Tok} : (AVal.sl es tk).acells = some [.sl es tk] := (rfl)
@[simp] theorem acells_ms {id g off len cap sz : Nat} {ex : Bool} : (AVal.ms id g off len cap sz ex).acells = some [.ms id g off len cap sz ex] := (rfl)
@[simp] theorem acells_ptr {id g off : Nat} : (AVal.ptr id g off).acells = some [.ptr id g off] := (rfl)
@[simp] theorem acells_nilp : AVal.nilp.acells = some [.nilp] := (rfl)
@[simp] theorem acells_mp {id : Nat} : (AVal.mp id).acells = some [.mp id] := (rfl)
@[simp] theorem acells_fn {f : FuncId} {caps : List AVal} : (AVal.fn f caps).acells = some [.fn f caps] := (rfl)
theorem acells_agg {cs : List AVal} (h : cs.all AVal.isScal = true) : (AVal.agg cs).acells = some cs := by simp [AVal.acells, h]
end
section
variable {K : IntKind} {n : Int} {t : Bool} {s : List UInt8} {es : List (List AVal)} {tk : Tok} {id g off len cap sz : Nat} {ex : Bool} {f : FuncId} {caps : List AVal}
@[simp] theorem scal_int : (AVal.int K n).isScal = true := (rfl)
@[simp] theorem scal_bool : (AVal.bool t).isScal = true := (rfl)
@[simp] theorem scal_str : (AVal.str s).isScal = true := (rfl)
@[simp] theorem scal_sl : (AVal.sl es tk).isScal = true := (rfl)
@[simp] theorem scal_ms : (AVal.ms id g off len cap sz ex).isScal = true := (rfl)
@[simp] theorem scal_ptr : (AVal.ptr id g off).isScal = true := (rfl)
@[simp] theorem scal_mp : (AVal.mp id).isScal = true := (rfl)
@[simp] theorem scal_nilp : AVal.nilp.isScal = true := (rfl)
@[simp] theorem scal_fn : (AVal.fn f caps).isScal = true := (rfl)
end
/-! ### Checks -/
open Classical in
theorem chk_eq (p : Prop) (x : Out) : chk p x = if p then x else none := rfl
theorem chk_pos {p : Prop} (h : p) (x : Out) : chk p x = x := by rw [chk_eq, if_pos h]
/-! ### What is handed back -/
def fcell (H : AHeap) (n d : Nat) (v : AVal) : Option AVal := (frz H n d v).map fgt
def fcells (H : AHeap) (n d : Nat) (vs : List AVal) : Option (List AVal) := (frzL H n d vs).map (List.map fgt)
def fpart (H : AHeap) (n d : Nat) (v : AVal) : Option AVal := (frz H n d v).map fgtA
def fparts (H : AHeap) (n d : Nat) (vs : List AVal) : Option (List AVal) := (frzL H n d vs).map (List.map fgtA)
def fall (H : AHeap) (n d : Nat) (v : AVal) : Option AVal := (frz H n d v).map forget
section
variable {H H0 G : AHeap} {n d : Nat} {v : AVal} {vs cs : List AVal}
theorem rPN_eq (h : H.take H0.length = H0) : rPN H0 v H = (fall H H0.length 8 v).map fun v => (.ret v, H0) := by
  simp only [rPN, fin, chk_pos h, fall, Option.map_map]; rfl
@[simp] theorem rPN_app : rPN H0 v (H0 ++ G) = (fall (H0 ++ G) H0.length 8 v).map fun v => (.ret v, H0) := rPN_eq (by simp)
@[simp] theorem rPN_self : rPN H0 v H0 = (fall H0 H0.length 8 v).map fun v => (.ret v, H0) := rPN_eq (by simp)
@[simp] theorem rKN_eq : rKN H0 v H = some (.ret (forget v), H) := (rfl)
theorem frz_sl {es : List (List AVal)} {tk : Tok} : ∃ tk', frz H n (d + 1) (.sl es tk) = some (.sl es tk') := by
  cases tk with
  | no => exact ⟨.no, by simp [frz]⟩
  | tight => exact ⟨.tight, by simp [frz]⟩
  | own t => by_cases h : t < n
             · exact ⟨.own t, by simp [frz, h]⟩
             · exact ⟨.no, by simp [frz, h]⟩
@[simp] theorem fall_tup : fall H n (d + 1) (.tup vs) = (fparts H n d vs).map .tup := by
  simp only [fall, fparts, frz, Option.map_map]; rfl
@[simp] theorem fall_agg : fall H n (d + 1) (.agg cs) = (fcells H n d cs).map .agg := by
  simp only [fall, fcells, frz, Option.map_map]; rfl
@[simp] theorem fall_int {K : IntKind} {i : Int} : fall H n (d + 1) (.int K i) = some (.int K i) := by simp [fall, frz, forget, fgtA, fgt]
@[simp] theorem fall_bool {t : Bool} : fall H n (d + 1) (.bool t) = some (.bool t) := by simp [fall, frz, forget, fgtA, fgt]
@[simp] theorem fall_str {s : List UInt8} : fall H n (d + 1) (.str s) = some (.str s) := by simp [fall, frz, forget, fgtA, fgt]
@[simp] theorem fall_sl {es : List (List AVal)} {tk : Tok} : fall H n (d + 1) (.sl es tk) = some (.sl es .no) := by
  obtain ⟨tk', h⟩ := frz_sl (H := H) (n := n) (d := d) (es := es) (tk := tk)
  simp [fall, h, forget, fgtA, fgt]
@[simp] theorem fparts_nil : fparts H n (d + 1) [] = some [] := by simp [fparts, frzL]
@[simp] theorem fparts_cons : fparts H n (d + 1) (v :: vs) = (fpart H n d v).bind fun v' => (fparts H n (d + 1) vs).map (v' :: ·) := by
  simp only [fparts, fpart, frzL]
  cases frz H n d v with
  | none => rfl
  | some x => cases frzL H n (d + 1) vs <;> rfl
@[simp] theorem fcells_nil : fcells H n (d + 1) [] = some [] := by simp [fcells, frzL]
@[simp] theorem fcells_cons : fcells H n (d + 1) (v :: vs) = (fcell H n d v).bind fun v' => (fcells H n (d + 1) vs).map (v' :: ·) := by
  simp only [fcells, fcell, frzL]
  cases frz H n d v with
  | none => rfl
  | some x => cases frzL H n (d + 1) vs <;> rfl
@[simp] theorem fpart_agg : fpart H n (d + 1) (.agg cs) = (fcells H n d cs).map .agg := by
  simp only [fpart, fcells, frz, Option.map_map]; rfl
@[simp] theorem fpart_int {K : IntKind} {i : Int} : fpart H n (d + 1) (.int K i) = some (.int K i) := by simp [fpart, frz, fgtA, fgt]
@[simp] theorem fpart_bool {t : Bool} : fpart H n (d + 1) (.bool t) = some (.bool t) := by simp [fpart, frz, fgtA, fgt]
@[simp] theorem fpart_str {s : List UInt8} : fpart H n (d + 1) (.str s) = some (.str s) := by simp [fpart, frz, fgtA, fgt]
@[simp] theorem fpart_sl {es : List (List AVal)} {tk : Tok} : fpart H n (d + 1) (.sl es tk) = some (.sl es .no) := by
  obtain ⟨tk', h⟩ := frz_sl (H := H) (n := n) (d := d) (es := es) (tk := tk)
  simp [fpart, h, fgtA, fgt]
@[simp] theorem fcell_int {K : IntKind} {i : Int} : fcell H n (d + 1) (.int K i) = some (.int K i) := by simp [fcell, frz, fgt]
@[simp] theorem fcell_bool {t : Bool} : fcell H n (d + 1) (.bool t) = some (.bool t) := by simp [fcell, frz, fgt]
@[simp] theorem fcell_str {s : List UInt8} : fcell H n (d + 1) (.str s) = some (.str s) := by simp [fcell, frz, fgt]
@[simp] theorem fcell_sl {es : List (List AVal)} {tk : Tok} : fcell H n (d + 1) (.sl es tk) = some (.sl es .no) := by
  obtain ⟨tk', h⟩ := frz_sl (H := H) (n := n) (d := d) (es := es) (tk := tk)
  simp [fcell, h, fgt]
@[simp] theorem forget_sl {es : List (List AVal)} {tk : Tok} : forget (.sl es tk) = .sl es .no := (rfl)
@[simp] theorem forget_agg : forget (.agg cs) = .agg (cs.map fgt) := (rfl)
@[simp] theorem forget_tup : forget (.tup cs) = .tup (cs.map fgtA) := (rfl)
@[simp] theorem fgtA_agg : fgtA (.agg cs) = .agg (cs.map fgt) := (rfl)
@[simp] theorem fgtA_sl {es : List (List AVal)} {tk : Tok} : fgtA (.sl es tk) = .sl es .no := (rfl)
@[simp] theorem fgtA_int {K : IntKind} {i : Int} : fgtA (.int K i) = .int K i := (rfl)
@[simp] theorem fgtA_bool {t : Bool} : fgtA (.bool t) = .bool t := (rfl)
@[simp] theorem fgtA_str {s : List UInt8} : fgtA (.str s) = .str s := (rfl)
@[simp] theorem fgt_sl {es : List (List AVal)} {tk : Tok} : fgt (.sl es tk) = .sl es .no := (rfl)
@[simp] theorem fgt_int {K : IntKind} {i : Int} : fgt (.int K i) = .int K i := (rfl)
@[simp] theorem fgt_bool {t : Bool} : fgt (.bool t) = .bool t := (rfl)
@[simp] theorem fgt_str {s : List UInt8} : fgt (.str s) = .str s := (rfl)
@[simp] theorem seqO_nil : seqO [] = some [] := (rfl)
@[simp] theorem seqO_cons {x : Option AVal} {xs : List (Option AVal)} : seqO (x :: xs) = x.bind fun v => (seqO xs).map (v :: ·) := (rfl)
@[simp] theorem resM_eq {xs : List (Option AVal)} : resM xs = (seqO xs).map .tup := (rfl)
@[simp] theorem extract_0 : extractA 0 (.tup (v :: vs)) = some v := (rfl)
@[simp] theorem extract_1 {w : AVal} : extractA 1 (.tup (v :: w :: vs)) = some w := (rfl)
@[simp] theorem extract_2 {w u : AVal} : extractA 2 (.tup (v :: w :: u :: vs)) = some u := (rfl)
end
/-! ### What is handed back as it is -/
def plain1 : AVal → Bool
  | .int _ _ => true
  | .bool _ => true
  | .str _ => true
  | _ => false
def plainV : AVal → Bool
  | .tup vs => vs.all plain1
  | v => plain1 v
section
variable {H H0 G : AHeap} {n d : Nat} {v : AVal} {vs : List AVal} {K : IntKind} {i : Int} {t : Bool} {s : List UInt8}
@[simp] theorem plain1_int : plain1 (.int K i) = true := (rfl)
@[simp] theorem plain1_bool : plain1 (.bool t) = true := (rfl)
@[simp] theorem plain1_str : plain1 (.str s) = true := (rfl)
@[simp] theorem plainV_tup : plainV (.tup vs) = vs.all plain1 := (rfl)
@[simp] theorem plainV_int : plainV (.int K i) = true := (rfl)
@[simp] theorem plainV_bool : plainV (.bool t) = true := (rfl)
@[simp] theorem plainV_str : plainV (.str s) = true := (rfl)
theorem frz_plain1 (h : plain1 v = true) : frz H n (d + 1) v = some v := by cases v <;> first | (simp [plain1] at h; done) | simp [frz]
theorem frzL_plain : ∀ (vs : List AVal), vs.all plain1 = true → frzL H n (d + 2) vs = some vs
  | [], _ => by simp [frzL]
  | v :: vs, h => by
    simp only [List.all_cons, Bool.and_eq_true] at h
    simp [frzL, frz_plain1 h.1, frzL_plain vs h.2]
theorem rP_plainE (h : plainV v = true) (ht : H.take H0.length = H0) : rP H0 v H = some (.ret v, H0) := by
  rw [rP_eq v ht]
  cases v <;> first | (simp [plainV, plain1] at h; done) | (simp [frz]; done) | (rename_i vs; simp [frz, frzL_plain vs (by simpa [plainV] using h)])
@[simp] theorem rP_plain (h : plainV v = true) : rP H0 v (H0 ++ G) = some (.ret v, H0) := rP_plainE h (by simp)
@[simp] theorem rP_plain0 (h : plainV v = true) : rP H0 v H0 = some (.ret v, H0) := rP_plainE h (by simp)
end
/-! ### A slice that grows from nil -/
section
variable {α : Type} {f : α → List AVal} {H : AHeap} {ty : TypeId} {sz bytes : Nat} {l m : List α} {tk : Tok}
theorem append_tight [hf : Sz f sz] (hm : m ≠ []) (hb : (l.length + m.length) * bytes ≤ 140737488355328) (hn : l.length + m.length ≤ 140737488355328) :
    appendA ty sz bytes (.sl (enL f l) .tight) (.sl (enL f m) tk) H = some (.sl (enL f (l ++ m)) (.own H.length), H ++ [.tok (l.length + m.length) ty sz]) := by
  simp [appendA, elemsA, enL, hf.len, hm, hb, hn]
theorem append_own [hf : Sz f sz] {t : Nat} (hm : m ≠ []) (hH : H[t]? = some (.tok l.length ty sz)) (hb : (l.length + m.length) * bytes ≤ 140737488355328) (hn : l.length + m.length ≤ 140737488355328) :
    appendA ty sz bytes (.sl (enL f l) (.own t)) (.sl (enL f m) tk) H = some (.sl (enL f (l ++ m)) (.own t), H.set t (.tok (l.length + m.length) ty sz)) := by
  simp [appendA, elemsA, enL, hf.len, hm, hb, hn, hH]
theorem append_nothing {x : AVal} (hx : (elemsA sz x H).isSome = true) : appendA ty sz bytes x (.sl [] tk) H = some (x, H) := by
  cases h : elemsA sz x H with
  | none => simp [h] at hx
  | some es => simp only [appendA, h]; simp [elemsA]
/-- A slice that was nil at first, over a heap B. -/
def outS (f : α → List AVal) (B : AHeap) : List α → AVal
  | [] => .sl [] .tight
  | l => .sl (enL f l) (.own B.length)
def outT (f : α → List AVal) (ty : TypeId) (sz : Nat) (B : AHeap) : List α → AHeap
  | [] => B
  | l => B ++ [.tok l.length ty sz]
def outK (B : AHeap) : List α → Tok
  | [] => .tight
  | _ => .own B.length
theorem outS_eq (B : AHeap) (l : List α) : outS f B l = .sl (enL f l) (outK B l) := by cases l <;> rfl
theorem outT_eq (B : AHeap) (l : List α) : ∃ G, outT f ty sz B l = B ++ G := by
  cases l with
  | nil => exact ⟨[], by simp [outT]⟩
  | cons a l => exact ⟨_, rfl⟩
theorem append_out [hf : Sz f sz] {B : AHeap} (hm : m ≠ []) (hb : (l.length + m.length) * bytes ≤ 140737488355328) (hn : l.length + m.length ≤ 140737488355328) :
    appendA ty sz bytes (outS f B l) (.sl (enL f m) tk) (outT f ty sz B l) = some (outS f B (l ++ m), outT f ty sz B (l ++ m)) := by
  obtain ⟨x, m', rfl⟩ : ∃ x m', m = x :: m' := by cases m with | nil => exact absurd rfl hm | cons x m' => exact ⟨x, m', rfl⟩
  cases l with
  | nil =>
    have := append_tight (f := f) (l := []) (ty := ty) (tk := tk) (H := B) hm hb hn
    simpa [outS, outT, enL_nil] using this
  | cons a l =>
    have := append_own (f := f) (l := a :: l) (ty := ty) (tk := tk) (H := B ++ [.tok (a :: l).length ty sz]) (t := B.length) hm (by simp) hb hn
    simp only [outS, outT, List.cons_append] at this ⊢
    rw [this]
    simp; omega
end
end Go.Gm
/- Loops that look for something. -/
namespace Go.Gm
set_option linter.unusedVariables false
set_option linter.unusedSimpArgs false
/-- Not by mere unfolding: else the kernel compares what follows, word for word, with what went before. -/
@[simp 2000] theorem obind {α β : Type} (a : α) (f : α → Option β) : (some a).bind f = f a := (rfl)
/-- A loop that asks the same of each number. -/
theorem loop_all {G : LK → LK} (N : Nat) (p : Nat → Bool) (st : Nat → List AVal) (H : AHeap) (yes no : Out) (hN : N < 1152921504606846976)
    (turn : ∀ (rec : LK) (i : Nat), i < N → G rec (st i) H = if p i then rec (st (i + 1)) H else no) (last : ∀ rec : LK, G rec (st N) H = yes) : loopGen G FUEL (st 0) H = if (List.range N).all p then yes else no := by
  refine loop_fun (σ := Nat) (fun i => i ≤ N ∧ ∀ j, j < i → p j = true) st (fun _ => H) (fun i => N - i) (fun _ => if (List.range N).all p then yes else no) (fun i rec hi hrec => ?_) 0 ⟨Nat.zero_le _, fun j hj => by omega⟩ (by omega)
  by_cases h : i < N
  · rw [turn rec i h]
    cases hp : p i with
    | true => exact hrec (i + 1) ⟨h, fun j hj => by
        by_cases e : j = i
        · rw [e]; exact hp
        · exact hi.2 j (by omega)⟩ (by omega)
    | false =>
      have : (List.range N).all p = false := by rw [List.all_eq_false]; exact ⟨i, by simpa using h, by simp [hp]⟩
      simp [this]
  · have e : i = N := by omega
    subst e
    have : (List.range i).all p = true := by rw [List.all_eq_true]; intro j hj; exact hi.2 j (by simpa using hj)
    rw [last, this]; rfl
/-- A loop that looks for the first number of which something holds. -/
theorem loop_first {G : LK → LK} (N : Nat) (p : Nat → Bool) (st : Nat → List AVal) (H : AHeap) (none' : Out) (found : Nat → Out) (hN : N < 1152921504606846976)
    (turn : ∀ (rec : LK) (i : Nat), i < N → G rec (st i) H = if p i then found i else rec (st (i + 1)) H) (last : ∀ rec : LK, G rec (st N) H = none') :
    loopGen G FUEL (st 0) H = match (List.range N).find? p with | some i => found i | none => none' := by
  refine loop_fun (σ := Nat) (fun i => i ≤ N ∧ ∀ j, j < i → p j = false) st (fun _ => H) (fun i => N - i) (fun _ => match (List.range N).find? p with | some i => found i | none => none') (fun i rec hi hrec => ?_) 0 ⟨Nat.zero_le _, fun j hj => by omega⟩ (by omega)
  by_cases h : i < N
  · rw [turn rec i h]
    cases hp : p i with
    | false => exact hrec (i + 1) ⟨h, fun j hj => by
        by_cases e : j = i
        · rw [e]; exact hp
        · exact hi.2 j (by omega)⟩ (by omega)
    | true =>
      have : (List.range N).find? p = some i := by
        rw [List.find?_range_eq_some]
        exact ⟨hp, by simpa using h, fun j hj => by simp [hi.2 j hj]⟩
      rw [this]; rfl
  · have e : i = N := by omega
    subst e
    have : (List.range i).find? p = none := by
      rw [List.find?_eq_none]; intro j hj; simp [hi.2 j (by simpa using hj)]
    rw [last, this]
theorem box_agg {sz : Nat} {cs : List AVal} {H : AHeap} (h : cs.all AVal.isScal = true) (hl : cs.length = sz) : boxA true sz (.agg cs) H = some (.ptr H.length 0 0, H ++ [.cel 0 cs]) := by
  unfold boxA
  rw [acells_agg h]
  simp [hl, alloc_eq h]
theorem bC_some {v : AVal} {p : AVal → Prop} {k : AVal → Out} (hp : p v) : bC (some v) p k = k v := by
  simp only [bC, Option.bind_some, chk_pos hp]
theorem bC_eq {x : Option AVal} {v : AVal} {p : AVal → Prop} {k : AVal → Out} (h : x = some v) (hp : p v) : bC x p k = k v := by
  subst h; exact bC_some hp
theorem putN_all {cs vs : List AVal} {sz : Nat} (h : cs.length = sz) : putN cs 0 sz vs = vs := by simp [putN, List.drop_of_length_le (Nat.le_of_eq h)]
theorem store_all {cs vs : List AVal} {sz g : Nat} {v : AVal} {G : AHeap} (hv : v.acells = some vs) (h : cs.length = sz) (h2 : vs.length = sz) : storeA sz (.ptr 0 g 0) v (.cel g cs :: G) = some (.cel g vs :: G) := by
  rw [store_zero, hv]
  simp only [Option.bind_some, h2, h, Nat.zero_add, Nat.le_refl, and_self, if_true, putN_all h]
@[simp] theorem chk_true {x : Out} : chk True x = x := chk_pos trivial x
@[simp] theorem bC_chk {v : AVal} {p : AVal → Prop} {k : AVal → Out} : bC (some v) p k = chk (p v) (k v) := (rfl)
section
variable {x : Option AVal} {p : Bool → AVal → Prop} {k : AVal → Out} {w : Bool}
@[simp] theorem gkc_tt : gkc (.bool true) true x p k = bC x (p true) k := (rfl)
@[simp] theorem gkc_ff : gkc (.bool false) false x p k = bC x (p true) k := (rfl)
@[simp] theorem gkc_tf : gkc (.bool true) false x p k = chk (p false skipV) (k skipV) := (rfl)
@[simp] theorem gkc_ft : gkc (.bool false) true x p k = chk (p false skipV) (k skipV) := (rfl)
@[simp] theorem gkc_s : gkc (.tup []) w x p k = chk (p false skipV) (k skipV) := (rfl)
end
theorem range4 (p : Nat → Bool) : (List.range 4).all p = (p 0 && p 1 && p 2 && p 3) := by
  show (p 0 && (p 1 && (p 2 && (p 3 && true)))) = _
  cases p 0 <;> cases p 1 <;> cases p 2 <;> cases p 3 <;> rfl
theorem wrap_nat {n : Nat} (h : n < 9223372036854775808) : IntKind.i64.wrap (n : Int) = (n : Int) := wrap_i64 (by omega) (by omega)
theorem wrap_succ {n : Nat} (h : n < 9223372036854775807) : IntKind.i64.wrap ((n : Int) + 1) = ((n + 1 : Nat) : Int) := by rw [wrap_i64] <;> omega
theorem wrap_pred {n : Nat} (h : 0 < n) (h2 : n < 9223372036854775807) : IntKind.i64.wrap ((n : Int) - 1) = ((n - 1 : Nat) : Int) := by rw [wrap_i64] <;> omega
end Go.Gm
