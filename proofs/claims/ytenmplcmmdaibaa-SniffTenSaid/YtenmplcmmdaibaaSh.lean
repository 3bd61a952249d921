/- The forms of the functions, printed by a program out of their code. -/
import Derived.Test.YtenmplcmmdaibaaGmS
namespace Go.Gm
set_option linter.unusedVariables false

noncomputable def Sh.stringslite_HasPrefix (s_1 prefix_2 : AVal) (H0 : AHeap) : Out :=
  (lenStr s_1).bind fun x3 =>
  (lenStr prefix_2).bind fun x4 =>
  (binA .none .geq x3 x4).bind fun x5 =>
  (wantV x5 true).bind fun x6 =>
  (gR x6 (some s_1)).bind fun x7 =>
  (wantV x5 true).bind fun x8 =>
  (gR x8 (some prefix_2)).bind fun x9 =>
  (wantV x5 true).bind fun x10 =>
  (gR x10 (lenStr x9)).bind fun x11 =>
  (wantV x5 true).bind fun x12 =>
  (gR x12 (sliceStr x7 none (some x11))).bind fun x13 =>
  (wantV x5 true).bind fun x14 =>
  (gR x14 (some prefix_2)).bind fun x15 =>
  (wantV x5 true).bind fun x16 =>
  (gR x16 (binA .none .eql x13 x15)).bind fun x17 =>
  (condV x5 x17 (.bool false)).bind fun x18 =>
  fin .keep H0 (.ret x18) H0
noncomputable def Sh.strings_HasPrefix (s_1 prefix_2 : AVal) (H0 : AHeap) : Out :=
  bindK .keep H0 (Sh.stringslite_HasPrefix s_1 prefix_2 H0) fun x3 H4 =>
  fin .keep H0 (.ret x3) H4
noncomputable def Sh.sniff_Of_j4 (H0 : AHeap) (x37 : AVal) (H38 : AHeap) : Out :=
  condA x37 (
    fin .pure H0 (.ret (.int .i64 1)) H38) (
    fin .pure H0 (.ret (.int .i64 0)) H38)
noncomputable def Sh.sniff_Of_j3 (H0 : AHeap) (x34 x35 : AVal) (H36 : AHeap) : Out :=
  condA x35 (
    fin .pure H0 (.ret (.int .i64 4)) H36) (
    joinPt (fun j4 =>
      (binA .none .eql x34 (.int .i32 33)).bind fun x39 =>
      condA x39 (
        j4 [x39] H36) (
        (binA .none .eql x34 (.int .i32 46)).bind fun x40 =>
        condA x40 (
          j4 [x40] H36) (
          (binA .none .eql x34 (.int .i32 79)).bind fun x41 =>
          condA x41 (
            j4 [x41] H36) (
            (binA .none .eql x34 (.int .i32 10)).bind fun x42 =>
            condA x42 (
              j4 [x42] H36) (
              (binA .none .eql x34 (.int .i32 13)).bind fun x43 =>
              j4 [x43] H36))))) (fun vs H => Sh.sniff_Of_j4 H0 (vs.getD 0 .undef) H))
noncomputable def Sh.sniff_Of_l2 (H0 : AHeap) (x28 : AVal) (H29 : AHeap) : Out :=
  bindK .pure H0 (retVH (nextA x28 H29)) fun x30 H31 =>
  (extractA 0 x30).bind fun x32 =>
  condA x32 (
    (extractA 2 x30).bind fun x33 =>
    joinPt (fun j3 =>
      (binA .none .eql x33 (.int .i32 35)).bind fun x44 =>
      condA x44 (
        j3 [x33, x44] H31) (
        (binA .none .eql x33 (.int .i32 120)).bind fun x45 =>
        j3 [x33, x45] H31)) (fun vs H => Sh.sniff_Of_j3 H0 (vs.getD 0 .undef) (vs.getD 1 .undef) H)) (
    fin .pure H0 (.ret (.int .i64 0)) H31)
noncomputable def Sh.sniff_Of_l1 (H0 : AHeap) (rec1 : List AVal → AHeap → Out) (b_7 x8 x9 x10 : AVal) (H11 : AHeap) : Out :=
  (binA .none .lss x10 x9).bind fun x12 =>
  condA x12 (
    (idxSl 2 x8 x10).bind fun x13 =>
    (loadA true 2 x13 H11).bind fun x14 =>
    afterA (allocA (some [(.str []), (.int .i64 0)]) H11) fun h_15 H16 =>
    bindK .pure H0 (retH (storeA 2 h_15 x14 H16)) fun _ H18 =>
    (fieldAddrA 0 h_15).bind fun x19 =>
    (loadA false 1 x19 H18).bind fun x20 =>
    bindK .pure H0 (Sh.strings_HasPrefix b_7 x20 H18) fun x21 H22 =>
    condA x21 (
      (fieldAddrA 1 h_15).bind fun x23 =>
      (loadA false 1 x23 H22).bind fun x24 =>
      fin .pure H0 (.ret x24) H22) (
      (binA .none .add x10 (.int .i64 1)).bind fun x25 =>
      rec1 [b_7, x8, x9, x25] H22)) (
    bindK .pure H0 (retVH (rangeA b_7 H11)) fun x26 H27 =>
    loopGen (fun rec2 vs H => Sh.sniff_Of_l2 H0 (vs.getD 0 .undef) H) FUEL [x26] H27)
noncomputable def Sh.sniff_Of (b_1 : AVal) (H0 : AHeap) : Out :=
  (buildA (some [(.str []), (.int .i64 0)]) [(0, 1, (.str [91, 77, 50, 93])), (1, 1, (.int .i64 5))]).bind fun x2 =>
  (buildA (some [(.str []), (.int .i64 0)]) [(0, 1, (.str [35, 76, 105, 102, 101, 32, 49, 46, 48, 53])), (1, 1, (.int .i64 2))]).bind fun x3 =>
  (buildA (some [(.str []), (.int .i64 0)]) [(0, 1, (.str [35, 76, 105, 102, 101, 32, 49, 46, 48, 54])), (1, 1, (.int .i64 3))]).bind fun x4 =>
  (buildSl 2 [x2, x3, x4]).bind fun x5 =>
  (lenSl x5).bind fun x6 =>
  loopGen (fun rec1 vs H => Sh.sniff_Of_l1 H0 rec1 (vs.getD 0 .undef) (vs.getD 1 .undef) (vs.getD 2 .undef) (vs.getD 3 .undef) H) FUEL [b_1, x5, x6, (.int .i64 0)] H0
noncomputable def Sh.sniff_names (H0 : AHeap) : Out :=
  afterA (allocA (some [(.str []), (.str []), (.str []), (.str []), (.str []), (.str [])]) H0) fun x1 H2 =>
  (buildA (some [(.str []), (.str []), (.str []), (.str []), (.str []), (.str [])]) [(1, 1, (.str [112, 108, 97, 105, 110])), (2, 1, (.str [108, 105, 102, 101, 49, 48, 53])), (3, 1, (.str [108, 105, 102, 101, 49, 48, 54])), (4, 1, (.str [114, 108, 101])), (5, 1, (.str [109, 99]))]).bind fun x3 =>
  bindK .pure H0 (retH (storeA 6 x1 x3 H2)) fun _ H5 =>
  (loadA true 6 x1 H5).bind fun x6 => fin .pure H0 (.ret x6) H5
noncomputable def Sh.sniff_Name (format_1 : AVal) (H0 : AHeap) : Out :=
  (binA .none .lss format_1 (.int .i64 1)).bind fun x2 =>
  (wantV x2 false).bind fun x3 =>
  (gR x3 (some format_1)).bind fun x4 =>
  (wantV x2 false).bind fun x5 =>
  (gR x5 (binA .none .gtr x4 (.int .i64 5))).bind fun x6 =>
  (condV x2 (.bool true) x6).bind fun x7 =>
  condA x7 (
    fin .keep H0 (.ret (.str [])) H0) (
    bindK .keep H0 (Sh.sniff_names H0) fun x8 H9 =>
    (idxAgg false 6 1 x8 format_1).bind fun x10 =>
    fin .keep H0 (.ret x10) H9)
noncomputable def Sh.sniff_Named_l1 (H0 : AHeap) (rec1 : List AVal → AHeap → Out) (s_4 x5 x6 : AVal) (H7 : AHeap) : Out :=
  (binA .none .lss x6 (.int .i64 6)).bind fun x8 =>
  condA x8 (
    (idxAgg false 6 1 x5 x6).bind fun x9 =>
    (binA .none .neq s_4 (.str [])).bind fun x10 =>
    (wantV x10 true).bind fun x11 =>
    (gR x11 (some x9)).bind fun x12 =>
    (wantV x10 true).bind fun x13 =>
    (gR x13 (some s_4)).bind fun x14 =>
    (wantV x10 true).bind fun x15 =>
    (gR x15 (binA .none .eql x12 x14)).bind fun x16 =>
    (condV x10 x16 (.bool false)).bind fun x17 =>
    condA x17 (
      fin .keep H0 (.ret x6) H7) (
      (binA .none .add x6 (.int .i64 1)).bind fun x18 =>
      rec1 [s_4, x5, x18] H7)) (
    fin .keep H0 (.ret (.int .i64 0)) H7)
noncomputable def Sh.sniff_Named (s_1 : AVal) (H0 : AHeap) : Out :=
  bindK .keep H0 (Sh.sniff_names H0) fun x2 H3 =>
  loopGen (fun rec1 vs H => Sh.sniff_Named_l1 H0 rec1 (vs.getD 0 .undef) (vs.getD 1 .undef) (vs.getD 2 .undef) H) FUEL [s_1, x2, (.int .i64 0)] H3
noncomputable def Sh.gliderlaw20_alive (H0 : AHeap) : Out :=
  bindK .keep H0 (Sh.sniff_Of (.str [35, 78, 32, 103, 108, 105, 100, 101, 114]) H0) fun x1 H2 =>
  (binA .none .eql x1 (.int .i64 4)).bind fun x3 =>
  (wantV x3 true).bind fun x4 =>
  bindK .keep H0 (gE x4 H2 (Sh.sniff_Of (.str [91, 77, 50, 93]) H2)) fun x5 H6 =>
  (wantV x3 true).bind fun x7 =>
  (gR x7 (binA .none .eql x5 (.int .i64 5))).bind fun x8 =>
  (condV x3 x8 (.bool false)).bind fun x9 =>
  (wantV x9 true).bind fun x10 =>
  bindK .keep H0 (gE x10 H6 (Sh.sniff_Of (.str [35, 76, 105, 102, 101, 32, 49, 46, 48, 53]) H6)) fun x11 H12 =>
  (wantV x9 true).bind fun x13 =>
  (gR x13 (binA .none .eql x11 (.int .i64 2))).bind fun x14 =>
  (condV x9 x14 (.bool false)).bind fun x15 =>
  (wantV x15 true).bind fun x16 =>
  bindK .keep H0 (gE x16 H12 (Sh.sniff_Of (.str [35, 76, 105, 102, 101, 32, 49, 46, 48, 54, 120]) H12)) fun x17 H18 =>
  (wantV x15 true).bind fun x19 =>
  (gR x19 (binA .none .eql x17 (.int .i64 3))).bind fun x20 =>
  (condV x15 x20 (.bool false)).bind fun x21 =>
  (wantV x21 true).bind fun x22 =>
  bindK .keep H0 (gE x22 H18 (Sh.sniff_Of (.str [35, 76, 105, 102, 101, 32, 49, 46, 48]) H18)) fun x23 H24 =>
  (wantV x21 true).bind fun x25 =>
  (gR x25 (binA .none .eql x23 (.int .i64 4))).bind fun x26 =>
  (condV x21 x26 (.bool false)).bind fun x27 =>
  (wantV x27 true).bind fun x28 =>
  bindK .keep H0 (gE x28 H24 (Sh.sniff_Of (.str [79]) H24)) fun x29 H30 =>
  (wantV x27 true).bind fun x31 =>
  (gR x31 (binA .none .eql x29 (.int .i64 1))).bind fun x32 =>
  (condV x27 x32 (.bool false)).bind fun x33 =>
  (wantV x33 true).bind fun x34 =>
  bindK .keep H0 (gE x34 H30 (Sh.sniff_Of (.str []) H30)) fun x35 H36 =>
  (wantV x33 true).bind fun x37 =>
  (gR x37 (binA .none .eql x35 (.int .i64 0))).bind fun x38 =>
  (condV x33 x38 (.bool false)).bind fun x39 =>
  (wantV x39 true).bind fun x40 =>
  bindK .keep H0 (gE x40 H36 (Sh.sniff_Of (.str [111]) H36)) fun x41 H42 =>
  (wantV x39 true).bind fun x43 =>
  (gR x43 (binA .none .eql x41 (.int .i64 0))).bind fun x44 =>
  (condV x39 x44 (.bool false)).bind fun x45 =>
  (wantV x45 true).bind fun x46 =>
  bindK .keep H0 (gE x46 H42 (Sh.sniff_Name (.int .i64 4) H42)) fun x47 H48 =>
  (wantV x45 true).bind fun x49 =>
  (gR x49 (binA .none .eql x47 (.str [114, 108, 101]))).bind fun x50 =>
  (condV x45 x50 (.bool false)).bind fun x51 =>
  (wantV x51 true).bind fun x52 =>
  bindK .keep H0 (gE x52 H48 (Sh.sniff_Name (.int .i64 6) H48)) fun x53 H54 =>
  (wantV x51 true).bind fun x55 =>
  (gR x55 (binA .none .eql x53 (.str []))).bind fun x56 =>
  (condV x51 x56 (.bool false)).bind fun x57 =>
  (wantV x57 true).bind fun x58 =>
  bindK .keep H0 (gE x58 H54 (Sh.sniff_Named (.str [109, 99]) H54)) fun x59 H60 =>
  (wantV x57 true).bind fun x61 =>
  (gR x61 (binA .none .eql x59 (.int .i64 5))).bind fun x62 =>
  (condV x57 x62 (.bool false)).bind fun x63 =>
  (wantV x63 true).bind fun x64 =>
  bindK .keep H0 (gE x64 H60 (Sh.sniff_Named (.str [77, 67]) H60)) fun x65 H66 =>
  (wantV x63 true).bind fun x67 =>
  (gR x67 (binA .none .eql x65 (.int .i64 0))).bind fun x68 =>
  (condV x63 x68 (.bool false)).bind fun x69 =>
  fin .keep H0 (.ret x69) H66
noncomputable def Sh.gliderref20_begins (b_1 s_2 : AVal) (H0 : AHeap) : Out :=
  (lenStr b_1).bind fun x3 =>
  (lenStr s_2).bind fun x4 =>
  (binA .none .geq x3 x4).bind fun x5 =>
  (wantV x5 true).bind fun x6 =>
  (gR x6 (some b_1)).bind fun x7 =>
  (wantV x5 true).bind fun x8 =>
  (gR x8 (some s_2)).bind fun x9 =>
  (wantV x5 true).bind fun x10 =>
  (gR x10 (lenStr x9)).bind fun x11 =>
  (wantV x5 true).bind fun x12 =>
  (gR x12 (sliceStr x7 none (some x11))).bind fun x13 =>
  (wantV x5 true).bind fun x14 =>
  (gR x14 (some s_2)).bind fun x15 =>
  (wantV x5 true).bind fun x16 =>
  (gR x16 (binA .none .eql x13 x15)).bind fun x17 =>
  (condV x5 x17 (.bool false)).bind fun x18 =>
  fin .keep H0 (.ret x18) H0
noncomputable def Sh.gliderref20_Of (b_1 : AVal) (H0 : AHeap) : Out :=
  bindK .keep H0 (Sh.gliderref20_begins b_1 (.str [91, 77, 50, 93]) H0) fun x2 H3 =>
  condA x2 (
    fin .keep H0 (.ret (.int .i64 5)) H3) (
    bindK .keep H0 (Sh.gliderref20_begins b_1 (.str [35, 76, 105, 102, 101, 32, 49, 46, 48, 53]) H3) fun x4 H5 =>
    condA x4 (
      fin .keep H0 (.ret (.int .i64 2)) H5) (
      bindK .keep H0 (Sh.gliderref20_begins b_1 (.str [35, 76, 105, 102, 101, 32, 49, 46, 48, 54]) H5) fun x6 H7 =>
      condA x6 (
        fin .keep H0 (.ret (.int .i64 3)) H7) (
        bindK .keep H0 (Sh.gliderref20_begins b_1 (.str [35]) H7) fun x8 H9 =>
        (wantV x8 false).bind fun x10 =>
        (gR x10 (some b_1)).bind fun x11 =>
        (wantV x8 false).bind fun x12 =>
        bindK .keep H0 (gE x12 H9 (Sh.gliderref20_begins x11 (.str [120]) H9)) fun x13 H14 =>
        (condV x8 (.bool true) x13).bind fun x15 =>
        condA x15 (
          fin .keep H0 (.ret (.int .i64 4)) H14) (
          bindK .keep H0 (Sh.gliderref20_begins b_1 (.str [33]) H14) fun x16 H17 =>
          (wantV x16 false).bind fun x18 =>
          (gR x18 (some b_1)).bind fun x19 =>
          (wantV x16 false).bind fun x20 =>
          bindK .keep H0 (gE x20 H17 (Sh.gliderref20_begins x19 (.str [46]) H17)) fun x21 H22 =>
          (condV x16 (.bool true) x21).bind fun x23 =>
          (wantV x23 false).bind fun x24 =>
          (gR x24 (some b_1)).bind fun x25 =>
          (wantV x23 false).bind fun x26 =>
          bindK .keep H0 (gE x26 H22 (Sh.gliderref20_begins x25 (.str [79]) H22)) fun x27 H28 =>
          (condV x23 (.bool true) x27).bind fun x29 =>
          (wantV x29 false).bind fun x30 =>
          (gR x30 (some b_1)).bind fun x31 =>
          (wantV x29 false).bind fun x32 =>
          bindK .keep H0 (gE x32 H28 (Sh.gliderref20_begins x31 (.str [10]) H28)) fun x33 H34 =>
          (condV x29 (.bool true) x33).bind fun x35 =>
          (wantV x35 false).bind fun x36 =>
          (gR x36 (some b_1)).bind fun x37 =>
          (wantV x35 false).bind fun x38 =>
          bindK .keep H0 (gE x38 H34 (Sh.gliderref20_begins x37 (.str [13]) H34)) fun x39 H40 =>
          (condV x35 (.bool true) x39).bind fun x41 =>
          condA x41 (
            fin .keep H0 (.ret (.int .i64 1)) H40) (
            fin .keep H0 (.ret (.int .i64 0)) H40)))))
noncomputable def Sh.gliderref20_names (H0 : AHeap) : Out :=
  (buildSl 1 [(.str [112, 108, 97, 105, 110]), (.str [108, 105, 102, 101, 49, 48, 53]), (.str [108, 105, 102, 101, 49, 48, 54]), (.str [114, 108, 101]), (.str [109, 99])]).bind fun x1 =>
  fin .keep H0 (.ret x1) H0
noncomputable def Sh.gliderref20_Name (format_1 : AVal) (H0 : AHeap) : Out :=
  (binA .none .lss format_1 (.int .i64 1)).bind fun x2 =>
  (wantV x2 false).bind fun x3 =>
  (gR x3 (some format_1)).bind fun x4 =>
  (wantV x2 false).bind fun x5 =>
  (gR x5 (binA .none .gtr x4 (.int .i64 5))).bind fun x6 =>
  (condV x2 (.bool true) x6).bind fun x7 =>
  condA x7 (
    fin .keep H0 (.ret (.str [])) H0) (
    bindK .keep H0 (Sh.gliderref20_names H0) fun x8 H9 =>
    (binA .none .sub format_1 (.int .i64 1)).bind fun x10 =>
    (idxSl 1 x8 x10).bind fun x11 =>
    (loadA false 1 x11 H9).bind fun x12 =>
    fin .keep H0 (.ret x12) H9)
noncomputable def Sh.gliderref20_Named_l1 (H0 : AHeap) (rec1 : List AVal → AHeap → Out) (s_4 l_5 i_6 : AVal) (H7 : AHeap) : Out :=
  (lenSl l_5).bind fun x8 =>
  (binA .none .lss i_6 x8).bind fun x9 =>
  condA x9 (
    (idxSl 1 l_5 i_6).bind fun x10 =>
    (loadA false 1 x10 H7).bind fun x11 =>
    (binA .none .eql x11 s_4).bind fun x12 =>
    condA x12 (
      (binA .none .add i_6 (.int .i64 1)).bind fun x13 =>
      fin .keep H0 (.ret x13) H7) (
      (binA .none .add i_6 (.int .i64 1)).bind fun x14 =>
      rec1 [s_4, l_5, x14] H7)) (
    fin .keep H0 (.ret (.int .i64 0)) H7)
noncomputable def Sh.gliderref20_Named (s_1 : AVal) (H0 : AHeap) : Out :=
  bindK .keep H0 (Sh.gliderref20_names H0) fun x2 H3 =>
  loopGen (fun rec1 vs H => Sh.gliderref20_Named_l1 H0 rec1 (vs.getD 0 .undef) (vs.getD 1 .undef) (vs.getD 2 .undef) H) FUEL [s_1, x2, (.int .i64 0)] H3
noncomputable def Sh.gliderlaw20_SniffTells (b_1 n_2 : AVal) (H0 : AHeap) : Out :=
  bindK .keep H0 (Sh.gliderlaw20_alive H0) fun x3 H4 =>
  (unA .not x3).bind fun x5 =>
  condA x5 (
    fin .keep H0 (.ret (.bool false)) H4) (
    bindK .keep H0 (Sh.sniff_Of b_1 H4) fun x6 H7 =>
    bindK .keep H0 (Sh.gliderref20_Of b_1 H7) fun x8 H9 =>
    (binA .none .eql x6 x8).bind fun x10 =>
    (wantV x10 true).bind fun x11 =>
    (gR x11 (some n_2)).bind fun x12 =>
    (wantV x10 true).bind fun x13 =>
    bindK .keep H0 (gE x13 H9 (Sh.sniff_Name x12 H9)) fun x14 H15 =>
    (wantV x10 true).bind fun x16 =>
    (gR x16 (some n_2)).bind fun x17 =>
    (wantV x10 true).bind fun x18 =>
    bindK .keep H0 (gE x18 H15 (Sh.gliderref20_Name x17 H15)) fun x19 H20 =>
    (wantV x10 true).bind fun x21 =>
    (gR x21 (binA .none .eql x14 x19)).bind fun x22 =>
    (condV x10 x22 (.bool false)).bind fun x23 =>
    (wantV x23 true).bind fun x24 =>
    (gR x24 (some b_1)).bind fun x25 =>
    (wantV x23 true).bind fun x26 =>
    bindK .keep H0 (gE x26 H20 (Sh.sniff_Named x25 H20)) fun x27 H28 =>
    (wantV x23 true).bind fun x29 =>
    (gR x29 (some b_1)).bind fun x30 =>
    (wantV x23 true).bind fun x31 =>
    bindK .keep H0 (gE x31 H28 (Sh.gliderref20_Named x30 H28)) fun x32 H33 =>
    (wantV x23 true).bind fun x34 =>
    (gR x34 (binA .none .eql x27 x32)).bind fun x35 =>
    (condV x23 x35 (.bool false)).bind fun x36 =>
    fin .keep H0 (.ret x36) H33)
noncomputable def Sh.gliderlaw20_SniffTen (b_1 more_2 : AVal) (H0 : AHeap) : Out :=
  bindK .keep H0 (Sh.gliderlaw20_alive H0) fun x3 H4 =>
  (unA .not x3).bind fun x5 =>
  condA x5 (
    fin .keep H0 (.ret (.bool false)) H4) (
    (lenStr b_1).bind fun x6 =>
    (binA .none .lss x6 (.int .i64 10)).bind fun x7 =>
    condA x7 (
      fin .keep H0 (.ret (.bool true)) H4) (
      (binA .none .add b_1 more_2).bind fun x8 =>
      bindN (Sh.sniff_Of x8 H4) fun x9 H10 =>
      (sliceStr b_1 none (some (.int .i64 10))).bind fun x11 =>
      bindN (Sh.sniff_Of x11 H10) fun x12 H13 =>
      (binA .none .eql x9 x12).bind fun x14 =>
      (wantV x14 true).bind fun x15 =>
      (gR x15 (some b_1)).bind fun x16 =>
      (wantV x14 true).bind fun x17 =>
      (gR x17 (sliceStr x16 none (some (.int .i64 10)))).bind fun x18 =>
      (wantV x14 true).bind fun x19 =>
      (gR x19 (some more_2)).bind fun x20 =>
      (wantV x14 true).bind fun x21 =>
      (gR x21 (binA .none .add x18 x20)).bind fun x22 =>
      (wantV x14 true).bind fun x23 =>
      bindN (gE x23 H13 (Sh.sniff_Of x22 H13)) fun x24 H25 =>
      (wantV x14 true).bind fun x26 =>
      (gR x26 (some b_1)).bind fun x27 =>
      (wantV x14 true).bind fun x28 =>
      bindN (gE x28 H25 (Sh.sniff_Of x27 H25)) fun x29 H30 =>
      (wantV x14 true).bind fun x31 =>
      (gR x31 (binA .none .eql x24 x29)).bind fun x32 =>
      (condV x14 x32 (.bool false)).bind fun x33 =>
      fin .keep H0 (.ret x33) H30))
end Go.Gm
