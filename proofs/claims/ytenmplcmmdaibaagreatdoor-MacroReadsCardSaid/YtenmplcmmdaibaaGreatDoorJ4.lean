/- Texts of this proof, joined. -/
import Derived.Test.YtenmplcmmdaibaaGreatDoorJ1
import Derived.Test.YtenmplcmmdaibaaGreatDoorJ2
import Derived.Test.YtenmplcmmdaibaaGreatDoorJ3
import Derived.Test.YtenmplcmmdaibaaGreatDoorCards
import Derived.Test.YtenmplcmmdaibaaGreatDoorTie
import Derived.WalkKit
import Derived.ProofKit
import Derived.OpenShut
import Derived.Deep.DeepHandedRow
import Derived.Lib.LaidTab
set_option linter.unusedVariables false
set_option linter.unusedSimpArgs false
namespace Go.Gm
open Go.Proofs
set_option maxRecDepth 100000
noncomputable def Hm : Orc := noO
theorem GZ : T1 Tryz.prog Gs false Hm Tryz.f34 (.two .leaf (.two .leaf (.two .leaf (.two (.two .leaf (.one (.loop [0, 3, 4] (.two (.two .leaf (.two .leaf .leaf)) (.two (.one (.two .leaf (.two (.two .leaf (.one (.loop [0, 3, 4, 5, 6] (.two (.two .leaf (.two .leaf .leaf)) (.two (.one (.two .leaf .leaf)) .leaf))))) .leaf))) .leaf))))) (.two .leaf .leaf))))) .pureN Sh.f9 := by unfold T1; intros; kernel_rfl
theorem Cb : AE Tryz.prog Gs 34 (ap1 Sh.f9) := Bg mixed (Av _ _) Tryz.func34 (by kernel_rfl) GZ
noncomputable def In : Orc := (ent 34 (ap1 Sh.f9) noO)
theorem HV : T2 Tryz.prog Gs false In Tryz.f61 (.two .leaf (.two (.two .leaf (.two (.two .leaf .leaf) .leaf)) (.two .leaf (.two (.two .leaf (.one (.loop [0, 1, 5, 6] (.two (.two .leaf (.two .leaf .leaf)) (.two (.one (.two .leaf (.two .leaf (.one (.loop [0, 1, 5, 6, 7, 8] (.two (.two .leaf (.two .leaf .leaf)) (.two (.one (.two .leaf (.two .leaf (.two (.two .leaf .leaf) .leaf)))) .leaf))))))) .leaf))))) (.two .leaf .leaf))))) .keep Sh.f12 := by unfold T2; intros; kernel_rfl
theorem Et : AE Tryz.prog Gs 61 (ap2 Sh.f12) := Bn mixed ((Ah Cb (Av _ _))) Tryz.func61 (by kernel_rfl) HV
noncomputable def M7 (m : Nat) : Orc := ent 65 (ap3 (Sh.fc m)) noO
theorem Mt (m : Nat) : T3 Tryz.prog Gs false (M7 m) Tryz.f65 (.two .leaf (.two (.two .leaf (.one (.loop [0, 1, 2, 7] (.two (.two .leaf (.two .leaf .leaf)) (.two (.one (.two .leaf (.two (.two .leaf .leaf) .leaf))) .leaf))))) (.two (.two .leaf (.one (.loop [0, 1, 2, 8] (.two (.two .leaf (.two .leaf .leaf)) (.join [0, 1, 2, 8] (.one (.two .leaf (.two .leaf .leaf))) .leaf))))) (.two .leaf .leaf)))) .keep (Sh.fc (m + 1)) := by unfold T3; intros; kernel_rfl
theorem F4 : ∀ m, AE Tryz.prog Gs 65 (ap3 (Sh.fc m))
 | 0 => none_ok3 fun _ _ _ _ => rfl
 | m + 1 => EH mixed (Ah (F4 m) (Av _ _)) Tryz.func65 (by kernel_rfl) (Mt m)
noncomputable def J6 : Orc := (ent 15 (ap1 Sh.fh) (ent 61 (ap2 Sh.f12) (ent 34 (ap1 Sh.f9) (ent 65 (ap3 (Sh.fc AC)) noO))))
theorem Jm : T1 Tryz.prog Gs false J6 Tryz.f36 (.two .leaf (.two .leaf (.two (.two .leaf (.two (.two .leaf .leaf) .leaf)) (.two (.two .leaf (.two (.two .leaf .leaf) .leaf)) (.two .leaf (.two (.two .leaf (.one (.loop [3, 4, 5] (.two (.two .leaf (.two .leaf .leaf)) (.two (.one (.two (.two .leaf (.two (.two .leaf .leaf) .leaf)) (.two .leaf (.one (.loop [3, 4, 5, 6] (.two (.two .leaf (.two .leaf .leaf)) (.two (.one (.two (.reg [0, 1, 2, 3, 4, 5, 6, 7, 8]) (.two (.two .leaf .leaf) .leaf))) .leaf))))))) .leaf))))) (.two .leaf (.two (.two .leaf (.one (.loop [3, 7, 8] (.two (.two .leaf (.two .leaf .leaf)) (.two (.one (.two .leaf (.two (.two .leaf .leaf) .leaf))) .leaf))))) (.two .leaf .leaf))))))))) .pure Sh.f2m := by unfold T1; intros; kernel_rfl
theorem ID : AE Tryz.prog Gs 36 (ap1 Sh.f2m) := Bg mixed ((Ah EL ((Ah Et ((Ah Cb ((Ah (F4 AC) (Av _ _))))))))) Tryz.func36 (by kernel_rfl) Jm
noncomputable def J4 : Orc := (ent 35 (ap1 Sh.f2l) (ent 36 (ap1 Sh.f2m) noO))
theorem Jk : T1 Tryz.prog Gs false J4 Tryz.f12 (.two .leaf (.two .leaf .leaf)) .pure Sh.f13 := by unfold T1; intros; kernel_rfl
theorem IC : AE Tryz.prog Gs 12 (ap1 Sh.f13) := Bg mixed ((Ah JZ ((Ah ID (Av _ _))))) Tryz.func12 (by kernel_rfl) Jk
noncomputable def Lh : Orc := noO
theorem K1 : T1 Tryz.prog Gs false Lh Tryz.f66 (.two .leaf (.two .leaf (.two (.two .leaf (.one (.loop [1, 3, 4] (.two (.two .leaf (.two .leaf .leaf)) (.two (.one (.two .leaf (.one (.loop [1, 3, 4, 5] (.two (.two .leaf (.two .leaf .leaf)) (.two (.one .leaf) .leaf)))))) .leaf))))) (.two .leaf .leaf)))) .pure Sh.f1m := by unfold T1; intros; kernel_rfl
theorem JV : AE Tryz.prog Gs 66 (ap1 Sh.f1m) := Bg mixed (Av _ _) Tryz.func66 (by kernel_rfl) K1
noncomputable def J9 : Orc := noO
theorem Jp : T1 Tryz.prog Gs false J9 Tryz.f67 (.two .leaf (.two (.two .leaf (.two (.two .leaf .leaf) .leaf)) (.two .leaf .leaf))) .pure Sh.f14 := by unfold T1; intros; kernel_rfl
theorem IF : AE Tryz.prog Gs 67 (ap1 Sh.f14) := Bg mixed (Av _ _) Tryz.func67 (by kernel_rfl) Jp
noncomputable def Lj : Orc := noO
theorem K3 : T2 Tryz.prog Gs false Lj Tryz.f68 (.two .leaf (.two .leaf (.two .leaf (.two (.two .leaf (.two (.two .leaf .leaf) .leaf)) (.two (.one (.loop [1, 6, 7] (.two (.two .leaf (.two .leaf .leaf)) (.one (.two .leaf (.two (.two .leaf (.one (.loop [1, 6, 7, 8, 9] (.two (.two .leaf (.two .leaf .leaf)) (.join [1, 6, 7, 8, 9] (.one (.two .leaf (.two (.two .leaf (.two .leaf .leaf)) (.two .leaf (.two .leaf (.two .leaf .leaf)))))) .leaf))))) (.two .leaf .leaf))))))) (.two .leaf .leaf)))))) .pureN Sh.f2o := by unfold T2; intros; kernel_rfl
theorem JX : AE Tryz.prog Gs 68 (ap2 Sh.f2o) := Bn mixed (Av _ _) Tryz.func68 (by kernel_rfl) K3
noncomputable def MZ (m : Nat) : Orc := ent 88 (ap4 (Sh.fd m)) noO
theorem MR (m : Nat) : T4 Tryz.prog Gs false (MZ m) Tryz.f88 (.two .leaf (.two (.two .leaf (.two (.two .leaf .leaf) .leaf)) (.two .leaf (.two (.two .leaf (.one (.loop [0, 1, 2, 3, 9, 10] (.two (.two .leaf (.two .leaf .leaf)) (.two (.one .leaf) .leaf))))) (.two (.reg [0, 1, 2, 3, 4, 5, 6, 7, 8, 9, 10, 11, 12, 13, 14, 15]) (.two (.two .leaf (.two (.two .leaf .leaf) .leaf)) (.two (.reg [0, 1, 2, 3, 4, 5, 6, 7, 8, 9]) .leaf))))))) .keep (Sh.fd (m + 1)) := by unfold T4; intros; kernel_rfl
theorem FG : ∀ m, AE Tryz.prog Gs 88 (ap4 (Sh.fd m))
 | 0 => none_ok4 fun _ _ _ _ _ => rfl
 | m + 1 => fn_ok4 mixed (Ah (FG m) (Av _ _)) Tryz.func88 (by kernel_rfl) (MR m)
noncomputable def Ld : Orc := (ent 88 (ap4 (Sh.fd AC)) noO)
theorem Kx : T2 Tryz.prog Gs false Ld Tryz.f69 (.two .leaf (.two .leaf (.two (.two .leaf (.one (.loop [0, 1, 5, 6, 7] (.two (.two .leaf (.two .leaf .leaf)) (.join [0, 1, 5, 6, 7] (.one (.two .leaf (.two (.two .leaf (.one (.loop [0, 1, 5, 6, 7, 8, 9, 10] (.two (.two .leaf (.two .leaf .leaf)) (.join [0, 1, 5, 6, 7, 8, 9, 10] (.one (.two .leaf (.two (.two .leaf .leaf) .leaf))) .leaf))))) (.two .leaf (.two .leaf (.two .leaf .leaf)))))) .leaf))))) (.two .leaf .leaf)))) .keep Sh.f1n := by unfold T2; intros; kernel_rfl
theorem JR : AE Tryz.prog Gs 69 (ap2 Sh.f1n) := Bn mixed ((Ah (FG AC) (Av _ _))) Tryz.func69 (by kernel_rfl) Kx
noncomputable def M9 : Orc := noO
theorem Mv : T1 Tryz.prog Gs false M9 Tryz.f111 (.two .leaf (.two (.one (.loop [0] (.two (.two .leaf (.two .leaf .leaf)) (.one .leaf)))) (.two .leaf .leaf))) .keepN Sh.f15 := by unfold T1; intros; kernel_rfl
theorem F5 : AE Tryz.prog Gs 111 (ap1 Sh.f15) := Bg mixed (Av _ _) Tryz.func111 (by kernel_rfl) Mv
noncomputable def Lq : Orc := (ent 111 (ap1 Sh.f15) noO)
theorem KA : T1 Tryz.prog Gs false Lq Tryz.f102 (.two .leaf (.two .leaf (.two (.two .leaf (.one (.loop [0, 3, 4] (.two (.two .leaf (.two .leaf .leaf)) (.two (.one (.two .leaf (.two .leaf (.one (.loop [0, 3, 4, 5, 6] (.two (.two .leaf (.two .leaf .leaf)) (.two (.one .leaf) .leaf))))))) .leaf))))) (.two .leaf .leaf)))) .pureN Sh.f16 := by unfold T1; intros; kernel_rfl
theorem Ka : AE Tryz.prog Gs 102 (ap1 Sh.f16) := Bg mixed ((Ah F5 (Av _ _))) Tryz.func102 (by kernel_rfl) KA
noncomputable def Nc : Orc := (ent 111 (ap1 Sh.f15) noO)
theorem MU : T1 Tryz.prog Gs false Nc Tryz.f101 (.two .leaf (.two .leaf (.two .leaf (.two (.two .leaf (.one (.loop [0, 3, 4] (.two (.two .leaf (.two .leaf .leaf)) (.two (.one (.two .leaf (.two (.two .leaf (.one (.loop [0, 3, 4, 5, 6, 7] (.two (.two .leaf (.two .leaf .leaf)) (.two (.one (.join [0, 3, 4, 5, 6, 7] (.two .leaf (.two .leaf .leaf)) .leaf)) .leaf))))) .leaf))) .leaf))))) (.two .leaf .leaf))))) .pureN Sh.f2p := by unfold T1; intros; kernel_rfl
theorem MF : AE Tryz.prog Gs 101 (ap1 Sh.f2p) := Bg mixed ((Ah F5 (Av _ _))) Tryz.func101 (by kernel_rfl) MU
noncomputable def Lp : Orc := (ent 102 (ap1 Sh.f16) (ent 101 (ap1 Sh.f2p) noO))
theorem K9 : T1 Tryz.prog Gs false Lp Tryz.f89 (.two .leaf (.two .leaf .leaf)) .keepN Sh.fa := by unfold T1; intros; kernel_rfl
theorem Dt : AE Tryz.prog Gs 89 (ap1 Sh.fa) := Bg mixed ((Ah Ka ((Ah MF (Av _ _))))) Tryz.func89 (by kernel_rfl) K9
noncomputable def Lo : Orc := (ent 89 (ap1 Sh.fa) noO)
theorem K8 : T2 Tryz.prog Gs false Lo Tryz.f72 (.two .leaf (.two .leaf (.two .leaf .leaf))) .pureN Sh.f17 := by unfold T2; intros; kernel_rfl
theorem Fa : AE Tryz.prog Gs 72 (ap2 Sh.f17) := Bn mixed ((Ah Dt (Av _ _))) Tryz.func72 (by kernel_rfl) K8
noncomputable def Nb : Orc := (ent 72 (ap2 Sh.f17) noO)
theorem MT : T1 Tryz.prog Gs false Nb Tryz.f39 (.two .leaf (.two .leaf (.join [0, 2, 3] (.two .leaf (.two .leaf .leaf)) (.two .leaf .leaf)))) .pureN Sh.fq := by unfold T1; intros; kernel_rfl
theorem FH : AE Tryz.prog Gs 39 (ap1 Sh.fq) := Bg mixed ((Ah Fa (Av _ _))) Tryz.func39 (by kernel_rfl) MT
noncomputable def MB : Orc := (ent 89 (ap1 Sh.fa) noO)
theorem Mx : T2 Tryz.prog Gs false MB Tryz.f71 (.two .leaf (.two (.two .leaf (.two (.two .leaf .leaf) .leaf)) (.two .leaf (.two .leaf (.two (.two .leaf (.one (.loop [0, 1, 6, 7, 8] (.two (.two .leaf (.two .leaf .leaf)) (.two (.one (.two .leaf (.reg [0, 1, 2, 3, 4, 5, 6, 11, 12, 7, 8, 9, 10, 13]))) .leaf))))) (.two .leaf .leaf)))))) .pureN Sh.f2q := by unfold T2; intros; kernel_rfl
theorem LJ : AE Tryz.prog Gs 71 (ap2 Sh.f2q) := Bn mixed ((Ah Dt (Av _ _))) Tryz.func71 (by kernel_rfl) Mx
noncomputable def Ln : Orc := (ent 71 (ap2 Sh.f2q) noO)
theorem K7 : T1 Tryz.prog Gs false Ln Tryz.f38 (.two .leaf (.two .leaf (.two .leaf (.two (.one (.loop [1, 3, 4] (.one (.two .leaf (.two .leaf (.two .leaf (.two .leaf (.two .leaf .leaf)))))))) (.two (.two .leaf (.two (.two .leaf .leaf) .leaf)) (.two .leaf .leaf)))))) .pure Sh.fr := by unfold T1; intros; kernel_rfl
theorem EZ : AE Tryz.prog Gs 38 (ap1 Sh.fr) := Bg mixed ((Ah LJ (Av _ _))) Tryz.func38 (by kernel_rfl) K7
noncomputable def Il : Orc := (ent 39 (ap1 Sh.fq) (ent 38 (ap1 Sh.fr) noO))
theorem HT : T1 Tryz.prog Gs false Il Tryz.f70 (.two .leaf (.two .leaf .leaf)) .keep Sh.f18 := by unfold T1; intros; kernel_rfl
theorem HE : AE Tryz.prog Gs 70 (ap1 Sh.f18) := Bg mixed ((Ah FH ((Ah EZ (Av _ _))))) Tryz.func70 (by kernel_rfl) HT
noncomputable def J3 : Orc := (ent 66 (ap1 Sh.f1m) (ent 67 (ap1 Sh.f14) (ent 68 (ap2 Sh.f2o) (ent 69 (ap2 Sh.f1n) (ent 70 (ap1 Sh.f18) noO)))))
theorem Jj : T1 Tryz.prog Gs false J3 Tryz.f37 (.two .leaf (.two .leaf (.two .leaf (.two (.two .leaf (.two (.two .leaf (.two .leaf .leaf)) .leaf)) (.two .leaf (.two .leaf (.two (.two .leaf (.one (.loop [3, 4, 7, 8, 9] (.two (.two .leaf (.two .leaf .leaf)) (.join [3, 4, 7, 8, 9] (.one (.two (.two .leaf (.two .leaf .leaf)) (.two .leaf (.two (.two .leaf (.one (.loop [3, 4, 7, 8, 9, 10, 11] (.two (.two .leaf (.two .leaf .leaf)) (.two (.one (.two .leaf (.join [3, 4, 7, 8, 9, 10, 11, 12] (.two .leaf (.two .leaf .leaf)) .leaf))) .leaf))))) (.join [3, 4, 7, 8, 9, 10] (.two .leaf (.two .leaf .leaf)) (.two .leaf .leaf)))))) .leaf))))) (.two .leaf .leaf)))))))) .pureN Sh.f2s := by unfold T1; intros; kernel_rfl
theorem IB : AE Tryz.prog Gs 37 (ap1 Sh.f2s) := Bg mixed ((Ah JV ((Ah IF ((Ah JX ((Ah JR ((Ah HE (Av _ _))))))))))) Tryz.func37 (by kernel_rfl) Jj
noncomputable def Lc : Orc := (ent 12 (ap1 Sh.f13) (ent 37 (ap1 Sh.f2s) noO))
theorem Kw : T1 Tryz.prog Gs false Lc Tryz.f13 (.two .leaf (.two (.two .leaf (.two (.two .leaf .leaf) .leaf)) (.two .leaf (.two .leaf (.two (.two .leaf (.one (.loop [4, 5, 6] (.two (.two .leaf (.two .leaf .leaf)) (.two (.one .leaf) .leaf))))) (.two .leaf .leaf)))))) .pure Sh.fs := by unfold T1; intros; kernel_rfl
theorem JQ : AE Tryz.prog Gs 13 (ap1 Sh.fs) := Bg mixed ((Ah IC ((Ah IB (Av _ _))))) Tryz.func13 (by kernel_rfl) Kw
noncomputable def QE : Orc := (ent 20 (ap1 Sh.f1k) noO)
theorem Qj : T1 Tryz.prog Gs false QE Tryz.f18 (.two .leaf (.two .leaf (.two .leaf (.two (.reg [0, 1, 2, 3, 4, 5, 6, 7, 8, 9, 10, 11]) .leaf)))) .pure Sh.ft := by unfold T1; intros; kernel_rfl
theorem PH : AE Tryz.prog Gs 18 (ap1 Sh.ft) := Bg mixed ((Ah GL (Av _ _))) Tryz.func18 (by kernel_rfl) Qj
theorem IM : AE Tryz.prog Gs 14 (ap0 Sl.gliderref11_Wide) := by rw [Sl.gliderref11_Wide_eq]; exact JS
theorem HI : AE Tryz.prog Gs 8 (ap2 Sl.macro_Read) := by rw [Sl.macro_Read_eq]; exact PG
theorem IL : AE Tryz.prog Gs 13 (ap1 Sl.gliderref14_Text) := by rw [Sl.gliderref14_Text_eq]; exact JQ
end Go.Gm
namespace Go.Gm
open Go.Proofs
set_option maxRecDepth 100000
theorem OX : AE Tryz.prog Gs 18 (ap1 Sl.macro_Hint) := by rw [Sl.macro_Hint_eq]; exact PH
noncomputable def JE : Orc := (ent 14 (ap0 Sl.gliderref11_Wide) (ent 8 (ap2 Sl.macro_Read) (ent 13 (ap1 Sl.gliderref14_Text) (ent 18 (ap1 Sl.macro_Hint) noO))))
theorem Ju : T0 Tryz.prog Gs false JE Tryz.f7 (.two .leaf (.two .leaf (.two .leaf (.two .leaf (.two .leaf (.two .leaf (.two .leaf (.two .leaf (.two .leaf (.two .leaf (.two .leaf (.two .leaf .leaf)))))))))))) .pure Sh.fu := by unfold T0; intros; kernel_rfl
theorem IJ : AE Tryz.prog Gs 7 (ap0 Sh.fu) := fn_ok0 mixed ((Ah IM ((Ah HI ((Ah IL ((Ah OX (Av _ _))))))))) Tryz.func7 (by kernel_rfl) Ju
noncomputable def Lg : Orc := noO
theorem K0 : T1 Tryz.prog Gs false Lg Tryz.f23 (.two .leaf (.two .leaf .leaf)) .pure Sh.f2t := by unfold T1; intros; kernel_rfl
theorem JU : AE Tryz.prog Gs 23 (ap1 Sh.f2t) := Bg mixed (Av _ _) Tryz.func23 (by kernel_rfl) K0
noncomputable def Io : Orc := noO
theorem HW : T2 Tryz.prog Gs false Io Tryz.f52 (.two .leaf (.two .leaf (.two (.one (.loop [0, 1, 5] (.two (.two (.reg [0, 1, 2, 3, 4, 5, 6, 7, 8, 9, 10, 11, 12, 13, 14, 15, 16, 17, 18]) (.two .leaf .leaf)) (.one .leaf)))) (.two .leaf .leaf)))) .keep Sh.fv := by unfold T2; intros; kernel_rfl
theorem Eu : AE Tryz.prog Gs 52 (ap2 Sh.fv) := Bn mixed (Av _ _) Tryz.func52 (by kernel_rfl) HW
noncomputable def J2 : Orc := noO
theorem Ji : T1 Tryz.prog Gs false J2 Tryz.f27 (.two .leaf (.two .leaf .leaf)) .pure Sh.f3 := by unfold T1; intros; kernel_rfl
theorem AV : AE Tryz.prog Gs 27 (ap1 Sh.f3) := Bg mixed (Av _ _) Tryz.func27 (by kernel_rfl) Ji
noncomputable def KZ : Orc := (ent 27 (ap1 Sh.f3) noO)
theorem Kt : T1 Tryz.prog Gs false KZ Tryz.f53 (.two .leaf (.two .leaf (.two (.two .leaf (.two .leaf .leaf)) (.two .leaf .leaf)))) .pure Sh.f2 := by unfold T1; intros; kernel_rfl
theorem Bq : AE Tryz.prog Gs 53 (ap1 Sh.f2) := Bg mixed ((Ah AV (Av _ _))) Tryz.func53 (by kernel_rfl) Kt
noncomputable def M3 : Orc := (ent 52 (ap2 Sh.fv) (ent 53 (ap1 Sh.f2) noO))
theorem Mp : T2 Tryz.prog Gs false M3 Tryz.f24 (.two .leaf (.two (.two .leaf (.two (.two .leaf .leaf) .leaf)) (.two .leaf (.two .leaf (.two (.two .leaf (.two (.two .leaf .leaf) .leaf)) (.two .leaf .leaf)))))) .pure Sh.f6 := by unfold T2; intros; kernel_rfl
theorem D8 : AE Tryz.prog Gs 24 (ap2 Sh.f6) := Bn mixed ((Ah Eu ((Ah Bq (Av _ _))))) Tryz.func24 (by kernel_rfl) Mp
noncomputable def M6 : Orc := (ent 27 (ap1 Sh.f3) noO)
theorem Ms : T1 Tryz.prog Gs false M6 Tryz.f26 (.two .leaf (.two (.one (.loop [1, 2] (.two (.two .leaf (.two .leaf .leaf)) (.one .leaf)))) (.two .leaf .leaf))) .pure Sh.fe := by unfold T1; intros; kernel_rfl
theorem F3 : AE Tryz.prog Gs 26 (ap1 Sh.fe) := Bg mixed ((Ah AV (Av _ _))) Tryz.func26 (by kernel_rfl) Ms
noncomputable def M5 : Orc := (ent 27 (ap1 Sh.f3) (ent 53 (ap1 Sh.f2) noO))
theorem Mr : T1 Tryz.prog Gs false M5 Tryz.f25 (.two .leaf (.two (.two .leaf (.two (.two .leaf .leaf) .leaf)) (.join [1, 2] (.two .leaf (.two (.two .leaf (.two .leaf (.two (.two .leaf .leaf) .leaf))) .leaf)) (.two (.two .leaf (.two (.two .leaf .leaf) .leaf)) (.two .leaf (.two .leaf .leaf)))))) .pure Sh.fi := by unfold T1; intros; kernel_rfl
theorem LG : AE Tryz.prog Gs 25 (ap1 Sh.fi) := Bg mixed ((Ah AV ((Ah Bq (Av _ _))))) Tryz.func25 (by kernel_rfl) Mr
noncomputable def La : Orc := (ent 27 (ap1 Sh.f3) noO)
theorem Ku : T2 Tryz.prog Gs false La Tryz.f54 (.two .leaf (.two .leaf .leaf)) .pure Sh.f5 := by unfold T2; intros; kernel_rfl
theorem Ds : AE Tryz.prog Gs 54 (ap2 Sh.f5) := Bn mixed ((Ah AV (Av _ _))) Tryz.func54 (by kernel_rfl) Ku
noncomputable def Ip : Orc := noO
theorem HX : T2 Tryz.prog Gs false Ip Tryz.f98 (.two .leaf (.two .leaf (.two (.two .leaf (.one (.loop [0, 1, 5, 6] (.two (.two .leaf (.two .leaf .leaf)) (.two (.one .leaf) .leaf))))) (.two .leaf .leaf)))) .keep Sh.f2u := by unfold T2; intros; kernel_rfl
theorem HG : AE Tryz.prog Gs 98 (ap2 Sh.f2u) := Bn mixed (Av _ _) Tryz.func98 (by kernel_rfl) HX
noncomputable def MA : Orc := (ent 89 (ap1 Sh.fa) noO)
theorem Mw : T3 Tryz.prog Gs false MA Tryz.f99 (.two .leaf (.two .leaf (.two .leaf (.two (.two .leaf (.one (.loop [0, 1, 7, 8, 9] (.two (.two .leaf (.two .leaf .leaf)) (.two (.one (.two .leaf .leaf)) .leaf))))) (.two .leaf .leaf))))) .pureN Sh.f2v := by unfold T3; intros; kernel_rfl
theorem LI : AE Tryz.prog Gs 99 (ap3 Sh.f2v) := EH mixed ((Ah Dt (Av _ _))) Tryz.func99 (by kernel_rfl) Mw
noncomputable def JD : Orc := (ent 72 (ap2 Sh.f17) noO)
theorem Jt : T1 Tryz.prog Gs false JD Tryz.f100 (.two .leaf (.two .leaf .leaf)) .pureN Sh.f2w := by unfold T1; intros; kernel_rfl
theorem II : AE Tryz.prog Gs 100 (ap1 Sh.f2w) := Bg mixed ((Ah Fa (Av _ _))) Tryz.func100 (by kernel_rfl) Jt
noncomputable def JC : Orc := (ent 98 (ap2 Sh.f2u) (ent 99 (ap3 Sh.f2v) (ent 100 (ap1 Sh.f2w) noO)))
theorem Js : T1 Tryz.prog Gs false JC Tryz.f85 (.two .leaf (.two .leaf (.two .leaf (.join [2, 4, 5] (.two .leaf (.two .leaf .leaf)) (.two (.two .leaf (.two (.two .leaf .leaf) .leaf)) (.two (.two .leaf (.two (.two .leaf .leaf) .leaf)) (.two .leaf (.two (.two .leaf (.one (.loop [2, 4, 5, 6, 7] (.two (.two .leaf (.two .leaf .leaf)) (.two (.one .leaf) .leaf))))) (.two .leaf (.two (.two .leaf (.two (.two .leaf .leaf) .leaf)) (.two .leaf .leaf))))))))))) .pureN Sh.fw := by unfold T1; intros; kernel_rfl
theorem EM : AE Tryz.prog Gs 85 (ap1 Sh.fw) := Bg mixed ((Ah HG ((Ah LI ((Ah II (Av _ _))))))) Tryz.func85 (by kernel_rfl) Js
noncomputable def M4 : Orc := (ent 54 (ap2 Sh.f5) (ent 27 (ap1 Sh.f3) (ent 53 (ap1 Sh.f2) (ent 85 (ap1 Sh.fw) noO))))
theorem Mq : T2 Tryz.prog Gs false M4 Tryz.f55 (.two .leaf (.two (.two .leaf (.two (.two .leaf .leaf) .leaf)) (.two .leaf (.two .leaf (.join [2, 4, 5, 6, 7] (.two .leaf (.two .leaf .leaf)) (.two .leaf (.two (.one (.loop [2, 4, 5, 6, 7, 8] (.two (.two .leaf (.two .leaf .leaf)) (.one (.two (.two .leaf (.two (.two .leaf .leaf) .leaf)) (.two (.two .leaf (.two (.two .leaf (.two .leaf .leaf)) .leaf)) .leaf)))))) (.two (.two .leaf (.two (.two .leaf .leaf) .leaf)) (.two .leaf (.two (.reg [0, 2, 1, 3]) .leaf)))))))))) .pureN Sh.f19 := by unfold T2; intros; kernel_rfl
theorem LF : AE Tryz.prog Gs 55 (ap2 Sh.f19) := Bn mixed ((Ah Ds ((Ah AV ((Ah Bq ((Ah EM (Av _ _))))))))) Tryz.func55 (by kernel_rfl) Mq
noncomputable def Lb : Orc := (ent 27 (ap1 Sh.f3) (ent 64 (ap1 Sh.f11) (ent 53 (ap1 Sh.f2) noO)))
theorem Kv : T1 Tryz.prog Gs false Lb Tryz.f56 (.two .leaf (.two (.two .leaf (.two (.two .leaf .leaf) .leaf)) (.two .leaf (.two (.one (.loop [1, 2, 4] (.two (.two .leaf (.two .leaf .leaf)) (.one .leaf)))) (.two (.two .leaf (.two (.two .leaf .leaf) .leaf)) (.two (.reg [0, 7, 1, 2, 3, 4, 5, 6, 8]) .leaf)))))) .pure Sh.f1a := by unfold T1; intros; kernel_rfl
theorem JP : AE Tryz.prog Gs 56 (ap1 Sh.f1a) := Bg mixed ((Ah AV ((Ah EY ((Ah Bq (Av _ _))))))) Tryz.func56 (by kernel_rfl) Kv
noncomputable def KV : Orc := (ent 54 (ap2 Sh.f5) (ent 26 (ap1 Sh.fe) (ent 24 (ap2 Sh.f6) (ent 55 (ap2 Sh.f19) (ent 56 (ap1 Sh.f1a) (ent 53 (ap1 Sh.f2) noO))))))
theorem Ko : T2 Tryz.prog Gs false KV Tryz.f28 (.two .leaf (.two .leaf (.two (.one (.two .leaf (.two (.two (.reg [0, 1, 3, 2, 4]) .leaf) (.two .leaf (.two (.two .leaf (.two .leaf (.two (.reg [0, 2, 1, 3]) .leaf))) (.two .leaf (.two (.two .leaf (.two .leaf (.two (.reg [0, 2, 1, 3]) .leaf))) .leaf))))))) (.two (.reg [0, 1, 3, 2, 4]) .leaf)))) .pure Sh.f2x := by unfold T2; intros; kernel_rfl
theorem JL : AE Tryz.prog Gs 28 (ap2 Sh.f2x) := Bn mixed ((Ah Ds ((Ah F3 ((Ah D8 ((Ah LF ((Ah JP ((Ah Bq (Av _ _))))))))))))) Tryz.func28 (by kernel_rfl) Ko
noncomputable def Ij (m : Nat) : Orc := ent 57 (ap5 (Sh.fj m)) noO
theorem HR (m : Nat) : T5 Tryz.prog Gs false (Ij m) Tryz.f57 (.two .leaf (.two .leaf (.two (.two .leaf (.one (.loop [0, 2, 3, 4, 6, 12, 13] (.two (.two .leaf (.two .leaf .leaf)) (.two (.one .leaf) .leaf))))) (.two .leaf (.two (.two .leaf (.one (.loop [0, 2, 3, 4, 6, 12, 14, 15] (.two (.two .leaf (.two .leaf .leaf)) (.join [0, 2, 3, 4, 6, 12, 14, 15] (.one (.two .leaf (.two .leaf (.two .leaf .leaf)))) .leaf))))) (.two .leaf (.two .leaf .leaf))))))) .keep (Sh.fj (m + 1)) := by unfold T5; intros; kernel_rfl
theorem Es : ∀ m, AE Tryz.prog Gs 57 (ap5 (Sh.fj m))
 | 0 => N9 fun _ _ _ _ _ _ => rfl
 | m + 1 => fn_ok5 mixed (Ah (Es m) (Av _ _)) Tryz.func57 (by kernel_rfl) (HR m)
noncomputable def KW : Orc := (ent 54 (ap2 Sh.f5) (ent 53 (ap1 Sh.f2) (ent 57 (ap5 (Sh.fj AC)) noO)))
theorem Kq : T2 Tryz.prog Gs false KW Tryz.f29 (.two .leaf (.two .leaf (.two .leaf (.two (.one (.loop [2, 3, 4, 5, 6, 7, 8] (.two (.two .leaf (.two .leaf .leaf)) (.one (.two (.two .leaf (.two (.two (.reg [0, 1, 3, 2, 4]) .leaf) .leaf)) (.join [2, 3, 4, 5, 6, 7, 8] (.two .leaf (.one (.two .leaf (.two .leaf (.two .leaf (.two (.two .leaf .leaf) .leaf)))))) .leaf)))))) (.two .leaf (.two (.reg [0, 1, 2, 3, 4, 5, 6, 7, 8, 9, 10, 11, 12, 13, 14]) (.two (.reg [0, 2, 1, 3]) .leaf))))))) .keep Sh.f2z := by unfold T2; intros; kernel_rfl
theorem JM : AE Tryz.prog Gs 29 (ap2 Sh.f2z) := Bn mixed ((Ah Ds ((Ah Bq ((Ah (Es AC) (Av _ _))))))) Tryz.func29 (by kernel_rfl) Kq
noncomputable def KX : Orc := (ent 39 (ap1 Sh.fq) (ent 38 (ap1 Sh.fr) (ent 52 (ap2 Sh.fv) noO)))
theorem Kr : T3 Tryz.prog Gs false KX Tryz.f86 (.two .leaf (.two .leaf (.two .leaf (.join [0, 1, 5, 7, 8] (.two .leaf (.two .leaf .leaf)) (.two (.two .leaf (.one (.loop [0, 1, 5, 7, 8, 9] (.two (.two .leaf (.two .leaf .leaf)) (.join [0, 1, 5, 7, 8, 9] (.one (.two (.two .leaf (.two .leaf .leaf)) (.two .leaf (.two (.two .leaf (.two (.two .leaf .leaf) .leaf)) (.two .leaf (.two .leaf .leaf)))))) .leaf))))) (.two .leaf .leaf)))))) .pure Sh.f1b := by unfold T3; intros; kernel_rfl
theorem JN : AE Tryz.prog Gs 86 (ap3 Sh.f1b) := EH mixed ((Ah FH ((Ah EZ ((Ah Eu (Av _ _))))))) Tryz.func86 (by kernel_rfl) Kr
noncomputable def M8 : Orc := noO
theorem Mu : T1 Tryz.prog Gs false M8 Tryz.f87 (.two .leaf (.two .leaf (.two (.two .leaf (.one (.loop [1, 4, 5] (.two (.two .leaf (.two .leaf .leaf)) (.two (.one (.two (.two .leaf (.two (.two .leaf .leaf) .leaf)) .leaf)) .leaf))))) (.two (.two .leaf (.two (.two .leaf .leaf) .leaf)) (.two (.two .leaf (.two (.two .leaf .leaf) .leaf)) (.two .leaf .leaf)))))) .pure Sh.f1c := by unfold T1; intros; kernel_rfl
theorem LH : AE Tryz.prog Gs 87 (ap1 Sh.f1c) := Bg mixed (Av _ _) Tryz.func87 (by kernel_rfl) Mu
noncomputable def M1 : Orc := (ent 27 (ap1 Sh.f3) (ent 86 (ap3 Sh.f1b) (ent 53 (ap1 Sh.f2) (ent 85 (ap1 Sh.fw) (ent 87 (ap1 Sh.f1c) noO)))))
theorem Mn : T3 Tryz.prog Gs false M1 Tryz.f58 (.two .leaf (.two (.two .leaf (.two (.two .leaf .leaf) .leaf)) (.two .leaf (.two (.one (.loop [1, 3, 5, 6, 8] (.two (.two .leaf (.two .leaf .leaf)) (.one (.two (.two (.reg [0, 1, 2, 3, 4, 5, 6, 7, 8, 9, 10]) (.two (.two .leaf .leaf) .leaf)) .leaf))))) (.two .leaf (.two (.two .leaf (.two (.two .leaf .leaf) .leaf)) (.two .leaf (.two .leaf (.join [3, 6, 12] (.two .leaf (.two .leaf .leaf)) (.two .leaf .leaf)))))))))) .pure Sh.f1d := by unfold T3; intros; kernel_rfl
theorem LD : AE Tryz.prog Gs 58 (ap3 Sh.f1d) := EH mixed ((Ah AV ((Ah JN ((Ah Bq ((Ah EM ((Ah LH (Av _ _))))))))))) Tryz.func58 (by kernel_rfl) Mn
noncomputable def M2 : Orc := noO
theorem Mo : T2 Tryz.prog Gs false M2 Tryz.f59 (.two .leaf (.two .leaf (.two (.reg [0, 1, 2, 3, 4, 5, 6, 7, 8, 9, 10, 11, 12, 13, 14, 15, 16]) (.two .leaf .leaf)))) .keep Sh.f31 := by unfold T2; intros; kernel_rfl
theorem LE : AE Tryz.prog Gs 59 (ap2 Sh.f31) := Bn mixed (Av _ _) Tryz.func59 (by kernel_rfl) Mo
noncomputable def KU : Orc := (ent 27 (ap1 Sh.f3) (ent 53 (ap1 Sh.f2) (ent 24 (ap2 Sh.f6) (ent 58 (ap3 Sh.f1d) (ent 59 (ap2 Sh.f31) noO)))))
theorem Kn : T2 Tryz.prog Gs false KU Tryz.f30 (.two .leaf (.two .leaf (.two (.one (.loop [2, 3, 4, 5, 6] (.two (.two .leaf (.two .leaf .leaf)) (.one (.two (.two .leaf (.two (.two (.reg [0, 1, 3, 2, 4]) .leaf) .leaf)) (.two .leaf (.two (.two .leaf (.two (.two .leaf (.two (.reg [0, 2, 1, 3]) .leaf)) .leaf)) .leaf))))))) (.two (.two .leaf (.two (.two (.reg [0, 1, 3, 2, 4]) .leaf) .leaf)) (.two .leaf (.two (.two .leaf (.one (.loop [2, 3, 4, 5, 6, 7, 8] (.two (.two .leaf (.two .leaf .leaf)) (.two (.one (.two .leaf .leaf)) .leaf))))) (.two (.two .leaf (.two (.two (.reg [0, 2, 1, 3]) .leaf) .leaf)) (.two (.reg [1, 2, 3, 0, 4, 5]) .leaf)))))))) .keep Sh.f32 := by unfold T2; intros; kernel_rfl
theorem JK : AE Tryz.prog Gs 30 (ap2 Sh.f32) := Bn mixed ((Ah AV ((Ah Bq ((Ah D8 ((Ah LD ((Ah LE (Av _ _))))))))))) Tryz.func30 (by kernel_rfl) Kn
noncomputable def Ik : Orc := noO
theorem HS : T4 Tryz.prog Gs false Ik Tryz.f31 (.two .leaf (.two (.two .leaf (.two (.two (.reg [0, 5, 1, 2, 3, 4, 6, 7]) .leaf) .leaf)) (.two (.two .leaf (.two (.two (.reg [0, 4, 1, 2, 3, 5, 6]) .leaf) .leaf)) (.two .leaf .leaf)))) .pureN Sh.fk := by unfold T4; intros; kernel_rfl
theorem HD : AE Tryz.prog Gs 31 (ap4 Sh.fk) := fn_ok4 mixed (Av _ _) Tryz.func31 (by kernel_rfl) HS
end Go.Gm
namespace Go.Gm
open Go.Proofs
set_option maxRecDepth 100000
noncomputable def JB : Orc := (ent 34 (ap1 Sh.f9) noO)
theorem Jr : T2 Tryz.prog Gs false JB Tryz.f60 (.two .leaf (.two .leaf .leaf)) .keep Sh.f33 := by unfold T2; intros; kernel_rfl
theorem IH : AE Tryz.prog Gs 60 (ap2 Sh.f33) := Bn mixed ((Ah Cb (Av _ _))) Tryz.func60 (by kernel_rfl) Jr
noncomputable def JA : Orc := noO
theorem Jq : T3 Tryz.prog Gs false JA Tryz.f62 (.two .leaf (.two .leaf (.two (.two .leaf (.two (.two .leaf .leaf) .leaf)) (.two .leaf .leaf)))) .keep Sh.f34 := by unfold T3; intros; kernel_rfl
theorem IG : AE Tryz.prog Gs 62 (ap3 Sh.f34) := EH mixed (Av _ _) Tryz.func62 (by kernel_rfl) Jq
noncomputable def Im : Orc := (ent 60 (ap2 Sh.f33) (ent 61 (ap2 Sh.f12) (ent 62 (ap3 Sh.f34) noO)))
theorem HU : T2 Tryz.prog Gs false Im Tryz.f32 (.two .leaf (.two .leaf (.two (.two .leaf (.two (.two .leaf .leaf) .leaf)) (.two (.one (.loop [1, 6] (.two (.two .leaf (.two .leaf .leaf)) (.one (.two .leaf (.two (.two .leaf (.one (.loop [1, 6, 7, 8] (.two (.two .leaf (.two .leaf .leaf)) (.two (.one .leaf) .leaf))))) (.two .leaf .leaf))))))) (.two .leaf .leaf))))) .pureN Sh.f35 := by unfold T2; intros; kernel_rfl
theorem HF : AE Tryz.prog Gs 32 (ap2 Sh.f35) := Bn mixed ((Ah IH ((Ah Et ((Ah IG (Av _ _))))))) Tryz.func32 (by kernel_rfl) HU
noncomputable def Li : Orc := noO
theorem K2 : T2 Tryz.prog Gs false Li Tryz.f63 (.two .leaf (.two (.two .leaf (.one (.loop [0, 3, 5] (.two (.two .leaf (.two .leaf .leaf)) (.two (.one (.two (.reg [0, 1, 2, 3, 4, 5]) (.two (.two .leaf .leaf) .leaf))) .leaf))))) (.two .leaf .leaf))) .pure Sh.f36 := by unfold T2; intros; kernel_rfl
theorem JW : AE Tryz.prog Gs 63 (ap2 Sh.f36) := Bn mixed (Av _ _) Tryz.func63 (by kernel_rfl) K2
noncomputable def J5 (m : Nat) : Orc := ent 33 (ap5 (Sh.fl m)) (ent 63 (ap2 Sh.f36) noO)
theorem Jl (m : Nat) : T5 Tryz.prog Gs false (J5 m) Tryz.f33 (.two .leaf (.two (.two .leaf (.two (.two .leaf .leaf) .leaf)) (.two (.two .leaf (.two (.two (.reg [0, 1, 2, 3, 4, 5, 6, 7, 8]) .leaf) .leaf)) (.two .leaf (.two (.two .leaf (.one (.loop [0, 1, 2, 3, 4, 13, 14] (.two (.two .leaf (.two .leaf .leaf)) (.two (.one .leaf) .leaf))))) (.two .leaf (.join [2, 3, 4, 15] (.two .leaf (.two (.two .leaf .leaf) .leaf)) (.two .leaf (.two .leaf .leaf))))))))) .keep (Sh.fl (m + 1)) := by unfold T5; intros; kernel_rfl
theorem EK : ∀ m, AE Tryz.prog Gs 33 (ap5 (Sh.fl m))
 | 0 => N9 fun _ _ _ _ _ _ => rfl
 | m + 1 => fn_ok5 mixed (Ah (EK m) ((Ah JW (Av _ _)))) Tryz.func33 (by kernel_rfl) (Jl m)
noncomputable def Na : Orc := (ent 15 (ap1 Sh.fh) (ent 32 (ap2 Sh.f35) (ent 34 (ap1 Sh.f9) (ent 33 (ap5 (Sh.fl AC)) noO))))
theorem MS : T2 Tryz.prog Gs false Na Tryz.f11 (.two .leaf (.two (.two .leaf (.two (.two .leaf .leaf) .leaf)) (.two .leaf (.two (.reg [1, 2, 0, 3, 4, 5, 6, 7, 8, 9, 10, 11, 12, 13, 14, 15]) (.two .leaf .leaf))))) .pureN Sh.f1f := by unfold T2; intros; kernel_rfl
theorem ME : AE Tryz.prog Gs 11 (ap2 Sh.f1f) := Bn mixed ((Ah EL ((Ah HF ((Ah Cb ((Ah (EK AC) (Av _ _))))))))) Tryz.func11 (by kernel_rfl) MS
noncomputable def KY : Orc := (ent 23 (ap1 Sh.f2t) (ent 24 (ap2 Sh.f6) (ent 26 (ap1 Sh.fe) (ent 25 (ap1 Sh.fi) (ent 27 (ap1 Sh.f3) (ent 28 (ap2 Sh.f2x) (ent 29 (ap2 Sh.f2z) (ent 30 (ap2 Sh.f32) (ent 31 (ap4 Sh.fk) (ent 11 (ap2 Sh.f1f) noO))))))))))
theorem Ks : T2 Tryz.prog Gs false KY Tryz.f9 (.two .leaf (.two (.two .leaf (.two (.two .leaf .leaf) .leaf)) (.two .leaf (.two .leaf (.two .leaf (.two (.one (.loop [3, 4, 7, 8] (.two (.two .leaf (.two .leaf .leaf)) (.one (.two .leaf (.two .leaf (.join [3, 4, 7, 8] (.one (.two .leaf (.two .leaf (.two .leaf (.two .leaf (.two .leaf (.two .leaf .leaf))))))) .leaf))))))) (.two (.two .leaf (.two (.two .leaf .leaf) .leaf)) (.two .leaf (.join [3, 4, 7, 8, 11] (.two .leaf (.two .leaf .leaf)) (.two .leaf (.two .leaf .leaf))))))))))) .pureN Sh.fx := by unfold T2; intros; kernel_rfl
theorem JO : AE Tryz.prog Gs 9 (ap2 Sh.fx) := Bn mixed ((Ah JU ((Ah D8 ((Ah F3 ((Ah LG ((Ah AV ((Ah JL ((Ah JM ((Ah JK ((Ah HD ((Ah ME (Av _ _))))))))))))))))))))) Tryz.func9 (by kernel_rfl) Ks
noncomputable def J7 : Orc := noO
theorem Jn : T2 Tryz.prog Gs false J7 Tryz.f40 (.two .leaf (.two (.two .leaf (.two (.two .leaf .leaf) .leaf)) (.two (.two .leaf (.one (.loop [0, 1, 5] (.two (.two .leaf (.two .leaf .leaf)) (.two (.one (.two (.reg [0, 1, 2, 3, 4, 5, 6, 7, 8]) (.two (.two .leaf .leaf) .leaf))) .leaf))))) (.two .leaf .leaf)))) .keep Sh.f37 := by unfold T2; intros; kernel_rfl
theorem IE : AE Tryz.prog Gs 40 (ap2 Sh.f37) := Bn mixed (Av _ _) Tryz.func40 (by kernel_rfl) Jn
noncomputable def Lk : Orc := (ent 40 (ap2 Sh.f37) noO)
theorem K4 : T2 Tryz.prog Gs false Lk Tryz.f17 (.two .leaf (.two .leaf .leaf)) .pure Sh.f1g := by unfold T2; intros; kernel_rfl
theorem JY : AE Tryz.prog Gs 17 (ap2 Sh.f1g) := Bn mixed ((Ah IE (Av _ _))) Tryz.func17 (by kernel_rfl) K4
noncomputable def Lf : Orc := (ent 17 (ap2 Sh.f1g) noO)
theorem Kz : T2 Tryz.prog Gs false Lf Tryz.f10 (.two .leaf (.two .leaf .leaf)) .pure Sh.fy := by unfold T2; intros; kernel_rfl
theorem JT : AE Tryz.prog Gs 10 (ap2 Sh.fy) := Bn mixed ((Ah JY (Av _ _))) Tryz.func10 (by kernel_rfl) Kz
theorem HJ : AE Tryz.prog Gs 7 (ap0 Sl.gliderlaw19_alive) := by rw [Sl.gliderlaw19_alive_eq]; exact IJ
theorem IK : AE Tryz.prog Gs 9 (ap2 Sl.gliderref19_Read) := by rw [Sl.gliderref19_Read_eq]; exact JO
theorem IN : AE Tryz.prog Gs 10 (ap2 Sl.gliderref11_Same) := by rw [Sl.gliderref11_Same_eq]; exact JT
noncomputable def Gg : Orc := (ent 7 (ap0 Sl.gliderlaw19_alive) (ent 8 (ap2 Sl.macro_Read) (ent 9 (ap2 Sl.gliderref19_Read) (ent 10 (ap2 Sl.gliderref11_Same) noO))))
theorem Gb : T2 Tryz.prog Gs false Gg Tryz.f3 (.two .leaf (.two (.two .leaf (.two (.two .leaf .leaf) .leaf)) (.two (.two .leaf (.two (.two .leaf .leaf) .leaf)) (.two .leaf (.two .leaf (.two .leaf .leaf)))))) .pure Sh.f4y := by unfold T2; intros; kernel_rfl
theorem FR : AE Tryz.prog Gs 3 (ap2 Sh.f4y) := Bn mixed ((Ah HJ ((Ah HI ((Ah IK ((Ah IN (Av _ _))))))))) Tryz.func3 (by kernel_rfl) Gb
end Go.Gm
namespace Go.Gm
def FQ (l : List Bool) : List Bool := (l.reverse.dropWhile fun b => !b).reverse
theorem cutL_nil : FQ [] = [] := rfl
theorem OQ (l : List Bool) : FQ (l ++ [true]) = l ++ [true] := by simp [FQ]
theorem Np (l : List Bool) : FQ (l ++ [false]) = FQ l := by simp [FQ]
theorem MV {α : Type} (l : List α) : l = [] ∨ ∃ l' a, l = l' ++ [a] := by
 cases h : l.reverse with
 | nil => left; simpa using h
 | cons a r => right; exact ⟨r.reverse, a, by have := congrArg List.reverse h; simpa using this⟩
def C6 : Nat → Nat → List Bool
 | 0, _ => []
 | n + 1, x => (x % 2 == 1) :: C6 n (x / 2)
theorem GU : ∀ (n x : Nat), (C6 n x).length = n
 | 0, _ => rfl
 | n + 1, x => by simp [C6, GU n]
def Bu (l : List Nat) : List Bool := l.flatMap (C6 32)
theorem CP (l : List Nat) : (Bu l).length = 32 * l.length := by
 induction l with
 | nil => rfl
 | cons a l ih => simp only [Bu, List.flatMap_cons, List.length_append, GU, List.length_cons] at ih ⊢; omega
def Dx : List Bool → Nat
 | [] => 0
 | b :: l => (if b then 1 else 0) + 2 * Dx l
theorem Ft (l m : List Bool) : Dx (l ++ m) = Dx l + 2 ^ l.length * Dx m := by
 induction l with
 | nil => simp [Dx]
 | cons b l ih =>
  simp only [List.cons_append, Dx, ih, List.length_cons, Nat.pow_succ]
  rw [Nat.mul_add, ← Nat.add_assoc, Nat.mul_comm (2 ^ l.length) 2, Nat.mul_assoc]
theorem nat1_lt (l : List Bool) : Dx l < 2 ^ l.length := by
 induction l with
 | nil => simp [Dx]
 | cons b l ih => simp only [Dx, List.length_cons, Nat.pow_succ]; split <;> omega
def EA (c : List Bool) (q : Nat) : Nat := Dx ((c.drop (32 * q)).take 32)
def CX (c : List Bool) (q : Nat) : List Nat := (List.range q).map (EA c)
theorem Iv (c : List Bool) (q : Nat) : CX c (q + 1) = CX c q ++ [EA c q] := by simp [CX, List.range_succ]
theorem Ly (c : List Bool) (q : Nat) : (CX c q).length = q := by simp [CX]
def Iw (l : List Bool) : List Nat := CX (FQ l) (((FQ l).length + 31) / 32)
theorem cutL_le (l : List Bool) : (FQ l).length ≤ l.length := by
 unfold FQ
 rw [List.length_reverse]
 have := (List.dropWhile_sublist (p := fun b => !b) (l := l.reverse)).length_le
 simpa using this
def val : List Nat → Nat
 | [] => 0
 | a :: l => a + 4294967296 * val l
structure Nrm (l : List Nat) : Prop where
 lt : ∀ x ∈ l, x < 4294967296
 last : ∀ x, l.getLast? = some x → x ≠ 0
theorem Ea (l m : List Nat) : val (l ++ m) = val l + 4294967296 ^ l.length * val m := by
 induction l with
 | nil => simp [val]
 | cons b l ih =>
  simp only [List.cons_append, val, ih, List.length_cons, Nat.pow_succ]
  rw [Nat.mul_add, ← Nat.add_assoc, Nat.mul_comm (4294967296 ^ l.length) 4294967296, Nat.mul_assoc]
theorem Nrm.tail {a : Nat} {l : List Nat} (h : Nrm (a :: l)) : Nrm l :=
 ⟨fun x hx => h.lt x (by simp [hx]), fun x hx => h.last x (by cases l with | nil => simp at hx | cons b l => simpa [List.getLast?_cons_cons] using hx)⟩
theorem Nrm.zero : ∀ {l : List Nat}, Nrm l → val l = 0 → l = []
 | [], _, _ => rfl
 | a :: l, h, hv => by
  exfalso
  simp only [val] at hv
  have h1 : a = 0 := by omega
  have h2 : l = [] := h.tail.zero (by omega)
  subst h2
  exact h.last a (by simp) h1
theorem Nrm.inj : ∀ {l m : List Nat}, Nrm l → Nrm m → val l = val m → l = m
 | [], m, _, hm, h => (hm.zero (by simpa [val] using h.symm)).symm
 | a :: l, [], hl, _, h => hl.zero (by simpa [val] using h)
 | a :: l, b :: m, hl, hm, h => by
  have h1 := hl.lt a (by simp)
  have h2 := hm.lt b (by simp)
  simp only [val] at h
  have e1 : a = b := by omega
  have e2 : val l = val m := by omega
  rw [e1, Nrm.inj hl.tail hm.tail e2]
theorem val_bits (l : List Nat) (hx : ∀ x ∈ l, x < 4294967296) : Dx (Bu l) = val l := by
 have key : ∀ (n x : Nat), Dx (C6 n x) = x % 2 ^ n := by
  intro n
  induction n with
  | zero => intro x; simp [C6, Dx, Nat.mod_one]
  | succ n ih =>
   intro x
   simp only [C6, Dx, ih]
   rw [Nat.pow_succ, Nat.mul_comm (2 ^ n) 2, Nat.mod_mul]
   congr 1
   have : x % 2 < 2 := Nat.mod_lt _ (by omega)
   split
   ·rename_i h; have := of_decide_eq_true (p := x % 2 = 1) (by simpa using h); omega
   ·rename_i h; have : ¬ x % 2 = 1 := by simpa using h
    omega
 induction l with
 | nil => rfl
 | cons a l ih =>
  have e : Bu (a :: l) = C6 32 a ++ Bu l := rfl
  rw [e, Ft, key, GU, ih fun x h => hx x (by simp [h])]
  have := hx a (by simp)
  simp only [val]
  rw [Nat.mod_eq_of_lt (by omega)]
theorem QL (l : List Bool) : Dx (FQ l) = Dx l := by
 suffices h : ∀ r : List Bool, Dx (FQ r.reverse) = Dx r.reverse by have := h l.reverse; simpa using this
 intro r
 induction r with
 | nil => rfl
 | cons b r ih =>
  rw [List.reverse_cons]
  cases b with
  | true => rw [OQ]
  | false => rw [Np, ih, Ft]; simp [Dx]
theorem limbAt_lt (c : List Bool) (q : Nat) : EA c q < 4294967296 := by
 have h := nat1_lt ((c.drop (32 * q)).take 32)
 have h2 : ((c.drop (32 * q)).take 32).length ≤ 32 := by simp; omega
 have : 2 ^ ((c.drop (32 * q)).take 32).length ≤ 2 ^ 32 := Nat.pow_le_pow_right (by omega) h2
 unfold EA
 omega
theorem Pb (c : List Bool) : ∀ q, val (CX c q) = Dx (c.take (32 * q))
 | 0 => by simp [CX, val, Dx]
 | q + 1 => by
  rw [Iv, Ea, Pb c q, Ly]
  have e : c.take (32 * (q + 1)) = c.take (32 * q) ++ (c.drop (32 * q)).take 32 := by rw [Nat.mul_add, List.take_add]
  rw [e, Ft]
  by_cases h : 32 * q ≤ c.length
  ·have : (c.take (32 * q)).length = 32 * q := by simp; omega
   rw [this, show (4294967296 : Nat) = 2 ^ 32 from rfl, ← Nat.pow_mul]
   simp [val, EA]
  ·have : c.drop (32 * q) = [] := List.drop_of_length_le (by omega)
   simp [val, EA, this, Dx]
theorem cutL_end (l : List Bool) : FQ l = [] ∨ ∃ m, FQ l = m ++ [true] := by
 suffices h : ∀ r : List Bool, FQ r.reverse = [] ∨ ∃ m, FQ r.reverse = m ++ [true] by have := h l.reverse; simpa using this
 intro r
 induction r with
 | nil => exact .inl rfl
 | cons b r ih =>
  rw [List.reverse_cons]
  cases b with
  | true => rw [OQ]; exact .inr ⟨_, rfl⟩
  | false => rw [Np]; exact ih
theorem Pc (l : List Bool) : val (Iw l) = Dx l := by
 unfold Iw
 rw [Pb, List.take_of_length_le (by omega), QL]
theorem Pk (l : List Bool) : Nrm (Iw l) := by
 unfold Iw
 refine ⟨fun x hx => ?_, fun x hx => ?_⟩
 ·simp only [CX, List.mem_map] at hx
  obtain ⟨q, _, rfl⟩ := hx
  exact limbAt_lt _ _
 ·rcases cutL_end l with h | ⟨m, h⟩
  ·rw [h] at hx; simp [CX] at hx
  ·obtain ⟨Q, hQ⟩ : ∃ Q, ((FQ l).length + 31) / 32 = Q + 1 := ⟨((FQ l).length + 31) / 32 - 1, by rw [h]; simp; omega⟩
   have hlen : (FQ l).length = m.length + 1 := by rw [h]; simp
   rw [hQ, Iv] at hx
   simp at hx
   subst hx
   unfold EA
   rw [List.take_of_length_le (by simp; omega), h, List.drop_append_of_le_length (by omega), Ft]
   have : 0 < 2 ^ (m.drop (32 * Q)).length := Nat.two_pow_pos _
   simp [Dx]
def Ch (n : Nat) : List Nat := Iw (C6 n n)
theorem Ow (n : Nat) : n < 2 ^ n := Nat.lt_two_pow_self
theorem nat1_bitsOf (n x : Nat) : Dx (C6 n x) = x % 2 ^ n := by
 induction n generalizing x with
 | zero => simp [C6, Dx, Nat.mod_one]
 | succ n ih =>
  simp only [C6, Dx, ih]
  rw [Nat.pow_succ, Nat.mul_comm (2 ^ n) 2, Nat.mod_mul]
  congr 1
  split
  ·rename_i h; have := of_decide_eq_true (p := x % 2 = 1) (by simpa using h); omega
  ·rename_i h; have : ¬ x % 2 = 1 := by simpa using h
   omega
theorem Ew (n : Nat) : val (Ch n) = n := by
 unfold Ch
 rw [Pc, nat1_bitsOf, Nat.mod_eq_of_lt (Ow n)]
theorem N8 (n : Nat) : Nrm (Ch n) := Pk _
theorem Rb {l : List Nat} (h : Nrm l) : l = Ch (val l) := h.inj (N8 _) (Ew _).symm
theorem limbsOf_eq (l : List Bool) : Iw l = Ch (Dx l) := by rw [Rb (Pk l), Pc]
theorem pow10_le {k m : Nat} (h : 10 * k ≤ m) : 4294967296 ^ k ≤ 10 ^ m := by
 refine Nat.le_trans (Nat.pow_le_pow_left (show 4294967296 ≤ 10 ^ 10 by decide) k) ?_
 rw [← Nat.pow_mul]
 exact Nat.pow_le_pow_right (by omega) h
def Lim (l : List Nat) : Prop := ∀ x ∈ l, x < 4294967296
def sgn (neg : Bool) (n : Nat) : Bool := neg && decide (n ≠ 0)
theorem Hs : Ch 0 = [] := (N8 0).zero (Ew 0)
theorem lims_ne {n : Nat} (h : n ≠ 0) : Ch n ≠ [] := fun e => h (by have := Ew n; rw [e] at this; simpa [val] using this.symm)
def Gt (neg : Bool) (l : List Nat) : Int := if neg then -(val l : Int) else val l
theorem Lz (n : Nat) : Lim (Ch n) := (N8 n).lt
theorem lims_len {n k : Nat} (h : n < 4294967296 ^ k) : (Ch n).length ≤ k := by
 rcases Nat.lt_or_ge k (Ch n).length with h1 | h1
 ·exfalso
  rcases MV (Ch n) with e | ⟨m, a, e⟩
  ·rw [e] at h1; simp at h1
  ·have hv := Ew n
   rw [e, Ea] at hv
   have ha : a ≠ 0 := (N8 n).last a (by rw [e]; simp)
   rw [e] at h1
   have hk : k ≤ m.length := by simp at h1; omega
   have : 4294967296 ^ k ≤ 4294967296 ^ m.length := Nat.pow_le_pow_right (by omega) hk
   have h2 : 4294967296 ^ m.length * 1 ≤ 4294967296 ^ m.length * val [a] := Nat.mul_le_mul_left _ (by simp [val]; omega)
   omega
 ·exact h1
theorem pow_le32 {i j : Nat} (h : i ≤ j) : (4294967296 : Nat) ^ i ≤ 4294967296 ^ j := Nat.pow_le_pow_right (by omega) h
end Go.Gm
namespace Go.Gm
def Shp (P : Program) : Nat → TypeId → List Ab → Prop
 | 0, _, _ => False
 | f + 1, t, vas => match P.underlying t with
  | some .bool => ∃ b, vas = [.bool b]
  | some (.int k) => ∃ n, vas = [.int k n] ∧ (Lit.int k n).wf = true
  | some .string => ∃ s, vas = [.str s] ∧ s.length ≤ maxLen
  | some (.slice e) => ∃ es, vas = [.sl es .no] ∧ es.length ≤ maxLen ∧ ∀ x ∈ es, Shp P f e x
  | some (.struct fs) => ∃ ps : List (List Ab), vas = ps.flatten ∧ ps.length = fs.toList.length ∧ ∀ (i : Nat) (fd : Field) (p : List Ab), fs.toList[i]? = some fd → ps[i]? = some p → Shp P f fd.type p
  | some (.array n e) => ∃ ps : List (List Ab), vas = ps.flatten ∧ ps.length = n ∧ ∀ p ∈ ps, Shp P f e p
  | _ => False
def layF (P : Program) (total : Nat) : List Field → Nat → Bool
 | [], off => off == total
 | f :: r, off => f.offset == off && layF P total r (off + P.cellsOf f.type)
def Qn (P : Program) : Nat → TypeId → Bool
 | 0, _ => false
 | f + 1, t => match P.underlying t with
  | some .bool => true
  | some (.int _) => true
  | some .string => true
  | some (.slice e) => decide (0 < P.cellsOf e) && Qn P f e
  | some (.struct fs) => layF P (P.cellsOf t) fs.toList 0 && fs.toList.all fun fd => Qn P f fd.type
  | some (.array n e) => decide (P.cellsOf t = n * P.cellsOf e) && Qn P f e
  | _ => false
theorem QQ {α β : Type} {f : α → Option β} : ∀ {l : List α} {r : List β}, l.mapM f = some r → ∀ a ∈ l, ∃ b, f a = some b
 | [], _, _, a, ha => by cases ha
 | x :: l, r, h, a, ha => by
  rw [List.mapM_cons] at h
  cases hx : f x with
  | none => simp [hx] at h
  | some b =>
   cases hl : l.mapM f with
   | none => simp [hx, hl] at h
   | some bs =>
    rcases List.mem_cons.1 ha with rfl | ha
    ·exact ⟨b, hx⟩
    ·exact QQ hl a ha
theorem mapM_get {α β : Type} {f : α → Option β} : ∀ {l : List α} {r : List β}, l.mapM f = some r → r.length = l.length ∧ ∀ (i : Nat) (a : α), l[i]? = some a → r[i]? = f a
 | [], r, h => by
  have : r = [] := by simpa using h.symm
  subst this
  exact ⟨rfl, fun i a ha => by simp at ha⟩
 | x :: l, r, h => by
  rw [List.mapM_cons] at h
  cases hx : f x with
  | none => simp [hx] at h
  | some b =>
   cases hl : l.mapM f with
   | none => simp [hx, hl] at h
   | some bs =>
    have : r = b :: bs := by simpa [hx, hl] using h.symm
    subst this
    obtain ⟨h1, h2⟩ := mapM_get hl
    refine ⟨by simp [h1], fun i a ha => ?_⟩
    cases i with
    | zero => simp at ha; subst ha; simp [hx]
    | succ i => simp at ha ⊢; exact h2 i a ha
theorem Env0_I (W : World) (b o : Nat) : (Nu W).I b o = W.cell? ⟨b, o, none⟩ := rfl
section
variable {H : Type} {enc : TypeId × Value → H} {P : Program} {w : World} {base : Nat} {spare : Nat → Bool} {held : Bool}
def OpenAt (enc : TypeId × Value → H) (P : Program) (w : World) (base : Nat) (spare : Nat → Bool) (held : Bool) (f fuel : Nat) : Prop :=
 ∀ (t : TypeId) (cs : List Value) (x : DataW H × List MemPlace), Qn P f t = true → DataW.trod enc P w base spare held fuel t cs = some x → ∃ vas, A0 (Nu w) vas cs ∧ (∀ c ∈ vas, Bx c = true) ∧ Shp P f t vas
theorem Pi {f fuel : Nat} (ih : OpenAt enc P w base spare held f fuel) (cs : List Value) : ∀ (fs : List Field) (off : Nat) (r : List (DataW H × List MemPlace)), layF P cs.length fs off = true → (fs.all fun fd => Qn P f fd.type) = true →
  (fs.mapM fun fd => DataW.trod enc P w base spare held fuel fd.type ((cs.drop fd.offset).take (P.cellsOf fd.type))) = some r → (∀ fd ∈ fs, ∀ (c : List Value) (x : DataW H × List MemPlace), DataW.trod enc P w base spare held fuel fd.type c = some x → True) →
  ∃ ps : List (List Ab), A0 (Nu w) ps.flatten (cs.drop off) ∧ (∀ c ∈ ps.flatten, Bx c = true) ∧ ps.length = fs.length ∧ ∀ (i : Nat) (fd : Field) (p : List Ab), fs[i]? = some fd → ps[i]? = some p → Shp P f fd.type p
 | [], off, r, hlay, _, _, _ => by
  have : off = cs.length := by simpa [layF] using hlay
  subst this
  exact ⟨[], by simpa using A0.nil _, fun c hc => by simp at hc, rfl, fun i fd p h => by simp at h⟩
 | fd :: fs, off, r, hlay, hs, hm, ht => by
  simp only [layF, Bool.and_eq_true, beq_iff_eq] at hlay
  obtain ⟨ho, hlay⟩ := hlay
  simp only [List.all_cons, Bool.and_eq_true] at hs
  rw [List.mapM_cons] at hm
  cases hx : DataW.trod enc P w base spare held fuel fd.type ((cs.drop fd.offset).take (P.cellsOf fd.type)) with
  | none => simp [hx] at hm
  | some x =>
   cases hl : fs.mapM fun fd => DataW.trod enc P w base spare held fuel fd.type ((cs.drop fd.offset).take (P.cellsOf fd.type)) with
   | none => simp [hx, hl] at hm
   | some xs =>
    obtain ⟨vas, a1, a2, a3⟩ := ih fd.type _ x hs.1 hx
    obtain ⟨ps, b1, b2, b3, b4⟩ := Pi ih cs fs (off + P.cellsOf fd.type) xs hlay hs.2 hl (fun _ _ _ _ _ => trivial)
    refine ⟨vas :: ps, ?_, fun c hc => ?_, by simp [b3], fun i fd' p h1 h2 => ?_⟩
    ·rw [List.flatten_cons]
     have e : cs.drop off = (cs.drop off).take (P.cellsOf fd.type) ++ cs.drop (off + P.cellsOf fd.type) := by
      rw [← List.drop_drop]; exact (List.take_append_drop _ _).symm
     rw [e]
     rw [ho] at a1
     exact a1.append b1
    ·rw [List.flatten_cons] at hc
     rcases List.mem_append.1 hc with hc | hc
     ·exact a2 c hc
     ·exact b2 c hc
    ·cases i with
     | zero => simp at h1 h2; subst h1; subst h2; exact a3
     | succ i => exact b4 i fd' p (by simpa using h1) (by simpa using h2)
theorem QI {f fuel : Nat} (ih : OpenAt enc P w base spare held f fuel) {e : TypeId} (hs : Qn P f e = true) (cs : List Value) : ∀ (d i n : Nat), i + d = n → cs.length = n * P.cellsOf e →
  (∀ j, j < n → ∃ x, DataW.trod enc P w base spare held fuel e ((cs.drop (j * P.cellsOf e)).take (P.cellsOf e)) = some x) →
  ∃ ps : List (List Ab), A0 (Nu w) ps.flatten (cs.drop (i * P.cellsOf e)) ∧ (∀ c ∈ ps.flatten, Bx c = true) ∧ ps.length = d ∧ ∀ p ∈ ps, Shp P f e p
 | 0, i, n, hi, hl, _ => by
  have : cs.drop (i * P.cellsOf e) = [] := List.drop_of_length_le (by rw [hl, show i = n by omega]; exact Nat.le_refl _)
  rw [this]
  exact ⟨[], A0.nil _, fun c hc => by simp at hc, rfl, fun p h => by simp at h⟩
 | d + 1, i, n, hi, hl, hm => by
  obtain ⟨x, hx⟩ := hm i (by omega)
  obtain ⟨vas, a1, a2, a3⟩ := ih e _ x hs hx
  obtain ⟨ps, b1, b2, b3, b4⟩ := QI ih hs cs d (i + 1) n (by omega) hl hm
  refine ⟨vas :: ps, ?_, fun c hc => ?_, by simp [b3], fun p hp => ?_⟩
  ·rw [List.flatten_cons]
   have e' : cs.drop (i * P.cellsOf e) = (cs.drop (i * P.cellsOf e)).take (P.cellsOf e) ++ cs.drop ((i + 1) * P.cellsOf e) := by
    rw [Nat.succ_mul, ← List.drop_drop]; exact (List.take_append_drop _ _).symm
   rw [e']
   exact a1.append b1
  ·rw [List.flatten_cons] at hc
   rcases List.mem_append.1 hc with hc | hc
   ·exact a2 c hc
   ·exact b2 c hc
  ·rcases List.mem_cons.1 hp with rfl | hp
   ·exact a3
   ·exact b4 p hp
theorem Mi {a : Addr} {n : Nat} {r : List Value} (h : w.cells? base a n = some r) : r.length = n ∧ ∀ j, j < n → w.cell? (a.add j) = r[j]? := by
 unfold World.cells? at h
 split at h
 ·obtain ⟨h1, h2⟩ := mapM_get h
  refine ⟨by simpa using h1, fun j hj => (h2 j j (List.getElem?_range hj)).symm⟩
 ·cases h
theorem open_row {f fuel : Nat} (ih : OpenAt enc P w base spare held f fuel) {e : TypeId} (hpos : 0 < P.cellsOf e) (hs : Qn P f e = true) (a : Addr) (len cap : Nat) (hc : len ≤ cap)
  (hm : ∀ i, i < len → ∃ x, (w.cells? base (a.add (i * P.cellsOf e)) (P.cellsOf e)).bind (DataW.trod enc P w base spare held fuel e) = some x) :
  ∃ es tk, As (Nu w) (.sl es tk) (.slice (some a) len cap) ∧ (tk = .no) ∧ es.length = len ∧ ∀ x ∈ es, Shp P f e x := by
 by_cases h0 : len = 0
 ·subst h0
  exact ⟨[], .no, .sl0 trivial (fun h => by cases h), rfl, rfl, fun x hx => by cases hx⟩
 ·have each : ∀ i, ∃ vas : List Ab, i < len → ∃ r, w.cells? base (a.add (i * P.cellsOf e)) (P.cellsOf e) = some r ∧ A0 (Nu w) vas r ∧ (∀ c ∈ vas, Bx c = true) ∧ Shp P f e vas := by
   intro i
   by_cases hi : i < len
   ·obtain ⟨x, hx⟩ := hm i hi
    cases hr : w.cells? base (a.add (i * P.cellsOf e)) (P.cellsOf e) with
    | none => simp [hr] at hx
    | some r =>
     rw [hr, Option.bind_some] at hx
     obtain ⟨vas, a1, a2, a3⟩ := ih e r x hs hx
     exact ⟨vas, fun _ => ⟨r, rfl, a1, a2, a3⟩⟩
   ·exact ⟨[], fun h => absurd h hi⟩
  obtain ⟨g, hg⟩ := Classical.axiomOfChoice each
  have hg : ∀ i, i < len → ∃ r, w.cells? base (a.add (i * P.cellsOf e)) (P.cellsOf e) = some r ∧ A0 (Nu w) (g i) r ∧ (∀ c ∈ g i, Bx c = true) ∧ Shp P f e (g i) := hg
  have hsp : a.spot = none := by
   obtain ⟨r, h1, _⟩ := hg 0 (by omega)
   obtain ⟨h2, h3⟩ := Mi h1
   have h4 := h3 0 hpos
   have h5 : (a.add (0 * P.cellsOf e)).add 0 = a := by simp [Addr.add]
   rw [h5, List.getElem?_eq_getElem (by omega)] at h4
   unfold World.cell? at h4
   split at h4
   ·split at h4
    ·cases h4
    ·rename_i hh; simpa using hh
   ·cases h4
  obtain ⟨b, o, sp⟩ := a
  simp only at hsp
  subst hsp
  have hadd : ∀ i j, ((⟨b, o, none⟩ : Addr).add (i * P.cellsOf e)).add j = ⟨b, o + (i * P.cellsOf e + j), none⟩ := fun i j => by rw [Cy, Cy, Nat.add_assoc]
  refine ⟨(List.range len).map g, .no, ?_, rfl, by simp, fun x hx => ?_⟩
  ·have hl : ((List.range len).map g).length = len := by simp
   have key := As.sl (E := Nu w) (es := (List.range len).map g) (tk := .no) (b := b) (o := o) (s := P.cellsOf e) (cap := cap) (fun i j => (w.cell? ⟨b, o + (i * P.cellsOf e + j), none⟩).getD default)
    (fun i x hx => ?_) (fun i j hi hj => ?_) (fun i x j c hx hc => ?_) (fun i x j c hx hc => ?_) (by rw [hl]; exact hc) trivial
   ·rw [hl] at key; exact key
   ·have hi : i < len := by have := (List.getElem?_eq_some_iff.1 hx).1; simpa using this
    rw [List.getElem?_map, List.getElem?_range hi] at hx
    simp at hx; subst hx
    obtain ⟨r, h1, h2, _⟩ := hg i hi
    rw [h2.1, (Mi h1).1]
   ·rw [hl] at hi
    obtain ⟨r, h1, h2, _⟩ := hg i hi
    obtain ⟨h3, h4⟩ := Mi h1
    have h5 := h4 j hj
    rw [hadd] at h5
    rw [Env0_I, h5, List.getElem?_eq_getElem (by omega)]; rfl
   ·have hi : i < len := by have := (List.getElem?_eq_some_iff.1 hx).1; simpa using this
    rw [List.getElem?_map, List.getElem?_range hi] at hx
    simp at hx; subst hx
    obtain ⟨r, h1, h2, h6, _⟩ := hg i hi
    exact h6 c (List.mem_of_getElem? hc)
   ·have hi : i < len := by have := (List.getElem?_eq_some_iff.1 hx).1; simpa using this
    rw [List.getElem?_map, List.getElem?_range hi] at hx
    simp at hx; subst hx
    obtain ⟨r, h1, h2, h6, _⟩ := hg i hi
    obtain ⟨h3, h4⟩ := Mi h1
    have hj : j < P.cellsOf e := by have := (List.getElem?_eq_some_iff.1 hc).1; rw [h2.1, h3] at this; exact this
    have h5 := h4 j hj
    rw [hadd] at h5
    refine h2.2 j c _ hc ?_
    rw [← h5, h5, List.getElem?_eq_getElem (by omega)]; rfl
  ·simp only [List.mem_map, List.mem_range] at hx
   obtain ⟨i, hi, rfl⟩ := hx
   obtain ⟨r, _, _, _, h7⟩ := hg i hi
   exact h7
theorem N7 {E : Env} {x : Ab} {v : Value} (h : As E x v) : A0 E [x] [v] := .cons h (.nil _)
theorem Sm : ∀ (f fuel : Nat), OpenAt enc P w base spare held f fuel
 | 0, _ => fun t cs x hs _ => by simp [Qn] at hs
 | _ + 1, 0 => fun t cs x _ h => by simp [DataW.trod] at h
 | f + 1, fuel + 1 => fun t cs x hs h => by
  have ih := Sm f fuel
  unfold Qn at hs
  unfold Shp
  cases hu : P.underlying t with
  | none => rw [hu] at hs; cases hs
  | some td =>
   rw [hu] at hs
   unfold DataW.trod at h
   rw [hu] at h
   cases td with
   | bool =>
    simp only at h
    split at h
    all_goals first | (rename_i hq; cases hq; done) | skip
    all_goals first | (cases h; done) | skip
    ·rename_i b hq
     exact ⟨[.bool b], N7 (.bool b), fun c hc => by simp at hc; subst hc; rfl, b, rfl⟩
   | int k =>
    simp only at h
    split at h
    all_goals first | (rename_i hq; cases hq; done) | skip
    all_goals first | (cases h; done) | skip
    ·rename_i k2 k' n heq
     cases heq
     split at h
     ·rename_i hc
      obtain ⟨rfl, hw⟩ := hc
      exact ⟨[.int _ _], N7 (.int _ _), fun c hc => by simp at hc; subst hc; rfl, _, rfl, hw⟩
     ·cases h
   | string =>
    simp only at h
    split at h
    all_goals first | (rename_i hq; cases hq; done) | skip
    all_goals first | (cases h; done) | skip
    ·rename_i s heq
     split at h
     ·rename_i hc
      have e : As (Nu w) (.str s.data.toList) (.string s) := by
       have e : s = ⟨s.data.toList.toArray⟩ := by cases s; simp
       rw [e]; exact .str _
      refine ⟨[.str s.data.toList], N7 e, fun c hc => by simp at hc; subst hc; rfl, _, rfl, hc⟩
     ·cases h
   | slice e =>
    simp only [Bool.and_eq_true, decide_eq_true_eq] at hs
    simp only at h
    split at h
    all_goals first | (rename_i hq; cases hq; done) | skip
    all_goals first | (cases h; done) | skip
    ·exact ⟨[.sl [] .no], N7 (.sl0 trivial (fun _ => rfl)), fun c hc => by simp at hc; subst hc; rfl, [], rfl, Nat.zero_le _, fun x hx => by cases hx⟩
    ·rename_i e2 a len cap heq
     cases heq
     split at h
     ·rename_i hc
      obtain ⟨h1, h2, h3⟩ := hc
      cases hm : (List.range len).mapM fun i => (w.cells? base (a.add (i * P.cellsOf e)) (P.cellsOf e)).bind (DataW.trod enc P w base spare held fuel e) with
      | none => rw [hm] at h; cases h
      | some elems =>
       obtain ⟨es, tk, k1, rfl, k2, k3⟩ := open_row ih hs.1 hs.2 a len cap h2 (fun i hi => QQ hm i (by simpa using hi))
       exact ⟨[.sl es .no], N7 k1, fun c hc => by simp at hc; subst hc; rfl, es, rfl, by omega, k3⟩
     ·cases h
   | struct fs =>
    simp only [Bool.and_eq_true] at hs
    simp only at h
    split at h
    ·rename_i hc
     cases hm : fs.toList.mapM fun fd => DataW.trod enc P w base spare held fuel fd.type ((cs.drop fd.offset).take (P.cellsOf fd.type)) with
     | none => rw [hm] at h; cases h
     | some xs =>
      obtain ⟨ps, b1, b2, b3, b4⟩ := Pi ih cs fs.toList 0 xs (by rw [hc]; exact hs.1) hs.2 hm (fun _ _ _ _ _ => trivial)
      exact ⟨ps.flatten, by simpa using b1, b2, ps, rfl, b3, b4⟩
    ·cases h
   | array n e =>
    simp only [Bool.and_eq_true, decide_eq_true_eq] at hs
    simp only at h
    split at h
    ·rename_i hc
     cases hm : (List.range n).mapM fun i => DataW.trod enc P w base spare held fuel e ((cs.drop (i * P.cellsOf e)).take (P.cellsOf e)) with
     | none => rw [hm] at h; cases h
     | some xs =>
      obtain ⟨ps, b1, b2, b3, b4⟩ := QI ih hs.2 cs n 0 n (by omega) (by rw [hc]; exact hs.1) (fun j hj => QQ hm j (by simpa using hj))
      exact ⟨ps.flatten, by simpa using b1, b2, ps, rfl, b3, b4⟩
    ·cases h
   | _ => cases hs
theorem arg_agg {r : Reach} {b0 f : Nat} {t : TypeId} {v : Value} {d : DataW H} {ps : List MemPlace} (hs : Qn P f t = true) (hval : Value.okWide P w r b0 t v) (hd : DataW.Trod enc P w base spare held t v d ps)
  (hu : (match P.underlying t with | some (.struct _) => true | some (.array _ _) => true | _ => false) = true) : ∃ vas, As (Nu w) (.agg vas) v ∧ Shp P f t vas := by
 obtain ⟨fuel, hf⟩ := hd
 have hc : ∃ cs, v = .agg cs := by
  unfold Value.okWide at hval
  cases hx : P.underlying t with
  | none => rw [hx] at hu; cases hu
  | some td =>
   rw [hx] at hu hval
   cases td <;> first | (cases hu; done) | skip
   all_goals (obtain ⟨cs, rfl, _⟩ := hval; exact ⟨cs, rfl⟩)
 obtain ⟨cs, rfl⟩ := hc
 obtain ⟨vas, a1, a2, a3⟩ := Sm f fuel t _ _ hs hf
 exact ⟨vas, As.agg_of a1, a3⟩
end
end Go.Gm
namespace Go.Gm
section
variable {P : Program} {f : Nat} {t e : TypeId} {vas : List Ab}
theorem shp_int {k : IntKind} (hu : P.underlying t = some (.int k)) (h : Shp P (f + 1) t vas) : ∃ n, vas = [.int k n] ∧ (Lit.int k n).wf = true := by
 unfold Shp at h; rw [hu] at h; exact h
theorem shp_st {fs : Array Field} (hu : P.underlying t = some (.struct fs)) (h : Shp P (f + 1) t vas) : ∃ ps : List (List Ab), vas = ps.flatten ∧ ps.length = fs.toList.length ∧ ∀ (i : Nat) (fd : Field) (p : List Ab), fs.toList[i]? = some fd → ps[i]? = some p → Shp P f fd.type p := by
 unfold Shp at h; rw [hu] at h; exact h
end
end Go.Gm
namespace Go.Gm
@[simp 2000] theorem Bw {α β : Type} (a : α) (f : α → Option β) : (some a).bind f = f a := (rfl)
theorem DU {G : LK → LK} (N : Nat) (p : Nat → Bool) (st : Nat → List Ab) (H : Aa) (yes no : Out) (hN : N < 1152921504606846976)
  (turn : ∀ (rec : LK) (i : Nat), i < N → G rec (st i) H = if p i then rec (st (i + 1)) H else no) (last : ∀ rec : LK, G rec (st N) H = yes) : Ao G AC (st 0) H = if (List.range N).all p then yes else no := by
 refine AM (σ := Nat) (fun i => i ≤ N ∧ ∀ j, j < i → p j = true) st (fun _ => H) (fun i => N - i) (fun _ => if (List.range N).all p then yes else no) (fun i rec hi hrec => ?_) 0 ⟨Nat.zero_le _, fun j hj => by omega⟩ (by omega)
 by_cases h : i < N
 ·rw [turn rec i h]
  cases hp : p i with
  | true => exact hrec (i + 1) ⟨h, fun j hj => by
    by_cases e : j = i
    ·rw [e]; exact hp
    ·exact hi.2 j (by omega)⟩ (by omega)
  | false =>
   have : (List.range N).all p = false := by rw [List.all_eq_false]; exact ⟨i, by simpa using h, by simp [hp]⟩
   simp [this]
 ·have e : i = N := by omega
  subst e
  have : (List.range i).all p = true := by rw [List.all_eq_true]; intro j hj; exact hi.2 j (by simpa using hj)
  rw [last, this]; rfl
theorem Is {G : LK → LK} (N : Nat) (p : Nat → Bool) (st : Nat → List Ab) (H : Aa) (none' : Out) (found : Nat → Out) (hN : N < 1152921504606846976)
  (turn : ∀ (rec : LK) (i : Nat), i < N → G rec (st i) H = if p i then found i else rec (st (i + 1)) H) (last : ∀ rec : LK, G rec (st N) H = none') :
  Ao G AC (st 0) H = match (List.range N).find? p with | some i => found i | none => none' := by
 refine AM (σ := Nat) (fun i => i ≤ N ∧ ∀ j, j < i → p j = false) st (fun _ => H) (fun i => N - i) (fun _ => match (List.range N).find? p with | some i => found i | none => none') (fun i rec hi hrec => ?_) 0 ⟨Nat.zero_le _, fun j hj => by omega⟩ (by omega)
 by_cases h : i < N
 ·rw [turn rec i h]
  cases hp : p i with
  | false => exact hrec (i + 1) ⟨h, fun j hj => by
    by_cases e : j = i
    ·rw [e]; exact hp
    ·exact hi.2 j (by omega)⟩ (by omega)
  | true =>
   have : (List.range N).find? p = some i := by
    rw [List.find?_range_eq_some]
    exact ⟨hp, by simpa using h, fun j hj => by simp [hi.2 j hj]⟩
   rw [this]; rfl
 ·have e : i = N := by omega
  subst e
  have : (List.range i).find? p = none := by
   rw [List.find?_eq_none]; intro j hj; simp [hi.2 j (by simpa using hj)]
  rw [last, this]
theorem DK {sz : Nat} {cs : List Ab} {H : Aa} (h : cs.all Ab.isScal = true) (hl : cs.length = sz) : BP true sz (.agg cs) H = some (.ptr H.length 0 0, H ++ [.cel 0 cs]) := by
 unfold BP
 rw [Fm h]
 simp [hl, alloc_eq h]
theorem KJ {cs vs : List Ab} {sz : Nat} (h : cs.length = sz) : DR cs 0 sz vs = vs := by simp [DR, List.drop_of_length_le (Nat.le_of_eq h)]
theorem LR {cs vs : List Ab} {sz g : Nat} {v : Ab} {G : Aa} (hv : v.acells = some vs) (h : cs.length = sz) (h2 : vs.length = sz) : Af sz (.ptr 0 g 0) v (.cel g cs :: G) = some (.cel g vs :: G) := by
 rw [Qo, hv]
 simp only [Option.bind_some, h2, h, Nat.zero_add, Nat.le_refl, and_self, if_true, KJ h]
@[simp] theorem HA {x : Out} : chk True x = x := chk_pos trivial x
@[simp] theorem OY {v : Ab} {p : Ab → Prop} {k : Ab → Out} : bC (some v) p k = chk (p v) (k v) := (rfl)
section
variable {x : Option Ab} {p : Bool → Ab → Prop} {k : Ab → Out} {w : Bool}
@[simp] theorem O3 : gkc (.bool true) true x p k = bC x (p true) k := (rfl)
@[simp] theorem O6 : gkc (.bool false) false x p k = bC x (p true) k := (rfl)
@[simp] theorem O4 : gkc (.bool true) false x p k = chk (p false B8) (k B8) := (rfl)
@[simp] theorem O5 : gkc (.bool false) true x p k = chk (p false B8) (k B8) := (rfl)
@[simp] theorem SK : gkc (.tup []) w x p k = chk (p false B8) (k B8) := (rfl)

end
theorem MX (p : Nat → Bool) : (List.range 4).all p = (p 0 && p 1 && p 2 && p 3) := by
 show (p 0 && (p 1 && (p 2 && (p 3 && true)))) = _
 cases p 0 <;> cases p 1 <;> cases p 2 <;> cases p 3 <;> rfl
theorem Cj {n : Nat} (h : n < 9223372036854775808) : IntKind.i64.wrap (n : Int) = (n : Int) := A1 (by omega) (by omega)
theorem Ar {n : Nat} (h : n < 9223372036854775807) : IntKind.i64.wrap ((n : Int) + 1) = ((n + 1 : Nat) : Int) := by rw [A1] <;> omega
theorem C7 {n : Nat} (h : 0 < n) (h2 : n < 9223372036854775807) : IntKind.i64.wrap ((n : Int) - 1) = ((n - 1 : Nat) : Int) := by rw [A1] <;> omega
end Go.Gm
namespace Go.Gm
@[simp] theorem EO {a b : Int} : (a == b) = decide (a = b) := by rw [Bool.eq_iff_iff]; simp
@[simp] theorem IQ {a b : Int} : (a != b) = !decide (a = b) := by rw [Bool.eq_iff_iff]; simp
structure Nd where
 lv : Int
 k0 : Int
 k1 : Int
 k2 : Int
 k3 : Int
deriving DecidableEq
def Nd.kid (x : Nd) (k : Nat) : Int := match k with | 0 => x.k0 | 1 => x.k1 | 2 => x.k2 | _ => x.k3
def cNd (x : Nd) : List Ab := [.int .i64 x.lv, .int .i64 x.k0, .int .i64 x.k1, .int .i64 x.k2, .int .i64 x.k3]
instance : Sz cNd 5 := ⟨fun _ => rfl⟩
section
variable {x y : Nd} {H : Aa} {k : Nat}
@[simp] theorem Ba : (cNd x)[0]? = some (.int .i64 x.lv) := (rfl)
theorem CI (h : k < 4) : (cNd x)[1 + k]? = some (.int .i64 (x.kid k)) := by
 match k, h with
 | 0, _ => rfl
 | 1, _ => rfl
 | 2, _ => rfl
 | 3, _ => rfl
theorem CY {K : IntKind} {cs : List Ab} {o : Nat} (h : k < 4) : AY 4 1 (.cptr cs o) (.int K (k : Int)) = some (.cptr cs (o + k * 1)) := by
 unfold AY
 simp only []
 rw [if_pos ⟨by omega, by omega⟩]; simp
theorem G8 : Ad true 5 (.cptr (cNd x) 0) H = some (.agg (cNd x)) := (rfl)
theorem By : (cNd x).all Ab.isScal = true := (rfl)
theorem Tl : (Ab.agg (cNd x)).acells = some (cNd x) := (rfl)
theorem NY : Bz (cNd x) (cNd y) = some (decide (x = y)) := by
 obtain ⟨a, b, c, d, e⟩ := x
 obtain ⟨a', b', c', d', e'⟩ := y
 simp only [cNd, Bz, Fj, if_true, Option.bind_some, Option.some.injEq]
 rw [Bool.eq_iff_iff]; simp
theorem eq_nd : Ae (.flat 5) .eql (.agg (cNd x)) (.agg (cNd y)) = some (.bool (decide (x = y))) := by
 show (eqA (.flat 5) (.agg (cNd x)) (.agg (cNd y))).map Ab.bool = _
 have h : eqA (.flat 5) (.agg (cNd x)) (.agg (cNd y)) = some (decide (x = y)) := by unfold eqA; simp only []; rw [if_pos (show (cNd x).length = 5 from rfl), NY]
 rw [h]; rfl
theorem neq_nd : Ae (.flat 5) .neq (.agg (cNd x)) (.agg (cNd y)) = some (.bool (!decide (x = y))) := by
 show (eqA (.flat 5) (.agg (cNd x)) (.agg (cNd y))).map (fun b => Ab.bool (!b)) = _
 have h : eqA (.flat 5) (.agg (cNd x)) (.agg (cNd y)) = some (decide (x = y)) := by unfold eqA; simp only []; rw [if_pos (show (cNd x).length = 5 from rfl), NY]
 rw [h]; rfl

end
theorem EN (x : Nd) : A9 5 [.agg (cNd x)] = some (.sl (enL cNd [x]) .tight) := by
 simp [A9, Ck, Tl]; simp [cNd, MC, Bx, enL]
end Go.Gm
namespace Go.Gm
section
variable {P : Program} {f : Nat} {t e : TypeId} {vas : List Ab}
theorem shp_two {f0 f1 : Field} (h1 : P.underlying t = some (.struct #[f0, f1])) (h2 : P.underlying f0.type = some (.int .i64)) (h3 : P.underlying f1.type = some (.int .i64)) (h : Shp P (f + 2) t vas) :
  ∃ a b, vas = [.int .i64 a, .int .i64 b] ∧ (Lit.int .i64 a).wf = true ∧ (Lit.int .i64 b).wf = true := by
 obtain ⟨ps, rfl, hl, hp⟩ := shp_st h1 h
 match ps, hl with
 | [p0, p1], _ =>
  obtain ⟨a, rfl, ha⟩ := shp_int h2 (hp 0 f0 p0 rfl rfl)
  obtain ⟨b, rfl, hb⟩ := shp_int h3 (hp 1 f1 p1 rfl rfl)
  exact ⟨a, b, rfl, ha, hb⟩
end
end Go.Gm
namespace Go.Proofs.YtenmplcmmdaibaaGreatDoor
open Go.ChangeShapes Go.WideShapes Go.ChangeAt Go.RowKit Go.Gm
theorem own : ownKnob Tryz.prog.godebug = none := by kernel_rfl
theorem laidOut : laidOutB Tryz.prog = true := by kernel_rfl
theorem gTab : Tryz.prog.globalNamed "internal/strconv.uint64pow10" = some 1 := by kernel_rfl
theorem gTabType : (Tryz.prog.globals[1]?).map (·.type) = some 172 := by kernel_rfl
def flatD : Nat → DataW Unit → List Value
 | _, .lit (.int k n) => [.int k n]
 | f + 1, .agg ds => ds.flatMap (flatD f)
 | _, _ => []
def Nz : List (String × DataW Unit) := [("math/bits.deBruijn32tab", Rows.laid_math_bits_deBruijn32tab), ("math/bits.deBruijn64tab", Rows.laid_math_bits_deBruijn64tab), ("internal/strconv.uint64pow10", Rows.laid_internal_strconv_uint64pow10)]
theorem pow_data : (Rows.laid_internal_strconv_uint64pow10 : DataW Unit) = Lib.tabData .u64 Lib.pow10Tab := by kernel_rfl
theorem table {W : World} (h : laidMetH Tryz.prog Nz W) : Lib.TabIs Tryz.prog W "internal/strconv.uint64pow10" .u64 Lib.pow10Tab := by
 have h' : laidMet Tryz.prog Nz W := h
 obtain ⟨ps, ⟨g1, t1, c1, f1, p1, q1, e1, e2, e3, e4, ⟨g2, t2, c2, f2, p2, q2, e5, e6, e7, e8, ⟨g', t', cs, fuel, p, q, hg', ht', hvar, hd, _, _⟩, _⟩, _⟩, _⟩ := h'
 obtain rfl := Option.some.inj (gTab.symm.trans hg')
 obtain rfl := Option.some.inj (gTabType.symm.trans ht')
 unfold Lib.TabIs
 rw [hvar]
 rw [pow_data] at hd
 rw [← Lib.cells_of_tab Tryz.underlying172 Tryz.underlying128 (by kernel_rfl) (by kernel_rfl) hd]
theorem fixed {W : World} (h : laidMetH Tryz.prog Nz W) : ∀ b cs, FixT b = some cs → 0 < cs.size ∧ ∃ t fr, W.heap[b]? = some (.cells cs t fr) := by
 intro b cs hb
 have ht := table h
 unfold FixT at hb
 split at hb
 ·rename_i e
  subst e
  cases hb
  refine ⟨by decide, ?_⟩
  unfold Lib.TabIs World.var? at ht
  rw [gTab] at ht
  simp only [Option.bind_some] at ht
  split at ht
  ·rename_i cs t fr hh
   cases ht
   exact ⟨t, fr, hh⟩
  ·cases ht
 ·cases hb
def layCells (h : Array Obj) (g : Nat) (vs : Array Value) : Array Obj := h.modify g fun
 | .cells _ t frozen => .cells vs t frozen
 | o => o
def layAll (h : Array Obj) (x : Nat × DataW Unit) : Array Obj := layCells h x.1 (flatD 4 x.2).toArray
noncomputable def Oy (os : Os) : World :=
 { World.holding Tryz.prog os ⟨#[], #[], []⟩ with heap := [(2, Rows.laid_math_bits_deBruijn32tab), (3, Rows.laid_math_bits_deBruijn64tab), (1, Rows.laid_internal_strconv_uint64pow10)].foldl layAll (World.holding Tryz.prog os ⟨#[], #[], []⟩).heap }
theorem laid_met (os : Os) (args : Array Value) : laidMet Tryz.prog Nz ((Oy os).forCall (fun _ _ => 0) ⟨#[], args, []⟩).memory :=
 laidMet_of_run' 8 (by kernel_rfl) (by kernel_rfl)
theorem limSupp : Qn Tryz.prog 2 23 = true := by kernel_rfl
theorem str_rel (E : Env) (s : ByteArray) : As E (.str s.data.toList) (.string s) := by
 have : s = ⟨s.data.toList.toArray⟩ := by cases s; simp
 rw [this]; exact .str _
end Go.Proofs.YtenmplcmmdaibaaGreatDoor
namespace Go.Gm
def G1 : Ab → Bool
 | .bool _ => true
 | .int _ _ => true
 | .str _ => true
 | .sl _ .no => true
 | .sl _ .tight => true
 | _ => false
class Pl {α : Type} (f : α → List Ab) : Prop where
 pl : ∀ a, (f a).all G1 = true
instance : Pl cB := ⟨fun _ => rfl⟩
instance : Pl cU := ⟨fun _ => rfl⟩
instance : Pl cI := ⟨fun _ => rfl⟩
instance : Pl cN := ⟨fun _ => rfl⟩
instance : Pl cY := ⟨fun _ => rfl⟩
instance : Pl cS := ⟨fun _ => rfl⟩
instance : Pl cNd := ⟨fun _ => rfl⟩
theorem S8 {c : Ab} (h : G1 c = true) : c.isScal = true := by cases c <;> first | rfl | (simp [G1] at h)
theorem plnC_imm {c : Ab} (h : G1 c = true) : Bx c = true := by
 cases c <;> first | rfl | (simp [G1] at h)
 rename_i es tk; cases tk <;> first | rfl | (simp [G1] at h)
theorem plnC_frz {c : Ab} {H : Aa} {n d : Nat} (h : G1 c = true) : frz H n (d + 1) c = some c := by
 cases c <;> first | (simp [frz]; done) | (simp [G1] at h)
 rename_i es tk; cases tk <;> first | (simp [frz]; done) | (simp [G1] at h)
theorem Hi {H : Aa} {n d : Nat} : ∀ {cs : List Ab}, cs.all G1 = true → Dy H n (d + 2) cs = some cs
 | [], _ => by simp [Dy]
 | c :: cs, h => by
  simp only [List.all_cons, Bool.and_eq_true] at h
  simp [Dy, plnC_frz h.1, Hi h.2]
section
variable {α : Type} {f : α → List Ab} {l : List α} {sz i n : Nat} {a : α} {H : Aa} {id : Nat} {K : IntKind}
def flat (f : α → List Ab) (l : List α) : List Ab := l.flatMap f
@[simp] theorem flat_nil : flat f [] = [] := (rfl)
theorem Cx : flat f (a :: l) = f a ++ flat f l := by simp [flat]
theorem flat_append {m : List α} : flat f (l ++ m) = flat f l ++ flat f m := by simp [flat]
theorem L7 [hf : Sz f sz] : ∀ (l : List α), (flat f l).length = l.length * sz
 | [] => by simp
 | a :: l => by
  have := L7 l
  simp only [Cx, List.length_append, hf.len, List.length_cons, Nat.succ_mul]
  omega
theorem NN [hp : Pl f] : ∀ (l : List α), (flat f l).all G1 = true
 | [] => rfl
 | a :: l => by simp only [Cx, List.all_append, Bool.and_eq_true]; exact ⟨hp.pl a, NN l⟩
theorem SS [hp : Pl f] (l : List α) : (flat f l).all Ab.isScal = true := by
 rw [List.all_eq_true]; intro c hc; exact S8 (List.all_eq_true.1 (NN (f := f) l) c hc)
theorem flat_imm [hp : Pl f] (l : List α) : (flat f l).all Bx = true := by
 rw [List.all_eq_true]; intro c hc; exact plnC_imm (List.all_eq_true.1 (NN (f := f) l) c hc)
theorem OL [hf : Sz f sz] : ∀ (l : List α) (i : Nat), (flat f l).drop (i * sz) = flat f (l.drop i)
 | [], i => by simp
 | a :: l, 0 => by simp
 | a :: l, i + 1 => by
  have := OL l i
  rw [List.drop_succ_cons, ← this, Cx, Nat.succ_mul, Nat.add_comm, List.drop_append, hf.len, List.drop_of_length_le (by rw [hf.len]; omega), List.nil_append]
  congr 1; omega
theorem OK [hf : Sz f sz] : ∀ (l : List α) (i : Nat), (flat f l).take (i * sz) = flat f (l.take i)
 | [], i => by simp
 | a :: l, 0 => by simp
 | a :: l, i + 1 => by
  have := OK l i
  rw [List.take_succ_cons, Cx, Cx, ← this, Nat.succ_mul, Nat.add_comm, List.take_append, hf.len, List.take_of_length_le (by rw [hf.len]; omega)]
  congr 2; omega
theorem flat_at [hf : Sz f sz] (h : i < l.length) : ((flat f l).drop (i * sz)).take sz = f l[i] := by
 rw [OL, List.drop_eq_getElem_cons h, Cx, List.take_append_of_le_length (by rw [hf.len]; omega), List.take_of_length_le (by rw [hf.len]; omega)]
theorem flat_set [hf : Sz f sz] (h : i < l.length) : DR (flat f l) (i * sz) sz (f a) = flat f (l.set i a) := by
 have e : l.set i a = l.take i ++ a :: l.drop (i + 1) := by rw [List.set_eq_take_append_cons_drop, if_pos h]
 have e2 : i * sz + sz = (i + 1) * sz := by rw [Nat.succ_mul]
 unfold DR
 rw [e, e2, OK, OL, flat_append, Cx]
 simp
theorem flat_le [hf : Sz f sz] (h : i < l.length) : i * sz + sz ≤ (flat f l).length := by
 rw [L7, ← Nat.succ_mul]; exact Nat.mul_le_mul_right _ h
theorem ED {g off cap : Nat} {ex : Bool} (h : i < n) : A6 sz (.ms id g off n cap sz ex) (.int K (i : Int)) = some (.ptr id g (off + i * sz)) := by
 unfold A6
 simp only []
 rw [if_pos ⟨trivial, by omega, by omega⟩]; simp
theorem G9 [hf : Sz f 1] (hg : A7 H id 0 = some (flat f l)) (h : i < l.length) : Ad false 1 (.ptr id 0 i) H = (f l[i])[0]? := by
 have h1 := flat_at (f := f) (sz := 1) h
 have h2 := flat_le (f := f) (sz := 1) h
 simp only [Nat.mul_one] at h1 h2
 simp only [Ad, hg, Option.bind_some, Bool.false_eq_true, if_false]
 rw [← h1]; simp
theorem Gc [hf : Sz f sz] {v : Ab} (hg : A7 H id 0 = some (flat f l)) (h : i < l.length) (hv : v.acells = some (f a)) : Af sz (.ptr id 0 (i * sz)) v H = some (G0 H id 0 (flat f (l.set i a))) := by
 simp only [Af, hg, Option.bind_some, hv, hf.len, flat_le h, and_self, if_true, flat_set h]
theorem S1 : ∀ (n : Nat), repl n (f a) = flat f (List.replicate n a)
 | 0 => rfl
 | n + 1 => by
  have := S1 n
  simp only [repl, List.replicate_succ, List.flatten_cons, Cx] at this ⊢
  rw [this]
theorem FX [hf : Sz f sz] [hp : Pl f] {bytes : Nat} (hb : n * bytes ≤ 140737488355328) (hn : n ≤ 140737488355328) : Fu sz bytes (some (f a)) (.int .i64 (n : Int)) (.int .i64 (n : Int)) H = some (.ms H.length 0 0 n n sz true, H ++ [.cel 0 (flat f (List.replicate n a))]) := by
 have h1 : ((n : Int) * (bytes : Int)) ≤ 140737488355328 := by
   have : ((n * bytes : Nat) : Int) ≤ 140737488355328 := by omega
   simpa using this
 have h2 : (f a).all Ab.isScal = true := by rw [List.all_eq_true]; intro c hc; exact S8 (List.all_eq_true.1 (hp.pl a) c hc)
 unfold Fu
 simp only [Option.bind_some]
 rw [if_pos ⟨h2, hf.len a, by omega, by omega, h1, by omega⟩]
 simp only [Int.toNat_natCast, S1]
theorem R6 [hf : Sz f sz] : ∀ (l : List α), F0 sz l.length (flat f l) = enL f l
 | [] => rfl
 | a :: l => by
  have := R6 l
  simp only [List.length_cons, F0, Cx, enL, List.map_cons, List.take_append_of_le_length (Nat.le_of_eq (hf.len a).symm), List.take_of_length_le (Nat.le_of_eq (hf.len a)), List.drop_left' (hf.len a)]
  rw [this]; rfl
theorem fall_ms [hf : Sz f sz] [hp : Pl f] {b d cap : Nat} {ex : Bool} (hg : A7 H id 0 = some (flat f l)) (hi : b ≤ id) : FA H b (d + 3) (.ms id 0 0 l.length cap sz ex) = some (.sl (enL f l) .no) := by
 have h1 : ¬ id < b := by omega
 unfold FA
 simp only [frz, h1, if_false, hg, Option.bind_some, List.drop_zero, Nat.zero_add, L7, Nat.le_refl, if_true, List.take_of_length_le (Nat.le_of_eq (L7 (f := f) l)), Hi (NN (f := f) l), flat_imm (f := f) l, R6, Option.map_some, forget, FM, fgt]
@[simp] theorem Sx {G : Aa} {g : Nat} {cs : List Ab} : G0 (H ++ G) H.length g cs = H ++ G0 G 0 g cs := Qt (k := 0)
@[simp] theorem setC_appK {G : Aa} {g k : Nat} {cs : List Ab} : G0 (H ++ G) (H.length + k) g cs = H ++ G0 G k g cs := Qt
@[simp] theorem Sv {G : Aa} {g g' : Nat} {c cs : List Ab} : G0 (.cel g' c :: G) 0 g cs = .cel g cs :: G := (rfl)
@[simp] theorem setC_suc {G : Aa} {g k : Nat} {b : Blk} {cs : List Ab} : G0 (b :: G) (k + 1) g cs = b :: G0 G k g cs := Sw

end
theorem Bc {H : Aa} {p : Nat} {cs : List Ab} (hg : H[p]? = some (.cel 0 cs)) : A7 H p 0 = some cs := by simp [A7, hg]
theorem load_left {a : Bool} {sz p g o : Nat} {H G : Aa} {v : Ab} (h : Ad a sz (.ptr p g o) H = some v) : Ad a sz (.ptr p g o) (H ++ G) = some v := by
 unfold Ad at h ⊢
 simp only at h ⊢
 cases hg : A7 H p g with
 | none => rw [hg] at h; cases h
 | some cs =>
  have : A7 (H ++ G) p g = some cs := by
   have hlt : p < H.length := by
    by_cases hl : p < H.length
    ·exact hl
    ·unfold A7 at hg; rw [List.getElem?_eq_none (by omega)] at hg; cases hg
   rw [get_old hlt]; exact hg
  rw [this]; rw [hg] at h; exact h
theorem Dg {H : Aa} {p : Nat} {cs cs' : List Ab} (hg : H[p]? = some (.cel 0 cs)) : G0 H p 0 cs' = H.set p (.cel 0 cs') := by simp [G0, hg]
theorem AG {cs : List Ab} {B : Aa} : (B ++ [Blk.cel 0 cs])[B.length]? = some (.cel 0 cs) := by simp
theorem Cd {B : Aa} {b b' : Blk} : (B ++ [b]).set B.length b' = B ++ [b'] := by simp
end Go.Gm
namespace Go.Gm
theorem GMb : (((((((∀ {α β : Type} (a : α) (f : α → Option β), Option.bind (Option.some a) f = f a) ∧
 (∀ (v : Ab) (l : List Ab), ag (v :: l) 0 = v)) ∧
 ((∀ (a v : Ab) (l : List Ab), ag (a :: v :: l) 1 = v) ∧
 (∀ (a b v : Ab) (l : List Ab), ag (a :: b :: v :: l) 2 = v))) ∧
 (((∀ (a b c v : Ab) (l : List Ab), ag (a :: b :: c :: v :: l) 3 = v) ∧
 (∀ (a b c d v : Ab) (l : List Ab), ag (a :: b :: c :: d :: v :: l) 4 = v)) ∧
 ((∀ (a b c d e v : Ab) (l : List Ab), ag (a :: b :: c :: d :: e :: v :: l) 5 = v) ∧
 (∀ {ek : EqK} {k : IntKind} {a b : Int}, Ae ek BinOp.lss (Ab.int k a) (Ab.int k b) = Option.some (Ab.bool (Decidable.decide (a < b))))))) ∧
 ((((∀ {ek : EqK} {k : IntKind} {a b : Int}, Ae ek BinOp.gtr (Ab.int k a) (Ab.int k b) = Option.some (Ab.bool (Decidable.decide (a > b)))) ∧
 (∀ {ek : EqK} {k : IntKind} {a b : Int}, Ae ek BinOp.leq (Ab.int k a) (Ab.int k b) = Option.some (Ab.bool (Decidable.decide (a ≤ b))))) ∧
 ((∀ {ek : EqK} {k : IntKind} {a b : Int}, Ae ek BinOp.geq (Ab.int k a) (Ab.int k b) = Option.some (Ab.bool (Decidable.decide (a ≥ b)))) ∧
 (∀ {ek : EqK} {k : IntKind} {a b : Int}, Ae ek BinOp.eql (Ab.int k a) (Ab.int k b) = Option.some (Ab.bool (a == b))))) ∧
 (((∀ {ek : EqK} {k : IntKind} {a b : Int}, Ae ek BinOp.neq (Ab.int k a) (Ab.int k b) = Option.some (Ab.bool (a != b))) ∧
 (∀ {ek : EqK} {k : IntKind} {a b : Int}, Ae ek BinOp.add (Ab.int k a) (Ab.int k b) = Option.some (Ab.int k (IntKind.wrap k (a + b))))) ∧
 ((∀ {ek : EqK} {k : IntKind} {a b : Int}, Ae ek BinOp.sub (Ab.int k a) (Ab.int k b) = Option.some (Ab.int k (IntKind.wrap k (a - b)))) ∧
 ((∀ {ek : EqK} {k : IntKind} {a b : Int}, Ae ek BinOp.mul (Ab.int k a) (Ab.int k b) = Option.some (Ab.int k (IntKind.wrap k (a * b)))) ∧
 (∀ (a b : Out), Aj (Ab.bool Bool.true) a b = a)))))) ∧
 (((((∀ (a b : Out), Aj (Ab.bool Bool.false) a b = b) ∧
 (∀ (a b : Ab), Ax (Ab.bool Bool.true) a b = Option.some a)) ∧
 ((∀ (a b : Ab), Ax (Ab.bool Bool.false) a b = Option.some b) ∧
 (∀ {kv : Ab → Out} (x : Option Ab), gk (Ab.bool Bool.true) Bool.true x kv = Option.bind x kv))) ∧
 (((∀ {kv : Ab → Out} (x : Option Ab), gk (Ab.bool Bool.false) Bool.false x kv = Option.bind x kv) ∧
 (∀ {kv : Ab → Out} (x : Option Ab), gk (Ab.bool Bool.true) Bool.false x kv = kv B8)) ∧
 ((∀ {kv : Ab → Out} (x : Option Ab), gk (Ab.bool Bool.false) Bool.true x kv = kv B8) ∧
 ((∀ {kv : Ab → Out} (w : Bool) (x : Option Ab), gk (Ab.tup []) w x kv = kv B8) ∧
 (∀ {x : Option Ab} {p : Bool → Ab → Prop} {k : Ab → Out}, gkc (Ab.bool Bool.true) Bool.true x p k = bC x (p Bool.true) k))))) ∧
 ((((∀ {x : Option Ab} {p : Bool → Ab → Prop} {k : Ab → Out}, gkc (Ab.bool Bool.false) Bool.false x p k = bC x (p Bool.true) k) ∧
 (∀ {x : Option Ab} {p : Bool → Ab → Prop} {k : Ab → Out}, gkc (Ab.bool Bool.true) Bool.false x p k = chk (p Bool.false B8) (k B8))) ∧
 ((∀ {x : Option Ab} {p : Bool → Ab → Prop} {k : Ab → Out}, gkc (Ab.bool Bool.false) Bool.true x p k = chk (p Bool.false B8) (k B8)) ∧
 (∀ {x : Option Ab} {p : Bool → Ab → Prop} {k : Ab → Out} {w : Bool}, gkc (Ab.tup []) w x p k = chk (p Bool.false B8) (k B8)))) ∧
 (((∀ {v : Ab} {p : Ab → Prop} {k : Ab → Out}, bC (Option.some v) p k = chk (p v) (k v)) ∧
 (∀ {x : Out}, chk True x = x)) ∧
 ((∀ {H0 H : Aa} {k : Ab → Aa → Out} (x : Out), gbK H0 (Ab.bool Bool.true) Bool.true H x k = bK H0 x k) ∧
 ((∀ {H0 H : Aa} {k : Ab → Aa → Out} (x : Out), gbK H0 (Ab.bool Bool.false) Bool.false H x k = bK H0 x k) ∧
 (∀ {H0 H : Aa} {k : Ab → Aa → Out} (x : Out), gbK H0 (Ab.bool Bool.true) Bool.false H x k = k B8 H))))))) ∧
 ((((((∀ {H0 H : Aa} {k : Ab → Aa → Out} (x : Out), gbK H0 (Ab.bool Bool.false) Bool.true H x k = k B8 H) ∧
 (∀ {H0 H : Aa} {k : Ab → Aa → Out} (w : Bool) (x : Out), gbK H0 (Ab.tup []) w H x k = k B8 H)) ∧
 ((∀ {H0 H : Aa} {k : Ab → Aa → Out} (x : Out), gbP H0 (Ab.bool Bool.true) Bool.true H x k = bP H0 x k) ∧
 (∀ {H0 H : Aa} {k : Ab → Aa → Out} (x : Out), gbP H0 (Ab.bool Bool.false) Bool.false H x k = bP H0 x k))) ∧
 (((∀ {H0 H : Aa} {k : Ab → Aa → Out} (x : Out), gbP H0 (Ab.bool Bool.true) Bool.false H x k = k B8 H) ∧
 (∀ {H0 H : Aa} {k : Ab → Aa → Out} (x : Out), gbP H0 (Ab.bool Bool.false) Bool.true H x k = k B8 H)) ∧
 ((∀ {H0 H : Aa} {k : Ab → Aa → Out} (w : Bool) (x : Out), gbP H0 (Ab.tup []) w H x k = k B8 H) ∧
 (∀ {H : Aa} {k : Ab → Aa → Out} (x : Out), gbN (Ab.bool Bool.true) Bool.true H x k = AQ x k)))) ∧
 ((((∀ {H : Aa} {k : Ab → Aa → Out} (x : Out), gbN (Ab.bool Bool.false) Bool.false H x k = AQ x k) ∧
 (∀ {H : Aa} {k : Ab → Aa → Out} (x : Out), gbN (Ab.bool Bool.true) Bool.false H x k = k B8 H)) ∧
 ((∀ {H : Aa} {k : Ab → Aa → Out} (x : Out), gbN (Ab.bool Bool.false) Bool.true H x k = k B8 H) ∧
 (∀ {H : Aa} {k : Ab → Aa → Out} (w : Bool) (x : Out), gbN (Ab.tup []) w H x k = k B8 H))) ∧
 (((∀ {H : Aa} {k : Ab → Aa → Out} (v : Ab), AQ (Option.some (Res.ret v, H)) k = k v H) ∧
 (∀ {H0 H : Aa} {k : Ab → Aa → Out} (v : Ab), bK H0 (Option.some (Res.ret v, H)) k = k v H)) ∧
 ((∀ {H0 H : Aa} {k : Ab → Aa → Out} (v : Ab), bP H0 (Option.some (Res.ret v, H)) k = k v H) ∧
 ((∀ {H0 H : Aa} (v : Ab), rK H0 v H = Option.some (Res.ret v, H)) ∧
 (∀ {H H0 : Aa} {v : Ab}, rKN H0 v H = Option.some (Res.ret (forget v), H))))))) ∧
 (((((∀ {c : Bool}, unA UnOp.not (Ab.bool c) = Option.some (Ab.bool !c)) ∧
 (∀ {H : Aa} (v : Ab), retV (Option.some v) H = Option.some (Res.ret v, H))) ∧
 ((∀ {H : Aa}, Au (Option.some H) = Option.some (Res.ret Ab.undef, H)) ∧
 (∀ {H : Aa} (v : Ab), B4 (Option.some (v, H)) = Option.some (Res.ret v, H)))) ∧
 (((∀ {H : Aa} {k : Ab → Aa → Out} (v : Ab), Ap (Option.some (v, H)) k = k v H) ∧
 (∀ {a b : Int}, (a == b) = decide (a = b))) ∧
 ((∀ {a b : Int}, (a != b) = !decide (a = b)) ∧
 (((!true) = false) ∧
 ((!false) = true))))) ∧
 (((((false = true) = False) ∧
 (∀ (b : Bool), (false || b) = b)) ∧
 ((∀ (b : Bool), (true || b) = true) ∧
 (∀ (b : Bool), (b || false) = b))) ∧
 (((∀ (b : Bool), (b || true) = true) ∧
 (∀ (b : Bool), (b && true) = b)) ∧
 ((∀ (b : Bool), (true && b) = b) ∧
 ((∀ (b : Bool), (b && false) = false) ∧
 (∀ (b : Bool), (false && b) = false)))))))) :=
 ⟨⟨⟨⟨⟨⟨@Bw, @AF⟩, ⟨@Df, @Du⟩⟩, ⟨⟨@Gv, @GV⟩, ⟨@MG, @Bd⟩⟩⟩, ⟨⟨⟨@De, @Mk⟩, ⟨@GN, @DM⟩⟩, ⟨⟨@IR, @BQ⟩, ⟨@DL, ⟨@FU, @AU⟩⟩⟩⟩⟩, ⟨⟨⟨⟨@AL, @Ci⟩, ⟨@Cw, @Ja⟩⟩, ⟨⟨@Ps, @Rp⟩, ⟨@Pr, ⟨@gk_s, @O3⟩⟩⟩⟩, ⟨⟨⟨@O6, @O4⟩, ⟨@O5, @SK⟩⟩, ⟨⟨@OY, @HA⟩, ⟨@OF, ⟨@OI, @OG⟩⟩⟩⟩⟩⟩, ⟨⟨⟨⟨⟨@OH, @SN⟩, ⟨@O7, @OA⟩⟩, ⟨⟨@O8, @O9⟩, ⟨@SL, @OB⟩⟩⟩, ⟨⟨⟨@OE, @OC⟩, ⟨@OD, @SM⟩⟩, ⟨⟨@FZ, @FC⟩, ⟨@DP, ⟨@Ph, @KI⟩⟩⟩⟩⟩, ⟨⟨⟨⟨@Kc, @FW⟩, ⟨@Ek, @CW⟩⟩, ⟨⟨@B9, @EO⟩, ⟨@IQ, ⟨Bool.not_true, Bool.not_false⟩⟩⟩⟩, ⟨⟨⟨@Bool.false_eq_true, @Bool.false_or⟩, ⟨@Bool.true_or, @Bool.or_false⟩⟩, ⟨⟨@Bool.or_true, @Bool.and_true⟩, ⟨@Bool.true_and, ⟨@Bool.and_false, @Bool.false_and⟩⟩⟩⟩⟩⟩⟩
theorem GMc : ((∀ (f : (List Ab → Aa → Out) → Out) (j : List Ab → Aa → Out), AJ f j = f j) ∧ (∀ h : Decidable True, @decide True h = true) ∧ (∀ h : Decidable False, @decide False h = false) ∧ (∀ (α : Type) (h : Decidable True) (t e : α), @ite α True h t e = t) ∧ (∀ (α : Type) (h : Decidable False) (t e : α), @ite α False h t e = e)) :=
 ⟨fun _ _ => rfl, fun _ => decide_true _, fun _ => decide_false _, fun _ _ _ _ => if_true _ _, fun _ _ _ _ => if_false _ _⟩
end Go.Gm
namespace Go.Gm
theorem Gd {H : Aa} {p o : Nat} {cs : List Ab} {v : Ab} (h : H[p]? = some (.cel 0 cs)) (hv : v.isScal = true) (ho : o < cs.length) : Af 1 (.ptr p 0 o) v H = some (H.set p (.cel 0 (cs.set o v))) := by
 have hc : v.acells = some [v] := by cases v <;> first | rfl | (simp [Ab.isScal] at hv)
 simp only [Af, Bc h, Bw, hc, List.length_singleton]
 rw [if_pos ⟨trivial, by omega⟩, Dg h, show DR cs o 1 [v] = cs.set o v from by rw [List.set_eq_take_append_cons_drop, if_pos ho]; simp [DR]]
theorem Dz {H : Aa} {p sz : Nat} {cs ws : List Ab} (h : H[p]? = some (.cel 0 cs)) (hl : cs.length = sz) (hl2 : ws.length = sz) (hs : ws.all Ab.isScal = true) : Af sz (.ptr p 0 0) (.agg ws) H = some (H.set p (.cel 0 ws)) := by
 simp only [Af, Bc h, Bw, Fm hs, hl, hl2, Nat.zero_add, Nat.le_refl, and_self, if_true, KJ hl, Dg h]
theorem BT {H : Aa} {p sz : Nat} {cs : List Ab} (h : H[p]? = some (.cel 0 cs)) (hl : cs.length = sz) : Ad true sz (.ptr p 0 0) H = some (.agg cs) := by
 simp only [Ad, Bc h, Bw, if_true, List.drop_zero, hl, Nat.zero_add, Nat.le_refl]
 rw [List.take_of_length_le (Nat.le_of_eq hl)]
theorem Bf {H : Aa} {p o sz : Nat} {cs : List Ab} (h : H[p]? = some (.cel 0 cs)) : Ad false sz (.ptr p 0 o) H = cs[o]? := by
 simp only [Ad, Bc h, Bw]; rfl
def RQ : Ab → Bool
 | .agg cs => cs.all G1
 | v => G1 v
theorem plnT_frz {v : Ab} {H : Aa} {n d : Nat} (h : RQ v = true) : frz H n (d + 3) v = some v := by
 cases v with
 | agg cs =>
  have h' : cs.all G1 = true := h
  simp only [frz, Hi h', Option.map_some]
 | _ => exact plnC_frz (d := d + 2) h
theorem S7 {H : Aa} {n d : Nat} : ∀ {cs : List Ab}, cs.all RQ = true → Dy H n (d + 4) cs = some cs
 | [], _ => by simp [Dy]
 | c :: cs, h => by
  simp only [List.all_cons, Bool.and_eq_true] at h
  simp [Dy, plnT_frz h.1, S7 h.2]
theorem rP_aggP {H G : Aa} {cs : List Ab} (h : cs.all G1 = true) : rP H (.agg cs) (H ++ G) = some (.ret (.agg cs), H) := by
 rw [rP_eq _ (by simp)]
 simp only [frz, Hi h, Option.map_some]
theorem rP_tupP {H G : Aa} {cs : List Ab} (h : cs.all RQ = true) : rP H (.tup cs) (H ++ G) = some (.ret (.tup cs), H) := by
 rw [rP_eq _ (by simp)]
 simp only [frz, S7 h, Option.map_some]
theorem Hb {g o : Nat} {v : Ab} {cs : List Ab} {G : Aa} (hv : v.isScal = true) (h : o < cs.length) : Af 1 (.ptr 0 g o) v (.cel g cs :: G) = some (.cel g (cs.set o v) :: G) := by
 have hc : v.acells = some [v] := by cases v <;> first | rfl | (simp [Ab.isScal] at hv)
 rw [Qo, hc]
 simp only [Bw, List.length_singleton]
 rw [if_pos ⟨trivial, by omega⟩, List.set_eq_take_append_cons_drop, if_pos h]
 simp [DR]
theorem store_agg {sz g : Nat} {cs ws : List Ab} {G : Aa} (h : cs.length = sz) (h2 : ws.length = sz) (h3 : ws.all Ab.isScal = true) : Af sz (.ptr 0 g 0) (.agg ws) (.cel g cs :: G) = some (.cel g ws :: G) := LR (Fm h3) h h2
theorem app_app (a b c : Aa) : a ++ b ++ c = a ++ (b ++ c) := List.append_assoc a b c
theorem len_app (a b : Aa) : (a ++ b).length = a.length + b.length := List.length_append
theorem AP (x : Ab) (b : List Ab) : (x :: b)[0]? = some x := (rfl)
theorem Bl (x : Ab) (b : List Ab) (i : Nat) : (x :: b)[i + 1]? = b[i]? := (rfl)
theorem allA_cons (p : Ab → Bool) (x : Ab) (b : List Ab) : (x :: b).all p = (p x && b.all p) := (rfl)
theorem allA_nil (p : Ab → Bool) : ([] : List Ab).all p = true := (rfl)
def GC (x : Nd) : List Ab := [.int .i64 x.k0, .int .i64 x.k1, .int .i64 x.k2, .int .i64 x.k3]
theorem ld_kids (x : Nd) (H : Aa) : Ad true 4 (.cptr (cNd x) 1) H = some (.agg (GC x)) := (rfl)
theorem ag_kid (x : Nd) {k : Nat} (hk : k < 4) (K : IntKind) : L3 false 4 1 (.agg (GC x)) (.int K (k : Int)) = some (.int .i64 (x.kid k)) := by
 match k, hk with
 | 0, _ => rfl
 | 1, _ => rfl
 | 2, _ => rfl
 | 3, _ => rfl
theorem BC (g : Nat) (x : Nd) (G : Aa) : Ad true 4 (.ptr 0 g 1) (.cel g (cNd x) :: G) = some (.agg (GC x)) := by
 rw [show Ad true 4 (.ptr 0 g 1) (.cel g (cNd x) :: G) = if 1 + 4 ≤ (cNd x).length then some (.agg (((cNd x).drop 1).take 4)) else none from by simp only [Ad, L4]; rfl]
 rfl
theorem BE (x : Nd) : (cNd x).length = 5 := (rfl)
theorem HPa : (((∀ (H G : Aa) (a : Bool) (sz k g o : Nat), Ad a sz (.ptr (H.length + k) g o) (H ++ G) = Ad a sz (.ptr k g o) G) ∧
  (∀ (H G : Aa) (a : Bool) (sz g o : Nat), Ad a sz (.ptr H.length g o) (H ++ G) = Ad a sz (.ptr 0 g o) G)) ∧
  ((∀ (b : Blk) (G : Aa) (a : Bool) (sz k g o : Nat), Ad a sz (.ptr (k + 1) g o) (b :: G) = Ad a sz (.ptr k g o) G) ∧
  (∀ (cs : List Ab) (G : Aa) (sz g o : Nat), Ad false sz (.ptr 0 g o) (.cel g cs :: G) = cs[o]?) ∧
  (∀ (cs : List Ab) (G : Aa) (sz g : Nat), cs.length = sz → Ad true sz (.ptr 0 g 0) (.cel g cs :: G) = some (.agg cs)))) ∧
 (((∀ (H G : Aa) (v : Ab) (sz k g o : Nat), Af sz (.ptr (H.length + k) g o) v (H ++ G) = (Af sz (.ptr k g o) v G).map (H ++ ·)) ∧
  (∀ (H G : Aa) (v : Ab) (sz g o : Nat), Af sz (.ptr H.length g o) v (H ++ G) = (Af sz (.ptr 0 g o) v G).map (H ++ ·))) ∧
  ((∀ (b : Blk) (G : Aa) (v : Ab) (sz k g o : Nat), Af sz (.ptr (k + 1) g o) v (b :: G) = (Af sz (.ptr k g o) v G).map (b :: ·)) ∧
  (∀ (cs : List Ab) (G : Aa) (v : Ab) (g o : Nat), v.isScal = true → o < cs.length → Af 1 (.ptr 0 g o) v (.cel g cs :: G) = some (.cel g (cs.set o v) :: G)) ∧
  (∀ (cs ws : List Ab) (G : Aa) (sz g : Nat), cs.length = sz → ws.length = sz → ws.all Ab.isScal = true → Af sz (.ptr 0 g 0) (.agg ws) (.cel g cs :: G) = some (.cel g ws :: G)))) ∧
 ((∀ (cs : List Ab) (H : Aa), cs.all Ab.isScal = true → A3 (some cs) H = some (.ptr H.length 0 0, H ++ [.cel 0 cs])) ∧
  (∀ (cs : List Ab) (H : Aa) (sz : Nat), cs.all Ab.isScal = true → cs.length = sz → BP true sz (.agg cs) H = some (.ptr H.length 0 0, H ++ [.cel 0 cs]))) :=
 ⟨⟨⟨fun _ _ _ _ _ _ _ => load_app, fun _ _ _ _ _ _ => CL⟩, fun _ _ _ _ _ _ _ => load_succ, fun _ _ _ _ _ => FY, fun _ _ _ _ h => QW h⟩,
  ⟨⟨fun _ _ _ _ _ _ _ => Sp, fun _ _ _ _ _ _ => Fb⟩, fun _ _ _ _ _ _ _ => store_succ, fun _ _ _ _ _ h1 h2 => Hb h1 h2, fun _ _ _ _ _ h1 h2 h3 => store_agg h1 h2 h3⟩,
  fun _ _ h => alloc_eq h, fun _ _ _ h1 h2 => DK h1 h2⟩
theorem HPc : (((∀ (K : IntKind) (n : Int), (Ab.int K n).isScal = true) ∧ (∀ t : Bool, (Ab.bool t).isScal = true) ∧ (∀ s : List UInt8, (Ab.str s).isScal = true)) ∧
  ((∀ (es : List (List Ab)) (tk : Tok), (Ab.sl es tk).isScal = true) ∧ (∀ (id g off len cap sz : Nat) (ex : Bool), (Ab.ms id g off len cap sz ex).isScal = true) ∧ (∀ id g off : Nat, (Ab.ptr id g off).isScal = true)) ∧
  (∀ id : Nat, (Ab.mp id).isScal = true) ∧ (∀ (f : FuncId) (c : List Ab), (Ab.fn f c).isScal = true) ∧ (Ab.nilp.isScal = true) ∧ (Ab.nilmap.isScal = true) ∧ Ab.nilfn.isScal = true) ∧
 (((∀ (K : IntKind) (n : Int), G1 (Ab.int K n) = true) ∧ (∀ t : Bool, G1 (Ab.bool t) = true) ∧ (∀ s : List UInt8, G1 (Ab.str s) = true)) ∧
  ((∀ (es : List (List Ab)), G1 (Ab.sl es .no) = true) ∧ (∀ (es : List (List Ab)), G1 (Ab.sl es .tight) = true)) ∧
  ((∀ (K : IntKind) (n : Int), RQ (Ab.int K n) = true) ∧ (∀ t : Bool, RQ (Ab.bool t) = true) ∧ (∀ s : List UInt8, RQ (Ab.str s) = true)) ∧
  ((∀ (es : List (List Ab)), RQ (Ab.sl es .no) = true) ∧ (∀ (es : List (List Ab)), RQ (Ab.sl es .tight) = true)) ∧ (∀ cs : List Ab, RQ (.agg cs) = cs.all G1)) ∧
 ((∀ (H G : Aa) (cs : List Ab), cs.all G1 = true → rP H (.agg cs) (H ++ G) = some (.ret (.agg cs), H)) ∧
  (∀ (H G : Aa) (cs : List Ab), cs.all RQ = true → rP H (.tup cs) (H ++ G) = some (.ret (.tup cs), H)) ∧
  (∀ (H G : Aa) (t : Bool), rP H (.bool t) (H ++ G) = some (.ret (.bool t), H)) ∧
  (∀ (H G : Aa) (K : IntKind) (n : Int), rP H (.int K n) (H ++ G) = some (.ret (.int K n), H)) ∧
  (∀ (H G : Aa) (s : List UInt8), rP H (.str s) (H ++ G) = some (.ret (.str s), H))) :=
 ⟨⟨⟨fun _ _ => rfl, fun _ => rfl, fun _ => rfl⟩, ⟨fun _ _ => rfl, fun _ _ _ _ _ _ _ => rfl, fun _ _ _ => rfl⟩, fun _ => rfl, fun _ _ => rfl, rfl, rfl, rfl⟩,
  ⟨⟨fun _ _ => rfl, fun _ => rfl, fun _ => rfl⟩, ⟨fun _ => rfl, fun _ => rfl⟩, ⟨fun _ _ => rfl, fun _ => rfl, fun _ => rfl⟩, ⟨fun _ => rfl, fun _ => rfl⟩, fun _ => rfl⟩,
  fun _ _ _ h => rP_aggP h, fun _ _ _ h => rP_tupP h, fun _ _ _ => FJ, fun _ _ _ _ => Qx, fun _ _ _ => rP_str⟩
theorem HPd : ((∀ (H G : Aa) (v : Ab), rPN H v (H ++ G) = (FA (H ++ G) H.length 8 v).map fun v => (.ret v, H)) ∧
  (∀ (H : Aa) (n d : Nat) (vs : List Ab), FA H n (d + 1) (.tup vs) = (Gn H n d vs).map .tup) ∧
  (∀ (H : Aa) (n d : Nat) (cs : List Ab), FA H n (d + 1) (.agg cs) = (Ee H n d cs).map .agg) ∧
  (∀ (H : Aa) (n d : Nat) (es : List (List Ab)) (tk : Tok), FA H n (d + 1) (.sl es tk) = some (.sl es .no))) ∧
 ((∀ (H : Aa) (n d : Nat), Gn H n (d + 1) [] = some []) ∧
  (∀ (H : Aa) (n d : Nat) (v : Ab) (vs : List Ab), Gn H n (d + 1) (v :: vs) = (EG H n d v).bind fun v' => (Gn H n (d + 1) vs).map (v' :: ·)) ∧
  (∀ (H : Aa) (n d : Nat), Ee H n (d + 1) [] = some []) ∧
  (∀ (H : Aa) (n d : Nat) (v : Ab) (vs : List Ab), Ee H n (d + 1) (v :: vs) = (Gp H n d v).bind fun v' => (Ee H n (d + 1) vs).map (v' :: ·))) ∧
 ((∀ (H : Aa) (n d : Nat) (cs : List Ab), EG H n (d + 1) (.agg cs) = (Ee H n d cs).map .agg) ∧
  (∀ (H : Aa) (n d : Nat) (K : IntKind) (i : Int), EG H n (d + 1) (.int K i) = some (.int K i)) ∧
  (∀ (H : Aa) (n d : Nat) (t : Bool), EG H n (d + 1) (.bool t) = some (.bool t)) ∧
  (∀ (H : Aa) (n d : Nat) (s : List UInt8), EG H n (d + 1) (.str s) = some (.str s)) ∧
  (∀ (H : Aa) (n d : Nat) (es : List (List Ab)) (tk : Tok), EG H n (d + 1) (.sl es tk) = some (.sl es .no))) ∧
 ((∀ (H : Aa) (n d : Nat) (K : IntKind) (i : Int), Gp H n (d + 1) (.int K i) = some (.int K i)) ∧
  (∀ (H : Aa) (n d : Nat) (t : Bool), Gp H n (d + 1) (.bool t) = some (.bool t)) ∧
  (∀ (H : Aa) (n d : Nat) (s : List UInt8), Gp H n (d + 1) (.str s) = some (.str s)) ∧
  (∀ (H : Aa) (n d : Nat) (es : List (List Ab)) (tk : Tok), Gp H n (d + 1) (.sl es tk) = some (.sl es .no))) ∧
 ((∀ xs : List (Option Ab), BM xs = (RO xs).map .tup) ∧ (RO [] = some []) ∧ (∀ (x : Option Ab) (xs : List (Option Ab)), RO (x :: xs) = x.bind fun v => (RO xs).map (v :: ·))) ∧
 ((∀ (v : Ab) (vs : List Ab), Ak 0 (.tup (v :: vs)) = some v) ∧ (∀ (v w : Ab) (vs : List Ab), Ak 1 (.tup (v :: w :: vs)) = some w) ∧ (∀ (v w u : Ab) (vs : List Ab), Ak 2 (.tup (v :: w :: u :: vs)) = some u)) :=
 ⟨⟨fun _ _ _ => DB, fun _ _ _ _ => Fy, fun _ _ _ _ => fall_agg, fun _ _ _ _ _ => I3⟩, ⟨fun _ _ _ => D5, fun _ _ _ _ _ => CS, fun _ _ _ => I0, fun _ _ _ _ _ => GK⟩,
  ⟨fun _ _ _ _ => Me, fun _ _ _ _ _ => Eo, fun _ _ _ _ => fpart_bool, fun _ _ _ _ => fpart_str, fun _ _ _ _ _ => L6⟩, ⟨fun _ _ _ _ _ => fcell_int, fun _ _ _ _ => Rv, fun _ _ _ _ => fcell_str, fun _ _ _ _ _ => NQ⟩,
  ⟨fun _ => rfl, rfl, fun _ _ => rfl⟩, fun _ _ => rfl, fun _ _ _ => rfl, fun _ _ _ _ => rfl⟩
theorem HPe : (∀ (H : Aa) (j k : Nat), List.length H + j + k = List.length H + (j + k)) ∧ (∀ (H0 H : Aa) (v : Ab) (k : Ab → Aa → Out), bK H0 (some (.pan v, H)) k = some (.pan v, H)) ∧ (∀ (α β : Type) (a : α) (f : α → β), Option.map f (some a) = some (f a)) ∧ (∀ id g o : Nat, Ag (.ptr id g o) = some (.ptr id g o)) ∧ (∀ off id g o : Nat, Ac off (.ptr id g o) = some (.ptr id g (o + off))) ∧
 ((∀ a b c : Aa, a ++ b ++ c = a ++ (b ++ c)) ∧ (∀ (x : Blk) (b c : Aa), (x :: b) ++ c = x :: (b ++ c)) ∧ (∀ b : Aa, ([] : Aa) ++ b = b) ∧ (∀ a b : Aa, (a ++ b).length = a.length + b.length) ∧ (∀ (x : Blk) (b : Aa), (x :: b).length = b.length + 1) ∧ (([] : Aa).length = 0)) ∧
 ((∀ (x : Ab) (b : List Ab), (x :: b).length = b.length + 1) ∧ (([] : List Ab).length = 0) ∧ (∀ (x : Ab) (b : List Ab), (x :: b)[0]? = some x) ∧ (∀ (x : Ab) (b : List Ab) (i : Nat), (x :: b)[i + 1]? = b[i]?)) ∧
 ((∀ (x y : Ab) (b : List Ab), (x :: b).set 0 y = y :: b) ∧ (∀ (x y : Ab) (b : List Ab) (i : Nat), (x :: b).set (i + 1) y = x :: b.set i y) ∧ (∀ (p : Ab → Bool) (x : Ab) (b : List Ab), (x :: b).all p = (p x && b.all p)) ∧ (∀ p : Ab → Bool, ([] : List Ab).all p = true)) ∧
 (∀ s : List UInt8, Be (.str s) = some (.int .i64 (s.length : Int))) :=
 ⟨fun _ _ _ => Nat.add_assoc _ _ _, fun _ _ _ _ => rfl, fun _ _ _ _ => rfl, fun _ _ _ => rfl, fun _ _ _ _ => rfl, ⟨app_app, fun _ _ _ => rfl, fun _ => rfl, len_app, fun _ _ => rfl, rfl⟩, ⟨fun _ _ => rfl, rfl, fun _ _ => rfl, fun _ _ _ => rfl⟩, ⟨fun _ _ _ => rfl, fun _ _ _ _ => rfl, fun _ _ _ => rfl, fun _ => rfl⟩, fun _ => rfl⟩
theorem HPz : ((∀ n : Nat, 0 + n = n) ∧ (∀ n : Nat, n + 0 = n) ∧ (∀ p : Prop, (p ∧ p) = p) ∧ (∀ p : Prop, (p ∧ True) = p) ∧ (∀ (α : Type) (a : α), (a = a) = True) ∧ (∀ b : Bool, (b && b) = b)) :=
 ⟨Nat.zero_add, Nat.add_zero, and_self, and_true, fun _ a => eq_self a, Bool.and_self⟩
end Go.Gm
namespace Go.Gm
def Cm (L : List Nd) (i : Nat) (x : Nd) (c : Int) : Bool :=
 decide (0 ≤ c) && (decide (x.lv = 1 → c ≤ 255)) && decide (1 < x.lv → 0 < c → c ≤ i ∧ ∀ y, L[(c - 1).toNat]? = some y → y.lv = x.lv - 1)
def DS (L : List Nd) (i : Nat) : Bool :=
 match L[i]? with
 | some x => decide (1 ≤ x.lv ∧ x.lv ≤ 1329) && (List.range 4).all fun k => Cm L i x (x.kid k)
 | none => true
def AD (L : List Nd) : Bool := (List.range L.length).all (DS L)
theorem S4 (L : List Nd) (tk : Tok) (H : Aa) (hL : L.length < 1152921504606846976) : Sh.fh (.sl (enL cNd L) tk) H = some (.ret (.bool (AD L)), H) := by
 unfold Sh.fh
 rw [show AD L = (List.range L.length).all (DS L) from rfl]
 have := DU L.length (DS L) (fun i => [.sl (enL cNd L) tk, .int .i64 (i : Int)]) H (some (.ret (.bool true), H)) (some (.ret (.bool false), H)) hL (fun rec i hi => ?_) (fun rec => ?_)
  (G := fun rec1 vs H1 => Sh.f48 H rec1 (ag vs 0) (ag vs 1) H1)
 ·refine this.trans ?_
  cases (List.range L.length).all (DS L) <;> rfl
 ·have hx : (i : Int) < (L.length : Int) := by omega
  have hg : L[i]? = some L[i] := List.getElem?_eq_getElem hi
  unfold Sh.f48
  simp only [AF, Df, A5, Bw, Bd, hx, decide_true, AU, A2 hi, Am, Aw, Nat.add_zero, Ba]
  by_cases h1 : L[i].lv < 1
  ·have : DS L i = false := by simp only [DS, hg]; simp; intro; omega
   simp [h1, this]
  ·by_cases h2 : L[i].lv > 1329
   ·have : DS L i = false := by simp only [DS, hg]; simp; intro; omega
    simp [h1, h2, this, A2 hi]
   ·have hd : DS L i = (List.range 4).all fun k => Cm L i L[i] (L[i].kid k) := by
     simp only [DS, hg]; rw [decide_eq_true (by omega)]; rfl
    simp only [h1, h2, decide_false, Ps, Bw, De, Cw, AL, hd, Aw, Nat.add_zero, Ba, Am, A2 hi]
    have := DU 4 (fun k => Cm L i L[i] (L[i].kid k)) (fun k => [.sl (enL cNd L) tk, .int .i64 (i : Int), .int .i64 (k : Int)]) H (rec [.sl (enL cNd L) tk, .int .i64 ((i + 1 : Nat) : Int)] H) (some (.ret (.bool false), H)) (by decide) (fun rec2 k hk => ?_) (fun rec2 => ?_)
     (G := fun rec2 vs H1 => Sh.f47 H rec rec2 (ag vs 0) (ag vs 1) (ag vs 2) H1)
    ·exact this
    ·have hk' : (k : Int) < 4 := by omega
     unfold Sh.f47
     simp only [AF, Df, Du, Bw, Bd, hk', decide_true, AU, A2 hi, Am, CY hk, Aw, Nat.zero_add, Nat.mul_one, CI hk, Ba, Ar (show k < 9223372036854775807 by omega), BQ, DM, De]
     generalize L[i].kid k = c
     generalize hx' : L[i] = x at h1 h2 ⊢
     by_cases hc : c < 0
     ·have : Cm L i x c = false := by simp [Cm]; omega
      simp [hc, this, A2 hi, hx']
     ·obtain ⟨n, rfl⟩ := Int.eq_ofNat_of_zero_le (show 0 ≤ c by omega)
      by_cases hl : x.lv = 1
      ·by_cases h255 : 255 < n
       ·have : Cm L i x n = false := by simp [Cm, hl]; omega
        have h256 : (255 : Int) < n := by omega
        simp [hc, hl, h255, h256, this, A2 hi, hx']
       ·have : Cm L i x n = true := by simp [Cm, hl]; omega
        have h256 : ¬ (255 : Int) < n := by omega
        simp [hc, hl, h255, h256, this, A2 hi, hx']
      ·have hl1 : 1 < x.lv := by omega
       by_cases hn : 0 < n
       ·by_cases hni : i < n
        ·have : Cm L i x n = false := by
          unfold Cm
          rw [Bool.and_eq_false_iff]; right
          rw [decide_eq_false_iff_not]; intro h; have := (h hl1 (by omega)).1; omega
         simp [hc, hl, hl1, hn, hni, this, A2 hi, hx']
        ·have hlt : n - 1 < L.length := by omega
         have e1 : ((n : Int) - 1).toNat = n - 1 := by omega
         have hk2 : Cm L i x n = decide (L[n - 1].lv = x.lv - 1) := by
          unfold Cm
          rw [e1, List.getElem?_eq_getElem hlt, Bool.eq_iff_iff]
          simp only [Bool.and_eq_true, decide_eq_true_eq, Option.some.injEq, forall_eq']
          constructor
          ·intro h; exact (h.2 hl1 (by omega)).2
          ·intro h; exact ⟨⟨by omega, by omega⟩, fun _ _ => ⟨by omega, h⟩⟩
         have hw : IntKind.i64.wrap (x.lv - 1) = x.lv - 1 := A1 (by omega) (by omega)
         simp [hc, hl, hl1, hn, hni, hk2, C7 (show 0 < n by omega) (by omega), A2 hlt, A2 hi, hx', hw]
         by_cases he : L[n - 1].lv = x.lv - 1 <;> simp [he]
       ·have : Cm L i x n = true := by
         unfold Cm
         simp only [Bool.and_eq_true, decide_eq_true_eq]
         exact ⟨⟨by omega, by omega⟩, fun _ _ => by omega⟩
        simp [hc, hl, hl1, hn, this, A2 hi, hx']
    ·unfold Sh.f47
     simp [Ar (show i < 9223372036854775807 by omega)]
 ·unfold Sh.f48
  simp
end Go.Gm
namespace Go.Gm
theorem A8 {L : List Nd} (h : AD L = true) {i : Nat} (hi : i < L.length) : 1 ≤ L[i].lv ∧ L[i].lv ≤ 1329 ∧ ∀ k, k < 4 → 0 ≤ L[i].kid k ∧ (L[i].lv = 1 → L[i].kid k ≤ 255) ∧ (1 < L[i].lv → 0 < L[i].kid k → L[i].kid k ≤ i ∧ ∀ y, L[(L[i].kid k - 1).toNat]? = some y → y.lv = L[i].lv - 1) := by
 have h1 := List.all_eq_true.1 h i (by simpa using hi)
 simp only [DS, List.getElem?_eq_getElem hi, Bool.and_eq_true, decide_eq_true_eq, List.all_eq_true] at h1
 refine ⟨h1.1.1, h1.1.2, fun k hk => ?_⟩
 have h2 := h1.2 k (by simpa using hk)
 simp only [Cm, Bool.and_eq_true, decide_eq_true_eq] at h2
 exact ⟨h2.1.1, h2.1.2, h2.2⟩
def No (E : List Bool) (x : Nd) : Bool := (List.range 4).all fun k => decide (x.kid k = 0) || (decide (1 < x.lv) && E.getD (x.kid k).toNat true)
def Az (L : List Nd) : List Bool := L.foldl (fun E x => E ++ [No E x]) [true]
theorem Hx (L : List Nd) (x : Nd) : Az (L ++ [x]) = Az L ++ [No (Az L) x] := by simp [Az]
theorem C4 (L : List Nd) : (Az L).length = L.length + 1 := by
 rcases MV L with rfl | ⟨l, a, rfl⟩
 ·rfl
 ·rw [Hx]; have := C4 l; simp [this]
termination_by L.length
decreasing_by (subst_vars; simp)
theorem SY (L : List Nd) {i : Nat} (hi : i < L.length) : Az (L.take (i + 1)) = Az (L.take i) ++ [No (Az (L.take i)) L[i]] := by
 rw [List.take_succ_eq_append_getElem hi, Hx]
theorem G5 (L : List Nd) (tk : Tok) (H : Aa) (hL : L.length < 140737488355327) (hl : AD L = true) : Sh.f9 (.sl (enL cNd L) tk) H = some (.ret (.sl (enL cB (Az L)) .no), H) := by
 have hmk := FX (f := cB) (a := false) (n := L.length + 1) (bytes := 1) (H := H) (by omega) (by omega)
 have hid := ED (sz := 1) (id := H.length) (n := L.length + 1) (K := .i64) (g := 0) (off := 0) (cap := L.length + 1) (ex := true) (i := 0) (by omega)
 have hst := Gc (f := cB) (sz := 1) (l := List.replicate (L.length + 1) false) (i := 0) (a := true) (v := .bool true) (H := H ++ [.cel 0 (flat cB (List.replicate (L.length + 1) false))]) (id := H.length) (by simp) (by simp) rfl
 unfold Sh.f9
 simp only [A5, Bw, BQ, Ar (show L.length < 9223372036854775807 by omega), hmk, B9]
 simp only [Nat.zero_mul, Nat.add_zero] at hid
 rw [show ((0 : Nat) : Int) = 0 from rfl] at hid
 simp only [Nat.zero_mul] at hst
 rw [hid]
 simp only [Bw, hst, Ek, DP, Sx, Sv]
 have key := Ct (G := fun rec1 vs H1 => Sh.f4a H rec1 (ag vs 0) (ag vs 1) (ag vs 2) H1) L.length (fun i => [.sl (enL cNd L) tk, .ms H.length 0 0 (L.length + 1) (L.length + 1) 1 true, .int .i64 (i : Int)]) (fun i => H ++ [.cel 0 (flat cB (Az (L.take i) ++ List.replicate (L.length - i) false))]) (some (.ret (.sl (enL cB (Az L)) .no), H)) (by omega) (fun rec i hi => ?_) (fun rec => ?_)
 ·have e : (List.replicate (L.length + 1) false).set 0 true = Az (L.take 0) ++ List.replicate (L.length - 0) false := by simp [List.replicate_succ, Az]
  rw [e]; exact key
 ·have hi' : (i : Int) < (L.length : Int) := by omega
  obtain ⟨l1, l2, l3⟩ := A8 hl hi
  have hEl : (Az (L.take i)).length = i + 1 := by rw [C4]; simp; omega
  unfold Sh.f4a
  simp only [AF, Df, Du, A5, Bw, Bd, hi', decide_true, AU]
  have hs : ∀ k, k < 4 → 1 < L[i].lv → (Az (L.take i) ++ List.replicate (L.length - i) false).getD (L[i].kid k).toNat true = (Az (L.take i)).getD (L[i].kid k).toNat true := by
   intro k hk h1
   obtain ⟨q1, q2, q3⟩ := l3 k hk
   have : (L[i].kid k).toNat < (Az (L.take i)).length := by
    rw [hEl]
    by_cases h0 : 0 < L[i].kid k
    ·have := (q3 h1 h0).1; omega
    ·omega
   simp only [List.getD_eq_getElem?_getD, List.getElem?_append_left this]
  have hb : ∀ k, k < 4 → 1 < L[i].lv → (L[i].kid k).toNat < L.length + 1 := by
   intro k hk h1
   obtain ⟨q1, q2, q3⟩ := l3 k hk
   by_cases h0 : 0 < L[i].kid k
   ·have := (q3 h1 h0).1; omega
   ·omega
  have hEs : No (Az (L.take i)) L[i] = (List.range 4).all fun k => decide (L[i].kid k = 0) || (decide (1 < L[i].lv) && (Az (L.take i) ++ List.replicate (L.length - i) false).getD (L[i].kid k).toNat true) := by
   unfold No
   rw [MX, MX]
   by_cases h1 : 1 < L[i].lv
   ·simp only [hs 0 (by omega) h1, hs 1 (by omega) h1, hs 2 (by omega) h1, hs 3 (by omega) h1]
   ·simp only [h1, decide_false, Bool.false_and]
  have hset : (Az (L.take i) ++ List.replicate (L.length - i) false).set (i + 1) (No (Az (L.take i)) L[i]) = Az (L.take (i + 1)) ++ List.replicate (L.length - (i + 1)) false := by
   rw [SY L hi, List.set_append_right _ _ (by omega), hEl, Nat.sub_self, show L.length - i = (L.length - (i + 1)) + 1 from by omega, List.replicate_succ, List.set_cons_zero]
   simp
  have hlen : (Az (L.take i) ++ List.replicate (L.length - i) false).length = L.length + 1 := by simp [hEl]; omega
  rw [← hset, hEs]
  generalize Az (L.take i) ++ List.replicate (L.length - i) false = E at hlen
  generalize hx : L[i] = x at l1 l2 l3 hb
  have hgc : A7 (H ++ [.cel 0 (flat cB E)]) H.length 0 = some (flat cB E) := by simp
  refine Ct (G := fun rec2 vs H1 => Sh.f49 H rec rec2 (ag vs 0) (ag vs 1) (ag vs 2) (ag vs 3) (ag vs 4) H1) 4 (fun k => [.sl (enL cNd L) tk, .ms H.length 0 0 (L.length + 1) (L.length + 1) 1 true, .int .i64 (i : Int), .bool ((List.range k).all fun k => decide (x.kid k = 0) || (decide (1 < x.lv) && E.getD (x.kid k).toNat true)), .int .i64 (k : Int)]) (fun _ => H ++ [.cel 0 (flat cB E)]) _ (by decide) (fun rec2 k hk => ?_) (fun rec2 => ?_)
  ·have hk' : (k : Int) < 4 := by omega
   obtain ⟨q1, q2, q3⟩ := l3 k hk
   have hb' := hb k hk
   unfold Sh.f49
   have hsucc : ((List.range (k + 1)).all fun k => decide (x.kid k = 0) || (decide (1 < x.lv) && E.getD (x.kid k).toNat true)) = (((List.range k).all fun k => decide (x.kid k = 0) || (decide (1 < x.lv) && E.getD (x.kid k).toNat true)) && (decide (x.kid k = 0) || (decide (1 < x.lv) && E.getD (x.kid k).toNat true))) := by
    rw [List.range_succ, List.all_append]; simp
   rw [hsucc]
   generalize ((List.range k).all fun k => decide (x.kid k = 0) || (decide (1 < x.lv) && E.getD (x.kid k).toNat true)) = e
   simp only [AF, Df, Du, Gv, GV, Bw, Bd, hk', decide_true, AU, A2 hi, hx, Am, CY hk, Aw, Nat.zero_add, Nat.mul_one, CI hk, Ba, Ar (show k < 9223372036854775807 by omega), BQ, DM, De]
   obtain ⟨n, hn⟩ := Int.eq_ofNat_of_zero_le q1
   rw [hn] at hb' ⊢
   simp only [Int.toNat_natCast] at hb' ⊢
   cases e with
   | false => simp
   | true =>
    by_cases h0 : n = 0
    ·subst h0; simp
    ·by_cases h1 : 1 < x.lv
     ·have hnE : n < E.length := by rw [hlen]; exact hb' h1
      have hid2 := ED (sz := 1) (id := H.length) (n := L.length + 1) (K := .i64) (g := 0) (off := 0) (cap := L.length + 1) (ex := true) (i := n) (hb' h1)
      simp only [Nat.zero_add, Nat.mul_one] at hid2
      have hld := G9 (f := cB) hgc hnE
      simp [h0, h1, hx, A2 hi, hid2, hld, List.getElem?_eq_getElem hnE]
     ·simp [h0, h1, hx, A2 hi]
  ·have hid2 := ED (sz := 1) (id := H.length) (n := L.length + 1) (K := .i64) (g := 0) (off := 0) (cap := L.length + 1) (ex := true) (i := i + 1) (by omega)
   simp only [Nat.zero_add, Nat.mul_one] at hid2
   have hst2 := Gc (f := cB) (sz := 1) (l := E) (i := i + 1) (a := (List.range 4).all fun k => decide (x.kid k = 0) || (decide (1 < x.lv) && E.getD (x.kid k).toNat true)) (H := H ++ [.cel 0 (flat cB E)]) (id := H.length) hgc (by omega) (v := .bool ((List.range 4).all fun k => decide (x.kid k = 0) || (decide (1 < x.lv) && E.getD (x.kid k).toNat true))) rfl
   simp only [Nat.mul_one] at hst2
   unfold Sh.f49
   have hf : ¬ (((4 : Nat) : Int) < 4) := by decide
   simp only [AF, Df, Du, Gv, GV, Bw, Bd, hf, decide_false, AL, BQ, Ar (show i < 9223372036854775807 by omega), hid2, hst2, Ek, DP, Sx, Sv]
 ·unfold Sh.f4a
  have hgc : A7 (H ++ [.cel 0 (flat cB (Az L))]) H.length 0 = some (flat cB (Az L)) := by simp
  have hfa := fall_ms (f := cB) (b := H.length) (d := 5) (cap := L.length + 1) (ex := true) hgc (Nat.le_refl _)
  rw [C4] at hfa
  have ht : L.take L.length = L := List.take_of_length_le (Nat.le_refl _)
  simp only [AF, Df, Du, A5, Bw, Bd, Int.lt_irrefl, decide_false, AL, ht, Nat.sub_self, List.replicate_zero, List.append_nil, DB, hfa, Option.map_some]
theorem S5 (L : List Nd) (tk : Tok) (n : Nat) (H : Aa) (hL : L.length < 140737488355327) (hl : AD L = true) (hn : n ≤ L.length) : Sh.f33 (.sl (enL cNd L) tk) (.int .i64 (n : Int)) H = some (.ret (.bool ((Az L).getD n true)), H) := by
 have hlt : n < (Az L).length := by rw [C4]; omega
 unfold Sh.f33
 simp [G5 L tk H hL hl, A2 hlt, List.getD_eq_getElem?_getD, List.getElem?_eq_getElem hlt]
end Go.Gm
namespace Go.Gm
def A4 (L : List Nd) (c : Int) : Nd := L.getD (c - 1).toNat ⟨0, 0, 0, 0, 0⟩
def Rm (L : List Nd) (E : List Bool) (x : Nd) (k j : Nat) : Bool :=
 decide (j = 3 - k) || (if x.lv = 2 then decide ((A4 L (x.kid k)).kid j = 0) else E.getD ((A4 L (x.kid k)).kid j).toNat true)
def hol (L : List Nd) (E : List Bool) (x : Nd) : Bool :=
 (List.range 4).all fun k => decide (x.kid k = 0) || (List.range 4).all (Rm L E x k)
def DH (L : List Nd) (n : Nat) : Bool :=
 decide (n ≠ 0) && decide (2 ≤ (A4 L n).lv) && hol L (Az L) (A4 L n)
theorem Cf {L : List Nd} {c : Int} {n : Nat} (hc : c = ((n + 1 : Nat) : Int)) (h : n < L.length) : A4 L c = L[n] := by
 have : (c - 1).toNat = n := by omega
 unfold A4; rw [this, List.getD_eq_getElem?_getD, List.getElem?_eq_getElem h]; rfl
theorem Q0 (L : List Nd) (tk : Tok) (n : Nat) (H : Aa) (hL : L.length < 140737488355327) (hl : AD L = true) (hn : n ≤ L.length) : Sh.f12 (.sl (enL cNd L) tk) (.int .i64 (n : Int)) H = some (.ret (.bool (DH L n)), H) := by
 unfold Sh.f12 DH
 cases n with
 | zero => simp
 | succ n =>
  have hi : n < L.length := hn
  have e0 : ¬ ((n + 1 : Nat) : Int) = 0 := by omega
  obtain ⟨l1, l2, l3⟩ := A8 hl hi
  rw [Cf rfl hi]
  generalize hx : L[n] = x at l1 l2 l3
  have hw : IntKind.i64.wrap (((n + 1 : Nat) : Int) - 1) = (n : Int) := by rw [A1] <;> omega
  simp only [DM, EO, e0, decide_false, Bw, Ps, DL, hw, A2 hi, hx, Am, Aw, Nat.add_zero, Ba, Bd, Cw]
  by_cases h2 : x.lv < 2
  ·have : ¬ 2 ≤ x.lv := by omega
   simp [h2, this]
  ·have h2' : 2 ≤ x.lv := by omega
   simp only [h2, h2', decide_false, AL, G5 L tk H hL hl, FC, decide_true, ne_eq, Nat.succ_ne_zero, not_false_eq_true, Bool.true_and]
   have key := DU (G := fun rec1 vs H1 => Sh.f4b H rec1 (ag vs 0) (ag vs 1) (ag vs 2) (ag vs 3) H1) 4 (fun k => decide (x.kid k = 0) || (List.range 4).all (Rm L (Az L) x k))
    (fun k => [.sl (enL cNd L) tk, .int .i64 ((n + 1 : Nat) : Int), .sl (enL cB (Az L)) .no, .int .i64 (k : Int)]) H (some (.ret (.bool true), H)) (some (.ret (.bool false), H)) (by decide) (fun rec k hk => ?_) (fun rec => ?_)
   ·refine key.trans ?_
    rw [show hol L (Az L) x = (List.range 4).all fun k => decide (x.kid k = 0) || (List.range 4).all (Rm L (Az L) x k) from rfl]
    cases (List.range 4).all fun k => decide (x.kid k = 0) || (List.range 4).all (Rm L (Az L) x k) <;> rfl
   ·have hk' : (k : Int) < 4 := by omega
    obtain ⟨q1, q2, q3⟩ := l3 k hk
    unfold Sh.f4b
    simp only [AF, Df, Du, Gv, Bw, Bd, hk', decide_true, AU, DL, hw, A2 hi, hx, Am, CY hk, Aw, Nat.zero_add, Nat.mul_one, CI hk]
    have hws : IntKind.i64.wrap ((k : Int) + 1) = ((k + 1 : Nat) : Int) := Ar (by omega)
    by_cases hc : x.kid k = 0
    ·rw [Hp L5]
     unfold Sh.f3d
     simp only [hc, decide_true, Bool.true_or, if_true, AF, Df, Du, Gv, GV, MG, Bd, Bw, show ((0 : Int) < 4) from by decide, Ja, De, show ¬ ((0 : Int) > 0) from by decide, decide_false, Ci, AL, BQ, hws]
    ·obtain ⟨m, hm⟩ : ∃ m : Nat, x.kid k = ((m + 1 : Nat) : Int) := ⟨(x.kid k - 1).toNat, by omega⟩
     have h1 : 1 < x.lv := by omega
     obtain ⟨r1, r2⟩ := q3 h1 (by omega)
     have hmn : m < n := by omega
     have hml : m < L.length := by omega
     have hy := r2 L[m] (by rw [show (x.kid k - 1).toNat = m from by omega]; exact List.getElem?_eq_getElem hml)
     obtain ⟨y1, y2, y3⟩ := A8 hl hml
     have hE : ∀ j, j < 4 → 2 < x.lv → (L[m].kid j).toNat < (Az L).length := by
      intro j hj h3
      obtain ⟨s1, s2, s3⟩ := y3 j hj
      rw [C4]
      by_cases h0 : 0 < L[m].kid j
      ·have := (s3 (by omega) h0).1; omega
      ·omega
     have hp : Rm L (Az L) x k = fun j => decide (j = 3 - k) || (if x.lv = 2 then decide (L[m].kid j = 0) else (Az L).getD (L[m].kid j).toNat true) := by
      funext j; unfold Rm; rw [Cf hm hml]
     have hwm : IntKind.i64.wrap (((m + 1 : Nat) : Int) - 1) = (m : Int) := by rw [A1] <;> omega
     have hc' : ¬ ((m + 1 : Nat) : Int) = 0 := by omega
     simp only [hp, hm, hc', decide_false, Bool.false_or]
     generalize hyy : L[m] = y at y1 y2 y3 hy hE
     refine DU (G := fun rec2 vs H1 => Sh.f3d H rec rec2 (ag vs 0) (ag vs 1) (ag vs 2) (ag vs 3) (ag vs 4) (ag vs 5) H1) 4 _
      (fun j => [.sl (enL cNd L) tk, .int .i64 ((n + 1 : Nat) : Int), .sl (enL cB (Az L)) .no, .int .i64 (k : Int), .int .i64 ((m + 1 : Nat) : Int), .int .i64 (j : Int)]) H _ _ (by decide) (fun rec2 j hj => ?_) (fun rec2 => ?_)
     ·have hj' : (j : Int) < 4 := by omega
      have hm0 : ((m + 1 : Nat) : Int) > 0 := by omega
      have hw3 : IntKind.i64.wrap (3 - (k : Int)) = 3 - (k : Int) := A1 (by omega) (by omega)
      have hjs : IntKind.i64.wrap ((j : Int) + 1) = ((j + 1 : Nat) : Int) := Ar (by omega)
      obtain ⟨s1, s2, s3⟩ := y3 j hj
      have hE' := hE j hj
      unfold Sh.f3d
      simp only [AF, Df, Du, Gv, GV, MG, Bd, Bw, hj', decide_true, Ja, De, hm0, Ci, AU, DL, hw, hwm, hw3, A2 hml, hyy, A2 hi, hx, Am, CY hj, Aw, Nat.zero_add, Nat.add_zero, Nat.mul_one, CI hj, Ba, IR, IQ, DM, EO, BQ, hjs]
      obtain ⟨g, hg⟩ := Int.eq_ofNat_of_zero_le s1
      rw [hg] at hE' ⊢
      simp only [Int.toNat_natCast] at hE' ⊢
      by_cases h3k : j = 3 - k
      ·have h3 : (j : Int) = 3 - (k : Int) := by omega
       simp only [Bw, AF, Df, Du, Gv, GV, MG, Bd, De, Mk, GN, DM, IR, EO, IQ, BQ, DL, FU, AU, AL, Ci, Cw, Ja, Ps, Rp, Pr, gk_s, O3, O6, O4, O5, SK, OY, HA, OF, OI, OG, OH, SN, O7, OA, O8, O9, SL, OB, OE, OC, OD, SM, FZ, AJ, decide_true, decide_false, Bool.not_true, Bool.not_false, FC, DP, Ph, KI, Kc, if_true, Bool.false_eq_true, if_false, FW, Ek, CW, B9, Bool.false_or, Bool.true_or, Bool.or_false, Bool.or_true, decide_eq_true h3, decide_eq_true h3k, Bool.true_or]
      ·have h3 : ¬ (j : Int) = 3 - (k : Int) := by omega
       simp only [h3k, h3, GMb, GMc, Am, Ai, Aw, Nat.zero_add, Nat.add_zero, Nat.mul_one, Ba, Bool.false_or]
       by_cases hx2 : x.lv = 2
       ·have hx3 : ¬ (2 : Int) > 2 := by decide
        by_cases hg0 : (g : Int) = 0
        ·simp only [Bw, AF, Df, Du, Gv, GV, MG, Bd, De, Mk, GN, DM, IR, EO, IQ, BQ, DL, FU, AU, AL, Ci, Cw, Ja, Ps, Rp, Pr, gk_s, O3, O6, O4, O5, SK, OY, HA, OF, OI, OG, OH, SN, O7, OA, O8, O9, SL, OB, OE, OC, OD, SM, FZ, AJ, decide_true, decide_false, Bool.not_true, Bool.not_false, FC, DP, Ph, KI, Kc, if_true, Bool.false_eq_true, if_false, FW, Ek, CW, B9, Bool.false_or, Bool.true_or, Bool.or_false, Bool.or_true, Am, Ai, Aw, Nat.zero_add, Nat.add_zero, Nat.mul_one, Ba, hw, A2 hi, hx, hx2, hg0, hx3]
        ·simp only [Bw, AF, Df, Du, Gv, GV, MG, Bd, De, Mk, GN, DM, IR, EO, IQ, BQ, DL, FU, AU, AL, Ci, Cw, Ja, Ps, Rp, Pr, gk_s, O3, O6, O4, O5, SK, OY, HA, OF, OI, OG, OH, SN, O7, OA, O8, O9, SL, OB, OE, OC, OD, SM, FZ, AJ, decide_true, decide_false, Bool.not_true, Bool.not_false, FC, DP, Ph, KI, Kc, if_true, Bool.false_eq_true, if_false, FW, Ek, CW, B9, Bool.false_or, Bool.true_or, Bool.or_false, Bool.or_true, Am, Ai, Aw, Nat.zero_add, Nat.add_zero, Nat.mul_one, Ba, hw, A2 hi, hx, hx2, hg0, hx3]
       ·have hx3 : x.lv > 2 := by omega
        have hlt := hE' hx3
        have hgd : (Az L).getD g true = (Az L)[g] := by rw [List.getD_eq_getElem?_getD, List.getElem?_eq_getElem hlt]; rfl
        simp only [Bw, AF, Df, Du, Gv, GV, MG, Bd, De, Mk, GN, DM, IR, EO, IQ, BQ, DL, FU, AU, AL, Ci, Cw, Ja, Ps, Rp, Pr, gk_s, O3, O6, O4, O5, SK, OY, HA, OF, OI, OG, OH, SN, O7, OA, O8, O9, SL, OB, OE, OC, OD, SM, FZ, AJ, decide_true, decide_false, Bool.not_true, Bool.not_false, FC, DP, Ph, KI, Kc, if_true, Bool.false_eq_true, if_false, FW, Ek, CW, B9, Bool.false_or, Bool.true_or, Bool.or_false, Bool.or_true, Am, Ai, Aw, Nat.zero_add, Nat.add_zero, Nat.mul_one, Ba, hw, A2 hi, hx, hx2, hx3, A2 hlt, hgd, List.getElem?_cons_zero]
        cases (Az L)[g] <;> simp only [Bw, AF, Df, Du, Gv, GV, MG, Bd, De, Mk, GN, DM, IR, EO, IQ, BQ, DL, FU, AU, AL, Ci, Cw, Ja, Ps, Rp, Pr, gk_s, O3, O6, O4, O5, SK, OY, HA, OF, OI, OG, OH, SN, O7, OA, O8, O9, SL, OB, OE, OC, OD, SM, FZ, AJ, decide_true, decide_false, Bool.not_true, Bool.not_false, FC, DP, Ph, KI, Kc, if_true, Bool.false_eq_true, if_false, FW, Ek, CW, B9, Bool.false_or, Bool.true_or, Bool.or_false, Bool.or_true]
     ·have hf : ¬ (((4 : Nat) : Int) < 4) := by decide
      unfold Sh.f3d
      simp only [AF, Df, Du, Gv, GV, MG, Bd, Bw, hf, decide_false, Pr, Rp, Cw, AL, BQ, hws]
   ·have hf : ¬ (((4 : Nat) : Int) < 4) := by decide
    unfold Sh.f4b
    simp only [AF, Df, Du, Gv, Bd, Bw, hf, decide_false, AL, Ph]
theorem q05_inner (L : List Nd) (tk : Tok) (n k : Nat) (H : Aa) (hL : L.length < 140737488355327) (hl : AD L = true) (hn : n < L.length) (h2 : 2 ≤ L[n].lv) (hk : k < 4) :
  Sh.f34 (.sl (enL cNd L) tk) (.int .i64 ((n + 1 : Nat) : Int)) (.int .i64 (k : Int)) H = some (.ret (.int .i64 (if L[n].kid k = 0 then 0 else (A4 L (L[n].kid k)).kid (3 - k))), H) := by
 obtain ⟨l1, l2, l3⟩ := A8 hl hn
 obtain ⟨q1, q2, q3⟩ := l3 k hk
 have hw : IntKind.i64.wrap (((n + 1 : Nat) : Int) - 1) = (n : Int) := by rw [A1] <;> omega
 unfold Sh.f34
 simp only [DL, Bw, hw, A2 hn, Am, CY hk, Aw, Nat.zero_add, Nat.mul_one, CI hk, DM, EO]
 by_cases hc : L[n].kid k = 0
 ·simp [hc]
 ·obtain ⟨m, hm⟩ : ∃ m : Nat, L[n].kid k = ((m + 1 : Nat) : Int) := ⟨(L[n].kid k - 1).toNat, by omega⟩
  obtain ⟨r1, r2⟩ := q3 (by omega) (by omega)
  have hml : m < L.length := by omega
  have hwm : IntKind.i64.wrap (((m + 1 : Nat) : Int) - 1) = (m : Int) := by rw [A1] <;> omega
  have hw3 : IntKind.i64.wrap (3 - (k : Int)) = ((3 - k : Nat) : Int) := by rw [A1] <;> omega
  simp only [hc, decide_false, AL, if_false, Cf hm hml]
  rw [hm]
  simp only [hwm, hw3, Bw, A2 hml, Am, Nat.zero_add, CY (show 3 - k < 4 by omega), Aw, Nat.mul_one, CI (show 3 - k < 4 by omega), Ph]
end Go.Gm
namespace Go.Gm
def Nn (rec : Nat → List Nat → List Nat) (x : Nd) (k : Nat) (out : List Nat) : List Nat :=
 (List.range k).foldl (fun o k => if 1 < x.lv ∧ 0 < x.kid k then rec (x.kid k).toNat o else o) out
def FP (L : List Nd) : Nat → Nat → List Nat → List Nat
 | 0, _, out => out
 | v + 1, n, out => if n ∈ out then out else Nn (FP L v) (A4 L n) 4 out ++ [n]
def MP (N : Nat) (out : List Nat) : Prop := out.Nodup ∧ ∀ x ∈ out, 1 ≤ x ∧ x ≤ N
theorem Ma : ∀ (N : Nat) (out : List Nat), MP N out → out.length ≤ N
 | 0, out, h => by
  cases out with
  | nil => simp
  | cons a l => have := h.2 a (by simp); omega
 | N + 1, out, h => by
  have h1 : MP N (out.erase (N + 1)) := ⟨h.1.erase _, fun x hx => by
   have := (h.1.mem_erase_iff).1 hx
   have := h.2 x this.2
   omega⟩
  have := Ma N _ h1
  rw [List.length_erase] at this
  split at this <;> omega
theorem SX (rec : Nat → List Nat → List Nat) (x : Nd) (k : Nat) (out : List Nat) : Nn rec x (k + 1) out = if 1 < x.lv ∧ 0 < x.kid k then rec (x.kid k).toNat (Nn rec x k out) else Nn rec x k out := by
 simp [Nn, List.range_succ]
theorem L8 {rec : Nat → List Nat → List Nat} {x : Nd} {out : List Nat} (P : List Nat → Prop) (h0 : P out) (hs : ∀ k o, k < 4 → 1 < x.lv → 0 < x.kid k → P o → P (rec (x.kid k).toNat o)) : ∀ k, k ≤ 4 → P (Nn rec x k out)
 | 0, _ => h0
 | k + 1, h => by
  rw [SX]
  split
  ·rename_i hc; exact hs k _ (by omega) hc.1 hc.2 (L8 P h0 hs k (by omega))
  ·exact L8 P h0 hs k (by omega)
theorem Bb {L : List Nd} {n : Nat} (h : n < L.length) : A4 L ((n + 1 : Nat) : Int) = L[n] := Cf rfl h
theorem PQ {L : List Nd} (hl : AD L = true) : ∀ (v n : Nat) (out : List Nat), 1 ≤ n → n ≤ L.length → MP L.length out → MP L.length (FP L v n out) ∧ (∀ x ∈ out, x ∈ FP L v n out) ∧ ∀ x ∈ FP L v n out, x ∈ out ∨ x ≤ n
 | 0, n, out, h1, h2, ho => ⟨ho, fun x hx => hx, fun x hx => .inl hx⟩
 | v + 1, n, out, h1, h2, ho => by
  obtain ⟨m, rfl⟩ : ∃ m, n = m + 1 := ⟨n - 1, by omega⟩
  have hm : m < L.length := by omega
  obtain ⟨l1, l2, l3⟩ := A8 hl hm
  simp only [FP]
  split
  ·exact ⟨ho, fun x hx => hx, fun x hx => .inl hx⟩
  ·rename_i hn
   rw [Bb hm]
   have key := L8 (rec := FP L v) (x := L[m]) (out := out) (fun o => MP L.length o ∧ (∀ x ∈ out, x ∈ o) ∧ ∀ x ∈ o, x ∈ out ∨ x ≤ m) ⟨ho, fun x hx => hx, fun x hx => .inl hx⟩ (fun k o hk hlv hkid hP => by
    obtain ⟨q1, q2, q3⟩ := l3 k hk
    have := (q3 hlv hkid).1
    obtain ⟨r1, r2, r3⟩ := PQ hl v (L[m].kid k).toNat o (by omega) (by omega) hP.1
    exact ⟨r1, fun x hx => r2 x (hP.2.1 x hx), fun x hx => by
     rcases r3 x hx with h | h
     ·exact hP.2.2 x h
     ·right; omega⟩) 4 (by omega)
   obtain ⟨⟨k1, k2⟩, k3, k4⟩ := key
   generalize Nn (FP L v) L[m] 4 out = o at k1 k2 k3 k4
   have hno : m + 1 ∉ o := fun h => by
    rcases k4 _ h with h | h
    ·exact hn h
    ·omega
   refine ⟨⟨?_, ?_⟩, ?_, ?_⟩
   ·rw [List.nodup_append]
    exact ⟨k1, by simp, fun a ha b hb e => by simp at hb; subst hb; subst e; exact hno ha⟩
   ·intro x hx
    simp only [List.mem_append, List.mem_singleton] at hx
    rcases hx with hx | rfl
    ·exact k2 x hx
    ·omega
   ·intro x hx; simp [k3 x hx]
   ·intro x hx
    simp only [List.mem_append, List.mem_singleton] at hx
    rcases hx with hx | rfl
    ·rcases k4 x hx with h | h
     ·exact .inl h
     ·exact .inr (by omega)
    ·exact .inr (Nat.le_refl _)
theorem append_outN {B : Aa} {l : List Nat} {n : Nat} (h : l.length < 17592186044415) : AA Cp 1 8 (Fs cN B l) (.sl (enL cN [n]) .tight) (Ev cN Cp 1 B l) = some (Fs cN B (l ++ [n]), Ev cN Cp 1 B (l ++ [n])) :=
 Fl (by simp) (by simp; omega) (by simp; omega)
theorem q05_end {L : List Nd} (tk : Tok) (B : Aa) (hL : L.length < 17592186044415) (hl : AD L = true) : ∀ (v n d : Nat) (out : List Nat), 1 ≤ n → n ≤ L.length → (A4 L n).lv = v → v ≤ d → MP L.length out →
  Sh.fc d (.sl (enL cNd L) tk) (.int .i64 (n : Int)) (Fs cN B out) (Ev cN Cp 1 B out) = some (.ret (Fs cN B (FP L v n out)), Ev cN Cp 1 B (FP L v n out)) := by
 intro v
 induction v with
 | zero =>
  intro n d out h1 h2 hv hd ho
  exfalso
  obtain ⟨m, rfl⟩ : ∃ m, n = m + 1 := ⟨n - 1, by omega⟩
  rw [Bb (by omega)] at hv
  have := (A8 hl (show m < L.length by omega)).1
  omega
 | succ v ih =>
  intro n d out h1 h2 hv hd ho
  obtain ⟨d, rfl⟩ : ∃ e, d = e + 1 := ⟨d - 1, by omega⟩
  obtain ⟨m, rfl⟩ : ∃ m, n = m + 1 := ⟨n - 1, by omega⟩
  have hm : m < L.length := by omega
  obtain ⟨l1, l2, l3⟩ := A8 hl hm
  have hln := Ma _ _ ho
  rw [Bb hm] at hv
  show Sh.f5g (Sh.fc d) _ _ _ _ = _
  unfold Sh.f5g
  have key := Is (G := fun rec1 vs H1 => Sh.f4d (Ev cN Cp 1 B out) (Sh.fc d) rec1 (ag vs 0) (ag vs 1) (ag vs 2) (ag vs 3) H1) out.length (fun i => decide (out.getD i 0 = m + 1))
   (fun i => [.sl (enL cNd L) tk, .int .i64 ((m + 1 : Nat) : Int), Fs cN B out, .int .i64 (i : Int)]) (Ev cN Cp 1 B out) (some (.ret (Fs cN B (Nn (FP L v) L[m] 4 out ++ [m + 1])), Ev cN Cp 1 B (Nn (FP L v) L[m] 4 out ++ [m + 1]))) (fun _ => some (.ret (Fs cN B out), Ev cN Cp 1 B out)) (by omega) (fun rec i hi => ?_) (fun rec => ?_)
  ·refine key.trans ?_
   by_cases hmem : m + 1 ∈ out
   ·obtain ⟨i, hi, hx⟩ := List.getElem_of_mem hmem
    have hf : ∃ j, (List.range out.length).find? (fun i => decide (out.getD i 0 = m + 1)) = some j := by
     cases hq : (List.range out.length).find? (fun i => decide (out.getD i 0 = m + 1)) with
     | some j => exact ⟨j, rfl⟩
     | none =>
      have := List.find?_eq_none.1 hq i (by simpa using hi)
      simp [List.getD_eq_getElem?_getD, List.getElem?_eq_getElem hi, hx] at this
    obtain ⟨j, hj⟩ := hf
    rw [hj]; simp only [FP, if_pos hmem]
   ·have hf : (List.range out.length).find? (fun i => decide (out.getD i 0 = m + 1)) = none := by
     rw [List.find?_eq_none]
     intro i hi
     have hi' : i < out.length := by simpa using hi
     rw [List.getD_eq_getElem?_getD, List.getElem?_eq_getElem hi']
     simp only [Option.getD_some, decide_eq_true_eq]
     intro e; exact hmem (e ▸ List.getElem_mem hi')
    rw [hf]; simp only [FP, if_neg hmem, Bb hm]
  ·have hi' : (i : Int) < (out.length : Int) := by omega
   have hd2 : decide ((out[i] : Int) = ((m + 1 : Nat) : Int)) = decide (out.getD i 0 = m + 1) := by
    rw [List.getD_eq_getElem?_getD, List.getElem?_eq_getElem hi, Bool.eq_iff_iff]; simp; omega
   unfold Sh.f4d
   simp only [GMb, GMc, Am, Ai, Aw, Nat.zero_add, Nat.add_zero, Nat.mul_one, Ba, G6, A5, hi', A2 hi, List.getElem?_cons_zero, Ar (show i < 9223372036854775807 by omega), hd2]
   cases decide (out.getD i 0 = m + 1) <;> simp only [GMb, GMc]
  ·unfold Sh.f4d
   rw [G6]
   simp only [GMb, GMc, A5, Int.lt_irrefl]
   rw [← G6]
   refine Ct (G := fun rec2 vs H1 => Sh.f4c (Ev cN Cp 1 B out) (Sh.fc d) rec2 (ag vs 0) (ag vs 1) (ag vs 2) (ag vs 3) H1) 4 (fun k => [.sl (enL cNd L) tk, .int .i64 ((m + 1 : Nat) : Int), Fs cN B (Nn (FP L v) L[m] k out), .int .i64 (k : Int)]) (fun k => Ev cN Cp 1 B (Nn (FP L v) L[m] k out)) _ (by decide) (fun rec2 k hk => ?_) (fun rec2 => ?_)
   ·have hk' : (k : Int) < 4 := by omega
    have hws : IntKind.i64.wrap ((k : Int) + 1) = ((k + 1 : Nat) : Int) := Ar (by omega)
    have hwm : IntKind.i64.wrap (((m + 1 : Nat) : Int) - 1) = (m : Int) := by rw [A1] <;> omega
    obtain ⟨q1, q2, q3⟩ := l3 k hk
    have ho' : MP L.length (Nn (FP L v) L[m] k out) := L8 (fun o => MP L.length o) ho (fun k o hk hlv hkid hP => by
     obtain ⟨q1, q2, q3⟩ := l3 k hk
     have := (q3 hlv hkid).1
     exact (PQ hl v (L[m].kid k).toNat o (by omega) (by omega) hP).1) k (by omega)
    unfold Sh.f4c
    rw [SX]
    generalize Nn (FP L v) L[m] k out = o at ho'
    simp only [GMb, GMc, Am, Ai, Aw, Nat.zero_add, Nat.add_zero, Nat.mul_one, Ba, hk', hwm, A2 hm, Sh.f3e, hws]
    by_cases hlv : 1 < L[m].lv
    ·by_cases hkid : 0 < L[m].kid k
     ·obtain ⟨r1, r2⟩ := q3 hlv hkid
      obtain ⟨c, hc⟩ : ∃ c : Nat, L[m].kid k = ((c + 1 : Nat) : Int) := ⟨(L[m].kid k - 1).toNat, by omega⟩
      have hcl : c < L.length := by omega
      have hy := r2 L[c] (by rw [show (L[m].kid k - 1).toNat = c from by omega]; exact List.getElem?_eq_getElem hcl)
      have hi2 := ih (c + 1) d o (by omega) (by omega) (by rw [Bb hcl]; omega) (by omega) ho'
      have hc0 : ((c + 1 : Nat) : Int) > 0 := by omega
      rw [if_pos ⟨hlv, hkid⟩]
      simp only [GMb, GMc, Am, Ai, Aw, Nat.zero_add, Nat.add_zero, Nat.mul_one, Ba, hlv, hwm, A2 hm, Am, CY hk, CI hk, hc, hc0, hi2, gt_iff_lt, Int.toNat_natCast, Sh.f3e, hws]
     ·rw [if_neg (fun h => hkid h.2)]
      simp only [GMb, GMc, Am, Ai, Aw, Nat.zero_add, Nat.add_zero, Nat.mul_one, Ba, hlv, hwm, A2 hm, Am, CY hk, CI hk, hkid, gt_iff_lt, Sh.f3e, hws]
    ·rw [if_neg (fun h => hlv h.1)]
     simp only [GMb, GMc, Am, Ai, Aw, Nat.zero_add, Nat.add_zero, Nat.mul_one, Ba, hlv, gt_iff_lt, Sh.f3e, hws]
   ·have hf : ¬ (((4 : Nat) : Int) < 4) := by decide
    have ho' : MP L.length (Nn (FP L v) L[m] 4 out) := L8 (fun o => MP L.length o) ho (fun k o hk hlv hkid hP => by
     obtain ⟨q1, q2, q3⟩ := l3 k hk
     have := (q3 hlv hkid).1
     exact (PQ hl v (L[m].kid k).toNat o (by omega) (by omega) hP).1) 4 (by omega)
    have hle := Ma _ _ ho'
    unfold Sh.f4c
    simp only [GMb, GMc, hf, build_N, append_outN (show (Nn (FP L v) L[m] 4 out).length < 17592186044415 by omega)]
end Go.Gm
namespace Go.Gm
def Di (L : List Nd) : List Ab := [.sl (enL cNd L) .no]
def My (L : List Nd) : Ab := .agg (Di L)
def Ey (L : List Nd) : Int := (A4 L (L.length : Int)).lv
def Q9 (L : List Nd) : List Nat := FP L (Ey L).toNat L.length []
def dupB (L : List Nd) : Bool := (List.range L.length).all fun i => !((Az L).getD (i + 1) true) && (List.range i).all fun k => decide (L.getD i ⟨0, 0, 0, 0, 0⟩ ≠ L.getD k ⟨0, 0, 0, 0, 0⟩)
def orderB (L : List Nd) : Bool := (List.range (Q9 L).length).all (fun i => decide ((Q9 L).getD i 0 = i + 1)) && decide ((Q9 L).length = L.length)
def E7 (L : List Nd) : Bool :=
 decide (L = []) || (AD L && !(DH L L.length) && dupB L && orderB L)
theorem boxQuad (L : List Nd) (tk : Tok) (H : Aa) : BP true 1 (.agg [.sl (enL cNd L) tk]) H = some (.ptr H.length 0 0, H ++ [.cel 0 [.sl (enL cNd L) tk]]) := DK rfl rfl
theorem q05_right (L : List Nd) (tk : Tok) (H : Aa) (hL : L.length < 17592186044415) : Sh.f2m (.agg [.sl (enL cNd L) tk]) H = some (.ret (.bool (E7 L)), H) := by
 unfold Sh.f2m
 simp only [GMb, GMc, Am, Ai, Aw, Nat.zero_add, Nat.add_zero, Nat.mul_one, Ba, boxQuad, CL, FY, List.getElem?_cons_zero, A5]
 by_cases h0 : L = []
 ·subst h0; simp [E7]
 ·have hlen : L.length ≠ 0 := fun h => h0 (List.eq_nil_of_length_eq_zero h)
  have h0' : ¬ ((L.length : Int) = 0) := by omega
  have hq : E7 L = (AD L && !(DH L L.length) && dupB L && orderB L) := by simp [E7, h0]
  simp only [GMb, GMc, h0', S4 L tk _ (show L.length < 1152921504606846976 by omega)]
  cases hl : AD L with
  | false => simp [hq, hl]
  | true =>
   simp only [GMb, GMc, A5, Q0 L tk L.length _ (show L.length < 140737488355327 by omega) hl (Nat.le_refl _)]
   cases hh : DH L L.length with
   | true => simp [hq, hh]
   | false =>
    simp only [GMb, GMc, G5 L tk _ (show L.length < 140737488355327 by omega) hl]
    rw [hq, hl, hh]
    simp only [GMb, GMc]
    generalize hB : H ++ [.cel 0 [.sl (enL cNd L) tk]] = B
    have hfin : ∀ (v : Bool) (G : Aa), rP H (.bool v) (B ++ G) = some (.ret (.bool v), H) := fun v G => by rw [← hB, List.append_assoc]; exact FJ
    have hfin0 : ∀ (v : Bool), rP H (.bool v) B = some (.ret (.bool v), H) := fun v => by rw [← hB]; exact FJ
    have key := DU (G := fun rec1 vs H1 => Sh.f4g H rec1 (ag vs 0) (ag vs 1) (ag vs 2) H1) L.length (fun i => !((Az L).getD (i + 1) true) && (List.range i).all fun k => decide (L.getD i ⟨0, 0, 0, 0, 0⟩ ≠ L.getD k ⟨0, 0, 0, 0, 0⟩))
     (fun i => [.sl (enL cNd L) tk, .sl (enL cB (Az L)) .no, .int .i64 (i : Int)]) B (some (.ret (.bool (orderB L)), H)) (some (.ret (.bool false), H)) (by omega) (fun rec i hi => ?_) (fun rec => ?_)
    ·refine key.trans ?_
     rw [show dupB L = (List.range L.length).all fun i => !((Az L).getD (i + 1) true) && (List.range i).all fun k => decide (L.getD i ⟨0, 0, 0, 0, 0⟩ ≠ L.getD k ⟨0, 0, 0, 0, 0⟩) from rfl]
     cases (List.range L.length).all fun i => !((Az L).getD (i + 1) true) && (List.range i).all fun k => decide (L.getD i ⟨0, 0, 0, 0, 0⟩ ≠ L.getD k ⟨0, 0, 0, 0, 0⟩) <;> simp only [GMb, GMc]
    ·have hi' : (i : Int) < (L.length : Int) := by omega
     have hlt : i + 1 < (Az L).length := by rw [C4]; omega
     have hws : IntKind.i64.wrap ((i : Int) + 1) = ((i + 1 : Nat) : Int) := Ar (by omega)
     have hgd : (Az L).getD (i + 1) true = (Az L)[i + 1] := by rw [List.getD_eq_getElem?_getD, List.getElem?_eq_getElem hlt]; rfl
     unfold Sh.f4g
     simp only [GMb, GMc, Am, Ai, Aw, Nat.zero_add, Nat.add_zero, Nat.mul_one, Ba, A5, hi', hws, A2 hlt, List.getElem?_cons_zero, hgd]
     cases (Az L)[i + 1] with
     | true => simp only [GMb, GMc, hfin0]
     | false =>
      simp only [GMb, GMc]
      refine DU (G := fun rec2 vs H1 => Sh.f4e H rec rec2 (ag vs 0) (ag vs 1) (ag vs 2) (ag vs 3) H1) i (fun k => decide (L.getD i ⟨0, 0, 0, 0, 0⟩ ≠ L.getD k ⟨0, 0, 0, 0, 0⟩))
       (fun k => [.sl (enL cNd L) tk, .sl (enL cB (Az L)) .no, .int .i64 (i : Int), .int .i64 (k : Int)]) B _ _ (by omega) (fun rec2 k hk => ?_) (fun rec2 => ?_)
      ·have hk' : (k : Int) < (i : Int) := by omega
       have hkl : k < L.length := by omega
       unfold Sh.f4e
       simp only [GMb, GMc, hk', A2 hi, A2 hkl, G8, eq_nd, hfin0, Ar (show k < 9223372036854775807 by omega)]
       simp only [List.getD_eq_getElem?_getD, List.getElem?_eq_getElem hi, List.getElem?_eq_getElem hkl, Option.getD_some]
       by_cases he : L[i] = L[k]
       ·simp only [he, ne_eq, not_true_eq_false, GMb, GMc]
       ·simp only [he, ne_eq, not_false_eq_true, GMb, GMc]
      ·unfold Sh.f4e
       simp only [GMb, GMc, Int.lt_irrefl, hws]
    ·unfold Sh.f4g
     have hm : L.length - 1 < L.length := by omega
     have hlm : L.length = L.length - 1 + 1 := by omega
     have hlv : (A4 L (L.length : Int)).lv = ((Ey L).toNat : Int) := by
      have := (A8 hl hm).1
      unfold Ey
      rw [hlm, Bb hm]; omega
     have hend : Sh.fc AC (.sl (enL cNd L) tk) (.int .i64 (L.length : Int)) (.sl [] .tight) B = some (.ret (Fs cN B (FP L (Ey L).toNat L.length [])), Ev cN Cp 1 B (FP L (Ey L).toNat L.length [])) := q05_end tk B hL hl (Ey L).toNat L.length AC [] (by omega) (Nat.le_refl _) hlv (by
      have := (A8 hl hm).2.1
      rw [Dk]
      unfold Ey
      rw [hlm, Bb hm]; omega) ⟨by simp, by simp⟩
     have hok := (PQ hl (Ey L).toNat L.length [] (by omega) (Nat.le_refl _) ⟨by simp, by simp⟩).1
     have hol := Ma _ _ hok
     obtain ⟨G, hG⟩ := LY (f := cN) (ty := Cp) (sz := 1) B (FP L (Ey L).toNat L.length [])
     simp only [GMb, GMc, A5, Int.lt_irrefl, hend, hG, G6]
     have hsame : Q9 L = FP L (Ey L).toNat L.length [] := rfl
     rw [← hsame] at hol ⊢
     unfold orderB
     generalize Q9 L = o at hol ⊢
     have key := DU (G := fun rec3 vs H1 => Sh.f4f H rec3 (ag vs 0) (ag vs 1) (ag vs 2) H1) o.length (fun i => decide (o.getD i 0 = i + 1)) (fun i => [.sl (enL cNd L) tk, .sl (enL cN o) (outK B o), .int .i64 (i : Int)]) (B ++ G) (some (.ret (.bool (decide (o.length = L.length))), H)) (some (.ret (.bool false), H)) (by omega) (fun rec i hi => ?_) (fun rec => ?_)
     ·refine key.trans ?_
      cases (List.range o.length).all (fun i => decide (o.getD i 0 = i + 1)) <;> simp only [GMb, GMc]
     ·have hi' : (i : Int) < (o.length : Int) := by omega
      unfold Sh.f4f
      simp only [GMb, GMc, Am, Ai, Aw, Nat.zero_add, Nat.add_zero, Nat.mul_one, Ba, A5, hi', A2 hi, List.getElem?_cons_zero, Ar (show i < 9223372036854775807 by omega), hfin]
      simp only [List.getD_eq_getElem?_getD, List.getElem?_eq_getElem hi, Option.getD_some]
      by_cases he : o[i] = i + 1
      ·have : (o[i] : Int) = ((i + 1 : Nat) : Int) := by omega
       simp only [decide_eq_true this, decide_eq_true he, GMb, GMc]
      ·have : ¬ (o[i] : Int) = ((i + 1 : Nat) : Int) := by omega
       simp only [decide_eq_false this, decide_eq_false he, GMb, GMc]
     ·have hd : decide ((o.length : Int) = (L.length : Int)) = decide (o.length = L.length) := by rw [Bool.eq_iff_iff]; simp; omega
      unfold Sh.f4f
      simp only [GMb, GMc, A5, Int.lt_irrefl, hfin, hd]
theorem q05_level (L : List Nd) (tk : Tok) (H : Aa) (hL : L.length < 17592186044415) : Sh.f14 (.agg [.sl (enL cNd L) tk]) H = some (.ret (.int .i64 (if L = [] then 0 else Ey L)), H) := by
 unfold Sh.f14
 simp only [GMb, GMc, Am, Ai, Aw, Nat.zero_add, Nat.add_zero, Nat.mul_one, Ba, boxQuad, CL, FY, List.getElem?_cons_zero, A5]
 by_cases h0 : L = []
 ·subst h0; simp
 ·have hlen : L.length ≠ 0 := fun h => h0 (List.eq_nil_of_length_eq_zero h)
  have h0' : ¬ ((L.length : Int) = 0) := by omega
  have hm : L.length - 1 < L.length := by omega
  have hw : IntKind.i64.wrap ((L.length : Int) - 1) = ((L.length - 1 : Nat) : Int) := C7 (by omega) (by omega)
  have ht : Ey L = L[L.length - 1].lv := by
   unfold Ey
   rw [Cf (n := L.length - 1) (by omega) hm]
  simp only [h0, h0', GMb, GMc, Am, Ai, Aw, Nat.zero_add, Nat.add_zero, Nat.mul_one, Ba, hw, A2 hm, Qx, ht]
end Go.Gm
namespace Go.Gm
abbrev nd0 : Nd := ⟨0, 0, 0, 0, 0⟩
def Nd.setKid (x : Nd) (k : Nat) (c : Int) : Nd := match k with | 0 => { x with k0 := c } | 1 => { x with k1 := c } | 2 => { x with k2 := c } | _ => { x with k3 := c }
theorem C8 (x : Nd) (k : Nat) (c : Int) : (x.setKid k c).lv = x.lv := by unfold Nd.setKid; split <;> rfl
theorem KE (x : Nd) {k : Nat} (c : Int) (h : k < 4) : (x.setKid k c).kid k = c := by
 match k, h with
 | 0, _ => rfl
 | 1, _ => rfl
 | 2, _ => rfl
 | 3, _ => rfl
theorem Ez (x : Nd) {k j : Nat} (c : Int) (h : k < 4) (hj : j < 4) (hne : j ≠ k) : (x.setKid k c).kid j = x.kid j := by
 match k, j, h, hj with
 | 0, 1, _, _ => rfl
 | 0, 2, _, _ => rfl
 | 0, 3, _, _ => rfl
 | 1, 0, _, _ => rfl
 | 1, 2, _, _ => rfl
 | 1, 3, _, _ => rfl
 | 2, 0, _, _ => rfl
 | 2, 1, _, _ => rfl
 | 2, 3, _, _ => rfl
 | 3, 0, _, _ => rfl
 | 3, 1, _, _ => rfl
 | 3, 2, _, _ => rfl
 | 0, 0, _, _ => exact absurd rfl hne
 | 1, 1, _, _ => exact absurd rfl hne
 | 2, 2, _, _ => exact absurd rfl hne
 | 3, 3, _, _ => exact absurd rfl hne
section
variable {H : Aa} {p k : Nat} {x : Nd} {cs cs' : List Ab}
theorem D3 (hg : H[p]? = some (.cel 0 (cNd x))) : Ad true 5 (.ptr p 0 0) H = some (.agg (cNd x)) := by
 simp only [Ad, Bc hg, Option.bind_some, if_true]; rfl
theorem Hr (hg : H[p]? = some (.cel 0 (cNd x))) : Ad false 1 (.ptr p 0 0) H = some (.int .i64 x.lv) := by
 simp only [Ad, Bc hg, Option.bind_some, Bool.false_eq_true, if_false]; rfl
theorem SE (hg : H[p]? = some (.cel 0 (cNd x))) (h : k < 4) : Ad false 1 (.ptr p 0 (1 + k)) H = some (.int .i64 (x.kid k)) := by
 simp only [Ad, Bc hg, Option.bind_some, Bool.false_eq_true, if_false]; exact CI h
theorem Cg {c : Int} (hg : H[p]? = some (.cel 0 (cNd x))) (h : k < 4) : Af 1 (.ptr p 0 (1 + k)) (.int .i64 c) H = some (H.set p (.cel 0 (cNd (x.setKid k c)))) := by
 simp only [Af, Bc hg, Option.bind_some, acells_int, Dg hg]
 match k, h with
 | 0, _ => rfl
 | 1, _ => rfl
 | 2, _ => rfl
 | 3, _ => rfl
theorem Ej (hg : H[p]? = some (.cel 0 cs)) (hl : cs.length = 5) : Af 5 (.ptr p 0 0) (.agg (cNd x)) H = some (H.set p (.cel 0 (cNd x))) := by
 simp only [Af, Bc hg, Option.bind_some, Tl, Dg hg, KJ hl]
 rw [if_pos ⟨rfl, by omega⟩]
theorem C0 {K : IntKind} {id g o : Nat} (h : k < 4) : AY 4 1 (.ptr id g o) (.int K (k : Int)) = some (.ptr id g (o + k)) := by
 unfold AY
 simp only []
 rw [if_pos ⟨by omega, by omega⟩]; simp

end
theorem F7 (H : Aa) : A3 (some [.int .i64 0, .int .i64 0, .int .i64 0, .int .i64 0, .int .i64 0]) H = some (.ptr H.length 0 0, H ++ [.cel 0 (cNd nd0)]) := alloc_eq rfl
theorem Fz (L : List Nd) : (Az L).getD 0 true = true := by
 have key : ∀ (l : List Nd) (E : List Bool), E[0]? = some true → (l.foldl (fun E x => E ++ [No E x]) E)[0]? = some true := by
  intro l
  induction l with
  | nil => intro E h; exact h
  | cons a l ih => intro E h; exact ih _ (by rw [List.getElem?_append_left (by cases E with | nil => simp at h | cons e E => simp)]; exact h)
 rw [List.getD_eq_getElem?_getD, show (Az L)[0]? = some true from key L [true] rfl]; rfl
def Hv (L : List Nd) (x : Nd) (k : Nat) : Int := if x.kid k = 0 then 0 else (A4 L (x.kid k)).kid (3 - k)
def DW (L : List Nd) (n : Nat) : Nd := ⟨(A4 L n).lv - 1, Hv L (A4 L n) 0, Hv L (A4 L n) 1, Hv L (A4 L n) 2, Hv L (A4 L n) 3⟩
def Ca : Nat → List Nd → Nat → List Nd × Nat
 | 0, L, n => (L, n)
 | f + 1, L, n => if DH L n then Ca f (L ++ [DW L n]) (L.length + 1) else (L, n)
def CU (L : List Nd) (n : Nat) : List Nd × Nat :=
 if (Az L).getD n true then (L, 0) else Ca (A4 L n).lv.toNat L n
theorem innNd_kid (L : List Nd) (n : Nat) {k : Nat} (h : k < 4) : (DW L n).kid k = Hv L (A4 L n) k := by
 match k, h with
 | 0, _ => rfl
 | 1, _ => rfl
 | 2, _ => rfl
 | 3, _ => rfl
theorem Ni {L : List Nd} {x : Nd} (hl : AD L = true) (hx : DS (L ++ [x]) L.length = true) : AD (L ++ [x]) = true := by
 unfold AD
 rw [List.all_eq_true]
 intro i hi
 have hi' : i < L.length + 1 := by simpa using hi
 by_cases h : i = L.length
 ·rw [h]; exact hx
 ·have hlt : i < L.length := by omega
  have h1 := List.all_eq_true.1 hl i (by simpa using hlt)
  simp only [DS, List.getElem?_append_left hlt, List.getElem?_eq_getElem hlt, Bool.and_eq_true, List.all_eq_true] at h1 ⊢
  refine ⟨h1.1, fun k hk => ?_⟩
  have h2 := h1.2 k hk
  simp only [Cm, Bool.and_eq_true, decide_eq_true_eq] at h2 ⊢
  refine ⟨h2.1, fun q1 q2 => ?_⟩
  obtain ⟨r1, r2⟩ := h2.2 q1 q2
  refine ⟨r1, fun y hy => ?_⟩
  rw [List.getElem?_append_left (by omega)] at hy
  exact r2 y hy
theorem loose_ndOk {L : List Nd} {x : Nd} (h1 : 1 ≤ x.lv) (h2 : x.lv ≤ 1329) (h3 : ∀ k, k < 4 → 0 ≤ x.kid k ∧ (x.lv = 1 → x.kid k ≤ 255) ∧ (1 < x.lv → 0 < x.kid k → x.kid k ≤ L.length ∧ (A4 L (x.kid k)).lv = x.lv - 1)) : DS (L ++ [x]) L.length = true := by
 simp only [DS, List.getElem?_append_right (Nat.le_refl _), Nat.sub_self, List.getElem?_cons_zero, Bool.and_eq_true, decide_eq_true_eq, List.all_eq_true]
 refine ⟨⟨h1, h2⟩, fun k hk => ?_⟩
 obtain ⟨q1, q2, q3⟩ := h3 k (by simpa using hk)
 simp only [Cm, Bool.and_eq_true, decide_eq_true_eq]
 refine ⟨⟨q1, q2⟩, fun r1 r2 => ?_⟩
 obtain ⟨s1, s2⟩ := q3 r1 r2
 refine ⟨s1, fun y hy => ?_⟩
 have hlt : (x.kid k - 1).toNat < L.length := by omega
 rw [List.getElem?_append_left hlt, List.getElem?_eq_getElem hlt] at hy
 injection hy with hy
 rw [← hy, ← s2, Cf (n := (x.kid k - 1).toNat) (by omega) hlt]
theorem O1 {L : List Nd} (hl : AD L = true) {n : Nat} (hn : n < L.length) (h2 : 2 ≤ L[n].lv) : AD (L ++ [DW L (n + 1)]) = true := by
 obtain ⟨l1, l2, l3⟩ := A8 hl hn
 have e : A4 L ((n + 1 : Nat) : Int) = L[n] := Bb hn
 have elv : (DW L (n + 1)).lv = L[n].lv - 1 := by show (A4 L ((n + 1 : Nat) : Int)).lv - 1 = _; rw [e]
 refine Ni hl (loose_ndOk (by omega) (by omega) fun k hk => ?_)
 obtain ⟨q1, q2, q3⟩ := l3 k hk
 rw [innNd_kid L (n + 1) hk, elv, e]
 unfold Hv
 by_cases hc : L[n].kid k = 0
 ·rw [if_pos hc]; exact ⟨by omega, fun _ => by omega, fun _ h => by omega⟩
 ·rw [if_neg hc]
  obtain ⟨m, hm⟩ : ∃ m : Nat, L[n].kid k = ((m + 1 : Nat) : Int) := ⟨(L[n].kid k - 1).toNat, by omega⟩
  obtain ⟨r1, r2⟩ := q3 (by omega) (by omega)
  have hml : m < L.length := by omega
  have hy := r2 L[m] (by rw [show (L[n].kid k - 1).toNat = m from by omega]; exact List.getElem?_eq_getElem hml)
  obtain ⟨y1, y2, y3⟩ := A8 hl hml
  rw [Cf hm hml]
  obtain ⟨s1, s2, s3⟩ := y3 (3 - k) (by omega)
  refine ⟨s1, fun h => s2 (by omega), fun h h0 => ?_⟩
  obtain ⟨t1, t2⟩ := s3 (by omega) h0
  refine ⟨by omega, ?_⟩
  obtain ⟨c, hc'⟩ : ∃ c : Nat, L[m].kid (3 - k) = ((c + 1 : Nat) : Int) := ⟨(L[m].kid (3 - k) - 1).toNat, by omega⟩
  have hcl : c < L.length := by omega
  rw [Cf hc' hcl]
  have := t2 L[c] (by rw [show (L[m].kid (3 - k) - 1).toNat = c from by omega]; exact List.getElem?_eq_getElem hcl)
  omega
theorem O2 {L : List Nd} {n : Nat} (h : DH L n = true) : n ≠ 0 ∧ 2 ≤ (A4 L n).lv := by
 simp only [DH, Bool.and_eq_true, decide_eq_true_eq] at h
 exact ⟨h.1.1, h.1.2⟩
theorem Tj {H G : Aa} {l : List Nd} {x : Nd} (h : l.length < 3518437208883) : AA At 5 40 (.sl (enL cNd l) (.own H.length)) (.sl (enL cNd [x]) .tight) (H ++ .tok l.length At 5 :: G) = some (.sl (enL cNd (l ++ [x])) (.own H.length), H ++ .tok (l.length + 1) At 5 :: G) := by
 have := Eg (f := cNd) (l := l) (m := [x]) (ty := At) (bytes := 40) (tk := .tight) (H := H ++ .tok l.length At 5 :: G) (t := H.length) (by simp) (by simp) (by simp; omega) (by simp; omega)
 rw [this]; simp
def Su (f : Nat → Int) (x : Nd) : Nat → Nd
 | 0 => x
 | k + 1 => (Su f x k).setKid k (f k)
theorem Ss (f : Nat → Int) (x : Nd) : Su f x 4 = ⟨x.lv, f 0, f 1, f 2, f 3⟩ := rfl
theorem build_lv (z : Int) : Ay (some [.int .i64 0, .int .i64 0, .int .i64 0, .int .i64 0, .int .i64 0]) [(0, 1, .int .i64 z)] = some (.agg (cNd ⟨z, 0, 0, 0, 0⟩)) := by
 simp [Ay, GJ, DR, cNd]
theorem q06_shrink (L : List Nd) (tk : Tok) (n : Nat) (H : Aa) (hL : L.length < 3518437200000) (hl : AD L = true) (hn : n ≤ L.length) :
  Sh.f35 (.sl (enL cNd L) tk) (.int .i64 (n : Int)) H = some (.ret (.tup [.sl (enL cNd (CU L n).1) .no, .int .i64 ((CU L n).2 : Int)]), H) := by
 unfold Sh.f35
 have hb : A9 5 [] = some (.sl (enL cNd []) .tight) := rfl
 rw [hb]
 by_cases h0 : L = []
 ·subst h0
  have hn0 : n = 0 := by simpa using hn
  subst hn0
  have ha : AA At 5 40 (.sl (enL cNd []) .tight) (.sl (enL cNd []) tk) H = some (.sl (enL cNd []) .tight, H) := Gu (by simp [BZ, enL])
  have he := S5 [] .tight 0 H (by simp) hl (Nat.le_refl _)
  simp only [GMb, GMc, ha, he, show (Az []).getD 0 true = true from rfl, rPN_self, Fy, CS, D5, L6, Eo, Option.map_some]
  rfl
 ·have ha : AA At 5 40 (.sl (enL cNd []) .tight) (.sl (enL cNd L) tk) H = some (.sl (enL cNd L) (.own H.length), H ++ [.tok L.length At 5]) := by
   have := CD (f := cNd) (l := []) (m := L) (ty := At) (bytes := 40) (tk := tk) (H := H) h0 (by simp; omega) (by simp; omega)
   simpa using this
  simp only [GMb, GMc, ha, S5 L _ n _ (show L.length < 140737488355327 by omega) hl hn]
  unfold CU
  cases hem : (Az L).getD n true with
  | true => simp only [GMb, GMc, DB, Fy, CS, D5, L6, Eo, Option.map_some]; rfl
  | false =>
   simp only [GMb, GMc]
   have hlv : (A4 L n).lv ≤ 1329 := by
    cases n with
    | zero => exfalso; rw [Fz] at hem; cases hem
    | succ m => rw [Bb hn]; exact (A8 hl hn).2.1
   have key := AM (G := fun rec1 vs H1 => Sh.f60 H rec1 (ag vs 0) (ag vs 1) H1) (σ := List Nd × Nat × Aa) (fun s => AD s.1 = true ∧ s.2.1 ≤ s.1.length ∧ s.1.length + (A4 s.1 s.2.1).lv.toNat < 3518437208883 ∧ s.1.length + (A4 s.1 s.2.1).lv.toNat < 3518437208883)
    (fun s => [.int .i64 (s.2.1 : Int), .sl (enL cNd s.1) (.own H.length)]) (fun s => H ++ .tok s.1.length At 5 :: s.2.2) (fun s => (A4 s.1 s.2.1).lv.toNat)
    (fun s => some (.ret (.tup [.sl (enL cNd (Ca (A4 s.1 s.2.1).lv.toNat s.1 s.2.1).1) .no, .int .i64 ((Ca (A4 s.1 s.2.1).lv.toNat s.1 s.2.1).2 : Int)]), H)) (fun s rec hs hrec => ?_) (L, n, []) ⟨hl, hn, by dsimp only; omega, by dsimp only; omega⟩ (by dsimp only; omega)
   ·exact key
   ·obtain ⟨M, i, G⟩ := s
    obtain ⟨hs1, hs2, hs3, hs4⟩ := hs
    simp only at hs1 hs2 hs3 hs4 hrec ⊢
    unfold Sh.f60
    simp only [GMb, GMc, Q0 M _ i _ (show M.length < 140737488355327 by omega) hs1 hs2]
    cases hh : DH M i with
    | false =>
     have : Ca (A4 M i).lv.toNat M i = (M, i) := by
      cases (A4 M i).lv.toNat with
      | zero => rfl
      | succ f => simp [Ca, hh]
     simp only [GMb, GMc, this, DB, Fy, CS, D5, L6, Eo, Option.map_some]
    | true =>
     obtain ⟨hi0, hlv2⟩ := O2 hh
     obtain ⟨m, rfl⟩ : ∃ m, i = m + 1 := ⟨i - 1, by omega⟩
     have hm : m < M.length := hs2
     obtain ⟨l1, l2, l3⟩ := A8 hs1 hm
     have hx : A4 M ((m + 1 : Nat) : Int) = M[m] := Bb hm
     rw [hx] at hlv2 hs3 hrec ⊢
     have hwm : IntKind.i64.wrap (((m + 1 : Nat) : Int) - 1) = (m : Int) := by rw [A1] <;> omega
     have hwl : IntKind.i64.wrap (M[m].lv - 1) = M[m].lv - 1 := A1 (by omega) (by omega)
     have hsf : Ca M[m].lv.toNat M (m + 1) = Ca (M[m].lv - 1).toNat (M ++ [DW M (m + 1)]) (M.length + 1) := by
      rw [show M[m].lv.toNat = (M[m].lv - 1).toNat + 1 from by omega]
      simp only [Ca, hh, if_true]
     generalize hB : H ++ .tok M.length At 5 :: G = B
     simp only [GMb, GMc, Am, Ai, Aw, Nat.zero_add, Nat.add_zero, Nat.mul_one, Ba, hwm, A2 hm, hwl, build_lv, F7, Ej (AG (B := B) (cs := cNd nd0)) rfl, Cd]
     refine Ct (G := fun rec2 vs H1 => Sh.f4t H rec rec2 (ag vs 0) (ag vs 1) (ag vs 2) (ag vs 3) H1) 4 (fun k => [.int .i64 ((m + 1 : Nat) : Int), .sl (enL cNd M) (.own H.length), .ptr B.length 0 0, .int .i64 (k : Int)]) (fun k => B ++ [.cel 0 (cNd (Su (Hv M M[m]) ⟨M[m].lv - 1, 0, 0, 0, 0⟩ k))]) _ (by decide) (fun rec2 k hk => ?_) (fun rec2 => ?_)
     ·have hk' : (k : Int) < 4 := by omega
      unfold Sh.f4t
      have hinn := q05_inner M (.own H.length) m k (B ++ [.cel 0 (cNd (Su (Hv M M[m]) ⟨M[m].lv - 1, 0, 0, 0, 0⟩ k))]) (by omega) hs1 hm hlv2 hk
      simp only [GMb, GMc, hk', hinn, Ai, Nat.zero_add, C0 hk, Cg (AG (B := B)) hk, Cd, Ar (show k < 9223372036854775807 by omega)]
      rfl
     ·have hf : ¬ (((4 : Nat) : Int) < 4) := by decide
      have hel : (⟨M[m].lv - 1, Hv M M[m] 0, Hv M M[m] 1, Hv M M[m] 2, Hv M M[m] 3⟩ : Nd) = DW M (m + 1) := by unfold DW; rw [hx]
      unfold Sh.f4t
      rw [Ss]
      simp only [GMb, GMc, hf, D3 (AG (B := B)), EN]
      rw [← hB, List.append_assoc, List.cons_append, Tj (by omega)]
      simp only [GMb, GMc, A5, List.length_append, List.length_singleton, hel]
      have hlv' : (A4 (M ++ [DW M (m + 1)]) ((M.length + 1 : Nat) : Int)).lv = M[m].lv - 1 := by
       rw [Bb (by simp), show (M ++ [DW M (m + 1)])[M.length]'(by simp) = DW M (m + 1) from by simp]
       show (A4 M ((m + 1 : Nat) : Int)).lv - 1 = _
       rw [hx]
      have := hrec (M ++ [DW M (m + 1)], M.length + 1, G ++ [.cel 0 (cNd (DW M (m + 1)))]) ⟨O1 hs1 hm hlv2, by simp, by dsimp only; rw [hlv']; simp; omega, by dsimp only; rw [hlv']; simp; omega⟩ (by dsimp only; rw [hlv']; omega)
      simp only [List.length_append, List.length_singleton] at this
      rw [this, hlv', hsf]
end Go.Gm
namespace Go.Gm
def BO (l : List Nd) (x : Nd) : Nat := match (List.range l.length).find? (fun i => decide (l.getD i nd0 = x)) with | some i => i + 1 | none => 0
theorem Fe {l : List Nd} {x : Nd} {i : Nat} : BO l x = i + 1 ↔ l[i]? = some x ∧ ∀ j, j < i → l[j]? ≠ some x := by
 unfold BO
 constructor
 ·intro h
  cases hf : (List.range l.length).find? (fun i => decide (l.getD i nd0 = x)) with
  | none => rw [hf] at h; dsimp only at h; omega
  | some k =>
   rw [hf] at h; dsimp only at h
   have hk : k = i := by omega
   subst hk
   rw [List.find?_range_eq_some] at hf
   obtain ⟨h1, h2, h3⟩ := hf
   have hlt : k < l.length := by simpa using h2
   simp only [decide_eq_true_eq, List.getD_eq_getElem?_getD, List.getElem?_eq_getElem hlt, Option.getD_some] at h1
   refine ⟨by rw [List.getElem?_eq_getElem hlt, h1], fun j hj e => ?_⟩
   have := h3 j hj
   simp only [List.getD_eq_getElem?_getD, e, Option.getD_some, decide_true, Bool.not_true] at this
   cases this
 ·rintro ⟨h1, h2⟩
  have hlt : i < l.length := (List.getElem?_eq_some_iff.1 h1).1
  have hf : (List.range l.length).find? (fun i => decide (l.getD i nd0 = x)) = some i := by
   rw [List.find?_range_eq_some]
   refine ⟨by simp [List.getD_eq_getElem?_getD, h1], by simpa using hlt, fun j hj => ?_⟩
   have hjl : j < l.length := by omega
   have := h2 j hj
   rw [List.getElem?_eq_getElem hjl] at this
   simp only [List.getD_eq_getElem?_getD, List.getElem?_eq_getElem hjl, Option.getD_some, Bool.not_eq_true', decide_eq_false_iff_not]
   exact fun e => this (by rw [e])
  rw [hf]
theorem Iz {l : List Nd} {x : Nd} : BO l x = 0 ↔ x ∉ l := by
 constructor
 ·intro h hx
  obtain ⟨i, hi, hxi⟩ := List.getElem_of_mem hx
  unfold BO at h
  cases hf : (List.range l.length).find? (fun i => decide (l.getD i nd0 = x)) with
  | none =>
   have := List.find?_eq_none.1 hf i (by simpa using hi)
   simp [List.getD_eq_getElem?_getD, List.getElem?_eq_getElem hi, hxi] at this
  | some k => rw [hf] at h; dsimp only at h; omega
 ·intro h
  cases hf : BO l x with
  | zero => rfl
  | succ i =>
   rw [Fe] at hf
   exact absurd (List.mem_of_getElem? hf.1) h
theorem NP {l m : List Nd} {x : Nd} (h : BO l x ≠ 0) : BO (l ++ m) x = BO l x := by
 cases hf : BO l x with
 | zero => exact absurd hf h
 | succ i =>
  rw [Fe] at hf ⊢
  have hlt : i < l.length := (List.getElem?_eq_some_iff.1 hf.1).1
  refine ⟨by rw [List.getElem?_append_left hlt]; exact hf.1, fun j hj => ?_⟩
  rw [List.getElem?_append_left (by omega)]; exact hf.2 j hj
theorem SU {l : List Nd} {x : Nd} (h : BO l x = 0) : BO (l ++ [x]) x = l.length + 1 := by
 rw [Fe]
 refine ⟨by simp, fun j hj e => ?_⟩
 rw [List.getElem?_append_left hj] at e
 exact Iz.1 h (List.mem_of_getElem? e)
def C5 (out : List Nd) (x : Nd) : List Nd × Nat := if BO out x = 0 then (out ++ [x], out.length + 1) else (out, BO out x)
def B2 (rec : Nat → List Nd → List Nd × Nat) (x : Nd) : Nat → List Nd → List Nd × Nd
 | 0, out => (out, x)
 | k + 1, out => ((rec (x.kid k).toNat (B2 rec x k out).1).1, (B2 rec x k out).2.setKid k ((rec (x.kid k).toNat (B2 rec x k out).1).2 : Int))
def AN (L : List Nd) (E : List Bool) : Nat → Nat → List Nd → List Nd × Nat
 | 0, _, out => (out, 0)
 | v + 1, n, out =>
  if E.getD n true then (out, 0)
  else if 1 < (A4 L n).lv then C5 (B2 (AN L E v) (A4 L n) 4 out).1 (B2 (AN L E v) (A4 L n) 4 out).2
  else C5 out (A4 L n)
theorem Q5 (out : List Nd) (x : Nd) : 0 < (C5 out x).2 := by
 unfold C5
 split
 ·simp
 ·dsimp only; omega
theorem Q4 (out : List Nd) (x : Nd) : ∃ r, (C5 out x).1 = out ++ r := by
 unfold C5
 split
 ·exact ⟨_, rfl⟩
 ·exact ⟨[], by simp⟩
theorem Q6 (out : List Nd) (x : Nd) (r : List Nd) : C5 ((C5 out x).1 ++ r) x = ((C5 out x).1 ++ r, (C5 out x).2) := by
 by_cases h : BO out x = 0
 ·have h1 : C5 out x = (out ++ [x], out.length + 1) := by simp [C5, h]
  rw [h1]
  have h2 : BO (out ++ [x] ++ r) x = out.length + 1 := by rw [NP (by rw [SU h]; omega), SU h]
  dsimp only
  unfold C5
  rw [h2, if_neg (by omega)]
 ·have h1 : C5 out x = (out, BO out x) := by simp [C5, h]
  rw [h1]
  dsimp only
  unfold C5
  rw [NP h, if_neg h]
section
variable {L : List Nd} {E : List Bool}
theorem Rh {rec : Nat → List Nd → List Nd × Nat} (hr : ∀ n out, ∃ r, (rec n out).1 = out ++ r) (x : Nd) : ∀ k out, ∃ r, (B2 rec x k out).1 = out ++ r
 | 0, out => ⟨[], by simp [B2]⟩
 | k + 1, out => by
  obtain ⟨r, h⟩ := Rh hr x k out
  obtain ⟨r', h'⟩ := hr (x.kid k).toNat (B2 rec x k out).1
  exact ⟨r ++ r', by simp only [B2]; rw [h', h]; simp⟩
theorem Ri : ∀ v n out, ∃ r, (AN L E v n out).1 = out ++ r
 | 0, n, out => ⟨[], by simp [AN]⟩
 | v + 1, n, out => by
  simp only [AN]
  split
  ·exact ⟨[], by simp⟩
  ·split
   ·obtain ⟨r, h⟩ := Rh (Ri v) (A4 L n) 4 out
    obtain ⟨r', h'⟩ := Q4 (B2 (AN L E v) (A4 L n) 4 out).1 (B2 (AN L E v) (A4 L n) 4 out).2
    exact ⟨r ++ r', by rw [h', h]; simp⟩
   ·exact Q4 _ _
theorem Gk : ∀ v n out r, AN L E v n ((AN L E v n out).1 ++ r) = ((AN L E v n out).1 ++ r, (AN L E v n out).2)
 | 0, n, out, r => by simp [AN]
 | v + 1, n, out, r => by
  by_cases he : E.getD n true = true
  ·simp only [AN, if_pos he]
  ·by_cases hl : 1 < (A4 L n).lv
   ·have e : ∀ o, AN L E (v + 1) n o = C5 (B2 (AN L E v) (A4 L n) 4 o).1 (B2 (AN L E v) (A4 L n) 4 o).2 := fun o => by simp only [AN, if_neg he, if_pos hl]
    have key : ∀ k, k ≤ 4 → ∀ s, B2 (AN L E v) (A4 L n) k ((B2 (AN L E v) (A4 L n) k out).1 ++ s) = ((B2 (AN L E v) (A4 L n) k out).1 ++ s, (B2 (AN L E v) (A4 L n) k out).2) := by
     intro k
     induction k with
     | zero => intro _ s; simp [B2]
     | succ k ih =>
      intro hk s
      simp only [B2]
      obtain ⟨r', h'⟩ := Ri (L := L) (E := E) v ((A4 L n).kid k).toNat (B2 (AN L E v) (A4 L n) k out).1
      have hi := ih (by omega) (r' ++ s)
      have ha := Gk v ((A4 L n).kid k).toNat (B2 (AN L E v) (A4 L n) k out).1 s
      rw [h'] at ha ⊢
      rw [List.append_assoc, hi]
      rw [List.append_assoc] at ha
      dsimp only
      rw [ha]
    obtain ⟨r', h'⟩ := Q4 (B2 (AN L E v) (A4 L n) 4 out).1 (B2 (AN L E v) (A4 L n) 4 out).2
    have ha := Q6 (B2 (AN L E v) (A4 L n) 4 out).1 (B2 (AN L E v) (A4 L n) 4 out).2 r
    rw [e, e]
    rw [h'] at ha ⊢
    rw [List.append_assoc, key 4 (by omega)]
    dsimp only
    rw [List.append_assoc] at ha
    exact ha
   ·have e : ∀ o, AN L E (v + 1) n o = C5 o (A4 L n) := fun o => by simp only [AN, if_neg he, if_neg hl]
    rw [e, e]; exact Q6 out (A4 L n) r

end
end Go.Gm
namespace Go.Gm
theorem q06_find (l : List Nd) (tk : Tok) (x : Nd) (H : Aa) (hl : l.length < 1152921504606846975) : Sh.f36 (.sl (enL cNd l) tk) (.agg (cNd x)) H = some (.ret (.int .i64 (BO l x : Int)), H) := by
 unfold Sh.f36
 rw [DK (sz := 5) By rfl]
 simp only [GMb, GMc]
 have hp : (H ++ [Blk.cel 0 (cNd x)])[H.length]? = some (.cel 0 (cNd x)) := AG
 have key := Is (G := fun rec1 vs H1 => Sh.f4u H rec1 (ag vs 0) (ag vs 1) (ag vs 2) H1) l.length (fun i => decide (l.getD i nd0 = x)) (fun i => [.sl (enL cNd l) tk, .ptr H.length 0 0, .int .i64 (i : Int)]) (H ++ [.cel 0 (cNd x)])
  (some (.ret (.int .i64 0), H)) (fun i => some (.ret (.int .i64 ((i + 1 : Nat) : Int)), H)) (by omega) (fun rec i hi => ?_) (fun rec => ?_)
 ·refine key.trans ?_
  unfold BO
  cases (List.range l.length).find? (fun i => decide (l.getD i nd0 = x)) <;> rfl
 ·have hi' : (i : Int) < (l.length : Int) := by omega
  unfold Sh.f4u
  simp only [GMb, GMc, A5, hi', A2 hi, G8, D3 hp, eq_nd, Ar (show i < 9223372036854775807 by omega), Qx]
  simp only [List.getD_eq_getElem?_getD, List.getElem?_eq_getElem hi, Option.getD_some]
  by_cases he : l[i] = x
  ·simp only [he, GMb, GMc]
  ·simp only [he, GMb, GMc]
 ·unfold Sh.f4u
  simp only [GMb, GMc, A5, Int.lt_irrefl, Qx]
structure VS (b id : Nat) (out : List Nd) (D : List Nat) (v : Ab) (H : Aa) : Prop where
 hv : (out = [] ∧ v = .sl [] .tight) ∨ ∃ t, b ≤ t ∧ v = .sl (enL cNd out) (.own t) ∧ H[t]? = some (.tok out.length At 5)
 hd : H[id]? = some (.cel 0 (flat cN D))
structure Ext (b id : Nat) (H H' : Aa) : Prop where
 len : H.length ≤ H'.length
 cel : ∀ (i : Nat) (cs : List Ab), i ≠ id → H[i]? = some (.cel 0 cs) → H'[i]? = some (.cel 0 cs)
 old : ∀ i, i < b → H'[i]? = H[i]?
theorem Ext.refl (b id : Nat) (H : Aa) : Ext b id H H := ⟨Nat.le_refl _, fun _ _ _ h => h, fun _ _ => rfl⟩
theorem Ext.trans {b id : Nat} {H H1 H2 : Aa} (h : Ext b id H H1) (h' : Ext b id H1 H2) : Ext b id H H2 :=
 ⟨Nat.le_trans h.len h'.len, fun i cs hi hc => h'.cel i cs hi (h.cel i cs hi hc), fun i hi => (h'.old i hi).trans (h.old i hi)⟩
theorem VS.sl {b id : Nat} {out : List Nd} {D : List Nat} {v : Ab} {H : Aa} (h : VS b id out D v H) : ∃ tk, v = .sl (enL cNd out) tk := by
 rcases h.hv with ⟨rfl, rfl⟩ | ⟨t, _, rfl, _⟩
 ·exact ⟨_, rfl⟩
 ·exact ⟨_, rfl⟩
theorem NL {H : Aa} {i : Nat} {x : Blk} (B : Blk) (h : H[i]? = some x) : (H ++ [B])[i]? = some x := by
 have := (List.getElem?_eq_some_iff.1 h).1
 rw [List.getElem?_append_left this]; exact h
theorem VS.snoc {b id : Nat} {out : List Nd} {D : List Nat} {v : Ab} {H : Aa} (h : VS b id out D v H) (B : Blk) : VS b id out D v (H ++ [B]) := by
 refine ⟨?_, NL B h.hd⟩
 rcases h.hv with h1 | ⟨t, h1, h2, h3⟩
 ·exact .inl h1
 ·exact .inr ⟨t, h1, h2, NL B h3⟩
theorem Ext.snoc {b id : Nat} {H : Aa} (hb : b ≤ H.length) (B : Blk) : Ext b id H (H ++ [B]) :=
 ⟨by simp, fun i cs _ h => NL B h, fun i hi => by rw [List.getElem?_append_left (by omega)]⟩
theorem VS.put {b id p : Nat} {out : List Nd} {D : List Nat} {v : Ab} {H : Aa} {c c' : List Ab} (h : VS b id out D v H) (hp : H[p]? = some (.cel 0 c)) (hne : p ≠ id) : VS b id out D v (H.set p (.cel 0 c')) := by
 refine ⟨?_, by rw [List.getElem?_set_ne hne]; exact h.hd⟩
 rcases h.hv with h1 | ⟨t, h1, h2, h3⟩
 ·exact .inl h1
 ·refine .inr ⟨t, h1, h2, ?_⟩
  have : p ≠ t := fun e => by rw [← e, hp] at h3; cases h3
  rw [List.getElem?_set_ne this]; exact h3
theorem VS.app {b id : Nat} {out : List Nd} {D : List Nat} {v : Ab} {H : Aa} (h : VS b id out D v H) (hb : b ≤ H.length) (x : Nd) (hl : out.length < 3518437208883) :
  ∃ v' H', AA At 5 40 v (.sl (enL cNd [x]) .tight) H = some (v', H') ∧ VS b id (out ++ [x]) D v' H' ∧ Ext b id H H' := by
 rcases h.hv with ⟨rfl, rfl⟩ | ⟨t, h1, rfl, h3⟩
 ·have := CD (f := cNd) (l := []) (m := [x]) (ty := At) (bytes := 40) (tk := .tight) (H := H) (by simp) (by simp) (by simp)
  refine ⟨_, _, this, ⟨.inr ⟨H.length, hb, rfl, by simp⟩, NL _ h.hd⟩, Ext.snoc hb _⟩
 ·have := Eg (f := cNd) (l := out) (m := [x]) (ty := At) (bytes := 40) (tk := .tight) (H := H) (t := t) (by simp) h3 (by simp; omega) (by simp; omega)
  have htl := (List.getElem?_eq_some_iff.1 h3).1
  refine ⟨_, _, this, ⟨.inr ⟨t, h1, rfl, by simp [htl]⟩, ?_⟩, ⟨by simp, fun i cs hi hc => ?_, fun i hi => ?_⟩⟩
  ·have : t ≠ id := fun e => by have := h.hd; rw [← e, h3] at this; cases this
   rw [List.getElem?_set_ne this]; exact h.hd
  ·have : t ≠ i := fun e => by rw [← e, h3] at hc; cases hc
   rw [List.getElem?_set_ne this]; exact hc
  ·rw [List.getElem?_set_ne (by omega)]
structure VI (L out : List Nd) (D : List Nat) : Prop where
 len : D.length = L.length + 1
 cnt : out.length ≤ D.countP (fun d => decide (0 < d))
 val : ∀ (n d : Nat), D[n]? = some d → 0 < d → AN L (Az L) (A4 L n).lv.toNat n out = (out, d)
theorem VI.grow {L out r : List Nd} {D : List Nat} (h : ∀ (n d : Nat), D[n]? = some d → 0 < d → AN L (Az L) (A4 L n).lv.toNat n out = (out, d)) : ∀ (n d : Nat), D[n]? = some d → 0 < d → AN L (Az L) (A4 L n).lv.toNat n (out ++ r) = (out ++ r, d) := by
 intro n d h1 h2
 have h3 := h n d h1 h2
 have := Gk (L := L) (E := Az L) (A4 L n).lv.toNat n out r
 rwa [h3] at this
theorem VI.le {L out : List Nd} {D : List Nat} (h : VI L out D) : out.length ≤ L.length + 1 := by
 have := h.cnt
 have := List.countP_le_length (p := fun d : Nat => decide (0 < d)) (l := D)
 have := h.len
 omega
theorem insF_lv {L : List Nd} {E : List Bool} {v n : Nat} {out : List Nd} (he : E.getD n true = false) (hl : 1 < (A4 L n).lv) : AN L E (v + 1) n out = C5 (B2 (AN L E v) (A4 L n) 4 out).1 (B2 (AN L E v) (A4 L n) 4 out).2 := by
 simp only [AN, he, Bool.false_eq_true, if_false, if_pos hl]
theorem insF_one {L : List Nd} {E : List Bool} {v n : Nat} {out : List Nd} (he : E.getD n true = false) (hl : ¬ 1 < (A4 L n).lv) : AN L E (v + 1) n out = C5 out (A4 L n) := by
 simp only [AN, he, Bool.false_eq_true, if_false, if_neg hl]
theorem insK_lv (rec : Nat → List Nd → List Nd × Nat) (x : Nd) : ∀ k out, (B2 rec x k out).2.lv = x.lv
 | 0, out => rfl
 | k + 1, out => by simp only [B2, C8]; exact insK_lv rec x k out
theorem insK_kid (rec : Nat → List Nd → List Nd × Nat) (x : Nd) : ∀ k out j, k ≤ j → j < 4 → (B2 rec x k out).2.kid j = x.kid j
 | 0, out, j, _, _ => rfl
 | k + 1, out, j, h1, h2 => by
  simp only [B2]
  rw [Ez _ _ (by omega) h2 (by omega)]
  exact insK_kid rec x k out j (by omega) h2
theorem q06_visit {L : List Nd} (tk tk2 : Tok) (b id : Nat) (hL : L.length < 3518437208880) (hl : AD L = true) : ∀ (v n d : Nat) (out : List Nd) (D : List Nat) (w : Ab) (H : Aa), n ≤ L.length → (n = 0 ∨ (A4 L n).lv.toNat = v) → v < d → b ≤ id → id < H.length → VS b id out D w H → VI L out D →
  ∃ H' D' w', Sh.fl d (.sl (enL cNd L) tk) (.sl (enL cB (Az L)) tk2) (.int .i64 (n : Int)) w (.ms id 0 0 (L.length + 1) (L.length + 1) 1 true) H = some (.ret (.tup [w', .ms id 0 0 (L.length + 1) (L.length + 1) 1 true, .int .i64 ((AN L (Az L) v n out).2 : Int)]), H') ∧
   VS b id (AN L (Az L) v n out).1 D' w' H' ∧ Ext b id H H' ∧ VI L (AN L (Az L) v n out).1 D' ∧ ∀ j, n < j → D'[j]? = D[j]? := by
 intro v
 induction v with
 | zero =>
  intro n d out D w H hn hv hd hbi hid hVS hVI
  have hb : b ≤ H.length := by omega
  obtain ⟨d, rfl⟩ : ∃ e, d = e + 1 := ⟨d - 1, by omega⟩
  have hn0 : n = 0 := by
   rcases hv with h | h
   ·exact h
   ·cases n with
    | zero => rfl
    | succ m =>
     rw [Bb (show m < L.length from hn)] at h
     have := (A8 hl (show m < L.length from hn)).1; omega
  subst hn0
  have hlt : 0 < (Az L).length := by rw [C4]; omega
  have he : (Az L)[0] = true := by have := Fz L; rw [List.getD_eq_getElem?_getD, List.getElem?_eq_getElem hlt] at this; exact this
  refine ⟨H, D, w, ?_, hVS, Ext.refl _ _ _, hVI, fun _ _ => rfl⟩
  show Sh.f3n (Sh.fl d) _ _ _ _ _ _ = _
  unfold Sh.f3n
  simp only [GMb, GMc, Am, Ai, Aw, Nat.zero_add, Nat.add_zero, Nat.mul_one, Ba, A2 hlt, List.getElem?_cons_zero, he]
  rfl
 | succ v ih =>
  intro n d out D w H hn hv hd hbi hid hVS hVI
  have hb : b ≤ H.length := by omega
  obtain ⟨d, rfl⟩ : ∃ e, d = e + 1 := ⟨d - 1, by omega⟩
  have hlt : n < (Az L).length := by rw [C4]; omega
  have hgd : (Az L).getD n true = (Az L)[n] := by rw [List.getD_eq_getElem?_getD, List.getElem?_eq_getElem hlt]; rfl
  have hDn : n < D.length := by rw [hVI.len]; omega
  have hidx := ED (sz := 1) (id := id) (n := L.length + 1) (K := .i64) (g := 0) (off := 0) (cap := L.length + 1) (ex := true) (i := n) (by omega)
  simp only [Nat.zero_add, Nat.mul_one] at hidx
  have hld := G9 (f := cN) (Bc hVS.hd) hDn
  show ∃ H' D' w', Sh.f3n (Sh.fl d) _ _ _ _ _ _ = _ ∧ _
  unfold Sh.f3n
  simp only [GMb, GMc, Am, Ai, Aw, Nat.zero_add, Nat.add_zero, Nat.mul_one, Ba, A2 hlt, List.getElem?_cons_zero]
  cases he : (Az L)[n] with
  | true =>
   have e : AN L (Az L) (v + 1) n out = (out, 0) := by simp only [AN, hgd, he, if_true]
   rw [e]
   exact ⟨H, D, w, by simp only [GMb, GMc]; rfl, hVS, Ext.refl _ _ _, hVI, fun _ _ => rfl⟩
  | false =>
   rw [he] at hgd
   simp only [GMb, GMc, hidx, hld, List.getElem?_cons_zero]
   by_cases hpos : 0 < D[n]
   ·have hi : (D[n] : Int) > 0 := by omega
    have hv' : (A4 L n).lv.toNat = v + 1 := by
     rcases hv with h | h
     ·exfalso; subst h; rw [Fz] at hgd; cases hgd
     ·exact h
    have e := hVI.val n D[n] (List.getElem?_eq_getElem hDn) hpos
    rw [hv'] at e
    rw [e]
    exact ⟨H, D, w, by simp only [GMb, GMc, hi], hVS, Ext.refl _ _ _, hVI, fun _ _ => rfl⟩
   ·have hi : ¬ (D[n] : Int) > 0 := by omega
    have hD0 : D[n] = 0 := by omega
    obtain ⟨m, rfl⟩ : ∃ m, n = m + 1 := ⟨n - 1, by
     cases n with
     | zero => rw [Fz] at hgd; cases hgd
     | succ n => rfl⟩
    have hm : m < L.length := hn
    have hv' : (A4 L ((m + 1 : Nat) : Int)).lv.toNat = v + 1 := by
     rcases hv with h | h
     ·omega
     ·exact h
    obtain ⟨l1, l2, l3⟩ := A8 hl hm
    have hx : A4 L ((m + 1 : Nat) : Int) = L[m] := Bb hm
    rw [hx] at hv'
    have hwm : IntKind.i64.wrap (((m + 1 : Nat) : Int) - 1) = (m : Int) := by rw [A1] <;> omega
    simp only [GMb, GMc, hi, hwm, A2 hm, G8, F7, Ej (AG (B := H) (cs := cNd nd0)) rfl, Cd]
    generalize hX : L[m] = x at l1 l2 l3 hv' hx
    have hpid : H.length ≠ id := by omega
    have loop := Hq (G := fun rec1 vs H1 => Sh.f4v H (Sh.fl d) rec1 (ag vs 0) (ag vs 1) (ag vs 2) (ag vs 3) (ag vs 4) (ag vs 5) (ag vs 6) H1) (if 1 < x.lv then 4 else 0)
     (fun k vs Hc => ∃ w' D', vs = [.sl (enL cNd L) tk, .sl (enL cB (Az L)) tk2, .int .i64 ((m + 1 : Nat) : Int), w', .ms id 0 0 (L.length + 1) (L.length + 1) 1 true, .ptr H.length 0 0, .int .i64 (k : Int)] ∧ VS b id (B2 (AN L (Az L) v) x k out).1 D' w' Hc ∧ Hc[H.length]? = some (.cel 0 (cNd (B2 (AN L (Az L) v) x k out).2)) ∧ Ext b id H Hc ∧ VI L (B2 (AN L (Az L) v) x k out).1 D' ∧ (∀ j, m < j → D'[j]? = D[j]?))
     (by split <;> decide) (fun k vs Hc hk hI => ?_) (vs := [.sl (enL cNd L) tk, .sl (enL cB (Az L)) tk2, .int .i64 ((m + 1 : Nat) : Int), w, .ms id 0 0 (L.length + 1) (L.length + 1) 1 true, .ptr H.length 0 0, .int .i64 0]) (H := H ++ [.cel 0 (cNd x)]) ⟨w, D, rfl, hVS.snoc _, by simp [B2], Ext.snoc hb _, hVI, fun _ _ => rfl⟩
    ·obtain ⟨vs', Hc, ⟨w', D', rfl, hVS', hcell, hExt, hVI', hDD⟩, rec, hloop⟩ := loop
     rw [hloop]
     unfold Sh.f4v
     obtain ⟨tkk, rfl⟩ := hVS'.sl
     have hle := hVI'.le
     have hstop : (Ax (.bool (decide (((if 1 < x.lv then 4 else 0 : Nat) : Int) < 4))) (.bool (decide (x.lv > 1))) (.bool false)) = some (.bool false) := by
      by_cases h : 1 < x.lv <;> simp [h]
     have hlvI : (B2 (AN L (Az L) v) x (if 1 < x.lv then 4 else 0) out).2.lv = x.lv := insK_lv _ _ _ _
     have hput : AN L (Az L) (v + 1) (m + 1) out = C5 (B2 (AN L (Az L) v) x (if 1 < x.lv then 4 else 0) out).1 (B2 (AN L (Az L) v) x (if 1 < x.lv then 4 else 0) out).2 := by
      by_cases h : 1 < x.lv
      ·rw [if_pos h, insF_lv hgd (by rw [hx]; exact h), hx]
      ·rw [if_neg h, insF_one hgd (by rw [hx]; exact h), hx]; rfl
     have hpre := Rh (Ri (L := L) (E := Az L) v) x (if 1 < x.lv then 4 else 0) out
     rw [hput]
     have hagain := Gk (L := L) (E := Az L) (v + 1) (m + 1) out []
     rw [List.append_nil, hput] at hagain
     generalize (B2 (AN L (Az L) v) x (if 1 < x.lv then 4 else 0) out) = io at *
     obtain ⟨o, y⟩ := io
     dsimp only at hVS' hcell hVI' hlvI hpre hagain hle ⊢
     have hcond : ∀ (A B : Out), (gk (.bool (decide (((if 1 < x.lv then 4 else 0 : Nat) : Int) < 4))) true (Ac 0 (.ptr H.length 0 0)) fun x29 => gk (.bool (decide (((if 1 < x.lv then 4 else 0 : Nat) : Int) < 4))) true (Ad false 1 x29 Hc) fun x30 => gk (.bool (decide (((if 1 < x.lv then 4 else 0 : Nat) : Int) < 4))) true (Ae .none .gtr x30 (.int .i64 1)) fun x31 => (Ax (.bool (decide (((if 1 < x.lv then 4 else 0 : Nat) : Int) < 4))) x31 (.bool false)).bind fun x32 => Aj x32 A B) = B := by
      intro A B
      by_cases h : 1 < x.lv
      ·have hf : ¬ (((4 : Nat) : Int) < 4) := by decide
       simp only [if_pos h, hf, GMb, GMc]
      ·have hf : (((0 : Nat) : Int) < 4) := by decide
       have h' : ¬ x.lv > 1 := h
       simp only [if_neg h, hf, GMb, GMc, Ai, Nat.add_zero, Hr hcell, hlvI, h']
     simp only [AF, Al, Bd, Bw]
     rw [hcond]
     have hidx' : A6 1 (.ms id 0 0 (L.length + 1) (L.length + 1) 1 true) (.int .i64 ((m + 1 : Nat) : Int)) = some (.ptr id 0 (m + 1)) := hidx
     have hD'n : D'[m + 1]? = some 0 := by rw [hDD (m + 1) (by omega), List.getElem?_eq_getElem hDn, hD0]
     have hDl : m + 1 < D'.length := by rw [hVI'.len]; omega
     have hD'e : D'[m + 1] = 0 := by rw [List.getElem?_eq_getElem hDl] at hD'n; injection hD'n
     have fin : ∀ (o' : List Nd) (i : Nat) (w2 : Ab) (H2 : Aa), C5 o y = (o', i) → VS b id o' D' w2 H2 → Ext b id H H2 → VI L o D' → o'.length ≤ o.length + 1 → (∃ r, o' = o ++ r) →
       ∃ H' D'' w'', Sh.f61 H (.int .i64 ((m + 1 : Nat) : Int)) w2 (.ms id 0 0 (L.length + 1) (L.length + 1) 1 true) (.int .i64 (i : Int)) H2 = some (.ret (.tup [w'', .ms id 0 0 (L.length + 1) (L.length + 1) 1 true, .int .i64 (i : Int)]), H') ∧ VS b id o' D'' w'' H' ∧ Ext b id H H' ∧ VI L o' D'' ∧ ∀ j, m + 1 < j → D''[j]? = D[j]? := by
      intro o' i w2 H2 hp hV2 hE2 hI2 hlen ⟨r, hr⟩
      have hi0 : 0 < i := by have := Q5 o y; rw [hp] at this; exact this
      have hst := Gc (f := cN) (sz := 1) (l := D') (i := m + 1) (a := i) (v := .int .i64 (i : Int)) (Bc hV2.hd) hDl rfl
      rw [Dg hV2.hd, Nat.mul_one] at hst
      have hidl := (List.getElem?_eq_some_iff.1 hV2.hd).1
      refine ⟨H2.set id (.cel 0 (flat cN (D'.set (m + 1) i))), D'.set (m + 1) i, w2, by unfold Sh.f61; simp only [GMb, GMc, hidx', hst], ⟨?_, by simp [hidl]⟩, ⟨by simp; exact hE2.len, fun j cs hj hc => ?_, fun j hj => ?_⟩, ⟨by simp [hI2.len], ?_, ?_⟩, fun j hj => ?_⟩
      ·rcases hV2.hv with h1 | ⟨t, h1, h2, h3⟩
       ·exact .inl h1
       ·refine .inr ⟨t, h1, h2, ?_⟩
        have : id ≠ t := fun e => by have := hV2.hd; rw [e, h3] at this; cases this
        rw [List.getElem?_set_ne this]; exact h3
      ·rw [List.getElem?_set_ne (fun e => hj e.symm)]; exact hE2.cel j cs hj hc
      ·rw [List.getElem?_set_ne (by omega)]; exact hE2.old j hj
      ·rw [List.countP_set hDl]
       have := hI2.cnt
       simp only [hD'e, hi0, decide_true, if_true, Nat.lt_irrefl, decide_false, Bool.false_eq_true, if_false, Nat.sub_zero]
       omega
      ·intro j dd hj hdd
       by_cases hjm : j = m + 1
       ·subst hjm
        rw [List.getElem?_set_self hDl] at hj
        injection hj with hj
        subst hj
        rw [hx, hv']
        rw [hp] at hagain
        exact hagain
       ·rw [List.getElem?_set_ne (fun e => hjm e.symm)] at hj
        rw [hr]
        exact VI.grow hI2.val j dd hj hdd
      ·rw [List.getElem?_set_ne (by omega)]; exact hDD j (by omega)
     have hnd := q06_find o tkk y Hc (by omega)
     simp only [GMb, GMc, D3 hcell, hnd]
     by_cases hf : BO o y = 0
     ·have hp : C5 o y = (o ++ [y], o.length + 1) := by simp [C5, hf]
      obtain ⟨w2, H2, ha, hV2, hE2⟩ := hVS'.app (Nat.le_trans hb hExt.len) y (by omega)
      obtain ⟨tk3, rfl⟩ := hV2.sl
      have h0 : ((BO o y : Nat) : Int) = 0 := by omega
      obtain ⟨H', D'', w'', q1, q2, q3, q4, q5⟩ := fin (o ++ [y]) (o.length + 1) _ H2 hp hV2 (hExt.trans hE2) hVI' (by simp) ⟨[y], rfl⟩
      refine ⟨H', D'', w'', ?_, by rw [hp]; exact q2, q3, by rw [hp]; exact q4, q5⟩
      rw [hp, ← q1]
      simp only [GMb, GMc, h0, EN, ha, A5, List.length_append, List.length_singleton]
     ·have hp : C5 o y = (o, BO o y) := by simp [C5, hf]
      have h0 : ¬ ((BO o y : Nat) : Int) = 0 := by omega
      obtain ⟨H', D'', w'', q1, q2, q3, q4, q5⟩ := fin o (BO o y) _ Hc hp hVS' hExt hVI' (by omega) ⟨[], by simp⟩
      refine ⟨H', D'', w'', ?_, by rw [hp]; exact q2, q3, by rw [hp]; exact q4, q5⟩
      rw [hp, ← q1]
      simp only [GMb, GMc, h0]
    ·obtain ⟨w', D', rfl, hVS', hcell, hExt, hVI', hDD⟩ := hI
     have hlv : 1 < x.lv := by
      by_cases h : 1 < x.lv
      ·exact h
      ·rw [if_neg h] at hk; omega
     rw [if_pos hlv] at hk
     obtain ⟨q1, q2, q3⟩ := l3 k hk
     have hk' : (k : Int) < 4 := by omega
     have hlvI := insK_lv (AN L (Az L) v) x k out
     have hkid := insK_kid (AN L (Az L) v) x k out k (Nat.le_refl _) hk
     obtain ⟨c, hc⟩ := Int.eq_ofNat_of_zero_le q1
     have hcle : c ≤ m := by
      by_cases h0 : 0 < x.kid k
      ·have := (q3 hlv h0).1; omega
      ·omega
     have hclv : c = 0 ∨ (A4 L (c : Int)).lv.toNat = v := by
      by_cases h0 : 0 < x.kid k
      ·right
       obtain ⟨c', rfl⟩ : ∃ c', c = c' + 1 := ⟨c - 1, by omega⟩
       have hcl : c' < L.length := by omega
       have := (q3 hlv h0).2 L[c'] (by rw [show (x.kid k - 1).toNat = c' from by omega]; exact List.getElem?_eq_getElem hcl)
       rw [Bb hcl]; omega
      ·left; omega
     obtain ⟨H1, D1, w1, r1, r2, r3, r4, r5⟩ := ih c d (B2 (AN L (Az L) v) x k out).1 D' w' Hc (by omega) hclv (by omega) hbi (Nat.lt_of_lt_of_le hid hExt.len) hVS' hVI'
     have hcell1 := r3.cel _ _ hpid hcell
     have hto : (x.kid k).toNat = c := by omega
     refine ⟨[.sl (enL cNd L) tk, .sl (enL cB (Az L)) tk2, .int .i64 ((m + 1 : Nat) : Int), w1, .ms id 0 0 (L.length + 1) (L.length + 1) 1 true, .ptr H.length 0 0, .int .i64 ((k + 1 : Nat) : Int)], H1.set H.length (.cel 0 (cNd ((B2 (AN L (Az L) v) x k out).2.setKid k ((AN L (Az L) v c (B2 (AN L (Az L) v) x k out).1).2 : Int)))), ⟨w1, D1, rfl, ?_, ?_, ?_, ?_, ?_⟩, fun rec => ?_⟩
     rotate_left 5
     ·unfold Sh.f4v
      simp only [AF, Al, GMb, GMc, hk', Ai, Nat.add_zero, Nat.zero_add, Hr hcell, hlvI, show x.lv > 1 from hlv, C0 hk, SE hcell hk, hkid, hc, r1, DI, Ff, extract_2, Cg hcell1 hk, Ar (show k < 9223372036854775807 by omega)]
     ·simp only [B2, hto]
      exact r2.put hcell1 hpid
     ·have hl1 := (List.getElem?_eq_some_iff.1 hcell1).1
      simp only [B2, hto]
      rw [List.getElem?_set_self hl1]
     ·refine ⟨by simp; exact (hExt.trans r3).len, fun i cs hi hcs => ?_, fun i hi => ?_⟩
      ·have := (List.getElem?_eq_some_iff.1 hcs).1
       rw [List.getElem?_set_ne (by omega)]; exact (hExt.trans r3).cel i cs hi hcs
      ·rw [List.getElem?_set_ne (by omega)]; exact (hExt.trans r3).old i hi
     ·simp only [B2, hto]; exact r4
     ·intro j hj; rw [r5 j (by omega)]; exact hDD j hj
end Go.Gm
namespace Go.Gm
theorem BR {H H0 : Aa} (h : ∀ i, i < H0.length → H[i]? = H0[i]?) : H.take H0.length = H0 := by
 apply List.ext_getElem?
 intro i
 by_cases hi : i < H0.length
 ·rw [List.getElem?_take_of_lt hi, h i hi]
 ·rw [List.getElem?_eq_none (by simp; omega), List.getElem?_eq_none (by omega)]
theorem Qr : ∀ (f : Nat) (L : List Nd) (n : Nat), AD L = true → n ≤ L.length → AD (Ca f L n).1 = true ∧ (Ca f L n).2 ≤ (Ca f L n).1.length ∧ (Ca f L n).1.length ≤ L.length + f
 | 0, L, n, hl, hn => ⟨hl, hn, Nat.le_refl _⟩
 | f + 1, L, n, hl, hn => by
  unfold Ca
  cases hh : DH L n with
  | false => exact ⟨hl, hn, by show L.length ≤ _; omega⟩
  | true =>
   obtain ⟨h0, h2⟩ := O2 hh
   obtain ⟨m, rfl⟩ : ∃ m, n = m + 1 := ⟨n - 1, by omega⟩
   rw [Bb hn] at h2
   obtain ⟨r1, r2, r3⟩ := Qr f (L ++ [DW L (m + 1)]) (L.length + 1) (O1 hl hn h2) (by simp)
   simp only [if_true]
   refine ⟨r1, r2, ?_⟩
   simp at r3; omega
theorem emp_pos {L : List Nd} {n : Nat} (h : (Az L).getD n true = false) : 0 < n := by
 cases n with
 | zero => rw [Fz] at h; cases h
 | succ n => omega
theorem lv_le {L : List Nd} (hl : AD L = true) {n : Nat} (h0 : 0 < n) (hn : n ≤ L.length) : (A4 L (n : Int)).lv.toNat ≤ 1329 := by
 obtain ⟨m, rfl⟩ : ∃ m, n = m + 1 := ⟨n - 1, by omega⟩
 rw [Bb hn]
 have := (A8 hl hn).2.1; omega
theorem Sr {L : List Nd} {n : Nat} (hl : AD L = true) (hn : n ≤ L.length) : AD (CU L n).1 = true ∧ (CU L n).2 ≤ (CU L n).1.length ∧ (CU L n).1.length ≤ L.length + 1329 := by
 unfold CU
 cases he : (Az L).getD n true with
 | true => exact ⟨hl, Nat.zero_le _, by show L.length ≤ _; omega⟩
 | false =>
  obtain ⟨r1, r2, r3⟩ := Qr (A4 L n).lv.toNat L n hl hn
  have := lv_le hl (emp_pos he) hn
  simp only [Bool.false_eq_true, if_false]
  exact ⟨r1, r2, by omega⟩
def Fk (L : List Nd) (n : Nat) : List Nd := (AN (CU L n).1 (Az (CU L n).1) (A4 (CU L n).1 ((CU L n).2 : Int)).lv.toNat (CU L n).2 []).1
def ofOk (L : List Nd) (n : Int) : Bool := AD L && decide (0 ≤ n) && decide (n ≤ L.length)
theorem q06_of (L : List Nd) (tk : Tok) (n : Int) (H : Aa) (hL : L.length < 3518437200000) : Sh.f1f (.sl (enL cNd L) tk) (.int .i64 n) H =
  some (.ret (if ofOk L n then .tup [My (Fk L n.toNat), .int .i64 0] else .tup [My [], .int .i64 1]), H) := by
 unfold Sh.f1f
 rw [alloc_eq (cs := [.sl [] .tight]) rfl]
 have hcell : ∀ G : Aa, (H ++ [Blk.cel 0 [.sl [] .tight]] ++ G)[H.length]? = some (.cel 0 [.sl [] .tight]) := fun G => by simp
 have bad : ∀ (k : Ab → Aa → Out), (∀ v G, k v G = (BM [Ad true 1 (.ptr H.length 0 0) G, some (.int .i64 1)]).bind fun x19 => rPN H x19 G) →
   ((Ay (some [(.sl [] .tight)]) []).bind fun x16 => bP H (Au (Af 1 (.ptr H.length 0 0) x16 (H ++ [.cel 0 [.sl [] .tight]]))) k) = some (.ret (.tup [My [], .int .i64 1]), H) := by
  intro k hk
  have hb : Ay (some [(.sl [] .tight)]) [] = some (.agg [.sl [] .tight]) := rfl
  simp only [GMb, GMc, hb, Fb, LR (sz := 1) (cs := [.sl [] .tight]) (vs := [.sl [] .tight]) (v := .agg [.sl [] .tight]) rfl rfl rfl, Option.map_some, hk, CL, QW, List.length_singleton, resM_eq, Om, Qu]
  simp only [DB, Fy, CS, D5, Me, GK, I0, NQ, Eo, GMb, GMc, Option.map_some]
  rfl
 simp only [GMb, GMc, S4 L tk _ (show L.length < 1152921504606846976 by omega)]
 unfold ofOk
 cases hl : AD L with
 | false =>
  simp only [GMb, GMc]
  exact bad _ fun v G => rfl
 | true =>
  simp only [GMb, GMc, A5]
  by_cases hn0 : n < 0
  ·have : ¬ 0 ≤ n := by omega
   simp only [GMb, GMc, hn0, this]
   exact bad _ fun v G => rfl
  ·have h0' : 0 ≤ n := by omega
   by_cases hn1 : n > L.length
   ·have : ¬ n ≤ L.length := by omega
    simp only [GMb, GMc, hn0, h0', hn1, this, A5]
    exact bad _ fun v G => rfl
   ·obtain ⟨n, rfl⟩ := Int.eq_ofNat_of_zero_le h0'
    have hle : n ≤ L.length := by omega
    have hle' : (n : Int) ≤ (L.length : Int) := by omega
    have hnn : ¬ (n : Int) > (L.length : Int) := hn1
    obtain ⟨s1, s2, s3⟩ := Sr hl hle
    simp only [GMb, GMc, hn0, h0', hnn, hle', A5, q06_shrink L tk n _ (show L.length < 3518437200000 by omega) hl hle, DI, Ff]
    unfold Fk
    simp only [Int.toNat_natCast]
    generalize CU L n = s at s1 s2 s3
    obtain ⟨M, r⟩ := s
    dsimp only at s1 s2 s3 ⊢
    have hmk := FX (f := cN) (a := 0) (n := M.length + 1) (bytes := 8) (H := H ++ [.cel 0 [.sl [] .tight]]) (by omega) (by omega)
    simp only [show cN 0 = [Ab.int .i64 0] from rfl] at hmk
    simp only [GMb, GMc, G5 M .no _ (show M.length < 140737488355327 by omega) s1, A5, Ar (show M.length < 9223372036854775807 by omega), hmk]
    have hlvv : (A4 M (r : Int)).lv.toNat < AC := by
     rw [Dk]
     by_cases hr : 0 < r
     ·have := lv_le s1 hr s2; omega
     ·obtain rfl : r = 0 := by omega
      unfold A4
      rw [List.getD_eq_getElem?_getD]
      by_cases hM : 0 < M.length
      ·rw [show (((0 : Nat) : Int) - 1).toNat = 0 from rfl, List.getElem?_eq_getElem hM]
       have := (A8 s1 hM).2.1
       simp only [Option.getD_some]; omega
      ·rw [show (((0 : Nat) : Int) - 1).toNat = 0 from rfl, List.getElem?_eq_none (by omega)]; simp
    obtain ⟨H', D', w', v1, v2, v3, v4, v5⟩ := q06_visit (L := M) .no .no (H ++ [Blk.cel 0 [.sl [] .tight]]).length (H ++ [Blk.cel 0 [.sl [] .tight]]).length (by omega) s1 (A4 M (r : Int)).lv.toNat r AC [] (List.replicate (M.length + 1) 0) (.sl [] .tight) (H ++ [.cel 0 [.sl [] .tight]] ++ [.cel 0 (flat cN (List.replicate (M.length + 1) 0))])
     s2 (.inr rfl) hlvv (Nat.le_refl _) (by simp) ⟨.inl ⟨rfl, rfl⟩, AG⟩ ⟨by simp, by simp, fun j dd hj hdd => by
      have := List.mem_of_getElem? hj
      rw [List.mem_replicate] at this; omega⟩
    have hold : ∀ i, i < H.length + 1 → H'[i]? = (H ++ [Blk.cel 0 [.sl [] .tight]])[i]? := fun i hi => by
     rw [v3.old i (by simpa using hi), List.getElem?_append_left (by simpa using hi)]
    have hc' : H'[H.length]? = some (.cel 0 [.sl [] .tight]) := by rw [hold _ (by omega)]; simp
    have hcl := (List.getElem?_eq_some_iff.1 hc').1
    obtain ⟨tk3, rfl⟩ := v2.sl
    generalize (AN M (Az M) (A4 M (r : Int)).lv.toNat r []).1 = Q at v1 v2 v4 ⊢
    have hb : Ay (some [(.sl [] .tight)]) [(0, 1, .sl (enL cNd Q) tk3)] = some (.agg [.sl (enL cNd Q) tk3]) := by simp [Ay, GJ, DR]
    have hst : Af 1 (.ptr H.length 0 0) (.agg [.sl (enL cNd Q) tk3]) H' = some (H'.set H.length (.cel 0 [.sl (enL cNd Q) tk3])) := by
     simp only [Af, Bc hc', Option.bind_some, Dg hc']; rfl
    have hld : Ad true 1 (.ptr H.length 0 0) (H'.set H.length (.cel 0 [.sl (enL cNd Q) tk3])) = some (.agg [.sl (enL cNd Q) tk3]) := by
     have : (H'.set H.length (.cel 0 [.sl (enL cNd Q) tk3]))[H.length]? = some (.cel 0 [.sl (enL cNd Q) tk3]) := by rw [List.getElem?_set_self hcl]
     simp only [Ad, Bc this, Option.bind_some]; rfl
    have htake : (H'.set H.length (.cel 0 [.sl (enL cNd Q) tk3])).take H.length = H := BR fun i hi => by
     rw [List.getElem?_set_ne (by omega), hold i (by omega), List.getElem?_append_left hi]
    simp only [GMb, GMc, v1, DI, hb, hst, hld, resM_eq, Om, Qu, Option.map_some, E5 htake, Fy, CS, D5, Me, GK, I0, NQ, Eo]
    rfl
end Go.Gm
namespace Go.Gm
theorem q01_cut (l : List Bool) (tk : Tok) (H : Aa) (hb : l.length < 1152921504606846976) : Sh.f15 (.sl (enL cB l) tk) H = some (.ret (.sl (enL cB (FQ l)) .no), H) := by
 unfold Sh.f15
 refine AM (σ := List Bool × Tok) (fun s => s.1.length < 1152921504606846976) (fun s => [.sl (enL cB s.1) s.2]) (fun _ => H) (fun s => s.1.length) (fun s => some (.ret (.sl (enL cB (FQ s.1)) .no), H)) (fun s rec hs hrec => ?_) (l, tk) hb hb
 obtain ⟨l, tk⟩ := s
 simp only at hs hrec ⊢
 unfold Sh.f6a
 rcases MV l with rfl | ⟨l', b, rfl⟩
 ·simp [cutL_nil]
 ·simp only [List.length_append, List.length_singleton] at hs hrec
  have h1 : l'.length < (l' ++ [b]).length := by simp
  have h2 : ((((l' ++ [b]).length : Nat) : Int) > 0) := by simp
  have h3 : IntKind.i64.wrap ((((l' ++ [b]).length : Nat) : Int) - 1) = (l'.length : Int) := by rw [A1] <;> simp <;> omega
  simp only [AF, A5, Option.bind_some, De, h2, decide_true, Ja, DL, h3, A2 h1, Aw, List.getElem?_cons_zero, Kc, Ci, List.getElem_append_right (Nat.le_refl _), Nat.sub_self, List.getElem_cons_zero]
  cases b with
  | true => simp [OQ]
  | false =>
   have := hrec (l', KC tk 0 l'.length (l' ++ [false]).length false) (by dsimp only; omega) (by simp)
   simp only [Bool.not_false, AU, slice_to (Nat.le_of_lt h1), Option.bind_some, List.take_left', this, Np]
theorem q01_bits (l : List Nat) (tk : Tok) (H : Aa) (hl : l.length ≤ 2199023255552) (hx : Lim l) : Sh.f16 (.sl (enL cU l) tk) H = some (.ret (.sl (enL cB (FQ (Bu l))) .no), H) := by
 unfold Sh.f16
 refine Ct l.length (fun i => [.sl (enL cU l) tk, Fs cB H (Bu (l.take i)), .int .i64 (i : Int)]) (fun i => Ev cB Ex 1 H (Bu (l.take i))) _ (by omega) (fun rec i hi => ?_) (fun rec => ?_)
 ·have hi' : (i : Int) < (l.length : Int) := by omega
  have hxi : l[i] < 4294967296 := hx _ (List.getElem_mem hi)
  have htk : Bu (l.take (i + 1)) = Bu (l.take i) ++ C6 32 l[i] := by
   rw [List.take_succ_eq_append_getElem hi, Bu, List.flatMap_append]; simp [Bu]
  have hlen : (Bu (l.take i)).length ≤ 32 * 2199023255552 := by rw [CP]; simp; omega
  unfold Sh.f3h
  simp only [AF, Df, Du, A5, Option.bind_some, Bd, hi', decide_true, AU, A2 hi, Aw, List.getElem?_cons_zero, htk]
  generalize Bu (l.take i) = o at hlen
  generalize l[i] = x at hxi
  refine AM (σ := Nat × Nat × List Bool) (fun s => s.1 ≤ 32 ∧ s.2.1 < 4294967296 ∧ s.2.2.length ≤ o.length + s.1) (fun s => [.sl (enL cU l) tk, Fs cB H s.2.2, .int .i64 (i : Int), .int .u32 (s.2.1 : Int), .int .i64 (s.1 : Int)]) (fun s => Ev cB Ex 1 H s.2.2) (fun s => 32 - s.1)
   (fun s => rec [.sl (enL cU l) tk, Fs cB H (s.2.2 ++ C6 (32 - s.1) s.2.1), .int .i64 ((i + 1 : Nat) : Int)] (Ev cB Ex 1 H (s.2.2 ++ C6 (32 - s.1) s.2.1))) (fun s rec2 hs hrec => ?_) (0, x, o) ⟨by dsimp only; omega, hxi, by dsimp only; omega⟩ (by dsimp only; omega)
  obtain ⟨k, y, p⟩ := s
  obtain ⟨hk, hy, hp⟩ := hs
  simp only at hk hy hp hrec ⊢
  unfold Sh.f5j
  by_cases h : k < 32
  ·have h' : (k : Int) < 32 := by omega
   have e1 : (y : Int).tmod 2 = ((y % 2 : Nat) : Int) := rfl
   have e2 : IntKind.u32.wrap ((y : Int).tdiv 2) = ((y / 2 : Nat) : Int) := by rw [show (y : Int).tdiv 2 = ((y / 2 : Nat) : Int) from rfl, C9] <;> omega
   have e3 : (((y % 2 : Nat) : Int) == 1) = (y % 2 == 1) := by rw [Bool.eq_iff_iff]; simp only [beq_iff_eq]; omega
   have e4 : IntKind.i64.wrap ((k : Int) + 1) = ((k + 1 : Nat) : Int) := by rw [A1] <;> omega
   have := hrec (k + 1, y / 2, p ++ [y % 2 == 1]) ⟨h, by dsimp only; omega, by simp; omega⟩ (by dsimp only; omega)
   simp only [AF, Df, Du, Gv, GV, Bd, h', decide_true, Option.bind_some, AU, FT (show (2 : Int) ≠ 0 by decide), GM (show (2 : Int) ≠ 0 by decide), e1, e2, DM, e3, build_B]
   rw [Fl (by simp) (by simp; omega) (by simp; omega)]
   simp only [CW, DP, BQ, Option.bind_some, e4, this]
   rw [show 32 - k = (32 - (k + 1)) + 1 from by omega, C6]; simp
  ·have : k = 32 := by omega
   subst this
   have e4 : IntKind.i64.wrap ((i : Int) + 1) = ((i + 1 : Nat) : Int) := by rw [A1] <;> omega
   simp [C6, e4]
 ·unfold Sh.f3h
  obtain ⟨G, hG⟩ := LY (f := cB) (ty := Ex) (sz := 1) H (Bu l)
  rw [List.take_of_length_le (Nat.le_refl _)]
  simp only [AF, Df, Du, G6, hG, A5, Option.bind_some, Bd, Int.lt_irrefl, decide_false, AL, q01_cut (Bu l) _ _ (by rw [CP]; omega), DP, DB, I3, Option.map_some]
end Go.Gm
namespace Go.Gm
theorem q01_of (l : List Bool) (tk : Tok) (H : Aa) (hl : l.length ≤ 70368744177664) : Sh.f2p (.sl (enL cB l) tk) H = some (.ret (.sl (enL cU (Ch (Dx l))) .no), H) := by
 unfold Sh.f2p
 have hcl := cutL_le l
 rw [q01_cut l tk H (by omega), ← limbsOf_eq, Iw]
 simp only [DP]
 generalize FQ l = c at hcl
 obtain ⟨n, hn⟩ : ∃ n, n = (c.length + 31) / 32 := ⟨_, rfl⟩
 rw [← hn]
 refine Ct n (fun q => [.sl (enL cB c) .no, Fs cU H (CX c q), .int .i64 ((32 * q : Nat) : Int)]) (fun q => Ev cU Ce 1 H (CX c q)) _ (by omega) (fun rec q hq => ?_) (fun rec => ?_)
 ·have hq' : ((32 * q : Nat) : Int) < (c.length : Int) := by omega
  unfold Sh.f5l
  simp only [AF, Df, Du, A5, Option.bind_some, Bd, hq', decide_true, AU]
  have hlo : (CX c q).length = q := Ly c q
  rw [Iv]
  generalize CX c q = o at hlo
  refine AM (σ := Nat) (fun j => j ≤ min 32 (c.length - 32 * q)) (fun j => [.sl (enL cB c) .no, Fs cU H o, .int .i64 ((32 * q : Nat) : Int), .int .u32 ((Dx ((c.drop (32 * q)).take j) : Nat) : Int), .int .u32 (IntKind.u32.wrap ((2 : Int) ^ j)), .int .i64 ((32 * q + j : Nat) : Int)]) (fun _ => Ev cU Ce 1 H o) (fun j => 32 - j)
   (fun _ => rec [.sl (enL cB c) .no, Fs cU H (o ++ [EA c q]), .int .i64 ((32 * (q + 1) : Nat) : Int)] (Ev cU Ce 1 H (o ++ [EA c q]))) (fun j rec2 hj hrec => ?_) 0 (by omega) (by omega)
  unfold Sh.f6b
  have hw : IntKind.i64.wrap (((32 * q : Nat) : Int) + 32) = ((32 * (q + 1) : Nat) : Int) := by rw [A1] <;> omega
  by_cases h : j < min 32 (c.length - 32 * q)
  ·have h1 : ((32 * q + j : Nat) : Int) < (c.length : Int) := by omega
   have h1' : 32 * q + j < c.length := by omega
   have h2 : ((32 * q + j : Nat) : Int) < ((32 * (q + 1) : Nat) : Int) := by omega
   have hw2 : IntKind.i64.wrap (((32 * q + j : Nat) : Int) + 1) = ((32 * q + (j + 1) : Nat) : Int) := by rw [A1] <;> omega
   have htake : (c.drop (32 * q)).take (j + 1) = (c.drop (32 * q)).take j ++ [c[32 * q + j]] := by
    rw [List.take_succ_eq_append_getElem (by simp; omega)]; simp
   have hlen : ((c.drop (32 * q)).take j).length = j := by simp; omega
   have hnat : Dx ((c.drop (32 * q)).take (j + 1)) = Dx ((c.drop (32 * q)).take j) + (if c[32 * q + j] then 2 ^ j else 0) := by
    rw [htake, Ft, hlen]; simp only [Dx]; split <;> simp
   have hlt1 := nat1_lt ((c.drop (32 * q)).take j)
   rw [hlen] at hlt1
   have hp : (2 : Nat) ^ j * 2 ≤ 2 ^ 32 := by rw [← Nat.pow_succ]; exact Nat.pow_le_pow_right (by omega) (by omega)
   have hpw : IntKind.u32.wrap ((2 : Int) ^ j) = ((2 ^ j : Nat) : Int) := by
    rw [show ((2 : Int) ^ j) = ((2 ^ j : Nat) : Int) from by simp, C9] <;> omega
   have hadd : IntKind.u32.wrap (((Dx ((c.drop (32 * q)).take j) : Nat) : Int) + ((2 ^ j : Nat) : Int)) = ((Dx ((c.drop (32 * q)).take j) + 2 ^ j : Nat) : Int) := by rw [C9] <;> omega
   have hmul : IntKind.u32.wrap (((2 ^ j : Nat) : Int) * 2) = IntKind.u32.wrap ((2 : Int) ^ (j + 1)) := by rw [Int.pow_succ]; simp
   have := hrec (j + 1) (by omega) (by omega)
   rw [hnat] at this
   simp only [AF, Df, Du, Gv, GV, MG, A5, Option.bind_some, Bd, h1, decide_true, Ja, BQ, hw, h2, Ci, AU, AJ, A2 h1', Aw, List.getElem?_cons_zero, hpw]
   cases hb : c[32 * q + j] with
   | true =>
    rw [hb] at this
    simp only [AU, BQ, hadd, Option.bind_some, AF, Df, Du, Gv, GV, MG, Sh.f5k, FU, hmul, hw2]
    simpa using this
   | false =>
    rw [hb] at this
    simp only [AL, AF, Df, Du, Gv, GV, MG, Sh.f5k, FU, BQ, hmul, hw2, Option.bind_some]
    simpa using this
  ·have hj' : j = min 32 (c.length - 32 * q) := by omega
   have hx : Dx ((c.drop (32 * q)).take j) = EA c q := by
    unfold EA
    by_cases h : j = 32
    ·rw [h]
    ·rw [List.take_of_length_le (by simp; omega), List.take_of_length_le (by simp; omega)]
   have tail : ((A9 1 [.int .u32 ((EA c q : Nat) : Int)]).bind fun x40 => bP H (B4 (AA Ce 1 4 (Fs cU H o) x40 (Ev cU Ce 1 H o))) fun x41 H42 => (Ae .none .add (.int .i64 ((32 * q : Nat) : Int)) (.int .i64 32)).bind fun x43 => rec [.sl (enL cB c) .no, x41, x43] H42)
     = rec [.sl (enL cB c) .no, Fs cU H (o ++ [EA c q]), .int .i64 ((32 * (q + 1) : Nat) : Int)] (Ev cU Ce 1 H (o ++ [EA c q])) := by
    rw [build_U]
    simp only [Option.bind_some]
    rw [Fl (by simp) (by simp; omega) (by simp; omega)]
    simp only [CW, DP, BQ, Option.bind_some, hw]
   rw [hx]
   by_cases h1 : ((32 * q + j : Nat) : Int) < (c.length : Int)
   ·have h2 : ¬ ((32 * q + j : Nat) : Int) < ((32 * (q + 1) : Nat) : Int) := by omega
    simp only [AF, Df, Du, Gv, GV, MG, A5, Option.bind_some, Bd, h1, decide_true, Ja, BQ, hw, h2, decide_false, Ci, AL]
    simpa only [BQ, hw, Option.bind_some] using tail
   ·simp only [AF, Df, Du, Gv, GV, MG, A5, Option.bind_some, Bd, h1, decide_false, Pr, Cw, AL]
    exact tail
 ·have hq' : ¬ ((32 * n : Nat) : Int) < (c.length : Int) := by omega
  obtain ⟨G, hG⟩ := LY (f := cU) (ty := Ce) (sz := 1) H (CX c n)
  unfold Sh.f5l
  simp only [AF, Df, Du, G6, hG, A5, Option.bind_some, Bd, hq', decide_false, AL, DB, I3, Option.map_some]
theorem Q2 (l : List Nat) (tk : Tok) (H : Aa) (hl : l.length ≤ 1099511627776) (hx : Lim l) : Sh.fa (.sl (enL cU l) tk) H = some (.ret (.sl (enL cU (Ch (val l))) .no), H) := by
 have hc := cutL_le (Bu l)
 rw [CP] at hc
 unfold Sh.fa
 rw [q01_bits l tk H (by omega) hx]
 simp only [FC]
 rw [q01_of _ _ _ (by omega)]
 simp only [FC, KI, SP, QL, val_bits l hx]
end Go.Gm
namespace Go.Gm
end Go.Gm
namespace Go.Gm
def Ef (z : Int) : List Ab := [.bool (decide (z < 0)), .sl (enL cU (Ch z.natAbs)) .no]
def big (z : Int) : Ab := .agg (Ef z)
def LB (z : Int) : Prop := (Ch z.natAbs).length ≤ 549755813888
theorem Ti (z : Int) : (Ef z).all Ab.isScal = true := by simp [Ef]
@[simp] theorem bigC_g0 (z : Int) (h : 0 < (Ef z).length) : (Ef z)[0] = .bool (decide (z < 0)) := (rfl)
@[simp] theorem bigC_g1 (z : Int) (h : 1 < (Ef z).length) : (Ef z)[1] = .sl (enL cU (Ch z.natAbs)) .no := (rfl)
@[simp] theorem bigC_0 (z : Int) : (Ef z)[0]? = some (.bool (decide (z < 0))) := (rfl)
@[simp] theorem bigC_1 (z : Int) : (Ef z)[1]? = some (.sl (enL cU (Ch z.natAbs)) .no) := (rfl)
@[simp] theorem big_acells (z : Int) : (big z).acells = some (Ef z) := Fm (Ti z)
theorem big_sgn (neg : Bool) (n : Nat) : [Ab.bool (sgn neg n), .sl (enL cU (Ch n)) .no] = Ef (if neg then -(n : Int) else n) := by
 unfold Ef
 have e1 : sgn neg n = decide ((if neg then -(n : Int) else (n : Int)) < 0) := by
  unfold sgn
  cases neg with
  | false => simp
  | true =>
   by_cases h : n = 0
   ·subst h; rfl
   ·have : (-(n : Int)) < 0 := by omega
    simp [h, this]; omega
 have e2 : (if neg then -(n : Int) else (n : Int)).natAbs = n := by cases neg <;> simp
 rw [e1, e2]
theorem limsLen_pos (n : Nat) : (decide (((Ch n).length : Int) > 0)) = decide (n ≠ 0) := by
 by_cases h : n = 0
 ·subst h; rw [Hs]; rfl
 ·have := List.length_pos_iff.2 (lims_ne h)
  have h1 : ((Ch n).length : Int) > 0 := by omega
  rw [decide_eq_true h1, decide_eq_true h]
@[simp] theorem fcells_big {H : Aa} {n d : Nat} {z : Int} : Ee H n (d + 2) (Ef z) = some (Ef z) := by simp [Ef]
@[simp] theorem fall_big {H : Aa} {n d : Nat} {z : Int} : FA H n (d + 3) (big z) = some (big z) := by simp [big]
@[simp] theorem fpart_big {H : Aa} {n d : Nat} {z : Int} : EG H n (d + 3) (big z) = some (big z) := by simp [big]
@[simp] theorem forget_big {z : Int} : forget (big z) = big z := by simp [big, Ef]
@[simp] theorem bigC_length (z : Int) : (Ef z).length = 2 := (rfl)
@[simp] theorem agg_bigC (z : Int) : Ab.agg (Ef z) = big z := (rfl)
@[simp] theorem putN_big (cs : List Ab) (z : Int) (h : cs.length = 2) : DR cs 0 2 (Ef z) = Ef z := KJ h
theorem boxBig (z : Int) (H : Aa) : BP true 2 (big z) H = some (.ptr H.length 0 0, H ++ [.cel 0 (Ef z)]) := DK (Ti z) rfl
theorem q02_sign (neg : Bool) (l : List Nat) (tk : Tok) (H : Aa) (hl : l.length ≤ 1099511627776) (hx : Lim l) : Sh.f17 (.bool neg) (.sl (enL cU l) tk) H = some (.ret (big (if neg then -(val l : Int) else val l)), H) := by
 unfold Sh.f17 big
 rw [← big_sgn]
 have hp := limsLen_pos (val l)
 cases neg with
 | false => simp [Q2 _ _ _ hl hx, Ay, GJ, DR, sgn, Fm]
 | true =>
  simp only [Ja, Ci, Option.bind_some, A5, De, hp, sgn, Bool.true_and, alloc_eq (cs := [.bool false, .sl [] .tight]) rfl, B9, Q2 _ _ _ hl hx, DP]
  simp [Ay, GJ, DR, Fm]
theorem q02_minus (neg : Bool) (l : List Nat) (tk : Tok) (H : Aa) (hl : l.length ≤ 1099511627776) (hx : Lim l) : Sh.f2w (.agg [.bool neg, .sl (enL cU l) tk]) H = some (.ret (big (-(Gt neg l))), H) := by
 have ez : (if neg = false then -(val l : Int) else (val l : Int)) = -(Gt neg l) := by cases neg <;> simp [Gt]
 unfold Sh.f2w
 simp [DK, q02_sign _ l tk _ hl hx, ez]
theorem bigI_of (z : Int) : Gt (decide (z < 0)) (Ch z.natAbs) = z := by
 unfold Gt
 rw [Ew]
 by_cases h : z < 0
 ·simp [h]; omega
 ·simp [h]; omega
theorem Nr (z : Int) : big z = .agg [.bool (decide (z < 0)), .sl (enL cU (Ch z.natAbs)) .no] := rfl
theorem LB.neg {a : Int} (h : LB a) : LB (-a) := by unfold LB at *; rwa [Int.natAbs_neg]
theorem LB.of {a : Int} {k : Nat} (h : a.natAbs < 4294967296 ^ k) (hk : k ≤ 549755813888) : LB a := Nat.le_trans (lims_len h) hk
end Go.Gm
namespace Go.Gm
theorem Oh {n : Int} (h0 : -18446744073709551616 ≤ n) (h : n < 0) : IntKind.u64.wrap n = n + 18446744073709551616 := by
 have h1 : IntKind.u64.bits = 64 := rfl
 have h2 : IntKind.u64.signed = false := rfl
 unfold IntKind.wrap
 simp only [h1, h2, Bool.false_and, Bool.false_eq_true, if_false]
 omega
theorem build_2U (x y : Nat) : A9 1 [.int .u32 (x : Int), .int .u32 (y : Int)] = some (.sl (enL cU [x, y]) .tight) := by simp [A9, Ck, MC, Bx, Ab.acells, enL]
theorem q02_of (n : Int) (H : Aa) (h0 : -9223372036854775808 ≤ n) (h1 : n ≤ 9223372036854775807) : Sh.fq (.int .i64 n) H = some (.ret (big n), H) := by
 obtain ⟨u, hu⟩ : ∃ u : Nat, u = n.natAbs := ⟨_, rfl⟩
 have hlim : Lim [u % 4294967296, u / 4294967296] := fun x hx => by
  simp at hx
  rcases hx with rfl | rfl <;> omega
 have hval : val [u % 4294967296, u / 4294967296] = u := by simp [val]; omega
 have ez : (if decide (n < 0) = true then -(u : Int) else (u : Int)) = n := by
  by_cases h : n < 0 <;> simp [h] <;> omega
 have a1 := fun H => q02_sign (decide (n < 0)) [u % 4294967296, u / 4294967296] .tight H (by simp) hlim
 simp only [hval, ez] at a1
 have e1 : ((u : Int).tmod 4294967296) = ((u % 4294967296 : Nat) : Int) := rfl
 have e2 : IntKind.u64.wrap ((u : Int).tdiv 4294967296) = ((u / 4294967296 : Nat) : Int) := by rw [show (u : Int).tdiv 4294967296 = ((u / 4294967296 : Nat) : Int) from rfl, BB] <;> omega
 have e3 : IntKind.u32.wrap ((u % 4294967296 : Nat) : Int) = ((u % 4294967296 : Nat) : Int) := by rw [C9] <;> omega
 have e4 : IntKind.u32.wrap ((u / 4294967296 : Nat) : Int) = ((u / 4294967296 : Nat) : Int) := by rw [C9] <;> omega
 have j1 : Sh.f5m H (.int .i64 n) (.ptr H.length 0 0) (.int .u64 (u : Int)) (H ++ [.cel 0 [.bool false, .sl [] .tight]]) = some (.ret (big n), H) := by
  unfold Sh.f5m
  simp only [Bd, Option.bind_some, FT (show (4294967296 : Int) ≠ 0 by decide), GM (show (4294967296 : Int) ≠ 0 by decide), e1, e2, Bj, e3, e4, build_2U, a1, DP]
  simp
 unfold Sh.fq
 simp only [alloc_eq (cs := [.bool false, .sl [] .tight]) rfl, B9, Bj, Option.bind_some, AJ, Bd, AF, Df, Du]
 by_cases h : n < 0
 ·have w : IntKind.u64.wrap (0 - IntKind.u64.wrap n) = (u : Int) := by
   rw [Oh (n := n) (by omega) h, Oh (by omega) (by omega)]; omega
  have un : unA .neg (.int .u64 (IntKind.u64.wrap n)) = some (.int .u64 (u : Int)) := by
   rw [show unA .neg (.int .u64 (IntKind.u64.wrap n)) = some (.int .u64 (IntKind.u64.wrap (0 - IntKind.u64.wrap n))) from rfl, w]
  rw [decide_eq_true h]
  simp only [AU, un, Option.bind_some, AF, Df, Du]
  exact j1
 ·have w : IntKind.u64.wrap n = (u : Int) := by rw [BB (by omega) (by omega)]; omega
  rw [decide_eq_false h]
  simp only [AL, w, AF, Df, Du]
  exact j1
def FE (z : Int) : Bool := decide (-9223372036854775808 ≤ z ∧ z ≤ 9223372036854775807)
def RY (z : Int) : Int := if FE z then z else 0
theorem val_drop (l : List Nat) (i : Nat) (h : i < l.length) : val (l.drop i) = l[i] + 4294967296 * val (l.drop (i + 1)) := by
 rw [List.drop_eq_getElem_cons h, val]
theorem val_drop_le (l : List Nat) (i : Nat) : 4294967296 ^ i * val (l.drop i) ≤ val l := by
 induction l generalizing i with
 | nil => simp [val]
 | cons a l ih =>
  cases i with
  | zero => simp
  | succ i => have := ih i; simp only [List.drop_succ_cons, val, Nat.pow_succ]; rw [Nat.mul_comm (4294967296 ^ i) 4294967296, Nat.mul_assoc]; omega
theorem wrap_neg {u : Nat} (h : u ≤ 9223372036854775808) : IntKind.i64.wrap (IntKind.u64.wrap (0 - (u : Int))) = -(u : Int) := by
 have h1 : IntKind.i64.bits = 64 := rfl
 have h2 : IntKind.i64.signed = true := rfl
 by_cases h0 : u = 0
 ·subst h0; decide
 ·rw [Oh (by omega) (by omega)]
  unfold IntKind.wrap
  simp only [h1, h2, Bool.true_and, decide_eq_true_eq]
  split <;> omega
theorem q02_int (neg : Bool) (l : List Nat) (tk : Tok) (H : Aa) (hl : l.length ≤ 549755813888) (hx : Lim l) : Sh.f1c (.agg [.bool neg, .sl (enL cU l) tk]) H = some (.ret (.tup [.int .i64 (RY (Gt neg l)), .bool (FE (Gt neg l))]), H) := by
 unfold Sh.f1c
 have hw : IntKind.i64.wrap ((l.length : Int) - 1) = (l.length : Int) - 1 := by rw [A1] <;> omega
 simp only [DK (cs := [.bool neg, .sl (enL cU l) tk]) (sz := 2) rfl rfl, B9, Ai, Option.bind_some, CL, FY, Nat.zero_add, List.getElem?_cons_succ, List.getElem?_cons_zero, A5, DL, hw]
 refine AM (σ := Nat) (fun i => i ≤ l.length ∧ val (l.drop i) < 18446744073709551616) (fun i => [.ptr H.length 0 0, .int .u64 ((val (l.drop i) : Nat) : Int), .int .i64 ((i : Int) - 1)]) (fun _ => H ++ [.cel 0 [.bool neg, .sl (enL cU l) tk]]) (fun i => i)
  (fun _ => some (.ret (.tup [.int .i64 (RY (Gt neg l)), .bool (FE (Gt neg l))]), H)) (fun i rec hi hrec => ?_) l.length ⟨Nat.le_refl _, by simp [val]⟩ (by omega) |> fun h => by simpa [val] using h
 obtain ⟨hi, hv⟩ := hi
 unfold Sh.f6e
 cases i with
 | zero =>
  simp only [List.drop_zero] at hv ⊢
  have hneg : ¬ (((0 : Nat) : Int) - 1 ≥ 0) := by omega
  have un : unA .neg (.int .u64 ((val l : Nat) : Int)) = some (.int .u64 (IntKind.u64.wrap (0 - ((val l : Nat) : Int)))) := rfl
  simp only [AF, Df, Du, GN, hneg, decide_false, Option.bind_some, AL, Ai, CL, FY, Nat.zero_add, List.getElem?_cons_zero]
  cases neg with
  | true =>
   by_cases h : val l ≤ 9223372036854775808
   ·have h' : ((val l : Nat) : Int) ≤ 9223372036854775808 := by omega
    have hok : FE (Gt true l) = true := by simp [FE, Gt]; omega
    have hwn := wrap_neg h
    rw [Int.zero_sub] at hwn
    simp [h', un, Bj, hwn, RY, hok]
    simp [Gt]
   ·have h' : ¬ ((val l : Nat) : Int) ≤ 9223372036854775808 := by omega
    have hok : FE (Gt true l) = false := by simp [FE, Gt]; omega
    simp [h', RY, hok]
  | false =>
   by_cases h : val l ≤ 9223372036854775807
   ·have h' : ¬ ((val l : Nat) : Int) > 9223372036854775807 := by omega
    have hok : FE (Gt false l) = true := by simp [FE, Gt]; omega
    have hw : IntKind.i64.wrap ((val l : Nat) : Int) = ((val l : Nat) : Int) := by rw [A1] <;> omega
    simp [h', Bj, hw, RY, hok]
    simp [Gt]
   ·have h' : ((val l : Nat) : Int) > 9223372036854775807 := by omega
    have hok : FE (Gt false l) = false := by simp [FE, Gt]; omega
    simp [h', RY, hok]
 | succ i =>
  have e : ((i + 1 : Nat) : Int) - 1 = (i : Int) := by omega
  have hge : (i : Int) ≥ 0 := by omega
  have hil : i < l.length := by omega
  have hxi : l[i] < 4294967296 := hx _ (List.getElem_mem hil)
  have hd := val_drop l i hil
  have hle := val_drop_le l (i + 1)
  simp only [AF, Df, Du, e, GN, hge, decide_true, Option.bind_some, AU, De]
  by_cases h : val (l.drop (i + 1)) ≤ 4294967295
  ·have h' : ¬ ((val (l.drop (i + 1)) : Nat) : Int) > 4294967295 := by omega
   have w1 : IntKind.u64.wrap (((val (l.drop (i + 1)) : Nat) : Int) * 4294967296) = ((val (l.drop (i + 1)) : Nat) : Int) * 4294967296 := by rw [BB] <;> omega
   have w2 : IntKind.u64.wrap (((l[i] : Nat) : Int)) = ((l[i] : Nat) : Int) := by rw [BB] <;> omega
   have w3 : IntKind.u64.wrap (((val (l.drop (i + 1)) : Nat) : Int) * 4294967296 + ((l[i] : Nat) : Int)) = ((val (l.drop i) : Nat) : Int) := by rw [BB, hd] <;> omega
   have w4 : IntKind.i64.wrap ((i : Int) - 1) = (i : Int) - 1 := by rw [A1] <;> omega
   simp only [h', decide_false, AL, FU, w1, Ai, Option.bind_some, CL, FY, Nat.zero_add, List.getElem?_cons_succ, List.getElem?_cons_zero, A2 hil, Aw, Bj, w2, BQ, w3, DL, w4]
   exact hrec i ⟨by omega, by omega⟩ (by omega)
  ·have h' : ((val (l.drop (i + 1)) : Nat) : Int) > 4294967295 := by omega
   have hbig : 18446744073709551616 ≤ val l := by
    have : 4294967296 ^ 1 * 4294967296 ≤ 4294967296 ^ (i + 1) * val (l.drop (i + 1)) := Nat.mul_le_mul (Nat.pow_le_pow_right (by omega) (by omega)) (by omega)
    omega
   have hok : FE (Gt neg l) = false := by cases neg <;> simp [FE, Gt] <;> omega
   simp [h', RY, hok]
theorem q02_intZ (z : Int) (H : Aa) (h : LB z) : Sh.f1c (big z) H = some (.ret (.tup [.int .i64 (RY z), .bool (FE z)]), H) := by
 rw [Nr, q02_int _ _ _ _ h (Lz _), bigI_of]
end Go.Gm
namespace Go.Gm
structure Cl where
 x : Int
 y : Int
 s : UInt8
deriving DecidableEq
def cCl (c : Cl) : List Ab := [.bool (decide (c.x < 0)), .sl (enL cU (Ch c.x.natAbs)) .no, .bool (decide (c.y < 0)), .sl (enL cU (Ch c.y.natAbs)) .no, .int .u8 (c.s.toNat : Int)]
instance : Sz cCl 5 := ⟨fun _ => rfl⟩
instance : Pl cCl := ⟨fun _ => rfl⟩
def cBig (z : Int) : List Ab := Ef z
instance : Sz cBig 2 := ⟨fun _ => rfl⟩
instance : Pl cBig := ⟨fun _ => rfl⟩
def SB (k : Nat) (z : Int) : Prop := z.natAbs < 4294967296 ^ k
theorem SB.mono {k m : Nat} {z : Int} (h : SB k z) (hm : k ≤ m) : SB m z := Nat.lt_of_lt_of_le h (pow_le32 hm)
theorem SB.add {k : Nat} {a b : Int} (ha : SB k a) (hb : SB k b) : SB (k + 1) (a + b) := by
 unfold SB at *
 have : 4294967296 ^ (k + 1) = 4294967296 ^ k * 4294967296 := Nat.pow_succ _ _
 omega
theorem SB.neg {k : Nat} {a : Int} (ha : SB k a) : SB k (-a) := by unfold SB at *; rwa [Int.natAbs_neg]
theorem SB.sub {k : Nat} {a b : Int} (ha : SB k a) (hb : SB k b) : SB (k + 1) (a - b) := by rw [Int.sub_eq_add_neg]; exact ha.add hb.neg
def Cl.ok (c : Cl) : Prop := SB 100 c.x ∧ SB 100 c.y
section
variable {H G : Aa} {p : Nat} {c : Cl} {z : Int}
theorem store_bigP {cs : List Ab} (hg : H[p]? = some (.cel 0 cs)) (hl : cs.length = 2) : Af 2 (.ptr p 0 0) (big z) H = some (H.set p (.cel 0 (Ef z))) := by
 simp only [Af, Bc hg, Option.bind_some, big_acells, Dg hg, KJ hl]
 rw [if_pos ⟨rfl, by omega⟩]
theorem B3 {i : Nat} {x : Blk} (h : H[i]? = some x) : (H ++ G)[i]? = some x := by
 have := (List.getElem?_eq_some_iff.1 h).1
 rw [List.getElem?_append_left this]; exact h

end
end Go.Gm
namespace Go.Gm
theorem elems_sl {α : Type} {f : α → List Ab} {l : List α} {tk : Tok} {sz : Nat} {H : Aa} [hf : Sz f sz] : BZ sz (.sl (enL f l) tk) H = some (enL f l) := by
 simp [BZ, all_enL]
end Go.Gm
namespace Go.Gm
end Go.Gm
namespace Go.Gm
def PS (b : Nat) (out : List Nd) (v : Ab) (H : Aa) : Prop := (out = [] ∧ v = .sl [] .tight) ∨ ∃ t, b ≤ t ∧ v = .sl (enL cNd out) (.own t) ∧ H[t]? = some (.tok out.length At 5)
structure Kp (b : Nat) (H H' : Aa) : Prop where
 len : H.length ≤ H'.length
 cel : ∀ (i : Nat) (cs : List Ab), H[i]? = some (.cel 0 cs) → H'[i]? = some (.cel 0 cs)
 old : ∀ i, i < b → H'[i]? = H[i]?
theorem Kp.refl (b : Nat) (H : Aa) : Kp b H H := ⟨Nat.le_refl _, fun _ _ h => h, fun _ _ => rfl⟩
theorem Kp.trans {b : Nat} {H H1 H2 : Aa} (h : Kp b H H1) (h' : Kp b H1 H2) : Kp b H H2 :=
 ⟨Nat.le_trans h.len h'.len, fun i cs hc => h'.cel i cs (h.cel i cs hc), fun i hi => (h'.old i hi).trans (h.old i hi)⟩
theorem Kp.app {b : Nat} {H : Aa} (hb : b ≤ H.length) (G : Aa) : Kp b H (H ++ G) :=
 ⟨by simp, fun i cs h => B3 h, fun i hi => by rw [List.getElem?_append_left (by omega)]⟩
theorem PS.sl {b : Nat} {out : List Nd} {v : Ab} {H : Aa} (h : PS b out v H) : ∃ tk, v = .sl (enL cNd out) tk := by
 rcases h with ⟨rfl, rfl⟩ | ⟨t, _, rfl, _⟩
 ·exact ⟨_, rfl⟩
 ·exact ⟨_, rfl⟩
theorem PS.left {b : Nat} {out : List Nd} {v : Ab} {H : Aa} (h : PS b out v H) (G : Aa) : PS b out v (H ++ G) := by
 rcases h with h1 | ⟨t, h1, h2, h3⟩
 ·exact .inl h1
 ·exact .inr ⟨t, h1, h2, B3 h3⟩
theorem PS.put {b p : Nat} {out : List Nd} {v : Ab} {H : Aa} {c c' : List Ab} (h : PS b out v H) (hp : H[p]? = some (.cel 0 c)) : PS b out v (H.set p (.cel 0 c')) := by
 rcases h with h1 | ⟨t, h1, h2, h3⟩
 ·exact .inl h1
 ·refine .inr ⟨t, h1, h2, ?_⟩
  have : p ≠ t := fun e => by rw [← e, hp] at h3; cases h3
  rw [List.getElem?_set_ne this]; exact h3
theorem PS.snoc {b : Nat} {out : List Nd} {v : Ab} {H : Aa} (h : PS b out v H) (hb : b ≤ H.length) (x : Nd) (hl : out.length < 3518437208883) :
  ∃ v' H', AA At 5 40 v (.sl (enL cNd [x]) .tight) H = some (v', H') ∧ PS b (out ++ [x]) v' H' ∧ Kp b H H' := by
 rcases h with ⟨rfl, rfl⟩ | ⟨t, h1, rfl, h3⟩
 ·have := CD (f := cNd) (l := []) (m := [x]) (ty := At) (bytes := 40) (tk := .tight) (H := H) (by simp) (by simp) (by simp)
  exact ⟨_, _, this, .inr ⟨H.length, hb, rfl, by simp⟩, Kp.app hb _⟩
 ·have := Eg (f := cNd) (l := out) (m := [x]) (ty := At) (bytes := 40) (tk := .tight) (H := H) (t := t) (by simp) h3 (by simp; omega) (by simp; omega)
  have htl := (List.getElem?_eq_some_iff.1 h3).1
  refine ⟨_, _, this, .inr ⟨t, h1, rfl, by simp [htl]⟩, ⟨by simp, fun i cs hc => ?_, fun i hi => ?_⟩⟩
  ·have : t ≠ i := fun e => by rw [← e, h3] at hc; cases hc
   rw [List.getElem?_set_ne this]; exact hc
  ·rw [List.getElem?_set_ne (by omega)]
def TOPk (k : Nat) : Nat := 2 ^ k
def TOP : Nat := TOPk 1400
def Cn (v : Nat) (z : Int) : Prop := z.natAbs + 2 ^ v ≤ TOP
theorem abs_pow2 (v : Nat) : ((2 : Int) ^ v).natAbs = 2 ^ v := by rw [Int.natAbs_pow]; rfl
theorem Cn.add {v : Nat} {z : Int} (h : Cn (v + 1) z) : Cn v (z + 2 ^ v) ∧ Cn v z := by
 unfold Cn at *
 have e : (2 : Nat) ^ (v + 1) = 2 ^ v * 2 := Nat.pow_succ _ _
 have h1 := Int.natAbs_add_le z (2 ^ v)
 rw [abs_pow2] at h1
 omega
end Go.Gm
namespace Go.Gm
section
variable {Hc : Aa} {a c : List Ab} {z : Int}
theorem st1 (hc : c.length = 2) : Af 2 (.ptr (Hc.length + 1) 0 0) (big z) (Hc ++ [Blk.cel 0 a] ++ [Blk.cel 0 c]) = some (Hc ++ [Blk.cel 0 a] ++ [Blk.cel 0 (Ef z)]) := by
 rw [store_bigP (cs := c) (by simp) hc]; simp

end
end Go.Gm
namespace Go.Gm
end Go.Gm
namespace Go.Gm
end Go.Gm
namespace Go.Gm
structure RC where
 n1 : Bool
 l1 : List Nat
 n2 : Bool
 l2 : List Nat
 s : UInt8
def cRC (r : RC) : List Ab := [.bool r.n1, .sl (enL cU r.l1) .no, .bool r.n2, .sl (enL cU r.l2) .no, .int .u8 (r.s.toNat : Int)]
instance : Sz cRC 5 := ⟨fun _ => rfl⟩
end Go.Gm
namespace Go.Gm
end Go.Gm
namespace Go.Gm
def MI (c : UInt8) : Bool := decide (33 ≤ c.toNat ∧ c.toNat ≤ 126)
theorem Q1 (c : UInt8) (H : Aa) : Sh.f11 (.int .u8 (c.toNat : Int)) H = some (.ret (.bool (MI c)), H) := by
 unfold Sh.f11 MI
 by_cases h : (33 : Int) ≤ c.toNat
 ·have : 33 ≤ c.toNat := by omega
  simp [h, this]; omega
 ·have : ¬ 33 ≤ c.toNat := by omega
  simp [h, this]
def IY (s : List UInt8) : Bool := s.all MI && decide (1 ≤ s.length ∧ s.length ≤ 40)
theorem q04_rule (s : List UInt8) (H : Aa) (hs : s.length < 1152921504606846976) : Sh.f2l (.str s) H = some (.ret (.bool (IY s)), H) := by
 unfold Sh.f2l
 refine AM (σ := Nat) (fun i => i ≤ s.length ∧ (s.take i).all MI = true) (fun i => [.str s, .int .i64 (i : Int)]) (fun _ => H) (fun i => s.length - i) (fun _ => some (.ret (.bool (IY s)), H)) (fun i rec hi hrec => ?_) 0 ⟨by omega, by simp⟩ (by omega)
 obtain ⟨hi, hall⟩ := hi
 unfold Sh.f69
 by_cases h : i < s.length
 ·have hx : (i : Int) < (s.length : Int) := by omega
  simp only [AF, Df, Cu, Option.bind_some, Bd, hx, decide_true, AU, AK h, Q1, FC, Kc]
  cases hc : MI s[i] with
  | false =>
   have : IY s = false := by
    simp only [IY, Bool.and_eq_false_iff]; left
    rw [List.all_eq_false]; exact ⟨s[i], List.getElem_mem h, by simp [hc]⟩
   simp [this]
  | true =>
   have := hrec (i + 1) ⟨h, by rw [List.take_succ_eq_append_getElem h, List.all_append]; simp [hall, hc]⟩ (by omega)
   simp (disch := omega) [A1]
   simpa using this
 ·have hx : ¬ (i : Int) < (s.length : Int) := by omega
  have he : s.take i = s := List.take_of_length_le (by omega)
  rw [he] at hall
  by_cases h1 : (1 : Int) ≤ s.length
  ·simp [hx, h1, IY, hall]
   by_cases h2 : s.length ≤ 40
   ·have : (s.length : Int) ≤ 40 := by omega
    simp [this, h2]; omega
   ·have : ¬ (s.length : Int) ≤ 40 := by omega
    simp [this, h2]
  ·have : s = [] := List.eq_nil_of_length_eq_zero (by omega)
   subst this
   have hz : i = 0 := by simpa using hi
   subst hz; simp [IY]
end Go.Gm
namespace Go.Gm
def RC.lim (r : RC) : Prop := Lim r.l1 ∧ Lim r.l2
def Q7 (rule : List UInt8) (L : List Nd) : List Ab := [.str rule, .sl (enL cNd L) .no]
def pat (rule : List UInt8) (L : List Nd) : Ab := .agg (Q7 rule L)
theorem boxPat (rule : List UInt8) (L : List Nd) (H : Aa) : BP true 2 (pat rule L) H = some (.ptr H.length 0 0, H ++ [.cel 0 (Q7 rule L)]) := DK rfl rfl
section
variable {H : Aa} {p : Nat} {rule : List UInt8} {L : List Nd}
theorem QX (hg : H[p]? = some (.cel 0 (Q7 rule L))) : Ad false 1 (.ptr p 0 0) H = some (.str rule) := by
 simp only [Ad, Bc hg, Option.bind_some]; rfl
theorem QY (hg : H[p]? = some (.cel 0 (Q7 rule L))) : Ad true 1 (.ptr p 0 1) H = some (My L) := by
 simp only [Ad, Bc hg, Option.bind_some]; rfl
theorem load_patP (hg : H[p]? = some (.cel 0 (Q7 rule L))) : Ad true 2 (.ptr p 0 0) H = some (pat rule L) := by
 simp only [Ad, Bc hg, Option.bind_some]; rfl

end
theorem q11_right (rule : List UInt8) (L : List Nd) (H : Aa) (hr : rule.length < 1152921504606846976) (hL : L.length < 17592186044415) : Sh.f13 (pat rule L) H = some (.ret (.bool (IY rule && E7 L)), H) := by
 unfold Sh.f13
 have e1 : (H ++ [Blk.cel 0 (Q7 rule L)])[H.length]? = some (.cel 0 (Q7 rule L)) := AG
 simp only [GMb, GMc, boxPat, Ai, Nat.zero_add, Nat.add_zero, QX e1, q04_rule rule _ hr]
 cases IY rule with
 | false => simp only [GMb, GMc, FJ]
 | true => simp only [GMb, GMc, Ai, Nat.zero_add, QY e1, My, Di, q05_right L .no _ hL, FJ]
def NO (a b : Int) : Bool := decide (0 ≤ a) && decide (a ≤ 1000) && decide (0 ≤ b) && decide (b ≤ 100000)
theorem q11_fine (a b : Int) (H : Aa) : Sh.f2t (.agg [.int .i64 a, .int .i64 b]) H = some (.ret (.bool (NO a b)), H) := by
 unfold Sh.f2t NO
 have e1 : (H ++ [Blk.cel 0 [.int .i64 a, .int .i64 b]])[H.length]? = some (.cel 0 [.int .i64 a, .int .i64 b]) := AG
 have g1 : Ad false 1 (.ptr H.length 0 0) (H ++ [Blk.cel 0 [.int .i64 a, .int .i64 b]]) = some (.int .i64 a) := by simp only [Ad, Bc e1, Option.bind_some]; rfl
 have g2 : Ad false 1 (.ptr H.length 0 1) (H ++ [Blk.cel 0 [.int .i64 a, .int .i64 b]]) = some (.int .i64 b) := by simp only [Ad, Bc e1, Option.bind_some]; rfl
 simp only [GMb, GMc, DK (sz := 2) (cs := [Ab.int .i64 a, .int .i64 b]) rfl rfl, Ai, Nat.zero_add, Nat.add_zero, g1, ge_iff_le]
 cases decide (0 ≤ a) with
 | false => simp only [GMb, GMc, FJ]
 | true =>
  simp only [GMb, GMc, Ai, Nat.zero_add, Nat.add_zero, g1]
  cases decide (a ≤ 1000) with
  | false => simp only [GMb, GMc, FJ]
  | true =>
   simp only [GMb, GMc, Ai, Nat.zero_add, g2, ge_iff_le]
   cases decide (0 ≤ b) with
   | false => simp only [GMb, GMc, FJ]
   | true => simp only [GMb, GMc, Ai, Nat.zero_add, g2, FJ]
end Go.Gm
namespace Go.Gm
inductive QT where
 | nil
 | leaf (a b c d : Int)
 | node (a b c d : QT)
deriving DecidableEq
def semF (L : List Nd) (E : List Bool) : Nat → Nat → QT
 | 0, _ => .nil
 | v + 1, n =>
  if E.getD n true then .nil
  else if 1 < (A4 L n).lv then .node (semF L E v (A4 L n).k0.toNat) (semF L E v (A4 L n).k1.toNat) (semF L E v (A4 L n).k2.toNat) (semF L E v (A4 L n).k3.toNat)
  else .leaf (A4 L n).k0 (A4 L n).k1 (A4 L n).k2 (A4 L n).k3
abbrev sem (L : List Nd) (v n : Nat) : QT := semF L (Az L) v n
def St (a : Int) : Prop := 0 ≤ a ∧ a ≤ 255
def RJ : Nat → QT → Prop
 | _, .nil => True
 | v, .leaf a b c d => v = 1 ∧ (St a ∧ St b ∧ St c ∧ St d) ∧ ¬ (a = 0 ∧ b = 0 ∧ c = 0 ∧ d = 0)
 | v, .node a b c d => 2 ≤ v ∧ v ≤ 1329 ∧ (RJ (v - 1) a ∧ RJ (v - 1) b ∧ RJ (v - 1) c ∧ RJ (v - 1) d) ∧ ¬ (a = .nil ∧ b = .nil ∧ c = .nil ∧ d = .nil)
def Lv (L : List Nd) (v n : Nat) : Prop := n ≤ L.length ∧ (n = 0 ∨ (A4 L n).lv.toNat = v)
theorem Lv.kid {L : List Nd} (hl : AD L = true) {v n k : Nat} (h0 : 0 < n) (h : Lv L (v + 1) n) (h1 : 1 < (A4 L n).lv) (hk : k < 4) : Lv L v ((A4 L n).kid k).toNat ∧ ((A4 L n).kid k).toNat < n ∧ 0 ≤ (A4 L n).kid k := by
 obtain ⟨m, rfl⟩ : ∃ m, n = m + 1 := ⟨n - 1, by omega⟩
 have hm : m < L.length := h.1
 obtain ⟨l1, l2, l3⟩ := A8 hl hm
 have hx : A4 L ((m + 1 : Nat) : Int) = L[m] := Bb hm
 have hv := h.2
 rw [hx] at h1 hv ⊢
 obtain ⟨q1, q2, q3⟩ := l3 k hk
 by_cases hc : 0 < L[m].kid k
 ·obtain ⟨r1, r2⟩ := q3 h1 hc
  obtain ⟨c, hcc⟩ : ∃ c : Nat, L[m].kid k = ((c + 1 : Nat) : Int) := ⟨(L[m].kid k - 1).toNat, by omega⟩
  have hcl : c < L.length := by omega
  have := r2 L[c] (by rw [show (L[m].kid k - 1).toNat = c from by omega]; exact List.getElem?_eq_getElem hcl)
  rw [hcc, show (((c + 1 : Nat) : Int)).toNat = c + 1 from by omega]
  refine ⟨⟨by omega, .inr ?_⟩, by omega, by omega⟩
  rw [Bb hcl]; omega
 ·rw [show (L[m].kid k).toNat = 0 from by omega]
  exact ⟨⟨Nat.zero_le _, .inl rfl⟩, by omega, q1⟩
theorem emp_iff {L : List Nd} (hl : AD L = true) {n : Nat} (h0 : 0 < n) (hn : n ≤ L.length) : (Az L).getD n true = (List.range 4).all fun k => decide ((A4 L n).kid k = 0) || (decide (1 < (A4 L n).lv) && (Az L).getD ((A4 L n).kid k).toNat true) := by
 obtain ⟨m, rfl⟩ : ∃ m, n = m + 1 := ⟨n - 1, by omega⟩
 have hm : m < L.length := hn
 have hpre : ∀ (r l : List Nd), ∃ s, Az (l ++ r) = Az l ++ s := by
  intro r
  induction r with
  | nil => intro l; exact ⟨[], by simp⟩
  | cons x r ih =>
   intro l
   obtain ⟨s, hs⟩ := ih (l ++ [x])
   exact ⟨[No (Az l) x] ++ s, by rw [show l ++ x :: r = l ++ [x] ++ r from by simp, hs, Hx]; simp⟩
 have hL : L = L.take m ++ [L[m]] ++ L.drop (m + 1) := by
  rw [← List.take_succ_eq_append_getElem hm, List.take_append_drop]
 obtain ⟨s, hs⟩ := hpre (L.drop (m + 1)) (L.take m ++ [L[m]])
 rw [← hL, Hx] at hs
 have hlen : (Az (L.take m)).length = m + 1 := by rw [C4]; simp; omega
 have hat : (Az L).getD (m + 1) true = No (Az (L.take m)) L[m] := by
  rw [hs, List.getD_eq_getElem?_getD, List.getElem?_append_left (by simp [hlen]), List.getElem?_append_right (by omega), hlen]; simp
 rw [hat, Bb hm]
 obtain ⟨l1, l2, l3⟩ := A8 hl hm
 unfold No
 have hk : ∀ k, k < 4 → (decide (1 < L[m].lv) && (Az (L.take m)).getD (L[m].kid k).toNat true) = (decide (1 < L[m].lv) && (Az L).getD (L[m].kid k).toNat true) := by
  intro k hk
  obtain ⟨q1, q2, q3⟩ := l3 k hk
  by_cases h1 : 1 < L[m].lv
  ·have hlt : (L[m].kid k).toNat < m + 1 := by
    by_cases hc : 0 < L[m].kid k
    ·have := (q3 h1 hc).1; omega
    ·omega
   congr 1
   rw [hs, List.append_assoc, List.getD_eq_getElem?_getD, List.getD_eq_getElem?_getD, List.getElem?_append_left (by omega)]
  ·simp [h1]
 rw [MX, MX, hk 0 (by omega), hk 1 (by omega), hk 2 (by omega), hk 3 (by omega)]
end Go.Gm
namespace Go.Gm
structure Clean (out : List Nd) : Prop where
 lo : AD out = true
 nd : out.Nodup
 ne : ∀ n, 0 < n → n ≤ out.length → (Az out).getD n true = false
theorem Clean.nil : Clean [] := ⟨rfl, List.nodup_nil, fun n h1 h2 => by simp at h2; omega⟩
theorem empL_pre : ∀ (r l : List Nd), ∃ s, Az (l ++ r) = Az l ++ s := by
 intro r
 induction r with
 | nil => intro l; exact ⟨[], by simp⟩
 | cons x r ih =>
  intro l
  obtain ⟨s, hs⟩ := ih (l ++ [x])
  exact ⟨[No (Az l) x] ++ s, by rw [show l ++ x :: r = l ++ [x] ++ r from by simp, hs, Hx]; simp⟩
theorem empL_old {l r : List Nd} {n : Nat} (h : n ≤ l.length) : (Az (l ++ r)).getD n true = (Az l).getD n true := by
 obtain ⟨s, hs⟩ := empL_pre r l
 rw [hs, List.getD_eq_getElem?_getD, List.getD_eq_getElem?_getD, List.getElem?_append_left (by rw [C4]; omega)]
theorem ndAt_old {l r : List Nd} {n : Nat} (h0 : 0 < n) (h : n ≤ l.length) : A4 (l ++ r) (n : Int) = A4 l (n : Int) := by
 obtain ⟨m, rfl⟩ : ∃ m, n = m + 1 := ⟨n - 1, by omega⟩
 rw [Bb (show m < (l ++ r).length by simp; omega), Bb (show m < l.length by omega), List.getElem_append_left (by omega)]
theorem N1 {l r : List Nd} (hl : AD l = true) : ∀ v n, Lv l v n → sem (l ++ r) v n = sem l v n
 | 0, n, h => rfl
 | v + 1, n, h => by
  unfold sem
  simp only [semF, empL_old h.1]
  split
  ·rfl
  ·rename_i he
   have h0 : 0 < n := emp_pos (by simpa using he)
   rw [ndAt_old h0 h.1]
   split
   ·rename_i h1
    have e : ∀ k, k < 4 → sem (l ++ r) v ((A4 l n).kid k).toNat = sem l v ((A4 l n).kid k).toNat := fun k hk => N1 hl v _ (Lv.kid hl h0 h h1 hk).1
    have e0 := e 0 (by omega)
    have e1 := e 1 (by omega)
    have e2 := e 2 (by omega)
    have e3 := e 3 (by omega)
    simp only [Nd.kid, sem] at e0 e1 e2 e3
    rw [e0, e1, e2, e3]
   ·rfl
theorem Lv.old {l r : List Nd} {v n : Nat} (h : Lv l v n) : Lv (l ++ r) v n := by
 refine ⟨by have := h.1; simp; omega, ?_⟩
 rcases h.2 with h0 | h0
 ·exact .inl h0
 ·by_cases hn : 0 < n
  ·exact .inr (by rw [ndAt_old hn h.1]; exact h0)
  ·exact .inl (by omega)
structure Fit (o : List Nd) (x : Nd) (v : Nat) (t : QT) : Prop where
 lv : x.lv = (v : Int)
 v1 : 1 ≤ v ∧ v ≤ 1329
 kid : (1 < v ∧ t = .node (sem o (v - 1) x.k0.toNat) (sem o (v - 1) x.k1.toNat) (sem o (v - 1) x.k2.toNat) (sem o (v - 1) x.k3.toNat) ∧ ∀ k, k < 4 → 0 ≤ x.kid k ∧ Lv o (v - 1) (x.kid k).toNat) ∨ (v = 1 ∧ t = .leaf x.k0 x.k1 x.k2 x.k3 ∧ ∀ k, k < 4 → St (x.kid k))
 ne : ∃ k, k < 4 ∧ x.kid k ≠ 0
theorem Fit.old {o r : List Nd} (hc : Clean o) {x : Nd} {v : Nat} {t : QT} (h : Fit o x v t) : Fit (o ++ r) x v t := by
 refine ⟨h.lv, h.v1, ?_, h.ne⟩
 rcases h.kid with ⟨h1, h3, h2⟩ | ⟨h1, h3, h2⟩
 ·left
  refine ⟨h1, ?_, fun k hk => ⟨(h2 k hk).1, (h2 k hk).2.old⟩⟩
  have e0 := N1 (r := r) hc.lo _ _ (h2 0 (by omega)).2
  have e1 := N1 (r := r) hc.lo _ _ (h2 1 (by omega)).2
  have e2 := N1 (r := r) hc.lo _ _ (h2 2 (by omega)).2
  have e3 := N1 (r := r) hc.lo _ _ (h2 3 (by omega)).2
  simp only [Nd.kid] at e0 e1 e2 e3
  rw [e0, e1, e2, e3]; exact h3
 ·exact .inr ⟨h1, h3, h2⟩
end Go.Gm
