/- Texts of this proof, joined. -/
import Derived.Test.YtagddbecnkbcdaaGreatJ3
import Derived.Test.YtagddbecnkbcdaaGreatJ4
import Derived.Test.YtagddbecnkbcdaaGreatJ5
import Derived.Lib.Bytealg
import Derived.Lib.ItoaNum
import Derived.Lib.Repeat
import Derived.Lib.Join
import Derived.Lib.TrimByte
import Derived.Laws.RangeAny
import Derived.Laws.RangeString
set_option linter.unusedVariables false
set_option linter.unusedSimpArgs false
namespace Go.Gm
open Go.Proofs
set_option maxRecDepth 100000
noncomputable def DY:Orc:=A8
theorem DU:T2 Tryz.prog Gs false DY Tryz.f139 (.tw .lf (.tw (.tw .lf (.one (.loop [0,1,7,8] (.tw .lf (.tw (.tw .lf .lf) (.tw (.one (.tw .lf (.tw .lf (.tw (.tw .lf .lf) .lf)))) .lf)))))) (.tw .lf .lf))) .keep Sh.fg:=by unfold T2;intros;kernel_rfl
theorem Ch:AF Tryz.prog Gs 139 (ap2 Sh.fg):=Bd mixed ((Af Il ((Af Sn (As _ _))))) Tryz.func139 (by kernel_rfl) DU
noncomputable def Dx:Orc:=(ent 139 (ap2 Sh.fg) noO)
theorem Du:T2 Tryz.prog Gs false Dx Tryz.f83 (.tw .lf (.tw .lf .lf)) .keep Sh.f2h:=by unfold T2;intros;kernel_rfl
theorem Dp:AF Tryz.prog Gs 83 (ap2 Sh.f2h):=Bd mixed ((Af Ch (As _ _))) Tryz.func83 (by kernel_rfl) Du
noncomputable def EN:Orc:=noO
theorem EF:T1 Tryz.prog Gs true EN Tryz.f141 (.tw .lf (.tw (.tw .lf (.tw (.tw .lf .lf) .lf)) (.tw .lf .lf))) .keep Sh.f2i:=by unfold T1;intros;kernel_rfl
theorem E9:AF Tryz.prog Gs 141 (ap1 Sh.f2i):=Bc mixed (As _ _) Tryz.func141 (by kernel_rfl) EF
noncomputable def Eo:Orc:=noO
theorem En:T1 Tryz.prog Gs false Eo Tryz.f142 (.tw .lf (.one (.loop [0,2,3] (.tw (.tw .lf (.tw .lf .lf)) (.tw (.one (.reg [0,1,4,5,6,7,8,9,10,11,12,13,2,3,14,15])) .lf))))) .keep Sh.f15:=by unfold T1;intros;kernel_rfl
theorem Eh:AF Tryz.prog Gs 142 (ap1 Sh.f15):=Bc mixed (As _ _) Tryz.func142 (by kernel_rfl) En
noncomputable def orc_big_Cmp:Orc:=(ent 156 (ap2 Sh.fk) noO)
theorem tie_big_Cmp:T2 Tryz.prog Gs false orc_big_Cmp Tryz.f199 (.tw .lf (.tw (.one (.tw .lf (.tw (.tw .lf .lf) (.tw .lf (.tw (.tw .lf .lf) (.tw .lf (.tw (.tw .lf .lf) .lf))))))) (.tw .lf .lf))) .pure Sh.f1n:=by unfold T2;intros;kernel_rfl
theorem call_big_Cmp:AF Tryz.prog Gs 199 (ap2 Sh.f1n):=Bd mixed ((Af I3 (As _ _))) Tryz.func199 (by kernel_rfl) tie_big_Cmp
noncomputable def RY:Orc:=noO
theorem RK:T1 Tryz.prog Gs false RY Tryz.f198 (.tw .lf (.tw .lf (.tw (.tw .lf (.one (.loop [3,6,7,8] (.tw .lf (.tw (.tw .lf .lf) (.tw (.one (.tw .lf (.tw .lf (.tw (.tw .lf .lf) .lf)))) .lf)))))) (.tw .lf .lf)))) .keep Sh.f2j:=by unfold T1;intros;kernel_rfl
theorem Rg:AF Tryz.prog Gs 198 (ap1 Sh.f2j):=Bc mixed (As _ _) Tryz.func198 (by kernel_rfl) RK
noncomputable def RZ:Orc:=(ent 199 (ap2 Sh.f1n) (ent 198 (ap1 Sh.f2j) noO))
theorem RM:T2 Tryz.prog Gs false RZ Tryz.f144 (.tw .lf (.tw (.reg [0,1,2,3,4,5,6,7,8,9,10,11,12]) .lf)) .pure Sh.f16:=by unfold T2;intros;kernel_rfl
theorem G7:AF Tryz.prog Gs 144 (ap2 Sh.f16):=Bd mixed ((Af call_big_Cmp ((Af Rg (As _ _))))) Tryz.func144 (by kernel_rfl) RM
noncomputable def DX:Orc:=A4
theorem DT:T4 Tryz.prog Gs false DX Tryz.f227 (.tw .lf (.one (.loop [0,1,2,3,8] (.tw (.tw .lf (.tw .lf .lf)) (.tw (.one (.tw .lf (.one (.loop [0,1,2,3,8,9] (.tw (.tw (.reg [0,1,2,3,4,5,6,7,8,9,10,11,12,13,14,15,16]) (.tw .lf .lf)) (.tw (.one (.reg [0,1,5,6,7,8,9,10,11,12,13,14,15,2,3,4,16,17])) .lf)))))) .lf))))) .keep Sh.fp:=by unfold T4;intros;kernel_rfl
theorem DN:AF Tryz.prog Gs 227 (ap4 Sh.fp):=fn_ok4 mixed ((Af G7 (As _ _))) Tryz.func227 (by kernel_rfl) DT
noncomputable def EL:Orc:=noO
theorem ED:T5 Tryz.prog Gs false EL Tryz.f240 (.tw .lf (.one (.loop [0,1,2,3,10] (.tw (.tw .lf (.tw .lf .lf)) (.tw (.one (.reg [0,1,2,3,8,9,10,11,12,13,14,15,16,17,18,19,20,21,4,5,6,7,22,23])) .lf))))) .keep Sh.f17:=by unfold T5;intros;kernel_rfl
theorem E7:AF Tryz.prog Gs 240 (ap5 Sh.f17):=fn_ok5 mixed (As _ _) Tryz.func240 (by kernel_rfl) ED
noncomputable def F7:Orc:=(ent 240 (ap5 Sh.f17) noO)
theorem F1:T5 Tryz.prog Gs false F7 Tryz.f236 (.tw .lf (.tw .lf (.tw (.one (.loop [0,2,4,10,11] (.tw (.tw .lf (.tw .lf .lf)) (.one (.tw .lf (.tw (.tw .lf .lf) (.tw .lf .lf))))))) .lf))) .keep Sh.f2k:=by unfold T5;intros;kernel_rfl
theorem Fo:AF Tryz.prog Gs 236 (ap5 Sh.f2k):=fn_ok5 mixed ((Af E7 (As _ _))) Tryz.func236 (by kernel_rfl) F1
noncomputable def EX (m:Nat):Orc:=AV (Sh.f3 m)
theorem EV (m:Nat):T5 Tryz.prog Gs false (EX m) Tryz.f228 (.tw (.tw .lf (.tw (.tw .lf (.tw .lf (.tw (.one (.loop [0,1,4,10,11] (.tw (.tw .lf (.tw .lf .lf)) (.one (.tw .lf (.tw (.reg [0,1,2,3,4,5,6,7,8,9,10]) (.tw .lf .lf))))))) (.tw (.tw .lf (.one (.loop [0,10,13] (.tw (.tw .lf (.tw .lf .lf)) (.tw (.one (.reg [0,1,5,6,7,8,9,10,11,12,13,14,15,2,3,4,16,17])) .lf))))) .lf)))) .lf)) (.tw (.tw .lf (.tw (.tw .lf (.tw .lf (.tw (.one (.loop [0,2,4,14,15] (.tw (.tw .lf (.tw .lf .lf)) (.one (.tw .lf (.tw (.reg [0,1,2,3,4,5,6,7,8,9,10,11]) (.tw .lf .lf))))))) (.tw (.tw .lf (.one (.loop [0,14,17] (.tw (.tw .lf (.tw .lf .lf)) (.tw (.one (.reg [0,1,5,6,7,8,9,10,11,12,13,14,15,2,3,4,16,17])) .lf))))) .lf)))) .lf)) (.tw .lf (.tw .lf (.tw .lf (.join [0,1,2,3,4,18,19,20,21] (.tw .lf (.tw (.tw .lf .lf) (.tw .lf .lf))) (.tw .lf (.tw (.one (.loop [0,1,2,3,4,18,19,20,21,22] (.tw (.tw .lf (.tw .lf .lf)) (.one (.tw .lf (.tw (.reg [0,1,2,3,4,5,6,7,8,9,10,11,12,13]) (.tw .lf .lf))))))) (.tw .lf (.join [0,1,3,4,18,20,24] (.tw .lf (.tw .lf .lf)) (.join [0,3,4,18,24] (.tw .lf (.tw .lf .lf)) (.tw .lf (.tw .lf .lf))))))))))))) .keep (Sh.f3 (m+1)):=by unfold T5;intros;kernel_rfl
theorem C4:∀m,AF Tryz.prog Gs 228 (ap5 (Sh.f3 m))
 | 0=>none_ok5 fun _ _ _ _ _ _=>rfl
 | m+1=>fn_ok5 mixed (Af (C4 m) ((Af G7 ((Af Fo (As _ _)))))) Tryz.func228 (by kernel_rfl) (EV m)
noncomputable def F6:Orc:=(ent 227 (ap4 Sh.fp) (ent 228 (ap5 (Sh.f3 AM)) noO))
theorem F0:T3 Tryz.prog Gs false F6 Tryz.f197 (.tw .lf (.tw .lf (.tw (.one (.loop [0,1,2,6,7,8] (.tw (.tw .lf (.tw .lf .lf)) (.one (.tw .lf (.tw .lf .lf)))))) (.tw .lf (.one (.loop [0,1,2,6] (.tw (.tw .lf (.tw .lf .lf)) (.one (.tw .lf (.tw (.one (.loop [0,1,2,6,7,8] (.tw (.tw .lf (.tw .lf .lf)) (.one (.tw .lf (.tw .lf .lf)))))) (.join [0,1,2,6] (.tw .lf (.tw .lf (.tw .lf .lf))) .lf))))))))))) .keep Sh.f18:=by unfold T3;intros;kernel_rfl
theorem Fm:AF Tryz.prog Gs 197 (ap3 Sh.f18):=FV mixed ((Af DN ((Af (C4 AM) (As _ _))))) Tryz.func197 (by kernel_rfl) F0
noncomputable def Dl:Orc:=(ent 197 (ap3 Sh.f18) noO)
theorem Dj:T2 Tryz.prog Gs false Dl Tryz.f143 .lf .keep Sh.f19:=by unfold T2;intros;kernel_rfl
theorem Dc:AF Tryz.prog Gs 143 (ap2 Sh.f19):=Bd mixed ((Af Fm (As _ _))) Tryz.func143 (by kernel_rfl) Dj
noncomputable def Qx:Orc:=(ent 144 (ap2 Sh.f16) noO)
theorem Qg:T2 Tryz.prog Gs false Qx Tryz.f146 (.tw .lf (.tw .lf .lf)) .pure Sh.f45:=by unfold T2;intros;kernel_rfl
theorem PV:AF Tryz.prog Gs 146 (ap2 Sh.f45):=Bd mixed ((Af G7 (As _ _))) Tryz.func146 (by kernel_rfl) Qg
noncomputable def DA:Orc:=AA
theorem D8:T2 Tryz.prog Gs false DA Tryz.f145 (.tw .lf (.tw (.tw .lf (.tw (.tw .lf .lf) .lf)) (.tw (.tw .lf (.one (.loop [0,1,5] (.tw (.tw .lf (.tw .lf .lf)) (.tw (.one (.tw (.reg [0,1,2,3,4,5,6,7,8,9,10]) (.tw (.tw .lf (.tw (.tw .lf (.one (.loop [0,1,5,6,7] (.tw (.tw .lf (.tw .lf .lf)) (.join [0,1,5,6,7] (.one (.tw (.reg [0,1,2,3,4,5,6,7,8,9,10,11]) (.tw (.tw .lf .lf) .lf))) .lf))))) (.tw .lf (.tw .lf .lf)))) .lf))) .lf))))) (.tw .lf .lf)))) .keepN Sh.f1a:=by unfold T2;intros;kernel_rfl
theorem D5:AF Tryz.prog Gs 145 (ap2 Sh.f1a):=Bd mixed ((Af PV (As _ _))) Tryz.func145 (by kernel_rfl) D8
noncomputable def DF:Orc:=AU
theorem DD:T2 Tryz.prog Gs false DF Tryz.f147 (.tw .lf (.tw .lf (.tw (.tw .lf (.tw (.tw .lf .lf) .lf)) (.tw (.tw .lf (.one (.loop [0,1,5,6] (.tw (.tw .lf (.tw .lf .lf)) (.join [0,1,5,6] (.one (.tw .lf (.tw .lf (.tw (.tw .lf .lf) .lf)))) .lf))))) (.tw .lf (.tw .lf .lf)))))) .keepN Sh.f1b:=by unfold T2;intros;kernel_rfl
theorem DB:AF Tryz.prog Gs 147 (ap2 Sh.f1b):=Bd mixed ((Af Ch ((Af Il (As _ _))))) Tryz.func147 (by kernel_rfl) DD
noncomputable def TH:Orc:=(ent 141 (ap1 Sh.f2i) (ent 142 (ap1 Sh.f15) (ent 143 (ap2 Sh.f19) (ent 145 (ap2 Sh.f1a) (ent 147 (ap2 Sh.f1b) noO)))))
theorem Ta:T1 Tryz.prog Gs false TH Tryz.f86 (.tw .lf (.tw .lf (.tw .lf (.tw .lf (.tw .lf (.tw .lf .lf)))))) .pureN Sh.f2r:=by unfold T1;intros;kernel_rfl
theorem Sm:AF Tryz.prog Gs 86 (ap1 Sh.f2r):=Bc mixed ((Af E9 ((Af Eh ((Af Dc ((Af D5 ((Af DB (As _ _))))))))))) Tryz.func86 (by kernel_rfl) Ta
noncomputable def TK:Orc:=noO
theorem Td:T2 Tryz.prog Gs false TK Tryz.f153 (.tw .lf (.tw .lf .lf)) .pureN Sh.f6:=by unfold T2;intros;kernel_rfl
theorem Fx:AF Tryz.prog Gs 153 (ap2 Sh.f6):=Bd mixed (As _ _) Tryz.func153 (by kernel_rfl) Td
noncomputable def Ve:Orc:=(ent 153 (ap2 Sh.f6) noO)
theorem UV:T1 Tryz.prog Gs false Ve Tryz.f150 (.tw .lf (.tw .lf .lf)) .pureN Sh.f1c:=by unfold T1;intros;kernel_rfl
theorem ML:AF Tryz.prog Gs 150 (ap1 Sh.f1c):=Bc mixed ((Af Fx (As _ _))) Tryz.func150 (by kernel_rfl) UV
noncomputable def FK:Orc:=noO
theorem FI:T1 Tryz.prog Gs true FK Tryz.f206 (.tw .lf (.tw (.tw .lf (.tw (.tw .lf .lf) .lf)) (.tw .lf .lf))) .keep Sh.f1d:=by unfold T1;intros;kernel_rfl
theorem CP:AF Tryz.prog Gs 206 (ap1 Sh.f1d):=Bc mixed (As _ _) Tryz.func206 (by kernel_rfl) FI
noncomputable def Vb:Orc:=(ent 206 (ap1 Sh.f1d) (ent 201 (ap1 Sh.f0) noO))
theorem US:T1 Tryz.prog Gs false Vb Tryz.f200 (.tw .lf (.tw .lf .lf)) .pureN Sh.f2s:=by unfold T1;intros;kernel_rfl
theorem U7:AF Tryz.prog Gs 200 (ap1 Sh.f2s):=Bc mixed ((Af CP ((Af Dm (As _ _))))) Tryz.func200 (by kernel_rfl) US
noncomputable def orc_big_Of:Orc:=(ent 200 (ap1 Sh.f2s) (ent 153 (ap2 Sh.f6) noO))
theorem tie_big_Of:T1 Tryz.prog Gs false orc_big_Of Tryz.f151 (.tw .lf (.tw .lf (.join [0,2,3] (.tw .lf (.tw .lf .lf)) (.tw .lf .lf)))) .pureN Sh.f1p:=by unfold T1;intros;kernel_rfl
theorem call_big_Of:AF Tryz.prog Gs 151 (ap1 Sh.f1p):=Bc mixed ((Af U7 ((Af Fx (As _ _))))) Tryz.func151 (by kernel_rfl) tie_big_Of
noncomputable def NV:Orc:=noO
theorem ND:T3 Tryz.prog Gs false NV Tryz.f204 (.tw .lf (.tw .lf (.tw .lf (.tw .lf .lf)))) .keep Sh.f2t:=by unfold T3;intros;kernel_rfl
theorem MD:AF Tryz.prog Gs 204 (ap3 Sh.f2t):=FV mixed (As _ _) Tryz.func204 (by kernel_rfl) ND
noncomputable def orc_limb_Add:Orc:=(ent 204 (ap3 Sh.f2t) (ent 201 (ap1 Sh.f0) noO))
theorem tie_limb_Add:T2 Tryz.prog Gs false orc_limb_Add Tryz.f155 (.tw .lf (.join [0,1] (.tw .lf (.tw .lf .lf)) (.tw .lf (.tw .lf (.tw (.tw .lf (.one (.loop [0,1,5,6,21,22,23] (.tw .lf (.tw (.tw .lf .lf) (.tw (.one (.tw .lf (.tw .lf (.join [0,1,5,6,7,8,9,21,22,23] (.tw .lf (.tw .lf .lf)) .lf)))) .lf)))))) (.tw .lf (.tw .lf .lf))))))) .pureN Sh.f2u:=by unfold T2;intros;kernel_rfl
theorem Vr:AF Tryz.prog Gs 155 (ap2 Sh.f2u):=Bd mixed ((Af MD ((Af Dm (As _ _))))) Tryz.func155 (by kernel_rfl) tie_limb_Add
noncomputable def NT:Orc:=noO
theorem NB:T3 Tryz.prog Gs false NT Tryz.f207 (.tw .lf (.tw .lf (.tw .lf .lf))) .keep Sh.f1q:=by unfold T3;intros;kernel_rfl
theorem MB:AF Tryz.prog Gs 207 (ap3 Sh.f1q):=FV mixed (As _ _) Tryz.func207 (by kernel_rfl) NB
open Go.Proofs
set_option maxRecDepth 100000
noncomputable def orc_limb_Sub:Orc:=(ent 156 (ap2 Sh.fk) (ent 206 (ap1 Sh.f1d) (ent 207 (ap3 Sh.f1q) (ent 201 (ap1 Sh.f0) noO))))
theorem tie_limb_Sub:T2 Tryz.prog Gs false orc_limb_Sub Tryz.f157 (.tw .lf (.tw (.tw .lf (.tw (.tw .lf .lf) .lf)) (.tw .lf (.tw .lf (.tw (.tw .lf (.one (.loop [1,6,7,17,18] (.tw .lf (.tw (.tw .lf .lf) (.tw (.one (.tw .lf (.tw .lf (.join [1,6,7,8,9,17,18] (.tw .lf (.tw .lf .lf)) .lf)))) .lf)))))) (.tw .lf .lf)))))) .pureN Sh.f2v:=by unfold T2;intros;kernel_rfl
theorem Vm:AF Tryz.prog Gs 157 (ap2 Sh.f2v):=Bd mixed ((Af I3 ((Af CP ((Af MB ((Af Dm (As _ _))))))))) Tryz.func157 (by kernel_rfl) tie_limb_Sub
noncomputable def orc_big_Add:Orc:=(ent 155 (ap2 Sh.f2u) (ent 153 (ap2 Sh.f6) (ent 157 (ap2 Sh.f2v) (ent 156 (ap2 Sh.fk) noO))))
theorem tie_big_Add:T2 Tryz.prog Gs false orc_big_Add Tryz.f89 (.tw .lf (.tw (.tw .lf (.tw (.tw (.reg [2,3,4,5,6,0,1,7,8]) .lf) .lf)) (.join [2,3,4] (.tw .lf (.tw .lf .lf)) (.tw .lf (.tw .lf .lf))))) .pureN Sh.fu:=by unfold T2;intros;kernel_rfl
theorem PX:AF Tryz.prog Gs 89 (ap2 Sh.fu):=Bd mixed ((Af Vr ((Af Fx ((Af Vm ((Af I3 (As _ _))))))))) Tryz.func89 (by kernel_rfl) tie_big_Add
noncomputable def orc_big_Sub:Orc:=(ent 150 (ap1 Sh.f1c) (ent 89 (ap2 Sh.fu) noO))
theorem tie_big_Sub:T2 Tryz.prog Gs false orc_big_Sub Tryz.f149 (.tw .lf (.tw (.reg [1,2,0,3,4]) .lf)) .pureN Sh.f2w:=by unfold T2;intros;kernel_rfl
theorem call_big_Sub:AF Tryz.prog Gs 149 (ap2 Sh.f2w):=Bd mixed ((Af ML ((Af PX (As _ _))))) Tryz.func149 (by kernel_rfl) tie_big_Sub
noncomputable def NU:Orc:=noO
theorem NC:T1 Tryz.prog Gs false NU Tryz.f202 (.tw .lf (.join [0,2] (.tw .lf (.tw (.tw .lf .lf) .lf)) (.join [0,2] (.tw .lf (.tw (.tw .lf .lf) .lf)) (.tw .lf .lf)))) .keep Sh.f2x:=by unfold T1;intros;kernel_rfl
theorem MC:AF Tryz.prog Gs 202 (ap1 Sh.f2x):=Bc mixed (As _ _) Tryz.func202 (by kernel_rfl) NC
noncomputable def orc_limb_Len:Orc:=(ent 201 (ap1 Sh.f0) (ent 202 (ap1 Sh.f2x) noO))
theorem tie_limb_Len:T1 Tryz.prog Gs false orc_limb_Len Tryz.f152 (.tw .lf (.tw .lf (.tw (.tw .lf (.tw (.tw .lf .lf) .lf)) (.tw .lf .lf)))) .keep Sh.f2y:=by unfold T1;intros;kernel_rfl
theorem Vp:AF Tryz.prog Gs 152 (ap1 Sh.f2y):=Bc mixed ((Af Dm ((Af MC (As _ _))))) Tryz.func152 (by kernel_rfl) tie_limb_Len
noncomputable def TG:Orc:=(ent 152 (ap1 Sh.f2y) (ent 150 (ap1 Sh.f1c) (ent 151 (ap1 Sh.f1p) (ent 149 (ap2 Sh.f2w) noO))))
theorem SZ:T1 Tryz.prog Gs false TG Tryz.f87 (.tw .lf (.join [1] (.tw .lf (.tw .lf .lf)) (.tw .lf .lf))) .pure Sh.f1r:=by unfold T1;intros;kernel_rfl
theorem Sk:AF Tryz.prog Gs 87 (ap1 Sh.f1r):=Bc mixed ((Af Vp ((Af ML ((Af call_big_Of ((Af call_big_Sub (As _ _))))))))) Tryz.func87 (by kernel_rfl) SZ
noncomputable def Va:Orc:=noO
theorem UR:T1 Tryz.prog Gs false Va Tryz.f203 (.tw .lf (.tw .lf .lf)) .keep Sh.f2z:=by unfold T1;intros;kernel_rfl
theorem U6:AF Tryz.prog Gs 203 (ap1 Sh.f2z):=Bc mixed (As _ _) Tryz.func203 (by kernel_rfl) UR
noncomputable def orc_limb_Shl:Orc:=(ent 203 (ap1 Sh.f2z) (ent 201 (ap1 Sh.f0) noO))
theorem tie_limb_Shl:T2 Tryz.prog Gs false orc_limb_Shl Tryz.f154 (.tw .lf (.tw (.tw .lf (.tw (.tw .lf .lf) .lf)) (.tw .lf (.tw (.tw .lf (.one (.loop [1,5,19,20,21] (.tw .lf (.tw (.tw .lf .lf) (.tw (.one (.tw .lf (.tw .lf (.tw (.reg [0,1,2,3,4,5,6,7,8,9,10]) (.reg [0,1,2,3,4,5,6,7,8,9,10,11,12,13,14]))))) .lf)))))) (.tw .lf .lf))))) .pureN Sh.f30:=by unfold T2;intros;kernel_rfl
theorem Vn:AF Tryz.prog Gs 154 (ap2 Sh.f30):=Bd mixed ((Af U6 ((Af Dm (As _ _))))) Tryz.func154 (by kernel_rfl) tie_limb_Shl
noncomputable def orc_big_Pow:Orc:=(ent 154 (ap2 Sh.f30) (ent 153 (ap2 Sh.f6) noO))
theorem tie_big_Pow:T1 Tryz.prog Gs false orc_big_Pow Tryz.f88 (.tw .lf (.tw .lf .lf)) .pureN Sh.f31:=by unfold T1;intros;kernel_rfl
theorem call_big_Pow:AF Tryz.prog Gs 88 (ap1 Sh.f31):=Bc mixed ((Af Vn ((Af Fx (As _ _))))) Tryz.func88 (by kernel_rfl) tie_big_Pow
noncomputable def orc_limb_Bit:Orc:=noO
theorem tie_limb_Bit:T2 Tryz.prog Gs false orc_limb_Bit Tryz.f158 (.tw .lf (.tw .lf .lf)) .keep Sh.f1s:=by unfold T2;intros;kernel_rfl
theorem Vq:AF Tryz.prog Gs 158 (ap2 Sh.f1s):=Bd mixed (As _ _) Tryz.func158 (by kernel_rfl) tie_limb_Bit
noncomputable def Li (m:Nat):Orc:=ent 90 (ap3 (Sh.f1u m)) (ent 158 (ap2 Sh.f1s) noO)
theorem KO (m:Nat):T3 Tryz.prog Gs false (Li m) Tryz.f90 (.tw .lf (.tw (.tw .lf (.tw (.tw .lf .lf) .lf)) (.tw .lf (.tw (.tw .lf (.one (.loop [0,1,7,17,18,19] (.tw .lf (.tw (.tw .lf .lf) (.tw (.one (.tw .lf (.tw .lf (.join [0,1,7,9,10,17,18,19] (.tw .lf (.tw .lf .lf)) (.join [0,1,7,9,10,17,18,19] (.tw .lf (.tw .lf .lf)) (.reg [1,2,3,4,5,6,0,7,8])))))) .lf)))))) (.tw .lf (.tw (.tw .lf (.one (.loop [0,1,11,48,49] (.tw .lf (.tw (.tw .lf .lf) (.tw (.one (.tw .lf (.one (.tw .lf (.tw .lf (.tw .lf (.tw .lf .lf))))))) .lf)))))) (.tw (.reg [1,2,3,4,5,6,7,0,8,9,10]) (.tw .lf .lf)))))))) .keep (Sh.f1u (m+1)):=by unfold T3;intros;kernel_rfl
theorem Gb:∀m,AF Tryz.prog Gs 90 (ap3 (Sh.f1u m))
 | 0=>none_ok3 fun _ _ _ _=>rfl
 | m+1=>FV mixed (Af (Gb m) ((Af Vq (As _ _)))) Tryz.func90 (by kernel_rfl) (KO m)
noncomputable def orc_node_kid:Orc:=noO
theorem tie_node_kid:T3 Tryz.prog Gs false orc_node_kid Tryz.f208 (.tw .lf (.tw .lf (.tw (.one (.tw .lf (.tw (.tw .lf .lf) (.tw .lf (.tw (.tw .lf .lf) .lf))))) (.tw (.reg [0,1,2,3,4,5,6,7,8,9,10,11,12,13,14,15,16,17,18,19]) .lf)))) .pure Sh.f32:=by unfold T3;intros;kernel_rfl
theorem Vl:AF Tryz.prog Gs 208 (ap3 Sh.f32):=FV mixed (As _ _) Tryz.func208 (by kernel_rfl) tie_node_kid
noncomputable def TA:Orc:=(ent 208 (ap3 Sh.f32) noO)
theorem SS:T1 Tryz.prog Gs false TA Tryz.f159 (.tw .lf (.tw (.tw .lf (.one (.loop [0,7,8,9] (.tw .lf (.tw (.tw .lf .lf) (.tw (.one (.tw .lf (.tw (.tw .lf (.tw (.tw .lf .lf) .lf)) (.tw .lf (.one (.loop [0,3,7,8,9,23,24] (.tw .lf (.tw (.tw .lf .lf) (.tw (.one (.tw .lf (.tw .lf (.tw (.tw .lf .lf) .lf)))) .lf))))))))) .lf)))))) (.tw .lf .lf))) .pure Sh.f33:=by unfold T1;intros;kernel_rfl
theorem Se:AF Tryz.prog Gs 159 (ap1 Sh.f33):=Bc mixed ((Af Vl (As _ _))) Tryz.func159 (by kernel_rfl) SS
noncomputable def EM:Orc:=noO
theorem EE:T1 Tryz.prog Gs false EM Tryz.f209 (.tw .lf (.tw (.tw .lf (.tw (.tw .lf .lf) .lf)) (.tw .lf .lf))) .keep Sh.f34:=by unfold T1;intros;kernel_rfl
theorem E8:AF Tryz.prog Gs 209 (ap1 Sh.f34):=Bc mixed (As _ _) Tryz.func209 (by kernel_rfl) EE
noncomputable def RW:Orc:=noO
theorem RI:T3 Tryz.prog Gs false RW Tryz.f238 (.tw .lf (.tw .lf .lf)) .keep Sh.f4a:=by unfold T3;intros;kernel_rfl
theorem Re:AF Tryz.prog Gs 238 (ap3 Sh.f4a):=FV mixed (As _ _) Tryz.func238 (by kernel_rfl) RI
noncomputable def Gi:Orc:=Ce
theorem Ge:T2 Tryz.prog Gs false Gi Tryz.f241 (.tw .lf (.tw (.tw .lf (.one (.loop [0,1,7,8] (.tw .lf (.tw (.tw .lf .lf) (.tw (.one (.tw .lf (.tw .lf (.tw (.tw .lf .lf) .lf)))) .lf)))))) (.tw .lf .lf))) .keep Sh.f4b:=by unfold T2;intros;kernel_rfl
theorem FZ:AF Tryz.prog Gs 241 (ap2 Sh.f4b):=Bd mixed ((Af Re (As _ _))) Tryz.func241 (by kernel_rfl) Ge
noncomputable def F8:Orc:=(ent 241 (ap2 Sh.f4b) noO)
theorem F2:T2 Tryz.prog Gs false F8 Tryz.f237 (.tw .lf (.tw .lf .lf)) .keep Sh.f35:=by unfold T2;intros;kernel_rfl
theorem Fp:AF Tryz.prog Gs 237 (ap2 Sh.f35):=Bd mixed ((Af FZ (As _ _))) Tryz.func237 (by kernel_rfl) F2
noncomputable def UZ:Orc:=(ent 237 (ap2 Sh.f35) noO)
theorem UQ:T1 Tryz.prog Gs false UZ Tryz.f230 (.tw .lf (.tw .lf (.tw (.tw .lf (.one (.loop [3,10,11,12] (.tw .lf (.tw (.tw .lf .lf) (.tw (.one (.tw .lf (.reg [3,4,5,6,0,1,2,7,8]))) .lf)))))) (.tw .lf .lf)))) .pureN Sh.f1e:=by unfold T1;intros;kernel_rfl
theorem MA:AF Tryz.prog Gs 230 (ap1 Sh.f1e):=Bc mixed ((Af Fp (As _ _))) Tryz.func230 (by kernel_rfl) UQ
noncomputable def TB:Orc:=(ent 230 (ap1 Sh.f1e) noO)
theorem ST:T2 Tryz.prog Gs false TB Tryz.f210 (.tw .lf (.tw .lf .lf)) .keep Sh.f36:=by unfold T2;intros;kernel_rfl
theorem Sf:AF Tryz.prog Gs 210 (ap2 Sh.f36):=Bd mixed ((Af MA (As _ _))) Tryz.func210 (by kernel_rfl) ST
noncomputable def RX:Orc:=(ent 230 (ap1 Sh.f1e) noO)
theorem RJ:T2 Tryz.prog Gs false RX Tryz.f211 (.tw .lf (.tw (.tw .lf (.tw (.tw .lf .lf) .lf)) (.tw .lf (.tw (.tw .lf (.one (.loop [0,5,28,29] (.tw .lf (.tw (.tw .lf .lf) (.tw (.one (.tw .lf (.tw (.tw .lf (.tw .lf .lf)) (.tw .lf (.one (.loop [0,5,6,7,28,29,40,41] (.tw .lf (.tw (.tw .lf .lf) (.tw (.one (.tw .lf (.tw .lf (.tw (.tw .lf .lf) .lf)))) .lf))))))))) .lf)))))) (.tw .lf .lf))))) .keep Sh.f37:=by unfold T2;intros;kernel_rfl
theorem Rf:AF Tryz.prog Gs 211 (ap2 Sh.f37):=Bd mixed ((Af MA (As _ _))) Tryz.func211 (by kernel_rfl) RJ
noncomputable def Sa:Orc:=noO
theorem RN:T3 Tryz.prog Gs false Sa Tryz.f212 (.tw .lf (.tw (.tw .lf (.tw .lf (.tw (.tw .lf .lf) .lf))) (.tw .lf .lf))) .keep Sh.f38:=by unfold T3;intros;kernel_rfl
theorem Rh:AF Tryz.prog Gs 212 (ap3 Sh.f38):=FV mixed (As _ _) Tryz.func212 (by kernel_rfl) RN
noncomputable def Qy:Orc:=(ent 209 (ap1 Sh.f34) (ent 210 (ap2 Sh.f36) (ent 211 (ap2 Sh.f37) (ent 212 (ap3 Sh.f38) noO))))
theorem Qh:T2 Tryz.prog Gs false Qy Tryz.f160 (.tw .lf (.tw .lf (.tw (.tw .lf (.tw (.tw .lf .lf) .lf)) (.tw (.one (.loop [0,1] (.tw (.tw .lf (.tw .lf .lf)) (.one (.tw .lf (.tw (.tw .lf (.one (.loop [0,1,6,25] (.tw .lf (.tw (.tw .lf .lf) (.tw (.one (.tw .lf .lf)) .lf)))))) (.tw .lf .lf))))))) (.tw .lf .lf))))) .pureN Sh.f39:=by unfold T2;intros;kernel_rfl
theorem PW:AF Tryz.prog Gs 160 (ap2 Sh.f39):=Bd mixed ((Af E8 ((Af Sf ((Af Rf ((Af Rh (As _ _))))))))) Tryz.func160 (by kernel_rfl) Qh
noncomputable def JD:Orc:=noO
theorem Jt:T2 Tryz.prog Gs false JD Tryz.f162 (.tw .lf (.tw (.tw .lf (.tw (.tw .lf .lf) .lf)) (.tw (.tw (.reg [0,1,2,3,4,5,6,7,8,9,10]) (.tw .lf (.tw (.tw .lf .lf) .lf))) (.tw (.reg [1,2,3,4,5,6,7,0,8,9,10]) (.tw (.reg [0,1,2,3,4,5,6,7,8,9,10]) (.tw .lf .lf)))))) .keep Sh.f3a:=by unfold T2;intros;kernel_rfl
theorem Jb:AF Tryz.prog Gs 162 (ap2 Sh.f3a):=Bd mixed (As _ _) Tryz.func162 (by kernel_rfl) Jt
noncomputable def TJ (m:Nat):Orc:=GT (Sh.fh m)
theorem Tc (m:Nat):T5 Tryz.prog Gs false (TJ m) Tryz.f161 (.tw .lf (.tw (.tw .lf (.tw .lf (.tw (.tw .lf .lf) .lf))) (.tw .lf (.join [0,1,4,9] (.tw .lf (.tw (.tw .lf (.one (.loop [0,1,3,4,9,30,31] (.tw .lf (.tw (.tw .lf .lf) (.tw (.one (.tw .lf .lf)) .lf)))))) .lf)) (.tw .lf (.tw .lf (.tw .lf .lf))))))) .keep (Sh.fh (m+1)):=by unfold T5;intros;kernel_rfl
theorem K3:∀m,AF Tryz.prog Gs 161 (ap5 (Sh.fh m))
 | 0=>none_ok5 fun _ _ _ _ _ _=>rfl
 | m+1=>fn_ok5 mixed (Af (K3 m) ((Af Jb (As _ _)))) Tryz.func161 (by kernel_rfl) (Tc m)
noncomputable def orc_canon_Of:Orc:=Iv
theorem tie_canon_Of:T2 Tryz.prog Gs false orc_canon_Of Tryz.f91 (.tw .lf (.tw (.tw .lf (.tw (.tw .lf .lf) .lf)) (.tw .lf (.tw .lf (.tw .lf (.tw .lf (.tw .lf (.tw .lf (.tw .lf .lf))))))))) .pureN Sh.f3b:=by unfold T2;intros;kernel_rfl
theorem Vu:AF Tryz.prog Gs 91 (ap2 Sh.f3b):=Bd mixed ((Af Se ((Af PW ((Af (K3 AM) (As _ _))))))) Tryz.func91 (by kernel_rfl) tie_canon_Of
open Go.Proofs
set_option maxRecDepth 100000
noncomputable def orc_cells_Of:Orc:=(ent 83 (ap2 Sh.f2h) (ent 86 (ap1 Sh.f2r) (ent 87 (ap1 Sh.f1r) (ent 88 (ap1 Sh.f31) (ent 89 (ap2 Sh.fu) (ent 90 (ap3 (Sh.f1u AM)) (ent 91 (ap2 Sh.f3b) noO)))))))
theorem tie_cells_Of:T1 Tryz.prog Gs false orc_cells_Of Tryz.f39 (.tw .lf (.tw (.tw .lf (.tw (.tw .lf .lf) .lf)) (.tw .lf (.tw .lf (.tw (.tw .lf (.one (.loop [2,4,5,19,20,21] (.tw .lf (.tw (.tw .lf .lf) (.tw (.one (.tw .lf (.reg [1,2,3,4,5,6,0,7,8]))) .lf)))))) (.tw (.tw .lf (.tw (.tw .lf .lf) .lf)) (.tw .lf (.tw .lf (.tw (.tw .lf (.one (.loop [2,5,8,9,40,41,42] (.tw .lf (.tw (.tw .lf .lf) (.tw (.one (.tw .lf (.reg [1,2,3,4,6,7,8,9,0,5,10,11,12,13,14,15,16]))) .lf)))))) (.tw .lf (.tw .lf (.tw .lf .lf)))))))))))) .pureN Sh.f1w:=by unfold T1;intros;kernel_rfl
theorem Vs:AF Tryz.prog Gs 39 (ap1 Sh.f1w):=Bc mixed ((Af Dp ((Af Sm ((Af Sk ((Af call_big_Pow ((Af PX ((Af (Gb AM) ((Af Vu (As _ _))))))))))))))) Tryz.func39 (by kernel_rfl) tie_cells_Of
noncomputable def TD:Orc:=(ent 36 (ap1 Sh.f26) (ent 37 (ap1 Sh.f1l) (ent 39 (ap1 Sh.f1w) noO)))
theorem SV:T2 Tryz.prog Gs false TD Tryz.f13 (.tw .lf (.tw (.tw .lf (.tw (.tw .lf .lf) .lf)) (.tw .lf (.tw (.tw .lf (.tw .lf (.tw (.tw (.reg [0,8,1,2,3,4,5,6,7,9,10]) .lf) .lf))) (.tw .lf (.tw (.tw .lf (.tw (.tw .lf .lf) .lf)) (.tw (.reg [0,1,2,3,4,5,6,7,8]) .lf))))))) .pureN Sh.fv:=by unfold T2;intros;kernel_rfl
theorem Sg:AF Tryz.prog Gs 13 (ap2 Sh.fv):=Bd mixed ((Af PT ((Af Ik ((Af Vs (As _ _))))))) Tryz.func13 (by kernel_rfl) SV
noncomputable def J9:Orc:=noO
theorem Jp:T1 Tryz.prog Gs false J9 Tryz.f104 (.tw .lf (.tw .lf .lf)) .keep Sh.f3d:=by unfold T1;intros;kernel_rfl
theorem IX:AF Tryz.prog Gs 104 (ap1 Sh.f3d):=Bc mixed (As _ _) Tryz.func104 (by kernel_rfl) Jp
noncomputable def Mj:Orc:=noO
theorem LC:T1 Tryz.prog Gs false Mj Tryz.f93 (.tw .lf (.tw .lf .lf)) .keep Sh.f3e:=by unfold T1;intros;kernel_rfl
theorem Ls:AF Tryz.prog Gs 93 (ap1 Sh.f3e):=Bc mixed (As _ _) Tryz.func93 (by kernel_rfl) LC
noncomputable def Mk:Orc:=(ent 93 (ap1 Sh.f3e) noO)
theorem LD:T1 Tryz.prog Gs false Mk Tryz.f50 (.tw .lf (.tw (.tw .lf (.one (.loop [0,3] (.tw (.tw .lf (.tw .lf .lf)) (.tw (.one (.tw .lf (.tw (.tw .lf .lf) .lf))) .lf))))) (.tw .lf .lf))) .keep Sh.f3f:=by unfold T1;intros;kernel_rfl
theorem Lt:AF Tryz.prog Gs 50 (ap1 Sh.f3f):=Bc mixed ((Af Ls (As _ _))) Tryz.func50 (by kernel_rfl) LD
noncomputable def Lc:Orc:=noO
theorem KI:T1 Tryz.prog Gs false Lc Tryz.f167 (.tw .lf (.tw (.tw .lf (.one (.loop [0,3] (.tw (.tw .lf (.tw .lf .lf)) (.tw (.one (.tw (.tw .lf (.tw (.tw .lf .lf) .lf)) (.tw .lf (.one (.loop [0,3,4] (.tw (.tw .lf (.tw .lf .lf)) (.tw (.one (.tw .lf (.tw (.tw .lf (.tw (.tw .lf .lf) .lf)) (.tw (.reg [0,1,2,3,4,5,6,7,8,9,10,11,12,13,14,15,16,17,18,19,20,21,22,23,24,25,26,27,28,29]) (.tw (.tw .lf .lf) .lf))))) .lf))))))) .lf))))) (.tw .lf .lf))) .keep Sh.f3g:=by unfold T1;intros;kernel_rfl
theorem Km:AF Tryz.prog Gs 167 (ap1 Sh.f3g):=Bc mixed (As _ _) Tryz.func167 (by kernel_rfl) KI
noncomputable def II:Orc:=noO
theorem I9:T1 Tryz.prog Gs false II Tryz.f170 (.tw .lf (.tw .lf (.tw .lf (.tw (.tw .lf (.one (.loop [0,3,4] (.tw (.tw .lf (.tw .lf .lf)) (.tw (.one (.tw .lf (.tw (.tw .lf (.one (.loop [0,3,4,5,6] (.tw (.tw .lf (.tw .lf .lf)) (.tw (.one (.tw .lf .lf)) .lf))))) .lf))) .lf))))) (.tw .lf .lf))))) .pureN Sh.f1f:=by unfold T1;intros;kernel_rfl
theorem Fq:AF Tryz.prog Gs 170 (ap1 Sh.f1f):=Bc mixed (As _ _) Tryz.func170 (by kernel_rfl) I9
noncomputable def JC:Orc:=(ent 170 (ap1 Sh.f1f) noO)
theorem Js:T2 Tryz.prog Gs false JC Tryz.f215 (.tw .lf (.tw (.tw .lf (.tw (.tw .lf .lf) .lf)) (.tw .lf (.tw (.tw .lf (.one (.loop [0,1,5,6] (.tw (.tw .lf (.tw .lf .lf)) (.tw (.one (.tw .lf (.tw .lf (.one (.loop [0,1,5,6,7,8] (.tw (.tw .lf (.tw .lf .lf)) (.tw (.one (.tw .lf (.tw .lf (.tw (.tw .lf .lf) .lf)))) .lf))))))) .lf))))) (.tw .lf .lf))))) .keep Sh.f3h:=by unfold T2;intros;kernel_rfl
theorem Ja:AF Tryz.prog Gs 215 (ap2 Sh.f3h):=Bd mixed ((Af Fq (As _ _))) Tryz.func215 (by kernel_rfl) Js
noncomputable def NX (m:Nat):Orc:=ent 218 (ap3 (Sh.fl m)) noO
theorem NF (m:Nat):T3 Tryz.prog Gs false (NX m) Tryz.f218 (.tw .lf (.tw (.tw .lf (.one (.loop [0,1,2,7] (.tw (.tw .lf (.tw .lf .lf)) (.tw (.one (.tw .lf (.tw (.tw .lf .lf) .lf))) .lf))))) (.tw (.tw .lf (.one (.loop [0,1,2,8] (.tw (.tw .lf (.tw .lf .lf)) (.join [0,1,2,8] (.one (.tw .lf (.tw .lf .lf))) .lf))))) (.tw .lf .lf)))) .keep (Sh.fl (m+1)):=by unfold T3;intros;kernel_rfl
theorem GP:∀m,AF Tryz.prog Gs 218 (ap3 (Sh.fl m))
 | 0=>none_ok3 fun _ _ _ _=>rfl
 | m+1=>FV mixed (Af (GP m) (As _ _)) Tryz.func218 (by kernel_rfl) (NF m)
noncomputable def La:Orc:=(ent 167 (ap1 Sh.f3g) (ent 215 (ap2 Sh.f3h) (ent 170 (ap1 Sh.f1f) (ent 218 (ap3 (Sh.fl AM)) noO))))
theorem KG:T1 Tryz.prog Gs false La Tryz.f173 (.tw .lf (.tw .lf (.tw (.tw .lf (.tw (.tw .lf .lf) .lf)) (.tw (.tw .lf (.tw (.tw .lf .lf) .lf)) (.tw .lf (.tw (.tw .lf (.one (.loop [3,4,5] (.tw (.tw .lf (.tw .lf .lf)) (.tw (.one (.tw (.tw .lf (.tw (.tw .lf .lf) .lf)) (.tw .lf (.one (.loop [3,4,5,6] (.tw (.tw .lf (.tw .lf .lf)) (.tw (.one (.tw (.reg [0,1,2,3,4,5,6,7,8]) (.tw (.tw .lf .lf) .lf))) .lf))))))) .lf))))) (.tw .lf (.tw (.tw .lf (.one (.loop [3,7,8] (.tw (.tw .lf (.tw .lf .lf)) (.tw (.one (.tw .lf (.tw (.tw .lf .lf) .lf))) .lf))))) (.tw .lf .lf))))))))) .pure Sh.f3i:=by unfold T1;intros;kernel_rfl
theorem Kk:AF Tryz.prog Gs 173 (ap1 Sh.f3i):=Bc mixed ((Af Km ((Af Ja ((Af Fq ((Af (GP AM) (As _ _))))))))) Tryz.func173 (by kernel_rfl) KG
noncomputable def KU:Orc:=(ent 50 (ap1 Sh.f3f) (ent 173 (ap1 Sh.f3i) noO))
theorem K9:T1 Tryz.prog Gs false KU Tryz.f105 (.tw .lf (.tw .lf .lf)) .pure Sh.f3j:=by unfold T1;intros;kernel_rfl
theorem Ke:AF Tryz.prog Gs 105 (ap1 Sh.f3j):=Bc mixed ((Af Lt ((Af Kk (As _ _))))) Tryz.func105 (by kernel_rfl) K9
noncomputable def Md:Orc:=noO
theorem L4:T1 Tryz.prog Gs false Md Tryz.f28 (.tw .lf (.tw .lf .lf)) .pure Sh.f1x:=by unfold T1;intros;kernel_rfl
theorem Ln:AF Tryz.prog Gs 28 (ap1 Sh.f1x):=Bc mixed (As _ _) Tryz.func28 (by kernel_rfl) L4
noncomputable def Od:Orc:=noO
theorem NL:T1 Tryz.prog Gs false Od Tryz.f219 (.tw .lf (.tw (.one (.loop [0] (.tw (.tw .lf (.tw .lf .lf)) (.one .lf)))) (.tw .lf .lf))) .keepN Sh.fw:=by unfold T1;intros;kernel_rfl
theorem GR:AF Tryz.prog Gs 219 (ap1 Sh.fw):=Bc mixed (As _ _) Tryz.func219 (by kernel_rfl) NL
noncomputable def Mo:Orc:=(ent 219 (ap1 Sh.fw) noO)
theorem LH:T1 Tryz.prog Gs false Mo Tryz.f176 (.tw .lf (.tw .lf (.tw (.tw .lf (.one (.loop [0,3,4] (.tw (.tw .lf (.tw .lf .lf)) (.tw (.one (.tw .lf (.tw .lf (.one (.loop [0,3,4,5,6] (.tw (.tw .lf (.tw .lf .lf)) (.tw (.one .lf) .lf))))))) .lf))))) (.tw .lf .lf)))) .pureN Sh.f2:=by unfold T1;intros;kernel_rfl
theorem Cv:AF Tryz.prog Gs 176 (ap1 Sh.f2):=Bc mixed ((Af GR (As _ _))) Tryz.func176 (by kernel_rfl) LH
noncomputable def OF:Orc:=(ent 219 (ap1 Sh.fw) noO)
theorem O4:T1 Tryz.prog Gs false OF Tryz.f175 (.tw .lf (.tw .lf (.tw .lf (.tw (.tw .lf (.one (.loop [0,3,4] (.tw (.tw .lf (.tw .lf .lf)) (.tw (.one (.tw .lf (.tw (.tw .lf (.one (.loop [0,3,4,5,6,7] (.tw (.tw .lf (.tw .lf .lf)) (.tw (.one (.join [0,3,4,5,6,7] (.tw .lf (.tw .lf .lf)) .lf)) .lf))))) .lf))) .lf))))) (.tw .lf .lf))))) .pureN Sh.fc:=by unfold T1;intros;kernel_rfl
theorem Ds:AF Tryz.prog Gs 175 (ap1 Sh.fc):=Bc mixed ((Af GR (As _ _))) Tryz.func175 (by kernel_rfl) O4
noncomputable def Mn:Orc:=(ent 176 (ap1 Sh.f2) (ent 175 (ap1 Sh.fc) noO))
theorem LG:T1 Tryz.prog Gs false Mn Tryz.f109 (.tw .lf (.tw .lf .lf)) .keepN Sh.fr:=by unfold T1;intros;kernel_rfl
theorem Gp:AF Tryz.prog Gs 109 (ap1 Sh.fr):=Bc mixed ((Af Cv ((Af Ds (As _ _))))) Tryz.func109 (by kernel_rfl) LG
noncomputable def Mm:Orc:=(ent 109 (ap1 Sh.fr) noO)
theorem LF:T2 Tryz.prog Gs false Mm Tryz.f119 (.tw .lf (.tw .lf (.tw .lf .lf))) .pureN Sh.f7:=by unfold T2;intros;kernel_rfl
theorem CT:AF Tryz.prog Gs 119 (ap2 Sh.f7):=Bd mixed ((Af Gp (As _ _))) Tryz.func119 (by kernel_rfl) LF
noncomputable def OD:Orc:=(ent 119 (ap2 Sh.f7) noO)
theorem O2:T1 Tryz.prog Gs false OD Tryz.f64 (.tw .lf (.tw .lf (.join [0,2,3] (.tw .lf (.tw .lf .lf)) (.tw .lf .lf)))) .pureN Sh.fd:=by unfold T1;intros;kernel_rfl
theorem Dr:AF Tryz.prog Gs 64 (ap1 Sh.fd):=Bc mixed ((Af CT (As _ _))) Tryz.func64 (by kernel_rfl) O2
noncomputable def Of:Orc:=(ent 176 (ap1 Sh.f2) (ent 175 (ap1 Sh.fc) noO))
theorem NN:T2 Tryz.prog Gs false Of Tryz.f213 (.tw .lf (.tw (.tw .lf (.tw (.tw .lf .lf) .lf)) (.tw (.reg [2,3,0,1,4,5,6]) .lf))) .pureN Sh.f3k:=by unfold T2;intros;kernel_rfl
theorem MH:AF Tryz.prog Gs 213 (ap2 Sh.f3k):=Bd mixed ((Af Cv ((Af Ds (As _ _))))) Tryz.func213 (by kernel_rfl) NN
noncomputable def NZ:Orc:=(ent 213 (ap2 Sh.f3k) (ent 119 (ap2 Sh.f7) noO))
theorem NH:T2 Tryz.prog Gs false NZ Tryz.f166 (.tw .lf (.tw (.reg [2,3,4,5,0,1,6,7]) .lf)) .pureN Sh.f3l:=by unfold T2;intros;kernel_rfl
theorem MF:AF Tryz.prog Gs 166 (ap2 Sh.f3l):=Bd mixed ((Af MH ((Af CT (As _ _))))) Tryz.func166 (by kernel_rfl) NH
noncomputable def Oa:Orc:=(ent 64 (ap1 Sh.fd) (ent 166 (ap2 Sh.f3l) noO))
theorem NI:T1 Tryz.prog Gs false Oa Tryz.f98 (.tw .lf (.tw .lf .lf)) .pureN Sh.ff:=by unfold T1;intros;kernel_rfl
theorem Dd:AF Tryz.prog Gs 98 (ap1 Sh.ff):=Bc mixed ((Af Dr ((Af MF (As _ _))))) Tryz.func98 (by kernel_rfl) NI
noncomputable def OE:Orc:=noO
theorem O3:T2 Tryz.prog Gs false OE Tryz.f182 (.tw .lf (.tw .lf .lf)) .keep Sh.f4:=by unfold T2;intros;kernel_rfl
theorem Fb:AF Tryz.prog Gs 182 (ap2 Sh.f4):=Bd mixed (As _ _) Tryz.func182 (by kernel_rfl) O3
noncomputable def Oi:Orc:=(ent 176 (ap1 Sh.f2) (ent 182 (ap2 Sh.f4) (ent 175 (ap1 Sh.fc) noO)))
theorem NQ:T2 Tryz.prog Gs false Oi Tryz.f120 (.tw .lf (.tw .lf (.tw .lf (.tw .lf (.tw (.tw .lf (.one (.loop [5,6,7,8,9] (.tw (.tw .lf (.tw .lf .lf)) (.tw (.one (.tw .lf (.join [5,6,7,8,9,10] (.tw .lf (.tw .lf .lf)) (.join [5,6,7,8,9,10] (.tw .lf (.tw .lf .lf)) (.join [5,6,7,9,10] (.tw .lf (.tw .lf .lf)) .lf))))) .lf))))) (.tw .lf .lf)))))) .pureN Sh.f3m:=by unfold T2;intros;kernel_rfl
theorem MK:AF Tryz.prog Gs 120 (ap2 Sh.f3m):=Bd mixed ((Af Cv ((Af Fb ((Af Ds (As _ _))))))) Tryz.func120 (by kernel_rfl) NQ
noncomputable def Oh:Orc:=(ent 176 (ap1 Sh.f2) (ent 182 (ap2 Sh.f4) noO))
theorem NP:T2 Tryz.prog Gs false Oh Tryz.f183 (.tw .lf (.tw .lf (.tw (.tw .lf (.one (.loop [5,6,7] (.tw (.tw .lf (.tw .lf .lf)) (.tw (.one (.tw .lf (.tw (.tw (.tw .lf (.tw (.tw .lf .lf) .lf)) (.tw .lf .lf)) .lf))) .lf))))) (.tw .lf .lf)))) .keep Sh.f3n:=by unfold T2;intros;kernel_rfl
theorem MJ:AF Tryz.prog Gs 183 (ap2 Sh.f3n):=Bd mixed ((Af Cv ((Af Fb (As _ _))))) Tryz.func183 (by kernel_rfl) NP
noncomputable def Oe:Orc:=(ent 183 (ap2 Sh.f3n) (ent 176 (ap1 Sh.f2) (ent 182 (ap2 Sh.f4) (ent 175 (ap1 Sh.fc) noO))))
theorem NM:T2 Tryz.prog Gs false Oe Tryz.f121 (.tw .lf (.tw (.tw .lf (.tw (.tw .lf .lf) .lf)) (.tw .lf (.tw .lf (.tw .lf (.tw (.tw .lf (.one (.loop [6,7,8,9,10] (.tw (.tw .lf (.tw .lf .lf)) (.tw (.one (.tw .lf (.join [6,7,8,10,11] (.tw .lf (.tw .lf .lf)) (.join [6,7,8,10,11] (.tw .lf (.tw .lf .lf)) (.tw .lf (.join [6,7,8,9,10,11] (.tw .lf (.tw .lf .lf)) .lf)))))) .lf))))) (.tw .lf .lf))))))) .pureN Sh.f1y:=by unfold T2;intros;kernel_rfl
theorem MG:AF Tryz.prog Gs 121 (ap2 Sh.f1y):=Bd mixed ((Af MJ ((Af Cv ((Af Fb ((Af Ds (As _ _))))))))) Tryz.func121 (by kernel_rfl) NM
open Go.Proofs
set_option maxRecDepth 100000
noncomputable def Oc:Orc:=(ent 120 (ap2 Sh.f3m) (ent 119 (ap2 Sh.f7) (ent 121 (ap2 Sh.f1y) noO)))
theorem NK:T2 Tryz.prog Gs false Oc Tryz.f63 (.tw .lf (.tw (.tw .lf (.tw (.tw (.reg [2,3,4,5,6,0,1,7,8]) .lf) .lf)) (.tw .lf (.tw (.tw .lf (.tw (.tw .lf .lf) .lf)) (.tw .lf (.tw .lf .lf)))))) .pureN Sh.f1:=by unfold T2;intros;kernel_rfl
theorem C3:AF Tryz.prog Gs 63 (ap2 Sh.f1):=Bd mixed ((Af MK ((Af CT ((Af MG (As _ _))))))) Tryz.func63 (by kernel_rfl) NK
noncomputable def Lf:Orc:=(ent 119 (ap2 Sh.f7) noO)
theorem KL:T1 Tryz.prog Gs false Lf Tryz.f97 (.tw .lf (.tw .lf .lf)) .pureN Sh.fi:=by unfold T1;intros;kernel_rfl
theorem DO:AF Tryz.prog Gs 97 (ap1 Sh.fi):=Bc mixed ((Af CT (As _ _))) Tryz.func97 (by kernel_rfl) KL
noncomputable def NY:Orc:=(ent 97 (ap1 Sh.fi) (ent 63 (ap2 Sh.f1) noO))
theorem NG:T2 Tryz.prog Gs false NY Tryz.f172 (.tw .lf (.tw (.reg [1,2,0,3,4]) .lf)) .pureN Sh.fm:=by unfold T2;intros;kernel_rfl
theorem GQ:AF Tryz.prog Gs 172 (ap2 Sh.fm):=Bd mixed ((Af DO ((Af C3 (As _ _))))) Tryz.func172 (by kernel_rfl) NG
noncomputable def Ob:Orc:=(ent 172 (ap2 Sh.fm) noO)
theorem NJ:T2 Tryz.prog Gs false Ob Tryz.f103 (.tw .lf (.tw .lf (.tw (.one (.tw .lf (.tw (.tw .lf .lf) (.tw .lf (.tw (.tw .lf .lf) .lf))))) (.tw .lf .lf)))) .pure Sh.f8:=by unfold T2;intros;kernel_rfl
theorem De:AF Tryz.prog Gs 103 (ap2 Sh.f8):=Bd mixed ((Af GQ (As _ _))) Tryz.func103 (by kernel_rfl) NJ
noncomputable def KW:Orc:=(ent 98 (ap1 Sh.ff) (ent 103 (ap2 Sh.f8) (ent 63 (ap2 Sh.f1) noO)))
theorem KC:T3 Tryz.prog Gs false KW Tryz.f171 (.tw .lf (.tw .lf (.tw (.tw .lf (.one (.loop [0,4,5,7,8] (.tw (.tw .lf (.tw .lf .lf)) (.tw (.one (.tw .lf (.tw .lf (.tw .lf (.one (.loop [0,4,5,7,8,9,10,11] (.tw (.tw .lf (.tw .lf .lf)) (.join [0,4,5,7,8,9,10,11] (.one (.tw .lf (.join [0,4,5,7,8,9,10,11,12,13] (.tw .lf (.tw (.reg [0,1,2,3,4,5,6]) .lf)) (.tw .lf (.tw (.tw .lf (.tw .lf .lf)) (.tw .lf (.join [0,4,5,7,8,9,10,11,15] (.tw .lf (.tw (.reg [0,1,2,3,4,5,6]) .lf)) (.tw (.reg [0,1,2,3,4,5,6,7,8,9,10,11]) (.tw (.reg [0,1,2,3,4,5,6]) .lf))))))))) .lf)))))))) .lf))))) (.tw .lf .lf)))) .pureN Sh.fx:=by unfold T3;intros;kernel_rfl
theorem Kg:AF Tryz.prog Gs 171 (ap3 Sh.fx):=FV mixed ((Af Dd ((Af De ((Af C3 (As _ _))))))) Tryz.func171 (by kernel_rfl) KC
noncomputable def Ld:Orc:=noO
theorem KJ:T1 Tryz.prog Gs false Ld Tryz.f107 (.tw .lf (.tw (.tw .lf (.tw (.tw .lf .lf) .lf)) (.tw .lf .lf))) .pure Sh.fy:=by unfold T1;intros;kernel_rfl
theorem Ga:AF Tryz.prog Gs 107 (ap1 Sh.fy):=Bc mixed (As _ _) Tryz.func107 (by kernel_rfl) KJ
noncomputable def OC:Orc:=(ent 171 (ap3 Sh.fx) (ent 107 (ap1 Sh.fy) (ent 98 (ap1 Sh.ff) (ent 97 (ap1 Sh.fi) (ent 63 (ap2 Sh.f1) (ent 172 (ap2 Sh.fm) noO))))))
theorem O1:T1 Tryz.prog Gs false OC Tryz.f102 (.tw .lf (.tw .lf (.tw (.tw .lf (.tw (.tw .lf .lf) .lf)) (.tw .lf (.tw .lf (.tw .lf (.tw .lf (.tw .lf (.tw .lf (.tw (.reg [0,1,2,3,4,5,7,8,9,6,10,12,13,14,11,15,16,17,18]) .lf)))))))))) .pureN Sh.f1g:=by unfold T1;intros;kernel_rfl
theorem Oj:AF Tryz.prog Gs 102 (ap1 Sh.f1g):=Bc mixed ((Af Kg ((Af Ga ((Af Dd ((Af DO ((Af C3 ((Af GQ (As _ _))))))))))))) Tryz.func102 (by kernel_rfl) O1
noncomputable def JA:Orc:=(ent 102 (ap1 Sh.f1g) (ent 64 (ap1 Sh.fd) (ent 103 (ap2 Sh.f8) noO)))
theorem Jq:T2 Tryz.prog Gs false JA Tryz.f51 (.tw .lf (.tw .lf (.tw (.reg [2,3,0,1,4,5,6,9,10,7,8,11,12,13,14]) .lf))) .pure Sh.f3o:=by unfold T2;intros;kernel_rfl
theorem IY:AF Tryz.prog Gs 51 (ap2 Sh.f3o):=Bd mixed ((Af Oj ((Af Dr ((Af De (As _ _))))))) Tryz.func51 (by kernel_rfl) Jq
noncomputable def Me:Orc:=noO
theorem L5:T1 Tryz.prog Gs false Me Tryz.f52 (.tw .lf (.tw .lf (.tw (.tw .lf (.one (.loop [1,3,4] (.tw (.tw .lf (.tw .lf .lf)) (.tw (.one (.tw .lf (.one (.loop [1,3,4,5] (.tw (.tw .lf (.tw .lf .lf)) (.tw (.one .lf) .lf)))))) .lf))))) (.tw .lf .lf)))) .pure Sh.f20:=by unfold T1;intros;kernel_rfl
theorem Lo:AF Tryz.prog Gs 52 (ap1 Sh.f20):=Bc mixed (As _ _) Tryz.func52 (by kernel_rfl) L5
noncomputable def IH:Orc:=(ent 51 (ap2 Sh.f3o) (ent 52 (ap1 Sh.f20) noO))
theorem I8:T3 Tryz.prog Gs false IH Tryz.f18 (.tw .lf (.tw (.tw .lf (.tw (.tw .lf .lf) .lf)) (.tw (.tw .lf (.tw (.tw .lf .lf) .lf)) (.tw .lf .lf)))) .pure Sh.f3p:=by unfold T3;intros;kernel_rfl
theorem I4:AF Tryz.prog Gs 18 (ap3 Sh.f3p):=FV mixed ((Af IY ((Af Lo (As _ _))))) Tryz.func18 (by kernel_rfl) I8
noncomputable def KV:Orc:=(ent 104 (ap1 Sh.f3d) (ent 105 (ap1 Sh.f3j) (ent 28 (ap1 Sh.f1x) (ent 18 (ap3 Sh.f3p) noO))))
theorem KA:T3 Tryz.prog Gs false KV Tryz.f53 (.tw .lf (.tw (.tw .lf (.tw (.tw .lf .lf) .lf)) (.tw (.tw .lf (.tw (.tw .lf .lf) .lf)) (.tw .lf .lf)))) .pure Sh.f3q:=by unfold T3;intros;kernel_rfl
theorem Kf:AF Tryz.prog Gs 53 (ap3 Sh.f3q):=FV mixed ((Af IX ((Af Ke ((Af Ln ((Af I4 (As _ _))))))))) Tryz.func53 (by kernel_rfl) KA
noncomputable def JB:Orc:=(ent 63 (ap2 Sh.f1) (ent 64 (ap1 Sh.fd) noO))
theorem Jr:T1 Tryz.prog Gs false JB Tryz.f174 (.tw .lf (.tw .lf (.tw (.tw .lf (.one (.loop [0,3,4] (.tw (.tw .lf (.tw .lf .lf)) (.tw (.one (.tw .lf (.one (.loop [0,3,4,5] (.tw (.tw .lf (.tw .lf .lf)) (.join [0,3,4,5] (.one (.tw .lf (.tw .lf (.tw (.reg [3,4,5,6,7,8,9,10,11,12,0,1,2,13,14]) (.tw .lf (.tw (.reg [8,3,4,5,6,7,9,0,1,2,10,11]) .lf)))))) .lf)))))) .lf))))) (.tw .lf .lf)))) .pureN Sh.f3r:=by unfold T1;intros;kernel_rfl
theorem IZ:AF Tryz.prog Gs 174 (ap1 Sh.f3r):=Bc mixed ((Af C3 ((Af Dr (As _ _))))) Tryz.func174 (by kernel_rfl) Jr
noncomputable def KZ:Orc:=(ent 174 (ap1 Sh.f3r) noO)
theorem KF:T1 Tryz.prog Gs false KZ Tryz.f106 (.tw .lf (.tw (.reg [0,1,2,3,4,5,6,7,8]) .lf)) .pureN Sh.f3s:=by unfold T1;intros;kernel_rfl
theorem Kj:AF Tryz.prog Gs 106 (ap1 Sh.f3s):=Bc mixed ((Af IZ (As _ _))) Tryz.func106 (by kernel_rfl) KF
noncomputable def Mf (m:Nat):Orc:=ent 108 (ap4 (Sh.fj m)) (ent 98 (ap1 Sh.ff) (ent 63 (ap2 Sh.f1) noO))
theorem L6 (m:Nat):T4 Tryz.prog Gs false (Mf m) Tryz.f108 (.tw .lf (.tw (.tw .lf (.tw (.tw .lf .lf) .lf)) (.tw .lf (.tw .lf (.tw (.tw .lf (.one (.loop [0,1,6,7,9,10,11] (.tw (.tw .lf (.tw .lf .lf)) (.join [0,1,6,7,9,10,11] (.one (.tw (.reg [0,2,3,4,1,5]) (.join [0,1,6,7,9,10,11,12,13] (.tw .lf (.tw .lf .lf)) (.join [0,1,6,7,9,10,11,12,13] (.tw .lf (.tw .lf .lf)) (.tw .lf (.tw .lf (.tw .lf (.tw .lf (.tw .lf .lf))))))))) .lf))))) (.tw .lf .lf)))))) .pureN (Sh.fj (m+1)):=by unfold T4;intros;kernel_rfl
theorem Gl:∀m,AF Tryz.prog Gs 108 (ap4 (Sh.fj m))
 | 0=>none_ok4 fun _ _ _ _ _=>rfl
 | m+1=>fn_ok4 mixed (Af (Gl m) ((Af Dd ((Af C3 (As _ _)))))) Tryz.func108 (by kernel_rfl) (L6 m)
noncomputable def KX:Orc:=(ent 103 (ap2 Sh.f8) noO)
theorem KD:T2 Tryz.prog Gs false KX Tryz.f165 (.tw .lf (.tw .lf (.tw (.tw .lf (.tw (.tw .lf .lf) .lf)) (.tw .lf .lf)))) .pure Sh.f21:=by unfold T2;intros;kernel_rfl
theorem Kh:AF Tryz.prog Gs 165 (ap2 Sh.f21):=Bd mixed ((Af De (As _ _))) Tryz.func165 (by kernel_rfl) KD
noncomputable def Mh:Orc:=(ent 165 (ap2 Sh.f21) noO)
theorem L8:T1 Tryz.prog Gs false Mh Tryz.f95 (.tw .lf (.tw .lf (.tw (.tw .lf (.one (.loop [0,3,4] (.tw (.tw .lf (.tw .lf .lf)) (.tw (.one (.tw .lf (.tw (.one (.loop [0,3,4,5] (.tw (.tw (.reg [0,1,2,3,4,5,6,7,8,9,10,11,12,13,14,15]) (.tw .lf .lf)) (.one .lf)))) (.tw (.reg [0,1,2,3,4,5,6,7,8,9,10,11,12,13,14,15,16]) (.tw .lf (.join [0,3,4,5,7] (.tw .lf (.tw .lf .lf)) (.reg [0,1,2,3,4,5,6,7,8,9,10,11,12]))))))) .lf))))) (.tw .lf (.tw (.tw .lf (.one (.loop [3,8,9] (.tw (.tw .lf (.tw .lf .lf)) (.join [3,8,9] (.one (.tw .lf (.tw .lf .lf))) .lf))))) (.tw .lf .lf)))))) .pureN Sh.f3u:=by unfold T1;intros;kernel_rfl
theorem Lq:AF Tryz.prog Gs 95 (ap1 Sh.f3u):=Bc mixed ((Af Kh (As _ _))) Tryz.func95 (by kernel_rfl) L8
noncomputable def Mg:Orc:=(ent 106 (ap1 Sh.f3s) (ent 64 (ap1 Sh.fd) (ent 103 (ap2 Sh.f8) (ent 107 (ap1 Sh.fy) (ent 98 (ap1 Sh.ff) (ent 97 (ap1 Sh.fi) (ent 108 (ap4 (Sh.fj AM)) (ent 95 (ap1 Sh.f3u) noO))))))))
theorem L7:T2 Tryz.prog Gs false Mg Tryz.f54 (.tw .lf (.tw (.tw .lf (.tw (.tw .lf .lf) .lf)) (.tw (.tw .lf (.tw (.tw .lf .lf) .lf)) (.tw .lf (.tw .lf .lf))))) .pureN Sh.f3v:=by unfold T2;intros;kernel_rfl
theorem Lp:AF Tryz.prog Gs 54 (ap2 Sh.f3v):=Bd mixed ((Af Kj ((Af Dr ((Af De ((Af Ga ((Af Dd ((Af DO ((Af (Gl AM) ((Af Lq (As _ _))))))))))))))))) Tryz.func54 (by kernel_rfl) L7
noncomputable def Og:Orc:=(ent 109 (ap1 Sh.fr) noO)
theorem NO:T2 Tryz.prog Gs false Og Tryz.f56 (.tw .lf (.tw (.tw .lf (.tw (.tw .lf .lf) .lf)) (.tw .lf (.tw .lf (.tw (.tw .lf (.one (.loop [0,1,6,7,8] (.tw (.tw .lf (.tw .lf .lf)) (.tw (.one (.tw .lf (.reg [0,1,2,3,4,5,6,11,12,7,8,9,10,13]))) .lf))))) (.tw .lf .lf)))))) .pureN Sh.f3w:=by unfold T2;intros;kernel_rfl
theorem MI:AF Tryz.prog Gs 56 (ap2 Sh.f3w):=Bd mixed ((Af Gp (As _ _))) Tryz.func56 (by kernel_rfl) NO
noncomputable def Ml:Orc:=(ent 56 (ap2 Sh.f3w) noO)
theorem LE:T1 Tryz.prog Gs false Ml Tryz.f22 (.tw .lf (.tw .lf (.tw .lf (.tw (.one (.loop [1,3,4] (.one (.tw .lf (.tw .lf (.tw .lf (.tw .lf (.tw .lf .lf)))))))) (.tw (.tw .lf (.tw (.tw .lf .lf) .lf)) (.tw .lf .lf)))))) .pure Sh.f9:=by unfold T1;intros;kernel_rfl
theorem Gn:AF Tryz.prog Gs 22 (ap1 Sh.f9):=Bc mixed ((Af MI (As _ _))) Tryz.func22 (by kernel_rfl) LE
noncomputable def KT:Orc:=(ent 53 (ap3 Sh.f3q) (ent 54 (ap2 Sh.f3v) (ent 22 (ap1 Sh.f9) noO)))
theorem K8:T2 Tryz.prog Gs false KT Tryz.f19 (.tw .lf (.tw .lf (.tw (.tw .lf (.tw (.tw .lf .lf) .lf)) (.tw .lf (.tw .lf (.tw (.tw .lf (.one (.loop [7,9,10] (.tw (.tw .lf (.tw .lf .lf)) (.tw (.one (.reg [1,2,3,4,5,6,9,10,11,12,13,14,0,7,8,15,16,17])) .lf))))) (.tw .lf .lf))))))) .pure Sh.fz:=by unfold T2;intros;kernel_rfl
theorem Kd:AF Tryz.prog Gs 19 (ap2 Sh.fz):=Bd mixed ((Af Kf ((Af Lp ((Af Gn (As _ _))))))) Tryz.func19 (by kernel_rfl) K8
noncomputable def TE:Orc:=(ent 37 (ap1 Sh.f1l) noO)
theorem SX:T1 Tryz.prog Gs false TE Tryz.f35 (.tw .lf (.tw .lf (.tw .lf (.tw (.reg [0,1,2,3,4,5,6,7,8,9,10,11]) .lf)))) .pure Sh.f10:=by unfold T1;intros;kernel_rfl
theorem Si:AF Tryz.prog Gs 35 (ap1 Sh.f10):=Bc mixed ((Af Ik (As _ _))) Tryz.func35 (by kernel_rfl) SX
theorem Gc:AF Tryz.prog Gs 16 (ap0 Sl.gliderref11_Wide):=by rw [Sl.gliderref11_Wide_eq];exact Ll
theorem Jc:AF Tryz.prog Gs 13 (ap2 Sl.life6_Read):=by rw [Sl.life6_Read_eq];exact Sg
theorem Jd:AF Tryz.prog Gs 19 (ap2 Sl.gliderref12_Life6):=by rw [Sl.gliderref12_Life6_eq];exact Kd
theorem Ri:AF Tryz.prog Gs 35 (ap1 Sl.life6_Hint):=by rw [Sl.life6_Hint_eq];exact Si
open Go.Proofs
set_option maxRecDepth 100000
noncomputable def Lh:Orc:=(ent 16 (ap0 Sl.gliderref11_Wide) (ent 13 (ap2 Sl.life6_Read) (ent 19 (ap2 Sl.gliderref12_Life6) (ent 35 (ap1 Sl.life6_Hint) noO))))
theorem KN:T0 Tryz.prog Gs false Lh Tryz.f12 (.tw .lf (.tw .lf (.tw .lf (.tw .lf (.tw .lf (.tw .lf (.tw .lf (.tw .lf (.tw .lf .lf))))))))) .pure Sh.f11:=by unfold T0;intros;kernel_rfl
theorem Kq:AF Tryz.prog Gs 12 (ap0 Sh.f11):=fn_ok0 mixed ((Af Gc ((Af Jc ((Af Jd ((Af Ri (As _ _))))))))) Tryz.func12 (by kernel_rfl) KN
noncomputable def Lg:Orc:=noO
theorem KM:T1 Tryz.prog Gs false Lg Tryz.f55 (.tw .lf (.tw .lf .lf)) .keep Sh.f3x:=by unfold T1;intros;kernel_rfl
theorem Ko:AF Tryz.prog Gs 55 (ap1 Sh.f3x):=Bc mixed (As _ _) Tryz.func55 (by kernel_rfl) KM
noncomputable def Le:Orc:=(ent 55 (ap1 Sh.f3x) noO)
theorem KK:T1 Tryz.prog Gs false Le Tryz.f21 (.tw .lf (.tw .lf .lf)) .pure Sh.f12:=by unfold T1;intros;kernel_rfl
theorem Kn:AF Tryz.prog Gs 21 (ap1 Sh.f12):=Bc mixed ((Af Ko (As _ _))) Tryz.func21 (by kernel_rfl) KK
open Go.Proofs
set_option maxRecDepth 100000
noncomputable def Lb:Orc:=noO
theorem KH:T2 Tryz.prog Gs false Lb Tryz.f101 (.tw .lf (.tw (.tw .lf (.tw (.tw .lf .lf) .lf)) (.tw (.tw .lf (.one (.loop [0,1,5] (.tw (.tw .lf (.tw .lf .lf)) (.tw (.one (.tw (.reg [0,1,2,3,4,5,6,7,8]) (.tw (.tw .lf .lf) .lf))) .lf))))) (.tw .lf .lf)))) .keep Sh.f3y:=by unfold T2;intros;kernel_rfl
theorem Kl:AF Tryz.prog Gs 101 (ap2 Sh.f3y):=Bd mixed (As _ _) Tryz.func101 (by kernel_rfl) KH
noncomputable def Mi:Orc:=(ent 101 (ap2 Sh.f3y) noO)
theorem L9:T2 Tryz.prog Gs false Mi Tryz.f48 (.tw .lf (.tw .lf .lf)) .pure Sh.f3z:=by unfold T2;intros;kernel_rfl
theorem Lr:AF Tryz.prog Gs 48 (ap2 Sh.f3z):=Bd mixed ((Af Kl (As _ _))) Tryz.func48 (by kernel_rfl) L9
noncomputable def Mc:Orc:=(ent 48 (ap2 Sh.f3z) noO)
theorem L3:T2 Tryz.prog Gs false Mc Tryz.f15 (.tw .lf (.tw .lf .lf)) .pure Sh.f13:=by unfold T2;intros;kernel_rfl
theorem Lm:AF Tryz.prog Gs 15 (ap2 Sh.f13):=Bd mixed ((Af Lr (As _ _))) Tryz.func15 (by kernel_rfl) L3
theorem Jg:AF Tryz.prog Gs 12 (ap0 Sl.gliderlaw17_alive):=by rw [Sl.gliderlaw17_alive_eq];exact Kq
theorem Kr:AF Tryz.prog Gs 15 (ap2 Sl.gliderref11_Same):=by rw [Sl.gliderref11_Same_eq];exact Lm
noncomputable def KY:Orc:=noO
theorem KE:T2 Tryz.prog Gs false KY Tryz.f20 (.tw .lf (.tw (.tw .lf (.tw (.tw .lf .lf) .lf)) (.tw (.tw .lf (.one (.loop [0,5] (.tw (.tw .lf (.tw .lf .lf)) (.tw (.one (.tw .lf (.tw (.tw .lf .lf) .lf))) .lf))))) (.tw .lf .lf)))) .keep Sh.f14:=by unfold T2;intros;kernel_rfl
theorem Ki:AF Tryz.prog Gs 20 (ap2 Sh.f14):=Bd mixed (As _ _) Tryz.func20 (by kernel_rfl) KE
theorem Je:AF Tryz.prog Gs 20 (ap2 Sl.gliderref07_Great):=by rw [Sl.gliderref07_Great_eq];exact Ki
theorem Jf:AF Tryz.prog Gs 21 (ap1 Sl.gliderref02_Right):=by rw [Sl.gliderref02_Right_eq];exact Kn
theorem Ks:AF Tryz.prog Gs 22 (ap1 Sl.gliderref03_Text):=by rw [Sl.gliderref03_Text_eq];exact Gn
noncomputable def Iw:Orc:=(ent 12 (ap0 Sl.gliderlaw17_alive) (ent 20 (ap2 Sl.gliderref07_Great) (ent 21 (ap1 Sl.gliderref02_Right) (ent 22 (ap1 Sl.gliderref03_Text) (ent 16 (ap0 Sl.gliderref11_Wide) (ent 13 (ap2 Sl.life6_Read) (ent 15 (ap2 Sl.gliderref11_Same) noO)))))))
theorem Iq:T2 Tryz.prog Gs false Iw Tryz.f5 (.tw .lf (.tw (.tw .lf (.tw (.tw .lf .lf) .lf)) (.tw (.tw .lf (.tw (.tw .lf .lf) .lf)) (.tw .lf (.tw (.tw .lf (.one (.loop [0,1,5,6,7] (.tw (.tw .lf (.tw .lf .lf)) (.tw (.one (.tw .lf (.tw (.tw .lf (.tw (.tw .lf .lf) .lf)) (.tw (.reg [1,2,3,4,5,6,9,10,11,12,13,14,0,7,8,15,16,17]) (.reg [0,1,2,4,5,6,3,7,8,9,10,11]))))) .lf))))) (.tw .lf (.tw .lf (.tw .lf (.tw (.reg [7,0,1,2,3,4,5,6,8,9,10,13,14,11,12,15,16]) (.tw .lf .lf)))))))))) .pure Sh.f5w:=by unfold T2;intros;kernel_rfl
theorem HU:AF Tryz.prog Gs 5 (ap2 Sh.f5w):=Bd mixed ((Af Jg ((Af Je ((Af Jf ((Af Ks ((Af Gc ((Af Jc ((Af Kr (As _ _))))))))))))))) Tryz.func5 (by kernel_rfl) Iq
def Lx (H:Aa) (p:Nat) (b:List UInt8) (a:Nat) (r:List Ab):Prop:=H[p]? = some (.cel 0 (.str b::.int .i64 (a:Int)::r))
theorem lx_b {H:Aa} {p a:Nat} {b:List UInt8} {r:List Ab} (h:Lx H p b a r):Ac false 1 (.ptr p 0 0) H=some (.str b):=by
 simp only [Ac,A5 h,Option.bind];rfl
theorem HS {H:Aa} {p a:Nat} {b:List UInt8} {r:List Ab} (h:Lx H p b a r):Ac false 1 (.ptr p 0 1) H=some (.int .i64 (a:Int)):=by
 simp only [Ac,A5 h,Option.bind];rfl
theorem Mq {H:Aa} {p a:Nat} {b:List UInt8} {r:List Ab} (h:Lx H p b a r):Sh.fb (.ptr p 0 0) H=some (.ret (.bool (decide (a=b.length))),H):=by
 unfold Sh.fb
 simp only [GMb,GMc,Aq,Ag,WE,lx_b h,HS h]
 by_cases e:a=b.length
 ·have e':(a:Int)=(b.length:Int):=by omega
  simp [e,e']
 ·have e':¬(a:Int)=(b.length:Int):=by omega
  simp [e,e']
def Ud (e:Int) (s:List UInt8):Ab:=.iface G9 (.agg [.int .i64 e,.str s])
theorem No {H:Aa} {p a:Nat} {b:List UInt8} {r:List Ab} (h:Lx H p b a r) (s:List UInt8):Sh.f5 (.ptr p 0 0) (.str s) H=some (.pan (if a=b.length then Ud 3 s else Ud 2 []),H):=by
 unfold Sh.f5
 simp only [GMb,GMc,Mq h]
 by_cases e:a=b.length
 ·simp only [e,GMb,GMc]
  rfl
 ·simp only [e,GMb,GMc]
  rfl
theorem lx_limit {H:Aa} (x:Ab):Sh.f29 x H=some (.pan (Ud 4 []),H):=rfl
theorem Wf (l:List UInt8) (c:UInt8):(0≤Lib.indexByte l c)↔c∈l:=by
 induction l with
 | nil=>simp [Lib.indexByte]
 | cons b l ih=>
  have hge:=Lib.indexByte_ge l c
  unfold Lib.indexByte
  by_cases h:b=c
  ·simp [h]
  ·have h':¬c=b:=fun e=>h e.symm
   by_cases h2:Lib.indexByte l c = -1
   ·have:¬c∈l:=fun hm=>by have:=ih.2 hm;omega
    simp [h,h',h2,this]
   ·have h3:0≤Lib.indexByte l c:=by omega
    have h4:=ih.1 h3
    simp [h,h2,h4]
    omega
def Cp (b:List UInt8) (a:Nat) (some:List UInt8):Bool:=match b[a]? with
 | none=>false
 | Option.some c=>some.contains c
theorem Np {H:Aa} {p a:Nat} {b:List UInt8} {r:List Ab} (h:Lx H p b a r) (ha:a≤b.length) (s:List UInt8):Sh.fe (.ptr p 0 0) (.str s) H=some (.ret (.bool (Cp b a s)),H):=by
 unfold Sh.fe Cp
 simp only [GMb,GMc,Mq h]
 by_cases e:a=b.length
 ·simp only [e,GMb,GMc]
  rw [WR (WF _)]
 ·have hlt:a<b.length:=by omega
  rw [WB hlt]
  have hi:Sh.f24 (.str s) (.int .u8 (b[a].toNat:Int)) H=some (.ret (.int .i64 (Lib.indexByte s b[a])),H):=by
   unfold Sh.f24;simp
  simp only [e,GMb,GMc,Aq,Ag,WE,lx_b h,HS h,Ny hlt,hi]
  by_cases hm:b[a]∈s
  ·have:=(Wf s b[a]).2 hm
   simp [hm,this]
  ·have:¬0≤Lib.indexByte s b[a]:=fun hc=>hm ((Wf s b[a]).1 hc)
   simp [hm,this]
theorem lx_step {H:Aa} {p a:Nat} {b:List UInt8} {r:List Ab} (h:Lx H p b a r) (n:Int):Ah 1 (.ptr p 0 1) (.int .i64 n) H=some (H.set p (.cel 0 (.str b::.int .i64 n::r))):=by
 simp only [Ah,A5 h,Option.bind,Ab.acells]
 simp [BT h,D9]
theorem lx_set {H:Aa} {p a a':Nat} {b:List UInt8} {r:List Ab} (h:Lx H p b a r):Lx (H.set p (.cel 0 (.str b::.int .i64 (a':Int)::r))) p b a' r:=by
 have:p<H.length:=by
  rcases Xs p H.length with h' | h'
  ·exact h'
  ·unfold Lx at h;rw [WR h']at h;cases h
 unfold Lx;simp [this]
def Cd (H:Aa) (p:Nat) (b:List UInt8) (r:List Ab) (a:Nat):Aa:=H.set p (.cel 0 (.str b::.int .i64 (a:Int)::r))
theorem EG {H:Aa} {p a:Nat} {b:List UInt8} {r:List Ab} (h:Lx H p b a r):Cd H p b r a=H:=by
 unfold Cd
 apply XZ
 intro i
 by_cases e:p=i
 ·subst e
  have:p<H.length:=by
   rcases Xs p H.length with h' | h'
   ·exact h'
   ·unfold Lx at h;rw [WR h']at h;cases h
  rw [WS this];exact h.symm
 ·rw [WI e]
theorem GA {H:Aa} {p a a':Nat} {b:List UInt8} {r:List Ab} (h:Lx H p b a r):Lx (Cd H p b r a') p b a' r:=lx_set h
theorem VC (H:Aa) (p a a':Nat) (b:List UInt8) (r r':List Ab):Cd (Cd H p b r a) p b r' a'=Cd H p b r' a':=by unfold Cd;rw [List.set_set]
theorem setL_len (H:Aa) (p a:Nat) (b:List UInt8) (r:List Ab):(Cd H p b r a).length=H.length:=by unfold Cd;simp
theorem Nq {H:Aa} {p a a':Nat} {b:List UInt8} {r:List Ab} (h:Lx H p b a r) (n:Nat):Ah 1 (.ptr p 0 1) (.int .i64 (n:Int)) (Cd H p b r a')=some (Cd H p b r n):=by
 rw [lx_step (GA h)]
 exact congrArg some (VC H p a' n b r r)
def Ro (b:List UInt8) (a:Nat) (s:List UInt8):Ab:=if a=b.length then Ud 3 s else Ud 2 []
def crN (b:List UInt8) (a:Nat):Nat:=if Cp b a [13]then a+1 else a
theorem Hw {b s:List UInt8} {a:Nat} (h:Cp b a s=true):a<b.length:=by
 rcases Xs a b.length with h' | h'
 ·exact h'
 ·unfold Cp at h;rw [WR h']at h;cases h
theorem crN_le {b:List UInt8} {a:Nat} (ha:a≤b.length):crN b a≤b.length:=by
 unfold crN
 cases hs:Cp b a [13]with
 | true=>exact Hw hs
 | false=>exact ha
def endO (H:Aa) (p:Nat) (b:List UInt8) (r:List Ab) (a:Nat) (rest:List UInt8):Out:=
 if a=b.length then some (.ret (.tup []),H)
 else if Cp b (crN b a) [10]then some (.ret (.tup []),Cd H p b r (crN b a+1))
 else some (.pan (Ro b (crN b a) (10::rest)),Cd H p b r (crN b a))
theorem lx_end {H:Aa} {p a:Nat} {b:List UInt8} {r:List Ab} (h:Lx H p b a r) (ha:a≤b.length) (hb:b.length<1152921504606846976) (rest:List UInt8) (hr:rest.length≤1000000) :
  Sh.fo (.ptr p 0 0) (.str rest) H=endO H p b r a rest:=by
 unfold Sh.fo endO
 simp only [GMb,GMc,Mq h]
 by_cases e:a=b.length
 ·simp only [e,GMb,GMc]
 ·have key:∀c,c≤b.length→Sh.f5y H (.ptr p 0 0) (.str rest) (Cd H p b r c)=if Cp b c [10]then some (.ret (.tup []),Cd H p b r (c+1))else some (.pan (Ro b c (10::rest)),Cd H p b r c):=by
   intro c hc
   have hx:=GA (a':=c) h
   unfold Sh.f5y
   simp only [GMb,GMc,Np hx hc]
   cases hs:Cp b c [10]with
   | true=>
    unfold Sh.f6q
    simp only [GMb,GMc,X2,Aq,Ag,WE,HS hx,Aw (show c<9223372036854775807 by omega),Nq h]
   | false=>
    have hcat:Ae .none .add (.str [10]) (.str rest)=some (.str (10::rest)):=CQ (by simp only [List.length_cons,List.length_nil];omega)
    simp only [GMb,GMc,XL,hcat,No hx]
    rfl
  simp only [e,GMb,GMc,Np h ha,AJ]
  unfold crN
  cases hs:Cp b a [13]with
  | true=>
   have hlt:a<b.length:=by omega
   have hm:=Nq (a':=a) h (a+1)
   rw [EG h]at hm
   simp only [GMb,GMc,Aq,Ag,WE,HS h,Aw (show a<9223372036854775807 by omega),hm]
   exact key (a+1) (by omega)
  | false=>
   have:=key a ha
   rw [EG h]at this
   simp only [GMb,GMc]
   rw [EG h]
   exact this
def cpN:List UInt8→List UInt8→Nat
 | a::l,b::m=>if a=b then cpN l m+1 else 0
 | _,_=>0
theorem Ux:∀a b:List UInt8,cpN a b≤a.length∧cpN a b≤b.length
 | [],_=>⟨Xd _,Xd _⟩
 | _::_,[]=>⟨Xd _,Xd _⟩
 | a::l,b::m=>by
  have:=Ux l m
  unfold cpN
  by_cases h:a=b
  ·rw [if_pos h];simp only [List.length_cons];omega
  ·rw [if_neg h];exact ⟨Xd _,Xd _⟩
theorem cpN_get:∀(a b:List UInt8) (i:Nat),i<cpN a b→a[i]? = b[i]?
 | [],_,i,h=>by simp [cpN]at h
 | _::_,[],i,h=>by simp [cpN]at h
 | a::l,b::m,i,h=>by
  unfold cpN at h
  by_cases e:a=b
  ·rw [if_pos e]at h
   cases i with
   | zero=>simp [e]
   | succ i=>simpa using cpN_get l m i (by omega)
  ·rw [if_neg e]at h;omega
theorem cpN_stop:∀(a b:List UInt8),cpN a b<a.length→cpN a b<b.length→a[cpN a b]? ≠ b[cpN a b]?
 | [],_,h,_=>by simp [cpN]at h
 | _::_,[],_,h=>by simp [cpN]at h
 | a::l,b::m,h,h2=>by
  by_cases e:a=b
  ·have ec:cpN (a::l) (b::m)=cpN l m+1:=by rw [cpN,if_pos e]
   rw [ec]at h h2 ⊢
   simpa using cpN_stop l m (by simpa using h) (by simpa using h2)
  ·have ec:cpN (a::l) (b::m)=0:=by rw [cpN,if_neg e]
   rw [ec];simpa using e
theorem q_common (a b:List UInt8) (H:Aa) (ha:a.length<1152921504606846976):Sh.f27 (.str a) (.str b) H=some (.ret (.int .i64 (cpN a b:Int)),H):=by
 unfold Sh.f27
 have hm:(min (a.length:Int) (b.length:Int))=((min a.length b.length:Nat):Int):=by omega
 have hle:=Ux a b
 have l1:Cr (.str a)=some (.int .i64 (a.length:Int)):=rfl
 have l2:Cr (.str b)=some (.int .i64 (b.length:Int)):=rfl
 simp only [GMb,GMc,l1,l2,min_int,hm]
 have key:=Bl (G:=fun rec1 vs H1=>Sh.f5x H rec1 (ag vs 0) (ag vs 1) (ag vs 2) (ag vs 3) (ag vs 4) H1) (σ:=Nat) (fun i=>i≤cpN a b)
  (fun i=>[.str a,.str b,.int .i64 ((min a.length b.length:Nat):Int),.int .i64 ((min a.length b.length:Nat):Int),.int .i64 (i:Int)]) (fun _=>H) (fun i=>cpN a b-i)
  (fun _=>some (.ret (.int .i64 (cpN a b:Int)),H)) (fun i rec hi hrec=>?_) 0 (Xd _) (by omega)
 ·exact key
 ·unfold Sh.f5x
  by_cases hlt:i<min a.length b.length
  ·have hlt':(i:Int)<((min a.length b.length:Nat):Int):=by omega
   have h1:i<a.length:=by omega
   have h2:i<b.length:=by omega
   simp only [GMb,GMc,Ai,hlt',Ny h1,Ny h2]
   by_cases e:i=cpN a b
   ·have hne:=cpN_stop a b (by omega) (by omega)
    rw [←e,WB h1,WB h2]at hne
    have hn:¬((a[i].toNat:Int)=(b[i].toNat:Int)):=fun hc=>hne (congrArg some (YK.1 (by omega)))
    simp only [hn,GMb,GMc,not_false_eq_true]
    rw [e]
   ·have hg:=cpN_get a b i (by omega)
    rw [WB h1,WB h2]at hg
    have hg':=Yi hg
    simp only [hg',GMb,GMc,not_true_eq_false,Aw (show i<9223372036854775807 by omega)]
    exact hrec (i+1) (by omega) (by omega)
  ·have hlt':¬(i:Int)<((min a.length b.length:Nat):Int):=by omega
   simp only [GMb,GMc,Ai,hlt']
   have:min a.length b.length=cpN a b:=by omega
   rw [this]
def mustO (H:Aa) (p:Nat) (b:List UInt8) (r:List Ab) (a:Nat) (s rest:List UInt8):Out:=
 if cpN (b.drop a) s<s.length then some (.pan (Ro b (a+cpN (b.drop a) s) (s.drop (cpN (b.drop a) s)++rest)),Cd H p b r (a+cpN (b.drop a) s))
 else some (.ret (.tup []),Cd H p b r (a+cpN (b.drop a) s))
theorem lx_must {H:Aa} {p a:Nat} {b:List UInt8} {r:List Ab} (h:Lx H p b a r) (ha:a≤b.length) (hb:b.length<1152921504606846976) (s rest:List UInt8) (hs:s.length≤1000000) (hr:rest.length≤1000000) :
  Sh.fn (.ptr p 0 0) (.str s) (.str rest) H=mustO H p b r a s rest:=by
 unfold Sh.fn mustO
 have hle:=Ux (b.drop a) s
 have hd:(b.drop a).length=b.length-a:=WZ
 have hq:=q_common (b.drop a) s H (by omega)
 have l2:Cr (.str s)=some (.int .i64 (s.length:Int)):=rfl
 generalize cpN (b.drop a) s=n at hq hle ⊢
 have hw:IntKind.i64.wrap ((a:Int)+(n:Int))=((a+n:Nat):Int):=by rw [Al] <;> omega
 have hm:=Nq (a':=a) h (a+n)
 rw [EG h]at hm
 have hx:=GA (a':=a+n) h
 simp only [GMb,GMc,Aq,Ag,WE,lx_b h,HS h,Hv ha,hq,hw,hm,l2]
 by_cases hc:n<s.length
 ·have hc':(n:Int)<(s.length:Int):=by omega
  have hcat:Ae .none .add (.str (s.drop n)) (.str rest)=some (.str (s.drop n++rest)):=CQ (by rw [WZ];omega)
  simp only [hc',GMb,GMc,Hv hle.2,hcat,No hx,if_pos hc]
  rfl
 ·have hc':¬(n:Int)<(s.length:Int):=by omega
  simp only [hc',GMb,GMc,if_neg hc]
def litN (b:List UInt8) (a:Nat) (s:List UInt8):Nat:=a+cpN (b.drop a) s
theorem litN_le {b:List UInt8} {a:Nat} (ha:a≤b.length) (s:List UInt8):litN b a s≤b.length:=by
 have:=(Ux (b.drop a) s).1
 rw [WZ]at this
 unfold litN;omega
theorem q_sign (c:UInt8) (H:Aa):Sh.f28 (.int .u8 (c.toNat:Int)) H=some (.ret (.bool (Pb c)),H):=by
 unfold Sh.f28 Pb
 by_cases h:(c.toNat:Int)>32
 ·have:33≤c.toNat:=by omega
  simp [h,this];omega
 ·have:¬33≤c.toNat:=by omega
  simp [h,this]
def onB (b:List UInt8) (f a:Nat):Bool:=match b[a]? with
 | none=>false
 | some c=>decide (a-f<40)&&Pb c
def HY (b:List UInt8) (f:Nat):Nat→Nat→Nat
 | 0,a=>a
 | n+1,a=>if onB b f a then HY b f n (a+1)else a
def ruleO (H:Aa) (p:Nat) (b:List UInt8) (r:List Ab) (f e:Nat) (rest:List UInt8):Out:=
 if e=f then some (.pan (Ro b e (97::rest)),Cd H p b r e)else some (.ret (.str ((b.take e).drop f)),Cd H p b r e)
theorem lx_rule_end {H:Aa} {p a f:Nat} {b:List UInt8} {r:List Ab} (h:Lx H p b f r) (hf:f≤a) (ha:a≤b.length) (rest:List UInt8) (hr:rest.length≤1000000) :
  (AJ (fun j2=>
 (Aq (.ptr p 0 0)).bind fun x51=>
 (Ad 1 x51).bind fun x52=>
 (Ac false 1 x52 (Cd H p b r a)).bind fun x53=>
 (Ae .none .eql x53 (.int .i64 (f:Int))).bind fun x54=>
 Ak x54 (
 (Ae .none .add (.str [97]) (.str rest)).bind fun x55=>
 bK H (Sh.f5 (.ptr p 0 0) x55 (Cd H p b r a)) fun x56 H57=>
 j2 [.ptr p 0 0,.int .i64 (f:Int)] H57) (
 j2 [.ptr p 0 0,.int .i64 (f:Int)] (Cd H p b r a))) (fun vs H1=>Sh.f5z H (ag vs 0) (ag vs 1) H1))=ruleO H p b r f a rest:=by
 have hx:=GA (a':=a) h
 unfold ruleO
 have hcat:Ae .none .add (.str [97]) (.str rest)=some (.str (97::rest)):=CQ (by simp only [List.length_cons,List.length_nil];omega)
 simp only [GMb,GMc,Aq,Ag,WE,HS hx]
 by_cases e:a=f
 ·simp only [e,GMb,GMc,hcat,if_pos]
  subst e
  simp only [No hx]
  rfl
 ·have e':¬(a:Int)=(f:Int):=by omega
  simp only [e',GMb,GMc,if_neg e]
  unfold Sh.f5z
  simp only [GMb,GMc,Aq,Ag,WE,HS hx,lx_b hx,V9 hf ha]
theorem Qp {b:List UInt8} {f a:Nat} (h:onB b f a=false):∀n,HY b f n a=a
 | 0=>rfl
 | n+1=>by rw [HY,h];rfl
theorem ruleN_on {b:List UInt8} {f a:Nat} (h:onB b f a=true) (hf:f≤a):HY b f (40-(a-f)) a=HY b f (40-(a+1-f)) (a+1):=by
 have:a-f<40:=by
  unfold onB at h
  split at h
  ·cases h
  ·simp at h;exact h.1
 have e:40-(a-f)=(40-(a+1-f))+1:=by omega
 rw [e,HY,h,if_pos rfl]
theorem onB_lt {b:List UInt8} {f a:Nat} (h:onB b f a=true):a<b.length:=by
 rcases Xs a b.length with h' | h'
 ·exact h'
 ·unfold onB at h;rw [WR h']at h;cases h
theorem lx_rule {H:Aa} {p f:Nat} {b:List UInt8} {r:List Ab} (h:Lx H p b f r) (hf:f≤b.length) (hb:b.length<1152921504606846976) (rest:List UInt8) (hr:rest.length≤1000000) :
  Sh.f1i (.ptr p 0 0) (.str rest) H=ruleO H p b r f (HY b f 40 f) rest:=by
 unfold Sh.f1i
 simp only [GMb,GMc,Aq,Ag,WE,HS h]
 have key:=Bl (G:=fun rec1 vs H1=>Sh.f60 H rec1 (ag vs 0) (ag vs 1) (ag vs 2) H1) (σ:=Nat) (fun i=>f≤i∧i≤b.length) (fun _=>[.ptr p 0 0,.str rest,.int .i64 (f:Int)]) (fun i=>Cd H p b r i) (fun i=>b.length-i)
  (fun i=>ruleO H p b r f (HY b f (40-(i-f)) i) rest) (fun i rec hi hrec=>?_) f ⟨WF _,hf⟩ (by omega)
 ·rw [EG h,Xn,Nat.sub_zero]at key;exact key
 ·unfold Sh.f60
  obtain ⟨h1,h2⟩:=hi
  have hx:=GA (a':=i) h
  have hend:=lx_rule_end h h1 h2 rest hr
  simp only [GMb,GMc,Mq hx]
  by_cases e:i=b.length
  ·have ho:onB b f i=false:=by unfold onB;rw [e,WR (WF _)]
   rw [Qp ho]
   simp only [e,GMb,GMc]at hend ⊢
   exact hend
  ·have hlt:i<b.length:=by omega
   have hw:IntKind.i64.wrap ((i:Int)-(f:Int))=((i-f:Nat):Int):=by rw [Al] <;> omega
   simp only [e,GMb,GMc,Aq,Ag,WE,HS hx,lx_b hx,hw]
   by_cases h40:i-f<40
   ·have h40':((i-f:Nat):Int)<40:=by omega
    simp only [h40',GMb,GMc,Ag,WE,HS hx,lx_b hx,Ny hlt,q_sign]
    cases hs:Pb b[i]with
    | true=>
     have ho:onB b f i=true:=by unfold onB;rw [WB hlt];simp [h40,hs]
     rw [ruleN_on ho h1]
     simp only [GMb,GMc,HS hx,Aw (show i<9223372036854775807 by omega),Nq h]
     exact hrec (i+1) ⟨by omega,by omega⟩ (by omega)
    | false=>
     have ho:onB b f i=false:=by unfold onB;rw [WB hlt];simp [hs]
     rw [Qp ho]
     simpa only [GMb,GMc,Aq,Ag,WE,HS hx]using hend
   ·have h40':¬((i-f:Nat):Int)<40:=by omega
    have ho:onB b f i=false:=by unfold onB;rw [WB hlt];simp [h40]
    rw [Qp ho]
    simpa only [h40',GMb,GMc,Aq,Ag,WE,HS hx]using hend
def eolN (b:List UInt8) (a:Nat):Nat:=if a=b.length then a else if Cp b (crN b a) [10]then crN b a+1 else crN b a
theorem eolN_le {b:List UInt8} {a:Nat} (ha:a≤b.length):eolN b a≤b.length:=by
 unfold eolN
 split
 ·exact ha
 ·split
  ·rename_i h;exact Hw h
  ·exact crN_le ha
theorem ruleN_le {b:List UInt8} {f:Nat}:∀(n a:Nat),a≤b.length→a≤HY b f n a∧HY b f n a≤b.length
 | 0,a,h=>⟨WF _,h⟩
 | n+1,a,h=>by
  rw [HY]
  cases ho:onB b f a with
  | true=>have:=ruleN_le (b:=b) (f:=f) n (a+1) (onB_lt ho);simp only [if_true];omega
  | false=>simp only [WL,if_false];omega
abbrev Er:=Option (Int×List UInt8)
def codeR:Er→Int
 | none=>0
 | some e=>e.1
@[simp] theorem codeR_none:codeR none=0:=rfl
@[simp] theorem codeR_some (e:Int×List UInt8):codeR (some e)=e.1:=rfl
def RQ (b:List UInt8) (a:Nat) (s:List UInt8):Int×List UInt8:=if a=b.length then (3,s)else (2,[])
def Ea (b:List UInt8) (a:Nat) (s rest:List UInt8):Er×Nat:=(if cpN (b.drop a) s<s.length then some (RQ b (litN b a s) (s.drop (cpN (b.drop a) s)++rest))else none,litN b a s)
def I0 (b:List UInt8) (a:Nat) (rest:List UInt8):Er×Nat:=(if a=b.length then none else if Cp b (crN b a) [10]then none else some (RQ b (crN b a) (10::rest)),eolN b a)
def RR (b:List UInt8) (f:Nat) (rest:List UInt8):Er×Nat:=(if HY b f 40 f=f then some (RQ b f (97::rest))else none,HY b f 40 f)
def Ij:List UInt8:=[48,49,50,51,52,53,54,55,56,57]
def Mp (b:List UInt8) (f:Nat) (rest:List UInt8):Nat→Nat→Er×Nat
 | 0,a=>(none,a)
 | n+1,a=>
  if Cp b a Ij then
   if f<a∧b[f]? = some 48 then (some (RQ b a []),a)
   else if a-f=400 then (some (4,[]),a)
   else Mp b f rest n (a+1)
  else if a=f then (some (RQ b a (49::rest)),a)else (none,a)
def Q7 (b:List UInt8) (a:Nat) (neg:Bool):Nat:=if neg&&Cp b a [45]then a+1 else a
def Gv (b:List UInt8) (a:Nat) (neg:Bool) (rest:List UInt8):Er×Nat:=
 if neg&&Cp b a [45]&&Cp b (a+1) [48]then (some (RQ b (a+1) []),a+1)else Mp b (Q7 b a neg) rest 402 (Q7 b a neg)
def usualL:List UInt8:=[66,51,47,83,50,51]
def MW (er:Er):Prop:=∀e,er=some e→0<e.1∧e.1≤4
theorem MW.none:MW none:=fun e h=>by cases h
theorem MW.stp (b:List UInt8) (a:Nat) (s:List UInt8):MW (some (RQ b a s)):=fun e h=>by
 injection h with h;subst h;unfold RQ;split <;> simp
theorem MW.lim:MW (some (4,[])):=fun e h=>by injection h with h;subst h;simp
theorem TN (b:List UInt8) (a:Nat) (s rest:List UInt8):MW (Ea b a s rest).1:=by
 unfold Ea;split
 ·exact .stp _ _ _
 ·exact .none
theorem endS_er (b:List UInt8) (a:Nat) (rest:List UInt8):MW (I0 b a rest).1:=by
 unfold I0;split
 ·exact .none
 ·split
  ·exact .none
  ·exact .stp _ _ _
theorem rulS_er (b:List UInt8) (f:Nat) (rest:List UInt8):MW (RR b f rest).1:=by
 unfold RR;split
 ·exact .stp _ _ _
 ·exact .none
theorem numS_er (b:List UInt8) (f:Nat) (rest:List UInt8):∀n a,MW (Mp b f rest n a).1
 | 0,a=>.none
 | n+1,a=>by
  unfold Mp
  split
  ·split
   ·exact .stp _ _ _
   ·split
    ·exact .lim
    ·exact numS_er b f rest n (a+1)
  ·split
   ·exact .stp _ _ _
   ·exact .none
theorem intS_er (b:List UInt8) (a:Nat) (neg:Bool) (rest:List UInt8):MW (Gv b a neg rest).1:=by
 unfold Gv;split
 ·exact .stp _ _ _
 ·exact numS_er _ _ _ _ _
theorem Lx.push {H G:Aa} {p a:Nat} {b:List UInt8} {r:List Ab} (h:Lx H p b a r):Lx (H++G) p b a r:=by
 have:p<H.length:=by
  rcases Xs p H.length with h' | h'
  ·exact h'
  ·unfold Lx at h;rw [WR h']at h;cases h
 unfold Lx
 rw [WD this];exact h
theorem digs_mem (c:UInt8):([48,49,50,51,52,53,54,55,56,57]:List UInt8).contains c=decide (48≤c.toNat∧c.toNat≤57):=by
 simp only [List.contains_eq_mem,Xk,List.not_mem_nil,or_false,decide_eq_decide,←YK]
 simp only [UInt8.reduceToNat]
 omega

def OI (b:List UInt8) (f:Nat) (rest:List UInt8):Nat→Nat→Option Ab×Nat
 | 0,a=>(none,a)
 | n+1,a=>
  if Cp b a Ij then
   if f<a∧b[f]? = some 48 then (some (Ro b a []),a)
   else if a-f=400 then (some (Ud 4 []),a)
   else OI b f rest n (a+1)
  else if a=f then (some (Ro b a (49::rest)),a)else (none,a)
theorem numR_le (b:List UInt8) (f:Nat) (rest:List UInt8):∀n a,a≤b.length→a≤(OI b f rest n a).2∧(OI b f rest n a).2≤b.length
 | 0,a,h=>⟨WF _,h⟩
 | n+1,a,h=>by
  unfold OI
  by_cases hs:Cp b a Ij=true
  ·rw [if_pos hs]
   by_cases h1:f<a∧b[f]? = some 48
   ·rw [if_pos h1];exact ⟨WF _,h⟩
   ·rw [if_neg h1]
    by_cases h2:a-f=400
    ·rw [if_pos h2];exact ⟨WF _,h⟩
    ·rw [if_neg h2]
     have:=numR_le b f rest n (a+1) (Hw hs)
     exact ⟨by omega,this.2⟩
  ·rw [if_neg hs]
   by_cases h1:a=f
   ·rw [if_pos h1];exact ⟨WF _,h⟩
   ·rw [if_neg h1];exact ⟨WF _,h⟩
theorem numR_on {b:List UInt8} {f a:Nat} {rest:List UInt8} {n:Nat} (hs:Cp b a Ij=true) (h1:¬(f<a∧b[f]? = some 48)) (h2:¬a-f=400):OI b f rest (n+1) a=OI b f rest n (a+1):=by
 rw [OI,if_pos hs,if_neg h1,if_neg h2]
noncomputable def numO (H0 K:Aa) (p:Nat) (b:List UInt8) (r:List Ab) (q from_:Ab):Option Ab×Nat→Out
 | (some v,e)=>some (.pan v,Cd K p b r e)
 | (none,e)=>Sh.f41 H0 (.ptr p 0 0) q from_ (Cd K p b r e)
theorem lx_num_loop {H0 K:Aa} {p f:Nat} {b:List UInt8} {r:List Ab} (h:Lx K p b f r) (hf:f≤b.length) (hb:b.length<1152921504606846976) (rest:List UInt8) (hr:rest.length≤1000000) (q from_:Ab) :
  An (fun rec2 vs H=>Sh.f4q H0 rec2 (ag vs 0) (ag vs 1) (ag vs 2) (ag vs 3) (ag vs 4) H) AM [.ptr p 0 0,.str rest,q,from_,.int .i64 (f:Int)] K=numO H0 K p b r q from_ (OI b f rest 402 f):=by
 have key:=Bl (G:=fun rec2 vs H=>Sh.f4q H0 rec2 (ag vs 0) (ag vs 1) (ag vs 2) (ag vs 3) (ag vs 4) H) (σ:=Nat) (fun i=>f≤i∧i≤b.length∧i-f≤400) (fun _=>[.ptr p 0 0,.str rest,q,from_,.int .i64 (f:Int)]) (fun i=>Cd K p b r i) (fun i=>b.length-i)
  (fun i=>numO H0 K p b r q from_ (OI b f rest (402-(i-f)) i)) (fun i rec hi hrec=>?_) f ⟨WF _,hf,by omega⟩ (by omega)
 ·rw [EG h,Xn,Nat.sub_zero]at key;exact key
 ·obtain ⟨h1,h2,h3⟩:=hi
  have hx:=GA (a':=i) h
  have e:402-(i-f)=(401-(i-f))+1:=by omega
  have hcat:Ae .none .add (.str [49]) (.str rest)=some (.str (49::rest)):=CQ (by simp only [List.length_cons,List.length_nil];omega)
  unfold Sh.f4q
  have hsee:=Np hx h2 Ij
  unfold Ij at hsee
  rw [e]
  have hseesd:Cp b i [48,49,50,51,52,53,54,55,56,57]=Cp b i Ij:=rfl
  simp only [GMb,GMc,hsee,hseesd]
  cases hs:Cp b i Ij with
  | true=>
   have hlt:=Hw hs
   have hfl:f<b.length:=by omega
   have hw:IntKind.i64.wrap ((i:Int)-(f:Int))=((i-f:Nat):Int):=by rw [Al] <;> omega
   have tail:¬(f<i∧b[f]? = some 48)→((Ae .none .sub (.int .i64 (i:Int)) (.int .i64 (f:Int))).bind fun x56=>
     (Ae .none .eql x56 (.int .i64 400)).bind fun x57=>
     Ak x57 (bK H0 (Sh.f29 (.ptr p 0 0) (Cd K p b r i)) fun x58 H59=>Sh.f4p H0 rec (.ptr p 0 0) (.str rest) q from_ (.int .i64 (f:Int)) H59)
      (Sh.f4p H0 rec (.ptr p 0 0) (.str rest) q from_ (.int .i64 (f:Int)) (Cd K p b r i)))=numO H0 K p b r q from_ (OI b f rest (401-(i-f)+1) i):=by
    intro hn
    simp only [GMb,GMc,hw]
    by_cases h4:i-f=400
    ·have h4':((i-f:Nat):Int)=400:=by omega
     rw [OI,if_pos hs,if_neg hn,if_pos h4]
     simp only [h4',GMb,GMc,lx_limit]
     rfl
    ·have h4':¬((i-f:Nat):Int)=400:=by omega
     rw [numR_on hs hn h4]
     unfold Sh.f4p
     simp only [h4',GMb,GMc,Aq,Ag,WE,HS hx,Aw (show i<9223372036854775807 by omega),Nq h]
     have:=hrec (i+1) ⟨by omega,by omega,by omega⟩ (by omega)
     rw [show 402-(i+1-f)=401-(i-f)by omega]at this
     exact this
   by_cases hfi:f<i
   ·have hfi':(i:Int)>(f:Int):=by omega
    simp only [GMb,GMc,Aq,Ag,WE,HS hx,lx_b hx,hfi',Ny hfl,Ai]
    by_cases h0:b[f]=48
    ·rw [OI,if_pos hs,if_pos ⟨hfi,by rw [WB hfl,h0]⟩]
     simp only [h0,GMb,GMc,No hx]
     rfl
    ·have h0':¬((b[f].toNat:Int)=48):=fun hc=>h0 (YK.1 (by show b[f].toNat=48;omega))
     simp only [h0',GMb,GMc]
     exact tail (fun hc=>h0 (by have:=hc.2;rw [WB hfl]at this;exact Yi this))
   ·have hfi':¬(i:Int)>(f:Int):=by omega
    simp only [GMb,GMc,Aq,Ag,WE,HS hx,hfi',Ai]
    exact tail (fun hc=>hfi hc.1)
  | false=>
   rw [OI,if_neg (by rw [hs];exact Bool.false_ne_true)]
   simp only [GMb,GMc,Aq,Ag,WE,HS hx,Ai]
   by_cases he:i=f
   ·have he':(i:Int)=(f:Int):=by omega
    rw [if_pos he]
    simp only [he',GMb,GMc,hcat,No hx]
    rfl
   ·have he':¬(i:Int)=(f:Int):=by omega
    rw [if_neg he]
    simp only [he',GMb,GMc]
    rfl
theorem PL (n:Nat):0<(BV n).length:=by
 unfold BV
 split <;> simp
section
variable {H:Aa} {id g i:Nat} {L:List (List UInt8)}
end
theorem HG {n:Nat} (h:n<10):BV n=[UInt8.ofNat (48+n)]:=by unfold BV;rw [dif_pos h]
theorem Uw {n:Nat} (h:¬n<10):BV n=BV (n / 10)++[UInt8.ofNat (48+n%10)]:=by
 conv=>lhs;unfold BV
 rw [dif_neg h]
theorem QY (n:Nat) (h:n≠0):∃c r,BV n=c::r∧c≠48:=by
 induction n using Nat.strongRecOn with
 | ind n ih=>
  by_cases hn:n<10
  ·refine ⟨_,_,HG hn,fun e=>?_⟩
   have:=congrArg UInt8.toNat e
   rw [Ym (show 48+n<256 by omega)]at this
   have h48:(48:UInt8).toNat=48:=rfl
   omega
  ·obtain ⟨c,r,h1,h2⟩:=ih (n / 10) (by omega) (by omega)
   exact ⟨c,r++[UInt8.ofNat (48+n%10)],by rw [Uw hn,h1];rfl,h2⟩
theorem pow10_up {a b:Nat} (h:a≤b):10^a≤10^b:=Xm (by omega) h
theorem decZ_zero:Do 0=[48]:=by
 unfold Do
 rw [if_neg (by decide)]
 exact HG (by decide)
def GX (c:UInt8):Bool:=decide (48≤c.toNat)&&decide (c.toNat≤57)
def Hj (s:List UInt8):Nat:=(s.takeWhile GX).length
theorem digN_le (s:List UInt8):Hj s≤s.length:=(List.takeWhile_sublist GX).length_le
theorem QV (c:UInt8) (s:List UInt8):Hj (c::s)=if GX c then Hj s+1 else 0:=by
 unfold Hj
 rw [YM]
 split <;> simp
theorem byteAt (s:List UInt8) (pos:Nat) (h:pos<s.length):((⟨s.toArray⟩:ByteArray)[pos]'(by show pos<s.toArray.size;simpa using h))=s[pos]:=by
 show s.toArray[pos]=s[pos]
 simp
theorem idx_from (s:List UInt8):∀(f pos:Nat),pos≤s.length→s.length-pos≤f→Lib.idxFuncFrom K1 true ⟨s.toArray⟩ f pos=if pos+Hj (s.drop pos)<s.length then ((pos+Hj (s.drop pos):Nat):Int)else -1
 | 0,pos,h1,h2=>by
  have:pos=s.length:=by omega
  subst this
  rw [Lib.idxFuncFrom,if_neg (by omega)]
 | f+1,pos,h1,h2=>by
  have hsz:(⟨s.toArray⟩:ByteArray).size=s.length:=by simp [ByteArray.size]
  unfold Lib.idxFuncFrom
  rw [hsz]
  by_cases hp:pos<s.length
  ·rw [if_pos hp,Xf hp,QV]
   have hb:=byteAt s pos hp
   by_cases ha:s[pos].toNat<128
   ·rw [decode_ascii ⟨s.toArray⟩ pos (by omega) (by rw [hb];exact ha),hb]
    simp only []
    by_cases hd:GX s[pos]=true
    ·have hnd:K1 s[pos].toNat=false:=by
      simp only [GX,WO,decide_eq_true_eq]at hd
      simp only [K1,Zu,decide_eq_false_iff_not]
      omega
     rw [hnd,if_neg (by simp),if_pos hd,idx_from s f (pos+1) (by omega) (by omega)]
     rw [show pos+(Hj (s.drop (pos+1))+1)=pos+1+Hj (s.drop (pos+1))by omega]
    ·have hnd:K1 s[pos].toNat=true:=by
      simp only [GX,WO,decide_eq_true_eq]at hd
      simp only [K1,XO,decide_eq_true_eq]
      omega
     rw [hnd,if_pos rfl,if_neg hd,if_pos (by omega)]
     rfl
   ·obtain ⟨k1,k2⟩:=decode_high ⟨s.toArray⟩ pos (by omega) (by rw [hb];omega)
    have hd:¬GX s[pos]=true:=by
     simp only [GX,WO,decide_eq_true_eq]
     omega
    have hnd:K1 (Utf8.decode ⟨s.toArray⟩ pos).1=true:=by
     simp only [K1,XO,decide_eq_true_eq]
     omega
    rw [hnd,if_pos rfl,if_neg hd,if_pos (by omega)]
    rfl
  ·rw [if_neg hp,if_neg (by omega)]
theorem idx_dig (s:List UInt8):Lib.idxFunc K1 true ⟨s.toArray⟩=if Hj s<s.length then (Hj s:Int)else -1:=by
 have hsz:(⟨s.toArray⟩:ByteArray).size=s.length:=by simp [ByteArray.size]
 have:=idx_from s s.length 0 (Xd _) (by omega)
 rw [WE,Yd]at this
 rw [Lib.idxFunc,hsz,this]
def digA (s:List UInt8) (at':Int):Nat:=if at'<0 then 0 else Hj (s.drop at'.toNat)
theorem q_digits (s:List UInt8) (at':Int) (H:Aa) (hs:s.length<1152921504606846976):Sh.f2c (.str s) (.int .i64 at') H=some (.ret (.int .i64 (digA s at')),H):=by
 unfold Sh.f2c digA
 by_cases h0:at'<0
 ·simp only [GMb,GMc,h0,if_true]
  rfl
 ·obtain ⟨a,rfl⟩:∃a:Nat,at'=(a:Int):=⟨at'.toNat,by omega⟩
  simp only [GMb,GMc,h0,if_false,Ic,Int.toNat_natCast]
  by_cases h1:a≤s.length
  ·have h1':¬((a:Int)>(s.length:Int)):=by omega
   have hsl:BF (.str s) (some (.int .i64 (a:Int))) none=some (.str (s.drop a)):=by
    simp [BF,Bk,h1]
   have hi:Sh.f23 (.str (s.drop a)) (.fn 235 []) H=some (.ret (.int .i64 (if Hj (s.drop a)<(s.drop a).length then (Hj (s.drop a):Int)else -1)),H):=by
    unfold Sh.f23
    simp only [idx_dig]
   have hle:=digN_le (s.drop a)
   simp only [h1',GMb,GMc,hsl]
   by_cases hd:Hj (s.drop a)<(s.drop a).length
   ·have:¬((Hj (s.drop a):Int)<0):=by omega
    rw [hi,if_pos hd]
    simp only [this,GMb,GMc]
   ·have e:Hj (s.drop a)=(s.drop a).length:=by omega
    rw [hi,if_neg hd]
    simp only [show ((-1:Int)<0) from by decide,GMb,GMc,Ic,←e]
  ·have h1':(a:Int)>(s.length:Int):=by omega
   rw [XR (by omega)]
   simp only [h1',GMb,GMc]
   rfl
def Hk (s:List UInt8):Nat:=s.foldl (fun v c=>v*10+(c.toNat-48)) 0
theorem N6 (s:List UInt8) (c:UInt8):Hk (s++[c])=Hk s*10+(c.toNat-48):=by simp [Hk]
theorem Uv {s:List UInt8} (h:Hj s=s.length):∀c∈s,GX c=true:=by
 induction s with
 | nil=>intro c hc;cases hc
 | cons x s ih=>
  rw [QV]at h
  by_cases hx:GX x=true
  ·rw [if_pos hx,List.length_cons]at h
   intro c hc
   rcases Xk.1 hc with e | e
   ·rw [e];exact hx
   ·exact ih (by omega) c e
  ·rw [if_neg hx]at h
   simp at h
theorem Ee (c:UInt8):GX c=true↔48≤c.toNat∧c.toNat≤57:=by simp [GX]
theorem decV_lt {s:List UInt8} (h:∀c∈s,GX c=true):∀i,i≤s.length→Hk (s.take i)<10^i
 | 0,_=>by simp [Hk]
 | i+1,hi=>by
  have:=decV_lt h i (by omega)
  have hc:=(Ee _).1 (h _ (WP (show i<s.length by omega)))
  rw [WM (by omega),N6,Nat.pow_succ]
  omega
def NS (s:List UInt8):Bool:=match s with
 | c::_=>c == 45
 | []=>false
def BR (s:List UInt8):List UInt8:=if NS s then s.drop 1 else s
def NR (s:List UInt8):Bool:=BR s == []||decide (Hj (BR s)<(BR s).length)||((BR s)[0]?.getD 0 == 48 && !(s == [48]))
def FQ (s:List UInt8):Int:=if NR s then 2 else if (BR s).length>400 then 4 else 0
def BJ (s:List UInt8):Int:=if FQ s=0 then (if NS s then -(Hk (BR s):Int)else Hk (BR s))else 0
theorem q_cutprefix (s:List UInt8) (H:Aa) (hs:s.length<1152921504606846976):Sh.f2b (.str s) (.str [45]) H=some (.ret (.tup [.str (BR s),.bool (NS s)]),H):=by
 have hp:Sh.f2a (.str s) (.str [45]) H=some (.ret (.bool (NS s)),H):=by
  unfold Sh.f2a
  cases s with
  | nil=>simp [Cr,NS]
  | cons c r=>
   have h1:((c::r).length:Int)≥(([45]:List UInt8).length:Int):=by simp;omega
   have h2:BF (.str (c::r)) none (some (.int .i64 (([45]:List UInt8).length:Int)))=some (.str [c]):=by
    rw [OZ (by simp)];rfl
   simp only [Ic,GMb,GMc,h1,h2,MO]
   simp [NS]
 unfold Sh.f2b Sh.f40
 cases hb:NS s with
 | false=>simp only [GMb,GMc,hp,hb,Cn,Cz,BR,WL,if_false]
 | true=>
  have h2:BF (.str s) (some (.int .i64 (([45]:List UInt8).length:Int))) none=some (.str (s.drop 1)):=by
   refine Hv (l:=1) ?_
   cases s with
   | nil=>cases hb
   | cons c r=>simp
  simp only [GMb,GMc,hp,hb,Ic,h2,Cn,Cz,BR,if_true]
theorem next_dig {B:Aa} {d:List UInt8} {i:Nat} (h:i<d.length) (hd:d[i].toNat<128):Pu (.ptr B.length 0 0) (B++[.iter d i])=some (.tup [.bool true,.int .i64 (i:Int),.int .i32 (d[i].toNat:Int)],B++[.iter d (i+1)]):=by
 have hb:=byteAt d i h
 have hdec:=decode_ascii ⟨d.toArray⟩ i (by show i<d.toArray.size;simpa using h) (by rw [hb];exact hd)
 simp only [Pu,List.getElem?_concat_length,h,if_true,hdec,hb,Bv]
theorem next_end {B:Aa} {d:List UInt8}:Pu (.ptr B.length 0 0) (B++[.iter d d.length])=some (.tup [.bool false],B++[.iter d d.length]):=by
 simp [Pu]
theorem fin_big {H G:Aa} {zb:List Ab} {neg:Bool} {l:List Nat} {tk:Tok} {e:Int} (hz:zb.length=2) :
  (bP H (AH (Ah 2 (.ptr H.length 0 0) (.agg [.bool neg,.sl (enL cU l) tk]) (H++(.cel 0 zb::G)))) fun _ H40=>(IF [Ac true 2 (.ptr H.length 0 0) H40,some (.int .i64 e)]).bind fun x=>rPN H x H40)=some (.ret (.tup [.agg [.bool neg,.sl (enL cU l) .no],.int .i64 e]),H):=by
 have h1:Ah 2 (.ptr H.length 0 0) (.agg [.bool neg,.sl (enL cU l) tk]) (H++(.cel 0 zb::G))=some (H++(.cel 0 [.bool neg,.sl (enL cU l) tk]::G)):=by
  rw [Jv,Nb (vs:=[.bool neg,.sl (enL cU l) tk]) rfl hz rfl]
  rfl
 have h2:Ac true 2 (.ptr H.length 0 0) (H++(.cel 0 [.bool neg,.sl (enL cU l) tk]::G))=some (.agg [.bool neg,.sl (enL cU l) tk]):=by
  rw [IM];rfl
 simp only [h1,GMb,GMc,h2,Sy,Ng,Pc,Option.map_some,Ct,FW,Da,DK,N1,Ii,JQ,PC,OO,N0]
theorem big_zero:Ab.agg [.bool false,.sl (enL cU []) .no]=big 0:=by
 rw [UD,show (0:Int).natAbs=0 from rfl,CW]
 rfl
theorem big_of {neg:Bool} {n:Nat} (h:neg=true→n≠0):Ab.agg [.bool neg,.sl (enL cU (A0 n)) .no]=big (if neg then -(n:Int)else n):=by
 have h1:=big_sgn neg n
 have h2:sgn neg n=neg:=by
  unfold sgn
  cases neg with
  | false=>rfl
  | true=>simp [h rfl]
 rw [h2]at h1
 rw [h1]
 rfl
theorem UA:AB (some [(.bool false),(.sl [] .tight)]) []=some (.agg [.bool false,.sl (enL cU []) .tight]):=rfl
theorem build_both {neg:Bool} {es:List (List Ab)} {tk:Tok}:AB (some [(.bool false),(.sl [] .tight)]) [(0,1,.bool neg),(1,1,.sl es tk)]=some (.agg [.bool neg,.sl es tk]):=by simp [AB,Gj,D9]
theorem syn_dig {s:List UInt8} (h:NR s=false):BR s≠[]∧Hj (BR s)=(BR s).length∧((BR s)[0]?.getD 0=48→s=[48]):=by
 unfold NR at h
 simp only [Zu,Yg,beq_eq_false_iff_ne,decide_eq_false_iff_not,ne_eq,YV,beq_iff_eq]at h
 have:=digN_le (BR s)
 refine ⟨h.1.1,by omega,fun h0=>?_⟩
 rcases h.2 with h3 | h3
 ·exact absurd h0 h3
 ·exact h3
theorem decV_cons (c:UInt8) (s:List UInt8):Hk (c::s)=(c.toNat-48)*10^s.length+Hk s:=by
 have key:∀(s:List UInt8) (v:Nat),s.foldl (fun v c=>v*10+(c.toNat-48)) v=v*10^s.length+Hk s:=by
  intro s
  induction s with
  | nil=>intro v;simp [Hk]
  | cons x s ih=>
   intro v
   rw [List.foldl_cons,ih,List.length_cons,Nat.pow_succ]
   have e:Hk (x::s)=(x.toNat-48)*10^s.length+Hk s:=by
    have:=ih (0*10+(x.toNat-48))
    rw [YO,WE]at this
    unfold Hk
    rw [List.foldl_cons,YO,WE]
    exact this
   rw [e,Xz,Yn v 10,XP 10]
   omega
 have:=key s (0*10+(c.toNat-48))
 rw [YO,WE]at this
 conv=>lhs;unfold Hk
 rw [List.foldl_cons,YO,WE]
 exact this
theorem decV_ne {s:List UInt8} (h:NR s=false) (hn:NS s=true):Hk (BR s)≠0:=by
 obtain ⟨h1,h2,h3⟩:=syn_dig h
 cases hd:BR s with
 | nil=>exact absurd hd h1
 | cons c r=>
  rw [decV_cons]
  have hc:=Uv h2 c (by rw [hd];simp)
  rw [Ee]at hc
  have h48:c.toNat≠48:=fun e=>by
   have:c=48:=UInt8.toNat.inj e
   have:=h3 (by rw [hd,this];rfl)
   rw [this]at hn
   cases hn
  have:1≤10^r.length:=Yx (by omega)
  have:1≤(c.toNat-48)*10^r.length:=Nat.mul_pos (by omega) this
  omega
theorem wrap_i32 {n:Int} (h0:-2147483648≤n) (h:n≤2147483647):IntKind.i32.wrap n=n:=by
 have h1:IntKind.i32.bits=32:=rfl
 have h2:IntKind.i32.signed=true:=rfl
 unfold IntKind.wrap
 simp only [h1,h2,X7]
 split <;> rename_i hc <;> simp at hc <;> omega
theorem wrap_dig {c:UInt8} (h:GX c=true):IntKind.i32.wrap ((c.toNat:Int)-48)=((c.toNat-48:Nat):Int):=by
 rw [Ee]at h
 rw [wrap_i32 (by omega) (by omega)]
 omega
theorem lims_short2 {n m:Nat} (h:n<10^m) (hm:m≤4096):(A0 n).length≤4096:=TW (n:=n) (X5 (m:=10^m) h (pow10_up (a:=m) (b:=4096) hm))
theorem q_parse (s:List UInt8) (H:Aa) (hs:s.length<1152921504606846976):Sh.f2e (.str s) H=some (.ret (.tup [big (BJ s),.int .i64 (FQ s)]),H):=by
 unfold Sh.f2e
 have htl:(BR s).length≤s.length:=by unfold BR;split <;> simp
 have hcp:=q_cutprefix s (H++[Blk.cel 0 [.bool false,.sl [] .tight]]) hs
 have hdg:=q_digits (BR s) 0 (H++[Blk.cel 0 [.bool false,.sl [] .tight]]) (by omega)
 have hd0:(digA (BR s) 0:Int)=(Hj (BR s):Int):=by simp [digA]
 rw [hd0]at hdg
 simp only [alloc_eq (cs:=[.bool false,.sl [] .tight]) rfl,Bm,hcp,GMb,GMc,Cn,Cz,MO]
 have tail:Sh.f62 H (.ptr H.length 0 0) (.str (BR s)) (.bool (NS s)) (.bool (NR s)) (H++[Blk.cel 0 [.bool false,.sl [] .tight]])=some (.ret (.tup [big (BJ s),.int .i64 (FQ s)]),H):=by
  unfold Sh.f62
  cases hsyn:NR s with
  | true=>
   have hE:FQ s=2:=by simp [FQ,hsyn]
   have hZ:BJ s=0:=by simp [BJ,hE]
   rw [hE,hZ,←big_zero]
   simp only [GMb,GMc,UA]
   exact fin_big rfl
  | false=>
   obtain ⟨n1,n2,n3⟩:=syn_dig hsyn
   simp only [GMb,GMc,Ic]
   by_cases hl:(BR s).length>400
   ·have hl':((BR s).length:Int)>400:=by omega
    have hE:FQ s=4:=by simp [FQ,hsyn,hl]
    have hZ:BJ s=0:=by simp [BJ,hE]
    rw [hE,hZ,←big_zero]
    simp only [hl',GMb,GMc,UA]
    exact fin_big rfl
   ·have hl':¬((BR s).length:Int)>400:=by omega
    have hE:FQ s=0:=by simp [FQ,hsyn,hl]
    have hZ:BJ s=(if NS s then -(Hk (BR s):Int)else Hk (BR s)):=by simp [BJ,hE]
    have hne:=decV_ne hsyn
    have hall:=Uv n2
    have hlt:=decV_lt hall
    rw [hE,hZ,←big_of (neg:=NS s) hne]
    generalize hd:BR s=d at *
    simp only [hl',GMb,GMc]
    have hrg:O8 (.str d) (H++[Blk.cel 0 [.bool false,.sl [] .tight]])=some (.ptr (H.length+1) 0 0,H++[.cel 0 [.bool false,.sl [] .tight]]++[.iter d 0]):=by simp [O8]
    simp only [hrg,GMb,GMc]
    have hBl:(H++[Blk.cel 0 [.bool false,.sl [] .tight]]).length=H.length+1:=by simp
    obtain ⟨tkf,htk⟩:∃tkf:Nat→Tok,tkf=fun i=>if i=0 then .tight else .no:=⟨_,rfl⟩
    have key:=Cf (G:=fun rec2 vs H1=>Sh.f4o H rec2 (ag vs 0) (ag vs 1) (ag vs 2) (ag vs 3) H1) d.length (fun i=>[.ptr H.length 0 0,.bool (NS s),.sl (enL cU (A0 (Hk (d.take i)))) (tkf i),.ptr (H.length+1) 0 0])
     (fun i=>H++[.cel 0 [.bool false,.sl [] .tight]]++[.iter d i]) (some (.ret (.tup [.agg [.bool (NS s),.sl (enL cU (A0 (Hk d))) .no],.int .i64 0]),H)) (by omega) (fun rec i hi=>?_) (fun rec=>?_)
    ·rw [List.take_zero,show Hk []=0 from rfl,CW,htk]at key
     exact key
    ·have hdi:=hall _ (WP hi)
     have hdi2:=(Ee _).1 hdi
     have hnx:=next_dig (B:=H++[Blk.cel 0 [.bool false,.sl [] .tight]]) hi (by omega)
     rw [hBl]at hnx
     have hw:=wrap_dig hdi
     have hcv:A9 .u32 (.int .i32 ((d[i].toNat-48:Nat):Int))=some (.int .u32 ((d[i].toNat-48:Nat):Int)):=by rw [By,CJ (by omega) (by omega)]
     have hsh:=lims_short2 (hlt i (by omega)) (by omega)
     have hml:=fun H=>q_mul (l:=A0 (Hk (d.take i))) (tk:=tkf i) (m:=10) (c:=d[i].toNat-48) H (Bh _) (by omega) (by omega) (by omega)
     simp only [Bp,←N6,←WM hi,show ((10:Nat):Int)=10 from rfl]at hml
     have htk1:tkf (i+1)=.no:=by rw [htk];rfl
     unfold Sh.f4o
     simp only [Aj,Ai,hnx,GMb,GMc,Cn,show ∀(x y z:Ab),Az 2 (.tup [x,y,z])=some z from fun _ _ _=>rfl,show ∀(x y z:Ab),Az 0 (.tup [x,y,z])=some x from fun _ _ _=>rfl,hw,hcv,hml,htk1]
    ·have hnx:=next_end (B:=H++[Blk.cel 0 [.bool false,.sl [] .tight]]) (d:=d)
     rw [hBl]at hnx
     unfold Sh.f4o
     simp only [Aj,Ai,hnx,GMb,GMc,show ∀(x:Ab),Az 0 (.tup [x])=some x from fun _=>rfl,build_both,Xv]
     rw [WG H]
     exact fin_big rfl
 by_cases h0:BR s=[]
 ·have hsyn:NR s=true:=by simp [NR,h0]
  rw [hsyn]at tail
  simp only [h0,beq_self_eq_true,GMb,GMc,Aj,Ai]at tail ⊢
  exact tail
 ·have hb:(BR s == [])=false:=by simpa using h0
  simp only [hb,GMb,GMc,hdg,Ic]
  by_cases hlt:Hj (BR s)<(BR s).length
  ·have hlt':(Hj (BR s):Int)<((BR s).length:Int):=by omega
   have hsyn:NR s=true:=by simp [NR,hlt]
   rw [hsyn]at tail
   simp only [hlt',GMb,GMc,Aj,Ai]
   exact tail
  ·have hlt':¬(Hj (BR s):Int)<((BR s).length:Int):=by omega
   obtain ⟨c,r,hcr⟩:=List.exists_cons_of_ne_nil h0
   have hix:Eg (.str (BR s)) (.int .i64 0)=some (.int .u8 (c.toNat:Int)):=by rw [hcr];exact idx_str0
   have hsyn:NR s=((c == 48) && !(s == [48])):=by
    simp only [NR,hb,decide_eq_false hlt,Yb]
    rw [hcr]
    rfl
   have hcc:decide ((c.toNat:Int)=48)=(c == 48):=by
    rw [WW]
    simp only [decide_eq_true_eq,beq_iff_eq]
    constructor
    ·intro h
     exact UInt8.toNat.inj (show c.toNat=(48:UInt8).toNat from by have:(48:UInt8).toNat=48:=rfl;omega)
    ·intro h;rw [h];rfl
   rw [hsyn]at tail
   simp only [hlt',GMb,GMc,hix,hcc,bin_sneq]
   cases hc48:(c == 48)with
   | false=>
    rw [hc48,XE]at tail
    simp only [GMb,GMc,Aj,Ai]
    exact tail
   | true=>
    rw [hc48,X7]at tail
    simp only [GMb,GMc,Aj,Ai]
    exact tail
def hv (e:Int×List UInt8):Ab:=Ud e.1 e.2
def resE (er:Er) (v:Ab):Res:=match er with
 | none=>.ret v
 | some e=>.pan (hv e)
@[simp] theorem CG (v:Ab):resE none v=.ret v:=(rfl)
@[simp] theorem Dv (e:Int×List UInt8) (v:Ab):resE (some e) v=.pan (hv e):=(rfl)
theorem IC (b:List UInt8) (a:Nat) (s:List UInt8):Ro b a s=hv (RQ b a s):=by
 unfold Ro hv RQ;split <;> rfl
section
variable {H:Aa} {p a:Nat} {b:List UInt8} {r:List Ab}
theorem lx_stopR (h:Lx H p b a r) (s:List UInt8):Sh.f5 (.ptr p 0 0) (.str s) H=some (.pan (hv (RQ b a s)),H):=by
 rw [No h,←IC];rfl
theorem lx_endS (h:Lx H p b a r) (ha:a≤b.length) (hb:b.length<1152921504606846976) (rest:List UInt8) (hr:rest.length≤1000000) :
  Sh.fo (.ptr p 0 0) (.str rest) H=some (resE (I0 b a rest).1 (.tup []),Cd H p b r (I0 b a rest).2):=by
 rw [lx_end h ha hb rest hr]
 unfold endO I0 eolN
 by_cases e:a=b.length
 ·have hs:=EG h
  rw [e]at hs
  simp only [e,if_true,CG,hs]
 ·simp only [if_neg e]
  cases hs:Cp b (crN b a) [10]with
  | true=>simp only [if_true,CG]
  | false=>simp only [WL,if_false,Dv,IC]
theorem TR (h:Lx H p b a r) (ha:a≤b.length) (hb:b.length<1152921504606846976) (s rest:List UInt8) (hs:s.length≤1000000) (hr:rest.length≤1000000) :
  Sh.fn (.ptr p 0 0) (.str s) (.str rest) H=some (resE (Ea b a s rest).1 (.tup []),Cd H p b r (Ea b a s rest).2):=by
 rw [lx_must h ha hb s rest hs hr]
 unfold mustO Ea litN
 by_cases e:cpN (b.drop a) s<s.length
 ·simp only [if_pos e,Dv,IC]
 ·simp only [if_neg e,CG]
theorem lx_ruleS (h:Lx H p b a r) (ha:a≤b.length) (hb:b.length<1152921504606846976) (rest:List UInt8) (hr:rest.length≤1000000) :
  Sh.f1i (.ptr p 0 0) (.str rest) H=some (resE (RR b a rest).1 (.str ((b.take (RR b a rest).2).drop a)),Cd H p b r (RR b a rest).2):=by
 rw [lx_rule h ha hb rest hr]
 unfold ruleO RR
 by_cases e:HY b a 40 a=a
 ·simp only [e,if_true,Dv,IC]
 ·simp only [if_neg e,CG]
theorem numR_S (b:List UInt8) (f:Nat) (rest:List UInt8):∀n a,OI b f rest n a=((Mp b f rest n a).1.map hv,(Mp b f rest n a).2)
 | 0,a=>rfl
 | n+1,a=>by
  rw [OI,Mp]
  split
  ·split
   ·rw [IC];rfl
   ·split
    ·rfl
    ·exact numR_S b f rest n (a+1)
  ·split
   ·rw [IC];rfl
   ·rfl
theorem lx_lt (h:Lx H p b a r):p<H.length:=by
 rcases Xs p H.length with h' | h'
 ·exact h'
 ·unfold Lx at h;rw [WR h']at h;cases h
theorem VE {G:Aa} {e:Nat} (h:p<H.length):Cd (H++G) p b r e=Cd H p b r e++G:=by
 unfold Cd;rw [List.set_append_left _ _ h]
theorem lx_num_end (h:Lx H p b a r) {f e:Nat} (hfe:f≤e) (he:e≤b.length) (hb:b.length<1152921504606846976) (zb:List Ab) (hz:zb.length=2) :
  ∃G,Sh.f41 H (.ptr p 0 0) (.ptr H.length 0 0) (.int .i64 (f:Int)) (Cd H p b r e++[.cel 0 zb])=some (.ret (big (BJ ((b.take e).drop f))),Cd H p b r e++G):=by
 have hx:=GA (a':=e) h
 have hl:=setL_len H p e b r
 have hld0:∀G,Ac false 1 (.ptr p 0 0) (Cd H p b r e++G)=some (.str b):=fun G=>lx_b (Lx.push hx)
 have hld1:∀G,Ac false 1 (.ptr p 0 1) (Cd H p b r e++G)=some (.int .i64 (e:Int)):=fun G=>HS (Lx.push hx)
 unfold Sh.f41
 rw [←hl]
 generalize Cd H p b r e=K at *
 have hq:=fun H=>q_parse ((b.take e).drop f) H (by simp only [WZ,WT];omega)
 obtain ⟨sg,es,hbig⟩:∃sg es,big (BJ ((b.take e).drop f))=.agg [.bool sg,.sl es .no]:=⟨_,_,UD _⟩
 rw [hbig]at hq ⊢
 refine ⟨[.cel 0 [.bool sg,.sl es .no],.cel 0 [.bool sg,.sl es .no]],?_⟩
 simp only [GMb,GMc,HPa,HPc,HPd,HPe,HPz,Nat.reduceAdd,Nat.reduceLT,hld0,hld1,V9 hfe he,hq,hz]
 rfl

end
theorem numS_le (b:List UInt8) (f:Nat) (rest:List UInt8):∀n a,a≤b.length→a≤(Mp b f rest n a).2∧(Mp b f rest n a).2≤b.length:=fun n a h=>by
 have:=numR_le b f rest n a h
 rw [numR_S]at this;exact this
theorem intF_le {b:List UInt8} {a:Nat} (ha:a≤b.length) (neg:Bool):a≤Q7 b a neg∧Q7 b a neg≤b.length:=by
 unfold Q7
 cases neg with
 | false=>exact ⟨WF _,ha⟩
 | true=>
  cases hs:Cp b a [45]with
  | true=>have:=Hw hs;simp;omega
  | false=>simpa using ha
theorem S8 {b:List UInt8} {a:Nat} (ha:a≤b.length) (neg:Bool) (rest:List UInt8):a≤(Gv b a neg rest).2∧(Gv b a neg rest).2≤b.length:=by
 unfold Gv
 have h1:=intF_le ha neg
 have h2:=numS_le b (Q7 b a neg) rest 402 (Q7 b a neg) h1.2
 split
 ·rename_i h
  simp only [WO]at h
  have:=Hw h.2
  exact ⟨YH _,by omega⟩
 ·omega
section
variable {H:Aa} {p a:Nat} {b:List UInt8} {r:List Ab}
theorem VU (h:Lx H p b a r) {f:Nat} (haf:a≤f) (hf:f≤b.length) (hb:b.length<1152921504606846976) (rest:List UInt8) (hr:rest.length≤1000000) (zb:List Ab) (hz:zb.length=2) :
  ∃G,Sh.f4r H (.ptr p 0 0) (.str rest) (.ptr H.length 0 0) (.int .i64 (a:Int)) (Cd H p b r f++[.cel 0 zb])=some (resE (Mp b f rest 402 f).1 (big (BJ ((b.take (Mp b f rest 402 f).2).drop a))),Cd H p b r (Mp b f rest 402 f).2++G):=by
 have hp:=lx_lt h
 have hx:Lx (Cd H p b r f++[.cel 0 zb]) p b f r:=Lx.push (GA h)
 have key:=lx_num_loop (H0:=H) hx hf hb rest hr (.ptr H.length 0 0) (.int .i64 (a:Int))
 have hle:=numS_le b f rest 402 f hf
 unfold Sh.f4r
 simp only [GMb,GMc,HPa,HPc,HPd,HPe,HPz,Nat.reduceAdd,Nat.reduceLT,HS hx]
 rw [key,numR_S]
 generalize Mp b f rest 402 f=R at *
 obtain ⟨er,e⟩:=R
 have hpp:∀G:Aa,Cd (Cd H p b r f++G) p b r e=Cd H p b r e++G:=fun G=>by
  rw [VE (by rw [setL_len];exact hp),VC]
 cases er with
 | some v=>
  refine ⟨[.cel 0 zb],?_⟩
  show some (Res.pan (hv v),Cd _ p b r e)=_
  rw [hpp];rfl
 | none=>
  obtain ⟨G,hG⟩:=lx_num_end h (f:=a) (e:=e) (by dsimp only at hle;omega) hle.2 hb zb hz
  refine ⟨G,?_⟩
  show Sh.f41 H (.ptr p 0 0) (.ptr H.length 0 0) (.int .i64 (a:Int)) (Cd _ p b r e)=_
  rw [hpp,hG];rfl
theorem VT (h:Lx H p b a r) (ha:a≤b.length) (hb:b.length<1152921504606846976) (neg:Bool) (rest:List UInt8) (hr:rest.length≤1000000) :
  ∃G,Sh.f1j (.ptr p 0 0) (.bool neg) (.str rest) H=some (resE (Gv b a neg rest).1 (big (BJ ((b.take (Gv b a neg rest).2).drop a))),Cd H p b r (Gv b a neg rest).2++G):=by
 have hx:Lx (H++[.cel 0 [.bool false,.sl [] .tight]]) p b a r:=Lx.push h
 have hss:=EG h
 unfold Sh.f1j
 have plain:Q7 b a neg=a→Gv b a neg rest=Mp b a rest 402 a→∃G,Sh.f4r H (.ptr p 0 0) (.str rest) (.ptr H.length 0 0) (.int .i64 (a:Int)) (H++[.cel 0 [.bool false,.sl [] .tight]])=some (resE (Gv b a neg rest).1 (big (BJ ((b.take (Gv b a neg rest).2).drop a))),Cd H p b r (Gv b a neg rest).2++G):=by
  intro e1 e2
  have:=VU h (WF a) ha hb rest hr [.bool false,.sl [] .tight] rfl
  rw [hss]at this
  rw [e2];exact this
 cases neg with
 | false=>
  simp only [GMb,GMc,HPa,HPc,HPd,HPe,HPz,Nat.reduceAdd,Nat.reduceLT,HS hx]
  exact plain rfl rfl
 | true=>
  simp only [GMb,GMc,HPa,HPc,HPd,HPe,HPz,Nat.reduceAdd,Nat.reduceLT,HS hx,Np hx ha]
  cases hs:Cp b a [45]with
  | false=>
   simp only [GMb,GMc,HPa,HPc,HPd,HPe,HPz,Nat.reduceAdd,Nat.reduceLT]
   exact plain (by simp [Q7,hs]) (by simp [Gv,Q7,hs])
  | true=>
   have hlt:=Hw hs
   have hm:=Nq (a':=a) hx (a+1)
   rw [EG hx]at hm
   have hx1:=GA (a':=a+1) hx
   have hpu:=VE (b:=b) (r:=r) (G:=[.cel 0 [.bool false,.sl [] .tight]]) (e:=a+1) (lx_lt h)
   simp only [GMb,GMc,HPa,HPc,HPd,HPe,HPz,Nat.reduceAdd,Nat.reduceLT,HS hx,Aw (show a<9223372036854775807 by omega),hm,Np hx1 (show a+1≤b.length by omega)]
   have e1:Q7 b a true=a+1:=by simp [Q7,hs]
   cases h0:Cp b (a+1) [48]with
   | true=>
    have e2:Gv b a true rest=(some (RQ b (a+1) []),a+1):=by simp [Gv,hs,h0]
    rw [e2]
    refine ⟨[.cel 0 [.bool false,.sl [] .tight]],?_⟩
    simp only [GMb,GMc,HPa,HPc,HPd,HPe,HPz,Nat.reduceAdd,Nat.reduceLT,lx_stopR hx1]
    rw [hpu];rfl
   | false=>
    have e2:Gv b a true rest=Mp b (a+1) rest 402 (a+1):=by simp [Gv,hs,h0,e1]
    rw [e2]
    have:=VU h (f:=a+1) (by omega) hlt hb rest hr [.bool false,.sl [] .tight] rfl
    simp only [GMb,GMc,HPa,HPc,HPd,HPe,HPz,Nat.reduceAdd,Nat.reduceLT]
    rw [hpu]
    exact this

end
section
variable {H:Aa} {b:List UInt8} {a:Nat}
theorem Ext.push (b id:Nat) (hb:b≤H.length) (G:Aa):Ext b id H (H++G):=
 ⟨by simp,fun i c hi hc=>AE hc,fun i hi=>WD (by omega)⟩
theorem IK {s rest:List UInt8} (ha:a≤b.length):(Ea b a s rest).2≤b.length:=litN_le ha s
theorem rulS_le {rest:List UInt8} (ha:a≤b.length):a≤(RR b a rest).2∧(RR b a rest).2≤b.length:=ruleN_le 40 a ha
end
theorem endS_le {b:List UInt8} {a:Nat} (ha:a≤b.length) (rest:List UInt8):a≤(I0 b a rest).2∧(I0 b a rest).2≤b.length:=by
 refine ⟨?_,eolN_le ha⟩
 show a≤eolN b a
 unfold eolN crN
 split
 ·exact WF _
 ·split <;> split <;> omega
theorem Nm {r:Nat} (h:r<10):(UInt8.ofNat (48+r)).toNat=48+r:=Ym (show 48+r<256 by omega)
theorem decV_decN (n:Nat):Hk (BV n)=n:=by
 induction n using Nat.strongRecOn with
 | ind n ih=>
  by_cases hn:n<10
  ·rw [HG hn]
   have:=N6 [] (UInt8.ofNat (48+n))
   rw [List.nil_append,Nm hn,show Hk []=0 from rfl]at this
   rw [this];omega
  ·rw [Uw hn,N6,ih (n / 10) (by omega),Nm (XG _ (by omega))]
   omega
theorem M5 (n:Nat):∀c∈BV n,GX c=true:=by
 induction n using Nat.strongRecOn with
 | ind n ih=>
  intro c hc
  by_cases hn:n<10
  ·rw [HG hn,WY]at hc
   rw [hc,Ee,Nm hn];omega
  ·rw [Uw hn]at hc
   rcases WX.1 hc with h | h
   ·exact ih (n / 10) (by omega) c h
   ·have:=XG n (show 10>0 by omega)
    rw [WY.1 h,Ee,Nm this];omega
theorem all_digN {s:List UInt8} (h:∀c∈s,GX c=true):Hj s=s.length:=by
 induction s with
 | nil=>rfl
 | cons c s ih=>rw [QV,if_pos (h c (by simp)),ih fun x hx=>h x (by simp [hx])];rfl
theorem parse_ok {s:List UInt8} (h:FQ s=0):NR s=false∧(BR s).length≤400:=by
 unfold FQ at h
 cases hs:NR s with
 | true=>rw [hs]at h;simp at h
 | false=>
  rw [hs]at h
  simp only [WL,if_false]at h
  refine ⟨rfl,?_⟩
  split at h
  ·cases h
  ·omega
theorem pow10_pos (k:Nat):Int.natAbs 0<10^k:=Yx (by omega)
theorem VR (s:List UInt8):(BJ s).natAbs<10^400:=by
 unfold BJ
 split
 ·rename_i h
  obtain ⟨h1,h2⟩:=parse_ok h
  have hall:=Uv (syn_dig h1).2.1
  have:=decV_lt hall (BR s).length (WF _)
  rw [Xv]at this
  have h3:=X5 this (pow10_up h2)
  split
  ·rw [Int.natAbs_neg,Int.natAbs_natCast];exact h3
  ·rw [Int.natAbs_natCast];exact h3
 ·exact pow10_pos 400
theorem decZ_sgn (z:Int):NS (Do z)=decide (z<0)∧BR (Do z)=BV z.natAbs:=by
 unfold Do
 by_cases h:z<0
 ·rw [if_pos h,decide_eq_true h]
  exact ⟨rfl,rfl⟩
 ·rw [if_neg h,decide_eq_false h]
  have hb:NS (BV z.natAbs)=false:=by
   cases hd:BV z.natAbs with
   | nil=>rfl
   | cons c r=>
    have:=(Ee c).1 (M5 z.natAbs c (by rw [hd];simp))
    simp only [NS,beq_eq_false_iff_ne]
    intro e
    rw [e]at this
    have h45:(45:UInt8).toNat=45:=rfl
    omega
  exact ⟨hb,by simp [BR,hb]⟩
theorem syn_text (z:Int):NR (Do z)=false:=by
 obtain ⟨h1,h2⟩:=decZ_sgn z
 have hall:=M5 z.natAbs
 have hp:=PL z.natAbs
 have hd:=all_digN hall
 unfold NR
 rw [h2,hd,decide_eq_false (Nat.lt_irrefl _),YG]
 have hne:(BV z.natAbs == [])=false:=by
  cases hdd:BV z.natAbs with
  | nil=>rw [hdd]at hp;simp at hp
  | cons c r=>rfl
 rw [hne,Yb]
 by_cases h0:z.natAbs=0
 ·have:z=0:=by omega
  subst this
  rw [decZ_zero]
  simp
 ·obtain ⟨c,r,hc,hc48⟩:=QY z.natAbs h0
  rw [hc]
  have:(c == 48)=false:=by simpa using hc48
  simp [this]
theorem T6 {z:Int} (h:(BV z.natAbs).length≤400):FQ (Do z)=0∧BJ (Do z)=z:=by
 obtain ⟨h1,h2⟩:=decZ_sgn z
 have hE:FQ (Do z)=0:=by
  unfold FQ
  rw [syn_text,h2]
  simp only [WL,if_false]
  rw [if_neg (by omega)]
 refine ⟨hE,?_⟩
 unfold BJ
 rw [if_pos hE,h1,h2,decV_decN]
 by_cases hz:z<0
 ·rw [decide_eq_true hz];simp only [if_true];omega
 ·rw [decide_eq_false hz];simp only [WL,if_false];omega
structure PSt where
 law:List UInt8
 cells:List Cl
def Jy:List UInt8:=[32]
def Rq:List UInt8:=[35,82,32]
def Iz:List UInt8:=[35,76,105,102,101,32,49,46,48,54]
def lawP (b:List UInt8) (a:Nat) (st:PSt):(Er×Nat)×PSt:=
 match Ea b a Rq [97]with
 | (some e,c)=>((some e,c),st)
 | (none,c)=>match RR b c []with
  | (some e,d)=>((some e,d),st)
  | (none,d)=>((none,d),{ st with law:=(b.take d).drop c })
def J6 (b:List UInt8) (a:Nat) (st:PSt):(Er×Nat)×PSt:=
 match Gv b a true [32,49]with
 | (some e,c)=>((some e,c),st)
 | (none,c)=>match Ea b c Jy [49]with
  | (some e,d)=>((some e,d),st)
  | (none,d)=>match Gv b d true []with
   | (some e,f)=>((some e,f),st)
   | (none,f)=>((none,f),{ st with cells:=st.cells++[⟨BJ ((b.take c).drop a),BJ ((b.take f).drop d),1⟩] })
def R2 (b:List UInt8) (a:Nat) (st:PSt):(Er×Nat)×PSt:=if Cp b a [35]then lawP b a st else J6 b a st
def endP (b:List UInt8) (s:(Er×Nat)×PSt):(Er×Nat)×PSt:=match s with
 | ((some e,c),st')=>((some e,c),st')
 | ((none,c),st')=>(I0 b c [],st')
def Vf (b:List UInt8) (a:Nat) (st:PSt):(Er×Nat)×PSt:=endP b (R2 b a st)
def Gu (b:List UInt8):Nat→Nat→PSt→(Er×Nat)×PSt
 | 0,a,st=>((none,a),st)
 | k+1,a,st=>
  if a=b.length then ((none,a),st)
  else match Vf b a st with
   | ((some e,c),st')=>((some e,c),st')
   | ((none,c),st')=>Gu b k c st'
def MS (b:List UInt8) (st:PSt):(Er×Nat)×PSt:=
 match Ea b 0 Iz []with
 | (some e,c)=>((some e,c),st)
 | (none,c)=>match I0 b c []with
  | (some e,d)=>((some e,d),st)
  | (none,d)=>Gu b (b.length+1) d st
structure LineP (b:List UInt8) (a:Nat) (st:PSt) (s:(Er×Nat)×PSt):Prop where
 le:s.1.2≤b.length
 go:s.1.1=none→a<s.1.2
 cn:s.2.cells.length≤st.cells.length+1
 ok:(∀c∈st.cells,c.ok)→∀c∈s.2.cells,c.ok
theorem pz_ok (s t:List UInt8) (x:UInt8):Cl.ok ⟨BJ s,BJ t,x⟩:=by
 have h:(10:Nat)^400<4294967296^100:=by decide +kernel
 exact ⟨Nat.lt_trans (VR s) h,Nat.lt_trans (VR t) h⟩
theorem TM {b:List UInt8} {a:Nat} {s rest:List UInt8} (ha:a≤b.length) (h:(Ea b a s rest).1=none):(Ea b a s rest).2=a+s.length:=by
 unfold Ea at h ⊢
 dsimp only at h ⊢
 split at h
 ·cases h
 ·rename_i hc
  unfold litN
  have:=Ux (b.drop a) s
  omega
theorem lawP_ok {b:List UInt8} {a:Nat} (ha:a<b.length) (st:PSt):LineP b a st (lawP b a st):=by
 unfold lawP
 have h1:=IK (s:=Rq) (rest:=[97]) (Y8 ha)
 have h2:=TM (s:=Rq) (rest:=[97]) (Y8 ha)
 generalize Ea b a Rq [97]=M at h1 h2
 obtain ⟨er,c⟩:=M
 dsimp only at h1 h2
 cases er with
 | some e=>exact ⟨h1,fun h=>(by cases h),YH _,fun h=>h⟩
 | none=>
  have h2:=h2 rfl
  have h3:=rulS_le (rest:=[]) h1
  dsimp only
  generalize RR b c []=M at h3
  obtain ⟨er,d⟩:=M
  dsimp only at h3
  have:Rq.length=3:=rfl
  cases er with
  | some e=>exact ⟨h3.2,fun h=>(by cases h),YH _,fun h=>h⟩
  | none=>exact ⟨h3.2,fun _=>by dsimp only;omega,YH _,fun h=>h⟩
theorem placeP_ok {b:List UInt8} {a:Nat} (ha:a<b.length) (st:PSt):LineP b a st (J6 b a st):=by
 unfold J6
 have h1:=S8 (Y8 ha) true [32,49]
 generalize Gv b a true [32,49]=M at h1
 obtain ⟨er,c⟩:=M
 dsimp only at h1
 cases er with
 | some e=>exact ⟨h1.2,fun h=>(by cases h),YH _,fun h=>h⟩
 | none=>
  dsimp only
  have h2:=IK (s:=Jy) (rest:=[49]) h1.2
  have h3:=TM (s:=Jy) (rest:=[49]) h1.2
  generalize Ea b c Jy [49]=M at h2 h3
  obtain ⟨er,d⟩:=M
  dsimp only at h2 h3
  cases er with
  | some e=>exact ⟨h2,fun h=>(by cases h),YH _,fun h=>h⟩
  | none=>
   have h3:=h3 rfl
   have:Jy.length=1:=rfl
   dsimp only
   have h4:=S8 h2 true []
   generalize Gv b d true []=M at h4
   obtain ⟨er,f⟩:=M
   dsimp only at h4
   cases er with
   | some e=>exact ⟨h4.2,fun h=>(by cases h),YH _,fun h=>h⟩
   | none=>
    refine ⟨h4.2,fun _=>by dsimp only;omega,by simp,fun h c hc=>?_⟩
    rcases WX.1 hc with q | q
    ·exact h c q
    ·rw [WY.1 q];exact pz_ok _ _ _
theorem lineP_ok {b:List UInt8} {a:Nat} (ha:a<b.length) (st:PSt):LineP b a st (R2 b a st):=by
 unfold R2
 split
 ·exact lawP_ok ha st
 ·exact placeP_ok ha st
theorem oneP_ok {b:List UInt8} {a:Nat} (ha:a<b.length) (st:PSt):LineP b a st (Vf b a st):=by
 unfold Vf endP
 have h:=lineP_ok ha st
 generalize R2 b a st=M at h
 obtain ⟨⟨er,c⟩,st'⟩:=M
 obtain ⟨h1,h2,h3,h4⟩:=h
 cases er with
 | some e=>exact ⟨h1,h2,h3,h4⟩
 | none=>
  have:=endS_le h1 []
  have:=h2 rfl
  exact ⟨by dsimp only at *;omega,fun _=>by dsimp only at *;omega,h3,h4⟩
theorem VY {b:List UInt8}:∀(k a:Nat) (st:PSt),a≤b.length→(Gu b k a st).2.cells.length≤st.cells.length+(b.length-a)∧((∀c∈st.cells,c.ok)→∀c∈(Gu b k a st).2.cells,c.ok)
 | 0,a,st,_=>⟨Ze _ _,fun h=>h⟩
 | k+1,a,st,h=>by
  unfold Gu
  by_cases he:a=b.length
  ·rw [if_pos he];exact ⟨Ze _ _,fun h=>h⟩
  ·rw [if_neg he]
   have hok:=oneP_ok (show a<b.length by omega) st
   generalize Vf b a st=M at hok
   obtain ⟨⟨er,c⟩,st'⟩:=M
   obtain ⟨k1,k2,k3,k4⟩:=hok
   dsimp only at k1 k2 k3 k4 ⊢
   cases er with
   | some e=>exact ⟨by dsimp only;omega,k4⟩
   | none=>
    have ih:=VY (b:=b) k c st' k1
    have:=k2 rfl
    dsimp only
    exact ⟨by omega,fun h=>ih.2 (k4 h)⟩
theorem allP_ok (b:List UInt8) (st:PSt):(MS b st).2.cells.length≤st.cells.length+b.length∧((∀c∈st.cells,c.ok)→∀c∈(MS b st).2.cells,c.ok):=by
 unfold MS
 have hM:=IK (s:=Iz) (rest:=[]) (Xd b.length)
 generalize Ea b 0 Iz []=M at hM
 obtain ⟨er,c⟩:=M
 dsimp only at hM
 cases er with
 | some e=>exact ⟨Ze _ _,fun h=>h⟩
 | none=>
  have hle:=endS_le hM []
  dsimp only
  generalize I0 b c []=M at hle
  obtain ⟨er,d⟩:=M
  cases er with
  | some e=>exact ⟨Ze _ _,fun h=>h⟩
  | none=>
   have:=VY (b:=b) (b.length+1) d st hle.2
   dsimp only
   exact ⟨by omega,this.2⟩
theorem lawP_er (b:List UInt8) (a:Nat) (st:PSt):MW (lawP b a st).1.1:=by
 unfold lawP
 have:=TN b a Rq [97]
 generalize Ea b a Rq [97]=M at this
 obtain ⟨er,c⟩:=M
 cases er with
 | some e=>exact this
 | none=>
  have:=rulS_er b c []
  dsimp only
  generalize RR b c []=M at this
  obtain ⟨er,d⟩:=M
  cases er with
  | some e=>exact this
  | none=>exact .none
theorem placeP_er (b:List UInt8) (a:Nat) (st:PSt):MW (J6 b a st).1.1:=by
 unfold J6
 have:=intS_er b a true [32,49]
 generalize Gv b a true [32,49]=M at this
 obtain ⟨er,c⟩:=M
 cases er with
 | some e=>exact this
 | none=>
  have:=TN b c Jy [49]
  dsimp only
  generalize Ea b c Jy [49]=M at this
  obtain ⟨er,d⟩:=M
  cases er with
  | some e=>exact this
  | none=>
   have:=intS_er b d true []
   dsimp only
   generalize Gv b d true []=M at this
   obtain ⟨er,f⟩:=M
   cases er with
   | some e=>exact this
   | none=>exact .none
theorem oneP_er (b:List UInt8) (a:Nat) (st:PSt):MW (Vf b a st).1.1:=by
 unfold Vf endP R2
 have:MW ((if Cp b a [35]=true then lawP b a st else J6 b a st)).1.1:=by
  split
  ·exact lawP_er _ _ _
  ·exact placeP_er _ _ _
 generalize (if Cp b a [35]=true then lawP b a st else J6 b a st)=M at this
 obtain ⟨⟨er,c⟩,st'⟩:=M
 cases er with
 | some e=>exact this
 | none=>exact endS_er _ _ _
theorem VZ (b:List UInt8):∀k a st,MW (Gu b k a st).1.1
 | 0,a,st=>.none
 | k+1,a,st=>by
  unfold Gu
  split
  ·exact .none
  ·have:=oneP_er b a st
   generalize Vf b a st=M at this
   obtain ⟨⟨er,c⟩,st'⟩:=M
   cases er with
   | some e=>exact this
   | none=>exact VZ b k _ _
theorem allP_er (b:List UInt8) (st:PSt):MW (MS b st).1.1:=by
 unfold MS
 have:=TN b 0 Iz []
 generalize Ea b 0 Iz []=M at this
 obtain ⟨er,c⟩:=M
 cases er with
 | some e=>exact this
 | none=>
  dsimp only
  have:=endS_er b c []
  generalize I0 b c []=M at this
  obtain ⟨er,d⟩:=M
  cases er with
  | some e=>exact this
  | none=>exact VZ _ _ _ _
def pst0:PSt:=⟨usualL,[]⟩
def Dw (b:List UInt8) (bx N:Int):(List UInt8×List Nd)×Int×Int:=
 if My bx N then
  match MS b pst0 with
  | ((some e,c),_)=>(([],[]),(c:Int),e.1)
  | ((none,_),st)=>
   if decide ((OH st.cells).2=0)&&decide (((OH st.cells).1.length:Int)≤N)then ((st.law,(OH st.cells).1),0,0)
   else (([],[]),(b.length:Int),4)
 else (([],[]),0,1)
def Wh (b:List UInt8):List UInt8×Bool:=match (MS b ⟨[],[]⟩).1.1 with
 | none=>([],true)
 | some e=>(e.2,decide (e.1=0)||decide (e.1=3))
theorem GO {b t:List UInt8} {a:Nat} {c:UInt8} (h:b.drop a=c::t):a<b.length∧b[a]? = some c∧b.drop (a+1)=t:=by
 have hl:a<b.length:=by
  rcases Xs a b.length with h' | h'
  ·exact h'
  ·rw [XR h']at h;cases h
 rw [Xf hl]at h
 injection h with h1 h2
 exact ⟨hl,by rw [WB hl,h1],h2⟩
theorem Ef {b t:List UInt8} {a:Nat} {c:UInt8} (h:b.drop a=c::t) (s:List UInt8):Cp b a s=s.contains c:=by
 unfold Cp;rw [(GO h).2.1]
theorem PK {b s t:List UInt8} {a:Nat} (h:b.drop a=s++t):b.drop (a+s.length)=t:=by
 rw [←XD,h,YC]
theorem must_one {b t:List UInt8} {a:Nat} {c:UInt8} (h:b.drop a=c::t) (rest:List UInt8):Ea b a [c] rest=(none,a+1):=by
 have h1:cpN (b.drop a) [c]=1:=by
  rw [h]
  show (if c=c then cpN t []+1 else 0)=1
  rw [if_pos rfl]
  cases t <;> rfl
 unfold Ea litN
 rw [h1]
 rfl
theorem end_lf {b t:List UInt8} {a:Nat} (h:b.drop a=10::t) (rest:List UInt8):I0 b a rest=(none,a+1):=by
 have hne:a≠b.length:=by have:=(GO h).1;omega
 have h13:Cp b a [13]=false:=by rw [Ef h];decide
 have h10:Cp b a [10]=true:=by rw [Ef h];decide
 unfold I0 eolN crN
 simp only [h13,h10,if_neg hne,WL,if_false,if_true]
theorem end_crlf {b t:List UInt8} {a:Nat} (h:b.drop a=13::10::t) (rest:List UInt8):I0 b a rest=(none,a+2):=by
 have hne:a≠b.length:=by have:=(GO h).1;omega
 have h13:Cp b a [13]=true:=by rw [Ef h];decide
 have h10:Cp b (a+1) [10]=true:=by rw [Ef (GO h).2.2];decide
 unfold I0 eolN crN
 simp only [h13,h10,if_neg hne,if_true]
theorem num_run {b ds t:List UInt8} {f:Nat} {c:UInt8} (rest:List UInt8) (h:b.drop f=ds++c::t) (hd:∀x∈ds,Ij.contains x=true) (hc:Ij.contains c=false) (h4:ds.length≤400) (h0:0<ds.length) (h1:ds[0]? = some 48→ds.length=1) :
  ∀(n i:Nat),i≤ds.length→ds.length-i<n→Mp b f rest n (f+i)=(none,f+ds.length):=by
 intro n
 induction n with
 | zero=>intro i _ h;omega
 | succ n ih=>
  intro i hi hn
  have hb:b.drop (f+i)=ds.drop i++c::t:=by
   rw [←XD,h,Yr hi]
  conv=>lhs;unfold Mp
  by_cases he:i=ds.length
  ·subst he
   rw [Z8,List.nil_append]at hb
   rw [Ef hb,hc,if_neg (by decide),if_neg (by omega)]
  ·have hlt:i<ds.length:=by omega
   rw [Xf hlt]at hb
   rw [Ef hb,hd _ (WP hlt),if_pos rfl,if_neg (fun hh=>by
    have hf:b[f]? = ds[0]? := by
     have:=congrArg (·[0]?) h
     simp only [Xt,Nat.add_zero]at this
     rw [this,WD h0]
    have:=h1 (hf ▸ hh.2);omega),if_neg (by omega),Xy]
   exact ih (i+1) (by omega) (by omega)
theorem Wv (n:Nat):∀x∈BV n,Ij.contains x=true:=fun x hx=>by
 have:=(Ee x).1 (M5 n x hx)
 unfold Ij
 rw [digs_mem,decide_eq_true_eq];omega
theorem M4 {n:Nat} (h:(BV n)[0]? = some 48):(BV n).length=1:=by
 by_cases h0:n=0
 ·subst h0;rw [HG (by omega)];rfl
 ·obtain ⟨c,r,e,hc⟩:=QY n h0
  rw [e]at h;simp at h;exact absurd h hc
theorem dec_read {b t:List UInt8} {a:Nat} {z:Int} {c:UInt8} (rest:List UInt8) (h:b.drop a=Do z++c::t) (hc:Ij.contains c=false) (h4:(BV z.natAbs).length≤400):Gv b a true rest=(none,a+(Do z).length):=by
 have hp:=PL z.natAbs
 unfold Do at h ⊢
 unfold Gv Q7
 by_cases hz:z<0
 ·rw [if_pos hz]at h ⊢
  rw [List.cons_append]at h
  have h2:=(GO h).2.2
  have hne:Cp b (a+1) [48]=false:=by
   obtain ⟨c0,r0,e,hc0⟩:=QY z.natAbs (by omega)
   rw [e,List.cons_append]at h2
   rw [Ef h2];simpa using hc0
  rw [Ef h,hne]
  have:=num_run rest h2 (Wv _) hc h4 hp M4 402 0 (Xd _) (by omega)
  rw [Nat.add_zero]at this
  simp only [List.contains_cons,beq_self_eq_true,Y0,Bool.and_false,WL,if_false,X7,if_true,List.length_cons]
  rw [this];congr 1;omega
 ·rw [if_neg hz]at h ⊢
  have h45:Cp b a [45]=false:=by
   cases e:BV z.natAbs with
   | nil=>rw [e]at hp;simp at hp
   | cons x r=>
    rw [e,List.cons_append]at h
    rw [Ef h]
    have:=(Ee x).1 (M5 z.natAbs x (by rw [e];exact YT))
    have:x≠45:=fun hx=>by subst hx;simp at this
    simpa using this
  rw [h45]
  have:=num_run rest h (Wv _) hc h4 hp M4 402 0 (Xd _) (by omega)
  rw [Nat.add_zero]at this
  simp only [Bool.and_false,XE,WL,if_false]
  exact this
theorem cpN_app:∀(s t:List UInt8),cpN (s++t) s=s.length
 | [],[]=>rfl
 | [],_::_=>rfl
 | c::s,t=>by
  show (if c=c then cpN (s++t) s+1 else 0)=_
  rw [if_pos rfl,cpN_app s t];rfl
theorem must_app {b s t:List UInt8} {a:Nat} (h:b.drop a=s++t) (rest:List UInt8):Ea b a s rest=(none,a+s.length):=by
 unfold Ea litN
 rw [h,cpN_app,if_neg (by omega)]
theorem cut_at {b s t:List UInt8} {a:Nat} (h:b.drop a=s++t):(b.take (a+s.length)).drop a=s:=by
 rw [List.drop_take,h,Nat.add_sub_cancel_left,Yy]
def plT (c:Cl):List UInt8:=Do c.x++32::Do c.y
def Vj (cr:Bool):List UInt8:=if cr then [13,10]else [10]
def Cl.shrt (c:Cl):Prop:=(BV c.x.natAbs).length≤400∧(BV c.y.natAbs).length≤400
theorem QW (z:Int):∃c r,Do z=c::r∧c≠35:=by
 have hp:=PL z.natAbs
 unfold Do
 split
 ·exact ⟨_,_,rfl,by decide⟩
 ·cases e:BV z.natAbs with
  | nil=>rw [e]at hp;simp at hp
  | cons x r=>
   refine ⟨x,r,rfl,fun hx=>?_⟩
   have:=(Ee x).1 (M5 z.natAbs x (by rw [e];exact YT))
   subst hx;simp at this
theorem place_line {b t:List UInt8} {a:Nat} {c:Cl} {cr:Bool} (hs:c.shrt) (h:b.drop a=plT c++(Vj cr++t)) (st:PSt) :
  Vf b a st=((none,a+(plT c++Vj cr).length),{ st with cells:=st.cells++[⟨c.x,c.y,1⟩] }):=by
 have h1:b.drop a=Do c.x++32::(Do c.y++(Vj cr++t)):=by rw [h];simp [plT]
 have i1:=dec_read [32,49] h1 (by decide) hs.1
 have h2:=PK h1
 have i2:=must_one h2 [49]
 have h3:=(GO h2).2.2
 obtain ⟨e,u,he,heu⟩:∃e u,Vj cr++t=e::u∧Ij.contains e=false:=by
  cases cr
  ·exact ⟨10,t,rfl,by decide⟩
  ·exact ⟨13,10::t,rfl,by decide⟩
 have h3':=h3
 rw [he]at h3'
 have i3:=dec_read [] h3' heu hs.2
 have h4:=PK h3
 have i4:I0 b (a+(Do c.x).length+1+(Do c.y).length) []=(none,a+(Do c.x).length+1+(Do c.y).length+(Vj cr).length):=by
  cases cr
  ·exact end_lf h4 []
  ·exact end_crlf h4 []
 have hx:(b.take (a+(Do c.x).length)).drop a=Do c.x:=cut_at h1
 have hy:(b.take (a+(Do c.x).length+1+(Do c.y).length)).drop (a+(Do c.x).length+1)=Do c.y:=cut_at h3
 unfold Vf R2 J6 endP
 obtain ⟨c0,r0,e0,hc0⟩:=QW c.x
 rw [e0,List.cons_append]at h1
 rw [Ef h1,show ([35]:List UInt8).contains c0=false from by simpa using hc0]
 simp only [WL,if_false,i1]
 rw [show Jy=[32] from rfl,i2]
 dsimp only
 rw [i3]
 dsimp only
 rw [i4,hx,hy,(T6 hs.1).2,(T6 hs.2).2]
 congr 2
 simp [plT];omega
def Ha (l:List (Cl×Bool)):List UInt8:=l.flatMap fun p=>plT p.1++Vj p.2
def LV (l:List (Cl×Bool)):List Cl:=l.map fun p=>⟨p.1.x,p.1.y,1⟩
theorem Qt (p:Cl×Bool) (l:List (Cl×Bool)):Ha (p::l)=plT p.1++(Vj p.2++Ha l):=by simp [Ha]
theorem Ru {b:List UInt8}:∀(l:List (Cl×Bool)) (k a:Nat) (st:PSt),(∀p∈l,p.1.shrt)→b.drop a=Ha l→a≤b.length→l.length≤k →
  Gu b k a st=((none,b.length),{ st with cells:=st.cells++LV l })
 | [],k,a,st,_,h,ha,_=>by
  have:a=b.length:=by
   have:=congrArg List.length h
   rw [WZ]at this
   simp [Ha]at this;omega
  subst this
  cases k with
  | zero=>simp [Gu,LV]
  | succ k=>unfold Gu;simp [LV]
 | p::l,k+1,a,st,hs,h,ha,hk=>by
  rw [Qt]at h
  have h1:=place_line (hs p (by simp)) h st
  have hne:¬a=b.length:=by
   intro e
   have:=congrArg List.length h
   obtain ⟨c0,r0,e0,_⟩:=QW p.1.x
   rw [WZ,plT,e0]at this
   simp at this;omega
  unfold Gu
  rw [if_neg hne,h1]
  dsimp only
  have h2:b.drop (a+(plT p.1++Vj p.2).length)=Ha l:=by rw [←WG]at h;exact PK h
  have hle:a+(plT p.1++Vj p.2).length≤b.length:=by
   have:=congrArg List.length h
   rw [WZ]at this
   simp at this ⊢;omega
  rw [Ru l k _ _ (fun q hq=>hs q (by simp [hq])) h2 hle (by simpa using hk)]
  simp [LV]
 | _::_,0,_,_,_,_,_,hk=>by simp at hk
theorem plsT_len (l:List (Cl×Bool)):l.length≤(Ha l).length:=by
 induction l with
 | nil=>simp [Ha]
 | cons p l ih=>
  rw [Qt]
  obtain ⟨c0,r0,e0,_⟩:=QW p.1.x
  simp [plT,e0];omega
def CM:List UInt8:=[35,76,105,102,101,32,49,46,48,54,10]
theorem Ty (l:List (Cl×Bool)) (hs:∀p∈l,p.1.shrt):MS (CM++Ha l) pst0=((none,(CM++Ha l).length),⟨usualL,LV l⟩):=by
 have h0:(CM++Ha l).drop 0=Iz++10::Ha l:=rfl
 have h1:=must_app h0 []
 have h2:=PK h0
 have h3:=end_lf h2 []
 unfold MS
 rw [h1]
 dsimp only
 rw [h3]
 dsimp only
 rw [Ru l _ _ _ hs (GO h2).2.2 (GO h2).1 (by have:=plsT_len l;simp;omega)]
 simp [pst0]
theorem last_same {l m:List Cl} (hl:∀c∈l,c.s=1) (hm:∀c∈m,c.s=1) (h:∀c,c∈l↔c∈m):C0 l=C0 m:=by
 have key:∀(l:List Cl),(∀c∈l,c.s=1)→∀z,z∈C0 l↔z∈l:=fun l hl z=>by
  obtain ⟨_,f2⟩:=GL l [] List.Pairwise.nil
  show z∈l.foldl BH []↔_
  rw [f2 z,Xl]
  constructor
  ·intro hz
   have:=List.mem_of_mem_head? (Option.mem_def.2 hz)
   simpa using (XT.1 this).1
  ·intro hz
   cases hf:l.reverse.filter (Bw ltC z)with
   | nil=>
    have:z∈l.reverse.filter (Bw ltC z):=XT.2 ⟨by simpa using hz,M0 IB z⟩
    rw [hf]at this;cases this
   | cons c r=>
    have hc:c∈l.reverse.filter (Bw ltC z):=by rw [hf];exact YT
    obtain ⟨c1,c2⟩:=XT.1 hc
    obtain ⟨e1,e2⟩:=HF.1 c2
    have e3:=hl c (by simpa using c1)
    have e4:=hl z hz
    have:c=z:=by
     obtain ⟨cx,cy,cs⟩:=c
     obtain ⟨zx,zy,zs⟩:=z
     simp only at e1 e2 e3 e4
     subst e1 e2 e3 e4;rfl
    rw [this];rfl
 refine O5 IB _ _ (GL l [] List.Pairwise.nil).1 (GL m [] List.Pairwise.nil).1 fun z=>?_
 rw [key l hl,key m hm]
 exact h z
theorem of07_same {l m:List Cl} (hl:∀c∈l,c.s=1) (hm:∀c∈m,c.s=1) (h:∀c,c∈l↔c∈m):OH l=OH m:=by
 unfold OH CC
 rw [last_same hl hm h]
theorem Rt {l m:List (Cl×Bool)} (hl:∀p∈l,p.1.shrt) (hm:∀p∈m,p.1.shrt) (h:∀c,c∈LV l↔c∈LV m) (bx N:Int) :
  (Dw (CM++Ha l) bx N).1=(Dw (CM++Ha m) bx N).1∧(Dw (CM++Ha l) bx N).2.2=(Dw (CM++Ha m) bx N).2.2:=by
 have e:OH (LV l)=OH (LV m):=of07_same (fun c hc=>by obtain ⟨p,_,rfl⟩:=XQ.1 hc;rfl) (fun c hc=>by obtain ⟨p,_,rfl⟩:=XQ.1 hc;rfl) h
 unfold Dw
 rw [Ty l hl,Ty m hm]
 dsimp only
 rw [e]
 split
 ·split <;> exact ⟨rfl,rfl⟩
 ·exact ⟨rfl,rfl⟩
set_option exponentiation.threshold 5000
theorem To (n:Nat):F5 (A0 n)=true:=(O7 (Bh n)).2 (IJ n)
theorem cut_lims (n:Nat) (tk:Tok) (H:Aa) (hl:(A0 n).length≤1099511627776):Sh.f0 (.sl (enL cU (A0 n)) tk) H=some (.ret (.sl (enL cU (A0 n)) .no),H):=by
 have hr:=p_right (A0 n) tk H hl
 rw [To]at hr
 unfold Sh.f0
 rw [Dy Ez]
 unfold Sh.f1h
 simp only [Aj,GMb,GMc,hr,X2,DE,forget,DM,fgt]
theorem w_pow (k:Nat):(4294967296:Nat)^k=2^(32*k):=by
 rw [show (4294967296:Nat)=2^32 from by decide,←Y4]
theorem bl_snoc {l':List Nat} {x:Nat} (hx:Lim (l'++[x])) (h0:x≠0):blN (val (l'++[x]))=32*l'.length+blN x:=by
 have h1:=FE (l:=l') fun y hy=>hx y (by simp [hy])
 rw [BS,Jm]
 rw [w_pow]at h1 ⊢
 have hp:0<2^(32*l'.length):=Yx (by decide)
 have h2:2^(32*l'.length)≤val l'+2^(32*l'.length)*x:=by
  have:2^(32*l'.length)*1≤2^(32*l'.length)*x:=YL _ (by omega)
  omega
 rw [blN_div h2,Zp _ _ hp,XX h1,WE,Zg]
theorem p_len (n:Nat) (tk:Tok) (H:Aa) (hl:(A0 n).length≤1000000):Sh.f2y (.sl (enL cU (A0 n)) tk) H=some (.ret (.int .i64 (blN n:Int)),H):=by
 have hc:=cut_lims n tk H (by omega)
 unfold Sh.f2y
 simp only [GMb,GMc,hc,Av]
 have hx:=Bh n
 have hn:=(IJ n).last
 have hv:=Bp n
 generalize A0 n=l at *
 rcases F3 l with rfl | ⟨l',x,rfl⟩
 ·have:n=0:=hv.symm
  subst this
  simp [blN]
 ·simp only [WJ,List.length_singleton]at hl
  have hx0:x≠0:=hn x (by simp)
  have h1:l'.length<(l'++[x]).length:=by simp
  have h3:IntKind.i64.wrap ((((l'++[x]).length:Nat):Int)-1)=(l'.length:Int):=by rw [Al] <;> simp <;> omega
  have hne:((((l'++[x]).length:Nat):Int) == 0)=false:=by simp;omega
  have hne2:decide ((((l'++[x]).length:Nat):Int)=0)=false:=decide_eq_false (by simp;omega)
  have h4:IntKind.i64.wrap ((l'.length:Int)*32)=((32*l'.length:Nat):Int):=by rw [Al] <;> omega
  have hxl:=hx x (by simp)
  have hb:blN x≤32:=Im.2 (by simpa using hxl)
  have h5:IntKind.i64.wrap (((32*l'.length:Nat):Int)+(blN x:Int))=(blN n:Int):=by
   rw [←hv,bl_snoc hx hx0,Al] <;> omega
  have hl32:=fun K=>p_len32 hxl K
  simp only [hne,hne2,AI,h3,Ax h1,A7,List.getElem?_cons_zero,XC (WF _),Xn,List.getElem_cons_zero,GMb,GMc,h4,hl32,h5]
theorem limb_at {l:List Nat} (hx:Lim l) {q:Nat} (hq:q<l.length):l[q]=val l / 2^(32*q)%4294967296:=by
 have e:l=l.take q++(l[q]::l.drop (q+1)):=by rw [←Xf hq,Xr]
 have h1:=FE (l:=l.take q) fun y hy=>hx y (XK hy)
 have h2:=hx l[q] (WP hq)
 have hv:val l=val (l.take q)+4294967296^q*(l[q]+4294967296*val (l.drop (q+1))):=by
  conv=>lhs;rw [e]
  rw [BS,WT,X4 (by omega)]
  rfl
 rw [WT,X4 (by omega)]at h1
 have hp:0<4294967296^q:=Yx (by decide)
 rw [hv,←w_pow,Zp _ _ hp,XX h1,WE,YW,X3 h2]
theorem shr_u32i (x k:Nat) (hk:k≤32):Ae .none .shr (.int .u32 (x:Int)) (.int .i64 (k:Int))=some (.int .u32 ((x / 2^k:Nat):Int)):=shr_u32 x k hk
theorem and_one {x:Nat} (hx:x<4294967296):Ae .none .and (.int .u32 (x:Int)) (.int .u32 1)=some (.int .u32 ((x%2:Nat):Int)):=by
 have h:=(Ji (BitVec.ofNat 32 x) (BitVec.ofNat 32 1)).1
 rw [BitVec.toNat_and,Ye,Ye,X3 hx,X3 (by decide),Nat.and_one_is_mod]at h
 rw [MP .and rfl _ _ (fun _ _ _=>rfl)]
 exact h
theorem p_bit (n i:Nat) (tk:Tok) (H:Aa) (hl:(A0 n).length≤1000000) (hi:i<1000000):Sh.f1s (.sl (enL cU (A0 n)) tk) (.int .i64 (i:Int)) H=some (.ret (.bool (n.testBit i)),H):=by
 have d0:decide ((i:Int)≥0)=true:=decide_eq_true (by omega)
 have hq:Ae .none .quo (.int .i64 (i:Int)) (.int .i64 32)=some (.int .i64 ((i / 32:Nat):Int)):=by
  show some (Ab.int .i64 (IntKind.i64.wrap (((i / 32:Nat):Int))))=_
  rw [Al (by omega) (by omega)]
 have hrm:Ae .none .rem (.int .i64 (i:Int)) (.int .i64 32)=some (.int .i64 ((i%32:Nat):Int)):=rfl
 unfold Sh.f1s
 by_cases h:i / 32<(A0 n).length
 ·have d1:decide (((i / 32:Nat):Int)<((A0 n).length:Int))=true:=decide_eq_true (by omega)
  have hx:=Bh n _ (WP h)
  have ha:=limb_at (Bh n) h
  rw [Bp]at ha
  have hs:=shr_u32i (A0 n)[i / 32] (i%32) (by omega)
  have han:=and_one (x:=(A0 n)[i / 32] / 2^(i%32)) (X6 (Nat.div_le_self _ _) hx)
  have ht:((((A0 n)[i / 32] / 2^(i%32)%2:Nat):Int) == 1)=n.testBit i:=by
   have e1:n.testBit i=(A0 n)[i / 32].testBit (i%32):=by
    rw [ha,show (4294967296:Nat)=2^32 from by decide,Nat.testBit_mod_two_pow,Nat.testBit_div_two_pow,decide_eq_true (show i%32<32 by omega),X7,show i%32+32*(i / 32)=i by omega]
   rw [e1,Yk]
   generalize (A0 n)[i / 32] / 2^(i%32)%2=z
   rw [WW];simp;omega
  simp only [GMb,GMc,d0,hq,Av,d1,Ax h,A7,List.getElem?_cons_zero,hrm,hs,han,ht]
 ·have d1:decide (((i / 32:Nat):Int)<((A0 n).length:Int))=false:=decide_eq_false (by omega)
  have h1:=FE (Bh n)
  rw [Bp,w_pow]at h1
  have hf:n.testBit i=false:=Nat.testBit_lt_two_pow (X5 h1 (Xm (by decide) (by omega)))
  simp only [GMb,GMc,d0,hq,Av,d1,hf]
theorem p_need {z:Int} (H:Aa) (hz:LB z) (hl:z.natAbs<4294967296^100):Sh.f1r (big z) H=some (.ret (.int .i64 ((1+blN (if z<0 then z.natAbs-1 else z.natAbs):Nat):Int)),H):=by
 have key:∀w:Nat,w≤z.natAbs→(A0 w).length≤1000000:=fun w hw=>Xh (Ec (X6 hw hl)) (by decide)
 have hbl:∀w:Nat,w≤z.natAbs→IntKind.i64.wrap (1+(blN w:Int))=((1+blN w:Nat):Int):=fun w hw=>by
  have:blN w≤32*100:=Im.2 (X6 hw (by rw [w_pow]at hl;exact hl))
  rw [Al] <;> omega
 have one:∀K,Sh.f1p (.int .i64 1) K=some (.ret (big 1),K):=fun K=>p_of 1 K (by decide) (by decide)
 have l1:LB 1:=by unfold LB;exact Xh (Ec (k:=1) (by decide)) (by decide)
 unfold Sh.f1r Sh.f6t
 by_cases h:z<0
 ·have e:(-z-1).natAbs=z.natAbs-1:=by omega
  have hs:=fun K=>p_subB K hz.neg l1
  have hln:=fun K=>p_len (z.natAbs-1) .no K (key _ (by omega))
  have hb:=hbl (z.natAbs-1) (by omega)
  simp [D6,h,AJ,p_minus,one,hs,e,hln,hb]
 ·have hln:=fun K=>p_len z.natAbs .no K (key _ (by omega))
  have hb:=hbl z.natAbs (by omega)
  simp [D6,h,AJ,hln,hb]
def Pv (z:Int):Nat:=1+blN (if z<0 then z.natAbs-1 else z.natAbs)
theorem ipow (w:Nat):(2:Int)^w=((2^w:Nat):Int):=by simp
theorem inZ_need {v:Nat} {z:Int} (h:1≤v):inZ v z=decide (Pv z≤v):=by
 have hp:0<2^(v-1):=Yx (by decide)
 have key:∀u,1+blN u≤v↔u<2^(v-1):=fun u=>by rw [←Im];omega
 unfold inZ Pv
 rw [WW]
 simp only [WO,decide_eq_true_eq,ipow,key]
 generalize 2^(v-1)=P at *
 by_cases hz:z<0
 ·rw [if_pos hz];omega
 ·rw [if_neg hz];omega
def Ry (c:Cl):Nat:=max (Pv c.x) (Pv c.y)
theorem within_need {v:Nat} {c:Cl} (h:1≤v):FN v c=decide (Ry c≤v):=by
 unfold FN Ry
 rw [inZ_need h,inZ_need h,WW]
 simp only [WO,decide_eq_true_eq]
 omega
theorem VV:∀f v c,1≤v→JG f v c=max v (min (Ry c) (v+f))
 | 0,v,c,h=>by unfold JG;omega
 | f+1,v,c,h=>by
  unfold JG
  rw [within_need h]
  by_cases q:Ry c≤v
  ·rw [if_pos (decide_eq_true q)];omega
  ·rw [if_neg (by simpa using q),VV f (v+1) c (by omega)];omega
def mxN:List Cl→Nat
 | []=>0
 | c::l=>max (Ry c) (mxN l)
theorem fold_lv:∀(l:List Cl) (v:Nat),1≤v→v≤1330→l.foldl (fun v c=>JG (1330-v) v c) v=max v (min 1330 (mxN l))
 | [],v,h1,h2=>by simp only [List.foldl_nil,mxN];omega
 | c::l,v,h1,h2=>by
  have h:=VV (1330-v) v c h1
  rw [List.foldl_cons,fold_lv l _ (by omega) (by omega),h]
  simp only [mxN]
  omega
def DG (l:List Cl):Nat→Nat
 | 0=>1
 | i+1=>match l[i]? with | some c=>max (DG l i) (Ry c) | none=>DG l i
theorem Qz (l:List Cl):∀i,DG l i=max 1 (mxN (l.take i))
 | 0=>rfl
 | i+1=>by
  have hs:∀(m:List Cl) (c:Cl),mxN (m++[c])=max (mxN m) (Ry c):=fun m c=>by
   induction m with
   | nil=>simp only [List.nil_append,mxN];omega
   | cons d m ih=>simp only [List.cons_append,mxN,ih];omega
  unfold DG
  rw [Qz l i]
  rcases Xs i l.length with h | h
  ·rw [WB h,WM h,hs]
   dsimp only;omega
  ·rw [WR h,WN (show l.length≤i+1 by omega),WN h]
theorem levelOf_need (l:List Cl):Bt l=min 1330 (DG l l.length):=by
 unfold Bt
 rw [fold_lv l 1 (by omega) (by omega),Qz,Xv]
 omega
structure Sp where
 a:Nat
 b:Nat
 s:UInt8
def cSp (p:Sp):List Ab:=[.sl (enL cU (A0 p.a)) .no,.sl (enL cU (A0 p.b)) .no,.int .u8 (p.s.toNat:Int)]
instance:Sz cSp 3:=⟨fun _=>rfl⟩
def spot (h:Int) (c:Cl):Sp:=⟨(c.x+h).toNat,(c.y+h).toNat,c.s⟩
def qOf (v:Nat) (p:Sp):Nat:=(if p.a.testBit v then 1 else 0)+(if p.b.testBit v then 2 else 0)
def qSp (v k:Nat) (S:List Sp):List Sp:=S.filter fun p=>decide (qOf v p=k)
def headP:List Sp→Int
 | []=>0
 | p::_=>(p.s.toNat:Int)
def lyK (rec:List Nd→List Sp→List Nd×Nat) (v:Nat) (S:List Sp):Nat→List Nd→List Nd×Nd
 | 0,out=>(out,⟨((v+1:Nat):Int),0,0,0,0⟩)
 | k+1,out=>
  if v=0 then ((lyK rec v S k out).1,(lyK rec v S k out).2.setKid k (headP (qSp v k S)))
  else ((rec (lyK rec v S k out).1 (qSp v k S)).1,(lyK rec v S k out).2.setKid k ((rec (lyK rec v S k out).1 (qSp v k S)).2:Int))
def Cc:Nat→List Nd→List Sp→List Nd×Nat
 | 0,out,_=>(out,0)
 | v+1,out,S=>if S=[]then (out,0)else ((lyK (Cc v) v S 4 out).1++[(lyK (Cc v) v S 4 out).2],(lyK (Cc v) v S 4 out).1.length+1)
theorem bit_hi {A X v m:Nat} (hX:X=2^(v+1)*m) (h1:X≤A) (h2:A<X+2^(v+1)):A.testBit v=decide (X+2^v≤A):=by
 have hp:0<2^v:=Yx (by decide)
 have e:2^(v+1)=2^v*2:=Nat.pow_succ _ _
 obtain ⟨r,rfl⟩:∃r,A=X+r:=⟨A-X,by omega⟩
 rw [Yk,hX,e,Yn,Nat.mul_add_div hp,Nat.mul_add_mod]
 have hr:r<2^v*2:=by omega
 by_cases q:2^v≤r
 ·have:r / 2^v=1:=by
   rw [show r=2^v*1+(r-2^v)by omega,Nat.mul_add_div hp,XX (by omega)]
  rw [this,WW];simp;omega
 ·rw [XX (by omega),WW];simp;omega
theorem quart_bit {v k:Nat} {x y h:Int} {X Y m n:Nat} {c:Cl} (hk:k<4) (hx:(X:Int)=x+h) (hy:(Y:Int)=y+h) (hX:X=2^(v+1)*m) (hY:Y=2^(v+1)*n) (hc:InSq (v+1) x y c) :
  inQ (v+1) (qa (v+1) x k) (qb (v+1) y k) c=decide (qOf v (spot h c)=k):=by
 obtain ⟨c1,c2,c3,c4⟩:=hc
 have e:(2:Int)^(v+1)=((2^(v+1):Nat):Int):=ipow _
 rw [e]at c2 c4
 have b1:=bit_hi (A:=(c.x+h).toNat) hX (by omega) (by omega)
 have b2:=bit_hi (A:=(c.y+h).toNat) hY (by omega) (by omega)
 have e2:2^(v+1)=2^v*2:=Nat.pow_succ _ _
 rw [e2]at c2 c4
 unfold qOf spot
 dsimp only
 rw [b1,b2]
 unfold inQ qa qb
 rw [Xi,ipow]
 generalize 2^v=P at *
 clear hX hY b1 b2 e e2
 have t1:(X+P≤(c.x+h).toNat)↔x+P≤c.x:=by omega
 have t2:(Y+P≤(c.y+h).toNat)↔y+P≤c.y:=by omega
 simp only [t1,t2,decide_eq_true_eq]
 rw [WW]
 simp only [WO,decide_eq_true_eq]
 by_cases q1:x+P≤c.x
 ·by_cases q2:y+P≤c.y
  ·rw [if_pos q1,if_pos q2]
   match k,hk with
   | 0,_=>simp;omega
   | 1,_=>simp;omega
   | 2,_=>simp;omega
   | 3,_=>simp;omega
  ·rw [if_pos q1,if_neg q2]
   match k,hk with
   | 0,_=>simp;omega
   | 1,_=>simp;omega
   | 2,_=>simp;omega
   | 3,_=>simp;omega
 ·by_cases q2:y+P≤c.y
  ·rw [if_neg q1,if_pos q2]
   match k,hk with
   | 0,_=>simp;omega
   | 1,_=>simp;omega
   | 2,_=>simp;omega
   | 3,_=>simp;omega
  ·rw [if_neg q1,if_neg q2]
   match k,hk with
   | 0,_=>simp;omega
   | 1,_=>simp;omega
   | 2,_=>simp;omega
   | 3,_=>simp;omega
theorem head_spot (h:Int) (l:List Cl):headP (l.map (spot h))=headS l:=by cases l <;> rfl
theorem qSp_spot {v k:Nat} {x y h:Int} {X Y m n:Nat} {l:List Cl} (hk:k<4) (hx:(X:Int)=x+h) (hy:(Y:Int)=y+h) (hX:X=2^(v+1)*m) (hY:Y=2^(v+1)*n) (hc:∀c∈l,InSq (v+1) x y c) :
  qSp v k (l.map (spot h))=(OA (v+1) x y k l).map (spot h):=by
 unfold qSp OA
 rw [List.filter_map]
 congr 1
 refine List.filter_congr fun c hcl=>?_
 exact (quart_bit hk hx hy hX hY (hc c hcl)).symm
theorem Wa {h:Int}:∀(v:Nat) (out:List Nd) (x y:Int) (l:List Cl) (X Y m n:Nat),(X:Int)=x+h→(Y:Int)=y+h→X=2^v*m→Y=2^v*n→(∀c∈l,InSq v x y c)→Cc v out (l.map (spot h))=EW v out x y l
 | 0,out,x,y,l,X,Y,m,n,_,_,_,_,_=>rfl
 | v+1,out,x,y,l,X,Y,m,n,hx,hy,hX,hY,hc=>by
  have e2:2^(v+1)=2^v*2:=Nat.pow_succ _ _
  have key:∀k,k≤4→lyK (Cc v) v (l.map (spot h)) k out=plK (EW v) (v+1) x y l k out:=by
   intro k
   induction k with
   | zero=>intro _;rfl
   | succ k ih=>
    intro hk
    have hq:=qSp_spot (k:=k) (by omega) hx hy hX hY hc
    unfold lyK plK
    rw [ih (by omega),hq,head_spot]
    by_cases h0:v=0
    ·rw [if_pos h0,if_pos (by omega)]
    ·rw [if_neg h0,if_neg (by omega)]
     have hrec:=Wa (h:=h) v (plK (EW v) (v+1) x y l k out).1 (qa (v+1) x k) (qb (v+1) y k) (OA (v+1) x y k l)
      (if k%2=1 then X+2^v else X) (if 1<k then Y+2^v else Y) (if k%2=1 then m*2+1 else m*2) (if 1<k then n*2+1 else n*2)
      (by unfold qa;rw [Xi,ipow];split <;> omega) (by unfold qb;rw [Xi,ipow];split <;> omega)
      (by rw [hX,e2];split <;> (simp only [XI,WQ,Yn,XP 2 m])) (by rw [hY,e2];split <;> (simp only [XI,WQ,Yn,XP 2 n]))
      (fun c hc=>quart_in hc)
     rw [hrec]
  unfold Cc EW
  rw [key 4 (by omega)]
  by_cases h0:l=[]
  ·rw [if_pos (by rw [h0];rfl),if_pos h0]
  ·rw [if_neg (by simpa using h0),if_neg h0]
theorem c05_kid {L:List Nd} {tk:Tok} {i:Nat} (hi:i<L.length) (h1:1≤L[i].lv) (h2:L[i].lv≤1329) (c:Int) (H:Aa) (hL:L.length<1152921504606846976):Sh.f32 (.sl (enL cNd L) tk) (.int .i64 (i:Int)) (.int .i64 c) H=some (.ret (.bool (CD L i L[i] c)),H):=by
 unfold Sh.f32
 simp only [GMb,GMc,HPa,HPc,HPd,HPe,HPz,Nat.reduceAdd,Nat.reduceLT,Ax hi,Nu,BI,Fs,Fr,Fj]
 generalize L[i]=x at h1 h2
 by_cases hc:c=0
 ·have:CD L i x c=true:=by
   unfold CD
   simp only [WO,decide_eq_true_eq];exact ⟨⟨by omega,fun _=>by omega⟩,fun _ h=>by omega⟩
  rw [this]
  simp only [hc,GMb,GMc,HPa,HPc,HPd,HPe,HPz,Nat.reduceAdd,Nat.reduceLT]
 ·simp only [hc,GMb,GMc,HPa,HPc,HPd,HPe,HPz,Nat.reduceAdd,Nat.reduceLT,BI]
  by_cases hl:x.lv=1
  ·have:CD L i x c=(decide (c>0)&&decide (c≤255)):=by
    unfold CD
    rw [WW];simp only [WO,decide_eq_true_eq]
    exact ⟨fun h=>⟨by omega,h.1.2 hl⟩,fun h=>⟨⟨by omega,fun _=>h.2⟩,fun h'=>by omega⟩⟩
   rw [this]
   by_cases h0:c>0
   ·simp only [hl,h0,GMb,GMc,HPa,HPc,HPd,HPe,HPz,Nat.reduceAdd,Nat.reduceLT]
   ·simp only [hl,h0,GMb,GMc,HPa,HPc,HPd,HPe,HPz,Nat.reduceAdd,Nat.reduceLT]
  ·simp only [hl,GMb,GMc,HPa,HPc,HPd,HPe,HPz,Nat.reduceAdd,Nat.reduceLT]
   by_cases h0:c>0
   ·by_cases hci:c≤(i:Int)
    ·obtain ⟨m,rfl⟩:∃m:Nat,c=((m+1:Nat):Int):=⟨(c-1).toNat,by omega⟩
     have hm:m<L.length:=by omega
     have hw:IntKind.i64.wrap (((m+1:Nat):Int)-1)=(m:Int):=by rw [Al] <;> omega
     have hw2:IntKind.i64.wrap (x.lv-1)=x.lv-1:=Al (by omega) (by omega)
     have:CD L i x ((m+1:Nat):Int)=decide (L[m].lv=x.lv-1):=by
      unfold CD
      rw [WW];simp only [WO,decide_eq_true_eq,show (((m+1:Nat):Int)-1).toNat=m by omega,WB hm,WK]
      exact ⟨fun h=>(h.2 (by omega) h0).2 _ rfl,fun h=>⟨⟨by omega,fun h'=>absurd h' hl⟩,fun _ _=>⟨hci,fun y e=>by rw [←e];exact h⟩⟩⟩
     rw [this]
     simp only [h0,hci,GMb,GMc,HPa,HPc,HPd,HPe,HPz,Nat.reduceAdd,Nat.reduceLT,hw,hw2,Ax hm,Ap,A7,BI]
    ·have:CD L i x c=false:=by
      unfold CD
      rw [Yg];right
      rw [decide_eq_false_iff_not];intro h;exact hci (h (by omega) h0).1
     rw [this]
     simp only [h0,hci,GMb,GMc,HPa,HPc,HPd,HPe,HPz,Nat.reduceAdd,Nat.reduceLT]
   ·have:CD L i x c=false:=by
     unfold CD
     rw [Yg,Yg];left;left
     rw [decide_eq_false_iff_not];omega
    rw [this]
    simp only [h0,GMb,GMc,HPa,HPc,HPd,HPe,HPz,Nat.reduceAdd,Nat.reduceLT]
theorem c05_loose (L:List Nd) (tk:Tok) (H:Aa) (hL:L.length<1152921504606846976):Sh.f33 (.sl (enL cNd L) tk) H=some (.ret (.bool (AP L)),H):=by
 unfold Sh.f33
 rw [show AP L=(List.range L.length).all (FL L) from rfl]
 simp only [GMb,GMc,HPa,HPc,HPd,HPe,HPz,Nat.reduceAdd,Nat.reduceLT,Av]
 have key:∀(d i:Nat) (G:Aa),i+d=L.length→(∀j,j<i→FL L j=true)→∀n,d<n→An (fun rec1 vs H1=>Sh.f1v H rec1 (ag vs 0) (ag vs 1) (ag vs 2) (ag vs 3) H1) n [.sl (enL cNd L) tk,.sl (enL cNd L) tk,.int .i64 (L.length:Int),.int .i64 (i:Int)] (H++G)=some (.ret (.bool ((List.range L.length).all (FL L))),H):=by
  intro d
  induction d with
  | zero=>
   intro i G hi hall n hn
   obtain ⟨n,rfl⟩:∃k,n=k+1:=⟨n-1,by omega⟩
   have:(List.range L.length).all (FL L)=true:=by
    rw [Xb];intro j hj;exact hall j (by have:=Y9.1 hj;omega)
   rw [CH,this]
   generalize An (fun rec1 vs H1=>Sh.f1v H rec1 (ag vs 0) (ag vs 1) (ag vs 2) (ag vs 3) H1) n=rec
   unfold Sh.f1v
   have hi':¬(i:Int)<(L.length:Int):=by omega
   simp only [GMb,GMc,HPa,HPc,HPd,HPe,HPz,Nat.reduceAdd,Nat.reduceLT,hi']
  | succ d ih=>
   intro i G hi hall n hn
   obtain ⟨n,rfl⟩:∃k,n=k+1:=⟨n-1,by omega⟩
   have hlt:i<L.length:=by omega
   have hi':(i:Int)<(L.length:Int):=by omega
   rw [CH]
   have hno:FL L i=false→(List.range L.length).all (FL L)=false:=fun h=>by rw [YD];exact ⟨i,by simpa using hlt,by simp [h]⟩
   have hyes:FL L i=true→∀G',An (fun rec1 vs H1=>Sh.f1v H rec1 (ag vs 0) (ag vs 1) (ag vs 2) (ag vs 3) H1) n [.sl (enL cNd L) tk,.sl (enL cNd L) tk,.int .i64 (L.length:Int),.int .i64 ((i+1:Nat):Int)] (H++G')=some (.ret (.bool ((List.range L.length).all (FL L))),H):=fun h G'=>ih (i+1) G' (by omega) (fun j hj=>by
    by_cases e:j=i
    ·rw [e];exact h
    ·exact hall j (by omega)) n (by omega)
   generalize An (fun rec1 vs H1=>Sh.f1v H rec1 (ag vs 0) (ag vs 1) (ag vs 2) (ag vs 3) H1) n=rec at hyes
   unfold Sh.f1v
   have hg:L[i]? = some L[i]:=WB hlt
   simp only [GMb,GMc,HPa,HPc,HPd,HPe,HPz,Nat.reduceAdd,Nat.reduceLT,Ai,hi',Ax hlt,Nu,BI,Fs,Fr,Fj]
   by_cases h1:L[i].lv<1
   ·have:FL L i=false:=by simp only [FL,hg];simp;intro;omega
    rw [hno this]
    simp only [h1,GMb,GMc,HPa,HPc,HPd,HPe,HPz,Nat.reduceAdd,Nat.reduceLT]
   ·by_cases h2:L[i].lv>1329
    ·have:FL L i=false:=by simp only [FL,hg];simp;intro;omega
     rw [hno this]
     simp only [h1,h2,GMb,GMc,HPa,HPc,HPd,HPe,HPz,Nat.reduceAdd,Nat.reduceLT,BI,Fs,Fr,Fj]
    ·have hd:FL L i=(List.range 4).all fun k=>CD L i L[i] (L[i].kid k):=by
      simp only [FL,hg];rw [decide_eq_true (by omega)];rfl
     simp only [h1,h2,GMb,GMc,HPa,HPc,HPd,HPe,HPz,Nat.reduceAdd,Nat.reduceLT,BI,Fs,Fr,Fj]
     have:=Ew 4 (fun k=>CD L i L[i] (L[i].kid k)) (fun k=>[.sl (enL cNd L) tk,.int .i64 (i:Int),.sl (enL cNd L) tk,.int .i64 (L.length:Int),.int .i64 (i:Int),.agg (Id L[i]),.int .i64 (k:Int)]) (H++(G++[.cel 0 (cNd L[i])])) (rec [.sl (enL cNd L) tk,.sl (enL cNd L) tk,.int .i64 (L.length:Int),.int .i64 ((i+1:Nat):Int)] (H++(G++[.cel 0 (cNd L[i])]))) (some (.ret (.bool false),H)) (by decide) (fun rec2 k hk=>?_) (fun rec2=>?_)
      (G:=fun rec2 vs H1=>Sh.f50 H rec rec2 (ag vs 0) (ag vs 1) (ag vs 2) (ag vs 3) (ag vs 4) (ag vs 5) (ag vs 6) H1)
     ·refine this.trans ?_
      rw [←hd]
      cases hb:FL L i with
      | true=>simp only [if_true];exact hyes hb _
      | false=>simp only [WL,if_false];rw [hno hb]
     ·have hk':(k:Int)<4:=by omega
      unfold Sh.f50
      simp only [GMb,GMc,HPa,HPc,HPd,HPe,HPz,Nat.reduceAdd,Nat.reduceLT,Ai,hk',ag_kid _ hk,c05_kid hlt (by omega) (by omega) (L[i].kid k) _ hL]
      cases CD L i L[i] (L[i].kid k)with
      | true=>simp only [GMb,GMc,HPa,HPc,HPd,HPe,HPz,Nat.reduceAdd,Nat.reduceLT,Aw (show k<9223372036854775807 by omega),if_true]
      | false=>simp only [GMb,GMc,HPa,HPc,HPd,HPe,HPz,Nat.reduceAdd,Nat.reduceLT,WL,if_false]
     ·unfold Sh.f50
      simp only [GMb,GMc,HPa,HPc,HPd,HPe,HPz,Nat.reduceAdd,Nat.reduceLT,Ai,show ¬(((4:Nat):Int)<4) from by decide,Aw (show i<9223372036854775807 by omega)]
 have:=key L.length 0 [] (by omega) (fun j hj=>by omega) AM (by rw [Ey];exact hL)
 rw [Xl]at this
 exact this
def QQ (F:List Bool) (x:Nd) (k:Nat):Bool:=!decide (x.kid k=0)&&(decide (x.lv=1)||F.getD (x.kid k).toNat false)
def fulS (F:List Bool) (x:Nd):Bool:=(List.range 4).any (QQ F x)
theorem ful_emp {E:List Bool} {x:Nd} (h1:1≤x.lv) (hE:∀k,k<4→1<x.lv→(x.kid k).toNat<E.length):fulS (E.map (!·)) x = !PI E x:=by
 unfold fulS PI
 have each:∀k,k<4→QQ (E.map (!·)) x k = !(decide (x.kid k=0)||(decide (1<x.lv)&&E.getD (x.kid k).toNat true)):=by
  intro k hk
  unfold QQ
  by_cases hl:x.lv=1
  ·have:¬1<x.lv:=by omega
   simp [hl]
  ·have hl1:1<x.lv:=by omega
   have:=hE k hk hl1
   simp [hl,hl1,WH,WB this]
 show ((QQ _ x 0||(QQ _ x 1||(QQ _ x 2||(QQ _ x 3||false))))) = !(_&&(_&&(_&&(_&&true))))
 rw [each 0 (by omega),each 1 (by omega),each 2 (by omega),each 3 (by omega)]
 simp only [Bool.not_and,X2]
theorem c05_full1 {H:Aa} {pn po q m:Nat} {x:Nd} {F:List Bool} (hn:H[pn]? = some (.cel 0 (cNd x))) (ho:H[po]? = some (.cel 0 [.ms q 0 0 m m 1 true])) (hq:H[q]? = some (.cel 0 (flat cB F))) (hm:F.length=m) {k:Nat} (hk:k<4) (h0:0≤x.kid k) (hb:x.lv≠1→x.kid k≠0→(x.kid k).toNat<m) :
  Sh.f4a (.int .i64 (x.kid k)) (.ptr pn 0 0) (.ptr po 0 0) H=some (.ret (.bool (QQ F x k)),H):=by
 have l1:=load_lvP hn
 have l2:=C5 (o:=0) (sz:=1) ho
 unfold Sh.f4a QQ
 by_cases hc:x.kid k=0
 ·simp only [hc,GMb,GMc,HPa,HPc,HPd,HPe,HPz,Nat.reduceAdd,Nat.reduceLT]
 ·by_cases hl:x.lv=1
  ·simp only [hc,hl,l1,GMb,GMc,HPa,HPc,HPd,HPe,HPz,Nat.reduceAdd,Nat.reduceLT]
  ·have hlt:=hb hl hc
   obtain ⟨c,hcc⟩:∃c:Nat,x.kid k=(c:Int):=⟨(x.kid k).toNat,by omega⟩
   rw [hcc,Int.toNat_natCast]at hlt
   have hi:=Cy (sz:=1) (id:=q) (g:=0) (off:=0) (n:=m) (cap:=m) (ex:=true) (K:=.i64) hlt
   have hld:=Ib (f:=cB) (l:=F) (A5 hq) (show c<F.length by omega)
   simp only [WE,WQ]at hi
   rw [hcc]at hc ⊢
   simp only [hc,hl,l1,l2,GMb,GMc,HPa,HPc,HPd,HPe,HPz,Nat.reduceAdd,Nat.reduceLT,hi,hld,Int.toNat_natCast,WH,WB (show c<F.length by omega),Option.getD_some,List.getElem?_cons_zero]
theorem c05_any {H:Aa} {pn po q m:Nat} {x:Nd} {F:List Bool} (hn:H[pn]? = some (.cel 0 (cNd x))) (ho:H[po]? = some (.cel 0 [.ms q 0 0 m m 1 true])) (hq:H[q]? = some (.cel 0 (flat cB F))) (hm:F.length=m) (h0:∀k,k<4→0≤x.kid k) (hb:∀k,k<4→x.lv≠1→x.kid k≠0→(x.kid k).toNat<m) :
  Sh.f35 (.ms pn 0 1 4 4 1 true) (.fn 238 [.ptr pn 0 0,.ptr po 0 0]) H=some (.ret (.bool (fulS F x)),H):=by
 unfold Sh.f35 Sh.f4b
 simp only [GMb,GMc,len_ms,show ((4:Nat):Int)=4 from rfl]
 have key:=TT (G:=fun rec1 vs H1=>Sh.f51 H rec1 (ag vs 0) (ag vs 1) (ag vs 2) (ag vs 3) H1) 4 (QQ F x) (fun k=>[.ms pn 0 1 4 4 1 true,.fn 238 [.ptr pn 0 0,.ptr po 0 0],.int .i64 4,.int .i64 (k:Int)]) H (some (.ret (.int .i64 (-1)),H)) (fun k=>some (.ret (.int .i64 (k:Int)),H)) (by decide) (fun rec k hk=>?_) (fun rec=>?_)
 ·rw [show (((0:Nat):Int))=0 from rfl]at key
  rw [key]
  cases hf:(List.range 4).find? (QQ F x)with
  | none=>
   have:fulS F x=false:=by
    unfold fulS
    rw [List.any_eq_false]
    intro k hk
    exact Y3.1 hf k hk
   simp only [GMb,GMc,this,show decide ((-1:Int)≥0)=false from by decide]
  | some k=>
   have:fulS F x=true:=by
    unfold fulS
    rw [List.any_eq_true]
    exact ⟨k,List.mem_of_find?_eq_some hf,List.find?_some hf⟩
   simp only [GMb,GMc,this,show decide ((k:Int)≥0)=true from by simp]
 ·have hk':(k:Int)<4:=by omega
  have hi:=Cy (sz:=1) (id:=pn) (g:=0) (off:=1) (n:=4) (cap:=4) (ex:=true) (K:=.i64) hk
  have hld:=load_kidP hn hk
  have hfull:=c05_full1 hn ho hq hm hk (h0 k hk) (hb k hk)
  simp only [WQ]at hi
  unfold Sh.f51 Ce
  simp only [GMb,GMc,Ai,hk',hi,hld,Dg,ent,if_true,List.cons_append,List.nil_append,ap3,hfull]
  cases QQ F x k with
  | true=>simp only [GMb,GMc,if_true]
  | false=>simp only [GMb,GMc,WL,if_false,Aw (show k<9223372036854775807 by omega)]
 ·unfold Sh.f51
  simp only [GMb,GMc,Ai,show ¬(((4:Nat):Int)<4) from by decide]
theorem map_take_not (L:List Nd) (i:Nat) (hi:i<L.length):((AC (L.take i)).map (!·)++List.replicate (L.length-i) false).set (i+1) (!PI (AC (L.take i)) L[i])=(AC (L.take (i+1))).map (!·)++List.replicate (L.length-(i+1)) false:=by
 have hl:((AC (L.take i)).map (!·)).length=i+1:=by rw [XM,E5,WT];omega
 rw [Xg _ _ (by omega),hl,Xn,Wu L hi,List.map_append,show L.length-i=(L.length-(i+1))+1 by omega,List.replicate_succ,List.set_cons_zero,WG]
 rfl
theorem c05_full (L:List Nd) (tk:Tok) (H:Aa) (hL:L.length<140737488355327) (hl:AP L=true):Sh.f1e (.sl (enL cNd L) tk) H=some (.ret (.sl (enL cB ((AC L).map (!·))) .no),H):=by
 have hmk:=FG (f:=cB) (a:=false) (n:=L.length+1) (bytes:=1) (H:=H) (by omega) (by omega)
 unfold Sh.f1e
 simp only [Av,GMb,GMc,HPa,HPc,HPd,HPe,HPz,Nat.reduceAdd,Nat.reduceLT,Aw (show L.length<9223372036854775807 by omega),hmk]
 have key:=Bl (G:=fun rec1 vs H1=>Sh.f6g H rec1 (ag vs 0) (ag vs 1) (ag vs 2) (ag vs 3) H1) (σ:=Nat×Aa) (fun s=>s.1≤L.length)
  (fun s=>[.ptr (H.length+1) 0 0,.sl (enL cNd L) tk,.int .i64 (L.length:Int),.int .i64 (s.1:Int)]) (fun s=>H++(.cel 0 (flat cB ((AC (L.take s.1)).map (!·)++List.replicate (L.length-s.1) false))::.cel 0 [.ms H.length 0 0 (L.length+1) (L.length+1) 1 true]::s.2)) (fun s=>L.length-s.1)
  (fun _=>some (.ret (.sl (enL cB ((AC L).map (!·))) .no),H)) (fun s rec hs hrec=>?_) (0,[]) (Xd _) (by dsimp only;omega)
 ·rw [List.take_zero]at key
  have e:(AC []).map (!·)++List.replicate (L.length-0) false=List.replicate (L.length+1) false:=by simp [AC,List.replicate_succ]
  rw [e]at key
  exact key
 ·obtain ⟨i,G⟩:=s
  dsimp only at hs hrec ⊢
  unfold Sh.f6g
  by_cases hi:i<L.length
  ·have hi':(i:Int)<(L.length:Int):=by omega
   obtain ⟨l1,l2,l3⟩:=AO hl hi
   have hElen:(AC (L.take i)).length=i+1:=by rw [E5,WT];omega
   have hFlen:((AC (L.take i)).map (!·)++List.replicate (L.length-i) false).length=L.length+1:=by rw [WJ,XM,hElen,YE];omega
   have hfs:fulS ((AC (L.take i)).map (!·)++List.replicate (L.length-i) false) L[i] = !PI (AC (L.take i)) L[i]:=by
    rw [←ful_emp l1 (fun k hk h1=>by
     obtain ⟨q1,q2,q3⟩:=l3 k hk
     rw [hElen]
     by_cases h0:0<L[i].kid k
     ·have:=(q3 h1 h0).1;omega
     ·omega)]
    unfold fulS QQ
    congr 1
    funext k
    by_cases hlv:L[i].lv=1
    ·simp [hlv]
    ·by_cases hk:k<4
     ·obtain ⟨q1,q2,q3⟩:=l3 k hk
      have:(L[i].kid k).toNat<((AC (L.take i)).map (!·)).length:=by
       rw [XM,hElen]
       by_cases h0:0<L[i].kid k
       ·have:=(q3 (by omega) h0).1;omega
       ·omega
      rw [WH,WD this,WH]
     ·have e3:L[i].kid k=L[i].kid 3:=by
       match k,hk with
       | 0,h=>exact absurd (by decide) h
       | 1,h=>exact absurd (by decide) h
       | 2,h=>exact absurd (by decide) h
       | n+3,_=>rfl
      obtain ⟨q1,q2,q3⟩:=l3 3 (by decide)
      rw [e3]
      have:(L[i].kid 3).toNat<((AC (L.take i)).map (!·)).length:=by
       rw [XM,hElen]
       by_cases h0:0<L[i].kid 3
       ·have:=(q3 (by omega) h0).1;omega
       ·omega
      rw [WH,WD this,WH]
   have hmt:=map_take_not L i hi
   generalize hF:(AC (L.take i)).map (!·)++List.replicate (L.length-i) false=F at *
   have any:=c05_any (H:=H++(.cel 0 (flat cB F)::.cel 0 [.ms H.length 0 0 (L.length+1) (L.length+1) 1 true]::(G++[.cel 0 (cNd L[i])]))) (pn:=H.length+(G.length+1+1)) (po:=H.length+1) (q:=H.length) (m:=L.length+1) (x:=L[i]) (F:=F) (by simp) (by simp) (by simp) hFlen (fun k hk=>(l3 k hk).1) (fun k hk h1 h0=>by
    obtain ⟨q1,q2,q3⟩:=l3 k hk
    have:=(q3 (by omega) (by omega)).1;omega)
   have hsl:ID 4 1 (.ptr (H.length+(G.length+1+1)) 0 1) none none=some (.ms (H.length+(G.length+1+1)) 0 1 4 4 1 true):=by simp [ID,Bk]
   have hix:=Cy (sz:=1) (id:=H.length) (g:=0) (off:=0) (n:=L.length+1) (cap:=L.length+1) (ex:=true) (K:=.i64) (i:=i+1) (by omega)
   simp only [WE,WQ]at hix
   have hst:∀G' t,Ah 1 (.ptr H.length 0 (i+1)) (.bool t) (H++(.cel 0 (flat cB F)::G'))=some (H++(.cel 0 (flat cB (F.set (i+1) t))::G')):=fun G' t=>by
    rw [Jv,Qi rfl (by rw [show flat cB F=F.map Ab.bool from by
     clear hfs hmt any hF hFlen
     induction F with
     | nil=>rfl
     | cons c l ih=>rw [D0,ih];rfl];simp;omega)]
    simp only [Option.map_some]
    congr 3
    have e:∀l:List Bool,flat cB l=l.map Ab.bool:=fun l=>by
     induction l with
     | nil=>rfl
     | cons c l ih=>rw [D0,ih];rfl
    rw [e,e,List.map_set]
   have next:=hrec (i+1,G++[.cel 0 (cNd L[i])]) hi (by dsimp only;omega)
   dsimp only at next
   rw [←hmt]at next
   simp only [GMb,GMc,HPa,HPc,HPd,HPe,HPz,Nat.reduceAdd,Nat.reduceLT,BI,Fs,Fr,Fj,Ai,hi',Ax hi,Nu,hsl,any,Aw (show i<9223372036854775807 by omega),hix,hst,hfs]
   exact next
  ·have hi':¬(i:Int)<(L.length:Int):=by omega
   have:i=L.length:=by omega
   subst this
   rw [Xv,Xn,List.replicate_zero,Xl]
   have hfall:=SD (f:=cB) (l:=(AC L).map (!·)) (H:=H++(.cel 0 (flat cB ((AC L).map (!·)))::.cel 0 [.ms H.length 0 0 (L.length+1) (L.length+1) 1 true]::G)) (id:=H.length) (b:=H.length) (d:=5) (cap:=L.length+1) (ex:=true) (by simp) (WF _)
   rw [XM,E5]at hfall
   simp only [GMb,GMc,HPa,HPc,HPd,HPe,HPz,Nat.reduceAdd,Nat.reduceLT,Ai,hi',hfall]
theorem ful_get (L:List Nd) {n:Nat} (hn:n<L.length+1):((AC L).map (!·)).getD n false = !(AC L).getD n true:=by
 have h:n<(AC L).length:=by rw [E5];exact hn
 rw [WH,WH,Xc,WB h];rfl
theorem ful_idx (L:List Nd) {n:Nat} (hn:n<L.length+1) (H:Aa) (K:IntKind):∃e,At 1 (.sl (enL cB ((AC L).map (!·))) .no) (.int K (n:Int))=some e∧Ac false 1 e H=some (.bool (!(AC L).getD n true)):=by
 have h:n<((AC L).map (!·)).length:=by rw [XM,E5];exact hn
 refine ⟨_,Ax h,?_⟩
 have e:=ful_get L hn
 rw [WH,WB h]at e
 simp only [A7,List.getElem?_cons_zero]
 rw [←e];rfl
theorem W6 (L:List Nd) (tk:Tok) (n:Nat) (H:Aa) (hL:L.length<140737488355327) (hl:AP L=true) (hn:n≤L.length):Sh.f36 (.sl (enL cNd L) tk) (.int .i64 (n:Int)) H=some (.ret (.bool ((AC L).getD n true)),H):=by
 obtain ⟨e,h1,h2⟩:=ful_idx L (n:=n) (by omega) H .i64
 unfold Sh.f36
 simp only [GMb,GMc,HPa,HPc,HPd,HPe,HPz,Nat.reduceAdd,Nat.reduceLT,c05_full L tk H hL hl,h1,h2,Bool.not_not]
theorem c05_hollow (L:List Nd) (tk:Tok) (n:Nat) (H:Aa) (hL:L.length<140737488355327) (hl:AP L=true) (hn:n≤L.length):Sh.f37 (.sl (enL cNd L) tk) (.int .i64 (n:Int)) H=some (.ret (.bool (Ft L n)),H):=by
 unfold Sh.f37 Ft
 cases n with
 | zero=>simp only [GMb,GMc,HPa,HPc,HPd,HPe,HPz,Nat.reduceAdd,Nat.reduceLT,show ((0:Nat):Int)=0 from rfl,ne_eq,not_true_eq_false]
 | succ n=>
  have hi:n<L.length:=hn
  have e0:¬((n+1:Nat):Int)=0:=by omega
  obtain ⟨l1,l2,l3⟩:=AO hl hi
  rw [El rfl hi]
  generalize hx:L[n]=x at l1 l2 l3
  have hw:IntKind.i64.wrap (((n+1:Nat):Int)-1)=(n:Int):=by rw [Al] <;> omega
  simp only [GMb,GMc,HPa,HPc,HPd,HPe,HPz,Nat.reduceAdd,Nat.reduceLT,BI,Fs,Fr,Fj,e0,hw,Ax hi,hx,Ap,A7]
  by_cases h2:x.lv=1
  ·have:¬2≤x.lv:=by omega
   simp only [h2,GMb,GMc,HPa,HPc,HPd,HPe,HPz,Nat.reduceAdd,Nat.reduceLT,show ¬(2:Int)≤1 from by decide]
  ·have h2':2≤x.lv:=by omega
   simp only [h2,h2',GMb,GMc,HPa,HPc,HPd,HPe,HPz,Nat.reduceAdd,Nat.reduceLT,c05_full L tk H hL hl,hw,Ax hi,hx,Ap,ld_kids,ne_eq,Yq,not_false_eq_true]
   have key:=Ew (G:=fun rec1 vs H1=>Sh.f53 H rec1 (ag vs 0) (ag vs 1) (ag vs 2) (ag vs 3) H1) 4 (fun k=>decide (x.kid k=0)||(List.range 4).all (Uc L (AC L) x k))
    (fun k=>[.sl (enL cNd L) tk,.sl (enL cB ((AC L).map (!·))) .no,.agg (Id x),.int .i64 (k:Int)]) H (some (.ret (.bool true),H)) (some (.ret (.bool false),H)) (by decide) (fun rec k hk=>?_) (fun rec=>?_)
   ·refine key.trans ?_
    rw [show hol L (AC L) x=(List.range 4).all fun k=>decide (x.kid k=0)||(List.range 4).all (Uc L (AC L) x k) from rfl]
    cases (List.range 4).all fun k=>decide (x.kid k=0)||(List.range 4).all (Uc L (AC L) x k) <;> rfl
   ·have hk':(k:Int)<4:=by omega
    obtain ⟨q1,q2,q3⟩:=l3 k hk
    have hws:IntKind.i64.wrap ((k:Int)+1)=((k+1:Nat):Int):=Aw (by omega)
    unfold Sh.f53
    simp only [GMb,GMc,Ai,hk',ag_kid _ hk]
    by_cases hc:x.kid k=0
    ·simp only [hc,GMb,GMc,hws,if_true]
    ·obtain ⟨m,hm⟩:∃m:Nat,x.kid k=((m+1:Nat):Int):=⟨(x.kid k-1).toNat,by omega⟩
     have h1:1<x.lv:=by omega
     obtain ⟨r1,r2⟩:=q3 h1 (by omega)
     have hml:m<L.length:=by omega
     have hy:=r2 L[m] (by rw [show (x.kid k-1).toNat=m from by omega];exact WB hml)
     obtain ⟨y1,y2,y3⟩:=AO hl hml
     have hp:Uc L (AC L) x k=fun j=>decide (j=3-k)||(if x.lv=2 then decide (L[m].kid j=0)else (AC L).getD (L[m].kid j).toNat true):=by
      funext j;unfold Uc;rw [El hm hml]
     have hwm:IntKind.i64.wrap (((m+1:Nat):Int)-1)=(m:Int):=by rw [Al] <;> omega
     have hc':¬((m+1:Nat):Int)=0:=by omega
     rw [hm]
     simp only [hp,hc',GMb,GMc,hwm,Ax hml,Ap,WE,ld_kids]
     refine Ew (G:=fun rec2 vs H1=>Sh.f52 H rec rec2 (ag vs 0) (ag vs 1) (ag vs 2) (ag vs 3) (ag vs 4) (ag vs 5) (ag vs 6) (ag vs 7) H1) 4 _
      (fun j=>[.sl (enL cNd L) tk,.sl (enL cB ((AC L).map (!·))) .no,.int .i64 (k:Int),.int .i64 ((m+1:Nat):Int),.agg (Id x),.int .i64 (k:Int),.agg (Id L[m]),.int .i64 (j:Int)]) H _ _ (by decide) (fun rec2 j hj=>?_) (fun rec2=>?_)
     ·have hj':(j:Int)<4:=by omega
      have hw3:IntKind.i64.wrap (3-(k:Int))=3-(k:Int):=Al (by omega) (by omega)
      have hjs:IntKind.i64.wrap ((j:Int)+1)=((j+1:Nat):Int):=Aw (by omega)
      have hj3:decide ((j:Int)=3-(k:Int))=decide (j=3-k):=by rw [WW];simp only [decide_eq_true_eq];omega
      unfold Sh.f52
      simp only [GMb,GMc,Ai,hj',ag_kid _ hj,hw3,hj3]
      by_cases hjk:j=3-k
      ·simp only [hjk,GMb,GMc,if_true]
       simp only [←hjk,hjs]
      ·by_cases hg:L[m].kid j=0
       ·have:(if x.lv=2 then decide (L[m].kid j=0)else (AC L).getD (L[m].kid j).toNat true)=true:=by
         split
         ·simp [hg]
         ·rw [hg];exact PH L
        simp only [hjk,this,GMb,GMc,if_true]
        simp only [hg,hjs,GMb,GMc]
       ·by_cases hl1:L[m].lv=1
        ·have h22:x.lv=2:=by omega
         simp only [hjk,h22,GMb,GMc,hg,hwm,Ax hml,Ap,A7,WE,BI,hl1,WL,if_true,if_false]
        ·have h22:¬x.lv=2:=by omega
         obtain ⟨s1,s2,s3⟩:=y3 j hj
         have hlt:=(s3 (by omega) (by omega)).1
         obtain ⟨g,hgg⟩:∃g:Nat,L[m].kid j=(g:Int):=⟨(L[m].kid j).toNat,by omega⟩
         obtain ⟨e,f1,f2⟩:=ful_idx L (n:=g) (by omega) H .i64
         rw [hgg]at hg
         simp only [hjk,h22,GMb,GMc,hgg,hg,hwm,Ax hml,Ap,A7,WE,BI,hl1,if_false,f1,f2,Int.toNat_natCast]
         cases (AC L).getD g true with
         | true=>simp only [GMb,GMc,if_true,hjs]
         | false=>simp only [GMb,GMc,WL,if_false]
     ·unfold Sh.f52
      simp only [GMb,GMc,Ai,show ¬(((4:Nat):Int)<4) from by decide,hws]
   ·unfold Sh.f53
    simp only [GMb,GMc,Ai,show ¬(((4:Nat):Int)<4) from by decide]
theorem c06_inner (L:List Nd) (tk:Tok) (n k:Nat) (H:Aa) (hL:L.length<140737488355327) (hl:AP L=true) (hn:n<L.length) (h2:2≤L[n].lv) (hk:k<4) :
  Sh.f38 (.sl (enL cNd L) tk) (.int .i64 ((n+1:Nat):Int)) (.int .i64 (k:Int)) H=some (.ret (.int .i64 (P5 L L[n] k)),H):=by
 obtain ⟨l1,l2,l3⟩:=AO hl hn
 obtain ⟨q1,q2,q3⟩:=l3 k hk
 have hw:IntKind.i64.wrap (((n+1:Nat):Int)-1)=(n:Int):=by rw [Al] <;> omega
 unfold Sh.f38 P5
 simp only [GMb,GMc,hw,Ax hn,Ap,DJ hk,A7,WE,WQ,Dt hk]
 by_cases hc:L[n].kid k=0
 ·simp only [hc,GMb,GMc,show ¬((0:Int)>0) from by decide,if_true]
 ·obtain ⟨m,hm⟩:∃m:Nat,L[n].kid k=((m+1:Nat):Int):=⟨(L[n].kid k-1).toNat,by omega⟩
  obtain ⟨r1,r2⟩:=q3 (by omega) (by omega)
  have hml:m<L.length:=by omega
  have hwm:IntKind.i64.wrap (((m+1:Nat):Int)-1)=(m:Int):=by rw [Al] <;> omega
  have hw3:IntKind.i64.wrap (3-(k:Int))=((3-k:Nat):Int):=by rw [Al] <;> omega
  have hgt:((m+1:Nat):Int)>0:=by omega
  have hc':¬((m+1:Nat):Int)=0:=by omega
  simp only [El (c:=((m+1:Nat):Int)) rfl hml,hm,hgt,hc',GMb,GMc,hwm,hw3,Ax hml,Ap,WE,DJ (show 3-k<4 by omega),A7,WQ,Dt (show 3-k<4 by omega),if_false]
theorem c_clone (L:List Nd) (tk:Tok) (H:Aa) (hL:L.length<3518437208883):Sh.f34 (.sl (enL cNd L) tk) H=some (if L=[]then (.ret (.sl [] .tight),H)else (.ret (.sl (enL cNd L) (.own H.length)),H++[.tok L.length Bg 5])):=by
 have hb:AQ 5 []=some (.sl (enL cNd []) .tight):=rfl
 unfold Sh.f34
 cases L with
 | nil=>
  have ha:AW Bg 5 40 (.sl (enL cNd []) .tight) (.sl (enL cNd []) tk) H=some (.sl (enL cNd []) .tight,H):=D7 (by simp [BK,enL])
  have hn:Sb .eql (.sl (enL cNd []) tk)=some .ubool:=rfl
  have hu:∀x:Out,Ak .ubool x x=x:=fun x=>if_pos rfl
  simp only [hn,GMb,GMc,hb,ha]
  exact hu _
 | cons x l=>
  have ha:AW Bg 5 40 (.sl (enL cNd []) .tight) (.sl (enL cNd (x::l)) tk) H=some (.sl (enL cNd (x::l)) (.own H.length),H++[.tok (x::l).length Bg 5]):=by
   have:=CA (f:=cNd) (l:=[]) (m:=x::l) (ty:=Bg) (bytes:=40) (tk:=tk) (H:=H) (by simp) (by simp only [List.length_nil];omega) (by simp only [List.length_nil];omega)
   simpa using this
  have hn:Sb .eql (.sl (enL cNd (x::l)) tk)=some (.bool false):=rfl
  simp only [hn,GMb,GMc,hb,ha,reduceCtorEq,if_false]
theorem c06_shrink (L:List Nd) (tk:Tok) (n:Nat) (H:Aa) (hL:L.length<3518437200000) (hl:AP L=true) (hn:n≤L.length) :
  Sh.f39 (.sl (enL cNd L) tk) (.int .i64 (n:Int)) H=some (.ret (.tup [.sl (enL cNd (F4 L n).1) .no,.int .i64 ((F4 L n).2:Int)]),H):=by
 unfold Sh.f39
 rw [c_clone L tk H (by omega)]
 by_cases h0:L=[]
 ·subst h0
  have hn0:n=0:=by simpa using hn
  subst hn0
  have he:=W6 [] .tight 0 H (by simp) hl (WF _)
  have he0:(AC ([]:List Nd)).getD 0 true=true:=rfl
  have hs:F4 [] 0=([],0):=rfl
  rw [show Ab.sl (enL cNd []) .tight=Ab.sl [] .tight from rfl,he0]at he
  rw [hs]
  have:=Pj (H0:=H) (v:=.tup [.sl [] .tight,.int .i64 0])
  simp only [GMb,GMc,HPa,HPc,HPd,HPe,HPz,Nat.reduceAdd,Nat.reduceLT,if_true,he,this]
  rfl
 ·simp only [GMb,GMc,h0,if_false,W6 L _ n _ (show L.length<140737488355327 by omega) hl hn]
  unfold F4
  cases hem:(AC L).getD n true with
  | true=>simp only [GMb,GMc,HPa,HPc,HPd,HPe,HPz,Nat.reduceAdd,Nat.reduceLT,if_true];rfl
  | false=>
   simp only [GMb,GMc,HPa,HPc,HPd,HPe,HPz,Nat.reduceAdd,Nat.reduceLT,WL,if_false]
   have hlv:(Bb L n).lv≤1329:=by
    cases n with
    | zero=>exfalso;rw [PH]at hem;cases hem
    | succ m=>rw [BN hn];exact (AO hl hn).2.1
   have key:=Bl (G:=fun rec1 vs H1=>Sh.f6h H rec1 (ag vs 0) (ag vs 1) H1) (σ:=List Nd×Nat×Aa) (fun s=>AP s.1=true∧s.2.1≤s.1.length∧s.1.length+(Bb s.1 s.2.1).lv.toNat<3518437208883∧s.1.length+(Bb s.1 s.2.1).lv.toNat<3518437208883)
    (fun s=>[.sl (enL cNd s.1) (.own H.length),.int .i64 (s.2.1:Int)]) (fun s=>H++.tok s.1.length Bg 5::s.2.2) (fun s=>(Bb s.1 s.2.1).lv.toNat)
    (fun s=>some (.ret (.tup [.sl (enL cNd (Ek (Bb s.1 s.2.1).lv.toNat s.1 s.2.1).1) .no,.int .i64 ((Ek (Bb s.1 s.2.1).lv.toNat s.1 s.2.1).2:Int)]),H)) (fun s rec hs hrec=>?_) (L,n,[]) ⟨hl,hn,by dsimp only;omega,by dsimp only;omega⟩ (by dsimp only;omega)
   ·exact key
   ·obtain ⟨M,i,G⟩:=s
    obtain ⟨hs1,hs2,hs3,hs4⟩:=hs
    simp only at hs1 hs2 hs3 hs4 hrec ⊢
    unfold Sh.f6h
    simp only [GMb,GMc,Ai,c05_hollow M _ i _ (show M.length<140737488355327 by omega) hs1 hs2]
    cases hh:Ft M i with
    | false=>
     have:Ek (Bb M i).lv.toNat M i=(M,i):=by
      cases (Bb M i).lv.toNat with
      | zero=>rfl
      | succ f=>simp [Ek,hh]
     simp only [GMb,GMc,HPa,HPc,HPd,HPe,HPz,Nat.reduceAdd,Nat.reduceLT,this]
    | true=>
     obtain ⟨hi0,hlv2⟩:=Wg hh
     obtain ⟨m,rfl⟩:∃m,i=m+1:=⟨i-1,by omega⟩
     have hm:m<M.length:=hs2
     obtain ⟨l1,l2,l3⟩:=AO hs1 hm
     have hx:Bb M ((m+1:Nat):Int)=M[m]:=BN hm
     rw [hx]at hlv2 hs3 hrec ⊢
     have hwm:IntKind.i64.wrap (((m+1:Nat):Int)-1)=(m:Int):=by rw [Al] <;> omega
     have hwl:IntKind.i64.wrap (M[m].lv-1)=M[m].lv-1:=Al (by omega) (by omega)
     have hsf:Ek M[m].lv.toNat M (m+1)=Ek (M[m].lv-1).toNat (M++[IQ M (m+1)]) (M.length+1):=by
      rw [show M[m].lv.toNat=(M[m].lv-1).toNat+1 from by omega]
      simp only [Ek,hh,if_true]
     generalize hB:H++.tok M.length Bg 5::G=B
     simp only [GMb,GMc,Ap,Ag,A7,WE,Nat.add_zero,WQ,BI,hwm,Ax hm,hwl,build_lv,alloc_nd,V7 (Ar (B:=B) (cs:=cNd nd0)) rfl,Bv]
     refine Cf (G:=fun rec2 vs H1=>Sh.f54 H rec rec2 (ag vs 0) (ag vs 1) (ag vs 2) (ag vs 3) H1) 4 (fun k=>[.sl (enL cNd M) (.own H.length),.int .i64 ((m+1:Nat):Int),.ptr B.length 0 0,.int .i64 (k:Int)]) (fun k=>B++[.cel 0 (cNd (setKs (P5 M M[m]) ⟨M[m].lv-1,0,0,0,0⟩ k))]) _ (by decide) (fun rec2 k hk=>?_) (fun rec2=>?_)
     ·have hk':(k:Int)<4:=by omega
      unfold Sh.f54
      have hinn:=c06_inner M (.own H.length) m k (B++[.cel 0 (cNd (setKs (P5 M M[m]) ⟨M[m].lv-1,0,0,0,0⟩ k))]) (by omega) hs1 hm hlv2 hk
      simp only [GMb,GMc,Ai,hk',hinn,Ag,WE,P6 hk,Ju (Ar (B:=B)) hk,Bv,Aw (show k<9223372036854775807 by omega)]
      rfl
     ·have hf:¬(((4:Nat):Int)<4):=by decide
      have hel:(⟨M[m].lv-1,P5 M M[m] 0,P5 M M[m] 1,P5 M M[m] 2,P5 M M[m] 3⟩:Nd)=IQ M (m+1):=by unfold IQ;rw [hx]
      unfold Sh.f54
      rw [setKs_all]
      simp only [GMb,GMc,Ai,hf,Pz (Ar (B:=B)),UB]
      rw [←hB,WG,List.cons_append,append_nd (by omega)]
      simp only [GMb,GMc,Av,WJ,List.length_singleton,hel]
      have hlv':(Bb (M++[IQ M (m+1)]) ((M.length+1:Nat):Int)).lv=M[m].lv-1:=by
       rw [BN (by simp),show (M++[IQ M (m+1)])[M.length]'(by simp)=IQ M (m+1) from by simp]
       show (Bb M ((m+1:Nat):Int)).lv-1=_
       rw [hx]
      have:=hrec (M++[IQ M (m+1)],M.length+1,G++[.cel 0 (cNd (IQ M (m+1)))]) ⟨We hs1 hm hlv2,by simp,by dsimp only;rw [hlv'];simp;omega,by dsimp only;rw [hlv'];simp;omega⟩ (by dsimp only;rw [hlv'];omega)
      simp only [WJ,List.length_singleton]at this
      rw [this,hlv',hsf]
section
variable {α β:Type} {f:α→List Ab} {g:β→List Ab} {ty ty2:TypeId} {sz sz2:Nat}
structure Grown (v v':Ab) (H H':Aa):Prop where
 len:H.length≤H'.length
 keep:∀i,i<H.length→(∀es,v≠.sl es (.own i))→H'[i]? = H[i]?
 own:∀i es,v'=.sl es (.own i)→H.length≤i∨∃es',v=.sl es' (.own i)
theorem RS.snoc2 [hf:Sz f sz] {bytes b:Nat} {out:List α} {v:Ab} {H:Aa} (h:RS f ty sz b out v H) (hb:b≤H.length) (x:α) (tk:Tok) (hl:(out.length+1)*bytes≤140737488355328) (hl2:out.length+1≤140737488355328) :
  ∃v' H',AW ty sz bytes v (.sl (enL f [x]) tk) H=some (v',H')∧RS f ty sz b (out++[x]) v' H'∧Kp b H H'∧Grown v v' H H':=by
 rcases h with ⟨rfl,rfl⟩ | ⟨t,h1,rfl,h3⟩
 ·have:=CA (f:=f) (l:=[]) (m:=[x]) (ty:=ty) (bytes:=bytes) (tk:=tk) (H:=H) (by simp) (by simpa using hl) (by simp)
  refine ⟨_,_,this,.inr ⟨H.length,hb,rfl,by simp⟩,Kp.app hb _,by simp,fun i hi _=>WD hi,fun i es e=>?_⟩
  injection e with _ e;injection e with e
  exact .inl (by omega)
 ·have:=EC (f:=f) (l:=out) (m:=[x]) (ty:=ty) (bytes:=bytes) (tk:=tk) (H:=H) (t:=t) (by simp) h3 (by simpa using hl) (by simpa using hl2)
  have htl:=(WC.1 h3).1
  refine ⟨_,_,this,.inr ⟨t,h1,rfl,by simp [htl]⟩,⟨by simp,fun i cs hc=>?_,fun i hi=>?_⟩,by simp,fun i hi hne=>?_,fun i es e=>?_⟩
  ·have:t≠i:=fun e=>by rw [←e,h3]at hc;cases hc
   rw [WI this];exact hc
  ·rw [WI (by omega)]
  ·have:t≠i:=fun e=>hne _ (by rw [e])
   rw [WI this]
  ·injection e with _ e;injection e with e
   exact .inr ⟨_,by rw [e]⟩
theorem RS.notok {b i:Nat} {out:List α} {v:Ab} {H:Aa} {B:Blk} (h:RS f ty sz b out v H) (hB:H[i]? = some B) (hn:∀n e s,B≠.tok n e s):∀es,v≠.sl es (.own i):=by
 intro es e
 rcases h with ⟨_,k1⟩ | ⟨t,_,k1,k2⟩
 ·rw [k1]at e;injection e with _ e;cases e
 ·rw [k1]at e;injection e with _ e;injection e with e
  rw [e,hB]at k2;injection k2 with k2
  exact hn _ _ _ k2
theorem RS.setB {b i:Nat} {out:List α} {v:Ab} {H:Aa} {B B':Blk} (h:RS f ty sz b out v H) (hB:H[i]? = some B) (hn:∀n e s,B≠.tok n e s):RS f ty sz b out v (H.set i B'):=by
 have hne:=h.notok hB hn
 rcases h with h1 | ⟨t,h1,h2,h3⟩
 ·exact .inl h1
 ·refine .inr ⟨t,h1,h2,?_⟩
  have:i≠t:=fun e=>hne _ (by rw [h2,e])
  rw [WI this];exact h3
theorem RS.one {b:Nat} {out:List α} {v:Ab} {H:Aa} (h:RS f ty sz b out v H):v.isScal=true:=by
 obtain ⟨tk,rfl⟩:=h.sl;rfl
theorem RS.len {b:Nat} {out:List α} {v:Ab} {H:Aa} (h:RS f ty sz b out v H):A2 v=some (.int .i64 (out.length:Int)):=by
 obtain ⟨tk,rfl⟩:=h.sl;exact Av
end
theorem nodup_le:∀(N:Nat) (l:List Nat),l.Nodup→(∀x∈l,x<N)→l.length≤N:=by
 intro N
 induction N with
 | zero=>
  intro l _ h
  cases l with
  | nil=>simp
  | cons a l=>have:=h a (by simp);omega
 | succ N ih=>
  intro l hn h
  by_cases hN:N∈l
  ·have h1:=List.length_erase_of_mem hN
   have h2:=ih (l.erase N) (hn.erase N) (fun x hx=>by
    rw [hn.mem_erase_iff]at hx
    have:=h x hx.2;omega)
   have:=List.length_pos_of_mem hN
   omega
  ·have:=ih l hn (fun x hx=>by
    have:=h x hx
    have:x≠N:=fun e=>hN (e ▸ hx)
    omega)
   omega
def knF:Nat→List Nd→List (Ab×Ab)
 | _,[]=>[]
 | s,x::l=>(.agg (cNd x),.int .i64 ((s+1:Nat):Int))::knF (s+1) l
theorem Uj (a:Nd) (l:List Nd) (y:Nd):CF (a::l) y=if a=y then 1 else if CF l y=0 then 0 else CF l y+1:=by
 by_cases h:a=y
 ·rw [if_pos h,Gx];exact ⟨by simp [h],fun j hj=>by omega⟩
 ·rw [if_neg h]
  cases hf:CF l y with
  | zero=>
   rw [if_pos rfl,JP]
   rw [JP]at hf
   intro hm
   rcases Xk.1 hm with e | e
   ·exact h e.symm
   ·exact hf e
  | succ i=>
   rw [if_neg (by omega),Gx]
   rw [Gx]at hf
   refine ⟨by simpa using hf.1,fun j hj=>?_⟩
   cases j with
   | zero=>simpa using h
   | succ j=>simpa using hf.2 j (by omega)
theorem key_nd (y:Nd):Dz true 5 (.agg (cNd y))=some (cNd y):=(rfl)
theorem VW (y:Nd):∀(l:List Nd) (s:Nat),Em true 5 (knF s l) (cNd y)=some (if CF l y=0 then none else some (.int .i64 ((s+CF l y:Nat):Int)))
 | [],s=>by
  have:CF [] y=0:=by rw [JP];simp
  simp [knF,Em,this]
 | a::l,s=>by
  have ih:=VW y l (s+1)
  simp only [knF,Em,key_nd,BC,PP]
  rw [Uj]
  by_cases h:a=y
  ·subst h;simp
  ·have h':¬y=a:=fun e=>h e.symm
   rw [decide_eq_false h',if_neg h]
   simp only [WL,if_false,ih]
   by_cases h0:CF l y=0
   ·simp [h0]
   ·rw [if_neg h0,if_neg (by rw [if_neg h0];omega),if_neg h0]
    congr 3;omega
theorem Vz (y:Nd):∀(l:List Nd) (s:Nat),CF l y=0→CX true 5 (knF s l) (.agg (cNd y)) (cNd y) (.int .i64 ((s+l.length+1:Nat):Int))=some (knF s (l++[y]))
 | [],s,_=>rfl
 | a::l,s,h=>by
  rw [Uj]at h
  by_cases ha:a=y
  ·rw [if_pos ha]at h;omega
  ·rw [if_neg ha]at h
   have h0:CF l y=0:=by
    by_cases h0:CF l y=0
    ·exact h0
    ·rw [if_neg h0]at h;omega
   have h':¬y=a:=fun e=>ha e.symm
   have ih:=Vz y l (s+1) h0
   simp only [knF,CX,key_nd,BC,PP,List.cons_append]
   rw [decide_eq_false h']
   simp only [WL,if_false]
   rw [List.length_cons,show s+(l.length+1)+1=s+1+l.length+1 by omega,ih]
   rfl
def dnM (D:List (Nat×Nat)):List (Ab×Ab):=D.map fun p=>(.int .i64 (p.1:Int),.int .i64 (p.2:Int))
def lkD (D:List (Nat×Nat)) (n:Nat):Option Nat:=match D with
 | []=>none
 | p::r=>if p.1=n then some p.2 else lkD r n
theorem lkD_mem {n m:Nat}:∀ {D:List (Nat×Nat)},lkD D n=some m→(n,m)∈D
 | [],h=>by cases h
 | p::r,h=>by
  unfold lkD at h
  by_cases hp:p.1=n
  ·rw [if_pos hp]at h;injection h with h;subst hp;subst h;exact YT
  ·rw [if_neg hp]at h;exact List.mem_cons_of_mem _ (lkD_mem h)
theorem lkD_none {n:Nat}:∀ {D:List (Nat×Nat)},lkD D n=none→n ∉ D.map (·.1)
 | [],h=>by simp
 | p::r,h=>by
  unfold lkD at h
  by_cases hp:p.1=n
  ·rw [if_pos hp]at h;cases h
  ·rw [if_neg hp]at h
   have:=lkD_none h
   simp only [Yo,Xk,not_or]
   exact ⟨fun e=>hp e.symm,this⟩
theorem lkD_app {n:Nat} {p:Nat×Nat}:∀ {D:List (Nat×Nat)},lkD (D++[p]) n=(match lkD D n with | some m=>some m | none=>if p.1=n then some p.2 else none)
 | []=>by simp [lkD]
 | q::r=>by
  have ih:=lkD_app (n:=n) (p:=p) (D:=r)
  simp only [List.cons_append,lkD]
  by_cases hq:q.1=n
  ·simp only [if_pos hq]
  ·simp only [if_neg hq,ih]
theorem nat_cell (a b:Nat):B8 [.int .i64 (a:Int)] [.int .i64 (b:Int)]=some (decide (a=b)):=by
 simp only [B8,G6,if_true,BC]
 congr 1
 rw [WW];simp;omega
theorem S7 (a:Int):Dz false 1 (.int .i64 a)=some [.int .i64 a]:=(rfl)
theorem VX (n:Nat):∀D:List (Nat×Nat),Em false 1 (dnM D) [.int .i64 (n:Int)]=some ((lkD D n).map fun m=>Ab.int .i64 (m:Int))
 | []=>rfl
 | p::r=>by
  have ih:=VX n r
  simp only [dnM,Yo,Em,S7,BC,nat_cell,lkD]
  by_cases hp:p.1=n
  ·subst hp;simp
  ·have:¬n=p.1:=fun e=>hp e.symm
   rw [decide_eq_false this,if_neg hp]
   simpa [dnM]using ih
theorem V0 (n m:Nat):∀D:List (Nat×Nat),lkD D n=none→CX false 1 (dnM D) (.int .i64 (n:Int)) [.int .i64 (n:Int)] (.int .i64 (m:Int))=some (dnM (D++[(n,m)]))
 | [],_=>rfl
 | p::r,h=>by
  unfold lkD at h
  by_cases hp:p.1=n
  ·rw [if_pos hp]at h;cases h
  ·rw [if_neg hp]at h
   have ih:=V0 n m r h
   have:¬n=p.1:=fun e=>hp e.symm
   simp only [dnM,Yo,CX,S7,BC,nat_cell,List.cons_append]at ih ⊢
   rw [decide_eq_false this]
   simp only [WL,if_false,ih]
   rfl
theorem lookA_dn {H:Aa} {id:Nat} {D:List (Nat×Nat)} (h:H[id]? = some (.map (dnM D))) (n:Nat):EO false 1 (some (.int .i64 0)) true (.mp id) (.int .i64 (n:Int)) H=some (match lkD D n with | some m=>.tup [.int .i64 (m:Int),.bool true] | none=>.tup [.int .i64 0,.bool false]):=by
 unfold EO
 simp only [BC,S7,h,VX,Option.map_some]
 cases lkD D n <;> rfl
theorem updA_dn {H:Aa} {id:Nat} {D:List (Nat×Nat)} (h:H[id]? = some (.map (dnM D))) {n:Nat} (m:Nat) (hn:lkD D n=none):DC false 1 (.mp id) (.int .i64 (n:Int)) (.int .i64 (m:Int)) H=some (H.set id (.map (dnM (D++[(n,m)])))):=by
 unfold DC
 simp only [BC,S7,h,V0 n m D hn,Option.map_some]
theorem lookA_kn {H:Aa} {id:Nat} {out:List Nd} (h:H[id]? = some (.map (knF 0 out))) (y:Nd):EO true 5 (some (.int .i64 0)) true (.mp id) (.agg (cNd y)) H=some (if CF out y=0 then .tup [.int .i64 0,.bool false]else .tup [.int .i64 (CF out y:Int),.bool true]):=by
 unfold EO
 simp only [BC,key_nd,h,VW,Option.map_some,WE]
 by_cases h0:CF out y=0 <;> simp [h0]
theorem updA_kn {H:Aa} {id:Nat} {out:List Nd} (h:H[id]? = some (.map (knF 0 out))) {y:Nd} (hn:CF out y=0):DC true 5 (.mp id) (.agg (cNd y)) (.int .i64 ((out.length+1:Nat):Int)) H=some (H.set id (.map (knF 0 (out++[y])))):=by
 have:=Vz y out 0 hn
 rw [WE]at this
 unfold DC
 simp only [BC,key_nd,h,this,Option.map_some]
def JE (y:Nd):Bool:=decide (y.k0=0)&&(decide (y.k1=0)&&(decide (y.k2=0)&&decide (y.k3=0)))
theorem eq_kids (y:Nd):Ae (.flat 4) .eql (.agg (Id y)) (.agg [.int .i64 0,.int .i64 0,.int .i64 0,.int .i64 0])=some (.bool (JE y)):=by
 show (eqA (.flat 4) (.agg (Id y)) (.agg [.int .i64 0,.int .i64 0,.int .i64 0,.int .i64 0])).map Ab.bool=_
 have h:eqA (.flat 4) (.agg (Id y)) (.agg [.int .i64 0,.int .i64 0,.int .i64 0,.int .i64 0])=some (JE y):=by
  unfold eqA
  simp only []
  rw [if_pos (show (Id y).length=4 from rfl)]
  simp only [Id,B8,G6,if_true,BC,Bool.and_true,GE]
  rfl
 rw [h];rfl
def Hg (out:List Nd) (y:Nd):List Nd×Nat:=if JE y then (out,0)else ET out y
structure AR (b ar km:Nat) (out:List Nd) (v:Ab) (H:Aa):Prop where
 cell:H[ar]? = some (.cel 0 [v,.mp km])
 row:RS cNd Bg 5 b out v H
 known:H[km]? = some (.map (knF 0 out))
structure AX (b ar km:Nat) (H H':Aa):Prop where
 len:H.length≤H'.length
 cel:∀(i:Nat) (cs:List Ab),i≠ar→H[i]? = some (.cel 0 cs)→H'[i]? = some (.cel 0 cs)
 map:∀(i:Nat) (es:List (Ab×Ab)),i≠km→H[i]? = some (.map es)→H'[i]? = some (.map es)
 old:∀i,i<b→H'[i]? = H[i]?
theorem AX.trans {b ar km:Nat} {H H1 H2:Aa} (h:AX b ar km H H1) (k:AX b ar km H1 H2):AX b ar km H H2:=
 ⟨Xh h.len k.len,fun i cs hi hc=>k.cel i cs hi (h.cel i cs hi hc),fun i es hi hc=>k.map i es hi (h.map i es hi hc),fun i hi=>(k.old i hi).trans (h.old i hi)⟩
theorem AX.push {b ar km:Nat} {H:Aa} (hb:b≤H.length) (G:Aa):AX b ar km H (H++G):=
 ⟨by simp,fun i cs _ h=>AE h,fun i es _ h=>AE h,fun i hi=>WD (by omega)⟩
theorem AR.push {b ar km:Nat} {out:List Nd} {v:Ab} {H:Aa} (h:AR b ar km out v H) (G:Aa):AR b ar km out v (H++G):=
 ⟨AE h.cell,h.row.left G,AE h.known⟩
theorem c06_intern {b ar km:Nat} {out:List Nd} {v:Ab} {H:Aa} (h:AR b ar km out v H) (hba:b≤ar) (hbk:b≤km) (hb:b≤H.length) (y:Nd) (ho:out.length<3000000000000) :
  ∃v' H',Sh.f3a (.ptr ar 0 0) (.agg (cNd y)) H=some (.ret (.int .i64 ((Hg out y).2:Int)),H')∧AR b ar km (Hg out y).1 v' H'∧AX b ar km H H':=by
 have hB:b≤(H++[Blk.cel 0 (cNd y)]).length:=by simp;omega
 have h1:=h.push [.cel 0 (cNd y)]
 have e1:AX b ar km H (H++[.cel 0 (cNd y)]):=AX.push hb _
 have hbd:AB (some [(.int .i64 0),(.int .i64 0),(.int .i64 0),(.int .i64 0)]) []=some (.agg [.int .i64 0,.int .i64 0,.int .i64 0,.int .i64 0]):=rfl
 unfold Sh.f3a Hg
 have l0:=C5 (o:=0) (sz:=1) h1.cell
 have l1:=C5 (o:=1) (sz:=1) h1.cell
 cases hz:JE y with
 | true=>
  simp only [GMb,GMc,HPa,HPc,HPd,HPe,HPz,Nat.reduceAdd,Nat.reduceLT,BI,Fs,Fr,Fj,hbd,eq_kids,hz,if_true]
  exact ⟨v,_,rfl,h1,e1⟩
 | false=>
  simp only [GMb,GMc,HPa,HPc,HPd,HPe,HPz,Nat.reduceAdd,Nat.reduceLT,BI,Fs,Fr,Fj,hbd,eq_kids,hz,l1,EP,IU,lookA_kn h1.known,WL,if_false]
  unfold ET
  by_cases h0:CF out y=0
  ·obtain ⟨v',H2,ha,hr,hk,hg⟩:=RS.snoc2 (bytes:=40) h1.row hB y .tight (by omega) (by omega)
   have hc2:=hk.cel _ _ h1.cell
   have hst:=Jw (o:=0) (v:=v') hc2 hr.one (by simp)
   have hka:km≠ar:=fun e=>by have:=h.known;rw [e,h.cell]at this;cases this
   have har:ar<H.length:=(WC.1 h.cell).1
   have hkl:km<H.length:=(WC.1 h.known).1
   have hkn:∀es,v≠.sl es (.own km):=h.row.notok (B:=.map (knF 0 out)) h.known (fun _ _ _ e=>by cases e)
   have hk2:H2[km]? = some (.map (knF 0 out)):=by rw [hg.keep km (by simp;omega) hkn];exact h1.known
   have hH1:H.length≠ar:=by omega
   have hbox:H2[H.length]? = some (.cel 0 (cNd y)):=hk.cel _ _ Ar
   have hl2:ar<H2.length:=(WC.1 hc2).1
   have hkl2:km<H2.length:=(WC.1 hk2).1
   obtain ⟨H3,hH3⟩:∃H3,H3=H2.set ar (.cel 0 ([v,.mp km].set 0 v')):=⟨_,rfl⟩
   rw [←hH3]at hst
   have hc3:H3[ar]? = some (.cel 0 [v',.mp km]):=by rw [hH3,WS hl2];rfl
   have hk3:H3[km]? = some (.map (knF 0 out)):=by rw [hH3,WI (Ne.symm hka)];exact hk2
   have hb3:H3[H.length]? = some (.cel 0 (cNd y)):=by rw [hH3,WI (Ne.symm hH1)];exact hbox
   have l30:=C5 (o:=0) (sz:=1) hc3
   have l31:=C5 (o:=1) (sz:=1) hc3
   have hup:=updA_kn hk3 h0
   obtain ⟨H4,hH4⟩:∃H4,H4=H3.set km (.map (knF 0 (out++[y]))):=⟨_,rfl⟩
   rw [←hH4]at hup
   have hc4:H4[ar]? = some (.cel 0 [v',.mp km]):=by rw [hH4,WI hka];exact hc3
   have l40:=C5 (o:=0) (sz:=1) hc4
   have hlen:=hr.len
   rw [WJ,List.length_singleton]at hlen
   refine ⟨v',H4,?_,⟨hc4,?_,?_⟩,e1.trans ⟨?_,fun i cs hi hc=>?_,fun i es hi hc=>?_,fun i hi=>?_⟩⟩
   ·simp only [h0,if_true,GMb,GMc,HPa,HPc,HPd,HPe,HPz,Nat.reduceAdd,Nat.reduceLT,l0,EP,IU,BI,Fs,Fr,Fj,UB,ha,hst,l30,l31,Pz hb3,hlen,hup,l40]
   ·have r3:RS cNd Bg 5 b (out++[y]) v' H3:=by rw [hH3];exact hr.put hc2
    rw [hH4,if_pos h0]
    exact r3.setB hk3 (fun _ _ _ e=>by cases e)
   ·rw [hH4,WS (by rw [hH3,Xo];exact hkl2)];simp only [h0,if_true]
   ·rw [hH4,Xo,hH3,Xo];exact hk.len
   ·have c2:=hk.cel i cs hc
    have hik:i≠km:=fun e=>by rw [e,hk2]at c2;cases c2
    rw [hH4,WI (Ne.symm hik),hH3,WI (Ne.symm hi)];exact c2
   ·have hia:i≠ar:=fun e=>by rw [e,h1.cell]at hc;cases hc
    have hil:i<(H++[Blk.cel 0 (cNd y)]).length:=(WC.1 hc).1
    have hin:∀es',v≠.sl es' (.own i):=h1.row.notok hc (fun _ _ _ e=>by cases e)
    rw [hH4,WI (Ne.symm hi),hH3,WI (Ne.symm hia),hg.keep i hil hin];exact hc
   ·rw [hH4,WI (by omega),hH3,WI (by omega)];exact hk.old i hi
  ·simp only [h0,if_false,GMb,GMc,HPa,HPc,HPd,HPe,HPz,Nat.reduceAdd,Nat.reduceLT]
   exact ⟨v,_,rfl,h1,e1⟩
end Go.Gm
