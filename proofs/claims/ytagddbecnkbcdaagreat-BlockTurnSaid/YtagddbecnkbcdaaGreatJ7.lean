/- Texts of this proof, joined. -/
import Derived.Test.YtagddbecnkbcdaaGreatJ3
import Derived.Test.YtagddbecnkbcdaaGreatJ4
import Derived.Test.YtagddbecnkbcdaaGreatJ5
import Derived.Test.YtagddbecnkbcdaaGreatJ6
import Derived.Lib.Bytealg
import Derived.Lib.ItoaNum
import Derived.Lib.Repeat
import Derived.Lib.Join
import Derived.Lib.TrimByte
import Derived.Laws.RangeAny
import Derived.Laws.RangeString
set_option linter.all false
namespace Go.Gm
open Go.Proofs
set_option maxRecDepth 100000
theorem M8:AI Tryz.prog Gs 204 (ap3 Sh.f3w):=mk3 .keep (At _ _) [] Tryz.func204
theorem Un:AI Tryz.prog Gs 155 (ap2 Sh.f3y):=mk2 .pureN ((Ag M8 ((Ag DK (At _ _))))) [[1000001,0,1],[0,1,5,6,21,22,23],[1000014,0,1,5,6,7,8,9,21,22,23]] Tryz.func155
theorem M6:AI Tryz.prog Gs 207 (ap3 Sh.f25):=mk3 .keep (At _ _) [] Tryz.func207
theorem Ui:AI Tryz.prog Gs 157 (ap2 Sh.f3z):=mk2 .pureN ((Ag JJ ((Ag Dt ((Ag M6 ((Ag DK (At _ _))))))))) [[1,6,7,17,18],[1000015,1,6,7,8,9,17,18]] Tryz.func157
theorem Lm:AI Tryz.prog Gs 89 (ap2 Sh.fs):=mk2 .pureN ((Ag Un ((Ag Gc ((Ag Ui ((Ag JJ (At _ _))))))))) [[2,3,4,5,6,0,1,7,8],[1000005,2,3,4]] Tryz.func89
theorem LA:AI Tryz.prog Gs 116 (ap1 Sh.f7t):=mk1 .keep ((Ag Cr ((Ag Rc ((Ag Lm ((Ag GR (At _ _))))))))) [[0,2],[1000006,0,2],[1000009,0,2],[],[10,11,5,6,7,8,9,12,18,19,20,21,22,13,14,15,16,17,23,1,2,3,4,24,25,26,0,27,28,29]] Tryz.func116
theorem LC:AI Tryz.prog Gs 59 (ap1 Sh.f1i):=mk1 .keep ((Ag Hm ((Ag M9 ((Ag Cf ((Ag Cr ((Ag KY ((Ag LA ((Ag Cq (At _ _))))))))))))))) [[0],[1000005,0]] Tryz.func59
theorem J3:AI Tryz.prog Gs 58 (ap1 Sh.f28):=Up ((Ag LC (At _ _)))
theorem J4:AI Tryz.prog Gs 148 (ap1 Sh.f29):=mk1 .pure (At _ _) [] Tryz.func148
theorem TG:AI Tryz.prog Gs 85 (ap1 Sh.f2a):=mk1 .pure ((Ag Lz (At _ _))) [] Tryz.func85
theorem Ry:AI Tryz.prog Gs 84 (ap1 Sh.f43):=mk1 .pure ((Ag TG (At _ _))) [] Tryz.func84
noncomputable def EA:Orc:=AH
theorem E8:T2 Tryz.prog Gs false EA Tryz.f139 (.tw .lf (.tw (.tw .lf (.one (.loop [0,1,7,8] (.tw .lf (.tw (.tw .lf .lf) (.tw (.one (.tw .lf (.tw .lf (.tw (.tw .lf .lf) .lf)))) .lf)))))) (.tw .lf .lf))) .keep Sh.fd:=by unfold T2;intros;kernel_rfl
theorem CA:AI Tryz.prog Gs 139 (ap2 Sh.fd):=Qm mixed ((Ag J4 ((Ag Ry (At _ _))))) Tryz.func139 (by kernel_rfl) E8
theorem DO:AI Tryz.prog Gs 83 (ap2 Sh.f44):=mk2 .keep ((Ag CA (At _ _))) [] Tryz.func83
theorem Fm:AI Tryz.prog Gs 141 (ap1 Sh.f45):=mv1 .keep (At _ _) [] Tryz.func141
theorem EK:AI Tryz.prog Gs 142 (ap1 Sh.f1j):=mk1 .keep (At _ _) [[0,2,3],[0,1,4,5,6,7,8,9,10,11,12,13,2,3,14,15]] Tryz.func142
theorem call_big_Cmp:AI Tryz.prog Gs 199 (ap2 Sh.f2c):=mk2 .pure ((Ag JJ (At _ _))) [] Tryz.func199
theorem Q6:AI Tryz.prog Gs 198 (ap1 Sh.f46):=mk1 .keep (At _ _) [[3,6,7,8]] Tryz.func198
theorem HG:AI Tryz.prog Gs 144 (ap2 Sh.f1k):=mk2 .pure ((Ag call_big_Cmp ((Ag Q6 (At _ _))))) [[]] Tryz.func144
noncomputable def E9:Orc:=AD
theorem E7:T4 Tryz.prog Gs false E9 Tryz.f227 (.tw .lf (.one (.loop [0,1,2,3,8] (.tw (.tw .lf (.tw .lf .lf)) (.tw (.one (.tw .lf (.one (.loop [0,1,2,3,8,9] (.tw (.tw (.reg [0,1,2,3,4,5,6,7,8,9,10,11,12,13,14,15,16]) (.tw .lf .lf)) (.tw (.one (.reg [0,1,5,6,7,8,9,10,11,12,13,14,15,2,3,4,16,17])) .lf)))))) .lf))))) .keep Sh.fm:=by unfold T4;intros;kernel_rfl
theorem Ey:AI Tryz.prog Gs 227 (ap4 Sh.fm):=fn_ok4 mixed ((Ag HG (At _ _))) Tryz.func227 (by kernel_rfl) E7
theorem Fk:AI Tryz.prog Gs 240 (ap5 Sh.f1l):=mk5 .keep (At _ _) [[0,1,2,3,10],[0,1,2,3,8,9,10,11,12,13,14,15,16,17,18,19,20,21,4,5,6,7,22,23]] Tryz.func240
theorem FV:AI Tryz.prog Gs 236 (ap5 Sh.f2d):=mk5 .keep ((Ag Fk (At _ _))) [[0,2,4,10,11]] Tryz.func236
noncomputable def FC (m:Nat):Orc:=Bh (Sh.f3 m)
theorem FB (m:Nat):T5 Tryz.prog Gs false (FC m) Tryz.f228 (.tw (.tw .lf (.tw (.tw .lf (.tw .lf (.tw (.one (.loop [0,1,4,10,11] (.tw (.tw .lf (.tw .lf .lf)) (.one (.tw .lf (.tw (.reg [0,1,2,3,4,5,6,7,8,9,10]) (.tw .lf .lf))))))) (.tw (.tw .lf (.one (.loop [0,10,13] (.tw (.tw .lf (.tw .lf .lf)) (.tw (.one (.reg [0,1,5,6,7,8,9,10,11,12,13,14,15,2,3,4,16,17])) .lf))))) .lf)))) .lf)) (.tw (.tw .lf (.tw (.tw .lf (.tw .lf (.tw (.one (.loop [0,2,4,14,15] (.tw (.tw .lf (.tw .lf .lf)) (.one (.tw .lf (.tw (.reg [0,1,2,3,4,5,6,7,8,9,10,11]) (.tw .lf .lf))))))) (.tw (.tw .lf (.one (.loop [0,14,17] (.tw (.tw .lf (.tw .lf .lf)) (.tw (.one (.reg [0,1,5,6,7,8,9,10,11,12,13,14,15,2,3,4,16,17])) .lf))))) .lf)))) .lf)) (.tw .lf (.tw .lf (.tw .lf (.join [0,1,2,3,4,18,19,20,21] (.tw .lf (.tw (.tw .lf .lf) (.tw .lf .lf))) (.tw .lf (.tw (.one (.loop [0,1,2,3,4,18,19,20,21,22] (.tw (.tw .lf (.tw .lf .lf)) (.one (.tw .lf (.tw (.reg [0,1,2,3,4,5,6,7,8,9,10,11,12,13]) (.tw .lf .lf))))))) (.tw .lf (.join [0,1,3,4,18,20,24] (.tw .lf (.tw .lf .lf)) (.join [0,3,4,18,24] (.tw .lf (.tw .lf .lf)) (.tw .lf (.tw .lf .lf))))))))))))) .keep (Sh.f3 (m+1)):=by unfold T5;intros;kernel_rfl
theorem CW:∀m,AI Tryz.prog Gs 228 (ap5 (Sh.f3 m))
 | 0=>O2 λ_ _ _ _ _ _=>rfl
 | m+1=>Tl mixed (Ag (CW m) ((Ag HG ((Ag FV (At _ _)))))) Tryz.func228 (by kernel_rfl) (FB m)
theorem FU:AI Tryz.prog Gs 197 (ap3 Sh.f1r):=mk3 .keep ((Ag Ey ((Ag (CW AU) (At _ _))))) [[0,1,2,6,7,8],[0,1,2,6],[0,1,2,6,7,8],[1000019,0,1,2,6]] Tryz.func197
theorem DD:AI Tryz.prog Gs 143 (ap2 Sh.f1s):=mk2 .keep ((Ag FU (At _ _))) [] Tryz.func143
theorem Pp:AI Tryz.prog Gs 146 (ap2 Sh.f4c):=mk2 .pure ((Ag HG (At _ _))) [] Tryz.func146
open Go.Proofs
set_option maxRecDepth 100000
noncomputable def Ec:Orc:=AM
theorem Eb:T2 Tryz.prog Gs false Ec Tryz.f145 (.tw .lf (.tw (.tw .lf (.tw (.tw .lf .lf) .lf)) (.tw (.tw .lf (.one (.loop [0,1,5] (.tw (.tw .lf (.tw .lf .lf)) (.tw (.one (.tw (.reg [0,1,2,3,4,5,6,7,8,9,10]) (.tw (.tw .lf (.tw (.tw .lf (.one (.loop [0,1,5,6,7] (.tw (.tw .lf (.tw .lf .lf)) (.join [0,1,5,6,7] (.one (.tw (.reg [0,1,2,3,4,5,6,7,8,9,10,11]) (.tw (.tw .lf .lf) .lf))) .lf))))) (.tw .lf (.tw .lf .lf)))) .lf))) .lf))))) (.tw .lf .lf)))) .keepN Sh.f16:=by unfold T2;intros;kernel_rfl
theorem DY:AI Tryz.prog Gs 145 (ap2 Sh.f16):=Qm mixed ((Ag Pp (At _ _))) Tryz.func145 (by kernel_rfl) Eb
noncomputable def Ek:Orc:=Bd
theorem Eg:T2 Tryz.prog Gs false Ek Tryz.f147 (.tw .lf (.tw .lf (.tw (.tw .lf (.tw (.tw .lf .lf) .lf)) (.tw (.tw .lf (.one (.loop [0,1,5,6] (.tw (.tw .lf (.tw .lf .lf)) (.join [0,1,5,6] (.one (.tw .lf (.tw .lf (.tw (.tw .lf .lf) .lf)))) .lf))))) (.tw .lf (.tw .lf .lf)))))) .keepN Sh.f17:=by unfold T2;intros;kernel_rfl
theorem Ed:AI Tryz.prog Gs 147 (ap2 Sh.f17):=Qm mixed ((Ag CA ((Ag J4 (At _ _))))) Tryz.func147 (by kernel_rfl) Eg
theorem Rx:AI Tryz.prog Gs 86 (ap1 Sh.f4d):=mk1 .pureN ((Ag Fm ((Ag EK ((Ag DD ((Ag DY ((Ag Ed (At _ _))))))))))) [] Tryz.func86
theorem MK:AI Tryz.prog Gs 150 (ap1 Sh.f2h):=mk1 .pureN ((Ag Gc (At _ _))) [] Tryz.func150
theorem call_big_Sub:AI Tryz.prog Gs 149 (ap2 Sh.f4e):=mk2 .pureN ((Ag MK ((Ag Lm (At _ _))))) [[1,2,0,3,4]] Tryz.func149
theorem M7:AI Tryz.prog Gs 202 (ap1 Sh.f4f):=mk1 .keep (At _ _) [[1000001,0,2],[1000005,0,2]] Tryz.func202
theorem Ul:AI Tryz.prog Gs 152 (ap1 Sh.f4g):=mk1 .keep ((Ag DK ((Ag M7 (At _ _))))) [] Tryz.func152
theorem Rw:AI Tryz.prog Gs 87 (ap1 Sh.f2i):=mk1 .pure ((Ag Ul ((Ag MK ((Ag Rc ((Ag call_big_Sub (At _ _))))))))) [[1000001,1]] Tryz.func87
theorem TD:AI Tryz.prog Gs 203 (ap1 Sh.f4h):=mk1 .keep (At _ _) [] Tryz.func203
theorem Uj:AI Tryz.prog Gs 154 (ap2 Sh.f4j):=mk2 .pureN ((Ag TD ((Ag DK (At _ _))))) [[1,5,19,20,21],[],[]] Tryz.func154
theorem call_big_Pow:AI Tryz.prog Gs 88 (ap1 Sh.f4k):=mk1 .pureN ((Ag Uj ((Ag Gc (At _ _))))) [] Tryz.func88
theorem Um:AI Tryz.prog Gs 158 (ap2 Sh.f1u):=mk2 .keep (At _ _) [] Tryz.func158
noncomputable def L8 (m:Nat):Orc:=ent 90 (ap3 (Sh.f1v m)) (ent 158 (ap2 Sh.f1u) noO)
theorem L3 (m:Nat):T3 Tryz.prog Gs false (L8 m) Tryz.f90 (.tw .lf (.tw (.tw .lf (.tw (.tw .lf .lf) .lf)) (.tw .lf (.tw (.tw .lf (.one (.loop [0,1,7,17,18,19] (.tw .lf (.tw (.tw .lf .lf) (.tw (.one (.tw .lf (.tw .lf (.join [0,1,7,9,10,17,18,19] (.tw .lf (.tw .lf .lf)) (.join [0,1,7,9,10,17,18,19] (.tw .lf (.tw .lf .lf)) (.reg [1,2,3,4,5,6,0,7,8])))))) .lf)))))) (.tw .lf (.tw (.tw .lf (.one (.loop [0,1,11,48,49] (.tw .lf (.tw (.tw .lf .lf) (.tw (.one (.tw .lf (.one (.tw .lf (.tw .lf (.tw .lf (.tw .lf .lf))))))) .lf)))))) (.tw (.reg [1,2,3,4,5,6,7,0,8,9,10]) (.tw .lf .lf)))))))) .keep (Sh.f1v (m+1)):=by unfold T3;intros;kernel_rfl
theorem GW:∀m,AI Tryz.prog Gs 90 (ap3 (Sh.f1v m))
 | 0=>none_ok3 λ_ _ _ _=>rfl
 | m+1=>fn_ok3 mixed (Ag (GW m) ((Ag Um (At _ _)))) Tryz.func90 (by kernel_rfl) (L3 m)
theorem Uh:AI Tryz.prog Gs 208 (ap3 Sh.f4l):=mk3 .pure (At _ _) [[]] Tryz.func208
theorem Rq:AI Tryz.prog Gs 159 (ap1 Sh.f2k):=mk1 .pure ((Ag Uh (At _ _))) [[0,7,8,9],[0,3,7,8,9,23,24]] Tryz.func159
theorem Fl:AI Tryz.prog Gs 209 (ap1 Sh.f4n):=mk1 .keep (At _ _) [] Tryz.func209
theorem Q3:AI Tryz.prog Gs 238 (ap3 Sh.f4o):=mk3 .keep (At _ _) [] Tryz.func238
noncomputable def Hi:Orc:=C7
theorem Hf:T2 Tryz.prog Gs false Hi Tryz.f241 (.tw .lf (.tw (.tw .lf (.one (.loop [0,1,7,8] (.tw .lf (.tw (.tw .lf .lf) (.tw (.one (.tw .lf (.tw .lf (.tw (.tw .lf .lf) .lf)))) .lf)))))) (.tw .lf .lf))) .keep Sh.f4q:=by unfold T2;intros;kernel_rfl
theorem GQ:AI Tryz.prog Gs 241 (ap2 Sh.f4q):=Qm mixed ((Ag Q3 (At _ _))) Tryz.func241 (by kernel_rfl) Hf
theorem FW:AI Tryz.prog Gs 237 (ap2 Sh.f4r):=mk2 .keep ((Ag GQ (At _ _))) [] Tryz.func237
theorem M5:AI Tryz.prog Gs 230 (ap1 Sh.f2l):=mk1 .pureN ((Ag FW (At _ _))) [[3,10,11,12],[3,4,5,6,0,1,2,7,8]] Tryz.func230
theorem Rs:AI Tryz.prog Gs 210 (ap2 Sh.f4s):=mk2 .keep ((Ag M5 (At _ _))) [] Tryz.func210
theorem Q5:AI Tryz.prog Gs 211 (ap2 Sh.f4v):=mk2 .keep ((Ag M5 (At _ _))) [[0,5,28,29],[0,5,6,7,28,29,40,41]] Tryz.func211
theorem Q7:AI Tryz.prog Gs 212 (ap3 Sh.f4w):=mk3 .keep (At _ _) [] Tryz.func212
theorem Pq:AI Tryz.prog Gs 160 (ap2 Sh.f2m):=mk2 .pureN ((Ag Fl ((Ag Rs ((Ag Q5 ((Ag Q7 (At _ _))))))))) [[0,1],[0,1,6,25]] Tryz.func160
theorem Kn:AI Tryz.prog Gs 162 (ap2 Sh.f2n):=mk2 .keep (At _ _) [[],[1,2,3,4,5,6,7,0,8,9,10],[]] Tryz.func162
open Go.Proofs
set_option maxRecDepth 100000
noncomputable def SE (m:Nat):Orc:=Ik (Sh.f9 m)
theorem Sc (m:Nat):T5 Tryz.prog Gs false (SE m) Tryz.f161 (.tw .lf (.tw (.tw .lf (.tw .lf (.tw (.tw .lf .lf) .lf))) (.tw .lf (.join [0,1,4,9] (.tw .lf (.tw (.tw .lf (.one (.loop [0,1,3,4,9,30,31] (.tw .lf (.tw (.tw .lf .lf) (.tw (.one (.tw .lf .lf)) .lf)))))) .lf)) (.tw .lf (.tw .lf (.tw .lf .lf))))))) .keep (Sh.f9 (m+1)):=by unfold T5;intros;kernel_rfl
theorem L0:∀m,AI Tryz.prog Gs 161 (ap5 (Sh.f9 m))
 | 0=>O2 λ_ _ _ _ _ _=>rfl
 | m+1=>Tl mixed (Ag (L0 m) ((Ag Kn (At _ _)))) Tryz.func161 (by kernel_rfl) (Sc m)
noncomputable def orc_canon_Of:Orc:=JE
theorem tie_canon_Of:T2 Tryz.prog Gs false orc_canon_Of Tryz.f91 (.tw .lf (.tw (.tw .lf (.tw (.tw .lf .lf) .lf)) (.tw .lf (.tw .lf (.tw .lf (.tw .lf (.tw .lf (.tw .lf (.tw .lf .lf))))))))) .pureN Sh.f2p:=by unfold T2;intros;kernel_rfl
theorem Uq:AI Tryz.prog Gs 91 (ap2 Sh.f2p):=Qm mixed ((Ag Rq ((Ag Pq ((Ag (L0 AU) (At _ _))))))) Tryz.func91 (by kernel_rfl) tie_canon_Of
theorem Uo:AI Tryz.prog Gs 39 (ap1 Sh.f2r):=mk1 .pureN ((Ag DO ((Ag Rx ((Ag Rw ((Ag call_big_Pow ((Ag Lm ((Ag (GW AU) ((Ag Uq (At _ _))))))))))))))) [[2,4,5,19,20,21],[1,2,3,4,5,6,0,7,8],[2,5,8,9,40,41,42],[1,2,3,4,6,7,8,9,0,5,10,11,12,13,14,15,16]] Tryz.func39
theorem Rt:AI Tryz.prog Gs 24 (ap2 Sh.ft):=mk2 .pureN ((Ag Pn ((Ag J3 ((Ag Uo (At _ _))))))) [[0,8,1,2,3,4,5,6,7,9,10],[]] Tryz.func24
theorem Kk:AI Tryz.prog Gs 104 (ap1 Sh.f50):=mk1 .keep (At _ _) [] Tryz.func104
theorem LN:AI Tryz.prog Gs 93 (ap1 Sh.f51):=mk1 .keep (At _ _) [] Tryz.func93
theorem Hn:AI Tryz.prog Gs 50 (ap1 Sh.f2s):=mk1 .keep ((Ag LN (At _ _))) [[0,3]] Tryz.func50
theorem GU:AI Tryz.prog Gs 167 (ap1 Sh.f2t):=mk1 .keep (At _ _) [[0,3],[0,3,4],[]] Tryz.func167
theorem CP:AI Tryz.prog Gs 170 (ap1 Sh.f1a):=mk1 .pureN (At _ _) [[0,3,4],[0,3,4,5,6]] Tryz.func170
theorem G3:AI Tryz.prog Gs 215 (ap2 Sh.f2v):=mk2 .keep ((Ag CP (At _ _))) [[0,1,5,6],[0,1,5,6,7,8]] Tryz.func215
noncomputable def N3 (m:Nat):Orc:=ent 218 (ap3 (Sh.fg m)) noO
theorem N0 (m:Nat):T3 Tryz.prog Gs false (N3 m) Tryz.f218 (.tw .lf (.tw (.tw .lf (.one (.loop [0,1,2,7] (.tw (.tw .lf (.tw .lf .lf)) (.tw (.one (.tw .lf (.tw (.tw .lf .lf) .lf))) .lf))))) (.tw (.tw .lf (.one (.loop [0,1,2,8] (.tw (.tw .lf (.tw .lf .lf)) (.join [0,1,2,8] (.one (.tw .lf (.tw .lf .lf))) .lf))))) (.tw .lf .lf)))) .keep (Sh.fg (m+1)):=by unfold T3;intros;kernel_rfl
theorem Ie:∀m,AI Tryz.prog Gs 218 (ap3 (Sh.fg m))
 | 0=>none_ok3 λ_ _ _ _=>rfl
 | m+1=>fn_ok3 mixed (Ag (Ie m) (At _ _)) Tryz.func218 (by kernel_rfl) (N0 m)
theorem Lf:AI Tryz.prog Gs 173 (ap1 Sh.f5c):=mk1 .pure ((Ag GU ((Ag G3 ((Ag CP ((Ag (Ie AU) (At _ _))))))))) [[3,4,5],[3,4,5,6],[],[3,7,8]] Tryz.func173
theorem La:AI Tryz.prog Gs 105 (ap1 Sh.f5d):=mk1 .pure ((Ag Hn ((Ag Lf (At _ _))))) [] Tryz.func105
theorem LG:AI Tryz.prog Gs 28 (ap1 Sh.f2x):=mk1 .pure (At _ _) [] Tryz.func28
theorem If:AI Tryz.prog Gs 219 (ap1 Sh.f1x):=mk1 .keepN (At _ _) [[0]] Tryz.func219
theorem CI:AI Tryz.prog Gs 176 (ap1 Sh.f6):=mk1 .pureN ((Ag If (At _ _))) [[0,3,4],[0,3,4,5,6]] Tryz.func176
theorem DQ:AI Tryz.prog Gs 175 (ap1 Sh.fn):=mk1 .pureN ((Ag If (At _ _))) [[0,3,4],[0,3,4,5,6,7],[1000016,0,3,4,5,6,7]] Tryz.func175
theorem Ho:AI Tryz.prog Gs 109 (ap1 Sh.f1b):=mk1 .keepN ((Ag CI ((Ag DQ (At _ _))))) [] Tryz.func109
theorem Dw:AI Tryz.prog Gs 119 (ap2 Sh.fe):=mk2 .pureN ((Ag Ho (At _ _))) [] Tryz.func119
theorem FI:AI Tryz.prog Gs 64 (ap1 Sh.fu):=mk1 .pureN ((Ag Dw (At _ _))) [[1000002,0,2,3]] Tryz.func64
theorem MG:AI Tryz.prog Gs 213 (ap2 Sh.f5g):=mk2 .pureN ((Ag CI ((Ag DQ (At _ _))))) [[2,3,0,1,4,5,6]] Tryz.func213
theorem MD:AI Tryz.prog Gs 166 (ap2 Sh.f5h):=mk2 .pureN ((Ag MG ((Ag Dw (At _ _))))) [[2,3,4,5,0,1,6,7]] Tryz.func166
theorem BJ:AI Tryz.prog Gs 98 (ap1 Sh.f7):=mk1 .pureN ((Ag FI ((Ag MD (At _ _))))) [] Tryz.func98
theorem FJ:AI Tryz.prog Gs 182 (ap2 Sh.f8):=mk2 .keep (At _ _) [] Tryz.func182
theorem MJ:AI Tryz.prog Gs 120 (ap2 Sh.f5i):=mk2 .pureN ((Ag CI ((Ag FJ ((Ag DQ (At _ _))))))) [[5,6,7,8,9],[1000011,5,6,7,8,9,10],[1000014,5,6,7,8,9,10],[1000017,5,6,7,9,10]] Tryz.func120
open Go.Proofs
set_option maxRecDepth 100000
theorem MI:AI Tryz.prog Gs 183 (ap2 Sh.f5j):=mk2 .keep ((Ag CI ((Ag FJ (At _ _))))) [[5,6,7]] Tryz.func183
theorem MF:AI Tryz.prog Gs 121 (ap2 Sh.f2z):=mk2 .pureN ((Ag MI ((Ag CI ((Ag FJ ((Ag DQ (At _ _))))))))) [[6,7,8,9,10],[1000015,6,7,8,10,11],[1000018,6,7,8,10,11],[1000022,6,7,8,9,10,11]] Tryz.func121
theorem C3:AI Tryz.prog Gs 63 (ap2 Sh.f2):=mk2 .pureN ((Ag MJ ((Ag Dw ((Ag MF (At _ _))))))) [[2,3,4,5,6,0,1,7,8]] Tryz.func63
theorem CB:AI Tryz.prog Gs 97 (ap1 Sh.fh):=mk1 .pureN ((Ag Dw (At _ _))) [] Tryz.func97
theorem Fo:AI Tryz.prog Gs 172 (ap2 Sh.fi):=mk2 .pureN ((Ag CB ((Ag C3 (At _ _))))) [[1,2,0,3,4]] Tryz.func172
theorem Cc:AI Tryz.prog Gs 103 (ap2 Sh.f0):=mk2 .pure ((Ag Fo (At _ _))) [] Tryz.func103
theorem Lc:AI Tryz.prog Gs 171 (ap3 Sh.f1d):=mk3 .pureN ((Ag BJ ((Ag Cc ((Ag C3 (At _ _))))))) [[0,4,5,7,8],[0,4,5,7,8,9,10,11],[1000014,0,4,5,7,8,9,10,11],[1000016,0,4,5,7,8,9,10,11,12,13],[],[1000024,0,4,5,7,8,9,10,11,15],[],[],[]] Tryz.func171
theorem GV:AI Tryz.prog Gs 107 (ap1 Sh.f31):=mk1 .pure (At _ _) [] Tryz.func107
theorem It:AI Tryz.prog Gs 102 (ap1 Sh.f1e):=mk1 .pureN ((Ag Lc ((Ag GV ((Ag BJ ((Ag CB ((Ag C3 ((Ag Fo (At _ _))))))))))))) [[0,1,2,3,4,5,7,8,9,6,10,12,13,14,11,15,16,17,18]] Tryz.func102
theorem G0:AI Tryz.prog Gs 51 (ap2 Sh.f32):=mk2 .pure ((Ag It ((Ag FI ((Ag Cc (At _ _))))))) [[2,3,0,1,4,5,6,9,10,7,8,11,12,13,14]] Tryz.func51
theorem LH:AI Tryz.prog Gs 52 (ap1 Sh.f34):=mk1 .pure (At _ _) [[1,3,4],[1,3,4,5]] Tryz.func52
theorem FX:AI Tryz.prog Gs 18 (ap3 Sh.fo):=mk3 .pure ((Ag G0 ((Ag LH (At _ _))))) [] Tryz.func18
theorem Lb:AI Tryz.prog Gs 53 (ap3 Sh.f5o):=mk3 .pure ((Ag Kk ((Ag La ((Ag LG ((Ag FX (At _ _))))))))) [] Tryz.func53
theorem ME:AI Tryz.prog Gs 122 (ap1 Sh.fv):=mk1 .pure (At _ _) [[1,4,5]] Tryz.func122
theorem N6:AI Tryz.prog Gs 184 (ap2 Sh.f35):=mk2 .pure ((Ag BJ ((Ag CB ((Ag Cc (At _ _))))))) [[1,2,0,3,4,5,6,7,8,9,10,11]] Tryz.func184
theorem JK:AI Tryz.prog Gs 185 (ap3 Sh.f5p):=mk3 .pureN ((Ag BJ ((Ag Cc ((Ag Fo (At _ _))))))) [[1000003,4,5,7,8,9,10],[1000006,4,5,7,8,10],[0,1,3,4,2,5]] Tryz.func185
theorem MC:AI Tryz.prog Gs 123 (ap3 Sh.f5q):=mk3 .pure ((Ag GV ((Ag N6 ((Ag BJ ((Ag C3 ((Ag JK (At _ _))))))))))) [[],[3,4,5,9],[0,1,2,3,4,5,6,7,8,9,10,11,12,14,15,16,17,13,18],[0,1,3,4,2,5]] Tryz.func123
theorem N5:AI Tryz.prog Gs 65 (ap2 Sh.f5r):=mk2 .pureN ((Ag G0 ((Ag It ((Ag ME ((Ag FI ((Ag C3 ((Ag MC (At _ _))))))))))))) [[2,4,6,8,10,12,13],[2,4,6,8,10,12,13,14,15],[5,6,3,4,7,10,11,8,9,12,2,13,0,1,14,15]] Tryz.func65
theorem MH:AI Tryz.prog Gs 56 (ap2 Sh.f5s):=mk2 .pureN ((Ag Ho (At _ _))) [[0,1,6,7,8],[0,1,2,3,4,5,6,11,12,7,8,9,10,13]] Tryz.func56
theorem LO:AI Tryz.prog Gs 22 (ap1 Sh.f39):=mk1 .pure ((Ag MH (At _ _))) [[1,3,4]] Tryz.func22
theorem MB:AI Tryz.prog Gs 66 (ap2 Sh.f5u):=mk2 .pure (At _ _) [[0,1,5,6,7],[1000008,0,1,5,6,7]] Tryz.func66
theorem KZ:AI Tryz.prog Gs 26 (ap2 Sh.fw):=mk2 .pure ((Ag Lb ((Ag N5 ((Ag MB ((Ag LO (At _ _))))))))) [[1000008,7,9],[2,3,4,7,8,9,0,1,5,6,10,11,12],[7,9,10],[1000018,7,9,10,11]] Tryz.func26
theorem Ru:AI Tryz.prog Gs 57 (ap1 Sh.fx):=mk1 .pure ((Ag J3 (At _ _))) [[]] Tryz.func57
theorem Ln:AI Tryz.prog Gs 16 (ap0 Sl.gliderref11_Wide):=by rw[Sl.gliderref11_Wide_eq];exact LE
theorem Ko:AI Tryz.prog Gs 24 (ap2 Sl.life5_Read):=by rw[Sl.life5_Read_eq];exact Rt
open Go.Proofs
set_option maxRecDepth 100000
theorem G4:AI Tryz.prog Gs 26 (ap2 Sl.gliderref12_Life5):=by rw[Sl.gliderref12_Life5_eq];exact KZ
theorem Q8:AI Tryz.prog Gs 57 (ap1 Sl.life5_Hint):=by rw[Sl.life5_Hint_eq];exact Ru
theorem Ll:AI Tryz.prog Gs 23 (ap0 Sh.fy):=mk0 .pure ((Ag Ln ((Ag Ko ((Ag G4 ((Ag Q8 (At _ _))))))))) [] Tryz.func23
theorem Lk:AI Tryz.prog Gs 55 (ap1 Sh.f5x):=mk1 .keep (At _ _) [] Tryz.func55
theorem Lj:AI Tryz.prog Gs 21 (ap1 Sh.f3a):=mk1 .pure ((Ag Lk (At _ _))) [] Tryz.func21
theorem Ld:AI Tryz.prog Gs 165 (ap2 Sh.f3b):=mk2 .pure ((Ag Cc (At _ _))) [] Tryz.func165
theorem LJ:AI Tryz.prog Gs 95 (ap1 Sh.f62):=mk1 .pureN ((Ag Ld (At _ _))) [[0,3,4],[0,3,4,5],[],[],[1000015,0,3,4,5,7],[],[3,8,9],[1000024,3,8,9]] Tryz.func95
theorem Kl:AI Tryz.prog Gs 96 (ap2 Sh.f63):=mk2 .pure ((Ag BJ ((Ag CB ((Ag Cc (At _ _))))))) [] Tryz.func96
noncomputable def L6 (m:Nat):Orc:=ent 99 (ap5 (Sh.fj m)) (ent 98 (ap1 Sh.f7) (ent 103 (ap2 Sh.f0) (ent 63 (ap2 Sh.f2) noO)))
theorem L1 (m:Nat):T5 Tryz.prog Gs false (L6 m) Tryz.f99 (.tw .lf (.tw (.tw .lf (.tw (.tw .lf .lf) .lf)) (.tw .lf (.tw .lf (.tw (.tw .lf (.one (.loop [0,1,4,7,8,12,13,14] (.tw (.tw .lf (.tw .lf .lf)) (.join [0,1,4,7,8,12,13,14] (.one (.tw (.reg [0,2,3,4,1,5]) (.join [0,1,4,7,8,12,13,14,15,16] (.tw .lf (.tw .lf .lf)) (.join [0,1,4,7,8,12,13,14,15,16] (.tw .lf (.tw .lf .lf)) (.tw .lf (.tw (.tw .lf (.one (.loop [0,1,4,7,8,12,13,14,15,16,17,18] (.tw (.tw .lf (.tw .lf .lf)) (.join [0,1,4,7,8,12,13,14,15,16,17,18] (.one (.tw (.reg [0,1,2,3,4,5,6,7,8,14,15,16,9,10,11,12,13,17,18,19,20,21,22,23,24,25,26,27,28,29,30,36,37,38,31,32,33,34,35,39,40,41]) (.tw .lf .lf))) .lf))))) (.join [0,1,4,7,8,12,13,14,15,16,17] (.tw .lf (.tw .lf .lf)) (.tw .lf (.tw .lf .lf))))))))) .lf))))) (.tw .lf (.tw .lf .lf))))))) .keep (Sh.fj (m+1)):=by unfold T5;intros;kernel_rfl
theorem GS:∀m,AI Tryz.prog Gs 99 (ap5 (Sh.fj m))
 | 0=>O2 λ_ _ _ _ _ _=>rfl
 | m+1=>Tl mixed (Ag (GS m) ((Ag BJ ((Ag Cc ((Ag C3 (At _ _)))))))) Tryz.func99 (by kernel_rfl) (L1 m)
theorem Li:AI Tryz.prog Gs 214 (ap2 Sh.f66):=mk2 .keep ((Ag CP (At _ _))) [] Tryz.func214
open Go.Proofs
set_option maxRecDepth 100000
theorem Lh:AI Tryz.prog Gs 216 (ap3 Sh.f67):=mk3 .keep (At _ _) [] Tryz.func216
theorem Km:AI Tryz.prog Gs 168 (ap2 Sh.f69):=mk2 .pureN ((Ag Li ((Ag G3 ((Ag Lh (At _ _))))))) [[1,6],[1,6,7,8]] Tryz.func168
theorem LL:AI Tryz.prog Gs 217 (ap2 Sh.f3e):=mk2 .pure (At _ _) [[0,3,5],[]] Tryz.func217
noncomputable def L7 (m:Nat):Orc:=ent 169 (ap5 (Sh.fp m)) (ent 217 (ap2 Sh.f3e) noO)
theorem L2 (m:Nat):T5 Tryz.prog Gs false (L7 m) Tryz.f169 (.tw .lf (.tw (.tw .lf (.tw (.tw .lf .lf) .lf)) (.tw (.tw .lf (.tw (.tw (.reg [0,1,2,3,4,5,6,7,8]) .lf) .lf)) (.tw .lf (.tw (.tw .lf (.one (.loop [0,1,2,3,4,13,14] (.tw (.tw .lf (.tw .lf .lf)) (.tw (.one .lf) .lf))))) (.tw .lf (.join [2,3,4,15] (.tw .lf (.tw (.tw .lf .lf) .lf)) (.tw .lf (.tw .lf .lf))))))))) .keep (Sh.fp (m+1)):=by unfold T5;intros;kernel_rfl
theorem GT:∀m,AI Tryz.prog Gs 169 (ap5 (Sh.fp m))
 | 0=>O2 λ_ _ _ _ _ _=>rfl
 | m+1=>Tl mixed (Ag (GT m) ((Ag LL (At _ _)))) Tryz.func169 (by kernel_rfl) (L2 m)
theorem N8:AI Tryz.prog Gs 100 (ap2 Sh.f6c):=mk2 .pureN ((Ag GU ((Ag Km ((Ag CP ((Ag (GT AU) (At _ _))))))))) [[1,2,0,3,4,5,6,7,8,9,10,11,12,13,14,15]] Tryz.func100
theorem N7:AI Tryz.prog Gs 47 (ap1 Sh.f6g):=mk1 .pureN ((Ag Lj ((Ag LJ ((Ag Kl ((Ag BJ ((Ag CB ((Ag (GS AU) ((Ag N8 (At _ _))))))))))))))) [[0,2,4],[2,5,6,7],[2,5,6,7]] Tryz.func47
theorem Lg:AI Tryz.prog Gs 101 (ap2 Sh.f6h):=mk2 .keep (At _ _) [[0,1,5],[]] Tryz.func101
theorem LM:AI Tryz.prog Gs 48 (ap2 Sh.f6i):=mk2 .pure ((Ag Lg (At _ _))) [] Tryz.func48
theorem LF:AI Tryz.prog Gs 15 (ap2 Sh.f10):=mk2 .pure ((Ag LM (At _ _))) [] Tryz.func15
theorem Kq:AI Tryz.prog Gs 23 (ap0 Sl.gliderlaw16_alive):=by rw[Sl.gliderlaw16_alive_eq];exact Ll
theorem Lo:AI Tryz.prog Gs 15 (ap2 Sl.gliderref11_Same):=by rw[Sl.gliderref11_Same_eq];exact LF
theorem Le:AI Tryz.prog Gs 20 (ap2 Sh.f6k):=mk2 .keep (At _ _) [[0,5]] Tryz.func20
theorem LI:AI Tryz.prog Gs 49 (ap2 Sh.f6l):=mk2 .pureN ((Ag Le ((Ag N7 (At _ _))))) [] Tryz.func49
theorem N4:AI Tryz.prog Gs 17 (ap3 Sh.f11):=mk3 .pureN ((Ag LI ((Ag Hn (At _ _))))) [[3,4,5,6,0,1,2,8,7,9]] Tryz.func17
theorem ML:AI Tryz.prog Gs 17 (ap3 Sl.gliderref11_Of):=by rw[Sl.gliderref11_Of_eq];exact N4
theorem Jp:AI Tryz.prog Gs 18 (ap3 Sl.gliderref11_Express):=by rw[Sl.gliderref11_Express_eq];exact FX
theorem Jj:AI Tryz.prog Gs 8 (ap2 Sh.f7p):=mk2 .pure ((Ag Kq ((Ag ML ((Ag Jp ((Ag G4 ((Ag Ko ((Ag Lo (At _ _))))))))))))) [[]] Tryz.func8
def Lx (H:Aa)(p:Nat)(b:List UInt8)(a:Nat)(r:List Ab):Prop:=H[p]? = some (.cel 0 (.str b::.i6 (a:Int)::r))
theorem lx_b {H:Aa}{p a:Nat}{b:List UInt8}{r:List Ab}(h:Lx H p b a r):Ac false 1 (.ptr p 0 0) H=some (.str b):=by
 simp only[Ac,Aw h,Option.bind];rfl
theorem HW {H:Aa}{p a:Nat}{b:List UInt8}{r:List Ab}(h:Lx H p b a r):Ac false 1 (.ptr p 0 1) H=some (.i6 (a:Int)):=by
 simp only[Ac,Aw h,Option.bind];rfl
theorem JY {H:Aa}{p a:Nat}{b:List UInt8}{r:List Ab}(h:Lx H p b a r):Sh.fk (.ptr p 0 0) H=some (.ret (.bool (decide (a=b.length))),H):=by
 unfold Sh.fk;simp only[GMw,Ai,Ah,VU,lx_b h,HW h];by_cases e:a=b.length
 ·have e':(a:Int)=(b.length:Int):=by omega
  simp[e,e']
 ·have e':¬(a:Int)=(b.length:Int):=by omega
  simp[e,e']
def Tg (e:Int)(s:List UInt8):Ab:=.iface HI (.agg [.i6 e,.str s])
theorem Nf {H:Aa}{p a:Nat}{b:List UInt8}{r:List Ab}(h:Lx H p b a r)(s:List UInt8):Sh.f5 (.ptr p 0 0) (.str s) H=some (.pan (if a=b.length then Tg 3 s else Tg 2 []),H):=by
 unfold Sh.f5;simp only[GMw,JY h];by_cases e:a=b.length
 ·simp only[e,GMw]
  rfl
 ·simp only[e,GMw]
  rfl
theorem SP {H:Aa}(x:Ab):Sh.f22 x H=some (.pan (Tg 4 []),H):=rfl
theorem Vu (l:List UInt8)(c:UInt8):(0<=Lib.indexByte l c)↔c∈l:=by
 induction l with
 | nil=>simp[Lib.indexByte]
 | cons b l ih=>
  have hge:=Lib.indexByte_ge l c;unfold Lib.indexByte;by_cases h:b=c
  ·simp[h]
  ·have h':¬c=b:=λe=>h e.symm;by_cases h2:Lib.indexByte l c = -1
   ·have:¬c∈l:=λhm=>by have:=ih.2 hm;omega
    simp[h,h',h2,this]
   ·have h3:0<=Lib.indexByte l c:=by omega
    have h4:=ih.1 h3;simp[h,h2,h4];omega
def BT (b:List UInt8)(a:Nat)(some:List UInt8):Bool:=match b[a]? with
 | none=>false
 | Option.some c=>some.contains c
theorem F0 {H:Aa}{p a:Nat}{b:List UInt8}{r:List Ab}(h:Lx H p b a r)(ha:a<=b.length)(s:List UInt8):Sh.f4 (.ptr p 0 0) (.str s) H=some (.ret (.bool (BT b a s)),H):=by
 unfold Sh.f4 BT;simp only[GMw,JY h];by_cases e:a=b.length
 ·simp only[e,GMw];rw[zYb (VV _)]
 ·have hlt:a<b.length:=by omega
  rw[VO hlt];have hi:Sh.f21 (.str s) (.int .u8 (b[a].toNat:Int)) H=some (.ret (.i6 (Lib.indexByte s b[a])),H):=by
   unfold Sh.f21;simp
  simp only[e,GMw,Ai,Ah,VU,lx_b h,HW h,KL hlt,hi];by_cases hm:b[a]∈s
  ·have:=(Vu s b[a]).2 hm;simp[hm,this]
  ·have:¬0<=Lib.indexByte s b[a]:=λhc=>hm ((Vu s b[a]).1 hc);simp[hm,this]
theorem RD {H:Aa}{p a:Nat}{b:List UInt8}{r:List Ab}(h:Lx H p b a r)(n:Int):Af 1 (.ptr p 0 1) (.i6 n) H=some (H.set p (.cel 0 (.str b::.i6 n::r))):=by
 simp only[Af,Aw h,Option.bind,Ab.acells];simp[Bt h,CZ]
theorem lx_set {H:Aa}{p a a':Nat}{b:List UInt8}{r:List Ab}(h:Lx H p b a r):Lx (H.set p (.cel 0 (.str b::.i6 (a':Int)::r))) p b a' r:=by
 have:p<H.length:=by
  rcases W7 p H.length with h' | h'
  ·exact h'
  ·unfold Lx at h;rw[zYb h']at h;cases h
 unfold Lx;simp[this]
def Cg (H:Aa)(p:Nat)(b:List UInt8)(r:List Ab)(a:Nat):Aa:=H.set p (.cel 0 (.str b::.i6 (a:Int)::r))
theorem EF {H:Aa}{p a:Nat}{b:List UInt8}{r:List Ab}(h:Lx H p b a r):Cg H p b r a=H:=by
 unfold Cg;apply Xx;intro i;by_cases e:p=i
 ·subst e;have:p<H.length:=by
   rcases W7 p H.length with h' | h'
   ·exact h'
   ·unfold Lx at h;rw[zYb h']at h;cases h
  rw[Wf this];exact h.symm
 ·rw[VT e]
theorem GB {H:Aa}{p a a':Nat}{b:List UInt8}{r:List Ab}(h:Lx H p b a r):Lx (Cg H p b r a') p b a' r:=lx_set h
theorem UF (H:Aa)(p a a':Nat)(b:List UInt8)(r r':List Ab):Cg (Cg H p b r a) p b r' a'=Cg H p b r' a':=by unfold Cg;rw[Y4]
theorem setL_len (H:Aa)(p a:Nat)(b:List UInt8)(r:List Ab):(Cg H p b r a).length=H.length:=by unfold Cg;simp
theorem KD {H:Aa}{p a a':Nat}{b:List UInt8}{r:List Ab}(h:Lx H p b a r)(n:Nat):Af 1 (.ptr p 0 1) (.i6 (n:Int)) (Cg H p b r a')=some (Cg H p b r n):=by
 rw[RD (GB h)];exact congrArg some (UF H p a' n b r r)
def QD (b:List UInt8)(a:Nat):Nat:=a+((b.drop a).takeWhile λc=>!([13,10]:List UInt8).contains c).length
theorem anyN_step {b:List UInt8}{a:Nat}(h:a<b.length):QD b a=if BT b a [13,10]then a else QD b (a+1):=by
 unfold QD BT;rw[VO h,Ww h,XP];cases hc:([13,10]:List UInt8).contains b[a]with
 | true=>simp only[hc,WH,if_true,if_false,VY,zXk,Nat.add_zero]
 | false=>simp only[hc,WT,if_true,if_false,VY,zXj];omega
theorem anyN_end {b:List UInt8}:QD b b.length=b.length:=by simp[QD]
theorem lx_any {H:Aa}{p a:Nat}{b:List UInt8}{r:List Ab}(h:Lx H p b a r)(ha:a<=b.length)(hb:b.length<1152921504606846976) :
  Sh.f3j (.ptr p 0 0) H=some (.ret (.tup []),Cg H p b r (QD b a)):=by
 unfold Sh.f3j;have key:=Bq (G:=λrec1 vs H1=>Sh.f6p H rec1 (ag vs 0) H1) (σ:=Nat) (λi=>i<=b.length) (λ_=>[.ptr p 0 0]) (λi=>Cg H p b r i) (λi=>b.length-i)
  (λi=>some (.ret (.tup []),Cg H p b r (QD b i))) (λi rec hi hrec=>?_) a ha (by omega)
 ·rw[EF h]at key;exact key
 ·unfold Sh.f6p;have hx:=GB (a':=i) h;simp only[GMw,JY hx];by_cases e:i=b.length
  ·simp only[e,GMw,anyN_end]
  ·have hlt:i<b.length:=by omega
   simp only[e,GMw,F0 hx hi];rw[anyN_step hlt];cases hc:BT b i [13,10]with
   | true=>simp only[GMw,WH]
   | false=>
    simp only[GMw,WT,Ai,Ah,VU,HW hx,Au (show i<9223372036854775807 by omega),KD h];exact hrec (i+1) (by omega) (by omega)
def QI (b:List UInt8)(a:Nat)(s:List UInt8):Ab:=if a=b.length then Tg 3 s else Tg 2 []
def crN (b:List UInt8)(a:Nat):Nat:=if BT b a [13]then a+1 else a
theorem EU {b s:List UInt8}{a:Nat}(h:BT b a s=true):a<b.length:=by
 rcases W7 a b.length with h' | h'
 ·exact h'
 ·unfold BT at h;rw[zYb h']at h;cases h
theorem crN_le {b:List UInt8}{a:Nat}(ha:a<=b.length):crN b a<=b.length:=by
 unfold crN;cases hs:BT b a [13]with
 | true=>exact EU hs
 | false=>exact ha
def endO (H:Aa)(p:Nat)(b:List UInt8)(r:List Ab)(a:Nat)(rest:List UInt8):Out:=
 if a=b.length then some (.ret (.tup []),H)
 else if BT b (crN b a) [10]then some (.ret (.tup []),Cg H p b r (crN b a+1))
 else some (.pan (QI b (crN b a) (10::rest)),Cg H p b r (crN b a))
theorem lx_end {H:Aa}{p a:Nat}{b:List UInt8}{r:List Ab}(h:Lx H p b a r)(ha:a<=b.length)(hb:b.length<1152921504606846976)(rest:List UInt8)(hr:rest.length<=1000000) :
  Sh.f1g (.ptr p 0 0) (.str rest) H=endO H p b r a rest:=by
 unfold Sh.f1g endO;simp only[GMw,JY h];by_cases e:a=b.length
 ·simp only[e,GMw]
 ·have key:∀c,c<=b.length->Sh.f6o H (.ptr p 0 0) (.str rest) (Cg H p b r c)=if BT b c [10]then some (.ret (.tup []),Cg H p b r (c+1))else some (.pan (QI b c (10::rest)),Cg H p b r c):=by
   intro c hc;have hx:=GB (a':=c) h;unfold Sh.f6o;simp only[GMw,F0 hx hc];cases hs:BT b c [10]with
   | true=>
    unfold Sh.f7q;simp only[GMw,WH,Ai,Ah,VU,HW hx,Au (show c<9223372036854775807 by omega),KD h]
   | false=>
    have gZ:Ae .none .add (.str [10]) (.str rest)=some (.str (10::rest)):=CJ (by simp only[zXj,zXk];omega);simp only[GMw,WT,gZ,Nf hx]
    rfl
  simp only[e,GMw,F0 h ha,AK];unfold crN;cases hs:BT b a [13]with
  | true=>
   have hlt:a<b.length:=by omega
   have hm:=KD (a':=a) h (a+1);rw[EF h]at hm;simp only[GMw,Ai,Ah,VU,HW h,Au (show a<9223372036854775807 by omega),hm];exact key (a+1) (by omega)
  | false=>
   have:=key a ha;rw[EF h]at this;simp only[GMw];rw[EF h];exact this
def cpN:List UInt8->List UInt8->Nat
 | a::l,b::m=>if a=b then cpN l m+1 else 0
 | _,_=>0
theorem cpN_le:∀a b:List UInt8,cpN a b<=a.length/\cpN a b<=b.length
 | [],_=>⟨Wv _,Wv _⟩
 | _::_,[]=>⟨Wv _,Wv _⟩
 | a::l,b::m=>by
  have:=cpN_le l m;unfold cpN;by_cases h:a=b
  ·rw[if_pos h];simp only[zXj];omega
  ·rw[if_neg h];exact⟨Wv _,Wv _⟩
theorem cpN_get:∀(a b:List UInt8) (i:Nat),i<cpN a b->a[i]? = b[i]?
 | [],_,i,h=>by simp[cpN]at h
 | _::_,[],i,h=>by simp[cpN]at h
 | a::l,b::m,i,h=>by
  unfold cpN at h;by_cases e:a=b
  ·rw[if_pos e]at h;cases i with
   | zero=>simp[e]
   | succ i=>simpa using cpN_get l m i (by omega)
  ·rw[if_neg e]at h;omega
theorem cpN_stop:∀(a b:List UInt8),cpN a b<a.length->cpN a b<b.length->a[cpN a b]? ≠ b[cpN a b]?
 | [],_,h,_=>by simp[cpN]at h
 | _::_,[],_,h=>by simp[cpN]at h
 | a::l,b::m,h,h2=>by
  by_cases e:a=b
  ·have ec:cpN (a::l) (b::m)=cpN l m+1:=by rw[cpN,if_pos e]
   rw[ec]at h h2 ⊢;simpa using cpN_stop l m (by simpa using h) (by simpa using h2)
  ·have ec:cpN (a::l) (b::m)=0:=by rw[cpN,if_neg e]
   rw[ec];simpa using e
theorem q_common (a b:List UInt8)(H:Aa)(ha:a.length<1152921504606846976):Sh.f3i (.str a) (.str b) H=some (.ret (.i6 (cpN a b:Int)),H):=by
 unfold Sh.f3i;have hm:(min (a.length:Int) (b.length:Int))=((min a.length b.length:Nat):Int):=by omega
 have hle:=cpN_le a b;have l1:CK (.str a)=some (.i6 (a.length:Int)):=rfl;have l2:CK (.str b)=some (.i6 (b.length:Int)):=rfl;simp only[GMw,l1,l2,min_int,hm];have key:=Bq (G:=λrec1 vs H1=>Sh.f6n H rec1 (ag vs 0) (ag vs 1) (ag vs 2) (ag vs 3) (ag vs 4) H1) (σ:=Nat) (λi=>i<=cpN a b)
  (λi=>[.str a,.str b,.i6 ((min a.length b.length:Nat):Int),.i6 ((min a.length b.length:Nat):Int),.i6 (i:Int)]) (λ_=>H) (λi=>cpN a b-i)
  (λ_=>some (.ret (.i6 (cpN a b:Int)),H)) (λi rec hi hrec=>?_) 0 (Wv _) (by omega)
 ·exact key
 ·unfold Sh.f6n;by_cases hlt:i<min a.length b.length
  ·have hlt':(i:Int)<((min a.length b.length:Nat):Int):=by omega
   have h1:i<a.length:=by omega
   have h2:i<b.length:=by omega
   simp only[GMw,Aj,hlt',KL h1,KL h2];by_cases e:i=cpN a b
   ·have hne:=cpN_stop a b (by omega) (by omega);rw[<-e,VO h1,VO h2]at hne;have hn:¬((a[i].toNat:Int)=(b[i].toNat:Int)):=λhc=>hne (congrArg some (Xp.1 (by omega)));simp only[hn,GMw,not_false_eq_true];rw[e]
   ·have hg:=cpN_get a b i (by omega);rw[VO h1,VO h2]at hg;have hg':=X7 hg;simp only[hg',GMw,not_true_eq_false,Au (show i<9223372036854775807 by omega)];exact hrec (i+1) (by omega) (by omega)
  ·have hlt':¬(i:Int)<((min a.length b.length:Nat):Int):=by omega
   simp only[GMw,Aj,hlt'];have:min a.length b.length=cpN a b:=by omega
   rw[this]
def mustO (H:Aa)(p:Nat)(b:List UInt8)(r:List Ab)(a:Nat)(s rest:List UInt8):Out:=
 if cpN (b.drop a) s<s.length then some (.pan (QI b (a+cpN (b.drop a) s) (s.drop (cpN (b.drop a) s)++rest)),Cg H p b r (a+cpN (b.drop a) s))
 else some (.ret (.tup []),Cg H p b r (a+cpN (b.drop a) s))
theorem lx_must {H:Aa}{p a:Nat}{b:List UInt8}{r:List Ab}(h:Lx H p b a r)(ha:a<=b.length)(hb:b.length<1152921504606846976)(s rest:List UInt8)(hs:s.length<=1000000)(hr:rest.length<=1000000) :
  Sh.fb (.ptr p 0 0) (.str s) (.str rest) H=mustO H p b r a s rest:=by
 unfold Sh.fb mustO;have hle:=cpN_le (b.drop a) s;have hd:(b.drop a).length=b.length-a:=Ws;have hq:=q_common (b.drop a) s H (by omega);have l2:CK (.str s)=some (.i6 (s.length:Int)):=rfl;generalize cpN (b.drop a) s=n at hq hle ⊢;have hw:IntKind.i64.wrap ((a:Int)+(n:Int))=((a+n:Nat):Int):=by rw[Ao] <;> omega
 have hm:=KD (a':=a) h (a+n);rw[EF h]at hm;have hx:=GB (a':=a+n) h;simp only[GMw,Ai,Ah,VU,lx_b h,HW h,GA ha,hq,hw,hm,l2];by_cases hc:n<s.length
 ·have bT:(n:Int)<(s.length:Int):=by omega
  have gZ:Ae .none .add (.str (s.drop n)) (.str rest)=some (.str (s.drop n++rest)):=CJ (by rw[Ws];omega);simp only[bT,GMw,GA hle.2,gZ,Nf hx,if_pos hc]
  rfl
 ·have bT:¬(n:Int)<(s.length:Int):=by omega
  simp only[bT,GMw,if_neg hc]
def litN (b:List UInt8)(a:Nat)(s:List UInt8):Nat:=a+cpN (b.drop a) s
theorem litN_le {b:List UInt8}{a:Nat}(ha:a<=b.length)(s:List UInt8):litN b a s<=b.length:=by
 have:=(cpN_le (b.drop a) s).1;rw[Ws]at this;unfold litN;omega
theorem q_sign (c:UInt8)(H:Aa):Sh.f3k (.int .u8 (c.toNat:Int)) H=some (.ret (.bool (LW c)),H):=by
 unfold Sh.f3k LW;by_cases h:(c.toNat:Int)>32
 ·have:33<=c.toNat:=by omega
  simp[h,this];omega
 ·have:¬33<=c.toNat:=by omega
  simp[h,this]
def onB (b:List UInt8)(f a:Nat):Bool:=match b[a]? with
 | none=>false
 | some c=>decide (a-f<40)&&LW c
def HS (b:List UInt8)(f:Nat):Nat->Nat->Nat
 | 0,a=>a
 | n+1,a=>if onB b f a then HS b f n (a+1)else a
def ruleO (H:Aa)(p:Nat)(b:List UInt8)(r:List Ab)(f e:Nat)(rest:List UInt8):Out:=
 if e=f then some (.pan (QI b e (97::rest)),Cg H p b r e)else some (.ret (.str ((b.take e).drop f)),Cg H p b r e)
theorem lx_rule_end {H:Aa}{p a f:Nat}{b:List UInt8}{r:List Ab}(h:Lx H p b f r)(hf:f<=a)(ha:a<=b.length)(rest:List UInt8)(hr:rest.length<=1000000) :
  (AK (λj2=>
 (Ai (.ptr p 0 0)).bind λx51=>
 (Ad 1 x51).bind λx52=>
 (Ac false 1 x52 (Cg H p b r a)).bind λx53=>
 (Ae .none .eql x53 (.i6 (f:Int))).bind λx54=>
 Ak x54 (
 (Ae .none .add (.str [97]) (.str rest)).bind λx55=>
 bK H (Sh.f5 (.ptr p 0 0) x55 (Cg H p b r a)) λx56 H57=>
 j2 [.ptr p 0 0,.i6 (f:Int)] H57) (
 j2 [.ptr p 0 0,.i6 (f:Int)] (Cg H p b r a))) (λvs H1=>Sh.f6q H (ag vs 0) (ag vs 1) H1))=ruleO H p b r f a rest:=by
 have hx:=GB (a':=a) h;unfold ruleO;have gZ:Ae .none .add (.str [97]) (.str rest)=some (.str (97::rest)):=CJ (by simp only[zXj,zXk];omega);simp only[GMw,Ai,Ah,VU,HW hx];by_cases e:a=f
 ·simp only[e,GMw,gZ,if_pos];subst e;simp only[Nf hx]
  rfl
 ·have e':¬(a:Int)=(f:Int):=by omega
  simp only[e',GMw,if_neg e];unfold Sh.f6q;simp only[GMw,Ai,Ah,VU,HW hx,lx_b hx,UB hf ha]
theorem P9 {b:List UInt8}{f a:Nat}(h:onB b f a=false):∀n,HS b f n a=a
 | 0=>rfl
 | n+1=>by rw[HS,h];rfl
theorem ruleN_on {b:List UInt8}{f a:Nat}(h:onB b f a=true)(hf:f<=a):HS b f (40-(a-f)) a=HS b f (40-(a+1-f)) (a+1):=by
 have:a-f<40:=by
  unfold onB at h;split at h
  ·cases h
  ·simp at h;exact h.1
 have e:40-(a-f)=(40-(a+1-f))+1:=by omega
 rw[e,HS,h,if_pos rfl]
theorem onB_lt {b:List UInt8}{f a:Nat}(h:onB b f a=true):a<b.length:=by
 rcases W7 a b.length with h' | h'
 ·exact h'
 ·unfold onB at h;rw[zYb h']at h;cases h
theorem lx_rule {H:Aa}{p f:Nat}{b:List UInt8}{r:List Ab}(h:Lx H p b f r)(hf:f<=b.length)(hb:b.length<1152921504606846976)(rest:List UInt8)(hr:rest.length<=1000000) :
  Sh.f1h (.ptr p 0 0) (.str rest) H=ruleO H p b r f (HS b f 40 f) rest:=by
 unfold Sh.f1h;simp only[GMw,Ai,Ah,VU,HW h];have key:=Bq (G:=λrec1 vs H1=>Sh.f6r H rec1 (ag vs 0) (ag vs 1) (ag vs 2) H1) (σ:=Nat) (λi=>f<=i/\i<=b.length) (λ_=>[.ptr p 0 0,.str rest,.i6 (f:Int)]) (λi=>Cg H p b r i) (λi=>b.length-i)
  (λi=>ruleO H p b r f (HS b f (40-(i-f)) i) rest) (λi rec hi hrec=>?_) f ⟨VV _,hf⟩ (by omega)
 ·rw[EF h,WB,Nat.sub_zero]at key;exact key
 ·unfold Sh.f6r;obtain⟨h1,h2⟩:=hi;have hx:=GB (a':=i) h;have eL:=lx_rule_end h h1 h2 rest hr;simp only[GMw,JY hx];by_cases e:i=b.length
  ·have ho:onB b f i=false:=by unfold onB;rw[e,zYb (VV _)]
   rw[P9 ho];simp only[e,GMw]at eL ⊢;exact eL
  ·have hlt:i<b.length:=by omega
   have hw:IntKind.i64.wrap ((i:Int)-(f:Int))=((i-f:Nat):Int):=by rw[Ao] <;> omega
   simp only[e,GMw,Ai,Ah,VU,HW hx,lx_b hx,hw];by_cases tG:i-f<40
   ·have oG:((i-f:Nat):Int)<40:=by omega
    simp only[oG,GMw,Ah,VU,HW hx,lx_b hx,KL hlt,q_sign];cases hs:LW b[i]with
    | true=>
     have ho:onB b f i=true:=by unfold onB;rw[VO hlt];simp[tG,hs]
     rw[ruleN_on ho h1];simp only[GMw,HW hx,Au (show i<9223372036854775807 by omega),KD h];exact hrec (i+1) ⟨by omega,by omega⟩ (by omega)
    | false=>
     have ho:onB b f i=false:=by unfold onB;rw[VO hlt];simp[hs]
     rw[P9 ho];simpa only[GMw,Ai,Ah,VU,HW hx]using eL
   ·have oG:¬((i-f:Nat):Int)<40:=by omega
    have ho:onB b f i=false:=by unfold onB;rw[VO hlt];simp[tG]
    rw[P9 ho];simpa only[oG,GMw,Ai,Ah,VU,HW hx]using eL
def eolN (b:List UInt8)(a:Nat):Nat:=if a=b.length then a else if BT b (crN b a) [10]then crN b a+1 else crN b a
theorem eolN_le {b:List UInt8}{a:Nat}(ha:a<=b.length):eolN b a<=b.length:=by
 unfold eolN;split
 ·exact ha
 ·split
  ·rename_i h;exact EU h
  ·exact crN_le ha
theorem ruleN_le {b:List UInt8}{f:Nat}:∀(n a:Nat),a<=b.length->a<=HS b f n a/\HS b f n a<=b.length
 | 0,a,h=>⟨VV _,h⟩
 | n+1,a,h=>by
  rw[HS];cases ho:onB b f a with
  | true=>have:=ruleN_le (b:=b) (f:=f) n (a+1) (onB_lt ho);simp only[if_true];omega
  | false=>simp only[VY,if_false];omega
abbrev Er:=Option (Int×List UInt8)
def codeR:Er->Int
 | none=>0
 | some e=>e.1
@[simp] theorem codeR_none:codeR none=0:=rfl
@[simp] theorem codeR_some (e:Int×List UInt8):codeR (some e)=e.1:=rfl
def Oo (b:List UInt8)(a:Nat)(s:List UInt8):Int×List UInt8:=if a=b.length then (3,s)else (2,[])
def DT (b:List UInt8)(a:Nat)(s rest:List UInt8):Er×Nat:=(if cpN (b.drop a) s<s.length then some (Oo b (litN b a s) (s.drop (cpN (b.drop a) s)++rest))else none,litN b a s)
def JI (b:List UInt8)(a:Nat)(rest:List UInt8):Er×Nat:=(if a=b.length then none else if BT b (crN b a) [10]then none else some (Oo b (crN b a) (10::rest)),eolN b a)
def Ot (b:List UInt8)(f:Nat)(rest:List UInt8):Er×Nat:=(if HS b f 40 f=f then some (Oo b f (97::rest))else none,HS b f 40 f)
def Kg:List UInt8:=[48,49,50,51,52,53,54,55,56,57]
def Mk (b:List UInt8)(f:Nat)(rest:List UInt8):Nat->Nat->Er×Nat
 | 0,a=>(none,a)
 | n+1,a=>
  if BT b a Kg then
   if f<a/\b[f]? = some 48 then (some (Oo b a []),a)
   else if a-f=400 then (some (4,[]),a)
   else Mk b f rest n (a+1)
  else if a=f then (some (Oo b a (49::rest)),a)else (none,a)
def PP (b:List UInt8)(a:Nat)(neg:Bool):Nat:=if neg&&BT b a [45]then a+1 else a
def Hw (b:List UInt8)(a:Nat)(neg:Bool)(rest:List UInt8):Er×Nat:=
 if neg&&BT b a [45]&&BT b (a+1) [48]then (some (Oo b (a+1) []),a+1)else Mk b (PP b a neg) rest 402 (PP b a neg)
def C4:List UInt8:=[66,51,47,83,50,51]
def NA (er:Er):Prop:=∀e,er=some e->0<e.1/\e.1<=4
theorem NA.none:NA none:=λe h=>by cases h
theorem NA.stp (b:List UInt8)(a:Nat)(s:List UInt8):NA (some (Oo b a s)):=λe h=>by
 injection h with h;subst h;unfold Oo;split <;> simp
theorem NA.lim:NA (some (4,[])):=λe h=>by injection h with h;subst h;simp
theorem O5 (b:List UInt8)(a:Nat)(s rest:List UInt8):NA (DT b a s rest).1:=by
 unfold DT;split
 ·exact .stp _ _ _
 ·exact .none
theorem endS_er (b:List UInt8)(a:Nat)(rest:List UInt8):NA (JI b a rest).1:=by
 unfold JI;split
 ·exact .none
 ·split
  ·exact .none
  ·exact .stp _ _ _
theorem rulS_er (b:List UInt8)(f:Nat)(rest:List UInt8):NA (Ot b f rest).1:=by
 unfold Ot;split
 ·exact .stp _ _ _
 ·exact .none
theorem numS_er (b:List UInt8)(f:Nat)(rest:List UInt8):∀n a,NA (Mk b f rest n a).1
 | 0,a=>.none
 | n+1,a=>by
  unfold Mk;split
  ·split
   ·exact .stp _ _ _
   ·split
    ·exact .lim
    ·exact numS_er b f rest n (a+1)
  ·split
   ·exact .stp _ _ _
   ·exact .none
theorem intS_er (b:List UInt8)(a:Nat)(neg:Bool)(rest:List UInt8):NA (Hw b a neg rest).1:=by
 unfold Hw;split
 ·exact .stp _ _ _
 ·exact numS_er _ _ _ _ _
theorem Lx.push {H G:Aa}{p a:Nat}{b:List UInt8}{r:List Ab}(h:Lx H p b a r):Lx (H++G) p b a r:=by
 have:p<H.length:=by
  rcases W7 p H.length with h' | h'
  ·exact h'
  ·unfold Lx at h;rw[zYb h']at h;cases h
 unfold Lx;rw[VR this];exact h
theorem digs_mem (c:UInt8):([48,49,50,51,52,53,54,55,56,57]:List UInt8).contains c=decide (48<=c.toNat/\c.toNat<=57):=by
 simp only[List.contains_eq_mem,WG,List.not_mem_nil,or_false,decide_eq_decide,<-Xp];simp only[UInt8.reduceToNat];omega

def NX (b:List UInt8)(f:Nat)(rest:List UInt8):Nat->Nat->Option Ab×Nat
 | 0,a=>(none,a)
 | n+1,a=>
  if BT b a Kg then
   if f<a/\b[f]? = some 48 then (some (QI b a []),a)
   else if a-f=400 then (some (Tg 4 []),a)
   else NX b f rest n (a+1)
  else if a=f then (some (QI b a (49::rest)),a)else (none,a)
theorem numR_le (b:List UInt8)(f:Nat)(rest:List UInt8):∀n a,a<=b.length->a<=(NX b f rest n a).2/\(NX b f rest n a).2<=b.length
 | 0,a,h=>⟨VV _,h⟩
 | n+1,a,h=>by
  unfold NX;by_cases hs:BT b a Kg=true
  ·rw[if_pos hs];by_cases h1:f<a/\b[f]? = some 48
   ·rw[if_pos h1];exact⟨VV _,h⟩
   ·rw[if_neg h1];by_cases h2:a-f=400
    ·rw[if_pos h2];exact⟨VV _,h⟩
    ·rw[if_neg h2];have:=numR_le b f rest n (a+1) (EU hs);exact⟨by omega,this.2⟩
  ·rw[if_neg hs];by_cases h1:a=f
   ·rw[if_pos h1];exact⟨VV _,h⟩
   ·rw[if_neg h1];exact⟨VV _,h⟩
theorem numR_on {b:List UInt8}{f a:Nat}{rest:List UInt8}{n:Nat}(hs:BT b a Kg=true)(h1:¬(f<a/\b[f]? = some 48))(h2:¬a-f=400):NX b f rest (n+1) a=NX b f rest n (a+1):=by
 rw[NX,if_pos hs,if_neg h1,if_neg h2]
noncomputable def numO (H0 K:Aa)(p:Nat)(b:List UInt8)(r:List Ab)(q from_:Ab):Option Ab×Nat->Out
 | (some v,e)=>some (.pan v,Cg K p b r e)
 | (none,e)=>Sh.f23 H0 (.ptr p 0 0) q from_ (Cg K p b r e)
theorem lx_num_loop {H0 K:Aa}{p f:Nat}{b:List UInt8}{r:List Ab}(h:Lx K p b f r)(hf:f<=b.length)(hb:b.length<1152921504606846976)(rest:List UInt8)(hr:rest.length<=1000000)(q from_:Ab) :
  Ap (λaA vs H=>Sh.f3s H0 aA (ag vs 0) (ag vs 1) (ag vs 2) (ag vs 3) (ag vs 4) H) AU [.ptr p 0 0,.str rest,q,from_,.i6 (f:Int)] K=numO H0 K p b r q from_ (NX b f rest 402 f):=by
 have key:=Bq (G:=λaA vs H=>Sh.f3s H0 aA (ag vs 0) (ag vs 1) (ag vs 2) (ag vs 3) (ag vs 4) H) (σ:=Nat) (λi=>f<=i/\i<=b.length/\i-f<=400) (λ_=>[.ptr p 0 0,.str rest,q,from_,.i6 (f:Int)]) (λi=>Cg K p b r i) (λi=>b.length-i)
  (λi=>numO H0 K p b r q from_ (NX b f rest (402-(i-f)) i)) (λi rec hi hrec=>?_) f ⟨VV _,hf,by omega⟩ (by omega)
 ·rw[EF h,WB,Nat.sub_zero]at key;exact key
 ·obtain⟨h1,h2,h3⟩:=hi;have hx:=GB (a':=i) h;have e:402-(i-f)=(401-(i-f))+1:=by omega
  have gZ:Ae .none .add (.str [49]) (.str rest)=some (.str (49::rest)):=CJ (by simp only[zXj,zXk];omega);unfold Sh.f3s;have pR:=F0 hx h2 Kg;unfold Kg at pR;rw[e];have mZ:BT b i [48,49,50,51,52,53,54,55,56,57]=BT b i Kg:=rfl;simp only[GMw,pR,mZ];cases hs:BT b i Kg with
  | true=>
   have hlt:=EU hs;have eK:f<b.length:=by omega
   have hw:IntKind.i64.wrap ((i:Int)-(f:Int))=((i-f:Nat):Int):=by rw[Ao] <;> omega
   have tail:¬(f<i/\b[f]? = some 48)->((Ae .none .sub (.i6 (i:Int)) (.i6 (f:Int))).bind λx56=>
     (Ae .none .eql x56 (.i6 400)).bind λx57=>
     Ak x57 (bK H0 (Sh.f22 (.ptr p 0 0) (Cg K p b r i)) λx58 H59=>Sh.f3r H0 rec (.ptr p 0 0) (.str rest) q from_ (.i6 (f:Int)) H59)
      (Sh.f3r H0 rec (.ptr p 0 0) (.str rest) q from_ (.i6 (f:Int)) (Cg K p b r i)))=numO H0 K p b r q from_ (NX b f rest (401-(i-f)+1) i):=by
    intro hn;simp only[GMw,hw];by_cases h4:i-f=400
    ·have wJ:((i-f:Nat):Int)=400:=by omega
     rw[NX,if_pos hs,if_neg hn,if_pos h4];simp only[wJ,GMw,SP]
     rfl
    ·have wJ:¬((i-f:Nat):Int)=400:=by omega
     rw[numR_on hs hn h4];unfold Sh.f3r;simp only[wJ,GMw,Ai,Ah,VU,HW hx,Au (show i<9223372036854775807 by omega),KD h];have:=hrec (i+1) ⟨by omega,by omega,by omega⟩ (by omega);rw[show 402-(i+1-f)=401-(i-f)by omega]at this;exact this
   by_cases eR:f<i
   ·have jS:(i:Int)>(f:Int):=by omega
    simp only[GMw,Ai,Ah,VU,HW hx,lx_b hx,jS,KL eK,Aj];by_cases h0:b[f]=48
    ·rw[NX,if_pos hs,if_pos ⟨eR,by rw[VO eK,h0]⟩];simp only[h0,GMw,Nf hx]
     rfl
    ·have eX:¬((b[f].toNat:Int)=48):=λhc=>h0 (Xp.1 (by show b[f].toNat=48;omega));simp only[eX,GMw];exact tail (λhc=>h0 (by have:=hc.2;rw[VO eK]at this;exact X7 this))
   ·have jS:¬(i:Int)>(f:Int):=by omega
    simp only[GMw,Ai,Ah,VU,HW hx,jS,Aj];exact tail (λhc=>eR hc.1)
  | false=>
   rw[NX,if_neg (by rw[hs];exact Bool.false_ne_true)];simp only[GMw,Ai,Ah,VU,HW hx,Aj];by_cases he:i=f
   ·have dR:(i:Int)=(f:Int):=by omega
    rw[if_pos he];simp only[dR,GMw,gZ,Nf hx]
    rfl
   ·have dR:¬(i:Int)=(f:Int):=by omega
    rw[if_neg he];simp only[dR,GMw]
    rfl
theorem decN_pos (n:Nat):0<(Dj n).length:=by
 unfold Dj;split <;> simp
section
variable {H:Aa}{id g i:Nat}{L:List (List UInt8)}
end
theorem HD {n:Nat}(h:n<10):Dj n=[UInt8.ofNat (48+n)]:=by unfold Dj;rw[dif_pos h]
theorem T7 {n:Nat}(h:¬n<10):Dj n=Dj (n / 10)++[UInt8.ofNat (48+n%10)]:=by
 conv=>lhs;unfold Dj
 rw[dif_neg h]
theorem Qw (n:Nat)(h:n≠0):∃c r,Dj n=c::r/\c≠48:=by
 induction n using Nat.strongRecOn with
 | ind n ih=>
  by_cases hn:n<10
  ·refine⟨_,_,HD hn,λe=>?_⟩;have:=congrArg UInt8.toNat e;rw[Xu (show 48+n<256 by omega)]at this;have sF:(48:UInt8).toNat=48:=rfl;omega
  ·obtain⟨c,r,h1,h2⟩:=ih (n / 10) (by omega) (by omega);exact⟨c,r++[UInt8.ofNat (48+n%10)],by rw[T7 hn,h1];rfl,h2⟩
theorem pow10_up {a b:Nat}(h:a<=b):10^a<=10^b:=W9 (by omega) h
theorem decZ_zero:G7 0=[48]:=by
 unfold G7;rw[if_neg (by decide)];exact HD (by decide)
def Is (c:UInt8):Bool:=decide (48<=c.toNat)&&decide (c.toNat<=57)
def I6 (s:List UInt8):Nat:=(s.takeWhile Is).length
theorem digN_le (s:List UInt8):I6 s<=s.length:=(Y3 Is).length_le
theorem Qu (c:UInt8)(s:List UInt8):I6 (c::s)=if Is c then I6 s+1 else 0:=by
 unfold I6;rw[XP];split <;> simp
theorem byteAt (s:List UInt8)(pos:Nat)(h:pos<s.length):((⟨s.toArray⟩:ByteArray)[pos]'(by show pos<s.toArray.size;simpa using h))=s[pos]:=by
 show s.toArray[pos]=s[pos];simp
theorem idx_from (s:List UInt8):∀(f pos:Nat),pos<=s.length->s.length-pos<=f->Lib.idxFuncFrom Ly true ⟨s.toArray⟩ f pos=if pos+I6 (s.drop pos)<s.length then ((pos+I6 (s.drop pos):Nat):Int)else -1
 | 0,pos,h1,h2=>by
  have:pos=s.length:=by omega
  subst this;rw[Lib.idxFuncFrom,if_neg (by omega)]
 | f+1,pos,h1,h2=>by
  have hsz:(⟨s.toArray⟩:ByteArray).size=s.length:=by simp[ByteArray.size]
  unfold Lib.idxFuncFrom;rw[hsz];by_cases hp:pos<s.length
  ·rw[if_pos hp,Ww hp,Qu];have hb:=byteAt s pos hp;by_cases ha:s[pos].toNat<128
   ·rw[decode_ascii ⟨s.toArray⟩ pos (by omega) (by rw[hb];exact ha),hb];simp only[];by_cases hd:Is s[pos]=true
    ·have gO:Ly s[pos].toNat=false:=by
      simp only[Is,Wc,zXe]at hd;simp only[Ly,Yh,decide_eq_false_iff_not];omega
     rw[gO,if_neg (by simp),if_pos hd,idx_from s f (pos+1) (by omega) (by omega)];rw[show pos+(I6 (s.drop (pos+1))+1)=pos+1+I6 (s.drop (pos+1))by omega]
    ·have gO:Ly s[pos].toNat=true:=by
      simp only[Is,Wc,zXe]at hd;simp only[Ly,WS,zXe];omega
     rw[gO,if_pos rfl,if_neg hd,if_pos (by omega)]
     rfl
   ·obtain⟨k1,k2⟩:=decode_high ⟨s.toArray⟩ pos (by omega) (by rw[hb];omega);have hd:¬Is s[pos]=true:=by
     simp only[Is,Wc,zXe];omega
    have gO:Ly (Utf8.decode ⟨s.toArray⟩ pos).1=true:=by
     simp only[Ly,WS,zXe];omega
    rw[gO,if_pos rfl,if_neg hd,if_pos (by omega)]
    rfl
  ·rw[if_neg hp,if_neg (by omega)]
theorem idx_dig (s:List UInt8):Lib.idxFunc Ly true ⟨s.toArray⟩=if I6 s<s.length then (I6 s:Int)else -1:=by
 have hsz:(⟨s.toArray⟩:ByteArray).size=s.length:=by simp[ByteArray.size]
 have:=idx_from s s.length 0 (Wv _) (by omega);rw[VU,Xm]at this;rw[Lib.idxFunc,hsz,this]
def digA (s:List UInt8)(at':Int):Nat:=if at'<0 then 0 else I6 (s.drop at'.toNat)
theorem q_digits (s:List UInt8)(at':Int)(H:Aa)(hs:s.length<1152921504606846976):Sh.f3n (.str s) (.i6 at') H=some (.ret (.i6 (digA s at')),H):=by
 unfold Sh.f3n digA;by_cases h0:at'<0
 ·simp only[GMw,h0,if_true]
  rfl
 ·obtain⟨a,rfl⟩:∃a:Nat,at'=(a:Int):=⟨at'.toNat,by omega⟩;simp only[GMw,h0,if_false,Iz,zXl];by_cases h1:a<=s.length
  ·have dA:¬((a:Int)>(s.length:Int)):=by omega
   have hsl:BZ (.str s) (some (.i6 (a:Int))) none=some (.str (s.drop a)):=by
    simp[BZ,By,h1]
   have hi:Sh.f20 (.str (s.drop a)) (.fn 235 []) H=some (.ret (.i6 (if I6 (s.drop a)<(s.drop a).length then (I6 (s.drop a):Int)else -1)),H):=by
    unfold Sh.f20;simp only[idx_dig]
   have hle:=digN_le (s.drop a);simp only[dA,GMw,hsl];by_cases hd:I6 (s.drop a)<(s.drop a).length
   ·have:¬((I6 (s.drop a):Int)<0):=by omega
    rw[hi,if_pos hd];simp only[this,GMw]
   ·have e:I6 (s.drop a)=(s.drop a).length:=by omega
    rw[hi,if_neg hd];simp only[show ((-1:Int)<0) from by decide,GMw,Iz,<-e]
  ·have dA:(a:Int)>(s.length:Int):=by omega
   rw[Xn (by omega)];simp only[dA,GMw]
   rfl
def I7 (s:List UInt8):Nat:=s.foldl (λv c=>v*10+(c.toNat-48)) 0
theorem Nt (s:List UInt8)(c:UInt8):I7 (s++[c])=I7 s*10+(c.toNat-48):=by simp[I7]
theorem T6 {s:List UInt8}(h:I6 s=s.length):∀c∈s,Is c=true:=by
 induction s with
 | nil=>intro c hc;cases hc
 | cons x s ih=>
  rw[Qu]at h;by_cases hx:Is x=true
  ·rw[if_pos hx,zXj]at h;intro c hc;rcases WG.1 hc with e | e
   ·rw[e];exact hx
   ·exact ih (by omega) c e
  ·rw[if_neg hx]at h;simp at h
theorem F3 (c:UInt8):Is c=true↔48<=c.toNat/\c.toNat<=57:=by simp[Is]
theorem decV_lt {s:List UInt8}(h:∀c∈s,Is c=true):∀i,i<=s.length->I7 (s.take i)<10^i
 | 0,_=>by simp[I7]
 | i+1,hi=>by
  have:=decV_lt h i (by omega);have hc:=(F3 _).1 (h _ (We (show i<s.length by omega)));rw[Wb (by omega),Nt,Nat.pow_succ];omega
def N2 (s:List UInt8):Bool:=match s with
 | c::_=>c == 45
 | []=>false
def Cy (s:List UInt8):List UInt8:=if N2 s then s.drop 1 else s
def N1 (s:List UInt8):Bool:=Cy s == []||decide (I6 (Cy s)<(Cy s).length)||((Cy s)[0]?.getD 0 == 48 && !(s == [48]))
def GE (s:List UInt8):Int:=if N1 s then 2 else if (Cy s).length>400 then 4 else 0
def Da (s:List UInt8):Int:=if GE s=0 then (if N2 s then -(I7 (Cy s):Int)else I7 (Cy s))else 0
theorem q_cutprefix (s:List UInt8)(H:Aa)(hs:s.length<1152921504606846976):Sh.f3m (.str s) (.str [45]) H=some (.ret (.tup [.str (Cy s),.bool (N2 s)]),H):=by
 have hp:Sh.f3l (.str s) (.str [45]) H=some (.ret (.bool (N2 s)),H):=by
  unfold Sh.f3l;cases s with
  | nil=>simp[CK,N2]
  | cons c r=>
   have h1:((c::r).length:Int)>=(([45]:List UInt8).length:Int):=by simp;omega
   have h2:BZ (.str (c::r)) none (some (.i6 (([45]:List UInt8).length:Int)))=some (.str [c]):=by
    rw[slice_str_to (by simp)];rfl
   simp only[Iz,GMw,h1,h2,Ku];simp[N2]
 unfold Sh.f3m Sh.f6s;cases hb:N2 s with
 | false=>simp only[GMw,hp,hb,B1,B8,Cy,VY,if_false]
 | true=>
  have h2:BZ (.str s) (some (.i6 (([45]:List UInt8).length:Int))) none=some (.str (s.drop 1)):=by
   refine GA (l:=1) ?_;cases s with
   | nil=>cases hb
   | cons c r=>simp
  simp only[GMw,hp,hb,Iz,h2,B1,B8,Cy,if_true]
theorem next_dig {B:Aa}{d:List UInt8}{i:Nat}(h:i<d.length)(hd:d[i].toNat<128):O3 (.ptr B.length 0 0) (B++[.iter d i])=some (.tup [.bool true,.i6 (i:Int),.int .i32 (d[i].toNat:Int)],B++[.iter d (i+1)]):=by
 have hb:=byteAt d i h;have oB:=decode_ascii ⟨d.toArray⟩ i (by show i<d.toArray.size;simpa using h) (by rw[hb];exact hd);simp only[O3,List.getElem?_concat_length,h,if_true,oB,hb,Be]
theorem next_end {B:Aa}{d:List UInt8}:O3 (.ptr B.length 0 0) (B++[.iter d d.length])=some (.tup [.bool false],B++[.iter d d.length]):=by
 simp[O3]
theorem fin_big {H G:Aa}{zb:List Ab}{neg:Bool}{l:List Nat}{tk:Tok}{e:Int}(hz:zb.length=2) :
  (bP H (A8 (Af 2 (.ptr H.length 0 0) (.agg [.bool neg,.sl (enL cU l) tk]) (H++(.cel 0 zb::G)))) λ_ H40=>(Eh [Ac true 2 (.ptr H.length 0 0) H40,some (.i6 e)]).bind λx=>rPN H x H40)=some (.ret (.tup [.agg [.bool neg,.sl (enL cU l) .no],.i6 e]),H):=by
 have h1:Af 2 (.ptr H.length 0 0) (.agg [.bool neg,.sl (enL cU l) tk]) (H++(.cel 0 zb::G))=some (H++(.cel 0 [.bool neg,.sl (enL cU l) tk]::G)):=by
  rw[Kz,P1 (vs:=[.bool neg,.sl (enL cU l) tk]) rfl hz rfl]
  rfl
 have h2:Ac true 2 (.ptr H.length 0 0) (H++(.cel 0 [.bool neg,.sl (enL cU l) tk]::G))=some (.agg [.bool neg,.sl (enL cU l) tk]):=by
  rw[F2];rfl
 simp only[h1,GMw,h2,EN,CU,D6,zXb,Cw,Ci,Bu,B6,F5,DB,Ew,GL,KP,CM]
theorem big_zero:Ab.agg [.bool false,.sl (enL cU []) .no]=big 0:=by
 rw[QA,show (0:Int).natAbs=0 from rfl,EH]
 rfl
theorem big_of {neg:Bool}{n:Nat}(h:neg=true->n≠0):Ab.agg [.bool neg,.sl (enL cU (AA n)) .no]=big (if neg then -(n:Int)else n):=by
 have h1:=big_sgn neg n;have h2:sgn neg n=neg:=by
  unfold sgn;cases neg with
  | false=>rfl
  | true=>simp[h rfl]
 rw[h2]at h1;rw[h1]
 rfl
theorem TH:A6 (some [(.bool false),(.sl [] .ti)]) []=some (.agg [.bool false,.sl (enL cU []) .ti]):=rfl
theorem build_both {neg:Bool}{es:List (List Ab)}{tk:Tok}:A6 (some [(.bool false),(.sl [] .ti)]) [(0,1,.bool neg),(1,1,.sl es tk)]=some (.agg [.bool neg,.sl es tk]):=by simp[A6,Gy,CZ]
theorem syn_dig {s:List UInt8}(h:N1 s=false):Cy s≠[]/\I6 (Cy s)=(Cy s).length/\((Cy s)[0]?.getD 0=48->s=[48]):=by
 unfold N1 at h;simp only[Yh,X3,beq_eq_false_iff_ne,decide_eq_false_iff_not,ne_eq,Yr,beq_iff_eq]at h;have:=digN_le (Cy s);refine⟨h.1.1,by omega,λh0=>?_⟩;rcases h.2 with h3 | h3
 ·exact absurd h0 h3
 ·exact h3
theorem decV_cons (c:UInt8)(s:List UInt8):I7 (c::s)=(c.toNat-48)*10^s.length+I7 s:=by
 have key:∀(s:List UInt8) (v:Nat),s.foldl (λv c=>v*10+(c.toNat-48)) v=v*10^s.length+I7 s:=by
  intro s
  induction s with
  | nil=>intro v;simp[I7]
  | cons x s ih=>
   intro v;rw[List.foldl_cons,ih,zXj,Nat.pow_succ];have e:I7 (x::s)=(x.toNat-48)*10^s.length+I7 s:=by
    have:=ih (0*10+(x.toNat-48));rw[Ym,VU]at this;unfold I7;rw[List.foldl_cons,Ym,VU];exact this
   rw[e,WF,X0 v 10,Xi 10];omega
 have:=key s (0*10+(c.toNat-48));rw[Ym,VU]at this
 conv=>lhs;unfold I7
 rw[List.foldl_cons,Ym,VU];exact this
theorem decV_ne {s:List UInt8}(h:N1 s=false)(hn:N2 s=true):I7 (Cy s)≠0:=by
 obtain⟨h1,h2,h3⟩:=syn_dig h;cases hd:Cy s with
 | nil=>exact absurd hd h1
 | cons c r=>
  rw[decV_cons];have hc:=T6 h2 c (by rw[hd];simp);rw[F3]at hc;have sF:c.toNat≠48:=λe=>by
   have:c=48:=UInt8.toNat.inj e;have:=h3 (by rw[hd,this];rfl);rw[this]at hn;cases hn
  have:1<=10^r.length:=XV (by omega);have:1<=(c.toNat-48)*10^r.length:=Nat.mul_pos (by omega) this;omega
theorem wrap_i32 {n:Int}(h0:-2147483648<=n)(h:n<=2147483647):IntKind.i32.wrap n=n:=by
 have h1:IntKind.i32.bits=32:=rfl;have h2:IntKind.i32.signed=true:=rfl;unfold IntKind.wrap;simp only[h1,h2,zXn];split <;> rename_i hc <;> simp at hc <;> omega
theorem wrap_dig {c:UInt8}(h:Is c=true):IntKind.i32.wrap ((c.toNat:Int)-48)=((c.toNat-48:Nat):Int):=by
 rw[F3]at h;rw[wrap_i32 (by omega) (by omega)];omega
theorem lims_short2 {n m:Nat}(h:n<10^m)(hm:m<=4096):(AA n).length<=4096:=SV (n:=n) (WP (m:=10^m) h (pow10_up (a:=m) (b:=4096) hm))
theorem q_parse (s:List UInt8)(H:Aa)(hs:s.length<1152921504606846976):Sh.f3q (.str s) H=some (.ret (.tup [big (Da s),.i6 (GE s)]),H):=by
 unfold Sh.f3q;have jA:(Cy s).length<=s.length:=by unfold Cy;split <;> simp
 have rY:=q_cutprefix s (H++[Blk.cel 0 [.bool false,.sl [] .ti]]) hs;have xX:=q_digits (Cy s) 0 (H++[Blk.cel 0 [.bool false,.sl [] .ti]]) (by omega);have pC:(digA (Cy s) 0:Int)=(I6 (Cy s):Int):=by simp[digA]
 rw[pC]at xX;simp only[alloc_eq (cs:=[.bool false,.sl [] .ti]) rfl,Bv,rY,GMw,B1,B8,Ku];have tail:Sh.f6u H (.ptr H.length 0 0) (.str (Cy s)) (.bool (N2 s)) (.bool (N1 s)) (H++[Blk.cel 0 [.bool false,.sl [] .ti]])=some (.ret (.tup [big (Da s),.i6 (GE s)]),H):=by
  unfold Sh.f6u;cases dD:N1 s with
  | true=>
   have hE:GE s=2:=by simp[GE,dD]
   have hZ:Da s=0:=by simp[Da,hE]
   rw[hE,hZ,<-big_zero];simp only[GMw,TH];exact fin_big rfl
  | false=>
   obtain⟨n1,n2,n3⟩:=syn_dig dD;simp only[GMw,Iz];by_cases hl:(Cy s).length>400
   ·have dM:((Cy s).length:Int)>400:=by omega
    have hE:GE s=4:=by simp[GE,dD,hl]
    have hZ:Da s=0:=by simp[Da,hE]
    rw[hE,hZ,<-big_zero];simp only[dM,GMw,TH];exact fin_big rfl
   ·have dM:¬((Cy s).length:Int)>400:=by omega
    have hE:GE s=0:=by simp[GE,dD,hl]
    have hZ:Da s=(if N2 s then -(I7 (Cy s):Int)else I7 (Cy s)):=by simp[Da,hE]
    have hne:=decV_ne dD;have aE:=T6 n2;have hlt:=decV_lt aE;rw[hE,hZ,<-big_of (neg:=N2 s) hne];generalize hd:Cy s=d at *;simp only[dM,GMw];have zA:NU (.str d) (H++[Blk.cel 0 [.bool false,.sl [] .ti]])=some (.ptr (H.length+1) 0 0,H++[.cel 0 [.bool false,.sl [] .ti]]++[.iter d 0]):=by simp[NU]
    simp only[zA,GMw];have hBl:(H++[Blk.cel 0 [.bool false,.sl [] .ti]]).length=H.length+1:=by simp
    obtain⟨tkf,htk⟩:∃tkf:Nat->Tok,tkf=λi=>if i=0 then .ti else .no:=⟨_,rfl⟩
    have key:=Cm (G:=λaA vs H1=>Sh.f3p H aA (ag vs 0) (ag vs 1) (ag vs 2) (ag vs 3) H1) d.length (λi=>[.ptr H.length 0 0,.bool (N2 s),.sl (enL cU (AA (I7 (d.take i)))) (tkf i),.ptr (H.length+1) 0 0])
     (λi=>H++[.cel 0 [.bool false,.sl [] .ti]]++[.iter d i]) (some (.ret (.tup [.agg [.bool (N2 s),.sl (enL cU (AA (I7 d))) .no],.i6 0]),H)) (by omega) (λrec i hi=>?_) (λrec=>?_)
    ·rw[List.take_zero,show I7 []=0 from rfl,EH,htk]at key;exact key
    ·have xW:=aE _ (We hi);have zV:=(F3 _).1 xW;have hnx:=next_dig (B:=H++[Blk.cel 0 [.bool false,.sl [] .ti]]) hi (by omega);rw[hBl]at hnx;have hw:=wrap_dig xW;have hcv:AJ .u32 (.int .i32 ((d[i].toNat-48:Nat):Int))=some (.int .u32 ((d[i].toNat-48:Nat):Int)):=by rw[B3,Do (by omega) (by omega)]
     have kZ:=lims_short2 (hlt i (by omega)) (by omega);have hml:=λH=>q_mul (l:=AA (I7 (d.take i))) (tk:=tkf i) (m:=10) (c:=d[i].toNat-48) H (Bz _) (by omega) (by omega) (by omega);simp only[BA,<-Nt,<-Wb hi,show ((10:Nat):Int)=10 from rfl]at hml;have tQ:tkf (i+1)=.no:=by rw[htk];rfl
     unfold Sh.f3p;simp only[Am,Aj,hnx,GMw,B1,show ∀(x y z:Ab),Aq 2 (.tup [x,y,z])=some z from λ_ _ _=>rfl,show ∀(x y z:Ab),Aq 0 (.tup [x,y,z])=some x from λ_ _ _=>rfl,hw,hcv,hml,tQ]
    ·have hnx:=next_end (B:=H++[Blk.cel 0 [.bool false,.sl [] .ti]]) (d:=d);rw[hBl]at hnx;unfold Sh.f3p;simp only[Am,Aj,hnx,GMw,show ∀(x:Ab),Aq 0 (.tup [x])=some x from λ_=>rfl,build_both,WJ];rw[VZ H];exact fin_big rfl
 by_cases h0:Cy s=[]
 ·have dD:N1 s=true:=by simp[N1,h0]
  rw[dD]at tail;simp only[h0,beq_self_eq_true,GMw,Am,Aj]at tail ⊢;exact tail
 ·have hb:(Cy s == [])=false:=by simpa using h0
  simp only[hb,GMw,xX,Iz];by_cases hlt:I6 (Cy s)<(Cy s).length
  ·have hlt':(I6 (Cy s):Int)<((Cy s).length:Int):=by omega
   have dD:N1 s=true:=by simp[N1,hlt]
   rw[dD]at tail;simp only[hlt',GMw,Am,Aj];exact tail
  ·have hlt':¬(I6 (Cy s):Int)<((Cy s).length:Int):=by omega
   obtain⟨c,r,xZ⟩:=List.exists_cons_of_ne_nil h0;have gF:Es (.str (Cy s)) (.i6 0)=some (.int .u8 (c.toNat:Int)):=by rw[xZ];exact idx_str0
   have dD:N1 s=((c == 48) && !(s == [48])):=by
    simp only[N1,hb,zXd hlt,zXo];rw[xZ]
    rfl
   have hcc:decide ((c.toNat:Int)=48)=(c == 48):=by
    rw[Wo];simp only[zXe,beq_iff_eq];constructor
    ·intro h;exact UInt8.toNat.inj (show c.toNat=(48:UInt8).toNat from by have:(48:UInt8).toNat=48:=rfl;omega)
    ·intro h;rw[h];rfl
   rw[dD]at tail;simp only[hlt',GMw,gF,hcc,bin_sneq];cases lQ:(c == 48)with
   | false=>
    rw[lQ,Xh]at tail;simp only[GMw,Am,Aj];exact tail
   | true=>
    rw[lQ,zXn]at tail;simp only[GMw,Am,Aj];exact tail
def hv (e:Int×List UInt8):Ab:=Tg e.1 e.2
def resE (er:Er)(v:Ab):Res:=match er with
 | none=>.ret v
 | some e=>.pan (hv e)
@[simp] theorem CV (v:Ab):resE none v=.ret v:=(rfl)
@[simp] theorem D3 (e:Int×List UInt8)(v:Ab):resE (some e) v=.pan (hv e):=(rfl)
theorem JR (b:List UInt8)(a:Nat)(s:List UInt8):QI b a s=hv (Oo b a s):=by
 unfold QI hv Oo;split <;> rfl
section
variable {H:Aa}{p a:Nat}{b:List UInt8}{r:List Ab}
theorem SO (h:Lx H p b a r)(s:List UInt8):Sh.f5 (.ptr p 0 0) (.str s) H=some (.pan (hv (Oo b a s)),H):=by
 rw[Nf h,<-JR];rfl
theorem lx_endS (h:Lx H p b a r)(ha:a<=b.length)(hb:b.length<1152921504606846976)(rest:List UInt8)(hr:rest.length<=1000000) :
  Sh.f1g (.ptr p 0 0) (.str rest) H=some (resE (JI b a rest).1 (.tup []),Cg H p b r (JI b a rest).2):=by
 rw[lx_end h ha hb rest hr];unfold endO JI eolN;by_cases e:a=b.length
 ·have hs:=EF h;rw[e]at hs;simp only[e,if_true,CV,hs]
 ·simp only[if_neg e];cases hs:BT b (crN b a) [10]with
  | true=>simp only[if_true,CV]
  | false=>simp only[VY,if_false,D3,JR]
theorem OA (h:Lx H p b a r)(ha:a<=b.length)(hb:b.length<1152921504606846976)(s rest:List UInt8)(hs:s.length<=1000000)(hr:rest.length<=1000000) :
  Sh.fb (.ptr p 0 0) (.str s) (.str rest) H=some (resE (DT b a s rest).1 (.tup []),Cg H p b r (DT b a s rest).2):=by
 rw[lx_must h ha hb s rest hs hr];unfold mustO DT litN;by_cases e:cpN (b.drop a) s<s.length
 ·simp only[if_pos e,D3,JR]
 ·simp only[if_neg e,CV]
theorem lx_ruleS (h:Lx H p b a r)(ha:a<=b.length)(hb:b.length<1152921504606846976)(rest:List UInt8)(hr:rest.length<=1000000) :
  Sh.f1h (.ptr p 0 0) (.str rest) H=some (resE (Ot b a rest).1 (.str ((b.take (Ot b a rest).2).drop a)),Cg H p b r (Ot b a rest).2):=by
 rw[lx_rule h ha hb rest hr];unfold ruleO Ot;by_cases e:HS b a 40 a=a
 ·simp only[e,if_true,D3,JR]
 ·simp only[if_neg e,CV]
theorem numR_S (b:List UInt8)(f:Nat)(rest:List UInt8):∀n a,NX b f rest n a=((Mk b f rest n a).1.map hv,(Mk b f rest n a).2)
 | 0,a=>rfl
 | n+1,a=>by
  rw[NX,Mk];split
  ·split
   ·rw[JR];rfl
   ·split
    ·rfl
    ·exact numR_S b f rest n (a+1)
  ·split
   ·rw[JR];rfl
   ·rfl
theorem lx_lt (h:Lx H p b a r):p<H.length:=by
 rcases W7 p H.length with h' | h'
 ·exact h'
 ·unfold Lx at h;rw[zYb h']at h;cases h
theorem UG {G:Aa}{e:Nat}(h:p<H.length):Cg (H++G) p b r e=Cg H p b r e++G:=by
 unfold Cg;rw[List.set_append_left _ _ h]
theorem lx_num_end (h:Lx H p b a r){f e:Nat}(rU:f<=e)(he:e<=b.length)(hb:b.length<1152921504606846976)(zb:List Ab)(hz:zb.length=2) :
  ∃G,Sh.f23 H (.ptr p 0 0) (.ptr H.length 0 0) (.i6 (f:Int)) (Cg H p b r e++[.cel 0 zb])=some (.ret (big (Da ((b.take e).drop f))),Cg H p b r e++G):=by
 have hx:=GB (a':=e) h;have hl:=setL_len H p e b r;have vE:∀G,Ac false 1 (.ptr p 0 0) (Cg H p b r e++G)=some (.str b):=λG=>lx_b (Lx.push hx);have nR:∀G,Ac false 1 (.ptr p 0 1) (Cg H p b r e++G)=some (.i6 (e:Int)):=λG=>HW (Lx.push hx);unfold Sh.f23;rw[<-hl];generalize Cg H p b r e=K at *;have hq:=λH=>q_parse ((b.take e).drop f) H (by simp only[Ws,Wj];omega);obtain⟨sg,es,sB⟩:∃sg es,big (Da ((b.take e).drop f))=.agg [.bool sg,.sl es .no]:=⟨_,_,QA _⟩;rw[sB]at hq ⊢;refine⟨[.cel 0 [.bool sg,.sl es .no],.cel 0 [.bool sg,.sl es .no]],?_⟩;simp only[GMw,HPw,Nat.reduceAdd,Nat.reduceLT,vE,nR,UB rU he,hq,hz]
 rfl

end
theorem numS_le (b:List UInt8)(f:Nat)(rest:List UInt8):∀n a,a<=b.length->a<=(Mk b f rest n a).2/\(Mk b f rest n a).2<=b.length:=λn a h=>by
 have:=numR_le b f rest n a h;rw[numR_S]at this;exact this
theorem intF_le {b:List UInt8}{a:Nat}(ha:a<=b.length)(neg:Bool):a<=PP b a neg/\PP b a neg<=b.length:=by
 unfold PP;cases neg with
 | false=>exact⟨VV _,ha⟩
 | true=>
  cases hs:BT b a [45]with
  | true=>have:=EU hs;simp;omega
  | false=>simpa using ha
theorem RI {b:List UInt8}{a:Nat}(ha:a<=b.length)(neg:Bool)(rest:List UInt8):a<=(Hw b a neg rest).2/\(Hw b a neg rest).2<=b.length:=by
 unfold Hw;have h1:=intF_le ha neg;have h2:=numS_le b (PP b a neg) rest 402 (PP b a neg) h1.2;split
 ·rename_i h;simp only[Wc]at h;have:=EU h.2;exact⟨Nat.le_succ _,by omega⟩
 ·omega
section
variable {H:Aa}{p a:Nat}{b:List UInt8}{r:List Ab}
theorem Vf (h:Lx H p b a r){f:Nat}(Zt:a<=f)(hf:f<=b.length)(hb:b.length<1152921504606846976)(rest:List UInt8)(hr:rest.length<=1000000)(zb:List Ab)(hz:zb.length=2) :
  ∃G,Sh.f3t H (.ptr p 0 0) (.str rest) (.ptr H.length 0 0) (.i6 (a:Int)) (Cg H p b r f++[.cel 0 zb])=some (resE (Mk b f rest 402 f).1 (big (Da ((b.take (Mk b f rest 402 f).2).drop a))),Cg H p b r (Mk b f rest 402 f).2++G):=by
 have hp:=lx_lt h;have hx:Lx (Cg H p b r f++[.cel 0 zb]) p b f r:=Lx.push (GB h);have key:=lx_num_loop (H0:=H) hx hf hb rest hr (.ptr H.length 0 0) (.i6 (a:Int));have hle:=numS_le b f rest 402 f hf;unfold Sh.f3t;simp only[GMw,HPw,Nat.reduceAdd,Nat.reduceLT,HW hx];rw[key,numR_S];generalize Mk b f rest 402 f=R at *;obtain⟨er,e⟩:=R;have wY:∀G:Aa,Cg (Cg H p b r f++G) p b r e=Cg H p b r e++G:=λG=>by
  rw[UG (by rw[setL_len];exact hp),UF]
 cases er with
 | some v=>
  refine⟨[.cel 0 zb],?_⟩;show some (Res.pan (hv v),Cg _ p b r e)=_;rw[wY];rfl
 | none=>
  obtain⟨G,hG⟩:=lx_num_end h (f:=a) (e:=e) (by dsimp only at hle;omega) hle.2 hb zb hz;refine⟨G,?_⟩;show Sh.f23 H (.ptr p 0 0) (.ptr H.length 0 0) (.i6 (a:Int)) (Cg _ p b r e)=_;rw[wY,hG];rfl
theorem Ve (h:Lx H p b a r)(ha:a<=b.length)(hb:b.length<1152921504606846976)(neg:Bool)(rest:List UInt8)(hr:rest.length<=1000000) :
  ∃G,Sh.f13 (.ptr p 0 0) (.bool neg) (.str rest) H=some (resE (Hw b a neg rest).1 (big (Da ((b.take (Hw b a neg rest).2).drop a))),Cg H p b r (Hw b a neg rest).2++G):=by
 have hx:Lx (H++[.cel 0 [.bool false,.sl [] .ti]]) p b a r:=Lx.push h;have yY:=EF h;unfold Sh.f13;have plain:PP b a neg=a->Hw b a neg rest=Mk b a rest 402 a->∃G,Sh.f3t H (.ptr p 0 0) (.str rest) (.ptr H.length 0 0) (.i6 (a:Int)) (H++[.cel 0 [.bool false,.sl [] .ti]])=some (resE (Hw b a neg rest).1 (big (Da ((b.take (Hw b a neg rest).2).drop a))),Cg H p b r (Hw b a neg rest).2++G):=by
  intro e1 e2;have:=Vf h (VV a) ha hb rest hr [.bool false,.sl [] .ti] rfl;rw[yY]at this;rw[e2];exact this
 cases neg with
 | false=>
  simp only[GMw,HPw,Nat.reduceAdd,Nat.reduceLT,HW hx];exact plain rfl rfl
 | true=>
  simp only[GMw,HPw,Nat.reduceAdd,Nat.reduceLT,HW hx,F0 hx ha];cases hs:BT b a [45]with
  | false=>
   simp only[GMw,HPw,Nat.reduceAdd,Nat.reduceLT];exact plain (by simp[PP,hs]) (by simp[Hw,PP,hs])
  | true=>
   have hlt:=EU hs;have hm:=KD (a':=a) hx (a+1);rw[EF hx]at hm;have hx1:=GB (a':=a+1) hx;have wX:=UG (b:=b) (r:=r) (G:=[.cel 0 [.bool false,.sl [] .ti]]) (e:=a+1) (lx_lt h);simp only[GMw,HPw,Nat.reduceAdd,Nat.reduceLT,HW hx,Au (show a<9223372036854775807 by omega),hm,F0 hx1 (show a+1<=b.length by omega)];have e1:PP b a true=a+1:=by simp[PP,hs]
   cases h0:BT b (a+1) [48]with
   | true=>
    have e2:Hw b a true rest=(some (Oo b (a+1) []),a+1):=by simp[Hw,hs,h0]
    rw[e2];refine⟨[.cel 0 [.bool false,.sl [] .ti]],?_⟩;simp only[GMw,HPw,Nat.reduceAdd,Nat.reduceLT,SO hx1];rw[wX];rfl
   | false=>
    have e2:Hw b a true rest=Mk b (a+1) rest 402 (a+1):=by simp[Hw,hs,h0,e1]
    rw[e2];have:=Vf h (f:=a+1) (by omega) hlt hb rest hr [.bool false,.sl [] .ti] rfl;simp only[GMw,HPw,Nat.reduceAdd,Nat.reduceLT];rw[wX];exact this

end
section
variable {H:Aa}{b:List UInt8}{a:Nat}
theorem Ext.push (b id:Nat)(hb:b<=H.length)(G:Aa):Ext b id H (H++G):=
 ⟨by simp,λi c hi hc=>A0 hc,λi hi=>VR (by omega)⟩
theorem HV {s rest:List UInt8}(ha:a<=b.length):(DT b a s rest).2<=b.length:=litN_le ha s
theorem rulS_le {rest:List UInt8}(ha:a<=b.length):a<=(Ot b a rest).2/\(Ot b a rest).2<=b.length:=ruleN_le 40 a ha
theorem anyN_le (ha:a<=b.length):QD b a<=b.length:=by
 unfold QD;have:=(Y3 (l:=b.drop a) λc=>!([13,10]:List UInt8).contains c).length_le;rw[Ws]at this;omega

end
theorem RN {b:List UInt8}{a:Nat}(ha:a<=b.length)(rest:List UInt8):a<=(JI b a rest).2/\(JI b a rest).2<=b.length:=by
 refine⟨?_,eolN_le ha⟩;show a<=eolN b a;unfold eolN crN;split
 ·exact VV _
 ·split <;> split <;> omega
theorem Nb {r:Nat}(h:r<10):(UInt8.ofNat (48+r)).toNat=48+r:=Xu (show 48+r<256 by omega)
theorem decV_decN (n:Nat):I7 (Dj n)=n:=by
 induction n using Nat.strongRecOn with
 | ind n ih=>
  by_cases hn:n<10
  ·rw[HD hn];have:=Nt [] (UInt8.ofNat (48+n));rw[List.nil_append,Nb hn,show I7 []=0 from rfl]at this;rw[this];omega
  ·rw[T7 hn,Nt,ih (n / 10) (by omega),Nb (Xz _ (by omega))];omega
theorem Pf (n:Nat):∀c∈Dj n,Is c=true:=by
 induction n using Nat.strongRecOn with
 | ind n ih=>
  intro c hc;by_cases hn:n<10
  ·rw[HD hn,Wm]at hc;rw[hc,F3,Nb hn];omega
  ·rw[T7 hn]at hc;rcases Wn.1 hc with h | h
   ·exact ih (n / 10) (by omega) c h
   ·have:=Xz n (show 10>0 by omega);rw[Wm.1 h,F3,Nb this];omega
theorem all_digN {s:List UInt8}(h:∀c∈s,Is c=true):I6 s=s.length:=by
 induction s with
 | nil=>rfl
 | cons c s ih=>rw[Qu,if_pos (h c (by simp)),ih λx hx=>h x (by simp[hx])];rfl
theorem parse_ok {s:List UInt8}(h:GE s=0):N1 s=false/\(Cy s).length<=400:=by
 unfold GE at h;cases hs:N1 s with
 | true=>rw[hs]at h;simp at h
 | false=>
  rw[hs]at h;simp only[VY,if_false]at h;refine⟨rfl,?_⟩;split at h
  ·cases h
  ·omega
theorem pow10_pos (k:Nat):Int.natAbs 0<10^k:=XV (by omega)
theorem Na (s:List UInt8):(Da s).natAbs<10^400:=by
 unfold Da;split
 ·rename_i h;obtain⟨h1,h2⟩:=parse_ok h;have aE:=T6 (syn_dig h1).2.1;have:=decV_lt aE (Cy s).length (VV _);rw[WJ]at this;have h3:=WP this (pow10_up h2);split
  ·rw[Int.natAbs_neg,Int.natAbs_natCast];exact h3
  ·rw[Int.natAbs_natCast];exact h3
 ·exact pow10_pos 400
theorem decZ_sgn (z:Int):N2 (G7 z)=decide (z<0)/\Cy (G7 z)=Dj z.natAbs:=by
 unfold G7;by_cases h:z<0
 ·rw[if_pos h,zXc h];exact⟨rfl,rfl⟩
 ·rw[if_neg h,zXd h];have hb:N2 (Dj z.natAbs)=false:=by
   cases hd:Dj z.natAbs with
   | nil=>rfl
   | cons c r=>
    have:=(F3 c).1 (Pf z.natAbs c (by rw[hd];simp));simp only[N2,beq_eq_false_iff_ne];intro e;rw[e]at this;have tF:(45:UInt8).toNat=45:=rfl;omega
  exact⟨hb,by simp[Cy,hb]⟩
theorem syn_text (z:Int):N1 (G7 z)=false:=by
 obtain⟨h1,h2⟩:=decZ_sgn z;have aE:=Pf z.natAbs;have hp:=decN_pos z.natAbs;have hd:=all_digN aE;unfold N1;rw[h2,hd,zXd (Nat.lt_irrefl _),zXp];have hne:(Dj z.natAbs == [])=false:=by
  cases lO:Dj z.natAbs with
  | nil=>rw[lO]at hp;simp at hp
  | cons c r=>rfl
 rw[hne,zXo];by_cases h0:z.natAbs=0
 ·have:z=0:=by omega
  subst this;rw[decZ_zero];simp
 ·obtain⟨c,r,hc,lQ⟩:=Qw z.natAbs h0;rw[hc];have:(c == 48)=false:=by simpa using lQ
  simp[this]
theorem SA {z:Int}(h:(Dj z.natAbs).length<=400):GE (G7 z)=0/\Da (G7 z)=z:=by
 obtain⟨h1,h2⟩:=decZ_sgn z;have hE:GE (G7 z)=0:=by
  unfold GE;rw[syn_text,h2];simp only[VY,if_false];rw[if_neg (by omega)]
 refine⟨hE,?_⟩;unfold Da;rw[if_pos hE,h1,h2,decV_decN];by_cases hz:z<0
 ·rw[zXc hz];simp only[if_true];omega
 ·rw[zXd hz];simp only[VY,if_false];omega
theorem SK {b:List UInt8}{a:Nat}(s rest:List UInt8):a<=(DT b a s rest).2:=Nat.le_add_right a (cpN (b.drop a) s)
theorem DX {b t:List UInt8}{a:Nat}{c:UInt8}(h:b.drop a=c::t):a<b.length/\b[a]? = some c/\b.drop (a+1)=t:=by
 have hl:a<b.length:=by
  rcases W7 a b.length with h' | h'
  ·exact h'
  ·rw[Xn h']at h;cases h
 rw[Ww hl]at h;injection h with h1 h2;exact⟨hl,by rw[VO hl,h1],h2⟩
theorem BR {b t:List UInt8}{a:Nat}{c:UInt8}(h:b.drop a=c::t)(s:List UInt8):BT b a s=s.contains c:=by
 unfold BT;rw[(DX h).2.1]
theorem EE {b s t:List UInt8}{a:Nat}(h:b.drop a=s++t):b.drop (a+s.length)=t:=by
 rw[<-WY,h,Ye]
theorem must_one {b t:List UInt8}{a:Nat}{c:UInt8}(h:b.drop a=c::t)(rest:List UInt8):DT b a [c] rest=(none,a+1):=by
 have h1:cpN (b.drop a) [c]=1:=by
  rw[h];show (if c=c then cpN t []+1 else 0)=1;rw[if_pos rfl];cases t <;> rfl
 unfold DT litN;rw[h1]
 rfl
theorem end_lf {b t:List UInt8}{a:Nat}(h:b.drop a=10::t)(rest:List UInt8):JI b a rest=(none,a+1):=by
 have hne:a≠b.length:=by have:=(DX h).1;omega
 have h13:BT b a [13]=false:=by rw[BR h];decide
 have h10:BT b a [10]=true:=by rw[BR h];decide
 unfold JI eolN crN;simp only[h13,h10,if_neg hne,VY,if_false,if_true]
theorem rule_run {b rule t:List UInt8}{f:Nat}(h:b.drop f=rule++10::t)(hs:rule.all LW=true)(tG:rule.length<=40):∀n k,k<=rule.length->rule.length-k<=n->HS b f n (f+k)=f+rule.length
 | 0,k,h1,h2=>by
  have:k=rule.length:=by omega
  rw[this];rfl
 | n+1,k,h1,h2=>by
  have iB:b[f+k]? = (rule++10::t)[k]? := by rw[<-h,W8]
  by_cases hk:k<rule.length
  ·rw[VR hk,VO hk]at iB;have ho:onB b f (f+k)=true:=by
    unfold onB;rw[iB];dsimp only;rw[Wi]at hs;rw[hs _ (We hk),zXc (by omega)];rfl
   rw[HS,ho,if_pos rfl,WD];exact rule_run h hs tG n (k+1) hk (by omega)
  ·have e:k=rule.length:=by omega
   subst e;have iB:b[f+rule.length]? = some 10:=by rw[iB];simp
   have ho:onB b f (f+rule.length)=false:=by
    unfold onB;rw[iB];dsimp only;rw[show LW 10=false from by decide,Bool.and_false]
   rw[HS,ho];rfl
theorem num_run {b ds t:List UInt8}{f:Nat}{c:UInt8}(rest:List UInt8)(h:b.drop f=ds++c::t)(hd:∀x∈ds,Kg.contains x=true)(hc:Kg.contains c=false)(h4:ds.length<=400)(h0:0<ds.length)(h1:ds[0]? = some 48->ds.length=1) :
  ∀(n i:Nat),i<=ds.length->ds.length-i<n->Mk b f rest n (f+i)=(none,f+ds.length):=by
 intro n
 induction n with
 | zero=>intro i _ h;omega
 | succ n ih=>
  intro i hi hn;have hb:b.drop (f+i)=ds.drop i++c::t:=by
   rw[<-WY,h,XH hi]
  conv=>lhs;unfold Mk
  by_cases he:i=ds.length
  ·subst he;rw[YT,List.nil_append]at hb;rw[BR hb,hc,if_neg (by decide),if_neg (by omega)]
  ·have hlt:i<ds.length:=by omega
   rw[Ww hlt]at hb;rw[BR hb,hd _ (We hlt),if_pos rfl,if_neg (λhh=>by
    have hf:b[f]? = ds[0]? := by
     have:=congrArg (·[0]?) h;simp only[W8,Nat.add_zero]at this;rw[this,VR h0]
    have:=h1 (hf ▸ hh.2);omega),if_neg (by omega),WD]
   exact ih (i+1) (by omega) (by omega)
theorem V9 (n:Nat):∀x∈Dj n,Kg.contains x=true:=λx hx=>by
 have:=(F3 x).1 (Pf n x hx);unfold Kg;rw[digs_mem,zXe];omega
theorem M0 {n:Nat}(h:(Dj n)[0]? = some 48):(Dj n).length=1:=by
 by_cases h0:n=0
 ·subst h0;rw[HD (by omega)];rfl
 ·obtain⟨c,r,e,hc⟩:=Qw n h0;rw[e]at h;simp at h;exact absurd h hc
theorem dec_read {b t:List UInt8}{a:Nat}{z:Int}{c:UInt8}(rest:List UInt8)(h:b.drop a=G7 z++c::t)(hc:Kg.contains c=false)(h4:(Dj z.natAbs).length<=400):Hw b a true rest=(none,a+(G7 z).length):=by
 have hp:=decN_pos z.natAbs;unfold G7 at h ⊢;unfold Hw PP;by_cases hz:z<0
 ·rw[if_pos hz]at h ⊢;rw[List.cons_append]at h;have h2:=(DX h).2.2;have hne:BT b (a+1) [48]=false:=by
   obtain⟨c0,r0,e,cJ⟩:=Qw z.natAbs (by omega);rw[e,List.cons_append]at h2;rw[BR h2];simpa using cJ
  rw[BR h,hne];have:=num_run rest h2 (V9 _) hc h4 hp M0 402 0 (Wv _) (by omega);rw[Nat.add_zero]at this;simp only[List.contains_cons,beq_self_eq_true,XB,Bool.and_false,VY,if_false,zXn,if_true,zXj];rw[this];congr 1;omega
 ·rw[if_neg hz]at h ⊢;have tF:BT b a [45]=false:=by
   cases e:Dj z.natAbs with
   | nil=>rw[e]at hp;simp at hp
   | cons x r=>
    rw[e,List.cons_append]at h;rw[BR h];have:=(F3 x).1 (Pf z.natAbs x (by rw[e];exact XS));have:x≠45:=λhx=>by subst hx;simp at this
    simpa using this
  rw[tF];have:=num_run rest h (V9 _) hc h4 hp M0 402 0 (Wv _) (by omega);rw[Nat.add_zero]at this;simp only[Bool.and_false,Xh,VY,if_false];exact this
theorem cpN_app:∀(s t:List UInt8),cpN (s++t) s=s.length
 | [],[]=>rfl
 | [],_::_=>rfl
 | c::s,t=>by
  show (if c=c then cpN (s++t) s+1 else 0)=_;rw[if_pos rfl,cpN_app s t];rfl
theorem SJ {b s t:List UInt8}{a:Nat}(h:b.drop a=s++t)(rest:List UInt8):DT b a s rest=(none,a+s.length):=by
 unfold DT litN;rw[h,cpN_app,if_neg (by omega)]
theorem cut_at {b s t:List UInt8}{a:Nat}(h:b.drop a=s++t):(b.take (a+s.length)).drop a=s:=by
 rw[List.drop_take,h,Nat.add_sub_cancel_left,Yc]
theorem last_same {l m:List Cl}(hl:∀c∈l,c.s=1)(hm:∀c∈m,c.s=1)(h:∀c,c∈l↔c∈m):CO l=CO m:=by
 have key:∀(l:List Cl),(∀c∈l,c.s=1)->∀z,z∈CO l↔z∈l:=λl hl z=>by
  obtain⟨_,f2⟩:=Gw l [] List.Pairwise.nil;show z∈l.foldl Ch []↔_;rw[f2 z,Wx];constructor
  ·intro hz;have:=List.mem_of_mem_head? (Option.mem_def.2 hz);simpa using (WO.1 this).1
  ·intro hz;cases hf:l.reverse.filter (BC ltC z)with
   | nil=>
    have:z∈l.reverse.filter (BC ltC z):=WO.2 ⟨by simpa using hz,Mv J9 z⟩;rw[hf]at this;cases this
   | cons c r=>
    have hc:c∈l.reverse.filter (BC ltC z):=by rw[hf];exact XS
    obtain⟨c1,c2⟩:=WO.1 hc;obtain⟨e1,e2⟩:=Ic.1 c2;have e3:=hl c (by simpa using c1);have e4:=hl z hz;have:c=z:=by
     obtain⟨cx,cy,cs⟩:=c;obtain⟨zx,zy,zs⟩:=z;simp only at e1 e2 e3 e4;subst e1 e2 e3 e4;rfl
    rw[this];rfl
 refine NQ J9 _ _ (Gw l [] List.Pairwise.nil).1 (Gw m [] List.Pairwise.nil).1 λz=>?_;rw[key l hl,key m hm];exact h z
theorem of07_same {l m:List Cl}(hl:∀c∈l,c.s=1)(hm:∀c∈m,c.s=1)(h:∀c,c∈l↔c∈m):D8 l=D8 m:=by
 unfold D8 Bb;rw[last_same hl hm h]
def Jf (rec:Int->Int->Int->List Cl)(v:Nat)(x:Nd)(a b:Int)(k:Nat):List Cl:=
 if 1<x.lv then rec (x.kid k) (qa v a k) (qb v b k)else if 0<x.kid k then [⟨qa v a k,qb v b k,UInt8.ofNat (x.kid k).toNat⟩]else []
def Fj (L:List Nd):Nat->Int->Int->Int->List Cl
 | 0,_,_,_=>[]
 | v+1,n,x,y=>if n=0 then []else (List.range 4).flatMap λk=>Jf (Fj L v) (v+1) (A9 L n) x y k
theorem Gz (L:List Nd)(v:Nat)(x y:Int):Fj L v 0 x y=[]:=by cases v <;> simp[Fj]
def HN (L:List Nd):Int:=-(2^((Bn L).toNat-1))
def GP (L:List Nd):List Cl:=Fj L (Bn L).toNat L.length (HN L) (HN L)
def Db:Nat->QT->Int->Int->List Cl
 | 0,_,_,_=>[]
 | v+1,t,x,y=>(List.range 4).flatMap λk=>if v=0 then (if 0<t.s k then [⟨qa 1 x k,qb 1 y k,UInt8.ofNat (t.s k).toNat⟩]else [])else Db v (t.q k) (qa (v+1) x k) (qb (v+1) y k)
theorem Je:∀(v:Nat) (x y:Int),Db v .nil x y=[]
 | 0,_,_=>rfl
 | v+1,x,y=>by
  unfold Db;rw[List.flatMap_eq_nil_iff];intro k _;split
  ·rfl
  ·exact Je v _ _
theorem Pi {L:List Nd}(hl:AB L=true):∀(v n:Nat) (x y:Int),Lv L v n->Fj L v (n:Int) x y=Db v (sem L v n) x y
 | 0,n,x,y,h=>rfl
 | v+1,n,x,y,h=>by
  rcases Xk n with h0 | h0
  ·subst h0;rw[FP,Je];exact Gz L _ x y
  ·obtain⟨aJ,_⟩:=h.num h0 hl;unfold Fj Db;rw[if_neg (by omega)];have key:∀k∈List.range 4,Jf (Fj L v) (v+1) (A9 L (n:Int)) x y k=(if v=0 then (if 0<(sem L (v+1) n).s k then [⟨qa 1 x k,qb 1 y k,UInt8.ofNat ((sem L (v+1) n).s k).toNat⟩]else [])else Db v ((sem L (v+1) n).q k) (qa (v+1) x k) (qb (v+1) y k)):=by
    intro k hk;have bQ:k<4:=by simpa using hk
    unfold Jf;by_cases hv:v=0
    ·subst hv;have h1:¬1<(A9 L (n:Int)).lv:=by omega
     rw[if_neg h1,if_pos rfl,sem_s1 hl h0 h h1 bQ]
    ·have h1:1<(A9 L (n:Int)).lv:=by omega
     obtain⟨k1,k2,k3⟩:=Lv.kid hl h0 h h1 bQ;rw[if_pos h1,if_neg hv,So hl h0 h h1 bQ,<-Pi hl v _ _ _ k1,XD k3]
   have:∀(l:List Nat) (f g:Nat->List Cl),(∀k∈l,f k=g k)->l.flatMap f=l.flatMap g:=λl f g h=>by
    induction l with
    | nil=>rfl
    | cons a l ih=>rw[XN,XN,h a (by simp),ih λk hk=>h k (by simp[hk])]
   exact this _ _ _ key
theorem flat4 {α:Type}(f:Nat->List α):(List.range 4).flatMap f=f 0++(f 1++(f 2++f 3)):=by rw[show List.range 4=[0,1,2,3] from rfl];simp
theorem holT_nil {t:QT}(h:OJ t=true){k j:Nat}(hk:k<4)(hj:j<4)(hne:j≠3-k)(v:Nat)(x y:Int):Db v ((t.q k).q j) x y=[]:=by rw[(holT_at h hk hj hne).1,Je]
theorem Ov {t:QT}(h:OJ t=true){k:Nat}(hk:k<4)(v:Nat)(x y:Int) :
  Db (v+1) (t.q k) x y=if v=0 then (if 0<(t.q k).s (3-k)then [⟨qa 1 x (3-k),qb 1 y (3-k),UInt8.ofNat ((t.q k).s (3-k)).toNat⟩]else [])else Db v ((t.q k).q (3-k)) (qa (v+1) x (3-k)) (qb (v+1) y (3-k)):=by
 have hs:∀j,j<4->j≠3-k->(t.q k).s j=0:=λj hj hne=>(holT_at h hk hj hne).2;have hq:∀j,j<4->j≠3-k->∀X Y,Db v ((t.q k).q j) X Y=[]:=λj hj hne X Y=>holT_nil h hk hj hne v X Y;show (List.range 4).flatMap _=_;rw[flat4];by_cases hv:v=0
 ·subst hv;simp only[if_true]
  match k,hk with
  | 0,_=>simp[hs 0 (by omega) (by omega),hs 1 (by omega) (by omega),hs 2 (by omega) (by omega)]
  | 1,_=>simp[hs 0 (by omega) (by omega),hs 1 (by omega) (by omega),hs 3 (by omega) (by omega)]
  | 2,_=>simp[hs 0 (by omega) (by omega),hs 3 (by omega) (by omega),hs 2 (by omega) (by omega)]
  | 3,_=>simp[hs 3 (by omega) (by omega),hs 1 (by omega) (by omega),hs 2 (by omega) (by omega)]
 ·simp only[if_neg hv]
  match k,hk with
  | 0,_=>simp[hq 0 (by omega) (by omega),hq 1 (by omega) (by omega),hq 2 (by omega) (by omega)]
  | 1,_=>simp[hq 0 (by omega) (by omega),hq 1 (by omega) (by omega),hq 3 (by omega) (by omega)]
  | 2,_=>simp[hq 0 (by omega) (by omega),hq 3 (by omega) (by omega),hq 2 (by omega) (by omega)]
  | 3,_=>simp[hq 3 (by omega) (by omega),hq 1 (by omega) (by omega),hq 2 (by omega) (by omega)]
theorem Ir {v k:Nat}(hk:k<4)(x:Int):qa (v+1) (qa (v+2) x k) (3-k)=qa (v+1) (x+2^v) k/\qb (v+1) (qb (v+2) x k) (3-k)=qb (v+1) (x+2^v) k:=by
 have e:(2:Int)^(v+1)=2^v*2:=Xv _ _;unfold qa qb;simp only[show v+2-1=v+1 from rfl,Wl,e];generalize (2:Int)^v=p
 match k,hk with
 | 0,_=>simp
 | 1,_=>simp;omega
 | 2,_=>simp;omega
 | 3,_=>simp;omega
theorem cells_inner {v:Nat}{t:QT}(h:OJ t=true)(x y:Int):Db (v+2) t x y=Db (v+1) (In (v+2) t) (x+2^v) (y+2^v):=by
 have e1:Db (v+2) t x y=(List.range 4).flatMap λk=>Db (v+1) (t.q k) (qa (v+2) x k) (qb (v+2) y k):=by
  show (List.range 4).flatMap _=_;simp only[show ¬v+1=0 from by omega,if_false]
 rw[e1,flat4,Ov h (by omega),Ov h (by omega),Ov h (by omega),Ov h (by omega)];show _=(List.range 4).flatMap _;rw[flat4];by_cases hv:v=0
 ·subst hv;simp only[if_true];rw[(Ir (v:=0) (show 0<4 by omega) x).1,(Ir (v:=0) (show 0<4 by omega) y).2,(Ir (v:=0) (show 1<4 by omega) x).1,(Ir (v:=0) (show 1<4 by omega) y).2,
   (Ir (v:=0) (show 2<4 by omega) x).1,(Ir (v:=0) (show 2<4 by omega) y).2,(Ir (v:=0) (show 3<4 by omega) x).1,(Ir (v:=0) (show 3<4 by omega) y).2]
  rfl
 ·simp only[if_neg hv];rw[(Ir (v:=v) (show 0<4 by omega) x).1,(Ir (v:=v) (show 0<4 by omega) y).2,(Ir (v:=v) (show 1<4 by omega) x).1,(Ir (v:=v) (show 1<4 by omega) y).2,
   (Ir (v:=v) (show 2<4 by omega) x).1,(Ir (v:=v) (show 2<4 by omega) y).2,(Ir (v:=v) (show 3<4 by omega) x).1,(Ir (v:=v) (show 3<4 by omega) y).2]
  unfold In;rw[if_neg (by omega)]
  rfl
def crn (v:Nat):Int:=-(2^(v-1))
theorem VE:∀(v:Nat) (t:QT),G8 v t->t≠.nil->Db (Ig v t).1 (Ig v t).2 (crn (Ig v t).1) (crn (Ig v t).1)=Db v t (crn v) (crn v)
 | 0,t,_,_=>rfl
 | v+1,t,hg,hn=>by
  unfold Ig;cases hh:OJ t with
  | false=>rfl
  | true=>
   simp only[if_true];obtain⟨g1,g2⟩:=Ms hg hh;rw[VE v _ g1 g2];obtain⟨u,rfl⟩:∃u,v=u+1:=⟨v-1,by
    rcases hg.kind with h | ⟨h1,h2,_⟩ | ⟨h1,_⟩
    ·exact absurd h hn
    ·simp only[OJ,h2,Xh]at hh;cases hh
    ·omega⟩
   rw[cells_inner hh];have e:crn (u+2)+2^u=crn (u+1):=by
    unfold crn;have e:(2:Int)^(u+1)=2^u*2:=Xv _ _;simp only[show u+2-1=u+1 from rfl,Wl,e];omega
   rw[e]
def OneP (S:List Cl):Prop:=∀a∈S,∀b∈S,a.x=b.x->a.y=b.y->a=b
theorem sq0 {a b:Int}{c:Cl}(h:Fs 0 a b c):c.x=a/\c.y=b:=by
 unfold Fs at h;simp only[Int.pow_zero]at h;omega
theorem u8_back (s:UInt8):UInt8.ofNat ((s.toNat:Int).toNat)=s:=by simp
theorem Tf (d:Cl)(r:List Cl):FS (d::r)=(d.s.toNat:Int):=rfl
theorem U6:∀(v:Nat) (x y:Int) (S:List Cl),(∀c∈S,Fs v x y c)->(∀c∈S,c.s≠0)->OneP S->(S≠[]->1<=v)->∀c,c∈Db v (Gp v x y S) x y↔c∈S
 | 0,x,y,S,h1,h2,h3,h4,c=>by
  have:S=[]:=Classical.byContradiction λh=>by have:=h4 h;omega
  subst this;simp[Db]
 | v+1,x,y,S,h1,h2,h3,h4,c=>by
  by_cases hS:S=[]
  ·subst hS;rw[U5,Je]
  ·have sub:∀k,∀d∈Bo (v+1) x y k S,d∈S:=λk d hd=>(WO.1 hd).1;by_cases hv:v=0
   ·subst hv;have hs:∀k,k<4->(Gp 1 x y S).s k=FS (Bo 1 x y k S):=by
     intro k hk;unfold Gp;rw[if_neg hS,if_pos rfl]
     match k,hk with
     | 0,_=>rfl
     | 1,_=>rfl
     | 2,_=>rfl
     | 3,_=>rfl
    unfold Db;rw[XG];constructor
    ·rintro⟨k,hk,hc⟩;have bQ:k<4:=by simpa using hk
     rw[if_pos rfl,hs k bQ]at hc;split at hc
     ·rename_i hp;cases hq:Bo 1 x y k S with
      | nil=>rw[hq]at hp;exact absurd hp (by decide)
      | cons d r=>
       have hd:d∈Bo 1 x y k S:=by rw[hq];exact XS
       have zW:=sub k d hd;obtain⟨e1,e2⟩:=sq0 (Mg (v:=0) hd);rw[hq,Tf,u8_back,Wm]at hc;have:c=d:=by rw[hc,<-e1,<-e2]
       rw[this];exact zW
     ·cases hc
    ·intro hc;obtain⟨k,hk,cG⟩:=KK (v:=0) (h1 c hc);refine⟨k,by simpa using hk,?_⟩;rw[if_pos rfl,hs k hk];have yA:c∈Bo 1 x y k S:=WO.2 ⟨hc,inQ_sq.2 cG⟩;cases hq:Bo 1 x y k S with
     | nil=>rw[hq]at yA;cases yA
     | cons d r=>
      have hd:d∈Bo 1 x y k S:=by rw[hq];exact XS
      obtain⟨e1,e2⟩:=sq0 (Mg (v:=0) hd);obtain⟨e3,e4⟩:=sq0 cG;have vT:d=c:=h3 d (sub k d hd) c hc (by rw[e1,e3]) (by rw[e2,e4]);subst vT;have hp:(0:Int)<(d.s.toNat:Int):=by
       have:=h2 d hc;have:d.s.toNat≠0:=λh=>this (Xp.1 (by simpa using h));omega
      rw[Tf,if_pos hp,u8_back,Wm,<-e1,<-e2]
   ·have hq:∀k,k<4->(Gp (v+1) x y S).q k=Gp v (qa (v+1) x k) (qb (v+1) y k) (Bo (v+1) x y k S):=by
     intro k hk
     conv=>lhs;unfold Gp
     rw[if_neg hS,if_neg hv]
     match k,hk with
     | 0,_=>rfl
     | 1,_=>rfl
     | 2,_=>rfl
     | 3,_=>rfl
    have ih:∀k,∀d,d∈Db v (Gp v (qa (v+1) x k) (qb (v+1) y k) (Bo (v+1) x y k S)) (qa (v+1) x k) (qb (v+1) y k)↔d∈Bo (v+1) x y k S:=λk=>
     U6 v _ _ _ (λd hd=>Mg hd) (λd hd=>h2 d (sub k d hd)) (λa ha b hb=>h3 a (sub k a ha) b (sub k b hb)) (λ_=>by omega)
    unfold Db;rw[XG];constructor
    ·rintro⟨k,hk,hc⟩;have bQ:k<4:=by simpa using hk
     rw[if_neg hv,hq k bQ]at hc;exact sub k c ((ih k c).1 hc)
    ·intro hc;obtain⟨k,hk,cG⟩:=KK (h1 c hc);refine⟨k,by simpa using hk,?_⟩;rw[if_neg hv,hq k hk];exact (ih k c).2 (WO.2 ⟨hc,inQ_sq.2 cG⟩)
theorem strC_one {S:List Cl}(h:Rz S):OneP S:=by
 intro a ha b hb hx hy;have h1:=(Se h a).1 ha;have h2:=(Se h b).1 hb;have:BC ltC a=BC ltC b:=Tp J9 (Ic.2 ⟨hx,hy⟩);rw[this,h2]at h1;injection h1 with h1;exact h1.symm
theorem lastAll_str (l:List Cl):Rz (CO l):=(Gw l [] List.Pairwise.nil).1
theorem lastL_str (l:List Cl):Rz (Bb l):=(lastAll_str l).filter _
theorem K4 {l:List Cl}(hv:A3 (Bb l)<=1329):(∀c,c∈GP (D8 l).1↔c∈Bb l)/\((D8 l).1=[]↔Bb l=[])/\D7 (D8 l).1=true/\(D8 l).2=0:=by
 have hs:∀c∈Bb l,c.s≠0:=λc h=>OF h;have hg:=TB hs hv;have ho:=lastL_str l;rw[SI,if_neg (by omega)];have cD:=(IV (Bb l)).1;have bO:=U6 (A3 (Bb l)) _ _ (Bb l) (λc hc=>MU cD (JZ hv c hc)) hs (strC_one ho) (λ_=>cD);obtain⟨hr,aG⟩:=Pm hg;refine⟨?_,?_,hr,rfl⟩
 ·by_cases ht:Kh (Bb l)=.nil
  ·have e:Ex (A3 (Bb l)) (Kh (Bb l))=[]:=by unfold Ex;rw[if_pos ht]
   intro c;dsimp only;rw[e,<-bO c];have:Gp (A3 (Bb l)) (-(2^(A3 (Bb l)-1))) (-(2^(A3 (Bb l)-1))) (Bb l)=.nil:=ht;rw[this,Je];unfold GP;simp only[zXk];rw[show (((0:Nat):Int))=0 from rfl,Gz]
  ·obtain⟨c1,c2,c3,c4⟩:=aG ht;intro c;have kZ:=VE _ _ hg ht;rw[<-bO c];show c∈GP (Ex (A3 (Bb l)) (Kh (Bb l)))↔c∈Db (A3 (Bb l)) (Kh (Bb l)) (crn (A3 (Bb l))) (crn (A3 (Bb l)));rw[<-kZ,<-c4];obtain⟨q1,q2⟩:=c3.num c2 c1.lo;generalize Ex (A3 (Bb l)) (Kh (Bb l))=Q at c1 c2 c3 c4 q1;have eZ:(Bn Q).toNat=(Ig (A3 (Bb l)) (Kh (Bb l))).1:=by unfold Bn;omega
   unfold GP HN;rw[eZ,Pi c1.lo _ _ _ _ c3]
   rfl
 ·dsimp only;constructor
  ·intro h;by_cases ht:Kh (Bb l)=.nil
   ·refine Classical.byContradiction λhne=>?_;obtain⟨w,hw⟩:∃w,A3 (Bb l)=w+1:=⟨A3 (Bb l)-1,by omega⟩;unfold Kh at ht;rw[hw]at ht;exact treeC_ne hne ht
   ·obtain⟨c1,c2,c3,c4⟩:=aG ht;rw[h]at c2;simp at c2
  ·intro h;rw[h];unfold Ex Kh;rw[U5,if_pos rfl]
theorem inSq_up {v k:Nat}{x y:Int}{c:Cl}(hk:k<4)(h:Fs v (qa (v+1) x k) (qb (v+1) y k) c):Fs (v+1) x y c:=by
 have e:(2:Int)^(v+1)=2^v*2:=Xv _ _;have hp:(0:Int)<2^v:=XA (by omega);unfold Fs qa qb at *;simp only[Wl,e]at *;generalize (2:Int)^v=p at *
 match k,hk with
 | 0,_=>simp at h;omega
 | 1,_=>simp at h;omega
 | 2,_=>simp at h;omega
 | 3,_=>simp at h;omega
theorem inSq_one {v k j:Nat}{x y:Int}{c:Cl}(hk:k<4)(hj:j<4)(h:Fs v (qa (v+1) x k) (qb (v+1) y k) c)(h2:Fs v (qa (v+1) x j) (qb (v+1) y j) c):k=j:=by
 unfold Fs qa qb at *;simp only[Wl]at *;generalize (2:Int)^v=p at *
 match k,hk,j,hj with
 | 0,_,0,_=>rfl
 | 1,_,1,_=>rfl
 | 2,_,2,_=>rfl
 | 3,_,3,_=>rfl
 | 0,_,1,_=>simp at h h2;omega
 | 0,_,2,_=>simp at h h2;omega
 | 0,_,3,_=>simp at h h2;omega
 | 1,_,0,_=>simp at h h2;omega
 | 1,_,2,_=>simp at h h2;omega
 | 1,_,3,_=>simp at h h2;omega
 | 2,_,0,_=>simp at h h2;omega
 | 2,_,1,_=>simp at h h2;omega
 | 2,_,3,_=>simp at h h2;omega
 | 3,_,0,_=>simp at h h2;omega
 | 3,_,1,_=>simp at h h2;omega
 | 3,_,2,_=>simp at h h2;omega
def pieceT (v:Nat)(t:QT)(x y:Int)(k:Nat):List Cl:=if v=0 then (if 0<t.s k then [⟨qa 1 x k,qb 1 y k,UInt8.ofNat (t.s k).toNat⟩]else [])else Db v (t.q k) (qa (v+1) x k) (qb (v+1) y k)
theorem cellsT_piece (v:Nat)(t:QT)(x y:Int):Db (v+1) t x y=(List.range 4).flatMap (pieceT v t x y):=rfl
theorem Q1:∀(v:Nat) (t:QT) (x y:Int),∀c∈Db v t x y,Fs v x y c
 | 0,t,x,y,c,h=>by cases h
 | v+1,t,x,y,c,h=>by
  rw[cellsT_piece,XG]at h;obtain⟨k,hk,hc⟩:=h;have bQ:k<4:=by simpa using hk
  refine inSq_up bQ ?_;unfold pieceT at hc;split at hc
  ·rename_i hv;subst hv;split at hc
   ·rw[Wm]at hc;subst hc;unfold Fs;simp;omega
   ·cases hc
  ·exact Q1 v _ _ _ c hc
theorem canonL_len {L:List Nd}{n:Nat}(hL:L.length<3518437200000)(hl:AB L=true)(hn:n<=L.length):(Jg L n).length<=L.length+1330:=by
 obtain⟨s1,s2,s3⟩:=P6 hl hn;unfold Jg;generalize DH L n=s at s1 s2 s3;obtain⟨M,r⟩:=s;dsimp only at s1 s2 s3 ⊢;obtain⟨H',D',w',v1,v2,v3,v4,v5⟩:=UU (L:=M) .no .no 0 0 (by omega) s1 (A9 M (r:Int)).lv.toNat r ((A9 M (r:Int)).lv.toNat+1) [] (List.replicate (M.length+1) 0) (.sl [] .ti) [.cel 0 (flat cN (List.replicate (M.length+1) 0))]
  s2 (.inr rfl) (YR _) (VV _) (by simp) ⟨.inl ⟨rfl,rfl⟩,rfl⟩ ⟨by simp,by simp,λj dd hj lO=>by
   have:=Wr hj;rw[XR]at this;omega⟩
 have:=v4.le;omega
theorem SH (l:List Cl)(hl:l.length<=1000000):(D8 l).1.length<=l.length*1329+2000:=by
 rw[R9];unfold NH;have hS:(Bb l).length<=l.length:=by
  have h1:(Bb l).length<=(CO l).length:=Xf _ _;have h2:=(Gx (l:=l) l.length (VV _)).1;rw[Wd (VV _)]at h2;omega
 generalize Bb l=S at hS;split
 ·simp
 ·rename_i hv;have hp:=PF (A3 S) [] (-(2^(A3 S-1))) (-(2^(A3 S-1))) S;generalize AP (A3 S) [] (-(2^(A3 S-1))) (-(2^(A3 S-1))) S=p at hp;have h1:S.length*A3 S<=l.length*1329:=Ya hS (by omega);simp only[zXk,VU]at hp;split
  ·rename_i ho;simp only[SG,Wc,zXe]at ho;have:=canonL_len (L:=p.1) (n:=p.2) (by omega) ho.1.1 (by omega);show (Jg p.1 p.2).length<=_;omega
  ·simp
theorem S0 {most:Int}{l:List RC}(hm:most<=1000000):(EW most l).1.length<=1400000000:=by
 unfold EW;split
 ·simp
 ·rename_i hg;have h1:(l.length:Int)<=most:=by
   simp only[JH,WS,not_or,zXe]at hg;omega
  split
  ·have:=SH (l.map RC.cl) (by simp;omega);simp only[WW]at this;show (D8 (l.map RC.cl)).1.length<=_;omega
  ·simp
theorem UR {most:Int}{l:List RC}:D7 (EW most l).1=true:=by
 unfold EW;split
 ·rfl
 ·split
  ·exact quad07_right (most:=most)
  ·rfl
theorem maxK_ge (m:Int)(x:Nd):∀k,m<=NZ m x k/\∀j,j<k->x.kid j<=NZ m x k
 | 0=>⟨Xq _,λj h=>by omega⟩
 | k+1=>by
  obtain⟨h1,h2⟩:=maxK_ge m x k;unfold NZ;refine⟨by omega,λj hj=>?_⟩;by_cases e:j=k
  ·subst e;omega
  ·have:=h2 j (by omega);omega
theorem Vd:∀(L:List Nd) (m:Int),m<=L.foldl (λm x=>if x.lv=1 then NZ m x 4 else m) m/\∀x∈L,x.lv=1->∀k,k<4->x.kid k<=L.foldl (λm x=>if x.lv=1 then NZ m x 4 else m) m
 | [],m=>⟨Xq _,λx h=>by cases h⟩
 | y::L,m=>by
  obtain⟨h1,h2⟩:=Vd L (if y.lv=1 then NZ m y 4 else m);have h3:=maxK_ge m y 4;rw[List.foldl_cons];refine⟨?_,λx hx aJ k hk=>?_⟩
  ·split at h1 <;> rename_i hy <;> simp only[hy,if_true,if_false] <;> omega
  ·rcases WG.1 hx with rfl | hx
   ·have:=h3.2 k hk;rw[if_pos aJ]at h1 ⊢;omega
   ·exact h2 x hx aJ k hk
theorem most_kid {L:List Nd}{x:Nd}(h:x∈L)(hl:x.lv=1){k:Nat}(hk:k<4):x.kid k<=Gv L:=(Vd L 0).2 x h hl k hk
theorem TA {L:List Nd}(hl:AB L=true):∀(v n:Nat) (x y:Int),Lv L v n->∀c∈Fj L v (n:Int) x y,(c.s.toNat:Int)<=Gv L
 | 0,n,x,y,h,c,hc=>by cases hc
 | v+1,n,x,y,h,c,hc=>by
  rcases Xk n with h0 | h0
  ·subst h0;rw[show ((0:Nat):Int)=0 from rfl,Gz]at hc;cases hc
  ·obtain⟨aJ,_⟩:=h.num h0 hl;unfold Fj at hc;rw[if_neg (by omega),XG]at hc;obtain⟨k,hk,hc⟩:=hc;have bQ:k<4:=by simpa using hk
   unfold Jf at hc;split at hc
   ·rename_i h1;obtain⟨k1,k2,k3⟩:=Lv.kid hl h0 h h1 bQ;rw[<-XD k3]at hc;exact TA hl v _ _ _ k1 c hc
   ·rename_i h1;split at hc
    ·rename_i hp;rw[Wm]at hc;subst hc;obtain⟨m,rfl⟩:∃m,n=m+1:=⟨n-1,by omega⟩;have hm:m<L.length:=h.1;have iB:=Ba hm;obtain⟨l1,l2,l3⟩:=AO hl hm;rw[iB]at h1 hp ⊢;have jM:L[m].lv=1:=by omega
     have hle:=most_kid (We hm) jM bQ;have oI:L[m].kid k<=255:=by
      exact (l3 k bQ).2.1 jM
     show ((UInt8.ofNat (L[m].kid k).toNat).toNat:Int)<=_;rw[Xu (show (L[m].kid k).toNat<256 by omega)];omega
    ·cases hc
theorem cellsL_most {L:List Nd}(hl:AB L=true):∀c∈GP L,(c.s.toNat:Int)<=Gv L:=by
 intro c hc;unfold GP at hc;exact TA hl (Bn L).toNat L.length _ _ ⟨VV _,.inr rfl⟩ c hc
def Js (rule:List UInt8):List UInt8:=[35,82,32]++rule++[10]
theorem int_digs {z:Int}{e d:Nat}(he:(2:Nat)^e<10^d)(hd:d≠0)(h1:-(2^e)<=z)(h2:z<2^e):(Dj z.natAbs).length<=d:=by
 have h3:z.natAbs<=2^e:=by
  have e':(2:Int)^e=((2^e:Nat):Int):=by rw[Int.natCast_pow];rfl
  rw[e']at h1 h2;generalize (2:Nat)^e=p at h1 h2;omega
 have:=Qv d z.natAbs (WI h3 he);rw[if_neg hd]at this;exact this
theorem p1328:(2:Nat)^(1329-1)<10^400:=by decide +kernel
theorem US {most:Int}{l:List RC}(h:(EW most l).2=true)(hm:most<=30):(EW most l).1=(D8 (l.map RC.cl)).1/\A3 (Bb (l.map RC.cl))<=1329/\(l.map RC.cl).length<=30:=by
 have hg:JH most l=false:=by
  cases hg:JH most l with
  | false=>rfl
  | true=>simp[EW,hg]at h
 have hlen:(l.length:Int)<=most:=by
  unfold JH at hg;simp only[Yh,decide_eq_false_iff_not]at hg;omega
 have hr:l.all RC.right=true:=by
  cases hr:l.all RC.right with
  | true=>rfl
  | false=>simp[EW,hg,hr]at h
 simp only[EW,hg,hr]at h ⊢;refine⟨by simp,?_,by simp;omega⟩;have h2:(D8 (l.map RC.cl)).2=0:=by simpa using h
 rw[SI]at h2;split at h2
 ·simp at h2
 ·omega
theorem inSq_qk {v:Nat}{x y:Int}{c:Cl}(h:Fs (v+1) x y c) :
  Fs v (qa (v+1) x (qk (v+1) (c.x-x) (c.y-y))) (qb (v+1) y (qk (v+1) (c.x-x) (c.y-y))) c /\
   c.x-qa (v+1) x (qk (v+1) (c.x-x) (c.y-y))=qd (v+1) (c.x-x)/\c.y-qb (v+1) y (qk (v+1) (c.x-x) (c.y-y))=qd (v+1) (c.y-y):=by
 obtain⟨h1,h2,h3,h4⟩:=h;have e:(2:Int)^(v+1)=2^v*2:=Xv _ _;have hp:(0:Int)<2^v:=XA (by omega);unfold Fs qa qb qk qd;simp only[Wl];rw[e]at h2 h4;generalize (2:Int)^v=p at *;by_cases a1:p<=c.x-x
 ·by_cases a2:p<=c.y-y
  ·simp only[a1,a2,if_true];omega
  ·simp only[a1,a2,if_true,if_false];omega
 ·by_cases a2:p<=c.y-y
  ·simp only[a1,a2,if_true,if_false];omega
  ·simp only[a1,a2,if_false];omega
theorem VG {L:List Nd}(hl:AB L=true){v n k:Nat}{x y:Int}{c:Cl}(h0:0<n)(h:Lv L (v+1) n)(hk:k<4)(hc:c∈Jf (Fj L v) (v+1) (A9 L (n:Int)) x y k) :
  Fs v (qa (v+1) x k) (qb (v+1) y k) c:=by
 unfold Jf at hc;split at hc
 ·rename_i h1;obtain⟨k1,k2,k3⟩:=Lv.kid hl h0 h h1 hk;rw[<-XD k3,Pi hl v _ _ _ k1]at hc;exact Q1 v _ _ _ c hc
 ·rename_i h1;have aJ:=(h.num h0 hl).1;have hv:v=0:=by omega
  subst hv;split at hc
  ·rw[Wm]at hc;subst hc;unfold Fs;simp;omega
  ·cases hc
theorem QZ {L:List Nd}{v n:Nat}{x y:Int}{c:Cl}(h0:0<n):c∈Fj L (v+1) (n:Int) x y↔∃k,k<4/\c∈Jf (Fj L v) (v+1) (A9 L (n:Int)) x y k:=by
 unfold Fj;rw[if_neg (by omega),XG];simp only[X1]
theorem VF {L:List Nd}(hl:AB L=true):∀(v n:Nat) (x y:Int),Lv L v n->∀c,Fs v x y c ->
  (c∈Fj L v (n:Int) x y↔0<OO L v n (c.x-x) (c.y-y)/\c.s=UInt8.ofNat (OO L v n (c.x-x) (c.y-y)).toNat)
 | 0,n,x,y,h,c,hc=>by
  constructor
  ·intro h;cases h
  ·rintro⟨h,_⟩;exact absurd h (by show ¬(0:Int)<0;decide)
 | v+1,n,x,y,h,c,hc=>by
  rcases Xk n with h0 | h0
  ·subst h0;rw[show ((0:Nat):Int)=0 from rfl,Gz];unfold OO;rw[if_pos rfl];constructor
   ·intro h;cases h
   ·rintro⟨h,_⟩;exact absurd h (by decide)
  ·obtain⟨s1,s2,s3⟩:=inSq_qk hc;have hq:=qk_lt (v+1) (c.x-x) (c.y-y);have bU:c∈Fj L (v+1) (n:Int) x y↔c∈Jf (Fj L v) (v+1) (A9 L (n:Int)) x y (qk (v+1) (c.x-x) (c.y-y)):=by
    rw[QZ h0];constructor
    ·rintro⟨k,hk,hm⟩;have:=inSq_one hk hq (VG hl h0 h hk hm) s1;rw[<-this];exact hm
    ·intro hm;exact⟨_,hq,hm⟩
   rw[bU];have aJ:=(h.num h0 hl).1;unfold OO Jf;rw[if_neg (show ¬n=0 by omega)];generalize qk (v+1) (c.x-x) (c.y-y)=k at *;by_cases h1:1<(A9 L (n:Int)).lv
   ·obtain⟨k1,k2,k3⟩:=Lv.kid hl h0 h h1 hq;have ih:=VF hl v _ _ _ k1 c s1;rw[XD k3,s2,s3]at ih;rw[if_pos h1,if_neg (by omega)];exact ih
   ·have hv:v=0:=by omega
    subst hv;obtain⟨e1,e2⟩:=sq0 s1;rw[if_neg h1,if_pos (show (A9 L (n:Int)).lv=1 by omega)];by_cases hp:0<(A9 L (n:Int)).kid k
    ·rw[if_pos hp,Wm];constructor
     ·intro e;exact⟨hp,by rw[e]⟩
     ·rintro⟨_,e⟩;obtain⟨cx,cy,cs⟩:=c;simp only at e e1 e2;rw[e,e1,e2]
    ·rw[if_neg hp];constructor
     ·intro h;cases h
     ·rintro⟨h,_⟩;exact absurd h hp
structure Side (nf:Nat->Nat)(D:Nat->Int->Int->Cl->Int):Prop where
 lt:∀j,nf j<4
 all:∀k,k<4->∃j,j<4/\nf j=k/\∀v x y c,D (v+1) x y c=(if 1<j then 2^v else 0)+D v (qa (v+1) x k) (qb (v+1) y k) c
 one:∀v x y c,Fs v x y c->0<=D v x y c
theorem HK (v:Nat):(2:Int)^(v+1)=2^v+2^v:=by rw[Xv];omega
theorem sideW:Side nfW λ_ x _ c=>c.x-x:=⟨Ml,λk hk=>by
 match k,hk with
 | 0,_=>exact⟨0,by decide,rfl,λv x y c=>by simp[qa]⟩
 | 1,_=>exact⟨2,by decide,rfl,λv x y c=>by simp[qa];omega⟩
 | 2,_=>exact⟨1,by decide,rfl,λv x y c=>by simp[qa]⟩
 | 3,_=>exact⟨3,by decide,rfl,λv x y c=>by simp[qa];omega⟩,λv x y c h=>by have:=h.1;omega⟩
theorem sideE:Side nfE λv x _ c=>x+2^v-1-c.x:=⟨PI,λk hk=>by
 match k,hk with
 | 0,_=>exact⟨2,by decide,rfl,λv x y c=>by simp[qa,HK];omega⟩
 | 1,_=>exact⟨0,by decide,rfl,λv x y c=>by simp[qa,HK];omega⟩
 | 2,_=>exact⟨3,by decide,rfl,λv x y c=>by simp[qa,HK];omega⟩
 | 3,_=>exact⟨1,by decide,rfl,λv x y c=>by simp[qa,HK];omega⟩,λv x y c h=>by have:=h.2.1;omega⟩
theorem sideN:Side nfN λ_ _ y c=>c.y-y:=⟨Mm,λk hk=>by
 match k,hk with
 | 0,_=>exact⟨0,by decide,rfl,λv x y c=>by simp[qb]⟩
 | 1,_=>exact⟨1,by decide,rfl,λv x y c=>by simp[qb]⟩
 | 2,_=>exact⟨2,by decide,rfl,λv x y c=>by simp[qb];omega⟩
 | 3,_=>exact⟨3,by decide,rfl,λv x y c=>by simp[qb];omega⟩,λv x y c h=>by have:=h.2.2.1;omega⟩
theorem sideS:Side nfS λv _ y c=>y+2^v-1-c.y:=⟨PH,λk hk=>by
 match k,hk with
 | 0,_=>exact⟨2,by decide,rfl,λv x y c=>by simp[qb,HK];omega⟩
 | 1,_=>exact⟨3,by decide,rfl,λv x y c=>by simp[qb,HK];omega⟩
 | 2,_=>exact⟨0,by decide,rfl,λv x y c=>by simp[qb,HK];omega⟩
 | 3,_=>exact⟨1,by decide,rfl,λv x y c=>by simp[qb,HK];omega⟩,λv x y c h=>by have:=h.2.2.2;omega⟩
theorem Qt (nf:Nat->Nat)(L:List Nd):∀(d i:Nat),i+d=L.length->∀j,j<=i->(BX nf (L.take i)).getD j none=(BX nf L).getD j none
 | 0,i,h,j,hj=>by rw[Wd (by omega)]
 | d+1,i,h,j,hj=>by
  rw[<-Qt nf L d (i+1) (by omega) j (by omega),HC nf L (show i<L.length by omega)];have hlen:(BX nf (L.take i)).length=i+1:=by rw[F7];simp;omega
  simp only[VW];rw[VR (by omega)]
theorem edgeL_get (nf:Nat->Nat){L:List Nd}{m:Nat}(hm:m<L.length):(BX nf L).getD (m+1) none=(CN nf (BX nf (L.take m)) L[m] 4).2:=by
 have hlen:(BX nf (L.take m)).length=m+1:=by rw[F7];simp;omega
 rw[<-Qt nf L (L.length-(m+1)) (m+1) (by omega) (m+1) (VV _),HC nf L hm,VW,Wt (by omega),hlen];simp
theorem Jd {nf:Nat->Nat}{D:Nat->Int->Int->Cl->Int}(hs:Side nf D){L:List Nd}(hl:AB L=true):∀(v n:Nat) (x y:Int),Lv L v n->∀c,c∈Fj L v (n:Int) x y ->
  bo ((BX nf L).getD n none)<=D v x y c
 | 0,n,x,y,h,c,hc=>by cases hc
 | v+1,n,x,y,h,c,hc=>by
  rcases Xk n with h0 | h0
  ·subst h0;rw[show ((0:Nat):Int)=0 from rfl,Gz]at hc;cases hc
  ·obtain⟨k,hk,hm⟩:=(QZ h0).1 hc;have cG:=VG hl h0 h hk hm;obtain⟨j,hj,jN,hD⟩:=hs.all k hk;have aJ:=(h.num h0 hl).1;obtain⟨m,rfl⟩:∃m,n=m+1:=⟨n-1,by omega⟩;have xF:m<L.length:=h.1;have gO:A9 L ((m+1:Nat):Int)=L[m]:=Ba xF;rw[edgeL_get nf xF,hD];have aV:L[m].kid (nf j)≠0:=by
    rw[jN];intro e;unfold Jf at hm;rw[gO,e,Gz]at hm;simp at hm
   have hle:=(Pc (nf:=nf) (E:=BX nf (L.take m)) (x:=L[m]) 4 (VV _) j hj aV).2;refine Int.le_trans hle ?_;unfold Df;rw[gO]at aJ;rw[jN,show L[m].lv.toNat-1=v by omega];unfold Jf at hm;by_cases h1:1<L[m].lv
   ·obtain⟨k1,k2,k3⟩:=Lv.kid hl h0 h (by rw[gO];exact h1) hk;rw[gO]at k1 k2 k3;rw[gO,if_pos h1,<-XD k3]at hm;have ih:=Jd hs hl v _ _ _ k1 c hm;rw[if_pos h1,Qt nf L (L.length-m) m (by omega) _ (by omega)];omega
   ·rw[if_neg h1];have:=hs.one _ _ _ _ cG;omega
theorem cells_box {L:List Nd}(hl:AB L=true)(h0:L≠[]):∀c∈GP L,bxX L<=c.x/\c.x<bxX L+bxW L/\bxY L<=c.y/\c.y<bxY L+bxH L:=by
 intro c hc;unfold GP at hc;have hLv:Lv L (Bn L).toNat L.length:=⟨VV _,.inr rfl⟩;have w:=Jd sideW hl _ _ _ _ hLv c hc;have e:=Jd sideE hl _ _ _ _ hLv c hc;have n:=Jd sideN hl _ _ _ _ hLv c hc;have s:=Jd sideS hl _ _ _ _ hLv c hc;unfold bxX bxY bxW bxH G6;unfold HN at w e n s;generalize (2:Int)^(Bn L).toNat=p at *;generalize (2:Int)^((Bn L).toNat-1)=q at *;omega
theorem mem_get {L:List Nd}(hl:AB L=true)(h0:L≠[])(c:Cl):c∈GP L↔0<PX L c.x c.y/\c.s=UInt8.ofNat (PX L c.x c.y).toNat:=by
 have hLv:Lv L (Bn L).toNat L.length:=⟨VV _,.inr rfl⟩;have hlen:0<L.length:=Wy.2 h0;have ht:1<=(Bn L).toNat:=by
  have h1:=(AO hl (show L.length-1<L.length by omega)).1;unfold Bn;rw[Em (n:=L.length-1) (by omega) (by omega)];omega
 have cG:Fs (Bn L).toNat (HN L) (HN L) c↔(inZ (Bn L).toNat c.x&&inZ (Bn L).toNat c.y)=true:=by
  obtain⟨w,hw⟩:∃w,(Bn L).toNat=w+1:=⟨(Bn L).toNat-1,by omega⟩;unfold Fs inZ HN;rw[hw];simp only[Wl,HK,Wc,zXe];generalize (2:Int)^w=p;omega
 unfold PX;rw[if_neg h0];by_cases hc:Fs (Bn L).toNat (HN L) (HN L) c
 ·rw[if_pos (cG.1 hc)];have:=VF hl _ _ _ _ hLv c hc;unfold HN at this;rw[Int.sub_neg,Int.sub_neg]at this;exact this
 ·rw[if_neg (λh=>hc (cG.2 h))];constructor
  ·intro h;unfold GP at h;rw[Pi hl _ _ _ _ hLv]at h;exact absurd (Q1 _ _ _ _ c h) hc
  ·rintro⟨h,_⟩;exact absurd h (by decide)
structure BSt where
 law:List UInt8
 block:Bool
 x:Int
 y:Int
 rows:Nat
 cells:List Cl
def IY:List UInt8:=[35,76,105,102,101,32,49,46,48,53]
def Rl (b:List UInt8)(bx:Int):Nat->Nat->Nat->BSt->(Er×Nat)×BSt
 | 0,a,x,st=>((none,a),st)
 | k+1,a,x,st=>
  if BT b a [46,42]then
   if BT b a [42]then
    if decide ((x:Int)>=bx)||decide ((st.rows:Int)>=bx)then ((some (4,[]),a),st)
    else Rl b bx k (a+1) (x+1) { st with cells:=st.cells++[⟨st.x+x,st.y+st.rows,1⟩] }
   else Rl b bx k (a+1) (x+1) st
  else ((none,a),{ st with rows:=st.rows+1 })
def Tj (b:List UInt8)(a:Nat)(st:BSt):(Er×Nat)×BSt:=
 match DT b a [80,32] [49,32,49]with
 | (some e,c)=>((some e,c),st)
 | (none,c)=>match Hw b c true [32,49]with
  | (some e,d)=>((some e,d),st)
  | (none,d)=>match DT b d [32] [49]with
   | (some e,f)=>((some e,f),{ st with x:=Da ((b.take d).drop c) })
   | (none,f)=>match Hw b f true []with
    | (some e,g)=>((some e,g),{ st with x:=Da ((b.take d).drop c) })
    | (none,g)=>((none,g),{ st with x:=Da ((b.take d).drop c),y:=Da ((b.take g).drop f),block:=true,rows:=0 })
def lawB (b:List UInt8)(a:Nat)(st:BSt):(Er×Nat)×BSt:=
 match DT b a [82,32] [97]with
 | (some e,c)=>((some e,c),st)
 | (none,c)=>match Ot b c []with
  | (some e,d)=>((some e,d),st)
  | (none,d)=>((none,d),{ st with law:=(b.take d).drop c })
def QR (b:List UInt8)(a:Nat)(st:BSt):(Er×Nat)×BSt:=
 if BT b (a+1) [68]then ((none,QD b (a+1)),st)
 else if BT b (a+1) [78]then ((none,a+2),{ st with law:=C4 })
 else if BT b (a+1) [82]then lawB b (a+1) st
 else if BT b (a+1) [80]then Tj b (a+1) st
 else ((some (Oo b (a+1) [78]),a+1),st)
def IU (b:List UInt8)(bx:Int)(a:Nat)(st:BSt):(Er×Nat)×BSt:=
 if BT b a [35]then QR b a st else if st.block then Rl b bx (b.length+1-a) a 0 st else ((some (Oo b a []),a),st)
def Uf (b:List UInt8)(s:(Er×Nat)×BSt):(Er×Nat)×BSt:=match s with
 | ((some e,c),st')=>((some e,c),st')
 | ((none,c),st')=>(JI b c [],st')
def K8 (b:List UInt8)(bx:Int)(a:Nat)(st:BSt):(Er×Nat)×BSt:=Uf b (IU b bx a st)
def Eo (b:List UInt8)(bx:Int):Nat->Nat->BSt->(Er×Nat)×BSt
 | 0,a,st=>((none,a),st)
 | k+1,a,st=>
  if a=b.length then ((none,a),st)
  else match K8 b bx a st with
   | ((some e,c),st')=>((some e,c),st')
   | ((none,c),st')=>Eo b bx k c st'
def N9 (b:List UInt8)(bx:Int)(st:BSt):(Er×Nat)×BSt:=
 match DT b 0 IY []with
 | (some e,c)=>((some e,c),st)
 | (none,c)=>match JI b c []with
  | (some e,d)=>((some e,d),st)
  | (none,d)=>Eo b bx (b.length+1) d st
structure BOk (n:Nat)(st:BSt):Prop where
 x:st.x.natAbs<10^400
 y:st.y.natAbs<10^400
 r:st.rows<=n
 c:st.cells.length<=n
 ok:∀c∈st.cells,c.ok
theorem cell_ok {x y:Int}{u v n:Nat}(hx:x.natAbs<10^400)(hy:y.natAbs<10^400)(hu:u<=n)(hv:v<=n)(hn:n<=1152921504606846976):Cl.ok ⟨x+u,y+v,1⟩:=by
 have h:(10:Nat)^400+1152921504606846976<4294967296^100:=by decide +kernel
 unfold Cl.ok SB;constructor <;> dsimp only <;> omega
structure Px (b:List UInt8)(a:Nat)(st:BSt)(s:(Er×Nat)×BSt):Prop where
 le:s.1.2<=b.length
 ge:a<=s.1.2
 ok:∀n,n+b.length+(b.length-a)<=1152921504606846976->BOk n st->BOk (n+(s.1.2-a)+1) s.2
theorem BOk.mono {n m:Nat}{st:BSt}(h:BOk n st)(hm:n<=m):BOk m st:=⟨h.x,h.y,Wu h.r hm,Wu h.c hm,h.ok⟩
theorem rowB_ok {b:List UInt8}{bx:Int}:∀(k a x:Nat) (st:BSt),a<=b.length->x<=a->Px b a st (Rl b bx k a x st)
 | 0,a,x,st,ha,hx=>⟨ha,VV _,λn _ h=>h.mono (by omega)⟩
 | k+1,a,x,st,ha,hx=>by
  unfold Rl;split
  ·rename_i hs;have hlt:=EU hs;split
   ·split
    ·exact⟨ha,VV _,λn _ h=>h.mono (by omega)⟩
    ·obtain⟨h1,h2,h3⟩:=rowB_ok (b:=b) (bx:=bx) k (a+1) (x+1) { st with cells:=st.cells++[⟨st.x+x,st.y+st.rows,1⟩] } (by omega) (by omega);refine⟨h1,by omega,λn hn h=>?_⟩;refine BOk.mono (h3 (n+1) (by omega) ⟨h.x,h.y,Wu h.r (by omega),by simp;have:=h.c;omega,λc hc=>?_⟩) (by omega);rcases Wn.1 hc with q | q
     ·exact h.ok c q
     ·rw[Wm.1 q];exact cell_ok (n:=n+b.length) h.x h.y (by omega) (by have:=h.r;omega) (by omega)
   ·obtain⟨h1,h2,h3⟩:=rowB_ok (b:=b) (bx:=bx) k (a+1) (x+1) st (by omega) (by omega);exact⟨h1,by omega,λn hn h=>(h3 n (by omega) h).mono (by omega)⟩
  ·exact⟨ha,VV _,λn _ h=>⟨h.x,h.y,by dsimp only;have:=h.r;omega,by dsimp only;have:=h.c;omega,h.ok⟩⟩
theorem lawB_ok {b:List UInt8}{a:Nat}(ha:a<=b.length)(st:BSt):Px b a st (lawB b a st):=by
 unfold lawB;have h1:=HV (s:=[82,32]) (rest:=[97]) ha;have h2:=SK (b:=b) (a:=a) [82,32] [97];generalize DT b a [82,32] [97]=M at h1 h2;obtain⟨er,c⟩:=M;dsimp only at h1 h2;cases er with
 | some e=>exact⟨h1,h2,λn _ h=>h.mono (by omega)⟩
 | none=>
  have h3:=rulS_le (rest:=[]) h1;dsimp only;generalize Ot b c []=M at h3;obtain⟨er,d⟩:=M;dsimp only at h3;cases er with
  | some e=>exact⟨h3.2,by dsimp only;omega,λn _ h=>h.mono (by omega)⟩
  | none=>exact⟨h3.2,by dsimp only;omega,λn _ h=>⟨h.x,h.y,by dsimp only;have:=h.r;omega,by dsimp only;have:=h.c;omega,h.ok⟩⟩
theorem fromB_ok {b:List UInt8}{a:Nat}(ha:a<=b.length)(st:BSt):Px b a st (Tj b a st):=by
 unfold Tj;have h1:=HV (s:=[80,32]) (rest:=[49,32,49]) ha;have h2:=SK (b:=b) (a:=a) [80,32] [49,32,49];generalize DT b a [80,32] [49,32,49]=M at h1 h2;obtain⟨er,c⟩:=M;dsimp only at h1 h2;cases er with
 | some e=>exact⟨h1,h2,λn _ h=>h.mono (by omega)⟩
 | none=>
  have h3:=RI h1 true [32,49];dsimp only;generalize Hw b c true [32,49]=M at h3;obtain⟨er,d⟩:=M;dsimp only at h3;cases er with
  | some e=>exact⟨h3.2,by dsimp only;omega,λn _ h=>h.mono (by omega)⟩
  | none=>
   have h4:=HV (s:=[32]) (rest:=[49]) h3.2;have h5:=SK (b:=b) (a:=d) [32] [49];dsimp only;generalize DT b d [32] [49]=M at h4 h5;obtain⟨er,f⟩:=M;dsimp only at h4 h5;cases er with
   | some e=>exact⟨h4,by dsimp only;omega,λn _ h=>⟨Na _,h.y,by dsimp only;have:=h.r;omega,by dsimp only;have:=h.c;omega,h.ok⟩⟩
   | none=>
    have h6:=RI h4 true [];dsimp only;generalize Hw b f true []=M at h6;obtain⟨er,g⟩:=M;dsimp only at h6;cases er with
    | some e=>exact⟨h6.2,by dsimp only;omega,λn _ h=>⟨Na _,h.y,by dsimp only;have:=h.r;omega,by dsimp only;have:=h.c;omega,h.ok⟩⟩
    | none=>exact⟨h6.2,by dsimp only;omega,λn _ h=>⟨Na _,Na _,by dsimp only;omega,by dsimp only;have:=h.c;omega,h.ok⟩⟩
theorem Px.back {b:List UInt8}{a:Nat}{st:BSt}{s:(Er×Nat)×BSt}(h:Px b (a+1) st s):Px b a st s:=
 ⟨h.le,by have:=h.ge;omega,λn hn hk=>(h.ok n (by omega) hk).mono (by have:=h.ge;omega)⟩
theorem anyN_ge {b:List UInt8}{a:Nat}:a<=QD b a:=by unfold QD;omega
theorem markB_ok {b:List UInt8}{a:Nat}(ha:a<b.length)(st:BSt):Px b a st (QR b a st):=by
 unfold QR;split
 ·exact⟨anyN_le (show a+1<=b.length by omega),by have:=anyN_ge (b:=b) (a:=a+1);dsimp only;omega,λn _ h=>h.mono (by omega)⟩
 ·split
  ·rename_i hs;have:=EU hs;exact⟨by dsimp only;omega,by dsimp only;omega,λn _ h=>⟨h.x,h.y,by dsimp only;have:=h.r;omega,by dsimp only;have:=h.c;omega,h.ok⟩⟩
  ·split
   ·exact (lawB_ok (show a+1<=b.length by omega) st).back
   ·split
    ·exact (fromB_ok (show a+1<=b.length by omega) st).back
    ·exact⟨by dsimp only;omega,by dsimp only;omega,λn _ h=>h.mono (by omega)⟩
theorem SU {b:List UInt8}{bx:Int}{a:Nat}(ha:a<b.length)(st:BSt):Px b a st (IU b bx a st):=by
 unfold IU;split
 ·exact markB_ok ha st
 ·split
  ·exact rowB_ok _ _ _ _ (YJ ha) (Wv _)
  ·exact⟨YJ ha,VV _,λn _ h=>h.mono (by omega)⟩
theorem endS_up {b:List UInt8}{a:Nat}(ha:a<b.length)(h:(JI b a []).1=none):a<(JI b a []).2:=by
 have hne:a≠b.length:=by omega
 unfold JI at h ⊢;simp only[if_neg hne]at h;split at h
 ·rename_i hs;unfold eolN;rw[if_neg hne,if_pos hs];have:a<=crN b a:=by unfold crN;split <;> omega
  dsimp only;rw[if_neg hne,if_pos hs];omega
 ·cases h
theorem Vm {b:List UInt8}{bx:Int}{a:Nat}(ha:a<b.length)(st:BSt):(K8 b bx a st).1.1=none->a<(K8 b bx a st).1.2:=by
 unfold K8 Uf;have h:=SU (bx:=bx) ha st;generalize IU b bx a st=M at h;obtain⟨⟨er,c⟩,st'⟩:=M;obtain⟨h1,h2,h3⟩:=h;cases er with
 | some e=>intro h;cases h
 | none=>
  dsimp only at h1 h2 ⊢;intro h;by_cases hc:c=b.length
  ·have:=(RN h1 []).1;omega
  ·have:=endS_up (show c<b.length by omega) h;omega
theorem oneB_ok {b:List UInt8}{bx:Int}{a:Nat}(ha:a<b.length)(st:BSt):Px b a st (K8 b bx a st):=by
 unfold K8 Uf;have h:=SU (bx:=bx) ha st;generalize IU b bx a st=M at h;obtain⟨⟨er,c⟩,st'⟩:=M;obtain⟨h1,h2,h3⟩:=h;cases er with
 | some e=>exact⟨h1,h2,h3⟩
 | none=>
  dsimp only at h1 h2 h3 ⊢;have:=RN h1 [];exact⟨this.2,by dsimp only;omega,λn hn h=>(h3 n hn h).mono (by dsimp only;omega)⟩
theorem Vk {b:List UInt8}{bx:Int}:∀(k a:Nat) (st:BSt) (n:Nat),a<=b.length->n+2*(b.length-a)+1+b.length<=1152921504606846976->BOk n st->BOk (n+2*(b.length-a)+1) (Eo b bx k a st).2
 | 0,a,st,n,_,_,h=>h.mono (by omega)
 | k+1,a,st,n,ha,hn,h=>by
  unfold Eo;by_cases he:a=b.length
  ·rw[if_pos he];exact h.mono (by omega)
  ·rw[if_neg he];have hok:=oneB_ok (bx:=bx) (show a<b.length by omega) st;have bJ:=Vm (bx:=bx) (show a<b.length by omega) st;generalize K8 b bx a st=M at hok bJ;obtain⟨⟨er,c⟩,st'⟩:=M;obtain⟨k1,k2,k3⟩:=hok;dsimp only at k1 k2 k3 bJ ⊢;have k4:=k3 n (by omega) h;cases er with
   | some e=>exact k4.mono (by omega)
   | none=>
    have:=bJ rfl;exact (Vk k c st' _ k1 (by omega) k4).mono (by omega)
theorem allB_ok (b:List UInt8)(bx:Int)(st:BSt)(hb:4*b.length+10<=1152921504606846976)(h:BOk 0 st):BOk (2*b.length+1) (N9 b bx st).2:=by
 unfold N9;have hM:=HV (s:=IY) (rest:=[]) (Wv b.length);generalize DT b 0 IY []=M at hM;obtain⟨er,c⟩:=M;dsimp only at hM;cases er with
 | some e=>exact h.mono (by omega)
 | none=>
  have hle:=RN hM [];dsimp only;generalize JI b c []=M at hle;obtain⟨er,d⟩:=M;cases er with
  | some e=>exact h.mono (by omega)
  | none=>exact (Vk (b:=b) (bx:=bx) (b.length+1) d st 0 hle.2 (by omega) h).mono (by omega)
theorem rowB_er (b:List UInt8)(bx:Int):∀k a x st,NA (Rl b bx k a x st).1.1
 | 0,a,x,st=>.none
 | k+1,a,x,st=>by
  unfold Rl;split
  ·split
   ·split
    ·exact .lim
    ·exact rowB_er b bx k _ _ _
   ·exact rowB_er b bx k _ _ _
  ·exact .none
theorem lineB_er (b:List UInt8)(bx:Int)(a:Nat)(st:BSt):NA (IU b bx a st).1.1:=by
 unfold IU;split
 ·unfold QR;split
  ·exact .none
  ·split
   ·exact .none
   ·split
    ·unfold lawB;have:=O5 b (a+1) [82,32] [97];generalize DT b (a+1) [82,32] [97]=M at this;obtain⟨er,c⟩:=M;cases er with
     | some e=>exact this
     | none=>
      have:=rulS_er b c [];dsimp only;generalize Ot b c []=M at this;obtain⟨er,d⟩:=M;cases er with
      | some e=>exact this
      | none=>exact .none
    ·split
     ·unfold Tj;have:=O5 b (a+1) [80,32] [49,32,49];generalize DT b (a+1) [80,32] [49,32,49]=M at this;obtain⟨er,c⟩:=M;cases er with
      | some e=>exact this
      | none=>
       have:=intS_er b c true [32,49];dsimp only;generalize Hw b c true [32,49]=M at this;obtain⟨er,d⟩:=M;cases er with
       | some e=>exact this
       | none=>
        have:=O5 b d [32] [49];dsimp only;generalize DT b d [32] [49]=M at this;obtain⟨er,f⟩:=M;cases er with
        | some e=>exact this
        | none=>
         have:=intS_er b f true [];dsimp only;generalize Hw b f true []=M at this;obtain⟨er,g⟩:=M;cases er with
         | some e=>exact this
         | none=>exact .none
     ·exact .stp _ _ _
 ·split
  ·exact rowB_er _ _ _ _ _ _
  ·exact .stp _ _ _
theorem oneB_er (b:List UInt8)(bx:Int)(a:Nat)(st:BSt):NA (K8 b bx a st).1.1:=by
 unfold K8 Uf;have:=lineB_er b bx a st;generalize IU b bx a st=M at this;obtain⟨⟨er,c⟩,st'⟩:=M;cases er with
 | some e=>exact this
 | none=>exact endS_er _ _ _
theorem Vl (b:List UInt8)(bx:Int):∀k a st,NA (Eo b bx k a st).1.1
 | 0,a,st=>.none
 | k+1,a,st=>by
  unfold Eo;split
  ·exact .none
  ·have:=oneB_er b bx a st;generalize K8 b bx a st=M at this;obtain⟨⟨er,c⟩,st'⟩:=M;cases er with
   | some e=>exact this
   | none=>exact Vl b bx k _ _
theorem allB_er (b:List UInt8)(bx:Int)(st:BSt):NA (N9 b bx st).1.1:=by
 unfold N9;have:=O5 b 0 IY [];generalize DT b 0 IY []=M at this;obtain⟨er,c⟩:=M;cases er with
 | some e=>exact this
 | none=>
  dsimp only;have:=endS_er b c [];generalize JI b c []=M at this;obtain⟨er,d⟩:=M;cases er with
  | some e=>exact this
  | none=>exact Vl _ _ _ _ _
def Us:BSt:=⟨C4,false,0,0,0,[]⟩
def IM (b:List UInt8)(bx N:Int):(List UInt8×List Nd)×Int×Int:=
 if Mu bx N then
  match N9 b bx Us with
  | ((some e,c),_)=>(([],[]),(c:Int),e.1)
  | ((none,_),st)=>
   if decide ((D8 st.cells).2=0)&&decide (((D8 st.cells).1.length:Int)<=N)then ((st.law,(D8 st.cells).1),0,0)
   else (([],[]),(b.length:Int),4)
 else (([],[]),0,1)
def Vv (b:List UInt8):List UInt8×Bool:=match (N9 b 1000 ⟨[],false,0,0,0,[]⟩).1.1 with
 | none=>([],true)
 | some e=>(e.2,decide (e.1=0)||decide (e.1=3))
def HP (X Y:Int):List UInt8->List Cl
 | []=>[]
 | c::s=>if c=42 then ⟨X,Y,1⟩::HP (X+1) Y s else HP (X+1) Y s
theorem UA {Y:Int}{c:Cl}:∀(s:List UInt8) (X:Int),c∈HP X Y s↔∃i:Nat,s[i]? = some 42/\c=⟨X+i,Y,1⟩
 | [],X=>by simp[HP]
 | d::s,X=>by
  have ih:=UA (Y:=Y) (c:=c) s (X+1);have up:(∃i:Nat,(d::s)[i]? = some 42/\c=⟨X+i,Y,1⟩)↔(d=42/\c=⟨X,Y,1⟩)\/∃i:Nat,s[i]? = some 42/\c=⟨X+1+i,Y,1⟩:=by
   constructor
   ·rintro⟨i,h1,h2⟩;cases i with
    | zero=>left;simp at h1 h2;exact⟨h1,h2⟩
    | succ i=>right;exact⟨i,by simpa using h1,by rw[h2];congr 1;push_cast;omega⟩
   ·rintro (⟨h1,h2⟩ | ⟨i,h1,h2⟩)
    ·exact⟨0,by simp[h1],by rw[h2];simp⟩
    ·exact⟨i+1,by simpa using h1,by rw[h2];congr 1;push_cast;omega⟩
  rw[up,<-ih];by_cases h:d=42
  ·subst h;rw[show HP X Y (42::s)=⟨X,Y,1⟩::HP (X+1) Y s from if_pos rfl,WG];simp
  ·rw[show HP X Y (d::s)=HP (X+1) Y s from if_neg h];simp[h]
theorem starC_star (X Y:Int)(s:List UInt8):HP X Y (42::s)=⟨X,Y,1⟩::HP (X+1) Y s:=if_pos rfl
theorem starC_dot (X Y:Int)(s:List UInt8):HP X Y (46::s)=HP (X+1) Y s:=if_neg (by decide)
theorem row_run {b t:List UInt8}{bx:Int}:∀(s:List UInt8) (k a x:Nat) (st:BSt),b.drop a=s++10::t->(∀c∈s,c=46\/c=42)->s.length<k->(x:Int)+s.length<=bx->(st.rows:Int)<bx ->
  Rl b bx k a x st=((none,a+s.length),{ st with rows:=st.rows+1,cells:=st.cells++HP (st.x+x) (st.y+st.rows) s })
 | _,0,a,x,st,_,_,hk,_,_=>by omega
 | [],k+1,a,x,st,h,hs,hk,hx,hr=>by
  unfold Rl;rw[BR h,if_neg (by decide)];simp[HP]
 | c::s,k+1,a,x,st,h,hs,hk,hx,hr=>by
  rw[List.cons_append]at h;have h2:=(DX h).2.2;have hl:(c::s).length=s.length+1:=rfl;have jG:∀c∈s,c=46\/c=42:=λc hc=>hs c (by simp[hc]);rw[hl]at hk hx;unfold Rl;rw[BR h,BR h];have e2:st.x+((x+1:Nat):Int)=st.x+x+1:=by push_cast;omega
  rcases hs c (by simp)with rfl | rfl
  ·rw[if_pos (by decide),if_neg (by decide),row_run s k (a+1) (x+1) st h2 jG (by omega) (by push_cast at hx ⊢;omega) hr,e2,starC_dot,hl,show a+1+s.length=a+(s.length+1)by omega]
  ·have hd:(decide ((x:Int)>=bx)||decide ((st.rows:Int)>=bx))=false:=by simp;push_cast at hx;omega
   rw[if_pos (by decide),if_pos (by decide),hd];simp only[VY,if_false];rw[row_run s k (a+1) (x+1) { st with cells:=st.cells++[⟨st.x+x,st.y+st.rows,1⟩] } h2 jG (by omega) (by push_cast at hx ⊢;omega) hr];dsimp only;rw[e2,hl,show a+1+s.length=a+(s.length+1)by omega,starC_star];simp
theorem MX {b:List UInt8}{bx:Int}{a c k:Nat}{st st':BSt}(ha:a<b.length)(h:K8 b bx a st=((none,c),st')):Eo b bx (k+1) a st=Eo b bx k c st':=by
 conv=>lhs;unfold Eo
 rw[if_neg (by omega),h]
theorem row_line {b s t:List UInt8}{bx:Int}{a:Nat}{st:BSt}(h:b.drop a=s++10::t)(hs:∀c∈s,c=46\/c=42)(hx:(s.length:Int)<=bx)(hr:(st.rows:Int)<bx)(hb:st.block=true) :
  K8 b bx a st=((none,a+s.length+1),{ st with rows:=st.rows+1,cells:=st.cells++HP st.x (st.y+st.rows) s }):=by
 have hlen:=congrArg List.length h;rw[Ws]at hlen;simp at hlen;have h35:BT b a [35]=false:=by
  cases s with
  | nil=>rw[BR h];decide
  | cons c s=>
   rw[List.cons_append]at h;rw[BR h];rcases hs c (by simp)with rfl | rfl <;> decide
 have h10:=EE h;unfold K8 Uf IU;rw[h35,if_neg (by decide),if_pos hb,row_run s (b.length+1-a) a 0 st h hs (by omega) (by simpa using hx) hr];dsimp only;rw[end_lf h10,show st.x+((0:Nat):Int)=st.x by simp]
def Dh (rows:List (List UInt8)):List UInt8:=rows.flatMap λr=>Ih r++[10]
def NF (X Y:Int):List (List UInt8)->List Cl
 | []=>[]
 | r::rows=>HP X Y (Ih r)++NF X (Y+1) rows
theorem row5_signs (r:List UInt8):∀c∈Ih r,c=46\/c=42:=by
 intro c hc;unfold Ih at hc;split at hc
 ·left;simpa using hc
 ·have h:=WZ hc;unfold FN at h;obtain⟨d,_,hd⟩:=Xj.1 h;split at hd
  ·left;exact hd.symm
  ·right;exact hd.symm
theorem Sq {b t:List UInt8}{bx:Int}:∀(rows:List (List UInt8)) (a:Nat) (st:BSt),b.drop a=Dh rows++t->(∀r∈rows,((Ih r).length:Int)<=bx)->(st.rows:Int)+rows.length<=bx->st.block=true ->
  ∀k,Eo b bx (k+rows.length) a st=Eo b bx k (a+(Dh rows).length) { st with rows:=st.rows+rows.length,cells:=st.cells++NF st.x (st.y+st.rows) rows }
 | [],a,st,_,_,_,_,k=>by simp[Dh,NF]
 | r::rows,a,st,h,hr,hn,hb,k=>by
  have hc:Dh (r::rows)=Ih r++10::Dh rows:=by simp[Dh]
  rw[hc,VZ,List.cons_append]at h;have h1:=hr r (by simp);rw[zXj]at hn;have hq:=row_line h (row5_signs r) (bx:=bx) (st:=st) h1 (by push_cast at hn;omega) hb;have h2:=(DX (EE h)).2.2;have hlt:=(DX (EE h)).1;rw[zXj,show k+(rows.length+1)=k+rows.length+1 by omega,MX (by omega) hq,Sq rows _ { st with rows:=st.rows+1,cells:=st.cells++HP st.x (st.y+st.rows) (Ih r) } h2 (λr dY=>hr r (by simp[dY])) (by dsimp only;push_cast at hn ⊢;omega) hb k,hc];dsimp only;rw[VX,zXj,show a+(Ih r).length+1+(Dh rows).length=a+((Ih r).length+((Dh rows).length+1))by omega,show st.rows+1+rows.length=st.rows+(rows.length+1)by omega,
   show st.y+((st.rows+1:Nat):Int)=st.y+st.rows+1 by push_cast;omega,VZ]
  rfl
theorem Ux:∀(n:Nat) (r:List UInt8) (i:Nat) (v:UInt8),r.length=n->r[i]? = some v->v≠0->i<LS r
 | 0,r,i,v,hn,h,_=>by rw[Wk hn]at h;simp at h
 | n+1,r,i,v,hn,h,hv=>by
  obtain⟨q,d,rfl⟩:∃q d,r=q++[d]:=by
   rcases List.eq_nil_or_concat r with e | ⟨q,d,e⟩
   ·rw[e]at hn;simp at hn
   ·exact⟨q,d,by rw[e,List.concat_eq_append]⟩
  have hq:q.length=n:=by simpa using hn
  have hi:=(VP.1 h).1;simp at hi;rw[Sb];by_cases e:i<q.length
  ·rw[VR e]at h;have:=Ux n q i v hq h hv;split
   ·exact this
   ·omega
  ·have e':i=q.length:=by omega
   subst e';simp at h;subst h;rw[if_neg hv];omega
theorem row5_get (r:List UInt8)(i:Nat):(Ih r)[i]? = some 42↔∃v,r[i]? = some v/\v≠0:=by
 have key:(Sv 42 r)[i]? = some 42↔∃v,r[i]? = some v/\v≠0:=by
  unfold Sv FN;rw[XT];constructor
  ·intro h;split at h
   ·rw[Wp]at h;cases e:r[i]? with
    | none=>rw[e]at h;simp at h
    | some v=>
     refine⟨v,rfl,λh0=>?_⟩;rw[e,h0]at h;exact absurd h (by decide)
   ·cases h
  ·rintro⟨v,h1,h2⟩;rw[if_pos (Ux _ r i v rfl h1 h2),Wp,h1];simp[h2]
 unfold Ih;split
 ·rename_i h;rw[<-key,h];cases i with
  | zero=>simp
  | succ i=>simp
 ·exact key
theorem PA {X:Int}{c:Cl}:∀(rows:List (List UInt8)) (Y:Int),c∈NF X Y rows↔∃(j i:Nat) (r:List UInt8) (v:UInt8),rows[j]? = some r/\r[i]? = some v/\v≠0/\c=⟨X+i,Y+j,1⟩
 | [],Y=>by simp[NF]
 | r::rows,Y=>by
  have ih:=PA (X:=X) (c:=c) rows (Y+1);unfold NF;rw[Wn,ih,UA];constructor
  ·rintro (⟨i,h1,h2⟩ | ⟨j,i,r',v,h1,h2,h3,h4⟩)
   ·obtain⟨v,g1,g2⟩:=(row5_get r i).1 h1;exact⟨0,i,r,v,rfl,g1,g2,by rw[h2];simp⟩
   ·exact⟨j+1,i,r',v,by simpa using h1,h2,h3,by rw[h4];congr 1;push_cast;omega⟩
  ·rintro⟨j,i,r',v,h1,h2,h3,h4⟩;cases j with
   | zero=>
    simp at h1;subst h1;exact .inl ⟨i,(row5_get r i).2 ⟨v,h2,h3⟩,by rw[h4];simp⟩
   | succ j=>exact .inr ⟨j,i,r',v,by simpa using h1,h2,h3,by rw[h4];congr 1;push_cast;omega⟩
theorem rowsC_one {X:Int}(rows:List (List UInt8))(Y:Int):∀c∈NF X Y rows,c.s=1:=λc hc=>by
 obtain⟨j,i,r,v,_,_,_,h⟩:=(PA rows Y).1 hc;rw[h]
def MO (L:List Nd):List Cl:=NF (bx L bxX) (bx L bxY) (Ca L)
theorem block_mem {L:List Nd}(hl:AB L=true)(h1:∀c∈GP L,c.s=1)(c:Cl):c∈MO L↔c∈GP L:=by
 unfold MO;rw[PA];by_cases h0:L=[]
 ·subst h0;constructor
  ·rintro⟨j,i,r,v,h,_⟩;simp[Ca]at h
  ·intro h;have:GP []=[]:=rfl;rw[this]at h;cases h
 ·unfold Ca bx;rw[if_neg h0,if_neg h0,if_neg h0];have get:∀(j i:Nat),(∃r v,(Gt L (bxX L) (bxY L) (bxW L).toNat (bxH L).toNat)[j]? = some r/\r[i]? = some v/\v≠0)↔j<(bxH L).toNat/\i<(bxW L).toNat/\Ki L (bxX L) (bxY L) j i≠0:=by
   intro j i;unfold Gt NS;constructor
   ·rintro⟨r,v,g1,g2,g3⟩;rw[Wp]at g1;obtain⟨j',e1,e2⟩:=XZ.1 g1;have hj:=(VP.1 e1).1;rw[List.length_range]at hj;rw[WK hj]at e1;injection e1 with e1;subst e1 e2;rw[Wp]at g2;obtain⟨i',e3,e4⟩:=XZ.1 g2;have hi:=(VP.1 e3).1;rw[List.length_range]at hi;rw[WK hi]at e3;injection e3 with e3;subst e3 e4;exact⟨hj,hi,g3⟩
   ·rintro⟨hj,hi,hv⟩;exact⟨_,_,by rw[Wp,WK hj];rfl,by rw[Wp,WK hi];rfl,hv⟩
  have aW:=mem_get hl h0;constructor
  ·rintro⟨j,i,r,v,g1,g2,g3,rfl⟩;obtain⟨hj,hi,hv⟩:=(get j i).1 ⟨r,v,g1,g2,g3⟩;have hm:=(aW ⟨bxX L+i,bxY L+j,Ki L (bxX L) (bxY L) j i⟩).2 ⟨by
    show 0<PX L (bxX L+i) (bxY L+j);apply Classical.byContradiction;intro hn;apply hv;unfold Ki;rw[show (PX L (bxX L+(i:Int)) (bxY L+(j:Int))).toNat=0 by omega];rfl,rfl⟩
   have:=h1 _ hm;dsimp only at this;rw[this]at hm;exact hm
  ·intro hc;obtain⟨b1,b2,b3,b4⟩:=cells_box hl h0 c hc;obtain⟨k1,k2⟩:=(aW c).1 hc;have hs:=h1 c hc;have ex:bxX L+((c.x-bxX L).toNat:Int)=c.x:=by omega
   have ey:bxY L+((c.y-bxY L).toNat:Int)=c.y:=by omega
   have hcb:Ki L (bxX L) (bxY L) (c.y-bxY L).toNat (c.x-bxX L).toNat=c.s:=by
    unfold Ki;rw[ex,ey,k2]
   obtain⟨r,v,g1,g2,g3⟩:=(get (c.y-bxY L).toNat (c.x-bxX L).toNat).2 ⟨by omega,by omega,by rw[hcb,hs];decide⟩;refine⟨_,_,r,v,g1,g2,g3,?_⟩;rw[ex,ey,<-hs]
def NM (X Y:Int):List UInt8:=[35,80,32]++G7 X++[32]++G7 Y++[10]
theorem from_line {b t:List UInt8}{bx:Int}{a:Nat}{X Y:Int}(h:b.drop a=NM X Y++t)(hX:(Dj X.natAbs).length<=400)(hY:(Dj Y.natAbs).length<=400)(st:BSt) :
  K8 b bx a st=((none,a+(NM X Y).length),{ st with x:=X,y:=Y,block:=true,rows:=0 }):=by
 have h0:b.drop a=35::80::32::(G7 X++32::(G7 Y++10::t)):=by rw[h];simp[NM]
 have h1:=(DX h0).2.2;have dA:b.drop (a+1)=[80,32]++(G7 X++32::(G7 Y++10::t)):=h1;have hm:=SJ dA [49,32,49];have h3:b.drop (a+1+2)=G7 X++32::(G7 Y++10::t):=EE dA;have i1:=dec_read [32,49] h3 (by decide) hX;have h4:=EE h3;have i2:=must_one h4 [49];have h5:=(DX h4).2.2;have i3:=dec_read [] h5 (by decide) hY;have h6:=EE h5;have i4:=end_lf h6 [];have hx:=cut_at h3;have hy:=cut_at h5;unfold K8 Uf IU QR Tj;rw[BR h0,if_pos (by decide),BR h1,BR h1,BR h1,BR h1,if_neg (by decide),if_neg (by decide),if_neg (by decide),if_pos (by decide),hm];dsimp only;rw[show a+1+([80,32]:List UInt8).length=a+1+2 from rfl,i1];dsimp only;rw[i2];dsimp only;rw[i3];dsimp only;rw[i4,hx,hy,(SA hX).2,(SA hY).2]
 congr 2
 simp[NM];omega
theorem law_line {b rule t:List UInt8}{bx:Int}{a:Nat}(h:b.drop a=Js rule++t)(hr:Hk rule=true)(st:BSt) :
  K8 b bx a st=((none,a+(Js rule).length),{ st with law:=rule }):=by
 unfold Hk at hr;rw[Wc,zXe]at hr;obtain⟨hs,Zl,sO⟩:=hr;have h0:b.drop a=35::82::32::(rule++10::t):=by rw[h];simp[Js]
 have h1:=(DX h0).2.2;have dA:b.drop (a+1)=[82,32]++(rule++10::t):=h1;have hm:=SJ dA [97];have h3:b.drop (a+1+2)=rule++10::t:=EE dA;have aC:=rule_run h3 hs sO 40 0 (Wv _) (by omega);rw[Nat.add_zero]at aC;have nB:Ot b (a+1+2) []=(none,a+1+2+rule.length):=by
  unfold Ot;rw[aC,if_neg (by omega)]
 have vF:=cut_at h3;have h10:=EE h3;unfold K8 Uf IU QR lawB;rw[BR h0,if_pos (by decide),BR h1,BR h1,BR h1,if_neg (by decide),if_neg (by decide),if_pos (by decide),hm];dsimp only;rw[show a+1+([82,32]:List UInt8).length=a+1+2 from rfl,nB];dsimp only;rw[vF,end_lf h10]
 congr 2
 simp[Js];omega
def Du (rule:List UInt8)(L:List Nd):List UInt8:=Js rule++(if Ca L=[]then []else NM (bx L bxX) (bx L bxY)++Dh (Ca L))
def CS:List UInt8:=[35,76,105,102,101,32,49,46,48,53,10]
theorem life5R_rows (s:List UInt8)(rows:List (List UInt8)):FE s rows=s++Dh rows:=by
 unfold FE Dh
 induction rows generalizing s with
 | nil=>simp
 | cons r rows ih=>
  rw[List.foldl_cons,ih,XN];simp
theorem block_text (rule:List UInt8)(L:List Nd):FE (SX rule L) (Ca L)=CS++Du rule L:=by
 rw[life5R_rows];unfold SX Du;by_cases h:Ca L=[]
 ·rw[if_pos h,if_pos h,h];simp[Dh,IJ,CS,Js]
 ·rw[if_neg h,if_neg h];simp[IJ,CS,Js,NM]
structure Ok5 (m:Int)(p:List UInt8×List Nd):Prop where
 rule:Hk p.1=true
 x:(Dj (bx p.2 bxX).natAbs).length<=400
 y:(Dj (bx p.2 bxY).natAbs).length<=400
 w:∀r∈Ca p.2,((Ih r).length:Int)<=m
 h:((Ca p.2).length:Int)<=m
theorem rowsT5_len (rows:List (List UInt8)):rows.length<=(Dh rows).length:=by
 induction rows with
 | nil=>simp[Dh]
 | cons r rows ih=>
  have:Dh (r::rows)=Ih r++[10]++Dh rows:=by simp[Dh]
  rw[this];simp only[VX,zXj,zXk];omega
theorem block_lines {b t:List UInt8}{m:Int}{p:List UInt8×List Nd}(hp:Ok5 m p){a:Nat}(h:b.drop a=Du p.1 p.2++t)(st:BSt) :
  ∃n st',n<=(Du p.1 p.2).length/\st'.law=p.1/\st'.cells=st.cells++MO p.2/\∀k,Eo b m (k+n) a st=Eo b m k (a+(Du p.1 p.2).length) st':=by
 obtain⟨rule,L⟩:=p;dsimp only at h ⊢;unfold Du at h ⊢;rw[VZ]at h;have hl:=law_line (bx:=m) h hp.rule st;have hlt:a<b.length:=by
  have:b.drop a=35::(82::32::rule++[10]++((if Ca L=[]then []else NM (bx L bxX) (bx L bxY)++Dh (Ca L))++t)):=by rw[h];simp[Js]
  exact (DX this).1
 have h2:=EE h;by_cases h0:Ca L=[]
 ·refine⟨1,{ st with law:=rule },?_,rfl,?_,λk=>?_⟩
  ·simp[Js]
  ·simp[MO,h0,NF]
  ·rw[if_pos h0,MX hlt hl];simp
 ·rw[if_neg h0]at h2 ⊢;rw[VZ]at h2;have hf:=from_line (bx:=m) h2 hp.x hp.y { st with law:=rule };have uX:a+(Js rule).length<b.length:=by
   have:b.drop (a+(Js rule).length)=35::(80::32::(G7 (bx L bxX)++[32]++G7 (bx L bxY)++[10])++(Dh (Ca L)++t)):=by rw[h2];simp[NM]
   exact (DX this).1
  have h3:=EE h2;have hr:=Sq (bx:=m) (Ca L) _ { st with law:=rule,x:=bx L bxX,y:=bx L bxY,block:=true,rows:=0 } h3 hp.w (by have:=hp.h;dsimp only at this ⊢;omega) rfl;refine⟨(Ca L).length+1+1,{ st with law:=rule,x:=bx L bxX,y:=bx L bxY,block:=true,rows:=0+(Ca L).length,cells:=st.cells++NF (bx L bxX) (bx L bxY+((0:Nat):Int)) (Ca L) },?_,rfl,?_,λk=>?_⟩
  ·have:=rowsT5_len (Ca L);simp[Js,NM];omega
  ·simp[MO]
  ·rw[show k+((Ca L).length+1+1)=k+(Ca L).length+1+1 by omega,MX hlt hl,MX uX hf,hr k]
   congr 1
   simp;omega
def F8 (l:List (List UInt8×List Nd)):List UInt8:=l.flatMap λp=>Du p.1 p.2
def HO (l:List (List UInt8×List Nd)):List Cl:=l.flatMap λp=>MO p.2
def Nw (u:List UInt8)(l:List (List UInt8×List Nd)):List UInt8:=l.foldl (λ_ p=>p.1) u
theorem Ps {b:List UInt8}{m:Int}:∀(l:List (List UInt8×List Nd)) (a k:Nat) (st:BSt),(∀p∈l,Ok5 m p)->a<=b.length->b.drop a=F8 l->b.length-a<=k ->
  ∃st',st'.law=Nw st.law l/\st'.cells=st.cells++HO l/\Eo b m k a st=((none,b.length),st')
 | [],a,k,st,_,ha,h,_=>by
  have:a=b.length:=by
   have:=congrArg List.length h;rw[Ws]at this;simp[F8]at this;omega
  subst this;refine⟨st,rfl,by simp[HO],?_⟩;cases k with
  | zero=>simp[Eo]
  | succ k=>unfold Eo;simp
 | p::l,a,k,st,hp,ha,h,hk=>by
  have hc:F8 (p::l)=Du p.1 p.2++F8 l:=by simp[F8]
  rw[hc]at h;obtain⟨n,st1,n1,e1,e2,e3⟩:=block_lines (hp p (by simp)) h st;have hlen:=congrArg List.length h;rw[Ws,VX]at hlen;have h2:=EE h;obtain⟨st2,f1,f2,f3⟩:=Ps l (a+(Du p.1 p.2).length) (k-n) st1 (λq hq=>hp q (by simp[hq])) (by omega) h2 (by omega);refine⟨st2,?_,?_,?_⟩
  ·rw[f1,e1];rfl
  ·rw[f2,e2];simp[HO]
  ·rw[<-f3,<-e3 (k-n),show k-n+n=k by omega]
theorem blocks_all (l:List (List UInt8×List Nd)){m:Int}(hp:∀p∈l,Ok5 m p) :
  ∃st',st'.law=Nw C4 l/\st'.cells=HO l/\N9 (CS++F8 l) m Us=((none,(CS++F8 l).length),st'):=by
 have h0:(CS++F8 l).drop 0=IY++10::F8 l:=rfl;have h1:=SJ h0 [];have h2:=EE h0;have h3:=end_lf h2 [];obtain⟨st',e1,e2,e3⟩:=Ps l (0+IY.length+1) ((CS++F8 l).length+1) Us hp (DX h2).1 (DX h2).2.2 (by omega);refine⟨st',e1,by rw[e2];simp[Us],?_⟩;unfold N9;rw[h1];dsimp only;rw[h3];exact e3
theorem blocks_read (l:List (List UInt8×List Nd)){m N:Int}(hf:Mu m N=true)(hp:∀p∈l,Ok5 m p)(h0:(D8 (HO l)).2=0)(hn:((D8 (HO l)).1.length:Int)<=N) :
  IM (CS++F8 l) m N=((Nw C4 l,(D8 (HO l)).1),0,0):=by
 obtain⟨st',e1,e2,e3⟩:=blocks_all l hp;unfold IM;rw[if_pos hf,e3];dsimp only;rw[e1,e2,if_pos (by simp;omega)]
theorem bx_digs {L:List Nd}(hl:AB L=true):(Dj (bx L bxX).natAbs).length<=400/\(Dj (bx L bxY).natAbs).length<=400:=by
 unfold bx;by_cases h0:L=[]
 ·rw[if_pos h0,if_pos h0];have:(Dj (0:Int).natAbs).length<=400:=by
   rw[show (0:Int).natAbs=0 from rfl,HD (by omega)];simp
  exact⟨this,this⟩
 ·rw[if_neg h0,if_neg h0];have hlen:0<L.length:=Wy.2 h0;have hm:L.length-1<L.length:=by omega
  have ht:Bn L=L[L.length-1].lv:=by unfold Bn;rw[Em (n:=L.length-1) (by omega) hm]
  obtain⟨g1,g2,_⟩:=AO hl hm;rw[<-ht]at g1 g2;have hw:=HA Ml hl hlen;have hn:=HA Mm hl hlen;have key:∀z:Int,0<=z/\z<2^(Bn L).toNat->(Dj (-(2^((Bn L).toNat-1))+z).natAbs).length<=400:=by
   intro z hz;obtain⟨w,hw⟩:∃w,(Bn L).toNat=w+1:=⟨(Bn L).toNat-1,by omega⟩;rw[hw]at hz ⊢;have hp:=p1328;have hle:w<=1329-1:=by omega
   revert hp hle;generalize 1329-1=q;intro hp hle;have h2:=pow_le2 hle;rw[HK]at hz;rw[Wl];exact int_digs hp (by decide) (by omega) (by omega)
  exact⟨key _ hw,key _ hn⟩
theorem row5_le (r:List UInt8):(Ih r).length<=max 1 r.length:=by
 have:=rowT_len 42 r;unfold Ih;split
 ·simp;omega
 ·omega
theorem quad_ok5 {rule:List UInt8}{L:List Nd}{m:Int}(hr:Hk rule=true)(hl:AB L=true)(hm:1<=m)(hw:Ee L m=true):Ok5 m (rule,L):=by
 obtain⟨x,y⟩:=bx_digs hl;unfold Ee at hw;simp only[Wc,zXe]at hw;refine⟨hr,x,y,?_,?_⟩
 ·intro r hr;dsimp only at hr;unfold Ca at hr;by_cases h0:L=[]
  ·rw[if_pos h0]at hr;cases hr
  ·rw[if_neg h0]at hr;unfold bx at hw;rw[if_neg h0,if_neg h0]at hw;unfold Gt at hr;obtain⟨j,_,rfl⟩:=Xj.1 hr;have h1:=row5_le (NS L (bxX L) (bxY L) (bxW L).toNat j);have h2:(NS L (bxX L) (bxY L) (bxW L).toNat j).length=(bxW L).toNat:=by simp[NS]
   omega
 ·dsimp only;unfold Ca;by_cases h0:L=[]
  ·rw[if_pos h0];simp;omega
  ·rw[if_neg h0];unfold bx at hw;rw[if_neg h0,if_neg h0]at hw;simp[Gt];omega
theorem decZ_le {z:Int}(h:(Dj z.natAbs).length<=400):(G7 z).length<=401:=by
 unfold G7;split
 ·rw[zXj];omega
 ·omega
theorem rowsT5_le {m:Nat}(rows:List (List UInt8))(h:∀r∈rows,((Ih r).length:Int)<=m):(Dh rows).length<=rows.length*(m+1):=by
 induction rows with
 | nil=>simp[Dh]
 | cons r rows ih=>
  have e:Dh (r::rows)=Ih r++[10]++Dh rows:=by simp[Dh]
  have h1:=h r (by simp);have:=ih λr hr=>h r (by simp[hr]);rw[e,VX,VX,zXj,zXj,WF];simp only[zXk];omega
theorem VJ {p:List UInt8×List Nd}(h:Ok5 60 p):(Du p.1 p.2).length<=10000:=by
 have h1:=decZ_le h.x;have h2:=decZ_le h.y;have h3:=rowsT5_le (m:=60) (Ca p.2) h.w;have h4:(Ca p.2).length<=60:=by have:=h.h;omega
 have h5:p.1.length<=40:=by
  have:=h.rule;unfold Hk at this;rw[Wc,zXe]at this;exact this.2.2
 have h6:(Ca p.2).length*(60+1)<=60*61:=W4 _ h4;unfold Du;split
 ·simp[Js];omega
 ·simp[Js,NM];omega
theorem UQ {l:List Cl}(hv:A3 (Bb l)<=1329)(hm:Gv (D8 l).1<=1):∀c∈GP (D8 l).1,c.s=1:=λc hc=>by
 obtain⟨h1,h2,h3,h4⟩:=K4 hv;have q1:=cellsL_most (Fx h3) c hc;have q2:=OF ((h1 c).1 hc);have q3:c.s.toNat≠0:=λh=>q2 (Xp.1 (by simpa using h));exact Xp.1 (by show c.s.toNat=1;omega)
theorem TL {l:List Cl}(hv:A3 (Bb l)<=1329)(hm:Gv (D8 l).1<=1)(c:Cl):c∈MO (D8 l).1↔c∈Bb l:=by
 obtain⟨h1,h2,h3,h4⟩:=K4 hv;rw[block_mem (Fx h3) (UQ hv hm),h1]
theorem Vp {l:List Cl}(hv:A3 (Bb l)<=1329)(hm:Gv (D8 l).1<=1):∀c∈Bb l,c.s=1:=λc hc=>UQ hv hm c (((K4 hv).1 c).2 hc)
theorem blockC_one (L:List Nd):∀c∈MO L,c.s=1:=rowsC_one _ _
theorem q05_nodes (A B:List Nd)(t t':Tok)(H:Aa)(hA:A.length<1000000000000):Sh.f6h (.sl (enL cNd A) t) (.sl (enL cNd B) t') H=some (.ret (.bool (decide (A=B))),H):=by
 unfold Sh.f6h;simp only[GMw,Ax];by_cases hl:A.length=B.length
 ·have hd:decide ((A.length:Int)=(B.length:Int))=true:=zXc (by omega);simp only[GMw,hd];have key:=Bq (G:=λrec1 vs H1=>Sh.f7o H rec1 (ag vs 0) (ag vs 1) (ag vs 2) H1) (σ:=Nat) (λi=>i<=A.length)
   (λi=>[.sl (enL cNd A) t,.sl (enL cNd B) t',.i6 (i:Int)]) (λ_=>H) (λi=>A.length-i) (λi=>some (.ret (.bool (decide (A.drop i=B.drop i))),H)) (λi rec hi hrec=>?_) 0 (Wv _) (by omega)
  ·simpa using key
  ·unfold Sh.f7o;by_cases h:i<A.length
   ·have h':i<B.length:=by omega
    have hlt:(i:Int)<(A.length:Int):=by omega
    have hw:=Au (show i<9223372036854775807 by omega);have:=hrec (i+1) h (by omega);rw[Ww h,Ww h'];simp only[GMw,Aj,Ax,hlt,A1 h,A1 h',Jy,neq_nd,hw];by_cases he:A[i]=B[i]
    ·simp only[he,GMw,List.cons.injEq,true_and];exact this
    ·simp only[he,GMw,List.cons.injEq,false_and]
   ·have hlt:¬(i:Int)<(A.length:Int):=by omega
    rw[Xn (by omega),Xn (by omega)];simp only[GMw,Aj,Ax,hlt]
 ·have hd:decide ((A.length:Int)=(B.length:Int))=false:=zXd (by omega);have hne:decide (A=B)=false:=zXd λh=>hl (by rw[h]);simp only[GMw,hd,hne]
theorem q05_same (A B:List Nd)(H:Aa)(hA:A.length<1000000000000):Sh.f6i (.agg [.sl (enL cNd A) .no]) (.agg [.sl (enL cNd B) .no]) H=some (.ret (.bool (decide (A=B))),H):=by
 unfold Sh.f6i;simp only[GMw,HPw,Nat.reduceAdd,Nat.reduceLT,q05_nodes A B .no .no _ hA]
theorem q11_same (r r':List UInt8)(A B:List Nd)(H:Aa)(hA:A.length<1000000000000):Sh.f10 (pat r A) (pat r' B) H=some (.ret (.bool (decide (r=r')&&decide (A=B))),H):=by
 unfold Sh.f10 pat EJ;have hq:Bj A=[.sl (enL cNd A) .no]:=rfl;have Zn:Bj B=[.sl (enL cNd B) .no]:=rfl;have hl:∀(c d:Ab) (G:Aa),Ac true 1 (.ptr 0 0 1) (.cel 0 [c,d]::G)=some (.agg [d]):=λc d G=>by
  simp only[Ac,Kb];rfl
 by_cases hr:r=r'
 ·have hd:(r == r')=true:=by simp[hr]
  have bZ:decide (r=r')=true:=zXc hr;simp only[GMw,HPw,Nat.reduceAdd,Nat.reduceLT,Ku,hd,bZ,hl,q05_same A B _ hA]
 ·have hd:(r == r')=false:=by simp[hr]
  have bZ:decide (r=r')=false:=zXd hr;simp only[GMw,HPw,Nat.reduceAdd,Nat.reduceLT,Ku,hd,bZ]
set_option exponentiation.threshold 5000
theorem Sw (n:Nat):Gg (AA n)=true:=(NT (Bz n)).2 (JW n)
theorem cut_lims (n:Nat)(tk:Tok)(H:Aa)(hl:(AA n).length<=1099511627776):Sh.f1 (.sl (enL cU (AA n)) tk) H=some (.ret (.sl (enL cU (AA n)) .no),H):=by
 have hr:=p_right (AA n) tk H hl;rw[Sw]at hr;unfold Sh.f1;rw[DU Fe];unfold Sh.f12;simp only[Am,GMw,hr,WH,Ei,forget,Ev,fgt]
theorem w_pow (k:Nat):(4294967296:Nat)^k=2^(32*k):=by
 rw[show (4294967296:Nat)=2^32 from by decide,<-Yu]
theorem bl_snoc {l':List Nat}{x:Nat}(hx:Lim (l'++[x]))(h0:x≠0):blN (val (l'++[x]))=32*l'.length+blN x:=by
 have h1:=Gn (l:=l') λy hy=>hx y (by simp[hy]);rw[Cz,Kx];rw[w_pow]at h1 ⊢;have hp:0<2^(32*l'.length):=XV (by decide);have h2:2^(32*l'.length)<=val l'+2^(32*l'.length)*x:=by
  have:2^(32*l'.length)*1<=2^(32*l'.length)*x:=Yk _ (by omega);omega
 rw[blN_div h2,YB _ _ hp,Xt h1,VU,Y2]
theorem p_len (n:Nat)(tk:Tok)(H:Aa)(hl:(AA n).length<=1000000):Sh.f4g (.sl (enL cU (AA n)) tk) H=some (.ret (.i6 (blN n:Int)),H):=by
 have hc:=cut_lims n tk H (by omega);unfold Sh.f4g;simp only[GMw,hc,Ax];have hx:=Bz n;have hn:=(JW n).last;have hv:=BA n;generalize AA n=l at *;rcases Ht l with rfl | ⟨l',x,rfl⟩
 ·have:n=0:=hv.symm;subst this;simp[blN]
 ·simp only[VX,zXi]at hl;have yM:x≠0:=hn x (by simp);have h1:l'.length<(l'++[x]).length:=by simp
  have h3:IntKind.i64.wrap ((((l'++[x]).length:Nat):Int)-1)=(l'.length:Int):=by rw[Ao] <;> simp <;> omega
  have hne:((((l'++[x]).length:Nat):Int) == 0)=false:=by simp;omega
  have nL:decide ((((l'++[x]).length:Nat):Int)=0)=false:=zXd (by simp;omega);have h4:IntKind.i64.wrap ((l'.length:Int)*32)=((32*l'.length:Nat):Int):=by rw[Ao] <;> omega
  have iD:=hx x (by simp);have hb:blN x<=32:=J5.2 (by simpa using iD);have h5:IntKind.i64.wrap (((32*l'.length:Nat):Int)+(blN x:Int))=(blN n:Int):=by
   rw[<-hv,bl_snoc hx yM,Ao] <;> omega
  have vG:=λK=>p_len32 iD K;simp only[hne,nL,AQ,h3,A1 h1,AE,zXh,Xa (VV _),WB,List.getElem_cons_zero,GMw,h4,vG,h5]
theorem limb_at {l:List Nat}(hx:Lim l){q:Nat}(hq:q<l.length):l[q]=val l / 2^(32*q)%4294967296:=by
 have e:l=l.take q++(l[q]::l.drop (q+1)):=by rw[<-Ww hq,WC]
 have h1:=Gn (l:=l.take q) λy hy=>hx y (WZ hy);have h2:=hx l[q] (We hq);have hv:val l=val (l.take q)+4294967296^q*(l[q]+4294967296*val (l.drop (q+1))):=by
  conv=>lhs;rw[e]
  rw[Cz,Wj,WR (by omega)]
  rfl
 rw[Wj,WR (by omega)]at h1;have hp:0<4294967296^q:=XV (by decide);rw[hv,<-w_pow,YB _ _ hp,Xt h1,VU,Nat.add_mul_mod_self_left,WX h2]
theorem shr_u32i (x k:Nat)(hk:k<=32):Ae .none .shr (.int .u32 (x:Int)) (.i6 (k:Int))=some (.int .u32 ((x / 2^k:Nat):Int)):=shr_u32 x k hk
theorem and_one {x:Nat}(hx:x<4294967296):Ae .none .and (.int .u32 (x:Int)) (.int .u32 1)=some (.int .u32 ((x%2:Nat):Int)):=by
 have h:=(Kt (BitVec.ofNat 32 x) (BitVec.ofNat 32 1)).1;rw[BitVec.toNat_and,X2,X2,WX hx,WX (by decide),Nat.and_one_is_mod]at h;rw[MP .and rfl _ _ (λ_ _ _=>rfl)];exact h
theorem p_bit (n i:Nat)(tk:Tok)(H:Aa)(hl:(AA n).length<=1000000)(hi:i<1000000):Sh.f1u (.sl (enL cU (AA n)) tk) (.i6 (i:Int)) H=some (.ret (.bool (n.testBit i)),H):=by
 have d0:decide ((i:Int)>=0)=true:=zXc (by omega);have hq:Ae .none .quo (.i6 (i:Int)) (.i6 32)=some (.i6 ((i / 32:Nat):Int)):=by
  show some (Ab.i6 (IntKind.i64.wrap (((i / 32:Nat):Int))))=_;rw[Ao (by omega) (by omega)]
 have tZ:Ae .none .rem (.i6 (i:Int)) (.i6 32)=some (.i6 ((i%32:Nat):Int)):=rfl;unfold Sh.f1u;by_cases h:i / 32<(AA n).length
 ·have d1:decide (((i / 32:Nat):Int)<((AA n).length:Int))=true:=zXc (by omega);have hx:=Bz n _ (We h);have ha:=limb_at (Bz n) h;rw[BA]at ha;have hs:=shr_u32i (AA n)[i / 32] (i%32) (by omega);have Ze:=and_one (x:=(AA n)[i / 32] / 2^(i%32)) (WI (Nat.div_le_self _ _) hx);have ht:((((AA n)[i / 32] / 2^(i%32)%2:Nat):Int) == 1)=n.testBit i:=by
   have e1:n.testBit i=(AA n)[i / 32].testBit (i%32):=by
    rw[ha,show (4294967296:Nat)=2^32 from by decide,Nat.testBit_mod_two_pow,Nat.testBit_div_two_pow,zXc (show i%32<32 by omega),zXn,show i%32+32*(i / 32)=i by omega]
   rw[e1,X8];generalize (AA n)[i / 32] / 2^(i%32)%2=z;rw[Wo];simp;omega
  simp only[GMw,d0,hq,Ax,d1,A1 h,AE,zXh,tZ,hs,Ze,ht]
 ·have d1:decide (((i / 32:Nat):Int)<((AA n).length:Int))=false:=zXd (by omega);have h1:=Gn (Bz n);rw[BA,w_pow]at h1;have hf:n.testBit i=false:=Nat.testBit_lt_two_pow (WP h1 (W9 (by decide) (by omega)));simp only[GMw,d0,hq,Ax,d1,hf]
theorem p_need {z:Int}(H:Aa)(hz:LB z)(hl:z.natAbs<4294967296^100):Sh.f2i (big z) H=some (.ret (.i6 ((1+blN (if z<0 then z.natAbs-1 else z.natAbs):Nat):Int)),H):=by
 have key:∀w:Nat,w<=z.natAbs->(AA w).length<=1000000:=λw hw=>Wu (Fb (WI hw hl)) (by decide);have hbl:∀w:Nat,w<=z.natAbs->IntKind.i64.wrap (1+(blN w:Int))=((1+blN w:Nat):Int):=λw hw=>by
  have:blN w<=32*100:=J5.2 (WI hw (by rw[w_pow]at hl;exact hl));rw[Ao] <;> omega
 have one:∀K,Sh.f14 (.i6 1) K=some (.ret (big 1),K):=λK=>p_of 1 K (by decide) (by decide);have l1:LB 1:=by unfold LB;exact Wu (Fb (k:=1) (by decide)) (by decide)
 unfold Sh.f2i Sh.f7u;by_cases h:z<0
 ·have e:(-z-1).natAbs=z.natAbs-1:=by omega
  have hs:=λK=>p_subB K hz.neg l1;have bD:=λK=>p_len (z.natAbs-1) .no K (key _ (by omega));have hb:=hbl (z.natAbs-1) (by omega);simp[DL,h,AK,p_minus,one,hs,e,bD,hb]
 ·have bD:=λK=>p_len z.natAbs .no K (key _ (by omega));have hb:=hbl z.natAbs (by omega);simp[DL,h,AK,bD,hb]
def O4 (z:Int):Nat:=1+blN (if z<0 then z.natAbs-1 else z.natAbs)
theorem ipow (w:Nat):(2:Int)^w=((2^w:Nat):Int):=by simp
theorem inZ_need {v:Nat}{z:Int}(h:1<=v):inZ v z=decide (O4 z<=v):=by
 have hp:0<2^(v-1):=XV (by decide);have key:∀u,1+blN u<=v↔u<2^(v-1):=λu=>by rw[<-J5];omega
 unfold inZ O4;rw[Wo];simp only[Wc,zXe,ipow,key];generalize 2^(v-1)=P at *;by_cases hz:z<0
 ·rw[if_pos hz];omega
 ·rw[if_neg hz];omega
def QQ (c:Cl):Nat:=max (O4 c.x) (O4 c.y)
theorem within_need {v:Nat}{c:Cl}(h:1<=v):DP v c=decide (QQ c<=v):=by
 unfold DP QQ;rw[inZ_need h,inZ_need h,Wo];simp only[Wc,zXe];omega
theorem Vg:∀f v c,1<=v->Il f v c=max v (min (QQ c) (v+f))
 | 0,v,c,h=>by unfold Il;omega
 | f+1,v,c,h=>by
  unfold Il;rw[within_need h];by_cases q:QQ c<=v
  ·rw[if_pos (zXc q)];omega
  ·rw[if_neg (by simpa using q),Vg f (v+1) c (by omega)];omega
def mxN:List Cl->Nat
 | []=>0
 | c::l=>max (QQ c) (mxN l)
theorem fold_lv:∀(l:List Cl) (v:Nat),1<=v->v<=1330->l.foldl (λv c=>Il (1330-v) v c) v=max v (min 1330 (mxN l))
 | [],v,h1,h2=>by simp only[List.foldl_nil,mxN];omega
 | c::l,v,h1,h2=>by
  have h:=Vg (1330-v) v c h1;rw[List.foldl_cons,fold_lv l _ (by omega) (by omega),h];simp only[mxN];omega
def El (l:List Cl):Nat->Nat
 | 0=>1
 | i+1=>match l[i]? with | some c=>max (El l i) (QQ c) | none=>El l i
theorem PJ (l:List Cl):∀i,El l i=max 1 (mxN (l.take i))
 | 0=>rfl
 | i+1=>by
  have hs:∀(m:List Cl) (c:Cl),mxN (m++[c])=max (mxN m) (QQ c):=λm c=>by
   induction m with
   | nil=>simp only[List.nil_append,mxN];omega
   | cons d m ih=>simp only[List.cons_append,mxN,ih];omega
  unfold El;rw[PJ l i];rcases W7 i l.length with h | h
  ·rw[VO h,Wb h,hs];dsimp only;omega
  ·rw[zYb h,Wd (show l.length<=i+1 by omega),Wd h]
theorem levelOf_need (l:List Cl):A3 l=min 1330 (El l l.length):=by
 unfold A3;rw[fold_lv l 1 (by omega) (by omega),PJ,WJ];omega
structure Sp where
 a:Nat
 b:Nat
 s:UInt8
def cSp (p:Sp):List Ab:=[.sl (enL cU (AA p.a)) .no,.sl (enL cU (AA p.b)) .no,.int .u8 (p.s.toNat:Int)]
instance:Sz cSp 3:=⟨λ_=>rfl⟩
def spot (h:Int)(c:Cl):Sp:=⟨(c.x+h).toNat,(c.y+h).toNat,c.s⟩
def qOf (v:Nat)(p:Sp):Nat:=(if p.a.testBit v then 1 else 0)+(if p.b.testBit v then 2 else 0)
def qSp (v k:Nat)(S:List Sp):List Sp:=S.filter λp=>decide (qOf v p=k)
def headP:List Sp->Int
 | []=>0
 | p::_=>(p.s.toNat:Int)
def lyK (rec:List Nd->List Sp->List Nd×Nat)(v:Nat)(S:List Sp):Nat->List Nd->List Nd×Nd
 | 0,out=>(out,⟨((v+1:Nat):Int),0,0,0,0⟩)
 | k+1,out=>
  if v=0 then ((lyK rec v S k out).1,(lyK rec v S k out).2.setKid k (headP (qSp v k S)))
  else ((rec (lyK rec v S k out).1 (qSp v k S)).1,(lyK rec v S k out).2.setKid k ((rec (lyK rec v S k out).1 (qSp v k S)).2:Int))
def C6:Nat->List Nd->List Sp->List Nd×Nat
 | 0,out,_=>(out,0)
 | v+1,out,S=>if S=[]then (out,0)else ((lyK (C6 v) v S 4 out).1++[(lyK (C6 v) v S 4 out).2],(lyK (C6 v) v S 4 out).1.length+1)
theorem bit_hi {A X v m:Nat}(hX:X=2^(v+1)*m)(h1:X<=A)(h2:A<X+2^(v+1)):A.testBit v=decide (X+2^v<=A):=by
 have hp:0<2^v:=XV (by decide);have e:2^(v+1)=2^v*2:=Nat.pow_succ _ _;obtain⟨r,rfl⟩:∃r,A=X+r:=⟨A-X,by omega⟩;rw[X8,hX,e,X0,Nat.mul_add_div hp,Nat.mul_add_mod];have hr:r<2^v*2:=by omega
 by_cases q:2^v<=r
 ·have:r / 2^v=1:=by
   rw[show r=2^v*1+(r-2^v)by omega,Nat.mul_add_div hp,Xt (by omega)]
  rw[this,Wo];simp;omega
 ·rw[Xt (by omega),Wo];simp;omega
theorem quart_bit {v k:Nat}{x y h:Int}{X Y m n:Nat}{c:Cl}(hk:k<4)(hx:(X:Int)=x+h)(hy:(Y:Int)=y+h)(hX:X=2^(v+1)*m)(hY:Y=2^(v+1)*n)(hc:Fs (v+1) x y c) :
  inQ (v+1) (qa (v+1) x k) (qb (v+1) y k) c=decide (qOf v (spot h c)=k):=by
 obtain⟨c1,c2,c3,c4⟩:=hc;have e:(2:Int)^(v+1)=((2^(v+1):Nat):Int):=ipow _;rw[e]at c2 c4;have b1:=bit_hi (A:=(c.x+h).toNat) hX (by omega) (by omega);have b2:=bit_hi (A:=(c.y+h).toNat) hY (by omega) (by omega);have e2:2^(v+1)=2^v*2:=Nat.pow_succ _ _;rw[e2]at c2 c4;unfold qOf spot;dsimp only;rw[b1,b2];unfold inQ qa qb;rw[Wl,ipow];generalize 2^v=P at *;clear hX hY b1 b2 e e2;have t1:(X+P<=(c.x+h).toNat)↔x+P<=c.x:=by omega
 have t2:(Y+P<=(c.y+h).toNat)↔y+P<=c.y:=by omega
 simp only[t1,t2,zXe];rw[Wo];simp only[Wc,zXe];by_cases q1:x+P<=c.x
 ·by_cases q2:y+P<=c.y
  ·rw[if_pos q1,if_pos q2]
   match k,hk with
   | 0,_=>simp;omega
   | 1,_=>simp;omega
   | 2,_=>simp;omega
   | 3,_=>simp;omega
  ·rw[if_pos q1,if_neg q2]
   match k,hk with
   | 0,_=>simp;omega
   | 1,_=>simp;omega
   | 2,_=>simp;omega
   | 3,_=>simp;omega
 ·by_cases q2:y+P<=c.y
  ·rw[if_neg q1,if_pos q2]
   match k,hk with
   | 0,_=>simp;omega
   | 1,_=>simp;omega
   | 2,_=>simp;omega
   | 3,_=>simp;omega
  ·rw[if_neg q1,if_neg q2]
   match k,hk with
   | 0,_=>simp;omega
   | 1,_=>simp;omega
   | 2,_=>simp;omega
   | 3,_=>simp;omega
theorem head_spot (h:Int)(l:List Cl):headP (l.map (spot h))=FS l:=by cases l <;> rfl
theorem qSp_spot {v k:Nat}{x y h:Int}{X Y m n:Nat}{l:List Cl}(hk:k<4)(hx:(X:Int)=x+h)(hy:(Y:Int)=y+h)(hX:X=2^(v+1)*m)(hY:Y=2^(v+1)*n)(hc:∀c∈l,Fs (v+1) x y c) :
  qSp v k (l.map (spot h))=(Bo (v+1) x y k l).map (spot h):=by
 unfold qSp Bo;rw[List.filter_map]
 congr 1
 refine List.filter_congr λc aG=>?_;exact (quart_bit hk hx hy hX hY (hc c aG)).symm
theorem Vo {h:Int}:∀(v:Nat) (out:List Nd) (x y:Int) (l:List Cl) (X Y m n:Nat),(X:Int)=x+h->(Y:Int)=y+h->X=2^v*m->Y=2^v*n->(∀c∈l,Fs v x y c)->C6 v out (l.map (spot h))=AP v out x y l
 | 0,out,x,y,l,X,Y,m,n,_,_,_,_,_=>rfl
 | v+1,out,x,y,l,X,Y,m,n,hx,hy,hX,hY,hc=>by
  have e2:2^(v+1)=2^v*2:=Nat.pow_succ _ _;have key:∀k,k<=4->lyK (C6 v) v (l.map (spot h)) k out=plK (AP v) (v+1) x y l k out:=by
   intro k
   induction k with
   | zero=>intro _;rfl
   | succ k ih=>
    intro hk;have hq:=qSp_spot (k:=k) (by omega) hx hy hX hY hc;unfold lyK plK;rw[ih (by omega),hq,head_spot];by_cases h0:v=0
    ·rw[if_pos h0,if_pos (by omega)]
    ·rw[if_neg h0,if_neg (by omega)];have hrec:=Vo (h:=h) v (plK (AP v) (v+1) x y l k out).1 (qa (v+1) x k) (qb (v+1) y k) (Bo (v+1) x y k l)
      (if k%2=1 then X+2^v else X) (if 1<k then Y+2^v else Y) (if k%2=1 then m*2+1 else m*2) (if 1<k then n*2+1 else n*2)
      (by unfold qa;rw[Wl,ipow];split <;> omega) (by unfold qb;rw[Wl,ipow];split <;> omega)
      (by rw[hX,e2];split <;> (simp only[Xd,Wg,X0,Xi 2 m])) (by rw[hY,e2];split <;> (simp only[Xd,Wg,X0,Xi 2 n]))
      (λc hc=>Mg hc)
     rw[hrec]
  unfold C6 AP;rw[key 4 (by omega)];by_cases h0:l=[]
  ·rw[if_pos (by rw[h0];rfl),if_pos h0]
  ·rw[if_neg (by simpa using h0),if_neg h0]
theorem c05_kid {L:List Nd}{tk:Tok}{i:Nat}(hi:i<L.length)(h1:1<=L[i].lv)(h2:L[i].lv<=1329)(c:Int)(H:Aa)(hL:L.length<1152921504606846976):Sh.f4l (.sl (enL cNd L) tk) (.i6 (i:Int)) (.i6 c) H=some (.ret (.bool (Dk L i L[i] c)),H):=by
 unfold Sh.f4l;simp only[GMw,HPw,Nat.reduceAdd,Nat.reduceLT,A1 hi,Jy,Co,FY,Fp,FR];generalize L[i]=x at h1 h2;by_cases hc:c=0
 ·have:Dk L i x c=true:=by
   unfold Dk;simp only[Wc,zXe];exact⟨⟨by omega,λ_=>by omega⟩,λ_ h=>by omega⟩
  rw[this];simp only[hc,GMw,HPw,Nat.reduceAdd,Nat.reduceLT]
 ·simp only[hc,GMw,HPw,Nat.reduceAdd,Nat.reduceLT,Co];by_cases hl:x.lv=1
  ·have:Dk L i x c=(decide (c>0)&&decide (c<=255)):=by
    unfold Dk;rw[Wo];simp only[Wc,zXe];exact⟨λh=>⟨by omega,h.1.2 hl⟩,λh=>⟨⟨by omega,λ_=>h.2⟩,λh'=>by omega⟩⟩
   rw[this];by_cases h0:c>0
   ·simp only[hl,h0,GMw,HPw,Nat.reduceAdd,Nat.reduceLT]
   ·simp only[hl,h0,GMw,HPw,Nat.reduceAdd,Nat.reduceLT]
  ·simp only[hl,GMw,HPw,Nat.reduceAdd,Nat.reduceLT];by_cases h0:c>0
   ·by_cases iJ:c<=(i:Int)
    ·obtain⟨m,rfl⟩:∃m:Nat,c=((m+1:Nat):Int):=⟨(c-1).toNat,by omega⟩;have hm:m<L.length:=by omega
     have hw:IntKind.i64.wrap (((m+1:Nat):Int)-1)=(m:Int):=by rw[Ao] <;> omega
     have cC:IntKind.i64.wrap (x.lv-1)=x.lv-1:=Ao (by omega) (by omega);have:Dk L i x ((m+1:Nat):Int)=decide (L[m].lv=x.lv-1):=by
      unfold Dk;rw[Wo];simp only[Wc,zXe,show (((m+1:Nat):Int)-1).toNat=m by omega,VO hm,Wa];exact⟨λh=>(h.2 (by omega) h0).2 _ rfl,λh=>⟨⟨by omega,λh'=>absurd h' hl⟩,λ_ _=>⟨iJ,λy e=>by rw[<-e];exact h⟩⟩⟩
     rw[this];simp only[h0,iJ,GMw,HPw,Nat.reduceAdd,Nat.reduceLT,hw,cC,A1 hm,Ar,AE,Co]
    ·have:Dk L i x c=false:=by
      unfold Dk;rw[X3];right;rw[decide_eq_false_iff_not];intro h;exact iJ (h (by omega) h0).1
     rw[this];simp only[h0,iJ,GMw,HPw,Nat.reduceAdd,Nat.reduceLT]
   ·have:Dk L i x c=false:=by
     unfold Dk;rw[X3,X3];left;left;rw[decide_eq_false_iff_not];omega
    rw[this];simp only[h0,GMw,HPw,Nat.reduceAdd,Nat.reduceLT]
theorem c05_loose (L:List Nd)(tk:Tok)(H:Aa)(hL:L.length<1152921504606846976):Sh.f2k (.sl (enL cNd L) tk) H=some (.ret (.bool (AB L)),H):=by
 unfold Sh.f2k;rw[show AB L=(List.range L.length).all (G5 L) from rfl];simp only[GMw,HPw,Nat.reduceAdd,Nat.reduceLT,Ax];have key:∀(d i:Nat) (G:Aa),i+d=L.length->(∀j,j<i->G5 L j=true)->∀n,d<n->Ap (λrec1 vs H1=>Sh.f19 H rec1 (ag vs 0) (ag vs 1) (ag vs 2) (ag vs 3) H1) n [.sl (enL cNd L) tk,.sl (enL cNd L) tk,.i6 (L.length:Int),.i6 (i:Int)] (H++G)=some (.ret (.bool ((List.range L.length).all (G5 L))),H):=by
  intro d
  induction d with
  | zero=>
   intro i G hi aE n hn;obtain⟨n,rfl⟩:∃k,n=k+1:=⟨n-1,by omega⟩;have:(List.range L.length).all (G5 L)=true:=by
    rw[Wi];intro j hj;exact aE j (by have:=X1.1 hj;omega)
   rw[CF,this];generalize Ap (λrec1 vs H1=>Sh.f19 H rec1 (ag vs 0) (ag vs 1) (ag vs 2) (ag vs 3) H1) n=rec;unfold Sh.f19;have aD:¬(i:Int)<(L.length:Int):=by omega
   simp only[GMw,HPw,Nat.reduceAdd,Nat.reduceLT,aD]
  | succ d ih=>
   intro i G hi aE n hn;obtain⟨n,rfl⟩:∃k,n=k+1:=⟨n-1,by omega⟩;have hlt:i<L.length:=by omega
   have aD:(i:Int)<(L.length:Int):=by omega
   rw[CF];have cM:G5 L i=false->(List.range L.length).all (G5 L)=false:=λh=>by rw[Xy];exact⟨i,by simpa using hlt,by simp[h]⟩
   have pI:G5 L i=true->∀G',Ap (λrec1 vs H1=>Sh.f19 H rec1 (ag vs 0) (ag vs 1) (ag vs 2) (ag vs 3) H1) n [.sl (enL cNd L) tk,.sl (enL cNd L) tk,.i6 (L.length:Int),.i6 ((i+1:Nat):Int)] (H++G')=some (.ret (.bool ((List.range L.length).all (G5 L))),H):=λh G'=>ih (i+1) G' (by omega) (λj hj=>by
    by_cases e:j=i
    ·rw[e];exact h
    ·exact aE j (by omega)) n (by omega)
   generalize Ap (λrec1 vs H1=>Sh.f19 H rec1 (ag vs 0) (ag vs 1) (ag vs 2) (ag vs 3) H1) n=rec at pI;unfold Sh.f19;have hg:L[i]? = some L[i]:=VO hlt;simp only[GMw,HPw,Nat.reduceAdd,Nat.reduceLT,Aj,aD,A1 hlt,Jy,Co,FY,Fp,FR];by_cases h1:L[i].lv<1
   ·have:G5 L i=false:=by simp only[G5,hg];simp;intro;omega
    rw[cM this];simp only[h1,GMw,HPw,Nat.reduceAdd,Nat.reduceLT]
   ·by_cases h2:L[i].lv>1329
    ·have:G5 L i=false:=by simp only[G5,hg];simp;intro;omega
     rw[cM this];simp only[h1,h2,GMw,HPw,Nat.reduceAdd,Nat.reduceLT,Co,FY,Fp,FR]
    ·have hd:G5 L i=(List.range 4).all λk=>Dk L i L[i] (L[i].kid k):=by
      simp only[G5,hg];rw[zXc (by omega)];rfl
     simp only[h1,h2,GMw,HPw,Nat.reduceAdd,Nat.reduceLT,Co,FY,Fp,FR];have:=EZ 4 (λk=>Dk L i L[i] (L[i].kid k)) (λk=>[.sl (enL cNd L) tk,.i6 (i:Int),.sl (enL cNd L) tk,.i6 (L.length:Int),.i6 (i:Int),.agg (Jz L[i]),.i6 (k:Int)]) (H++(G++[.cel 0 (cNd L[i])])) (rec [.sl (enL cNd L) tk,.sl (enL cNd L) tk,.i6 (L.length:Int),.i6 ((i+1:Nat):Int)] (H++(G++[.cel 0 (cNd L[i])]))) (some (.ret (.bool false),H)) (by decide) (λaA k hk=>?_) (λaA=>?_)
      (G:=λaA vs H1=>Sh.f4m H rec aA (ag vs 0) (ag vs 1) (ag vs 2) (ag vs 3) (ag vs 4) (ag vs 5) (ag vs 6) H1)
     ·refine this.trans ?_;rw[<-hd];cases hb:G5 L i with
      | true=>simp only[if_true];exact pI hb _
      | false=>simp only[VY,if_false];rw[cM hb]
     ·have hk':(k:Int)<4:=by omega
      unfold Sh.f4m;simp only[GMw,HPw,Nat.reduceAdd,Nat.reduceLT,Aj,hk',ag_kid _ hk,c05_kid hlt (by omega) (by omega) (L[i].kid k) _ hL];cases Dk L i L[i] (L[i].kid k)with
      | true=>simp only[GMw,HPw,Nat.reduceAdd,Nat.reduceLT,Au (show k<9223372036854775807 by omega),if_true]
      | false=>simp only[GMw,HPw,Nat.reduceAdd,Nat.reduceLT,VY,if_false]
     ·unfold Sh.f4m;simp only[GMw,HPw,Nat.reduceAdd,Nat.reduceLT,Aj,show ¬(((4:Nat):Int)<4) from by decide,Au (show i<9223372036854775807 by omega)]
 have:=key L.length 0 [] (by omega) (λj hj=>by omega) AU (by rw[Dr];exact hL);rw[Wx]at this;exact this
def Qk (F:List Bool)(x:Nd)(k:Nat):Bool:=!decide (x.kid k=0)&&(decide (x.lv=1)||F.getD (x.kid k).toNat false)
def fulS (F:List Bool)(x:Nd):Bool:=(List.range 4).any (Qk F x)
theorem ful_emp {E:List Bool}{x:Nd}(h1:1<=x.lv)(hE:∀k,k<4->1<x.lv->(x.kid k).toNat<E.length):fulS (E.map (!·)) x = !My E x:=by
 unfold fulS My;have each:∀k,k<4->Qk (E.map (!·)) x k = !(decide (x.kid k=0)||(decide (1<x.lv)&&E.getD (x.kid k).toNat true)):=by
  intro k hk;unfold Qk;by_cases hl:x.lv=1
  ·have:¬1<x.lv:=by omega
   simp[hl]
  ·have cD:1<x.lv:=by omega
   have:=hE k hk cD;simp[hl,cD,VW,VO this]
 show ((Qk _ x 0||(Qk _ x 1||(Qk _ x 2||(Qk _ x 3||false))))) = !(_&&(_&&(_&&(_&&true))));rw[each 0 (by omega),each 1 (by omega),each 2 (by omega),each 3 (by omega)];simp only[Bool.not_and,WH]
theorem c05_full1 {H:Aa}{pn po q m:Nat}{x:Nd}{F:List Bool}(hn:H[pn]? = some (.cel 0 (cNd x)))(ho:H[po]? = some (.cel 0 [.ms q 0 0 m m 1 true]))(hq:H[q]? = some (.cel 0 (flat cB F)))(hm:F.length=m){k:Nat}(hk:k<4)(h0:0<=x.kid k)(hb:x.lv≠1->x.kid k≠0->(x.kid k).toNat<m) :
  Sh.f4o (.i6 (x.kid k)) (.ptr pn 0 0) (.ptr po 0 0) H=some (.ret (.bool (Qk F x k)),H):=by
 have l1:=ST hn;have l2:=C8 (o:=0) (sz:=1) ho;unfold Sh.f4o Qk;by_cases hc:x.kid k=0
 ·simp only[hc,GMw,HPw,Nat.reduceAdd,Nat.reduceLT]
 ·by_cases hl:x.lv=1
  ·simp only[hc,hl,l1,GMw,HPw,Nat.reduceAdd,Nat.reduceLT]
  ·have hlt:=hb hl hc;obtain⟨c,hcc⟩:∃c:Nat,x.kid k=(c:Int):=⟨(x.kid k).toNat,by omega⟩;rw[hcc,zXl]at hlt;have hi:=CL (sz:=1) (id:=q) (g:=0) (off:=0) (n:=m) (cap:=m) (ex:=true) (K:=.i64) hlt;have hld:=Iy (f:=cB) (l:=F) (Aw hq) (show c<F.length by omega);simp only[VU,Wg]at hi;rw[hcc]at hc ⊢;simp only[hc,hl,l1,l2,GMw,HPw,Nat.reduceAdd,Nat.reduceLT,hi,hld,zXl,VW,VO (show c<F.length by omega),Option.getD_some,zXh]
theorem c05_any {H:Aa}{pn po q m:Nat}{x:Nd}{F:List Bool}(hn:H[pn]? = some (.cel 0 (cNd x)))(ho:H[po]? = some (.cel 0 [.ms q 0 0 m m 1 true]))(hq:H[q]? = some (.cel 0 (flat cB F)))(hm:F.length=m)(h0:∀k,k<4->0<=x.kid k)(hb:∀k,k<4->x.lv≠1->x.kid k≠0->(x.kid k).toNat<m) :
  Sh.f4r (.ms pn 0 1 4 4 1 true) (.fn 238 [.ptr pn 0 0,.ptr po 0 0]) H=some (.ret (.bool (fulS F x)),H):=by
 unfold Sh.f4r Sh.f4q;simp only[GMw,len_ms,show ((4:Nat):Int)=4 from rfl];have key:=Oa (G:=λrec1 vs H1=>Sh.f4p H rec1 (ag vs 0) (ag vs 1) (ag vs 2) (ag vs 3) H1) 4 (Qk F x) (λk=>[.ms pn 0 1 4 4 1 true,.fn 238 [.ptr pn 0 0,.ptr po 0 0],.i6 4,.i6 (k:Int)]) H (some (.ret (.i6 (-1)),H)) (λk=>some (.ret (.i6 (k:Int)),H)) (by decide) (λrec k hk=>?_) (λrec=>?_)
 ·rw[show (((0:Nat):Int))=0 from rfl]at key;rw[key];cases hf:(List.range 4).find? (Qk F x)with
  | none=>
   have:fulS F x=false:=by
    unfold fulS;rw[List.any_eq_false];intro k hk;exact XU.1 hf k hk
   simp only[GMw,this,show decide ((-1:Int)>=0)=false from by decide]
  | some k=>
   have:fulS F x=true:=by
    unfold fulS;rw[List.any_eq_true];exact⟨k,List.mem_of_find?_eq_some hf,List.find?_some hf⟩
   simp only[GMw,this,show decide ((k:Int)>=0)=true from by simp]
 ·have hk':(k:Int)<4:=by omega
  have hi:=CL (sz:=1) (id:=pn) (g:=0) (off:=1) (n:=4) (cap:=4) (ex:=true) (K:=.i64) hk;have hld:=Vj hn hk;have rT:=c05_full1 hn ho hq hm hk (h0 k hk) (hb k hk);simp only[Wg]at hi;unfold Sh.f4p C7;simp only[GMw,Aj,hk',hi,hld,DF,ent,if_true,List.cons_append,List.nil_append,ap3,rT];cases Qk F x k with
  | true=>simp only[GMw,if_true]
  | false=>simp only[GMw,VY,if_false,Au (show k<9223372036854775807 by omega)]
 ·unfold Sh.f4p;simp only[GMw,Aj,show ¬(((4:Nat):Int)<4) from by decide]
theorem map_take_not (L:List Nd)(i:Nat)(hi:i<L.length):((A4 (L.take i)).map (!·)++List.replicate (L.length-i) false).set (i+1) (!My (A4 (L.take i)) L[i])=(A4 (L.take (i+1))).map (!·)++List.replicate (L.length-(i+1)) false:=by
 have hl:((A4 (L.take i)).map (!·)).length=i+1:=by rw[WW,CT,Wj];omega
 rw[W5 _ _ (by omega),hl,WB,V8 L hi,Y7,show L.length-i=(L.length-(i+1))+1 by omega,zXm,List.set_cons_zero,VZ]
 rfl
theorem c05_full (L:List Nd)(tk:Tok)(H:Aa)(hL:L.length<140737488355327)(hl:AB L=true):Sh.f2l (.sl (enL cNd L) tk) H=some (.ret (.sl (enL cB ((A4 L).map (!·))) .no),H):=by
 have cX:=Fz (f:=cB) (a:=false) (n:=L.length+1) (bytes:=1) (H:=H) (by omega) (by omega);unfold Sh.f2l;simp only[Ax,GMw,HPw,Nat.reduceAdd,Nat.reduceLT,Au (show L.length<9223372036854775807 by omega),cX];have key:=Bq (G:=λrec1 vs H1=>Sh.f79 H rec1 (ag vs 0) (ag vs 1) (ag vs 2) (ag vs 3) H1) (σ:=Nat×Aa) (λs=>s.1<=L.length)
  (λs=>[.ptr (H.length+1) 0 0,.sl (enL cNd L) tk,.i6 (L.length:Int),.i6 (s.1:Int)]) (λs=>H++(.cel 0 (flat cB ((A4 (L.take s.1)).map (!·)++List.replicate (L.length-s.1) false))::.cel 0 [.ms H.length 0 0 (L.length+1) (L.length+1) 1 true]::s.2)) (λs=>L.length-s.1)
  (λ_=>some (.ret (.sl (enL cB ((A4 L).map (!·))) .no),H)) (λs rec hs hrec=>?_) (0,[]) (Wv _) (by dsimp only;omega)
 ·rw[List.take_zero]at key;have e:(A4 []).map (!·)++List.replicate (L.length-0) false=List.replicate (L.length+1) false:=by simp[A4,zXm]
  rw[e]at key;exact key
 ·obtain⟨i,G⟩:=s;dsimp only at hs hrec ⊢;unfold Sh.f79;by_cases hi:i<L.length
  ·have aD:(i:Int)<(L.length:Int):=by omega
   obtain⟨l1,l2,l3⟩:=AO hl hi;have hElen:(A4 (L.take i)).length=i+1:=by rw[CT,Wj];omega
   have hFlen:((A4 (L.take i)).map (!·)++List.replicate (L.length-i) false).length=L.length+1:=by rw[VX,WW,hElen,Yf];omega
   have pA:fulS ((A4 (L.take i)).map (!·)++List.replicate (L.length-i) false) L[i] = !My (A4 (L.take i)) L[i]:=by
    rw[<-ful_emp l1 (λk hk h1=>by
     obtain⟨q1,q2,q3⟩:=l3 k hk;rw[hElen];by_cases h0:0<L[i].kid k
     ·have:=(q3 h1 h0).1;omega
     ·omega)]
    unfold fulS Qk
    congr 1
    funext k
    by_cases aJ:L[i].lv=1
    ·simp[aJ]
    ·by_cases hk:k<4
     ·obtain⟨q1,q2,q3⟩:=l3 k hk;have:(L[i].kid k).toNat<((A4 (L.take i)).map (!·)).length:=by
       rw[WW,hElen];by_cases h0:0<L[i].kid k
       ·have:=(q3 (by omega) h0).1;omega
       ·omega
      rw[VW,VR this,VW]
     ·have e3:L[i].kid k=L[i].kid 3:=by
       match k,hk with
       | 0,h=>exact absurd (by decide) h
       | 1,h=>exact absurd (by decide) h
       | 2,h=>exact absurd (by decide) h
       | n+3,_=>rfl
      obtain⟨q1,q2,q3⟩:=l3 3 (by decide);rw[e3];have:(L[i].kid 3).toNat<((A4 (L.take i)).map (!·)).length:=by
       rw[WW,hElen];by_cases h0:0<L[i].kid 3
       ·have:=(q3 (by omega) h0).1;omega
       ·omega
      rw[VW,VR this,VW]
   have xE:=map_take_not L i hi;generalize hF:(A4 (L.take i)).map (!·)++List.replicate (L.length-i) false=F at *;have any:=c05_any (H:=H++(.cel 0 (flat cB F)::.cel 0 [.ms H.length 0 0 (L.length+1) (L.length+1) 1 true]::(G++[.cel 0 (cNd L[i])]))) (pn:=H.length+(G.length+1+1)) (po:=H.length+1) (q:=H.length) (m:=L.length+1) (x:=L[i]) (F:=F) (by simp) (by simp) (by simp) hFlen (λk hk=>(l3 k hk).1) (λk hk h1 h0=>by
    obtain⟨q1,q2,q3⟩:=l3 k hk;have:=(q3 (by omega) (by omega)).1;omega)
   have hsl:JS 4 1 (.ptr (H.length+(G.length+1+1)) 0 1) none none=some (.ms (H.length+(G.length+1+1)) 0 1 4 4 1 true):=by simp[JS,By]
   have gF:=CL (sz:=1) (id:=H.length) (g:=0) (off:=0) (n:=L.length+1) (cap:=L.length+1) (ex:=true) (K:=.i64) (i:=i+1) (by omega);simp only[VU,Wg]at gF;have hst:∀G' t,Af 1 (.ptr H.length 0 (i+1)) (.bool t) (H++(.cel 0 (flat cB F)::G'))=some (H++(.cel 0 (flat cB (F.set (i+1) t))::G')):=λG' t=>by
    rw[Kz,P0 rfl (by rw[show flat cB F=F.map Ab.bool from by
     clear pA xE any hF hFlen
     induction F with
     | nil=>rfl
     | cons c l ih=>rw[D4,ih];rfl];simp;omega)]
    simp only[zXb]
    congr 3
    have e:∀l:List Bool,flat cB l=l.map Ab.bool:=λl=>by
     induction l with
     | nil=>rfl
     | cons c l ih=>rw[D4,ih];rfl
    rw[e,e,List.map_set]
   have next:=hrec (i+1,G++[.cel 0 (cNd L[i])]) hi (by dsimp only;omega)
   dsimp only at next
   rw[<-xE]at next
   simp only[GMw,HPw,Nat.reduceAdd,Nat.reduceLT,Co,FY,Fp,FR,Aj,aD,A1 hi,Jy,hsl,any,Au (show i<9223372036854775807 by omega),gF,hst,pA];exact next
  ·have aD:¬(i:Int)<(L.length:Int):=by omega
   have:i=L.length:=by omega
   subst this;rw[WJ,WB,List.replicate_zero,Wx];have mN:=fall_ms (f:=cB) (l:=(A4 L).map (!·)) (H:=H++(.cel 0 (flat cB ((A4 L).map (!·)))::.cel 0 [.ms H.length 0 0 (L.length+1) (L.length+1) 1 true]::G)) (id:=H.length) (b:=H.length) (d:=5) (cap:=L.length+1) (ex:=true) (by simp) (VV _);rw[WW,CT]at mN;simp only[GMw,HPw,Nat.reduceAdd,Nat.reduceLT,Aj,aD,mN]
theorem ful_get (L:List Nd){n:Nat}(hn:n<L.length+1):((A4 L).map (!·)).getD n false = !(A4 L).getD n true:=by
 have h:n<(A4 L).length:=by rw[CT];exact hn
 rw[VW,VW,Wp,VO h];rfl
theorem ful_idx (L:List Nd){n:Nat}(hn:n<L.length+1)(H:Aa)(K:IntKind):∃e,Av 1 (.sl (enL cB ((A4 L).map (!·))) .no) (.int K (n:Int))=some e/\Ac false 1 e H=some (.bool (!(A4 L).getD n true)):=by
 have h:n<((A4 L).map (!·)).length:=by rw[WW,CT];exact hn
 refine⟨_,A1 h,?_⟩;have e:=ful_get L hn;rw[VW,VO h]at e;simp only[AE,zXh];rw[<-e];rfl
theorem VH (L:List Nd)(tk:Tok)(n:Nat)(H:Aa)(hL:L.length<140737488355327)(hl:AB L=true)(hn:n<=L.length):Sh.f4s (.sl (enL cNd L) tk) (.i6 (n:Int)) H=some (.ret (.bool ((A4 L).getD n true)),H):=by
 obtain⟨e,h1,h2⟩:=ful_idx L (n:=n) (by omega) H .i64;unfold Sh.f4s;simp only[GMw,HPw,Nat.reduceAdd,Nat.reduceLT,c05_full L tk H hL hl,h1,h2,Bool.not_not]
theorem c05_hollow (L:List Nd)(tk:Tok)(n:Nat)(H:Aa)(hL:L.length<140737488355327)(hl:AB L=true)(hn:n<=L.length):Sh.f4v (.sl (enL cNd L) tk) (.i6 (n:Int)) H=some (.ret (.bool (DA L n)),H):=by
 unfold Sh.f4v DA;cases n with
 | zero=>simp only[GMw,HPw,Nat.reduceAdd,Nat.reduceLT,show ((0:Nat):Int)=0 from rfl,ne_eq,not_true_eq_false]
 | succ n=>
  have hi:n<L.length:=hn;have e0:¬((n+1:Nat):Int)=0:=by omega
  obtain⟨l1,l2,l3⟩:=AO hl hi;rw[Em rfl hi];generalize hx:L[n]=x at l1 l2 l3;have hw:IntKind.i64.wrap (((n+1:Nat):Int)-1)=(n:Int):=by rw[Ao] <;> omega
  simp only[GMw,HPw,Nat.reduceAdd,Nat.reduceLT,Co,FY,Fp,FR,e0,hw,A1 hi,hx,Ar,AE];by_cases h2:x.lv=1
  ·have:¬2<=x.lv:=by omega
   simp only[h2,GMw,HPw,Nat.reduceAdd,Nat.reduceLT,show ¬(2:Int)<=1 from by decide]
  ·have oJ:2<=x.lv:=by omega
   simp only[h2,oJ,GMw,HPw,Nat.reduceAdd,Nat.reduceLT,c05_full L tk H hL hl,hw,A1 hi,hx,Ar,ld_kids,ne_eq,XF,not_false_eq_true];have key:=EZ (G:=λrec1 vs H1=>Sh.f4u H rec1 (ag vs 0) (ag vs 1) (ag vs 2) (ag vs 3) H1) 4 (λk=>decide (x.kid k=0)||(List.range 4).all (OK L (A4 L) x k))
    (λk=>[.sl (enL cNd L) tk,.sl (enL cB ((A4 L).map (!·))) .no,.agg (Jz x),.i6 (k:Int)]) H (some (.ret (.bool true),H)) (some (.ret (.bool false),H)) (by decide) (λrec k hk=>?_) (λrec=>?_)
   ·refine key.trans ?_;rw[show hol L (A4 L) x=(List.range 4).all λk=>decide (x.kid k=0)||(List.range 4).all (OK L (A4 L) x k) from rfl];cases (List.range 4).all λk=>decide (x.kid k=0)||(List.range 4).all (OK L (A4 L) x k) <;> rfl
   ·have hk':(k:Int)<4:=by omega
    obtain⟨q1,q2,q3⟩:=l3 k hk;have aN:IntKind.i64.wrap ((k:Int)+1)=((k+1:Nat):Int):=Au (by omega);unfold Sh.f4u;simp only[GMw,Aj,hk',ag_kid _ hk];by_cases hc:x.kid k=0
    ·simp only[hc,GMw,aN,if_true]
    ·obtain⟨m,hm⟩:∃m:Nat,x.kid k=((m+1:Nat):Int):=⟨(x.kid k-1).toNat,by omega⟩;have h1:1<x.lv:=by omega
     obtain⟨r1,r2⟩:=q3 h1 (by omega);have hml:m<L.length:=by omega
     have hy:=r2 L[m] (by rw[show (x.kid k-1).toNat=m from by omega];exact VO hml);obtain⟨y1,y2,y3⟩:=AO hl hml;have hp:OK L (A4 L) x k=λj=>decide (j=3-k)||(if x.lv=2 then decide (L[m].kid j=0)else (A4 L).getD (L[m].kid j).toNat true):=by
      funext j;unfold OK;rw[Em hm hml]
     have cQ:IntKind.i64.wrap (((m+1:Nat):Int)-1)=(m:Int):=by rw[Ao] <;> omega
     have bT:¬((m+1:Nat):Int)=0:=by omega
     rw[hm];simp only[hp,bT,GMw,cQ,A1 hml,Ar,VU,ld_kids];refine EZ (G:=λaA vs H1=>Sh.f4t H rec aA (ag vs 0) (ag vs 1) (ag vs 2) (ag vs 3) (ag vs 4) (ag vs 5) (ag vs 6) (ag vs 7) H1) 4 _
      (λj=>[.sl (enL cNd L) tk,.sl (enL cB ((A4 L).map (!·))) .no,.i6 (k:Int),.i6 ((m+1:Nat):Int),.agg (Jz x),.i6 (k:Int),.agg (Jz L[m]),.i6 (j:Int)]) H _ _ (by decide) (λaA j hj=>?_) (λaA=>?_)
     ·have hj':(j:Int)<4:=by omega
      have jD:IntKind.i64.wrap (3-(k:Int))=3-(k:Int):=Ao (by omega) (by omega);have rF:IntKind.i64.wrap ((j:Int)+1)=((j+1:Nat):Int):=Au (by omega);have tB:decide ((j:Int)=3-(k:Int))=decide (j=3-k):=by rw[Wo];simp only[zXe];omega
      unfold Sh.f4t;simp only[GMw,Aj,hj',ag_kid _ hj,jD,tB];by_cases jN:j=3-k
      ·simp only[jN,GMw,if_true];simp only[<-jN,rF]
      ·by_cases hg:L[m].kid j=0
       ·have:(if x.lv=2 then decide (L[m].kid j=0)else (A4 L).getD (L[m].kid j).toNat true)=true:=by
         split
         ·simp[hg]
         ·rw[hg];exact DW L
        simp only[jN,this,GMw,if_true];simp only[hg,rF,GMw]
       ·by_cases cD:L[m].lv=1
        ·have h22:x.lv=2:=by omega
         simp only[jN,h22,GMw,hg,cQ,A1 hml,Ar,AE,VU,Co,cD,VY,if_true,if_false]
        ·have h22:¬x.lv=2:=by omega
         obtain⟨s1,s2,s3⟩:=y3 j hj;have hlt:=(s3 (by omega) (by omega)).1;obtain⟨g,lN⟩:∃g:Nat,L[m].kid j=(g:Int):=⟨(L[m].kid j).toNat,by omega⟩;obtain⟨e,f1,f2⟩:=ful_idx L (n:=g) (by omega) H .i64;rw[lN]at hg;simp only[jN,h22,GMw,lN,hg,cQ,A1 hml,Ar,AE,VU,Co,cD,if_false,f1,f2,zXl];cases (A4 L).getD g true with
         | true=>simp only[GMw,if_true,rF]
         | false=>simp only[GMw,VY,if_false]
     ·unfold Sh.f4t;simp only[GMw,Aj,show ¬(((4:Nat):Int)<4) from by decide,aN]
   ·unfold Sh.f4u;simp only[GMw,Aj,show ¬(((4:Nat):Int)<4) from by decide]
theorem c06_inner (L:List Nd)(tk:Tok)(n k:Nat)(H:Aa)(hL:L.length<140737488355327)(hl:AB L=true)(hn:n<L.length)(h2:2<=L[n].lv)(hk:k<4) :
  Sh.f4w (.sl (enL cNd L) tk) (.i6 ((n+1:Nat):Int)) (.i6 (k:Int)) H=some (.ret (.i6 (IX L L[n] k)),H):=by
 obtain⟨l1,l2,l3⟩:=AO hl hn;obtain⟨q1,q2,q3⟩:=l3 k hk;have hw:IntKind.i64.wrap (((n+1:Nat):Int)-1)=(n:Int):=by rw[Ao] <;> omega
 unfold Sh.f4w IX;simp only[GMw,hw,A1 hn,Ar,EP hk,AE,VU,Wg,Ez hk];by_cases hc:L[n].kid k=0
 ·simp only[hc,GMw,show ¬((0:Int)>0) from by decide,if_true]
 ·obtain⟨m,hm⟩:∃m:Nat,L[n].kid k=((m+1:Nat):Int):=⟨(L[n].kid k-1).toNat,by omega⟩;obtain⟨r1,r2⟩:=q3 (by omega) (by omega);have hml:m<L.length:=by omega
  have cQ:IntKind.i64.wrap (((m+1:Nat):Int)-1)=(m:Int):=by rw[Ao] <;> omega
  have jD:IntKind.i64.wrap (3-(k:Int))=((3-k:Nat):Int):=by rw[Ao] <;> omega
  have hgt:((m+1:Nat):Int)>0:=by omega
  have bT:¬((m+1:Nat):Int)=0:=by omega
  simp only[Em (c:=((m+1:Nat):Int)) rfl hml,hm,hgt,bT,GMw,cQ,jD,A1 hml,Ar,VU,EP (show 3-k<4 by omega),AE,Wg,Ez (show 3-k<4 by omega),if_false]
theorem c_clone (L:List Nd)(tk:Tok)(H:Aa)(hL:L.length<3518437208883):Sh.f4n (.sl (enL cNd L) tk) H=some (if L=[]then (.ret (.sl [] .ti),H)else (.ret (.sl (enL cNd L) (.own H.length)),H++[.tok L.length AN 5])):=by
 have hb:AS 5 []=some (.sl (enL cNd []) .ti):=rfl;unfold Sh.f4n;cases L with
 | nil=>
  have ha:AW AN 5 40 (.sl (enL cNd []) .ti) (.sl (enL cNd []) tk) H=some (.sl (enL cNd []) .ti,H):=Ea (by simp[Cj,enL]);have hn:Rn .eql (.sl (enL cNd []) tk)=some .ubool:=rfl;have hu:∀x:Out,Ak .ubool x x=x:=λx=>if_pos rfl;simp only[hn,GMw,hb,ha];exact hu _
 | cons x l=>
  have ha:AW AN 5 40 (.sl (enL cNd []) .ti) (.sl (enL cNd (x::l)) tk) H=some (.sl (enL cNd (x::l)) (.own H.length),H++[.tok (x::l).length AN 5]):=by
   have:=CR (f:=cNd) (l:=[]) (m:=x::l) (ty:=AN) (bytes:=40) (tk:=tk) (H:=H) (by simp) (by simp only[zXk];omega) (by simp only[zXk];omega);simpa using this
  have hn:Rn .eql (.sl (enL cNd (x::l)) tk)=some (.bool false):=rfl;simp only[hn,GMw,hb,ha,reduceCtorEq,if_false]
end Go.Gm
