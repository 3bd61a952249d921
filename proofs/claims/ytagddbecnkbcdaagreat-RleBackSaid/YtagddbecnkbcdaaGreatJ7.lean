/- Texts of this proof, joined. -/
import Derived.Test.YtagddbecnkbcdaaGreatJ3
import Derived.Test.YtagddbecnkbcdaaGreatJ4
import Derived.Test.YtagddbecnkbcdaaGreatJ5
import Derived.Test.YtagddbecnkbcdaaGreatJ6
import Derived.Test.YtagddbecnkbcdaaGreatChecked
import Derived.KernelRfl
import Derived.Lib.Bytealg
import Derived.Lib.ItoaNum
import Derived.Lib.Repeat
import Derived.Lib.Join
import Derived.Lib.TrimByte
import Derived.Laws.RangeAny
import Derived.Laws.RangeString
set_option linter.all false
namespace Go.Gm
open Go.Proofs
set_option maxRecDepth 100000
theorem Mm:AH Tryz.prog Gs 16 (ap0 Ufe):=mk0 .pure (Ar _ _) [] Tryz.func16
theorem Sd:AH Tryz.prog Gs 77 (ap2 UbE):=mk2 .keep (Ar _ _) [] Tryz.func77
theorem PY:AH Tryz.prog Gs 36 (ap1 UbF):=mk1 .pure ((Ag Sd (Ar _ _))) [] Tryz.func36
theorem Ci:AH Tryz.prog Gs 126 (ap1 UeR):=mk1 .keep (Ar _ _) [[]] Tryz.func126
theorem BZ:AH Tryz.prog Gs 128 (ap2 Uab):=mk2 .keep ((Ag Ci ((Ag Ls (Ar _ _))))) [[]] Tryz.func128
theorem Fw:AH Tryz.prog Gs 232 (ap2 Uat):=mk2 .keep (Ar _ _) [] Tryz.func232
theorem Lt:AH Tryz.prog Gs 221 (ap2 UbG):=mk2 .keep ((Ag Fw (Ar _ _))) [] Tryz.func221
theorem OM:AH Tryz.prog Gs 222 (ap1 UbH):=mk1 .keep ((Ag Ci ((Ag BZ (Ar _ _))))) [[0]] Tryz.func222
theorem BY:AH Tryz.prog Gs 127 (ap2 Ucz):=mk2 .keep ((Ag Ci (Ar _ _))) [[1000000]] Tryz.func127
theorem Jy:AH Tryz.prog Gs 129 (ap2 Uau):=mk2 .keep ((Ag Ci ((Ag BZ ((Ag BY (Ar _ _))))))) [[1000003,0,1],[1000006,0]] Tryz.func129
theorem In:AH Tryz.prog Gs 190 (ap2 Uav):=mk2 .keep ((Ag Jy ((Ag Ci ((Ag BY (Ar _ _))))))) [[1000000,0,1]] Tryz.func190
theorem Rp:AH Tryz.prog Gs 134 (ap2 UbI):=mk2 .keep (Ar _ _) [[0,1,5,12,13],[]] Tryz.func134
theorem I6:AH Tryz.prog Gs 187 (ap3 UeX):=mk3 .keep ((Ag Rp ((Ag BY (Ar _ _))))) [[]] Tryz.func187
theorem F0:AH Tryz.prog Gs 223 (ap1 Uaw):=mk1 .keep (Ar _ _) [] Tryz.func223
theorem Jw:AH Tryz.prog Gs 233 (ap2 UdK):=mk2 .keep ((Ag Fw (Ar _ _))) [] Tryz.func233
theorem Lu:AH Tryz.prog Gs 224 (ap2 UbJ):=mk2 .keep ((Ag Jw (Ar _ _))) [] Tryz.func224
theorem Sg:AH Tryz.prog Gs 225 (ap2 UbK):=mk2 .keep ((Ag Lr (Ar _ _))) [] Tryz.func225
theorem UU:AH Tryz.prog Gs 226 (ap3 UbL):=mk3 .pureN ((Ag DX (Ar _ _))) [[0,1,7,8,17,18,19]] Tryz.func226
theorem Us:AH Tryz.prog Gs 196 (ap1 UbN):=mk1 .pureN ((Ag Lu ((Ag UU ((Ag Sg (Ar _ _))))))) [[1000003,2,4,5,14],[2,5,6,36]] Tryz.func196
theorem Hw:AH Tryz.prog Gs 188 (ap3 Uag):=mk3 .keepN ((Ag BZ ((Ag BY ((Ag F0 ((Ag Us (Ar _ _))))))))) [[1000002,0,2,6,7],[0,2,6,7,8],[1000013,0,2,6,7,8],[1000018,0,6,7],[0,1,2,3,4,5,6,7,8,9,10,11,12,14,15,13,16]] Tryz.func188
theorem Lw:AH Tryz.prog Gs 186 (ap1 UbS):=mk1 .keep ((Ag Lt ((Ag OM ((Ag In ((Ag I6 ((Ag Hw (Ar _ _))))))))))) [[13,0,1,2,3,5,6,7,8,4,9,10,11,12],[9,0,1,2,3,5,6,4,7,8],[9,0,1,2,3,5,6,4,7,8]] Tryz.func186
theorem Up:AH Tryz.prog Gs 194 (ap1 UbT):=mk1 .keep (Ar _ _) [] Tryz.func194
theorem Of:AH Tryz.prog Gs 189 (ap2 UaO):=mk2 .keep ((Ag Ci ((Ag Up ((Ag BY (Ar _ _))))))) [[0,1,5],[],[1000006,0,5],[]] Tryz.func189
theorem Na:AH Tryz.prog Gs 125 (ap1 UbU):=mk1 .keep ((Ag BZ ((Ag Lw ((Ag I6 ((Ag Hw ((Ag Of ((Ag In (Ar _ _))))))))))))) [[0]] Tryz.func125
theorem Mh:AH Tryz.prog Gs 191 (ap1 UbW):=mk1 .keep ((Ag BZ ((Ag BY ((Ag F0 (Ar _ _))))))) [[],[0,3,4],[1000006,0,3,4],[]] Tryz.func191
open Go.Proofs
set_option maxRecDepth 100000
theorem Mf:AH Tryz.prog Gs 193 (ap1 UaP):=mk1 .keep ((Ag BZ ((Ag BY (Ar _ _))))) [[1000001,0],[],[],[1000015,0,3],[]] Tryz.func193
theorem D9:AH Tryz.prog Gs 206 (ap1 UaQ):=mv1 .keep (Ar _ _) [] Tryz.func206
theorem Ur:AH Tryz.prog Gs 200 (ap1 UbX):=mk1 .pureN ((Ag D9 ((Ag DX (Ar _ _))))) [] Tryz.func200
theorem Gv:AH Tryz.prog Gs 153 (ap2 UeK):=mk2 .pureN (Ar _ _) [] Tryz.func153
theorem RP:AH Tryz.prog Gs 151 (ap1 Uah):=mk1 .pureN ((Ag Ur ((Ag Gv (Ar _ _))))) [[1000002,0,2,3]] Tryz.func151
theorem Ng:AH Tryz.prog Gs 204 (ap3 UbY):=mk3 .keep (Ar _ _) [] Tryz.func204
theorem UX:AH Tryz.prog Gs 155 (ap2 Uca):=mk2 .pureN ((Ag Ng ((Ag DX (Ar _ _))))) [[1000001,0,1],[0,1,5,6,21,22,23],[1000014,0,1,5,6,7,8,9,21,22,23]] Tryz.func155
theorem Nc:AH Tryz.prog Gs 207 (ap3 UaR):=mk3 .keep (Ar _ _) [] Tryz.func207
theorem US:AH Tryz.prog Gs 157 (ap2 Ucb):=mk2 .pureN ((Ag Kd ((Ag D9 ((Ag Nc ((Ag DX (Ar _ _))))))))) [[1,6,7,17,18],[1000015,1,6,7,8,9,17,18]] Tryz.func157
theorem LD:AH Tryz.prog Gs 89 (ap2 UeN):=mk2 .pureN ((Ag UX ((Ag Gv ((Ag US ((Ag Kd (Ar _ _))))))))) [[2,3,4,5,6,0,1,7,8],[1000005,2,3,4]] Tryz.func89
theorem Mg:AH Tryz.prog Gs 192 (ap3 UaT):=mk3 .keep ((Ag RP ((Ag LD ((Ag F0 (Ar _ _))))))) [[1000004,0,1,2],[],[5,6,7,8,9,0,1,2,3,4,10,11,12],[0,2,6,56,57],[10,11,12,13,14,5,6,7,8,9,15,1,2,3,4,16,17,18,19,20,21,0,22,23,24]] Tryz.func192
theorem Me:AH Tryz.prog Gs 130 (ap1 Ucd):=mk1 .keep ((Ag Mh ((Ag BZ ((Ag Mf ((Ag Mg (Ar _ _))))))))) [[1000003,0]] Tryz.func130
theorem Oe:AH Tryz.prog Gs 69 (ap1 Uaz):=mk1 .keep ((Ag Na ((Ag Ci ((Ag BY ((Ag BZ ((Ag Jy ((Ag Me (Ar _ _))))))))))))) [[0]] Tryz.func69
theorem LS:AH Tryz.prog Gs 68 (ap1 UaU):=UZ ((Ag Oe (Ar _ _)))
theorem JP:AH Tryz.prog Gs 148 (ap1 UaV):=mk1 .pure (Ar _ _) [] Tryz.func148
theorem Ut:AH Tryz.prog Gs 85 (ap1 UaW):=mk1 .pure ((Ag LT (Ar _ _))) [] Tryz.func85
theorem Sk:AH Tryz.prog Gs 84 (ap1 Ucf):=mk1 .pure ((Ag Ut (Ar _ _))) [] Tryz.func84
noncomputable def EM:Orc:=AK
theorem EK:T2 Tryz.prog Gs false EM Tryz.f139 (.tw .lf (.tw (.tw .lf (.one (.loop [0,1,7,8] (.tw .lf (.tw (.tw .lf .lf) (.tw (.one (.tw .lf (.tw .lf (.tw (.tw .lf .lf) .lf)))) .lf)))))) (.tw .lf .lf))) .keep UeO:=by unfold T2;intros;kernel_rfl
theorem CN:AH Tryz.prog Gs 139 (ap2 UeO):=Rc mixed ((Ag JP ((Ag Sk (Ar _ _))))) Tryz.func139 (by kernel_rfl) EK
theorem Eb:AH Tryz.prog Gs 83 (ap2 Ucg):=mk2 .keep ((Ag CN (Ar _ _))) [] Tryz.func83
theorem Fz:AH Tryz.prog Gs 141 (ap1 Uch):=mv1 .keep (Ar _ _) [] Tryz.func141
theorem ES:AH Tryz.prog Gs 142 (ap1 Ua0):=mk1 .keep (Ar _ _) [[0,2,3],[0,1,4,5,6,7,8,9,10,11,12,13,2,3,14,15]] Tryz.func142
theorem Vay:AH Tryz.prog Gs 199 (ap2 UaY):=mk2 .pure ((Ag Kd (Ar _ _))) [] Tryz.func199
theorem Rt:AH Tryz.prog Gs 198 (ap1 Uci):=mk1 .keep (Ar _ _) [[3,6,7,8]] Tryz.func198
theorem HR:AH Tryz.prog Gs 144 (ap2 Ua1):=mk2 .pure ((Ag Vay ((Ag Rt (Ar _ _))))) [[]] Tryz.func144
noncomputable def EL:Orc:=AE
theorem EJ:T4 Tryz.prog Gs false EL Tryz.f227 (.tw .lf (.one (.loop [0,1,2,3,8] (.tw (.tw .lf (.tw .lf .lf)) (.tw (.one (.tw .lf (.one (.loop [0,1,2,3,8,9] (.tw (.tw (.reg [0,1,2,3,4,5,6,7,8,9,10,11,12,13,14,15,16]) (.tw .lf .lf)) (.tw (.one (.reg [0,1,5,6,7,8,9,10,11,12,13,14,15,2,3,4,16,17])) .lf)))))) .lf))))) .keep UeZ:=by unfold T4;intros;kernel_rfl
theorem EF:AH Tryz.prog Gs 227 (ap4 UeZ):=VnY mixed ((Ag HR (Ar _ _))) Tryz.func227 (by kernel_rfl) EJ
open Go.Proofs
set_option maxRecDepth 100000
theorem Fx:AH Tryz.prog Gs 240 (ap5 Ua2):=mk5 .keep (Ar _ _) [[0,1,2,3,10],[0,1,2,3,8,9,10,11,12,13,14,15,16,17,18,19,20,21,4,5,6,7,22,23]] Tryz.func240
theorem Gj:AH Tryz.prog Gs 236 (ap5 UaZ):=mk5 .keep ((Ag Fx (Ar _ _))) [[0,2,4,10,11]] Tryz.func236
noncomputable def FP (m:Nat):Orc:=Bk (UbO m)
theorem FN (m:Nat):T5 Tryz.prog Gs false (FP m) Tryz.f228 (.tw (.tw .lf (.tw (.tw .lf (.tw .lf (.tw (.one (.loop [0,1,4,10,11] (.tw (.tw .lf (.tw .lf .lf)) (.one (.tw .lf (.tw (.reg [0,1,2,3,4,5,6,7,8,9,10]) (.tw .lf .lf))))))) (.tw (.tw .lf (.one (.loop [0,10,13] (.tw (.tw .lf (.tw .lf .lf)) (.tw (.one (.reg [0,1,5,6,7,8,9,10,11,12,13,14,15,2,3,4,16,17])) .lf))))) .lf)))) .lf)) (.tw (.tw .lf (.tw (.tw .lf (.tw .lf (.tw (.one (.loop [0,2,4,14,15] (.tw (.tw .lf (.tw .lf .lf)) (.one (.tw .lf (.tw (.reg [0,1,2,3,4,5,6,7,8,9,10,11]) (.tw .lf .lf))))))) (.tw (.tw .lf (.one (.loop [0,14,17] (.tw (.tw .lf (.tw .lf .lf)) (.tw (.one (.reg [0,1,5,6,7,8,9,10,11,12,13,14,15,2,3,4,16,17])) .lf))))) .lf)))) .lf)) (.tw .lf (.tw .lf (.tw .lf (.join [0,1,2,3,4,18,19,20,21] (.tw .lf (.tw (.tw .lf .lf) (.tw .lf .lf))) (.tw .lf (.tw (.one (.loop [0,1,2,3,4,18,19,20,21,22] (.tw (.tw .lf (.tw .lf .lf)) (.one (.tw .lf (.tw (.reg [0,1,2,3,4,5,6,7,8,9,10,11,12,13]) (.tw .lf .lf))))))) (.tw .lf (.join [0,1,3,4,18,20,24] (.tw .lf (.tw .lf .lf)) (.join [0,3,4,18,24] (.tw .lf (.tw .lf .lf)) (.tw .lf (.tw .lf .lf))))))))))))) .keep (UbO (m+1)):=by unfold T5;intros;kernel_rfl
theorem Dn:∀m,AH Tryz.prog Gs 228 (ap5 (UbO m))
 |0=>Pk λ_ _ _ _ _ _=>rfl
 |m+1=>TU mixed (Ag (Dn m) ((Ag HR ((Ag Gj (Ar _ _)))))) Tryz.func228 (by kernel_rfl) (FN m)
theorem Gi:AH Tryz.prog Gs 197 (ap3 Ua8):=mk3 .keep ((Ag EF ((Ag (Dn AU) (Ar _ _))))) [[0,1,2,6,7,8],[0,1,2,6],[0,1,2,6,7,8],[1000019,0,1,2,6]] Tryz.func197
theorem DT:AH Tryz.prog Gs 143 (ap2 Ua9):=mk2 .keep ((Ag Gi (Ar _ _))) [] Tryz.func143
theorem Qa:AH Tryz.prog Gs 146 (ap2 Uco):=mk2 .pure ((Ag HR (Ar _ _))) [] Tryz.func146
noncomputable def Es:Orc:=AO
theorem Eo:T2 Tryz.prog Gs false Es Tryz.f145 (.tw .lf (.tw (.tw .lf (.tw (.tw .lf .lf) .lf)) (.tw (.tw .lf (.one (.loop [0,1,5] (.tw (.tw .lf (.tw .lf .lf)) (.tw (.one (.tw (.reg [0,1,2,3,4,5,6,7,8,9,10]) (.tw (.tw .lf (.tw (.tw .lf (.one (.loop [0,1,5,6,7] (.tw (.tw .lf (.tw .lf .lf)) (.join [0,1,5,6,7] (.one (.tw (.reg [0,1,2,3,4,5,6,7,8,9,10,11]) (.tw (.tw .lf .lf) .lf))) .lf))))) (.tw .lf (.tw .lf .lf)))) .lf))) .lf))))) (.tw .lf .lf)))) .keepN Uaj:=by unfold T2;intros;kernel_rfl
theorem El:AH Tryz.prog Gs 145 (ap2 Uaj):=Rc mixed ((Ag Qa (Ar _ _))) Tryz.func145 (by kernel_rfl) Eo
noncomputable def E5:Orc:=Bg
theorem Ew:T2 Tryz.prog Gs false E5 Tryz.f147 (.tw .lf (.tw .lf (.tw (.tw .lf (.tw (.tw .lf .lf) .lf)) (.tw (.tw .lf (.one (.loop [0,1,5,6] (.tw (.tw .lf (.tw .lf .lf)) (.join [0,1,5,6] (.one (.tw .lf (.tw .lf (.tw (.tw .lf .lf) .lf)))) .lf))))) (.tw .lf (.tw .lf .lf)))))) .keepN Uak:=by unfold T2;intros;kernel_rfl
theorem Et:AH Tryz.prog Gs 147 (ap2 Uak):=Rc mixed ((Ag CN ((Ag JP (Ar _ _))))) Tryz.func147 (by kernel_rfl) Ew
theorem Sj:AH Tryz.prog Gs 86 (ap1 Ucp):=mk1 .pureN ((Ag Fz ((Ag ES ((Ag DT ((Ag El ((Ag Et (Ar _ _))))))))))) [] Tryz.func86
theorem Nq:AH Tryz.prog Gs 150 (ap1 Ubd):=mk1 .pureN ((Ag Gv (Ar _ _))) [] Tryz.func150
theorem Vaw:AH Tryz.prog Gs 149 (ap2 Ucq):=mk2 .pureN ((Ag Nq ((Ag LD (Ar _ _))))) [[1,2,0,3,4]] Tryz.func149
theorem Nf:AH Tryz.prog Gs 202 (ap1 Ucr):=mk1 .keep (Ar _ _) [[1000001,0,2],[1000005,0,2]] Tryz.func202
theorem UV:AH Tryz.prog Gs 152 (ap1 Ucs):=mk1 .keep ((Ag DX ((Ag Nf (Ar _ _))))) [] Tryz.func152
theorem Si:AH Tryz.prog Gs 87 (ap1 Ube):=mk1 .pure ((Ag UV ((Ag Nq ((Ag RP ((Ag Vaw (Ar _ _))))))))) [[1000001,1]] Tryz.func87
theorem Uq:AH Tryz.prog Gs 203 (ap1 Uct):=mk1 .keep (Ar _ _) [] Tryz.func203
theorem UT:AH Tryz.prog Gs 154 (ap2 Ucv):=mk2 .pureN ((Ag Uq ((Ag DX (Ar _ _))))) [[1,5,19,20,21],[],[]] Tryz.func154
theorem Vax:AH Tryz.prog Gs 88 (ap1 Ucw):=mk1 .pureN ((Ag UT ((Ag Gv (Ar _ _))))) [] Tryz.func88
theorem UW:AH Tryz.prog Gs 158 (ap2 UaB):=mk2 .keep (Ar _ _) [] Tryz.func158
noncomputable def Mc (m:Nat):Orc:=ent 90 (ap3 (UaD m)) (ent 158 (ap2 UaB) noO)
theorem LX (m:Nat):T3 Tryz.prog Gs false (Mc m) Tryz.f90 (.tw .lf (.tw (.tw .lf (.tw (.tw .lf .lf) .lf)) (.tw .lf (.tw (.tw .lf (.one (.loop [0,1,7,17,18,19] (.tw .lf (.tw (.tw .lf .lf) (.tw (.one (.tw .lf (.tw .lf (.join [0,1,7,9,10,17,18,19] (.tw .lf (.tw .lf .lf)) (.join [0,1,7,9,10,17,18,19] (.tw .lf (.tw .lf .lf)) (.reg [1,2,3,4,5,6,0,7,8])))))) .lf)))))) (.tw .lf (.tw (.tw .lf (.one (.loop [0,1,11,48,49] (.tw .lf (.tw (.tw .lf .lf) (.tw (.one (.tw .lf (.one (.tw .lf (.tw .lf (.tw .lf (.tw .lf .lf))))))) .lf)))))) (.tw (.reg [1,2,3,4,5,6,7,0,8,9,10]) (.tw .lf .lf)))))))) .keep (UaD (m+1)):=by unfold T3;intros;kernel_rfl
theorem Hi:∀m,AH Tryz.prog Gs 90 (ap3 (UaD m))
 |0=>Vcn λ_ _ _ _=>rfl
 |m+1=>Vgr mixed (Ag (Hi m) ((Ag UW (Ar _ _)))) Tryz.func90 (by kernel_rfl) (LX m)
theorem UR:AH Tryz.prog Gs 208 (ap3 Ucx):=mk3 .pure (Ar _ _) [[]] Tryz.func208
theorem Se:AH Tryz.prog Gs 159 (ap1 Ubg):=mk1 .pure ((Ag UR (Ar _ _))) [[0,7,8,9],[0,3,7,8,9,23,24]] Tryz.func159
theorem Fy:AH Tryz.prog Gs 209 (ap1 Uc0):=mk1 .keep (Ar _ _) [] Tryz.func209
theorem Rq:AH Tryz.prog Gs 238 (ap3 Uc1):=mk3 .keep (Ar _ _) [] Tryz.func238
noncomputable def Hp:Orc:=CL
theorem Hn:T2 Tryz.prog Gs false Hp Tryz.f241 (.tw .lf (.tw (.tw .lf (.one (.loop [0,1,7,8] (.tw .lf (.tw (.tw .lf .lf) (.tw (.one (.tw .lf (.tw .lf (.tw (.tw .lf .lf) .lf)))) .lf)))))) (.tw .lf .lf))) .keep Uc3:=by unfold T2;intros;kernel_rfl
theorem GZ:AH Tryz.prog Gs 241 (ap2 Uc3):=Rc mixed ((Ag Rq (Ar _ _))) Tryz.func241 (by kernel_rfl) Hn
theorem Gk:AH Tryz.prog Gs 237 (ap2 Uc4):=mk2 .keep ((Ag GZ (Ar _ _))) [] Tryz.func237
open Go.Proofs
set_option maxRecDepth 100000
theorem Nb:AH Tryz.prog Gs 230 (ap1 Ubh):=mk1 .pureN ((Ag Gk (Ar _ _))) [[3,10,11,12],[3,4,5,6,0,1,2,7,8]] Tryz.func230
theorem Sf:AH Tryz.prog Gs 210 (ap2 Uc5):=mk2 .keep ((Ag Nb (Ar _ _))) [] Tryz.func210
theorem Rs:AH Tryz.prog Gs 211 (ap2 Uc8):=mk2 .keep ((Ag Nb (Ar _ _))) [[0,5,28,29],[0,5,6,7,28,29,40,41]] Tryz.func211
theorem Ru:AH Tryz.prog Gs 212 (ap3 Uc9):=mk3 .keep (Ar _ _) [] Tryz.func212
theorem Qb:AH Tryz.prog Gs 160 (ap2 Ubi):=mk2 .pureN ((Ag Fy ((Ag Sf ((Ag Rs ((Ag Ru (Ar _ _))))))))) [[0,1],[0,1,6,25]] Tryz.func160
theorem K8:AH Tryz.prog Gs 162 (ap2 Ubj):=mk2 .keep (Ar _ _) [[],[1,2,3,4,5,6,7,0,8,9,10],[]] Tryz.func162
noncomputable def T7 (m:Nat):Orc:=Iu (UeL m)
theorem SQ (m:Nat):T5 Tryz.prog Gs false (T7 m) Tryz.f161 (.tw .lf (.tw (.tw .lf (.tw .lf (.tw (.tw .lf .lf) .lf))) (.tw .lf (.join [0,1,4,9] (.tw .lf (.tw (.tw .lf (.one (.loop [0,1,3,4,9,30,31] (.tw .lf (.tw (.tw .lf .lf) (.tw (.one (.tw .lf .lf)) .lf)))))) .lf)) (.tw .lf (.tw .lf (.tw .lf .lf))))))) .keep (UeL (m+1)):=by unfold T5;intros;kernel_rfl
theorem LU:∀m,AH Tryz.prog Gs 161 (ap5 (UeL m))
 |0=>Pk λ_ _ _ _ _ _=>rfl
 |m+1=>TU mixed (Ag (LU m) ((Ag K8 (Ar _ _)))) Tryz.func161 (by kernel_rfl) (SQ m)
noncomputable def Vag:Orc:=JZ
theorem Vab:T2 Tryz.prog Gs false Vag Tryz.f91 (.tw .lf (.tw (.tw .lf (.tw (.tw .lf .lf) .lf)) (.tw .lf (.tw .lf (.tw .lf (.tw .lf (.tw .lf (.tw .lf (.tw .lf .lf))))))))) .pureN Ubl:=by unfold T2;intros;kernel_rfl
theorem Va:AH Tryz.prog Gs 91 (ap2 Ubl):=Rc mixed ((Ag Se ((Ag Qb ((Ag (LU AU) (Ar _ _))))))) Tryz.func91 (by kernel_rfl) Vab
theorem UY:AH Tryz.prog Gs 39 (ap1 Ubo):=mk1 .pureN ((Ag Eb ((Ag Sj ((Ag Si ((Ag Vax ((Ag LD ((Ag (Hi AU) ((Ag Va (Ar _ _))))))))))))))) [[2,4,5,19,20,21],[1,2,3,4,5,6,0,7,8],[2,5,8,9,40,41,42],[1,2,3,4,6,7,8,9,0,5,10,11,12,13,14,15,16]] Tryz.func39
theorem UP:AH Tryz.prog Gs 29 (ap2 Uff):=mk2 .pureN ((Ag PY ((Ag LS ((Ag UY (Ar _ _))))))) [[0,8,1,2,3,4,5,6,7,9,10],[]] Tryz.func29
theorem K5:AH Tryz.prog Gs 104 (ap1 UcD):=mk1 .keep (Ar _ _) [] Tryz.func104
theorem Mu:AH Tryz.prog Gs 93 (ap1 UcE):=mk1 .keep (Ar _ _) [] Tryz.func93
theorem Hx:AH Tryz.prog Gs 50 (ap1 Ubp):=mk1 .keep ((Ag Mu (Ar _ _))) [[0,3]] Tryz.func50
theorem Hf:AH Tryz.prog Gs 167 (ap1 Ubq):=mk1 .keep (Ar _ _) [[0,3],[0,3,4],[]] Tryz.func167
theorem Df:AH Tryz.prog Gs 170 (ap1 Uan):=mk1 .pureN (Ar _ _) [[0,3,4],[0,3,4,5,6]] Tryz.func170
theorem GH:AH Tryz.prog Gs 215 (ap2 Ubs):=mk2 .keep ((Ag Df (Ar _ _))) [[0,1,5,6],[0,1,5,6,7,8]] Tryz.func215
noncomputable def Od (m:Nat):Orc:=ent 218 (ap3 (UeT m)) noO
theorem Oa (m:Nat):T3 Tryz.prog Gs false (Od m) Tryz.f218 (.tw .lf (.tw (.tw .lf (.one (.loop [0,1,2,7] (.tw (.tw .lf (.tw .lf .lf)) (.tw (.one (.tw .lf (.tw (.tw .lf .lf) .lf))) .lf))))) (.tw (.tw .lf (.one (.loop [0,1,2,8] (.tw (.tw .lf (.tw .lf .lf)) (.join [0,1,2,8] (.one (.tw .lf (.tw .lf .lf))) .lf))))) (.tw .lf .lf)))) .keep (UeT (m+1)):=by unfold T3;intros;kernel_rfl
theorem Io:∀m,AH Tryz.prog Gs 218 (ap3 (UeT m))
 |0=>Vcn λ_ _ _ _=>rfl
 |m+1=>Vgr mixed (Ag (Io m) (Ar _ _)) Tryz.func218 (by kernel_rfl) (Oa m)
theorem L4:AH Tryz.prog Gs 173 (ap1 UcP):=mk1 .pure ((Ag Hf ((Ag GH ((Ag Df ((Ag (Io AU) (Ar _ _))))))))) [[3,4,5],[3,4,5,6],[],[3,7,8]] Tryz.func173
theorem Lz:AH Tryz.prog Gs 105 (ap1 UcQ):=mk1 .pure ((Ag Hx ((Ag L4 (Ar _ _))))) [] Tryz.func105
theorem Mo:AH Tryz.prog Gs 28 (ap1 Ubu):=mk1 .pure (Ar _ _) [] Tryz.func28
theorem Ip:AH Tryz.prog Gs 219 (ap1 UaF):=mk1 .keepN (Ar _ _) [[0]] Tryz.func219
theorem Da:AH Tryz.prog Gs 176 (ap1 Uda):=mk1 .pureN ((Ag Ip (Ar _ _))) [[0,3,4],[0,3,4,5,6]] Tryz.func176
theorem Ed:AH Tryz.prog Gs 175 (ap1 Ufa):=mk1 .pureN ((Ag Ip (Ar _ _))) [[0,3,4],[0,3,4,5,6,7],[1000016,0,3,4,5,6,7]] Tryz.func175
theorem Hz:AH Tryz.prog Gs 109 (ap1 Uao):=mk1 .keepN ((Ag Da ((Ag Ed (Ar _ _))))) [] Tryz.func109
theorem DD:AH Tryz.prog Gs 119 (ap2 UeP):=mk2 .pureN ((Ag Hz (Ar _ _))) [] Tryz.func119
open Go.Proofs
set_option maxRecDepth 100000
theorem Du:AH Tryz.prog Gs 64 (ap1 UeQ):=mk1 .pureN ((Ag DD (Ar _ _))) [[1000002,0,2,3]] Tryz.func64
theorem Nm:AH Tryz.prog Gs 213 (ap2 UcT):=mk2 .pureN ((Ag Da ((Ag Ed (Ar _ _))))) [[2,3,0,1,4,5,6]] Tryz.func213
theorem Nj:AH Tryz.prog Gs 166 (ap2 UcU):=mk2 .pureN ((Ag Nm ((Ag DD (Ar _ _))))) [[2,3,4,5,0,1,6,7]] Tryz.func166
theorem BO:AH Tryz.prog Gs 98 (ap1 UdB):=mk1 .pureN ((Ag Du ((Ag Nj (Ar _ _))))) [] Tryz.func98
theorem FV:AH Tryz.prog Gs 182 (ap2 Uem):=mk2 .keep (Ar _ _) [] Tryz.func182
theorem Np:AH Tryz.prog Gs 120 (ap2 UcV):=mk2 .pureN ((Ag Da ((Ag FV ((Ag Ed (Ar _ _))))))) [[5,6,7,8,9],[1000011,5,6,7,8,9,10],[1000014,5,6,7,8,9,10],[1000017,5,6,7,9,10]] Tryz.func120
theorem No:AH Tryz.prog Gs 183 (ap2 UcW):=mk2 .keep ((Ag Da ((Ag FV (Ar _ _))))) [[5,6,7]] Tryz.func183
theorem Nl:AH Tryz.prog Gs 121 (ap2 Ubw):=mk2 .pureN ((Ag No ((Ag Da ((Ag FV ((Ag Ed (Ar _ _))))))))) [[6,7,8,9,10],[1000015,6,7,8,10,11],[1000018,6,7,8,10,11],[1000022,6,7,8,9,10,11]] Tryz.func121
theorem CG:AH Tryz.prog Gs 63 (ap2 Ubn):=mk2 .pureN ((Ag Np ((Ag DD ((Ag Nl (Ar _ _))))))) [[2,3,4,5,6,0,1,7,8]] Tryz.func63
theorem CO:AH Tryz.prog Gs 97 (ap1 UeU):=mk1 .pureN ((Ag DD (Ar _ _))) [] Tryz.func97
theorem F1:AH Tryz.prog Gs 172 (ap2 UeV):=mk2 .pureN ((Ag CO ((Ag CG (Ar _ _))))) [[1,2,0,3,4]] Tryz.func172
theorem Cj:AH Tryz.prog Gs 103 (ap2 Uaa):=mk2 .pure ((Ag F1 (Ar _ _))) [] Tryz.func103
theorem L1:AH Tryz.prog Gs 171 (ap3 Uaq):=mk3 .pureN ((Ag BO ((Ag Cj ((Ag CG (Ar _ _))))))) [[0,4,5,7,8],[0,4,5,7,8,9,10,11],[1000014,0,4,5,7,8,9,10,11],[1000016,0,4,5,7,8,9,10,11,12,13],[],[1000024,0,4,5,7,8,9,10,11,15],[],[],[]] Tryz.func171
theorem Hg:AH Tryz.prog Gs 107 (ap1 Uby):=mk1 .pure (Ar _ _) [] Tryz.func107
theorem I7:AH Tryz.prog Gs 102 (ap1 Uar):=mk1 .pureN ((Ag L1 ((Ag Hg ((Ag BO ((Ag CO ((Ag CG ((Ag F1 (Ar _ _))))))))))))) [[0,1,2,3,4,5,7,8,9,6,10,12,13,14,11,15,16,17,18]] Tryz.func102
theorem GG:AH Tryz.prog Gs 51 (ap2 Ubz):=mk2 .pure ((Ag I7 ((Ag Du ((Ag Cj (Ar _ _))))))) [[2,3,0,1,4,5,6,9,10,7,8,11,12,13,14]] Tryz.func51
theorem Mp:AH Tryz.prog Gs 52 (ap1 Ub1):=mk1 .pure (Ar _ _) [[1,3,4],[1,3,4,5]] Tryz.func52
theorem Gl:AH Tryz.prog Gs 18 (ap3 Ufb):=mk3 .pure ((Ag GG ((Ag Mp (Ar _ _))))) [] Tryz.func18
theorem L0:AH Tryz.prog Gs 53 (ap3 Udc):=mk3 .pure ((Ag K5 ((Ag Lz ((Ag Mo ((Ag Gl (Ar _ _))))))))) [] Tryz.func53
theorem Nk:AH Tryz.prog Gs 122 (ap1 Ufg):=mk1 .pure (Ar _ _) [[1,4,5]] Tryz.func122
theorem Oi:AH Tryz.prog Gs 184 (ap2 Ub2):=mk2 .pure ((Ag BO ((Ag CO ((Ag Cj (Ar _ _))))))) [[1,2,0,3,4,5,6,7,8,9,10,11]] Tryz.func184
theorem Ke:AH Tryz.prog Gs 185 (ap3 Udd):=mk3 .pureN ((Ag BO ((Ag Cj ((Ag F1 (Ar _ _))))))) [[1000003,4,5,7,8,9,10],[1000006,4,5,7,8,10],[0,1,3,4,2,5]] Tryz.func185
theorem Ni:AH Tryz.prog Gs 123 (ap3 Ude):=mk3 .pure ((Ag Hg ((Ag Oi ((Ag BO ((Ag CG ((Ag Ke (Ar _ _))))))))))) [[],[3,4,5,9],[0,1,2,3,4,5,6,7,8,9,10,11,12,14,15,16,17,13,18],[0,1,3,4,2,5]] Tryz.func123
theorem Oh:AH Tryz.prog Gs 65 (ap2 Udf):=mk2 .pureN ((Ag GG ((Ag I7 ((Ag Nk ((Ag Du ((Ag CG ((Ag Ni (Ar _ _))))))))))))) [[2,4,6,8,10,12,13],[2,4,6,8,10,12,13,14,15],[5,6,3,4,7,10,11,8,9,12,2,13,0,1,14,15]] Tryz.func65
theorem Nn:AH Tryz.prog Gs 56 (ap2 Udg):=mk2 .pureN ((Ag Hz (Ar _ _))) [[0,1,6,7,8],[0,1,2,3,4,5,6,11,12,7,8,9,10,13]] Tryz.func56
open Go.Proofs
set_option maxRecDepth 100000
theorem Hy:AH Tryz.prog Gs 22 (ap1 Ufh):=mk1 .pure ((Ag Nn (Ar _ _))) [[1,3,4]] Tryz.func22
theorem Nh:AH Tryz.prog Gs 73 (ap1 Udj):=mk1 .pure (Ar _ _) [[1,3],[1,3,4]] Tryz.func73
theorem Mj:AH Tryz.prog Gs 74 (ap1 Udl):=mk1 .keep (Ar _ _) [[0,3,4],[1000007,0,3,4]] Tryz.func74
theorem Ly:AH Tryz.prog Gs 75 (ap2 UaH):=mk2 .keep ((Ag Du ((Ag Hy (Ar _ _))))) [] Tryz.func75
theorem Ml:AH Tryz.prog Gs 76 (ap2 Ub6):=mk2 .keep (Ar _ _) [] Tryz.func76
theorem K4:AH Tryz.prog Gs 34 (ap1 Udn):=mk1 .pureN ((Ag Nh ((Ag Mj ((Ag Ml ((Ag Ly (Ar _ _))))))))) [[1,3,4,5,6],[1000009,1,3,4,5,6],[1000015,1,3,5,6,7,8],[1,3,4,5,6,7,8,9],[1,3,4,5,6,7,8,9,10],[]] Tryz.func34
theorem Mi:AH Tryz.prog Gs 72 (ap1 Udp):=mk1 .keep (Ar _ _) [[0,3,4,5],[1000008,0,3,4,5]] Tryz.func72
theorem Mk:AH Tryz.prog Gs 31 (ap2 Ufi):=mk2 .pure ((Ag L0 ((Ag Oh ((Ag Hy ((Ag Du ((Ag K4 ((Ag Mi (Ar _ _))))))))))))) [[1000008,2,7,9],[0,1,2,5,6,7,3,4,8,9,10],[2,3,4,7,8,9,10,11,0,1,5,6,12,13,14,15,16,17,18]] Tryz.func31
theorem UQ:AH Tryz.prog Gs 67 (ap1 Ufj):=mk1 .pure ((Ag LS (Ar _ _))) [[]] Tryz.func67
theorem LE:AH Tryz.prog Gs 16 (ap0 Sl.gliderref11_Wide):=by rw[Sl.gliderref11_Wide_eq];exact Mm
theorem Nr:AH Tryz.prog Gs 29 (ap2 Sl.rle_Read):=by rw[Sl.rle_Read_eq];exact UP
theorem Hj:AH Tryz.prog Gs 31 (ap2 Sl.gliderref13_Text):=by rw[Sl.gliderref13_Text_eq];exact Mk
theorem Uu:AH Tryz.prog Gs 67 (ap1 Sl.rle_Hint):=by rw[Sl.rle_Hint_eq];exact UQ
theorem LC:AH Tryz.prog Gs 27 (ap0 Ufk):=mk0 .pure ((Ag LE ((Ag Nr ((Ag Hj ((Ag Uu (Ar _ _))))))))) [] Tryz.func27
open Go.Proofs
set_option maxRecDepth 100000
theorem L9:AH Tryz.prog Gs 55 (ap1 Udq):=mk1 .keep (Ar _ _) [] Tryz.func55
theorem L8:AH Tryz.prog Gs 21 (ap1 Ub8):=mk1 .pure ((Ag L9 (Ar _ _))) [] Tryz.func21
theorem L2:AH Tryz.prog Gs 165 (ap2 Ub9):=mk2 .pure ((Ag Cj (Ar _ _))) [] Tryz.func165
theorem Mr:AH Tryz.prog Gs 95 (ap1 Udv):=mk1 .pureN ((Ag L2 (Ar _ _))) [[0,3,4],[0,3,4,5],[],[],[1000015,0,3,4,5,7],[],[3,8,9],[1000024,3,8,9]] Tryz.func95
theorem K6:AH Tryz.prog Gs 96 (ap2 Udw):=mk2 .pure ((Ag BO ((Ag CO ((Ag Cj (Ar _ _))))))) [] Tryz.func96
noncomputable def Ma (m:Nat):Orc:=ent 99 (ap5 (UeW m)) (ent 98 (ap1 UdB) (ent 103 (ap2 Uaa) (ent 63 (ap2 Ubn) noO)))
theorem LV (m:Nat):T5 Tryz.prog Gs false (Ma m) Tryz.f99 (.tw .lf (.tw (.tw .lf (.tw (.tw .lf .lf) .lf)) (.tw .lf (.tw .lf (.tw (.tw .lf (.one (.loop [0,1,4,7,8,12,13,14] (.tw (.tw .lf (.tw .lf .lf)) (.join [0,1,4,7,8,12,13,14] (.one (.tw (.reg [0,2,3,4,1,5]) (.join [0,1,4,7,8,12,13,14,15,16] (.tw .lf (.tw .lf .lf)) (.join [0,1,4,7,8,12,13,14,15,16] (.tw .lf (.tw .lf .lf)) (.tw .lf (.tw (.tw .lf (.one (.loop [0,1,4,7,8,12,13,14,15,16,17,18] (.tw (.tw .lf (.tw .lf .lf)) (.join [0,1,4,7,8,12,13,14,15,16,17,18] (.one (.tw (.reg [0,1,2,3,4,5,6,7,8,14,15,16,9,10,11,12,13,17,18,19,20,21,22,23,24,25,26,27,28,29,30,36,37,38,31,32,33,34,35,39,40,41]) (.tw .lf .lf))) .lf))))) (.join [0,1,4,7,8,12,13,14,15,16,17] (.tw .lf (.tw .lf .lf)) (.tw .lf (.tw .lf .lf))))))))) .lf))))) (.tw .lf (.tw .lf .lf))))))) .keep (UeW (m+1)):=by unfold T5;intros;kernel_rfl
theorem Ha:∀m,AH Tryz.prog Gs 99 (ap5 (UeW m))
 |0=>Pk λ_ _ _ _ _ _=>rfl
 |m+1=>TU mixed (Ag (Ha m) ((Ag BO ((Ag Cj ((Ag CG (Ar _ _)))))))) Tryz.func99 (by kernel_rfl) (LV m)
theorem L7:AH Tryz.prog Gs 214 (ap2 Udz):=mk2 .keep ((Ag Df (Ar _ _))) [] Tryz.func214
theorem L6:AH Tryz.prog Gs 216 (ap3 Ud0):=mk3 .keep (Ar _ _) [] Tryz.func216
theorem K7:AH Tryz.prog Gs 168 (ap2 Ud2):=mk2 .pureN ((Ag L7 ((Ag GH ((Ag L6 (Ar _ _))))))) [[1,6],[1,6,7,8]] Tryz.func168
theorem Ms:AH Tryz.prog Gs 217 (ap2 UbC):=mk2 .pure (Ar _ _) [[0,3,5],[]] Tryz.func217
noncomputable def Mb (m:Nat):Orc:=ent 169 (ap5 (Ufc m)) (ent 217 (ap2 UbC) noO)
theorem LW (m:Nat):T5 Tryz.prog Gs false (Mb m) Tryz.f169 (.tw .lf (.tw (.tw .lf (.tw (.tw .lf .lf) .lf)) (.tw (.tw .lf (.tw (.tw (.reg [0,1,2,3,4,5,6,7,8]) .lf) .lf)) (.tw .lf (.tw (.tw .lf (.one (.loop [0,1,2,3,4,13,14] (.tw (.tw .lf (.tw .lf .lf)) (.tw (.one .lf) .lf))))) (.tw .lf (.join [2,3,4,15] (.tw .lf (.tw (.tw .lf .lf) .lf)) (.tw .lf (.tw .lf .lf))))))))) .keep (Ufc (m+1)):=by unfold T5;intros;kernel_rfl
theorem Hb:∀m,AH Tryz.prog Gs 169 (ap5 (Ufc m))
 |0=>Pk λ_ _ _ _ _ _=>rfl
 |m+1=>TU mixed (Ag (Hb m) ((Ag Ms (Ar _ _)))) Tryz.func169 (by kernel_rfl) (LW m)
theorem Ok:AH Tryz.prog Gs 100 (ap2 Ud5):=mk2 .pureN ((Ag Hf ((Ag K7 ((Ag Df ((Ag (Hb AU) (Ar _ _))))))))) [[1,2,0,3,4,5,6,7,8,9,10,11,12,13,14,15]] Tryz.func100
theorem Oj:AH Tryz.prog Gs 47 (ap1 Ud9):=mk1 .pureN ((Ag L8 ((Ag Mr ((Ag K6 ((Ag BO ((Ag CO ((Ag (Ha AU) ((Ag Ok (Ar _ _))))))))))))))) [[0,2,4],[2,5,6,7],[2,5,6,7]] Tryz.func47
theorem L5:AH Tryz.prog Gs 101 (ap2 UdA):=mk2 .keep (Ar _ _) [[0,1,5],[]] Tryz.func101
theorem Mt:AH Tryz.prog Gs 48 (ap2 UdC):=mk2 .pure ((Ag L5 (Ar _ _))) [] Tryz.func48
theorem Mn:AH Tryz.prog Gs 15 (ap2 Uad):=mk2 .pure ((Ag Mt (Ar _ _))) [] Tryz.func15
theorem K9:AH Tryz.prog Gs 27 (ap0 Sl.gliderlaw18_alive):=by rw[Sl.gliderlaw18_alive_eq];exact LC
open Go.Proofs
set_option maxRecDepth 100000
theorem LF:AH Tryz.prog Gs 15 (ap2 Sl.gliderref11_Same):=by rw[Sl.gliderref11_Same_eq];exact Mn
theorem L3:AH Tryz.prog Gs 20 (ap2 UdE):=mk2 .keep (Ar _ _) [[0,5]] Tryz.func20
theorem Mq:AH Tryz.prog Gs 49 (ap2 UdF):=mk2 .pureN ((Ag L3 ((Ag Oj (Ar _ _))))) [] Tryz.func49
theorem Og:AH Tryz.prog Gs 17 (ap3 Uae):=mk3 .pureN ((Ag Mq ((Ag Hx (Ar _ _))))) [[3,4,5,6,0,1,2,8,7,9]] Tryz.func17
theorem Ns:AH Tryz.prog Gs 17 (ap3 Sl.gliderref11_Of):=by rw[Sl.gliderref11_Of_eq];exact Og
theorem J7:AH Tryz.prog Gs 18 (ap3 Sl.gliderref11_Express):=by rw[Sl.gliderref11_Express_eq];exact Gl
theorem Kf:AH Tryz.prog Gs 10 (ap2 Uey):=mk2 .pure ((Ag K9 ((Ag Ns ((Ag J7 ((Ag Hj ((Ag Nr ((Ag LF (Ar _ _))))))))))))) [] Tryz.func10
theorem Vfg (A B:List Nd)(t t':Tok)(H:Aa)(hA:A.length<1000000000000):UdA (.sl (enL cNd A) t) (.sl (enL cNd B) t') H=some (.ret (.bool (decide (A=B))),H):=by
 unfold UdA;simp only[GMw,Aw];by_cases hl:A.length=B.length
 ·have hd:decide ((A.length:Int)=(B.length:Int))=true:=zXc (by omega);simp only[GMw,hd];have key:=Bv (G:=λrec1 vs H1=>Uex H rec1 (ag vs 0) (ag vs 1) (ag vs 2) H1) (σ:=Nat) (λi=>i<=A.length)
   (λi=>[.sl (enL cNd A) t,.sl (enL cNd B) t',.i6 (i:Int)]) (λ_=>H) (λi=>A.length-i) (λi=>some (.ret (.bool (decide (A.drop i=B.drop i))),H)) (λi rec hi hrec=>?_) 0 (WZ _) (by omega)
  simpa using key;unfold Uex;by_cases h:i<A.length;have h':i<B.length:=(by omega);have hlt:(i:Int)<(A.length:Int):=(by omega);have hw:=Au (show i<9223372036854775807 by omega);have:=hrec (i+1) h (by omega);rw[Xb h,Xb h'];simp only[GMw,Aj,Aw,hlt,Ay h,Ay h',JH,VnL,hw];by_cases he:A[i]=B[i];simp only[he,GMw,List.cons.injEq,true_and];exact this;simp only[he,GMw,List.cons.injEq,false_and];have hlt:¬(i:Int)<(A.length:Int):=(by omega);rw[XQ (by omega),XQ (by omega)];simp only[GMw,Aj,Aw,hlt]
 have hd:decide ((A.length:Int)=(B.length:Int))=false:=zXd (by omega);have hne:decide (A=B)=false:=zXd λh=>hl (by rw[h]);simp only[GMw,hd,hne]
theorem Vih (A B:List Nd)(H:Aa)(hA:A.length<1000000000000):UdC (.agg [.sl (enL cNd A) .no]) (.agg [.sl (enL cNd B) .no]) H=some (.ret (.bool (decide (A=B))),H):=by unfold UdC;simp only[GMw,HPw,Nat.reduceAdd,Nat.reduceLT,Vfg A B .no .no _ hA]
theorem Vib (r r':zAa)(A B:List Nd)(H:Aa)(hA:A.length<1000000000000):Uad (pat r A) (pat r' B) H=some (.ret (.bool (decide (r=r')&&decide (A=B))),H):=by
 unfold Uad pat Fb;have hq:Bl A=[.sl (enL cNd A) .no]:=rfl;have hq2:Bl B=[.sl (enL cNd B) .no]:=rfl;have hl:∀(c d:Ab)(G:Aa),Ad true 1 (.ptr 0 0 1) (.c0 [c,d]::G)=some (.agg [d]):=λc d G=>by simp only[Ad,Kw];rfl
 by_cases hr:r=r'
 ·have hd:(r==r')=true:=by simp[hr]
  have cF:decide (r=r')=true:=zXc hr;simp only[GMw,HPw,Nat.reduceAdd,Nat.reduceLT,KE,hd,cF,hl,Vih A B _ hA]
 ·have hd:(r==r')=false:=by simp[hr]
  have cF:decide (r=r')=false:=zXd hr;simp only[GMw,HPw,Nat.reduceAdd,Nat.reduceLT,KE,hd,cF]
def Lx (H:Aa)(p:Nat)(b:zAa)(a:Nat)(r:List Ab):Prop:=H[p]? = some (.c0 (.str b::.i6 (a:Int)::r))
theorem QB {H:Aa}{p a:Nat}{b:zAa}{r:List Ab}(h:Lx H p b a r):Ad false 1 (.ptr p 0 0) H=some (.str b):=by simp only[Ad,Ax h,Option.bind];rfl
theorem FC {H:Aa}{p a:Nat}{b:zAa}{r:List Ab}(h:Lx H p b a r):Ad false 1 (.ptr p 0 1) H=some (.i6 (a:Int)):=by simp only[Ad,Ax h,Option.bind];rfl
theorem Jh {H:Aa}{p a:Nat}{b:zAa}{r:List Ab}(h:Lx H p b a r):UeR (.ptr p 0 0) H=some (.ret (.bool (decide (a=b.length))),H):=by
 unfold UeR;simp only[GMw,Ah,Ae,W9,QB h,FC h];by_cases e:a=b.length
 ·have e':(a:Int)=(b.length:Int):=by omega
  simp[e,e']
 ·have e':¬(a:Int)=(b.length:Int):=by omega
  simp[e,e']
def TR (e:Int)(s:zAa):Ab:=.iface J9 (.agg [.i6 e,.str s])
theorem NC {H:Aa}{p a:Nat}{b:zAa}{r:List Ab}(h:Lx H p b a r)(s:zAa):Ucz (.ptr p 0 0) (.str s) H=some (.pan (if a=b.length then TR 3 s else TR 2 []),H):=by
 unfold Ucz;simp only[GMw,Jh h];by_cases e:a=b.length
 ·simp only[e,GMw]
  rfl
 ·simp only[e,GMw]
  rfl
theorem ML {H:Aa}(x:Ab):Uaw x H=some (.pan (TR 4 []),H):=rfl
theorem Wa (l:zAa)(c:UInt8):(0<=Lib.indexByte l c)↔c∈l:=by
 induction l with
 |nil=>simp[Lib.indexByte]
 |cons b l ih=>have hge:=Lib.indexByte_ge l c;unfold Lib.indexByte;by_cases h:b=c;simp[h];have h':¬c=b:=λe=>h e.symm;by_cases h2:Lib.indexByte l c = -1;have:¬c∈l:=λhm=>(by have:=ih.2 hm;omega);simp[h,h',h2,this];have h3:0<=Lib.indexByte l c:=(by omega);have h4:=ih.1 h3;simp[h,h2,h4];omega
def Bc (b:zAa)(a:Nat)(some:zAa):Bool:=match b[a]? with
 |none=>false
 |Option.some c=>some.contains c
theorem De {H:Aa}{p a:Nat}{b:zAa}{r:List Ab}(h:Lx H p b a r)(ha:a<=b.length)(s:zAa):Uab (.ptr p 0 0) (.str s) H=some (.ret (.bool (Bc b a s)),H):=by
 unfold Uab Bc;simp only[GMw,Jh h];by_cases e:a=b.length;simp only[e,GMw];rw[zYb (W7 _)]
 ·have hlt:a<b.length:=by omega
  rw[W4 hlt];have hi:UaM (.str s) (.int .u8 (b[a].toNat:Int)) H=some (.ret (.i6 (Lib.indexByte s b[a])),H):=by unfold UaM;simp
  simp only[e,GMw,Ah,Ae,W9,QB h,FC h,DC hlt,hi];by_cases hm:b[a]∈s;have:=(Wa s b[a]).2 hm;simp[hm,this];have:¬0<=Lib.indexByte s b[a]:=λhc=>hm ((Wa s b[a]).1 hc);simp[hm,this]
theorem ND {H:Aa}{p a:Nat}{b:zAa}{r:List Ab}(h:Lx H p b a r)(n:Int):Ai 1 (.ptr p 0 1) (.i6 n) H=some (H.set p (.c0 (.str b::.i6 n::r))):=by simp only[Ai,Ax h,Option.bind,Ab.acells];simp[Bw h,D7]
theorem VnO {H:Aa}{p a a':Nat}{b:zAa}{r:List Ab}(h:Lx H p b a r):Lx (H.set p (.c0 (.str b::.i6 (a':Int)::r))) p b a' r:=by
 have:p<H.length:=by rcases Xj p H.length with h' | h';exact h';unfold Lx at h;rw[zYb h']at h;cases h
 unfold Lx;simp[this]
def BW (H:Aa)(p:Nat)(b:zAa)(r:List Ab)(a:Nat):Aa:=H.set p (.c0 (.str b::.i6 (a:Int)::r))
theorem Ef {H:Aa}{p a:Nat}{b:zAa}{r:List Ab}(h:Lx H p b a r):BW H p b r a=H:=by
 unfold BW;apply Ye;intro i;by_cases e:p=i
 ·subst e;have:p<H.length:=by rcases Xj p H.length with h' | h';exact h';unfold Lx at h;rw[zYb h']at h;cases h
  rw[WJ this];exact h.symm
 rw[WA e]
theorem GN {H:Aa}{p a a':Nat}{b:zAa}{r:List Ab}(h:Lx H p b a r):Lx (BW H p b r a') p b a' r:=VnO h
theorem Vr (H:Aa)(p a a':Nat)(b:zAa)(r r':List Ab):BW (BW H p b r a) p b r' a'=BW H p b r' a':=by unfold BW;rw[Zg]
theorem VbS (H:Aa)(p a:Nat)(b:zAa)(r:List Ab):(BW H p b r a).length=H.length:=by unfold BW;simp
theorem KV {H:Aa}{p a a':Nat}{b:zAa}{r:List Ab}(h:Lx H p b a r)(n:Nat):Ai 1 (.ptr p 0 1) (.i6 (n:Int)) (BW H p b r a')=some (BW H p b r n):=by rw[ND (GN h)];exact congrArg some (Vr H p a' n b r r)
def OO (b:zAa)(a:Nat):Nat:=a+((b.drop a).takeWhile λc=>!([13,10]:zAa).contains c).length
theorem Vhj {b:zAa}{a:Nat}(h:a<b.length):OO b a=if Bc b a [13,10]then a else OO b (a+1):=by unfold OO Bc;rw[W4 h,Xb h,Yg];cases hc:([13,10]:zAa).contains b[a]with|true=>simp only[hc,Xo,if_true,if_false,WB,zXk,Nat.add_zero]|false=>simp only[hc,X2,if_true,if_false,WB,zXj];omega
theorem VjA {b:zAa}:OO b b.length=b.length:=by simp[OO]
theorem VnQ {H:Aa}{p a:Nat}{b:zAa}{r:List Ab}(h:Lx H p b a r)(ha:a<=b.length)(hb:b.length<1152921504606846976):UbH (.ptr p 0 0) H=some (.ret (.tup []),BW H p b r (OO b a)):=by
 unfold UbH;have key:=Bv (G:=λrec1 vs H1=>UdH H rec1 (ag vs 0) H1) (σ:=Nat) (λi=>i<=b.length) (λ_=>[.ptr p 0 0]) (λi=>BW H p b r i) (λi=>b.length-i)
  (λi=>some (.ret (.tup []),BW H p b r (OO b i))) (λi rec hi hrec=>?_) a ha (by omega)
 rw[Ef h]at key;exact key;unfold UdH;have hx:=GN (a':=i) h;simp only[GMw,Jh hx];by_cases e:i=b.length;simp only[e,GMw,VjA];have hlt:i<b.length:=(by omega);simp only[e,GMw,De hx hi];rw[Vhj hlt];cases hc:Bc b i [13,10]with|true=>simp only[GMw,Xo]|false=>simp only[GMw,X2,Ah,Ae,W9,FC hx,Au (show i<9223372036854775807 by omega),KV h];exact hrec (i+1) (by omega) (by omega)
def R6 (b:zAa)(a:Nat)(s:zAa):Ab:=if a=b.length then TR 3 s else TR 2 []
def crN (b:zAa)(a:Nat):Nat:=if Bc b a [13]then a+1 else a
theorem CE {b s:zAa}{a:Nat}(h:Bc b a s=true):a<b.length:=by rcases Xj a b.length with h' | h';exact h';unfold Bc at h;rw[zYb h']at h;cases h
theorem Vof {b:zAa}{a:Nat}(ha:a<=b.length):crN b a<=b.length:=by unfold crN;cases hs:Bc b a [13]with|true=>exact CE hs|false=>exact ha
def VpC (H:Aa)(p:Nat)(b:zAa)(r:List Ab)(a:Nat)(rest:zAa):Out:=
 if a=b.length then some (.ret (.tup []),H)
 else if Bc b (crN b a) [10]then some (.ret (.tup []),BW H p b r (crN b a+1))
 else some (.pan (R6 b (crN b a) (10::rest)),BW H p b r (crN b a))
theorem VnP {H:Aa}{p a:Nat}{b:zAa}{r:List Ab}(h:Lx H p b a r)(ha:a<=b.length)(hb:b.length<1152921504606846976)(rest:zAa)(hr:rest.length<=1000000):Uau (.ptr p 0 0) (.str rest) H=VpC H p b r a rest:=by
 unfold Uau VpC;simp only[GMw,Jh h];by_cases e:a=b.length;simp only[e,GMw]
 ·have key:∀c,c<=b.length->UdI H (.ptr p 0 0) (.str rest) (BW H p b r c)=if Bc b c [10]then some (.ret (.tup []),BW H p b r (c+1))else some (.pan (R6 b c (10::rest)),BW H p b r c):=by
   intro c hc;have hx:=GN (a':=c) h;unfold UdI;simp only[GMw,De hx hc];cases hs:Bc b c [10]with
   |true=>unfold Uez;simp only[GMw,Xo,Ah,Ae,W9,FC hx,Au (show c<9223372036854775807 by omega),KV h]
   |false=>
    have iD:Af .none .add (.str [10]) (.str rest)=some (.str (10::rest)):=Dk (by simp only[zXj,zXk];omega);simp only[GMw,X2,iD,NC hx]
    rfl
  simp only[e,GMw,De h ha,AJ];unfold crN;cases hs:Bc b a [13]with|true=>have hlt:a<b.length:=(by omega);have hm:=KV (a':=a) h (a+1);rw[Ef h]at hm;simp only[GMw,Ah,Ae,W9,FC h,Au (show a<9223372036854775807 by omega),hm];exact key (a+1) (by omega)|false=>have:=key a ha;rw[Ef h]at this;simp only[GMw];rw[Ef h];exact this
def cpN:zAa->zAa->Nat
 |a::l,b::m=>if a=b then cpN l m+1 else 0
 |_,_=>0
theorem Ll:∀a b:zAa,cpN a b<=a.length/\cpN a b<=b.length
 |[],_=>⟨WZ _,WZ _⟩
 |_::_,[]=>⟨WZ _,WZ _⟩
 |a::l,b::m=>by have:=Ll l m;unfold cpN;by_cases h:a=b;rw[if_pos h];simp only[zXj];omega;rw[if_neg h];exact⟨WZ _,WZ _⟩
theorem VgG:∀(a b:zAa)(i:Nat),i<cpN a b->a[i]? = b[i]?
 |[],_,i,h=>by simp[cpN]at h
 |_::_,[],i,h=>by simp[cpN]at h
 |a::l,b::m,i,h=>by
  unfold cpN at h;by_cases e:a=b;rw[if_pos e]at h;cases i with|zero=>simp[e]|succ i=>simpa using VgG l m i (by omega)
  rw[if_neg e]at h;omega
theorem VcY:∀(a b:zAa),cpN a b<a.length->cpN a b<b.length->a[cpN a b]? ≠ b[cpN a b]?
 |[],_,h,_=>by simp[cpN]at h
 |_::_,[],_,h=>by simp[cpN]at h
 |a::l,b::m,h,h2=>by by_cases e:a=b;have ec:cpN (a::l) (b::m)=cpN l m+1:=(by rw[cpN,if_pos e]);rw[ec]at h h2⊢;simpa using VcY l m (by simpa using h) (by simpa using h2);have ec:cpN (a::l) (b::m)=0:=(by rw[cpN,if_neg e]);rw[ec];simpa using e
theorem VhV (a b:zAa)(H:Aa)(ha:a.length<1152921504606846976):UbI (.str a) (.str b) H=some (.ret (.i6 (cpN a b:Int)),H):=by
 unfold UbI;have hm:(min (a.length:Int) (b.length:Int))=((min a.length b.length:Nat):Int):=by omega
 have hle:=Ll a b;have l1:C1 (.str a)=some (.i6 (a.length:Int)):=rfl;have l2:C1 (.str b)=some (.i6 (b.length:Int)):=rfl;simp only[GMw,l1,l2,Vlz,hm];have key:=Bv (G:=λrec1 vs H1=>UdJ H rec1 (ag vs 0) (ag vs 1) (ag vs 2) (ag vs 3) (ag vs 4) H1) (σ:=Nat) (λi=>i<=cpN a b)
  (λi=>[.str a,.str b,.i6 ((min a.length b.length:Nat):Int),.i6 ((min a.length b.length:Nat):Int),.i6 (i:Int)]) (λ_=>H) (λi=>cpN a b-i)
  (λ_=>some (.ret (.i6 (cpN a b:Int)),H)) (λi rec hi hrec=>?_) 0 (WZ _) (by omega)
 exact key;unfold UdJ;by_cases hlt:i<min a.length b.length;have hlt':(i:Int)<((min a.length b.length:Nat):Int):=(by omega);have h1:i<a.length:=(by omega);have h2:i<b.length:=(by omega);simp only[GMw,Aj,hlt',DC h1,DC h2];by_cases e:i=cpN a b;have hne:=VcY a b (by omega) (by omega);rw[<-e,W4 h1,W4 h2]at hne;have hn:¬((a[i].toNat:Int)=(b[i].toNat:Int)):=λhc=>hne (congrArg some (XL.1 (by omega)));simp only[hn,GMw,not_false_eq_true];rw[e];have hg:=VgG a b i (by omega);rw[W4 h1,W4 h2]at hg;have hg':=Yf hg;simp only[hg',GMw,not_true_eq_false,Au (show i<9223372036854775807 by omega)];exact hrec (i+1) (by omega) (by omega);have hlt':¬(i:Int)<((min a.length b.length:Nat):Int):=(by omega);simp only[GMw,Aj,hlt'];have:min a.length b.length=cpN a b:=(by omega);rw[this]
def Vlv (H:Aa)(p:Nat)(b:zAa)(r:List Ab)(a:Nat)(s rest:zAa):Out:=
 if cpN (b.drop a) s<s.length then some (.pan (R6 b (a+cpN (b.drop a) s) (s.drop (cpN (b.drop a) s)++rest)),BW H p b r (a+cpN (b.drop a) s))
 else some (.ret (.tup []),BW H p b r (a+cpN (b.drop a) s))
theorem Vl6 {H:Aa}{p a:Nat}{b:zAa}{r:List Ab}(h:Lx H p b a r)(ha:a<=b.length)(hb:b.length<1152921504606846976)(s rest:zAa)(hs:s.length<=1000000)(hr:rest.length<=1000000):UeX (.ptr p 0 0) (.str s) (.str rest) H=Vlv H p b r a s rest:=by
 unfold UeX Vlv;have hle:=Ll (b.drop a) s;have hd:(b.drop a).length=b.length-a:=WS;have hq:=VhV (b.drop a) s H (by omega);have l2:C1 (.str s)=some (.i6 (s.length:Int)):=rfl;generalize cpN (b.drop a) s=n at hq hle⊢;have hw:IntKind.i64.wrap ((a:Int)+(n:Int))=((a+n:Nat):Int):=by rw[Am]<;>omega
 have hm:=KV (a':=a) h (a+n);rw[Ef h]at hm;have hx:=GN (a':=a+n) h;simp only[GMw,Ah,Ae,W9,QB h,FC h,GM ha,hq,hw,hm,l2];by_cases hc:n<s.length
 ·have bU:(n:Int)<(s.length:Int):=by omega
  have iD:Af .none .add (.str (s.drop n)) (.str rest)=some (.str (s.drop n++rest)):=Dk (by rw[WS];omega);simp only[bU,GMw,GM hle.2,iD,NC hx,if_pos hc]
  rfl
 ·have bU:¬(n:Int)<(s.length:Int):=by omega
  simp only[bU,GMw,if_neg hc]
def Vl8 (b:zAa)(a:Nat)(s:zAa):Nat:=a+cpN (b.drop a) s
theorem Vl7 {b:zAa}{a:Nat}(ha:a<=b.length)(s:zAa):Vl8 b a s<=b.length:=by have:=(Ll (b.drop a) s).1;rw[WS]at this;unfold Vl8;omega
theorem Vny (c:UInt8)(H:Aa):UbT (.int .u8 (c.toNat:Int)) H=some (.ret (.bool (LM c)),H):=by
 unfold UbT LM;by_cases h:(c.toNat:Int)>32
 ·have:33<=c.toNat:=by omega
  simp[h,this];omega
 ·have:¬33<=c.toNat:=by omega
  simp[h,this]
def onB (b:zAa)(f a:Nat):Bool:=match b[a]? with
 |none=>false
 |some c=>decide (a-f<40)&&LM c
def Id (b:zAa)(f:Nat):Nat->Nat->Nat
 |0,a=>a
 |n+1,a=>if onB b f a then Id b f n (a+1)else a
def VeJ (H:Aa)(p:Nat)(b:zAa)(r:List Ab)(f e:Nat)(rest:zAa):Out:=
 if e=f then some (.pan (R6 b e (97::rest)),BW H p b r e)else some (.ret (.str ((b.take e).drop f)),BW H p b r e)
theorem VaX {H:Aa}{p a f:Nat}{b:zAa}{r:List Ab}(h:Lx H p b f r)(hf:f<=a)(ha:a<=b.length)(rest:zAa)(hr:rest.length<=1000000):(AJ (λj2=>
 (Ah (.ptr p 0 0)).bind λx51=>
 (Ac 1 x51).bind λx52=>
 (Ad false 1 x52 (BW H p b r a)).bind λx53=>
 (Af .none .eql x53 (.i6 (f:Int))).bind λx54=>
 Ak x54 (
 (Af .none .add (.str [97]) (.str rest)).bind λx55=>
 bK H (Ucz (.ptr p 0 0) x55 (BW H p b r a)) λx56 H57=>
 j2 [.ptr p 0 0,.i6 (f:Int)] H57) (
 j2 [.ptr p 0 0,.i6 (f:Int)] (BW H p b r a))) (λvs H1=>UdN H (ag vs 0) (ag vs 1) H1))=VeJ H p b r f a rest:=by
 have hx:=GN (a':=a) h;unfold VeJ;have iD:Af .none .add (.str [97]) (.str rest)=some (.str (97::rest)):=Dk (by simp only[zXj,zXk];omega);simp only[GMw,Ah,Ae,W9,FC hx];by_cases e:a=f
 ·simp only[e,GMw,iD,if_pos];subst e;simp only[NC hx]
  rfl
 ·have e':¬(a:Int)=(f:Int):=by omega
  simp only[e',GMw,if_neg e];unfold UdN;simp only[GMw,Ah,Ae,W9,FC hx,QB hx,Vo hf ha]
theorem Qw {b:zAa}{f a:Nat}(h:onB b f a=false):∀n,Id b f n a=a
 |0=>rfl
 |n+1=>by rw[Id,h];rfl
theorem VhE {b:zAa}{f a:Nat}(h:onB b f a=true)(hf:f<=a):Id b f (40-(a-f)) a=Id b f (40-(a+1-f)) (a+1):=by
 have:a-f<40:=by
  unfold onB at h;split at h
  cases h;simp at h;exact h.1
 have e:40-(a-f)=(40-(a+1-f))+1:=by omega
 rw[e,Id,h,if_pos rfl]
theorem VnJ {b:zAa}{f a:Nat}(h:onB b f a=true):a<b.length:=by rcases Xj a b.length with h' | h';exact h';unfold onB at h;rw[zYb h']at h;cases h
theorem Vl5 {H:Aa}{p f:Nat}{b:zAa}{r:List Ab}(h:Lx H p b f r)(hf:f<=b.length)(hb:b.length<1152921504606846976)(rest:zAa)(hr:rest.length<=1000000):UaO (.ptr p 0 0) (.str rest) H=VeJ H p b r f (Id b f 40 f) rest:=by
 unfold UaO;simp only[GMw,Ah,Ae,W9,FC h];have key:=Bv (G:=λrec1 vs H1=>UdO H rec1 (ag vs 0) (ag vs 1) (ag vs 2) H1) (σ:=Nat) (λi=>f<=i/\i<=b.length) (λ_=>[.ptr p 0 0,.str rest,.i6 (f:Int)]) (λi=>BW H p b r i) (λi=>b.length-i)
  (λi=>VeJ H p b r f (Id b f (40-(i-f)) i) rest) (λi rec hi hrec=>?_) f ⟨W7 _,hf⟩ (by omega)
 rw[Ef h,Xi,Nat.sub_zero]at key;exact key
 ·unfold UdO;obtain⟨h1,h2⟩:=hi;have hx:=GN (a':=i) h;have eM:=VaX h h1 h2 rest hr;simp only[GMw,Jh hx];by_cases e:i=b.length;have ho:onB b f i=false:=(by unfold onB;rw[e,zYb (W7 _)]);rw[Qw ho];simp only[e,GMw]at eM⊢;exact eM
  ·have hlt:i<b.length:=(by omega);have hw:IntKind.i64.wrap ((i:Int)-(f:Int))=((i-f:Nat):Int):=(by rw[Am]<;>omega);simp only[e,GMw,Ah,Ae,W9,FC hx,QB hx,hw];by_cases tW:i-f<40;have oQ:((i-f:Nat):Int)<40:=(by omega);simp only[oQ,GMw,Ae,W9,FC hx,QB hx,DC hlt,Vny];cases hs:LM b[i]with|true=>have ho:onB b f i=true:=(by unfold onB;rw[W4 hlt];simp[tW,hs]);rw[VhE ho h1];simp only[GMw,FC hx,Au (show i<9223372036854775807 by omega),KV h];exact hrec (i+1) ⟨by omega,by omega⟩ (by omega)|false=>have ho:onB b f i=false:=(by unfold onB;rw[W4 hlt];simp[hs]);rw[Qw ho];simpa only[GMw,Ah,Ae,W9,FC hx]using eM
   have oQ:¬((i-f:Nat):Int)<40:=(by omega);have ho:onB b f i=false:=(by unfold onB;rw[W4 hlt];simp[tW]);rw[Qw ho];simpa only[oQ,GMw,Ah,Ae,W9,FC hx]using eM
def Vjl (b:zAa)(a:Nat):Nat:=if a=b.length then a else if Bc b (crN b a) [10]then crN b a+1 else crN b a
theorem VlW {b:zAa}{a:Nat}(ha:a<=b.length):Vjl b a<=b.length:=by unfold Vjl;split;exact ha;split;rename_i h;exact CE h;exact Vof ha
theorem VbV {b:zAa}{f:Nat}:∀(n a:Nat),a<=b.length->a<=Id b f n a/\Id b f n a<=b.length
 |0,a,h=>⟨W7 _,h⟩
 |n+1,a,h=>by rw[Id];cases ho:onB b f a with|true=>have:=VbV (b:=b) (f:=f) n (a+1) (VnJ ho);simp only[if_true];omega|false=>simp only[WB,if_false];omega
abbrev Er:=Option (Int×zAa)
def Voh:Er->Int
 |none=>0
 |some e=>e.1
@[simp] theorem VmV:Voh none=0:=rfl
@[simp] theorem VmU (e:Int×zAa):Voh (some e)=e.1:=rfl
def Mx (b:zAa)(a:Nat)(s:zAa):Int×zAa:=if a=b.length then (3,s)else (2,[])
def Ea (b:zAa)(a:Nat)(s rest:zAa):Er×Nat:=(if cpN (b.drop a) s<s.length then some (Mx b (Vl8 b a s) (s.drop (cpN (b.drop a) s)++rest))else none,Vl8 b a s)
def Li (b:zAa)(a:Nat)(rest:zAa):Er×Nat:=(if a=b.length then none else if Bc b (crN b a) [10]then none else some (Mx b (crN b a) (10::rest)),Vjl b a)
def Qx (b:zAa)(f:Nat)(rest:zAa):Er×Nat:=(if Id b f 40 f=f then some (Mx b f (97::rest))else none,Id b f 40 f)
def Dm:zAa:=[48,49,50,51,52,53,54,55,56,57]
def MF (b:zAa)(f:Nat)(rest:zAa):Nat->Nat->Er×Nat
 |0,a=>(none,a)
 |n+1,a=>
  if Bc b a Dm then
   if f<a/\b[f]? = some 48 then (some (Mx b a []),a)
   else if a-f=400 then (some (4,[]),a)
   else MF b f rest n (a+1)
  else if a=f then (some (Mx b a (49::rest)),a)else (none,a)
def P0 (b:zAa)(a:Nat)(neg:Bool):Nat:=if neg&&Bc b a [45]then a+1 else a
def Fp (b:zAa)(a:Nat)(neg:Bool)(rest:zAa):Er×Nat:=
 if neg&&Bc b a [45]&&Bc b (a+1) [48]then (some (Mx b (a+1) []),a+1)else MF b (P0 b a neg) rest 402 (P0 b a neg)
def MV (b:zAa)(a:Nat):Nat:=(b.getD a 48).toNat-48
def KF (er:Er):Prop:=∀e,er=some e->0<e.1/\e.1<=4
theorem KF.none:KF none:=λe h=>by cases h
theorem KF.stp (b:zAa)(a:Nat)(s:zAa):KF (some (Mx b a s)):=λe h=>by injection h with h;subst h;unfold Mx;split<;>simp
theorem KF.lim:KF (some (4,[])):=λe h=>by injection h with h;subst h;simp
theorem MJ (b:zAa)(a:Nat)(s rest:zAa):KF (Ea b a s rest).1:=by unfold Ea;split;exact .stp _ _ _;exact .none
theorem Vg3 (b:zAa)(a:Nat)(rest:zAa):KF (Li b a rest).1:=by unfold Li;split;exact .none;split;exact .none;exact .stp _ _ _
theorem VkH (b:zAa)(f:Nat)(rest:zAa):KF (Qx b f rest).1:=by unfold Qx;split;exact .stp _ _ _;exact .none
theorem Vf4 (b:zAa)(f:Nat)(rest:zAa):∀n a,KF (MF b f rest n a).1
 |0,a=>.none
 |n+1,a=>by unfold MF;split;split;exact .stp _ _ _;split;exact .lim;exact Vf4 b f rest n (a+1);split;exact .stp _ _ _;exact .none
theorem S5 (b:zAa)(a:Nat)(neg:Bool)(rest:zAa):KF (Fp b a neg rest).1:=by unfold Fp;split;exact .stp _ _ _;exact Vf4 _ _ _ _ _
theorem Lx.push {H G:Aa}{p a:Nat}{b:zAa}{r:List Ab}(h:Lx H p b a r):Lx (H++G) p b a r:=by
 have:p<H.length:=by rcases Xj p H.length with h' | h';exact h';unfold Lx at h;rw[zYb h']at h;cases h
 unfold Lx;rw[W8 this];exact h
theorem Vjr (c:UInt8):([48,49,50,51,52,53,54,55,56,57]:zAa).contains c=decide (48<=c.toNat/\c.toNat<=57):=by simp only[List.contains_eq_mem,Xs,List.not_mem_nil,or_false,decide_eq_decide,<-XL];simp only[UInt8.reduceToNat];omega

def OE (b:zAa)(f:Nat)(rest:zAa):Nat->Nat->Option Ab×Nat
 |0,a=>(none,a)
 |n+1,a=>
  if Bc b a Dm then
   if f<a/\b[f]? = some 48 then (some (R6 b a []),a)
   else if a-f=400 then (some (TR 4 []),a)
   else OE b f rest n (a+1)
  else if a=f then (some (R6 b a (49::rest)),a)else (none,a)
theorem Vf5 (b:zAa)(f:Nat)(rest:zAa):∀n a,a<=b.length->a<=(OE b f rest n a).2/\(OE b f rest n a).2<=b.length
 |0,a,h=>⟨W7 _,h⟩
 |n+1,a,h=>by unfold OE;by_cases hs:Bc b a Dm=true;rw[if_pos hs];by_cases h1:f<a/\b[f]? = some 48;rw[if_pos h1];exact⟨W7 _,h⟩;rw[if_neg h1];by_cases h2:a-f=400;rw[if_pos h2];exact⟨W7 _,h⟩;rw[if_neg h2];have:=Vf5 b f rest n (a+1) (CE hs);exact⟨by omega,this.2⟩;rw[if_neg hs];by_cases h1:a=f;rw[if_pos h1];exact⟨W7 _,h⟩;rw[if_neg h1];exact⟨W7 _,h⟩
theorem Vls {b:zAa}{f a:Nat}{rest:zAa}{n:Nat}(hs:Bc b a Dm=true)(h1:¬(f<a/\b[f]? = some 48))(h2:¬a-f=400):OE b f rest (n+1) a=OE b f rest n (a+1):=by rw[OE,if_pos hs,if_neg h1,if_neg h2]
noncomputable def Vp1 (H0 K:Aa)(p:Nat)(b:zAa)(r:List Ab)(q from_:Ab):Option Ab×Nat->Out
 |(some v,e)=>some (.pan v,BW K p b r e)
 |(none,e)=>UaN H0 (.ptr p 0 0) q from_ (BW K p b r e)
theorem VaY {H0 K:Aa}{p f:Nat}{b:zAa}{r:List Ab}(h:Lx K p b f r)(hf:f<=b.length)(hb:b.length<1152921504606846976)(rest:zAa)(hr:rest.length<=1000000)(q from_:Ab):Al (λaA vs H=>UbQ H0 aA (ag vs 0) (ag vs 1) (ag vs 2) (ag vs 3) (ag vs 4) H) AU [.ptr p 0 0,.str rest,q,from_,.i6 (f:Int)] K=Vp1 H0 K p b r q from_ (OE b f rest 402 f):=by
 have key:=Bv (G:=λaA vs H=>UbQ H0 aA (ag vs 0) (ag vs 1) (ag vs 2) (ag vs 3) (ag vs 4) H) (σ:=Nat) (λi=>f<=i/\i<=b.length/\i-f<=400) (λ_=>[.ptr p 0 0,.str rest,q,from_,.i6 (f:Int)]) (λi=>BW K p b r i) (λi=>b.length-i)
  (λi=>Vp1 H0 K p b r q from_ (OE b f rest (402-(i-f)) i)) (λi rec hi hrec=>?_) f ⟨W7 _,hf,by omega⟩ (by omega)
 rw[Ef h,Xi,Nat.sub_zero]at key;exact key
 ·obtain⟨h1,h2,h3⟩:=hi;have hx:=GN (a':=i) h;have e:402-(i-f)=(401-(i-f))+1:=by omega
  have iD:Af .none .add (.str [49]) (.str rest)=some (.str (49::rest)):=Dk (by simp only[zXj,zXk];omega);unfold UbQ;have qG:=De hx h2 Dm;unfold Dm at qG;rw[e];have nJ:Bc b i [48,49,50,51,52,53,54,55,56,57]=Bc b i Dm:=rfl;simp only[GMw,qG,nJ];cases hs:Bc b i Dm with
  |true=>
   have hlt:=CE hs;have eL:f<b.length:=(by omega);have hw:IntKind.i64.wrap ((i:Int)-(f:Int))=((i-f:Nat):Int):=(by rw[Am]<;>omega);have tail:¬(f<i/\b[f]? = some 48)->((Af .none .sub (.i6 (i:Int)) (.i6 (f:Int))).bind λx56=>
     (Af .none .eql x56 (.i6 400)).bind λx57=>
     Ak x57 (bK H0 (Uaw (.ptr p 0 0) (BW K p b r i)) λx58 H59=>UbP H0 rec (.ptr p 0 0) (.str rest) q from_ (.i6 (f:Int)) H59)
      (UbP H0 rec (.ptr p 0 0) (.str rest) q from_ (.i6 (f:Int)) (BW K p b r i)))=Vp1 H0 K p b r q from_ (OE b f rest (401-(i-f)+1) i):=by
    intro hn;simp only[GMw,hw];by_cases h4:i-f=400
    ·have xF:((i-f:Nat):Int)=400:=(by omega);rw[OE,if_pos hs,if_neg hn,if_pos h4];simp only[xF,GMw,ML]
     rfl
    have xF:¬((i-f:Nat):Int)=400:=(by omega);rw[Vls hs hn h4];unfold UbP;simp only[xF,GMw,Ah,Ae,W9,FC hx,Au (show i<9223372036854775807 by omega),KV h];have:=hrec (i+1) ⟨by omega,by omega,by omega⟩ (by omega);rw[show 402-(i+1-f)=401-(i-f)by omega]at this;exact this
   by_cases dW:f<i
   ·have kA:(i:Int)>(f:Int):=(by omega);simp only[GMw,Ah,Ae,W9,FC hx,QB hx,kA,DC eL,Aj];by_cases h0:b[f]=48
    ·rw[OE,if_pos hs,if_pos ⟨dW,by rw[W4 eL,h0]⟩];simp only[h0,GMw,NC hx]
     rfl
    have dY:¬((b[f].toNat:Int)=48):=λhc=>h0 (XL.1 (by show b[f].toNat=48;omega));simp only[dY,GMw];exact tail (λhc=>h0 (by have:=hc.2;rw[W4 eL]at this;exact Yf this))
   have kA:¬(i:Int)>(f:Int):=(by omega);simp only[GMw,Ah,Ae,W9,FC hx,kA,Aj];exact tail (λhc=>dW hc.1)
  |false=>
   rw[OE,if_neg (by rw[hs];exact Bool.false_ne_true)];simp only[GMw,Ah,Ae,W9,FC hx,Aj];by_cases he:i=f
   ·have dE:(i:Int)=(f:Int):=(by omega);rw[if_pos he];simp only[dE,GMw,iD,NC hx]
    rfl
   ·have dE:¬(i:Int)=(f:Int):=(by omega);rw[if_neg he];simp only[dE,GMw]
    rfl
theorem PQ (n:Nat):0<(CA n).length:=by unfold CA;split<;>simp
section
variable {H:Aa}{id g i:Nat}{L:List (zAa)}

end
theorem HO {n:Nat}(h:n<10):CA n=[UInt8.ofNat (48+n)]:=by unfold CA;rw[dif_pos h]
theorem Ul {n:Nat}(h:¬n<10):CA n=CA (n / 10)++[UInt8.ofNat (48+n%10)]:=by
 conv=>lhs;unfold CA
 rw[dif_neg h]
theorem NU (n:Nat)(h:n≠0):∃c r,CA n=c::r/\c≠48:=by
 induction n using Nat.strongRecOn with
 |ind n ih=>by_cases hn:n<10;refine⟨_,_,HO hn,λe=>?_⟩;have:=congrArg UInt8.toNat e;rw[XZ (show 48+n<256 by omega)]at this;have pS:(48:UInt8).toNat=48:=rfl;omega;obtain⟨c,r,h1,h2⟩:=ih (n / 10) (by omega) (by omega);exact⟨c,r++[UInt8.ofNat (48+n%10)],by rw[Ul hn,h1];rfl,h2⟩
theorem Vcg {a b:Nat}(h:a<=b):10^a<=10^b:=Xe (by omega) h
theorem VgA:Ct 0=[48]:=by unfold Ct;rw[if_neg (by decide)];exact HO (by decide)
def I5 (c:UInt8):Bool:=decide (48<=c.toNat)&&decide (c.toNat<=57)
def II (s:zAa):Nat:=(s.takeWhile I5).length
theorem Vg9 (s:zAa):II s<=s.length:=(Yh I5).length_le
theorem Rj (c:UInt8)(s:zAa):II (c::s)=if I5 c then II s+1 else 0:=by unfold II;rw[Yg];split<;>simp
theorem Vkw (s:zAa)(pos:Nat)(h:pos<s.length):((⟨s.toArray⟩:ByteArray)[pos]'(by show pos<s.toArray.size;simpa using h))=s[pos]:=by show s.toArray[pos]=s[pos];simp
theorem VcE (s:zAa):∀(f pos:Nat),pos<=s.length->s.length-pos<=f->Lib.idxFuncFrom LP true ⟨s.toArray⟩ f pos=if pos+II (s.drop pos)<s.length then ((pos+II (s.drop pos):Nat):Int)else -1
 |0,pos,h1,h2=>by
  have:pos=s.length:=by omega
  subst this;rw[Lib.idxFuncFrom,if_neg (by omega)]
 |f+1,pos,h1,h2=>by
  have hsz:(⟨s.toArray⟩:ByteArray).size=s.length:=by simp[ByteArray.size]
  unfold Lib.idxFuncFrom;rw[hsz];by_cases hp:pos<s.length
  ·rw[if_pos hp,Xb hp,Rj];have hb:=Vkw s pos hp;by_cases ha:s[pos].toNat<128
   ·rw[decode_ascii ⟨s.toArray⟩ pos (by omega) (by rw[hb];exact ha),hb];simp only[];by_cases hd:I5 s[pos]=true;have dS:LP s[pos].toNat=false:=(by simp only[I5,WG,zXe]at hd;simp only[LP,Y5,decide_eq_false_iff_not];omega);rw[dS,if_neg (by simp),if_pos hd,VcE s f (pos+1) (by omega) (by omega)];rw[show pos+(II (s.drop (pos+1))+1)=pos+1+II (s.drop (pos+1))by omega]
    ·have dS:LP s[pos].toNat=true:=(by simp only[I5,WG,zXe]at hd;simp only[LP,X0,zXe];omega);rw[dS,if_pos rfl,if_neg hd,if_pos (by omega)]
     rfl
   ·obtain⟨k1,k2⟩:=decode_high ⟨s.toArray⟩ pos (by omega) (by rw[hb];omega);have hd:¬I5 s[pos]=true:=(by simp only[I5,WG,zXe];omega);have dS:LP (Utf8.decode ⟨s.toArray⟩ pos).1=true:=(by simp only[LP,X0,zXe];omega);rw[dS,if_pos rfl,if_neg hd,if_pos (by omega)]
    rfl
  rw[if_neg hp,if_neg (by omega)]
theorem VlN (s:zAa):Lib.idxFunc LP true ⟨s.toArray⟩=if II s<s.length then (II s:Int)else -1:=by
 have hsz:(⟨s.toArray⟩:ByteArray).size=s.length:=by simp[ByteArray.size]
 have:=VcE s s.length 0 (WZ _) (by omega);rw[W9,XP]at this;rw[Lib.idxFunc,hsz,this]
def VoT (s:zAa)(at':Int):Nat:=if at'<0 then 0 else II (s.drop at'.toNat)
theorem VhT (s:zAa)(at':Int)(H:Aa)(hs:s.length<1152921504606846976):UbK (.str s) (.i6 at') H=some (.ret (.i6 (VoT s at')),H):=by
 unfold UbK VoT;by_cases h0:at'<0
 ·simp only[GMw,h0,if_true]
  rfl
 ·obtain⟨a,rfl⟩:∃a:Nat,at'=(a:Int):=⟨at'.toNat,by omega⟩;simp only[GMw,h0,if_false,Ec,zXl];by_cases h1:a<=s.length;have eQ:¬((a:Int)>(s.length:Int)):=(by omega);have hsl:C0 (.str s) (some (.i6 (a:Int))) none=some (.str (s.drop a)):=(by simp[C0,B2,h1]);have hi:UaL (.str (s.drop a)) (.fn 235 []) H=some (.ret (.i6 (if II (s.drop a)<(s.drop a).length then (II (s.drop a):Int)else -1)),H):=(by unfold UaL;simp only[VlN]);have hle:=Vg9 (s.drop a);simp only[eQ,GMw,hsl];by_cases hd:II (s.drop a)<(s.drop a).length;have:¬((II (s.drop a):Int)<0):=(by omega);rw[hi,if_pos hd];simp only[this,GMw];have e:II (s.drop a)=(s.drop a).length:=(by omega);rw[hi,if_neg hd];simp only[show((-1:Int)<0) from by decide,GMw,Ec,<-e]
  ·have eQ:(a:Int)>(s.length:Int):=(by omega);rw[XQ (by omega)];simp only[eQ,GMw]
   rfl
def IJ (s:zAa):Nat:=s.foldl (λv c=>v*10+(c.toNat-48)) 0
theorem NT (s:zAa)(c:UInt8):IJ (s++[c])=IJ s*10+(c.toNat-48):=by simp[IJ]
theorem Uk {s:zAa}(h:II s=s.length):∀c∈s,I5 c=true:=by
 induction s with
 |nil=>intro c hc;cases hc
 |cons x s ih=>rw[Rj]at h;by_cases hx:I5 x=true;rw[if_pos hx,zXj]at h;intro c hc;rcases Xs.1 hc with e | e;rw[e];exact hx;exact ih (by omega) c e;rw[if_neg hx]at h;simp at h
theorem FF (c:UInt8):I5 c=true↔48<=c.toNat/\c.toNat<=57:=by simp[I5]
theorem Vbu {s:zAa}(h:∀c∈s,I5 c=true):∀i,i<=s.length->IJ (s.take i)<10^i
 |0,_=>by simp[IJ]
 |i+1,hi=>by have:=Vbu h i (by omega);have hc:=(FF _).1 (h _ (WI (show i<s.length by omega)));rw[WF (by omega),NT,Nat.pow_succ];omega
def Oc (s:zAa):Bool:=match s with
 |c::_=>c==45
 |[]=>false
def CB (s:zAa):zAa:=if Oc s then s.drop 1 else s
def Ob (s:zAa):Bool:=CB s==[]||decide (II (CB s)<(CB s).length)||((CB s)[0]?.getD 0==48 && !(s==[48]))
def GP (s:zAa):Int:=if Ob s then 2 else if (CB s).length>400 then 4 else 0
def Dq (s:zAa):Int:=if GP s=0 then (if Oc s then -(IJ (CB s):Int)else IJ (CB s))else 0
theorem VaM (s:zAa)(H:Aa)(hs:s.length<1152921504606846976):UbJ (.str s) (.str [45]) H=some (.ret (.tup [.str (CB s),.bool (Oc s)]),H):=by
 have hp:Uat (.str s) (.str [45]) H=some (.ret (.bool (Oc s)),H):=by unfold Uat;cases s with|nil=>simp[C1,Oc]|cons c r=>have h1:((c::r).length:Int)>=(([45]:zAa).length:Int):=(by simp;omega);have h2:C0 (.str (c::r)) none (some (.i6 (([45]:zAa).length:Int)))=some (.str [c]):=(by rw[Pa (by simp)];rfl);simp only[Ec,GMw,h1,h2,KE];simp[Oc]
 unfold UbJ UdK;cases hb:Oc s with
 |false=>simp only[GMw,hp,hb,B4,BE,CB,WB,if_false]
 |true=>
  have h2:C0 (.str s) (some (.i6 (([45]:zAa).length:Int))) none=some (.str (s.drop 1)):=by refine GM (l:=1) ?_;cases s with|nil=>cases hb|cons c r=>simp
  simp only[GMw,hp,hb,Ec,h2,B4,BE,CB,if_true]
theorem Vi3 {B:Aa}{d:zAa}{i:Nat}(h:i<d.length)(hd:d[i].toNat<128):Pm (.ptr B.length 0 0) (B++[.iter d i])=some (.tup [.bool true,.i6 (i:Int),.int .i32 (d[i].toNat:Int)],B++[.iter d (i+1)]):=by have hb:=Vkw d i h;have wL:=decode_ascii ⟨d.toArray⟩ i (by show i<d.toArray.size;simpa using h) (by rw[hb];exact hd);simp only[Pm,List.getElem?_concat_length,h,if_true,wL,hb,Be]
theorem Vi2 {B:Aa}{d:zAa}:Pm (.ptr B.length 0 0) (B++[.iter d d.length])=some (.tup [.bool false],B++[.iter d d.length]):=by simp[Pm]
theorem Vbk {H G:Aa}{zb:List Ab}{neg:Bool}{l:zAb}{tk:Tok}{e:Int}(hz:zb.length=2):(bP H (AA (Ai 2 (.ptr H.length 0 0) (.agg [.bool neg,.sl (enL cU l) tk]) (H++(.c0 zb::G)))) λ_ H40=>(Ex [Ad true 2 (.ptr H.length 0 0) H40,some (.i6 e)]).bind λx=>rPN H x H40)=some (.ret (.tup [.agg [.bool neg,.sl (enL cU l) .no],.i6 e]),H):=by
 have h1:Ai 2 (.ptr H.length 0 0) (.agg [.bool neg,.sl (enL cU l) tk]) (H++(.c0 zb::G))=some (H++(.c0 [.bool neg,.sl (enL cU l) tk]::G)):=by
  rw[KK,Qn (vs:=[.bool neg,.sl (enL cU l) tk]) rfl hz rfl]
  rfl
 have h2:Ad true 2 (.ptr H.length 0 0) (H++(.c0 [.bool neg,.sl (enL cU l) tk]::G))=some (.agg [.bool neg,.sl (enL cU l) tk]):=by rw[FE];rfl
 simp only[h1,GMw,h2,EX,Dl,DN,zXb,C8,Cs,By,BB,FH,DR,EE,GV,Lh,Dc]
theorem Vdh:Ab.agg [.bool false,.sl (enL cU []) .no]=big 0:=by
 rw[Rw,show(0:Int).natAbs=0 from rfl,ER]
 rfl
theorem Vov {neg:Bool}{n:Nat}(h:neg=true->n≠0):Ab.agg [.bool neg,.sl (enL cU (AB n)) .no]=big (if neg then -(n:Int)else n):=by
 have h1:=Vb3 neg n;have h2:sgn neg n=neg:=by unfold sgn;cases neg with|false=>rfl|true=>simp[h rfl]
 rw[h2]at h1;rw[h1]
 rfl
theorem Uv:A6 (some [(.bool false),(.sl [] .ti)]) []=some (.agg [.bool false,.sl (enL cU []) .ti]):=rfl
theorem Vea {neg:Bool}{es:List (List Ab)}{tk:Tok}:A6 (some [(.bool false),(.sl [] .ti)]) [(0,1,.bool neg),(1,1,.sl es tk)]=some (.agg [.bool neg,.sl es tk]):=by simp[A6,GF,D7]
theorem Va7 {s:zAa}(h:Ob s=false):CB s≠[]/\II (CB s)=(CB s).length/\((CB s)[0]?.getD 0=48->s=[48]):=by unfold Ob at h;simp only[Y5,Yp,beq_eq_false_iff_ne,decide_eq_false_iff_not,ne_eq,YS,beq_iff_eq]at h;have:=Vg9 (CB s);refine⟨h.1.1,by omega,λh0=>?_⟩;rcases h.2 with h3 | h3;exact absurd h0 h3;exact h3
theorem VgB (c:UInt8)(s:zAa):IJ (c::s)=(c.toNat-48)*10^s.length+IJ s:=by
 have key:∀(s:zAa)(v:Nat),s.foldl (λv c=>v*10+(c.toNat-48)) v=v*10^s.length+IJ s:=by
  intro s
  induction s with
  |nil=>intro v;simp[IJ]
  |cons x s ih=>intro v;rw[List.foldl_cons,ih,zXj,Nat.pow_succ];have e:IJ (x::s)=(x.toNat-48)*10^s.length+IJ s:=(by have:=ih (0*10+(x.toNat-48));rw[YO,W9]at this;unfold IJ;rw[List.foldl_cons,YO,W9];exact this);rw[e,Xr,Yj v 10,XG 10];omega
 have:=key s (0*10+(c.toNat-48));rw[YO,W9]at this
 conv=>lhs;unfold IJ
 rw[List.foldl_cons,YO,W9];exact this
theorem Vmf {s:zAa}(h:Ob s=false)(hn:Oc s=true):IJ (CB s)≠0:=by
 obtain⟨h1,h2,h3⟩:=Va7 h;cases hd:CB s with
 |nil=>exact absurd hd h1
 |cons c r=>
  rw[VgB];have hc:=Uk h2 c (by rw[hd];simp);rw[FF]at hc;have pS:c.toNat≠48:=λe=>by have:c=48:=UInt8.toNat.inj e;have:=h3 (by rw[hd,this];rfl);rw[this]at hn;cases hn
  have:1<=10^r.length:=YA (by omega);have:1<=(c.toNat-48)*10^r.length:=Nat.mul_pos (by omega) this;omega
theorem Vhu {n:Int}(h0:-2147483648<=n)(h:n<=2147483647):IntKind.i32.wrap n=n:=by have h1:IntKind.i32.bits=32:=rfl;have h2:IntKind.i32.signed=true:=rfl;unfold IntKind.wrap;simp only[h1,h2,zXn];split<;>rename_i hc<;>simp at hc<;>omega
theorem Vhv {c:UInt8}(h:I5 c=true):IntKind.i32.wrap ((c.toNat:Int)-48)=((c.toNat-48:Nat):Int):=by rw[FF]at h;rw[Vhu (by omega) (by omega)];omega
theorem Vbc {n m:Nat}(h:n<10^m)(hm:m<=4096):(AB n).length<=4096:=TJ (n:=n) (X1 (m:=10^m) h (Vcg (a:=m) (b:=4096) hm))
theorem VkU (s:zAa)(H:Aa)(hs:s.length<1152921504606846976):UbN (.str s) H=some (.ret (.tup [big (Dq s),.i6 (GP s)]),H):=by
 unfold UbN;have iI:(CB s).length<=s.length:=by unfold CB;split<;>simp
 have mX:=VaM s (H++[Blk.c0 [.bool false,.sl [] .ti]]) hs;have yS:=VhT (CB s) 0 (H++[Blk.c0 [.bool false,.sl [] .ti]]) (by omega);have pM:(VoT (CB s) 0:Int)=(II (CB s):Int):=by simp[VoT]
 rw[pM]at yS;simp only[alloc_eq (cs:=[.bool false,.sl [] .ti]) rfl,Br,mX,GMw,B4,BE,KE];have tail:UdM H (.ptr H.length 0 0) (.str (CB s)) (.bool (Oc s)) (.bool (Ob s)) (H++[Blk.c0 [.bool false,.sl [] .ti]])=some (.ret (.tup [big (Dq s),.i6 (GP s)]),H):=by
  unfold UdM;cases dJ:Ob s with
  |true=>have hE:GP s=2:=(by simp[GP,dJ]);have hZ:Dq s=0:=(by simp[Dq,hE]);rw[hE,hZ,<-Vdh];simp only[GMw,Uv];exact Vbk rfl
  |false=>
   obtain⟨n1,n2,n3⟩:=Va7 dJ;simp only[GMw,Ec];by_cases hl:(CB s).length>400;have dQ:((CB s).length:Int)>400:=(by omega);have hE:GP s=4:=(by simp[GP,dJ,hl]);have hZ:Dq s=0:=(by simp[Dq,hE]);rw[hE,hZ,<-Vdh];simp only[dQ,GMw,Uv];exact Vbk rfl
   ·have dQ:¬((CB s).length:Int)>400:=(by omega);have hE:GP s=0:=(by simp[GP,dJ,hl]);have hZ:Dq s=(if Oc s then -(IJ (CB s):Int)else IJ (CB s)):=(by simp[Dq,hE]);have hne:=Vmf dJ;have aD:=Uk n2;have hlt:=Vbu aD;rw[hE,hZ,<-Vov (neg:=Oc s) hne];generalize hd:CB s=d at *;simp only[dQ,GMw];have zZ:O9 (.str d) (H++[Blk.c0 [.bool false,.sl [] .ti]])=some (.ptr (H.length+1) 0 0,H++[.c0 [.bool false,.sl [] .ti]]++[.iter d 0]):=(by simp[O9]);simp only[zZ,GMw];have hBl:(H++[Blk.c0 [.bool false,.sl [] .ti]]).length=H.length+1:=(by simp);obtain⟨tkf,htk⟩:∃tkf:Nat->Tok,tkf=λi=>if i=0 then .ti else .no:=⟨_,rfl⟩
    have key:=Cx (G:=λaA vs H1=>UbM H aA (ag vs 0) (ag vs 1) (ag vs 2) (ag vs 3) H1) d.length (λi=>[.ptr H.length 0 0,.bool (Oc s),.sl (enL cU (AB (IJ (d.take i)))) (tkf i),.ptr (H.length+1) 0 0])
     (λi=>H++[.c0 [.bool false,.sl [] .ti]]++[.iter d i]) (some (.ret (.tup [.agg [.bool (Oc s),.sl (enL cU (AB (IJ d))) .no],.i6 0]),H)) (by omega) (λrec i hi=>?_) (λrec=>?_)
    rw[List.take_zero,show IJ []=0 from rfl,ER,htk]at key;exact key;have yR:=aD _ (WI hi);have hdi2:=(FF _).1 yR;have hnx:=Vi3 (B:=H++[Blk.c0 [.bool false,.sl [] .ti]]) hi (by omega);rw[hBl]at hnx;have hw:=Vhv yR;have hcv:AG .u32 (.int .i32 ((d[i].toNat-48:Nat):Int))=some (.int .u32 ((d[i].toNat-48:Nat):Int)):=(by rw[Bx,D3 (by omega) (by omega)]);have lJ:=Vbc (hlt i (by omega)) (by omega);have hml:=λH=>Vpr (l:=AB (IJ (d.take i))) (tk:=tkf i) (m:=10) (c:=d[i].toNat-48) H (Bz _) (by omega) (by omega) (by omega);simp only[B9,<-NT,<-WF hi,show((10:Nat):Int)=10 from rfl]at hml;have uG:tkf (i+1)=.no:=(by rw[htk];rfl);unfold UbM;simp only[Ao,Aj,hnx,GMw,B4,show ∀(x y z:Ab),At 2 (.tup [x,y,z])=some z from λ_ _ _=>rfl,show ∀(x y z:Ab),At 0 (.tup [x,y,z])=some x from λ_ _ _=>rfl,hw,hcv,hml,uG];have hnx:=Vi2 (B:=H++[Blk.c0 [.bool false,.sl [] .ti]]) (d:=d);rw[hBl]at hnx;unfold UbM;simp only[Ao,Aj,hnx,GMw,show ∀(x:Ab),At 0 (.tup [x])=some x from λ_=>rfl,Vea,Xu];rw[WD H];exact Vbk rfl
 by_cases h0:CB s=[]
 ·have dJ:Ob s=true:=by simp[Ob,h0]
  rw[dJ]at tail;simp only[h0,beq_self_eq_true,GMw,Ao,Aj]at tail⊢;exact tail
 ·have hb:(CB s==[])=false:=by simpa using h0
  simp only[hb,GMw,yS,Ec];by_cases hlt:II (CB s)<(CB s).length;have hlt':(II (CB s):Int)<((CB s).length:Int):=(by omega);have dJ:Ob s=true:=(by simp[Ob,hlt]);rw[dJ]at tail;simp only[hlt',GMw,Ao,Aj];exact tail
  ·have hlt':¬(II (CB s):Int)<((CB s).length:Int):=(by omega);obtain⟨c,r,yT⟩:=List.exists_cons_of_ne_nil h0;have dO:C3 (.str (CB s)) (.i6 0)=some (.int .u8 (c.toNat:Int)):=(by rw[yT];exact ViQ);have dJ:Ob s=((c==48) && !(s==[48])):=by
    simp only[Ob,hb,zXd hlt,zXo];rw[yT]
    rfl
   have hcc:decide ((c.toNat:Int)=48)=(c==48):=(by rw[WP];simp only[zXe,beq_iff_eq];constructor;intro h;exact UInt8.toNat.inj (show c.toNat=(48:UInt8).toNat from by have:(48:UInt8).toNat=48:=rfl;omega);intro h;rw[h];rfl);rw[dJ]at tail;simp only[hlt',GMw,dO,hcc,Vj8];cases lZ:(c==48)with|false=>rw[lZ,Xw]at tail;simp only[GMw,Ao,Aj];exact tail|true=>rw[lZ,zXn]at tail;simp only[GMw,Ao,Aj];exact tail
def hv (e:Int×zAa):Ab:=TR e.1 e.2
def Qz (er:Er)(v:Ab):Res:=match er with
 |none=>.ret v
 |some e=>.pan (hv e)
@[simp] theorem B7 (v:Ab):Qz none v=.ret v:=(rfl)
@[simp] theorem BJ (e:Int×zAa)(v:Ab):Qz (some e) v=.pan (hv e):=(rfl)
theorem Km (b:zAa)(a:Nat)(s:zAa):R6 b a s=hv (Mx b a s):=by unfold R6 hv Mx;split<;>rfl
section
variable {H:Aa}{p a:Nat}{b:zAa}{r:List Ab}
theorem Jg (h:Lx H p b a r)(s:zAa):Ucz (.ptr p 0 0) (.str s) H=some (.pan (hv (Mx b a s)),H):=by rw[NC h,<-Km];rfl
theorem VfE (h:Lx H p b a r)(ha:a<=b.length)(hb:b.length<1152921504606846976)(rest:zAa)(hr:rest.length<=1000000):Uau (.ptr p 0 0) (.str rest) H=some (Qz (Li b a rest).1 (.tup []),BW H p b r (Li b a rest).2):=by
 rw[VnP h ha hb rest hr];unfold VpC Li Vjl;by_cases e:a=b.length;have hs:=Ef h;rw[e]at hs;simp only[e,if_true,B7,hs];simp only[if_neg e];cases hs:Bc b (crN b a) [10]with|true=>simp only[if_true,B7]|false=>simp only[WB,if_false,BJ,Km]
theorem MK (h:Lx H p b a r)(ha:a<=b.length)(hb:b.length<1152921504606846976)(s rest:zAa)(hs:s.length<=1000000)(hr:rest.length<=1000000):UeX (.ptr p 0 0) (.str s) (.str rest) H=some (Qz (Ea b a s rest).1 (.tup []),BW H p b r (Ea b a s rest).2):=by
 rw[Vl6 h ha hb s rest hs hr];unfold Vlv Ea Vl8;by_cases e:cpN (b.drop a) s<s.length;simp only[if_pos e,BJ,Km];simp only[if_neg e,B7]
theorem Vi9 (h:Lx H p b a r)(ha:a<=b.length)(hb:b.length<1152921504606846976)(rest:zAa)(hr:rest.length<=1000000):UaO (.ptr p 0 0) (.str rest) H=some (Qz (Qx b a rest).1 (.str ((b.take (Qx b a rest).2).drop a)),BW H p b r (Qx b a rest).2):=by
 rw[Vl5 h ha hb rest hr];unfold VeJ Qx;by_cases e:Id b a 40 a=a;simp only[e,if_true,BJ,Km];simp only[if_neg e,B7]
theorem Vf6 (b:zAa)(f:Nat)(rest:zAa):∀n a,OE b f rest n a=((MF b f rest n a).1.map hv,(MF b f rest n a).2)
 |0,a=>rfl
 |n+1,a=>by
  rw[OE,MF];split
  ·split;rw[Km];rfl
   ·split
    ·rfl
    exact Vf6 b f rest n (a+1)
  ·split;rw[Km];rfl
   ·rfl
theorem ViA (h:Lx H p b a r):p<H.length:=by rcases Xj p H.length with h' | h';exact h';unfold Lx at h;rw[zYb h']at h;cases h
theorem Vs {G:Aa}{e:Nat}(h:p<H.length):BW (H++G) p b r e=BW H p b r e++G:=by unfold BW;rw[List.set_append_left _ _ h]
theorem VdF (h:Lx H p b a r){f e:Nat}(oH:f<=e)(he:e<=b.length)(hb:b.length<1152921504606846976)(zb:List Ab)(hz:zb.length=2):∃G,UaN H (.ptr p 0 0) (.ptr H.length 0 0) (.i6 (f:Int)) (BW H p b r e++[.c0 zb])=some (.ret (big (Dq ((b.take e).drop f))),BW H p b r e++G):=by
 have hx:=GN (a':=e) h;have hl:=VbS H p e b r;have vV:∀G,Ad false 1 (.ptr p 0 0) (BW H p b r e++G)=some (.str b):=λG=>QB (Lx.push hx);have oA:∀G,Ad false 1 (.ptr p 0 1) (BW H p b r e++G)=some (.i6 (e:Int)):=λG=>FC (Lx.push hx);unfold UaN;rw[<-hl];generalize BW H p b r e=K at *;have hq:=λH=>VkU ((b.take e).drop f) H (by simp only[WS,WN];omega);obtain⟨sg,es,sO⟩:∃sg es,big (Dq ((b.take e).drop f))=.agg [.bool sg,.sl es .no]:=⟨_,_,Rw _⟩;rw[sO]at hq⊢;refine⟨[.c0 [.bool sg,.sl es .no],.c0 [.bool sg,.sl es .no]],?_⟩;simp only[GMw,HPw,Nat.reduceAdd,Nat.reduceLT,vV,oA,Vo oH he,hq,hz]
 rfl

end
theorem Vf3 (b:zAa)(f:Nat)(rest:zAa):∀n a,a<=b.length->a<=(MF b f rest n a).2/\(MF b f rest n a).2<=b.length:=λn a h=>by have:=Vf5 b f rest n a h;rw[Vf6]at this;exact this
theorem VlH {b:zAa}{a:Nat}(ha:a<=b.length)(neg:Bool):a<=P0 b a neg/\P0 b a neg<=b.length:=by
 unfold P0;cases neg with
 |false=>exact⟨W7 _,ha⟩
 |true=>cases hs:Bc b a [45]with|true=>have:=CE hs;simp;omega|false=>simpa using ha
theorem HY {b:zAa}{a:Nat}(ha:a<=b.length)(neg:Bool)(rest:zAa):a<=(Fp b a neg rest).2/\(Fp b a neg rest).2<=b.length:=by unfold Fp;have h1:=VlH ha neg;have h2:=Vf3 b (P0 b a neg) rest 402 (P0 b a neg) h1.2;split;rename_i h;simp only[WG]at h;have:=CE h.2;exact⟨Nat.le_succ _,by omega⟩;omega
section
variable {H:Aa}{p a:Nat}{b:zAa}{r:List Ab}
theorem VK (h:Lx H p b a r){f:Nat}(haf:a<=f)(hf:f<=b.length)(hb:b.length<1152921504606846976)(rest:zAa)(hr:rest.length<=1000000)(zb:List Ab)(hz:zb.length=2):∃G,UbR H (.ptr p 0 0) (.str rest) (.ptr H.length 0 0) (.i6 (a:Int)) (BW H p b r f++[.c0 zb])=some (Qz (MF b f rest 402 f).1 (big (Dq ((b.take (MF b f rest 402 f).2).drop a))),BW H p b r (MF b f rest 402 f).2++G):=by
 have hp:=ViA h;have hx:Lx (BW H p b r f++[.c0 zb]) p b f r:=Lx.push (GN h);have key:=VaY (H0:=H) hx hf hb rest hr (.ptr H.length 0 0) (.i6 (a:Int));have hle:=Vf3 b f rest 402 f hf;unfold UbR;simp only[GMw,HPw,Nat.reduceAdd,Nat.reduceLT,FC hx];rw[key,Vf6];generalize MF b f rest 402 f=R at *;obtain⟨er,e⟩:=R;have xU:∀G:Aa,BW (BW H p b r f++G) p b r e=BW H p b r e++G:=λG=>by rw[Vs (by rw[VbS];exact hp),Vr]
 cases er with
 |some v=>refine⟨[.c0 zb],?_⟩;show some (Res.pan (hv v),BW _ p b r e)=_;rw[xU];rfl
 |none=>obtain⟨G,hG⟩:=VdF h (f:=a) (e:=e) (by dsimp only at hle;omega) hle.2 hb zb hz;refine⟨G,?_⟩;show UaN H (.ptr p 0 0) (.ptr H.length 0 0) (.i6 (a:Int)) (BW _ p b r e)=_;rw[xU,hG];rfl
theorem NE (h:Lx H p b a r)(ha:a<=b.length)(hb:b.length<1152921504606846976)(neg:Bool)(rest:zAa)(hr:rest.length<=1000000):∃G,Uag (.ptr p 0 0) (.bool neg) (.str rest) H=some (Qz (Fp b a neg rest).1 (big (Dq ((b.take (Fp b a neg rest).2).drop a))),BW H p b r (Fp b a neg rest).2++G):=by
 have hx:Lx (H++[.c0 [.bool false,.sl [] .ti]]) p b a r:=Lx.push h;have zW:=Ef h;unfold Uag;have plain:P0 b a neg=a->Fp b a neg rest=MF b a rest 402 a->∃G,UbR H (.ptr p 0 0) (.str rest) (.ptr H.length 0 0) (.i6 (a:Int)) (H++[.c0 [.bool false,.sl [] .ti]])=some (Qz (Fp b a neg rest).1 (big (Dq ((b.take (Fp b a neg rest).2).drop a))),BW H p b r (Fp b a neg rest).2++G):=by intro e1 e2;have:=VK h (W7 a) ha hb rest hr [.bool false,.sl [] .ti] rfl;rw[zW]at this;rw[e2];exact this
 cases neg with
 |false=>simp only[GMw,HPw,Nat.reduceAdd,Nat.reduceLT,FC hx];exact plain rfl rfl
 |true=>
  simp only[GMw,HPw,Nat.reduceAdd,Nat.reduceLT,FC hx,De hx ha];cases hs:Bc b a [45]with
  |false=>simp only[GMw,HPw,Nat.reduceAdd,Nat.reduceLT];exact plain (by simp[P0,hs]) (by simp[Fp,P0,hs])
  |true=>have hlt:=CE hs;have hm:=KV (a':=a) hx (a+1);rw[Ef hx]at hm;have hx1:=GN (a':=a+1) hx;have xT:=Vs (b:=b) (r:=r) (G:=[.c0 [.bool false,.sl [] .ti]]) (e:=a+1) (ViA h);simp only[GMw,HPw,Nat.reduceAdd,Nat.reduceLT,FC hx,Au (show a<9223372036854775807 by omega),hm,De hx1 (show a+1<=b.length by omega)];have e1:P0 b a true=a+1:=(by simp[P0,hs]);cases h0:Bc b (a+1) [48]with|true=>have e2:Fp b a true rest=(some (Mx b (a+1) []),a+1):=(by simp[Fp,hs,h0]);rw[e2];refine⟨[.c0 [.bool false,.sl [] .ti]],?_⟩;simp only[GMw,HPw,Nat.reduceAdd,Nat.reduceLT,Jg hx1];rw[xT];rfl|false=>have e2:Fp b a true rest=MF b (a+1) rest 402 (a+1):=(by simp[Fp,hs,h0,e1]);rw[e2];have:=VK h (f:=a+1) (by omega) hlt hb rest hr [.bool false,.sl [] .ti] rfl;simp only[GMw,HPw,Nat.reduceAdd,Nat.reduceLT];rw[xT];exact this

end
section
variable {H:Aa}{b:zAa}{a:Nat}
theorem Ext.push (b id:Nat)(hb:b<=H.length)(G:Aa):Ext b id H (H++G):=
 ⟨by simp,λi c hi hc=>A1 hc,λi hi=>W8 (by omega)⟩
theorem EO {s rest:zAa}(ha:a<=b.length):(Ea b a s rest).2<=b.length:=Vl7 ha s
theorem VeK {rest:zAa}(ha:a<=b.length):a<=(Qx b a rest).2/\(Qx b a rest).2<=b.length:=VbV 40 a ha
theorem VbC (ha:a<=b.length):OO b a<=b.length:=by unfold OO;have:=(Yh (l:=b.drop a) λc=>!([13,10]:zAa).contains c).length_le;rw[WS]at this;omega

end
theorem Vbq {b:zAa}{a:Nat}(ha:a<=b.length)(rest:zAa):a<=(Li b a rest).2/\(Li b a rest).2<=b.length:=by refine⟨?_,VlW ha⟩;show a<=Vjl b a;unfold Vjl crN;split;exact W7 _;split<;>split<;>omega
theorem NA {r:Nat}(h:r<10):(UInt8.ofNat (48+r)).toNat=48+r:=XZ (show 48+r<256 by omega)
theorem Wo (n:Nat):IJ (CA n)=n:=by
 induction n using Nat.strongRecOn with
 |ind n ih=>by_cases hn:n<10;rw[HO hn];have:=NT [] (UInt8.ofNat (48+n));rw[List.nil_append,NA hn,show IJ []=0 from rfl]at this;rw[this];omega;rw[Ul hn,NT,ih (n / 10) (by omega),NA (XW _ (by omega))];omega
theorem PR (n:Nat):∀c∈CA n,I5 c=true:=by
 induction n using Nat.strongRecOn with
 |ind n ih=>intro c hc;by_cases hn:n<10;rw[HO hn,WR]at hc;rw[hc,FF,NA hn];omega;rw[Ul hn]at hc;rcases WT.1 hc with h | h;exact ih (n / 10) (by omega) c h;have:=XW n (show 10>0 by omega);rw[WR.1 h,FF,NA this];omega
theorem VjB {s:zAa}(h:∀c∈s,I5 c=true):II s=s.length:=by
 induction s with
 |nil=>rfl
 |cons c s ih=>rw[Rj,if_pos (h c (by simp)),ih λx hx=>h x (by simp[hx])];rfl
theorem Viv {s:zAa}(h:GP s=0):Ob s=false/\(CB s).length<=400:=by
 unfold GP at h;cases hs:Ob s with
 |true=>rw[hs]at h;simp at h
 |false=>
  rw[hs]at h;simp only[WB,if_false]at h;refine⟨rfl,?_⟩;split at h
  cases h;omega
theorem Vft (k:Nat):Int.natAbs 0<10^k:=YA (by omega)
theorem N9 (s:zAa):(Dq s).natAbs<10^400:=by unfold Dq;split;rename_i h;obtain⟨h1,h2⟩:=Viv h;have aD:=Uk (Va7 h1).2.1;have:=Vbu aD (CB s).length (W7 _);rw[Xu]at this;have h3:=X1 this (Vcg h2);split;rw[Int.natAbs_neg,Int.natAbs_natCast];exact h3;rw[Int.natAbs_natCast];exact h3;exact Vft 400
theorem VcV (z:Int):Oc (Ct z)=decide (z<0)/\CB (Ct z)=CA z.natAbs:=by
 unfold Ct;by_cases h:z<0;rw[if_pos h,zXc h];exact⟨rfl,rfl⟩
 ·rw[if_neg h,zXd h];have hb:Oc (CA z.natAbs)=false:=by cases hd:CA z.natAbs with|nil=>rfl|cons c r=>have:=(FF c).1 (PR z.natAbs c (by rw[hd];simp));simp only[Oc,beq_eq_false_iff_ne];intro e;rw[e]at this;have tV:(45:UInt8).toNat=45:=rfl;omega
  exact⟨hb,by simp[CB,hb]⟩
theorem Vh1 (z:Int):Ob (Ct z)=false:=by
 obtain⟨h1,h2⟩:=VcV z;have aD:=PR z.natAbs;have hp:=PQ z.natAbs;have hd:=VjB aD;unfold Ob;rw[h2,hd,zXd (Nat.lt_irrefl _),zXp];have hne:(CA z.natAbs==[])=false:=by cases jI:CA z.natAbs with|nil=>rw[jI]at hp;simp at hp|cons c r=>rfl
 rw[hne,zXo];by_cases h0:z.natAbs=0
 ·have:z=0:=by omega
  subst this;rw[VgA];simp
 ·obtain⟨c,r,hc,lZ⟩:=NU z.natAbs h0;rw[hc];have:(c==48)=false:=by simpa using lZ
  simp[this]
theorem Tz {z:Int}(h:(CA z.natAbs).length<=400):GP (Ct z)=0/\Dq (Ct z)=z:=by
 obtain⟨h1,h2⟩:=VcV z;have hE:GP (Ct z)=0:=by unfold GP;rw[Vh1,h2];simp only[WB,if_false];rw[if_neg (by omega)]
 refine⟨hE,?_⟩;unfold Dq;rw[if_pos hE,h1,h2,Wo];by_cases hz:z<0;rw[zXc hz];simp only[if_true];omega;rw[zXd hz];simp only[WB,if_false];omega
theorem Je {b:zAa}{a:Nat}(s rest:zAa):a<=(Ea b a s rest).2:=Nat.le_add_right a (cpN (b.drop a) s)
theorem Vmp {x y:Int}{u v n:Nat}(hx:x.natAbs<10^400)(hy:y.natAbs<10^400)(hu:u<=n)(hv:v<=n)(hn:n<=1152921504606846976):Cl.ok ⟨x+u,y+v,1⟩:=by
 have h:(10:Nat)^400+1152921504606846976<4294967296^100:=by decide +kernel
 unfold Cl.ok SB;constructor<;>dsimp only<;>omega
theorem Vhk {b:zAa}{a:Nat}:a<=OO b a:=by unfold OO;omega
structure LSt where
 law:zAa
 x:Int
 y:Int
 col:Nat
 row:Nat
 cells:List Cl
def Ck:zAa:=[120,32,61,32,48,44,32,121,32,61,32,48,44,32,114,117,108,101,32,61,32,97,10,33]
def KQ:zAa:=[35,67,88,82,76,69,32]
def Kq:zAa:=[80,111,115,61]
def Ik (b:zAa)(a:Nat)(rest:zAa):Er×Nat:=if a=b.length then (some (Mx b a (10::rest)),a)else Li b a rest
def Pc (b:zAa)(a:Nat)(st:LSt):(Er×Nat)×LSt:=
 if cpN (b.drop a) KQ<7 then (Ik b (OO b a) Ck,st)
 else match Ea b (a+7) Kq ([48,44,48,10]++Ck)with
 |(some e,c)=>((some e,c),st)
 |(none,c)=>match Fp b c true ([44,48,10]++Ck)with
  |(some e,d)=>((some e,d),st)
  |(none,d)=>match Ea b d [44] ([48,10]++Ck)with
   |(some e,f)=>((some e,f),{st with x:=Dq ((b.take d).drop c)})
   |(none,f)=>match Fp b f true (10::Ck)with
    |(some e,g)=>((some e,g),{st with x:=Dq ((b.take d).drop c)})
    |(none,g)=>(Ik b g Ck,{st with x:=Dq ((b.take d).drop c),y:=Dq ((b.take g).drop f)})
def Ot (b:zAa):Nat->Nat->LSt->(Er×Nat)×LSt
 |0,a,st=>((none,a),st)
 |k+1,a,st=>if Bc b a [35]then match Pc b a st with
   |((some e,c),st')=>((some e,c),st')
   |((none,c),st')=>Ot b k c st'
  else ((none,a),st)
def szA:zAa:=[120,32,61,32]
def szB:zAa:=[44,32,121,32,61,32]
def szC:zAa:=[44,32,114,117,108,101,32,61,32]
def UF:zAa:=[48,44,32,121,32,61,32,48,44,32,114,117,108,101,32,61,32,97,10,33]
def VhG:zAa:=[44,32,121,32,61,32,48,44,32,114,117,108,101,32,61,32,97,10,33]
def UE:zAa:=[48,44,32,114,117,108,101,32,61,32,97,10,33]
def VhF:zAa:=[44,32,114,117,108,101,32,61,32,97,10,33]
def Vh6 (b:zAa)(a:Nat)(st:LSt):(Er×Nat)×LSt:=
 match Ea b a szA UF with
 |(some e,c)=>((some e,c),st)
 |(none,c)=>match Fp b c false VhG with
  |(some e,d)=>((some e,d),st)
  |(none,d)=>match Ea b d szB UE with
   |(some e,f)=>((some e,f),st)
   |(none,f)=>match Fp b f false VhF with
    |(some e,g)=>((some e,g),st)
    |(none,g)=>match Ea b g szC [97,10,33]with
     |(some e,h)=>((some e,h),st)
     |(none,h)=>match Qx b h [10,33]with
      |(some e,i)=>((some e,i),st)
      |(none,i)=>(Ik b i [33],{st with law:=(b.take i).drop h})
def ViT (b:zAa)(a:Nat)(st:LSt):(Er×Nat)×LSt:=
 match Ot b (b.length+1) a st with
 |((some e,c),st')=>((some e,c),st')
 |((none,c),st')=>Vh6 b c st'
def J6 (b:zAa)(f:Nat):Nat->Nat->Nat->Er×Nat×Nat
 |0,a,n=>(none,a,n)
 |k+1,a,n=>
  if Bc b a Dm then
   if decide (n=0)&&Bc b a [48]then (some (Mx b a []),a,n)
   else if a-f=9 then (some (4,[]),a,n)
   else J6 b f k (a+1) (10*n+MV b a)
  else (none,a,n)
def JO:zAa:=[65,66,67,68,69,70,71,72,73,74,75,76,77,78,79,80,81,82,83,84,85,86,87,88]
def TE:zAa:=[112,113,114,115,116,117,118,119,120,121]
def VfR:zAa:=[80,81,82,83,84,85,86,87,88]
def atV (b:zAa)(a:Nat):Nat:=(b.getD a 0).toNat
def UC (b:zAa)(a:Nat):Er×Nat×Nat:=
 if Bc b a [46,98]then (none,a,0)
 else if Bc b a [111]then (none,a,1)
 else if Bc b a JO then (none,a,atV b a-65+1)
 else if Bc b a TE then
  if !Bc b (a+1) JO||(decide (b[a]? = some 121)&&Bc b (a+1) VfR)then (some (Mx b (a+1) [65,33]),a+1,0)
  else (none,a+1,24*(atV b a-112)+(atV b (a+1)-65)+25)
 else (some (Mx b a [98,33]),a,0)
def Tv (st:LSt)(n s:Nat):List Cl:=(List.range n).map λi=>⟨st.x+((st.col+i:Nat):Int),st.y+(st.row:Int),UInt8.ofNat s⟩
def OC (bx:Int)(n s:Nat)(st:LSt):Er×LSt:=
 if s=0 then (none,{st with col:=st.col+n})
 else if decide ((st.row:Int)>=bx)||decide ((st.col:Int)+n>bx)then (some (4,[]),st)
 else (none,{st with col:=st.col+n,cells:=st.cells++Tv st n s})
def OZ (b:zAa)(bx:Int)(a:Nat)(st:LSt):((Er×Nat)×LSt)×Bool:=
 match J6 b a 11 a 0 with
 |(some e,c,_)=>(((some e,c),st),false)
 |(none,c,t)=>
  if Bc b c [36]then (((none,c+1),{st with row:=st.row+max t 1,col:=0}),false)
  else if Bc b c [33]&&decide (t=0)then (((none,c),st),true)
  else match UC b c with
   |(some e,d,_)=>(((some e,d),st),false)
   |(none,d,s)=>match OC bx (max t 1) s st with
    |(some e,st')=>(((some e,d),st'),false)
    |(none,st')=>(((none,d+1),st'),false)
def J3 (b:zAa)(bx:Int):Nat->Nat->LSt->(Er×Nat)×LSt
 |0,a,st=>((none,a),st)
 |k+1,a,st=>
  if a=b.length then ((some (Mx b a [33]),a),st)
  else if Bc b a [32]then J3 b bx k (a+1) st
  else if Bc b a [13,10]then match Li b a [33]with
   |(some e,c)=>((some e,c),st)
   |(none,c)=>J3 b bx k c st
  else match OZ b bx a st with
   |(s,true)=>s
   |(((some e,c),st'),false)=>((some e,c),st')
   |(((none,c),st'),false)=>J3 b bx k c st'
def OQ (b:zAa)(bx:Int)(st:LSt):(Er×Nat)×LSt:=
 match ViT b 0 st with
 |((some e,c),st')=>((some e,c),st')
 |((none,c),st')=>J3 b bx (b.length+1) c st'
def QD:LSt:=⟨[],0,0,0,0,[]⟩
def Jb (b:zAa)(bx N:Int):(zAa×List Nd)×Int×Int:=
 if K0 bx N then
  match OQ b bx QD with
  |((some e,c),_)=>(([],[]),(c:Int),e.1)
  |((none,_),st)=>
   if decide ((CU st.cells).2=0)&&decide (((CU st.cells).1.length:Int)<=N)then ((st.law,(CU st.cells).1),0,0)
   else (([],[]),(b.length:Int),4)
 else (([],[]),0,1)
def Wb (b:zAa):zAa×Bool:=match (OQ b 1000 QD).1.1 with
 |none=>([],true)
 |some e=>(e.2,decide (e.1=0)||decide (e.1=3))
structure LOk (n:Nat)(st:LSt):Prop where
 x:st.x.natAbs<10^400
 y:st.y.natAbs<10^400
 c:st.col<=1000000000*n
 r:st.row<=1000000000*n
 k:st.cells.length<=1000*n
 ok:∀c∈st.cells,c.ok
theorem LOk.mono {n m:Nat}{st:LSt}(h:LOk n st)(hm:n<=m):LOk m st:=⟨h.x,h.y,WV h.c (XH _ hm),WV h.r (XH _ hm),WV h.k (XH _ hm),h.ok⟩
theorem Vbx {b:zAa}{a:Nat}(ha:a<=b.length)(rest:zAa):a<=(Ik b a rest).2/\(Ik b a rest).2<=b.length:=by unfold Ik;split;exact⟨W7 _,ha⟩;exact Vbq ha rest
theorem Vby (b:zAa)(a:Nat)(rest:zAa):KF (Ik b a rest).1:=by unfold Ik;split;exact .stp _ _ _;exact Vg3 _ _ _
structure VjC (b:zAa)(a:Nat)(st:LSt)(s:(Er×Nat)×LSt):Prop where
 le:s.1.2<=b.length
 ge:a<=s.1.2
 er:KF s.1.1
 ok:∀n,LOk n st->LOk n s.2
theorem VeR {b:zAa}{a:Nat}(ha:a<=b.length)(st:LSt):VjC b a st (Pc b a st):=by
 unfold Pc;split;have h1:=VbC ha;have h2:=Vhk (b:=b) (a:=a);have h3:=Vbx h1 Ck;exact⟨h3.2,by dsimp only;omega,Vby _ _ _,λn h=>h⟩
 ·rename_i hc;have hle:=Ll (b.drop a) KQ;have h0:a+7<=b.length:=by rw[WS]at hle;omega
  have h1:=EO (s:=Kq) (rest:=[48,44,48,10]++Ck) h0;have h2:=Je (b:=b) (a:=a+7) Kq ([48,44,48,10]++Ck);have hE:=MJ b (a+7) Kq ([48,44,48,10]++Ck);generalize Ea b (a+7) Kq ([48,44,48,10]++Ck)=M at h1 h2 hE;obtain⟨er,c⟩:=M;dsimp only at h1 h2 hE;cases er with
  |some e=>exact⟨h1,by dsimp only;omega,hE,λn h=>h⟩
  |none=>
   have h3:=HY h1 true ([44,48,10]++Ck);have hE:=S5 b c true ([44,48,10]++Ck);dsimp only;generalize Fp b c true ([44,48,10]++Ck)=M at h3 hE;obtain⟨er,d⟩:=M;dsimp only at h3 hE;cases er with
   |some e=>exact⟨h3.2,by dsimp only;omega,hE,λn h=>h⟩
   |none=>
    have h4:=EO (s:=[44]) (rest:=[48,10]++Ck) h3.2;have h5:=Je (b:=b) (a:=d) [44] ([48,10]++Ck);have hE:=MJ b d [44] ([48,10]++Ck);dsimp only;generalize Ea b d [44] ([48,10]++Ck)=M at h4 h5 hE;obtain⟨er,f⟩:=M;dsimp only at h4 h5 hE;cases er with
    |some e=>exact⟨h4,by dsimp only;omega,hE,λn h=>⟨N9 _,h.y,h.c,h.r,h.k,h.ok⟩⟩
    |none=>have h6:=HY h4 true (10::Ck);have hE:=S5 b f true (10::Ck);dsimp only;generalize Fp b f true (10::Ck)=M at h6 hE;obtain⟨er,g⟩:=M;dsimp only at h6 hE;cases er with|some e=>exact⟨h6.2,by dsimp only;omega,hE,λn h=>⟨N9 _,h.y,h.c,h.r,h.k,h.ok⟩⟩|none=>have h7:=Vbx h6.2 Ck;exact⟨h7.2,by dsimp only;omega,Vby _ _ _,λn h=>⟨N9 _,N9 _,h.c,h.r,h.k,h.ok⟩⟩
theorem Vbw {b:zAa}{a:Nat}(ha:a<=b.length)(rest:zAa)(h:(Ik b a rest).1=none):a<(Ik b a rest).2:=by
 unfold Ik at h⊢;by_cases he:a=b.length;rw[if_pos he]at h;cases h
 ·rw[if_neg he]at h⊢;unfold Li at h⊢;simp only[if_neg he]at h;split at h
  rename_i hs;unfold Vjl;rw[if_neg he,if_pos hs];have:a<=crN b a:=(by unfold crN;split<;>omega);dsimp only;rw[if_neg he,if_pos hs];omega;cases h
theorem VkN {b:zAa}{a:Nat}(ha:a<=b.length)(st:LSt)(h:(Pc b a st).1.1=none):a<(Pc b a st).1.2:=by
 unfold Pc at h⊢;split at h
 rename_i hc;rw[if_pos hc];have h1:=VbC ha;have h2:=Vhk (b:=b) (a:=a);have:=Vbw h1 Ck h;dsimp only;omega
 ·rename_i hc;rw[if_neg hc];have hle:=Ll (b.drop a) KQ;have h0:a+7<=b.length:=by rw[WS]at hle;omega
  have h1:=EO (s:=Kq) (rest:=[48,44,48,10]++Ck) h0;have h2:=Je (b:=b) (a:=a+7) Kq ([48,44,48,10]++Ck);generalize Ea b (a+7) Kq ([48,44,48,10]++Ck)=M at h h1 h2;obtain⟨er,c⟩:=M;dsimp only at h h1 h2⊢;cases er with
  |some e=>cases h
  |none=>
   have h3:=HY h1 true ([44,48,10]++Ck);dsimp only at h⊢;generalize Fp b c true ([44,48,10]++Ck)=M at h h3;obtain⟨er,d⟩:=M;dsimp only at h h3⊢;cases er with
   |some e=>cases h
   |none=>
    have h4:=EO (s:=[44]) (rest:=[48,10]++Ck) h3.2;have h5:=Je (b:=b) (a:=d) [44] ([48,10]++Ck);dsimp only at h⊢;generalize Ea b d [44] ([48,10]++Ck)=M at h h4 h5;obtain⟨er,f⟩:=M;dsimp only at h h4 h5⊢;cases er with
    |some e=>cases h
    |none=>have h6:=HY h4 true (10::Ck);dsimp only at h⊢;generalize Fp b f true (10::Ck)=M at h h6;obtain⟨er,g⟩:=M;dsimp only at h h6⊢;cases er with|some e=>cases h|none=>have:=Vbw h6.2 Ck h;dsimp only;omega
theorem VbX {b:zAa}:∀(k a:Nat)(st:LSt),a<=b.length->VjC b a st (Ot b k a st)
 |0,a,st,ha=>⟨ha,W7 _,.none,λn h=>h⟩
 |k+1,a,st,ha=>by
  unfold Ot;split;have h:=VeR ha st;generalize Pc b a st=M at h;obtain⟨⟨er,c⟩,st'⟩:=M;obtain⟨h1,h2,h3,h4⟩:=h;cases er with|some e=>exact⟨h1,h2,h3,h4⟩|none=>have ih:=VbX k c st' h1;exact⟨ih.le,WV h2 ih.ge,ih.er,λn h=>ih.ok n (h4 n h)⟩
  exact⟨ha,W7 _,.none,λn h=>h⟩
theorem VkD {b:zAa}{a:Nat}(ha:a<=b.length)(st:LSt):VjC b a st (Vh6 b a st):=by
 unfold Vh6;have h1:=EO (s:=szA) (rest:=UF) ha;have h2:=Je (b:=b) (a:=a) szA UF;have hE:=MJ b a szA UF;generalize Ea b a szA UF=M at h1 h2 hE;obtain⟨er,c⟩:=M;dsimp only at h1 h2 hE;cases er with
 |some e=>exact⟨h1,h2,hE,λn h=>h⟩
 |none=>
  have h3:=HY h1 false VhG;have hE:=S5 b c false VhG;dsimp only;generalize Fp b c false VhG=M at h3 hE;obtain⟨er,d⟩:=M;dsimp only at h3 hE;cases er with
  |some e=>exact⟨h3.2,by dsimp only;omega,hE,λn h=>h⟩
  |none=>
   have h4:=EO (s:=szB) (rest:=UE) h3.2;have h5:=Je (b:=b) (a:=d) szB UE;have hE:=MJ b d szB UE;dsimp only;generalize Ea b d szB UE=M at h4 h5 hE;obtain⟨er,f⟩:=M;dsimp only at h4 h5 hE;cases er with
   |some e=>exact⟨h4,by dsimp only;omega,hE,λn h=>h⟩
   |none=>
    have h6:=HY h4 false VhF;have hE:=S5 b f false VhF;dsimp only;generalize Fp b f false VhF=M at h6 hE;obtain⟨er,g⟩:=M;dsimp only at h6 hE;cases er with
    |some e=>exact⟨h6.2,by dsimp only;omega,hE,λn h=>h⟩
    |none=>
     have h7:=EO (s:=szC) (rest:=[97,10,33]) h6.2;have h8:=Je (b:=b) (a:=g) szC [97,10,33];have hE:=MJ b g szC [97,10,33];dsimp only;generalize Ea b g szC [97,10,33]=M at h7 h8 hE;obtain⟨er,h⟩:=M;dsimp only at h7 h8 hE;cases er with
     |some e=>exact⟨h7,by dsimp only;omega,hE,λn h=>h⟩
     |none=>have h9:=VeK (rest:=[10,33]) h7;have hE:=VkH b h [10,33];dsimp only;generalize Qx b h [10,33]=M at h9 hE;obtain⟨er,i⟩:=M;dsimp only at h9 hE;cases er with|some e=>exact⟨h9.2,by dsimp only;omega,hE,λn h=>h⟩|none=>have hz:=Vbx h9.2 [33];exact⟨hz.2,by dsimp only;omega,Vby _ _ _,λn h=>⟨h.x,h.y,h.c,h.r,h.k,h.ok⟩⟩
theorem Vgc {b:zAa}{a:Nat}(ha:a<=b.length)(st:LSt):VjC b a st (ViT b a st):=by unfold ViT;have h:=VbX (b.length+1) a st ha;generalize Ot b (b.length+1) a st=M at h;obtain⟨⟨er,c⟩,st'⟩:=M;obtain⟨h1,h2,h3,h4⟩:=h;cases er with|some e=>exact⟨h1,h2,h3,h4⟩|none=>have hs:=VkD h1 st';exact⟨hs.le,WV h2 hs.ge,hs.er,λn h=>hs.ok n (h4 n h)⟩
theorem Vku {b:zAa}{a:Nat}(h:Bc b a Dm=true):MV b a<=9:=by
 have hl:=CE h;unfold Bc at h;unfold MV;rw[W4 hl]at h;rw[W6,W4 hl];have:b[a]∈Dm:=by simpa using h
 have key:∀x∈Dm,x.toNat-48<=9:=by decide
 exact key _ this
structure Vqe (b:zAa)(a:Nat)(s:Er×Nat×Nat):Prop where
 le:s.2.1<=b.length
 ge:a<=s.2.1
 n:s.2.2<=999999999
 er:KF s.1
theorem VgJ {b:zAa}{f:Nat}:∀(k a n:Nat),a<=b.length->f<=a->a<=f+9->n<10^(a-f)->Vqe b a (J6 b f k a n)
 |0,a,n,h1,h2,h3,h4=>⟨h1,W7 _,by have:=Xe (show 0<10 by decide) (show a-f<=9 by omega);unfold J6;dsimp only;omega,.none⟩
 |k+1,a,n,h1,h2,h3,h4=>by
  have hn:n<=999999999:=by have:=Xe (show 0<10 by decide) (show a-f<=9 by omega);omega
  unfold J6;split;rename_i hs;have hlt:=CE hs;have hd:=Vku hs;split;exact⟨h1,W7 _,hn,.stp _ _ _⟩;split;exact⟨h1,W7 _,hn,.lim⟩;rename_i h9;have ih:=VgJ (f:=f) (b:=b) k (a+1) (10*n+MV b a) (by omega) (by omega) (by omega) (by rw[show a+1-f=a-f+1 by omega,Nat.pow_succ];omega);exact⟨ih.le,by have:=ih.ge;omega,ih.n,ih.er⟩;exact⟨h1,W7 _,hn,.none⟩
theorem Vdc {b:zAa}{a:Nat}(h:a<=b.length):Vqe b a (J6 b a 11 a 0):=VgJ 11 a 0 h (W7 _) (by omega) (by simp)
structure Vqs (b:zAa)(a:Nat)(s:Er×Nat×Nat):Prop where
 le:s.2.1<=b.length
 ge:a<=s.2.1
 up:s.1=none->s.2.1<b.length
 er:KF s.1
theorem Vez {b:zAa}{a:Nat}(h:a<=b.length):Vqs b a (UC b a):=by
 unfold UC;split;rename_i hs;have:=CE hs;exact⟨h,W7 _,λ_=>this,.none⟩
 ·split;rename_i hs;have:=CE hs;exact⟨h,W7 _,λ_=>this,.none⟩
  ·split;rename_i hs;have:=CE hs;exact⟨h,W7 _,λ_=>this,.none⟩
   ·split;rename_i hs;have hlt:=CE hs;split;exact⟨by dsimp only;omega,by dsimp only;omega,λh=>(by cases h),.stp _ _ _⟩;rename_i hc;have lK:Bc b (a+1) JO=true:=(by cases hq:Bc b (a+1) JO with|true=>rfl|false=>rw[hq]at hc;exact absurd rfl hc);have:=CE lK;exact⟨by dsimp only;omega,by dsimp only;omega,λ_=>this,.none⟩;exact⟨h,W7 _,λh=>(by cases h),.stp _ _ _⟩
theorem Vci (st:LSt)(n s:Nat):(Tv st n s).length=n:=by simp[Tv]
theorem Vlg {bx:Int}(hbx:bx<=1000){n s m:Nat}{st:LSt}(hn:n<=999999999)(hm:m<=1000000)(h:LOk m st):LOk (m+1) (OC bx n s st).2/\KF (OC bx n s st).1:=by
 have hc:=h.c;have hr:=h.r;have hk:=h.k;unfold OC;split;exact⟨⟨h.x,h.y,by dsimp only;omega,by dsimp only;omega,by dsimp only;omega,h.ok⟩,.none⟩
 ·split;exact⟨h.mono (by omega),.lim⟩;rename_i hq;simp only[X0,zXe,not_or]at hq;refine⟨⟨h.x,h.y,by dsimp only;omega,by dsimp only;omega,?_,λc hc=>?_⟩,.none⟩;rw[WC,Vci];omega;rcases WT.1 hc with q | q;exact h.ok c q;obtain⟨i,hi,rfl⟩:=XM.1 q;have aE:i<n:=(by simpa using hi);have key:=Vmp (x:=st.x) (y:=st.y) (u:=st.col+i) (v:=st.row) (n:=1000) h.x h.y (by omega) (by omega) (by decide);exact key
structure Vqr (b:zAa)(a:Nat)(st:LSt)(s:((Er×Nat)×LSt)×Bool):Prop where
 le:s.1.1.2<=b.length
 ge:a<=s.1.1.2
 up:s.1.1.1=none->s.2=false->a<s.1.1.2
 er:KF s.1.1.1
 ok:∀n,n<=1000000->LOk n st->LOk (n+1) s.1.2
 no:s.2=true->s.1.1.1=none
theorem Veq {b:zAa}{bx:Int}(hbx:bx<=1000){a:Nat}(ha:a<=b.length)(st:LSt):Vqr b a st (OZ b bx a st):=by
 unfold OZ;have h1:=Vdc ha;generalize J6 b a 11 a 0=M at h1;obtain⟨er,c,t⟩:=M;obtain⟨c1,c2,c3,c4⟩:=h1;dsimp only at c1 c2 c3 c4;cases er with
 |some e=>exact⟨c1,c2,λh=>(by cases h),c4,λn _ h=>h.mono (by omega),λh=>(by cases h)⟩
 |none=>
  dsimp only;have kV:max t 1<=999999999:=by omega
  split;rename_i hs;have:=CE hs;exact⟨by dsimp only;omega,by dsimp only;omega,λ_ _=>by dsimp only;omega,.none,λn _ h=>⟨h.x,h.y,WZ _,by have:=h.r;dsimp only;omega,WV h.k (XH _ (by omega)),h.ok⟩,λh=>(by cases h)⟩
  ·split;exact⟨c1,c2,λ_ h=>(by cases h),.none,λn _ h=>h.mono (by omega),λ_=>rfl⟩
   ·have h2:=Vez c1;generalize UC b c=M at h2;obtain⟨er,d,s⟩:=M;obtain⟨d1,d2,d3,d4⟩:=h2;dsimp only at d1 d2 d3 d4;cases er with
    |some e=>exact⟨d1,by dsimp only;omega,λh=>(by cases h),d4,λn _ h=>h.mono (by omega),λh=>(by cases h)⟩
    |none=>dsimp only;have d3:=d3 rfl;have hp:=λm hm h=>Vlg hbx (s:=s) (m:=m) (st:=st) kV hm h;have qQ:KF (OC bx (max t 1) s st).1:=(by unfold OC;split;exact .none;split;exact .lim;exact .none);generalize OC bx (max t 1) s st=M at hp qQ;obtain⟨er,st'⟩:=M;cases er with|some e=>exact⟨d1,by dsimp only;omega,λh=>(by cases h),qQ,λn hn h=>(hp n hn h).1,λh=>(by cases h)⟩|none=>exact⟨by dsimp only;omega,by dsimp only;omega,λ_ _=>by dsimp only;omega,.none,λn hn h=>(hp n hn h).1,λh=>(by cases h)⟩
theorem VcN {b:zAa}{a:Nat}(h:Bc b a [13,10]=true)(rest:zAa)(he:(Li b a rest).1=none):a<(Li b a rest).2:=by have hl:=CE h;have:=Vbw (Nat.le_of_lt hl) rest (by unfold Ik;rw[if_neg (by omega)];exact he);unfold Ik at this;rw[if_neg (by omega)]at this;exact this
theorem So {b:zAa}{bx:Int}(hbx:bx<=1000):∀(k a:Nat)(st:LSt)(n:Nat),a<=b.length->n+(b.length-a)<=1000000->LOk n st->(J3 b bx k a st).1.2<=b.length/\KF (J3 b bx k a st).1.1/\LOk (n+(b.length-a)+1) (J3 b bx k a st).2
 |0,a,st,n,ha,hn,h=>⟨ha,.none,h.mono (by omega)⟩
 |k+1,a,st,n,ha,hn,h=>by
  unfold J3;split;exact⟨ha,.stp _ _ _,h.mono (by omega)⟩
  ·rename_i he;split;have ih:=So (b:=b) hbx k (a+1) st n (by omega) (by omega) h;exact⟨ih.1,ih.2.1,ih.2.2.mono (by omega)⟩
   ·split;rename_i hs;have h1:=Vbq ha [33];have h2:=VcN hs [33];have h3:=Vg3 b a [33];generalize Li b a [33]=M at h1 h2 h3;obtain⟨er,c⟩:=M;dsimp only at h1 h2 h3;cases er with|some e=>exact⟨h1.2,h3,h.mono (by omega)⟩|none=>have h2:=h2 rfl;have ih:=So hbx k c st n h1.2 (by omega) h;exact⟨ih.1,ih.2.1,ih.2.2.mono (by omega)⟩
    ·have ht:=Veq hbx ha st;generalize OZ b bx a st=M at ht;obtain⟨⟨⟨er,c⟩,st'⟩,d⟩:=M;obtain⟨t1,t2,t3,t4,t5,t6⟩:=ht;dsimp only at t1 t2 t3 t4 t5 t6;have t5:=t5 n (by omega) h;cases d with
     |true=>exact⟨t1,t4,t5.mono (by omega)⟩
     |false=>cases er with|some e=>exact⟨t1,t4,t5.mono (by omega)⟩|none=>have:=t3 rfl rfl;have ih:=So hbx k c st' (n+1) t1 (by omega) t5;exact⟨ih.1,ih.2.1,ih.2.2.mono (by omega)⟩
theorem Vm6 {b:zAa}{bx:Int}(hbx:bx<=1000)(hb:b.length<=1000000){st:LSt}(h:LOk 0 st):(OQ b bx st).1.2<=b.length/\KF (OQ b bx st).1.1/\LOk (b.length+1) (OQ b bx st).2:=by unfold OQ;have h1:=Vgc (WZ b.length) st;generalize ViT b 0 st=M at h1;obtain⟨⟨er,c⟩,st'⟩:=M;obtain⟨h1,h2,h3,h4⟩:=h1;dsimp only at h1 h2 h3 h4;cases er with|some e=>exact⟨h1,h3,(h4 0 h).mono (by omega)⟩|none=>have:=So hbx (b.length+1) c st' 0 h1 (by omega) (h4 0 h);exact⟨this.1,this.2.1,this.2.2.mono (by omega)⟩
theorem Vba:LOk 0 QD:=⟨by decide +kernel,by decide +kernel,W7 _,W7 _,W7 _,λc hc=>by cases hc⟩
set_option exponentiation.threshold 5000
theorem Ti (n:Nat):Gy (AB n)=true:=(O8 (Bz n)).2 (Ks n)
theorem Vjt (n:Nat)(tk:Tok)(H:Aa)(hl:(AB n).length<=1099511627776):UaC (.sl (enL cU (AB n)) tk) H=some (.ret (.sl (enL cU (AB n)) .no),H):=by have hr:=VaQ (AB n) tk H hl;rw[Ti]at hr;unfold UaC;rw[Eg Fr];unfold Uaf;simp only[Ao,GMw,hr,Xo,Ez,forget,ED,fgt]
theorem Veh (k:Nat):(4294967296:Nat)^k=2^(32*k):=by rw[show(4294967296:Nat)=2^32 from by decide,<-YV]
theorem Vmw {l':zAb}{x:Nat}(hx:Lim (l'++[x]))(h0:x≠0):blN (val (l'++[x]))=32*l'.length+blN x:=by
 have h1:=G8 (l:=l') λy hy=>hx y (by simp[hy]);rw[CC,KH];rw[Veh]at h1⊢;have hp:0<2^(32*l'.length):=YA (by decide);have h2:2^(32*l'.length)<=val l'+2^(32*l'.length)*x:=by have:2^(32*l'.length)*1<=2^(32*l'.length)*x:=XH _ (by omega);omega
 rw[Vb2 h2,Zq _ _ hp,XX h1,W9,Zf]
theorem VnB (n:Nat)(tk:Tok)(H:Aa)(hl:(AB n).length<=1000000):Ucs (.sl (enL cU (AB n)) tk) H=some (.ret (.i6 (blN n:Int)),H):=by
 have hc:=Vjt n tk H (by omega);unfold Ucs;simp only[GMw,hc,Aw];have hx:=Bz n;have hn:=(Ks n).last;have hv:=B9 n;generalize AB n=l at *;rcases HE l with rfl | ⟨l',x,rfl⟩;have:n=0:=hv.symm;subst this;simp[blN]
 ·simp only[WC,zXi]at hl;have zG:x≠0:=hn x (by simp);have h1:l'.length<(l'++[x]).length:=by simp
  have h3:IntKind.i64.wrap ((((l'++[x]).length:Nat):Int)-1)=(l'.length:Int):=by rw[Am]<;>simp<;>omega
  have hne:((((l'++[x]).length:Nat):Int)==0)=false:=by simp;omega
  have nT:decide ((((l'++[x]).length:Nat):Int)=0)=false:=zXd (by simp;omega);have h4:IntKind.i64.wrap ((l'.length:Int)*32)=((32*l'.length:Nat):Int):=by rw[Am]<;>omega
  have iG:=hx x (by simp);have hb:blN x<=32:=JQ.2 (by simpa using iG);have h5:IntKind.i64.wrap (((32*l'.length:Nat):Int)+(blN x:Int))=(blN n:Int):=by rw[<-hv,Vmw hx zG,Am]<;>omega
  have vX:=λK=>Vlk iG K;simp only[hne,nT,AL,h3,Ay h1,A5,zXh,XA (W7 _),Xi,List.getElem_cons_zero,GMw,h4,vX,h5]
theorem Vl9 {l:zAb}(hx:Lim l){q:Nat}(hq:q<l.length):l[q]=val l / 2^(32*q)%4294967296:=by
 have e:l=l.take q++(l[q]::l.drop (q+1)):=by rw[<-Xb hq,Xk]
 have h1:=G8 (l:=l.take q) λy hy=>hx y (X5 hy);have h2:=hx l[q] (WI hq);have hv:val l=val (l.take q)+4294967296^q*(l[q]+4294967296*val (l.drop (q+1))):=by
  conv=>lhs;rw[e]
  rw[CC,WN,X4 (by omega)]
  rfl
 rw[WN,X4 (by omega)]at h1;have hp:0<4294967296^q:=YA (by decide);rw[hv,<-Veh,Zq _ _ hp,XX h1,W9,Nat.add_mul_mod_self_left,X9 h2]
theorem Vh8 (x k:Nat)(hk:k<=32):Af .none .shr (.int .u32 (x:Int)) (.i6 (k:Int))=some (.int .u32 ((x / 2^k:Nat):Int)):=VaF x k hk
theorem Vm3 {x:Nat}(hx:x<4294967296):Af .none .and (.int .u32 (x:Int)) (.int .u32 1)=some (.int .u32 ((x%2:Nat):Int)):=by have h:=(KD (BitVec.ofNat 32 x) (BitVec.ofNat 32 1)).1;rw[BitVec.toNat_and,Yo,Yo,X9 hx,X9 (by decide),Nat.and_one_is_mod]at h;rw[Nv .and rfl _ _ (λ_ _ _=>rfl)];exact h
theorem VnD (n i:Nat)(tk:Tok)(H:Aa)(hl:(AB n).length<=1000000)(hi:i<1000000):UaB (.sl (enL cU (AB n)) tk) (.i6 (i:Int)) H=some (.ret (.bool (n.testBit i)),H):=by
 have d0:decide ((i:Int)>=0)=true:=zXc (by omega);have hq:Af .none .quo (.i6 (i:Int)) (.i6 32)=some (.i6 ((i / 32:Nat):Int)):=by show some (Ab.i6 (IntKind.i64.wrap (((i / 32:Nat):Int))))=_;rw[Am (by omega) (by omega)]
 have uP:Af .none .rem (.i6 (i:Int)) (.i6 32)=some (.i6 ((i%32:Nat):Int)):=rfl;unfold UaB;by_cases h:i / 32<(AB n).length
 ·have d1:decide (((i / 32:Nat):Int)<((AB n).length:Int))=true:=zXc (by omega);have hx:=Bz n _ (WI h);have ha:=Vl9 (Bz n) h;rw[B9]at ha;have hs:=Vh8 (AB n)[i / 32] (i%32) (by omega);have han:=Vm3 (x:=(AB n)[i / 32] / 2^(i%32)) (Xt (Nat.div_le_self _ _) hx);have ht:((((AB n)[i / 32] / 2^(i%32)%2:Nat):Int)==1)=n.testBit i:=by have e1:n.testBit i=(AB n)[i / 32].testBit (i%32):=(by rw[ha,show(4294967296:Nat)=2^32 from by decide,Nat.testBit_mod_two_pow,Nat.testBit_div_two_pow,zXc (show i%32<32 by omega),zXn,show i%32+32*(i / 32)=i by omega]);rw[e1,Yu];generalize (AB n)[i / 32] / 2^(i%32)%2=z;rw[WP];simp;omega
  simp only[GMw,d0,hq,Aw,d1,Ay h,A5,zXh,uP,hs,han,ht]
 have d1:decide (((i / 32:Nat):Int)<((AB n).length:Int))=false:=zXd (by omega);have h1:=G8 (Bz n);rw[B9,Veh]at h1;have hf:n.testBit i=false:=Nat.testBit_lt_two_pow (X1 h1 (Xe (by decide) (by omega)));simp only[GMw,d0,hq,Aw,d1,hf]
theorem VjU {z:Int}(H:Aa)(hz:LB z)(hl:z.natAbs<4294967296^100):Ube (big z) H=some (.ret (.i6 ((1+blN (if z<0 then z.natAbs-1 else z.natAbs):Nat):Int)),H):=by
 have key:∀w:Nat,w<=z.natAbs->(AB w).length<=1000000:=λw hw=>WV (Fm (Xt hw hl)) (by decide);have hbl:∀w:Nat,w<=z.natAbs->IntKind.i64.wrap (1+(blN w:Int))=((1+blN w:Nat):Int):=λw hw=>by have:blN w<=32*100:=JQ.2 (Xt hw (by rw[Veh]at hl;exact hl));rw[Am]<;>omega
 have one:∀K,Uah (.i6 1) K=some (.ret (big 1),K):=λK=>Vpw 1 K (by decide) (by decide);have l1:LB 1:=by unfold LB;exact WV (Fm (k:=1) (by decide)) (by decide)
 unfold Ube Ue4;by_cases h:z<0
 ·have e:(-z-1).natAbs=z.natAbs-1:=by omega
  have hs:=λK=>Vn6 K hz.neg l1;have bG:=λK=>VnB (z.natAbs-1) .no K (key _ (by omega));have hb:=hbl (z.natAbs-1) (by omega);simp[DA,h,AJ,Vf0,one,hs,e,bG,hb]
 have bG:=λK=>VnB z.natAbs .no K (key _ (by omega));have hb:=hbl z.natAbs (by omega);simp[DA,h,AJ,bG,hb]
def Pn (z:Int):Nat:=1+blN (if z<0 then z.natAbs-1 else z.natAbs)
theorem VmN (w:Nat):(2:Int)^w=((2^w:Nat):Int):=by simp
theorem VcA {v:Nat}{z:Int}(h:1<=v):inZ v z=decide (Pn z<=v):=by
 have hp:0<2^(v-1):=YA (by decide);have key:∀u,1+blN u<=v↔u<2^(v-1):=λu=>by rw[<-JQ];omega
 unfold inZ Pn;rw[WP];simp only[WG,zXe,VmN,key];generalize 2^(v-1)=P at *;by_cases hz:z<0;rw[if_pos hz];omega;rw[if_neg hz];omega
def RG (c:Cl):Nat:=max (Pn c.x) (Pn c.y)
theorem Va0 {v:Nat}{c:Cl}(h:1<=v):EV v c=decide (RG c<=v):=by unfold EV RG;rw[VcA h,VcA h,WP];simp only[WG,zXe];omega
theorem VL:∀f v c,1<=v->J5 f v c=max v (min (RG c) (v+f))
 |0,v,c,h=>by unfold J5;omega
 |f+1,v,c,h=>by unfold J5;rw[Va0 h];by_cases q:RG c<=v;rw[if_pos (zXc q)];omega;rw[if_neg (by simpa using q),VL f (v+1) c (by omega)];omega
def mxN:List Cl->Nat
 |[]=>0
 |c::l=>max (RG c) (mxN l)
theorem Vgq:∀(l:List Cl)(v:Nat),1<=v->v<=1330->l.foldl (λv c=>J5 (1330-v) v c) v=max v (min 1330 (mxN l))
 |[],v,h1,h2=>by simp only[List.foldl_nil,mxN];omega
 |c::l,v,h1,h2=>by have h:=VL (1330-v) v c h1;rw[List.foldl_cons,Vgq l _ (by omega) (by omega),h];simp only[mxN];omega
def E6 (l:List Cl):Nat->Nat
 |0=>1
 |i+1=>match l[i]? with | some c=>max (E6 l i) (RG c) | none=>E6 l i
theorem Q9 (l:List Cl):∀i,E6 l i=max 1 (mxN (l.take i))
 |0=>rfl
 |i+1=>by
  have hs:∀(m:List Cl)(c:Cl),mxN (m++[c])=max (mxN m) (RG c):=λm c=>by
   induction m with
   |nil=>simp only[List.nil_append,mxN];omega
   |cons d m ih=>simp only[List.cons_append,mxN,ih];omega
  unfold E6;rw[Q9 l i];rcases Xj i l.length with h | h;rw[W4 h,WF h,hs];dsimp only;omega;rw[zYb h,WH (show l.length<=i+1 by omega),WH h]
theorem Vak (l:List Cl):A9 l=min 1330 (E6 l l.length):=by unfold A9;rw[Vgq l 1 (by omega) (by omega),Q9,Xu];omega
structure Sp where
 a:Nat
 b:Nat
 s:UInt8
def cSp (p:Sp):List Ab:=[.sl (enL cU (AB p.a)) .no,.sl (enL cU (AB p.b)) .no,.int .u8 (p.s.toNat:Int)]
instance:Sz cSp 3:=⟨λ_=>rfl⟩
def spot (h:Int)(c:Cl):Sp:=⟨(c.x+h).toNat,(c.y+h).toNat,c.s⟩
def qOf (v:Nat)(p:Sp):Nat:=(if p.a.testBit v then 1 else 0)+(if p.b.testBit v then 2 else 0)
def qSp (v k:Nat)(S:List Sp):List Sp:=S.filter λp=>decide (qOf v p=k)
def VlO:List Sp->Int
 |[]=>0
 |p::_=>(p.s.toNat:Int)
def lyK (rec:List Nd->List Sp->List Nd×Nat)(v:Nat)(S:List Sp):Nat->List Nd->List Nd×Nd
 |0,out=>(out,⟨((v+1:Nat):Int),0,0,0,0⟩)
 |k+1,out=>
  if v=0 then ((lyK rec v S k out).1,(lyK rec v S k out).2.setKid k (VlO (qSp v k S)))
  else ((rec (lyK rec v S k out).1 (qSp v k S)).1,(lyK rec v S k out).2.setKid k ((rec (lyK rec v S k out).1 (qSp v k S)).2:Int))
def CI:Nat->List Nd->List Sp->List Nd×Nat
 |0,out,_=>(out,0)
 |v+1,out,S=>if S=[]then (out,0)else ((lyK (CI v) v S 4 out).1++[(lyK (CI v) v S 4 out).2],(lyK (CI v) v S 4 out).1.length+1)
theorem Vkz {A X v m:Nat}(hX:X=2^(v+1)*m)(h1:X<=A)(h2:A<X+2^(v+1)):A.testBit v=decide (X+2^v<=A):=by
 have hp:0<2^v:=YA (by decide);have e:2^(v+1)=2^v*2:=Nat.pow_succ _ _;obtain⟨r,rfl⟩:∃r,A=X+r:=⟨A-X,by omega⟩;rw[Yu,hX,e,Yj,Nat.mul_add_div hp,Nat.mul_add_mod];have hr:r<2^v*2:=by omega
 by_cases q:2^v<=r
 ·have:r / 2^v=1:=by rw[show r=2^v*1+(r-2^v)by omega,Nat.mul_add_div hp,XX (by omega)]
  rw[this,WP];simp;omega
 rw[XX (by omega),WP];simp;omega
theorem VeU {v k:Nat}{x y h:Int}{X Y m n:Nat}{c:Cl}(hk:k<4)(hx:(X:Int)=x+h)(hy:(Y:Int)=y+h)(hX:X=2^(v+1)*m)(hY:Y=2^(v+1)*n)(hc:F6 (v+1) x y c):inQ (v+1) (qa (v+1) x k) (qb (v+1) y k) c=decide (qOf v (spot h c)=k):=by
 obtain⟨c1,c2,c3,c4⟩:=hc;have e:(2:Int)^(v+1)=((2^(v+1):Nat):Int):=VmN _;rw[e]at c2 c4;have b1:=Vkz (A:=(c.x+h).toNat) hX (by omega) (by omega);have b2:=Vkz (A:=(c.y+h).toNat) hY (by omega) (by omega);have e2:2^(v+1)=2^v*2:=Nat.pow_succ _ _;rw[e2]at c2 c4;unfold qOf spot;dsimp only;rw[b1,b2];unfold inQ qa qb;rw[WQ,VmN];generalize 2^v=P at *;clear hX hY b1 b2 e e2;have t1:(X+P<=(c.x+h).toNat)↔x+P<=c.x:=by omega
 have t2:(Y+P<=(c.y+h).toNat)↔y+P<=c.y:=by omega
 simp only[t1,t2,zXe];rw[WP];simp only[WG,zXe];by_cases q1:x+P<=c.x
 ·by_cases q2:y+P<=c.y
  ·rw[if_pos q1,if_pos q2]
   match k,hk with
   |0,_=>simp;omega
   |1,_=>simp;omega
   |2,_=>simp;omega
   |3,_=>simp;omega
  ·rw[if_pos q1,if_neg q2]
   match k,hk with
   |0,_=>simp;omega
   |1,_=>simp;omega
   |2,_=>simp;omega
   |3,_=>simp;omega
 ·by_cases q2:y+P<=c.y
  ·rw[if_neg q1,if_pos q2]
   match k,hk with
   |0,_=>simp;omega
   |1,_=>simp;omega
   |2,_=>simp;omega
   |3,_=>simp;omega
  ·rw[if_neg q1,if_neg q2]
   match k,hk with
   |0,_=>simp;omega
   |1,_=>simp;omega
   |2,_=>simp;omega
   |3,_=>simp;omega
theorem Vgd (h:Int)(l:List Cl):VlO (l.map (spot h))=Gg l:=by cases l<;>rfl
theorem VhW {v k:Nat}{x y h:Int}{X Y m n:Nat}{l:List Cl}(hk:k<4)(hx:(X:Int)=x+h)(hy:(Y:Int)=y+h)(hX:X=2^(v+1)*m)(hY:Y=2^(v+1)*n)(hc:∀c∈l,F6 (v+1) x y c):qSp v k (l.map (spot h))=(Bt (v+1) x y k l).map (spot h):=by
 unfold qSp Bt;rw[List.filter_map]
 congr 1
 refine List.filter_congr λc aG=>?_;exact(VeU hk hx hy hX hY (hc c aG)).symm
theorem VR {h:Int}:∀(v:Nat)(out:List Nd)(x y:Int)(l:List Cl)(X Y m n:Nat),(X:Int)=x+h->(Y:Int)=y+h->X=2^v*m->Y=2^v*n->(∀c∈l,F6 v x y c)->CI v out (l.map (spot h))=AS v out x y l
 |0,out,x,y,l,X,Y,m,n,_,_,_,_,_=>rfl
 |v+1,out,x,y,l,X,Y,m,n,hx,hy,hX,hY,hc=>by
  have e2:2^(v+1)=2^v*2:=Nat.pow_succ _ _;have key:∀k,k<=4->lyK (CI v) v (l.map (spot h)) k out=plK (AS v) (v+1) x y l k out:=by
   intro k
   induction k with
   |zero=>intro _;rfl
   |succ k ih=>
    intro hk;have hq:=VhW (k:=k) (by omega) hx hy hX hY hc;unfold lyK plK;rw[ih (by omega),hq,Vgd];by_cases h0:v=0;rw[if_pos h0,if_pos (by omega)]
    ·rw[if_neg h0,if_neg (by omega)];have hrec:=VR (h:=h) v (plK (AS v) (v+1) x y l k out).1 (qa (v+1) x k) (qb (v+1) y k) (Bt (v+1) x y k l)
      (if k%2=1 then X+2^v else X) (if 1<k then Y+2^v else Y) (if k%2=1 then m*2+1 else m*2) (if 1<k then n*2+1 else n*2)
      (by unfold qa;rw[WQ,VmN];split<;>omega) (by unfold qb;rw[WQ,VmN];split<;>omega)
      (by rw[hX,e2];split<;>(simp only[XE,WK,Yj,XG 2 m])) (by rw[hY,e2];split<;>(simp only[XE,WK,Yj,XG 2 n]))
      (λc hc=>MA hc)
     rw[hrec]
  unfold CI AS;rw[key 4 (by omega)];by_cases h0:l=[];rw[if_pos (by rw[h0];rfl),if_pos h0];rw[if_neg (by simpa using h0),if_neg h0]
theorem Vmr {L:List Nd}{tk:Tok}{i:Nat}(hi:i<L.length)(h1:1<=L[i].lv)(h2:L[i].lv<=1329)(c:Int)(H:Aa)(hL:L.length<1152921504606846976):Ucx (.sl (enL cNd L) tk) (.i6 (i:Int)) (.i6 c) H=some (.ret (.bool (Dz L i L[i] c)),H):=by
 unfold Ucx;simp only[GMw,HPw,Nat.reduceAdd,Nat.reduceLT,Ay hi,JH,Cy,Gn,F2,Ge];generalize L[i]=x at h1 h2;by_cases hc:c=0
 ·have:Dz L i x c=true:=by unfold Dz;simp only[WG,zXe];exact⟨⟨by omega,λ_=>by omega⟩,λ_ h=>by omega⟩
  rw[this];simp only[hc,GMw,HPw,Nat.reduceAdd,Nat.reduceLT]
 ·simp only[hc,GMw,HPw,Nat.reduceAdd,Nat.reduceLT,Cy];by_cases hl:x.lv=1;have:Dz L i x c=(decide (c>0)&&decide (c<=255)):=(by unfold Dz;rw[WP];simp only[WG,zXe];exact⟨λh=>⟨by omega,h.1.2 hl⟩,λh=>⟨⟨by omega,λ_=>h.2⟩,λh'=>by omega⟩⟩);rw[this];by_cases h0:c>0;simp only[hl,h0,GMw,HPw,Nat.reduceAdd,Nat.reduceLT];simp only[hl,h0,GMw,HPw,Nat.reduceAdd,Nat.reduceLT];simp only[hl,GMw,HPw,Nat.reduceAdd,Nat.reduceLT];by_cases h0:c>0;by_cases iO:c<=(i:Int);obtain⟨m,rfl⟩:∃m:Nat,c=((m+1:Nat):Int):=⟨(c-1).toNat,by omega⟩;have hm:m<L.length:=(by omega);have hw:IntKind.i64.wrap (((m+1:Nat):Int)-1)=(m:Int):=(by rw[Am]<;>omega);have bZ:IntKind.i64.wrap (x.lv-1)=x.lv-1:=Am (by omega) (by omega);have:Dz L i x ((m+1:Nat):Int)=decide (L[m].lv=x.lv-1):=(by unfold Dz;rw[WP];simp only[WG,zXe,show(((m+1:Nat):Int)-1).toNat=m by omega,W4 hm,WE];exact⟨λh=>(h.2 (by omega) h0).2 _ rfl,λh=>⟨⟨by omega,λh'=>absurd h' hl⟩,λ_ _=>⟨iO,λy e=>by rw[<-e];exact h⟩⟩⟩);rw[this];simp only[h0,iO,GMw,HPw,Nat.reduceAdd,Nat.reduceLT,hw,bZ,Ay hm,Aq,A5,Cy];have:Dz L i x c=false:=(by unfold Dz;rw[Yp];right;rw[decide_eq_false_iff_not];intro h;exact iO (h (by omega) h0).1);rw[this];simp only[h0,iO,GMw,HPw,Nat.reduceAdd,Nat.reduceLT];have:Dz L i x c=false:=(by unfold Dz;rw[Yp,Yp];left;left;rw[decide_eq_false_iff_not];omega);rw[this];simp only[h0,GMw,HPw,Nat.reduceAdd,Nat.reduceLT]
theorem VgX (L:List Nd)(tk:Tok)(H:Aa)(hL:L.length<1152921504606846976):Ubg (.sl (enL cNd L) tk) H=some (.ret (.bool (AF L)),H):=by
 unfold Ubg;rw[show AF L=(List.range L.length).all (GI L) from rfl];simp only[GMw,HPw,Nat.reduceAdd,Nat.reduceLT,Aw];have key:∀(d i:Nat)(G:Aa),i+d=L.length->(∀j,j<i->GI L j=true)->∀n,d<n->Al (λrec1 vs H1=>Uam H rec1 (ag vs 0) (ag vs 1) (ag vs 2) (ag vs 3) H1) n [.sl (enL cNd L) tk,.sl (enL cNd L) tk,.i6 (L.length:Int),.i6 (i:Int)] (H++G)=some (.ret (.bool ((List.range L.length).all (GI L))),H):=by
  intro d
  induction d with
  |zero=>intro i G hi aD n hn;obtain⟨n,rfl⟩:∃k,n=k+1:=⟨n-1,by omega⟩;have:(List.range L.length).all (GI L)=true:=(by rw[WO];intro j hj;exact aD j (by have:=Ym.1 hj;omega));rw[Cp,this];generalize Al (λrec1 vs H1=>Uam H rec1 (ag vs 0) (ag vs 1) (ag vs 2) (ag vs 3) H1) n=rec;unfold Uam;have aE:¬(i:Int)<(L.length:Int):=(by omega);simp only[GMw,HPw,Nat.reduceAdd,Nat.reduceLT,aE]
  |succ d ih=>
   intro i G hi aD n hn;obtain⟨n,rfl⟩:∃k,n=k+1:=⟨n-1,by omega⟩;have hlt:i<L.length:=(by omega);have aE:(i:Int)<(L.length:Int):=(by omega);rw[Cp];have cV:GI L i=false->(List.range L.length).all (GI L)=false:=λh=>(by rw[XR];exact⟨i,by simpa using hlt,by simp[h]⟩);have pX:GI L i=true->∀G',Al (λrec1 vs H1=>Uam H rec1 (ag vs 0) (ag vs 1) (ag vs 2) (ag vs 3) H1) n [.sl (enL cNd L) tk,.sl (enL cNd L) tk,.i6 (L.length:Int),.i6 ((i+1:Nat):Int)] (H++G')=some (.ret (.bool ((List.range L.length).all (GI L))),H):=λh G'=>ih (i+1) G' (by omega) (λj hj=>by
    by_cases e:j=i;rw[e];exact h
    ·exact aD j (by omega)) n (by omega)
   generalize Al (λrec1 vs H1=>Uam H rec1 (ag vs 0) (ag vs 1) (ag vs 2) (ag vs 3) H1) n=rec at pX;unfold Uam;have hg:L[i]? = some L[i]:=W4 hlt;simp only[GMw,HPw,Nat.reduceAdd,Nat.reduceLT,Aj,aE,Ay hlt,JH,Cy,Gn,F2,Ge];by_cases h1:L[i].lv<1;have:GI L i=false:=(by simp only[GI,hg];simp;intro;omega);rw[cV this];simp only[h1,GMw,HPw,Nat.reduceAdd,Nat.reduceLT]
   ·by_cases h2:L[i].lv>1329;have:GI L i=false:=(by simp only[GI,hg];simp;intro;omega);rw[cV this];simp only[h1,h2,GMw,HPw,Nat.reduceAdd,Nat.reduceLT,Cy,Gn,F2,Ge]
    ·have hd:GI L i=(List.range 4).all λk=>Dz L i L[i] (L[i].kid k):=(by simp only[GI,hg];rw[zXc (by omega)];rfl);simp only[h1,h2,GMw,HPw,Nat.reduceAdd,Nat.reduceLT,Cy,Gn,F2,Ge];have:=Eh 4 (λk=>Dz L i L[i] (L[i].kid k)) (λk=>[.sl (enL cNd L) tk,.i6 (i:Int),.sl (enL cNd L) tk,.i6 (L.length:Int),.i6 (i:Int),.agg (JJ L[i]),.i6 (k:Int)]) (H++(G++[.c0 (cNd L[i])])) (rec [.sl (enL cNd L) tk,.sl (enL cNd L) tk,.i6 (L.length:Int),.i6 ((i+1:Nat):Int)] (H++(G++[.c0 (cNd L[i])]))) (some (.ret (.bool false),H)) (by decide) (λaA k hk=>?_) (λaA=>?_)
      (G:=λaA vs H1=>Ucy H rec aA (ag vs 0) (ag vs 1) (ag vs 2) (ag vs 3) (ag vs 4) (ag vs 5) (ag vs 6) H1)
     refine this.trans ?_;rw[<-hd];cases hb:GI L i with|true=>simp only[if_true];exact pX hb _|false=>simp only[WB,if_false];rw[cV hb]
     have hk':(k:Int)<4:=(by omega);unfold Ucy;simp only[GMw,HPw,Nat.reduceAdd,Nat.reduceLT,Aj,hk',Vdk _ hk,Vmr hlt (by omega) (by omega) (L[i].kid k) _ hL];cases Dz L i L[i] (L[i].kid k)with|true=>simp only[GMw,HPw,Nat.reduceAdd,Nat.reduceLT,Au (show k<9223372036854775807 by omega),if_true]|false=>simp only[GMw,HPw,Nat.reduceAdd,Nat.reduceLT,WB,if_false]
     unfold Ucy;simp only[GMw,HPw,Nat.reduceAdd,Nat.reduceLT,Aj,show ¬(((4:Nat):Int)<4) from by decide,Au (show i<9223372036854775807 by omega)]
 have:=key L.length 0 [] (by omega) (λj hj=>by omega) AU (by rw[Dj];exact hL);rw[WU]at this;exact this
def Ra (F:List Bool)(x:Nd)(k:Nat):Bool:=!decide (x.kid k=0)&&(decide (x.lv=1)||F.getD (x.kid k).toNat false)
def Vjb (F:List Bool)(x:Nd):Bool:=(List.range 4).any (Ra F x)
theorem VlS {E:List Bool}{x:Nd}(h1:1<=x.lv)(hE:∀k,k<4->1<x.lv->(x.kid k).toNat<E.length):Vjb (E.map (!·)) x = !Md E x:=by
 unfold Vjb Md;have each:∀k,k<4->Ra (E.map (!·)) x k = !(decide (x.kid k=0)||(decide (1<x.lv)&&E.getD (x.kid k).toNat true)):=by intro k hk;unfold Ra;by_cases hl:x.lv=1;have:¬1<x.lv:=(by omega);simp[hl];have cM:1<x.lv:=(by omega);have:=hE k hk cM;simp[hl,cM,W6,W4 this]
 show((Ra _ x 0||(Ra _ x 1||(Ra _ x 2||(Ra _ x 3||false))))) = !(_&&(_&&(_&&(_&&true))));rw[each 0 (by omega),each 1 (by omega),each 2 (by omega),each 3 (by omega)];simp only[Bool.not_and,Xo]
theorem VgY {H:Aa}{pn po q m:Nat}{x:Nd}{F:List Bool}(hn:H[pn]? = some (.c0 (cNd x)))(ho:H[po]? = some (.c0 [.ms q 0 0 m m 1 true]))(hq:H[q]? = some (.c0 (flat cB F)))(hm:F.length=m){k:Nat}(hk:k<4)(h0:0<=x.kid k)(hb:x.lv≠1->x.kid k≠0->(x.kid k).toNat<m):Uc1 (.i6 (x.kid k)) (.ptr pn 0 0) (.ptr po 0 0) H=some (.ret (.bool (Ra F x k)),H):=by
 have l1:=TI hn;have l2:=CD (o:=0) (sz:=1) ho;unfold Uc1 Ra;by_cases hc:x.kid k=0;simp only[hc,GMw,HPw,Nat.reduceAdd,Nat.reduceLT];by_cases hl:x.lv=1;simp only[hc,hl,l1,GMw,HPw,Nat.reduceAdd,Nat.reduceLT];have hlt:=hb hl hc;obtain⟨c,hcc⟩:∃c:Nat,x.kid k=(c:Int):=⟨(x.kid k).toNat,by omega⟩;rw[hcc,zXl]at hlt;have hi:=Db (sz:=1) (id:=q) (g:=0) (off:=0) (n:=m) (cap:=m) (ex:=true) (K:=.i64) hlt;have hld:=ID (f:=cB) (l:=F) (Ax hq) (show c<F.length by omega);simp only[W9,WK]at hi;rw[hcc]at hc⊢;simp only[hc,hl,l1,l2,GMw,HPw,Nat.reduceAdd,Nat.reduceLT,hi,hld,zXl,W6,W4 (show c<F.length by omega),Option.getD_some,zXh]
theorem Vms {H:Aa}{pn po q m:Nat}{x:Nd}{F:List Bool}(hn:H[pn]? = some (.c0 (cNd x)))(ho:H[po]? = some (.c0 [.ms q 0 0 m m 1 true]))(hq:H[q]? = some (.c0 (flat cB F)))(hm:F.length=m)(h0:∀k,k<4->0<=x.kid k)(hb:∀k,k<4->x.lv≠1->x.kid k≠0->(x.kid k).toNat<m):Uc4 (.ms pn 0 1 4 4 1 true) (.fn 238 [.ptr pn 0 0,.ptr po 0 0]) H=some (.ret (.bool (Vjb F x)),H):=by
 unfold Uc4 Uc3;simp only[GMw,Vkd,show((4:Nat):Int)=4 from rfl];have key:=OG (G:=λrec1 vs H1=>Uc2 H rec1 (ag vs 0) (ag vs 1) (ag vs 2) (ag vs 3) H1) 4 (Ra F x) (λk=>[.ms pn 0 1 4 4 1 true,.fn 238 [.ptr pn 0 0,.ptr po 0 0],.i6 4,.i6 (k:Int)]) H (some (.ret (.i6 (-1)),H)) (λk=>some (.ret (.i6 (k:Int)),H)) (by decide) (λrec k hk=>?_) (λrec=>?_);rw[show(((0:Nat):Int))=0 from rfl]at key;rw[key];cases hf:(List.range 4).find? (Ra F x)with|none=>have:Vjb F x=false:=(by unfold Vjb;rw[List.any_eq_false];intro k hk;exact Y9.1 hf k hk);simp only[GMw,this,show decide ((-1:Int)>=0)=false from by decide]|some k=>have:Vjb F x=true:=(by unfold Vjb;rw[List.any_eq_true];exact⟨k,List.mem_of_find?_eq_some hf,List.find?_some hf⟩);simp only[GMw,this,show decide ((k:Int)>=0)=true from by simp]
 ·have hk':(k:Int)<4:=by omega
  have hi:=Db (sz:=1) (id:=pn) (g:=0) (off:=1) (n:=4) (cap:=4) (ex:=true) (K:=.i64) hk;have hld:=VO hn hk;have sI:=VgY hn ho hq hm hk (h0 k hk) (hb k hk);simp only[WK]at hi;unfold Uc2 CL;simp only[GMw,Aj,hk',hi,hld,DV,ent,if_true,List.cons_append,List.nil_append,ap3,sI];cases Ra F x k with|true=>simp only[GMw,if_true]|false=>simp only[GMw,WB,if_false,Au (show k<9223372036854775807 by omega)]
 unfold Uc2;simp only[GMw,Aj,show ¬(((4:Nat):Int)<4) from by decide]
theorem Vai (L:List Nd)(i:Nat)(hi:i<L.length):((A3 (L.take i)).map (!·)++List.replicate (L.length-i) false).set (i+1) (!Md (A3 (L.take i)) L[i])=(A3 (L.take (i+1))).map (!·)++List.replicate (L.length-(i+1)) false:=by
 have hl:((A3 (L.take i)).map (!·)).length=i+1:=by rw[XB,CY,WN];omega
 rw[Xl _ _ (by omega),hl,Xi,Wm L hi,List.map_append,show L.length-i=(L.length-(i+1))+1 by omega,zXm,List.set_cons_zero,WD]
 rfl
theorem Vde (L:List Nd)(tk:Tok)(H:Aa)(hL:L.length<140737488355327)(hl:AF L=true):Ubh (.sl (enL cNd L) tk) H=some (.ret (.sl (enL cB ((A3 L).map (!·))) .no),H):=by
 have dC:=FB (f:=cB) (a:=false) (n:=L.length+1) (bytes:=1) (H:=H) (by omega) (by omega);unfold Ubh;simp only[Aw,GMw,HPw,Nat.reduceAdd,Nat.reduceLT,Au (show L.length<9223372036854775807 by omega),dC];have key:=Bv (G:=λrec1 vs H1=>Uef H rec1 (ag vs 0) (ag vs 1) (ag vs 2) (ag vs 3) H1) (σ:=Nat×Aa) (λs=>s.1<=L.length)
  (λs=>[.ptr (H.length+1) 0 0,.sl (enL cNd L) tk,.i6 (L.length:Int),.i6 (s.1:Int)]) (λs=>H++(.c0 (flat cB ((A3 (L.take s.1)).map (!·)++List.replicate (L.length-s.1) false))::.c0 [.ms H.length 0 0 (L.length+1) (L.length+1) 1 true]::s.2)) (λs=>L.length-s.1)
  (λ_=>some (.ret (.sl (enL cB ((A3 L).map (!·))) .no),H)) (λs rec hs hrec=>?_) (0,[]) (WZ _) (by dsimp only;omega)
 ·rw[List.take_zero]at key;have e:(A3 []).map (!·)++List.replicate (L.length-0) false=List.replicate (L.length+1) false:=by simp[A3,zXm]
  rw[e]at key;exact key
 ·obtain⟨i,G⟩:=s;dsimp only at hs hrec⊢;unfold Uef;by_cases hi:i<L.length
  ·have aE:(i:Int)<(L.length:Int):=(by omega);obtain⟨l1,l2,l3⟩:=AQ hl hi;have hElen:(A3 (L.take i)).length=i+1:=(by rw[CY,WN];omega);have hFlen:((A3 (L.take i)).map (!·)++List.replicate (L.length-i) false).length=L.length+1:=(by rw[WC,XB,hElen,XU];omega);have pK:Vjb ((A3 (L.take i)).map (!·)++List.replicate (L.length-i) false) L[i] = !Md (A3 (L.take i)) L[i]:=by
    rw[<-VlS l1 (λk hk h1=>by
     obtain⟨q1,q2,q3⟩:=l3 k hk;rw[hElen];by_cases h0:0<L[i].kid k;have:=(q3 h1 h0).1;omega
     ·omega)]
    unfold Vjb Ra
    congr 1
    funext k
    by_cases aJ:L[i].lv=1;simp[aJ]
    ·by_cases hk:k<4;obtain⟨q1,q2,q3⟩:=l3 k hk;have:(L[i].kid k).toNat<((A3 (L.take i)).map (!·)).length:=(by rw[XB,hElen];by_cases h0:0<L[i].kid k;have:=(q3 (by omega) h0).1;omega;omega);rw[W6,W8 this,W6]
     ·have e3:L[i].kid k=L[i].kid 3:=by
       match k,hk with
       |0,h=>exact absurd (by decide) h
       |1,h=>exact absurd (by decide) h
       |2,h=>exact absurd (by decide) h
       |n+3,_=>rfl
      obtain⟨q1,q2,q3⟩:=l3 3 (by decide);rw[e3];have:(L[i].kid 3).toNat<((A3 (L.take i)).map (!·)).length:=(by rw[XB,hElen];by_cases h0:0<L[i].kid 3;have:=(q3 (by omega) h0).1;omega;omega);rw[W6,W8 this,W6]
   have yA:=Vai L i hi;generalize hF:(A3 (L.take i)).map (!·)++List.replicate (L.length-i) false=F at *;have any:=Vms (H:=H++(.c0 (flat cB F)::.c0 [.ms H.length 0 0 (L.length+1) (L.length+1) 1 true]::(G++[.c0 (cNd L[i])]))) (pn:=H.length+(G.length+1+1)) (po:=H.length+1) (q:=H.length) (m:=L.length+1) (x:=L[i]) (F:=F) (by simp) (by simp) (by simp) hFlen (λk hk=>(l3 k hk).1) (λk hk h1 h0=>by obtain⟨q1,q2,q3⟩:=l3 k hk;have:=(q3 (by omega) (by omega)).1;omega);have hsl:Kn 4 1 (.ptr (H.length+(G.length+1+1)) 0 1) none none=some (.ms (H.length+(G.length+1+1)) 0 1 4 4 1 true):=(by simp[Kn,B2]);have dO:=Db (sz:=1) (id:=H.length) (g:=0) (off:=0) (n:=L.length+1) (cap:=L.length+1) (ex:=true) (K:=.i64) (i:=i+1) (by omega);simp only[W9,WK]at dO;have hst:∀G' t,Ai 1 (.ptr H.length 0 (i+1)) (.bool t) (H++(.c0 (flat cB F)::G'))=some (H++(.c0 (flat cB (F.set (i+1) t))::G')):=λG' t=>by
    rw[KK,Qm rfl (by rw[show flat cB F=F.map Ab.bool from by
     clear pK yA any hF hFlen
     induction F with
     |nil=>rfl
     |cons c l ih=>rw[DK,ih];rfl];simp;omega)]
    simp only[zXb]
    congr 3
    have e:∀l:List Bool,flat cB l=l.map Ab.bool:=λl=>by
     induction l with
     |nil=>rfl
     |cons c l ih=>rw[DK,ih];rfl
    rw[e,e,List.map_set]
   have next:=hrec (i+1,G++[.c0 (cNd L[i])]) hi (by dsimp only;omega)
   dsimp only at next
   rw[<-yA]at next
   simp only[GMw,HPw,Nat.reduceAdd,Nat.reduceLT,Cy,Gn,F2,Ge,Aj,aE,Ay hi,JH,hsl,any,Au (show i<9223372036854775807 by omega),dO,hst,pK];exact next
  have aE:¬(i:Int)<(L.length:Int):=(by omega);have:i=L.length:=(by omega);subst this;rw[Xu,Xi,List.replicate_zero,WU];have mW:=Vbl (f:=cB) (l:=(A3 L).map (!·)) (H:=H++(.c0 (flat cB ((A3 L).map (!·)))::.c0 [.ms H.length 0 0 (L.length+1) (L.length+1) 1 true]::G)) (id:=H.length) (b:=H.length) (d:=5) (cap:=L.length+1) (ex:=true) (by simp) (W7 _);rw[XB,CY]at mW;simp only[GMw,HPw,Nat.reduceAdd,Nat.reduceLT,Aj,aE,mW]
theorem VlR (L:List Nd){n:Nat}(hn:n<L.length+1):((A3 L).map (!·)).getD n false = !(A3 L).getD n true:=by
 have h:n<(A3 L).length:=by rw[CY];exact hn
 rw[W6,W6,WW,W4 h];rfl
theorem Vgj (L:List Nd){n:Nat}(hn:n<L.length+1)(H:Aa)(K:IntKind):∃e,Av 1 (.sl (enL cB ((A3 L).map (!·))) .no) (.int K (n:Int))=some e/\Ad false 1 e H=some (.bool (!(A3 L).getD n true)):=by
 have h:n<((A3 L).map (!·)).length:=by rw[XB,CY];exact hn
 refine⟨_,Ay h,?_⟩;have e:=VlR L hn;rw[W6,W4 h]at e;simp only[A5,zXh];rw[<-e];rfl
theorem Wv (L:List Nd)(tk:Tok)(n:Nat)(H:Aa)(hL:L.length<140737488355327)(hl:AF L=true)(hn:n<=L.length):Uc5 (.sl (enL cNd L) tk) (.i6 (n:Int)) H=some (.ret (.bool ((A3 L).getD n true)),H):=by obtain⟨e,h1,h2⟩:=Vgj L (n:=n) (by omega) H .i64;unfold Uc5;simp only[GMw,HPw,Nat.reduceAdd,Nat.reduceLT,Vde L tk H hL hl,h1,h2,Bool.not_not]
theorem VdY (L:List Nd)(tk:Tok)(n:Nat)(H:Aa)(hL:L.length<140737488355327)(hl:AF L=true)(hn:n<=L.length):Uc8 (.sl (enL cNd L) tk) (.i6 (n:Int)) H=some (.ret (.bool (DQ L n)),H):=by
 unfold Uc8 DQ;cases n with
 |zero=>simp only[GMw,HPw,Nat.reduceAdd,Nat.reduceLT,show((0:Nat):Int)=0 from rfl,ne_eq,not_true_eq_false]
 |succ n=>
  have hi:n<L.length:=hn;have e0:¬((n+1:Nat):Int)=0:=by omega
  obtain⟨l1,l2,l3⟩:=AQ hl hi;rw[E7 rfl hi];generalize hx:L[n]=x at l1 l2 l3;have hw:IntKind.i64.wrap (((n+1:Nat):Int)-1)=(n:Int):=by rw[Am]<;>omega
  simp only[GMw,HPw,Nat.reduceAdd,Nat.reduceLT,Cy,Gn,F2,Ge,e0,hw,Ay hi,hx,Aq,A5];by_cases h2:x.lv=1;have:¬2<=x.lv:=(by omega);simp only[h2,GMw,HPw,Nat.reduceAdd,Nat.reduceLT,show ¬(2:Int)<=1 from by decide]
  ·have oT:2<=x.lv:=(by omega);simp only[h2,oT,GMw,HPw,Nat.reduceAdd,Nat.reduceLT,Vde L tk H hL hl,hw,Ay hi,hx,Aq,VfP,ne_eq,Yy,not_false_eq_true];have key:=Eh (G:=λrec1 vs H1=>Uc7 H rec1 (ag vs 0) (ag vs 1) (ag vs 2) (ag vs 3) H1) 4 (λk=>decide (x.kid k=0)||(List.range 4).all (P4 L (A3 L) x k))
    (λk=>[.sl (enL cNd L) tk,.sl (enL cB ((A3 L).map (!·))) .no,.agg (JJ x),.i6 (k:Int)]) H (some (.ret (.bool true),H)) (some (.ret (.bool false),H)) (by decide) (λrec k hk=>?_) (λrec=>?_)
   refine key.trans ?_;rw[show hol L (A3 L) x=(List.range 4).all λk=>decide (x.kid k=0)||(List.range 4).all (P4 L (A3 L) x k) from rfl];cases(List.range 4).all λk=>decide (x.kid k=0)||(List.range 4).all (P4 L (A3 L) x k)<;>rfl
   ·have hk':(k:Int)<4:=(by omega);obtain⟨q1,q2,q3⟩:=l3 k hk;have aK:IntKind.i64.wrap ((k:Int)+1)=((k+1:Nat):Int):=Au (by omega);unfold Uc7;simp only[GMw,Aj,hk',Vdk _ hk];by_cases hc:x.kid k=0;simp only[hc,GMw,aK,if_true]
    ·obtain⟨m,hm⟩:∃m:Nat,x.kid k=((m+1:Nat):Int):=⟨(x.kid k-1).toNat,by omega⟩;have h1:1<x.lv:=(by omega);obtain⟨r1,r2⟩:=q3 h1 (by omega);have hml:m<L.length:=(by omega);have hy:=r2 L[m] (by rw[show(x.kid k-1).toNat=m from by omega];exact W4 hml);obtain⟨y1,y2,y3⟩:=AQ hl hml;have hp:P4 L (A3 L) x k=λj=>decide (j=3-k)||(if x.lv=2 then decide (L[m].kid j=0)else (A3 L).getD (L[m].kid j).toNat true):=(by funext j;unfold P4;rw[E7 hm hml]);have dA:IntKind.i64.wrap (((m+1:Nat):Int)-1)=(m:Int):=(by rw[Am]<;>omega);have bU:¬((m+1:Nat):Int)=0:=(by omega);rw[hm];simp only[hp,bU,GMw,dA,Ay hml,Aq,W9,VfP];refine Eh (G:=λaA vs H1=>Uc6 H rec aA (ag vs 0) (ag vs 1) (ag vs 2) (ag vs 3) (ag vs 4) (ag vs 5) (ag vs 6) (ag vs 7) H1) 4 _
      (λj=>[.sl (enL cNd L) tk,.sl (enL cB ((A3 L).map (!·))) .no,.i6 (k:Int),.i6 ((m+1:Nat):Int),.agg (JJ x),.i6 (k:Int),.agg (JJ L[m]),.i6 (j:Int)]) H _ _ (by decide) (λaA j hj=>?_) (λaA=>?_)
     ·have hj':(j:Int)<4:=(by omega);have jJ:IntKind.i64.wrap (3-(k:Int))=3-(k:Int):=Am (by omega) (by omega);have sA:IntKind.i64.wrap ((j:Int)+1)=((j+1:Nat):Int):=Au (by omega);have tP:decide ((j:Int)=3-(k:Int))=decide (j=3-k):=(by rw[WP];simp only[zXe];omega);unfold Uc6;simp only[GMw,Aj,hj',Vdk _ hj,jJ,tP];by_cases jT:j=3-k;simp only[jT,GMw,if_true];simp only[<-jT,sA];by_cases hg:L[m].kid j=0;have:(if x.lv=2 then decide (L[m].kid j=0)else (A3 L).getD (L[m].kid j).toNat true)=true:=(by split;simp[hg];rw[hg];exact Ej L);simp only[jT,this,GMw,if_true];simp only[hg,sA,GMw];by_cases cM:L[m].lv=1;have h22:x.lv=2:=(by omega);simp only[jT,h22,GMw,hg,dA,Ay hml,Aq,A5,W9,Cy,cM,WB,if_true,if_false];have h22:¬x.lv=2:=(by omega);obtain⟨s1,s2,s3⟩:=y3 j hj;have hlt:=(s3 (by omega) (by omega)).1;obtain⟨g,lW⟩:∃g:Nat,L[m].kid j=(g:Int):=⟨(L[m].kid j).toNat,by omega⟩;obtain⟨e,f1,f2⟩:=Vgj L (n:=g) (by omega) H .i64;rw[lW]at hg;simp only[jT,h22,GMw,lW,hg,dA,Ay hml,Aq,A5,W9,Cy,cM,if_false,f1,f2,zXl];cases(A3 L).getD g true with|true=>simp only[GMw,if_true,sA]|false=>simp only[GMw,WB,if_false]
     unfold Uc6;simp only[GMw,Aj,show ¬(((4:Nat):Int)<4) from by decide,aK]
   unfold Uc7;simp only[GMw,Aj,show ¬(((4:Nat):Int)<4) from by decide]
theorem VgW (L:List Nd)(tk:Tok)(n k:Nat)(H:Aa)(hL:L.length<140737488355327)(hl:AF L=true)(hn:n<L.length)(h2:2<=L[n].lv)(hk:k<4):Uc9 (.sl (enL cNd L) tk) (.i6 ((n+1:Nat):Int)) (.i6 (k:Int)) H=some (.ret (.i6 (Jm L L[n] k)),H):=by
 obtain⟨l1,l2,l3⟩:=AQ hl hn;obtain⟨q1,q2,q3⟩:=l3 k hk;have hw:IntKind.i64.wrap (((n+1:Nat):Int)-1)=(n:Int):=by rw[Am]<;>omega
 unfold Uc9 Jm;simp only[GMw,hw,Ay hn,Aq,EZ hk,A5,W9,WK,EG hk];by_cases hc:L[n].kid k=0;simp only[hc,GMw,show ¬((0:Int)>0) from by decide,if_true]
 ·obtain⟨m,hm⟩:∃m:Nat,L[n].kid k=((m+1:Nat):Int):=⟨(L[n].kid k-1).toNat,by omega⟩;obtain⟨r1,r2⟩:=q3 (by omega) (by omega);have hml:m<L.length:=by omega
  have dA:IntKind.i64.wrap (((m+1:Nat):Int)-1)=(m:Int):=by rw[Am]<;>omega
  have jJ:IntKind.i64.wrap (3-(k:Int))=((3-k:Nat):Int):=by rw[Am]<;>omega
  have hgt:((m+1:Nat):Int)>0:=by omega
  have bU:¬((m+1:Nat):Int)=0:=by omega
  simp only[E7 (c:=((m+1:Nat):Int)) rfl hml,hm,hgt,bU,GMw,dA,jJ,Ay hml,Aq,W9,EZ (show 3-k<4 by omega),A5,WK,EG (show 3-k<4 by omega),if_false]
theorem Vmq (L:List Nd)(tk:Tok)(H:Aa)(hL:L.length<3518437208883):Uc0 (.sl (enL cNd L) tk) H=some (if L=[]then (.ret (.sl [] .ti),H)else (.ret (.sl (enL cNd L) (.own H.length)),H++[.tok L.length AP 5])):=by
 have hb:AN 5 []=some (.sl (enL cNd []) .ti):=rfl;unfold Uc0;cases L with
 |nil=>have ha:AW AP 5 40 (.sl (enL cNd []) .ti) (.sl (enL cNd []) tk) H=some (.sl (enL cNd []) .ti,H):=En (by simp[Cu,enL]);have hn:Sa .eql (.sl (enL cNd []) tk)=some .ubool:=rfl;have hu:∀x:Out,Ak .ubool x x=x:=λx=>if_pos rfl;simp only[hn,GMw,hb,ha];exact hu _
 |cons x l=>
  have ha:AW AP 5 40 (.sl (enL cNd []) .ti) (.sl (enL cNd (x::l)) tk) H=some (.sl (enL cNd (x::l)) (.own H.length),H++[.tok (x::l).length AP 5]):=by have:=Dh (f:=cNd) (l:=[]) (m:=x::l) (ty:=AP) (bytes:=40) (tk:=tk) (H:=H) (by simp) (by simp only[zXk];omega) (by simp only[zXk];omega);simpa using this
  have hn:Sa .eql (.sl (enL cNd (x::l)) tk)=some (.bool false):=rfl;simp only[hn,GMw,hb,ha,reduceCtorEq,if_false]
theorem VdW (L:List Nd)(tk:Tok)(n:Nat)(H:Aa)(hL:L.length<3518437200000)(hl:AF L=true)(hn:n<=L.length):Ubi (.sl (enL cNd L) tk) (.i6 (n:Int)) H=some (.ret (.tup [.sl (enL cNd (DW L n).1) .no,.i6 ((DW L n).2:Int)]),H):=by
 unfold Ubi;rw[Vmq L tk H (by omega)];by_cases h0:L=[]
 ·subst h0;have dT:n=0:=by simpa using hn
  subst dT;have he:=Wv [] .ti 0 H (by simp) hl (W7 _);have oK:(A3 ([]:List Nd)).getD 0 true=true:=rfl;have hs:DW [] 0=([],0):=rfl;rw[show Ab.sl (enL cNd []) .ti=Ab.sl [] .ti from rfl,oK]at he;rw[hs];have:=M9 (H0:=H) (v:=.tup [.sl [] .ti,.i6 0]);simp only[GMw,HPw,Nat.reduceAdd,Nat.reduceLT,if_true,he,this]
  rfl
 ·simp only[GMw,h0,if_false,Wv L _ n _ (show L.length<140737488355327 by omega) hl hn];unfold DW;cases eY:(A3 L).getD n true with
  |true=>simp only[GMw,HPw,Nat.reduceAdd,Nat.reduceLT,if_true];rfl
  |false=>
   simp only[GMw,HPw,Nat.reduceAdd,Nat.reduceLT,WB,if_false];have aJ:(A8 L n).lv<=1329:=(by cases n with|zero=>exfalso;rw[Ej]at eY;cases eY|succ m=>rw[Bd hn];exact(AQ hl hn).2.1);have key:=Bv (G:=λrec1 vs H1=>Ueg H rec1 (ag vs 0) (ag vs 1) H1) (σ:=List Nd×Nat×Aa) (λs=>AF s.1=true/\s.2.1<=s.1.length/\s.1.length+(A8 s.1 s.2.1).lv.toNat<3518437208883/\s.1.length+(A8 s.1 s.2.1).lv.toNat<3518437208883)
    (λs=>[.sl (enL cNd s.1) (.own H.length),.i6 (s.2.1:Int)]) (λs=>H++.tok s.1.length AP 5::s.2.2) (λs=>(A8 s.1 s.2.1).lv.toNat)
    (λs=>some (.ret (.tup [.sl (enL cNd (BT (A8 s.1 s.2.1).lv.toNat s.1 s.2.1).1) .no,.i6 ((BT (A8 s.1 s.2.1).lv.toNat s.1 s.2.1).2:Int)]),H)) (λs rec hs hrec=>?_) (L,n,[]) ⟨hl,hn,by dsimp only;omega,by dsimp only;omega⟩ (by dsimp only;omega)
   exact key
   ·obtain⟨M,i,G⟩:=s;obtain⟨hs1,lK,qI,uO⟩:=hs;simp only at hs1 lK qI uO hrec⊢;unfold Ueg;simp only[GMw,Aj,VdY M _ i _ (show M.length<140737488355327 by omega) hs1 lK];cases hh:DQ M i with
    |false=>have:BT (A8 M i).lv.toNat M i=(M,i):=(by cases(A8 M i).lv.toNat with|zero=>rfl|succ f=>simp[BT,hh]);simp only[GMw,HPw,Nat.reduceAdd,Nat.reduceLT,this]
    |true=>
     obtain⟨jH,gJ⟩:=NL hh;obtain⟨m,rfl⟩:∃m,i=m+1:=⟨i-1,by omega⟩;have hm:m<M.length:=lK;obtain⟨l1,l2,l3⟩:=AQ hs1 hm;have hx:A8 M ((m+1:Nat):Int)=M[m]:=Bd hm;rw[hx]at gJ qI hrec⊢;have dA:IntKind.i64.wrap (((m+1:Nat):Int)-1)=(m:Int):=(by rw[Am]<;>omega);have jE:IntKind.i64.wrap (M[m].lv-1)=M[m].lv-1:=Am (by omega) (by omega);have jK:BT M[m].lv.toNat M (m+1)=BT (M[m].lv-1).toNat (M++[Cm M (m+1)]) (M.length+1):=(by rw[show M[m].lv.toNat=(M[m].lv-1).toNat+1 from by omega];simp only[BT,hh,if_true]);generalize hB:H++.tok M.length AP 5::G=B;simp only[GMw,Aq,Ae,A5,W9,Nat.add_zero,WK,Cy,dA,Ay hm,jE,Uw,Qg,Kl (An (B:=B) (cs:=cNd nd0)) rfl,Be];refine Cx (G:=λaA vs H1=>UcA H rec aA (ag vs 0) (ag vs 1) (ag vs 2) (ag vs 3) H1) 4 (λk=>[.sl (enL cNd M) (.own H.length),.i6 ((m+1:Nat):Int),.ptr B.length 0 0,.i6 (k:Int)]) (λk=>B++[.c0 (cNd (Vu (Jm M M[m]) ⟨M[m].lv-1,0,0,0,0⟩ k))]) _ (by decide) (λaA k hk=>?_) (λaA=>?_)
     ·have hk':(k:Int)<4:=(by omega);unfold UcA;have oF:=VgW M (.own H.length) m k (B++[.c0 (cNd (Vu (Jm M M[m]) ⟨M[m].lv-1,0,0,0,0⟩ k))]) (by omega) hs1 hm gJ hk;simp only[GMw,Aj,hk',oF,Ae,W9,Ih hk,Fg (An (B:=B)) hk,Be,Au (show k<9223372036854775807 by omega)]
      rfl
     have hf:¬(((4:Nat):Int)<4):=(by decide);have oJ:(⟨M[m].lv-1,Jm M M[m] 0,Jm M M[m] 1,Jm M M[m] 2,Jm M M[m] 3⟩:Nd)=Cm M (m+1):=(by unfold Cm;rw[hx]);unfold UcA;rw[Vt];simp only[GMw,Aj,hf,Ig (An (B:=B)),KC];rw[<-hB,WD,List.cons_append,Wx (by omega)];simp only[GMw,Aw,WC,zXi,oJ];have eG:(A8 (M++[Cm M (m+1)]) ((M.length+1:Nat):Int)).lv=M[m].lv-1:=(by rw[Bd (by simp),show(M++[Cm M (m+1)])[M.length]'(by simp)=Cm M (m+1) from by simp];show(A8 M ((m+1:Nat):Int)).lv-1=_;rw[hx]);have:=hrec (M++[Cm M (m+1)],M.length+1,G++[.c0 (cNd (Cm M (m+1)))]) ⟨NK hs1 hm gJ,by simp,by dsimp only;rw[eG];simp;omega,by dsimp only;rw[eG];simp;omega⟩ (by dsimp only;rw[eG];omega);simp only[WC,zXi]at this;rw[this,eG,jK]
section
variable {α β:Type}{f:α->List Ab}{g:β->List Ab}{ty ty2:TypeId}{sz sz2:Nat}
structure VpP (v v':Ab)(H H':Aa):Prop where
 len:H.length<=H'.length
 keep:∀i,i<H.length->(∀es,v≠.sl es (.own i))->H'[i]? = H[i]?
 own:∀i es,v'=.sl es (.own i)->H.length<=i\/∃es',v=.sl es' (.own i)
theorem RS.snoc2 [hf:Sz f sz]{bytes b:Nat}{out:List α}{v:Ab}{H:Aa}(h:RS f ty sz b out v H)(hb:b<=H.length)(x:α)(tk:Tok)(hl:(out.length+1)*bytes<=140737488355328)(gK:out.length+1<=140737488355328):∃v' H',AW ty sz bytes v (.sl (enL f [x]) tk) H=some (v',H')/\RS f ty sz b (out++[x]) v' H'/\Kp b H H'/\VpP v v' H H':=by
 rcases h with ⟨rfl,rfl⟩ | ⟨t,h1,rfl,h3⟩;have:=Dh (f:=f) (l:=[]) (m:=[x]) (ty:=ty) (bytes:=bytes) (tk:=tk) (H:=H) (by simp) (by simpa using hl) (by simp);refine⟨_,_,this,.inr ⟨H.length,hb,rfl,by simp⟩,Kp.app hb _,by simp,λi hi _=>W8 hi,λi es e=>?_⟩;injection e with _ e;injection e with e;exact .inl (by omega);have:=F4 (f:=f) (l:=out) (m:=[x]) (ty:=ty) (bytes:=bytes) (tk:=tk) (H:=H) (t:=t) (by simp) h3 (by simpa using hl) (by simpa using gK);have iI:=(W5.1 h3).1;refine⟨_,_,this,.inr ⟨t,h1,rfl,by simp[iI]⟩,⟨by simp,λi cs hc=>?_,λi hi=>?_⟩,by simp,λi hi hne=>?_,λi es e=>?_⟩;have:t≠i:=λe=>(by rw[<-e,h3]at hc;cases hc);rw[WA this];exact hc;rw[WA (by omega)];have:t≠i:=λe=>hne _ (by rw[e]);rw[WA this];injection e with _ e;injection e with e;exact .inr ⟨_,by rw[e]⟩
theorem RS.notok {b i:Nat}{out:List α}{v:Ab}{H:Aa}{B:Blk}(h:RS f ty sz b out v H)(hB:H[i]? = some B)(hn:∀n e s,B≠.tok n e s):∀es,v≠.sl es (.own i):=by intro es e;rcases h with ⟨_,k1⟩ | ⟨t,_,k1,k2⟩;rw[k1]at e;injection e with _ e;cases e;rw[k1]at e;injection e with _ e;injection e with e;rw[e,hB]at k2;injection k2 with k2;exact hn _ _ _ k2
theorem RS.setB {b i:Nat}{out:List α}{v:Ab}{H:Aa}{B B':Blk}(h:RS f ty sz b out v H)(hB:H[i]? = some B)(hn:∀n e s,B≠.tok n e s):RS f ty sz b out v (H.set i B'):=by have hne:=h.notok hB hn;rcases h with h1 | ⟨t,h1,h2,h3⟩;exact .inl h1;refine .inr ⟨t,h1,h2,?_⟩;have:i≠t:=λe=>hne _ (by rw[h2,e]);rw[WA this];exact h3
theorem RS.one {b:Nat}{out:List α}{v:Ab}{H:Aa}(h:RS f ty sz b out v H):v.isScal=true:=by obtain⟨tk,rfl⟩:=h.sl;rfl
theorem RS.len {b:Nat}{out:List α}{v:Ab}{H:Aa}(h:RS f ty sz b out v H):A7 v=some (.i6 (out.length:Int)):=by obtain⟨tk,rfl⟩:=h.sl;exact Aw

end
theorem Vi1:∀(N:Nat)(l:zAb),l.Nodup->(∀x∈l,x<N)->l.length<=N:=by
 intro N
 induction N with
 |zero=>intro l _ h;cases l with|nil=>simp|cons a l=>have:=h a (by simp);omega
 |succ N ih=>intro l hn h;by_cases hN:N∈l;have h1:=List.length_erase_of_mem hN;have h2:=ih (l.erase N) (hn.erase N) (λx hx=>by rw[hn.mem_erase_iff]at hx;have:=h x hx.2;omega);have:=List.length_pos_of_mem hN;omega;have:=ih l hn (λx hx=>by have:=h x hx;have:x≠N:=λe=>hN (e ▸ hx);omega);omega
def knF:Nat->List Nd->List (Ab×Ab)
 |_,[]=>[]
 |s,x::l=>(.agg (cNd x),.i6 ((s+1:Nat):Int))::knF (s+1) l
theorem TW (a:Nd)(l:List Nd)(y:Nd):C4 (a::l) y=if a=y then 1 else if C4 l y=0 then 0 else C4 l y+1:=by
 by_cases h:a=y;rw[if_pos h,EA];exact⟨by simp[h],λj hj=>by omega⟩
 ·rw[if_neg h];cases hf:C4 l y with
  |zero=>rw[if_pos rfl,Jq];rw[Jq]at hf;intro hm;rcases Xs.1 hm with e | e;exact h e.symm;exact hf e
  |succ i=>rw[if_neg (by omega),EA];rw[EA]at hf;refine⟨by simpa using hf.1,λj hj=>?_⟩;cases j with|zero=>simpa using h|succ j=>simpa using hf.2 j (by omega)
theorem Vc0 (y:Nd):Ei true 5 (.agg (cNd y))=some (cNd y):=(rfl)
theorem VM (y:Nd):∀(l:List Nd)(s:Nat),EY true 5 (knF s l) (cNd y)=some (if C4 l y=0 then none else some (.i6 ((s+C4 l y:Nat):Int)))
 |[],s=>by
  have:C4 [] y=0:=by rw[Jq];simp
  simp[knF,EY,this]
 |a::l,s=>by
  have ih:=VM y l (s+1);simp only[knF,EY,Vc0,BA,PU];rw[TW];by_cases h:a=y;subst h;simp
  ·have h':¬y=a:=λe=>h e.symm;rw[zXd h',if_neg h];simp only[WB,if_false,ih];by_cases h0:C4 l y=0;simp[h0]
   ·rw[if_neg h0,if_neg (by rw[if_neg h0];omega),if_neg h0]
    congr 3;omega
theorem Vg (y:Nd):∀(l:List Nd)(s:Nat),C4 l y=0->DM true 5 (knF s l) (.agg (cNd y)) (cNd y) (.i6 ((s+l.length+1:Nat):Int))=some (knF s (l++[y]))
 |[],s,_=>rfl
 |a::l,s,h=>by
  rw[TW]at h;by_cases ha:a=y;rw[if_pos ha]at h;omega
  ·rw[if_neg ha]at h;have h0:C4 l y=0:=(by by_cases h0:C4 l y=0;exact h0;rw[if_neg h0]at h;omega);have h':¬y=a:=λe=>ha e.symm;have ih:=Vg y l (s+1) h0;simp only[knF,DM,Vc0,BA,PU,List.cons_append];rw[zXd h'];simp only[WB,if_false];rw[zXj,show s+(l.length+1)+1=s+1+l.length+1 by omega,ih]
   rfl
def dnM (D:List (Nat×Nat)):List (Ab×Ab):=D.map λp=>(.i6 (p.1:Int),.i6 (p.2:Int))
def lkD (D:List (Nat×Nat))(n:Nat):Option Nat:=match D with
 |[]=>none
 |p::r=>if p.1=n then some p.2 else lkD r n
theorem VfK {n m:Nat}:∀ {D:List (Nat×Nat)},lkD D n=some m->(n,m)∈D
 |[],h=>by cases h
 |p::r,h=>by unfold lkD at h;by_cases hp:p.1=n;rw[if_pos hp]at h;injection h with h;subst hp;subst h;exact Yn;rw[if_neg hp]at h;exact List.mem_cons_of_mem _ (VfK h)
theorem Vcx {n:Nat}:∀ {D:List (Nat×Nat)},lkD D n=none->n ∉ D.map (·.1)
 |[],h=>by simp
 |p::r,h=>by unfold lkD at h;by_cases hp:p.1=n;rw[if_pos hp]at h;cases h;rw[if_neg hp]at h;have:=Vcx h;simp only[Yk,Xs,not_or];exact⟨λe=>hp e.symm,this⟩
theorem Vbb {n:Nat}{p:Nat×Nat}:∀ {D:List (Nat×Nat)},lkD (D++[p]) n=(match lkD D n with | some m=>some m | none=>if p.1=n then some p.2 else none)
 |[]=>by simp[lkD]
 |q::r=>by have ih:=Vbb (n:=n) (p:=p) (D:=r);simp only[List.cons_append,lkD];by_cases hq:q.1=n;simp only[if_pos hq];simp only[if_neg hq,ih]
theorem Vcq (a b:Nat):BU [.i6 (a:Int)] [.i6 (b:Int)]=some (decide (a=b)):=by
 simp only[BU,HQ,if_true,BA]
 congr 1
 rw[WP];simp;omega
theorem S4 (a:Int):Ei false 1 (.i6 a)=some [.i6 a]:=(rfl)
theorem VN (n:Nat):∀D:List (Nat×Nat),EY false 1 (dnM D) [.i6 (n:Int)]=some ((lkD D n).map λm=>Ab.i6 (m:Int))
 |[]=>rfl
 |p::r=>by have ih:=VN n r;simp only[dnM,Yk,EY,S4,BA,Vcq,lkD];by_cases hp:p.1=n;subst hp;simp;have:¬n=p.1:=λe=>hp e.symm;rw[zXd this,if_neg hp];simpa[dnM]using ih
theorem Vh (n m:Nat):∀D:List (Nat×Nat),lkD D n=none->DM false 1 (dnM D) (.i6 (n:Int)) [.i6 (n:Int)] (.i6 (m:Int))=some (dnM (D++[(n,m)]))
 |[],_=>rfl
 |p::r,h=>by
  unfold lkD at h;by_cases hp:p.1=n;rw[if_pos hp]at h;cases h
  ·rw[if_neg hp]at h;have ih:=Vh n m r h;have:¬n=p.1:=λe=>hp e.symm;simp only[dnM,Yk,DM,S4,BA,Vcq,List.cons_append]at ih⊢;rw[zXd this];simp only[WB,if_false,ih]
   rfl
theorem Vcu {H:Aa}{id:Nat}{D:List (Nat×Nat)}(h:H[id]? = some (.map (dnM D)))(n:Nat):FD false 1 (some (.i6 0)) true (.mp id) (.i6 (n:Int)) H=some (match lkD D n with | some m=>.tup [.i6 (m:Int),.bool true] | none=>.tup [.i6 0,.bool false]):=by unfold FD;simp only[BA,S4,h,VN,zXb];cases lkD D n<;>rfl
theorem Vek {H:Aa}{id:Nat}{D:List (Nat×Nat)}(h:H[id]? = some (.map (dnM D))){n:Nat}(m:Nat)(hn:lkD D n=none):Eu false 1 (.mp id) (.i6 (n:Int)) (.i6 (m:Int)) H=some (H.set id (.map (dnM (D++[(n,m)])))):=by unfold Eu;simp only[BA,S4,h,Vh n m D hn,zXb]
theorem ViC {H:Aa}{id:Nat}{out:List Nd}(h:H[id]? = some (.map (knF 0 out)))(y:Nd):FD true 5 (some (.i6 0)) true (.mp id) (.agg (cNd y)) H=some (if C4 out y=0 then .tup [.i6 0,.bool false]else .tup [.i6 (C4 out y:Int),.bool true]):=by unfold FD;simp only[BA,Vc0,h,VM,zXb,W9];by_cases h0:C4 out y=0<;>simp[h0]
theorem Vk5 {H:Aa}{id:Nat}{out:List Nd}(h:H[id]? = some (.map (knF 0 out))){y:Nd}(hn:C4 out y=0):Eu true 5 (.mp id) (.agg (cNd y)) (.i6 ((out.length+1:Nat):Int)) H=some (H.set id (.map (knF 0 (out++[y])))):=by have:=Vg y out 0 hn;rw[W9]at this;unfold Eu;simp only[BA,Vc0,h,this,zXb]
def KT (y:Nd):Bool:=decide (y.k0=0)&&(decide (y.k1=0)&&(decide (y.k2=0)&&decide (y.k3=0)))
theorem Vg0 (y:Nd):Af (.flat 4) .eql (.agg (JJ y)) (.agg [.i6 0,.i6 0,.i6 0,.i6 0])=some (.bool (KT y)):=by
 show(eqA (.flat 4) (.agg (JJ y)) (.agg [.i6 0,.i6 0,.i6 0,.i6 0])).map Ab.bool=_;have h:eqA (.flat 4) (.agg (JJ y)) (.agg [.i6 0,.i6 0,.i6 0,.i6 0])=some (KT y):=by
  unfold eqA;simp only[];rw[if_pos (show(JJ y).length=4 from rfl)];simp only[JJ,BU,HQ,if_true,BA,Bool.and_true,Fa]
  rfl
 rw[h];rfl
def IG (out:List Nd)(y:Nd):List Nd×Nat:=if KT y then (out,0)else BL out y
structure AR (b ar km:Nat)(out:List Nd)(v:Ab)(H:Aa):Prop where
 cell:H[ar]? = some (.c0 [v,.mp km])
 row:RS cNd AP 5 b out v H
 known:H[km]? = some (.map (knF 0 out))
structure AX (b ar km:Nat)(H H':Aa):Prop where
 len:H.length<=H'.length
 cel:∀(i:Nat)(cs:List Ab),i≠ar->H[i]? = some (.c0 cs)->H'[i]? = some (.c0 cs)
 map:∀(i:Nat)(es:List (Ab×Ab)),i≠km->H[i]? = some (.map es)->H'[i]? = some (.map es)
 old:∀i,i<b->H'[i]? = H[i]?
theorem AX.trans {b ar km:Nat}{H H1 H2:Aa}(h:AX b ar km H H1)(k:AX b ar km H1 H2):AX b ar km H H2:=
 ⟨WV h.len k.len,λi cs hi hc=>k.cel i cs hi (h.cel i cs hi hc),λi es hi hc=>k.map i es hi (h.map i es hi hc),λi hi=>(k.old i hi).trans (h.old i hi)⟩
theorem AX.push {b ar km:Nat}{H:Aa}(hb:b<=H.length)(G:Aa):AX b ar km H (H++G):=
 ⟨by simp,λi cs _ h=>A1 h,λi es _ h=>A1 h,λi hi=>W8 (by omega)⟩
theorem AR.push {b ar km:Nat}{out:List Nd}{v:Ab}{H:Aa}(h:AR b ar km out v H)(G:Aa):AR b ar km out v (H++G):=
 ⟨A1 h.cell,h.row.left G,A1 h.known⟩
theorem VdX {b ar km:Nat}{out:List Nd}{v:Ab}{H:Aa}(h:AR b ar km out v H)(hba:b<=ar)(wT:b<=km)(hb:b<=H.length)(y:Nd)(ho:out.length<3000000000000):∃v' H',Ubj (.ptr ar 0 0) (.agg (cNd y)) H=some (.ret (.i6 ((IG out y).2:Int)),H')/\AR b ar km (IG out y).1 v' H'/\AX b ar km H H':=by
 have hB:b<=(H++[Blk.c0 (cNd y)]).length:=by simp;omega
 have h1:=h.push [.c0 (cNd y)];have e1:AX b ar km H (H++[.c0 (cNd y)]):=AX.push hb _;have iP:A6 (some [(.i6 0),(.i6 0),(.i6 0),(.i6 0)]) []=some (.agg [.i6 0,.i6 0,.i6 0,.i6 0]):=rfl;unfold Ubj IG;have l0:=CD (o:=0) (sz:=1) h1.cell;have l1:=CD (o:=1) (sz:=1) h1.cell;cases hz:KT y with
 |true=>simp only[GMw,HPw,Nat.reduceAdd,Nat.reduceLT,Cy,Gn,F2,Ge,iP,Vg0,hz,if_true];exact⟨v,_,rfl,h1,e1⟩
 |false=>simp only[GMw,HPw,Nat.reduceAdd,Nat.reduceLT,Cy,Gn,F2,Ge,iP,Vg0,hz,l1,FG,Kz,ViC h1.known,WB,if_false];unfold BL;by_cases h0:C4 out y=0;obtain⟨v',H2,ha,hr,hk,hg⟩:=RS.snoc2 (bytes:=40) h1.row hB y .ti (by omega) (by omega);have eZ:=hk.cel _ _ h1.cell;have hst:=HD (o:=0) (v:=v') eZ hr.one (by simp);have lR:km≠ar:=λe=>(by have:=h.known;rw[e,h.cell]at this;cases this);have wX:ar<H.length:=(W5.1 h.cell).1;have cZ:km<H.length:=(W5.1 h.known).1;have jS:∀es,v≠.sl es (.own km):=h.row.notok (B:=.map (knF 0 out)) h.known (λ_ _ _ e=>by cases e);have hk2:H2[km]? = some (.map (knF 0 out)):=(by rw[hg.keep km (by simp;omega) jS];exact h1.known);have hH1:H.length≠ar:=(by omega);have hbox:H2[H.length]? = some (.c0 (cNd y)):=hk.cel _ _ An;have gK:ar<H2.length:=(W5.1 eZ).1;have vY:km<H2.length:=(W5.1 hk2).1;obtain⟨H3,hH3⟩:∃H3,H3=H2.set ar (.c0 ([v,.mp km].set 0 v')):=⟨_,rfl⟩;rw[<-hH3]at hst;have mY:H3[ar]? = some (.c0 [v',.mp km]):=(by rw[hH3,WJ gK];rfl);have hk3:H3[km]? = some (.map (knF 0 out)):=(by rw[hH3,WA (Ne.symm lR)];exact hk2);have hb3:H3[H.length]? = some (.c0 (cNd y)):=(by rw[hH3,WA (Ne.symm hH1)];exact hbox);have l30:=CD (o:=0) (sz:=1) mY;have l31:=CD (o:=1) (sz:=1) mY;have aQ:=Vk5 hk3 h0;obtain⟨H4,hH4⟩:∃H4,H4=H3.set km (.map (knF 0 (out++[y]))):=⟨_,rfl⟩;rw[<-hH4]at aQ;have mA:H4[ar]? = some (.c0 [v',.mp km]):=(by rw[hH4,WA lR];exact mY);have l40:=CD (o:=0) (sz:=1) mA;have hlen:=hr.len;rw[WC,zXi]at hlen;refine⟨v',H4,?_,⟨mA,?_,?_⟩,e1.trans ⟨?_,λi cs hi hc=>?_,λi es hi hc=>?_,λi hi=>?_⟩⟩;simp only[h0,if_true,GMw,HPw,Nat.reduceAdd,Nat.reduceLT,l0,FG,Kz,Cy,Gn,F2,Ge,KC,ha,hst,l30,l31,Ig hb3,hlen,aQ,l40];have r3:RS cNd AP 5 b (out++[y]) v' H3:=(by rw[hH3];exact hr.put eZ);rw[hH4,if_pos h0];exact r3.setB hk3 (λ_ _ _ e=>by cases e);rw[hH4,WJ (by rw[hH3,zYa];exact vY)];simp only[h0,if_true];rw[hH4,zYa,hH3,zYa];exact hk.len;have c2:=hk.cel i cs hc;have hik:i≠km:=λe=>(by rw[e,hk2]at c2;cases c2);rw[hH4,WA (Ne.symm hik),hH3,WA (Ne.symm hi)];exact c2;have hia:i≠ar:=λe=>(by rw[e,h1.cell]at hc;cases hc);have hil:i<(H++[Blk.c0 (cNd y)]).length:=(W5.1 hc).1;have cR:∀es',v≠.sl es' (.own i):=h1.row.notok hc (λ_ _ _ e=>by cases e);rw[hH4,WA (Ne.symm hi),hH3,WA (Ne.symm hia),hg.keep i hil cR];exact hc;rw[hH4,WA (by omega),hH3,WA (by omega)];exact hk.old i hi;simp only[h0,if_false,GMw,HPw,Nat.reduceAdd,Nat.reduceLT];exact⟨v,_,rfl,h1,e1⟩
theorem OF (y:Nd):KT y=(List.range 4).all λk=>decide (y.kid k=0):=by
 rw[Is];simp only[KT,Bool.and_assoc]
 rfl
theorem Ku {L:List Nd}{v n:Nat}{out:List Nd}(h:n=0\/(A3 L).getD n true=true):Bp L (A3 L) v n out=(out,0):=by
 have he:(A3 L).getD n true=true:=by rcases h with h | h;rw[h];exact Ej L;exact h
 cases v with|zero=>rfl|succ v=>simp only[Bp,he,if_true]
theorem ViM {L:List Nd}{v n:Nat}{out:List Nd}(h:(A3 L).getD n true=false):0<(Bp L (A3 L) (v+1) n out).2:=by simp only[Bp,h,WB,if_false];split;exact MC _ _;exact MC _ _
theorem QG (rec:Nat->List Nd->List Nd×Nat)(x:Nd)(out:List Nd):∀k,k<=4->∀j,j<k->(Ca rec x k out).2.kid j=((rec (x.kid j).toNat (Ca rec x j out).1).2:Int)
 |0,_,j,h=>by omega
 |k+1,hk,j,h=>by simp only[Ca];by_cases e:j=k;subst e;rw[RA _ _ (by omega)];rw[F9 _ _ (by omega) (by omega) e];exact QG rec x out k (by omega) j (by omega)
theorem VY {L:List Nd}{v:Nat}(x:Nd)(out:List Nd)(h:∀k,k<4->(x.kid k).toNat=0\/(A3 L).getD (x.kid k).toNat true=true):∀k,k<=4->(Ca (Bp L (A3 L) v) x k out).1=out
 |0,_=>rfl
 |k+1,hk=>by simp only[Ca];rw[Ku (h k (by omega))];exact VY x out h k (by omega)
theorem VdJ {L:List Nd}(hl:AF L=true){m v:Nat}(hm:m<L.length)(hv:L[m].lv.toNat=v+1)(out:List Nd):IG (Ca (Bp L (A3 L) v) L[m] (if 1<L[m].lv then 4 else 0) out).1 (Ca (Bp L (A3 L) v) L[m] (if 1<L[m].lv then 4 else 0) out).2=Bp L (A3 L) (v+1) (m+1) out:=by
 obtain⟨l1,l2,l3⟩:=AQ hl hm;have hx:A8 L ((m+1:Nat):Int)=L[m]:=Bd hm;have he:=PL hl (n:=m+1) (by omega) hm;rw[hx]at he;by_cases h1:1<L[m].lv
 ·rw[if_pos h1];cases hE:(A3 L).getD (m+1) true with
  |true=>
   rw[hE]at he;have hk:∀k,k<4->(L[m].kid k).toNat=0\/(A3 L).getD (L[m].kid k).toNat true=true:=λk hk=>by
    have:=WO.1 he.symm k (by simpa using hk);simp only[X0,zXe,WG]at this;rcases this with h | h;left;rw[h];rfl
    exact .inr h.2
   have hn:KT (Ca (Bp L (A3 L) v) L[m] 4 out).2=true:=(by rw[OF,WO];intro k hk';have bX:k<4:=(by simpa using hk');rw[zXe,QG _ _ _ 4 (by omega) k bX,Ku (hk k bX)];rfl);unfold IG;rw[hn,if_pos rfl,VY _ _ hk 4 (by omega)];simp only[Bp,hE,if_true]
  |false=>
   rw[hE]at he;have:¬ ∀k,k<4->(L[m].kid k=0\/(A3 L).getD (L[m].kid k).toNat true=true):=λh=>(by have:((List.range 4).all λk=>decide (L[m].kid k=0)||(decide (1<L[m].lv)&&(A3 L).getD (L[m].kid k).toNat true))=true:=(by rw[WO];intro k hk;have:=h k (by simpa using hk);simp only[X0,zXe,WG];rcases this with q | q;exact .inl q;exact .inr ⟨h1,q⟩);rw[this]at he;cases he);have⟨k,bX,eJ⟩:∃k,k<4/\¬(L[m].kid k=0\/(A3 L).getD (L[m].kid k).toNat true=true):=(by by_cases h:∃k,k<4/\¬(L[m].kid k=0\/(A3 L).getD (L[m].kid k).toNat true=true);exact h;exact absurd (λk hk=>Decidable.byContradiction λhc=>h ⟨k,hk,hc⟩) this);have hn:KT (Ca (Bp L (A3 L) v) L[m] 4 out).2=false:=by
    rw[OF,XR];refine⟨k,by simpa using bX,?_⟩;rw[zXe,QG _ _ _ 4 (by omega) k bX];obtain⟨v',rfl⟩:∃v',v=v'+1:=⟨v-1,by omega⟩;have:=ViM (L:=L) (v:=v') (n:=(L[m].kid k).toNat) (out:=(Ca (Bp L (A3 L) (v'+1)) L[m] k out).1) (by
     cases hq:(A3 L).getD (L[m].kid k).toNat true with
     |false=>rfl
     |true=>exact absurd (.inr hq) eJ)
    omega
   unfold IG;rw[hn];simp only[Bp,hE,WB,if_false,hx,if_pos h1]
 ·rw[if_neg h1];have hn:KT L[m]=(A3 L).getD (m+1) true:=by rw[he,OF,Is,Is];simp[h1]
  unfold IG;simp only[Ca,Bp,hn,hx,if_neg h1]
structure Vo2 where
 b:Nat
 pd:Nat
 pl:Nat
 pv:Nat
 pa:Nat
 ar:Nat
 km:Nat
 dm:Nat
structure VQ (s:Vo2)(L:List Nd)(tk:Tok)(out:List Nd)(D:List (Nat×Nat))(H:Aa):Prop where
 hb:s.b<=s.ar/\s.b<=s.km/\s.b<=s.dm/\s.km≠s.dm
 ne:s.pd≠s.ar/\s.pl≠s.ar/\s.pv≠s.ar/\s.pa≠s.ar
 done:H[s.pd]? = some (.c0 [.mp s.dm])
 list:H[s.pl]? = some (.c0 [.sl (enL cNd L) tk])
 self:H[s.pv]? = some (.c0 [.fn 161 [.ptr s.pd 0 0,.ptr s.pl 0 0,.ptr s.pv 0 0,.ptr s.pa 0 0]])
 arena:H[s.pa]? = some (.c0 [.ptr s.ar 0 0])
 nodes:∃v,AR s.b s.ar s.km out v H
 nums:H[s.dm]? = some (.map (dnM D))
structure VD (L out:List Nd)(D:List (Nat×Nat)):Prop where
 nd:(D.map (·.1)).Nodup
 le:∀p∈D,p.1<=L.length
 val:∀p∈D,Bp L (A3 L) (A8 L (p.1:Int)).lv.toNat p.1 out=(out,p.2)
 cnt:out.length<D.length
 zero:lkD D 0=some 0
theorem VD.short {L out:List Nd}{D:List (Nat×Nat)}(h:VD L out D):out.length<=L.length:=by have:=Vi1 (L.length+1) (D.map (·.1)) h.nd (λx hx=>by obtain⟨p,hp,rfl⟩:=XM.1 hx;have:=h.le p hp;omega);rw[XB]at this;have:=h.cnt;omega
theorem VQ.len {s:Vo2}{L:List Nd}{tk:Tok}{out:List Nd}{D:List (Nat×Nat)}{H:Aa}(h:VQ s L tk out D H):s.b<=H.length:=by obtain⟨v,h1⟩:=h.nodes;have:=(W5.1 h1.cell).1;have:=h.hb.1;omega
theorem VQ.cells {s:Vo2}{L:List Nd}{tk:Tok}{out:List Nd}{D:List (Nat×Nat)}{H H':Aa}(h:VQ s L tk out D H)(hk:∀i,i<H.length->H'[i]? = H[i]?)(hl:H.length<=H'.length):VQ s L tk out D H':=by
 have g:∀ {i:Nat} {x:Blk},H[i]? = some x->H'[i]? = some x:=λhx=>by rw[hk _ (W5.1 hx).1];exact hx
 obtain⟨v,h1⟩:=h.nodes;refine⟨h.hb,h.ne,g h.done,g h.list,g h.self,g h.arena,⟨v,g h1.cell,?_,g h1.known⟩,g h.nums⟩;rcases h1.row with r | ⟨t,r1,r2,r3⟩;exact .inl r;exact .inr ⟨t,r1,r2,g r3⟩
theorem VQ.put {s:Vo2}{L:List Nd}{tk:Tok}{out:List Nd}{D:List (Nat×Nat)}{H:Aa}{q:Nat}{x y:Nd}(h:VQ s L tk out D H)(hq:H[q]? = some (.c0 (cNd x))):VQ s L tk out D (H.set q (.c0 (cNd y))):=by
 obtain⟨v,h1⟩:=h.nodes;have n5:∀ {i:Nat} {c:List Ab},H[i]? = some (.c0 c)->c.length≠5->(H.set q (.c0 (cNd y)))[i]? = some (.c0 c):=λ{i c} hi hc=>by
  have:q≠i:=λe=>by rw[e,hi]at hq;injection hq with hq;injection hq with _ hq;rw[hq]at hc;exact hc rfl
  rw[WA this];exact hi
 have nm:∀ {i:Nat} {es:List (Ab×Ab)},H[i]? = some (.map es)->(H.set q (.c0 (cNd y)))[i]? = some (.map es):=λ{i es} hi=>by
  have:q≠i:=λe=>by rw[e,hi]at hq;cases hq
  rw[WA this];exact hi
 exact⟨h.hb,h.ne,n5 h.done (by simp),n5 h.list (by simp),n5 h.self (by simp),n5 h.arena (by simp),⟨v,n5 h1.cell (by simp),h1.row.put hq,nm h1.known⟩,nm h.nums⟩
theorem VD.grow {L out:List Nd}{D:List (Nat×Nat)}(h:VD L out D)(r:List Nd):∀p∈D,Bp L (A3 L) (A8 L (p.1:Int)).lv.toNat p.1 (out++r)=(out++r,p.2):=by
 intro p hp;have h3:=h.val p hp;have:=Jl (L:=L) (E:=A3 L) (A8 L (p.1:Int)).lv.toNat p.1 out r
 rwa [h3]at this
theorem VgV {s:Vo2}{L:List Nd}{tk:Tok}(hL:L.length<2000000000000)(hl:AF L=true):∀(v n d:Nat)(out:List Nd)(D:List (Nat×Nat)) (H:Aa),n<=L.length->(n=0\/(A8 L (n:Int)).lv.toNat=v)->v<d->VQ s L tk out D H->VD L out D ->
  ∃H' D',UeL d (.i6 (n:Int)) (.ptr s.pd 0 0) (.ptr s.pl 0 0) (.ptr s.pv 0 0) (.ptr s.pa 0 0) H=some (.ret (.i6 ((Bp L (A3 L) v n out).2:Int)),H') /\
   VQ s L tk (Bp L (A3 L) v n out).1 D' H'/\Ext s.b s.ar H H'/\VD L (Bp L (A3 L) v n out).1 D'/\∀j,n<j->lkD D' j=lkD D j:=by
 intro v
 induction v with
 |zero=>
  intro n d out D H hn hv hd hQ hD;obtain⟨d,rfl⟩:∃e,d=e+1:=⟨d-1,by omega⟩;have dT:n=0:=by rcases hv with h | h;exact h;cases n with|zero=>rfl|succ m=>rw[Bd (show m<L.length from hn)]at h;have:=(AQ hl (show m<L.length from hn)).1;omega
  subst dT;refine⟨H,D,?_,hQ,Ext.refl _ _ _,hD,λ_ _=>rfl⟩;show Ubk (UeL d) _ _ _ _ _ _=_;have hlk:=Vcu hQ.nums 0;rw[hD.zero]at hlk;unfold Ubk;simp only[GMw,HPw,Nat.reduceAdd,Nat.reduceLT,CD hQ.done,hlk]
  rfl
 |succ v ih=>
  intro n d out D H hn hv hd hQ hD;obtain⟨d,rfl⟩:∃e,d=e+1:=⟨d-1,by omega⟩;show ∃H' D',Ubk (UeL d) _ _ _ _ _ _=_/\_;have hlk:=Vcu hQ.nums n;unfold Ubk;simp only[GMw,HPw,Nat.reduceAdd,Nat.reduceLT,CD hQ.done,hlk];cases bG:lkD D n with
  |some m=>have bQ:=VfK bG;have bJ:=hD.val _ bQ;dsimp only at bJ;have eK:Bp L (A3 L) (v+1) n out=(out,m):=(by rcases hv with h | h;have:=Ku (L:=L) (v:=(A8 L (n:Int)).lv.toNat) (out:=out) (n:=n) (.inl h);rw[bJ]at this;rw[Ku (.inl h)];exact this.symm;rw[h]at bJ;exact bJ);rw[eK];exact⟨H,D,by simp only[GMw,HPw,Nat.reduceAdd,Nat.reduceLT],hQ,Ext.refl _ _ _,hD,λ_ _=>rfl⟩
  |none=>
   obtain⟨m,rfl⟩:∃m,n=m+1:=⟨n-1,by
    cases n with
    |zero=>rw[hD.zero]at bG;cases bG
    |succ n=>rfl⟩
   have hm:m<L.length:=hn;have aP:(A8 L ((m+1:Nat):Int)).lv.toNat=v+1:=(by rcases hv with h | h;omega;exact h);obtain⟨l1,l2,l3⟩:=AQ hl hm;have hx:A8 L ((m+1:Nat):Int)=L[m]:=Bd hm;rw[hx]at aP;have dA:IntKind.i64.wrap (((m+1:Nat):Int)-1)=(m:Int):=(by rw[Am]<;>omega);have wS:=hQ.len;have hQ1:VQ s L tk out D (H++[.c0 (cNd L[m])]):=hQ.cells (λi hi=>W8 hi) (by simp);have hE1:Ext s.b s.ar H (H++[.c0 (cNd L[m])]):=Ext.snoc wS _;have hHar:H.length≠s.ar:=(by obtain⟨v,h1⟩:=hQ.nodes;have:=(W5.1 h1.cell).1;omega);simp only[GMw,HPw,Nat.reduceAdd,Nat.reduceLT,CD hQ.list,FG,dA,Ay hm,JH,Cy,Gn,F2,Ge];have fin:∀(Hc:Aa)(D1:List (Nat×Nat)),lkD D1 (m+1)=none->VQ s L tk (Ca (Bp L (A3 L) v) L[m] (if 1<L[m].lv then 4 else 0) out).1 D1 Hc->Hc[H.length]? = some (.c0 (cNd (Ca (Bp L (A3 L) v) L[m] (if 1<L[m].lv then 4 else 0) out).2))->Ext s.b s.ar H Hc->VD L (Ca (Bp L (A3 L) v) L[m] (if 1<L[m].lv then 4 else 0) out).1 D1->(∀j,m<j->lkD D1 j=lkD D j) ->
     ∃H' D',UcB H (.i6 ((m+1:Nat):Int)) (.ptr s.pd 0 0) (.ptr s.pa 0 0) (.ptr H.length 0 0) Hc=some (.ret (.i6 ((Bp L (A3 L) (v+1) (m+1) out).2:Int)),H') /\
      VQ s L tk (Bp L (A3 L) (v+1) (m+1) out).1 D' H'/\Ext s.b s.ar H H'/\VD L (Bp L (A3 L) (v+1) (m+1) out).1 D'/\∀j,m+1<j->lkD D' j=lkD D j:=by
    intro Hc D1 cM hQc hbox hEc hDc pI;have oE:=VdJ hl hm aP out;have cG:=Jl (L:=L) (E:=A3 L) (v+1) (m+1) out [];rw[WU]at cG;generalize Ca (Bp L (A3 L) v) L[m] (if 1<L[m].lv then 4 else 0) out=io at *;obtain⟨o,y⟩:=io;dsimp only at *;obtain⟨vv,hA⟩:=hQc.nodes;have lJ:=hDc.short;obtain⟨v',H2,i1,i2,i3⟩:=VdX hA hQc.hb.1 hQc.hb.2.1 hQc.len y (by omega);rw[oE]at i1 i2;have sJ:s.dm≠s.km:=Ne.symm hQc.hb.2.2.2;have jC:=i3.map _ _ sJ hQc.nums;have hpd:=i3.cel _ _ hQc.ne.1 hQc.done;have aQ:=Vek (H:=H2) (n:=m+1) jC (Bp L (A3 L) (v+1) (m+1) out).2 cM;have sF:∃r,(Bp L (A3 L) (v+1) (m+1) out).1=o++r:=(by rw[<-oE];unfold IG BL;split;exact⟨[],by simp⟩;split;exact⟨[y],rfl⟩;exact⟨[],by simp⟩);have yK:(Bp L (A3 L) (v+1) (m+1) out).1.length<=o.length+1:=(by rw[<-oE];unfold IG BL;split;dsimp only;omega;split;simp;dsimp only;omega);refine⟨H2.set s.dm (.map (dnM (D1++[(m+1,(Bp L (A3 L) (v+1) (m+1) out).2)]))),D1++[(m+1,(Bp L (A3 L) (v+1) (m+1) out).2)],?_,?_,hEc.trans ⟨?_,λi cs hi hc=>?_,λi hi=>?_⟩,?_,λj hj=>?_⟩;unfold UcB;simp only[GMw,HPw,Nat.reduceAdd,Nat.reduceLT,CD hQc.arena,FG,Ig hbox,i1,CD hpd,aQ]
    ·have hdl:s.dm<H2.length:=(W5.1 jC).1;have nc:∀ {i:Nat} {c:List Ab},i≠s.ar->Hc[i]? = some (.c0 c)->(H2.set s.dm (.map (dnM (D1++[(m+1,(Bp L (A3 L) (v+1) (m+1) out).2)]))))[i]? = some (.c0 c):=λ{i c} hi hc=>(by have h2:=i3.cel i c hi hc;have:s.dm≠i:=λe=>(by rw[<-e,jC]at h2;cases h2);rw[WA this];exact h2);have pL:s.dm≠s.ar:=λe=>(by have:=i2.cell;rw[<-e,jC]at this;cases this);exact⟨hQc.hb,hQc.ne,nc hQc.ne.1 hQc.done,nc hQc.ne.2.1 hQc.list,nc hQc.ne.2.2.1 hQc.self,nc hQc.ne.2.2.2 hQc.arena,
      ⟨v',by rw[WA pL];exact i2.cell,i2.row.setB jC (λ_ _ _ e=>by cases e),by rw[WA sJ];exact i2.known⟩,by rw[WJ hdl]⟩
    rw[zYa];exact i3.len;have h2:=i3.cel i cs hi hc;have:s.dm≠i:=λe=>(by rw[<-e,jC]at h2;cases h2);rw[WA this];exact h2;have:=hQc.hb.2.2.1;rw[WA (by omega)];exact i3.old i hi;obtain⟨r,hr⟩:=sF;refine⟨?_,λp hp=>?_,λp hp=>?_,?_,?_⟩;rw[List.map_append,Zy];refine⟨hDc.nd,by simp,λa ha b hb=>?_⟩;have hbm:b=m+1:=(by simpa using hb);have:=Vcx cM;exact λe=>this (by rw[<-hbm,<-e];exact ha);rcases WT.1 hp with h | h;exact hDc.le p h;rw[WR.1 h];exact hn;rcases WT.1 hp with h | h;rw[hr];exact hDc.grow r p h;rw[WR.1 h];dsimp only;rw[hx,aP];exact cG;rw[WC,zXi];have:=hDc.cnt;omega;rw[Vbb,hDc.zero];rw[Vbb,pI j (by omega)];cases lkD D j with|some _=>rfl|none=>dsimp only;rw[if_neg (by omega)]
   by_cases aJ:L[m].lv>1
   ·simp only[aJ,GMw];have oU:1<L[m].lv:=aJ;rw[if_pos oU]at fin;have loop:=Fk (G:=λaA vs H1=>UcC H (UeL d) (λvs H=>UcB H (ag vs 0) (ag vs 1) (ag vs 2) (ag vs 3) H) aA (ag vs 0) (ag vs 1) (ag vs 2) (ag vs 3) (ag vs 4) (ag vs 5) (ag vs 6) H1) 4
     (λk vs Hc=>∃D',vs=[.i6 ((m+1:Nat):Int),.ptr s.pd 0 0,.ptr s.pv 0 0,.ptr s.pa 0 0,.ptr H.length 0 0,.agg (JJ L[m]),.i6 (k:Int)]/\VQ s L tk (Ca (Bp L (A3 L) v) L[m] k out).1 D' Hc/\Hc[H.length]? = some (.c0 (cNd (Ca (Bp L (A3 L) v) L[m] k out).2))/\Ext s.b s.ar H Hc/\VD L (Ca (Bp L (A3 L) v) L[m] k out).1 D'/\lkD D' (m+1)=none/\∀j,m<j->lkD D' j=lkD D j)
     (by decide) (λk vs Hc hk hI=>?_) (vs:=[.i6 ((m+1:Nat):Int),.ptr s.pd 0 0,.ptr s.pv 0 0,.ptr s.pa 0 0,.ptr H.length 0 0,.agg (JJ L[m]),.i6 0]) (H:=H++[Blk.c0 (cNd L[m])]) ⟨D,rfl,hQ1,by simp[Ca],hE1,hD,bG,λ_ _=>rfl⟩
    obtain⟨vs',Hc,⟨D',rfl,hQc,hbox,hEc,hDc,oB,lS⟩,rec,aB⟩:=loop;obtain⟨H',D2,f1,f2⟩:=fin Hc D' oB hQc hbox hEc hDc lS;refine⟨H',D2,aB.trans ?_,f2⟩;unfold UcC;simp only[GMw,Aj,show ¬(((4:Nat):Int)<4) from by decide];exact f1;obtain⟨D1,rfl,hQc,hbox,hEc,hDc,oB,lS⟩:=hI;have hk':(k:Int)<4:=(by omega);obtain⟨q1,q2,q3⟩:=l3 k hk;obtain⟨c,hc⟩:∃c:Nat,L[m].kid k=(c:Int):=⟨(L[m].kid k).toNat,by omega⟩;have pP:c<=m:=(by by_cases h0:0<L[m].kid k;have:=(q3 oU h0).1;omega;omega);have hcv:c=0\/(A8 L (c:Int)).lv.toNat=v:=(by by_cases h0:c=0;exact .inl h0;right;obtain⟨g,rfl⟩:∃g,c=g+1:=⟨c-1,by omega⟩;have kX:g<L.length:=(by omega);have:=(q3 oU (by omega)).2 L[g] (by rw[show(L[m].kid k-1).toNat=g by omega];exact W4 kX);rw[Bd kX];omega);obtain⟨H1,D',r1,r2,r3,r4,r5⟩:=ih c d (Ca (Bp L (A3 L) v) L[m] k out).1 D1 Hc (by omega) hcv (by omega) hQc hDc;have kI:=r3.cel _ _ hHar hbox;have hst:=Fg (c:=((Bp L (A3 L) v c (Ca (Bp L (A3 L) v) L[m] k out).1).2:Int)) kI hk;have hstep:Ca (Bp L (A3 L) v) L[m] (k+1) out=((Bp L (A3 L) v c (Ca (Bp L (A3 L) v) L[m] k out).1).1,(Ca (Bp L (A3 L) v) L[m] k out).2.setKid k ((Bp L (A3 L) v c (Ca (Bp L (A3 L) v) L[m] k out).1).2:Int)):=(by simp only[Ca,hc,zXl]);rw[hstep];refine⟨_,H1.set H.length (.c0 (cNd ((Ca (Bp L (A3 L) v) L[m] k out).2.setKid k ((Bp L (A3 L) v c (Ca (Bp L (A3 L) v) L[m] k out).1).2:Int)))),⟨D',rfl,r2.put kI,?_,⟨by have:=hEc.len;have:=r3.len;rw[zYa];omega,λi cs hi hc=>?_,λi hi=>?_⟩,r4,?_,λj hj=>?_⟩,λrec=>?_⟩;rw[WJ (W5.1 kI).1];have:=(W5.1 hc).1;rw[WA (by omega)];exact r3.cel i cs hi (hEc.cel i cs hi hc);rw[WA (by omega),r3.old i hi];exact hEc.old i hi;rw[r5 (m+1) (by omega)];exact oB;rw[r5 j (by omega)];exact lS j hj;have dD:DV (Iu (UeL d)) (.fn 161 [.ptr s.pd 0 0,.ptr s.pl 0 0,.ptr s.pv 0 0,.ptr s.pa 0 0]) [.i6 (c:Int)] Hc=UeL d (.i6 (c:Int)) (.ptr s.pd 0 0) (.ptr s.pl 0 0) (.ptr s.pv 0 0) (.ptr s.pa 0 0) Hc:=rfl;unfold UcC;simp only[GMw,HPw,Nat.reduceAdd,Nat.reduceLT,Aj,hk',Vdk _ hk,hc,CD hQc.self,FG,dD,r1,Ih hk,hst,Au (show k<9223372036854775807 by omega)]
   simp only[aJ,GMw];rw[if_neg aJ]at fin;exact fin _ D bG hQ1 (by simp[Ca]) hE1 hD (λ_ _=>rfl)
theorem Vop (L:List Nd)(tk:Tok)(n:Int)(H:Aa)(hL:L.length<1000000000000):Ubl (.sl (enL cNd L) tk) (.i6 n) H =
  some (.ret (if T9 L n then .tup [Dp (Jv L n.toNat),.i6 0]else .tup [Dp [],.i6 1]),H):=by
 unfold Ubl;have hbx:BC true 1 (.sl (enL cNd L) tk) H=some (.ptr H.length 0 0,H++[.c0 [.sl (enL cNd L) tk]]):=by unfold BC;simp only[Rz,alloc_eq (cs:=[.sl (enL cNd L) tk]) rfl];rfl
 have pB:Ab.agg [.sl [] .no]=Dp []:=rfl;simp only[hbx,GMw,HPw,Nat.reduceAdd,Nat.reduceLT,VgX L tk _ (show L.length<1152921504606846976 by omega)];unfold T9;have sR:A6 (some [(.sl [] .ti)]) []=some (.agg [.sl [] .ti]):=rfl;cases hl:AF L with
 |false=>simp only[GMw,HPw,Nat.reduceAdd,Nat.reduceLT,sR,pB,WB,if_false]
 |true=>
  by_cases dT:n<0;have:¬0<=n:=(by omega);simp only[GMw,HPw,Nat.reduceAdd,Nat.reduceLT,sR,pB,dT,this,WB,if_false]
  ·have dY:0<=n:=(by omega);by_cases cL:n>L.length;have:¬n<=L.length:=(by omega);simp only[GMw,HPw,Nat.reduceAdd,Nat.reduceLT,sR,pB,dT,dY,cL,this,Aw,WB,if_false]
   ·obtain⟨n,rfl⟩:=X3 dY;have hle:n<=L.length:=(by omega);have iV:(n:Int)<=(L.length:Int):=(by omega);have pD:¬(n:Int)>(L.length:Int):=cL;obtain⟨s1,s2,s3⟩:=Qs hl hle;unfold Jv;simp only[GMw,HPw,Nat.reduceAdd,Nat.reduceLT,dT,dY,pD,iV,Aw,VdW L tk n _ (show L.length<3518437200000 by omega) hl hle,if_true,zXl];generalize DW L n=S at s1 s2 s3;obtain⟨M,r⟩:=S;dsimp only at s1 s2 s3⊢;have nY:(A8 M (r:Int)).lv.toNat<AU:=(by rw[Dj];by_cases hr:0<r;have:=Pt s1 hr s2;omega;obtain rfl:r=0:=(by omega);unfold A8;rw[W6];by_cases hM:0<M.length;rw[show(((0:Nat):Int)-1).toNat=0 from rfl,W4 hM];have:=(AQ s1 hM).2.1;simp only[Option.getD_some];omega;rw[show(((0:Nat):Int)-1).toNat=0 from rfl,zYb (by omega)];simp);have dC:∀K:Aa,EP K=some (.mp K.length,K++[.map []]):=λ_=>rfl;have gQ:∀x,A6 (some [.sl [] .ti,.nilmap]) [(1,1,.mp x)]=some (.agg [.sl [] .ti,.mp x]):=λ_=>rfl;have aQ:Eu false 1 (.mp (H.length+5)) (.i6 0) (.i6 0) (H++[.c0 [.sl (enL cNd M) .no],.c0 [.sl [] .ti],.map [],.c0 [.sl [] .ti,.mp (H.length+2)],.c0 [.ptr (H.length+3) 0 0],.map []]) =
      some (H++[.c0 [.sl (enL cNd M) .no],.c0 [.sl [] .ti],.map [],.c0 [.sl [] .ti,.mp (H.length+2)],.c0 [.ptr (H.length+3) 0 0],.map (dnM [(0,0)])]):=by
     have:=Vek (H:=H++[.c0 [.sl (enL cNd M) .no],.c0 [.sl [] .ti],.map [],.c0 [.sl [] .ti,.mp (H.length+2)],.c0 [.ptr (H.length+3) 0 0],.map []]) (id:=H.length+5) (D:=[]) (by simp[dnM]) (n:=0) 0 rfl;rw[show((0:Nat):Int)=0 from rfl]at this;rw[this,Xl _ _ (by omega),show H.length+5-H.length=5 by omega]
     rfl
    have hf:∀l:List Ab,Ai 1 (.ptr 0 0 0) (.fn 161 l) [Blk.c0 [.nilfn]]=some [.c0 [.fn 161 l]]:=λl=>Qm rfl (by simp);obtain⟨F,hF⟩:∃F:Aa,F=H++[.c0 [.sl (enL cNd M) .no],.c0 [.sl [] .ti],.map [],.c0 [.sl [] .ti,.mp (H.length+2)],.c0 [.ptr (H.length+3) 0 0],.map (dnM [(0,0)]),.c0 [.mp (H.length+5)],.c0 [.fn 161 [.ptr (H.length+6) 0 0,.ptr H.length 0 0,.ptr (H.length+7) 0 0,.ptr (H.length+4) 0 0]]]:=⟨_,rfl⟩;have hQ:VQ ⟨H.length,H.length+6,H.length,H.length+7,H.length+4,H.length+3,H.length+2,H.length+5⟩ M .no [] [(0,0)] F:=(by refine⟨⟨by dsimp only;omega,by dsimp only;omega,by dsimp only;omega,by dsimp only;omega⟩,⟨by dsimp only;omega,by dsimp only;omega,by dsimp only;omega,by dsimp only;omega⟩,?_,?_,?_,?_,⟨.sl [] .ti,?_,.inl ⟨rfl,rfl⟩,?_⟩,?_⟩ <;> (rw[hF];simp[knF]));have hD:VD M [] [(0,0)]:=⟨by simp,λp hp=>by rw[WR.1 hp];exact WZ _,λp hp=>by rw[WR.1 hp];exact Ku (.inl rfl),by simp,rfl⟩;obtain⟨H',D',v1,v2,v3,v4,v5⟩:=VgV (s:=⟨H.length,H.length+6,H.length,H.length+7,H.length+4,H.length+3,H.length+2,H.length+5⟩) (L:=M) (tk:=.no) (by omega) s1 (A8 M (r:Int)).lv.toNat r AU [] [(0,0)] F s2 (.inr rfl) nY hQ hD;dsimp only at v1 v3;have dD:DV JZ (.fn 161 [.ptr (H.length+6) 0 0,.ptr H.length 0 0,.ptr (H.length+7) 0 0,.ptr (H.length+4) 0 0]) [.i6 (r:Int)] F=UeL AU (.i6 (r:Int)) (.ptr (H.length+6) 0 0) (.ptr H.length 0 0) (.ptr (H.length+7) 0 0) (.ptr (H.length+4) 0 0) F:=rfl;rw[v1]at dD;rw[hF]at dD;have hres:H'[H.length+1]? = some (.c0 [.sl [] .ti]):=v3.cel _ _ (by omega) (by rw[hF];simp);have hold:∀i,i<H.length->H'[i]? = H[i]? := λi hi=>(by rw[v3.old i hi,hF,W8 hi]);obtain⟨v,hA⟩:=v2.nodes;have tK:=CD (o:=0) (sz:=1) v2.arena;have wX:=CD (o:=0) (sz:=1) hA.cell;dsimp only at tK wX;obtain⟨tk3,rfl⟩:=hA.row.sl;generalize (Bp M (A3 M) (A8 M (r:Int)).lv.toNat r []).1=Q at *;have hb:A6 (some [(.sl [] .ti)]) [(0,1,.sl (enL cNd Q) tk3)]=some (.agg [.sl (enL cNd Q) tk3]):=(by simp[A6,GF,D7]);have hst:=Qp (sz:=1) (ws:=[.sl (enL cNd Q) tk3]) hres rfl rfl rfl;have aG:=(W5.1 hres).1;have hld:=QE (sz:=1) (H:=H'.set (H.length+1) (.c0 [.sl (enL cNd Q) tk3])) (p:=H.length+1) (by rw[WJ aG]) rfl;have aT:(H'.set (H.length+1) (.c0 [.sl (enL cNd Q) tk3])).take H.length=H:=Cv λi hi=>(by rw[WA (by omega)];exact hold i hi);simp only[GMw,HPw,Nat.reduceAdd,Nat.reduceLT,dC,gQ,aQ,hf,dD,tK,wX,FG,hb,hst,hld,Gz aT]
    rfl
end Go.Gm
