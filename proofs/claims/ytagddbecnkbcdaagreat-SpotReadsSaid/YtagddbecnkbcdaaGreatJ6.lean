/- Texts of this proof, joined. -/
import Derived.Test.YtagddbecnkbcdaaGreatJ2
import Derived.Test.YtagddbecnkbcdaaGreatJ3
import Derived.Test.YtagddbecnkbcdaaGreatJ4
import Derived.Test.YtagddbecnkbcdaaGreatJ5
import Derived.OrdersIn
import Derived.TacticsIn
import Derived.RangeFuncCalls
import Derived.Shelf.RegionOpen
import Derived.Laws.ResultCell
import Derived.Test.YtagddbecnkbcdaaGreatProg
import Derived.WalkKit
import Derived.Tactics
import Derived.Tactics2
import Derived.Defers
import Derived.Recover
import Derived.Laws.Pointers
import Derived.Test.YtagddbecnkbcdaaGreatChecked
import Derived.KernelRfl
import Derived.Lib.Bytealg
set_option linter.unusedVariables false
set_option linter.unusedSimpArgs false
namespace Go.Gm
def dgS (x y c:Nat):Nat:=(x+4294967296-y-c)%4294967296
def bwS (x y c:Nat):Nat:=if x<y+c then 1 else 0
theorem dif_ar1 {P W x y c:Nat} (h:x<y+c) (hy:y+c≤x+W):P*(x+W-y-c)+P*y+P*c=P*x+P*W:=by
 rw [←Zz,←Zz,←Zz,show x+W-y-c+y+c=x+W by omega]
theorem dif_ar2 {P x y c:Nat} (h:y+c≤x):P*(x-y-c)+P*y+P*c=P*x:=by
 rw [←Zz,←Zz,show x-y-c+y+c=x by omega]
theorem dif_mod {W x y c:Nat} (hx:x<W) (hy:y<W) (hc:c≤1):(x+W-y-c)%W=if x<y+c then x+W-y-c else x-y-c:=by
 by_cases h:x<y+c
 ·rw [if_pos h,Zq (by omega)]
 ·rw [if_neg h,show x+W-y-c=(x-y-c)+W by omega,Nat.add_mod_right,Zq (by omega)]
theorem dif_fin {v1 v2 u P Q W x y c d r:Nat} (h4:v1+v2=u+P*c) (hQ:Q=P*W) (hr:r=if x<y+c then x+W-y-c else x-y-c) (hd:d=if x<y+c then 1 else 0) (hy:y+c≤x+W):v1+P*r+(v2+P*y)=u+P*x+Q*d:=by
 by_cases h:x<y+c
 ·rw [if_pos h]at hr hd
  have:=dif_ar1 (P:=P) h hy
  rw [hr,hd,hQ,YB];omega
 ·rw [if_neg h]at hr hd
  have:=dif_ar2 (P:=P) (show y+c≤x by omega)
  rw [hr,hd,Nat.mul_zero];omega
theorem dg_eq {x y c:Nat} (hx:x<4294967296) (hy:y<4294967296) (hc:c≤1):dgS x y c=if x<y+c then x+4294967296-y-c else x-y-c:=dif_mod hx hy hc
theorem dg_lt (x y c:Nat):dgS x y c<4294967296:=ZS _ (by decide)
theorem bw_le (x y c:Nat):bwS x y c≤1:=by unfold bwS;split <;> omega
def F4 (a b:List Nat):Nat→List Nat×Nat
 | 0=>([],0)
 | i+1=>((F4 a b i).1++[dgS (a[i]?.getD 0) (b[i]?.getD 0) (F4 a b i).2],bwS (a[i]?.getD 0) (b[i]?.getD 0) (F4 a b i).2)
theorem difS_ok {a b:List Nat} (ha:Lim a) (hb:Lim b):∀i,(F4 a b i).1.length=i∧(F4 a b i).2≤1∧Lim (F4 a b i).1∧val (F4 a b i).1+val (b.take i)=val (a.take i)+4294967296^i*(F4 a b i).2
 | 0=>⟨rfl,YL _,fun x h=>(by cases h),by simp [F4,val]⟩
 | i+1=>by
  obtain ⟨h1,h2,h3,h4⟩:=difS_ok ha hb i
  have g1:=JP ha i
  have g2:=JP hb i
  simp only [F4]
  refine ⟨by simp [h1],bw_le _ _ _,?_,?_⟩
  ·intro x hx
   rcases YN.1 hx with h | h
   ·exact h3 x h
   ·rw [YI.1 h];exact dg_lt _ _ _
  ·rw [OJ,OJ,Ci,h1,I4]
   exact dif_fin h4 (Nat.pow_succ _ _) (dg_eq g1 g2 h2) rfl (YJ (Nat.add_le_add (Nat.le_of_lt_succ g2) h2) (Nat.le_add_left _ _))
theorem fpart_msT {α:Type} {f:α→List Ab} {sz:Nat} [hf:Sz f sz] [hp:Pl f] {H:Aa} {l:List α} {id b d cap k:Nat} {ex:Bool} (hg:A7 H id 0=some (flat f l)) (hi:b≤id) (hk:k≤l.length):Fy H b (d+3) (.ms id 0 0 k cap sz ex)=some (.sl (enL f (l.take k)) .no):=by
 have h1:¬id<b:=by omega
 have h2:k*sz≤l.length*sz:=Za _ hk
 have h3:(l.take k).length=k:=by simp;omega
 have h4:=On (f:=f) (l.take k)
 rw [h3]at h4
 unfold Fy
 simp only [frz,h1,if_false,hg,Option.bind_some,ZJ,Yy,FI,h2,if_true,Pc,Hh (Pd (f:=f) (l.take k)),Rt (f:=f) (l.take k),h4,Option.map_some,Eu,fgt]
theorem Gn {l:List Nat} (h:Lim l):val l<4294967296^l.length:=by
 induction l with
 | nil=>simp [val]
 | cons x l ih=>
  have h1:=h x (by simp)
  have h2:=ih fun y hy=>h y (by simp [hy])
  have e:val (x::l)=x+4294967296*val l:=rfl
  rw [e,List.length_cons,Nat.pow_succ,Z5 _ 4294967296]
  have:4294967296*(val l+1)≤4294967296*4294967296^l.length:=Qa0 _ h2
  rw [Zz]at this
  omega
theorem cut_nil (H:Aa) (tk:Tok):Sh.f0 (.sl [] tk) H=some (.ret (.sl [] .no),H):=by
 have hr:Sh.fd (.sl [] tk) H=some (.ret (.bool true),H):=by unfold Sh.fd;simp [A5]
 unfold Sh.f0
 rw [Dd DU]
 unfold Sh.f1w
 simp only [Al,GMb,GMc,hr,Ek,forget,Eu,fgt]
theorem p_sub {a b:List Nat} {ta tb:Tok} (H:Aa) (ha:Lim a) (hb:Lim b) (hl:a.length≤1099511627776) (hle:b.length≤a.length) (hv:val b≤val a) :
  Sh.f3c (.sl (enL cU a) ta) (.sl (enL cU b) tb) H=some (.ret (.tup [.sl (enL cU (A4 (val a-val b))) .no,.bool true]),H):=by
 have hcmp:=fun K=>R7 (t:=ta) (t':=tb) K ha hb hl (by omega)
 have hneg:decide (EZ (val a:Int) (val b:Int)<0)=false:=by
  rw [GG];exact decide_eq_false (by omega)
 have hcl:=clone_u a ta H hl
 unfold Sh.f3c
 by_cases h0:a=[]
 ·subst h0
  rw [if_pos rfl]at hcl
  have hb0:b=[]:=YE (by simpa using hle)
  subst hb0
  have hlen:A5 (.sl [] .tight)=some (.int .i64 0):=rfl
  have d0:decide ((0:Int)<0)=false:=rfl
  have e0:A4 (val []-val [])=[]:=Du
  simp only [GMb,GMc,hcmp,hneg,hcl,hlen]
  rw [Dd DU]
  unfold Sh.f4w
  simp only [Al,Ai,Bb,Bf,B2,BK,GMb,GMc,d0,cut_nil,N5,Dz,Cp,C9,ID,Hj,Option.map_some,e0]
  rfl
 ·rw [if_neg h0]at hcl
  have hlen:A5 (.ms H.length 0 0 a.length a.length 1 false)=some (.int .i64 (a.length:Int)):=rfl
  simp only [GMb,GMc,hcmp,hneg,hcl,hlen]
  refine Ca (G:=fun rec1 vs H1=>Sh.f4w H rec1 (ag vs 0) (ag vs 1) (ag vs 2) (ag vs 3) (ag vs 4) H1) a.length
   (fun i=>[.sl (enL cU b) tb,.ms H.length 0 0 a.length a.length 1 false,.int .u32 ((F4 a b i).2:Int),.int .i64 (a.length:Int),.int .i64 (i:Int)])
   (fun i=>H++[.buf 0 (flat cU ((F4 a b i).1++a.drop i)) B4 1]) _ (by omega) (fun rec i hi=>?_) (fun rec=>?_)
  ·obtain ⟨h1,h2,h3,h4⟩:=difS_ok ha hb i
   have d1:decide ((i:Int)<(a.length:Int))=true:=decide_eq_true (by omega)
   have hxi:=ha _ (Y8 hi)
   have hg:a[i]?.getD 0=a[i]:=by rw [Yu hi];rfl
   have hidx:=CJ (sz:=1) (id:=H.length) (n:=a.length) (K:=.i64) (g:=0) (off:=0) (cap:=a.length) (ex:=false) (i:=i) hi
   simp only [Yy,YB]at hidx
   have hgc:A7 (H++[Blk.buf 0 (flat cU ((F4 a b i).1++a.drop i)) B4 1]) H.length 0=some (flat cU ((F4 a b i).1++a.drop i)):=by simp [A7]
   have hil:i<((F4 a b i).1++a.drop i).length:=by rw [Y2,h1,YG];omega
   have hel:((F4 a b i).1++a.drop i)[i]=a[i]:=by
    rw [Zw (by omega)]
    simp only [h1,YV]
    rw [Qac];rfl
   have hld:=Ih (f:=cU) hgc hil
   rw [hel]at hld
   have w6:IntKind.i64.wrap ((i:Int)+1)=((i+1:Nat):Int):=by rw [Am] <;> omega
   have hst:=DP (f:=cU) (sz:=1) (a:=dgS (a[i]?.getD 0) (b[i]?.getD 0) (F4 a b i).2) (v:=.int .u32 (dgS (a[i]?.getD 0) (b[i]?.getD 0) (F4 a b i).2:Int)) hgc hil rfl
   have hset:((F4 a b i).1++a.drop i).set i (dgS (a[i]?.getD 0) (b[i]?.getD 0) (F4 a b i).2)=(F4 a b (i+1)).1++a.drop (i+1):=by
    rw [YR _ _ (by omega),h1,YV,YS hi,List.set_cons_zero]
    simp only [F4,Y1,List.cons_append,List.nil_append]
   have hsc:∀cs,Gy (H++[Blk.buf 0 (flat cU ((F4 a b i).1++a.drop i)) B4 1]) H.length 0 cs=H++[Blk.buf 0 cs B4 1]:=fun cs=>by simp [Gy]
   rw [YB,hsc,hset]at hst
   rw [hg]at hst
   have hb32:=JP hb i
   have h32:∀K,Sh.f25 (.int .u32 (a[i]:Int)) (.int .u32 ((b[i]?.getD 0:Nat):Int)) (.int .u32 ((F4 a b i).2:Int)) K=some (.ret (.tup [.int .u32 (dgS a[i] (b[i]?.getD 0) (F4 a b i).2:Int),.int .u32 (bwS a[i] (b[i]?.getD 0) (F4 a b i).2:Int)]),K):=fun K=>p_sub32 hxi hb32 h2 K
   have hnext:(F4 a b (i+1)).2=bwS a[i] (b[i]?.getD 0) (F4 a b i).2:=by simp only [F4,hg]
   unfold Sh.f4w Sh.f80
   by_cases hib:i<b.length
   ·have d2:decide ((i:Int)<(b.length:Int))=true:=decide_eq_true (by omega)
    have hgb:b[i]?.getD 0=b[i]:=by rw [Yu hib];rfl
    rw [hgb]at h32 hst hnext
    simp only [Al,Ai,Bb,Bf,B2,BK,D8,GMb,GMc,d1,d2,Aw,Ay hib,A9,List.getElem?_cons_zero,hidx,hld,h32,B1,B8,hst,AL,w6,hnext]
   ·have d2:decide ((i:Int)<(b.length:Int))=false:=decide_eq_false (by omega)
    have hgb:b[i]?.getD 0=0:=by rw [YA (by omega)];rfl
    rw [hgb]at h32 hst hnext
    simp only [Int.natCast_zero]at h32
    simp only [Al,Ai,Bb,Bf,B2,BK,D8,GMb,GMc,d1,d2,Aw,List.getElem?_cons_zero,hidx,hld,h32,B1,B8,hst,AL,w6,hnext]
  ·obtain ⟨h1,h2,h3,h4⟩:=difS_ok ha hb a.length
   have d1:decide ((a.length:Int)<(a.length:Int))=false:=decide_eq_false (by omega)
   rw [YY,Y6 hle]at h4
   have hlt:=Gn h3
   rw [h1]at hlt
   have hbor:(F4 a b a.length).2=0:=by
    rcases ZI (F4 a b a.length).2 with q | q
    ·exact q
    ·have:(F4 a b a.length).2=1:=by omega
     rw [this,YB]at h4
     omega
   rw [hbor,Nat.mul_zero]at h4
   rw [List.drop_length,YP]
   obtain ⟨o,ho⟩:∃o,o=(F4 a b a.length).1:=⟨_,rfl⟩
   rw [←ho]at h1 h3 h4 ⊢
   have hgc:A7 (H++[Blk.buf 0 (flat cU o) B4 1]) H.length 0=some (flat cU o):=by simp [A7]
   have hct:=q_cutG (ex:=false) hgc (by omega)
   have htk:=J3 h3 o.length (Yz _)
   rw [YY,show val o=val a-val b by omega]at htk
   have hfa:=fpart_msT (f:=cU) (sz:=1) (d:=3) (cap:=o.length) (ex:=false) hgc (Yz H.length) (QM o o.length)
   rw [htk]at hfa
   rw [h1]at hct hfa
   unfold Sh.f4w
   simp only [Al,Ai,Bb,Bf,B2,BK,GMb,GMc,d1,hct,Co,Dz,Cp,C9,Hj,hfa,Option.map_some,BD]
theorem QY (neg:Bool) (n:Nat) (tk:Tok) (H:Aa):Sh.fa (.bool neg) (.sl (enL cU (A4 n)) tk) H=some (.ret (big (if neg then -(n:Int)else n)),H):=by
 unfold Sh.fa big
 rw [←big_sgn]
 have hp:=Tn n
 cases neg with
 | false=>simp [A2,Gu,DF,sgn,CF]
 | true=>
  simp only [Jl,CB,Option.bind_some,Aw,D7,hp,sgn,Zu,alloc_eq (cs:=[.bool false,.sl [] .tight]) rfl,Bo]
  simp [A2,Gu,DF,CF]
theorem p_minus (z:Int) (H:Aa):Sh.f1m (big z) H=some (.ret (big (-z)),H):=by
 have e:(if (!decide (z<0))=true then -(z.natAbs:Int)else (z.natAbs:Int)) = -z:=by
  by_cases h:z<0
  ·rw [decide_eq_true h,Zi,if_neg (by decide)];omega
  ·rw [decide_eq_false h,Zt,if_pos rfl];omega
 have ez:∀K,Sh.fa (.bool (!decide (z<0))) (.sl (enL cU (A4 z.natAbs)) .no) K=some (.ret (big (-z)),K):=fun K=>by
  rw [QY,e]
 unfold Sh.f1m
 simp [DC,ez]
theorem u64_neg {n:Int} (h0:-9223372036854775808≤n) (h:n<0):unA .neg (.int .u64 (IntKind.u64.wrap n))=some (.int .u64 (n.natAbs:Int)):=by
 have w:IntKind.u64.wrap (0-IntKind.u64.wrap n)=(n.natAbs:Int):=by
  rw [OI (n:=n) (by omega) h,OI (by omega) (by omega)];omega
 rw [show unA .neg (.int .u64 (IntKind.u64.wrap n))=some (.int .u64 (IntKind.u64.wrap (0-IntKind.u64.wrap n))) from rfl,w]
theorem p_norm {l:List Nat} {tk:Tok} (H:Aa) (hx:Lim l) (hl:l.length≤1099511627776):Sh.f39 (.sl (enL cU l) tk) H=some (.ret (.sl (enL cU (A4 (val l))) .no),H):=by
 have hcl:=clone_u l tk H hl
 unfold Sh.f39
 by_cases h0:l=[]
 ·subst h0
  rw [if_pos rfl,FS]at hcl
  rw [FS]
  simp only [GMb,GMc,hcl,cut_nil,N5,show val []=0 from rfl,Du,Ft,Option.map_some,FS]
 ·rw [if_neg h0]at hcl
  have hgc:A7 (H++[Blk.buf 0 (flat cU l) B4 1]) H.length 0=some (flat cU l):=by simp [A7]
  have hct:=q_cutG (ex:=false) hgc (by omega)
  have htk:=J3 hx l.length (Yz _)
  rw [YY]at htk
  have hfa:=Wa (f:=cU) (sz:=1) (d:=5) (cap:=l.length) (ex:=false) hgc (Yz H.length) (QM l l.length)
  rw [htk]at hfa
  simp only [GMb,GMc,hcl,hct,Co,hfa]
  rfl
theorem p_of (n:Int) (H:Aa) (h0:-9223372036854775808≤n) (h1:n≤9223372036854775807):Sh.f24 (.int .i64 n) H=some (.ret (big n),H):=by
 obtain ⟨u,hu⟩:∃u:Nat,u=n.natAbs:=⟨_,rfl⟩
 have hlim:Lim [u%4294967296,u / 4294967296]:=fun x hx=>by
  simp at hx
  rcases hx with rfl | rfl <;> omega
 have hval:val [u%4294967296,u / 4294967296]=u:=by simp [val];omega
 have ez:(if decide (n<0)=true then -(u:Int)else (u:Int))=n:=by
  by_cases h:n<0 <;> simp [h] <;> omega
 have hnm:=fun H=>p_norm (l:=[u%4294967296,u / 4294967296]) (tk:=.tight) H hlim (by simp)
 rw [hval]at hnm
 have a1:=fun H=>QY (decide (n<0)) u .no H
 rw [ez]at a1
 have e3:AD .u32 (.int .u64 (u:Int))=some (.int .u32 ((u%4294967296:Nat):Int)):=by rw [Bq,RM]
 have e2:=Pi u
 have e4:AD .u32 (.int .u64 ((u / 4294967296:Nat):Int))=some (.int .u32 ((u / 4294967296:Nat):Int)):=by rw [Bq,CL (by omega) (by omega)]
 have j1:Sh.f7a H (.int .i64 n) (.ptr H.length 0 0) (.int .u64 (u:Int)) (H++[.cel 0 [.bool false,.sl [] .tight]])=some (.ret (big n),H):=by
  unfold Sh.f7a
  simp only [Bj,Option.bind_some,e3,e2,e4,build_2U,hnm,a1,CK]
  simp
 unfold Sh.f24
 simp only [alloc_eq (cs:=[.bool false,.sl [] .tight]) rfl,Bo,Bq,Option.bind_some,AH,Bj,Al,Bb,Bf]
 by_cases h:n<0
 ·have un:=u64_neg h0 h
  rw [←hu]at un
  rw [decide_eq_true h]
  simp only [AV,un,Option.bind_some,Al,Bb,Bf]
  exact j1
 ·have w:IntKind.u64.wrap n=(u:Int):=by rw [BR (by omega) (by omega)];omega
  rw [decide_eq_false h]
  simp only [AM,w,Al,Bb,Bf]
  exact j1
theorem OY {m n:Nat} (h:m≤n):(A4 m).length≤(A4 n).length:=by
 refine ES ?_
 have:=Gn (Bp n)
 rw [Bx]at this
 omega
theorem p_addB {a b:Int} (H:Aa) (ha:LB a) (hb:LB b):Sh.f11 (big a) (big b) H=some (.ret (big (a+b)),H):=by
 have sg:∀(neg:Bool) (m:Nat) (z:Int) (tk:Tok) (K:Aa),(if neg then -(m:Int)else (m:Int))=z→Sh.fa (.bool neg) (.sl (enL cU (A4 m)) tk) K=some (.ret (big z),K):=fun neg m z tk K h=>by rw [QY,h]
 unfold LB at ha hb
 have hadd:=fun K=>p_add (ta:=.no) (tb:=.no) K (Bp a.natAbs) (Bp b.natAbs) (by omega) (by omega)
 have hcmp:=fun K=>R7 (t:=.no) (t':=.no) K (Bp a.natAbs) (Bp b.natAbs) (by omega) (by omega)
 simp only [Bx]at hadd hcmp
 unfold Sh.f11
 by_cases hn:decide (a<0)=decide (b<0)
 ·have ez:(if decide (a<0)=true then -((a.natAbs+b.natAbs:Nat):Int)else ((a.natAbs+b.natAbs:Nat):Int))=a+b:=by
   by_cases h1:a<0
   ·have h2:b<0:=by rw [decide_eq_true h1]at hn;exact of_decide_eq_true hn.symm
    rw [decide_eq_true h1,if_pos rfl];omega
   ·have h2:¬b<0:=by rw [decide_eq_false h1]at hn;exact of_decide_eq_false hn.symm
    rw [decide_eq_false h1,if_neg (by decide)];omega
  have hbb:(decide (a<0) == decide (b<0))=true:=by rw [hn];exact beq_self_eq_true _
  simp only [DC,Bo,Y1,List.singleton_append]
  simp [Zn,DC,Kn,hbb,BN,hadd,sg _ _ _ _ _ ez]
 ·have hbb:(decide (a<0) == decide (b<0))=false:=by
   rw [beq_eq_false_iff_ne];exact hn
  by_cases hv:a.natAbs<b.natAbs
  ·have hsub:=fun K=>p_sub (ta:=.no) (tb:=.no) K (Bp b.natAbs) (Bp a.natAbs) (by omega) (OY (by omega)) (by rw [Bx,Bx];omega)
   simp only [Bx]at hsub
   have hlt:decide (EZ (a.natAbs:Int) (b.natAbs:Int)<0)=true:=by rw [GG];exact decide_eq_true (by omega)
   have ez:(if decide (b<0)=true then -((b.natAbs-a.natAbs:Nat):Int)else ((b.natAbs-a.natAbs:Nat):Int))=a+b:=by
    by_cases h1:b<0
    ·have h2:¬a<0:=fun h=>hn (by rw [decide_eq_true h1,decide_eq_true h])
     rw [decide_eq_true h1,if_pos rfl];omega
    ·have h2:a<0:=by
      rcases Int.lt_or_le a 0 with h | h
      ·exact h
      ·exact (hn (by rw [decide_eq_false h1,decide_eq_false (by omega)])).elim
     rw [decide_eq_false h1,if_neg (by decide)];omega
   have c0:=AV
   simp only [DC,Bo,Y1,List.singleton_append]
   unfold Sh.f7c
   simp [Zn,DC,Kn,hbb,BN,hcmp,hlt,hsub,sg _ _ _ _ _ ez,AH,B1,B8]
  ·have hsub:=fun K=>p_sub (ta:=.no) (tb:=.no) K (Bp a.natAbs) (Bp b.natAbs) (by omega) (OY (by omega)) (by rw [Bx,Bx];omega)
   simp only [Bx]at hsub
   have hlt:decide (EZ (a.natAbs:Int) (b.natAbs:Int)<0)=false:=by rw [GG];exact decide_eq_false (by omega)
   have ez:(if decide (a<0)=true then -((a.natAbs-b.natAbs:Nat):Int)else ((a.natAbs-b.natAbs:Nat):Int))=a+b:=by
    by_cases h1:a<0
    ·have h2:¬b<0:=fun h=>hn (by rw [decide_eq_true h1,decide_eq_true h])
     rw [decide_eq_true h1,if_pos rfl];omega
    ·have h2:b<0:=by
      rcases Int.lt_or_le b 0 with h | h
      ·exact h
      ·exact (hn (by rw [decide_eq_false h1,decide_eq_false (by omega)])).elim
     rw [decide_eq_false h1,if_neg (by decide)];omega
   simp only [DC,Bo,Y1,List.singleton_append]
   unfold Sh.f7c
   simp [Zn,DC,Kn,hbb,BN,hcmp,hlt,hsub,sg _ _ _ _ _ ez,AH,B1,B8]
theorem p_subB {a b:Int} (H:Aa) (ha:LB a) (hb:LB b):Sh.f3d (big a) (big b) H=some (.ret (big (a-b)),H):=by
 unfold Sh.f3d
 simp only [DC,Bo,Y1,List.singleton_append]
 simp [Zn,DC,BN,p_minus,p_addB _ ha hb.neg,Int.sub_eq_add_neg]
theorem or_u32 {x y:Nat} (hx:x<4294967296) (hy:y<4294967296):Ae .none .or (.int .u32 (x:Int)) (.int .u32 (y:Int))=some (.int .u32 ((x ||| y:Nat):Int)):=by
 have h:=(Km (BitVec.ofNat 32 x) (BitVec.ofNat 32 y)).2.1
 rw [BitVec.toNat_or,ZK,ZK,Zq hx,Zq hy]at h
 rw [OB .or rfl _ _ (fun _ _ _=>rfl)]
 exact h
theorem shl_one {K:IntKind} {r:Nat} (h:r<32) (hw:K.wrap ((2^r:Nat):Int)=((2^r:Nat):Int)) (hb:32≤K.bits):Ae .none .shl (.int K 1) (.int .i64 (r:Int))=some (.int K ((2^r:Nat):Int)):=by
 show HG .shl K 1 (r:Int)=_
 unfold HG
 rw [if_neg (by omega)]
 have e:(2:Int)^r=((2^r:Nat):Int):=by simp
 simp only [Int.toNat_natCast,Zr (show r≤K.bits by omega),Int.one_mul,e,hw]
theorem QX {r:Nat} (h:r<32):2^r<4294967296:=by
 have:(2:Nat)^r<2^32:=QaX (by decide) h
 simpa using this
theorem val_repl0 (k:Nat) (l:List Nat):val (List.replicate k 0++l)=4294967296^k*val l:=by
 rw [Ci,Qar]
 have:val (List.replicate k 0)=0:=by
  induction k with
  | zero=>rfl
  | succ k ih=>rw [List.replicate_succ];show 0+4294967296*val (List.replicate k 0)=0;rw [ih]
 rw [this,Yy]
theorem wrapN {n:Nat} (h:n<4294967296):IntKind.u32.wrap (n:Int)=(n:Int)∧IntKind.u64.wrap (n:Int)=(n:Int):=
 ⟨CL (by omega) (by omega),BR (by omega) (by omega)⟩
def KE (m:Nat):List Nat:=List.replicate (m / 32) 0++[2^(m%32),0]
theorem N7 (m:Nat):(KE m).length=m / 32+2:=by simp [KE]
theorem powL_lim (m:Nat):Lim (KE m):=by
 intro x hx
 rcases YN.1 hx with h | h
 ·rw [(QaB.1 h).2];decide
 ·rcases Zc.1 h with rfl | h
  ·exact QX (ZS _ (by decide))
  ·rw [YI.1 h];decide
theorem powL_val (m:Nat):val (KE m)=2^m:=by
 unfold KE
 rw [val_repl0]
 have:val [2^(m%32),0]=2^(m%32):=by simp [val]
 rw [this,show (4294967296:Nat)=2^32 from by decide,←Qam,←Nat.pow_add,Qab]
theorem Xt (v:Nat):∀k,(List.replicate (k+2) 0).set k v=List.replicate k 0++[v,0]
 | 0=>rfl
 | k+1=>by
  rw [List.replicate_succ,List.set_cons_succ,Xt v k,List.replicate_succ,List.cons_append]
theorem powL_set1 (m:Nat):(List.replicate (m / 32+2) 0).set (m / 32) (2^(m%32))=KE m:=by
 exact Xt _ _
theorem powL_set2 (m:Nat):(KE m).set (m / 32+1) 0=KE m:=by
 unfold KE
 rw [YR _ _ (by simp)]
 simp
theorem p_shl1 {m:Nat} (hm:m≤10000) (H:Aa):Sh.f3h (.sl (enL cU [1]) .tight) (.int .i64 (m:Int)) H=some (.ret (.sl (enL cU (A4 (2^m))) .no),H):=by
 have f1:decide ((m:Int)≥0)=true:=decide_eq_true (by omega)
 have f2:decide ((m:Int)≤10000)=true:=decide_eq_true (by omega)
 have hr:m%32<32:=ZS _ (by decide)
 have hq:Ae .none .quo (.int .i64 (m:Int)) (.int .i64 32)=some (.int .i64 ((m / 32:Nat):Int)):=by
  show some (Ab.int .i64 (IntKind.i64.wrap (((m / 32:Nat):Int))))=_
  rw [Am (by omega) (by omega)]
 have hrm:Ae .none .rem (.int .i64 (m:Int)) (.int .i64 32)=some (.int .i64 ((m%32:Nat):Int)):=rfl
 have w1:IntKind.i64.wrap (((1:Nat):Int)+((m / 32:Nat):Int))=((m / 32+1:Nat):Int):=by rw [Am] <;> omega
 have w2:IntKind.i64.wrap (((m / 32+1:Nat):Int)+1)=((m / 32+2:Nat):Int):=by rw [Am] <;> omega
 have w3:IntKind.i64.wrap (((0:Nat):Int)+((m / 32:Nat):Int))=((m / 32:Nat):Int):=by rw [Am] <;> omega
 have w4:IntKind.i64.wrap (((m / 32:Nat):Int)+1)=((m / 32+1:Nat):Int):=by rw [Am] <;> omega
 have w5:IntKind.i64.wrap (((0:Nat):Int)+1)=((1:Nat):Int):=rfl
 have hmk:=Fo (f:=cU) (a:=0) (n:=m / 32+2) (bytes:=4) (H:=H) (by omega) (by omega)
 simp only [show cU 0=[Ab.int .u32 0] from rfl]at hmk
 have hlen1:(enL cU [1]).length=1:=rfl
 have hfit:∀K,Sh.f3g (.int .i64 (m:Int)) K=some (.ret (.bool true),K):=fun K=>by
  unfold Sh.f3g
  simp only [GMb,GMc,f1,f2]
 have d0:decide (((0:Nat):Int)<((1:Nat):Int))=true:=rfl
 have d1:decide (((1:Nat):Int)<((1:Nat):Int))=false:=rfl
 have ix0:Au 1 (.sl (enL cU [1]) .tight) (.int .i64 ((0:Nat):Int))=some (.cptr [.int .u32 1] 0):=rfl
 have ld0:∀K,Ac false 1 (.cptr [.int .u32 1] 0) K=some (.int .u32 1):=fun _=>rfl
 have lsl:A5 (.sl (enL cU [1]) .tight)=some (.int .i64 ((1:Nat):Int)):=rfl
 have hlt:=QX hr
 have s1:=shl_one (K:=.u32) hr (wrapN hlt).1 (by decide)
 have s2:=shl_one (K:=.u64) hr (wrapN hlt).2 (by decide)
 have c1:AD .u64 (.int .u32 1)=some (.int .u64 1):=rfl
 have sh:Ae .none .shr (.int .u64 ((2^(m%32):Nat):Int)) (.int .u64 32)=some (.int .u64 0):=by
  rw [Pi,ZD (QX hr)];rfl
 have c2:AD .u32 (.int .u64 0)=some (.int .u32 0):=rfl
 have o1:=or_u32 (x:=0) (y:=2^(m%32)) (by decide) (QX hr)
 rw [Nat.zero_or]at o1
 have o2:Ae .none .or (.int .u32 ((0:Nat):Int)) (.int .u32 0)=some (.int .u32 ((0:Nat):Int)):=or_u32 (x:=0) (y:=0) (by decide) (by decide)
 have hidx:=CJ (sz:=1) (id:=H.length) (n:=m / 32+2) (K:=.i64) (g:=0) (off:=0) (cap:=m / 32+2) (ex:=true) (i:=m / 32) (by omega)
 have hidx2:=CJ (sz:=1) (id:=H.length) (n:=m / 32+2) (K:=.i64) (g:=0) (off:=0) (cap:=m / 32+2) (ex:=true) (i:=m / 32+1) (by omega)
 simp only [Yy,YB]at hidx hidx2
 have g1:A7 (H++[Blk.cel 0 (flat cU (List.replicate (m / 32+2) 0))]) H.length 0=some (flat cU (List.replicate (m / 32+2) 0)):=AE Ap
 have g2:A7 (H++[Blk.cel 0 (flat cU (KE m))]) H.length 0=some (flat cU (KE m)):=AE Ap
 have ld1:Ac false 1 (.ptr H.length 0 (m / 32)) (H++[Blk.cel 0 (flat cU (List.replicate (m / 32+2) 0))])=some (.int .u32 ((0:Nat):Int)):=by
  rw [Ih g1 (by simp),List.getElem_replicate];rfl
 have ld2:Ac false 1 (.ptr H.length 0 (m / 32+1)) (H++[Blk.cel 0 (flat cU (KE m))])=some (.int .u32 ((0:Nat):Int)):=by
  have hi:m / 32+1<(KE m).length:=by rw [N7];omega
  have:(KE m)[m / 32+1]=0:=by simp [KE,Zw]
  rw [Ih g2 hi,this];rfl
 have st1:=DP (f:=cU) (sz:=1) (i:=m / 32) (a:=2^(m%32)) (v:=.int .u32 ((2^(m%32):Nat):Int)) g1 (by simp) rfl
 rw [YB,Ch Ap,Bd,powL_set1]at st1
 have st2:=DP (f:=cU) (sz:=1) (i:=m / 32+1) (a:=0) (v:=.int .u32 ((0:Nat):Int)) g2 (by rw [N7];omega) rfl
 rw [YB,Ch Ap,Bd,powL_set2]at st2
 have ht:=add_tail (H:=H) (o:=KE m) (by rw [N7];omega) (powL_lim m) (powL_val m)
 have hct:=q_cut (l:=KE m) (H:=H++[Blk.cel 0 (flat cU (KE m))]) (id:=H.length) Ap (by rw [N7];omega)
 rw [N7]at ht hct
 rw [hct]at ht
 simp only [Option.bind_some]at ht
 unfold Sh.f3h
 simp only [hfit,GMb,GMc,Jq,Zi,lsl,hq,w1,w2,hmk]
 refine Ca (G:=fun rec1 vs H1=>Sh.f5r H rec1 (ag vs 0) (ag vs 1) (ag vs 2) (ag vs 3) (ag vs 4) H1) 1
  (fun i=>[.int .i64 (m:Int),.ms H.length 0 0 (m / 32+2) (m / 32+2) 1 true,.sl (enL cU [1]) .tight,.int .i64 ((1:Nat):Int),.int .i64 (i:Int)])
  (fun i=>H++[.cel 0 (flat cU (if i=0 then List.replicate (m / 32+2) 0 else KE m))]) _ (by decide) (fun rec i hi=>?_) (fun rec=>?_)
 ·have hi0:i=0:=by omega
  subst hi0
  unfold Sh.f5r
  simp only [if_true,if_neg (show ¬(0+1=0)by decide),Al,Ai,Bb,Bf,B2,BK,GMb,GMc,d0,ix0,ld0,hq,w3,hidx,ld1,hrm,s1,o1,st1,AL,w4,hidx2,ld2,c1,s2,sh,c2,o2,st2,w5,BN]
 ·unfold Sh.f5r
  simp only [if_neg (show ¬(1=0)by decide),Al,Ai,Bb,Bf,B2,BK,GMb,GMc,d1,hct]
  exact ht
set_option maxRecDepth 8000
theorem p_right (l:List Nat) (tk:Tok) (H:Aa) (hl:l.length≤1099511627776):Sh.fd (.sl (enL cU l) tk) H=some (.ret (.bool (Gb l)),H):=by
 unfold Sh.fd
 rcases Ga l with rfl | ⟨l',x,rfl⟩
 ·simp [Gb]
 ·simp only [Y2,List.length_singleton]at hl
  have h1:l'.length<(l'++[x]).length:=by simp
  have h3:IntKind.i64.wrap ((((l'++[x]).length:Nat):Int)-1)=(l'.length:Int):=by rw [Am] <;> simp <;> omega
  have hne:((((l'++[x]).length:Nat):Int) == 0)=false:=by simp;omega
  have hb:((x:Int) != 0)=(x != 0):=by rw [YD];simp
  simp only [Aw,Option.bind_some,DN,hne,Of,DM,h3,Ay h1,A9,List.getElem?_cons_zero,Zw (Yz _),YV,List.getElem_cons_zero,Io,Cz,PZ,hb]
  simp [Gb]
theorem Vn (neg:Bool) (l:List Nat) (tk:Tok) (H:Aa) (hl:l.length≤549755813888):Sh.f21 (.agg [.bool neg,.sl (enL cU l) tk]) H=some (.ret (.bool (Hv neg l)),H):=by
 unfold Sh.f21 Hv
 have hq:=fun H=>p_right l tk H (by omega)
 cases hr:Gb l with
 | false=>simp [Ct,hq,hr]
 | true=>
  cases neg with
  | false=>simp [Ct,hq,hr]
  | true=>cases l <;> simp [Ct,hq,hr] <;> omega
theorem p_pow {m:Nat} (hm:m≤10000) (H:Aa):Sh.f3i (.int .i64 (m:Int)) H=some (.ret (big (2^m)),H):=by
 have hs:∀K,Sh.fa (.bool false) (.sl (enL cU (A4 (2^m))) .no) K=some (.ret (big (2^m)),K):=fun K=>by
  rw [QY]
  have:(if false=true then -((2^m:Nat):Int)else ((2^m:Nat):Int))=2^m:=by simp
  rw [this]
 have hb:AO 1 [.int .u32 1]=some (.sl (enL cU [1]) .tight):=rfl
 have h1:=fun K=>p_shl1 hm K
 unfold Sh.f3i
 simp only [alloc_eq (cs:=[.bool false,.sl [] .tight]) rfl,GMb,GMc,hb,h1,hs]
 simp
def blN (n:Nat):Nat:=if n=0 then 0 else n.log2+1
theorem Jo {n k:Nat}:blN n≤k↔n<2^k:=by
 unfold blN
 by_cases h:n=0
 ·have:0<2^k:=Qag (by decide)
  rw [if_pos h];omega
 ·rw [if_neg h,←Nat.log2_lt h];omega
theorem blN_div {n j:Nat} (h:2^j≤n):blN n=blN (n / 2^j)+j:=by
 have hp:0<2^j:=Qag (by decide)
 refine Nat.le_antisymm (Jo.2 ?_) ?_
 ·have:=Jo.1 (Yz (blN (n / 2^j)))
  rw [Nat.pow_add]
  exact (ZB hp).1 this
 ·have h1:=Jo.1 (Yz (blN n))
  have h2:j<blN n:=(Nat.pow_lt_pow_iff_right (by decide:1<2)).1 (Zm h h1)
  have h3:blN (n / 2^j)≤blN n-j:=Jo.2 ((ZB hp).2 (by rw [←Nat.pow_add,Nat.sub_add_cancel (by omega)];exact h1))
  omega
theorem len_tab:∀x,x<256→(([0,1,2,2,3,3,3,3,4,4,4,4,4,4,4,4,5,5,5,5,5,5,5,5,5,5,5,5,5,5,5,5,6,6,6,6,6,6,6,6,6,6,6,6,6,6,6,6,6,6,6,6,6,6,6,6,6,6,6,6,6,6,6,6,7,7,7,7,7,7,7,7,7,7,7,7,7,7,7,7,7,7,7,7,7,7,7,7,7,7,7,7,7,7,7,7,7,7,7,7,7,7,7,7,7,7,7,7,7,7,7,7,7,7,7,7,7,7,7,7,7,7,7,7,7,7,7,7,8,8,8,8,8,8,8,8,8,8,8,8,8,8,8,8,8,8,8,8,8,8,8,8,8,8,8,8,8,8,8,8,8,8,8,8,8,8,8,8,8,8,8,8,8,8,8,8,8,8,8,8,8,8,8,8,8,8,8,8,8,8,8,8,8,8,8,8,8,8,8,8,8,8,8,8,8,8,8,8,8,8,8,8,8,8,8,8,8,8,8,8,8,8,8,8,8,8,8,8,8,8,8,8,8,8,8,8,8,8,8,8,8,8,8,8,8,8,8,8,8,8,8,8,8,8,8,8]:List UInt8)[x]?).map UInt8.toNat=some (blN x):=by decide +kernel
theorem len_idx {x:Nat} (h:x<256):BV (.str [0,1,2,2,3,3,3,3,4,4,4,4,4,4,4,4,5,5,5,5,5,5,5,5,5,5,5,5,5,5,5,5,6,6,6,6,6,6,6,6,6,6,6,6,6,6,6,6,6,6,6,6,6,6,6,6,6,6,6,6,6,6,6,6,7,7,7,7,7,7,7,7,7,7,7,7,7,7,7,7,7,7,7,7,7,7,7,7,7,7,7,7,7,7,7,7,7,7,7,7,7,7,7,7,7,7,7,7,7,7,7,7,7,7,7,7,7,7,7,7,7,7,7,7,7,7,7,7,8,8,8,8,8,8,8,8,8,8,8,8,8,8,8,8,8,8,8,8,8,8,8,8,8,8,8,8,8,8,8,8,8,8,8,8,8,8,8,8,8,8,8,8,8,8,8,8,8,8,8,8,8,8,8,8,8,8,8,8,8,8,8,8,8,8,8,8,8,8,8,8,8,8,8,8,8,8,8,8,8,8,8,8,8,8,8,8,8,8,8,8,8,8,8,8,8,8,8,8,8,8,8,8,8,8,8,8,8,8,8,8,8,8,8,8,8,8,8,8,8,8,8,8,8,8,8,8]) (.int .u8 (x:Int))=some (.int .u8 (blN x:Int)):=by
 have:=len_tab x h
 obtain ⟨b,h1,h2⟩:=Option.map_eq_some_iff.1 this
 unfold BV
 simp only []
 rw [if_pos (Qbd x),Int.toNat_natCast,h1,Option.map_some,h2]
theorem len_j2 {x n:Nat} (hx:x<256) (hn:n≤24) (H:Aa):Sh.f7d H (.int .u32 (x:Int)) (.int .i64 (n:Int)) H=some (.ret (.int .i64 ((n+blN x:Nat):Int)),H):=by
 have hb:blN x≤8:=Jo.2 hx
 have c1:AD .u8 (.int .u32 (x:Int))=some (.int .u8 (x:Int)):=by rw [Bq,QI (by omega) (by omega)]
 have c2:AD .i64 (.int .u8 (blN x:Int))=some (.int .i64 (blN x:Int)):=by rw [Bq,Am (by omega) (by omega)]
 have w:IntKind.i64.wrap ((n:Int)+(blN x:Int))=((n+blN x:Nat):Int):=by rw [Am] <;> omega
 unfold Sh.f7d
 simp only [c1,Option.bind_some]
 rw [len_idx hx]
 simp only [c2,GMb,GMc,w]
theorem shr_u32 (x k:Nat) (hk:k≤32):Ae .none .shr (.int .u32 (x:Int)) (.int .u64 (k:Int))=some (.int .u32 ((x / 2^k:Nat):Int)):=by
 show HG .shr .u32 (x:Int) (k:Int)=_
 unfold HG
 rw [if_neg (by omega)]
 simp only [Int.toNat_natCast]
 rw [show min k IntKind.u32.bits=k from Zr hk,Qah _ (Int.le_of_lt (QaK (by decide)))]
 have:((2:Int)^k)=((2^k:Nat):Int):=by simp
 rw [this]
 rfl
theorem len_j1 {x n:Nat} (hx:x<65536) (hn:n≤16) (H:Aa):Sh.f7e H (.int .u32 (x:Int)) (.int .i64 (n:Int)) H=some (.ret (.int .i64 ((n+blN x:Nat):Int)),H):=by
 unfold Sh.f7e
 by_cases h:256≤x
 ·have d:decide ((x:Int)≥256)=true:=decide_eq_true (by omega)
  have s:=shr_u32 x 8 (by decide)
  have w:IntKind.i64.wrap ((n:Int)+8)=((n+8:Nat):Int):=by rw [Am] <;> omega
  have e:=blN_div (n:=x) (j:=8) h
  simp only [show ((8:Nat):Int)=8 from rfl]at s
  simp only [AH,GMb,GMc,d,s,w]
  rw [len_j2 (by omega) (by omega),e,show n+8+blN (x / 2^8)=n+(blN (x / 2^8)+8)by omega]
 ·have d:decide ((x:Int)≥256)=false:=decide_eq_false (by omega)
  simp only [AH,GMb,GMc,d]
  exact len_j2 (by omega) (by omega) H
theorem p_len32 {x:Nat} (hx:x<4294967296) (H:Aa):Sh.f3e (.int .u32 (x:Int)) H=some (.ret (.int .i64 (blN x:Int)),H):=by
 unfold Sh.f3e
 by_cases h:65536≤x
 ·have d:decide ((x:Int)≥65536)=true:=decide_eq_true (by omega)
  have s:=shr_u32 x 16 (by decide)
  have e:=blN_div (n:=x) (j:=16) h
  simp only [show ((16:Nat):Int)=16 from rfl]at s
  have:=len_j1 (x:=x / 2^16) (n:=16) (by omega) (by omega) H
  simp only [show ((16:Nat):Int)=16 from rfl]at this
  simp only [AH,GMb,GMc,d,s]
  rw [this,e,QaP]
 ·have d:decide ((x:Int)≥65536)=false:=decide_eq_false (by omega)
  have:=len_j1 (x:=x) (n:=0) (by omega) (by omega) H
  simp only [Int.natCast_zero,Yy]at this
  simp only [AH,GMb,GMc,d]
  exact this
theorem K9 {H:Aa} {p o:Nat} {cs:List Ab} {v:Ab} (h:H[p]? = some (.cel 0 cs)) (hv:v.isScal=true) (ho:o<cs.length):Af 1 (.ptr p 0 o) v H=some (H.set p (.cel 0 (cs.set o v))):=by
 have hc:v.acells=some [v]:=by cases v <;> first | rfl | (simp [Ab.isScal]at hv)
 simp only [Af,AE h,BD,hc,List.length_singleton]
 rw [if_pos ⟨trivial,by omega⟩,Ch h,show DF cs o 1 [v]=cs.set o v from by rw [Qap,if_pos ho];simp [DF]]
theorem FZ {H:Aa} {p sz:Nat} {cs ws:List Ab} (h:H[p]? = some (.cel 0 cs)) (hl:cs.length=sz) (hl2:ws.length=sz) (hs:ws.all Ab.isScal=true):Af sz (.ptr p 0 0) (.agg ws) H=some (H.set p (.cel 0 ws)):=by
 simp only [Af,AE h,BD,CF hs,hl,hl2,Yy,Yz,and_self,if_true,G8 hl,Ch h]
theorem ET {H:Aa} {p sz:Nat} {cs:List Ab} (h:H[p]? = some (.cel 0 cs)) (hl:cs.length=sz):Ac true sz (.ptr p 0 0) H=some (.agg cs):=by
 simp only [Ac,AE h,BD,if_true,ZJ,hl,Yy,Yz]
 rw [Y6 (Qa5 hl)]
theorem CR {H:Aa} {p o sz:Nat} {cs:List Ab} (h:H[p]? = some (.cel 0 cs)):Ac false sz (.ptr p 0 o) H=cs[o]? := by
 simp only [Ac,AE h,BD];rfl
def WK:Ab→Bool
 | .agg cs=>cs.all IS
 | v=>IS v
theorem plnT_frz {v:Ab} {H:Aa} {n d:Nat} (h:WK v=true):frz H n (d+3) v=some v:=by
 cases v with
 | agg cs=>
  have h':cs.all IS=true:=h
  simp only [frz,Hh h',Option.map_some]
 | _=>exact plnC_frz (d:=d+2) h
theorem X8 {H:Aa} {n d:Nat}:∀ {cs:List Ab},cs.all WK=true→Gi H n (d+4) cs=some cs
 | [],_=>by simp [Gi]
 | c::cs,h=>by
  simp only [List.all_cons,Y7]at h
  simp [Gi,plnT_frz h.1,X8 h.2]
theorem rP_aggP {H G:Aa} {cs:List Ab} (h:cs.all IS=true):rP H (.agg cs) (H++G)=some (.ret (.agg cs),H):=by
 rw [rP_eq _ (by simp)]
 simp only [frz,Hh h,Option.map_some]
theorem rP_tupP {H G:Aa} {cs:List Ab} (h:cs.all WK=true):rP H (.tup cs) (H++G)=some (.ret (.tup cs),H):=by
 rw [rP_eq _ (by simp)]
 simp only [frz,X8 h,Option.map_some]
theorem RU {g o:Nat} {v:Ab} {cs:List Ab} {G:Aa} (hv:v.isScal=true) (h:o<cs.length):Af 1 (.ptr 0 g o) v (.cel g cs::G)=some (.cel g (cs.set o v)::G):=by
 have hc:v.acells=some [v]:=by cases v <;> first | rfl | (simp [Ab.isScal]at hv)
 rw [UO,hc]
 simp only [BD,List.length_singleton]
 rw [if_pos ⟨trivial,by omega⟩,Qap,if_pos h]
 simp [DF]
theorem store_agg {sz g:Nat} {cs ws:List Ab} {G:Aa} (h:cs.length=sz) (h2:ws.length=sz) (h3:ws.all Ab.isScal=true):Af sz (.ptr 0 g 0) (.agg ws) (.cel g cs::G)=some (.cel g ws::G):=Is (CF h3) h h2
theorem nil_ptr {id g o:Nat}:At (.ptr id g o)=some (.ptr id g o):=(rfl)
theorem app_app (a b c:Aa):a++b++c=a++(b++c):=Y1 a b c
theorem len_app (a b:Aa):(a++b).length=a.length+b.length:=Y2
theorem Fr (x:Ab) (b:List Ab):(x::b)[0]? = some x:=(rfl)
theorem JQ (x:Ab) (b:List Ab) (i:Nat):(x::b)[i+1]? = b[i]? := (rfl)
def Jh (x:Nd):List Ab:=[.int .i64 x.k0,.int .i64 x.k1,.int .i64 x.k2,.int .i64 x.k3]
theorem ld_kids (x:Nd) (H:Aa):Ac true 4 (.cptr (cNd x) 1) H=some (.agg (Jh x)):=(rfl)
theorem ag_kid (x:Nd) {k:Nat} (hk:k<4) (K:IntKind):Jz false 4 1 (.agg (Jh x)) (.int K (k:Int))=some (.int .i64 (x.kid k)):=by
 match k,hk with
 | 0,_=>rfl
 | 1,_=>rfl
 | 2,_=>rfl
 | 3,_=>rfl
theorem FF (g:Nat) (x:Nd) (G:Aa):Ac true 4 (.ptr 0 g 1) (.cel g (cNd x)::G)=some (.agg (Jh x)):=by
 rw [show Ac true 4 (.ptr 0 g 1) (.cel g (cNd x)::G)=if 1+4≤(cNd x).length then some (.agg (((cNd x).drop 1).take 4))else none from by simp only [Ac,JN];rfl]
 rfl
theorem FN (x:Nd):(cNd x).length=5:=(rfl)
theorem HPa:(((∀(H G:Aa) (a:Bool) (sz k g o:Nat),Ac a sz (.ptr (H.length+k) g o) (H++G)=Ac a sz (.ptr k g o) G) ∧
  (∀(H G:Aa) (a:Bool) (sz g o:Nat),Ac a sz (.ptr H.length g o) (H++G)=Ac a sz (.ptr 0 g o) G)) ∧
  ((∀(b:Blk) (G:Aa) (a:Bool) (sz k g o:Nat),Ac a sz (.ptr (k+1) g o) (b::G)=Ac a sz (.ptr k g o) G) ∧
  (∀(cs:List Ab) (G:Aa) (sz g o:Nat),Ac false sz (.ptr 0 g o) (.cel g cs::G)=cs[o]?) ∧
  (∀(cs:List Ab) (G:Aa) (sz g:Nat),cs.length=sz→Ac true sz (.ptr 0 g 0) (.cel g cs::G)=some (.agg cs)))) ∧
 (((∀(H G:Aa) (v:Ab) (sz k g o:Nat),Af sz (.ptr (H.length+k) g o) v (H++G)=(Af sz (.ptr k g o) v G).map (H++·)) ∧
  (∀(H G:Aa) (v:Ab) (sz g o:Nat),Af sz (.ptr H.length g o) v (H++G)=(Af sz (.ptr 0 g o) v G).map (H++·))) ∧
  ((∀(b:Blk) (G:Aa) (v:Ab) (sz k g o:Nat),Af sz (.ptr (k+1) g o) v (b::G)=(Af sz (.ptr k g o) v G).map (b::·)) ∧
  (∀(cs:List Ab) (G:Aa) (v:Ab) (g o:Nat),v.isScal=true→o<cs.length→Af 1 (.ptr 0 g o) v (.cel g cs::G)=some (.cel g (cs.set o v)::G)) ∧
  (∀(cs ws:List Ab) (G:Aa) (sz g:Nat),cs.length=sz→ws.length=sz→ws.all Ab.isScal=true→Af sz (.ptr 0 g 0) (.agg ws) (.cel g cs::G)=some (.cel g ws::G)))) ∧
 ((∀(cs:List Ab) (H:Aa),cs.all Ab.isScal=true→Ax (some cs) H=some (.ptr H.length 0 0,H++[.cel 0 cs])) ∧
  (∀(cs:List Ab) (H:Aa) (sz:Nat),cs.all Ab.isScal=true→cs.length=sz→Bz true sz (.agg cs) H=some (.ptr H.length 0 0,H++[.cel 0 cs]))):=
 ⟨⟨⟨fun _ _ _ _ _ _ _=>load_app,fun _ _ _ _ _ _=>Hi⟩,fun _ _ _ _ _ _ _=>load_succ,fun _ _ _ _ _=>OW,fun _ _ _ _ h=>VA h⟩,
  ⟨⟨fun _ _ _ _ _ _ _=>Xq,fun _ _ _ _ _ _=>I5⟩,fun _ _ _ _ _ _ _=>store_succ,fun _ _ _ _ _ h1 h2=>RU h1 h2,fun _ _ _ _ _ h1 h2 h3=>store_agg h1 h2 h3⟩,
  fun _ _ h=>alloc_eq h,fun _ _ _ h1 h2=>Ct h1 h2⟩
theorem HPc:(((∀(K:IntKind) (n:Int),(Ab.int K n).isScal=true)∧(∀t:Bool,(Ab.bool t).isScal=true)∧(∀s:List UInt8,(Ab.str s).isScal=true)) ∧
  ((∀(es:List (List Ab)) (tk:Tok),(Ab.sl es tk).isScal=true)∧(∀(id g off len cap sz:Nat) (ex:Bool),(Ab.ms id g off len cap sz ex).isScal=true)∧(∀id g off:Nat,(Ab.ptr id g off).isScal=true)) ∧
  (∀id:Nat,(Ab.mp id).isScal=true)∧(∀(f:FuncId) (c:List Ab),(Ab.fn f c).isScal=true)∧(Ab.nilp.isScal=true)∧(Ab.nilmap.isScal=true)∧Ab.nilfn.isScal=true) ∧
 (((∀(K:IntKind) (n:Int),IS (Ab.int K n)=true)∧(∀t:Bool,IS (Ab.bool t)=true)∧(∀s:List UInt8,IS (Ab.str s)=true)) ∧
  ((∀(es:List (List Ab)),IS (Ab.sl es .no)=true)∧(∀(es:List (List Ab)),IS (Ab.sl es .tight)=true)) ∧
  ((∀(K:IntKind) (n:Int),WK (Ab.int K n)=true)∧(∀t:Bool,WK (Ab.bool t)=true)∧(∀s:List UInt8,WK (Ab.str s)=true)) ∧
  ((∀(es:List (List Ab)),WK (Ab.sl es .no)=true)∧(∀(es:List (List Ab)),WK (Ab.sl es .tight)=true))∧(∀cs:List Ab,WK (.agg cs)=cs.all IS)) ∧
 ((∀(H G:Aa) (cs:List Ab),cs.all IS=true→rP H (.agg cs) (H++G)=some (.ret (.agg cs),H)) ∧
  (∀(H G:Aa) (cs:List Ab),cs.all WK=true→rP H (.tup cs) (H++G)=some (.ret (.tup cs),H)) ∧
  (∀(H G:Aa) (t:Bool),rP H (.bool t) (H++G)=some (.ret (.bool t),H)) ∧
  (∀(H G:Aa) (K:IntKind) (n:Int),rP H (.int K n) (H++G)=some (.ret (.int K n),H)) ∧
  (∀(H G:Aa) (s:List UInt8),rP H (.str s) (H++G)=some (.ret (.str s),H))):=
 ⟨⟨⟨fun _ _=>rfl,fun _=>rfl,fun _=>rfl⟩,⟨fun _ _=>rfl,fun _ _ _ _ _ _ _=>rfl,fun _ _ _=>rfl⟩,fun _=>rfl,fun _ _=>rfl,rfl,rfl,rfl⟩,
  ⟨⟨fun _ _=>rfl,fun _=>rfl,fun _=>rfl⟩,⟨fun _=>rfl,fun _=>rfl⟩,⟨fun _ _=>rfl,fun _=>rfl,fun _=>rfl⟩,⟨fun _=>rfl,fun _=>rfl⟩,fun _=>rfl⟩,
  fun _ _ _ h=>rP_aggP h,fun _ _ _ h=>rP_tupP h,fun _ _ _=>FP,fun _ _ _ _=>I6,fun _ _ _=>rP_str⟩
theorem HPd:((∀(H G:Aa) (v:Ab),rPN H v (H++G)=(Hm (H++G) H.length 8 v).map fun v=>(.ret v,H)) ∧
  (∀(H:Aa) (n d:Nat) (vs:List Ab),Hm H n (d+1) (.tup vs)=(IC H n d vs).map .tup) ∧
  (∀(H:Aa) (n d:Nat) (cs:List Ab),Hm H n (d+1) (.agg cs)=(Gj H n d cs).map .agg) ∧
  (∀(H:Aa) (n d:Nat) (es:List (List Ab)) (tk:Tok),Hm H n (d+1) (.sl es tk)=some (.sl es .no))) ∧
 ((∀(H:Aa) (n d:Nat),IC H n (d+1) []=some []) ∧
  (∀(H:Aa) (n d:Nat) (v:Ab) (vs:List Ab),IC H n (d+1) (v::vs)=(Fy H n d v).bind fun v'=>(IC H n (d+1) vs).map (v'::·)) ∧
  (∀(H:Aa) (n d:Nat),Gj H n (d+1) []=some []) ∧
  (∀(H:Aa) (n d:Nat) (v:Ab) (vs:List Ab),Gj H n (d+1) (v::vs)=(IE H n d v).bind fun v'=>(Gj H n (d+1) vs).map (v'::·))) ∧
 ((∀(H:Aa) (n d:Nat) (cs:List Ab),Fy H n (d+1) (.agg cs)=(Gj H n d cs).map .agg) ∧
  (∀(H:Aa) (n d:Nat) (K:IntKind) (i:Int),Fy H n (d+1) (.int K i)=some (.int K i)) ∧
  (∀(H:Aa) (n d:Nat) (t:Bool),Fy H n (d+1) (.bool t)=some (.bool t)) ∧
  (∀(H:Aa) (n d:Nat) (s:List UInt8),Fy H n (d+1) (.str s)=some (.str s)) ∧
  (∀(H:Aa) (n d:Nat) (es:List (List Ab)) (tk:Tok),Fy H n (d+1) (.sl es tk)=some (.sl es .no))) ∧
 ((∀(H:Aa) (n d:Nat) (K:IntKind) (i:Int),IE H n (d+1) (.int K i)=some (.int K i)) ∧
  (∀(H:Aa) (n d:Nat) (t:Bool),IE H n (d+1) (.bool t)=some (.bool t)) ∧
  (∀(H:Aa) (n d:Nat) (s:List UInt8),IE H n (d+1) (.str s)=some (.str s)) ∧
  (∀(H:Aa) (n d:Nat) (es:List (List Ab)) (tk:Tok),IE H n (d+1) (.sl es tk)=some (.sl es .no))) ∧
 ((∀xs:List (Option Ab),CU xs=(WJ xs).map .tup)∧(WJ []=some [])∧(∀(x:Option Ab) (xs:List (Option Ab)),WJ (x::xs)=x.bind fun v=>(WJ xs).map (v::·))) ∧
 ((∀(v:Ab) (vs:List Ab),As 0 (.tup (v::vs))=some v)∧(∀(v w:Ab) (vs:List Ab),As 1 (.tup (v::w::vs))=some w)∧(∀(v w u:Ab) (vs:List Ab),As 2 (.tup (v::w::u::vs))=some u)):=
 ⟨⟨fun _ _ _=>Co,fun _ _ _ _=>Dz,fun _ _ _ _=>fall_agg,fun _ _ _ _ _=>Ft⟩,⟨fun _ _ _=>C9,fun _ _ _ _ _=>Cp,fun _ _ _=>Hl,fun _ _ _ _ _=>Gv⟩,
  ⟨fun _ _ _ _=>Iz,fun _ _ _ _ _=>Fs,fun _ _ _ _=>Hj,fun _ _ _ _=>fpart_str,fun _ _ _ _ _=>ID⟩,⟨fun _ _ _ _ _=>fcell_int,fun _ _ _ _=>Q9,fun _ _ _ _=>fcell_str,fun _ _ _ _ _=>JS⟩,
  ⟨fun _=>rfl,rfl,fun _ _=>rfl⟩,fun _ _=>rfl,fun _ _ _=>rfl,fun _ _ _ _=>rfl⟩
theorem HPe:(∀(H:Aa) (j k:Nat),List.length H+j+k=List.length H+(j+k))∧(∀(H0 H:Aa) (v:Ab) (k:Ab→Aa→Out),bK H0 (some (.pan v,H)) k=some (.pan v,H))∧(∀(α β:Type) (a:α) (f:α→β),Option.map f (some a)=some (f a))∧(∀id g o:Nat,At (.ptr id g o)=some (.ptr id g o))∧(∀off id g o:Nat,Ad off (.ptr id g o)=some (.ptr id g (o+off))) ∧
 ((∀a b c:Aa,a++b++c=a++(b++c))∧(∀(x:Blk) (b c:Aa),(x::b)++c=x::(b++c))∧(∀b:Aa,([]:Aa)++b=b)∧(∀a b:Aa,(a++b).length=a.length+b.length)∧(∀(x:Blk) (b:Aa),(x::b).length=b.length+1)∧(([]:Aa).length=0)) ∧
 ((∀(x:Ab) (b:List Ab),(x::b).length=b.length+1)∧(([]:List Ab).length=0)∧(∀(x:Ab) (b:List Ab),(x::b)[0]? = some x)∧(∀(x:Ab) (b:List Ab) (i:Nat),(x::b)[i+1]? = b[i]?)) ∧
 ((∀(x y:Ab) (b:List Ab),(x::b).set 0 y=y::b)∧(∀(x y:Ab) (b:List Ab) (i:Nat),(x::b).set (i+1) y=x::b.set i y)∧(∀(p:Ab→Bool) (x:Ab) (b:List Ab),(x::b).all p=(p x&&b.all p))∧(∀p:Ab→Bool,([]:List Ab).all p=true)) ∧
 (∀s:List UInt8,BE (.str s)=some (.int .i64 (s.length:Int))):=
 ⟨fun _ _ _=>Zn _ _ _,fun _ _ _ _=>rfl,fun _ _ _ _=>rfl,fun _ _ _=>rfl,fun _ _ _ _=>rfl,⟨app_app,fun _ _ _=>rfl,fun _=>rfl,len_app,fun _ _=>rfl,rfl⟩,⟨fun _ _=>rfl,rfl,fun _ _=>rfl,fun _ _ _=>rfl⟩,⟨fun _ _ _=>rfl,fun _ _ _ _=>rfl,fun _ _ _=>rfl,fun _=>rfl⟩,fun _=>rfl⟩
theorem HPz:((∀n:Nat,0+n=n)∧(∀n:Nat,n+0=n)∧(∀p:Prop,(p∧p)=p)∧(∀p:Prop,(p∧True)=p)∧(∀(α:Type) (a:α),(a=a)=True)∧(∀b:Bool,(b&&b)=b)):=
 ⟨Yy,Nat.add_zero,and_self,and_true,fun _ a=>eq_self a,Bool.and_self⟩
open Go.Proofs
set_option maxRecDepth 100000
theorem rightB_snoc (l:List Nat) (x:Nat):Gb (l++[x])=(x != 0):=by simp [Gb]
theorem p_cutG {l:List Nat} (tk:Tok) (H:Aa) (hx:Lim l) (hl:l.length≤1099511627776):Sh.f0 (.sl (enL cU l) tk) H=some (.ret (.sl (enL cU (A4 (val l))) .no),H):=by
 unfold Sh.f0
 have key:=Bk (G:=fun rec1 vs H1=>Sh.f1w H rec1 (ag vs 0) H1) (σ:=Nat×Tok) (fun s=>s.1≤l.length∧val (l.take s.1)=val l)
  (fun s=>[.sl (enL cU (l.take s.1)) s.2]) (fun _=>H) (fun s=>s.1) (fun _=>some (.ret (.sl (enL cU (A4 (val l))) .no),H)) (fun s rec hi hrec=>?_) (l.length,tk) ⟨Yz _,by rw [YY]⟩ (by dsimp only;omega)
 ·dsimp only at key
  rwa [YY]at key
 ·obtain ⟨k,t⟩:=s
  dsimp only at hi hrec ⊢
  obtain ⟨h1,h2⟩:=hi
  have hlk:(l.take k).length=k:=by rw [YC];omega
  have hxk:Lim (l.take k):=fun x h=>hx x (Z1 h)
  have hr:=p_right (l.take k) t H (by omega)
  unfold Sh.f1w
  cases hb:Gb (l.take k)with
  | true=>
   rw [hb]at hr
   have hn:=NZ ((Qq hxk).1 hb)
   rw [h2]at hn
   simp only [Al,GMb,GMc,hr,Zi,Ek,forget,Eu,fgt]
   rw [←hn]
  | false=>
   rw [hb]at hr
   obtain ⟨m,rfl⟩:∃m,k=m+1:=by
    cases k with
    | zero=>rw [List.take_zero]at hb;cases hb
    | succ m=>exact ⟨m,rfl⟩
   have hm:m<l.length:=by omega
   have hz:l[m]=0:=by
    have:l.take (m+1)=l.take m++[l[m]]:=Y5 hm
    rw [this,rightB_snoc]at hb
    simpa using hb
   have hv:val (l.take m)=val l:=by
    rw [←h2,Y5 hm,Ci,hz]
    simp [val]
   have hw:IntKind.i64.wrap (((m+1:Nat):Int)-1)=(m:Int):=by rw [Am] <;> omega
   have hsl:∃t',Bw 1 (.sl (enL cU (l.take (m+1))) t) none (some (.int .i64 (m:Int))) none=some (.sl (enL cU (l.take m)) t'):=by
    refine ⟨F8 t 0 m (l.take (m+1)).length false,?_⟩
    have:=slice_to (f:=cU) (sz:=1) (l:=l.take (m+1)) (tk:=t) (K:=.i64) (h:=m) (by omega)
    rw [List.take_take,Zr (by omega)]at this
    exact this
   obtain ⟨t',hsl⟩:=hsl
   simp only [Al,GMb,GMc,hr,Zt,Aw,hlk,hw,hsl]
   exact hrec (m,t') ⟨by omega,hv⟩ (Nat.lt_succ_self m)
theorem cmA_res (kn:List Ab→Aa→Out) (x0:Ab) (eb:List (List Ab)) (tb:Tok) (H:Aa) :
  cmA kn x0 (.sl eb tb) H=kn [x0,.sl eb tb,.undef,.ptr H.length 0 0,.ptr (H.length+1) 0 0,.undef,.undef,.undef,.undef,.undef,.undef,.undef,.undef,.undef,.undef,.undef,.undef,.undef,.undef,.undef,.undef,.undef,.undef,.undef,.undef,.undef,.undef,.undef,.undef,.undef,.undef,.undef,.undef,.undef,.undef,.undef,.undef,.undef,.undef] (H++[.cel 0 [.sl eb tb]]++[.cel 0 [.int .i64 0]]):=by
 have hbx:Bz true 1 (.sl eb tb) H=some (.ptr H.length 0 0,H++[.cel 0 [.sl eb tb]]):=by
  unfold Bz;simp only [Yr,alloc_eq (cs:=[.sl eb tb]) rfl];rfl
 have hal:Ax (some [(.int .i64 0)]) (H++[.cel 0 [.sl eb tb]])=some (.ptr (H++[Blk.cel 0 [.sl eb tb]]).length 0 0,H++[.cel 0 [.sl eb tb]]++[.cel 0 [.int .i64 0]]):=alloc_eq rfl
 have hl:(H++[Blk.cel 0 [.sl eb tb]]).length=H.length+1:=by simp
 unfold cmA
 rw [hbx]
 simp only [Bo]
 rw [hal]
 simp only [Bo,hl]
theorem cmB_res (kn:List Ab→Aa→Out) {la lb:List Nat} (ta tb:Tok) (H:Aa) (xa:Lim la) (xb:Lim lb) (ha:la.length≤1099511627776) (hb:lb.length≤1099511627776) :
  cmB kn (.sl (enL cU la) ta) (.sl (enL cU lb) tb) (.ptr H.length 0 0) (.ptr (H.length+1) 0 0) (H++[.cel 0 [.sl (enL cU lb) tb]]++[.cel 0 [.int .i64 0]]) =
   kn [.sl (enL cU (A4 (val la))) .no,.sl (enL cU lb) tb,.undef,.ptr H.length 0 0,.ptr (H.length+1) 0 0,.undef,.undef,.sl (enL cU la) ta,.sl (enL cU (A4 (val la))) .no,.sl (enL cU lb) tb,.sl (enL cU (A4 (val lb))) .no,.undef,.undef,.undef,.undef,.undef,.undef,.undef,.undef,.undef,.undef,.undef,.undef,.undef,.undef,.undef,.undef,.undef,.undef,.undef,.undef,.undef,.undef,.undef,.undef,.undef,.undef,.undef,.undef] (H++[.cel 0 [.sl (enL cU (A4 (val lb))) .no]]++[.cel 0 [.int .i64 0]]):=by
 have e1:(H++[Blk.cel 0 [.sl (enL cU lb) tb]]++[.cel 0 [.int .i64 0]])[H.length]? = some (.cel 0 [.sl (enL cU lb) tb]):=by simp
 have ld:Ac false 1 (.ptr H.length 0 0) (H++[Blk.cel 0 [.sl (enL cU lb) tb]]++[.cel 0 [.int .i64 0]])=some (.sl (enL cU lb) tb):=by
  simp only [Ac,AE e1,Option.bind_some];rfl
 have hst:Af 1 (.ptr H.length 0 0) (.sl (enL cU (A4 (val lb))) .no) (H++[Blk.cel 0 [.sl (enL cU lb) tb]]++[.cel 0 [.int .i64 0]])=some (H++[.cel 0 [.sl (enL cU (A4 (val lb))) .no]]++[.cel 0 [.int .i64 0]]):=by
  rw [K9 e1 rfl (by simp)]
  congr 1
  rw [Qau _ _ (by simp),Bd]
  rfl
 have c1:=fun K=>p_cutG ta K xa ha
 have c2:=fun K=>p_cutG tb K xb hb
 unfold cmB
 simp only [c1,B6,ld]
 rw [BN ⟨rfl,trivial⟩]
 simp only [c2,B6,hst,AL,Fe]
theorem cmC_res (kn kr:List Ab→Aa→Out) (a b:Nat) (ta tb:Tok) (H:Aa) (ha:(A4 a).length≤1099511627776) (hb:(A4 b).length≤1099511627776) :
  (∃tm:List Ab,tm.length=39∧tm[0]? = some (.sl (enL cU (A4 a)) ta)∧tm[3]? = some (.ptr H.length 0 0)∧tm[4]? = some (.ptr (H.length+1) 0 0) ∧
   cmC kn kr (.sl (enL cU (A4 a)) ta) (.ptr H.length 0 0) (.ptr (H.length+1) 0 0) (H++[.cel 0 [.sl (enL cU (A4 b)) tb]]++[.cel 0 [.int .i64 0]]) =
    if (A4 a).length=(A4 b).length then kn tm (H++[.cel 0 [.sl (enL cU (A4 b)) tb]]++[.cel 0 [.int .i64 0]])
    else kr tm (H++[.cel 0 [.sl (enL cU (A4 b)) tb]]++[.cel 0 [.int .i64 (if (A4 a).length<(A4 b).length then -1 else 1)]])):=by
 have e1:(H++[Blk.cel 0 [.sl (enL cU (A4 b)) tb]]++[.cel 0 [.int .i64 0]])[H.length]? = some (.cel 0 [.sl (enL cU (A4 b)) tb]):=by simp
 have e2:(H++[Blk.cel 0 [.sl (enL cU (A4 b)) tb]]++[.cel 0 [.int .i64 0]])[H.length+1]? = some (.cel 0 [.int .i64 0]):=by simp
 have ld:Ac false 1 (.ptr H.length 0 0) (H++[Blk.cel 0 [.sl (enL cU (A4 b)) tb]]++[.cel 0 [.int .i64 0]])=some (.sl (enL cU (A4 b)) tb):=by
  simp only [Ac,AE e1,Option.bind_some];rfl
 have hst:∀z:Int,Af 1 (.ptr (H.length+1) 0 0) (.int .i64 z) (H++[Blk.cel 0 [.sl (enL cU (A4 b)) tb]]++[.cel 0 [.int .i64 0]])=some (H++[.cel 0 [.sl (enL cU (A4 b)) tb]]++[.cel 0 [.int .i64 z]]):=fun z=>by
  rw [K9 e2 rfl (by simp)]
  congr 1
  rw [YR _ _ (by simp)]
  simp
 unfold cmC
 simp only [Aw,Option.bind_some,ld]
 by_cases h:(A4 a).length=(A4 b).length
 ·have hn:Ae .none .neq (.int .i64 ((A4 a).length:Int)) (.int .i64 ((A4 b).length:Int))=some (.bool false):=by
   show some (Ab.bool (((A4 a).length:Int) != ((A4 b).length:Int)))=_
   rw [h];simp
  simp only [hn,if_pos h,Option.bind_some,AM]
  exact ⟨_,rfl,rfl,rfl,rfl,rfl⟩
 ·have hn:Ae .none .neq (.int .i64 ((A4 a).length:Int)) (.int .i64 ((A4 b).length:Int))=some (.bool true):=by
   show some (Ab.bool (((A4 a).length:Int) != ((A4 b).length:Int)))=_
   have:(((A4 a).length:Int) != ((A4 b).length:Int))=true:=by simp;omega
   rw [this]
  simp only [hn,if_neg h,Option.bind_some,AV,Bj]
  by_cases h2:(A4 a).length<(A4 b).length
  ·simp only [decide_eq_true (show ((A4 a).length:Int)<((A4 b).length:Int)by omega),if_pos h2,AV,hst,AL,Fe]
   exact ⟨_,rfl,rfl,rfl,rfl,rfl⟩
  ·simp only [decide_eq_false (show ¬((A4 a).length:Int)<((A4 b).length:Int)by omega),if_neg h2,AM,hst,AL,Fe]
   exact ⟨_,rfl,rfl,rfl,rfl,rfl⟩
open Go.RowKit
open Go.RowKit Go.Proofs Go.Shelf
attribute [local go_sem] Oper.semAt_some
def GoodC (n:Nat) (za zb:Nat→Nat) (z:Int):Prop:=
 (z=0∧∀j,j<n→za j=zb j)∨∃i,i<n∧za i≠zb i∧(∀j,i<j→j<n→za j=zb j)∧z=if za i<zb i then -1 else 1
def AllEq {n:Nat} (za zb:Nat→Nat) (pre:List (Fin n)):Prop:=∀x∈pre,za x.1=zb x.1
def TopNe {n:Nat} (za zb:Nat→Nat) (pre:List (Fin n)) (z:Int):Prop:=
 ∃x:Fin n,za x.1≠zb x.1∧AllEq za zb pre.dropLast∧pre.getLast? = some x∧z=if za x.1<zb x.1 then -1 else 1
def Laid (B R:Nat) (w1:World) (z:Int) (W:World):Prop:=Below B (w1.setCell ⟨R,0,none⟩ (.int .i64 z)) W∧B+1≤W.heap.size
theorem Hy {W:World} {R k:Nat} {v:Value} (h:k≠R):(W.setCell ⟨R,0,none⟩ v).heap[k]? = W.heap[k]? := by
 simp [World.setCell,ZM,h.symm]
theorem KC {W:World} {R:Nat} {u v:Value} {t:TypeId} (h:W.heap[R]? = some (.cells #[u] t (0,0))):(W.setCell ⟨R,0,none⟩ v).heap[R]? = some (.cells #[v] t (0,0)):=by
 simp [World.setCell,ZM,h]
theorem Fj (W:World) (R:Nat) (v:Value):(W.setCell ⟨R,0,none⟩ v).heap.size=W.heap.size:=by simp [World.setCell]
theorem laid_of {B R:Nat} {w1 W:World} {t:TypeId} {z:Int} (h:Below B w1 W) (hR:R<B) (hr:w1.heap[R]? = some (.cells #[.int .i64 0] t (0,0))) (h5:B+1≤W.heap.size):Laid B R w1 z (W.setCell ⟨R,0,none⟩ (.int .i64 z)):=by
 refine ⟨⟨h.os,h.tape,h.output,?_,fun k hk=>?_⟩,by rw [Fj];exact h5⟩
 ·rw [Fj,Fj];exact h.size
 ·by_cases e:k=R
  ·subst e
   rw [KC ((h.block k hk).trans hr),KC hr]
  ·rw [Hy e,Hy e];exact h.block k hk
theorem XN {B R:Nat} {W:World} {v:Value} (hR:R<B):KeepsFrom B W (W.setCell ⟨R,0,none⟩ v):=
 ⟨by rw [Fj];exact Yz _,fun k o hB hk _=>by rw [Hy (by omega)];exact hk⟩
theorem results_one {P:Program} {fn:Func} {p:Tmp} {ty:TypeId} {d:TypeDesc} (h:fn.results = #[.cell p ty]) (hu:P.underlying ty=some d) (ha:BB P ty=false) (tmps:Array Value) (w:World) (R:Nat) (v:Value) (hp:tmps.getD p undef=.pointer (some ⟨R,0,none⟩)) (hc:w.cell? ⟨R,0,none⟩=some v) :
  (results fn tmps).run P w=.ok v w:=by
 have hp':tmps[p]?.getD undef=.pointer (some ⟨R,0,none⟩):=by simpa using hp
 simp [results,h,hp',asAddr,LH hu w _ v hc ha]
theorem cmp_end {fu B R:Nat} {w1 W:World} {Rr:Ending→World→Prop} {z:Int} {t:TypeId} {D:Nat} {ts:Array Value} (hR:R<B) (hB:w1.heap.size=B) (hr:w1.heap[R]? = some (.cells #[.int .i64 0] t (0,0))) (hl:Laid B R w1 z W) (hD:B+1≤D) (hK:W.heap[D]? = some (.deferred (some [])))
  (hp:ts.getD 4 undef=.pointer (some ⟨R,0,none⟩)) (hRr:∀W,Below B (w1.setCell ⟨R,0,none⟩ (.int .i64 z)) W→Rr (.returned (.int .i64 z)) W) :
  bodyPostM Fence.wide fu Tryz.prog Tryz.f156 Rr .ret { tmps:=ts,defers:=[{ target:=.collected D,args:=#[] }] } W:=by
 have hb:Below B (w1.setCell ⟨R,0,none⟩ (.int .i64 z)) (W.putObj D (.deferred none)):=
  hl.1.trans (belowK_b (w:=w1) (n₀:=B) (by omega) W D _ _ (by omega) hK rfl rfl)
 have hh:(W.putObj D (.deferred none)).heap[R]? = some (.cells #[.int .i64 z] t (0,0)):=(hb.block R hR).trans (KC hr)
 show LeavesInM _ _ _ _ _ _ (_::_) _ _
 refine ⟨by simp,.inl ⟨_,_,rfl,run_takeDeferred hK,?_⟩⟩
 show LeavesIn _ _ _ _ _ _ [] _ _
 exact ⟨_,results_one (p:=4) (ty:=3) (d:=.int .i64) (by kernel_rfl) (by kernel_rfl) (by kernel_rfl) ts _ R (.int .i64 z) hp (by rw [Bg hh];rfl),hRr _ hb⟩
set_option maxRecDepth 100000 in
set_option maxHeartbeats 4000000 in
theorem cmp_tail {fu n:Nat} (hn:3≤fu) {w1:World} {Rr:Ending→World→Prop} (bA R bb ob cb ba oa ca:Nat) (ao bo:Option Addr) (za zb:Nat→Nat) (hreach:n≤1099511627776)
  (hao:0<n→ao=some ⟨ba,oa,none⟩) (hbo:0<n→bo=some ⟨bb,ob,none⟩) (hA:bA<w1.heap.size) (hR:R<w1.heap.size) (hba:ba<w1.heap.size) (hbb:bb<w1.heap.size)
  (hbx:w1.cell? ⟨bA,0,none⟩=some (.slice bo n cb)) (hrx:∃t,w1.heap[R]? = some (.cells #[.int .i64 0] t (0,0))) (hca:∀j,j<n→w1.cell? ⟨ba,oa+j,none⟩=some (.int .u32 (za j:Int))) (hcb:∀j,j<n→w1.cell? ⟨bb,ob+j,none⟩=some (.int .u32 (zb j:Int)))
  (hRr:∀z W,GoodC n za zb z→Below w1.heap.size (w1.setCell ⟨R,0,none⟩ (.int .i64 z)) W→Rr (.returned (.int .i64 z)) W)
  (va:Value) (hva:va=.slice ao n ca) (t1 t2 t5 t6 t7 t8 t9 t10 t11 t12 t13 t14 t15 t16 t17 t18 t19 t20 t21 t22 t23 t24 t25 t26 t27 t28 t29 t30 t31 t32 t33 t34 t35 t36 t37 t38:Value) :
  cdD.wpIn Fence.wide fu Tryz.prog (bodyPostM Fence.wide fu Tryz.prog Tryz.f156 Rr) { tmps:=#[va,t1,t2,.pointer (some ⟨bA,0,none⟩),.pointer (some ⟨R,0,none⟩),t5,t6,t7,t8,t9,t10,t11,t12,t13,t14,t15,t16,t17,t18,t19,t20,t21,t22,t23,t24,t25,t26,t27,t28,t29,t30,t31,t32,t33,t34,t35,t36,t37,t38],defers:=[] } w1:=by
 subst hva
 have h1:1≤fu:=by omega
 have hro:Fence.wide.round=none:=rfl
 have h205:Fence.wide.fn 205:=trivial
 conv in cdD=>whnf
 gi_wp2_with (gi_at_call 205;refine (Tryz.back_in Fence.wide (fu-1) trivial hro _ _ _ _).mono ?_;rintro e w' ⟨rfl,rfl⟩)
 obtain ⟨tr,hrx⟩:=hrx
 generalize hB:w1.heap.size=B at *
 obtain ⟨W0,hW0⟩:∃W0,w1.alloc (Obj.cells #[Value.slice ao n ca] 44)=W0:=⟨_,rfl⟩
 rw [hW0]
 have hW0s:W0.heap.size=B+1:=by rw [←hW0,World.size_alloc,hB]
 have hB0:Below B w1 W0:=by rw [←hW0];exact Below.alloc (Below.refl _ _) (by omega) _
 have hbx0:W0.cell? ⟨B,0,none⟩=some (.slice ao n ca):=by
  have:W0.heap[B]? = some (Obj.cells #[Value.slice ao n ca] 44):=by have:=World.heap_new w1 (Obj.cells #[Value.slice ao n ca] 44);rw [hB]at this;rw [←hW0];exact this
  rw [Bg this];rfl
 refine wpIn_rangeFunc_ownG hro h1 (gf:=229) (lb:=#[.pointer (some ⟨B,0,none⟩)]) rfl trivial (enters_of Tryz.func229 (by kernel_rfl) rfl)
  (Tryz.back_stops Fence.wide (fu-1) trivial hro (by omega) B B ba oa n ca ao hao za hreach W0 (by omega) hba (by omega) hbx0 (fun j hj=>(hB0.cell (p:=⟨ba,oa+j,none⟩) hba).trans (hca j hj)))
  (fun h k=>h.trans k) (fun W l o o' hl ho h1 h2=>⟨belowK_b (by omega) W l o o' hl ho h1 h2,?hKb⟩) (Below.refl _ _) (fun _=>rfl)
  (fun pre W=>AllEq za zb pre∧Below B w1 W∧B+1≤W.heap.size)
  (fun c pre W=>c=.ret∧∃z:Int,TopNe za zb pre z∧Laid B R w1 z W)
  ?hI ?hIx
  ⟨fun x hx=>(by cases hx),hB0,by omega⟩
  (fun x=>{ tmps:=#[.slice ao n ca,t1,t2,.pointer (some ⟨bA,0,none⟩),.pointer (some ⟨R,0,none⟩),.int .i64 (x.1:Int),.int .u32 (za x.1:Int),t7,t8,t9,t10,t11,t12,t13,t14,t15,t16,t17,t18,t19,t20,.slice ao n ca,.func (.func 229) #[] #[.pointer (some ⟨B,0,none⟩)],.int .i64 (x.1:Int),.int .u32 (za x.1:Int),t25,t26,t27,t28,t29,t30,t31,t32,t33,t34,t35,t36,t37,t38],defers:=[] }) ?assign ?body ?done ?stop
 case hKb=>
  have hcB:∀(U V:World),V.heap[B]? = U.heap[B]? → V.cell? ⟨B,0,none⟩=U.cell? ⟨B,0,none⟩:=fun U V h=>World.cell?_of_block h
  exact hcB _ _ (World.putObj_heap_other (by omega))
 case hI=>
  exact OwnFrom.and (fun _ _ _ _ h _ _=>h) (OwnFrom.and (ownFrom_below (by omega) (by omega)) (fun _ _ _ _ h hg _=>YJ h hg.size))
 case hIx=>
  rintro c pre W W' row ⟨h1,z,h2,h3,h4⟩ hg hr
  refine ⟨h1,z,h2,?_,YJ h4 hg.size⟩
  exact ownFrom_below (β:=List (Fin n)) (B:=W0.heap.size) (by rw [Fj];omega) (by omega) pre W W' row h3 hg hr
 case assign=>
  intro l x W K hK
  gi_wp2
  exact hK
 case body=>
  rintro l pre x W ⟨hE,hBw,h5⟩ _
  have hx:=x.2
  have hbo':=hbo (by omega)
  subst hbo'
  have hbx':=(hBw.cell (p:=⟨bA,0,none⟩) hA).trans hbx
  have hcb':=(hBw.cell (p:=⟨bb,ob+x.1,none⟩) hbb).trans (hcb x.1 hx)
  have hR':=(hBw.block R hR).trans hrx
  have hRf:W.frozen? ⟨R,0,none⟩=false:=by simp [World.frozen?,hR']
  have hRc:W.cell? ⟨R,0,none⟩=some (.int .i64 0):=by rw [Bg hR'];rfl
  by_cases hlt:za x.1<zb x.1
  ·have hlt':(za x.1:Int)<(zb x.1:Int):=by omega
   have hlaid:∀z:Int,z = -1→TopNe za zb (pre++[x]) z∧Laid B R w1 z (W.setCell ⟨R,0,none⟩ (.int .i64 z)):=fun z hz=>
    ⟨⟨x,by omega,by simpa using hE,by simp,by rw [if_pos hlt];exact hz⟩,laid_of hBw hR hrx h5⟩
   have hl:=hlaid (-1) rfl
   generalize hT:TopNe za zb (pre++[x]) (-1)=T at hl
   clear hlaid
   gi_wp2
   exact ⟨XN (by omega),rfl,-1,by rw [hT];exact hl.1,hl.2⟩
  ·by_cases hgt:zb x.1<za x.1
   ·have hlt':¬(za x.1:Int)<(zb x.1:Int):=by omega
    have hgt':(zb x.1:Int)<(za x.1:Int):=by omega
    have hlaid:∀z:Int,z=1→TopNe za zb (pre++[x]) z∧Laid B R w1 z (W.setCell ⟨R,0,none⟩ (.int .i64 z)):=fun z hz=>
     ⟨⟨x,by omega,by simpa using hE,by simp,by rw [if_neg hlt];exact hz⟩,laid_of hBw hR hrx h5⟩
    have hl:=hlaid 1 rfl
    generalize hT:TopNe za zb (pre++[x]) 1=T at hl
    clear hlaid
    gi_wp2
    exact ⟨XN (by omega),rfl,1,by rw [hT];exact hl.1,hl.2⟩
   ·have hlt':¬(za x.1:Int)<(zb x.1:Int):=by omega
    have hgt':¬(zb x.1:Int)<(za x.1:Int):=by omega
    have hE2:AllEq za zb (pre++[x]):=fun y hy=>by
     rcases YN.1 hy with h | h
     ·exact hE y h
     ·rw [YI.1 h];omega
    gi_wp2
    exact ⟨KeepsFrom.refl _ _,⟨Below.refl _ _,rfl⟩,hE2,hBw,h5⟩
 case done=>
  rintro D ys W hD rfl ⟨hE,hBw,h5⟩ hK
  have hR':=(hBw.block R hR).trans hrx
  have hRf:W.frozen? ⟨R,0,none⟩=false:=by simp [World.frozen?,hR']
  have hRc:W.cell? ⟨R,0,none⟩=some (.int .i64 0):=by rw [Bg hR'];rfl
  have hgood:GoodC n za zb 0:=.inl ⟨rfl,fun j hj=>hE ⟨j,hj⟩ (SZ n ⟨j,hj⟩ (Yz _) (by omega))⟩
  have hl:Laid B R w1 0 (W.setCell ⟨R,0,none⟩ (.int .i64 0)):=laid_of hBw hR hrx h5
  gi_wp2
  refine cmp_end hR hB hrx hl (by omega) ?_ rfl (fun W h=>hRr 0 W hgood h)
  rw [Hy (by omega)];exact hK
 case stop=>
  rintro D c pre W hD ⟨k,hk,hpre⟩ ⟨rfl,z,⟨x,x1,x2,x3,x4⟩,hl⟩ hK
  subst hpre
  rw [QF hk]at x2 x3
  simp only [List.dropLast_concat,List.getLast?_concat,Y3]at x2 x3
  subst x3
  have hgood:GoodC n za zb z:=.inr ⟨n-1-k,by omega,x1,fun j h1 h2=>x2 ⟨j,h2⟩ (SZ k ⟨j,h2⟩ (by omega) (by dsimp only;omega)),x4⟩
  gi_wp2
  exact cmp_end hR hB hrx hl (by omega) hK rfl (fun W h=>hRr z W hgood h)
open Go.RowKit Go.Proofs
set_option maxRecDepth 100000
def Sb (tm:List Ab) (H:Aa):Out:=some (.ret (.tup tm),H)
def TF (tm:List Ab) (H:Aa):Out:=some (.ret (.agg tm),H)
theorem rec_n {x:AExit} {tm tm':List Ab} {H H':Aa} (h:kK Sb TF x tm H=some (.ret (.tup tm'),H')):x=.normal∧tm=tm'∧H=H':=by
 cases x with
 | normal=>simp only [kK,Sb,Y3,YK,Res.ret.injEq,Ab.tup.injEq]at h;exact ⟨rfl,h⟩
 | ret=>simp [kK,TF]at h
 | pan v=>simp [kK]at h
 | exit i=>simp [kK]at h
theorem rec_r {x:AExit} {tm tm':List Ab} {H H':Aa} (h:kK Sb TF x tm H=some (.ret (.agg tm'),H')):x=.ret∧tm=tm'∧H=H':=by
 cases x with
 | normal=>simp [kK,Sb]at h
 | ret=>simp only [kK,TF,Y3,YK,Res.ret.injEq,Ab.agg.injEq]at h;exact ⟨rfl,h⟩
 | pan v=>simp [kK]at h
 | exit i=>simp [kK]at h
theorem sl_view {E:Env} {H:Aa} {w:World} (hs:Sim E H w) {L:List Nat} {tk:Tok} {v:Value} (h:Az E (.sl (enL cU L) tk) v) (hw:0<w.heap.size) :
  ∃(ao:Option Addr) (b o cap:Nat),v=.slice ao L.length cap∧(0<L.length→ao=some ⟨b,o,none⟩)∧b<w.heap.size∧∀j,j<L.length→w.cell? ⟨b,o+j,none⟩=some (.int .u32 ((L[j]?.getD 0:Nat):Int)):=by
 have hge:∀j (hj:j<L.length),(enL cU L)[j]? = some (cU L[j]):=fun j hj=>by simp [enL,hj]
 have hle:(enL cU L).length=L.length:=by simp [enL]
 generalize hes:enL cU L=es at *
 cases h with
 | @sl0 _ a cap ht ha=>
  have:L.length=0:=by simpa using hle.symm
  exact ⟨a,0,0,cap,by rw [this],fun h=>by omega,hw,fun j hj=>by omega⟩
 | @sl _ _ b o s cap f hlen hI hmm hvv hcc htt=>
  by_cases hpos:0<L.length
  ·have hs1:s=1:=by
    have:=hlen 0 _ (hge 0 hpos)
    simpa using this.symm
   subst hs1
   refine ⟨_,b,o,cap,by rw [hle],fun _=>rfl,hs.imm_lt (hI 0 0 (by omega) (by omega)),fun j hj=>?_⟩
   have h1:=hs.imm _ _ _ (hI j 0 (by omega) (by omega))
   have h2:=hvv j _ 0 _ (hge j hj) rfl
   rw [Ub h2]at h1
   rw [Yu hj]
   simpa using h1
  ·exact ⟨_,0,o,cap,by rw [hle],fun h=>absurd h hpos,hw,fun j hj=>by omega⟩
theorem Xl {l:List Nat} {i:Nat} (h:i<l.length):val l=val (l.take i)+4294967296^i*(l[i]+4294967296*val (l.drop (i+1))):=by
 have e:l=l.take i++(l[i]::l.drop (i+1)):=by rw [←YS h,Zk]
 conv=>lhs;rw [e]
 rw [Ci,YC,Zr (by omega)]
 rfl
theorem ar_lt {a b P W x y d:Nat} (ha:a<P) (hxy:x<y):a+P*(x+W*d)<b+P*(y+W*d):=by
 have h1:P*(x+W*d)+P≤P*(y+W*d):=by
  rw [←Nat.mul_succ]
  exact Qa0 _ (by omega)
 omega
theorem topV_lt {l m:List Nat} (hl:Lim l) (he:l.length=m.length) {i:Nat} (h:i<l.length) (h':i<m.length) (hd:l.drop (i+1)=m.drop (i+1)) (hlt:l[i]<m[i]):val l<val m:=by
 have h1:=Gn (l:=l.take i) fun y hy=>hl y (Z1 hy)
 rw [YC,Zr (by omega)]at h1
 rw [Xl h,Xl h',hd]
 exact ar_lt h1 hlt
theorem good_val {A B:Nat} (hlen:(A4 A).length=(A4 B).length) {z:Int} (h:GoodC (A4 A).length (fun j=>(A4 A)[j]?.getD 0) (fun j=>(A4 B)[j]?.getD 0) z):z=if A<B then -1 else if A=B then 0 else 1:=by
 rcases h with ⟨rfl,h⟩ | ⟨i,hi,hne,hab,rfl⟩
 ·have:A4 A=A4 B:=by
   apply List.ext_getElem hlen
   intro j h1 h2
   have:=h j h1
   dsimp only at this
   rw [Yu h1,Yu h2]at this
   exact this
  have e:A=B:=by rw [←Bx A,←Bx B,this]
  rw [if_neg (by omega),if_pos e]
 ·have hi2:i<(A4 B).length:=by omega
  have g1:(A4 A)[i]?.getD 0=(A4 A)[i]:=by rw [Yu hi];rfl
  have g2:(A4 B)[i]?.getD 0=(A4 B)[i]:=by rw [Yu hi2];rfl
  have hd:(A4 A).drop (i+1)=(A4 B).drop (i+1):=by
   apply List.ext_getElem (by simp [hlen])
   intro j h1 h2
   rw [YG]at h1 h2
   have:=hab (i+1+j) (by omega) (by omega)
   dsimp only at this
   rw [Yu (by omega),Yu (by omega)]at this
   rw [Qac,Qac]
   exact this
  dsimp only at hne ⊢
  rw [g1,g2]at hne
  have e:((A4 A)[i]?.getD 0<(A4 B)[i]?.getD 0)↔(A4 A)[i]<(A4 B)[i]:=by rw [g1,g2]
  by_cases hlt:(A4 A)[i]<(A4 B)[i]
  ·have:=topV_lt (Bp A) hlen hi hi2 hd hlt
   rw [Bx,Bx]at this
   rw [if_pos (e.2 hlt),if_pos this]
  ·have:=topV_lt (Bp B) hlen.symm hi2 hi hd.symm (by omega)
   rw [Bx,Bx]at this
   rw [if_neg (fun h=>hlt (e.1 h)),if_neg (by omega),if_neg (by omega)]
theorem len_val {A B:Nat} (hne:¬(A4 A).length=(A4 B).length):(if (A4 A).length<(A4 B).length then (-1:Int)else 1)=if A<B then -1 else if A=B then 0 else 1:=by
 by_cases h:(A4 A).length<(A4 B).length
 ·have:A<B:=by
   rcases Zf A B with q | q
   ·exact q
   ·have:=OY q;omega
  rw [if_pos h,if_pos this]
 ·have:B<A:=by
   rcases Zf B A with q | q
   ·exact q
   ·have:=OY q;omega
  rw [if_neg h,if_neg (by omega),if_neg (by omega)]
theorem one_of {E:Env} {x:Ab} {vs:Array Value} (h:AA E [x] vs.toList):∃v,vs = #[v]∧Az E x v:=args1 h
theorem Br {α:Type} {n:Nat} {l:List α} (h:l.length=n+1):∃x r,l=x::r∧r.length=n:=by
 cases l with
 | nil=>cases h
 | cons x r=>exact ⟨x,r,rfl,by simpa using h⟩
theorem lit39 (ts:Array Value) (h:ts.toList.length=39):∃t0 t1 t2 t3 t4 t5 t6 t7 t8 t9 t10 t11 t12 t13 t14 t15 t16 t17 t18 t19 t20 t21 t22 t23 t24 t25 t26 t27 t28 t29 t30 t31 t32 t33 t34 t35 t36 t37 t38:Value,ts = #[t0,t1,t2,t3,t4,t5,t6,t7,t8,t9,t10,t11,t12,t13,t14,t15,t16,t17,t18,t19,t20,t21,t22,t23,t24,t25,t26,t27,t28,t29,t30,t31,t32,t33,t34,t35,t36,t37,t38]:=by
 obtain ⟨l⟩:=ts
 dsimp only at h
 obtain ⟨t0,l0,rfl,h0⟩:=Br h
 obtain ⟨t1,l1,rfl,h1⟩:=Br h0
 obtain ⟨t2,l2,rfl,h2⟩:=Br h1
 obtain ⟨t3,l3,rfl,h3⟩:=Br h2
 obtain ⟨t4,l4,rfl,h4⟩:=Br h3
 obtain ⟨t5,l5,rfl,h5⟩:=Br h4
 obtain ⟨t6,l6,rfl,h6⟩:=Br h5
 obtain ⟨t7,l7,rfl,h7⟩:=Br h6
 obtain ⟨t8,l8,rfl,h8⟩:=Br h7
 obtain ⟨t9,l9,rfl,h9⟩:=Br h8
 obtain ⟨t10,l10,rfl,h10⟩:=Br h9
 obtain ⟨t11,l11,rfl,h11⟩:=Br h10
 obtain ⟨t12,l12,rfl,h12⟩:=Br h11
 obtain ⟨t13,l13,rfl,h13⟩:=Br h12
 obtain ⟨t14,l14,rfl,h14⟩:=Br h13
 obtain ⟨t15,l15,rfl,h15⟩:=Br h14
 obtain ⟨t16,l16,rfl,h16⟩:=Br h15
 obtain ⟨t17,l17,rfl,h17⟩:=Br h16
 obtain ⟨t18,l18,rfl,h18⟩:=Br h17
 obtain ⟨t19,l19,rfl,h19⟩:=Br h18
 obtain ⟨t20,l20,rfl,h20⟩:=Br h19
 obtain ⟨t21,l21,rfl,h21⟩:=Br h20
 obtain ⟨t22,l22,rfl,h22⟩:=Br h21
 obtain ⟨t23,l23,rfl,h23⟩:=Br h22
 obtain ⟨t24,l24,rfl,h24⟩:=Br h23
 obtain ⟨t25,l25,rfl,h25⟩:=Br h24
 obtain ⟨t26,l26,rfl,h26⟩:=Br h25
 obtain ⟨t27,l27,rfl,h27⟩:=Br h26
 obtain ⟨t28,l28,rfl,h28⟩:=Br h27
 obtain ⟨t29,l29,rfl,h29⟩:=Br h28
 obtain ⟨t30,l30,rfl,h30⟩:=Br h29
 obtain ⟨t31,l31,rfl,h31⟩:=Br h30
 obtain ⟨t32,l32,rfl,h32⟩:=Br h31
 obtain ⟨t33,l33,rfl,h33⟩:=Br h32
 obtain ⟨t34,l34,rfl,h34⟩:=Br h33
 obtain ⟨t35,l35,rfl,h35⟩:=Br h34
 obtain ⟨t36,l36,rfl,h36⟩:=Br h35
 obtain ⟨t37,l37,rfl,h37⟩:=Br h36
 obtain ⟨t38,l38,rfl,h38⟩:=Br h37
 obtain rfl:=YE h38
 exact ⟨t0,t1,t2,t3,t4,t5,t6,t7,t8,t9,t10,t11,t12,t13,t14,t15,t16,t17,t18,t19,t20,t21,t22,t23,t24,t25,t26,t27,t28,t29,t30,t31,t32,t33,t34,t35,t36,t37,t38,rfl⟩
theorem frel0 {E:Env} {H:Aa} {w:World} {args:List Ab} {vs:Array Value} {n:Nat} (hs:Sim E H w) (hv:AA E args vs.toList) (hn:args.length≤n):Ia n E H (args++List.replicate (n-args.length) .undef) { tmps:=vs++Array.replicate (n-vs.size) undef,defers:=[] } w:=by
 have hlen:args.length=vs.size:=by simpa using hv.1
 refine ⟨?_,by simp;omega,rfl,hs⟩
 rw [ZW]
 refine hv.append ⟨by simp [hlen],fun i c v h1 h2=>?_⟩
 rw [Qao]at h1
 split at h1
 ·simp at h1;subst h1;exact .undef _
 ·cases h1
def Rf:List Bool→List Ab→List Ab
 | true::m,x::xs=>x::Rf m xs
 | _::m,_::xs=>.undef::Rf m xs
 | [],xs=>xs
 | _,[]=>[]
theorem Sm:∀(m:List Bool) (xs:List Ab),(Rf m xs).length=xs.length
 | [],[]=>rfl
 | [],_::_=>rfl
 | _::_,[]=>by simp [Rf]
 | true::m,x::xs=>by simp [Rf,Sm m xs]
 | false::m,x::xs=>by simp [Rf,Sm m xs]
theorem Sa {E:Env}:∀(m:List Bool) (xs:List Ab) (vs:List Value),AA E xs vs→AA E (Rf m xs) vs
 | [],[],_,h=>h
 | [],_::_,_,h=>h
 | _::_,[],_,h=>by simpa [Rf]using h
 | b::m,x::xs,[],h=>absurd h.1 (by simp)
 | true::m,x::xs,v::vs,h=>AA.cons h.head (Sa m xs vs h.tail)
 | false::m,x::xs,v::vs,h=>AA.cons (.undef _) (Sa m xs vs h.tail)
theorem frel_mask {n:Nat} {E:Env} {H:Aa} {tm:List Ab} {a:Act} {w:World} (m:List Bool) (h:Ia n E H tm a w):Ia n E H (Rf m tm) a w:=
 ⟨Sa m tm _ h.rel,by rw [Sm];exact h.len,h.defers,h.sim⟩
theorem setCells_one (w:World) (R:Nat) (v:Value):w.setCells R 0 [v]=w.setCell ⟨R,0,none⟩ v:=rfl
theorem J0:AG Tryz.prog Gs 156 (ap2 Sh.fn):=by
 intro args H res H' h
 unfold ap2 at h
 split at h
 ·rename_i a b
  unfold Sh.fn at h
  split at h
  ·rename_i es ta fs tb
   split at h
   ·rename_i hex
    have hsp:=hex.choose_spec
    generalize hp:hex.choose=p at hsp h
    obtain ⟨la,lb⟩:=p
    dsimp only at hsp h
    obtain ⟨rfl,rfl,xa,xb,ha,hb⟩:=hsp
    simp only [Y3,YK]at h
    obtain ⟨rfl,rfl⟩:=h
    intro E w vs hG hs hv
    obtain ⟨va,vb,rfl,k1,k2⟩:=args2 hv
    have hlA:(A4 (val la)).length≤1099511627776:=YJ (ES (Gn xa)) ha
    have hlB:(A4 (val lb)).length≤1099511627776:=YJ (ES (Gn xb)) hb
    refine .inl ⟨Fu Tryz.func156 (by kernel_rfl) (by kernel_rfl) _ w,?_⟩
    refine callsIn_wide.1 (callsIn_of_wp_marks (n:=3) Tryz.func156 body_156 trivial ?_ rfl)
    have hC:Qi WX:=mk_ok (Ag DB (Ar _ _))
    have hD:DrawOk WX:=draw_ok hC mixed
    have hfr:Ia 39 E H [.sl (enL cU la) ta,.sl (enL cU lb) tb,.undef,.undef,.undef,.undef,.undef,.undef,.undef,.undef,.undef,.undef,.undef,.undef,.undef,.undef,.undef,.undef,.undef,.undef,.undef,.undef,.undef,.undef,.undef,.undef,.undef,.undef,.undef,.undef,.undef,.undef,.undef,.undef,.undef,.undef,.undef,.undef,.undef] { tmps:=#[va,vb]++Array.replicate (39 - #[va,vb].size) undef,defers:=[] } w:=frel0 hs hv (by simp)
    rw [Tryz.ntmps156]
    obtain ⟨HB,hHB⟩:∃HB:Aa,HB=H++[.cel 0 [.sl (enL cU (A4 (val lb))) .no]]++[.cel 0 [.int .i64 0]]:=⟨_,rfl⟩
    have hAev:=cmA_eq Sb TF (.sl (enL cU la) ta) (.sl (enL cU lb) tb) H
    rw [cmA_res,←ev_eq]at hAev
    refine wpIn_seq (wpIn_mono (wpIn_wide.2 (Wb hC hD cdA _ (kK Sb TF) E _ H _ w hG (BL.refl E H w) hfr hAev)) ?_)
    rintro e1 a1 w1 ⟨E1,H1,tm1,x1,hG1,st1,hf1,hx1,hk1⟩
    obtain ⟨rfl,rfl,rfl⟩:=rec_n hk1
    cases e1 <;> first | exact hx1.elim | skip
    have hBev:=cmB_eq Sb TF (.sl (enL cU la) ta) (.sl (enL cU lb) tb) (.ptr H.length 0 0) (.ptr (H.length+1) 0 0) (H++[.cel 0 [.sl (enL cU lb) tb]]++[.cel 0 [.int .i64 0]])
    rw [cmB_res Sb ta tb H xa xb ha hb,←ev_eq]at hBev
    refine wpIn_seq (wpIn_mono (wpIn_wide.2 (Wb hC hD cdB _ (kK Sb TF) E1 _ _ a1 w1 hG1 st1 hf1 hBev)) ?_)
    rintro e2 a2 w2 ⟨E2,H2,tm2,x2,hG2,st2,hf2,hx2,hk2⟩
    obtain ⟨rfl,rfl,rfl⟩:=rec_n hk2
    cases e2 <;> first | exact hx2.elim | skip
    have hf2':Ia 39 E2 HB [.sl (enL cU (A4 (val la))) .no,.undef,.undef,.ptr H.length 0 0,.ptr (H.length+1) 0 0,.undef,.undef,.undef,.undef,.undef,.undef,.undef,.undef,.undef,.undef,.undef,.undef,.undef,.undef,.undef,.undef,.undef,.undef,.undef,.undef,.undef,.undef,.undef,.undef,.undef,.undef,.undef,.undef,.undef,.undef,.undef,.undef,.undef,.undef] a2 w2:=hHB ▸ frel_mask [true,false,false,true,true,false,false,false,false,false,false,false,false,false,false,false,false,false,false,false,false,false,false,false,false,false,false,false,false,false,false,false,false,false,false,false,false,false,false] hf2
    have hCev:=cmC_eq Sb TF (.sl (enL cU (A4 (val la))) .no) (.ptr H.length 0 0) (.ptr (H.length+1) 0 0) HB
    obtain ⟨tm3,hl3,g0,g3,g4,hres⟩:=cmC_res Sb TF (val la) (val lb) .no .no H hlA hlB
    have fin2:∀(z:Int) (HX:Aa) (E3:Env) (W:World),HX=H++[.cel 0 [.sl (enL cU (A4 (val lb))) .no]]++[.cel 0 [.int .i64 z]]→Sim E3 HX W→BL E H w E3 HX W→∃E',IL E' (.ret (.int .i64 z)) (.returned (.int .i64 z))∧Sim E' H W∧BL E H w E' H W:=by
     intro z HX E3 W hHX hsim hst
     have hfin:fin .pure H (.ret (.int .i64 z)) HX=some (.ret (.int .i64 z),H):=by
      have:rP H (.int .i64 z) HX=some (.ret (.int .i64 z),H):=by rw [hHX,Y1];exact I6
      exact this
     obtain ⟨E',q1,q2,q3⟩:=fin_ok (r:=.ret (.int .i64 z)) (e:=.returned (.int .i64 z)) hs hst hsim (show IL E3 _ _ from Az.int _ _) hfin
     exact ⟨E',q1,q2,q3⟩
    rw [←hHB]at hres
    rw [hres,←ev_eq]at hCev
    by_cases hlen:(A4 (val la)).length=(A4 (val lb)).length
    ·rw [if_pos hlen]at hCev
     refine wpIn_seq (wpIn_mono (wpIn_wide.2 (Wb hC hD cdC _ (kK Sb TF) E2 _ HB a2 w2 hG2 (hHB ▸ st2) hf2' hCev)) ?_)
     rintro e3 a3 w3 ⟨E3,H3,tm4,x3,hG3,st3,hf3,hx3,hk3⟩
     obtain ⟨rfl,rfl,hHH⟩:=rec_n hk3
     rw [hHH]at hf3 st3
     cases e3 <;> first | exact hx3.elim | skip
     have hl39:a3.tmps.toList.length=39:=by rw [←hf3.rel.1];exact hf3.len
     obtain ⟨ts,ds⟩:=a3
     obtain ⟨t0,t1,t2,t3,t4,t5,t6,t7,t8,t9,t10,t11,t12,t13,t14,t15,t16,t17,t18,t19,t20,t21,t22,t23,t24,t25,t26,t27,t28,t29,t30,t31,t32,t33,t34,t35,t36,t37,t38,hts⟩:=lit39 ts hl39
     have hds:ds=[]:=hf3.defers
     subst hds
     subst hts
     obtain ⟨u0,p0,r0⟩:=hf3.rel.get g0
     obtain ⟨u3,p3,r3⟩:=hf3.rel.get g3
     obtain ⟨u4,p4,r4⟩:=hf3.rel.get g4
     obtain rfl:t0=u0:=by simpa using p0
     obtain rfl:t3=u3:=by simpa using p3
     obtain rfl:t4=u4:=by simpa using p4
     have hsim:=hf3.sim
     obtain ⟨bA,f3,rfl⟩:=r3.ptr_inv
     obtain ⟨R,f4,rfl⟩:=r4.ptr_inv
     have e1:HB[H.length]? = some (.cel 0 [.sl (enL cU (A4 (val lb))) .no]):=by rw [hHB];simp
     have e2:HB[H.length+1]? = some (.cel 0 [.int .i64 0]):=by rw [hHB];simp
     obtain ⟨b0,c0,y0,q0,q1,q2,_⟩:=hsim.blk _ _ e1
     obtain ⟨b1,c1,y1,q4,q5,q6,_⟩:=hsim.blk _ _ e2
     rw [f3]at q0
     rw [f4]at q4
     cases q0
     cases q4
     obtain ⟨vb3,rfl,rb⟩:=one_of q2
     obtain ⟨vr3,rfl,rr⟩:=one_of q6
     have hvr:=Ub rr
     subst hvr
     have hw0:bA<w3.heap.size:=(Ze.1 q1).1
     have hwR:R<w3.heap.size:=(Ze.1 q5).1
     obtain ⟨ao,ba,oa,ca,rfl,hao,hba,hca⟩:=sl_view hsim r0 (by omega)
     obtain ⟨bo,bb,ob,cb,rfl,hbo,hbb,hcb⟩:=sl_view hsim rb (by omega)
     rw [←hlen]at hbo hcb q1
     refine cmp_tail (n:=(A4 (val la)).length) (Yz 3) bA R bb ob cb ba oa ca ao bo (fun j=>(A4 (val la))[j]?.getD 0) (fun j=>(A4 (val lb))[j]?.getD 0) hlA hao hbo hw0 hwR hba hbb (by rw [Bg q1];rfl) ⟨y1,q5⟩ hca hcb (fun z W hg hbel=>?_) _ rfl t1 t2 t5 t6 t7 t8 t9 t10 t11 t12 t13 t14 t15 t16 t17 t18 t19 t20 t21 t22 t23 t24 t25 t26 t27 t28 t29 t30 t31 t32 t33 t34 t35 t36 t37 t38
     have hz:=good_val hlen hg
     have hst:Af 1 (.ptr (H.length+1) 0 0) (.int .i64 z) HB=some (H++[.cel 0 [.sl (enL cU (A4 (val lb))) .no]]++[.cel 0 [.int .i64 z]]):=by
      rw [K9 e2 rfl (by simp),hHB]
      congr 1
      rw [YR _ _ (by simp)]
      simp
     obtain ⟨b',o',cs',tt',w1',w2',w3',w4',w5',w6',w7'⟩:=Nv hsim (.ptr f4) (.int .i64 z) hst
     injection w1' with w1'
     injection w1' with w1'
     injection w1' with w1a w1b
     subst w1a
     subst w1b
     have hce:(Value.int .i64 z).cells.toList=[Value.int .i64 z]:=rfl
     rw [hce,setCells_one]at w6' w7'
     have hext:=w6'.ext (.refl E3) (fun _ _ _ h=>h) (fun _ _ _ h=>h) (fun b hb=>hbel.block b (by rw [Fj]at hb;exact hb)) (fun _ _=>rfl) (fun b o v hv hb=>by have:=w6'.imm_lt hv;omega) hbel.os hbel.tape hbel.output hbel.size
     obtain ⟨E',k1',k2',k3'⟩:=fin2 z _ E3 W rfl hext.1 ((st3.trans w7').trans hext.2)
     refine ⟨E',?_,k2',k3'⟩
     rw [←hz]
     exact k1'
    ·rw [if_neg hlen]at hCev
     refine wpIn_seq (wpIn_mono (wpIn_wide.2 (Wb hC hD cdC _ (kK Sb TF) E2 _ HB a2 w2 hG2 (hHB ▸ st2) hf2' hCev)) ?_)
     rintro e3 a3 w3 ⟨E3,H3,tm4,x3,hG3,st3,hf3,hx3,hk3⟩
     obtain ⟨rfl,rfl,rfl⟩:=rec_r hk3
     cases e3 <;> first | exact hx3.elim | skip
     have hz:=len_val hlen
     have hra:FA WX Tryz.f156.results.toList tm4 (H++[.cel 0 [.sl (enL cU (A4 (val lb))) .no]]++[.cel 0 [.int .i64 (if (A4 (val la)).length<(A4 (val lb)).length then -1 else 1)]])=some (.int .i64 (if (A4 (val la)).length<(A4 (val lb)).length then -1 else 1)):=by
      have hrs:Tryz.f156.results.toList=[.cell 4 3]:=by kernel_rfl
      have hld:Ac false 1 (.ptr (H.length+1) 0 0) (H++[Blk.cel 0 [.sl (enL cU (A4 (val lb))) .no]]++[.cel 0 [.int .i64 (if (A4 (val la)).length<(A4 (val lb)).length then -1 else 1)]])=some (.int .i64 (if (A4 (val la)).length<(A4 (val lb)).length then -1 else 1)):=by
       simp only [Ac,AE (show (H++[Blk.cel 0 [.sl (enL cU (A4 (val lb))) .no]]++[Blk.cel 0 [.int .i64 (if (A4 (val la)).length<(A4 (val lb)).length then -1 else 1)]])[H.length+1]? = some (.cel 0 [.int .i64 (if (A4 (val la)).length<(A4 (val lb)).length then -1 else 1)])by simp),Option.bind_some]
       rfl
      rw [hrs]
      show Id WX tm4 _ (.cell 4 3)=_
      have hd4:tm4.getD 4 .undef=.ptr (H.length+1) 0 0:=by rw [Y0,g4];rfl
      have hok:okT WX.P 3=true:=by kernel_rfl
      have hagg:BB WX.P 3=false:=by kernel_rfl
      have hsz:Aq WX.P 3=1:=by kernel_rfl
      simp only [Id,hok,hagg,hsz,hd4,Zi,Y4,if_false]
      exact hld
     obtain ⟨v,r1,r2⟩:=UY (fn:=Tryz.f156) hf3 hra
     have hv3:=Ub r2
     subst hv3
     show LeavesInM _ _ _ _ _ _ a3.defers _ _
     rw [hf3.defers]
     show LeavesIn _ _ _ _ _ _ [] _ _
     refine ⟨_,r1,?_⟩
     obtain ⟨E',q1,q2,q3⟩:=fin2 _ _ E3 w3 rfl hf3.sim st3
     refine ⟨E',?_,q2,q3⟩
     rw [←hz]
     exact q1
   ·cases h
  ·cases h
 ·cases h
open Go.Proofs Go.RowKit Go.Shelf
theorem dig1 (x:Nat) (H:Aa):Sh.f5f (.int .i32 x) H=some (.ret (.bool (LJ x)),H):=by
 unfold Sh.f5f LJ
 by_cases h:x<48
 ·have h':(x:Int)<48:=by omega
  simp [h,h']
 ·have h':¬(x:Int)<48:=by omega
  by_cases h2:57<x
  ·have h2':(57:Int)<x:=by omega
   simp [h,h',h2,h2']
  ·have h2':¬(57:Int)<x:=by omega
   simp [h,h',h2,h2']
theorem Lk:AG Tryz.prog Gs 234 (ap2 Sh.f2k):=by
 intro args H res H' h
 unfold ap2 at h
 split at h
 ·unfold Sh.f2k at h
  split at h
  ·rename_i s
   cases h
   refine lib_ok Tryz.func234 (by kernel_rfl) fun E w vs hG hs hv=>?_
   obtain ⟨v,u,rfl,h1,h2⟩:=args2 hv
   rw [val_str h1]
   have hu:u=.func (.func 235) #[] #[]:=by
    cases h2 with
    | @fn _ _ vs' hn' hv'=>exact congrArg _ (Array.eq_empty_of_size_eq_zero hn'.symm)
   rw [hu]
   refine ⟨_,.int _ _,Tryz.strings_IndexFunc_grows 235 #[] (fun a w=>Fu Tryz.func235 (by kernel_rfl) (by kernel_rfl) a w) LJ ⟨s.toArray⟩ w fun W x hx hb=>?_⟩
   refine (fn_calls RD Tryz.func235 (by kernel_rfl) (fun _ _ h=>nomatch h) (Xr hs hb).1 (args:=[.int .i32 x]) (AA.cons (.int _ _) (AA.nil _)) (dig1 x [])).mono fun e w' ⟨⟨E',he⟩,hw⟩=>⟨?_,hw⟩
   cases e with
   | returned v=>rw [Az.bool_inv he]
   | panicked c=>exact he.elim
   | outgrown=>exact he.elim
  ·cases h
 ·cases h
theorem Ll:AG Tryz.prog Gs 177 (ap2 Sh.f2l):=by
 intro args H res H' h
 unfold ap2 at h
 split at h
 ·unfold Sh.f2l at h
  split at h
  ·rename_i s c
   cases h
   refine lib_ok Tryz.func177 (by kernel_rfl) fun E w vs hG hs hv=>?_
   obtain ⟨v,u,rfl,h1,h2⟩:=args2 hv
   rw [val_str h1,Ub h2]
   exact ⟨_,.int _ _,(Tryz.strings_IndexByte ⟨s.toArray⟩ c w).mono fun e w' ⟨he,hw⟩=>⟨by simpa using he,hw ▸ Below.refl _ _⟩⟩
  ·cases h
 ·cases h
end Go.Gm
namespace Go.Proofs
open Go.RowKit
set_option maxRecDepth 10000 in
theorem Tryz.catch_panicking6 (p:Addr) (c0 c1:Value) (older:List PanicEntry) (w:World) {wa w1:World} (hs0:Sem.run Tryz.prog (store p c0) w=.ok () wa) (hs1:Sem.run Tryz.prog (store { block:=p.block,off:=p.off+1 } c1) wa=.ok () w1) :
  CallsD Tryz.prog 78 #[.pointer (some p)] (.panicking ({ v:=.iface 70 (.agg #[c0,c1]),recovered:=false }::older)) w fun e u' w'=>
   e=.returned (.tuple #[])∧u'=.panicking ({ v:=.iface 70 (.agg #[c0,c1]),recovered:=true }::older)∧w'=w1:=by
 have hta:Sem.run Tryz.prog (Instr.typeAssert (.iface 70 (.agg #[c0,c1])) 20 70 false) w=.ok (.agg #[c0,c1]) w:=by
  kernel_rfl
 refine callsD_of_wpS Tryz.func78 rfl fun c₀ cs hu=>?_
 apply wpS_seq
 apply wpS_region
 simp [wpOpsS,go_sem,recoverD,hu,Tryz.ntmps78,Exit.thenS]
 apply wpS_seq
 apply wpS_region
 simp [wpOpsS,go_sem,Exit.thenS]
 refine wpS_cond (t:=true) (by simp [Act.eval,Array.replicate]) ?_
 simp only [if_true]
 apply wpS_region
 simp [wpOpsS,go_sem,bodyPostS,results,Tryz.results78,hta,hs0,hs1]
set_option maxRecDepth 10000 in
theorem Tryz.catch_idle6 (p:Addr) (w:World) :
  CallsD Tryz.prog 78 #[.pointer (some p)] .returning w fun e u' w'=>e=.returned (.tuple #[])∧u'=.returning∧w'=w:=by
 refine callsD_of_wpS Tryz.func78 rfl fun c₀ cs hu=>?_
 apply wpS_seq
 apply wpS_region
 simp [wpOpsS,go_sem,recoverD,hu,Tryz.ntmps78,Exit.thenS]
 apply wpS_seq
 apply wpS_region
 simp [wpOpsS,go_sem,Exit.thenS]
 refine wpS_cond (t:=false) (by simp [Act.eval,Array.replicate]) ?_
 simp only [Bool.false_eq_true,if_false]
 refine wpS_of_wp (wp_skip ?_)
 cases c₀
 simp_all [bodyPostS,results,Tryz.results78]
end Go.Proofs
namespace Go.Proofs
open Go.RowKit
theorem Tryz.box_cells6 {w:World} {b:Nat} {x0 x1:Value} {t:TypeId} (hbox:w.heap[b]? = some (.cells #[x0,x1] t (0,0))) (y0 y1:Value) :
  (w.setCell ⟨b,0,none⟩ y0).cell? ⟨b,1,none⟩=some x1∧(w.setCell ⟨b,0,none⟩ y0).frozen? ⟨b,1,none⟩=false ∧
   ((w.setCell ⟨b,0,none⟩ y0).setCell ⟨b,1,none⟩ y1).cell? ⟨b,0,none⟩=some y0∧((w.setCell ⟨b,0,none⟩ y0).setCell ⟨b,1,none⟩ y1).cell? ⟨b,1,none⟩=some y1:=by
 have sz:b<w.heap.size:=by
  rcases Nat.lt_or_ge b w.heap.size with h | h
  ·exact h
  ·rw [Array.getElem?_eq_none h]at hbox;cases hbox
 have hx:w.heap[b]=.cells #[x0,x1] t (0,0):=by
  rw [Array.getElem?_eq_getElem sz]at hbox;exact Option.some.inj hbox
 refine ⟨?_,?_,?_,?_⟩ <;> simp [World.cell?,World.frozen?,World.setCell,hx,sz,Array.getElem_modify]
set_option maxRecDepth 10000 in
set_option maxHeartbeats 1000000 in
theorem Tryz.caught_in6 (g:Nat) (caps:Array Value) (w:World) (eg:∀args w,(callFunc g args).run Tryz.prog w=.ok (.enter g args) w) {R:Ending→World→Prop}
  (hj:Calls Tryz.prog g caps (w.alloc (.cells #[.int .i64 0,.string ⟨#[]⟩] 70)) R)
  (hR:∀e w2,R e w2→(∃t c0 c1,w2.heap[w.heap.size]? = some (.cells #[c0,c1] t (0,0)))∧((∃v,e=.returned v)∨∃c0 c1,Value.oneCell' c0=true∧Value.oneCell' c1=true∧e=.panicked [{ v:=.iface 70 (.agg #[c0,c1]),recovered:=false }])) :
  Calls Tryz.prog 37 #[.func (.func g) caps #[]] w fun e w'=>∃e2 w2,R e2 w2∧∃c0 c1,e=.returned (.agg #[c0,c1])∧w'=(w2.setCell ⟨w.heap.size,0,none⟩ c0).setCell ⟨w.heap.size,1,none⟩ c1 ∧
   ((∃v,e2=.returned v∧c0=.int .i64 0∧c1=.string ⟨#[]⟩)∨e2=.panicked [{ v:=.iface 70 (.agg #[c0,c1]),recovered:=false }]):=by
 have hmf:∀(fn:Fn) (first cap:Array Value) (w:World),(Instr.makeFunc fn first cap).run Tryz.prog w=.ok (.func fn first cap) w:=fun _ _ _ _=>rfl
 go_enter_defers Tryz.func37,Tryz.ntmps37
 go_wp2
 refine hj.mono ?_
 rintro e w2 hr
 obtain ⟨⟨t,x0,x1,hbox⟩,h⟩:=hR _ _ hr
 have c0:w2.cell? ⟨w.heap.size,0,none⟩=some x0:=by simp [World.cell?,hbox]
 have c1:w2.cell? ⟨w.heap.size,1,none⟩=some x1:=by simp [World.cell?,hbox]
 have f0:w2.frozen? ⟨w.heap.size,0,none⟩=false:=by simp [World.frozen?,hbox]
 have f1:w2.frozen? ⟨w.heap.size,1,none⟩=false:=by simp [World.frozen?,hbox]
 have K:=fun y0 y1=>Tryz.box_cells6 (w:=w2) hbox y0 y1
 rcases h with ⟨v,rfl⟩ | ⟨y0,y1,o0,o1,rfl⟩
 ·obtain ⟨k1,k2,k3,k4⟩:=K (.int .i64 0) (.string ⟨#[]⟩)
  go_wp2
  refine leaves_cons (f:=78) (args:=#[.pointer (some ⟨w.heap.size,0,none⟩)]) (by simp) (by simp [go_sem]) ?_
  refine (Tryz.catch_idle6 ⟨w.heap.size,0,none⟩ _).mono ?_
  rintro e u' w'' ⟨rfl,rfl,rfl⟩
  simp [Leaves,settle,results,Tryz.results37,go_sem,k3,k4]
  exact ⟨_,_,hr,_,_,⟨rfl,rfl⟩,rfl,Or.inl ⟨⟨_,rfl⟩,rfl,rfl⟩⟩
 ·obtain ⟨k1,k2,k3,k4⟩:=K y0 y1
  refine leaves_cons (f:=78) (args:=#[.pointer (some ⟨w.heap.size,0,none⟩)]) (by simp) (by simp [go_sem]) ?_
  refine (Tryz.catch_panicking6 ⟨w.heap.size,0,none⟩ y0 y1 [] _ (wa:=w2.setCell ⟨w.heap.size,0,none⟩ y0) (w1:=(w2.setCell ⟨w.heap.size,0,none⟩ y0).setCell ⟨w.heap.size,1,none⟩ y1) ?_ ?_).mono ?_
  ·rw [run_store _ _ _ _ _ o0];simp [c0,f0]
  ·rw [run_store _ _ _ _ _ o1];simp [k1,k2]
  rintro e u' w'' ⟨rfl,rfl,rfl⟩
  simp [Leaves,settle,results,Tryz.results37,go_sem,k3,k4]
  exact ⟨_,_,hr,_,_,⟨rfl,rfl⟩,rfl,Or.inr rfl⟩
end Go.Proofs
namespace Go.Gm
open Go.Proofs Go.RowKit
theorem Sim.aside6 {E:Env} {H:Aa} {w w':World} (hs:Sim E H w) {b:Nat} (h1:¬OH E H b) (h2:∀o,E.I b o=none) (hh:∀x,x≠b→w'.heap[x]? = w.heap[x]?):Sim E H w':=by
 have ne:∀id b',loc E H id=some b'→b'≠b:=fun id b' hl e=>h1 ⟨id,e ▸ hl⟩
 constructor
 ·intro id B hB
  refine ((hs.blk id B hB).keep (.refl E) (fun b' hl=>hh b' (ne id b' ?_)) (fun _ _=>rfl)).1
  unfold loc;rw [hB];exact hl
 ·exact hs.dom
 ·exact hs.domk
 ·exact hs.late
 ·exact hs.inj
 ·intro b' o v hv
  have hne:b'≠b:=fun e=>by rw [e,h2 o]at hv;cases hv
  have:=hs.imm b' o v hv
  simp only [World.cell?]at this ⊢
  rw [hh b' hne];exact this
 ·intro b' cs hf
  obtain ⟨⟨t,fr,k1⟩,⟨v,k2⟩,k3⟩:=hs.fix b' cs hf
  have hne:b'≠b:=fun e=>by rw [e,h2 0]at k2;cases k2
  exact ⟨⟨t,fr,by rw [hh b' hne];exact k1⟩,⟨v,k2⟩,k3⟩
theorem Xg {orc:Orc} (ho:Kq Tryz.prog Gs orc):AG Tryz.prog Gs 37 (ap1 (RA orc)):=by
 intro args H res H' h
 unfold ap1 at h
 split at h
 case h_2=>cases h
 rename_i job
 unfold RA at h
 split at h
 case h_2=>cases h
 rename_i caps
 cases hr:orc 38 caps H with
 | none=>rw [hr]at h;cases h
 | some r=>
  obtain ⟨r,H1⟩:=r
  rw [hr]at h
  cases hc:U4 r with
  | none=>simp [hc]at h
  | some x=>
   have hx:Res.ret x=res∧H1=H':=by simpa [hc]using h
   obtain ⟨rfl,rfl⟩:=hx
   intro E w vs hG hs hv
   obtain ⟨v,rfl,h1⟩:=args1 hv
   cases h1 with
   | bfn hn hcv=>
    rename_i cv
    obtain ⟨s1,st1⟩:=hs.laid (.cells #[.int .i64 0,.string ⟨#[]⟩] 70)
    have hcs:AA E caps cv.toList:=⟨by simpa using hn,fun i c u hi hu=>hcv i c u hi (by simpa using hu)⟩
    obtain ⟨b1,b2,b3⟩:=FH (show fnB 0 Tryz.f38=true by kernel_rfl)
    obtain ⟨d1,d2,d3⟩:=FH (show fnB 0 Tryz.f37=true by kernel_rfl)
    have f38:Tryz.prog.funcs[38]? = some Tryz.f38:=Tryz.func38
    have f37:Tryz.prog.funcs[37]? = some Tryz.f37:=Tryz.func37
    have nb:¬OH E H w.heap.size:=hs.free_new
    have lt:w.heap.size<(w.alloc (.cells #[.int .i64 0,.string ⟨#[]⟩] 70)).heap.size:=by simp [World.alloc,-World.alloc_eq]
    rcases ho 38 caps H r H1 hr E _ cv hG s1 hcs with ⟨_,hj⟩ | ⟨v,w',h1,_⟩
    ·refine .inl ⟨Fu f37 d1 d2 _ w,?_⟩
     have hj':=Tryz.caught_in6 38 cv w (fun a w=>Fu f38 b1 b2 a w) hj ?_
     ·refine hj'.mono ?_
      rintro e w' ⟨e2,w2,⟨E',k1,k2,k3⟩,c0,c1,rfl,rfl,hcase⟩
      have no:¬OH E' H1 w.heap.size:=fun ho=>(k3.own _ ho).elim nb (fun h=>by omega)
      have ni:∀o,E'.I w.heap.size o=none:=fun o=>by rw [k3.imm _ o lt nb];exact hs.imm_new o
      have hh:∀b,b≠w.heap.size→((w2.setCell ⟨w.heap.size,0,none⟩ c0).setCell ⟨w.heap.size,1,none⟩ c1).heap[b]? = w2.heap[b]? := fun b hb=>by
       simp [World.setCell,ZM,Ne.symm hb]
      have st2:=st1.trans k3
      refine ⟨E',?_,k2.aside6 no ni hh,st2.le,st2.os,st2.tape,st2.output,?_,fun b hb ho=>?_,st2.own,st2.imm⟩
      ·rcases hcase with ⟨v,rfl,rfl,rfl⟩ | rfl
       ·cases r with
        | ret y=>cases hc;exact Az.agg rfl (by intro i c v hi hv;match i with
          | 0=>simp at hi hv;subst hi;subst hv;exact .int _ _
          | 1=>simp at hi hv;subst hi;subst hv;exact .str []
          | _+2=>simp at hi)
        | pan y=>exact absurd k1 id
       ·cases r with
        | ret y=>exact absurd k1 id
        | pan y=>
         obtain ⟨v,hv1,hv2⟩:=k1
         cases hv1
         unfold U4 at hc
         split at hc
         ·rename_i heq;cases heq
         ·rename_i heq;cases heq;cases hc;cases hv2 with
          | iface h=>exact h
         ·cases hc
      ·simpa [World.setCell]using st2.size
      ·rw [hh b (by omega)];exact st2.frame b hb ho
     ·rintro e w2 ⟨E',k1,k2,k3⟩
      refine ⟨⟨70,_,_,by rw [k3.frame _ lt nb];exact World.heap_new w _⟩,?_⟩
      cases r with
      | ret y=>cases e with
       | returned v=>exact .inl ⟨v,rfl⟩
       | _=>exact absurd k1 id
      | pan y=>cases e with
       | panicked ch=>
        obtain ⟨v,rfl,hv2⟩:=k1
        unfold U4 at hc
        split at hc
        ·rename_i heq;cases heq
        ·rename_i heq;cases heq;cases hv2 with
         | iface h=>cases h with
          | agg hn hv => 
           rename_i n s vs
           obtain ⟨l⟩:=vs
           match l,hn,hv with
           | [a,b],hn,hv=>
            have h0:=hv 0 _ a rfl rfl
            have h1:=hv 1 _ b rfl rfl
            cases h0;cases h1
            exact .inr ⟨_,_,rfl,rfl,rfl⟩
        ·cases hc
       | _=>exact absurd k1 id
    ·rw [Fu f38 b1 b2]at h1;cases h1
open Go.Proofs
set_option maxRecDepth 100000
noncomputable def NH:Orc:=noO
theorem Ng:T0 Tryz.prog Gs false NH Tryz.f16 (.tw .lf (.tw .lf .lf)) .pure Sh.fz:=by unfold T0;intros;kernel_rfl
theorem ML:AG Tryz.prog Gs 16 (ap0 Sh.fz):=fn_ok0 mixed (Ar _ _) Tryz.func16 (by kernel_rfl) Ng
noncomputable def Vp:Orc:=noO
theorem UA:T2 Tryz.prog Gs false Vp Tryz.f77 (.tw .lf (.tw .lf .lf)) .keep Sh.f2m:=by unfold T2;intros;kernel_rfl
theorem TQ:AG Tryz.prog Gs 77 (ap2 Sh.f2m):=AY mixed (Ar _ _) Tryz.func77 (by kernel_rfl) UA
noncomputable def Se:Orc:=(ent 77 (ap2 Sh.f2m) noO)
theorem RN:T1 Tryz.prog Gs false Se Tryz.f36 (.tw .lf (.tw .lf .lf)) .pure Sh.f2n:=by unfold T1;intros;kernel_rfl
theorem RB:AG Tryz.prog Gs 36 (ap1 Sh.f2n):=Ba mixed ((Ag TQ (Ar _ _))) Tryz.func36 (by kernel_rfl) RN
noncomputable def TH:Orc:=noO
theorem T8:T2 Tryz.prog Gs false TH Tryz.f134 (.tw .lf (.tw .lf (.tw (.tw .lf (.one (.loop [0,1,5,12,13] (.tw .lf (.tw (.tw .lf .lf) (.tw (.one (.tw .lf (.tw (.reg [0,1,2,3,4,5,6]) (.tw (.tw .lf .lf) .lf)))) .lf)))))) (.tw .lf .lf)))) .keep Sh.f2o:=by unfold T2;intros;kernel_rfl
theorem SS:AG Tryz.prog Gs 134 (ap2 Sh.f2o):=AY mixed (Ar _ _) Tryz.func134 (by kernel_rfl) T8
noncomputable def Mr:Orc:=noO
theorem LQ:T1 Tryz.prog Gs false Mr Tryz.f81 (.tw .lf (.tw (.reg [0,1,2,3,4,5,6,7,8,9,10]) .lf)) .keep Sh.fe:=by unfold T1;intros;kernel_rfl
theorem CD:AG Tryz.prog Gs 81 (ap1 Sh.fe):=Ba mixed (Ar _ _) Tryz.func81 (by kernel_rfl) LQ
noncomputable def N9:Orc:=(ent 81 (ap1 Sh.fe) noO)
theorem MW:T2 Tryz.prog Gs false N9 Tryz.f135 (.join [] (.tw .lf (.tw .lf .lf)) .lf) .keep Sh.f9:=by unfold T2;intros;kernel_rfl
theorem Dn:AG Tryz.prog Gs 135 (ap2 Sh.f9):=AY mixed ((Ag CD (Ar _ _))) Tryz.func135 (by kernel_rfl) MW
noncomputable def NC:Orc:=(ent 134 (ap2 Sh.f2o) (ent 135 (ap2 Sh.f9) noO))
theorem MZ:T3 Tryz.prog Gs false NC Tryz.f79 (.tw (.reg [0,1,2,3,4,5,6,7,8,9,10,11]) (.tw .lf (.tw .lf (.tw .lf .lf)))) .keep Sh.ft:=by unfold T3;intros;kernel_rfl
theorem GW:AG Tryz.prog Gs 79 (ap3 Sh.ft):=F3 mixed ((Ag SS ((Ag Dn (Ar _ _))))) Tryz.func79 (by kernel_rfl) MZ
noncomputable def NA:Orc:=(ent 81 (ap1 Sh.fe) (ent 177 (ap2 Sh.f2l) noO))
theorem MX:T2 Tryz.prog Gs false NA Tryz.f136 (.tw .lf (.tw (.reg [0,1,2,3,4,5,6,7,8,9,10,11,12,13,14,15,16,17]) .lf)) .keep Sh.fh:=by unfold T2;intros;kernel_rfl
theorem EE:AG Tryz.prog Gs 136 (ap2 Sh.fh):=AY mixed ((Ag CD ((Ag Ll (Ar _ _))))) Tryz.func136 (by kernel_rfl) MX
noncomputable def P9:Orc:=(ent 81 (ap1 Sh.fe) (ent 136 (ap2 Sh.fh) (ent 135 (ap2 Sh.f9) noO)))
theorem Po:T2 Tryz.prog Gs false P9 Tryz.f80 (.tw (.tw .lf (.tw .lf .lf)) (.join [0,1] (.tw .lf (.tw .lf .lf)) (.join [0] (.tw .lf (.tw .lf .lf)) .lf))) .keep Sh.fu:=by unfold T2;intros;kernel_rfl
theorem Ow:AG Tryz.prog Gs 80 (ap2 Sh.fu):=AY mixed ((Ag CD ((Ag EE ((Ag Dn (Ar _ _))))))) Tryz.func80 (by kernel_rfl) Po
noncomputable def WL:Orc:=noO
theorem WB:T1 Tryz.prog Gs false WL Tryz.f194 (.tw .lf (.tw .lf .lf)) .keep Sh.f2p:=by unfold T1;intros;kernel_rfl
theorem Wq:AG Tryz.prog Gs 194 (ap1 Sh.f2p):=Ba mixed (Ar _ _) Tryz.func194 (by kernel_rfl) WB
noncomputable def NB:Orc:=(ent 81 (ap1 Sh.fe) (ent 194 (ap1 Sh.f2p) (ent 135 (ap2 Sh.f9) noO)))
theorem MY:T2 Tryz.prog Gs false NB Tryz.f137 (.tw .lf (.tw .lf (.tw (.one (.loop [0,1,5] (.tw (.tw (.reg [0,1,2,3,4,5,6,7,8,9,10,11,12,13,14,15,16,17,18,19,20,21,22,23]) (.tw .lf .lf)) (.one .lf)))) (.join [0,5] (.tw .lf (.tw .lf .lf)) (.tw (.reg [0,1,2,3,4,5,6,7,8,9,10]) .lf))))) .keep Sh.f1x:=by unfold T2;intros;kernel_rfl
theorem MI:AG Tryz.prog Gs 137 (ap2 Sh.f1x):=AY mixed ((Ag CD ((Ag Wq ((Ag Dn (Ar _ _))))))) Tryz.func137 (by kernel_rfl) MY
noncomputable def Mq:Orc:=noO
theorem LP:T1 Tryz.prog Gs false Mq Tryz.f195 .lf .keep Sh.f2q:=by unfold T1;intros;kernel_rfl
theorem Lo:AG Tryz.prog Gs 195 (ap1 Sh.f2q):=Ba mixed (Ar _ _) Tryz.func195 (by kernel_rfl) LP
noncomputable def IT:Orc:=noO
theorem IM:T2 Tryz.prog Gs false IT Tryz.f232 (.tw .lf (.tw .lf .lf)) .keep Sh.f2r:=by unfold T2;intros;kernel_rfl
theorem IH:AG Tryz.prog Gs 232 (ap2 Sh.f2r):=AY mixed (Ar _ _) Tryz.func232 (by kernel_rfl) IM
noncomputable def IU:Orc:=(ent 232 (ap2 Sh.f2r) noO)
theorem IP:T2 Tryz.prog Gs false IU Tryz.f233 (.tw .lf (.tw (.tw .lf (.tw (.tw .lf .lf) .lf)) (.tw .lf .lf))) .keep Sh.f4o:=by unfold T2;intros;kernel_rfl
theorem II:AG Tryz.prog Gs 233 (ap2 Sh.f4o):=AY mixed ((Ag IH (Ar _ _))) Tryz.func233 (by kernel_rfl) IP
noncomputable def Mo:Orc:=(ent 233 (ap2 Sh.f4o) noO)
theorem LN:T2 Tryz.prog Gs false Mo Tryz.f224 (.tw .lf (.tw .lf .lf)) .keep Sh.f2s:=by unfold T2;intros;kernel_rfl
theorem Lm:AG Tryz.prog Gs 224 (ap2 Sh.f2s):=AY mixed ((Ag II (Ar _ _))) Tryz.func224 (by kernel_rfl) LN
noncomputable def Vv:Orc:=(ent 234 (ap2 Sh.f2k) noO)
theorem UG:T2 Tryz.prog Gs false Vv Tryz.f225 (.tw .lf (.tw (.tw .lf (.tw (.tw .lf .lf) .lf)) (.tw .lf (.tw .lf (.tw (.tw .lf (.tw (.tw .lf .lf) .lf)) (.tw .lf .lf)))))) .keep Sh.f2t:=by unfold T2;intros;kernel_rfl
theorem TV:AG Tryz.prog Gs 225 (ap2 Sh.f2t):=AY mixed ((Ag Lk (Ar _ _))) Tryz.func225 (by kernel_rfl) UG
noncomputable def orc_limb_Mul:Orc:=(ent 201 (ap1 Sh.f0) noO)
theorem tie_limb_Mul:T3 Tryz.prog Gs false orc_limb_Mul Tryz.f226 (.tw .lf (.tw .lf (.tw .lf (.tw (.tw .lf (.one (.loop [0,1,7,8,17,18,19] (.tw .lf (.tw (.tw .lf .lf) (.tw (.one (.tw .lf (.tw .lf (.tw .lf .lf)))) .lf)))))) (.tw .lf (.tw .lf .lf)))))) .pureN Sh.f2u:=by unfold T3;intros;kernel_rfl
theorem Xb:AG Tryz.prog Gs 226 (ap3 Sh.f2u):=F3 mixed ((Ag DB (Ar _ _))) Tryz.func226 (by kernel_rfl) tie_limb_Mul
noncomputable def WP:Orc:=(ent 224 (ap2 Sh.f2s) (ent 226 (ap3 Sh.f2u) (ent 225 (ap2 Sh.f2t) noO)))
theorem WF:T1 Tryz.prog Gs false WP Tryz.f196 (.tw .lf (.tw .lf (.tw (.one (.join [2,4,5,14] (.tw .lf (.tw .lf (.tw .lf (.tw .lf .lf)))) (.tw (.tw .lf .lf) (.tw .lf (.tw (.tw .lf .lf) .lf))))) (.tw .lf (.tw (.tw .lf (.one (.loop [2,5,6,36] (.tw .lf (.tw (.tw .lf .lf) (.one (.tw .lf .lf))))))) (.tw .lf .lf)))))) .pureN Sh.f2v:=by unfold T1;intros;kernel_rfl
theorem Wt:AG Tryz.prog Gs 196 (ap1 Sh.f2v):=Ba mixed ((Ag Lm ((Ag Xb ((Ag TV (Ar _ _))))))) Tryz.func196 (by kernel_rfl) WF
noncomputable def KH:Orc:=(ent 136 (ap2 Sh.fh) (ent 135 (ap2 Sh.f9) (ent 195 (ap1 Sh.f2q) (ent 196 (ap1 Sh.f2v) noO))))
theorem Kt:T3 Tryz.prog Gs false KH Tryz.f138 (.tw .lf (.tw .lf (.join [0,2,6,7] (.tw .lf (.tw (.tw .lf (.tw .lf (.tw .lf .lf))) .lf)) (.tw .lf (.tw (.one (.loop [0,2,6,7,8] (.tw (.tw .lf (.tw .lf .lf)) (.one (.join [0,2,6,7,8] (.one (.tw .lf (.tw .lf (.tw .lf (.tw .lf .lf))))) .lf))))) (.join [0,6,7] (.tw .lf (.tw .lf .lf)) (.tw (.reg [0,1,2,3,4,5,6,7,8,9,10,11,12,14,15,13,16]) (.tw .lf .lf)))))))) .keepN Sh.f1y:=by unfold T3;intros;kernel_rfl
theorem JW:AG Tryz.prog Gs 138 (ap3 Sh.f1y):=F3 mixed ((Ag EE ((Ag Dn ((Ag Lo ((Ag Wt (Ar _ _))))))))) Tryz.func138 (by kernel_rfl) Kt
noncomputable def Mp:Orc:=(ent 136 (ap2 Sh.fh) (ent 79 (ap3 Sh.ft) (ent 137 (ap2 Sh.f1x) (ent 138 (ap3 Sh.f1y) noO))))
theorem LO:T1 Tryz.prog Gs false Mp Tryz.f82 (.tw (.tw .lf (.tw (.tw .lf (.tw .lf .lf)) .lf)) (.tw .lf (.tw .lf (.tw .lf (.reg [1,2,3,4,5,6,7,8,9,0,10,11,12]))))) .keep Sh.f2w:=by unfold T1;intros;kernel_rfl
theorem Ln:AG Tryz.prog Gs 82 (ap1 Sh.f2w):=Ba mixed ((Ag EE ((Ag GW ((Ag MI ((Ag JW (Ar _ _))))))))) Tryz.func82 (by kernel_rfl) LO
noncomputable def N8:Orc:=(ent 79 (ap3 Sh.ft) (ent 80 (ap2 Sh.fu) (ent 81 (ap1 Sh.fe) (ent 82 (ap1 Sh.f2w) noO))))
theorem MV:T1 Tryz.prog Gs false N8 Tryz.f38 (.tw .lf (.tw .lf (.one (.loop [0] (.tw (.tw .lf (.tw .lf .lf)) (.one (.tw .lf .lf))))))) .keep Sh.f1z:=by unfold T1;intros;kernel_rfl
theorem MH:AG Tryz.prog Gs 38 (ap1 Sh.f1z):=Ba mixed ((Ag GW ((Ag Ow ((Ag CD ((Ag Ln (Ar _ _))))))))) Tryz.func38 (by kernel_rfl) MV
theorem Jm:AG Tryz.prog Gs 37 (ap1 Sh.f20):=Xg ((Ag MH (Ar _ _)))
noncomputable def Sg:Orc:=noO
theorem RQ:T1 Tryz.prog Gs false Sg Tryz.f148 (.tw .lf (.tw .lf .lf)) .pure Sh.f2x:=by unfold T1;intros;kernel_rfl
theorem Jn:AG Tryz.prog Gs 148 (ap1 Sh.f2x):=Ba mixed (Ar _ _) Tryz.func148 (by kernel_rfl) RQ
noncomputable def WQ:Orc:=(ent 140 (ap1 Sh.fd) noO)
theorem WG:T1 Tryz.prog Gs false WQ Tryz.f85 (.tw .lf (.tw .lf .lf)) .pure Sh.f21:=by unfold T1;intros;kernel_rfl
theorem Wu:AG Tryz.prog Gs 85 (ap1 Sh.f21):=Ba mixed ((Ag LL (Ar _ _))) Tryz.func85 (by kernel_rfl) WG
noncomputable def Vy:Orc:=(ent 85 (ap1 Sh.f21) noO)
theorem UJ:T1 Tryz.prog Gs false Vy Tryz.f84 (.tw .lf (.tw .lf .lf)) .pure Sh.f4q:=by unfold T1;intros;kernel_rfl
theorem TY:AG Tryz.prog Gs 84 (ap1 Sh.f4q):=Ba mixed ((Ag Wu (Ar _ _))) Tryz.func84 (by kernel_rfl) UJ
open Go.Proofs
set_option maxRecDepth 100000
noncomputable def E7:Orc:=AF
theorem E5:T2 Tryz.prog Gs false E7 Tryz.f139 (.tw .lf (.tw (.tw .lf (.one (.loop [0,1,7,8] (.tw .lf (.tw (.tw .lf .lf) (.tw (.one (.tw .lf (.tw .lf (.tw (.tw .lf .lf) .lf)))) .lf)))))) (.tw .lf .lf))) .keep Sh.fi:=by unfold T2;intros;kernel_rfl
theorem CC:AG Tryz.prog Gs 139 (ap2 Sh.fi):=AY mixed ((Ag Jn ((Ag TY (Ar _ _))))) Tryz.func139 (by kernel_rfl) E5
noncomputable def DS:Orc:=(ent 139 (ap2 Sh.fi) noO)
theorem DO:T2 Tryz.prog Gs false DS Tryz.f83 (.tw .lf (.tw .lf .lf)) .keep Sh.f2y:=by unfold T2;intros;kernel_rfl
theorem DG:AG Tryz.prog Gs 83 (ap2 Sh.f2y):=AY mixed ((Ag CC (Ar _ _))) Tryz.func83 (by kernel_rfl) DO
noncomputable def Fm:Orc:=noO
theorem Fh:T1 Tryz.prog Gs true Fm Tryz.f141 (.tw .lf (.tw (.tw .lf (.tw (.tw .lf .lf) .lf)) (.tw .lf .lf))) .keep Sh.f2z:=by unfold T1;intros;kernel_rfl
theorem Fc:AG Tryz.prog Gs 141 (ap1 Sh.f2z):=Ba mixed (Ar _ _) Tryz.func141 (by kernel_rfl) Fh
noncomputable def EK:Orc:=noO
theorem EJ:T1 Tryz.prog Gs false EK Tryz.f142 (.tw .lf (.one (.loop [0,2,3] (.tw (.tw .lf (.tw .lf .lf)) (.tw (.one (.reg [0,1,4,5,6,7,8,9,10,11,12,13,2,3,14,15])) .lf))))) .keep Sh.f1f:=by unfold T1;intros;kernel_rfl
theorem ED:AG Tryz.prog Gs 142 (ap1 Sh.f1f):=Ba mixed (Ar _ _) Tryz.func142 (by kernel_rfl) EJ
noncomputable def orc_big_Cmp:Orc:=(ent 156 (ap2 Sh.fn) noO)
theorem tie_big_Cmp:T2 Tryz.prog Gs false orc_big_Cmp Tryz.f199 (.tw .lf (.tw (.one (.tw .lf (.tw (.tw .lf .lf) (.tw .lf (.tw (.tw .lf .lf) (.tw .lf (.tw (.tw .lf .lf) .lf))))))) (.tw .lf .lf))) .pure Sh.f22:=by unfold T2;intros;kernel_rfl
theorem call_big_Cmp:AG Tryz.prog Gs 199 (ap2 Sh.f22):=AY mixed ((Ag J0 (Ar _ _))) Tryz.func199 (by kernel_rfl) tie_big_Cmp
noncomputable def TK:Orc:=noO
theorem TB:T1 Tryz.prog Gs false TK Tryz.f198 (.tw .lf (.tw .lf (.tw (.tw .lf (.one (.loop [3,6,7,8] (.tw .lf (.tw (.tw .lf .lf) (.tw (.one (.tw .lf (.tw .lf (.tw (.tw .lf .lf) .lf)))) .lf)))))) (.tw .lf .lf)))) .keep Sh.f30:=by unfold T1;intros;kernel_rfl
theorem SV:AG Tryz.prog Gs 198 (ap1 Sh.f30):=Ba mixed (Ar _ _) Tryz.func198 (by kernel_rfl) TB
noncomputable def TL:Orc:=(ent 199 (ap2 Sh.f22) (ent 198 (ap1 Sh.f30) noO))
theorem TC:T2 Tryz.prog Gs false TL Tryz.f144 (.tw .lf (.tw (.reg [0,1,2,3,4,5,6,7,8,9,10,11,12]) .lf)) .pure Sh.f1g:=by unfold T2;intros;kernel_rfl
theorem Ht:AG Tryz.prog Gs 144 (ap2 Sh.f1g):=AY mixed ((Ag call_big_Cmp ((Ag SV (Ar _ _))))) Tryz.func144 (by kernel_rfl) TC
noncomputable def E6:Orc:=AB
theorem E4:T4 Tryz.prog Gs false E6 Tryz.f227 (.tw .lf (.one (.loop [0,1,2,3,8] (.tw (.tw .lf (.tw .lf .lf)) (.tw (.one (.tw .lf (.one (.loop [0,1,2,3,8,9] (.tw (.tw (.reg [0,1,2,3,4,5,6,7,8,9,10,11,12,13,14,15,16]) (.tw .lf .lf)) (.tw (.one (.reg [0,1,5,6,7,8,9,10,11,12,13,14,15,2,3,4,16,17])) .lf)))))) .lf))))) .keep Sh.fv:=by unfold T4;intros;kernel_rfl
theorem Ew:AG Tryz.prog Gs 227 (ap4 Sh.fv):=fn_ok4 mixed ((Ag Ht (Ar _ _))) Tryz.func227 (by kernel_rfl) E4
noncomputable def Fk:Orc:=noO
theorem Ff:T5 Tryz.prog Gs false Fk Tryz.f240 (.tw .lf (.one (.loop [0,1,2,3,10] (.tw (.tw .lf (.tw .lf .lf)) (.tw (.one (.reg [0,1,2,3,8,9,10,11,12,13,14,15,16,17,18,19,20,21,4,5,6,7,22,23])) .lf))))) .keep Sh.f1h:=by unfold T5;intros;kernel_rfl
theorem Fa:AG Tryz.prog Gs 240 (ap5 Sh.f1h):=SF mixed (Ar _ _) Tryz.func240 (by kernel_rfl) Ff
noncomputable def Ge:Orc:=(ent 240 (ap5 Sh.f1h) noO)
theorem FX:T5 Tryz.prog Gs false Ge Tryz.f236 (.tw .lf (.tw .lf (.tw (.one (.loop [0,2,4,10,11] (.tw (.tw .lf (.tw .lf .lf)) (.one (.tw .lf (.tw (.tw .lf .lf) (.tw .lf .lf))))))) .lf))) .keep Sh.f31:=by unfold T5;intros;kernel_rfl
theorem FL:AG Tryz.prog Gs 236 (ap5 Sh.f31):=SF mixed ((Ag Fa (Ar _ _))) Tryz.func236 (by kernel_rfl) FX
noncomputable def F1 (m:Nat):Orc:=Be (Sh.f5 m)
theorem Fz (m:Nat):T5 Tryz.prog Gs false (F1 m) Tryz.f228 (.tw (.tw .lf (.tw (.tw .lf (.tw .lf (.tw (.one (.loop [0,1,4,10,11] (.tw (.tw .lf (.tw .lf .lf)) (.one (.tw .lf (.tw (.reg [0,1,2,3,4,5,6,7,8,9,10]) (.tw .lf .lf))))))) (.tw (.tw .lf (.one (.loop [0,10,13] (.tw (.tw .lf (.tw .lf .lf)) (.tw (.one (.reg [0,1,5,6,7,8,9,10,11,12,13,14,15,2,3,4,16,17])) .lf))))) .lf)))) .lf)) (.tw (.tw .lf (.tw (.tw .lf (.tw .lf (.tw (.one (.loop [0,2,4,14,15] (.tw (.tw .lf (.tw .lf .lf)) (.one (.tw .lf (.tw (.reg [0,1,2,3,4,5,6,7,8,9,10,11]) (.tw .lf .lf))))))) (.tw (.tw .lf (.one (.loop [0,14,17] (.tw (.tw .lf (.tw .lf .lf)) (.tw (.one (.reg [0,1,5,6,7,8,9,10,11,12,13,14,15,2,3,4,16,17])) .lf))))) .lf)))) .lf)) (.tw .lf (.tw .lf (.tw .lf (.join [0,1,2,3,4,18,19,20,21] (.tw .lf (.tw (.tw .lf .lf) (.tw .lf .lf))) (.tw .lf (.tw (.one (.loop [0,1,2,3,4,18,19,20,21,22] (.tw (.tw .lf (.tw .lf .lf)) (.one (.tw .lf (.tw (.reg [0,1,2,3,4,5,6,7,8,9,10,11,12,13]) (.tw .lf .lf))))))) (.tw .lf (.join [0,1,3,4,18,20,24] (.tw .lf (.tw .lf .lf)) (.join [0,3,4,18,24] (.tw .lf (.tw .lf .lf)) (.tw .lf (.tw .lf .lf))))))))))))) .keep (Sh.f5 (m+1)):=by unfold T5;intros;kernel_rfl
theorem CS:∀m,AG Tryz.prog Gs 228 (ap5 (Sh.f5 m))
 | 0=>QZ fun _ _ _ _ _ _=>rfl
 | m+1=>SF mixed (Ag (CS m) ((Ag Ht ((Ag FL (Ar _ _)))))) Tryz.func228 (by kernel_rfl) (Fz m)
noncomputable def Gd:Orc:=(ent 227 (ap4 Sh.fv) (ent 228 (ap5 (Sh.f5 AK)) noO))
theorem FW:T3 Tryz.prog Gs false Gd Tryz.f197 (.tw .lf (.tw .lf (.tw (.one (.loop [0,1,2,6,7,8] (.tw (.tw .lf (.tw .lf .lf)) (.one (.tw .lf (.tw .lf .lf)))))) (.tw .lf (.one (.loop [0,1,2,6] (.tw (.tw .lf (.tw .lf .lf)) (.one (.tw .lf (.tw (.one (.loop [0,1,2,6,7,8] (.tw (.tw .lf (.tw .lf .lf)) (.one (.tw .lf (.tw .lf .lf)))))) (.join [0,1,2,6] (.tw .lf (.tw .lf (.tw .lf .lf))) .lf))))))))))) .keep Sh.f1i:=by unfold T3;intros;kernel_rfl
theorem FK:AG Tryz.prog Gs 197 (ap3 Sh.f1i):=F3 mixed ((Ag Ew ((Ag (CS AK) (Ar _ _))))) Tryz.func197 (by kernel_rfl) FW
noncomputable def DA:Orc:=(ent 197 (ap3 Sh.f1i) noO)
theorem D9:T2 Tryz.prog Gs false DA Tryz.f143 .lf .keep Sh.f1j:=by unfold T2;intros;kernel_rfl
theorem D4:AG Tryz.prog Gs 143 (ap2 Sh.f1j):=AY mixed ((Ag FK (Ar _ _))) Tryz.func143 (by kernel_rfl) D9
noncomputable def Si:Orc:=(ent 144 (ap2 Sh.f1g) noO)
theorem RR:T2 Tryz.prog Gs false Si Tryz.f146 (.tw .lf (.tw .lf .lf)) .pure Sh.f4t:=by unfold T2;intros;kernel_rfl
theorem RE:AG Tryz.prog Gs 146 (ap2 Sh.f4t):=AY mixed ((Ag Ht (Ar _ _))) Tryz.func146 (by kernel_rfl) RR
noncomputable def Ec:Orc:=AI
theorem Ea:T2 Tryz.prog Gs false Ec Tryz.f145 (.tw .lf (.tw (.tw .lf (.tw (.tw .lf .lf) .lf)) (.tw (.tw .lf (.one (.loop [0,1,5] (.tw (.tw .lf (.tw .lf .lf)) (.tw (.one (.tw (.reg [0,1,2,3,4,5,6,7,8,9,10]) (.tw (.tw .lf (.tw (.tw .lf (.one (.loop [0,1,5,6,7] (.tw (.tw .lf (.tw .lf .lf)) (.join [0,1,5,6,7] (.one (.tw (.reg [0,1,2,3,4,5,6,7,8,9,10,11]) (.tw (.tw .lf .lf) .lf))) .lf))))) (.tw .lf (.tw .lf .lf)))) .lf))) .lf))))) (.tw .lf .lf)))) .keepN Sh.f1k:=by unfold T2;intros;kernel_rfl
theorem DY:AG Tryz.prog Gs 145 (ap2 Sh.f1k):=AY mixed ((Ag RE (Ar _ _))) Tryz.func145 (by kernel_rfl) Ea
noncomputable def Em:Orc:=Bc
theorem Eh:T2 Tryz.prog Gs false Em Tryz.f147 (.tw .lf (.tw .lf (.tw (.tw .lf (.tw (.tw .lf .lf) .lf)) (.tw (.tw .lf (.one (.loop [0,1,5,6] (.tw (.tw .lf (.tw .lf .lf)) (.join [0,1,5,6] (.one (.tw .lf (.tw .lf (.tw (.tw .lf .lf) .lf)))) .lf))))) (.tw .lf (.tw .lf .lf)))))) .keepN Sh.f1l:=by unfold T2;intros;kernel_rfl
theorem Ee:AG Tryz.prog Gs 147 (ap2 Sh.f1l):=AY mixed ((Ag CC ((Ag Jn (Ar _ _))))) Tryz.func147 (by kernel_rfl) Eh
noncomputable def Vx:Orc:=(ent 141 (ap1 Sh.f2z) (ent 142 (ap1 Sh.f1f) (ent 143 (ap2 Sh.f1j) (ent 145 (ap2 Sh.f1k) (ent 147 (ap2 Sh.f1l) noO)))))
theorem UI:T1 Tryz.prog Gs false Vx Tryz.f86 (.tw .lf (.tw .lf (.tw .lf (.tw .lf (.tw .lf (.tw .lf .lf)))))) .pureN Sh.f38:=by unfold T1;intros;kernel_rfl
theorem TX:AG Tryz.prog Gs 86 (ap1 Sh.f38):=Ba mixed ((Ag Fc ((Ag ED ((Ag D4 ((Ag DY ((Ag Ee (Ar _ _))))))))))) Tryz.func86 (by kernel_rfl) UI
noncomputable def V0:Orc:=noO
theorem UL:T2 Tryz.prog Gs false V0 Tryz.f153 (.tw .lf (.tw .lf .lf)) .pureN Sh.fa:=by unfold T2;intros;kernel_rfl
theorem FT:AG Tryz.prog Gs 153 (ap2 Sh.fa):=AY mixed (Ar _ _) Tryz.func153 (by kernel_rfl) UL
noncomputable def WR:Orc:=(ent 153 (ap2 Sh.fa) noO)
theorem WH:T1 Tryz.prog Gs false WR Tryz.f150 (.tw .lf (.tw .lf .lf)) .pureN Sh.f1m:=by unfold T1;intros;kernel_rfl
theorem O7:AG Tryz.prog Gs 150 (ap1 Sh.f1m):=Ba mixed ((Ag FT (Ar _ _))) Tryz.func150 (by kernel_rfl) WH
noncomputable def Gz:Orc:=noO
theorem Gx:T1 Tryz.prog Gs true Gz Tryz.f206 (.tw .lf (.tw (.tw .lf (.tw (.tw .lf .lf) .lf)) (.tw .lf .lf))) .keep Sh.f1n:=by unfold T1;intros;kernel_rfl
theorem Dj:AG Tryz.prog Gs 206 (ap1 Sh.f1n):=Ba mixed (Ar _ _) Tryz.func206 (by kernel_rfl) Gx
noncomputable def WO:Orc:=(ent 206 (ap1 Sh.f1n) (ent 201 (ap1 Sh.f0) noO))
theorem WE:T1 Tryz.prog Gs false WO Tryz.f200 (.tw .lf (.tw .lf .lf)) .pureN Sh.f39:=by unfold T1;intros;kernel_rfl
theorem Ws:AG Tryz.prog Gs 200 (ap1 Sh.f39):=Ba mixed ((Ag Dj ((Ag DB (Ar _ _))))) Tryz.func200 (by kernel_rfl) WE
noncomputable def orc_big_Of:Orc:=(ent 200 (ap1 Sh.f39) (ent 153 (ap2 Sh.fa) noO))
theorem tie_big_Of:T1 Tryz.prog Gs false orc_big_Of Tryz.f151 (.tw .lf (.tw .lf (.join [0,2,3] (.tw .lf (.tw .lf .lf)) (.tw .lf .lf)))) .pureN Sh.f24:=by unfold T1;intros;kernel_rfl
theorem call_big_Of:AG Tryz.prog Gs 151 (ap1 Sh.f24):=Ba mixed ((Ag Ws ((Ag FT (Ar _ _))))) Tryz.func151 (by kernel_rfl) tie_big_Of
noncomputable def P8:Orc:=noO
theorem Pn:T3 Tryz.prog Gs false P8 Tryz.f204 (.tw .lf (.tw .lf (.tw .lf (.tw .lf .lf)))) .keep Sh.f3a:=by unfold T3;intros;kernel_rfl
theorem Ov:AG Tryz.prog Gs 204 (ap3 Sh.f3a):=F3 mixed (Ar _ _) Tryz.func204 (by kernel_rfl) Pn
noncomputable def orc_limb_Add:Orc:=(ent 204 (ap3 Sh.f3a) (ent 201 (ap1 Sh.f0) noO))
theorem tie_limb_Add:T2 Tryz.prog Gs false orc_limb_Add Tryz.f155 (.tw .lf (.join [0,1] (.tw .lf (.tw .lf .lf)) (.tw .lf (.tw .lf (.tw (.tw .lf (.one (.loop [0,1,5,6,21,22,23] (.tw .lf (.tw (.tw .lf .lf) (.tw (.one (.tw .lf (.tw .lf (.join [0,1,5,6,7,8,9,21,22,23] (.tw .lf (.tw .lf .lf)) .lf)))) .lf)))))) (.tw .lf (.tw .lf .lf))))))) .pureN Sh.f3b:=by unfold T2;intros;kernel_rfl
theorem Xe:AG Tryz.prog Gs 155 (ap2 Sh.f3b):=AY mixed ((Ag Ov ((Ag DB (Ar _ _))))) Tryz.func155 (by kernel_rfl) tie_limb_Add
noncomputable def P6:Orc:=noO
theorem Pk:T3 Tryz.prog Gs false P6 Tryz.f207 (.tw .lf (.tw .lf (.tw .lf .lf))) .keep Sh.f25:=by unfold T3;intros;kernel_rfl
theorem Ot:AG Tryz.prog Gs 207 (ap3 Sh.f25):=F3 mixed (Ar _ _) Tryz.func207 (by kernel_rfl) Pk
open Go.Proofs
set_option maxRecDepth 100000
noncomputable def orc_limb_Sub:Orc:=(ent 156 (ap2 Sh.fn) (ent 206 (ap1 Sh.f1n) (ent 207 (ap3 Sh.f25) (ent 201 (ap1 Sh.f0) noO))))
theorem tie_limb_Sub:T2 Tryz.prog Gs false orc_limb_Sub Tryz.f157 (.tw .lf (.tw (.tw .lf (.tw (.tw .lf .lf) .lf)) (.tw .lf (.tw .lf (.tw (.tw .lf (.one (.loop [1,6,7,17,18] (.tw .lf (.tw (.tw .lf .lf) (.tw (.one (.tw .lf (.tw .lf (.join [1,6,7,8,9,17,18] (.tw .lf (.tw .lf .lf)) .lf)))) .lf)))))) (.tw .lf .lf)))))) .pureN Sh.f3c:=by unfold T2;intros;kernel_rfl
theorem WZ:AG Tryz.prog Gs 157 (ap2 Sh.f3c):=AY mixed ((Ag J0 ((Ag Dj ((Ag Ot ((Ag DB (Ar _ _))))))))) Tryz.func157 (by kernel_rfl) tie_limb_Sub
noncomputable def orc_big_Add:Orc:=(ent 155 (ap2 Sh.f3b) (ent 153 (ap2 Sh.fa) (ent 157 (ap2 Sh.f3c) (ent 156 (ap2 Sh.fn) noO))))
theorem tie_big_Add:T2 Tryz.prog Gs false orc_big_Add Tryz.f89 (.tw .lf (.tw (.tw .lf (.tw (.tw (.reg [2,3,4,5,6,0,1,7,8]) .lf) .lf)) (.join [2,3,4] (.tw .lf (.tw .lf .lf)) (.tw .lf (.tw .lf .lf))))) .pureN Sh.f11:=by unfold T2;intros;kernel_rfl
theorem RG:AG Tryz.prog Gs 89 (ap2 Sh.f11):=AY mixed ((Ag Xe ((Ag FT ((Ag WZ ((Ag J0 (Ar _ _))))))))) Tryz.func89 (by kernel_rfl) tie_big_Add
noncomputable def orc_big_Sub:Orc:=(ent 150 (ap1 Sh.f1m) (ent 89 (ap2 Sh.f11) noO))
theorem tie_big_Sub:T2 Tryz.prog Gs false orc_big_Sub Tryz.f149 (.tw .lf (.tw (.reg [1,2,0,3,4]) .lf)) .pureN Sh.f3d:=by unfold T2;intros;kernel_rfl
theorem call_big_Sub:AG Tryz.prog Gs 149 (ap2 Sh.f3d):=AY mixed ((Ag O7 ((Ag RG (Ar _ _))))) Tryz.func149 (by kernel_rfl) tie_big_Sub
noncomputable def P7:Orc:=noO
theorem Pm:T1 Tryz.prog Gs false P7 Tryz.f202 (.tw .lf (.join [0,2] (.tw .lf (.tw (.tw .lf .lf) .lf)) (.join [0,2] (.tw .lf (.tw (.tw .lf .lf) .lf)) (.tw .lf .lf)))) .keep Sh.f3e:=by unfold T1;intros;kernel_rfl
theorem Ou:AG Tryz.prog Gs 202 (ap1 Sh.f3e):=Ba mixed (Ar _ _) Tryz.func202 (by kernel_rfl) Pm
noncomputable def orc_limb_Len:Orc:=(ent 201 (ap1 Sh.f0) (ent 202 (ap1 Sh.f3e) noO))
theorem tie_limb_Len:T1 Tryz.prog Gs false orc_limb_Len Tryz.f152 (.tw .lf (.tw .lf (.tw (.tw .lf (.tw (.tw .lf .lf) .lf)) (.tw .lf .lf)))) .keep Sh.f3f:=by unfold T1;intros;kernel_rfl
theorem Xc:AG Tryz.prog Gs 152 (ap1 Sh.f3f):=Ba mixed ((Ag DB ((Ag Ou (Ar _ _))))) Tryz.func152 (by kernel_rfl) tie_limb_Len
noncomputable def Vw:Orc:=(ent 152 (ap1 Sh.f3f) (ent 150 (ap1 Sh.f1m) (ent 151 (ap1 Sh.f24) (ent 149 (ap2 Sh.f3d) noO))))
theorem UH:T1 Tryz.prog Gs false Vw Tryz.f87 (.tw .lf (.join [1] (.tw .lf (.tw .lf .lf)) (.tw .lf .lf))) .pure Sh.f26:=by unfold T1;intros;kernel_rfl
theorem TW:AG Tryz.prog Gs 87 (ap1 Sh.f26):=Ba mixed ((Ag Xc ((Ag O7 ((Ag call_big_Of ((Ag call_big_Sub (Ar _ _))))))))) Tryz.func87 (by kernel_rfl) UH
noncomputable def WN:Orc:=noO
theorem WD:T1 Tryz.prog Gs false WN Tryz.f203 (.tw .lf (.tw .lf .lf)) .keep Sh.f3g:=by unfold T1;intros;kernel_rfl
theorem Wr:AG Tryz.prog Gs 203 (ap1 Sh.f3g):=Ba mixed (Ar _ _) Tryz.func203 (by kernel_rfl) WD
noncomputable def orc_limb_Shl:Orc:=(ent 203 (ap1 Sh.f3g) (ent 201 (ap1 Sh.f0) noO))
theorem tie_limb_Shl:T2 Tryz.prog Gs false orc_limb_Shl Tryz.f154 (.tw .lf (.tw (.tw .lf (.tw (.tw .lf .lf) .lf)) (.tw .lf (.tw (.tw .lf (.one (.loop [1,5,19,20,21] (.tw .lf (.tw (.tw .lf .lf) (.tw (.one (.tw .lf (.tw .lf (.tw (.reg [0,1,2,3,4,5,6,7,8,9,10]) (.reg [0,1,2,3,4,5,6,7,8,9,10,11,12,13,14]))))) .lf)))))) (.tw .lf .lf))))) .pureN Sh.f3h:=by unfold T2;intros;kernel_rfl
theorem Xa:AG Tryz.prog Gs 154 (ap2 Sh.f3h):=AY mixed ((Ag Wr ((Ag DB (Ar _ _))))) Tryz.func154 (by kernel_rfl) tie_limb_Shl
noncomputable def orc_big_Pow:Orc:=(ent 154 (ap2 Sh.f3h) (ent 153 (ap2 Sh.fa) noO))
theorem tie_big_Pow:T1 Tryz.prog Gs false orc_big_Pow Tryz.f88 (.tw .lf (.tw .lf .lf)) .pureN Sh.f3i:=by unfold T1;intros;kernel_rfl
theorem call_big_Pow:AG Tryz.prog Gs 88 (ap1 Sh.f3i):=Ba mixed ((Ag Xa ((Ag FT (Ar _ _))))) Tryz.func88 (by kernel_rfl) tie_big_Pow
noncomputable def orc_limb_Bit:Orc:=noO
theorem tie_limb_Bit:T2 Tryz.prog Gs false orc_limb_Bit Tryz.f158 (.tw .lf (.tw .lf .lf)) .keep Sh.f27:=by unfold T2;intros;kernel_rfl
theorem Xd:AG Tryz.prog Gs 158 (ap2 Sh.f27):=AY mixed (Ar _ _) Tryz.func158 (by kernel_rfl) tie_limb_Bit
noncomputable def MF (m:Nat):Orc:=ent 90 (ap3 (Sh.f29 m)) (ent 158 (ap2 Sh.f27) noO)
theorem Ml (m:Nat):T3 Tryz.prog Gs false (MF m) Tryz.f90 (.tw .lf (.tw (.tw .lf (.tw (.tw .lf .lf) .lf)) (.tw .lf (.tw (.tw .lf (.one (.loop [0,1,7,17,18,19] (.tw .lf (.tw (.tw .lf .lf) (.tw (.one (.tw .lf (.tw .lf (.join [0,1,7,9,10,17,18,19] (.tw .lf (.tw .lf .lf)) (.join [0,1,7,9,10,17,18,19] (.tw .lf (.tw .lf .lf)) (.reg [1,2,3,4,5,6,0,7,8])))))) .lf)))))) (.tw .lf (.tw (.tw .lf (.one (.loop [0,1,11,48,49] (.tw .lf (.tw (.tw .lf .lf) (.tw (.one (.tw .lf (.one (.tw .lf (.tw .lf (.tw .lf (.tw .lf .lf))))))) .lf)))))) (.tw (.reg [1,2,3,4,5,6,7,0,8,9,10]) (.tw .lf .lf)))))))) .keep (Sh.f29 (m+1)):=by unfold T3;intros;kernel_rfl
theorem GO:∀m,AG Tryz.prog Gs 90 (ap3 (Sh.f29 m))
 | 0=>none_ok3 fun _ _ _ _=>rfl
 | m+1=>F3 mixed (Ag (GO m) ((Ag Xd (Ar _ _)))) Tryz.func90 (by kernel_rfl) (Ml m)
noncomputable def orc_node_kid:Orc:=noO
theorem tie_node_kid:T3 Tryz.prog Gs false orc_node_kid Tryz.f208 (.tw .lf (.tw .lf (.tw (.one (.tw .lf (.tw (.tw .lf .lf) (.tw .lf (.tw (.tw .lf .lf) .lf))))) (.tw (.reg [0,1,2,3,4,5,6,7,8,9,10,11,12,13,14,15,16,17,18,19]) .lf)))) .pure Sh.f3j:=by unfold T3;intros;kernel_rfl
theorem WY:AG Tryz.prog Gs 208 (ap3 Sh.f3j):=F3 mixed (Ar _ _) Tryz.func208 (by kernel_rfl) tie_node_kid
noncomputable def Vq:Orc:=(ent 208 (ap3 Sh.f3j) noO)
theorem UB:T1 Tryz.prog Gs false Vq Tryz.f159 (.tw .lf (.tw (.tw .lf (.one (.loop [0,7,8,9] (.tw .lf (.tw (.tw .lf .lf) (.tw (.one (.tw .lf (.tw (.tw .lf (.tw (.tw .lf .lf) .lf)) (.tw .lf (.one (.loop [0,3,7,8,9,23,24] (.tw .lf (.tw (.tw .lf .lf) (.tw (.one (.tw .lf (.tw .lf (.tw (.tw .lf .lf) .lf)))) .lf))))))))) .lf)))))) (.tw .lf .lf))) .pure Sh.f3k:=by unfold T1;intros;kernel_rfl
theorem TR:AG Tryz.prog Gs 159 (ap1 Sh.f3k):=Ba mixed ((Ag WY (Ar _ _))) Tryz.func159 (by kernel_rfl) UB
noncomputable def Fl:Orc:=noO
theorem Fg:T1 Tryz.prog Gs false Fl Tryz.f209 (.tw .lf (.tw (.tw .lf (.tw (.tw .lf .lf) .lf)) (.tw .lf .lf))) .keep Sh.f3l:=by unfold T1;intros;kernel_rfl
theorem Fb:AG Tryz.prog Gs 209 (ap1 Sh.f3l):=Ba mixed (Ar _ _) Tryz.func209 (by kernel_rfl) Fg
noncomputable def TI:Orc:=noO
theorem T9:T3 Tryz.prog Gs false TI Tryz.f238 (.tw .lf (.tw .lf .lf)) .keep Sh.f4y:=by unfold T3;intros;kernel_rfl
theorem ST:AG Tryz.prog Gs 238 (ap3 Sh.f4y):=F3 mixed (Ar _ _) Tryz.func238 (by kernel_rfl) T9
noncomputable def GT:Orc:=C8
theorem GR:T2 Tryz.prog Gs false GT Tryz.f241 (.tw .lf (.tw (.tw .lf (.one (.loop [0,1,7,8] (.tw .lf (.tw (.tw .lf .lf) (.tw (.one (.tw .lf (.tw .lf (.tw (.tw .lf .lf) .lf)))) .lf)))))) (.tw .lf .lf))) .keep Sh.f4z:=by unfold T2;intros;kernel_rfl
theorem GJ:AG Tryz.prog Gs 241 (ap2 Sh.f4z):=AY mixed ((Ag ST (Ar _ _))) Tryz.func241 (by kernel_rfl) GR
noncomputable def Gg:Orc:=(ent 241 (ap2 Sh.f4z) noO)
theorem FY:T2 Tryz.prog Gs false Gg Tryz.f237 (.tw .lf (.tw .lf .lf)) .keep Sh.f3m:=by unfold T2;intros;kernel_rfl
theorem FM:AG Tryz.prog Gs 237 (ap2 Sh.f3m):=AY mixed ((Ag GJ (Ar _ _))) Tryz.func237 (by kernel_rfl) FY
noncomputable def WM:Orc:=(ent 237 (ap2 Sh.f3m) noO)
theorem WC:T1 Tryz.prog Gs false WM Tryz.f230 (.tw .lf (.tw .lf (.tw (.tw .lf (.one (.loop [3,10,11,12] (.tw .lf (.tw (.tw .lf .lf) (.tw (.one (.tw .lf (.reg [3,4,5,6,0,1,2,7,8]))) .lf)))))) (.tw .lf .lf)))) .pureN Sh.f1o:=by unfold T1;intros;kernel_rfl
theorem Oq:AG Tryz.prog Gs 230 (ap1 Sh.f1o):=Ba mixed ((Ag FM (Ar _ _))) Tryz.func230 (by kernel_rfl) WC
noncomputable def Vr:Orc:=(ent 230 (ap1 Sh.f1o) noO)
theorem UC:T2 Tryz.prog Gs false Vr Tryz.f210 (.tw .lf (.tw .lf .lf)) .keep Sh.f3n:=by unfold T2;intros;kernel_rfl
theorem TS:AG Tryz.prog Gs 210 (ap2 Sh.f3n):=AY mixed ((Ag Oq (Ar _ _))) Tryz.func210 (by kernel_rfl) UC
noncomputable def TJ:Orc:=(ent 230 (ap1 Sh.f1o) noO)
theorem TA:T2 Tryz.prog Gs false TJ Tryz.f211 (.tw .lf (.tw (.tw .lf (.tw (.tw .lf .lf) .lf)) (.tw .lf (.tw (.tw .lf (.one (.loop [0,5,28,29] (.tw .lf (.tw (.tw .lf .lf) (.tw (.one (.tw .lf (.tw (.tw .lf (.tw .lf .lf)) (.tw .lf (.one (.loop [0,5,6,7,28,29,40,41] (.tw .lf (.tw (.tw .lf .lf) (.tw (.one (.tw .lf (.tw .lf (.tw (.tw .lf .lf) .lf)))) .lf))))))))) .lf)))))) (.tw .lf .lf))))) .keep Sh.f3o:=by unfold T2;intros;kernel_rfl
theorem SU:AG Tryz.prog Gs 211 (ap2 Sh.f3o):=AY mixed ((Ag Oq (Ar _ _))) Tryz.func211 (by kernel_rfl) TA
noncomputable def TM:Orc:=noO
theorem TD:T3 Tryz.prog Gs false TM Tryz.f212 (.tw .lf (.tw (.tw .lf (.tw .lf (.tw (.tw .lf .lf) .lf))) (.tw .lf .lf))) .keep Sh.f3p:=by unfold T3;intros;kernel_rfl
theorem SX:AG Tryz.prog Gs 212 (ap3 Sh.f3p):=F3 mixed (Ar _ _) Tryz.func212 (by kernel_rfl) TD
noncomputable def Sj:Orc:=(ent 209 (ap1 Sh.f3l) (ent 210 (ap2 Sh.f3n) (ent 211 (ap2 Sh.f3o) (ent 212 (ap3 Sh.f3p) noO))))
theorem RT:T2 Tryz.prog Gs false Sj Tryz.f160 (.tw .lf (.tw .lf (.tw (.tw .lf (.tw (.tw .lf .lf) .lf)) (.tw (.one (.loop [0,1] (.tw (.tw .lf (.tw .lf .lf)) (.one (.tw .lf (.tw (.tw .lf (.one (.loop [0,1,6,25] (.tw .lf (.tw (.tw .lf .lf) (.tw (.one (.tw .lf .lf)) .lf)))))) (.tw .lf .lf))))))) (.tw .lf .lf))))) .pureN Sh.f3q:=by unfold T2;intros;kernel_rfl
theorem RF:AG Tryz.prog Gs 160 (ap2 Sh.f3q):=AY mixed ((Ag Fb ((Ag TS ((Ag SU ((Ag SX (Ar _ _))))))))) Tryz.func160 (by kernel_rfl) RT
noncomputable def KR:Orc:=noO
theorem K7:T2 Tryz.prog Gs false KR Tryz.f162 (.tw .lf (.tw (.tw .lf (.tw (.tw .lf .lf) .lf)) (.tw (.tw (.reg [0,1,2,3,4,5,6,7,8,9,10]) (.tw .lf (.tw (.tw .lf .lf) .lf))) (.tw (.reg [1,2,3,4,5,6,7,0,8,9,10]) (.tw (.reg [0,1,2,3,4,5,6,7,8,9,10]) (.tw .lf .lf)))))) .keep Sh.f3r:=by unfold T2;intros;kernel_rfl
theorem Kf:AG Tryz.prog Gs 162 (ap2 Sh.f3r):=AY mixed (Ar _ _) Tryz.func162 (by kernel_rfl) K7
noncomputable def Vz (m:Nat):Orc:=HU (Sh.fj m)
theorem UK (m:Nat):T5 Tryz.prog Gs false (Vz m) Tryz.f161 (.tw .lf (.tw (.tw .lf (.tw .lf (.tw (.tw .lf .lf) .lf))) (.tw .lf (.join [0,1,4,9] (.tw .lf (.tw (.tw .lf (.one (.loop [0,1,3,4,9,30,31] (.tw .lf (.tw (.tw .lf .lf) (.tw (.one (.tw .lf .lf)) .lf)))))) .lf)) (.tw .lf (.tw .lf (.tw .lf .lf))))))) .keep (Sh.fj (m+1)):=by unfold T5;intros;kernel_rfl
theorem LM:∀m,AG Tryz.prog Gs 161 (ap5 (Sh.fj m))
 | 0=>QZ fun _ _ _ _ _ _=>rfl
 | m+1=>SF mixed (Ag (LM m) ((Ag Kf (Ar _ _)))) Tryz.func161 (by kernel_rfl) (UK m)
noncomputable def orc_canon_Of:Orc:=Jw
theorem tie_canon_Of:T2 Tryz.prog Gs false orc_canon_Of Tryz.f91 (.tw .lf (.tw (.tw .lf (.tw (.tw .lf .lf) .lf)) (.tw .lf (.tw .lf (.tw .lf (.tw .lf (.tw .lf (.tw .lf (.tw .lf .lf))))))))) .pureN Sh.f3s:=by unfold T2;intros;kernel_rfl
theorem Xh:AG Tryz.prog Gs 91 (ap2 Sh.f3s):=AY mixed ((Ag TR ((Ag RF ((Ag (LM AK) (Ar _ _))))))) Tryz.func91 (by kernel_rfl) tie_canon_Of
open Go.Proofs
set_option maxRecDepth 100000
noncomputable def orc_cells_Of:Orc:=(ent 83 (ap2 Sh.f2y) (ent 86 (ap1 Sh.f38) (ent 87 (ap1 Sh.f26) (ent 88 (ap1 Sh.f3i) (ent 89 (ap2 Sh.f11) (ent 90 (ap3 (Sh.f29 AK)) (ent 91 (ap2 Sh.f3s) noO)))))))
theorem tie_cells_Of:T1 Tryz.prog Gs false orc_cells_Of Tryz.f39 (.tw .lf (.tw (.tw .lf (.tw (.tw .lf .lf) .lf)) (.tw .lf (.tw .lf (.tw (.tw .lf (.one (.loop [2,4,5,19,20,21] (.tw .lf (.tw (.tw .lf .lf) (.tw (.one (.tw .lf (.reg [1,2,3,4,5,6,0,7,8]))) .lf)))))) (.tw (.tw .lf (.tw (.tw .lf .lf) .lf)) (.tw .lf (.tw .lf (.tw (.tw .lf (.one (.loop [2,5,8,9,40,41,42] (.tw .lf (.tw (.tw .lf .lf) (.tw (.one (.tw .lf (.reg [1,2,3,4,6,7,8,9,0,5,10,11,12,13,14,15,16]))) .lf)))))) (.tw .lf (.tw .lf (.tw .lf .lf)))))))))))) .pureN Sh.f2b:=by unfold T1;intros;kernel_rfl
theorem Xf:AG Tryz.prog Gs 39 (ap1 Sh.f2b):=Ba mixed ((Ag DG ((Ag TX ((Ag TW ((Ag call_big_Pow ((Ag RG ((Ag (GO AK) ((Ag Xh (Ar _ _))))))))))))))) Tryz.func39 (by kernel_rfl) tie_cells_Of
noncomputable def Vt:Orc:=(ent 36 (ap1 Sh.f2n) (ent 37 (ap1 Sh.f20) (ent 39 (ap1 Sh.f2b) noO)))
theorem UE:T2 Tryz.prog Gs false Vt Tryz.f13 (.tw .lf (.tw (.tw .lf (.tw (.tw .lf .lf) .lf)) (.tw .lf (.tw (.tw .lf (.tw .lf (.tw (.tw (.reg [0,8,1,2,3,4,5,6,7,9,10]) .lf) .lf))) (.tw .lf (.tw (.tw .lf (.tw (.tw .lf .lf) .lf)) (.tw (.reg [0,1,2,3,4,5,6,7,8]) .lf))))))) .pureN Sh.f12:=by unfold T2;intros;kernel_rfl
theorem TT:AG Tryz.prog Gs 13 (ap2 Sh.f12):=AY mixed ((Ag RB ((Ag Jm ((Ag Xf (Ar _ _))))))) Tryz.func13 (by kernel_rfl) UE
noncomputable def KJ:Orc:=noO
theorem Kv:T1 Tryz.prog Gs false KJ Tryz.f104 (.tw .lf (.tw .lf .lf)) .keep Sh.f3u:=by unfold T1;intros;kernel_rfl
theorem JY:AG Tryz.prog Gs 104 (ap1 Sh.f3u):=Ba mixed (Ar _ _) Tryz.func104 (by kernel_rfl) Kv
noncomputable def NQ:Orc:=noO
theorem Np:T1 Tryz.prog Gs false NQ Tryz.f93 (.tw .lf (.tw .lf .lf)) .keep Sh.f1p:=by unfold T1;intros;kernel_rfl
theorem Hb:AG Tryz.prog Gs 93 (ap1 Sh.f1p):=Ba mixed (Ar _ _) Tryz.func93 (by kernel_rfl) Np
noncomputable def NR:Orc:=(ent 93 (ap1 Sh.f1p) noO)
theorem Nq:T1 Tryz.prog Gs false NR Tryz.f50 (.tw .lf (.tw (.tw .lf (.one (.loop [0,3] (.tw (.tw .lf (.tw .lf .lf)) (.tw (.one (.tw .lf (.tw (.tw .lf .lf) .lf))) .lf))))) (.tw .lf .lf))) .keep Sh.f3v:=by unfold T1;intros;kernel_rfl
theorem MR:AG Tryz.prog Gs 50 (ap1 Sh.f3v):=Ba mixed ((Ag Hb (Ar _ _))) Tryz.func50 (by kernel_rfl) Nq
noncomputable def M6:Orc:=noO
theorem Mc:T1 Tryz.prog Gs false M6 Tryz.f167 (.tw .lf (.tw (.tw .lf (.one (.loop [0,3] (.tw (.tw .lf (.tw .lf .lf)) (.tw (.one (.tw (.tw .lf (.tw (.tw .lf .lf) .lf)) (.tw .lf (.one (.loop [0,3,4] (.tw (.tw .lf (.tw .lf .lf)) (.tw (.one (.tw .lf (.tw (.tw .lf (.tw (.tw .lf .lf) .lf)) (.tw (.reg [0,1,2,3,4,5,6,7,8,9,10,11,12,13,14,15,16,17,18,19,20,21,22,23,24,25,26,27,28,29]) (.tw (.tw .lf .lf) .lf))))) .lf))))))) .lf))))) (.tw .lf .lf))) .keep Sh.f1q:=by unfold T1;intros;kernel_rfl
theorem GM:AG Tryz.prog Gs 167 (ap1 Sh.f1q):=Ba mixed (Ar _ _) Tryz.func167 (by kernel_rfl) Mc
noncomputable def JH:Orc:=noO
theorem J5:T1 Tryz.prog Gs false JH Tryz.f170 (.tw .lf (.tw .lf (.tw .lf (.tw (.tw .lf (.one (.loop [0,3,4] (.tw (.tw .lf (.tw .lf .lf)) (.tw (.one (.tw .lf (.tw (.tw .lf (.one (.loop [0,3,4,5,6] (.tw (.tw .lf (.tw .lf .lf)) (.tw (.one (.tw .lf .lf)) .lf))))) .lf))) .lf))))) (.tw .lf .lf))))) .pureN Sh.fk:=by unfold T1;intros;kernel_rfl
theorem CP:AG Tryz.prog Gs 170 (ap1 Sh.fk):=Ba mixed (Ar _ _) Tryz.func170 (by kernel_rfl) J5
noncomputable def KO:Orc:=(ent 170 (ap1 Sh.fk) noO)
theorem K0:T2 Tryz.prog Gs false KO Tryz.f215 (.tw .lf (.tw (.tw .lf (.tw (.tw .lf .lf) .lf)) (.tw .lf (.tw (.tw .lf (.one (.loop [0,1,5,6] (.tw (.tw .lf (.tw .lf .lf)) (.tw (.one (.tw .lf (.tw .lf (.one (.loop [0,1,5,6,7,8] (.tw (.tw .lf (.tw .lf .lf)) (.tw (.one (.tw .lf (.tw .lf (.tw (.tw .lf .lf) .lf)))) .lf))))))) .lf))))) (.tw .lf .lf))))) .keep Sh.f1r:=by unfold T2;intros;kernel_rfl
theorem Gw:AG Tryz.prog Gs 215 (ap2 Sh.f1r):=AY mixed ((Ag CP (Ar _ _))) Tryz.func215 (by kernel_rfl) K0
noncomputable def PD (m:Nat):Orc:=ent 218 (ap3 (Sh.fo m)) noO
theorem Ps (m:Nat):T3 Tryz.prog Gs false (PD m) Tryz.f218 (.tw .lf (.tw (.tw .lf (.one (.loop [0,1,2,7] (.tw (.tw .lf (.tw .lf .lf)) (.tw (.one (.tw .lf (.tw (.tw .lf .lf) .lf))) .lf))))) (.tw (.tw .lf (.one (.loop [0,1,2,8] (.tw (.tw .lf (.tw .lf .lf)) (.join [0,1,2,8] (.one (.tw .lf (.tw .lf .lf))) .lf))))) (.tw .lf .lf)))) .keep (Sh.fo (m+1)):=by unfold T3;intros;kernel_rfl
theorem HP:∀m,AG Tryz.prog Gs 218 (ap3 (Sh.fo m))
 | 0=>none_ok3 fun _ _ _ _=>rfl
 | m+1=>F3 mixed (Ag (HP m) (Ar _ _)) Tryz.func218 (by kernel_rfl) (Ps m)
noncomputable def M4:Orc:=(ent 167 (ap1 Sh.f1q) (ent 215 (ap2 Sh.f1r) (ent 170 (ap1 Sh.fk) (ent 218 (ap3 (Sh.fo AK)) noO))))
theorem Ma:T1 Tryz.prog Gs false M4 Tryz.f173 (.tw .lf (.tw .lf (.tw (.tw .lf (.tw (.tw .lf .lf) .lf)) (.tw (.tw .lf (.tw (.tw .lf .lf) .lf)) (.tw .lf (.tw (.tw .lf (.one (.loop [3,4,5] (.tw (.tw .lf (.tw .lf .lf)) (.tw (.one (.tw (.tw .lf (.tw (.tw .lf .lf) .lf)) (.tw .lf (.one (.loop [3,4,5,6] (.tw (.tw .lf (.tw .lf .lf)) (.tw (.one (.tw (.reg [0,1,2,3,4,5,6,7,8]) (.tw (.tw .lf .lf) .lf))) .lf))))))) .lf))))) (.tw .lf (.tw (.tw .lf (.one (.loop [3,7,8] (.tw (.tw .lf (.tw .lf .lf)) (.tw (.one (.tw .lf (.tw (.tw .lf .lf) .lf))) .lf))))) (.tw .lf .lf))))))))) .pure Sh.f3w:=by unfold T1;intros;kernel_rfl
theorem Lw:AG Tryz.prog Gs 173 (ap1 Sh.f3w):=Ba mixed ((Ag GM ((Ag Gw ((Ag CP ((Ag (HP AK) (Ar _ _))))))))) Tryz.func173 (by kernel_rfl) Ma
noncomputable def Mu:Orc:=(ent 50 (ap1 Sh.f3v) (ent 173 (ap1 Sh.f3w) noO))
theorem LT:T1 Tryz.prog Gs false Mu Tryz.f105 (.tw .lf (.tw .lf .lf)) .pure Sh.f3x:=by unfold T1;intros;kernel_rfl
theorem Lq:AG Tryz.prog Gs 105 (ap1 Sh.f3x):=Ba mixed ((Ag MR ((Ag Lw (Ar _ _))))) Tryz.func105 (by kernel_rfl) LT
noncomputable def NJ:Orc:=noO
theorem Ni:T1 Tryz.prog Gs false NJ Tryz.f28 (.tw .lf (.tw .lf .lf)) .pure Sh.f13:=by unfold T1;intros;kernel_rfl
theorem GY:AG Tryz.prog Gs 28 (ap1 Sh.f13):=Ba mixed (Ar _ _) Tryz.func28 (by kernel_rfl) Ni
noncomputable def PJ:Orc:=noO
theorem Py:T1 Tryz.prog Gs false PJ Tryz.f219 (.tw .lf (.tw (.one (.loop [0] (.tw (.tw .lf (.tw .lf .lf)) (.one .lf)))) (.tw .lf .lf))) .keepN Sh.f14:=by unfold T1;intros;kernel_rfl
theorem HR:AG Tryz.prog Gs 219 (ap1 Sh.f14):=Ba mixed (Ar _ _) Tryz.func219 (by kernel_rfl) Py
noncomputable def NV:Orc:=(ent 219 (ap1 Sh.f14) noO)
theorem Nu:T1 Tryz.prog Gs false NV Tryz.f176 (.tw .lf (.tw .lf (.tw (.tw .lf (.one (.loop [0,3,4] (.tw (.tw .lf (.tw .lf .lf)) (.tw (.one (.tw .lf (.tw .lf (.one (.loop [0,3,4,5,6] (.tw (.tw .lf (.tw .lf .lf)) (.tw (.one .lf) .lf))))))) .lf))))) (.tw .lf .lf)))) .pureN Sh.f3:=by unfold T1;intros;kernel_rfl
theorem CM:AG Tryz.prog Gs 176 (ap1 Sh.f3):=Ba mixed ((Ag HR (Ar _ _))) Tryz.func176 (by kernel_rfl) Nu
noncomputable def Qz:Orc:=(ent 219 (ap1 Sh.f14) noO)
theorem Qo:T1 Tryz.prog Gs false Qz Tryz.f175 (.tw .lf (.tw .lf (.tw .lf (.tw (.tw .lf (.one (.loop [0,3,4] (.tw (.tw .lf (.tw .lf .lf)) (.tw (.one (.tw .lf (.tw (.tw .lf (.one (.loop [0,3,4,5,6,7] (.tw (.tw .lf (.tw .lf .lf)) (.tw (.one (.join [0,3,4,5,6,7] (.tw .lf (.tw .lf .lf)) .lf)) .lf))))) .lf))) .lf))))) (.tw .lf .lf))))) .pureN Sh.ff:=by unfold T1;intros;kernel_rfl
theorem DL:AG Tryz.prog Gs 175 (ap1 Sh.ff):=Ba mixed ((Ag HR (Ar _ _))) Tryz.func175 (by kernel_rfl) Qo
noncomputable def NU:Orc:=(ent 176 (ap1 Sh.f3) (ent 175 (ap1 Sh.ff) noO))
theorem Nt:T1 Tryz.prog Gs false NU Tryz.f109 (.tw .lf (.tw .lf .lf)) .keepN Sh.fl:=by unfold T1;intros;kernel_rfl
theorem EF:AG Tryz.prog Gs 109 (ap1 Sh.fl):=Ba mixed ((Ag CM ((Ag DL (Ar _ _))))) Tryz.func109 (by kernel_rfl) Nt
noncomputable def NT:Orc:=(ent 109 (ap1 Sh.fl) noO)
theorem Ns:T2 Tryz.prog Gs false NT Tryz.f119 (.tw .lf (.tw .lf (.tw .lf .lf))) .pureN Sh.fb:=by unfold T2;intros;kernel_rfl
theorem Dp:AG Tryz.prog Gs 119 (ap2 Sh.fb):=AY mixed ((Ag EF (Ar _ _))) Tryz.func119 (by kernel_rfl) Ns
noncomputable def Qx:Orc:=(ent 119 (ap2 Sh.fb) noO)
theorem Qm:T1 Tryz.prog Gs false Qx Tryz.f64 (.tw .lf (.tw .lf (.join [0,2,3] (.tw .lf (.tw .lf .lf)) (.tw .lf .lf)))) .pureN Sh.fg:=by unfold T1;intros;kernel_rfl
theorem DK:AG Tryz.prog Gs 64 (ap1 Sh.fg):=Ba mixed ((Ag Dp (Ar _ _))) Tryz.func64 (by kernel_rfl) Qm
noncomputable def PL:Orc:=(ent 176 (ap1 Sh.f3) (ent 175 (ap1 Sh.ff) noO))
theorem P0:T2 Tryz.prog Gs false PL Tryz.f213 (.tw .lf (.tw (.tw .lf (.tw (.tw .lf .lf) .lf)) (.tw (.reg [2,3,0,1,4,5,6]) .lf))) .pureN Sh.f3y:=by unfold T2;intros;kernel_rfl
theorem O2:AG Tryz.prog Gs 213 (ap2 Sh.f3y):=AY mixed ((Ag CM ((Ag DL (Ar _ _))))) Tryz.func213 (by kernel_rfl) P0
noncomputable def PF:Orc:=(ent 213 (ap2 Sh.f3y) (ent 119 (ap2 Sh.fb) noO))
theorem Pu:T2 Tryz.prog Gs false PF Tryz.f166 (.tw .lf (.tw (.reg [2,3,4,5,0,1,6,7]) .lf)) .pureN Sh.f3z:=by unfold T2;intros;kernel_rfl
theorem O0:AG Tryz.prog Gs 166 (ap2 Sh.f3z):=AY mixed ((Ag O2 ((Ag Dp (Ar _ _))))) Tryz.func166 (by kernel_rfl) Pu
noncomputable def PG:Orc:=(ent 64 (ap1 Sh.fg) (ent 166 (ap2 Sh.f3z) noO))
theorem Pv:T1 Tryz.prog Gs false PG Tryz.f98 (.tw .lf (.tw .lf .lf)) .pureN Sh.f4:=by unfold T1;intros;kernel_rfl
theorem Cc:AG Tryz.prog Gs 98 (ap1 Sh.f4):=Ba mixed ((Ag DK ((Ag O0 (Ar _ _))))) Tryz.func98 (by kernel_rfl) Pv
noncomputable def Qy:Orc:=noO
theorem Qn:T2 Tryz.prog Gs false Qy Tryz.f182 (.tw .lf (.tw .lf .lf)) .keep Sh.f7:=by unfold T2;intros;kernel_rfl
theorem F5:AG Tryz.prog Gs 182 (ap2 Sh.f7):=AY mixed (Ar _ _) Tryz.func182 (by kernel_rfl) Qn
noncomputable def PP:Orc:=(ent 176 (ap1 Sh.f3) (ent 182 (ap2 Sh.f7) (ent 175 (ap1 Sh.ff) noO)))
theorem P5:T2 Tryz.prog Gs false PP Tryz.f120 (.tw .lf (.tw .lf (.tw .lf (.tw .lf (.tw (.tw .lf (.one (.loop [5,6,7,8,9] (.tw (.tw .lf (.tw .lf .lf)) (.tw (.one (.tw .lf (.join [5,6,7,8,9,10] (.tw .lf (.tw .lf .lf)) (.join [5,6,7,8,9,10] (.tw .lf (.tw .lf .lf)) (.join [5,6,7,9,10] (.tw .lf (.tw .lf .lf)) .lf))))) .lf))))) (.tw .lf .lf)))))) .pureN Sh.f40:=by unfold T2;intros;kernel_rfl
theorem O6:AG Tryz.prog Gs 120 (ap2 Sh.f40):=AY mixed ((Ag CM ((Ag F5 ((Ag DL (Ar _ _))))))) Tryz.func120 (by kernel_rfl) P5
noncomputable def PO:Orc:=(ent 176 (ap1 Sh.f3) (ent 182 (ap2 Sh.f7) noO))
theorem P4:T2 Tryz.prog Gs false PO Tryz.f183 (.tw .lf (.tw .lf (.tw (.tw .lf (.one (.loop [5,6,7] (.tw (.tw .lf (.tw .lf .lf)) (.tw (.one (.tw .lf (.tw (.tw (.tw .lf (.tw (.tw .lf .lf) .lf)) (.tw .lf .lf)) .lf))) .lf))))) (.tw .lf .lf)))) .keep Sh.f41:=by unfold T2;intros;kernel_rfl
theorem O5:AG Tryz.prog Gs 183 (ap2 Sh.f41):=AY mixed ((Ag CM ((Ag F5 (Ar _ _))))) Tryz.func183 (by kernel_rfl) P4
noncomputable def PK:Orc:=(ent 183 (ap2 Sh.f41) (ent 176 (ap1 Sh.f3) (ent 182 (ap2 Sh.f7) (ent 175 (ap1 Sh.ff) noO))))
theorem Pz:T2 Tryz.prog Gs false PK Tryz.f121 (.tw .lf (.tw (.tw .lf (.tw (.tw .lf .lf) .lf)) (.tw .lf (.tw .lf (.tw .lf (.tw (.tw .lf (.one (.loop [6,7,8,9,10] (.tw (.tw .lf (.tw .lf .lf)) (.tw (.one (.tw .lf (.join [6,7,8,10,11] (.tw .lf (.tw .lf .lf)) (.join [6,7,8,10,11] (.tw .lf (.tw .lf .lf)) (.tw .lf (.join [6,7,8,9,10,11] (.tw .lf (.tw .lf .lf)) .lf)))))) .lf))))) (.tw .lf .lf))))))) .pureN Sh.f2c:=by unfold T2;intros;kernel_rfl
theorem O1:AG Tryz.prog Gs 121 (ap2 Sh.f2c):=AY mixed ((Ag O5 ((Ag CM ((Ag F5 ((Ag DL (Ar _ _))))))))) Tryz.func121 (by kernel_rfl) Pz
open Go.Proofs
set_option maxRecDepth 100000
noncomputable def PI:Orc:=(ent 120 (ap2 Sh.f40) (ent 119 (ap2 Sh.fb) (ent 121 (ap2 Sh.f2c) noO)))
theorem Px:T2 Tryz.prog Gs false PI Tryz.f63 (.tw .lf (.tw (.tw .lf (.tw (.tw (.reg [2,3,4,5,6,0,1,7,8]) .lf) .lf)) (.tw .lf (.tw (.tw .lf (.tw (.tw .lf .lf) .lf)) (.tw .lf (.tw .lf .lf)))))) .pureN Sh.f1:=by unfold T2;intros;kernel_rfl
theorem C1:AG Tryz.prog Gs 63 (ap2 Sh.f1):=AY mixed ((Ag O6 ((Ag Dp ((Ag O1 (Ar _ _))))))) Tryz.func63 (by kernel_rfl) Px
noncomputable def MC:Orc:=(ent 119 (ap2 Sh.fb) noO)
theorem Mi:T1 Tryz.prog Gs false MC Tryz.f97 (.tw .lf (.tw .lf .lf)) .pureN Sh.f6:=by unfold T1;intros;kernel_rfl
theorem Cg:AG Tryz.prog Gs 97 (ap1 Sh.f6):=Ba mixed ((Ag Dp (Ar _ _))) Tryz.func97 (by kernel_rfl) Mi
noncomputable def PE:Orc:=(ent 97 (ap1 Sh.f6) (ent 63 (ap2 Sh.f1) noO))
theorem Pt:T2 Tryz.prog Gs false PE Tryz.f172 (.tw .lf (.tw (.reg [1,2,0,3,4]) .lf)) .pureN Sh.fp:=by unfold T2;intros;kernel_rfl
theorem HQ:AG Tryz.prog Gs 172 (ap2 Sh.fp):=AY mixed ((Ag Cg ((Ag C1 (Ar _ _))))) Tryz.func172 (by kernel_rfl) Pt
noncomputable def PH:Orc:=(ent 172 (ap2 Sh.fp) noO)
theorem Pw:T2 Tryz.prog Gs false PH Tryz.f103 (.tw .lf (.tw .lf (.tw (.one (.tw .lf (.tw (.tw .lf .lf) (.tw .lf (.tw (.tw .lf .lf) .lf))))) (.tw .lf .lf)))) .pure Sh.f2:=by unfold T2;intros;kernel_rfl
theorem C0:AG Tryz.prog Gs 103 (ap2 Sh.f2):=AY mixed ((Ag HQ (Ar _ _))) Tryz.func103 (by kernel_rfl) Pw
noncomputable def Mw:Orc:=(ent 98 (ap1 Sh.f4) (ent 103 (ap2 Sh.f2) (ent 63 (ap2 Sh.f1) noO)))
theorem LV:T3 Tryz.prog Gs false Mw Tryz.f171 (.tw .lf (.tw .lf (.tw (.tw .lf (.one (.loop [0,4,5,7,8] (.tw (.tw .lf (.tw .lf .lf)) (.tw (.one (.tw .lf (.tw .lf (.tw .lf (.one (.loop [0,4,5,7,8,9,10,11] (.tw (.tw .lf (.tw .lf .lf)) (.join [0,4,5,7,8,9,10,11] (.one (.tw .lf (.join [0,4,5,7,8,9,10,11,12,13] (.tw .lf (.tw (.reg [0,1,2,3,4,5,6]) .lf)) (.tw .lf (.tw (.tw .lf (.tw .lf .lf)) (.tw .lf (.join [0,4,5,7,8,9,10,11,15] (.tw .lf (.tw (.reg [0,1,2,3,4,5,6]) .lf)) (.tw (.reg [0,1,2,3,4,5,6,7,8,9,10,11]) (.tw (.reg [0,1,2,3,4,5,6]) .lf))))))))) .lf)))))))) .lf))))) (.tw .lf .lf)))) .pureN Sh.f15:=by unfold T3;intros;kernel_rfl
theorem Ls:AG Tryz.prog Gs 171 (ap3 Sh.f15):=F3 mixed ((Ag Cc ((Ag C0 ((Ag C1 (Ar _ _))))))) Tryz.func171 (by kernel_rfl) LV
noncomputable def M7:Orc:=noO
theorem Md:T1 Tryz.prog Gs false M7 Tryz.f107 (.tw .lf (.tw (.tw .lf (.tw (.tw .lf .lf) .lf)) (.tw .lf .lf))) .pure Sh.f16:=by unfold T1;intros;kernel_rfl
theorem GN:AG Tryz.prog Gs 107 (ap1 Sh.f16):=Ba mixed (Ar _ _) Tryz.func107 (by kernel_rfl) Md
noncomputable def Qu:Orc:=(ent 171 (ap3 Sh.f15) (ent 107 (ap1 Sh.f16) (ent 98 (ap1 Sh.f4) (ent 97 (ap1 Sh.f6) (ent 63 (ap2 Sh.f1) (ent 172 (ap2 Sh.fp) noO))))))
theorem Qj:T1 Tryz.prog Gs false Qu Tryz.f102 (.tw .lf (.tw .lf (.tw (.tw .lf (.tw (.tw .lf .lf) .lf)) (.tw .lf (.tw .lf (.tw .lf (.tw .lf (.tw .lf (.tw .lf (.tw (.reg [0,1,2,3,4,5,7,8,9,6,10,12,13,14,11,15,16,17,18]) .lf)))))))))) .pureN Sh.f1s:=by unfold T1;intros;kernel_rfl
theorem PQ:AG Tryz.prog Gs 102 (ap1 Sh.f1s):=Ba mixed ((Ag Ls ((Ag GN ((Ag Cc ((Ag Cg ((Ag C1 ((Ag HQ (Ar _ _))))))))))))) Tryz.func102 (by kernel_rfl) Qj
noncomputable def KK:Orc:=(ent 102 (ap1 Sh.f1s) (ent 64 (ap1 Sh.fg) (ent 103 (ap2 Sh.f2) noO)))
theorem Kw:T2 Tryz.prog Gs false KK Tryz.f51 (.tw .lf (.tw .lf (.tw (.reg [2,3,0,1,4,5,6,9,10,7,8,11,12,13,14]) .lf))) .pure Sh.f42:=by unfold T2;intros;kernel_rfl
theorem JZ:AG Tryz.prog Gs 51 (ap2 Sh.f42):=AY mixed ((Ag PQ ((Ag DK ((Ag C0 (Ar _ _))))))) Tryz.func51 (by kernel_rfl) Kw
noncomputable def NK:Orc:=noO
theorem Nj:T1 Tryz.prog Gs false NK Tryz.f52 (.tw .lf (.tw .lf (.tw (.tw .lf (.one (.loop [1,3,4] (.tw (.tw .lf (.tw .lf .lf)) (.tw (.one (.tw .lf (.one (.loop [1,3,4,5] (.tw (.tw .lf (.tw .lf .lf)) (.tw (.one .lf) .lf)))))) .lf))))) (.tw .lf .lf)))) .pure Sh.f2e:=by unfold T1;intros;kernel_rfl
theorem MN:AG Tryz.prog Gs 52 (ap1 Sh.f2e):=Ba mixed (Ar _ _) Tryz.func52 (by kernel_rfl) Nj
noncomputable def JG:Orc:=(ent 51 (ap2 Sh.f42) (ent 52 (ap1 Sh.f2e) noO))
theorem J4:T3 Tryz.prog Gs false JG Tryz.f18 (.tw .lf (.tw (.tw .lf (.tw (.tw .lf .lf) .lf)) (.tw (.tw .lf (.tw (.tw .lf .lf) .lf)) (.tw .lf .lf)))) .pure Sh.f43:=by unfold T3;intros;kernel_rfl
theorem J1:AG Tryz.prog Gs 18 (ap3 Sh.f43):=F3 mixed ((Ag JZ ((Ag MN (Ar _ _))))) Tryz.func18 (by kernel_rfl) J4
noncomputable def Mv:Orc:=(ent 104 (ap1 Sh.f3u) (ent 105 (ap1 Sh.f3x) (ent 28 (ap1 Sh.f13) (ent 18 (ap3 Sh.f43) noO))))
theorem LU:T3 Tryz.prog Gs false Mv Tryz.f53 (.tw .lf (.tw (.tw .lf (.tw (.tw .lf .lf) .lf)) (.tw (.tw .lf (.tw (.tw .lf .lf) .lf)) (.tw .lf .lf)))) .pure Sh.f44:=by unfold T3;intros;kernel_rfl
theorem Lr:AG Tryz.prog Gs 53 (ap3 Sh.f44):=F3 mixed ((Ag JY ((Ag Lq ((Ag GY ((Ag J1 (Ar _ _))))))))) Tryz.func53 (by kernel_rfl) LU
noncomputable def KM:Orc:=(ent 63 (ap2 Sh.f1) (ent 64 (ap1 Sh.fg) noO))
theorem Ky:T1 Tryz.prog Gs false KM Tryz.f174 (.tw .lf (.tw .lf (.tw (.tw .lf (.one (.loop [0,3,4] (.tw (.tw .lf (.tw .lf .lf)) (.tw (.one (.tw .lf (.one (.loop [0,3,4,5] (.tw (.tw .lf (.tw .lf .lf)) (.join [0,3,4,5] (.one (.tw .lf (.tw .lf (.tw (.reg [3,4,5,6,7,8,9,10,11,12,0,1,2,13,14]) (.tw .lf (.tw (.reg [8,3,4,5,6,7,9,0,1,2,10,11]) .lf)))))) .lf)))))) .lf))))) (.tw .lf .lf)))) .pureN Sh.f45:=by unfold T1;intros;kernel_rfl
theorem Kb:AG Tryz.prog Gs 174 (ap1 Sh.f45):=Ba mixed ((Ag C1 ((Ag DK (Ar _ _))))) Tryz.func174 (by kernel_rfl) Ky
noncomputable def Mz:Orc:=(ent 174 (ap1 Sh.f45) noO)
theorem LY:T1 Tryz.prog Gs false Mz Tryz.f106 (.tw .lf (.tw (.reg [0,1,2,3,4,5,6,7,8]) .lf)) .pureN Sh.f46:=by unfold T1;intros;kernel_rfl
theorem Lu:AG Tryz.prog Gs 106 (ap1 Sh.f46):=Ba mixed ((Ag Kb (Ar _ _))) Tryz.func106 (by kernel_rfl) LY
noncomputable def NL (m:Nat):Orc:=ent 108 (ap4 (Sh.fm m)) (ent 98 (ap1 Sh.f4) (ent 63 (ap2 Sh.f1) noO))
theorem Nk (m:Nat):T4 Tryz.prog Gs false (NL m) Tryz.f108 (.tw .lf (.tw (.tw .lf (.tw (.tw .lf .lf) .lf)) (.tw .lf (.tw .lf (.tw (.tw .lf (.one (.loop [0,1,6,7,9,10,11] (.tw (.tw .lf (.tw .lf .lf)) (.join [0,1,6,7,9,10,11] (.one (.tw (.reg [0,2,3,4,1,5]) (.join [0,1,6,7,9,10,11,12,13] (.tw .lf (.tw .lf .lf)) (.join [0,1,6,7,9,10,11,12,13] (.tw .lf (.tw .lf .lf)) (.tw .lf (.tw .lf (.tw .lf (.tw .lf (.tw .lf .lf))))))))) .lf))))) (.tw .lf .lf)))))) .pureN (Sh.fm (m+1)):=by unfold T4;intros;kernel_rfl
theorem GZ:∀m,AG Tryz.prog Gs 108 (ap4 (Sh.fm m))
 | 0=>none_ok4 fun _ _ _ _ _=>rfl
 | m+1=>fn_ok4 mixed (Ag (GZ m) ((Ag Cc ((Ag C1 (Ar _ _)))))) Tryz.func108 (by kernel_rfl) (Nk m)
noncomputable def My:Orc:=(ent 103 (ap2 Sh.f2) noO)
theorem LX:T2 Tryz.prog Gs false My Tryz.f165 (.tw .lf (.tw .lf (.tw (.tw .lf (.tw (.tw .lf .lf) .lf)) (.tw .lf .lf)))) .pure Sh.f2f:=by unfold T2;intros;kernel_rfl
theorem Lt:AG Tryz.prog Gs 165 (ap2 Sh.f2f):=AY mixed ((Ag C0 (Ar _ _))) Tryz.func165 (by kernel_rfl) LX
noncomputable def NN:Orc:=(ent 165 (ap2 Sh.f2f) noO)
theorem Nm:T1 Tryz.prog Gs false NN Tryz.f95 (.tw .lf (.tw .lf (.tw (.tw .lf (.one (.loop [0,3,4] (.tw (.tw .lf (.tw .lf .lf)) (.tw (.one (.tw .lf (.tw (.one (.loop [0,3,4,5] (.tw (.tw (.reg [0,1,2,3,4,5,6,7,8,9,10,11,12,13,14,15]) (.tw .lf .lf)) (.one .lf)))) (.tw (.reg [0,1,2,3,4,5,6,7,8,9,10,11,12,13,14,15,16]) (.tw .lf (.join [0,3,4,5,7] (.tw .lf (.tw .lf .lf)) (.reg [0,1,2,3,4,5,6,7,8,9,10,11,12]))))))) .lf))))) (.tw .lf (.tw (.tw .lf (.one (.loop [3,8,9] (.tw (.tw .lf (.tw .lf .lf)) (.join [3,8,9] (.one (.tw .lf (.tw .lf .lf))) .lf))))) (.tw .lf .lf)))))) .pureN Sh.f1t:=by unfold T1;intros;kernel_rfl
theorem Ha:AG Tryz.prog Gs 95 (ap1 Sh.f1t):=Ba mixed ((Ag Lt (Ar _ _))) Tryz.func95 (by kernel_rfl) Nm
noncomputable def NM:Orc:=(ent 106 (ap1 Sh.f46) (ent 64 (ap1 Sh.fg) (ent 103 (ap2 Sh.f2) (ent 107 (ap1 Sh.f16) (ent 98 (ap1 Sh.f4) (ent 97 (ap1 Sh.f6) (ent 108 (ap4 (Sh.fm AK)) (ent 95 (ap1 Sh.f1t) noO))))))))
theorem Nl:T2 Tryz.prog Gs false NM Tryz.f54 (.tw .lf (.tw (.tw .lf (.tw (.tw .lf .lf) .lf)) (.tw (.tw .lf (.tw (.tw .lf .lf) .lf)) (.tw .lf (.tw .lf .lf))))) .pureN Sh.f48:=by unfold T2;intros;kernel_rfl
theorem MO:AG Tryz.prog Gs 54 (ap2 Sh.f48):=AY mixed ((Ag Lu ((Ag DK ((Ag C0 ((Ag GN ((Ag Cc ((Ag Cg ((Ag (GZ AK) ((Ag Ha (Ar _ _))))))))))))))))) Tryz.func54 (by kernel_rfl) Nl
noncomputable def PN:Orc:=(ent 109 (ap1 Sh.fl) noO)
theorem P3:T2 Tryz.prog Gs false PN Tryz.f56 (.tw .lf (.tw (.tw .lf (.tw (.tw .lf .lf) .lf)) (.tw .lf (.tw .lf (.tw (.tw .lf (.one (.loop [0,1,6,7,8] (.tw (.tw .lf (.tw .lf .lf)) (.tw (.one (.tw .lf (.reg [0,1,2,3,4,5,6,11,12,7,8,9,10,13]))) .lf))))) (.tw .lf .lf)))))) .pureN Sh.f49:=by unfold T2;intros;kernel_rfl
theorem O4:AG Tryz.prog Gs 56 (ap2 Sh.f49):=AY mixed ((Ag EF (Ar _ _))) Tryz.func56 (by kernel_rfl) P3
noncomputable def NS:Orc:=(ent 56 (ap2 Sh.f49) noO)
theorem Nr:T1 Tryz.prog Gs false NS Tryz.f22 (.tw .lf (.tw .lf (.tw .lf (.tw (.one (.loop [1,3,4] (.one (.tw .lf (.tw .lf (.tw .lf (.tw .lf (.tw .lf .lf)))))))) (.tw (.tw .lf (.tw (.tw .lf .lf) .lf)) (.tw .lf .lf)))))) .pure Sh.f2g:=by unfold T1;intros;kernel_rfl
theorem MS:AG Tryz.prog Gs 22 (ap1 Sh.f2g):=Ba mixed ((Ag O4 (Ar _ _))) Tryz.func22 (by kernel_rfl) Nr
noncomputable def Mt:Orc:=(ent 53 (ap3 Sh.f44) (ent 54 (ap2 Sh.f48) (ent 22 (ap1 Sh.f2g) noO)))
theorem LS:T2 Tryz.prog Gs false Mt Tryz.f19 (.tw .lf (.tw .lf (.tw (.tw .lf (.tw (.tw .lf .lf) .lf)) (.tw .lf (.tw .lf (.tw (.tw .lf (.one (.loop [7,9,10] (.tw (.tw .lf (.tw .lf .lf)) (.tw (.one (.reg [1,2,3,4,5,6,9,10,11,12,13,14,0,7,8,15,16,17])) .lf))))) (.tw .lf .lf))))))) .pure Sh.f17:=by unfold T2;intros;kernel_rfl
theorem Lp:AG Tryz.prog Gs 19 (ap2 Sh.f17):=AY mixed ((Ag Lr ((Ag MO ((Ag MS (Ar _ _))))))) Tryz.func19 (by kernel_rfl) LS
noncomputable def Vu:Orc:=(ent 37 (ap1 Sh.f20) noO)
theorem UF:T1 Tryz.prog Gs false Vu Tryz.f35 (.tw .lf (.tw .lf (.tw .lf (.tw (.reg [0,1,2,3,4,5,6,7,8,9,10,11]) .lf)))) .pure Sh.f18:=by unfold T1;intros;kernel_rfl
theorem TU:AG Tryz.prog Gs 35 (ap1 Sh.f18):=Ba mixed ((Ag Jm (Ar _ _))) Tryz.func35 (by kernel_rfl) UF
theorem L6:AG Tryz.prog Gs 16 (ap0 Sl.gliderref11_Wide):=by rw [Sl.gliderref11_Wide_eq];exact ML
theorem Kg:AG Tryz.prog Gs 13 (ap2 Sl.life6_Read):=by rw [Sl.life6_Read_eq];exact TT
theorem Kh:AG Tryz.prog Gs 19 (ap2 Sl.gliderref12_Life6):=by rw [Sl.gliderref12_Life6_eq];exact Lp
theorem SY:AG Tryz.prog Gs 35 (ap1 Sl.life6_Hint):=by rw [Sl.life6_Hint_eq];exact TU
open Go.Proofs
set_option maxRecDepth 100000
noncomputable def ME:Orc:=(ent 16 (ap0 Sl.gliderref11_Wide) (ent 13 (ap2 Sl.life6_Read) (ent 19 (ap2 Sl.gliderref12_Life6) (ent 35 (ap1 Sl.life6_Hint) noO))))
theorem Mk:T0 Tryz.prog Gs false ME Tryz.f12 (.tw .lf (.tw .lf (.tw .lf (.tw .lf (.tw .lf (.tw .lf (.tw .lf (.tw .lf (.tw .lf .lf))))))))) .pure Sh.f19:=by unfold T0;intros;kernel_rfl
theorem L4:AG Tryz.prog Gs 12 (ap0 Sh.f19):=fn_ok0 mixed ((Ag L6 ((Ag Kg ((Ag Kh ((Ag SY (Ar _ _))))))))) Tryz.func12 (by kernel_rfl) Mk
noncomputable def KP:Orc:=noO
theorem K5:T2 Tryz.prog Gs false KP Tryz.f92 (.tw .lf (.tw .lf (.tw (.one (.loop [0,1,5] (.tw (.tw (.reg [0,1,2,3,4,5,6,7,8,9,10,11,12,13,14,15,16,17,18]) (.tw .lf .lf)) (.one .lf)))) (.tw .lf .lf)))) .keep Sh.f4a:=by unfold T2;intros;kernel_rfl
theorem Kd:AG Tryz.prog Gs 92 (ap2 Sh.f4a):=AY mixed (Ar _ _) Tryz.func92 (by kernel_rfl) K5
noncomputable def Ms:Orc:=noO
theorem LR:T1 Tryz.prog Gs false Ms Tryz.f42 (.tw .lf (.tw .lf .lf)) .pure Sh.f8:=by unfold T1;intros;kernel_rfl
theorem Cf:AG Tryz.prog Gs 42 (ap1 Sh.f8):=Ba mixed (Ar _ _) Tryz.func42 (by kernel_rfl) LR
noncomputable def NE:Orc:=(ent 42 (ap1 Sh.f8) noO)
theorem Nb:T1 Tryz.prog Gs false NE Tryz.f61 (.tw .lf (.tw .lf (.tw (.tw .lf (.tw .lf .lf)) (.tw .lf .lf)))) .pure Sh.fc:=by unfold T1;intros;kernel_rfl
theorem Do:AG Tryz.prog Gs 61 (ap1 Sh.fc):=Ba mixed ((Ag Cf (Ar _ _))) Tryz.func61 (by kernel_rfl) Nb
noncomputable def PA:Orc:=(ent 92 (ap2 Sh.f4a) (ent 61 (ap1 Sh.fc) noO))
theorem Pp:T2 Tryz.prog Gs false PA Tryz.f41 (.tw .lf (.tw (.tw .lf (.tw (.tw .lf .lf) .lf)) (.tw .lf (.tw .lf (.tw (.tw .lf (.tw (.tw .lf .lf) .lf)) (.tw .lf .lf)))))) .pure Sh.fq:=by unfold T2;intros;kernel_rfl
theorem Ox:AG Tryz.prog Gs 41 (ap2 Sh.fq):=AY mixed ((Ag Kd ((Ag Do (Ar _ _))))) Tryz.func41 (by kernel_rfl) Pp
noncomputable def PC:Orc:=(ent 42 (ap1 Sh.f8) (ent 61 (ap1 Sh.fc) noO))
theorem Pr:T1 Tryz.prog Gs false PC Tryz.f40 (.tw .lf (.tw (.tw .lf (.tw (.tw .lf .lf) .lf)) (.join [1,2] (.tw .lf (.tw (.tw .lf (.tw .lf (.tw (.tw .lf .lf) .lf))) .lf)) (.tw (.tw .lf (.tw (.tw .lf .lf) .lf)) (.tw .lf (.tw .lf .lf)))))) .pure Sh.fr:=by unfold T1;intros;kernel_rfl
theorem Oz:AG Tryz.prog Gs 40 (ap1 Sh.fr):=Ba mixed ((Ag Cf ((Ag Do (Ar _ _))))) Tryz.func40 (by kernel_rfl) Pr
noncomputable def NF:Orc:=(ent 42 (ap1 Sh.f8) noO)
theorem Nc:T2 Tryz.prog Gs false NF Tryz.f43 (.tw .lf (.tw .lf .lf)) .pure Sh.f1u:=by unfold T2;intros;kernel_rfl
theorem GX:AG Tryz.prog Gs 43 (ap2 Sh.f1u):=AY mixed ((Ag Cf (Ar _ _))) Tryz.func43 (by kernel_rfl) Nc
noncomputable def NG:Orc:=(ent 42 (ap1 Sh.f8) (ent 93 (ap1 Sh.f1p) (ent 61 (ap1 Sh.fc) noO)))
theorem Nf:T1 Tryz.prog Gs false NG Tryz.f44 (.tw .lf (.tw (.tw .lf (.tw (.tw .lf .lf) .lf)) (.tw .lf (.tw (.one (.loop [1,2,4] (.tw (.tw .lf (.tw .lf .lf)) (.one .lf)))) (.tw (.tw .lf (.tw (.tw .lf .lf) .lf)) (.tw (.reg [0,7,1,2,3,4,5,6,8]) .lf)))))) .pure Sh.f1a:=by unfold T1;intros;kernel_rfl
theorem MK:AG Tryz.prog Gs 44 (ap1 Sh.f1a):=Ba mixed ((Ag Cf ((Ag Hb ((Ag Do (Ar _ _))))))) Tryz.func44 (by kernel_rfl) Nf
noncomputable def KQ:Orc:=noO
theorem K6:T2 Tryz.prog Gs false KQ Tryz.f163 (.tw .lf (.tw .lf (.tw (.tw .lf (.one (.loop [0,1,5,6] (.tw (.tw .lf (.tw .lf .lf)) (.tw (.one .lf) .lf))))) (.tw .lf .lf)))) .keep Sh.f4b:=by unfold T2;intros;kernel_rfl
theorem Ke:AG Tryz.prog Gs 163 (ap2 Sh.f4b):=AY mixed (Ar _ _) Tryz.func163 (by kernel_rfl) K6
noncomputable def PM:Orc:=(ent 109 (ap1 Sh.fl) noO)
theorem P1:T3 Tryz.prog Gs false PM Tryz.f164 (.tw .lf (.tw .lf (.tw .lf (.tw (.tw .lf (.one (.loop [0,1,7,8,9] (.tw (.tw .lf (.tw .lf .lf)) (.tw (.one (.tw .lf .lf)) .lf))))) (.tw .lf .lf))))) .pureN Sh.f4c:=by unfold T3;intros;kernel_rfl
theorem O3:AG Tryz.prog Gs 164 (ap3 Sh.f4c):=F3 mixed ((Ag EF (Ar _ _))) Tryz.func164 (by kernel_rfl) P1
noncomputable def MA:Orc:=(ent 163 (ap2 Sh.f4b) (ent 164 (ap3 Sh.f4c) (ent 97 (ap1 Sh.f6) noO)))
theorem Mg:T1 Tryz.prog Gs false MA Tryz.f94 (.tw .lf (.tw .lf (.tw .lf (.join [2,4,5] (.tw .lf (.tw .lf .lf)) (.tw (.tw .lf (.tw (.tw .lf .lf) .lf)) (.tw (.tw .lf (.tw (.tw .lf .lf) .lf)) (.tw .lf (.tw (.tw .lf (.one (.loop [2,4,5,6,7] (.tw (.tw .lf (.tw .lf .lf)) (.tw (.one .lf) .lf))))) (.tw .lf (.tw (.tw .lf (.tw (.tw .lf .lf) .lf)) (.tw .lf .lf))))))))))) .pureN Sh.f4d:=by unfold T1;intros;kernel_rfl
theorem L1:AG Tryz.prog Gs 94 (ap1 Sh.f4d):=Ba mixed ((Ag Ke ((Ag O3 ((Ag Cg (Ar _ _))))))) Tryz.func94 (by kernel_rfl) Mg
noncomputable def PB:Orc:=(ent 43 (ap2 Sh.f1u) (ent 42 (ap1 Sh.f8) (ent 61 (ap1 Sh.fc) (ent 94 (ap1 Sh.f4d) noO))))
theorem Pq:T2 Tryz.prog Gs false PB Tryz.f45 (.tw .lf (.tw (.tw .lf (.tw (.tw .lf .lf) .lf)) (.tw .lf (.tw .lf (.join [2,4,5,6,7] (.tw .lf (.tw .lf .lf)) (.tw .lf (.tw (.one (.loop [2,4,5,6,7,8] (.tw (.tw .lf (.tw .lf .lf)) (.one (.tw (.tw .lf (.tw (.tw .lf .lf) .lf)) (.tw (.tw .lf (.tw (.tw .lf (.tw .lf .lf)) .lf)) .lf)))))) (.tw (.tw .lf (.tw (.tw .lf .lf) .lf)) (.tw .lf (.tw (.reg [0,2,1,3]) .lf)))))))))) .pureN Sh.fx:=by unfold T2;intros;kernel_rfl
theorem Oy:AG Tryz.prog Gs 45 (ap2 Sh.fx):=AY mixed ((Ag GX ((Ag Cf ((Ag Do ((Ag L1 (Ar _ _))))))))) Tryz.func45 (by kernel_rfl) Pq
noncomputable def KI:Orc:=noO
theorem Ku:T4 Tryz.prog Gs false KI Tryz.f46 (.tw .lf (.tw (.tw .lf (.tw (.tw (.reg [0,5,1,2,3,4,6,7]) .lf) .lf)) (.tw (.tw .lf (.tw (.tw (.reg [0,4,1,2,3,5,6]) .lf) .lf)) (.tw .lf .lf)))) .pureN Sh.f1b:=by unfold T4;intros;kernel_rfl
theorem JX:AG Tryz.prog Gs 46 (ap4 Sh.f1b):=fn_ok4 mixed (Ar _ _) Tryz.func46 (by kernel_rfl) Ku
noncomputable def MD:Orc:=noO
theorem Mj:T1 Tryz.prog Gs false MD Tryz.f55 (.tw .lf (.tw .lf .lf)) .keep Sh.f4e:=by unfold T1;intros;kernel_rfl
theorem L3:AG Tryz.prog Gs 55 (ap1 Sh.f4e):=Ba mixed (Ar _ _) Tryz.func55 (by kernel_rfl) Mj
noncomputable def MB:Orc:=(ent 55 (ap1 Sh.f4e) noO)
theorem Mh:T1 Tryz.prog Gs false MB Tryz.f21 (.tw .lf (.tw .lf .lf)) .pure Sh.f2h:=by unfold T1;intros;kernel_rfl
theorem L2:AG Tryz.prog Gs 21 (ap1 Sh.f2h):=Ba mixed ((Ag L3 (Ar _ _))) Tryz.func21 (by kernel_rfl) Mh
noncomputable def KL:Orc:=(ent 98 (ap1 Sh.f4) (ent 97 (ap1 Sh.f6) (ent 103 (ap2 Sh.f2) noO)))
theorem Kx:T2 Tryz.prog Gs false KL Tryz.f96 (.tw .lf (.tw .lf (.tw .lf (.tw .lf .lf)))) .pure Sh.f4f:=by unfold T2;intros;kernel_rfl
theorem Ka:AG Tryz.prog Gs 96 (ap2 Sh.f4f):=AY mixed ((Ag Cc ((Ag Cg ((Ag C0 (Ar _ _))))))) Tryz.func96 (by kernel_rfl) Kx
noncomputable def Mx (m:Nat):Orc:=ent 99 (ap5 (Sh.fs m)) (ent 98 (ap1 Sh.f4) (ent 103 (ap2 Sh.f2) (ent 63 (ap2 Sh.f1) noO)))
theorem LW (m:Nat):T5 Tryz.prog Gs false (Mx m) Tryz.f99 (.tw .lf (.tw (.tw .lf (.tw (.tw .lf .lf) .lf)) (.tw .lf (.tw .lf (.tw (.tw .lf (.one (.loop [0,1,4,7,8,12,13,14] (.tw (.tw .lf (.tw .lf .lf)) (.join [0,1,4,7,8,12,13,14] (.one (.tw (.reg [0,2,3,4,1,5]) (.join [0,1,4,7,8,12,13,14,15,16] (.tw .lf (.tw .lf .lf)) (.join [0,1,4,7,8,12,13,14,15,16] (.tw .lf (.tw .lf .lf)) (.tw .lf (.tw (.tw .lf (.one (.loop [0,1,4,7,8,12,13,14,15,16,17,18] (.tw (.tw .lf (.tw .lf .lf)) (.join [0,1,4,7,8,12,13,14,15,16,17,18] (.one (.tw (.reg [0,1,2,3,4,5,6,7,8,14,15,16,9,10,11,12,13,17,18,19,20,21,22,23,24,25,26,27,28,29,30,36,37,38,31,32,33,34,35,39,40,41]) (.tw .lf .lf))) .lf))))) (.join [0,1,4,7,8,12,13,14,15,16,17] (.tw .lf (.tw .lf .lf)) (.tw .lf (.tw .lf .lf))))))))) .lf))))) (.tw .lf (.tw .lf .lf))))))) .keep (Sh.fs (m+1)):=by unfold T5;intros;kernel_rfl
theorem GK:∀m,AG Tryz.prog Gs 99 (ap5 (Sh.fs m))
 | 0=>QZ fun _ _ _ _ _ _=>rfl
 | m+1=>SF mixed (Ag (GK m) ((Ag Cc ((Ag C0 ((Ag C1 (Ar _ _)))))))) Tryz.func99 (by kernel_rfl) (LW m)
noncomputable def M9:Orc:=(ent 170 (ap1 Sh.fk) noO)
theorem Mf:T2 Tryz.prog Gs false M9 Tryz.f214 (.tw .lf (.tw .lf .lf)) .keep Sh.f4h:=by unfold T2;intros;kernel_rfl
theorem L0:AG Tryz.prog Gs 214 (ap2 Sh.f4h):=AY mixed ((Ag CP (Ar _ _))) Tryz.func214 (by kernel_rfl) Mf
noncomputable def M8:Orc:=noO
theorem Me:T3 Tryz.prog Gs false M8 Tryz.f216 (.tw .lf (.tw .lf (.tw (.tw .lf (.tw (.tw .lf .lf) .lf)) (.tw .lf .lf)))) .keep Sh.f4i:=by unfold T3;intros;kernel_rfl
theorem Lz:AG Tryz.prog Gs 216 (ap3 Sh.f4i):=F3 mixed (Ar _ _) Tryz.func216 (by kernel_rfl) Me
noncomputable def KN:Orc:=(ent 214 (ap2 Sh.f4h) (ent 215 (ap2 Sh.f1r) (ent 216 (ap3 Sh.f4i) noO)))
theorem Kz:T2 Tryz.prog Gs false KN Tryz.f168 (.tw .lf (.tw .lf (.tw (.tw .lf (.tw (.tw .lf .lf) .lf)) (.tw (.one (.loop [1,6] (.tw (.tw .lf (.tw .lf .lf)) (.one (.tw .lf (.tw (.tw .lf (.one (.loop [1,6,7,8] (.tw (.tw .lf (.tw .lf .lf)) (.tw (.one .lf) .lf))))) (.tw .lf .lf))))))) (.tw .lf .lf))))) .pureN Sh.f4j:=by unfold T2;intros;kernel_rfl
theorem Kc:AG Tryz.prog Gs 168 (ap2 Sh.f4j):=AY mixed ((Ag L0 ((Ag Gw ((Ag Lz (Ar _ _))))))) Tryz.func168 (by kernel_rfl) Kz
noncomputable def NO:Orc:=noO
theorem Nn:T2 Tryz.prog Gs false NO Tryz.f217 (.tw .lf (.tw (.tw .lf (.one (.loop [0,3,5] (.tw (.tw .lf (.tw .lf .lf)) (.tw (.one (.tw (.reg [0,1,2,3,4,5]) (.tw (.tw .lf .lf) .lf))) .lf))))) (.tw .lf .lf))) .pure Sh.f4k:=by unfold T2;intros;kernel_rfl
theorem MP:AG Tryz.prog Gs 217 (ap2 Sh.f4k):=AY mixed (Ar _ _) Tryz.func217 (by kernel_rfl) Nn
noncomputable def M0 (m:Nat):Orc:=ent 169 (ap5 (Sh.fy m)) (ent 217 (ap2 Sh.f4k) noO)
theorem LZ (m:Nat):T5 Tryz.prog Gs false (M0 m) Tryz.f169 (.tw .lf (.tw (.tw .lf (.tw (.tw .lf .lf) .lf)) (.tw (.tw .lf (.tw (.tw (.reg [0,1,2,3,4,5,6,7,8]) .lf) .lf)) (.tw .lf (.tw (.tw .lf (.one (.loop [0,1,2,3,4,13,14] (.tw (.tw .lf (.tw .lf .lf)) (.tw (.one .lf) .lf))))) (.tw .lf (.join [2,3,4,15] (.tw .lf (.tw (.tw .lf .lf) .lf)) (.tw .lf (.tw .lf .lf))))))))) .keep (Sh.fy (m+1)):=by unfold T5;intros;kernel_rfl
theorem GL:∀m,AG Tryz.prog Gs 169 (ap5 (Sh.fy m))
 | 0=>QZ fun _ _ _ _ _ _=>rfl
 | m+1=>SF mixed (Ag (GL m) ((Ag MP (Ar _ _)))) Tryz.func169 (by kernel_rfl) (LZ m)
noncomputable def Qw:Orc:=(ent 167 (ap1 Sh.f1q) (ent 168 (ap2 Sh.f4j) (ent 170 (ap1 Sh.fk) (ent 169 (ap5 (Sh.fy AK)) noO))))
theorem Ql:T2 Tryz.prog Gs false Qw Tryz.f100 (.tw .lf (.tw (.tw .lf (.tw (.tw .lf .lf) .lf)) (.tw .lf (.tw (.reg [1,2,0,3,4,5,6,7,8,9,10,11,12,13,14,15]) (.tw .lf .lf))))) .pureN Sh.f4l:=by unfold T2;intros;kernel_rfl
theorem PT:AG Tryz.prog Gs 100 (ap2 Sh.f4l):=AY mixed ((Ag GM ((Ag Kc ((Ag CP ((Ag (GL AK) (Ar _ _))))))))) Tryz.func100 (by kernel_rfl) Ql
noncomputable def Qv:Orc:=(ent 21 (ap1 Sh.f2h) (ent 95 (ap1 Sh.f1t) (ent 96 (ap2 Sh.f4f) (ent 98 (ap1 Sh.f4) (ent 97 (ap1 Sh.f6) (ent 99 (ap5 (Sh.fs AK)) (ent 100 (ap2 Sh.f4l) noO)))))))
theorem Qk:T1 Tryz.prog Gs false Qv Tryz.f47 (.tw .lf (.tw (.tw .lf (.one (.loop [0,2,4] (.tw (.tw .lf (.tw .lf .lf)) (.tw (.one (.tw .lf (.tw (.tw .lf .lf) .lf))) .lf))))) (.tw .lf (.tw .lf (.tw (.tw .lf (.one (.loop [2,5,6,7] (.tw (.tw .lf (.tw .lf .lf)) (.tw (.one (.one (.loop [2,5,6,7] (.tw (.tw .lf (.tw .lf .lf)) (.one .lf))))) .lf))))) (.tw (.tw .lf (.tw (.tw .lf .lf) .lf)) (.tw .lf (.tw .lf (.tw .lf .lf))))))))) .pureN Sh.f2j:=by unfold T1;intros;kernel_rfl
theorem PR:AG Tryz.prog Gs 47 (ap1 Sh.f2j):=Ba mixed ((Ag L2 ((Ag Ha ((Ag Ka ((Ag Cc ((Ag Cg ((Ag (GK AK) ((Ag PT (Ar _ _))))))))))))))) Tryz.func47 (by kernel_rfl) Qk
noncomputable def ND:Orc:=(ent 28 (ap1 Sh.f13) (ent 41 (ap2 Sh.fq) (ent 40 (ap1 Sh.fr) (ent 42 (ap1 Sh.f8) (ent 43 (ap2 Sh.f1u) (ent 44 (ap1 Sh.f1a) (ent 45 (ap2 Sh.fx) (ent 46 (ap4 Sh.f1b) (ent 47 (ap1 Sh.f2j) noO)))))))))
theorem Na:T2 Tryz.prog Gs false ND Tryz.f14 (.tw .lf (.tw (.tw .lf (.tw (.tw .lf .lf) .lf)) (.tw .lf (.tw .lf (.tw .lf (.tw (.one (.loop [3,4,7,8,9] (.tw (.tw .lf (.tw .lf .lf)) (.one (.tw (.tw .lf (.tw (.tw .lf (.tw .lf (.tw .lf .lf))) .lf)) (.tw .lf (.tw .lf (.tw .lf (.reg [0,1,2,3,4,5,6,7,8,9]))))))))) (.tw (.tw .lf (.tw (.tw .lf .lf) .lf)) (.tw .lf (.tw .lf .lf))))))))) .pureN Sh.f1d:=by unfold T2;intros;kernel_rfl
theorem MJ:AG Tryz.prog Gs 14 (ap2 Sh.f1d):=AY mixed ((Ag GY ((Ag Ox ((Ag Oz ((Ag Cf ((Ag GX ((Ag MK ((Ag Oy ((Ag JX ((Ag PR (Ar _ _))))))))))))))))))) Tryz.func14 (by kernel_rfl) Na
open Go.Proofs
set_option maxRecDepth 100000
noncomputable def M5:Orc:=noO
theorem Mb:T2 Tryz.prog Gs false M5 Tryz.f101 (.tw .lf (.tw (.tw .lf (.tw (.tw .lf .lf) .lf)) (.tw (.tw .lf (.one (.loop [0,1,5] (.tw (.tw .lf (.tw .lf .lf)) (.tw (.one (.tw (.reg [0,1,2,3,4,5,6,7,8]) (.tw (.tw .lf .lf) .lf))) .lf))))) (.tw .lf .lf)))) .keep Sh.f4m:=by unfold T2;intros;kernel_rfl
theorem Ly:AG Tryz.prog Gs 101 (ap2 Sh.f4m):=AY mixed (Ar _ _) Tryz.func101 (by kernel_rfl) Mb
noncomputable def NP:Orc:=(ent 101 (ap2 Sh.f4m) noO)
theorem No:T2 Tryz.prog Gs false NP Tryz.f48 (.tw .lf (.tw .lf .lf)) .pure Sh.f4n:=by unfold T2;intros;kernel_rfl
theorem MQ:AG Tryz.prog Gs 48 (ap2 Sh.f4n):=AY mixed ((Ag Ly (Ar _ _))) Tryz.func48 (by kernel_rfl) No
noncomputable def NI:Orc:=(ent 48 (ap2 Sh.f4n) noO)
theorem Nh:T2 Tryz.prog Gs false NI Tryz.f15 (.tw .lf (.tw .lf .lf)) .pure Sh.f1e:=by unfold T2;intros;kernel_rfl
theorem MM:AG Tryz.prog Gs 15 (ap2 Sh.f1e):=AY mixed ((Ag MQ (Ar _ _))) Tryz.func15 (by kernel_rfl) Nh
theorem Ki:AG Tryz.prog Gs 12 (ap0 Sl.gliderlaw17_alive):=by rw [Sl.gliderlaw17_alive_eq];exact L4
theorem L5:AG Tryz.prog Gs 14 (ap2 Sl.gliderref17_Read):=by rw [Sl.gliderref17_Read_eq];exact MJ
theorem L7:AG Tryz.prog Gs 15 (ap2 Sl.gliderref11_Same):=by rw [Sl.gliderref11_Same_eq];exact MM
noncomputable def IV:Orc:=(ent 12 (ap0 Sl.gliderlaw17_alive) (ent 13 (ap2 Sl.life6_Read) (ent 14 (ap2 Sl.gliderref17_Read) (ent 15 (ap2 Sl.gliderref11_Same) noO))))
theorem IQ:T2 Tryz.prog Gs false IV Tryz.f3 (.tw .lf (.tw (.tw .lf (.tw (.tw .lf .lf) .lf)) (.tw (.tw .lf (.tw (.tw .lf .lf) .lf)) (.tw .lf (.tw .lf (.tw .lf .lf)))))) .pure Sh.f6w:=by unfold T2;intros;kernel_rfl
theorem IJ:AG Tryz.prog Gs 3 (ap2 Sh.f6w):=AY mixed ((Ag Ki ((Ag Kg ((Ag L5 ((Ag L7 (Ar _ _))))))))) Tryz.func3 (by kernel_rfl) IQ
theorem q05_nodes (A B:List Nd) (t t':Tok) (H:Aa) (hA:A.length<1000000000000):Sh.f4m (.sl (enL cNd A) t) (.sl (enL cNd B) t') H=some (.ret (.bool (decide (A=B))),H):=by
 unfold Sh.f4m
 simp only [GMb,GMc,Aw]
 by_cases hl:A.length=B.length
 ·have hd:decide ((A.length:Int)=(B.length:Int))=true:=decide_eq_true (by omega)
  simp only [GMb,GMc,hd]
  have key:=Bk (G:=fun rec1 vs H1=>Sh.f7x H rec1 (ag vs 0) (ag vs 1) (ag vs 2) H1) (σ:=Nat) (fun i=>i≤A.length)
   (fun i=>[.sl (enL cNd A) t,.sl (enL cNd B) t',.int .i64 (i:Int)]) (fun _=>H) (fun i=>A.length-i) (fun i=>some (.ret (.bool (decide (A.drop i=B.drop i))),H)) (fun i rec hi hrec=>?_) 0 (YL _) (by omega)
  ·simpa using key
  ·unfold Sh.f7x
   by_cases h:i<A.length
   ·have h':i<B.length:=by omega
    have hlt:(i:Int)<(A.length:Int):=by omega
    have hw:=Av (show i<9223372036854775807 by omega)
    have:=hrec (i+1) h (by omega)
    rw [YS h,YS h']
    simp only [GMb,GMc,Ai,Aw,hlt,Ay h,Ay h',Jg,neq_nd,hw]
    by_cases he:A[i]=B[i]
    ·simp only [he,GMb,GMc,List.cons.injEq,true_and]
     exact this
    ·simp only [he,GMb,GMc,List.cons.injEq,false_and]
   ·have hlt:¬(i:Int)<(A.length:Int):=by omega
    rw [Z6 (by omega),Z6 (by omega)]
    simp only [GMb,GMc,Ai,Aw,hlt]
 ·have hd:decide ((A.length:Int)=(B.length:Int))=false:=decide_eq_false (by omega)
  have hne:decide (A=B)=false:=decide_eq_false fun h=>hl (by rw [h])
  simp only [GMb,GMc,hd,hne]
theorem q05_same (A B:List Nd) (H:Aa) (hA:A.length<1000000000000):Sh.f4n (.agg [.sl (enL cNd A) .no]) (.agg [.sl (enL cNd B) .no]) H=some (.ret (.bool (decide (A=B))),H):=by
 unfold Sh.f4n
 simp only [GMb,GMc,HPa,HPc,HPd,HPe,HPz,Nat.reduceAdd,Nat.reduceLT,q05_nodes A B .no .no _ hA]
theorem q11_same (r r':List UInt8) (A B:List Nd) (H:Aa) (hA:A.length<1000000000000):Sh.f1e (pat r A) (pat r' B) H=some (.ret (.bool (decide (r=r')&&decide (A=B))),H):=by
 unfold Sh.f1e pat HJ
 have hq:C6 A=[.sl (enL cNd A) .no]:=rfl
 have hq2:C6 B=[.sl (enL cNd B) .no]:=rfl
 have hl:∀(c d:Ab) (G:Aa),Ac true 1 (.ptr 0 0 1) (.cel 0 [c,d]::G)=some (.agg [d]):=fun c d G=>by
  simp only [Ac,JN];rfl
 by_cases hr:r=r'
 ·have hd:(r == r')=true:=by simp [hr]
  have hd2:decide (r=r')=true:=decide_eq_true hr
  simp only [GMb,GMc,HPa,HPc,HPd,HPe,HPz,Nat.reduceAdd,Nat.reduceLT,OA,hd,hd2,hl,q05_same A B _ hA]
 ·have hd:(r == r')=false:=by simp [hr]
  have hd2:decide (r=r')=false:=decide_eq_false hr
  simp only [GMb,GMc,HPa,HPc,HPd,HPe,HPz,Nat.reduceAdd,Nat.reduceLT,OA,hd,hd2]
def Lx (H:Aa) (p:Nat) (b:List UInt8) (a:Nat) (r:List Ab):Prop:=H[p]? = some (.cel 0 (.str b::.int .i64 (a:Int)::r))
theorem lx_b {H:Aa} {p a:Nat} {b:List UInt8} {r:List Ab} (h:Lx H p b a r):Ac false 1 (.ptr p 0 0) H=some (.str b):=by
 simp only [Ac,AE h,Option.bind];rfl
theorem IW {H:Aa} {p a:Nat} {b:List UInt8} {r:List Ab} (h:Lx H p b a r):Ac false 1 (.ptr p 0 1) H=some (.int .i64 (a:Int)):=by
 simp only [Ac,AE h,Option.bind];rfl
theorem NW {H:Aa} {p a:Nat} {b:List UInt8} {r:List Ab} (h:Lx H p b a r):Sh.fe (.ptr p 0 0) H=some (.ret (.bool (decide (a=b.length))),H):=by
 unfold Sh.fe
 simp only [GMb,GMc,At,Ah,Yy,lx_b h,IW h]
 by_cases e:a=b.length
 ·have e':(a:Int)=(b.length:Int):=by omega
  simp [e,e']
 ·have e':¬(a:Int)=(b.length:Int):=by omega
  simp [e,e']
def VR (e:Int) (s:List UInt8):Ab:=.iface Hw (.agg [.int .i64 e,.str s])
theorem OS {H:Aa} {p a:Nat} {b:List UInt8} {r:List Ab} (h:Lx H p b a r) (s:List UInt8):Sh.f9 (.ptr p 0 0) (.str s) H=some (.pan (if a=b.length then VR 3 s else VR 2 []),H):=by
 unfold Sh.f9
 simp only [GMb,GMc,NW h]
 by_cases e:a=b.length
 ·simp only [e,GMb,GMc]
  rfl
 ·simp only [e,GMb,GMc]
  rfl
theorem lx_limit {H:Aa} (x:Ab):Sh.f2q x H=some (.pan (VR 4 []),H):=rfl
theorem XQ (l:List UInt8) (c:UInt8):(0≤Lib.indexByte l c)↔c∈l:=by
 induction l with
 | nil=>simp [Lib.indexByte]
 | cons b l ih=>
  have hge:=Lib.indexByte_ge l c
  unfold Lib.indexByte
  by_cases h:b=c
  ·simp [h]
  ·have h':¬c=b:=fun e=>h e.symm
   by_cases h2:Lib.indexByte l c = -1
   ·have:¬c∈l:=fun hm=>by have:=ih.2 hm;omega
    simp [h,h',h2,this]
   ·have h3:0≤Lib.indexByte l c:=by omega
    have h4:=ih.1 h3
    simp [h,h2,h4]
    omega
def BI (b:List UInt8) (a:Nat) (some:List UInt8):Bool:=match b[a]? with
 | none=>false
 | Option.some c=>some.contains c
theorem OT {H:Aa} {p a:Nat} {b:List UInt8} {r:List Ab} (h:Lx H p b a r) (ha:a≤b.length) (s:List UInt8):Sh.fh (.ptr p 0 0) (.str s) H=some (.ret (.bool (BI b a s)),H):=by
 unfold Sh.fh BI
 simp only [GMb,GMc,NW h]
 by_cases e:a=b.length
 ·simp only [e,GMb,GMc]
  rw [YA (Yz _)]
 ·have hlt:a<b.length:=by omega
  rw [Yu hlt]
  have hi:Sh.f2l (.str s) (.int .u8 (b[a].toNat:Int)) H=some (.ret (.int .i64 (Lib.indexByte s b[a])),H):=by
   unfold Sh.f2l;simp
  simp only [e,GMb,GMc,At,Ah,Yy,lx_b h,IW h,B9 hlt,hi]
  by_cases hm:b[a]∈s
  ·have:=(XQ s b[a]).2 hm
   simp [hm,this]
  ·have:¬0≤Lib.indexByte s b[a]:=fun hc=>hm ((XQ s b[a]).1 hc)
   simp [hm,this]
theorem lx_step {H:Aa} {p a:Nat} {b:List UInt8} {r:List Ab} (h:Lx H p b a r) (n:Int):Af 1 (.ptr p 0 1) (.int .i64 n) H=some (H.set p (.cel 0 (.str b::.int .i64 n::r))):=by
 simp only [Af,AE h,Option.bind,Ab.acells]
 simp [Ch h,DF]
theorem lx_set {H:Aa} {p a a':Nat} {b:List UInt8} {r:List Ab} (h:Lx H p b a r):Lx (H.set p (.cel 0 (.str b::.int .i64 (a':Int)::r))) p b a' r:=by
 have:p<H.length:=by
  rcases Zf p H.length with h' | h'
  ·exact h'
  ·unfold Lx at h;rw [YA h']at h;cases h
 unfold Lx;simp [this]
def C7 (H:Aa) (p:Nat) (b:List UInt8) (r:List Ab) (a:Nat):Aa:=H.set p (.cel 0 (.str b::.int .i64 (a:Int)::r))
theorem Fi {H:Aa} {p a:Nat} {b:List UInt8} {r:List Ab} (h:Lx H p b a r):C7 H p b r a=H:=by
 unfold C7
 apply ZH
 intro i
 by_cases e:p=i
 ·subst e
  have:p<H.length:=by
   rcases Zf p H.length with h' | h'
   ·exact h'
   ·unfold Lx at h;rw [YA h']at h;cases h
  rw [Y9 this];exact h.symm
 ·rw [Yv e]
theorem Hx {H:Aa} {p a a':Nat} {b:List UInt8} {r:List Ab} (h:Lx H p b a r):Lx (C7 H p b r a') p b a' r:=lx_set h
theorem Xu (H:Aa) (p a a':Nat) (b:List UInt8) (r r':List Ab):C7 (C7 H p b r a) p b r' a'=C7 H p b r' a':=by unfold C7;rw [List.set_set]
theorem setL_len (H:Aa) (p a:Nat) (b:List UInt8) (r:List Ab):(C7 H p b r a).length=H.length:=by unfold C7;simp
theorem OU {H:Aa} {p a a':Nat} {b:List UInt8} {r:List Ab} (h:Lx H p b a r) (n:Nat):Af 1 (.ptr p 0 1) (.int .i64 (n:Int)) (C7 H p b r a')=some (C7 H p b r n):=by
 rw [lx_step (Hx h)]
 exact congrArg some (Xu H p a' n b r r)
def Te (b:List UInt8) (a:Nat) (s:List UInt8):Ab:=if a=b.length then VR 3 s else VR 2 []
def crN (b:List UInt8) (a:Nat):Nat:=if BI b a [13]then a+1 else a
theorem F9 {b s:List UInt8} {a:Nat} (h:BI b a s=true):a<b.length:=by
 rcases Zf a b.length with h' | h'
 ·exact h'
 ·unfold BI at h;rw [YA h']at h;cases h
theorem crN_le {b:List UInt8} {a:Nat} (ha:a≤b.length):crN b a≤b.length:=by
 unfold crN
 cases hs:BI b a [13]with
 | true=>exact F9 hs
 | false=>exact ha
def endO (H:Aa) (p:Nat) (b:List UInt8) (r:List Ab) (a:Nat) (rest:List UInt8):Out:=
 if a=b.length then some (.ret (.tup []),H)
 else if BI b (crN b a) [10]then some (.ret (.tup []),C7 H p b r (crN b a+1))
 else some (.pan (Te b (crN b a) (10::rest)),C7 H p b r (crN b a))
theorem lx_end {H:Aa} {p a:Nat} {b:List UInt8} {r:List Ab} (h:Lx H p b a r) (ha:a≤b.length) (hb:b.length<1152921504606846976) (rest:List UInt8) (hr:rest.length≤1000000) :
  Sh.fu (.ptr p 0 0) (.str rest) H=endO H p b r a rest:=by
 unfold Sh.fu endO
 simp only [GMb,GMc,NW h]
 by_cases e:a=b.length
 ·simp only [e,GMb,GMc]
 ·have key:∀c,c≤b.length→Sh.f6y H (.ptr p 0 0) (.str rest) (C7 H p b r c)=if BI b c [10]then some (.ret (.tup []),C7 H p b r (c+1))else some (.pan (Te b c (10::rest)),C7 H p b r c):=by
   intro c hc
   have hx:=Hx (a':=c) h
   unfold Sh.f6y
   simp only [GMb,GMc,OT hx hc]
   cases hs:BI b c [10]with
   | true=>
    unfold Sh.f7y
    simp only [GMb,GMc,Zi,At,Ah,Yy,IW hx,Av (show c<9223372036854775807 by omega),OU h]
   | false=>
    have hcat:Ae .none .add (.str [10]) (.str rest)=some (.str (10::rest)):=FO (by simp only [List.length_cons,List.length_nil];omega)
    simp only [GMb,GMc,Zt,hcat,OS hx]
    rfl
  simp only [e,GMb,GMc,OT h ha,AH]
  unfold crN
  cases hs:BI b a [13]with
  | true=>
   have hlt:a<b.length:=by omega
   have hm:=OU (a':=a) h (a+1)
   rw [Fi h]at hm
   simp only [GMb,GMc,At,Ah,Yy,IW h,Av (show a<9223372036854775807 by omega),hm]
   exact key (a+1) (by omega)
  | false=>
   have:=key a ha
   rw [Fi h]at this
   simp only [GMb,GMc]
   rw [Fi h]
   exact this
def cpN:List UInt8→List UInt8→Nat
 | a::l,b::m=>if a=b then cpN l m+1 else 0
 | _,_=>0
theorem SN:∀a b:List UInt8,cpN a b≤a.length∧cpN a b≤b.length
 | [],_=>⟨YL _,YL _⟩
 | _::_,[]=>⟨YL _,YL _⟩
 | a::l,b::m=>by
  have:=SN l m
  unfold cpN
  by_cases h:a=b
  ·rw [if_pos h];simp only [List.length_cons];omega
  ·rw [if_neg h];exact ⟨YL _,YL _⟩
theorem cpN_get:∀(a b:List UInt8) (i:Nat),i<cpN a b→a[i]? = b[i]?
 | [],_,i,h=>by simp [cpN]at h
 | _::_,[],i,h=>by simp [cpN]at h
 | a::l,b::m,i,h=>by
  unfold cpN at h
  by_cases e:a=b
  ·rw [if_pos e]at h
   cases i with
   | zero=>simp [e]
   | succ i=>simpa using cpN_get l m i (by omega)
  ·rw [if_neg e]at h;omega
theorem Wk:∀(a b:List UInt8),cpN a b<a.length→cpN a b<b.length→a[cpN a b]? ≠ b[cpN a b]?
 | [],_,h,_=>by simp [cpN]at h
 | _::_,[],_,h=>by simp [cpN]at h
 | a::l,b::m,h,h2=>by
  by_cases e:a=b
  ·have ec:cpN (a::l) (b::m)=cpN l m+1:=by rw [cpN,if_pos e]
   rw [ec]at h h2 ⊢
   simpa using Wk l m (by simpa using h) (by simpa using h2)
  ·have ec:cpN (a::l) (b::m)=0:=by rw [cpN,if_neg e]
   rw [ec];simpa using e
theorem q_common (a b:List UInt8) (H:Aa) (ha:a.length<1152921504606846976):Sh.f2o (.str a) (.str b) H=some (.ret (.int .i64 (cpN a b:Int)),H):=by
 unfold Sh.f2o
 have hm:(min (a.length:Int) (b.length:Int))=((min a.length b.length:Nat):Int):=by omega
 have hle:=SN a b
 have l1:BE (.str a)=some (.int .i64 (a.length:Int)):=rfl
 have l2:BE (.str b)=some (.int .i64 (b.length:Int)):=rfl
 simp only [GMb,GMc,l1,l2,min_int,hm]
 have key:=Bk (G:=fun rec1 vs H1=>Sh.f6x H rec1 (ag vs 0) (ag vs 1) (ag vs 2) (ag vs 3) (ag vs 4) H1) (σ:=Nat) (fun i=>i≤cpN a b)
  (fun i=>[.str a,.str b,.int .i64 ((min a.length b.length:Nat):Int),.int .i64 ((min a.length b.length:Nat):Int),.int .i64 (i:Int)]) (fun _=>H) (fun i=>cpN a b-i)
  (fun _=>some (.ret (.int .i64 (cpN a b:Int)),H)) (fun i rec hi hrec=>?_) 0 (YL _) (by omega)
 ·exact key
 ·unfold Sh.f6x
  by_cases hlt:i<min a.length b.length
  ·have hlt':(i:Int)<((min a.length b.length:Nat):Int):=by omega
   have h1:i<a.length:=by omega
   have h2:i<b.length:=by omega
   simp only [GMb,GMc,Ai,hlt',B9 h1,B9 h2]
   by_cases e:i=cpN a b
   ·have hne:=Wk a b (by omega) (by omega)
    rw [←e,Yu h1,Yu h2]at hne
    have hn:¬((a[i].toNat:Int)=(b[i].toNat:Int)):=fun hc=>hne (congrArg some (Qay.1 (by omega)))
    simp only [hn,GMb,GMc,not_false_eq_true]
    rw [e]
   ·have hg:=cpN_get a b i (by omega)
    rw [Yu h1,Yu h2]at hg
    have hg':=Z9 hg
    simp only [hg',GMb,GMc,not_true_eq_false,Av (show i<9223372036854775807 by omega)]
    exact hrec (i+1) (by omega) (by omega)
  ·have hlt':¬(i:Int)<((min a.length b.length:Nat):Int):=by omega
   simp only [GMb,GMc,Ai,hlt']
   have:min a.length b.length=cpN a b:=by omega
   rw [this]
def mustO (H:Aa) (p:Nat) (b:List UInt8) (r:List Ab) (a:Nat) (s rest:List UInt8):Out:=
 if cpN (b.drop a) s<s.length then some (.pan (Te b (a+cpN (b.drop a) s) (s.drop (cpN (b.drop a) s)++rest)),C7 H p b r (a+cpN (b.drop a) s))
 else some (.ret (.tup []),C7 H p b r (a+cpN (b.drop a) s))
theorem lx_must {H:Aa} {p a:Nat} {b:List UInt8} {r:List Ab} (h:Lx H p b a r) (ha:a≤b.length) (hb:b.length<1152921504606846976) (s rest:List UInt8) (hs:s.length≤1000000) (hr:rest.length≤1000000) :
  Sh.ft (.ptr p 0 0) (.str s) (.str rest) H=mustO H p b r a s rest:=by
 unfold Sh.ft mustO
 have hle:=SN (b.drop a) s
 have hd:(b.drop a).length=b.length-a:=YG
 have hq:=q_common (b.drop a) s H (by omega)
 have l2:BE (.str s)=some (.int .i64 (s.length:Int)):=rfl
 generalize cpN (b.drop a) s=n at hq hle ⊢
 have hw:IntKind.i64.wrap ((a:Int)+(n:Int))=((a+n:Nat):Int):=by rw [Am] <;> omega
 have hm:=OU (a':=a) h (a+n)
 rw [Fi h]at hm
 have hx:=Hx (a':=a+n) h
 simp only [GMb,GMc,At,Ah,Yy,lx_b h,IW h,EP ha,hq,hw,hm,l2]
 by_cases hc:n<s.length
 ·have hc':(n:Int)<(s.length:Int):=by omega
  have hcat:Ae .none .add (.str (s.drop n)) (.str rest)=some (.str (s.drop n++rest)):=FO (by rw [YG];omega)
  simp only [hc',GMb,GMc,EP hle.2,hcat,OS hx,if_pos hc]
  rfl
 ·have hc':¬(n:Int)<(s.length:Int):=by omega
  simp only [hc',GMb,GMc,if_neg hc]
def Cy (b:List UInt8) (a:Nat) (e:Int):List Ab:=[.str b,.int .i64 (a:Int),.int .i64 e]
abbrev BW (b:List UInt8) (a:Nat) (e:Int):Ab:=.agg (Cy b a e)
theorem Gq (b:List UInt8) (a:Nat) (e:Int) (H:Aa):Sh.f8 (BW b a e) H=some (.ret (.bool (decide (b.length≤a))),H):=by
 unfold Sh.f8 BW Cy
 simp only [GMb,GMc,HPa,HPc,HPd,HPe,HPz,Nat.reduceAdd,Nat.reduceLT]
 have:decide ((a:Int)≥(b.length:Int))=decide (b.length≤a):=by rw [YD];simp
 rw [this]
def TE (b:List UInt8) (a:Nat):Int:=if b.length≤a then 3 else 2
theorem N6 (b:List UInt8) (a:Nat) (e:Int) (H:Aa):Sh.fc (BW b a e) H=some (.ret (BW b a (TE b a)),H):=by
 unfold Sh.fc BW Cy TE
 have he:=fun e H=>Gq b a e H
 unfold BW Cy at he
 simp only [GMb,GMc,HPa,HPc,HPd,HPe,HPz,Nat.reduceAdd,Nat.reduceLT,he]
 by_cases h:b.length≤a
 ·simp only [h,GMb,GMc,HPa,HPc,HPd,HPe,HPz,Nat.reduceAdd,Nat.reduceLT]
 ·simp only [h,GMb,GMc,HPa,HPc,HPd,HPe,HPz,Nat.reduceAdd,Nat.reduceLT]
def isB (b:List UInt8) (a:Nat) (c:UInt8):Bool:=decide (b[a]? = some c)
theorem u8_eq (c d:UInt8):decide ((c.toNat:Int)=(d.toNat:Int))=decide (c=d):=by
 rw [YD];simp only [decide_eq_true_eq]
 constructor
 ·intro h;exact Qaz (by omega)
 ·intro h;rw [h]
theorem r15_sees (b:List UInt8) (a:Nat) (e:Int) (c:UInt8) (H:Aa):Sh.f1u (BW b a e) (.int .u8 (c.toNat:Int)) H=some (.ret (.bool (decide (e=0)&&isB b a c)),H):=by
 unfold Sh.f1u BW Cy isB
 have he:=fun e H=>Gq b a e H
 unfold BW Cy at he
 simp only [GMb,GMc,HPa,HPc,HPd,HPe,HPz,Nat.reduceAdd,Nat.reduceLT]
 by_cases h0:e=0
 ·simp only [h0,GMb,GMc,HPa,HPc,HPd,HPe,HPz,Nat.reduceAdd,Nat.reduceLT,he]
  by_cases h:b.length≤a
  ·simp only [h,GMb,GMc,HPa,HPc,HPd,HPe,HPz,Nat.reduceAdd,Nat.reduceLT,YA h,reduceCtorEq]
  ·have hlt:a<b.length:=by omega
   simp only [h,GMb,GMc,HPa,HPc,HPd,HPe,HPz,Nat.reduceAdd,Nat.reduceLT,B9 hlt,Yu hlt,u8_eq,Y3]
 ·simp only [h0,GMb,GMc,HPa,HPc,HPd,HPe,HPz,Nat.reduceAdd,Nat.reduceLT]
theorem r04_common (a b:List UInt8) (H:Aa) (ha:a.length<1152921504606846976):Sh.f4a (.str a) (.str b) H=some (.ret (.int .i64 (cpN a b:Int)),H):=by
 unfold Sh.f4a
 have hle:=SN a b
 refine Bk (σ:=Nat) (fun i=>i≤cpN a b) (fun i=>[.str a,.str b,.int .i64 (i:Int)]) (fun _=>H) (fun i=>cpN a b-i) (fun _=>some (.ret (.int .i64 (cpN a b:Int)),H)) (fun i rec hi hrec=>?_) 0 (YL _) (by omega)
 unfold Sh.f8f
 have stop:i=cpN a b→(some (Res.ret (.int .i64 (i:Int)),H):Out)=some (.ret (.int .i64 (cpN a b:Int)),H):=fun h=>by rw [h]
 simp only [GMb,GMc,HPa,HPc,HPd,HPe,HPz,Nat.reduceAdd,Nat.reduceLT]
 by_cases h1:i<a.length
 ·have h1':(i:Int)<(a.length:Int):=by omega
  simp only [h1',GMb,GMc,HPa,HPc,HPd,HPe,HPz,Nat.reduceAdd,Nat.reduceLT]
  by_cases h2:i<b.length
  ·have h2':(i:Int)<(b.length:Int):=by omega
   simp only [h2',GMb,GMc,HPa,HPc,HPd,HPe,HPz,Nat.reduceAdd,Nat.reduceLT,B9 h1,B9 h2,u8_eq]
   by_cases e:i=cpN a b
   ·have hne:=Wk a b (by omega) (by omega)
    rw [←e,Yu h1,Yu h2]at hne
    have hn:¬a[i]=b[i]:=fun hc=>hne (by rw [hc])
    simp only [hn,GMb,GMc,HPa,HPc,HPd,HPe,HPz,Nat.reduceAdd,Nat.reduceLT]
    exact stop e
   ·have hg:=cpN_get a b i (by omega)
    rw [Yu h1,Yu h2]at hg
    have hg':=Z9 hg
    simp only [hg',GMb,GMc,HPa,HPc,HPd,HPe,HPz,Nat.reduceAdd,Nat.reduceLT,Av (show i<9223372036854775807 by omega)]
    exact hrec (i+1) (by omega) (by omega)
  ·have h2':¬(i:Int)<(b.length:Int):=by omega
   simp only [h2',GMb,GMc,HPa,HPc,HPd,HPe,HPz,Nat.reduceAdd,Nat.reduceLT]
   exact stop (by omega)
 ·have h1':¬(i:Int)<(a.length:Int):=by omega
  simp only [h1',GMb,GMc,HPa,HPc,HPd,HPe,HPz,Nat.reduceAdd,Nat.reduceLT]
  exact stop (by omega)
theorem wrap_addN {a n:Nat} (h:a+n<9223372036854775807):IntKind.i64.wrap ((a:Int)+(n:Int))=((a+n:Nat):Int):=by rw [Am] <;> omega
def VE (b:List UInt8) (a:Nat) (s:List UInt8):Nat:=a+cpN (b.drop a) s
def litE (b:List UInt8) (a:Nat) (s:List UInt8):Int:=if cpN (b.drop a) s<s.length then TE b (VE b a s)else 0
theorem litN_le {b:List UInt8} {a:Nat} (ha:a≤b.length) (s:List UInt8):VE b a s≤b.length:=by
 have:=(SN (b.drop a) s).1
 rw [YG]at this
 unfold VE;omega
theorem r15_lit {b:List UInt8} {a:Nat} (ha:a≤b.length) (hb:b.length<1152921504606846976) (s:List UInt8) (H:Aa):Sh.fq (BW b a 0) (.str s) H=some (.ret (BW b (VE b a s) (litE b a s)),H):=by
 unfold Sh.fq BW Cy litE
 have hn:=litN_le ha s
 have hc:=fun H=>r04_common (b.drop a) s H (by rw [YG];omega)
 have hst:=fun e H=>N6 b (VE b a s) e H
 unfold BW Cy at hst
 have hw:IntKind.i64.wrap ((a:Int)+(cpN (b.drop a) s:Int))=((VE b a s:Nat):Int):=by unfold VE at hn ⊢;exact wrap_addN (by omega)
 simp only [GMb,GMc,HPa,HPc,HPd,HPe,HPz,Nat.reduceAdd,Nat.reduceLT,EP ha,hc,hw,not_true_eq_false]
 by_cases h:cpN (b.drop a) s<s.length
 ·have h':(cpN (b.drop a) s:Int)<(s.length:Int):=by omega
  simp only [h',h,GMb,GMc,HPa,HPc,HPd,HPe,HPz,Nat.reduceAdd,Nat.reduceLT,hst]
 ·have h':¬(cpN (b.drop a) s:Int)<(s.length:Int):=by omega
  simp only [h',h,GMb,GMc,HPa,HPc,HPd,HPe,HPz,Nat.reduceAdd,Nat.reduceLT]
theorem r15_litX (b:List UInt8) (a:Nat) {e:Int} (he:e≠0) (s:List UInt8) (H:Aa):Sh.fq (BW b a e) (.str s) H=some (.ret (BW b a e),H):=by
 unfold Sh.fq BW Cy
 simp only [GMb,GMc,HPa,HPc,HPd,HPe,HPz,Nat.reduceAdd,Nat.reduceLT,he,not_false_eq_true]
theorem q_sign (c:UInt8) (H:Aa):Sh.f2p (.int .u8 (c.toNat:Int)) H=some (.ret (.bool (PY c)),H):=by
 unfold Sh.f2p PY
 by_cases h:(c.toNat:Int)>32
 ·have:33≤c.toNat:=by omega
  simp [h,this];omega
 ·have:¬33≤c.toNat:=by omega
  simp [h,this]
def onB (b:List UInt8) (f a:Nat):Bool:=match b[a]? with
 | none=>false
 | some c=>decide (a-f<40)&&PY c
def Ef (b:List UInt8) (f:Nat):Nat→Nat→Nat
 | 0,a=>a
 | n+1,a=>if onB b f a then Ef b f n (a+1)else a
def ruleO (H:Aa) (p:Nat) (b:List UInt8) (r:List Ab) (f e:Nat) (rest:List UInt8):Out:=
 if e=f then some (.pan (Te b e (97::rest)),C7 H p b r e)else some (.ret (.str ((b.take e).drop f)),C7 H p b r e)
theorem lx_rule_end {H:Aa} {p a f:Nat} {b:List UInt8} {r:List Ab} (h:Lx H p b f r) (hf:f≤a) (ha:a≤b.length) (rest:List UInt8) (hr:rest.length≤1000000) :
  (AH (fun j2=>
 (At (.ptr p 0 0)).bind fun x51=>
 (Ad 1 x51).bind fun x52=>
 (Ac false 1 x52 (C7 H p b r a)).bind fun x53=>
 (Ae .none .eql x53 (.int .i64 (f:Int))).bind fun x54=>
 Aj x54 (
 (Ae .none .add (.str [97]) (.str rest)).bind fun x55=>
 bK H (Sh.f9 (.ptr p 0 0) x55 (C7 H p b r a)) fun x56 H57=>
 j2 [.ptr p 0 0,.int .i64 (f:Int)] H57) (
 j2 [.ptr p 0 0,.int .i64 (f:Int)] (C7 H p b r a))) (fun vs H1=>Sh.f6z H (ag vs 0) (ag vs 1) H1))=ruleO H p b r f a rest:=by
 have hx:=Hx (a':=a) h
 unfold ruleO
 have hcat:Ae .none .add (.str [97]) (.str rest)=some (.str (97::rest)):=FO (by simp only [List.length_cons,List.length_nil];omega)
 simp only [GMb,GMc,At,Ah,Yy,IW hx]
 by_cases e:a=f
 ·simp only [e,GMb,GMc,hcat,if_pos]
  subst e
  simp only [OS hx]
  rfl
 ·have e':¬(a:Int)=(f:Int):=by omega
  simp only [e',GMb,GMc,if_neg e]
  unfold Sh.f6z
  simp only [GMb,GMc,At,Ah,Yy,IW hx,lx_b hx,It hf ha]
theorem ON {b:List UInt8} {f a:Nat} (h:onB b f a=false):∀n,Ef b f n a=a
 | 0=>rfl
 | n+1=>by rw [Ef,h];rfl
theorem ruleN_on {b:List UInt8} {f a:Nat} (h:onB b f a=true) (hf:f≤a):Ef b f (40-(a-f)) a=Ef b f (40-(a+1-f)) (a+1):=by
 have:a-f<40:=by
  unfold onB at h
  split at h
  ·cases h
  ·simp at h;exact h.1
 have e:40-(a-f)=(40-(a+1-f))+1:=by omega
 rw [e,Ef,h,if_pos rfl]
theorem onB_lt {b:List UInt8} {f a:Nat} (h:onB b f a=true):a<b.length:=by
 rcases Zf a b.length with h' | h'
 ·exact h'
 ·unfold onB at h;rw [YA h']at h;cases h
theorem lx_rule {H:Aa} {p f:Nat} {b:List UInt8} {r:List Ab} (h:Lx H p b f r) (hf:f≤b.length) (hb:b.length<1152921504606846976) (rest:List UInt8) (hr:rest.length≤1000000) :
  Sh.f1x (.ptr p 0 0) (.str rest) H=ruleO H p b r f (Ef b f 40 f) rest:=by
 unfold Sh.f1x
 simp only [GMb,GMc,At,Ah,Yy,IW h]
 have key:=Bk (G:=fun rec1 vs H1=>Sh.f70 H rec1 (ag vs 0) (ag vs 1) (ag vs 2) H1) (σ:=Nat) (fun i=>f≤i∧i≤b.length) (fun _=>[.ptr p 0 0,.str rest,.int .i64 (f:Int)]) (fun i=>C7 H p b r i) (fun i=>b.length-i)
  (fun i=>ruleO H p b r f (Ef b f (40-(i-f)) i) rest) (fun i rec hi hrec=>?_) f ⟨Yz _,hf⟩ (by omega)
 ·rw [Fi h,YV,Nat.sub_zero]at key;exact key
 ·unfold Sh.f70
  obtain ⟨h1,h2⟩:=hi
  have hx:=Hx (a':=i) h
  have hend:=lx_rule_end h h1 h2 rest hr
  simp only [GMb,GMc,NW hx]
  by_cases e:i=b.length
  ·have ho:onB b f i=false:=by unfold onB;rw [e,YA (Yz _)]
   rw [ON ho]
   simp only [e,GMb,GMc]at hend ⊢
   exact hend
  ·have hlt:i<b.length:=by omega
   have hw:IntKind.i64.wrap ((i:Int)-(f:Int))=((i-f:Nat):Int):=by rw [Am] <;> omega
   simp only [e,GMb,GMc,At,Ah,Yy,IW hx,lx_b hx,hw]
   by_cases h40:i-f<40
   ·have h40':((i-f:Nat):Int)<40:=by omega
    simp only [h40',GMb,GMc,Ah,Yy,IW hx,lx_b hx,B9 hlt,q_sign]
    cases hs:PY b[i]with
    | true=>
     have ho:onB b f i=true:=by unfold onB;rw [Yu hlt];simp [h40,hs]
     rw [ruleN_on ho h1]
     simp only [GMb,GMc,IW hx,Av (show i<9223372036854775807 by omega),OU h]
     exact hrec (i+1) ⟨by omega,by omega⟩ (by omega)
    | false=>
     have ho:onB b f i=false:=by unfold onB;rw [Yu hlt];simp [hs]
     rw [ON ho]
     simpa only [GMb,GMc,At,Ah,Yy,IW hx]using hend
   ·have h40':¬((i-f:Nat):Int)<40:=by omega
    have ho:onB b f i=false:=by unfold onB;rw [Yu hlt];simp [h40]
    rw [ON ho]
    simpa only [h40',GMb,GMc,At,Ah,Yy,IW hx]using hend
theorem JC {b:List UInt8} {i:Nat} (h:i<b.length) (c:UInt8):BI b i [c]=decide (b[i]=c):=by
 unfold BI;rw [Yu h];simp
theorem u8_lit (c:UInt8) (n:Nat) (h:n<256):decide ((c.toNat:Int)=(n:Int))=decide (c=UInt8.ofNat n):=by
 have:(UInt8.ofNat n).toNat=n:=by simp [UInt8.toNat_ofNat,Zq h]
 rw [←u8_eq,this]
theorem u8_10 (c:UInt8):decide ((c.toNat:Int)=10)=decide (c=10):=u8_lit c 10 (by decide)
theorem u8_13 (c:UInt8):decide ((c.toNat:Int)=13)=decide (c=13):=u8_lit c 13 (by decide)
def QA (b:List UInt8) (a:Nat):Nat:=if a=b.length then a else if BI b (crN b a) [10]then crN b a+1 else crN b a
def We (b:List UInt8) (a:Nat):Int:=if a=b.length then 0 else if BI b (crN b a) [10]then 0 else TE b (crN b a)
theorem eolN_le {b:List UInt8} {a:Nat} (ha:a≤b.length):QA b a≤b.length:=by
 unfold QA
 split
 ·exact ha
 ·split
  ·rename_i h;exact F9 h
  ·exact crN_le ha
theorem r15_eol {b:List UInt8} {a:Nat} (ha:a≤b.length) (hb:b.length<1152921504606846976) (H:Aa):Sh.fr (BW b a 0) H=some (.ret (BW b (QA b a) (We b a)),H):=by
 unfold Sh.fr BW Cy
 have he:=fun i e H=>Gq b i e H
 have hst:=fun i e H=>N6 b i e H
 unfold BW Cy at he hst
 simp only [GMb,GMc,HPa,HPc,HPd,HPe,HPz,Nat.reduceAdd,Nat.reduceLT,he]
 by_cases h:b.length≤a
 ·have:a=b.length:=by omega
  subst this
  have e1:QA b b.length=b.length:=by simp [QA]
  have e2:We b b.length=0:=by simp [We]
  rw [e1,e2]
  simp only [h,GMb,GMc,HPa,HPc,HPd,HPe,HPz,Nat.reduceAdd,Nat.reduceLT]
 ·have hlt:a<b.length:=by omega
  have hne:¬a=b.length:=by omega
  have tail:∀(i:Nat),i<b.length→crN b a=i→Sh.f7q H (.ptr H.length 0 0) (.ptr (H.length+1) 0 0) (H++[.cel 0 [.str b,.int .i64 (i:Int),.int .i64 0],.cel 0 [.str [],.int .i64 0,.int .i64 0]])=some (.ret (.agg [.str b,.int .i64 (QA b a:Int),.int .i64 (We b a)]),H):=by
   intro i hi hc
   unfold Sh.f7q QA We
   rw [if_neg hne,if_neg hne,hc,JC hi]
   simp only [GMb,GMc,HPa,HPc,HPd,HPe,HPz,Nat.reduceAdd,Nat.reduceLT,B9 hi,u8_10]
   by_cases h1:b[i]=10
   ·simp only [h1,GMb,GMc,HPa,HPc,HPd,HPe,HPz,Nat.reduceAdd,Nat.reduceLT,if_true,Av (show i<9223372036854775807 by omega)]
   ·simp only [h1,GMb,GMc,HPa,HPc,HPd,HPe,HPz,Nat.reduceAdd,Nat.reduceLT,hst,Y4]
  have hcr:crN b a=if b[a]=13 then a+1 else a:=by
   unfold crN;rw [JC hlt];simp
  simp only [h,GMb,GMc,HPa,HPc,HPd,HPe,HPz,Nat.reduceAdd,Nat.reduceLT,B9 hlt,u8_13]
  by_cases h1:b[a]=13
  ·rw [if_pos h1]at hcr
   simp only [h1,GMb,GMc,HPa,HPc,HPd,HPe,HPz,Nat.reduceAdd,Nat.reduceLT,Av (show a<9223372036854775807 by omega),he]
   by_cases h2:b.length≤a+1
   ·have hs:BI b (a+1) [10]=false:=by unfold BI;rw [YA h2]
    have e1:QA b a=a+1:=by simp [QA,hne,hcr,hs]
    have e2:We b a=TE b (a+1):=by simp [We,hne,hcr,hs]
    simp only [h2,GMb,GMc,HPa,HPc,HPd,HPe,HPz,Nat.reduceAdd,Nat.reduceLT,hst,e1,e2]
   ·have hlt2:a+1<b.length:=by omega
    have:=tail (a+1) hlt2 hcr
    simp only [h2,GMb,GMc,HPa,HPc,HPd,HPe,HPz,Nat.reduceAdd,Nat.reduceLT,B9 hlt2,u8_10]
    by_cases h3:b[a+1]=10
    ·simp only [h3,GMb,GMc,HPa,HPc,HPd,HPe,HPz,Nat.reduceAdd,Nat.reduceLT]
     exact this
    ·have hs:BI b (a+1) [10]=false:=by rw [JC hlt2];simp [h3]
     have e1:QA b a=a+1:=by simp [QA,hne,hcr,hs]
     have e2:We b a=TE b (a+1):=by simp [We,hne,hcr,hs]
     simp only [h3,GMb,GMc,HPa,HPc,HPd,HPe,HPz,Nat.reduceAdd,Nat.reduceLT,hst,e1,e2]
  ·rw [if_neg h1]at hcr
   simp only [h1,GMb,GMc,HPa,HPc,HPd,HPe,HPz,Nat.reduceAdd,Nat.reduceLT]
   exact tail a hlt hcr
theorem r15_eolX (b:List UInt8) (a:Nat) {e:Int} (he:e≠0) (H:Aa):Sh.fr (BW b a e) H=some (.ret (BW b a e),H):=by
 unfold Sh.fr BW Cy
 simp only [GMb,GMc,HPa,HPc,HPd,HPe,HPz,Nat.reduceAdd,Nat.reduceLT,he]
theorem ruleN_le {b:List UInt8} {f:Nat}:∀(n a:Nat),a≤b.length→a≤Ef b f n a∧Ef b f n a≤b.length
 | 0,a,h=>⟨Yz _,h⟩
 | n+1,a,h=>by
  rw [Ef]
  cases ho:onB b f a with
  | true=>have:=ruleN_le (b:=b) (f:=f) n (a+1) (onB_lt ho);simp only [if_true];omega
  | false=>simp only [Y4,if_false];omega
def ruleS (b:List UInt8) (f:Nat):List UInt8:=(b.take (Ef b f 40 f)).drop f
def ruleE (b:List UInt8) (f:Nat):Int:=if Ef b f 40 f=f then TE b f else 0
theorem r15_rule {b:List UInt8} {f:Nat} (hf:f≤b.length) (hb:b.length<1152921504606846976) (H:Aa):Sh.f1a (BW b f 0) H=some (.ret (.tup [BW b (Ef b f 40 f) (ruleE b f),.str (if Ef b f 40 f=f then []else ruleS b f)]),H):=by
 unfold Sh.f1a BW Cy
 simp only [GMb,GMc,HPa,HPc,HPd,HPe,HPz,Nat.reduceAdd,Nat.reduceLT]
 have key:=Bk (G:=fun rec1 vs H1=>Sh.f7r H rec1 (ag vs 0) (ag vs 1) (ag vs 2) H1) (σ:=Nat) (fun i=>f≤i∧i≤b.length) (fun _=>[.ptr H.length 0 0,.ptr (H.length+1) 0 0,.int .i64 (f:Int)]) (fun i=>H++[.cel 0 [.str b,.int .i64 (i:Int),.int .i64 0],.cel 0 [.str [],.int .i64 0,.int .i64 0]]) (fun i=>b.length-i)
  (fun i=>some (.ret (.tup [.agg [.str b,.int .i64 (Ef b f (40-(i-f)) i:Int),.int .i64 (if Ef b f (40-(i-f)) i=f then TE b f else 0)],.str (if Ef b f (40-(i-f)) i=f then []else (b.take (Ef b f (40-(i-f)) i)).drop f)]),H)) (fun i rec hi hrec=>?_) f ⟨Yz _,hf⟩ (by omega)
 ·rw [YV,Nat.sub_zero]at key;exact key
 ·obtain ⟨h1,h2⟩:=hi
  have he:=fun e H=>Gq b i e H
  have hst:=fun e H=>N6 b f e H
  unfold BW Cy at he hst
  have hw:IntKind.i64.wrap ((i:Int)-(f:Int))=((i-f:Nat):Int):=by rw [Am] <;> omega
  have stop:onB b f i=false→((Ac false 1 (.ptr H.length 0 (0+1)) (H++[.cel 0 [.str b,.int .i64 (i:Int),.int .i64 0],.cel 0 [.str [],.int .i64 0,.int .i64 0]])).bind fun x44=>
 (Ae .none .eql x44 (.int .i64 (f:Int))).bind fun x45=>
 Aj x45 (
 (Ac true 3 (.ptr H.length 0 0) (H++[.cel 0 [.str b,.int .i64 (i:Int),.int .i64 0],.cel 0 [.str [],.int .i64 0,.int .i64 0]])).bind fun x46=>
 bP H (Sh.fc x46 (H++[.cel 0 [.str b,.int .i64 (i:Int),.int .i64 0],.cel 0 [.str [],.int .i64 0,.int .i64 0]])) fun x47 H48=>
 bP H (A3 (Af 3 (.ptr (H.length+1) 0 0) x47 H48)) fun _ H50=>
 (CU [Ac true 3 (.ptr (H.length+1) 0 0) H50,some (.str [])]).bind fun x51=>rP H x51 H50) (
 bC (Ac true 3 (.ptr H.length 0 0) (H++[.cel 0 [.str b,.int .i64 (i:Int),.int .i64 0],.cel 0 [.str [],.int .i64 0,.int .i64 0]])) (fun _=>True) fun x52=>
 AZ (A3 (Af 3 (.ptr (H.length+1) 0 0) x52 (H++[.cel 0 [.str b,.int .i64 (i:Int),.int .i64 0],.cel 0 [.str [],.int .i64 0,.int .i64 0]]))) fun _ H54=>
 (Ad 0 (.ptr H.length 0 0)).bind fun x55=>
 bC (Ac false 1 x55 H54) (fun x56=>Ac false 1 x55 (H++[.cel 0 [.str b,.int .i64 (i:Int),.int .i64 0],.cel 0 [.str [],.int .i64 0,.int .i64 0]])=some x56∧True) fun x56=>
 (Ad 1 (.ptr H.length 0 0)).bind fun x57=>
 bC (Ac false 1 x57 H54) (fun x58=>Ac false 1 x57 (H++[.cel 0 [.str b,.int .i64 (i:Int),.int .i64 0],.cel 0 [.str [],.int .i64 0,.int .i64 0]])=some x58∧True) fun x58=>
 (BF x56 (some (.int .i64 (f:Int))) (some x58)).bind fun x59=>
 (CU [Ac true 3 (.ptr (H.length+1) 0 0) H54,some x59]).bind fun x60=>rP H x60 H54))=some (.ret (.tup [.agg [.str b,.int .i64 (Ef b f (40-(i-f)) i:Int),.int .i64 (if Ef b f (40-(i-f)) i=f then TE b f else 0)],.str (if Ef b f (40-(i-f)) i=f then []else (b.take (Ef b f (40-(i-f)) i)).drop f)]),H):=by
   intro ho
   rw [ON ho]
   by_cases hif:i=f
   ·subst hif
    simp only [GMb,GMc,HPa,HPc,HPd,HPe,HPz,Nat.reduceAdd,Nat.reduceLT,hst,if_true]
   ·have hif':¬(i:Int)=(f:Int):=by omega
    simp only [GMb,GMc,HPa,HPc,HPd,HPe,HPz,Nat.reduceAdd,Nat.reduceLT,hif',hif,It h1 h2]
  unfold Sh.f7r
  by_cases h:b.length≤i
  ·have ho:onB b f i=false:=by unfold onB;rw [YA h]
   have:=stop ho
   simp only [GMb,GMc,HPa,HPc,HPd,HPe,HPz,Nat.reduceAdd,Nat.reduceLT,he,h]at this ⊢
   exact this
  ·have hlt:i<b.length:=by omega
   by_cases h40:i-f<40
   ·have h40':((i-f:Nat):Int)<40:=by omega
    cases hs:PY b[i]with
    | true=>
     have ho:onB b f i=true:=by unfold onB;rw [Yu hlt];simp [h40,hs]
     rw [ruleN_on ho h1]
     simp only [GMb,GMc,HPa,HPc,HPd,HPe,HPz,Nat.reduceAdd,Nat.reduceLT,he,h,hw,h40',B9 hlt,Vc,hs,Av (show i<9223372036854775807 by omega)]
     exact hrec (i+1) ⟨by omega,by omega⟩ (by omega)
    | false=>
     have ho:onB b f i=false:=by unfold onB;rw [Yu hlt];simp [hs]
     have:=stop ho
     simp only [GMb,GMc,HPa,HPc,HPd,HPe,HPz,Nat.reduceAdd,Nat.reduceLT,he,h,hw,h40',B9 hlt,Vc,hs]at this ⊢
     exact this
   ·have h40':¬((i-f:Nat):Int)<40:=by omega
    have ho:onB b f i=false:=by unfold onB;rw [Yu hlt];simp [h40]
    have:=stop ho
    simp only [GMb,GMc,HPa,HPc,HPd,HPe,HPz,Nat.reduceAdd,Nat.reduceLT,he,h,hw,h40']at this ⊢
    exact this
theorem r15_ruleX (b:List UInt8) (a:Nat) {e:Int} (he:e≠0) (H:Aa):Sh.f1a (BW b a e) H=some (.ret (.tup [BW b a e,.str []]),H):=by
 unfold Sh.f1a BW Cy
 simp only [GMb,GMc,HPa,HPc,HPd,HPe,HPz,Nat.reduceAdd,Nat.reduceLT,he]
abbrev Er:=Option (Int×List UInt8)
def Bu:Er→Int
 | none=>0
 | some e=>e.1
@[simp] theorem EY:Bu none=0:=rfl
@[simp] theorem Gk (e:Int×List UInt8):Bu (some e)=e.1:=rfl
def Mn (b:List UInt8) (a:Nat) (s:List UInt8):Int×List UInt8:=if a=b.length then (3,s)else (2,[])
theorem J7 {b:List UInt8} {a:Nat} (ha:a≤b.length) (s:List UInt8):(Mn b a s).1=TE b a:=by
 unfold Mn TE
 by_cases h:a=b.length
 ·rw [if_pos h,if_pos (by omega)]
 ·rw [if_neg h,if_neg (by omega)]
def BT (b:List UInt8) (a:Nat) (s rest:List UInt8):Er×Nat:=(if cpN (b.drop a) s<s.length then some (Mn b (VE b a s) (s.drop (cpN (b.drop a) s)++rest))else none,VE b a s)
def GU (b:List UInt8) (a:Nat) (rest:List UInt8):Er×Nat:=(if a=b.length then none else if BI b (crN b a) [10]then none else some (Mn b (crN b a) (10::rest)),QA b a)
def Hg (b:List UInt8) (f:Nat) (rest:List UInt8):Er×Nat:=(if Ef b f 40 f=f then some (Mn b f (97::rest))else none,Ef b f 40 f)
def JU:List UInt8:=[48,49,50,51,52,53,54,55,56,57]
def FC (b:List UInt8) (f:Nat) (rest:List UInt8):Nat→Nat→Er×Nat
 | 0,a=>(none,a)
 | n+1,a=>
  if BI b a JU then
   if f<a∧b[f]? = some 48 then (some (Mn b a []),a)
   else if a-f=400 then (some (4,[]),a)
   else FC b f rest n (a+1)
  else if a=f then (some (Mn b a (49::rest)),a)else (none,a)
def Q6 (b:List UInt8) (a:Nat) (neg:Bool):Nat:=if neg&&BI b a [45]then a+1 else a
def C4 (b:List UInt8) (a:Nat) (neg:Bool) (rest:List UInt8):Er×Nat:=
 if neg&&BI b a [45]&&BI b (a+1) [48]then (some (Mn b (a+1) []),a+1)else FC b (Q6 b a neg) rest 402 (Q6 b a neg)
def usualL:List UInt8:=[66,51,47,83,50,51]
def EL (er:Er):Prop:=∀e,er=some e→0<e.1∧e.1≤4
theorem EL.none:EL none:=fun e h=>by cases h
theorem EL.stp (b:List UInt8) (a:Nat) (s:List UInt8):EL (some (Mn b a s)):=fun e h=>by
 injection h with h;subst h;unfold Mn;split <;> simp
theorem EL.lim:EL (some (4,[])):=fun e h=>by injection h with h;subst h;simp
theorem JJ (b:List UInt8) (a:Nat) (s rest:List UInt8):EL (BT b a s rest).1:=by
 unfold BT;split
 ·exact .stp _ _ _
 ·exact .none
theorem endS_er (b:List UInt8) (a:Nat) (rest:List UInt8):EL (GU b a rest).1:=by
 unfold GU;split
 ·exact .none
 ·split
  ·exact .none
  ·exact .stp _ _ _
theorem rulS_er (b:List UInt8) (f:Nat) (rest:List UInt8):EL (Hg b f rest).1:=by
 unfold Hg;split
 ·exact .stp _ _ _
 ·exact .none
theorem numS_er (b:List UInt8) (f:Nat) (rest:List UInt8):∀n a,EL (FC b f rest n a).1
 | 0,a=>.none
 | n+1,a=>by
  unfold FC
  split
  ·split
   ·exact .stp _ _ _
   ·split
    ·exact .lim
    ·exact numS_er b f rest n (a+1)
  ·split
   ·exact .stp _ _ _
   ·exact .none
theorem Un (b:List UInt8) (a:Nat) (neg:Bool) (rest:List UInt8):EL (C4 b a neg rest).1:=by
 unfold C4;split
 ·exact .stp _ _ _
 ·exact numS_er _ _ _ _ _
theorem Lx.push {H G:Aa} {p a:Nat} {b:List UInt8} {r:List Ab} (h:Lx H p b a r):Lx (H++G) p b a r:=by
 have:p<H.length:=by
  rcases Zf p H.length with h' | h'
  ·exact h'
  ·unfold Lx at h;rw [YA h']at h;cases h
 unfold Lx
 rw [Yx this];exact h
end Go.Gm
