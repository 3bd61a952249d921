/- Texts of this proof, joined. -/
import Derived.Test.YtagddbecnkbcdaaGreatJ2
import Derived.Test.YtagddbecnkbcdaaGreatJ3
import Derived.Test.YtagddbecnkbcdaaGreatJ4
import Derived.Test.YtagddbecnkbcdaaGreatJ5
import Derived.OrdersIn
import Derived.TacticsIn
import Derived.RangeFuncCalls
import Derived.Shelf.RegionOpen
import Derived.Laws.ResultCell
import Derived.Test.YtagddbecnkbcdaaGreatProg
import Derived.WalkKit
import Derived.Tactics
import Derived.Tactics2
import Derived.Defers
import Derived.Recover
import Derived.Laws.Pointers
import Derived.Test.YtagddbecnkbcdaaGreatChecked
import Derived.KernelRfl
import Derived.Lib.Bytealg
import Derived.Lib.ItoaNum
import Derived.Lib.Repeat
import Derived.Lib.Join
import Derived.Lib.TrimByte
import Derived.Laws.RangeAny
import Derived.Laws.RangeString
set_option linter.unusedVariables false
set_option linter.unusedSimpArgs false
namespace Go.Gm
theorem enLU_inj {l l':List Nat} (h:enL cU l=enL cU l'):l=l':=by
 unfold enL at h
 induction l generalizing l' with
 | nil=>cases l' with
  | nil=>rfl
  | cons y r=>simp at h
 | cons x l ih=>
  cases l' with
  | nil=>simp at h
  | cons y r=>
   simp only [WA,List.cons.injEq,Ab.int.injEq,true_and,and_true]at h
   rw [ih h.2]
   congr 1
   omega
theorem OC {l m:List Nat} {t t':Tok} (H:Aa) (hl:Lim l) (hm:Lim m) (h1:l.length≤1099511627776) (h2:m.length≤1099511627776) :
  Sh.fp (.sl (enL cU l) t) (.sl (enL cU m) t') H=some (.ret (.int .i64 (EP (val l:Int) (val m:Int))),H):=by
 have hex:∃p:List Nat×List Nat,enL cU l=enL cU p.1∧enL cU m=enL cU p.2∧Lim p.1∧Lim p.2∧p.1.length≤1099511627776∧p.2.length≤1099511627776:=⟨(l,m),rfl,rfl,hl,hm,h1,h2⟩
 have e1:hex.choose.1=l:=(enLU_inj hex.choose_spec.1).symm
 have e2:hex.choose.2=m:=(enLU_inj hex.choose_spec.2.1).symm
 unfold Sh.fp
 simp only []
 rw [dif_pos hex,e1,e2]
 unfold EP
 by_cases c1:val l<val m
 ·rw [if_pos c1,if_pos (show (val l:Int)<(val m:Int)by omega)]
 ·by_cases c2:val l=val m
  ·rw [if_neg c1,if_pos c2,if_neg (show ¬(val l:Int)<(val m:Int)by omega),if_pos (show (val l:Int)=(val m:Int)by omega)]
  ·rw [if_neg c1,if_neg c2,if_neg (show ¬(val l:Int)<(val m:Int)by omega),if_neg (show ¬(val l:Int)=(val m:Int)by omega)]
section
variable {H:Aa} {p:Nat} {z:Int}
theorem Jl (hg:H[p]? = some (.cel 0 (A9 z))):Ac false 1 (.ptr p 0 0) H=some (.bool (decide (z<0))):=by
 simp only [Ac,AA hg,Option.bind_some];rfl
theorem ld_lim (hg:H[p]? = some (.cel 0 (A9 z))):Ac false 1 (.ptr p 0 1) H=some (.sl (enL cU (A7 z.natAbs)) .no):=by
 simp only [Ac,AA hg,Option.bind_some];rfl

end
theorem b_cmp {a b:Int} (ha:LB a) (hb:LB b) (H:Aa):Sh.f27 (big a) (big b) H=some (.ret (.int .i64 (EP a b)),H):=by
 have e1:(H++[Blk.cel 0 (A9 a)]++[Blk.cel 0 (A9 b)])[H.length]? = some (.cel 0 (A9 a)):=by simp
 have e2:(H++[Blk.cel 0 (A9 a)]++[Blk.cel 0 (A9 b)])[(H++[Blk.cel 0 (A9 a)]).length]? = some (.cel 0 (A9 b)):=Ap
 have c1:=fun K=>OC (t:=.no) (t':=.no) K (Bt a.natAbs) (Bt b.natAbs) (Vw ha (by decide)) (Vw hb (by decide))
 have c2:=fun K=>OC (t:=.no) (t':=.no) K (Bt b.natAbs) (Bt a.natAbs) (Vw hb (by decide)) (Vw ha (by decide))
 rw [Bz,Bz]at c1 c2
 have fin:∀q:Int,rP H (.int .i64 q) (H++[Blk.cel 0 (A9 a)]++[Blk.cel 0 (A9 b)])=some (.ret (.int .i64 q),H):=fun q=>by simp only [Vb];exact Ii
 unfold Sh.f27
 simp only [GMb,GMc,D8,Ah,UY,Nat.add_zero,Jl e1,Jl e2]
 by_cases h1:a<0
 ·have d1:decide (a<0)=true:=decide_eq_true h1
  by_cases h2:b<0
  ·have d2:decide (b<0)=true:=decide_eq_true h2
   have:EP (b.natAbs:Int) (a.natAbs:Int)=EP a b:=by
    unfold EP
    by_cases q1:a<b
    ·rw [if_pos q1,if_pos (by omega)]
    ·by_cases q2:a=b
     ·rw [if_neg q1,if_neg (by omega),if_pos q2,if_pos (by omega)]
     ·rw [if_neg q1,if_neg (by omega),if_neg q2,if_neg (by omega)]
   simp only [GMb,GMc,d1,d2,Jl e1,Jl e2,ld_lim e1,ld_lim e2,c2,fin,this]
  ·have d2:decide (b<0)=false:=decide_eq_false h2
   have:EP a b = -1:=by unfold EP;rw [if_pos (by omega)]
   simp only [GMb,GMc,d1,d2,Jl e1,Jl e2,fin,this]
 ·have d1:decide (a<0)=false:=decide_eq_false h1
  by_cases h2:b<0
  ·have d2:decide (b<0)=true:=decide_eq_true h2
   have:EP a b=1:=by unfold EP;rw [if_neg (by omega),if_neg (by omega)]
   simp only [GMb,GMc,d1,Jl e1,Jl e2,d2,fin,this]
  ·have d2:decide (b<0)=false:=decide_eq_false h2
   have:EP (a.natAbs:Int) (b.natAbs:Int)=EP a b:=by
    rw [show (a.natAbs:Int)=a by omega,show (b.natAbs:Int)=b by omega]
   simp only [GMb,GMc,d1,Jl e1,Jl e2,d2,ld_lim e1,ld_lim e2,c1,fin,this]
theorem or_two (a b:Int) (H:Aa):Sh.f3w (.sl [[.int .i64 a],[.int .i64 b]] .tight) H=some (.ret (.int .i64 (if a=0 then b else a)),H):=by
 have i0:At 1 (.sl [[.int .i64 a],[.int .i64 b]] .tight) (.int .i64 0)=some (.cptr [.int .i64 a] 0):=rfl
 have i1:At 1 (.sl [[.int .i64 a],[.int .i64 b]] .tight) (.int .i64 1)=some (.cptr [.int .i64 b] 0):=rfl
 have l0:∀x:Ab,Ac false 1 (.cptr [x] 0) H=some x:=fun _=>rfl
 have hl:A5 (.sl [[.int .i64 a],[.int .i64 b]] .tight)=some (.int .i64 2):=rfl
 have w0:IntKind.i64.wrap (0+1)=1:=rfl
 have w1:IntKind.i64.wrap (1+1)=2:=rfl
 have d0:decide ((0:Int)<2)=true:=rfl
 have d1:decide ((1:Int)<2)=true:=rfl
 have d2:decide ((2:Int)<2)=false:=rfl
 unfold Sh.f3w
 simp only [GMb,GMc,hl]
 have key:=Br (G:=fun rec1 vs H1=>Sh.f6p H rec1 (ag vs 0) (ag vs 1) (ag vs 2) (ag vs 3) H1) (σ:=Nat) (fun i=>i=0∨(i=1∧a=0)∨(i=2∧a=0∧b=0))
  (fun i=>[.int .i64 0,.sl [[.int .i64 a],[.int .i64 b]] .tight,.int .i64 2,.int .i64 (i:Int)]) (fun _=>H) (fun i=>2-i) (fun _=>some (.ret (.int .i64 (if a=0 then b else a)),H)) (fun i rec hi hrec=>?_) 0 (.inl rfl) (by decide)
 ·exact key
 ·unfold Sh.f6p
  rcases hi with rfl | ⟨rfl,ha⟩ | ⟨rfl,ha,hb⟩
  ·by_cases h:a=0
   ·have hn:(a != 0)=false:=by simp [h]
    have:=hrec 1 (.inr (.inl ⟨rfl,h⟩)) (by decide)
    simp only [GMb,GMc,Ai,Int.natCast_zero,d0,i0,l0,hn,w0]
    exact this
   ·have hn:(a != 0)=true:=by simp [h]
    simp only [GMb,GMc,Ai,Int.natCast_zero,d0,i0,l0,hn,if_neg h]
  ·by_cases h:b=0
   ·have hn:(b != 0)=false:=by simp [h]
    have:=hrec 2 (.inr (.inr ⟨rfl,ha,h⟩)) (by decide)
    simp only [GMb,GMc,Ai,show ((1:Nat):Int)=1 from rfl,d1,i1,l0,hn,w1]
    exact this
   ·have hn:(b != 0)=true:=by simp [h]
    simp only [GMb,GMc,Ai,show ((1:Nat):Int)=1 from rfl,d1,i1,l0,hn,if_pos ha]
  ·simp only [GMb,GMc,Ai,show ((2:Nat):Int)=2 from rfl,d2,if_pos ha,hb]
theorem p_order {c d:Cl} (hc:c.ok) (hd:d.ok) (H:Aa):Sh.f1f (.agg (cCl c)) (.agg (cCl d)) H=some (.ret (.int .i64 (Ji c d)),H):=by
 have e1:(H++[Blk.cel 0 (cCl c)]++[Blk.cel 0 (cCl d)])[H.length]? = some (.cel 0 (cCl c)):=by simp
 have e2:(H++[Blk.cel 0 (cCl c)]++[Blk.cel 0 (cCl d)])[(H++[Blk.cel 0 (cCl c)]).length]? = some (.cel 0 (cCl d)):=Ap
 have hy:=fun K=>b_cmp (hc.2.lb (by decide)) (hd.2.lb (by decide)) K
 have hx:=fun K=>b_cmp (hc.1.lb (by decide)) (hd.1.lb (by decide)) K
 have hb:∀x y:Int,AY 1 [.int .i64 x,.int .i64 y]=some (.sl [[.int .i64 x],[.int .i64 y]] .tight):=fun _ _=>rfl
 have fin:∀q:Int,rP H (.int .i64 q) (H++[Blk.cel 0 (cCl c)]++[Blk.cel 0 (cCl d)])=some (.ret (.int .i64 q),H):=fun q=>by simp only [Vb];exact Ii
 unfold Sh.f1f
 simp only [GMb,GMc,boxCl,Ah,UY,Nat.add_zero,IP e1,IP e2,IQ e1,IQ e2,BR,hy,hx,By,and_true,hb,or_two,fin]
 rfl
theorem S1 {α:Type} {f:α→List Ab} {sz:Nat} [hf:Sz f sz] [hp:Pl f] {H:Aa} {l:List α} {id b d cap k:Nat} {ex:Bool} (hg:A8 H id 0=some (flat f l)) (hi:b≤id) (hk:k≤l.length):GL H b (d+3) (.ms id 0 0 k cap sz ex)=some (.sl (enL f (l.take k)) .no):=by
 have h1:¬id<b:=by omega
 have h2:k*sz≤l.length*sz:=VE _ hk
 have h3:(l.take k).length=k:=by simp;omega
 have h4:=Mb (f:=f) (l.take k)
 rw [h3]at h4
 unfold GL
 simp only [frz,h1,if_false,hg,Option.bind_some,WB,UY,F4,h2,if_true,MP,GJ (MQ (f:=f) (l.take k)),O1 (f:=f) (l.take k),h4,Option.map_some,forget,Eh,fgt]
theorem OS (t:Nat):IntKind.u32.wrap (t:Int)=((t%4294967296:Nat):Int):=by
 simp only [IntKind.wrap,IntKind.bits,IntKind.signed]
 simp
theorem MV (t:Nat):Ae .none .shr (.int .u64 (t:Int)) (.int .u64 32)=some (.int .u64 ((t / 4294967296:Nat):Int)):=by
 show some (Ab.int .u64 ((t:Int).fdiv 4294967296))=_
 rw [Xb _ (by decide)]
 rfl
theorem mul_step {x m c:Nat} (hx:x<4294967296) (hm:m<4294967296) (hc:c<4294967296):c+x*m<18446744073709551616:=by
 have h1:x*m≤4294967295*4294967295:=X7 (by omega) (by omega)
 omega
theorem JS (x:Nat):val [x]=x:=by simp [val]
def E8 (l:List Nat) (m c:Nat):Nat→List Nat×Nat
 | 0=>([],c)
 | i+1=>((E8 l m c i).1++[((E8 l m c i).2+l[i]?.getD 0*m)%4294967296],((E8 l m c i).2+l[i]?.getD 0*m) / 4294967296)
theorem mulS_ok {l:List Nat} {m c:Nat} (hx:Lim l) (hm:m<4294967296) (hc:c<4294967296):∀i,i≤l.length →
  (E8 l m c i).1.length=i∧(E8 l m c i).2<4294967296∧Lim (E8 l m c i).1∧val (E8 l m c i).1+4294967296^i*(E8 l m c i).2=val (l.take i)*m+c
 | 0,_=>⟨rfl,hc,fun x h=>(by cases h),by simp [E8,val]⟩
 | i+1,hi=>by
  obtain ⟨h1,h2,h3,h4⟩:=mulS_ok hx hm hc i (by omega)
  have hxi:=hx _ (Vi (show i<l.length by omega))
  have hg:l[i]?.getD 0=l[i]:=by rw [UU (by omega)];rfl
  have ht:=mul_step hxi hm h2
  simp only [E8,hg]
  refine ⟨by simp [h1],?_,?_,?_⟩
  ·omega
  ·intro x hxx
   rcases Vt.1 hxx with h | h
   ·exact h3 x h
   ·rw [Vs.1 h];exact W9 _ (by decide)
  ·rw [Vf (by omega),Cp,Cp,h1,Vm,VZ (by omega)]
   have hdm:=WU ((E8 l m c i).2+l[i]*m) 4294967296
   simp only [val,Nat.mul_zero,Nat.add_zero]
   generalize ((E8 l m c i).2+l[i]*m) / 4294967296=q at *
   generalize ((E8 l m c i).2+l[i]*m)%4294967296=r at *
   rw [Nat.pow_succ,WK,VL,←Wk,show r+4294967296*q=(E8 l m c i).2+l[i]*m by omega,Wk,VM]
   rw [←VL,h4,WK]
   omega
theorem q_mul {l:List Nat} {tk:Tok} {m c:Nat} (H:Aa) (hx:Lim l) (hl:l.length≤1099511627776) (hm:m<4294967296) (hc:c<4294967296) :
  Sh.f3l (.sl (enL cU l) tk) (.int .u32 (m:Int)) (.int .u32 (c:Int)) H=some (.ret (.sl (enL cU (A7 (val l*m+c))) .no),H):=by
 unfold Sh.f3l
 have hn:IntKind.i64.wrap ((l.length:Int)+1)=((l.length+1:Nat):Int):=by rw [An] <;> omega
 have hmk:=Fa (f:=cU) (a:=0) (n:=l.length+1) (bytes:=4) (H:=H) (by omega) (by omega)
 simp only [show cU 0=[Ab.int .u32 0] from rfl]at hmk
 have hcc:AK .u64 (.int .u32 (c:Int))=some (.int .u64 (c:Int)):=by rw [B7,CD (by omega) (by omega)]
 have hcm:AK .u64 (.int .u32 (m:Int))=some (.int .u64 (m:Int)):=by rw [B7,CD (by omega) (by omega)]
 simp only [GMb,GMc,Au,hn,hmk,hcc]
 refine Cg l.length (fun i=>[.sl (enL cU l) tk,.int .u32 (m:Int),.ms H.length 0 0 (l.length+1) (l.length+1) 1 true,.int .u64 ((E8 l m c i).2:Int),.sl (enL cU l) tk,.int .i64 (l.length:Int),.int .i64 (i:Int)])
  (fun i=>H++[.cel 0 (flat cU ((E8 l m c i).1++List.replicate (l.length+1-i) 0))]) _ (by omega) (fun rec i hi=>?_) (fun rec=>?_)
 ·obtain ⟨h1,h2,h3,h4⟩:=mulS_ok hx hm hc i (by omega)
  have hi':(i:Int)<(l.length:Int):=by omega
  have hxi:=hx _ (Vi hi)
  have hg:l[i]?.getD 0=l[i]:=by rw [UU hi];rfl
  have ht:=mul_step hxi hm h2
  have hidx:=CB (sz:=1) (id:=H.length) (n:=l.length+1) (K:=.i64) (g:=0) (off:=0) (cap:=l.length+1) (ex:=true) (i:=i) (by omega)
  simp only [UY,Vk]at hidx
  obtain ⟨t,htt⟩:∃t,t=(E8 l m c i).2+l[i]*m:=⟨_,rfl⟩
  have hP:l[i]*m≤4294967295*4294967295:=X7 (by omega) (by omega)
  have w1:AK .u64 (.int .u32 (l[i]:Int))=some (.int .u64 (l[i]:Int)):=by rw [B7,CD (by omega) (by omega)]
  have w2:IntKind.u64.wrap ((l[i]:Int)*(m:Int))=((l[i]*m:Nat):Int):=by rw [←Int.natCast_mul,CD (by omega) (by omega)]
  have w3:IntKind.u64.wrap (((E8 l m c i).2:Int)+((l[i]*m:Nat):Int))=(t:Int):=by rw [CD] <;> omega
  have w4:AK .u32 (.int .u64 (t:Int))=some (.int .u32 ((t%4294967296:Nat):Int)):=by rw [B7,OS]
  have w5:Ae .none .shr (.int .u64 (t:Int)) (.int .u64 32)=some (.int .u64 ((t / 4294967296:Nat):Int)):=MV t
  have w6:IntKind.i64.wrap ((i:Int)+1)=((i+1:Nat):Int):=by rw [An] <;> omega
  have hst:=DG (f:=cU) (sz:=1) (l:=(E8 l m c i).1++List.replicate (l.length+1-i) 0) (i:=i) (a:=t%4294967296) (v:=.int .u32 ((t%4294967296:Nat):Int)) (H:=H++[Blk.cel 0 (flat cU ((E8 l m c i).1++List.replicate (l.length+1-i) 0))]) (id:=H.length) (AA Ap) (by simp;omega) rfl
  have hset:((E8 l m c i).1++List.replicate (l.length+1-i) 0).set i (t%4294967296)=(E8 l m c (i+1)).1++List.replicate (l.length+1-(i+1)) 0:=by
   rw [show l.length+1-i=(l.length+1-(i+1))+1 by omega,List.replicate_succ,V8 _ _ (by omega),h1,V9,List.set_cons_zero]
   simp [E8,hg,←htt]
  rw [Vk,B9 Ap,Bh,hset]at hst
  unfold Sh.f6n
  simp only [GMb,GMc,Ai,hi',Ay hi,AC,List.getElem?_cons_zero,w1,hcm,w2,w3,w4,hidx,hst,w5,w6]
  simp only [E8,hg,←htt]
 ·obtain ⟨h1,h2,h3,h4⟩:=mulS_ok hx hm hc l.length (Va _)
  have hidx:=CB (sz:=1) (id:=H.length) (n:=l.length+1) (K:=.i64) (g:=0) (off:=0) (cap:=l.length+1) (ex:=true) (i:=l.length) (by omega)
  simp only [UY,Vk]at hidx
  have w4:AK .u32 (.int .u64 ((E8 l m c l.length).2:Int))=some (.int .u32 ((E8 l m c l.length).2:Int)):=by rw [B7,CY (by omega) (by omega)]
  have hst:=DG (f:=cU) (sz:=1) (l:=(E8 l m c l.length).1++List.replicate (l.length+1-l.length) 0) (i:=l.length) (a:=(E8 l m c l.length).2) (v:=.int .u32 ((E8 l m c l.length).2:Int)) (H:=H++[Blk.cel 0 (flat cU ((E8 l m c l.length).1++List.replicate (l.length+1-l.length) 0))]) (id:=H.length) (AA Ap) (by simp;omega) rfl
  have hset:((E8 l m c l.length).1++List.replicate (l.length+1-l.length) 0).set l.length (E8 l m c l.length).2=(E8 l m c l.length).1++[(E8 l m c l.length).2]:=by
   rw [show l.length+1-l.length=1 by omega,V8 _ _ (by omega),h1,V9]
   rfl
  rw [Vk,B9 Ap,Bh,hset]at hst
  obtain ⟨o,ho⟩:∃o,o=(E8 l m c l.length).1++[(E8 l m c l.length).2]:=⟨_,rfl⟩
  have hol:o.length=l.length+1:=by rw [ho];simp [h1]
  have hox:Lim o:=by
   intro x hxx
   rw [ho]at hxx
   rcases Vt.1 hxx with h | h
   ·exact h3 x h
   ·rw [Vs.1 h];exact h2
  have hov:val o=val l*m+c:=by
   rw [ho,Cp,h1,JS]
   rw [VO]at h4
   exact h4
  rw [←ho]at hst
  have hct:=q_cut (l:=o) (H:=H++[Blk.cel 0 (flat cU o)]) (id:=H.length) Ap (by omega)
  have htk:=Js hox o.length (Va _)
  rw [VO,hov]at htk
  have hfa:=S1 (f:=cU) (sz:=1) (b:=H.length) (d:=5) (cap:=o.length) (ex:=true) (k:=GH o o.length) (l:=o) (H:=H++[Blk.cel 0 (flat cU o)]) (id:=H.length) (AA Ap) (Va _) (NN o _)
  rw [htk]at hfa
  rw [hol]at hct hfa
  unfold Sh.f6n
  simp only [GMb,GMc,Ai,VV,Au,w4,hidx,hst,hct,Cf,hfa,Option.map_some]
theorem M2 (b:List Nat) (i:Nat):val (b.take (i+1))=val (b.take i)+4294967296^i*b[i]?.getD 0:=by
 rcases VH i b.length with h | h
 ·rw [Vf h,Cp,UU h,Vm,VZ (by omega)]
  simp [val]
 ·rw [Vg (by omega),Vg h,Vl h]
  simp
theorem J9 {b:List Nat} (h:Lim b) (i:Nat):b[i]?.getD 0<4294967296:=by
 rcases VH i b.length with q | q
 ·rw [UU q];exact h _ (Vi q)
 ·rw [Vl q];decide
def E6 (a b:List Nat):Nat→List Nat×Nat
 | 0=>([],0)
 | i+1=>((E6 a b i).1++[(a[i]?.getD 0+b[i]?.getD 0+(E6 a b i).2)%4294967296],(a[i]?.getD 0+b[i]?.getD 0+(E6 a b i).2) / 4294967296)
theorem addS_ok {a b:List Nat} (ha:Lim a) (hb:Lim b):∀i,(E6 a b i).1.length=i∧(E6 a b i).2≤1∧Lim (E6 a b i).1∧val (E6 a b i).1+4294967296^i*(E6 a b i).2=val (a.take i)+val (b.take i)
 | 0=>⟨rfl,Vy _,fun x h=>(by cases h),by simp [E6,val]⟩
 | i+1=>by
  obtain ⟨h1,h2,h3,h4⟩:=addS_ok ha hb i
  have g1:=J9 ha i
  have g2:=J9 hb i
  simp only [E6]
  refine ⟨by simp [h1],by omega,?_,?_⟩
  ·intro x hx
   rcases Vt.1 hx with h | h
   ·exact h3 x h
   ·rw [Vs.1 h];exact W9 _ (by decide)
  ·rw [M2,M2,Cp,h1]
   have hdm:=WU (a[i]?.getD 0+b[i]?.getD 0+(E6 a b i).2) 4294967296
   simp only [val,Nat.mul_zero,Nat.add_zero]
   generalize (a[i]?.getD 0+b[i]?.getD 0+(E6 a b i).2) / 4294967296=q at *
   generalize (a[i]?.getD 0+b[i]?.getD 0+(E6 a b i).2)%4294967296=r at *
   rw [Nat.pow_succ,WK,VL,←Wk,show r+4294967296*q=a[i]?.getD 0+b[i]?.getD 0+(E6 a b i).2 by omega,Wk,Wk]
   omega
theorem p_add32 {x y c:Nat} (hx:x<4294967296) (hy:y<4294967296) (hc:c≤1) (H:Aa):Sh.f45 (.int .u32 (x:Int)) (.int .u32 (y:Int)) (.int .u32 (c:Int)) H=some (.ret (.tup [.int .u32 (((x+y+c)%4294967296:Nat):Int),.int .u32 (((x+y+c) / 4294967296:Nat):Int)]),H):=by
 have w:∀n:Nat,n<4294967296→AK .u64 (.int .u32 (n:Int))=some (.int .u64 (n:Int)):=fun n h=>by rw [B7,CD (by omega) (by omega)]
 have w1:IntKind.u64.wrap ((x:Int)+(y:Int))=((x+y:Nat):Int):=by rw [CD] <;> omega
 have w2:IntKind.u64.wrap (((x+y:Nat):Int)+(c:Int))=((x+y+c:Nat):Int):=by rw [CD] <;> omega
 have w4:AK .u32 (.int .u64 ((x+y+c:Nat):Int))=some (.int .u32 (((x+y+c)%4294967296:Nat):Int)):=by rw [B7,OS]
 have w5:=MV (x+y+c)
 have w6:AK .u32 (.int .u64 (((x+y+c) / 4294967296:Nat):Int))=some (.int .u32 (((x+y+c) / 4294967296:Nat):Int)):=by rw [B7,CY (by omega) (by omega)]
 unfold Sh.f45
 simp only [GMb,GMc,w x hx,w y hy,w c (by omega),w1,w2,w4,w5,w6]
theorem add_tail {H:Aa} {o:List Nat} {v:Nat} (hol:o.length<1099511627780) (hox:Lim o) (hov:val o=v) :
  (Sh.f1 (.ms H.length 0 0 o.length o.length 1 true) (H++[Blk.cel 0 (flat cU o)])).bind (fun r=>match r.1 with | .ret x=>rPN H x r.2 | .pan x=>none)=some (.ret (.sl (enL cU (A7 v)) .no),H):=by
 have hct:=q_cut (l:=o) (H:=H++[Blk.cel 0 (flat cU o)]) (id:=H.length) Ap (by omega)
 have htk:=Js hox o.length (Va _)
 rw [VO,hov]at htk
 have hk:=NN o o.length
 have hfa:=S1 (f:=cU) (sz:=1) (d:=5) (cap:=o.length) (ex:=true) (AA (Ap (cs:=flat cU o) (B:=H))) (Va H.length) hk
 rw [hct]
 simp only [Option.bind_some,Cf]
 rw [hfa,htk]
 rfl
theorem add_j1 {a b:List Nat} {ta tb:Tok} (H:Aa) (ha:Lim a) (hb:Lim b) (hl:a.length≤1099511627776) (hle:b.length≤a.length) :
  Sh.f6x H (.sl (enL cU a) ta) (.sl (enL cU b) tb) H=some (.ret (.sl (enL cU (A7 (val a+val b))) .no),H):=by
 unfold Sh.f6x
 have hn:IntKind.i64.wrap ((a.length:Int)+1)=((a.length+1:Nat):Int):=by rw [An] <;> omega
 have hmk:=Fa (f:=cU) (a:=0) (n:=a.length+1) (bytes:=4) (H:=H) (by omega) (by omega)
 simp only [show cU 0=[Ab.int .u32 0] from rfl]at hmk
 simp only [GMb,GMc,Au,hn,hmk]
 refine Cg (G:=fun rec2 vs H1=>Sh.f46 H rec2 (ag vs 0) (ag vs 1) (ag vs 2) (ag vs 3) (ag vs 4) (ag vs 5) (ag vs 6) H1) a.length
  (fun i=>[.sl (enL cU a) ta,.sl (enL cU b) tb,.ms H.length 0 0 (a.length+1) (a.length+1) 1 true,.int .u32 ((E6 a b i).2:Int),.sl (enL cU a) ta,.int .i64 (a.length:Int),.int .i64 (i:Int)])
  (fun i=>H++[.cel 0 (flat cU ((E6 a b i).1++List.replicate (a.length+1-i) 0))]) _ (by omega) (fun rec i hi=>?_) (fun rec=>?_)
 ·obtain ⟨h1,h2,h3,h4⟩:=addS_ok ha hb i
  have d1:decide ((i:Int)<(a.length:Int))=true:=decide_eq_true (by omega)
  have hxi:=ha _ (Vi hi)
  have hg:a[i]?.getD 0=a[i]:=by rw [UU hi];rfl
  have hidx:=CB (sz:=1) (id:=H.length) (n:=a.length+1) (K:=.i64) (g:=0) (off:=0) (cap:=a.length+1) (ex:=true) (i:=i) (by omega)
  simp only [UY,Vk]at hidx
  have w6:IntKind.i64.wrap ((i:Int)+1)=((i+1:Nat):Int):=by rw [An] <;> omega
  have hst:=DG (f:=cU) (sz:=1) (l:=(E6 a b i).1++List.replicate (a.length+1-i) 0) (i:=i) (a:=(a[i]?.getD 0+b[i]?.getD 0+(E6 a b i).2)%4294967296) (v:=.int .u32 (((a[i]?.getD 0+b[i]?.getD 0+(E6 a b i).2)%4294967296:Nat):Int)) (H:=H++[Blk.cel 0 (flat cU ((E6 a b i).1++List.replicate (a.length+1-i) 0))]) (id:=H.length) (AA Ap) (by simp;omega) rfl
  have hset:((E6 a b i).1++List.replicate (a.length+1-i) 0).set i ((a[i]?.getD 0+b[i]?.getD 0+(E6 a b i).2)%4294967296)=(E6 a b (i+1)).1++List.replicate (a.length+1-(i+1)) 0:=by
   rw [show a.length+1-i=(a.length+1-(i+1))+1 by omega,List.replicate_succ,V8 _ _ (by omega),h1,V9,List.set_cons_zero]
   simp [E6]
  rw [Vk,B9 Ap,Bh,hset]at hst
  rw [hg]at hst
  have hb32:=J9 hb i
  have h32:=fun K=>p_add32 hxi hb32 h2 K
  have hnext:(E6 a b (i+1)).2=(a[i]+b[i]?.getD 0+(E6 a b i).2) / 4294967296:=by simp only [E6,hg]
  unfold Sh.f46 Sh.f7i
  by_cases hib:i<b.length
  ·have d2:decide ((i:Int)<(b.length:Int))=true:=decide_eq_true (by omega)
   have hgb:b[i]?.getD 0=b[i]:=by rw [UU hib];rfl
   rw [hgb]at h32 hst hnext
   simp only [Ak,Ai,Bc,Bg,Bw,BG,D5,GMb,GMc,d1,d2,Au,Ay hi,Ay hib,AC,List.getElem?_cons_zero,h32,B3,BB,hidx,hst,AV,w6,hnext]
  ·have d2:decide ((i:Int)<(b.length:Int))=false:=decide_eq_false (by omega)
   have hgb:b[i]?.getD 0=0:=by rw [Vl (by omega)];rfl
   rw [hgb]at h32 hst hnext
   simp only [Int.natCast_zero]at h32
   simp only [Ak,Ai,Bc,Bg,Bw,BG,D5,GMb,GMc,d1,d2,Au,Ay hi,AC,List.getElem?_cons_zero,h32,B3,BB,hidx,hst,AV,w6,hnext]
 ·obtain ⟨h1,h2,h3,h4⟩:=addS_ok ha hb a.length
  have d1:decide ((a.length:Int)<(a.length:Int))=false:=decide_eq_false (by omega)
  have hidx:=CB (sz:=1) (id:=H.length) (n:=a.length+1) (K:=.i64) (g:=0) (off:=0) (cap:=a.length+1) (ex:=true) (i:=a.length) (by omega)
  simp only [UY,Vk]at hidx
  have hst:=DG (f:=cU) (sz:=1) (l:=(E6 a b a.length).1++List.replicate (a.length+1-a.length) 0) (i:=a.length) (a:=(E6 a b a.length).2) (v:=.int .u32 ((E6 a b a.length).2:Int)) (H:=H++[Blk.cel 0 (flat cU ((E6 a b a.length).1++List.replicate (a.length+1-a.length) 0))]) (id:=H.length) (AA Ap) (by simp;omega) rfl
  have hset:((E6 a b a.length).1++List.replicate (a.length+1-a.length) 0).set a.length (E6 a b a.length).2=(E6 a b a.length).1++[(E6 a b a.length).2]:=by
   rw [show a.length+1-a.length=1 by omega,V8 _ _ (by omega),h1,V9]
   rfl
  rw [Vk,B9 Ap,Bh,hset]at hst
  obtain ⟨o,ho⟩:∃o,o=(E6 a b a.length).1++[(E6 a b a.length).2]:=⟨_,rfl⟩
  have hol:o.length=a.length+1:=by rw [ho];simp [h1]
  have hox:Lim o:=by
   intro x hxx
   rw [ho]at hxx
   rcases Vt.1 hxx with h | h
   ·exact h3 x h
   ·rw [Vs.1 h];omega
  have hov:val o=val a+val b:=by
   rw [ho,Cp,h1,JS]
   rw [VO,Vg hle]at h4
   exact h4
  rw [←ho]at hst
  have ht:=add_tail (H:=H) (o:=o) (by omega) hox hov
  rw [hol]at ht
  unfold Sh.f46
  simp only [Ak,Ai,Bc,Bg,Bw,BG,D5,GMb,GMc,d1,Au,hidx,hst,AV]
  have hct:=q_cut (l:=o) (H:=H++[Blk.cel 0 (flat cU o)]) (id:=H.length) Ap (by omega)
  rw [hol]at hct
  rw [hct]at ht ⊢
  simp only [Option.bind_some]at ht
  simp only [GMb,GMc]
  exact ht
theorem p_add {a b:List Nat} {ta tb:Tok} (H:Aa) (ha:Lim a) (hb:Lim b) (h1:a.length≤1099511627776) (h2:b.length≤1099511627776) :
  Sh.f47 (.sl (enL cU a) ta) (.sl (enL cU b) tb) H=some (.ret (.sl (enL cU (A7 (val a+val b))) .no),H):=by
 unfold Sh.f47
 by_cases h:a.length<b.length
 ·have d1:decide ((a.length:Int)<(b.length:Int))=true:=decide_eq_true (by omega)
  simp only [GMb,GMc,Au,d1]
  rw [add_j1 H hb ha h2 (by omega),XK]
 ·have d1:decide ((a.length:Int)<(b.length:Int))=false:=decide_eq_false (by omega)
  simp only [GMb,GMc,Au,d1]
  exact add_j1 H ha hb h1 (by omega)
theorem JO (a b:BitVec 32):HS .and .u32 (a.toNat:Int) (b.toNat:Int)=some (.int .u32 ((a &&& b).toNat:Int))∧HS .or .u32 (a.toNat:Int) (b.toNat:Int)=some (.int .u32 ((a ||| b).toNat:Int))∧HS .xor .u32 (a.toNat:Int) (b.toNat:Int)=some (.int .u32 ((a ^^^ b).toNat:Int)):=by
 have ho:∀v:BitVec 32,BitVec.ofInt 32 (v.toNat:Int)=v:=fun v=>by
  rw [BitVec.ofInt_natCast,BitVec.ofNat_toNat,BitVec.setWidth_eq]
 have hw:∀v:BitVec 32,IntKind.u32.wrap (v.toNat:Int)=(v.toNat:Int):=fun v=>by
  have:=v.isLt
  rw [CY (by omega) (by omega)]
 refine ⟨?_,?_,?_⟩
 ·show some (Ab.int .u32 (IntKind.u32.wrap (((BitVec.ofInt 32 (a.toNat:Int)) &&& (BitVec.ofInt 32 (b.toNat:Int))).toNat:Int)))=_
  rw [ho,ho,hw]
 ·show some (Ab.int .u32 (IntKind.u32.wrap (((BitVec.ofInt 32 (a.toNat:Int)) ||| (BitVec.ofInt 32 (b.toNat:Int))).toNat:Int)))=_
  rw [ho,ho,hw]
 ·show some (Ab.int .u32 (IntKind.u32.wrap (((BitVec.ofInt 32 (a.toNat:Int)) ^^^ (BitVec.ofInt 32 (b.toNat:Int))).toNat:Int)))=_
  rw [ho,ho,hw]
theorem not_u32 (a:BitVec 32):unA .xor (.int .u32 (a.toNat:Int))=some (.int .u32 ((~~~a).toNat:Int)):=by
 have h:=(JO (BitVec.allOnes 32) a).2.2
 have e:((BitVec.allOnes 32).toNat:Int)=4294967295:=by decide
 rw [e]at h
 have hn : ~~~a=BitVec.allOnes 32 ^^^ a:=BitVec.allOnes_xor.symm
 rw [hn]
 exact h
theorem msb_u32 (v:BitVec 32):Ae .none .shr (.int .u32 (v.toNat:Int)) (.int .u64 31)=some (.int .u32 ((if v.msb then 1 else 0:Nat):Int)):=by
 have hs:Ae .none .shr (.int .u32 (v.toNat:Int)) (.int .u64 31)=some (.int .u32 (Int.fdiv (v.toNat:Int) (2^(min (31:Int).toNat IntKind.u32.bits)))):=rfl
 have hlt:=v.isLt
 rw [hs,show (2:Int)^(min (31:Int).toNat IntKind.u32.bits)=2147483648 from by decide,Xb _ (by omega)]
 congr 2
 rw [Xw]
 by_cases h:2147483648≤v.toNat
 ·have:decide (2^(32-1)≤v.toNat)=true:=decide_eq_true (by omega)
  rw [this]
  simp only [if_true];omega
 ·have:decide (2^(32-1)≤v.toNat)=false:=decide_eq_false (by omega)
  rw [this]
  simp only [Vd,if_false];omega
theorem Mt (op:BinOp) (hop:Dh op=false) (a b:Int) (hb:∀k x y,Fp op k x y=HS op k x y):Ae .none op (.int .u32 a) (.int .u32 b)=HS op .u32 a b:=by
 show (if Dh op then _ else if IntKind.u32=IntKind.u32 then Fp op .u32 a b else none)=_
 rw [hop,if_neg (by decide),if_pos rfl,hb]
theorem p_sub32 {x y c:Nat} (hx:x<4294967296) (hy:y<4294967296) (hc:c≤1) (H:Aa):Sh.f2f (.int .u32 (x:Int)) (.int .u32 (y:Int)) (.int .u32 (c:Int)) H =
  some (.ret (.tup [.int .u32 (((x+4294967296-y-c)%4294967296:Nat):Int),.int .u32 ((if x<y+c then 1 else 0:Nat):Int)]),H):=by
 obtain ⟨a,ha⟩:∃a:BitVec 32,a.toNat=x:=⟨BitVec.ofNat 32 x,by rw [WC];omega⟩
 obtain ⟨b,hb⟩:∃b:BitVec 32,b.toNat=y:=⟨BitVec.ofNat 32 y,by rw [WC];omega⟩
 obtain ⟨d,hd⟩:∃d:BitVec 32,d.toNat=(x+4294967296-y-c)%4294967296:=⟨BitVec.ofNat 32 ((x+4294967296-y-c)%4294967296),by rw [WC];omega⟩
 have hwr:∀z:Int,IntKind.u32.wrap z=z%4294967296:=fun z=>by
  simp only [IntKind.wrap,IntKind.bits,IntKind.signed]
  simp
 have w1:IntKind.u32.wrap (IntKind.u32.wrap ((x:Int)-(y:Int))-(c:Int))=(d.toNat:Int):=by
  rw [hwr,hwr,hd]
  omega
 have e1:∀p q:BitVec 32,Ae .none .and (.int .u32 (p.toNat:Int)) (.int .u32 (q.toNat:Int))=some (.int .u32 ((p &&& q).toNat:Int)):=fun p q=>by
  rw [Mt .and rfl _ _ (fun _ _ _=>rfl)];exact (JO p q).1
 have e2:∀p q:BitVec 32,Ae .none .or (.int .u32 (p.toNat:Int)) (.int .u32 (q.toNat:Int))=some (.int .u32 ((p ||| q).toNat:Int)):=fun p q=>by
  rw [Mt .or rfl _ _ (fun _ _ _=>rfl)];exact (JO p q).2.1
 have e3:∀p q:BitVec 32,Ae .none .xor (.int .u32 (p.toNat:Int)) (.int .u32 (q.toNat:Int))=some (.int .u32 ((p ^^^ q).toNat:Int)):=fun p q=>by
  rw [Mt .xor rfl _ _ (fun _ _ _=>rfl)];exact (JO p q).2.2
 have hm:(if ((~~~a &&& b) ||| (~~~(a ^^^ b) &&& d)).msb then 1 else 0:Nat)=if x<y+c then 1 else 0:=by
  rw [BitVec.msb_or,BitVec.msb_and,BitVec.msb_and,BitVec.msb_not,BitVec.msb_not,BitVec.msb_xor,Xw a,Xw b,Xw d,ha,hb,hd]
  have q1:decide (2^(32-1)≤x)=decide (2147483648≤x):=rfl
  have q2:decide (2^(32-1)≤y)=decide (2147483648≤y):=rfl
  have q3:decide (2^(32-1)≤(x+4294967296-y-c)%4294967296)=decide (2147483648≤(x+4294967296-y-c)%4294967296):=rfl
  rw [q1,q2,q3]
  by_cases c1:2147483648≤x <;> by_cases c2:2147483648≤y <;> by_cases c3:2147483648≤(x+4294967296-y-c)%4294967296 <;> simp only [c1,c2,c3,decide_true,decide_false] <;> (first | (rw [if_pos (by decide),if_pos (by omega)]) | (rw [if_neg (by decide),if_neg (by omega)]))
 unfold Sh.f2f
 simp only [GMb,GMc,w1]
 rw [←ha,←hb]
 simp only [GMb,GMc,not_u32,e1,e2,e3,msb_u32,B5]
 rw [hm,hd,ha,hb]
theorem q_rightG {l:List Nat} {H:Aa} {id k:Nat} {ex:Bool} (hg:A8 H id 0=some (flat cU l)) (hk:k≤l.length) (hl:l.length<9223372036854775807):Sh.f8 (.ms id 0 0 k l.length 1 ex) H=some (.ret (.bool (decide (k=0)||decide (l[k-1]?.getD 0≠0))),H):=by
 unfold Sh.f8
 cases k with
 | zero=>simp [A5]
 | succ k=>
  have hidx:=CB (sz:=1) (id:=id) (n:=k+1) (K:=.i64) (g:=0) (off:=0) (cap:=l.length) (ex:=ex) (i:=k) (by omega)
  simp only [UY,Vk]at hidx
  have hld:=HM (f:=cU) (id:=id) (l:=l) (H:=H) hg (i:=k) (by omega)
  have h0:¬((k+1:Nat):Int)=0:=by omega
  have hw:IntKind.i64.wrap (((k+1:Nat):Int)-1)=(k:Int):=by rw [An] <;> omega
  have hgk:l[k]? = some l[k]:=UU (by omega)
  simp only [show A5 (.ms id 0 0 (k+1) l.length 1 ex)=some (.int .i64 ((k+1:Nat):Int)) from rfl,GMb,GMc,h0,hw,hidx,hld,Vp,hgk,Option.getD_some,WN]
  by_cases h:l[k]=0
  ·simp [h]
  ·have:¬(l[k]:Int)=0:=by omega
   simp [h,this]
theorem q_cutG {l:List Nat} {H:Aa} {id:Nat} {ex:Bool} (hg:A8 H id 0=some (flat cU l)) (hl:l.length<1152921504606846976):Sh.f1 (.ms id 0 0 l.length l.length 1 ex) H=some (.ret (.ms id 0 0 (GH l l.length) l.length 1 ex),H):=by
 unfold Sh.f1
 refine Br (σ:=Nat) (fun k=>k≤l.length∧GH l k=GH l l.length) (fun k=>[.ms id 0 0 k l.length 1 ex]) (fun _=>H) (fun k=>k) (fun _=>some (.ret (.ms id 0 0 (GH l l.length) l.length 1 ex),H)) (fun k rec hi hrec=>?_) l.length ⟨Va _,rfl⟩ (by omega)
 obtain ⟨hk,ht⟩:=hi
 unfold Sh.f11
 simp only [Ak,q_rightG hg hk (by omega),GMb,GMc]
 cases k with
 | zero=>simp [←ht,GH,rKN,fin,forget,Eh,fgt]
 | succ k=>
  by_cases h:l[k]?.getD 0=0
  ·have hw:IntKind.i64.wrap (((k+1:Nat):Int)-1)=(k:Int):=by rw [An] <;> omega
   have hsl:Bv 1 (.ms id 0 0 (k+1) l.length 1 ex) none (some (.int .i64 (k:Int))) none=some (.ms id 0 0 k l.length 1 ex):=by
    have:(0:Int)≤(k:Int):=by omega
    simp only [Bv,Bq,Option.bind_some,this,if_true,Int.toNat_natCast]
    rw [if_pos ⟨trivial,by omega,by omega,by omega⟩]
    simp
   have ht':GH l k=GH l l.length:=by rw [←ht];simp [GH,h]
   have hr:=hrec k ⟨by omega,ht'⟩ (by omega)
   simp only [h,show A5 (.ms id 0 0 (k+1) l.length 1 ex)=some (.int .i64 ((k+1:Nat):Int)) from rfl,GMb,GMc,hw,hsl,Vp,ne_eq,not_true_eq_false,WN]
   exact hr
  ·have ht':GH l (k+1)=k+1:=by simp [GH,h]
   have hr:(decide (k+1=0)||decide (l[k+1-1]?.getD 0≠0))=true:=by simp [h]
   simp only [hr,GMb,GMc,DY,forget,Eh,fgt]
   rw [←ht,ht']
theorem clone_u (l:List Nat) (tk:Tok) (H:Aa) (hl:l.length≤1099511627776):Sh.f2d (.sl (enL cU l) tk) H=some (if l=[]then (.ret (.sl [] .tight),H)else (.ret (.ms H.length 0 0 l.length l.length 1 false),H++[.buf 0 (flat cU l) BX 1])):=by
 have hb:AY 1 []=some (.sl [] .tight):=rfl
 unfold Sh.f2d
 cases l with
 | nil=>
  have ha:FG BX 1 4 (.sl [] .tight) (.sl (enL cU []) tk) H=some (.sl [] .tight,H):=rfl
  have hn:Q8 .eql (.sl (enL cU []) tk)=some .ubool:=rfl
  have hu:∀x:Out,Aj .ubool x x=x:=fun x=>if_pos rfl
  simp only [hn,GMb,GMc,hb,ha]
  exact hu _
 | cons c l=>
  have hn:Q8 .eql (.sl (enL cU (c::l)) tk)=some (.bool false):=rfl
  have ha:FG BX 1 4 (.sl [] .tight) (.sl (enL cU (c::l)) tk) H=some (.ms H.length 0 0 (c::l).length (c::l).length 1 false,H++[.buf 0 (flat cU (c::l)) BX 1]):=by
   have he:BY 1 (.sl (enL cU (c::l)) tk) H=some (enL cU (c::l)):=LU
   have hlen:(enL cU (c::l)).length=(c::l).length:=by simp [enL]
   unfold FG
   rw [he]
   simp only [Option.bind_some]
   unfold HV
   rw [hlen,if_neg (by simp)]
   simp only [List.length_nil,UY,List.all_nil,List.nil_append]
   rw [if_pos ⟨trivial,by omega,by omega⟩]
   rfl
  simp only [hn,GMb,GMc,hb,ha]
  rw [if_neg (by simp)]
def dgS (x y c:Nat):Nat:=(x+4294967296-y-c)%4294967296
def bwS (x y c:Nat):Nat:=if x<y+c then 1 else 0
theorem dif_ar1 {P W x y c:Nat} (h:x<y+c) (hy:y+c≤x+W):P*(x+W-y-c)+P*y+P*c=P*x+P*W:=by
 rw [←Wk,←Wk,←Wk,show x+W-y-c+y+c=x+W by omega]
theorem dif_ar2 {P x y c:Nat} (h:y+c≤x):P*(x-y-c)+P*y+P*c=P*x:=by
 rw [←Wk,←Wk,show x-y-c+y+c=x by omega]
theorem dif_mod {W x y c:Nat} (hx:x<W) (hy:y<W) (hc:c≤1):(x+W-y-c)%W=if x<y+c then x+W-y-c else x-y-c:=by
 by_cases h:x<y+c
 ·rw [if_pos h,Wb (by omega)]
 ·rw [if_neg h,show x+W-y-c=(x-y-c)+W by omega,Nat.add_mod_right,Wb (by omega)]
theorem dif_fin {v1 v2 u P Q W x y c d r:Nat} (h4:v1+v2=u+P*c) (hQ:Q=P*W) (hr:r=if x<y+c then x+W-y-c else x-y-c) (hd:d=if x<y+c then 1 else 0) (hy:y+c≤x+W):v1+P*r+(v2+P*y)=u+P*x+Q*d:=by
 by_cases h:x<y+c
 ·rw [if_pos h]at hr hd
  have:=dif_ar1 (P:=P) h hy
  rw [hr,hd,hQ,Vk];omega
 ·rw [if_neg h]at hr hd
  have:=dif_ar2 (P:=P) (show y+c≤x by omega)
  rw [hr,hd,Nat.mul_zero];omega
theorem dg_eq {x y c:Nat} (hx:x<4294967296) (hy:y<4294967296) (hc:c≤1):dgS x y c=if x<y+c then x+4294967296-y-c else x-y-c:=dif_mod hx hy hc
theorem dg_lt (x y c:Nat):dgS x y c<4294967296:=W9 _ (by decide)
theorem bw_le (x y c:Nat):bwS x y c≤1:=by unfold bwS;split <;> omega
def Fq (a b:List Nat):Nat→List Nat×Nat
 | 0=>([],0)
 | i+1=>((Fq a b i).1++[dgS (a[i]?.getD 0) (b[i]?.getD 0) (Fq a b i).2],bwS (a[i]?.getD 0) (b[i]?.getD 0) (Fq a b i).2)
theorem difS_ok {a b:List Nat} (ha:Lim a) (hb:Lim b):∀i,(Fq a b i).1.length=i∧(Fq a b i).2≤1∧Lim (Fq a b i).1∧val (Fq a b i).1+val (b.take i)=val (a.take i)+4294967296^i*(Fq a b i).2
 | 0=>⟨rfl,Vy _,fun x h=>(by cases h),by simp [Fq,val]⟩
 | i+1=>by
  obtain ⟨h1,h2,h3,h4⟩:=difS_ok ha hb i
  have g1:=J9 ha i
  have g2:=J9 hb i
  simp only [Fq]
  refine ⟨by simp [h1],bw_le _ _ _,?_,?_⟩
  ·intro x hx
   rcases Vt.1 hx with h | h
   ·exact h3 x h
   ·rw [Vs.1 h];exact dg_lt _ _ _
  ·rw [M2,M2,Cp,h1,JS]
   exact dif_fin h4 (Nat.pow_succ _ _) (dg_eq g1 g2 h2) rfl (Vw (Nat.add_le_add (Nat.le_of_lt_succ g2) h2) (Nat.le_add_left _ _))
theorem fpart_msT {α:Type} {f:α→List Ab} {sz:Nat} [hf:Sz f sz] [hp:Pl f] {H:Aa} {l:List α} {id b d cap k:Nat} {ex:Bool} (hg:A8 H id 0=some (flat f l)) (hi:b≤id) (hk:k≤l.length):Fj H b (d+3) (.ms id 0 0 k cap sz ex)=some (.sl (enL f (l.take k)) .no):=by
 have h1:¬id<b:=by omega
 have h2:k*sz≤l.length*sz:=VE _ hk
 have h3:(l.take k).length=k:=by simp;omega
 have h4:=Mb (f:=f) (l.take k)
 rw [h3]at h4
 unfold Fj
 simp only [frz,h1,if_false,hg,Option.bind_some,WB,UY,F4,h2,if_true,MP,GJ (MQ (f:=f) (l.take k)),O1 (f:=f) (l.take k),h4,Option.map_some,Eh,fgt]
theorem FQ {l:List Nat} (h:Lim l):val l<4294967296^l.length:=by
 induction l with
 | nil=>simp [val]
 | cons x l ih=>
  have h1:=h x (by simp)
  have h2:=ih fun y hy=>h y (by simp [hy])
  have e:val (x::l)=x+4294967296*val l:=rfl
  rw [e,List.length_cons,Nat.pow_succ,Wr _ 4294967296]
  have:4294967296*(val l+1)≤4294967296*4294967296^l.length:=Xy _ h2
  rw [Wk]at this
  omega
theorem cut_nil (H:Aa) (tk:Tok):Sh.f1 (.sl [] tk) H=some (.ret (.sl [] .no),H):=by
 have hr:Sh.f8 (.sl [] tk) H=some (.ret (.bool true),H):=by unfold Sh.f8;simp [A5]
 unfold Sh.f1
 rw [DI EK]
 unfold Sh.f11
 simp only [Ak,GMb,GMc,hr,DY,forget,Eh,fgt]
theorem p_sub {a b:List Nat} {ta tb:Tok} (H:Aa) (ha:Lim a) (hb:Lim b) (hl:a.length≤1099511627776) (hle:b.length≤a.length) (hv:val b≤val a) :
  Sh.f48 (.sl (enL cU a) ta) (.sl (enL cU b) tb) H=some (.ret (.tup [.sl (enL cU (A7 (val a-val b))) .no,.bool true]),H):=by
 have hcmp:=fun K=>OC (t:=ta) (t':=tb) K ha hb hl (by omega)
 have hneg:decide (EP (val a:Int) (val b:Int)<0)=false:=by
  rw [Gq];exact decide_eq_false (by omega)
 have hcl:=clone_u a ta H hl
 unfold Sh.f48
 by_cases h0:a=[]
 ·subst h0
  rw [if_pos rfl]at hcl
  have hb0:b=[]:=Vo (by simpa using hle)
  subst hb0
  have hlen:A5 (.sl [] .tight)=some (.int .i64 0):=rfl
  have d0:decide ((0:Int)<0)=false:=rfl
  have e0:A7 (val []-val [])=[]:=DJ
  simp only [GMb,GMc,hcmp,hneg,hcl,hlen]
  rw [DI EK]
  unfold Sh.f2g
  simp only [Ak,Ai,Bc,Bg,Bw,BG,GMb,GMc,d0,cut_nil,L5,CQ,BN,Cd,Iu,EL,Option.map_some,e0]
  rfl
 ·rw [if_neg h0]at hcl
  have hlen:A5 (.ms H.length 0 0 a.length a.length 1 false)=some (.int .i64 (a.length:Int)):=rfl
  simp only [GMb,GMc,hcmp,hneg,hcl,hlen]
  refine Cg (G:=fun rec1 vs H1=>Sh.f2g H rec1 (ag vs 0) (ag vs 1) (ag vs 2) (ag vs 3) (ag vs 4) H1) a.length
   (fun i=>[.sl (enL cU b) tb,.ms H.length 0 0 a.length a.length 1 false,.int .u32 ((Fq a b i).2:Int),.int .i64 (a.length:Int),.int .i64 (i:Int)])
   (fun i=>H++[.buf 0 (flat cU ((Fq a b i).1++a.drop i)) BX 1]) _ (by omega) (fun rec i hi=>?_) (fun rec=>?_)
  ·obtain ⟨h1,h2,h3,h4⟩:=difS_ok ha hb i
   have d1:decide ((i:Int)<(a.length:Int))=true:=decide_eq_true (by omega)
   have hxi:=ha _ (Vi hi)
   have hg:a[i]?.getD 0=a[i]:=by rw [UU hi];rfl
   have hidx:=CB (sz:=1) (id:=H.length) (n:=a.length) (K:=.i64) (g:=0) (off:=0) (cap:=a.length) (ex:=false) (i:=i) hi
   simp only [UY,Vk]at hidx
   have hgc:A8 (H++[Blk.buf 0 (flat cU ((Fq a b i).1++a.drop i)) BX 1]) H.length 0=some (flat cU ((Fq a b i).1++a.drop i)):=by simp [A8]
   have hil:i<((Fq a b i).1++a.drop i).length:=by rw [Vc,h1,Vx];omega
   have hel:((Fq a b i).1++a.drop i)[i]=a[i]:=by
    rw [Wd (by omega)]
    simp only [h1,V9]
    rw [WX];rfl
   have hld:=HM (f:=cU) hgc hil
   rw [hel]at hld
   have w6:IntKind.i64.wrap ((i:Int)+1)=((i+1:Nat):Int):=by rw [An] <;> omega
   have hst:=DG (f:=cU) (sz:=1) (a:=dgS (a[i]?.getD 0) (b[i]?.getD 0) (Fq a b i).2) (v:=.int .u32 (dgS (a[i]?.getD 0) (b[i]?.getD 0) (Fq a b i).2:Int)) hgc hil rfl
   have hset:((Fq a b i).1++a.drop i).set i (dgS (a[i]?.getD 0) (b[i]?.getD 0) (Fq a b i).2)=(Fq a b (i+1)).1++a.drop (i+1):=by
    rw [V8 _ _ (by omega),h1,V9,V4 hi,List.set_cons_zero]
    simp only [Fq,Vb,List.cons_append,List.nil_append]
   have hsc:∀cs,Fv (H++[Blk.buf 0 (flat cU ((Fq a b i).1++a.drop i)) BX 1]) H.length 0 cs=H++[Blk.buf 0 cs BX 1]:=fun cs=>by simp [Fv]
   rw [Vk,hsc,hset]at hst
   rw [hg]at hst
   have hb32:=J9 hb i
   have h32:∀K,Sh.f2f (.int .u32 (a[i]:Int)) (.int .u32 ((b[i]?.getD 0:Nat):Int)) (.int .u32 ((Fq a b i).2:Int)) K=some (.ret (.tup [.int .u32 (dgS a[i] (b[i]?.getD 0) (Fq a b i).2:Int),.int .u32 (bwS a[i] (b[i]?.getD 0) (Fq a b i).2:Int)]),K):=fun K=>p_sub32 hxi hb32 h2 K
   have hnext:(Fq a b (i+1)).2=bwS a[i] (b[i]?.getD 0) (Fq a b i).2:=by simp only [Fq,hg]
   unfold Sh.f2g Sh.f7j
   by_cases hib:i<b.length
   ·have d2:decide ((i:Int)<(b.length:Int))=true:=decide_eq_true (by omega)
    have hgb:b[i]?.getD 0=b[i]:=by rw [UU hib];rfl
    rw [hgb]at h32 hst hnext
    simp only [Ak,Ai,Bc,Bg,Bw,BG,D5,GMb,GMc,d1,d2,Au,Ay hib,AC,List.getElem?_cons_zero,hidx,hld,h32,B3,BB,hst,AV,w6,hnext]
   ·have d2:decide ((i:Int)<(b.length:Int))=false:=decide_eq_false (by omega)
    have hgb:b[i]?.getD 0=0:=by rw [Vl (by omega)];rfl
    rw [hgb]at h32 hst hnext
    simp only [Int.natCast_zero]at h32
    simp only [Ak,Ai,Bc,Bg,Bw,BG,D5,GMb,GMc,d1,d2,Au,List.getElem?_cons_zero,hidx,hld,h32,B3,BB,hst,AV,w6,hnext]
  ·obtain ⟨h1,h2,h3,h4⟩:=difS_ok ha hb a.length
   have d1:decide ((a.length:Int)<(a.length:Int))=false:=decide_eq_false (by omega)
   rw [VO,Vg hle]at h4
   have hlt:=FQ h3
   rw [h1]at hlt
   have hbor:(Fq a b a.length).2=0:=by
    rcases Wp (Fq a b a.length).2 with q | q
    ·exact q
    ·have:(Fq a b a.length).2=1:=by omega
     rw [this,Vk]at h4
     omega
   rw [hbor,Nat.mul_zero]at h4
   rw [Yj,V3]
   obtain ⟨o,ho⟩:∃o,o=(Fq a b a.length).1:=⟨_,rfl⟩
   rw [←ho]at h1 h3 h4 ⊢
   have hgc:A8 (H++[Blk.buf 0 (flat cU o) BX 1]) H.length 0=some (flat cU o):=by simp [A8]
   have hct:=q_cutG (ex:=false) hgc (by omega)
   have htk:=Js h3 o.length (Va _)
   rw [VO,show val o=val a-val b by omega]at htk
   have hfa:=fpart_msT (f:=cU) (sz:=1) (d:=3) (cap:=o.length) (ex:=false) hgc (Va H.length) (NN o o.length)
   rw [htk]at hfa
   rw [h1]at hct hfa
   unfold Sh.f2g
   simp only [Ak,Ai,Bc,Bg,Bw,BG,GMb,GMc,d1,hct,Cf,CQ,BN,Cd,EL,hfa,Option.map_some,B5]
theorem NY (neg:Bool) (n:Nat) (tk:Tok) (H:Aa):Sh.fb (.bool neg) (.sl (enL cU (A7 n)) tk) H=some (.ret (big (if neg then -(n:Int)else n)),H):=by
 unfold Sh.fb big
 rw [←big_sgn]
 have hp:=Qo n
 cases neg with
 | false=>simp [AD,FV,Dp,sgn,C5]
 | true=>
  simp only [IY,C0,Option.bind_some,Au,D4,hp,sgn,VW,alloc_eq (cs:=[.bool false,.sl [] .tight]) rfl,Bu]
  simp [AD,FV,Dp,C5]
theorem p_minus (z:Int) (H:Aa):Sh.f2c (big z) H=some (.ret (big (-z)),H):=by
 have e:(if (!decide (z<0))=true then -(z.natAbs:Int)else (z.natAbs:Int)) = -z:=by
  by_cases h:z<0
  ·rw [decide_eq_true h,VX,if_neg (by decide)];omega
  ·rw [decide_eq_false h,Wg,if_pos rfl];omega
 have ez:∀K,Sh.fb (.bool (!decide (z<0))) (.sl (enL cU (A7 z.natAbs)) .no) K=some (.ret (big (-z)),K):=fun K=>by
  rw [NY,e]
 unfold Sh.f2c
 simp [D8,ez]
theorem u64_neg {n:Int} (h0:-9223372036854775808≤n) (h:n<0):unA .neg (.int .u64 (IntKind.u64.wrap n))=some (.int .u64 (n.natAbs:Int)):=by
 have w:IntKind.u64.wrap (0-IntKind.u64.wrap n)=(n.natAbs:Int):=by
  rw [M0 (n:=n) (by omega) h,M0 (by omega) (by omega)];omega
 rw [show unA .neg (.int .u64 (IntKind.u64.wrap n))=some (.int .u64 (IntKind.u64.wrap (0-IntKind.u64.wrap n))) from rfl,w]
theorem p_norm {l:List Nat} {tk:Tok} (H:Aa) (hx:Lim l) (hl:l.length≤1099511627776):Sh.f44 (.sl (enL cU l) tk) H=some (.ret (.sl (enL cU (A7 (val l))) .no),H):=by
 have hcl:=clone_u l tk H hl
 unfold Sh.f44
 by_cases h0:l=[]
 ·subst h0
  rw [if_pos rfl,FE]at hcl
  rw [FE]
  simp only [GMb,GMc,hcl,cut_nil,L5,show val []=0 from rfl,DJ,FC,Option.map_some,FE]
 ·rw [if_neg h0]at hcl
  have hgc:A8 (H++[Blk.buf 0 (flat cU l) BX 1]) H.length 0=some (flat cU l):=by simp [A8]
  have hct:=q_cutG (ex:=false) hgc (by omega)
  have htk:=Js hx l.length (Va _)
  rw [VO]at htk
  have hfa:=S1 (f:=cU) (sz:=1) (d:=5) (cap:=l.length) (ex:=false) hgc (Va H.length) (NN l l.length)
  rw [htk]at hfa
  simp only [GMb,GMc,hcl,hct,Cf,hfa]
  rfl
theorem p_of (n:Int) (H:Aa) (h0:-9223372036854775808≤n) (h1:n≤9223372036854775807):Sh.f2e (.int .i64 n) H=some (.ret (big n),H):=by
 obtain ⟨u,hu⟩:∃u:Nat,u=n.natAbs:=⟨_,rfl⟩
 have hlim:Lim [u%4294967296,u / 4294967296]:=fun x hx=>by
  simp at hx
  rcases hx with rfl | rfl <;> omega
 have hval:val [u%4294967296,u / 4294967296]=u:=by simp [val];omega
 have ez:(if decide (n<0)=true then -(u:Int)else (u:Int))=n:=by
  by_cases h:n<0 <;> simp [h] <;> omega
 have hnm:=fun H=>p_norm (l:=[u%4294967296,u / 4294967296]) (tk:=.tight) H hlim (by simp)
 rw [hval]at hnm
 have a1:=fun H=>NY (decide (n<0)) u .no H
 rw [ez]at a1
 have e3:AK .u32 (.int .u64 (u:Int))=some (.int .u32 ((u%4294967296:Nat):Int)):=by rw [B7,OS]
 have e2:=MV u
 have e4:AK .u32 (.int .u64 ((u / 4294967296:Nat):Int))=some (.int .u32 ((u / 4294967296:Nat):Int)):=by rw [B7,CY (by omega) (by omega)]
 have j1:Sh.f6w H (.int .i64 n) (.ptr H.length 0 0) (.int .u64 (u:Int)) (H++[.cel 0 [.bool false,.sl [] .tight]])=some (.ret (big n),H):=by
  unfold Sh.f6w
  simp only [Bm,Option.bind_some,e3,e2,e4,build_2U,hnm,a1,CC]
  simp
 unfold Sh.f2e
 simp only [alloc_eq (cs:=[.bool false,.sl [] .tight]) rfl,Bu,B7,Option.bind_some,AN,Bm,Ak,Bc,Bg]
 by_cases h:n<0
 ·have un:=u64_neg h0 h
  rw [←hu]at un
  rw [decide_eq_true h]
  simp only [AZ,un,Option.bind_some,Ak,Bc,Bg]
  exact j1
 ·have w:IntKind.u64.wrap n=(u:Int):=by rw [CD (by omega) (by omega)];omega
  rw [decide_eq_false h]
  simp only [AP,w,Ak,Bc,Bg]
  exact j1
theorem MH {m n:Nat} (h:m≤n):(A7 m).length≤(A7 n).length:=by
 refine EG ?_
 have:=FQ (Bt n)
 rw [Bz]at this
 omega
theorem p_addB {a b:Int} (H:Aa) (ha:LB a) (hb:LB b):Sh.f1p (big a) (big b) H=some (.ret (big (a+b)),H):=by
 have sg:∀(neg:Bool) (m:Nat) (z:Int) (tk:Tok) (K:Aa),(if neg then -(m:Int)else (m:Int))=z→Sh.fb (.bool neg) (.sl (enL cU (A7 m)) tk) K=some (.ret (big z),K):=fun neg m z tk K h=>by rw [NY,h]
 unfold LB at ha hb
 have hadd:=fun K=>p_add (ta:=.no) (tb:=.no) K (Bt a.natAbs) (Bt b.natAbs) (by omega) (by omega)
 have hcmp:=fun K=>OC (t:=.no) (t':=.no) K (Bt a.natAbs) (Bt b.natAbs) (by omega) (by omega)
 simp only [Bz]at hadd hcmp
 unfold Sh.f1p
 by_cases hn:decide (a<0)=decide (b<0)
 ·have ez:(if decide (a<0)=true then -((a.natAbs+b.natAbs:Nat):Int)else ((a.natAbs+b.natAbs:Nat):Int))=a+b:=by
   by_cases h1:a<0
   ·have h2:b<0:=by rw [decide_eq_true h1]at hn;exact of_decide_eq_true hn.symm
    rw [decide_eq_true h1,if_pos rfl];omega
   ·have h2:¬b<0:=by rw [decide_eq_false h1]at hn;exact of_decide_eq_false hn.symm
    rw [decide_eq_false h1,if_neg (by decide)];omega
  have hbb:(decide (a<0) == decide (b<0))=true:=by rw [hn];exact beq_self_eq_true _
  simp only [D8,Bu,Vb,List.singleton_append]
  simp [VL,D8,JP,hbb,BR,hadd,sg _ _ _ _ _ ez]
 ·have hbb:(decide (a<0) == decide (b<0))=false:=by
   rw [beq_eq_false_iff_ne];exact hn
  by_cases hv:a.natAbs<b.natAbs
  ·have hsub:=fun K=>p_sub (ta:=.no) (tb:=.no) K (Bt b.natAbs) (Bt a.natAbs) (by omega) (MH (by omega)) (by rw [Bz,Bz];omega)
   simp only [Bz]at hsub
   have hlt:decide (EP (a.natAbs:Int) (b.natAbs:Int)<0)=true:=by rw [Gq];exact decide_eq_true (by omega)
   have ez:(if decide (b<0)=true then -((b.natAbs-a.natAbs:Nat):Int)else ((b.natAbs-a.natAbs:Nat):Int))=a+b:=by
    by_cases h1:b<0
    ·have h2:¬a<0:=fun h=>hn (by rw [decide_eq_true h1,decide_eq_true h])
     rw [decide_eq_true h1,if_pos rfl];omega
    ·have h2:a<0:=by
      rcases Int.lt_or_le a 0 with h | h
      ·exact h
      ·exact (hn (by rw [decide_eq_false h1,decide_eq_false (by omega)])).elim
     rw [decide_eq_false h1,if_neg (by decide)];omega
   have c0:=AZ
   simp only [D8,Bu,Vb,List.singleton_append]
   unfold Sh.f6y
   simp [VL,D8,JP,hbb,BR,hcmp,hlt,hsub,sg _ _ _ _ _ ez,AN,B3,BB]
  ·have hsub:=fun K=>p_sub (ta:=.no) (tb:=.no) K (Bt a.natAbs) (Bt b.natAbs) (by omega) (MH (by omega)) (by rw [Bz,Bz];omega)
   simp only [Bz]at hsub
   have hlt:decide (EP (a.natAbs:Int) (b.natAbs:Int)<0)=false:=by rw [Gq];exact decide_eq_false (by omega)
   have ez:(if decide (a<0)=true then -((a.natAbs-b.natAbs:Nat):Int)else ((a.natAbs-b.natAbs:Nat):Int))=a+b:=by
    by_cases h1:a<0
    ·have h2:¬b<0:=fun h=>hn (by rw [decide_eq_true h1,decide_eq_true h])
     rw [decide_eq_true h1,if_pos rfl];omega
    ·have h2:b<0:=by
      rcases Int.lt_or_le b 0 with h | h
      ·exact h
      ·exact (hn (by rw [decide_eq_false h1,decide_eq_false (by omega)])).elim
     rw [decide_eq_false h1,if_neg (by decide)];omega
   simp only [D8,Bu,Vb,List.singleton_append]
   unfold Sh.f6y
   simp [VL,D8,JP,hbb,BR,hcmp,hlt,hsub,sg _ _ _ _ _ ez,AN,B3,BB]
theorem p_subB {a b:Int} (H:Aa) (ha:LB a) (hb:LB b):Sh.f49 (big a) (big b) H=some (.ret (big (a-b)),H):=by
 unfold Sh.f49
 simp only [D8,Bu,Vb,List.singleton_append]
 simp [VL,D8,BR,p_minus,p_addB _ ha hb.neg,Int.sub_eq_add_neg]
theorem or_u32 {x y:Nat} (hx:x<4294967296) (hy:y<4294967296):Ae .none .or (.int .u32 (x:Int)) (.int .u32 (y:Int))=some (.int .u32 ((x ||| y:Nat):Int)):=by
 have h:=(JO (BitVec.ofNat 32 x) (BitVec.ofNat 32 y)).2.1
 rw [BitVec.toNat_or,WC,WC,Wb hx,Wb hy]at h
 rw [Mt .or rfl _ _ (fun _ _ _=>rfl)]
 exact h
theorem shl_one {K:IntKind} {r:Nat} (h:r<32) (hw:K.wrap ((2^r:Nat):Int)=((2^r:Nat):Int)) (hb:32≤K.bits):Ae .none .shl (.int K 1) (.int .i64 (r:Int))=some (.int K ((2^r:Nat):Int)):=by
 show Hb .shl K 1 (r:Int)=_
 unfold Hb
 rw [if_neg (by omega)]
 have e:(2:Int)^r=((2^r:Nat):Int):=by simp
 simp only [Int.toNat_natCast,VZ (show r≤K.bits by omega),Int.one_mul,e,hw]
theorem NX {r:Nat} (h:r<32):2^r<4294967296:=by
 have:(2:Nat)^r<2^32:=XR (by decide) h
 simpa using this
theorem val_repl0 (k:Nat) (l:List Nat):val (List.replicate k 0++l)=4294967296^k*val l:=by
 rw [Cp,Xp]
 have:val (List.replicate k 0)=0:=by
  induction k with
  | zero=>rfl
  | succ k ih=>rw [List.replicate_succ];show 0+4294967296*val (List.replicate k 0)=0;rw [ih]
 rw [this,UY]
theorem wrapN {n:Nat} (h:n<4294967296):IntKind.u32.wrap (n:Int)=(n:Int)∧IntKind.u64.wrap (n:Int)=(n:Int):=
 ⟨CY (by omega) (by omega),CD (by omega) (by omega)⟩
def Kb (m:Nat):List Nat:=List.replicate (m / 32) 0++[2^(m%32),0]
theorem L9 (m:Nat):(Kb m).length=m / 32+2:=by simp [Kb]
theorem powL_lim (m:Nat):Lim (Kb m):=by
 intro x hx
 rcases Vt.1 hx with h | h
 ·rw [(Xd.1 h).2];decide
 ·rcases V7.1 h with rfl | h
  ·exact NX (W9 _ (by decide))
  ·rw [Vs.1 h];decide
theorem powL_val (m:Nat):val (Kb m)=2^m:=by
 unfold Kb
 rw [val_repl0]
 have:val [2^(m%32),0]=2^(m%32):=by simp [val]
 rw [this,show (4294967296:Nat)=2^32 from by decide,←Xf,←Nat.pow_add,WU]
theorem TL (v:Nat):∀k,(List.replicate (k+2) 0).set k v=List.replicate k 0++[v,0]
 | 0=>rfl
 | k+1=>by
  rw [List.replicate_succ,List.set_cons_succ,TL v k,List.replicate_succ,List.cons_append]
theorem powL_set1 (m:Nat):(List.replicate (m / 32+2) 0).set (m / 32) (2^(m%32))=Kb m:=by
 exact TL _ _
theorem powL_set2 (m:Nat):(Kb m).set (m / 32+1) 0=Kb m:=by
 unfold Kb
 rw [V8 _ _ (by simp)]
 simp
theorem p_shl1 {m:Nat} (hm:m≤10000) (H:Aa):Sh.f4e (.sl (enL cU [1]) .tight) (.int .i64 (m:Int)) H=some (.ret (.sl (enL cU (A7 (2^m))) .no),H):=by
 have f1:decide ((m:Int)≥0)=true:=decide_eq_true (by omega)
 have f2:decide ((m:Int)≤10000)=true:=decide_eq_true (by omega)
 have hr:m%32<32:=W9 _ (by decide)
 have hq:Ae .none .quo (.int .i64 (m:Int)) (.int .i64 32)=some (.int .i64 ((m / 32:Nat):Int)):=by
  show some (Ab.int .i64 (IntKind.i64.wrap (((m / 32:Nat):Int))))=_
  rw [An (by omega) (by omega)]
 have hrm:Ae .none .rem (.int .i64 (m:Int)) (.int .i64 32)=some (.int .i64 ((m%32:Nat):Int)):=rfl
 have w1:IntKind.i64.wrap (((1:Nat):Int)+((m / 32:Nat):Int))=((m / 32+1:Nat):Int):=by rw [An] <;> omega
 have w2:IntKind.i64.wrap (((m / 32+1:Nat):Int)+1)=((m / 32+2:Nat):Int):=by rw [An] <;> omega
 have w3:IntKind.i64.wrap (((0:Nat):Int)+((m / 32:Nat):Int))=((m / 32:Nat):Int):=by rw [An] <;> omega
 have w4:IntKind.i64.wrap (((m / 32:Nat):Int)+1)=((m / 32+1:Nat):Int):=by rw [An] <;> omega
 have w5:IntKind.i64.wrap (((0:Nat):Int)+1)=((1:Nat):Int):=rfl
 have hmk:=Fa (f:=cU) (a:=0) (n:=m / 32+2) (bytes:=4) (H:=H) (by omega) (by omega)
 simp only [show cU 0=[Ab.int .u32 0] from rfl]at hmk
 have hlen1:(enL cU [1]).length=1:=rfl
 have hfit:∀K,Sh.f4c (.int .i64 (m:Int)) K=some (.ret (.bool true),K):=fun K=>by
  unfold Sh.f4c
  simp only [GMb,GMc,f1,f2]
 have d0:decide (((0:Nat):Int)<((1:Nat):Int))=true:=rfl
 have d1:decide (((1:Nat):Int)<((1:Nat):Int))=false:=rfl
 have ix0:At 1 (.sl (enL cU [1]) .tight) (.int .i64 ((0:Nat):Int))=some (.cptr [.int .u32 1] 0):=rfl
 have ld0:∀K,Ac false 1 (.cptr [.int .u32 1] 0) K=some (.int .u32 1):=fun _=>rfl
 have lsl:A5 (.sl (enL cU [1]) .tight)=some (.int .i64 ((1:Nat):Int)):=rfl
 have hlt:=NX hr
 have s1:=shl_one (K:=.u32) hr (wrapN hlt).1 (by decide)
 have s2:=shl_one (K:=.u64) hr (wrapN hlt).2 (by decide)
 have c1:AK .u64 (.int .u32 1)=some (.int .u64 1):=rfl
 have sh:Ae .none .shr (.int .u64 ((2^(m%32):Nat):Int)) (.int .u64 32)=some (.int .u64 0):=by
  rw [MV,Wx (NX hr)];rfl
 have c2:AK .u32 (.int .u64 0)=some (.int .u32 0):=rfl
 have o1:=or_u32 (x:=0) (y:=2^(m%32)) (by decide) (NX hr)
 rw [Nat.zero_or]at o1
 have o2:Ae .none .or (.int .u32 ((0:Nat):Int)) (.int .u32 0)=some (.int .u32 ((0:Nat):Int)):=or_u32 (x:=0) (y:=0) (by decide) (by decide)
 have hidx:=CB (sz:=1) (id:=H.length) (n:=m / 32+2) (K:=.i64) (g:=0) (off:=0) (cap:=m / 32+2) (ex:=true) (i:=m / 32) (by omega)
 have hidx2:=CB (sz:=1) (id:=H.length) (n:=m / 32+2) (K:=.i64) (g:=0) (off:=0) (cap:=m / 32+2) (ex:=true) (i:=m / 32+1) (by omega)
 simp only [UY,Vk]at hidx hidx2
 have g1:A8 (H++[Blk.cel 0 (flat cU (List.replicate (m / 32+2) 0))]) H.length 0=some (flat cU (List.replicate (m / 32+2) 0)):=AA Ap
 have g2:A8 (H++[Blk.cel 0 (flat cU (Kb m))]) H.length 0=some (flat cU (Kb m)):=AA Ap
 have ld1:Ac false 1 (.ptr H.length 0 (m / 32)) (H++[Blk.cel 0 (flat cU (List.replicate (m / 32+2) 0))])=some (.int .u32 ((0:Nat):Int)):=by
  rw [HM g1 (by simp),List.getElem_replicate];rfl
 have ld2:Ac false 1 (.ptr H.length 0 (m / 32+1)) (H++[Blk.cel 0 (flat cU (Kb m))])=some (.int .u32 ((0:Nat):Int)):=by
  have hi:m / 32+1<(Kb m).length:=by rw [L9];omega
  have:(Kb m)[m / 32+1]=0:=by simp [Kb,Wd]
  rw [HM g2 hi,this];rfl
 have st1:=DG (f:=cU) (sz:=1) (i:=m / 32) (a:=2^(m%32)) (v:=.int .u32 ((2^(m%32):Nat):Int)) g1 (by simp) rfl
 rw [Vk,B9 Ap,Bh,powL_set1]at st1
 have st2:=DG (f:=cU) (sz:=1) (i:=m / 32+1) (a:=0) (v:=.int .u32 ((0:Nat):Int)) g2 (by rw [L9];omega) rfl
 rw [Vk,B9 Ap,Bh,powL_set2]at st2
 have ht:=add_tail (H:=H) (o:=Kb m) (by rw [L9];omega) (powL_lim m) (powL_val m)
 have hct:=q_cut (l:=Kb m) (H:=H++[Blk.cel 0 (flat cU (Kb m))]) (id:=H.length) Ap (by rw [L9];omega)
 rw [L9]at ht hct
 rw [hct]at ht
 simp only [Option.bind_some]at ht
 unfold Sh.f4e
 simp only [hfit,GMb,GMc,Je,VX,lsl,hq,w1,w2,hmk]
 refine Cg (G:=fun rec1 vs H1=>Sh.f4d H rec1 (ag vs 0) (ag vs 1) (ag vs 2) (ag vs 3) (ag vs 4) H1) 1
  (fun i=>[.int .i64 (m:Int),.ms H.length 0 0 (m / 32+2) (m / 32+2) 1 true,.sl (enL cU [1]) .tight,.int .i64 ((1:Nat):Int),.int .i64 (i:Int)])
  (fun i=>H++[.cel 0 (flat cU (if i=0 then List.replicate (m / 32+2) 0 else Kb m))]) _ (by decide) (fun rec i hi=>?_) (fun rec=>?_)
 ·have hi0:i=0:=by omega
  subst hi0
  unfold Sh.f4d
  simp only [if_true,if_neg (show ¬(0+1=0)by decide),Ak,Ai,Bc,Bg,Bw,BG,GMb,GMc,d0,ix0,ld0,hq,w3,hidx,ld1,hrm,s1,o1,st1,AV,w4,hidx2,ld2,c1,s2,sh,c2,o2,st2,w5,BR]
 ·unfold Sh.f4d
  simp only [if_neg (show ¬(1=0)by decide),Ak,Ai,Bc,Bg,Bw,BG,GMb,GMc,d1,hct]
  exact ht
set_option maxRecDepth 8000
theorem p_right (l:List Nat) (tk:Tok) (H:Aa) (hl:l.length≤1099511627776):Sh.f8 (.sl (enL cU l) tk) H=some (.ret (.bool (FJ l)),H):=by
 unfold Sh.f8
 rcases FI l with rfl | ⟨l',x,rfl⟩
 ·simp [FJ]
 ·simp only [Vc,List.length_singleton]at hl
  have h1:l'.length<(l'++[x]).length:=by simp
  have h3:IntKind.i64.wrap ((((l'++[x]).length:Nat):Int)-1)=(l'.length:Int):=by rw [An] <;> simp <;> omega
  have hne:((((l'++[x]).length:Nat):Int) == 0)=false:=by simp;omega
  have hb:((x:Int) != 0)=(x != 0):=by rw [Vr];simp
  simp only [Au,Option.bind_some,DF,hne,LP,DE,h3,Ay h1,AC,List.getElem?_cons_zero,Wd (Va _),V9,List.getElem_cons_zero,HU,Cr,No,hb]
  simp [FJ]
theorem RK (neg:Bool) (l:List Nat) (tk:Tok) (H:Aa) (hl:l.length≤549755813888):Sh.f25 (.agg [.bool neg,.sl (enL cU l) tk]) H=some (.ret (.bool (GS neg l)),H):=by
 unfold Sh.f25 GS
 have hq:=fun H=>p_right l tk H (by omega)
 cases hr:FJ l with
 | false=>simp [Cm,hq,hr]
 | true=>
  cases neg with
  | false=>simp [Cm,hq,hr]
  | true=>cases l <;> simp [Cm,hq,hr] <;> omega
theorem p_pow {m:Nat} (hm:m≤10000) (H:Aa):Sh.f4f (.int .i64 (m:Int)) H=some (.ret (big (2^m)),H):=by
 have hs:∀K,Sh.fb (.bool false) (.sl (enL cU (A7 (2^m))) .no) K=some (.ret (big (2^m)),K):=fun K=>by
  rw [NY]
  have:(if false=true then -((2^m:Nat):Int)else ((2^m:Nat):Int))=2^m:=by simp
  rw [this]
 have hb:AY 1 [.int .u32 1]=some (.sl (enL cU [1]) .tight):=rfl
 have h1:=fun K=>p_shl1 hm K
 unfold Sh.f4f
 simp only [alloc_eq (cs:=[.bool false,.sl [] .tight]) rfl,GMb,GMc,hb,h1,hs]
 simp
def blN (n:Nat):Nat:=if n=0 then 0 else n.log2+1
theorem Jc {n k:Nat}:blN n≤k↔n<2^k:=by
 unfold blN
 by_cases h:n=0
 ·have:0<2^k:=Xa (by decide)
  rw [if_pos h];omega
 ·rw [if_neg h,←Nat.log2_lt h];omega
theorem blN_div {n j:Nat} (h:2^j≤n):blN n=blN (n / 2^j)+j:=by
 have hp:0<2^j:=Xa (by decide)
 refine Nat.le_antisymm (Jc.2 ?_) ?_
 ·have:=Jc.1 (Va (blN (n / 2^j)))
  rw [Nat.pow_add]
  exact (Wv hp).1 this
 ·have h1:=Jc.1 (Va (blN n))
  have h2:j<blN n:=(Nat.pow_lt_pow_iff_right (by decide:1<2)).1 (VN h h1)
  have h3:blN (n / 2^j)≤blN n-j:=Jc.2 ((Wv hp).2 (by rw [←Nat.pow_add,Nat.sub_add_cancel (by omega)];exact h1))
  omega
theorem len_tab:∀x,x<256→(([0,1,2,2,3,3,3,3,4,4,4,4,4,4,4,4,5,5,5,5,5,5,5,5,5,5,5,5,5,5,5,5,6,6,6,6,6,6,6,6,6,6,6,6,6,6,6,6,6,6,6,6,6,6,6,6,6,6,6,6,6,6,6,6,7,7,7,7,7,7,7,7,7,7,7,7,7,7,7,7,7,7,7,7,7,7,7,7,7,7,7,7,7,7,7,7,7,7,7,7,7,7,7,7,7,7,7,7,7,7,7,7,7,7,7,7,7,7,7,7,7,7,7,7,7,7,7,7,8,8,8,8,8,8,8,8,8,8,8,8,8,8,8,8,8,8,8,8,8,8,8,8,8,8,8,8,8,8,8,8,8,8,8,8,8,8,8,8,8,8,8,8,8,8,8,8,8,8,8,8,8,8,8,8,8,8,8,8,8,8,8,8,8,8,8,8,8,8,8,8,8,8,8,8,8,8,8,8,8,8,8,8,8,8,8,8,8,8,8,8,8,8,8,8,8,8,8,8,8,8,8,8,8,8,8,8,8,8,8,8,8,8,8,8,8,8,8,8,8,8,8,8,8,8,8,8]:List UInt8)[x]?).map UInt8.toNat=some (blN x):=by decide +kernel
theorem len_idx {x:Nat} (h:x<256):Ez (.str [0,1,2,2,3,3,3,3,4,4,4,4,4,4,4,4,5,5,5,5,5,5,5,5,5,5,5,5,5,5,5,5,6,6,6,6,6,6,6,6,6,6,6,6,6,6,6,6,6,6,6,6,6,6,6,6,6,6,6,6,6,6,6,6,7,7,7,7,7,7,7,7,7,7,7,7,7,7,7,7,7,7,7,7,7,7,7,7,7,7,7,7,7,7,7,7,7,7,7,7,7,7,7,7,7,7,7,7,7,7,7,7,7,7,7,7,7,7,7,7,7,7,7,7,7,7,7,7,8,8,8,8,8,8,8,8,8,8,8,8,8,8,8,8,8,8,8,8,8,8,8,8,8,8,8,8,8,8,8,8,8,8,8,8,8,8,8,8,8,8,8,8,8,8,8,8,8,8,8,8,8,8,8,8,8,8,8,8,8,8,8,8,8,8,8,8,8,8,8,8,8,8,8,8,8,8,8,8,8,8,8,8,8,8,8,8,8,8,8,8,8,8,8,8,8,8,8,8,8,8,8,8,8,8,8,8,8,8,8,8,8,8,8,8,8,8,8,8,8,8,8,8,8,8,8,8]) (.int .u8 (x:Int))=some (.int .u8 (blN x:Int)):=by
 have:=len_tab x h
 obtain ⟨b,h1,h2⟩:=Option.map_eq_some_iff.1 this
 unfold Ez
 simp only []
 rw [if_pos (Wq x),Int.toNat_natCast,h1,Option.map_some,h2]
theorem len_j2 {x n:Nat} (hx:x<256) (hn:n≤24) (H:Aa):Sh.f6z H (.int .u32 (x:Int)) (.int .i64 (n:Int)) H=some (.ret (.int .i64 ((n+blN x:Nat):Int)),H):=by
 have hb:blN x≤8:=Jc.2 hx
 have c1:AK .u8 (.int .u32 (x:Int))=some (.int .u8 (x:Int)):=by rw [B7,QL (by omega) (by omega)]
 have c2:AK .i64 (.int .u8 (blN x:Int))=some (.int .i64 (blN x:Int)):=by rw [B7,An (by omega) (by omega)]
 have w:IntKind.i64.wrap ((n:Int)+(blN x:Int))=((n+blN x:Nat):Int):=by rw [An] <;> omega
 unfold Sh.f6z
 simp only [c1,Option.bind_some]
 rw [len_idx hx]
 simp only [c2,GMb,GMc,w]
theorem shr_u32 (x k:Nat) (hk:k≤32):Ae .none .shr (.int .u32 (x:Int)) (.int .u64 (k:Int))=some (.int .u32 ((x / 2^k:Nat):Int)):=by
 show Hb .shr .u32 (x:Int) (k:Int)=_
 unfold Hb
 rw [if_neg (by omega)]
 simp only [Int.toNat_natCast]
 rw [show min k IntKind.u32.bits=k from VZ hk,Xb _ (Int.le_of_lt (Xh (by decide)))]
 have:((2:Int)^k)=((2^k:Nat):Int):=by simp
 rw [this]
 rfl
theorem len_j1 {x n:Nat} (hx:x<65536) (hn:n≤16) (H:Aa):Sh.f70 H (.int .u32 (x:Int)) (.int .i64 (n:Int)) H=some (.ret (.int .i64 ((n+blN x:Nat):Int)),H):=by
 unfold Sh.f70
 by_cases h:256≤x
 ·have d:decide ((x:Int)≥256)=true:=decide_eq_true (by omega)
  have s:=shr_u32 x 8 (by decide)
  have w:IntKind.i64.wrap ((n:Int)+8)=((n+8:Nat):Int):=by rw [An] <;> omega
  have e:=blN_div (n:=x) (j:=8) h
  simp only [show ((8:Nat):Int)=8 from rfl]at s
  simp only [AN,GMb,GMc,d,s,w]
  rw [len_j2 (by omega) (by omega),e,show n+8+blN (x / 2^8)=n+(blN (x / 2^8)+8)by omega]
 ·have d:decide ((x:Int)≥256)=false:=decide_eq_false (by omega)
  simp only [AN,GMb,GMc,d]
  exact len_j2 (by omega) (by omega) H
theorem p_len32 {x:Nat} (hx:x<4294967296) (H:Aa):Sh.f4a (.int .u32 (x:Int)) H=some (.ret (.int .i64 (blN x:Int)),H):=by
 unfold Sh.f4a
 by_cases h:65536≤x
 ·have d:decide ((x:Int)≥65536)=true:=decide_eq_true (by omega)
  have s:=shr_u32 x 16 (by decide)
  have e:=blN_div (n:=x) (j:=16) h
  simp only [show ((16:Nat):Int)=16 from rfl]at s
  have:=len_j1 (x:=x / 2^16) (n:=16) (by omega) (by omega) H
  simp only [show ((16:Nat):Int)=16 from rfl]at this
  simp only [AN,GMb,GMc,d,s]
  rw [this,e,XK]
 ·have d:decide ((x:Int)≥65536)=false:=decide_eq_false (by omega)
  have:=len_j1 (x:=x) (n:=0) (by omega) (by omega) H
  simp only [Int.natCast_zero,UY]at this
  simp only [AN,GMb,GMc,d]
  exact this
theorem JV {H:Aa} {p o:Nat} {cs:List Ab} {v:Ab} (h:H[p]? = some (.cel 0 cs)) (hv:v.isScal=true) (ho:o<cs.length):Ag 1 (.ptr p 0 o) v H=some (H.set p (.cel 0 (cs.set o v))):=by
 have hc:v.acells=some [v]:=by cases v <;> first | rfl | (simp [Ab.isScal]at hv)
 simp only [Ag,AA h,B5,hc,List.length_singleton]
 rw [if_pos ⟨trivial,by omega⟩,B9 h,show Dp cs o 1 [v]=cs.set o v from by rw [Xi,if_pos ho];simp [Dp]]
theorem OU {H:Aa} {p sz:Nat} {cs ws:List Ab} (h:H[p]? = some (.cel 0 cs)) (hl:cs.length=sz) (hl2:ws.length=sz) (hs:ws.all Ab.isScal=true):Ag sz (.ptr p 0 0) (.agg ws) H=some (H.set p (.cel 0 ws)):=by
 simp only [Ag,AA h,B5,C5 hs,hl,hl2,UY,Va,and_self,if_true,Fz hl,B9 h]
theorem Pn {H:Aa} {p sz:Nat} {cs:List Ab} (h:H[p]? = some (.cel 0 cs)) (hl:cs.length=sz):Ac true sz (.ptr p 0 0) H=some (.agg cs):=by
 simp only [Ac,AA h,B5,if_true,WB,hl,UY,Va]
 rw [Vg (X5 hl)]
theorem CN {H:Aa} {p o sz:Nat} {cs:List Ab} (h:H[p]? = some (.cel 0 cs)):Ac false sz (.ptr p 0 o) H=cs[o]? := by
 simp only [Ac,AA h,B5];rfl
def Tl:Ab→Bool
 | .agg cs=>cs.all IC
 | v=>IC v
theorem plnT_frz {v:Ab} {H:Aa} {n d:Nat} (h:Tl v=true):frz H n (d+3) v=some v:=by
 cases v with
 | agg cs=>
  have h':cs.all IC=true:=h
  simp only [frz,GJ h',Option.map_some]
 | _=>exact plnC_frz (d:=d+2) h
theorem Uf {H:Aa} {n d:Nat}:∀ {cs:List Ab},cs.all Tl=true→FM H n (d+4) cs=some cs
 | [],_=>by simp [FM]
 | c::cs,h=>by
  simp only [List.all_cons,Vh]at h
  simp [FM,plnT_frz h.1,Uf h.2]
theorem rP_aggP {H G:Aa} {cs:List Ab} (h:cs.all IC=true):rP H (.agg cs) (H++G)=some (.ret (.agg cs),H):=by
 rw [rP_eq _ (by simp)]
 simp only [frz,GJ h,Option.map_some]
theorem rP_tupP {H G:Aa} {cs:List Ab} (h:cs.all Tl=true):rP H (.tup cs) (H++G)=some (.ret (.tup cs),H):=by
 rw [rP_eq _ (by simp)]
 simp only [frz,Uf h,Option.map_some]
theorem OT {g o:Nat} {v:Ab} {cs:List Ab} {G:Aa} (hv:v.isScal=true) (h:o<cs.length):Ag 1 (.ptr 0 g o) v (.cel g cs::G)=some (.cel g (cs.set o v)::G):=by
 have hc:v.acells=some [v]:=by cases v <;> first | rfl | (simp [Ab.isScal]at hv)
 rw [Rx,hc]
 simp only [B5,List.length_singleton]
 rw [if_pos ⟨trivial,by omega⟩,Xi,if_pos h]
 simp [Dp]
theorem store_agg {sz g:Nat} {cs ws:List Ab} {G:Aa} (h:cs.length=sz) (h2:ws.length=sz) (h3:ws.all Ab.isScal=true):Ag sz (.ptr 0 g 0) (.agg ws) (.cel g cs::G)=some (.cel g ws::G):=M4 (C5 h3) h h2
theorem nil_ptr {id g o:Nat}:As (.ptr id g o)=some (.ptr id g o):=(rfl)
theorem app_app (a b c:Aa):a++b++c=a++(b++c):=Vb a b c
theorem len_app (a b:Aa):(a++b).length=a.length+b.length:=Vc
theorem Fd (x:Ab) (b:List Ab):(x::b)[0]? = some x:=(rfl)
theorem JA (x:Ab) (b:List Ab) (i:Nat):(x::b)[i+1]? = b[i]? := (rfl)
def IU (x:Nd):List Ab:=[.int .i64 x.k0,.int .i64 x.k1,.int .i64 x.k2,.int .i64 x.k3]
theorem ld_kids (x:Nd) (H:Aa):Ac true 4 (.cptr (cNd x) 1) H=some (.agg (IU x)):=(rfl)
theorem ag_kid (x:Nd) {k:Nat} (hk:k<4) (K:IntKind):Jm false 4 1 (.agg (IU x)) (.int K (k:Int))=some (.int .i64 (x.kid k)):=by
 match k,hk with
 | 0,_=>rfl
 | 1,_=>rfl
 | 2,_=>rfl
 | 3,_=>rfl
theorem F1 (g:Nat) (x:Nd) (G:Aa):Ac true 4 (.ptr 0 g 1) (.cel g (cNd x)::G)=some (.agg (IU x)):=by
 rw [show Ac true 4 (.ptr 0 g 1) (.cel g (cNd x)::G)=if 1+4≤(cNd x).length then some (.agg (((cNd x).drop 1).take 4))else none from by simp only [Ac,J7];rfl]
 rfl
theorem F9 (x:Nd):(cNd x).length=5:=(rfl)
theorem HPa:(((∀(H G:Aa) (a:Bool) (sz k g o:Nat),Ac a sz (.ptr (H.length+k) g o) (H++G)=Ac a sz (.ptr k g o) G) ∧
  (∀(H G:Aa) (a:Bool) (sz g o:Nat),Ac a sz (.ptr H.length g o) (H++G)=Ac a sz (.ptr 0 g o) G)) ∧
  ((∀(b:Blk) (G:Aa) (a:Bool) (sz k g o:Nat),Ac a sz (.ptr (k+1) g o) (b::G)=Ac a sz (.ptr k g o) G) ∧
  (∀(cs:List Ab) (G:Aa) (sz g o:Nat),Ac false sz (.ptr 0 g o) (.cel g cs::G)=cs[o]?) ∧
  (∀(cs:List Ab) (G:Aa) (sz g:Nat),cs.length=sz→Ac true sz (.ptr 0 g 0) (.cel g cs::G)=some (.agg cs)))) ∧
 (((∀(H G:Aa) (v:Ab) (sz k g o:Nat),Ag sz (.ptr (H.length+k) g o) v (H++G)=(Ag sz (.ptr k g o) v G).map (H++·)) ∧
  (∀(H G:Aa) (v:Ab) (sz g o:Nat),Ag sz (.ptr H.length g o) v (H++G)=(Ag sz (.ptr 0 g o) v G).map (H++·))) ∧
  ((∀(b:Blk) (G:Aa) (v:Ab) (sz k g o:Nat),Ag sz (.ptr (k+1) g o) v (b::G)=(Ag sz (.ptr k g o) v G).map (b::·)) ∧
  (∀(cs:List Ab) (G:Aa) (v:Ab) (g o:Nat),v.isScal=true→o<cs.length→Ag 1 (.ptr 0 g o) v (.cel g cs::G)=some (.cel g (cs.set o v)::G)) ∧
  (∀(cs ws:List Ab) (G:Aa) (sz g:Nat),cs.length=sz→ws.length=sz→ws.all Ab.isScal=true→Ag sz (.ptr 0 g 0) (.agg ws) (.cel g cs::G)=some (.cel g ws::G)))) ∧
 ((∀(cs:List Ab) (H:Aa),cs.all Ab.isScal=true→Az (some cs) H=some (.ptr H.length 0 0,H++[.cel 0 cs])) ∧
  (∀(cs:List Ab) (H:Aa) (sz:Nat),cs.all Ab.isScal=true→cs.length=sz→B8 true sz (.agg cs) H=some (.ptr H.length 0 0,H++[.cel 0 cs]))):=
 ⟨⟨⟨fun _ _ _ _ _ _ _=>load_app,fun _ _ _ _ _ _=>Ic⟩,fun _ _ _ _ _ _ _=>load_succ,fun _ _ _ _ _=>ME,fun _ _ _ _ h=>RZ h⟩,
  ⟨⟨fun _ _ _ _ _ _ _=>TI,fun _ _ _ _ _ _=>JU⟩,fun _ _ _ _ _ _ _=>store_succ,fun _ _ _ _ _ h1 h2=>OT h1 h2,fun _ _ _ _ _ h1 h2 h3=>store_agg h1 h2 h3⟩,
  fun _ _ h=>alloc_eq h,fun _ _ _ h1 h2=>Cm h1 h2⟩
theorem HPc:(((∀(K:IntKind) (n:Int),(Ab.int K n).isScal=true)∧(∀t:Bool,(Ab.bool t).isScal=true)∧(∀s:List UInt8,(Ab.str s).isScal=true)) ∧
  ((∀(es:List (List Ab)) (tk:Tok),(Ab.sl es tk).isScal=true)∧(∀(id g off len cap sz:Nat) (ex:Bool),(Ab.ms id g off len cap sz ex).isScal=true)∧(∀id g off:Nat,(Ab.ptr id g off).isScal=true)) ∧
  (∀id:Nat,(Ab.mp id).isScal=true)∧(∀(f:FuncId) (c:List Ab),(Ab.fn f c).isScal=true)∧(Ab.nilp.isScal=true)∧(Ab.nilmap.isScal=true)∧Ab.nilfn.isScal=true) ∧
 (((∀(K:IntKind) (n:Int),IC (Ab.int K n)=true)∧(∀t:Bool,IC (Ab.bool t)=true)∧(∀s:List UInt8,IC (Ab.str s)=true)) ∧
  ((∀(es:List (List Ab)),IC (Ab.sl es .no)=true)∧(∀(es:List (List Ab)),IC (Ab.sl es .tight)=true)) ∧
  ((∀(K:IntKind) (n:Int),Tl (Ab.int K n)=true)∧(∀t:Bool,Tl (Ab.bool t)=true)∧(∀s:List UInt8,Tl (Ab.str s)=true)) ∧
  ((∀(es:List (List Ab)),Tl (Ab.sl es .no)=true)∧(∀(es:List (List Ab)),Tl (Ab.sl es .tight)=true))∧(∀cs:List Ab,Tl (.agg cs)=cs.all IC)) ∧
 ((∀(H G:Aa) (cs:List Ab),cs.all IC=true→rP H (.agg cs) (H++G)=some (.ret (.agg cs),H)) ∧
  (∀(H G:Aa) (cs:List Ab),cs.all Tl=true→rP H (.tup cs) (H++G)=some (.ret (.tup cs),H)) ∧
  (∀(H G:Aa) (t:Bool),rP H (.bool t) (H++G)=some (.ret (.bool t),H)) ∧
  (∀(H G:Aa) (K:IntKind) (n:Int),rP H (.int K n) (H++G)=some (.ret (.int K n),H)) ∧
  (∀(H G:Aa) (s:List UInt8),rP H (.str s) (H++G)=some (.ret (.str s),H))):=
 ⟨⟨⟨fun _ _=>rfl,fun _=>rfl,fun _=>rfl⟩,⟨fun _ _=>rfl,fun _ _ _ _ _ _ _=>rfl,fun _ _ _=>rfl⟩,fun _=>rfl,fun _ _=>rfl,rfl,rfl,rfl⟩,
  ⟨⟨fun _ _=>rfl,fun _=>rfl,fun _=>rfl⟩,⟨fun _=>rfl,fun _=>rfl⟩,⟨fun _ _=>rfl,fun _=>rfl,fun _=>rfl⟩,⟨fun _=>rfl,fun _=>rfl⟩,fun _=>rfl⟩,
  fun _ _ _ h=>rP_aggP h,fun _ _ _ h=>rP_tupP h,fun _ _ _=>FB,fun _ _ _ _=>Ii,fun _ _ _=>rP_str⟩
theorem HPd:((∀(H G:Aa) (v:Ab),rPN H v (H++G)=(GL (H++G) H.length 8 v).map fun v=>(.ret v,H)) ∧
  (∀(H:Aa) (n d:Nat) (vs:List Ab),GL H n (d+1) (.tup vs)=(It H n d vs).map .tup) ∧
  (∀(H:Aa) (n d:Nat) (cs:List Ab),GL H n (d+1) (.agg cs)=(FN H n d cs).map .agg) ∧
  (∀(H:Aa) (n d:Nat) (es:List (List Ab)) (tk:Tok),GL H n (d+1) (.sl es tk)=some (.sl es .no))) ∧
 ((∀(H:Aa) (n d:Nat),It H n (d+1) []=some []) ∧
  (∀(H:Aa) (n d:Nat) (v:Ab) (vs:List Ab),It H n (d+1) (v::vs)=(Fj H n d v).bind fun v'=>(It H n (d+1) vs).map (v'::·)) ∧
  (∀(H:Aa) (n d:Nat),FN H n (d+1) []=some []) ∧
  (∀(H:Aa) (n d:Nat) (v:Ab) (vs:List Ab),FN H n (d+1) (v::vs)=(Iw H n d v).bind fun v'=>(FN H n (d+1) vs).map (v'::·))) ∧
 ((∀(H:Aa) (n d:Nat) (cs:List Ab),Fj H n (d+1) (.agg cs)=(FN H n d cs).map .agg) ∧
  (∀(H:Aa) (n d:Nat) (K:IntKind) (i:Int),Fj H n (d+1) (.int K i)=some (.int K i)) ∧
  (∀(H:Aa) (n d:Nat) (t:Bool),Fj H n (d+1) (.bool t)=some (.bool t)) ∧
  (∀(H:Aa) (n d:Nat) (s:List UInt8),Fj H n (d+1) (.str s)=some (.str s)) ∧
  (∀(H:Aa) (n d:Nat) (es:List (List Ab)) (tk:Tok),Fj H n (d+1) (.sl es tk)=some (.sl es .no))) ∧
 ((∀(H:Aa) (n d:Nat) (K:IntKind) (i:Int),Iw H n (d+1) (.int K i)=some (.int K i)) ∧
  (∀(H:Aa) (n d:Nat) (t:Bool),Iw H n (d+1) (.bool t)=some (.bool t)) ∧
  (∀(H:Aa) (n d:Nat) (s:List UInt8),Iw H n (d+1) (.str s)=some (.str s)) ∧
  (∀(H:Aa) (n d:Nat) (es:List (List Ab)) (tk:Tok),Iw H n (d+1) (.sl es tk)=some (.sl es .no))) ∧
 ((∀xs:List (Option Ab),Fy xs=(Tj xs).map .tup)∧(Tj []=some [])∧(∀(x:Option Ab) (xs:List (Option Ab)),Tj (x::xs)=x.bind fun v=>(Tj xs).map (v::·))) ∧
 ((∀(v:Ab) (vs:List Ab),Av 0 (.tup (v::vs))=some v)∧(∀(v w:Ab) (vs:List Ab),Av 1 (.tup (v::w::vs))=some w)∧(∀(v w u:Ab) (vs:List Ab),Av 2 (.tup (v::w::u::vs))=some u)):=
 ⟨⟨fun _ _ _=>Cf,fun _ _ _ _=>CQ,fun _ _ _ _=>fall_agg,fun _ _ _ _ _=>FC⟩,⟨fun _ _ _=>Cd,fun _ _ _ _ _=>BN,fun _ _ _=>EN,fun _ _ _ _ _=>DU⟩,
  ⟨fun _ _ _ _=>FU,fun _ _ _ _ _=>Fe,fun _ _ _ _=>EL,fun _ _ _ _=>fpart_str,fun _ _ _ _ _=>Iu⟩,⟨fun _ _ _ _ _=>fcell_int,fun _ _ _ _=>ND,fun _ _ _ _=>UC,fun _ _ _ _ _=>Ho⟩,
  ⟨fun _=>rfl,rfl,fun _ _=>rfl⟩,fun _ _=>rfl,fun _ _ _=>rfl,fun _ _ _ _=>rfl⟩
theorem HPe:(∀(H:Aa) (j k:Nat),List.length H+j+k=List.length H+(j+k))∧(∀(H0 H:Aa) (v:Ab) (k:Ab→Aa→Out),bK H0 (some (.pan v,H)) k=some (.pan v,H))∧(∀(α β:Type) (a:α) (f:α→β),Option.map f (some a)=some (f a))∧(∀id g o:Nat,As (.ptr id g o)=some (.ptr id g o))∧(∀off id g o:Nat,Ad off (.ptr id g o)=some (.ptr id g (o+off))) ∧
 ((∀a b c:Aa,a++b++c=a++(b++c))∧(∀(x:Blk) (b c:Aa),(x::b)++c=x::(b++c))∧(∀b:Aa,([]:Aa)++b=b)∧(∀a b:Aa,(a++b).length=a.length+b.length)∧(∀(x:Blk) (b:Aa),(x::b).length=b.length+1)∧(([]:Aa).length=0)) ∧
 ((∀(x:Ab) (b:List Ab),(x::b).length=b.length+1)∧(([]:List Ab).length=0)∧(∀(x:Ab) (b:List Ab),(x::b)[0]? = some x)∧(∀(x:Ab) (b:List Ab) (i:Nat),(x::b)[i+1]? = b[i]?)) ∧
 ((∀(x y:Ab) (b:List Ab),(x::b).set 0 y=y::b)∧(∀(x y:Ab) (b:List Ab) (i:Nat),(x::b).set (i+1) y=x::b.set i y)∧(∀(p:Ab→Bool) (x:Ab) (b:List Ab),(x::b).all p=(p x&&b.all p))∧(∀p:Ab→Bool,([]:List Ab).all p=true)) ∧
 (∀s:List UInt8,CG (.str s)=some (.int .i64 (s.length:Int))):=
 ⟨fun _ _ _=>VL _ _ _,fun _ _ _ _=>rfl,fun _ _ _ _=>rfl,fun _ _ _=>rfl,fun _ _ _ _=>rfl,⟨app_app,fun _ _ _=>rfl,fun _=>rfl,len_app,fun _ _=>rfl,rfl⟩,⟨fun _ _=>rfl,rfl,fun _ _=>rfl,fun _ _ _=>rfl⟩,⟨fun _ _ _=>rfl,fun _ _ _ _=>rfl,fun _ _ _=>rfl,fun _=>rfl⟩,fun _=>rfl⟩
theorem HPz:((∀n:Nat,0+n=n)∧(∀n:Nat,n+0=n)∧(∀p:Prop,(p∧p)=p)∧(∀p:Prop,(p∧True)=p)∧(∀(α:Type) (a:α),(a=a)=True)∧(∀b:Bool,(b&&b)=b)):=
 ⟨UY,Nat.add_zero,and_self,and_true,fun _ a=>eq_self a,Bool.and_self⟩
open Go.Proofs
set_option maxRecDepth 100000
theorem rightB_snoc (l:List Nat) (x:Nat):FJ (l++[x])=(x != 0):=by simp [FJ]
theorem p_cutG {l:List Nat} (tk:Tok) (H:Aa) (hx:Lim l) (hl:l.length≤1099511627776):Sh.f1 (.sl (enL cU l) tk) H=some (.ret (.sl (enL cU (A7 (val l))) .no),H):=by
 unfold Sh.f1
 have key:=Br (G:=fun rec1 vs H1=>Sh.f11 H rec1 (ag vs 0) H1) (σ:=Nat×Tok) (fun s=>s.1≤l.length∧val (l.take s.1)=val l)
  (fun s=>[.sl (enL cU (l.take s.1)) s.2]) (fun _=>H) (fun s=>s.1) (fun _=>some (.ret (.sl (enL cU (A7 (val l))) .no),H)) (fun s rec hi hrec=>?_) (l.length,tk) ⟨Va _,by rw [VO]⟩ (by dsimp only;omega)
 ·dsimp only at key
  rwa [VO]at key
 ·obtain ⟨k,t⟩:=s
  dsimp only at hi hrec ⊢
  obtain ⟨h1,h2⟩:=hi
  have hlk:(l.take k).length=k:=by rw [Vm];omega
  have hxk:Lim (l.take k):=fun x h=>hx x (Wm h)
  have hr:=p_right (l.take k) t H (by omega)
  unfold Sh.f11
  cases hb:FJ (l.take k)with
  | true=>
   rw [hb]at hr
   have hn:=LI ((N1 hxk).1 hb)
   rw [h2]at hn
   simp only [Ak,GMb,GMc,hr,VX,DY,forget,Eh,fgt]
   rw [←hn]
  | false=>
   rw [hb]at hr
   obtain ⟨m,rfl⟩:∃m,k=m+1:=by
    cases k with
    | zero=>rw [List.take_zero]at hb;cases hb
    | succ m=>exact ⟨m,rfl⟩
   have hm:m<l.length:=by omega
   have hz:l[m]=0:=by
    have:l.take (m+1)=l.take m++[l[m]]:=Vf hm
    rw [this,rightB_snoc]at hb
    simpa using hb
   have hv:val (l.take m)=val l:=by
    rw [←h2,Vf hm,Cp,hz]
    simp [val]
   have hw:IntKind.i64.wrap (((m+1:Nat):Int)-1)=(m:Int):=by rw [An] <;> omega
   have hsl:∃t',Bv 1 (.sl (enL cU (l.take (m+1))) t) none (some (.int .i64 (m:Int))) none=some (.sl (enL cU (l.take m)) t'):=by
    refine ⟨Fu t 0 m (l.take (m+1)).length false,?_⟩
    have:=slice_to (f:=cU) (sz:=1) (l:=l.take (m+1)) (tk:=t) (K:=.i64) (h:=m) (by omega)
    rw [List.take_take,VZ (by omega)]at this
    exact this
   obtain ⟨t',hsl⟩:=hsl
   simp only [Ak,GMb,GMc,hr,Wg,Au,hlk,hw,hsl]
   exact hrec (m,t') ⟨by omega,hv⟩ (Yh m)
theorem cmA_res (kn:List Ab→Aa→Out) (x0:Ab) (eb:List (List Ab)) (tb:Tok) (H:Aa) :
  cmA kn x0 (.sl eb tb) H=kn [x0,.sl eb tb,.undef,.ptr H.length 0 0,.ptr (H.length+1) 0 0,.undef,.undef,.undef,.undef,.undef,.undef,.undef,.undef,.undef,.undef,.undef,.undef,.undef,.undef,.undef,.undef,.undef,.undef,.undef,.undef,.undef,.undef,.undef,.undef,.undef,.undef,.undef,.undef,.undef,.undef,.undef,.undef,.undef,.undef] (H++[.cel 0 [.sl eb tb]]++[.cel 0 [.int .i64 0]]):=by
 have hbx:B8 true 1 (.sl eb tb) H=some (.ptr H.length 0 0,H++[.cel 0 [.sl eb tb]]):=by
  unfold B8;simp only [UR,alloc_eq (cs:=[.sl eb tb]) rfl];rfl
 have hal:Az (some [(.int .i64 0)]) (H++[.cel 0 [.sl eb tb]])=some (.ptr (H++[Blk.cel 0 [.sl eb tb]]).length 0 0,H++[.cel 0 [.sl eb tb]]++[.cel 0 [.int .i64 0]]):=alloc_eq rfl
 have hl:(H++[Blk.cel 0 [.sl eb tb]]).length=H.length+1:=by simp
 unfold cmA
 rw [hbx]
 simp only [Bu]
 rw [hal]
 simp only [Bu,hl]
theorem cmB_res (kn:List Ab→Aa→Out) {la lb:List Nat} (ta tb:Tok) (H:Aa) (xa:Lim la) (xb:Lim lb) (ha:la.length≤1099511627776) (hb:lb.length≤1099511627776) :
  cmB kn (.sl (enL cU la) ta) (.sl (enL cU lb) tb) (.ptr H.length 0 0) (.ptr (H.length+1) 0 0) (H++[.cel 0 [.sl (enL cU lb) tb]]++[.cel 0 [.int .i64 0]]) =
   kn [.sl (enL cU (A7 (val la))) .no,.sl (enL cU lb) tb,.undef,.ptr H.length 0 0,.ptr (H.length+1) 0 0,.undef,.undef,.sl (enL cU la) ta,.sl (enL cU (A7 (val la))) .no,.sl (enL cU lb) tb,.sl (enL cU (A7 (val lb))) .no,.undef,.undef,.undef,.undef,.undef,.undef,.undef,.undef,.undef,.undef,.undef,.undef,.undef,.undef,.undef,.undef,.undef,.undef,.undef,.undef,.undef,.undef,.undef,.undef,.undef,.undef,.undef,.undef] (H++[.cel 0 [.sl (enL cU (A7 (val lb))) .no]]++[.cel 0 [.int .i64 0]]):=by
 have e1:(H++[Blk.cel 0 [.sl (enL cU lb) tb]]++[.cel 0 [.int .i64 0]])[H.length]? = some (.cel 0 [.sl (enL cU lb) tb]):=by simp
 have ld:Ac false 1 (.ptr H.length 0 0) (H++[Blk.cel 0 [.sl (enL cU lb) tb]]++[.cel 0 [.int .i64 0]])=some (.sl (enL cU lb) tb):=by
  simp only [Ac,AA e1,Option.bind_some];rfl
 have hst:Ag 1 (.ptr H.length 0 0) (.sl (enL cU (A7 (val lb))) .no) (H++[Blk.cel 0 [.sl (enL cU lb) tb]]++[.cel 0 [.int .i64 0]])=some (H++[.cel 0 [.sl (enL cU (A7 (val lb))) .no]]++[.cel 0 [.int .i64 0]]):=by
  rw [JV e1 rfl (by simp)]
  congr 1
  rw [List.set_append_left _ _ (by simp),Bh]
  rfl
 have c1:=fun K=>p_cutG ta K xa ha
 have c2:=fun K=>p_cutG tb K xb hb
 unfold cmB
 simp only [c1,By,ld]
 rw [BR ⟨rfl,trivial⟩]
 simp only [c2,By,hst,AV,EU]
theorem cmC_res (kn kr:List Ab→Aa→Out) (a b:Nat) (ta tb:Tok) (H:Aa) (ha:(A7 a).length≤1099511627776) (hb:(A7 b).length≤1099511627776) :
  (∃tm:List Ab,tm.length=39∧tm[0]? = some (.sl (enL cU (A7 a)) ta)∧tm[3]? = some (.ptr H.length 0 0)∧tm[4]? = some (.ptr (H.length+1) 0 0) ∧
   cmC kn kr (.sl (enL cU (A7 a)) ta) (.ptr H.length 0 0) (.ptr (H.length+1) 0 0) (H++[.cel 0 [.sl (enL cU (A7 b)) tb]]++[.cel 0 [.int .i64 0]]) =
    if (A7 a).length=(A7 b).length then kn tm (H++[.cel 0 [.sl (enL cU (A7 b)) tb]]++[.cel 0 [.int .i64 0]])
    else kr tm (H++[.cel 0 [.sl (enL cU (A7 b)) tb]]++[.cel 0 [.int .i64 (if (A7 a).length<(A7 b).length then -1 else 1)]])):=by
 have e1:(H++[Blk.cel 0 [.sl (enL cU (A7 b)) tb]]++[.cel 0 [.int .i64 0]])[H.length]? = some (.cel 0 [.sl (enL cU (A7 b)) tb]):=by simp
 have e2:(H++[Blk.cel 0 [.sl (enL cU (A7 b)) tb]]++[.cel 0 [.int .i64 0]])[H.length+1]? = some (.cel 0 [.int .i64 0]):=by simp
 have ld:Ac false 1 (.ptr H.length 0 0) (H++[Blk.cel 0 [.sl (enL cU (A7 b)) tb]]++[.cel 0 [.int .i64 0]])=some (.sl (enL cU (A7 b)) tb):=by
  simp only [Ac,AA e1,Option.bind_some];rfl
 have hst:∀z:Int,Ag 1 (.ptr (H.length+1) 0 0) (.int .i64 z) (H++[Blk.cel 0 [.sl (enL cU (A7 b)) tb]]++[.cel 0 [.int .i64 0]])=some (H++[.cel 0 [.sl (enL cU (A7 b)) tb]]++[.cel 0 [.int .i64 z]]):=fun z=>by
  rw [JV e2 rfl (by simp)]
  congr 1
  rw [V8 _ _ (by simp)]
  simp
 unfold cmC
 simp only [Au,Option.bind_some,ld]
 by_cases h:(A7 a).length=(A7 b).length
 ·have hn:Ae .none .neq (.int .i64 ((A7 a).length:Int)) (.int .i64 ((A7 b).length:Int))=some (.bool false):=by
   show some (Ab.bool (((A7 a).length:Int) != ((A7 b).length:Int)))=_
   rw [h];simp
  simp only [hn,if_pos h,Option.bind_some,AP]
  exact ⟨_,rfl,rfl,rfl,rfl,rfl⟩
 ·have hn:Ae .none .neq (.int .i64 ((A7 a).length:Int)) (.int .i64 ((A7 b).length:Int))=some (.bool true):=by
   show some (Ab.bool (((A7 a).length:Int) != ((A7 b).length:Int)))=_
   have:(((A7 a).length:Int) != ((A7 b).length:Int))=true:=by simp;omega
   rw [this]
  simp only [hn,if_neg h,Option.bind_some,AZ,Bm]
  by_cases h2:(A7 a).length<(A7 b).length
  ·simp only [decide_eq_true (show ((A7 a).length:Int)<((A7 b).length:Int)by omega),if_pos h2,AZ,hst,AV,EU]
   exact ⟨_,rfl,rfl,rfl,rfl,rfl⟩
  ·simp only [decide_eq_false (show ¬((A7 a).length:Int)<((A7 b).length:Int)by omega),if_neg h2,AP,hst,AV,EU]
   exact ⟨_,rfl,rfl,rfl,rfl,rfl⟩
open Go.RowKit
open Go.RowKit Go.Proofs Go.Shelf
attribute [local go_sem] Oper.semAt_some
def GoodC (n:Nat) (za zb:Nat→Nat) (z:Int):Prop:=
 (z=0∧∀j,j<n→za j=zb j)∨∃i,i<n∧za i≠zb i∧(∀j,i<j→j<n→za j=zb j)∧z=if za i<zb i then -1 else 1
def AllEq {n:Nat} (za zb:Nat→Nat) (pre:List (Fin n)):Prop:=∀x∈pre,za x.1=zb x.1
def TopNe {n:Nat} (za zb:Nat→Nat) (pre:List (Fin n)) (z:Int):Prop:=
 ∃x:Fin n,za x.1≠zb x.1∧AllEq za zb pre.dropLast∧pre.getLast? = some x∧z=if za x.1<zb x.1 then -1 else 1
def Laid (B R:Nat) (w1:World) (z:Int) (W:World):Prop:=Below B (w1.setCell ⟨R,0,none⟩ (.int .i64 z)) W∧B+1≤W.heap.size
theorem GW {W:World} {R k:Nat} {v:Value} (h:k≠R):(W.setCell ⟨R,0,none⟩ v).heap[k]? = W.heap[k]? := by
 simp [World.setCell,WE,h.symm]
theorem JY {W:World} {R:Nat} {u v:Value} {t:TypeId} (h:W.heap[R]? = some (.cells #[u] t (0,0))):(W.setCell ⟨R,0,none⟩ v).heap[R]? = some (.cells #[v] t (0,0)):=by
 simp [World.setCell,WE,h]
theorem EZ (W:World) (R:Nat) (v:Value):(W.setCell ⟨R,0,none⟩ v).heap.size=W.heap.size:=by simp [World.setCell]
theorem laid_of {B R:Nat} {w1 W:World} {t:TypeId} {z:Int} (h:Below B w1 W) (hR:R<B) (hr:w1.heap[R]? = some (.cells #[.int .i64 0] t (0,0))) (h5:B+1≤W.heap.size):Laid B R w1 z (W.setCell ⟨R,0,none⟩ (.int .i64 z)):=by
 refine ⟨⟨h.os,h.tape,h.output,?_,fun k hk=>?_⟩,by rw [EZ];exact h5⟩
 ·rw [EZ,EZ];exact h.size
 ·by_cases e:k=R
  ·subst e
   rw [JY ((h.block k hk).trans hr),JY hr]
  ·rw [GW e,GW e];exact h.block k hk
theorem Uu {B R:Nat} {W:World} {v:Value} (hR:R<B):KeepsFrom B W (W.setCell ⟨R,0,none⟩ v):=
 ⟨by rw [EZ];exact Va _,fun k o hB hk _=>by rw [GW (by omega)];exact hk⟩
theorem results_one {P:Program} {fn:Func} {p:Tmp} {ty:TypeId} {d:TypeDesc} (h:fn.results = #[.cell p ty]) (hu:P.underlying ty=some d) (ha:B6 P ty=false) (tmps:Array Value) (w:World) (R:Nat) (v:Value) (hp:tmps.getD p undef=.pointer (some ⟨R,0,none⟩)) (hc:w.cell? ⟨R,0,none⟩=some v) :
  (results fn tmps).run P w=.ok v w:=by
 have hp':tmps[p]?.getD undef=.pointer (some ⟨R,0,none⟩):=by simpa using hp
 simp [results,h,hp',asAddr,KQ hu w _ v hc ha]
theorem cmp_end {fu B R:Nat} {w1 W:World} {Rr:Ending→World→Prop} {z:Int} {t:TypeId} {D:Nat} {ts:Array Value} (hR:R<B) (hB:w1.heap.size=B) (hr:w1.heap[R]? = some (.cells #[.int .i64 0] t (0,0))) (hl:Laid B R w1 z W) (hD:B+1≤D) (hK:W.heap[D]? = some (.deferred (some [])))
  (hp:ts.getD 4 undef=.pointer (some ⟨R,0,none⟩)) (hRr:∀W,Below B (w1.setCell ⟨R,0,none⟩ (.int .i64 z)) W→Rr (.returned (.int .i64 z)) W) :
  bodyPostM Fence.wide fu Tryz.prog Tryz.f156 Rr .ret { tmps:=ts,defers:=[{ target:=.collected D,args:=#[] }] } W:=by
 have hb:Below B (w1.setCell ⟨R,0,none⟩ (.int .i64 z)) (W.putObj D (.deferred none)):=
  hl.1.trans (belowK_b (w:=w1) (n₀:=B) (by omega) W D _ _ (by omega) hK rfl rfl)
 have hh:(W.putObj D (.deferred none)).heap[R]? = some (.cells #[.int .i64 z] t (0,0)):=(hb.block R hR).trans (JY hr)
 show LeavesInM _ _ _ _ _ _ (_::_) _ _
 refine ⟨by simp,.inl ⟨_,_,rfl,run_takeDeferred hK,?_⟩⟩
 show LeavesIn _ _ _ _ _ _ [] _ _
 exact ⟨_,results_one (p:=4) (ty:=3) (d:=.int .i64) (by kernel_rfl) (by kernel_rfl) (by kernel_rfl) ts _ R (.int .i64 z) hp (by rw [Bj hh];rfl),hRr _ hb⟩
set_option maxRecDepth 100000 in
set_option maxHeartbeats 4000000 in
theorem cmp_tail {fu n:Nat} (hn:3≤fu) {w1:World} {Rr:Ending→World→Prop} (bA R bb ob cb ba oa ca:Nat) (ao bo:Option Addr) (za zb:Nat→Nat) (hreach:n≤1099511627776)
  (hao:0<n→ao=some ⟨ba,oa,none⟩) (hbo:0<n→bo=some ⟨bb,ob,none⟩) (hA:bA<w1.heap.size) (hR:R<w1.heap.size) (hba:ba<w1.heap.size) (hbb:bb<w1.heap.size)
  (hbx:w1.cell? ⟨bA,0,none⟩=some (.slice bo n cb)) (hrx:∃t,w1.heap[R]? = some (.cells #[.int .i64 0] t (0,0))) (hca:∀j,j<n→w1.cell? ⟨ba,oa+j,none⟩=some (.int .u32 (za j:Int))) (hcb:∀j,j<n→w1.cell? ⟨bb,ob+j,none⟩=some (.int .u32 (zb j:Int)))
  (hRr:∀z W,GoodC n za zb z→Below w1.heap.size (w1.setCell ⟨R,0,none⟩ (.int .i64 z)) W→Rr (.returned (.int .i64 z)) W)
  (va:Value) (hva:va=.slice ao n ca) (t1 t2 t5 t6 t7 t8 t9 t10 t11 t12 t13 t14 t15 t16 t17 t18 t19 t20 t21 t22 t23 t24 t25 t26 t27 t28 t29 t30 t31 t32 t33 t34 t35 t36 t37 t38:Value) :
  cdD.wpIn Fence.wide fu Tryz.prog (bodyPostM Fence.wide fu Tryz.prog Tryz.f156 Rr) { tmps:=#[va,t1,t2,.pointer (some ⟨bA,0,none⟩),.pointer (some ⟨R,0,none⟩),t5,t6,t7,t8,t9,t10,t11,t12,t13,t14,t15,t16,t17,t18,t19,t20,t21,t22,t23,t24,t25,t26,t27,t28,t29,t30,t31,t32,t33,t34,t35,t36,t37,t38],defers:=[] } w1:=by
 subst hva
 have h1:1≤fu:=by omega
 have hro:Fence.wide.round=none:=rfl
 have h205:Fence.wide.fn 205:=trivial
 conv in cdD=>whnf
 gi_wp2_with (gi_at_call 205;refine (Tryz.back_in Fence.wide (fu-1) trivial hro _ _ _ _).mono ?_;rintro e w' ⟨rfl,rfl⟩)
 obtain ⟨tr,hrx⟩:=hrx
 generalize hB:w1.heap.size=B at *
 obtain ⟨W0,hW0⟩:∃W0,w1.alloc (Obj.cells #[Value.slice ao n ca] 44)=W0:=⟨_,rfl⟩
 rw [hW0]
 have hW0s:W0.heap.size=B+1:=by rw [←hW0,World.size_alloc,hB]
 have hB0:Below B w1 W0:=by rw [←hW0];exact Below.alloc (Below.refl _ _) (by omega) _
 have hbx0:W0.cell? ⟨B,0,none⟩=some (.slice ao n ca):=by
  have:W0.heap[B]? = some (Obj.cells #[Value.slice ao n ca] 44):=by have:=World.heap_new w1 (Obj.cells #[Value.slice ao n ca] 44);rw [hB]at this;rw [←hW0];exact this
  rw [Bj this];rfl
 refine wpIn_rangeFunc_ownG hro h1 (gf:=229) (lb:=#[.pointer (some ⟨B,0,none⟩)]) rfl trivial (enters_of Tryz.func229 (by kernel_rfl) rfl)
  (Tryz.back_stops Fence.wide (fu-1) trivial hro (by omega) B B ba oa n ca ao hao za hreach W0 (by omega) hba (by omega) hbx0 (fun j hj=>(hB0.cell (p:=⟨ba,oa+j,none⟩) hba).trans (hca j hj)))
  (fun h k=>h.trans k) (fun W l o o' hl ho h1 h2=>⟨belowK_b (by omega) W l o o' hl ho h1 h2,?hKb⟩) (Below.refl _ _) (fun _=>rfl)
  (fun pre W=>AllEq za zb pre∧Below B w1 W∧B+1≤W.heap.size)
  (fun c pre W=>c=.ret∧∃z:Int,TopNe za zb pre z∧Laid B R w1 z W)
  ?hI ?hIx
  ⟨fun x hx=>(by cases hx),hB0,by omega⟩
  (fun x=>{ tmps:=#[.slice ao n ca,t1,t2,.pointer (some ⟨bA,0,none⟩),.pointer (some ⟨R,0,none⟩),.int .i64 (x.1:Int),.int .u32 (za x.1:Int),t7,t8,t9,t10,t11,t12,t13,t14,t15,t16,t17,t18,t19,t20,.slice ao n ca,.func (.func 229) #[] #[.pointer (some ⟨B,0,none⟩)],.int .i64 (x.1:Int),.int .u32 (za x.1:Int),t25,t26,t27,t28,t29,t30,t31,t32,t33,t34,t35,t36,t37,t38],defers:=[] }) ?assign ?body ?done ?stop
 case hKb=>
  have hcB:∀(U V:World),V.heap[B]? = U.heap[B]? → V.cell? ⟨B,0,none⟩=U.cell? ⟨B,0,none⟩:=fun U V h=>World.cell?_of_block h
  exact hcB _ _ (World.putObj_heap_other (by omega))
 case hI=>
  exact OwnFrom.and (fun _ _ _ _ h _ _=>h) (OwnFrom.and (ownFrom_below (by omega) (by omega)) (fun _ _ _ _ h hg _=>Vw h hg.size))
 case hIx=>
  rintro c pre W W' row ⟨h1,z,h2,h3,h4⟩ hg hr
  refine ⟨h1,z,h2,?_,Vw h4 hg.size⟩
  exact ownFrom_below (β:=List (Fin n)) (B:=W0.heap.size) (by rw [EZ];omega) (by omega) pre W W' row h3 hg hr
 case assign=>
  intro l x W K hK
  gi_wp2
  exact hK
 case body=>
  rintro l pre x W ⟨hE,hBw,h5⟩ _
  have hx:=x.2
  have hbo':=hbo (by omega)
  subst hbo'
  have hbx':=(hBw.cell (p:=⟨bA,0,none⟩) hA).trans hbx
  have hcb':=(hBw.cell (p:=⟨bb,ob+x.1,none⟩) hbb).trans (hcb x.1 hx)
  have hR':=(hBw.block R hR).trans hrx
  have hRf:W.frozen? ⟨R,0,none⟩=false:=by simp [World.frozen?,hR']
  have hRc:W.cell? ⟨R,0,none⟩=some (.int .i64 0):=by rw [Bj hR'];rfl
  by_cases hlt:za x.1<zb x.1
  ·have hlt':(za x.1:Int)<(zb x.1:Int):=by omega
   have hlaid:∀z:Int,z = -1→TopNe za zb (pre++[x]) z∧Laid B R w1 z (W.setCell ⟨R,0,none⟩ (.int .i64 z)):=fun z hz=>
    ⟨⟨x,by omega,by simpa using hE,by simp,by rw [if_pos hlt];exact hz⟩,laid_of hBw hR hrx h5⟩
   have hl:=hlaid (-1) rfl
   generalize hT:TopNe za zb (pre++[x]) (-1)=T at hl
   clear hlaid
   gi_wp2
   exact ⟨Uu (by omega),rfl,-1,by rw [hT];exact hl.1,hl.2⟩
  ·by_cases hgt:zb x.1<za x.1
   ·have hlt':¬(za x.1:Int)<(zb x.1:Int):=by omega
    have hgt':(zb x.1:Int)<(za x.1:Int):=by omega
    have hlaid:∀z:Int,z=1→TopNe za zb (pre++[x]) z∧Laid B R w1 z (W.setCell ⟨R,0,none⟩ (.int .i64 z)):=fun z hz=>
     ⟨⟨x,by omega,by simpa using hE,by simp,by rw [if_neg hlt];exact hz⟩,laid_of hBw hR hrx h5⟩
    have hl:=hlaid 1 rfl
    generalize hT:TopNe za zb (pre++[x]) 1=T at hl
    clear hlaid
    gi_wp2
    exact ⟨Uu (by omega),rfl,1,by rw [hT];exact hl.1,hl.2⟩
   ·have hlt':¬(za x.1:Int)<(zb x.1:Int):=by omega
    have hgt':¬(zb x.1:Int)<(za x.1:Int):=by omega
    have hE2:AllEq za zb (pre++[x]):=fun y hy=>by
     rcases Vt.1 hy with h | h
     ·exact hE y h
     ·rw [Vs.1 h];omega
    gi_wp2
    exact ⟨KeepsFrom.refl _ _,⟨Below.refl _ _,rfl⟩,hE2,hBw,h5⟩
 case done=>
  rintro D ys W hD rfl ⟨hE,hBw,h5⟩ hK
  have hR':=(hBw.block R hR).trans hrx
  have hRf:W.frozen? ⟨R,0,none⟩=false:=by simp [World.frozen?,hR']
  have hRc:W.cell? ⟨R,0,none⟩=some (.int .i64 0):=by rw [Bj hR'];rfl
  have hgood:GoodC n za zb 0:=.inl ⟨rfl,fun j hj=>hE ⟨j,hj⟩ (PV n ⟨j,hj⟩ (Va _) (by omega))⟩
  have hl:Laid B R w1 0 (W.setCell ⟨R,0,none⟩ (.int .i64 0)):=laid_of hBw hR hrx h5
  gi_wp2
  refine cmp_end hR hB hrx hl (by omega) ?_ rfl (fun W h=>hRr 0 W hgood h)
  rw [GW (by omega)];exact hK
 case stop=>
  rintro D c pre W hD ⟨k,hk,hpre⟩ ⟨rfl,z,⟨x,x1,x2,x3,x4⟩,hl⟩ hK
  subst hpre
  rw [NH hk]at x2 x3
  simp only [List.dropLast_concat,List.getLast?_concat,Ve]at x2 x3
  subst x3
  have hgood:GoodC n za zb z:=.inr ⟨n-1-k,by omega,x1,fun j h1 h2=>x2 ⟨j,h2⟩ (PV k ⟨j,h2⟩ (by omega) (by dsimp only;omega)),x4⟩
  gi_wp2
  exact cmp_end hR hB hrx hl (by omega) hK rfl (fun W h=>hRr z W hgood h)
open Go.RowKit Go.Proofs
set_option maxRecDepth 100000
def Pd (tm:List Ab) (H:Aa):Out:=some (.ret (.tup tm),H)
def Q6 (tm:List Ab) (H:Aa):Out:=some (.ret (.agg tm),H)
theorem rec_n {x:AExit} {tm tm':List Ab} {H H':Aa} (h:kK Pd Q6 x tm H=some (.ret (.tup tm'),H')):x=.normal∧tm=tm'∧H=H':=by
 cases x with
 | normal=>simp only [kK,Pd,Ve,Vv,Res.ret.injEq,Ab.tup.injEq]at h;exact ⟨rfl,h⟩
 | ret=>simp [kK,Q6]at h
 | pan v=>simp [kK]at h
 | exit i=>simp [kK]at h
theorem rec_r {x:AExit} {tm tm':List Ab} {H H':Aa} (h:kK Pd Q6 x tm H=some (.ret (.agg tm'),H')):x=.ret∧tm=tm'∧H=H':=by
 cases x with
 | normal=>simp [kK,Pd]at h
 | ret=>simp only [kK,Q6,Ve,Vv,Res.ret.injEq,Ab.agg.injEq]at h;exact ⟨rfl,h⟩
 | pan v=>simp [kK]at h
 | exit i=>simp [kK]at h
theorem sl_view {E:Env} {H:Aa} {w:World} (hs:Sim E H w) {L:List Nat} {tk:Tok} {v:Value} (h:Ax E (.sl (enL cU L) tk) v) (hw:0<w.heap.size) :
  ∃(ao:Option Addr) (b o cap:Nat),v=.slice ao L.length cap∧(0<L.length→ao=some ⟨b,o,none⟩)∧b<w.heap.size∧∀j,j<L.length→w.cell? ⟨b,o+j,none⟩=some (.int .u32 ((L[j]?.getD 0:Nat):Int)):=by
 have hge:∀j (hj:j<L.length),(enL cU L)[j]? = some (cU L[j]):=fun j hj=>by simp [enL,hj]
 have hle:(enL cU L).length=L.length:=by simp [enL]
 generalize hes:enL cU L=es at *
 cases h with
 | @sl0 _ a cap ht ha=>
  have:L.length=0:=by simpa using hle.symm
  exact ⟨a,0,0,cap,by rw [this],fun h=>by omega,hw,fun j hj=>by omega⟩
 | @sl _ _ b o s cap f hlen hI hmm hvv hcc htt=>
  by_cases hpos:0<L.length
  ·have hs1:s=1:=by
    have:=hlen 0 _ (hge 0 hpos)
    simpa using this.symm
   subst hs1
   refine ⟨_,b,o,cap,by rw [hle],fun _=>rfl,hs.imm_lt (hI 0 0 (by omega) (by omega)),fun j hj=>?_⟩
   have h1:=hs.imm _ _ _ (hI j 0 (by omega) (by omega))
   have h2:=hvv j _ 0 _ (hge j hj) rfl
   rw [QM h2]at h1
   rw [UU hj]
   simpa using h1
  ·exact ⟨_,0,o,cap,by rw [hle],fun h=>absurd h hpos,hw,fun j hj=>by omega⟩
theorem TA {l:List Nat} {i:Nat} (h:i<l.length):val l=val (l.take i)+4294967296^i*(l[i]+4294967296*val (l.drop (i+1))):=by
 have e:l=l.take i++(l[i]::l.drop (i+1)):=by rw [←V4 h,VG]
 conv=>lhs;rw [e]
 rw [Cp,Vm,VZ (by omega)]
 rfl
theorem ar_lt {a b P W x y d:Nat} (ha:a<P) (hxy:x<y):a+P*(x+W*d)<b+P*(y+W*d):=by
 have h1:P*(x+W*d)+P≤P*(y+W*d):=by
  rw [←Nat.mul_succ]
  exact Xy _ (by omega)
 omega
theorem topV_lt {l m:List Nat} (hl:Lim l) (he:l.length=m.length) {i:Nat} (h:i<l.length) (h':i<m.length) (hd:l.drop (i+1)=m.drop (i+1)) (hlt:l[i]<m[i]):val l<val m:=by
 have h1:=FQ (l:=l.take i) fun y hy=>hl y (Wm hy)
 rw [Vm,VZ (by omega)]at h1
 rw [TA h,TA h',hd]
 exact ar_lt h1 hlt
theorem good_val {A B:Nat} (hlen:(A7 A).length=(A7 B).length) {z:Int} (h:GoodC (A7 A).length (fun j=>(A7 A)[j]?.getD 0) (fun j=>(A7 B)[j]?.getD 0) z):z=if A<B then -1 else if A=B then 0 else 1:=by
 rcases h with ⟨rfl,h⟩ | ⟨i,hi,hne,hab,rfl⟩
 ·have:A7 A=A7 B:=by
   apply List.ext_getElem hlen
   intro j h1 h2
   have:=h j h1
   dsimp only at this
   rw [UU h1,UU h2]at this
   exact this
  have e:A=B:=by rw [←Bz A,←Bz B,this]
  rw [if_neg (by omega),if_pos e]
 ·have hi2:i<(A7 B).length:=by omega
  have g1:(A7 A)[i]?.getD 0=(A7 A)[i]:=by rw [UU hi];rfl
  have g2:(A7 B)[i]?.getD 0=(A7 B)[i]:=by rw [UU hi2];rfl
  have hd:(A7 A).drop (i+1)=(A7 B).drop (i+1):=by
   apply List.ext_getElem (by simp [hlen])
   intro j h1 h2
   rw [Vx]at h1 h2
   have:=hab (i+1+j) (by omega) (by omega)
   dsimp only at this
   rw [UU (by omega),UU (by omega)]at this
   rw [WX,WX]
   exact this
  dsimp only at hne ⊢
  rw [g1,g2]at hne
  have e:((A7 A)[i]?.getD 0<(A7 B)[i]?.getD 0)↔(A7 A)[i]<(A7 B)[i]:=by rw [g1,g2]
  by_cases hlt:(A7 A)[i]<(A7 B)[i]
  ·have:=topV_lt (Bt A) hlen hi hi2 hd hlt
   rw [Bz,Bz]at this
   rw [if_pos (e.2 hlt),if_pos this]
  ·have:=topV_lt (Bt B) hlen.symm hi2 hi hd.symm (by omega)
   rw [Bz,Bz]at this
   rw [if_neg (fun h=>hlt (e.1 h)),if_neg (by omega),if_neg (by omega)]
theorem len_val {A B:Nat} (hne:¬(A7 A).length=(A7 B).length):(if (A7 A).length<(A7 B).length then (-1:Int)else 1)=if A<B then -1 else if A=B then 0 else 1:=by
 by_cases h:(A7 A).length<(A7 B).length
 ·have:A<B:=by
   rcases VH A B with q | q
   ·exact q
   ·have:=MH q;omega
  rw [if_pos h,if_pos this]
 ·have:B<A:=by
   rcases VH B A with q | q
   ·exact q
   ·have:=MH q;omega
  rw [if_neg h,if_neg (by omega),if_neg (by omega)]
theorem one_of {E:Env} {x:Ab} {vs:Array Value} (h:A4 E [x] vs.toList):∃v,vs = #[v]∧Ax E x v:=args1 h
theorem Bp {α:Type} {n:Nat} {l:List α} (h:l.length=n+1):∃x r,l=x::r∧r.length=n:=by
 cases l with
 | nil=>cases h
 | cons x r=>exact ⟨x,r,rfl,by simpa using h⟩
theorem lit39 (ts:Array Value) (h:ts.toList.length=39):∃t0 t1 t2 t3 t4 t5 t6 t7 t8 t9 t10 t11 t12 t13 t14 t15 t16 t17 t18 t19 t20 t21 t22 t23 t24 t25 t26 t27 t28 t29 t30 t31 t32 t33 t34 t35 t36 t37 t38:Value,ts = #[t0,t1,t2,t3,t4,t5,t6,t7,t8,t9,t10,t11,t12,t13,t14,t15,t16,t17,t18,t19,t20,t21,t22,t23,t24,t25,t26,t27,t28,t29,t30,t31,t32,t33,t34,t35,t36,t37,t38]:=by
 obtain ⟨l⟩:=ts
 dsimp only at h
 obtain ⟨t0,l0,rfl,h0⟩:=Bp h
 obtain ⟨t1,l1,rfl,h1⟩:=Bp h0
 obtain ⟨t2,l2,rfl,h2⟩:=Bp h1
 obtain ⟨t3,l3,rfl,h3⟩:=Bp h2
 obtain ⟨t4,l4,rfl,h4⟩:=Bp h3
 obtain ⟨t5,l5,rfl,h5⟩:=Bp h4
 obtain ⟨t6,l6,rfl,h6⟩:=Bp h5
 obtain ⟨t7,l7,rfl,h7⟩:=Bp h6
 obtain ⟨t8,l8,rfl,h8⟩:=Bp h7
 obtain ⟨t9,l9,rfl,h9⟩:=Bp h8
 obtain ⟨t10,l10,rfl,h10⟩:=Bp h9
 obtain ⟨t11,l11,rfl,h11⟩:=Bp h10
 obtain ⟨t12,l12,rfl,h12⟩:=Bp h11
 obtain ⟨t13,l13,rfl,h13⟩:=Bp h12
 obtain ⟨t14,l14,rfl,h14⟩:=Bp h13
 obtain ⟨t15,l15,rfl,h15⟩:=Bp h14
 obtain ⟨t16,l16,rfl,h16⟩:=Bp h15
 obtain ⟨t17,l17,rfl,h17⟩:=Bp h16
 obtain ⟨t18,l18,rfl,h18⟩:=Bp h17
 obtain ⟨t19,l19,rfl,h19⟩:=Bp h18
 obtain ⟨t20,l20,rfl,h20⟩:=Bp h19
 obtain ⟨t21,l21,rfl,h21⟩:=Bp h20
 obtain ⟨t22,l22,rfl,h22⟩:=Bp h21
 obtain ⟨t23,l23,rfl,h23⟩:=Bp h22
 obtain ⟨t24,l24,rfl,h24⟩:=Bp h23
 obtain ⟨t25,l25,rfl,h25⟩:=Bp h24
 obtain ⟨t26,l26,rfl,h26⟩:=Bp h25
 obtain ⟨t27,l27,rfl,h27⟩:=Bp h26
 obtain ⟨t28,l28,rfl,h28⟩:=Bp h27
 obtain ⟨t29,l29,rfl,h29⟩:=Bp h28
 obtain ⟨t30,l30,rfl,h30⟩:=Bp h29
 obtain ⟨t31,l31,rfl,h31⟩:=Bp h30
 obtain ⟨t32,l32,rfl,h32⟩:=Bp h31
 obtain ⟨t33,l33,rfl,h33⟩:=Bp h32
 obtain ⟨t34,l34,rfl,h34⟩:=Bp h33
 obtain ⟨t35,l35,rfl,h35⟩:=Bp h34
 obtain ⟨t36,l36,rfl,h36⟩:=Bp h35
 obtain ⟨t37,l37,rfl,h37⟩:=Bp h36
 obtain ⟨t38,l38,rfl,h38⟩:=Bp h37
 obtain rfl:=Vo h38
 exact ⟨t0,t1,t2,t3,t4,t5,t6,t7,t8,t9,t10,t11,t12,t13,t14,t15,t16,t17,t18,t19,t20,t21,t22,t23,t24,t25,t26,t27,t28,t29,t30,t31,t32,t33,t34,t35,t36,t37,t38,rfl⟩
theorem frel0 {E:Env} {H:Aa} {w:World} {args:List Ab} {vs:Array Value} {n:Nat} (hs:Sim E H w) (hv:A4 E args vs.toList) (hn:args.length≤n):HE n E H (args++List.replicate (n-args.length) .undef) { tmps:=vs++Array.replicate (n-vs.size) undef,defers:=[] } w:=by
 have hlen:args.length=vs.size:=by simpa using hv.1
 refine ⟨?_,by simp;omega,rfl,hs⟩
 rw [WM]
 refine hv.append ⟨by simp [hlen],fun i c v h1 h2=>?_⟩
 rw [Xg]at h1
 split at h1
 ·simp at h1;subst h1;exact .undef _
 ·cases h1
def Og:List Bool→List Ab→List Ab
 | true::m,x::xs=>x::Og m xs
 | _::m,_::xs=>.undef::Og m xs
 | [],xs=>xs
 | _,[]=>[]
theorem Pk:∀(m:List Bool) (xs:List Ab),(Og m xs).length=xs.length
 | [],[]=>rfl
 | [],_::_=>rfl
 | _::_,[]=>by simp [Og]
 | true::m,x::xs=>by simp [Og,Pk m xs]
 | false::m,x::xs=>by simp [Og,Pk m xs]
theorem Pc {E:Env}:∀(m:List Bool) (xs:List Ab) (vs:List Value),A4 E xs vs→A4 E (Og m xs) vs
 | [],[],_,h=>h
 | [],_::_,_,h=>h
 | _::_,[],_,h=>by simpa [Og]using h
 | b::m,x::xs,[],h=>absurd h.1 (by simp)
 | true::m,x::xs,v::vs,h=>A4.cons h.head (Pc m xs vs h.tail)
 | false::m,x::xs,v::vs,h=>A4.cons (.undef _) (Pc m xs vs h.tail)
theorem frel_mask {n:Nat} {E:Env} {H:Aa} {tm:List Ab} {a:Act} {w:World} (m:List Bool) (h:HE n E H tm a w):HE n E H (Og m tm) a w:=
 ⟨Pc m tm _ h.rel,by rw [Pk];exact h.len,h.defers,h.sim⟩
theorem setCells_one (w:World) (R:Nat) (v:Value):w.setCells R 0 [v]=w.setCell ⟨R,0,none⟩ v:=rfl
theorem Jp:AH Tryz.prog Gs 156 (ap2 Sh.fp):=by
 intro args H res H' h
 unfold ap2 at h
 split at h
 ·rename_i a b
  unfold Sh.fp at h
  split at h
  ·rename_i es ta fs tb
   split at h
   ·rename_i hex
    have hsp:=hex.choose_spec
    generalize hp:hex.choose=p at hsp h
    obtain ⟨la,lb⟩:=p
    dsimp only at hsp h
    obtain ⟨rfl,rfl,xa,xb,ha,hb⟩:=hsp
    simp only [Ve,Vv]at h
    obtain ⟨rfl,rfl⟩:=h
    intro E w vs hG hs hv
    obtain ⟨va,vb,rfl,k1,k2⟩:=args2 hv
    have hlA:(A7 (val la)).length≤1099511627776:=Vw (EG (FQ xa)) ha
    have hlB:(A7 (val lb)).length≤1099511627776:=Vw (EG (FQ xb)) hb
    refine .inl ⟨Ff Tryz.func156 (by kernel_rfl) (by kernel_rfl) _ w,?_⟩
    refine callsIn_wide.1 (callsIn_of_wp_marks (n:=3) Tryz.func156 body_156 trivial ?_ rfl)
    have hC:Ny Tp:=mk_ok (Af D7 (Ar _ _))
    have hD:DrawOk Tp:=draw_ok hC mixed
    have hfr:HE 39 E H [.sl (enL cU la) ta,.sl (enL cU lb) tb,.undef,.undef,.undef,.undef,.undef,.undef,.undef,.undef,.undef,.undef,.undef,.undef,.undef,.undef,.undef,.undef,.undef,.undef,.undef,.undef,.undef,.undef,.undef,.undef,.undef,.undef,.undef,.undef,.undef,.undef,.undef,.undef,.undef,.undef,.undef,.undef,.undef] { tmps:=#[va,vb]++Array.replicate (39 - #[va,vb].size) undef,defers:=[] } w:=frel0 hs hv (by simp)
    rw [Tryz.ntmps156]
    obtain ⟨HB,hHB⟩:∃HB:Aa,HB=H++[.cel 0 [.sl (enL cU (A7 (val lb))) .no]]++[.cel 0 [.int .i64 0]]:=⟨_,rfl⟩
    have hAev:=cmA_eq Pd Q6 (.sl (enL cU la) ta) (.sl (enL cU lb) tb) H
    rw [cmA_res,←ev_eq]at hAev
    refine wpIn_seq (wpIn_mono (wpIn_wide.2 (S2 hC hD cdA _ (kK Pd Q6) E _ H _ w hG (BH.refl E H w) hfr hAev)) ?_)
    rintro e1 a1 w1 ⟨E1,H1,tm1,x1,hG1,st1,hf1,hx1,hk1⟩
    obtain ⟨rfl,rfl,rfl⟩:=rec_n hk1
    cases e1 <;> first | exact hx1.elim | skip
    have hBev:=cmB_eq Pd Q6 (.sl (enL cU la) ta) (.sl (enL cU lb) tb) (.ptr H.length 0 0) (.ptr (H.length+1) 0 0) (H++[.cel 0 [.sl (enL cU lb) tb]]++[.cel 0 [.int .i64 0]])
    rw [cmB_res Pd ta tb H xa xb ha hb,←ev_eq]at hBev
    refine wpIn_seq (wpIn_mono (wpIn_wide.2 (S2 hC hD cdB _ (kK Pd Q6) E1 _ _ a1 w1 hG1 st1 hf1 hBev)) ?_)
    rintro e2 a2 w2 ⟨E2,H2,tm2,x2,hG2,st2,hf2,hx2,hk2⟩
    obtain ⟨rfl,rfl,rfl⟩:=rec_n hk2
    cases e2 <;> first | exact hx2.elim | skip
    have hf2':HE 39 E2 HB [.sl (enL cU (A7 (val la))) .no,.undef,.undef,.ptr H.length 0 0,.ptr (H.length+1) 0 0,.undef,.undef,.undef,.undef,.undef,.undef,.undef,.undef,.undef,.undef,.undef,.undef,.undef,.undef,.undef,.undef,.undef,.undef,.undef,.undef,.undef,.undef,.undef,.undef,.undef,.undef,.undef,.undef,.undef,.undef,.undef,.undef,.undef,.undef] a2 w2:=hHB ▸ frel_mask [true,false,false,true,true,false,false,false,false,false,false,false,false,false,false,false,false,false,false,false,false,false,false,false,false,false,false,false,false,false,false,false,false,false,false,false,false,false,false] hf2
    have hCev:=cmC_eq Pd Q6 (.sl (enL cU (A7 (val la))) .no) (.ptr H.length 0 0) (.ptr (H.length+1) 0 0) HB
    obtain ⟨tm3,hl3,g0,g3,g4,hres⟩:=cmC_res Pd Q6 (val la) (val lb) .no .no H hlA hlB
    have fin2:∀(z:Int) (HX:Aa) (E3:Env) (W:World),HX=H++[.cel 0 [.sl (enL cU (A7 (val lb))) .no]]++[.cel 0 [.int .i64 z]]→Sim E3 HX W→BH E H w E3 HX W→∃E',I9 E' (.ret (.int .i64 z)) (.returned (.int .i64 z))∧Sim E' H W∧BH E H w E' H W:=by
     intro z HX E3 W hHX hsim hst
     have hfin:fin .pure H (.ret (.int .i64 z)) HX=some (.ret (.int .i64 z),H):=by
      have:rP H (.int .i64 z) HX=some (.ret (.int .i64 z),H):=by rw [hHX,Vb];exact Ii
      exact this
     obtain ⟨E',q1,q2,q3⟩:=fin_ok (r:=.ret (.int .i64 z)) (e:=.returned (.int .i64 z)) hs hst hsim (show I9 E3 _ _ from Ax.int _ _) hfin
     exact ⟨E',q1,q2,q3⟩
    rw [←hHB]at hres
    rw [hres,←ev_eq]at hCev
    by_cases hlen:(A7 (val la)).length=(A7 (val lb)).length
    ·rw [if_pos hlen]at hCev
     refine wpIn_seq (wpIn_mono (wpIn_wide.2 (S2 hC hD cdC _ (kK Pd Q6) E2 _ HB a2 w2 hG2 (hHB ▸ st2) hf2' hCev)) ?_)
     rintro e3 a3 w3 ⟨E3,H3,tm4,x3,hG3,st3,hf3,hx3,hk3⟩
     obtain ⟨rfl,rfl,hHH⟩:=rec_n hk3
     rw [hHH]at hf3 st3
     cases e3 <;> first | exact hx3.elim | skip
     have hl39:a3.tmps.toList.length=39:=by rw [←hf3.rel.1];exact hf3.len
     obtain ⟨ts,ds⟩:=a3
     obtain ⟨t0,t1,t2,t3,t4,t5,t6,t7,t8,t9,t10,t11,t12,t13,t14,t15,t16,t17,t18,t19,t20,t21,t22,t23,t24,t25,t26,t27,t28,t29,t30,t31,t32,t33,t34,t35,t36,t37,t38,hts⟩:=lit39 ts hl39
     have hds:ds=[]:=hf3.defers
     subst hds
     subst hts
     obtain ⟨u0,p0,r0⟩:=hf3.rel.get g0
     obtain ⟨u3,p3,r3⟩:=hf3.rel.get g3
     obtain ⟨u4,p4,r4⟩:=hf3.rel.get g4
     obtain rfl:t0=u0:=by simpa using p0
     obtain rfl:t3=u3:=by simpa using p3
     obtain rfl:t4=u4:=by simpa using p4
     have hsim:=hf3.sim
     obtain ⟨bA,f3,rfl⟩:=r3.ptr_inv
     obtain ⟨R,f4,rfl⟩:=r4.ptr_inv
     have e1:HB[H.length]? = some (.cel 0 [.sl (enL cU (A7 (val lb))) .no]):=by rw [hHB];simp
     have e2:HB[H.length+1]? = some (.cel 0 [.int .i64 0]):=by rw [hHB];simp
     obtain ⟨b0,c0,y0,q0,q1,q2,_⟩:=hsim.blk _ _ e1
     obtain ⟨b1,c1,y1,q4,q5,q6,_⟩:=hsim.blk _ _ e2
     rw [f3]at q0
     rw [f4]at q4
     cases q0
     cases q4
     obtain ⟨vb3,rfl,rb⟩:=one_of q2
     obtain ⟨vr3,rfl,rr⟩:=one_of q6
     have hvr:=QM rr
     subst hvr
     have hw0:bA<w3.heap.size:=(VK.1 q1).1
     have hwR:R<w3.heap.size:=(VK.1 q5).1
     obtain ⟨ao,ba,oa,ca,rfl,hao,hba,hca⟩:=sl_view hsim r0 (by omega)
     obtain ⟨bo,bb,ob,cb,rfl,hbo,hbb,hcb⟩:=sl_view hsim rb (by omega)
     rw [←hlen]at hbo hcb q1
     refine cmp_tail (n:=(A7 (val la)).length) (Va 3) bA R bb ob cb ba oa ca ao bo (fun j=>(A7 (val la))[j]?.getD 0) (fun j=>(A7 (val lb))[j]?.getD 0) hlA hao hbo hw0 hwR hba hbb (by rw [Bj q1];rfl) ⟨y1,q5⟩ hca hcb (fun z W hg hbel=>?_) _ rfl t1 t2 t5 t6 t7 t8 t9 t10 t11 t12 t13 t14 t15 t16 t17 t18 t19 t20 t21 t22 t23 t24 t25 t26 t27 t28 t29 t30 t31 t32 t33 t34 t35 t36 t37 t38
     have hz:=good_val hlen hg
     have hst:Ag 1 (.ptr (H.length+1) 0 0) (.int .i64 z) HB=some (H++[.cel 0 [.sl (enL cU (A7 (val lb))) .no]]++[.cel 0 [.int .i64 z]]):=by
      rw [JV e2 rfl (by simp),hHB]
      congr 1
      rw [V8 _ _ (by simp)]
      simp
     obtain ⟨b',o',cs',tt',w1',w2',w3',w4',w5',w6',w7'⟩:=Lr hsim (.ptr f4) (.int .i64 z) hst
     injection w1' with w1'
     injection w1' with w1'
     injection w1' with w1a w1b
     subst w1a
     subst w1b
     have hce:(Value.int .i64 z).cells.toList=[Value.int .i64 z]:=rfl
     rw [hce,setCells_one]at w6' w7'
     have hext:=w6'.ext (.refl E3) (fun _ _ _ h=>h) (fun _ _ _ h=>h) (fun b hb=>hbel.block b (by rw [EZ]at hb;exact hb)) (fun _ _=>rfl) (fun b o v hv hb=>by have:=w6'.imm_lt hv;omega) hbel.os hbel.tape hbel.output hbel.size
     obtain ⟨E',k1',k2',k3'⟩:=fin2 z _ E3 W rfl hext.1 ((st3.trans w7').trans hext.2)
     refine ⟨E',?_,k2',k3'⟩
     rw [←hz]
     exact k1'
    ·rw [if_neg hlen]at hCev
     refine wpIn_seq (wpIn_mono (wpIn_wide.2 (S2 hC hD cdC _ (kK Pd Q6) E2 _ HB a2 w2 hG2 (hHB ▸ st2) hf2' hCev)) ?_)
     rintro e3 a3 w3 ⟨E3,H3,tm4,x3,hG3,st3,hf3,hx3,hk3⟩
     obtain ⟨rfl,rfl,rfl⟩:=rec_r hk3
     cases e3 <;> first | exact hx3.elim | skip
     have hz:=len_val hlen
     have hra:Fx Tp Tryz.f156.results.toList tm4 (H++[.cel 0 [.sl (enL cU (A7 (val lb))) .no]]++[.cel 0 [.int .i64 (if (A7 (val la)).length<(A7 (val lb)).length then -1 else 1)]])=some (.int .i64 (if (A7 (val la)).length<(A7 (val lb)).length then -1 else 1)):=by
      have hrs:Tryz.f156.results.toList=[.cell 4 3]:=by kernel_rfl
      have hld:Ac false 1 (.ptr (H.length+1) 0 0) (H++[Blk.cel 0 [.sl (enL cU (A7 (val lb))) .no]]++[.cel 0 [.int .i64 (if (A7 (val la)).length<(A7 (val lb)).length then -1 else 1)]])=some (.int .i64 (if (A7 (val la)).length<(A7 (val lb)).length then -1 else 1)):=by
       simp only [Ac,AA (show (H++[Blk.cel 0 [.sl (enL cU (A7 (val lb))) .no]]++[Blk.cel 0 [.int .i64 (if (A7 (val la)).length<(A7 (val lb)).length then -1 else 1)]])[H.length+1]? = some (.cel 0 [.int .i64 (if (A7 (val la)).length<(A7 (val lb)).length then -1 else 1)])by simp),Option.bind_some]
       rfl
      rw [hrs]
      show HI Tp tm4 _ (.cell 4 3)=_
      have hd4:tm4.getD 4 .undef=.ptr (H.length+1) 0 0:=by rw [UZ,g4];rfl
      have hok:okT Tp.P 3=true:=by kernel_rfl
      have hagg:B6 Tp.P 3=false:=by kernel_rfl
      have hsz:Aq Tp.P 3=1:=by kernel_rfl
      simp only [HI,hok,hagg,hsz,hd4,VX,Vd,if_false]
      exact hld
     obtain ⟨v,r1,r2⟩:=R8 (fn:=Tryz.f156) hf3 hra
     have hv3:=QM r2
     subst hv3
     show LeavesInM _ _ _ _ _ _ a3.defers _ _
     rw [hf3.defers]
     show LeavesIn _ _ _ _ _ _ [] _ _
     refine ⟨_,r1,?_⟩
     obtain ⟨E',q1,q2,q3⟩:=fin2 _ _ E3 w3 rfl hf3.sim st3
     refine ⟨E',?_,q2,q3⟩
     rw [←hz]
     exact q1
   ·cases h
  ·cases h
 ·cases h
open Go.Proofs Go.RowKit Go.Shelf
theorem dig1 (x:Nat) (H:Aa):Sh.f6h (.int .i32 x) H=some (.ret (.bool (KT x)),H):=by
 unfold Sh.f6h KT
 by_cases h:x<48
 ·have h':(x:Int)<48:=by omega
  simp [h,h']
 ·have h':¬(x:Int)<48:=by omega
  by_cases h2:57<x
  ·have h2':(57:Int)<x:=by omega
   simp [h,h',h2,h2']
  ·have h2':¬(57:Int)<x:=by omega
   simp [h,h',h2,h2']
theorem Kz:AH Tryz.prog Gs 234 (ap2 Sh.f1y):=by
 intro args H res H' h
 unfold ap2 at h
 split at h
 ·unfold Sh.f1y at h
  split at h
  ·rename_i s
   cases h
   refine lib_ok Tryz.func234 (by kernel_rfl) fun E w vs hG hs hv=>?_
   obtain ⟨v,u,rfl,h1,h2⟩:=args2 hv
   rw [val_str h1]
   have hu:u=.func (.func 235) #[] #[]:=by
    cases h2 with
    | @fn _ _ vs' hn' hv'=>exact congrArg _ (Array.eq_empty_of_size_eq_zero hn'.symm)
   rw [hu]
   refine ⟨_,.int _ _,Tryz.strings_IndexFunc_grows 235 #[] (fun a w=>Ff Tryz.func235 (by kernel_rfl) (by kernel_rfl) a w) KT ⟨s.toArray⟩ w fun W x hx hb=>?_⟩
   refine (fn_calls OK Tryz.func235 (by kernel_rfl) (fun _ _ h=>nomatch h) (TK hs hb).1 (args:=[.int .i32 x]) (A4.cons (.int _ _) (A4.nil _)) (dig1 x [])).mono fun e w' ⟨⟨E',he⟩,hw⟩=>⟨?_,hw⟩
   cases e with
   | returned v=>rw [Ax.bool_inv he]
   | panicked c=>exact he.elim
   | outgrown=>exact he.elim
  ·cases h
 ·cases h
theorem K0:AH Tryz.prog Gs 177 (ap2 Sh.f1z):=by
 intro args H res H' h
 unfold ap2 at h
 split at h
 ·unfold Sh.f1z at h
  split at h
  ·rename_i s c
   cases h
   refine lib_ok Tryz.func177 (by kernel_rfl) fun E w vs hG hs hv=>?_
   obtain ⟨v,u,rfl,h1,h2⟩:=args2 hv
   rw [val_str h1,QM h2]
   exact ⟨_,.int _ _,(Tryz.strings_IndexByte ⟨s.toArray⟩ c w).mono fun e w' ⟨he,hw⟩=>⟨by simpa using he,hw ▸ Below.refl _ _⟩⟩
  ·cases h
 ·cases h
end Go.Gm
namespace Go.Proofs
open Go.RowKit
set_option maxRecDepth 10000 in
theorem Tryz.catch_panicking6 (p:Addr) (c0 c1:Value) (older:List PanicEntry) (w:World) {wa w1:World} (hs0:Sem.run Tryz.prog (store p c0) w=.ok () wa) (hs1:Sem.run Tryz.prog (store { block:=p.block,off:=p.off+1 } c1) wa=.ok () w1) :
  CallsD Tryz.prog 78 #[.pointer (some p)] (.panicking ({ v:=.iface 70 (.agg #[c0,c1]),recovered:=false }::older)) w fun e u' w'=>
   e=.returned (.tuple #[])∧u'=.panicking ({ v:=.iface 70 (.agg #[c0,c1]),recovered:=true }::older)∧w'=w1:=by
 have hta:Sem.run Tryz.prog (Instr.typeAssert (.iface 70 (.agg #[c0,c1])) 20 70 false) w=.ok (.agg #[c0,c1]) w:=by
  kernel_rfl
 refine callsD_of_wpS Tryz.func78 rfl fun c₀ cs hu=>?_
 apply wpS_seq
 apply wpS_region
 simp [wpOpsS,go_sem,recoverD,hu,Tryz.ntmps78,Exit.thenS]
 apply wpS_seq
 apply wpS_region
 simp [wpOpsS,go_sem,Exit.thenS]
 refine wpS_cond (t:=true) (by simp [Act.eval,Array.replicate]) ?_
 simp only [if_true]
 apply wpS_region
 simp [wpOpsS,go_sem,bodyPostS,results,Tryz.results78,hta,hs0,hs1]
set_option maxRecDepth 10000 in
theorem Tryz.catch_idle6 (p:Addr) (w:World) :
  CallsD Tryz.prog 78 #[.pointer (some p)] .returning w fun e u' w'=>e=.returned (.tuple #[])∧u'=.returning∧w'=w:=by
 refine callsD_of_wpS Tryz.func78 rfl fun c₀ cs hu=>?_
 apply wpS_seq
 apply wpS_region
 simp [wpOpsS,go_sem,recoverD,hu,Tryz.ntmps78,Exit.thenS]
 apply wpS_seq
 apply wpS_region
 simp [wpOpsS,go_sem,Exit.thenS]
 refine wpS_cond (t:=false) (by simp [Act.eval,Array.replicate]) ?_
 simp only [Bool.false_eq_true,if_false]
 refine wpS_of_wp (wp_skip ?_)
 cases c₀
 simp_all [bodyPostS,results,Tryz.results78]
end Go.Proofs
namespace Go.Proofs
open Go.RowKit
theorem Tryz.box_cells6 {w:World} {b:Nat} {x0 x1:Value} {t:TypeId} (hbox:w.heap[b]? = some (.cells #[x0,x1] t (0,0))) (y0 y1:Value) :
  (w.setCell ⟨b,0,none⟩ y0).cell? ⟨b,1,none⟩=some x1∧(w.setCell ⟨b,0,none⟩ y0).frozen? ⟨b,1,none⟩=false ∧
   ((w.setCell ⟨b,0,none⟩ y0).setCell ⟨b,1,none⟩ y1).cell? ⟨b,0,none⟩=some y0∧((w.setCell ⟨b,0,none⟩ y0).setCell ⟨b,1,none⟩ y1).cell? ⟨b,1,none⟩=some y1:=by
 have sz:b<w.heap.size:=by
  rcases Nat.lt_or_ge b w.heap.size with h | h
  ·exact h
  ·rw [Array.getElem?_eq_none h]at hbox;cases hbox
 have hx:w.heap[b]=.cells #[x0,x1] t (0,0):=by
  rw [Array.getElem?_eq_getElem sz]at hbox;exact Option.some.inj hbox
 refine ⟨?_,?_,?_,?_⟩ <;> simp [World.cell?,World.frozen?,World.setCell,hx,sz,Array.getElem_modify]
set_option maxRecDepth 10000 in
set_option maxHeartbeats 1000000 in
theorem Tryz.caught_in6 (g:Nat) (caps:Array Value) (w:World) (eg:∀args w,(callFunc g args).run Tryz.prog w=.ok (.enter g args) w) {R:Ending→World→Prop}
  (hj:Calls Tryz.prog g caps (w.alloc (.cells #[.int .i64 0,.string ⟨#[]⟩] 70)) R)
  (hR:∀e w2,R e w2→(∃t c0 c1,w2.heap[w.heap.size]? = some (.cells #[c0,c1] t (0,0)))∧((∃v,e=.returned v)∨∃c0 c1,Value.oneCell' c0=true∧Value.oneCell' c1=true∧e=.panicked [{ v:=.iface 70 (.agg #[c0,c1]),recovered:=false }])) :
  Calls Tryz.prog 37 #[.func (.func g) caps #[]] w fun e w'=>∃e2 w2,R e2 w2∧∃c0 c1,e=.returned (.agg #[c0,c1])∧w'=(w2.setCell ⟨w.heap.size,0,none⟩ c0).setCell ⟨w.heap.size,1,none⟩ c1 ∧
   ((∃v,e2=.returned v∧c0=.int .i64 0∧c1=.string ⟨#[]⟩)∨e2=.panicked [{ v:=.iface 70 (.agg #[c0,c1]),recovered:=false }]):=by
 have hmf:∀(fn:Fn) (first cap:Array Value) (w:World),(Instr.makeFunc fn first cap).run Tryz.prog w=.ok (.func fn first cap) w:=fun _ _ _ _=>rfl
 go_enter_defers Tryz.func37,Tryz.ntmps37
 go_wp2
 refine hj.mono ?_
 rintro e w2 hr
 obtain ⟨⟨t,x0,x1,hbox⟩,h⟩:=hR _ _ hr
 have c0:w2.cell? ⟨w.heap.size,0,none⟩=some x0:=by simp [World.cell?,hbox]
 have c1:w2.cell? ⟨w.heap.size,1,none⟩=some x1:=by simp [World.cell?,hbox]
 have f0:w2.frozen? ⟨w.heap.size,0,none⟩=false:=by simp [World.frozen?,hbox]
 have f1:w2.frozen? ⟨w.heap.size,1,none⟩=false:=by simp [World.frozen?,hbox]
 have K:=fun y0 y1=>Tryz.box_cells6 (w:=w2) hbox y0 y1
 rcases h with ⟨v,rfl⟩ | ⟨y0,y1,o0,o1,rfl⟩
 ·obtain ⟨k1,k2,k3,k4⟩:=K (.int .i64 0) (.string ⟨#[]⟩)
  go_wp2
  refine leaves_cons (f:=78) (args:=#[.pointer (some ⟨w.heap.size,0,none⟩)]) (by simp) (by simp [go_sem]) ?_
  refine (Tryz.catch_idle6 ⟨w.heap.size,0,none⟩ _).mono ?_
  rintro e u' w'' ⟨rfl,rfl,rfl⟩
  simp [Leaves,settle,results,Tryz.results37,go_sem,k3,k4]
  exact ⟨_,_,hr,_,_,⟨rfl,rfl⟩,rfl,Or.inl ⟨⟨_,rfl⟩,rfl,rfl⟩⟩
 ·obtain ⟨k1,k2,k3,k4⟩:=K y0 y1
  refine leaves_cons (f:=78) (args:=#[.pointer (some ⟨w.heap.size,0,none⟩)]) (by simp) (by simp [go_sem]) ?_
  refine (Tryz.catch_panicking6 ⟨w.heap.size,0,none⟩ y0 y1 [] _ (wa:=w2.setCell ⟨w.heap.size,0,none⟩ y0) (w1:=(w2.setCell ⟨w.heap.size,0,none⟩ y0).setCell ⟨w.heap.size,1,none⟩ y1) ?_ ?_).mono ?_
  ·rw [run_store _ _ _ _ _ o0];simp [c0,f0]
  ·rw [run_store _ _ _ _ _ o1];simp [k1,k2]
  rintro e u' w'' ⟨rfl,rfl,rfl⟩
  simp [Leaves,settle,results,Tryz.results37,go_sem,k3,k4]
  exact ⟨_,_,hr,_,_,⟨rfl,rfl⟩,rfl,Or.inr rfl⟩
end Go.Proofs
namespace Go.Gm
open Go.Proofs Go.RowKit
theorem Sim.aside6 {E:Env} {H:Aa} {w w':World} (hs:Sim E H w) {b:Nat} (h1:¬My E H b) (h2:∀o,E.I b o=none) (hh:∀x,x≠b→w'.heap[x]? = w.heap[x]?):Sim E H w':=by
 have ne:∀id b',loc E H id=some b'→b'≠b:=fun id b' hl e=>h1 ⟨id,e ▸ hl⟩
 constructor
 ·intro id B hB
  refine ((hs.blk id B hB).keep (.refl E) (fun b' hl=>hh b' (ne id b' ?_)) (fun _ _=>rfl)).1
  unfold loc;rw [hB];exact hl
 ·exact hs.dom
 ·exact hs.domk
 ·exact hs.late
 ·exact hs.inj
 ·intro b' o v hv
  have hne:b'≠b:=fun e=>by rw [e,h2 o]at hv;cases hv
  have:=hs.imm b' o v hv
  simp only [World.cell?]at this ⊢
  rw [hh b' hne];exact this
 ·intro b' cs hf
  obtain ⟨⟨t,fr,k1⟩,⟨v,k2⟩,k3⟩:=hs.fix b' cs hf
  have hne:b'≠b:=fun e=>by rw [e,h2 0]at k2;cases k2
  exact ⟨⟨t,fr,by rw [hh b' hne];exact k1⟩,⟨v,k2⟩,k3⟩
theorem Tz {orc:Orc} (ho:G6 Tryz.prog Gs orc):AH Tryz.prog Gs 37 (ap1 (OH orc)):=by
 intro args H res H' h
 unfold ap1 at h
 split at h
 case h_2=>cases h
 rename_i job
 unfold OH at h
 split at h
 case h_2=>cases h
 rename_i caps
 cases hr:orc 38 caps H with
 | none=>rw [hr]at h;cases h
 | some r=>
  obtain ⟨r,H1⟩:=r
  rw [hr]at h
  cases hc:Rl r with
  | none=>simp [hc]at h
  | some x=>
   have hx:Res.ret x=res∧H1=H':=by simpa [hc]using h
   obtain ⟨rfl,rfl⟩:=hx
   intro E w vs hG hs hv
   obtain ⟨v,rfl,h1⟩:=args1 hv
   cases h1 with
   | bfn hn hcv=>
    rename_i cv
    obtain ⟨s1,st1⟩:=hs.laid (.cells #[.int .i64 0,.string ⟨#[]⟩] 70)
    have hcs:A4 E caps cv.toList:=⟨by simpa using hn,fun i c u hi hu=>hcv i c u hi (by simpa using hu)⟩
    obtain ⟨b1,b2,b3⟩:=F3 (show fnB 0 Tryz.f38=true by kernel_rfl)
    obtain ⟨d1,d2,d3⟩:=F3 (show fnB 0 Tryz.f37=true by kernel_rfl)
    have f38:Tryz.prog.funcs[38]? = some Tryz.f38:=Tryz.func38
    have f37:Tryz.prog.funcs[37]? = some Tryz.f37:=Tryz.func37
    have nb:¬My E H w.heap.size:=hs.free_new
    have lt:w.heap.size<(w.alloc (.cells #[.int .i64 0,.string ⟨#[]⟩] 70)).heap.size:=by simp [World.alloc,-World.alloc_eq]
    rcases ho 38 caps H r H1 hr E _ cv hG s1 hcs with ⟨_,hj⟩ | ⟨v,w',h1,_⟩
    ·refine .inl ⟨Ff f37 d1 d2 _ w,?_⟩
     have hj':=Tryz.caught_in6 38 cv w (fun a w=>Ff f38 b1 b2 a w) hj ?_
     ·refine hj'.mono ?_
      rintro e w' ⟨e2,w2,⟨E',k1,k2,k3⟩,c0,c1,rfl,rfl,hcase⟩
      have no:¬My E' H1 w.heap.size:=fun ho=>(k3.own _ ho).elim nb (fun h=>by omega)
      have ni:∀o,E'.I w.heap.size o=none:=fun o=>by rw [k3.imm _ o lt nb];exact hs.imm_new o
      have hh:∀b,b≠w.heap.size→((w2.setCell ⟨w.heap.size,0,none⟩ c0).setCell ⟨w.heap.size,1,none⟩ c1).heap[b]? = w2.heap[b]? := fun b hb=>by
       simp [World.setCell,WE,Ne.symm hb]
      have st2:=st1.trans k3
      refine ⟨E',?_,k2.aside6 no ni hh,st2.le,st2.os,st2.tape,st2.output,?_,fun b hb ho=>?_,st2.own,st2.imm⟩
      ·rcases hcase with ⟨v,rfl,rfl,rfl⟩ | rfl
       ·cases r with
        | ret y=>cases hc;exact Ax.agg rfl (by intro i c v hi hv;match i with
          | 0=>simp at hi hv;subst hi;subst hv;exact .int _ _
          | 1=>simp at hi hv;subst hi;subst hv;exact .str []
          | _+2=>simp at hi)
        | pan y=>exact absurd k1 id
       ·cases r with
        | ret y=>exact absurd k1 id
        | pan y=>
         obtain ⟨v,hv1,hv2⟩:=k1
         cases hv1
         unfold Rl at hc
         split at hc
         ·rename_i heq;cases heq
         ·rename_i heq;cases heq;cases hc;cases hv2 with
          | iface h=>exact h
         ·cases hc
      ·simpa [World.setCell]using st2.size
      ·rw [hh b (by omega)];exact st2.frame b hb ho
     ·rintro e w2 ⟨E',k1,k2,k3⟩
      refine ⟨⟨70,_,_,by rw [k3.frame _ lt nb];exact World.heap_new w _⟩,?_⟩
      cases r with
      | ret y=>cases e with
       | returned v=>exact .inl ⟨v,rfl⟩
       | _=>exact absurd k1 id
      | pan y=>cases e with
       | panicked ch=>
        obtain ⟨v,rfl,hv2⟩:=k1
        unfold Rl at hc
        split at hc
        ·rename_i heq;cases heq
        ·rename_i heq;cases heq;cases hv2 with
         | iface h=>cases h with
          | agg hn hv => 
           rename_i n s vs
           obtain ⟨l⟩:=vs
           match l,hn,hv with
           | [a,b],hn,hv=>
            have h0:=hv 0 _ a rfl rfl
            have h1:=hv 1 _ b rfl rfl
            cases h0;cases h1
            exact .inr ⟨_,_,rfl,rfl,rfl⟩
        ·cases hc
       | _=>exact absurd k1 id
    ·rw [Ff f38 b1 b2]at h1;cases h1
open Go.Proofs
set_option maxRecDepth 100000
theorem Lf:AH Tryz.prog Gs 16 (ap0 Sh.fq):=mk0 .pure (Ar _ _) [] Tryz.func16
theorem QA:AH Tryz.prog Gs 77 (ap2 Sh.f3d):=mk2 .keep (Ar _ _) [] Tryz.func77
theorem OJ:AH Tryz.prog Gs 36 (ap1 Sh.f3e):=mk1 .pure ((Af QA (Ar _ _))) [] Tryz.func36
theorem PO:AH Tryz.prog Gs 134 (ap2 Sh.f3f):=mk2 .keep (Ar _ _) [[0,1,5,12,13],[]] Tryz.func134
theorem C2:AH Tryz.prog Gs 81 (ap1 Sh.fr):=mk1 .keep (Ar _ _) [[]] Tryz.func81
theorem Di:AH Tryz.prog Gs 135 (ap2 Sh.f9):=mk2 .keep ((Af C2 (Ar _ _))) [[1000000]] Tryz.func135
theorem GC:AH Tryz.prog Gs 79 (ap3 Sh.f12):=mk3 .keep ((Af PO ((Af Di (Ar _ _))))) [[]] Tryz.func79
theorem E5:AH Tryz.prog Gs 136 (ap2 Sh.fi):=mk2 .keep ((Af C2 ((Af K0 (Ar _ _))))) [[]] Tryz.func136
theorem Mg:AH Tryz.prog Gs 80 (ap2 Sh.fs):=mk2 .keep ((Af C2 ((Af E5 ((Af Di (Ar _ _))))))) [[1000003,0,1],[1000006,0]] Tryz.func80
theorem SO:AH Tryz.prog Gs 194 (ap1 Sh.f3g):=mk1 .keep (Ar _ _) [] Tryz.func194
theorem Le:AH Tryz.prog Gs 137 (ap2 Sh.f20):=mk2 .keep ((Af C2 ((Af SO ((Af Di (Ar _ _))))))) [[0,1,5],[],[1000006,0,5],[]] Tryz.func137
theorem K3:AH Tryz.prog Gs 195 (ap1 Sh.f3h):=mk1 .keep (Ar _ _) [] Tryz.func195
theorem I6:AH Tryz.prog Gs 232 (ap2 Sh.f3i):=mk2 .keep (Ar _ _) [] Tryz.func232
theorem I7:AH Tryz.prog Gs 233 (ap2 Sh.f6m):=mk2 .keep ((Af I6 (Ar _ _))) [] Tryz.func233
theorem K1:AH Tryz.prog Gs 224 (ap2 Sh.f3j):=mk2 .keep ((Af I7 (Ar _ _))) [] Tryz.func224
theorem QF:AH Tryz.prog Gs 225 (ap2 Sh.f3k):=mk2 .keep ((Af Kz (Ar _ _))) [] Tryz.func225
theorem Tu:AH Tryz.prog Gs 226 (ap3 Sh.f3l):=mk3 .pureN ((Af D7 (Ar _ _))) [[0,1,7,8,17,18,19]] Tryz.func226
theorem SR:AH Tryz.prog Gs 196 (ap1 Sh.f3n):=mk1 .pureN ((Af K1 ((Af Tu ((Af QF (Ar _ _))))))) [[1000003,2,4,5,14],[2,5,6,36]] Tryz.func196
theorem JD:AH Tryz.prog Gs 138 (ap3 Sh.f22):=mk3 .keepN ((Af E5 ((Af Di ((Af K3 ((Af SR (Ar _ _))))))))) [[1000002,0,2,6,7],[0,2,6,7,8],[1000013,0,2,6,7,8],[1000018,0,6,7],[0,1,2,3,4,5,6,7,8,9,10,11,12,14,15,13,16]] Tryz.func138
theorem K2:AH Tryz.prog Gs 82 (ap1 Sh.f3r):=mk1 .keep ((Af E5 ((Af GC ((Af Le ((Af JD (Ar _ _))))))))) [[1,2,3,4,5,6,7,8,9,0,10,11,12]] Tryz.func82
theorem Ld:AH Tryz.prog Gs 38 (ap1 Sh.f1d):=mk1 .keep ((Af GC ((Af Mg ((Af C2 ((Af K2 (Ar _ _))))))))) [[0]] Tryz.func38
theorem Ja:AH Tryz.prog Gs 37 (ap1 Sh.f23):=Tz ((Af Ld (Ar _ _)))
theorem Jb:AH Tryz.prog Gs 148 (ap1 Sh.f24):=mk1 .pure (Ar _ _) [] Tryz.func148
theorem SS:AH Tryz.prog Gs 85 (ap1 Sh.f25):=mk1 .pure ((Af KU (Ar _ _))) [] Tryz.func85
theorem QI:AH Tryz.prog Gs 84 (ap1 Sh.f3t):=mk1 .pure ((Af SS (Ar _ _))) [] Tryz.func84
open Go.Proofs
set_option maxRecDepth 100000
noncomputable def Et:Orc:=AG
theorem Ep:T2 Tryz.prog Gs false Et Tryz.f139 (.tw .lf (.tw (.tw .lf (.one (.loop [0,1,7,8] (.tw .lf (.tw (.tw .lf .lf) (.tw (.one (.tw .lf (.tw .lf (.tw (.tw .lf .lf) .lf)))) .lf)))))) (.tw .lf .lf))) .keep Sh.fa:=by unfold T2;intros;kernel_rfl
theorem C1:AH Tryz.prog Gs 139 (ap2 Sh.fa):=PA mixed ((Af Jb ((Af QI (Ar _ _))))) Tryz.func139 (by kernel_rfl) Ep
theorem DB:AH Tryz.prog Gs 83 (ap2 Sh.f3u):=mk2 .keep ((Af C1 (Ar _ _))) [] Tryz.func83
theorem ES:AH Tryz.prog Gs 141 (ap1 Sh.f3v):=mv1 .keep (Ar _ _) [] Tryz.func141
theorem E4:AH Tryz.prog Gs 142 (ap1 Sh.f1e):=mk1 .keep (Ar _ _) [[0,2,3],[0,1,4,5,6,7,8,9,10,11,12,13,2,3,14,15]] Tryz.func142
theorem call_big_Cmp:AH Tryz.prog Gs 199 (ap2 Sh.f27):=mk2 .pure ((Af Jp (Ar _ _))) [] Tryz.func199
theorem PR:AH Tryz.prog Gs 198 (ap1 Sh.f3w):=mk1 .keep (Ar _ _) [[3,6,7,8]] Tryz.func198
theorem GR:AH Tryz.prog Gs 144 (ap2 Sh.f1f):=mk2 .pure ((Af call_big_Cmp ((Af PR (Ar _ _))))) [[]] Tryz.func144
noncomputable def Es:Orc:=AB
theorem Eo:T4 Tryz.prog Gs false Es Tryz.f227 (.tw .lf (.one (.loop [0,1,2,3,8] (.tw (.tw .lf (.tw .lf .lf)) (.tw (.one (.tw .lf (.one (.loop [0,1,2,3,8,9] (.tw (.tw (.reg [0,1,2,3,4,5,6,7,8,9,10,11,12,13,14,15,16]) (.tw .lf .lf)) (.tw (.one (.reg [0,1,5,6,7,8,9,10,11,12,13,14,15,2,3,4,16,17])) .lf)))))) .lf))))) .keep Sh.fk:=by unfold T4;intros;kernel_rfl
theorem Ej:AH Tryz.prog Gs 227 (ap4 Sh.fk):=fn_ok4 mixed ((Af GR (Ar _ _))) Tryz.func227 (by kernel_rfl) Eo
theorem EQ:AH Tryz.prog Gs 240 (ap5 Sh.f1g):=mk5 .keep (Ar _ _) [[0,1,2,3,10],[0,1,2,3,8,9,10,11,12,13,14,15,16,17,18,19,20,21,4,5,6,7,22,23]] Tryz.func240
theorem F6:AH Tryz.prog Gs 236 (ap5 Sh.f28):=mk5 .keep ((Af EQ (Ar _ _))) [[0,2,4,10,11]] Tryz.func236
noncomputable def Fo (m:Nat):Orc:=Bf (Sh.f3 m)
theorem Fk (m:Nat):T5 Tryz.prog Gs false (Fo m) Tryz.f228 (.tw (.tw .lf (.tw (.tw .lf (.tw .lf (.tw (.one (.loop [0,1,4,10,11] (.tw (.tw .lf (.tw .lf .lf)) (.one (.tw .lf (.tw (.reg [0,1,2,3,4,5,6,7,8,9,10]) (.tw .lf .lf))))))) (.tw (.tw .lf (.one (.loop [0,10,13] (.tw (.tw .lf (.tw .lf .lf)) (.tw (.one (.reg [0,1,5,6,7,8,9,10,11,12,13,14,15,2,3,4,16,17])) .lf))))) .lf)))) .lf)) (.tw (.tw .lf (.tw (.tw .lf (.tw .lf (.tw (.one (.loop [0,2,4,14,15] (.tw (.tw .lf (.tw .lf .lf)) (.one (.tw .lf (.tw (.reg [0,1,2,3,4,5,6,7,8,9,10,11]) (.tw .lf .lf))))))) (.tw (.tw .lf (.one (.loop [0,14,17] (.tw (.tw .lf (.tw .lf .lf)) (.tw (.one (.reg [0,1,5,6,7,8,9,10,11,12,13,14,15,2,3,4,16,17])) .lf))))) .lf)))) .lf)) (.tw .lf (.tw .lf (.tw .lf (.join [0,1,2,3,4,18,19,20,21] (.tw .lf (.tw (.tw .lf .lf) (.tw .lf .lf))) (.tw .lf (.tw (.one (.loop [0,1,2,3,4,18,19,20,21,22] (.tw (.tw .lf (.tw .lf .lf)) (.one (.tw .lf (.tw (.reg [0,1,2,3,4,5,6,7,8,9,10,11,12,13]) (.tw .lf .lf))))))) (.tw .lf (.join [0,1,3,4,18,20,24] (.tw .lf (.tw .lf .lf)) (.join [0,3,4,18,24] (.tw .lf (.tw .lf .lf)) (.tw .lf (.tw .lf .lf))))))))))))) .keep (Sh.f3 (m+1)):=by unfold T5;intros;kernel_rfl
theorem CM:∀m,AH Tryz.prog Gs 228 (ap5 (Sh.f3 m))
 | 0=>Oa fun _ _ _ _ _ _=>rfl
 | m+1=>Su mixed (Af (CM m) ((Af GR ((Af F6 (Ar _ _)))))) Tryz.func228 (by kernel_rfl) (Fk m)
theorem F5:AH Tryz.prog Gs 197 (ap3 Sh.f1m):=mk3 .keep ((Af Ej ((Af (CM AQ) (Ar _ _))))) [[0,1,2,6,7,8],[0,1,2,6],[0,1,2,6,7,8],[1000019,0,1,2,6]] Tryz.func197
theorem Dz:AH Tryz.prog Gs 143 (ap2 Sh.f1n):=mk2 .keep ((Af F5 (Ar _ _))) [] Tryz.func143
theorem OL:AH Tryz.prog Gs 146 (ap2 Sh.f42):=mk2 .pure ((Af GR (Ar _ _))) [] Tryz.func146
noncomputable def DS:Orc:=AL
theorem DQ:T2 Tryz.prog Gs false DS Tryz.f145 (.tw .lf (.tw (.tw .lf (.tw (.tw .lf .lf) .lf)) (.tw (.tw .lf (.one (.loop [0,1,5] (.tw (.tw .lf (.tw .lf .lf)) (.tw (.one (.tw (.reg [0,1,2,3,4,5,6,7,8,9,10]) (.tw (.tw .lf (.tw (.tw .lf (.one (.loop [0,1,5,6,7] (.tw (.tw .lf (.tw .lf .lf)) (.join [0,1,5,6,7] (.one (.tw (.reg [0,1,2,3,4,5,6,7,8,9,10,11]) (.tw (.tw .lf .lf) .lf))) .lf))))) (.tw .lf (.tw .lf .lf)))) .lf))) .lf))))) (.tw .lf .lf)))) .keepN Sh.f14:=by unfold T2;intros;kernel_rfl
theorem DP:AH Tryz.prog Gs 145 (ap2 Sh.f14):=PA mixed ((Af OL (Ar _ _))) Tryz.func145 (by kernel_rfl) DQ
noncomputable def Ea:Orc:=Bd
theorem DX:T2 Tryz.prog Gs false Ea Tryz.f147 (.tw .lf (.tw .lf (.tw (.tw .lf (.tw (.tw .lf .lf) .lf)) (.tw (.tw .lf (.one (.loop [0,1,5,6] (.tw (.tw .lf (.tw .lf .lf)) (.join [0,1,5,6] (.one (.tw .lf (.tw .lf (.tw (.tw .lf .lf) .lf)))) .lf))))) (.tw .lf (.tw .lf .lf)))))) .keepN Sh.f15:=by unfold T2;intros;kernel_rfl
theorem DT:AH Tryz.prog Gs 147 (ap2 Sh.f15):=PA mixed ((Af C1 ((Af Jb (Ar _ _))))) Tryz.func147 (by kernel_rfl) DX
theorem QH:AH Tryz.prog Gs 86 (ap1 Sh.f43):=mk1 .pureN ((Af ES ((Af E4 ((Af Dz ((Af DP ((Af DT (Ar _ _))))))))))) [] Tryz.func86
theorem FF:AH Tryz.prog Gs 153 (ap2 Sh.fb):=mk2 .pureN (Ar _ _) [] Tryz.func153
theorem Mn:AH Tryz.prog Gs 150 (ap1 Sh.f2c):=mk1 .pureN ((Af FF (Ar _ _))) [] Tryz.func150
theorem Df:AH Tryz.prog Gs 206 (ap1 Sh.f2d):=mv1 .keep (Ar _ _) [] Tryz.func206
theorem SQ:AH Tryz.prog Gs 200 (ap1 Sh.f44):=mk1 .pureN ((Af Df ((Af D7 (Ar _ _))))) [] Tryz.func200
theorem call_big_Of:AH Tryz.prog Gs 151 (ap1 Sh.f2e):=mk1 .pureN ((Af SQ ((Af FF (Ar _ _))))) [[1000002,0,2,3]] Tryz.func151
theorem Mf:AH Tryz.prog Gs 204 (ap3 Sh.f45):=mk3 .keep (Ar _ _) [] Tryz.func204
theorem Tx:AH Tryz.prog Gs 155 (ap2 Sh.f47):=mk2 .pureN ((Af Mf ((Af D7 (Ar _ _))))) [[1000001,0,1],[0,1,5,6,21,22,23],[1000014,0,1,5,6,7,8,9,21,22,23]] Tryz.func155
theorem Md:AH Tryz.prog Gs 207 (ap3 Sh.f2f):=mk3 .keep (Ar _ _) [] Tryz.func207
open Go.Proofs
set_option maxRecDepth 100000
theorem Ts:AH Tryz.prog Gs 157 (ap2 Sh.f48):=mk2 .pureN ((Af Jp ((Af Df ((Af Md ((Af D7 (Ar _ _))))))))) [[1,6,7,17,18],[1000015,1,6,7,8,9,17,18]] Tryz.func157
theorem ON:AH Tryz.prog Gs 89 (ap2 Sh.f1p):=mk2 .pureN ((Af Tx ((Af FF ((Af Ts ((Af Jp (Ar _ _))))))))) [[2,3,4,5,6,0,1,7,8],[1000005,2,3,4]] Tryz.func89
theorem call_big_Sub:AH Tryz.prog Gs 149 (ap2 Sh.f49):=mk2 .pureN ((Af Mn ((Af ON (Ar _ _))))) [[1,2,0,3,4]] Tryz.func149
theorem Me:AH Tryz.prog Gs 202 (ap1 Sh.f4a):=mk1 .keep (Ar _ _) [[1000001,0,2],[1000005,0,2]] Tryz.func202
theorem Tv:AH Tryz.prog Gs 152 (ap1 Sh.f4b):=mk1 .keep ((Af D7 ((Af Me (Ar _ _))))) [] Tryz.func152
theorem QG:AH Tryz.prog Gs 87 (ap1 Sh.f2h):=mk1 .pure ((Af Tv ((Af Mn ((Af call_big_Of ((Af call_big_Sub (Ar _ _))))))))) [[1000001,1]] Tryz.func87
theorem SP:AH Tryz.prog Gs 203 (ap1 Sh.f4c):=mk1 .keep (Ar _ _) [] Tryz.func203
theorem Tt:AH Tryz.prog Gs 154 (ap2 Sh.f4e):=mk2 .pureN ((Af SP ((Af D7 (Ar _ _))))) [[1,5,19,20,21],[],[]] Tryz.func154
theorem call_big_Pow:AH Tryz.prog Gs 88 (ap1 Sh.f4f):=mk1 .pureN ((Af Tt ((Af FF (Ar _ _))))) [] Tryz.func88
theorem Tw:AH Tryz.prog Gs 158 (ap2 Sh.f1q):=mk2 .keep (Ar _ _) [] Tryz.func158
noncomputable def Lc (m:Nat):Orc:=ent 90 (ap3 (Sh.f1r m)) (ent 158 (ap2 Sh.f1q) noO)
theorem KY (m:Nat):T3 Tryz.prog Gs false (Lc m) Tryz.f90 (.tw .lf (.tw (.tw .lf (.tw (.tw .lf .lf) .lf)) (.tw .lf (.tw (.tw .lf (.one (.loop [0,1,7,17,18,19] (.tw .lf (.tw (.tw .lf .lf) (.tw (.one (.tw .lf (.tw .lf (.join [0,1,7,9,10,17,18,19] (.tw .lf (.tw .lf .lf)) (.join [0,1,7,9,10,17,18,19] (.tw .lf (.tw .lf .lf)) (.reg [1,2,3,4,5,6,0,7,8])))))) .lf)))))) (.tw .lf (.tw (.tw .lf (.one (.loop [0,1,11,48,49] (.tw .lf (.tw (.tw .lf .lf) (.tw (.one (.tw .lf (.one (.tw .lf (.tw .lf (.tw .lf (.tw .lf .lf))))))) .lf)))))) (.tw (.reg [1,2,3,4,5,6,7,0,8,9,10]) (.tw .lf .lf)))))))) .keep (Sh.f1r (m+1)):=by unfold T3;intros;kernel_rfl
theorem Gz:∀m,AH Tryz.prog Gs 90 (ap3 (Sh.f1r m))
 | 0=>none_ok3 fun _ _ _ _=>rfl
 | m+1=>fn_ok3 mixed (Af (Gz m) ((Af Tw (Ar _ _)))) Tryz.func90 (by kernel_rfl) (KY m)
theorem Tq:AH Tryz.prog Gs 208 (ap3 Sh.f4g):=mk3 .pure (Ar _ _) [[]] Tryz.func208
theorem QB:AH Tryz.prog Gs 159 (ap1 Sh.f2j):=mk1 .pure ((Af Tq (Ar _ _))) [[0,7,8,9],[0,3,7,8,9,23,24]] Tryz.func159
theorem ER:AH Tryz.prog Gs 209 (ap1 Sh.f4i):=mk1 .keep (Ar _ _) [] Tryz.func209
theorem PP:AH Tryz.prog Gs 238 (ap3 Sh.f4j):=mk3 .keep (Ar _ _) [] Tryz.func238
noncomputable def GA:Orc:=Cz
theorem G8:T2 Tryz.prog Gs false GA Tryz.f241 (.tw .lf (.tw (.tw .lf (.one (.loop [0,1,7,8] (.tw .lf (.tw (.tw .lf .lf) (.tw (.one (.tw .lf (.tw .lf (.tw (.tw .lf .lf) .lf)))) .lf)))))) (.tw .lf .lf))) .keep Sh.f4l:=by unfold T2;intros;kernel_rfl
theorem Gu:AH Tryz.prog Gs 241 (ap2 Sh.f4l):=PA mixed ((Af PP (Ar _ _))) Tryz.func241 (by kernel_rfl) G8
theorem F7:AH Tryz.prog Gs 237 (ap2 Sh.f4m):=mk2 .keep ((Af Gu (Ar _ _))) [] Tryz.func237
theorem Mc:AH Tryz.prog Gs 230 (ap1 Sh.f2k):=mk1 .pureN ((Af F7 (Ar _ _))) [[3,10,11,12],[3,4,5,6,0,1,2,7,8]] Tryz.func230
theorem QC:AH Tryz.prog Gs 210 (ap2 Sh.f4n):=mk2 .keep ((Af Mc (Ar _ _))) [] Tryz.func210
theorem PQ:AH Tryz.prog Gs 211 (ap2 Sh.f4q):=mk2 .keep ((Af Mc (Ar _ _))) [[0,5,28,29],[0,5,6,7,28,29,40,41]] Tryz.func211
theorem PT:AH Tryz.prog Gs 212 (ap3 Sh.f4r):=mk3 .keep (Ar _ _) [] Tryz.func212
theorem OM:AH Tryz.prog Gs 160 (ap2 Sh.f2l):=mk2 .pureN ((Af ER ((Af QC ((Af PQ ((Af PT (Ar _ _))))))))) [[0,1],[0,1,6,25]] Tryz.func160
theorem JJ:AH Tryz.prog Gs 162 (ap2 Sh.f2m):=mk2 .keep (Ar _ _) [[],[1,2,3,4,5,6,7,0,8,9,10],[]] Tryz.func162
noncomputable def RM (m:Nat):Orc:=Hz (Sh.f7 m)
theorem Ru (m:Nat):T5 Tryz.prog Gs false (RM m) Tryz.f161 (.tw .lf (.tw (.tw .lf (.tw .lf (.tw (.tw .lf .lf) .lf))) (.tw .lf (.join [0,1,4,9] (.tw .lf (.tw (.tw .lf (.one (.loop [0,1,3,4,9,30,31] (.tw .lf (.tw (.tw .lf .lf) (.tw (.one (.tw .lf .lf)) .lf)))))) .lf)) (.tw .lf (.tw .lf (.tw .lf .lf))))))) .keep (Sh.f7 (m+1)):=by unfold T5;intros;kernel_rfl
theorem KV:∀m,AH Tryz.prog Gs 161 (ap5 (Sh.f7 m))
 | 0=>Oa fun _ _ _ _ _ _=>rfl
 | m+1=>Su mixed (Af (KV m) ((Af JJ (Ar _ _)))) Tryz.func161 (by kernel_rfl) (Ru m)
noncomputable def orc_canon_Of:Orc:=Jj
theorem tie_canon_Of:T2 Tryz.prog Gs false orc_canon_Of Tryz.f91 (.tw .lf (.tw (.tw .lf (.tw (.tw .lf .lf) .lf)) (.tw .lf (.tw .lf (.tw .lf (.tw .lf (.tw .lf (.tw .lf (.tw .lf .lf))))))))) .pureN Sh.f2o:=by unfold T2;intros;kernel_rfl
theorem T6:AH Tryz.prog Gs 91 (ap2 Sh.f2o):=PA mixed ((Af QB ((Af OM ((Af (KV AQ) (Ar _ _))))))) Tryz.func91 (by kernel_rfl) tie_canon_Of
open Go.Proofs
set_option maxRecDepth 100000
theorem Ty:AH Tryz.prog Gs 39 (ap1 Sh.f2q):=mk1 .pureN ((Af DB ((Af QH ((Af QG ((Af call_big_Pow ((Af ON ((Af (Gz AQ) ((Af T6 (Ar _ _))))))))))))))) [[2,4,5,19,20,21],[1,2,3,4,5,6,0,7,8],[2,5,8,9,40,41,42],[1,2,3,4,6,7,8,9,0,5,10,11,12,13,14,15,16]] Tryz.func39
theorem QD:AH Tryz.prog Gs 13 (ap2 Sh.ft):=mk2 .pureN ((Af OJ ((Af Ja ((Af Ty (Ar _ _))))))) [[0,8,1,2,3,4,5,6,7,9,10],[]] Tryz.func13
theorem JE:AH Tryz.prog Gs 104 (ap1 Sh.f4v):=mk1 .keep (Ar _ _) [] Tryz.func104
theorem Ln:AH Tryz.prog Gs 93 (ap1 Sh.f4w):=mk1 .keep (Ar _ _) [] Tryz.func93
theorem GF:AH Tryz.prog Gs 50 (ap1 Sh.f2r):=mk1 .keep ((Af Ln (Ar _ _))) [[0,3]] Tryz.func50
theorem Gx:AH Tryz.prog Gs 167 (ap1 Sh.f2s):=mk1 .keep (Ar _ _) [[0,3],[0,3,4],[]] Tryz.func167
theorem CJ:AH Tryz.prog Gs 170 (ap1 Sh.f18):=mk1 .pureN (Ar _ _) [[0,3,4],[0,3,4,5,6]] Tryz.func170
theorem FX:AH Tryz.prog Gs 215 (ap2 Sh.f2u):=mk2 .keep ((Af CJ (Ar _ _))) [[0,1,5,6],[0,1,5,6,7,8]] Tryz.func215
noncomputable def Nb (m:Nat):Orc:=ent 218 (ap3 (Sh.ff m)) noO
theorem MY (m:Nat):T3 Tryz.prog Gs false (Nb m) Tryz.f218 (.tw .lf (.tw (.tw .lf (.one (.loop [0,1,2,7] (.tw (.tw .lf (.tw .lf .lf)) (.tw (.one (.tw .lf (.tw (.tw .lf .lf) .lf))) .lf))))) (.tw (.tw .lf (.one (.loop [0,1,2,8] (.tw (.tw .lf (.tw .lf .lf)) (.join [0,1,2,8] (.one (.tw .lf (.tw .lf .lf))) .lf))))) (.tw .lf .lf)))) .keep (Sh.ff (m+1)):=by unfold T3;intros;kernel_rfl
theorem Ht:∀m,AH Tryz.prog Gs 218 (ap3 (Sh.ff m))
 | 0=>none_ok3 fun _ _ _ _=>rfl
 | m+1=>fn_ok3 mixed (Af (Ht m) (Ar _ _)) Tryz.func218 (by kernel_rfl) (MY m)
theorem KC:AH Tryz.prog Gs 173 (ap1 Sh.f57):=mk1 .pure ((Af Gx ((Af FX ((Af CJ ((Af (Ht AQ) (Ar _ _))))))))) [[3,4,5],[3,4,5,6],[],[3,7,8]] Tryz.func173
theorem K5:AH Tryz.prog Gs 105 (ap1 Sh.f58):=mk1 .pure ((Af GF ((Af KC (Ar _ _))))) [] Tryz.func105
theorem Lh:AH Tryz.prog Gs 28 (ap1 Sh.f2w):=mk1 .pure (Ar _ _) [] Tryz.func28
theorem Hv:AH Tryz.prog Gs 219 (ap1 Sh.f1t):=mk1 .keepN (Ar _ _) [[0]] Tryz.func219
theorem CE:AH Tryz.prog Gs 176 (ap1 Sh.f4):=mk1 .pureN ((Af Hv (Ar _ _))) [[0,3,4],[0,3,4,5,6]] Tryz.func176
theorem DD:AH Tryz.prog Gs 175 (ap1 Sh.fl):=mk1 .pureN ((Af Hv (Ar _ _))) [[0,3,4],[0,3,4,5,6,7],[1000016,0,3,4,5,6,7]] Tryz.func175
theorem GG:AH Tryz.prog Gs 109 (ap1 Sh.f19):=mk1 .keepN ((Af CE ((Af DD (Ar _ _))))) [] Tryz.func109
theorem Dj:AH Tryz.prog Gs 119 (ap2 Sh.fc):=mk2 .pureN ((Af GG (Ar _ _))) [] Tryz.func119
theorem DC:AH Tryz.prog Gs 64 (ap1 Sh.fm):=mk1 .pureN ((Af Dj (Ar _ _))) [[1000002,0,2,3]] Tryz.func64
theorem Mj:AH Tryz.prog Gs 213 (ap2 Sh.f5b):=mk2 .pureN ((Af CE ((Af DD (Ar _ _))))) [[2,3,0,1,4,5,6]] Tryz.func213
theorem Mh:AH Tryz.prog Gs 166 (ap2 Sh.f5c):=mk2 .pureN ((Af Mj ((Af Dj (Ar _ _))))) [[2,3,4,5,0,1,6,7]] Tryz.func166
theorem BV:AH Tryz.prog Gs 98 (ap1 Sh.f5):=mk1 .pureN ((Af DC ((Af Mh (Ar _ _))))) [] Tryz.func98
theorem Fr:AH Tryz.prog Gs 182 (ap2 Sh.f6):=mk2 .keep (Ar _ _) [] Tryz.func182
theorem Mm:AH Tryz.prog Gs 120 (ap2 Sh.f5d):=mk2 .pureN ((Af CE ((Af Fr ((Af DD (Ar _ _))))))) [[5,6,7,8,9],[1000011,5,6,7,8,9,10],[1000014,5,6,7,8,9,10],[1000017,5,6,7,9,10]] Tryz.func120
theorem Ml:AH Tryz.prog Gs 183 (ap2 Sh.f5e):=mk2 .keep ((Af CE ((Af Fr (Ar _ _))))) [[5,6,7]] Tryz.func183
theorem Mi:AH Tryz.prog Gs 121 (ap2 Sh.f2y):=mk2 .pureN ((Af Ml ((Af CE ((Af Fr ((Af DD (Ar _ _))))))))) [[6,7,8,9,10],[1000015,6,7,8,10,11],[1000018,6,7,8,10,11],[1000022,6,7,8,9,10,11]] Tryz.func121
open Go.Proofs
set_option maxRecDepth 100000
theorem Ct:AH Tryz.prog Gs 63 (ap2 Sh.f0):=mk2 .pureN ((Af Mm ((Af Dj ((Af Mi (Ar _ _))))))) [[2,3,4,5,6,0,1,7,8]] Tryz.func63
theorem C3:AH Tryz.prog Gs 97 (ap1 Sh.fg):=mk1 .pureN ((Af Dj (Ar _ _))) [] Tryz.func97
theorem Hu:AH Tryz.prog Gs 172 (ap2 Sh.fu):=mk2 .pureN ((Af C3 ((Af Ct (Ar _ _))))) [[1,2,0,3,4]] Tryz.func172
theorem Cs:AH Tryz.prog Gs 103 (ap2 Sh.f2):=mk2 .pure ((Af Hu (Ar _ _))) [] Tryz.func103
theorem K7:AH Tryz.prog Gs 171 (ap3 Sh.f1b):=mk3 .pureN ((Af BV ((Af Cs ((Af Ct (Ar _ _))))))) [[0,4,5,7,8],[0,4,5,7,8,9,10,11],[1000014,0,4,5,7,8,9,10,11],[1000016,0,4,5,7,8,9,10,11,12,13],[],[1000024,0,4,5,7,8,9,10,11,15],[],[],[]] Tryz.func171
theorem Gy:AH Tryz.prog Gs 107 (ap1 Sh.f1u):=mk1 .pure (Ar _ _) [] Tryz.func107
theorem Nf:AH Tryz.prog Gs 102 (ap1 Sh.f1v):=mk1 .pureN ((Af K7 ((Af Gy ((Af BV ((Af C3 ((Af Ct ((Af Hu (Ar _ _))))))))))))) [[0,1,2,3,4,5,7,8,9,6,10,12,13,14,11,15,16,17,18]] Tryz.func102
theorem JF:AH Tryz.prog Gs 51 (ap2 Sh.f5i):=mk2 .pure ((Af Nf ((Af DC ((Af Cs (Ar _ _))))))) [[2,3,0,1,4,5,6,9,10,7,8,11,12,13,14]] Tryz.func51
theorem Li:AH Tryz.prog Gs 52 (ap1 Sh.f31):=mk1 .pure (Ar _ _) [[1,3,4],[1,3,4,5]] Tryz.func52
theorem F8:AH Tryz.prog Gs 18 (ap3 Sh.fn):=mk3 .pure ((Af JF ((Af Li (Ar _ _))))) [] Tryz.func18
theorem K6:AH Tryz.prog Gs 53 (ap3 Sh.f5k):=mk3 .pure ((Af JE ((Af K5 ((Af Lh ((Af F8 (Ar _ _))))))))) [] Tryz.func53
theorem JH:AH Tryz.prog Gs 174 (ap1 Sh.f5o):=mk1 .pureN ((Af Ct ((Af DC (Ar _ _))))) [[0,3,4],[0,3,4,5],[1000012,0,3,4,5],[3,4,5,6,7,8,9,10,11,12,0,1,2,13,14],[8,3,4,5,6,7,9,0,1,2,10,11]] Tryz.func174
theorem KA:AH Tryz.prog Gs 106 (ap1 Sh.f5p):=mk1 .pureN ((Af JH (Ar _ _))) [[]] Tryz.func106
noncomputable def LD (m:Nat):Orc:=ent 108 (ap4 (Sh.fd m)) (ent 98 (ap1 Sh.f5) (ent 63 (ap2 Sh.f0) noO))
theorem Lq (m:Nat):T4 Tryz.prog Gs false (LD m) Tryz.f108 (.tw .lf (.tw (.tw .lf (.tw (.tw .lf .lf) .lf)) (.tw .lf (.tw .lf (.tw (.tw .lf (.one (.loop [0,1,6,7,9,10,11] (.tw (.tw .lf (.tw .lf .lf)) (.join [0,1,6,7,9,10,11] (.one (.tw (.reg [0,2,3,4,1,5]) (.join [0,1,6,7,9,10,11,12,13] (.tw .lf (.tw .lf .lf)) (.join [0,1,6,7,9,10,11,12,13] (.tw .lf (.tw .lf .lf)) (.tw .lf (.tw .lf (.tw .lf (.tw .lf (.tw .lf .lf))))))))) .lf))))) (.tw .lf .lf)))))) .pureN (Sh.fd (m+1)):=by unfold T4;intros;kernel_rfl
theorem GD:∀m,AH Tryz.prog Gs 108 (ap4 (Sh.fd m))
 | 0=>none_ok4 fun _ _ _ _ _=>rfl
 | m+1=>fn_ok4 mixed (Af (GD m) ((Af BV ((Af Ct (Ar _ _)))))) Tryz.func108 (by kernel_rfl) (Lq m)
theorem K8:AH Tryz.prog Gs 165 (ap2 Sh.f35):=mk2 .pure ((Af Cs (Ar _ _))) [] Tryz.func165
theorem GE:AH Tryz.prog Gs 95 (ap1 Sh.f36):=mk1 .pureN ((Af K8 (Ar _ _))) [[0,3,4],[0,3,4,5],[],[],[1000015,0,3,4,5,7],[],[3,8,9],[1000024,3,8,9]] Tryz.func95
theorem Lk:AH Tryz.prog Gs 54 (ap2 Sh.f5u):=mk2 .pureN ((Af KA ((Af DC ((Af Cs ((Af Gy ((Af BV ((Af C3 ((Af (GD AQ) ((Af GE (Ar _ _))))))))))))))))) [] Tryz.func54
theorem Mk:AH Tryz.prog Gs 56 (ap2 Sh.f5v):=mk2 .pureN ((Af GG (Ar _ _))) [[0,1,6,7,8],[0,1,2,3,4,5,6,11,12,7,8,9,10,13]] Tryz.func56
theorem Lo:AH Tryz.prog Gs 22 (ap1 Sh.f37):=mk1 .pure ((Af Mk (Ar _ _))) [[1,3,4]] Tryz.func22
theorem K4:AH Tryz.prog Gs 19 (ap2 Sh.fv):=mk2 .pure ((Af K6 ((Af Lk ((Af Lo (Ar _ _))))))) [[7,9,10],[1,2,3,4,5,6,9,10,11,12,13,14,0,7,8,15,16,17]] Tryz.func19
theorem QE:AH Tryz.prog Gs 35 (ap1 Sh.fw):=mk1 .pure ((Af Ja (Ar _ _))) [[]] Tryz.func35
theorem G0:AH Tryz.prog Gs 16 (ap0 Sl.gliderref11_Wide):=by rw [Sl.gliderref11_Wide_eq];exact Lf
theorem JK:AH Tryz.prog Gs 13 (ap2 Sl.life6_Read):=by rw [Sl.life6_Read_eq];exact QD
theorem FY:AH Tryz.prog Gs 19 (ap2 Sl.gliderref12_Life6):=by rw [Sl.gliderref12_Life6_eq];exact K4
theorem PU:AH Tryz.prog Gs 35 (ap1 Sl.life6_Hint):=by rw [Sl.life6_Hint_eq];exact QE
open Go.Proofs
set_option maxRecDepth 100000
theorem KI:AH Tryz.prog Gs 12 (ap0 Sh.fx):=mk0 .pure ((Af G0 ((Af JK ((Af FY ((Af PU (Ar _ _))))))))) [] Tryz.func12
theorem KH:AH Tryz.prog Gs 55 (ap1 Sh.f5x):=mk1 .keep (Ar _ _) [] Tryz.func55
theorem KG:AH Tryz.prog Gs 21 (ap1 Sh.f38):=mk1 .pure ((Af KH (Ar _ _))) [] Tryz.func21
theorem JG:AH Tryz.prog Gs 96 (ap2 Sh.f5y):=mk2 .pure ((Af BV ((Af C3 ((Af Cs (Ar _ _))))))) [] Tryz.func96
noncomputable def La (m:Nat):Orc:=ent 99 (ap5 (Sh.fh m)) (ent 98 (ap1 Sh.f5) (ent 103 (ap2 Sh.f2) (ent 63 (ap2 Sh.f0) noO)))
theorem KW (m:Nat):T5 Tryz.prog Gs false (La m) Tryz.f99 (.tw .lf (.tw (.tw .lf (.tw (.tw .lf .lf) .lf)) (.tw .lf (.tw .lf (.tw (.tw .lf (.one (.loop [0,1,4,7,8,12,13,14] (.tw (.tw .lf (.tw .lf .lf)) (.join [0,1,4,7,8,12,13,14] (.one (.tw (.reg [0,2,3,4,1,5]) (.join [0,1,4,7,8,12,13,14,15,16] (.tw .lf (.tw .lf .lf)) (.join [0,1,4,7,8,12,13,14,15,16] (.tw .lf (.tw .lf .lf)) (.tw .lf (.tw (.tw .lf (.one (.loop [0,1,4,7,8,12,13,14,15,16,17,18] (.tw (.tw .lf (.tw .lf .lf)) (.join [0,1,4,7,8,12,13,14,15,16,17,18] (.one (.tw (.reg [0,1,2,3,4,5,6,7,8,14,15,16,9,10,11,12,13,17,18,19,20,21,22,23,24,25,26,27,28,29,30,36,37,38,31,32,33,34,35,39,40,41]) (.tw .lf .lf))) .lf))))) (.join [0,1,4,7,8,12,13,14,15,16,17] (.tw .lf (.tw .lf .lf)) (.tw .lf (.tw .lf .lf))))))))) .lf))))) (.tw .lf (.tw .lf .lf))))))) .keep (Sh.fh (m+1)):=by unfold T5;intros;kernel_rfl
theorem Gv:∀m,AH Tryz.prog Gs 99 (ap5 (Sh.fh m))
 | 0=>Oa fun _ _ _ _ _ _=>rfl
 | m+1=>Su mixed (Af (Gv m) ((Af BV ((Af Cs ((Af Ct (Ar _ _)))))))) Tryz.func99 (by kernel_rfl) (KW m)
theorem KF:AH Tryz.prog Gs 214 (ap2 Sh.f61):=mk2 .keep ((Af CJ (Ar _ _))) [] Tryz.func214
theorem KE:AH Tryz.prog Gs 216 (ap3 Sh.f62):=mk3 .keep (Ar _ _) [] Tryz.func216
theorem JI:AH Tryz.prog Gs 168 (ap2 Sh.f64):=mk2 .pureN ((Af KF ((Af FX ((Af KE (Ar _ _))))))) [[1,6],[1,6,7,8]] Tryz.func168
theorem Ll:AH Tryz.prog Gs 217 (ap2 Sh.f3b):=mk2 .pure (Ar _ _) [[0,3,5],[]] Tryz.func217
noncomputable def Lb (m:Nat):Orc:=ent 169 (ap5 (Sh.fo m)) (ent 217 (ap2 Sh.f3b) noO)
theorem KX (m:Nat):T5 Tryz.prog Gs false (Lb m) Tryz.f169 (.tw .lf (.tw (.tw .lf (.tw (.tw .lf .lf) .lf)) (.tw (.tw .lf (.tw (.tw (.reg [0,1,2,3,4,5,6,7,8]) .lf) .lf)) (.tw .lf (.tw (.tw .lf (.one (.loop [0,1,2,3,4,13,14] (.tw (.tw .lf (.tw .lf .lf)) (.tw (.one .lf) .lf))))) (.tw .lf (.join [2,3,4,15] (.tw .lf (.tw (.tw .lf .lf) .lf)) (.tw .lf (.tw .lf .lf))))))))) .keep (Sh.fo (m+1)):=by unfold T5;intros;kernel_rfl
theorem Gw:∀m,AH Tryz.prog Gs 169 (ap5 (Sh.fo m))
 | 0=>Oa fun _ _ _ _ _ _=>rfl
 | m+1=>Su mixed (Af (Gw m) ((Af Ll (Ar _ _)))) Tryz.func169 (by kernel_rfl) (KX m)
theorem Nh:AH Tryz.prog Gs 100 (ap2 Sh.f67):=mk2 .pureN ((Af Gx ((Af JI ((Af CJ ((Af (Gw AQ) (Ar _ _))))))))) [[1,2,0,3,4,5,6,7,8,9,10,11,12,13,14,15]] Tryz.func100
theorem Ng:AH Tryz.prog Gs 47 (ap1 Sh.f6b):=mk1 .pureN ((Af KG ((Af GE ((Af JG ((Af BV ((Af C3 ((Af (Gv AQ) ((Af Nh (Ar _ _))))))))))))))) [[0,2,4],[2,5,6,7],[2,5,6,7]] Tryz.func47
open Go.Proofs
set_option maxRecDepth 100000
theorem KD:AH Tryz.prog Gs 101 (ap2 Sh.f6c):=mk2 .keep (Ar _ _) [[0,1,5],[]] Tryz.func101
theorem Lm:AH Tryz.prog Gs 48 (ap2 Sh.f6d):=mk2 .pure ((Af KD (Ar _ _))) [] Tryz.func48
theorem Lg:AH Tryz.prog Gs 15 (ap2 Sh.fz):=mk2 .pure ((Af Lm (Ar _ _))) [] Tryz.func15
theorem JL:AH Tryz.prog Gs 12 (ap0 Sl.gliderlaw17_alive):=by rw [Sl.gliderlaw17_alive_eq];exact KI
theorem KJ:AH Tryz.prog Gs 15 (ap2 Sl.gliderref11_Same):=by rw [Sl.gliderref11_Same_eq];exact Lg
theorem K9:AH Tryz.prog Gs 20 (ap2 Sh.f6f):=mk2 .keep (Ar _ _) [[0,5]] Tryz.func20
theorem Lj:AH Tryz.prog Gs 49 (ap2 Sh.f6g):=mk2 .pureN ((Af K9 ((Af Ng (Ar _ _))))) [] Tryz.func49
theorem Nc:AH Tryz.prog Gs 17 (ap3 Sh.f10):=mk3 .pureN ((Af Lj ((Af GF (Ar _ _))))) [[3,4,5,6,0,1,2,8,7,9]] Tryz.func17
theorem Mo:AH Tryz.prog Gs 17 (ap3 Sl.gliderref11_Of):=by rw [Sl.gliderref11_Of_eq];exact Nc
theorem IG:AH Tryz.prog Gs 18 (ap3 Sl.gliderref11_Express):=by rw [Sl.gliderref11_Express_eq];exact F8
theorem IF:AH Tryz.prog Gs 4 (ap2 Sh.f7g):=mk2 .pure ((Af JL ((Af G0 ((Af Mo ((Af IG ((Af FY ((Af JK ((Af KJ (Ar _ _))))))))))))))) [] Tryz.func4
def Lx (H:Aa) (p:Nat) (b:List UInt8) (a:Nat) (r:List Ab):Prop:=H[p]? = some (.cel 0 (.str b::.int .i64 (a:Int)::r))
theorem lx_b {H:Aa} {p a:Nat} {b:List UInt8} {r:List Ab} (h:Lx H p b a r):Ac false 1 (.ptr p 0 0) H=some (.str b):=by
 simp only [Ac,AA h,Option.bind];rfl
theorem ID {H:Aa} {p a:Nat} {b:List UInt8} {r:List Ab} (h:Lx H p b a r):Ac false 1 (.ptr p 0 1) H=some (.int .i64 (a:Int)):=by
 simp only [Ac,AA h,Option.bind];rfl
theorem LG {H:Aa} {p a:Nat} {b:List UInt8} {r:List Ab} (h:Lx H p b a r):Sh.fr (.ptr p 0 0) H=some (.ret (.bool (decide (a=b.length))),H):=by
 unfold Sh.fr
 simp only [GMb,GMc,As,Ah,UY,lx_b h,ID h]
 by_cases e:a=b.length
 ·have e':(a:Int)=(b.length:Int):=by omega
  simp [e,e']
 ·have e':¬(a:Int)=(b.length:Int):=by omega
  simp [e,e']
def So (e:Int) (s:List UInt8):Ab:=.iface GU (.agg [.int .i64 e,.str s])
theorem MA {H:Aa} {p a:Nat} {b:List UInt8} {r:List Ab} (h:Lx H p b a r) (s:List UInt8):Sh.f9 (.ptr p 0 0) (.str s) H=some (.pan (if a=b.length then So 3 s else So 2 []),H):=by
 unfold Sh.f9
 simp only [GMb,GMc,LG h]
 by_cases e:a=b.length
 ·simp only [e,GMb,GMc]
  rfl
 ·simp only [e,GMb,GMc]
  rfl
theorem lx_limit {H:Aa} (x:Ab):Sh.f3h x H=some (.pan (So 4 []),H):=rfl
theorem Uy (l:List UInt8) (c:UInt8):(0≤Lib.indexByte l c)↔c∈l:=by
 induction l with
 | nil=>simp [Lib.indexByte]
 | cons b l ih=>
  have hge:=Lib.indexByte_ge l c
  unfold Lib.indexByte
  by_cases h:b=c
  ·simp [h]
  ·have h':¬c=b:=fun e=>h e.symm
   by_cases h2:Lib.indexByte l c = -1
   ·have:¬c∈l:=fun hm=>by have:=ih.2 hm;omega
    simp [h,h',h2,this]
   ·have h3:0≤Lib.indexByte l c:=by omega
    have h4:=ih.1 h3
    simp [h,h2,h4]
    omega
def CA (b:List UInt8) (a:Nat) (some:List UInt8):Bool:=match b[a]? with
 | none=>false
 | Option.some c=>some.contains c
theorem MB {H:Aa} {p a:Nat} {b:List UInt8} {r:List Ab} (h:Lx H p b a r) (ha:a≤b.length) (s:List UInt8):Sh.fi (.ptr p 0 0) (.str s) H=some (.ret (.bool (CA b a s)),H):=by
 unfold Sh.fi CA
 simp only [GMb,GMc,LG h]
 by_cases e:a=b.length
 ·simp only [e,GMb,GMc]
  rw [Vl (Va _)]
 ·have hlt:a<b.length:=by omega
  rw [UU hlt]
  have hi:Sh.f1z (.str s) (.int .u8 (b[a].toNat:Int)) H=some (.ret (.int .i64 (Lib.indexByte s b[a])),H):=by
   unfold Sh.f1z;simp
  simp only [e,GMb,GMc,As,Ah,UY,lx_b h,ID h,ML hlt,hi]
  by_cases hm:b[a]∈s
  ·have:=(Uy s b[a]).2 hm
   simp [hm,this]
  ·have:¬0≤Lib.indexByte s b[a]:=fun hc=>hm ((Uy s b[a]).1 hc)
   simp [hm,this]
theorem lx_step {H:Aa} {p a:Nat} {b:List UInt8} {r:List Ab} (h:Lx H p b a r) (n:Int):Ag 1 (.ptr p 0 1) (.int .i64 n) H=some (H.set p (.cel 0 (.str b::.int .i64 n::r))):=by
 simp only [Ag,AA h,Option.bind,Ab.acells]
 simp [B9 h,Dp]
theorem lx_set {H:Aa} {p a a':Nat} {b:List UInt8} {r:List Ab} (h:Lx H p b a r):Lx (H.set p (.cel 0 (.str b::.int .i64 (a':Int)::r))) p b a' r:=by
 have:p<H.length:=by
  rcases VH p H.length with h' | h'
  ·exact h'
  ·unfold Lx at h;rw [Vl h']at h;cases h
 unfold Lx;simp [this]
def Cy (H:Aa) (p:Nat) (b:List UInt8) (r:List Ab) (a:Nat):Aa:=H.set p (.cel 0 (.str b::.int .i64 (a:Int)::r))
theorem EX {H:Aa} {p a:Nat} {b:List UInt8} {r:List Ab} (h:Lx H p b a r):Cy H p b r a=H:=by
 unfold Cy
 apply W6
 intro i
 by_cases e:p=i
 ·subst e
  have:p<H.length:=by
   rcases VH p H.length with h' | h'
   ·exact h'
   ·unfold Lx at h;rw [Vl h']at h;cases h
  rw [Vj this];exact h.symm
 ·rw [UX e]
theorem GV {H:Aa} {p a a':Nat} {b:List UInt8} {r:List Ab} (h:Lx H p b a r):Lx (Cy H p b r a') p b a' r:=lx_set h
theorem TM (H:Aa) (p a a':Nat) (b:List UInt8) (r r':List Ab):Cy (Cy H p b r a) p b r' a'=Cy H p b r' a':=by unfold Cy;rw [List.set_set]
theorem setL_len (H:Aa) (p a:Nat) (b:List UInt8) (r:List Ab):(Cy H p b r a).length=H.length:=by unfold Cy;simp
theorem MC {H:Aa} {p a a':Nat} {b:List UInt8} {r:List Ab} (h:Lx H p b a r) (n:Nat):Ag 1 (.ptr p 0 1) (.int .i64 (n:Int)) (Cy H p b r a')=some (Cy H p b r n):=by
 rw [lx_step (GV h)]
 exact congrArg some (TM H p a' n b r r)
def Qc (b:List UInt8) (a:Nat) (s:List UInt8):Ab:=if a=b.length then So 3 s else So 2 []
def crN (b:List UInt8) (a:Nat):Nat:=if CA b a [13]then a+1 else a
theorem Ih {b s:List UInt8} {a:Nat} (h:CA b a s=true):a<b.length:=by
 rcases VH a b.length with h' | h'
 ·exact h'
 ·unfold CA at h;rw [Vl h']at h;cases h
theorem crN_le {b:List UInt8} {a:Nat} (ha:a≤b.length):crN b a≤b.length:=by
 unfold crN
 cases hs:CA b a [13]with
 | true=>exact Ih hs
 | false=>exact ha
def endO (H:Aa) (p:Nat) (b:List UInt8) (r:List Ab) (a:Nat) (rest:List UInt8):Out:=
 if a=b.length then some (.ret (.tup []),H)
 else if CA b (crN b a) [10]then some (.ret (.tup []),Cy H p b r (crN b a+1))
 else some (.pan (Qc b (crN b a) (10::rest)),Cy H p b r (crN b a))
theorem lx_end {H:Aa} {p a:Nat} {b:List UInt8} {r:List Ab} (h:Lx H p b a r) (ha:a≤b.length) (hb:b.length<1152921504606846976) (rest:List UInt8) (hr:rest.length≤1000000) :
  Sh.fs (.ptr p 0 0) (.str rest) H=endO H p b r a rest:=by
 unfold Sh.fs endO
 simp only [GMb,GMc,LG h]
 by_cases e:a=b.length
 ·simp only [e,GMb,GMc]
 ·have key:∀c,c≤b.length→Sh.f6j H (.ptr p 0 0) (.str rest) (Cy H p b r c)=if CA b c [10]then some (.ret (.tup []),Cy H p b r (c+1))else some (.pan (Qc b c (10::rest)),Cy H p b r c):=by
   intro c hc
   have hx:=GV (a':=c) h
   unfold Sh.f6j
   simp only [GMb,GMc,MB hx hc]
   cases hs:CA b c [10]with
   | true=>
    unfold Sh.f7h
    simp only [GMb,GMc,VX,As,Ah,UY,ID hx,Aw (show c<9223372036854775807 by omega),MC h]
   | false=>
    have hcat:Ae .none .add (.str [10]) (.str rest)=some (.str (10::rest)):=FA (by simp only [List.length_cons,List.length_nil];omega)
    simp only [GMb,GMc,Wg,hcat,MA hx]
    rfl
  simp only [e,GMb,GMc,MB h ha,AN]
  unfold crN
  cases hs:CA b a [13]with
  | true=>
   have hlt:a<b.length:=by omega
   have hm:=MC (a':=a) h (a+1)
   rw [EX h]at hm
   simp only [GMb,GMc,As,Ah,UY,ID h,Aw (show a<9223372036854775807 by omega),hm]
   exact key (a+1) (by omega)
  | false=>
   have:=key a ha
   rw [EX h]at this
   simp only [GMb,GMc]
   rw [EX h]
   exact this
def cpN:List UInt8→List UInt8→Nat
 | a::l,b::m=>if a=b then cpN l m+1 else 0
 | _,_=>0
theorem SG:∀a b:List UInt8,cpN a b≤a.length∧cpN a b≤b.length
 | [],_=>⟨Vy _,Vy _⟩
 | _::_,[]=>⟨Vy _,Vy _⟩
 | a::l,b::m=>by
  have:=SG l m
  unfold cpN
  by_cases h:a=b
  ·rw [if_pos h];simp only [List.length_cons];omega
  ·rw [if_neg h];exact ⟨Vy _,Vy _⟩
theorem cpN_get:∀(a b:List UInt8) (i:Nat),i<cpN a b→a[i]? = b[i]?
 | [],_,i,h=>by simp [cpN]at h
 | _::_,[],i,h=>by simp [cpN]at h
 | a::l,b::m,i,h=>by
  unfold cpN at h
  by_cases e:a=b
  ·rw [if_pos e]at h
   cases i with
   | zero=>simp [e]
   | succ i=>simpa using cpN_get l m i (by omega)
  ·rw [if_neg e]at h;omega
theorem cpN_stop:∀(a b:List UInt8),cpN a b<a.length→cpN a b<b.length→a[cpN a b]? ≠ b[cpN a b]?
 | [],_,h,_=>by simp [cpN]at h
 | _::_,[],_,h=>by simp [cpN]at h
 | a::l,b::m,h,h2=>by
  by_cases e:a=b
  ·have ec:cpN (a::l) (b::m)=cpN l m+1:=by rw [cpN,if_pos e]
   rw [ec]at h h2 ⊢
   simpa using cpN_stop l m (by simpa using h) (by simpa using h2)
  ·have ec:cpN (a::l) (b::m)=0:=by rw [cpN,if_neg e]
   rw [ec];simpa using e
theorem q_common (a b:List UInt8) (H:Aa) (ha:a.length<1152921504606846976):Sh.f3f (.str a) (.str b) H=some (.ret (.int .i64 (cpN a b:Int)),H):=by
 unfold Sh.f3f
 have hm:(min (a.length:Int) (b.length:Int))=((min a.length b.length:Nat):Int):=by omega
 have hle:=SG a b
 have l1:CG (.str a)=some (.int .i64 (a.length:Int)):=rfl
 have l2:CG (.str b)=some (.int .i64 (b.length:Int)):=rfl
 simp only [GMb,GMc,l1,l2,min_int,hm]
 have key:=Br (G:=fun rec1 vs H1=>Sh.f6i H rec1 (ag vs 0) (ag vs 1) (ag vs 2) (ag vs 3) (ag vs 4) H1) (σ:=Nat) (fun i=>i≤cpN a b)
  (fun i=>[.str a,.str b,.int .i64 ((min a.length b.length:Nat):Int),.int .i64 ((min a.length b.length:Nat):Int),.int .i64 (i:Int)]) (fun _=>H) (fun i=>cpN a b-i)
  (fun _=>some (.ret (.int .i64 (cpN a b:Int)),H)) (fun i rec hi hrec=>?_) 0 (Vy _) (by omega)
 ·exact key
 ·unfold Sh.f6i
  by_cases hlt:i<min a.length b.length
  ·have hlt':(i:Int)<((min a.length b.length:Nat):Int):=by omega
   have h1:i<a.length:=by omega
   have h2:i<b.length:=by omega
   simp only [GMb,GMc,Ai,hlt',ML h1,ML h2]
   by_cases e:i=cpN a b
   ·have hne:=cpN_stop a b (by omega) (by omega)
    rw [←e,UU h1,UU h2]at hne
    have hn:¬((a[i].toNat:Int)=(b[i].toNat:Int)):=fun hc=>hne (congrArg some (W8.1 (by omega)))
    simp only [hn,GMb,GMc,not_false_eq_true]
    rw [e]
   ·have hg:=cpN_get a b i (by omega)
    rw [UU h1,UU h2]at hg
    have hg':=WG hg
    simp only [hg',GMb,GMc,not_true_eq_false,Aw (show i<9223372036854775807 by omega)]
    exact hrec (i+1) (by omega) (by omega)
  ·have hlt':¬(i:Int)<((min a.length b.length:Nat):Int):=by omega
   simp only [GMb,GMc,Ai,hlt']
   have:min a.length b.length=cpN a b:=by omega
   rw [this]
def mustO (H:Aa) (p:Nat) (b:List UInt8) (r:List Ab) (a:Nat) (s rest:List UInt8):Out:=
 if cpN (b.drop a) s<s.length then some (.pan (Qc b (a+cpN (b.drop a) s) (s.drop (cpN (b.drop a) s)++rest)),Cy H p b r (a+cpN (b.drop a) s))
 else some (.ret (.tup []),Cy H p b r (a+cpN (b.drop a) s))
theorem lx_must {H:Aa} {p a:Nat} {b:List UInt8} {r:List Ab} (h:Lx H p b a r) (ha:a≤b.length) (hb:b.length<1152921504606846976) (s rest:List UInt8) (hs:s.length≤1000000) (hr:rest.length≤1000000) :
  Sh.f12 (.ptr p 0 0) (.str s) (.str rest) H=mustO H p b r a s rest:=by
 unfold Sh.f12 mustO
 have hle:=SG (b.drop a) s
 have hd:(b.drop a).length=b.length-a:=Vx
 have hq:=q_common (b.drop a) s H (by omega)
 have l2:CG (.str s)=some (.int .i64 (s.length:Int)):=rfl
 generalize cpN (b.drop a) s=n at hq hle ⊢
 have hw:IntKind.i64.wrap ((a:Int)+(n:Int))=((a+n:Nat):Int):=by rw [An] <;> omega
 have hm:=MC (a':=a) h (a+n)
 rw [EX h]at hm
 have hx:=GV (a':=a+n) h
 simp only [GMb,GMc,As,Ah,UY,lx_b h,ID h,Ig ha,hq,hw,hm,l2]
 by_cases hc:n<s.length
 ·have hc':(n:Int)<(s.length:Int):=by omega
  have hcat:Ae .none .add (.str (s.drop n)) (.str rest)=some (.str (s.drop n++rest)):=FA (by rw [Vx];omega)
  simp only [hc',GMb,GMc,Ig hle.2,hcat,MA hx,if_pos hc]
  rfl
 ·have hc':¬(n:Int)<(s.length:Int):=by omega
  simp only [hc',GMb,GMc,if_neg hc]
def litN (b:List UInt8) (a:Nat) (s:List UInt8):Nat:=a+cpN (b.drop a) s
theorem litN_le {b:List UInt8} {a:Nat} (ha:a≤b.length) (s:List UInt8):litN b a s≤b.length:=by
 have:=(SG (b.drop a) s).1
 rw [Vx]at this
 unfold litN;omega
theorem q_sign (c:UInt8) (H:Aa):Sh.f3g (.int .u8 (c.toNat:Int)) H=some (.ret (.bool (Lu c)),H):=by
 unfold Sh.f3g Lu
 by_cases h:(c.toNat:Int)>32
 ·have:33≤c.toNat:=by omega
  simp [h,this];omega
 ·have:¬33≤c.toNat:=by omega
  simp [h,this]
def onB (b:List UInt8) (f a:Nat):Bool:=match b[a]? with
 | none=>false
 | some c=>decide (a-f<40)&&Lu c
def Hh (b:List UInt8) (f:Nat):Nat→Nat→Nat
 | 0,a=>a
 | n+1,a=>if onB b f a then Hh b f n (a+1)else a
def ruleO (H:Aa) (p:Nat) (b:List UInt8) (r:List Ab) (f e:Nat) (rest:List UInt8):Out:=
 if e=f then some (.pan (Qc b e (97::rest)),Cy H p b r e)else some (.ret (.str ((b.take e).drop f)),Cy H p b r e)
theorem lx_rule_end {H:Aa} {p a f:Nat} {b:List UInt8} {r:List Ab} (h:Lx H p b f r) (hf:f≤a) (ha:a≤b.length) (rest:List UInt8) (hr:rest.length≤1000000) :
  (AN (fun j2=>
 (As (.ptr p 0 0)).bind fun x51=>
 (Ad 1 x51).bind fun x52=>
 (Ac false 1 x52 (Cy H p b r a)).bind fun x53=>
 (Ae .none .eql x53 (.int .i64 (f:Int))).bind fun x54=>
 Aj x54 (
 (Ae .none .add (.str [97]) (.str rest)).bind fun x55=>
 bK H (Sh.f9 (.ptr p 0 0) x55 (Cy H p b r a)) fun x56 H57=>
 j2 [.ptr p 0 0,.int .i64 (f:Int)] H57) (
 j2 [.ptr p 0 0,.int .i64 (f:Int)] (Cy H p b r a))) (fun vs H1=>Sh.f6k H (ag vs 0) (ag vs 1) H1))=ruleO H p b r f a rest:=by
 have hx:=GV (a':=a) h
 unfold ruleO
 have hcat:Ae .none .add (.str [97]) (.str rest)=some (.str (97::rest)):=FA (by simp only [List.length_cons,List.length_nil];omega)
 simp only [GMb,GMc,As,Ah,UY,ID hx]
 by_cases e:a=f
 ·simp only [e,GMb,GMc,hcat,if_pos]
  subst e
  simp only [MA hx]
  rfl
 ·have e':¬(a:Int)=(f:Int):=by omega
  simp only [e',GMb,GMc,if_neg e]
  unfold Sh.f6k
  simp only [GMb,GMc,As,Ah,UY,ID hx,lx_b hx,TJ hf ha]
theorem Pb {b:List UInt8} {f a:Nat} (h:onB b f a=false):∀n,Hh b f n a=a
 | 0=>rfl
 | n+1=>by rw [Hh,h];rfl
theorem ruleN_on {b:List UInt8} {f a:Nat} (h:onB b f a=true) (hf:f≤a):Hh b f (40-(a-f)) a=Hh b f (40-(a+1-f)) (a+1):=by
 have:a-f<40:=by
  unfold onB at h
  split at h
  ·cases h
  ·simp at h;exact h.1
 have e:40-(a-f)=(40-(a+1-f))+1:=by omega
 rw [e,Hh,h,if_pos rfl]
theorem onB_lt {b:List UInt8} {f a:Nat} (h:onB b f a=true):a<b.length:=by
 rcases VH a b.length with h' | h'
 ·exact h'
 ·unfold onB at h;rw [Vl h']at h;cases h
theorem lx_rule {H:Aa} {p f:Nat} {b:List UInt8} {r:List Ab} (h:Lx H p b f r) (hf:f≤b.length) (hb:b.length<1152921504606846976) (rest:List UInt8) (hr:rest.length≤1000000) :
  Sh.f20 (.ptr p 0 0) (.str rest) H=ruleO H p b r f (Hh b f 40 f) rest:=by
 unfold Sh.f20
 simp only [GMb,GMc,As,Ah,UY,ID h]
 have key:=Br (G:=fun rec1 vs H1=>Sh.f6l H rec1 (ag vs 0) (ag vs 1) (ag vs 2) H1) (σ:=Nat) (fun i=>f≤i∧i≤b.length) (fun _=>[.ptr p 0 0,.str rest,.int .i64 (f:Int)]) (fun i=>Cy H p b r i) (fun i=>b.length-i)
  (fun i=>ruleO H p b r f (Hh b f (40-(i-f)) i) rest) (fun i rec hi hrec=>?_) f ⟨Va _,hf⟩ (by omega)
 ·rw [EX h,V9,Nat.sub_zero]at key;exact key
 ·unfold Sh.f6l
  obtain ⟨h1,h2⟩:=hi
  have hx:=GV (a':=i) h
  have hend:=lx_rule_end h h1 h2 rest hr
  simp only [GMb,GMc,LG hx]
  by_cases e:i=b.length
  ·have ho:onB b f i=false:=by unfold onB;rw [e,Vl (Va _)]
   rw [Pb ho]
   simp only [e,GMb,GMc]at hend ⊢
   exact hend
  ·have hlt:i<b.length:=by omega
   have hw:IntKind.i64.wrap ((i:Int)-(f:Int))=((i-f:Nat):Int):=by rw [An] <;> omega
   simp only [e,GMb,GMc,As,Ah,UY,ID hx,lx_b hx,hw]
   by_cases h40:i-f<40
   ·have h40':((i-f:Nat):Int)<40:=by omega
    simp only [h40',GMb,GMc,Ah,UY,ID hx,lx_b hx,ML hlt,q_sign]
    cases hs:Lu b[i]with
    | true=>
     have ho:onB b f i=true:=by unfold onB;rw [UU hlt];simp [h40,hs]
     rw [ruleN_on ho h1]
     simp only [GMb,GMc,ID hx,Aw (show i<9223372036854775807 by omega),MC h]
     exact hrec (i+1) ⟨by omega,by omega⟩ (by omega)
    | false=>
     have ho:onB b f i=false:=by unfold onB;rw [UU hlt];simp [hs]
     rw [Pb ho]
     simpa only [GMb,GMc,As,Ah,UY,ID hx]using hend
   ·have h40':¬((i-f:Nat):Int)<40:=by omega
    have ho:onB b f i=false:=by unfold onB;rw [UU hlt];simp [h40]
    rw [Pb ho]
    simpa only [h40',GMb,GMc,As,Ah,UY,ID hx]using hend
def eolN (b:List UInt8) (a:Nat):Nat:=if a=b.length then a else if CA b (crN b a) [10]then crN b a+1 else crN b a
theorem eolN_le {b:List UInt8} {a:Nat} (ha:a≤b.length):eolN b a≤b.length:=by
 unfold eolN
 split
 ·exact ha
 ·split
  ·rename_i h;exact Ih h
  ·exact crN_le ha
theorem ruleN_le {b:List UInt8} {f:Nat}:∀(n a:Nat),a≤b.length→a≤Hh b f n a∧Hh b f n a≤b.length
 | 0,a,h=>⟨Va _,h⟩
 | n+1,a,h=>by
  rw [Hh]
  cases ho:onB b f a with
  | true=>have:=ruleN_le (b:=b) (f:=f) n (a+1) (onB_lt ho);simp only [if_true];omega
  | false=>simp only [Vd,if_false];omega
abbrev Er:=Option (Int×List UInt8)
def codeR:Er→Int
 | none=>0
 | some e=>e.1
@[simp] theorem codeR_none:codeR none=0:=rfl
@[simp] theorem codeR_some (e:Int×List UInt8):codeR (some e)=e.1:=rfl
def Q5 (b:List UInt8) (a:Nat) (s:List UInt8):Int×List UInt8:=if a=b.length then (3,s)else (2,[])
def Ev (b:List UInt8) (a:Nat) (s rest:List UInt8):Er×Nat:=(if cpN (b.drop a) s<s.length then some (Q5 b (litN b a s) (s.drop (cpN (b.drop a) s)++rest))else none,litN b a s)
def Jo (b:List UInt8) (a:Nat) (rest:List UInt8):Er×Nat:=(if a=b.length then none else if CA b (crN b a) [10]then none else some (Q5 b (crN b a) (10::rest)),eolN b a)
def NP (b:List UInt8) (f:Nat) (rest:List UInt8):Er×Nat:=(if Hh b f 40 f=f then some (Q5 b f (97::rest))else none,Hh b f 40 f)
def IZ:List UInt8:=[48,49,50,51,52,53,54,55,56,57]
def LE (b:List UInt8) (f:Nat) (rest:List UInt8):Nat→Nat→Er×Nat
 | 0,a=>(none,a)
 | n+1,a=>
  if CA b a IZ then
   if f<a∧b[f]? = some 48 then (some (Q5 b a []),a)
   else if a-f=400 then (some (4,[]),a)
   else LE b f rest n (a+1)
  else if a=f then (some (Q5 b a (49::rest)),a)else (none,a)
def Pp (b:List UInt8) (a:Nat) (neg:Bool):Nat:=if neg&&CA b a [45]then a+1 else a
def GK (b:List UInt8) (a:Nat) (neg:Bool) (rest:List UInt8):Er×Nat:=
 if neg&&CA b a [45]&&CA b (a+1) [48]then (some (Q5 b (a+1) []),a+1)else LE b (Pp b a neg) rest 402 (Pp b a neg)
def usualL:List UInt8:=[66,51,47,83,50,51]
def Mz (er:Er):Prop:=∀e,er=some e→0<e.1∧e.1≤4
theorem Mz.none:Mz none:=fun e h=>by cases h
theorem Mz.stp (b:List UInt8) (a:Nat) (s:List UInt8):Mz (some (Q5 b a s)):=fun e h=>by
 injection h with h;subst h;unfold Q5;split <;> simp
theorem Mz.lim:Mz (some (4,[])):=fun e h=>by injection h with h;subst h;simp
theorem RT (b:List UInt8) (a:Nat) (s rest:List UInt8):Mz (Ev b a s rest).1:=by
 unfold Ev;split
 ·exact .stp _ _ _
 ·exact .none
theorem endS_er (b:List UInt8) (a:Nat) (rest:List UInt8):Mz (Jo b a rest).1:=by
 unfold Jo;split
 ·exact .none
 ·split
  ·exact .none
  ·exact .stp _ _ _
theorem rulS_er (b:List UInt8) (f:Nat) (rest:List UInt8):Mz (NP b f rest).1:=by
 unfold NP;split
 ·exact .stp _ _ _
 ·exact .none
theorem numS_er (b:List UInt8) (f:Nat) (rest:List UInt8):∀n a,Mz (LE b f rest n a).1
 | 0,a=>.none
 | n+1,a=>by
  unfold LE
  split
  ·split
   ·exact .stp _ _ _
   ·split
    ·exact .lim
    ·exact numS_er b f rest n (a+1)
  ·split
   ·exact .stp _ _ _
   ·exact .none
theorem intS_er (b:List UInt8) (a:Nat) (neg:Bool) (rest:List UInt8):Mz (GK b a neg rest).1:=by
 unfold GK;split
 ·exact .stp _ _ _
 ·exact numS_er _ _ _ _ _
theorem Lx.push {H G:Aa} {p a:Nat} {b:List UInt8} {r:List Ab} (h:Lx H p b a r):Lx (H++G) p b a r:=by
 have:p<H.length:=by
  rcases VH p H.length with h' | h'
  ·exact h'
  ·unfold Lx at h;rw [Vl h']at h;cases h
 unfold Lx
 rw [UW this];exact h
theorem digs_mem (c:UInt8):([48,49,50,51,52,53,54,55,56,57]:List UInt8).contains c=decide (48≤c.toNat∧c.toNat≤57):=by
 simp only [List.contains_eq_mem,V7,List.not_mem_nil,or_false,decide_eq_decide,←W8]
 simp only [UInt8.reduceToNat]
 omega

def N6 (b:List UInt8) (f:Nat) (rest:List UInt8):Nat→Nat→Option Ab×Nat
 | 0,a=>(none,a)
 | n+1,a=>
  if CA b a IZ then
   if f<a∧b[f]? = some 48 then (some (Qc b a []),a)
   else if a-f=400 then (some (So 4 []),a)
   else N6 b f rest n (a+1)
  else if a=f then (some (Qc b a (49::rest)),a)else (none,a)
theorem numR_le (b:List UInt8) (f:Nat) (rest:List UInt8):∀n a,a≤b.length→a≤(N6 b f rest n a).2∧(N6 b f rest n a).2≤b.length
 | 0,a,h=>⟨Va _,h⟩
 | n+1,a,h=>by
  unfold N6
  by_cases hs:CA b a IZ=true
  ·rw [if_pos hs]
   by_cases h1:f<a∧b[f]? = some 48
   ·rw [if_pos h1];exact ⟨Va _,h⟩
   ·rw [if_neg h1]
    by_cases h2:a-f=400
    ·rw [if_pos h2];exact ⟨Va _,h⟩
    ·rw [if_neg h2]
     have:=numR_le b f rest n (a+1) (Ih hs)
     exact ⟨by omega,this.2⟩
  ·rw [if_neg hs]
   by_cases h1:a=f
   ·rw [if_pos h1];exact ⟨Va _,h⟩
   ·rw [if_neg h1];exact ⟨Va _,h⟩
theorem numR_on {b:List UInt8} {f a:Nat} {rest:List UInt8} {n:Nat} (hs:CA b a IZ=true) (h1:¬(f<a∧b[f]? = some 48)) (h2:¬a-f=400):N6 b f rest (n+1) a=N6 b f rest n (a+1):=by
 rw [N6,if_pos hs,if_neg h1,if_neg h2]
noncomputable def numO (H0 K:Aa) (p:Nat) (b:List UInt8) (r:List Ab) (q from_:Ab):Option Ab×Nat→Out
 | (some v,e)=>some (.pan v,Cy K p b r e)
 | (none,e)=>Sh.f21 H0 (.ptr p 0 0) q from_ (Cy K p b r e)
theorem lx_num_loop {H0 K:Aa} {p f:Nat} {b:List UInt8} {r:List Ab} (h:Lx K p b f r) (hf:f≤b.length) (hb:b.length<1152921504606846976) (rest:List UInt8) (hr:rest.length≤1000000) (q from_:Ab) :
  Ao (fun rec2 vs H=>Sh.f3p H0 rec2 (ag vs 0) (ag vs 1) (ag vs 2) (ag vs 3) (ag vs 4) H) AQ [.ptr p 0 0,.str rest,q,from_,.int .i64 (f:Int)] K=numO H0 K p b r q from_ (N6 b f rest 402 f):=by
 have key:=Br (G:=fun rec2 vs H=>Sh.f3p H0 rec2 (ag vs 0) (ag vs 1) (ag vs 2) (ag vs 3) (ag vs 4) H) (σ:=Nat) (fun i=>f≤i∧i≤b.length∧i-f≤400) (fun _=>[.ptr p 0 0,.str rest,q,from_,.int .i64 (f:Int)]) (fun i=>Cy K p b r i) (fun i=>b.length-i)
  (fun i=>numO H0 K p b r q from_ (N6 b f rest (402-(i-f)) i)) (fun i rec hi hrec=>?_) f ⟨Va _,hf,by omega⟩ (by omega)
 ·rw [EX h,V9,Nat.sub_zero]at key;exact key
 ·obtain ⟨h1,h2,h3⟩:=hi
  have hx:=GV (a':=i) h
  have e:402-(i-f)=(401-(i-f))+1:=by omega
  have hcat:Ae .none .add (.str [49]) (.str rest)=some (.str (49::rest)):=FA (by simp only [List.length_cons,List.length_nil];omega)
  unfold Sh.f3p
  have hsee:=MB hx h2 IZ
  unfold IZ at hsee
  rw [e]
  have hseesd:CA b i [48,49,50,51,52,53,54,55,56,57]=CA b i IZ:=rfl
  simp only [GMb,GMc,hsee,hseesd]
  cases hs:CA b i IZ with
  | true=>
   have hlt:=Ih hs
   have hfl:f<b.length:=by omega
   have hw:IntKind.i64.wrap ((i:Int)-(f:Int))=((i-f:Nat):Int):=by rw [An] <;> omega
   have tail:¬(f<i∧b[f]? = some 48)→((Ae .none .sub (.int .i64 (i:Int)) (.int .i64 (f:Int))).bind fun x56=>
     (Ae .none .eql x56 (.int .i64 400)).bind fun x57=>
     Aj x57 (bK H0 (Sh.f3h (.ptr p 0 0) (Cy K p b r i)) fun x58 H59=>Sh.f3o H0 rec (.ptr p 0 0) (.str rest) q from_ (.int .i64 (f:Int)) H59)
      (Sh.f3o H0 rec (.ptr p 0 0) (.str rest) q from_ (.int .i64 (f:Int)) (Cy K p b r i)))=numO H0 K p b r q from_ (N6 b f rest (401-(i-f)+1) i):=by
    intro hn
    simp only [GMb,GMc,hw]
    by_cases h4:i-f=400
    ·have h4':((i-f:Nat):Int)=400:=by omega
     rw [N6,if_pos hs,if_neg hn,if_pos h4]
     simp only [h4',GMb,GMc,lx_limit]
     rfl
    ·have h4':¬((i-f:Nat):Int)=400:=by omega
     rw [numR_on hs hn h4]
     unfold Sh.f3o
     simp only [h4',GMb,GMc,As,Ah,UY,ID hx,Aw (show i<9223372036854775807 by omega),MC h]
     have:=hrec (i+1) ⟨by omega,by omega,by omega⟩ (by omega)
     rw [show 402-(i+1-f)=401-(i-f)by omega]at this
     exact this
   by_cases hfi:f<i
   ·have hfi':(i:Int)>(f:Int):=by omega
    simp only [GMb,GMc,As,Ah,UY,ID hx,lx_b hx,hfi',ML hfl,Ai]
    by_cases h0:b[f]=48
    ·rw [N6,if_pos hs,if_pos ⟨hfi,by rw [UU hfl,h0]⟩]
     simp only [h0,GMb,GMc,MA hx]
     rfl
    ·have h0':¬((b[f].toNat:Int)=48):=fun hc=>h0 (W8.1 (by show b[f].toNat=48;omega))
     simp only [h0',GMb,GMc]
     exact tail (fun hc=>h0 (by have:=hc.2;rw [UU hfl]at this;exact WG this))
   ·have hfi':¬(i:Int)>(f:Int):=by omega
    simp only [GMb,GMc,As,Ah,UY,ID hx,hfi',Ai]
    exact tail (fun hc=>hfi hc.1)
  | false=>
   rw [N6,if_neg (by rw [hs];exact Bool.false_ne_true)]
   simp only [GMb,GMc,As,Ah,UY,ID hx,Ai]
   by_cases he:i=f
   ·have he':(i:Int)=(f:Int):=by omega
    rw [if_pos he]
    simp only [he',GMb,GMc,hcat,MA hx]
    rfl
   ·have he':¬(i:Int)=(f:Int):=by omega
    rw [if_neg he]
    simp only [he',GMb,GMc]
    rfl
theorem SE (n:Nat):0<(Dx n).length:=by
 unfold Dx
 split <;> simp
section
variable {H:Aa} {id g i:Nat} {L:List (List UInt8)}
end
theorem Iz {n:Nat} (h:n<10):Dx n=[UInt8.ofNat (48+n)]:=by unfold Dx;rw [dif_pos h]
theorem SF {n:Nat} (h:¬n<10):Dx n=Dx (n / 10)++[UInt8.ofNat (48+n%10)]:=by
 conv=>lhs;unfold Dx
 rw [dif_neg h]
theorem PJ (n:Nat) (h:n≠0):∃c r,Dx n=c::r∧c≠48:=by
 induction n using Nat.strongRecOn with
 | ind n ih=>
  by_cases hn:n<10
  ·refine ⟨_,_,Iz hn,fun e=>?_⟩
   have:=congrArg UInt8.toNat e
   rw [Wy (show 48+n<256 by omega)]at this
   have h48:(48:UInt8).toNat=48:=rfl
   omega
  ·obtain ⟨c,r,h1,h2⟩:=ih (n / 10) (by omega) (by omega)
   exact ⟨c,r++[UInt8.ofNat (48+n%10)],by rw [SF hn,h1];rfl,h2⟩
theorem pow10_up {a b:Nat} (h:a≤b):10^a≤10^b:=V6 (by omega) h
theorem decZ_zero:DA 0=[48]:=by
 unfold DA
 rw [if_neg (by decide)]
 exact Iz (by decide)
def HG (c:UInt8):Bool:=decide (48≤c.toNat)&&decide (c.toNat≤57)
def HP (s:List UInt8):Nat:=(s.takeWhile HG).length
theorem digN_le (s:List UInt8):HP s≤s.length:=(List.takeWhile_sublist HG).length_le
theorem PG (c:UInt8) (s:List UInt8):HP (c::s)=if HG c then HP s+1 else 0:=by
 unfold HP
 rw [Xz]
 split <;> simp
theorem byteAt (s:List UInt8) (pos:Nat) (h:pos<s.length):((⟨s.toArray⟩:ByteArray)[pos]'(by show pos<s.toArray.size;simpa using h))=s[pos]:=by
 show s.toArray[pos]=s[pos]
 simp
theorem idx_from (s:List UInt8):∀(f pos:Nat),pos≤s.length→s.length-pos≤f→Lib.idxFuncFrom KT true ⟨s.toArray⟩ f pos=if pos+HP (s.drop pos)<s.length then ((pos+HP (s.drop pos):Nat):Int)else -1
 | 0,pos,h1,h2=>by
  have:pos=s.length:=by omega
  subst this
  rw [Lib.idxFuncFrom,if_neg (by omega)]
 | f+1,pos,h1,h2=>by
  have hsz:(⟨s.toArray⟩:ByteArray).size=s.length:=by simp [ByteArray.size]
  unfold Lib.idxFuncFrom
  rw [hsz]
  by_cases hp:pos<s.length
  ·rw [if_pos hp,V4 hp,PG]
   have hb:=byteAt s pos hp
   by_cases ha:s[pos].toNat<128
   ·rw [decode_ascii ⟨s.toArray⟩ pos (by omega) (by rw [hb];exact ha),hb]
    simp only []
    by_cases hd:HG s[pos]=true
    ·have hnd:KT s[pos].toNat=false:=by
      simp only [HG,Vh,decide_eq_true_eq]at hd
      simp only [KT,Xv,decide_eq_false_iff_not]
      omega
     rw [hnd,if_neg (by simp),if_pos hd,idx_from s f (pos+1) (by omega) (by omega)]
     rw [show pos+(HP (s.drop (pos+1))+1)=pos+1+HP (s.drop (pos+1))by omega]
    ·have hnd:KT s[pos].toNat=true:=by
      simp only [HG,Vh,decide_eq_true_eq]at hd
      simp only [KT,Wa,decide_eq_true_eq]
      omega
     rw [hnd,if_pos rfl,if_neg hd,if_pos (by omega)]
     rfl
   ·obtain ⟨k1,k2⟩:=decode_high ⟨s.toArray⟩ pos (by omega) (by rw [hb];omega)
    have hd:¬HG s[pos]=true:=by
     simp only [HG,Vh,decide_eq_true_eq]
     omega
    have hnd:KT (Utf8.decode ⟨s.toArray⟩ pos).1=true:=by
     simp only [KT,Wa,decide_eq_true_eq]
     omega
    rw [hnd,if_pos rfl,if_neg hd,if_pos (by omega)]
    rfl
  ·rw [if_neg hp,if_neg (by omega)]
theorem idx_dig (s:List UInt8):Lib.idxFunc KT true ⟨s.toArray⟩=if HP s<s.length then (HP s:Int)else -1:=by
 have hsz:(⟨s.toArray⟩:ByteArray).size=s.length:=by simp [ByteArray.size]
 have:=idx_from s s.length 0 (Vy _) (by omega)
 rw [UY,WB]at this
 rw [Lib.idxFunc,hsz,this]
def digA (s:List UInt8) (at':Int):Nat:=if at'<0 then 0 else HP (s.drop at'.toNat)
theorem q_digits (s:List UInt8) (at':Int) (H:Aa) (hs:s.length<1152921504606846976):Sh.f3k (.str s) (.int .i64 at') H=some (.ret (.int .i64 (digA s at')),H):=by
 unfold Sh.f3k digA
 by_cases h0:at'<0
 ·simp only [GMb,GMc,h0,if_true]
  rfl
 ·obtain ⟨a,rfl⟩:∃a:Nat,at'=(a:Int):=⟨at'.toNat,by omega⟩
  simp only [GMb,GMc,h0,if_false,IS,Int.toNat_natCast]
  by_cases h1:a≤s.length
  ·have h1':¬((a:Int)>(s.length:Int)):=by omega
   have hsl:Cq (.str s) (some (.int .i64 (a:Int))) none=some (.str (s.drop a)):=by
    simp [Cq,Bq,h1]
   have hi:Sh.f1y (.str (s.drop a)) (.fn 235 []) H=some (.ret (.int .i64 (if HP (s.drop a)<(s.drop a).length then (HP (s.drop a):Int)else -1)),H):=by
    unfold Sh.f1y
    simp only [idx_dig]
   have hle:=digN_le (s.drop a)
   simp only [h1',GMb,GMc,hsl]
   by_cases hd:HP (s.drop a)<(s.drop a).length
   ·have:¬((HP (s.drop a):Int)<0):=by omega
    rw [hi,if_pos hd]
    simp only [this,GMb,GMc]
   ·have e:HP (s.drop a)=(s.drop a).length:=by omega
    rw [hi,if_neg hd]
    simp only [show ((-1:Int)<0) from by decide,GMb,GMc,IS,←e]
  ·have h1':(a:Int)>(s.length:Int):=by omega
   rw [Ws (by omega)]
   simp only [h1',GMb,GMc]
   rfl
def HQ (s:List UInt8):Nat:=s.foldl (fun v c=>v*10+(c.toNat-48)) 0
theorem MR (s:List UInt8) (c:UInt8):HQ (s++[c])=HQ s*10+(c.toNat-48):=by simp [HQ]
theorem SD {s:List UInt8} (h:HP s=s.length):∀c∈s,HG c=true:=by
 induction s with
 | nil=>intro c hc;cases hc
 | cons x s ih=>
  rw [PG]at h
  by_cases hx:HG x=true
  ·rw [if_pos hx,List.length_cons]at h
   intro c hc
   rcases V7.1 hc with e | e
   ·rw [e];exact hx
   ·exact ih (by omega) c e
  ·rw [if_neg hx]at h
   simp at h
theorem Ey (c:UInt8):HG c=true↔48≤c.toNat∧c.toNat≤57:=by simp [HG]
theorem decV_lt {s:List UInt8} (h:∀c∈s,HG c=true):∀i,i≤s.length→HQ (s.take i)<10^i
 | 0,_=>by simp [HQ]
 | i+1,hi=>by
  have:=decV_lt h i (by omega)
  have hc:=(Ey _).1 (h _ (Vi (show i<s.length by omega)))
  rw [Vf (by omega),MR,Nat.pow_succ]
  omega
def Na (s:List UInt8):Bool:=match s with
 | c::_=>c == 45
 | []=>false
def Co (s:List UInt8):List UInt8:=if Na s then s.drop 1 else s
def MZ (s:List UInt8):Bool:=Co s == []||decide (HP (Co s)<(Co s).length)||((Co s)[0]?.getD 0 == 48 && !(s == [48]))
def Gg (s:List UInt8):Int:=if MZ s then 2 else if (Co s).length>400 then 4 else 0
def Cc (s:List UInt8):Int:=if Gg s=0 then (if Na s then -(HQ (Co s):Int)else HQ (Co s))else 0
theorem q_cutprefix (s:List UInt8) (H:Aa) (hs:s.length<1152921504606846976):Sh.f3j (.str s) (.str [45]) H=some (.ret (.tup [.str (Co s),.bool (Na s)]),H):=by
 have hp:Sh.f3i (.str s) (.str [45]) H=some (.ret (.bool (Na s)),H):=by
  unfold Sh.f3i
  cases s with
  | nil=>simp [CG,Na]
  | cons c r=>
   have h1:((c::r).length:Int)≥(([45]:List UInt8).length:Int):=by simp;omega
   have h2:Cq (.str (c::r)) none (some (.int .i64 (([45]:List UInt8).length:Int)))=some (.str [c]):=by
    rw [slice_str_to (by simp)];rfl
   simp only [IS,GMb,GMc,h1,h2,Ms]
   simp [Na]
 unfold Sh.f3j Sh.f6m
 cases hb:Na s with
 | false=>simp only [GMb,GMc,hp,hb,B3,BB,Co,Vd,if_false]
 | true=>
  have h2:Cq (.str s) (some (.int .i64 (([45]:List UInt8).length:Int))) none=some (.str (s.drop 1)):=by
   refine Ig (l:=1) ?_
   cases s with
   | nil=>cases hb
   | cons c r=>simp
  simp only [GMb,GMc,hp,hb,IS,h2,B3,BB,Co,if_true]
theorem next_dig {B:Aa} {d:List UInt8} {i:Nat} (h:i<d.length) (hd:d[i].toNat<128):Ob (.ptr B.length 0 0) (B++[.iter d i])=some (.tup [.bool true,.int .i64 (i:Int),.int .i32 (d[i].toNat:Int)],B++[.iter d (i+1)]):=by
 have hb:=byteAt d i h
 have hdec:=decode_ascii ⟨d.toArray⟩ i (by show i<d.toArray.size;simpa using h) (by rw [hb];exact hd)
 simp only [Ob,List.getElem?_concat_length,h,if_true,hdec,hb,Bh]
theorem next_end {B:Aa} {d:List UInt8}:Ob (.ptr B.length 0 0) (B++[.iter d d.length])=some (.tup [.bool false],B++[.iter d d.length]):=by
 simp [Ob]
theorem fin_big {H G:Aa} {zb:List Ab} {neg:Bool} {l:List Nat} {tk:Tok} {e:Int} (hz:zb.length=2) :
  (bP H (AF (Ag 2 (.ptr H.length 0 0) (.agg [.bool neg,.sl (enL cU l) tk]) (H++(.cel 0 zb::G)))) fun _ H40=>(Fy [Ac true 2 (.ptr H.length 0 0) H40,some (.int .i64 e)]).bind fun x=>rPN H x H40)=some (.ret (.tup [.agg [.bool neg,.sl (enL cU l) .no],.int .i64 e]),H):=by
 have h1:Ag 2 (.ptr H.length 0 0) (.agg [.bool neg,.sl (enL cU l) tk]) (H++(.cel 0 zb::G))=some (H++(.cel 0 [.bool neg,.sl (enL cU l) tk]::G)):=by
  rw [JU,M4 (vs:=[.bool neg,.sl (enL cU l) tk]) rfl hz rfl]
  rfl
 have h2:Ac true 2 (.ptr H.length 0 0) (H++(.cel 0 [.bool neg,.sl (enL cU l) tk]::G))=some (.agg [.bool neg,.sl (enL cU l) tk]):=by
  rw [Ic];rfl
 simp only [h1,GMb,GMc,h2,IJ,FS,Hf,Option.map_some,Cf,CQ,BN,Cd,FU,DU,EN,Ho,ND,Fe]
theorem big_zero:Ab.agg [.bool false,.sl (enL cU []) .no]=big 0:=by
 rw [SX,show (0:Int).natAbs=0 from rfl,DJ]
 rfl
theorem big_of {neg:Bool} {n:Nat} (h:neg=true→n≠0):Ab.agg [.bool neg,.sl (enL cU (A7 n)) .no]=big (if neg then -(n:Int)else n):=by
 have h1:=big_sgn neg n
 have h2:sgn neg n=neg:=by
  unfold sgn
  cases neg with
  | false=>rfl
  | true=>simp [h rfl]
 rw [h2]at h1
 rw [h1]
 rfl
theorem ST:AD (some [(.bool false),(.sl [] .tight)]) []=some (.agg [.bool false,.sl (enL cU []) .tight]):=rfl
theorem build_both {neg:Bool} {es:List (List Ab)} {tk:Tok}:AD (some [(.bool false),(.sl [] .tight)]) [(0,1,.bool neg),(1,1,.sl es tk)]=some (.agg [.bool neg,.sl es tk]):=by simp [AD,FV,Dp]
theorem syn_dig {s:List UInt8} (h:MZ s=false):Co s≠[]∧HP (Co s)=(Co s).length∧((Co s)[0]?.getD 0=48→s=[48]):=by
 unfold MZ at h
 simp only [Xv,WD,beq_eq_false_iff_ne,decide_eq_false_iff_not,ne_eq,XB,beq_iff_eq]at h
 have:=digN_le (Co s)
 refine ⟨h.1.1,by omega,fun h0=>?_⟩
 rcases h.2 with h3 | h3
 ·exact absurd h0 h3
 ·exact h3
theorem decV_cons (c:UInt8) (s:List UInt8):HQ (c::s)=(c.toNat-48)*10^s.length+HQ s:=by
 have key:∀(s:List UInt8) (v:Nat),s.foldl (fun v c=>v*10+(c.toNat-48)) v=v*10^s.length+HQ s:=by
  intro s
  induction s with
  | nil=>intro v;simp [HQ]
  | cons x s ih=>
   intro v
   rw [List.foldl_cons,ih,List.length_cons,Nat.pow_succ]
   have e:HQ (x::s)=(x.toNat-48)*10^s.length+HQ s:=by
    have:=ih (0*10+(x.toNat-48))
    rw [X2,UY]at this
    unfold HQ
    rw [List.foldl_cons,X2,UY]
    exact this
   rw [e,VM,WK v 10,Wr 10]
   omega
 have:=key s (0*10+(c.toNat-48))
 rw [X2,UY]at this
 conv=>lhs;unfold HQ
 rw [List.foldl_cons,X2,UY]
 exact this
theorem decV_ne {s:List UInt8} (h:MZ s=false) (hn:Na s=true):HQ (Co s)≠0:=by
 obtain ⟨h1,h2,h3⟩:=syn_dig h
 cases hd:Co s with
 | nil=>exact absurd hd h1
 | cons c r=>
  rw [decV_cons]
  have hc:=SD h2 c (by rw [hd];simp)
  rw [Ey]at hc
  have h48:c.toNat≠48:=fun e=>by
   have:c=48:=UInt8.toNat.inj e
   have:=h3 (by rw [hd,this];rfl)
   rw [this]at hn
   cases hn
  have:1≤10^r.length:=Xa (by omega)
  have:1≤(c.toNat-48)*10^r.length:=Nat.mul_pos (by omega) this
  omega
theorem wrap_i32 {n:Int} (h0:-2147483648≤n) (h:n≤2147483647):IntKind.i32.wrap n=n:=by
 have h1:IntKind.i32.bits=32:=rfl
 have h2:IntKind.i32.signed=true:=rfl
 unfold IntKind.wrap
 simp only [h1,h2,VW]
 split <;> rename_i hc <;> simp at hc <;> omega
theorem wrap_dig {c:UInt8} (h:HG c=true):IntKind.i32.wrap ((c.toNat:Int)-48)=((c.toNat-48:Nat):Int):=by
 rw [Ey]at h
 rw [wrap_i32 (by omega) (by omega)]
 omega
theorem lims_short2 {n m:Nat} (h:n<10^m) (hm:m≤4096):(A7 n).length≤4096:=Sc (n:=n) (VR (m:=10^m) h (pow10_up (a:=m) (b:=4096) hm))
theorem q_parse (s:List UInt8) (H:Aa) (hs:s.length<1152921504606846976):Sh.f3n (.str s) H=some (.ret (.tup [big (Cc s),.int .i64 (Gg s)]),H):=by
 unfold Sh.f3n
 have htl:(Co s).length≤s.length:=by unfold Co;split <;> simp
 have hcp:=q_cutprefix s (H++[Blk.cel 0 [.bool false,.sl [] .tight]]) hs
 have hdg:=q_digits (Co s) 0 (H++[Blk.cel 0 [.bool false,.sl [] .tight]]) (by omega)
 have hd0:(digA (Co s) 0:Int)=(HP (Co s):Int):=by simp [digA]
 rw [hd0]at hdg
 simp only [alloc_eq (cs:=[.bool false,.sl [] .tight]) rfl,Bu,hcp,GMb,GMc,B3,BB,Ms]
 have tail:Sh.f6o H (.ptr H.length 0 0) (.str (Co s)) (.bool (Na s)) (.bool (MZ s)) (H++[Blk.cel 0 [.bool false,.sl [] .tight]])=some (.ret (.tup [big (Cc s),.int .i64 (Gg s)]),H):=by
  unfold Sh.f6o
  cases hsyn:MZ s with
  | true=>
   have hE:Gg s=2:=by simp [Gg,hsyn]
   have hZ:Cc s=0:=by simp [Cc,hE]
   rw [hE,hZ,←big_zero]
   simp only [GMb,GMc,ST]
   exact fin_big rfl
  | false=>
   obtain ⟨n1,n2,n3⟩:=syn_dig hsyn
   simp only [GMb,GMc,IS]
   by_cases hl:(Co s).length>400
   ·have hl':((Co s).length:Int)>400:=by omega
    have hE:Gg s=4:=by simp [Gg,hsyn,hl]
    have hZ:Cc s=0:=by simp [Cc,hE]
    rw [hE,hZ,←big_zero]
    simp only [hl',GMb,GMc,ST]
    exact fin_big rfl
   ·have hl':¬((Co s).length:Int)>400:=by omega
    have hE:Gg s=0:=by simp [Gg,hsyn,hl]
    have hZ:Cc s=(if Na s then -(HQ (Co s):Int)else HQ (Co s)):=by simp [Cc,hE]
    have hne:=decV_ne hsyn
    have hall:=SD n2
    have hlt:=decV_lt hall
    rw [hE,hZ,←big_of (neg:=Na s) hne]
    generalize hd:Co s=d at *
    simp only [hl',GMb,GMc]
    have hrg:N2 (.str d) (H++[Blk.cel 0 [.bool false,.sl [] .tight]])=some (.ptr (H.length+1) 0 0,H++[.cel 0 [.bool false,.sl [] .tight]]++[.iter d 0]):=by simp [N2]
    simp only [hrg,GMb,GMc]
    have hBl:(H++[Blk.cel 0 [.bool false,.sl [] .tight]]).length=H.length+1:=by simp
    obtain ⟨tkf,htk⟩:∃tkf:Nat→Tok,tkf=fun i=>if i=0 then .tight else .no:=⟨_,rfl⟩
    have key:=Cg (G:=fun rec2 vs H1=>Sh.f3m H rec2 (ag vs 0) (ag vs 1) (ag vs 2) (ag vs 3) H1) d.length (fun i=>[.ptr H.length 0 0,.bool (Na s),.sl (enL cU (A7 (HQ (d.take i)))) (tkf i),.ptr (H.length+1) 0 0])
     (fun i=>H++[.cel 0 [.bool false,.sl [] .tight]]++[.iter d i]) (some (.ret (.tup [.agg [.bool (Na s),.sl (enL cU (A7 (HQ d))) .no],.int .i64 0]),H)) (by omega) (fun rec i hi=>?_) (fun rec=>?_)
    ·rw [List.take_zero,show HQ []=0 from rfl,DJ,htk]at key
     exact key
    ·have hdi:=hall _ (Vi hi)
     have hdi2:=(Ey _).1 hdi
     have hnx:=next_dig (B:=H++[Blk.cel 0 [.bool false,.sl [] .tight]]) hi (by omega)
     rw [hBl]at hnx
     have hw:=wrap_dig hdi
     have hcv:AK .u32 (.int .i32 ((d[i].toNat-48:Nat):Int))=some (.int .u32 ((d[i].toNat-48:Nat):Int)):=by rw [B7,CY (by omega) (by omega)]
     have hsh:=lims_short2 (hlt i (by omega)) (by omega)
     have hml:=fun H=>q_mul (l:=A7 (HQ (d.take i))) (tk:=tkf i) (m:=10) (c:=d[i].toNat-48) H (Bt _) (by omega) (by omega) (by omega)
     simp only [Bz,←MR,←Vf hi,show ((10:Nat):Int)=10 from rfl]at hml
     have htk1:tkf (i+1)=.no:=by rw [htk];rfl
     unfold Sh.f3m
     simp only [Ak,Ai,hnx,GMb,GMc,B3,show ∀(x y z:Ab),Av 2 (.tup [x,y,z])=some z from fun _ _ _=>rfl,show ∀(x y z:Ab),Av 0 (.tup [x,y,z])=some x from fun _ _ _=>rfl,hw,hcv,hml,htk1]
    ·have hnx:=next_end (B:=H++[Blk.cel 0 [.bool false,.sl [] .tight]]) (d:=d)
     rw [hBl]at hnx
     unfold Sh.f3m
     simp only [Ak,Ai,hnx,GMb,GMc,show ∀(x:Ab),Av 0 (.tup [x])=some x from fun _=>rfl,build_both,VO]
     rw [Vb H]
     exact fin_big rfl
 by_cases h0:Co s=[]
 ·have hsyn:MZ s=true:=by simp [MZ,h0]
  rw [hsyn]at tail
  simp only [h0,beq_self_eq_true,GMb,GMc,Ak,Ai]at tail ⊢
  exact tail
 ·have hb:(Co s == [])=false:=by simpa using h0
  simp only [hb,GMb,GMc,hdg,IS]
  by_cases hlt:HP (Co s)<(Co s).length
  ·have hlt':(HP (Co s):Int)<((Co s).length:Int):=by omega
   have hsyn:MZ s=true:=by simp [MZ,hlt]
   rw [hsyn]at tail
   simp only [hlt',GMb,GMc,Ak,Ai]
   exact tail
  ·have hlt':¬(HP (Co s):Int)<((Co s).length:Int):=by omega
   obtain ⟨c,r,hcr⟩:=List.exists_cons_of_ne_nil h0
   have hix:Ez (.str (Co s)) (.int .i64 0)=some (.int .u8 (c.toNat:Int)):=by rw [hcr];exact idx_str0
   have hsyn:MZ s=((c == 48) && !(s == [48])):=by
    simp only [MZ,hb,decide_eq_false hlt,W4]
    rw [hcr]
    rfl
   have hcc:decide ((c.toNat:Int)=48)=(c == 48):=by
    rw [Vr]
    simp only [decide_eq_true_eq,beq_iff_eq]
    constructor
    ·intro h
     exact UInt8.toNat.inj (show c.toNat=(48:UInt8).toNat from by have:(48:UInt8).toNat=48:=rfl;omega)
    ·intro h;rw [h];rfl
   rw [hsyn]at tail
   simp only [hlt',GMb,GMc,hix,hcc,bin_sneq]
   cases hc48:(c == 48)with
   | false=>
    rw [hc48,Wo]at tail
    simp only [GMb,GMc,Ak,Ai]
    exact tail
   | true=>
    rw [hc48,VW]at tail
    simp only [GMb,GMc,Ak,Ai]
    exact tail
def hv (e:Int×List UInt8):Ab:=So e.1 e.2
def resE (er:Er) (v:Ab):Res:=match er with
 | none=>.ret v
 | some e=>.pan (hv e)
@[simp] theorem CW (v:Ab):resE none v=.ret v:=(rfl)
@[simp] theorem DH (e:Int×List UInt8) (v:Ab):resE (some e) v=.pan (hv e):=(rfl)
theorem Jv (b:List UInt8) (a:Nat) (s:List UInt8):Qc b a s=hv (Q5 b a s):=by
 unfold Qc hv Q5;split <;> rfl
section
variable {H:Aa} {p a:Nat} {b:List UInt8} {r:List Ab}
theorem lx_stopR (h:Lx H p b a r) (s:List UInt8):Sh.f9 (.ptr p 0 0) (.str s) H=some (.pan (hv (Q5 b a s)),H):=by
 rw [MA h,←Jv];rfl
theorem lx_endS (h:Lx H p b a r) (ha:a≤b.length) (hb:b.length<1152921504606846976) (rest:List UInt8) (hr:rest.length≤1000000) :
  Sh.fs (.ptr p 0 0) (.str rest) H=some (resE (Jo b a rest).1 (.tup []),Cy H p b r (Jo b a rest).2):=by
 rw [lx_end h ha hb rest hr]
 unfold endO Jo eolN
 by_cases e:a=b.length
 ·have hs:=EX h
  rw [e]at hs
  simp only [e,if_true,CW,hs]
 ·simp only [if_neg e]
  cases hs:CA b (crN b a) [10]with
  | true=>simp only [if_true,CW]
  | false=>simp only [Vd,if_false,DH,Jv]
theorem RX (h:Lx H p b a r) (ha:a≤b.length) (hb:b.length<1152921504606846976) (s rest:List UInt8) (hs:s.length≤1000000) (hr:rest.length≤1000000) :
  Sh.f12 (.ptr p 0 0) (.str s) (.str rest) H=some (resE (Ev b a s rest).1 (.tup []),Cy H p b r (Ev b a s rest).2):=by
 rw [lx_must h ha hb s rest hs hr]
 unfold mustO Ev litN
 by_cases e:cpN (b.drop a) s<s.length
 ·simp only [if_pos e,DH,Jv]
 ·simp only [if_neg e,CW]
theorem lx_ruleS (h:Lx H p b a r) (ha:a≤b.length) (hb:b.length<1152921504606846976) (rest:List UInt8) (hr:rest.length≤1000000) :
  Sh.f20 (.ptr p 0 0) (.str rest) H=some (resE (NP b a rest).1 (.str ((b.take (NP b a rest).2).drop a)),Cy H p b r (NP b a rest).2):=by
 rw [lx_rule h ha hb rest hr]
 unfold ruleO NP
 by_cases e:Hh b a 40 a=a
 ·simp only [e,if_true,DH,Jv]
 ·simp only [if_neg e,CW]
theorem numR_S (b:List UInt8) (f:Nat) (rest:List UInt8):∀n a,N6 b f rest n a=((LE b f rest n a).1.map hv,(LE b f rest n a).2)
 | 0,a=>rfl
 | n+1,a=>by
  rw [N6,LE]
  split
  ·split
   ·rw [Jv];rfl
   ·split
    ·rfl
    ·exact numR_S b f rest n (a+1)
  ·split
   ·rw [Jv];rfl
   ·rfl
theorem lx_lt (h:Lx H p b a r):p<H.length:=by
 rcases VH p H.length with h' | h'
 ·exact h'
 ·unfold Lx at h;rw [Vl h']at h;cases h
theorem TN {G:Aa} {e:Nat} (h:p<H.length):Cy (H++G) p b r e=Cy H p b r e++G:=by
 unfold Cy;rw [List.set_append_left _ _ h]
theorem lx_num_end (h:Lx H p b a r) {f e:Nat} (hfe:f≤e) (he:e≤b.length) (hb:b.length<1152921504606846976) (zb:List Ab) (hz:zb.length=2) :
  ∃G,Sh.f21 H (.ptr p 0 0) (.ptr H.length 0 0) (.int .i64 (f:Int)) (Cy H p b r e++[.cel 0 zb])=some (.ret (big (Cc ((b.take e).drop f))),Cy H p b r e++G):=by
 have hx:=GV (a':=e) h
 have hl:=setL_len H p e b r
 have hld0:∀G,Ac false 1 (.ptr p 0 0) (Cy H p b r e++G)=some (.str b):=fun G=>lx_b (Lx.push hx)
 have hld1:∀G,Ac false 1 (.ptr p 0 1) (Cy H p b r e++G)=some (.int .i64 (e:Int)):=fun G=>ID (Lx.push hx)
 unfold Sh.f21
 rw [←hl]
 generalize Cy H p b r e=K at *
 have hq:=fun H=>q_parse ((b.take e).drop f) H (by simp only [Vx,Vm];omega)
 obtain ⟨sg,es,hbig⟩:∃sg es,big (Cc ((b.take e).drop f))=.agg [.bool sg,.sl es .no]:=⟨_,_,SX _⟩
 rw [hbig]at hq ⊢
 refine ⟨[.cel 0 [.bool sg,.sl es .no],.cel 0 [.bool sg,.sl es .no]],?_⟩
 simp only [GMb,GMc,HPa,HPc,HPd,HPe,HPz,Nat.reduceAdd,Nat.reduceLT,hld0,hld1,TJ hfe he,hq,hz]
 rfl

end
theorem numS_le (b:List UInt8) (f:Nat) (rest:List UInt8):∀n a,a≤b.length→a≤(LE b f rest n a).2∧(LE b f rest n a).2≤b.length:=fun n a h=>by
 have:=numR_le b f rest n a h
 rw [numR_S]at this;exact this
theorem intF_le {b:List UInt8} {a:Nat} (ha:a≤b.length) (neg:Bool):a≤Pp b a neg∧Pp b a neg≤b.length:=by
 unfold Pp
 cases neg with
 | false=>exact ⟨Va _,ha⟩
 | true=>
  cases hs:CA b a [45]with
  | true=>have:=Ih hs;simp;omega
  | false=>simpa using ha
theorem QZ {b:List UInt8} {a:Nat} (ha:a≤b.length) (neg:Bool) (rest:List UInt8):a≤(GK b a neg rest).2∧(GK b a neg rest).2≤b.length:=by
 unfold GK
 have h1:=intF_le ha neg
 have h2:=numS_le b (Pp b a neg) rest 402 (Pp b a neg) h1.2
 split
 ·rename_i h
  simp only [Vh]at h
  have:=Ih h.2
  exact ⟨Xu _,by omega⟩
 ·omega
section
variable {H:Aa} {p a:Nat} {b:List UInt8} {r:List Ab}
theorem Uk (h:Lx H p b a r) {f:Nat} (haf:a≤f) (hf:f≤b.length) (hb:b.length<1152921504606846976) (rest:List UInt8) (hr:rest.length≤1000000) (zb:List Ab) (hz:zb.length=2) :
  ∃G,Sh.f3q H (.ptr p 0 0) (.str rest) (.ptr H.length 0 0) (.int .i64 (a:Int)) (Cy H p b r f++[.cel 0 zb])=some (resE (LE b f rest 402 f).1 (big (Cc ((b.take (LE b f rest 402 f).2).drop a))),Cy H p b r (LE b f rest 402 f).2++G):=by
 have hp:=lx_lt h
 have hx:Lx (Cy H p b r f++[.cel 0 zb]) p b f r:=Lx.push (GV h)
 have key:=lx_num_loop (H0:=H) hx hf hb rest hr (.ptr H.length 0 0) (.int .i64 (a:Int))
 have hle:=numS_le b f rest 402 f hf
 unfold Sh.f3q
 simp only [GMb,GMc,HPa,HPc,HPd,HPe,HPz,Nat.reduceAdd,Nat.reduceLT,ID hx]
 rw [key,numR_S]
 generalize LE b f rest 402 f=R at *
 obtain ⟨er,e⟩:=R
 have hpp:∀G:Aa,Cy (Cy H p b r f++G) p b r e=Cy H p b r e++G:=fun G=>by
  rw [TN (by rw [setL_len];exact hp),TM]
 cases er with
 | some v=>
  refine ⟨[.cel 0 zb],?_⟩
  show some (Res.pan (hv v),Cy _ p b r e)=_
  rw [hpp];rfl
 | none=>
  obtain ⟨G,hG⟩:=lx_num_end h (f:=a) (e:=e) (by dsimp only at hle;omega) hle.2 hb zb hz
  refine ⟨G,?_⟩
  show Sh.f21 H (.ptr p 0 0) (.ptr H.length 0 0) (.int .i64 (a:Int)) (Cy _ p b r e)=_
  rw [hpp,hG];rfl
theorem Uj (h:Lx H p b a r) (ha:a≤b.length) (hb:b.length<1152921504606846976) (neg:Bool) (rest:List UInt8) (hr:rest.length≤1000000) :
  ∃G,Sh.f22 (.ptr p 0 0) (.bool neg) (.str rest) H=some (resE (GK b a neg rest).1 (big (Cc ((b.take (GK b a neg rest).2).drop a))),Cy H p b r (GK b a neg rest).2++G):=by
 have hx:Lx (H++[.cel 0 [.bool false,.sl [] .tight]]) p b a r:=Lx.push h
 have hss:=EX h
 unfold Sh.f22
 have plain:Pp b a neg=a→GK b a neg rest=LE b a rest 402 a→∃G,Sh.f3q H (.ptr p 0 0) (.str rest) (.ptr H.length 0 0) (.int .i64 (a:Int)) (H++[.cel 0 [.bool false,.sl [] .tight]])=some (resE (GK b a neg rest).1 (big (Cc ((b.take (GK b a neg rest).2).drop a))),Cy H p b r (GK b a neg rest).2++G):=by
  intro e1 e2
  have:=Uk h (Va a) ha hb rest hr [.bool false,.sl [] .tight] rfl
  rw [hss]at this
  rw [e2];exact this
 cases neg with
 | false=>
  simp only [GMb,GMc,HPa,HPc,HPd,HPe,HPz,Nat.reduceAdd,Nat.reduceLT,ID hx]
  exact plain rfl rfl
 | true=>
  simp only [GMb,GMc,HPa,HPc,HPd,HPe,HPz,Nat.reduceAdd,Nat.reduceLT,ID hx,MB hx ha]
  cases hs:CA b a [45]with
  | false=>
   simp only [GMb,GMc,HPa,HPc,HPd,HPe,HPz,Nat.reduceAdd,Nat.reduceLT]
   exact plain (by simp [Pp,hs]) (by simp [GK,Pp,hs])
  | true=>
   have hlt:=Ih hs
   have hm:=MC (a':=a) hx (a+1)
   rw [EX hx]at hm
   have hx1:=GV (a':=a+1) hx
   have hpu:=TN (b:=b) (r:=r) (G:=[.cel 0 [.bool false,.sl [] .tight]]) (e:=a+1) (lx_lt h)
   simp only [GMb,GMc,HPa,HPc,HPd,HPe,HPz,Nat.reduceAdd,Nat.reduceLT,ID hx,Aw (show a<9223372036854775807 by omega),hm,MB hx1 (show a+1≤b.length by omega)]
   have e1:Pp b a true=a+1:=by simp [Pp,hs]
   cases h0:CA b (a+1) [48]with
   | true=>
    have e2:GK b a true rest=(some (Q5 b (a+1) []),a+1):=by simp [GK,hs,h0]
    rw [e2]
    refine ⟨[.cel 0 [.bool false,.sl [] .tight]],?_⟩
    simp only [GMb,GMc,HPa,HPc,HPd,HPe,HPz,Nat.reduceAdd,Nat.reduceLT,lx_stopR hx1]
    rw [hpu];rfl
   | false=>
    have e2:GK b a true rest=LE b (a+1) rest 402 (a+1):=by simp [GK,hs,h0,e1]
    rw [e2]
    have:=Uk h (f:=a+1) (by omega) hlt hb rest hr [.bool false,.sl [] .tight] rfl
    simp only [GMb,GMc,HPa,HPc,HPd,HPe,HPz,Nat.reduceAdd,Nat.reduceLT]
    rw [hpu]
    exact this

end
section
variable {H:Aa} {b:List UInt8} {a:Nat}
theorem Ext.push (b id:Nat) (hb:b≤H.length) (G:Aa):Ext b id H (H++G):=
 ⟨by simp,fun i c hi hc=>A1 hc,fun i hi=>UW (by omega)⟩
theorem J2 {s rest:List UInt8} (ha:a≤b.length):(Ev b a s rest).2≤b.length:=litN_le ha s
theorem rulS_le {rest:List UInt8} (ha:a≤b.length):a≤(NP b a rest).2∧(NP b a rest).2≤b.length:=ruleN_le 40 a ha
end
theorem endS_le {b:List UInt8} {a:Nat} (ha:a≤b.length) (rest:List UInt8):a≤(Jo b a rest).2∧(Jo b a rest).2≤b.length:=by
 refine ⟨?_,eolN_le ha⟩
 show a≤eolN b a
 unfold eolN crN
 split
 ·exact Va _
 ·split <;> split <;> omega
theorem M8 {r:Nat} (h:r<10):(UInt8.ofNat (48+r)).toNat=48+r:=Wy (show 48+r<256 by omega)
theorem decV_decN (n:Nat):HQ (Dx n)=n:=by
 induction n using Nat.strongRecOn with
 | ind n ih=>
  by_cases hn:n<10
  ·rw [Iz hn]
   have:=MR [] (UInt8.ofNat (48+n))
   rw [List.nil_append,M8 hn,show HQ []=0 from rfl]at this
   rw [this];omega
  ·rw [SF hn,MR,ih (n / 10) (by omega),M8 (W9 _ (by omega))]
   omega
theorem LX (n:Nat):∀c∈Dx n,HG c=true:=by
 induction n using Nat.strongRecOn with
 | ind n ih=>
  intro c hc
  by_cases hn:n<10
  ·rw [Iz hn,Vs]at hc
   rw [hc,Ey,M8 hn];omega
  ·rw [SF hn]at hc
   rcases Vt.1 hc with h | h
   ·exact ih (n / 10) (by omega) c h
   ·have:=W9 n (show 10>0 by omega)
    rw [Vs.1 h,Ey,M8 this];omega
theorem all_digN {s:List UInt8} (h:∀c∈s,HG c=true):HP s=s.length:=by
 induction s with
 | nil=>rfl
 | cons c s ih=>rw [PG,if_pos (h c (by simp)),ih fun x hx=>h x (by simp [hx])];rfl
theorem parse_ok {s:List UInt8} (h:Gg s=0):MZ s=false∧(Co s).length≤400:=by
 unfold Gg at h
 cases hs:MZ s with
 | true=>rw [hs]at h;simp at h
 | false=>
  rw [hs]at h
  simp only [Vd,if_false]at h
  refine ⟨rfl,?_⟩
  split at h
  ·cases h
  ·omega
theorem pow10_pos (k:Nat):Int.natAbs 0<10^k:=Xa (by omega)
theorem Ug (s:List UInt8):(Cc s).natAbs<10^400:=by
 unfold Cc
 split
 ·rename_i h
  obtain ⟨h1,h2⟩:=parse_ok h
  have hall:=SD (syn_dig h1).2.1
  have:=decV_lt hall (Co s).length (Va _)
  rw [VO]at this
  have h3:=VR this (pow10_up h2)
  split
  ·rw [XU,Int.natAbs_natCast];exact h3
  ·rw [Int.natAbs_natCast];exact h3
 ·exact pow10_pos 400
theorem decZ_sgn (z:Int):Na (DA z)=decide (z<0)∧Co (DA z)=Dx z.natAbs:=by
 unfold DA
 by_cases h:z<0
 ·rw [if_pos h,decide_eq_true h]
  exact ⟨rfl,rfl⟩
 ·rw [if_neg h,decide_eq_false h]
  have hb:Na (Dx z.natAbs)=false:=by
   cases hd:Dx z.natAbs with
   | nil=>rfl
   | cons c r=>
    have:=(Ey c).1 (LX z.natAbs c (by rw [hd];simp))
    simp only [Na,beq_eq_false_iff_ne]
    intro e
    rw [e]at this
    have h45:(45:UInt8).toNat=45:=rfl
    omega
  exact ⟨hb,by simp [Co,hb]⟩
theorem syn_text (z:Int):MZ (DA z)=false:=by
 obtain ⟨h1,h2⟩:=decZ_sgn z
 have hall:=LX z.natAbs
 have hp:=SE z.natAbs
 have hd:=all_digN hall
 unfold MZ
 rw [h2,hd,decide_eq_false (Nat.lt_irrefl _),Xt]
 have hne:(Dx z.natAbs == [])=false:=by
  cases hdd:Dx z.natAbs with
  | nil=>rw [hdd]at hp;simp at hp
  | cons c r=>rfl
 rw [hne,W4]
 by_cases h0:z.natAbs=0
 ·have:z=0:=by omega
  subst this
  rw [decZ_zero]
  simp
 ·obtain ⟨c,r,hc,hc48⟩:=PJ z.natAbs h0
  rw [hc]
  have:(c == 48)=false:=by simpa using hc48
  simp [this]
theorem RJ {z:Int} (h:(Dx z.natAbs).length≤400):Gg (DA z)=0∧Cc (DA z)=z:=by
 obtain ⟨h1,h2⟩:=decZ_sgn z
 have hE:Gg (DA z)=0:=by
  unfold Gg
  rw [syn_text,h2]
  simp only [Vd,if_false]
  rw [if_neg (by omega)]
 refine ⟨hE,?_⟩
 unfold Cc
 rw [if_pos hE,h1,h2,decV_decN]
 by_cases hz:z<0
 ·rw [decide_eq_true hz];simp only [if_true];omega
 ·rw [decide_eq_false hz];simp only [Vd,if_false];omega
end Go.Gm
