/- Texts of this proof, joined. -/
import Derived.Test.YtagddbecnkbcdaaGreatJ3
import Derived.Test.YtagddbecnkbcdaaGreatJ4
import Derived.Test.YtagddbecnkbcdaaGreatJ5
import Derived.Test.YtagddbecnkbcdaaGreatJ6
set_option linter.unusedVariables false
set_option linter.unusedSimpArgs false
namespace Go.Gm
structure PSt where
 law:List UInt8
 cells:List Cl
def JW:List UInt8:=[32]
def Nn:List UInt8:=[35,82,32]
def FL:List UInt8:=[35,76,105,102,101,32,49,46,48,54]
def lawP (b:List UInt8) (a:Nat) (st:PSt):(Er×Nat)×PSt:=
 match Ev b a Nn [97]with
 | (some e,c)=>((some e,c),st)
 | (none,c)=>match NP b c []with
  | (some e,d)=>((some e,d),st)
  | (none,d)=>((none,d),{ st with law:=(b.take d).drop c })
def Kd (b:List UInt8) (a:Nat) (st:PSt):(Er×Nat)×PSt:=
 match GK b a true [32,49]with
 | (some e,c)=>((some e,c),st)
 | (none,c)=>match Ev b c JW [49]with
  | (some e,d)=>((some e,d),st)
  | (none,d)=>match GK b d true []with
   | (some e,f)=>((some e,f),st)
   | (none,f)=>((none,f),{ st with cells:=st.cells++[⟨Cc ((b.take c).drop a),Cc ((b.take f).drop d),1⟩] })
def Om (b:List UInt8) (a:Nat) (st:PSt):(Er×Nat)×PSt:=if CA b a [35]then lawP b a st else Kd b a st
def endP (b:List UInt8) (s:(Er×Nat)×PSt):(Er×Nat)×PSt:=match s with
 | ((some e,c),st')=>((some e,c),st')
 | ((none,c),st')=>(Jo b c [],st')
def Q7 (b:List UInt8) (a:Nat) (st:PSt):(Er×Nat)×PSt:=endP b (Om b a st)
def Gk (b:List UInt8):Nat→Nat→PSt→(Er×Nat)×PSt
 | 0,a,st=>((none,a),st)
 | k+1,a,st=>
  if a=b.length then ((none,a),st)
  else match Q7 b a st with
   | ((some e,c),st')=>((some e,c),st')
   | ((none,c),st')=>Gk b k c st'
def Mw (b:List UInt8) (st:PSt):(Er×Nat)×PSt:=
 match Ev b 0 FL []with
 | (some e,c)=>((some e,c),st)
 | (none,c)=>match Jo b c []with
  | (some e,d)=>((some e,d),st)
  | (none,d)=>Gk b (b.length+1) d st
structure LineP (b:List UInt8) (a:Nat) (st:PSt) (s:(Er×Nat)×PSt):Prop where
 le:s.1.2≤b.length
 go:s.1.1=none→a<s.1.2
 cn:s.2.cells.length≤st.cells.length+1
 ok:(∀c∈st.cells,c.ok)→∀c∈s.2.cells,c.ok
theorem pz_ok (s t:List UInt8) (x:UInt8):Cl.ok ⟨Cc s,Cc t,x⟩:=by
 have h:(10:Nat)^400<4294967296^100:=by decide +kernel
 exact ⟨Nat.lt_trans (Ug s) h,Nat.lt_trans (Ug t) h⟩
theorem RR {b:List UInt8} {a:Nat} {s rest:List UInt8} (ha:a≤b.length) (h:(Ev b a s rest).1=none):(Ev b a s rest).2=a+s.length:=by
 unfold Ev at h ⊢
 dsimp only at h ⊢
 split at h
 ·cases h
 ·rename_i hc
  unfold litN
  have:=SG (b.drop a) s
  omega
theorem lawP_ok {b:List UInt8} {a:Nat} (ha:a<b.length) (st:PSt):LineP b a st (lawP b a st):=by
 unfold lawP
 have h1:=J2 (s:=Nn) (rest:=[97]) (X4 ha)
 have h2:=RR (s:=Nn) (rest:=[97]) (X4 ha)
 generalize Ev b a Nn [97]=M at h1 h2
 obtain ⟨er,c⟩:=M
 dsimp only at h1 h2
 cases er with
 | some e=>exact ⟨h1,fun h=>(by cases h),Xu _,fun h=>h⟩
 | none=>
  have h2:=h2 rfl
  have h3:=rulS_le (rest:=[]) h1
  dsimp only
  generalize NP b c []=M at h3
  obtain ⟨er,d⟩:=M
  dsimp only at h3
  have:Nn.length=3:=rfl
  cases er with
  | some e=>exact ⟨h3.2,fun h=>(by cases h),Xu _,fun h=>h⟩
  | none=>exact ⟨h3.2,fun _=>by dsimp only;omega,Xu _,fun h=>h⟩
theorem placeP_ok {b:List UInt8} {a:Nat} (ha:a<b.length) (st:PSt):LineP b a st (Kd b a st):=by
 unfold Kd
 have h1:=QZ (X4 ha) true [32,49]
 generalize GK b a true [32,49]=M at h1
 obtain ⟨er,c⟩:=M
 dsimp only at h1
 cases er with
 | some e=>exact ⟨h1.2,fun h=>(by cases h),Xu _,fun h=>h⟩
 | none=>
  dsimp only
  have h2:=J2 (s:=JW) (rest:=[49]) h1.2
  have h3:=RR (s:=JW) (rest:=[49]) h1.2
  generalize Ev b c JW [49]=M at h2 h3
  obtain ⟨er,d⟩:=M
  dsimp only at h2 h3
  cases er with
  | some e=>exact ⟨h2,fun h=>(by cases h),Xu _,fun h=>h⟩
  | none=>
   have h3:=h3 rfl
   have:JW.length=1:=rfl
   dsimp only
   have h4:=QZ h2 true []
   generalize GK b d true []=M at h4
   obtain ⟨er,f⟩:=M
   dsimp only at h4
   cases er with
   | some e=>exact ⟨h4.2,fun h=>(by cases h),Xu _,fun h=>h⟩
   | none=>
    refine ⟨h4.2,fun _=>by dsimp only;omega,by simp,fun h c hc=>?_⟩
    rcases Vt.1 hc with q | q
    ·exact h c q
    ·rw [Vs.1 q];exact pz_ok _ _ _
theorem lineP_ok {b:List UInt8} {a:Nat} (ha:a<b.length) (st:PSt):LineP b a st (Om b a st):=by
 unfold Om
 split
 ·exact lawP_ok ha st
 ·exact placeP_ok ha st
theorem oneP_ok {b:List UInt8} {a:Nat} (ha:a<b.length) (st:PSt):LineP b a st (Q7 b a st):=by
 unfold Q7 endP
 have h:=lineP_ok ha st
 generalize Om b a st=M at h
 obtain ⟨⟨er,c⟩,st'⟩:=M
 obtain ⟨h1,h2,h3,h4⟩:=h
 cases er with
 | some e=>exact ⟨h1,h2,h3,h4⟩
 | none=>
  have:=endS_le h1 []
  have:=h2 rfl
  exact ⟨by dsimp only at *;omega,fun _=>by dsimp only at *;omega,h3,h4⟩
theorem Up {b:List UInt8}:∀(k a:Nat) (st:PSt),a≤b.length→(Gk b k a st).2.cells.length≤st.cells.length+(b.length-a)∧((∀c∈st.cells,c.ok)→∀c∈(Gk b k a st).2.cells,c.ok)
 | 0,a,st,_=>⟨Xq _ _,fun h=>h⟩
 | k+1,a,st,h=>by
  unfold Gk
  by_cases he:a=b.length
  ·rw [if_pos he];exact ⟨Xq _ _,fun h=>h⟩
  ·rw [if_neg he]
   have hok:=oneP_ok (show a<b.length by omega) st
   generalize Q7 b a st=M at hok
   obtain ⟨⟨er,c⟩,st'⟩:=M
   obtain ⟨k1,k2,k3,k4⟩:=hok
   dsimp only at k1 k2 k3 k4 ⊢
   cases er with
   | some e=>exact ⟨by dsimp only;omega,k4⟩
   | none=>
    have ih:=Up (b:=b) k c st' k1
    have:=k2 rfl
    dsimp only
    exact ⟨by omega,fun h=>ih.2 (k4 h)⟩
theorem allP_ok (b:List UInt8) (st:PSt):(Mw b st).2.cells.length≤st.cells.length+b.length∧((∀c∈st.cells,c.ok)→∀c∈(Mw b st).2.cells,c.ok):=by
 unfold Mw
 have hM:=J2 (s:=FL) (rest:=[]) (Vy b.length)
 generalize Ev b 0 FL []=M at hM
 obtain ⟨er,c⟩:=M
 dsimp only at hM
 cases er with
 | some e=>exact ⟨Xq _ _,fun h=>h⟩
 | none=>
  have hle:=endS_le hM []
  dsimp only
  generalize Jo b c []=M at hle
  obtain ⟨er,d⟩:=M
  cases er with
  | some e=>exact ⟨Xq _ _,fun h=>h⟩
  | none=>
   have:=Up (b:=b) (b.length+1) d st hle.2
   dsimp only
   exact ⟨by omega,this.2⟩
theorem lawP_er (b:List UInt8) (a:Nat) (st:PSt):Mz (lawP b a st).1.1:=by
 unfold lawP
 have:=RT b a Nn [97]
 generalize Ev b a Nn [97]=M at this
 obtain ⟨er,c⟩:=M
 cases er with
 | some e=>exact this
 | none=>
  have:=rulS_er b c []
  dsimp only
  generalize NP b c []=M at this
  obtain ⟨er,d⟩:=M
  cases er with
  | some e=>exact this
  | none=>exact .none
theorem placeP_er (b:List UInt8) (a:Nat) (st:PSt):Mz (Kd b a st).1.1:=by
 unfold Kd
 have:=intS_er b a true [32,49]
 generalize GK b a true [32,49]=M at this
 obtain ⟨er,c⟩:=M
 cases er with
 | some e=>exact this
 | none=>
  have:=RT b c JW [49]
  dsimp only
  generalize Ev b c JW [49]=M at this
  obtain ⟨er,d⟩:=M
  cases er with
  | some e=>exact this
  | none=>
   have:=intS_er b d true []
   dsimp only
   generalize GK b d true []=M at this
   obtain ⟨er,f⟩:=M
   cases er with
   | some e=>exact this
   | none=>exact .none
theorem oneP_er (b:List UInt8) (a:Nat) (st:PSt):Mz (Q7 b a st).1.1:=by
 unfold Q7 endP Om
 have:Mz ((if CA b a [35]=true then lawP b a st else Kd b a st)).1.1:=by
  split
  ·exact lawP_er _ _ _
  ·exact placeP_er _ _ _
 generalize (if CA b a [35]=true then lawP b a st else Kd b a st)=M at this
 obtain ⟨⟨er,c⟩,st'⟩:=M
 cases er with
 | some e=>exact this
 | none=>exact endS_er _ _ _
theorem Uq (b:List UInt8):∀k a st,Mz (Gk b k a st).1.1
 | 0,a,st=>.none
 | k+1,a,st=>by
  unfold Gk
  split
  ·exact .none
  ·have:=oneP_er b a st
   generalize Q7 b a st=M at this
   obtain ⟨⟨er,c⟩,st'⟩:=M
   cases er with
   | some e=>exact this
   | none=>exact Uq b k _ _
theorem allP_er (b:List UInt8) (st:PSt):Mz (Mw b st).1.1:=by
 unfold Mw
 have:=RT b 0 FL []
 generalize Ev b 0 FL []=M at this
 obtain ⟨er,c⟩:=M
 cases er with
 | some e=>exact this
 | none=>
  dsimp only
  have:=endS_er b c []
  generalize Jo b c []=M at this
  obtain ⟨er,d⟩:=M
  cases er with
  | some e=>exact this
  | none=>exact Uq _ _ _ _
def Tk:PSt:=⟨usualL,[]⟩
def NS (b:List UInt8) (bx N:Int):(List UInt8×List Nd)×Int×Int:=
 if Nv bx N then
  match Mw b Tk with
  | ((some e,c),_)=>(([],[]),(c:Int),e.1)
  | ((none,_),st)=>
   if decide ((Dq st.cells).2=0)&&decide (((Dq st.cells).1.length:Int)≤N)then ((st.law,(Dq st.cells).1),0,0)
   else (([],[]),(b.length:Int),4)
 else (([],[]),0,1)
def Uz (b:List UInt8):List UInt8×Bool:=match (Mw b ⟨[],[]⟩).1.1 with
 | none=>([],true)
 | some e=>(e.2,decide (e.1=0)||decide (e.1=3))
theorem Hr {b t:List UInt8} {a:Nat} {c:UInt8} (h:b.drop a=c::t):a<b.length∧b[a]? = some c∧b.drop (a+1)=t:=by
 have hl:a<b.length:=by
  rcases VH a b.length with h' | h'
  ·exact h'
  ·rw [Ws h']at h;cases h
 rw [V4 hl]at h
 injection h with h1 h2
 exact ⟨hl,by rw [UU hl,h1],h2⟩
theorem DO {b t:List UInt8} {a:Nat} {c:UInt8} (h:b.drop a=c::t) (s:List UInt8):CA b a s=s.contains c:=by
 unfold CA;rw [(Hr h).2.1]
theorem Iy {b s t:List UInt8} {a:Nat} (h:b.drop a=s++t):b.drop (a+s.length)=t:=by
 rw [←Wf,h,Xo]
theorem must_one {b t:List UInt8} {a:Nat} {c:UInt8} (h:b.drop a=c::t) (rest:List UInt8):Ev b a [c] rest=(none,a+1):=by
 have h1:cpN (b.drop a) [c]=1:=by
  rw [h]
  show (if c=c then cpN t []+1 else 0)=1
  rw [if_pos rfl]
  cases t <;> rfl
 unfold Ev litN
 rw [h1]
 rfl
theorem end_lf {b t:List UInt8} {a:Nat} (h:b.drop a=10::t) (rest:List UInt8):Jo b a rest=(none,a+1):=by
 have hne:a≠b.length:=by have:=(Hr h).1;omega
 have h13:CA b a [13]=false:=by rw [DO h];decide
 have h10:CA b a [10]=true:=by rw [DO h];decide
 unfold Jo eolN crN
 simp only [h13,h10,if_neg hne,Vd,if_false,if_true]
theorem end_crlf {b t:List UInt8} {a:Nat} (h:b.drop a=13::10::t) (rest:List UInt8):Jo b a rest=(none,a+2):=by
 have hne:a≠b.length:=by have:=(Hr h).1;omega
 have h13:CA b a [13]=true:=by rw [DO h];decide
 have h10:CA b (a+1) [10]=true:=by rw [DO (Hr h).2.2];decide
 unfold Jo eolN crN
 simp only [h13,h10,if_neg hne,if_true]
theorem rule_run {b rule t:List UInt8} {f:Nat} (h:b.drop f=rule++10::t) (hs:rule.all Lu=true) (h40:rule.length≤40):∀n k,k≤rule.length→rule.length-k≤n→Hh b f n (f+k)=f+rule.length
 | 0,k,h1,h2=>by
  have:k=rule.length:=by omega
  rw [this];rfl
 | n+1,k,h1,h2=>by
  have hat:b[f+k]? = (rule++10::t)[k]? := by rw [←h,VB]
  by_cases hk:k<rule.length
  ·rw [UW hk,UU hk]at hat
   have ho:onB b f (f+k)=true:=by
    unfold onB
    rw [hat]
    dsimp only
    rw [Vn]at hs
    rw [hs _ (Vi hk),decide_eq_true (by omega)];rfl
   rw [Hh,ho,if_pos rfl,VL]
   exact rule_run h hs h40 n (k+1) hk (by omega)
  ·have e:k=rule.length:=by omega
   subst e
   have hat:b[f+rule.length]? = some 10:=by rw [hat];simp
   have ho:onB b f (f+rule.length)=false:=by
    unfold onB
    rw [hat]
    dsimp only
    rw [show Lu 10=false from by decide,Bool.and_false]
   rw [Hh,ho];rfl
theorem num_run {b ds t:List UInt8} {f:Nat} {c:UInt8} (rest:List UInt8) (h:b.drop f=ds++c::t) (hd:∀x∈ds,IZ.contains x=true) (hc:IZ.contains c=false) (h4:ds.length≤400) (h0:0<ds.length) (h1:ds[0]? = some 48→ds.length=1) :
  ∀(n i:Nat),i≤ds.length→ds.length-i<n→LE b f rest n (f+i)=(none,f+ds.length):=by
 intro n
 induction n with
 | zero=>intro i _ h;omega
 | succ n ih=>
  intro i hi hn
  have hb:b.drop (f+i)=ds.drop i++c::t:=by
   rw [←Wf,h,WO hi]
  conv=>lhs;unfold LE
  by_cases he:i=ds.length
  ·subst he
   rw [Yj,List.nil_append]at hb
   rw [DO hb,hc,if_neg (by decide),if_neg (by omega)]
  ·have hlt:i<ds.length:=by omega
   rw [V4 hlt]at hb
   rw [DO hb,hd _ (Vi hlt),if_pos rfl,if_neg (fun hh=>by
    have hf:b[f]? = ds[0]? := by
     have:=congrArg (·[0]?) h
     simp only [VB,Nat.add_zero]at this
     rw [this,UW h0]
    have:=h1 (hf ▸ hh.2);omega),if_neg (by omega),VL]
   exact ih (i+1) (by omega) (by omega)
theorem UF (n:Nat):∀x∈Dx n,IZ.contains x=true:=fun x hx=>by
 have:=(Ey x).1 (LX n x hx)
 unfold IZ
 rw [digs_mem,decide_eq_true_eq];omega
theorem LW {n:Nat} (h:(Dx n)[0]? = some 48):(Dx n).length=1:=by
 by_cases h0:n=0
 ·subst h0;rw [Iz (by omega)];rfl
 ·obtain ⟨c,r,e,hc⟩:=PJ n h0
  rw [e]at h;simp at h;exact absurd h hc
theorem dec_read {b t:List UInt8} {a:Nat} {z:Int} {c:UInt8} (rest:List UInt8) (h:b.drop a=DA z++c::t) (hc:IZ.contains c=false) (h4:(Dx z.natAbs).length≤400):GK b a true rest=(none,a+(DA z).length):=by
 have hp:=SE z.natAbs
 unfold DA at h ⊢
 unfold GK Pp
 by_cases hz:z<0
 ·rw [if_pos hz]at h ⊢
  rw [List.cons_append]at h
  have h2:=(Hr h).2.2
  have hne:CA b (a+1) [48]=false:=by
   obtain ⟨c0,r0,e,hc0⟩:=PJ z.natAbs (by omega)
   rw [e,List.cons_append]at h2
   rw [DO h2];simpa using hc0
  rw [DO h,hne]
  have:=num_run rest h2 (UF _) hc h4 hp LW 402 0 (Vy _) (by omega)
  rw [Nat.add_zero]at this
  simp only [List.contains_cons,beq_self_eq_true,WT,Bool.and_false,Vd,if_false,VW,if_true,List.length_cons]
  rw [this];congr 1;omega
 ·rw [if_neg hz]at h ⊢
  have h45:CA b a [45]=false:=by
   cases e:Dx z.natAbs with
   | nil=>rw [e]at hp;simp at hp
   | cons x r=>
    rw [e,List.cons_append]at h
    rw [DO h]
    have:=(Ey x).1 (LX z.natAbs x (by rw [e];exact WQ))
    have:x≠45:=fun hx=>by subst hx;simp at this
    simpa using this
  rw [h45]
  have:=num_run rest h (UF _) hc h4 hp LW 402 0 (Vy _) (by omega)
  rw [Nat.add_zero]at this
  simp only [Bool.and_false,Wo,Vd,if_false]
  exact this
theorem cpN_app:∀(s t:List UInt8),cpN (s++t) s=s.length
 | [],[]=>rfl
 | [],_::_=>rfl
 | c::s,t=>by
  show (if c=c then cpN (s++t) s+1 else 0)=_
  rw [if_pos rfl,cpN_app s t];rfl
theorem must_app {b s t:List UInt8} {a:Nat} (h:b.drop a=s++t) (rest:List UInt8):Ev b a s rest=(none,a+s.length):=by
 unfold Ev litN
 rw [h,cpN_app,if_neg (by omega)]
theorem cut_at {b s t:List UInt8} {a:Nat} (h:b.drop a=s++t):(b.take (a+s.length)).drop a=s:=by
 rw [List.drop_take,h,Nat.add_sub_cancel_left,Xk]
def plT (c:Cl):List UInt8:=DA c.x++32::DA c.y
def S5 (cr:Bool):List UInt8:=if cr then [13,10]else [10]
def Cl.shrt (c:Cl):Prop:=(Dx c.x.natAbs).length≤400∧(Dx c.y.natAbs).length≤400
theorem PH (z:Int):∃c r,DA z=c::r∧c≠35:=by
 have hp:=SE z.natAbs
 unfold DA
 split
 ·exact ⟨_,_,rfl,by decide⟩
 ·cases e:Dx z.natAbs with
  | nil=>rw [e]at hp;simp at hp
  | cons x r=>
   refine ⟨x,r,rfl,fun hx=>?_⟩
   have:=(Ey x).1 (LX z.natAbs x (by rw [e];exact WQ))
   subst hx;simp at this
theorem place_line {b t:List UInt8} {a:Nat} {c:Cl} {cr:Bool} (hs:c.shrt) (h:b.drop a=plT c++(S5 cr++t)) (st:PSt) :
  Q7 b a st=((none,a+(plT c++S5 cr).length),{ st with cells:=st.cells++[⟨c.x,c.y,1⟩] }):=by
 have h1:b.drop a=DA c.x++32::(DA c.y++(S5 cr++t)):=by rw [h];simp [plT]
 have i1:=dec_read [32,49] h1 (by decide) hs.1
 have h2:=Iy h1
 have i2:=must_one h2 [49]
 have h3:=(Hr h2).2.2
 obtain ⟨e,u,he,heu⟩:∃e u,S5 cr++t=e::u∧IZ.contains e=false:=by
  cases cr
  ·exact ⟨10,t,rfl,by decide⟩
  ·exact ⟨13,10::t,rfl,by decide⟩
 have h3':=h3
 rw [he]at h3'
 have i3:=dec_read [] h3' heu hs.2
 have h4:=Iy h3
 have i4:Jo b (a+(DA c.x).length+1+(DA c.y).length) []=(none,a+(DA c.x).length+1+(DA c.y).length+(S5 cr).length):=by
  cases cr
  ·exact end_lf h4 []
  ·exact end_crlf h4 []
 have hx:(b.take (a+(DA c.x).length)).drop a=DA c.x:=cut_at h1
 have hy:(b.take (a+(DA c.x).length+1+(DA c.y).length)).drop (a+(DA c.x).length+1)=DA c.y:=cut_at h3
 unfold Q7 Om Kd endP
 obtain ⟨c0,r0,e0,hc0⟩:=PH c.x
 rw [e0,List.cons_append]at h1
 rw [DO h1,show ([35]:List UInt8).contains c0=false from by simpa using hc0]
 simp only [Vd,if_false,i1]
 rw [show JW=[32] from rfl,i2]
 dsimp only
 rw [i3]
 dsimp only
 rw [i4,hx,hy,(RJ hs.1).2,(RJ hs.2).2]
 congr 2
 simp [plT];omega
def IB (l:List (Cl×Bool)):List UInt8:=l.flatMap fun p=>plT p.1++S5 p.2
def plsC (l:List (Cl×Bool)):List Cl:=l.map fun p=>⟨p.1.x,p.1.y,1⟩
theorem Pf (p:Cl×Bool) (l:List (Cl×Bool)):IB (p::l)=plT p.1++(S5 p.2++IB l):=by simp [IB]
theorem Qh {b:List UInt8}:∀(l:List (Cl×Bool)) (k a:Nat) (st:PSt),(∀p∈l,p.1.shrt)→b.drop a=IB l→a≤b.length→l.length≤k →
  Gk b k a st=((none,b.length),{ st with cells:=st.cells++plsC l })
 | [],k,a,st,_,h,ha,_=>by
  have:a=b.length:=by
   have:=congrArg List.length h
   rw [Vx]at this
   simp [IB]at this;omega
  subst this
  cases k with
  | zero=>simp [Gk,plsC]
  | succ k=>unfold Gk;simp [plsC]
 | p::l,k+1,a,st,hs,h,ha,hk=>by
  rw [Pf]at h
  have h1:=place_line (hs p (by simp)) h st
  have hne:¬a=b.length:=by
   intro e
   have:=congrArg List.length h
   obtain ⟨c0,r0,e0,_⟩:=PH p.1.x
   rw [Vx,plT,e0]at this
   simp at this;omega
  unfold Gk
  rw [if_neg hne,h1]
  dsimp only
  have h2:b.drop (a+(plT p.1++S5 p.2).length)=IB l:=by rw [←Vb]at h;exact Iy h
  have hle:a+(plT p.1++S5 p.2).length≤b.length:=by
   have:=congrArg List.length h
   rw [Vx]at this
   simp at this ⊢;omega
  rw [Qh l k _ _ (fun q hq=>hs q (by simp [hq])) h2 hle (by simpa using hk)]
  simp [plsC]
 | _::_,0,_,_,_,_,_,hk=>by simp at hk
theorem plsT_len (l:List (Cl×Bool)):l.length≤(IB l).length:=by
 induction l with
 | nil=>simp [IB]
 | cons p l ih=>
  rw [Pf]
  obtain ⟨c0,r0,e0,_⟩:=PH p.1.x
  simp [plT,e0];omega
def Qr:List UInt8:=[35,76,105,102,101,32,49,46,48,54,10]
def CI (E:List (Option Int)) (x:Nd):Nat→Option Int
 | 0=>none
 | k+1=>if 1<x.lv then some (bo (CI E x k)+bo (E.getD (x.kid k).toNat none))else if 0<x.kid k then some (bo (CI E x k)+1)else CI E x k
def BL (L:List Nd):List (Option Int):=L.foldl (fun E x=>E++[CI E x 4]) [none]
theorem UI (L:List Nd) (x:Nd):BL (L++[x])=BL L++[CI (BL L) x 4]:=by simp [BL]
theorem I0 (L:List Nd):(BL L).length=L.length+1:=by
 rcases FI L with rfl | ⟨l,a,rfl⟩
 ·rfl
 ·rw [UI];have:=I0 l;simp [this]
termination_by L.length
decreasing_by (subst_vars;simp)
theorem JB (L:List Nd) {i:Nat} (hi:i<L.length):BL (L.take (i+1))=BL (L.take i)++[CI (BL (L.take i)) L[i] 4]:=by
 rw [Vf hi,UI]
theorem Rk {L:List Nd} (hl:AE L=true):∀i,i≤L.length→∀j,j≤i→0≤bo ((BL (L.take i)).getD j none)∧bo ((BL (L.take i)).getD j none)≤4^((match j with | 0=>0 | j+1=>match L[j]? with | some y=>y.lv.toNat | none=>0):Nat)
 | 0,_,j,hj=>by
  have:j=0:=by omega
  subst this
  simp [BL,bo]
 | i+1,hi,j,hj=>by
  have ih:=Rk hl i (by omega)
  have hlen:(BL (L.take i)).length=i+1:=by rw [I0];simp;omega
  rw [JB L (show i<L.length by omega)]
  by_cases hji:j≤i
  ·have:=ih j hji
   rw [UZ]at this ⊢
   rw [UW (by omega)]
   exact this
  ·have e:j=i+1:=by omega
   subst e
   have hi':i<L.length:=by omega
   have hg:(BL (L.take i)++[CI (BL (L.take i)) L[i] 4]).getD (i+1) none=CI (BL (L.take i)) L[i] 4:=by
    rw [UZ,Vu (by omega),hlen];simp
   rw [hg]
   simp only [UU hi']
   obtain ⟨l1,l2,l3⟩:=AJ hl hi'
   generalize hx:L[i]=x at *
   obtain ⟨v,hv⟩:∃v:Nat,x.lv=(v:Int)+1:=⟨(x.lv-1).toNat,by omega⟩
   have hvn:x.lv.toNat=v+1:=by omega
   have hone:(1:Int)≤4^v:=by have:=Nat.one_le_pow v 4 (by omega);exact_mod_cast this
   have step:∀k,k<4→1<x.lv→0≤bo ((BL (L.take i)).getD (x.kid k).toNat none)∧bo ((BL (L.take i)).getD (x.kid k).toNat none)≤4^v:=by
    intro k hk h1
    obtain ⟨q1,q2,q3⟩:=l3 k hk
    by_cases h0:0<x.kid k
    ·obtain ⟨q4,q5⟩:=q3 h1 h0
     have h6:=ih (x.kid k).toNat (by omega)
     obtain ⟨m,hm⟩:∃m,(x.kid k).toNat=m+1:=⟨(x.kid k).toNat-1,by omega⟩
     rw [hm]at h6 ⊢
     have hml:m<L.length:=by omega
     simp only [UU hml]at h6
     have h7:=q5 L[m] (by rw [show (x.kid k-1).toNat=m by omega];exact UU hml)
     rw [show L[m].lv.toNat=v by omega]at h6
     exact h6
    ·have h8:(x.kid k).toNat=0:=by omega
     have h6:=ih 0 (by omega)
     rw [h8]
     simp only [Int.pow_zero]at h6
     exact ⟨h6.1,by omega⟩
   have part:∀k,k≤4→0≤bo (CI (BL (L.take i)) x k)∧bo (CI (BL (L.take i)) x k)≤k*4^v:=by
    intro k
    induction k with
    | zero=>intro _;simp [CI,bo]
    | succ k ihk=>
     intro hk
     have ih2:=ihk (by omega)
     have e1:((k+1:Nat):Int)*4^v=(k:Int)*4^v+4^v:=by push_cast;rw [Int.add_mul,Int.one_mul]
     rw [e1]
     unfold CI
     generalize (k:Int)*4^v=kp at *
     by_cases h1:1<x.lv
     ·have h2:=step k (by omega) h1
      rw [if_pos h1]
      simp only [bo,Option.getD_some]at h2 ih2 ⊢
      omega
     ·rw [if_neg h1]
      by_cases h0:0<x.kid k
      ·rw [if_pos h0];simp only [bo,Option.getD_some]at ih2 ⊢;omega
      ·rw [if_neg h0];omega
   have:=part 4 (Va _)
   rw [hvn,WS,Yf]
   exact this
theorem SB_fourk {z:Int} {v w k:Nat} (h0:0≤z) (h:z≤4^v) (hv:v≤w) (hk:2*w<32*k):SB k z:=by
 have h1:=pow4_le hv
 have h2:z.natAbs≤2^(2*w):=by omega
 exact VN h2 (RG hk)
theorem SB_four {z:Int} {v:Nat} (h0:0≤z) (h:z≤4^v) (hv:v≤1400):SB 100 z:=by
 exact SB_fourk (w:=1400) (k:=100) h0 h hv (by decide)
theorem q07_counts (L:List Nd) (tk:Tok) (H:Aa) (hL:L.length<549755813888) (hl:AE L=true):Sh.f5o (.sl (enL cNd L) tk) H=some (.ret (.sl (enL cBO (BL L)) .no),H):=by
 have hmk:=Fa (f:=cBO) (a:=none) (n:=L.length+1) (bytes:=32) (H:=H) (by omega) (by omega)
 rw [show cBO none=[Ab.bool false,.sl [] .tight] from rfl]at hmk
 unfold Sh.f5o
 simp only [Au,B5,Cu,Aw (show L.length<9223372036854775807 by omega),hmk,Bu]
 have key:=Cg (G:=fun rec1 vs H1=>Sh.f5n H rec1 (ag vs 0) (ag vs 1) (ag vs 2) H1) L.length (fun i=>[.sl (enL cNd L) tk,.ms H.length 0 0 (L.length+1) (L.length+1) 2 true,.int .i64 (i:Int)]) (fun i=>H++[.cel 0 (flat cBO (BL (L.take i)++List.replicate (L.length-i) none))]) (some (.ret (.sl (enL cBO (BL L)) .no),H)) (by omega) (fun rec i hi=>?_) (fun rec=>?_)
 ·have e:List.replicate (L.length+1) none=BL (L.take 0)++List.replicate (L.length-0) none:=by simp [List.replicate_succ,BL]
  rw [e];exact key
 ·have hi':(i:Int)<(L.length:Int):=by omega
  obtain ⟨l1,l2,l3⟩:=AJ hl hi
  have hle:=Rk hl i (by omega)
  have hle2:=(Rk hl (i+1) (by omega) (i+1) (Va _))
  rw [JB L hi]at hle2
  have hEl:(BL (L.take i)).length=i+1:=by rw [I0];simp;omega
  unfold Sh.f5n
  simp only [Ak,Bc,Bg,Au,B5,Bm,hi',decide_true,AZ]
  have hb:∀k,k<4→1<L[i].lv→(L[i].kid k).toNat≤i:=by
   intro k hk h1
   obtain ⟨q1,q2,q3⟩:=l3 k hk
   by_cases h0:0<L[i].kid k
   ·have:=(q3 h1 h0).1;omega
   ·omega
  have hset:∀a,(BL (L.take i)++List.replicate (L.length-i) none).set (i+1) a=BL (L.take i)++a::List.replicate (L.length-(i+1)) none:=by
   intro a
   rw [V8 _ _ (by omega),hEl,V9,show L.length-i=(L.length-(i+1))+1 from by omega,List.replicate_succ,List.set_cons_zero]
  have hpart:∀k,k≤4→SB 100 (bo (CI (BL (L.take i)) L[i] k)):=by
   intro k hk
   have mono:∀d,k+d≤4→bo (CI (BL (L.take i)) L[i] k)≤bo (CI (BL (L.take i)) L[i] (k+d)):=by
    intro d
    induction d with
    | zero=>intro _;exact WJ _
    | succ d ihd=>
     intro hd
     refine Int.le_trans (ihd (by omega)) ?_
     show _≤bo (CI (BL (L.take i)) L[i] (k+d+1))
     rw [show CI (BL (L.take i)) L[i] (k+d+1)=(if 1<L[i].lv then some (bo (CI (BL (L.take i)) L[i] (k+d))+bo ((BL (L.take i)).getD (L[i].kid (k+d)).toNat none))else if 0<L[i].kid (k+d)then some (bo (CI (BL (L.take i)) L[i] (k+d))+1)else CI (BL (L.take i)) L[i] (k+d)) from rfl]
     by_cases h1:1<L[i].lv
     ·have:=(hle (L[i].kid (k+d)).toNat (hb (k+d) (by omega) h1)).1
      rw [if_pos h1];simp only [bo,Option.getD_some]at this ⊢;omega
     ·rw [if_neg h1]
      split
      ·simp only [bo,Option.getD_some];omega
      ·exact WJ _
   have nn:∀k,k≤4→0≤bo (CI (BL (L.take i)) L[i] k):=by
    intro k
    induction k with
    | zero=>intro _;simp [CI,bo]
    | succ k ihk=>
     intro hk
     have ih2:=ihk (by omega)
     unfold CI
     by_cases h1:1<L[i].lv
     ·have:=(hle (L[i].kid k).toNat (hb k (by omega) h1)).1
      rw [if_pos h1];simp only [bo,Option.getD_some]at this ih2 ⊢;omega
     ·rw [if_neg h1]
      split
      ·simp only [bo,Option.getD_some]at ih2 ⊢;omega
      ·exact ih2
   have hg:(BL (L.take i)++[CI (BL (L.take i)) L[i] 4]).getD (i+1) none=CI (BL (L.take i)) L[i] 4:=by
    rw [UZ,Vu (by omega),hEl];simp
   rw [hg]at hle2
   simp only [UU hi]at hle2
   have h5:=mono (4-k) (by omega)
   rw [show k+(4-k)=4 by omega]at h5
   exact SB_four (nn k hk) (Int.le_trans h5 hle2.2) (by omega)
  have hkidSB:∀k,k<4→1<L[i].lv→LB (bo ((BL (L.take i)).getD (L[i].kid k).toNat none)):=by
   intro k hk h1
   have h2:=hle (L[i].kid k).toNat (hb k hk h1)
   refine (SB_four h2.1 h2.2 ?_).lb (by omega)
   cases hq:(L[i].kid k).toNat with
   | zero=>simp
   | succ m=>
    simp only
    have hml:m<L.length:=by have:=hb k hk h1;omega
    rw [UU hml]
    have:=(AJ hl hml).2.1
    simp only;omega
  have hgetE:∀(a:Option Int) (c:Nat),c≤i→(BL (L.take i)++a::List.replicate (L.length-(i+1)) none).getD c none=(BL (L.take i)).getD c none:=by
   intro a c hc
   simp only [UZ]
   rw [UW (by omega)]
  have hfin:BL (L.take (i+1))++List.replicate (L.length-(i+1)) none=BL (L.take i)++CI (BL (L.take i)) L[i] 4::List.replicate (L.length-(i+1)) none:=by rw [JB L hi];simp
  have hini:BL (L.take i)++List.replicate (L.length-i) none=BL (L.take i)++CI (BL (L.take i)) L[i] 0::List.replicate (L.length-(i+1)) none:=by
   rw [show L.length-i=(L.length-(i+1))+1 from by omega,List.replicate_succ];rfl
  rw [hfin,hini]
  generalize hC:BL (L.take i)=C at *
  generalize hx:L[i]=x at *
  have hset2:∀a b:Option Int,(C++a::List.replicate (L.length-(i+1)) none).set (i+1) b=C++b::List.replicate (L.length-(i+1)) none:=by
   intro a b;rw [V8 _ _ (by omega),hEl,V9,List.set_cons_zero]
  have hlenE:∀a:Option Int,(C++a::List.replicate (L.length-(i+1)) none).length=L.length+1:=by intro a;simp [hEl];omega
  have hgetI:∀a:Option Int,(C++a::List.replicate (L.length-(i+1)) none)[i+1]? = some a:=by
   intro a;rw [Vu (by omega),hEl];simp
  refine Cg (G:=fun rec2 vs H1=>Sh.f5m H rec rec2 (ag vs 0) (ag vs 1) (ag vs 2) (ag vs 3) H1) 4 (fun k=>[.sl (enL cNd L) tk,.ms H.length 0 0 (L.length+1) (L.length+1) 2 true,.int .i64 (i:Int),.int .i64 (k:Int)]) (fun k=>H++[.cel 0 (flat cBO (C++CI C x k::List.replicate (L.length-(i+1)) none))]) _ (by decide) (fun rec2 k hk=>?_) (fun rec2=>?_)
  ·have hk':(k:Int)<4:=by omega
   have hwk:=Aw (show k<9223372036854775807 by omega)
   have hwi:=Aw (show i<9223372036854775807 by omega)
   obtain ⟨q1,q2,q3⟩:=l3 k hk
   have hb':=hb k hk
   have hsb:=(hpart k (by omega)).lb (by omega)
   have hgc:A8 (H++[.cel 0 (flat cBO (C++CI C x k::List.replicate (L.length-(i+1)) none))]) H.length 0=some (flat cBO (C++CI C x k::List.replicate (L.length-(i+1)) none)):=by simp
   have hidi:=CB (sz:=2) (id:=H.length) (n:=L.length+1) (K:=.i64) (g:=0) (off:=0) (cap:=L.length+1) (ex:=true) (i:=i+1) (by omega)
   simp only [UY]at hidi
   have hldi:Ac true 2 (.ptr H.length 0 ((i+1)*2)) (H++[.cel 0 (flat cBO (C++CI C x k::List.replicate (L.length-(i+1)) none))])=some (.agg (cBO (CI C x k))):=by
    have h1:=Ok (f:=cBO) (sz:=2) hgc (i:=i+1) (by rw [hlenE];omega)
    rw [h1]
    have h2:=hgetI (CI C x k)
    rw [UU (by rw [hlenE];omega)]at h2
    simp only [Ve]at h2
    rw [h2]
   have hsti:∀z:Int,Ag 2 (.ptr H.length 0 ((i+1)*2)) (big z) (H++[.cel 0 (flat cBO (C++CI C x k::List.replicate (L.length-(i+1)) none))])=some (H++[.cel 0 (flat cBO (C++some z::List.replicate (L.length-(i+1)) none))]):=by
    intro z
    have h1:=DG (f:=cBO) (sz:=2) (a:=some z) (v:=big z) hgc (i:=i+1) (by rw [hlenE];omega) (acells_BO z)
    rw [h1,hset2,OY,OX]
   have hcs:CI C x (k+1)=if 1<x.lv then some (bo (CI C x k)+bo (C.getD (x.kid k).toNat none))else if 0<x.kid k then some (bo (CI C x k)+1)else CI C x k:=rfl
   rw [hcs]
   have hof1:∀H,Sh.fm (.int .i64 1) H=some (.ret (big 1),H):=fun H=>q02_of 1 H (by omega) (by omega)
   unfold Sh.f5m
   simp only [GMb,GMc,hk',Ay hi,hx,Al,Dt hk,AC,UY,Vk,Dk hk,BS,hwi,hidi,hldi]
   by_cases h1:1<x.lv
   ·have hcn:=hb' h1
    obtain ⟨c,hc⟩:=VP q1
    rw [hc]at hcn ⊢
    simp only [Int.toNat_natCast]at hcn ⊢
    have hidc:=CB (sz:=2) (id:=H.length) (n:=L.length+1) (K:=.i64) (g:=0) (off:=0) (cap:=L.length+1) (ex:=true) (i:=c) (by omega)
    simp only [UY]at hidc
    have hldc:Ac true 2 (.ptr H.length 0 (c*2)) (H++[.cel 0 (flat cBO (C++CI C x k::List.replicate (L.length-(i+1)) none))])=some (.agg (cBO (C.getD c none))):=by
     have h2:=Ok (f:=cBO) (sz:=2) hgc (i:=c) (by rw [hlenE];omega)
     rw [h2]
     have h3:=hgetE (CI C x k) c hcn
     rw [UZ,UU (by rw [hlenE];omega),Option.getD_some]at h3
     rw [h3]
    have hkSB:=hkidSB k hk h1
    rw [hc,Int.toNat_natCast]at hkSB
    have hadd:=fun H=>addO (CI C x k) (C.getD c none) H hsb hkSB
    simp only [h1,if_true,GMb,GMc,gt_iff_lt,hwi,hidi,hldi,hidc,hldc,hadd,hsti,Sh.f5l,hwk,Ai]
   ·by_cases h0:0<x.kid k
    ·have hadd:=fun H=>addO (CI C x k) (some 1) H hsb LB_one
     simp only [h1,h0,if_false,if_true,GMb,GMc,gt_iff_lt,hof1,hwi,hidi,hldi,eq_self,and_true,big_BO,hadd,Sh.f5l,hwk,Ai]
     simp only [←big_BO,hsti,GMb,GMc,Ai,hwk]
     rfl
    ·simp only [h1,h0,if_false,GMb,GMc,gt_iff_lt,Sh.f5l,hwk,Ai]
  ·have hf:¬(((4:Nat):Int)<4):=by decide
   unfold Sh.f5m
   simp only [Ak,Bc,Bg,Bw,BG,B5,Bm,hf,decide_false,AP,Cu,Aw (show i<9223372036854775807 by omega)]
 ·unfold Sh.f5n
  have hgc:A8 (H++[.cel 0 (flat cBO (BL L))]) H.length 0=some (flat cBO (BL L)):=by simp
  have hfa:=Re (f:=cBO) (b:=H.length) (d:=5) (cap:=L.length+1) (ex:=true) hgc (Va _)
  rw [I0]at hfa
  have ht:L.take L.length=L:=Vg (Va _)
  simp only [Ak,Bc,Bg,Au,B5,Bm,VV,decide_false,AP,ht,V9,List.replicate_zero,V3,Cf,hfa,Option.map_some]
def HC (L:List Nd):Int:=bo ((BL L).getD L.length none)
theorem q07_count (L:List Nd) (H:Aa) (hL:L.length<549755813888) (hl:AE L=true):Sh.f5p (CP L) H=some (.ret (big (HC L)),H):=by
 unfold Sh.f5p
 have e3:(H++[Blk.cel 0 (BD L)]++[Blk.cel 0 (cBO none)])[H.length]? = some (.cel 0 (BD L)):=by simp
 have halloc:∀Hc,Az (some [.bool false,.sl [] .tight]) Hc=some (.ptr Hc.length 0 0,Hc++[.cel 0 (cBO none)]):=fun Hc=>Cb Hc
 have hcs:=fun H=>q07_counts L .no H hL hl
 have hlt:L.length<(BL L).length:=by rw [I0];omega
 have hst:∀(B:Aa) (a:Option Int),Ag 2 (.ptr B.length 0 0) (.agg (cBO a)) (B++[Blk.cel 0 (cBO none)])=some (B++[Blk.cel 0 (cBO a)]):=fun B a=>by rw [M5 Ap rfl,Bh]
 have hldB:∀(B:Aa) (a:Option Int),Ac true 2 (.ptr B.length 0 0) (B++[Blk.cel 0 (cBO a)])=some (.agg (cBO a)):=fun B a=>F0 Ap
 have hcp:∀(a:Option Int) (H:Aa),Ac true 2 (.cptr (cBO a) 0) H=some (.agg (cBO a)):=fun a H=>by cases a <;> rfl
 simp only [GMb,GMc,boxQ,halloc,Ah,UY,Nat.add_zero,Ds e3,hcs,and_true,eq_self,Au,Ay hlt,hcp,hst,hldB]
 have hc:(BL L)[L.length]=(BL L).getD L.length none:=by rw [UZ,UU hlt];rfl
 rw [hc,Vb,Cf]
 unfold HC
 have hSB:bo ((BL L).getD L.length none)=bo ((BL L).getD L.length none):=rfl
 generalize (BL L).getD L.length none=o
 cases o with
 | none=>simp [cBO,bo,big,A9,DJ,enL]
 | some z=>
  simp [cBO,bo,big,A9]
  rfl
def De (rec:Int→Int→Int→List Cl) (v:Nat) (x:Nd) (a b:Int) (k:Nat):List Cl:=
 if 1<x.lv then rec (x.kid k) (qa v a k) (qb v b k)else if 0<x.kid k then [⟨qa v a k,qb v b k,UInt8.ofNat (x.kid k).toNat⟩]else []
def BU (L:List Nd):Nat→Int→Int→Int→List Cl
 | 0,_,_,_=>[]
 | v+1,n,x,y=>if n=0 then []else (List.range 4).flatMap fun k=>De (BU L v) (v+1) (A0 L n) x y k
theorem FW (L:List Nd) (v:Nat) (x y:Int):BU L v 0 x y=[]:=by cases v <;> simp [BU]
theorem RS.app {α:Type} {f:α→List Ab} {ty:TypeId} {sz:Nat} [hf:Sz f sz] {bytes b:Nat} {out:List α} {v:Ab} {H:Aa} (h:RS f ty sz b out v H) (hb:b≤H.length) (m:List α) (tk:Tok) (hl:(out.length+m.length)*bytes≤140737488355328) (hl2:out.length+m.length≤140737488355328) :
  ∃v' H',AW ty sz bytes v (.sl (enL f m) tk) H=some (v',H')∧RS f ty sz b (out++m) v' H'∧Kp b H H':=by
 by_cases hm:m=[]
 ·subst hm
  have hx:(BY sz v H).isSome=true:=by
   obtain ⟨tk',rfl⟩:=h.sl
   rw [LU];rfl
  refine ⟨v,H,Dg hx,by rw [V3];exact h,Kp.refl _ _⟩
 ·rcases h with ⟨rfl,rfl⟩ | ⟨t,h1,rfl,h3⟩
  ·have:=C4 (f:=f) (l:=[]) (m:=m) (ty:=ty) (bytes:=bytes) (tk:=tk) (H:=H) hm (by simpa using hl) (by simpa using hl2)
   exact ⟨_,_,this,.inr ⟨H.length,hb,rfl,by simp⟩,Kp.app hb _⟩
  ·have:=Em (f:=f) (l:=out) (m:=m) (ty:=ty) (bytes:=bytes) (tk:=tk) (H:=H) (t:=t) hm h3 hl hl2
   have htl:=(UV.1 h3).1
   refine ⟨_,_,this,.inr ⟨t,h1,rfl,by simp [htl]⟩,⟨by simp,fun i cs hc=>?_,fun i hi=>?_⟩⟩
   ·have:t≠i:=fun e=>by rw [←e,h3]at hc;cases hc
    rw [UX this];exact hc
   ·rw [UX (by omega)]
theorem sb_k {x:Int} {v k m:Nat} (h:x.natAbs+2^v≤2^k) (hk:k≤32*m):SB m x:=by
 have h1:0<2^v:=Xa (by omega)
 have h2:x.natAbs<2^k:=by omega
 exact VR h2 (pow32_le hk)
theorem M6 {x:Int} {v:Nat} (h:x.natAbs+2^v≤2^1340):SB 42 x:=sb_k (k:=1340) h (by decide)
theorem qa_abs {x:Int} {u k:Nat} (h:x.natAbs+2^(u+1)≤2^1340):(qa (u+1) x k).natAbs+2^u≤2^1340:=by
 have h2:x.natAbs+2^u*2≤2^1340:=by rw [←Nat.pow_succ];exact h
 obtain ⟨q,hq⟩:∃q:Nat,q=2^1340:=⟨_,rfl⟩
 rw [←hq]at h2 ⊢
 clear hq h
 unfold qa
 rw [Vp]
 have e:((2:Int)^u)=((2^u:Nat):Int):=by push_cast;rfl
 rw [e]
 generalize 2^u=p at *
 split <;> omega
theorem qb_abs {x:Int} {u k:Nat} (h:x.natAbs+2^(u+1)≤2^1340):(qb (u+1) x k).natAbs+2^u≤2^1340:=by
 have h2:x.natAbs+2^u*2≤2^1340:=by rw [←Nat.pow_succ];exact h
 obtain ⟨q,hq⟩:∃q:Nat,q=2^1340:=⟨_,rfl⟩
 rw [←hq]at h2 ⊢
 clear hq h
 unfold qb
 rw [Vp]
 have e:((2:Int)^u)=((2^u:Nat):Int):=by push_cast;rfl
 rw [e]
 generalize 2^u=p at *
 split <;> omega
abbrev zBig:List Ab:=[.bool false,.sl [] .tight]
theorem two_a {Hd:Aa} {A B:List Ab} {z:Int} (hA:A.length=2):Ag 2 (.ptr Hd.length 0 0) (big z) (Hd++[.cel 0 A]++[.cel 0 B])=some (Hd++[.cel 0 (A9 z)]++[.cel 0 B]):=by
 rw [Cx (cs:=A) (by simp) hA];simp
theorem two_b {Hd:Aa} {A B:List Ab} {z:Int} (hB:B.length=2):Ag 2 (.ptr (Hd.length+1) 0 0) (big z) (Hd++[.cel 0 A]++[.cel 0 B])=some (Hd++[.cel 0 A]++[.cel 0 (A9 z)]):=by
 rw [Cx (cs:=B) (by simp) hB]
 have:Hd.length+1=(Hd++[Blk.cel 0 A]).length:=by simp
 rw [this,Bh]
theorem build_cell (a b:Int) (c:Int) (h0:0<c) (h1:c≤255):AD (some [(.bool false),(.sl [] .tight),(.bool false),(.sl [] .tight),(.int .u8 0)]) [(0,2,big a),(2,2,big b),(4,1,.int .u8 c)]=some (.agg (cCl ⟨a,b,UInt8.ofNat c.toNat⟩)):=by
 have e:((UInt8.ofNat c.toNat).toNat:Int)=c:=by rw [u8_nat (by omega)];omega
 unfold cCl
 simp only [e]
 simp [AD,FV,Dp,big,A9,Ab.acells]
theorem list_turn {L:List Nd} {tk:Tok} {H Hd:Aa} {self:Ab→Ab→Ab→Ab→Aa→Out} {n u k p5 p7 p17:Nat} {x y:Int} {out:List Cl} {vo:Ab} (hL:L.length<549755813888) (hl:AE L=true) (hn0:0<n) (hn:n≤L.length) (hv:(A0 L n).lv=((u+1:Nat):Int))
  (hk:k<4) (hu:u+1≤1329) (hx:x.natAbs+2^(u+1)≤2^1340) (hy:y.natAbs+2^(u+1)≤2^1340) (b5:H.length≤p5) (b7:H.length≤p7) (b17:H.length≤p17)
  (f5:Hd[p5]? = some (.cel 0 (A9 x))) (f7:Hd[p7]? = some (.cel 0 (A9 y))) (f17:Hd[p17]? = some (.cel 0 (A9 (2^u)))) (hR:RS cCl A6 5 H.length out vo Hd) (hold:∀i,i<H.length→Hd[i]? = H[i]?) (hlen:H.length≤Hd.length)
  (hs:∀(c:Int) (a b:Int) (H1:Aa),c=(A0 L n).kid k→0<u→a=qa (u+1) x k→b=qb (u+1) y k→self (.sl (enL cNd L) tk) (.int .i64 c) (big a) (big b) H1=some (.ret (.sl (enL cCl (BU L u c a b)) .no),H1))
  (hcnt:out.length+(De (BU L u) (u+1) (A0 L n) x y k).length≤1000000000000) :
  ∃v' H',RS cCl A6 5 H.length (out++De (BU L u) (u+1) (A0 L n) x y k) v' H'∧H'[p5]? = some (.cel 0 (A9 x))∧H'[p7]? = some (.cel 0 (A9 y))∧H'[p17]? = some (.cel 0 (A9 (2^u)))∧(∀i,i<H.length→H'[i]? = H[i]?)∧H.length≤H'.length ∧
   ∀rec:LK,Sh.f33 H self rec (.sl (enL cNd L) tk) (.int .i64 (n:Int)) (.ptr p5 0 0) (.ptr p7 0 0) (.ptr p17 0 0) vo (.int .i64 (k:Int)) Hd=rec [.sl (enL cNd L) tk,.int .i64 (n:Int),.ptr p5 0 0,.ptr p7 0 0,.ptr p17 0 0,v',.int .i64 ((k+1:Nat):Int)] H':=by
 have hk':(k:Int)<4:=by omega
 have hwk:=Aw (show k<9223372036854775807 by omega)
 have hwn:=HY hn0 (show n<9223372036854775807 by omega)
 have hni:n-1<L.length:=by omega
 have hnd:A0 L (n:Int)=L[n-1]:=Ec (by omega) hni
 have sx:=M6 hx
 have sy:=M6 hy
 have sa:=M6 (qa_abs (k:=k) hx)
 have sb:=M6 (qb_abs (k:=k) hy)
 have sp:LB (2^u):=LB_pow u (by omega)
 obtain ⟨l1,l2,l3⟩:=AJ hl hni
 obtain ⟨q1,q2,q3⟩:=l3 k hk
 rw [hnd]at hv hs hcnt ⊢
 have rest:∀a b:Int,a=qa (u+1) x k→b=qb (u+1) y k→∃v' H',RS cCl A6 5 H.length (out++De (BU L u) (u+1) L[n-1] x y k) v' H'∧H'[p5]? = some (.cel 0 (A9 x))∧H'[p7]? = some (.cel 0 (A9 y))∧H'[p17]? = some (.cel 0 (A9 (2^u)))∧(∀i,i<H.length→H'[i]? = H[i]?)∧H.length≤H'.length ∧
   ∀rec:LK,Sh.f32 H self (fun vs H1=>Sh.f1w H rec (ag vs 0) (ag vs 1) (ag vs 2) (ag vs 3) (ag vs 4) (ag vs 5) (ag vs 6) H1) (.sl (enL cNd L) tk) (.int .i64 (n:Int)) (.ptr p5 0 0) (.ptr p7 0 0) (.ptr p17 0 0) vo (.int .i64 (k:Int)) (.ptr Hd.length 0 0) (.ptr (Hd.length+1) 0 0) (Hd++[.cel 0 (A9 a)]++[.cel 0 (A9 b)])=rec [.sl (enL cNd L) tk,.int .i64 (n:Int),.ptr p5 0 0,.ptr p7 0 0,.ptr p17 0 0,v',.int .i64 ((k+1:Nat):Int)] H':=by
  intro a b ha hb
  have la:Ac true 2 (.ptr Hd.length 0 0) (Hd++[.cel 0 (A9 a)]++[.cel 0 (A9 b)])=some (big a):=Bb (by simp)
  have lb:Ac true 2 (.ptr (Hd.length+1) 0 0) (Hd++[.cel 0 (A9 a)]++[.cel 0 (A9 b)])=some (big b):=Bb (by simp)
  have hR':RS cCl A6 5 H.length out vo (Hd++[.cel 0 (A9 a)]++[.cel 0 (A9 b)]):=(hR.left _).left _
  have hkp:Kp H.length Hd (Hd++[.cel 0 (A9 a)]++[.cel 0 (A9 b)]):=(Kp.app hlen _).trans (Kp.app (by simp;omega) _)
  generalize Hd++[Blk.cel 0 (A9 a)]++[Blk.cel 0 (A9 b)]=He at la lb hR' hkp
  have hHe:H.length≤He.length:=Vw hlen hkp.len
  by_cases h1:1<L[n-1].lv
  ·have hu0:0<u:=by omega
   have hself:=hs (L[n-1].kid k) a b He rfl hu0 ha hb
   have hck:De (BU L u) (u+1) L[n-1] x y k=BU L u (L[n-1].kid k) a b:=by unfold De;rw [if_pos h1,ha,hb]
   rw [hck]at hcnt ⊢
   obtain ⟨v',H',a1,a2,a3⟩:=hR'.app (bytes:=72) hHe (BU L u (L[n-1].kid k) a b) .no (by omega) (by omega)
   refine ⟨v',H',a2,(hkp.trans a3).get f5,(hkp.trans a3).get f7,(hkp.trans a3).get f17,fun i hi=>by rw [(hkp.trans a3).old i hi];exact hold i hi,Vw hHe a3.len,fun rec=>?_⟩
   unfold Sh.f32
   simp only [GMb,GMc,hwn,Ay hni,Al,Dt hk,AC,UY,Vk,Dk hk,BS,h1,gt_iff_lt,la,lb,hself,a1,Ai,Sh.f1w,hwk]
  ·have hu0:u=0:=by omega
   by_cases h0:0<L[n-1].kid k
   ·have h255:=q2 (by omega)
    have hck:De (BU L u) (u+1) L[n-1] x y k=[⟨a,b,UInt8.ofNat (L[n-1].kid k).toNat⟩]:=by unfold De;rw [if_neg h1,if_pos h0,ha,hb]
    rw [hck]at hcnt ⊢
    simp only [List.length_singleton]at hcnt
    obtain ⟨v',H',a1,a2,a3⟩:=hR'.app (bytes:=72) hHe [⟨a,b,UInt8.ofNat (L[n-1].kid k).toNat⟩] .tight (by simp only [List.length_singleton];omega) (by simp only [List.length_singleton];omega)
    have hcv:AK .u8 (.int .i64 (L[n-1].kid k))=some (.int .u8 (L[n-1].kid k)):=by rw [B7,QL q1 (by omega)]
    have hbc:=build_cell a b (L[n-1].kid k) h0 h255
    refine ⟨v',H',a2,(hkp.trans a3).get f5,(hkp.trans a3).get f7,(hkp.trans a3).get f17,fun i hi=>by rw [(hkp.trans a3).old i hi];exact hold i hi,Vw hHe a3.len,fun rec=>?_⟩
    unfold Sh.f32
    simp only [GMb,GMc,hwn,Ay hni,Al,Dt hk,AC,UY,Vk,Dk hk,BS,h1,h0,gt_iff_lt,la,lb,hcv,hbc,Mq,a1,Ai,Sh.f1w,hwk]
   ·have hck:De (BU L u) (u+1) L[n-1] x y k=[]:=by unfold De;rw [if_neg h1,if_neg h0]
    rw [hck,V3]
    refine ⟨vo,He,hR',hkp.get f5,hkp.get f7,hkp.get f17,fun i hi=>by rw [hkp.old i hi];exact hold i hi,hHe,fun rec=>?_⟩
    unfold Sh.f32
    simp only [GMb,GMc,hwn,Ay hni,Al,Dt hk,AC,UY,Vk,Dk hk,BS,h1,h0,gt_iff_lt,la,lb,Ai,Sh.f1w,hwk]
 have al1:=Cb Hd
 have al2:∀A,Az (some [.bool false,.sl [] .tight]) (Hd++[.cel 0 A])=some (.ptr (Hd.length+1) 0 0,Hd++[.cel 0 A]++[.cel 0 zBig]):=fun A=>by rw [Cb];simp
 have lx:∀G,Ac true 2 (.ptr p5 0 0) (Hd++G)=some (big x):=fun G=>Bb (A1 f5)
 have ly:∀G,Ac true 2 (.ptr p7 0 0) (Hd++G)=some (big y):=fun G=>Bb (A1 f7)
 have lh:∀G,Ac true 2 (.ptr p17 0 0) (Hd++G)=some (big (2^u)):=fun G=>Bb (A1 f17)
 have lx2:∀G G',Ac true 2 (.ptr p5 0 0) (Hd++G++G')=some (big x):=fun G G'=>by rw [Vb];exact lx _
 have ly2:∀G G',Ac true 2 (.ptr p7 0 0) (Hd++G++G')=some (big y):=fun G G'=>by rw [Vb];exact ly _
 have lh2:∀G G',Ac true 2 (.ptr p17 0 0) (Hd++G++G')=some (big (2^u)):=fun G G'=>by rw [Vb];exact lh _
 have lx0:Ac true 2 (.ptr p5 0 0) Hd=some (big x):=Bb f5
 have ly0:Ac true 2 (.ptr p7 0 0) Hd=some (big y):=Bb f7
 have addx:=fun H=>Jz x (2^u) H (sx.lb (by omega)) sp
 have addy:=fun H=>Jz y (2^u) H (sy.lb (by omega)) sp
 have hrem:(k:Int).tmod 2=((k%2:Nat):Int):=rfl
 have hmod:decide (((k%2:Nat):Int)=1)=decide (k%2=1):=by rw [Vr];simp only [decide_eq_true_eq];omega
 have hgt:decide ((k:Int)>1)=decide (1<k):=by rw [Vr];simp only [decide_eq_true_eq];omega
 have zl:zBig.length=2:=rfl
 have bl:∀z:Int,(A9 z).length=2:=fun z=>rfl
 obtain ⟨v',H',r1,r2,r3,r4,r5,r6,r7⟩:=rest (qa (u+1) x k) (qb (u+1) y k) rfl rfl
 refine ⟨v',H',r1,r2,r3,r4,r5,r6,fun rec=>?_⟩
 have s1:∀z,Ag 2 (.ptr Hd.length 0 0) (big z) (Hd++[.cel 0 zBig]++[.cel 0 zBig])=some (Hd++[.cel 0 (A9 z)]++[.cel 0 zBig]):=fun z=>two_a zl
 have s2:∀z A,Ag 2 (.ptr (Hd.length+1) 0 0) (big z) (Hd++[.cel 0 A]++[.cel 0 zBig])=some (Hd++[.cel 0 A]++[.cel 0 (A9 z)]):=fun z A=>two_b zl
 have s3:∀z z' B,Ag 2 (.ptr Hd.length 0 0) (big z) (Hd++[.cel 0 (A9 z')]++[.cel 0 B])=some (Hd++[.cel 0 (A9 z)]++[.cel 0 B]):=fun z z' B=>two_a (bl z')
 have s4:∀z z' A,Ag 2 (.ptr (Hd.length+1) 0 0) (big z) (Hd++[.cel 0 A]++[.cel 0 (A9 z')])=some (Hd++[.cel 0 A]++[.cel 0 (A9 z)]):=fun z z' A=>two_b (bl z')
 have j3:∀a:Int,a=qa (u+1) x k→Sh.f78 H self (fun vs H1=>Sh.f1w H rec (ag vs 0) (ag vs 1) (ag vs 2) (ag vs 3) (ag vs 4) (ag vs 5) (ag vs 6) H1) (.sl (enL cNd L) tk) (.int .i64 (n:Int)) (.ptr p5 0 0) (.ptr p7 0 0) (.ptr p17 0 0) vo (.int .i64 (k:Int)) (.ptr Hd.length 0 0) (.ptr (Hd.length+1) 0 0) (Hd++[.cel 0 (A9 a)]++[.cel 0 (A9 y)])=rec [.sl (enL cNd L) tk,.int .i64 (n:Int),.ptr p5 0 0,.ptr p7 0 0,.ptr p17 0 0,v',.int .i64 ((k+1:Nat):Int)] H':=by
  intro a ha
  subst ha
  unfold Sh.f78
  have hqb:qb (u+1) y k=if 1<k then y+2^u else y:=by unfold qb;rw [Vp]
  have r7':=r7 rec
  rw [hqb]at r7'
  by_cases hk1:1<k
  ·rw [if_pos hk1]at r7'
   simp only [GMb,GMc,hgt,hk1,ly2,lh2,addy,s4,Ai]
   exact r7'
  ·rw [if_neg hk1]at r7'
   simp only [GMb,GMc,hgt,hk1,Ai]
   exact r7'
 have hqa:qa (u+1) x k=if k%2=1 then x+2^u else x:=by unfold qa;rw [Vp]
 rw [hqa]at j3
 unfold Sh.f33
 simp only [GMb,GMc,hk',al1,al2,lx0,ly0,lx2,ly2,s1,s2,and_true,eq_self,HT (show (2:Int)≠0 by decide),hrem,hmod,Ai]
 by_cases hk2:k%2=1
 ·rw [if_pos hk2]at j3
  simp only [GMb,GMc,hk2,lx2,lh2,addx,s3,Ai]
  exact j3 _ rfl
 ·rw [if_neg hk2]at j3
  simp only [GMb,GMc,hk2,Ai]
  exact j3 _ rfl
theorem q07_listN {L:List Nd} {tk:Tok} (hL:L.length<549755813888) (hl:AE L=true):∀(v n:Nat) (x y:Int) (d:Nat) (H:Aa),Lv L v n→v≤d→v≤1329→x.natAbs+2^v≤2^1340→y.natAbs+2^v≤2^1340→(BU L v n x y).length≤1000000000000 →
  Sh.fd (d+1) (.sl (enL cNd L) tk) (.int .i64 (n:Int)) (big x) (big y) H=some (.ret (.sl (enL cCl (BU L v n x y)) .no),H):=by
 intro v
 induction v with
 | zero=>
  intro n x y d H hLv _ _ _ _ _
  have hn:n=0:=by
   rcases Wp n with h | h
   ·exact h
   ·have:=(hLv.num h hl).2;omega
  subst hn
  show Sh.f34 (Sh.fd d) _ _ _ _ H=_
  unfold Sh.f34
  simp only [GMb,GMc,D8,Int.natCast_zero,FW,FE]
  rw [Vb,Cf]
  simp only [FC,Option.map_some]
 | succ u ih=>
  intro n x y d H hLv hd hv hx hy hlen
  show Sh.f34 (Sh.fd d) _ _ _ _ H=_
  unfold Sh.f34
  by_cases hn:n=0
  ·subst hn
   simp only [GMb,GMc,D8,Int.natCast_zero,FW,FE]
   rw [Vb,Cf]
   simp only [FC,Option.map_some]
  ·have hn0:0<n:=by omega
   have hn':¬(n:Int)=0:=by omega
   have hnL:=hLv.1
   have hni:n-1<L.length:=by omega
   have hnd:A0 L (n:Int)=L[n-1]:=Ec (by omega) hni
   obtain ⟨hlv,_⟩:=hLv.num hn0 hl
   have hwn:=HY hn0 (show n<9223372036854775807 by omega)
   have hlv2:L[n-1].lv=((u+1:Nat):Int):=by rw [←hnd];exact hlv
   have hwl:IntKind.i64.wrap (((u+1:Nat):Int)-1)=((u:Nat):Int):=by rw [An] <;> omega
   have hpow:=fun H=>IL u H (by omega)
   have hcells:BU L (u+1) n x y=(List.range 4).flatMap fun k=>De (BU L u) (u+1) (A0 L n) x y k:=by
    show (if (n:Int)=0 then _ else _)=_
    rw [if_neg hn']
   have h5:(H++[Blk.cel 0 (A9 x)]++[Blk.cel 0 (A9 y)]++[Blk.cel 0 (A9 (2^u))])[H.length]? = some (.cel 0 (A9 x)):=by simp
   have h7:(H++[Blk.cel 0 (A9 x)]++[Blk.cel 0 (A9 y)]++[Blk.cel 0 (A9 (2^u))])[(H++[Blk.cel 0 (A9 x)]).length]? = some (.cel 0 (A9 y)):=A1 Ap
   have h17:(H++[Blk.cel 0 (A9 x)]++[Blk.cel 0 (A9 y)]++[Blk.cel 0 (A9 (2^u))])[(H++[Blk.cel 0 (A9 x)]++[Blk.cel 0 (A9 y)]).length]? = some (.cel 0 (A9 (2^u))):=Ap
   have hst:Ag 2 (.ptr (H++[Blk.cel 0 (A9 x)]++[Blk.cel 0 (A9 y)]).length 0 0) (big (2^u)) (H++[Blk.cel 0 (A9 x)]++[Blk.cel 0 (A9 y)]++[Blk.cel 0 zBig])=some (H++[Blk.cel 0 (A9 x)]++[Blk.cel 0 (A9 y)]++[Blk.cel 0 (A9 (2^u))]):=by
    rw [Cx Ap rfl,Bh]
   have hold:∀i,i<H.length→(H++[Blk.cel 0 (A9 x)]++[Blk.cel 0 (A9 y)]++[Blk.cel 0 (A9 (2^u))])[i]? = H[i]? := fun i hi=>by rw [Vb,Vb,UW hi]
   have hlen0:H.length≤(H++[Blk.cel 0 (A9 x)]++[Blk.cel 0 (A9 y)]++[Blk.cel 0 (A9 (2^u))]).length:=by simp
   simp only [GMb,GMc,D8,hn',hwn,Ay hni,Al,AC,UY,BS,hlv2,hwl,hpow,Cb,hst]
   have b7:H.length≤(H++[Blk.cel 0 (A9 x)]).length:=by simp
   have b17:H.length≤(H++[Blk.cel 0 (A9 x)]++[Blk.cel 0 (A9 y)]).length:=by simp
   generalize (H++[Blk.cel 0 (A9 x)]++[Blk.cel 0 (A9 y)]).length=p17 at *
   generalize (H++[Blk.cel 0 (A9 x)]).length=p7 at *
   generalize H++[Blk.cel 0 (A9 x)]++[Blk.cel 0 (A9 y)]++[Blk.cel 0 (A9 (2^u))]=Hc at *
   obtain ⟨d',rfl⟩:∃d',d=d'+1:=⟨d-1,by omega⟩
   have hpre:∀k,k≤4→((List.range k).flatMap fun k=>De (BU L u) (u+1) (A0 L n) x y k).length≤(BU L (u+1) n x y).length:=by
    intro k hk
    rw [hcells,show (4:Nat)=k+(4-k)by omega,List.range_add,WL,Vc]
    omega
   have loop:=Gi (G:=fun rec1 vs H1=>Sh.f33 H (Sh.fd (d'+1)) rec1 (ag vs 0) (ag vs 1) (ag vs 2) (ag vs 3) (ag vs 4) (ag vs 5) (ag vs 6) H1) 4
    (fun k vs Hd=>∃vo,vs=[.sl (enL cNd L) tk,.int .i64 (n:Int),.ptr H.length 0 0,.ptr p7 0 0,.ptr p17 0 0,vo,.int .i64 (k:Int)]∧RS cCl A6 5 H.length ((List.range k).flatMap fun k=>De (BU L u) (u+1) (A0 L n) x y k) vo Hd∧Hd[H.length]? = some (.cel 0 (A9 x))∧Hd[p7]? = some (.cel 0 (A9 y))∧Hd[p17]? = some (.cel 0 (A9 (2^u)))∧(∀i,i<H.length→Hd[i]? = H[i]?)∧H.length≤Hd.length)
    (by decide) (fun k vs Hd hk hI=>?_) (vs:=[.sl (enL cNd L) tk,.int .i64 (n:Int),.ptr H.length 0 0,.ptr p7 0 0,.ptr p17 0 0,.sl [] .tight,.int .i64 0]) (H:=Hc) ⟨_,rfl,.inl ⟨rfl,rfl⟩,h5,h7,h17,hold,hlen0⟩
   ·obtain ⟨vs',Hd,⟨vo,rfl,gR,_,_,_,go,gl⟩,rec,hloop⟩:=loop
    rw [hloop]
    obtain ⟨tk2,rfl⟩:=gR.sl
    have hf:¬(((4:Nat):Int)<4):=by decide
    unfold Sh.f33
    simp only [Ak,Ai,Bm,B5,hf,decide_false,AP,GI (C8 go),FC,Option.map_some]
    rw [hcells]
   ·obtain ⟨vo,rfl,gR,g5,g7,g17,go,gl⟩:=hI
    have hck:=hpre (k+1) (by omega)
    rw [WV,WL,Vc,XL]at hck
    obtain ⟨v',H',a1,a2,a3,a4,a5,a6,a7⟩:=list_turn (self:=Sh.fd (d'+1)) hL hl hn0 hnL hlv hk hv hx hy (Va _) b7 b17 g5 g7 g17 gR go gl (fun c a b H1 hc hu0 ha hb=>by
     subst hc
     have h1:1<(A0 L n).lv:=by rw [hlv];omega
     obtain ⟨e1,e2,e3⟩:=hLv.kid hl hn0 h1 hk
     obtain ⟨m,hm⟩:=VP e3
     rw [hm]at e1 ⊢
     rw [Int.toNat_natCast]at e1
     refine ih m a b d' H1 e1 (by omega) (by omega) (by rw [ha];exact qa_abs hx) (by rw [hb];exact qb_abs hy) ?_
     have h2:De (BU L u) (u+1) (A0 L n) x y k=BU L u m a b:=by unfold De;rw [if_pos h1,ha,hb,hm]
     rw [←h2];omega) (by omega)
    refine ⟨_,H',⟨v',rfl,?_,a2,a3,a4,a5,a6⟩,fun rec=>?_⟩
    ·rw [WV,WL,XL];exact a1
    ·exact a7 rec
theorem OB (L:List Nd):∀(d i:Nat),i+d=L.length→∀j,j≤i→(BL (L.take i)).getD j none=(BL L).getD j none
 | 0,i,h,j,hj=>by rw [Vg (by omega)]
 | d+1,i,h,j,hj=>by
  rw [←OB L d (i+1) (by omega) j (by omega),JB L (show i<L.length by omega)]
  have hlen:(BL (L.take i)).length=i+1:=by rw [I0];simp;omega
  simp only [UZ]
  rw [UW (by omega)]
theorem SK {E E':List (Option Int)} {x:Nd} (h:∀k,k<4→1<x.lv→E.getD (x.kid k).toNat none=E'.getD (x.kid k).toNat none):∀j,j≤4→CI E x j=CI E' x j
 | 0,_=>rfl
 | j+1,hj=>by
  have ih:=SK h j (by omega)
  unfold CI
  by_cases h1:1<x.lv
  ·rw [if_pos h1,if_pos h1,ih,h j (by omega) h1]
  ·rw [if_neg h1,if_neg h1,ih]
theorem cntL_get {L:List Nd} (hl:AE L=true) {m:Nat} (hm:m<L.length):(BL L).getD (m+1) none=CI (BL L) L[m] 4:=by
 have hlen:(BL (L.take m)).length=m+1:=by rw [I0];simp;omega
 obtain ⟨l1,l2,l3⟩:=AJ hl hm
 rw [←OB L (L.length-(m+1)) (m+1) (by omega) (m+1) (Va _),JB L hm]
 have hg:(BL (L.take m)++[CI (BL (L.take m)) L[m] 4]).getD (m+1) none=CI (BL (L.take m)) L[m] 4:=by
  rw [UZ,Vu (by omega),hlen];simp
 rw [hg]
 refine SK (fun k hk h1=>?_) 4 (Va _)
 obtain ⟨q1,q2,q3⟩:=l3 k hk
 have:(L[m].kid k).toNat≤m:=by
  by_cases h0:0<L[m].kid k
  ·have:=(q3 h1 h0).1;omega
  ·omega
 exact OB L (L.length-m) m (by omega) _ this
theorem UH (L:List Nd):(BL L).getD 0 none=none:=by
 rw [←OB L L.length 0 (by omega) 0 (Va _)];rfl
theorem cellsN_len {L:List Nd} (hl:AE L=true):∀(v n:Nat) (x y:Int),Lv L v n→((BU L v n x y).length:Int)=bo ((BL L).getD n none):=by
 intro v
 induction v with
 | zero=>
  intro n x y hLv
  have hn:n=0:=by
   rcases Wp n with h | h
   ·exact h
   ·have:=(hLv.num h hl).2;omega
  subst hn
  rw [UH];rfl
 | succ u ih=>
  intro n x y hLv
  by_cases hn:n=0
  ·subst hn
   rw [UH]
   rw [show ((0:Nat):Int)=0 from rfl,FW];rfl
  ·have hn0:0<n:=by omega
   have hn':¬(n:Int)=0:=by omega
   have hnL:=hLv.1
   have hni:n-1<L.length:=by omega
   have hnd:A0 L (n:Int)=L[n-1]:=Ec (by omega) hni
   obtain ⟨hlv,_⟩:=hLv.num hn0 hl
   obtain ⟨l1,l2,l3⟩:=AJ hl hni
   have hcells:BU L (u+1) n x y=(List.range 4).flatMap fun k=>De (BU L u) (u+1) (A0 L n) x y k:=by
    show (if (n:Int)=0 then _ else _)=_
    rw [if_neg hn']
   have hget:=cntL_get hl hni
   rw [show n-1+1=n by omega]at hget
   rw [hcells,hget,←hnd]
   have part:∀k,k≤4→(((List.range k).flatMap fun k=>De (BU L u) (u+1) (A0 L n) x y k).length:Int)=bo (CI (BL L) (A0 L n) k):=by
    intro k
    induction k with
    | zero=>intro _;simp [CI,bo]
    | succ k ihk=>
     intro hk
     have ih2:=ihk (by omega)
     rw [WV,WL,Vc,XL]
     push_cast
     rw [ih2]
     unfold De
     rw [show CI (BL L) (A0 L n) (k+1)=if 1<(A0 L n).lv then some (bo (CI (BL L) (A0 L n) k)+bo ((BL L).getD ((A0 L n).kid k).toNat none))else if 0<(A0 L n).kid k then some (bo (CI (BL L) (A0 L n) k)+1)else CI (BL L) (A0 L n) k from rfl]
     by_cases h1:1<(A0 L n).lv
     ·rw [if_pos h1,if_pos h1]
      obtain ⟨e1,e2,e3⟩:=hLv.kid hl hn0 h1 (show k<4 by omega)
      obtain ⟨m,hm⟩:=VP e3
      rw [hm]at e1 ⊢
      rw [Int.toNat_natCast]at e1 ⊢
      rw [ih m _ _ e1];rfl
     ·rw [if_neg h1,if_neg h1]
      by_cases h0:0<(A0 L n).kid k
      ·rw [if_pos h0,if_pos h0];rfl
      ·rw [if_neg h0,if_neg h0];simp
   exact part 4 (Va _)
theorem UN {L:List Nd}:∀(v:Nat) (n x y:Int),x.natAbs+2^v≤2^1340→y.natAbs+2^v≤2^1340→∀c∈BU L v n x y,SB 42 c.x∧SB 42 c.y:=by
 intro v
 induction v with
 | zero=>intro n x y _ _ c hc;cases hc
 | succ u ih=>
  intro n x y hx hy c hc
  have hc':c∈(if n=0 then []else (List.range 4).flatMap fun k=>De (BU L u) (u+1) (A0 L n) x y k):=hc
  split at hc'
  ·cases hc'
  ·rw [Xr]at hc'
   obtain ⟨k,_,hk⟩:=hc'
   unfold De at hk
   have ha:=qa_abs (k:=k) hx
   have hb:=qb_abs (k:=k) hy
   split at hk
   ·exact ih _ _ _ ha hb c hk
   ·split at hk
    ·rw [Vs]at hk
     subst hk
     exact ⟨M6 ha,M6 hb⟩
    ·cases hk
theorem cellsN_ok {L:List Nd} (v:Nat) (n x y:Int) (hx:x.natAbs+2^v≤2^1340) (hy:y.natAbs+2^v≤2^1340):∀c∈BU L v n x y,c.ok:=fun c hc=>by
 obtain ⟨h1,h2⟩:=UN v n x y hx hy c hc
 exact ⟨h1.mono (by omega),h2.mono (by omega)⟩
def Dy (L:List Nd):Int:=-(2^((BM L).toNat-1))
def Dd (L:List Nd):List Cl:=BU L (BM L).toNat L.length (Dy L) (Dy L)
def J4 (L:List Nd) (most:Int):List Cl×Bool:=if HC L>most then ([],false)else if L=[]then ([],true)else (AU (Dd L),true)
theorem countZ_b {L:List Nd} (hl:AE L=true):LB (HC L):=by
 have h:=Rk hl L.length (Va _) L.length (Va _)
 rw [Vg (Va _)]at h
 unfold HC
 refine (SB_four h.1 h.2 ?_).lb (by omega)
 cases hq:L.length with
 | zero=>simp
 | succ m=>
  simp only
  have hml:m<L.length:=by omega
  rw [UU hml]
  have:=(AJ hl hml).2.1
  simp only;omega
theorem corner_k {v k:Nat} (h:v+1≤k):(-((2:Int)^(v-1))).natAbs+2^v≤2^k:=by
 have e:((2:Int)^(v-1)).natAbs=2^(v-1):=by rw [XA];rfl
 rw [XU,e]
 have h1:2^(v-1)≤2^v:=V6 (by omega) (by omega)
 have h2:2^v*2≤2^k:=by rw [←Nat.pow_succ];exact pow2_le h
 omega
theorem SH {L:List Nd} (hl:AE L=true) (h0:L≠[]):(Dy L).natAbs+2^(BM L).toNat≤2^1340:=by
 have hlen:0<L.length:=VC.2 h0
 have hle:(BM L).toNat≤1329:=Oh hl hlen (Va _)
 unfold Dy
 generalize (BM L).toNat=v at *
 exact corner_k (k:=1340) (by omega)
theorem NF {L:List Nd} (hl:AE L=true) (h0:L≠[]):((Dd L).length:Int)=HC L:=by
 have hlen:0<L.length:=VC.2 h0
 exact cellsN_len hl _ L.length _ _ ⟨Va _,.inr rfl⟩
theorem q07_List (L:List Nd) (most:Int) (H:Aa) (hL:L.length<549755813888) (hl:AE L=true) (h0:-9223372036854775808≤most) (h1:most≤500000000000) :
  Sh.f5u (CP L) (.int .i64 most) H=some (.ret (.tup [.sl (enL cCl (J4 L most).1) .no,.bool (J4 L most).2]),H):=by
 unfold Sh.f5u J4
 have e3:(H++[Blk.cel 0 (BD L)])[H.length]? = some (.cel 0 (BD L)):=Ap
 have hct:=fun H=>q07_count L H hL hl
 have hof:=fun H=>q02_of most H h0 (by omega)
 have hcmp:=fun H=>Ge (HC L) most H (countZ_b hl) (LB_i64 (by omega) (by omega))
 have hgt:decide (EP (HC L) most>0)=decide (HC L>most):=by
  unfold EP
  rw [Vr];simp only [decide_eq_true_eq]
  split
  ·omega
  ·split <;> omega
 simp only [GMb,GMc,boxQ,QX e3,hct,hof,hcmp,hgt]
 by_cases hc:HC L>most
 ·rw [if_pos hc]
  simp only [hc,GMb,GMc]
  simp [enL]
 ·rw [if_neg hc]
  simp only [hc,GMb,GMc,Ah,UY,Ds e3,Au]
  by_cases hn:L=[]
  ·rw [if_pos hn]
   have:((L.length:Int)=0):=by rw [hn];rfl
   simp only [this,GMb,GMc]
   simp [enL]
  ·rw [if_neg hn]
   have hlen:0<L.length:=VC.2 hn
   have hne:¬((L.length:Int)=0):=by omega
   have hLv:Lv L (BM L).toNat L.length:=⟨Va _,.inr rfl⟩
   obtain ⟨hv1,hv2⟩:=hLv.num hlen hl
   have hv3:BM L=((BM L).toNat:Int):=hv1
   have hle:(BM L).toNat≤1329:=Oh hl hlen (Va _)
   have hlv:=fun H=>Ua L .no H (show L.length<17592186044415 by omega)
   rw [if_neg hn]at hlv
   obtain ⟨v,hv⟩:∃v,v=(BM L).toNat:=⟨_,rfl⟩
   rw [←hv]at hv2 hle hv3
   have hwl:IntKind.i64.wrap (BM L-1)=((v-1:Nat):Int):=by rw [hv3,An] <;> omega
   have hpow:=fun H=>IL (v-1) H (by omega)
   have hmin:=fun H=>Ij (2^(v-1)) H (LB_pow _ (by omega))
   have hcz:-(2^(v-1))=Dy L:=by unfold Dy;rw [hv]
   rw [hcz]at hmin
   have hst:Ag 2 (.ptr (H++[Blk.cel 0 (BD L)]).length 0 0) (big (Dy L)) (H++[Blk.cel 0 (BD L)]++[Blk.cel 0 zBig])=some (H++[Blk.cel 0 (BD L)]++[Blk.cel 0 (A9 (Dy L))]):=by
    rw [Cx Ap rfl,Bh]
   have hlc:Ac true 2 (.ptr (H++[Blk.cel 0 (BD L)]).length 0 0) (H++[Blk.cel 0 (BD L)]++[Blk.cel 0 (A9 (Dy L))])=some (big (Dy L)):=Bb Ap
   have hln:∀G,Ac false 1 (.ptr H.length 0 0) (H++[Blk.cel 0 (BD L)]++G)=some (.sl (enL cNd L) .no):=fun G=>Ds (A1 e3)
   have hab:=SH hl hn
   have hcl:=NF hl hn
   obtain ⟨F,hF⟩:=U6 2000 (by omega)
   have hcv:Dd L=BU L v (L.length) (Dy L) (Dy L):=by unfold Dd;rw [←hv]
   have hlist:∀H,Sh.fd AQ (.sl (enL cNd L) .no) (.int .i64 (L.length:Int)) (big (Dy L)) (big (Dy L)) H=some (.ret (.sl (enL cCl (Dd L)) .no),H):=by
    intro H
    rw [hF,show F+2000=(F+1999)+1 from rfl]
    rw [hcv]
    exact q07_listN hL hl v L.length (Dy L) (Dy L) (F+1999) H (by rw [hv];exact hLv) (by omega) hle (by rw [hv];exact hab) (by rw [hv];exact hab) (by rw [←hcv];omega)
   have hlast:=fun H=>q07_last (Dd L) .no H (by omega) (cellsN_ok _ _ _ _ hab hab)
   have hlv':∀H,Sh.f1u (CP L) H=some (.ret (.int .i64 (BM L)),H):=hlv
   simp only [hne,GMb,GMc,QX e3,hlv',hwl,hpow,hmin,Cb]
   simp only [GMb,GMc,hst,hln,hlc,Ah,UY,Nat.add_zero,Au,hlist,hlast]
   rw [Vb,Cf]
   simp
def CL:Nat→QT→Int→Int→List Cl
 | 0,_,_,_=>[]
 | v+1,t,x,y=>(List.range 4).flatMap fun k=>if v=0 then (if 0<t.s k then [⟨qa 1 x k,qb 1 y k,UInt8.ofNat (t.s k).toNat⟩]else [])else CL v (t.q k) (qa (v+1) x k) (qb (v+1) y k)
theorem I4:∀(v:Nat) (x y:Int),CL v .nil x y=[]
 | 0,_,_=>rfl
 | v+1,x,y=>by
  unfold CL
  rw [List.flatMap_eq_nil_iff]
  intro k _
  split
  ·rfl
  ·exact I4 v _ _
theorem SM {L:List Nd} (hl:AE L=true):∀(v n:Nat) (x y:Int),Lv L v n→BU L v (n:Int) x y=CL v (sem L v n) x y
 | 0,n,x,y,h=>rfl
 | v+1,n,x,y,h=>by
  rcases Wp n with h0 | h0
  ·subst h0
   rw [Fw,I4];exact FW L _ x y
  ·obtain ⟨hlv,_⟩:=h.num h0 hl
   unfold BU CL
   rw [if_neg (by omega)]
   have key:∀k∈List.range 4,De (BU L v) (v+1) (A0 L (n:Int)) x y k=(if v=0 then (if 0<(sem L (v+1) n).s k then [⟨qa 1 x k,qb 1 y k,UInt8.ofNat ((sem L (v+1) n).s k).toNat⟩]else [])else CL v ((sem L (v+1) n).q k) (qa (v+1) x k) (qb (v+1) y k)):=by
    intro k hk
    have hk4:k<4:=by simpa using hk
    unfold De
    by_cases hv:v=0
    ·subst hv
     have h1:¬1<(A0 L (n:Int)).lv:=by omega
     rw [if_neg h1,if_pos rfl,sem_s1 hl h0 h h1 hk4]
    ·have h1:1<(A0 L (n:Int)).lv:=by omega
     obtain ⟨k1,k2,k3⟩:=Lv.kid hl h0 h h1 hk4
     rw [if_pos h1,if_neg hv,R3 hl h0 h h1 hk4,←SM hl v _ _ _ k1,XW k3]
   have:∀(l:List Nat) (f g:Nat→List Cl),(∀k∈l,f k=g k)→l.flatMap f=l.flatMap g:=fun l f g h=>by
    induction l with
    | nil=>rfl
    | cons a l ih=>rw [Xm,Xm,h a (by simp),ih fun k hk=>h k (by simp [hk])]
   exact this _ _ _ key
theorem flat4 {α:Type} (f:Nat→List α):(List.range 4).flatMap f=f 0++(f 1++(f 2++f 3)):=by rw [show List.range 4=[0,1,2,3] from rfl];simp
theorem holT_nil {t:QT} (h:Ov t=true) {k j:Nat} (hk:k<4) (hj:j<4) (hne:j≠3-k) (v:Nat) (x y:Int):CL v ((t.q k).q j) x y=[]:=by rw [(holT_at h hk hj hne).1,I4]
theorem NT {t:QT} (h:Ov t=true) {k:Nat} (hk:k<4) (v:Nat) (x y:Int) :
  CL (v+1) (t.q k) x y=if v=0 then (if 0<(t.q k).s (3-k)then [⟨qa 1 x (3-k),qb 1 y (3-k),UInt8.ofNat ((t.q k).s (3-k)).toNat⟩]else [])else CL v ((t.q k).q (3-k)) (qa (v+1) x (3-k)) (qb (v+1) y (3-k)):=by
 have hs:∀j,j<4→j≠3-k→(t.q k).s j=0:=fun j hj hne=>(holT_at h hk hj hne).2
 have hq:∀j,j<4→j≠3-k→∀X Y,CL v ((t.q k).q j) X Y=[]:=fun j hj hne X Y=>holT_nil h hk hj hne v X Y
 show (List.range 4).flatMap _=_
 rw [flat4]
 by_cases hv:v=0
 ·subst hv
  simp only [if_true]
  match k,hk with
  | 0,_=>simp [hs 0 (by omega) (by omega),hs 1 (by omega) (by omega),hs 2 (by omega) (by omega)]
  | 1,_=>simp [hs 0 (by omega) (by omega),hs 1 (by omega) (by omega),hs 3 (by omega) (by omega)]
  | 2,_=>simp [hs 0 (by omega) (by omega),hs 3 (by omega) (by omega),hs 2 (by omega) (by omega)]
  | 3,_=>simp [hs 3 (by omega) (by omega),hs 1 (by omega) (by omega),hs 2 (by omega) (by omega)]
 ·simp only [if_neg hv]
  match k,hk with
  | 0,_=>simp [hq 0 (by omega) (by omega),hq 1 (by omega) (by omega),hq 2 (by omega) (by omega)]
  | 1,_=>simp [hq 0 (by omega) (by omega),hq 1 (by omega) (by omega),hq 3 (by omega) (by omega)]
  | 2,_=>simp [hq 0 (by omega) (by omega),hq 3 (by omega) (by omega),hq 2 (by omega) (by omega)]
  | 3,_=>simp [hq 3 (by omega) (by omega),hq 1 (by omega) (by omega),hq 2 (by omega) (by omega)]
theorem HF {v k:Nat} (hk:k<4) (x:Int):qa (v+1) (qa (v+2) x k) (3-k)=qa (v+1) (x+2^v) k∧qb (v+1) (qb (v+2) x k) (3-k)=qb (v+1) (x+2^v) k:=by
 have e:(2:Int)^(v+1)=2^v*2:=WS _ _
 unfold qa qb
 simp only [show v+2-1=v+1 from rfl,Vp,e]
 generalize (2:Int)^v=p
 match k,hk with
 | 0,_=>simp
 | 1,_=>simp;omega
 | 2,_=>simp;omega
 | 3,_=>simp;omega
theorem cells_inner {v:Nat} {t:QT} (h:Ov t=true) (x y:Int):CL (v+2) t x y=CL (v+1) (HA (v+2) t) (x+2^v) (y+2^v):=by
 have e1:CL (v+2) t x y=(List.range 4).flatMap fun k=>CL (v+1) (t.q k) (qa (v+2) x k) (qb (v+2) y k):=by
  show (List.range 4).flatMap _=_
  simp only [show ¬v+1=0 from by omega,if_false]
 rw [e1,flat4,NT h (by omega),NT h (by omega),NT h (by omega),NT h (by omega)]
 show _=(List.range 4).flatMap _
 rw [flat4]
 by_cases hv:v=0
 ·subst hv
  simp only [if_true]
  rw [(HF (v:=0) (show 0<4 by omega) x).1,(HF (v:=0) (show 0<4 by omega) y).2,(HF (v:=0) (show 1<4 by omega) x).1,(HF (v:=0) (show 1<4 by omega) y).2,
   (HF (v:=0) (show 2<4 by omega) x).1,(HF (v:=0) (show 2<4 by omega) y).2,(HF (v:=0) (show 3<4 by omega) x).1,(HF (v:=0) (show 3<4 by omega) y).2]
  rfl
 ·simp only [if_neg hv]
  rw [(HF (v:=v) (show 0<4 by omega) x).1,(HF (v:=v) (show 0<4 by omega) y).2,(HF (v:=v) (show 1<4 by omega) x).1,(HF (v:=v) (show 1<4 by omega) y).2,
   (HF (v:=v) (show 2<4 by omega) x).1,(HF (v:=v) (show 2<4 by omega) y).2,(HF (v:=v) (show 3<4 by omega) x).1,(HF (v:=v) (show 3<4 by omega) y).2]
  unfold HA
  rw [if_neg (by omega)]
  rfl
def crn (v:Nat):Int:=-(2^(v-1))
theorem UL:∀(v:Nat) (t:QT),Ga v t→t≠.nil→CL (Hx v t).1 (Hx v t).2 (crn (Hx v t).1) (crn (Hx v t).1)=CL v t (crn v) (crn v)
 | 0,t,_,_=>rfl
 | v+1,t,hg,hn=>by
  unfold Hx
  cases hh:Ov t with
  | false=>rfl
  | true=>
   simp only [if_true]
   obtain ⟨g1,g2⟩:=LN hg hh
   rw [UL v _ g1 g2]
   obtain ⟨u,rfl⟩:∃u,v=u+1:=⟨v-1,by
    rcases hg.kind with h | ⟨h1,h2,_⟩ | ⟨h1,_⟩
    ·exact absurd h hn
    ·simp only [Ov,h2,Wo]at hh;cases hh
    ·omega⟩
   rw [cells_inner hh]
   have e:crn (u+2)+2^u=crn (u+1):=by
    unfold crn
    have e:(2:Int)^(u+1)=2^u*2:=WS _ _
    simp only [show u+2-1=u+1 from rfl,Vp,e];omega
   rw [e]
def OneP (S:List Cl):Prop:=∀a∈S,∀b∈S,a.x=b.x→a.y=b.y→a=b
theorem sq0 {a b:Int} {c:Cl} (h:GT 0 a b c):c.x=a∧c.y=b:=by
 unfold GT at h
 simp only [Int.pow_zero]at h
 omega
theorem u8_back (s:UInt8):UInt8.ofNat ((s.toNat:Int).toNat)=s:=by simp
theorem Sn (d:Cl) (r:List Cl):F2 (d::r)=(d.s.toNat:Int):=rfl
theorem TG:∀(v:Nat) (x y:Int) (S:List Cl),(∀c∈S,GT v x y c)→(∀c∈S,c.s≠0)→OneP S→(S≠[]→1≤v)→∀c,c∈CL v (FR v x y S) x y↔c∈S
 | 0,x,y,S,h1,h2,h3,h4,c=>by
  have:S=[]:=Classical.byContradiction fun h=>by have:=h4 h;omega
  subst this;simp [CL]
 | v+1,x,y,S,h1,h2,h3,h4,c=>by
  by_cases hS:S=[]
  ·subst hS;rw [TF,I4]
  ·have sub:∀k,∀d∈Bn (v+1) x y k S,d∈S:=fun k d hd=>(VT.1 hd).1
   by_cases hv:v=0
   ·subst hv
    have hs:∀k,k<4→(FR 1 x y S).s k=F2 (Bn 1 x y k S):=by
     intro k hk
     unfold FR
     rw [if_neg hS,if_pos rfl]
     match k,hk with
     | 0,_=>rfl
     | 1,_=>rfl
     | 2,_=>rfl
     | 3,_=>rfl
    unfold CL
    rw [Xr]
    constructor
    ·rintro ⟨k,hk,hc⟩
     have hk4:k<4:=by simpa using hk
     rw [if_pos rfl,hs k hk4]at hc
     split at hc
     ·rename_i hp
      cases hq:Bn 1 x y k S with
      | nil=>rw [hq]at hp;exact absurd hp (by decide)
      | cons d r=>
       have hd:d∈Bn 1 x y k S:=by rw [hq];exact WQ
       have hdS:=sub k d hd
       obtain ⟨e1,e2⟩:=sq0 (L6 (v:=0) hd)
       rw [hq,Sn,u8_back,Vs]at hc
       have:c=d:=by rw [hc,←e1,←e2]
       rw [this];exact hdS
     ·cases hc
    ·intro hc
     obtain ⟨k,hk,hin⟩:=Ko (v:=0) (h1 c hc)
     refine ⟨k,by simpa using hk,?_⟩
     rw [if_pos rfl,hs k hk]
     have hcq:c∈Bn 1 x y k S:=VT.2 ⟨hc,inQ_sq.2 hin⟩
     cases hq:Bn 1 x y k S with
     | nil=>rw [hq]at hcq;cases hcq
     | cons d r=>
      have hd:d∈Bn 1 x y k S:=by rw [hq];exact WQ
      obtain ⟨e1,e2⟩:=sq0 (L6 (v:=0) hd)
      obtain ⟨e3,e4⟩:=sq0 hin
      have hdc:d=c:=h3 d (sub k d hd) c hc (by rw [e1,e3]) (by rw [e2,e4])
      subst hdc
      have hp:(0:Int)<(d.s.toNat:Int):=by
       have:=h2 d hc
       have:d.s.toNat≠0:=fun h=>this (W8.1 (by simpa using h))
       omega
      rw [Sn,if_pos hp,u8_back,Vs,←e1,←e2]
   ·have hq:∀k,k<4→(FR (v+1) x y S).q k=FR v (qa (v+1) x k) (qb (v+1) y k) (Bn (v+1) x y k S):=by
     intro k hk
     conv=>lhs;unfold FR
     rw [if_neg hS,if_neg hv]
     match k,hk with
     | 0,_=>rfl
     | 1,_=>rfl
     | 2,_=>rfl
     | 3,_=>rfl
    have ih:∀k,∀d,d∈CL v (FR v (qa (v+1) x k) (qb (v+1) y k) (Bn (v+1) x y k S)) (qa (v+1) x k) (qb (v+1) y k)↔d∈Bn (v+1) x y k S:=fun k=>
     TG v _ _ _ (fun d hd=>L6 hd) (fun d hd=>h2 d (sub k d hd)) (fun a ha b hb=>h3 a (sub k a ha) b (sub k b hb)) (fun _=>by omega)
    unfold CL
    rw [Xr]
    constructor
    ·rintro ⟨k,hk,hc⟩
     have hk4:k<4:=by simpa using hk
     rw [if_neg hv,hq k hk4]at hc
     exact sub k c ((ih k c).1 hc)
    ·intro hc
     obtain ⟨k,hk,hin⟩:=Ko (h1 c hc)
     refine ⟨k,by simpa using hk,?_⟩
     rw [if_neg hv,hq k hk]
     exact (ih k c).2 (VT.2 ⟨hc,inQ_sq.2 hin⟩)
theorem strC_one {S:List Cl} (h:PX S):OneP S:=by
 intro a ha b hb hx hy
 have h1:=(Rw h a).1 ha
 have h2:=(Rw h b).1 hb
 have:B2 ltC a=B2 ltC b:=Sy IA (Hp.2 ⟨hx,hy⟩)
 rw [this,h2]at h1
 injection h1 with h1;exact h1.symm
theorem Qq (l:List Cl):PX (CH l):=(IT l [] List.Pairwise.nil).1
theorem MI (l:List Cl):PX (AU l):=(Qq l).filter _
theorem lastL_of {l S:List Cl} (h:PX S) (hs:∀c∈S,c.s≠0) (hm:∀c,c∈l↔c∈S):AU l=S:=by
 have e:CH l=S:=by
  refine Nz IA _ _ (Qq l) h fun z=>?_
  obtain ⟨_,f2⟩:=IT l [] List.Pairwise.nil
  show z∈l.foldl Ca []↔_
  rw [f2 z,V3]
  constructor
  ·intro hz
   have:=List.mem_of_mem_head? (Option.mem_def.2 hz)
   exact (hm z).1 (by simpa using (VT.1 this).1)
  ·intro hz
   cases hf:l.reverse.filter (B2 ltC z)with
   | nil=>
    have:z∈l.reverse.filter (B2 ltC z):=VT.2 ⟨by simpa using (hm z).2 hz,LQ IA z⟩
    rw [hf]at this;cases this
   | cons c r=>
    have hc:c∈l.reverse.filter (B2 ltC z):=by rw [hf];exact WQ
    obtain ⟨c1,c2⟩:=VT.1 hc
    obtain ⟨e1,e2⟩:=Hp.1 c2
    rw [strC_one h c ((hm c).1 (by simpa using c1)) z hz e1.symm e2.symm];rfl
 unfold AU
 rw [e,XV]
 exact fun c hc=>decide_eq_true (hs c hc)
theorem lastL_idem (l:List Cl):AU (AU l)=AU l:=lastL_of (MI l) (fun _ h=>J5 h) fun _=>Iff.rfl
theorem of07_of {l m:List Cl} (h:AU l=AU m):Dq l=Dq m:=by unfold Dq;rw [h]
theorem N3 {l:List Cl} (hv:A2 (AU l)≤1329):(∀c,c∈Dd (Dq l).1↔c∈AU l)∧((Dq l).1=[]↔AU l=[])∧Do (Dq l).1=true∧(Dq l).2=0:=by
 have hs:∀c∈AU l,c.s≠0:=fun c h=>J5 h
 have hg:=SN hs hv
 have ho:=MI l
 rw [RQ,if_neg (by omega)]
 have hl1:=(Iq (AU l)).1
 have hmem:=TG (A2 (AU l)) _ _ (AU l) (fun c hc=>M1 hl1 (LL hv c hc)) hs (strC_one ho) (fun _=>hl1)
 obtain ⟨hr,hcl⟩:=OI hg
 refine ⟨?_,?_,hr,rfl⟩
 ·by_cases ht:JC (AU l)=.nil
  ·have e:Ei (A2 (AU l)) (JC (AU l))=[]:=by unfold Ei;rw [if_pos ht]
   intro c
   dsimp only
   rw [e,←hmem c]
   have:FR (A2 (AU l)) (-(2^(A2 (AU l)-1))) (-(2^(A2 (AU l)-1))) (AU l)=.nil:=ht
   rw [this,I4]
   unfold Dd
   simp only [List.length_nil]
   rw [show (((0:Nat):Int))=0 from rfl,FW]
  ·obtain ⟨c1,c2,c3,c4⟩:=hcl ht
   intro c
   have hsh:=UL _ _ hg ht
   rw [←hmem c]
   show c∈Dd (Ei (A2 (AU l)) (JC (AU l)))↔c∈CL (A2 (AU l)) (JC (AU l)) (crn (A2 (AU l))) (crn (A2 (AU l)))
   rw [←hsh,←c4]
   obtain ⟨q1,q2⟩:=c3.num c2 c1.lo
   generalize Ei (A2 (AU l)) (JC (AU l))=Q at c1 c2 c3 c4 q1
   have htop:(BM Q).toNat=(Hx (A2 (AU l)) (JC (AU l))).1:=by unfold BM;omega
   unfold Dd Dy
   rw [htop,SM c1.lo _ _ _ _ c3]
   rfl
 ·dsimp only
  constructor
  ·intro h
   by_cases ht:JC (AU l)=.nil
   ·refine Classical.byContradiction fun hne=>?_
    obtain ⟨w,hw⟩:∃w,A2 (AU l)=w+1:=⟨A2 (AU l)-1,by omega⟩
    unfold JC at ht
    rw [hw]at ht
    exact treeC_ne hne ht
   ·obtain ⟨c1,c2,c3,c4⟩:=hcl ht
    rw [h]at c2;simp at c2
  ·intro h
   rw [h]
   unfold Ei JC
   rw [TF,if_pos rfl]
theorem Pe {l:List Cl} (hv:A2 (AU l)≤1329):AU (Dd (Dq l).1)=AU l:=
 lastL_of (MI l) (fun _ h=>J5 h) (N3 hv).1
theorem quad_again {l:List Cl} (hv:A2 (AU l)≤1329):Dq (AU (Dd (Dq l).1))=Dq l:=by
 rw [Pe hv];exact of07_of (lastL_idem l)
theorem inSq_up {v k:Nat} {x y:Int} {c:Cl} (hk:k<4) (h:GT v (qa (v+1) x k) (qb (v+1) y k) c):GT (v+1) x y c:=by
 have e:(2:Int)^(v+1)=2^v*2:=WS _ _
 have hp:(0:Int)<2^v:=Xh (by omega)
 unfold GT qa qb at *
 simp only [Vp,e]at *
 generalize (2:Int)^v=p at *
 match k,hk with
 | 0,_=>simp at h;omega
 | 1,_=>simp at h;omega
 | 2,_=>simp at h;omega
 | 3,_=>simp at h;omega
theorem inSq_one {v k j:Nat} {x y:Int} {c:Cl} (hk:k<4) (hj:j<4) (h:GT v (qa (v+1) x k) (qb (v+1) y k) c) (h2:GT v (qa (v+1) x j) (qb (v+1) y j) c):k=j:=by
 unfold GT qa qb at *
 simp only [Vp]at *
 generalize (2:Int)^v=p at *
 match k,hk,j,hj with
 | 0,_,0,_=>rfl
 | 1,_,1,_=>rfl
 | 2,_,2,_=>rfl
 | 3,_,3,_=>rfl
 | 0,_,1,_=>simp at h h2;omega
 | 0,_,2,_=>simp at h h2;omega
 | 0,_,3,_=>simp at h h2;omega
 | 1,_,0,_=>simp at h h2;omega
 | 1,_,2,_=>simp at h h2;omega
 | 1,_,3,_=>simp at h h2;omega
 | 2,_,0,_=>simp at h h2;omega
 | 2,_,1,_=>simp at h h2;omega
 | 2,_,3,_=>simp at h h2;omega
 | 3,_,0,_=>simp at h h2;omega
 | 3,_,1,_=>simp at h h2;omega
 | 3,_,2,_=>simp at h h2;omega
def LC (v:Nat) (t:QT) (x y:Int) (k:Nat):List Cl:=if v=0 then (if 0<t.s k then [⟨qa 1 x k,qb 1 y k,UInt8.ofNat (t.s k).toNat⟩]else [])else CL v (t.q k) (qa (v+1) x k) (qb (v+1) y k)
theorem OE (v:Nat) (t:QT) (x y:Int):CL (v+1) t x y=(List.range 4).flatMap (LC v t x y):=rfl
theorem UM:∀(v:Nat) (t:QT) (x y:Int),∀c∈CL v t x y,GT v x y c
 | 0,t,x,y,c,h=>by cases h
 | v+1,t,x,y,c,h=>by
  rw [OE,Xr]at h
  obtain ⟨k,hk,hc⟩:=h
  have hk4:k<4:=by simpa using hk
  refine inSq_up hk4 ?_
  unfold LC at hc
  split at hc
  ·rename_i hv
   subst hv
   split at hc
   ·rw [Vs]at hc
    subst hc
    unfold GT;simp;omega
   ·cases hc
  ·exact UM v _ _ _ c hc
theorem piece_in {v k:Nat} {t:QT} {x y:Int} {c:Cl} (hk:k<4) (hc:c∈LC v t x y k):GT v (qa (v+1) x k) (qb (v+1) y k) c:=by
 unfold LC at hc
 split at hc
 ·rename_i hv
  subst hv
  split at hc
  ·rw [Vs]at hc
   subst hc
   unfold GT;simp;omega
  ·cases hc
 ·exact UM v _ _ _ c hc
theorem OF:∀(v:Nat) (t:QT) (x y:Int),(CL v t x y).Nodup
 | 0,t,x,y=>List.nodup_nil
 | v+1,t,x,y=>by
  have hp:∀k,(LC v t x y k).Nodup:=fun k=>by
   unfold LC
   split
   ·split <;> simp
   ·exact OF v _ _ _
  have hd:∀k j,k<4→j<4→k≠j→∀c,c∈LC v t x y k→c∈LC v t x y j→False:=fun k j hk hj hne c h1 h2=>hne (inSq_one hk hj (piece_in hk h1) (piece_in hj h2))
  rw [OE,flat4]
  refine WW.2 ⟨hp 0,WW.2 ⟨hp 1,WW.2 ⟨hp 2,hp 3,fun a h1 b h2 e=>hd 2 3 (by omega) (by omega) (by omega) a h1 (e ▸ h2)⟩,fun a h1 b h2 e=>?_⟩,fun a h1 b h2 e=>?_⟩
  ·subst e
   rcases Vt.1 h2 with h2 | h2
   ·exact hd 1 2 (by omega) (by omega) (by omega) a h1 h2
   ·exact hd 1 3 (by omega) (by omega) (by omega) a h1 h2
  ·subst e
   rcases Vt.1 h2 with h2 | h2
   ·exact hd 0 1 (by omega) (by omega) (by omega) a h1 h2
   ·rcases Vt.1 h2 with h2 | h2
    ·exact hd 0 2 (by omega) (by omega) (by omega) a h1 h2
    ·exact hd 0 3 (by omega) (by omega) (by omega) a h1 h2
theorem cellsL_nodup {L:List Nd} (hl:AE L=true):(Dd L).Nodup:=by
 unfold Dd
 rw [SM hl (BM L).toNat L.length _ _ ⟨Va _,.inr rfl⟩]
 exact OF _ _ _ _
theorem quad_count {l:List Cl} (hv:A2 (AU l)≤1329):(Dd (Dq l).1).length=(AU l).length:=by
 obtain ⟨h1,h2,h3,h4⟩:=N3 hv
 have hn:=cellsL_nodup (Gd h3)
 have hs:(AU l).Nodup:=by
  have:=MI l
  exact List.Pairwise.imp (fun {a b} h e=>by subst e;rw [IA.irr]at h;cases h) this
 exact ((List.perm_ext_iff_of_nodup hn hs).2 h1).length_eq
theorem q05_nodes (A B:List Nd) (t t':Tok) (H:Aa) (hA:A.length<1000000000000):Sh.f6c (.sl (enL cNd A) t) (.sl (enL cNd B) t') H=some (.ret (.bool (decide (A=B))),H):=by
 unfold Sh.f6c
 simp only [GMb,GMc,Au]
 by_cases hl:A.length=B.length
 ·have hd:decide ((A.length:Int)=(B.length:Int))=true:=decide_eq_true (by omega)
  simp only [GMb,GMc,hd]
  have key:=Br (G:=fun rec1 vs H1=>Sh.f7f H rec1 (ag vs 0) (ag vs 1) (ag vs 2) H1) (σ:=Nat) (fun i=>i≤A.length)
   (fun i=>[.sl (enL cNd A) t,.sl (enL cNd B) t',.int .i64 (i:Int)]) (fun _=>H) (fun i=>A.length-i) (fun i=>some (.ret (.bool (decide (A.drop i=B.drop i))),H)) (fun i rec hi hrec=>?_) 0 (Vy _) (by omega)
  ·simpa using key
  ·unfold Sh.f7f
   by_cases h:i<A.length
   ·have h':i<B.length:=by omega
    have hlt:(i:Int)<(A.length:Int):=by omega
    have hw:=Aw (show i<9223372036854775807 by omega)
    have:=hrec (i+1) h (by omega)
    rw [V4 h,V4 h']
    simp only [GMb,GMc,Ai,Au,hlt,Ay h,Ay h',IR,neq_nd,hw]
    by_cases he:A[i]=B[i]
    ·simp only [he,GMb,GMc,List.cons.injEq,true_and]
     exact this
    ·simp only [he,GMb,GMc,List.cons.injEq,false_and]
   ·have hlt:¬(i:Int)<(A.length:Int):=by omega
    rw [Ws (by omega),Ws (by omega)]
    simp only [GMb,GMc,Ai,Au,hlt]
 ·have hd:decide ((A.length:Int)=(B.length:Int))=false:=decide_eq_false (by omega)
  have hne:decide (A=B)=false:=decide_eq_false fun h=>hl (by rw [h])
  simp only [GMb,GMc,hd,hne]
theorem q05_same (A B:List Nd) (H:Aa) (hA:A.length<1000000000000):Sh.f6d (.agg [.sl (enL cNd A) .no]) (.agg [.sl (enL cNd B) .no]) H=some (.ret (.bool (decide (A=B))),H):=by
 unfold Sh.f6d
 simp only [GMb,GMc,HPa,HPc,HPd,HPe,HPz,Nat.reduceAdd,Nat.reduceLT,q05_nodes A B .no .no _ hA]
theorem q11_same (r r':List UInt8) (A B:List Nd) (H:Aa) (hA:A.length<1000000000000):Sh.fz (pat r A) (pat r' B) H=some (.ret (.bool (decide (r=r')&&decide (A=B))),H):=by
 unfold Sh.fz pat Fm
 have hq:BD A=[.sl (enL cNd A) .no]:=rfl
 have hq2:BD B=[.sl (enL cNd B) .no]:=rfl
 have hl:∀(c d:Ab) (G:Aa),Ac true 1 (.ptr 0 0 1) (.cel 0 [c,d]::G)=some (.agg [d]):=fun c d G=>by
  simp only [Ac,J7];rfl
 by_cases hr:r=r'
 ·have hd:(r == r')=true:=by simp [hr]
  have hd2:decide (r=r')=true:=decide_eq_true hr
  simp only [GMb,GMc,HPa,HPc,HPd,HPe,HPz,Nat.reduceAdd,Nat.reduceLT,Ms,hd,hd2,hl,q05_same A B _ hA]
 ·have hd:(r == r')=false:=by simp [hr]
  have hd2:decide (r=r')=false:=decide_eq_false hr
  simp only [GMb,GMc,HPa,HPc,HPd,HPe,HPz,Nat.reduceAdd,Nat.reduceLT,Ms,hd,hd2]
set_option exponentiation.threshold 5000
theorem R7 (n:Nat):FJ (A7 n)=true:=(N1 (Bt n)).2 (J1 n)
theorem cut_lims (n:Nat) (tk:Tok) (H:Aa) (hl:(A7 n).length≤1099511627776):Sh.f1 (.sl (enL cU (A7 n)) tk) H=some (.ret (.sl (enL cU (A7 n)) .no),H):=by
 have hr:=p_right (A7 n) tk H hl
 rw [R7]at hr
 unfold Sh.f1
 rw [DI EK]
 unfold Sh.f11
 simp only [Ak,GMb,GMc,hr,VX,DY,forget,Eh,fgt]
theorem w_pow (k:Nat):(4294967296:Nat)^k=2^(32*k):=by
 rw [show (4294967296:Nat)=2^32 from by decide,←Xf]
theorem bl_snoc {l':List Nat} {x:Nat} (hx:Lim (l'++[x])) (h0:x≠0):blN (val (l'++[x]))=32*l'.length+blN x:=by
 have h1:=FQ (l:=l') fun y hy=>hx y (by simp [hy])
 rw [Cp,JS]
 rw [w_pow]at h1 ⊢
 have hp:0<2^(32*l'.length):=Xa (by decide)
 have h2:2^(32*l'.length)≤val l'+2^(32*l'.length)*x:=by
  have:2^(32*l'.length)*1≤2^(32*l'.length)*x:=Xy _ (by omega)
  omega
 rw [blN_div h2,XS _ _ hp,Wx h1,UY,XK]
theorem p_len (n:Nat) (tk:Tok) (H:Aa) (hl:(A7 n).length≤1000000):Sh.f4b (.sl (enL cU (A7 n)) tk) H=some (.ret (.int .i64 (blN n:Int)),H):=by
 have hc:=cut_lims n tk H (by omega)
 unfold Sh.f4b
 simp only [GMb,GMc,hc,Au]
 have hx:=Bt n
 have hn:=(J1 n).last
 have hv:=Bz n
 generalize A7 n=l at *
 rcases FI l with rfl | ⟨l',x,rfl⟩
 ·have:n=0:=hv.symm
  subst this
  simp [blN]
 ·simp only [Vc,List.length_singleton]at hl
  have hx0:x≠0:=hn x (by simp)
  have h1:l'.length<(l'++[x]).length:=by simp
  have h3:IntKind.i64.wrap ((((l'++[x]).length:Nat):Int)-1)=(l'.length:Int):=by rw [An] <;> simp <;> omega
  have hne:((((l'++[x]).length:Nat):Int) == 0)=false:=by simp;omega
  have hne2:decide ((((l'++[x]).length:Nat):Int)=0)=false:=decide_eq_false (by simp;omega)
  have h4:IntKind.i64.wrap ((l'.length:Int)*32)=((32*l'.length:Nat):Int):=by rw [An] <;> omega
  have hxl:=hx x (by simp)
  have hb:blN x≤32:=Jc.2 (by simpa using hxl)
  have h5:IntKind.i64.wrap (((32*l'.length:Nat):Int)+(blN x:Int))=(blN n:Int):=by
   rw [←hv,bl_snoc hx hx0,An] <;> omega
  have hl32:=fun K=>p_len32 hxl K
  simp only [hne,hne2,AP,h3,Ay h1,AC,List.getElem?_cons_zero,Wd (Va _),V9,List.getElem_cons_zero,GMb,GMc,h4,hl32,h5]
theorem limb_at {l:List Nat} (hx:Lim l) {q:Nat} (hq:q<l.length):l[q]=val l / 2^(32*q)%4294967296:=by
 have e:l=l.take q++(l[q]::l.drop (q+1)):=by rw [←V4 hq,VG]
 have h1:=FQ (l:=l.take q) fun y hy=>hx y (Wm hy)
 have h2:=hx l[q] (Vi hq)
 have hv:val l=val (l.take q)+4294967296^q*(l[q]+4294967296*val (l.drop (q+1))):=by
  conv=>lhs;rw [e]
  rw [Cp,Vm,VZ (by omega)]
  rfl
 rw [Vm,VZ (by omega)]at h1
 have hp:0<4294967296^q:=Xa (by decide)
 rw [hv,←w_pow,XS _ _ hp,Wx h1,UY,Nat.add_mul_mod_self_left,Wb h2]
theorem shr_u32i (x k:Nat) (hk:k≤32):Ae .none .shr (.int .u32 (x:Int)) (.int .i64 (k:Int))=some (.int .u32 ((x / 2^k:Nat):Int)):=shr_u32 x k hk
theorem and_one {x:Nat} (hx:x<4294967296):Ae .none .and (.int .u32 (x:Int)) (.int .u32 1)=some (.int .u32 ((x%2:Nat):Int)):=by
 have h:=(JO (BitVec.ofNat 32 x) (BitVec.ofNat 32 1)).1
 rw [BitVec.toNat_and,WC,WC,Wb hx,Wb (by decide),Nat.and_one_is_mod]at h
 rw [Mt .and rfl _ _ (fun _ _ _=>rfl)]
 exact h
theorem p_bit (n i:Nat) (tk:Tok) (H:Aa) (hl:(A7 n).length≤1000000) (hi:i<1000000):Sh.f1q (.sl (enL cU (A7 n)) tk) (.int .i64 (i:Int)) H=some (.ret (.bool (n.testBit i)),H):=by
 have d0:decide ((i:Int)≥0)=true:=decide_eq_true (by omega)
 have hq:Ae .none .quo (.int .i64 (i:Int)) (.int .i64 32)=some (.int .i64 ((i / 32:Nat):Int)):=by
  show some (Ab.int .i64 (IntKind.i64.wrap (((i / 32:Nat):Int))))=_
  rw [An (by omega) (by omega)]
 have hrm:Ae .none .rem (.int .i64 (i:Int)) (.int .i64 32)=some (.int .i64 ((i%32:Nat):Int)):=rfl
 unfold Sh.f1q
 by_cases h:i / 32<(A7 n).length
 ·have d1:decide (((i / 32:Nat):Int)<((A7 n).length:Int))=true:=decide_eq_true (by omega)
  have hx:=Bt n _ (Vi h)
  have ha:=limb_at (Bt n) h
  rw [Bz]at ha
  have hs:=shr_u32i (A7 n)[i / 32] (i%32) (by omega)
  have han:=and_one (x:=(A7 n)[i / 32] / 2^(i%32)) (VN (Nat.div_le_self _ _) hx)
  have ht:((((A7 n)[i / 32] / 2^(i%32)%2:Nat):Int) == 1)=n.testBit i:=by
   have e1:n.testBit i=(A7 n)[i / 32].testBit (i%32):=by
    rw [ha,show (4294967296:Nat)=2^32 from by decide,Nat.testBit_mod_two_pow,Nat.testBit_div_two_pow,decide_eq_true (show i%32<32 by omega),VW,show i%32+32*(i / 32)=i by omega]
   rw [e1,WH]
   generalize (A7 n)[i / 32] / 2^(i%32)%2=z
   rw [Vr];simp;omega
  simp only [GMb,GMc,d0,hq,Au,d1,Ay h,AC,List.getElem?_cons_zero,hrm,hs,han,ht]
 ·have d1:decide (((i / 32:Nat):Int)<((A7 n).length:Int))=false:=decide_eq_false (by omega)
  have h1:=FQ (Bt n)
  rw [Bz,w_pow]at h1
  have hf:n.testBit i=false:=Nat.testBit_lt_two_pow (VR h1 (V6 (by decide) (by omega)))
  simp only [GMb,GMc,d0,hq,Au,d1,hf]
theorem p_need {z:Int} (H:Aa) (hz:LB z) (hl:z.natAbs<4294967296^100):Sh.f2h (big z) H=some (.ret (.int .i64 ((1+blN (if z<0 then z.natAbs-1 else z.natAbs):Nat):Int)),H):=by
 have key:∀w:Nat,w≤z.natAbs→(A7 w).length≤1000000:=fun w hw=>Vw (EG (VN hw hl)) (by decide)
 have hbl:∀w:Nat,w≤z.natAbs→IntKind.i64.wrap (1+(blN w:Int))=((1+blN w:Nat):Int):=fun w hw=>by
  have:blN w≤32*100:=Jc.2 (VN hw (by rw [w_pow]at hl;exact hl))
  rw [An] <;> omega
 have one:∀K,Sh.f2e (.int .i64 1) K=some (.ret (big 1),K):=fun K=>p_of 1 K (by decide) (by decide)
 have l1:LB 1:=by unfold LB;exact Vw (EG (k:=1) (by decide)) (by decide)
 unfold Sh.f2h Sh.f7k
 by_cases h:z<0
 ·have e:(-z-1).natAbs=z.natAbs-1:=by omega
  have hs:=fun K=>p_subB K hz.neg l1
  have hln:=fun K=>p_len (z.natAbs-1) .no K (key _ (by omega))
  have hb:=hbl (z.natAbs-1) (by omega)
  simp [D8,h,AN,p_minus,one,hs,e,hln,hb]
 ·have hln:=fun K=>p_len z.natAbs .no K (key _ (by omega))
  have hb:=hbl z.natAbs (by omega)
  simp [D8,h,AN,hln,hb]
def Oc (z:Int):Nat:=1+blN (if z<0 then z.natAbs-1 else z.natAbs)
theorem ipow (w:Nat):(2:Int)^w=((2^w:Nat):Int):=by simp
theorem inZ_need {v:Nat} {z:Int} (h:1≤v):inZ v z=decide (Oc z≤v):=by
 have hp:0<2^(v-1):=Xa (by decide)
 have key:∀u,1+blN u≤v↔u<2^(v-1):=fun u=>by rw [←Jc];omega
 unfold inZ Oc
 rw [Vr]
 simp only [Vh,decide_eq_true_eq,ipow,key]
 generalize 2^(v-1)=P at *
 by_cases hz:z<0
 ·rw [if_pos hz];omega
 ·rw [if_neg hz];omega
def Ql (c:Cl):Nat:=max (Oc c.x) (Oc c.y)
theorem within_need {v:Nat} {c:Cl} (h:1≤v):DV v c=decide (Ql c≤v):=by
 unfold DV Ql
 rw [inZ_need h,inZ_need h,Vr]
 simp only [Vh,decide_eq_true_eq]
 omega
theorem Ul:∀f v c,1≤v→IE f v c=max v (min (Ql c) (v+f))
 | 0,v,c,h=>by unfold IE;omega
 | f+1,v,c,h=>by
  unfold IE
  rw [within_need h]
  by_cases q:Ql c≤v
  ·rw [if_pos (decide_eq_true q)];omega
  ·rw [if_neg (by simpa using q),Ul f (v+1) c (by omega)];omega
def mxN:List Cl→Nat
 | []=>0
 | c::l=>max (Ql c) (mxN l)
theorem fold_lv:∀(l:List Cl) (v:Nat),1≤v→v≤1330→l.foldl (fun v c=>IE (1330-v) v c) v=max v (min 1330 (mxN l))
 | [],v,h1,h2=>by simp only [List.foldl_nil,mxN];omega
 | c::l,v,h1,h2=>by
  have h:=Ul (1330-v) v c h1
  rw [List.foldl_cons,fold_lv l _ (by omega) (by omega),h]
  simp only [mxN]
  omega
def Eb (l:List Cl):Nat→Nat
 | 0=>1
 | i+1=>match l[i]? with | some c=>max (Eb l i) (Ql c) | none=>Eb l i
theorem Pj (l:List Cl):∀i,Eb l i=max 1 (mxN (l.take i))
 | 0=>rfl
 | i+1=>by
  have hs:∀(m:List Cl) (c:Cl),mxN (m++[c])=max (mxN m) (Ql c):=fun m c=>by
   induction m with
   | nil=>simp only [List.nil_append,mxN];omega
   | cons d m ih=>simp only [List.cons_append,mxN,ih];omega
  unfold Eb
  rw [Pj l i]
  rcases VH i l.length with h | h
  ·rw [UU h,Vf h,hs]
   dsimp only;omega
  ·rw [Vl h,Vg (show l.length≤i+1 by omega),Vg h]
theorem levelOf_need (l:List Cl):A2 l=min 1330 (Eb l l.length):=by
 unfold A2
 rw [fold_lv l 1 (by omega) (by omega),Pj,VO]
 omega
structure Sp where
 a:Nat
 b:Nat
 s:UInt8
def cSp (p:Sp):List Ab:=[.sl (enL cU (A7 p.a)) .no,.sl (enL cU (A7 p.b)) .no,.int .u8 (p.s.toNat:Int)]
instance:Sz cSp 3:=⟨fun _=>rfl⟩
def spot (h:Int) (c:Cl):Sp:=⟨(c.x+h).toNat,(c.y+h).toNat,c.s⟩
def qOf (v:Nat) (p:Sp):Nat:=(if p.a.testBit v then 1 else 0)+(if p.b.testBit v then 2 else 0)
def qSp (v k:Nat) (S:List Sp):List Sp:=S.filter fun p=>decide (qOf v p=k)
def headP:List Sp→Int
 | []=>0
 | p::_=>(p.s.toNat:Int)
def lyK (rec:List Nd→List Sp→List Nd×Nat) (v:Nat) (S:List Sp):Nat→List Nd→List Nd×Nd
 | 0,out=>(out,⟨((v+1:Nat):Int),0,0,0,0⟩)
 | k+1,out=>
  if v=0 then ((lyK rec v S k out).1,(lyK rec v S k out).2.setKid k (headP (qSp v k S)))
  else ((rec (lyK rec v S k out).1 (qSp v k S)).1,(lyK rec v S k out).2.setKid k ((rec (lyK rec v S k out).1 (qSp v k S)).2:Int))
def Cw:Nat→List Nd→List Sp→List Nd×Nat
 | 0,out,_=>(out,0)
 | v+1,out,S=>if S=[]then (out,0)else ((lyK (Cw v) v S 4 out).1++[(lyK (Cw v) v S 4 out).2],(lyK (Cw v) v S 4 out).1.length+1)
theorem bit_hi {A X v m:Nat} (hX:X=2^(v+1)*m) (h1:X≤A) (h2:A<X+2^(v+1)):A.testBit v=decide (X+2^v≤A):=by
 have hp:0<2^v:=Xa (by decide)
 have e:2^(v+1)=2^v*2:=Nat.pow_succ _ _
 obtain ⟨r,rfl⟩:∃r,A=X+r:=⟨A-X,by omega⟩
 rw [WH,hX,e,WK,Nat.mul_add_div hp,Nat.mul_add_mod]
 have hr:r<2^v*2:=by omega
 by_cases q:2^v≤r
 ·have:r / 2^v=1:=by
   rw [show r=2^v*1+(r-2^v)by omega,Nat.mul_add_div hp,Wx (by omega)]
  rw [this,Vr];simp;omega
 ·rw [Wx (by omega),Vr];simp;omega
theorem quart_bit {v k:Nat} {x y h:Int} {X Y m n:Nat} {c:Cl} (hk:k<4) (hx:(X:Int)=x+h) (hy:(Y:Int)=y+h) (hX:X=2^(v+1)*m) (hY:Y=2^(v+1)*n) (hc:GT (v+1) x y c) :
  inQ (v+1) (qa (v+1) x k) (qb (v+1) y k) c=decide (qOf v (spot h c)=k):=by
 obtain ⟨c1,c2,c3,c4⟩:=hc
 have e:(2:Int)^(v+1)=((2^(v+1):Nat):Int):=ipow _
 rw [e]at c2 c4
 have b1:=bit_hi (A:=(c.x+h).toNat) hX (by omega) (by omega)
 have b2:=bit_hi (A:=(c.y+h).toNat) hY (by omega) (by omega)
 have e2:2^(v+1)=2^v*2:=Nat.pow_succ _ _
 rw [e2]at c2 c4
 unfold qOf spot
 dsimp only
 rw [b1,b2]
 unfold inQ qa qb
 rw [Vp,ipow]
 generalize 2^v=P at *
 clear hX hY b1 b2 e e2
 have t1:(X+P≤(c.x+h).toNat)↔x+P≤c.x:=by omega
 have t2:(Y+P≤(c.y+h).toNat)↔y+P≤c.y:=by omega
 simp only [t1,t2,decide_eq_true_eq]
 rw [Vr]
 simp only [Vh,decide_eq_true_eq]
 by_cases q1:x+P≤c.x
 ·by_cases q2:y+P≤c.y
  ·rw [if_pos q1,if_pos q2]
   match k,hk with
   | 0,_=>simp;omega
   | 1,_=>simp;omega
   | 2,_=>simp;omega
   | 3,_=>simp;omega
  ·rw [if_pos q1,if_neg q2]
   match k,hk with
   | 0,_=>simp;omega
   | 1,_=>simp;omega
   | 2,_=>simp;omega
   | 3,_=>simp;omega
 ·by_cases q2:y+P≤c.y
  ·rw [if_neg q1,if_pos q2]
   match k,hk with
   | 0,_=>simp;omega
   | 1,_=>simp;omega
   | 2,_=>simp;omega
   | 3,_=>simp;omega
  ·rw [if_neg q1,if_neg q2]
   match k,hk with
   | 0,_=>simp;omega
   | 1,_=>simp;omega
   | 2,_=>simp;omega
   | 3,_=>simp;omega
theorem head_spot (h:Int) (l:List Cl):headP (l.map (spot h))=F2 l:=by cases l <;> rfl
theorem qSp_spot {v k:Nat} {x y h:Int} {X Y m n:Nat} {l:List Cl} (hk:k<4) (hx:(X:Int)=x+h) (hy:(Y:Int)=y+h) (hX:X=2^(v+1)*m) (hY:Y=2^(v+1)*n) (hc:∀c∈l,GT (v+1) x y c) :
  qSp v k (l.map (spot h))=(Bn (v+1) x y k l).map (spot h):=by
 unfold qSp Bn
 rw [List.filter_map]
 congr 1
 refine List.filter_congr fun c hcl=>?_
 exact (quart_bit hk hx hy hX hY (hc c hcl)).symm
theorem Us {h:Int}:∀(v:Nat) (out:List Nd) (x y:Int) (l:List Cl) (X Y m n:Nat),(X:Int)=x+h→(Y:Int)=y+h→X=2^v*m→Y=2^v*n→(∀c∈l,GT v x y c)→Cw v out (l.map (spot h))=AO v out x y l
 | 0,out,x,y,l,X,Y,m,n,_,_,_,_,_=>rfl
 | v+1,out,x,y,l,X,Y,m,n,hx,hy,hX,hY,hc=>by
  have e2:2^(v+1)=2^v*2:=Nat.pow_succ _ _
  have key:∀k,k≤4→lyK (Cw v) v (l.map (spot h)) k out=plK (AO v) (v+1) x y l k out:=by
   intro k
   induction k with
   | zero=>intro _;rfl
   | succ k ih=>
    intro hk
    have hq:=qSp_spot (k:=k) (by omega) hx hy hX hY hc
    unfold lyK plK
    rw [ih (by omega),hq,head_spot]
    by_cases h0:v=0
    ·rw [if_pos h0,if_pos (by omega)]
    ·rw [if_neg h0,if_neg (by omega)]
     have hrec:=Us (h:=h) v (plK (AO v) (v+1) x y l k out).1 (qa (v+1) x k) (qb (v+1) y k) (Bn (v+1) x y k l)
      (if k%2=1 then X+2^v else X) (if 1<k then Y+2^v else Y) (if k%2=1 then m*2+1 else m*2) (if 1<k then n*2+1 else n*2)
      (by unfold qa;rw [Vp,ipow];split <;> omega) (by unfold qb;rw [Vp,ipow];split <;> omega)
      (by rw [hX,e2];split <;> (simp only [Wk,Vk,WK,Wr 2 m])) (by rw [hY,e2];split <;> (simp only [Wk,Vk,WK,Wr 2 n]))
      (fun c hc=>L6 hc)
     rw [hrec]
  unfold Cw AO
  rw [key 4 (by omega)]
  by_cases h0:l=[]
  ·rw [if_pos (by rw [h0];rfl),if_pos h0]
  ·rw [if_neg (by simpa using h0),if_neg h0]
theorem c05_kid {L:List Nd} {tk:Tok} {i:Nat} (hi:i<L.length) (h1:1≤L[i].lv) (h2:L[i].lv≤1329) (c:Int) (H:Aa) (hL:L.length<1152921504606846976):Sh.f4g (.sl (enL cNd L) tk) (.int .i64 (i:Int)) (.int .i64 c) H=some (.ret (.bool (CU L i L[i] c)),H):=by
 unfold Sh.f4g
 simp only [GMb,GMc,HPa,HPc,HPd,HPe,HPz,Nat.reduceAdd,Nat.reduceLT,Ay hi,IR,BS,F9,ET,F1]
 generalize L[i]=x at h1 h2
 by_cases hc:c=0
 ·have:CU L i x c=true:=by
   unfold CU
   simp only [Vh,decide_eq_true_eq];exact ⟨⟨by omega,fun _=>by omega⟩,fun _ h=>by omega⟩
  rw [this]
  simp only [hc,GMb,GMc,HPa,HPc,HPd,HPe,HPz,Nat.reduceAdd,Nat.reduceLT]
 ·simp only [hc,GMb,GMc,HPa,HPc,HPd,HPe,HPz,Nat.reduceAdd,Nat.reduceLT,BS]
  by_cases hl:x.lv=1
  ·have:CU L i x c=(decide (c>0)&&decide (c≤255)):=by
    unfold CU
    rw [Vr];simp only [Vh,decide_eq_true_eq]
    exact ⟨fun h=>⟨by omega,h.1.2 hl⟩,fun h=>⟨⟨by omega,fun _=>h.2⟩,fun h'=>by omega⟩⟩
   rw [this]
   by_cases h0:c>0
   ·simp only [hl,h0,GMb,GMc,HPa,HPc,HPd,HPe,HPz,Nat.reduceAdd,Nat.reduceLT]
   ·simp only [hl,h0,GMb,GMc,HPa,HPc,HPd,HPe,HPz,Nat.reduceAdd,Nat.reduceLT]
  ·simp only [hl,GMb,GMc,HPa,HPc,HPd,HPe,HPz,Nat.reduceAdd,Nat.reduceLT]
   by_cases h0:c>0
   ·by_cases hci:c≤(i:Int)
    ·obtain ⟨m,rfl⟩:∃m:Nat,c=((m+1:Nat):Int):=⟨(c-1).toNat,by omega⟩
     have hm:m<L.length:=by omega
     have hw:IntKind.i64.wrap (((m+1:Nat):Int)-1)=(m:Int):=by rw [An] <;> omega
     have hw2:IntKind.i64.wrap (x.lv-1)=x.lv-1:=An (by omega) (by omega)
     have:CU L i x ((m+1:Nat):Int)=decide (L[m].lv=x.lv-1):=by
      unfold CU
      rw [Vr];simp only [Vh,decide_eq_true_eq,show (((m+1:Nat):Int)-1).toNat=m by omega,UU hm,Ve]
      exact ⟨fun h=>(h.2 (by omega) h0).2 _ rfl,fun h=>⟨⟨by omega,fun h'=>absurd h' hl⟩,fun _ _=>⟨hci,fun y e=>by rw [←e];exact h⟩⟩⟩
     rw [this]
     simp only [h0,hci,GMb,GMc,HPa,HPc,HPd,HPe,HPz,Nat.reduceAdd,Nat.reduceLT,hw,hw2,Ay hm,Al,AC,BS]
    ·have:CU L i x c=false:=by
      unfold CU
      rw [WD];right
      rw [decide_eq_false_iff_not];intro h;exact hci (h (by omega) h0).1
     rw [this]
     simp only [h0,hci,GMb,GMc,HPa,HPc,HPd,HPe,HPz,Nat.reduceAdd,Nat.reduceLT]
   ·have:CU L i x c=false:=by
     unfold CU
     rw [WD,WD];left;left
     rw [decide_eq_false_iff_not];omega
    rw [this]
    simp only [h0,GMb,GMc,HPa,HPc,HPd,HPe,HPz,Nat.reduceAdd,Nat.reduceLT]
theorem c05_loose (L:List Nd) (tk:Tok) (H:Aa) (hL:L.length<1152921504606846976):Sh.f2j (.sl (enL cNd L) tk) H=some (.ret (.bool (AE L)),H):=by
 unfold Sh.f2j
 rw [show AE L=(List.range L.length).all (FZ L) from rfl]
 simp only [GMb,GMc,HPa,HPc,HPd,HPe,HPz,Nat.reduceAdd,Nat.reduceLT,Au]
 have key:∀(d i:Nat) (G:Aa),i+d=L.length→(∀j,j<i→FZ L j=true)→∀n,d<n→Ao (fun rec1 vs H1=>Sh.f17 H rec1 (ag vs 0) (ag vs 1) (ag vs 2) (ag vs 3) H1) n [.sl (enL cNd L) tk,.sl (enL cNd L) tk,.int .i64 (L.length:Int),.int .i64 (i:Int)] (H++G)=some (.ret (.bool ((List.range L.length).all (FZ L))),H):=by
  intro d
  induction d with
  | zero=>
   intro i G hi hall n hn
   obtain ⟨n,rfl⟩:∃k,n=k+1:=⟨n-1,by omega⟩
   have:(List.range L.length).all (FZ L)=true:=by
    rw [Vn];intro j hj;exact hall j (by have:=Xl.1 hj;omega)
   rw [CF,this]
   generalize Ao (fun rec1 vs H1=>Sh.f17 H rec1 (ag vs 0) (ag vs 1) (ag vs 2) (ag vs 3) H1) n=rec
   unfold Sh.f17
   have hi':¬(i:Int)<(L.length:Int):=by omega
   simp only [GMb,GMc,HPa,HPc,HPd,HPe,HPz,Nat.reduceAdd,Nat.reduceLT,hi']
  | succ d ih=>
   intro i G hi hall n hn
   obtain ⟨n,rfl⟩:∃k,n=k+1:=⟨n-1,by omega⟩
   have hlt:i<L.length:=by omega
   have hi':(i:Int)<(L.length:Int):=by omega
   rw [CF]
   have hno:FZ L i=false→(List.range L.length).all (FZ L)=false:=fun h=>by rw [W7];exact ⟨i,by simpa using hlt,by simp [h]⟩
   have hyes:FZ L i=true→∀G',Ao (fun rec1 vs H1=>Sh.f17 H rec1 (ag vs 0) (ag vs 1) (ag vs 2) (ag vs 3) H1) n [.sl (enL cNd L) tk,.sl (enL cNd L) tk,.int .i64 (L.length:Int),.int .i64 ((i+1:Nat):Int)] (H++G')=some (.ret (.bool ((List.range L.length).all (FZ L))),H):=fun h G'=>ih (i+1) G' (by omega) (fun j hj=>by
    by_cases e:j=i
    ·rw [e];exact h
    ·exact hall j (by omega)) n (by omega)
   generalize Ao (fun rec1 vs H1=>Sh.f17 H rec1 (ag vs 0) (ag vs 1) (ag vs 2) (ag vs 3) H1) n=rec at hyes
   unfold Sh.f17
   have hg:L[i]? = some L[i]:=UU hlt
   simp only [GMb,GMc,HPa,HPc,HPd,HPe,HPz,Nat.reduceAdd,Nat.reduceLT,Ai,hi',Ay hlt,IR,BS,F9,ET,F1]
   by_cases h1:L[i].lv<1
   ·have:FZ L i=false:=by simp only [FZ,hg];simp;intro;omega
    rw [hno this]
    simp only [h1,GMb,GMc,HPa,HPc,HPd,HPe,HPz,Nat.reduceAdd,Nat.reduceLT]
   ·by_cases h2:L[i].lv>1329
    ·have:FZ L i=false:=by simp only [FZ,hg];simp;intro;omega
     rw [hno this]
     simp only [h1,h2,GMb,GMc,HPa,HPc,HPd,HPe,HPz,Nat.reduceAdd,Nat.reduceLT,BS,F9,ET,F1]
    ·have hd:FZ L i=(List.range 4).all fun k=>CU L i L[i] (L[i].kid k):=by
      simp only [FZ,hg];rw [decide_eq_true (by omega)];rfl
     simp only [h1,h2,GMb,GMc,HPa,HPc,HPd,HPe,HPz,Nat.reduceAdd,Nat.reduceLT,BS,F9,ET,F1]
     have:=EF 4 (fun k=>CU L i L[i] (L[i].kid k)) (fun k=>[.sl (enL cNd L) tk,.int .i64 (i:Int),.sl (enL cNd L) tk,.int .i64 (L.length:Int),.int .i64 (i:Int),.agg (IU L[i]),.int .i64 (k:Int)]) (H++(G++[.cel 0 (cNd L[i])])) (rec [.sl (enL cNd L) tk,.sl (enL cNd L) tk,.int .i64 (L.length:Int),.int .i64 ((i+1:Nat):Int)] (H++(G++[.cel 0 (cNd L[i])]))) (some (.ret (.bool false),H)) (by decide) (fun rec2 k hk=>?_) (fun rec2=>?_)
      (G:=fun rec2 vs H1=>Sh.f4h H rec rec2 (ag vs 0) (ag vs 1) (ag vs 2) (ag vs 3) (ag vs 4) (ag vs 5) (ag vs 6) H1)
     ·refine this.trans ?_
      rw [←hd]
      cases hb:FZ L i with
      | true=>simp only [if_true];exact hyes hb _
      | false=>simp only [Vd,if_false];rw [hno hb]
     ·have hk':(k:Int)<4:=by omega
      unfold Sh.f4h
      simp only [GMb,GMc,HPa,HPc,HPd,HPe,HPz,Nat.reduceAdd,Nat.reduceLT,Ai,hk',ag_kid _ hk,c05_kid hlt (by omega) (by omega) (L[i].kid k) _ hL]
      cases CU L i L[i] (L[i].kid k)with
      | true=>simp only [GMb,GMc,HPa,HPc,HPd,HPe,HPz,Nat.reduceAdd,Nat.reduceLT,Aw (show k<9223372036854775807 by omega),if_true]
      | false=>simp only [GMb,GMc,HPa,HPc,HPd,HPe,HPz,Nat.reduceAdd,Nat.reduceLT,Vd,if_false]
     ·unfold Sh.f4h
      simp only [GMb,GMc,HPa,HPc,HPd,HPe,HPz,Nat.reduceAdd,Nat.reduceLT,Ai,show ¬(((4:Nat):Int)<4) from by decide,Aw (show i<9223372036854775807 by omega)]
 have:=key L.length 0 [] (by omega) (fun j hj=>by omega) AQ (by rw [Dv];exact hL)
 rw [V3]at this
 exact this
def P9 (F:List Bool) (x:Nd) (k:Nat):Bool:=!decide (x.kid k=0)&&(decide (x.lv=1)||F.getD (x.kid k).toNat false)
def fulS (F:List Bool) (x:Nd):Bool:=(List.range 4).any (P9 F x)
theorem ful_emp {E:List Bool} {x:Nd} (h1:1≤x.lv) (hE:∀k,k<4→1<x.lv→(x.kid k).toNat<E.length):fulS (E.map (!·)) x = !LT E x:=by
 unfold fulS LT
 have each:∀k,k<4→P9 (E.map (!·)) x k = !(decide (x.kid k=0)||(decide (1<x.lv)&&E.getD (x.kid k).toNat true)):=by
  intro k hk
  unfold P9
  by_cases hl:x.lv=1
  ·have:¬1<x.lv:=by omega
   simp [hl]
  ·have hl1:1<x.lv:=by omega
   have:=hE k hk hl1
   simp [hl,hl1,UZ,UU this]
 show ((P9 _ x 0||(P9 _ x 1||(P9 _ x 2||(P9 _ x 3||false))))) = !(_&&(_&&(_&&(_&&true))))
 rw [each 0 (by omega),each 1 (by omega),each 2 (by omega),each 3 (by omega)]
 simp only [Bool.not_and,VX]
theorem c05_full1 {H:Aa} {pn po q m:Nat} {x:Nd} {F:List Bool} (hn:H[pn]? = some (.cel 0 (cNd x))) (ho:H[po]? = some (.cel 0 [.ms q 0 0 m m 1 true])) (hq:H[q]? = some (.cel 0 (flat cB F))) (hm:F.length=m) {k:Nat} (hk:k<4) (h0:0≤x.kid k) (hb:x.lv≠1→x.kid k≠0→(x.kid k).toNat<m) :
  Sh.f4j (.int .i64 (x.kid k)) (.ptr pn 0 0) (.ptr po 0 0) H=some (.ret (.bool (P9 F x k)),H):=by
 have l1:=Sb hn
 have l2:=CN (o:=0) (sz:=1) ho
 unfold Sh.f4j P9
 by_cases hc:x.kid k=0
 ·simp only [hc,GMb,GMc,HPa,HPc,HPd,HPe,HPz,Nat.reduceAdd,Nat.reduceLT]
 ·by_cases hl:x.lv=1
  ·simp only [hc,hl,l1,GMb,GMc,HPa,HPc,HPd,HPe,HPz,Nat.reduceAdd,Nat.reduceLT]
  ·have hlt:=hb hl hc
   obtain ⟨c,hcc⟩:∃c:Nat,x.kid k=(c:Int):=⟨(x.kid k).toNat,by omega⟩
   rw [hcc,Int.toNat_natCast]at hlt
   have hi:=CB (sz:=1) (id:=q) (g:=0) (off:=0) (n:=m) (cap:=m) (ex:=true) (K:=.i64) hlt
   have hld:=HM (f:=cB) (l:=F) (AA hq) (show c<F.length by omega)
   simp only [UY,Vk]at hi
   rw [hcc]at hc ⊢
   simp only [hc,hl,l1,l2,GMb,GMc,HPa,HPc,HPd,HPe,HPz,Nat.reduceAdd,Nat.reduceLT,hi,hld,Int.toNat_natCast,UZ,UU (show c<F.length by omega),Option.getD_some,List.getElem?_cons_zero]
theorem c05_any {H:Aa} {pn po q m:Nat} {x:Nd} {F:List Bool} (hn:H[pn]? = some (.cel 0 (cNd x))) (ho:H[po]? = some (.cel 0 [.ms q 0 0 m m 1 true])) (hq:H[q]? = some (.cel 0 (flat cB F))) (hm:F.length=m) (h0:∀k,k<4→0≤x.kid k) (hb:∀k,k<4→x.lv≠1→x.kid k≠0→(x.kid k).toNat<m) :
  Sh.f4m (.ms pn 0 1 4 4 1 true) (.fn 238 [.ptr pn 0 0,.ptr po 0 0]) H=some (.ret (.bool (fulS F x)),H):=by
 unfold Sh.f4m Sh.f4l
 simp only [GMb,GMc,len_ms,show ((4:Nat):Int)=4 from rfl]
 have key:=N9 (G:=fun rec1 vs H1=>Sh.f4k H rec1 (ag vs 0) (ag vs 1) (ag vs 2) (ag vs 3) H1) 4 (P9 F x) (fun k=>[.ms pn 0 1 4 4 1 true,.fn 238 [.ptr pn 0 0,.ptr po 0 0],.int .i64 4,.int .i64 (k:Int)]) H (some (.ret (.int .i64 (-1)),H)) (fun k=>some (.ret (.int .i64 (k:Int)),H)) (by decide) (fun rec k hk=>?_) (fun rec=>?_)
 ·rw [show (((0:Nat):Int))=0 from rfl]at key
  rw [key]
  cases hf:(List.range 4).find? (P9 F x)with
  | none=>
   have:fulS F x=false:=by
    unfold fulS
    rw [List.any_eq_false]
    intro k hk
    exact Xe.1 hf k hk
   simp only [GMb,GMc,this,show decide ((-1:Int)≥0)=false from by decide]
  | some k=>
   have:fulS F x=true:=by
    unfold fulS
    rw [List.any_eq_true]
    exact ⟨k,List.mem_of_find?_eq_some hf,List.find?_some hf⟩
   simp only [GMb,GMc,this,show decide ((k:Int)≥0)=true from by simp]
 ·have hk':(k:Int)<4:=by omega
  have hi:=CB (sz:=1) (id:=pn) (g:=0) (off:=1) (n:=4) (cap:=4) (ex:=true) (K:=.i64) hk
  have hld:=Uo hn hk
  have hfull:=c05_full1 hn ho hq hm hk (h0 k hk) (hb k hk)
  simp only [Vk]at hi
  unfold Sh.f4k Cz
  simp only [GMb,GMc,Ai,hk',hi,hld,D3,ent,if_true,List.cons_append,List.nil_append,ap3,hfull]
  cases P9 F x k with
  | true=>simp only [GMb,GMc,if_true]
  | false=>simp only [GMb,GMc,Vd,if_false,Aw (show k<9223372036854775807 by omega)]
 ·unfold Sh.f4k
  simp only [GMb,GMc,Ai,show ¬(((4:Nat):Int)<4) from by decide]
theorem map_take_not (L:List Nd) (i:Nat) (hi:i<L.length):((A3 (L.take i)).map (!·)++List.replicate (L.length-i) false).set (i+1) (!LT (A3 (L.take i)) L[i])=(A3 (L.take (i+1))).map (!·)++List.replicate (L.length-(i+1)) false:=by
 have hl:((A3 (L.take i)).map (!·)).length=i+1:=by rw [We,CK,Vm];omega
 rw [V8 _ _ (by omega),hl,V9,UE L hi,List.map_append,show L.length-i=(L.length-(i+1))+1 by omega,List.replicate_succ,List.set_cons_zero,Vb]
 rfl
theorem c05_full (L:List Nd) (tk:Tok) (H:Aa) (hL:L.length<140737488355327) (hl:AE L=true):Sh.f2k (.sl (enL cNd L) tk) H=some (.ret (.sl (enL cB ((A3 L).map (!·))) .no),H):=by
 have hmk:=Fa (f:=cB) (a:=false) (n:=L.length+1) (bytes:=1) (H:=H) (by omega) (by omega)
 unfold Sh.f2k
 simp only [Au,GMb,GMc,HPa,HPc,HPd,HPe,HPz,Nat.reduceAdd,Nat.reduceLT,Aw (show L.length<9223372036854775807 by omega),hmk]
 have key:=Br (G:=fun rec1 vs H1=>Sh.f72 H rec1 (ag vs 0) (ag vs 1) (ag vs 2) (ag vs 3) H1) (σ:=Nat×Aa) (fun s=>s.1≤L.length)
  (fun s=>[.ptr (H.length+1) 0 0,.sl (enL cNd L) tk,.int .i64 (L.length:Int),.int .i64 (s.1:Int)]) (fun s=>H++(.cel 0 (flat cB ((A3 (L.take s.1)).map (!·)++List.replicate (L.length-s.1) false))::.cel 0 [.ms H.length 0 0 (L.length+1) (L.length+1) 1 true]::s.2)) (fun s=>L.length-s.1)
  (fun _=>some (.ret (.sl (enL cB ((A3 L).map (!·))) .no),H)) (fun s rec hs hrec=>?_) (0,[]) (Vy _) (by dsimp only;omega)
 ·rw [List.take_zero]at key
  have e:(A3 []).map (!·)++List.replicate (L.length-0) false=List.replicate (L.length+1) false:=by simp [A3,List.replicate_succ]
  rw [e]at key
  exact key
 ·obtain ⟨i,G⟩:=s
  dsimp only at hs hrec ⊢
  unfold Sh.f72
  by_cases hi:i<L.length
  ·have hi':(i:Int)<(L.length:Int):=by omega
   obtain ⟨l1,l2,l3⟩:=AJ hl hi
   have hElen:(A3 (L.take i)).length=i+1:=by rw [CK,Vm];omega
   have hFlen:((A3 (L.take i)).map (!·)++List.replicate (L.length-i) false).length=L.length+1:=by rw [Vc,We,hElen,Xp];omega
   have hfs:fulS ((A3 (L.take i)).map (!·)++List.replicate (L.length-i) false) L[i] = !LT (A3 (L.take i)) L[i]:=by
    rw [←ful_emp l1 (fun k hk h1=>by
     obtain ⟨q1,q2,q3⟩:=l3 k hk
     rw [hElen]
     by_cases h0:0<L[i].kid k
     ·have:=(q3 h1 h0).1;omega
     ·omega)]
    unfold fulS P9
    congr 1
    funext k
    by_cases hlv:L[i].lv=1
    ·simp [hlv]
    ·by_cases hk:k<4
     ·obtain ⟨q1,q2,q3⟩:=l3 k hk
      have:(L[i].kid k).toNat<((A3 (L.take i)).map (!·)).length:=by
       rw [We,hElen]
       by_cases h0:0<L[i].kid k
       ·have:=(q3 (by omega) h0).1;omega
       ·omega
      rw [UZ,UW this,UZ]
     ·have e3:L[i].kid k=L[i].kid 3:=by
       match k,hk with
       | 0,h=>exact absurd (by decide) h
       | 1,h=>exact absurd (by decide) h
       | 2,h=>exact absurd (by decide) h
       | n+3,_=>rfl
      obtain ⟨q1,q2,q3⟩:=l3 3 (by decide)
      rw [e3]
      have:(L[i].kid 3).toNat<((A3 (L.take i)).map (!·)).length:=by
       rw [We,hElen]
       by_cases h0:0<L[i].kid 3
       ·have:=(q3 (by omega) h0).1;omega
       ·omega
      rw [UZ,UW this,UZ]
   have hmt:=map_take_not L i hi
   generalize hF:(A3 (L.take i)).map (!·)++List.replicate (L.length-i) false=F at *
   have any:=c05_any (H:=H++(.cel 0 (flat cB F)::.cel 0 [.ms H.length 0 0 (L.length+1) (L.length+1) 1 true]::(G++[.cel 0 (cNd L[i])]))) (pn:=H.length+(G.length+1+1)) (po:=H.length+1) (q:=H.length) (m:=L.length+1) (x:=L[i]) (F:=F) (by simp) (by simp) (by simp) hFlen (fun k hk=>(l3 k hk).1) (fun k hk h1 h0=>by
    obtain ⟨q1,q2,q3⟩:=l3 k hk
    have:=(q3 (by omega) (by omega)).1;omega)
   have hsl:Jw 4 1 (.ptr (H.length+(G.length+1+1)) 0 1) none none=some (.ms (H.length+(G.length+1+1)) 0 1 4 4 1 true):=by simp [Jw,Bq]
   have hix:=CB (sz:=1) (id:=H.length) (g:=0) (off:=0) (n:=L.length+1) (cap:=L.length+1) (ex:=true) (K:=.i64) (i:=i+1) (by omega)
   simp only [UY,Vk]at hix
   have hst:∀G' t,Ag 1 (.ptr H.length 0 (i+1)) (.bool t) (H++(.cel 0 (flat cB F)::G'))=some (H++(.cel 0 (flat cB (F.set (i+1) t))::G')):=fun G' t=>by
    rw [JU,OT rfl (by rw [show flat cB F=F.map Ab.bool from by
     clear hfs hmt any hF hFlen
     induction F with
     | nil=>rfl
     | cons c l ih=>rw [DL,ih];rfl];simp;omega)]
    simp only [Option.map_some]
    congr 3
    have e:∀l:List Bool,flat cB l=l.map Ab.bool:=fun l=>by
     induction l with
     | nil=>rfl
     | cons c l ih=>rw [DL,ih];rfl
    rw [e,e,List.map_set]
   have next:=hrec (i+1,G++[.cel 0 (cNd L[i])]) hi (by dsimp only;omega)
   dsimp only at next
   rw [←hmt]at next
   simp only [GMb,GMc,HPa,HPc,HPd,HPe,HPz,Nat.reduceAdd,Nat.reduceLT,BS,F9,ET,F1,Ai,hi',Ay hi,IR,hsl,any,Aw (show i<9223372036854775807 by omega),hix,hst,hfs]
   exact next
  ·have hi':¬(i:Int)<(L.length:Int):=by omega
   have:i=L.length:=by omega
   subst this
   rw [VO,V9,List.replicate_zero,V3]
   have hfall:=Re (f:=cB) (l:=(A3 L).map (!·)) (H:=H++(.cel 0 (flat cB ((A3 L).map (!·)))::.cel 0 [.ms H.length 0 0 (L.length+1) (L.length+1) 1 true]::G)) (id:=H.length) (b:=H.length) (d:=5) (cap:=L.length+1) (ex:=true) (by simp) (Va _)
   rw [We,CK]at hfall
   simp only [GMb,GMc,HPa,HPc,HPd,HPe,HPz,Nat.reduceAdd,Nat.reduceLT,Ai,hi',hfall]
theorem ful_get (L:List Nd) {n:Nat} (hn:n<L.length+1):((A3 L).map (!·)).getD n false = !(A3 L).getD n true:=by
 have h:n<(A3 L).length:=by rw [CK];exact hn
 rw [UZ,UZ,V0,UU h];rfl
theorem ful_idx (L:List Nd) {n:Nat} (hn:n<L.length+1) (H:Aa) (K:IntKind):∃e,At 1 (.sl (enL cB ((A3 L).map (!·))) .no) (.int K (n:Int))=some e∧Ac false 1 e H=some (.bool (!(A3 L).getD n true)):=by
 have h:n<((A3 L).map (!·)).length:=by rw [We,CK];exact hn
 refine ⟨_,Ay h,?_⟩
 have e:=ful_get L hn
 rw [UZ,UU h]at e
 simp only [AC,List.getElem?_cons_zero]
 rw [←e];rfl
theorem UO (L:List Nd) (tk:Tok) (n:Nat) (H:Aa) (hL:L.length<140737488355327) (hl:AE L=true) (hn:n≤L.length):Sh.f4n (.sl (enL cNd L) tk) (.int .i64 (n:Int)) H=some (.ret (.bool ((A3 L).getD n true)),H):=by
 obtain ⟨e,h1,h2⟩:=ful_idx L (n:=n) (by omega) H .i64
 unfold Sh.f4n
 simp only [GMb,GMc,HPa,HPc,HPd,HPe,HPz,Nat.reduceAdd,Nat.reduceLT,c05_full L tk H hL hl,h1,h2,Bool.not_not]
theorem c05_hollow (L:List Nd) (tk:Tok) (n:Nat) (H:Aa) (hL:L.length<140737488355327) (hl:AE L=true) (hn:n≤L.length):Sh.f4q (.sl (enL cNd L) tk) (.int .i64 (n:Int)) H=some (.ret (.bool (Du L n)),H):=by
 unfold Sh.f4q Du
 cases n with
 | zero=>simp only [GMb,GMc,HPa,HPc,HPd,HPe,HPz,Nat.reduceAdd,Nat.reduceLT,show ((0:Nat):Int)=0 from rfl,ne_eq,not_true_eq_false]
 | succ n=>
  have hi:n<L.length:=hn
  have e0:¬((n+1:Nat):Int)=0:=by omega
  obtain ⟨l1,l2,l3⟩:=AJ hl hi
  rw [Ec rfl hi]
  generalize hx:L[n]=x at l1 l2 l3
  have hw:IntKind.i64.wrap (((n+1:Nat):Int)-1)=(n:Int):=by rw [An] <;> omega
  simp only [GMb,GMc,HPa,HPc,HPd,HPe,HPz,Nat.reduceAdd,Nat.reduceLT,BS,F9,ET,F1,e0,hw,Ay hi,hx,Al,AC]
  by_cases h2:x.lv=1
  ·have:¬2≤x.lv:=by omega
   simp only [h2,GMb,GMc,HPa,HPc,HPd,HPe,HPz,Nat.reduceAdd,Nat.reduceLT,show ¬(2:Int)≤1 from by decide]
  ·have h2':2≤x.lv:=by omega
   simp only [h2,h2',GMb,GMc,HPa,HPc,HPd,HPe,HPz,Nat.reduceAdd,Nat.reduceLT,c05_full L tk H hL hl,hw,Ay hi,hx,Al,ld_kids,ne_eq,WN,not_false_eq_true]
   have key:=EF (G:=fun rec1 vs H1=>Sh.f4p H rec1 (ag vs 0) (ag vs 1) (ag vs 2) (ag vs 3) H1) 4 (fun k=>decide (x.kid k=0)||(List.range 4).all (Ow L (A3 L) x k))
    (fun k=>[.sl (enL cNd L) tk,.sl (enL cB ((A3 L).map (!·))) .no,.agg (IU x),.int .i64 (k:Int)]) H (some (.ret (.bool true),H)) (some (.ret (.bool false),H)) (by decide) (fun rec k hk=>?_) (fun rec=>?_)
   ·refine key.trans ?_
    rw [show hol L (A3 L) x=(List.range 4).all fun k=>decide (x.kid k=0)||(List.range 4).all (Ow L (A3 L) x k) from rfl]
    cases (List.range 4).all fun k=>decide (x.kid k=0)||(List.range 4).all (Ow L (A3 L) x k) <;> rfl
   ·have hk':(k:Int)<4:=by omega
    obtain ⟨q1,q2,q3⟩:=l3 k hk
    have hws:IntKind.i64.wrap ((k:Int)+1)=((k+1:Nat):Int):=Aw (by omega)
    unfold Sh.f4p
    simp only [GMb,GMc,Ai,hk',ag_kid _ hk]
    by_cases hc:x.kid k=0
    ·simp only [hc,GMb,GMc,hws,if_true]
    ·obtain ⟨m,hm⟩:∃m:Nat,x.kid k=((m+1:Nat):Int):=⟨(x.kid k-1).toNat,by omega⟩
     have h1:1<x.lv:=by omega
     obtain ⟨r1,r2⟩:=q3 h1 (by omega)
     have hml:m<L.length:=by omega
     have hy:=r2 L[m] (by rw [show (x.kid k-1).toNat=m from by omega];exact UU hml)
     obtain ⟨y1,y2,y3⟩:=AJ hl hml
     have hp:Ow L (A3 L) x k=fun j=>decide (j=3-k)||(if x.lv=2 then decide (L[m].kid j=0)else (A3 L).getD (L[m].kid j).toNat true):=by
      funext j;unfold Ow;rw [Ec hm hml]
     have hwm:IntKind.i64.wrap (((m+1:Nat):Int)-1)=(m:Int):=by rw [An] <;> omega
     have hc':¬((m+1:Nat):Int)=0:=by omega
     rw [hm]
     simp only [hp,hc',GMb,GMc,hwm,Ay hml,Al,UY,ld_kids]
     refine EF (G:=fun rec2 vs H1=>Sh.f4o H rec rec2 (ag vs 0) (ag vs 1) (ag vs 2) (ag vs 3) (ag vs 4) (ag vs 5) (ag vs 6) (ag vs 7) H1) 4 _
      (fun j=>[.sl (enL cNd L) tk,.sl (enL cB ((A3 L).map (!·))) .no,.int .i64 (k:Int),.int .i64 ((m+1:Nat):Int),.agg (IU x),.int .i64 (k:Int),.agg (IU L[m]),.int .i64 (j:Int)]) H _ _ (by decide) (fun rec2 j hj=>?_) (fun rec2=>?_)
     ·have hj':(j:Int)<4:=by omega
      have hw3:IntKind.i64.wrap (3-(k:Int))=3-(k:Int):=An (by omega) (by omega)
      have hjs:IntKind.i64.wrap ((j:Int)+1)=((j+1:Nat):Int):=Aw (by omega)
      have hj3:decide ((j:Int)=3-(k:Int))=decide (j=3-k):=by rw [Vr];simp only [decide_eq_true_eq];omega
      unfold Sh.f4o
      simp only [GMb,GMc,Ai,hj',ag_kid _ hj,hw3,hj3]
      by_cases hjk:j=3-k
      ·simp only [hjk,GMb,GMc,if_true]
       simp only [←hjk,hjs]
      ·by_cases hg:L[m].kid j=0
       ·have:(if x.lv=2 then decide (L[m].kid j=0)else (A3 L).getD (L[m].kid j).toNat true)=true:=by
         split
         ·simp [hg]
         ·rw [hg];exact DM L
        simp only [hjk,this,GMb,GMc,if_true]
        simp only [hg,hjs,GMb,GMc]
       ·by_cases hl1:L[m].lv=1
        ·have h22:x.lv=2:=by omega
         simp only [hjk,h22,GMb,GMc,hg,hwm,Ay hml,Al,AC,UY,BS,hl1,Vd,if_true,if_false]
        ·have h22:¬x.lv=2:=by omega
         obtain ⟨s1,s2,s3⟩:=y3 j hj
         have hlt:=(s3 (by omega) (by omega)).1
         obtain ⟨g,hgg⟩:∃g:Nat,L[m].kid j=(g:Int):=⟨(L[m].kid j).toNat,by omega⟩
         obtain ⟨e,f1,f2⟩:=ful_idx L (n:=g) (by omega) H .i64
         rw [hgg]at hg
         simp only [hjk,h22,GMb,GMc,hgg,hg,hwm,Ay hml,Al,AC,UY,BS,hl1,if_false,f1,f2,Int.toNat_natCast]
         cases (A3 L).getD g true with
         | true=>simp only [GMb,GMc,if_true,hjs]
         | false=>simp only [GMb,GMc,Vd,if_false]
     ·unfold Sh.f4o
      simp only [GMb,GMc,Ai,show ¬(((4:Nat):Int)<4) from by decide,hws]
   ·unfold Sh.f4p
    simp only [GMb,GMc,Ai,show ¬(((4:Nat):Int)<4) from by decide]
theorem c06_inner (L:List Nd) (tk:Tok) (n k:Nat) (H:Aa) (hL:L.length<140737488355327) (hl:AE L=true) (hn:n<L.length) (h2:2≤L[n].lv) (hk:k<4) :
  Sh.f4r (.sl (enL cNd L) tk) (.int .i64 ((n+1:Nat):Int)) (.int .i64 (k:Int)) H=some (.ret (.int .i64 (Is L L[n] k)),H):=by
 obtain ⟨l1,l2,l3⟩:=AJ hl hn
 obtain ⟨q1,q2,q3⟩:=l3 k hk
 have hw:IntKind.i64.wrap (((n+1:Nat):Int)-1)=(n:Int):=by rw [An] <;> omega
 unfold Sh.f4r Is
 simp only [GMb,GMc,hw,Ay hn,Al,Dt hk,AC,UY,Vk,Dk hk]
 by_cases hc:L[n].kid k=0
 ·simp only [hc,GMb,GMc,show ¬((0:Int)>0) from by decide,if_true]
 ·obtain ⟨m,hm⟩:∃m:Nat,L[n].kid k=((m+1:Nat):Int):=⟨(L[n].kid k-1).toNat,by omega⟩
  obtain ⟨r1,r2⟩:=q3 (by omega) (by omega)
  have hml:m<L.length:=by omega
  have hwm:IntKind.i64.wrap (((m+1:Nat):Int)-1)=(m:Int):=by rw [An] <;> omega
  have hw3:IntKind.i64.wrap (3-(k:Int))=((3-k:Nat):Int):=by rw [An] <;> omega
  have hgt:((m+1:Nat):Int)>0:=by omega
  have hc':¬((m+1:Nat):Int)=0:=by omega
  simp only [Ec (c:=((m+1:Nat):Int)) rfl hml,hm,hgt,hc',GMb,GMc,hwm,hw3,Ay hml,Al,UY,Dt (show 3-k<4 by omega),AC,Vk,Dk (show 3-k<4 by omega),if_false]
theorem c_clone (L:List Nd) (tk:Tok) (H:Aa) (hL:L.length<3518437208883):Sh.f4i (.sl (enL cNd L) tk) H=some (if L=[]then (.ret (.sl [] .tight),H)else (.ret (.sl (enL cNd L) (.own H.length)),H++[.tok L.length AM 5])):=by
 have hb:AY 5 []=some (.sl (enL cNd []) .tight):=rfl
 unfold Sh.f4i
 cases L with
 | nil=>
  have ha:AW AM 5 40 (.sl (enL cNd []) .tight) (.sl (enL cNd []) tk) H=some (.sl (enL cNd []) .tight,H):=Dg (by simp [BY,enL])
  have hn:Q8 .eql (.sl (enL cNd []) tk)=some .ubool:=rfl
  have hu:∀x:Out,Aj .ubool x x=x:=fun x=>if_pos rfl
  simp only [hn,GMb,GMc,hb,ha]
  exact hu _
 | cons x l=>
  have ha:AW AM 5 40 (.sl (enL cNd []) .tight) (.sl (enL cNd (x::l)) tk) H=some (.sl (enL cNd (x::l)) (.own H.length),H++[.tok (x::l).length AM 5]):=by
   have:=C4 (f:=cNd) (l:=[]) (m:=x::l) (ty:=AM) (bytes:=40) (tk:=tk) (H:=H) (by simp) (by simp only [List.length_nil];omega) (by simp only [List.length_nil];omega)
   simpa using this
  have hn:Q8 .eql (.sl (enL cNd (x::l)) tk)=some (.bool false):=rfl
  simp only [hn,GMb,GMc,hb,ha,reduceCtorEq,if_false]
theorem c06_shrink (L:List Nd) (tk:Tok) (n:Nat) (H:Aa) (hL:L.length<3518437200000) (hl:AE L=true) (hn:n≤L.length) :
  Sh.f2l (.sl (enL cNd L) tk) (.int .i64 (n:Int)) H=some (.ret (.tup [.sl (enL cNd (D6 L n).1) .no,.int .i64 ((D6 L n).2:Int)]),H):=by
 unfold Sh.f2l
 rw [c_clone L tk H (by omega)]
 by_cases h0:L=[]
 ·subst h0
  have hn0:n=0:=by simpa using hn
  subst hn0
  have he:=UO [] .tight 0 H (by simp) hl (Va _)
  have he0:(A3 ([]:List Nd)).getD 0 true=true:=rfl
  have hs:D6 [] 0=([],0):=rfl
  rw [show Ab.sl (enL cNd []) .tight=Ab.sl [] .tight from rfl,he0]at he
  rw [hs]
  have:=L5 (H0:=H) (v:=.tup [.sl [] .tight,.int .i64 0])
  simp only [GMb,GMc,HPa,HPc,HPd,HPe,HPz,Nat.reduceAdd,Nat.reduceLT,if_true,he,this]
  rfl
 ·simp only [GMb,GMc,h0,if_false,UO L _ n _ (show L.length<140737488355327 by omega) hl hn]
  unfold D6
  cases hem:(A3 L).getD n true with
  | true=>simp only [GMb,GMc,HPa,HPc,HPd,HPe,HPz,Nat.reduceAdd,Nat.reduceLT,if_true];rfl
  | false=>
   simp only [GMb,GMc,HPa,HPc,HPd,HPe,HPz,Nat.reduceAdd,Nat.reduceLT,Vd,if_false]
   have hlv:(A0 L n).lv≤1329:=by
    cases n with
    | zero=>exfalso;rw [DM]at hem;cases hem
    | succ m=>rw [Ba hn];exact (AJ hl hn).2.1
   have key:=Br (G:=fun rec1 vs H1=>Sh.f73 H rec1 (ag vs 0) (ag vs 1) H1) (σ:=List Nd×Nat×Aa) (fun s=>AE s.1=true∧s.2.1≤s.1.length∧s.1.length+(A0 s.1 s.2.1).lv.toNat<3518437208883∧s.1.length+(A0 s.1 s.2.1).lv.toNat<3518437208883)
    (fun s=>[.sl (enL cNd s.1) (.own H.length),.int .i64 (s.2.1:Int)]) (fun s=>H++.tok s.1.length AM 5::s.2.2) (fun s=>(A0 s.1 s.2.1).lv.toNat)
    (fun s=>some (.ret (.tup [.sl (enL cNd (BI (A0 s.1 s.2.1).lv.toNat s.1 s.2.1).1) .no,.int .i64 ((BI (A0 s.1 s.2.1).lv.toNat s.1 s.2.1).2:Int)]),H)) (fun s rec hs hrec=>?_) (L,n,[]) ⟨hl,hn,by dsimp only;omega,by dsimp only;omega⟩ (by dsimp only;omega)
   ·exact key
   ·obtain ⟨M,i,G⟩:=s
    obtain ⟨hs1,hs2,hs3,hs4⟩:=hs
    simp only at hs1 hs2 hs3 hs4 hrec ⊢
    unfold Sh.f73
    simp only [GMb,GMc,Ai,c05_hollow M _ i _ (show M.length<140737488355327 by omega) hs1 hs2]
    cases hh:Du M i with
    | false=>
     have:BI (A0 M i).lv.toNat M i=(M,i):=by
      cases (A0 M i).lv.toNat with
      | zero=>rfl
      | succ f=>simp [BI,hh]
     simp only [GMb,GMc,HPa,HPc,HPd,HPe,HPz,Nat.reduceAdd,Nat.reduceLT,this]
    | true=>
     obtain ⟨hi0,hlv2⟩:=MM hh
     obtain ⟨m,rfl⟩:∃m,i=m+1:=⟨i-1,by omega⟩
     have hm:m<M.length:=hs2
     obtain ⟨l1,l2,l3⟩:=AJ hs1 hm
     have hx:A0 M ((m+1:Nat):Int)=M[m]:=Ba hm
     rw [hx]at hlv2 hs3 hrec ⊢
     have hwm:IntKind.i64.wrap (((m+1:Nat):Int)-1)=(m:Int):=by rw [An] <;> omega
     have hwl:IntKind.i64.wrap (M[m].lv-1)=M[m].lv-1:=An (by omega) (by omega)
     have hsf:BI M[m].lv.toNat M (m+1)=BI (M[m].lv-1).toNat (M++[BW M (m+1)]) (M.length+1):=by
      rw [show M[m].lv.toNat=(M[m].lv-1).toNat+1 from by omega]
      simp only [BI,hh,if_true]
     generalize hB:H++.tok M.length AM 5::G=B
     simp only [GMb,GMc,Al,Ah,AC,UY,Nat.add_zero,Vk,BS,hwm,Ay hm,hwl,SU,OQ,Ju (Ap (B:=B) (cs:=cNd nd0)) rfl,Bh]
     refine Cg (G:=fun rec2 vs H1=>Sh.f4s H rec rec2 (ag vs 0) (ag vs 1) (ag vs 2) (ag vs 3) H1) 4 (fun k=>[.sl (enL cNd M) (.own H.length),.int .i64 ((m+1:Nat):Int),.ptr B.length 0 0,.int .i64 (k:Int)]) (fun k=>B++[.cel 0 (cNd (TP (Is M M[m]) ⟨M[m].lv-1,0,0,0,0⟩ k))]) _ (by decide) (fun rec2 k hk=>?_) (fun rec2=>?_)
     ·have hk':(k:Int)<4:=by omega
      unfold Sh.f4s
      have hinn:=c06_inner M (.own H.length) m k (B++[.cel 0 (cNd (TP (Is M M[m]) ⟨M[m].lv-1,0,0,0,0⟩ k))]) (by omega) hs1 hm hlv2 hk
      simp only [GMb,GMc,Ai,hk',hinn,Ah,UY,Hl hk,EC (Ap (B:=B)) hk,Bh,Aw (show k<9223372036854775807 by omega)]
      rfl
     ·have hf:¬(((4:Nat):Int)<4):=by decide
      have hel:(⟨M[m].lv-1,Is M M[m] 0,Is M M[m] 1,Is M M[m] 2,Is M M[m] 3⟩:Nd)=BW M (m+1):=by unfold BW;rw [hx]
      unfold Sh.f4s
      rw [TO]
      simp only [GMb,GMc,Ai,hf,Hk (Ap (B:=B)),JN]
      rw [←hB,Vb,List.cons_append,UQ (by omega)]
      simp only [GMb,GMc,Au,Vc,List.length_singleton,hel]
      have hlv':(A0 (M++[BW M (m+1)]) ((M.length+1:Nat):Int)).lv=M[m].lv-1:=by
       rw [Ba (by simp),show (M++[BW M (m+1)])[M.length]'(by simp)=BW M (m+1) from by simp]
       show (A0 M ((m+1:Nat):Int)).lv-1=_
       rw [hx]
      have:=hrec (M++[BW M (m+1)],M.length+1,G++[.cel 0 (cNd (BW M (m+1)))]) ⟨MK hs1 hm hlv2,by simp,by dsimp only;rw [hlv'];simp;omega,by dsimp only;rw [hlv'];simp;omega⟩ (by dsimp only;rw [hlv'];omega)
      simp only [Vc,List.length_singleton]at this
      rw [this,hlv',hsf]
section
variable {α β:Type} {f:α→List Ab} {g:β→List Ab} {ty ty2:TypeId} {sz sz2:Nat}
structure Grown (v v':Ab) (H H':Aa):Prop where
 len:H.length≤H'.length
 keep:∀i,i<H.length→(∀es,v≠.sl es (.own i))→H'[i]? = H[i]?
 own:∀i es,v'=.sl es (.own i)→H.length≤i∨∃es',v=.sl es' (.own i)
theorem RS.snoc2 [hf:Sz f sz] {bytes b:Nat} {out:List α} {v:Ab} {H:Aa} (h:RS f ty sz b out v H) (hb:b≤H.length) (x:α) (tk:Tok) (hl:(out.length+1)*bytes≤140737488355328) (hl2:out.length+1≤140737488355328) :
  ∃v' H',AW ty sz bytes v (.sl (enL f [x]) tk) H=some (v',H')∧RS f ty sz b (out++[x]) v' H'∧Kp b H H'∧Grown v v' H H':=by
 rcases h with ⟨rfl,rfl⟩ | ⟨t,h1,rfl,h3⟩
 ·have:=C4 (f:=f) (l:=[]) (m:=[x]) (ty:=ty) (bytes:=bytes) (tk:=tk) (H:=H) (by simp) (by simpa using hl) (by simp)
  refine ⟨_,_,this,.inr ⟨H.length,hb,rfl,by simp⟩,Kp.app hb _,by simp,fun i hi _=>UW hi,fun i es e=>?_⟩
  injection e with _ e;injection e with e
  exact .inl (by omega)
 ·have:=Em (f:=f) (l:=out) (m:=[x]) (ty:=ty) (bytes:=bytes) (tk:=tk) (H:=H) (t:=t) (by simp) h3 (by simpa using hl) (by simpa using hl2)
  have htl:=(UV.1 h3).1
  refine ⟨_,_,this,.inr ⟨t,h1,rfl,by simp [htl]⟩,⟨by simp,fun i cs hc=>?_,fun i hi=>?_⟩,by simp,fun i hi hne=>?_,fun i es e=>?_⟩
  ·have:t≠i:=fun e=>by rw [←e,h3]at hc;cases hc
   rw [UX this];exact hc
  ·rw [UX (by omega)]
  ·have:t≠i:=fun e=>hne _ (by rw [e])
   rw [UX this]
  ·injection e with _ e;injection e with e
   exact .inr ⟨_,by rw [e]⟩
theorem RS.notok {b i:Nat} {out:List α} {v:Ab} {H:Aa} {B:Blk} (h:RS f ty sz b out v H) (hB:H[i]? = some B) (hn:∀n e s,B≠.tok n e s):∀es,v≠.sl es (.own i):=by
 intro es e
 rcases h with ⟨_,k1⟩ | ⟨t,_,k1,k2⟩
 ·rw [k1]at e;injection e with _ e;cases e
 ·rw [k1]at e;injection e with _ e;injection e with e
  rw [e,hB]at k2;injection k2 with k2
  exact hn _ _ _ k2
theorem RS.setB {b i:Nat} {out:List α} {v:Ab} {H:Aa} {B B':Blk} (h:RS f ty sz b out v H) (hB:H[i]? = some B) (hn:∀n e s,B≠.tok n e s):RS f ty sz b out v (H.set i B'):=by
 have hne:=h.notok hB hn
 rcases h with h1 | ⟨t,h1,h2,h3⟩
 ·exact .inl h1
 ·refine .inr ⟨t,h1,h2,?_⟩
  have:i≠t:=fun e=>hne _ (by rw [h2,e])
  rw [UX this];exact h3
theorem RS.one {b:Nat} {out:List α} {v:Ab} {H:Aa} (h:RS f ty sz b out v H):v.isScal=true:=by
 obtain ⟨tk,rfl⟩:=h.sl;rfl
theorem RS.len {b:Nat} {out:List α} {v:Ab} {H:Aa} (h:RS f ty sz b out v H):A5 v=some (.int .i64 (out.length:Int)):=by
 obtain ⟨tk,rfl⟩:=h.sl;exact Au
end
theorem nodup_le:∀(N:Nat) (l:List Nat),l.Nodup→(∀x∈l,x<N)→l.length≤N:=by
 intro N
 induction N with
 | zero=>
  intro l _ h
  cases l with
  | nil=>simp
  | cons a l=>have:=h a (by simp);omega
 | succ N ih=>
  intro l hn h
  by_cases hN:N∈l
  ·have h1:=List.length_erase_of_mem hN
   have h2:=ih (l.erase N) (hn.erase N) (fun x hx=>by
    rw [hn.mem_erase_iff]at hx
    have:=h x hx.2;omega)
   have:=List.length_pos_of_mem hN
   omega
  ·have:=ih l hn (fun x hx=>by
    have:=h x hx
    have:x≠N:=fun e=>hN (e ▸ hx)
    omega)
   omega
def knF:Nat→List Nd→List (Ab×Ab)
 | _,[]=>[]
 | s,x::l=>(.agg (cNd x),.int .i64 ((s+1:Nat):Int))::knF (s+1) l
theorem Sw (a:Nd) (l:List Nd) (y:Nd):Ch (a::l) y=if a=y then 1 else if Ch l y=0 then 0 else Ch l y+1:=by
 by_cases h:a=y
 ·rw [if_pos h,Ef];exact ⟨by simp [h],fun j hj=>by omega⟩
 ·rw [if_neg h]
  cases hf:Ch l y with
  | zero=>
   rw [if_pos rfl,Iv]
   rw [Iv]at hf
   intro hm
   rcases V7.1 hm with e | e
   ·exact h e.symm
   ·exact hf e
  | succ i=>
   rw [if_neg (by omega),Ef]
   rw [Ef]at hf
   refine ⟨by simpa using hf.1,fun j hj=>?_⟩
   cases j with
   | zero=>simpa using h
   | succ j=>simpa using hf.2 j (by omega)
theorem key_nd (y:Nd):DK true 5 (.agg (cNd y))=some (cNd y):=(rfl)
theorem Um (y:Nd):∀(l:List Nd) (s:Nat),E7 true 5 (knF s l) (cNd y)=some (if Ch l y=0 then none else some (.int .i64 ((s+Ch l y:Nat):Int)))
 | [],s=>by
  have:Ch [] y=0:=by rw [Iv];simp
  simp [knF,E7,this]
 | a::l,s=>by
  have ih:=Um y l (s+1)
  simp only [knF,E7,key_nd,B5,OD]
  rw [Sw]
  by_cases h:a=y
  ·subst h;simp
  ·have h':¬y=a:=fun e=>h e.symm
   rw [decide_eq_false h',if_neg h]
   simp only [Vd,if_false,ih]
   by_cases h0:Ch l y=0
   ·simp [h0]
   ·rw [if_neg h0,if_neg (by rw [if_neg h0];omega),if_neg h0]
    congr 3;omega
theorem TB (y:Nd):∀(l:List Nd) (s:Nat),Ch l y=0→Dn true 5 (knF s l) (.agg (cNd y)) (cNd y) (.int .i64 ((s+l.length+1:Nat):Int))=some (knF s (l++[y]))
 | [],s,_=>rfl
 | a::l,s,h=>by
  rw [Sw]at h
  by_cases ha:a=y
  ·rw [if_pos ha]at h;omega
  ·rw [if_neg ha]at h
   have h0:Ch l y=0:=by
    by_cases h0:Ch l y=0
    ·exact h0
    ·rw [if_neg h0]at h;omega
   have h':¬y=a:=fun e=>ha e.symm
   have ih:=TB y l (s+1) h0
   simp only [knF,Dn,key_nd,B5,OD,List.cons_append]
   rw [decide_eq_false h']
   simp only [Vd,if_false]
   rw [List.length_cons,show s+(l.length+1)+1=s+1+l.length+1 by omega,ih]
   rfl
def dnM (D:List (Nat×Nat)):List (Ab×Ab):=D.map fun p=>(.int .i64 (p.1:Int),.int .i64 (p.2:Int))
def lkD (D:List (Nat×Nat)) (n:Nat):Option Nat:=match D with
 | []=>none
 | p::r=>if p.1=n then some p.2 else lkD r n
theorem lkD_mem {n m:Nat}:∀ {D:List (Nat×Nat)},lkD D n=some m→(n,m)∈D
 | [],h=>by cases h
 | p::r,h=>by
  unfold lkD at h
  by_cases hp:p.1=n
  ·rw [if_pos hp]at h;injection h with h;subst hp;subst h;exact WQ
  ·rw [if_neg hp]at h;exact List.mem_cons_of_mem _ (lkD_mem h)
theorem lkD_none {n:Nat}:∀ {D:List (Nat×Nat)},lkD D n=none→n ∉ D.map (·.1)
 | [],h=>by simp
 | p::r,h=>by
  unfold lkD at h
  by_cases hp:p.1=n
  ·rw [if_pos hp]at h;cases h
  ·rw [if_neg hp]at h
   have:=lkD_none h
   simp only [WA,V7,not_or]
   exact ⟨fun e=>hp e.symm,this⟩
theorem lkD_app {n:Nat} {p:Nat×Nat}:∀ {D:List (Nat×Nat)},lkD (D++[p]) n=(match lkD D n with | some m=>some m | none=>if p.1=n then some p.2 else none)
 | []=>by simp [lkD]
 | q::r=>by
  have ih:=lkD_app (n:=n) (p:=p) (D:=r)
  simp only [List.cons_append,lkD]
  by_cases hq:q.1=n
  ·simp only [if_pos hq]
  ·simp only [if_neg hq,ih]
theorem nat_cell (a b:Nat):BJ [.int .i64 (a:Int)] [.int .i64 (b:Int)]=some (decide (a=b)):=by
 simp only [BJ,GQ,if_true,B5]
 congr 1
 rw [Vr];simp;omega
theorem QY (a:Int):DK false 1 (.int .i64 a)=some [.int .i64 a]:=(rfl)
theorem Un (n:Nat):∀D:List (Nat×Nat),E7 false 1 (dnM D) [.int .i64 (n:Int)]=some ((lkD D n).map fun m=>Ab.int .i64 (m:Int))
 | []=>rfl
 | p::r=>by
  have ih:=Un n r
  simp only [dnM,WA,E7,QY,B5,nat_cell,lkD]
  by_cases hp:p.1=n
  ·subst hp;simp
  ·have:¬n=p.1:=fun e=>hp e.symm
   rw [decide_eq_false this,if_neg hp]
   simpa [dnM]using ih
theorem TC (n m:Nat):∀D:List (Nat×Nat),lkD D n=none→Dn false 1 (dnM D) (.int .i64 (n:Int)) [.int .i64 (n:Int)] (.int .i64 (m:Int))=some (dnM (D++[(n,m)]))
 | [],_=>rfl
 | p::r,h=>by
  unfold lkD at h
  by_cases hp:p.1=n
  ·rw [if_pos hp]at h;cases h
  ·rw [if_neg hp]at h
   have ih:=TC n m r h
   have:¬n=p.1:=fun e=>hp e.symm
   simp only [dnM,WA,Dn,QY,B5,nat_cell,List.cons_append]at ih ⊢
   rw [decide_eq_false this]
   simp only [Vd,if_false,ih]
   rfl
theorem lookA_dn {H:Aa} {id:Nat} {D:List (Nat×Nat)} (h:H[id]? = some (.map (dnM D))) (n:Nat):Fb false 1 (some (.int .i64 0)) true (.mp id) (.int .i64 (n:Int)) H=some (match lkD D n with | some m=>.tup [.int .i64 (m:Int),.bool true] | none=>.tup [.int .i64 0,.bool false]):=by
 unfold Fb
 simp only [B5,QY,h,Un,Option.map_some]
 cases lkD D n <;> rfl
theorem updA_dn {H:Aa} {id:Nat} {D:List (Nat×Nat)} (h:H[id]? = some (.map (dnM D))) {n:Nat} (m:Nat) (hn:lkD D n=none):DW false 1 (.mp id) (.int .i64 (n:Int)) (.int .i64 (m:Int)) H=some (H.set id (.map (dnM (D++[(n,m)])))):=by
 unfold DW
 simp only [B5,QY,h,TC n m D hn,Option.map_some]
theorem lookA_kn {H:Aa} {id:Nat} {out:List Nd} (h:H[id]? = some (.map (knF 0 out))) (y:Nd):Fb true 5 (some (.int .i64 0)) true (.mp id) (.agg (cNd y)) H=some (if Ch out y=0 then .tup [.int .i64 0,.bool false]else .tup [.int .i64 (Ch out y:Int),.bool true]):=by
 unfold Fb
 simp only [B5,key_nd,h,Um,Option.map_some,UY]
 by_cases h0:Ch out y=0 <;> simp [h0]
theorem updA_kn {H:Aa} {id:Nat} {out:List Nd} (h:H[id]? = some (.map (knF 0 out))) {y:Nd} (hn:Ch out y=0):DW true 5 (.mp id) (.agg (cNd y)) (.int .i64 ((out.length+1:Nat):Int)) H=some (H.set id (.map (knF 0 (out++[y])))):=by
 have:=TB y out 0 hn
 rw [UY]at this
 unfold DW
 simp only [B5,key_nd,h,this,Option.map_some]
def Kf (y:Nd):Bool:=decide (y.k0=0)&&(decide (y.k1=0)&&(decide (y.k2=0)&&decide (y.k3=0)))
theorem eq_kids (y:Nd):Ae (.flat 4) .eql (.agg (IU y)) (.agg [.int .i64 0,.int .i64 0,.int .i64 0,.int .i64 0])=some (.bool (Kf y)):=by
 show (eqA (.flat 4) (.agg (IU y)) (.agg [.int .i64 0,.int .i64 0,.int .i64 0,.int .i64 0])).map Ab.bool=_
 have h:eqA (.flat 4) (.agg (IU y)) (.agg [.int .i64 0,.int .i64 0,.int .i64 0,.int .i64 0])=some (Kf y):=by
  unfold eqA
  simp only []
  rw [if_pos (show (IU y).length=4 from rfl)]
  simp only [IU,BJ,GQ,if_true,B5,Bool.and_true,G3]
  rfl
 rw [h];rfl
def HN (out:List Nd) (y:Nd):List Nd×Nat:=if Kf y then (out,0)else B4 out y
structure AR (b ar km:Nat) (out:List Nd) (v:Ab) (H:Aa):Prop where
 cell:H[ar]? = some (.cel 0 [v,.mp km])
 row:RS cNd AM 5 b out v H
 known:H[km]? = some (.map (knF 0 out))
structure AX (b ar km:Nat) (H H':Aa):Prop where
 len:H.length≤H'.length
 cel:∀(i:Nat) (cs:List Ab),i≠ar→H[i]? = some (.cel 0 cs)→H'[i]? = some (.cel 0 cs)
 map:∀(i:Nat) (es:List (Ab×Ab)),i≠km→H[i]? = some (.map es)→H'[i]? = some (.map es)
 old:∀i,i<b→H'[i]? = H[i]?
theorem AX.trans {b ar km:Nat} {H H1 H2:Aa} (h:AX b ar km H H1) (k:AX b ar km H1 H2):AX b ar km H H2:=
 ⟨Vw h.len k.len,fun i cs hi hc=>k.cel i cs hi (h.cel i cs hi hc),fun i es hi hc=>k.map i es hi (h.map i es hi hc),fun i hi=>(k.old i hi).trans (h.old i hi)⟩
theorem AX.push {b ar km:Nat} {H:Aa} (hb:b≤H.length) (G:Aa):AX b ar km H (H++G):=
 ⟨by simp,fun i cs _ h=>A1 h,fun i es _ h=>A1 h,fun i hi=>UW (by omega)⟩
theorem AR.push {b ar km:Nat} {out:List Nd} {v:Ab} {H:Aa} (h:AR b ar km out v H) (G:Aa):AR b ar km out v (H++G):=
 ⟨A1 h.cell,h.row.left G,A1 h.known⟩
theorem c06_intern {b ar km:Nat} {out:List Nd} {v:Ab} {H:Aa} (h:AR b ar km out v H) (hba:b≤ar) (hbk:b≤km) (hb:b≤H.length) (y:Nd) (ho:out.length<3000000000000) :
  ∃v' H',Sh.f2m (.ptr ar 0 0) (.agg (cNd y)) H=some (.ret (.int .i64 ((HN out y).2:Int)),H')∧AR b ar km (HN out y).1 v' H'∧AX b ar km H H':=by
 have hB:b≤(H++[Blk.cel 0 (cNd y)]).length:=by simp;omega
 have h1:=h.push [.cel 0 (cNd y)]
 have e1:AX b ar km H (H++[.cel 0 (cNd y)]):=AX.push hb _
 have hbd:AD (some [(.int .i64 0),(.int .i64 0),(.int .i64 0),(.int .i64 0)]) []=some (.agg [.int .i64 0,.int .i64 0,.int .i64 0,.int .i64 0]):=rfl
 unfold Sh.f2m HN
 have l0:=CN (o:=0) (sz:=1) h1.cell
 have l1:=CN (o:=1) (sz:=1) h1.cell
 cases hz:Kf y with
 | true=>
  simp only [GMb,GMc,HPa,HPc,HPd,HPe,HPz,Nat.reduceAdd,Nat.reduceLT,BS,F9,ET,F1,hbd,eq_kids,hz,if_true]
  exact ⟨v,_,rfl,h1,e1⟩
 | false=>
  simp only [GMb,GMc,HPa,HPc,HPd,HPe,HPz,Nat.reduceAdd,Nat.reduceLT,BS,F9,ET,F1,hbd,eq_kids,hz,l1,Fd,JA,lookA_kn h1.known,Vd,if_false]
  unfold B4
  by_cases h0:Ch out y=0
  ·obtain ⟨v',H2,ha,hr,hk,hg⟩:=RS.snoc2 (bytes:=40) h1.row hB y .tight (by omega) (by omega)
   have hc2:=hk.cel _ _ h1.cell
   have hst:=JV (o:=0) (v:=v') hc2 hr.one (by simp)
   have hka:km≠ar:=fun e=>by have:=h.known;rw [e,h.cell]at this;cases this
   have har:ar<H.length:=(UV.1 h.cell).1
   have hkl:km<H.length:=(UV.1 h.known).1
   have hkn:∀es,v≠.sl es (.own km):=h.row.notok (B:=.map (knF 0 out)) h.known (fun _ _ _ e=>by cases e)
   have hk2:H2[km]? = some (.map (knF 0 out)):=by rw [hg.keep km (by simp;omega) hkn];exact h1.known
   have hH1:H.length≠ar:=by omega
   have hbox:H2[H.length]? = some (.cel 0 (cNd y)):=hk.cel _ _ Ap
   have hl2:ar<H2.length:=(UV.1 hc2).1
   have hkl2:km<H2.length:=(UV.1 hk2).1
   obtain ⟨H3,hH3⟩:∃H3,H3=H2.set ar (.cel 0 ([v,.mp km].set 0 v')):=⟨_,rfl⟩
   rw [←hH3]at hst
   have hc3:H3[ar]? = some (.cel 0 [v',.mp km]):=by rw [hH3,Vj hl2];rfl
   have hk3:H3[km]? = some (.map (knF 0 out)):=by rw [hH3,UX (Ne.symm hka)];exact hk2
   have hb3:H3[H.length]? = some (.cel 0 (cNd y)):=by rw [hH3,UX (Ne.symm hH1)];exact hbox
   have l30:=CN (o:=0) (sz:=1) hc3
   have l31:=CN (o:=1) (sz:=1) hc3
   have hup:=updA_kn hk3 h0
   obtain ⟨H4,hH4⟩:∃H4,H4=H3.set km (.map (knF 0 (out++[y]))):=⟨_,rfl⟩
   rw [←hH4]at hup
   have hc4:H4[ar]? = some (.cel 0 [v',.mp km]):=by rw [hH4,UX hka];exact hc3
   have l40:=CN (o:=0) (sz:=1) hc4
   have hlen:=hr.len
   rw [Vc,List.length_singleton]at hlen
   refine ⟨v',H4,?_,⟨hc4,?_,?_⟩,e1.trans ⟨?_,fun i cs hi hc=>?_,fun i es hi hc=>?_,fun i hi=>?_⟩⟩
   ·simp only [h0,if_true,GMb,GMc,HPa,HPc,HPd,HPe,HPz,Nat.reduceAdd,Nat.reduceLT,l0,Fd,JA,BS,F9,ET,F1,JN,ha,hst,l30,l31,Hk hb3,hlen,hup,l40]
   ·have r3:RS cNd AM 5 b (out++[y]) v' H3:=by rw [hH3];exact hr.put hc2
    rw [hH4,if_pos h0]
    exact r3.setB hk3 (fun _ _ _ e=>by cases e)
   ·rw [hH4,Vj (by rw [hH3,VA];exact hkl2)];simp only [h0,if_true]
   ·rw [hH4,VA,hH3,VA];exact hk.len
   ·have c2:=hk.cel i cs hc
    have hik:i≠km:=fun e=>by rw [e,hk2]at c2;cases c2
    rw [hH4,UX (Ne.symm hik),hH3,UX (Ne.symm hi)];exact c2
   ·have hia:i≠ar:=fun e=>by rw [e,h1.cell]at hc;cases hc
    have hil:i<(H++[Blk.cel 0 (cNd y)]).length:=(UV.1 hc).1
    have hin:∀es',v≠.sl es' (.own i):=h1.row.notok hc (fun _ _ _ e=>by cases e)
    rw [hH4,UX (Ne.symm hi),hH3,UX (Ne.symm hia),hg.keep i hil hin];exact hc
   ·rw [hH4,UX (by omega),hH3,UX (by omega)];exact hk.old i hi
  ·simp only [h0,if_false,GMb,GMc,HPa,HPc,HPd,HPe,HPz,Nat.reduceAdd,Nat.reduceLT]
   exact ⟨v,_,rfl,h1,e1⟩
theorem N7 (y:Nd):Kf y=(List.range 4).all fun k=>decide (y.kid k=0):=by
 rw [Hy]
 simp only [Kf,Bool.and_assoc]
 rfl
theorem J6 {L:List Nd} {v n:Nat} {out:List Nd} (h:n=0∨(A3 L).getD n true=true):Bl L (A3 L) v n out=(out,0):=by
 have he:(A3 L).getD n true=true:=by
  rcases h with h | h
  ·rw [h];exact DM L
  ·exact h
 cases v with
 | zero=>rfl
 | succ v=>simp only [Bl,he,if_true]
theorem insF_pos {L:List Nd} {v n:Nat} {out:List Nd} (h:(A3 L).getD n true=false):0<(Bl L (A3 L) (v+1) n out).2:=by
 simp only [Bl,h,Vd,if_false]
 split
 ·exact L7 _ _
 ·exact L7 _ _
theorem Pq (rec:Nat→List Nd→List Nd×Nat) (x:Nd) (out:List Nd):∀k,k≤4→∀j,j<k→(BO rec x k out).2.kid j=((rec (x.kid j).toNat (BO rec x j out).1).2:Int)
 | 0,_,j,h=>by omega
 | k+1,hk,j,h=>by
  simp only [BO]
  by_cases e:j=k
  ·subst e;rw [Qf _ _ (by omega)]
  ·rw [EY _ _ (by omega) (by omega) e];exact Pq rec x out k (by omega) j (by omega)
theorem Uw {L:List Nd} {v:Nat} (x:Nd) (out:List Nd) (h:∀k,k<4→(x.kid k).toNat=0∨(A3 L).getD (x.kid k).toNat true=true):∀k,k≤4→(BO (Bl L (A3 L) v) x k out).1=out
 | 0,_=>rfl
 | k+1,hk=>by
  simp only [BO]
  rw [J6 (h k (by omega))]
  exact Uw x out h k (by omega)
theorem intern_ins {L:List Nd} (hl:AE L=true) {m v:Nat} (hm:m<L.length) (hv:L[m].lv.toNat=v+1) (out:List Nd) :
  HN (BO (Bl L (A3 L) v) L[m] (if 1<L[m].lv then 4 else 0) out).1 (BO (Bl L (A3 L) v) L[m] (if 1<L[m].lv then 4 else 0) out).2=Bl L (A3 L) (v+1) (m+1) out:=by
 obtain ⟨l1,l2,l3⟩:=AJ hl hm
 have hx:A0 L ((m+1:Nat):Int)=L[m]:=Ba hm
 have he:=O9 hl (n:=m+1) (by omega) hm
 rw [hx]at he
 by_cases h1:1<L[m].lv
 ·rw [if_pos h1]
  cases hE:(A3 L).getD (m+1) true with
  | true=>
   rw [hE]at he
   have hk:∀k,k<4→(L[m].kid k).toNat=0∨(A3 L).getD (L[m].kid k).toNat true=true:=fun k hk=>by
    have:=Vn.1 he.symm k (by simpa using hk)
    simp only [Wa,decide_eq_true_eq,Vh]at this
    rcases this with h | h
    ·left;rw [h];rfl
    ·exact .inr h.2
   have hn:Kf (BO (Bl L (A3 L) v) L[m] 4 out).2=true:=by
    rw [N7,Vn]
    intro k hk'
    have hk4:k<4:=by simpa using hk'
    rw [decide_eq_true_eq,Pq _ _ _ 4 (by omega) k hk4,J6 (hk k hk4)];rfl
   unfold HN
   rw [hn,if_pos rfl,Uw _ _ hk 4 (by omega)]
   simp only [Bl,hE,if_true]
  | false=>
   rw [hE]at he
   have:¬ ∀k,k<4→(L[m].kid k=0∨(A3 L).getD (L[m].kid k).toNat true=true):=fun h=>by
    have:((List.range 4).all fun k=>decide (L[m].kid k=0)||(decide (1<L[m].lv)&&(A3 L).getD (L[m].kid k).toNat true))=true:=by
     rw [Vn]
     intro k hk
     have:=h k (by simpa using hk)
     simp only [Wa,decide_eq_true_eq,Vh]
     rcases this with q | q
     ·exact .inl q
     ·exact .inr ⟨h1,q⟩
    rw [this]at he;cases he
   have ⟨k,hk4,hk0⟩:∃k,k<4∧¬(L[m].kid k=0∨(A3 L).getD (L[m].kid k).toNat true=true):=by
    by_cases h:∃k,k<4∧¬(L[m].kid k=0∨(A3 L).getD (L[m].kid k).toNat true=true)
    ·exact h
    ·exact absurd (fun k hk=>Decidable.byContradiction fun hc=>h ⟨k,hk,hc⟩) this
   have hn:Kf (BO (Bl L (A3 L) v) L[m] 4 out).2=false:=by
    rw [N7,W7]
    refine ⟨k,by simpa using hk4,?_⟩
    rw [decide_eq_true_eq,Pq _ _ _ 4 (by omega) k hk4]
    obtain ⟨v',rfl⟩:∃v',v=v'+1:=⟨v-1,by omega⟩
    have:=insF_pos (L:=L) (v:=v') (n:=(L[m].kid k).toNat) (out:=(BO (Bl L (A3 L) (v'+1)) L[m] k out).1) (by
     cases hq:(A3 L).getD (L[m].kid k).toNat true with
     | false=>rfl
     | true=>exact absurd (.inr hq) hk0)
    omega
   unfold HN
   rw [hn]
   simp only [Bl,hE,Vd,if_false,hx,if_pos h1]
 ·rw [if_neg h1]
  have hn:Kf L[m]=(A3 L).getD (m+1) true:=by
   rw [he,N7,Hy,Hy]
   simp [h1]
  unfold HN
  simp only [BO,Bl,hn,hx,if_neg h1]
structure Seat where
 b:Nat
 pd:Nat
 pl:Nat
 pv:Nat
 pa:Nat
 ar:Nat
 km:Nat
 dm:Nat
structure VQ (s:Seat) (L:List Nd) (tk:Tok) (out:List Nd) (D:List (Nat×Nat)) (H:Aa):Prop where
 hb:s.b≤s.ar∧s.b≤s.km∧s.b≤s.dm∧s.km≠s.dm
 ne:s.pd≠s.ar∧s.pl≠s.ar∧s.pv≠s.ar∧s.pa≠s.ar
 done:H[s.pd]? = some (.cel 0 [.mp s.dm])
 list:H[s.pl]? = some (.cel 0 [.sl (enL cNd L) tk])
 self:H[s.pv]? = some (.cel 0 [.fn 161 [.ptr s.pd 0 0,.ptr s.pl 0 0,.ptr s.pv 0 0,.ptr s.pa 0 0]])
 arena:H[s.pa]? = some (.cel 0 [.ptr s.ar 0 0])
 nodes:∃v,AR s.b s.ar s.km out v H
 nums:H[s.dm]? = some (.map (dnM D))
structure VD (L out:List Nd) (D:List (Nat×Nat)):Prop where
 nd:(D.map (·.1)).Nodup
 le:∀p∈D,p.1≤L.length
 val:∀p∈D,Bl L (A3 L) (A0 L (p.1:Int)).lv.toNat p.1 out=(out,p.2)
 cnt:out.length<D.length
 zero:lkD D 0=some 0
theorem VD.short {L out:List Nd} {D:List (Nat×Nat)} (h:VD L out D):out.length≤L.length:=by
 have:=nodup_le (L.length+1) (D.map (·.1)) h.nd (fun x hx=>by
  obtain ⟨p,hp,rfl⟩:=Wz.1 hx
  have:=h.le p hp;omega)
 rw [We]at this
 have:=h.cnt;omega
theorem VQ.len {s:Seat} {L:List Nd} {tk:Tok} {out:List Nd} {D:List (Nat×Nat)} {H:Aa} (h:VQ s L tk out D H):s.b≤H.length:=by
 obtain ⟨v,h1⟩:=h.nodes
 have:=(UV.1 h1.cell).1
 have:=h.hb.1;omega
theorem VQ.cells {s:Seat} {L:List Nd} {tk:Tok} {out:List Nd} {D:List (Nat×Nat)} {H H':Aa} (h:VQ s L tk out D H) (hk:∀i,i<H.length→H'[i]? = H[i]?) (hl:H.length≤H'.length):VQ s L tk out D H':=by
 have g:∀ {i:Nat} {x:Blk},H[i]? = some x→H'[i]? = some x:=fun hx=>by rw [hk _ (UV.1 hx).1];exact hx
 obtain ⟨v,h1⟩:=h.nodes
 refine ⟨h.hb,h.ne,g h.done,g h.list,g h.self,g h.arena,⟨v,g h1.cell,?_,g h1.known⟩,g h.nums⟩
 rcases h1.row with r | ⟨t,r1,r2,r3⟩
 ·exact .inl r
 ·exact .inr ⟨t,r1,r2,g r3⟩
theorem VQ.put {s:Seat} {L:List Nd} {tk:Tok} {out:List Nd} {D:List (Nat×Nat)} {H:Aa} {q:Nat} {x y:Nd} (h:VQ s L tk out D H) (hq:H[q]? = some (.cel 0 (cNd x))):VQ s L tk out D (H.set q (.cel 0 (cNd y))):=by
 obtain ⟨v,h1⟩:=h.nodes
 have n5:∀ {i:Nat} {c:List Ab},H[i]? = some (.cel 0 c)→c.length≠5→(H.set q (.cel 0 (cNd y)))[i]? = some (.cel 0 c):=fun {i c} hi hc=>by
  have:q≠i:=fun e=>by rw [e,hi]at hq;injection hq with hq;injection hq with _ hq;rw [hq]at hc;exact hc rfl
  rw [UX this];exact hi
 have nm:∀ {i:Nat} {es:List (Ab×Ab)},H[i]? = some (.map es)→(H.set q (.cel 0 (cNd y)))[i]? = some (.map es):=fun {i es} hi=>by
  have:q≠i:=fun e=>by rw [e,hi]at hq;cases hq
  rw [UX this];exact hi
 exact ⟨h.hb,h.ne,n5 h.done (by simp),n5 h.list (by simp),n5 h.self (by simp),n5 h.arena (by simp),⟨v,n5 h1.cell (by simp),h1.row.put hq,nm h1.known⟩,nm h.nums⟩
theorem VD.grow {L out:List Nd} {D:List (Nat×Nat)} (h:VD L out D) (r:List Nd):∀p∈D,Bl L (A3 L) (A0 L (p.1:Int)).lv.toNat p.1 (out++r)=(out++r,p.2):=by
 intro p hp
 have h3:=h.val p hp
 have:=Ir (L:=L) (E:=A3 L) (A0 L (p.1:Int)).lv.toNat p.1 out r
 rwa [h3]at this
theorem c06_visit {s:Seat} {L:List Nd} {tk:Tok} (hL:L.length<2000000000000) (hl:AE L=true):∀(v n d:Nat) (out:List Nd) (D:List (Nat×Nat)) (H:Aa),n≤L.length→(n=0∨(A0 L (n:Int)).lv.toNat=v)→v<d→VQ s L tk out D H→VD L out D →
  ∃H' D',Sh.f7 d (.int .i64 (n:Int)) (.ptr s.pd 0 0) (.ptr s.pl 0 0) (.ptr s.pv 0 0) (.ptr s.pa 0 0) H=some (.ret (.int .i64 ((Bl L (A3 L) v n out).2:Int)),H') ∧
   VQ s L tk (Bl L (A3 L) v n out).1 D' H'∧Ext s.b s.ar H H'∧VD L (Bl L (A3 L) v n out).1 D'∧∀j,n<j→lkD D' j=lkD D j:=by
 intro v
 induction v with
 | zero=>
  intro n d out D H hn hv hd hQ hD
  obtain ⟨d,rfl⟩:∃e,d=e+1:=⟨d-1,by omega⟩
  have hn0:n=0:=by
   rcases hv with h | h
   ·exact h
   ·cases n with
    | zero=>rfl
    | succ m=>
     rw [Ba (show m<L.length from hn)]at h
     have:=(AJ hl (show m<L.length from hn)).1;omega
  subst hn0
  refine ⟨H,D,?_,hQ,Ext.refl _ _ _,hD,fun _ _=>rfl⟩
  show Sh.f2n (Sh.f7 d) _ _ _ _ _ _=_
  have hlk:=lookA_dn hQ.nums 0
  rw [hD.zero]at hlk
  unfold Sh.f2n
  simp only [GMb,GMc,HPa,HPc,HPd,HPe,HPz,Nat.reduceAdd,Nat.reduceLT,CN hQ.done,hlk]
  rfl
 | succ v ih=>
  intro n d out D H hn hv hd hQ hD
  obtain ⟨d,rfl⟩:∃e,d=e+1:=⟨d-1,by omega⟩
  show ∃H' D',Sh.f2n (Sh.f7 d) _ _ _ _ _ _=_∧_
  have hlk:=lookA_dn hQ.nums n
  unfold Sh.f2n
  simp only [GMb,GMc,HPa,HPc,HPd,HPe,HPz,Nat.reduceAdd,Nat.reduceLT,CN hQ.done,hlk]
  cases hln:lkD D n with
  | some m=>
   have hmem:=lkD_mem hln
   have hval:=hD.val _ hmem
   dsimp only at hval
   have hins:Bl L (A3 L) (v+1) n out=(out,m):=by
    rcases hv with h | h
    ·have:=J6 (L:=L) (v:=(A0 L (n:Int)).lv.toNat) (out:=out) (n:=n) (.inl h)
     rw [hval]at this
     rw [J6 (.inl h)]
     exact this.symm
    ·rw [h]at hval;exact hval
   rw [hins]
   exact ⟨H,D,by simp only [GMb,GMc,HPa,HPc,HPd,HPe,HPz,Nat.reduceAdd,Nat.reduceLT],hQ,Ext.refl _ _ _,hD,fun _ _=>rfl⟩
  | none=>
   obtain ⟨m,rfl⟩:∃m,n=m+1:=⟨n-1,by
    cases n with
    | zero=>rw [hD.zero]at hln;cases hln
    | succ n=>rfl⟩
   have hm:m<L.length:=hn
   have hv':(A0 L ((m+1:Nat):Int)).lv.toNat=v+1:=by
    rcases hv with h | h
    ·omega
    ·exact h
   obtain ⟨l1,l2,l3⟩:=AJ hl hm
   have hx:A0 L ((m+1:Nat):Int)=L[m]:=Ba hm
   rw [hx]at hv'
   have hwm:IntKind.i64.wrap (((m+1:Nat):Int)-1)=(m:Int):=by rw [An] <;> omega
   have hble:=hQ.len
   have hQ1:VQ s L tk out D (H++[.cel 0 (cNd L[m])]):=hQ.cells (fun i hi=>UW hi) (by simp)
   have hE1:Ext s.b s.ar H (H++[.cel 0 (cNd L[m])]):=Ext.snoc hble _
   have hHar:H.length≠s.ar:=by
    obtain ⟨v,h1⟩:=hQ.nodes
    have:=(UV.1 h1.cell).1;omega
   simp only [GMb,GMc,HPa,HPc,HPd,HPe,HPz,Nat.reduceAdd,Nat.reduceLT,CN hQ.list,Fd,hwm,Ay hm,IR,BS,F9,ET,F1]
   have fin:∀(Hc:Aa) (D1:List (Nat×Nat)),lkD D1 (m+1)=none→VQ s L tk (BO (Bl L (A3 L) v) L[m] (if 1<L[m].lv then 4 else 0) out).1 D1 Hc→Hc[H.length]? = some (.cel 0 (cNd (BO (Bl L (A3 L) v) L[m] (if 1<L[m].lv then 4 else 0) out).2))→Ext s.b s.ar H Hc→VD L (BO (Bl L (A3 L) v) L[m] (if 1<L[m].lv then 4 else 0) out).1 D1→(∀j,m<j→lkD D1 j=lkD D j) →
     ∃H' D',Sh.f4t H (.int .i64 ((m+1:Nat):Int)) (.ptr s.pd 0 0) (.ptr s.pa 0 0) (.ptr H.length 0 0) Hc=some (.ret (.int .i64 ((Bl L (A3 L) (v+1) (m+1) out).2:Int)),H') ∧
      VQ s L tk (Bl L (A3 L) (v+1) (m+1) out).1 D' H'∧Ext s.b s.ar H H'∧VD L (Bl L (A3 L) (v+1) (m+1) out).1 D'∧∀j,m+1<j→lkD D' j=lkD D j:=by
    intro Hc D1 hl1 hQc hbox hEc hDc hjj
    have hint:=intern_ins hl hm hv' out
    have hagain:=Ir (L:=L) (E:=A3 L) (v+1) (m+1) out []
    rw [V3]at hagain
    generalize BO (Bl L (A3 L) v) L[m] (if 1<L[m].lv then 4 else 0) out=io at *
    obtain ⟨o,y⟩:=io
    dsimp only at *
    obtain ⟨vv,hA⟩:=hQc.nodes
    have hsh:=hDc.short
    obtain ⟨v',H2,i1,i2,i3⟩:=c06_intern hA hQc.hb.1 hQc.hb.2.1 hQc.len y (by omega)
    rw [hint]at i1 i2
    have hdm:s.dm≠s.km:=Ne.symm hQc.hb.2.2.2
    have hdn:=i3.map _ _ hdm hQc.nums
    have hpd:=i3.cel _ _ hQc.ne.1 hQc.done
    have hup:=updA_dn (H:=H2) (n:=m+1) hdn (Bl L (A3 L) (v+1) (m+1) out).2 hl1
    have hgrow:∃r,(Bl L (A3 L) (v+1) (m+1) out).1=o++r:=by
     rw [←hint]
     unfold HN B4
     split
     ·exact ⟨[],by simp⟩
     ·split
      ·exact ⟨[y],rfl⟩
      ·exact ⟨[],by simp⟩
    have hglen:(Bl L (A3 L) (v+1) (m+1) out).1.length≤o.length+1:=by
     rw [←hint]
     unfold HN B4
     split
     ·dsimp only;omega
     ·split
      ·simp
      ·dsimp only;omega
    refine ⟨H2.set s.dm (.map (dnM (D1++[(m+1,(Bl L (A3 L) (v+1) (m+1) out).2)]))),D1++[(m+1,(Bl L (A3 L) (v+1) (m+1) out).2)],?_,?_,hEc.trans ⟨?_,fun i cs hi hc=>?_,fun i hi=>?_⟩,?_,fun j hj=>?_⟩
    ·unfold Sh.f4t
     simp only [GMb,GMc,HPa,HPc,HPd,HPe,HPz,Nat.reduceAdd,Nat.reduceLT,CN hQc.arena,Fd,Hk hbox,i1,CN hpd,hup]
    ·have hdl:s.dm<H2.length:=(UV.1 hdn).1
     have nc:∀ {i:Nat} {c:List Ab},i≠s.ar→Hc[i]? = some (.cel 0 c)→(H2.set s.dm (.map (dnM (D1++[(m+1,(Bl L (A3 L) (v+1) (m+1) out).2)]))))[i]? = some (.cel 0 c):=fun {i c} hi hc=>by
      have h2:=i3.cel i c hi hc
      have:s.dm≠i:=fun e=>by rw [←e,hdn]at h2;cases h2
      rw [UX this];exact h2
     have hda:s.dm≠s.ar:=fun e=>by have:=i2.cell;rw [←e,hdn]at this;cases this
     exact ⟨hQc.hb,hQc.ne,nc hQc.ne.1 hQc.done,nc hQc.ne.2.1 hQc.list,nc hQc.ne.2.2.1 hQc.self,nc hQc.ne.2.2.2 hQc.arena,
      ⟨v',by rw [UX hda];exact i2.cell,i2.row.setB hdn (fun _ _ _ e=>by cases e),by rw [UX hdm];exact i2.known⟩,by rw [Vj hdl]⟩
    ·rw [VA];exact i3.len
    ·have h2:=i3.cel i cs hi hc
     have:s.dm≠i:=fun e=>by rw [←e,hdn]at h2;cases h2
     rw [UX this];exact h2
    ·have:=hQc.hb.2.2.1
     rw [UX (by omega)];exact i3.old i hi
    ·obtain ⟨r,hr⟩:=hgrow
     refine ⟨?_,fun p hp=>?_,fun p hp=>?_,?_,?_⟩
     ·rw [List.map_append,WW]
      refine ⟨hDc.nd,by simp,fun a ha b hb=>?_⟩
      have hbm:b=m+1:=by simpa using hb
      have:=lkD_none hl1
      exact fun e=>this (by rw [←hbm,←e];exact ha)
     ·rcases Vt.1 hp with h | h
      ·exact hDc.le p h
      ·rw [Vs.1 h];exact hn
     ·rcases Vt.1 hp with h | h
      ·rw [hr];exact hDc.grow r p h
      ·rw [Vs.1 h]
       dsimp only
       rw [hx,hv'];exact hagain
     ·rw [Vc,List.length_singleton];have:=hDc.cnt;omega
     ·rw [lkD_app,hDc.zero]
    ·rw [lkD_app,hjj j (by omega)]
     cases lkD D j with
     | some _=>rfl
     | none=>dsimp only;rw [if_neg (by omega)]
   by_cases hlv:L[m].lv>1
   ·simp only [hlv,GMb,GMc]
    have h1lt:1<L[m].lv:=hlv
    rw [if_pos h1lt]at fin
    have loop:=Gi (G:=fun rec2 vs H1=>Sh.f4u H (Sh.f7 d) (fun vs H=>Sh.f4t H (ag vs 0) (ag vs 1) (ag vs 2) (ag vs 3) H) rec2 (ag vs 0) (ag vs 1) (ag vs 2) (ag vs 3) (ag vs 4) (ag vs 5) (ag vs 6) H1) 4
     (fun k vs Hc=>∃D',vs=[.int .i64 ((m+1:Nat):Int),.ptr s.pd 0 0,.ptr s.pv 0 0,.ptr s.pa 0 0,.ptr H.length 0 0,.agg (IU L[m]),.int .i64 (k:Int)]∧VQ s L tk (BO (Bl L (A3 L) v) L[m] k out).1 D' Hc∧Hc[H.length]? = some (.cel 0 (cNd (BO (Bl L (A3 L) v) L[m] k out).2))∧Ext s.b s.ar H Hc∧VD L (BO (Bl L (A3 L) v) L[m] k out).1 D'∧lkD D' (m+1)=none∧∀j,m<j→lkD D' j=lkD D j)
     (by decide) (fun k vs Hc hk hI=>?_) (vs:=[.int .i64 ((m+1:Nat):Int),.ptr s.pd 0 0,.ptr s.pv 0 0,.ptr s.pa 0 0,.ptr H.length 0 0,.agg (IU L[m]),.int .i64 0]) (H:=H++[Blk.cel 0 (cNd L[m])]) ⟨D,rfl,hQ1,by simp [BO],hE1,hD,hln,fun _ _=>rfl⟩
    ·obtain ⟨vs',Hc,⟨D',rfl,hQc,hbox,hEc,hDc,hlc,hjc⟩,rec,hloop⟩:=loop
     obtain ⟨H',D2,f1,f2⟩:=fin Hc D' hlc hQc hbox hEc hDc hjc
     refine ⟨H',D2,hloop.trans ?_,f2⟩
     unfold Sh.f4u
     simp only [GMb,GMc,Ai,show ¬(((4:Nat):Int)<4) from by decide]
     exact f1
    ·obtain ⟨D1,rfl,hQc,hbox,hEc,hDc,hlc,hjc⟩:=hI
     have hk':(k:Int)<4:=by omega
     obtain ⟨q1,q2,q3⟩:=l3 k hk
     obtain ⟨c,hc⟩:∃c:Nat,L[m].kid k=(c:Int):=⟨(L[m].kid k).toNat,by omega⟩
     have hcm:c≤m:=by
      by_cases h0:0<L[m].kid k
      ·have:=(q3 h1lt h0).1;omega
      ·omega
     have hcv:c=0∨(A0 L (c:Int)).lv.toNat=v:=by
      by_cases h0:c=0
      ·exact .inl h0
      ·right
       obtain ⟨g,rfl⟩:∃g,c=g+1:=⟨c-1,by omega⟩
       have hgl:g<L.length:=by omega
       have:=(q3 h1lt (by omega)).2 L[g] (by rw [show (L[m].kid k-1).toNat=g by omega];exact UU hgl)
       rw [Ba hgl];omega
     obtain ⟨H1,D',r1,r2,r3,r4,r5⟩:=ih c d (BO (Bl L (A3 L) v) L[m] k out).1 D1 Hc (by omega) hcv (by omega) hQc hDc
     have hbox1:=r3.cel _ _ hHar hbox
     have hst:=EC (c:=((Bl L (A3 L) v c (BO (Bl L (A3 L) v) L[m] k out).1).2:Int)) hbox1 hk
     have hstep:BO (Bl L (A3 L) v) L[m] (k+1) out=((Bl L (A3 L) v c (BO (Bl L (A3 L) v) L[m] k out).1).1,(BO (Bl L (A3 L) v) L[m] k out).2.setKid k ((Bl L (A3 L) v c (BO (Bl L (A3 L) v) L[m] k out).1).2:Int)):=by
      simp only [BO,hc,Int.toNat_natCast]
     rw [hstep]
     refine ⟨_,H1.set H.length (.cel 0 (cNd ((BO (Bl L (A3 L) v) L[m] k out).2.setKid k ((Bl L (A3 L) v c (BO (Bl L (A3 L) v) L[m] k out).1).2:Int)))),⟨D',rfl,r2.put hbox1,?_,⟨by have:=hEc.len;have:=r3.len;rw [VA];omega,fun i cs hi hc=>?_,fun i hi=>?_⟩,r4,?_,fun j hj=>?_⟩,fun rec=>?_⟩
     ·rw [Vj (UV.1 hbox1).1]
     ·have:=(UV.1 hc).1
      rw [UX (by omega)];exact r3.cel i cs hi (hEc.cel i cs hi hc)
     ·rw [UX (by omega),r3.old i hi];exact hEc.old i hi
     ·rw [r5 (m+1) (by omega)];exact hlc
     ·rw [r5 j (by omega)];exact hjc j hj
     ·have hcall:D3 (Hz (Sh.f7 d)) (.fn 161 [.ptr s.pd 0 0,.ptr s.pl 0 0,.ptr s.pv 0 0,.ptr s.pa 0 0]) [.int .i64 (c:Int)] Hc=Sh.f7 d (.int .i64 (c:Int)) (.ptr s.pd 0 0) (.ptr s.pl 0 0) (.ptr s.pv 0 0) (.ptr s.pa 0 0) Hc:=rfl
      unfold Sh.f4u
      simp only [GMb,GMc,HPa,HPc,HPd,HPe,HPz,Nat.reduceAdd,Nat.reduceLT,Ai,hk',ag_kid _ hk,hc,CN hQc.self,Fd,hcall,r1,Hl hk,hst,Aw (show k<9223372036854775807 by omega)]
   ·simp only [hlv,GMb,GMc]
    rw [if_neg hlv]at fin
    exact fin _ D hln hQ1 (by simp [BO]) hE1 hD (fun _ _=>rfl)
theorem c06_of (L:List Nd) (tk:Tok) (n:Int) (H:Aa) (hL:L.length<1000000000000):Sh.f2o (.sl (enL cNd L) tk) (.int .i64 n) H =
  some (.ret (if RO L n then .tup [CP (I5 L n.toNat),.int .i64 0]else .tup [CP [],.int .i64 1]),H):=by
 unfold Sh.f2o
 have hbx:B8 true 1 (.sl (enL cNd L) tk) H=some (.ptr H.length 0 0,H++[.cel 0 [.sl (enL cNd L) tk]]):=by
  unfold B8;simp only [UR,alloc_eq (cs:=[.sl (enL cNd L) tk]) rfl];rfl
 have hq0:Ab.agg [.sl [] .no]=CP []:=rfl
 simp only [hbx,GMb,GMc,HPa,HPc,HPd,HPe,HPz,Nat.reduceAdd,Nat.reduceLT,c05_loose L tk _ (show L.length<1152921504606846976 by omega)]
 unfold RO
 have hb0:AD (some [(.sl [] .tight)]) []=some (.agg [.sl [] .tight]):=rfl
 cases hl:AE L with
 | false=>simp only [GMb,GMc,HPa,HPc,HPd,HPe,HPz,Nat.reduceAdd,Nat.reduceLT,hb0,hq0,Vd,if_false]
 | true=>
  by_cases hn0:n<0
  ·have:¬0≤n:=by omega
   simp only [GMb,GMc,HPa,HPc,HPd,HPe,HPz,Nat.reduceAdd,Nat.reduceLT,hb0,hq0,hn0,this,Vd,if_false]
  ·have h0':0≤n:=by omega
   by_cases hn1:n>L.length
   ·have:¬n≤L.length:=by omega
    simp only [GMb,GMc,HPa,HPc,HPd,HPe,HPz,Nat.reduceAdd,Nat.reduceLT,hb0,hq0,hn0,h0',hn1,this,Au,Vd,if_false]
   ·obtain ⟨n,rfl⟩:=VP h0'
    have hle:n≤L.length:=by omega
    have hle':(n:Int)≤(L.length:Int):=by omega
    have hnn:¬(n:Int)>(L.length:Int):=hn1
    obtain ⟨s1,s2,s3⟩:=OW hl hle
    unfold I5
    simp only [GMb,GMc,HPa,HPc,HPd,HPe,HPz,Nat.reduceAdd,Nat.reduceLT,hn0,h0',hnn,hle',Au,c06_shrink L tk n _ (show L.length<3518437200000 by omega) hl hle,if_true,Int.toNat_natCast]
    generalize D6 L n=S at s1 s2 s3
    obtain ⟨M,r⟩:=S
    dsimp only at s1 s2 s3 ⊢
    have hlvv:(A0 M (r:Int)).lv.toNat<AQ:=by
     rw [Dv]
     by_cases hr:0<r
     ·have:=Oh s1 hr s2;omega
     ·obtain rfl:r=0:=by omega
      unfold A0
      rw [UZ]
      by_cases hM:0<M.length
      ·rw [show (((0:Nat):Int)-1).toNat=0 from rfl,UU hM]
       have:=(AJ s1 hM).2.1
       simp only [Option.getD_some];omega
      ·rw [show (((0:Nat):Int)-1).toNat=0 from rfl,Vl (by omega)];simp
    have hmk:∀K:Aa,Ew K=some (.mp K.length,K++[.map []]):=fun _=>rfl
    have hb1:∀x,AD (some [.sl [] .tight,.nilmap]) [(1,1,.mp x)]=some (.agg [.sl [] .tight,.mp x]):=fun _=>rfl
    have hup:DW false 1 (.mp (H.length+5)) (.int .i64 0) (.int .i64 0) (H++[.cel 0 [.sl (enL cNd M) .no],.cel 0 [.sl [] .tight],.map [],.cel 0 [.sl [] .tight,.mp (H.length+2)],.cel 0 [.ptr (H.length+3) 0 0],.map []]) =
      some (H++[.cel 0 [.sl (enL cNd M) .no],.cel 0 [.sl [] .tight],.map [],.cel 0 [.sl [] .tight,.mp (H.length+2)],.cel 0 [.ptr (H.length+3) 0 0],.map (dnM [(0,0)])]):=by
     have:=updA_dn (H:=H++[.cel 0 [.sl (enL cNd M) .no],.cel 0 [.sl [] .tight],.map [],.cel 0 [.sl [] .tight,.mp (H.length+2)],.cel 0 [.ptr (H.length+3) 0 0],.map []]) (id:=H.length+5) (D:=[]) (by simp [dnM]) (n:=0) 0 rfl
     rw [show ((0:Nat):Int)=0 from rfl]at this
     rw [this,V8 _ _ (by omega),show H.length+5-H.length=5 by omega]
     rfl
    have hf:∀l:List Ab,Ag 1 (.ptr 0 0 0) (.fn 161 l) [Blk.cel 0 [.nilfn]]=some [.cel 0 [.fn 161 l]]:=fun l=>OT rfl (by simp)
    obtain ⟨F,hF⟩:∃F:Aa,F=H++[.cel 0 [.sl (enL cNd M) .no],.cel 0 [.sl [] .tight],.map [],.cel 0 [.sl [] .tight,.mp (H.length+2)],.cel 0 [.ptr (H.length+3) 0 0],.map (dnM [(0,0)]),.cel 0 [.mp (H.length+5)],.cel 0 [.fn 161 [.ptr (H.length+6) 0 0,.ptr H.length 0 0,.ptr (H.length+7) 0 0,.ptr (H.length+4) 0 0]]]:=⟨_,rfl⟩
    have hQ:VQ ⟨H.length,H.length+6,H.length,H.length+7,H.length+4,H.length+3,H.length+2,H.length+5⟩ M .no [] [(0,0)] F:=by
     refine ⟨⟨by dsimp only;omega,by dsimp only;omega,by dsimp only;omega,by dsimp only;omega⟩,⟨by dsimp only;omega,by dsimp only;omega,by dsimp only;omega,by dsimp only;omega⟩,?_,?_,?_,?_,⟨.sl [] .tight,?_,.inl ⟨rfl,rfl⟩,?_⟩,?_⟩ <;> (rw [hF];simp [knF])
    have hD:VD M [] [(0,0)]:=⟨by simp,fun p hp=>by rw [Vs.1 hp];exact Vy _,fun p hp=>by rw [Vs.1 hp];exact J6 (.inl rfl),by simp,rfl⟩
    obtain ⟨H',D',v1,v2,v3,v4,v5⟩:=c06_visit (s:=⟨H.length,H.length+6,H.length,H.length+7,H.length+4,H.length+3,H.length+2,H.length+5⟩) (L:=M) (tk:=.no) (by omega) s1 (A0 M (r:Int)).lv.toNat r AQ [] [(0,0)] F s2 (.inr rfl) hlvv hQ hD
    dsimp only at v1 v3
    have hcall:D3 Jj (.fn 161 [.ptr (H.length+6) 0 0,.ptr H.length 0 0,.ptr (H.length+7) 0 0,.ptr (H.length+4) 0 0]) [.int .i64 (r:Int)] F=Sh.f7 AQ (.int .i64 (r:Int)) (.ptr (H.length+6) 0 0) (.ptr H.length 0 0) (.ptr (H.length+7) 0 0) (.ptr (H.length+4) 0 0) F:=rfl
    rw [v1]at hcall
    rw [hF]at hcall
    have hres:H'[H.length+1]? = some (.cel 0 [.sl [] .tight]):=v3.cel _ _ (by omega) (by rw [hF];simp)
    have hold:∀i,i<H.length→H'[i]? = H[i]? := fun i hi=>by rw [v3.old i hi,hF,UW hi]
    obtain ⟨v,hA⟩:=v2.nodes
    have hpa:=CN (o:=0) (sz:=1) v2.arena
    have har:=CN (o:=0) (sz:=1) hA.cell
    dsimp only at hpa har
    obtain ⟨tk3,rfl⟩:=hA.row.sl
    generalize (Bl M (A3 M) (A0 M (r:Int)).lv.toNat r []).1=Q at *
    have hb:AD (some [(.sl [] .tight)]) [(0,1,.sl (enL cNd Q) tk3)]=some (.agg [.sl (enL cNd Q) tk3]):=by simp [AD,FV,Dp]
    have hst:=OU (sz:=1) (ws:=[.sl (enL cNd Q) tk3]) hres rfl rfl rfl
    have hcl:=(UV.1 hres).1
    have hld:=Pn (sz:=1) (H:=H'.set (H.length+1) (.cel 0 [.sl (enL cNd Q) tk3])) (p:=H.length+1) (by rw [Vj hcl]) rfl
    have htake:(H'.set (H.length+1) (.cel 0 [.sl (enL cNd Q) tk3])).take H.length=H:=C8 fun i hi=>by
     rw [UX (by omega)];exact hold i hi
    simp only [GMb,GMc,HPa,HPc,HPd,HPe,HPz,Nat.reduceAdd,Nat.reduceLT,hmk,hb1,hup,hf,hcall,hpa,har,Fd,hb,hst,hld,GI htake]
    rfl
structure Q4 (b p:Nat) (S:Nat→List Sp) (W:Nat→Ab) (T:Nat→Nat) (H:Aa):Prop where
 blk:H[p]? = some (.cel 0 [W 0,W 1,W 2,W 3])
 row:∀k,k<4→(S k=[]∧W k=.sl [] .tight)∨(S k≠[]∧b≤T k∧W k=.sl (enL cSp (S k)) (.own (T k))∧H[T k]? = some (.tok (S k).length BK 3))
 ne:∀i j,i<4→j<4→i≠j→S i≠[]→S j≠[]→T i≠T j
def up {α:Type} (f:Nat→α) (k:Nat) (a:α):Nat→α:=fun j=>if j=k then a else f j
theorem JT {α:Type} (f:Nat→α) (k:Nat) (a:α):up f k a k=a:=if_pos rfl
theorem EA {α:Type} (f:Nat→α) {j k:Nat} (a:α) (h:j≠k):up f k a j=f j:=if_neg h
theorem up_cells (W:Nat→Ab) {k:Nat} (hk:k<4) (w:Ab):[W 0,W 1,W 2,W 3].set k w=[up W k w 0,up W k w 1,up W k w 2,up W k w 3]:=by
 match k,hk with
 | 0,_=>rfl
 | 1,_=>rfl
 | 2,_=>rfl
 | 3,_=>rfl
theorem get_cells (W:Nat→Ab) {k:Nat} (hk:k<4):[W 0,W 1,W 2,W 3][k]? = some (W k):=by
 match k,hk with
 | 0,_=>rfl
 | 1,_=>rfl
 | 2,_=>rfl
 | 3,_=>rfl
theorem Q4.push {b p:Nat} {S:Nat→List Sp} {W:Nat→Ab} {T:Nat→Nat} {H:Aa} (h:Q4 b p S W T H) (G:Aa):Q4 b p S W T (H++G):=
 ⟨A1 h.blk,fun k hk=>by
  rcases h.row k hk with q | ⟨q0,q1,q2,q3⟩
  ·exact .inl q
  ·exact .inr ⟨q0,q1,q2,A1 q3⟩,h.ne⟩
theorem Q4.add {b p:Nat} {S:Nat→List Sp} {W:Nat→Ab} {T:Nat→Nat} {H:Aa} (h:Q4 b p S W T H) (hb:b≤p) {k:Nat} (hk:k<4) (s:Sp) (hl:(S k).length<1000000000) :
  ∃w' H1 T',Ac false 1 (.ptr p 0 k) H=some (W k)∧AW BK 3 56 (W k) (.sl (enL cSp [s]) .tight) H=some (w',H1)∧Ag 1 (.ptr p 0 k) w' H1=some (H1.set p (.cel 0 [up W k w' 0,up W k w' 1,up W k w' 2,up W k w' 3])) ∧
   Q4 b p (up S k (S k++[s])) (up W k w') T' (H1.set p (.cel 0 [up W k w' 0,up W k w' 1,up W k w' 2,up W k w' 3]))∧H.length≤H1.length∧∀i,i<b→H1[i]? = H[i]? := by
 have hpl:p<H.length:=(UV.1 h.blk).1
 have hld:Ac false 1 (.ptr p 0 k) H=some (W k):=by rw [CN h.blk];exact get_cells W hk
 have hlen4:k<[W 0,W 1,W 2,W 3].length:=hk
 rcases h.row k hk with ⟨q1,q2⟩ | ⟨q0,q1,q2,q3⟩
 ·have ha:=C4 (f:=cSp) (sz:=3) (l:=[]) (m:=[s]) (ty:=BK) (bytes:=56) (tk:=.tight) (H:=H) (by simp) (by simp) (by simp)
  simp only [List.nil_append,List.length_nil,List.length_singleton,UY,FE]at ha
  have hblk1:(H++[Blk.tok 1 BK 3])[p]? = some (.cel 0 [W 0,W 1,W 2,W 3]):=A1 h.blk
  have hst:=JV (v:=.sl (enL cSp [s]) (.own H.length)) hblk1 rfl hlen4
  rw [up_cells W hk]at hst
  refine ⟨.sl (enL cSp [s]) (.own H.length),H++[Blk.tok 1 BK 3],up T k H.length,hld,by rw [q2];exact ha,hst,⟨?_,fun j hj=>?_,fun i j hi hj hij hsi hsj=>?_⟩,by simp,fun i hi=>UW (by omega)⟩
  ·rw [Vj (by simp;omega)]
  ·by_cases e:j=k
   ·subst e
    right
    rw [JT,JT,JT,q1,UX (by omega)]
    exact ⟨by simp,by omega,rfl,by simp⟩
   ·rw [EA _ _ e,EA _ _ e,EA _ _ e]
    rcases h.row j hj with r | ⟨r0,r1,r2,r3⟩
    ·exact .inl r
    ·have:p≠T j:=fun e=>by rw [←e,h.blk]at r3;cases r3
     exact .inr ⟨r0,r1,r2,by rw [UX this];exact A1 r3⟩
  ·have lt:∀i,i<4→S i≠[]→T i<H.length:=fun i hi hs=>by
    rcases h.row i hi with r | ⟨r0,r1,r2,r3⟩
    ·exact absurd r.1 hs
    ·exact (UV.1 r3).1
   by_cases e1:i=k
   ·have e2:j≠k:=fun e=>hij (by omega)
    rw [e1,JT,EA _ _ e2]
    rw [EA _ _ e2]at hsj
    have:=lt j hj hsj;omega
   ·rw [EA _ _ e1]at hsi ⊢
    by_cases e2:j=k
    ·rw [e2,JT];have:=lt i hi hsi;omega
    ·rw [EA _ _ e2]at hsj ⊢
     exact h.ne i j hi hj hij hsi hsj
 ·have ha:=Em (f:=cSp) (sz:=3) (l:=S k) (m:=[s]) (ty:=BK) (bytes:=56) (tk:=.tight) (H:=H) (t:=T k) (by simp) q3 (by simp;omega) (by simp;omega)
  simp only [List.length_singleton]at ha
  have htl:T k<H.length:=(UV.1 q3).1
  have hpt:T k≠p:=fun e=>by rw [e,h.blk]at q3;cases q3
  have hblk1:(H.set (T k) (Blk.tok ((S k).length+1) BK 3))[p]? = some (.cel 0 [W 0,W 1,W 2,W 3]):=by rw [UX hpt];exact h.blk
  have hst:=JV (v:=.sl (enL cSp (S k++[s])) (.own (T k))) hblk1 rfl hlen4
  rw [up_cells W hk]at hst
  refine ⟨.sl (enL cSp (S k++[s])) (.own (T k)),H.set (T k) (Blk.tok ((S k).length+1) BK 3),T,hld,by rw [q2];exact ha,hst,⟨?_,fun j hj=>?_,fun i j hi hj hij hsi hsj=>?_⟩,by simp,fun i hi=>UX (by omega)⟩
  ·rw [Vj (by simp;omega)]
  ·by_cases e:j=k
   ·subst e
    right
    rw [JT,JT,UX (Ne.symm hpt),Vj htl]
    exact ⟨by simp,q1,rfl,by simp⟩
   ·rw [EA _ _ e,EA _ _ e]
    rcases h.row j hj with r | ⟨r0,r1,r2,r3⟩
    ·exact .inl r
    ·have:p≠T j:=fun e=>by rw [←e,h.blk]at r3;cases r3
     have h2:T k≠T j:=h.ne k j hk hj (Ne.symm e) q0 r0
     exact .inr ⟨r0,r1,r2,by rw [UX this,UX h2];exact r3⟩
  ·have b1:S i≠[]:=by
    by_cases e1:i=k
    ·rw [e1];exact q0
    ·rw [EA _ _ e1]at hsi;exact hsi
   have b2:S j≠[]:=by
    by_cases e1:j=k
    ·rw [e1];exact q0
    ·rw [EA _ _ e1]at hsj;exact hsj
   exact h.ne i j hi hj hij b1 b2
def SpOk (p:Sp):Prop:=(A7 p.a).length≤1000000∧(A7 p.b).length≤1000000
theorem Mp (s:Sp):AY 3 [.agg (cSp s)]=some (.sl (enL cSp [s]) .tight):=by
 simp [AY,CZ,C5,cSp,Ab.isScal,LO,BE,enL]
theorem qOf_lt (v:Nat) (p:Sp):qOf v p<4:=by unfold qOf;split <;> split <;> omega
theorem qSp_snoc {v k:Nat} {S:List Sp} {s:Sp}:qSp v k (S++[s])=if k=qOf v s then qSp v k S++[s]else qSp v k S:=by
 unfold qSp
 rw [VJ]
 by_cases h:k=qOf v s
 ·rw [if_pos h];simp [h]
 ·rw [if_neg h]
  have:¬qOf v s=k:=fun e=>h e.symm
  simp [this]
theorem lay_turn {self:Ab→Ab→Ab→Aa→Out} {pb v:Nat} {S:List Sp} {tk:Tok} {H B Hc:Aa} {W:Nat→Ab} {T:Nat→Nat} {i:Nat} (hi:i<S.length) (hok:∀p∈S,SpOk p) (hS:S.length<1000000000) (hv:v<100000)
  (hBb:H.length=B.length) (hq:Q4 B.length B.length (fun k=>qSp v k (S.take i)) W T Hc) (hlen:B.length≤Hc.length) (hold:∀i,i<B.length→Hc[i]? = B[i]?) :
  ∃W' T' Hd,(∀rec:LK,Sh.f2i H self rec (.ptr pb 0 0) (.int .i64 ((v+1:Nat):Int)) (.ptr B.length 0 0) (.sl (enL cSp S) tk) (.int .i64 (S.length:Int)) (.int .i64 (i:Int)) Hc=rec [.ptr pb 0 0,.int .i64 ((v+1:Nat):Int),.ptr B.length 0 0,.sl (enL cSp S) tk,.int .i64 (S.length:Int),.int .i64 ((i+1:Nat):Int)] Hd) ∧
   Q4 B.length B.length (fun k=>qSp v k (S.take (i+1))) W' T' Hd∧B.length≤Hd.length∧(∀i,i<B.length→Hd[i]? = B[i]?):=by
 have d1:decide ((i:Int)<(S.length:Int))=true:=decide_eq_true (by omega)
 have hsi:=hok _ (Vi hi)
 have hlt:=qOf_lt v S[i]
 have hq1:Q4 B.length B.length (fun k=>qSp v k (S.take i)) W T (Hc++[.cel 0 (cSp S[i])]):=hq.push _
 have hll:(qSp v (qOf v S[i]) (S.take i)).length<1000000000:=VN (Wi _ _) (by rw [Vm];omega)
 obtain ⟨w',H1,T',a1,a2,a3,a4,a5,a6⟩:=hq1.add (Va _) hlt S[i] hll
 have hw:=Aw (show i<9223372036854775807 by omega)
 have w1:IntKind.i64.wrap (((v+1:Nat):Int)-1)=(v:Int):=by rw [An] <;> omega
 have bx:=fun K=>p_bit S[i].a v .no K hsi.1 (by omega)
 have bY:=fun K=>p_bit S[i].b v .no K hsi.2 (by omega)
 have e1:(Hc++[Blk.cel 0 [Ab.sl [] .tight,.sl [] .tight,.int .u8 0]])[Hc.length]? = some (.cel 0 [.sl [] .tight,.sl [] .tight,.int .u8 0]):=Ap
 have e2:(Hc++[Blk.cel 0 (cSp S[i])])[Hc.length]? = some (.cel 0 (cSp S[i])):=Ap
 have hst:Ag 3 (.ptr Hc.length 0 0) (.agg (cSp S[i])) (Hc++[Blk.cel 0 [Ab.sl [] .tight,.sl [] .tight,.int .u8 0]])=some (Hc++[Blk.cel 0 (cSp S[i])]):=by
  rw [OU (sz:=3) (ws:=cSp S[i]) e1 rfl rfl rfl,Bh]
 have ldA:Ac true 3 (.cptr (cSp S[i]) 0) Hc=some (.agg (cSp S[i])):=rfl
 have ld0:Ac false 1 (.ptr Hc.length 0 0) (Hc++[Blk.cel 0 (cSp S[i])])=some (.sl (enL cU (A7 S[i].a)) .no):=by rw [CN e2];rfl
 have ld1:Ac false 1 (.ptr Hc.length 0 1) (Hc++[Blk.cel 0 (cSp S[i])])=some (.sl (enL cU (A7 S[i].b)) .no):=by rw [CN e2];rfl
 have ldG:Ac true 3 (.ptr Hc.length 0 0) (Hc++[Blk.cel 0 (cSp S[i])])=some (.agg (cSp S[i])):=Pn e2 rfl
 have hal:Az (some [(.sl [] .tight),(.sl [] .tight),(.int .u8 0)]) Hc=some (.ptr Hc.length 0 0,Hc++[.cel 0 [Ab.sl [] .tight,.sl [] .tight,.int .u8 0]]):=alloc_eq rfl
 have hix:=Hl (K:=.i64) (id:=B.length) (g:=0) (o:=0) hlt
 rw [UY]at hix
 have w2:IntKind.i64.wrap (0+1)=1:=rfl
 have w3:IntKind.i64.wrap (0+2)=2:=rfl
 have w4:IntKind.i64.wrap (1+2)=3:=rfl
 refine ⟨up W (qOf v S[i]) w',T',H1.set B.length (.cel 0 [up W (qOf v S[i]) w' 0,up W (qOf v S[i]) w' 1,up W (qOf v S[i]) w' 2,up W (qOf v S[i]) w' 3]),fun rec=>?_,?_,?_,?_⟩
 ·unfold Sh.f2i Sh.f7m Sh.f7l
  simp only [GMb,GMc,d1,Au,Ay hi,ldA,hal,hst,AN,Ah,UY,ld0,w1,bx]
  have fin:∀k:Int,k=((qOf v S[i]:Nat):Int)→(BP 4 1 (.ptr B.length 0 0) (.int .i64 k))=some (.ptr B.length 0 (qOf v S[i])):=fun k hk=>by rw [hk];exact hix
  cases hA:S[i].a.testBit v with
  | true=>
   cases hB:S[i].b.testBit v with
   | true=>
    have f:=fin 3 (by unfold qOf;rw [hA,hB];rfl)
    simp only [GMb,GMc,w2,ld1,bY,hB,w4,f,a1,ldG,Mp,a2,a3,AV,hw,Ak,Ai,Bc,Bg,Bw,BG,D5]
   | false=>
    have f:=fin 1 (by unfold qOf;rw [hA,hB];rfl)
    simp only [GMb,GMc,w2,ld1,bY,hB,f,a1,ldG,Mp,a2,a3,AV,hw,Ak,Ai,Bc,Bg,Bw,BG,D5]
  | false=>
   cases hB:S[i].b.testBit v with
   | true=>
    have f:=fin 2 (by unfold qOf;rw [hA,hB];rfl)
    simp only [GMb,GMc,w3,ld1,bY,hB,f,a1,ldG,Mp,a2,a3,AV,hw,Ak,Ai,Bc,Bg,Bw,BG,D5]
   | false=>
    have f:=fin 0 (by unfold qOf;rw [hA,hB];rfl)
    simp only [GMb,GMc,ld1,bY,hB,f,a1,ldG,Mp,a2,a3,AV,hw,Ak,Ai,Bc,Bg,Bw,BG,D5]
 ·have hs:(fun k=>qSp v k (S.take (i+1)))=up (fun k=>qSp v k (S.take i)) (qOf v S[i]) (qSp v (qOf v S[i]) (S.take i)++[S[i]]):=by
   funext k
   rw [Vf hi,qSp_snoc]
   unfold up
   by_cases h:k=qOf v S[i]
   ·rw [if_pos h,if_pos h,h]
   ·rw [if_neg h,if_neg h]
  rw [hs]
  exact a4
 ·rw [VA];simp at a5;omega
 ·intro j hj
  rw [UX (by omega),a6 j hj,UW (by omega)]
  exact hold j hj
def Kv (v:Nat) (S:List Sp):Nat→Nat
 | 0=>0
 | k+1=>Kv v S k+(qSp v k S).length
theorem PL (v:Nat):∀S:List Sp,Kv v S 4=S.length
 | []=>by simp [Kv,qSp]
 | p::S=>by
  have ih:=PL v S
  have hq:=qOf_lt v p
  simp only [Kv,qSp,VY,List.length_cons]at ih ⊢
  generalize qOf v p=q at hq
  match q,hq with
  | 0,_=>simp;omega
  | 1,_=>simp;omega
  | 2,_=>simp;omega
  | 3,_=>simp;omega
theorem UG (v:Nat) (S:List Sp) {k:Nat} (h:k≤4):Kv v S k≤S.length:=by
 have h4:=PL v S
 match k,h with
 | 0,_=>simp [Kv]
 | 1,_=>simp only [Kv]at h4 ⊢;omega
 | 2,_=>simp only [Kv]at h4 ⊢;omega
 | 3,_=>simp only [Kv]at h4 ⊢;omega
 | 4,_=>omega

mutual
theorem lay_len:∀(v:Nat) (out:List Nd) (S:List Sp),(Cw v out S).1.length≤out.length+S.length*v
 | 0,out,S=>by simp [Cw]
 | v+1,out,S=>by
  unfold Cw
  split
  ·simp
  ·rename_i hS
   have h:=QV v out S 4 (Va _)
   have hpos:0<S.length:=VC.2 hS
   have:Kv v S 4*v≤S.length*v:=VE _ (UG v S (Va _))
   simp only [Vc,List.length_singleton,Nat.mul_succ]
   omega
theorem QV:∀(v:Nat) (out:List Nd) (S:List Sp) (k:Nat),k≤4→(lyK (Cw v) v S k out).1.length≤out.length+Kv v S k*v
 | v,out,S,0,_=>by simp [lyK,Kv]
 | v,out,S,k+1,hk=>by
  have h:=QV v out S k (by omega)
  unfold lyK
  split
  ·rename_i h0
   subst h0
   dsimp only;omega
  ·have h2:=lay_len v (lyK (Cw v) v S k out).1 (qSp v k S)
   dsimp only
   have:Kv v S (k+1)*v=Kv v S k*v+(qSp v k S).length*v:=by
    show (Kv v S k+(qSp v k S).length)*v=_
    rw [VM]
   omega

end
theorem lyK_kid (rec:List Nd→List Sp→List Nd×Nat) (v:Nat) (S:List Sp) (out:List Nd):∀k,k≤4→∀j,k≤j→j<4→(lyK rec v S k out).2.kid j=0
 | 0,_,j,_,h4=>by
  match j,h4 with
  | 0,_=>rfl
  | 1,_=>rfl
  | 2,_=>rfl
  | 3,_=>rfl
 | k+1,hk,j,hj,h4=>by
  unfold lyK
  split
  ·rw [EY _ _ (by omega) h4 (by omega)];exact lyK_kid rec v S out k (by omega) j (by omega) h4
  ·rw [EY _ _ (by omega) h4 (by omega)];exact lyK_kid rec v S out k (by omega) j (by omega) h4
theorem setKid_id (x:Nd) {k:Nat} (hk:k<4) (h:x.kid k=0):x.setKid k 0=x:=by
 match k,hk with
 | 0,_=>simp only [Nd.kid]at h;unfold Nd.setKid;cases x;simp_all
 | 1,_=>simp only [Nd.kid]at h;unfold Nd.setKid;cases x;simp_all
 | 2,_=>simp only [Nd.kid]at h;unfold Nd.setKid;cases x;simp_all
 | 3,_=>simp only [Nd.kid]at h;unfold Nd.setKid;cases x;simp_all
theorem PS.same {b:Nat} {out:List Nd} {v:Ab} {H H':Aa} (h:PS b out v H) (hs:∀i,i<H.length→H'[i]? = H[i]?):PS b out v H':=by
 rcases h with h1 | ⟨t,h1,h2,h3⟩
 ·exact .inl h1
 ·exact .inr ⟨t,h1,h2,by rw [hs t (UV.1 h3).1];exact h3⟩
def LayOk (b pb n:Nat) (self:Ab→Ab→Ab→Aa→Out):Prop:=
 ∀(out:List Nd) (w:Ab) (S:List Sp) (tk:Tok) (H:Aa),H[pb]? = some (.cel 0 [w])→PS b out w H→b≤H.length→(∀p∈S,SpOk p)→S.length<1000000000→out.length+S.length*n<3518437208880 →
  ∃H' w',self (.ptr pb 0 0) (.int .i64 (n:Int)) (.sl (enL cSp S) tk) H=some (.ret (.int .i64 ((Cw n out S).2:Int)),H')∧H'[pb]? = some (.cel 0 [w'])∧PS b (Cw n out S).1 w' H'∧Ext b pb H H'
theorem nd_new (v:Nat):AD (some [(.int .i64 0),(.int .i64 0),(.int .i64 0),(.int .i64 0),(.int .i64 0)]) [(0,1,.int .i64 (v:Int))]=some (.agg (cNd ⟨(v:Int),0,0,0,0⟩)):=by
 simp [AD,FV,Dp,cNd]
theorem lay_kid {b pb q v k:Nat} {self:Ab→Ab→Ab→Aa→Out} {out:List Nd} {S:List Sp} {H Hd:Aa} {W:Nat→Ab} {w:Ab} (hself:v=0∨LayOk b pb v self) (hv:v<100000) (hk:k<4)
  (hW:∃tk,W k=.sl (enL cSp (qSp v k S)) tk) (hok:∀p∈S,SpOk p) (hS:S.length<1000000000) (hlen:out.length+S.length*v<3518437208880) (hbp:b≤pb) (hqp:q≠pb) (hbq:b≤q)
  (f1:Hd[pb]? = some (.cel 0 [w])) (f2:PS b (lyK (Cw v) v S k out).1 w Hd) (f3:Hd[q]? = some (.cel 0 (cNd (lyK (Cw v) v S k out).2))) :
  ∃w' He,(∀rec:LK,Sh.f16 H self rec (.ptr pb 0 0) (.int .i64 ((v+1:Nat):Int)) (.ptr q 0 0) (.agg [W 0,W 1,W 2,W 3]) (.int .i64 (k:Int)) Hd=rec [.ptr pb 0 0,.int .i64 ((v+1:Nat):Int),.ptr q 0 0,.agg [W 0,W 1,W 2,W 3],.int .i64 ((k+1:Nat):Int)] He) ∧
   He[pb]? = some (.cel 0 [w'])∧PS b (lyK (Cw v) v S (k+1) out).1 w' He∧He[q]? = some (.cel 0 (cNd (lyK (Cw v) v S (k+1) out).2))∧Hd.length≤He.length∧(∀(i:Nat) (cs:List Ab),i≠pb→i≠q→Hd[i]? = some (.cel 0 cs)→He[i]? = some (.cel 0 cs))∧∀i,i<b→He[i]? = Hd[i]? := by
 obtain ⟨tk,hW⟩:=hW
 have hk':decide ((k:Int)<4)=true:=decide_eq_true (by omega)
 have hpl:pb<Hd.length:=(UV.1 f1).1
 have hql:q<Hd.length:=(UV.1 f3).1
 have hag:Jm false 4 1 (.agg [W 0,W 1,W 2,W 3]) (.int .i64 (k:Int))=some (W k):=by
  match k,hk with
  | 0,_=>rfl
  | 1,_=>rfl
  | 2,_=>rfl
  | 3,_=>rfl
 have hw:=Aw (show k<9223372036854775807 by omega)
 have w1:IntKind.i64.wrap (((v+1:Nat):Int)-1)=(v:Int):=by rw [An] <;> omega
 have hix:=Hl (K:=.i64) (id:=q) (g:=0) (o:=1) hk
 rcases Wp v with h0 | h0
 ·subst h0
  have d1:decide (((0+1:Nat):Int)>1)=false:=rfl
  have e:lyK (Cw 0) 0 S (k+1) out=((lyK (Cw 0) 0 S k out).1,(lyK (Cw 0) 0 S k out).2.setKid k (headP (qSp 0 k S))):=rfl
  rw [e]
  cases hq:qSp 0 k S with
  | nil=>
   rw [hq]at hW
   have hid:=setKid_id _ hk (lyK_kid (Cw 0) 0 S out k (by omega) k (Va _) hk)
   refine ⟨w,Hd,fun rec=>?_,f1,f2,?_,Va _,fun _ _ _ _ h=>h,fun _ _=>rfl⟩
   ·unfold Sh.f16
    have hl0:A5 (.sl (enL cSp []) tk)=some (.int .i64 0):=rfl
    have d2:decide ((0:Int)>0)=false:=rfl
    simp only [GMb,GMc,hk',hag,d1,hW,hl0,d2,hw]
   ·show Hd[q]? = some (.cel 0 (cNd ((lyK (Cw 0) 0 S k out).2.setKid k 0)))
    rw [hid];exact f3
  | cons s r=>
   rw [hq]at hW
   have hst:=EC (c:=(s.s.toNat:Int)) f3 hk
   refine ⟨w,Hd.set q (.cel 0 (cNd ((lyK (Cw 0) 0 S k out).2.setKid k (s.s.toNat:Int)))),fun rec=>?_,?_,f2.put f3,?_,by simp,fun i cs h1 h2 h=>?_,fun i hi=>?_⟩
   ·have hl1:decide (((s::r).length:Int)>0)=true:=decide_eq_true (by simp only [List.length_cons];omega)
    have hi0:At 3 (.sl (enL cSp (s::r)) tk) (.int .i64 0)=some (.cptr (cSp s) 0):=Ay (f:=cSp) (l:=s::r) (i:=0) (K:=.i64) (by simp)
    have hld:∀K,Ac false 1 (.cptr (cSp s) 2) K=some (.int .u8 (s.s.toNat:Int)):=fun _=>rfl
    have hc:AK .i64 (.int .u8 (s.s.toNat:Int))=some (.int .i64 (s.s.toNat:Int)):=by
     have:=s.s.toNat_lt
     rw [B7,An (by omega) (by omega)]
    unfold Sh.f16
    simp only [GMb,GMc,hk',hag,d1,hW,Au,hl1,hi0,Al,Ah,UY,hld,hc,hix,hst,AV,hw]
   ·rw [UX hqp];exact f1
   ·rw [Vj hql];rfl
   ·rw [UX (Ne.symm h2)];exact h
   ·rw [UX (by omega)]
 ·obtain hself:=hself.resolve_left (by omega)
  have d1:decide (((v+1:Nat):Int)>1)=true:=decide_eq_true (by omega)
  have hcnt:=QV v out S k (by omega)
  have hc2:Kv v S (k+1)*v=Kv v S k*v+(qSp v k S).length*v:=by
   show (Kv v S k+(qSp v k S).length)*v=_
   rw [VM]
  have hc3:Kv v S (k+1)*v≤S.length*v:=VE _ (UG v S (by omega))
  obtain ⟨H1,w',r1,r2,r3,r4⟩:=hself (lyK (Cw v) v S k out).1 w (qSp v k S) tk Hd f1 f2 (by omega) (fun p hp=>hok p (VT.1 hp).1) (VN (Wi _ _) hS) (by omega)
  have f3':=r4.cel q _ hqp f3
  have hst:=EC (c:=((Cw v (lyK (Cw v) v S k out).1 (qSp v k S)).2:Int)) f3' hk
  have hql':q<H1.length:=(UV.1 f3').1
  have e:lyK (Cw v) v S (k+1) out=((Cw v (lyK (Cw v) v S k out).1 (qSp v k S)).1,(lyK (Cw v) v S k out).2.setKid k ((Cw v (lyK (Cw v) v S k out).1 (qSp v k S)).2:Int)):=by
   conv=>lhs;unfold lyK
   rw [if_neg (by omega)]
  rw [e]
  refine ⟨w',H1.set q (.cel 0 (cNd ((lyK (Cw v) v S k out).2.setKid k ((Cw v (lyK (Cw v) v S k out).1 (qSp v k S)).2:Int)))),fun rec=>?_,?_,r3.put f3',?_,by rw [VA];exact r4.len,fun i cs h1 h2 h=>?_,fun i hi=>?_⟩
  ·unfold Sh.f16
   simp only [GMb,GMc,hk',hag,d1,hW,w1,r1,Ah,UY,hix,hst,AV,hw]
  ·rw [UX hqp];exact r2
  ·rw [Vj hql']
  ·rw [UX (Ne.symm h2)];exact r4.cel i cs h1 h
  ·rw [UX (by omega)];exact r4.old i hi
theorem lay_step {b pb v:Nat} {self:Ab→Ab→Ab→Aa→Out} (hself:v=0∨LayOk b pb v self) (hv:v<100000) (hbp:b≤pb):LayOk b pb (v+1) (Sh.f71 self):=by
 intro out w S tk H f1 f2 hb hok hS hlen
 have hpl:pb<H.length:=(UV.1 f1).1
 unfold Sh.f71 Cw
 by_cases h0:S=[]
 ·subst h0
  refine ⟨H,w,?_,f1,f2,Ext.refl _ _ _⟩
  simp
 ·rw [if_neg h0]
  have hpos:=VC.2 h0
  have hne:decide ((S.length:Int)=0)=false:=decide_eq_false (by omega)
  have hne2:((S.length:Int) == 0)=false:=by rw [beq_eq_false_iff_ne];omega
  have hal:Az (some [(.sl [] .tight),(.sl [] .tight),(.sl [] .tight),(.sl [] .tight)]) H=some (.ptr H.length 0 0,H++[.cel 0 [Ab.sl [] .tight,.sl [] .tight,.sl [] .tight,.sl [] .tight]]):=alloc_eq rfl
  simp only [GMb,GMc,Au,hne,hne2,hal]
  have hQ0:Q4 H.length H.length (fun k=>qSp v k (S.take 0)) (fun _=>.sl [] .tight) (fun _=>0) (H++[.cel 0 [Ab.sl [] .tight,.sl [] .tight,.sl [] .tight,.sl [] .tight]]):=
   ⟨Ap,fun k hk=>.inl ⟨rfl,rfl⟩,fun i j _ _ _ h=>absurd rfl h⟩
  have loop:=Gi (G:=fun rec1 vs H1=>Sh.f2i H self rec1 (ag vs 0) (ag vs 1) (ag vs 2) (ag vs 3) (ag vs 4) (ag vs 5) H1) S.length
   (fun i vs Hc=>vs=[.ptr pb 0 0,.int .i64 ((v+1:Nat):Int),.ptr H.length 0 0,.sl (enL cSp S) tk,.int .i64 (S.length:Int),.int .i64 (i:Int)]∧∃W T,Q4 H.length H.length (fun k=>qSp v k (S.take i)) W T Hc∧H.length≤Hc.length∧∀i,i<H.length→Hc[i]? = H[i]?)
   (by omega) (fun i vs Hc hi hI=>?_) (vs:=[.ptr pb 0 0,.int .i64 ((v+1:Nat):Int),.ptr H.length 0 0,.sl (enL cSp S) tk,.int .i64 (S.length:Int),.int .i64 0]) (H:=H++[.cel 0 [Ab.sl [] .tight,.sl [] .tight,.sl [] .tight,.sl [] .tight]])
   ⟨rfl,_,_,hQ0,by simp,fun i hi=>UW hi⟩
  ·obtain ⟨vs,Hc,⟨rfl,W,T,hQ,hl,hold⟩,rec,hloop⟩:=loop
   rw [VO]at hQ
   rw [hloop]
   have d1:decide ((S.length:Int)<(S.length:Int))=false:=decide_eq_false (by omega)
   have hal2:Az (some [(.int .i64 0),(.int .i64 0),(.int .i64 0),(.int .i64 0),(.int .i64 0)]) Hc=some (.ptr Hc.length 0 0,Hc++[.cel 0 [Ab.int .i64 0,.int .i64 0,.int .i64 0,.int .i64 0,.int .i64 0]]):=alloc_eq rfl
   have hst:Ag 5 (.ptr Hc.length 0 0) (.agg (cNd ⟨((v+1:Nat):Int),0,0,0,0⟩)) (Hc++[.cel 0 [Ab.int .i64 0,.int .i64 0,.int .i64 0,.int .i64 0,.int .i64 0]])=some (Hc++[.cel 0 (cNd ⟨((v+1:Nat):Int),0,0,0,0⟩)]):=by
    rw [Ju Ap rfl,Bh]
   have hldq:Ac true 4 (.ptr H.length 0 0) (Hc++[.cel 0 (cNd ⟨((v+1:Nat):Int),0,0,0,0⟩)])=some (.agg [W 0,W 1,W 2,W 3]):=Pn (A1 hQ.blk) rfl
   have hqH:H.length<Hc.length:=(UV.1 hQ.blk).1
   have hWr:∀k,k<4→∃tk,W k=.sl (enL cSp (qSp v k S)) tk:=fun k hk=>by
    rcases hQ.row k hk with ⟨q1,q2⟩ | ⟨_,_,q2,_⟩
    ·exact ⟨.tight,by rw [q2,show qSp v k S=[] from q1];rfl⟩
    ·exact ⟨_,q2⟩
   have hlenv:out.length+S.length*v<3518437208880:=by rw [Nat.mul_succ]at hlen;omega
   have loop2:=Gi (G:=fun rec4 vs H1=>Sh.f16 H self rec4 (ag vs 0) (ag vs 1) (ag vs 2) (ag vs 3) (ag vs 4) H1) 4
    (fun k vs Hd=>vs=[.ptr pb 0 0,.int .i64 ((v+1:Nat):Int),.ptr Hc.length 0 0,.agg [W 0,W 1,W 2,W 3],.int .i64 (k:Int)]∧∃w',Hd[pb]? = some (.cel 0 [w'])∧PS b (lyK (Cw v) v S k out).1 w' Hd∧Hd[Hc.length]? = some (.cel 0 (cNd (lyK (Cw v) v S k out).2))∧Hc.length≤Hd.length∧(∀(i:Nat) (cs:List Ab),i≠pb→i<H.length→H[i]? = some (.cel 0 cs)→Hd[i]? = some (.cel 0 cs))∧∀i,i<b→Hd[i]? = H[i]?)
    (by decide) (fun k vs Hd hk hI=>?_) (vs:=[.ptr pb 0 0,.int .i64 ((v+1:Nat):Int),.ptr Hc.length 0 0,.agg [W 0,W 1,W 2,W 3],.int .i64 0]) (H:=Hc++[.cel 0 (cNd ⟨((v+1:Nat):Int),0,0,0,0⟩)])
    ⟨rfl,w,by rw [UW (by omega),hold pb hpl];exact f1,f2.same fun i hi=>by rw [UW (by omega)];exact hold i hi,by simp [lyK],by simp,fun i cs _ hi hc=>by rw [UW (by omega),hold i hi];exact hc,fun i hi=>by rw [UW (by omega)];exact hold i (by omega)⟩
   ·obtain ⟨vs,Hd,⟨rfl,w1,g1,g2,g3,g4,g5,g6⟩,rec2,hloop2⟩:=loop2
    have hlk:=QV v out S 4 (Va _)
    rw [PL]at hlk
    obtain ⟨w2,H2,a1,a2,a3⟩:=g2.snoc (show b≤Hd.length by omega) (lyK (Cw v) v S 4 out).2 (by omega)
    have h2b:=a3.cel pb _ g1
    have hpl2:=(UV.1 h2b).1
    obtain ⟨tk2,hw2⟩:=a2.sl
    have hst2:=JV (v:=w2) (o:=0) h2b (by rw [hw2];rfl) (by simp)
    have hld1:Ac false 1 (.ptr pb 0 0) Hd=some w1:=by rw [CN g1];rfl
    have hld2:Ac false 1 (.ptr pb 0 0) (H2.set pb (.cel 0 ([w1].set 0 w2)))=some w2:=by rw [CN (cs:=[w1].set 0 w2) (Vj hpl2)];rfl
    have hldn:=Hk g3
    have hlen2:A5 w2=some (.int .i64 (((lyK (Cw v) v S 4 out).1.length+1:Nat):Int)):=by rw [hw2,Au,Vc,List.length_singleton]
    have d4:decide (((4:Nat):Int)<4)=false:=rfl
    refine ⟨H2.set pb (.cel 0 ([w1].set 0 w2)),w2,?_,by rw [Vj hpl2];rfl,a2.put h2b,⟨?_,fun i cs hi hc=>?_,fun i hi=>?_⟩⟩
    ·unfold Sh.f2i
     simp only [Ak,Ai,Bc,Bg,Bw,BG,D5,GMb,GMc,d1,nd_new,hal2,hst,AV,hldq]
     rw [hloop2]
     unfold Sh.f16
     simp only [Ak,Ai,Bc,Bg,Bw,BG,D5,GMb,GMc,d4,nil_ptr,Ah,UY,hld1,hldn,JN,a1,hst2,AV,hld2,hlen2]
    ·rw [VA];have:=a3.len;omega
    ·rw [UX (Ne.symm hi)]
     exact a3.cel i cs (g5 i cs hi (UV.1 hc).1 hc)
    ·rw [UX (by omega),a3.old i hi];exact g6 i hi
   ·obtain ⟨rfl,w1,g1,g2,g3,g4,g5,g6⟩:=hI
    obtain ⟨w',He,t1,t2,t3,t4,t5,t6,t7⟩:=lay_kid (H:=H) (W:=W) hself hv hk (hWr k hk) hok hS hlenv hbp (show Hc.length≠pb by omega) (by omega) g1 g2 g3
    exact ⟨_,He,⟨rfl,w',t2,t3,t4,by omega,fun i cs hi hl hc=>t6 i cs hi (by omega) (g5 i cs hi hl hc),fun i hi=>(t7 i hi).trans (g6 i hi)⟩,t1⟩
  ·obtain ⟨rfl,W,T,hQ,hl,hold⟩:=hI
   obtain ⟨W',T',Hd,t1,t2,t3,t4⟩:=lay_turn (self:=self) (pb:=pb) (tk:=tk) (H:=H) hi hok hS hv rfl hQ hl hold
   exact ⟨_,Hd,⟨rfl,W',T',t2,t3,t4⟩,t1⟩
theorem lay_ok {b pb:Nat} (hbp:b≤pb):∀(n d:Nat),n<d→n<100000→1≤n→LayOk b pb n (Sh.f1r d)
 | 0,_,_,_,h=>by omega
 | n+1,d,hd,hn,_=>by
  obtain ⟨d,rfl⟩:∃e,d=e+1:=⟨d-1,by omega⟩
  refine lay_step (v:=n) ?_ (by omega) hbp
  rcases Wp n with h | h
  ·exact .inl h
  ·exact .inr (lay_ok hbp n d (by omega) (by omega) h)
theorem p_clone (l:List Cl) (tk:Tok) (H:Aa) (hl:l.length<1000000000):Sh.f3v (.sl (enL cCl l) tk) H=some (if l=[]then (.ret (.sl [] .tight),H)else (.ret (dV H.length 0 l.length),H++[.buf 0 (flat cCl l) A6 5])):=by
 have hb:AY 5 []=some (.sl [] .tight):=rfl
 unfold Sh.f3v
 cases l with
 | nil=>
  have ha:FG A6 5 72 (.sl [] .tight) (.sl (enL cCl []) tk) H=some (.sl [] .tight,H):=rfl
  have hn:Q8 .eql (.sl (enL cCl []) tk)=some .ubool:=rfl
  have hu:∀x:Out,Aj .ubool x x=x:=fun x=>if_pos rfl
  simp only [hn,GMb,GMc,hb,ha]
  exact hu _
 | cons c l=>
  have hn:Q8 .eql (.sl (enL cCl (c::l)) tk)=some (.bool false):=rfl
  have ha:FG A6 5 72 (.sl [] .tight) (.sl (enL cCl (c::l)) tk) H=some (dV H.length 0 (c::l).length,H++[.buf 0 (flat cCl (c::l)) A6 5]):=by
   have he:BY 5 (.sl (enL cCl (c::l)) tk) H=some (enL cCl (c::l)):=LU
   have hlen:(enL cCl (c::l)).length=(c::l).length:=by simp [enL]
   unfold FG
   rw [he]
   simp only [Option.bind_some]
   unfold HV
   rw [hlen,if_neg (by simp)]
   simp only [List.length_nil,UY,List.all_nil,List.nil_append]
   rw [if_pos ⟨trivial,by omega,by omega⟩]
   rfl
  simp only [hn,GMb,GMc,hb,ha]
  rw [if_neg (by simp)]
def UT (P L:List Cl) (i:Nat):Prop:=L.length=P.length∧∀k,k<P.length→L[k]? = if k<i∨P.length-i≤k then P[P.length-1-k]? else P[k]?
theorem UT.step {P L:List Cl} {i:Nat} (h:UT P L i) (hi:i<P.length-1-i):UT P (swp L i (P.length-1-i)) (i+1):=by
 obtain ⟨h1,h2⟩:=h
 have hl:i<L.length:=by omega
 have hj:P.length-1-i<L.length:=by omega
 refine ⟨by rw [M3];exact h1,fun k hk=>?_⟩
 have ei:=h2 i (by omega)
 have ej:=h2 (P.length-1-i) (by omega)
 rw [UU hl,if_neg (by omega)]at ei
 rw [UU hj,if_neg (by omega)]at ej
 rw [swp_eq hl hj]
 by_cases k1:k=P.length-1-i
 ·subst k1
  rw [Vj (by simp;omega),if_pos (by omega),ei]
  congr 1
  omega
 ·rw [UX (Ne.symm k1)]
  by_cases k2:k=i
  ·subst k2
   rw [Vj hl,if_pos (by omega),ej]
  ·rw [UX (Ne.symm k2),h2 k hk]
   by_cases k3:k<i∨P.length-i≤k
   ·rw [if_pos k3,if_pos (by omega)]
   ·rw [if_neg k3,if_neg (by omega)]
theorem UT.done {P L:List Cl} {i:Nat} (h:UT P L i) (hi:¬i<P.length-1-i):L=P.reverse:=by
 apply W6
 intro k
 by_cases hk:k<P.length
 ·rw [h.2 k hk,List.getElem?_reverse hk]
  split
  ·rfl
  ·congr 1
   omega
 ·rw [Vl (by rw [h.1];omega),Vl (by simp;omega)]
section
variable {p g:Nat} {l:List Cl} {H:Aa}
theorem p_reverse (h:CO H p g l) (hp:0<l.length) (hl:l.length<1000000000):Sh.f1e (dV p g l.length) H=some (.ret (.tup []),BF H p g l.reverse):=by
 have hw:IntKind.i64.wrap ((l.length:Int)-1)=((l.length-1:Nat):Int):=by rw [An] <;> omega
 have hln:A5 (dV p g l.length)=some (.int .i64 (l.length:Int)):=rfl
 unfold Sh.f1e
 simp only [hln,GMb,GMc,hw]
 have key:=Ed (G:=fun rec1 vs H1=>Sh.f26 H rec1 (ag vs 0) (ag vs 1) (ag vs 2) H1) (σ:=Nat×List Cl)
  (fun s vs H1=>(UT l s.2 s.1∧2*s.1≤l.length)∧vs=[dV p g l.length,.int .i64 (s.1:Int),.int .i64 ((l.length:Int)-1-(s.1:Int))]∧H1=BF H p g s.2) (fun s=>l.length-s.1) (fun s=>¬s.1<l.length-1-s.1) (fun s vs H1 hI hd=>?_)
  (s:=(0,l)) (vs:=[dV p g l.length,.int .i64 0,.int .i64 ((l.length-1:Nat):Int)]) (H:=H) ⟨⟨⟨rfl,fun k hk=>by rw [if_neg (by omega)]⟩,Vy _⟩,by dsimp only;rw [show (l.length:Int)-1-((0:Nat):Int)=((l.length-1:Nat):Int)by omega];rfl,(C6 h).symm⟩ (by dsimp only;omega)
 ·obtain ⟨⟨i,L⟩,vs,H1,hd,⟨⟨ht,hi⟩,rfl,rfl⟩,rec,hloop⟩:=key
  dsimp only at ht hi hd hloop
  have d1:decide ((i:Int)<(l.length:Int)-1-(i:Int))=false:=decide_eq_false (by omega)
  rw [hloop]
  unfold Sh.f26
  simp only [Ak,Ai,Bc,Bg,GMb,GMc,d1]
  rw [ht.done hd]
 ·obtain ⟨i,L⟩:=s
  obtain ⟨⟨ht,hi⟩,rfl,rfl⟩:=hI
  dsimp only at ht hi hd ⊢
  have hr:CO (BF H p g L) p g L:=CT h
  have hlt:i<l.length-1-i:=by omega
  have hLl:=ht.1
  have i1:i<L.length:=by omega
  have i2:l.length-1-i<L.length:=by omega
  have e:(l.length:Int)-1-(i:Int)=((l.length-1-i:Nat):Int):=by omega
  have d1:decide ((i:Int)<((l.length-1-i:Nat):Int))=true:=decide_eq_true (by omega)
  have hw1:=Aw (show i<9223372036854775807 by omega)
  have hw2:IntKind.i64.wrap (((l.length-1-i:Nat):Int)-1)=(l.length:Int)-1-((i+1:Nat):Int):=by rw [An] <;> omega
  obtain ⟨s1,s2⟩:=R4 hr i1 i2
  rw [Bx]at s1 s2
  rw [Bx]at s2
  refine ⟨(i+1,swp L i (l.length-1-i)),_,_,by dsimp only;omega,⟨⟨ht.step hlt,by dsimp only;omega⟩,rfl,rfl⟩,fun rec=>?_⟩
  unfold Sh.f26
  simp only [Ak,Ai,Bc,Bg,GMb,GMc,e,d1,BQ (show i<l.length by omega),BQ (show l.length-1-i<l.length by omega),Cv hr i1,Cv hr i2,BR,s1,s2,By,AV,hw1,hw2]
theorem p_sort {f:Ab} {l0:List Cl} (hf1:Ti AB f l0) (hf2:T8 f l0) (h:CO H p g l) (hm:∀c∈l,c∈l0) (hl:l.length<1000000000) :
  ∃S,En ltC S∧Fh ltC l S∧S.length=l.length∧Sh.f1n (dV p g l.length) f H=some (.ret (.tup []),BF H p g S):=by
 obtain ⟨S,s1,s2,s3,s4⟩:=stable_ok hf1 hf2 h hm hl
 refine ⟨S,s1,s2,s3,?_⟩
 have hln:A5 (dV p g l.length)=some (.int .i64 (l.length:Int)):=rfl
 unfold Sh.f1n
 simp only [hln,GMb,GMc,s4]
def RwT (H:Aa) (p g:Nat) (l:List Cl) (r:List Ab):Prop:=H[p]? = some (.buf g (flat cCl l++r) A6 5)
theorem CO.t (h:CO H p g l):RwT H p g l []:=by unfold RwT;rw [V3];exact h

end
theorem cpL_snoc (lt:Cl→Cl→Bool) (y:Cl):∀(P:List Cl) (x:Cl),cpL lt (P++[x]++[y])=if B2 lt y x then cpL lt (P++[x])else cpL lt (P++[x])++[y]:=by
 have key:∀(t:List Cl) (a x:Cl),cpF lt a (t++[x]++[y])=if B2 lt y x then cpF lt a (t++[x])else cpF lt a (t++[x])++[y]:=by
  intro t
  induction t with
  | nil=>
   intro a x
   show (if B2 lt x a then cpF lt x [y]else x::cpF lt x [y])=if B2 lt y x then (if B2 lt x a then cpF lt x []else x::cpF lt x [])else (if B2 lt x a then cpF lt x []else x::cpF lt x [])++[y]
   have e:cpF lt x [y]=if B2 lt y x then []else [y]:=rfl
   rw [e]
   cases B2 lt x a <;> cases B2 lt y x <;> rfl
  | cons b t ih=>
   intro a x
   have ihb:=ih b x
   show (if B2 lt b a then cpF lt b (t++[x]++[y])else b::cpF lt b (t++[x]++[y]))=if B2 lt y x then (if B2 lt b a then cpF lt b (t++[x])else b::cpF lt b (t++[x]))else (if B2 lt b a then cpF lt b (t++[x])else b::cpF lt b (t++[x]))++[y]
   rw [ihb]
   cases B2 lt b a <;> cases B2 lt y x <;> rfl
 intro P x
 cases P with
 | nil=>
  show x::cpF lt x [y]=if B2 lt y x then [x]else [x]++[y]
  have e:cpF lt x [y]=if B2 lt y x then []else [y]:=rfl
  rw [e]
  cases B2 lt y x <;> rfl
 | cons a P=>
  show a::cpF lt a (P++[x]++[y])=if B2 lt y x then a::cpF lt a (P++[x])else (a::cpF lt a (P++[x]))++[y]
  rw [key]
  cases B2 lt y x <;> rfl
theorem cpL_len (lt:Cl→Cl→Bool):∀l:List Cl,(cpL lt l).length≤l.length:=by
 have key:∀(t:List Cl) (a:Cl),(cpF lt a t).length≤t.length:=by
  intro t
  induction t with
  | nil=>intro a;exact Va _
  | cons b t ih=>
   intro a
   have:=ih b
   unfold cpF
   split
   ·simp only [List.length_cons];omega
   ·simp only [List.length_cons];omega
 intro l
 cases l with
 | nil=>exact Va _
 | cons a t=>have:=key t a;show (cpF lt a t).length+1≤t.length+1;omega
def zCl:List Ab:=[.bool false,.sl [] .tight,.bool false,.sl [] .tight,.int .u8 0]
theorem repl_scal (n:Nat):(L3 n zCl).all Ab.isScal=true:=by
 unfold L3
 induction n with
 | zero=>rfl
 | succ n ih=>rw [List.replicate_succ,List.flatten_cons,XP,ih];rfl
theorem repl_len (n:Nat):(L3 n zCl).length=n*5:=by
 unfold L3
 induction n with
 | zero=>rfl
 | succ n ih=>rw [List.replicate_succ,List.flatten_cons,Vc,ih,show zCl.length=5 from rfl];omega
theorem flat_split {L:List Cl} {k:Nat} (hk:k≤L.length):(flat cCl L).take (k*5)=flat cCl (L.take k)∧(flat cCl L).drop (k*5)=flat cCl (L.drop k):=by
 have h1:flat cCl L=flat cCl (L.take k)++flat cCl (L.drop k):=by rw [←Qt,VG]
 have h2:(flat cCl (L.take k)).length=k*5:=by rw [F4,Vm,VZ hk]
 rw [h1]
 exact ⟨by rw [←h2,Xk],by rw [←h2,Xo]⟩
section
variable {p g:Nat} {l:List Cl} {H:Aa} {r:List Ab}
theorem TT {L:List Cl} {k:Nat} (h:RwT H p g L r) (hk:k≤L.length) :
  ∃G r',Kx 5 (some zCl) (.ms p g (k*5) (L.length-k) (L.length-k) 5 false) H=some G∧RwT G p g (L.take k) r'∧(∀i,i≠p→G[i]? = H[i]?)∧G.length=H.length:=by
 unfold Kx
 by_cases h0:L.length-k=0
 ·have:L.take k=L:=Vg (by omega)
  simp only [h0,if_true]
  exact ⟨H,r,rfl,by rw [this];exact h,fun _ _=>rfl,rfl⟩
 ·have hpl:p<H.length:=(UV.1 h).1
  have hget:A8 H p g=some (flat cCl L++r):=by
   unfold RwT at h;simp [A8,h]
  have hac:(Ab.agg (L3 (L.length-k) zCl)).acells=some (L3 (L.length-k) zCl):=by
   show (if (L3 (L.length-k) zCl).all Ab.isScal=true then _ else _)=_
   rw [if_pos (repl_scal _)]
  have hfl:(flat cCl L).length=L.length*5:=F4 L
  have hset:∀cs,Fv H p g cs=H.set p (.buf g cs A6 5):=fun cs=>by
   unfold RwT at h;unfold Fv;rw [h]
  simp only [h0,if_false,Option.bind_some,if_true,Ag,hget,hac,repl_len,Vc,hfl]
  rw [if_pos ⟨trivial,by omega⟩,hset]
  refine ⟨_,(L3 (L.length-k) zCl)++r,rfl,?_,fun i hi=>?_,by rw [VA]⟩
  ·unfold RwT
   rw [Vj hpl]
   have e1:Dp (flat cCl L++r) (k*5) ((L.length-k)*5) (L3 (L.length-k) zCl)=flat cCl (L.take k)++(L3 (L.length-k) zCl++r):=by
    unfold Dp
    rw [W5 (by omega),(flat_split hk).1,show k*5+(L.length-k)*5=(flat cCl L).length by omega,Xo,Vb]
   rw [e1]
  ·rw [UX (Ne.symm hi)]
theorem compact_l2 {f:Ab} {k0:Nat} {H0:Aa} (hf:∀c∈l,∀d∈l,∀H,D3 AL f [.agg (cCl c),.agg (cCl d)] H=some (.ret (.bool (B2 ltC c d)),H))
  (h:CO H p g l) (h1:1≤k0) (h2:k0<l.length) (h3:cpL ltC (l.take k0)=l.take k0) (h4:B2 ltC l[k0] (l[k0-1]'(by omega))=true) (hl:l.length<1000000000) :
  ∃G r,Ao (fun rec2 vs H1=>Sh.f1o H0 rec2 (ag vs 0) (ag vs 1) (ag vs 2) (ag vs 3) (ag vs 4) H1) AQ [dV p g l.length,f,.int .i64 (k0:Int),.ms p g (k0*5) (l.length-k0) (l.length-k0) 5 false,.int .i64 1] H =
   some (.ret (.ms p g 0 (cpL ltC l).length l.length 5 false),G)∧RwT G p g (cpL ltC l) r∧(∀i,i≠p→G[i]? = H[i]?)∧G.length=H.length:=by
 have hsnoc:∀m (hm1:1≤m) (hm:m<l.length),cpL ltC (l.take (m+1))=if B2 ltC l[m] (l[m-1]'(by omega))then cpL ltC (l.take m)else cpL ltC (l.take m)++[l[m]]:=fun m hm1 hm=>by
  obtain ⟨j,rfl⟩:∃j,m=j+1:=⟨m-1,by omega⟩
  have:=cpL_snoc ltC l[j+1] (l.take j) (l[j]'(by omega))
  rw [←Vf (by omega:j<l.length),←Vf hm]at this
  exact this
 have key:=Ed (G:=fun rec2 vs H1=>Sh.f1o H0 rec2 (ag vs 0) (ag vs 1) (ag vs 2) (ag vs 3) (ag vs 4) H1) (σ:=Nat×List Cl)
  (fun s vs H1=>(k0+1≤s.1∧s.1≤l.length∧s.2.length=l.length∧(cpL ltC (l.take s.1)).length≤s.1-1∧s.2.take (cpL ltC (l.take s.1)).length=cpL ltC (l.take s.1)∧s.2.drop (s.1-1)=l.drop (s.1-1)) ∧
   vs=[dV p g l.length,f,.int .i64 ((cpL ltC (l.take s.1)).length:Int),.ms p g (k0*5) (l.length-k0) (l.length-k0) 5 false,.int .i64 ((s.1-k0:Nat):Int)]∧H1=BF H p g s.2) (fun s=>l.length-s.1) (fun s=>¬s.1<l.length) (fun s vs H1 hI hd=>?_)
  (s:=(k0+1,l)) (vs:=[dV p g l.length,f,.int .i64 (k0:Int),.ms p g (k0*5) (l.length-k0) (l.length-k0) 5 false,.int .i64 1]) (H:=H)
  (by
   have e1:cpL ltC (l.take (k0+1))=l.take k0:=by rw [hsnoc k0 h1 h2,h4,if_pos rfl,h3]
   have e2:(l.take k0).length=k0:=by rw [Vm];omega
   dsimp only
   rw [e1,e2]
   exact ⟨⟨Va _,h2,rfl,by omega,rfl,by rw [Vp]⟩,by rw [Nat.add_sub_cancel_left];rfl,(C6 h).symm⟩) (by dsimp only;omega)
 ·obtain ⟨⟨m,L⟩,vs,H1,hd,⟨⟨i1,i2,i3,i4,i5,i6⟩,rfl,rfl⟩,rec,hloop⟩:=key
  dsimp only at i1 i2 i3 i4 i5 i6 hd hloop
  have em:m=l.length:=by omega
  subst em
  rw [Vg (Va _)]at i4 i5 hloop
  have hr:RwT (BF H p g L) p g L []:=(CT h).t
  obtain ⟨G,r,g1,g2,g3,g4⟩:=TT (k:=(cpL ltC l).length) hr (by omega)
  rw [i3]at g1
  rw [i5]at g2
  have d1:decide (((l.length-k0:Nat):Int)<((l.length-k0:Nat):Int))=false:=decide_eq_false (by omega)
  have hln:A5 (.ms p g (k0*5) (l.length-k0) (l.length-k0) 5 false)=some (.int .i64 ((l.length-k0:Nat):Int)):=rfl
  have s1:Bv 5 (dV p g l.length) (some (.int .i64 ((cpL ltC l).length:Int))) none none=some (.ms p g ((cpL ltC l).length*5) (l.length-(cpL ltC l).length) (l.length-(cpL ltC l).length) 5 false):=by
   have:(cpL ltC l).length≤l.length:=by omega
   simp [Bv,Bq,this]
  have s2:Bv 5 (dV p g l.length) none (some (.int .i64 ((cpL ltC l).length:Int))) none=some (.ms p g 0 (cpL ltC l).length l.length 5 false):=by
   have:(cpL ltC l).length≤l.length:=by omega
   simp [Bv,Bq,this]
  refine ⟨G,r,?_,g2,fun i hi=>?_,?_⟩
  ·rw [hloop]
   unfold Sh.f1o
   simp only [Ak,Ai,Bc,Bg,Bw,BG,GMb,GMc,hln,d1,s1,s2]
   rw [show [Ab.bool false,.sl [] .tight,.bool false,.sl [] .tight,.int .u8 0]=zCl from rfl,g1]
   simp only [GMb,GMc,AV,DY,forget,Eh,fgt]
  ·rw [g3 i hi]
   unfold BF
   rw [UX (Ne.symm hi)]
  ·rw [g4];unfold BF;rw [VA]
 ·obtain ⟨m,L⟩:=s
  obtain ⟨⟨i1,i2,i3,i4,i5,i6⟩,rfl,rfl⟩:=hI
  dsimp only at i1 i2 i3 i4 i5 i6 hd ⊢
  have hm:m<l.length:=by omega
  have hr:CO (BF H p g L) p g L:=CT h
  have hLm:m<L.length:=by omega
  have hLm1:m-1<L.length:=by omega
  have e1:L[m]=l[m]:=by
   have:=congrArg (fun x=>x[1]?) i6
   simp only [VB]at this
   rw [show m-1+1=m by omega,UU hLm,UU hm]at this
   exact WG this
  have e2:L[m-1]=l[m-1]:=by
   have:=congrArg (fun x=>x[0]?) i6
   simp only [VB,Nat.add_zero]at this
   rw [UU hLm1,UU (by omega)]at this
   exact WG this
  have hln:A5 (.ms p g (k0*5) (l.length-k0) (l.length-k0) 5 false)=some (.int .i64 ((l.length-k0:Nat):Int)):=rfl
  have d1:decide (((m-k0:Nat):Int)<((l.length-k0:Nat):Int))=true:=decide_eq_true (by omega)
  have hw1:IntKind.i64.wrap (((m-k0:Nat):Int)-1)=((m-k0-1:Nat):Int):=by rw [An] <;> omega
  have hw2:IntKind.i64.wrap (((m-k0:Nat):Int)+1)=((m+1-k0:Nat):Int):=by rw [An] <;> omega
  have x1:At 5 (.ms p g (k0*5) (l.length-k0) (l.length-k0) 5 false) (.int .i64 ((m-k0:Nat):Int))=some (.ptr p g (m*5)):=by
   rw [CB (by omega),←VM,show k0+(m-k0)=m by omega]
  have x2:At 5 (.ms p g (k0*5) (l.length-k0) (l.length-k0) 5 false) (.int .i64 ((m-k0-1:Nat):Int))=some (.ptr p g ((m-1)*5)):=by
   rw [CB (by omega),←VM,show k0+(m-k0-1)=m-1 by omega]
  have c1:=hf l[m] (Vi hm) (l[m-1]'(by omega)) (Vi _)
  have hsn:=hsnoc m (by omega) hm
  have l1:=Cv hr hLm
  have l2:=Cv hr hLm1
  rw [e1]at l1
  rw [e2]at l2
  cases he:B2 ltC l[m] (l[m-1]'(by omega))with
  | true=>
   rw [he,if_pos rfl]at hsn
   refine ⟨(m+1,L),_,_,by dsimp only;omega,⟨⟨by dsimp only;omega,by dsimp only;omega,i3,by dsimp only;rw [hsn];omega,by dsimp only;rw [hsn];exact i5,by
    dsimp only
    rw [Vp]
    have:=congrArg (List.drop 1) i6
    rw [Wf,Wf,show m-1+1=m by omega]at this
    exact this⟩,rfl,rfl⟩,fun rec=>?_⟩
   rw [he]at c1
   unfold Sh.f1o Sh.f6u
   simp only [Ak,Ai,Bc,Bg,Bw,BG,GMb,GMc,hln,d1,hw1,x1,x2,l1,l2,BR,c1,By,hw2,hsn]
  | false=>
   rw [he]at hsn
   simp only [Vd,if_false]at hsn
   have hk:(cpL ltC (l.take m)).length<L.length:=by omega
   have hwk:=Aw (show (cpL ltC (l.take m)).length<9223372036854775807 by omega)
   have hst:=row_st hr hk l[m]
   rw [Bx]at hst
   refine ⟨(m+1,L.set (cpL ltC (l.take m)).length l[m]),_,_,by dsimp only;omega,⟨⟨by dsimp only;omega,by dsimp only;omega,by dsimp only;rw [VA];exact i3,by dsimp only;rw [hsn];simp;omega,by
     dsimp only
     rw [hsn,Vc,List.length_singleton,Vf (by rw [VA];omega),XQ,List.take_set_of_le (Va _),i5],by
     dsimp only
     rw [Vp,List.drop_set_of_lt (by omega)]
     have:=congrArg (List.drop 1) i6
     rw [Wf,Wf,show m-1+1=m by omega]at this
     exact this⟩,rfl,rfl⟩,fun rec=>?_⟩
   rw [he]at c1
   unfold Sh.f1o Sh.f6u
   simp only [Ak,Ai,Bc,Bg,Bw,BG,GMb,GMc,hln,d1,hw1,x1,x2,l1,l2,BR,c1,By,BQ (show (cpL ltC (l.take m)).length<l.length by omega),hst,AV,hwk,hw2,hsn,Vc,List.length_singleton]

end
end Go.Gm
