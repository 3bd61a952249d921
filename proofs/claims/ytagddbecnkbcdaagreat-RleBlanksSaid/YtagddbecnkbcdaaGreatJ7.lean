/- Texts of this proof, joined. -/
import Derived.Test.YtagddbecnkbcdaaGreatJ4
import Derived.Test.YtagddbecnkbcdaaGreatJ5
import Derived.Test.YtagddbecnkbcdaaGreatJ6
set_option linter.all false
namespace Go.Gm
def hv (e:Int×zAa):Ab:=SH e.1 e.2
def Pw (er:Er)(v:Ab):Res:=match er with
 |none=>.ret v
 |some e=>.pan (hv e)
@[simp] theorem By (v:Ab):Pw none v=.ret v:=(rfl)
@[simp] theorem B8 (e:Int×zAa)(v:Ab):Pw (some e) v=.pan (hv e):=(rfl)
theorem Jw (b:zAa)(a:Nat)(s:zAa):Q0 b a s=hv (Ly b a s):=by unfold Q0 hv Ly;split <;> rfl
section
variable {H:Aa}{p a:Nat}{b:zAa}{r:List Ab}
theorem It (h:Lx H p b a r)(s:zAa):Ubn (.ptr p 0 0) (.str s) H=some (.pan (hv (Ly b a s)),H):=by rw[MP h,<-Jw];rfl
theorem VfB (h:Lx H p b a r)(ha:a<=b.length)(hb:b.length<1152921504606846976)(rest:zAa)(hr:rest.length<=1000000) :
  Uaq (.ptr p 0 0) (.str rest) H=some (Pw (Ks b a rest).1 (.tup []),BO H p b r (Ks b a rest).2):=by
 rw[VnM h ha hb rest hr];unfold Vp2 Ks Vja;by_cases e:a=b.length
 ·have hs:=DS h;rw[e]at hs;simp only[e,if_true,By,hs]
 ·simp only[if_neg e];cases hs:AV b (crN b a) [10]with
  |true=>simp only[if_true,By]
  |false=>simp only[Vq,if_false,B8,Jw]
theorem LN (h:Lx H p b a r)(ha:a<=b.length)(hb:b.length<1152921504606846976)(s rest:zAa)(hs:s.length<=1000000)(hr:rest.length<=1000000) :
  Ue5 (.ptr p 0 0) (.str s) (.str rest) H=some (Pw (DZ b a s rest).1 (.tup []),BO H p b r (DZ b a s rest).2):=by
 rw[Vl2 h ha hb s rest hs hr];unfold Vls DZ VmJ;by_cases e:cpN (b.drop a) s<s.length
 ·simp only[if_pos e,B8,Jw]
 ·simp only[if_neg e,By]
theorem Vi0 (h:Lx H p b a r)(ha:a<=b.length)(hb:b.length<1152921504606846976)(rest:zAa)(hr:rest.length<=1000000) :
  UaJ (.ptr p 0 0) (.str rest) H=some (Pw (Pv b a rest).1 (.str ((b.take (Pv b a rest).2).drop a)),BO H p b r (Pv b a rest).2):=by
 rw[Vl1 h ha hb rest hr];unfold VeG Pv;by_cases e:Hn b a 40 a=a
 ·simp only[e,if_true,B8,Jw]
 ·simp only[if_neg e,By]
theorem Vf4 (b:zAa)(f:Nat)(rest:zAa):∀n a,NE b f rest n a=((LJ b f rest n a).1.map hv,(LJ b f rest n a).2)
 |0,a=>rfl
 |n+1,a=>by
  rw[NE,LJ];split
  ·split
   ·rw[Jw];rfl
   ·split
    ·rfl
    ·exact Vf4 b f rest n (a+1)
  ·split
   ·rw[Jw];rfl
   ·rfl
theorem Vi1 (h:Lx H p b a r):p<H.length:=by
 rcases VT p H.length with h' | h'
 ·exact h'
 ·unfold Lx at h;rw[zYb h']at h;cases h
theorem Up {G:Aa}{e:Nat}(h:p<H.length):BO (H++G) p b r e=BO H p b r e++G:=by unfold BO;rw[List.set_append_left _ _ h]
theorem VdE (h:Lx H p b a r){f e:Nat}(nQ:f<=e)(he:e<=b.length)(hb:b.length<1152921504606846976)(zb:List Ab)(hz:zb.length=2) :
  ∃G,UaI H (.ptr p 0 0) (.ptr H.length 0 0) (.i6 (f:Int)) (BO H p b r e++[.cel 0 zb])=some (.ret (big (Dl ((b.take e).drop f))),BO H p b r e++G):=by
 have hx:=Gj (a':=e) h;have hl:=VbT H p e b r;have vA:∀G,Ad false 1 (.ptr p 0 0) (BO H p b r e++G)=some (.str b):=λG=>P7 (Lx.push hx);have nL:∀G,Ad false 1 (.ptr p 0 1) (BO H p b r e++G)=some (.i6 (e:Int)):=λG=>Fh (Lx.push hx);unfold UaI;rw[<-hl];generalize BO H p b r e=K at *;have hq:=λH=>VkP ((b.take e).drop f) H (by simp only[V9,V5];omega);obtain⟨sg,es,rR⟩:∃sg es,big (Dl ((b.take e).drop f))=.agg [.bool sg,.sl es .no]:=⟨_,_,Qs _⟩;rw[rR]at hq ⊢;refine⟨[.cel 0 [.bool sg,.sl es .no],.cel 0 [.bool sg,.sl es .no]],?_⟩;simp only[GMw,HPw,Nat.reduceAdd,Nat.reduceLT,vA,nL,Uj nQ he,hq,hz]
 rfl

end
theorem Vf1 (b:zAa)(f:Nat)(rest:zAa):∀n a,a<=b.length->a<=(LJ b f rest n a).2/\(LJ b f rest n a).2<=b.length:=λn a h=>by have:=Vf3 b f rest n a h;rw[Vf4]at this;exact this
theorem VlC {b:zAa}{a:Nat}(ha:a<=b.length)(neg:Bool):a<=PC b a neg/\PC b a neg<=b.length:=by
 unfold PC;cases neg with
 |false=>exact⟨Vo _,ha⟩
 |true=>
  cases hs:AV b a [45]with
  |true=>have:=Cx hs;simp;omega
  |false=>simpa using ha
theorem Hk {b:zAa}{a:Nat}(ha:a<=b.length)(neg:Bool)(rest:zAa):a<=(Ft b a neg rest).2/\(Ft b a neg rest).2<=b.length:=by
 unfold Ft;have h1:=VlC ha neg;have h2:=Vf1 b (PC b a neg) rest 402 (PC b a neg) h1.2;split
 ·rename_i h;simp only[Vx]at h;have:=Cx h.2;exact⟨Nat.le_succ _,by omega⟩
 ·omega
section
variable {H:Aa}{p a:Nat}{b:zAa}{r:List Ab}
theorem U9 (h:Lx H p b a r){f:Nat}(Zu:a<=f)(hf:f<=b.length)(hb:b.length<1152921504606846976)(rest:zAa)(hr:rest.length<=1000000)(zb:List Ab)(hz:zb.length=2) :
  ∃G,UbH H (.ptr p 0 0) (.str rest) (.ptr H.length 0 0) (.i6 (a:Int)) (BO H p b r f++[.cel 0 zb])=some (Pw (LJ b f rest 402 f).1 (big (Dl ((b.take (LJ b f rest 402 f).2).drop a))),BO H p b r (LJ b f rest 402 f).2++G):=by
 have hp:=Vi1 h;have hx:Lx (BO H p b r f++[.cel 0 zb]) p b f r:=Lx.push (Gj h);have key:=VaW (H0:=H) hx hf hb rest hr (.ptr H.length 0 0) (.i6 (a:Int));have hle:=Vf1 b f rest 402 f hf;unfold UbH;simp only[GMw,HPw,Nat.reduceAdd,Nat.reduceLT,Fh hx];rw[key,Vf4];generalize LJ b f rest 402 f=R at *;obtain⟨er,e⟩:=R;have xA:∀G:Aa,BO (BO H p b r f++G) p b r e=BO H p b r e++G:=λG=>by rw[Up (by rw[VbT];exact hp),Uo]
 cases er with
 |some v=>refine⟨[.cel 0 zb],?_⟩;show some (Res.pan (hv v),BO _ p b r e)=_;rw[xA];rfl
 |none=>obtain⟨G,hG⟩:=VdE h (f:=a) (e:=e) (by dsimp only at hle;omega) hle.2 hb zb hz;refine⟨G,?_⟩;show UaI H (.ptr p 0 0) (.ptr H.length 0 0) (.i6 (a:Int)) (BO _ p b r e)=_;rw[xA,hG];rfl
theorem MR (h:Lx H p b a r)(ha:a<=b.length)(hb:b.length<1152921504606846976)(neg:Bool)(rest:zAa)(hr:rest.length<=1000000) :
  ∃G,Uae (.ptr p 0 0) (.bool neg) (.str rest) H=some (Pw (Ft b a neg rest).1 (big (Dl ((b.take (Ft b a neg rest).2).drop a))),BO H p b r (Ft b a neg rest).2++G):=by
 have hx:Lx (H++[.cel 0 [.bool false,.sl [] .ti]]) p b a r:=Lx.push h;have zD:=DS h;unfold Uae;have plain:PC b a neg=a->Ft b a neg rest=LJ b a rest 402 a->∃G,UbH H (.ptr p 0 0) (.str rest) (.ptr H.length 0 0) (.i6 (a:Int)) (H++[.cel 0 [.bool false,.sl [] .ti]])=some (Pw (Ft b a neg rest).1 (big (Dl ((b.take (Ft b a neg rest).2).drop a))),BO H p b r (Ft b a neg rest).2++G):=by intro e1 e2;have:=U9 h (Vo a) ha hb rest hr [.bool false,.sl [] .ti] rfl;rw[zD]at this;rw[e2];exact this
 cases neg with
 |false=>simp only[GMw,HPw,Nat.reduceAdd,Nat.reduceLT,Fh hx];exact plain rfl rfl
 |true=>
  simp only[GMw,HPw,Nat.reduceAdd,Nat.reduceLT,Fh hx,CM hx ha];cases hs:AV b a [45]with
  |false=>simp only[GMw,HPw,Nat.reduceAdd,Nat.reduceLT];exact plain (by simp[PC,hs]) (by simp[Ft,PC,hs])
  |true=>
   have hlt:=Cx hs;have hm:=Kd (a':=a) hx (a+1);rw[DS hx]at hm;have hx1:=Gj (a':=a+1) hx;have wZ:=Up (b:=b) (r:=r) (G:=[.cel 0 [.bool false,.sl [] .ti]]) (e:=a+1) (Vi1 h);simp only[GMw,HPw,Nat.reduceAdd,Nat.reduceLT,Fh hx,Av (show a<9223372036854775807 by omega),hm,CM hx1 (show a+1<=b.length by omega)];have e1:PC b a true=a+1:=by simp[PC,hs]
   cases h0:AV b (a+1) [48]with
   |true=>
    have e2:Ft b a true rest=(some (Ly b (a+1) []),a+1):=by simp[Ft,hs,h0]
    rw[e2];refine⟨[.cel 0 [.bool false,.sl [] .ti]],?_⟩;simp only[GMw,HPw,Nat.reduceAdd,Nat.reduceLT,It hx1];rw[wZ];rfl
   |false=>
    have e2:Ft b a true rest=LJ b (a+1) rest 402 (a+1):=by simp[Ft,hs,h0,e1]
    rw[e2];have:=U9 h (f:=a+1) (by omega) hlt hb rest hr [.bool false,.sl [] .ti] rfl;simp only[GMw,HPw,Nat.reduceAdd,Nat.reduceLT];rw[wZ];exact this

end
section
variable {H:Aa}{b:zAa}{a:Nat}
theorem Ext.push (b id:Nat)(hb:b<=H.length)(G:Aa):Ext b id H (H++G):=
 ⟨by simp,λi c hi hc=>AK hc,λi hi=>Vp (by omega)⟩
theorem E5 {s rest:zAa}(ha:a<=b.length):(DZ b a s rest).2<=b.length:=Vl3 ha s
theorem VeH {rest:zAa}(ha:a<=b.length):a<=(Pv b a rest).2/\(Pv b a rest).2<=b.length:=VbW 40 a ha
theorem VbD (ha:a<=b.length):M6 b a<=b.length:=by unfold M6;have:=(WR (l:=b.drop a) λc=>!([13,10]:zAa).contains c).length_le;rw[V9]at this;omega

end
theorem Vbp {b:zAa}{a:Nat}(ha:a<=b.length)(rest:zAa):a<=(Ks b a rest).2/\(Ks b a rest).2<=b.length:=by
 refine⟨?_,VlS ha⟩;show a<=Vja b a;unfold Vja crN;split
 ·exact Vo _
 ·split <;> split <;> omega
theorem MN {r:Nat}(h:r<10):(UInt8.ofNat (48+r)).toNat=48+r:=Xf (show 48+r<256 by omega)
theorem VgA (n:Nat):HW (Di n)=n:=by
 induction n using Nat.strongRecOn with
 |ind n ih=>
  by_cases hn:n<10
  ·rw[IA hn];have:=Nc [] (UInt8.ofNat (48+n));rw[List.nil_append,MN hn,show HW []=0 from rfl]at this;rw[this];omega
  ·rw[Tb hn,Nc,ih (n / 10) (by omega),MN (WJ _ (by omega))];omega
theorem Vjj (n:Nat):∀c∈Di n,Iy c=true:=by
 induction n using Nat.strongRecOn with
 |ind n ih=>
  intro c hc;by_cases hn:n<10
  ·rw[IA hn,VB]at hc;rw[hc,GT,MN hn];omega
  ·rw[Tb hn]at hc;rcases VA.1 hc with h | h
   ·exact ih (n / 10) (by omega) c h
   ·have:=WJ n (show 10>0 by omega);rw[VB.1 h,GT,MN this];omega
theorem Vim {s:zAa}(h:Iq s=0):Ob s=false/\(C4 s).length<=400:=by
 unfold Iq at h;cases hs:Ob s with
 |true=>rw[hs]at h;simp at h
 |false=>
  rw[hs]at h;simp only[Vq,if_false]at h;refine⟨rfl,?_⟩;split at h
  ·cases h
  ·omega
theorem Vfq (k:Nat):Int.natAbs 0<10^k:=Xv (by omega)
theorem MM (s:zAa):(Dl s).natAbs<10^400:=by
 unfold Dl;split
 ·rename_i h;obtain⟨h1,h2⟩:=Vim h;have aF:=Ta (Va6 h1).2.1;have:=Vbt aF (C4 s).length (Vo _);rw[Wc]at this;have h3:=Wu this (Vcg h2);split
  ·rw[Int.natAbs_neg,Int.natAbs_natCast];exact h3
  ·rw[Int.natAbs_natCast];exact h3
 ·exact Vfq 400
theorem Ir {b:zAa}{a:Nat}(s rest:zAa):a<=(DZ b a s rest).2:=Nat.le_add_right a (cpN (b.drop a) s)
theorem Vml {x y:Int}{u v n:Nat}(hx:x.natAbs<10^400)(hy:y.natAbs<10^400)(hu:u<=n)(hv:v<=n)(hn:n<=1152921504606846976):Cl.ok ⟨x+u,y+v,1⟩:=by
 have h:(10:Nat)^400+1152921504606846976<4294967296^100:=by decide +kernel
 unfold Cl.ok SB;constructor <;> dsimp only <;> omega
theorem Vhg {b:zAa}{a:Nat}:a<=M6 b a:=by unfold M6;omega
structure LSt where
 law:zAa
 x:Int
 y:Int
 col:Nat
 row:Nat
 cells:List Cl
def Ck:zAa:=[120,32,61,32,48,44,32,121,32,61,32,48,44,32,114,117,108,101,32,61,32,97,10,33]
def On:zAa:=[35,67,88,82,76,69,32]
def QU:zAa:=[80,111,115,61]
def HD (b:zAa)(a:Nat)(rest:zAa):Er×Nat:=if a=b.length then (some (Ly b a (10::rest)),a)else Ks b a rest
def Of (b:zAa)(a:Nat)(st:LSt):(Er×Nat)×LSt:=
 if cpN (b.drop a) On<7 then (HD b (M6 b a) Ck,st)
 else match DZ b (a+7) QU ([48,44,48,10]++Ck)with
 |(some e,c)=>((some e,c),st)
 |(none,c)=>match Ft b c true ([44,48,10]++Ck)with
  |(some e,d)=>((some e,d),st)
  |(none,d)=>match DZ b d [44] ([48,10]++Ck)with
   |(some e,f)=>((some e,f),{ st with x:=Dl ((b.take d).drop c) })
   |(none,f)=>match Ft b f true (10::Ck)with
    |(some e,g)=>((some e,g),{ st with x:=Dl ((b.take d).drop c) })
    |(none,g)=>(HD b g Ck,{ st with x:=Dl ((b.take d).drop c),y:=Dl ((b.take g).drop f) })
def L8 (b:zAa):Nat->Nat->LSt->(Er×Nat)×LSt
 |0,a,st=>((none,a),st)
 |k+1,a,st=>if AV b a [35]then match Of b a st with
   |((some e,c),st')=>((some e,c),st')
   |((none,c),st')=>L8 b k c st'
  else ((none,a),st)
def szA:zAa:=[120,32,61,32]
def szB:zAa:=[44,32,121,32,61,32]
def szC:zAa:=[44,32,114,117,108,101,32,61,32]
def T9:zAa:=[48,44,32,121,32,61,32,48,44,32,114,117,108,101,32,61,32,97,10,33]
def Vh9:zAa:=[44,32,121,32,61,32,48,44,32,114,117,108,101,32,61,32,97,10,33]
def T8:zAa:=[48,44,32,114,117,108,101,32,61,32,97,10,33]
def Vh8:zAa:=[44,32,114,117,108,101,32,61,32,97,10,33]
def Vh0 (b:zAa)(a:Nat)(st:LSt):(Er×Nat)×LSt:=
 match DZ b a szA T9 with
 |(some e,c)=>((some e,c),st)
 |(none,c)=>match Ft b c false Vh9 with
  |(some e,d)=>((some e,d),st)
  |(none,d)=>match DZ b d szB T8 with
   |(some e,f)=>((some e,f),st)
   |(none,f)=>match Ft b f false Vh8 with
    |(some e,g)=>((some e,g),st)
    |(none,g)=>match DZ b g szC [97,10,33]with
     |(some e,h)=>((some e,h),st)
     |(none,h)=>match Pv b h [10,33]with
      |(some e,i)=>((some e,i),st)
      |(none,i)=>(HD b i [33],{ st with law:=(b.take i).drop h })
def SF (b:zAa)(a:Nat)(st:LSt):(Er×Nat)×LSt:=
 match L8 b (b.length+1) a st with
 |((some e,c),st')=>((some e,c),st')
 |((none,c),st')=>Vh0 b c st'
def IL (b:zAa)(f:Nat):Nat->Nat->Nat->Er×Nat×Nat
 |0,a,n=>(none,a,n)
 |k+1,a,n=>
  if AV b a Db then
   if decide (n=0)&&AV b a [48]then (some (Ly b a []),a,n)
   else if a-f=9 then (some (4,[]),a,n)
   else IL b f k (a+1) (10*n+Mg b a)
  else (none,a,n)
def IZ:zAa:=[65,66,67,68,69,70,71,72,73,74,75,76,77,78,79,80,81,82,83,84,85,86,87,88]
def S3:zAa:=[112,113,114,115,116,117,118,119,120,121]
def VfO:zAa:=[80,81,82,83,84,85,86,87,88]
def atV (b:zAa)(a:Nat):Nat:=(b.getD a 0).toNat
def T6 (b:zAa)(a:Nat):Er×Nat×Nat:=
 if AV b a [46,98]then (none,a,0)
 else if AV b a [111]then (none,a,1)
 else if AV b a IZ then (none,a,atV b a-65+1)
 else if AV b a S3 then
  if !AV b (a+1) IZ||(decide (b[a]? = some 121)&&AV b (a+1) VfO)then (some (Ly b (a+1) [65,33]),a+1,0)
  else (none,a+1,24*(atV b a-112)+(atV b (a+1)-65)+25)
 else (some (Ly b a [98,33]),a,0)
def Sn (st:LSt)(n s:Nat):List Cl:=(List.range n).map λi=>⟨st.x+((st.col+i:Nat):Int),st.y+(st.row:Int),UInt8.ofNat s⟩
def NB (bx:Int)(n s:Nat)(st:LSt):Er×LSt:=
 if s=0 then (none,{ st with col:=st.col+n })
 else if decide ((st.row:Int)>=bx)||decide ((st.col:Int)+n>bx)then (some (4,[]),st)
 else (none,{ st with col:=st.col+n,cells:=st.cells++Sn st n s })
def NZ (b:zAa)(bx:Int)(a:Nat)(st:LSt):((Er×Nat)×LSt)×Bool:=
 match IL b a 11 a 0 with
 |(some e,c,_)=>(((some e,c),st),false)
 |(none,c,t)=>
  if AV b c [36]then (((none,c+1),{ st with row:=st.row+max t 1,col:=0 }),false)
  else if AV b c [33]&&decide (t=0)then (((none,c),st),true)
  else match T6 b c with
   |(some e,d,_)=>(((some e,d),st),false)
   |(none,d,s)=>match NB bx (max t 1) s st with
    |(some e,st')=>(((some e,d),st'),false)
    |(none,st')=>(((none,d+1),st'),false)
def II (b:zAa)(bx:Int):Nat->Nat->LSt->(Er×Nat)×LSt
 |0,a,st=>((none,a),st)
 |k+1,a,st=>
  if a=b.length then ((some (Ly b a [33]),a),st)
  else if AV b a [32]then II b bx k (a+1) st
  else if AV b a [13,10]then match Ks b a [33]with
   |(some e,c)=>((some e,c),st)
   |(none,c)=>II b bx k c st
  else match NZ b bx a st with
   |(s,true)=>s
   |(((some e,c),st'),false)=>((some e,c),st')
   |(((none,c),st'),false)=>II b bx k c st'
def NR (b:zAa)(bx:Int)(st:LSt):(Er×Nat)×LSt:=
 match SF b 0 st with
 |((some e,c),st')=>((some e,c),st')
 |((none,c),st')=>II b bx (b.length+1) c st'
def Oy:LSt:=⟨[],0,0,0,0,[]⟩
def HJ (b:zAa)(bx N:Int):(zAa×List Nd)×Int×Int:=
 if J9 bx N then
  match NR b bx Oy with
  |((some e,c),_)=>(([],[]),(c:Int),e.1)
  |((none,_),st)=>
   if decide ((HA st.cells).2=0)&&decide (((HA st.cells).1.length:Int)<=N)then ((st.law,(HA st.cells).1),0,0)
   else (([],[]),(b.length:Int),4)
 else (([],[]),0,1)
def UN (b:zAa):zAa×Bool:=match (NR b 1000 Oy).1.1 with
 |none=>([],true)
 |some e=>(e.2,decide (e.1=0)||decide (e.1=3))
structure LOk (n:Nat)(st:LSt):Prop where
 x:st.x.natAbs<10^400
 y:st.y.natAbs<10^400
 c:st.col<=1000000000*n
 r:st.row<=1000000000*n
 k:st.cells.length<=1000*n
 ok:∀c∈st.cells,c.ok
theorem LOk.mono {n m:Nat}{st:LSt}(h:LOk n st)(hm:n<=m):LOk m st:=⟨h.x,h.y,VM h.c (Ww _ hm),VM h.r (Ww _ hm),VM h.k (Ww _ hm),h.ok⟩
theorem Vbw {b:zAa}{a:Nat}(ha:a<=b.length)(rest:zAa):a<=(HD b a rest).2/\(HD b a rest).2<=b.length:=by
 unfold HD;split
 ·exact⟨Vo _,ha⟩
 ·exact Vbp ha rest
theorem Vbx (b:zAa)(a:Nat)(rest:zAa):JL (HD b a rest).1:=by
 unfold HD;split
 ·exact .stp _ _ _
 ·exact Vg3 _ _ _
structure Vj4 (b:zAa)(a:Nat)(st:LSt)(s:(Er×Nat)×LSt):Prop where
 le:s.1.2<=b.length
 ge:a<=s.1.2
 er:JL s.1.1
 ok:∀n,LOk n st->LOk n s.2
theorem VeQ {b:zAa}{a:Nat}(ha:a<=b.length)(st:LSt):Vj4 b a st (Of b a st):=by
 unfold Of;split
 ·have h1:=VbD ha;have h2:=Vhg (b:=b) (a:=a);have h3:=Vbw h1 Ck;exact⟨h3.2,by dsimp only;omega,Vbx _ _ _,λn h=>h⟩
 ·rename_i hc;have hle:=Kv (b.drop a) On;have h0:a+7<=b.length:=by rw[V9]at hle;omega
  have h1:=E5 (s:=QU) (rest:=[48,44,48,10]++Ck) h0;have h2:=Ir (b:=b) (a:=a+7) QU ([48,44,48,10]++Ck);have hE:=LM b (a+7) QU ([48,44,48,10]++Ck);generalize DZ b (a+7) QU ([48,44,48,10]++Ck)=M at h1 h2 hE;obtain⟨er,c⟩:=M;dsimp only at h1 h2 hE;cases er with
  |some e=>exact⟨h1,by dsimp only;omega,hE,λn h=>h⟩
  |none=>
   have h3:=Hk h1 true ([44,48,10]++Ck);have hE:=Rt b c true ([44,48,10]++Ck);dsimp only;generalize Ft b c true ([44,48,10]++Ck)=M at h3 hE;obtain⟨er,d⟩:=M;dsimp only at h3 hE;cases er with
   |some e=>exact⟨h3.2,by dsimp only;omega,hE,λn h=>h⟩
   |none=>
    have h4:=E5 (s:=[44]) (rest:=[48,10]++Ck) h3.2;have h5:=Ir (b:=b) (a:=d) [44] ([48,10]++Ck);have hE:=LM b d [44] ([48,10]++Ck);dsimp only;generalize DZ b d [44] ([48,10]++Ck)=M at h4 h5 hE;obtain⟨er,f⟩:=M;dsimp only at h4 h5 hE;cases er with
    |some e=>exact⟨h4,by dsimp only;omega,hE,λn h=>⟨MM _,h.y,h.c,h.r,h.k,h.ok⟩⟩
    |none=>
     have h6:=Hk h4 true (10::Ck);have hE:=Rt b f true (10::Ck);dsimp only;generalize Ft b f true (10::Ck)=M at h6 hE;obtain⟨er,g⟩:=M;dsimp only at h6 hE;cases er with
     |some e=>exact⟨h6.2,by dsimp only;omega,hE,λn h=>⟨MM _,h.y,h.c,h.r,h.k,h.ok⟩⟩
     |none=>have h7:=Vbw h6.2 Ck;exact⟨h7.2,by dsimp only;omega,Vbx _ _ _,λn h=>⟨MM _,MM _,h.c,h.r,h.k,h.ok⟩⟩
theorem Vbv {b:zAa}{a:Nat}(ha:a<=b.length)(rest:zAa)(h:(HD b a rest).1=none):a<(HD b a rest).2:=by
 unfold HD at h ⊢;by_cases he:a=b.length
 ·rw[if_pos he]at h;cases h
 ·rw[if_neg he]at h ⊢;unfold Ks at h ⊢;simp only[if_neg he]at h;split at h
  ·rename_i hs;unfold Vja;rw[if_neg he,if_pos hs];have:a<=crN b a:=by unfold crN;split <;> omega
   dsimp only;rw[if_neg he,if_pos hs];omega
  ·cases h
theorem VkH {b:zAa}{a:Nat}(ha:a<=b.length)(st:LSt)(h:(Of b a st).1.1=none):a<(Of b a st).1.2:=by
 unfold Of at h ⊢;split at h
 ·rename_i hc;rw[if_pos hc];have h1:=VbD ha;have h2:=Vhg (b:=b) (a:=a);have:=Vbv h1 Ck h;dsimp only;omega
 ·rename_i hc;rw[if_neg hc];have hle:=Kv (b.drop a) On;have h0:a+7<=b.length:=by rw[V9]at hle;omega
  have h1:=E5 (s:=QU) (rest:=[48,44,48,10]++Ck) h0;have h2:=Ir (b:=b) (a:=a+7) QU ([48,44,48,10]++Ck);generalize DZ b (a+7) QU ([48,44,48,10]++Ck)=M at h h1 h2;obtain⟨er,c⟩:=M;dsimp only at h h1 h2 ⊢;cases er with
  |some e=>cases h
  |none=>
   have h3:=Hk h1 true ([44,48,10]++Ck);dsimp only at h ⊢;generalize Ft b c true ([44,48,10]++Ck)=M at h h3;obtain⟨er,d⟩:=M;dsimp only at h h3 ⊢;cases er with
   |some e=>cases h
   |none=>
    have h4:=E5 (s:=[44]) (rest:=[48,10]++Ck) h3.2;have h5:=Ir (b:=b) (a:=d) [44] ([48,10]++Ck);dsimp only at h ⊢;generalize DZ b d [44] ([48,10]++Ck)=M at h h4 h5;obtain⟨er,f⟩:=M;dsimp only at h h4 h5 ⊢;cases er with
    |some e=>cases h
    |none=>
     have h6:=Hk h4 true (10::Ck);dsimp only at h ⊢;generalize Ft b f true (10::Ck)=M at h h6;obtain⟨er,g⟩:=M;dsimp only at h h6 ⊢;cases er with
     |some e=>cases h
     |none=>have:=Vbv h6.2 Ck h;dsimp only;omega
theorem VbY {b:zAa}:∀(k a:Nat) (st:LSt),a<=b.length->Vj4 b a st (L8 b k a st)
 |0,a,st,ha=>⟨ha,Vo _,.none,λn h=>h⟩
 |k+1,a,st,ha=>by
  unfold L8;split
  ·have h:=VeQ ha st;generalize Of b a st=M at h;obtain⟨⟨er,c⟩,st'⟩:=M;obtain⟨h1,h2,h3,h4⟩:=h;cases er with
   |some e=>exact⟨h1,h2,h3,h4⟩
   |none=>have ih:=VbY k c st' h1;exact⟨ih.le,VM h2 ih.ge,ih.er,λn h=>ih.ok n (h4 n h)⟩
  ·exact⟨ha,Vo _,.none,λn h=>h⟩
theorem Vk4 {b:zAa}{a:Nat}(ha:a<=b.length)(st:LSt):Vj4 b a st (Vh0 b a st):=by
 unfold Vh0;have h1:=E5 (s:=szA) (rest:=T9) ha;have h2:=Ir (b:=b) (a:=a) szA T9;have hE:=LM b a szA T9;generalize DZ b a szA T9=M at h1 h2 hE;obtain⟨er,c⟩:=M;dsimp only at h1 h2 hE;cases er with
 |some e=>exact⟨h1,h2,hE,λn h=>h⟩
 |none=>
  have h3:=Hk h1 false Vh9;have hE:=Rt b c false Vh9;dsimp only;generalize Ft b c false Vh9=M at h3 hE;obtain⟨er,d⟩:=M;dsimp only at h3 hE;cases er with
  |some e=>exact⟨h3.2,by dsimp only;omega,hE,λn h=>h⟩
  |none=>
   have h4:=E5 (s:=szB) (rest:=T8) h3.2;have h5:=Ir (b:=b) (a:=d) szB T8;have hE:=LM b d szB T8;dsimp only;generalize DZ b d szB T8=M at h4 h5 hE;obtain⟨er,f⟩:=M;dsimp only at h4 h5 hE;cases er with
   |some e=>exact⟨h4,by dsimp only;omega,hE,λn h=>h⟩
   |none=>
    have h6:=Hk h4 false Vh8;have hE:=Rt b f false Vh8;dsimp only;generalize Ft b f false Vh8=M at h6 hE;obtain⟨er,g⟩:=M;dsimp only at h6 hE;cases er with
    |some e=>exact⟨h6.2,by dsimp only;omega,hE,λn h=>h⟩
    |none=>
     have h7:=E5 (s:=szC) (rest:=[97,10,33]) h6.2;have h8:=Ir (b:=b) (a:=g) szC [97,10,33];have hE:=LM b g szC [97,10,33];dsimp only;generalize DZ b g szC [97,10,33]=M at h7 h8 hE;obtain⟨er,h⟩:=M;dsimp only at h7 h8 hE;cases er with
     |some e=>exact⟨h7,by dsimp only;omega,hE,λn h=>h⟩
     |none=>
      have h9:=VeH (rest:=[10,33]) h7;have hE:=VkB b h [10,33];dsimp only;generalize Pv b h [10,33]=M at h9 hE;obtain⟨er,i⟩:=M;dsimp only at h9 hE;cases er with
      |some e=>exact⟨h9.2,by dsimp only;omega,hE,λn h=>h⟩
      |none=>have hz:=Vbw h9.2 [33];exact⟨hz.2,by dsimp only;omega,Vbx _ _ _,λn h=>⟨h.x,h.y,h.c,h.r,h.k,h.ok⟩⟩
theorem Vga {b:zAa}{a:Nat}(ha:a<=b.length)(st:LSt):Vj4 b a st (SF b a st):=by
 unfold SF;have h:=VbY (b.length+1) a st ha;generalize L8 b (b.length+1) a st=M at h;obtain⟨⟨er,c⟩,st'⟩:=M;obtain⟨h1,h2,h3,h4⟩:=h;cases er with
 |some e=>exact⟨h1,h2,h3,h4⟩
 |none=>have hs:=Vk4 h1 st';exact⟨hs.le,VM h2 hs.ge,hs.er,λn h=>hs.ok n (h4 n h)⟩
theorem Vkk {b:zAa}{a:Nat}(h:AV b a Db=true):Mg b a<=9:=by
 have hl:=Cx h;unfold AV at h;unfold Mg;rw[Vl hl]at h;rw[Vm,Vl hl];have:b[a]∈Db:=by simpa using h
 have key:∀x∈Db,x.toNat-48<=9:=by decide
 exact key _ this
structure VpV (b:zAa)(a:Nat)(s:Er×Nat×Nat):Prop where
 le:s.2.1<=b.length
 ge:a<=s.2.1
 n:s.2.2<=999999999
 er:JL s.1
theorem VgJ {b:zAa}{f:Nat}:∀(k a n:Nat),a<=b.length->f<=a->a<=f+9->n<10^(a-f)->VpV b a (IL b f k a n)
 |0,a,n,h1,h2,h3,h4=>⟨h1,Vo _,by have:=VO (show 0<10 by decide) (show a-f<=9 by omega);unfold IL;dsimp only;omega,.none⟩
 |k+1,a,n,h1,h2,h3,h4=>by
  have hn:n<=999999999:=by have:=VO (show 0<10 by decide) (show a-f<=9 by omega);omega
  unfold IL;split
  ·rename_i hs;have hlt:=Cx hs;have hd:=Vkk hs;split
   ·exact⟨h1,Vo _,hn,.stp _ _ _⟩
   ·split
    ·exact⟨h1,Vo _,hn,.lim⟩
    ·rename_i h9;have ih:=VgJ (f:=f) (b:=b) k (a+1) (10*n+Mg b a) (by omega) (by omega) (by omega) (by rw[show a+1-f=a-f+1 by omega,Nat.pow_succ];omega);exact⟨ih.le,by have:=ih.ge;omega,ih.n,ih.er⟩
  ·exact⟨h1,Vo _,hn,.none⟩
theorem Vde {b:zAa}{a:Nat}(h:a<=b.length):VpV b a (IL b a 11 a 0):=VgJ 11 a 0 h (Vo _) (by omega) (by simp)
structure Vqi (b:zAa)(a:Nat)(s:Er×Nat×Nat):Prop where
 le:s.2.1<=b.length
 ge:a<=s.2.1
 up:s.1=none->s.2.1<b.length
 er:JL s.1
theorem Vez {b:zAa}{a:Nat}(h:a<=b.length):Vqi b a (T6 b a):=by
 unfold T6;split
 ·rename_i hs;have:=Cx hs;exact⟨h,Vo _,λ_=>this,.none⟩
 ·split
  ·rename_i hs;have:=Cx hs;exact⟨h,Vo _,λ_=>this,.none⟩
  ·split
   ·rename_i hs;have:=Cx hs;exact⟨h,Vo _,λ_=>this,.none⟩
   ·split
    ·rename_i hs;have hlt:=Cx hs;split
     ·exact⟨by dsimp only;omega,by dsimp only;omega,λh=>(by cases h),.stp _ _ _⟩
     ·rename_i hc;have pJ:AV b (a+1) IZ=true:=by
       cases hq:AV b (a+1) IZ with
       |true=>rfl
       |false=>rw[hq]at hc;exact absurd rfl hc
      have:=Cx pJ;exact⟨by dsimp only;omega,by dsimp only;omega,λ_=>this,.none⟩
    ·exact⟨h,Vo _,λh=>(by cases h),.stp _ _ _⟩
theorem Vci (st:LSt)(n s:Nat):(Sn st n s).length=n:=by simp[Sn]
theorem Vld {bx:Int}(hbx:bx<=1000){n s m:Nat}{st:LSt}(hn:n<=999999999)(hm:m<=1000000)(h:LOk m st):LOk (m+1) (NB bx n s st).2/\JL (NB bx n s st).1:=by
 have hc:=h.c;have hr:=h.r;have hk:=h.k;unfold NB;split
 ·exact⟨⟨h.x,h.y,by dsimp only;omega,by dsimp only;omega,by dsimp only;omega,h.ok⟩,.none⟩
 ·split
  ·exact⟨h.mono (by omega),.lim⟩
  ·rename_i hq;simp only[Wn,zXe,not_or]at hq;refine⟨⟨h.x,h.y,by dsimp only;omega,by dsimp only;omega,?_,λc hc=>?_⟩,.none⟩
   ·rw[Vs,Vci];omega
   ·rcases VA.1 hc with q | q
    ·exact h.ok c q
    ·obtain⟨i,hi,rfl⟩:=WM.1 q;have aE:i<n:=by simpa using hi
     have key:=Vml (x:=st.x) (y:=st.y) (u:=st.col+i) (v:=st.row) (n:=1000) h.x h.y (by omega) (by omega) (by decide);exact key
structure Vqh (b:zAa)(a:Nat)(st:LSt)(s:((Er×Nat)×LSt)×Bool):Prop where
 le:s.1.1.2<=b.length
 ge:a<=s.1.1.2
 up:s.1.1.1=none->s.2=false->a<s.1.1.2
 er:JL s.1.1.1
 ok:∀n,n<=1000000->LOk n st->LOk (n+1) s.1.2
 no:s.2=true->s.1.1.1=none
theorem Veq {b:zAa}{bx:Int}(hbx:bx<=1000){a:Nat}(ha:a<=b.length)(st:LSt):Vqh b a st (NZ b bx a st):=by
 unfold NZ;have h1:=Vde ha;generalize IL b a 11 a 0=M at h1;obtain⟨er,c,t⟩:=M;obtain⟨c1,c2,c3,c4⟩:=h1;dsimp only at c1 c2 c3 c4;cases er with
 |some e=>exact⟨c1,c2,λh=>(by cases h),c4,λn _ h=>h.mono (by omega),λh=>(by cases h)⟩
 |none=>
  dsimp only;have jU:max t 1<=999999999:=by omega
  split
  ·rename_i hs;have:=Cx hs;exact⟨by dsimp only;omega,by dsimp only;omega,λ_ _=>by dsimp only;omega,.none,λn _ h=>⟨h.x,h.y,VL _,by have:=h.r;dsimp only;omega,VM h.k (Ww _ (by omega)),h.ok⟩,λh=>(by cases h)⟩
  ·split
   ·exact⟨c1,c2,λ_ h=>(by cases h),.none,λn _ h=>h.mono (by omega),λ_=>rfl⟩
   ·have h2:=Vez c1;generalize T6 b c=M at h2;obtain⟨er,d,s⟩:=M;obtain⟨d1,d2,d3,d4⟩:=h2;dsimp only at d1 d2 d3 d4;cases er with
    |some e=>exact⟨d1,by dsimp only;omega,λh=>(by cases h),d4,λn _ h=>h.mono (by omega),λh=>(by cases h)⟩
    |none=>
     dsimp only;have d3:=d3 rfl;have hp:=λm hm h=>Vld hbx (s:=s) (m:=m) (st:=st) jU hm h;have pR:JL (NB bx (max t 1) s st).1:=by
      unfold NB;split
      ·exact .none
      ·split
       ·exact .lim
       ·exact .none
     generalize NB bx (max t 1) s st=M at hp pR;obtain⟨er,st'⟩:=M;cases er with
     |some e=>exact⟨d1,by dsimp only;omega,λh=>(by cases h),pR,λn hn h=>(hp n hn h).1,λh=>(by cases h)⟩
     |none=>exact⟨by dsimp only;omega,by dsimp only;omega,λ_ _=>by dsimp only;omega,.none,λn hn h=>(hp n hn h).1,λh=>(by cases h)⟩
theorem VcP {b:zAa}{a:Nat}(h:AV b a [13,10]=true)(rest:zAa)(he:(Ks b a rest).1=none):a<(Ks b a rest).2:=by have hl:=Cx h;have:=Vbv (Nat.le_of_lt hl) rest (by unfold HD;rw[if_neg (by omega)];exact he);unfold HD at this;rw[if_neg (by omega)]at this;exact this
theorem Rh {b:zAa}{bx:Int}(hbx:bx<=1000):∀(k a:Nat) (st:LSt) (n:Nat),a<=b.length->n+(b.length-a)<=1000000->LOk n st->(II b bx k a st).1.2<=b.length/\JL (II b bx k a st).1.1/\LOk (n+(b.length-a)+1) (II b bx k a st).2
 |0,a,st,n,ha,hn,h=>⟨ha,.none,h.mono (by omega)⟩
 |k+1,a,st,n,ha,hn,h=>by
  unfold II;split
  ·exact⟨ha,.stp _ _ _,h.mono (by omega)⟩
  ·rename_i he;split
   ·have ih:=Rh (b:=b) hbx k (a+1) st n (by omega) (by omega) h;exact⟨ih.1,ih.2.1,ih.2.2.mono (by omega)⟩
   ·split
    ·rename_i hs;have h1:=Vbp ha [33];have h2:=VcP hs [33];have h3:=Vg3 b a [33];generalize Ks b a [33]=M at h1 h2 h3;obtain⟨er,c⟩:=M;dsimp only at h1 h2 h3;cases er with
     |some e=>exact⟨h1.2,h3,h.mono (by omega)⟩
     |none=>have h2:=h2 rfl;have ih:=Rh hbx k c st n h1.2 (by omega) h;exact⟨ih.1,ih.2.1,ih.2.2.mono (by omega)⟩
    ·have ht:=Veq hbx ha st;generalize NZ b bx a st=M at ht;obtain⟨⟨⟨er,c⟩,st'⟩,d⟩:=M;obtain⟨t1,t2,t3,t4,t5,t6⟩:=ht;dsimp only at t1 t2 t3 t4 t5 t6;have t5:=t5 n (by omega) h;cases d with
     |true=>exact⟨t1,t4,t5.mono (by omega)⟩
     |false=>
      cases er with
      |some e=>exact⟨t1,t4,t5.mono (by omega)⟩
      |none=>have:=t3 rfl rfl;have ih:=Rh hbx k c st' (n+1) t1 (by omega) t5;exact⟨ih.1,ih.2.1,ih.2.2.mono (by omega)⟩
theorem Vm3 {b:zAa}{bx:Int}(hbx:bx<=1000)(hb:b.length<=1000000){st:LSt}(h:LOk 0 st):(NR b bx st).1.2<=b.length/\JL (NR b bx st).1.1/\LOk (b.length+1) (NR b bx st).2:=by
 unfold NR;have h1:=Vga (VL b.length) st;generalize SF b 0 st=M at h1;obtain⟨⟨er,c⟩,st'⟩:=M;obtain⟨h1,h2,h3,h4⟩:=h1;dsimp only at h1 h2 h3 h4;cases er with
 |some e=>exact⟨h1,h3,(h4 0 h).mono (by omega)⟩
 |none=>have:=Rh hbx (b.length+1) c st' 0 h1 (by omega) (h4 0 h);exact⟨this.1,this.2.1,this.2.2.mono (by omega)⟩
theorem VaY:LOk 0 Oy:=⟨by decide +kernel,by decide +kernel,Vo _,Vo _,Vo _,λc hc=>by cases hc⟩
set_option exponentiation.threshold 5000
theorem RZ (n:Nat):FM (A4 n)=true:=(N6 (Bn n)).2 (J1 n)
theorem Vjk (n:Nat)(tk:Tok)(H:Aa)(hl:(A4 n).length<=1099511627776):Uab (.sl (enL cU (A4 n)) tk) H=some (.ret (.sl (enL cU (A4 n)) .no),H):=by have hr:=VaO (A4 n) tk H hl;rw[RZ]at hr;unfold Uab;rw[DT ES];unfold Uad;simp only[Al,GMw,hr,VR,Ef,forget,Em,fgt]
theorem Veh (k:Nat):(4294967296:Nat)^k=2^(32*k):=by rw[show (4294967296:Nat)=2^32 from by decide,<-XJ]
theorem Vms {l':zAb}{x:Nat}(hx:Lim (l'++[x]))(h0:x≠0):blN (val (l'++[x]))=32*l'.length+blN x:=by
 have h1:=FU (l:=l') λy hy=>hx y (by simp[hy]);rw[Cs,JN];rw[Veh]at h1 ⊢;have hp:0<2^(32*l'.length):=Xv (by decide);have h2:2^(32*l'.length)<=val l'+2^(32*l'.length)*x:=by have:2^(32*l'.length)*1<=2^(32*l'.length)*x:=Ww _ (by omega);omega
 rw[Vb3 h2,Yb _ _ hp,WK h1,Vr,XS]
theorem Vn8 (n:Nat)(tk:Tok)(H:Aa)(hl:(A4 n).length<=1000000):Ucj (.sl (enL cU (A4 n)) tk) H=some (.ret (.i6 (blN n:Int)),H):=by
 have hc:=Vjk n tk H (by omega);unfold Ucj;simp only[GMw,hc,Ax];have hx:=Bn n;have hn:=(J1 n).last;have hv:=B2 n;generalize A4 n=l at *;rcases GN l with rfl | ⟨l',x,rfl⟩
 ·have:n=0:=hv.symm;subst this;simp[blN]
 ·simp only[Vs,zXi]at hl;have yN:x≠0:=hn x (by simp);have h1:l'.length<(l'++[x]).length:=by simp
  have h3:IntKind.i64.wrap ((((l'++[x]).length:Nat):Int)-1)=(l'.length:Int):=by rw[An] <;> simp <;> omega
  have hne:((((l'++[x]).length:Nat):Int) == 0)=false:=by simp;omega
  have nF:decide ((((l'++[x]).length:Nat):Int)=0)=false:=zXd (by simp;omega);have h4:IntKind.i64.wrap ((l'.length:Int)*32)=((32*l'.length:Nat):Int):=by rw[An] <;> omega
  have gW:=hx x (by simp);have hb:blN x<=32:=Jb.2 (by simpa using gW);have h5:IntKind.i64.wrap (((32*l'.length:Nat):Int)+(blN x:Int))=(blN n:Int):=by rw[<-hv,Vms hx yN,An] <;> omega
  have vC:=λK=>Vlh gW K;simp only[hne,nF,AI,h3,Az h1,A0,zXh,Wt (Vo _),VZ,List.getElem_cons_zero,GMw,h4,vC,h5]
theorem Vl4 {l:zAb}(hx:Lim l){q:Nat}(hq:q<l.length):l[q]=val l / 2^(32*q)%4294967296:=by
 have e:l=l.take q++(l[q]::l.drop (q+1)):=by rw[<-VJ hq,VW]
 have h1:=FU (l:=l.take q) λy hy=>hx y (Wo hy);have h2:=hx l[q] (Vz hq);have hv:val l=val (l.take q)+4294967296^q*(l[q]+4294967296*val (l.drop (q+1))):=by
  conv=>lhs;rw[e]
  rw[Cs,V5,Wl (by omega)]
  rfl
 rw[V5,Wl (by omega)]at h1;have hp:0<4294967296^q:=Xv (by decide);rw[hv,<-Veh,Yb _ _ hp,WK h1,Vr,Nat.add_mul_mod_self_left,Wr h2]
theorem Vh2 (x k:Nat)(hk:k<=32):Af .none .shr (.int .u32 (x:Int)) (.i6 (k:Int))=some (.int .u32 ((x / 2^k:Nat):Int)):=VaE x k hk
theorem Vm0 {x:Nat}(hx:x<4294967296):Af .none .and (.int .u32 (x:Int)) (.int .u32 1)=some (.int .u32 ((x%2:Nat):Int)):=by have h:=(JJ (BitVec.ofNat 32 x) (BitVec.ofNat 32 1)).1;rw[BitVec.toNat_and,WW,WW,Wr hx,Wr (by decide),Nat.and_one_is_mod]at h;rw[M3 .and rfl _ _ (λ_ _ _=>rfl)];exact h
theorem VnA (n i:Nat)(tk:Tok)(H:Aa)(hl:(A4 n).length<=1000000)(hi:i<1000000):Ua7 (.sl (enL cU (A4 n)) tk) (.i6 (i:Int)) H=some (.ret (.bool (n.testBit i)),H):=by
 have d0:decide ((i:Int)>=0)=true:=zXc (by omega);have hq:Af .none .quo (.i6 (i:Int)) (.i6 32)=some (.i6 ((i / 32:Nat):Int)):=by show some (Ab.i6 (IntKind.i64.wrap (((i / 32:Nat):Int))))=_;rw[An (by omega) (by omega)]
 have tU:Af .none .rem (.i6 (i:Int)) (.i6 32)=some (.i6 ((i%32:Nat):Int)):=rfl;unfold Ua7;by_cases h:i / 32<(A4 n).length
 ·have d1:decide (((i / 32:Nat):Int)<((A4 n).length:Int))=true:=zXc (by omega);have hx:=Bn n _ (Vz h);have ha:=Vl4 (Bn n) h;rw[B2]at ha;have hs:=Vh2 (A4 n)[i / 32] (i%32) (by omega);have Zd:=Vm0 (x:=(A4 n)[i / 32] / 2^(i%32)) (Wv (Nat.div_le_self _ _) hx);have ht:((((A4 n)[i / 32] / 2^(i%32)%2:Nat):Int) == 1)=n.testBit i:=by
   have e1:n.testBit i=(A4 n)[i / 32].testBit (i%32):=by rw[ha,show (4294967296:Nat)=2^32 from by decide,Nat.testBit_mod_two_pow,Nat.testBit_div_two_pow,zXc (show i%32<32 by omega),zXn,show i%32+32*(i / 32)=i by omega]
   rw[e1,Xc];generalize (A4 n)[i / 32] / 2^(i%32)%2=z;rw[V8];simp;omega
  simp only[GMw,d0,hq,Ax,d1,Az h,A0,zXh,tU,hs,Zd,ht]
 ·have d1:decide (((i / 32:Nat):Int)<((A4 n).length:Int))=false:=zXd (by omega);have h1:=FU (Bn n);rw[B2,Veh]at h1;have hf:n.testBit i=false:=Nat.testBit_lt_two_pow (Wu h1 (VO (by decide) (by omega)));simp only[GMw,d0,hq,Ax,d1,hf]
theorem VjJ {z:Int}(H:Aa)(hz:LB z)(hl:z.natAbs<4294967296^100):UaZ (big z) H=some (.ret (.i6 ((1+blN (if z<0 then z.natAbs-1 else z.natAbs):Nat):Int)),H):=by
 have key:∀w:Nat,w<=z.natAbs->(A4 w).length<=1000000:=λw hw=>VM (EP (Wv hw hl)) (by decide);have hbl:∀w:Nat,w<=z.natAbs->IntKind.i64.wrap (1+(blN w:Int))=((1+blN w:Nat):Int):=λw hw=>by have:blN w<=32*100:=Jb.2 (Wv hw (by rw[Veh]at hl;exact hl));rw[An] <;> omega
 have one:∀K,Uaf (.i6 1) K=some (.ret (big 1),K):=λK=>Vpo 1 K (by decide) (by decide);have l1:LB 1:=by unfold LB;exact VM (EP (k:=1) (by decide)) (by decide)
 unfold UaZ Ued;by_cases h:z<0
 ·have e:(-z-1).natAbs=z.natAbs-1:=by omega
  have hs:=λK=>Vn3 K hz.neg l1;have bB:=λK=>Vn8 (z.natAbs-1) .no K (key _ (by omega));have hb:=hbl (z.natAbs-1) (by omega);simp[D0,h,AM,Vfx,one,hs,e,bB,hb]
 ·have bB:=λK=>Vn8 z.natAbs .no K (key _ (by omega));have hb:=hbl z.natAbs (by omega);simp[D0,h,AM,bB,hb]
def Ot (z:Int):Nat:=1+blN (if z<0 then z.natAbs-1 else z.natAbs)
theorem VmK (w:Nat):(2:Int)^w=((2^w:Nat):Int):=by simp
theorem VcB {v:Nat}{z:Int}(h:1<=v):inZ v z=decide (Ot z<=v):=by
 have hp:0<2^(v-1):=Xv (by decide);have key:∀u,1+blN u<=v↔u<2^(v-1):=λu=>by rw[<-Jb];omega
 unfold inZ Ot;rw[V8];simp only[Vx,zXe,VmK,key];generalize 2^(v-1)=P at *;by_cases hz:z<0
 ·rw[if_pos hz];omega
 ·rw[if_neg hz];omega
def QA (c:Cl):Nat:=max (Ot c.x) (Ot c.y)
theorem Va0 {v:Nat}{c:Cl}(h:1<=v):Eb v c=decide (QA c<=v):=by unfold Eb QA;rw[VcB h,VcB h,V8];simp only[Vx,zXe];omega
theorem UA:∀f v c,1<=v->IK f v c=max v (min (QA c) (v+f))
 |0,v,c,h=>by unfold IK;omega
 |f+1,v,c,h=>by
  unfold IK;rw[Va0 h];by_cases q:QA c<=v
  ·rw[if_pos (zXc q)];omega
  ·rw[if_neg (by simpa using q),UA f (v+1) c (by omega)];omega
def mxN:List Cl->Nat
 |[]=>0
 |c::l=>max (QA c) (mxN l)
theorem Vgo:∀(l:List Cl) (v:Nat),1<=v->v<=1330->l.foldl (λv c=>IK (1330-v) v c) v=max v (min 1330 (mxN l))
 |[],v,h1,h2=>by simp only[List.foldl_nil,mxN];omega
 |c::l,v,h1,h2=>by have h:=UA (1330-v) v c h1;rw[List.foldl_cons,Vgo l _ (by omega) (by omega),h];simp only[mxN];omega
def Eh (l:List Cl):Nat->Nat
 |0=>1
 |i+1=>match l[i]? with | some c=>max (Eh l i) (QA c) | none=>Eh l i
theorem P5 (l:List Cl):∀i,Eh l i=max 1 (mxN (l.take i))
 |0=>rfl
 |i+1=>by
  have hs:∀(m:List Cl) (c:Cl),mxN (m++[c])=max (mxN m) (QA c):=λm c=>by
   induction m with
   |nil=>simp only[List.nil_append,mxN];omega
   |cons d m ih=>simp only[List.cons_append,mxN,ih];omega
  unfold Eh;rw[P5 l i];rcases VT i l.length with h | h
  ·rw[Vl h,Vw h,hs];dsimp only;omega
  ·rw[zYb h,Vy (show l.length<=i+1 by omega),Vy h]
theorem Vaj (l:List Cl):A8 l=min 1330 (Eh l l.length):=by unfold A8;rw[Vgo l 1 (by omega) (by omega),P5,Wc];omega
structure Sp where
 a:Nat
 b:Nat
 s:UInt8
def cSp (p:Sp):List Ab:=[.sl (enL cU (A4 p.a)) .no,.sl (enL cU (A4 p.b)) .no,.int .u8 (p.s.toNat:Int)]
instance:Sz cSp 3:=⟨λ_=>rfl⟩
def spot (h:Int)(c:Cl):Sp:=⟨(c.x+h).toNat,(c.y+h).toNat,c.s⟩
def qOf (v:Nat)(p:Sp):Nat:=(if p.a.testBit v then 1 else 0)+(if p.b.testBit v then 2 else 0)
def qSp (v k:Nat)(S:List Sp):List Sp:=S.filter λp=>decide (qOf v p=k)
def VlH:List Sp->Int
 |[]=>0
 |p::_=>(p.s.toNat:Int)
def lyK (rec:List Nd->List Sp->List Nd×Nat)(v:Nat)(S:List Sp):Nat->List Nd->List Nd×Nd
 |0,out=>(out,⟨((v+1:Nat):Int),0,0,0,0⟩)
 |k+1,out=>
  if v=0 then ((lyK rec v S k out).1,(lyK rec v S k out).2.setKid k (VlH (qSp v k S)))
  else ((rec (lyK rec v S k out).1 (qSp v k S)).1,(lyK rec v S k out).2.setKid k ((rec (lyK rec v S k out).1 (qSp v k S)).2:Int))
def C5:Nat->List Nd->List Sp->List Nd×Nat
 |0,out,_=>(out,0)
 |v+1,out,S=>if S=[]then (out,0)else ((lyK (C5 v) v S 4 out).1++[(lyK (C5 v) v S 4 out).2],(lyK (C5 v) v S 4 out).1.length+1)
theorem Vkq {A X v m:Nat}(hX:X=2^(v+1)*m)(h1:X<=A)(h2:A<X+2^(v+1)):A.testBit v=decide (X+2^v<=A):=by
 have hp:0<2^v:=Xv (by decide);have e:2^(v+1)=2^v*2:=Nat.pow_succ _ _;obtain⟨r,rfl⟩:∃r,A=X+r:=⟨A-X,by omega⟩;rw[Xc,hX,e,WS,Nat.mul_add_div hp,Nat.mul_add_mod];have hr:r<2^v*2:=by omega
 by_cases q:2^v<=r
 ·have:r / 2^v=1:=by rw[show r=2^v*1+(r-2^v)by omega,Nat.mul_add_div hp,WK (by omega)]
  rw[this,V8];simp;omega
 ·rw[WK (by omega),V8];simp;omega
theorem VeT {v k:Nat}{x y h:Int}{X Y m n:Nat}{c:Cl}(hk:k<4)(hx:(X:Int)=x+h)(hy:(Y:Int)=y+h)(hX:X=2^(v+1)*m)(hY:Y=2^(v+1)*n)(hc:M9 (v+1) x y c) :
  inQ (v+1) (qa (v+1) x k) (qb (v+1) y k) c=decide (qOf v (spot h c)=k):=by
 obtain⟨c1,c2,c3,c4⟩:=hc;have e:(2:Int)^(v+1)=((2^(v+1):Nat):Int):=VmK _;rw[e]at c2 c4;have b1:=Vkq (A:=(c.x+h).toNat) hX (by omega) (by omega);have b2:=Vkq (A:=(c.y+h).toNat) hY (by omega) (by omega);have e2:2^(v+1)=2^v*2:=Nat.pow_succ _ _;rw[e2]at c2 c4;unfold qOf spot;dsimp only;rw[b1,b2];unfold inQ qa qb;rw[VH,VmK];generalize 2^v=P at *;clear hX hY b1 b2 e e2;have t1:(X+P<=(c.x+h).toNat)↔x+P<=c.x:=by omega
 have t2:(Y+P<=(c.y+h).toNat)↔y+P<=c.y:=by omega
 simp only[t1,t2,zXe];rw[V8];simp only[Vx,zXe];by_cases q1:x+P<=c.x
 ·by_cases q2:y+P<=c.y
  ·rw[if_pos q1,if_pos q2]
   match k,hk with
   |0,_=>simp;omega
   |1,_=>simp;omega
   |2,_=>simp;omega
   |3,_=>simp;omega
  ·rw[if_pos q1,if_neg q2]
   match k,hk with
   |0,_=>simp;omega
   |1,_=>simp;omega
   |2,_=>simp;omega
   |3,_=>simp;omega
 ·by_cases q2:y+P<=c.y
  ·rw[if_neg q1,if_pos q2]
   match k,hk with
   |0,_=>simp;omega
   |1,_=>simp;omega
   |2,_=>simp;omega
   |3,_=>simp;omega
  ·rw[if_neg q1,if_neg q2]
   match k,hk with
   |0,_=>simp;omega
   |1,_=>simp;omega
   |2,_=>simp;omega
   |3,_=>simp;omega
theorem Vgb (h:Int)(l:List Cl):VlH (l.map (spot h))=Gu l:=by cases l <;> rfl
theorem VhO {v k:Nat}{x y h:Int}{X Y m n:Nat}{l:List Cl}(hk:k<4)(hx:(X:Int)=x+h)(hy:(Y:Int)=y+h)(hX:X=2^(v+1)*m)(hY:Y=2^(v+1)*n)(hc:∀c∈l,M9 (v+1) x y c) :
  qSp v k (l.map (spot h))=(Bu (v+1) x y k l).map (spot h):=by
 unfold qSp Bu;rw[List.filter_map]
 congr 1
 refine List.filter_congr λc aG=>?_;exact (VeT hk hx hy hX hY (hc c aG)).symm
theorem UF {h:Int}:∀(v:Nat) (out:List Nd) (x y:Int) (l:List Cl) (X Y m n:Nat),(X:Int)=x+h->(Y:Int)=y+h->X=2^v*m->Y=2^v*n->(∀c∈l,M9 v x y c)->C5 v out (l.map (spot h))=Bv v out x y l
 |0,out,x,y,l,X,Y,m,n,_,_,_,_,_=>rfl
 |v+1,out,x,y,l,X,Y,m,n,hx,hy,hX,hY,hc=>by
  have e2:2^(v+1)=2^v*2:=Nat.pow_succ _ _;have key:∀k,k<=4->lyK (C5 v) v (l.map (spot h)) k out=plK (Bv v) (v+1) x y l k out:=by
   intro k
   induction k with
   |zero=>intro _;rfl
   |succ k ih=>
    intro hk;have hq:=VhO (k:=k) (by omega) hx hy hX hY hc;unfold lyK plK;rw[ih (by omega),hq,Vgb];by_cases h0:v=0
    ·rw[if_pos h0,if_pos (by omega)]
    ·rw[if_neg h0,if_neg (by omega)];have hrec:=UF (h:=h) v (plK (Bv v) (v+1) x y l k out).1 (qa (v+1) x k) (qb (v+1) y k) (Bu (v+1) x y k l)
      (if k%2=1 then X+2^v else X) (if 1<k then Y+2^v else Y) (if k%2=1 then m*2+1 else m*2) (if 1<k then n*2+1 else n*2)
      (by unfold qa;rw[VH,VmK];split <;> omega) (by unfold qb;rw[VH,VmK];split <;> omega)
      (by rw[hX,e2];split <;> (simp only[W4,V4,WS,W8 2 m])) (by rw[hY,e2];split <;> (simp only[W4,V4,WS,W8 2 n]))
      (λc hc=>LC hc)
     rw[hrec]
  unfold C5 Bv;rw[key 4 (by omega)];by_cases h0:l=[]
  ·rw[if_pos (by rw[h0];rfl),if_pos h0]
  ·rw[if_neg (by simpa using h0),if_neg h0]
theorem Vmn {L:List Nd}{tk:Tok}{i:Nat}(hi:i<L.length)(h1:1<=L[i].lv)(h2:L[i].lv<=1329)(c:Int)(H:Aa)(hL:L.length<1152921504606846976):Uco (.sl (enL cNd L) tk) (.i6 (i:Int)) (.i6 c) H=some (.ret (.bool (Df L i L[i] c)),H):=by
 unfold Uco;simp only[GMw,HPw,Nat.reduceAdd,Nat.reduceLT,Az hi,IU,Co,FC,Fc,F5];generalize L[i]=x at h1 h2;by_cases hc:c=0
 ·have:Df L i x c=true:=by unfold Df;simp only[Vx,zXe];exact⟨⟨by omega,λ_=>by omega⟩,λ_ h=>by omega⟩
  rw[this];simp only[hc,GMw,HPw,Nat.reduceAdd,Nat.reduceLT]
 ·simp only[hc,GMw,HPw,Nat.reduceAdd,Nat.reduceLT,Co];by_cases hl:x.lv=1
  ·have:Df L i x c=(decide (c>0)&&decide (c<=255)):=by unfold Df;rw[V8];simp only[Vx,zXe];exact⟨λh=>⟨by omega,h.1.2 hl⟩,λh=>⟨⟨by omega,λ_=>h.2⟩,λh'=>by omega⟩⟩
   rw[this];by_cases h0:c>0
   ·simp only[hl,h0,GMw,HPw,Nat.reduceAdd,Nat.reduceLT]
   ·simp only[hl,h0,GMw,HPw,Nat.reduceAdd,Nat.reduceLT]
  ·simp only[hl,GMw,HPw,Nat.reduceAdd,Nat.reduceLT];by_cases h0:c>0
   ·by_cases iC:c<=(i:Int)
    ·obtain⟨m,rfl⟩:∃m:Nat,c=((m+1:Nat):Int):=⟨(c-1).toNat,by omega⟩;have hm:m<L.length:=by omega
     have hw:IntKind.i64.wrap (((m+1:Nat):Int)-1)=(m:Int):=by rw[An] <;> omega
     have bZ:IntKind.i64.wrap (x.lv-1)=x.lv-1:=An (by omega) (by omega);have:Df L i x ((m+1:Nat):Int)=decide (L[m].lv=x.lv-1):=by unfold Df;rw[V8];simp only[Vx,zXe,show (((m+1:Nat):Int)-1).toNat=m by omega,Vl hm,Vv];exact⟨λh=>(h.2 (by omega) h0).2 _ rfl,λh=>⟨⟨by omega,λh'=>absurd h' hl⟩,λ_ _=>⟨iC,λy e=>by rw[<-e];exact h⟩⟩⟩
     rw[this];simp only[h0,iC,GMw,HPw,Nat.reduceAdd,Nat.reduceLT,hw,bZ,Az hm,Ay,A0,Co]
    ·have:Df L i x c=false:=by unfold Df;rw[WX];right;rw[decide_eq_false_iff_not];intro h;exact iC (h (by omega) h0).1
     rw[this];simp only[h0,iC,GMw,HPw,Nat.reduceAdd,Nat.reduceLT]
   ·have:Df L i x c=false:=by unfold Df;rw[WX,WX];left;left;rw[decide_eq_false_iff_not];omega
    rw[this];simp only[h0,GMw,HPw,Nat.reduceAdd,Nat.reduceLT]
theorem VgV (L:List Nd)(tk:Tok)(H:Aa)(hL:L.length<1152921504606846976):Ubb (.sl (enL cNd L) tk) H=some (.ret (.bool (AH L)),H):=by
 unfold Ubb;rw[show AH L=(List.range L.length).all (Gd L) from rfl];simp only[GMw,HPw,Nat.reduceAdd,Nat.reduceLT,Ax];have key:∀(d i:Nat) (G:Aa),i+d=L.length->(∀j,j<i->Gd L j=true)->∀n,d<n->Am (λrec1 vs H1=>Uak H rec1 (ag vs 0) (ag vs 1) (ag vs 2) (ag vs 3) H1) n [.sl (enL cNd L) tk,.sl (enL cNd L) tk,.i6 (L.length:Int),.i6 (i:Int)] (H++G)=some (.ret (.bool ((List.range L.length).all (Gd L))),H):=by
  intro d
  induction d with
  |zero=>
   intro i G hi aF n hn;obtain⟨n,rfl⟩:∃k,n=k+1:=⟨n-1,by omega⟩;have:(List.range L.length).all (Gd L)=true:=by rw[V7];intro j hj;exact aF j (by have:=WV.1 hj;omega)
   rw[C0,this];generalize Am (λrec1 vs H1=>Uak H rec1 (ag vs 0) (ag vs 1) (ag vs 2) (ag vs 3) H1) n=rec;unfold Uak;have aE:¬(i:Int)<(L.length:Int):=by omega
   simp only[GMw,HPw,Nat.reduceAdd,Nat.reduceLT,aE]
  |succ d ih=>
   intro i G hi aF n hn;obtain⟨n,rfl⟩:∃k,n=k+1:=⟨n-1,by omega⟩;have hlt:i<L.length:=by omega
   have aE:(i:Int)<(L.length:Int):=by omega
   rw[C0];have cJ:Gd L i=false->(List.range L.length).all (Gd L)=false:=λh=>by rw[Xd];exact⟨i,by simpa using hlt,by simp[h]⟩
   have oX:Gd L i=true->∀G',Am (λrec1 vs H1=>Uak H rec1 (ag vs 0) (ag vs 1) (ag vs 2) (ag vs 3) H1) n [.sl (enL cNd L) tk,.sl (enL cNd L) tk,.i6 (L.length:Int),.i6 ((i+1:Nat):Int)] (H++G')=some (.ret (.bool ((List.range L.length).all (Gd L))),H):=λh G'=>ih (i+1) G' (by omega) (λj hj=>by
    by_cases e:j=i
    ·rw[e];exact h
    ·exact aF j (by omega)) n (by omega)
   generalize Am (λrec1 vs H1=>Uak H rec1 (ag vs 0) (ag vs 1) (ag vs 2) (ag vs 3) H1) n=rec at oX;unfold Uak;have hg:L[i]? = some L[i]:=Vl hlt;simp only[GMw,HPw,Nat.reduceAdd,Nat.reduceLT,Aj,aE,Az hlt,IU,Co,FC,Fc,F5];by_cases h1:L[i].lv<1
   ·have:Gd L i=false:=by simp only[Gd,hg];simp;intro;omega
    rw[cJ this];simp only[h1,GMw,HPw,Nat.reduceAdd,Nat.reduceLT]
   ·by_cases h2:L[i].lv>1329
    ·have:Gd L i=false:=by simp only[Gd,hg];simp;intro;omega
     rw[cJ this];simp only[h1,h2,GMw,HPw,Nat.reduceAdd,Nat.reduceLT,Co,FC,Fc,F5]
    ·have hd:Gd L i=(List.range 4).all λk=>Df L i L[i] (L[i].kid k):=by simp only[Gd,hg];rw[zXc (by omega)];rfl
     simp only[h1,h2,GMw,HPw,Nat.reduceAdd,Nat.reduceLT,Co,FC,Fc,F5];have:=DA 4 (λk=>Df L i L[i] (L[i].kid k)) (λk=>[.sl (enL cNd L) tk,.i6 (i:Int),.sl (enL cNd L) tk,.i6 (L.length:Int),.i6 (i:Int),.agg (IV L[i]),.i6 (k:Int)]) (H++(G++[.cel 0 (cNd L[i])])) (rec [.sl (enL cNd L) tk,.sl (enL cNd L) tk,.i6 (L.length:Int),.i6 ((i+1:Nat):Int)] (H++(G++[.cel 0 (cNd L[i])]))) (some (.ret (.bool false),H)) (by decide) (λaA k hk=>?_) (λaA=>?_)
      (G:=λaA vs H1=>Ucp H rec aA (ag vs 0) (ag vs 1) (ag vs 2) (ag vs 3) (ag vs 4) (ag vs 5) (ag vs 6) H1)
     ·refine this.trans ?_;rw[<-hd];cases hb:Gd L i with
      |true=>simp only[if_true];exact oX hb _
      |false=>simp only[Vq,if_false];rw[cJ hb]
     ·have hk':(k:Int)<4:=by omega
      unfold Ucp;simp only[GMw,HPw,Nat.reduceAdd,Nat.reduceLT,Aj,hk',Vdq _ hk,Vmn hlt (by omega) (by omega) (L[i].kid k) _ hL];cases Df L i L[i] (L[i].kid k)with
      |true=>simp only[GMw,HPw,Nat.reduceAdd,Nat.reduceLT,Av (show k<9223372036854775807 by omega),if_true]
      |false=>simp only[GMw,HPw,Nat.reduceAdd,Nat.reduceLT,Vq,if_false]
     ·unfold Ucp;simp only[GMw,HPw,Nat.reduceAdd,Nat.reduceLT,Aj,show ¬(((4:Nat):Int)<4) from by decide,Av (show i<9223372036854775807 by omega)]
 have:=key L.length 0 [] (by omega) (λj hj=>by omega) AP (by rw[DB];exact hL);rw[VF]at this;exact this
def PY (F:List Bool)(x:Nd)(k:Nat):Bool:=!decide (x.kid k=0)&&(decide (x.lv=1)||F.getD (x.kid k).toNat false)
def ViQ (F:List Bool)(x:Nd):Bool:=(List.range 4).any (PY F x)
theorem VlO {E:List Bool}{x:Nd}(h1:1<=x.lv)(hE:∀k,k<4->1<x.lv->(x.kid k).toNat<E.length):ViQ (E.map (!·)) x = !Me E x:=by
 unfold ViQ Me;have each:∀k,k<4->PY (E.map (!·)) x k = !(decide (x.kid k=0)||(decide (1<x.lv)&&E.getD (x.kid k).toNat true)):=by
  intro k hk;unfold PY;by_cases hl:x.lv=1
  ·have:¬1<x.lv:=by omega
   simp[hl]
  ·have cA:1<x.lv:=by omega
   have:=hE k hk cA;simp[hl,cA,Vm,Vl this]
 show ((PY _ x 0||(PY _ x 1||(PY _ x 2||(PY _ x 3||false))))) = !(_&&(_&&(_&&(_&&true))));rw[each 0 (by omega),each 1 (by omega),each 2 (by omega),each 3 (by omega)];simp only[Bool.not_and,VR]
theorem VgW {H:Aa}{pn po q m:Nat}{x:Nd}{F:List Bool}(hn:H[pn]? = some (.cel 0 (cNd x)))(ho:H[po]? = some (.cel 0 [.ms q 0 0 m m 1 true]))(hq:H[q]? = some (.cel 0 (flat cB F)))(hm:F.length=m){k:Nat}(hk:k<4)(h0:0<=x.kid k)(hb:x.lv≠1->x.kid k≠0->(x.kid k).toNat<m) :
  Ucr (.i6 (x.kid k)) (.ptr pn 0 0) (.ptr po 0 0) H=some (.ret (.bool (PY F x k)),H):=by
 have l1:=S6 hn;have l2:=Cu (o:=0) (sz:=1) ho;unfold Ucr PY;by_cases hc:x.kid k=0
 ·simp only[hc,GMw,HPw,Nat.reduceAdd,Nat.reduceLT]
 ·by_cases hl:x.lv=1
  ·simp only[hc,hl,l1,GMw,HPw,Nat.reduceAdd,Nat.reduceLT]
  ·have hlt:=hb hl hc;obtain⟨c,hcc⟩:∃c:Nat,x.kid k=(c:Int):=⟨(x.kid k).toNat,by omega⟩;rw[hcc,zXl]at hlt;have hi:=CK (sz:=1) (id:=q) (g:=0) (off:=0) (n:=m) (cap:=m) (ex:=true) (K:=.i64) hlt;have hld:=HR (f:=cB) (l:=F) (As hq) (show c<F.length by omega);simp only[Vr,V4]at hi;rw[hcc]at hc ⊢;simp only[hc,hl,l1,l2,GMw,HPw,Nat.reduceAdd,Nat.reduceLT,hi,hld,zXl,Vm,Vl (show c<F.length by omega),Option.getD_some,zXh]
theorem Vmo {H:Aa}{pn po q m:Nat}{x:Nd}{F:List Bool}(hn:H[pn]? = some (.cel 0 (cNd x)))(ho:H[po]? = some (.cel 0 [.ms q 0 0 m m 1 true]))(hq:H[q]? = some (.cel 0 (flat cB F)))(hm:F.length=m)(h0:∀k,k<4->0<=x.kid k)(hb:∀k,k<4->x.lv≠1->x.kid k≠0->(x.kid k).toNat<m) :
  Ucu (.ms pn 0 1 4 4 1 true) (.fn 238 [.ptr pn 0 0,.ptr po 0 0]) H=some (.ret (.bool (ViQ F x)),H):=by
 unfold Ucu Uct;simp only[GMw,VjT,show ((4:Nat):Int)=4 from rfl];have key:=NG (G:=λrec1 vs H1=>Ucs H rec1 (ag vs 0) (ag vs 1) (ag vs 2) (ag vs 3) H1) 4 (PY F x) (λk=>[.ms pn 0 1 4 4 1 true,.fn 238 [.ptr pn 0 0,.ptr po 0 0],.i6 4,.i6 (k:Int)]) H (some (.ret (.i6 (-1)),H)) (λk=>some (.ret (.i6 (k:Int)),H)) (by decide) (λrec k hk=>?_) (λrec=>?_)
 ·rw[show (((0:Nat):Int))=0 from rfl]at key;rw[key];cases hf:(List.range 4).find? (PY F x)with
  |none=>
   have:ViQ F x=false:=by unfold ViQ;rw[List.any_eq_false];intro k hk;exact Xu.1 hf k hk
   simp only[GMw,this,show decide ((-1:Int)>=0)=false from by decide]
  |some k=>
   have:ViQ F x=true:=by unfold ViQ;rw[List.any_eq_true];exact⟨k,List.mem_of_find?_eq_some hf,List.find?_some hf⟩
   simp only[GMw,this,show decide ((k:Int)>=0)=true from by simp]
 ·have hk':(k:Int)<4:=by omega
  have hi:=CK (sz:=1) (id:=pn) (g:=0) (off:=1) (n:=4) (cap:=4) (ex:=true) (K:=.i64) hk;have hld:=UD hn hk;have rF:=VgW hn ho hq hm hk (h0 k hk) (hb k hk);simp only[V4]at hi;unfold Ucs C9;simp only[GMw,Aj,hk',hi,hld,DI,ent,if_true,List.cons_append,List.nil_append,ap3,rF];cases PY F x k with
  |true=>simp only[GMw,if_true]
  |false=>simp only[GMw,Vq,if_false,Av (show k<9223372036854775807 by omega)]
 ·unfold Ucs;simp only[GMw,Aj,show ¬(((4:Nat):Int)<4) from by decide]
theorem Vah (L:List Nd)(i:Nat)(hi:i<L.length):((A2 (L.take i)).map (!·)++List.replicate (L.length-i) false).set (i+1) (!Me (A2 (L.take i)) L[i])=(A2 (L.take (i+1))).map (!·)++List.replicate (L.length-(i+1)) false:=by
 have hl:((A2 (L.take i)).map (!·)).length=i+1:=by rw[W7,Da,V5];omega
 rw[Wa _ _ (by omega),hl,VZ,UZ L hi,List.map_append,show L.length-i=(L.length-(i+1))+1 by omega,zXm,List.set_cons_zero,Vu]
 rfl
theorem Vdi (L:List Nd)(tk:Tok)(H:Aa)(hL:L.length<140737488355327)(hl:AH L=true):Ubc (.sl (enL cNd L) tk) H=some (.ret (.sl (enL cB ((A2 L).map (!·))) .no),H):=by
 have dB:=FZ (f:=cB) (a:=false) (n:=L.length+1) (bytes:=1) (H:=H) (by omega) (by omega);unfold Ubc;simp only[Ax,GMw,HPw,Nat.reduceAdd,Nat.reduceLT,Av (show L.length<9223372036854775807 by omega),dB];have key:=Br (G:=λrec1 vs H1=>UdH H rec1 (ag vs 0) (ag vs 1) (ag vs 2) (ag vs 3) H1) (σ:=Nat×Aa) (λs=>s.1<=L.length)
  (λs=>[.ptr (H.length+1) 0 0,.sl (enL cNd L) tk,.i6 (L.length:Int),.i6 (s.1:Int)]) (λs=>H++(.cel 0 (flat cB ((A2 (L.take s.1)).map (!·)++List.replicate (L.length-s.1) false))::.cel 0 [.ms H.length 0 0 (L.length+1) (L.length+1) 1 true]::s.2)) (λs=>L.length-s.1)
  (λ_=>some (.ret (.sl (enL cB ((A2 L).map (!·))) .no),H)) (λs rec hs hrec=>?_) (0,[]) (VL _) (by dsimp only;omega)
 ·rw[List.take_zero]at key;have e:(A2 []).map (!·)++List.replicate (L.length-0) false=List.replicate (L.length+1) false:=by simp[A2,zXm]
  rw[e]at key;exact key
 ·obtain⟨i,G⟩:=s;dsimp only at hs hrec ⊢;unfold UdH;by_cases hi:i<L.length
  ·have aE:(i:Int)<(L.length:Int):=by omega
   obtain⟨l1,l2,l3⟩:=AS hl hi;have hElen:(A2 (L.take i)).length=i+1:=by rw[Da,V5];omega
   have hFlen:((A2 (L.take i)).map (!·)++List.replicate (L.length-i) false).length=L.length+1:=by rw[Vs,W7,hElen,WH];omega
   have oO:ViQ ((A2 (L.take i)).map (!·)++List.replicate (L.length-i) false) L[i] = !Me (A2 (L.take i)) L[i]:=by
    rw[<-VlO l1 (λk hk h1=>by
     obtain⟨q1,q2,q3⟩:=l3 k hk;rw[hElen];by_cases h0:0<L[i].kid k
     ·have:=(q3 h1 h0).1;omega
     ·omega)]
    unfold ViQ PY
    congr 1
    funext k
    by_cases aN:L[i].lv=1
    ·simp[aN]
    ·by_cases hk:k<4
     ·obtain⟨q1,q2,q3⟩:=l3 k hk;have:(L[i].kid k).toNat<((A2 (L.take i)).map (!·)).length:=by
       rw[W7,hElen];by_cases h0:0<L[i].kid k
       ·have:=(q3 (by omega) h0).1;omega
       ·omega
      rw[Vm,Vp this,Vm]
     ·have e3:L[i].kid k=L[i].kid 3:=by
       match k,hk with
       |0,h=>exact absurd (by decide) h
       |1,h=>exact absurd (by decide) h
       |2,h=>exact absurd (by decide) h
       |n+3,_=>rfl
      obtain⟨q1,q2,q3⟩:=l3 3 (by decide);rw[e3];have:(L[i].kid 3).toNat<((A2 (L.take i)).map (!·)).length:=by
       rw[W7,hElen];by_cases h0:0<L[i].kid 3
       ·have:=(q3 (by omega) h0).1;omega
       ·omega
      rw[Vm,Vp this,Vm]
   have xF:=Vah L i hi;generalize hF:(A2 (L.take i)).map (!·)++List.replicate (L.length-i) false=F at *;have any:=Vmo (H:=H++(.cel 0 (flat cB F)::.cel 0 [.ms H.length 0 0 (L.length+1) (L.length+1) 1 true]::(G++[.cel 0 (cNd L[i])]))) (pn:=H.length+(G.length+1+1)) (po:=H.length+1) (q:=H.length) (m:=L.length+1) (x:=L[i]) (F:=F) (by simp) (by simp) (by simp) hFlen (λk hk=>(l3 k hk).1) (λk hk h1 h0=>by obtain⟨q1,q2,q3⟩:=l3 k hk;have:=(q3 (by omega) (by omega)).1;omega);have hsl:Jz 4 1 (.ptr (H.length+(G.length+1+1)) 0 1) none none=some (.ms (H.length+(G.length+1+1)) 0 1 4 4 1 true):=by simp[Jz,Bw]
   have dD:=CK (sz:=1) (id:=H.length) (g:=0) (off:=0) (n:=L.length+1) (cap:=L.length+1) (ex:=true) (K:=.i64) (i:=i+1) (by omega);simp only[Vr,V4]at dD;have hst:∀G' t,Ai 1 (.ptr H.length 0 (i+1)) (.bool t) (H++(.cel 0 (flat cB F)::G'))=some (H++(.cel 0 (flat cB (F.set (i+1) t))::G')):=λG' t=>by
    rw[N5,Pi rfl (by rw[show flat cB F=F.map Ab.bool from by
     clear oO xF any hF hFlen
     induction F with
     |nil=>rfl
     |cons c l ih=>rw[D6,ih];rfl];simp;omega)]
    simp only[zXb]
    congr 3
    have e:∀l:List Bool,flat cB l=l.map Ab.bool:=λl=>by
     induction l with
     |nil=>rfl
     |cons c l ih=>rw[D6,ih];rfl
    rw[e,e,List.map_set]
   have next:=hrec (i+1,G++[.cel 0 (cNd L[i])]) hi (by dsimp only;omega)
   dsimp only at next
   rw[<-xF]at next
   simp only[GMw,HPw,Nat.reduceAdd,Nat.reduceLT,Co,FC,Fc,F5,Aj,aE,Az hi,IU,hsl,any,Av (show i<9223372036854775807 by omega),dD,hst,oO];exact next
  ·have aE:¬(i:Int)<(L.length:Int):=by omega
   have:i=L.length:=by omega
   subst this;rw[Wc,VZ,List.replicate_zero,VF];have mI:=Vbk (f:=cB) (l:=(A2 L).map (!·)) (H:=H++(.cel 0 (flat cB ((A2 L).map (!·)))::.cel 0 [.ms H.length 0 0 (L.length+1) (L.length+1) 1 true]::G)) (id:=H.length) (b:=H.length) (d:=5) (cap:=L.length+1) (ex:=true) (by simp) (Vo _);rw[W7,Da]at mI;simp only[GMw,HPw,Nat.reduceAdd,Nat.reduceLT,Aj,aE,mI]
theorem VlN (L:List Nd){n:Nat}(hn:n<L.length+1):((A2 L).map (!·)).getD n false = !(A2 L).getD n true:=by
 have h:n<(A2 L).length:=by rw[Da];exact hn
 rw[Vm,Vm,VK,Vl h];rfl
theorem Vgh (L:List Nd){n:Nat}(hn:n<L.length+1)(H:Aa)(K:IntKind):∃e,Aw 1 (.sl (enL cB ((A2 L).map (!·))) .no) (.int K (n:Int))=some e/\Ad false 1 e H=some (.bool (!(A2 L).getD n true)):=by
 have h:n<((A2 L).map (!·)).length:=by rw[W7,Da];exact hn
 refine⟨_,Az h,?_⟩;have e:=VlN L hn;rw[Vm,Vl h]at e;simp only[A0,zXh];rw[<-e];rfl
theorem Vg (L:List Nd)(tk:Tok)(n:Nat)(H:Aa)(hL:L.length<140737488355327)(hl:AH L=true)(hn:n<=L.length):Ucv (.sl (enL cNd L) tk) (.i6 (n:Int)) H=some (.ret (.bool ((A2 L).getD n true)),H):=by obtain⟨e,h1,h2⟩:=Vgh L (n:=n) (by omega) H .i64;unfold Ucv;simp only[GMw,HPw,Nat.reduceAdd,Nat.reduceLT,Vdi L tk H hL hl,h1,h2,Bool.not_not]
theorem VdY (L:List Nd)(tk:Tok)(n:Nat)(H:Aa)(hL:L.length<140737488355327)(hl:AH L=true)(hn:n<=L.length):Ucy (.sl (enL cNd L) tk) (.i6 (n:Int)) H=some (.ret (.bool (DP L n)),H):=by
 unfold Ucy DP;cases n with
 |zero=>simp only[GMw,HPw,Nat.reduceAdd,Nat.reduceLT,show ((0:Nat):Int)=0 from rfl,ne_eq,not_true_eq_false]
 |succ n=>
  have hi:n<L.length:=hn;have e0:¬((n+1:Nat):Int)=0:=by omega
  obtain⟨l1,l2,l3⟩:=AS hl hi;rw[FF rfl hi];generalize hx:L[n]=x at l1 l2 l3;have hw:IntKind.i64.wrap (((n+1:Nat):Int)-1)=(n:Int):=by rw[An] <;> omega
  simp only[GMw,HPw,Nat.reduceAdd,Nat.reduceLT,Co,FC,Fc,F5,e0,hw,Az hi,hx,Ay,A0];by_cases h2:x.lv=1
  ·have:¬2<=x.lv:=by omega
   simp only[h2,GMw,HPw,Nat.reduceAdd,Nat.reduceLT,show ¬(2:Int)<=1 from by decide]
  ·have nZ:2<=x.lv:=by omega
   simp only[h2,nZ,GMw,HPw,Nat.reduceAdd,Nat.reduceLT,Vdi L tk H hL hl,hw,Az hi,hx,Ay,VfM,ne_eq,Xh,not_false_eq_true];have key:=DA (G:=λrec1 vs H1=>Ucx H rec1 (ag vs 0) (ag vs 1) (ag vs 2) (ag vs 3) H1) 4 (λk=>decide (x.kid k=0)||(List.range 4).all (O5 L (A2 L) x k))
    (λk=>[.sl (enL cNd L) tk,.sl (enL cB ((A2 L).map (!·))) .no,.agg (IV x),.i6 (k:Int)]) H (some (.ret (.bool true),H)) (some (.ret (.bool false),H)) (by decide) (λrec k hk=>?_) (λrec=>?_)
   ·refine key.trans ?_;rw[show hol L (A2 L) x=(List.range 4).all λk=>decide (x.kid k=0)||(List.range 4).all (O5 L (A2 L) x k) from rfl];cases (List.range 4).all λk=>decide (x.kid k=0)||(List.range 4).all (O5 L (A2 L) x k) <;> rfl
   ·have hk':(k:Int)<4:=by omega
    obtain⟨q1,q2,q3⟩:=l3 k hk;have bD:IntKind.i64.wrap ((k:Int)+1)=((k+1:Nat):Int):=Av (by omega);unfold Ucx;simp only[GMw,Aj,hk',Vdq _ hk];by_cases hc:x.kid k=0
    ·simp only[hc,GMw,bD,if_true]
    ·obtain⟨m,hm⟩:∃m:Nat,x.kid k=((m+1:Nat):Int):=⟨(x.kid k-1).toNat,by omega⟩;have h1:1<x.lv:=by omega
     obtain⟨r1,r2⟩:=q3 h1 (by omega);have hml:m<L.length:=by omega
     have hy:=r2 L[m] (by rw[show (x.kid k-1).toNat=m from by omega];exact Vl hml);obtain⟨y1,y2,y3⟩:=AS hl hml;have hp:O5 L (A2 L) x k=λj=>decide (j=3-k)||(if x.lv=2 then decide (L[m].kid j=0)else (A2 L).getD (L[m].kid j).toNat true):=by funext j;unfold O5;rw[FF hm hml]
     have cT:IntKind.i64.wrap (((m+1:Nat):Int)-1)=(m:Int):=by rw[An] <;> omega
     have cF:¬((m+1:Nat):Int)=0:=by omega
     rw[hm];simp only[hp,cF,GMw,cT,Az hml,Ay,Vr,VfM];refine DA (G:=λaA vs H1=>Ucw H rec aA (ag vs 0) (ag vs 1) (ag vs 2) (ag vs 3) (ag vs 4) (ag vs 5) (ag vs 6) (ag vs 7) H1) 4 _
      (λj=>[.sl (enL cNd L) tk,.sl (enL cB ((A2 L).map (!·))) .no,.i6 (k:Int),.i6 ((m+1:Nat):Int),.agg (IV x),.i6 (k:Int),.agg (IV L[m]),.i6 (j:Int)]) H _ _ (by decide) (λaA j hj=>?_) (λaA=>?_)
     ·have hj':(j:Int)<4:=by omega
      have kC:IntKind.i64.wrap (3-(k:Int))=3-(k:Int):=An (by omega) (by omega);have qU:IntKind.i64.wrap ((j:Int)+1)=((j+1:Nat):Int):=Av (by omega);have sS:decide ((j:Int)=3-(k:Int))=decide (j=3-k):=by rw[V8];simp only[zXe];omega
      unfold Ucw;simp only[GMw,Aj,hj',Vdq _ hj,kC,sS];by_cases mC:j=3-k
      ·simp only[mC,GMw,if_true];simp only[<-mC,qU]
      ·by_cases hg:L[m].kid j=0
       ·have:(if x.lv=2 then decide (L[m].kid j=0)else (A2 L).getD (L[m].kid j).toNat true)=true:=by
         split
         ·simp[hg]
         ·rw[hg];exact E7 L
        simp only[mC,this,GMw,if_true];simp only[hg,qU,GMw]
       ·by_cases cA:L[m].lv=1
        ·have h22:x.lv=2:=by omega
         simp only[mC,h22,GMw,hg,cT,Az hml,Ay,A0,Vr,Co,cA,Vq,if_true,if_false]
        ·have h22:¬x.lv=2:=by omega
         obtain⟨s1,s2,s3⟩:=y3 j hj;have hlt:=(s3 (by omega) (by omega)).1;obtain⟨g,lC⟩:∃g:Nat,L[m].kid j=(g:Int):=⟨(L[m].kid j).toNat,by omega⟩;obtain⟨e,f1,f2⟩:=Vgh L (n:=g) (by omega) H .i64;rw[lC]at hg;simp only[mC,h22,GMw,lC,hg,cT,Az hml,Ay,A0,Vr,Co,cA,if_false,f1,f2,zXl];cases (A2 L).getD g true with
         |true=>simp only[GMw,if_true,qU]
         |false=>simp only[GMw,Vq,if_false]
     ·unfold Ucw;simp only[GMw,Aj,show ¬(((4:Nat):Int)<4) from by decide,bD]
   ·unfold Ucx;simp only[GMw,Aj,show ¬(((4:Nat):Int)<4) from by decide]
theorem VgU (L:List Nd)(tk:Tok)(n k:Nat)(H:Aa)(hL:L.length<140737488355327)(hl:AH L=true)(hn:n<L.length)(h2:2<=L[n].lv)(hk:k<4) :
  Uc0 (.sl (enL cNd L) tk) (.i6 ((n+1:Nat):Int)) (.i6 (k:Int)) H=some (.ret (.i6 (LX L L[n] k)),H):=by
 obtain⟨l1,l2,l3⟩:=AS hl hn;obtain⟨q1,q2,q3⟩:=l3 k hk;have hw:IntKind.i64.wrap (((n+1:Nat):Int)-1)=(n:Int):=by rw[An] <;> omega
 unfold Uc0 LX;simp only[GMw,hw,Az hn,Ay,FH hk,A0,Vr,V4,Fl hk];by_cases hc:L[n].kid k=0
 ·simp only[hc,GMw,show ¬((0:Int)>0) from by decide,if_true]
 ·obtain⟨m,hm⟩:∃m:Nat,L[n].kid k=((m+1:Nat):Int):=⟨(L[n].kid k-1).toNat,by omega⟩;obtain⟨r1,r2⟩:=q3 (by omega) (by omega);have hml:m<L.length:=by omega
  have cT:IntKind.i64.wrap (((m+1:Nat):Int)-1)=(m:Int):=by rw[An] <;> omega
  have kC:IntKind.i64.wrap (3-(k:Int))=((3-k:Nat):Int):=by rw[An] <;> omega
  have hgt:((m+1:Nat):Int)>0:=by omega
  have cF:¬((m+1:Nat):Int)=0:=by omega
  simp only[FF (c:=((m+1:Nat):Int)) rfl hml,hm,hgt,cF,GMw,cT,kC,Az hml,Ay,Vr,FH (show 3-k<4 by omega),A0,V4,Fl (show 3-k<4 by omega),if_false]
theorem Vmm (L:List Nd)(tk:Tok)(H:Aa)(hL:L.length<3518437208883):Ucq (.sl (enL cNd L) tk) H=some (if L=[]then (.ret (.sl [] .ti),H)else (.ret (.sl (enL cNd L) (.own H.length)),H++[.tok L.length AY 5])):=by
 have hb:AN 5 []=some (.sl (enL cNd []) .ti):=rfl;unfold Ucq;cases L with
 |nil=>have ha:Bf AY 5 40 (.sl (enL cNd []) .ti) (.sl (enL cNd []) tk) H=some (.sl (enL cNd []) .ti,H):=M5 (by simp[Cw,enL]);have hn:QV .eql (.sl (enL cNd []) tk)=some .ubool:=rfl;have hu:∀x:Out,Ak .ubool x x=x:=λx=>if_pos rfl;simp only[hn,GMw,hb,ha];exact hu _
 |cons x l=>
  have ha:Bf AY 5 40 (.sl (enL cNd []) .ti) (.sl (enL cNd (x::l)) tk) H=some (.sl (enL cNd (x::l)) (.own H.length),H++[.tok (x::l).length AY 5]):=by have:=Eu (f:=cNd) (l:=[]) (m:=x::l) (ty:=AY) (bytes:=40) (tk:=tk) (H:=H) (by simp) (by simp only[zXk];omega) (by simp only[zXk];omega);simpa using this
  have hn:QV .eql (.sl (enL cNd (x::l)) tk)=some (.bool false):=rfl;simp only[hn,GMw,hb,ha,reduceCtorEq,if_false]
theorem VdW (L:List Nd)(tk:Tok)(n:Nat)(H:Aa)(hL:L.length<3518437200000)(hl:AH L=true)(hn:n<=L.length) :
  Ubd (.sl (enL cNd L) tk) (.i6 (n:Int)) H=some (.ret (.tup [.sl (enL cNd (EM L n).1) .no,.i6 ((EM L n).2:Int)]),H):=by
 unfold Ubd;rw[Vmm L tk H (by omega)];by_cases h0:L=[]
 ·subst h0;have iT:n=0:=by simpa using hn
  subst iT;have he:=Vg [] .ti 0 H (by simp) hl (Vo _);have nS:(A2 ([]:List Nd)).getD 0 true=true:=rfl;have hs:EM [] 0=([],0):=rfl;rw[show Ab.sl (enL cNd []) .ti=Ab.sl [] .ti from rfl,nS]at he;rw[hs];have:=Oh (H0:=H) (v:=.tup [.sl [] .ti,.i6 0]);simp only[GMw,HPw,Nat.reduceAdd,Nat.reduceLT,if_true,he,this]
  rfl
 ·simp only[GMw,h0,if_false,Vg L _ n _ (show L.length<140737488355327 by omega) hl hn];unfold EM;cases gO:(A2 L).getD n true with
  |true=>simp only[GMw,HPw,Nat.reduceAdd,Nat.reduceLT,if_true];rfl
  |false=>
   simp only[GMw,HPw,Nat.reduceAdd,Nat.reduceLT,Vq,if_false];have aN:(A9 L n).lv<=1329:=by
    cases n with
    |zero=>exfalso;rw[E7]at gO;cases gO
    |succ m=>rw[Bb hn];exact (AS hl hn).2.1
   have key:=Br (G:=λrec1 vs H1=>UdI H rec1 (ag vs 0) (ag vs 1) H1) (σ:=List Nd×Nat×Aa) (λs=>AH s.1=true/\s.2.1<=s.1.length/\s.1.length+(A9 s.1 s.2.1).lv.toNat<3518437208883/\s.1.length+(A9 s.1 s.2.1).lv.toNat<3518437208883)
    (λs=>[.sl (enL cNd s.1) (.own H.length),.i6 (s.2.1:Int)]) (λs=>H++.tok s.1.length AY 5::s.2.2) (λs=>(A9 s.1 s.2.1).lv.toNat)
    (λs=>some (.ret (.tup [.sl (enL cNd (C8 (A9 s.1 s.2.1).lv.toNat s.1 s.2.1).1) .no,.i6 ((C8 (A9 s.1 s.2.1).lv.toNat s.1 s.2.1).2:Int)]),H)) (λs rec hs hrec=>?_) (L,n,[]) ⟨hl,hn,by dsimp only;omega,by dsimp only;omega⟩ (by dsimp only;omega)
   ·exact key
   ·obtain⟨M,i,G⟩:=s;obtain⟨hs1,pJ,wU,zG⟩:=hs;simp only at hs1 pJ wU zG hrec ⊢;unfold UdI;simp only[GMw,Aj,VdY M _ i _ (show M.length<140737488355327 by omega) hs1 pJ];cases hh:DP M i with
    |false=>
     have:C8 (A9 M i).lv.toNat M i=(M,i):=by
      cases (A9 M i).lv.toNat with
      |zero=>rfl
      |succ f=>simp[C8,hh]
     simp only[GMw,HPw,Nat.reduceAdd,Nat.reduceLT,this]
    |true=>
     obtain⟨jE,kR⟩:=PF hh;obtain⟨m,rfl⟩:∃m,i=m+1:=⟨i-1,by omega⟩;have hm:m<M.length:=pJ;obtain⟨l1,l2,l3⟩:=AS hs1 hm;have hx:A9 M ((m+1:Nat):Int)=M[m]:=Bb hm;rw[hx]at kR wU hrec ⊢;have cT:IntKind.i64.wrap (((m+1:Nat):Int)-1)=(m:Int):=by rw[An] <;> omega
     have lN:IntKind.i64.wrap (M[m].lv-1)=M[m].lv-1:=An (by omega) (by omega);have zE:C8 M[m].lv.toNat M (m+1)=C8 (M[m].lv-1).toNat (M++[CI M (m+1)]) (M.length+1):=by rw[show M[m].lv.toNat=(M[m].lv-1).toNat+1 from by omega];simp only[C8,hh,if_true]
     generalize hB:H++.tok M.length AY 5::G=B;simp only[GMw,Ay,Ae,A0,Vr,Nat.add_zero,V4,Co,cT,Az hm,lN,Vjw,Vdp,Pj (Ap (B:=B) (cs:=cNd nd0)) rfl,Bt];refine CA (G:=λaA vs H1=>Uc1 H rec aA (ag vs 0) (ag vs 1) (ag vs 2) (ag vs 3) H1) 4 (λk=>[.sl (enL cNd M) (.own H.length),.i6 ((m+1:Nat):Int),.ptr B.length 0 0,.i6 (k:Int)]) (λk=>B++[.cel 0 (cNd (Vh4 (LX M M[m]) ⟨M[m].lv-1,0,0,0,0⟩ k))]) _ (by decide) (λaA k hk=>?_) (λaA=>?_)
     ·have hk':(k:Int)<4:=by omega
      unfold Uc1;have vI:=VgU M (.own H.length) m k (B++[.cel 0 (cNd (Vh4 (LX M M[m]) ⟨M[m].lv-1,0,0,0,0⟩ k))]) (by omega) hs1 hm kR hk;simp only[GMw,Aj,hk',vI,Ae,Vr,LY hk,Il (Ap (B:=B)) hk,Bt,Av (show k<9223372036854775807 by omega)]
      rfl
     ·have hf:¬(((4:Nat):Int)<4):=by decide
      have rH:(⟨M[m].lv-1,LX M M[m] 0,LX M M[m] 1,LX M M[m] 2,LX M M[m] 3⟩:Nd)=CI M (m+1):=by unfold CI;rw[hx]
      unfold Uc1;rw[VeB];simp only[GMw,Aj,hf,J2 (Ap (B:=B)),OW];rw[<-hB,Vu,List.cons_append,Vhd (by omega)];simp only[GMw,Ax,Vs,zXi,rH];have kT:(A9 (M++[CI M (m+1)]) ((M.length+1:Nat):Int)).lv=M[m].lv-1:=by rw[Bb (by simp),show (M++[CI M (m+1)])[M.length]'(by simp)=CI M (m+1) from by simp];show (A9 M ((m+1:Nat):Int)).lv-1=_;rw[hx]
      have:=hrec (M++[CI M (m+1)],M.length+1,G++[.cel 0 (cNd (CI M (m+1)))]) ⟨PE hs1 hm kR,by simp,by dsimp only;rw[kT];simp;omega,by dsimp only;rw[kT];simp;omega⟩ (by dsimp only;rw[kT];omega);simp only[Vs,zXi]at this;rw[this,kT,zE]
section
variable {α β:Type}{f:α->List Ab}{g:β->List Ab}{ty ty2:TypeId}{sz sz2:Nat}
structure VpF (v v':Ab)(H H':Aa):Prop where
 len:H.length<=H'.length
 keep:∀i,i<H.length->(∀es,v≠.sl es (.own i))->H'[i]? = H[i]?
 own:∀i es,v'=.sl es (.own i)->H.length<=i\/∃es',v=.sl es' (.own i)
theorem RS.snoc2 [hf:Sz f sz]{bytes b:Nat}{out:List α}{v:Ab}{H:Aa}(h:RS f ty sz b out v H)(hb:b<=H.length)(x:α)(tk:Tok)(hl:(out.length+1)*bytes<=140737488355328)(eO:out.length+1<=140737488355328) :
  ∃v' H',Bf ty sz bytes v (.sl (enL f [x]) tk) H=some (v',H')/\RS f ty sz b (out++[x]) v' H'/\Kp b H H'/\VpF v v' H H':=by
 rcases h with ⟨rfl,rfl⟩ | ⟨t,h1,rfl,h3⟩
 ·have:=Eu (f:=f) (l:=[]) (m:=[x]) (ty:=ty) (bytes:=bytes) (tk:=tk) (H:=H) (by simp) (by simpa using hl) (by simp);refine⟨_,_,this,.inr ⟨H.length,hb,rfl,by simp⟩,Kp.app hb _,by simp,λi hi _=>Vp hi,λi es e=>?_⟩;injection e with _ e;injection e with e;exact .inl (by omega)
 ·have:=FS (f:=f) (l:=out) (m:=[x]) (ty:=ty) (bytes:=bytes) (tk:=tk) (H:=H) (t:=t) (by simp) h3 (by simpa using hl) (by simpa using eO);have gY:=(Vn.1 h3).1;refine⟨_,_,this,.inr ⟨t,h1,rfl,by simp[gY]⟩,⟨by simp,λi cs hc=>?_,λi hi=>?_⟩,by simp,λi hi hne=>?_,λi es e=>?_⟩
  ·have:t≠i:=λe=>by rw[<-e,h3]at hc;cases hc
   rw[Vt this];exact hc
  ·rw[Vt (by omega)]
  ·have:t≠i:=λe=>hne _ (by rw[e]);rw[Vt this]
  ·injection e with _ e;injection e with e;exact .inr ⟨_,by rw[e]⟩
theorem RS.notok {b i:Nat}{out:List α}{v:Ab}{H:Aa}{B:Blk}(h:RS f ty sz b out v H)(hB:H[i]? = some B)(hn:∀n e s,B≠.tok n e s):∀es,v≠.sl es (.own i):=by
 intro es e;rcases h with ⟨_,k1⟩ | ⟨t,_,k1,k2⟩
 ·rw[k1]at e;injection e with _ e;cases e
 ·rw[k1]at e;injection e with _ e;injection e with e
  rw[e,hB]at k2;injection k2 with k2
  exact hn _ _ _ k2
theorem RS.setB {b i:Nat}{out:List α}{v:Ab}{H:Aa}{B B':Blk}(h:RS f ty sz b out v H)(hB:H[i]? = some B)(hn:∀n e s,B≠.tok n e s):RS f ty sz b out v (H.set i B'):=by
 have hne:=h.notok hB hn;rcases h with h1 | ⟨t,h1,h2,h3⟩
 ·exact .inl h1
 ·refine .inr ⟨t,h1,h2,?_⟩;have:i≠t:=λe=>hne _ (by rw[h2,e]);rw[Vt this];exact h3
theorem RS.one {b:Nat}{out:List α}{v:Ab}{H:Aa}(h:RS f ty sz b out v H):v.isScal=true:=by obtain⟨tk,rfl⟩:=h.sl;rfl
theorem RS.len {b:Nat}{out:List α}{v:Ab}{H:Aa}(h:RS f ty sz b out v H):A5 v=some (.i6 (out.length:Int)):=by obtain⟨tk,rfl⟩:=h.sl;exact Ax

end
theorem Vit:∀(N:Nat) (l:zAb),l.Nodup->(∀x∈l,x<N)->l.length<=N:=by
 intro N
 induction N with
 |zero=>
  intro l _ h;cases l with
  |nil=>simp
  |cons a l=>have:=h a (by simp);omega
 |succ N ih=>
  intro l hn h;by_cases hN:N∈l
  ·have h1:=List.length_erase_of_mem hN;have h2:=ih (l.erase N) (hn.erase N) (λx hx=>by rw[hn.mem_erase_iff]at hx;have:=h x hx.2;omega);have:=List.length_pos_of_mem hN;omega
  ·have:=ih l hn (λx hx=>by have:=h x hx;have:x≠N:=λe=>hN (e ▸ hx);omega);omega
def knF:Nat->List Nd->List (Ab×Ab)
 |_,[]=>[]
 |s,x::l=>(.agg (cNd x),.i6 ((s+1:Nat):Int))::knF (s+1) l
theorem SM (a:Nd)(l:List Nd)(y:Nd):Cm (a::l) y=if a=y then 1 else if Cm l y=0 then 0 else Cm l y+1:=by
 by_cases h:a=y
 ·rw[if_pos h,Ek];exact⟨by simp[h],λj hj=>by omega⟩
 ·rw[if_neg h];cases hf:Cm l y with
  |zero=>
   rw[if_pos rfl,I4];rw[I4]at hf;intro hm;rcases Wf.1 hm with e | e
   ·exact h e.symm
   ·exact hf e
  |succ i=>
   rw[if_neg (by omega),Ek];rw[Ek]at hf;refine⟨by simpa using hf.1,λj hj=>?_⟩;cases j with
   |zero=>simpa using h
   |succ j=>simpa using hf.2 j (by omega)
theorem Vc1 (y:Nd):DU true 5 (.agg (cNd y))=some (cNd y):=(rfl)
theorem UB (y:Nd):∀(l:List Nd) (s:Nat),EH true 5 (knF s l) (cNd y)=some (if Cm l y=0 then none else some (.i6 ((s+Cm l y:Nat):Int)))
 |[],s=>by
  have:Cm [] y=0:=by rw[I4];simp
  simp[knF,EH,this]
 |a::l,s=>by
  have ih:=UB y l (s+1);simp only[knF,EH,Vc1,BB,OP];rw[SM];by_cases h:a=y
  ·subst h;simp
  ·have h':¬y=a:=λe=>h e.symm;rw[zXd h',if_neg h];simp only[Vq,if_false,ih];by_cases h0:Cm l y=0
   ·simp[h0]
   ·rw[if_neg h0,if_neg (by rw[if_neg h0];omega),if_neg h0]
    congr 3;omega
theorem Ub (y:Nd):∀(l:List Nd) (s:Nat),Cm l y=0->D7 true 5 (knF s l) (.agg (cNd y)) (cNd y) (.i6 ((s+l.length+1:Nat):Int))=some (knF s (l++[y]))
 |[],s,_=>rfl
 |a::l,s,h=>by
  rw[SM]at h;by_cases ha:a=y
  ·rw[if_pos ha]at h;omega
  ·rw[if_neg ha]at h;have h0:Cm l y=0:=by
    by_cases h0:Cm l y=0
    ·exact h0
    ·rw[if_neg h0]at h;omega
   have h':¬y=a:=λe=>ha e.symm;have ih:=Ub y l (s+1) h0;simp only[knF,D7,Vc1,BB,OP,List.cons_append];rw[zXd h'];simp only[Vq,if_false];rw[zXj,show s+(l.length+1)+1=s+1+l.length+1 by omega,ih]
   rfl
def dnM (D:List (Nat×Nat)):List (Ab×Ab):=D.map λp=>(.i6 (p.1:Int),.i6 (p.2:Int))
def lkD (D:List (Nat×Nat))(n:Nat):Option Nat:=match D with
 |[]=>none
 |p::r=>if p.1=n then some p.2 else lkD r n
theorem VfI {n m:Nat}:∀ {D:List (Nat×Nat)},lkD D n=some m->(n,m)∈D
 |[],h=>by cases h
 |p::r,h=>by
  unfold lkD at h;by_cases hp:p.1=n
  ·rw[if_pos hp]at h;injection h with h;subst hp;subst h;exact XF
  ·rw[if_neg hp]at h;exact List.mem_cons_of_mem _ (VfI h)
theorem Vcw {n:Nat}:∀ {D:List (Nat×Nat)},lkD D n=none->n ∉ D.map (·.1)
 |[],h=>by simp
 |p::r,h=>by
  unfold lkD at h;by_cases hp:p.1=n
  ·rw[if_pos hp]at h;cases h
  ·rw[if_neg hp]at h;have:=Vcw h;simp only[WT,Wf,not_or];exact⟨λe=>hp e.symm,this⟩
theorem VaZ {n:Nat}{p:Nat×Nat}:∀ {D:List (Nat×Nat)},lkD (D++[p]) n=(match lkD D n with | some m=>some m | none=>if p.1=n then some p.2 else none)
 |[]=>by simp[lkD]
 |q::r=>by
  have ih:=VaZ (n:=n) (p:=p) (D:=r);simp only[List.cons_append,lkD];by_cases hq:q.1=n
  ·simp only[if_pos hq]
  ·simp only[if_neg hq,ih]
theorem Vcp (a b:Nat):BM [.i6 (a:Int)] [.i6 (b:Int)]=some (decide (a=b)):=by
 simp only[BM,GZ,if_true,BB]
 congr 1
 rw[V8];simp;omega
theorem Rs (a:Int):DU false 1 (.i6 a)=some [.i6 a]:=(rfl)
theorem UC (n:Nat):∀D:List (Nat×Nat),EH false 1 (dnM D) [.i6 (n:Int)]=some ((lkD D n).map λm=>Ab.i6 (m:Int))
 |[]=>rfl
 |p::r=>by
  have ih:=UC n r;simp only[dnM,WT,EH,Rs,BB,Vcp,lkD];by_cases hp:p.1=n
  ·subst hp;simp
  ·have:¬n=p.1:=λe=>hp e.symm;rw[zXd this,if_neg hp];simpa[dnM]using ih
theorem Uc (n m:Nat):∀D:List (Nat×Nat),lkD D n=none->D7 false 1 (dnM D) (.i6 (n:Int)) [.i6 (n:Int)] (.i6 (m:Int))=some (dnM (D++[(n,m)]))
 |[],_=>rfl
 |p::r,h=>by
  unfold lkD at h;by_cases hp:p.1=n
  ·rw[if_pos hp]at h;cases h
  ·rw[if_neg hp]at h;have ih:=Uc n m r h;have:¬n=p.1:=λe=>hp e.symm;simp only[dnM,WT,D7,Rs,BB,Vcp,List.cons_append]at ih ⊢;rw[zXd this];simp only[Vq,if_false,ih]
   rfl
theorem Vct {H:Aa}{id:Nat}{D:List (Nat×Nat)}(h:H[id]? = some (.map (dnM D)))(n:Nat):Fi false 1 (some (.i6 0)) true (.mp id) (.i6 (n:Int)) H=some (match lkD D n with | some m=>.tup [.i6 (m:Int),.bool true] | none=>.tup [.i6 0,.bool false]):=by unfold Fi;simp only[BB,Rs,h,UC,zXb];cases lkD D n <;> rfl
theorem Vel {H:Aa}{id:Nat}{D:List (Nat×Nat)}(h:H[id]? = some (.map (dnM D))){n:Nat}(m:Nat)(hn:lkD D n=none):Ec false 1 (.mp id) (.i6 (n:Int)) (.i6 (m:Int)) H=some (H.set id (.map (dnM (D++[(n,m)])))):=by unfold Ec;simp only[BB,Rs,h,Uc n m D hn,zXb]
theorem Vi3 {H:Aa}{id:Nat}{out:List Nd}(h:H[id]? = some (.map (knF 0 out)))(y:Nd):Fi true 5 (some (.i6 0)) true (.mp id) (.agg (cNd y)) H=some (if Cm out y=0 then .tup [.i6 0,.bool false]else .tup [.i6 (Cm out y:Int),.bool true]):=by unfold Fi;simp only[BB,Vc1,h,UB,zXb,Vr];by_cases h0:Cm out y=0 <;> simp[h0]
theorem Vkv {H:Aa}{id:Nat}{out:List Nd}(h:H[id]? = some (.map (knF 0 out))){y:Nd}(hn:Cm out y=0):Ec true 5 (.mp id) (.agg (cNd y)) (.i6 ((out.length+1:Nat):Int)) H=some (H.set id (.map (knF 0 (out++[y])))):=by have:=Ub y out 0 hn;rw[Vr]at this;unfold Ec;simp only[BB,Vc1,h,this,zXb]
def Ka (y:Nd):Bool:=decide (y.k0=0)&&(decide (y.k1=0)&&(decide (y.k2=0)&&decide (y.k3=0)))
theorem Vg0 (y:Nd):Af (.flat 4) .eql (.agg (IV y)) (.agg [.i6 0,.i6 0,.i6 0,.i6 0])=some (.bool (Ka y)):=by
 show (eqA (.flat 4) (.agg (IV y)) (.agg [.i6 0,.i6 0,.i6 0,.i6 0])).map Ab.bool=_;have h:eqA (.flat 4) (.agg (IV y)) (.agg [.i6 0,.i6 0,.i6 0,.i6 0])=some (Ka y):=by
  unfold eqA;simp only[];rw[if_pos (show (IV y).length=4 from rfl)];simp only[IV,BM,GZ,if_true,BB,Bool.and_true,Fm]
  rfl
 rw[h];rfl
def HT (out:List Nd)(y:Nd):List Nd×Nat:=if Ka y then (out,0)else BE out y
structure AR (b ar km:Nat)(out:List Nd)(v:Ab)(H:Aa):Prop where
 cell:H[ar]? = some (.cel 0 [v,.mp km])
 row:RS cNd AY 5 b out v H
 known:H[km]? = some (.map (knF 0 out))
structure AX (b ar km:Nat)(H H':Aa):Prop where
 len:H.length<=H'.length
 cel:∀(i:Nat) (cs:List Ab),i≠ar->H[i]? = some (.cel 0 cs)->H'[i]? = some (.cel 0 cs)
 map:∀(i:Nat) (es:List (Ab×Ab)),i≠km->H[i]? = some (.map es)->H'[i]? = some (.map es)
 old:∀i,i<b->H'[i]? = H[i]?
theorem AX.trans {b ar km:Nat}{H H1 H2:Aa}(h:AX b ar km H H1)(k:AX b ar km H1 H2):AX b ar km H H2:=
 ⟨VM h.len k.len,λi cs hi hc=>k.cel i cs hi (h.cel i cs hi hc),λi es hi hc=>k.map i es hi (h.map i es hi hc),λi hi=>(k.old i hi).trans (h.old i hi)⟩
theorem AX.push {b ar km:Nat}{H:Aa}(hb:b<=H.length)(G:Aa):AX b ar km H (H++G):=
 ⟨by simp,λi cs _ h=>AK h,λi es _ h=>AK h,λi hi=>Vp (by omega)⟩
theorem AR.push {b ar km:Nat}{out:List Nd}{v:Ab}{H:Aa}(h:AR b ar km out v H)(G:Aa):AR b ar km out v (H++G):=
 ⟨AK h.cell,h.row.left G,AK h.known⟩
theorem VdX {b ar km:Nat}{out:List Nd}{v:Ab}{H:Aa}(h:AR b ar km out v H)(hba:b<=ar)(Zt:b<=km)(hb:b<=H.length)(y:Nd)(ho:out.length<3000000000000) :
  ∃v' H',Ube (.ptr ar 0 0) (.agg (cNd y)) H=some (.ret (.i6 ((HT out y).2:Int)),H')/\AR b ar km (HT out y).1 v' H'/\AX b ar km H H':=by
 have hB:b<=(H++[Blk.cel 0 (cNd y)]).length:=by simp;omega
 have h1:=h.push [.cel 0 (cNd y)];have e1:AX b ar km H (H++[.cel 0 (cNd y)]):=AX.push hb _;have iD:AD (some [(.i6 0),(.i6 0),(.i6 0),(.i6 0)]) []=some (.agg [.i6 0,.i6 0,.i6 0,.i6 0]):=rfl;unfold Ube HT;have l0:=Cu (o:=0) (sz:=1) h1.cell;have l1:=Cu (o:=1) (sz:=1) h1.cell;cases hz:Ka y with
 |true=>simp only[GMw,HPw,Nat.reduceAdd,Nat.reduceLT,Co,FC,Fc,F5,iD,Vg0,hz,if_true];exact⟨v,_,rfl,h1,e1⟩
 |false=>
  simp only[GMw,HPw,Nat.reduceAdd,Nat.reduceLT,Co,FC,Fc,F5,iD,Vg0,hz,l1,Fj,J7,Vi3 h1.known,Vq,if_false];unfold BE;by_cases h0:Cm out y=0
  ·obtain⟨v',H2,ha,hr,hk,hg⟩:=RS.snoc2 (bytes:=40) h1.row hB y .ti (by omega) (by omega);have eZ:=hk.cel _ _ h1.cell;have hst:=GM (o:=0) (v:=v') eZ hr.one (by simp);have xN:km≠ar:=λe=>by have:=h.known;rw[e,h.cell]at this;cases this
   have wB:ar<H.length:=(Vn.1 h.cell).1;have cR:km<H.length:=(Vn.1 h.known).1;have kY:∀es,v≠.sl es (.own km):=h.row.notok (B:=.map (knF 0 out)) h.known (λ_ _ _ e=>by cases e);have hk2:H2[km]? = some (.map (knF 0 out)):=by rw[hg.keep km (by simp;omega) kY];exact h1.known
   have hH1:H.length≠ar:=by omega
   have hbox:H2[H.length]? = some (.cel 0 (cNd y)):=hk.cel _ _ Ap;have eO:ar<H2.length:=(Vn.1 eZ).1;have vD:km<H2.length:=(Vn.1 hk2).1;obtain⟨H3,hH3⟩:∃H3,H3=H2.set ar (.cel 0 ([v,.mp km].set 0 v')):=⟨_,rfl⟩;rw[<-hH3]at hst;have mK:H3[ar]? = some (.cel 0 [v',.mp km]):=by rw[hH3,V0 eO];rfl
   have hk3:H3[km]? = some (.map (knF 0 out)):=by rw[hH3,Vt (Ne.symm xN)];exact hk2
   have Zb:H3[H.length]? = some (.cel 0 (cNd y)):=by rw[hH3,Vt (Ne.symm hH1)];exact hbox
   have l30:=Cu (o:=0) (sz:=1) mK;have l31:=Cu (o:=1) (sz:=1) mK;have aR:=Vkv hk3 h0;obtain⟨H4,hH4⟩:∃H4,H4=H3.set km (.map (knF 0 (out++[y]))):=⟨_,rfl⟩;rw[<-hH4]at aR;have lH:H4[ar]? = some (.cel 0 [v',.mp km]):=by rw[hH4,Vt xN];exact mK
   have l40:=Cu (o:=0) (sz:=1) lH;have hlen:=hr.len;rw[Vs,zXi]at hlen;refine⟨v',H4,?_,⟨lH,?_,?_⟩,e1.trans ⟨?_,λi cs hi hc=>?_,λi es hi hc=>?_,λi hi=>?_⟩⟩
   ·simp only[h0,if_true,GMw,HPw,Nat.reduceAdd,Nat.reduceLT,l0,Fj,J7,Co,FC,Fc,F5,OW,ha,hst,l30,l31,J2 Zb,hlen,aR,l40]
   ·have r3:RS cNd AY 5 b (out++[y]) v' H3:=by rw[hH3];exact hr.put eZ
    rw[hH4,if_pos h0];exact r3.setB hk3 (λ_ _ _ e=>by cases e)
   ·rw[hH4,V0 (by rw[hH3,zYa];exact vD)];simp only[h0,if_true]
   ·rw[hH4,zYa,hH3,zYa];exact hk.len
   ·have c2:=hk.cel i cs hc;have hik:i≠km:=λe=>by rw[e,hk2]at c2;cases c2
    rw[hH4,Vt (Ne.symm hik),hH3,Vt (Ne.symm hi)];exact c2
   ·have zZ:i≠ar:=λe=>by rw[e,h1.cell]at hc;cases hc
    have hil:i<(H++[Blk.cel 0 (cNd y)]).length:=(Vn.1 hc).1;have dI:∀es',v≠.sl es' (.own i):=h1.row.notok hc (λ_ _ _ e=>by cases e);rw[hH4,Vt (Ne.symm hi),hH3,Vt (Ne.symm zZ),hg.keep i hil dI];exact hc
   ·rw[hH4,Vt (by omega),hH3,Vt (by omega)];exact hk.old i hi
  ·simp only[h0,if_false,GMw,HPw,Nat.reduceAdd,Nat.reduceLT];exact⟨v,_,rfl,h1,e1⟩
theorem NF (y:Nd):Ka y=(List.range 4).all λk=>decide (y.kid k=0):=by
 rw[Hy];simp only[Ka,Bool.and_assoc]
 rfl
theorem J3 {L:List Nd}{v n:Nat}{out:List Nd}(h:n=0\/(A2 L).getD n true=true):Bk L (A2 L) v n out=(out,0):=by
 have he:(A2 L).getD n true=true:=by
  rcases h with h | h
  ·rw[h];exact E7 L
  ·exact h
 cases v with
 |zero=>rfl
 |succ v=>simp only[Bk,he,if_true]
theorem ViB {L:List Nd}{v n:Nat}{out:List Nd}(h:(A2 L).getD n true=false):0<(Bk L (A2 L) (v+1) n out).2:=by
 simp only[Bk,h,Vq,if_false];split
 ·exact LG _ _
 ·exact LG _ _
theorem PD (rec:Nat->List Nd->List Nd×Nat)(x:Nd)(out:List Nd):∀k,k<=4->∀j,j<k->(BR rec x k out).2.kid j=((rec (x.kid j).toNat (BR rec x j out).1).2:Int)
 |0,_,j,h=>by omega
 |k+1,hk,j,h=>by
  simp only[BR];by_cases e:j=k
  ·subst e;rw[Q5 _ _ (by omega)]
  ·rw[Gk _ _ (by omega) (by omega) e];exact PD rec x out k (by omega) j (by omega)
theorem UK {L:List Nd}{v:Nat}(x:Nd)(out:List Nd)(h:∀k,k<4->(x.kid k).toNat=0\/(A2 L).getD (x.kid k).toNat true=true):∀k,k<=4->(BR (Bk L (A2 L) v) x k out).1=out
 |0,_=>rfl
 |k+1,hk=>by simp only[BR];rw[J3 (h k (by omega))];exact UK x out h k (by omega)
theorem VdJ {L:List Nd}(hl:AH L=true){m v:Nat}(hm:m<L.length)(hv:L[m].lv.toNat=v+1)(out:List Nd) :
  HT (BR (Bk L (A2 L) v) L[m] (if 1<L[m].lv then 4 else 0) out).1 (BR (Bk L (A2 L) v) L[m] (if 1<L[m].lv then 4 else 0) out).2=Bk L (A2 L) (v+1) (m+1) out:=by
 obtain⟨l1,l2,l3⟩:=AS hl hm;have hx:A9 L ((m+1:Nat):Int)=L[m]:=Bb hm;have he:=OL hl (n:=m+1) (by omega) hm;rw[hx]at he;by_cases h1:1<L[m].lv
 ·rw[if_pos h1];cases hE:(A2 L).getD (m+1) true with
  |true=>
   rw[hE]at he;have hk:∀k,k<4->(L[m].kid k).toNat=0\/(A2 L).getD (L[m].kid k).toNat true=true:=λk hk=>by
    have:=V7.1 he.symm k (by simpa using hk);simp only[Wn,zXe,Vx]at this;rcases this with h | h
    ·left;rw[h];rfl
    ·exact .inr h.2
   have hn:Ka (BR (Bk L (A2 L) v) L[m] 4 out).2=true:=by
    rw[NF,V7];intro k hk';have cK:k<4:=by simpa using hk'
    rw[zXe,PD _ _ _ 4 (by omega) k cK,J3 (hk k cK)];rfl
   unfold HT;rw[hn,if_pos rfl,UK _ _ hk 4 (by omega)];simp only[Bk,hE,if_true]
  |false=>
   rw[hE]at he;have:¬ ∀k,k<4->(L[m].kid k=0\/(A2 L).getD (L[m].kid k).toNat true=true):=λh=>by
    have:((List.range 4).all λk=>decide (L[m].kid k=0)||(decide (1<L[m].lv)&&(A2 L).getD (L[m].kid k).toNat true))=true:=by
     rw[V7];intro k hk;have:=h k (by simpa using hk);simp only[Wn,zXe,Vx];rcases this with q | q
     ·exact .inl q
     ·exact .inr ⟨h1,q⟩
    rw[this]at he;cases he
   have ⟨k,cK,dX⟩:∃k,k<4/\¬(L[m].kid k=0\/(A2 L).getD (L[m].kid k).toNat true=true):=by
    by_cases h:∃k,k<4/\¬(L[m].kid k=0\/(A2 L).getD (L[m].kid k).toNat true=true)
    ·exact h
    ·exact absurd (λk hk=>Decidable.byContradiction λhc=>h ⟨k,hk,hc⟩) this
   have hn:Ka (BR (Bk L (A2 L) v) L[m] 4 out).2=false:=by
    rw[NF,Xd];refine⟨k,by simpa using cK,?_⟩;rw[zXe,PD _ _ _ 4 (by omega) k cK];obtain⟨v',rfl⟩:∃v',v=v'+1:=⟨v-1,by omega⟩;have:=ViB (L:=L) (v:=v') (n:=(L[m].kid k).toNat) (out:=(BR (Bk L (A2 L) (v'+1)) L[m] k out).1) (by
     cases hq:(A2 L).getD (L[m].kid k).toNat true with
     |false=>rfl
     |true=>exact absurd (.inr hq) dX)
    omega
   unfold HT;rw[hn];simp only[Bk,hE,Vq,if_false,hx,if_pos h1]
 ·rw[if_neg h1];have hn:Ka L[m]=(A2 L).getD (m+1) true:=by rw[he,NF,Hy,Hy];simp[h1]
  unfold HT;simp only[BR,Bk,hn,hx,if_neg h1]
structure Vo0 where
 b:Nat
 pd:Nat
 pl:Nat
 pv:Nat
 pa:Nat
 ar:Nat
 km:Nat
 dm:Nat
structure VQ (s:Vo0)(L:List Nd)(tk:Tok)(out:List Nd)(D:List (Nat×Nat))(H:Aa):Prop where
 hb:s.b<=s.ar/\s.b<=s.km/\s.b<=s.dm/\s.km≠s.dm
 ne:s.pd≠s.ar/\s.pl≠s.ar/\s.pv≠s.ar/\s.pa≠s.ar
 done:H[s.pd]? = some (.cel 0 [.mp s.dm])
 list:H[s.pl]? = some (.cel 0 [.sl (enL cNd L) tk])
 self:H[s.pv]? = some (.cel 0 [.fn 161 [.ptr s.pd 0 0,.ptr s.pl 0 0,.ptr s.pv 0 0,.ptr s.pa 0 0]])
 arena:H[s.pa]? = some (.cel 0 [.ptr s.ar 0 0])
 nodes:∃v,AR s.b s.ar s.km out v H
 nums:H[s.dm]? = some (.map (dnM D))
structure VD (L out:List Nd)(D:List (Nat×Nat)):Prop where
 nd:(D.map (·.1)).Nodup
 le:∀p∈D,p.1<=L.length
 val:∀p∈D,Bk L (A2 L) (A9 L (p.1:Int)).lv.toNat p.1 out=(out,p.2)
 cnt:out.length<D.length
 zero:lkD D 0=some 0
theorem VD.short {L out:List Nd}{D:List (Nat×Nat)}(h:VD L out D):out.length<=L.length:=by
 have:=Vit (L.length+1) (D.map (·.1)) h.nd (λx hx=>by obtain⟨p,hp,rfl⟩:=WM.1 hx;have:=h.le p hp;omega);rw[W7]at this;have:=h.cnt;omega
theorem VQ.len {s:Vo0}{L:List Nd}{tk:Tok}{out:List Nd}{D:List (Nat×Nat)}{H:Aa}(h:VQ s L tk out D H):s.b<=H.length:=by obtain⟨v,h1⟩:=h.nodes;have:=(Vn.1 h1.cell).1;have:=h.hb.1;omega
theorem VQ.cells {s:Vo0}{L:List Nd}{tk:Tok}{out:List Nd}{D:List (Nat×Nat)}{H H':Aa}(h:VQ s L tk out D H)(hk:∀i,i<H.length->H'[i]? = H[i]?)(hl:H.length<=H'.length):VQ s L tk out D H':=by
 have g:∀ {i:Nat} {x:Blk},H[i]? = some x->H'[i]? = some x:=λhx=>by rw[hk _ (Vn.1 hx).1];exact hx
 obtain⟨v,h1⟩:=h.nodes;refine⟨h.hb,h.ne,g h.done,g h.list,g h.self,g h.arena,⟨v,g h1.cell,?_,g h1.known⟩,g h.nums⟩;rcases h1.row with r | ⟨t,r1,r2,r3⟩
 ·exact .inl r
 ·exact .inr ⟨t,r1,r2,g r3⟩
theorem VQ.put {s:Vo0}{L:List Nd}{tk:Tok}{out:List Nd}{D:List (Nat×Nat)}{H:Aa}{q:Nat}{x y:Nd}(h:VQ s L tk out D H)(hq:H[q]? = some (.cel 0 (cNd x))):VQ s L tk out D (H.set q (.cel 0 (cNd y))):=by
 obtain⟨v,h1⟩:=h.nodes;have n5:∀ {i:Nat} {c:List Ab},H[i]? = some (.cel 0 c)->c.length≠5->(H.set q (.cel 0 (cNd y)))[i]? = some (.cel 0 c):=λ{i c} hi hc=>by
  have:q≠i:=λe=>by rw[e,hi]at hq;injection hq with hq;injection hq with _ hq;rw[hq]at hc;exact hc rfl
  rw[Vt this];exact hi
 have nm:∀ {i:Nat} {es:List (Ab×Ab)},H[i]? = some (.map es)->(H.set q (.cel 0 (cNd y)))[i]? = some (.map es):=λ{i es} hi=>by
  have:q≠i:=λe=>by rw[e,hi]at hq;cases hq
  rw[Vt this];exact hi
 exact⟨h.hb,h.ne,n5 h.done (by simp),n5 h.list (by simp),n5 h.self (by simp),n5 h.arena (by simp),⟨v,n5 h1.cell (by simp),h1.row.put hq,nm h1.known⟩,nm h.nums⟩
theorem VD.grow {L out:List Nd}{D:List (Nat×Nat)}(h:VD L out D)(r:List Nd):∀p∈D,Bk L (A2 L) (A9 L (p.1:Int)).lv.toNat p.1 (out++r)=(out++r,p.2):=by
 intro p hp;have h3:=h.val p hp;have:=Iz (L:=L) (E:=A2 L) (A9 L (p.1:Int)).lv.toNat p.1 out r
 rwa [h3]at this
theorem VgT {s:Vo0}{L:List Nd}{tk:Tok}(hL:L.length<2000000000000)(hl:AH L=true):∀(v n d:Nat) (out:List Nd) (D:List (Nat×Nat)) (H:Aa),n<=L.length->(n=0\/(A9 L (n:Int)).lv.toNat=v)->v<d->VQ s L tk out D H->VD L out D ->
  ∃H' D',Uem d (.i6 (n:Int)) (.ptr s.pd 0 0) (.ptr s.pl 0 0) (.ptr s.pv 0 0) (.ptr s.pa 0 0) H=some (.ret (.i6 ((Bk L (A2 L) v n out).2:Int)),H') /\
   VQ s L tk (Bk L (A2 L) v n out).1 D' H'/\Ext s.b s.ar H H'/\VD L (Bk L (A2 L) v n out).1 D'/\∀j,n<j->lkD D' j=lkD D j:=by
 intro v
 induction v with
 |zero=>
  intro n d out D H hn hv hd hQ hD;obtain⟨d,rfl⟩:∃e,d=e+1:=⟨d-1,by omega⟩;have iT:n=0:=by
   rcases hv with h | h
   ·exact h
   ·cases n with
    |zero=>rfl
    |succ m=>rw[Bb (show m<L.length from hn)]at h;have:=(AS hl (show m<L.length from hn)).1;omega
  subst iT;refine⟨H,D,?_,hQ,Ext.refl _ _ _,hD,λ_ _=>rfl⟩;show Ubf (Uem d) _ _ _ _ _ _=_;have hlk:=Vct hQ.nums 0;rw[hD.zero]at hlk;unfold Ubf;simp only[GMw,HPw,Nat.reduceAdd,Nat.reduceLT,Cu hQ.done,hlk]
  rfl
 |succ v ih=>
  intro n d out D H hn hv hd hQ hD;obtain⟨d,rfl⟩:∃e,d=e+1:=⟨d-1,by omega⟩;show ∃H' D',Ubf (Uem d) _ _ _ _ _ _=_/\_;have hlk:=Vct hQ.nums n;unfold Ubf;simp only[GMw,HPw,Nat.reduceAdd,Nat.reduceLT,Cu hQ.done,hlk];cases bB:lkD D n with
  |some m=>
   have bT:=VfI bB;have aO:=hD.val _ bT;dsimp only at aO;have dY:Bk L (A2 L) (v+1) n out=(out,m):=by
    rcases hv with h | h
    ·have:=J3 (L:=L) (v:=(A9 L (n:Int)).lv.toNat) (out:=out) (n:=n) (.inl h);rw[aO]at this;rw[J3 (.inl h)];exact this.symm
    ·rw[h]at aO;exact aO
   rw[dY];exact⟨H,D,by simp only[GMw,HPw,Nat.reduceAdd,Nat.reduceLT],hQ,Ext.refl _ _ _,hD,λ_ _=>rfl⟩
  |none=>
   obtain⟨m,rfl⟩:∃m,n=m+1:=⟨n-1,by
    cases n with
    |zero=>rw[hD.zero]at bB;cases bB
    |succ n=>rfl⟩
   have hm:m<L.length:=hn;have aU:(A9 L ((m+1:Nat):Int)).lv.toNat=v+1:=by
    rcases hv with h | h
    ·omega
    ·exact h
   obtain⟨l1,l2,l3⟩:=AS hl hm;have hx:A9 L ((m+1:Nat):Int)=L[m]:=Bb hm;rw[hx]at aU;have cT:IntKind.i64.wrap (((m+1:Nat):Int)-1)=(m:Int):=by rw[An] <;> omega
   have vX:=hQ.len;have hQ1:VQ s L tk out D (H++[.cel 0 (cNd L[m])]):=hQ.cells (λi hi=>Vp hi) (by simp);have hE1:Ext s.b s.ar H (H++[.cel 0 (cNd L[m])]):=Ext.snoc vX _;have hHar:H.length≠s.ar:=by obtain⟨v,h1⟩:=hQ.nodes;have:=(Vn.1 h1.cell).1;omega
   simp only[GMw,HPw,Nat.reduceAdd,Nat.reduceLT,Cu hQ.list,Fj,cT,Az hm,IU,Co,FC,Fc,F5];have fin:∀(Hc:Aa) (D1:List (Nat×Nat)),lkD D1 (m+1)=none->VQ s L tk (BR (Bk L (A2 L) v) L[m] (if 1<L[m].lv then 4 else 0) out).1 D1 Hc->Hc[H.length]? = some (.cel 0 (cNd (BR (Bk L (A2 L) v) L[m] (if 1<L[m].lv then 4 else 0) out).2))->Ext s.b s.ar H Hc->VD L (BR (Bk L (A2 L) v) L[m] (if 1<L[m].lv then 4 else 0) out).1 D1->(∀j,m<j->lkD D1 j=lkD D j) ->
     ∃H' D',Uc2 H (.i6 ((m+1:Nat):Int)) (.ptr s.pd 0 0) (.ptr s.pa 0 0) (.ptr H.length 0 0) Hc=some (.ret (.i6 ((Bk L (A2 L) (v+1) (m+1) out).2:Int)),H') /\
      VQ s L tk (Bk L (A2 L) (v+1) (m+1) out).1 D' H'/\Ext s.b s.ar H H'/\VD L (Bk L (A2 L) (v+1) (m+1) out).1 D'/\∀j,m+1<j->lkD D' j=lkD D j:=by
    intro Hc D1 cA hQc hbox hEc hDc oL;have nP:=VdJ hl hm aU out;have cC:=Iz (L:=L) (E:=A2 L) (v+1) (m+1) out [];rw[VF]at cC;generalize BR (Bk L (A2 L) v) L[m] (if 1<L[m].lv then 4 else 0) out=io at *;obtain⟨o,y⟩:=io;dsimp only at *;obtain⟨vv,hA⟩:=hQc.nodes;have kI:=hDc.short;obtain⟨v',H2,i1,i2,i3⟩:=VdX hA hQc.hb.1 hQc.hb.2.1 hQc.len y (by omega);rw[nP]at i1 i2;have rI:s.dm≠s.km:=Ne.symm hQc.hb.2.2.2;have iQ:=i3.map _ _ rI hQc.nums;have zQ:=i3.cel _ _ hQc.ne.1 hQc.done;have aR:=Vel (H:=H2) (n:=m+1) iQ (Bk L (A2 L) (v+1) (m+1) out).2 cA;have rA:∃r,(Bk L (A2 L) (v+1) (m+1) out).1=o++r:=by
     rw[<-nP];unfold HT BE;split
     ·exact⟨[],by simp⟩
     ·split
      ·exact⟨[y],rfl⟩
      ·exact⟨[],by simp⟩
    have xS:(Bk L (A2 L) (v+1) (m+1) out).1.length<=o.length+1:=by
     rw[<-nP];unfold HT BE;split
     ·dsimp only;omega
     ·split
      ·simp
      ·dsimp only;omega
    refine⟨H2.set s.dm (.map (dnM (D1++[(m+1,(Bk L (A2 L) (v+1) (m+1) out).2)]))),D1++[(m+1,(Bk L (A2 L) (v+1) (m+1) out).2)],?_,?_,hEc.trans ⟨?_,λi cs hi hc=>?_,λi hi=>?_⟩,?_,λj hj=>?_⟩
    ·unfold Uc2;simp only[GMw,HPw,Nat.reduceAdd,Nat.reduceLT,Cu hQc.arena,Fj,J2 hbox,i1,Cu zQ,aR]
    ·have Yz:s.dm<H2.length:=(Vn.1 iQ).1;have nc:∀ {i:Nat} {c:List Ab},i≠s.ar->Hc[i]? = some (.cel 0 c)->(H2.set s.dm (.map (dnM (D1++[(m+1,(Bk L (A2 L) (v+1) (m+1) out).2)]))))[i]? = some (.cel 0 c):=λ{i c} hi hc=>by
      have h2:=i3.cel i c hi hc;have:s.dm≠i:=λe=>by rw[<-e,iQ]at h2;cases h2
      rw[Vt this];exact h2
     have oP:s.dm≠s.ar:=λe=>by have:=i2.cell;rw[<-e,iQ]at this;cases this
     exact⟨hQc.hb,hQc.ne,nc hQc.ne.1 hQc.done,nc hQc.ne.2.1 hQc.list,nc hQc.ne.2.2.1 hQc.self,nc hQc.ne.2.2.2 hQc.arena,
      ⟨v',by rw[Vt oP];exact i2.cell,i2.row.setB iQ (λ_ _ _ e=>by cases e),by rw[Vt rI];exact i2.known⟩,by rw[V0 Yz]⟩
    ·rw[zYa];exact i3.len
    ·have h2:=i3.cel i cs hi hc;have:s.dm≠i:=λe=>by rw[<-e,iQ]at h2;cases h2
     rw[Vt this];exact h2
    ·have:=hQc.hb.2.2.1;rw[Vt (by omega)];exact i3.old i hi
    ·obtain⟨r,hr⟩:=rA;refine⟨?_,λp hp=>?_,λp hp=>?_,?_,?_⟩
     ·rw[List.map_append,Yj];refine⟨hDc.nd,by simp,λa ha b hb=>?_⟩;have Y6:b=m+1:=by simpa using hb
      have:=Vcw cA;exact λe=>this (by rw[<-Y6,<-e];exact ha)
     ·rcases VA.1 hp with h | h
      ·exact hDc.le p h
      ·rw[VB.1 h];exact hn
     ·rcases VA.1 hp with h | h
      ·rw[hr];exact hDc.grow r p h
      ·rw[VB.1 h];dsimp only;rw[hx,aU];exact cC
     ·rw[Vs,zXi];have:=hDc.cnt;omega
     ·rw[VaZ,hDc.zero]
    ·rw[VaZ,oL j (by omega)];cases lkD D j with
     |some _=>rfl
     |none=>dsimp only;rw[if_neg (by omega)]
   by_cases aN:L[m].lv>1
   ·simp only[aN,GMw];have oA:1<L[m].lv:=aN;rw[if_pos oA]at fin;have loop:=Gq (G:=λaA vs H1=>Uc3 H (Uem d) (λvs H=>Uc2 H (ag vs 0) (ag vs 1) (ag vs 2) (ag vs 3) H) aA (ag vs 0) (ag vs 1) (ag vs 2) (ag vs 3) (ag vs 4) (ag vs 5) (ag vs 6) H1) 4
     (λk vs Hc=>∃D',vs=[.i6 ((m+1:Nat):Int),.ptr s.pd 0 0,.ptr s.pv 0 0,.ptr s.pa 0 0,.ptr H.length 0 0,.agg (IV L[m]),.i6 (k:Int)]/\VQ s L tk (BR (Bk L (A2 L) v) L[m] k out).1 D' Hc/\Hc[H.length]? = some (.cel 0 (cNd (BR (Bk L (A2 L) v) L[m] k out).2))/\Ext s.b s.ar H Hc/\VD L (BR (Bk L (A2 L) v) L[m] k out).1 D'/\lkD D' (m+1)=none/\∀j,m<j->lkD D' j=lkD D j)
     (by decide) (λk vs Hc hk hI=>?_) (vs:=[.i6 ((m+1:Nat):Int),.ptr s.pd 0 0,.ptr s.pv 0 0,.ptr s.pa 0 0,.ptr H.length 0 0,.agg (IV L[m]),.i6 0]) (H:=H++[Blk.cel 0 (cNd L[m])]) ⟨D,rfl,hQ1,by simp[BR],hE1,hD,bB,λ_ _=>rfl⟩
    ·obtain⟨vs',Hc,⟨D',rfl,hQc,hbox,hEc,hDc,nM,kZ⟩,rec,aB⟩:=loop;obtain⟨H',D2,f1,f2⟩:=fin Hc D' nM hQc hbox hEc hDc kZ;refine⟨H',D2,aB.trans ?_,f2⟩;unfold Uc3;simp only[GMw,Aj,show ¬(((4:Nat):Int)<4) from by decide];exact f1
    ·obtain⟨D1,rfl,hQc,hbox,hEc,hDc,nM,kZ⟩:=hI;have hk':(k:Int)<4:=by omega
     obtain⟨q1,q2,q3⟩:=l3 k hk;obtain⟨c,hc⟩:∃c:Nat,L[m].kid k=(c:Int):=⟨(L[m].kid k).toNat,by omega⟩;have oS:c<=m:=by
      by_cases h0:0<L[m].kid k
      ·have:=(q3 oA h0).1;omega
      ·omega
     have hcv:c=0\/(A9 L (c:Int)).lv.toNat=v:=by
      by_cases h0:c=0
      ·exact .inl h0
      ·right;obtain⟨g,rfl⟩:∃g,c=g+1:=⟨c-1,by omega⟩;have jV:g<L.length:=by omega
       have:=(q3 oA (by omega)).2 L[g] (by rw[show (L[m].kid k-1).toNat=g by omega];exact Vl jV);rw[Bb jV];omega
     obtain⟨H1,D',r1,r2,r3,r4,r5⟩:=ih c d (BR (Bk L (A2 L) v) L[m] k out).1 D1 Hc (by omega) hcv (by omega) hQc hDc;have jL:=r3.cel _ _ hHar hbox;have hst:=Il (c:=((Bk L (A2 L) v c (BR (Bk L (A2 L) v) L[m] k out).1).2:Int)) jL hk;have hstep:BR (Bk L (A2 L) v) L[m] (k+1) out=((Bk L (A2 L) v c (BR (Bk L (A2 L) v) L[m] k out).1).1,(BR (Bk L (A2 L) v) L[m] k out).2.setKid k ((Bk L (A2 L) v c (BR (Bk L (A2 L) v) L[m] k out).1).2:Int)):=by simp only[BR,hc,zXl]
     rw[hstep];refine⟨_,H1.set H.length (.cel 0 (cNd ((BR (Bk L (A2 L) v) L[m] k out).2.setKid k ((Bk L (A2 L) v c (BR (Bk L (A2 L) v) L[m] k out).1).2:Int)))),⟨D',rfl,r2.put jL,?_,⟨by have:=hEc.len;have:=r3.len;rw[zYa];omega,λi cs hi hc=>?_,λi hi=>?_⟩,r4,?_,λj hj=>?_⟩,λrec=>?_⟩
     ·rw[V0 (Vn.1 jL).1]
     ·have:=(Vn.1 hc).1;rw[Vt (by omega)];exact r3.cel i cs hi (hEc.cel i cs hi hc)
     ·rw[Vt (by omega),r3.old i hi];exact hEc.old i hi
     ·rw[r5 (m+1) (by omega)];exact nM
     ·rw[r5 j (by omega)];exact kZ j hj
     ·have cP:DI (Hz (Uem d)) (.fn 161 [.ptr s.pd 0 0,.ptr s.pl 0 0,.ptr s.pv 0 0,.ptr s.pa 0 0]) [.i6 (c:Int)] Hc=Uem d (.i6 (c:Int)) (.ptr s.pd 0 0) (.ptr s.pl 0 0) (.ptr s.pv 0 0) (.ptr s.pa 0 0) Hc:=rfl;unfold Uc3;simp only[GMw,HPw,Nat.reduceAdd,Nat.reduceLT,Aj,hk',Vdq _ hk,hc,Cu hQc.self,Fj,cP,r1,LY hk,hst,Av (show k<9223372036854775807 by omega)]
   ·simp only[aN,GMw];rw[if_neg aN]at fin;exact fin _ D bB hQ1 (by simp[BR]) hE1 hD (λ_ _=>rfl)
theorem Voo (L:List Nd)(tk:Tok)(n:Int)(H:Aa)(hL:L.length<1000000000000):Ubg (.sl (enL cNd L) tk) (.i6 n) H =
  some (.ret (if VjP L n then .tup [Gn (K0 L n.toNat),.i6 0]else .tup [Gn [],.i6 1]),H):=by
 unfold Ubg;have hbx:B3 true 1 (.sl (enL cNd L) tk) H=some (.ptr H.length 0 0,H++[.cel 0 [.sl (enL cNd L) tk]]):=by unfold B3;simp only[Qv,alloc_eq (cs:=[.sl (enL cNd L) tk]) rfl];rfl
 have oF:Ab.agg [.sl [] .no]=Gn []:=rfl;simp only[hbx,GMw,HPw,Nat.reduceAdd,Nat.reduceLT,VgV L tk _ (show L.length<1152921504606846976 by omega)];unfold VjP;have rU:AD (some [(.sl [] .ti)]) []=some (.agg [.sl [] .ti]):=rfl;cases hl:AH L with
 |false=>simp only[GMw,HPw,Nat.reduceAdd,Nat.reduceLT,rU,oF,Vq,if_false]
 |true=>
  by_cases iT:n<0
  ·have:¬0<=n:=by omega
   simp only[GMw,HPw,Nat.reduceAdd,Nat.reduceLT,rU,oF,iT,this,Vq,if_false]
  ·have eT:0<=n:=by omega
   by_cases cL:n>L.length
   ·have:¬n<=L.length:=by omega
    simp only[GMw,HPw,Nat.reduceAdd,Nat.reduceLT,rU,oF,iT,eT,cL,this,Ax,Vq,if_false]
   ·obtain⟨n,rfl⟩:=Ws eT;have hle:n<=L.length:=by omega
    have kV:(n:Int)<=(L.length:Int):=by omega
    have sM:¬(n:Int)>(L.length:Int):=cL;obtain⟨s1,s2,s3⟩:=Um hl hle;unfold K0;simp only[GMw,HPw,Nat.reduceAdd,Nat.reduceLT,iT,eT,sM,kV,Ax,VdW L tk n _ (show L.length<3518437200000 by omega) hl hle,if_true,zXl];generalize EM L n=S at s1 s2 s3;obtain⟨M,r⟩:=S;dsimp only at s1 s2 s3 ⊢;have uU:(A9 M (r:Int)).lv.toNat<AP:=by
     rw[DB];by_cases hr:0<r
     ·have:=QC s1 hr s2;omega
     ·obtain rfl:r=0:=by omega
      unfold A9;rw[Vm];by_cases hM:0<M.length
      ·rw[show (((0:Nat):Int)-1).toNat=0 from rfl,Vl hM];have:=(AS s1 hM).2.1;simp only[Option.getD_some];omega
      ·rw[show (((0:Nat):Int)-1).toNat=0 from rfl,zYb (by omega)];simp
    have dB:∀K:Aa,E6 K=some (.mp K.length,K++[.map []]):=λ_=>rfl;have gC:∀x,AD (some [.sl [] .ti,.nilmap]) [(1,1,.mp x)]=some (.agg [.sl [] .ti,.mp x]):=λ_=>rfl;have aR:Ec false 1 (.mp (H.length+5)) (.i6 0) (.i6 0) (H++[.cel 0 [.sl (enL cNd M) .no],.cel 0 [.sl [] .ti],.map [],.cel 0 [.sl [] .ti,.mp (H.length+2)],.cel 0 [.ptr (H.length+3) 0 0],.map []]) =
      some (H++[.cel 0 [.sl (enL cNd M) .no],.cel 0 [.sl [] .ti],.map [],.cel 0 [.sl [] .ti,.mp (H.length+2)],.cel 0 [.ptr (H.length+3) 0 0],.map (dnM [(0,0)])]):=by
     have:=Vel (H:=H++[.cel 0 [.sl (enL cNd M) .no],.cel 0 [.sl [] .ti],.map [],.cel 0 [.sl [] .ti,.mp (H.length+2)],.cel 0 [.ptr (H.length+3) 0 0],.map []]) (id:=H.length+5) (D:=[]) (by simp[dnM]) (n:=0) 0 rfl;rw[show ((0:Nat):Int)=0 from rfl]at this;rw[this,Wa _ _ (by omega),show H.length+5-H.length=5 by omega]
     rfl
    have hf:∀l:List Ab,Ai 1 (.ptr 0 0 0) (.fn 161 l) [Blk.cel 0 [.nilfn]]=some [.cel 0 [.fn 161 l]]:=λl=>Pi rfl (by simp);obtain⟨F,hF⟩:∃F:Aa,F=H++[.cel 0 [.sl (enL cNd M) .no],.cel 0 [.sl [] .ti],.map [],.cel 0 [.sl [] .ti,.mp (H.length+2)],.cel 0 [.ptr (H.length+3) 0 0],.map (dnM [(0,0)]),.cel 0 [.mp (H.length+5)],.cel 0 [.fn 161 [.ptr (H.length+6) 0 0,.ptr H.length 0 0,.ptr (H.length+7) 0 0,.ptr (H.length+4) 0 0]]]:=⟨_,rfl⟩;have hQ:VQ ⟨H.length,H.length+6,H.length,H.length+7,H.length+4,H.length+3,H.length+2,H.length+5⟩ M .no [] [(0,0)] F:=by refine⟨⟨by dsimp only;omega,by dsimp only;omega,by dsimp only;omega,by dsimp only;omega⟩,⟨by dsimp only;omega,by dsimp only;omega,by dsimp only;omega,by dsimp only;omega⟩,?_,?_,?_,?_,⟨.sl [] .ti,?_,.inl ⟨rfl,rfl⟩,?_⟩,?_⟩ <;> (rw[hF];simp[knF])
    have hD:VD M [] [(0,0)]:=⟨by simp,λp hp=>by rw[VB.1 hp];exact VL _,λp hp=>by rw[VB.1 hp];exact J3 (.inl rfl),by simp,rfl⟩;obtain⟨H',D',v1,v2,v3,v4,v5⟩:=VgT (s:=⟨H.length,H.length+6,H.length,H.length+7,H.length+4,H.length+3,H.length+2,H.length+5⟩) (L:=M) (tk:=.no) (by omega) s1 (A9 M (r:Int)).lv.toNat r AP [] [(0,0)] F s2 (.inr rfl) uU hQ hD;dsimp only at v1 v3;have cP:DI Jj (.fn 161 [.ptr (H.length+6) 0 0,.ptr H.length 0 0,.ptr (H.length+7) 0 0,.ptr (H.length+4) 0 0]) [.i6 (r:Int)] F=Uem AP (.i6 (r:Int)) (.ptr (H.length+6) 0 0) (.ptr H.length 0 0) (.ptr (H.length+7) 0 0) (.ptr (H.length+4) 0 0) F:=rfl;rw[v1]at cP;rw[hF]at cP;have hres:H'[H.length+1]? = some (.cel 0 [.sl [] .ti]):=v3.cel _ _ (by omega) (by rw[hF];simp);have hold:∀i,i<H.length->H'[i]? = H[i]? := λi hi=>by rw[v3.old i hi,hF,Vp hi]
    obtain⟨v,hA⟩:=v2.nodes;have sL:=Cu (o:=0) (sz:=1) v2.arena;have wB:=Cu (o:=0) (sz:=1) hA.cell;dsimp only at sL wB;obtain⟨tk3,rfl⟩:=hA.row.sl;generalize (Bk M (A2 M) (A9 M (r:Int)).lv.toNat r []).1=Q at *;have hb:AD (some [(.sl [] .ti)]) [(0,1,.sl (enL cNd Q) tk3)]=some (.agg [.sl (enL cNd Q) tk3]):=by simp[AD,GH,Dx]
    have hst:=Pm (sz:=1) (ws:=[.sl (enL cNd Q) tk3]) hres rfl rfl rfl;have aG:=(Vn.1 hres).1;have hld:=PA (sz:=1) (H:=H'.set (H.length+1) (.cel 0 [.sl (enL cNd Q) tk3])) (p:=H.length+1) (by rw[V0 aG]) rfl;have bQ:(H'.set (H.length+1) (.cel 0 [.sl (enL cNd Q) tk3])).take H.length=H:=CG λi hi=>by rw[Vt (by omega)];exact hold i hi
    simp only[GMw,HPw,Nat.reduceAdd,Nat.reduceLT,dB,gC,aR,hf,cP,sL,wB,Fj,hb,hst,hld,GQ bQ]
    rfl
structure Q4 (b p:Nat)(S:Nat->List Sp)(W:Nat->Ab)(T:Nat->Nat)(H:Aa):Prop where
 blk:H[p]? = some (.cel 0 [W 0,W 1,W 2,W 3])
 row:∀k,k<4->(S k=[]/\W k=.sl [] .ti)\/(S k≠[]/\b<=T k/\W k=.sl (enL cSp (S k)) (.own (T k))/\H[T k]? = some (.tok (S k).length BN 3))
 ne:∀i j,i<4->j<4->i≠j->S i≠[]->S j≠[]->T i≠T j
def up {α:Type}(f:Nat->α)(k:Nat)(a:α):Nat->α:=λj=>if j=k then a else f j
theorem JO {α:Type}(f:Nat->α)(k:Nat)(a:α):up f k a k=a:=if_pos rfl
theorem EK {α:Type}(f:Nat->α){j k:Nat}(a:α)(h:j≠k):up f k a j=f j:=if_neg h
theorem VbJ (W:Nat->Ab){k:Nat}(hk:k<4)(w:Ab):[W 0,W 1,W 2,W 3].set k w=[up W k w 0,up W k w 1,up W k w 2,up W k w 3]:=by
 match k,hk with
 |0,_=>rfl
 |1,_=>rfl
 |2,_=>rfl
 |3,_=>rfl
theorem Vgf (W:Nat->Ab){k:Nat}(hk:k<4):[W 0,W 1,W 2,W 3][k]? = some (W k):=by
 match k,hk with
 |0,_=>rfl
 |1,_=>rfl
 |2,_=>rfl
 |3,_=>rfl
theorem Q4.push {b p:Nat}{S:Nat->List Sp}{W:Nat->Ab}{T:Nat->Nat}{H:Aa}(h:Q4 b p S W T H)(G:Aa):Q4 b p S W T (H++G):=
 ⟨AK h.blk,λk hk=>by
  rcases h.row k hk with q | ⟨q0,q1,q2,q3⟩
  ·exact .inl q
  ·exact .inr ⟨q0,q1,q2,AK q3⟩,h.ne⟩
theorem Q4.add {b p:Nat}{S:Nat->List Sp}{W:Nat->Ab}{T:Nat->Nat}{H:Aa}(h:Q4 b p S W T H)(hb:b<=p){k:Nat}(hk:k<4)(s:Sp)(hl:(S k).length<1000000000) :
  ∃w' H1 T',Ad false 1 (.ptr p 0 k) H=some (W k)/\Bf BN 3 56 (W k) (.sl (enL cSp [s]) .ti) H=some (w',H1)/\Ai 1 (.ptr p 0 k) w' H1=some (H1.set p (.cel 0 [up W k w' 0,up W k w' 1,up W k w' 2,up W k w' 3])) /\
   Q4 b p (up S k (S k++[s])) (up W k w') T' (H1.set p (.cel 0 [up W k w' 0,up W k w' 1,up W k w' 2,up W k w' 3]))/\H.length<=H1.length/\∀i,i<b->H1[i]? = H[i]? := by
 have dT:p<H.length:=(Vn.1 h.blk).1;have hld:Ad false 1 (.ptr p 0 k) H=some (W k):=by rw[Cu h.blk];exact Vgf W hk
 have mB:k<[W 0,W 1,W 2,W 3].length:=hk;rcases h.row k hk with ⟨q1,q2⟩ | ⟨q0,q1,q2,q3⟩
 ·have ha:=Eu (f:=cSp) (sz:=3) (l:=[]) (m:=[s]) (ty:=BN) (bytes:=56) (tk:=.ti) (H:=H) (by simp) (by simp) (by simp);simp only[List.nil_append,zXk,zXi,Vr,IY]at ha;have jM:(H++[Blk.tok 1 BN 3])[p]? = some (.cel 0 [W 0,W 1,W 2,W 3]):=AK h.blk;have hst:=GM (v:=.sl (enL cSp [s]) (.own H.length)) jM rfl mB;rw[VbJ W hk]at hst;refine⟨.sl (enL cSp [s]) (.own H.length),H++[Blk.tok 1 BN 3],up T k H.length,hld,by rw[q2];exact ha,hst,⟨?_,λj hj=>?_,λi j hi hj hij kH mV=>?_⟩,by simp,λi hi=>Vp (by omega)⟩
  ·rw[V0 (by simp;omega)]
  ·by_cases e:j=k
   ·subst e;right;rw[JO,JO,JO,q1,Vt (by omega)];exact⟨by simp,by omega,rfl,by simp⟩
   ·rw[EK _ _ e,EK _ _ e,EK _ _ e];rcases h.row j hj with r | ⟨r0,r1,r2,r3⟩
    ·exact .inl r
    ·have:p≠T j:=λe=>by rw[<-e,h.blk]at r3;cases r3
     exact .inr ⟨r0,r1,r2,by rw[Vt this];exact AK r3⟩
  ·have lt:∀i,i<4->S i≠[]->T i<H.length:=λi hi hs=>by
    rcases h.row i hi with r | ⟨r0,r1,r2,r3⟩
    ·exact absurd r.1 hs
    ·exact (Vn.1 r3).1
   by_cases e1:i=k
   ·have e2:j≠k:=λe=>hij (by omega);rw[e1,JO,EK _ _ e2];rw[EK _ _ e2]at mV;have:=lt j hj mV;omega
   ·rw[EK _ _ e1]at kH ⊢;by_cases e2:j=k
    ·rw[e2,JO];have:=lt i hi kH;omega
    ·rw[EK _ _ e2]at mV ⊢;exact h.ne i j hi hj hij kH mV
 ·have ha:=FS (f:=cSp) (sz:=3) (l:=S k) (m:=[s]) (ty:=BN) (bytes:=56) (tk:=.ti) (H:=H) (t:=T k) (by simp) q3 (by simp;omega) (by simp;omega);simp only[zXi]at ha;have gY:T k<H.length:=(Vn.1 q3).1;have sK:T k≠p:=λe=>by rw[e,h.blk]at q3;cases q3
  have jM:(H.set (T k) (Blk.tok ((S k).length+1) BN 3))[p]? = some (.cel 0 [W 0,W 1,W 2,W 3]):=by rw[Vt sK];exact h.blk
  have hst:=GM (v:=.sl (enL cSp (S k++[s])) (.own (T k))) jM rfl mB;rw[VbJ W hk]at hst;refine⟨.sl (enL cSp (S k++[s])) (.own (T k)),H.set (T k) (Blk.tok ((S k).length+1) BN 3),T,hld,by rw[q2];exact ha,hst,⟨?_,λj hj=>?_,λi j hi hj hij kH mV=>?_⟩,by simp,λi hi=>Vt (by omega)⟩
  ·rw[V0 (by simp;omega)]
  ·by_cases e:j=k
   ·subst e;right;rw[JO,JO,Vt (Ne.symm sK),V0 gY];exact⟨by simp,q1,rfl,by simp⟩
   ·rw[EK _ _ e,EK _ _ e];rcases h.row j hj with r | ⟨r0,r1,r2,r3⟩
    ·exact .inl r
    ·have:p≠T j:=λe=>by rw[<-e,h.blk]at r3;cases r3
     have h2:T k≠T j:=h.ne k j hk hj (Ne.symm e) q0 r0;exact .inr ⟨r0,r1,r2,by rw[Vt this,Vt h2];exact r3⟩
  ·have b1:S i≠[]:=by
    by_cases e1:i=k
    ·rw[e1];exact q0
    ·rw[EK _ _ e1]at kH;exact kH
   have b2:S j≠[]:=by
    by_cases e1:j=k
    ·rw[e1];exact q0
    ·rw[EK _ _ e1]at mV;exact mV
   exact h.ne i j hi hj hij b1 b2
def VoU (p:Sp):Prop:=(A4 p.a).length<=1000000/\(A4 p.b).length<=1000000
theorem M1 (s:Sp):AN 3 [.agg (cSp s)]=some (.sl (enL cSp [s]) .ti):=by simp[AN,CP,Cc,cSp,Ab.isScal,Kl,BG,enL]
theorem VjH (v:Nat)(p:Sp):qOf v p<4:=by unfold qOf;split <;> split <;> omega
theorem VhP {v k:Nat}{S:List Sp}{s:Sp}:qSp v k (S++[s])=if k=qOf v s then qSp v k S++[s]else qSp v k S:=by
 unfold qSp;rw[Wi];by_cases h:k=qOf v s
 ·rw[if_pos h];simp[h]
 ·rw[if_neg h];have:¬qOf v s=k:=λe=>h e.symm;simp[this]
theorem Vi7 {self:Ab->Ab->Ab->Aa->Out}{pb v:Nat}{S:List Sp}{tk:Tok}{H B Hc:Aa}{W:Nat->Ab}{T:Nat->Nat}{i:Nat}(hi:i<S.length)(hok:∀p∈S,VoU p)(hS:S.length<1000000000)(hv:v<100000)
  (hBb:H.length=B.length)(hq:Q4 B.length B.length (λk=>qSp v k (S.take i)) W T Hc)(hlen:B.length<=Hc.length)(hold:∀i,i<B.length->Hc[i]? = B[i]?) :
  ∃W' T' Hd,(∀rec:LK,Uba H self rec (.ptr pb 0 0) (.i6 ((v+1:Nat):Int)) (.ptr B.length 0 0) (.sl (enL cSp S) tk) (.i6 (S.length:Int)) (.i6 (i:Int)) Hc=rec [.ptr pb 0 0,.i6 ((v+1:Nat):Int),.ptr B.length 0 0,.sl (enL cSp S) tk,.i6 (S.length:Int),.i6 ((i+1:Nat):Int)] Hd) /\
   Q4 B.length B.length (λk=>qSp v k (S.take (i+1))) W' T' Hd/\B.length<=Hd.length/\(∀i,i<B.length->Hd[i]? = B[i]?):=by
 have d1:decide ((i:Int)<(S.length:Int))=true:=zXc (by omega);have kH:=hok _ (Vz hi);have hlt:=VjH v S[i];have lY:Q4 B.length B.length (λk=>qSp v k (S.take i)) W T (Hc++[.cel 0 (cSp S[i])]):=hq.push _;have sQ:(qSp v (qOf v S[i]) (S.take i)).length<1000000000:=Wv (X3 _ _) (by rw[V5];omega);obtain⟨w',H1,T',a1,a2,a3,a4,a5,a6⟩:=lY.add (Vo _) hlt S[i] sQ;have hw:=Av (show i<9223372036854775807 by omega);have w1:IntKind.i64.wrap (((v+1:Nat):Int)-1)=(v:Int):=by rw[An] <;> omega
 have bx:=λK=>VnA S[i].a v .no K kH.1 (by omega);have bY:=λK=>VnA S[i].b v .no K kH.2 (by omega);have e1:(Hc++[Blk.cel 0 [Ab.sl [] .ti,.sl [] .ti,.int .u8 0]])[Hc.length]? = some (.cel 0 [.sl [] .ti,.sl [] .ti,.int .u8 0]):=Ap;have e2:(Hc++[Blk.cel 0 (cSp S[i])])[Hc.length]? = some (.cel 0 (cSp S[i])):=Ap;have hst:Ai 3 (.ptr Hc.length 0 0) (.agg (cSp S[i])) (Hc++[Blk.cel 0 [Ab.sl [] .ti,.sl [] .ti,.int .u8 0]])=some (Hc++[Blk.cel 0 (cSp S[i])]):=by rw[Pm (sz:=3) (ws:=cSp S[i]) e1 rfl rfl rfl,Bt]
 have ldA:Ad true 3 (.cptr (cSp S[i]) 0) Hc=some (.agg (cSp S[i])):=rfl;have ld0:Ad false 1 (.ptr Hc.length 0 0) (Hc++[Blk.cel 0 (cSp S[i])])=some (.sl (enL cU (A4 S[i].a)) .no):=by rw[Cu e2];rfl
 have ld1:Ad false 1 (.ptr Hc.length 0 1) (Hc++[Blk.cel 0 (cSp S[i])])=some (.sl (enL cU (A4 S[i].b)) .no):=by rw[Cu e2];rfl
 have ldG:Ad true 3 (.ptr Hc.length 0 0) (Hc++[Blk.cel 0 (cSp S[i])])=some (.agg (cSp S[i])):=PA e2 rfl;have hal:A3 (some [(.sl [] .ti),(.sl [] .ti),(.int .u8 0)]) Hc=some (.ptr Hc.length 0 0,Hc++[.cel 0 [Ab.sl [] .ti,.sl [] .ti,.int .u8 0]]):=alloc_eq rfl;have dD:=LY (K:=.i64) (id:=B.length) (g:=0) (o:=0) hlt;rw[Vr]at dD;have w2:IntKind.i64.wrap (0+1)=1:=rfl;have w3:IntKind.i64.wrap (0+2)=2:=rfl;have w4:IntKind.i64.wrap (1+2)=3:=rfl;refine⟨up W (qOf v S[i]) w',T',H1.set B.length (.cel 0 [up W (qOf v S[i]) w' 0,up W (qOf v S[i]) w' 1,up W (qOf v S[i]) w' 2,up W (qOf v S[i]) w' 3]),λrec=>?_,?_,?_,?_⟩
 ·unfold Uba Uef Uee;simp only[GMw,d1,Ax,Az hi,ldA,hal,hst,AM,Ae,Vr,ld0,w1,bx];have fin:∀k:Int,k=((qOf v S[i]:Nat):Int)->(BK 4 1 (.ptr B.length 0 0) (.i6 k))=some (.ptr B.length 0 (qOf v S[i])):=λk hk=>by rw[hk];exact dD
  cases hA:S[i].a.testBit v with
  |true=>
   cases hB:S[i].b.testBit v with
   |true=>have f:=fin 3 (by unfold qOf;rw[hA,hB];rfl);simp only[GMw,w2,ld1,bY,hB,w4,f,a1,ldG,M1,a2,a3,AJ,hw,Al,Aj,AZ,Bd,Bx,BI,D4]
   |false=>have f:=fin 1 (by unfold qOf;rw[hA,hB];rfl);simp only[GMw,w2,ld1,bY,hB,f,a1,ldG,M1,a2,a3,AJ,hw,Al,Aj,AZ,Bd,Bx,BI,D4]
  |false=>
   cases hB:S[i].b.testBit v with
   |true=>have f:=fin 2 (by unfold qOf;rw[hA,hB];rfl);simp only[GMw,w3,ld1,bY,hB,f,a1,ldG,M1,a2,a3,AJ,hw,Al,Aj,AZ,Bd,Bx,BI,D4]
   |false=>have f:=fin 0 (by unfold qOf;rw[hA,hB];rfl);simp only[GMw,ld1,bY,hB,f,a1,ldG,M1,a2,a3,AJ,hw,Al,Aj,AZ,Bd,Bx,BI,D4]
 ·have hs:(λk=>qSp v k (S.take (i+1)))=up (λk=>qSp v k (S.take i)) (qOf v S[i]) (qSp v (qOf v S[i]) (S.take i)++[S[i]]):=by
   funext k
   rw[Vw hi,VhP];unfold up;by_cases h:k=qOf v S[i]
   ·rw[if_pos h,if_pos h,h]
   ·rw[if_neg h,if_neg h]
  rw[hs];exact a4
 ·rw[zYa];simp at a5;omega
 ·intro j hj;rw[Vt (by omega),a6 j hj,Vp (by omega)];exact hold j hj
def Kw (v:Nat)(S:List Sp):Nat->Nat
 |0=>0
 |k+1=>Kw v S k+(qSp v k S).length
theorem Qj (v:Nat):∀S:List Sp,Kw v S 4=S.length
 |[]=>by simp[Kw,qSp]
 |p::S=>by
  have ih:=Qj v S;have hq:=VjH v p;simp only[Kw,qSp,Wm,zXj]at ih ⊢;generalize qOf v p=q at hq
  match q,hq with
  |0,_=>simp;omega
  |1,_=>simp;omega
  |2,_=>simp;omega
  |3,_=>simp;omega
theorem Vc (v:Nat)(S:List Sp){k:Nat}(h:k<=4):Kw v S k<=S.length:=by
 have h4:=Qj v S
 match k,h with
 |0,_=>simp[Kw]
 |1,_=>simp only[Kw]at h4 ⊢;omega
 |2,_=>simp only[Kw]at h4 ⊢;omega
 |3,_=>simp only[Kw]at h4 ⊢;omega
 |4,_=>omega

mutual
theorem VfN:∀(v:Nat) (out:List Nd) (S:List Sp),(C5 v out S).1.length<=out.length+S.length*v
 |0,out,S=>by simp[C5]
 |v+1,out,S=>by
  unfold C5;split
  ·simp
  ·rename_i hS;have h:=Rp v out S 4 (Vo _);have hpos:0<S.length:=Wd.2 hS;have:Kw v S 4*v<=S.length*v:=VV _ (Vc v S (Vo _));simp only[Vs,zXi,Nat.mul_succ];omega
theorem Rp:∀(v:Nat) (out:List Nd) (S:List Sp) (k:Nat),k<=4->(lyK (C5 v) v S k out).1.length<=out.length+Kw v S k*v
 |v,out,S,0,_=>by simp[lyK,Kw]
 |v,out,S,k+1,hk=>by
  have h:=Rp v out S k (by omega);unfold lyK;split
  ·rename_i h0;subst h0;dsimp only;omega
  ·have h2:=VfN v (lyK (C5 v) v S k out).1 (qSp v k S);dsimp only;have:Kw v S (k+1)*v=Kw v S k*v+(qSp v k S).length*v:=by show (Kw v S k+(qSp v k S).length)*v=_;rw[We]
   omega

end
theorem VaU (rec:List Nd->List Sp->List Nd×Nat)(v:Nat)(S:List Sp)(out:List Nd):∀k,k<=4->∀j,k<=j->j<4->(lyK rec v S k out).2.kid j=0
 |0,_,j,_,h4=>by
  match j,h4 with
  |0,_=>rfl
  |1,_=>rfl
  |2,_=>rfl
  |3,_=>rfl
 |k+1,hk,j,hj,h4=>by
  unfold lyK;split
  ·rw[Gk _ _ (by omega) h4 (by omega)];exact VaU rec v S out k (by omega) j (by omega) h4
  ·rw[Gk _ _ (by omega) h4 (by omega)];exact VaU rec v S out k (by omega) j (by omega) h4
theorem VeC (x:Nd){k:Nat}(hk:k<4)(h:x.kid k=0):x.setKid k 0=x:=by
 match k,hk with
 |0,_=>simp only[Nd.kid]at h;unfold Nd.setKid;cases x;simp_all
 |1,_=>simp only[Nd.kid]at h;unfold Nd.setKid;cases x;simp_all
 |2,_=>simp only[Nd.kid]at h;unfold Nd.setKid;cases x;simp_all
 |3,_=>simp only[Nd.kid]at h;unfold Nd.setKid;cases x;simp_all
theorem PS.same {b:Nat}{out:List Nd}{v:Ab}{H H':Aa}(h:PS b out v H)(hs:∀i,i<H.length->H'[i]? = H[i]?):PS b out v H':=by
 rcases h with h1 | ⟨t,h1,h2,h3⟩
 ·exact .inl h1
 ·exact .inr ⟨t,h1,h2,by rw[hs t (Vn.1 h3).1];exact h3⟩
def Vj5 (b pb n:Nat)(self:Ab->Ab->Ab->Aa->Out):Prop:=
 ∀(out:List Nd) (w:Ab) (S:List Sp) (tk:Tok) (H:Aa),H[pb]? = some (.cel 0 [w])->PS b out w H->b<=H.length->(∀p∈S,VoU p)->S.length<1000000000->out.length+S.length*n<3518437208880 ->
  ∃H' w',self (.ptr pb 0 0) (.i6 (n:Int)) (.sl (enL cSp S) tk) H=some (.ret (.i6 ((C5 n out S).2:Int)),H')/\H'[pb]? = some (.cel 0 [w'])/\PS b (C5 n out S).1 w' H'/\Ext b pb H H'
theorem VnJ (v:Nat):AD (some [(.i6 0),(.i6 0),(.i6 0),(.i6 0),(.i6 0)]) [(0,1,.i6 (v:Int))]=some (.agg (cNd ⟨(v:Int),0,0,0,0⟩)):=by simp[AD,GH,Dx,cNd]
theorem Vl9 {b pb q v k:Nat}{self:Ab->Ab->Ab->Aa->Out}{out:List Nd}{S:List Sp}{H Hd:Aa}{W:Nat->Ab}{w:Ab}(eL:v=0\/Vj5 b pb v self)(hv:v<100000)(hk:k<4)
  (hW:∃tk,W k=.sl (enL cSp (qSp v k S)) tk)(hok:∀p∈S,VoU p)(hS:S.length<1000000000)(hlen:out.length+S.length*v<3518437208880)(rQ:b<=pb)(lX:q≠pb)(Zs:b<=q)
  (f1:Hd[pb]? = some (.cel 0 [w]))(f2:PS b (lyK (C5 v) v S k out).1 w Hd)(f3:Hd[q]? = some (.cel 0 (cNd (lyK (C5 v) v S k out).2))) :
  ∃w' He,(∀rec:LK,Uaj H self rec (.ptr pb 0 0) (.i6 ((v+1:Nat):Int)) (.ptr q 0 0) (.agg [W 0,W 1,W 2,W 3]) (.i6 (k:Int)) Hd=rec [.ptr pb 0 0,.i6 ((v+1:Nat):Int),.ptr q 0 0,.agg [W 0,W 1,W 2,W 3],.i6 ((k+1:Nat):Int)] He) /\
   He[pb]? = some (.cel 0 [w'])/\PS b (lyK (C5 v) v S (k+1) out).1 w' He/\He[q]? = some (.cel 0 (cNd (lyK (C5 v) v S (k+1) out).2))/\Hd.length<=He.length/\(∀(i:Nat) (cs:List Ab),i≠pb->i≠q->Hd[i]? = some (.cel 0 cs)->He[i]? = some (.cel 0 cs))/\∀i,i<b->He[i]? = Hd[i]? := by
 obtain⟨tk,hW⟩:=hW;have hk':decide ((k:Int)<4)=true:=zXc (by omega);have dT:pb<Hd.length:=(Vn.1 f1).1;have hql:q<Hd.length:=(Vn.1 f3).1;have wF:Jl false 4 1 (.agg [W 0,W 1,W 2,W 3]) (.i6 (k:Int))=some (W k):=by
  match k,hk with
  |0,_=>rfl
  |1,_=>rfl
  |2,_=>rfl
  |3,_=>rfl
 have hw:=Av (show k<9223372036854775807 by omega);have w1:IntKind.i64.wrap (((v+1:Nat):Int)-1)=(v:Int):=by rw[An] <;> omega
 have dD:=LY (K:=.i64) (id:=q) (g:=0) (o:=1) hk;rcases Xt v with h0 | h0
 ·subst h0;have d1:decide (((0+1:Nat):Int)>1)=false:=rfl;have e:lyK (C5 0) 0 S (k+1) out=((lyK (C5 0) 0 S k out).1,(lyK (C5 0) 0 S k out).2.setKid k (VlH (qSp 0 k S))):=rfl;rw[e];cases hq:qSp 0 k S with
  |nil=>
   rw[hq]at hW;have hid:=VeC _ hk (VaU (C5 0) 0 S out k (by omega) k (Vo _) hk);refine⟨w,Hd,λrec=>?_,f1,f2,?_,Vo _,λ_ _ _ _ h=>h,λ_ _=>rfl⟩
   ·unfold Uaj;have hl0:A5 (.sl (enL cSp []) tk)=some (.i6 0):=rfl;have d2:decide ((0:Int)>0)=false:=rfl;simp only[GMw,hk',wF,d1,hW,hl0,d2,hw]
   ·show Hd[q]? = some (.cel 0 (cNd ((lyK (C5 0) 0 S k out).2.setKid k 0)));rw[hid];exact f3
  |cons s r=>
   rw[hq]at hW;have hst:=Il (c:=(s.s.toNat:Int)) f3 hk;refine⟨w,Hd.set q (.cel 0 (cNd ((lyK (C5 0) 0 S k out).2.setKid k (s.s.toNat:Int)))),λrec=>?_,?_,f2.put f3,?_,by simp,λi cs h1 h2 h=>?_,λi hi=>?_⟩
   ·have cA:decide (((s::r).length:Int)>0)=true:=zXc (by simp only[zXj];omega);have jE:Aw 3 (.sl (enL cSp (s::r)) tk) (.i6 0)=some (.cptr (cSp s) 0):=Az (f:=cSp) (l:=s::r) (i:=0) (K:=.i64) (by simp);have hld:∀K,Ad false 1 (.cptr (cSp s) 2) K=some (.int .u8 (s.s.toNat:Int)):=λ_=>rfl;have hc:AC .i64 (.int .u8 (s.s.toNat:Int))=some (.i6 (s.s.toNat:Int)):=by have:=s.s.toNat_lt;rw[Bo,An (by omega) (by omega)]
    unfold Uaj;simp only[GMw,hk',wF,d1,hW,Ax,cA,jE,Ay,Ae,Vr,hld,hc,dD,hst,AJ,hw]
   ·rw[Vt lX];exact f1
   ·rw[V0 hql];rfl
   ·rw[Vt (Ne.symm h2)];exact h
   ·rw[Vt (by omega)]
 ·obtain eL:=eL.resolve_left (by omega);have d1:decide (((v+1:Nat):Int)>1)=true:=zXc (by omega);have cM:=Rp v out S k (by omega);have eZ:Kw v S (k+1)*v=Kw v S k*v+(qSp v k S).length*v:=by show (Kw v S k+(qSp v k S).length)*v=_;rw[We]
  have mK:Kw v S (k+1)*v<=S.length*v:=VV _ (Vc v S (by omega));obtain⟨H1,w',r1,r2,r3,r4⟩:=eL (lyK (C5 v) v S k out).1 w (qSp v k S) tk Hd f1 f2 (by omega) (λp hp=>hok p (W6.1 hp).1) (Wv (X3 _ _) hS) (by omega);have f3':=r4.cel q _ lX f3;have hst:=Il (c:=((C5 v (lyK (C5 v) v S k out).1 (qSp v k S)).2:Int)) f3' hk;have tW:q<H1.length:=(Vn.1 f3').1;have e:lyK (C5 v) v S (k+1) out=((C5 v (lyK (C5 v) v S k out).1 (qSp v k S)).1,(lyK (C5 v) v S k out).2.setKid k ((C5 v (lyK (C5 v) v S k out).1 (qSp v k S)).2:Int)):=by
   conv=>lhs;unfold lyK
   rw[if_neg (by omega)]
  rw[e];refine⟨w',H1.set q (.cel 0 (cNd ((lyK (C5 v) v S k out).2.setKid k ((C5 v (lyK (C5 v) v S k out).1 (qSp v k S)).2:Int)))),λrec=>?_,?_,r3.put f3',?_,by rw[zYa];exact r4.len,λi cs h1 h2 h=>?_,λi hi=>?_⟩
  ·unfold Uaj;simp only[GMw,hk',wF,d1,hW,w1,r1,Ae,Vr,dD,hst,AJ,hw]
  ·rw[Vt lX];exact r2
  ·rw[V0 tW]
  ·rw[Vt (Ne.symm h2)];exact r4.cel i cs h1 h
  ·rw[Vt (by omega)];exact r4.old i hi
theorem Vi8 {b pb v:Nat}{self:Ab->Ab->Ab->Aa->Out}(eL:v=0\/Vj5 b pb v self)(hv:v<100000)(rQ:b<=pb):Vj5 b pb (v+1) (UdG self):=by
 intro out w S tk H f1 f2 hb hok hS hlen;have dT:pb<H.length:=(Vn.1 f1).1;unfold UdG C5;by_cases h0:S=[]
 ·subst h0;refine⟨H,w,?_,f1,f2,Ext.refl _ _ _⟩;simp
 ·rw[if_neg h0];have hpos:=Wd.2 h0;have hne:decide ((S.length:Int)=0)=false:=zXd (by omega);have nF:((S.length:Int) == 0)=false:=by rw[beq_eq_false_iff_ne];omega
  have hal:A3 (some [(.sl [] .ti),(.sl [] .ti),(.sl [] .ti),(.sl [] .ti)]) H=some (.ptr H.length 0 0,H++[.cel 0 [Ab.sl [] .ti,.sl [] .ti,.sl [] .ti,.sl [] .ti]]):=alloc_eq rfl;simp only[GMw,Ax,hne,nF,hal];have hQ0:Q4 H.length H.length (λk=>qSp v k (S.take 0)) (λ_=>.sl [] .ti) (λ_=>0) (H++[.cel 0 [Ab.sl [] .ti,.sl [] .ti,.sl [] .ti,.sl [] .ti]]):=
   ⟨Ap,λk hk=>.inl ⟨rfl,rfl⟩,λi j _ _ _ h=>absurd rfl h⟩
  have loop:=Gq (G:=λrec1 vs H1=>Uba H self rec1 (ag vs 0) (ag vs 1) (ag vs 2) (ag vs 3) (ag vs 4) (ag vs 5) H1) S.length
   (λi vs Hc=>vs=[.ptr pb 0 0,.i6 ((v+1:Nat):Int),.ptr H.length 0 0,.sl (enL cSp S) tk,.i6 (S.length:Int),.i6 (i:Int)]/\∃W T,Q4 H.length H.length (λk=>qSp v k (S.take i)) W T Hc/\H.length<=Hc.length/\∀i,i<H.length->Hc[i]? = H[i]?)
   (by omega) (λi vs Hc hi hI=>?_) (vs:=[.ptr pb 0 0,.i6 ((v+1:Nat):Int),.ptr H.length 0 0,.sl (enL cSp S) tk,.i6 (S.length:Int),.i6 0]) (H:=H++[.cel 0 [Ab.sl [] .ti,.sl [] .ti,.sl [] .ti,.sl [] .ti]])
   ⟨rfl,_,_,hQ0,by simp,λi hi=>Vp hi⟩
  ·obtain⟨vs,Hc,⟨rfl,W,T,hQ,hl,hold⟩,rec,aB⟩:=loop;rw[Wc]at hQ;rw[aB];have d1:decide ((S.length:Int)<(S.length:Int))=false:=zXd (by omega);have wE:A3 (some [(.i6 0),(.i6 0),(.i6 0),(.i6 0),(.i6 0)]) Hc=some (.ptr Hc.length 0 0,Hc++[.cel 0 [Ab.i6 0,.i6 0,.i6 0,.i6 0,.i6 0]]):=alloc_eq rfl;have hst:Ai 5 (.ptr Hc.length 0 0) (.agg (cNd ⟨((v+1:Nat):Int),0,0,0,0⟩)) (Hc++[.cel 0 [Ab.i6 0,.i6 0,.i6 0,.i6 0,.i6 0]])=some (Hc++[.cel 0 (cNd ⟨((v+1:Nat):Int),0,0,0,0⟩)]):=by rw[Pj Ap rfl,Bt]
   have uW:Ad true 4 (.ptr H.length 0 0) (Hc++[.cel 0 (cNd ⟨((v+1:Nat):Int),0,0,0,0⟩)])=some (.agg [W 0,W 1,W 2,W 3]):=PA (AK hQ.blk) rfl;have Zl:H.length<Hc.length:=(Vn.1 hQ.blk).1;have hWr:∀k,k<4->∃tk,W k=.sl (enL cSp (qSp v k S)) tk:=λk hk=>by
    rcases hQ.row k hk with ⟨q1,q2⟩ | ⟨_,_,q2,_⟩
    ·exact⟨.ti,by rw[q2,show qSp v k S=[] from q1];rfl⟩
    ·exact⟨_,q2⟩
   have qL:out.length+S.length*v<3518437208880:=by rw[Nat.mul_succ]at hlen;omega
   have loop2:=Gq (G:=λbJ vs H1=>Uaj H self bJ (ag vs 0) (ag vs 1) (ag vs 2) (ag vs 3) (ag vs 4) H1) 4
    (λk vs Hd=>vs=[.ptr pb 0 0,.i6 ((v+1:Nat):Int),.ptr Hc.length 0 0,.agg [W 0,W 1,W 2,W 3],.i6 (k:Int)]/\∃w',Hd[pb]? = some (.cel 0 [w'])/\PS b (lyK (C5 v) v S k out).1 w' Hd/\Hd[Hc.length]? = some (.cel 0 (cNd (lyK (C5 v) v S k out).2))/\Hc.length<=Hd.length/\(∀(i:Nat) (cs:List Ab),i≠pb->i<H.length->H[i]? = some (.cel 0 cs)->Hd[i]? = some (.cel 0 cs))/\∀i,i<b->Hd[i]? = H[i]?)
    (by decide) (λk vs Hd hk hI=>?_) (vs:=[.ptr pb 0 0,.i6 ((v+1:Nat):Int),.ptr Hc.length 0 0,.agg [W 0,W 1,W 2,W 3],.i6 0]) (H:=Hc++[.cel 0 (cNd ⟨((v+1:Nat):Int),0,0,0,0⟩)])
    ⟨rfl,w,by rw[Vp (by omega),hold pb dT];exact f1,f2.same λi hi=>by rw[Vp (by omega)];exact hold i hi,by simp[lyK],by simp,λi cs _ hi hc=>by rw[Vp (by omega),hold i hi];exact hc,λi hi=>by rw[Vp (by omega)];exact hold i (by omega)⟩
   ·obtain⟨vs,Hd,⟨rfl,w1,g1,g2,g3,g4,g5,g6⟩,aA,hloop2⟩:=loop2;have hlk:=Rp v out S 4 (Vo _);rw[Qj]at hlk;obtain⟨w2,H2,a1,a2,a3⟩:=g2.snoc (show b<=Hd.length by omega) (lyK (C5 v) v S 4 out).2 (by omega);have wL:=a3.cel pb _ g1;have pP:=(Vn.1 wL).1;obtain⟨tk2,bZ⟩:=a2.sl;have eK:=GM (v:=w2) (o:=0) wL (by rw[bZ];rfl) (by simp);have nL:Ad false 1 (.ptr pb 0 0) Hd=some w1:=by rw[Cu g1];rfl
    have kX:Ad false 1 (.ptr pb 0 0) (H2.set pb (.cel 0 ([w1].set 0 w2)))=some w2:=by rw[Cu (cs:=[w1].set 0 w2) (V0 pP)];rfl
    have uX:=J2 g3;have hlen2:A5 w2=some (.i6 (((lyK (C5 v) v S 4 out).1.length+1:Nat):Int)):=by rw[bZ,Ax,Vs,zXi]
    have d4:decide (((4:Nat):Int)<4)=false:=rfl;refine⟨H2.set pb (.cel 0 ([w1].set 0 w2)),w2,?_,by rw[V0 pP];rfl,a2.put wL,⟨?_,λi cs hi hc=>?_,λi hi=>?_⟩⟩
    ·unfold Uba;simp only[Al,Aj,AZ,Bd,Bx,BI,D4,GMw,d1,VnJ,wE,hst,AJ,uW];rw[hloop2];unfold Uaj;simp only[Al,Aj,AZ,Bd,Bx,BI,D4,GMw,d4,Vf6,Ae,Vr,nL,uX,OW,a1,eK,AJ,kX,hlen2]
    ·rw[zYa];have:=a3.len;omega
    ·rw[Vt (Ne.symm hi)];exact a3.cel i cs (g5 i cs hi (Vn.1 hc).1 hc)
    ·rw[Vt (by omega),a3.old i hi];exact g6 i hi
   ·obtain⟨rfl,w1,g1,g2,g3,g4,g5,g6⟩:=hI;obtain⟨w',He,t1,t2,t3,t4,t5,t6,t7⟩:=Vl9 (H:=H) (W:=W) eL hv hk (hWr k hk) hok hS qL rQ (show Hc.length≠pb by omega) (by omega) g1 g2 g3;exact⟨_,He,⟨rfl,w',t2,t3,t4,by omega,λi cs hi hl hc=>t6 i cs hi (by omega) (g5 i cs hi hl hc),λi hi=>(t7 i hi).trans (g6 i hi)⟩,t1⟩
  ·obtain⟨rfl,W,T,hQ,hl,hold⟩:=hI;obtain⟨W',T',Hd,t1,t2,t3,t4⟩:=Vi7 (self:=self) (pb:=pb) (tk:=tk) (H:=H) hi hok hS hv rfl hQ hl hold;exact⟨_,Hd,⟨rfl,W',T',t2,t3,t4⟩,t1⟩
theorem VjZ {b pb:Nat}(rQ:b<=pb):∀(n d:Nat),n<d->n<100000->1<=n->Vj5 b pb n (Ua8 d)
 |0,_,_,_,h=>by omega
 |n+1,d,hd,hn,_=>by
  obtain⟨d,rfl⟩:∃e,d=e+1:=⟨d-1,by omega⟩;refine Vi8 (v:=n) ?_ (by omega) rQ;rcases Xt n with h | h
  ·exact .inl h
  ·exact .inr (VjZ rQ n d (by omega) (by omega) h)
theorem Vlk (l:List Cl)(tk:Tok)(H:Aa)(hl:l.length<1000000000):UbY (.sl (enL cCl l) tk) H=some (if l=[]then (.ret (.sl [] .ti),H)else (.ret (dV H.length 0 l.length),H++[.buf 0 (flat cCl l) B9 5])):=by
 have hb:AN 5 []=some (.sl [] .ti):=rfl;unfold UbY;cases l with
 |nil=>have ha:FK B9 5 72 (.sl [] .ti) (.sl (enL cCl []) tk) H=some (.sl [] .ti,H):=rfl;have hn:QV .eql (.sl (enL cCl []) tk)=some .ubool:=rfl;have hu:∀x:Out,Ak .ubool x x=x:=λx=>if_pos rfl;simp only[hn,GMw,hb,ha];exact hu _
 |cons c l=>
  have hn:QV .eql (.sl (enL cCl (c::l)) tk)=some (.bool false):=rfl;have ha:FK B9 5 72 (.sl [] .ti) (.sl (enL cCl (c::l)) tk) H=some (dV H.length 0 (c::l).length,H++[.buf 0 (flat cCl (c::l)) B9 5]):=by
   have he:Cw 5 (.sl (enL cCl (c::l)) tk) H=some (enL cCl (c::l)):=VcR;have hlen:(enL cCl (c::l)).length=(c::l).length:=by simp[enL]
   unfold FK;rw[he];simp only[zXa];unfold If;rw[hlen,if_neg (by simp)];simp only[zXk,Vr,List.all_nil,List.nil_append];rw[if_pos ⟨trivial,by omega,by omega⟩]
   rfl
  simp only[hn,GMw,hb,ha];rw[if_neg (by simp)]
def Vk (P L:List Cl)(i:Nat):Prop:=L.length=P.length/\∀k,k<P.length->L[k]? = if k<i\/P.length-i<=k then P[P.length-1-k]? else P[k]?
theorem Vk.step {P L:List Cl}{i:Nat}(h:Vk P L i)(hi:i<P.length-1-i):Vk P (swp L i (P.length-1-i)) (i+1):=by
 obtain⟨h1,h2⟩:=h;have hl:i<L.length:=by omega
 have hj:P.length-1-i<L.length:=by omega
 refine⟨by rw[MH];exact h1,λk hk=>?_⟩;have ei:=h2 i (by omega);have ej:=h2 (P.length-1-i) (by omega);rw[Vl hl,if_neg (by omega)]at ei;rw[Vl hj,if_neg (by omega)]at ej;rw[VjA hl hj];by_cases k1:k=P.length-1-i
 ·subst k1;rw[V0 (by simp;omega),if_pos (by omega),ei]
  congr 1
  omega
 ·rw[Vt (Ne.symm k1)];by_cases k2:k=i
  ·subst k2;rw[V0 hl,if_pos (by omega),ej]
  ·rw[Vt (Ne.symm k2),h2 k hk];by_cases k3:k<i\/P.length-i<=k
   ·rw[if_pos k3,if_pos (by omega)]
   ·rw[if_neg k3,if_neg (by omega)]
theorem Vk.done {P L:List Cl}{i:Nat}(h:Vk P L i)(hi:¬i<P.length-1-i):L=P.reverse:=by
 apply WP;intro k;by_cases hk:k<P.length
 ·rw[h.2 k hk,List.getElem?_reverse hk];split
  ·rfl
  ·congr 1
   omega
 ·rw[zYb (by rw[h.1];omega),zYb (by simp;omega)]
section
variable {p g:Nat}{l:List Cl}{H:Aa}
theorem Vfw (h:CX H p g l)(hp:0<l.length)(hl:l.length<1000000000):Uaw (dV p g l.length) H=some (.ret (.tup []),BJ H p g l.reverse):=by
 have hw:IntKind.i64.wrap ((l.length:Int)-1)=((l.length-1:Nat):Int):=by rw[An] <;> omega
 have bB:A5 (dV p g l.length)=some (.i6 (l.length:Int)):=rfl;unfold Uaw;simp only[bB,GMw,hw];have key:=Ei (G:=λrec1 vs H1=>UaS H rec1 (ag vs 0) (ag vs 1) (ag vs 2) H1) (σ:=Nat×List Cl)
  (λs vs H1=>(Vk l s.2 s.1/\2*s.1<=l.length)/\vs=[dV p g l.length,.i6 (s.1:Int),.i6 ((l.length:Int)-1-(s.1:Int))]/\H1=BJ H p g s.2) (λs=>l.length-s.1) (λs=>¬s.1<l.length-1-s.1) (λs vs H1 hI hd=>?_)
  (s:=(0,l)) (vs:=[dV p g l.length,.i6 0,.i6 ((l.length-1:Nat):Int)]) (H:=H) ⟨⟨⟨rfl,λk hk=>by rw[if_neg (by omega)]⟩,VL _⟩,by dsimp only;rw[show (l.length:Int)-1-((0:Nat):Int)=((l.length-1:Nat):Int)by omega];rfl,(CE h).symm⟩ (by dsimp only;omega)
 ·obtain⟨⟨i,L⟩,vs,H1,hd,⟨⟨ht,hi⟩,rfl,rfl⟩,rec,aB⟩:=key;dsimp only at ht hi hd aB;have d1:decide ((i:Int)<(l.length:Int)-1-(i:Int))=false:=zXd (by omega);rw[aB];unfold UaS;simp only[Al,Aj,AZ,Bd,GMw,d1];rw[ht.done hd]
 ·obtain⟨i,L⟩:=s;obtain⟨⟨ht,hi⟩,rfl,rfl⟩:=hI;dsimp only at ht hi hd ⊢;have hr:CX (BJ H p g L) p g L:=De h;have hlt:i<l.length-1-i:=by omega
  have hLl:=ht.1;have i1:i<L.length:=by omega
  have i2:l.length-1-i<L.length:=by omega
  have e:(l.length:Int)-1-(i:Int)=((l.length-1-i:Nat):Int):=by omega
  have d1:decide ((i:Int)<((l.length-1-i:Nat):Int))=true:=zXc (by omega);have cD:=Av (show i<9223372036854775807 by omega);have bZ:IntKind.i64.wrap (((l.length-1-i:Nat):Int)-1)=(l.length:Int)-1-((i+1:Nat):Int):=by rw[An] <;> omega
  obtain⟨s1,s2⟩:=RT hr i1 i2;rw[B4]at s1 s2;rw[B4]at s2;refine⟨(i+1,swp L i (l.length-1-i)),_,_,by dsimp only;omega,⟨⟨ht.step hlt,by dsimp only;omega⟩,rfl,rfl⟩,λrec=>?_⟩;unfold UaS;simp only[Al,Aj,AZ,Bd,GMw,e,d1,BT (show i<l.length by omega),BT (show l.length-1-i<l.length by omega),C3 hr i1,C3 hr i2,Bm,s1,s2,B5,AJ,cD,bZ]
theorem Vn5 {f:Ab}{l0:List Cl}(hf1:Tz A7 f l0)(hf2:TY f l0)(h:CX H p g l)(hm:∀c∈l,c∈l0)(hl:l.length<1000000000) :
  ∃S,Ev ltC S/\Fo ltC l S/\S.length=l.length/\Ua5 (dV p g l.length) f H=some (.ret (.tup []),BJ H p g S):=by
 obtain⟨S,s1,s2,s3,s4⟩:=Ve0 hf1 hf2 h hm hl;refine⟨S,s1,s2,s3,?_⟩;have bB:A5 (dV p g l.length)=some (.i6 (l.length:Int)):=rfl;unfold Ua5;simp only[bB,GMw,s4]
def RwT (H:Aa)(p g:Nat)(l:List Cl)(r:List Ab):Prop:=H[p]? = some (.buf g (flat cCl l++r) B9 5)
theorem CX.t (h:CX H p g l):RwT H p g l []:=by unfold RwT;rw[VF];exact h

end
theorem Vdb (lt:Cl->Cl->Bool)(y:Cl):∀(P:List Cl) (x:Cl),cpL lt (P++[x]++[y])=if BC lt y x then cpL lt (P++[x])else cpL lt (P++[x])++[y]:=by
 have key:∀(t:List Cl) (a x:Cl),cpF lt a (t++[x]++[y])=if BC lt y x then cpF lt a (t++[x])else cpF lt a (t++[x])++[y]:=by
  intro t
  induction t with
  |nil=>
   intro a x;show (if BC lt x a then cpF lt x [y]else x::cpF lt x [y])=if BC lt y x then (if BC lt x a then cpF lt x []else x::cpF lt x [])else (if BC lt x a then cpF lt x []else x::cpF lt x [])++[y]
   have e:cpF lt x [y]=if BC lt y x then []else [y]:=rfl
   rw[e];cases BC lt x a <;> cases BC lt y x <;> rfl
  |cons b t ih=>
   intro a x;have ihb:=ih b x;show (if BC lt b a then cpF lt b (t++[x]++[y])else b::cpF lt b (t++[x]++[y]))=if BC lt y x then (if BC lt b a then cpF lt b (t++[x])else b::cpF lt b (t++[x]))else (if BC lt b a then cpF lt b (t++[x])else b::cpF lt b (t++[x]))++[y]
   rw[ihb];cases BC lt b a <;> cases BC lt y x <;> rfl
 intro P x;cases P with
 |nil=>
  show x::cpF lt x [y]=if BC lt y x then [x]else [x]++[y]
  have e:cpF lt x [y]=if BC lt y x then []else [y]:=rfl
  rw[e];cases BC lt y x <;> rfl
 |cons a P=>
  show a::cpF lt a (P++[x]++[y])=if BC lt y x then a::cpF lt a (P++[x])else (a::cpF lt a (P++[x]))++[y]
  rw[key];cases BC lt y x <;> rfl
theorem Vmd (lt:Cl->Cl->Bool):∀l:List Cl,(cpL lt l).length<=l.length:=by
 have key:∀(t:List Cl) (a:Cl),(cpF lt a t).length<=t.length:=by
  intro t
  induction t with
  |nil=>intro a;exact Vo _
  |cons b t ih=>
   intro a;have:=ih b;unfold cpF;split
   ·simp only[zXj];omega
   ·simp only[zXj];omega
 intro l;cases l with
 |nil=>exact Vo _
 |cons a t=>have:=key t a;show (cpF lt a t).length+1<=t.length+1;omega
def zCl:List Ab:=[.bool false,.sl [] .ti,.bool false,.sl [] .ti,.int .u8 0]
theorem VeP (n:Nat):(L7 n zCl).all Ab.isScal=true:=by
 unfold L7
 induction n with
 |zero=>rfl
 |succ n ih=>rw[zXm,List.flatten_cons,XY,ih];rfl
theorem VhF (n:Nat):(L7 n zCl).length=n*5:=by
 unfold L7
 induction n with
 |zero=>rfl
 |succ n ih=>rw[zXm,List.flatten_cons,Vs,ih,show zCl.length=5 from rfl];omega
theorem VdN {L:List Cl}{k:Nat}(hk:k<=L.length):(flat cCl L).take (k*5)=flat cCl (L.take k)/\(flat cCl L).drop (k*5)=flat cCl (L.drop k):=by
 have h1:flat cCl L=flat cCl (L.take k)++flat cCl (L.drop k):=by rw[<-QF,VW]
 have h2:(flat cCl (L.take k)).length=k*5:=by rw[EV,V5,Wl hk]
 rw[h1];exact⟨by rw[<-h2,X0],by rw[<-h2,X2]⟩
section
variable {p g:Nat}{l:List Cl}{H:Aa}{r:List Ab}
theorem Uw {L:List Cl}{k:Nat}(h:RwT H p g L r)(hk:k<=L.length) :
  ∃G r',Ky 5 (some zCl) (.ms p g (k*5) (L.length-k) (L.length-k) 5 false) H=some G/\RwT G p g (L.take k) r'/\(∀i,i≠p->G[i]? = H[i]?)/\G.length=H.length:=by
 unfold Ky;by_cases h0:L.length-k=0
 ·have:L.take k=L:=Vy (by omega);simp only[h0,if_true];exact⟨H,r,rfl,by rw[this];exact h,λ_ _=>rfl,rfl⟩
 ·have dT:p<H.length:=(Vn.1 h).1;have bL:A6 H p g=some (flat cCl L++r):=by unfold RwT at h;simp[A6,h]
  have Zf:(Ab.agg (L7 (L.length-k) zCl)).acells=some (L7 (L.length-k) zCl):=by show (if (L7 (L.length-k) zCl).all Ab.isScal=true then _ else _)=_;rw[if_pos (VeP _)]
  have gN:(flat cCl L).length=L.length*5:=EV L;have aI:∀cs,F0 H p g cs=H.set p (.buf g cs B9 5):=λcs=>by unfold RwT at h;unfold F0;rw[h]
  simp only[h0,if_false,zXa,if_true,Ai,bL,Zf,VhF,Vs,gN];rw[if_pos ⟨trivial,by omega⟩,aI];refine⟨_,(L7 (L.length-k) zCl)++r,rfl,?_,λi hi=>?_,by rw[zYa]⟩
  ·unfold RwT;rw[V0 dT];have e1:Dx (flat cCl L++r) (k*5) ((L.length-k)*5) (L7 (L.length-k) zCl)=flat cCl (L.take k)++(L7 (L.length-k) zCl++r):=by unfold Dx;rw[W9 (by omega),(VdN hk).1,show k*5+(L.length-k)*5=(flat cCl L).length by omega,X2,Vu]
   rw[e1]
  ·rw[Vt (Ne.symm hi)]
theorem VdT {f:Ab}{k0:Nat}{H0:Aa}(hf:∀c∈l,∀d∈l,∀H,DI AL f [.agg (cCl c),.agg (cCl d)] H=some (.ret (.bool (BC ltC c d)),H))
  (h:CX H p g l)(h1:1<=k0)(h2:k0<l.length)(h3:cpL ltC (l.take k0)=l.take k0)(h4:BC ltC l[k0] (l[k0-1]'(by omega))=true)(hl:l.length<1000000000) :
  ∃G r,Am (λaA vs H1=>Ua6 H0 aA (ag vs 0) (ag vs 1) (ag vs 2) (ag vs 3) (ag vs 4) H1) AP [dV p g l.length,f,.i6 (k0:Int),.ms p g (k0*5) (l.length-k0) (l.length-k0) 5 false,.i6 1] H =
   some (.ret (.ms p g 0 (cpL ltC l).length l.length 5 false),G)/\RwT G p g (cpL ltC l) r/\(∀i,i≠p->G[i]? = H[i]?)/\G.length=H.length:=by
 have dO:∀m (nI:1<=m) (hm:m<l.length),cpL ltC (l.take (m+1))=if BC ltC l[m] (l[m-1]'(by omega))then cpL ltC (l.take m)else cpL ltC (l.take m)++[l[m]]:=λm nI hm=>by obtain⟨j,rfl⟩:∃j,m=j+1:=⟨m-1,by omega⟩;have:=Vdb ltC l[j+1] (l.take j) (l[j]'(by omega));rw[<-Vw (by omega:j<l.length),<-Vw hm]at this;exact this
 have key:=Ei (G:=λaA vs H1=>Ua6 H0 aA (ag vs 0) (ag vs 1) (ag vs 2) (ag vs 3) (ag vs 4) H1) (σ:=Nat×List Cl)
  (λs vs H1=>(k0+1<=s.1/\s.1<=l.length/\s.2.length=l.length/\(cpL ltC (l.take s.1)).length<=s.1-1/\s.2.take (cpL ltC (l.take s.1)).length=cpL ltC (l.take s.1)/\s.2.drop (s.1-1)=l.drop (s.1-1)) /\
   vs=[dV p g l.length,f,.i6 ((cpL ltC (l.take s.1)).length:Int),.ms p g (k0*5) (l.length-k0) (l.length-k0) 5 false,.i6 ((s.1-k0:Nat):Int)]/\H1=BJ H p g s.2) (λs=>l.length-s.1) (λs=>¬s.1<l.length) (λs vs H1 hI hd=>?_)
  (s:=(k0+1,l)) (vs:=[dV p g l.length,f,.i6 (k0:Int),.ms p g (k0*5) (l.length-k0) (l.length-k0) 5 false,.i6 1]) (H:=H)
  (by
   have e1:cpL ltC (l.take (k0+1))=l.take k0:=by rw[dO k0 h1 h2,h4,if_pos rfl,h3]
   have e2:(l.take k0).length=k0:=by rw[V5];omega
   dsimp only;rw[e1,e2];exact⟨⟨Vo _,h2,rfl,by omega,rfl,by rw[VH]⟩,by rw[Nat.add_sub_cancel_left];rfl,(CE h).symm⟩) (by dsimp only;omega)
 ·obtain⟨⟨m,L⟩,vs,H1,hd,⟨⟨i1,i2,i3,i4,i5,i6⟩,rfl,rfl⟩,rec,aB⟩:=key;dsimp only at i1 i2 i3 i4 i5 i6 hd aB;have em:m=l.length:=by omega
  subst em;rw[Vy (Vo _)]at i4 i5 aB;have hr:RwT (BJ H p g L) p g L []:=(De h).t;obtain⟨G,r,g1,g2,g3,g4⟩:=Uw (k:=(cpL ltC l).length) hr (by omega);rw[i3]at g1;rw[i5]at g2;have d1:decide (((l.length-k0:Nat):Int)<((l.length-k0:Nat):Int))=false:=zXd (by omega);have bB:A5 (.ms p g (k0*5) (l.length-k0) (l.length-k0) 5 false)=some (.i6 ((l.length-k0:Nat):Int)):=rfl;have s1:BS 5 (dV p g l.length) (some (.i6 ((cpL ltC l).length:Int))) none none=some (.ms p g ((cpL ltC l).length*5) (l.length-(cpL ltC l).length) (l.length-(cpL ltC l).length) 5 false):=by
   have:(cpL ltC l).length<=l.length:=by omega
   simp[BS,Bw,this]
  have s2:BS 5 (dV p g l.length) none (some (.i6 ((cpL ltC l).length:Int))) none=some (.ms p g 0 (cpL ltC l).length l.length 5 false):=by
   have:(cpL ltC l).length<=l.length:=by omega
   simp[BS,Bw,this]
  refine⟨G,r,?_,g2,λi hi=>?_,?_⟩
  ·rw[aB];unfold Ua6;simp only[Al,Aj,AZ,Bd,Bx,BI,GMw,bB,d1,s1,s2];rw[show [Ab.bool false,.sl [] .ti,.bool false,.sl [] .ti,.int .u8 0]=zCl from rfl,g1];simp only[GMw,AJ,Ef,forget,Em,fgt]
  ·rw[g3 i hi];unfold BJ;rw[Vt (Ne.symm hi)]
  ·rw[g4];unfold BJ;rw[zYa]
 ·obtain⟨m,L⟩:=s;obtain⟨⟨i1,i2,i3,i4,i5,i6⟩,rfl,rfl⟩:=hI;dsimp only at i1 i2 i3 i4 i5 i6 hd ⊢;have hm:m<l.length:=by omega
  have hr:CX (BJ H p g L) p g L:=De h;have hLm:m<L.length:=by omega
  have hLm1:m-1<L.length:=by omega
  have e1:L[m]=l[m]:=by have:=congrArg (λx=>x[1]?) i6;simp only[VP]at this;rw[show m-1+1=m by omega,Vl hLm,Vl hm]at this;exact WQ this
  have e2:L[m-1]=l[m-1]:=by have:=congrArg (λx=>x[0]?) i6;simp only[VP,Nat.add_zero]at this;rw[Vl hLm1,Vl (by omega)]at this;exact WQ this
  have bB:A5 (.ms p g (k0*5) (l.length-k0) (l.length-k0) 5 false)=some (.i6 ((l.length-k0:Nat):Int)):=rfl;have d1:decide (((m-k0:Nat):Int)<((l.length-k0:Nat):Int))=true:=zXc (by omega);have cD:IntKind.i64.wrap (((m-k0:Nat):Int)-1)=((m-k0-1:Nat):Int):=by rw[An] <;> omega
  have bZ:IntKind.i64.wrap (((m-k0:Nat):Int)+1)=((m+1-k0:Nat):Int):=by rw[An] <;> omega
  have x1:Aw 5 (.ms p g (k0*5) (l.length-k0) (l.length-k0) 5 false) (.i6 ((m-k0:Nat):Int))=some (.ptr p g (m*5)):=by rw[CK (by omega),<-We,show k0+(m-k0)=m by omega]
  have x2:Aw 5 (.ms p g (k0*5) (l.length-k0) (l.length-k0) 5 false) (.i6 ((m-k0-1:Nat):Int))=some (.ptr p g ((m-1)*5)):=by rw[CK (by omega),<-We,show k0+(m-k0-1)=m-1 by omega]
  have c1:=hf l[m] (Vz hm) (l[m-1]'(by omega)) (Vz _);have eC:=dO m (by omega) hm;have l1:=C3 hr hLm;have l2:=C3 hr hLm1;rw[e1]at l1;rw[e2]at l2;cases he:BC ltC l[m] (l[m-1]'(by omega))with
  |true=>
   rw[he,if_pos rfl]at eC;refine⟨(m+1,L),_,_,by dsimp only;omega,⟨⟨by dsimp only;omega,by dsimp only;omega,i3,by dsimp only;rw[eC];omega,by dsimp only;rw[eC];exact i5,by dsimp only;rw[VH];have:=congrArg (List.drop 1) i6;rw[Wp,Wp,show m-1+1=m by omega]at this;exact this⟩,rfl,rfl⟩,λrec=>?_⟩;rw[he]at c1;unfold Ua6 UdC;simp only[Al,Aj,AZ,Bd,Bx,BI,GMw,bB,d1,cD,x1,x2,l1,l2,Bm,c1,B5,bZ,eC]
  |false=>
   rw[he]at eC;simp only[Vq,if_false]at eC;have hk:(cpL ltC (l.take m)).length<L.length:=by omega
   have gF:=Av (show (cpL ltC (l.take m)).length<9223372036854775807 by omega);have hst:=VeJ hr hk l[m];rw[B4]at hst;refine⟨(m+1,L.set (cpL ltC (l.take m)).length l[m]),_,_,by dsimp only;omega,⟨⟨by dsimp only;omega,by dsimp only;omega,by dsimp only;rw[zYa];exact i3,by dsimp only;rw[eC];simp;omega,by
     dsimp only;rw[eC,Vs,zXi,Vw (by rw[zYa];omega),XZ,List.take_set_of_le (Vo _),i5],by
     dsimp only;rw[VH,List.drop_set_of_lt (by omega)];have:=congrArg (List.drop 1) i6;rw[Wp,Wp,show m-1+1=m by omega]at this;exact this⟩,rfl,rfl⟩,λrec=>?_⟩
   rw[he]at c1;unfold Ua6 UdC;simp only[Al,Aj,AZ,Bd,Bx,BI,GMw,bB,d1,cD,x1,x2,l1,l2,Bm,c1,B5,BT (show (cpL ltC (l.take m)).length<l.length by omega),hst,AJ,gF,bZ,eC,Vs,zXi]

end
def VlV (l:List Cl)(k:Nat):Bool:=match l[k]?,l[k-1]? with
 |some a,some b=>BC ltC a b
 |_,_=>false
theorem VcU {l:List Cl}{k:Nat}(hk:k<l.length)(hk1:k-1<l.length):VlV l k=BC ltC l[k] l[k-1]:=by unfold VlV;rw[Vl hk,Vl hk1]
section
variable {p g:Nat}{l:List Cl}{H:Aa}{r:List Ab}{f:Ab}
theorem Vfy (hf:∀c∈l,∀d∈l,∀H,DI AL f [.agg (cCl c),.agg (cCl d)] H=some (.ret (.bool (BC ltC c d)),H))
  (h:CX H p g l)(hl:l.length<1000000000) :
  ∃G r,Uah (dV p g l.length) f H=some (.ret (.ms p g 0 (cpL ltC l).length l.length 5 false),G)/\RwT G p g (cpL ltC l) r/\(∀i,i≠p->G[i]? = H[i]?)/\G.length=H.length:=by
 have bB:A5 (dV p g l.length)=some (.i6 (l.length:Int)):=rfl;have dO:∀m (nI:1<=m) (hm:m<l.length),cpL ltC (l.take (m+1))=if BC ltC l[m] (l[m-1]'(by omega))then cpL ltC (l.take m)else cpL ltC (l.take m)++[l[m]]:=λm nI hm=>by obtain⟨j,rfl⟩:∃j,m=j+1:=⟨m-1,by omega⟩;have:=Vdb ltC l[j+1] (l.take j) (l[j]'(by omega));rw[<-Vw (by omega:j<l.length),<-Vw hm]at this;exact this
 unfold Uah;by_cases h2:l.length<2
 ·have d2:decide ((l.length:Int)<2)=true:=zXc (by omega);have e:cpL ltC l=l:=by
   match l,h2 with
   |[],_=>rfl
   |[c],_=>rfl
   |_::_::_,h2=>simp only[zXj]at h2;omega
  refine⟨H,[],?_,by rw[e];exact h.t,λ_ _=>rfl,rfl⟩;simp only[bB,GMw,d2,Ef,forget,Em,fgt];rw[e]
 ·have d2:decide ((l.length:Int)<2)=false:=zXd (by omega);have key:=Ei (G:=λrec1 vs H1=>UaW H rec1 (ag vs 0) (ag vs 1) (ag vs 2) H1) (σ:=Nat)
   (λk vs H1=>(1<=k/\k<=l.length/\cpL ltC (l.take k)=l.take k)/\vs=[dV p g l.length,f,.i6 (k:Int)]/\H1=H) (λk=>l.length-k) (λk=>k<l.length->VlV l k=true) (λk vs H1 hI hd=>?_)
   (s:=1) (vs:=[dV p g l.length,f,.i6 1]) (H:=H) ⟨⟨Vo _,by omega,by
    cases l with
    |nil=>simp at h2
    |cons c l=>rfl⟩,rfl,rfl⟩ (by omega)
  ·obtain⟨k,vs,H1,hd,⟨⟨i1,i2,i3⟩,rfl,rfl⟩,rec,aB⟩:=key;simp only[bB,GMw,d2];rw[aB];by_cases hk:k<l.length
   ·have hk1:k-1<l.length:=by omega
    have lD:=hd hk;rw[VcU hk hk1]at lD;obtain⟨G,r,g1,g2,g3,g4⟩:=VdT (H0:=H1) hf h i1 hk i3 lD hl;refine⟨G,r,?_,g2,g3,g4⟩;have d1:decide ((k:Int)<(l.length:Int))=true:=zXc (by omega);have cD:IntKind.i64.wrap ((k:Int)-1)=((k-1:Nat):Int):=by rw[An] <;> omega
    have c1:=hf l[k] (Vz hk) l[k-1] (Vz hk1);rw[lD]at c1;have s1:BS 5 (dV p g l.length) (some (.i6 (k:Int))) none none=some (.ms p g (k*5) (l.length-k) (l.length-k) 5 false):=by
     have:k<=l.length:=by omega
     simp[BS,Bw,this]
    unfold UaW;simp only[Al,Aj,AZ,Bd,GMw,bB,d1,cD,BT hk,BT (show k-1<l.length by omega),C3 h hk,C3 h (show k-1<l.length by omega),Bm,c1,s1];exact g1
   ·have d1:decide ((k:Int)<(l.length:Int))=false:=zXd (by omega);have e:cpL ltC l=l:=by rw[Vy (by omega)]at i3;exact i3
    refine⟨H1,[],?_,by rw[e];exact h.t,λ_ _=>rfl,rfl⟩;unfold UaW;simp only[Al,Aj,AZ,Bd,GMw,bB,d1,Ef,forget,Em,fgt];rw[e]
  ·obtain⟨⟨i1,i2,i3⟩,rfl,rfl⟩:=hI;have hk:k<l.length:=by
    rcases VT k l.length with q | q
    ·exact q
    ·exact absurd (λhk=>absurd hk (by omega)) hd
   have hk1:k-1<l.length:=by omega
   have he:BC ltC l[k] l[k-1]=false:=by
    cases e:BC ltC l[k] l[k-1]with
    |false=>rfl
    |true=>exact absurd (λ_=>by rw[VcU hk hk1];exact e) hd
   have d1:decide ((k:Int)<(l.length:Int))=true:=zXc (by omega);have cD:IntKind.i64.wrap ((k:Int)-1)=((k-1:Nat):Int):=by rw[An] <;> omega
   have bZ:=Av (show k<9223372036854775807 by omega);have c1:=hf l[k] (Vz hk) l[k-1] (Vz hk1);rw[he]at c1;refine⟨k+1,_,_,by omega,⟨⟨by omega,hk,by rw[dO k i1 hk,if_neg (by rw[he];decide),i3,Vw hk]⟩,rfl,rfl⟩,λrec=>?_⟩;unfold UaW;simp only[Al,Aj,AZ,Bd,GMw,bB,d1,cD,BT hk,BT (show k-1<l.length by omega),C3 h hk,C3 h (show k-1<l.length by omega),Bm,c1,bZ]
theorem RV (h:RwT H p g l r):A6 H p g=some (flat cCl l++r):=by unfold RwT at h;simp[A6,h]
theorem VaF {i:Nat}(h:RwT H p g l r)(hi:i<l.length):Ad true 5 (.ptr p g (i*5)) H=some (.agg (cCl l[i])):=by
 have h1:=Kq (f:=cCl) (sz:=5) hi;have h2:=Ru (f:=cCl) (sz:=5) hi;have h3:((flat cCl l++r).drop (i*5)).take 5=cCl l[i]:=by rw[WO (by omega),W9 (by rw[V9];omega),h2]
 simp only[Ad,RV h,zXa,if_true,h3];rw[if_pos (by rw[Vs];omega)]
theorem VkC {i:Nat}(h:RwT H p g l r)(hi:i<l.length)(a:Cl):∃G,Ai 5 (.ptr p g (i*5)) (.agg (cCl a)) H=some G/\RwT G p g (l.set i a) r/\(∀i,i≠p->G[i]? = H[i]?)/\G.length=H.length:=by
 have dT:p<H.length:=(Vn.1 h).1;have h1:=Kq (f:=cCl) (sz:=5) hi;have hs:=SL (f:=cCl) (sz:=5) (a:=a) hi;have aI:∀cs,F0 H p g cs=H.set p (.buf g cs B9 5):=λcs=>by unfold RwT at h;unfold F0;rw[h]
 have hp:Dx (flat cCl l++r) (i*5) 5 (cCl a)=flat cCl (l.set i a)++r:=by rw[<-hs];unfold Dx;rw[W9 (by omega),WO (by omega)];simp only[Vu]
 refine⟨H.set p (.buf g (flat cCl (l.set i a)++r) B9 5),?_,?_,λj hj=>by rw[Vt (Ne.symm hj)],by rw[zYa]⟩
 ·simp only[Ai,RV h,zXa,Nl,show (cCl a).length=5 from rfl];rw[if_pos ⟨trivial,by rw[Vs];omega⟩,aI,hp]
 ·unfold RwT;rw[V0 dT]
theorem RwT.push (h:RwT H p g l r)(G:Aa):RwT (H++G) p g l r:=by have dT:p<H.length:=(Vn.1 h).1;unfold RwT at h ⊢;rw[Vp dT];exact h
def z0 (c:Cl):Bool:=decide (c.s=0)
theorem VlF {cap:Nat}(hf:∀c∈l,∀H,DI AF f [.agg (cCl c)] H=some (.ret (.bool (z0 c)),H))(h:RwT H p g l r)(hl:l.length<1000000000) :
  Uey (.ms p g 0 l.length cap 5 false) f H=some (.ret (.i6 (match l.findIdx? z0 with | some i=>(i:Int) | none=>-1)),H):=by
 have bB:A5 (.ms p g 0 l.length cap 5 false)=some (.i6 (l.length:Int)):=rfl;unfold Uey;simp only[bB,GMw];have key:=Br (G:=λrec1 vs H1=>Ue6 H rec1 (ag vs 0) (ag vs 1) (ag vs 2) (ag vs 3) H1) (σ:=Nat) (λi=>i<=l.length/\(l.take i).findIdx? z0=none)
  (λi=>[.ms p g 0 l.length cap 5 false,f,.i6 (l.length:Int),.i6 (i:Int)]) (λ_=>H) (λi=>l.length-i) (λ_=>some (.ret (.i6 (match l.findIdx? z0 with | some i=>(i:Int) | none=>-1)),H)) (λi rec hi hrec=>?_) 0 ⟨VL _,rfl⟩ (by omega)
 ·exact key
 ·obtain⟨h1,h2⟩:=hi;unfold Ue6;by_cases hi:i<l.length
  ·have d1:decide ((i:Int)<(l.length:Int))=true:=zXc (by omega);have x1:Aw 5 (.ms p g 0 l.length cap 5 false) (.i6 (i:Int))=some (.ptr p g (i*5)):=by rw[CK hi,Vr]
   have bV:=Av (show i<9223372036854775807 by omega);have c1:=hf l[i] (Vz hi);cases hz:z0 l[i]with
   |true=>
    rw[hz]at c1;have:l.findIdx? z0=some i:=by rw[Xy];refine⟨hi,hz,λj hj=>?_⟩;rw[XI]at h2;have:=h2 l[j] (by rw[List.mem_take_iff_getElem];exact⟨j,by omega,rfl⟩);simpa using this
    simp only[Al,Aj,AZ,Bd,Bx,GMw,d1,x1,VaF h hi,c1,this]
   |false=>rw[hz]at c1;simp only[Al,Aj,AZ,Bd,Bx,GMw,d1,x1,VaF h hi,c1,bV];refine hrec (i+1) ⟨hi,?_⟩ (by omega);rw[Vw hi,List.findIdx?_append,h2];simp[hz]
  ·have d1:decide ((i:Int)<(l.length:Int))=false:=zXd (by omega);rw[Vy (by omega)]at h2;simp only[Al,Aj,AZ,Bd,Bx,GMw,d1,h2]

end
theorem ViV {α:Type}{f:α->List Ab}{sz:Nat}[hf:Sz f sz][hp:Pl f]{H:Aa}{l:List α}{r:List Ab}{id b d cap:Nat}{ex:Bool}(hg:A6 H id 0=some (flat f l++r))(hi:b<=id):GV H b (d+3) (.ms id 0 0 l.length cap sz ex)=some (.sl (enL f l) .no):=by
 have h1:¬id<b:=by omega
 have h2:l.length*sz<=(flat f l++r).length:=by rw[Vs,EV];omega
 have h3:(flat f l++r).take (l.length*sz)=flat f l:=by rw[<-EV (f:=f) (sz:=sz) l,X0]
 unfold GV;simp only[frz,h1,if_false,hg,zXa,WC,Vr,h2,if_true,h3,GR (Nb (f:=f) l),OB (f:=f) l,Mk,zXb,forget,Em,fgt]
section
variable {p g:Nat}{l:List Cl}{H:Aa}{r:List Ab}{f:Ab}
def kp (c:Cl):Bool:=decide (c.s≠0)
theorem VnQ (c:Cl):kp c = !z0 c:=by unfold kp z0;by_cases h:c.s=0 <;> simp[h]
theorem Vio {cap:Nat}(hf:∀c∈l,∀H,DI AF f [.agg (cCl c)] H=some (.ret (.bool (z0 c)),H))(hf2:∀c∈l,∀H,DI Ba f [.agg (cCl c)] H=some (.ret (.bool (z0 c)),H))
  (h:RwT H p g l r)(hc:l.length<=cap)(hl:cap<1000000000) :
  ∃G r',Uai (.ms p g 0 l.length cap 5 false) f H=some (.ret (.ms p g 0 (l.filter kp).length cap 5 false),G)/\RwT G p g (l.filter kp) r'/\(∀i,i<H.length->i≠p->G[i]? = H[i]?)/\H.length<=G.length:=by
 have dD:=VlF (cap:=cap) hf h (by omega);have bB:A5 (.ms p g 0 l.length cap 5 false)=some (.i6 (l.length:Int)):=rfl;unfold Uai;cases eG:l.findIdx? z0 with
 |none=>
  rw[eG]at dD;have e:l.filter kp=l:=by rw[List.filter_eq_self];intro c hc;rw[XI]at eG;rw[VnQ,eG c hc];rfl
  refine⟨H,r,?_,by rw[e];exact h,λ_ _ _=>rfl,Vo _⟩;have hb:((-1:Int) == -1)=true:=rfl;simp only[GMw,dD,hb,Ef,forget,Em,fgt];rw[e]
 |some i0=>
  rw[eG]at dD;rw[Xy]at eG;obtain⟨jE,lL,qK⟩:=eG;have hb:(((i0:Nat):Int) == -1)=false:=by rw[beq_eq_false_iff_ne];omega
  have hw0:=Av (show i0<9223372036854775807 by omega);have ef:(l.take (i0+1)).filter kp=l.take i0:=by
   rw[Vw jE,Wi];have e1:(l.take i0).filter kp=l.take i0:=by rw[List.filter_eq_self];intro c hc;rw[List.mem_take_iff_getElem]at hc;obtain⟨j,hj,rfl⟩:=hc;rw[VnQ];have:=qK j (by omega);simpa using this
   have e2:[l[i0]].filter kp=[]:=by simp[Wm,VnQ,lL]
   rw[e1,e2,VF]
  have key:=Ei (G:=λrec1 vs H1=>UaX H rec1 (ag vs 0) (ag vs 1) (ag vs 2) (ag vs 3) H1) (σ:=Nat×List Cl)
   (λs vs K=>(i0+1<=s.1/\s.1<=l.length/\s.2.length=l.length/\((l.take s.1).filter kp).length<s.1/\s.2.take ((l.take s.1).filter kp).length=(l.take s.1).filter kp/\s.2.drop s.1=l.drop s.1) /\
    (RwT K p g s.2 r/\(∀i,i<H.length->i≠p->K[i]? = H[i]?)/\H.length<=K.length)/\vs=[.ms p g 0 l.length cap 5 false,f,.i6 (((l.take s.1).filter kp).length:Int),.i6 (s.1:Int)]) (λs=>l.length-s.1) (λs=>¬s.1<l.length) (λs vs K hI hd=>?_)
   (s:=(i0+1,l)) (vs:=[.ms p g 0 l.length cap 5 false,f,.i6 (i0:Int),.i6 ((i0+1:Nat):Int)]) (H:=H)
   (by
    have e2:(l.take i0).length=i0:=by rw[V5];omega
    dsimp only;rw[ef,e2];exact⟨⟨Vo _,jE,rfl,by omega,rfl,rfl⟩,⟨h,λ_ _ _=>rfl,Vo _⟩,rfl⟩) (by dsimp only;omega)
  ·obtain⟨⟨j,L⟩,vs,K,hd,⟨⟨i1,i2,i3,i4,i5,i6⟩,⟨k1,k2,k3⟩,rfl⟩,rec,aB⟩:=key;dsimp only at i1 i2 i3 i4 i5 i6 k1 hd aB;have ej:j=l.length:=by omega
   subst ej;rw[Vy (Vo _)]at i4 i5 aB;obtain⟨G,r',g1,g2,g3,g4⟩:=Uw (k:=(l.filter kp).length) k1 (by omega);rw[i3]at g1;rw[i5]at g2;have d1:decide ((l.length:Int)<(l.length:Int))=false:=zXd (by omega);have s1:BS 5 (.ms p g 0 l.length cap 5 false) (some (.i6 ((l.filter kp).length:Int))) none none=some (.ms p g ((l.filter kp).length*5) (l.length-(l.filter kp).length) (cap-(l.filter kp).length) 5 false):=by
    have:(l.filter kp).length<=l.length:=by omega
    simp[BS,Bw,this,hc]
   have s2:BS 5 (.ms p g 0 l.length cap 5 false) none (some (.i6 ((l.filter kp).length:Int))) none=some (.ms p g 0 (l.filter kp).length cap 5 false):=by
    have:(l.filter kp).length<=cap:=by omega
    simp[BS,Bw,this]
   have g1':Ky 5 (some zCl) (.ms p g ((l.filter kp).length*5) (l.length-(l.filter kp).length) (cap-(l.filter kp).length) 5 false) K=some G:=g1;refine⟨G,r',?_,g2,λi hi hne=>by rw[g3 i hne];exact k2 i hi hne,by omega⟩;simp only[GMw,dD,hb,hw0];rw[aB];unfold UaX;simp only[Al,Aj,AZ,Bd,Bx,GMw,bB,d1,s1,s2];rw[show [Ab.bool false,.sl [] .ti,.bool false,.sl [] .ti,.int .u8 0]=zCl from rfl,g1'];simp only[GMw,AJ,Ef,forget,Em,fgt]
  ·obtain⟨j,L⟩:=s;obtain⟨⟨i1,i2,i3,i4,i5,i6⟩,⟨k1,k2,k3⟩,rfl⟩:=hI;dsimp only at i1 i2 i3 i4 i5 i6 k1 hd ⊢;have hj:j<l.length:=by omega
   have hLj:j<L.length:=by omega
   have ej:L[j]=l[j]:=by have:=congrArg (λx=>x[0]?) i6;simp only[VP,Nat.add_zero]at this;rw[Vl hLj,Vl hj]at this;exact WQ this
   have edr:L.drop (j+1)=l.drop (j+1):=by have:=congrArg (List.drop 1) i6;rw[Wp,Wp]at this;exact this
   have d1:decide ((j:Int)<(l.length:Int))=true:=zXc (by omega);have x1:Aw 5 (.ms p g 0 l.length cap 5 false) (.i6 (j:Int))=some (.ptr p g (j*5)):=by rw[CK hj,Vr]
   have sF:=Av (show j<9223372036854775807 by omega);have ld:=VaF k1 hLj;rw[ej]at ld;have al:A3 (some [.bool false,.sl [] .ti,.bool false,.sl [] .ti,.int .u8 0]) K=some (.ptr K.length 0 0,K++[.cel 0 zCl]):=alloc_eq rfl;have stv:Ai 5 (.ptr K.length 0 0) (.agg (cCl l[j])) (K++[.cel 0 zCl])=some (K++[.cel 0 (cCl l[j])]):=by
    simp only[Ai,As Ap,zXa,Nl,show (cCl l[j]).length=5 from rfl];rw[if_pos ⟨trivial,by simp[zCl]⟩,B6 Ap,Bt]
    rfl
   have ldv:Ad true 5 (.ptr K.length 0 0) (K++[.cel 0 (cCl l[j])])=some (.agg (cCl l[j])):=by simp only[Ad,As Ap,zXa];rfl
   have c1:=hf2 l[j] (Vz hj);have kr:=k1.push [.cel 0 (cCl l[j])];have eC:(l.take (j+1)).filter kp=(l.take j).filter kp++[l[j]].filter kp:=by rw[Vw hj,Wi]
   cases hz:z0 l[j]with
   |true=>
    have e0:[l[j]].filter kp=[]:=by simp[Wm,VnQ,hz]
    rw[e0,VF]at eC;rw[hz]at c1;refine⟨(j+1,L),_,K++[.cel 0 (cCl l[j])],by dsimp only;omega,⟨⟨by dsimp only;omega,hj,i3,by dsimp only;rw[eC];omega,by dsimp only;rw[eC];exact i5,edr⟩,⟨kr,λi hi hne=>by rw[Vp (by omega)];exact k2 i hi hne,by simp;omega⟩,rfl⟩,λrec=>?_⟩;unfold UaX UdD;simp only[Al,Aj,AZ,Bd,Bx,GMw,bB,d1,x1,ld,al,stv,ldv,AJ,c1,sF,eC]
   |false=>
    have e0:[l[j]].filter kp=[l[j]]:=by simp[Wm,VnQ,hz]
    rw[e0]at eC;rw[hz]at c1;have aE:((l.take j).filter kp).length<L.length:=by omega
    obtain⟨G,g1,g2,g3,g4⟩:=VkC kr aE l[j];have bV:=Av (show ((l.take j).filter kp).length<9223372036854775807 by omega);have x2:Aw 5 (.ms p g 0 l.length cap 5 false) (.i6 (((l.take j).filter kp).length:Int))=some (.ptr p g (((l.take j).filter kp).length*5)):=by rw[CK (by omega),Vr]
    have hGl:G.length=K.length+1:=by rw[g4];simp
    refine⟨(j+1,L.set ((l.take j).filter kp).length l[j]),_,G,by dsimp only;omega,⟨⟨by dsimp only;omega,hj,by dsimp only;rw[zYa];exact i3,by dsimp only;rw[eC];simp;omega,by
      dsimp only;rw[eC,Vs,zXi,Vw (by rw[zYa];omega),XZ,List.take_set_of_le (Vo _),i5],by
      dsimp only;rw[List.drop_set_of_lt (by omega)];exact edr⟩,⟨g2,λi hi hne=>by rw[g3 i hne,Vp (by omega)];exact k2 i hi hne,by omega⟩,rfl⟩,λrec=>?_⟩
    unfold UaX UdD;simp only[Al,Aj,AZ,Bd,Bx,GMw,bB,d1,x1,x2,ld,al,stv,ldv,AJ,c1,g1,bV,sF,eC,Vs,zXi]

end
theorem Mi {g:FuncId}{F:List Ab->Aa->Out}{o:Orc}{args:List Ab}{H:Aa}:DI (ent g F o) (.fn g []) args H=F args H:=by unfold DI ent;simp only[if_true,VF]
theorem Rz {g g':FuncId}{F:List Ab->Aa->Out}{o:Orc}{args:List Ab}{H:Aa}(h:¬g'=g):DI (ent g F o) (.fn g' []) args H=DI o (.fn g' []) args H:=by unfold DI ent;simp only[h,if_false]
theorem OZ (F:Ab->Aa->Out)(a:Ab)(H:Aa):ap1 F [a] H=F a H:=rfl
theorem VbC (F:Ab->Ab->Aa->Out)(a b:Ab)(H:Aa):ap2 F [a,b] H=F a b H:=rfl
theorem Vmh {l:List Cl}(hok:∀c∈l,c.ok):Tz A7 (.fn 144 []) l:=λc hc d hd K=>by unfold A7;rw[Mi,VbC];exact VaP (hok c hc) (hok d hd) K
theorem Vmg {l:List Cl}(hok:∀c∈l,c.ok):TY (.fn 144 []) l:=λself c hc d hd K=>by unfold Be;rw[Rz (by decide),Mi,VbC];exact VaP (hok c hc) (hok d hd) K
theorem Vli {c d:Cl}(hc:c.ok)(hd:d.ok)(H:Aa):Ucf (.agg (cCl c)) (.agg (cCl d)) H=some (.ret (.bool (BC ltC c d)),H):=by
 have e1:(H++[Blk.cel 0 (cCl c)]++[Blk.cel 0 (cCl d)])[H.length]? = some (.cel 0 (cCl c)):=by simp
 have e2:(H++[Blk.cel 0 (cCl c)]++[Blk.cel 0 (cCl d)])[(H++[Blk.cel 0 (cCl c)]).length]? = some (.cel 0 (cCl d)):=Ap;have ld:∀ {K:Aa} {p:Nat} {x:Cl},K[p]? = some (.cel 0 (cCl x))->Ad true 5 (.ptr p 0 0) K=some (.agg (cCl x)):=λh=>by simp only[Ad,As h,zXa];rfl
 have ho:=λK=>VaP hc hd K;have fin:∀q:Bool,rP H (.bool q) (H++[Blk.cel 0 (cCl c)]++[Blk.cel 0 (cCl d)])=some (.ret (.bool q),H):=λq=>FY rfl (by simp);have hb:(ND c d == 0)=BC ltC c d:=by rw[<-U8];rfl
 unfold Ucf;simp only[GMw,Vmr,ld e1,ld e2,ho,hb,fin]
theorem Rn (c:Cl)(H:Aa):UaQ (.agg (cCl c)) H=some (.ret (.bool (z0 c)),H):=by
 have ld:Ad false 1 (.ptr H.length 0 4) (H++[Blk.cel 0 (cCl c)])=some (.int .u8 (c.s.toNat:Int)):=by simp only[Ad,As Ap,zXa];rfl
 have fin:∀q:Bool,rP H (.bool q) (H++[Blk.cel 0 (cCl c)])=some (.ret (.bool q),H):=λq=>FY rfl (by simp);have hb:((c.s.toNat:Int) == 0)=z0 c:=by
  unfold z0;by_cases h:c.s=0
  ·rw[h];rfl
  ·rw[zXd h,beq_eq_false_iff_ne];intro e;exact h (WF.1 (by simpa using e))
 unfold UaQ;simp only[GMw,Vmr,Ae,Vr,ld,hb,fin]
theorem VlA (l:List Cl):(FG l).filter kp=B1 l:=rfl
theorem Vp1 {l:List Cl}(hok:∀c∈l,c.ok):∀c∈l,∀d∈l,∀H,DI AL (.fn 146 []) [.agg (cCl c),.agg (cCl d)] H=some (.ret (.bool (BC ltC c d)),H):=λc hc d hd K=>by unfold AL;rw[Mi,VbC];exact Vli (hok c hc) (hok d hd) K
theorem VpW (c:Cl)(K:Aa):DI AF (.fn 148 []) [.agg (cCl c)] K=some (.ret (.bool (z0 c)),K):=by
 unfold AF
 first
  |rw[Mi,OZ];exact Rn c K
  |rw[Rz (by decide),Mi,OZ];exact Rn c K
theorem VoV (c:Cl)(K:Aa):DI Ba (.fn 148 []) [.agg (cCl c)] K=some (.ret (.bool (z0 c)),K):=by
 unfold Ba
 first
  |rw[Mi,OZ];exact Rn c K
  |rw[Rz (by decide),Mi,OZ];exact Rn c K
theorem Vi9 (H:Aa)(f1 f2 f3:Ab):Uaw (.sl [] .ti) H=some (.ret (.tup []),H)/\Ua5 (.sl [] .ti) f1 H=some (.ret (.tup []),H) /\
  Uah (.sl [] .ti) f2 H=some (.ret (.sl [] .no),H)/\Uai (.sl [] .no) f3 H=some (.ret (.sl [] .no),H):=by
 have hl:∀tk,A5 (.sl [] tk)=some (.i6 0):=λ_=>rfl;have w1:IntKind.i64.wrap (0-1) = -1:=rfl;have w2:IntKind.i64.wrap (0+1)=1:=rfl;have d1:decide ((0:Int) < -1)=false:=rfl;have d2:decide ((20:Int)<=0)=false:=rfl;have d3:decide ((1:Int)<0)=false:=rfl;have d4:decide ((20:Int)<0)=false:=rfl;have d5:decide ((0:Int)<2)=true:=rfl;have d6:decide ((0:Int)<0)=false:=rfl;have dY:Ue7 (.sl [] .ti) (.i6 0) (.i6 0) f1 H=some (.ret (.tup []),H):=by unfold Ue7;simp only[GMw,w2];rw[DT ES];unfold Ucb;simp only[Al,Aj,AZ,Bd,Bx,BI,GMw,d3]
 have hst:Ua4 (.sl [] .ti) (.i6 0) f1 H=some (.ret (.tup []),H):=by unfold Ua4;rw[DT ES];unfold UaV;simp only[Al,Aj,AZ,Bd,Bx,BI,D4,GMw,d2,dY];rw[DT ES];unfold Uag;simp only[Al,Aj,AZ,Bd,Bx,GMw,d4]
 have dD:Uey (.sl [] .no) f3 H=some (.ret (.i6 (-1)),H):=by unfold Uey;simp only[hl,GMw];rw[DT ES];unfold Ue6;simp only[Al,Aj,AZ,Bd,Bx,GMw,d6]
 refine⟨?_,?_,?_,?_⟩
 ·unfold Uaw;simp only[hl,GMw,w1];rw[DT ES];unfold UaS;simp only[Al,Aj,AZ,Bd,GMw,d1]
 ·unfold Ua5;simp only[hl,GMw,hst]
 ·unfold Uah;simp only[hl,GMw,d5,Ef,forget,Em,fgt]
 ·unfold Uai;have hb:((-1:Int) == -1)=true:=rfl;simp only[GMw,dD,hb,Ef,forget,Em,fgt]
theorem Vn9 (l:List Cl)(tk:Tok)(H:Aa)(hl:l.length<1000000000)(hok:∀c∈l,c.ok):Ucg (.sl (enL cCl l) tk) H=some (.ret (.sl (enL cCl (B1 l)) .no),H):=by
 have aG:=Vlk l tk H hl;unfold Ucg;by_cases h0:l=[]
 ·subst h0;rw[if_pos rfl]at aG;obtain⟨n1,n2,n3,n4⟩:=Vi9 H (.fn 144 []) (.fn 146 []) (.fn 148 []);have hl0:B1 ([]:List Cl)=[]:=rfl;simp only[GMw,aG,n1,n2,n3,n4,Oh,HU,zXb,hl0]
  rfl
 ·rw[if_neg h0]at aG;have hp:0<l.length:=Wd.2 h0;have r0:CX (H++[.buf 0 (flat cCl l) B9 5]) H.length 0 l:=by unfold CX;simp
  have nA:=Vfw r0 hp hl;have r1:CX (BJ (H++[.buf 0 (flat cCl l) B9 5]) H.length 0 l.reverse) H.length 0 l.reverse:=De r0;have xG:l.reverse.length=l.length:=List.length_reverse;obtain⟨S,s1,s2,s3,s4⟩:=Vn5 (f:=.fn 144 []) (l0:=l) (Vmh hok) (Vmg hok) r1 (λc hc=>List.mem_reverse.1 hc) (by omega);rw[xG,B4]at s4;rw[xG]at s3;have zV:∀c∈S,c∈l:=λc hc=>List.mem_reverse.1 ((s2.mem JQ).2 hc);have r2:CX (BJ (H++[.buf 0 (flat cCl l) B9 5]) H.length 0 S) H.length 0 S:=De r0;obtain⟨G,r,g1,g2,g3,g4⟩:=Vfy (f:=.fn 146 []) (Vp1 λc hc=>hok c (zV c hc)) r2 (by omega);have mJ:=Vmc s1 s2;rw[mJ,s3]at g1;rw[mJ]at g2;have hAl:(FG l).length<=l.length:=by rw[<-mJ,<-s3];exact Vmd _ _
  obtain⟨G2,r',k1,k2,k3,k4⟩:=Vio (f:=.fn 148 []) (cap:=l.length) (λc hc K=>VpW c K) (λc hc K=>VoV c K) g2 hAl hl;rw[VlA]at k1 k2;have hHl:(H++[Blk.buf 0 (flat cCl l) B9 5]).length=H.length+1:=by simp
  have hGl:G.length=H.length+1:=by rw[g4];unfold BJ;rw[zYa,hHl]
  have hold:∀i,i<H.length->G2[i]? = H[i]? := λi hi=>by rw[k3 i (by omega) (by omega),g3 i (by omega)];unfold BJ;rw[Vt (by omega),Vp hi]
  have dP:=ViV (d:=5) (cap:=l.length) (ex:=false) (RV k2) (Vo H.length);simp only[GMw,aG,nA,s4,g1,k1,GQ (CG hold)];rw[dP]
  rfl
theorem Vpn (r:RC)(hf:r.fits)(H:Aa):UbW (.agg (cRC r)) H=some (.ret (.bool (!r.right)),H):=by
 obtain⟨f1,f2,f3,f4⟩:=hf;have hb:B3 true 5 (.agg (cRC r)) H=some (.ptr H.length 0 0,H++[.cel 0 (cRC r)]):=BH rfl rfl;have e1:(H++[Blk.cel 0 (cRC r)])[H.length]? = some (.cel 0 (cRC r)):=Ap;have l1:Ad true 2 (.ptr H.length 0 0) (H++[Blk.cel 0 (cRC r)])=some (.agg [.bool r.n1,.sl (enL cU r.l1) .no]):=by simp only[Ad,As e1,zXa];rfl
 have l2:Ad true 2 (.ptr H.length 0 2) (H++[Blk.cel 0 (cRC r)])=some (.agg [.bool r.n2,.sl (enL cU r.l2) .no]):=by simp only[Ad,As e1,zXa];rfl
 have r1:=λK=>Sq r.n1 r.l1 .no K f3;have r2:=λK=>Sq r.n2 r.l2 .no K f4;have fin:∀q:Bool,rP H (.bool q) (H++[Blk.cel 0 (cRC r)])=some (.ret (.bool q),H):=λq=>FY rfl (by simp);unfold UbW RC.right;simp only[GMw,hb,Ae,Vr,l1,r1];cases Et r.n1 r.l1 with
 |false=>simp only[GMw,Wg,fin,Wh]
 |true=>simp only[GMw,VR,Ae,Vr,l2,r2,fin,zXn]
theorem Td (l:List RC)(tk:Tok)(H:Aa)(hl:l.length<1000000000)(hf:∀r∈l,r.fits) :
  UbX (.sl (enL cRC l) tk) (.fn 84 []) H=some (.ret (.bool (!l.all RC.right)),H):=by
 have cP:∀(r:RC),r∈l->∀K,DI AF (.fn 84 []) [.agg (cRC r)] K=some (.ret (.bool (!r.right)),K):=λr hr K=>by unfold AF;rw[Rz (by decide),Mi,OZ];exact Vpn r (hf r hr) K
 have key:∃k:Int,Uey (.sl (enL cRC l) tk) (.fn 84 []) H=some (.ret (.i6 k),H)/\decide (k>=0) = !l.all RC.right:=by
  unfold Uey;simp only[Ax,GMw];cases aF:l.all RC.right with
  |true=>
   refine⟨-1,?_,rfl⟩;refine CA (G:=λrec1 vs H1=>Ue6 H rec1 (ag vs 0) (ag vs 1) (ag vs 2) (ag vs 3) H1) l.length
    (λi=>[.sl (enL cRC l) tk,.fn 84 [],.i6 (l.length:Int),.i6 (i:Int)]) (λ_=>H) _ (by omega) (λrec i hi=>?_) (λrec=>?_)
   ·have d1:decide ((i:Int)<(l.length:Int))=true:=zXc (by omega);have hr:l[i].right=true:=V7.1 aF _ (Vz hi);have c1:=cP l[i] (Vz hi) H;have hld:Ad true 5 (.cptr (cRC l[i]) 0) H=some (.agg (cRC l[i])):=rfl;have bV:=Av (show i<9223372036854775807 by omega);rw[hr]at c1;unfold Ue6;simp only[Al,Aj,AZ,Bd,Bx,GMw,d1,Az hi,hld,c1,bV,VR]
   ·have d1:decide ((l.length:Int)<(l.length:Int))=false:=zXd (by omega);unfold Ue6;simp only[Al,Aj,AZ,Bd,Bx,GMw,d1]
  |false=>
   obtain⟨k,hk⟩:∃k,l.findIdx? (λr=>!r.right)=some k:=by
    cases hq:l.findIdx? (λr=>!r.right)with
    |some k=>exact⟨k,rfl⟩
    |none=>
     rw[XI]at hq;rw[Xd]at aF;obtain⟨r,hr,h⟩:=aF;have:=hq r hr;cases gZ:r.right with
     |true=>exact absurd gZ h
     |false=>rw[gZ]at this;simp at this
   rw[Xy]at hk;obtain⟨k1,k2,k3⟩:=hk;refine⟨k,?_,by simp⟩;have loop:=Br (G:=λrec1 vs H1=>Ue6 H rec1 (ag vs 0) (ag vs 1) (ag vs 2) (ag vs 3) H1) (σ:=Nat) (λi=>i<=k)
    (λi=>[.sl (enL cRC l) tk,.fn 84 [],.i6 (l.length:Int),.i6 (i:Int)]) (λ_=>H) (λi=>k-i) (λ_=>some (.ret (.i6 (k:Int)),H)) (λi rec hi hrec=>?_) 0 (VL _) (by omega)
   ·exact loop
   ·have hil:i<l.length:=by omega
    have d1:decide ((i:Int)<(l.length:Int))=true:=zXc (by omega);have c1:=cP l[i] (Vz hil) H;have hld:Ad true 5 (.cptr (cRC l[i]) 0) H=some (.agg (cRC l[i])):=rfl;have bV:=Av (show i<9223372036854775807 by omega);unfold Ue6;rcases VT i k with h | h
    ·have:=k3 i h;have hr:l[i].right=true:=by simpa using this
     rw[hr]at c1;simp only[Al,Aj,AZ,Bd,Bx,GMw,d1,Az hil,hld,c1,bV,VR];exact hrec (i+1) (by omega) (by omega)
    ·obtain rfl:i=k:=by omega
     have hr:(!l[i].right)=true:=k2;rw[hr]at c1;simp only[Al,Aj,AZ,Bd,Bx,GMw,d1,Az hil,hld,c1]
 obtain⟨k,e1,e2⟩:=key;unfold UbX;simp only[GMw,e1,e2]
theorem ViR (a b c:Nat):GG IS (.i6 (a:Int)) [.i6 (b:Int),.i6 (c:Int)]=some (.i6 ((max a (max b c):Nat):Int)):=by
 have m:∀x y:Nat,IS (.i6 (x:Int)) (.i6 (y:Int))=some (.i6 ((max x y:Nat):Int)):=λx y=>by
  unfold IS;by_cases h:(y:Int)>(x:Int)
  ·simp only[if_pos h];congr 2;omega
  ·simp only[if_neg h];congr 2;omega
 simp only[GG,m,zXa]
 congr 2;omega
def bxC (l:List Cl):Aa:=l.map λc=>Blk.cel 0 (cCl c)
theorem Vjt (l:List Cl)(c:Cl):bxC (l++[c])=bxC l++[.cel 0 (cCl c)]:=by simp[bxC]
theorem VpO (H:Aa)(c:Cl):Ai 5 (.ptr H.length 0 0) (.agg (cCl c)) (H++[.cel 0 [.bool false,.sl [] .ti,.bool false,.sl [] .ti,.int .u8 0]])=some (H++[.cel 0 (cCl c)]):=by rw[Pm (sz:=5) (ws:=cCl c) Ap rfl rfl rfl,Bt]
theorem ldX (H:Aa)(c:Cl):Ad true 2 (.ptr H.length 0 0) (H++[.cel 0 (cCl c)])=some (big c.x)/\Ad true 2 (.ptr H.length 0 2) (H++[.cel 0 (cCl c)])=some (big c.y)/\Ad false 1 (.ptr H.length 0 4) (H++[.cel 0 (cCl c)])=some (.int .u8 (c.s.toNat:Int)):=by refine⟨?_,?_,?_⟩ <;> (simp only[Ad,As Ap,zXa];rfl)
theorem Vf7 {l:List Cl}{tk:Tok}{H K:Aa}{x2 x14:Ab}{i:Nat}(hi:i<l.length)(hok:∀c∈l,c.ok)(hl:l.length<1000000000)(rec:LK) :
  Ua9 H rec x2 x14 (.i6 (Eh l i:Int)) (.sl (enL cCl l) tk) (.i6 (l.length:Int)) (.i6 (i:Int)) (K++bxC (l.take i))=rec [x2,x14,.i6 (Eh l (i+1):Int),.sl (enL cCl l) tk,.i6 (l.length:Int),.i6 ((i+1:Nat):Int)] (K++bxC (l.take (i+1))):=by
 have d1:decide ((i:Int)<(l.length:Int))=true:=zXc (by omega);have bV:=Av (show i<9223372036854775807 by omega);have hc:=hok _ (Vz hi);have hld:∀G,Ad true 5 (.cptr (cCl l[i]) 0) G=some (.agg (cCl l[i])):=λ_=>rfl;have hal:∀G:Aa,A3 (some [(.bool false),(.sl [] .ti),(.bool false),(.sl [] .ti),(.int .u8 0)]) G=some (.ptr G.length 0 0,G++[.cel 0 [.bool false,.sl [] .ti,.bool false,.sl [] .ti,.int .u8 0]]):=λG=>alloc_eq rfl;have n1:=λG=>VjJ (z:=l[i].x) G (hc.1.lb (by decide)) hc.1;have n2:=λG=>VjJ (z:=l[i].y) G (hc.2.lb (by decide)) hc.2;have hn:Eh l (i+1)=max (Eh l i) (max (Ot l[i].x) (Ot l[i].y)):=by simp only[Eh,Vl hi,QA]
 have hbx:K++bxC (l.take (i+1))=(K++bxC (l.take i))++[.cel 0 (cCl l[i])]:=by rw[Vw hi,Vjt,Vu]
 obtain⟨l1,l2,l3⟩:=ldX (K++bxC (l.take i)) l[i];have sZ:=ViR (Eh l i) (Ot l[i].x) (Ot l[i].y);unfold Ot at sZ hn;rw[hbx,hn];generalize K++bxC (l.take i)=G at *;have b5:=VpO G l[i];unfold Ua9;simp only[GMw,d1,Az hi,hld,hal,b5,AJ,Ae,Vr,l1,l2,n1,n2,sZ,bV,Bm,and_self,Ht]
set_option exponentiation.threshold 5000
theorem VdZ (p:Sp):AD (some [(.sl [] .ti),(.sl [] .ti),(.int .u8 0)]) [(0,1,.sl (enL cU (A4 p.a)) .no),(1,1,.sl (enL cU (A4 p.b)) .no),(2,1,.int .u8 (p.s.toNat:Int))]=some (.agg (cSp p)):=by simp[AD,GH,Dx,cSp]
theorem VlP (z:Int):Qd false 1 1 (big z)=some (.sl (enL cU (A4 z.natAbs)) .no):=rfl
theorem Ve4 {L:List Cl}{tk:Tok}{H Hc:Aa}{x50 x51 w:Ab}{b ph i n:Nat}(hi:i<L.length)(hok:∀c∈L,c.ok)(hl:L.length<1000000000)(hn:n<=1400)(dI:∀c∈L,0<=c.x+2^n/\0<=c.y+2^n)
  (hb:b<=Hc.length)(hR:RS cSp BN 3 b ((L.take i).map (spot (2^n))) w Hc)(hp:Hc[ph]? = some (.cel 0 (AA (2^n)))) :
  ∃w' Hd,(∀rec:LK,Ubh H rec x50 x51 (.ptr ph 0 0) w (.sl (enL cCl L) tk) (.i6 (L.length:Int)) (.i6 (i:Int)) Hc=rec [x50,x51,.ptr ph 0 0,w',.sl (enL cCl L) tk,.i6 (L.length:Int),.i6 ((i+1:Nat):Int)] Hd) /\
   RS cSp BN 3 b ((L.take (i+1)).map (spot (2^n))) w' Hd/\Kp b Hc Hd:=by
 have d1:decide ((i:Int)<(L.length:Int))=true:=zXc (by omega);have bV:=Av (show i<9223372036854775807 by omega);have hc:=hok _ (Vz hi);have hz:=dI _ (Vz hi);have hld:∀G,Ad true 5 (.cptr (cCl L[i]) 0) G=some (.agg (cCl L[i])):=λ_=>rfl;have hal:∀G:Aa,A3 (some [(.bool false),(.sl [] .ti),(.bool false),(.sl [] .ti),(.int .u8 0)]) G=some (.ptr G.length 0 0,G++[.cel 0 [.bool false,.sl [] .ti,.bool false,.sl [] .ti,.int .u8 0]]):=λG=>alloc_eq rfl;have pS:SB 44 (2^n):=Hi hn;have a1:=λG=>Vck (a:=L[i].x) (b:=2^n) G (hc.1.lb (by decide)) (pS.lb (by decide));have a2:=λG=>Vck (a:=L[i].y) (b:=2^n) G (hc.2.lb (by decide)) (pS.lb (by decide));obtain⟨l1,l2,l3⟩:=ldX Hc L[i];have lh:Ad true 2 (.ptr ph 0 0) (Hc++[.cel 0 (cCl L[i])])=some (big (2^n)):=BV (AK hp);have b5:=VpO Hc L[i];have hR1:=hR.left [Blk.cel 0 (cCl L[i])];obtain⟨w',H2,r1,r2,r3⟩:=hR1.snoc (bytes:=56) (by simp;omega) (spot (2^n) L[i]) .ti (by simp;omega) (by simp;omega);have mM:AD (some [(.sl [] .ti),(.sl [] .ti),(.int .u8 0)]) [(0,1,.sl (enL cU (A4 (L[i].x+2^n).natAbs)) .no),(1,1,.sl (enL cU (A4 (L[i].y+2^n).natAbs)) .no),(2,1,.int .u8 (L[i].s.toNat:Int))]=some (.agg (cSp (spot (2^n) L[i]))):=by
  have e1:(L[i].x+2^n).natAbs=(spot (2^n) L[i]).a:=by unfold spot;dsimp only;omega
  have e2:(L[i].y+2^n).natAbs=(spot (2^n) L[i]).b:=by unfold spot;dsimp only;omega
  rw[e1,e2];exact VdZ _
 have uR:(L.take (i+1)).map (spot (2^n))=(L.take i).map (spot (2^n))++[spot (2^n) L[i]]:=by rw[Vw hi,List.map_append];rfl
 rw[uR];refine⟨w',H2,λrec=>?_,r2,(Kp.app hb _).trans r3⟩;unfold Ubh;simp only[GMw,d1,Az hi,hld,hal,b5,AJ,Ae,Vr,l1,l2,l3,lh,a1,a2,VlP,mM,M1,r1,bV,Bm,and_self,Ht]
theorem Vfz (l:List RC)(tk:Tok)(H:Aa)(hl:l.length<700000000)(hf:∀r∈l,r.fits)(hs:∀r∈l,r.right=true->r.cl.ok) :
  Ubi (.sl (enL cRC l) tk) H=some (.ret (if l.all RC.right then .tup [Gn (HA (l.map RC.cl)).1,.i6 (HA (l.map RC.cl)).2]else .tup [Gn [],.i6 1]),H):=by
 have oR:=λK=>Td l tk K (by omega) hf;have hal:A3 (some [(.sl [] .ti)]) H=some (.ptr H.length 0 0,H++[.cel 0 [.sl [] .ti]]):=alloc_eq rfl;unfold Ubi;simp only[GMw,hal,oR];cases hr:l.all RC.right with
 |false=>simp only[GMw,Wg,VhJ,Vq,if_false]
 |true=>
  have gZ:∀r∈l,r.right=true:=V7.1 hr;have aG:∀c∈l.map RC.cl,c.ok:=λc hc=>by obtain⟨r,h1,rfl⟩:=WM.1 hc;exact hs r h1 (gZ r h1)
  rw[Vob gZ hf];generalize hL:l.map RC.cl=L at aG;have hLl:L.length<700000000:=by rw[<-hL];simpa using hl
  have xK:=λK=>Vn9 L tk K (by omega) aG;simp only[GMw,VR,xK,Ax,VaQ,if_true];have lQ:∀c∈B1 L,c.ok:=λc hc=>aG c (UG hc);have hsl:=UH L;generalize B1 L=S at lQ hsl;refine Eq.trans ?hd (CA (G:=λrec1 vs H1=>Ua9 H rec1 (ag vs 0) (ag vs 1) (ag vs 2) (ag vs 3) (ag vs 4) (ag vs 5) H1) S.length
   (λi=>[.ptr H.length 0 0,.sl (enL cCl S) .no,.i6 (Eh S i:Int),.sl (enL cCl S) .no,.i6 (S.length:Int),.i6 (i:Int)]) (λi=>H++[.cel 0 [.sl [] .ti]]++bxC (S.take i))
   (some (.ret (.tup [Gn (Su S).1,.i6 (Su S).2]),H)) (by omega) (λrec i hi=>?_) (λrec=>?_))
  case hd=>
   have e0:H++[Blk.cel 0 [.sl [] .ti]]++bxC (S.take 0)=H++[Blk.cel 0 [.sl [] .ti]]:=by simp[bxC]
   rw[e0]
   rfl
  ·exact Vf7 hi lQ (by omega) rec
  ·have aN:=Vaj S;have d1:decide ((S.length:Int)<(S.length:Int))=false:=zXd (by omega);have Zw:1<=Eh S S.length:=by rw[P5];omega
   rw[Wc];unfold Su;by_cases hv:1329<Eh S S.length
   ·have aU:decide ((Eh S S.length:Int)>1329)=true:=zXc (by omega);rw[if_pos (by omega)];have vY:AD (some [(.sl [] .ti)]) []=some (.agg [.sl (enL cNd []) .ti]):=rfl;have qt:=MJ (H:=H) (Hq:=H++[.cel 0 [.sl [] .ti]]++bxC S) (tk:=.ti) (Q:=[]) (e:=4) (by rw[Vu];simp) (λi hi=>by rw[Vu,Vp hi]);unfold Ua9;simp only[Al,Aj,AZ,Bd,Bx,BI,D4,GMw,d1,aU,vY];exact qt
   ·have aU:decide ((Eh S S.length:Int)>1329)=false:=zXd (by omega);have hle:A8 S<=1329:=by omega
    have qJ:A8 S=Eh S S.length:=by omega
    rw[if_neg (by omega)];have kG:∀c∈S,M9 (A8 S) (-(2^(A8 S-1))) (-(2^(A8 S-1))) c:=λc hc=>MD (by omega) (O0 hle c hc);rw[qJ]at kG;rw[qJ];obtain⟨n,hn⟩:∃n,Eh S S.length=n+1:=⟨Eh S S.length-1,by omega⟩;rw[hn,VH]at kG ⊢;have dI:∀c∈S,0<=c.x+2^n/\0<=c.y+2^n:=λc hc=>by obtain⟨q1,q2,q3,q4⟩:=kG c hc;generalize (2:Int)^n=P at *;omega
    have xH:=UF (h:=2^n) (n+1) [] (-(2^n)) (-(2^n)) S 0 0 0 0 (by simp;omega) (by simp;omega) rfl rfl kG;have sE:IntKind.i64.wrap (((n+1:Nat):Int)-1)=(n:Int):=by rw[An] <;> omega
    have dS:=λG=>Vpm (m:=n) (by omega) G;have s1:∀B:Aa,Ai 2 (.ptr B.length 0 0) (big (2^n)) (B++[.cel 0 [.bool false,.sl [] .ti]])=some (B++[.cel 0 (AA (2^n))]):=λB=>by rw[Ct (Ap (B:=B)) rfl,Bt]
    obtain⟨B,hB⟩:∃B,B=H++[.cel 0 [.sl [] .ti]]++bxC S:=⟨_,rfl⟩;have hBH:B[H.length]? = some (.cel 0 [.sl [] .ti]):=by rw[hB,Vu];simp
    have hBo:∀i,i<H.length->B[i]? = H[i]? := λi hi=>by rw[hB,Vu,Vp hi]
    have hBl:H.length<B.length:=(Vn.1 hBH).1;rw[<-hB];have loop:=Gq (G:=λaA vs H1=>Ubh H aA (ag vs 0) (ag vs 1) (ag vs 2) (ag vs 3) (ag vs 4) (ag vs 5) (ag vs 6) H1) S.length
     (λi vs Hc=>∃w,vs=[.ptr H.length 0 0,.i6 ((n+1:Nat):Int),.ptr B.length 0 0,w,.sl (enL cCl S) .no,.i6 (S.length:Int),.i6 (i:Int)]/\RS cSp BN 3 B.length ((S.take i).map (spot (2^n))) w Hc/\Kp B.length (B++[.cel 0 (AA (2^n))]) Hc)
     (by omega) (λi vs Hc hi hI=>?_) (vs:=[.ptr H.length 0 0,.i6 ((n+1:Nat):Int),.ptr B.length 0 0,.sl [] .ti,.sl (enL cCl S) .no,.i6 (S.length:Int),.i6 0]) (H:=B++[.cel 0 (AA (2^n))])
     ⟨_,rfl,.inl ⟨rfl,rfl⟩,Kp.refl _ _⟩
    ·obtain⟨vs,Hc,⟨w,rfl,hR,hK⟩,aA,aB⟩:=loop;rw[Wc]at hR;obtain⟨tk2,rfl⟩:=hR.sl;have hKl:=hK.len;rw[Vs,zXi]at hKl;have hHc:Hc[H.length]? = some (.cel 0 [.sl [] .ti]):=hK.cel _ _ (AK hBH);have hHo:∀i,i<H.length->Hc[i]? = H[i]? := λi hi=>by rw[hK.old i (by omega),Vp (by omega)];exact hBo i hi
     have hbx:B3 true 1 (.agg [.sl [] .ti]) Hc=some (.ptr Hc.length 0 0,Hc++[.cel 0 [.sl [] .ti]]):=BH rfl rfl;have vY:AD (some [(.sl [] .ti)]) []=some (.agg [.sl [] .ti]):=rfl;have gJ:S.length*(n+1)<=700000000*1329:=XC (by omega) (by omega);have tR:∀p∈S.map (spot (2^n)),VoU p:=λp hp=>by obtain⟨c,hc,rfl⟩:=WM.1 hp;obtain⟨q1,q2,q3,q4⟩:=kG c hc;have uA:(2:Int)^(n+1)=((2^(n+1):Nat):Int):=VmK _;rw[uA]at q2 q4;have sK:2^(n+1)<=2^(32*44):=VO (by decide) (by omega);rw[<-Veh]at sK;exact⟨VM (EP (k:=44) (by unfold spot;dsimp only;omega)) (by decide),VM (EP (k:=44) (by unfold spot;dsimp only;omega)) (by decide)⟩
     obtain⟨Hq,w',p1,p2,p3,p4⟩:=VjZ (b:=H.length) (pb:=Hc.length) (by omega) (n+1) AP (by rw[DB];omega) (by omega) (by omega) [] (.sl [] .ti) (S.map (spot (2^n))) tk2 (Hc++[.cel 0 [.sl [] .ti]]) Ap (.inl ⟨rfl,rfl⟩) (by simp;omega) tR (by simp;omega) (by simp only[zXk,W7];omega);rw[xH]at p1 p3;have dT:=VM (VfN (n+1) [] (S.map (spot (2^n)))) (Nat.add_le_add_left (by rw[W7];exact gJ) _);rw[xH]at dT;simp only[zXk]at dT;generalize Bv (n+1) [] (-(2^n)) (-(2^n)) S=P at p1 p3 dT;obtain⟨Q,r⟩:=P;dsimp only at p1 p3 dT ⊢;obtain⟨tk3,rfl⟩:=p3.sl;have zL:=λG=>Voo Q tk3 (r:Int) G (by omega);have lY:Hq[H.length]? = some (.cel 0 [.sl [] .ti]):=p4.cel _ _ (by omega) (AK hHc);have pM:∀i,i<H.length->Hq[i]? = H[i]? := λi hi=>by rw[p4.old i hi,Vp (by omega)];exact hHo i hi
     have uY:Ad false 1 (.ptr Hc.length 0 0) Hq=some (.sl (enL cNd Q) tk3):=by rw[Cu p2];rfl
     unfold Ua9;simp only[Al,Aj,AZ,Bd,Bx,BI,D4,GMw,d1,hn,show decide (((n+1:Nat):Int)>1329)=false from by rw[<-hn];exact aU,sE,dS,Dp,s1,AJ,Ax];rw[aB];unfold Ubh;simp only[Al,Aj,AZ,Bd,Bx,BI,D4,GMw,d1,vY,hbx,p1,Vf6,Ae,Vr,uY,zL];cases VjP Q (r:Int)with
     |false=>simp only[GMw,Ce,Cg,Gn,Bp,Vq,if_false];exact MJ lY pM
     |true=>simp only[GMw,Ce,Cg,Gn,Bp,zXl,if_true];exact MJ lY pM
    ·obtain⟨w,rfl,hR,hK⟩:=hI;have hKl:=hK.len;rw[Vs,zXi]at hKl;obtain⟨w',Hd,t1,t2,t3⟩:=Ve4 (H:=H) (x50:=.ptr H.length 0 0) (x51:=.i6 ((n+1:Nat):Int)) (tk:=.no) hi lQ (by omega) (by omega) dI (by omega) hR (hK.cel _ _ Ap);exact⟨_,Hd,⟨w',rfl,t2,hK.trans t3⟩,t1⟩
section
variable {p:Nat}{H:Aa}
theorem VjX {cs:List Ab}{o:Nat}(h:H[p]? = some (.cel 0 cs))(ho:o+2<=cs.length):Ad true 2 (.ptr p 0 o) H=some (.agg ((cs.drop o).take 2)):=by simp only[Ad,As h,zXa,if_true];rw[if_pos ho]
theorem Ve2 {cs:List Ab}{o:Nat}{z:Int}(h:H[p]? = some (.cel 0 cs))(ho:o+2<=cs.length):Ai 2 (.ptr p 0 o) (big z) H=some (H.set p (.cel 0 (Dx cs o 2 (AA z)))):=by simp only[Ai,As h,zXa,To,B6 h];rw[if_pos ⟨rfl,ho⟩]
theorem Vm4 {z:Int}{x y:Ab}(h:[x,y]=AA z):Ab.agg [x,y]=big z:=by rw[h];rfl
theorem Vh6 {z:Int}(h:z.natAbs<10^400):SB 100 z:=by
 have h2:(10:Nat)^400<4294967296^100:=by decide +kernel
 unfold SB;omega
theorem S8 {z:Int}(h:z.natAbs<10^400):LB z:=(Vh6 h).lb (by decide)
theorem VjY {n:Nat}(h:n<=1152921504606846976):LB (n:Int):=by
 have h2:1152921504606846976<(10:Nat)^400:=by decide +kernel
 exact S8 (by omega)

end
end Go.Gm
